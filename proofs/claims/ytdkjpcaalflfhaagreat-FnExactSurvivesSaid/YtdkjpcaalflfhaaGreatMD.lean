/- Lemmas, plain functions of the program, and what they answer. No condition. -/
import Derived.Test.YtdkjpcaalflfhaaGreatMC
namespace Go.Proofs.YtdkjpcaalflfhaaGreat
set_option linter.unusedVariables false
set_option linter.unusedSimpArgs false
open Go Go.VL
def EX (fx:List bE)(e4:List bP)(cH:List Int)(iz:List ev)(af:Int)(gF:List Int)(eW:List (List Int))(gp fg bF dG:Int)(ah aD:List Int):(Int×(List Int))→S:=fun (gq,ax)=>dl [(0,.d7 2 [[.isl 4 (fx.map bI),.isl 3 (e4.map bS)]] 0 0),(1,.isl 1 (cH.map eI)),(8,.ref 0 0 0 0),(10,.isl 2 (iz.map gj)),(11,.ref 1 0 0 0),(12,.n .i64 af),(13,.isl 1 (gF.map eI)),(46,.isl 1 (eW.map (en 1 eI))),(47,.n .i64 gp),(48,.n .i64 af),(53,.isl 2 (iz.map gj)),(54,.n .i64 fg),(55,.n .i64 gq)] [[ad.mk 5 [[.n .i64 (0:Int),.n .i64 (0:Int),.ei,.ei,.ei]] .live],[ad.mk 5 [(ys bF dG 2 0 0 ax.length 3 0 0 ah.length 4 0 0 aD.length)] .live],(ae 1 eI ax),(ae 1 eI ah),(ae 1 eI aD)]
def E2 (fx:List bE)(e4:List bP)(cH:List Int)(iz:List ev)(af:Int)(gF:List Int)(eW:List (List Int))(gp fg bF dG:Int)(ah aD:List Int):(List Int)→dq
 | a=>⟨some 2,[(0,.d7 2 [[.isl 4 (fx.map bI),.isl 3 (e4.map bS)]] 0 0),(1,.isl 1 (cH.map eI)),(8,.ref 0 0 0 0),(10,.isl 2 (iz.map gj)),(11,.ref 1 0 0 0),(46,.isl 1 (eW.map (en 1 eI))),(47,.n .i64 gp),(48,.n .i64 af)],[[ad.mk 5 [[.n .i64 (0:Int),.n .i64 (0:Int),.ei,.ei,.ei]] .live],[ad.mk 5 [(ys bF dG 2 0 0 a.length 3 0 0 ah.length 4 0 0 aD.length)] .live],(ae 1 eI a),(ae 1 eI ah),(ae 1 eI aD)]⟩
def vz (fx:List bE)(e4:List bP)(cH:List Int)(iz:List ev)(af:Int)(gF:List Int)(eW:List (List Int))(gp fg bF dG:Int)(ah aD:List Int)(gq:Int)(ax:List Int):Option ((Int×(List Int))⊕((List Int))) :=
 if (decide (gq<fg))=true then
  if 0≤gq∧gq<iz.length then
  iz[gq.toNat]? >>= fun aE =>
  if 0≤aE.mB∧aE.mB<gF.length then
  gF[aE.mB.toNat]? >>= fun cn =>
  if 0≤(J ((J (af*dG))+gq))∧(J ((J (af*dG))+gq))<(ax.length:Nat) then
  if (0+(J ((J (af*dG))+gq)).toNat)<ax.length then
  some (.inl (J (gq+(1:Int)),ax.set (0+(J ((J (af*dG))+gq)).toNat) (J (aE.pW*cn))))
  else none
  else none
  else none
  else none
 else
  some (.inr ax)
def Fc (fx:List bE)(e4:List bP)(cH:List Int)(iz:List ev)(af:Int)(gF:List Int)(eW:List (List Int))(gp fg bF dG:Int)(ah aD:List Int)(gq:Int)(ax:List Int):Option ((List Int)):=iter (fun w:Int×(List Int)=>vz fx e4 cH iz af gF eW gp fg bF dG ah aD w.1 w.2) (gq,ax)
theorem Sw {fx:List bE}{e4:List bP}{cH:List Int}{iz:List ev}{af:Int}{gF:List Int}{eW:List (List Int)}{gp fg bF dG:Int}{ah aD:List Int}{gq:Int}{ax:List Int}:bx (vz fx e4 cH iz af gF eW gp fg bF dG ah aD gq ax) (dP a7 113 0 35 [1,1,1,1,0,1,0,0,1,1,0,0,1,1,0,0] (EX fx e4 cH iz af gF eW gp fg bF dG ah aD (gq,ax)) (EX fx e4 cH iz af gF eW gp fg bF dG ah aD) (E2 fx e4 cH iz af gF eW gp fg bF dG ah aD)):=by
 unfold vz
 exact .ite (fun h1 =>
  .aY fun h2 =>
  .ar fun aE au =>
  .aY fun aA =>
  .ar fun cn bb =>
  .aY fun bi =>
  .aY fun cj =>
  .ret (let q1:=J ((J (af*dG))+gq);let q2:=J (aE.pW*cn);bf [(I 1),.U true,.ay (bq 2 (.b2 (gj aE)) 3),.ay (ai 14 (al (.b2 (eI cn)) (ai 2 (al .fM [])))),(I 2),.aN [0,1,2,3,4] [.box [.id,.id,.id,.id,.id],.box [.id,.id,.len ((ax.set (0+q1.toNat) q2).length),.id,.id],.cu (ae 1 eI (ax.set (0+q1.toNat) q2)),.pure,.pure] (a6 [0,1,8,10,11,12,13,46,47,48,53,54,55])] (.bg h1 h2.1 (cO gj h2.2) (bU gj au) aA.1 (cO eI aA.2) (bU eI bb) bi.1 (.gJ bi.2 (hz eI cj) (ht 1) (hP (dF ax) (0+q1.toNat) q2) (cU 1 .live (gD (cR eI ax) (0+q1.toNat) q2)) (aF 1 .live aO (ax.set (0+q1.toNat) q2)) (aF 1 .live aO ah) (aF 1 .live aO aD)))))
  (fun h1 =>
  .ret (bf [(I 1),.U false,.aN [0,1,2,3,4] [.box [.id,.id,.id,.id,.id],.box [.id,.id,.id,.id,.id],.pure,.pure,.pure] (a6 [0,1,8,10,11,46,47,48])] (.c5 h1 (aF 1 .live aO ax) (aF 1 .live aO ah) (aF 1 .live aO aD))))
theorem SJ {fx:List bE}{e4:List bP}{cH:List Int}{iz:List ev}{af:Int}{gF:List Int}{eW:List (List Int)}{gp fg bF dG:Int}{ah aD:List Int}{gq:Int}{ax:List Int}{r} (h:Fc fx e4 cH iz af gF eW gp fg bF dG ah aD gq ax=some r):dQ a7 113 0 35 [1,1,1,1,0,1,0,0,1,1,0,0,1,1,0,0] (EX fx e4 cH iz af gF eW gp fg bF dG ah aD) (E2 fx e4 cH iz af gF eW gp fg bF dG ah aD) (gq,ax) r:=dR (fun _=>Sw) h
def EY (fx:List bE)(e4:List bP)(cH:List Int)(iz:List ev)(eW:List (List Int))(gp bF dG:Int)(ah aD:List Int):(Int×(List Int))→S:=fun (ns,ax)=>dl [(0,.d7 2 [[.isl 4 (fx.map bI),.isl 3 (e4.map bS)]] 0 0),(1,.isl 1 (cH.map eI)),(8,.ref 0 0 0 0),(10,.isl 2 (iz.map gj)),(11,.ref 1 0 0 0),(46,.isl 1 (eW.map (en 1 eI))),(47,.n .i64 gp),(48,.n .i64 ns)] [[ad.mk 5 [[.n .i64 (0:Int),.n .i64 (0:Int),.ei,.ei,.ei]] .live],[ad.mk 5 [(ys bF dG 2 0 0 ax.length 3 0 0 ah.length 4 0 0 aD.length)] .live],(ae 1 eI ax),(ae 1 eI ah),(ae 1 eI aD)]
def E3 (fx:List bE)(e4:List bP)(cH:List Int)(iz:List ev)(eW:List (List Int))(gp bF dG:Int)(ah aD:List Int):(List Int)→dq
 | a=>⟨some 0,[(0,.d7 2 [[.isl 4 (fx.map bI),.isl 3 (e4.map bS)]] 0 0),(1,.isl 1 (cH.map eI)),(8,.ref 0 0 0 0),(11,.ref 1 0 0 0)],[[ad.mk 5 [[.n .i64 (0:Int),.n .i64 (0:Int),.ei,.ei,.ei]] .live],[ad.mk 5 [(ys bF dG 2 0 0 a.length 3 0 0 ah.length 4 0 0 aD.length)] .live],(ae 1 eI a),(ae 1 eI ah),(ae 1 eI aD)]⟩
def vA (fx:List bE)(e4:List bP)(cH:List Int)(iz:List ev)(eW:List (List Int))(gp bF dG:Int)(ah aD:List Int)(ns:Int)(ax:List Int):Option ((Int×(List Int))⊕((List Int))) :=
 if (decide (ns<gp))=true then
  if 0≤ns∧ns<eW.length then
  eW[ns.toNat]? >>= fun aE =>
  Fc fx e4 cH iz ns aE eW gp (len_ gj iz) bF dG ah aD 0 ax >>= fun aK =>
  some (.inl (J (ns+(1:Int)),aK))
  else none
 else
  some (.inr ax)
def Fe (fx:List bE)(e4:List bP)(cH:List Int)(iz:List ev)(eW:List (List Int))(gp bF dG:Int)(ah aD:List Int)(ns:Int)(ax:List Int):Option ((List Int)):=iter (fun w:Int×(List Int)=>vA fx e4 cH iz eW gp bF dG ah aD w.1 w.2) (ns,ax)
theorem Sx {fx:List bE}{e4:List bP}{cH:List Int}{iz:List ev}{eW:List (List Int)}{gp bF dG:Int}{ah aD:List Int}{ns:Int}{ax:List Int}:bx (vA fx e4 cH iz eW gp bF dG ah aD ns ax) (dP a7 113 0 35 [1,1,1,1,0,1,0,0] (EY fx e4 cH iz eW gp bF dG ah aD (ns,ax)) (EY fx e4 cH iz eW gp bF dG ah aD) (E3 fx e4 cH iz eW gp bF dG ah aD)):=by
 unfold vA
 exact .ite (fun h1 =>
  .aY fun h2 =>
  .ar fun aE au =>
  .ar fun aK aX =>
  .ret (bf [(I 1),.U true,.ay (bq 2 (.b2 ((en 1 eI) aE)) 2),(I 3),.aN [0,1,2,3,4] [.box [.id,.id,.id,.id,.id],.box [.id,.id,.id,.id,.id],.pure,.pure,.pure] (a6 [0,1,8,10,11,12,13,46,47,48,53,54,55]),(E2 fx e4 cH iz ns aE eW gp (len_ gj iz) bF dG ah aD aK).e8,(I 2),.aN [0,1,2,3,4] [.box [.id,.id,.id,.id,.id],.box [.id,.id,.id,.id,.id],.pure,.pure,.pure] (a6 [0,1,8,10,11,46,47,48])] (.bg h1 h2.1 (cO (en 1 eI) h2.2) (bU (en 1 eI) au) (aF 1 .live aO ax) (aF 1 .live aO ah) (aF 1 .live aO aD) (SJ aX) (.bO (aF 1 .live aO aK) (aF 1 .live aO ah) (aF 1 .live aO aD)))))
  (fun h1 =>
  .ret (bf [(I 1),.U false,.aN [0,1,2,3,4] [.box [.id,.id,.id,.id,.id],.box [.id,.id,.id,.id,.id],.pure,.pure,.pure] (a6 [0,1,8,11])] (.c5 h1 (aF 1 .live aO ax) (aF 1 .live aO ah) (aF 1 .live aO aD))))
theorem SK {fx:List bE}{e4:List bP}{cH:List Int}{iz:List ev}{eW:List (List Int)}{gp bF dG:Int}{ah aD:List Int}{ns:Int}{ax:List Int}{r} (h:Fe fx e4 cH iz eW gp bF dG ah aD ns ax=some r):dQ a7 113 0 35 [1,1,1,1,0,1,0,0] (EY fx e4 cH iz eW gp bF dG ah aD) (E3 fx e4 cH iz eW gp bF dG ah aD) (ns,ax) r:=dR (fun _=>Sx) h
def EZ (cH nY:List Int)(oB bF dG:Int)(ax aD:List Int):(Int×(List Int))→S:=fun (kQ,ah)=>dl [(1,.isl 1 (cH.map eI)),(8,.ref 0 0 0 0),(11,.ref 1 0 0 0),(80,.isl 1 (nY.map eI)),(81,.n .i64 oB),(82,.n .i64 kQ)] [[ad.mk 5 [[.n .i64 (0:Int),.n .i64 (0:Int),.ei,.ei,.ei]] .live],[ad.mk 5 [(ys bF dG 2 0 0 ax.length 3 0 0 ah.length 4 0 0 aD.length)] .live],(ae 1 eI ax),(ae 1 eI ah),(ae 1 eI aD)]
def E4 (cH nY:List Int)(oB bF dG:Int)(ax aD:List Int):(List Int)→dq
 | a=>⟨some 4,[(8,.ref 0 0 0 0),(11,.ref 1 0 0 0)],[[ad.mk 5 [[.n .i64 (0:Int),.n .i64 (0:Int),.ei,.ei,.ei]] .live],[ad.mk 5 [(ys bF dG 2 0 0 ax.length 3 0 0 a.length 4 0 0 aD.length)] .live],(ae 1 eI ax),(ae 1 eI a),(ae 1 eI aD)]⟩
def vB (cH nY:List Int)(oB bF dG:Int)(ax aD:List Int)(kQ:Int)(ah:List Int):Option ((Int×(List Int))⊕((List Int))) :=
 if (decide (kQ<oB))=true then
  if 0≤kQ∧kQ<nY.length then
  nY[kQ.toNat]? >>= fun aE =>
  if 0≤(J ((2:Int)*aE))∧(J ((2:Int)*aE))<cH.length then
  cH[(J ((2:Int)*aE)).toNat]? >>= fun cn =>
  if 0≤(J ((J ((2:Int)*aE))+(1:Int)))∧(J ((J ((2:Int)*aE))+(1:Int)))<cH.length then
  cH[(J ((J ((2:Int)*aE))+(1:Int))).toNat]? >>= fun ep =>
  if 0≤(J ((2:Int)*kQ))∧(J ((2:Int)*kQ))<(ah.length:Nat) then
  if (0+(J ((2:Int)*kQ)).toNat)<ah.length then
  if 0≤(J ((J ((2:Int)*kQ))+(1:Int)))∧(J ((J ((2:Int)*kQ))+(1:Int)))<(ah.length:Nat) then
  if (0+(J ((J ((2:Int)*kQ))+(1:Int))).toNat)<(ah.set (0+(J ((2:Int)*kQ)).toNat) (J (0-cn))).length then
  some (.inl (J (kQ+(1:Int)),(ah.set (0+(J ((2:Int)*kQ)).toNat) (J (0-cn))).set (0+(J ((J ((2:Int)*kQ))+(1:Int))).toNat) (J (0-ep))))
  else none
  else none
  else none
  else none
  else none
  else none
  else none
 else
  some (.inr ah)
def Ff (cH nY:List Int)(oB bF dG:Int)(ax aD:List Int)(kQ:Int)(ah:List Int):Option ((List Int)):=iter (fun w:Int×(List Int)=>vB cH nY oB bF dG ax aD w.1 w.2) (kQ,ah)
theorem Sy {cH nY:List Int}{oB bF dG:Int}{ax aD:List Int}{kQ:Int}{ah:List Int}:bx (vB cH nY oB bF dG ax aD kQ ah) (dP a7 113 0 35 [1,1,1,1,1,0,1,0,0] (EZ cH nY oB bF dG ax aD (kQ,ah)) (EZ cH nY oB bF dG ax aD) (E4 cH nY oB bF dG ax aD)):=by
 unfold vB
 exact .ite (fun h1 =>
  .aY fun h2 =>
  .ar fun aE au =>
  .aY fun aA =>
  .ar fun cn bb =>
  .aY fun bi =>
  .ar fun ep cM =>
  .aY fun e6 =>
  .aY fun eR =>
  .aY fun el =>
  .aY fun ew =>
  .ret (let q1:=(J ((2:Int)*kQ));let q2:=(J (q1+(1:Int)));let bK:=J (0-cn);let bW:=J (0-ep);bf [(I 1),.U true,.ay (bq 2 (.b2 (eI aE)) 2),.ay (ai 13 (al (.b2 (eI cn)) (ai 6 (al (.b2 (eI ep)) (ai 2 (al .fM (ai 1 (al .fM [])))))))),(I 2),.aN [0,1,2,3,4] [.box [.id,.id,.id,.id,.id],.box [.id,.id,.id,.len (((ah.set (0+q1.toNat) bK).set (0+q2.toNat) bW).length),.id],.pure,.cu (ae 1 eI ((ah.set (0+q1.toNat) bK).set (0+q2.toNat) bW)),.pure] (a6 [1,8,11,80,81,82])] (.bg h1 h2.1 (cO eI h2.2) (bU eI au) aA.1 (cO eI aA.2) (bU eI bb) bi.1 (.bg (cO eI bi.2) (bU eI cM) e6.1 e6.2 (hz eI eR) (ht 1) el.1 el.2 (.eE (aaT (gD (cR eI ah) (0+q1.toNat) bK) ew) (ht 1) (hP (hP (dF ah) (0+q1.toNat) bK) (0+q2.toNat) bW) (aF 1 .live aO ax) (cU 1 .live (gD (gD (cR eI ah) (0+q1.toNat) bK) (0+q2.toNat) bW)) (aF 1 .live aO ((ah.set (0+q1.toNat) bK).set (0+q2.toNat) bW)) (aF 1 .live aO aD))))))
  (fun h1 =>
  .ret (bf [(I 1),.U false,.aN [0,1,2,3,4] [.box [.id,.id,.id,.id,.id],.box [.id,.id,.id,.id,.id],.pure,.pure,.pure] (a6 [8,11])] (.c5 h1 (aF 1 .live aO ax) (aF 1 .live aO ah) (aF 1 .live aO aD))))
theorem SL {cH nY:List Int}{oB bF dG:Int}{ax aD:List Int}{kQ:Int}{ah:List Int}{r} (h:Ff cH nY oB bF dG ax aD kQ ah=some r):dQ a7 113 0 35 [1,1,1,1,1,0,1,0,0] (EZ cH nY oB bF dG ax aD) (E4 cH nY oB bF dG ax aD) (kQ,ah) r:=dR (fun _=>Sy) h
def yO (aJ:cI)(cH:List Int)(nl nP:Int):Option hk :=
 yP aJ >>= fun r1 =>
 yT aJ >>= fun bd =>
 if 0≤(J ((J ((len_ (en 1 eI) r1)+nP))*(J ((len_ gj bd)+nl))))∧(8:Int)*(J ((J ((len_ (en 1 eI) r1)+nP))*(J ((len_ gj bd)+nl))))≤281474976710656∧(J ((J ((len_ (en 1 eI) r1)+nP))*(J ((len_ gj bd)+nl))))<9223372036854775808 then
 if 0≤(J ((len_ (en 1 eI) r1)+nP))∧(8:Int)*(J ((len_ (en 1 eI) r1)+nP))≤281474976710656∧(J ((len_ (en 1 eI) r1)+nP))<9223372036854775808 then
 if 0≤(J ((len_ gj bd)+nl))∧(8:Int)*(J ((len_ gj bd)+nl))≤281474976710656∧(J ((len_ gj bd)+nl))<9223372036854775808 then
 Fe aJ.bZ aJ.bG cH bd r1 (len_ (en 1 eI) r1) (J ((len_ (en 1 eI) r1)+nP)) (J ((len_ gj bd)+nl)) (List.replicate (J ((len_ (en 1 eI) r1)+nP)).toNat 0:List Int) (List.replicate (J ((len_ gj bd)+nl)).toNat 0:List Int) 0 (List.replicate (J ((J ((len_ (en 1 eI) r1)+nP))*(J ((len_ gj bd)+nl)))).toNat 0:List Int) >>= fun cZ =>
 vQ aJ >>= fun ec =>
 Ff cH ec (len_ eI ec) (J ((len_ (en 1 eI) r1)+nP)) (J ((len_ gj bd)+nl)) cZ (List.replicate (J ((len_ gj bd)+nl)).toNat 0:List Int) 0 (List.replicate (J ((len_ (en 1 eI) r1)+nP)).toNat 0:List Int) >>= fun d8 =>
 some (⟨J ((len_ (en 1 eI) r1)+nP),J ((len_ gj bd)+nl),cZ,d8,(List.replicate (J ((len_ gj bd)+nl)).toNat 0:List Int)⟩:hk)
 else none
 else none
 else none
theorem S1 {aJ:cI}{cH:List Int}{nl nP:Int}:bx (yO aJ cH nl nP) (fun r=>Con a7 35 [.d7 2 [(hf aJ)] 0 0,.isl 1 (cH.map eI),.n .i64 nl,.n .i64 nP] [] (.agg (nR r)) []):=by
 unfold yO
 exact .ar fun r1 h2 =>
  .ar fun bd au =>
  .aY fun aA =>
  .aY fun aX =>
  .aY fun bb =>
  .ar fun cZ cj =>
  .ar fun ec e6 =>
  .ar fun d8 el =>
  .ret (let q1:=J ((len_ (en 1 eI) r1)+nP);let q2:=J ((len_ gj bd)+nl);let bK:=(List.replicate q2.toNat 0:List Int);let bW:=(List.replicate q1.toNat 0:List Int);let d5:=J (q1*q2);let cD:=(List.replicate d5.toNat 0:List Int);bs [(I 1),.ay (ai 1 (al (bp 1 (.isl 1 (r1.map (en 1 eI))) false) (bq 1 (bp 1 (.isl 2 (bd.map gj)) false) 2))),(I 11),(I 18),(I 3),.aN [0,16,23,26,29] [.box [.id,.id,.id,.id,.id],.box [.id,.id,.len (cD.length),.len (bW.length),.len (bK.length)],.cu (ae 1 eI cD),.cu (ae 1 eI bW),.cu (ae 1 eI bK)] (a6 [0,1,8,10,11,46,47,48]),(E3 aJ.bZ aJ.bG cH bd r1 (len_ (en 1 eI) r1) q1 q2 bW bK cZ).e8,.ay (bq 1 (bp 1 (.isl 1 (ec.map eI)) false) 2),.aN [0,1,2,3,4] [.box [.id,.id,.id,.id,.id],.box [.id,.id,.id,.id,.id],.pure,.pure,.pure] (a6 [1,8,11,80,81,82]),(E4 cH ec (len_ eI ec) q1 q2 cZ bK d8).e8,(I 2)] (.bg (S2 r1 h2) (TB bd au) aA.1 (Int.le_refl d5) aA.2.1 aA.2.2 aX.1 (Int.le_refl q1) (.bg aX.2.1 aX.2.2 bb.1 (Int.le_refl q2) bb.2.1 bb.2.2 (lW d5.toNat (0:Int)) (lW q1.toNat (0:Int)) (.bg (lW q2.toNat (0:Int)) (cU 1 .live (lC eI d5.toNat 0)) (aF 1 .live aO cD) (cU 1 .live (lC eI q1.toNat 0)) (aF 1 .live aO bW) (cU 1 .live (lC eI q2.toNat 0)) (aF 1 .live aO bK) (SK cj) (.bg (Mh ec e6) (aF 1 .live aO cZ) (aF 1 .live aO bW) (aF 1 .live aO bK) (SL el) (ga eI cZ) (fF eI cZ) (du aO cZ) (.dU (ga eI d8) (fF eI d8) (du aO d8) (ga eI bK) (fF eI bK) (du aO bK)))))) (.br (.agg [.id,.id,.ek (cZ.map eI),.ek (d8.map eI),.ek (bK.map eI)])))
def GS:(Int×(List Int))→S:=fun (aW,aa)=>dl [(0,.n .u64 aW),(3,.bk 0 0 0 aa.length)] [(ae 1 eI aa)]
def Hq:(List Int)→dq
 | a=>⟨some 0,[(3,.bk 0 0 0 a.length)],[(ae 1 eI a)]⟩
def wu (aW:Int)(aa:List Int):Option ((Int×(List Int))⊕((List Int))) :=
 if (decide ((0:Int)<aW))=true then
  if (aa++([IntKind.wrap .i64 (aW.tmod (1000000000:Int))]:List Int)).length*8≤140737488355328 then
  some (.inl (IntKind.wrap .u64 (aW.tdiv (1000000000:Int)),aa++([IntKind.wrap .i64 (aW.tmod (1000000000:Int))]:List Int)))
  else none
 else
  some (.inr aa)
def ID (aW:Int)(aa:List Int):Option ((List Int)):=iter (fun w:Int×(List Int)=>wu w.1 w.2) (aW,aa)
theorem TZ {aW:Int}{aa:List Int}:bx (wu aW aa) (dP a7 15 0 85 [1,1,0,0,0] (GS (aW,aa)) (GS) (Hq)):=by
 unfold wu
 exact .ite (fun h1 =>
  .aY fun h2 =>
  .ret (let q1:=(aa++([(IntKind.wrap .i64 (aW.tmod (1000000000:Int)))]:List Int));bf [(I 2),.U true,.ay (bq 5 (.aG (q1.length)) 1),(I 3),.aN [8] [.cu (ae 1 eI q1)] (a6 [0,3])] (.bg h1 (by decide:(1000000000:Int)≠0) (gx eI (IntKind.wrap .i64 (aW.tmod (1000000000:Int)))) (gV eI aa) (gy eI aa (IntKind.wrap .i64 (aW.tmod (1000000000:Int)))) h2 (by decide:(1000000000:Int)≠0) (cU 1 .live (ha eI aa (IntKind.wrap .i64 (aW.tmod (1000000000:Int))))) (.e1 (aF 1 .live aO q1)))))
  (fun h1 =>
  .ret (bf [(I 2),.U false,.aN [0] [.pure] (a6 [3])] (.e2 h1 (aF 1 .live aO aa))))
theorem Vv {aW:Int}{aa:List Int}{r} (h:ID aW aa=some r):dQ a7 15 0 85 [1,1,0,0,0] (GS) (Hq) (aW,aa) r:=dR (fun _=>TZ) h
def uc (aW:Int):Option (List Int) :=
 ID aW ([]:List Int) >>= fun r1 =>
 some r1
theorem IE {aW:Int}:bx (uc aW) (fun r=>Con a7 85 [.n .u64 aW] [] (.isl 1 (r.map eI)) []):=by
 unfold uc
 exact .ar fun r1 h2 =>
  .ret (bs [(I 1),(I 1),.s7 3 1,.aN [2] [.cu (ae 1 eI ([]:List Int))] [(0,ii),(3,fV (([]:List Int).length))],(Hq r1).e8,(I 2)] (.eE (cU 1 .live (nk eI)) (aF 1 .live aO ([]:List Int)) (eY Int) (Vv h2) (ga eI r1) (fF eI r1) (du aO r1)) (.br (.dh (.ek (r1.map eI)))))
def mY (nW:Bool)(xV:List Int):Option bm :=
 if nW=true then
  some (⟨(decide ((0:Int)<(len_ eI xV))),xV⟩:bm)
 else
  some (⟨false,xV⟩:bm)
theorem sH {nW:Bool}{xV:List Int}:bx (mY nW xV) (fun r=>Con a7 84 [.b nW,.isl 1 (xV.map eI)] [] (.agg (aU r)) []):=by
 unfold mY
 exact .ite (fun h1 =>
  .ret (bs [(I 1),.ay (bq 5 (.U true) 3)] (.c5 h1 h1 h1 h1)))
  (fun h1 =>
  .ret (bs [(I 1),.ay (ai 2 (ck 3 (al (.U false) (ai 3 []))))] (.c5 h1 h1 h1 h1)))
def oe (aW:Int):Option bm :=
 if (decide (aW<(0:Int)))=true then
  uc (IntKind.wrap .u64 ((IntKind.wrap .u64 (J (0-(J (aW+(1:Int))))))+(1:Int))) >>= fun r2 =>
  mY true r2 >>= fun bh =>
  some bh
 else
  uc (IntKind.wrap .u64 aW) >>= fun r2 =>
  mY false r2 >>= fun bh =>
  some bh
theorem rG {aW:Int}:bx (oe aW) (fun r=>Con a7 61 [.n .i64 aW] [] (.agg (aU r)) []):=by
 unfold oe
 exact .ite (fun h1 =>
  .ar fun r2 ab =>
  .ar fun bh aA =>
  .ret (bs [(I 1),(I 2),.U true,.ay (ai 5 (al (bp 1 (.isl 1 (r2.map eI)) false) (al (bp 2 (.agg (aU bh)) false) (ai 1 []))))] (.bO h1 (IE r2 ab) (sH bh aA))))
  (fun h1 =>
  .ar fun r2 ab =>
  .ar fun bh aA =>
  .ret (bs [(I 1),(I 2),.U false,.ay (ai 2 (al (bp 1 (.isl 1 (r2.map eI)) false) (al (bp 2 (.agg (aU bh)) false) (ai 1 []))))] (.bO h1 (IE r2 ab) (sH bh aA))))
def wX (b8:hk)(af:Int):Option (List Int) :=
 if 0≤(J (af*b8.d6)) then
 if 0≤(J ((J (af+(1:Int)))*b8.d6)) then
 if (J (af*b8.d6)).toNat≤(J ((J (af+(1:Int)))*b8.d6)).toNat∧(J ((J (af+(1:Int)))*b8.d6)).toNat≤b8.dE.length then
 some ((b8.dE.drop ((J (af*b8.d6)).toNat)).take ((J ((J (af+(1:Int)))*b8.d6)).toNat-(J (af*b8.d6)).toNat))
 else none
 else none
 else none
theorem MG {b8:hk}{af:Int}:bx (wX b8 af) (fun r=>Con a7 62 [.d7 5 [(nR b8)] 0 0,.n .i64 af] [] (.isl 1 (r.map eI)) []):=by
 unfold wX
 exact .aY fun h1 =>
  .aY fun h2 =>
  .aY fun ab =>
  .ret (let q1:=J (af*b8.d6);let q2:=(J ((J (af+(1:Int)))*b8.d6));bs [(I 1),(I 19)] (.dg h1 h2 ab.1 (rf (cR eI b8.dE) ab.2) (congrArg (az.isl 1) (og (cR eI b8.dE) (q1.toNat) (q2.toNat-q1.toNat)):(.isl 1 (((b8.dE.map eI).drop (q1.toNat)).take (q2.toNat-q1.toNat)):az) = .isl 1 (((b8.dE.drop (q1.toNat)).take (q2.toNat-q1.toNat)).map eI))) (.br (.dh (.cu (.isl 1 (((b8.dE.drop (q1.toNat)).take (q2.toNat-q1.toNat)).map eI))))))
def H4:(List Int)→S:=fun ag=>dl [(0,.isl 1 (ag.map eI))] []
def Ir:(List Int)→dq
 | a=>⟨some 0,[(0,.isl 1 (a.map eI))],[]⟩
def wT (ag:List Int):Option (((List Int))⊕((List Int))) :=
 if (decide ((0:Int)<(len_ eI ag)))=true then
  if 0≤(J ((len_ eI ag)-(1:Int)))∧(J ((len_ eI ag)-(1:Int)))<ag.length then
  ag[(J ((len_ eI ag)-(1:Int))).toNat]? >>= fun aE =>
  if (aE == (0:Int))=true then
   if 0≤(J ((len_ eI ag)-(1:Int))) then
   if 0≤(J ((len_ eI ag)-(1:Int))).toNat∧(J ((len_ eI ag)-(1:Int))).toNat≤ag.length then
   some (.inl ((ag.drop 0).take ((J ((len_ eI ag)-(1:Int))).toNat-0)))
   else none
   else none
  else
   some (.inr ag)
  else none
 else
  some (.inr ag)
def Jb (ag:List Int):Option ((List Int)):=iter (fun w:(List Int)=>wT w) ag
theorem US {ag:List Int}:bx (wT ag) (dP a7 21 0 126 [1,0,0,0] (H4 ag) (H4) (Ir)):=by
 unfold wT
 exact .ite (fun h1 =>
  .aY fun h2 =>
  .ar fun aE au =>
  (let t1:List bY:=[.ay (ai 9 (al (.b2 (eI aE)) (ai 1 (al (.U true) []))))];
  have aS:=((.bg h1 h1 h1 h1 h1 h2.1 (cO eI h2.2) h1 (.bO (bU eI au) h1 h1)):cp _);
  .ite (fun aA =>
  .aY fun aX =>
  .aY fun bb =>
  .ret (let q1:=(J ((len_ eI ag)-(1:Int)));bf (t1.append [.U true,(I 6),.aN [] [] [(0,.br (.dh (.cu (.isl 1 (((ag.drop 0).take (q1.toNat-0)).map eI)))))]]) (aS.aG (.dg aA aX bb.1 (rf (cR eI ag) bb.2) (congrArg (az.isl 1) (og (cR eI ag) 0 (q1.toNat-0)):(.isl 1 (((ag.map eI).drop 0).take (q1.toNat-0)):az) = .isl 1 (((ag.drop 0).take (q1.toNat-0)).map eI))))))
  (fun aA =>
  .ret (bf (t1.append [.U false,.aN [] [] (a6 [0])]) (aS.aG (.e1 aA))))))
  (fun h1 =>
  .ret (bf [.ay (ai 4 (ck 7 (al (.U false) []))),.U false,.aN [] [] (a6 [0])] (.bg h1 h1 h1 h1 h1 h1 h1 h1 (.e1 cL))))
theorem Wx {ag:List Int}{r} (h:Jb ag=some r):dQ a7 21 0 126 [1,0,0,0] (H4) (Ir) ag r:=dR (fun _=>US) h
def pL (ag:List Int):Option (List Int) :=
 Jb ag >>= fun r1 =>
 some r1
theorem ud {ag:List Int}:bx (pL ag) (fun r=>Con a7 126 [.isl 1 (ag.map eI)] [] (.isl 1 (r.map eI)) []):=by
 unfold pL
 exact .ar fun r1 h2 =>
  .ret (bs [(I 1),.aN [] [] (a6 [0]),(Ir r1).e8,(I 2)] (.e1 (Wx h2)))
def HS (aB:List Int)(af aW:Int)(c8:List Int)(c9 gX:Int):(Int×Int×(List Int))→S:=fun (cY,da,aa)=>dl [(1,.isl 1 (aB.map eI)),(5,.bk 0 0 0 aa.length),(6,.n .i64 af),(7,.n .i64 aW),(8,.n .i64 cY),(26,.isl 1 (c8.map eI)),(27,.n .i64 c9),(28,.n .i64 af),(33,.isl 1 (aB.map eI)),(34,.n .i64 gX),(35,.n .i64 da)] [(ae 1 eI aa)]
def H5 (aB:List Int)(af aW:Int)(c8:List Int)(c9 gX:Int):(Int×(List Int))→dq
 | a=>⟨some 2,[(1,.isl 1 (aB.map eI)),(5,.bk 0 0 0 a.2.length),(6,.n .i64 af),(8,.n .i64 a.1),(26,.isl 1 (c8.map eI)),(27,.n .i64 c9),(28,.n .i64 af)],[(ae 1 eI a.2)]⟩
def HT (aB:List Int)(af aW:Int)(c8:List Int)(c9 gX cY da:Int)(aa:List Int):Option ((Int×Int×(List Int))⊕(Int×(List Int))) :=
 if (decide (da<gX))=true then
  if 0≤da∧da<aB.length then
  aB[da.toNat]? >>= fun aE =>
  if 0≤(J (af+da))∧(J (af+da))<(aa.length:Nat) then
  aa[(0+(J (af+da)).toNat)]? >>= fun cn =>
  if (0+(J (af+da)).toNat)<aa.length then
  some (.inl (J ((J ((J (cn+(J (aW*aE))))+cY)).tdiv (1000000000:Int)),J (da+(1:Int)),aa.set (0+(J (af+da)).toNat) ((J ((J (cn+(J (aW*aE))))+cY)).tmod (1000000000:Int))))
  else none
  else none
  else none
 else
  some (.inr (cY,aa))
def Nv (aB:List Int)(af aW:Int)(c8:List Int)(c9 gX cY da:Int)(aa:List Int):Option (Int×(List Int)):=iter (fun w:Int×Int×(List Int)=>HT aB af aW c8 c9 gX w.1 w.2.1 w.2.2) (cY,da,aa)
theorem UO {aB:List Int}{af aW:Int}{c8:List Int}{c9 gX cY da:Int}{aa:List Int}:bx (HT aB af aW c8 c9 gX cY da aa) (dP a7 72 0 120 [1,1,1,0,1,0,0,1,1,0,0,1,1,0,1,0,0] (HS aB af aW c8 c9 gX (cY,da,aa)) (HS aB af aW c8 c9 gX) (H5 aB af aW c8 c9 gX)):=by
 unfold HT
 exact .ite (fun h1 =>
  .aY fun h2 =>
  .ar fun aE au =>
  .aY fun aA =>
  .ar fun cn bb =>
  .aY fun bi =>
  .ret (let q1:=J ((J (cn+(J (aW*aE))))+cY);let q2:=J (af+da);bf [(I 1),.U true,.ay (bq 2 (.b2 (eI aE)) 2),.ay (bq 5 (.b2 (eI cn)) 7),.ay (bq 9 .fM 1),(I 2),.aN [0] [.cu (ae 1 eI (aa.set (0+q2.toNat) (q1.tmod (1000000000:Int))))] [(1,ii),(5,fV ((aa.set (0+q2.toNat) (q1.tmod (1000000000:Int))).length)),(6,ii),(7,ii),(8,ii),(26,ii),(27,ii),(28,ii),(33,ii),(34,ii),(35,ii)]] (.bg h1 h2.1 (cO eI h2.2) (bU eI au) aA.1 aA.2 (bU eI bb) (by decide:(1000000000:Int)≠0) (.gJ (by decide:(1000000000:Int)≠0) aA.1 aA.2 (hz eI bi) (ht 1) (cU 1 .live (gD (cR eI aa) (0+q2.toNat) (q1.tmod (1000000000:Int)))) (aF 1 .live aO (aa.set (0+q2.toNat) (q1.tmod (1000000000:Int)))) (hP (dF aa) (0+q2.toNat) (q1.tmod (1000000000:Int)))))))
  (fun h1 =>
  .ret (bf [(I 1),.U false,.aN [0] [.pure] (a6 [1,5,6,8,26,27,28])] (.e2 h1 (aF 1 .live aO aa))))
theorem Wb {aB:List Int}{af aW:Int}{c8:List Int}{c9 gX cY da:Int}{aa:List Int}{r} (h:Nv aB af aW c8 c9 gX cY da aa=some r):dQ a7 72 0 120 [1,1,1,0,1,0,0,1,1,0,0,1,1,0,1,0,0] (HS aB af aW c8 c9 gX) (H5 aB af aW c8 c9 gX) (cY,da,aa) r:=dR (fun _=>UO) h
def HU (aB c8:List Int)(c9:Int):(Int×(List Int))→S:=fun (fs,aa)=>dl [(1,.isl 1 (aB.map eI)),(5,.bk 0 0 0 aa.length),(26,.isl 1 (c8.map eI)),(27,.n .i64 c9),(28,.n .i64 fs)] [(ae 1 eI aa)]
def H6 (aB c8:List Int)(c9:Int):(List Int)→dq
 | a=>⟨some 0,[(5,.bk 0 0 0 a.length)],[(ae 1 eI a)]⟩
def HV (aB c8:List Int)(c9 fs:Int)(aa:List Int):Option ((Int×(List Int))⊕((List Int))) :=
 if (decide (fs<c9))=true then
  if 0≤fs∧fs<c8.length then
  c8[fs.toNat]? >>= fun aE =>
  Nv aB fs aE c8 c9 (len_ eI aB) 0 0 aa >>= fun aK =>
  if 0≤(J (fs+(len_ eI aB)))∧(J (fs+(len_ eI aB)))<(aK.2.length:Nat) then
  if (0+(J (fs+(len_ eI aB))).toNat)<aK.2.length then
  some (.inl (J (fs+(1:Int)),aK.2.set (0+(J (fs+(len_ eI aB))).toNat) aK.1))
  else none
  else none
  else none
 else
  some (.inr aa)
def I8 (aB c8:List Int)(c9 fs:Int)(aa:List Int):Option ((List Int)):=iter (fun w:Int×(List Int)=>HV aB c8 c9 w.1 w.2) (fs,aa)
theorem UP {aB c8:List Int}{c9 fs:Int}{aa:List Int}:bx (HV aB c8 c9 fs aa) (dP a7 72 0 120 [1,1,1,0,1,0,0] (HU aB c8 c9 (fs,aa)) (HU aB c8 c9) (H6 aB c8 c9)):=by
 unfold HV
 exact .ite (fun h1 =>
  .aY fun h2 =>
  .ar fun aE au =>
  .ar fun aK aX =>
  .aY fun bb =>
  .aY fun bi =>
  .ret (let q1:=J (fs+(len_ eI aB));bf [(I 1),.U true,.ay (bq 2 (.b2 (eI aE)) 2),(I 1),(I 3),.aN [0] [.pure] (a6 [1,5,6,7,8,26,27,28,33,34,35]),(H5 aB fs aE c8 c9 (len_ eI aB) aK).e8,.ay (ai 7 (al .fM [])),(I 2),.aN [0] [.cu (ae 1 eI (aK.2.set (0+q1.toNat) aK.1))] [(1,ii),(5,fV ((aK.2.set (0+q1.toNat) aK.1).length)),(26,ii),(27,ii),(28,ii)]] (.bg h1 h2.1 (cO eI h2.2) (bU eI au) (aF 1 .live aO aa) (Wb aX) bb.1 bb.2 (.dg (hz eI bi) (ht 1) (cU 1 .live (gD (cR eI aK.2) (0+q1.toNat) aK.1)) (aF 1 .live aO (aK.2.set (0+q1.toNat) aK.1)) (hP (dF aK.2) (0+q1.toNat) aK.1)))))
  (fun h1 =>
  .ret (bf [(I 1),.U false,.aN [0] [.pure] (a6 [5])] (.e2 h1 (aF 1 .live aO aa))))
theorem Wc {aB c8:List Int}{c9 fs:Int}{aa:List Int}{r} (h:I8 aB c8 c9 fs aa=some r):dQ a7 72 0 120 [1,1,1,0,1,0,0] (HU aB c8 c9) (H6 aB c8 c9) (fs,aa) r:=dR (fun _=>UP) h
def zZ (ag aB:List Int):Option (List Int) :=
 if ((len_ eI ag) == (0:Int))=true then
  some ([]:List Int)
 else
  if ((len_ eI aB) == (0:Int))=true then
   some ([]:List Int)
  else
   if 0≤(J ((len_ eI ag)+(len_ eI aB)))∧(8:Int)*(J ((len_ eI ag)+(len_ eI aB)))≤281474976710656∧(J ((len_ eI ag)+(len_ eI aB)))<9223372036854775808 then
   I8 aB ag (len_ eI ag) 0 (List.replicate (J ((len_ eI ag)+(len_ eI aB))).toNat 0:List Int) >>= fun bh =>
   pL bh >>= fun cc =>
   some cc
   else none
theorem W4 {ag aB:List Int}:bx (zZ ag aB) (fun r=>Con a7 120 [.isl 1 (ag.map eI),.isl 1 (aB.map eI)] [] (.isl 1 (r.map eI)) []):=by
 unfold zZ
 exact .ite (fun h1 =>
  .ret (bs [(I 1),.ay (ai 4 (ck 3 (al (.U true) []))),.U true,(I 1)] (.dg h1 h1 h1 h1 cv) (.br (.dh (.jE 1)))))
  (fun h1 =>
  (let t1:List bY:=[(I 1),.ay (ai 7 (al (.U false) []))];
  .ite (fun h2 =>
  .ret (bs (t1.append [.U true,(I 1)]) (.dg h1 h1 h1 h1 h2) (.br (.dh (.jE 1)))))
  (fun h2 =>
  .aY fun ab =>
  .ar fun bh aA =>
  .ar fun cc bb =>
  .ret (let q1:=J ((len_ eI ag)+(len_ eI aB));let q2:=(List.replicate q1.toNat 0:List Int);bs (t1.append [.U false,(I 7),(I 3),.aN [14] [.cu (ae 1 eI q2)] [(1,ii),(5,fV (q2.length)),(26,ii),(27,ii),(28,ii)],(H6 aB ag (len_ eI ag) bh).e8,.iK 0,.ay (bq 1 (.call {ac:=[.br (.dh (.ek (bh.map eI)))],r:= .isl 1 (cc.map eI),fz:=false,fH:=[0]}) 1)]) (.bg h1 h1 h1 h1 h2 ab.1 (Int.le_refl q1) ab.2.1 (.bg ab.2.2 (cU 1 .live (lC eI q1.toNat 0)) (aF 1 .live aO q2) (lW q1.toNat (0:Int)) (Wc aA) (ga eI bh) (fF eI bh) (du aO bh) (.e1 (ud cc bb))))))))
def o8 (c3 et:bm):Option bm :=
 zZ c3.cw et.cw >>= fun r1 =>
 mY (!(c3.cJ == et.cJ)) r1 >>= fun bd =>
 some bd
theorem wv {c3 et:bm}:bx (o8 c3 et) (fun r=>Con a7 103 [.agg (aU c3),.agg (aU et)] [] (.agg (aU r)) []):=by
 unfold o8
 exact .ar fun r1 h2 =>
  .ar fun bd au =>
  .ret (bs [(I 3),.ay (ai 9 (al (bp 2 (.isl 1 (r1.map eI)) false) (al (bp 2 (.agg (aU bd)) false) (ai 1 []))))] (.e2 (W4 r1 h2) (sH bd au)))
def oR (c3:bm):Option Int :=
 if ((len_ eI c3.cw) == (0:Int))=true then
  some 0
 else
  if c3.cJ=true then
   some (-1)
  else
   some 1
theorem sE {c3:bm}:bx (oR c3) (fun r=>Con a7 64 [.agg (aU c3)] [] (.n .i64 r) []):=by
 unfold oR
 exact .ite (fun h1 =>
  .ret (bs [(I 2),(I 5),.U true,(I 1)] (.e1 h1)))
  (fun h1 =>
  (let t1:List bY:=[(I 2),(I 5),.U false,(I 3)];
  .ite (fun h2 =>
  .ret (bs (t1.append [.U true,(I 1)]) (.e2 h1 h2)))
  (fun h2 =>
  .ret (bs (t1.append [.U false,(I 1)]) (.e2 h1 h2)))))
def rB (c3:bm):Option bm :=
 mY (!c3.cJ) c3.cw >>= fun r1 =>
 some r1
theorem F5 {c3:bm}:bx (rB c3) (fun r=>Con a7 107 [.agg (aU c3)] [] (.agg (aU r)) []):=by
 unfold rB
 exact .ar fun r1 h2 =>
  .ret (bs [(I 2),.ay (bq 5 (bp 2 (.agg (aU r1)) false) 1)] (.e1 (sH r1 h2)))
def GU (ag aB:List Int):Int→S:=fun af=>dl [(0,.isl 1 (ag.map eI)),(1,.isl 1 (aB.map eI)),(5,.n .i64 af)] []
def MH (ag aB:List Int):((Unit)⊕(Int))→dq
 | .inl a=>⟨some 0,[],[]⟩
 | .inr a=>⟨none,[(4,.n .i64 a)],[]⟩
def GV (ag aB:List Int)(af:Int):Option ((Int)⊕((Unit)⊕(Int))) :=
 if (decide ((0:Int)≤af))=true then
  if 0≤af∧af<ag.length then
  ag[af.toNat]? >>= fun aE =>
  if 0≤af∧af<aB.length then
  aB[af.toNat]? >>= fun cn =>
  if (decide (aE<cn))=true then
   some (.inr (.inr (-1)))
  else
   if (decide (cn<aE))=true then
    some (.inr (.inr 1))
   else
    some (.inl (J (af-(1:Int))))
  else none
  else none
 else
  some (.inr (.inl ()))
def M8 (ag aB:List Int)(af:Int):Option ((Unit)⊕(Int)):=iter (fun w:Int=>GV ag aB w) af
theorem T0 {ag aB:List Int}{af:Int}:bx (GV ag aB af) (dP a7 43 0 122 [1,1,0,1,0,0] (GU ag aB af) (GU ag aB) (MH ag aB)):=by
 unfold GV
 exact .ite (fun h1 =>
  .aY fun h2 =>
  .ar fun aE au =>
  .aY fun aA =>
  .ar fun cn bb =>
  (let t1:List bY:=[(I 2),.U true,.ay (ai 3 (al (.b2 (eI aE)) (bq 3 (.b2 (eI cn)) 2)))];
  have aS:=((.eE h1 h2.1 (cO eI h2.2) (bU eI au) aA.1 (cO eI aA.2) (bU eI bb)):cp _);
  .ite (fun bi =>
  .ret (bf (t1.append [.U true,(I 1),.aN [] [] (a6 [4])]) (aS.aG (.e1 bi))))
  (fun bi =>
  (let t3:List bY:=t1.append [.U false,.ay (ai 3 (al (.b2 (eI aE)) (bq 3 (.b2 (eI cn)) 2)))];
  have eO:=aS.aG (.eE bi h2.1 (cO eI h2.2) (bU eI au) aA.1 (cO eI aA.2) (bU eI bb));
  .ite (fun cj =>
  .ret (bf (t3.append [.U true,(I 1),.aN [] [] (a6 [4])]) (eO.aG (.e1 cj))))
  (fun cj =>
  .ret (bf (t3.append [.U false,(I 3),.aN [] [] (a6 [0,1,5])]) (eO.aG (.e1 cj))))))))
  (fun h1 =>
  .ret (bf [(I 2),.U false,.aN [] [] []] (.e1 h1)))
theorem MP {ag aB:List Int}{af:Int}{r} (h:M8 ag aB af=some r):dQ a7 43 0 122 [1,1,0,1,0,0] (GU ag aB) (MH ag aB) af r:=dR (fun _=>T0) h
def qf (ag aB:List Int):Option Int :=
 if ((len_ eI ag) != (len_ eI aB))=true then
  if (decide ((len_ eI ag)<(len_ eI aB)))=true then
   some (-1)
  else
   some 1
 else
  M8 ag aB (J ((len_ eI ag)-(1:Int))) >>= fun r2 =>
  match r2 with
  | .inl fK=>(some 0)
  | .inr fK=>(some fK)
theorem CK {ag aB:List Int}:bx (qf ag aB) (fun r=>Con a7 122 [.isl 1 (ag.map eI),.isl 1 (aB.map eI)] [] (.n .i64 r) []):=by
 unfold qf
 exact .ite (fun h1 =>
  (let t1:List bY:=[(I 1),(I 5),.U true,(I 5)];
  .ite (fun h2 =>
  .ret (bs (t1.append [.U true,(I 1)]) (.e2 h1 h2)))
  (fun h2 =>
  .ret (bs (t1.append [.U false,(I 1)]) (.e2 h1 h2)))))
  (fun h1 =>
  .ar fun r2 ab =>
  (let t1:List bY:=[(I 1),(I 5),.U false,(I 4),.aN [] [] (a6 [0,1,5])];
  (by
  rcases r2 with fK|fK
  ·exact (.ret (bs (t1.append [.sub (.exit 0) [] [],(I 1)]) (.e2 h1 (MP ab))))
  ·exact (.ret (bs (t1.append [.sub (.ret) [(4,.n .i64 fK)] []]) (.e2 h1 (MP ab)))))))
def H7 (ag aB:List Int)(gA:Int):(Int×Int×(List Int))→S:=fun (cY,gk,aa)=>dl [(0,.isl 1 (ag.map eI)),(1,.isl 1 (aB.map eI)),(5,.bk 0 0 0 aa.length),(6,.n .i64 cY),(20,.isl 1 (ag.map eI)),(21,.n .i64 gA),(22,.n .i64 gk)] [(ae 1 eI aa)]
def CH (ag aB:List Int)(gA:Int):(Int×(List Int))→dq
 | a=>⟨some 0,[(0,.isl 1 (ag.map eI)),(5,.bk 0 0 0 a.2.length),(6,.n .i64 a.1)],[(ae 1 eI a.2)]⟩
def wU (ag aB:List Int)(gA cY gk:Int)(aa:List Int):Option ((Int×Int×(List Int))⊕(Int×(List Int))) :=
 if (decide (gk<gA))=true then
  if 0≤gk∧gk<ag.length then
  ag[gk.toNat]? >>= fun aE =>
  if (decide (gk<(len_ eI aB)))=true then
   if 0≤gk∧gk<aB.length then
   aB[gk.toNat]? >>= fun fi =>
   if 0≤gk∧gk<(aa.length:Nat) then
   if (0+gk.toNat)<aa.length then
   some (.inl (J ((J ((J (aE+cY))+fi)).tdiv (1000000000:Int)),J (gk+(1:Int)),aa.set (0+gk.toNat) ((J ((J (aE+cY))+fi)).tmod (1000000000:Int))))
   else none
   else none
   else none
  else
   if 0≤gk∧gk<(aa.length:Nat) then
   if (0+gk.toNat)<aa.length then
   some (.inl (J ((J (aE+cY)).tdiv (1000000000:Int)),J (gk+(1:Int)),aa.set (0+gk.toNat) ((J (aE+cY)).tmod (1000000000:Int))))
   else none
   else none
  else none
 else
  some (.inr (cY,aa))
def zG (ag aB:List Int)(gA cY gk:Int)(aa:List Int):Option (Int×(List Int)):=iter (fun w:Int×Int×(List Int)=>wU ag aB gA w.1 w.2.1 w.2.2) (cY,gk,aa)
theorem UT {ag aB:List Int}{gA cY gk:Int}{aa:List Int}:bx (wU ag aB gA cY gk aa) (dP a7 55 0 127 [1,1,1,1,0,1,0,0] (H7 ag aB gA (cY,gk,aa)) (H7 ag aB gA) (CH ag aB gA)):=by
 unfold wU
 exact .ite (fun h1 =>
  .aY fun h2 =>
  .ar fun aE au =>
  (let t1:List bY:=[(I 1),.U true,.ay (bq 2 (.b2 (eI aE)) 2),(I 4),(I 4)];
  have aS:=((.c5 h1 h2.1 (cO eI h2.2) (bU eI au)):cp _);
  .ite (fun aA =>
  .aY fun aX =>
  .ar fun fi bi =>
  .aY fun cj =>
  .aY fun cM =>
  .ret (let q1:=J ((J (aE+cY))+fi);bf (t1.append [.U true,.ay (bq 4 (.b2 (eI fi)) 2),.ay (bq 7 .fM 1),(I 2),.aN [0] [.cu (ae 1 eI (aa.set (0+gk.toNat) (q1.tmod (1000000000:Int))))] [(0,ii),(1,ii),(5,fV ((aa.set (0+gk.toNat) (q1.tmod (1000000000:Int))).length)),(6,ii),(20,ii),(21,ii),(22,ii)]]) (aS.aG (.bg aA aX.1 (cO eI aX.2) (bU eI bi) (by decide:(1000000000:Int)≠0) (by decide:(1000000000:Int)≠0) cj.1 cj.2 (.dg (hz eI cM) (ht 1) (cU 1 .live (gD (cR eI aa) (0+gk.toNat) (q1.tmod (1000000000:Int)))) (aF 1 .live aO (aa.set (0+gk.toNat) (q1.tmod (1000000000:Int)))) (hP (dF aa) (0+gk.toNat) (q1.tmod (1000000000:Int))))))))
  (fun aA =>
  .aY fun aX =>
  .aY fun bb =>
  .ret (let q2:=J (aE+cY);bf (t1.append [.U false,.ay (bq 7 .fM 1),(I 2),.aN [0] [.cu (ae 1 eI (aa.set (0+gk.toNat) (q2.tmod (1000000000:Int))))] [(0,ii),(1,ii),(5,fV ((aa.set (0+gk.toNat) (q2.tmod (1000000000:Int))).length)),(6,ii),(20,ii),(21,ii),(22,ii)]]) (aS.aG (.bg aA (by decide:(1000000000:Int)≠0) (by decide:(1000000000:Int)≠0) aX.1 aX.2 (hz eI bb) (ht 1) (cU 1 .live (gD (cR eI aa) (0+gk.toNat) (q2.tmod (1000000000:Int)))) (.e2 (aF 1 .live aO (aa.set (0+gk.toNat) (q2.tmod (1000000000:Int)))) (hP (dF aa) (0+gk.toNat) (q2.tmod (1000000000:Int))))))))))
  (fun h1 =>
  .ret (bf [(I 1),.U false,.aN [0] [.pure] (a6 [0,5,6])] (.e2 h1 (aF 1 .live aO aa))))
theorem M9 {ag aB:List Int}{gA cY gk:Int}{aa:List Int}{r} (h:zG ag aB gA cY gk aa=some r):dQ a7 55 0 127 [1,1,1,1,0,1,0,0] (H7 ag aB gA) (CH ag aB gA) (cY,gk,aa) r:=dR (fun _=>UT) h
def xm (ag aB:List Int):Option (List Int) :=
 if (decide ((len_ eI ag)<(len_ eI aB)))=true then
  if 0≤(J ((len_ eI aB)+(1:Int)))∧(8:Int)*(J ((len_ eI aB)+(1:Int)))≤281474976710656∧(J ((len_ eI aB)+(1:Int)))<9223372036854775808 then
  zG aB ag (len_ eI aB) 0 0 (List.replicate (J ((len_ eI aB)+(1:Int))).toNat 0:List Int) >>= fun bd =>
  if 0≤(len_ eI aB)∧(len_ eI aB)<(bd.2.length:Nat) then
  if (0+(len_ eI aB).toNat)<bd.2.length then
  pL (bd.2.set (0+(len_ eI aB).toNat) bd.1) >>= fun b4 =>
  some b4
  else none
  else none
  else none
 else
  if 0≤(J ((len_ eI ag)+(1:Int)))∧(8:Int)*(J ((len_ eI ag)+(1:Int)))≤281474976710656∧(J ((len_ eI ag)+(1:Int)))<9223372036854775808 then
  zG ag aB (len_ eI ag) 0 0 (List.replicate (J ((len_ eI ag)+(1:Int))).toNat 0:List Int) >>= fun bd =>
  if 0≤(len_ eI ag)∧(len_ eI ag)<(bd.2.length:Nat) then
  if (0+(len_ eI ag).toNat)<bd.2.length then
  pL (bd.2.set (0+(len_ eI ag).toNat) bd.1) >>= fun b4 =>
  some b4
  else none
  else none
  else none
theorem Xp {ag aB:List Int}:bx (xm ag aB) (fun r=>Con a7 127 [.isl 1 (ag.map eI),.isl 1 (aB.map eI)] [] (.isl 1 (r.map eI)) []):=by
 unfold xm
 exact .ite (fun h1 =>
  .aY fun h2 =>
  .ar fun bd au =>
  .aY fun aA =>
  .aY fun aX =>
  .ar fun b4 bi =>
  .ret (let q2:=len_ eI aB;let q1:=(J (q2+(1:Int)));let bK:=(List.replicate q1.toNat 0:List Int);let bW:=hP (dF bd.2) (0+q2.toNat) bd.1;bs [(I 1),(I 5),.U true,(I 4),(I 5),(I 1),(I 3),.aN [13] [.cu (ae 1 eI bK)] [(0,ii),(1,ii),(5,fV (bK.length)),(6,ii),(20,ii),(21,ii),(22,ii)],(CH aB ag q2 bd).e8,.ay (ai 5 (al .fM [])),.iK 0,.ay (bq 1 (.call {ac:=[.br (.dh (.ek ((bd.2.set (0+q2.toNat) bd.1).map eI)))],r:= .isl 1 (b4.map eI),fz:=false,fH:=[0]}) 1)] (.bg h1 h2.1 (Int.le_refl q1) h2.2.1 h2.2.2 (cU 1 .live (lC eI q1.toNat 0)) (aF 1 .live aO bK) (lW q1.toNat (0:Int)) (.bg (M9 au) aA.1 aA.2 (hz eI aX) (ht 1) (kO (gD (cR eI bd.2) (0+q2.toNat) bd.1) bW) (kZ (gD (cR eI bd.2) (0+q2.toNat) bd.1) bW) (du aO (bd.2.set (0+q2.toNat) bd.1)) (.e1 (ud b4 bi))))))
  (fun h1 =>
  .aY fun h2 =>
  .ar fun bd au =>
  .aY fun aA =>
  .aY fun aX =>
  .ar fun b4 bi =>
  .ret (let d5:=len_ eI ag;let cD:=(J (d5+(1:Int)));let fJ:=(List.replicate cD.toNat 0:List Int);let eB:=hP (dF bd.2) (0+d5.toNat) bd.1;bs [(I 1),(I 5),.U false,(I 5),(I 1),(I 3),.aN [9] [.cu (ae 1 eI fJ)] [(0,ii),(1,ii),(5,fV (fJ.length)),(6,ii),(20,ii),(21,ii),(22,ii)],(CH ag aB d5 bd).e8,.ay (ai 5 (al .fM [])),.iK 0,.ay (bq 1 (.call {ac:=[.br (.dh (.ek ((bd.2.set (0+d5.toNat) bd.1).map eI)))],r:= .isl 1 (b4.map eI),fz:=false,fH:=[0]}) 1)] (.bg h1 h2.1 (Int.le_refl cD) h2.2.1 h2.2.2 (cU 1 .live (lC eI cD.toNat 0)) (aF 1 .live aO fJ) (lW cD.toNat (0:Int)) (.bg (M9 au) aA.1 aA.2 (hz eI aX) (ht 1) (kO (gD (cR eI bd.2) (0+d5.toNat) bd.1) eB) (kZ (gD (cR eI bd.2) (0+d5.toNat) bd.1) eB) (du aO (bd.2.set (0+d5.toNat) bd.1)) (.e1 (ud b4 bi))))))
def HW (aB dJ:List Int)(b9:Int):(Int×Int×(List Int))→S:=fun (mc,bT,aa)=>dl [(1,.isl 1 (aB.map eI)),(5,.bk 0 0 0 aa.length),(6,.n .i64 mc),(12,.isl 1 (dJ.map eI)),(13,.n .i64 b9),(14,.n .i64 bT)] [(ae 1 eI aa)]
def H8 (aB dJ:List Int)(b9:Int):(List Int)→dq
 | a=>⟨some 0,[(5,.bk 0 0 0 a.length)],[(ae 1 eI a)]⟩
def wS (aB dJ:List Int)(b9 mc bT:Int)(aa:List Int):Option ((Int×Int×(List Int))⊕((List Int))) :=
 if (decide (bT<b9))=true then
  if 0≤bT∧bT<dJ.length then
  dJ[bT.toNat]? >>= fun aE =>
  if (decide (bT<(len_ eI aB)))=true then
   if 0≤bT∧bT<aB.length then
   aB[bT.toNat]? >>= fun fi =>
   if (decide ((J ((J (aE-mc))-fi))<(0:Int)))=true then
    if 0≤bT∧bT<(aa.length:Nat) then
    if (0+bT.toNat)<aa.length then
    some (.inl (1,J (bT+(1:Int)),aa.set (0+bT.toNat) (J ((J ((J (aE-mc))-fi))+(1000000000:Int)))))
    else none
    else none
   else
    if 0≤bT∧bT<(aa.length:Nat) then
    if (0+bT.toNat)<aa.length then
    some (.inl (0,J (bT+(1:Int)),aa.set (0+bT.toNat) (J ((J (aE-mc))-fi))))
    else none
    else none
   else none
  else
   if (decide ((J (aE-mc))<(0:Int)))=true then
    if 0≤bT∧bT<(aa.length:Nat) then
    if (0+bT.toNat)<aa.length then
    some (.inl (1,J (bT+(1:Int)),aa.set (0+bT.toNat) (J ((J (aE-mc))+(1000000000:Int)))))
    else none
    else none
   else
    if 0≤bT∧bT<(aa.length:Nat) then
    if (0+bT.toNat)<aa.length then
    some (.inl (0,J (bT+(1:Int)),aa.set (0+bT.toNat) (J (aE-mc))))
    else none
    else none
  else none
 else
  some (.inr aa)
def I9 (aB dJ:List Int)(b9 mc bT:Int)(aa:List Int):Option ((List Int)):=iter (fun w:Int×Int×(List Int)=>wS aB dJ b9 w.1 w.2.1 w.2.2) (mc,bT,aa)
theorem UQ {aB dJ:List Int}{b9 mc bT:Int}{aa:List Int}:bx (wS aB dJ b9 mc bT aa) (dP a7 43 0 128 [1,1,1,0,1,0,0] (HW aB dJ b9 (mc,bT,aa)) (HW aB dJ b9) (H8 aB dJ b9)):=by
 unfold wS
 exact .ite (fun h1 =>
  .aY fun h2 =>
  .ar fun aE au =>
  (let t1:List bY:=[(I 1),.U true,.ay (bq 2 (.b2 (eI aE)) 2),(I 4),(I 4)];
  have aS:=((.c5 h1 h2.1 (cO eI h2.2) (bU eI au)):cp _);
  .ite (fun aA =>
  .aY fun aX =>
  .ar fun fi bi =>
  (let t3:List bY:=t1.append [.U true,.ay (bq 4 (.b2 (eI fi)) 2),(I 1),(I 2)];
  have eO:=aS.aG (.c5 aA aX.1 (cO eI aX.2) (bU eI bi));
  .ite (fun cj =>
  .aY fun cM =>
  .aY fun e6 =>
  .ret (let q1:=(J ((J ((J (aE-mc))-fi))+(1000000000:Int)));bf (t3.append [.U true,(I 3),(I 1),.ay (ai 4 (al .fM [])),(I 2),.aN [0] [.cu (ae 1 eI (aa.set (0+bT.toNat) q1))] [(1,ii),(5,fV ((aa.set (0+bT.toNat) q1).length)),(6,ii),(12,ii),(13,ii),(14,ii)]]) (eO.aG (.gJ cj cM.1 cM.2 (hz eI e6) (ht 1) (cU 1 .live (gD (cR eI aa) (0+bT.toNat) q1)) (aF 1 .live aO (aa.set (0+bT.toNat) q1)) (hP (dF aa) (0+bT.toNat) q1)))))
  (fun cj =>
  .aY fun cM =>
  .aY fun e6 =>
  .ret (let q2:=J ((J (aE-mc))-fi);bf (t3.append [.U false,.ay (ai 4 (al .fM [])),(I 2),.aN [0] [.cu (ae 1 eI (aa.set (0+bT.toNat) q2))] [(1,ii),(5,fV ((aa.set (0+bT.toNat) q2).length)),(6,ii),(12,ii),(13,ii),(14,ii)]]) (eO.aG (.gJ cj cM.1 cM.2 (hz eI e6) (ht 1) (cU 1 .live (gD (cR eI aa) (0+bT.toNat) q2)) (aF 1 .live aO (aa.set (0+bT.toNat) q2)) (hP (dF aa) (0+bT.toNat) q2)))))))
  (fun aA =>
  (let t3:List bY:=t1.append [.U false,(I 1),(I 2)];
  .ite (fun aX =>
  .aY fun bb =>
  .aY fun bi =>
  .ret (let bK:=(J ((J (aE-mc))+(1000000000:Int)));bf (t3.append [.U true,(I 3),(I 1),.ay (ai 4 (al .fM [])),(I 2),.aN [0] [.cu (ae 1 eI (aa.set (0+bT.toNat) bK))] [(1,ii),(5,fV ((aa.set (0+bT.toNat) bK).length)),(6,ii),(12,ii),(13,ii),(14,ii)]]) (aS.aG (.bg aA aX bb.1 bb.2 (hz eI bi) (ht 1) (cU 1 .live (gD (cR eI aa) (0+bT.toNat) bK)) (aF 1 .live aO (aa.set (0+bT.toNat) bK)) (.e1 (hP (dF aa) (0+bT.toNat) bK))))))
  (fun aX =>
  .aY fun bb =>
  .aY fun bi =>
  .ret (let bW:=J (aE-mc);bf (t3.append [.U false,.ay (ai 4 (al .fM [])),(I 2),.aN [0] [.cu (ae 1 eI (aa.set (0+bT.toNat) bW))] [(1,ii),(5,fV ((aa.set (0+bT.toNat) bW).length)),(6,ii),(12,ii),(13,ii),(14,ii)]]) (aS.aG (.bg aA aX bb.1 bb.2 (hz eI bi) (ht 1) (cU 1 .live (gD (cR eI aa) (0+bT.toNat) bW)) (aF 1 .live aO (aa.set (0+bT.toNat) bW)) (.e1 (hP (dF aa) (0+bT.toNat) bW))))))))))
  (fun h1 =>
  .ret (bf [(I 1),.U false,.aN [0] [.pure] (a6 [5])] (.e2 h1 (aF 1 .live aO aa))))
theorem Wd {aB dJ:List Int}{b9 mc bT:Int}{aa:List Int}{r} (h:I9 aB dJ b9 mc bT aa=some r):dQ a7 43 0 128 [1,1,1,0,1,0,0] (HW aB dJ b9) (H8 aB dJ b9) (mc,bT,aa) r:=dR (fun _=>UQ) h
def sP (ag aB:List Int):Option (List Int) :=
 if 0≤(len_ eI ag)∧(8:Int)*(len_ eI ag)≤281474976710656∧(len_ eI ag)<9223372036854775808 then
 I9 aB ag (len_ eI ag) 0 0 (List.replicate (len_ eI ag).toNat 0:List Int) >>= fun r2 =>
 pL r2 >>= fun bh =>
 some bh
 else none
theorem Nw {ag aB:List Int}:bx (sP ag aB) (fun r=>Con a7 128 [.isl 1 (ag.map eI),.isl 1 (aB.map eI)] [] (.isl 1 (r.map eI)) []):=by
 unfold sP
 exact .aY fun h1 =>
  .ar fun r2 ab =>
  .ar fun bh aA =>
  .ret (let q2:=len_ eI ag;let q1:=(List.replicate q2.toNat 0:List Int);bs [(I 1),(I 4),(I 1),(I 3),.aN [3] [.cu (ae 1 eI q1)] [(1,ii),(5,fV (q1.length)),(6,ii),(12,ii),(13,ii),(14,ii)],(H8 aB ag q2 r2).e8,.iK 0,.ay (bq 1 (.call {ac:=[.br (.dh (.ek (r2.map eI)))],r:= .isl 1 (bh.map eI),fz:=false,fH:=[0]}) 1)] (.bg h1.1 (Int.le_refl q2) h1.2.1 h1.2.2 (cU 1 .live (lC eI q2.toNat 0)) (aF 1 .live aO q1) (lW q2.toNat (0:Int)) (Wd ab) (.c5 (ga eI r2) (fF eI r2) (du aO r2) (ud bh aA))))
def wY (c3 et:bm):Option bm :=
 qf c3.cw et.cw >>= fun r1 =>
 if (c3.cJ == et.cJ)=true then
  xm c3.cw et.cw >>= fun bh =>
  mY c3.cJ bh >>= fun cc =>
  some cc
 else
  if (decide ((0:Int)≤r1))=true then
   sP c3.cw et.cw >>= fun aK =>
   mY c3.cJ aK >>= fun b4 =>
   some b4
  else
   sP et.cw c3.cw >>= fun aK =>
   mY et.cJ aK >>= fun b4 =>
   some b4
theorem Ve {c3 et:bm}:bx (wY c3 et) (fun r=>Con a7 121 [.agg (aU c3),.agg (aU et)] [] (.agg (aU r)) []):=by
 unfold wY
 exact .ar fun r1 h2 =>
  (let t1:List bY:=[(I 3),.ay (bq 4 (bp 2 (.n .i64 r1) true) 1),(I 6)];
  have aS:=((.e2 (CK r1 h2) (b7.n .i64 r1)):cp _);
  .ite (fun ab =>
  .ar fun bh aA =>
  .ar fun cc bb =>
  .ret (bs (t1.append [.U true,.ay (ai 6 (al (bp 2 (.isl 1 (bh.map eI)) false) (al (bp 2 (.agg (aU cc)) false) (ai 1 []))))]) (aS.aG (.bO ab (Xp bh aA) (sH cc bb)))))
  (fun ab =>
  .ite (fun au =>
  .ar fun aK aX =>
  .ar fun b4 bi =>
  .ret (bs (t1.append [.U false,(I 3),.U true,.ay (ai 6 (al (bp 2 (.isl 1 (aK.map eI)) false) (al (bp 2 (.agg (aU b4)) false) (ai 1 []))))]) (aS.aG (.c5 ab au (Nw aK aX) (sH b4 bi)))))
  (fun au =>
  .ar fun aK aX =>
  .ar fun b4 bi =>
  .ret (bs (t1.append [.U false,(I 3),.U false,.ay (ai 6 (al (bp 2 (.isl 1 (aK.map eI)) false) (al (bp 2 (.agg (aU b4)) false) (ai 1 []))))]) (aS.aG (.c5 ab au (Nw aK aX) (sH b4 bi)))))))
def tU (c3 et:bm):Option bm :=
 rB et >>= fun r1 =>
 wY c3 r1 >>= fun bd =>
 some bd
theorem My {c3 et:bm}:bx (tU c3 et) (fun r=>Con a7 104 [.agg (aU c3),.agg (aU et)] [] (.agg (aU r)) []):=by
 unfold tU
 exact .ar fun r1 h2 =>
  .ar fun bd au =>
  .ret (bs [(I 3),.ay (ai 2 (al (bp 1 (.agg (aU r1)) false) (al (bp 2 (.agg (aU bd)) false) (ai 1 []))))] (.e2 (F5 r1 h2) (Ve bd au)))
def FD (eG:List (List bm))(eP:Bool)(eF eH:List Int)(iP:Int)(j3:List Bool)(ln:List Int)(bo jM:Int):(Int×Bool×(List Int))→S:=fun (h4,aI,aH)=>dl [(0,.d7 6 [[.isl 1 (eG.map (en 2 aU)),.b eP,.isl 1 (eF.map eI),.isl 1 (eH.map eI),.n .i64 iP,.isl 1 (j3.map ed)]] 0 0),(1,.isl 1 (ln.map eI)),(2,.n .i64 bo),(7,.ref 0 0 0 0),(23,.isl 1 (eH.map eI)),(24,.n .i64 jM),(25,.n .i64 h4)] [[ad.mk 2 [[.b aI,.isl 1 (aH.map eI)]] .live]]
def Mj (eG:List (List bm))(eP:Bool)(eF eH:List Int)(iP:Int)(j3:List Bool)(ln:List Int)(bo jM:Int):(Bool×(List Int))→dq
 | a=>⟨some 0,[(7,.ref 0 0 0 0)],[[ad.mk 2 [[.b a.1,.isl 1 (a.2.map eI)]] .live]]⟩
def vR (eG:List (List bm))(eP:Bool)(eF eH:List Int)(iP:Int)(j3:List Bool)(ln:List Int)(bo jM h4:Int)(aI:Bool)(aH:List Int):Option ((Int×Bool×(List Int))⊕(Bool×(List Int))) :=
 if (decide (h4<jM))=true then
  if 0≤h4∧h4<eH.length then
  eH[h4.toNat]? >>= fun aE =>
  if 0≤aE∧aE<ln.length then
  ln[aE.toNat]? >>= fun cn =>
  if (cn != (0:Int))=true then
   if 0≤h4∧h4<eG.length then
   eG[h4.toNat]? >>= fun iL =>
   if 0≤bo∧bo<iL.length then
   iL[bo.toNat]? >>= fun qQ =>
   oR qQ >>= fun gu =>
   if (gu != (0:Int))=true then
    oe cn >>= fun e7 =>
    o8 qQ e7 >>= fun km =>
    tU (⟨aI,aH⟩:bm) km >>= fun BG =>
    some (.inl (J (h4+(1:Int)),BG.cJ,BG.cw))
   else
    some (.inl (J (h4+(1:Int)),aI,aH))
   else none
   else none
  else
   some (.inl (J (h4+(1:Int)),aI,aH))
  else none
  else none
 else
  some (.inr (aI,aH))
def GW (eG:List (List bm))(eP:Bool)(eF eH:List Int)(iP:Int)(j3:List Bool)(ln:List Int)(bo jM h4:Int)(aI:Bool)(aH:List Int):Option (Bool×(List Int)):=iter (fun w:Int×Bool×(List Int)=>vR eG eP eF eH iP j3 ln bo jM w.1 w.2.1 w.2.2) (h4,aI,aH)
theorem S5 {eG:List (List bm)}{eP:Bool}{eF eH:List Int}{iP:Int}{j3:List Bool}{ln:List Int}{bo jM h4:Int}{aI:Bool}{aH:List Int}:bx (vR eG eP eF eH iP j3 ln bo jM h4 aI aH) (dP a7 70 0 86 [1,1,0,1,0,0] (FD eG eP eF eH iP j3 ln bo jM (h4,aI,aH)) (FD eG eP eF eH iP j3 ln bo jM) (Mj eG eP eF eH iP j3 ln bo jM)):=by
 unfold vR
 exact .ite (fun h1 =>
  .aY fun h2 =>
  .ar fun aE au =>
  .aY fun aA =>
  .ar fun cn bb =>
  (let t1:List bY:=[(I 1),.U true,.ay (bq 2 (.b2 (eI aE)) 2)];
  have aS:=((.eE h1 h2.1 (cO eI h2.2) (bU eI au) aA.1 (cO eI aA.2) (bU eI bb)):cp _);
  .ite (fun bi =>
  .aY fun cj =>
  .ar fun iL e6 =>
  .aY fun eR =>
  .ar fun qQ ew =>
  .ar fun gu hO =>
  (let t3:List bY:=t1.append [.ay (ai 3 (al (.b2 (eI cn)) (ai 8 (al (.b2 ((en 2 aU) iL)) (ai 2 (al (.b2 (aU qQ)) (al (bp 1 (.n .i64 gu) true) (ai 1 (al (.U true) [])))))))))];
  have eO:=aS.aG (.bg bi bi bi bi bi bi cj.1 (cO (en 2 aU) cj.2) (.bg bi (bU (en 2 aU) e6) bi bi eR.1 (cO aU eR.2) bi (bU aU ew) (.dg bi (sE gu hO) (b7.n .i64 gu) bi bi)));
  .ite (fun hn =>
  .ar fun e7 gr =>
  .ar fun km gS =>
  .ar fun BG mR =>
  .ret (bf (t3.append [.U true,.ay (ai 7 (al (.b2 ((en 2 aU) iL)) (ai 2 (al (.b2 (aU qQ)) (ai 3 (al (.b2 (eI cn)) (al (bp 1 (.agg (aU e7)) false) (al (bp 2 (.agg (aU km)) false) (al (bp 2 (.agg (aU BG)) false) (ai 1 [])))))))))),(I 2),.aN [0] [.box [.id,.id]] (a6 [0,1,2,7,23,24,25])]) (eO.aG (.bg hn cj.1 (cO (en 2 aU) cj.2) (bU (en 2 aU) e6) eR.1 (cO aU eR.2) (bU aU ew) aA.1 (.dg (cO eI aA.2) (bU eI bb) (rG e7 gr) (wv km gS) (My BG mR))))))
  (fun hn =>
  .ret (bf (t3.append [.U false,(I 2),.aN [0] [.box [.id,.id]] (a6 [0,1,2,7,23,24,25])]) (eO.aG (.e1 hn))))))
  (fun bi =>
  .ret (bf (t1.append [.ay (ai 3 (al (.b2 (eI cn)) (ai 2 (ck 12 (al (.U false) []))))),.U false,(I 2),.aN [0] [.box [.id,.id]] (a6 [0,1,2,7,23,24,25])]) (aS.aG (.bg bi bi bi bi bi bi bi bi (.dU bi bi bi bi bi cL)))))))
  (fun h1 =>
  .ret (bf [(I 1),.U false,.aN [0] [.box [.id,.id]] (a6 [7])] (.e1 h1)))
theorem T1 {eG:List (List bm)}{eP:Bool}{eF eH:List Int}{iP:Int}{j3:List Bool}{ln:List Int}{bo jM h4:Int}{aI:Bool}{aH:List Int}{r} (h:GW eG eP eF eH iP j3 ln bo jM h4 aI aH=some r):dQ a7 70 0 86 [1,1,0,1,0,0] (FD eG eP eF eH iP j3 ln bo jM) (Mj eG eP eF eH iP j3 ln bo jM) (h4,aI,aH) r:=dR (fun _=>S5) h
def wV (gZ:qi)(ln:List Int)(bo:Int):Option Int :=
 if 0≤bo∧bo<ln.length then
 ln[bo.toNat]? >>= fun x2 =>
 oe x2 >>= fun bh =>
 o8 gZ.u5 bh >>= fun cc =>
 GW gZ.r7 gZ.u5.cJ gZ.u5.cw gZ.rj gZ.Kp gZ.Kq ln bo (len_ eI gZ.rj) 0 cc.cJ cc.cw >>= fun cZ =>
 oR (⟨cZ.1,cZ.2⟩:bm) >>= fun ec =>
 some ec
 else none
theorem Mz {gZ:qi}{ln:List Int}{bo:Int}:bx (wV gZ ln bo) (fun r=>Con a7 86 [.d7 6 [(xj gZ)] 0 0,.isl 1 (ln.map eI),.n .i64 bo] [] (.n .i64 r) []):=by
 unfold wV
 exact .aY fun h1 =>
  .ar fun x2 ab =>
  .ar fun bh aA =>
  .ar fun cc bb =>
  .ar fun cZ cj =>
  .ar fun ec e6 =>
  .ret (bs [(I 1),.ay (ai 7 (al (.b2 (eI x2)) (al (bp 1 (.agg (aU bh)) false) (al (bp 2 (.agg (aU cc)) false) (ai 2 []))))),(I 6),.aN [11] [.box [.id,.id]] (a6 [0,1,2,7,23,24,25]),.sub (.exit 0) [(7,.ref 0 0 0 0)] [[ad.mk 2 [[.b cZ.1,.isl 1 (cZ.2.map eI)]] .live]],.ay (bq 1 (bp 1 (.n .i64 ec) true) 1)] (.gJ h1.1 (cO eI h1.2) (bU eI ab) (rG bh aA) (wv cc bb) (T1 cj) (sE ec e6) (b7.n .i64 ec)))
def rC (c3 et:bm):Option Int :=
 if (c3.cJ == et.cJ)=true then
  if c3.cJ=true then
   qf et.cw c3.cw >>= fun bd =>
   some bd
  else
   qf c3.cw et.cw >>= fun bd =>
   some bd
 else
  if c3.cJ=true then
   some (-1)
  else
   some 1
theorem Uv {c3 et:bm}:bx (rC c3 et) (fun r=>Con a7 105 [.agg (aU c3),.agg (aU et)] [] (.n .i64 r) []):=by
 unfold rC
 exact .ite (fun h1 =>
  (let t1:List bY:=[(I 3),.ay (ai 6 (ck 2 (al (.U false) (ai 1 [])))),.U false,(I 6),.U false,(I 3)];
  have aS:=((.dg (cV h1) (cV h1) (cV h1) cL (cV h1)):cp _);
  .ite (fun h2 =>
  .ar fun bd au =>
  .ret (bs (t1.append [.U true,.ay (bq 4 (bp 2 (.n .i64 bd) true) 1)]) (aS.aG (.bO h2 (CK bd au) (b7.n .i64 bd)))))
  (fun h2 =>
  .ar fun bd au =>
  .ret (bs (t1.append [.U false,.ay (bq 4 (bp 2 (.n .i64 bd) true) 1)]) (aS.aG (.bO h2 (CK bd au) (b7.n .i64 bd)))))))
  (fun h1 =>
  (let t1:List bY:=[(I 3),.ay (bq 8 (.U true) 1)];
  have aS:=((.bO (cT h1) (cT h1) (cT h1)):cp _);
  .ite (fun h2 =>
  .ret (bs (t1.append [.U true,(I 1)]) (aS.aG (.e1 h2))))
  (fun h2 =>
  .ret (bs (t1.append [.U false,(I 6),.U true,(I 1)]) (aS.aG (.e2 h2 (cT h1)))))))
def Fj (eG:List (List bm))(eP:Bool)(eF eH:List Int)(iP:Int)(j3:List Bool)(bo b9:Int):(Int×Int)→S:=fun (hQ,bT)=>dl [(0,.d7 6 [[.isl 1 (eG.map (en 2 aU)),.b eP,.isl 1 (eF.map eI),.isl 1 (eH.map eI),.n .i64 iP,.isl 1 (j3.map ed)]] 0 0),(1,.n .i64 bo),(5,.n .i64 hQ),(12,.isl 1 (eG.map (en 2 aU))),(13,.n .i64 b9),(14,.n .i64 bT)] []
def Mi (eG:List (List bm))(eP:Bool)(eF eH:List Int)(iP:Int)(j3:List Bool)(bo b9:Int):Int→dq
 | a=>⟨some 0,[(5,.n .i64 a)],[]⟩
def vH (eG:List (List bm))(eP:Bool)(eF eH:List Int)(iP:Int)(j3:List Bool)(bo b9 hQ bT:Int):Option ((Int×Int)⊕(Int)) :=
 if (decide (bT<b9))=true then
  if 0≤bT∧bT<eG.length then
  eG[bT.toNat]? >>= fun aE =>
  if 0≤bo∧bo<aE.length then
  aE[bo.toNat]? >>= fun cn =>
  oR cn >>= fun cZ =>
  if (decide (cZ≤(0:Int)))=true then
   some (.inl (hQ,J (bT+(1:Int))))
  else
   if (decide (hQ<(0:Int)))=true then
    some (.inl (bT,J (bT+(1:Int))))
   else
    if 0≤iP∧iP<aE.length then
    aE[iP.toNat]? >>= fun qQ =>
    if 0≤hQ∧hQ<eG.length then
    eG[hQ.toNat]? >>= fun mm =>
    if 0≤bo∧bo<mm.length then
    mm[bo.toNat]? >>= fun qR =>
    o8 qQ qR >>= fun nG =>
    if 0≤iP∧iP<mm.length then
    mm[iP.toNat]? >>= fun sl =>
    o8 sl cn >>= fun nH =>
    rC nG nH >>= fun mn =>
    if (decide (mn<(0:Int)))=true then
     some (.inl (bT,J (bT+(1:Int))))
    else
     if (mn == (0:Int))=true then
      if 0≤bT∧bT<eH.length then
      eH[bT.toNat]? >>= fun Ln =>
      if 0≤hQ∧hQ<eH.length then
      eH[hQ.toNat]? >>= fun Lo =>
      if (decide (Ln<Lo))=true then
       some (.inl (bT,J (bT+(1:Int))))
      else
       some (.inl (hQ,J (bT+(1:Int))))
      else none
      else none
     else
      some (.inl (hQ,J (bT+(1:Int))))
    else none
    else none
    else none
    else none
  else none
  else none
 else
  some (.inr hQ)
def F6 (eG:List (List bm))(eP:Bool)(eF eH:List Int)(iP:Int)(j3:List Bool)(bo b9 hQ bT:Int):Option (Int):=iter (fun w:Int×Int=>vH eG eP eF eH iP j3 bo b9 w.1 w.2) (hQ,bT)
theorem SQ {eG:List (List bm)}{eP:Bool}{eF eH:List Int}{iP:Int}{j3:List Bool}{bo b9 hQ bT:Int}:bx (vH eG eP eF eH iP j3 bo b9 hQ bT) (dP a7 91 0 87 [1,1,0,1,0,0] (Fj eG eP eF eH iP j3 bo b9 (hQ,bT)) (Fj eG eP eF eH iP j3 bo b9) (Mi eG eP eF eH iP j3 bo b9)):=by
 unfold vH
 exact .ite (fun h1 =>
  .aY fun h2 =>
  .ar fun aE au =>
  .aY fun aA =>
  .ar fun cn bb =>
  .ar fun cZ cj =>
  (let t1:List bY:=[(I 1),.U true,.ay (bq 2 (.b2 ((en 2 aU) aE)) 2),.ay (ai 3 (al (.b2 (aU cn)) (al (bp 1 (.n .i64 cZ) true) (ai 1 []))))];
  have aS:=((.bg h1 h2.1 (cO (en 2 aU) h2.2) (bU (en 2 aU) au) aA.1 (cO aU aA.2) (bU aU bb) (sE cZ cj) (.e1 (b7.n .i64 cZ))):cp _);
  .ite (fun cM =>
  .ret (bf (t1.append [.U true,(I 2),.aN [] [] (a6 [0,1,5,12,13,14])]) (aS.aG (.e1 cM))))
  (fun cM =>
  .ite (fun e6 =>
  .ret (bf (t1.append [.U false,(I 2),.U true,(I 2),(I 2),.aN [] [] (a6 [0,1,5,12,13,14])]) (aS.aG (.e2 cM e6))))
  (fun e6 =>
  .aY fun eR =>
  .ar fun qQ ew =>
  .aY fun fO =>
  .ar fun mm hn =>
  .aY fun ho =>
  .ar fun qR fh =>
  .ar fun nG jq =>
  .aY fun mR =>
  .ar fun sl qS =>
  .ar fun nH sk =>
  .ar fun mn BH =>
  (let q1:=en 2 aU;let t3:List bY:=t1.append [.U false,(I 2),.U false,.ay (ai 6 (al (.b2 (aU qQ)) (ai 6 (al (.b2 (q1 mm)) (ai 2 (al (.b2 (aU qR)) (al (bp 2 (.agg (aU nG)) false) (ai 6 (al (.b2 (q1 mm)) (ai 5 (al (.b2 (aU sl)) (ai 3 (al (.b2 (aU cn)) (al (bp 2 (.agg (aU nH)) false) (al (bp 2 (.n .i64 mn) true) (ai 1 []))))))))))))))))];
  have eO:=aS.aG (.bg cM e6 eR.1 (cO aU eR.2) (bU aU ew) fO.1 (cO q1 fO.2) (bU q1 hn) (.bg ho.1 (cO aU ho.2) (bU aU fh) (wv nG jq) fO.1 (cO q1 fO.2) (bU q1 hn) mR.1 (.gJ (cO aU mR.2) (bU aU qS) aA.1 (cO aU aA.2) (bU aU bb) (wv nH sk) (Uv mn BH) (b7.n .i64 mn))));
  .ite (fun n8 =>
  .ret (bf (t3.append [.ay (ai 3 (ck 3 (ai 15 (ck 1 (al (.U true) []))))),.U true,(I 2),(I 2),.aN [] [] (a6 [0,1,5,12,13,14])]) (eO.aG (.dU n8 n8 n8 n8 n8 cv))))
  (fun n8 =>
  .ite (fun jt =>
  .aY fun RC =>
  .ar fun Ln acZ =>
  .aY fun RD =>
  .ar fun Lo ac0 =>
  (let t5:List bY:=t3.append [.ay (ai 12 (al (.b2 (eI Ln)) (ai 6 (al (.b2 (eI Lo)) (ai 1 (al (.U true) (al (.U false) [])))))))];
  have kF:=eO.aG (.bg n8 n8 n8 jt jt jt jt jt (.bg jt RC.1 (cO eI RC.2) jt (bU eI acZ) jt jt jt (.bg jt jt jt RD.1 (cO eI RD.2) jt (bU eI ac0) jt (.bO n8 jt n8))));
  .ite (fun Lp =>
  .ret (bf (t5.append [.U true,(I 2),(I 2),.aN [] [] (a6 [0,1,5,12,13,14])]) (kF.aG (.e1 Lp))))
  (fun Lp =>
  .ret (bf (t5.append [.U false,(I 2),.aN [] [] (a6 [0,1,5,12,13,14])]) (kF.aG (.e1 Lp))))))
  (fun jt =>
  .ret (bf (t3.append [.ay (ai 6 (ck 15 (al (.U false) (al (.U false) [])))),.U false,(I 2),.aN [] [] (a6 [0,1,5,12,13,14])]) (eO.aG (.bg n8 n8 n8 jt jt jt jt jt (.bg jt jt jt jt jt jt jt jt (.dU jt jt n8 jt n8 cL))))))))))))
  (fun h1 =>
  .ret (bf [(I 1),.U false,.aN [] [] (a6 [5])] (.e1 h1)))
theorem Tr {eG:List (List bm)}{eP:Bool}{eF eH:List Int}{iP:Int}{j3:List Bool}{bo b9 hQ bT:Int}{r} (h:F6 eG eP eF eH iP j3 bo b9 hQ bT=some r):dQ a7 91 0 87 [1,1,0,1,0,0] (Fj eG eP eF eH iP j3 bo b9) (Mi eG eP eF eH iP j3 bo b9) (hQ,bT) r:=dR (fun _=>SQ) h
def yY (gZ:qi)(bo:Int):Option Int :=
 F6 gZ.r7 gZ.u5.cJ gZ.u5.cw gZ.rj gZ.Kp gZ.Kq bo (len_ (en 2 aU) gZ.r7) (-1) 0 >>= fun r1 =>
 some r1
theorem T2 {gZ:qi}{bo:Int}:bx (yY gZ bo) (fun r=>Con a7 87 [.d7 6 [(xj gZ)] 0 0,.n .i64 bo] [] (.n .i64 r) []):=by
 unfold yY
 exact .ar fun r1 h2 =>
  .ret (bs [(I 1),(I 1),(I 6),.aN [] [] (a6 [0,1,5,12,13,14]),.sub (.exit 0) [(5,.n .i64 r1)] [],(I 2)] (.e1 (Tr h2)))
def Af (aJ:List Int):Option (List Int) :=
 if aJ.length*8≤140737488355328 then some aJ else none
theorem YN:Con a7 129 [.ei] [] (.isl 1 (([]:List Int).map eI)) []:=bs [(I 1),(I 2),.U true,(I 1)] (.e1 cv) (.br (.dh (.jE 1)))
theorem YO:Con a7 129 [.h7] [] (.isl 1 (([]:List Int).map eI)) []:=(by
 have h:=fun (h1:(([]:List Int)++([]:List Int)).length*8≤140737488355328)=>(bs [(I 1),(I 2),.U false,.ay (bq 2 (.aG ((([]:List Int)++([]:List Int)).length)) 1)] (.eE cL (m1 (show []=(([]:List Int)).map eI from rfl) (eY Int)) (lD (eY Int) (nk eI):(([]:List Int)++([]:List Int)).length=0+([]:List (List az)).length) h1 (kO (hZ (show []=(([]:List Int)).map eI from rfl) (eY Int) (nk eI)) (dF (([]:List Int)++([]:List Int)))) (kZ (hZ (show []=(([]:List Int)).map eI from rfl) (eY Int) (nk eI)) (dF (([]:List Int)++([]:List Int)))) (du aO (([]:List Int)++([]:List Int)))) (.br (.dh (.ek ((([]:List Int)++([]:List Int)).map eI)))):Con a7 129 [.h7] [] (.isl 1 ((([]:List Int)++([]:List Int)).map eI)) [])
 exact h (by decide))
theorem YP (x:Int)(l:List Int)(h1:(([]:List Int)++(x::l)).length*8≤140737488355328):Con a7 129 [.isl 1 ((x::l).map eI)] [] (.isl 1 ((([]:List Int)++(x::l)).map eI)) []:=bs [(I 1),.ay (ai 1 (al .fM [])),.U false,.ay (bq 2 (.aG ((([]:List Int)++(x::l)).length)) 1)] (.gJ (by simp:(x::l).map eI≠[]) cL (m1 (show []=(([]:List Int)).map eI from rfl) (eY Int)) (lD (eY Int) (cR eI (x::l)):(([]:List Int)++(x::l)).length=0+((x::l).map eI).length) h1 (kO (hZ (show []=(([]:List Int)).map eI from rfl) (eY Int) (cR eI (x::l))) (dF (([]:List Int)++(x::l)))) (kZ (hZ (show []=(([]:List Int)).map eI from rfl) (eY Int) (cR eI (x::l))) (dF (([]:List Int)++(x::l)))) (du aO (([]:List Int)++(x::l)))) (.br (.dh (.ek ((([]:List Int)++(x::l)).map eI))))
theorem Yg {aJ:List Int}:bx (Af aJ) (fun r=>Con a7 129 [.isl 1 (aJ.map eI)] [] (.isl 1 (r.map eI)) []):=by
 unfold Af
 refine .aY fun h=> .ret ?_
 cases aJ with
 | nil=>exact .jV YN YO
 | cons x l =>
  have h2:=YP x l (by simpa using h)
  simpa using h2
def Gj (ag:List Int)(aB:Int):(Int×Int×(List Int))→S:=fun (fG,af,aa)=>dl [(0,.isl 1 (ag.map eI)),(1,.n .i64 aB),(6,.bk 0 0 0 aa.length),(7,.n .i64 fG),(8,.n .i64 af)] [(ae 1 eI aa)]
def GA (ag:List Int)(aB:Int):(Int×(List Int))→dq
 | a=>⟨some 0,[(6,.bk 0 0 0 a.2.length),(7,.n .i64 a.1)],[(ae 1 eI a.2)]⟩
def Gk (ag:List Int)(aB fG af:Int)(aa:List Int):Option ((Int×Int×(List Int))⊕(Int×(List Int))) :=
 if (decide ((0:Int)≤af))=true then
  if 0≤af∧af<ag.length then
  ag[af.toNat]? >>= fun aE =>
  if aB≠0 then
  if 0≤af∧af<(aa.length:Nat) then
  if (0+af.toNat)<aa.length then
  some (.inl ((J ((J (fG*(1000000000:Int)))+aE)).tmod aB,J (af-(1:Int)),aa.set (0+af.toNat) (J ((J ((J (fG*(1000000000:Int)))+aE)).tdiv aB))))
  else none
  else none
  else none
  else none
 else
  some (.inr (fG,aa))
def H9 (ag:List Int)(aB fG af:Int)(aa:List Int):Option (Int×(List Int)):=iter (fun w:Int×Int×(List Int)=>Gk ag aB w.1 w.2.1 w.2.2) (fG,af,aa)
theorem TC {ag:List Int}{aB fG af:Int}{aa:List Int}:bx (Gk ag aB fG af aa) (dP a7 39 0 130 [1,1,1,0,1,0,0] (Gj ag aB (fG,af,aa)) (Gj ag aB) (GA ag aB)):=by
 unfold Gk
 exact .ite (fun h1 =>
  .aY fun h2 =>
  .ar fun aE au =>
  .aY fun aA =>
  .aY fun aX =>
  .aY fun bb =>
  .ret (let q1:=(J ((J ((J (fG*(1000000000:Int)))+aE)).tdiv aB));bf [(I 2),.U true,.ay (bq 5 (.b2 (eI aE)) 2),.ay (bq 9 .fM 1),(I 3),.aN [0] [.cu (ae 1 eI (aa.set (0+af.toNat) q1))] [(0,ii),(1,ii),(6,fV ((aa.set (0+af.toNat) q1).length)),(7,ii),(8,ii)]] (.bg h1 h2.1 (cO eI h2.2) (bU eI au) aA aA aX.1 aX.2 (.dg (hz eI bb) (ht 1) (cU 1 .live (gD (cR eI aa) (0+af.toNat) q1)) (aF 1 .live aO (aa.set (0+af.toNat) q1)) (hP (dF aa) (0+af.toNat) q1)))))
  (fun h1 =>
  .ret (bf [(I 2),.U false,.aN [0] [.pure] (a6 [6,7])] (.e2 h1 (aF 1 .live aO aa))))
theorem UU {ag:List Int}{aB fG af:Int}{aa:List Int}{r} (h:H9 ag aB fG af aa=some r):dQ a7 39 0 130 [1,1,1,0,1,0,0] (Gj ag aB) (GA ag aB) (fG,af,aa) r:=dR (fun _=>TC) h
def w2 (ag:List Int)(aB:Int):Option ((List Int)×Int) :=
 if 0≤(len_ eI ag)∧(8:Int)*(len_ eI ag)≤281474976710656∧(len_ eI ag)<9223372036854775808 then
 H9 ag aB 0 (J ((len_ eI ag)-(1:Int))) (List.replicate (len_ eI ag).toNat 0:List Int) >>= fun r2 =>
 pL r2.2 >>= fun bh =>
 some (bh,r2.1)
 else none
theorem M0 {ag:List Int}{aB:Int}:bx (w2 ag aB) (fun r=>Con a7 130 [.isl 1 (ag.map eI),.n .i64 aB] [] (.dS [.isl 1 (r.1.map eI),.n .i64 r.2]) []):=by
 unfold w2
 exact .aY fun h1 =>
  .ar fun r2 ab =>
  .ar fun bh aA =>
  .ret (let q1:=(List.replicate (len_ eI ag).toNat 0:List Int);bs [(I 2),(I 4),(I 1),(I 4),.aN [4] [.cu (ae 1 eI q1)] [(0,ii),(1,ii),(6,fV (q1.length)),(7,ii),(8,ii)],(GA ag aB r2).e8,.iK 0,.ay (bq 1 (.call {ac:=[.br (.dh (.ek (r2.2.map eI)))],r:= .isl 1 (bh.map eI),fz:=false,fH:=[0]}) 3)] (.bg h1.1 (Int.le_refl (len_ eI ag)) h1.2.1 h1.2.2 (cU 1 .live (lC eI (len_ eI ag).toNat 0)) (aF 1 .live aO q1) (lW (len_ eI ag).toNat (0:Int)) (UU ab) (.c5 (ga eI r2.2) (fF eI r2.2) (du aO r2.2) (ud bh aA))))
def Hr (aa:List Int):Nat→S:=fun lE=>dl [(0,.bk 0 0 0 lE)] [(ae 1 eI aa)]
def HX (aa:List Int):Nat→dq
 | a=>⟨some 0,[(0,.bk 0 0 0 a)],[(ae 1 eI aa)]⟩
def wL (aa:List Int)(lE:Nat):Option ((Nat)⊕(Nat)) :=
 if (decide ((0:Int)<((lE:Nat):Int)))=true then
  if 0≤(J (((lE:Nat):Int)-(1:Int)))∧(J (((lE:Nat):Int)-(1:Int)))<(lE:Nat) then
  aa[(0+(J (((lE:Nat):Int)-(1:Int))).toNat)]? >>= fun aE =>
  if (aE == (0:Int))=true then
   if 0≤(J (((lE:Nat):Int)-(1:Int))) then
   if 0≤(J (((lE:Nat):Int)-(1:Int))).toNat∧(J (((lE:Nat):Int)-(1:Int))).toNat≤lE then
   some (.inl ((J (((lE:Nat):Int)-(1:Int))).toNat-0))
   else none
   else none
  else
   some (.inr lE)
  else none
 else
  some (.inr lE)
def IW (aa:List Int)(lE:Nat):Option (Nat):=iter (fun w:Nat=>wL aa w) lE
theorem Uw {aa:List Int}{lE:Nat}:bx (wL aa lE) (dP a7 21 1 126 [1,0,0,0] (Hr aa lE) (Hr aa) (HX aa)):=by
 unfold wL
 exact .ite (fun h1 =>
  .aY fun h2 =>
  .ar fun aE au =>
  (let t1:List bY:=[.ay (ai 9 (al (.b2 (eI aE)) (ai 1 (al (.U true) []))))];
  have aS:=((.bg h1 h1 h1 h1 h1 h2.1 h2.2 h1 (.bO (bU eI au) h1 h1)):cp _);
  .ite (fun aA =>
  .aY fun aX =>
  .aY fun bb =>
  .ret (bf (t1.append [.U true,(I 6),.aN [0] [.pure] (a6 [0])]) (aS.aG (.dg aA aX bb.1 bb.2 (aF 1 .live aO aa)))))
  (fun aA =>
  .ret (bf (t1.append [.U false,.aN [0] [.pure] (a6 [0])]) (aS.aG (.e2 aA (aF 1 .live aO aa)))))))
  (fun h1 =>
  .ret (bf [.ay (ai 4 (ck 7 (al (.U false) []))),.U false,.aN [0] [.pure] (a6 [0])] (.bg h1 h1 h1 h1 h1 h1 h1 h1 (.e2 cL (aF 1 .live aO aa)))))
theorem VM {aa:List Int}{lE:Nat}{r} (h:IW aa lE=some r):dQ a7 21 1 126 [1,0,0,0] (Hr aa) (HX aa) lE r:=dR (fun _=>Uw) h
def zO (fy:List Int):Option Nat :=
 IW fy fy.length >>= fun r1 =>
 some r1
theorem WR {fy:List Int}:bx (zO fy) (fun a=>Con a7 126 [.bk 0 0 0 fy.length] [(ae 1 eI fy)] (.bk 0 0 0 a) [(ae 1 eI fy)]):=by
 unfold zO
 exact .ar fun r1 h2 =>
  .ret (lQ [(I 1),.aN [0] [.pure] (a6 [0]),(HX fy r1).e8,(I 2)] [0] [.pure] (.bO (aF 1 .live aO fy) (VM h2) (aF 1 .live aO fy)))
def GX (aB:List Int)(af aW:Int)(c8:List Int)(c9 gX:Int):(Int×Int×(List Int))→S:=fun (cY,da,aa)=>dl [(1,.isl 1 (aB.map eI)),(5,.bk 0 0 0 aa.length),(6,.n .i64 af),(7,.n .i64 aW),(8,.n .i64 cY),(26,.isl 1 (c8.map eI)),(27,.n .i64 c9),(28,.n .i64 af),(33,.isl 1 (aB.map eI)),(34,.n .i64 gX),(35,.n .i64 da)] [(ae 1 eI aa)]
def Hs (aB:List Int)(af aW:Int)(c8:List Int)(c9 gX:Int):(Int×(List Int))→dq
 | a=>⟨some 2,[(1,.isl 1 (aB.map eI)),(5,.bk 0 0 0 a.2.length),(6,.n .i64 af),(8,.n .i64 a.1),(26,.isl 1 (c8.map eI)),(27,.n .i64 c9),(28,.n .i64 af)],[(ae 1 eI a.2)]⟩
def GY (aB:List Int)(af aW:Int)(c8:List Int)(c9 gX cY da:Int)(aa:List Int):Option ((Int×Int×(List Int))⊕(Int×(List Int))) :=
 if (decide (da<gX))=true then
  if 0≤da∧da<aB.length then
  aB[da.toNat]? >>= fun aE =>
  if 0≤(J (af+da))∧(J (af+da))<(aa.length:Nat) then
  aa[(0+(J (af+da)).toNat)]? >>= fun cn =>
  if (0+(J (af+da)).toNat)<aa.length then
  some (.inl (J ((J ((J (cn+(J (aW*aE))))+cY)).tdiv (1000000000:Int)),J (da+(1:Int)),aa.set (0+(J (af+da)).toNat) ((J ((J (cn+(J (aW*aE))))+cY)).tmod (1000000000:Int))))
  else none
  else none
  else none
 else
  some (.inr (cY,aa))
def Na (aB:List Int)(af aW:Int)(c8:List Int)(c9 gX cY da:Int)(aa:List Int):Option (Int×(List Int)):=iter (fun w:Int×Int×(List Int)=>GY aB af aW c8 c9 gX w.1 w.2.1 w.2.2) (cY,da,aa)
theorem T3 {aB:List Int}{af aW:Int}{c8:List Int}{c9 gX cY da:Int}{aa:List Int}:bx (GY aB af aW c8 c9 gX cY da aa) (dP a7 72 0 120 [1,1,1,0,1,0,0,1,1,0,0,1,1,0,1,0,0] (GX aB af aW c8 c9 gX (cY,da,aa)) (GX aB af aW c8 c9 gX) (Hs aB af aW c8 c9 gX)):=by
 unfold GY
 exact .ite (fun h1 =>
  .aY fun h2 =>
  .ar fun aE au =>
  .aY fun aA =>
  .ar fun cn bb =>
  .aY fun bi =>
  .ret (let q1:=J ((J (cn+(J (aW*aE))))+cY);let q2:=J (af+da);bf [(I 1),.U true,.ay (bq 2 (.b2 (eI aE)) 2),.ay (bq 5 (.b2 (eI cn)) 7),.ay (bq 9 .fM 1),(I 2),.aN [0] [.cu (ae 1 eI (aa.set (0+q2.toNat) (q1.tmod (1000000000:Int))))] [(1,ii),(5,fV ((aa.set (0+q2.toNat) (q1.tmod (1000000000:Int))).length)),(6,ii),(7,ii),(8,ii),(26,ii),(27,ii),(28,ii),(33,ii),(34,ii),(35,ii)]] (.bg h1 h2.1 (cO eI h2.2) (bU eI au) aA.1 aA.2 (bU eI bb) (by decide:(1000000000:Int)≠0) (.gJ (by decide:(1000000000:Int)≠0) aA.1 aA.2 (hz eI bi) (ht 1) (cU 1 .live (gD (cR eI aa) (0+q2.toNat) (q1.tmod (1000000000:Int)))) (aF 1 .live aO (aa.set (0+q2.toNat) (q1.tmod (1000000000:Int)))) (hP (dF aa) (0+q2.toNat) (q1.tmod (1000000000:Int)))))))
  (fun h1 =>
  .ret (bf [(I 1),.U false,.aN [0] [.pure] (a6 [1,5,6,8,26,27,28])] (.e2 h1 (aF 1 .live aO aa))))
theorem Vw {aB:List Int}{af aW:Int}{c8:List Int}{c9 gX cY da:Int}{aa:List Int}{r} (h:Na aB af aW c8 c9 gX cY da aa=some r):dQ a7 72 0 120 [1,1,1,0,1,0,0,1,1,0,0,1,1,0,1,0,0] (GX aB af aW c8 c9 gX) (Hs aB af aW c8 c9 gX) (cY,da,aa) r:=dR (fun _=>T3) h
def GZ (aB c8:List Int)(c9:Int):(Int×(List Int))→S:=fun (fs,aa)=>dl [(1,.isl 1 (aB.map eI)),(5,.bk 0 0 0 aa.length),(26,.isl 1 (c8.map eI)),(27,.n .i64 c9),(28,.n .i64 fs)] [(ae 1 eI aa)]
def Ht (aB c8:List Int)(c9:Int):(List Int)→dq
 | a=>⟨some 0,[(5,.bk 0 0 0 a.length)],[(ae 1 eI a)]⟩
def G0 (aB c8:List Int)(c9 fs:Int)(aa:List Int):Option ((Int×(List Int))⊕((List Int))) :=
 if (decide (fs<c9))=true then
  if 0≤fs∧fs<c8.length then
  c8[fs.toNat]? >>= fun aE =>
  Na aB fs aE c8 c9 (len_ eI aB) 0 0 aa >>= fun aK =>
  if 0≤(J (fs+(len_ eI aB)))∧(J (fs+(len_ eI aB)))<(aK.2.length:Nat) then
  if (0+(J (fs+(len_ eI aB))).toNat)<aK.2.length then
  some (.inl (J (fs+(1:Int)),aK.2.set (0+(J (fs+(len_ eI aB))).toNat) aK.1))
  else none
  else none
  else none
 else
  some (.inr aa)
def IF (aB c8:List Int)(c9 fs:Int)(aa:List Int):Option ((List Int)):=iter (fun w:Int×(List Int)=>G0 aB c8 c9 w.1 w.2) (fs,aa)
theorem T4 {aB c8:List Int}{c9 fs:Int}{aa:List Int}:bx (G0 aB c8 c9 fs aa) (dP a7 72 0 120 [1,1,1,0,1,0,0] (GZ aB c8 c9 (fs,aa)) (GZ aB c8 c9) (Ht aB c8 c9)):=by
 unfold G0
 exact .ite (fun h1 =>
  .aY fun h2 =>
  .ar fun aE au =>
  .ar fun aK aX =>
  .aY fun bb =>
  .aY fun bi =>
  .ret (let q1:=J (fs+(len_ eI aB));bf [(I 1),.U true,.ay (bq 2 (.b2 (eI aE)) 2),(I 1),(I 3),.aN [0] [.pure] (a6 [1,5,6,7,8,26,27,28,33,34,35]),(Hs aB fs aE c8 c9 (len_ eI aB) aK).e8,.ay (ai 7 (al .fM [])),(I 2),.aN [0] [.cu (ae 1 eI (aK.2.set (0+q1.toNat) aK.1))] [(1,ii),(5,fV ((aK.2.set (0+q1.toNat) aK.1).length)),(26,ii),(27,ii),(28,ii)]] (.bg h1 h2.1 (cO eI h2.2) (bU eI au) (aF 1 .live aO aa) (Vw aX) bb.1 bb.2 (.dg (hz eI bi) (ht 1) (cU 1 .live (gD (cR eI aK.2) (0+q1.toNat) aK.1)) (aF 1 .live aO (aK.2.set (0+q1.toNat) aK.1)) (hP (dF aK.2) (0+q1.toNat) aK.1)))))
  (fun h1 =>
  .ret (bf [(I 1),.U false,.aN [0] [.pure] (a6 [5])] (.e2 h1 (aF 1 .live aO aa))))
theorem Vx {aB c8:List Int}{c9 fs:Int}{aa:List Int}{r} (h:IF aB c8 c9 fs aa=some r):dQ a7 72 0 120 [1,1,1,0,1,0,0] (GZ aB c8 c9) (Ht aB c8 c9) (fs,aa) r:=dR (fun _=>T4) h
def xc (ag aB:List Int):Option (Nat×(List Int)) :=
 if ((len_ eI ag) == (0:Int))=true then
  none
 else
  if ((len_ eI aB) == (0:Int))=true then
   none
  else
   if 0≤(J ((len_ eI ag)+(len_ eI aB)))∧(8:Int)*(J ((len_ eI ag)+(len_ eI aB)))≤281474976710656∧(J ((len_ eI ag)+(len_ eI aB)))<9223372036854775808 then
   IF aB ag (len_ eI ag) 0 (List.replicate (J ((len_ eI ag)+(len_ eI aB))).toNat 0:List Int) >>= fun bh =>
   zO bh >>= fun cc =>
   some (cc,bh)
   else none
theorem Nb {ag aB:List Int}:bx (xc ag aB) (fun a=>Con a7 120 [.isl 1 (ag.map eI),.isl 1 (aB.map eI)] [] (.bk 0 0 0 a.1) [(ae 1 eI a.2)]):=by
 unfold xc
 exact .ite (fun h1 =>
  .Ru)
  (fun h1 =>
  .ite (fun h2 =>
  .Ru)
  (fun h2 =>
  .aY fun ab =>
  .ar fun bh aA =>
  .ar fun cc bb =>
  .ret (let q1:=J ((len_ eI ag)+(len_ eI aB));let q2:=(List.replicate q1.toNat 0:List Int);lQ [(I 1),.ay (ai 7 (al (.U false) [])),.U false,(I 7),(I 3),.aN [14] [.cu (ae 1 eI q2)] [(1,ii),(5,fV (q2.length)),(26,ii),(27,ii),(28,ii)],(Ht aB ag (len_ eI ag) bh).e8,.ay (bq 1 (.call {aZ:=[.row 0],dm:=[.pure],ac:=[ii],r:= .bk 0 0 0 cc,fv:=[(ae 1 eI bh)],ic:=ii,kk:=[.pure],fH:=[0],fz:=false}) 1)] [0] [.pure] (.bg h1 h1 h1 h1 h2 ab.1 (Int.le_refl q1) ab.2.1 (.bg ab.2.2 (cU 1 .live (lC eI q1.toNat 0)) (aF 1 .live aO q2) (lW q1.toNat (0:Int)) (Vx aA) (ij 1 aO bh) (ij 1 aO bh) (WR cc bb) (.e1 (aF 1 .live aO bh)))))))
def Hu (ff er:Nat)(ej:List Int)(ki dJ:Int):(Int×Int×(List Int))→S:=fun (cY,b9,aa)=>dl [(0,.bk 0 0 ff er),(1,.isl 1 (ej.map eI)),(2,.n .i64 ki),(7,.n .i64 cY),(11,.isl 1 (ej.map eI)),(12,.n .i64 dJ),(13,.n .i64 b9)] [(ae 1 eI aa)]
def HY (ff er:Nat)(ej:List Int)(ki dJ:Int):(Int×(List Int))→dq
 | a=>⟨some 0,[(0,.bk 0 0 ff er),(1,.isl 1 (ej.map eI)),(7,.n .i64 a.1)],[(ae 1 eI a.2)]⟩
def tS (ff er:Nat)(ej:List Int)(ki dJ cY b9:Int)(aa:List Int):Option ((Int×Int×(List Int))⊕(Int×(List Int))) :=
 if (decide (b9<dJ))=true then
  if 0≤b9∧b9<ej.length then
  ej[b9.toNat]? >>= fun aE =>
  if 0≤b9∧b9<(er:Nat) then
  aa[(ff+b9.toNat)]? >>= fun cn =>
  if (decide ((J ((J (cn-(J (ki*aE))))-cY))<(0:Int)))=true then
   if (ff+b9.toNat)<aa.length then
   some (.inl (J ((J ((999999999:Int)-(J ((J (cn-(J (ki*aE))))-cY)))).tdiv (1000000000:Int)),J (b9+(1:Int)),aa.set (ff+b9.toNat) (J ((J ((J (cn-(J (ki*aE))))-cY))+(J ((J ((J ((999999999:Int)-(J ((J (cn-(J (ki*aE))))-cY)))).tdiv (1000000000:Int)))*(1000000000:Int)))))))
   else none
  else
   if (ff+b9.toNat)<aa.length then
   some (.inl (0,J (b9+(1:Int)),aa.set (ff+b9.toNat) (J ((J (cn-(J (ki*aE))))-cY))))
   else none
  else none
  else none
 else
  some (.inr (cY,aa))
def IX (ff er:Nat)(ej:List Int)(ki dJ cY b9:Int)(aa:List Int):Option (Int×(List Int)):=iter (fun w:Int×Int×(List Int)=>tS ff er ej ki dJ w.1 w.2.1 w.2.2) (cY,b9,aa)
theorem Ux {ff er:Nat}{ej:List Int}{ki dJ cY b9:Int}{aa:List Int}:bx (tS ff er ej ki dJ cY b9 aa) (dP a7 56 1 131 [1,1,0,1,0,0] (Hu ff er ej ki dJ (cY,b9,aa)) (Hu ff er ej ki dJ) (HY ff er ej ki dJ)):=by
 unfold tS
 exact .ite (fun h1 =>
  .aY fun h2 =>
  .ar fun aE au =>
  .aY fun aA =>
  .ar fun cn bb =>
  (let t1:List bY:=[(I 1),.U true,.ay (bq 2 (.b2 (eI aE)) 2),.ay (bq 3 (.b2 (eI cn)) 7),(I 1),(I 2)];
  have aS:=((.eE h1 h2.1 (cO eI h2.2) (bU eI au) aA.1 aA.2 (bU eI bb)):cp _);
  .ite (fun bi =>
  .aY fun cj =>
  .ret (let q1:=(J ((J ((J (cn-(J (ki*aE))))-cY))+(J ((J ((J ((999999999:Int)-(J ((J (cn-(J (ki*aE))))-cY)))).tdiv (1000000000:Int)))*(1000000000:Int)))));bf (t1.append [.U true,(I 4),(I 5),.ay (ai 4 (al .fM [])),(I 2),.aN [0] [.cu (ae 1 eI (aa.set (ff+b9.toNat) q1))] (a6 [0,1,2,7,11,12,13])]) (aS.aG (.gJ bi (by decide:(1000000000:Int)≠0) aA.1 aA.2 (hz eI cj) (ht 1) (cU 1 .live (gD (cR eI aa) (ff+b9.toNat) q1)) (aF 1 .live aO (aa.set (ff+b9.toNat) q1))))))
  (fun bi =>
  .aY fun cj =>
  .ret (let q2:=J ((J (cn-(J (ki*aE))))-cY);bf (t1.append [.U false,.ay (ai 4 (al .fM [])),(I 2),.aN [0] [.cu (ae 1 eI (aa.set (ff+b9.toNat) q2))] (a6 [0,1,2,7,11,12,13])]) (aS.aG (.eE bi aA.1 aA.2 (hz eI cj) (ht 1) (cU 1 .live (gD (cR eI aa) (ff+b9.toNat) q2)) (aF 1 .live aO (aa.set (ff+b9.toNat) q2))))))))
  (fun h1 =>
  .ret (bf [(I 1),.U false,.aN [0] [.pure] (a6 [0,1,7])] (.e2 h1 (aF 1 .live aO aa))))
theorem VN {ff er:Nat}{ej:List Int}{ki dJ cY b9:Int}{aa:List Int}{r} (h:IX ff er ej ki dJ cY b9 aa=some r):dQ a7 56 1 131 [1,1,0,1,0,0] (Hu ff er ej ki dJ) (HY ff er ej ki dJ) (cY,b9,aa) r:=dR (fun _=>Ux) h
def zP (ej:List Int)(ki:Int)(ff er:Nat)(fy:List Int):Option (Bool×(List Int)) :=
 IX ff er ej ki (len_ eI ej) 0 0 fy >>= fun r1 =>
 if 0≤(len_ eI ej)∧(len_ eI ej)<(er:Nat) then
 r1.2[(ff+(len_ eI ej).toNat)]? >>= fun f8 =>
 if (ff+(len_ eI ej).toNat)<r1.2.length then
 (r1.2.set (ff+(len_ eI ej).toNat) (J (f8-r1.1)))[(ff+(len_ eI ej).toNat)]? >>= fun fi =>
 some ((decide (fi<(0:Int))),r1.2.set (ff+(len_ eI ej).toNat) (J (f8-r1.1)))
 else none
 else none
theorem WS {ej:List Int}{ki:Int}{ff er:Nat}{fy:List Int}:bx (zP ej ki ff er fy) (fun a=>Con a7 131 (acX 0 0 ff er ej ki) [(ae 1 eI fy)] (.b a.1) [(ae 1 eI a.2)]):=by
 unfold zP
 exact .ar fun r1 h2 =>
  .aY fun ab =>
  .ar fun f8 aA =>
  .aY fun aX =>
  .ar fun fi bi =>
  .ret (let q1:=J (f8-r1.1);let q2:=len_ eI ej;lQ [(I 1),(I 1),(I 3),.aN [0] [.pure] (a6 [0,1,2,7,11,12,13]),(HY ff er ej ki q2 r1).e8,.ay (ai 4 (al (.b2 (eI f8)) (ai 3 (al .fM [])))),.ay (bq 4 (.b2 (eI fi)) 2)] [0] [.cu (ae 1 eI (r1.2.set (ff+q2.toNat) q1))] (.bg (aF 1 .live aO fy) (VN h2) ab.1 ab.2 (bU eI aA) ab.1 ab.2 (hz eI aX) (.dU (ht 1) ab.1 ab.2 (aal (gD (cR eI r1.2) (ff+q2.toNat) q1) bi) (cU 1 .live (gD (cR eI r1.2) (ff+q2.toNat) q1)) (aF 1 .live aO (r1.2.set (ff+q2.toNat) q1)))))
def Hv (ff er:Nat)(ej:List Int)(dZ:Int):(Int×Int×(List Int))→S:=fun (cY,cW,aa)=>dl [(0,.bk 0 0 ff er),(1,.isl 1 (ej.map eI)),(4,.n .i64 cY),(8,.isl 1 (ej.map eI)),(9,.n .i64 dZ),(10,.n .i64 cW)] [(ae 1 eI aa)]
def HZ (ff er:Nat)(ej:List Int)(dZ:Int):(Int×(List Int))→dq
 | a=>⟨some 0,[(0,.bk 0 0 ff er),(1,.isl 1 (ej.map eI)),(4,.n .i64 a.1)],[(ae 1 eI a.2)]⟩
def wM (ff er:Nat)(ej:List Int)(dZ cY cW:Int)(aa:List Int):Option ((Int×Int×(List Int))⊕(Int×(List Int))) :=
 if (decide (cW<dZ))=true then
  if 0≤cW∧cW<ej.length then
  ej[cW.toNat]? >>= fun aE =>
  if 0≤cW∧cW<(er:Nat) then
  aa[(ff+cW.toNat)]? >>= fun cn =>
  if (ff+cW.toNat)<aa.length then
  some (.inl (J ((J ((J (cn+aE))+cY)).tdiv (1000000000:Int)),J (cW+(1:Int)),aa.set (ff+cW.toNat) ((J ((J (cn+aE))+cY)).tmod (1000000000:Int))))
  else none
  else none
  else none
 else
  some (.inr (cY,aa))
def IY (ff er:Nat)(ej:List Int)(dZ cY cW:Int)(aa:List Int):Option (Int×(List Int)):=iter (fun w:Int×Int×(List Int)=>wM ff er ej dZ w.1 w.2.1 w.2.2) (cY,cW,aa)
theorem Uy {ff er:Nat}{ej:List Int}{dZ cY cW:Int}{aa:List Int}:bx (wM ff er ej dZ cY cW aa) (dP a7 39 1 132 [1,0,1,0,0] (Hv ff er ej dZ (cY,cW,aa)) (Hv ff er ej dZ) (HZ ff er ej dZ)):=by
 unfold wM
 exact .ite (fun h1 =>
  .aY fun h2 =>
  .ar fun aE au =>
  .aY fun aA =>
  .ar fun cn bb =>
  .aY fun bi =>
  .ret (let q1:=J ((J (cn+aE))+cY);bf [(I 1),.U true,.ay (bq 2 (.b2 (eI aE)) 2),.ay (bq 3 (.b2 (eI cn)) 5),.ay (bq 7 .fM 1),(I 2),.aN [0] [.cu (ae 1 eI (aa.set (ff+cW.toNat) (q1.tmod (1000000000:Int))))] (a6 [0,1,4,8,9,10])] (.bg h1 h2.1 (cO eI h2.2) (bU eI au) aA.1 aA.2 (bU eI bb) (by decide:(1000000000:Int)≠0) (.eE (by decide:(1000000000:Int)≠0) aA.1 aA.2 (hz eI bi) (ht 1) (cU 1 .live (gD (cR eI aa) (ff+cW.toNat) (q1.tmod (1000000000:Int)))) (aF 1 .live aO (aa.set (ff+cW.toNat) (q1.tmod (1000000000:Int))))))))
  (fun h1 =>
  .ret (bf [(I 1),.U false,.aN [0] [.pure] (a6 [0,1,4])] (.e2 h1 (aF 1 .live aO aa))))
theorem VO {ff er:Nat}{ej:List Int}{dZ cY cW:Int}{aa:List Int}{r} (h:IY ff er ej dZ cY cW aa=some r):dQ a7 39 1 132 [1,0,1,0,0] (Hv ff er ej dZ) (HZ ff er ej dZ) (cY,cW,aa) r:=dR (fun _=>Uy) h
def xh (ej:List Int)(ff er:Nat)(fy:List Int):Option (List Int) :=
 IY ff er ej (len_ eI ej) 0 0 fy >>= fun r1 =>
 if 0≤(len_ eI ej)∧(len_ eI ej)<(er:Nat) then
 r1.2[(ff+(len_ eI ej).toNat)]? >>= fun f8 =>
 if (ff+(len_ eI ej).toNat)<r1.2.length then
 some (r1.2.set (ff+(len_ eI ej).toNat) (J (f8+r1.1)))
 else none
 else none
theorem WT {ej:List Int}{ff er:Nat}{fy:List Int}:bx (xh ej ff er fy) (fun a=>Con a7 132 [.bk 0 0 ff er,.isl 1 (ej.map eI)] [(ae 1 eI fy)] (.dS []) [(ae 1 eI a)]):=by
 unfold xh
 exact .ar fun r1 h2 =>
  .aY fun ab =>
  .ar fun f8 aA =>
  .aY fun aX =>
  .ret (let q1:=J (f8+r1.1);let q2:=len_ eI ej;lQ [(I 1),(I 3),.aN [0] [.pure] (a6 [0,1,4,8,9,10]),(HZ ff er ej q2 r1).e8,.ay (ai 4 (al (.b2 (eI f8)) (ai 3 (al .fM []))))] [0] [.cu (ae 1 eI (r1.2.set (ff+q2.toNat) q1))] (.bg (aF 1 .live aO fy) (VO h2) ab.1 ab.2 (bU eI aA) ab.1 ab.2 (hz eI aX) (.bO (ht 1) (cU 1 .live (gD (cR eI r1.2) (ff+q2.toNat) q1)) (aF 1 .live aO (r1.2.set (ff+q2.toNat) q1)))))
def Ia (ag:List Int)(fR:Nat)(aa ax:List Int):(List Int)→S:=fun ap=>dl [(0,.isl 1 (ag.map eI)),(8,.bk 0 0 0 aa.length),(9,.bk 1 0 0 ap.length),(10,.bk 2 0 0 fR)] [(ae 1 eI aa),(ae 1 eI ap),(ae 1 eI ax)]
def Is (ag:List Int)(fR:Nat)(aa ax:List Int):(List Int)→dq
 | a=>⟨some 0,[(8,.bk 0 0 0 aa.length),(9,.bk 1 0 0 a.length),(10,.bk 2 0 0 fR)],[(ae 1 eI aa),(ae 1 eI a),(ae 1 eI ax)]⟩
def CB (ag:List Int)(fR:Nat)(aa ax ap:List Int):Option (((List Int))⊕((List Int))) :=
 if (decide (((ap.length:Nat):Int)≤(len_ eI ag)))=true then
  if (ap++([0]:List Int)).length*8≤140737488355328 then
  some (.inl (ap++([0]:List Int)))
  else none
 else
  some (.inr ap)
def C1 (ag:List Int)(fR:Nat)(aa ax ap:List Int):Option ((List Int)):=iter (fun w:(List Int)=>CB ag fR aa ax w) ap
theorem UW {ag:List Int}{fR:Nat}{aa ax ap:List Int}:bx (CB ag fR aa ax ap) (dP a7 172 0 123 [1,1,1,1,1,0,0,0] (Ia ag fR aa ax ap) (Ia ag fR aa ax) (Is ag fR aa ax)):=by
 unfold CB
 exact .ite (fun h1 =>
  .aY fun h2 =>
  .ret (let q1:=(ap++([0]:List Int));bf [(I 5),.U true,.ay (bq 2 (.aG (q1.length)) 1),.aN [0,10,2] [.pure,.cu (ae 1 eI q1),.pure] (a6 [0,8,9,10])] (.bg h1 (gx eI 0) (gV eI ap) (gy eI ap 0) h2 (aF 1 .live aO aa) (cU 1 .live (ha eI ap 0)) (aF 1 .live aO q1) (.e1 (aF 1 .live aO ax)))))
  (fun h1 =>
  .ret (bf [(I 5),.U false,.aN [0,1,2] [.pure,.pure,.pure] (a6 [8,9,10])] (.c5 h1 (aF 1 .live aO aa) (aF 1 .live aO ap) (aF 1 .live aO ax))))
theorem Wy {ag:List Int}{fR:Nat}{aa ax ap:List Int}{r} (h:C1 ag fR aa ax ap=some r):dQ a7 172 0 123 [1,1,1,1,1,0,0,0] (Ia ag fR aa ax) (Is ag fR aa ax) ap r:=dR (fun _=>UW) h
def Ib (er fR:Nat)(aW bN:Int)(aa ap ax ah:List Int):(Int×Int)→S:=fun (np,fG)=>dl [(8,.bk 0 0 0 aa.length),(9,.bk 1 0 0 er),(10,.bk 2 0 0 fR),(11,.n .i64 aW),(12,.bk 3 0 0 ah.length),(13,.n .i64 bN),(15,.n .i64 np),(16,.n .i64 fG)] [(ae 1 eI aa),(ae 1 eI ap),[ad.mk 1 (ax.map eI) .iK],(ae 1 eI ah)]
def It (er fR:Nat)(aW bN:Int)(aa ap ax ah:List Int):Int→dq
 | a=>⟨some 4,[(8,.bk 0 0 0 aa.length),(9,.bk 1 0 0 er),(10,.bk 2 0 0 fR),(11,.n .i64 aW),(12,.bk 3 0 0 ah.length),(13,.n .i64 bN),(15,.n .i64 a)],[(ae 1 eI aa),(ae 1 eI ap),[ad.mk 1 (ax.map eI) .iK],(ae 1 eI ah)]⟩
def tV (er fR:Nat)(aW bN:Int)(aa ap ax ah:List Int)(np fG:Int):Option ((Int×Int)⊕(Int)) :=
 if (decide ((1000000000:Int)≤np))=true then
  if 0≤(J (aW-(1:Int)))∧(J (aW-(1:Int)))<(fR:Nat) then
  ax[(0+(J (aW-(1:Int))).toNat)]? >>= fun aE =>
  if (decide ((1000000000:Int)≤(J (fG+aE))))=true then
   some (.inr (J (np-(1:Int))))
  else
   some (.inl (J (np-(1:Int)),J (fG+aE)))
  else none
 else
  if 0≤(J (aW-(2:Int)))∧(J (aW-(2:Int)))<(fR:Nat) then
  ax[(0+(J (aW-(2:Int))).toNat)]? >>= fun aE =>
  if 0≤(J ((J (bN+aW))-(2:Int)))∧(J ((J (bN+aW))-(2:Int)))<(er:Nat) then
  ap[(0+(J ((J (bN+aW))-(2:Int))).toNat)]? >>= fun cn =>
  if (decide ((J ((J (fG*(1000000000:Int)))+cn))<(J (np*aE))))=true then
   if 0≤(J (aW-(1:Int)))∧(J (aW-(1:Int)))<(fR:Nat) then
   ax[(0+(J (aW-(1:Int))).toNat)]? >>= fun iL =>
   if (decide ((1000000000:Int)≤(J (fG+iL))))=true then
    some (.inr (J (np-(1:Int))))
   else
    some (.inl (J (np-(1:Int)),J (fG+iL)))
   else none
  else
   some (.inr np)
  else none
  else none
def Jc (er fR:Nat)(aW bN:Int)(aa ap ax ah:List Int)(np fG:Int):Option (Int):=iter (fun w:Int×Int=>tV er fR aW bN aa ap ax ah w.1 w.2) (np,fG)
theorem UX {er fR:Nat}{aW bN:Int}{aa ap ax ah:List Int}{np fG:Int}:bx (tV er fR aW bN aa ap ax ah np fG) (dP a7 172 0 123 [1,1,1,1,1,1,1,1,0,1,0,0,1,0,0,1,1,0,0,0] (Ib er fR aW bN aa ap ax ah (np,fG)) (Ib er fR aW bN aa ap ax ah) (It er fR aW bN aa ap ax ah)):=by
 unfold tV
 exact .ite (fun h1 =>
  .aY fun h2 =>
  .ar fun aE au =>
  (let t1:List bY:=[.ay (ai 3 (ck 18 (al (.U true) []))),.U true,(I 3),.ay (bq 5 (.b2 (eI aE)) 2),(I 2)];
  have aS:=((.bg h1 h1 h1 h1 h1 h1 h1 h1 (.bg h1 h1 h1 h1 h1 h1 h1 h1 (.eE h1 h1 h1 cv h2.1 h2.2 (bU eI au)))):cp _);
  .ite (fun aA =>
  .ret (bf (t1.append [.U true,.aN [0,1,2,3] [.pure,.pure,.pure,.pure] (a6 [8,9,10,11,12,13,15])]) (aS.aG (.dg aA (aF 1 .live aO aa) (aF 1 .live aO ap) (aF 1 .iK aO ax) (aF 1 .live aO ah)))))
  (fun aA =>
  .ret (bf (t1.append [.U false,.aN [0,1,2,3] [.pure,.pure,.pure,.pure] (a6 [8,9,10,11,12,13,15,16])]) (aS.aG (.dg aA (aF 1 .live aO aa) (aF 1 .live aO ap) (aF 1 .iK aO ax) (aF 1 .live aO ah)))))))
  (fun h1 =>
  .aY fun h2 =>
  .ar fun aE au =>
  .aY fun aA =>
  .ar fun cn bb =>
  (let t1:List bY:=[.ay (ai 8 (al (.b2 (eI aE)) (ai 9 (al (.b2 (eI cn)) (ai 2 (al (.U false) []))))))];
  have aS:=((.bg h1 h1 h1 h1 h1 h2.1 h2.2 h1 (.bg (bU eI au) h1 h1 h1 h1 h1 h1 h1 (.bg h1 h1 aA.1 aA.2 h1 (bU eI bb) h1 h1 (.e1 h1)))):cp _);
  .ite (fun bi =>
  .aY fun cj =>
  .ar fun iL e6 =>
  (let t3:List bY:=t1.append [.U true,(I 3),.ay (bq 5 (.b2 (eI iL)) 2),(I 2)];
  .ite (fun eR =>
  .ret (bf (t3.append [.U true,.aN [0,1,2,3] [.pure,.pure,.pure,.pure] (a6 [8,9,10,11,12,13,15])]) (aS.aG (.bg bi cj.1 cj.2 (bU eI e6) eR (aF 1 .live aO aa) (aF 1 .live aO ap) (aF 1 .iK aO ax) (.e1 (aF 1 .live aO ah))))))
  (fun eR =>
  .ret (bf (t3.append [.U false,.aN [0,1,2,3] [.pure,.pure,.pure,.pure] (a6 [8,9,10,11,12,13,15,16])]) (aS.aG (.bg bi cj.1 cj.2 (bU eI e6) eR (aF 1 .live aO aa) (aF 1 .live aO ap) (aF 1 .iK aO ax) (.e1 (aF 1 .live aO ah))))))))
  (fun bi =>
  .ret (bf (t1.append [.U false,.aN [0,1,2,3] [.pure,.pure,.pure,.pure] (a6 [8,9,10,11,12,13,15])]) (aS.aG (.dg bi (aF 1 .live aO aa) (aF 1 .live aO ap) (aF 1 .iK aO ax) (aF 1 .live aO ah)))))))
theorem Wz {er fR:Nat}{aW bN:Int}{aa ap ax ah:List Int}{np fG:Int}{r} (h:Jc er fR aW bN aa ap ax ah np fG=some r):dQ a7 172 0 123 [1,1,1,1,1,1,1,1,0,1,0,0,1,0,0,1,1,0,0,0] (Ib er fR aW bN aa ap ax ah) (It er fR aW bN aa ap ax ah) (np,fG) r:=dR (fun _=>UX) h
def Ic (er fR:Nat)(aW:Int)(aa ax:List Int):(Int×(List Int)×(List Int))→S:=fun (bN,ap,ah)=>dl [(8,.bk 0 0 0 aa.length),(9,.bk 1 0 0 er),(10,.bk 2 0 0 fR),(11,.n .i64 aW),(12,.bk 3 0 0 ah.length),(13,.n .i64 bN)] [(ae 1 eI aa),(ae 1 eI ap),[ad.mk 1 (ax.map eI) .iK],(ae 1 eI ah)]
def Iu (er fR:Nat)(aW:Int)(aa ax:List Int):((List Int)×(List Int))→dq
 | a=>⟨some 2,[(8,.bk 0 0 0 aa.length),(9,.bk 1 0 0 er),(12,.bk 2 0 0 a.2.length)],[(ae 1 eI aa),(ae 1 eI a.1),(ae 1 eI a.2)]⟩
def tW (er fR:Nat)(aW:Int)(aa ax:List Int)(bN:Int)(ap ah:List Int):Option ((Int×(List Int)×(List Int))⊕((List Int)×(List Int))) :=
 if (decide ((0:Int)≤bN))=true then
  if 0≤(J (bN+aW))∧(J (bN+aW))<(er:Nat) then
  ap[(0+(J (bN+aW)).toNat)]? >>= fun aE =>
  if 0≤(J ((J (bN+aW))-(1:Int)))∧(J ((J (bN+aW))-(1:Int)))<(er:Nat) then
  ap[(0+(J ((J (bN+aW))-(1:Int))).toNat)]? >>= fun cn =>
  if 0≤(J (aW-(1:Int)))∧(J (aW-(1:Int)))<(fR:Nat) then
  ax[(0+(J (aW-(1:Int))).toNat)]? >>= fun ep =>
  if ep≠0 then
  Jc er fR aW bN aa ap ax ah (J ((J ((J (aE*(1000000000:Int)))+cn)).tdiv ep)) ((J ((J (aE*(1000000000:Int)))+cn)).tmod ep) >>= fun d8 =>
  if 0≤bN then
  if bN.toNat≤er then
  if 0+fR≤ax.length then
  zP ((ax.drop 0).take fR) d8 (0+bN.toNat) (er-bN.toNat) ap >>= fun gi =>
  if gi.1=true then
   xh ((ax.drop 0).take fR) (0+bN.toNat) (er-bN.toNat) gi.2 >>= fun km =>
   if 0≤bN∧bN<(ah.length:Nat) then
   if (0+bN.toNat)<ah.length then
   some (.inl (J (bN-(1:Int)),km,ah.set (0+bN.toNat) (J (d8-(1:Int)))))
   else none
   else none
  else
   if 0≤bN∧bN<(ah.length:Nat) then
   if (0+bN.toNat)<ah.length then
   some (.inl (J (bN-(1:Int)),gi.2,ah.set (0+bN.toNat) d8))
   else none
   else none
  else none
  else none
  else none
  else none
  else none
  else none
  else none
 else
  some (.inr (ap,ah))
def Jd (er fR:Nat)(aW:Int)(aa ax:List Int)(bN:Int)(ap ah:List Int):Option ((List Int)×(List Int)):=iter (fun w:Int×(List Int)×(List Int)=>tW er fR aW aa ax w.1 w.2.1 w.2.2) (bN,ap,ah)
theorem UY {er fR:Nat}{aW:Int}{aa ax:List Int}{bN:Int}{ap ah:List Int}:bx (tW er fR aW aa ax bN ap ah) (dP a7 172 0 123 [1,1,1,1,1,1,1,1,0,1,0,0] (Ic er fR aW aa ax (bN,ap,ah)) (Ic er fR aW aa ax) (Iu er fR aW aa ax)):=by
 unfold tW
 exact .ite (fun h1 =>
  .aY fun h2 =>
  .ar fun aE au =>
  .aY fun aA =>
  .ar fun cn bb =>
  .aY fun bi =>
  .ar fun ep cM =>
  .aY fun e6 =>
  .ar fun d8 el =>
  .aY fun ew =>
  .aY fun fO =>
  .aY fun hO =>
  .ar fun gi ho =>
  (let t1:List bY:=[(I 2),.U true,.ay (ai 5 (al (.b2 (eI aE)) (bq 7 (.b2 (eI cn)) 2))),.ay (ai 5 (al (.b2 (eI ep)) (bq 6 (.b2 (eI ep)) 3))),.aN [0,1,2,3] [.pure,.pure,.pure,.pure] (a6 [8,9,10,11,12,13,15,16]),(It er fR aW bN aa ap ax ah d8).e8,.ay (ai 5 (al (.call {aZ:=[.row 1],dm:=[.pure],ac:=[ii,.br (.dh (.ek (((ax.drop 0).take fR).map eI))),ii],r:= .b gi.1,fv:=[(ae 1 eI gi.2)],ic:=ii,kk:=[.pure],fH:=[1,2],fz:=false}) []))];
  have aS:=((.bg h1 h2.1 h2.2 (bU eI au) aA.1 aA.2 (bU eI bb) bi.1 (.bg bi.2 (bU eI cM) e6 bi.1 bi.2 (bU eI cM) e6 (aF 1 .live aO aa) (.bg (aF 1 .live aO ap) (aF 1 .iK aO ax) (aF 1 .live aO ah) (Wz el) ew fO (Nat.le_refl er) (JL (cR eI ax) 0 fR) (.dg (rf (cR eI ax) hO) (du aO ((ax.drop 0).take fR)) (ij 1 aO ap) (ij 1 aO gi.2) (WS gi ho))))):cp _);
  .ite (fun gr =>
  .ar fun km gS =>
  .aY fun jq =>
  .aY fun mR =>
  .ret (let q1:=(J (d8-(1:Int)));bf (t1.append [.U true,(I 3),.ay (ai 4 (al (.call {aZ:=[.row 1],dm:=[.pure],ac:=[ii,.br (.dh (.ek (((ax.drop 0).take fR).map eI)))],r:= .dS [],fv:=[(ae 1 eI km)],ic:=ii,kk:=[.pure],fH:=[1,2],fz:=false}) [])),.ay (ai 4 (al .fM [])),(I 3),.aN [0,1,2,3] [.pure,.pure,.pure,.cu (ae 1 eI (ah.set (0+bN.toNat) q1))] [(8,ii),(9,ii),(10,ii),(11,ii),(12,fV ((ah.set (0+bN.toNat) q1).length)),(13,ii)]]) (aS.aG (.bg gr ew fO (Nat.le_refl er) (JL (cR eI ax) 0 fR) (rf (cR eI ax) hO) (du aO ((ax.drop 0).take fR)) (ij 1 aO gi.2) (.bg (ij 1 aO km) (WT km gS) jq.1 jq.2 (hz eI mR) (ht 1) (aF 1 .live aO aa) (aF 1 .live aO km) (.c5 (aF 1 .iK aO ax) (cU 1 .live (gD (cR eI ah) (0+bN.toNat) q1)) (aF 1 .live aO (ah.set (0+bN.toNat) q1)) (hP (dF ah) (0+bN.toNat) q1)))))))
  (fun gr =>
  .aY fun fh =>
  .aY fun gS =>
  .ret (bf (t1.append [.U false,.ay (ai 4 (al .fM [])),(I 3),.aN [0,1,2,3] [.pure,.pure,.pure,.cu (ae 1 eI (ah.set (0+bN.toNat) d8))] [(8,ii),(9,ii),(10,ii),(11,ii),(12,fV ((ah.set (0+bN.toNat) d8).length)),(13,ii)]]) (aS.aG (.bg gr fh.1 fh.2 (hz eI gS) (ht 1) (aF 1 .live aO aa) (aF 1 .live aO gi.2) (aF 1 .iK aO ax) (.bO (cU 1 .live (gD (cR eI ah) (0+bN.toNat) d8)) (aF 1 .live aO (ah.set (0+bN.toNat) d8)) (hP (dF ah) (0+bN.toNat) d8))))))))
  (fun h1 =>
  .ret (bf [(I 2),.U false,.aN [0,1,3] [.pure,.pure,.pure] (a6 [8,9,12])] (.c5 h1 (aF 1 .live aO aa) (aF 1 .live aO ap) (aF 1 .live aO ah))))
theorem WA {er fR:Nat}{aW:Int}{aa ax:List Int}{bN:Int}{ap ah:List Int}{r} (h:Jd er fR aW aa ax bN ap ah=some r):dQ a7 172 0 123 [1,1,1,1,1,1,1,1,0,1,0,0] (Ic er fR aW aa ax) (Iu er fR aW aa ax) (bN,ap,ah) r:=dR (fun _=>UY) h
def xn (ag aB:List Int):Option ((List Int)×(List Int)) :=
 qf ag aB >>= fun r1 =>
 if (decide (r1<(0:Int)))=true then
  Af ag >>= fun bh =>
  some (([]:List Int),bh)
 else
  if ((len_ eI aB) == (1:Int))=true then
   if 0≤(0:Int)∧(0:Int)<aB.length then
   aB[0]? >>= fun cn =>
   w2 ag cn >>= fun cZ =>
   uc (IntKind.wrap .u64 cZ.2) >>= fun ec =>
   some (cZ.1,ec)
   else none
  else
   if 0≤(J ((len_ eI aB)-(1:Int)))∧(J ((len_ eI aB)-(1:Int)))<aB.length then
   aB[(J ((len_ eI aB)-(1:Int))).toNat]? >>= fun cn =>
   if (J (cn+(1:Int)))≠0 then
   xc ag ([J ((1000000000:Int).tdiv (J (cn+(1:Int))))]:List Int) >>= fun b5 =>
   if b5.1≤b5.2.length then
   if (b5.2.take b5.1++([0]:List Int)).length*8≤140737488355328 then
   xc aB ([J ((1000000000:Int).tdiv (J (cn+(1:Int))))]:List Int) >>= fun ex =>
   C1 ag ex.1 ([J ((1000000000:Int).tdiv (J (cn+(1:Int))))]:List Int) ex.2 (b5.2.take b5.1++([0]:List Int)) >>= fun gu =>
   if 0≤(J (((gu.length:Nat):Int)-((ex.1:Nat):Int)))∧(8:Int)*(J (((gu.length:Nat):Int)-((ex.1:Nat):Int)))≤281474976710656∧(J (((gu.length:Nat):Int)-((ex.1:Nat):Int)))<9223372036854775808 then
   Jd gu.length ex.1 ((ex.1:Nat):Int) ([J ((1000000000:Int).tdiv (J (cn+(1:Int))))]:List Int) ex.2 (J ((J (((gu.length:Nat):Int)-((ex.1:Nat):Int)))-(1:Int))) gu (List.replicate (J (((gu.length:Nat):Int)-((ex.1:Nat):Int))).toNat 0:List Int) >>= fun e7 =>
   if 0+gu.length≤e7.1.length then
   pL ((e7.1.drop 0).take gu.length) >>= fun nG =>
   if 0≤(0:Int)∧(0:Int)<(([J ((1000000000:Int).tdiv (J (cn+(1:Int))))]:List Int).length:Nat) then
   ([J ((1000000000:Int).tdiv (J (cn+(1:Int))))]:List Int)[0]? >>= fun sl =>
   w2 nG sl >>= fun nH =>
   pL e7.2 >>= fun mn =>
   some (mn,nH.1)
   else none
   else none
   else none
   else none
   else none
   else none
   else none
theorem Xq {ag aB:List Int}:bx (xn ag aB) (fun r=>Con a7 123 [.isl 1 (ag.map eI),.isl 1 (aB.map eI)] [] (.dS [.isl 1 (r.1.map eI),.isl 1 (r.2.map eI)]) []):=by
 unfold xn
 exact .ar fun r1 h2 =>
  (let t1:List bY:=[(I 2),.ay (bq 2 (bp 2 (.n .i64 r1) true) 1)];
  have aS:=((.e2 (CK r1 h2) (b7.n .i64 r1)):cp _);
  .ite (fun ab =>
  .ar fun bh aA =>
  .ret (bs (t1.append [.U true,.ay (bq 1 (bp 1 (.isl 1 (bh.map eI)) false) 2)]) (aS.aG (.e2 ab (Yg bh aA))) (.comp [.dh (.jE 1),.dh .id])))
  (fun ab =>
  .ite (fun au =>
  .aY fun aA =>
  .ar fun cn bb =>
  .ar fun cZ cj =>
  .ar fun ec e6 =>
  .ret (bs (t1.append [.U false,(I 3),.U true,.ay (ai 3 (al (.b2 (eI cn)) (al (bp 2 (.dS [.isl 1 (cZ.1.map eI),.n .i64 cZ.2]) false) (ai 5 [])))),.ay (bq 3 (bp 1 (.isl 1 (ec.map eI)) false) 2)]) (aS.aG (.eE ab au aA.1 (cO eI aA.2) (bU eI bb) (M0 cZ cj) (IE ec e6)))))
  (fun au =>
  .aY fun aA =>
  .ar fun cn bb =>
  .aY fun bi =>
  .ar fun b5 cM =>
  .aY fun e6 =>
  .aY fun eR =>
  .ar fun ex ew =>
  .ar fun gu hO =>
  .aY fun hn =>
  .ar fun e7 gr =>
  .aY fun fh =>
  .ar fun nG jq =>
  .aY fun mR =>
  .ar fun sl qS =>
  .ar fun nH sk =>
  .ar fun mn BH =>
  .ret (let q1:=(J ((1000000000:Int).tdiv (J (cn+(1:Int)))));let q2:=(J (((gu.length:Nat):Int)-((ex.1:Nat):Int)));let bK:=(b5.2.take b5.1++([0]:List Int));let bW:=(List.replicate q2.toNat 0:List Int);let cD:=(aF 1 .live aO ([q1]:List Int));bs (t1.append [.U false,(I 3),.U false,.ay (bq 5 (.b2 (eI cn)) 4),.ay (ai 2 (al (.call {aZ:=[],dm:=[],ac:=[ii,.br (.dh (.ek (([q1]:List Int).map eI)))],r:= .bk 0 0 0 b5.1,fv:=[(ae 1 eI b5.2)],ic:=ii,kk:=[.pure],fH:=[17],fz:=true}) (ai 1 (al (.aG (bK.length)) (bq 2 (.call {aZ:=[],dm:=[],ac:=[ii,.br (.dh (.ek (([q1]:List Int).map eI)))],r:= .bk 0 0 0 ex.1,fv:=[(ae 1 eI ex.2)],ic:=ii,kk:=[.pure],fH:=[17],fz:=true}) 2))))),.aN [17,23,26] [.cu (ae 1 eI ([q1]:List Int)),.cu (ae 1 eI bK),.pure] [(0,ii),(8,fV (([q1]:List Int).length)),(9,ii),(10,ii)],(Is ag ex.1 ([q1]:List Int) ex.2 gu).e8,(I 3),(I 6),(I 6),.aN [0,1,2,10] [.pure,.pure,.pure,.cu (ae 1 eI bW)] [(8,ii),(9,ii),(10,ii),(11,ii),(12,fV (bW.length)),(13,ii)],.iK 2,.aN [0,1,2,3] [.pure,.pure,.pure,.pure] (a6 [8,9,10,11,12,13]),(Iu gu.length ex.1 ((ex.1:Nat):Int) ([q1]:List Int) ex.2 e7).e8,.iK 1,.ay (ai 1 (al (.call {ac:=[.br (.dh (.ek (((e7.1.drop 0).take gu.length).map eI)))],r:= .isl 1 (nG.map eI),fz:=false,fH:=[1]}) (ai 2 (al (.b2 (eI sl)) (al (bp 2 (.dS [.isl 1 (nH.1.map eI),.n .i64 nH.2]) false) (ai 5 [])))))),.iK 2,.ay (bq 1 (.call {ac:=[.br (.dh (.ek (e7.2.map eI)))],r:= .isl 1 (mn.map eI),fz:=false,fH:=[2]}) 3)]) (aS.aG (.bg ab au aA.1 (cO eI aA.2) (bU eI bb) bi (kO (show [[.n .i64 q1]]=(([q1]:List Int)).map eI from rfl) (show 1=([q1]:List Int).length from rfl)) (gx eI q1) (.bg (du aO ([q1]:List Int)) (ij 1 aO b5.2) (Nb b5 cM) (b7.bk 0 0 0 b5.1) ((rc (pc (oY AD) ri) rh):oK [(ae 1 eI b5.2)]) (gx eI 0) (rf (cR eI b5.2) e6) (acP eI e6 0) (.bg eR (kO (show [[.n .i64 q1]]=(([q1]:List Int)).map eI from rfl) (show 1=([q1]:List Int).length from rfl)) (gx eI q1) (du aO ([q1]:List Int)) (ij 1 aO ex.2) (Nb ex ew) (b7.bk 0 0 0 ex.1) ((rc (pc (oY AD) ri) rh):oK [(ae 1 eI ex.2)]) (.bg (cU 1 .live (show [[.n .i64 q1]]=(([q1]:List Int)).map eI from rfl)) cD (cU 1 .live (JM (cR eI b5.2) b5.1 (vn eI 0))) (aF 1 .live aO bK) (aF 1 .live aO ex.2) (show 1=([q1]:List Int).length from rfl) (Wy hO) hn.1 (.bg (Int.le_refl q2) hn.2.1 hn.2.2 cD (aF 1 .live aO gu) (aF 1 .live aO ex.2) (cU 1 .live (lC eI q2.toNat 0)) (aF 1 .live aO bW) (.bg (lW q2.toNat (0:Int)) cD (aF 1 .live aO gu) (aF 1 .iK aO ex.2) (aF 1 .live aO bW) (WA gr) (JL (cR eI e7.1) 0 gu.length) (rf (cR eI e7.1) fh) (.bg (du aO ((e7.1.drop 0).take gu.length)) (ud nG jq) mR.1 mR.2 (bU eI qS) (M0 nH sk) (ga eI e7.2) (fF eI e7.2) (.e2 (du aO e7.2) (ud mn BH))))))))))))))
def sF (c3 et:bm):Option bm :=
 xn c3.cw et.cw >>= fun r1 =>
 mY (!(c3.cJ == et.cJ)) r1.1 >>= fun bd =>
 some bd
theorem Gl {c3 et:bm}:bx (sF c3 et) (fun r=>Con a7 106 [.agg (aU c3),.agg (aU et)] [] (.agg (aU r)) []):=by
 unfold sF
 exact .ar fun r1 h2 =>
  .ar fun bd au =>
  .ret (bs [(I 3),.ay (bq 4 (bp 2 (.dS [.isl 1 (r1.1.map eI),.isl 1 (r1.2.map eI)]) false) 5),.ay (bq 6 (bp 2 (.agg (aU bd)) false) 1)] (.e2 (Xq r1 h2) (sH bd au)))
def Fk (bR bo:Int)(gF jK:bt)(jm iV jl:Int)(aI:Bool)(aH:List Int)(bn:Int)(ap:List bt)(ah:List Int)(aD:List Bool)(jb:Bool)(i6:List Int)(nZ:Bool)(nU:List Int):(Int×(List (List bm)))→S:=fun (eW,a3)=>dl [(0,.ref 0 0 0 0),(1,.n .i64 bR),(2,.n .i64 bo),(6,ly 2 0 2 gF),(7,.ref 5 0 0 0),(9,ly 2 0 2 jK),(10,.ref 6 0 0 0),(30,.bk 1 0 0 ap.length),(31,.n .i64 jm),(32,.n .i64 iV),(45,.n .i64 jl),(46,.n .i64 eW)] [[ad.mk 6 [(fW 1 0 0 ap.length aI aH 3 0 0 ah.length bn 4 0 0 aD.length)] .live],(ae 1 (bj 2 0 2) ap),(b3 2 aU a3),(ae 1 eI ah),(ae 1 ed aD),[ad.mk 2 [[.b jb,.isl 1 (i6.map eI)]] .live],[ad.mk 2 [[.b nZ,.isl 1 (nU.map eI)]] .live]]
def Fu (bR bo:Int)(gF jK:bt)(jm iV jl:Int)(aI:Bool)(aH:List Int)(bn:Int)(ap:List bt)(ah:List Int)(aD:List Bool)(jb:Bool)(i6:List Int)(nZ:Bool)(nU:List Int):(List (List bm))→dq
 | a=>⟨some 2,[(0,.ref 0 0 0 0),(1,.n .i64 bR),(2,.n .i64 bo),(6,ly 2 0 2 gF),(7,.ref 5 0 0 0),(30,.bk 1 0 0 ap.length),(31,.n .i64 jm),(32,.n .i64 iV)],[[ad.mk 6 [(fW 1 0 0 ap.length aI aH 3 0 0 ah.length bn 4 0 0 aD.length)] .live],(ae 1 (bj 2 0 2) ap),(b3 2 aU a),(ae 1 eI ah),(ae 1 ed aD),[ad.mk 2 [[.b jb,.isl 1 (i6.map eI)]] .live]]⟩
def vI (bR bo:Int)(gF jK:bt)(jm iV jl:Int)(aI:Bool)(aH:List Int)(bn:Int)(ap:List bt)(ah:List Int)(aD:List Bool)(jb:Bool)(i6:List Int)(nZ:Bool)(nU:List Int)(eW:Int)(a3:List (List bm)):Option ((Int×(List (List bm)))⊕((List (List bm)))) :=
 if (decide (eW<jl))=true then
  jK >>= fun gN =>
  a3[gN.1]? >>= fun jS =>
  if 0≤eW∧eW<(gN.2:Nat) then
  jS[(0+eW.toNat)]? >>= fun fi =>
  o8 fi (⟨jb,i6⟩:bm) >>= fun b5 =>
  oR (⟨nZ,nU⟩:bm) >>= fun c0 =>
  if (c0 != (0:Int))=true then
   gF >>= fun u9 =>
   a3[u9.1]? >>= fun yA =>
   if 0≤eW∧eW<(u9.2:Nat) then
   yA[(0+eW.toNat)]? >>= fun qR =>
   oR qR >>= fun nG =>
   if (nG != (0:Int))=true then
    o8 (⟨nZ,nU⟩:bm) qR >>= fun px =>
    tU b5 px >>= fun nH =>
    sF nH (⟨aI,aH⟩:bm) >>= fun mn =>
    some (.inl (J (eW+(1:Int)),a3.set gN.1 (jS.set (0+eW.toNat) mn)))
   else
    sF b5 (⟨aI,aH⟩:bm) >>= fun px =>
    some (.inl (J (eW+(1:Int)),a3.set gN.1 (jS.set (0+eW.toNat) px)))
   else none
  else
   sF b5 (⟨aI,aH⟩:bm) >>= fun f7 =>
   some (.inl (J (eW+(1:Int)),a3.set gN.1 (jS.set (0+eW.toNat) f7)))
  else none
 else
  some (.inr a3)
def Cn (bR bo:Int)(gF jK:bt)(jm iV jl:Int)(aI:Bool)(aH:List Int)(bn:Int)(ap:List bt)(ah:List Int)(aD:List Bool)(jb:Bool)(i6:List Int)(nZ:Bool)(nU:List Int)(eW:Int)(a3:List (List bm)):Option ((List (List bm))):=iter (fun w:Int×(List (List bm))=>vI bR bo gF jK jm iV jl aI aH bn ap ah aD jb i6 nZ nU w.1 w.2) (eW,a3)
theorem SR {bR bo:Int}{gF jK:bt}{jm iV jl:Int}{aI:Bool}{aH:List Int}{bn:Int}{ap:List bt}{ah:List Int}{aD:List Bool}{jb:Bool}{i6:List Int}{nZ:Bool}{nU:List Int}{eW:Int}{a3:List (List bm)}:bx (vI bR bo gF jK jm iV jl aI aH bn ap ah aD jb i6 nZ nU eW a3) (dP a7 128 5 88 [1,1,0,1,0,0,1,1,0,0,1,1,1,1,0,0] (Fk bR bo gF jK jm iV jl aI aH bn ap ah aD jb i6 nZ nU (eW,a3)) (Fk bR bo gF jK jm iV jl aI aH bn ap ah aD jb i6 nZ nU) (Fu bR bo gF jK jm iV jl aI aH bn ap ah aD jb i6 nZ nU)):=by
 unfold vI
 exact .ite (fun h1 =>
  .ar fun gN ab =>
  .ar fun jS aA =>
  .aY fun aX =>
  .ar fun fi bi =>
  .ar fun b5 cM =>
  .ar fun c0 eR =>
  (let jr:=jU (f9 .live 2 aU a3) iZ aA;let t1:List bY:=[(I 1),.U true,(I 2),.ay (ai 2 (al (.kc 49 (.bk 2 (gN.1+0) 0 gN.2) (.gb (ad.mk 2 (jS.map aU) .live) [])) (al (.gb (ad.mk 2 (jS.map aU) .live) (aU fi)) (bq 1 (bp 2 (.agg (aU b5)) false) 2))))];
  have aS:=((.bg h1 (lX (dL:=2) (c:=0) (sz:=2) ab) jr aX.1 aX.2 jr (bU aU bi) (wv b5 cM) (.e2 (sE c0 eR) (b7.n .i64 c0))):cp _);
  .ite (fun el =>
  .ar fun u9 fO =>
  .ar fun yA hn =>
  .aY fun ho =>
  .ar fun qR fh =>
  .ar fun nG jq =>
  (let hC:=jU (f9 .live 2 aU a3) iZ hn;let t3:List bY:=t1.append [.ay (ai 1 (al (bp 1 (.n .i64 c0) true) (ai 4 (al (.kc 59 (.bk 2 (u9.1+0) 0 u9.2) (.gb (ad.mk 2 (yA.map aU) .live) [])) (al (.gb (ad.mk 2 (yA.map aU) .live) (aU qR)) (al (bp 1 (.n .i64 nG) true) (ai 1 (al (.U true) []))))))))];
  have eO:=aS.aG (.bg el el el (lX (dL:=2) (c:=0) (sz:=2) fO) hC ho.1 ho.2 el (.eE hC (bU aU fh) el (sE nG jq) (b7.n .i64 nG) el el));
  .ite (fun mR =>
  .ar fun px qS =>
  .ar fun nH sk =>
  .ar fun mn BH =>
  .ret (let q1:=jU (f9 .live 2 aU a3) iZ hn;let q2:=jU (f9 .live 2 aU a3) iZ aA;let bK:=cB [0,1,2,3,4,5,6];bf (t3.append [.U true,.ay (ai 4 (al (.kc 68 (.bk 2 (u9.1+0) 0 u9.2) (.gb (ad.mk 2 (yA.map aU) .live) [])) (al (.gb (ad.mk 2 (yA.map aU) .live) (aU qR)) (al (bp 2 (.agg (aU px)) false) (al (bp 2 (.agg (aU nH)) false) (ai 1 [])))))),.ay (ai 7 (al (bp 2 (.agg (aU mn)) false) (al (.kc 74 (.bk 2 (gN.1+0) 0 gN.2) (.gb (ad.mk 2 (jS.map aU) .live) [])) (al (.gb (ad.mk 2 (jS.map aU) .live) (aU fi)) [])))),(I 2),.aN [0,1,2,3,4,5,6] [.box [.id,.id,.id,.id,.id,.id],.bB (ae 1 (bj 2 0 2) ap),.bB (b3 2 aU (a3.set gN.1 (jS.set (0+eW.toNat) mn))),.pure,.pure,.box [.id,.id],.box [.id,.id]] (a6 [0,1,2,6,7,9,10,30,31,32,45,46])]) (eO.aG (.bg mR (lX (dL:=2) (c:=0) (sz:=2) fO) q1 ho.1 ho.2 q1 (bU aU fh) (wv px qS) (.bg (My nH sk) (Gl mn BH) (lX (dL:=2) (c:=0) (sz:=2) ab) q2 aX.1 aX.2 q2 (bU aU bi) (.c5 (eu bK 2 2 0 2 rfl ap) (m2 (b6:=bK) (oW (f9 .live 2 aU a3) gN.1 (qk (cR aU jS) (0+eW.toNat) mn (rfl:(setCells (aU fi) 0 (aU mn))=aU mn))) (mf e3)) (aF 1 .live aO ah) (aF 1 .live eS aD)))))))
  (fun mR =>
  .ar fun px qS =>
  .ret (let bW:=jU (f9 .live 2 aU a3) iZ aA;let cD:=cB [0,1,2,3,4,5,6];bf (t3.append [.U false,.ay (ai 7 (al (bp 2 (.agg (aU px)) false) (al (.kc 74 (.bk 2 (gN.1+0) 0 gN.2) (.gb (ad.mk 2 (jS.map aU) .live) [])) (al (.gb (ad.mk 2 (jS.map aU) .live) (aU fi)) [])))),(I 2),.aN [0,1,2,3,4,5,6] [.box [.id,.id,.id,.id,.id,.id],.bB (ae 1 (bj 2 0 2) ap),.bB (b3 2 aU (a3.set gN.1 (jS.set (0+eW.toNat) px))),.pure,.pure,.box [.id,.id],.box [.id,.id]] (a6 [0,1,2,6,7,9,10,30,31,32,45,46])]) (eO.aG (.bg mR (Gl px qS) (lX (dL:=2) (c:=0) (sz:=2) ab) bW aX.1 aX.2 bW (bU aU bi) (.c5 (eu cD 2 2 0 2 rfl ap) (m2 (b6:=cD) (oW (f9 .live 2 aU a3) gN.1 (qk (cR aU jS) (0+eW.toNat) px (rfl:(setCells (aU fi) 0 (aU px))=aU px))) (mf e3)) (aF 1 .live aO ah) (aF 1 .live eS aD))))))))
  (fun el =>
  .ar fun f7 fO =>
  .ret (let d5:=jU (f9 .live 2 aU a3) iZ aA;let fJ:=cB [0,1,2,3,4,5,6];bf (t1.append [.ay (ai 1 (al (bp 1 (.n .i64 c0) true) (ai 2 (ck 6 (al (.U false) []))))),.U false,.ay (ai 7 (al (bp 2 (.agg (aU f7)) false) (al (.kc 74 (.bk 2 (gN.1+0) 0 gN.2) (.gb (ad.mk 2 (jS.map aU) .live) [])) (al (.gb (ad.mk 2 (jS.map aU) .live) (aU fi)) [])))),(I 2),.aN [0,1,2,3,4,5,6] [.box [.id,.id,.id,.id,.id,.id],.bB (ae 1 (bj 2 0 2) ap),.bB (b3 2 aU (a3.set gN.1 (jS.set (0+eW.toNat) f7))),.pure,.pure,.box [.id,.id],.box [.id,.id]] (a6 [0,1,2,6,7,9,10,30,31,32,45,46])]) (aS.aG (.bg el el el el el el el cL (.bg (Gl f7 fO) (lX (dL:=2) (c:=0) (sz:=2) ab) d5 aX.1 aX.2 d5 (bU aU bi) (eu fJ 2 2 0 2 rfl ap) (.bO (m2 (b6:=fJ) (oW (f9 .live 2 aU a3) gN.1 (qk (cR aU jS) (0+eW.toNat) f7 (rfl:(setCells (aU fi) 0 (aU f7))=aU f7))) (mf e3)) (aF 1 .live aO ah) (aF 1 .live eS aD)))))))))
  (fun h1 =>
  .ret (let eB:=cB [0,1,2,3,4,5];bf [(I 1),.U false,.aN [0,1,2,3,4,5] [.box [.id,.id,.id,.id,.id,.id],.bB (ae 1 (bj 2 0 2) ap),.bB (b3 2 aU a3),.pure,.pure,.box [.id,.id]] (a6 [0,1,2,6,7,30,31,32])] (.dg h1 (eu eB 2 2 0 2 rfl ap) (dz eB 2 e3 a3) (aF 1 .live aO ah) (aF 1 .live eS aD))))
theorem Ts {bR bo:Int}{gF jK:bt}{jm iV jl:Int}{aI:Bool}{aH:List Int}{bn:Int}{ap:List bt}{ah:List Int}{aD:List Bool}{jb:Bool}{i6:List Int}{nZ:Bool}{nU:List Int}{eW:Int}{a3:List (List bm)}{r} (h:Cn bR bo gF jK jm iV jl aI aH bn ap ah aD jb i6 nZ nU eW a3=some r):dQ a7 128 5 88 [1,1,0,1,0,0,1,1,0,0,1,1,1,1,0,0] (Fk bR bo gF jK jm iV jl aI aH bn ap ah aD jb i6 nZ nU) (Fu bR bo gF jK jm iV jl aI aH bn ap ah aD jb i6 nZ nU) (eW,a3) r:=dR (fun _=>SR) h
def Fl (bR bo:Int)(gF:bt)(jm:Int)(aI:Bool)(aH:List Int)(bn:Int)(ap:List bt)(ah:List Int)(aD:List Bool)(jb:Bool)(i6:List Int):(Int×(List (List bm)))→S:=fun (iV,a3)=>dl [(0,.ref 0 0 0 0),(1,.n .i64 bR),(2,.n .i64 bo),(6,ly 2 0 2 gF),(7,.ref 5 0 0 0),(30,.bk 1 0 0 ap.length),(31,.n .i64 jm),(32,.n .i64 iV)] [[ad.mk 6 [(fW 1 0 0 ap.length aI aH 3 0 0 ah.length bn 4 0 0 aD.length)] .live],(ae 1 (bj 2 0 2) ap),(b3 2 aU a3),(ae 1 eI ah),(ae 1 ed aD),[ad.mk 2 [[.b jb,.isl 1 (i6.map eI)]] .live]]
def Fv (bR bo:Int)(gF:bt)(jm:Int)(aI:Bool)(aH:List Int)(bn:Int)(ap:List bt)(ah:List Int)(aD:List Bool)(jb:Bool)(i6:List Int):(List (List bm))→dq
 | a=>⟨some 0,[(0,.ref 0 0 0 0),(1,.n .i64 bR),(2,.n .i64 bo),(7,.ref 5 0 0 0)],[[ad.mk 6 [(fW 1 0 0 ap.length aI aH 3 0 0 ah.length bn 4 0 0 aD.length)] .live],(ae 1 (bj 2 0 2) ap),(b3 2 aU a),(ae 1 eI ah),(ae 1 ed aD),[ad.mk 2 [[.b jb,.isl 1 (i6.map eI)]] .live]]⟩
def vJ (bR bo:Int)(gF:bt)(jm:Int)(aI:Bool)(aH:List Int)(bn:Int)(ap:List bt)(ah:List Int)(aD:List Bool)(jb:Bool)(i6:List Int)(iV:Int)(a3:List (List bm)):Option ((Int×(List (List bm)))⊕((List (List bm)))) :=
 if (decide (iV<jm))=true then
  if 0≤iV∧iV<(ap.length:Nat) then
  ap[(0+iV.toNat)]? >>= fun aE =>
  if (iV == bR)=true then
   some (.inl (J (iV+(1:Int)),a3))
  else
   aE >>= fun sy =>
   a3[sy.1]? >>= fun B6 =>
   if 0≤bo∧bo<(sy.2:Nat) then
   B6[(0+bo.toNat)]? >>= fun pw =>
   Cn bR bo gF aE jm iV ((sy.2:Nat):Int) aI aH bn ap ah aD jb i6 pw.cJ pw.cw 0 a3 >>= fun ex =>
   some (.inl (J (iV+(1:Int)),ex))
   else none
  else none
 else
  some (.inr a3)
def Co (bR bo:Int)(gF:bt)(jm:Int)(aI:Bool)(aH:List Int)(bn:Int)(ap:List bt)(ah:List Int)(aD:List Bool)(jb:Bool)(i6:List Int)(iV:Int)(a3:List (List bm)):Option ((List (List bm))):=iter (fun w:Int×(List (List bm))=>vJ bR bo gF jm aI aH bn ap ah aD jb i6 w.1 w.2) (iV,a3)
theorem SS {bR bo:Int}{gF:bt}{jm:Int}{aI:Bool}{aH:List Int}{bn:Int}{ap:List bt}{ah:List Int}{aD:List Bool}{jb:Bool}{i6:List Int}{iV:Int}{a3:List (List bm)}:bx (vJ bR bo gF jm aI aH bn ap ah aD jb i6 iV a3) (dP a7 128 5 88 [1,1,0,1,0,0] (Fl bR bo gF jm aI aH bn ap ah aD jb i6 (iV,a3)) (Fl bR bo gF jm aI aH bn ap ah aD jb i6) (Fv bR bo gF jm aI aH bn ap ah aD jb i6)):=by
 unfold vJ
 exact .ite (fun h1 =>
  .aY fun h2 =>
  .ar fun aE au =>
  (let t1:List bY:=[(I 1),.U true,.ay (bq 2 (.b2 ((bj 2 0 2) aE)) 2),(I 3)];
  have aS:=((.c5 h1 h2.1 h2.2 (bU (bj 2 0 2) au)):cp _);
  .ite (fun aA =>
  .ret (let q1:=cB [0,1,2,3,4,5];bf (t1.append [.U true,(I 2),.aN [0,1,2,3,4,5] [.box [.id,.id,.id,.id,.id,.id],.bB (ae 1 (bj 2 0 2) ap),.bB (b3 2 aU a3),.pure,.pure,.box [.id,.id]] (a6 [0,1,2,6,7,30,31,32])]) (aS.aG (.dg aA (eu q1 2 2 0 2 rfl ap) (dz q1 2 e3 a3) (aF 1 .live aO ah) (aF 1 .live eS aD)))))
  (fun aA =>
  .ar fun sy bb =>
  .ar fun B6 cj =>
  .aY fun cM =>
  .ar fun pw eR =>
  .ar fun ex ew =>
  .ret (let q2:=jU (f9 .live 2 aU a3) iZ cj;let bK:=cB [0,1,2,3,4,5,19];let bW:=cB [0,1,2,3,4,5];bf (t1.append [.U false,.ay (ai 2 (al (.kc 40 (.bk 2 (sy.1+0) 0 sy.2) (.gb (ad.mk 2 (B6.map aU) .live) [])) (al (.gb (ad.mk 2 (B6.map aU) .live) (aU pw)) (ai 2 [])))),.ay (bq 1 (.kc 44 (.bk 2 (sy.1+0) 0 sy.2) (.gb (ad.mk 2 (B6.map aU) .live) [])) 1),.aN [0,1,2,3,4,5,19] [.box [.id,.id,.id,.id,.id,.id],.bB (ae 1 (bj 2 0 2) ap),.bB (b3 2 aU a3),.pure,.pure,.box [.id,.id],.box [.id,.id]] (a6 [0,1,2,6,7,9,10,30,31,32,45,46]),(Fu bR bo gF aE jm iV ((sy.2:Nat):Int) aI aH bn ap ah aD jb i6 pw.cJ pw.cw ex).e8,(I 2),.aN [0,1,2,3,4,5] [.box [.id,.id,.id,.id,.id,.id],.bB (ae 1 (bj 2 0 2) ap),.bB (b3 2 aU ex),.pure,.pure,.box [.id,.id]] (a6 [0,1,2,6,7,30,31,32])]) (aS.aG (.bg aA (lX (dL:=2) (c:=0) (sz:=2) bb) q2 cM.1 cM.2 q2 (bU aU eR) (lX (dL:=2) (c:=0) (sz:=2) bb) (.bg q2 (eu bK 2 2 0 2 rfl ap) (dz bK 2 e3 a3) (aF 1 .live aO ah) (aF 1 .live eS aD) (Ts ew) (eu bW 2 2 0 2 rfl ap) (dz bW 2 e3 ex) (.e2 (aF 1 .live aO ah) (aF 1 .live eS aD)))))))))
  (fun h1 =>
  .ret (let cD:=cB [0,1,2,3,4,5];bf [(I 1),.U false,.aN [0,1,2,3,4,5] [.box [.id,.id,.id,.id,.id,.id],.bB (ae 1 (bj 2 0 2) ap),.bB (b3 2 aU a3),.pure,.pure,.box [.id,.id]] (a6 [0,1,2,7])] (.dg h1 (eu cD 2 2 0 2 rfl ap) (dz cD 2 e3 a3) (aF 1 .live aO ah) (aF 1 .live eS aD))))
theorem Tt {bR bo:Int}{gF:bt}{jm:Int}{aI:Bool}{aH:List Int}{bn:Int}{ap:List bt}{ah:List Int}{aD:List Bool}{jb:Bool}{i6:List Int}{iV:Int}{a3:List (List bm)}{r} (h:Co bR bo gF jm aI aH bn ap ah aD jb i6 iV a3=some r):dQ a7 128 5 88 [1,1,0,1,0,0] (Fl bR bo gF jm aI aH bn ap ah aD jb i6) (Fv bR bo gF jm aI aH bn ap ah aD jb i6) (iV,a3) r:=dR (fun _=>SS) h
def Fm (jK:bt)(jj jk om:Int)(aI:Bool)(aH:List Int)(bn:Int)(ap:List bt)(ah:List Int)(aD:List Bool):(Int×(List (List bm)))→S:=fun (m3,a3)=>dl [(14,ly 2 0 2 jK),(107,.bk 1 0 0 ap.length),(108,.n .i64 jj),(109,.n .i64 jk),(114,.n .i64 om),(115,.n .i64 m3)] [[ad.mk 6 [(fW 1 0 0 ap.length aI aH 3 0 0 ah.length bn 4 0 0 aD.length)] .live],(ae 1 (bj 2 0 2) ap),(b3 2 aU a3),(ae 1 eI ah),(ae 1 ed aD)]
def Fw (jK:bt)(jj jk om:Int)(aI:Bool)(aH:List Int)(bn:Int)(ap:List bt)(ah:List Int)(aD:List Bool):(List (List bm))→dq
 | a=>⟨some 6,[(107,.bk 1 0 0 ap.length),(108,.n .i64 jj),(109,.n .i64 jk)],[[ad.mk 6 [(fW 1 0 0 ap.length aI aH 3 0 0 ah.length bn 4 0 0 aD.length)] .live],(ae 1 (bj 2 0 2) ap),(b3 2 aU a),(ae 1 eI ah),(ae 1 ed aD)]⟩
def vK (jK:bt)(jj jk om:Int)(aI:Bool)(aH:List Int)(bn:Int)(ap:List bt)(ah:List Int)(aD:List Bool)(m3:Int)(a3:List (List bm)):Option ((Int×(List (List bm)))⊕((List (List bm)))) :=
 if (decide (m3<om))=true then
  jK >>= fun gN =>
  a3[gN.1]? >>= fun jS =>
  if 0≤m3∧m3<(gN.2:Nat) then
  jS[(0+m3.toNat)]? >>= fun fi =>
  rB fi >>= fun b5 =>
  some (.inl (J (m3+(1:Int)),a3.set gN.1 (jS.set (0+m3.toNat) b5)))
  else none
 else
  some (.inr a3)
def Cp (jK:bt)(jj jk om:Int)(aI:Bool)(aH:List Int)(bn:Int)(ap:List bt)(ah:List Int)(aD:List Bool)(m3:Int)(a3:List (List bm)):Option ((List (List bm))):=iter (fun w:Int×(List (List bm))=>vK jK jj jk om aI aH bn ap ah aD w.1 w.2) (m3,a3)
theorem SU {jK:bt}{jj jk om:Int}{aI:Bool}{aH:List Int}{bn:Int}{ap:List bt}{ah:List Int}{aD:List Bool}{m3:Int}{a3:List (List bm)}:bx (vK jK jj jk om aI aH bn ap ah aD m3 a3) (dP a7 128 5 88 [1,1,1,1,1,1,1,1,0,0,1,1,0,0,1,1,0,0] (Fm jK jj jk om aI aH bn ap ah aD (m3,a3)) (Fm jK jj jk om aI aH bn ap ah aD) (Fw jK jj jk om aI aH bn ap ah aD)):=by
 unfold vK
 exact .ite (fun h1 =>
  .ar fun gN ab =>
  .ar fun jS aA =>
  .aY fun aX =>
  .ar fun fi bi =>
  .ar fun b5 cM =>
  .ret (let q1:=jU (f9 .live 2 aU a3) iZ aA;bf [(I 1),.U true,(I 2),.ay (ai 4 (al (.kc 120 (.bk 2 (gN.1+0) 0 gN.2) (.gb (ad.mk 2 (jS.map aU) .live) [])) (al (.gb (ad.mk 2 (jS.map aU) .live) (aU fi)) (al (bp 1 (.agg (aU b5)) false) (al (.kc 118 (.bk 2 (gN.1+0) 0 gN.2) (.gb (ad.mk 2 (jS.map aU) .live) [])) (al (.gb (ad.mk 2 (jS.map aU) .live) (aU fi)) [])))))),(I 2),.aN [0,1,2,3,4] [.box [.id,.id,.id,.id,.id,.id],.bB (ae 1 (bj 2 0 2) ap),.bB (b3 2 aU (a3.set gN.1 (jS.set (0+m3.toNat) b5))),.pure,.pure] (a6 [14,107,108,109,114,115])] (.bg h1 (lX (dL:=2) (c:=0) (sz:=2) ab) q1 aX.1 aX.2 q1 (bU aU bi) (F5 b5 cM) (.bg (lX (dL:=2) (c:=0) (sz:=2) ab) q1 aX.1 aX.2 q1 (bU aU bi) (eu (cB [0,1,2,3,4]) 2 2 0 2 rfl ap) (m2 (b6:=(cB [0,1,2,3,4])) (oW (f9 .live 2 aU a3) gN.1 (qk (cR aU jS) (0+m3.toNat) b5 (rfl:(setCells (aU fi) 0 (aU b5))=aU b5))) (mf e3)) (.e2 (aF 1 .live aO ah) (aF 1 .live eS aD))))))
  (fun h1 =>
  .ret (bf [(I 1),.U false,.aN [0,1,2,3,4] [.box [.id,.id,.id,.id,.id,.id],.bB (ae 1 (bj 2 0 2) ap),.bB (b3 2 aU a3),.pure,.pure] (a6 [107,108,109])] (.dg h1 (eu (cB [0,1,2,3,4]) 2 2 0 2 rfl ap) (dz (cB [0,1,2,3,4]) 2 e3 a3) (aF 1 .live aO ah) (aF 1 .live eS aD))))
theorem Tu {jK:bt}{jj jk om:Int}{aI:Bool}{aH:List Int}{bn:Int}{ap:List bt}{ah:List Int}{aD:List Bool}{m3:Int}{a3:List (List bm)}{r} (h:Cp jK jj jk om aI aH bn ap ah aD m3 a3=some r):dQ a7 128 5 88 [1,1,1,1,1,1,1,1,0,0,1,1,0,0,1,1,0,0] (Fm jK jj jk om aI aH bn ap ah aD) (Fw jK jj jk om aI aH bn ap ah aD) (m3,a3) r:=dR (fun _=>SU) h
def Fo (jj:Int)(aI:Bool)(aH:List Int)(bn:Int)(ap:List bt)(ah:List Int)(aD:List Bool):(Int×(List (List bm)))→S:=fun (jk,a3)=>dl [(107,.bk 1 0 0 ap.length),(108,.n .i64 jj),(109,.n .i64 jk)] [[ad.mk 6 [(fW 1 0 0 ap.length aI aH 3 0 0 ah.length bn 4 0 0 aD.length)] .live],(ae 1 (bj 2 0 2) ap),(b3 2 aU a3),(ae 1 eI ah),(ae 1 ed aD)]
def Fx (jj:Int)(aI:Bool)(aH:List Int)(bn:Int)(ap:List bt)(ah:List Int)(aD:List Bool):(List (List bm))→dq
 | a=>⟨some 4,[],[[ad.mk 6 [(fW 1 0 0 ap.length aI aH 3 0 0 ah.length bn 4 0 0 aD.length)] .live],(ae 1 (bj 2 0 2) ap),(b3 2 aU a),(ae 1 eI ah),(ae 1 ed aD)]⟩
def vL (jj:Int)(aI:Bool)(aH:List Int)(bn:Int)(ap:List bt)(ah:List Int)(aD:List Bool)(jk:Int)(a3:List (List bm)):Option ((Int×(List (List bm)))⊕((List (List bm)))) :=
 if (decide (jk<jj))=true then
  if 0≤jk∧jk<(ap.length:Nat) then
  ap[(0+jk.toNat)]? >>= fun aE =>
  aE >>= fun lz =>
  a3[lz.1]? >>= fun ix =>
  Cp aE jj jk ((lz.2:Nat):Int) aI aH bn ap ah aD 0 a3 >>= fun b5 =>
  some (.inl (J (jk+(1:Int)),b5))
  else none
 else
  some (.inr a3)
def yS (jj:Int)(aI:Bool)(aH:List Int)(bn:Int)(ap:List bt)(ah:List Int)(aD:List Bool)(jk:Int)(a3:List (List bm)):Option ((List (List bm))):=iter (fun w:Int×(List (List bm))=>vL jj aI aH bn ap ah aD w.1 w.2) (jk,a3)
theorem SV {jj:Int}{aI:Bool}{aH:List Int}{bn:Int}{ap:List bt}{ah:List Int}{aD:List Bool}{jk:Int}{a3:List (List bm)}:bx (vL jj aI aH bn ap ah aD jk a3) (dP a7 128 5 88 [1,1,1,1,1,1,1,1,0,0] (Fo jj aI aH bn ap ah aD (jk,a3)) (Fo jj aI aH bn ap ah aD) (Fx jj aI aH bn ap ah aD)):=by
 unfold vL
 exact .ite (fun h1 =>
  .aY fun h2 =>
  .ar fun aE au =>
  .ar fun lz aX =>
  .ar fun ix bi =>
  .ar fun b5 cM =>
  .ret (let q1:=cB [0,1,2,3,4];let q2:=eu q1 2 2 0 2 rfl ap;bf [(I 1),.U true,.ay (bq 1 (.b2 ((bj 2 0 2) aE)) 1),.ay (bq 1 (.kc 113 (.bk 2 (lz.1+0) 0 lz.2) (.gb (ad.mk 2 (ix.map aU) .live) [])) 1),.aN [0,1,2,3,4] [.box [.id,.id,.id,.id,.id,.id],.bB (ae 1 (bj 2 0 2) ap),.bB (b3 2 aU a3),.pure,.pure] (a6 [14,107,108,109,114,115]),(Fw aE jj jk ((lz.2:Nat):Int) aI aH bn ap ah aD b5).e8,(I 2),.aN [0,1,2,3,4] [.box [.id,.id,.id,.id,.id,.id],.bB (ae 1 (bj 2 0 2) ap),.bB (b3 2 aU b5),.pure,.pure] (a6 [107,108,109])] (.bg h1 h2.1 h2.2 (bU (bj 2 0 2) au) (lX (dL:=2) (c:=0) (sz:=2) aX) (jU (f9 .live 2 aU a3) iZ bi) q2 (dz q1 2 e3 a3) (.eE (aF 1 .live aO ah) (aF 1 .live eS aD) (Tu cM) q2 (dz q1 2 e3 b5) (aF 1 .live aO ah) (aF 1 .live eS aD)))))
  (fun h1 =>
  .ret (bf [(I 1),.U false,.aN [0,1,2,3,4] [.box [.id,.id,.id,.id,.id,.id],.bB (ae 1 (bj 2 0 2) ap),.bB (b3 2 aU a3),.pure,.pure] []] (.dg h1 (eu (cB [0,1,2,3,4]) 2 2 0 2 rfl ap) (dz (cB [0,1,2,3,4]) 2 e3 a3) (aF 1 .live aO ah) (aF 1 .live eS aD))))
theorem Tv {jj:Int}{aI:Bool}{aH:List Int}{bn:Int}{ap:List bt}{ah:List Int}{aD:List Bool}{jk:Int}{a3:List (List bm)}{r} (h:yS jj aI aH bn ap ah aD jk a3=some r):dQ a7 128 5 88 [1,1,1,1,1,1,1,1,0,0] (Fo jj aI aH bn ap ah aD) (Fx jj aI aH bn ap ah aD) (jk,a3) r:=dR (fun _=>SV) h
def wx (bR bo:Int)(oG:Bool)(oC:List Int)(jy:Int)(fb:List bt)(lR:List (List bm))(h9:List Int)(hp:List Bool):Option (Bool×(List Int)×(List (List bm))×(List Int)) :=
 if 0≤bR∧bR<(fb.length:Nat) then
 fb[(0+bR.toNat)]? >>= fun x2 =>
 x2 >>= fun jv =>
 lR[jv.1]? >>= fun mV =>
 if 0≤bo∧bo<(jv.2:Nat) then
 mV[(0+bo.toNat)]? >>= fun ep =>
 Co bR bo x2 ((fb.length:Nat):Int) oG oC jy fb h9 hp ep.cJ ep.cw 0 lR >>= fun c0 =>
 if 0≤bR∧bR<(h9.length:Nat) then
 if (0+bR.toNat)<h9.length then
 oR ep >>= fun gu =>
 if (decide ((0:Int)<gu))=true then
  some (ep.cJ,ep.cw,c0,h9.set (0+bR.toNat) bo)
 else
  rB ep >>= fun e7 =>
  yS ((fb.length:Nat):Int) e7.cJ e7.cw jy fb (h9.set (0+bR.toNat) bo) hp 0 c0 >>= fun km =>
  some (e7.cJ,e7.cw,km,h9.set (0+bR.toNat) bo)
 else none
 else none
 else none
 else none
theorem Mm {bR bo:Int}{oG:Bool}{oC:List Int}{jy:Int}{fb:List bt}{lR:List (List bm)}{h9:List Int}{hp:List Bool}:bx (wx bR bo oG oC jy fb lR h9 hp) (fun a=>Con a7 88 [.ref 0 0 0 0,.n .i64 bR,.n .i64 bo] [[ad.mk 6 [(fW 1 0 0 fb.length oG oC 3 0 0 h9.length jy 4 0 0 hp.length)] .live],(ae 1 (bj 2 0 2) fb),(b3 2 aU lR),(ae 1 eI h9),(ae 1 ed hp)] (.dS []) [[ad.mk 6 [(fW 1 0 0 fb.length a.1 a.2.1 3 0 0 a.2.2.2.length jy 4 0 0 hp.length)] .live],(ae 1 (bj 2 0 2) fb),(b3 2 aU a.2.2.1),(ae 1 eI a.2.2.2),(ae 1 ed hp)]):=by
 unfold wx
 exact .aY fun h1 =>
  .ar fun x2 ab =>
  .ar fun jv aA =>
  .ar fun mV bb =>
  .aY fun bi =>
  .ar fun ep cM =>
  .ar fun c0 eR =>
  .aY fun el =>
  .aY fun ew =>
  .ar fun gu hO =>
  (let fJ:=jU (f9 .live 2 aU lR) iZ bb;let eB:=cB [0,1,2,3,4,17];let t1:List bY:=[.ay (bq 6 (.b2 ((bj 2 0 2) x2)) 1),.ay (ai 2 (al (.kc 23 (.bk 2 (jv.1+0) 0 jv.2) (.gb (ad.mk 2 (mV.map aU) .live) [])) (al (.gb (ad.mk 2 (mV.map aU) .live) (aU ep)) (ai 2 [])))),(I 6),.aN [0,1,2,3,4,17] [.box [.id,.id,.id,.id,.id,.id],.bB (ae 1 (bj 2 0 2) fb),.bB (b3 2 aU lR),.pure,.pure,.box [.id,.id]] (a6 [0,1,2,6,7,30,31,32]),(Fv bR bo x2 ((fb.length:Nat):Int) oG oC jy fb h9 hp ep.cJ ep.cw c0).e8,(I 5),.ay (ai 7 (al .fM [])),.ay (bq 1 (bp 1 (.n .i64 gu) true) 1)];
  have aS:=((.bg h1.1 h1.2 (bU (bj 2 0 2) ab) (lX (dL:=2) (c:=0) (sz:=2) aA) fJ bi.1 bi.2 fJ (.bg (bU aU cM) (eu eB 2 2 0 2 rfl fb) (dz eB 2 e3 lR) (aF 1 .live aO h9) (aF 1 .live eS hp) (Tt eR) el.1 el.2 (.c5 (hz eI ew) (ht 1) (sE gu hO) (b7.n .i64 gu)))):cp _);
  .ite (fun hn =>
  .ret (let q1:=fW 1 0 0 fb.length ep.cJ ep.cw 3 0 0 ((h9.set (0+bR.toNat) bo).length) jy 4 0 0 hp.length;let q2:=cB [0,1,2,3,4];lQ (t1.append [.U true]) [0,1,2,3,4] [.bB [ad.mk 6 [q1] .live],.bB (ae 1 (bj 2 0 2) fb),.bB (b3 2 aU c0),.cu (ae 1 eI (h9.set (0+bR.toNat) bo)),.pure] (aS.aG (.eE hn (c2 (show ad.mk 6 [q1] .live=gC q2 (ad.mk 6 [(fW 1 0 0 fb.length ep.cJ ep.cw 3 0 0 h9.length jy 4 0 0 hp.length)] .live) from (congrArg (fun B5=>ad.mk 6 [(fW 1 0 0 fb.length ep.cJ ep.cw 3 0 0 B5 jy 4 0 0 hp.length)] .live) (hP (dF h9) (0+bR.toNat) bo).symm)) oX) (eu q2 2 2 0 2 rfl fb) (dz q2 2 e3 c0) (cU 1 .live (gD (cR eI h9) (0+bR.toNat) bo)) (aF 1 .live aO (h9.set (0+bR.toNat) bo)) (aF 1 .live eS hp)))))
  (fun hn =>
  .ar fun e7 gr =>
  .ar fun km gS =>
  .ret (let bK:=fW 1 0 0 fb.length e7.cJ e7.cw 3 0 0 ((h9.set (0+bR.toNat) bo).length) jy 4 0 0 hp.length;let bW:=cB [0,1,2,3,4];let cD:=aF 1 .live aO (h9.set (0+bR.toNat) bo);let d5:=eu bW 2 2 0 2 rfl fb;lQ (t1.append [.U false,.ay (bq 2 (bp 1 (.agg (aU e7)) false) 3),(I 6),.aN [0,1,2,3,4] [.box [.id,.id,.id,.len ((h9.set (0+bR.toNat) bo).length),.id,.id],.bB (ae 1 (bj 2 0 2) fb),.bB (b3 2 aU c0),.cu (ae 1 eI (h9.set (0+bR.toNat) bo)),.pure] (a6 [107,108,109]),(Fx ((fb.length:Nat):Int) e7.cJ e7.cw jy fb (h9.set (0+bR.toNat) bo) hp km).e8]) [0,1,2,3,4] [.bB [ad.mk 6 [bK] .live],.bB (ae 1 (bj 2 0 2) fb),.bB (b3 2 aU km),.pure,.pure] (aS.aG (.bg hn (F5 e7 gr) (hP (dF h9) (0+bR.toNat) bo) d5 (dz bW 2 e3 c0) (cU 1 .live (gD (cR eI h9) (0+bR.toNat) bo)) cD (aF 1 .live eS hp) (.dU (Tv gS) (x1 bW 6 [bK] [bK] rfl) d5 (dz bW 2 e3 km) cD (aF 1 .live eS hp)))))))
def E7 (b9:Int)(aI:Bool)(aH:List Int)(ap:List bt)(a3:List (List bm))(ah:List Int)(aD:List Bool)(bz:List Int):Int→S:=fun bT=>dl [(0,.ref 0 0 0 0),(1,.bk 5 0 0 bz.length),(5,.b false),(13,.n .i64 b9),(14,.n .i64 bT)] [[ad.mk 6 [(fW 1 0 0 ap.length aI aH 3 0 0 ah.length b9 4 0 0 aD.length)] .live],(ae 1 (bj 2 0 2) ap),(b3 2 aU a3),(ae 1 eI ah),(ae 1 ed aD),(ae 1 eI bz)]
def Cf (b9:Int)(aI:Bool)(aH:List Int)(ap:List bt)(a3:List (List bm))(ah:List Int)(aD:List Bool)(bz:List Int):((Bool×Bool×(List Int)×(List (List bm))×(List Int))⊕(Unit))→dq
 | .inl a=>⟨some 2,[(0,.ref 0 0 0 0),(1,.bk 5 0 0 bz.length),(5,.b a.1)],[[ad.mk 6 [(fW 1 0 0 ap.length a.2.1 a.2.2.1 3 0 0 a.2.2.2.2.length b9 4 0 0 aD.length)] .live],(ae 1 (bj 2 0 2) ap),(b3 2 aU a.2.2.2.1),(ae 1 eI a.2.2.2.2),(ae 1 ed aD),(ae 1 eI bz)]⟩
 | .inr a=>⟨none,[(4,.b false)],[[ad.mk 6 [(fW 1 0 0 ap.length aI aH 3 0 0 ah.length b9 4 0 0 aD.length)] .live],(ae 1 (bj 2 0 2) ap),(b3 2 aU a3),(ae 1 eI ah),(ae 1 ed aD),(ae 1 eI bz)]⟩
def vE (b9:Int)(aI:Bool)(aH:List Int)(ap:List bt)(a3:List (List bm))(ah:List Int)(aD:List Bool)(bz:List Int)(bT:Int):Option ((Int)⊕((Bool×Bool×(List Int)×(List (List bm))×(List Int))⊕(Unit))) :=
 if (decide (bT<b9))=true then
  if 0≤bT∧bT<(aD.length:Nat) then
  aD[(0+bT.toNat)]? >>= fun aE =>
  if aE=true then
   rL ah bT >>= fun cc =>
   if cc=true then
    some (.inl (J (bT+(1:Int))))
   else
    if ap.all (qM a3)=true then
    wV (⟨ap.map (ir a3),(⟨aI,aH⟩:bm),ah,b9,aD⟩:qi) bz bT >>= fun ec =>
    if (decide (ec≤(0:Int)))=true then
     some (.inl (J (bT+(1:Int))))
    else
     yY (⟨ap.map (ir a3),(⟨aI,aH⟩:bm),ah,b9,aD⟩:qi) bT >>= fun ex =>
     if (decide (ex<(0:Int)))=true then
      some (.inr (.inr ()))
     else
      wx ex bT aI aH b9 ap a3 ah aD >>= fun ey =>
      some (.inr (.inl (true,ey.1,ey.2.1,ey.2.2.1,ey.2.2.2)))
    else none
  else
   some (.inl (J (bT+(1:Int))))
  else none
 else
  some (.inr (.inl (false,aI,aH,a3,ah)))
def vP (b9:Int)(aI:Bool)(aH:List Int)(ap:List bt)(a3:List (List bm))(ah:List Int)(aD:List Bool)(bz:List Int)(bT:Int):Option ((Bool×Bool×(List Int)×(List (List bm))×(List Int))⊕(Unit)):=iter (fun w:Int=>vE b9 aI aH ap a3 ah aD bz w) bT
theorem SD {b9:Int}{aI:Bool}{aH:List Int}{ap:List bt}{a3:List (List bm)}{ah:List Int}{aD:List Bool}{bz:List Int}{bT:Int}:bx (vE b9 aI aH ap a3 ah aD bz bT) (dP a7 87 6 63 [1,0,1,0,0,1,0,1,1,0,0] (E7 b9 aI aH ap a3 ah aD bz bT) (E7 b9 aI aH ap a3 ah aD bz) (Cf b9 aI aH ap a3 ah aD bz)):=by
 unfold vE
 exact .ite (fun h1 =>
  .aY fun h2 =>
  .ar fun aE au =>
  (let t1:List bY:=[(I 1),.U true,(I 2)];
  .ite (fun aA =>
  .ar fun cc bb =>
  (have aS:=((.bg h1 h2.1 h2.2 (bU ed au) (cV aA) (cV aA) (cV aA) (cV aA) (.gJ (cV aA) (cV aA) (ga eI ah) (fF eI ah) (du aO ah) (I7 cc bb) (b7.b cc) (cV aA))):cp _);
  .ite (fun bi =>
  .ret (let q1:=cB [0,1,2,3,4,5];bf (t1.append [.ay (ai 6 (al (.b2 (ed aE)) (ai 7 (al (.call {ac:=[.br (.dh (.ek (ah.map eI))),ii],r:= .b cc,fz:=true,fH:=[3]}) (al (.U false) (ai 1 (ck 5 (al (.U true) [])))))))),.U true,(I 2),.aN [0,1,2,3,4,5] [.box [.id,.id,.id,.id,.id,.id],.bB (ae 1 (bj 2 0 2) ap),.bB (b3 2 aU a3),.pure,.pure,.pure] (a6 [0,1,5,13,14])]) (aS.aG (.bg bi bi bi bi bi bi cv (eu q1 2 2 0 2 rfl ap) (.c5 (dz q1 2 e3 a3) (aF 1 .live aO ah) (aF 1 .live eS aD) (aF 1 .live aO bz))))))
  (fun bi =>
  .aY fun cj =>
  .ar fun ec e6 =>
  (let t3:List bY:=t1.append [.ay (ai 6 (al (.b2 (ed aE)) (ai 7 (al (.call {ac:=[.br (.dh (.ek (ah.map eI))),ii],r:= .b cc,fz:=true,fH:=[3]}) (al (.U false) (ai 4 (al (.call {ac:=[.br (.ptr [.view 2 (ad.mk 1 (ap.map (bj 2 0 2)) .live) ((ap.map (ir a3)).map (en 2 aU)),.id,.id,.ek (ah.map eI),.id,.ek (aD.map ed)]),.br (.dh (.ek (bz.map eI))),ii],r:= .n .i64 ec,fz:=true,fH:=[0,1,2,3,4,5]}) (ai 1 (al (.U false) [])))))))))];
  have eO:=aS.aG (.bg bi bi bi bi (rfl:dc (some (ae 1 (bj 2 0 2) ap)) 0=some (ad.mk 1 (ap.map (bj 2 0 2)) .live)) (rfl:_=true) (fF (bj 2 0 2) ap) (du (nn (sz:=2) rI) (ap.map (ir a3))) (.bg (uG (dL:=2) (jc:=[]++(b3 2 aU a3)) (b1:=kw) (sz:=1) (g:=(en 2 aU)) (cR (bj 2 0 2) ap) (fun _=>rfl) (fun x R=>(yq (dL:=2) (c:=0) (b1:=kw) (qx:=[]) (f9 .live 2 aU a3) rI rfl iZ rfl (xL cj x R))) (dF ap)) (ga eI ah) (fF eI ah) (du aO ah) (ga ed aD) (fF ed aD) (du eS aD) (qj (Iw (⟨ap.map (ir a3),(⟨aI,aH⟩:bm),ah,b9,aD⟩:qi)):jx [[.isl 1 ((ap.map (ir a3)).map (en 2 aU)),.b aI,.isl 1 (aH.map eI),.isl 1 (ah.map eI),.n .i64 b9,.isl 1 (aD.map ed)]]) (.eE (ga eI bz) (fF eI bz) (du aO bz) (Mz ec e6) (b7.n .i64 ec) bi bi)));
  .ite (fun eR =>
  .ret (let q2:=cB [0,1,2,3,4,5];bf (t3.append [.U true,(I 2),.aN [0,1,2,3,4,5] [.box [.id,.id,.id,.id,.id,.id],.bB (ae 1 (bj 2 0 2) ap),.bB (b3 2 aU a3),.pure,.pure,.pure] (a6 [0,1,5,13,14])]) (eO.aG (.dU eR (eu q2 2 2 0 2 rfl ap) (dz q2 2 e3 a3) (aF 1 .live aO ah) (aF 1 .live eS aD) (aF 1 .live aO bz)))))
  (fun eR =>
  .ar fun ex ew =>
  (let t5:List bY:=t3.append [.U false,.ay (bq 2 (.call {ac:=[.br (.ptr [.view 2 (ad.mk 1 (ap.map (bj 2 0 2)) .live) ((ap.map (ir a3)).map (en 2 aU)),.id,.id,.ek (ah.map eI),.id,.ek (aD.map ed)]),ii],r:= .n .i64 ex,fz:=true,fH:=[0,1,2,3,4]}) 1),(I 2)];
  have kF:=eO.aG (.bg eR (rfl:dc (some (ae 1 (bj 2 0 2) ap)) 0=some (ad.mk 1 (ap.map (bj 2 0 2)) .live)) (rfl:_=true) (fF (bj 2 0 2) ap) (du (nn (sz:=2) rI) (ap.map (ir a3))) (uG (dL:=2) (jc:=[]++(b3 2 aU a3)) (b1:=kw) (sz:=1) (g:=(en 2 aU)) (cR (bj 2 0 2) ap) (fun _=>rfl) (fun x R=>(yq (dL:=2) (c:=0) (b1:=kw) (qx:=[]) (f9 .live 2 aU a3) rI rfl iZ rfl (xL cj x R))) (dF ap)) (ga eI ah) (fF eI ah) (.eE (du aO ah) (ga ed aD) (fF ed aD) (du eS aD) (qj (Iw (⟨ap.map (ir a3),(⟨aI,aH⟩:bm),ah,b9,aD⟩:qi)):jx [[.isl 1 ((ap.map (ir a3)).map (en 2 aU)),.b aI,.isl 1 (aH.map eI),.isl 1 (ah.map eI),.n .i64 b9,.isl 1 (aD.map ed)]]) (T2 ex ew) (b7.n .i64 ex)));
  .ite (fun fO =>
  .ret (let bK:=cB [0,1,2,3,4,5];bf (t5.append [.U true,(I 1),.aN [0,1,2,3,4,5] [.box [.id,.id,.id,.id,.id,.id],.bB (ae 1 (bj 2 0 2) ap),.bB (b3 2 aU a3),.pure,.pure,.pure] (a6 [4])]) (kF.aG (.dU fO (eu bK 2 2 0 2 rfl ap) (dz bK 2 e3 a3) (aF 1 .live aO ah) (aF 1 .live eS aD) (aF 1 .live aO bz)))))
  (fun fO =>
  .ar fun ey hn =>
  .ret (let bW:=fW 1 0 0 ap.length ey.1 ey.2.1 3 0 0 ey.2.2.2.length b9 4 0 0 aD.length;let cD:=fW 1 0 0 ap.length aI aH 3 0 0 ah.length b9 4 0 0 aD.length;let d5:=ae 1 (bj 2 0 2) ap;let fJ:=b3 2 aU ey.2.2.1;let eB:=o7 [0,1,2,3,4];let hC:=jG [0,1,2,3,4];let jr:=kD 1 (ap.map (bj 2 0 2));let js:=cB [0,1,2,3,4,5];bf (t5.append [.U false,.ay (ai 3 (al (.call {aZ:=(u3 [0,1,2,3,4]),dm:=[.bB [ad.mk 6 [cD] .live],.bB d5,.bB (b3 2 aU a3),.pure,.pure],ac:=[ii,ii,ii],r:= .dS [],fv:=[[ad.mk 6 [bW] .live],d5,fJ,(ae 1 eI ey.2.2.2),(ae 1 ed aD)],ic:=ii,kk:=[.bB [ad.mk 6 [bW] .live],.bB d5,.bB fJ,.pure,.pure],fH:=[0,1,2,3,4],fz:=false}) [])),(I 1),.aN [0,1,2,3,4,5] [.box [.id,.id,.id,.id,.id,.id],.bB d5,.bB fJ,.pure,.pure,.pure] (a6 [0,1,5])]) (kF.aG (.bg fO (x1 eB 6 [cD] [cD] rfl) (kD 6 [cD]) (eu eB 2 2 0 2 rfl ap) jr (dz eB 2 e3 a3) (ty 2 aU a3) (ij 1 aO ah) (.bg (ij 1 eS aD) (x1 hC 6 [bW] [bW] rfl) (kD 6 [bW]) (eu hC 2 2 0 2 rfl ap) jr (dz hC 2 e3 ey.2.2.1) (ty 2 aU ey.2.2.1) (ij 1 aO ey.2.2.2) (.eE (ij 1 eS aD) (Mm ey hn) (eu js 2 2 0 2 rfl ap) (dz js 2 e3 ey.2.2.1) (aF 1 .live aO ey.2.2.2) (aF 1 .live eS aD) (aF 1 .live aO bz)))))))))))))
  (fun aA =>
  .ret (let mj:=cB [0,1,2,3,4,5];bf (t1.append [.ay (ai 6 (al (.b2 (ed aE)) (ai 2 (ck 6 (al (.U true) (ai 1 (ck 5 (ai 1 [])))))))),.U true,(I 2),.aN [0,1,2,3,4,5] [.box [.id,.id,.id,.id,.id,.id],.bB (ae 1 (bj 2 0 2) ap),.bB (b3 2 aU a3),.pure,.pure,.pure] (a6 [0,1,5,13,14])]) (.bg h1 h2.1 h2.2 (bU ed au) (cT aA) (cT aA) (cT aA) (cT aA) (.bg (cT aA) (cT aA) (cT aA) cv cv cv cv cv (.dU cv (eu mj 2 2 0 2 rfl ap) (dz mj 2 e3 a3) (aF 1 .live aO ah) (aF 1 .live eS aD) (aF 1 .live aO bz))))))))
  (fun h1 =>
  .ret (let iF:=cB [0,1,2,3,4,5];bf [(I 1),.U false,.aN [0,1,2,3,4,5] [.box [.id,.id,.id,.id,.id,.id],.bB (ae 1 (bj 2 0 2) ap),.bB (b3 2 aU a3),.pure,.pure,.pure] (a6 [0,1,5])] (.dU h1 (eu iF 2 2 0 2 rfl ap) (dz iF 2 e3 a3) (aF 1 .live aO ah) (aF 1 .live eS aD) (aF 1 .live aO bz))))
theorem Mf {b9:Int}{aI:Bool}{aH:List Int}{ap:List bt}{a3:List (List bm)}{ah:List Int}{aD:List Bool}{bz:List Int}{bT:Int}{r} (h:vP b9 aI aH ap a3 ah aD bz bT=some r):dQ a7 87 6 63 [1,0,1,0,0,1,0,1,1,0,0] (E7 b9 aI aH ap a3 ah aD bz) (Cf b9 aI aH ap a3 ah aD bz) bT r:=dR (fun _=>SD) h
def E8 (bn:Int)(ap:List bt)(aD:List Bool)(bz:List Int):(Bool×Bool×(List Int)×(List (List bm))×(List Int))→S:=fun (qm,aI,aH,a3,ah)=>dl [(0,.ref 0 0 0 0),(1,.bk 5 0 0 bz.length),(5,.b qm)] [[ad.mk 6 [(fW 1 0 0 ap.length aI aH 3 0 0 ah.length bn 4 0 0 aD.length)] .live],(ae 1 (bj 2 0 2) ap),(b3 2 aU a3),(ae 1 eI ah),(ae 1 ed aD),(ae 1 eI bz)]
def Cg (bn:Int)(ap:List bt)(aD:List Bool)(bz:List Int):((Bool×(List Int)×(List (List bm))×(List Int))⊕(Bool×(List Int)×(List (List bm))×(List Int)))→dq
 | .inl a=>⟨some 0,[(0,.ref 0 0 0 0),(1,.bk 5 0 0 bz.length)],[[ad.mk 6 [(fW 1 0 0 ap.length a.1 a.2.1 3 0 0 a.2.2.2.length bn 4 0 0 aD.length)] .live],(ae 1 (bj 2 0 2) ap),(b3 2 aU a.2.2.1),(ae 1 eI a.2.2.2),(ae 1 ed aD),(ae 1 eI bz)]⟩
 | .inr a=>⟨none,[(4,.b false)],[[ad.mk 6 [(fW 1 0 0 ap.length a.1 a.2.1 3 0 0 a.2.2.2.length bn 4 0 0 aD.length)] .live],(ae 1 (bj 2 0 2) ap),(b3 2 aU a.2.2.1),(ae 1 eI a.2.2.2),(ae 1 ed aD),(ae 1 eI bz)]⟩
def tF (bn:Int)(ap:List bt)(aD:List Bool)(bz:List Int)(qm aI:Bool)(aH:List Int)(a3:List (List bm))(ah:List Int):Option ((Bool×Bool×(List Int)×(List (List bm))×(List Int))⊕((Bool×(List Int)×(List (List bm))×(List Int))⊕(Bool×(List Int)×(List (List bm))×(List Int)))) :=
 if qm=true then
  vP bn aI aH ap a3 ah aD bz 0 >>= fun r2 =>
  match r2 with
  | .inl fK=>(some (.inl (fK.1,fK.2.1,fK.2.2.1,fK.2.2.2.1,fK.2.2.2.2)))
  | .inr fK=>(some (.inr (.inr (aI,aH,a3,ah))))
 else
  some (.inr (.inl (aI,aH,a3,ah)))
def Ck (bn:Int)(ap:List bt)(aD:List Bool)(bz:List Int)(qm aI:Bool)(aH:List Int)(a3:List (List bm))(ah:List Int):Option ((Bool×(List Int)×(List (List bm))×(List Int))⊕(Bool×(List Int)×(List (List bm))×(List Int))):=iter (fun w:Bool×Bool×(List Int)×(List (List bm))×(List Int)=>tF bn ap aD bz w.1 w.2.1 w.2.2.1 w.2.2.2.1 w.2.2.2.2) (qm,aI,aH,a3,ah)
theorem SE {bn:Int}{ap:List bt}{aD:List Bool}{bz:List Int}{qm aI:Bool}{aH:List Int}{a3:List (List bm)}{ah:List Int}:bx (tF bn ap aD bz qm aI aH a3 ah) (dP a7 87 6 63 [1,0,1,0,0] (E8 bn ap aD bz (qm,aI,aH,a3,ah)) (E8 bn ap aD bz) (Cg bn ap aD bz)):=by
 unfold tF
 exact .ite (fun h1 =>
  .ar fun r2 ab =>
  (let bW:=cB [0,1,2,3,4,5];let t1:List bY:=[(I 1),.U true,(I 1),(I 5),.aN [0,1,2,3,4,5] [.box [.id,.id,.id,.id,.id,.id],.bB (ae 1 (bj 2 0 2) ap),.bB (b3 2 aU a3),.pure,.pure,.pure] (a6 [0,1,5,13,14])];
  have aS:=((.dU h1 (eu bW 2 2 0 2 rfl ap) (dz bW 2 e3 a3) (aF 1 .live aO ah) (aF 1 .live eS aD) (aF 1 .live aO bz)):cp _);
  (by
  rcases r2 with fK|fK
  ·exact (.ret (let q1:=cB [0,1,2,3,4,5];bf (t1.append [(Cf bn aI aH ap a3 ah aD bz (.inl fK)).e8,.aN [0,1,2,3,4,5] [.box [.id,.id,.id,.id,.id,.id],.bB (ae 1 (bj 2 0 2) ap),.bB (b3 2 aU fK.2.2.2.1),.pure,.pure,.pure] (a6 [0,1,5])]) (aS.aG (.dU (Mf ab) (eu q1 2 2 0 2 rfl ap) (dz q1 2 e3 fK.2.2.2.1) (aF 1 .live aO fK.2.2.2.2) (aF 1 .live eS aD) (aF 1 .live aO bz)))))
  ·exact (.ret (let q2:=cB [0,1,2,3,4,5];bf (t1.append [(Cf bn aI aH ap a3 ah aD bz (.inr fK)).e8,.aN [0,1,2,3,4,5] [.box [.id,.id,.id,.id,.id,.id],.bB (ae 1 (bj 2 0 2) ap),.bB (b3 2 aU a3),.pure,.pure,.pure] (a6 [4])]) (aS.aG (.dU (Mf ab) (eu q2 2 2 0 2 rfl ap) (dz q2 2 e3 a3) (aF 1 .live aO ah) (aF 1 .live eS aD) (aF 1 .live aO bz))))))))
  (fun h1 =>
  .ret (let bK:=cB [0,1,2,3,4,5];bf [(I 1),.U false,.aN [0,1,2,3,4,5] [.box [.id,.id,.id,.id,.id,.id],.bB (ae 1 (bj 2 0 2) ap),.bB (b3 2 aU a3),.pure,.pure,.pure] (a6 [0,1])] (.dU h1 (eu bK 2 2 0 2 rfl ap) (dz bK 2 e3 a3) (aF 1 .live aO ah) (aF 1 .live eS aD) (aF 1 .live aO bz))))
theorem Mg {bn:Int}{ap:List bt}{aD:List Bool}{bz:List Int}{qm aI:Bool}{aH:List Int}{a3:List (List bm)}{ah:List Int}{r} (h:Ck bn ap aD bz qm aI aH a3 ah=some r):dQ a7 87 6 63 [1,0,1,0,0] (E8 bn ap aD bz) (Cg bn ap aD bz) (qm,aI,aH,a3,ah) r:=dR (fun _=>SE) h
def E9 (dW:Int)(aI:Bool)(aH:List Int)(ap:List bt)(a3:List (List bm))(ah bz:List Int):(Int×(List Bool))→S:=fun (fg,aD)=>dl [(0,.ref 0 0 0 0),(1,.bk 5 0 0 bz.length),(53,.n .i64 dW),(54,.n .i64 fg)] [[ad.mk 6 [(fW 1 0 0 ap.length aI aH 3 0 0 ah.length dW 4 0 0 aD.length)] .live],(ae 1 (bj 2 0 2) ap),(b3 2 aU a3),(ae 1 eI ah),(ae 1 ed aD),(ae 1 eI bz)]
def Fg (dW:Int)(aI:Bool)(aH:List Int)(ap:List bt)(a3:List (List bm))(ah bz:List Int):(List Bool)→dq
 | a=>⟨some 4,[],[[ad.mk 6 [(fW 1 0 0 ap.length aI aH 3 0 0 ah.length dW 4 0 0 a.length)] .live],(ae 1 (bj 2 0 2) ap),(b3 2 aU a3),(ae 1 eI ah),(ae 1 ed a),(ae 1 eI bz)]⟩
def vF (dW:Int)(aI:Bool)(aH:List Int)(ap:List bt)(a3:List (List bm))(ah bz:List Int)(fg:Int)(aD:List Bool):Option ((Int×(List Bool))⊕((List Bool))) :=
 if (decide (fg<dW))=true then
  if 0≤fg∧fg<(aD.length:Nat) then
  aD[(0+fg.toNat)]? >>= fun aE =>
  if aE=true then
   rL ah fg >>= fun cc =>
   if cc=true then
    some (.inl (J (fg+(1:Int)),aD))
   else
    if ap.all (qM a3)=true then
    wV (⟨ap.map (ir a3),(⟨aI,aH⟩:bm),ah,dW,aD⟩:qi) bz fg >>= fun ec =>
    if (decide (ec<(0:Int)))=true then
     if (0+fg.toNat)<aD.length then
     some (.inl (J (fg+(1:Int)),aD.set (0+fg.toNat) false))
     else none
    else
     some (.inl (J (fg+(1:Int)),aD))
    else none
  else
   some (.inl (J (fg+(1:Int)),aD))
  else none
 else
  some (.inr aD)
def Cl (dW:Int)(aI:Bool)(aH:List Int)(ap:List bt)(a3:List (List bm))(ah bz:List Int)(fg:Int)(aD:List Bool):Option ((List Bool)):=iter (fun w:Int×(List Bool)=>vF dW aI aH ap a3 ah bz w.1 w.2) (fg,aD)
theorem SF {dW:Int}{aI:Bool}{aH:List Int}{ap:List bt}{a3:List (List bm)}{ah bz:List Int}{fg:Int}{aD:List Bool}:bx (vF dW aI aH ap a3 ah bz fg aD) (dP a7 87 6 63 [1,1,0,1,0,0] (E9 dW aI aH ap a3 ah bz (fg,aD)) (E9 dW aI aH ap a3 ah bz) (Fg dW aI aH ap a3 ah bz)):=by
 unfold vF
 exact .ite (fun h1 =>
  .aY fun h2 =>
  .ar fun aE au =>
  (let t1:List bY:=[(I 1),.U true,(I 2)];
  .ite (fun aA =>
  .ar fun cc bb =>
  (have aS:=((.bg h1 h2.1 h2.2 (bU ed au) aA aA aA aA (.bg aA aA (ga eI ah) (fF eI ah) (du aO ah) (I7 cc bb) (b7.b cc) aA (.e1 aA))):cp _);
  .ite (fun bi =>
  .ret (let q1:=cB [0,1,2,3,4,5];bf (t1.append [.ay (ai 6 (al (.b2 (ed aE)) (ai 6 (al (.call {ac:=[.br (.dh (.ek (ah.map eI))),ii],r:= .b cc,fz:=true,fH:=[3]}) (ai 1 (al (.U true) (ai 1 (ck 5 (al (.U false) []))))))))),.U false,(I 2),.aN [0,1,2,3,4,5] [.box [.id,.id,.id,.id,.id,.id],.bB (ae 1 (bj 2 0 2) ap),.bB (b3 2 aU a3),.pure,.pure,.pure] (a6 [0,1,53,54])]) (aS.aG (.bg (cV bi) (cV bi) (cV bi) (cV bi) (cV bi) (cV bi) cL (eu q1 2 2 0 2 rfl ap) (.c5 (dz q1 2 e3 a3) (aF 1 .live aO ah) (aF 1 .live eS aD) (aF 1 .live aO bz))))))
  (fun bi =>
  .aY fun cj =>
  .ar fun ec e6 =>
  (let t3:List bY:=t1.append [.ay (ai 6 (al (.b2 (ed aE)) (ai 6 (al (.call {ac:=[.br (.dh (.ek (ah.map eI))),ii],r:= .b cc,fz:=true,fH:=[3]}) (ai 1 (al (.U true) (ai 4 (al (.call {ac:=[.br (.ptr [.view 2 (ad.mk 1 (ap.map (bj 2 0 2)) .live) ((ap.map (ir a3)).map (en 2 aU)),.id,.id,.ek (ah.map eI),.id,.ek (aD.map ed)]),.br (.dh (.ek (bz.map eI))),ii],r:= .n .i64 ec,fz:=true,fH:=[0,1,2,3,4,5]}) (ai 1 (al (.U true) []))))))))))];
  have eO:=aS.aG (.bg (cT bi) (cT bi) (cT bi) (cT bi) (rfl:dc (some (ae 1 (bj 2 0 2) ap)) 0=some (ad.mk 1 (ap.map (bj 2 0 2)) .live)) (rfl:_=true) (fF (bj 2 0 2) ap) (du (nn (sz:=2) rI) (ap.map (ir a3))) (.bg (uG (dL:=2) (jc:=[]++(b3 2 aU a3)) (b1:=kw) (sz:=1) (g:=(en 2 aU)) (cR (bj 2 0 2) ap) (fun _=>rfl) (fun x R=>(yq (dL:=2) (c:=0) (b1:=kw) (qx:=[]) (f9 .live 2 aU a3) rI rfl iZ rfl (xL cj x R))) (dF ap)) (ga eI ah) (fF eI ah) (du aO ah) (ga ed aD) (fF ed aD) (du eS aD) (qj (Iw (⟨ap.map (ir a3),(⟨aI,aH⟩:bm),ah,dW,aD⟩:qi)):jx [[.isl 1 ((ap.map (ir a3)).map (en 2 aU)),.b aI,.isl 1 (aH.map eI),.isl 1 (ah.map eI),.n .i64 dW,.isl 1 (aD.map ed)]]) (.eE (ga eI bz) (fF eI bz) (du aO bz) (Mz ec e6) (b7.n .i64 ec) (cT bi) (cT bi))));
  .ite (fun eR =>
  .aY fun el =>
  .ret (let q2:=cB [0,1,2,3,4,5];bf (t3.append [.U true,.ay (ai 6 (al .fM [])),(I 2),.aN [0,1,2,3,4,5] [.box [.id,.id,.id,.id,.id,.len ((aD.set (0+fg.toNat) false).length)],.bB (ae 1 (bj 2 0 2) ap),.bB (b3 2 aU a3),.pure,.cu (ae 1 ed (aD.set (0+fg.toNat) false)),.pure] (a6 [0,1,53,54])]) (eO.aG (.bg eR h2.1 h2.2 (hz ed el) (ht 1) (hP (dF aD) (0+fg.toNat) false) (eu q2 2 2 0 2 rfl ap) (dz q2 2 e3 a3) (.c5 (aF 1 .live aO ah) (cU 1 .live (gD (cR ed aD) (0+fg.toNat) false)) (aF 1 .live eS (aD.set (0+fg.toNat) false)) (aF 1 .live aO bz))))))
  (fun eR =>
  .ret (let bK:=cB [0,1,2,3,4,5];bf (t3.append [.U false,(I 2),.aN [0,1,2,3,4,5] [.box [.id,.id,.id,.id,.id,.id],.bB (ae 1 (bj 2 0 2) ap),.bB (b3 2 aU a3),.pure,.pure,.pure] (a6 [0,1,53,54])]) (eO.aG (.dU eR (eu bK 2 2 0 2 rfl ap) (dz bK 2 e3 a3) (aF 1 .live aO ah) (aF 1 .live eS aD) (aF 1 .live aO bz)))))))))
  (fun aA =>
  .ret (let bW:=cB [0,1,2,3,4,5];bf (t1.append [.ay (ai 6 (al (.b2 (ed aE)) (ai 1 (ck 7 (al (.U false) (ai 1 (ck 5 (ai 1 [])))))))),.U false,(I 2),.aN [0,1,2,3,4,5] [.box [.id,.id,.id,.id,.id,.id],.bB (ae 1 (bj 2 0 2) ap),.bB (b3 2 aU a3),.pure,.pure,.pure] (a6 [0,1,53,54])]) (.bg h1 h2.1 h2.2 (bU ed au) aA aA aA aA (.bg aA aA aA aA cL cL cL cL (.eE cL cL (eu bW 2 2 0 2 rfl ap) (dz bW 2 e3 a3) (aF 1 .live aO ah) (aF 1 .live eS aD) (aF 1 .live aO bz))))))))
  (fun h1 =>
  .ret (let cD:=cB [0,1,2,3,4,5];bf [(I 1),.U false,.aN [0,1,2,3,4,5] [.box [.id,.id,.id,.id,.id,.id],.bB (ae 1 (bj 2 0 2) ap),.bB (b3 2 aU a3),.pure,.pure,.pure] []] (.dU h1 (eu cD 2 2 0 2 rfl ap) (dz cD 2 e3 a3) (aF 1 .live aO ah) (aF 1 .live eS aD) (aF 1 .live aO bz))))
theorem S3 {dW:Int}{aI:Bool}{aH:List Int}{ap:List bt}{a3:List (List bm)}{ah bz:List Int}{fg:Int}{aD:List Bool}{r} (h:Cl dW aI aH ap a3 ah bz fg aD=some r):dQ a7 87 6 63 [1,1,0,1,0,0] (E9 dW aI aH ap a3 ah bz) (Fg dW aI aH ap a3 ah bz) (fg,aD) r:=dR (fun _=>SF) h
def we (oG:Bool)(oC:List Int)(jy:Int)(fb:List bt)(lR:List (List bm))(h9:List Int)(hp:List Bool)(o4:List Int):Option (Bool×Bool×(List Int)×(List (List bm))×(List Int)×(List Bool)) :=
 Ck jy fb hp o4 true oG oC lR h9 >>= fun r1 =>
 match r1 with
 | .inl di=>(Cl jy di.1 di.2.1 fb di.2.2.1 di.2.2.2 o4 0 hp >>= fun bh =>
  some (true,di.1,di.2.1,di.2.2.1,di.2.2.2,bh))
 | .inr di=>(some (false,di.1,di.2.1,di.2.2.1,di.2.2.2,hp))
theorem Tw {oG:Bool}{oC:List Int}{jy:Int}{fb:List bt}{lR:List (List bm)}{h9:List Int}{hp:List Bool}{o4:List Int}:bx (we oG oC jy fb lR h9 hp o4) (fun a=>Con a7 63 [.ref 0 0 0 0,.bk 5 0 0 o4.length] [[ad.mk 6 [(fW 1 0 0 fb.length oG oC 3 0 0 h9.length jy 4 0 0 hp.length)] .live],(ae 1 (bj 2 0 2) fb),(b3 2 aU lR),(ae 1 eI h9),(ae 1 ed hp),(ae 1 eI o4)] (.b a.1) [[ad.mk 6 [(fW 1 0 0 fb.length a.2.1 a.2.2.1 3 0 0 a.2.2.2.2.1.length jy 4 0 0 a.2.2.2.2.2.length)] .live],(ae 1 (bj 2 0 2) fb),(b3 2 aU a.2.2.2.1),(ae 1 eI a.2.2.2.2.1),(ae 1 ed a.2.2.2.2.2),(ae 1 eI o4)]):=by
 unfold we
 exact .ar fun r1 h2 =>
  (let hC:=cB [0,1,2,3,4,5];let t1:List bY:=[(I 1),(I 1),.aN [0,1,2,3,4,5] [.box [.id,.id,.id,.id,.id,.id],.bB (ae 1 (bj 2 0 2) fb),.bB (b3 2 aU lR),.pure,.pure,.pure] (a6 [0,1,5])];
  have aS:=((.dg (eu hC 2 2 0 2 rfl fb) (dz hC 2 e3 lR) (aF 1 .live aO h9) (aF 1 .live eS hp) (aF 1 .live aO o4)):cp _);
  (by
  rcases r1 with di|di
  ·exact (.ar fun bh aA =>
  .ret (let q1:=fW 1 0 0 fb.length di.1 di.2.1 3 0 0 di.2.2.2.length jy 4 0 0 bh.length;let q2:=cB [0,1,2,3,4,5];let bK:=aF 1 .live aO di.2.2.2;let bW:=dz q2 2 e3 di.2.2.1;let cD:=b3 2 aU di.2.2.1;let d5:=eu q2 2 2 0 2 rfl fb;lQ (t1.append [(Cg jy fb hp o4 (.inl di)).e8,(I 5),.aN [0,1,2,3,4,5] [.box [.id,.id,.id,.id,.id,.id],.bB (ae 1 (bj 2 0 2) fb),.bB cD,.pure,.pure,.pure] (a6 [0,1,53,54]),(Fg jy di.1 di.2.1 fb di.2.2.1 di.2.2.2 o4 bh).e8,(I 1)]) [0,1,2,3,4,5] [.bB [ad.mk 6 [q1] .live],.bB (ae 1 (bj 2 0 2) fb),.bB cD,.pure,.pure,.pure] (aS.aG (.bg (Mg h2) d5 bW bK (aF 1 .live eS hp) (aF 1 .live aO o4) (S3 aA) (x1 q2 6 [q1] [q1] rfl) (.dg d5 bW bK (aF 1 .live eS bh) (aF 1 .live aO o4))))))
  ·exact (.ret (let fJ:=fW 1 0 0 fb.length di.1 di.2.1 3 0 0 di.2.2.2.length jy 4 0 0 hp.length;let eB:=cB [0,1,2,3,4,5];lQ (t1.append [(Cg jy fb hp o4 (.inr di)).e8]) [0,1,2,3,4,5] [.bB [ad.mk 6 [fJ] .live],.bB (ae 1 (bj 2 0 2) fb),.bB (b3 2 aU di.2.2.1),.pure,.pure,.pure] (aS.aG (.eE (Mg h2) (x1 eB 6 [fJ] [fJ] rfl) (eu eB 2 2 0 2 rfl fb) (dz eB 2 e3 di.2.2.1) (aF 1 .live aO di.2.2.2) (aF 1 .live eS hp) (aF 1 .live aO o4)))))))
def Fp (hL af:Int)(aI:Bool)(aH:List Int)(bn:Int)(ap:List bt)(a3:List (List bm))(ah:List Int)(aD:List Bool):Int→S:=fun bo=>dl [(0,.ref 0 0 0 0),(1,.n .i64 hL),(4,.n .i64 af),(5,.n .i64 bo)] [[ad.mk 6 [(fW 1 0 0 ap.length aI aH 3 0 0 ah.length bn 4 0 0 aD.length)] .live],(ae 1 (bj 2 0 2) ap),(b3 2 aU a3),(ae 1 eI ah),(ae 1 ed aD)]
def Fy (hL af:Int)(aI:Bool)(aH:List Int)(bn:Int)(ap:List bt)(a3:List (List bm))(ah:List Int)(aD:List Bool):Int→dq
 | a=>⟨some 2,[(0,.ref 0 0 0 0),(1,.n .i64 hL),(4,.n .i64 af),(5,.n .i64 a)],[[ad.mk 6 [(fW 1 0 0 ap.length aI aH 3 0 0 ah.length bn 4 0 0 aD.length)] .live],(ae 1 (bj 2 0 2) ap),(b3 2 aU a3),(ae 1 eI ah),(ae 1 ed aD)]⟩
def vM (hL af:Int)(aI:Bool)(aH:List Int)(bn:Int)(ap:List bt)(a3:List (List bm))(ah:List Int)(aD:List Bool)(bo:Int):Option ((Int)⊕(Int)) :=
 if (decide (bo<hL))=true then
  if 0≤af∧af<(ap.length:Nat) then
  ap[(0+af.toNat)]? >>= fun aE =>
  aE >>= fun lz =>
  a3[lz.1]? >>= fun ix =>
  if 0≤bo∧bo<(lz.2:Nat) then
  ix[(0+bo.toNat)]? >>= fun iL =>
  oR iL >>= fun d8 =>
  if (d8 == (0:Int))=true then
   some (.inl (J (bo+(1:Int))))
  else
   some (.inr bo)
  else none
  else none
 else
  some (.inr bo)
def Cq (hL af:Int)(aI:Bool)(aH:List Int)(bn:Int)(ap:List bt)(a3:List (List bm))(ah:List Int)(aD:List Bool)(bo:Int):Option (Int):=iter (fun w:Int=>vM hL af aI aH bn ap a3 ah aD w) bo
theorem SW {hL af:Int}{aI:Bool}{aH:List Int}{bn:Int}{ap:List bt}{a3:List (List bm)}{ah:List Int}{aD:List Bool}{bo:Int}:bx (vM hL af aI aH bn ap a3 ah aD bo) (dP a7 86 5 65 [1,0,0,1,0,1,1,0,0,0] (Fp hL af aI aH bn ap a3 ah aD bo) (Fp hL af aI aH bn ap a3 ah aD) (Fy hL af aI aH bn ap a3 ah aD)):=by
 unfold vM
 exact .ite (fun h1 =>
  .aY fun h2 =>
  .ar fun aE au =>
  .ar fun lz aX =>
  .ar fun ix bi =>
  .aY fun cj =>
  .ar fun iL e6 =>
  .ar fun d8 el =>
  (let q1:=jU (f9 .live 2 aU a3) iZ bi;let t1:List bY:=[.ay (ai 10 (al (.b2 ((bj 2 0 2) aE)) (ai 1 (al (.kc 34 (.bk 2 (lz.1+0) 0 lz.2) (.gb (ad.mk 2 (ix.map aU) .live) [])) (al (.gb (ad.mk 2 (ix.map aU) .live) (aU iL)) (al (bp 1 (.n .i64 d8) true) (ai 1 (al (.U true) []))))))))];
  have aS:=((.bg h1 h1 h1 h1 h1 h1 h2.1 h2.2 (.bg h1 (bU (bj 2 0 2) au) h1 h1 (lX (dL:=2) (c:=0) (sz:=2) aX) q1 cj.1 cj.2 (.gJ h1 q1 (bU aU e6) h1 (sE d8 el) (b7.n .i64 d8) h1 h1))):cp _);
  .ite (fun ew =>
  .ret (bf (t1.append [.U true,(I 3),.aN [0,1,2,3,4] [.box [.id,.id,.id,.id,.id,.id],.bB (ae 1 (bj 2 0 2) ap),.bB (b3 2 aU a3),.pure,.pure] (a6 [0,1,4,5])]) (aS.aG (.dg ew (eu (cB [0,1,2,3,4]) 2 2 0 2 rfl ap) (dz (cB [0,1,2,3,4]) 2 e3 a3) (aF 1 .live aO ah) (aF 1 .live eS aD)))))
  (fun ew =>
  .ret (bf (t1.append [.U false,.aN [0,1,2,3,4] [.box [.id,.id,.id,.id,.id,.id],.bB (ae 1 (bj 2 0 2) ap),.bB (b3 2 aU a3),.pure,.pure] (a6 [0,1,4,5])]) (aS.aG (.dg ew (eu (cB [0,1,2,3,4]) 2 2 0 2 rfl ap) (dz (cB [0,1,2,3,4]) 2 e3 a3) (aF 1 .live aO ah) (aF 1 .live eS aD)))))))
  (fun h1 =>
  .ret (bf [.ay (ai 4 (ck 12 (al (.U false) []))),.U false,.aN [0,1,2,3,4] [.box [.id,.id,.id,.id,.id,.id],.bB (ae 1 (bj 2 0 2) ap),.bB (b3 2 aU a3),.pure,.pure] (a6 [0,1,4,5])] (.bg h1 h1 h1 h1 h1 h1 h1 h1 (.bg h1 h1 h1 h1 h1 cL (eu (cB [0,1,2,3,4]) 2 2 0 2 rfl ap) (dz (cB [0,1,2,3,4]) 2 e3 a3) (.e2 (aF 1 .live aO ah) (aF 1 .live eS aD))))))
theorem Tx {hL af:Int}{aI:Bool}{aH:List Int}{bn:Int}{ap:List bt}{a3:List (List bm)}{ah:List Int}{aD:List Bool}{bo:Int}{r} (h:Cq hL af aI aH bn ap a3 ah aD bo=some r):dQ a7 86 5 65 [1,0,0,1,0,1,1,0,0,0] (Fp hL af aI aH bn ap a3 ah aD) (Fy hL af aI aH bn ap a3 ah aD) bo r:=dR (fun _=>SW) h
def Fq (hL bn:Int)(aD:List Bool):(Int×Bool×(List Int)×(List bt)×(List (List bm))×(List Int))→S:=fun (af,aI,aH,ap,a3,ah)=>dl [(0,.ref 0 0 0 0),(1,.n .i64 hL),(4,.n .i64 af)] [[ad.mk 6 [(fW 1 0 0 ap.length aI aH 3 0 0 ah.length bn 4 0 0 aD.length)] .live],(ae 1 (bj 2 0 2) ap),(b3 2 aU a3),(ae 1 eI ah),(ae 1 ed aD)]
def Fz (hL bn:Int)(aD:List Bool):(Bool×(List Int)×(List bt)×(List (List bm))×(List Int))→dq
 | a=>⟨some 0,[],[[ad.mk 6 [(fW 1 0 0 a.2.2.1.length a.1 a.2.1 3 0 0 a.2.2.2.2.length bn 4 0 0 aD.length)] .live],(ae 1 (bj 2 0 2) a.2.2.1),(b3 2 aU a.2.2.2.1),(ae 1 eI a.2.2.2.2),(ae 1 ed aD)]⟩
def yN (hL bn:Int)(aD:List Bool)(af:Int)(aI:Bool)(aH:List Int)(ap:List bt)(a3:List (List bm))(ah:List Int):Option ((Int×Bool×(List Int)×(List bt)×(List (List bm))×(List Int))⊕(Bool×(List Int)×(List bt)×(List (List bm))×(List Int))) :=
 if (decide (af<((ap.length:Nat):Int)))=true then
  if 0≤af∧af<(ah.length:Nat) then
  ah[(0+af.toNat)]? >>= fun aE =>
  if (decide (aE<hL))=true then
   some (.inl (J (af+(1:Int)),aI,aH,ap,a3,ah))
  else
   Cq hL af aI aH bn ap a3 ah aD 0 >>= fun cc =>
   if (decide (cc<hL))=true then
    wx af cc aI aH bn ap a3 ah aD >>= fun b5 =>
    some (.inl (J (af+(1:Int)),b5.1,b5.2.1,ap,b5.2.2.1,b5.2.2.2))
   else
    if 0≤af then
    if 0≤af.toNat∧af.toNat≤ap.length then
    if 0≤(J (af+(1:Int))) then
    if (J (af+(1:Int))).toNat≤ap.length then
    if (0+(J (af+(1:Int))).toNat)+(ap.length-(J (af+(1:Int))).toNat)≤ap.length then
    if (af.toNat-0)+((ap.drop (0+(J (af+(1:Int))).toNat)).take (ap.length-(J (af+(1:Int))).toNat)).length≤ap.length then
    if ((ap.drop (0+(J (af+(1:Int))).toNat)).take (ap.length-(J (af+(1:Int))).toNat)).length*24≤140737488355328 then
    if 0≤af.toNat∧af.toNat≤ah.length then
    if (J (af+(1:Int))).toNat≤ah.length then
    if (0+(J (af+(1:Int))).toNat)+(ah.length-(J (af+(1:Int))).toNat)≤ah.length then
    if (af.toNat-0)+((ah.drop (0+(J (af+(1:Int))).toNat)).take (ah.length-(J (af+(1:Int))).toNat)).length≤ah.length then
    if ((ah.drop (0+(J (af+(1:Int))).toNat)).take (ah.length-(J (af+(1:Int))).toNat)).length*8≤140737488355328 then
    some (.inl (af,aI,aH,ap.take (af.toNat-0)++((ap.drop (0+(J (af+(1:Int))).toNat)).take (ap.length-(J (af+(1:Int))).toNat)),a3,ah.take (af.toNat-0)++((ah.drop (0+(J (af+(1:Int))).toNat)).take (ah.length-(J (af+(1:Int))).toNat))))
    else none
    else none
    else none
    else none
    else none
    else none
    else none
    else none
    else none
    else none
    else none
    else none
  else none
 else
  some (.inr (aI,aH,ap,a3,ah))
def F7 (hL bn:Int)(aD:List Bool)(af:Int)(aI:Bool)(aH:List Int)(ap:List bt)(a3:List (List bm))(ah:List Int):Option (Bool×(List Int)×(List bt)×(List (List bm))×(List Int)):=iter (fun w:Int×Bool×(List Int)×(List bt)×(List (List bm))×(List Int)=>yN hL bn aD w.1 w.2.1 w.2.2.1 w.2.2.2.1 w.2.2.2.2.1 w.2.2.2.2.2) (af,aI,aH,ap,a3,ah)
theorem SX {hL bn:Int}{aD:List Bool}{af:Int}{aI:Bool}{aH:List Int}{ap:List bt}{a3:List (List bm)}{ah:List Int}:bx (yN hL bn aD af aI aH ap a3 ah) (dP a7 86 5 65 [1,0,0] (Fq hL bn aD (af,aI,aH,ap,a3,ah)) (Fq hL bn aD) (Fz hL bn aD)):=by
 unfold yN
 exact .ite (fun h1 =>
  .aY fun h2 =>
  .ar fun aE au =>
  (let t1:List bY:=[(I 7),.U true,.ay (bq 6 (.b2 (eI aE)) 2)];
  .ite (fun aA =>
  .ret (bf (t1.append [.U true,(I 3),.aN [0,1,2,3,4] [.box [.id,.id,.id,.id,.id,.id],.bB (ae 1 (bj 2 0 2) ap),.bB (b3 2 aU a3),.pure,.pure] (a6 [0,1,4])]) (.bg h1 h2.1 h2.2 (bU eI au) aA (eu (cB [0,1,2,3,4]) 2 2 0 2 rfl ap) (dz (cB [0,1,2,3,4]) 2 e3 a3) (aF 1 .live aO ah) (.e1 (aF 1 .live eS aD)))))
  (fun aA =>
  .ar fun cc bb =>
  (let t2:List bY:=t1.append [.U false,(I 1),.aN [0,1,2,3,4] [.box [.id,.id,.id,.id,.id,.id],.bB (ae 1 (bj 2 0 2) ap),.bB (b3 2 aU a3),.pure,.pure] (a6 [0,1,4,5]),(Fy hL af aI aH bn ap a3 ah aD cc).e8,(I 3)];
  have fA:=((.bg h1 h2.1 h2.2 (bU eI au) aA (eu (cB [0,1,2,3,4]) 2 2 0 2 rfl ap) (dz (cB [0,1,2,3,4]) 2 e3 a3) (aF 1 .live aO ah) (.e2 (aF 1 .live eS aD) (Tx bb))):cp _);
  .ite (fun bi =>
  .ar fun b5 cM =>
  .ret (let q1:=fW 1 0 0 ap.length b5.1 b5.2.1 3 0 0 b5.2.2.2.length bn 4 0 0 aD.length;let q2:=fW 1 0 0 ap.length aI aH 3 0 0 ah.length bn 4 0 0 aD.length;let bK:=ae 1 (bj 2 0 2) ap;let bW:=b3 2 aU b5.2.2.1;let cD:=o7 [0,1,2,3,4];let d5:=jG [0,1,2,3,4];let fJ:=kD 1 (ap.map (bj 2 0 2));bf (t2.append [.U true,.ay (ai 3 (al (.call {aZ:=(u3 [0,1,2,3,4]),dm:=[.bB [ad.mk 6 [q2] .live],.bB bK,.bB (b3 2 aU a3),.pure,.pure],ac:=[ii,ii,ii],r:= .dS [],fv:=[[ad.mk 6 [q1] .live],bK,bW,(ae 1 eI b5.2.2.2),(ae 1 ed aD)],ic:=ii,kk:=[.bB [ad.mk 6 [q1] .live],.bB bK,.bB bW,.pure,.pure],fH:=[0,1,2,3,4],fz:=false}) [])),(I 3),.aN [0,1,2,3,4] [.box [.id,.id,.id,.id,.id,.id],.bB bK,.bB bW,.pure,.pure] (a6 [0,1,4])]) (fA.aG (.bg bi (x1 cD 6 [q2] [q2] rfl) (kD 6 [q2]) (eu cD 2 2 0 2 rfl ap) fJ (dz cD 2 e3 a3) (ty 2 aU a3) (ij 1 aO ah) (.bg (ij 1 eS aD) (x1 d5 6 [q1] [q1] rfl) (kD 6 [q1]) (eu d5 2 2 0 2 rfl ap) fJ (dz d5 2 e3 b5.2.2.1) (ty 2 aU b5.2.2.1) (ij 1 aO b5.2.2.2) (.dU (ij 1 eS aD) (Mm b5 cM) (eu (cB [0,1,2,3,4]) 2 2 0 2 rfl ap) (dz (cB [0,1,2,3,4]) 2 e3 b5.2.2.1) (aF 1 .live aO b5.2.2.2) (aF 1 .live eS aD)))))))
  (fun bi =>
  .aY fun cj =>
  .aY fun cM =>
  .aY fun e6 =>
  .aY fun eR =>
  .aY fun el =>
  .aY fun ew =>
  .aY fun fO =>
  .aY fun hO =>
  .aY fun hn =>
  .aY fun ho =>
  .aY fun gr =>
  .aY fun fh =>
  .ret (let eB:=(J (af+(1:Int)));let hC:=cR (bj 2 0 2) ap;let jr:=cB [0,1,2,3,4];let js:=cR eI ah;bf (t2.append [.U false,.ay (bq 14 .fM 3),.ay (bq 14 .fM 3),.aN [0,1,2,3,4] [.box [.len ((ap.take (af.toNat-0)++((ap.drop (0+eB.toNat)).take (ap.length-eB.toNat))).length),.id,.id,.len ((ah.take (af.toNat-0)++((ah.drop (0+eB.toNat)).take (ah.length-eB.toNat))).length),.id,.id],.bB (ae 1 (bj 2 0 2) (ap.take (af.toNat-0)++((ap.drop (0+eB.toNat)).take (ap.length-eB.toNat)))),.bB (b3 2 aU a3),.cu (ae 1 eI (ah.take (af.toNat-0)++((ah.drop (0+eB.toNat)).take (ah.length-eB.toNat)))),.pure] (a6 [0,1,4])]) (fA.aG (.bg bi cj cM.1 cM.2 e6 eR (Nat.le_refl ap.length) (rf hC el) (.bg (P9 hC (og hC (0+eB.toNat) (ap.length-eB.toNat)) ew) (O3 (og hC (0+eB.toNat) (ap.length-eB.toNat)) fO) cj hO.1 hO.2 e6 hn (Nat.le_refl ah.length) (.bg (rf js ho) (P9 js (og js (0+eB.toNat) (ah.length-eB.toNat)) gr) (O3 (og js (0+eB.toNat) (ah.length-eB.toNat)) fh) ((JN (P8 ew) (og hC (0+eB.toNat) (ap.length-eB.toNat)):(ap.take (af.toNat-0)++((ap.drop (0+eB.toNat)).take (ap.length-eB.toNat))).length=(af.toNat-0)+(((ap.map (bj 2 0 2)).drop (0+eB.toNat)).take (ap.length-eB.toNat)).length).symm) ((JN (P8 gr) (og js (0+eB.toNat) (ah.length-eB.toNat)):(ah.take (af.toNat-0)++((ah.drop (0+eB.toNat)).take (ah.length-eB.toNat))).length=(af.toNat-0)+(((ah.map eI).drop (0+eB.toNat)).take (ah.length-eB.toNat)).length).symm) (c2 (rv (b6:=jr) 1 .live (bj 2 0 2) (JM hC (af.toNat-0) (og hC (0+eB.toNat) (ap.length-eB.toNat))) (s3 (rfl:jr 2=some 2))) (oX (b6:=jr))) (dz jr 2 e3 a3) (cU 1 .live (JM js (af.toNat-0) (og js (0+eB.toNat) (ah.length-eB.toNat)))) (.e2 (aF 1 .live aO (ah.take (af.toNat-0)++((ah.drop (0+eB.toNat)).take (ah.length-eB.toNat)))) (aF 1 .live eS aD))))))))))))
  (fun h1 =>
  .ret (bf [(I 7),.U false,.aN [0,1,2,3,4] [.box [.id,.id,.id,.id,.id,.id],.bB (ae 1 (bj 2 0 2) ap),.bB (b3 2 aU a3),.pure,.pure] []] (.dg h1 (eu (cB [0,1,2,3,4]) 2 2 0 2 rfl ap) (dz (cB [0,1,2,3,4]) 2 e3 a3) (aF 1 .live aO ah) (aF 1 .live eS aD))))
theorem Ty {hL bn:Int}{aD:List Bool}{af:Int}{aI:Bool}{aH:List Int}{ap:List bt}{a3:List (List bm)}{ah:List Int}{r} (h:F7 hL bn aD af aI aH ap a3 ah=some r):dQ a7 86 5 65 [1,0,0] (Fq hL bn aD) (Fz hL bn aD) (af,aI,aH,ap,a3,ah) r:=dR (fun _=>SX) h
def yZ (hL:Int)(oG:Bool)(oC:List Int)(jy:Int)(fb:List bt)(lR:List (List bm))(h9:List Int)(hp:List Bool):Option (Bool×(List Int)×(List bt)×(List (List bm))×(List Int)) :=
 F7 hL jy hp 0 oG oC fb lR h9 >>= fun r1 =>
 some (r1.1,r1.2.1,r1.2.2.1,r1.2.2.2.1,r1.2.2.2.2)
theorem T5 {hL:Int}{oG:Bool}{oC:List Int}{jy:Int}{fb:List bt}{lR:List (List bm)}{h9:List Int}{hp:List Bool}:bx (yZ hL oG oC jy fb lR h9 hp) (fun a=>Con a7 65 [.ref 0 0 0 0,.n .i64 hL] [[ad.mk 6 [(fW 1 0 0 fb.length oG oC 3 0 0 h9.length jy 4 0 0 hp.length)] .live],(ae 1 (bj 2 0 2) fb),(b3 2 aU lR),(ae 1 eI h9),(ae 1 ed hp)] (.dS []) [[ad.mk 6 [(fW 1 0 0 a.2.2.1.length a.1 a.2.1 3 0 0 a.2.2.2.2.length jy 4 0 0 hp.length)] .live],(ae 1 (bj 2 0 2) a.2.2.1),(b3 2 aU a.2.2.2.1),(ae 1 eI a.2.2.2.2),(ae 1 ed hp)]):=by
 unfold yZ
 exact .ar fun r1 h2 =>
  .ret (let q1:=fW 1 0 0 r1.2.2.1.length r1.1 r1.2.1 3 0 0 r1.2.2.2.2.length jy 4 0 0 hp.length;let q2:=cB [0,1,2,3,4];lQ [(I 1),.aN [0,1,2,3,4] [.box [.id,.id,.id,.id,.id,.id],.bB (ae 1 (bj 2 0 2) fb),.bB (b3 2 aU lR),.pure,.pure] (a6 [0,1,4]),(Fz hL jy hp r1).e8] [0,1,2,3,4] [.bB [ad.mk 6 [q1] .live],.bB (ae 1 (bj 2 0 2) r1.2.2.1),.bB (b3 2 aU r1.2.2.2.1),.pure,.pure] (.bg (eu q2 2 2 0 2 rfl fb) (dz q2 2 e3 lR) (aF 1 .live aO h9) (aF 1 .live eS hp) (Ty h2) (x1 q2 6 [q1] [q1] rfl) (eu q2 2 2 0 2 rfl r1.2.2.1) (dz q2 2 e3 r1.2.2.2.1) (.e2 (aF 1 .live aO r1.2.2.2.2) (aF 1 .live eS hp))))
end Go.Proofs.YtdkjpcaalflfhaaGreat
namespace Go.Proofs.YtdkjpcaalflfhaaGreat
set_option linter.unusedVariables false
set_option linter.unusedSimpArgs false
open Go Go.VL
def G1 (dB cP:Int)(dN dI dM:List Int)(aW af:Int)(f5 ee:Nat)(jn:List Int)(jQ:Int)(aI:Bool)(aH:List Int)(ax:List bt)(ah:List Int)(aD:List Bool):(Int×(List (List bm)))→S:=fun (dW,iC)=>dl [(0,.d7 5 [[.n .i64 dB,.n .i64 cP,.isl 1 (dN.map eI),.isl 1 (dI.map eI),.isl 1 (dM.map eI)]] 0 0),(4,.n .i64 aW),(5,.ref 0 0 0 0),(6,.n .i64 af),(7,.bk 1 (f5+0) 0 ee),(8,.n .i64 (-1:Int)),(34,.n .i64 dB),(35,.n .i64 af),(51,.isl 1 (jn.map eI)),(52,.n .i64 jQ),(53,.n .i64 dW)] [[ad.mk 6 [(fW 2 0 0 ax.length aI aH 3 0 0 ah.length aW 4 0 0 aD.length)] .live],(b3 2 aU iC),(ae 1 (bj 1 0 2) ax),(ae 1 eI ah),(ae 1 ed aD)]
def Hw (dB cP:Int)(dN dI dM:List Int)(aW af:Int)(f5 ee:Nat)(jn:List Int)(jQ:Int)(aI:Bool)(aH:List Int)(ax:List bt)(ah:List Int)(aD:List Bool):(List (List bm))→dq
 | a=>⟨some 2,[(0,.d7 5 [[.n .i64 dB,.n .i64 cP,.isl 1 (dN.map eI),.isl 1 (dI.map eI),.isl 1 (dM.map eI)]] 0 0),(4,.n .i64 aW),(5,.ref 0 0 0 0),(6,.n .i64 af),(7,.bk 1 (f5+0) 0 ee),(8,.n .i64 (-1:Int)),(34,.n .i64 dB),(35,.n .i64 af)],[[ad.mk 6 [(fW 2 0 0 ax.length aI aH 3 0 0 ah.length aW 4 0 0 aD.length)] .live],(b3 2 aU a),(ae 1 (bj 1 0 2) ax),(ae 1 eI ah),(ae 1 ed aD)]⟩
def wy (dB cP:Int)(dN dI dM:List Int)(aW af:Int)(f5 ee:Nat)(jn:List Int)(jQ:Int)(aI:Bool)(aH:List Int)(ax:List bt)(ah:List Int)(aD:List Bool)(dW:Int)(iC:List (List bm)):Option ((Int×(List (List bm)))⊕((List (List bm)))) :=
 if (decide (dW<jQ))=true then
  if 0≤dW∧dW<jn.length then
  jn[dW.toNat]? >>= fun aE =>
  oe (J ((-1:Int)*aE)) >>= fun aK =>
  iC[f5]? >>= fun ix =>
  if 0≤dW∧dW<(ee:Nat) then
  ix[(0+dW.toNat)]? >>= fun iL =>
  some (.inl (J (dW+(1:Int)),iC.set f5 (ix.set (0+dW.toNat) aK)))
  else none
  else none
 else
  some (.inr iC)
def CL (dB cP:Int)(dN dI dM:List Int)(aW af:Int)(f5 ee:Nat)(jn:List Int)(jQ:Int)(aI:Bool)(aH:List Int)(ax:List bt)(ah:List Int)(aD:List Bool)(dW:Int)(iC:List (List bm)):Option ((List (List bm))):=iter (fun w:Int×(List (List bm))=>wy dB cP dN dI dM aW af f5 ee jn jQ aI aH ax ah aD w.1 w.2) (dW,iC)
theorem T6 {dB cP:Int}{dN dI dM:List Int}{aW af:Int}{f5 ee:Nat}{jn:List Int}{jQ:Int}{aI:Bool}{aH:List Int}{ax:List bt}{ah:List Int}{aD:List Bool}{dW:Int}{iC:List (List bm)}:bx (wy dB cP dN dI dM aW af f5 ee jn jQ aI aH ax ah aD dW iC) (dP a7 205 0 36 [1,1,1,0,1,0,0,1,1,0,0,1,1,1,1,0,1,0,0] (G1 dB cP dN dI dM aW af f5 ee jn jQ aI aH ax ah aD (dW,iC)) (G1 dB cP dN dI dM aW af f5 ee jn jQ aI aH ax ah aD) (Hw dB cP dN dI dM aW af f5 ee jn jQ aI aH ax ah aD)):=by
 unfold wy
 exact .ite (fun h1 =>
  .aY fun h2 =>
  .ar fun aE au =>
  .ar fun aK aX =>
  .ar fun ix bi =>
  .aY fun cj =>
  .ar fun iL e6 =>
  .ret (let q1:=jU (f9 .live 2 aU iC) iZ bi;bf [(I 1),.U true,.ay (bq 2 (.b2 (eI aE)) 2),.ay (ai 5 (al (bp 1 (.agg (aU aK)) false) (al (.gb (ad.mk 2 (ix.map aU) .live) []) (al (.gb (ad.mk 2 (ix.map aU) .live) (aU iL)) [])))),(I 2),.aN [0,1,2,3,4] [.box [.id,.id,.id,.id,.id,.id],.bB (b3 2 aU (iC.set f5 (ix.set (0+dW.toNat) aK))),.bB (ae 1 (bj 1 0 2) ax),.pure,.pure] (a6 [0,4,5,6,7,8,34,35,51,52,53])] (.bg h1 h2.1 (cO eI h2.2) (bU eI au) (rG aK aX) q1 cj.1 cj.2 (.dU q1 (bU aU e6) (m2 (b6:=(cB [0,1,2,3,4])) (oW (f9 .live 2 aU iC) f5 (qk (cR aU ix) (0+dW.toNat) aK (rfl:(setCells (aU iL) 0 (aU aK))=aU aK))) (mf e3)) (eu (cB [0,1,2,3,4]) 1 1 0 2 rfl ax) (aF 1 .live aO ah) (aF 1 .live eS aD)))))
  (fun h1 =>
  .ret (bf [(I 1),.U false,.aN [0,1,2,3,4] [.box [.id,.id,.id,.id,.id,.id],.bB (b3 2 aU iC),.bB (ae 1 (bj 1 0 2) ax),.pure,.pure] (a6 [0,4,5,6,7,8,34,35])] (.dg h1 (dz (cB [0,1,2,3,4]) 2 e3 iC) (eu (cB [0,1,2,3,4]) 1 1 0 2 rfl ax) (aF 1 .live aO ah) (aF 1 .live eS aD))))
theorem Vy {dB cP:Int}{dN dI dM:List Int}{aW af:Int}{f5 ee:Nat}{jn:List Int}{jQ:Int}{aI:Bool}{aH:List Int}{ax:List bt}{ah:List Int}{aD:List Bool}{dW:Int}{iC:List (List bm)}{r} (h:CL dB cP dN dI dM aW af f5 ee jn jQ aI aH ax ah aD dW iC=some r):dQ a7 205 0 36 [1,1,1,0,1,0,0,1,1,0,0,1,1,1,1,0,1,0,0] (G1 dB cP dN dI dM aW af f5 ee jn jQ aI aH ax ah aD) (Hw dB cP dN dI dM aW af f5 ee jn jQ aI aH ax ah aD) (dW,iC) r:=dR (fun _=>T6) h
def G2 (dB cP:Int)(dN dI dM:List Int)(aW af:Int)(f5 ee:Nat)(jn:List Int)(jQ:Int)(aI:Bool)(aH:List Int)(ax:List bt)(ah:List Int)(aD:List Bool):(Int×(List (List bm)))→S:=fun (dW,iC)=>dl [(0,.d7 5 [[.n .i64 dB,.n .i64 cP,.isl 1 (dN.map eI),.isl 1 (dI.map eI),.isl 1 (dM.map eI)]] 0 0),(4,.n .i64 aW),(5,.ref 0 0 0 0),(6,.n .i64 af),(7,.bk 1 (f5+0) 0 ee),(8,.n .i64 (1:Int)),(34,.n .i64 dB),(35,.n .i64 af),(51,.isl 1 (jn.map eI)),(52,.n .i64 jQ),(53,.n .i64 dW)] [[ad.mk 6 [(fW 2 0 0 ax.length aI aH 3 0 0 ah.length aW 4 0 0 aD.length)] .live],(b3 2 aU iC),(ae 1 (bj 1 0 2) ax),(ae 1 eI ah),(ae 1 ed aD)]
def Hx (dB cP:Int)(dN dI dM:List Int)(aW af:Int)(f5 ee:Nat)(jn:List Int)(jQ:Int)(aI:Bool)(aH:List Int)(ax:List bt)(ah:List Int)(aD:List Bool):(List (List bm))→dq
 | a=>⟨some 2,[(0,.d7 5 [[.n .i64 dB,.n .i64 cP,.isl 1 (dN.map eI),.isl 1 (dI.map eI),.isl 1 (dM.map eI)]] 0 0),(4,.n .i64 aW),(5,.ref 0 0 0 0),(6,.n .i64 af),(7,.bk 1 (f5+0) 0 ee),(8,.n .i64 (1:Int)),(34,.n .i64 dB),(35,.n .i64 af)],[[ad.mk 6 [(fW 2 0 0 ax.length aI aH 3 0 0 ah.length aW 4 0 0 aD.length)] .live],(b3 2 aU a),(ae 1 (bj 1 0 2) ax),(ae 1 eI ah),(ae 1 ed aD)]⟩
def wz (dB cP:Int)(dN dI dM:List Int)(aW af:Int)(f5 ee:Nat)(jn:List Int)(jQ:Int)(aI:Bool)(aH:List Int)(ax:List bt)(ah:List Int)(aD:List Bool)(dW:Int)(iC:List (List bm)):Option ((Int×(List (List bm)))⊕((List (List bm)))) :=
 if (decide (dW<jQ))=true then
  if 0≤dW∧dW<jn.length then
  jn[dW.toNat]? >>= fun aE =>
  oe (J ((1:Int)*aE)) >>= fun aK =>
  iC[f5]? >>= fun ix =>
  if 0≤dW∧dW<(ee:Nat) then
  ix[(0+dW.toNat)]? >>= fun iL =>
  some (.inl (J (dW+(1:Int)),iC.set f5 (ix.set (0+dW.toNat) aK)))
  else none
  else none
 else
  some (.inr iC)
def CM (dB cP:Int)(dN dI dM:List Int)(aW af:Int)(f5 ee:Nat)(jn:List Int)(jQ:Int)(aI:Bool)(aH:List Int)(ax:List bt)(ah:List Int)(aD:List Bool)(dW:Int)(iC:List (List bm)):Option ((List (List bm))):=iter (fun w:Int×(List (List bm))=>wz dB cP dN dI dM aW af f5 ee jn jQ aI aH ax ah aD w.1 w.2) (dW,iC)
theorem T7 {dB cP:Int}{dN dI dM:List Int}{aW af:Int}{f5 ee:Nat}{jn:List Int}{jQ:Int}{aI:Bool}{aH:List Int}{ax:List bt}{ah:List Int}{aD:List Bool}{dW:Int}{iC:List (List bm)}:bx (wz dB cP dN dI dM aW af f5 ee jn jQ aI aH ax ah aD dW iC) (dP a7 205 0 36 [1,1,1,0,1,0,0,1,1,0,0,1,1,1,1,0,1,0,0] (G2 dB cP dN dI dM aW af f5 ee jn jQ aI aH ax ah aD (dW,iC)) (G2 dB cP dN dI dM aW af f5 ee jn jQ aI aH ax ah aD) (Hx dB cP dN dI dM aW af f5 ee jn jQ aI aH ax ah aD)):=by
 unfold wz
 exact .ite (fun h1 =>
  .aY fun h2 =>
  .ar fun aE au =>
  .ar fun aK aX =>
  .ar fun ix bi =>
  .aY fun cj =>
  .ar fun iL e6 =>
  .ret (let q1:=jU (f9 .live 2 aU iC) iZ bi;bf [(I 1),.U true,.ay (bq 2 (.b2 (eI aE)) 2),.ay (ai 5 (al (bp 1 (.agg (aU aK)) false) (al (.gb (ad.mk 2 (ix.map aU) .live) []) (al (.gb (ad.mk 2 (ix.map aU) .live) (aU iL)) [])))),(I 2),.aN [0,1,2,3,4] [.box [.id,.id,.id,.id,.id,.id],.bB (b3 2 aU (iC.set f5 (ix.set (0+dW.toNat) aK))),.bB (ae 1 (bj 1 0 2) ax),.pure,.pure] (a6 [0,4,5,6,7,8,34,35,51,52,53])] (.bg h1 h2.1 (cO eI h2.2) (bU eI au) (rG aK aX) q1 cj.1 cj.2 (.dU q1 (bU aU e6) (m2 (b6:=(cB [0,1,2,3,4])) (oW (f9 .live 2 aU iC) f5 (qk (cR aU ix) (0+dW.toNat) aK (rfl:(setCells (aU iL) 0 (aU aK))=aU aK))) (mf e3)) (eu (cB [0,1,2,3,4]) 1 1 0 2 rfl ax) (aF 1 .live aO ah) (aF 1 .live eS aD)))))
  (fun h1 =>
  .ret (bf [(I 1),.U false,.aN [0,1,2,3,4] [.box [.id,.id,.id,.id,.id,.id],.bB (b3 2 aU iC),.bB (ae 1 (bj 1 0 2) ax),.pure,.pure] (a6 [0,4,5,6,7,8,34,35])] (.dg h1 (dz (cB [0,1,2,3,4]) 2 e3 iC) (eu (cB [0,1,2,3,4]) 1 1 0 2 rfl ax) (aF 1 .live aO ah) (aF 1 .live eS aD))))
theorem Vz {dB cP:Int}{dN dI dM:List Int}{aW af:Int}{f5 ee:Nat}{jn:List Int}{jQ:Int}{aI:Bool}{aH:List Int}{ax:List bt}{ah:List Int}{aD:List Bool}{dW:Int}{iC:List (List bm)}{r} (h:CM dB cP dN dI dM aW af f5 ee jn jQ aI aH ax ah aD dW iC=some r):dQ a7 205 0 36 [1,1,1,0,1,0,0,1,1,0,0,1,1,1,1,0,1,0,0] (G2 dB cP dN dI dM aW af f5 ee jn jQ aI aH ax ah aD) (Hx dB cP dN dI dM aW af f5 ee jn jQ aI aH ax ah aD) (dW,iC) r:=dR (fun _=>T7) h
def G3 (dB cP:Int)(dN dI dM:List Int)(aW:Int)(aI:Bool)(aH:List Int)(aD:List Bool):(Int×(List bt)×(List (List bm))×(List Int))→S:=fun (da,ap,a3,ah)=>dl [(0,.d7 5 [[.n .i64 dB,.n .i64 cP,.isl 1 (dN.map eI),.isl 1 (dI.map eI),.isl 1 (dM.map eI)]] 0 0),(4,.n .i64 aW),(5,.ref 0 0 0 0),(34,.n .i64 dB),(35,.n .i64 da)] [[ad.mk 6 [(fW 1 0 0 ap.length aI aH 3 0 0 ah.length aW 4 0 0 aD.length)] .live],(ae 1 (bj 2 0 2) ap),(b3 2 aU a3),(ae 1 eI ah),(ae 1 ed aD)]
def Hy (dB cP:Int)(dN dI dM:List Int)(aW:Int)(aI:Bool)(aH:List Int)(aD:List Bool):((List bt)×(List (List bm))×(List Int))→dq
 | a=>⟨some 0,[(0,.d7 5 [[.n .i64 dB,.n .i64 cP,.isl 1 (dN.map eI),.isl 1 (dI.map eI),.isl 1 (dM.map eI)]] 0 0),(4,.n .i64 aW),(5,.ref 0 0 0 0)],[[ad.mk 6 [(fW 1 0 0 a.1.length aI aH 3 0 0 a.2.2.length aW 4 0 0 aD.length)] .live],(ae 1 (bj 2 0 2) a.1),(b3 2 aU a.2.1),(ae 1 eI a.2.2),(ae 1 ed aD)]⟩
def wA (dB cP:Int)(dN dI dM:List Int)(aW:Int)(aI:Bool)(aH:List Int)(aD:List Bool)(da:Int)(ap:List bt)(a3:List (List bm))(ah:List Int):Option ((Int×(List bt)×(List (List bm))×(List Int))⊕((List bt)×(List (List bm))×(List Int))) :=
 if (decide (da<dB))=true then
  if 0≤(J (aW+(1:Int)))∧(32:Int)*(J (aW+(1:Int)))≤281474976710656∧(J (aW+(1:Int)))<9223372036854775808 then
  if 0≤da∧da<dI.length then
  dI[da.toNat]? >>= fun f8 =>
  if (decide (f8<(0:Int)))=true then
   wX (⟨dB,cP,dN,dI,dM⟩:hk) da >>= fun b4 =>
   CL dB cP dN dI dM aW da a3.length ((J (aW+(1:Int))).toNat) b4 (len_ eI b4) aI aH ap ah aD 0 (a3++[(List.replicate (J (aW+(1:Int))).toNat (⟨false,([]:List Int)⟩:bm):List bm)]) >>= fun b5 =>
   oe 1 >>= fun c0 =>
   b5[a3.length]? >>= fun lf =>
   if 0≤(J (cP+da))∧(J (cP+da))<((J (aW+(1:Int))).toNat:Nat) then
   lf[(0+(J (cP+da)).toNat)]? >>= fun mm =>
   oe (J ((-1:Int)*f8)) >>= fun e7 =>
   (b5.set a3.length (lf.set (0+(J (cP+da)).toNat) c0))[a3.length]? >>= fun oN =>
   if 0≤aW∧aW<((J (aW+(1:Int))).toNat:Nat) then
   oN[(0+aW.toNat)]? >>= fun va =>
   if (ap++([(some (a3.length,(J (aW+(1:Int))).toNat))]:List bt)).length*24≤140737488355328 then
   if (ah++([J (cP+da)]:List Int)).length*8≤140737488355328 then
   some (.inl (J (da+(1:Int)),ap++([(some (a3.length,(J (aW+(1:Int))).toNat))]:List bt),(b5.set a3.length (lf.set (0+(J (cP+da)).toNat) c0)).set a3.length (oN.set (0+aW.toNat) e7),ah++([J (cP+da)]:List Int)))
   else none
   else none
   else none
   else none
  else
   wX (⟨dB,cP,dN,dI,dM⟩:hk) da >>= fun b4 =>
   CM dB cP dN dI dM aW da a3.length ((J (aW+(1:Int))).toNat) b4 (len_ eI b4) aI aH ap ah aD 0 (a3++[(List.replicate (J (aW+(1:Int))).toNat (⟨false,([]:List Int)⟩:bm):List bm)]) >>= fun b5 =>
   oe 1 >>= fun c0 =>
   b5[a3.length]? >>= fun lf =>
   if 0≤(J (cP+da))∧(J (cP+da))<((J (aW+(1:Int))).toNat:Nat) then
   lf[(0+(J (cP+da)).toNat)]? >>= fun mm =>
   oe (J ((1:Int)*f8)) >>= fun e7 =>
   (b5.set a3.length (lf.set (0+(J (cP+da)).toNat) c0))[a3.length]? >>= fun oN =>
   if 0≤aW∧aW<((J (aW+(1:Int))).toNat:Nat) then
   oN[(0+aW.toNat)]? >>= fun va =>
   if (ap++([(some (a3.length,(J (aW+(1:Int))).toNat))]:List bt)).length*24≤140737488355328 then
   if (ah++([J (cP+da)]:List Int)).length*8≤140737488355328 then
   some (.inl (J (da+(1:Int)),ap++([(some (a3.length,(J (aW+(1:Int))).toNat))]:List bt),(b5.set a3.length (lf.set (0+(J (cP+da)).toNat) c0)).set a3.length (oN.set (0+aW.toNat) e7),ah++([J (cP+da)]:List Int)))
   else none
   else none
   else none
   else none
  else none
  else none
 else
  some (.inr (ap,a3,ah))
def CN (dB cP:Int)(dN dI dM:List Int)(aW:Int)(aI:Bool)(aH:List Int)(aD:List Bool)(da:Int)(ap:List bt)(a3:List (List bm))(ah:List Int):Option ((List bt)×(List (List bm))×(List Int)):=iter (fun w:Int×(List bt)×(List (List bm))×(List Int)=>wA dB cP dN dI dM aW aI aH aD w.1 w.2.1 w.2.2.1 w.2.2.2) (da,ap,a3,ah)
theorem T8 {dB cP:Int}{dN dI dM:List Int}{aW:Int}{aI:Bool}{aH:List Int}{aD:List Bool}{da:Int}{ap:List bt}{a3:List (List bm)}{ah:List Int}:bx (wA dB cP dN dI dM aW aI aH aD da ap a3 ah) (dP a7 205 0 36 [1,1,1,0,1,0,0] (G3 dB cP dN dI dM aW aI aH aD (da,ap,a3,ah)) (G3 dB cP dN dI dM aW aI aH aD) (Hy dB cP dN dI dM aW aI aH aD)):=by
 unfold wA
 exact .ite (fun h1 =>
  .aY fun h2 =>
  .aY fun ab =>
  .ar fun f8 aA =>
  (let t1:List bY:=[(I 1),.U true,(I 2),.ay (bq 2 (.vg 2 (a3.length+0) (.b2 [.b false,.isl 1 (([]:List Int).map eI)])) 1),(I 1),.ay (bq 6 (.b2 (eI f8)) 1)];
  have aS:=((.bg h1 h2.1 (Int.le_refl (J (aW+(1:Int)))) h2.2.1 h2.2.2 (congrArg (· + 0) (Ka (f9 .live 2 aU a3) rfl)) ab.1 (cO eI ab.2) (.e1 (bU eI aA))):cp _);
  .ite (fun aX =>
  .ar fun b4 bi =>
  .ar fun b5 cM =>
  .ar fun c0 eR =>
  .ar fun lf ew =>
  .aY fun fO =>
  .ar fun mm hn =>
  .ar fun e7 gr =>
  .ar fun oN gS =>
  .aY fun jq =>
  .ar fun va yz =>
  .aY fun qS =>
  .aY fun BF =>
  .ret (let q2:=(J (aW+(1:Int)));let bK:=J (cP+da);let q1:=(oW (f9 .live 2 aU b5) a3.length (qk (cR aU lf) (0+bK.toNat) c0 (rfl:(setCells (aU mm) 0 (aU c0))=aU c0)));let bW:=cB [0,36,1,52,4];let cD:=(ah++([bK]:List Int));let d5:=(ap++([(some (a3.length,q2.toNat))]:List bt));let fJ:=jU (f9 .live 2 aU b5) iZ ew;bf (t1.append [.U true,(I 1),.ay (bq 2 (bp 2 (.isl 1 (b4.map eI)) false) 2),.aN [0,2,1,3,4] [.box [.id,.id,.id,.id,.id,.id],.bB (b3 2 aU (a3++[(List.replicate q2.toNat (⟨false,([]:List Int)⟩:bm):List bm)])),.bB (ae 1 (bj 1 0 2) ap),.pure,.pure] (a6 [0,4,5,6,7,8,34,35,51,52,53]),(Hw dB cP dN dI dM aW da a3.length (q2.toNat) b4 (len_ eI b4) aI aH ap ah aD b5).e8,.ay (ai 7 (al (bp 1 (.agg (aU c0)) false) (al (.gb (ad.mk 2 (lf.map aU) .live) []) (al (.gb (ad.mk 2 (lf.map aU) .live) (aU mm)) [])))),.ay (ai 9 (al (.b2 (eI f8)) (ai 1 (al (bp 1 (.agg (aU e7)) false) (al (.gb (ad.mk 2 (oN.map aU) .live) []) (al (.gb (ad.mk 2 (oN.map aU) .live) (aU va)) [])))))),.ay (ai 6 (al (.kc 93 (ly 1 0 2 (some (a3.length,q2.toNat))) .none) (al (.aG (d5.length)) (ai 3 [])))),.ay (bq 12 (.aG (cD.length)) 3),(I 2),.aN [0,36,1,52,4] [.box [.id,.id,.id,.id,.id,.id],.bB (ae 1 (bj 2 0 2) d5),.bB (b3 2 aU ((b5.set a3.length (lf.set (0+bK.toNat) c0)).set a3.length (oN.set (0+aW.toNat) e7))),.cu (ae 1 eI cD),.pure] (a6 [0,4,5,34,35])]) (aS.aG (.bg aX (MG b4 bi) (m2 (b6:=(cB [0,2,1,3,4])) (DL (f9 .live 2 aU a3) (DU rI 10 2 (a3.length+0) (lC aU q2.toNat (⟨false,([]:List Int)⟩:bm)) (DV 10 2 (a3.length+0)))) (mf e3)) (eu (cB [0,2,1,3,4]) 1 2 0 2 rfl ap) (aF 1 .live aO ah) (aF 1 .live eS aD) (Vy cM) (rG c0 eR) (.bg fJ fO.1 fO.2 fJ (bU aU hn) ab.1 (cO eI ab.2) (bU eI aA) (.bg (rG e7 gr) (jU q1 iZ gS) jq.1 jq.2 (jU q1 iZ gS) (bU aU yz) (.s2 1 0 2 a3.length (q2.toNat):kh (.bk 1 (a3.length+0) 0 (q2.toNat)) (ly 1 0 2 (some (a3.length,q2.toNat)))) (gx (bj 1 0 2) (some (a3.length,q2.toNat))) (.bg (gV (bj 1 0 2) ap) (gy (bj 1 0 2) ap (some (a3.length,q2.toNat))) qS (gx eI bK) (gV eI ah) (gy eI ah bK) BF (c2 (rv (b6:=bW) 1 .live (bj 2 0 2) (ha (bj 1 0 2) ap (some (a3.length,q2.toNat))) (s3 (rfl:bW 1=some 2))) (oX (b6:=bW))) (.c5 (m2 (b6:=bW) (oW q1 a3.length (qk (cR aU oN) (0+aW.toNat) e7 (rfl:(setCells (aU va) 0 (aU e7))=aU e7))) (mf e3)) (cU 1 .live (ha eI ah bK)) (aF 1 .live aO cD) (aF 1 .live eS aD)))))))))
  (fun aX =>
  .ar fun b4 bi =>
  .ar fun b5 cM =>
  .ar fun c0 eR =>
  .ar fun lf ew =>
  .aY fun fO =>
  .ar fun mm hn =>
  .ar fun e7 gr =>
  .ar fun oN gS =>
  .aY fun jq =>
  .ar fun va yz =>
  .aY fun qS =>
  .aY fun BF =>
  .ret (let hC:=(J (aW+(1:Int)));let jr:=J (cP+da);let eB:=(oW (f9 .live 2 aU b5) a3.length (qk (cR aU lf) (0+jr.toNat) c0 (rfl:(setCells (aU mm) 0 (aU c0))=aU c0)));let js:=cB [0,36,1,52,4];let mj:=(ah++([jr]:List Int));let iF:=(ap++([(some (a3.length,hC.toNat))]:List bt));let qO:=jU (f9 .live 2 aU b5) iZ ew;bf (t1.append [.U false,.ay (bq 2 (bp 2 (.isl 1 (b4.map eI)) false) 2),.aN [0,2,1,3,4] [.box [.id,.id,.id,.id,.id,.id],.bB (b3 2 aU (a3++[(List.replicate hC.toNat (⟨false,([]:List Int)⟩:bm):List bm)])),.bB (ae 1 (bj 1 0 2) ap),.pure,.pure] (a6 [0,4,5,6,7,8,34,35,51,52,53]),(Hx dB cP dN dI dM aW da a3.length (hC.toNat) b4 (len_ eI b4) aI aH ap ah aD b5).e8,.ay (ai 7 (al (bp 1 (.agg (aU c0)) false) (al (.gb (ad.mk 2 (lf.map aU) .live) []) (al (.gb (ad.mk 2 (lf.map aU) .live) (aU mm)) [])))),.ay (ai 9 (al (.b2 (eI f8)) (ai 1 (al (bp 1 (.agg (aU e7)) false) (al (.gb (ad.mk 2 (oN.map aU) .live) []) (al (.gb (ad.mk 2 (oN.map aU) .live) (aU va)) [])))))),.ay (ai 6 (al (.kc 93 (ly 1 0 2 (some (a3.length,hC.toNat))) .none) (al (.aG (iF.length)) (ai 3 [])))),.ay (bq 12 (.aG (mj.length)) 3),(I 2),.aN [0,36,1,52,4] [.box [.id,.id,.id,.id,.id,.id],.bB (ae 1 (bj 2 0 2) iF),.bB (b3 2 aU ((b5.set a3.length (lf.set (0+jr.toNat) c0)).set a3.length (oN.set (0+aW.toNat) e7))),.cu (ae 1 eI mj),.pure] (a6 [0,4,5,34,35])]) (aS.aG (.bg aX (MG b4 bi) (m2 (b6:=(cB [0,2,1,3,4])) (DL (f9 .live 2 aU a3) (DU rI 10 2 (a3.length+0) (lC aU hC.toNat (⟨false,([]:List Int)⟩:bm)) (DV 10 2 (a3.length+0)))) (mf e3)) (eu (cB [0,2,1,3,4]) 1 2 0 2 rfl ap) (aF 1 .live aO ah) (aF 1 .live eS aD) (Vz cM) (rG c0 eR) (.bg qO fO.1 fO.2 qO (bU aU hn) ab.1 (cO eI ab.2) (bU eI aA) (.bg (rG e7 gr) (jU eB iZ gS) jq.1 jq.2 (jU eB iZ gS) (bU aU yz) (.s2 1 0 2 a3.length (hC.toNat):kh (.bk 1 (a3.length+0) 0 (hC.toNat)) (ly 1 0 2 (some (a3.length,hC.toNat)))) (gx (bj 1 0 2) (some (a3.length,hC.toNat))) (.bg (gV (bj 1 0 2) ap) (gy (bj 1 0 2) ap (some (a3.length,hC.toNat))) qS (gx eI jr) (gV eI ah) (gy eI ah jr) BF (c2 (rv (b6:=js) 1 .live (bj 2 0 2) (ha (bj 1 0 2) ap (some (a3.length,hC.toNat))) (s3 (rfl:js 1=some 2))) (oX (b6:=js))) (.c5 (m2 (b6:=js) (oW eB a3.length (qk (cR aU oN) (0+aW.toNat) e7 (rfl:(setCells (aU va) 0 (aU e7))=aU e7))) (mf e3)) (cU 1 .live (ha eI ah jr)) (aF 1 .live aO mj) (aF 1 .live eS aD)))))))))))
  (fun h1 =>
  .ret (bf [(I 1),.U false,.aN [0,1,2,3,4] [.box [.id,.id,.id,.id,.id,.id],.bB (ae 1 (bj 2 0 2) ap),.bB (b3 2 aU a3),.pure,.pure] (a6 [0,4,5])] (.dg h1 (eu (cB [0,1,2,3,4]) 2 2 0 2 rfl ap) (dz (cB [0,1,2,3,4]) 2 e3 a3) (aF 1 .live aO ah) (aF 1 .live eS aD))))
theorem VA {dB cP:Int}{dN dI dM:List Int}{aW:Int}{aI:Bool}{aH:List Int}{aD:List Bool}{da:Int}{ap:List bt}{a3:List (List bm)}{ah:List Int}{r} (h:CN dB cP dN dI dM aW aI aH aD da ap a3 ah=some r):dQ a7 205 0 36 [1,1,1,0,1,0,0] (G3 dB cP dN dI dM aW aI aH aD) (Hy dB cP dN dI dM aW aI aH aD) (da,ap,a3,ah) r:=dR (fun _=>T8) h
def G4 (dB cP:Int)(dN dI dM:List Int)(aW oo:Int)(aI:Bool)(aH:List Int)(ax:List bt)(db:List (List bm))(aD:List Int):(Int×(List Int)×(List Bool))→S:=fun (gE,ap,bz)=>dl [(0,.d7 5 [[.n .i64 dB,.n .i64 cP,.isl 1 (dN.map eI),.isl 1 (dI.map eI),.isl 1 (dM.map eI)]] 0 0),(4,.n .i64 aW),(5,.ref 0 0 0 0),(11,.bk 1 0 0 ap.length),(117,.n .i64 oo),(118,.n .i64 gE)] [[ad.mk 6 [(fW 2 0 0 ax.length aI aH 4 0 0 aD.length aW 5 0 0 bz.length)] .live],(ae 1 eI ap),(ae 1 (bj 3 0 2) ax),(b3 2 aU db),(ae 1 eI aD),(ae 1 ed bz)]
def Hz (dB cP:Int)(dN dI dM:List Int)(aW oo:Int)(aI:Bool)(aH:List Int)(ax:List bt)(db:List (List bm))(aD:List Int):((List Int)×(List Bool))→dq
 | a=>⟨some 4,[(0,.d7 5 [[.n .i64 dB,.n .i64 cP,.isl 1 (dN.map eI),.isl 1 (dI.map eI),.isl 1 (dM.map eI)]] 0 0),(4,.n .i64 aW),(5,.ref 0 0 0 0),(11,.bk 1 0 0 a.1.length)],[[ad.mk 6 [(fW 2 0 0 ax.length aI aH 4 0 0 aD.length aW 5 0 0 a.2.length)] .live],(ae 1 eI a.1),(ae 1 (bj 3 0 2) ax),(b3 2 aU db),(ae 1 eI aD),(ae 1 ed a.2)]⟩
def wB (dB cP:Int)(dN dI dM:List Int)(aW oo:Int)(aI:Bool)(aH:List Int)(ax:List bt)(db:List (List bm))(aD:List Int)(gE:Int)(ap:List Int)(bz:List Bool):Option ((Int×(List Int)×(List Bool))⊕((List Int)×(List Bool))) :=
 if (decide (gE<oo))=true then
  if 0≤gE∧gE<(bz.length:Nat) then
  if (0+gE.toNat)<bz.length then
  if (decide (cP≤gE))=true then
   if 0≤gE∧gE<(ap.length:Nat) then
   if (0+gE.toNat)<ap.length then
   some (.inl (J (gE+(1:Int)),ap.set (0+gE.toNat) (-1),bz.set (0+gE.toNat) (decide (gE<cP))))
   else none
   else none
  else
   some (.inl (J (gE+(1:Int)),ap,bz.set (0+gE.toNat) (decide (gE<cP))))
  else none
  else none
 else
  some (.inr (ap,bz))
def CO (dB cP:Int)(dN dI dM:List Int)(aW oo:Int)(aI:Bool)(aH:List Int)(ax:List bt)(db:List (List bm))(aD:List Int)(gE:Int)(ap:List Int)(bz:List Bool):Option ((List Int)×(List Bool)):=iter (fun w:Int×(List Int)×(List Bool)=>wB dB cP dN dI dM aW oo aI aH ax db aD w.1 w.2.1 w.2.2) (gE,ap,bz)
theorem T9 {dB cP:Int}{dN dI dM:List Int}{aW oo:Int}{aI:Bool}{aH:List Int}{ax:List bt}{db:List (List bm)}{aD:List Int}{gE:Int}{ap:List Int}{bz:List Bool}:bx (wB dB cP dN dI dM aW oo aI aH ax db aD gE ap bz) (dP a7 205 0 36 [1,1,1,1,1,0,1,0,0] (G4 dB cP dN dI dM aW oo aI aH ax db aD (gE,ap,bz)) (G4 dB cP dN dI dM aW oo aI aH ax db aD) (Hz dB cP dN dI dM aW oo aI aH ax db aD)):=by
 unfold wB
 exact .ite (fun h1 =>
  .aY fun h2 =>
  .aY fun ab =>
  (let t1:List bY:=[(I 1),.U true,(I 2),.ay (ai 12 (al .fM [])),(I 6)];
  have aS:=((.dg h1 h2.1 h2.2 (hz ed ab) (ht 1)):cp _);
  .ite (fun au =>
  .aY fun aA =>
  .aY fun aX =>
  .ret (let q1:=cB [0,1,2,3,4,5];bf (t1.append [.U true,.ay (ai 3 (al .fM [])),(I 2),.aN [0,1,2,3,4,5] [.box [.id,.id,.id,.id,.id,.len ((bz.set (0+gE.toNat) (decide (gE<cP))).length)],.cu (ae 1 eI (ap.set (0+gE.toNat) (-1))),.bB (ae 1 (bj 3 0 2) ax),.bB (b3 2 aU db),.pure,.cu (ae 1 ed (bz.set (0+gE.toNat) (decide (gE<cP))))] [(0,ii),(4,ii),(5,ii),(11,fV ((ap.set (0+gE.toNat) (-1)).length)),(117,ii),(118,ii)]]) (aS.aG (.bg au aA.1 aA.2 (hz eI aX) (ht 1) (hP (dF bz) (0+gE.toNat) (decide (gE<cP))) (cU 1 .live (gD (cR eI ap) (0+gE.toNat) (-1))) (aF 1 .live aO (ap.set (0+gE.toNat) (-1))) (.dU (eu q1 3 3 0 2 rfl ax) (dz q1 2 e3 db) (aF 1 .live aO aD) (cU 1 .live (gD (cR ed bz) (0+gE.toNat) (decide (gE<cP)))) (aF 1 .live eS (bz.set (0+gE.toNat) (decide (gE<cP)))) (hP (dF ap) (0+gE.toNat) (-1)))))))
  (fun au =>
  .ret (let q2:=cB [0,1,2,3,4,5];bf (t1.append [.U false,(I 2),.aN [0,1,2,3,4,5] [.box [.id,.id,.id,.id,.id,.len ((bz.set (0+gE.toNat) (decide (gE<cP))).length)],.pure,.bB (ae 1 (bj 3 0 2) ax),.bB (b3 2 aU db),.pure,.cu (ae 1 ed (bz.set (0+gE.toNat) (decide (gE<cP))))] (a6 [0,4,5,11,117,118])]) (aS.aG (.gJ au (hP (dF bz) (0+gE.toNat) (decide (gE<cP))) (aF 1 .live aO ap) (eu q2 3 3 0 2 rfl ax) (dz q2 2 e3 db) (aF 1 .live aO aD) (cU 1 .live (gD (cR ed bz) (0+gE.toNat) (decide (gE<cP)))) (aF 1 .live eS (bz.set (0+gE.toNat) (decide (gE<cP))))))))))
  (fun h1 =>
  .ret (let bK:=cB [0,1,2,3,4,5];bf [(I 1),.U false,.aN [0,1,2,3,4,5] [.box [.id,.id,.id,.id,.id,.id],.pure,.bB (ae 1 (bj 3 0 2) ax),.bB (b3 2 aU db),.pure,.pure] (a6 [0,4,5,11])] (.dU h1 (aF 1 .live aO ap) (eu bK 3 3 0 2 rfl ax) (dz bK 2 e3 db) (aF 1 .live aO aD) (aF 1 .live eS bz))))
theorem VB {dB cP:Int}{dN dI dM:List Int}{aW oo:Int}{aI:Bool}{aH:List Int}{ax:List bt}{db:List (List bm)}{aD:List Int}{gE:Int}{ap:List Int}{bz:List Bool}{r} (h:CO dB cP dN dI dM aW oo aI aH ax db aD gE ap bz=some r):dQ a7 205 0 36 [1,1,1,1,1,0,1,0,0] (G4 dB cP dN dI dM aW oo aI aH ax db aD) (Hz dB cP dN dI dM aW oo aI aH ax db aD) (gE,ap,bz) r:=dR (fun _=>T9) h
def G5 (dB cP:Int)(dN dI dM:List Int)(aW oq:Int)(aI:Bool)(aH:List Int)(bn:Int)(ap:List Int)(ax:List bt)(db:List (List bm))(aD:List Bool):Int→S:=fun mC=>dl [(0,.d7 5 [[.n .i64 dB,.n .i64 cP,.isl 1 (dN.map eI),.isl 1 (dI.map eI),.isl 1 (dM.map eI)]] 0 0),(4,.n .i64 aW),(5,.ref 0 0 0 0),(149,.bk 1 0 0 ap.length),(150,.n .i64 oq),(151,.n .i64 mC)] [[ad.mk 6 [(fW 2 0 0 ax.length aI aH 1 0 0 ap.length bn 4 0 0 aD.length)] .live],(ae 1 eI ap),(ae 1 (bj 3 0 2) ax),(b3 2 aU db),(ae 1 ed aD)]
def HA (dB cP:Int)(dN dI dM:List Int)(aW oq:Int)(aI:Bool)(aH:List Int)(bn:Int)(ap:List Int)(ax:List bt)(db:List (List bm))(aD:List Bool):((Unit)⊕(Unit))→dq
 | .inl a=>⟨some 6,[(0,.d7 5 [[.n .i64 dB,.n .i64 cP,.isl 1 (dN.map eI),.isl 1 (dI.map eI),.isl 1 (dM.map eI)]] 0 0),(5,.ref 0 0 0 0)],[[ad.mk 6 [(fW 1 0 0 ax.length aI aH 3 0 0 ap.length bn 4 0 0 aD.length)] .live],(ae 1 (bj 2 0 2) ax),(b3 2 aU db),(ae 1 eI ap),(ae 1 ed aD)]⟩
 | .inr a=>⟨none,[(2,.hR),(3,.b false)],[]⟩
def wC (dB cP:Int)(dN dI dM:List Int)(aW oq:Int)(aI:Bool)(aH:List Int)(bn:Int)(ap:List Int)(ax:List bt)(db:List (List bm))(aD:List Bool)(mC:Int):Option ((Int)⊕((Unit)⊕(Unit))) :=
 if (decide (mC<oq))=true then
  if 0≤mC∧mC<(ap.length:Nat) then
  ap[(0+mC.toNat)]? >>= fun aE =>
  if (decide (cP≤aE))=true then
   if 0≤mC∧mC<(ax.length:Nat) then
   ax[(0+mC.toNat)]? >>= fun fi =>
   fi >>= fun lT =>
   db[lT.1]? >>= fun Eu =>
   if 0≤aW∧aW<(lT.2:Nat) then
   Eu[(0+aW.toNat)]? >>= fun Lq =>
   oR Lq >>= fun ey =>
   if (decide ((0:Int)<ey))=true then
    some (.inr (.inr ()))
   else
    some (.inl (J (mC+(1:Int))))
   else none
   else none
  else
   some (.inl (J (mC+(1:Int))))
  else none
 else
  some (.inr (.inl ()))
def CP (dB cP:Int)(dN dI dM:List Int)(aW oq:Int)(aI:Bool)(aH:List Int)(bn:Int)(ap:List Int)(ax:List bt)(db:List (List bm))(aD:List Bool)(mC:Int):Option ((Unit)⊕(Unit)):=iter (fun w:Int=>wC dB cP dN dI dM aW oq aI aH bn ap ax db aD w) mC
theorem Ua {dB cP:Int}{dN dI dM:List Int}{aW oq:Int}{aI:Bool}{aH:List Int}{bn:Int}{ap:List Int}{ax:List bt}{db:List (List bm)}{aD:List Bool}{mC:Int}:bx (wC dB cP dN dI dM aW oq aI aH bn ap ax db aD mC) (dP a7 205 0 36 [1,1,1,1,1,1,1,0,1,0,0] (G5 dB cP dN dI dM aW oq aI aH bn ap ax db aD mC) (G5 dB cP dN dI dM aW oq aI aH bn ap ax db aD) (HA dB cP dN dI dM aW oq aI aH bn ap ax db aD)):=by
 unfold wC
 exact .ite (fun h1 =>
  .aY fun h2 =>
  .ar fun aE au =>
  (let t1:List bY:=[(I 1),.U true,.ay (bq 2 (.b2 (eI aE)) 2)];
  .ite (fun aA =>
  .aY fun aX =>
  .ar fun fi bi =>
  .ar fun lT cM =>
  .ar fun Eu eR =>
  .aY fun el =>
  .ar fun Lq fO =>
  .ar fun ey hn =>
  (let q1:=jU (f9 .live 2 aU db) iZ eR;let t2:List bY:=t1.append [.ay (ai 13 (al (.b2 ((bj 3 0 2) fi)) (ai 1 (al (.kc 169 (.bk 3 (lT.1+0) 0 lT.2) (.gb (ad.mk 2 (Eu.map aU) .live) [])) (al (.gb (ad.mk 2 (Eu.map aU) .live) (aU Lq)) (al (bp 1 (.n .i64 ey) true) (ai 1 (al (.U true) []))))))))];
  have fA:=((.bg h1 h2.1 h2.2 (bU eI au) aA aA aA aA (.bg aA aA aX.1 aX.2 aA (bU (bj 3 0 2) bi) aA aA (.bg (lX (dL:=3) (c:=0) (sz:=2) cM) q1 el.1 el.2 aA q1 (bU aU fO) aA (.c5 (sE ey hn) (b7.n .i64 ey) aA aA)))):cp _);
  .ite (fun ho =>
  .ret (bf (t2.append [.U true,(I 2),.aN [] [] (a6 [2,3])]) (fA.aG (.e1 ho))))
  (fun ho =>
  .ret (bf (t2.append [.U false,(I 2),.aN [0,1,2,3,4] [.box [.id,.id,.id,.id,.id,.id],.pure,.bB (ae 1 (bj 3 0 2) ax),.bB (b3 2 aU db),.pure] (a6 [0,4,5,149,150,151])]) (fA.aG (.dg ho (aF 1 .live aO ap) (eu (cB [0,1,2,3,4]) 3 3 0 2 rfl ax) (dz (cB [0,1,2,3,4]) 2 e3 db) (aF 1 .live eS aD)))))))
  (fun aA =>
  .ret (bf (t1.append [.ay (ai 7 (ck 12 (al (.U false) []))),.U false,(I 2),.aN [0,1,2,3,4] [.box [.id,.id,.id,.id,.id,.id],.pure,.bB (ae 1 (bj 3 0 2) ax),.bB (b3 2 aU db),.pure] (a6 [0,4,5,149,150,151])]) (.bg h1 h2.1 h2.2 (bU eI au) aA aA aA aA (.bg aA aA aA aA aA aA aA aA (.dU aA cL (aF 1 .live aO ap) (eu (cB [0,1,2,3,4]) 3 3 0 2 rfl ax) (dz (cB [0,1,2,3,4]) 2 e3 db) (aF 1 .live eS aD))))))))
  (fun h1 =>
  .ret (bf [(I 1),.U false,.aN [0,2,3,1,4] [.box [.id,.id,.id,.id,.id,.id],.bB (ae 1 (bj 2 0 2) ax),.bB (b3 2 aU db),.pure,.pure] (a6 [0,5])] (.dg h1 (eu (cB [0,2,3,1,4]) 2 3 0 2 rfl ax) (dz (cB [0,2,3,1,4]) 2 e3 db) (aF 1 .live aO ap) (aF 1 .live eS aD))))
theorem MQ {dB cP:Int}{dN dI dM:List Int}{aW oq:Int}{aI:Bool}{aH:List Int}{bn:Int}{ap:List Int}{ax:List bt}{db:List (List bm)}{aD:List Bool}{mC:Int}{r} (h:CP dB cP dN dI dM aW oq aI aH bn ap ax db aD mC=some r):dQ a7 205 0 36 [1,1,1,1,1,1,1,0,1,0,0] (G5 dB cP dN dI dM aW oq aI aH bn ap ax db aD) (HA dB cP dN dI dM aW oq aI aH bn ap ax db aD) mC r:=dR (fun _=>Ua) h
def G6 (dB cP:Int)(dN dI dM:List Int)(ot:Int)(aI:Bool)(aH:List Int)(bn:Int)(ap:List bt)(a3:List (List bm))(ah:List Int):(Int×(List Bool))→S:=fun (kv,aD)=>dl [(0,.d7 5 [[.n .i64 dB,.n .i64 cP,.isl 1 (dN.map eI),.isl 1 (dI.map eI),.isl 1 (dM.map eI)]] 0 0),(5,.ref 0 0 0 0),(181,.n .i64 ot),(182,.n .i64 kv)] [[ad.mk 6 [(fW 1 0 0 ap.length aI aH 3 0 0 ah.length bn 4 0 0 aD.length)] .live],(ae 1 (bj 2 0 2) ap),(b3 2 aU a3),(ae 1 eI ah),(ae 1 ed aD)]
def HB (dB cP:Int)(dN dI dM:List Int)(ot:Int)(aI:Bool)(aH:List Int)(bn:Int)(ap:List bt)(a3:List (List bm))(ah:List Int):(List Bool)→dq
 | a=>⟨some 8,[(0,.d7 5 [[.n .i64 dB,.n .i64 cP,.isl 1 (dN.map eI),.isl 1 (dI.map eI),.isl 1 (dM.map eI)]] 0 0),(5,.ref 0 0 0 0)],[[ad.mk 6 [(fW 1 0 0 ap.length aI aH 3 0 0 ah.length bn 4 0 0 a.length)] .live],(ae 1 (bj 2 0 2) ap),(b3 2 aU a3),(ae 1 eI ah),(ae 1 ed a)]⟩
def wD (dB cP:Int)(dN dI dM:List Int)(ot:Int)(aI:Bool)(aH:List Int)(bn:Int)(ap:List bt)(a3:List (List bm))(ah:List Int)(kv:Int)(aD:List Bool):Option ((Int×(List Bool))⊕((List Bool))) :=
 if (decide (kv<ot))=true then
  if 0≤kv∧kv<(aD.length:Nat) then
  if (0+kv.toNat)<aD.length then
  some (.inl (J (kv+(1:Int)),aD.set (0+kv.toNat) (decide (kv<cP))))
  else none
  else none
 else
  some (.inr aD)
def CQ (dB cP:Int)(dN dI dM:List Int)(ot:Int)(aI:Bool)(aH:List Int)(bn:Int)(ap:List bt)(a3:List (List bm))(ah:List Int)(kv:Int)(aD:List Bool):Option ((List Bool)):=iter (fun w:Int×(List Bool)=>wD dB cP dN dI dM ot aI aH bn ap a3 ah w.1 w.2) (kv,aD)
theorem Ub {dB cP:Int}{dN dI dM:List Int}{ot:Int}{aI:Bool}{aH:List Int}{bn:Int}{ap:List bt}{a3:List (List bm)}{ah:List Int}{kv:Int}{aD:List Bool}:bx (wD dB cP dN dI dM ot aI aH bn ap a3 ah kv aD) (dP a7 205 0 36 [1,1,1,1,1,1,1,1,0,1,0,0] (G6 dB cP dN dI dM ot aI aH bn ap a3 ah (kv,aD)) (G6 dB cP dN dI dM ot aI aH bn ap a3 ah) (HB dB cP dN dI dM ot aI aH bn ap a3 ah)):=by
 unfold wD
 exact .ite (fun h1 =>
  .aY fun h2 =>
  .aY fun ab =>
  .ret (bf [(I 1),.U true,(I 2),.ay (ai 12 (al .fM [])),(I 2),.aN [0,1,2,3,4] [.box [.id,.id,.id,.id,.id,.len ((aD.set (0+kv.toNat) (decide (kv<cP))).length)],.bB (ae 1 (bj 2 0 2) ap),.bB (b3 2 aU a3),.pure,.cu (ae 1 ed (aD.set (0+kv.toNat) (decide (kv<cP))))] (a6 [0,5,181,182])] (.bg h1 h2.1 h2.2 (hz ed ab) (ht 1) (hP (dF aD) (0+kv.toNat) (decide (kv<cP))) (eu (cB [0,1,2,3,4]) 2 2 0 2 rfl ap) (dz (cB [0,1,2,3,4]) 2 e3 a3) (.bO (aF 1 .live aO ah) (cU 1 .live (gD (cR ed aD) (0+kv.toNat) (decide (kv<cP)))) (aF 1 .live eS (aD.set (0+kv.toNat) (decide (kv<cP))))))))
  (fun h1 =>
  .ret (bf [(I 1),.U false,.aN [0,1,2,3,4] [.box [.id,.id,.id,.id,.id,.id],.bB (ae 1 (bj 2 0 2) ap),.bB (b3 2 aU a3),.pure,.pure] (a6 [0,5])] (.dg h1 (eu (cB [0,1,2,3,4]) 2 2 0 2 rfl ap) (dz (cB [0,1,2,3,4]) 2 e3 a3) (aF 1 .live aO ah) (aF 1 .live eS aD))))
theorem VC {dB cP:Int}{dN dI dM:List Int}{ot:Int}{aI:Bool}{aH:List Int}{bn:Int}{ap:List bt}{a3:List (List bm)}{ah:List Int}{kv:Int}{aD:List Bool}{r} (h:CQ dB cP dN dI dM ot aI aH bn ap a3 ah kv aD=some r):dQ a7 205 0 36 [1,1,1,1,1,1,1,1,0,1,0,0] (G6 dB cP dN dI dM ot aI aH bn ap a3 ah) (HB dB cP dN dI dM ot aI aH bn ap a3 ah) (kv,aD) r:=dR (fun _=>Ub) h
def zH (b8:hk):Option ((Bool×(List Int)×Int×(List bt)×(List Int)×(List Bool)×(List (List bm)))⊕(Unit)) :=
 oe 1 >>= fun r1 =>
 if 0≤(J (b8.d6+b8.fp))∧(1:Int)*(J (b8.d6+b8.fp))≤281474976710656∧(J (b8.d6+b8.fp))<9223372036854775808 then
 CN b8.fp b8.d6 b8.dE b8.eg b8.hB (J (b8.d6+b8.fp)) r1.cJ r1.cw (List.replicate (J (b8.d6+b8.fp)).toNat false:List Bool) 0 ([]:List bt) ([]:List (List bm)) ([]:List Int) >>= fun bh =>
 if 0≤(J (b8.d6+b8.fp))∧(8:Int)*(J (b8.d6+b8.fp))≤281474976710656∧(J (b8.d6+b8.fp))<9223372036854775808 then
 CO b8.fp b8.d6 b8.dE b8.eg b8.hB (J (b8.d6+b8.fp)) (((J (b8.d6+b8.fp)).toNat:Nat):Int) r1.cJ r1.cw bh.1 bh.2.1 bh.2.2 0 (List.replicate (J (b8.d6+b8.fp)).toNat 0:List Int) (List.replicate (J (b8.d6+b8.fp)).toNat false:List Bool) >>= fun b4 =>
 we r1.cJ r1.cw (J (b8.d6+b8.fp)) bh.1 bh.2.1 bh.2.2 b4.2 b4.1 >>= fun b5 =>
 CP b8.fp b8.d6 b8.dE b8.eg b8.hB (J (b8.d6+b8.fp)) ((b5.2.2.2.2.1.length:Nat):Int) b5.2.1 b5.2.2.1 (J (b8.d6+b8.fp)) b5.2.2.2.2.1 bh.1 b5.2.2.2.1 b5.2.2.2.2.2 0 >>= fun c0 =>
 match c0 with
 | .inl tm=>(CQ b8.fp b8.d6 b8.dE b8.eg b8.hB ((b5.2.2.2.2.2.length:Nat):Int) b5.2.1 b5.2.2.1 (J (b8.d6+b8.fp)) bh.1 b5.2.2.2.1 b5.2.2.2.2.1 0 b5.2.2.2.2.2 >>= fun f7 =>
  yZ b8.d6 b5.2.1 b5.2.2.1 (J (b8.d6+b8.fp)) bh.1 b5.2.2.2.1 b5.2.2.2.2.1 f7 >>= fun ey =>
  some (.inl (ey.1,ey.2.1,(J (b8.d6+b8.fp)),ey.2.2.1,ey.2.2.2.2,f7,ey.2.2.2.1)))
 | .inr tm=>(some (.inr ()))
 else none
 else none
set_option maxHeartbeats 4000000 in
theorem Nc {b8:hk}:bx (zH b8) (Sum.elim (fun a=>Con a7 36 [.d7 5 [(nR b8)] 0 0] [] (.dS [.ref 0 0 0 0,.b true]) [(ad.mk 6 [(fW 0 1 0 a.2.2.2.1.length a.1 a.2.1 0 2 0 a.2.2.2.2.1.length a.2.2.1 0 3 0 a.2.2.2.2.2.1.length)] .live::ad.mk 1 (a.2.2.2.1.map (bj 0 4 2)) .live::ad.mk 1 (a.2.2.2.2.1.map eI) .live::ad.mk 1 (a.2.2.2.2.2.1.map ed) .live::(b3 2 aU a.2.2.2.2.2.2))]) (fun a=>Con a7 36 [.d7 5 [(nR b8)] 0 0] [] (.dS [.hR,.b false]) [])):=by
 unfold zH
 exact .ar fun r1 h2 =>
  .aY fun ab =>
  .ar fun bh aA =>
  .aY fun aX =>
  .ar fun b4 bi =>
  .ar fun b5 cM =>
  .ar fun c0 eR =>
  (let iF:=J (b8.d6+b8.fp);let qO:=fW 1 0 0 bh.1.length b5.2.1 b5.2.2.1 3 0 0 b5.2.2.2.2.1.length iF 4 0 0 b5.2.2.2.2.2.length;let BD:=fW 2 0 0 bh.1.length b5.2.1 b5.2.2.1 4 0 0 b5.2.2.2.2.1.length iF 5 0 0 b5.2.2.2.2.2.length;let rr:=(List.replicate iF.toNat false:List Bool);let tp:=cB [17,24,25,26,15];let BE:=fW 1 0 0 bh.1.length r1.cJ r1.cw 3 0 0 bh.2.2.length iF 4 0 0 b4.2.length;let yv:=fW 2 0 0 bh.1.length r1.cJ r1.cw 4 0 0 bh.2.2.length iF 5 0 0 b4.2.length;let u7:=b3 2 aU b5.2.2.2.1;let yw:=(List.replicate iF.toNat 0:List Int);let yx:=ae 1 (bj 3 0 2) bh.1;let tn:=o7 [0,2,3,4,5,1];let yy:=jG [0,2,3,4,5,1];let RE:=ae 1 (bj 2 0 2) bh.1;let RF:=cB [0,6,1,2,3,4];let t1:List bY:=[(I 2),(I 10),.ay (bq 1 (bp 1 (.agg (aU r1)) false) 5),(I 5),.rq 17 0 1,.El,.rq 17 3 1,.aN [17,24,25,26,15] [.box [.len (([]:List bt).length),.id,.id,.len (([]:List Int).length),.id,.len (rr.length)],.bB (ae 1 (bj 2 0 2) ([]:List bt)),.bB (b3 2 aU ([]:List (List bm))),.cu (ae 1 eI ([]:List Int)),.cu (ae 1 ed rr)] (a6 [0,4,5,34,35]),(Hy b8.fp b8.d6 b8.dE b8.eg b8.hB iF r1.cJ r1.cw rr bh).e8,(I 3),(I 3),.aN [0,6,1,2,3,4] [.box [.id,.id,.id,.id,.id,.id],.cu (ae 1 eI yw),.bB yx,.bB (b3 2 aU bh.2.1),.pure,.pure] [(0,ii),(4,ii),(5,ii),(11,fV (yw.length)),(117,ii),(118,ii)],(Hz b8.fp b8.d6 b8.dE b8.eg b8.hB iF ((iF.toNat:Nat):Int) r1.cJ r1.cw bh.1 bh.2.1 bh.2.2 b4).e8,.ay (ai 2 (al (.call {aZ:=(u3 [0,2,3,4,5,1]),dm:=[.bB [ad.mk 6 [BE] .live],.bB RE,.bB (b3 2 aU bh.2.1),.pure,.pure,.pure],ac:=[ii,ii],r:= .b b5.1,fv:=[[ad.mk 6 [qO] .live],RE,u7,(ae 1 eI b5.2.2.2.2.1),(ae 1 ed b5.2.2.2.2.2),(ae 1 eI b4.1)],ic:=ii,kk:=[.bB [ad.mk 6 [BD] .live],.bB yx,.bB u7,.pure,.pure,.pure],fH:=[0,1,2,3,4,5],fz:=false}) [])),(I 6),.aN [0,4,2,3,5] [.box [.id,.id,.id,.id,.id,.id],.pure,.bB yx,.bB u7,.pure] (a6 [0,4,5,149,150,151])];
  have aS:=((.bg (rG r1 h2) ab.1 (Int.le_refl iF) ab.2.1 ab.2.2 (eY bt) (eY Int) (lW iF.toNat (false:Bool)) (.bg (c2 (rv (b6:=tp) 1 .live (bj 2 0 2) (nk (bj 25 0 2)) (s3 (rfl:tp 25=some 2))) (oX (b6:=tp))) (m2 (b6:=tp) (P4 .live 2 aU) (mf e3)) (cU 1 .live (nk eI)) (aF 1 .live aO ([]:List Int)) (cU 1 .live (lC ed iF.toNat false)) (aF 1 .live eS rr) (VA aA) aX.1 (.bg (Int.le_refl iF) aX.2.1 aX.2.2 (cU 1 .live (lC eI iF.toNat 0)) (aF 1 .live aO yw) (eu RF 3 2 0 2 rfl bh.1) (dz RF 2 e3 bh.2.1) (aF 1 .live aO bh.2.2) (.bg (aF 1 .live eS rr) (lW iF.toNat (0:Int)) (VB bi) (x1 tn 6 [BE] [yv] rfl) (kD 6 [yv]) (eu tn 2 3 0 2 rfl bh.1) (kD 1 (bh.1.map (bj 3 0 2))) (dz tn 2 e3 bh.2.1) (.bg (ty 2 aU bh.2.1) (ij 1 aO bh.2.2) (ij 1 eS b4.2) (ij 1 aO b4.1) (x1 yy 6 [BD] [qO] rfl) (kD 6 [qO]) (eu yy 3 2 0 2 rfl bh.1) (kD 1 (bh.1.map (bj 2 0 2))) (.bg (dz yy 2 e3 b5.2.2.2.1) (ty 2 aU b5.2.2.2.1) (ij 1 aO b5.2.2.2.2.1) (ij 1 eS b5.2.2.2.2.2) (ij 1 aO b4.1) (Tw b5 cM) (aF 1 .live aO b5.2.2.2.2.1) (eu (cB [0,4,2,3,5]) 3 3 0 2 rfl bh.1) (.e2 (dz (cB [0,4,2,3,5]) 2 e3 b5.2.2.2.1) (aF 1 .live eS b5.2.2.2.2.2)))))))):cp _);
  (by
  rcases c0 with tm|tm
  ·exact (.ar fun f7 fO =>
  .ar fun ey hn =>
  .ret (let bW:=b3 2 aU ey.2.2.2.1;let cD:=ae 1 (bj 2 0 2) ey.2.2.1;let d5:=J (b8.d6+b8.fp);let q1:=fW 1 0 0 ey.2.2.1.length ey.1 ey.2.1 3 0 0 ey.2.2.2.2.length d5 4 0 0 f7.length;let q2:=fW 1 0 0 bh.1.length b5.2.1 b5.2.2.1 3 0 0 b5.2.2.2.2.1.length d5 4 0 0 f7.length;let bK:=fW 0 1 0 ey.2.2.1.length ey.1 ey.2.1 0 2 0 ey.2.2.2.2.length d5 0 3 0 f7.length;let fJ:=o7 [0,1,2,3,4];let eB:=jG [0,1,2,3,4];let hC:=ae 1 (bj 0 4 2) ey.2.2.1;let jr:=b3 2 aU b5.2.2.2.1;let js:=ae 1 (bj 2 0 2) bh.1;let mj:=cB [0];lQ (t1.append [(HA b8.fp b8.d6 b8.dE b8.eg b8.hB d5 ((b5.2.2.2.2.1.length:Nat):Int) b5.2.1 b5.2.2.1 d5 b5.2.2.2.2.1 bh.1 b5.2.2.2.1 b5.2.2.2.2.2 (.inl tm)).e8,(I 6),.aN [0,1,2,3,4] [.box [.id,.id,.id,.id,.id,.id],.bB js,.bB jr,.pure,.pure] (a6 [0,5,181,182]),(HB b8.fp b8.d6 b8.dE b8.eg b8.hB ((b5.2.2.2.2.2.length:Nat):Int) b5.2.1 b5.2.2.1 d5 bh.1 b5.2.2.2.1 b5.2.2.2.2.1 f7).e8,.ay (ai 5 (al (.call {aZ:=(u3 [0,1,2,3,4]),dm:=[.bB [ad.mk 6 [q2] .live],.bB js,.bB jr,.pure,.pure],ac:=[ii,ii],r:= .dS [],fv:=[[ad.mk 6 [q1] .live],cD,bW,(ae 1 eI ey.2.2.2.2),(ae 1 ed f7)],ic:=ii,kk:=[.bB [ad.mk 6 [q1] .live],.bB cD,.bB bW,.pure,.pure],fH:=[0,1,2,3,4],fz:=false}) [])),(I 3),.BA [{bC:=[(0,0),(1,0),(3,0),(4,0)],iw:=some (2,0)}] [([.box [.at_ 0 1 ey.2.2.1.length,.id,.id,.at_ 0 2 ey.2.2.2.2.length,.id,.at_ 0 3 f7.length],.rx hC,.pure,.pure],some (.rx bW))] [(2,.br (.dh (.at_ 0 0 0))),(3,ii)]]) [0] [.bB (ad.mk 6 [bK] .live::ad.mk 1 (ey.2.2.1.map (bj 0 4 2)) .live::ad.mk 1 (ey.2.2.2.2.map eI) .live::ad.mk 1 (f7.map ed) .live::bW)] (aS.aG (.bg (MQ eR) (eu (cB [0,1,2,3,4]) 2 2 0 2 rfl bh.1) (dz (cB [0,1,2,3,4]) 2 e3 b5.2.2.2.1) (aF 1 .live aO b5.2.2.2.2.1) (aF 1 .live eS b5.2.2.2.2.2) (VC fO) (x1 fJ 6 [q2] [q2] rfl) (kD 6 [q2]) (.bg (eu fJ 2 2 0 2 rfl bh.1) (kD 1 (bh.1.map (bj 2 0 2))) (dz fJ 2 e3 b5.2.2.2.1) (ty 2 aU b5.2.2.2.1) (ij 1 aO b5.2.2.2.2.1) (ij 1 eS f7) (x1 eB 6 [q1] [q1] rfl) (kD 6 [q1]) (.bg (eu eB 2 2 0 2 rfl ey.2.2.1) (kD 1 (ey.2.2.1.map (bj 2 0 2))) (dz eB 2 e3 ey.2.2.2.1) (ty 2 aU ey.2.2.2.1) (ij 1 aO ey.2.2.2.2) (ij 1 eS f7) (T5 ey hn) (rfl:(kB [{bC:=[(0,0),(1,0),(3,0),(4,0)],iw:=some (2,0)}]) 0 1=some (1,0)) (.bg (rfl:ey.2.2.1.length=ey.2.2.1.length) (rfl:(kB [{bC:=[(0,0),(1,0),(3,0),(4,0)],iw:=some (2,0)}]) 0 2=some (3,0)) (rfl:ey.2.2.2.2.length=ey.2.2.2.2.length) (rfl:(kB [{bC:=[(0,0),(1,0),(3,0),(4,0)],iw:=some (2,0)}]) 0 3=some (4,0)) (rfl:f7.length=f7.length) (PC (Kn (jY:=(bj 0 4 2)) (cR (bj 2 0 2) ey.2.2.1) (fun _=>rfl) (fun x=>(QC (fun _=>rfl)) x)) P6:rn (kB [{bC:=[(0,0),(1,0),(3,0),(4,0)],iw:=some (2,0)}]) cD hC) (aF 1 .live aO ey.2.2.2.2) (aF 1 .live eS f7) (.bO (PE (f9 .live 2 aU ey.2.2.2.1) (fun _=>rfl) e3:rn (kB [{bC:=[(0,0),(1,0),(3,0),(4,0)],iw:=some (2,0)}]) bW bW) (rfl:(kB [{bC:=[(0,0),(1,0),(3,0),(4,0)],iw:=some (2,0)}]) 0 0=some (0,0)) (c2 (show ad.mk 6 [bK] .live=gC mj (ad.mk 6 [bK] .live) from rfl) (c2 (kY mj 0 0 4 2 rfl ey.2.2.1) (c2 (fT mj 1 ky ey.2.2.2.2) (c2 (fT mj 1 QB f7) (dz mj 2 e3 ey.2.2.2.1))))))))))) (.comp [.dh .id,.dh .id])))
  ·exact (.ret (lQ (t1.append [.sub (.ret) [(2,.hR),(3,.b false)] []]) [] [] (aS.aG (.e1 (MQ eR)))))))
def tI (aJ:cI)(cH:List Int):Option Bool :=
 yO aJ cH 0 0 >>= fun r1 =>
 zH r1 >>= fun bd =>
 match bd with
 | .inl fP=>(some true)
 | .inr fP=>(some false)
theorem TD {aJ:cI}{cH:List Int}:bx (tI aJ cH) (fun r=>Con a7 21 [.d7 2 [(hf aJ)] 0 0,.isl 1 (cH.map eI)] [] (.b r) []):=by
 unfold tI
 exact .ar fun r1 h2 =>
  .ar fun bd au =>
  (let t1:List bY:=[(I 1),.ay (bq 2 (bp 4 (.agg (nR r1)) false) 2),.iK 4];
  have aS:=((.e2 (S1 r1 h2) (qj (WJ r1):jx [(nR r1)])):cp _);
  (by
  rcases bd with fP|fP
  ·exact (.ret (let q1:=fW 0 1 0 fP.2.2.2.1.length fP.1 fP.2.1 0 2 0 fP.2.2.2.2.1.length fP.2.2.1 0 3 0 fP.2.2.2.2.2.1.length;let q2:=fW 6 1 0 fP.2.2.2.1.length fP.1 fP.2.1 6 2 0 fP.2.2.2.2.1.length fP.2.2.1 6 3 0 fP.2.2.2.2.2.1.length;let bK:=b3 2 aU fP.2.2.2.2.2.2;bs (t1.append [.ay (al (.call {aZ:=[],dm:=[],ac:=[.br (.ptr [.id,.id,.id,.id,.id])],r:= .dS [.ref 0 0 0 0,.b true],fv:=[(ad.mk 6 [q1] .live::ad.mk 1 (fP.2.2.2.1.map (bj 0 4 2)) .live::ad.mk 1 (fP.2.2.2.2.1.map eI) .live::ad.mk 1 (fP.2.2.2.2.2.1.map ed) .live::bK)],ic:= .comp [.dh .id,.dh .id],kk:=[.bB (ad.mk 6 [q2] .live::ad.mk 1 (fP.2.2.2.1.map (bj 6 4 2)) .live::ad.mk 1 (fP.2.2.2.2.1.map eI) .live::ad.mk 1 (fP.2.2.2.2.2.1.map ed) .live::bK)],fH:=[4],fz:=false}) (ai 5 [])),(I 2)]) (aS.aG (.bO (c2 (show ad.mk 6 [q2] .live=gC (jG [6]) (ad.mk 6 [q1] .live) from rfl) (c2 (kY (jG [6]) 6 0 4 2 rfl fP.2.2.2.1) (c2 (fT (jG [6]) 1 ky fP.2.2.2.2.1) (c2 (fT (jG [6]) 1 QB fP.2.2.2.2.2.1) (dz (jG [6]) 2 e3 fP.2.2.2.2.2.2))))) ((jI rfl (jI rfl (jI rfl (jI rfl (uq (f9 .live 2 aU fP.2.2.2.2.2.2)))))):me (ad.mk 6 [q1] .live::ad.mk 1 (fP.2.2.2.1.map (bj 0 4 2)) .live::ad.mk 1 (fP.2.2.2.2.1.map eI) .live::ad.mk 1 (fP.2.2.2.2.2.1.map ed) .live::bK)) (Nc (.inl fP) au)))))
  ·exact (.ret (bs (t1.append [.ay (al (.call {aZ:=[],dm:=[],ac:=[.br (.ptr [.id,.id,.id,.id,.id])],r:= .dS [.hR,.b false],fv:=[],ic:=ii,kk:=[],fH:=[4],fz:=false}) (ai 5 [])),(I 2)]) (aS.aG (.e1 (Nc (.inr fP) au)))))))
def w7 (aJ:cI)(cH:List Int)(bo:Int):Option Bool :=
 xg aJ cH >>= fun r1 =>
 if r1=true then
  if (decide (bo<(0:Int)))=true then
   some false
  else
   if (decide ((len_ bS aJ.bG)≤bo))=true then
    some false
   else
    wK aJ ([bo]:List Int) >>= fun cc =>
    tI cc cH >>= fun cZ =>
    some cZ
 else
  some false
theorem We {aJ:cI}{cH:List Int}{bo:Int}:bx (w7 aJ cH bo) (fun r=>Con a7 8 [.agg (hf aJ),.isl 1 (cH.map eI),.n .i64 bo] [] (.b r) []):=by
 unfold w7
 exact .ar fun r1 h2 =>
  (have ae:=((.e2 (WQ r1 h2) (b7.b r1)):cp _);
  .ite (fun ab =>
  (have aS:=ae.aG (.bO (cV ab) (cV ab) (cV ab));
  .ite (fun au =>
  .ret (bs [(I 2),.ay (ai 2 (al (bp 2 (.b r1) true) (ai 4 (al (.U false) (ai 1 (ck 5 (al (.U true) []))))))),.U true,(I 1)] (aS.aG (.eE au au au au au au cv))))
  (fun au =>
  (let t3:List bY:=[(I 2),.ay (ai 2 (al (bp 2 (.b r1) true) (ai 4 (al (.U false) (ai 6 (al (.U false) []))))))];
  .ite (fun aA =>
  .ret (bs (t3.append [.U true,(I 1)]) (aS.aG (.eE au au au au au au aA))))
  (fun aA =>
  .ar fun cc bb =>
  .ar fun cZ cj =>
  .ret (bs (t3.append [.U false,.ay (bq 3 (.ss 19 (.call {ac:=[ii,.br (.dh (.ek (([bo]:List Int).map eI)))],r:= .agg (hf cc),fz:=false,fH:=[19]})) 2),.ay (bq 1 (.call {ac:=[.br (.ptr [.id,.id]),ii],r:= .b cZ,fz:=true,fH:=[21]}) 1)]) (aS.aG (.bg au au au au au au aA (kO (show [[.n .i64 bo]]=(([bo]:List Int)).map eI from rfl) (show 1=([bo]:List Int).length from rfl)) (.dU (gx eI bo) (du aO ([bo]:List Int)) (Uu cc bb) (qj (CC cc):jx [(hf cc)]) (TD cZ cj) (b7.b cZ))))))))))
  (fun ab =>
  .ret (bs [(I 2),.ay (ai 2 (al (bp 2 (.b r1) true) (ai 2 (ck 2 (al (.U true) (ai 1 (ck 5 (ai 1 [])))))))),.U true,(I 1)] (ae.aG (.bg (cT ab) (cT ab) (cT ab) cv cv cv cv cv (.e1 cv))))))
def zI (ag aB:bE):Option Bool :=
 if (!(ag.k6.toList == aB.k6.toList))=true then
  some false
 else
  if (ag.jZ != aB.jZ)=true then
   some false
  else
   if (ag.j0 != aB.j0)=true then
    some false
   else
    if (ag.k3 == aB.k3)=true then
     some true
    else
     some false
theorem WB {ag aB:bE}:bx (zI ag aB) (fun r=>Con a7 37 [.agg (bI ag),.agg (bI aB)] [] (.b r) []):=by
 unfold zI
 exact .ite (fun h1 =>
  .ret (bs [(I 3),(I 5),.U true,(I 1)] (.e1 h1)))
  (fun h1 =>
  (let t1:List bY:=[(I 3),(I 5),.U false,(I 5)];
  .ite (fun h2 =>
  .ret (bs (t1.append [.U true,(I 1)]) (.e2 h1 h2)))
  (fun h2 =>
  .ite (fun ab =>
  .ret (bs (t1.append [.U false,(I 5),.U true,(I 1)]) (.bO h1 h2 ab)))
  (fun ab =>
  (let t2:List bY:=t1.append [.U false,(I 5),.U false,(I 5)];
  .ite (fun au =>
  .ret (bs (t2.append [.U false,(I 1)]) (.c5 h1 h2 ab (cV au))))
  (fun au =>
  .ret (bs (t2.append [.U true,(I 1)]) (.c5 h1 h2 ab (cT au)))))))))
def GB (ag aB:List bE):Int→S:=fun af=>dl [(0,.isl 4 (ag.map bI)),(1,.isl 4 (aB.map bI)),(5,.n .i64 af)] []
def MA (ag aB:List bE):((Unit)⊕(Unit))→dq
 | .inl a=>⟨some 0,[],[]⟩
 | .inr a=>⟨none,[(4,.b false)],[]⟩
def wo (ag aB:List bE)(af:Int):Option ((Int)⊕((Unit)⊕(Unit))) :=
 if (decide (af<(len_ bI ag)))=true then
  if 0≤af∧af<ag.length then
  ag[af.toNat]? >>= fun aE =>
  if 0≤af∧af<aB.length then
  aB[af.toNat]? >>= fun cn =>
  zI aE cn >>= fun cZ =>
  if cZ=true then
   some (.inl (J (af+(1:Int))))
  else
   some (.inr (.inr ()))
  else none
  else none
 else
  some (.inr (.inl ()))
def Iv (ag aB:List bE)(af:Int):Option ((Unit)⊕(Unit)):=iter (fun w:Int=>wo ag aB w) af
theorem TS {ag aB:List bE}{af:Int}:bx (wo ag aB af) (dP a7 27 0 22 [1,1,0,1,0,0] (GB ag aB af) (GB ag aB) (MA ag aB)):=by
 unfold wo
 exact .ite (fun h1 =>
  .aY fun h2 =>
  .ar fun aE au =>
  .aY fun aA =>
  .ar fun cn bb =>
  .ar fun cZ cj =>
  (let t1:List bY:=[(I 4),.U true,.ay (ai 3 (al (.b2 (bI aE)) (ai 3 (al (.b2 (bI cn)) (al (bp 2 (.b cZ) true) (ai 1 []))))))];
  have aS:=((.bg h1 h2.1 (cO bI h2.2) (bU bI au) aA.1 (cO bI aA.2) (bU bI bb) (WB cZ cj) (.e1 (b7.b cZ))):cp _);
  .ite (fun cM =>
  .ret (bf (t1.append [.U false,(I 3),.aN [] [] (a6 [0,1,5])]) (aS.aG (.e1 (cV cM)))))
  (fun cM =>
  .ret (bf (t1.append [.U true,(I 1),.aN [] [] (a6 [4])]) (aS.aG (.e1 (cT cM)))))))
  (fun h1 =>
  .ret (bf [(I 4),.U false,.aN [] [] []] (.e1 h1)))
theorem MI {ag aB:List bE}{af:Int}{r} (h:Iv ag aB af=some r):dQ a7 27 0 22 [1,1,0,1,0,0] (GB ag aB) (MA ag aB) af r:=dR (fun _=>TS) h
def zy (ag aB:List bE):Option Bool :=
 if ((len_ bI ag) != (len_ bI aB))=true then
  some false
 else
  Iv ag aB 0 >>= fun r2 =>
  match r2 with
  | .inl fK=>(some true)
  | .inr fK=>(some false)
theorem Wf {ag aB:List bE}:bx (zy ag aB) (fun r=>Con a7 22 [.isl 4 (ag.map bI),.isl 4 (aB.map bI)] [] (.b r) []):=by
 unfold zy
 exact .ite (fun h1 =>
  .ret (bs [(I 1),(I 5),.U true,(I 1)] (.e1 h1)))
  (fun h1 =>
  .ar fun r2 ab =>
  (let t1:List bY:=[(I 1),(I 5),.U false,(I 1),.aN [] [] (a6 [0,1,5])];
  (by
  rcases r2 with fK|fK
  ·exact (.ret (bs (t1.append [.sub (.exit 0) [] [],(I 1)]) (.e2 h1 (MI ab))))
  ·exact (.ret (bs (t1.append [.sub (.ret) [(4,.b false)] []]) (.e2 h1 (MI ab)))))))
def zz (ag aB:bP):Option Bool :=
 if (ag.dE != aB.dE)=true then
  some false
 else
  if (ag.eg != aB.eg)=true then
   some false
  else
   if (ag.iU != aB.iU)=true then
    some false
   else
    some true
theorem Wg {ag aB:bP}:bx (zz ag aB) (fun r=>Con a7 38 [.agg (bS ag),.agg (bS aB)] [] (.b r) []):=by
 unfold zz
 exact .ite (fun h1 =>
  .ret (bs [(I 3),(I 5),.U true,(I 1)] (.e1 h1)))
  (fun h1 =>
  (let t1:List bY:=[(I 3),(I 5),.U false,(I 5)];
  .ite (fun h2 =>
  .ret (bs (t1.append [.U true,(I 1)]) (.e2 h1 h2)))
  (fun h2 =>
  .ite (fun ab =>
  .ret (bs (t1.append [.U false,(I 5),.U true,(I 1)]) (.bO h1 h2 ab)))
  (fun ab =>
  .ret (bs (t1.append [.U false,(I 5),.U false,(I 1)]) (.bO h1 h2 ab))))))
def Gm (ag aB:List bP):Int→S:=fun af=>dl [(0,.isl 3 (ag.map bS)),(1,.isl 3 (aB.map bS)),(5,.n .i64 af)] []
def Mu (ag aB:List bP):((Unit)⊕(Unit))→dq
 | .inl a=>⟨some 0,[],[]⟩
 | .inr a=>⟨none,[(4,.b false)],[]⟩
def wg (ag aB:List bP)(af:Int):Option ((Int)⊕((Unit)⊕(Unit))) :=
 if (decide (af<(len_ bS ag)))=true then
  if 0≤af∧af<ag.length then
  ag[af.toNat]? >>= fun aE =>
  if 0≤af∧af<aB.length then
  aB[af.toNat]? >>= fun cn =>
  zz aE cn >>= fun cZ =>
  if cZ=true then
   some (.inl (J (af+(1:Int))))
  else
   some (.inr (.inr ()))
  else none
  else none
 else
  some (.inr (.inl ()))
def Ie (ag aB:List bP)(af:Int):Option ((Unit)⊕(Unit)):=iter (fun w:Int=>wg ag aB w) af
theorem TE {ag aB:List bP}{af:Int}:bx (wg ag aB af) (dP a7 27 0 23 [1,1,0,1,0,0] (Gm ag aB af) (Gm ag aB) (Mu ag aB)):=by
 unfold wg
 exact .ite (fun h1 =>
  .aY fun h2 =>
  .ar fun aE au =>
  .aY fun aA =>
  .ar fun cn bb =>
  .ar fun cZ cj =>
  (let t1:List bY:=[(I 4),.U true,.ay (ai 3 (al (.b2 (bS aE)) (ai 3 (al (.b2 (bS cn)) (al (bp 2 (.b cZ) true) (ai 1 []))))))];
  have aS:=((.bg h1 h2.1 (cO bS h2.2) (bU bS au) aA.1 (cO bS aA.2) (bU bS bb) (Wg cZ cj) (.e1 (b7.b cZ))):cp _);
  .ite (fun cM =>
  .ret (bf (t1.append [.U false,(I 3),.aN [] [] (a6 [0,1,5])]) (aS.aG (.e1 (cV cM)))))
  (fun cM =>
  .ret (bf (t1.append [.U true,(I 1),.aN [] [] (a6 [4])]) (aS.aG (.e1 (cT cM)))))))
  (fun h1 =>
  .ret (bf [(I 4),.U false,.aN [] [] []] (.e1 h1)))
theorem MB {ag aB:List bP}{af:Int}{r} (h:Ie ag aB af=some r):dQ a7 27 0 23 [1,1,0,1,0,0] (Gm ag aB) (Mu ag aB) af r:=dR (fun _=>TE) h
def zk (ag aB:List bP):Option Bool :=
 if ((len_ bS ag) != (len_ bS aB))=true then
  some false
 else
  Ie ag aB 0 >>= fun r2 =>
  match r2 with
  | .inl fK=>(some true)
  | .inr fK=>(some false)
theorem VP {ag aB:List bP}:bx (zk ag aB) (fun r=>Con a7 23 [.isl 3 (ag.map bS),.isl 3 (aB.map bS)] [] (.b r) []):=by
 unfold zk
 exact .ite (fun h1 =>
  .ret (bs [(I 1),(I 5),.U true,(I 1)] (.e1 h1)))
  (fun h1 =>
  .ar fun r2 ab =>
  (let t1:List bY:=[(I 1),(I 5),.U false,(I 1),.aN [] [] (a6 [0,1,5])];
  (by
  rcases r2 with fK|fK
  ·exact (.ret (bs (t1.append [.sub (.exit 0) [] [],(I 1)]) (.e2 h1 (MB ab))))
  ·exact (.ret (bs (t1.append [.sub (.ret) [(4,.b false)] []]) (.e2 h1 (MB ab)))))))
def y7 (ag aB:cI):Option Bool :=
 zy ag.bZ aB.bZ >>= fun r1 =>
 if r1=true then
  zk ag.bG aB.bG >>= fun bh =>
  if bh=true then
   some true
  else
   some false
 else
  some false
theorem Vf {ag aB:cI}:bx (y7 ag aB) (fun r=>Con a7 9 [.agg (hf ag),.agg (hf aB)] [] (.b r) []):=by
 unfold y7
 exact .ar fun r1 h2 =>
  (let t1:List bY:=[(I 3),.ay (bq 4 (bp 2 (.b r1) true) 1)];
  have aS:=((.e2 (Wf r1 h2) (b7.b r1)):cp _);
  .ite (fun ab =>
  .ar fun bh aA =>
  (let t3:List bY:=t1.append [.U false,.ay (bq 4 (bp 2 (.b bh) true) 1)];
  have eO:=aS.aG (.bO (cV ab) (VP bh aA) (b7.b bh));
  .ite (fun aX =>
  .ret (bs (t3.append [.U false,(I 1)]) (eO.aG (.e1 (cV aX)))))
  (fun aX =>
  .ret (bs (t3.append [.U true,(I 1)]) (eO.aG (.e1 (cT aX)))))))
  (fun ab =>
  .ret (bs (t1.append [.U true,(I 1)]) (aS.aG (.e1 (cT ab))))))
def HC (ag aB:List Int):Int→S:=fun af=>dl [(0,.isl 1 (ag.map eI)),(1,.isl 1 (aB.map eI)),(5,.n .i64 af)] []
def MR (ag aB:List Int):((Unit)⊕(Unit))→dq
 | .inl a=>⟨some 0,[],[]⟩
 | .inr a=>⟨none,[(4,.b false)],[]⟩
def wN (ag aB:List Int)(af:Int):Option ((Int)⊕((Unit)⊕(Unit))) :=
 if (decide (af<(len_ eI ag)))=true then
  if 0≤af∧af<ag.length then
  ag[af.toNat]? >>= fun aE =>
  if 0≤af∧af<aB.length then
  aB[af.toNat]? >>= fun cn =>
  if (aE != cn)=true then
   some (.inr (.inr ()))
  else
   some (.inl (J (af+(1:Int))))
  else none
  else none
 else
  some (.inr (.inl ()))
def IZ (ag aB:List Int)(af:Int):Option ((Unit)⊕(Unit)):=iter (fun w:Int=>wN ag aB w) af
theorem Uz {ag aB:List Int}{af:Int}:bx (wN ag aB af) (dP a7 26 0 10 [1,1,0,1,0,0] (HC ag aB af) (HC ag aB) (MR ag aB)):=by
 unfold wN
 exact .ite (fun h1 =>
  .aY fun h2 =>
  .ar fun aE au =>
  .aY fun aA =>
  .ar fun cn bb =>
  (let t1:List bY:=[(I 4),.U true,.ay (ai 3 (al (.b2 (eI aE)) (bq 3 (.b2 (eI cn)) 1)))];
  have aS:=((.eE h1 h2.1 (cO eI h2.2) (bU eI au) aA.1 (cO eI aA.2) (bU eI bb)):cp _);
  .ite (fun bi =>
  .ret (bf (t1.append [.U true,(I 1),.aN [] [] (a6 [4])]) (aS.aG (.e1 bi))))
  (fun bi =>
  .ret (bf (t1.append [.U false,(I 3),.aN [] [] (a6 [0,1,5])]) (aS.aG (.e1 bi))))))
  (fun h1 =>
  .ret (bf [(I 4),.U false,.aN [] [] []] (.e1 h1)))
theorem M1 {ag aB:List Int}{af:Int}{r} (h:IZ ag aB af=some r):dQ a7 26 0 10 [1,1,0,1,0,0] (HC ag aB) (MR ag aB) af r:=dR (fun _=>Uz) h
def zQ (ag aB:List Int):Option Bool :=
 if ((len_ eI ag) != (len_ eI aB))=true then
  some false
 else
  IZ ag aB 0 >>= fun r2 =>
  match r2 with
  | .inl fK=>(some true)
  | .inr fK=>(some false)
theorem WU {ag aB:List Int}:bx (zQ ag aB) (fun r=>Con a7 10 [.isl 1 (ag.map eI),.isl 1 (aB.map eI)] [] (.b r) []):=by
 unfold zQ
 exact .ite (fun h1 =>
  .ret (bs [(I 1),(I 5),.U true,(I 1)] (.e1 h1)))
  (fun h1 =>
  .ar fun r2 ab =>
  (let t1:List bY:=[(I 1),(I 5),.U false,(I 1),.aN [] [] (a6 [0,1,5])];
  (by
  rcases r2 with fK|fK
  ·exact (.ret (bs (t1.append [.sub (.exit 0) [] [],(I 1)]) (.e2 h1 (M1 ab))))
  ·exact (.ret (bs (t1.append [.sub (.ret) [(4,.b false)] []]) (.e2 h1 (M1 ab)))))))
def Cs (A7:cI)(A8:List Int)(A9:Int):Option Bool :=
 if (decide ((1048576:Int)<(len_ eI A8)))=true then
  some true
 else
  y4 A7 1048576 >>= fun r2 =>
  if (decide (r2<(0:Int)))=true then
   some true
  else
   y2 A7 >>= fun aK =>
   zm A8 >>= fun b4 =>
   w6 (⟨aK.1,aK.2⟩:cI) b4 A9 >>= fun b5 =>
   w7 (⟨aK.1,aK.2⟩:cI) b4 A9 >>= fun c0 =>
   if (c0 == b5)=true then
    y7 (⟨aK.1,aK.2⟩:cI) (⟨aK.1,aK.2⟩:cI) >>= fun f7 =>
    if f7=true then
     zQ b4 b4 >>= fun gi =>
     if gi=true then
      some true
     else
      some false
    else
     some false
   else
    some false
theorem Uc {A7:cI}{A8:List Int}{A9:Int}:bx (Cs A7 A8 A9) (fun r=>Con a7 3 [.agg (hf A7),.isl 1 (A8.map eI),.n .i64 A9] [] (.b r) []):=by
 unfold Cs
 exact .ite (fun h1 =>
  .ret (bs [(I 2),(I 3),.U true,(I 1)] (.e1 h1)))
  (fun h1 =>
  .ar fun r2 ab =>
  (let t1:List bY:=[(I 2),(I 3),.U false,(I 1),.ay (bq 2 (bp 2 (.n .i64 r2) true) 1),(I 2)];
  have aS:=((.bO h1 (U0 r2 ab) (b7.n .i64 r2)):cp _);
  .ite (fun au =>
  .ret (bs (t1.append [.U true,(I 1)]) (aS.aG (.e1 au))))
  (fun au =>
  .ar fun aK aX =>
  .ar fun b4 bi =>
  .ar fun b5 cM =>
  .ar fun c0 eR =>
  (let q1:=ae 1 eI b4;let t3:List bY:=t1.append [.U false,.ay (ai 1 (al (.call {aZ:=[],dm:=[],ac:=[ii],r:= .agg [.bk 0 0 0 aK.1.length,.bk 0 1 0 aK.2.length],fv:=[[ad.mk 4 (aK.1.map bI) .live,ad.mk 3 (aK.2.map bS) .live]],ic:= .br (.agg [.id,.id]),kk:=[.bB [ad.mk 4 (aK.1.map bI) .live,ad.mk 3 (aK.2.map bS) .live]],fH:=[],fz:=true}) (ai 1 (al (.call {aZ:=[],dm:=[],ac:=[ii],r:= .bk 0 0 0 b4.length,fv:=[q1],ic:=ii,kk:=[.pure],fH:=[],fz:=true}) (bq 1 (.call {ac:=[.br (.agg [.ek (aK.1.map bI),.ek (aK.2.map bS)]),.br (.dh (.ek (b4.map eI))),ii],r:= .b b5,fz:=true,fH:=[13,15]}) 1))))),.ay (bq 1 (.call {aZ:=[],dm:=[],ac:=[ii],r:= .agg [.bk 0 0 0 aK.1.length,.bk 0 1 0 aK.2.length],fv:=[[ad.mk 4 (aK.1.map bI) .live,ad.mk 3 (aK.2.map bS) .live]],ic:= .br (.agg [.id,.id]),kk:=[.bB [ad.mk 4 (aK.1.map bI) .live,ad.mk 3 (aK.2.map bS) .live]],fH:=[],fz:=true}) 2),.ay (bq 1 (.call {aZ:=[],dm:=[],ac:=[ii],r:= .bk 0 0 0 b4.length,fv:=[q1],ic:=ii,kk:=[.pure],fH:=[],fz:=true}) 1),.ay (bq 3 (.call {ac:=[.br (.agg [.ek (aK.1.map bI),.ek (aK.2.map bS)]),.br (.dh (.ek (b4.map eI))),ii],r:= .b c0,fz:=true,fH:=[20,24]}) 1),(I 3)];
  have eO:=aS.aG (.bg au (c2 (fT (jG [13]) 4 Da aK.1) (c2 (fT (jG [13]) 3 C5 aK.2) (oX (b6:=(jG [13]))))) ((jI rfl (jI rfl Ds)):me [ad.mk 4 (aK.1.map bI) .live,ad.mk 3 (aK.2.map bS) .live]) (Gp aK aX) (b7.agg (oV (b7.bk 0 0 0 aK.1.length) (oV (b7.bk 0 1 0 aK.2.length) uF))) ((rc (pc (oY Db) (pc (oY C6) ri)) rh):oK [[ad.mk 4 (aK.1.map bI) .live,ad.mk 3 (aK.2.map bS) .live]]) (ij 1 aO b4) (Ij b4 bi) (.bg (b7.bk 0 0 0 b4.length) ((rc (pc (oY AD) ri) rh):oK [q1]) (ga bI aK.1) (fF bI aK.1) (du mx aK.1) (ga bS aK.2) (fF bS aK.2) (du lA aK.2) (.bg (ga eI b4) (fF eI b4) (du aO b4) (V7 b5 cM) (b7.b b5) (c2 (fT (jG [20]) 4 Da aK.1) (c2 (fT (jG [20]) 3 C5 aK.2) (oX (b6:=(jG [20]))))) ((jI rfl (jI rfl Ds)):me [ad.mk 4 (aK.1.map bI) .live,ad.mk 3 (aK.2.map bS) .live]) (Gp aK aX) (.bg (b7.agg (oV (b7.bk 0 0 0 aK.1.length) (oV (b7.bk 0 1 0 aK.2.length) uF))) ((rc (pc (oY Db) (pc (oY C6) ri)) rh):oK [[ad.mk 4 (aK.1.map bI) .live,ad.mk 3 (aK.2.map bS) .live]]) (ij 1 aO b4) (Ij b4 bi) (b7.bk 0 0 0 b4.length) ((rc (pc (oY AD) ri) rh):oK [q1]) (ga bI aK.1) (fF bI aK.1) (.bg (du mx aK.1) (ga bS aK.2) (fF bS aK.2) (du lA aK.2) (ga eI b4) (fF eI b4) (du aO b4) (We c0 eR) (.e1 (b7.b c0)))))));
  .ite (fun el =>
  .ar fun f7 fO =>
  (let t5:List bY:=t3.append [.U false,.ay (ai 2 (al (.call {aZ:=[],dm:=[],ac:=[ii],r:= .agg [.bk 0 0 0 aK.1.length,.bk 0 1 0 aK.2.length],fv:=[[ad.mk 4 (aK.1.map bI) .live,ad.mk 3 (aK.2.map bS) .live]],ic:= .br (.agg [.id,.id]),kk:=[.bB [ad.mk 4 (aK.1.map bI) .live,ad.mk 3 (aK.2.map bS) .live]],fH:=[],fz:=true}) (al (.call {ac:=[.br (.agg [.ek (aK.1.map bI),.ek (aK.2.map bS)]),.br (.agg [.ek (aK.1.map bI),.ek (aK.2.map bS)])],r:= .b f7,fz:=true,fH:=[20,36]}) (ai 1 []))))];
  have kF:=eO.aG (.bg (cV el) (c2 (fT (jG [36]) 4 Da aK.1) (c2 (fT (jG [36]) 3 C5 aK.2) (oX (b6:=(jG [36]))))) ((jI rfl (jI rfl Ds)):me [ad.mk 4 (aK.1.map bI) .live,ad.mk 3 (aK.2.map bS) .live]) (Gp aK aX) (b7.agg (oV (b7.bk 0 0 0 aK.1.length) (oV (b7.bk 0 1 0 aK.2.length) uF))) ((rc (pc (oY Db) (pc (oY C6) ri)) rh):oK [[ad.mk 4 (aK.1.map bI) .live,ad.mk 3 (aK.2.map bS) .live]]) (ga bI aK.1) (fF bI aK.1) (.bg (du mx aK.1) (ga bS aK.2) (fF bS aK.2) (du lA aK.2) (ga bI aK.1) (fF bI aK.1) (du mx aK.1) (ga bS aK.2) (.c5 (fF bS aK.2) (du lA aK.2) (Vf f7 fO) (b7.b f7))));
  .ite (fun hO =>
  .ar fun gi ho =>
  (let t7:List bY:=t5.append [.U false,.ay (ai 2 (al (.call {aZ:=[],dm:=[],ac:=[ii],r:= .bk 0 0 0 b4.length,fv:=[(ae 1 eI b4)],ic:=ii,kk:=[.pure],fH:=[],fz:=true}) (al (.call {ac:=[.br (.dh (.ek (b4.map eI))),.br (.dh (.ek (b4.map eI)))],r:= .b gi,fz:=true,fH:=[24,41]}) (ai 1 []))))];
  have mu:=kF.aG (.bg (cV hO) (ij 1 aO b4) (Ij b4 bi) (b7.bk 0 0 0 b4.length) ((rc (pc (oY AD) ri) rh):oK [(ae 1 eI b4)]) (ga eI b4) (fF eI b4) (du aO b4) (.dg (ga eI b4) (fF eI b4) (du aO b4) (WU gi ho) (b7.b gi)));
  .ite (fun gr =>
  .ret (bs (t7.append [.U false,(I 1)]) (mu.aG (.e1 (cV gr)))))
  (fun gr =>
  .ret (bs (t7.append [.U true,(I 1)]) (mu.aG (.e1 (cT gr)))))))
  (fun hO =>
  .ret (bs (t5.append [.U true,(I 1)]) (kF.aG (.e1 (cT hO)))))))
  (fun el =>
  .ret (bs (t3.append [.U true,(I 1)]) (eO.aG (.e1 (cT el)))))))))
end Go.Proofs.YtdkjpcaalflfhaaGreat
