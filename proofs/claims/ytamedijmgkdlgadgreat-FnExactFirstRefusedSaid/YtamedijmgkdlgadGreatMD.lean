/- Lemmas, plain functions of the program, and what they answer. No condition. -/
import Derived.Test.YtamedijmgkdlgadGreatMC
namespace Go.Proofs.YtamedijmgkdlgadGreat
set_option linter.unusedVariables false
set_option linter.unusedSimpArgs false
open Go Go.VL
def Fp (ea:List b3)(dG:List cj)(dm:List Int)(iL:List ey)(ag:Int)(gK:List Int)(e4:List (List Int))(gx fk bM dS:Int)(al aI:List Int):(Int×(List Int))→S:=fun (gy,aH)=>dr [(0,.d6 2 [[.isl 4 (ea.map b9),.isl 3 (dG.map cv)]] 0 0),(1,.isl 1 (dm.map eI)),(8,.ref 0 0 0 0),(10,.isl 2 (iL.map gq)),(11,.ref 1 0 0 0),(12,.n .i64 ag),(13,.isl 1 (gK.map eI)),(46,.isl 1 (e4.map (eL 1 eI))),(47,.n .i64 gx),(48,.n .i64 ag),(53,.isl 2 (iL.map gq)),(54,.n .i64 fk),(55,.n .i64 gy)] [[ab.mk 5 [[.n .i64 (0:Int),.n .i64 (0:Int),.eU,.eU,.eU]] .live],[ab.mk 5 [(yK bM dS 2 0 0 aH.length 3 0 0 al.length 4 0 0 aI.length)] .live],(av 1 eI aH),(av 1 eI al),(av 1 eI aI)]
def Fv (ea:List b3)(dG:List cj)(dm:List Int)(iL:List ey)(ag:Int)(gK:List Int)(e4:List (List Int))(gx fk bM dS:Int)(al aI:List Int):(List Int)→du
 | a=>⟨some 2,[(0,.d6 2 [[.isl 4 (ea.map b9),.isl 3 (dG.map cv)]] 0 0),(1,.isl 1 (dm.map eI)),(8,.ref 0 0 0 0),(10,.isl 2 (iL.map gq)),(11,.ref 1 0 0 0),(46,.isl 1 (e4.map (eL 1 eI))),(47,.n .i64 gx),(48,.n .i64 ag)],[[ab.mk 5 [[.n .i64 (0:Int),.n .i64 (0:Int),.eU,.eU,.eU]] .live],[ab.mk 5 [(yK bM dS 2 0 0 a.length 3 0 0 al.length 4 0 0 aI.length)] .live],(av 1 eI a),(av 1 eI al),(av 1 eI aI)]⟩
def vU (ea:List b3)(dG:List cj)(dm:List Int)(iL:List ey)(ag:Int)(gK:List Int)(e4:List (List Int))(gx fk bM dS:Int)(al aI:List Int)(gy:Int)(aH:List Int):Option ((Int×(List Int))⊕((List Int))) :=
 if (decide (gy<fk))=true then
  if 0≤gy∧gy<iL.length then
  iL[gy.toNat]? >>= fun aD =>
  if 0≤aD.mI∧aD.mI<gK.length then
  gK[aD.mI.toNat]? >>= fun cu =>
  if 0≤(R ((R (ag*dS))+gy))∧(R ((R (ag*dS))+gy))<(aH.length:Nat) then
  if (0+(R ((R (ag*dS))+gy)).toNat)<aH.length then
  some (.inl (R (gy+(1:Int)),aH.set (0+(R ((R (ag*dS))+gy)).toNat) (R (aD.qg*cu))))
  else none
  else none
  else none
  else none
 else
  some (.inr aH)
def FF (ea:List b3)(dG:List cj)(dm:List Int)(iL:List ey)(ag:Int)(gK:List Int)(e4:List (List Int))(gx fk bM dS:Int)(al aI:List Int)(gy:Int)(aH:List Int):Option ((List Int)):=iter (fun w:Int×(List Int)=>vU ea dG dm iL ag gK e4 gx fk bM dS al aI w.1 w.2) (gy,aH)
theorem Th {ea:List b3}{dG:List cj}{dm:List Int}{iL:List ey}{ag:Int}{gK:List Int}{e4:List (List Int)}{gx fk bM dS:Int}{al aI:List Int}{gy:Int}{aH:List Int}:bB (vU ea dG dm iL ag gK e4 gx fk bM dS al aI gy aH) (dP bc 113 0 54 [1,1,1,1,0,1,0,0,1,1,0,0,1,1,0,0] (Fp ea dG dm iL ag gK e4 gx fk bM dS al aI (gy,aH)) (Fp ea dG dm iL ag gK e4 gx fk bM dS al aI) (Fv ea dG dm iL ag gK e4 gx fk bM dS al aI)):=by
 unfold vU
 exact .ite (fun h1 =>
  .aZ fun o =>
  .ar fun aD au =>
  .aZ fun aA =>
  .ar fun cu bd =>
  .aZ fun bn =>
  .aZ fun cy =>
  .ret (let q1:=R ((R (ag*dS))+gy);let a1:=R (aD.qg*cu);bj [(J 1),.aa true,.az (br 2 (.b7 (gq aD)) 3),.az (aj 14 (an (.b7 (eI cu)) (aj 2 (an .fV [])))),(J 2),.aL [0,1,2,3,4] [.box [.id,.id,.id,.id,.id],.box [.id,.id,.len ((aH.set (0+q1.toNat) a1).length),.id,.id],.cO (av 1 eI (aH.set (0+q1.toNat) a1)),.pure,.pure] (ba [0,1,8,10,11,12,13,46,47,48,53,54,55])] (.bl h1 o.1 (cQ gq o.2) (bX gq au) aA.1 (cQ eI aA.2) (bX eI bd) bn.1 (.gU bn.2 (hH eI cy) (hx 1) (hX (dO aH) (0+q1.toNat) a1) (db 1 .live (gD (cY eI aH) (0+q1.toNat) a1)) (aK 1 .live aP (aH.set (0+q1.toNat) a1)) (aK 1 .live aP al) (aK 1 .live aP aI)))))
  (fun h1 =>
  .ret (bj [(J 1),.aa false,.aL [0,1,2,3,4] [.box [.id,.id,.id,.id,.id],.box [.id,.id,.id,.id,.id],.pure,.pure,.pure] (ba [0,1,8,10,11,46,47,48])] (.de h1 (aK 1 .live aP aH) (aK 1 .live aP al) (aK 1 .live aP aI))))
theorem Tu {ea:List b3}{dG:List cj}{dm:List Int}{iL:List ey}{ag:Int}{gK:List Int}{e4:List (List Int)}{gx fk bM dS:Int}{al aI:List Int}{gy:Int}{aH:List Int}{r} (h:FF ea dG dm iL ag gK e4 gx fk bM dS al aI gy aH=some r):dQ bc 113 0 54 [1,1,1,1,0,1,0,0,1,1,0,0,1,1,0,0] (Fp ea dG dm iL ag gK e4 gx fk bM dS al aI) (Fv ea dG dm iL ag gK e4 gx fk bM dS al aI) (gy,aH) r:=dR (fun _=>Th) h
def Fq (ea:List b3)(dG:List cj)(dm:List Int)(iL:List ey)(e4:List (List Int))(gx bM dS:Int)(al aI:List Int):(Int×(List Int))→S:=fun (nv,aH)=>dr [(0,.d6 2 [[.isl 4 (ea.map b9),.isl 3 (dG.map cv)]] 0 0),(1,.isl 1 (dm.map eI)),(8,.ref 0 0 0 0),(10,.isl 2 (iL.map gq)),(11,.ref 1 0 0 0),(46,.isl 1 (e4.map (eL 1 eI))),(47,.n .i64 gx),(48,.n .i64 nv)] [[ab.mk 5 [[.n .i64 (0:Int),.n .i64 (0:Int),.eU,.eU,.eU]] .live],[ab.mk 5 [(yK bM dS 2 0 0 aH.length 3 0 0 al.length 4 0 0 aI.length)] .live],(av 1 eI aH),(av 1 eI al),(av 1 eI aI)]
def Fw (ea:List b3)(dG:List cj)(dm:List Int)(iL:List ey)(e4:List (List Int))(gx bM dS:Int)(al aI:List Int):(List Int)→du
 | a=>⟨some 0,[(0,.d6 2 [[.isl 4 (ea.map b9),.isl 3 (dG.map cv)]] 0 0),(1,.isl 1 (dm.map eI)),(8,.ref 0 0 0 0),(11,.ref 1 0 0 0)],[[ab.mk 5 [[.n .i64 (0:Int),.n .i64 (0:Int),.eU,.eU,.eU]] .live],[ab.mk 5 [(yK bM dS 2 0 0 a.length 3 0 0 al.length 4 0 0 aI.length)] .live],(av 1 eI a),(av 1 eI al),(av 1 eI aI)]⟩
def vV (ea:List b3)(dG:List cj)(dm:List Int)(iL:List ey)(e4:List (List Int))(gx bM dS:Int)(al aI:List Int)(nv:Int)(aH:List Int):Option ((Int×(List Int))⊕((List Int))) :=
 if (decide (nv<gx))=true then
  if 0≤nv∧nv<e4.length then
  e4[nv.toNat]? >>= fun aD =>
  FF ea dG dm iL nv aD e4 gx (len_ gq iL) bM dS al aI 0 aH >>= fun aU =>
  some (.inl (R (nv+(1:Int)),aU))
  else none
 else
  some (.inr aH)
def FG (ea:List b3)(dG:List cj)(dm:List Int)(iL:List ey)(e4:List (List Int))(gx bM dS:Int)(al aI:List Int)(nv:Int)(aH:List Int):Option ((List Int)):=iter (fun w:Int×(List Int)=>vV ea dG dm iL e4 gx bM dS al aI w.1 w.2) (nv,aH)
theorem Ti {ea:List b3}{dG:List cj}{dm:List Int}{iL:List ey}{e4:List (List Int)}{gx bM dS:Int}{al aI:List Int}{nv:Int}{aH:List Int}:bB (vV ea dG dm iL e4 gx bM dS al aI nv aH) (dP bc 113 0 54 [1,1,1,1,0,1,0,0] (Fq ea dG dm iL e4 gx bM dS al aI (nv,aH)) (Fq ea dG dm iL e4 gx bM dS al aI) (Fw ea dG dm iL e4 gx bM dS al aI)):=by
 unfold vV
 exact .ite (fun h1 =>
  .aZ fun o =>
  .ar fun aD au =>
  .ar fun aU a2 =>
  .ret (bj [(J 1),.aa true,.az (br 2 (.b7 ((eL 1 eI) aD)) 2),(J 3),.aL [0,1,2,3,4] [.box [.id,.id,.id,.id,.id],.box [.id,.id,.id,.id,.id],.pure,.pure,.pure] (ba [0,1,8,10,11,12,13,46,47,48,53,54,55]),(Fv ea dG dm iL nv aD e4 gx (len_ gq iL) bM dS al aI aU).ff,(J 2),.aL [0,1,2,3,4] [.box [.id,.id,.id,.id,.id],.box [.id,.id,.id,.id,.id],.pure,.pure,.pure] (ba [0,1,8,10,11,46,47,48])] (.bl h1 o.1 (cQ (eL 1 eI) o.2) (bX (eL 1 eI) au) (aK 1 .live aP aH) (aK 1 .live aP al) (aK 1 .live aP aI) (Tu a2) (.bT (aK 1 .live aP aU) (aK 1 .live aP al) (aK 1 .live aP aI)))))
  (fun h1 =>
  .ret (bj [(J 1),.aa false,.aL [0,1,2,3,4] [.box [.id,.id,.id,.id,.id],.box [.id,.id,.id,.id,.id],.pure,.pure,.pure] (ba [0,1,8,11])] (.de h1 (aK 1 .live aP aH) (aK 1 .live aP al) (aK 1 .live aP aI))))
theorem Tv {ea:List b3}{dG:List cj}{dm:List Int}{iL:List ey}{e4:List (List Int)}{gx bM dS:Int}{al aI:List Int}{nv:Int}{aH:List Int}{r} (h:FG ea dG dm iL e4 gx bM dS al aI nv aH=some r):dQ bc 113 0 54 [1,1,1,1,0,1,0,0] (Fq ea dG dm iL e4 gx bM dS al aI) (Fw ea dG dm iL e4 gx bM dS al aI) (nv,aH) r:=dR (fun _=>Ti) h
def Fs (dm nZ:List Int)(oG bM dS:Int)(aH aI:List Int):(Int×(List Int))→S:=fun (kX,al)=>dr [(1,.isl 1 (dm.map eI)),(8,.ref 0 0 0 0),(11,.ref 1 0 0 0),(80,.isl 1 (nZ.map eI)),(81,.n .i64 oG),(82,.n .i64 kX)] [[ab.mk 5 [[.n .i64 (0:Int),.n .i64 (0:Int),.eU,.eU,.eU]] .live],[ab.mk 5 [(yK bM dS 2 0 0 aH.length 3 0 0 al.length 4 0 0 aI.length)] .live],(av 1 eI aH),(av 1 eI al),(av 1 eI aI)]
def Fx (dm nZ:List Int)(oG bM dS:Int)(aH aI:List Int):(List Int)→du
 | a=>⟨some 4,[(8,.ref 0 0 0 0),(11,.ref 1 0 0 0)],[[ab.mk 5 [[.n .i64 (0:Int),.n .i64 (0:Int),.eU,.eU,.eU]] .live],[ab.mk 5 [(yK bM dS 2 0 0 aH.length 3 0 0 a.length 4 0 0 aI.length)] .live],(av 1 eI aH),(av 1 eI a),(av 1 eI aI)]⟩
def vW (dm nZ:List Int)(oG bM dS:Int)(aH aI:List Int)(kX:Int)(al:List Int):Option ((Int×(List Int))⊕((List Int))) :=
 if (decide (kX<oG))=true then
  if 0≤kX∧kX<nZ.length then
  nZ[kX.toNat]? >>= fun aD =>
  if 0≤(R ((2:Int)*aD))∧(R ((2:Int)*aD))<dm.length then
  dm[(R ((2:Int)*aD)).toNat]? >>= fun cu =>
  if 0≤(R ((R ((2:Int)*aD))+(1:Int)))∧(R ((R ((2:Int)*aD))+(1:Int)))<dm.length then
  dm[(R ((R ((2:Int)*aD))+(1:Int))).toNat]? >>= fun ej =>
  if 0≤(R ((2:Int)*kX))∧(R ((2:Int)*kX))<(al.length:Nat) then
  if (0+(R ((2:Int)*kX)).toNat)<al.length then
  if 0≤(R ((R ((2:Int)*kX))+(1:Int)))∧(R ((R ((2:Int)*kX))+(1:Int)))<(al.length:Nat) then
  if (0+(R ((R ((2:Int)*kX))+(1:Int))).toNat)<(al.set (0+(R ((2:Int)*kX)).toNat) (R (0-cu))).length then
  some (.inl (R (kX+(1:Int)),(al.set (0+(R ((2:Int)*kX)).toNat) (R (0-cu))).set (0+(R ((R ((2:Int)*kX))+(1:Int))).toNat) (R (0-ej))))
  else none
  else none
  else none
  else none
  else none
  else none
  else none
 else
  some (.inr al)
def FH (dm nZ:List Int)(oG bM dS:Int)(aH aI:List Int)(kX:Int)(al:List Int):Option ((List Int)):=iter (fun w:Int×(List Int)=>vW dm nZ oG bM dS aH aI w.1 w.2) (kX,al)
theorem Tj {dm nZ:List Int}{oG bM dS:Int}{aH aI:List Int}{kX:Int}{al:List Int}:bB (vW dm nZ oG bM dS aH aI kX al) (dP bc 113 0 54 [1,1,1,1,1,0,1,0,0] (Fs dm nZ oG bM dS aH aI (kX,al)) (Fs dm nZ oG bM dS aH aI) (Fx dm nZ oG bM dS aH aI)):=by
 unfold vW
 exact .ite (fun h1 =>
  .aZ fun o =>
  .ar fun aD au =>
  .aZ fun aA =>
  .ar fun cu bd =>
  .aZ fun bn =>
  .ar fun ej cN =>
  .aZ fun eW =>
  .aZ fun e6 =>
  .aZ fun ez =>
  .aZ fun eA =>
  .ret (let q1:=(R ((2:Int)*kX));let a1:=(R (q1+(1:Int)));let b0:=R (0-cu);let ct:=R (0-ej);bj [(J 1),.aa true,.az (br 2 (.b7 (eI aD)) 2),.az (aj 13 (an (.b7 (eI cu)) (aj 6 (an (.b7 (eI ej)) (aj 2 (an .fV (aj 1 (an .fV [])))))))),(J 2),.aL [0,1,2,3,4] [.box [.id,.id,.id,.id,.id],.box [.id,.id,.id,.len (((al.set (0+q1.toNat) b0).set (0+a1.toNat) ct).length),.id],.pure,.cO (av 1 eI ((al.set (0+q1.toNat) b0).set (0+a1.toNat) ct)),.pure] (ba [1,8,11,80,81,82])] (.bl h1 o.1 (cQ eI o.2) (bX eI au) aA.1 (cQ eI aA.2) (bX eI bd) bn.1 (.bl (cQ eI bn.2) (bX eI cN) eW.1 eW.2 (hH eI e6) (hx 1) ez.1 ez.2 (.eX (abM (gD (cY eI al) (0+q1.toNat) b0) eA) (hx 1) (hX (hX (dO al) (0+q1.toNat) b0) (0+a1.toNat) ct) (aK 1 .live aP aH) (db 1 .live (gD (gD (cY eI al) (0+q1.toNat) b0) (0+a1.toNat) ct)) (aK 1 .live aP ((al.set (0+q1.toNat) b0).set (0+a1.toNat) ct)) (aK 1 .live aP aI))))))
  (fun h1 =>
  .ret (bj [(J 1),.aa false,.aL [0,1,2,3,4] [.box [.id,.id,.id,.id,.id],.box [.id,.id,.id,.id,.id],.pure,.pure,.pure] (ba [8,11])] (.de h1 (aK 1 .live aP aH) (aK 1 .live aP al) (aK 1 .live aP aI))))
theorem Tw {dm nZ:List Int}{oG bM dS:Int}{aH aI:List Int}{kX:Int}{al:List Int}{r} (h:FH dm nZ oG bM dS aH aI kX al=some r):dQ bc 113 0 54 [1,1,1,1,1,0,1,0,0] (Fs dm nZ oG bM dS aH aI) (Fx dm nZ oG bM dS aH aI) (kX,al) r:=dR (fun _=>Tj) h
def y9 (aN:cS)(dm:List Int)(nq nQ:Int):Option hz :=
 za aN >>= fun r1 =>
 ze aN >>= fun bk =>
 if 0≤(R ((R ((len_ (eL 1 eI) r1)+nQ))*(R ((len_ gq bk)+nq))))∧(8:Int)*(R ((R ((len_ (eL 1 eI) r1)+nQ))*(R ((len_ gq bk)+nq))))≤281474976710656∧(R ((R ((len_ (eL 1 eI) r1)+nQ))*(R ((len_ gq bk)+nq))))<9223372036854775808 then
 if 0≤(R ((len_ (eL 1 eI) r1)+nQ))∧(8:Int)*(R ((len_ (eL 1 eI) r1)+nQ))≤281474976710656∧(R ((len_ (eL 1 eI) r1)+nQ))<9223372036854775808 then
 if 0≤(R ((len_ gq bk)+nq))∧(8:Int)*(R ((len_ gq bk)+nq))≤281474976710656∧(R ((len_ gq bk)+nq))<9223372036854775808 then
 FG aN.b1 aN.bO dm bk r1 (len_ (eL 1 eI) r1) (R ((len_ (eL 1 eI) r1)+nQ)) (R ((len_ gq bk)+nq)) (List.replicate (R ((len_ (eL 1 eI) r1)+nQ)).toNat 0:List Int) (List.replicate (R ((len_ gq bk)+nq)).toNat 0:List Int) 0 (List.replicate (R ((R ((len_ (eL 1 eI) r1)+nQ))*(R ((len_ gq bk)+nq)))).toNat 0:List Int) >>= fun c0 =>
 wh aN >>= fun ek =>
 FH dm ek (len_ eI ek) (R ((len_ (eL 1 eI) r1)+nQ)) (R ((len_ gq bk)+nq)) c0 (List.replicate (R ((len_ gq bk)+nq)).toNat 0:List Int) 0 (List.replicate (R ((len_ (eL 1 eI) r1)+nQ)).toNat 0:List Int) >>= fun dY =>
 some (⟨R ((len_ (eL 1 eI) r1)+nQ),R ((len_ gq bk)+nq),c0,dY,(List.replicate (R ((len_ gq bk)+nq)).toNat 0:List Int)⟩:hz)
 else none
 else none
 else none
theorem TK {aN:cS}{dm:List Int}{nq nQ:Int}:bB (y9 aN dm nq nQ) (fun r=>Con bc 54 [.d6 2 [(hT aN)] 0 0,.isl 1 (dm.map eI),.n .i64 nq,.n .i64 nQ] [] (.agg (nR r)) []):=by
 unfold y9
 exact .ar fun r1 o =>
  .ar fun bk au =>
  .aZ fun aA =>
  .aZ fun a2 =>
  .aZ fun bd =>
  .ar fun c0 cy =>
  .ar fun ek eW =>
  .ar fun dY ez =>
  .ret (let q1:=R ((len_ (eL 1 eI) r1)+nQ);let a1:=R ((len_ gq bk)+nq);let b0:=(List.replicate a1.toNat 0:List Int);let ct:=(List.replicate q1.toNat 0:List Int);let fI:=R (q1*a1);let dh:=(List.replicate fI.toNat 0:List Int);bu [(J 1),.az (aj 1 (an (bt 1 (.isl 1 (r1.map (eL 1 eI))) false) (br 1 (bt 1 (.isl 2 (bk.map gq)) false) 2))),(J 11),(J 18),(J 3),.aL [0,16,23,26,29] [.box [.id,.id,.id,.id,.id],.box [.id,.id,.len (dh.length),.len (ct.length),.len (b0.length)],.cO (av 1 eI dh),.cO (av 1 eI ct),.cO (av 1 eI b0)] (ba [0,1,8,10,11,46,47,48]),(Fw aN.b1 aN.bO dm bk r1 (len_ (eL 1 eI) r1) q1 a1 ct b0 c0).ff,.az (br 1 (bt 1 (.isl 1 (ek.map eI)) false) 2),.aL [0,1,2,3,4] [.box [.id,.id,.id,.id,.id],.box [.id,.id,.id,.id,.id],.pure,.pure,.pure] (ba [1,8,11,80,81,82]),(Fx dm ek (len_ eI ek) q1 a1 c0 b0 dY).ff,(J 2)] (.bl (TL r1 o) (Um bk au) aA.1 (Int.le_refl fI) aA.2.1 aA.2.2 a2.1 (Int.le_refl q1) (.bl a2.2.1 a2.2.2 bd.1 (Int.le_refl a1) bd.2.1 bd.2.2 (lL fI.toNat (0:Int)) (lL q1.toNat (0:Int)) (.bl (lL a1.toNat (0:Int)) (db 1 .live (lx eI fI.toNat 0)) (aK 1 .live aP dh) (db 1 .live (lx eI q1.toNat 0)) (aK 1 .live aP ct) (db 1 .live (lx eI a1.toNat 0)) (aK 1 .live aP b0) (Tv cy) (.bl (MS ek eW) (aK 1 .live aP c0) (aK 1 .live aP ct) (aK 1 .live aP b0) (Tw ez) (gQ eI c0) (fY eI c0) (dX aP c0) (.d9 (gQ eI dY) (fY eI dY) (dX aP dY) (gQ eI b0) (fY eI b0) (dX aP b0)))))) (.bx (.agg [.id,.id,.e7 (c0.map eI),.e7 (dY.map eI),.e7 (b0.map eI)])))
def Hm:(Int×(List Int))→S:=fun (a4,ad)=>dr [(0,.n .u64 a4),(3,.bm 0 0 0 ad.length)] [(av 1 eI ad)]
def HV:(List Int)→du
 | a=>⟨some 0,[(3,.bm 0 0 0 a.length)],[(av 1 eI a)]⟩
def wT (a4:Int)(ad:List Int):Option ((Int×(List Int))⊕((List Int))) :=
 if (decide ((0:Int)<a4))=true then
  if (ad++([IntKind.wrap .i64 (a4.tmod (1000000000:Int))]:List Int)).length*8≤140737488355328 then
  some (.inl (IntKind.wrap .u64 (a4.tdiv (1000000000:Int)),ad++([IntKind.wrap .i64 (a4.tmod (1000000000:Int))]:List Int)))
  else none
 else
  some (.inr ad)
def Jf (a4:Int)(ad:List Int):Option ((List Int)):=iter (fun w:Int×(List Int)=>wT w.1 w.2) (a4,ad)
theorem UN {a4:Int}{ad:List Int}:bB (wT a4 ad) (dP bc 15 0 99 [1,1,0,0,0] (Hm (a4,ad)) (Hm) (HV)):=by
 unfold wT
 exact .ite (fun h1 =>
  .aZ fun o =>
  .ret (let q1:=(ad++([(IntKind.wrap .i64 (a4.tmod (1000000000:Int)))]:List Int));bj [(J 2),.aa true,.az (br 5 (.aJ (q1.length)) 1),(J 3),.aL [8] [.cO (av 1 eI q1)] (ba [0,3])] (.bl h1 (by decide:(1000000000:Int)≠0) (ha eI (IntKind.wrap .i64 (a4.tmod (1000000000:Int)))) (ho eI ad) (gR eI ad (IntKind.wrap .i64 (a4.tmod (1000000000:Int)))) o (by decide:(1000000000:Int)≠0) (db 1 .live (hy eI ad (IntKind.wrap .i64 (a4.tmod (1000000000:Int))))) (.e1 (aK 1 .live aP q1)))))
  (fun h1 =>
  .ret (bj [(J 2),.aa false,.aL [0] [.pure] (ba [3])] (.aE h1 (aK 1 .live aP ad))))
theorem Wj {a4:Int}{ad:List Int}{r} (h:Jf a4 ad=some r):dQ bc 15 0 99 [1,1,0,0,0] (Hm) (HV) (a4,ad) r:=dR (fun _=>UN) h
def ul (a4:Int):Option (List Int) :=
 Jf a4 ([]:List Int) >>= fun r1 =>
 some r1
theorem Jg {a4:Int}:bB (ul a4) (fun r=>Con bc 99 [.n .u64 a4] [] (.isl 1 (r.map eI)) []):=by
 unfold ul
 exact .ar fun r1 o =>
  .ret (bu [(J 1),(J 1),.ti 3 1,.aL [2] [.cO (av 1 eI ([]:List Int))] [(0,ii),(3,f5 (([]:List Int).length))],(HV r1).ff,(J 2)] (.eX (db 1 .live (pP eI)) (aK 1 .live aP ([]:List Int)) (fK Int) (Wj o) (gQ eI r1) (fY eI r1) (dX aP r1)) (.bx (.dM (.e7 (r1.map eI)))))
def m6 (nX:Bool)(yj:List Int):Option bp :=
 if nX=true then
  some (⟨(decide ((0:Int)<(len_ eI yj))),yj⟩:bp)
 else
  some (⟨false,yj⟩:bp)
theorem sU {nX:Bool}{yj:List Int}:bB (m6 nX yj) (fun r=>Con bc 98 [.b nX,.isl 1 (yj.map eI)] [] (.agg (aY r)) []):=by
 unfold m6
 exact .ite (fun h1 =>
  .ret (bu [(J 1),.az (br 5 (.aa true) 3)] (.de h1 h1 h1 h1)))
  (fun h1 =>
  .ret (bu [(J 1),.az (aj 2 (cD 3 (an (.aa false) (aj 3 []))))] (.de h1 h1 h1 h1)))
def og (a4:Int):Option bp :=
 if (decide (a4<(0:Int)))=true then
  ul (IntKind.wrap .u64 ((IntKind.wrap .u64 (R (0-(R (a4+(1:Int))))))+(1:Int))) >>= fun b5 =>
  m6 true b5 >>= fun bg =>
  some bg
 else
  ul (IntKind.wrap .u64 a4) >>= fun b5 =>
  m6 false b5 >>= fun bg =>
  some bg
theorem rW {a4:Int}:bB (og a4) (fun r=>Con bc 77 [.n .i64 a4] [] (.agg (aY r)) []):=by
 unfold og
 exact .ite (fun h1 =>
  .ar fun b5 ae =>
  .ar fun bg aA =>
  .ret (bu [(J 1),(J 2),.aa true,.az (aj 5 (an (bt 1 (.isl 1 (b5.map eI)) false) (an (bt 2 (.agg (aY bg)) false) (aj 1 []))))] (.bT h1 (Jg b5 ae) (sU bg aA))))
  (fun h1 =>
  .ar fun b5 ae =>
  .ar fun bg aA =>
  .ret (bu [(J 1),(J 2),.aa false,.az (aj 2 (an (bt 1 (.isl 1 (b5.map eI)) false) (an (bt 2 (.agg (aY bg)) false) (aj 1 []))))] (.bT h1 (Jg b5 ae) (sU bg aA))))
def xl (cd:hz)(ag:Int):Option (List Int) :=
 if 0≤(R (ag*cd.ec)) then
 if 0≤(R ((R (ag+(1:Int)))*cd.ec)) then
 if (R (ag*cd.ec)).toNat≤(R ((R (ag+(1:Int)))*cd.ec)).toNat∧(R ((R (ag+(1:Int)))*cd.ec)).toNat≤cd.dF.length then
 some ((cd.dF.drop ((R (ag*cd.ec)).toNat)).take ((R ((R (ag+(1:Int)))*cd.ec)).toNat-(R (ag*cd.ec)).toNat))
 else none
 else none
 else none
theorem Nn {cd:hz}{ag:Int}:bB (xl cd ag) (fun r=>Con bc 78 [.d6 5 [(nR cd)] 0 0,.n .i64 ag] [] (.isl 1 (r.map eI)) []):=by
 unfold xl
 exact .aZ fun h1 =>
  .aZ fun o =>
  .aZ fun ae =>
  .ret (let q1:=R (ag*cd.ec);let a1:=(R ((R (ag+(1:Int)))*cd.ec));bu [(J 1),(J 19)] (.dw h1 o ae.1 (rB (cY eI cd.dF) ae.2) (congrArg (aB.isl 1) (oi (cY eI cd.dF) (q1.toNat) (a1.toNat-q1.toNat)):(.isl 1 (((cd.dF.map eI).drop (q1.toNat)).take (a1.toNat-q1.toNat)):aB) = .isl 1 (((cd.dF.drop (q1.toNat)).take (a1.toNat-q1.toNat)).map eI))) (.bx (.dM (.cO (.isl 1 (((cd.dF.drop (q1.toNat)).take (a1.toNat-q1.toNat)).map eI))))))
def Jh (aN:List Int)(et dA:Int):Int→S:=fun dq=>dr [(0,.isl 1 (aN.map eI)),(1,.n .i64 et),(7,.n .i64 dA),(8,.n .i64 dq)] []
def N9 (aN:List Int)(et dA:Int):((Unit)⊕(Int))→du
 | .inl a=>⟨some 0,[],[]⟩
 | .inr a=>⟨none,[(4,.n .i64 a)],[]⟩
def xn (aN:List Int)(et dA dq:Int):Option ((Int)⊕((Unit)⊕(Int))) :=
 if (decide (dq<dA))=true then
  if 0≤dq∧dq<aN.length then
  aN[dq.toNat]? >>= fun aD =>
  if (et == aD)=true then
   some (.inr (.inr dq))
  else
   some (.inl (R (dq+(1:Int))))
  else none
 else
  some (.inr (.inl ()))
def JZ (aN:List Int)(et dA dq:Int):Option ((Unit)⊕(Int)):=iter (fun w:Int=>xn aN et dA w) dq
theorem Wk {aN:List Int}{et dA dq:Int}:bB (xn aN et dA dq) (dP bc 19 0 116 [1,0,1,0,0] (Jh aN et dA dq) (Jh aN et dA) (N9 aN et dA)):=by
 unfold xn
 exact .ite (fun h1 =>
  .aZ fun o =>
  .ar fun aD au =>
  (let t1:List bY:=[(J 1),.aa true,(J 2),.az (br 4 (.b7 (eI aD)) 1)];
  have aQ:=((.de h1 o.1 (cQ eI o.2) (bX eI au)):cz _);
  .ite (fun aA =>
  .ret (bj (t1.append [.aa true,(J 2),.aL [] [] (ba [4])]) (aQ.aJ (.e1 aA))))
  (fun aA =>
  .ret (bj (t1.append [.aa false,(J 2),.aL [] [] (ba [0,1,7,8])]) (aQ.aJ (.e1 aA))))))
  (fun h1 =>
  .ret (bj [(J 1),.aa false,.aL [] [] []] (.e1 h1)))
theorem Oc {aN:List Int}{et dA dq:Int}{r} (h:JZ aN et dA dq=some r):dQ bc 19 0 116 [1,0,1,0,0] (Jh aN et dA) (N9 aN et dA) dq r:=dR (fun _=>Wk) h
def D6 (aN:List Int)(et:Int):Option Int :=
 JZ aN et (len_ eI aN) 0 >>= fun r1 =>
 match r1 with
 | .inl dp=>(some (-1))
 | .inr dp=>(some dp)
theorem Y4 {aN:List Int}{et:Int}:bB (D6 aN et) (fun r=>Con bc 116 [.isl 1 (aN.map eI),.n .i64 et] [] (.n .i64 r) []):=by
 unfold D6
 exact .ar fun r1 o =>
  (let t1:List bY:=[(J 1),(J 3),.aL [] [] (ba [0,1,7,8])];
  (by
  rcases r1 with dp|dp
  ·exact (.ret (bu (t1.append [.sub (.exit 0) [] [],(J 1)]) (.e1 (Oc o))))
  ·exact (.ret (bu (t1.append [.sub (.ret) [(4,.n .i64 dp)] []]) (.e1 (Oc o))))))
def xI (aN:List Int)(et:Int):Option Bool :=
 D6 aN et >>= fun r1 =>
 some (decide ((0:Int)≤r1))
theorem Od {aN:List Int}{et:Int}:bB (xI aN et) (fun r=>Con bc 100 [.isl 1 (aN.map eI),.n .i64 et] [] (.b r) []):=by
 unfold xI
 exact .ar fun r1 o =>
  .ret (bu [(J 1),.az (br 2 (bt 2 (.n .i64 r1) true) 2)] (.aE (Y4 r1 o) (cc.n .i64 r1)))
def IE:(List Int)→S:=fun af=>dr [(0,.isl 1 (af.map eI))] []
def I1:(List Int)→du
 | a=>⟨some 0,[(0,.isl 1 (a.map eI))],[]⟩
def xh (af:List Int):Option (((List Int))⊕((List Int))) :=
 if (decide ((0:Int)<(len_ eI af)))=true then
  if 0≤(R ((len_ eI af)-(1:Int)))∧(R ((len_ eI af)-(1:Int)))<af.length then
  af[(R ((len_ eI af)-(1:Int))).toNat]? >>= fun aD =>
  if (aD == (0:Int))=true then
   if 0≤(R ((len_ eI af)-(1:Int))) then
   if 0≤(R ((len_ eI af)-(1:Int))).toNat∧(R ((len_ eI af)-(1:Int))).toNat≤af.length then
   some (.inl ((af.drop 0).take ((R ((len_ eI af)-(1:Int))).toNat-0)))
   else none
   else none
  else
   some (.inr af)
  else none
 else
  some (.inr af)
def JK (af:List Int):Option ((List Int)):=iter (fun w:(List Int)=>xh w) af
theorem VG {af:List Int}:bB (xh af) (dP bc 21 0 128 [1,0,0,0] (IE af) (IE) (I1)):=by
 unfold xh
 exact .ite (fun h1 =>
  .aZ fun o =>
  .ar fun aD au =>
  (let t1:List bY:=[.az (aj 9 (an (.b7 (eI aD)) (aj 1 (an (.aa true) []))))];
  have aQ:=((.bl h1 h1 h1 h1 h1 o.1 (cQ eI o.2) h1 (.bT (bX eI au) h1 h1)):cz _);
  .ite (fun aA =>
  .aZ fun a2 =>
  .aZ fun bd =>
  .ret (let q1:=(R ((len_ eI af)-(1:Int)));bj (t1.append [.aa true,(J 6),.aL [] [] [(0,.bx (.dM (.cO (.isl 1 (((af.drop 0).take (q1.toNat-0)).map eI)))))]]) (aQ.aJ (.dw aA a2 bd.1 (rB (cY eI af) bd.2) (congrArg (aB.isl 1) (oi (cY eI af) 0 (q1.toNat-0)):(.isl 1 (((af.map eI).drop 0).take (q1.toNat-0)):aB) = .isl 1 (((af.drop 0).take (q1.toNat-0)).map eI))))))
  (fun aA =>
  .ret (bj (t1.append [.aa false,.aL [] [] (ba [0])]) (aQ.aJ (.e1 aA))))))
  (fun h1 =>
  .ret (bj [.az (aj 4 (cD 7 (an (.aa false) []))),.aa false,.aL [] [] (ba [0])] (.bl h1 h1 h1 h1 h1 h1 h1 h1 (.e1 c6))))
theorem Xm {af:List Int}{r} (h:JK af=some r):dQ bc 21 0 128 [1,0,0,0] (IE) (I1) af r:=dR (fun _=>VG) h
def p5 (af:List Int):Option (List Int) :=
 JK af >>= fun r1 =>
 some r1
theorem um {af:List Int}:bB (p5 af) (fun r=>Con bc 128 [.isl 1 (af.map eI)] [] (.isl 1 (r.map eI)) []):=by
 unfold p5
 exact .ar fun r1 o =>
  .ret (bu [(J 1),.aL [] [] (ba [0]),(I1 r1).ff,(J 2)] (.e1 (Xm o)))
def Ir (ax:List Int)(ag a4:Int)(dj:List Int)(dk hd:Int):(Int×Int×(List Int))→S:=fun (cB,dl,ad)=>dr [(1,.isl 1 (ax.map eI)),(5,.bm 0 0 0 ad.length),(6,.n .i64 ag),(7,.n .i64 a4),(8,.n .i64 cB),(26,.isl 1 (dj.map eI)),(27,.n .i64 dk),(28,.n .i64 ag),(33,.isl 1 (ax.map eI)),(34,.n .i64 hd),(35,.n .i64 dl)] [(av 1 eI ad)]
def IF (ax:List Int)(ag a4:Int)(dj:List Int)(dk hd:Int):(Int×(List Int))→du
 | a=>⟨some 2,[(1,.isl 1 (ax.map eI)),(5,.bm 0 0 0 a.2.length),(6,.n .i64 ag),(8,.n .i64 a.1),(26,.isl 1 (dj.map eI)),(27,.n .i64 dk),(28,.n .i64 ag)],[(av 1 eI a.2)]⟩
def Is (ax:List Int)(ag a4:Int)(dj:List Int)(dk hd cB dl:Int)(ad:List Int):Option ((Int×Int×(List Int))⊕(Int×(List Int))) :=
 if (decide (dl<hd))=true then
  if 0≤dl∧dl<ax.length then
  ax[dl.toNat]? >>= fun aD =>
  if 0≤(R (ag+dl))∧(R (ag+dl))<(ad.length:Nat) then
  ad[(0+(R (ag+dl)).toNat)]? >>= fun cu =>
  if (0+(R (ag+dl)).toNat)<ad.length then
  some (.inl (R ((R ((R (cu+(R (a4*aD))))+cB)).tdiv (1000000000:Int)),R (dl+(1:Int)),ad.set (0+(R (ag+dl)).toNat) ((R ((R (cu+(R (a4*aD))))+cB)).tmod (1000000000:Int))))
  else none
  else none
  else none
 else
  some (.inr (cB,ad))
def Oe (ax:List Int)(ag a4:Int)(dj:List Int)(dk hd cB dl:Int)(ad:List Int):Option (Int×(List Int)):=iter (fun w:Int×Int×(List Int)=>Is ax ag a4 dj dk hd w.1 w.2.1 w.2.2) (cB,dl,ad)
theorem VA {ax:List Int}{ag a4:Int}{dj:List Int}{dk hd cB dl:Int}{ad:List Int}:bB (Is ax ag a4 dj dk hd cB dl ad) (dP bc 72 0 124 [1,1,1,0,1,0,0,1,1,0,0,1,1,0,1,0,0] (Ir ax ag a4 dj dk hd (cB,dl,ad)) (Ir ax ag a4 dj dk hd) (IF ax ag a4 dj dk hd)):=by
 unfold Is
 exact .ite (fun h1 =>
  .aZ fun o =>
  .ar fun aD au =>
  .aZ fun aA =>
  .ar fun cu bd =>
  .aZ fun bn =>
  .ret (let q1:=R ((R (cu+(R (a4*aD))))+cB);let a1:=R (ag+dl);bj [(J 1),.aa true,.az (br 2 (.b7 (eI aD)) 2),.az (br 5 (.b7 (eI cu)) 7),.az (br 9 .fV 1),(J 2),.aL [0] [.cO (av 1 eI (ad.set (0+a1.toNat) (q1.tmod (1000000000:Int))))] [(1,ii),(5,f5 ((ad.set (0+a1.toNat) (q1.tmod (1000000000:Int))).length)),(6,ii),(7,ii),(8,ii),(26,ii),(27,ii),(28,ii),(33,ii),(34,ii),(35,ii)]] (.bl h1 o.1 (cQ eI o.2) (bX eI au) aA.1 aA.2 (bX eI bd) (by decide:(1000000000:Int)≠0) (.gU (by decide:(1000000000:Int)≠0) aA.1 aA.2 (hH eI bn) (hx 1) (db 1 .live (gD (cY eI ad) (0+a1.toNat) (q1.tmod (1000000000:Int)))) (aK 1 .live aP (ad.set (0+a1.toNat) (q1.tmod (1000000000:Int)))) (hX (dO ad) (0+a1.toNat) (q1.tmod (1000000000:Int)))))))
  (fun h1 =>
  .ret (bj [(J 1),.aa false,.aL [0] [.pure] (ba [1,5,6,8,26,27,28])] (.aE h1 (aK 1 .live aP ad))))
theorem W1 {ax:List Int}{ag a4:Int}{dj:List Int}{dk hd cB dl:Int}{ad:List Int}{r} (h:Oe ax ag a4 dj dk hd cB dl ad=some r):dQ bc 72 0 124 [1,1,1,0,1,0,0,1,1,0,0,1,1,0,1,0,0] (Ir ax ag a4 dj dk hd) (IF ax ag a4 dj dk hd) (cB,dl,ad) r:=dR (fun _=>VA) h
def It (ax dj:List Int)(dk:Int):(Int×(List Int))→S:=fun (fz,ad)=>dr [(1,.isl 1 (ax.map eI)),(5,.bm 0 0 0 ad.length),(26,.isl 1 (dj.map eI)),(27,.n .i64 dk),(28,.n .i64 fz)] [(av 1 eI ad)]
def IG (ax dj:List Int)(dk:Int):(List Int)→du
 | a=>⟨some 0,[(5,.bm 0 0 0 a.length)],[(av 1 eI a)]⟩
def Iu (ax dj:List Int)(dk fz:Int)(ad:List Int):Option ((Int×(List Int))⊕((List Int))) :=
 if (decide (fz<dk))=true then
  if 0≤fz∧fz<dj.length then
  dj[fz.toNat]? >>= fun aD =>
  Oe ax fz aD dj dk (len_ eI ax) 0 0 ad >>= fun aU =>
  if 0≤(R (fz+(len_ eI ax)))∧(R (fz+(len_ eI ax)))<(aU.2.length:Nat) then
  if (0+(R (fz+(len_ eI ax))).toNat)<aU.2.length then
  some (.inl (R (fz+(1:Int)),aU.2.set (0+(R (fz+(len_ eI ax))).toNat) aU.1))
  else none
  else none
  else none
 else
  some (.inr ad)
def JH (ax dj:List Int)(dk fz:Int)(ad:List Int):Option ((List Int)):=iter (fun w:Int×(List Int)=>Iu ax dj dk w.1 w.2) (fz,ad)
theorem VB {ax dj:List Int}{dk fz:Int}{ad:List Int}:bB (Iu ax dj dk fz ad) (dP bc 72 0 124 [1,1,1,0,1,0,0] (It ax dj dk (fz,ad)) (It ax dj dk) (IG ax dj dk)):=by
 unfold Iu
 exact .ite (fun h1 =>
  .aZ fun o =>
  .ar fun aD au =>
  .ar fun aU a2 =>
  .aZ fun bd =>
  .aZ fun bn =>
  .ret (let q1:=R (fz+(len_ eI ax));bj [(J 1),.aa true,.az (br 2 (.b7 (eI aD)) 2),(J 1),(J 3),.aL [0] [.pure] (ba [1,5,6,7,8,26,27,28,33,34,35]),(IF ax fz aD dj dk (len_ eI ax) aU).ff,.az (aj 7 (an .fV [])),(J 2),.aL [0] [.cO (av 1 eI (aU.2.set (0+q1.toNat) aU.1))] [(1,ii),(5,f5 ((aU.2.set (0+q1.toNat) aU.1).length)),(26,ii),(27,ii),(28,ii)]] (.bl h1 o.1 (cQ eI o.2) (bX eI au) (aK 1 .live aP ad) (W1 a2) bd.1 bd.2 (.dw (hH eI bn) (hx 1) (db 1 .live (gD (cY eI aU.2) (0+q1.toNat) aU.1)) (aK 1 .live aP (aU.2.set (0+q1.toNat) aU.1)) (hX (dO aU.2) (0+q1.toNat) aU.1)))))
  (fun h1 =>
  .ret (bj [(J 1),.aa false,.aL [0] [.pure] (ba [5])] (.aE h1 (aK 1 .live aP ad))))
theorem W2 {ax dj:List Int}{dk fz:Int}{ad:List Int}{r} (h:JH ax dj dk fz ad=some r):dQ bc 72 0 124 [1,1,1,0,1,0,0] (It ax dj dk) (IG ax dj dk) (fz,ad) r:=dR (fun _=>VB) h
def An (af ax:List Int):Option (List Int) :=
 if ((len_ eI af) == (0:Int))=true then
  some ([]:List Int)
 else
  if ((len_ eI ax) == (0:Int))=true then
   some ([]:List Int)
  else
   if 0≤(R ((len_ eI af)+(len_ eI ax)))∧(8:Int)*(R ((len_ eI af)+(len_ eI ax)))≤281474976710656∧(R ((len_ eI af)+(len_ eI ax)))<9223372036854775808 then
   JH ax af (len_ eI af) 0 (List.replicate (R ((len_ eI af)+(len_ eI ax))).toNat 0:List Int) >>= fun bg =>
   p5 bg >>= fun ck =>
   some ck
   else none
theorem XT {af ax:List Int}:bB (An af ax) (fun r=>Con bc 124 [.isl 1 (af.map eI),.isl 1 (ax.map eI)] [] (.isl 1 (r.map eI)) []):=by
 unfold An
 exact .ite (fun h1 =>
  .ret (bu [(J 1),.az (aj 4 (cD 3 (an (.aa true) []))),.aa true,(J 1)] (.dw h1 h1 h1 h1 cJ) (.bx (.dM (.j2 1)))))
  (fun h1 =>
  (let t1:List bY:=[(J 1),.az (aj 7 (an (.aa false) []))];
  .ite (fun o =>
  .ret (bu (t1.append [.aa true,(J 1)]) (.dw h1 h1 h1 h1 o) (.bx (.dM (.j2 1)))))
  (fun o =>
  .aZ fun ae =>
  .ar fun bg aA =>
  .ar fun ck bd =>
  .ret (let q1:=R ((len_ eI af)+(len_ eI ax));let a1:=(List.replicate q1.toNat 0:List Int);bu (t1.append [.aa false,(J 7),(J 3),.aL [14] [.cO (av 1 eI a1)] [(1,ii),(5,f5 (a1.length)),(26,ii),(27,ii),(28,ii)],(IG ax af (len_ eI af) bg).ff,.iY 0,.az (br 1 (.call {ac:=[.bx (.dM (.e7 (bg.map eI)))],r:= .isl 1 (ck.map eI),fP:=false,fU:=[0]}) 1)]) (.bl h1 h1 h1 h1 o ae.1 (Int.le_refl q1) ae.2.1 (.bl ae.2.2 (db 1 .live (lx eI q1.toNat 0)) (aK 1 .live aP a1) (lL q1.toNat (0:Int)) (W2 aA) (gQ eI bg) (fY eI bg) (dX aP bg) (.e1 (um ck bd))))))))
def pp (dc ew:bp):Option bp :=
 An dc.cH ew.cH >>= fun r1 =>
 m6 (!(dc.cR == ew.cR)) r1 >>= fun bk =>
 some bk
theorem wU {dc ew:bp}:bB (pp dc ew) (fun r=>Con bc 117 [.agg (aY dc),.agg (aY ew)] [] (.agg (aY r)) []):=by
 unfold pp
 exact .ar fun r1 o =>
  .ar fun bk au =>
  .ret (bu [(J 3),.az (aj 9 (an (bt 2 (.isl 1 (r1.map eI)) false) (an (bt 2 (.agg (aY bk)) false) (aj 1 []))))] (.aE (XT r1 o) (sU bk au)))
def o0 (dc:bp):Option Int :=
 if ((len_ eI dc.cH) == (0:Int))=true then
  some 0
 else
  if dc.cR=true then
   some (-1)
  else
   some 1
theorem sR {dc:bp}:bB (o0 dc) (fun r=>Con bc 80 [.agg (aY dc)] [] (.n .i64 r) []):=by
 unfold o0
 exact .ite (fun h1 =>
  .ret (bu [(J 2),(J 5),.aa true,(J 1)] (.e1 h1)))
  (fun h1 =>
  (let t1:List bY:=[(J 2),(J 5),.aa false,(J 3)];
  .ite (fun o =>
  .ret (bu (t1.append [.aa true,(J 1)]) (.aE h1 o)))
  (fun o =>
  .ret (bu (t1.append [.aa false,(J 1)]) (.aE h1 o)))))
def rS (dc:bp):Option bp :=
 m6 (!dc.cR) dc.cH >>= fun r1 =>
 some r1
theorem Gv {dc:bp}:bB (rS dc) (fun r=>Con bc 121 [.agg (aY dc)] [] (.agg (aY r)) []):=by
 unfold rS
 exact .ar fun r1 o =>
  .ret (bu [(J 2),.az (br 5 (bt 2 (.agg (aY r1)) false) 1)] (.e1 (sU r1 o)))
def Hn (af ax:List Int):Int→S:=fun ag=>dr [(0,.isl 1 (af.map eI)),(1,.isl 1 (ax.map eI)),(5,.n .i64 ag)] []
def Np (af ax:List Int):((Unit)⊕(Int))→du
 | .inl a=>⟨some 0,[],[]⟩
 | .inr a=>⟨none,[(4,.n .i64 a)],[]⟩
def Ho (af ax:List Int)(ag:Int):Option ((Int)⊕((Unit)⊕(Int))) :=
 if (decide ((0:Int)≤ag))=true then
  if 0≤ag∧ag<af.length then
  af[ag.toNat]? >>= fun aD =>
  if 0≤ag∧ag<ax.length then
  ax[ag.toNat]? >>= fun cu =>
  if (decide (aD<cu))=true then
   some (.inr (.inr (-1)))
  else
   if (decide (cu<aD))=true then
    some (.inr (.inr 1))
   else
    some (.inl (R (ag-(1:Int))))
  else none
  else none
 else
  some (.inr (.inl ()))
def NU (af ax:List Int)(ag:Int):Option ((Unit)⊕(Int)):=iter (fun w:Int=>Ho af ax w) ag
theorem UO {af ax:List Int}{ag:Int}:bB (Ho af ax ag) (dP bc 43 0 126 [1,1,0,1,0,0] (Hn af ax ag) (Hn af ax) (Np af ax)):=by
 unfold Ho
 exact .ite (fun h1 =>
  .aZ fun o =>
  .ar fun aD au =>
  .aZ fun aA =>
  .ar fun cu bd =>
  (let t1:List bY:=[(J 2),.aa true,.az (aj 3 (an (.b7 (eI aD)) (br 3 (.b7 (eI cu)) 2)))];
  have aQ:=((.eX h1 o.1 (cQ eI o.2) (bX eI au) aA.1 (cQ eI aA.2) (bX eI bd)):cz _);
  .ite (fun bn =>
  .ret (bj (t1.append [.aa true,(J 1),.aL [] [] (ba [4])]) (aQ.aJ (.e1 bn))))
  (fun bn =>
  (let t3:List bY:=t1.append [.aa false,.az (aj 3 (an (.b7 (eI aD)) (br 3 (.b7 (eI cu)) 2)))];
  have eR:=aQ.aJ (.eX bn o.1 (cQ eI o.2) (bX eI au) aA.1 (cQ eI aA.2) (bX eI bd));
  .ite (fun cy =>
  .ret (bj (t3.append [.aa true,(J 1),.aL [] [] (ba [4])]) (eR.aJ (.e1 cy))))
  (fun cy =>
  .ret (bj (t3.append [.aa false,(J 3),.aL [] [] (ba [0,1,5])]) (eR.aJ (.e1 cy))))))))
  (fun h1 =>
  .ret (bj [(J 2),.aa false,.aL [] [] []] (.e1 h1)))
theorem NA {af ax:List Int}{ag:Int}{r} (h:NU af ax ag=some r):dQ bc 43 0 126 [1,1,0,1,0,0] (Hn af ax) (Np af ax) ag r:=dR (fun _=>UO) h
def qz (af ax:List Int):Option Int :=
 if ((len_ eI af) != (len_ eI ax))=true then
  if (decide ((len_ eI af)<(len_ eI ax)))=true then
   some (-1)
  else
   some 1
 else
  NU af ax (R ((len_ eI af)-(1:Int))) >>= fun b5 =>
  match b5 with
  | .inl fh=>(some 0)
  | .inr fh=>(some fh)
theorem Db {af ax:List Int}:bB (qz af ax) (fun r=>Con bc 126 [.isl 1 (af.map eI),.isl 1 (ax.map eI)] [] (.n .i64 r) []):=by
 unfold qz
 exact .ite (fun h1 =>
  (let t1:List bY:=[(J 1),(J 5),.aa true,(J 5)];
  .ite (fun o =>
  .ret (bu (t1.append [.aa true,(J 1)]) (.aE h1 o)))
  (fun o =>
  .ret (bu (t1.append [.aa false,(J 1)]) (.aE h1 o)))))
  (fun h1 =>
  .ar fun b5 ae =>
  (let t1:List bY:=[(J 1),(J 5),.aa false,(J 4),.aL [] [] (ba [0,1,5])];
  (by
  rcases b5 with fh|fh
  ·exact (.ret (bu (t1.append [.sub (.exit 0) [] [],(J 1)]) (.aE h1 (NA ae))))
  ·exact (.ret (bu (t1.append [.sub (.ret) [(4,.n .i64 fh)] []]) (.aE h1 (NA ae)))))))
def IH (af ax:List Int)(gE:Int):(Int×Int×(List Int))→S:=fun (cB,fr,ad)=>dr [(0,.isl 1 (af.map eI)),(1,.isl 1 (ax.map eI)),(5,.bm 0 0 0 ad.length),(6,.n .i64 cB),(20,.isl 1 (af.map eI)),(21,.n .i64 gE),(22,.n .i64 fr)] [(av 1 eI ad)]
def C8 (af ax:List Int)(gE:Int):(Int×(List Int))→du
 | a=>⟨some 0,[(0,.isl 1 (af.map eI)),(5,.bm 0 0 0 a.2.length),(6,.n .i64 a.1)],[(av 1 eI a.2)]⟩
def xi (af ax:List Int)(gE cB fr:Int)(ad:List Int):Option ((Int×Int×(List Int))⊕(Int×(List Int))) :=
 if (decide (fr<gE))=true then
  if 0≤fr∧fr<af.length then
  af[fr.toNat]? >>= fun aD =>
  if (decide (fr<(len_ eI ax)))=true then
   if 0≤fr∧fr<ax.length then
   ax[fr.toNat]? >>= fun eS =>
   if 0≤fr∧fr<(ad.length:Nat) then
   if (0+fr.toNat)<ad.length then
   some (.inl (R ((R ((R (aD+cB))+eS)).tdiv (1000000000:Int)),R (fr+(1:Int)),ad.set (0+fr.toNat) ((R ((R (aD+cB))+eS)).tmod (1000000000:Int))))
   else none
   else none
   else none
  else
   if 0≤fr∧fr<(ad.length:Nat) then
   if (0+fr.toNat)<ad.length then
   some (.inl (R ((R (aD+cB)).tdiv (1000000000:Int)),R (fr+(1:Int)),ad.set (0+fr.toNat) ((R (aD+cB)).tmod (1000000000:Int))))
   else none
   else none
  else none
 else
  some (.inr (cB,ad))
def z4 (af ax:List Int)(gE cB fr:Int)(ad:List Int):Option (Int×(List Int)):=iter (fun w:Int×Int×(List Int)=>xi af ax gE w.1 w.2.1 w.2.2) (cB,fr,ad)
theorem VH {af ax:List Int}{gE cB fr:Int}{ad:List Int}:bB (xi af ax gE cB fr ad) (dP bc 55 0 129 [1,1,1,1,0,1,0,0] (IH af ax gE (cB,fr,ad)) (IH af ax gE) (C8 af ax gE)):=by
 unfold xi
 exact .ite (fun h1 =>
  .aZ fun o =>
  .ar fun aD au =>
  (let t1:List bY:=[(J 1),.aa true,.az (br 2 (.b7 (eI aD)) 2),(J 4),(J 4)];
  have aQ:=((.de h1 o.1 (cQ eI o.2) (bX eI au)):cz _);
  .ite (fun aA =>
  .aZ fun a2 =>
  .ar fun eS bn =>
  .aZ fun cy =>
  .aZ fun cN =>
  .ret (let q1:=R ((R (aD+cB))+eS);bj (t1.append [.aa true,.az (br 4 (.b7 (eI eS)) 2),.az (br 7 .fV 1),(J 2),.aL [0] [.cO (av 1 eI (ad.set (0+fr.toNat) (q1.tmod (1000000000:Int))))] [(0,ii),(1,ii),(5,f5 ((ad.set (0+fr.toNat) (q1.tmod (1000000000:Int))).length)),(6,ii),(20,ii),(21,ii),(22,ii)]]) (aQ.aJ (.bl aA a2.1 (cQ eI a2.2) (bX eI bn) (by decide:(1000000000:Int)≠0) (by decide:(1000000000:Int)≠0) cy.1 cy.2 (.dw (hH eI cN) (hx 1) (db 1 .live (gD (cY eI ad) (0+fr.toNat) (q1.tmod (1000000000:Int)))) (aK 1 .live aP (ad.set (0+fr.toNat) (q1.tmod (1000000000:Int)))) (hX (dO ad) (0+fr.toNat) (q1.tmod (1000000000:Int))))))))
  (fun aA =>
  .aZ fun a2 =>
  .aZ fun bd =>
  .ret (let a1:=R (aD+cB);bj (t1.append [.aa false,.az (br 7 .fV 1),(J 2),.aL [0] [.cO (av 1 eI (ad.set (0+fr.toNat) (a1.tmod (1000000000:Int))))] [(0,ii),(1,ii),(5,f5 ((ad.set (0+fr.toNat) (a1.tmod (1000000000:Int))).length)),(6,ii),(20,ii),(21,ii),(22,ii)]]) (aQ.aJ (.bl aA (by decide:(1000000000:Int)≠0) (by decide:(1000000000:Int)≠0) a2.1 a2.2 (hH eI bd) (hx 1) (db 1 .live (gD (cY eI ad) (0+fr.toNat) (a1.tmod (1000000000:Int)))) (.aE (aK 1 .live aP (ad.set (0+fr.toNat) (a1.tmod (1000000000:Int)))) (hX (dO ad) (0+fr.toNat) (a1.tmod (1000000000:Int))))))))))
  (fun h1 =>
  .ret (bj [(J 1),.aa false,.aL [0] [.pure] (ba [0,5,6])] (.aE h1 (aK 1 .live aP ad))))
theorem NV {af ax:List Int}{gE cB fr:Int}{ad:List Int}{r} (h:z4 af ax gE cB fr ad=some r):dQ bc 55 0 129 [1,1,1,1,0,1,0,0] (IH af ax gE) (C8 af ax gE) (cB,fr,ad) r:=dR (fun _=>VH) h
def xL (af ax:List Int):Option (List Int) :=
 if (decide ((len_ eI af)<(len_ eI ax)))=true then
  if 0≤(R ((len_ eI ax)+(1:Int)))∧(8:Int)*(R ((len_ eI ax)+(1:Int)))≤281474976710656∧(R ((len_ eI ax)+(1:Int)))<9223372036854775808 then
  z4 ax af (len_ eI ax) 0 0 (List.replicate (R ((len_ eI ax)+(1:Int))).toNat 0:List Int) >>= fun bk =>
  if 0≤(len_ eI ax)∧(len_ eI ax)<(bk.2.length:Nat) then
  if (0+(len_ eI ax).toNat)<bk.2.length then
  p5 (bk.2.set (0+(len_ eI ax).toNat) bk.1) >>= fun bJ =>
  some bJ
  else none
  else none
  else none
 else
  if 0≤(R ((len_ eI af)+(1:Int)))∧(8:Int)*(R ((len_ eI af)+(1:Int)))≤281474976710656∧(R ((len_ eI af)+(1:Int)))<9223372036854775808 then
  z4 af ax (len_ eI af) 0 0 (List.replicate (R ((len_ eI af)+(1:Int))).toNat 0:List Int) >>= fun bk =>
  if 0≤(len_ eI af)∧(len_ eI af)<(bk.2.length:Nat) then
  if (0+(len_ eI af).toNat)<bk.2.length then
  p5 (bk.2.set (0+(len_ eI af).toNat) bk.1) >>= fun bJ =>
  some bJ
  else none
  else none
  else none
theorem Yd {af ax:List Int}:bB (xL af ax) (fun r=>Con bc 129 [.isl 1 (af.map eI),.isl 1 (ax.map eI)] [] (.isl 1 (r.map eI)) []):=by
 unfold xL
 exact .ite (fun h1 =>
  .aZ fun o =>
  .ar fun bk au =>
  .aZ fun aA =>
  .aZ fun a2 =>
  .ar fun bJ bn =>
  .ret (let a1:=len_ eI ax;let q1:=(R (a1+(1:Int)));let b0:=(List.replicate q1.toNat 0:List Int);let ct:=hX (dO bk.2) (0+a1.toNat) bk.1;bu [(J 1),(J 5),.aa true,(J 4),(J 5),(J 1),(J 3),.aL [13] [.cO (av 1 eI b0)] [(0,ii),(1,ii),(5,f5 (b0.length)),(6,ii),(20,ii),(21,ii),(22,ii)],(C8 ax af a1 bk).ff,.az (aj 5 (an .fV [])),.iY 0,.az (br 1 (.call {ac:=[.bx (.dM (.e7 ((bk.2.set (0+a1.toNat) bk.1).map eI)))],r:= .isl 1 (bJ.map eI),fP:=false,fU:=[0]}) 1)] (.bl h1 o.1 (Int.le_refl q1) o.2.1 o.2.2 (db 1 .live (lx eI q1.toNat 0)) (aK 1 .live aP b0) (lL q1.toNat (0:Int)) (.bl (NV au) aA.1 aA.2 (hH eI a2) (hx 1) (l2 (gD (cY eI bk.2) (0+a1.toNat) bk.1) ct) (lK (gD (cY eI bk.2) (0+a1.toNat) bk.1) ct) (dX aP (bk.2.set (0+a1.toNat) bk.1)) (.e1 (um bJ bn))))))
  (fun h1 =>
  .aZ fun o =>
  .ar fun bk au =>
  .aZ fun aA =>
  .aZ fun a2 =>
  .ar fun bJ bn =>
  .ret (let fI:=len_ eI af;let dh:=(R (fI+(1:Int)));let hR:=(List.replicate dh.toNat 0:List Int);let fp:=hX (dO bk.2) (0+fI.toNat) bk.1;bu [(J 1),(J 5),.aa false,(J 5),(J 1),(J 3),.aL [9] [.cO (av 1 eI hR)] [(0,ii),(1,ii),(5,f5 (hR.length)),(6,ii),(20,ii),(21,ii),(22,ii)],(C8 af ax fI bk).ff,.az (aj 5 (an .fV [])),.iY 0,.az (br 1 (.call {ac:=[.bx (.dM (.e7 ((bk.2.set (0+fI.toNat) bk.1).map eI)))],r:= .isl 1 (bJ.map eI),fP:=false,fU:=[0]}) 1)] (.bl h1 o.1 (Int.le_refl dh) o.2.1 o.2.2 (db 1 .live (lx eI dh.toNat 0)) (aK 1 .live aP hR) (lL dh.toNat (0:Int)) (.bl (NV au) aA.1 aA.2 (hH eI a2) (hx 1) (l2 (gD (cY eI bk.2) (0+fI.toNat) bk.1) fp) (lK (gD (cY eI bk.2) (0+fI.toNat) bk.1) fp) (dX aP (bk.2.set (0+fI.toNat) bk.1)) (.e1 (um bJ bn))))))
def Iv (ax c2:List Int)(b4:Int):(Int×Int×(List Int))→S:=fun (mm,cn,ad)=>dr [(1,.isl 1 (ax.map eI)),(5,.bm 0 0 0 ad.length),(6,.n .i64 mm),(12,.isl 1 (c2.map eI)),(13,.n .i64 b4),(14,.n .i64 cn)] [(av 1 eI ad)]
def II (ax c2:List Int)(b4:Int):(List Int)→du
 | a=>⟨some 0,[(5,.bm 0 0 0 a.length)],[(av 1 eI a)]⟩
def xf (ax c2:List Int)(b4 mm cn:Int)(ad:List Int):Option ((Int×Int×(List Int))⊕((List Int))) :=
 if (decide (cn<b4))=true then
  if 0≤cn∧cn<c2.length then
  c2[cn.toNat]? >>= fun aD =>
  if (decide (cn<(len_ eI ax)))=true then
   if 0≤cn∧cn<ax.length then
   ax[cn.toNat]? >>= fun eS =>
   if (decide ((R ((R (aD-mm))-eS))<(0:Int)))=true then
    if 0≤cn∧cn<(ad.length:Nat) then
    if (0+cn.toNat)<ad.length then
    some (.inl (1,R (cn+(1:Int)),ad.set (0+cn.toNat) (R ((R ((R (aD-mm))-eS))+(1000000000:Int)))))
    else none
    else none
   else
    if 0≤cn∧cn<(ad.length:Nat) then
    if (0+cn.toNat)<ad.length then
    some (.inl (0,R (cn+(1:Int)),ad.set (0+cn.toNat) (R ((R (aD-mm))-eS))))
    else none
    else none
   else none
  else
   if (decide ((R (aD-mm))<(0:Int)))=true then
    if 0≤cn∧cn<(ad.length:Nat) then
    if (0+cn.toNat)<ad.length then
    some (.inl (1,R (cn+(1:Int)),ad.set (0+cn.toNat) (R ((R (aD-mm))+(1000000000:Int)))))
    else none
    else none
   else
    if 0≤cn∧cn<(ad.length:Nat) then
    if (0+cn.toNat)<ad.length then
    some (.inl (0,R (cn+(1:Int)),ad.set (0+cn.toNat) (R (aD-mm))))
    else none
    else none
  else none
 else
  some (.inr ad)
def JI (ax c2:List Int)(b4 mm cn:Int)(ad:List Int):Option ((List Int)):=iter (fun w:Int×Int×(List Int)=>xf ax c2 b4 w.1 w.2.1 w.2.2) (mm,cn,ad)
theorem VC {ax c2:List Int}{b4 mm cn:Int}{ad:List Int}:bB (xf ax c2 b4 mm cn ad) (dP bc 43 0 130 [1,1,1,0,1,0,0] (Iv ax c2 b4 (mm,cn,ad)) (Iv ax c2 b4) (II ax c2 b4)):=by
 unfold xf
 exact .ite (fun h1 =>
  .aZ fun o =>
  .ar fun aD au =>
  (let t1:List bY:=[(J 1),.aa true,.az (br 2 (.b7 (eI aD)) 2),(J 4),(J 4)];
  have aQ:=((.de h1 o.1 (cQ eI o.2) (bX eI au)):cz _);
  .ite (fun aA =>
  .aZ fun a2 =>
  .ar fun eS bn =>
  (let t3:List bY:=t1.append [.aa true,.az (br 4 (.b7 (eI eS)) 2),(J 1),(J 2)];
  have eR:=aQ.aJ (.de aA a2.1 (cQ eI a2.2) (bX eI bn));
  .ite (fun cy =>
  .aZ fun cN =>
  .aZ fun eW =>
  .ret (let q1:=(R ((R ((R (aD-mm))-eS))+(1000000000:Int)));bj (t3.append [.aa true,(J 3),(J 1),.az (aj 4 (an .fV [])),(J 2),.aL [0] [.cO (av 1 eI (ad.set (0+cn.toNat) q1))] [(1,ii),(5,f5 ((ad.set (0+cn.toNat) q1).length)),(6,ii),(12,ii),(13,ii),(14,ii)]]) (eR.aJ (.gU cy cN.1 cN.2 (hH eI eW) (hx 1) (db 1 .live (gD (cY eI ad) (0+cn.toNat) q1)) (aK 1 .live aP (ad.set (0+cn.toNat) q1)) (hX (dO ad) (0+cn.toNat) q1)))))
  (fun cy =>
  .aZ fun cN =>
  .aZ fun eW =>
  .ret (let a1:=R ((R (aD-mm))-eS);bj (t3.append [.aa false,.az (aj 4 (an .fV [])),(J 2),.aL [0] [.cO (av 1 eI (ad.set (0+cn.toNat) a1))] [(1,ii),(5,f5 ((ad.set (0+cn.toNat) a1).length)),(6,ii),(12,ii),(13,ii),(14,ii)]]) (eR.aJ (.gU cy cN.1 cN.2 (hH eI eW) (hx 1) (db 1 .live (gD (cY eI ad) (0+cn.toNat) a1)) (aK 1 .live aP (ad.set (0+cn.toNat) a1)) (hX (dO ad) (0+cn.toNat) a1)))))))
  (fun aA =>
  (let t3:List bY:=t1.append [.aa false,(J 1),(J 2)];
  .ite (fun a2 =>
  .aZ fun bd =>
  .aZ fun bn =>
  .ret (let b0:=(R ((R (aD-mm))+(1000000000:Int)));bj (t3.append [.aa true,(J 3),(J 1),.az (aj 4 (an .fV [])),(J 2),.aL [0] [.cO (av 1 eI (ad.set (0+cn.toNat) b0))] [(1,ii),(5,f5 ((ad.set (0+cn.toNat) b0).length)),(6,ii),(12,ii),(13,ii),(14,ii)]]) (aQ.aJ (.bl aA a2 bd.1 bd.2 (hH eI bn) (hx 1) (db 1 .live (gD (cY eI ad) (0+cn.toNat) b0)) (aK 1 .live aP (ad.set (0+cn.toNat) b0)) (.e1 (hX (dO ad) (0+cn.toNat) b0))))))
  (fun a2 =>
  .aZ fun bd =>
  .aZ fun bn =>
  .ret (let ct:=R (aD-mm);bj (t3.append [.aa false,.az (aj 4 (an .fV [])),(J 2),.aL [0] [.cO (av 1 eI (ad.set (0+cn.toNat) ct))] [(1,ii),(5,f5 ((ad.set (0+cn.toNat) ct).length)),(6,ii),(12,ii),(13,ii),(14,ii)]]) (aQ.aJ (.bl aA a2 bd.1 bd.2 (hH eI bn) (hx 1) (db 1 .live (gD (cY eI ad) (0+cn.toNat) ct)) (aK 1 .live aP (ad.set (0+cn.toNat) ct)) (.e1 (hX (dO ad) (0+cn.toNat) ct))))))))))
  (fun h1 =>
  .ret (bj [(J 1),.aa false,.aL [0] [.pure] (ba [5])] (.aE h1 (aK 1 .live aP ad))))
theorem W3 {ax c2:List Int}{b4 mm cn:Int}{ad:List Int}{r} (h:JI ax c2 b4 mm cn ad=some r):dQ bc 43 0 130 [1,1,1,0,1,0,0] (Iv ax c2 b4) (II ax c2 b4) (mm,cn,ad) r:=dR (fun _=>VC) h
def s0 (af ax:List Int):Option (List Int) :=
 if 0≤(len_ eI af)∧(8:Int)*(len_ eI af)≤281474976710656∧(len_ eI af)<9223372036854775808 then
 JI ax af (len_ eI af) 0 0 (List.replicate (len_ eI af).toNat 0:List Int) >>= fun b5 =>
 p5 b5 >>= fun bg =>
 some bg
 else none
theorem Of {af ax:List Int}:bB (s0 af ax) (fun r=>Con bc 130 [.isl 1 (af.map eI),.isl 1 (ax.map eI)] [] (.isl 1 (r.map eI)) []):=by
 unfold s0
 exact .aZ fun h1 =>
  .ar fun b5 ae =>
  .ar fun bg aA =>
  .ret (let a1:=len_ eI af;let q1:=(List.replicate a1.toNat 0:List Int);bu [(J 1),(J 4),(J 1),(J 3),.aL [3] [.cO (av 1 eI q1)] [(1,ii),(5,f5 (q1.length)),(6,ii),(12,ii),(13,ii),(14,ii)],(II ax af a1 b5).ff,.iY 0,.az (br 1 (.call {ac:=[.bx (.dM (.e7 (b5.map eI)))],r:= .isl 1 (bg.map eI),fP:=false,fU:=[0]}) 1)] (.bl h1.1 (Int.le_refl a1) h1.2.1 h1.2.2 (db 1 .live (lx eI a1.toNat 0)) (aK 1 .live aP q1) (lL a1.toNat (0:Int)) (W3 ae) (.de (gQ eI b5) (fY eI b5) (dX aP b5) (um bg aA))))
def xm (dc ew:bp):Option bp :=
 qz dc.cH ew.cH >>= fun r1 =>
 if (dc.cR == ew.cR)=true then
  xL dc.cH ew.cH >>= fun bg =>
  m6 dc.cR bg >>= fun ck =>
  some ck
 else
  if (decide ((0:Int)≤r1))=true then
   s0 dc.cH ew.cH >>= fun aU =>
   m6 dc.cR aU >>= fun bJ =>
   some bJ
  else
   s0 ew.cH dc.cH >>= fun aU =>
   m6 ew.cR aU >>= fun bJ =>
   some bJ
theorem V3 {dc ew:bp}:bB (xm dc ew) (fun r=>Con bc 125 [.agg (aY dc),.agg (aY ew)] [] (.agg (aY r)) []):=by
 unfold xm
 exact .ar fun r1 o =>
  (let t1:List bY:=[(J 3),.az (br 4 (bt 2 (.n .i64 r1) true) 1),(J 6)];
  have aQ:=((.aE (Db r1 o) (cc.n .i64 r1)):cz _);
  .ite (fun ae =>
  .ar fun bg aA =>
  .ar fun ck bd =>
  .ret (bu (t1.append [.aa true,.az (aj 6 (an (bt 2 (.isl 1 (bg.map eI)) false) (an (bt 2 (.agg (aY ck)) false) (aj 1 []))))]) (aQ.aJ (.bT ae (Yd bg aA) (sU ck bd)))))
  (fun ae =>
  .ite (fun au =>
  .ar fun aU a2 =>
  .ar fun bJ bn =>
  .ret (bu (t1.append [.aa false,(J 3),.aa true,.az (aj 6 (an (bt 2 (.isl 1 (aU.map eI)) false) (an (bt 2 (.agg (aY bJ)) false) (aj 1 []))))]) (aQ.aJ (.de ae au (Of aU a2) (sU bJ bn)))))
  (fun au =>
  .ar fun aU a2 =>
  .ar fun bJ bn =>
  .ret (bu (t1.append [.aa false,(J 3),.aa false,.az (aj 6 (an (bt 2 (.isl 1 (aU.map eI)) false) (an (bt 2 (.agg (aY bJ)) false) (aj 1 []))))]) (aQ.aJ (.de ae au (Of aU a2) (sU bJ bn)))))))
def t8 (dc ew:bp):Option bp :=
 rS ew >>= fun r1 =>
 xm dc r1 >>= fun bk =>
 some bk
theorem Nc {dc ew:bp}:bB (t8 dc ew) (fun r=>Con bc 118 [.agg (aY dc),.agg (aY ew)] [] (.agg (aY r)) []):=by
 unfold t8
 exact .ar fun r1 o =>
  .ar fun bk au =>
  .ret (bu [(J 3),.az (aj 2 (an (bt 1 (.agg (aY r1)) false) (an (bt 2 (.agg (aY bk)) false) (aj 1 []))))] (.aE (Gv r1 o) (V3 bk au)))
def F2 (eH:List (List bp))(eT:Bool)(eG eJ:List Int)(i6:Int)(kd:List Bool)(lu:List Int)(bw hc:Int):(Int×Bool×(List Int))→S:=fun (ig,aG,aF)=>dr [(0,.d6 6 [[.isl 1 (eH.map (eL 2 aY)),.b eT,.isl 1 (eG.map eI),.isl 1 (eJ.map eI),.n .i64 i6,.isl 1 (kd.map el)]] 0 0),(1,.isl 1 (lu.map eI)),(2,.n .i64 bw),(7,.ref 0 0 0 0),(23,.isl 1 (eJ.map eI)),(24,.n .i64 hc),(25,.n .i64 ig)] [[ab.mk 2 [[.b aG,.isl 1 (aF.map eI)]] .live]]
def MW (eH:List (List bp))(eT:Bool)(eG eJ:List Int)(i6:Int)(kd:List Bool)(lu:List Int)(bw hc:Int):(Bool×(List Int))→du
 | a=>⟨some 0,[(7,.ref 0 0 0 0)],[[ab.mk 2 [[.b a.1,.isl 1 (a.2.map eI)]] .live]]⟩
def wi (eH:List (List bp))(eT:Bool)(eG eJ:List Int)(i6:Int)(kd:List Bool)(lu:List Int)(bw hc ig:Int)(aG:Bool)(aF:List Int):Option ((Int×Bool×(List Int))⊕(Bool×(List Int))) :=
 if (decide (ig<hc))=true then
  if 0≤ig∧ig<eJ.length then
  eJ[ig.toNat]? >>= fun aD =>
  if 0≤aD∧aD<lu.length then
  lu[aD.toNat]? >>= fun cu =>
  if (cu != (0:Int))=true then
   if 0≤ig∧ig<eH.length then
   eH[ig.toNat]? >>= fun iZ =>
   if 0≤bw∧bw<iZ.length then
   iZ[bw.toNat]? >>= fun q8 =>
   o0 q8 >>= fun gB =>
   if (gB != (0:Int))=true then
    og cu >>= fun fa =>
    pp q8 fa >>= fun jw =>
    t8 (⟨aG,aF⟩:bp) jw >>= fun B9 =>
    some (.inl (R (ig+(1:Int)),B9.cR,B9.cH))
   else
    some (.inl (R (ig+(1:Int)),aG,aF))
   else none
   else none
  else
   some (.inl (R (ig+(1:Int)),aG,aF))
  else none
  else none
 else
  some (.inr (aG,aF))
def Hp (eH:List (List bp))(eT:Bool)(eG eJ:List Int)(i6:Int)(kd:List Bool)(lu:List Int)(bw hc ig:Int)(aG:Bool)(aF:List Int):Option (Bool×(List Int)):=iter (fun w:Int×Bool×(List Int)=>wi eH eT eG eJ i6 kd lu bw hc w.1 w.2.1 w.2.2) (ig,aG,aF)
theorem TQ {eH:List (List bp)}{eT:Bool}{eG eJ:List Int}{i6:Int}{kd:List Bool}{lu:List Int}{bw hc ig:Int}{aG:Bool}{aF:List Int}:bB (wi eH eT eG eJ i6 kd lu bw hc ig aG aF) (dP bc 70 0 101 [1,1,0,1,0,0] (F2 eH eT eG eJ i6 kd lu bw hc (ig,aG,aF)) (F2 eH eT eG eJ i6 kd lu bw hc) (MW eH eT eG eJ i6 kd lu bw hc)):=by
 unfold wi
 exact .ite (fun h1 =>
  .aZ fun o =>
  .ar fun aD au =>
  .aZ fun aA =>
  .ar fun cu bd =>
  (let t1:List bY:=[(J 1),.aa true,.az (br 2 (.b7 (eI aD)) 2)];
  have aQ:=((.eX h1 o.1 (cQ eI o.2) (bX eI au) aA.1 (cQ eI aA.2) (bX eI bd)):cz _);
  .ite (fun bn =>
  .aZ fun cy =>
  .ar fun iZ eW =>
  .aZ fun e6 =>
  .ar fun q8 eA =>
  .ar fun gB h4 =>
  (let t3:List bY:=t1.append [.az (aj 3 (an (.b7 (eI cu)) (aj 8 (an (.b7 ((eL 2 aY) iZ)) (aj 2 (an (.b7 (aY q8)) (an (bt 1 (.n .i64 gB) true) (aj 1 (an (.aa true) [])))))))))];
  have eR:=aQ.aJ (.bl bn bn bn bn bn bn cy.1 (cQ (eL 2 aY) cy.2) (.bl bn (bX (eL 2 aY) eW) bn bn e6.1 (cQ aY e6.2) bn (bX aY eA) (.dw bn (sR gB h4) (cc.n .i64 gB) bn bn)));
  .ite (fun hD =>
  .ar fun fa gA =>
  .ar fun jw gO =>
  .ar fun B9 mZ =>
  .ret (bj (t3.append [.aa true,.az (aj 7 (an (.b7 ((eL 2 aY) iZ)) (aj 2 (an (.b7 (aY q8)) (aj 3 (an (.b7 (eI cu)) (an (bt 1 (.agg (aY fa)) false) (an (bt 2 (.agg (aY jw)) false) (an (bt 2 (.agg (aY B9)) false) (aj 1 [])))))))))),(J 2),.aL [0] [.box [.id,.id]] (ba [0,1,2,7,23,24,25])]) (eR.aJ (.bl hD cy.1 (cQ (eL 2 aY) cy.2) (bX (eL 2 aY) eW) e6.1 (cQ aY e6.2) (bX aY eA) aA.1 (.dw (cQ eI aA.2) (bX eI bd) (rW fa gA) (wU jw gO) (Nc B9 mZ))))))
  (fun hD =>
  .ret (bj (t3.append [.aa false,(J 2),.aL [0] [.box [.id,.id]] (ba [0,1,2,7,23,24,25])]) (eR.aJ (.e1 hD))))))
  (fun bn =>
  .ret (bj (t1.append [.az (aj 3 (an (.b7 (eI cu)) (aj 2 (cD 12 (an (.aa false) []))))),.aa false,(J 2),.aL [0] [.box [.id,.id]] (ba [0,1,2,7,23,24,25])]) (aQ.aJ (.bl bn bn bn bn bn bn bn bn (.d9 bn bn bn bn bn c6)))))))
  (fun h1 =>
  .ret (bj [(J 1),.aa false,.aL [0] [.box [.id,.id]] (ba [7])] (.e1 h1)))
theorem UP {eH:List (List bp)}{eT:Bool}{eG eJ:List Int}{i6:Int}{kd:List Bool}{lu:List Int}{bw hc ig:Int}{aG:Bool}{aF:List Int}{r} (h:Hp eH eT eG eJ i6 kd lu bw hc ig aG aF=some r):dQ bc 70 0 101 [1,1,0,1,0,0] (F2 eH eT eG eJ i6 kd lu bw hc) (MW eH eT eG eJ i6 kd lu bw hc) (ig,aG,aF) r:=dR (fun _=>TQ) h
def xj (hg:qE)(lu:List Int)(bw:Int):Option Int :=
 if 0≤bw∧bw<lu.length then
 lu[bw.toNat]? >>= fun d8 =>
 og d8 >>= fun bg =>
 pp hg.vi bg >>= fun ck =>
 Hp hg.so hg.vi.cR hg.vi.cH hg.rD hg.K2 hg.K3 lu bw (len_ eI hg.rD) 0 ck.cR ck.cH >>= fun c0 =>
 o0 (⟨c0.1,c0.2⟩:bp) >>= fun ek =>
 some ek
 else none
theorem Nd {hg:qE}{lu:List Int}{bw:Int}:bB (xj hg lu bw) (fun r=>Con bc 101 [.d6 6 [(xH hg)] 0 0,.isl 1 (lu.map eI),.n .i64 bw] [] (.n .i64 r) []):=by
 unfold xj
 exact .aZ fun h1 =>
  .ar fun d8 ae =>
  .ar fun bg aA =>
  .ar fun ck bd =>
  .ar fun c0 cy =>
  .ar fun ek eW =>
  .ret (bu [(J 1),.az (aj 7 (an (.b7 (eI d8)) (an (bt 1 (.agg (aY bg)) false) (an (bt 2 (.agg (aY ck)) false) (aj 2 []))))),(J 6),.aL [11] [.box [.id,.id]] (ba [0,1,2,7,23,24,25]),.sub (.exit 0) [(7,.ref 0 0 0 0)] [[ab.mk 2 [[.b c0.1,.isl 1 (c0.2.map eI)]] .live]],.az (br 1 (bt 1 (.n .i64 ek) true) 1)] (.gU h1.1 (cQ eI h1.2) (bX eI ae) (rW bg aA) (wU ck bd) (UP cy) (sR ek eW) (cc.n .i64 ek)))
def rT (dc ew:bp):Option Int :=
 if (dc.cR == ew.cR)=true then
  if dc.cR=true then
   qz ew.cH dc.cH >>= fun bk =>
   some bk
  else
   qz dc.cH ew.cH >>= fun bk =>
   some bk
 else
  if dc.cR=true then
   some (-1)
  else
   some 1
theorem Vh {dc ew:bp}:bB (rT dc ew) (fun r=>Con bc 119 [.agg (aY dc),.agg (aY ew)] [] (.n .i64 r) []):=by
 unfold rT
 exact .ite (fun h1 =>
  (let t1:List bY:=[(J 3),.az (aj 6 (cD 2 (an (.aa false) (aj 1 [])))),.aa false,(J 6),.aa false,(J 3)];
  have aQ:=((.dw (c1 h1) (c1 h1) (c1 h1) c6 (c1 h1)):cz _);
  .ite (fun o =>
  .ar fun bk au =>
  .ret (bu (t1.append [.aa true,.az (br 4 (bt 2 (.n .i64 bk) true) 1)]) (aQ.aJ (.bT o (Db bk au) (cc.n .i64 bk)))))
  (fun o =>
  .ar fun bk au =>
  .ret (bu (t1.append [.aa false,.az (br 4 (bt 2 (.n .i64 bk) true) 1)]) (aQ.aJ (.bT o (Db bk au) (cc.n .i64 bk)))))))
  (fun h1 =>
  (let t1:List bY:=[(J 3),.az (br 8 (.aa true) 1)];
  have aQ:=((.bT (cW h1) (cW h1) (cW h1)):cz _);
  .ite (fun o =>
  .ret (bu (t1.append [.aa true,(J 1)]) (aQ.aJ (.e1 o))))
  (fun o =>
  .ret (bu (t1.append [.aa false,(J 6),.aa true,(J 1)]) (aQ.aJ (.aE o (cW h1)))))))
def FM (eH:List (List bp))(eT:Bool)(eG eJ:List Int)(i6:Int)(kd:List Bool)(bw b4:Int):(Int×Int)→S:=fun (h5,cn)=>dr [(0,.d6 6 [[.isl 1 (eH.map (eL 2 aY)),.b eT,.isl 1 (eG.map eI),.isl 1 (eJ.map eI),.n .i64 i6,.isl 1 (kd.map el)]] 0 0),(1,.n .i64 bw),(5,.n .i64 h5),(12,.isl 1 (eH.map (eL 2 aY))),(13,.n .i64 b4),(14,.n .i64 cn)] []
def MU (eH:List (List bp))(eT:Bool)(eG eJ:List Int)(i6:Int)(kd:List Bool)(bw b4:Int):Int→du
 | a=>⟨some 0,[(5,.n .i64 a)],[]⟩
def v8 (eH:List (List bp))(eT:Bool)(eG eJ:List Int)(i6:Int)(kd:List Bool)(bw b4 h5 cn:Int):Option ((Int×Int)⊕(Int)) :=
 if (decide (cn<b4))=true then
  if 0≤cn∧cn<eH.length then
  eH[cn.toNat]? >>= fun aD =>
  if 0≤bw∧bw<aD.length then
  aD[bw.toNat]? >>= fun cu =>
  o0 cu >>= fun c0 =>
  if (decide (c0≤(0:Int)))=true then
   some (.inl (h5,R (cn+(1:Int))))
  else
   if (decide (h5<(0:Int)))=true then
    some (.inl (cn,R (cn+(1:Int))))
   else
    if 0≤i6∧i6<aD.length then
    aD[i6.toNat]? >>= fun q8 =>
    if 0≤h5∧h5<eH.length then
    eH[h5.toNat]? >>= fun mv =>
    if 0≤bw∧bw<mv.length then
    mv[bw.toNat]? >>= fun q9 =>
    pp q8 q9 >>= fun nI =>
    if 0≤i6∧i6<mv.length then
    mv[i6.toNat]? >>= fun sF =>
    pp sF cu >>= fun nJ =>
    rT nI nJ >>= fun mw =>
    if (decide (mw<(0:Int)))=true then
     some (.inl (cn,R (cn+(1:Int))))
    else
     if (mw == (0:Int))=true then
      if 0≤cn∧cn<eJ.length then
      eJ[cn.toNat]? >>= fun L1 =>
      if 0≤h5∧h5<eJ.length then
      eJ[h5.toNat]? >>= fun L2 =>
      if (decide (L1<L2))=true then
       some (.inl (cn,R (cn+(1:Int))))
      else
       some (.inl (h5,R (cn+(1:Int))))
      else none
      else none
     else
      some (.inl (h5,R (cn+(1:Int))))
    else none
    else none
    else none
    else none
  else none
  else none
 else
  some (.inr h5)
def Gw (eH:List (List bp))(eT:Bool)(eG eJ:List Int)(i6:Int)(kd:List Bool)(bw b4 h5 cn:Int):Option (Int):=iter (fun w:Int×Int=>v8 eH eT eG eJ i6 kd bw b4 w.1 w.2) (h5,cn)
theorem TC {eH:List (List bp)}{eT:Bool}{eG eJ:List Int}{i6:Int}{kd:List Bool}{bw b4 h5 cn:Int}:bB (v8 eH eT eG eJ i6 kd bw b4 h5 cn) (dP bc 91 0 102 [1,1,0,1,0,0] (FM eH eT eG eJ i6 kd bw b4 (h5,cn)) (FM eH eT eG eJ i6 kd bw b4) (MU eH eT eG eJ i6 kd bw b4)):=by
 unfold v8
 exact .ite (fun h1 =>
  .aZ fun o =>
  .ar fun aD au =>
  .aZ fun aA =>
  .ar fun cu bd =>
  .ar fun c0 cy =>
  (let t1:List bY:=[(J 1),.aa true,.az (br 2 (.b7 ((eL 2 aY) aD)) 2),.az (aj 3 (an (.b7 (aY cu)) (an (bt 1 (.n .i64 c0) true) (aj 1 []))))];
  have aQ:=((.bl h1 o.1 (cQ (eL 2 aY) o.2) (bX (eL 2 aY) au) aA.1 (cQ aY aA.2) (bX aY bd) (sR c0 cy) (.e1 (cc.n .i64 c0))):cz _);
  .ite (fun cN =>
  .ret (bj (t1.append [.aa true,(J 2),.aL [] [] (ba [0,1,5,12,13,14])]) (aQ.aJ (.e1 cN))))
  (fun cN =>
  .ite (fun eW =>
  .ret (bj (t1.append [.aa false,(J 2),.aa true,(J 2),(J 2),.aL [] [] (ba [0,1,5,12,13,14])]) (aQ.aJ (.aE cN eW))))
  (fun eW =>
  .aZ fun e6 =>
  .ar fun q8 eA =>
  .aZ fun fW =>
  .ar fun mv hD =>
  .aZ fun hE =>
  .ar fun q9 fl =>
  .ar fun nI iT =>
  .aZ fun mZ =>
  .ar fun sF ra =>
  .ar fun nJ sE =>
  .ar fun mw Ca =>
  (let q1:=eL 2 aY;let t3:List bY:=t1.append [.aa false,(J 2),.aa false,.az (aj 6 (an (.b7 (aY q8)) (aj 6 (an (.b7 (q1 mv)) (aj 2 (an (.b7 (aY q9)) (an (bt 2 (.agg (aY nI)) false) (aj 6 (an (.b7 (q1 mv)) (aj 5 (an (.b7 (aY sF)) (aj 3 (an (.b7 (aY cu)) (an (bt 2 (.agg (aY nJ)) false) (an (bt 2 (.n .i64 mw) true) (aj 1 []))))))))))))))))];
  have eR:=aQ.aJ (.bl cN eW e6.1 (cQ aY e6.2) (bX aY eA) fW.1 (cQ q1 fW.2) (bX q1 hD) (.bl hE.1 (cQ aY hE.2) (bX aY fl) (wU nI iT) fW.1 (cQ q1 fW.2) (bX q1 hD) mZ.1 (.gU (cQ aY mZ.2) (bX aY ra) aA.1 (cQ aY aA.2) (bX aY bd) (wU nJ sE) (Vh mw Ca) (cc.n .i64 mw))));
  .ite (fun oa =>
  .ret (bj (t3.append [.az (aj 3 (cD 3 (aj 15 (cD 1 (an (.aa true) []))))),.aa true,(J 2),(J 2),.aL [] [] (ba [0,1,5,12,13,14])]) (eR.aJ (.d9 oa oa oa oa oa cJ))))
  (fun oa =>
  .ite (fun jI =>
  .aZ fun Sl =>
  .ar fun L1 adT =>
  .aZ fun Sm =>
  .ar fun L2 adU =>
  (let t5:List bY:=t3.append [.az (aj 12 (an (.b7 (eI L1)) (aj 6 (an (.b7 (eI L2)) (aj 1 (an (.aa true) (an (.aa false) [])))))))];
  have kK:=eR.aJ (.bl oa oa oa jI jI jI jI jI (.bl jI Sl.1 (cQ eI Sl.2) jI (bX eI adT) jI jI jI (.bl jI jI jI Sm.1 (cQ eI Sm.2) jI (bX eI adU) jI (.bT oa jI oa))));
  .ite (fun L3 =>
  .ret (bj (t5.append [.aa true,(J 2),(J 2),.aL [] [] (ba [0,1,5,12,13,14])]) (kK.aJ (.e1 L3))))
  (fun L3 =>
  .ret (bj (t5.append [.aa false,(J 2),.aL [] [] (ba [0,1,5,12,13,14])]) (kK.aJ (.e1 L3))))))
  (fun jI =>
  .ret (bj (t3.append [.az (aj 6 (cD 15 (an (.aa false) (an (.aa false) [])))),.aa false,(J 2),.aL [] [] (ba [0,1,5,12,13,14])]) (eR.aJ (.bl oa oa oa jI jI jI jI jI (.bl jI jI jI jI jI jI jI jI (.d9 jI jI oa jI oa c6))))))))))))
  (fun h1 =>
  .ret (bj [(J 1),.aa false,.aL [] [] (ba [5])] (.e1 h1)))
theorem Ud {eH:List (List bp)}{eT:Bool}{eG eJ:List Int}{i6:Int}{kd:List Bool}{bw b4 h5 cn:Int}{r} (h:Gw eH eT eG eJ i6 kd bw b4 h5 cn=some r):dQ bc 91 0 102 [1,1,0,1,0,0] (FM eH eT eG eJ i6 kd bw b4) (MU eH eT eG eJ i6 kd bw b4) (h5,cn) r:=dR (fun _=>TC) h
def zk (hg:qE)(bw:Int):Option Int :=
 Gw hg.so hg.vi.cR hg.vi.cH hg.rD hg.K2 hg.K3 bw (len_ (eL 2 aY) hg.so) (-1) 0 >>= fun r1 =>
 some r1
theorem UQ {hg:qE}{bw:Int}:bB (zk hg bw) (fun r=>Con bc 102 [.d6 6 [(xH hg)] 0 0,.n .i64 bw] [] (.n .i64 r) []):=by
 unfold zk
 exact .ar fun r1 o =>
  .ret (bu [(J 1),(J 1),(J 6),.aL [] [] (ba [0,1,5,12,13,14]),.sub (.exit 0) [(5,.n .i64 r1)] [],(J 2)] (.e1 (Ud o)))
def AG (aN:List Int):Option (List Int) :=
 if aN.length*8≤140737488355328 then some aN else none
theorem ZD:Con bc 131 [.eU] [] (.isl 1 (([]:List Int).map eI)) []:=bu [(J 1),(J 2),.aa true,(J 1)] (.e1 cJ) (.bx (.dM (.j2 1)))
theorem ZE:Con bc 131 [.iQ] [] (.isl 1 (([]:List Int).map eI)) []:=(by
 have h:=fun (h1:(([]:List Int)++([]:List Int)).length*8≤140737488355328)=>(bu [(J 1),(J 2),.aa false,.az (br 2 (.aJ ((([]:List Int)++([]:List Int)).length)) 1)] (.eX c6 (oj (show []=(([]:List Int)).map eI from rfl) (fK Int)) (mH (fK Int) (pP eI):(([]:List Int)++([]:List Int)).length=0+([]:List (List aB)).length) h1 (l2 (jk (show []=(([]:List Int)).map eI from rfl) (fK Int) (pP eI)) (dO (([]:List Int)++([]:List Int)))) (lK (jk (show []=(([]:List Int)).map eI from rfl) (fK Int) (pP eI)) (dO (([]:List Int)++([]:List Int)))) (dX aP (([]:List Int)++([]:List Int)))) (.bx (.dM (.e7 ((([]:List Int)++([]:List Int)).map eI)))):Con bc 131 [.iQ] [] (.isl 1 ((([]:List Int)++([]:List Int)).map eI)) [])
 exact h (by decide))
theorem ZF (x:Int)(l:List Int)(h1:(([]:List Int)++(x::l)).length*8≤140737488355328):Con bc 131 [.isl 1 ((x::l).map eI)] [] (.isl 1 ((([]:List Int)++(x::l)).map eI)) []:=bu [(J 1),.az (aj 1 (an .fV [])),.aa false,.az (br 2 (.aJ ((([]:List Int)++(x::l)).length)) 1)] (.gU (by simp:(x::l).map eI≠[]) c6 (oj (show []=(([]:List Int)).map eI from rfl) (fK Int)) (mH (fK Int) (cY eI (x::l)):(([]:List Int)++(x::l)).length=0+((x::l).map eI).length) h1 (l2 (jk (show []=(([]:List Int)).map eI from rfl) (fK Int) (cY eI (x::l))) (dO (([]:List Int)++(x::l)))) (lK (jk (show []=(([]:List Int)).map eI from rfl) (fK Int) (cY eI (x::l))) (dO (([]:List Int)++(x::l)))) (dX aP (([]:List Int)++(x::l)))) (.bx (.dM (.e7 ((([]:List Int)++(x::l)).map eI))))
theorem Y5 {aN:List Int}:bB (AG aN) (fun r=>Con bc 131 [.isl 1 (aN.map eI)] [] (.isl 1 (r.map eI)) []):=by
 unfold AG
 refine .aZ fun h=> .ret ?_
 cases aN with
 | nil=>exact .kg ZD ZE
 | cons x l =>
  have o:=ZF x l (by simpa using h)
  simpa using o
def GJ (af:List Int)(ax:Int):(Int×Int×(List Int))→S:=fun (fQ,ag,ad)=>dr [(0,.isl 1 (af.map eI)),(1,.n .i64 ax),(6,.bm 0 0 0 ad.length),(7,.n .i64 fQ),(8,.n .i64 ag)] [(av 1 eI ad)]
def G1 (af:List Int)(ax:Int):(Int×(List Int))→du
 | a=>⟨some 0,[(6,.bm 0 0 0 a.2.length),(7,.n .i64 a.1)],[(av 1 eI a.2)]⟩
def GK (af:List Int)(ax fQ ag:Int)(ad:List Int):Option ((Int×Int×(List Int))⊕(Int×(List Int))) :=
 if (decide ((0:Int)≤ag))=true then
  if 0≤ag∧ag<af.length then
  af[ag.toNat]? >>= fun aD =>
  if ax≠0 then
  if 0≤ag∧ag<(ad.length:Nat) then
  if (0+ag.toNat)<ad.length then
  some (.inl ((R ((R (fQ*(1000000000:Int)))+aD)).tmod ax,R (ag-(1:Int)),ad.set (0+ag.toNat) (R ((R ((R (fQ*(1000000000:Int)))+aD)).tdiv ax))))
  else none
  else none
  else none
  else none
 else
  some (.inr (fQ,ad))
def IJ (af:List Int)(ax fQ ag:Int)(ad:List Int):Option (Int×(List Int)):=iter (fun w:Int×Int×(List Int)=>GK af ax w.1 w.2.1 w.2.2) (fQ,ag,ad)
theorem Un {af:List Int}{ax fQ ag:Int}{ad:List Int}:bB (GK af ax fQ ag ad) (dP bc 39 0 132 [1,1,1,0,1,0,0] (GJ af ax (fQ,ag,ad)) (GJ af ax) (G1 af ax)):=by
 unfold GK
 exact .ite (fun h1 =>
  .aZ fun o =>
  .ar fun aD au =>
  .aZ fun aA =>
  .aZ fun a2 =>
  .aZ fun bd =>
  .ret (let q1:=(R ((R ((R (fQ*(1000000000:Int)))+aD)).tdiv ax));bj [(J 2),.aa true,.az (br 5 (.b7 (eI aD)) 2),.az (br 9 .fV 1),(J 3),.aL [0] [.cO (av 1 eI (ad.set (0+ag.toNat) q1))] [(0,ii),(1,ii),(6,f5 ((ad.set (0+ag.toNat) q1).length)),(7,ii),(8,ii)]] (.bl h1 o.1 (cQ eI o.2) (bX eI au) aA aA a2.1 a2.2 (.dw (hH eI bd) (hx 1) (db 1 .live (gD (cY eI ad) (0+ag.toNat) q1)) (aK 1 .live aP (ad.set (0+ag.toNat) q1)) (hX (dO ad) (0+ag.toNat) q1)))))
  (fun h1 =>
  .ret (bj [(J 2),.aa false,.aL [0] [.pure] (ba [6,7])] (.aE h1 (aK 1 .live aP ad))))
theorem VI {af:List Int}{ax fQ ag:Int}{ad:List Int}{r} (h:IJ af ax fQ ag ad=some r):dQ bc 39 0 132 [1,1,1,0,1,0,0] (GJ af ax) (G1 af ax) (fQ,ag,ad) r:=dR (fun _=>Un) h
def xq (af:List Int)(ax:Int):Option ((List Int)×Int) :=
 if 0≤(len_ eI af)∧(8:Int)*(len_ eI af)≤281474976710656∧(len_ eI af)<9223372036854775808 then
 IJ af ax 0 (R ((len_ eI af)-(1:Int))) (List.replicate (len_ eI af).toNat 0:List Int) >>= fun b5 =>
 p5 b5.2 >>= fun bg =>
 some (bg,b5.1)
 else none
theorem NL {af:List Int}{ax:Int}:bB (xq af ax) (fun r=>Con bc 132 [.isl 1 (af.map eI),.n .i64 ax] [] (.d7 [.isl 1 (r.1.map eI),.n .i64 r.2]) []):=by
 unfold xq
 exact .aZ fun h1 =>
  .ar fun b5 ae =>
  .ar fun bg aA =>
  .ret (let q1:=(List.replicate (len_ eI af).toNat 0:List Int);bu [(J 2),(J 4),(J 1),(J 4),.aL [4] [.cO (av 1 eI q1)] [(0,ii),(1,ii),(6,f5 (q1.length)),(7,ii),(8,ii)],(G1 af ax b5).ff,.iY 0,.az (br 1 (.call {ac:=[.bx (.dM (.e7 (b5.2.map eI)))],r:= .isl 1 (bg.map eI),fP:=false,fU:=[0]}) 3)] (.bl h1.1 (Int.le_refl (len_ eI af)) h1.2.1 h1.2.2 (db 1 .live (lx eI (len_ eI af).toNat 0)) (aK 1 .live aP q1) (lL (len_ eI af).toNat (0:Int)) (VI ae) (.de (gQ eI b5.2) (fY eI b5.2) (dX aP b5.2) (um bg aA))))
def HW (ad:List Int):Nat→S:=fun lM=>dr [(0,.bm 0 0 0 lM)] [(av 1 eI ad)]
def Iw (ad:List Int):Nat→du
 | a=>⟨some 0,[(0,.bm 0 0 0 a)],[(av 1 eI ad)]⟩
def w7 (ad:List Int)(lM:Nat):Option ((Nat)⊕(Nat)) :=
 if (decide ((0:Int)<((lM:Nat):Int)))=true then
  if 0≤(R (((lM:Nat):Int)-(1:Int)))∧(R (((lM:Nat):Int)-(1:Int)))<(lM:Nat) then
  ad[(0+(R (((lM:Nat):Int)-(1:Int))).toNat)]? >>= fun aD =>
  if (aD == (0:Int))=true then
   if 0≤(R (((lM:Nat):Int)-(1:Int))) then
   if 0≤(R (((lM:Nat):Int)-(1:Int))).toNat∧(R (((lM:Nat):Int)-(1:Int))).toNat≤lM then
   some (.inl ((R (((lM:Nat):Int)-(1:Int))).toNat-0))
   else none
   else none
  else
   some (.inr lM)
  else none
 else
  some (.inr lM)
def Jv (ad:List Int)(lM:Nat):Option (Nat):=iter (fun w:Nat=>w7 ad w) lM
theorem Vi {ad:List Int}{lM:Nat}:bB (w7 ad lM) (dP bc 21 1 128 [1,0,0,0] (HW ad lM) (HW ad) (Iw ad)):=by
 unfold w7
 exact .ite (fun h1 =>
  .aZ fun o =>
  .ar fun aD au =>
  (let t1:List bY:=[.az (aj 9 (an (.b7 (eI aD)) (aj 1 (an (.aa true) []))))];
  have aQ:=((.bl h1 h1 h1 h1 h1 o.1 o.2 h1 (.bT (bX eI au) h1 h1)):cz _);
  .ite (fun aA =>
  .aZ fun a2 =>
  .aZ fun bd =>
  .ret (bj (t1.append [.aa true,(J 6),.aL [0] [.pure] (ba [0])]) (aQ.aJ (.dw aA a2 bd.1 bd.2 (aK 1 .live aP ad)))))
  (fun aA =>
  .ret (bj (t1.append [.aa false,.aL [0] [.pure] (ba [0])]) (aQ.aJ (.aE aA (aK 1 .live aP ad)))))))
  (fun h1 =>
  .ret (bj [.az (aj 4 (cD 7 (an (.aa false) []))),.aa false,.aL [0] [.pure] (ba [0])] (.bl h1 h1 h1 h1 h1 h1 h1 h1 (.aE c6 (aK 1 .live aP ad)))))
theorem WA {ad:List Int}{lM:Nat}{r} (h:Jv ad lM=some r):dQ bc 21 1 128 [1,0,0,0] (HW ad) (Iw ad) lM r:=dR (fun _=>Vi) h
def Ad (fG:List Int):Option Nat :=
 Jv fG fG.length >>= fun r1 =>
 some r1
theorem XF {fG:List Int}:bB (Ad fG) (fun a=>Con bc 128 [.bm 0 0 0 fG.length] [(av 1 eI fG)] (.bm 0 0 0 a) [(av 1 eI fG)]):=by
 unfold Ad
 exact .ar fun r1 o =>
  .ret (lE [(J 1),.aL [0] [.pure] (ba [0]),(Iw fG r1).ff,(J 2)] [0] [.pure] (.bT (aK 1 .live aP fG) (WA o) (aK 1 .live aP fG)))
def Hq (ax:List Int)(ag a4:Int)(dj:List Int)(dk hd:Int):(Int×Int×(List Int))→S:=fun (cB,dl,ad)=>dr [(1,.isl 1 (ax.map eI)),(5,.bm 0 0 0 ad.length),(6,.n .i64 ag),(7,.n .i64 a4),(8,.n .i64 cB),(26,.isl 1 (dj.map eI)),(27,.n .i64 dk),(28,.n .i64 ag),(33,.isl 1 (ax.map eI)),(34,.n .i64 hd),(35,.n .i64 dl)] [(av 1 eI ad)]
def HX (ax:List Int)(ag a4:Int)(dj:List Int)(dk hd:Int):(Int×(List Int))→du
 | a=>⟨some 2,[(1,.isl 1 (ax.map eI)),(5,.bm 0 0 0 a.2.length),(6,.n .i64 ag),(8,.n .i64 a.1),(26,.isl 1 (dj.map eI)),(27,.n .i64 dk),(28,.n .i64 ag)],[(av 1 eI a.2)]⟩
def Hr (ax:List Int)(ag a4:Int)(dj:List Int)(dk hd cB dl:Int)(ad:List Int):Option ((Int×Int×(List Int))⊕(Int×(List Int))) :=
 if (decide (dl<hd))=true then
  if 0≤dl∧dl<ax.length then
  ax[dl.toNat]? >>= fun aD =>
  if 0≤(R (ag+dl))∧(R (ag+dl))<(ad.length:Nat) then
  ad[(0+(R (ag+dl)).toNat)]? >>= fun cu =>
  if (0+(R (ag+dl)).toNat)<ad.length then
  some (.inl (R ((R ((R (cu+(R (a4*aD))))+cB)).tdiv (1000000000:Int)),R (dl+(1:Int)),ad.set (0+(R (ag+dl)).toNat) ((R ((R (cu+(R (a4*aD))))+cB)).tmod (1000000000:Int))))
  else none
  else none
  else none
 else
  some (.inr (cB,ad))
def NW (ax:List Int)(ag a4:Int)(dj:List Int)(dk hd cB dl:Int)(ad:List Int):Option (Int×(List Int)):=iter (fun w:Int×Int×(List Int)=>Hr ax ag a4 dj dk hd w.1 w.2.1 w.2.2) (cB,dl,ad)
theorem UR {ax:List Int}{ag a4:Int}{dj:List Int}{dk hd cB dl:Int}{ad:List Int}:bB (Hr ax ag a4 dj dk hd cB dl ad) (dP bc 72 0 124 [1,1,1,0,1,0,0,1,1,0,0,1,1,0,1,0,0] (Hq ax ag a4 dj dk hd (cB,dl,ad)) (Hq ax ag a4 dj dk hd) (HX ax ag a4 dj dk hd)):=by
 unfold Hr
 exact .ite (fun h1 =>
  .aZ fun o =>
  .ar fun aD au =>
  .aZ fun aA =>
  .ar fun cu bd =>
  .aZ fun bn =>
  .ret (let q1:=R ((R (cu+(R (a4*aD))))+cB);let a1:=R (ag+dl);bj [(J 1),.aa true,.az (br 2 (.b7 (eI aD)) 2),.az (br 5 (.b7 (eI cu)) 7),.az (br 9 .fV 1),(J 2),.aL [0] [.cO (av 1 eI (ad.set (0+a1.toNat) (q1.tmod (1000000000:Int))))] [(1,ii),(5,f5 ((ad.set (0+a1.toNat) (q1.tmod (1000000000:Int))).length)),(6,ii),(7,ii),(8,ii),(26,ii),(27,ii),(28,ii),(33,ii),(34,ii),(35,ii)]] (.bl h1 o.1 (cQ eI o.2) (bX eI au) aA.1 aA.2 (bX eI bd) (by decide:(1000000000:Int)≠0) (.gU (by decide:(1000000000:Int)≠0) aA.1 aA.2 (hH eI bn) (hx 1) (db 1 .live (gD (cY eI ad) (0+a1.toNat) (q1.tmod (1000000000:Int)))) (aK 1 .live aP (ad.set (0+a1.toNat) (q1.tmod (1000000000:Int)))) (hX (dO ad) (0+a1.toNat) (q1.tmod (1000000000:Int)))))))
  (fun h1 =>
  .ret (bj [(J 1),.aa false,.aL [0] [.pure] (ba [1,5,6,8,26,27,28])] (.aE h1 (aK 1 .live aP ad))))
theorem Wl {ax:List Int}{ag a4:Int}{dj:List Int}{dk hd cB dl:Int}{ad:List Int}{r} (h:NW ax ag a4 dj dk hd cB dl ad=some r):dQ bc 72 0 124 [1,1,1,0,1,0,0,1,1,0,0,1,1,0,1,0,0] (Hq ax ag a4 dj dk hd) (HX ax ag a4 dj dk hd) (cB,dl,ad) r:=dR (fun _=>UR) h
def Hs (ax dj:List Int)(dk:Int):(Int×(List Int))→S:=fun (fz,ad)=>dr [(1,.isl 1 (ax.map eI)),(5,.bm 0 0 0 ad.length),(26,.isl 1 (dj.map eI)),(27,.n .i64 dk),(28,.n .i64 fz)] [(av 1 eI ad)]
def HY (ax dj:List Int)(dk:Int):(List Int)→du
 | a=>⟨some 0,[(5,.bm 0 0 0 a.length)],[(av 1 eI a)]⟩
def Ht (ax dj:List Int)(dk fz:Int)(ad:List Int):Option ((Int×(List Int))⊕((List Int))) :=
 if (decide (fz<dk))=true then
  if 0≤fz∧fz<dj.length then
  dj[fz.toNat]? >>= fun aD =>
  NW ax fz aD dj dk (len_ eI ax) 0 0 ad >>= fun aU =>
  if 0≤(R (fz+(len_ eI ax)))∧(R (fz+(len_ eI ax)))<(aU.2.length:Nat) then
  if (0+(R (fz+(len_ eI ax))).toNat)<aU.2.length then
  some (.inl (R (fz+(1:Int)),aU.2.set (0+(R (fz+(len_ eI ax))).toNat) aU.1))
  else none
  else none
  else none
 else
  some (.inr ad)
def Ji (ax dj:List Int)(dk fz:Int)(ad:List Int):Option ((List Int)):=iter (fun w:Int×(List Int)=>Ht ax dj dk w.1 w.2) (fz,ad)
theorem US {ax dj:List Int}{dk fz:Int}{ad:List Int}:bB (Ht ax dj dk fz ad) (dP bc 72 0 124 [1,1,1,0,1,0,0] (Hs ax dj dk (fz,ad)) (Hs ax dj dk) (HY ax dj dk)):=by
 unfold Ht
 exact .ite (fun h1 =>
  .aZ fun o =>
  .ar fun aD au =>
  .ar fun aU a2 =>
  .aZ fun bd =>
  .aZ fun bn =>
  .ret (let q1:=R (fz+(len_ eI ax));bj [(J 1),.aa true,.az (br 2 (.b7 (eI aD)) 2),(J 1),(J 3),.aL [0] [.pure] (ba [1,5,6,7,8,26,27,28,33,34,35]),(HX ax fz aD dj dk (len_ eI ax) aU).ff,.az (aj 7 (an .fV [])),(J 2),.aL [0] [.cO (av 1 eI (aU.2.set (0+q1.toNat) aU.1))] [(1,ii),(5,f5 ((aU.2.set (0+q1.toNat) aU.1).length)),(26,ii),(27,ii),(28,ii)]] (.bl h1 o.1 (cQ eI o.2) (bX eI au) (aK 1 .live aP ad) (Wl a2) bd.1 bd.2 (.dw (hH eI bn) (hx 1) (db 1 .live (gD (cY eI aU.2) (0+q1.toNat) aU.1)) (aK 1 .live aP (aU.2.set (0+q1.toNat) aU.1)) (hX (dO aU.2) (0+q1.toNat) aU.1)))))
  (fun h1 =>
  .ret (bj [(J 1),.aa false,.aL [0] [.pure] (ba [5])] (.aE h1 (aK 1 .live aP ad))))
theorem Wm {ax dj:List Int}{dk fz:Int}{ad:List Int}{r} (h:Ji ax dj dk fz ad=some r):dQ bc 72 0 124 [1,1,1,0,1,0,0] (Hs ax dj dk) (HY ax dj dk) (fz,ad) r:=dR (fun _=>US) h
def xz (af ax:List Int):Option (Nat×(List Int)) :=
 if ((len_ eI af) == (0:Int))=true then
  none
 else
  if ((len_ eI ax) == (0:Int))=true then
   none
  else
   if 0≤(R ((len_ eI af)+(len_ eI ax)))∧(8:Int)*(R ((len_ eI af)+(len_ eI ax)))≤281474976710656∧(R ((len_ eI af)+(len_ eI ax)))<9223372036854775808 then
   Ji ax af (len_ eI af) 0 (List.replicate (R ((len_ eI af)+(len_ eI ax))).toNat 0:List Int) >>= fun bg =>
   Ad bg >>= fun ck =>
   some (ck,bg)
   else none
theorem NX {af ax:List Int}:bB (xz af ax) (fun a=>Con bc 124 [.isl 1 (af.map eI),.isl 1 (ax.map eI)] [] (.bm 0 0 0 a.1) [(av 1 eI a.2)]):=by
 unfold xz
 exact .ite (fun h1 =>
  .R9)
  (fun h1 =>
  .ite (fun o =>
  .R9)
  (fun o =>
  .aZ fun ae =>
  .ar fun bg aA =>
  .ar fun ck bd =>
  .ret (let q1:=R ((len_ eI af)+(len_ eI ax));let a1:=(List.replicate q1.toNat 0:List Int);lE [(J 1),.az (aj 7 (an (.aa false) [])),.aa false,(J 7),(J 3),.aL [14] [.cO (av 1 eI a1)] [(1,ii),(5,f5 (a1.length)),(26,ii),(27,ii),(28,ii)],(HY ax af (len_ eI af) bg).ff,.az (br 1 (.call {a0:=[.row 0],dv:=[.pure],ac:=[ii],r:= .bm 0 0 0 ck,fy:=[(av 1 eI bg)],ib:=ii,kj:=[.pure],fU:=[0],fP:=false}) 1)] [0] [.pure] (.bl h1 h1 h1 h1 o ae.1 (Int.le_refl q1) ae.2.1 (.bl ae.2.2 (db 1 .live (lx eI q1.toNat 0)) (aK 1 .live aP a1) (lL q1.toNat (0:Int)) (Wm aA) (iU 1 aP bg) (iU 1 aP bg) (XF ck bd) (.e1 (aK 1 .live aP bg)))))))
def HZ (fj ev:Nat)(et:List Int)(kt c2:Int):(Int×Int×(List Int))→S:=fun (cB,b4,ad)=>dr [(0,.bm 0 0 fj ev),(1,.isl 1 (et.map eI)),(2,.n .i64 kt),(7,.n .i64 cB),(11,.isl 1 (et.map eI)),(12,.n .i64 c2),(13,.n .i64 b4)] [(av 1 eI ad)]
def Ix (fj ev:Nat)(et:List Int)(kt c2:Int):(Int×(List Int))→du
 | a=>⟨some 0,[(0,.bm 0 0 fj ev),(1,.isl 1 (et.map eI)),(7,.n .i64 a.1)],[(av 1 eI a.2)]⟩
def t0 (fj ev:Nat)(et:List Int)(kt c2 cB b4:Int)(ad:List Int):Option ((Int×Int×(List Int))⊕(Int×(List Int))) :=
 if (decide (b4<c2))=true then
  if 0≤b4∧b4<et.length then
  et[b4.toNat]? >>= fun aD =>
  if 0≤b4∧b4<(ev:Nat) then
  ad[(fj+b4.toNat)]? >>= fun cu =>
  if (decide ((R ((R (cu-(R (kt*aD))))-cB))<(0:Int)))=true then
   if (fj+b4.toNat)<ad.length then
   some (.inl (R ((R ((999999999:Int)-(R ((R (cu-(R (kt*aD))))-cB)))).tdiv (1000000000:Int)),R (b4+(1:Int)),ad.set (fj+b4.toNat) (R ((R ((R (cu-(R (kt*aD))))-cB))+(R ((R ((R ((999999999:Int)-(R ((R (cu-(R (kt*aD))))-cB)))).tdiv (1000000000:Int)))*(1000000000:Int)))))))
   else none
  else
   if (fj+b4.toNat)<ad.length then
   some (.inl (0,R (b4+(1:Int)),ad.set (fj+b4.toNat) (R ((R (cu-(R (kt*aD))))-cB))))
   else none
  else none
  else none
 else
  some (.inr (cB,ad))
def Jw (fj ev:Nat)(et:List Int)(kt c2 cB b4:Int)(ad:List Int):Option (Int×(List Int)):=iter (fun w:Int×Int×(List Int)=>t0 fj ev et kt c2 w.1 w.2.1 w.2.2) (cB,b4,ad)
theorem Vj {fj ev:Nat}{et:List Int}{kt c2 cB b4:Int}{ad:List Int}:bB (t0 fj ev et kt c2 cB b4 ad) (dP bc 56 1 133 [1,1,0,1,0,0] (HZ fj ev et kt c2 (cB,b4,ad)) (HZ fj ev et kt c2) (Ix fj ev et kt c2)):=by
 unfold t0
 exact .ite (fun h1 =>
  .aZ fun o =>
  .ar fun aD au =>
  .aZ fun aA =>
  .ar fun cu bd =>
  (let t1:List bY:=[(J 1),.aa true,.az (br 2 (.b7 (eI aD)) 2),.az (br 3 (.b7 (eI cu)) 7),(J 1),(J 2)];
  have aQ:=((.eX h1 o.1 (cQ eI o.2) (bX eI au) aA.1 aA.2 (bX eI bd)):cz _);
  .ite (fun bn =>
  .aZ fun cy =>
  .ret (let q1:=(R ((R ((R (cu-(R (kt*aD))))-cB))+(R ((R ((R ((999999999:Int)-(R ((R (cu-(R (kt*aD))))-cB)))).tdiv (1000000000:Int)))*(1000000000:Int)))));bj (t1.append [.aa true,(J 4),(J 5),.az (aj 4 (an .fV [])),(J 2),.aL [0] [.cO (av 1 eI (ad.set (fj+b4.toNat) q1))] (ba [0,1,2,7,11,12,13])]) (aQ.aJ (.gU bn (by decide:(1000000000:Int)≠0) aA.1 aA.2 (hH eI cy) (hx 1) (db 1 .live (gD (cY eI ad) (fj+b4.toNat) q1)) (aK 1 .live aP (ad.set (fj+b4.toNat) q1))))))
  (fun bn =>
  .aZ fun cy =>
  .ret (let a1:=R ((R (cu-(R (kt*aD))))-cB);bj (t1.append [.aa false,.az (aj 4 (an .fV [])),(J 2),.aL [0] [.cO (av 1 eI (ad.set (fj+b4.toNat) a1))] (ba [0,1,2,7,11,12,13])]) (aQ.aJ (.eX bn aA.1 aA.2 (hH eI cy) (hx 1) (db 1 .live (gD (cY eI ad) (fj+b4.toNat) a1)) (aK 1 .live aP (ad.set (fj+b4.toNat) a1))))))))
  (fun h1 =>
  .ret (bj [(J 1),.aa false,.aL [0] [.pure] (ba [0,1,7])] (.aE h1 (aK 1 .live aP ad))))
theorem WB {fj ev:Nat}{et:List Int}{kt c2 cB b4:Int}{ad:List Int}{r} (h:Jw fj ev et kt c2 cB b4 ad=some r):dQ bc 56 1 133 [1,1,0,1,0,0] (HZ fj ev et kt c2) (Ix fj ev et kt c2) (cB,b4,ad) r:=dR (fun _=>Vj) h
def Ae (et:List Int)(kt:Int)(fj ev:Nat)(fG:List Int):Option (Bool×(List Int)) :=
 Jw fj ev et kt (len_ eI et) 0 0 fG >>= fun r1 =>
 if 0≤(len_ eI et)∧(len_ eI et)<(ev:Nat) then
 r1.2[(fj+(len_ eI et).toNat)]? >>= fun fD =>
 if (fj+(len_ eI et).toNat)<r1.2.length then
 (r1.2.set (fj+(len_ eI et).toNat) (R (fD-r1.1)))[(fj+(len_ eI et).toNat)]? >>= fun eS =>
 some ((decide (eS<(0:Int))),r1.2.set (fj+(len_ eI et).toNat) (R (fD-r1.1)))
 else none
 else none
theorem XG {et:List Int}{kt:Int}{fj ev:Nat}{fG:List Int}:bB (Ae et kt fj ev fG) (fun a=>Con bc 133 (adR 0 0 fj ev et kt) [(av 1 eI fG)] (.b a.1) [(av 1 eI a.2)]):=by
 unfold Ae
 exact .ar fun r1 o =>
  .aZ fun ae =>
  .ar fun fD aA =>
  .aZ fun a2 =>
  .ar fun eS bn =>
  .ret (let q1:=R (fD-r1.1);let a1:=len_ eI et;lE [(J 1),(J 1),(J 3),.aL [0] [.pure] (ba [0,1,2,7,11,12,13]),(Ix fj ev et kt a1 r1).ff,.az (aj 4 (an (.b7 (eI fD)) (aj 3 (an .fV [])))),.az (br 4 (.b7 (eI eS)) 2)] [0] [.cO (av 1 eI (r1.2.set (fj+a1.toNat) q1))] (.bl (aK 1 .live aP fG) (WB o) ae.1 ae.2 (bX eI aA) ae.1 ae.2 (hH eI a2) (.d9 (hx 1) ae.1 ae.2 (abb (gD (cY eI r1.2) (fj+a1.toNat) q1) bn) (db 1 .live (gD (cY eI r1.2) (fj+a1.toNat) q1)) (aK 1 .live aP (r1.2.set (fj+a1.toNat) q1)))))
def H0 (fj ev:Nat)(et:List Int)(ee:Int):(Int×Int×(List Int))→S:=fun (cB,c7,ad)=>dr [(0,.bm 0 0 fj ev),(1,.isl 1 (et.map eI)),(4,.n .i64 cB),(8,.isl 1 (et.map eI)),(9,.n .i64 ee),(10,.n .i64 c7)] [(av 1 eI ad)]
def Iy (fj ev:Nat)(et:List Int)(ee:Int):(Int×(List Int))→du
 | a=>⟨some 0,[(0,.bm 0 0 fj ev),(1,.isl 1 (et.map eI)),(4,.n .i64 a.1)],[(av 1 eI a.2)]⟩
def w8 (fj ev:Nat)(et:List Int)(ee cB c7:Int)(ad:List Int):Option ((Int×Int×(List Int))⊕(Int×(List Int))) :=
 if (decide (c7<ee))=true then
  if 0≤c7∧c7<et.length then
  et[c7.toNat]? >>= fun aD =>
  if 0≤c7∧c7<(ev:Nat) then
  ad[(fj+c7.toNat)]? >>= fun cu =>
  if (fj+c7.toNat)<ad.length then
  some (.inl (R ((R ((R (cu+aD))+cB)).tdiv (1000000000:Int)),R (c7+(1:Int)),ad.set (fj+c7.toNat) ((R ((R (cu+aD))+cB)).tmod (1000000000:Int))))
  else none
  else none
  else none
 else
  some (.inr (cB,ad))
def Jx (fj ev:Nat)(et:List Int)(ee cB c7:Int)(ad:List Int):Option (Int×(List Int)):=iter (fun w:Int×Int×(List Int)=>w8 fj ev et ee w.1 w.2.1 w.2.2) (cB,c7,ad)
theorem Vk {fj ev:Nat}{et:List Int}{ee cB c7:Int}{ad:List Int}:bB (w8 fj ev et ee cB c7 ad) (dP bc 39 1 134 [1,0,1,0,0] (H0 fj ev et ee (cB,c7,ad)) (H0 fj ev et ee) (Iy fj ev et ee)):=by
 unfold w8
 exact .ite (fun h1 =>
  .aZ fun o =>
  .ar fun aD au =>
  .aZ fun aA =>
  .ar fun cu bd =>
  .aZ fun bn =>
  .ret (let q1:=R ((R (cu+aD))+cB);bj [(J 1),.aa true,.az (br 2 (.b7 (eI aD)) 2),.az (br 3 (.b7 (eI cu)) 5),.az (br 7 .fV 1),(J 2),.aL [0] [.cO (av 1 eI (ad.set (fj+c7.toNat) (q1.tmod (1000000000:Int))))] (ba [0,1,4,8,9,10])] (.bl h1 o.1 (cQ eI o.2) (bX eI au) aA.1 aA.2 (bX eI bd) (by decide:(1000000000:Int)≠0) (.eX (by decide:(1000000000:Int)≠0) aA.1 aA.2 (hH eI bn) (hx 1) (db 1 .live (gD (cY eI ad) (fj+c7.toNat) (q1.tmod (1000000000:Int)))) (aK 1 .live aP (ad.set (fj+c7.toNat) (q1.tmod (1000000000:Int))))))))
  (fun h1 =>
  .ret (bj [(J 1),.aa false,.aL [0] [.pure] (ba [0,1,4])] (.aE h1 (aK 1 .live aP ad))))
theorem WC {fj ev:Nat}{et:List Int}{ee cB c7:Int}{ad:List Int}{r} (h:Jx fj ev et ee cB c7 ad=some r):dQ bc 39 1 134 [1,0,1,0,0] (H0 fj ev et ee) (Iy fj ev et ee) (cB,c7,ad) r:=dR (fun _=>Vk) h
def xE (et:List Int)(fj ev:Nat)(fG:List Int):Option (List Int) :=
 Jx fj ev et (len_ eI et) 0 0 fG >>= fun r1 =>
 if 0≤(len_ eI et)∧(len_ eI et)<(ev:Nat) then
 r1.2[(fj+(len_ eI et).toNat)]? >>= fun fD =>
 if (fj+(len_ eI et).toNat)<r1.2.length then
 some (r1.2.set (fj+(len_ eI et).toNat) (R (fD+r1.1)))
 else none
 else none
theorem XH {et:List Int}{fj ev:Nat}{fG:List Int}:bB (xE et fj ev fG) (fun a=>Con bc 134 [.bm 0 0 fj ev,.isl 1 (et.map eI)] [(av 1 eI fG)] (.d7 []) [(av 1 eI a)]):=by
 unfold xE
 exact .ar fun r1 o =>
  .aZ fun ae =>
  .ar fun fD aA =>
  .aZ fun a2 =>
  .ret (let q1:=R (fD+r1.1);let a1:=len_ eI et;lE [(J 1),(J 3),.aL [0] [.pure] (ba [0,1,4,8,9,10]),(Iy fj ev et a1 r1).ff,.az (aj 4 (an (.b7 (eI fD)) (aj 3 (an .fV []))))] [0] [.cO (av 1 eI (r1.2.set (fj+a1.toNat) q1))] (.bl (aK 1 .live aP fG) (WC o) ae.1 ae.2 (bX eI aA) ae.1 ae.2 (hH eI a2) (.bT (hx 1) (db 1 .live (gD (cY eI r1.2) (fj+a1.toNat) q1)) (aK 1 .live aP (r1.2.set (fj+a1.toNat) q1)))))
def IK (af:List Int)(fZ:Nat)(ad aH:List Int):(List Int)→S:=fun aq=>dr [(0,.isl 1 (af.map eI)),(8,.bm 0 0 0 ad.length),(9,.bm 1 0 0 aq.length),(10,.bm 2 0 0 fZ)] [(av 1 eI ad),(av 1 eI aq),(av 1 eI aH)]
def I2 (af:List Int)(fZ:Nat)(ad aH:List Int):(List Int)→du
 | a=>⟨some 0,[(8,.bm 0 0 0 ad.length),(9,.bm 1 0 0 a.length),(10,.bm 2 0 0 fZ)],[(av 1 eI ad),(av 1 eI a),(av 1 eI aH)]⟩
def C2 (af:List Int)(fZ:Nat)(ad aH aq:List Int):Option (((List Int))⊕((List Int))) :=
 if (decide (((aq.length:Nat):Int)≤(len_ eI af)))=true then
  if (aq++([0]:List Int)).length*8≤140737488355328 then
  some (.inl (aq++([0]:List Int)))
  else none
 else
  some (.inr aq)
def Dt (af:List Int)(fZ:Nat)(ad aH aq:List Int):Option ((List Int)):=iter (fun w:(List Int)=>C2 af fZ ad aH w) aq
theorem VJ {af:List Int}{fZ:Nat}{ad aH aq:List Int}:bB (C2 af fZ ad aH aq) (dP bc 172 0 127 [1,1,1,1,1,0,0,0] (IK af fZ ad aH aq) (IK af fZ ad aH) (I2 af fZ ad aH)):=by
 unfold C2
 exact .ite (fun h1 =>
  .aZ fun o =>
  .ret (let q1:=(aq++([0]:List Int));bj [(J 5),.aa true,.az (br 2 (.aJ (q1.length)) 1),.aL [0,10,2] [.pure,.cO (av 1 eI q1),.pure] (ba [0,8,9,10])] (.bl h1 (ha eI 0) (ho eI aq) (gR eI aq 0) o (aK 1 .live aP ad) (db 1 .live (hy eI aq 0)) (aK 1 .live aP q1) (.e1 (aK 1 .live aP aH)))))
  (fun h1 =>
  .ret (bj [(J 5),.aa false,.aL [0,1,2] [.pure,.pure,.pure] (ba [8,9,10])] (.de h1 (aK 1 .live aP ad) (aK 1 .live aP aq) (aK 1 .live aP aH))))
theorem Xn {af:List Int}{fZ:Nat}{ad aH aq:List Int}{r} (h:Dt af fZ ad aH aq=some r):dQ bc 172 0 127 [1,1,1,1,1,0,0,0] (IK af fZ ad aH) (I2 af fZ ad aH) aq r:=dR (fun _=>VJ) h
def IL (ev fZ:Nat)(a4 bR:Int)(ad aq aH al:List Int):(Int×Int)→S:=fun (ns,fQ)=>dr [(8,.bm 0 0 0 ad.length),(9,.bm 1 0 0 ev),(10,.bm 2 0 0 fZ),(11,.n .i64 a4),(12,.bm 3 0 0 al.length),(13,.n .i64 bR),(15,.n .i64 ns),(16,.n .i64 fQ)] [(av 1 eI ad),(av 1 eI aq),[ab.mk 1 (aH.map eI) .iY],(av 1 eI al)]
def I3 (ev fZ:Nat)(a4 bR:Int)(ad aq aH al:List Int):Int→du
 | a=>⟨some 4,[(8,.bm 0 0 0 ad.length),(9,.bm 1 0 0 ev),(10,.bm 2 0 0 fZ),(11,.n .i64 a4),(12,.bm 3 0 0 al.length),(13,.n .i64 bR),(15,.n .i64 a)],[(av 1 eI ad),(av 1 eI aq),[ab.mk 1 (aH.map eI) .iY],(av 1 eI al)]⟩
def ua (ev fZ:Nat)(a4 bR:Int)(ad aq aH al:List Int)(ns fQ:Int):Option ((Int×Int)⊕(Int)) :=
 if (decide ((1000000000:Int)≤ns))=true then
  if 0≤(R (a4-(1:Int)))∧(R (a4-(1:Int)))<(fZ:Nat) then
  aH[(0+(R (a4-(1:Int))).toNat)]? >>= fun aD =>
  if (decide ((1000000000:Int)≤(R (fQ+aD))))=true then
   some (.inr (R (ns-(1:Int))))
  else
   some (.inl (R (ns-(1:Int)),R (fQ+aD)))
  else none
 else
  if 0≤(R (a4-(2:Int)))∧(R (a4-(2:Int)))<(fZ:Nat) then
  aH[(0+(R (a4-(2:Int))).toNat)]? >>= fun aD =>
  if 0≤(R ((R (bR+a4))-(2:Int)))∧(R ((R (bR+a4))-(2:Int)))<(ev:Nat) then
  aq[(0+(R ((R (bR+a4))-(2:Int))).toNat)]? >>= fun cu =>
  if (decide ((R ((R (fQ*(1000000000:Int)))+cu))<(R (ns*aD))))=true then
   if 0≤(R (a4-(1:Int)))∧(R (a4-(1:Int)))<(fZ:Nat) then
   aH[(0+(R (a4-(1:Int))).toNat)]? >>= fun iZ =>
   if (decide ((1000000000:Int)≤(R (fQ+iZ))))=true then
    some (.inr (R (ns-(1:Int))))
   else
    some (.inl (R (ns-(1:Int)),R (fQ+iZ)))
   else none
  else
   some (.inr ns)
  else none
  else none
def JL (ev fZ:Nat)(a4 bR:Int)(ad aq aH al:List Int)(ns fQ:Int):Option (Int):=iter (fun w:Int×Int=>ua ev fZ a4 bR ad aq aH al w.1 w.2) (ns,fQ)
theorem VK {ev fZ:Nat}{a4 bR:Int}{ad aq aH al:List Int}{ns fQ:Int}:bB (ua ev fZ a4 bR ad aq aH al ns fQ) (dP bc 172 0 127 [1,1,1,1,1,1,1,1,0,1,0,0,1,0,0,1,1,0,0,0] (IL ev fZ a4 bR ad aq aH al (ns,fQ)) (IL ev fZ a4 bR ad aq aH al) (I3 ev fZ a4 bR ad aq aH al)):=by
 unfold ua
 exact .ite (fun h1 =>
  .aZ fun o =>
  .ar fun aD au =>
  (let t1:List bY:=[.az (aj 3 (cD 18 (an (.aa true) []))),.aa true,(J 3),.az (br 5 (.b7 (eI aD)) 2),(J 2)];
  have aQ:=((.bl h1 h1 h1 h1 h1 h1 h1 h1 (.bl h1 h1 h1 h1 h1 h1 h1 h1 (.eX h1 h1 h1 cJ o.1 o.2 (bX eI au)))):cz _);
  .ite (fun aA =>
  .ret (bj (t1.append [.aa true,.aL [0,1,2,3] [.pure,.pure,.pure,.pure] (ba [8,9,10,11,12,13,15])]) (aQ.aJ (.dw aA (aK 1 .live aP ad) (aK 1 .live aP aq) (aK 1 .iY aP aH) (aK 1 .live aP al)))))
  (fun aA =>
  .ret (bj (t1.append [.aa false,.aL [0,1,2,3] [.pure,.pure,.pure,.pure] (ba [8,9,10,11,12,13,15,16])]) (aQ.aJ (.dw aA (aK 1 .live aP ad) (aK 1 .live aP aq) (aK 1 .iY aP aH) (aK 1 .live aP al)))))))
  (fun h1 =>
  .aZ fun o =>
  .ar fun aD au =>
  .aZ fun aA =>
  .ar fun cu bd =>
  (let t1:List bY:=[.az (aj 8 (an (.b7 (eI aD)) (aj 9 (an (.b7 (eI cu)) (aj 2 (an (.aa false) []))))))];
  have aQ:=((.bl h1 h1 h1 h1 h1 o.1 o.2 h1 (.bl (bX eI au) h1 h1 h1 h1 h1 h1 h1 (.bl h1 h1 aA.1 aA.2 h1 (bX eI bd) h1 h1 (.e1 h1)))):cz _);
  .ite (fun bn =>
  .aZ fun cy =>
  .ar fun iZ eW =>
  (let t3:List bY:=t1.append [.aa true,(J 3),.az (br 5 (.b7 (eI iZ)) 2),(J 2)];
  .ite (fun e6 =>
  .ret (bj (t3.append [.aa true,.aL [0,1,2,3] [.pure,.pure,.pure,.pure] (ba [8,9,10,11,12,13,15])]) (aQ.aJ (.bl bn cy.1 cy.2 (bX eI eW) e6 (aK 1 .live aP ad) (aK 1 .live aP aq) (aK 1 .iY aP aH) (.e1 (aK 1 .live aP al))))))
  (fun e6 =>
  .ret (bj (t3.append [.aa false,.aL [0,1,2,3] [.pure,.pure,.pure,.pure] (ba [8,9,10,11,12,13,15,16])]) (aQ.aJ (.bl bn cy.1 cy.2 (bX eI eW) e6 (aK 1 .live aP ad) (aK 1 .live aP aq) (aK 1 .iY aP aH) (.e1 (aK 1 .live aP al))))))))
  (fun bn =>
  .ret (bj (t1.append [.aa false,.aL [0,1,2,3] [.pure,.pure,.pure,.pure] (ba [8,9,10,11,12,13,15])]) (aQ.aJ (.dw bn (aK 1 .live aP ad) (aK 1 .live aP aq) (aK 1 .iY aP aH) (aK 1 .live aP al)))))))
theorem Xo {ev fZ:Nat}{a4 bR:Int}{ad aq aH al:List Int}{ns fQ:Int}{r} (h:JL ev fZ a4 bR ad aq aH al ns fQ=some r):dQ bc 172 0 127 [1,1,1,1,1,1,1,1,0,1,0,0,1,0,0,1,1,0,0,0] (IL ev fZ a4 bR ad aq aH al) (I3 ev fZ a4 bR ad aq aH al) (ns,fQ) r:=dR (fun _=>VK) h
def IM (ev fZ:Nat)(a4:Int)(ad aH:List Int):(Int×(List Int)×(List Int))→S:=fun (bR,aq,al)=>dr [(8,.bm 0 0 0 ad.length),(9,.bm 1 0 0 ev),(10,.bm 2 0 0 fZ),(11,.n .i64 a4),(12,.bm 3 0 0 al.length),(13,.n .i64 bR)] [(av 1 eI ad),(av 1 eI aq),[ab.mk 1 (aH.map eI) .iY],(av 1 eI al)]
def I4 (ev fZ:Nat)(a4:Int)(ad aH:List Int):((List Int)×(List Int))→du
 | a=>⟨some 2,[(8,.bm 0 0 0 ad.length),(9,.bm 1 0 0 ev),(12,.bm 2 0 0 a.2.length)],[(av 1 eI ad),(av 1 eI a.1),(av 1 eI a.2)]⟩
def ub (ev fZ:Nat)(a4:Int)(ad aH:List Int)(bR:Int)(aq al:List Int):Option ((Int×(List Int)×(List Int))⊕((List Int)×(List Int))) :=
 if (decide ((0:Int)≤bR))=true then
  if 0≤(R (bR+a4))∧(R (bR+a4))<(ev:Nat) then
  aq[(0+(R (bR+a4)).toNat)]? >>= fun aD =>
  if 0≤(R ((R (bR+a4))-(1:Int)))∧(R ((R (bR+a4))-(1:Int)))<(ev:Nat) then
  aq[(0+(R ((R (bR+a4))-(1:Int))).toNat)]? >>= fun cu =>
  if 0≤(R (a4-(1:Int)))∧(R (a4-(1:Int)))<(fZ:Nat) then
  aH[(0+(R (a4-(1:Int))).toNat)]? >>= fun ej =>
  if ej≠0 then
  JL ev fZ a4 bR ad aq aH al (R ((R ((R (aD*(1000000000:Int)))+cu)).tdiv ej)) ((R ((R (aD*(1000000000:Int)))+cu)).tmod ej) >>= fun dY =>
  if 0≤bR then
  if bR.toNat≤ev then
  if 0+fZ≤aH.length then
  Ae ((aH.drop 0).take fZ) dY (0+bR.toNat) (ev-bR.toNat) aq >>= fun gp =>
  if gp.1=true then
   xE ((aH.drop 0).take fZ) (0+bR.toNat) (ev-bR.toNat) gp.2 >>= fun jw =>
   if 0≤bR∧bR<(al.length:Nat) then
   if (0+bR.toNat)<al.length then
   some (.inl (R (bR-(1:Int)),jw,al.set (0+bR.toNat) (R (dY-(1:Int)))))
   else none
   else none
  else
   if 0≤bR∧bR<(al.length:Nat) then
   if (0+bR.toNat)<al.length then
   some (.inl (R (bR-(1:Int)),gp.2,al.set (0+bR.toNat) dY))
   else none
   else none
  else none
  else none
  else none
  else none
  else none
  else none
  else none
 else
  some (.inr (aq,al))
def JM (ev fZ:Nat)(a4:Int)(ad aH:List Int)(bR:Int)(aq al:List Int):Option ((List Int)×(List Int)):=iter (fun w:Int×(List Int)×(List Int)=>ub ev fZ a4 ad aH w.1 w.2.1 w.2.2) (bR,aq,al)
theorem VM {ev fZ:Nat}{a4:Int}{ad aH:List Int}{bR:Int}{aq al:List Int}:bB (ub ev fZ a4 ad aH bR aq al) (dP bc 172 0 127 [1,1,1,1,1,1,1,1,0,1,0,0] (IM ev fZ a4 ad aH (bR,aq,al)) (IM ev fZ a4 ad aH) (I4 ev fZ a4 ad aH)):=by
 unfold ub
 exact .ite (fun h1 =>
  .aZ fun o =>
  .ar fun aD au =>
  .aZ fun aA =>
  .ar fun cu bd =>
  .aZ fun bn =>
  .ar fun ej cN =>
  .aZ fun eW =>
  .ar fun dY ez =>
  .aZ fun eA =>
  .aZ fun fW =>
  .aZ fun h4 =>
  .ar fun gp hE =>
  (let t1:List bY:=[(J 2),.aa true,.az (aj 5 (an (.b7 (eI aD)) (br 7 (.b7 (eI cu)) 2))),.az (aj 5 (an (.b7 (eI ej)) (br 6 (.b7 (eI ej)) 3))),.aL [0,1,2,3] [.pure,.pure,.pure,.pure] (ba [8,9,10,11,12,13,15,16]),(I3 ev fZ a4 bR ad aq aH al dY).ff,.az (aj 5 (an (.call {a0:=[.row 1],dv:=[.pure],ac:=[ii,.bx (.dM (.e7 (((aH.drop 0).take fZ).map eI))),ii],r:= .b gp.1,fy:=[(av 1 eI gp.2)],ib:=ii,kj:=[.pure],fU:=[1,2],fP:=false}) []))];
  have aQ:=((.bl h1 o.1 o.2 (bX eI au) aA.1 aA.2 (bX eI bd) bn.1 (.bl bn.2 (bX eI cN) eW bn.1 bn.2 (bX eI cN) eW (aK 1 .live aP ad) (.bl (aK 1 .live aP aq) (aK 1 .iY aP aH) (aK 1 .live aP al) (Xo ez) eA fW (Nat.le_refl ev) (Kk (cY eI aH) 0 fZ) (.dw (rB (cY eI aH) h4) (dX aP ((aH.drop 0).take fZ)) (iU 1 aP aq) (iU 1 aP gp.2) (XG gp hE))))):cz _);
  .ite (fun gA =>
  .ar fun jw gO =>
  .aZ fun iT =>
  .aZ fun mZ =>
  .ret (let q1:=(R (dY-(1:Int)));bj (t1.append [.aa true,(J 3),.az (aj 4 (an (.call {a0:=[.row 1],dv:=[.pure],ac:=[ii,.bx (.dM (.e7 (((aH.drop 0).take fZ).map eI)))],r:= .d7 [],fy:=[(av 1 eI jw)],ib:=ii,kj:=[.pure],fU:=[1,2],fP:=false}) [])),.az (aj 4 (an .fV [])),(J 3),.aL [0,1,2,3] [.pure,.pure,.pure,.cO (av 1 eI (al.set (0+bR.toNat) q1))] [(8,ii),(9,ii),(10,ii),(11,ii),(12,f5 ((al.set (0+bR.toNat) q1).length)),(13,ii)]]) (aQ.aJ (.bl gA eA fW (Nat.le_refl ev) (Kk (cY eI aH) 0 fZ) (rB (cY eI aH) h4) (dX aP ((aH.drop 0).take fZ)) (iU 1 aP gp.2) (.bl (iU 1 aP jw) (XH jw gO) iT.1 iT.2 (hH eI mZ) (hx 1) (aK 1 .live aP ad) (aK 1 .live aP jw) (.de (aK 1 .iY aP aH) (db 1 .live (gD (cY eI al) (0+bR.toNat) q1)) (aK 1 .live aP (al.set (0+bR.toNat) q1)) (hX (dO al) (0+bR.toNat) q1)))))))
  (fun gA =>
  .aZ fun fl =>
  .aZ fun gO =>
  .ret (bj (t1.append [.aa false,.az (aj 4 (an .fV [])),(J 3),.aL [0,1,2,3] [.pure,.pure,.pure,.cO (av 1 eI (al.set (0+bR.toNat) dY))] [(8,ii),(9,ii),(10,ii),(11,ii),(12,f5 ((al.set (0+bR.toNat) dY).length)),(13,ii)]]) (aQ.aJ (.bl gA fl.1 fl.2 (hH eI gO) (hx 1) (aK 1 .live aP ad) (aK 1 .live aP gp.2) (aK 1 .iY aP aH) (.bT (db 1 .live (gD (cY eI al) (0+bR.toNat) dY)) (aK 1 .live aP (al.set (0+bR.toNat) dY)) (hX (dO al) (0+bR.toNat) dY))))))))
  (fun h1 =>
  .ret (bj [(J 2),.aa false,.aL [0,1,3] [.pure,.pure,.pure] (ba [8,9,12])] (.de h1 (aK 1 .live aP ad) (aK 1 .live aP aq) (aK 1 .live aP al))))
theorem Xp {ev fZ:Nat}{a4:Int}{ad aH:List Int}{bR:Int}{aq al:List Int}{r} (h:JM ev fZ a4 ad aH bR aq al=some r):dQ bc 172 0 127 [1,1,1,1,1,1,1,1,0,1,0,0] (IM ev fZ a4 ad aH) (I4 ev fZ a4 ad aH) (bR,aq,al) r:=dR (fun _=>VM) h
def xM (af ax:List Int):Option ((List Int)×(List Int)) :=
 qz af ax >>= fun r1 =>
 if (decide (r1<(0:Int)))=true then
  AG af >>= fun bg =>
  some (([]:List Int),bg)
 else
  if ((len_ eI ax) == (1:Int))=true then
   if 0≤(0:Int)∧(0:Int)<ax.length then
   ax[0]? >>= fun cu =>
   xq af cu >>= fun c0 =>
   ul (IntKind.wrap .u64 c0.2) >>= fun ek =>
   some (c0.1,ek)
   else none
  else
   if 0≤(R ((len_ eI ax)-(1:Int)))∧(R ((len_ eI ax)-(1:Int)))<ax.length then
   ax[(R ((len_ eI ax)-(1:Int))).toNat]? >>= fun cu =>
   if (R (cu+(1:Int)))≠0 then
   xz af ([R ((1000000000:Int).tdiv (R (cu+(1:Int))))]:List Int) >>= fun bz =>
   if bz.1≤bz.2.length then
   if (bz.2.take bz.1++([0]:List Int)).length*8≤140737488355328 then
   xz ax ([R ((1000000000:Int).tdiv (R (cu+(1:Int))))]:List Int) >>= fun eB =>
   Dt af eB.1 ([R ((1000000000:Int).tdiv (R (cu+(1:Int))))]:List Int) eB.2 (bz.2.take bz.1++([0]:List Int)) >>= fun gB =>
   if 0≤(R (((gB.length:Nat):Int)-((eB.1:Nat):Int)))∧(8:Int)*(R (((gB.length:Nat):Int)-((eB.1:Nat):Int)))≤281474976710656∧(R (((gB.length:Nat):Int)-((eB.1:Nat):Int)))<9223372036854775808 then
   JM gB.length eB.1 ((eB.1:Nat):Int) ([R ((1000000000:Int).tdiv (R (cu+(1:Int))))]:List Int) eB.2 (R ((R (((gB.length:Nat):Int)-((eB.1:Nat):Int)))-(1:Int))) gB (List.replicate (R (((gB.length:Nat):Int)-((eB.1:Nat):Int))).toNat 0:List Int) >>= fun fa =>
   if 0+gB.length≤fa.1.length then
   p5 ((fa.1.drop 0).take gB.length) >>= fun nI =>
   if 0≤(0:Int)∧(0:Int)<(([R ((1000000000:Int).tdiv (R (cu+(1:Int))))]:List Int).length:Nat) then
   ([R ((1000000000:Int).tdiv (R (cu+(1:Int))))]:List Int)[0]? >>= fun sF =>
   xq nI sF >>= fun nJ =>
   p5 fa.2 >>= fun mw =>
   some (mw,nJ.1)
   else none
   else none
   else none
   else none
   else none
   else none
   else none
theorem Ye {af ax:List Int}:bB (xM af ax) (fun r=>Con bc 127 [.isl 1 (af.map eI),.isl 1 (ax.map eI)] [] (.d7 [.isl 1 (r.1.map eI),.isl 1 (r.2.map eI)]) []):=by
 unfold xM
 exact .ar fun r1 o =>
  (let t1:List bY:=[(J 2),.az (br 2 (bt 2 (.n .i64 r1) true) 1)];
  have aQ:=((.aE (Db r1 o) (cc.n .i64 r1)):cz _);
  .ite (fun ae =>
  .ar fun bg aA =>
  .ret (bu (t1.append [.aa true,.az (br 1 (bt 1 (.isl 1 (bg.map eI)) false) 2)]) (aQ.aJ (.aE ae (Y5 bg aA))) (.comp [.dM (.j2 1),.dM .id])))
  (fun ae =>
  .ite (fun au =>
  .aZ fun aA =>
  .ar fun cu bd =>
  .ar fun c0 cy =>
  .ar fun ek eW =>
  .ret (bu (t1.append [.aa false,(J 3),.aa true,.az (aj 3 (an (.b7 (eI cu)) (an (bt 2 (.d7 [.isl 1 (c0.1.map eI),.n .i64 c0.2]) false) (aj 5 [])))),.az (br 3 (bt 1 (.isl 1 (ek.map eI)) false) 2)]) (aQ.aJ (.eX ae au aA.1 (cQ eI aA.2) (bX eI bd) (NL c0 cy) (Jg ek eW)))))
  (fun au =>
  .aZ fun aA =>
  .ar fun cu bd =>
  .aZ fun bn =>
  .ar fun bz cN =>
  .aZ fun eW =>
  .aZ fun e6 =>
  .ar fun eB eA =>
  .ar fun gB h4 =>
  .aZ fun hD =>
  .ar fun fa gA =>
  .aZ fun fl =>
  .ar fun nI iT =>
  .aZ fun mZ =>
  .ar fun sF ra =>
  .ar fun nJ sE =>
  .ar fun mw Ca =>
  .ret (let q1:=(R ((1000000000:Int).tdiv (R (cu+(1:Int)))));let a1:=(R (((gB.length:Nat):Int)-((eB.1:Nat):Int)));let b0:=(bz.2.take bz.1++([0]:List Int));let ct:=(List.replicate a1.toNat 0:List Int);let dh:=(aK 1 .live aP ([q1]:List Int));bu (t1.append [.aa false,(J 3),.aa false,.az (br 5 (.b7 (eI cu)) 4),.az (aj 2 (an (.call {a0:=[],dv:=[],ac:=[ii,.bx (.dM (.e7 (([q1]:List Int).map eI)))],r:= .bm 0 0 0 bz.1,fy:=[(av 1 eI bz.2)],ib:=ii,kj:=[.pure],fU:=[17],fP:=true}) (aj 1 (an (.aJ (b0.length)) (br 2 (.call {a0:=[],dv:=[],ac:=[ii,.bx (.dM (.e7 (([q1]:List Int).map eI)))],r:= .bm 0 0 0 eB.1,fy:=[(av 1 eI eB.2)],ib:=ii,kj:=[.pure],fU:=[17],fP:=true}) 2))))),.aL [17,23,26] [.cO (av 1 eI ([q1]:List Int)),.cO (av 1 eI b0),.pure] [(0,ii),(8,f5 (([q1]:List Int).length)),(9,ii),(10,ii)],(I2 af eB.1 ([q1]:List Int) eB.2 gB).ff,(J 3),(J 6),(J 6),.aL [0,1,2,10] [.pure,.pure,.pure,.cO (av 1 eI ct)] [(8,ii),(9,ii),(10,ii),(11,ii),(12,f5 (ct.length)),(13,ii)],.iY 2,.aL [0,1,2,3] [.pure,.pure,.pure,.pure] (ba [8,9,10,11,12,13]),(I4 gB.length eB.1 ((eB.1:Nat):Int) ([q1]:List Int) eB.2 fa).ff,.iY 1,.az (aj 1 (an (.call {ac:=[.bx (.dM (.e7 (((fa.1.drop 0).take gB.length).map eI)))],r:= .isl 1 (nI.map eI),fP:=false,fU:=[1]}) (aj 2 (an (.b7 (eI sF)) (an (bt 2 (.d7 [.isl 1 (nJ.1.map eI),.n .i64 nJ.2]) false) (aj 5 [])))))),.iY 2,.az (br 1 (.call {ac:=[.bx (.dM (.e7 (fa.2.map eI)))],r:= .isl 1 (mw.map eI),fP:=false,fU:=[2]}) 3)]) (aQ.aJ (.bl ae au aA.1 (cQ eI aA.2) (bX eI bd) bn (l2 (show [[.n .i64 (R ((1000000000:Int).tdiv (R (cu+(1:Int)))))]]=(([(R ((1000000000:Int).tdiv (R (cu+(1:Int)))))]:List Int)).map eI from rfl) (show 1=([(R ((1000000000:Int).tdiv (R (cu+(1:Int)))))]:List Int).length from rfl)) (ha eI q1) (.bl (dX aP ([q1]:List Int)) (iU 1 aP bz.2) (NX bz cN) (cc.bm 0 0 0 bz.1) ((qH (o5 (oo yi) s7) qJ):n7 [(av 1 eI bz.2)]) (ha eI 0) (rB (cY eI bz.2) eW) (adJ eI eW 0) (.bl e6 (l2 (show [[.n .i64 (R ((1000000000:Int).tdiv (R (cu+(1:Int)))))]]=(([(R ((1000000000:Int).tdiv (R (cu+(1:Int)))))]:List Int)).map eI from rfl) (show 1=([(R ((1000000000:Int).tdiv (R (cu+(1:Int)))))]:List Int).length from rfl)) (ha eI q1) (dX aP ([q1]:List Int)) (iU 1 aP eB.2) (NX eB eA) (cc.bm 0 0 0 eB.1) ((qH (o5 (oo yi) s7) qJ):n7 [(av 1 eI eB.2)]) (.bl (db 1 .live (show [[.n .i64 (R ((1000000000:Int).tdiv (R (cu+(1:Int)))))]]=(([(R ((1000000000:Int).tdiv (R (cu+(1:Int)))))]:List Int)).map eI from rfl)) dh (db 1 .live (Kl (cY eI bz.2) bz.1 (vH eI 0))) (aK 1 .live aP b0) (aK 1 .live aP eB.2) (show 1=([(R ((1000000000:Int).tdiv (R (cu+(1:Int)))))]:List Int).length from rfl) (Xn h4) hD.1 (.bl (Int.le_refl a1) hD.2.1 hD.2.2 dh (aK 1 .live aP gB) (aK 1 .live aP eB.2) (db 1 .live (lx eI a1.toNat 0)) (aK 1 .live aP ct) (.bl (lL a1.toNat (0:Int)) dh (aK 1 .live aP gB) (aK 1 .iY aP eB.2) (aK 1 .live aP ct) (Xp gA) (Kk (cY eI fa.1) 0 gB.length) (rB (cY eI fa.1) fl) (.bl (dX aP ((fa.1.drop 0).take gB.length)) (um nI iT) mZ.1 mZ.2 (bX eI ra) (NL nJ sE) (gQ eI fa.2) (fY eI fa.2) (.aE (dX aP fa.2) (um mw Ca))))))))))))))
def sS (dc ew:bp):Option bp :=
 xM dc.cH ew.cH >>= fun r1 =>
 m6 (!(dc.cR == ew.cR)) r1.1 >>= fun bk =>
 some bk
theorem GL {dc ew:bp}:bB (sS dc ew) (fun r=>Con bc 120 [.agg (aY dc),.agg (aY ew)] [] (.agg (aY r)) []):=by
 unfold sS
 exact .ar fun r1 o =>
  .ar fun bk au =>
  .ret (bu [(J 3),.az (br 4 (bt 2 (.d7 [.isl 1 (r1.1.map eI),.isl 1 (r1.2.map eI)]) false) 5),.az (br 6 (bt 2 (.agg (aY bk)) false) 1)] (.aE (Ye r1 o) (sU bk au)))
def FN (bV bw:Int)(gK jV:bs)(jG jd jF:Int)(aG:Bool)(aF:List Int)(bq:Int)(aq:List bs)(al:List Int)(aI:List Bool)(js:Bool)(jn:List Int)(n0:Bool)(nU:List Int):(Int×(List (List bp)))→S:=fun (e4,a9)=>dr [(0,.ref 0 0 0 0),(1,.n .i64 bV),(2,.n .i64 bw),(6,kT 2 0 2 gK),(7,.ref 5 0 0 0),(9,kT 2 0 2 jV),(10,.ref 6 0 0 0),(30,.bm 1 0 0 aq.length),(31,.n .i64 jG),(32,.n .i64 jd),(45,.n .i64 jF),(46,.n .i64 e4)] [[ab.mk 6 [(fR 1 0 0 aq.length aG aF 3 0 0 al.length bq 4 0 0 aI.length)] .live],(av 1 (bb 2 0 2) aq),(b2 2 aY a9),(av 1 eI al),(av 1 el aI),[ab.mk 2 [[.b js,.isl 1 (jn.map eI)]] .live],[ab.mk 2 [[.b n0,.isl 1 (nU.map eI)]] .live]]
def FU (bV bw:Int)(gK jV:bs)(jG jd jF:Int)(aG:Bool)(aF:List Int)(bq:Int)(aq:List bs)(al:List Int)(aI:List Bool)(js:Bool)(jn:List Int)(n0:Bool)(nU:List Int):(List (List bp))→du
 | a=>⟨some 2,[(0,.ref 0 0 0 0),(1,.n .i64 bV),(2,.n .i64 bw),(6,kT 2 0 2 gK),(7,.ref 5 0 0 0),(30,.bm 1 0 0 aq.length),(31,.n .i64 jG),(32,.n .i64 jd)],[[ab.mk 6 [(fR 1 0 0 aq.length aG aF 3 0 0 al.length bq 4 0 0 aI.length)] .live],(av 1 (bb 2 0 2) aq),(b2 2 aY a),(av 1 eI al),(av 1 el aI),[ab.mk 2 [[.b js,.isl 1 (jn.map eI)]] .live]]⟩
def v9 (bV bw:Int)(gK jV:bs)(jG jd jF:Int)(aG:Bool)(aF:List Int)(bq:Int)(aq:List bs)(al:List Int)(aI:List Bool)(js:Bool)(jn:List Int)(n0:Bool)(nU:List Int)(e4:Int)(a9:List (List bp)):Option ((Int×(List (List bp)))⊕((List (List bp)))) :=
 if (decide (e4<jF))=true then
  jV >>= fun gV =>
  a9[gV.1]? >>= fun j3 =>
  if 0≤e4∧e4<(gV.2:Nat) then
  j3[(0+e4.toNat)]? >>= fun eS =>
  pp eS (⟨js,jn⟩:bp) >>= fun bz =>
  o0 (⟨n0,nU⟩:bp) >>= fun di =>
  if (di != (0:Int))=true then
   gK >>= fun vp =>
   a9[vp.1]? >>= fun yS =>
   if 0≤e4∧e4<(vp.2:Nat) then
   yS[(0+e4.toNat)]? >>= fun q9 =>
   o0 q9 >>= fun nI =>
   if (nI != (0:Int))=true then
    pp (⟨n0,nU⟩:bp) q9 >>= fun pK =>
    t8 bz pK >>= fun nJ =>
    sS nJ (⟨aG,aF⟩:bp) >>= fun mw =>
    some (.inl (R (e4+(1:Int)),a9.set gV.1 (j3.set (0+e4.toNat) mw)))
   else
    sS bz (⟨aG,aF⟩:bp) >>= fun pK =>
    some (.inl (R (e4+(1:Int)),a9.set gV.1 (j3.set (0+e4.toNat) pK)))
   else none
  else
   sS bz (⟨aG,aF⟩:bp) >>= fun gd =>
   some (.inl (R (e4+(1:Int)),a9.set gV.1 (j3.set (0+e4.toNat) gd)))
  else none
 else
  some (.inr a9)
def CQ (bV bw:Int)(gK jV:bs)(jG jd jF:Int)(aG:Bool)(aF:List Int)(bq:Int)(aq:List bs)(al:List Int)(aI:List Bool)(js:Bool)(jn:List Int)(n0:Bool)(nU:List Int)(e4:Int)(a9:List (List bp)):Option ((List (List bp))):=iter (fun w:Int×(List (List bp))=>v9 bV bw gK jV jG jd jF aG aF bq aq al aI js jn n0 nU w.1 w.2) (e4,a9)
theorem TD {bV bw:Int}{gK jV:bs}{jG jd jF:Int}{aG:Bool}{aF:List Int}{bq:Int}{aq:List bs}{al:List Int}{aI:List Bool}{js:Bool}{jn:List Int}{n0:Bool}{nU:List Int}{e4:Int}{a9:List (List bp)}:bB (v9 bV bw gK jV jG jd jF aG aF bq aq al aI js jn n0 nU e4 a9) (dP bc 128 5 103 [1,1,0,1,0,0,1,1,0,0,1,1,1,1,0,0] (FN bV bw gK jV jG jd jF aG aF bq aq al aI js jn n0 nU (e4,a9)) (FN bV bw gK jV jG jd jF aG aF bq aq al aI js jn n0 nU) (FU bV bw gK jV jG jd jF aG aF bq aq al aI js jn n0 nU)):=by
 unfold v9
 exact .ite (fun h1 =>
  .ar fun gV ae =>
  .ar fun j3 aA =>
  .aZ fun a2 =>
  .ar fun eS bn =>
  .ar fun bz cN =>
  .ar fun di e6 =>
  (let lF:=j5 (fJ .live 2 aY a9) ix aA;let t1:List bY:=[(J 1),.aa true,(J 2),.az (aj 2 (an (.j8 49 (.bm 2 (gV.1+0) 0 gV.2) (.gj (ab.mk 2 (j3.map aY) .live) [])) (an (.gj (ab.mk 2 (j3.map aY) .live) (aY eS)) (br 1 (bt 2 (.agg (aY bz)) false) 2))))];
  have aQ:=((.bl h1 (l5 (dD:=2) (c:=0) (sz:=2) ae) lF a2.1 a2.2 lF (bX aY bn) (wU bz cN) (.aE (sR di e6) (cc.n .i64 di))):cz _);
  .ite (fun ez =>
  .ar fun vp fW =>
  .ar fun yS hD =>
  .aZ fun hE =>
  .ar fun q9 fl =>
  .ar fun nI iT =>
  (let jh:=j5 (fJ .live 2 aY a9) ix hD;let t3:List bY:=t1.append [.az (aj 1 (an (bt 1 (.n .i64 di) true) (aj 4 (an (.j8 59 (.bm 2 (vp.1+0) 0 vp.2) (.gj (ab.mk 2 (yS.map aY) .live) [])) (an (.gj (ab.mk 2 (yS.map aY) .live) (aY q9)) (an (bt 1 (.n .i64 nI) true) (aj 1 (an (.aa true) []))))))))];
  have eR:=aQ.aJ (.bl ez ez ez (l5 (dD:=2) (c:=0) (sz:=2) fW) jh hE.1 hE.2 ez (.eX jh (bX aY fl) ez (sR nI iT) (cc.n .i64 nI) ez ez));
  .ite (fun mZ =>
  .ar fun pK ra =>
  .ar fun nJ sE =>
  .ar fun mw Ca =>
  .ret (let q1:=j5 (fJ .live 2 aY a9) ix hD;let a1:=j5 (fJ .live 2 aY a9) ix aA;let b0:=bP [0,1,2,3,4,5,6];bj (t3.append [.aa true,.az (aj 4 (an (.j8 68 (.bm 2 (vp.1+0) 0 vp.2) (.gj (ab.mk 2 (yS.map aY) .live) [])) (an (.gj (ab.mk 2 (yS.map aY) .live) (aY q9)) (an (bt 2 (.agg (aY pK)) false) (an (bt 2 (.agg (aY nJ)) false) (aj 1 [])))))),.az (aj 7 (an (bt 2 (.agg (aY mw)) false) (an (.j8 74 (.bm 2 (gV.1+0) 0 gV.2) (.gj (ab.mk 2 (j3.map aY) .live) [])) (an (.gj (ab.mk 2 (j3.map aY) .live) (aY eS)) [])))),(J 2),.aL [0,1,2,3,4,5,6] [.box [.id,.id,.id,.id,.id,.id],.bG (av 1 (bb 2 0 2) aq),.bG (b2 2 aY (a9.set gV.1 (j3.set (0+e4.toNat) mw))),.pure,.pure,.box [.id,.id],.box [.id,.id]] (ba [0,1,2,6,7,9,10,30,31,32,45,46])]) (eR.aJ (.bl mZ (l5 (dD:=2) (c:=0) (sz:=2) fW) q1 hE.1 hE.2 q1 (bX aY fl) (wU pK ra) (.bl (Nc nJ sE) (GL mw Ca) (l5 (dD:=2) (c:=0) (sz:=2) ae) a1 a2.1 a2.2 a1 (bX aY bn) (.de (ex b0 2 2 0 2 rfl aq) (mn (ca:=b0) (o7 (fJ .live 2 aY a9) gV.1 (qG (cY aY j3) (0+e4.toNat) mw (rfl:(setCells (aY eS) 0 (aY mw))=aY mw))) (lP fb)) (aK 1 .live aP al) (aK 1 .live eZ aI)))))))
  (fun mZ =>
  .ar fun pK ra =>
  .ret (let ct:=j5 (fJ .live 2 aY a9) ix aA;let dh:=bP [0,1,2,3,4,5,6];bj (t3.append [.aa false,.az (aj 7 (an (bt 2 (.agg (aY pK)) false) (an (.j8 74 (.bm 2 (gV.1+0) 0 gV.2) (.gj (ab.mk 2 (j3.map aY) .live) [])) (an (.gj (ab.mk 2 (j3.map aY) .live) (aY eS)) [])))),(J 2),.aL [0,1,2,3,4,5,6] [.box [.id,.id,.id,.id,.id,.id],.bG (av 1 (bb 2 0 2) aq),.bG (b2 2 aY (a9.set gV.1 (j3.set (0+e4.toNat) pK))),.pure,.pure,.box [.id,.id],.box [.id,.id]] (ba [0,1,2,6,7,9,10,30,31,32,45,46])]) (eR.aJ (.bl mZ (GL pK ra) (l5 (dD:=2) (c:=0) (sz:=2) ae) ct a2.1 a2.2 ct (bX aY bn) (.de (ex dh 2 2 0 2 rfl aq) (mn (ca:=dh) (o7 (fJ .live 2 aY a9) gV.1 (qG (cY aY j3) (0+e4.toNat) pK (rfl:(setCells (aY eS) 0 (aY pK))=aY pK))) (lP fb)) (aK 1 .live aP al) (aK 1 .live eZ aI))))))))
  (fun ez =>
  .ar fun gd fW =>
  .ret (let fI:=j5 (fJ .live 2 aY a9) ix aA;let hR:=bP [0,1,2,3,4,5,6];bj (t1.append [.az (aj 1 (an (bt 1 (.n .i64 di) true) (aj 2 (cD 6 (an (.aa false) []))))),.aa false,.az (aj 7 (an (bt 2 (.agg (aY gd)) false) (an (.j8 74 (.bm 2 (gV.1+0) 0 gV.2) (.gj (ab.mk 2 (j3.map aY) .live) [])) (an (.gj (ab.mk 2 (j3.map aY) .live) (aY eS)) [])))),(J 2),.aL [0,1,2,3,4,5,6] [.box [.id,.id,.id,.id,.id,.id],.bG (av 1 (bb 2 0 2) aq),.bG (b2 2 aY (a9.set gV.1 (j3.set (0+e4.toNat) gd))),.pure,.pure,.box [.id,.id],.box [.id,.id]] (ba [0,1,2,6,7,9,10,30,31,32,45,46])]) (aQ.aJ (.bl ez ez ez ez ez ez ez c6 (.bl (GL gd fW) (l5 (dD:=2) (c:=0) (sz:=2) ae) fI a2.1 a2.2 fI (bX aY bn) (ex hR 2 2 0 2 rfl aq) (.bT (mn (ca:=hR) (o7 (fJ .live 2 aY a9) gV.1 (qG (cY aY j3) (0+e4.toNat) gd (rfl:(setCells (aY eS) 0 (aY gd))=aY gd))) (lP fb)) (aK 1 .live aP al) (aK 1 .live eZ aI)))))))))
  (fun h1 =>
  .ret (let fp:=bP [0,1,2,3,4,5];bj [(J 1),.aa false,.aL [0,1,2,3,4,5] [.box [.id,.id,.id,.id,.id,.id],.bG (av 1 (bb 2 0 2) aq),.bG (b2 2 aY a9),.pure,.pure,.box [.id,.id]] (ba [0,1,2,6,7,30,31,32])] (.dw h1 (ex fp 2 2 0 2 rfl aq) (dz fp 2 fb a9) (aK 1 .live aP al) (aK 1 .live eZ aI))))
theorem Ue {bV bw:Int}{gK jV:bs}{jG jd jF:Int}{aG:Bool}{aF:List Int}{bq:Int}{aq:List bs}{al:List Int}{aI:List Bool}{js:Bool}{jn:List Int}{n0:Bool}{nU:List Int}{e4:Int}{a9:List (List bp)}{r} (h:CQ bV bw gK jV jG jd jF aG aF bq aq al aI js jn n0 nU e4 a9=some r):dQ bc 128 5 103 [1,1,0,1,0,0,1,1,0,0,1,1,1,1,0,0] (FN bV bw gK jV jG jd jF aG aF bq aq al aI js jn n0 nU) (FU bV bw gK jV jG jd jF aG aF bq aq al aI js jn n0 nU) (e4,a9) r:=dR (fun _=>TD) h
def FO (bV bw:Int)(gK:bs)(jG:Int)(aG:Bool)(aF:List Int)(bq:Int)(aq:List bs)(al:List Int)(aI:List Bool)(js:Bool)(jn:List Int):(Int×(List (List bp)))→S:=fun (jd,a9)=>dr [(0,.ref 0 0 0 0),(1,.n .i64 bV),(2,.n .i64 bw),(6,kT 2 0 2 gK),(7,.ref 5 0 0 0),(30,.bm 1 0 0 aq.length),(31,.n .i64 jG),(32,.n .i64 jd)] [[ab.mk 6 [(fR 1 0 0 aq.length aG aF 3 0 0 al.length bq 4 0 0 aI.length)] .live],(av 1 (bb 2 0 2) aq),(b2 2 aY a9),(av 1 eI al),(av 1 el aI),[ab.mk 2 [[.b js,.isl 1 (jn.map eI)]] .live]]
def FV (bV bw:Int)(gK:bs)(jG:Int)(aG:Bool)(aF:List Int)(bq:Int)(aq:List bs)(al:List Int)(aI:List Bool)(js:Bool)(jn:List Int):(List (List bp))→du
 | a=>⟨some 0,[(0,.ref 0 0 0 0),(1,.n .i64 bV),(2,.n .i64 bw),(7,.ref 5 0 0 0)],[[ab.mk 6 [(fR 1 0 0 aq.length aG aF 3 0 0 al.length bq 4 0 0 aI.length)] .live],(av 1 (bb 2 0 2) aq),(b2 2 aY a),(av 1 eI al),(av 1 el aI),[ab.mk 2 [[.b js,.isl 1 (jn.map eI)]] .live]]⟩
def wa (bV bw:Int)(gK:bs)(jG:Int)(aG:Bool)(aF:List Int)(bq:Int)(aq:List bs)(al:List Int)(aI:List Bool)(js:Bool)(jn:List Int)(jd:Int)(a9:List (List bp)):Option ((Int×(List (List bp)))⊕((List (List bp)))) :=
 if (decide (jd<jG))=true then
  if 0≤jd∧jd<(aq.length:Nat) then
  aq[(0+jd.toNat)]? >>= fun aD =>
  if (jd == bV)=true then
   some (.inl (R (jd+(1:Int)),a9))
  else
   aD >>= fun sM =>
   a9[sM.1]? >>= fun Cy =>
   if 0≤bw∧bw<(sM.2:Nat) then
   Cy[(0+bw.toNat)]? >>= fun pJ =>
   CQ bV bw gK aD jG jd ((sM.2:Nat):Int) aG aF bq aq al aI js jn pJ.cR pJ.cH 0 a9 >>= fun eB =>
   some (.inl (R (jd+(1:Int)),eB))
   else none
  else none
 else
  some (.inr a9)
def CR (bV bw:Int)(gK:bs)(jG:Int)(aG:Bool)(aF:List Int)(bq:Int)(aq:List bs)(al:List Int)(aI:List Bool)(js:Bool)(jn:List Int)(jd:Int)(a9:List (List bp)):Option ((List (List bp))):=iter (fun w:Int×(List (List bp))=>wa bV bw gK jG aG aF bq aq al aI js jn w.1 w.2) (jd,a9)
theorem TE {bV bw:Int}{gK:bs}{jG:Int}{aG:Bool}{aF:List Int}{bq:Int}{aq:List bs}{al:List Int}{aI:List Bool}{js:Bool}{jn:List Int}{jd:Int}{a9:List (List bp)}:bB (wa bV bw gK jG aG aF bq aq al aI js jn jd a9) (dP bc 128 5 103 [1,1,0,1,0,0] (FO bV bw gK jG aG aF bq aq al aI js jn (jd,a9)) (FO bV bw gK jG aG aF bq aq al aI js jn) (FV bV bw gK jG aG aF bq aq al aI js jn)):=by
 unfold wa
 exact .ite (fun h1 =>
  .aZ fun o =>
  .ar fun aD au =>
  (let t1:List bY:=[(J 1),.aa true,.az (br 2 (.b7 ((bb 2 0 2) aD)) 2),(J 3)];
  have aQ:=((.de h1 o.1 o.2 (bX (bb 2 0 2) au)):cz _);
  .ite (fun aA =>
  .ret (let q1:=bP [0,1,2,3,4,5];bj (t1.append [.aa true,(J 2),.aL [0,1,2,3,4,5] [.box [.id,.id,.id,.id,.id,.id],.bG (av 1 (bb 2 0 2) aq),.bG (b2 2 aY a9),.pure,.pure,.box [.id,.id]] (ba [0,1,2,6,7,30,31,32])]) (aQ.aJ (.dw aA (ex q1 2 2 0 2 rfl aq) (dz q1 2 fb a9) (aK 1 .live aP al) (aK 1 .live eZ aI)))))
  (fun aA =>
  .ar fun sM bd =>
  .ar fun Cy cy =>
  .aZ fun cN =>
  .ar fun pJ e6 =>
  .ar fun eB eA =>
  .ret (let a1:=j5 (fJ .live 2 aY a9) ix cy;let b0:=bP [0,1,2,3,4,5,19];let ct:=bP [0,1,2,3,4,5];bj (t1.append [.aa false,.az (aj 2 (an (.j8 40 (.bm 2 (sM.1+0) 0 sM.2) (.gj (ab.mk 2 (Cy.map aY) .live) [])) (an (.gj (ab.mk 2 (Cy.map aY) .live) (aY pJ)) (aj 2 [])))),.az (br 1 (.j8 44 (.bm 2 (sM.1+0) 0 sM.2) (.gj (ab.mk 2 (Cy.map aY) .live) [])) 1),.aL [0,1,2,3,4,5,19] [.box [.id,.id,.id,.id,.id,.id],.bG (av 1 (bb 2 0 2) aq),.bG (b2 2 aY a9),.pure,.pure,.box [.id,.id],.box [.id,.id]] (ba [0,1,2,6,7,9,10,30,31,32,45,46]),(FU bV bw gK aD jG jd ((sM.2:Nat):Int) aG aF bq aq al aI js jn pJ.cR pJ.cH eB).ff,(J 2),.aL [0,1,2,3,4,5] [.box [.id,.id,.id,.id,.id,.id],.bG (av 1 (bb 2 0 2) aq),.bG (b2 2 aY eB),.pure,.pure,.box [.id,.id]] (ba [0,1,2,6,7,30,31,32])]) (aQ.aJ (.bl aA (l5 (dD:=2) (c:=0) (sz:=2) bd) a1 cN.1 cN.2 a1 (bX aY e6) (l5 (dD:=2) (c:=0) (sz:=2) bd) (.bl a1 (ex b0 2 2 0 2 rfl aq) (dz b0 2 fb a9) (aK 1 .live aP al) (aK 1 .live eZ aI) (Ue eA) (ex ct 2 2 0 2 rfl aq) (dz ct 2 fb eB) (.aE (aK 1 .live aP al) (aK 1 .live eZ aI)))))))))
  (fun h1 =>
  .ret (let dh:=bP [0,1,2,3,4,5];bj [(J 1),.aa false,.aL [0,1,2,3,4,5] [.box [.id,.id,.id,.id,.id,.id],.bG (av 1 (bb 2 0 2) aq),.bG (b2 2 aY a9),.pure,.pure,.box [.id,.id]] (ba [0,1,2,7])] (.dw h1 (ex dh 2 2 0 2 rfl aq) (dz dh 2 fb a9) (aK 1 .live aP al) (aK 1 .live eZ aI))))
theorem Uf {bV bw:Int}{gK:bs}{jG:Int}{aG:Bool}{aF:List Int}{bq:Int}{aq:List bs}{al:List Int}{aI:List Bool}{js:Bool}{jn:List Int}{jd:Int}{a9:List (List bp)}{r} (h:CR bV bw gK jG aG aF bq aq al aI js jn jd a9=some r):dQ bc 128 5 103 [1,1,0,1,0,0] (FO bV bw gK jG aG aF bq aq al aI js jn) (FV bV bw gK jG aG aF bq aq al aI js jn) (jd,a9) r:=dR (fun _=>TE) h
def FP (jV:bs)(jC jD ou:Int)(aG:Bool)(aF:List Int)(bq:Int)(aq:List bs)(al:List Int)(aI:List Bool):(Int×(List (List bp)))→S:=fun (m9,a9)=>dr [(14,kT 2 0 2 jV),(107,.bm 1 0 0 aq.length),(108,.n .i64 jC),(109,.n .i64 jD),(114,.n .i64 ou),(115,.n .i64 m9)] [[ab.mk 6 [(fR 1 0 0 aq.length aG aF 3 0 0 al.length bq 4 0 0 aI.length)] .live],(av 1 (bb 2 0 2) aq),(b2 2 aY a9),(av 1 eI al),(av 1 el aI)]
def FW (jV:bs)(jC jD ou:Int)(aG:Bool)(aF:List Int)(bq:Int)(aq:List bs)(al:List Int)(aI:List Bool):(List (List bp))→du
 | a=>⟨some 6,[(107,.bm 1 0 0 aq.length),(108,.n .i64 jC),(109,.n .i64 jD)],[[ab.mk 6 [(fR 1 0 0 aq.length aG aF 3 0 0 al.length bq 4 0 0 aI.length)] .live],(av 1 (bb 2 0 2) aq),(b2 2 aY a),(av 1 eI al),(av 1 el aI)]⟩
def wb (jV:bs)(jC jD ou:Int)(aG:Bool)(aF:List Int)(bq:Int)(aq:List bs)(al:List Int)(aI:List Bool)(m9:Int)(a9:List (List bp)):Option ((Int×(List (List bp)))⊕((List (List bp)))) :=
 if (decide (m9<ou))=true then
  jV >>= fun gV =>
  a9[gV.1]? >>= fun j3 =>
  if 0≤m9∧m9<(gV.2:Nat) then
  j3[(0+m9.toNat)]? >>= fun eS =>
  rS eS >>= fun bz =>
  some (.inl (R (m9+(1:Int)),a9.set gV.1 (j3.set (0+m9.toNat) bz)))
  else none
 else
  some (.inr a9)
def CS (jV:bs)(jC jD ou:Int)(aG:Bool)(aF:List Int)(bq:Int)(aq:List bs)(al:List Int)(aI:List Bool)(m9:Int)(a9:List (List bp)):Option ((List (List bp))):=iter (fun w:Int×(List (List bp))=>wb jV jC jD ou aG aF bq aq al aI w.1 w.2) (m9,a9)
theorem TF {jV:bs}{jC jD ou:Int}{aG:Bool}{aF:List Int}{bq:Int}{aq:List bs}{al:List Int}{aI:List Bool}{m9:Int}{a9:List (List bp)}:bB (wb jV jC jD ou aG aF bq aq al aI m9 a9) (dP bc 128 5 103 [1,1,1,1,1,1,1,1,0,0,1,1,0,0,1,1,0,0] (FP jV jC jD ou aG aF bq aq al aI (m9,a9)) (FP jV jC jD ou aG aF bq aq al aI) (FW jV jC jD ou aG aF bq aq al aI)):=by
 unfold wb
 exact .ite (fun h1 =>
  .ar fun gV ae =>
  .ar fun j3 aA =>
  .aZ fun a2 =>
  .ar fun eS bn =>
  .ar fun bz cN =>
  .ret (let q1:=j5 (fJ .live 2 aY a9) ix aA;bj [(J 1),.aa true,(J 2),.az (aj 4 (an (.j8 120 (.bm 2 (gV.1+0) 0 gV.2) (.gj (ab.mk 2 (j3.map aY) .live) [])) (an (.gj (ab.mk 2 (j3.map aY) .live) (aY eS)) (an (bt 1 (.agg (aY bz)) false) (an (.j8 118 (.bm 2 (gV.1+0) 0 gV.2) (.gj (ab.mk 2 (j3.map aY) .live) [])) (an (.gj (ab.mk 2 (j3.map aY) .live) (aY eS)) [])))))),(J 2),.aL [0,1,2,3,4] [.box [.id,.id,.id,.id,.id,.id],.bG (av 1 (bb 2 0 2) aq),.bG (b2 2 aY (a9.set gV.1 (j3.set (0+m9.toNat) bz))),.pure,.pure] (ba [14,107,108,109,114,115])] (.bl h1 (l5 (dD:=2) (c:=0) (sz:=2) ae) q1 a2.1 a2.2 q1 (bX aY bn) (Gv bz cN) (.bl (l5 (dD:=2) (c:=0) (sz:=2) ae) q1 a2.1 a2.2 q1 (bX aY bn) (ex (bP [0,1,2,3,4]) 2 2 0 2 rfl aq) (mn (ca:=(bP [0,1,2,3,4])) (o7 (fJ .live 2 aY a9) gV.1 (qG (cY aY j3) (0+m9.toNat) bz (rfl:(setCells (aY eS) 0 (aY bz))=aY bz))) (lP fb)) (.aE (aK 1 .live aP al) (aK 1 .live eZ aI))))))
  (fun h1 =>
  .ret (bj [(J 1),.aa false,.aL [0,1,2,3,4] [.box [.id,.id,.id,.id,.id,.id],.bG (av 1 (bb 2 0 2) aq),.bG (b2 2 aY a9),.pure,.pure] (ba [107,108,109])] (.dw h1 (ex (bP [0,1,2,3,4]) 2 2 0 2 rfl aq) (dz (bP [0,1,2,3,4]) 2 fb a9) (aK 1 .live aP al) (aK 1 .live eZ aI))))
theorem Ug {jV:bs}{jC jD ou:Int}{aG:Bool}{aF:List Int}{bq:Int}{aq:List bs}{al:List Int}{aI:List Bool}{m9:Int}{a9:List (List bp)}{r} (h:CS jV jC jD ou aG aF bq aq al aI m9 a9=some r):dQ bc 128 5 103 [1,1,1,1,1,1,1,1,0,0,1,1,0,0,1,1,0,0] (FP jV jC jD ou aG aF bq aq al aI) (FW jV jC jD ou aG aF bq aq al aI) (m9,a9) r:=dR (fun _=>TF) h
def FQ (jC:Int)(aG:Bool)(aF:List Int)(bq:Int)(aq:List bs)(al:List Int)(aI:List Bool):(Int×(List (List bp)))→S:=fun (jD,a9)=>dr [(107,.bm 1 0 0 aq.length),(108,.n .i64 jC),(109,.n .i64 jD)] [[ab.mk 6 [(fR 1 0 0 aq.length aG aF 3 0 0 al.length bq 4 0 0 aI.length)] .live],(av 1 (bb 2 0 2) aq),(b2 2 aY a9),(av 1 eI al),(av 1 el aI)]
def FX (jC:Int)(aG:Bool)(aF:List Int)(bq:Int)(aq:List bs)(al:List Int)(aI:List Bool):(List (List bp))→du
 | a=>⟨some 4,[],[[ab.mk 6 [(fR 1 0 0 aq.length aG aF 3 0 0 al.length bq 4 0 0 aI.length)] .live],(av 1 (bb 2 0 2) aq),(b2 2 aY a),(av 1 eI al),(av 1 el aI)]⟩
def wc (jC:Int)(aG:Bool)(aF:List Int)(bq:Int)(aq:List bs)(al:List Int)(aI:List Bool)(jD:Int)(a9:List (List bp)):Option ((Int×(List (List bp)))⊕((List (List bp)))) :=
 if (decide (jD<jC))=true then
  if 0≤jD∧jD<(aq.length:Nat) then
  aq[(0+jD.toNat)]? >>= fun aD =>
  aD >>= fun lI =>
  a9[lI.1]? >>= fun iI =>
  CS aD jC jD ((lI.2:Nat):Int) aG aF bq aq al aI 0 a9 >>= fun bz =>
  some (.inl (R (jD+(1:Int)),bz))
  else none
 else
  some (.inr a9)
def zd (jC:Int)(aG:Bool)(aF:List Int)(bq:Int)(aq:List bs)(al:List Int)(aI:List Bool)(jD:Int)(a9:List (List bp)):Option ((List (List bp))):=iter (fun w:Int×(List (List bp))=>wc jC aG aF bq aq al aI w.1 w.2) (jD,a9)
theorem TG {jC:Int}{aG:Bool}{aF:List Int}{bq:Int}{aq:List bs}{al:List Int}{aI:List Bool}{jD:Int}{a9:List (List bp)}:bB (wc jC aG aF bq aq al aI jD a9) (dP bc 128 5 103 [1,1,1,1,1,1,1,1,0,0] (FQ jC aG aF bq aq al aI (jD,a9)) (FQ jC aG aF bq aq al aI) (FX jC aG aF bq aq al aI)):=by
 unfold wc
 exact .ite (fun h1 =>
  .aZ fun o =>
  .ar fun aD au =>
  .ar fun lI a2 =>
  .ar fun iI bn =>
  .ar fun bz cN =>
  .ret (let q1:=bP [0,1,2,3,4];let a1:=ex q1 2 2 0 2 rfl aq;bj [(J 1),.aa true,.az (br 1 (.b7 ((bb 2 0 2) aD)) 1),.az (br 1 (.j8 113 (.bm 2 (lI.1+0) 0 lI.2) (.gj (ab.mk 2 (iI.map aY) .live) [])) 1),.aL [0,1,2,3,4] [.box [.id,.id,.id,.id,.id,.id],.bG (av 1 (bb 2 0 2) aq),.bG (b2 2 aY a9),.pure,.pure] (ba [14,107,108,109,114,115]),(FW aD jC jD ((lI.2:Nat):Int) aG aF bq aq al aI bz).ff,(J 2),.aL [0,1,2,3,4] [.box [.id,.id,.id,.id,.id,.id],.bG (av 1 (bb 2 0 2) aq),.bG (b2 2 aY bz),.pure,.pure] (ba [107,108,109])] (.bl h1 o.1 o.2 (bX (bb 2 0 2) au) (l5 (dD:=2) (c:=0) (sz:=2) a2) (j5 (fJ .live 2 aY a9) ix bn) a1 (dz q1 2 fb a9) (.eX (aK 1 .live aP al) (aK 1 .live eZ aI) (Ug cN) a1 (dz q1 2 fb bz) (aK 1 .live aP al) (aK 1 .live eZ aI)))))
  (fun h1 =>
  .ret (bj [(J 1),.aa false,.aL [0,1,2,3,4] [.box [.id,.id,.id,.id,.id,.id],.bG (av 1 (bb 2 0 2) aq),.bG (b2 2 aY a9),.pure,.pure] []] (.dw h1 (ex (bP [0,1,2,3,4]) 2 2 0 2 rfl aq) (dz (bP [0,1,2,3,4]) 2 fb a9) (aK 1 .live aP al) (aK 1 .live eZ aI))))
theorem Uh {jC:Int}{aG:Bool}{aF:List Int}{bq:Int}{aq:List bs}{al:List Int}{aI:List Bool}{jD:Int}{a9:List (List bp)}{r} (h:zd jC aG aF bq aq al aI jD a9=some r):dQ bc 128 5 103 [1,1,1,1,1,1,1,1,0,0] (FQ jC aG aF bq aq al aI) (FX jC aG aF bq aq al aI) (jD,a9) r:=dR (fun _=>TG) h
def wV (bV bw:Int)(oN:Bool)(oH:List Int)(jE:Int)(fe:List bs)(lX:List (List bp))(ia:List Int)(ht:List Bool):Option (Bool×(List Int)×(List (List bp))×(List Int)) :=
 if 0≤bV∧bV<(fe.length:Nat) then
 fe[(0+bV.toNat)]? >>= fun d8 =>
 d8 >>= fun jK =>
 lX[jK.1]? >>= fun m3 =>
 if 0≤bw∧bw<(jK.2:Nat) then
 m3[(0+bw.toNat)]? >>= fun ej =>
 CR bV bw d8 ((fe.length:Nat):Int) oN oH jE fe ia ht ej.cR ej.cH 0 lX >>= fun di =>
 if 0≤bV∧bV<(ia.length:Nat) then
 if (0+bV.toNat)<ia.length then
 o0 ej >>= fun gB =>
 if (decide ((0:Int)<gB))=true then
  some (ej.cR,ej.cH,di,ia.set (0+bV.toNat) bw)
 else
  rS ej >>= fun fa =>
  zd ((fe.length:Nat):Int) fa.cR fa.cH jE fe (ia.set (0+bV.toNat) bw) ht 0 di >>= fun jw =>
  some (fa.cR,fa.cH,jw,ia.set (0+bV.toNat) bw)
 else none
 else none
 else none
 else none
theorem M0 {bV bw:Int}{oN:Bool}{oH:List Int}{jE:Int}{fe:List bs}{lX:List (List bp)}{ia:List Int}{ht:List Bool}:bB (wV bV bw oN oH jE fe lX ia ht) (fun a=>Con bc 103 [.ref 0 0 0 0,.n .i64 bV,.n .i64 bw] [[ab.mk 6 [(fR 1 0 0 fe.length oN oH 3 0 0 ia.length jE 4 0 0 ht.length)] .live],(av 1 (bb 2 0 2) fe),(b2 2 aY lX),(av 1 eI ia),(av 1 el ht)] (.d7 []) [[ab.mk 6 [(fR 1 0 0 fe.length a.1 a.2.1 3 0 0 a.2.2.2.length jE 4 0 0 ht.length)] .live],(av 1 (bb 2 0 2) fe),(b2 2 aY a.2.2.1),(av 1 eI a.2.2.2),(av 1 el ht)]):=by
 unfold wV
 exact .aZ fun h1 =>
  .ar fun d8 ae =>
  .ar fun jK aA =>
  .ar fun m3 bd =>
  .aZ fun bn =>
  .ar fun ej cN =>
  .ar fun di e6 =>
  .aZ fun ez =>
  .aZ fun eA =>
  .ar fun gB h4 =>
  (let dh:=j5 (fJ .live 2 aY lX) ix bd;let fI:=bP [0,1,2,3,4,17];let t1:List bY:=[.az (br 6 (.b7 ((bb 2 0 2) d8)) 1),.az (aj 2 (an (.j8 23 (.bm 2 (jK.1+0) 0 jK.2) (.gj (ab.mk 2 (m3.map aY) .live) [])) (an (.gj (ab.mk 2 (m3.map aY) .live) (aY ej)) (aj 2 [])))),(J 6),.aL [0,1,2,3,4,17] [.box [.id,.id,.id,.id,.id,.id],.bG (av 1 (bb 2 0 2) fe),.bG (b2 2 aY lX),.pure,.pure,.box [.id,.id]] (ba [0,1,2,6,7,30,31,32]),(FV bV bw d8 ((fe.length:Nat):Int) oN oH jE fe ia ht ej.cR ej.cH di).ff,(J 5),.az (aj 7 (an .fV [])),.az (br 1 (bt 1 (.n .i64 gB) true) 1)];
  have aQ:=((.bl h1.1 h1.2 (bX (bb 2 0 2) ae) (l5 (dD:=2) (c:=0) (sz:=2) aA) dh bn.1 bn.2 dh (.bl (bX aY cN) (ex fI 2 2 0 2 rfl fe) (dz fI 2 fb lX) (aK 1 .live aP ia) (aK 1 .live eZ ht) (Uf e6) ez.1 ez.2 (.de (hH eI eA) (hx 1) (sR gB h4) (cc.n .i64 gB)))):cz _);
  .ite (fun hD =>
  .ret (lE (t1.append [.aa true]) [0,1,2,3,4] [.bG [ab.mk 6 [(fR 1 0 0 fe.length ej.cR ej.cH 3 0 0 ((ia.set (0+bV.toNat) bw).length) jE 4 0 0 ht.length)] .live],.bG (av 1 (bb 2 0 2) fe),.bG (b2 2 aY di),.cO (av 1 eI (ia.set (0+bV.toNat) bw)),.pure] (aQ.aJ (.eX hD (c5 (show ab.mk 6 [(fR 1 0 0 fe.length ej.cR ej.cH 3 0 0 ((ia.set (0+bV.toNat) bw).length) jE 4 0 0 ht.length)] .live=gG (bP [0,1,2,3,4]) (ab.mk 6 [(fR 1 0 0 fe.length ej.cR ej.cH 3 0 0 ia.length jE 4 0 0 ht.length)] .live) from (congrArg (fun Cx=>ab.mk 6 [(fR 1 0 0 fe.length ej.cR ej.cH 3 0 0 Cx jE 4 0 0 ht.length)] .live) (hX (dO ia) (0+bV.toNat) bw).symm)) o8) (ex (bP [0,1,2,3,4]) 2 2 0 2 rfl fe) (dz (bP [0,1,2,3,4]) 2 fb di) (db 1 .live (gD (cY eI ia) (0+bV.toNat) bw)) (aK 1 .live aP (ia.set (0+bV.toNat) bw)) (aK 1 .live eZ ht)))))
  (fun hD =>
  .ar fun fa gA =>
  .ar fun jw gO =>
  .ret (let q1:=fR 1 0 0 fe.length fa.cR fa.cH 3 0 0 ((ia.set (0+bV.toNat) bw).length) jE 4 0 0 ht.length;let a1:=bP [0,1,2,3,4];let b0:=aK 1 .live aP (ia.set (0+bV.toNat) bw);let ct:=ex a1 2 2 0 2 rfl fe;lE (t1.append [.aa false,.az (br 2 (bt 1 (.agg (aY fa)) false) 3),(J 6),.aL [0,1,2,3,4] [.box [.id,.id,.id,.len ((ia.set (0+bV.toNat) bw).length),.id,.id],.bG (av 1 (bb 2 0 2) fe),.bG (b2 2 aY di),.cO (av 1 eI (ia.set (0+bV.toNat) bw)),.pure] (ba [107,108,109]),(FX ((fe.length:Nat):Int) fa.cR fa.cH jE fe (ia.set (0+bV.toNat) bw) ht jw).ff]) [0,1,2,3,4] [.bG [ab.mk 6 [q1] .live],.bG (av 1 (bb 2 0 2) fe),.bG (b2 2 aY jw),.pure,.pure] (aQ.aJ (.bl hD (Gv fa gA) (hX (dO ia) (0+bV.toNat) bw) ct (dz a1 2 fb di) (db 1 .live (gD (cY eI ia) (0+bV.toNat) bw)) b0 (aK 1 .live eZ ht) (.d9 (Uh gO) (qw a1 6 [q1] [q1] rfl) ct (dz a1 2 fb jw) b0 (aK 1 .live eZ ht)))))))
def FA (b4:Int)(aG:Bool)(aF:List Int)(aq:List bs)(a9:List (List bp))(al:List Int)(aI:List Bool)(bH:List Int):Int→S:=fun cn=>dr [(0,.ref 0 0 0 0),(1,.bm 5 0 0 bH.length),(5,.b false),(13,.n .i64 b4),(14,.n .i64 cn)] [[ab.mk 6 [(fR 1 0 0 aq.length aG aF 3 0 0 al.length b4 4 0 0 aI.length)] .live],(av 1 (bb 2 0 2) aq),(b2 2 aY a9),(av 1 eI al),(av 1 el aI),(av 1 eI bH)]
def CH (b4:Int)(aG:Bool)(aF:List Int)(aq:List bs)(a9:List (List bp))(al:List Int)(aI:List Bool)(bH:List Int):((Bool×Bool×(List Int)×(List (List bp))×(List Int))⊕(Unit))→du
 | .inl a=>⟨some 2,[(0,.ref 0 0 0 0),(1,.bm 5 0 0 bH.length),(5,.b a.1)],[[ab.mk 6 [(fR 1 0 0 aq.length a.2.1 a.2.2.1 3 0 0 a.2.2.2.2.length b4 4 0 0 aI.length)] .live],(av 1 (bb 2 0 2) aq),(b2 2 aY a.2.2.2.1),(av 1 eI a.2.2.2.2),(av 1 el aI),(av 1 eI bH)]⟩
 | .inr a=>⟨none,[(4,.b false)],[[ab.mk 6 [(fR 1 0 0 aq.length aG aF 3 0 0 al.length b4 4 0 0 aI.length)] .live],(av 1 (bb 2 0 2) aq),(b2 2 aY a9),(av 1 eI al),(av 1 el aI),(av 1 eI bH)]⟩
def vZ (b4:Int)(aG:Bool)(aF:List Int)(aq:List bs)(a9:List (List bp))(al:List Int)(aI:List Bool)(bH:List Int)(cn:Int):Option ((Int)⊕((Bool×Bool×(List Int)×(List (List bp))×(List Int))⊕(Unit))) :=
 if (decide (cn<b4))=true then
  if 0≤cn∧cn<(aI.length:Nat) then
  aI[(0+cn.toNat)]? >>= fun aD =>
  if aD=true then
   xI al cn >>= fun ck =>
   if ck=true then
    some (.inl (R (cn+(1:Int))))
   else
    if aq.all (oR a9)=true then
    xj (⟨aq.map (gz a9),(⟨aG,aF⟩:bp),al,b4,aI⟩:qE) bH cn >>= fun ek =>
    if (decide (ek≤(0:Int)))=true then
     some (.inl (R (cn+(1:Int))))
    else
     zk (⟨aq.map (gz a9),(⟨aG,aF⟩:bp),al,b4,aI⟩:qE) cn >>= fun eB =>
     if (decide (eB<(0:Int)))=true then
      some (.inr (.inr ()))
     else
      wV eB cn aG aF b4 aq a9 al aI >>= fun ef =>
      some (.inr (.inl (true,ef.1,ef.2.1,ef.2.2.1,ef.2.2.2)))
    else none
  else
   some (.inl (R (cn+(1:Int))))
  else none
 else
  some (.inr (.inl (false,aG,aF,a9,al)))
def wg (b4:Int)(aG:Bool)(aF:List Int)(aq:List bs)(a9:List (List bp))(al:List Int)(aI:List Bool)(bH:List Int)(cn:Int):Option ((Bool×Bool×(List Int)×(List (List bp))×(List Int))⊕(Unit)):=iter (fun w:Int=>vZ b4 aG aF aq a9 al aI bH w) cn
theorem To {b4:Int}{aG:Bool}{aF:List Int}{aq:List bs}{a9:List (List bp)}{al:List Int}{aI:List Bool}{bH:List Int}{cn:Int}:bB (vZ b4 aG aF aq a9 al aI bH cn) (dP bc 87 6 79 [1,0,1,0,0,1,0,1,1,0,0] (FA b4 aG aF aq a9 al aI bH cn) (FA b4 aG aF aq a9 al aI bH) (CH b4 aG aF aq a9 al aI bH)):=by
 unfold vZ
 exact .ite (fun h1 =>
  .aZ fun o =>
  .ar fun aD au =>
  (let t1:List bY:=[(J 1),.aa true,(J 2)];
  .ite (fun aA =>
  .ar fun ck bd =>
  (have aQ:=((.bl h1 o.1 o.2 (bX el au) (c1 aA) (c1 aA) (c1 aA) (c1 aA) (.gU (c1 aA) (c1 aA) (gQ eI al) (fY eI al) (dX aP al) (Od ck bd) (cc.b ck) (c1 aA))):cz _);
  .ite (fun bn =>
  .ret (let q1:=bP [0,1,2,3,4,5];bj (t1.append [.az (aj 6 (an (.b7 (el aD)) (aj 7 (an (.call {ac:=[.bx (.dM (.e7 (al.map eI))),ii],r:= .b ck,fP:=true,fU:=[3]}) (an (.aa false) (aj 1 (cD 5 (an (.aa true) [])))))))),.aa true,(J 2),.aL [0,1,2,3,4,5] [.box [.id,.id,.id,.id,.id,.id],.bG (av 1 (bb 2 0 2) aq),.bG (b2 2 aY a9),.pure,.pure,.pure] (ba [0,1,5,13,14])]) (aQ.aJ (.bl bn bn bn bn bn bn cJ (ex q1 2 2 0 2 rfl aq) (.de (dz q1 2 fb a9) (aK 1 .live aP al) (aK 1 .live eZ aI) (aK 1 .live aP bH))))))
  (fun bn =>
  .aZ fun cy =>
  .ar fun ek eW =>
  (let t3:List bY:=t1.append [.az (aj 6 (an (.b7 (el aD)) (aj 7 (an (.call {ac:=[.bx (.dM (.e7 (al.map eI))),ii],r:= .b ck,fP:=true,fU:=[3]}) (an (.aa false) (aj 4 (an (.call {ac:=[.bx (.ptr [.view 2 (ab.mk 1 (aq.map (bb 2 0 2)) .live) ((aq.map (gz a9)).map (eL 2 aY)),.id,.id,.e7 (al.map eI),.id,.e7 (aI.map el)]),.bx (.dM (.e7 (bH.map eI))),ii],r:= .n .i64 ek,fP:=true,fU:=[0,1,2,3,4,5]}) (aj 1 (an (.aa false) [])))))))))];
  have eR:=aQ.aJ (.bl bn bn bn bn (rfl:dg (some (av 1 (bb 2 0 2) aq)) 0=some (ab.mk 1 (aq.map (bb 2 0 2)) .live)) (rfl:_=true) (fY (bb 2 0 2) aq) (dX (l4 (sz:=2) rY) (aq.map (gz a9))) (.bl (qO (dD:=2) (iA:=[]++(b2 2 aY a9)) (bW:=ja) (sz:=1) (g:=(eL 2 aY)) (cY (bb 2 0 2) aq) (fun _=>rfl) (fun x U=>(rM (dD:=2) (c:=0) (bW:=ja) (oz:=[]) (fJ .live 2 aY a9) rY rfl ix rfl (rC cy x U))) (dO aq)) (gQ eI al) (fY eI al) (dX aP al) (gQ el aI) (fY el aI) (dX eZ aI) (qF (I6 (⟨aq.map (gz a9),(⟨aG,aF⟩:bp),al,b4,aI⟩:qE)):jM [[.isl 1 ((aq.map (gz a9)).map (eL 2 aY)),.b aG,.isl 1 (aF.map eI),.isl 1 (al.map eI),.n .i64 b4,.isl 1 (aI.map el)]]) (.eX (gQ eI bH) (fY eI bH) (dX aP bH) (Nd ek eW) (cc.n .i64 ek) bn bn)));
  .ite (fun e6 =>
  .ret (let a1:=bP [0,1,2,3,4,5];bj (t3.append [.aa true,(J 2),.aL [0,1,2,3,4,5] [.box [.id,.id,.id,.id,.id,.id],.bG (av 1 (bb 2 0 2) aq),.bG (b2 2 aY a9),.pure,.pure,.pure] (ba [0,1,5,13,14])]) (eR.aJ (.d9 e6 (ex a1 2 2 0 2 rfl aq) (dz a1 2 fb a9) (aK 1 .live aP al) (aK 1 .live eZ aI) (aK 1 .live aP bH)))))
  (fun e6 =>
  .ar fun eB eA =>
  (let t5:List bY:=t3.append [.aa false,.az (br 2 (.call {ac:=[.bx (.ptr [.view 2 (ab.mk 1 (aq.map (bb 2 0 2)) .live) ((aq.map (gz a9)).map (eL 2 aY)),.id,.id,.e7 (al.map eI),.id,.e7 (aI.map el)]),ii],r:= .n .i64 eB,fP:=true,fU:=[0,1,2,3,4]}) 1),(J 2)];
  have kK:=eR.aJ (.bl e6 (rfl:dg (some (av 1 (bb 2 0 2) aq)) 0=some (ab.mk 1 (aq.map (bb 2 0 2)) .live)) (rfl:_=true) (fY (bb 2 0 2) aq) (dX (l4 (sz:=2) rY) (aq.map (gz a9))) (qO (dD:=2) (iA:=[]++(b2 2 aY a9)) (bW:=ja) (sz:=1) (g:=(eL 2 aY)) (cY (bb 2 0 2) aq) (fun _=>rfl) (fun x U=>(rM (dD:=2) (c:=0) (bW:=ja) (oz:=[]) (fJ .live 2 aY a9) rY rfl ix rfl (rC cy x U))) (dO aq)) (gQ eI al) (fY eI al) (.eX (dX aP al) (gQ el aI) (fY el aI) (dX eZ aI) (qF (I6 (⟨aq.map (gz a9),(⟨aG,aF⟩:bp),al,b4,aI⟩:qE)):jM [[.isl 1 ((aq.map (gz a9)).map (eL 2 aY)),.b aG,.isl 1 (aF.map eI),.isl 1 (al.map eI),.n .i64 b4,.isl 1 (aI.map el)]]) (UQ eB eA) (cc.n .i64 eB)));
  .ite (fun fW =>
  .ret (let b0:=bP [0,1,2,3,4,5];bj (t5.append [.aa true,(J 1),.aL [0,1,2,3,4,5] [.box [.id,.id,.id,.id,.id,.id],.bG (av 1 (bb 2 0 2) aq),.bG (b2 2 aY a9),.pure,.pure,.pure] (ba [4])]) (kK.aJ (.d9 fW (ex b0 2 2 0 2 rfl aq) (dz b0 2 fb a9) (aK 1 .live aP al) (aK 1 .live eZ aI) (aK 1 .live aP bH)))))
  (fun fW =>
  .ar fun ef hD =>
  .ret (let ct:=fR 1 0 0 aq.length ef.1 ef.2.1 3 0 0 ef.2.2.2.length b4 4 0 0 aI.length;let dh:=fR 1 0 0 aq.length aG aF 3 0 0 al.length b4 4 0 0 aI.length;let fI:=av 1 (bb 2 0 2) aq;let hR:=b2 2 aY ef.2.2.1;let fp:=pn [0,1,2,3,4];let jh:=iF [0,1,2,3,4];let lF:=po 1 (aq.map (bb 2 0 2));let i2:=bP [0,1,2,3,4,5];bj (t5.append [.aa false,.az (aj 3 (an (.call {a0:=(vf [0,1,2,3,4]),dv:=[.bG [ab.mk 6 [dh] .live],.bG fI,.bG (b2 2 aY a9),.pure,.pure],ac:=[ii,ii,ii],r:= .d7 [],fy:=[[ab.mk 6 [ct] .live],fI,hR,(av 1 eI ef.2.2.2),(av 1 el aI)],ib:=ii,kj:=[.bG [ab.mk 6 [ct] .live],.bG fI,.bG hR,.pure,.pure],fU:=[0,1,2,3,4],fP:=false}) [])),(J 1),.aL [0,1,2,3,4,5] [.box [.id,.id,.id,.id,.id,.id],.bG fI,.bG hR,.pure,.pure,.pure] (ba [0,1,5])]) (kK.aJ (.bl fW (qw fp 6 [dh] [dh] rfl) (po 6 [dh]) (ex fp 2 2 0 2 rfl aq) lF (dz fp 2 fb a9) (tJ 2 aY a9) (iU 1 aP al) (.bl (iU 1 eZ aI) (qw jh 6 [ct] [ct] rfl) (po 6 [ct]) (ex jh 2 2 0 2 rfl aq) lF (dz jh 2 fb ef.2.2.1) (tJ 2 aY ef.2.2.1) (iU 1 aP ef.2.2.2) (.eX (iU 1 eZ aI) (M0 ef hD) (ex i2 2 2 0 2 rfl aq) (dz i2 2 fb ef.2.2.1) (aK 1 .live aP ef.2.2.2) (aK 1 .live eZ aI) (aK 1 .live aP bH)))))))))))))
  (fun aA =>
  .ret (let pH:=bP [0,1,2,3,4,5];bj (t1.append [.az (aj 6 (an (.b7 (el aD)) (aj 2 (cD 6 (an (.aa true) (aj 1 (cD 5 (aj 1 [])))))))),.aa true,(J 2),.aL [0,1,2,3,4,5] [.box [.id,.id,.id,.id,.id,.id],.bG (av 1 (bb 2 0 2) aq),.bG (b2 2 aY a9),.pure,.pure,.pure] (ba [0,1,5,13,14])]) (.bl h1 o.1 o.2 (bX el au) (cW aA) (cW aA) (cW aA) (cW aA) (.bl (cW aA) (cW aA) (cW aA) cJ cJ cJ cJ cJ (.d9 cJ (ex pH 2 2 0 2 rfl aq) (dz pH 2 fb a9) (aK 1 .live aP al) (aK 1 .live eZ aI) (aK 1 .live aP bH))))))))
  (fun h1 =>
  .ret (let ms:=bP [0,1,2,3,4,5];bj [(J 1),.aa false,.aL [0,1,2,3,4,5] [.box [.id,.id,.id,.id,.id,.id],.bG (av 1 (bb 2 0 2) aq),.bG (b2 2 aY a9),.pure,.pure,.pure] (ba [0,1,5])] (.d9 h1 (ex ms 2 2 0 2 rfl aq) (dz ms 2 fb a9) (aK 1 .live aP al) (aK 1 .live eZ aI) (aK 1 .live aP bH))))
theorem MP {b4:Int}{aG:Bool}{aF:List Int}{aq:List bs}{a9:List (List bp)}{al:List Int}{aI:List Bool}{bH:List Int}{cn:Int}{r} (h:wg b4 aG aF aq a9 al aI bH cn=some r):dQ bc 87 6 79 [1,0,1,0,0,1,0,1,1,0,0] (FA b4 aG aF aq a9 al aI bH) (CH b4 aG aF aq a9 al aI bH) cn r:=dR (fun _=>To) h
def FB (bq:Int)(aq:List bs)(aI:List Bool)(bH:List Int):(Bool×Bool×(List Int)×(List (List bp))×(List Int))→S:=fun (qK,aG,aF,a9,al)=>dr [(0,.ref 0 0 0 0),(1,.bm 5 0 0 bH.length),(5,.b qK)] [[ab.mk 6 [(fR 1 0 0 aq.length aG aF 3 0 0 al.length bq 4 0 0 aI.length)] .live],(av 1 (bb 2 0 2) aq),(b2 2 aY a9),(av 1 eI al),(av 1 el aI),(av 1 eI bH)]
def CI (bq:Int)(aq:List bs)(aI:List Bool)(bH:List Int):((Bool×(List Int)×(List (List bp))×(List Int))⊕(Bool×(List Int)×(List (List bp))×(List Int)))→du
 | .inl a=>⟨some 0,[(0,.ref 0 0 0 0),(1,.bm 5 0 0 bH.length)],[[ab.mk 6 [(fR 1 0 0 aq.length a.1 a.2.1 3 0 0 a.2.2.2.length bq 4 0 0 aI.length)] .live],(av 1 (bb 2 0 2) aq),(b2 2 aY a.2.2.1),(av 1 eI a.2.2.2),(av 1 el aI),(av 1 eI bH)]⟩
 | .inr a=>⟨none,[(4,.b false)],[[ab.mk 6 [(fR 1 0 0 aq.length a.1 a.2.1 3 0 0 a.2.2.2.length bq 4 0 0 aI.length)] .live],(av 1 (bb 2 0 2) aq),(b2 2 aY a.2.2.1),(av 1 eI a.2.2.2),(av 1 el aI),(av 1 eI bH)]⟩
def tO (bq:Int)(aq:List bs)(aI:List Bool)(bH:List Int)(qK aG:Bool)(aF:List Int)(a9:List (List bp))(al:List Int):Option ((Bool×Bool×(List Int)×(List (List bp))×(List Int))⊕((Bool×(List Int)×(List (List bp))×(List Int))⊕(Bool×(List Int)×(List (List bp))×(List Int)))) :=
 if qK=true then
  wg bq aG aF aq a9 al aI bH 0 >>= fun b5 =>
  match b5 with
  | .inl fh=>(some (.inl (fh.1,fh.2.1,fh.2.2.1,fh.2.2.2.1,fh.2.2.2.2)))
  | .inr fh=>(some (.inr (.inr (aG,aF,a9,al))))
 else
  some (.inr (.inl (aG,aF,a9,al)))
def CM (bq:Int)(aq:List bs)(aI:List Bool)(bH:List Int)(qK aG:Bool)(aF:List Int)(a9:List (List bp))(al:List Int):Option ((Bool×(List Int)×(List (List bp))×(List Int))⊕(Bool×(List Int)×(List (List bp))×(List Int))):=iter (fun w:Bool×Bool×(List Int)×(List (List bp))×(List Int)=>tO bq aq aI bH w.1 w.2.1 w.2.2.1 w.2.2.2.1 w.2.2.2.2) (qK,aG,aF,a9,al)
theorem Tp {bq:Int}{aq:List bs}{aI:List Bool}{bH:List Int}{qK aG:Bool}{aF:List Int}{a9:List (List bp)}{al:List Int}:bB (tO bq aq aI bH qK aG aF a9 al) (dP bc 87 6 79 [1,0,1,0,0] (FB bq aq aI bH (qK,aG,aF,a9,al)) (FB bq aq aI bH) (CI bq aq aI bH)):=by
 unfold tO
 exact .ite (fun h1 =>
  .ar fun b5 ae =>
  (let ct:=bP [0,1,2,3,4,5];let t1:List bY:=[(J 1),.aa true,(J 1),(J 5),.aL [0,1,2,3,4,5] [.box [.id,.id,.id,.id,.id,.id],.bG (av 1 (bb 2 0 2) aq),.bG (b2 2 aY a9),.pure,.pure,.pure] (ba [0,1,5,13,14])];
  have aQ:=((.d9 h1 (ex ct 2 2 0 2 rfl aq) (dz ct 2 fb a9) (aK 1 .live aP al) (aK 1 .live eZ aI) (aK 1 .live aP bH)):cz _);
  (by
  rcases b5 with fh|fh
  ·exact (.ret (let q1:=bP [0,1,2,3,4,5];bj (t1.append [(CH bq aG aF aq a9 al aI bH (.inl fh)).ff,.aL [0,1,2,3,4,5] [.box [.id,.id,.id,.id,.id,.id],.bG (av 1 (bb 2 0 2) aq),.bG (b2 2 aY fh.2.2.2.1),.pure,.pure,.pure] (ba [0,1,5])]) (aQ.aJ (.d9 (MP ae) (ex q1 2 2 0 2 rfl aq) (dz q1 2 fb fh.2.2.2.1) (aK 1 .live aP fh.2.2.2.2) (aK 1 .live eZ aI) (aK 1 .live aP bH)))))
  ·exact (.ret (let a1:=bP [0,1,2,3,4,5];bj (t1.append [(CH bq aG aF aq a9 al aI bH (.inr fh)).ff,.aL [0,1,2,3,4,5] [.box [.id,.id,.id,.id,.id,.id],.bG (av 1 (bb 2 0 2) aq),.bG (b2 2 aY a9),.pure,.pure,.pure] (ba [4])]) (aQ.aJ (.d9 (MP ae) (ex a1 2 2 0 2 rfl aq) (dz a1 2 fb a9) (aK 1 .live aP al) (aK 1 .live eZ aI) (aK 1 .live aP bH))))))))
  (fun h1 =>
  .ret (let b0:=bP [0,1,2,3,4,5];bj [(J 1),.aa false,.aL [0,1,2,3,4,5] [.box [.id,.id,.id,.id,.id,.id],.bG (av 1 (bb 2 0 2) aq),.bG (b2 2 aY a9),.pure,.pure,.pure] (ba [0,1])] (.d9 h1 (ex b0 2 2 0 2 rfl aq) (dz b0 2 fb a9) (aK 1 .live aP al) (aK 1 .live eZ aI) (aK 1 .live aP bH))))
theorem MQ {bq:Int}{aq:List bs}{aI:List Bool}{bH:List Int}{qK aG:Bool}{aF:List Int}{a9:List (List bp)}{al:List Int}{r} (h:CM bq aq aI bH qK aG aF a9 al=some r):dQ bc 87 6 79 [1,0,1,0,0] (FB bq aq aI bH) (CI bq aq aI bH) (qK,aG,aF,a9,al) r:=dR (fun _=>Tp) h
def FC (ed:Int)(aG:Bool)(aF:List Int)(aq:List bs)(a9:List (List bp))(al bH:List Int):(Int×(List Bool))→S:=fun (fk,aI)=>dr [(0,.ref 0 0 0 0),(1,.bm 5 0 0 bH.length),(53,.n .i64 ed),(54,.n .i64 fk)] [[ab.mk 6 [(fR 1 0 0 aq.length aG aF 3 0 0 al.length ed 4 0 0 aI.length)] .live],(av 1 (bb 2 0 2) aq),(b2 2 aY a9),(av 1 eI al),(av 1 el aI),(av 1 eI bH)]
def FI (ed:Int)(aG:Bool)(aF:List Int)(aq:List bs)(a9:List (List bp))(al bH:List Int):(List Bool)→du
 | a=>⟨some 4,[],[[ab.mk 6 [(fR 1 0 0 aq.length aG aF 3 0 0 al.length ed 4 0 0 a.length)] .live],(av 1 (bb 2 0 2) aq),(b2 2 aY a9),(av 1 eI al),(av 1 el a),(av 1 eI bH)]⟩
def v5 (ed:Int)(aG:Bool)(aF:List Int)(aq:List bs)(a9:List (List bp))(al bH:List Int)(fk:Int)(aI:List Bool):Option ((Int×(List Bool))⊕((List Bool))) :=
 if (decide (fk<ed))=true then
  if 0≤fk∧fk<(aI.length:Nat) then
  aI[(0+fk.toNat)]? >>= fun aD =>
  if aD=true then
   xI al fk >>= fun ck =>
   if ck=true then
    some (.inl (R (fk+(1:Int)),aI))
   else
    if aq.all (oR a9)=true then
    xj (⟨aq.map (gz a9),(⟨aG,aF⟩:bp),al,ed,aI⟩:qE) bH fk >>= fun ek =>
    if (decide (ek<(0:Int)))=true then
     if (0+fk.toNat)<aI.length then
     some (.inl (R (fk+(1:Int)),aI.set (0+fk.toNat) false))
     else none
    else
     some (.inl (R (fk+(1:Int)),aI))
    else none
  else
   some (.inl (R (fk+(1:Int)),aI))
  else none
 else
  some (.inr aI)
def CN (ed:Int)(aG:Bool)(aF:List Int)(aq:List bs)(a9:List (List bp))(al bH:List Int)(fk:Int)(aI:List Bool):Option ((List Bool)):=iter (fun w:Int×(List Bool)=>v5 ed aG aF aq a9 al bH w.1 w.2) (fk,aI)
theorem Tq {ed:Int}{aG:Bool}{aF:List Int}{aq:List bs}{a9:List (List bp)}{al bH:List Int}{fk:Int}{aI:List Bool}:bB (v5 ed aG aF aq a9 al bH fk aI) (dP bc 87 6 79 [1,1,0,1,0,0] (FC ed aG aF aq a9 al bH (fk,aI)) (FC ed aG aF aq a9 al bH) (FI ed aG aF aq a9 al bH)):=by
 unfold v5
 exact .ite (fun h1 =>
  .aZ fun o =>
  .ar fun aD au =>
  (let t1:List bY:=[(J 1),.aa true,(J 2)];
  .ite (fun aA =>
  .ar fun ck bd =>
  (have aQ:=((.bl h1 o.1 o.2 (bX el au) aA aA aA aA (.bl aA aA (gQ eI al) (fY eI al) (dX aP al) (Od ck bd) (cc.b ck) aA (.e1 aA))):cz _);
  .ite (fun bn =>
  .ret (let q1:=bP [0,1,2,3,4,5];bj (t1.append [.az (aj 6 (an (.b7 (el aD)) (aj 6 (an (.call {ac:=[.bx (.dM (.e7 (al.map eI))),ii],r:= .b ck,fP:=true,fU:=[3]}) (aj 1 (an (.aa true) (aj 1 (cD 5 (an (.aa false) []))))))))),.aa false,(J 2),.aL [0,1,2,3,4,5] [.box [.id,.id,.id,.id,.id,.id],.bG (av 1 (bb 2 0 2) aq),.bG (b2 2 aY a9),.pure,.pure,.pure] (ba [0,1,53,54])]) (aQ.aJ (.bl (c1 bn) (c1 bn) (c1 bn) (c1 bn) (c1 bn) (c1 bn) c6 (ex q1 2 2 0 2 rfl aq) (.de (dz q1 2 fb a9) (aK 1 .live aP al) (aK 1 .live eZ aI) (aK 1 .live aP bH))))))
  (fun bn =>
  .aZ fun cy =>
  .ar fun ek eW =>
  (let t3:List bY:=t1.append [.az (aj 6 (an (.b7 (el aD)) (aj 6 (an (.call {ac:=[.bx (.dM (.e7 (al.map eI))),ii],r:= .b ck,fP:=true,fU:=[3]}) (aj 1 (an (.aa true) (aj 4 (an (.call {ac:=[.bx (.ptr [.view 2 (ab.mk 1 (aq.map (bb 2 0 2)) .live) ((aq.map (gz a9)).map (eL 2 aY)),.id,.id,.e7 (al.map eI),.id,.e7 (aI.map el)]),.bx (.dM (.e7 (bH.map eI))),ii],r:= .n .i64 ek,fP:=true,fU:=[0,1,2,3,4,5]}) (aj 1 (an (.aa true) []))))))))))];
  have eR:=aQ.aJ (.bl (cW bn) (cW bn) (cW bn) (cW bn) (rfl:dg (some (av 1 (bb 2 0 2) aq)) 0=some (ab.mk 1 (aq.map (bb 2 0 2)) .live)) (rfl:_=true) (fY (bb 2 0 2) aq) (dX (l4 (sz:=2) rY) (aq.map (gz a9))) (.bl (qO (dD:=2) (iA:=[]++(b2 2 aY a9)) (bW:=ja) (sz:=1) (g:=(eL 2 aY)) (cY (bb 2 0 2) aq) (fun _=>rfl) (fun x U=>(rM (dD:=2) (c:=0) (bW:=ja) (oz:=[]) (fJ .live 2 aY a9) rY rfl ix rfl (rC cy x U))) (dO aq)) (gQ eI al) (fY eI al) (dX aP al) (gQ el aI) (fY el aI) (dX eZ aI) (qF (I6 (⟨aq.map (gz a9),(⟨aG,aF⟩:bp),al,ed,aI⟩:qE)):jM [[.isl 1 ((aq.map (gz a9)).map (eL 2 aY)),.b aG,.isl 1 (aF.map eI),.isl 1 (al.map eI),.n .i64 ed,.isl 1 (aI.map el)]]) (.eX (gQ eI bH) (fY eI bH) (dX aP bH) (Nd ek eW) (cc.n .i64 ek) (cW bn) (cW bn))));
  .ite (fun e6 =>
  .aZ fun ez =>
  .ret (let a1:=bP [0,1,2,3,4,5];bj (t3.append [.aa true,.az (aj 6 (an .fV [])),(J 2),.aL [0,1,2,3,4,5] [.box [.id,.id,.id,.id,.id,.len ((aI.set (0+fk.toNat) false).length)],.bG (av 1 (bb 2 0 2) aq),.bG (b2 2 aY a9),.pure,.cO (av 1 el (aI.set (0+fk.toNat) false)),.pure] (ba [0,1,53,54])]) (eR.aJ (.bl e6 o.1 o.2 (hH el ez) (hx 1) (hX (dO aI) (0+fk.toNat) false) (ex a1 2 2 0 2 rfl aq) (dz a1 2 fb a9) (.de (aK 1 .live aP al) (db 1 .live (gD (cY el aI) (0+fk.toNat) false)) (aK 1 .live eZ (aI.set (0+fk.toNat) false)) (aK 1 .live aP bH))))))
  (fun e6 =>
  .ret (let b0:=bP [0,1,2,3,4,5];bj (t3.append [.aa false,(J 2),.aL [0,1,2,3,4,5] [.box [.id,.id,.id,.id,.id,.id],.bG (av 1 (bb 2 0 2) aq),.bG (b2 2 aY a9),.pure,.pure,.pure] (ba [0,1,53,54])]) (eR.aJ (.d9 e6 (ex b0 2 2 0 2 rfl aq) (dz b0 2 fb a9) (aK 1 .live aP al) (aK 1 .live eZ aI) (aK 1 .live aP bH)))))))))
  (fun aA =>
  .ret (let ct:=bP [0,1,2,3,4,5];bj (t1.append [.az (aj 6 (an (.b7 (el aD)) (aj 1 (cD 7 (an (.aa false) (aj 1 (cD 5 (aj 1 [])))))))),.aa false,(J 2),.aL [0,1,2,3,4,5] [.box [.id,.id,.id,.id,.id,.id],.bG (av 1 (bb 2 0 2) aq),.bG (b2 2 aY a9),.pure,.pure,.pure] (ba [0,1,53,54])]) (.bl h1 o.1 o.2 (bX el au) aA aA aA aA (.bl aA aA aA aA c6 c6 c6 c6 (.eX c6 c6 (ex ct 2 2 0 2 rfl aq) (dz ct 2 fb a9) (aK 1 .live aP al) (aK 1 .live eZ aI) (aK 1 .live aP bH))))))))
  (fun h1 =>
  .ret (let dh:=bP [0,1,2,3,4,5];bj [(J 1),.aa false,.aL [0,1,2,3,4,5] [.box [.id,.id,.id,.id,.id,.id],.bG (av 1 (bb 2 0 2) aq),.bG (b2 2 aY a9),.pure,.pure,.pure] []] (.d9 h1 (ex dh 2 2 0 2 rfl aq) (dz dh 2 fb a9) (aK 1 .live aP al) (aK 1 .live eZ aI) (aK 1 .live aP bH))))
theorem TM {ed:Int}{aG:Bool}{aF:List Int}{aq:List bs}{a9:List (List bp)}{al bH:List Int}{fk:Int}{aI:List Bool}{r} (h:CN ed aG aF aq a9 al bH fk aI=some r):dQ bc 87 6 79 [1,1,0,1,0,0] (FC ed aG aF aq a9 al bH) (FI ed aG aF aq a9 al bH) (fk,aI) r:=dR (fun _=>Tq) h
def wE (oN:Bool)(oH:List Int)(jE:Int)(fe:List bs)(lX:List (List bp))(ia:List Int)(ht:List Bool)(pg:List Int):Option (Bool×Bool×(List Int)×(List (List bp))×(List Int)×(List Bool)) :=
 CM jE fe ht pg true oN oH lX ia >>= fun r1 =>
 match r1 with
 | .inl dp=>(CN jE dp.1 dp.2.1 fe dp.2.2.1 dp.2.2.2 pg 0 ht >>= fun bg =>
  some (true,dp.1,dp.2.1,dp.2.2.1,dp.2.2.2,bg))
 | .inr dp=>(some (false,dp.1,dp.2.1,dp.2.2.1,dp.2.2.2,ht))
theorem Ui {oN:Bool}{oH:List Int}{jE:Int}{fe:List bs}{lX:List (List bp)}{ia:List Int}{ht:List Bool}{pg:List Int}:bB (wE oN oH jE fe lX ia ht pg) (fun a=>Con bc 79 [.ref 0 0 0 0,.bm 5 0 0 pg.length] [[ab.mk 6 [(fR 1 0 0 fe.length oN oH 3 0 0 ia.length jE 4 0 0 ht.length)] .live],(av 1 (bb 2 0 2) fe),(b2 2 aY lX),(av 1 eI ia),(av 1 el ht),(av 1 eI pg)] (.b a.1) [[ab.mk 6 [(fR 1 0 0 fe.length a.2.1 a.2.2.1 3 0 0 a.2.2.2.2.1.length jE 4 0 0 a.2.2.2.2.2.length)] .live],(av 1 (bb 2 0 2) fe),(b2 2 aY a.2.2.2.1),(av 1 eI a.2.2.2.2.1),(av 1 el a.2.2.2.2.2),(av 1 eI pg)]):=by
 unfold wE
 exact .ar fun r1 o =>
  (let jh:=bP [0,1,2,3,4,5];let t1:List bY:=[(J 1),(J 1),.aL [0,1,2,3,4,5] [.box [.id,.id,.id,.id,.id,.id],.bG (av 1 (bb 2 0 2) fe),.bG (b2 2 aY lX),.pure,.pure,.pure] (ba [0,1,5])];
  have aQ:=((.dw (ex jh 2 2 0 2 rfl fe) (dz jh 2 fb lX) (aK 1 .live aP ia) (aK 1 .live eZ ht) (aK 1 .live aP pg)):cz _);
  (by
  rcases r1 with dp|dp
  ·exact (.ar fun bg aA =>
  .ret (let q1:=fR 1 0 0 fe.length dp.1 dp.2.1 3 0 0 dp.2.2.2.length jE 4 0 0 bg.length;let a1:=bP [0,1,2,3,4,5];let b0:=aK 1 .live aP dp.2.2.2;let ct:=dz a1 2 fb dp.2.2.1;let dh:=b2 2 aY dp.2.2.1;let fI:=ex a1 2 2 0 2 rfl fe;lE (t1.append [(CI jE fe ht pg (.inl dp)).ff,(J 5),.aL [0,1,2,3,4,5] [.box [.id,.id,.id,.id,.id,.id],.bG (av 1 (bb 2 0 2) fe),.bG dh,.pure,.pure,.pure] (ba [0,1,53,54]),(FI jE dp.1 dp.2.1 fe dp.2.2.1 dp.2.2.2 pg bg).ff,(J 1)]) [0,1,2,3,4,5] [.bG [ab.mk 6 [q1] .live],.bG (av 1 (bb 2 0 2) fe),.bG dh,.pure,.pure,.pure] (aQ.aJ (.bl (MQ o) fI ct b0 (aK 1 .live eZ ht) (aK 1 .live aP pg) (TM aA) (qw a1 6 [q1] [q1] rfl) (.dw fI ct b0 (aK 1 .live eZ bg) (aK 1 .live aP pg))))))
  ·exact (.ret (let hR:=fR 1 0 0 fe.length dp.1 dp.2.1 3 0 0 dp.2.2.2.length jE 4 0 0 ht.length;let fp:=bP [0,1,2,3,4,5];lE (t1.append [(CI jE fe ht pg (.inr dp)).ff]) [0,1,2,3,4,5] [.bG [ab.mk 6 [hR] .live],.bG (av 1 (bb 2 0 2) fe),.bG (b2 2 aY dp.2.2.1),.pure,.pure,.pure] (aQ.aJ (.eX (MQ o) (qw fp 6 [hR] [hR] rfl) (ex fp 2 2 0 2 rfl fe) (dz fp 2 fb dp.2.2.1) (aK 1 .live aP dp.2.2.2) (aK 1 .live eZ ht) (aK 1 .live aP pg)))))))
def FR (hY ag:Int)(aG:Bool)(aF:List Int)(bq:Int)(aq:List bs)(a9:List (List bp))(al:List Int)(aI:List Bool):Int→S:=fun bw=>dr [(0,.ref 0 0 0 0),(1,.n .i64 hY),(4,.n .i64 ag),(5,.n .i64 bw)] [[ab.mk 6 [(fR 1 0 0 aq.length aG aF 3 0 0 al.length bq 4 0 0 aI.length)] .live],(av 1 (bb 2 0 2) aq),(b2 2 aY a9),(av 1 eI al),(av 1 el aI)]
def FY (hY ag:Int)(aG:Bool)(aF:List Int)(bq:Int)(aq:List bs)(a9:List (List bp))(al:List Int)(aI:List Bool):Int→du
 | a=>⟨some 2,[(0,.ref 0 0 0 0),(1,.n .i64 hY),(4,.n .i64 ag),(5,.n .i64 a)],[[ab.mk 6 [(fR 1 0 0 aq.length aG aF 3 0 0 al.length bq 4 0 0 aI.length)] .live],(av 1 (bb 2 0 2) aq),(b2 2 aY a9),(av 1 eI al),(av 1 el aI)]⟩
def we (hY ag:Int)(aG:Bool)(aF:List Int)(bq:Int)(aq:List bs)(a9:List (List bp))(al:List Int)(aI:List Bool)(bw:Int):Option ((Int)⊕(Int)) :=
 if (decide (bw<hY))=true then
  if 0≤ag∧ag<(aq.length:Nat) then
  aq[(0+ag.toNat)]? >>= fun aD =>
  aD >>= fun lI =>
  a9[lI.1]? >>= fun iI =>
  if 0≤bw∧bw<(lI.2:Nat) then
  iI[(0+bw.toNat)]? >>= fun iZ =>
  o0 iZ >>= fun dY =>
  if (dY == (0:Int))=true then
   some (.inl (R (bw+(1:Int))))
  else
   some (.inr bw)
  else none
  else none
 else
  some (.inr bw)
def CT (hY ag:Int)(aG:Bool)(aF:List Int)(bq:Int)(aq:List bs)(a9:List (List bp))(al:List Int)(aI:List Bool)(bw:Int):Option (Int):=iter (fun w:Int=>we hY ag aG aF bq aq a9 al aI w) bw
theorem TH {hY ag:Int}{aG:Bool}{aF:List Int}{bq:Int}{aq:List bs}{a9:List (List bp)}{al:List Int}{aI:List Bool}{bw:Int}:bB (we hY ag aG aF bq aq a9 al aI bw) (dP bc 86 5 81 [1,0,0,1,0,1,1,0,0,0] (FR hY ag aG aF bq aq a9 al aI bw) (FR hY ag aG aF bq aq a9 al aI) (FY hY ag aG aF bq aq a9 al aI)):=by
 unfold we
 exact .ite (fun h1 =>
  .aZ fun o =>
  .ar fun aD au =>
  .ar fun lI a2 =>
  .ar fun iI bn =>
  .aZ fun cy =>
  .ar fun iZ eW =>
  .ar fun dY ez =>
  (let q1:=j5 (fJ .live 2 aY a9) ix bn;let t1:List bY:=[.az (aj 10 (an (.b7 ((bb 2 0 2) aD)) (aj 1 (an (.j8 34 (.bm 2 (lI.1+0) 0 lI.2) (.gj (ab.mk 2 (iI.map aY) .live) [])) (an (.gj (ab.mk 2 (iI.map aY) .live) (aY iZ)) (an (bt 1 (.n .i64 dY) true) (aj 1 (an (.aa true) []))))))))];
  have aQ:=((.bl h1 h1 h1 h1 h1 h1 o.1 o.2 (.bl h1 (bX (bb 2 0 2) au) h1 h1 (l5 (dD:=2) (c:=0) (sz:=2) a2) q1 cy.1 cy.2 (.gU h1 q1 (bX aY eW) h1 (sR dY ez) (cc.n .i64 dY) h1 h1))):cz _);
  .ite (fun eA =>
  .ret (bj (t1.append [.aa true,(J 3),.aL [0,1,2,3,4] [.box [.id,.id,.id,.id,.id,.id],.bG (av 1 (bb 2 0 2) aq),.bG (b2 2 aY a9),.pure,.pure] (ba [0,1,4,5])]) (aQ.aJ (.dw eA (ex (bP [0,1,2,3,4]) 2 2 0 2 rfl aq) (dz (bP [0,1,2,3,4]) 2 fb a9) (aK 1 .live aP al) (aK 1 .live eZ aI)))))
  (fun eA =>
  .ret (bj (t1.append [.aa false,.aL [0,1,2,3,4] [.box [.id,.id,.id,.id,.id,.id],.bG (av 1 (bb 2 0 2) aq),.bG (b2 2 aY a9),.pure,.pure] (ba [0,1,4,5])]) (aQ.aJ (.dw eA (ex (bP [0,1,2,3,4]) 2 2 0 2 rfl aq) (dz (bP [0,1,2,3,4]) 2 fb a9) (aK 1 .live aP al) (aK 1 .live eZ aI)))))))
  (fun h1 =>
  .ret (bj [.az (aj 4 (cD 12 (an (.aa false) []))),.aa false,.aL [0,1,2,3,4] [.box [.id,.id,.id,.id,.id,.id],.bG (av 1 (bb 2 0 2) aq),.bG (b2 2 aY a9),.pure,.pure] (ba [0,1,4,5])] (.bl h1 h1 h1 h1 h1 h1 h1 h1 (.bl h1 h1 h1 h1 h1 c6 (ex (bP [0,1,2,3,4]) 2 2 0 2 rfl aq) (dz (bP [0,1,2,3,4]) 2 fb a9) (.aE (aK 1 .live aP al) (aK 1 .live eZ aI))))))
theorem Uj {hY ag:Int}{aG:Bool}{aF:List Int}{bq:Int}{aq:List bs}{a9:List (List bp)}{al:List Int}{aI:List Bool}{bw:Int}{r} (h:CT hY ag aG aF bq aq a9 al aI bw=some r):dQ bc 86 5 81 [1,0,0,1,0,1,1,0,0,0] (FR hY ag aG aF bq aq a9 al aI) (FY hY ag aG aF bq aq a9 al aI) bw r:=dR (fun _=>TH) h
def FT (hY bq:Int)(aI:List Bool):(Int×Bool×(List Int)×(List bs)×(List (List bp))×(List Int))→S:=fun (ag,aG,aF,aq,a9,al)=>dr [(0,.ref 0 0 0 0),(1,.n .i64 hY),(4,.n .i64 ag)] [[ab.mk 6 [(fR 1 0 0 aq.length aG aF 3 0 0 al.length bq 4 0 0 aI.length)] .live],(av 1 (bb 2 0 2) aq),(b2 2 aY a9),(av 1 eI al),(av 1 el aI)]
def FZ (hY bq:Int)(aI:List Bool):(Bool×(List Int)×(List bs)×(List (List bp))×(List Int))→du
 | a=>⟨some 0,[],[[ab.mk 6 [(fR 1 0 0 a.2.2.1.length a.1 a.2.1 3 0 0 a.2.2.2.2.length bq 4 0 0 aI.length)] .live],(av 1 (bb 2 0 2) a.2.2.1),(b2 2 aY a.2.2.2.1),(av 1 eI a.2.2.2.2),(av 1 el aI)]⟩
def y8 (hY bq:Int)(aI:List Bool)(ag:Int)(aG:Bool)(aF:List Int)(aq:List bs)(a9:List (List bp))(al:List Int):Option ((Int×Bool×(List Int)×(List bs)×(List (List bp))×(List Int))⊕(Bool×(List Int)×(List bs)×(List (List bp))×(List Int))) :=
 if (decide (ag<((aq.length:Nat):Int)))=true then
  if 0≤ag∧ag<(al.length:Nat) then
  al[(0+ag.toNat)]? >>= fun aD =>
  if (decide (aD<hY))=true then
   some (.inl (R (ag+(1:Int)),aG,aF,aq,a9,al))
  else
   CT hY ag aG aF bq aq a9 al aI 0 >>= fun ck =>
   if (decide (ck<hY))=true then
    wV ag ck aG aF bq aq a9 al aI >>= fun bz =>
    some (.inl (R (ag+(1:Int)),bz.1,bz.2.1,aq,bz.2.2.1,bz.2.2.2))
   else
    if 0≤ag then
    if 0≤ag.toNat∧ag.toNat≤aq.length then
    if 0≤(R (ag+(1:Int))) then
    if (R (ag+(1:Int))).toNat≤aq.length then
    if (0+(R (ag+(1:Int))).toNat)+(aq.length-(R (ag+(1:Int))).toNat)≤aq.length then
    if (ag.toNat-0)+((aq.drop (0+(R (ag+(1:Int))).toNat)).take (aq.length-(R (ag+(1:Int))).toNat)).length≤aq.length then
    if ((aq.drop (0+(R (ag+(1:Int))).toNat)).take (aq.length-(R (ag+(1:Int))).toNat)).length*24≤140737488355328 then
    if 0≤ag.toNat∧ag.toNat≤al.length then
    if (R (ag+(1:Int))).toNat≤al.length then
    if (0+(R (ag+(1:Int))).toNat)+(al.length-(R (ag+(1:Int))).toNat)≤al.length then
    if (ag.toNat-0)+((al.drop (0+(R (ag+(1:Int))).toNat)).take (al.length-(R (ag+(1:Int))).toNat)).length≤al.length then
    if ((al.drop (0+(R (ag+(1:Int))).toNat)).take (al.length-(R (ag+(1:Int))).toNat)).length*8≤140737488355328 then
    some (.inl (ag,aG,aF,aq.take (ag.toNat-0)++((aq.drop (0+(R (ag+(1:Int))).toNat)).take (aq.length-(R (ag+(1:Int))).toNat)),a9,al.take (ag.toNat-0)++((al.drop (0+(R (ag+(1:Int))).toNat)).take (al.length-(R (ag+(1:Int))).toNat))))
    else none
    else none
    else none
    else none
    else none
    else none
    else none
    else none
    else none
    else none
    else none
    else none
  else none
 else
  some (.inr (aG,aF,aq,a9,al))
def Gx (hY bq:Int)(aI:List Bool)(ag:Int)(aG:Bool)(aF:List Int)(aq:List bs)(a9:List (List bp))(al:List Int):Option (Bool×(List Int)×(List bs)×(List (List bp))×(List Int)):=iter (fun w:Int×Bool×(List Int)×(List bs)×(List (List bp))×(List Int)=>y8 hY bq aI w.1 w.2.1 w.2.2.1 w.2.2.2.1 w.2.2.2.2.1 w.2.2.2.2.2) (ag,aG,aF,aq,a9,al)
theorem TI {hY bq:Int}{aI:List Bool}{ag:Int}{aG:Bool}{aF:List Int}{aq:List bs}{a9:List (List bp)}{al:List Int}:bB (y8 hY bq aI ag aG aF aq a9 al) (dP bc 86 5 81 [1,0,0] (FT hY bq aI (ag,aG,aF,aq,a9,al)) (FT hY bq aI) (FZ hY bq aI)):=by
 unfold y8
 exact .ite (fun h1 =>
  .aZ fun o =>
  .ar fun aD au =>
  (let t1:List bY:=[(J 7),.aa true,.az (br 6 (.b7 (eI aD)) 2)];
  .ite (fun aA =>
  .ret (bj (t1.append [.aa true,(J 3),.aL [0,1,2,3,4] [.box [.id,.id,.id,.id,.id,.id],.bG (av 1 (bb 2 0 2) aq),.bG (b2 2 aY a9),.pure,.pure] (ba [0,1,4])]) (.bl h1 o.1 o.2 (bX eI au) aA (ex (bP [0,1,2,3,4]) 2 2 0 2 rfl aq) (dz (bP [0,1,2,3,4]) 2 fb a9) (aK 1 .live aP al) (.e1 (aK 1 .live eZ aI)))))
  (fun aA =>
  .ar fun ck bd =>
  (let t2:List bY:=t1.append [.aa false,(J 1),.aL [0,1,2,3,4] [.box [.id,.id,.id,.id,.id,.id],.bG (av 1 (bb 2 0 2) aq),.bG (b2 2 aY a9),.pure,.pure] (ba [0,1,4,5]),(FY hY ag aG aF bq aq a9 al aI ck).ff,(J 3)];
  have fH:=((.bl h1 o.1 o.2 (bX eI au) aA (ex (bP [0,1,2,3,4]) 2 2 0 2 rfl aq) (dz (bP [0,1,2,3,4]) 2 fb a9) (aK 1 .live aP al) (.aE (aK 1 .live eZ aI) (Uj bd))):cz _);
  .ite (fun bn =>
  .ar fun bz cN =>
  .ret (let q1:=fR 1 0 0 aq.length bz.1 bz.2.1 3 0 0 bz.2.2.2.length bq 4 0 0 aI.length;let a1:=fR 1 0 0 aq.length aG aF 3 0 0 al.length bq 4 0 0 aI.length;let b0:=av 1 (bb 2 0 2) aq;let ct:=b2 2 aY bz.2.2.1;let dh:=pn [0,1,2,3,4];let fI:=iF [0,1,2,3,4];let hR:=po 1 (aq.map (bb 2 0 2));bj (t2.append [.aa true,.az (aj 3 (an (.call {a0:=(vf [0,1,2,3,4]),dv:=[.bG [ab.mk 6 [a1] .live],.bG b0,.bG (b2 2 aY a9),.pure,.pure],ac:=[ii,ii,ii],r:= .d7 [],fy:=[[ab.mk 6 [q1] .live],b0,ct,(av 1 eI bz.2.2.2),(av 1 el aI)],ib:=ii,kj:=[.bG [ab.mk 6 [q1] .live],.bG b0,.bG ct,.pure,.pure],fU:=[0,1,2,3,4],fP:=false}) [])),(J 3),.aL [0,1,2,3,4] [.box [.id,.id,.id,.id,.id,.id],.bG b0,.bG ct,.pure,.pure] (ba [0,1,4])]) (fH.aJ (.bl bn (qw dh 6 [a1] [a1] rfl) (po 6 [a1]) (ex dh 2 2 0 2 rfl aq) hR (dz dh 2 fb a9) (tJ 2 aY a9) (iU 1 aP al) (.bl (iU 1 eZ aI) (qw fI 6 [q1] [q1] rfl) (po 6 [q1]) (ex fI 2 2 0 2 rfl aq) hR (dz fI 2 fb bz.2.2.1) (tJ 2 aY bz.2.2.1) (iU 1 aP bz.2.2.2) (.d9 (iU 1 eZ aI) (M0 bz cN) (ex (bP [0,1,2,3,4]) 2 2 0 2 rfl aq) (dz (bP [0,1,2,3,4]) 2 fb bz.2.2.1) (aK 1 .live aP bz.2.2.2) (aK 1 .live eZ aI)))))))
  (fun bn =>
  .aZ fun cy =>
  .aZ fun cN =>
  .aZ fun eW =>
  .aZ fun e6 =>
  .aZ fun ez =>
  .aZ fun eA =>
  .aZ fun fW =>
  .aZ fun h4 =>
  .aZ fun hD =>
  .aZ fun hE =>
  .aZ fun gA =>
  .aZ fun fl =>
  .ret (let fp:=(R (ag+(1:Int)));let jh:=cY (bb 2 0 2) aq;let lF:=bP [0,1,2,3,4];let i2:=cY eI al;bj (t2.append [.aa false,.az (br 14 .fV 3),.az (br 14 .fV 3),.aL [0,1,2,3,4] [.box [.len ((aq.take (ag.toNat-0)++((aq.drop (0+fp.toNat)).take (aq.length-fp.toNat))).length),.id,.id,.len ((al.take (ag.toNat-0)++((al.drop (0+fp.toNat)).take (al.length-fp.toNat))).length),.id,.id],.bG (av 1 (bb 2 0 2) (aq.take (ag.toNat-0)++((aq.drop (0+fp.toNat)).take (aq.length-fp.toNat)))),.bG (b2 2 aY a9),.cO (av 1 eI (al.take (ag.toNat-0)++((al.drop (0+fp.toNat)).take (al.length-fp.toNat)))),.pure] (ba [0,1,4])]) (fH.aJ (.bl bn cy cN.1 cN.2 eW e6 (Nat.le_refl aq.length) (rB jh ez) (.bl (QP jh (oi jh (0+fp.toNat) (aq.length-fp.toNat)) eA) (PO (oi jh (0+fp.toNat) (aq.length-fp.toNat)) fW) cy h4.1 h4.2 eW hD (Nat.le_refl al.length) (.bl (rB i2 hE) (QP i2 (oi i2 (0+fp.toNat) (al.length-fp.toNat)) gA) (PO (oi i2 (0+fp.toNat) (al.length-fp.toNat)) fl) ((Km (QO eA) (oi jh (0+fp.toNat) (aq.length-fp.toNat)):(aq.take (ag.toNat-0)++((aq.drop (0+fp.toNat)).take (aq.length-fp.toNat))).length=(ag.toNat-0)+(((aq.map (bb 2 0 2)).drop (0+fp.toNat)).take (aq.length-fp.toNat)).length).symm) ((Km (QO gA) (oi i2 (0+fp.toNat) (al.length-fp.toNat)):(al.take (ag.toNat-0)++((al.drop (0+fp.toNat)).take (al.length-fp.toNat))).length=(ag.toNat-0)+(((al.map eI).drop (0+fp.toNat)).take (al.length-fp.toNat)).length).symm) (c5 (qv (ca:=lF) 1 .live (bb 2 0 2) (Kl jh (ag.toNat-0) (oi jh (0+fp.toNat) (aq.length-fp.toNat))) (rF (rfl:lF 2=some 2))) (o8 (ca:=lF))) (dz lF 2 fb a9) (db 1 .live (Kl i2 (ag.toNat-0) (oi i2 (0+fp.toNat) (al.length-fp.toNat)))) (.aE (aK 1 .live aP (al.take (ag.toNat-0)++((al.drop (0+fp.toNat)).take (al.length-fp.toNat)))) (aK 1 .live eZ aI))))))))))))
  (fun h1 =>
  .ret (bj [(J 7),.aa false,.aL [0,1,2,3,4] [.box [.id,.id,.id,.id,.id,.id],.bG (av 1 (bb 2 0 2) aq),.bG (b2 2 aY a9),.pure,.pure] []] (.dw h1 (ex (bP [0,1,2,3,4]) 2 2 0 2 rfl aq) (dz (bP [0,1,2,3,4]) 2 fb a9) (aK 1 .live aP al) (aK 1 .live eZ aI))))
theorem Uk {hY bq:Int}{aI:List Bool}{ag:Int}{aG:Bool}{aF:List Int}{aq:List bs}{a9:List (List bp)}{al:List Int}{r} (h:Gx hY bq aI ag aG aF aq a9 al=some r):dQ bc 86 5 81 [1,0,0] (FT hY bq aI) (FZ hY bq aI) (ag,aG,aF,aq,a9,al) r:=dR (fun _=>TI) h
def zl (hY:Int)(oN:Bool)(oH:List Int)(jE:Int)(fe:List bs)(lX:List (List bp))(ia:List Int)(ht:List Bool):Option (Bool×(List Int)×(List bs)×(List (List bp))×(List Int)) :=
 Gx hY jE ht 0 oN oH fe lX ia >>= fun r1 =>
 some (r1.1,r1.2.1,r1.2.2.1,r1.2.2.2.1,r1.2.2.2.2)
theorem UT {hY:Int}{oN:Bool}{oH:List Int}{jE:Int}{fe:List bs}{lX:List (List bp)}{ia:List Int}{ht:List Bool}:bB (zl hY oN oH jE fe lX ia ht) (fun a=>Con bc 81 [.ref 0 0 0 0,.n .i64 hY] [[ab.mk 6 [(fR 1 0 0 fe.length oN oH 3 0 0 ia.length jE 4 0 0 ht.length)] .live],(av 1 (bb 2 0 2) fe),(b2 2 aY lX),(av 1 eI ia),(av 1 el ht)] (.d7 []) [[ab.mk 6 [(fR 1 0 0 a.2.2.1.length a.1 a.2.1 3 0 0 a.2.2.2.2.length jE 4 0 0 ht.length)] .live],(av 1 (bb 2 0 2) a.2.2.1),(b2 2 aY a.2.2.2.1),(av 1 eI a.2.2.2.2),(av 1 el ht)]):=by
 unfold zl
 exact .ar fun r1 o =>
  .ret (let q1:=fR 1 0 0 r1.2.2.1.length r1.1 r1.2.1 3 0 0 r1.2.2.2.2.length jE 4 0 0 ht.length;let a1:=bP [0,1,2,3,4];lE [(J 1),.aL [0,1,2,3,4] [.box [.id,.id,.id,.id,.id,.id],.bG (av 1 (bb 2 0 2) fe),.bG (b2 2 aY lX),.pure,.pure] (ba [0,1,4]),(FZ hY jE ht r1).ff] [0,1,2,3,4] [.bG [ab.mk 6 [q1] .live],.bG (av 1 (bb 2 0 2) r1.2.2.1),.bG (b2 2 aY r1.2.2.2.1),.pure,.pure] (.bl (ex a1 2 2 0 2 rfl fe) (dz a1 2 fb lX) (aK 1 .live aP ia) (aK 1 .live eZ ht) (Uk o) (qw a1 6 [q1] [q1] rfl) (ex a1 2 2 0 2 rfl r1.2.2.1) (dz a1 2 fb r1.2.2.2.1) (.aE (aK 1 .live aP r1.2.2.2.2) (aK 1 .live eZ ht))))
end Go.Proofs.YtamedijmgkdlgadGreat
namespace Go.Proofs.YtamedijmgkdlgadGreat
set_option linter.unusedVariables false
set_option linter.unusedSimpArgs false
open Go Go.VL
def Hu (dN cX:Int)(d4 dV d3:List Int)(a4 ag:Int)(gg en:Nat)(jH:List Int)(j0:Int)(aG:Bool)(aF:List Int)(aH:List bs)(al:List Int)(aI:List Bool):(Int×(List (List bp)))→S:=fun (ed,iO)=>dr [(0,.d6 5 [[.n .i64 dN,.n .i64 cX,.isl 1 (d4.map eI),.isl 1 (dV.map eI),.isl 1 (d3.map eI)]] 0 0),(4,.n .i64 a4),(5,.ref 0 0 0 0),(6,.n .i64 ag),(7,.bm 1 (gg+0) 0 en),(8,.n .i64 (-1:Int)),(34,.n .i64 dN),(35,.n .i64 ag),(51,.isl 1 (jH.map eI)),(52,.n .i64 j0),(53,.n .i64 ed)] [[ab.mk 6 [(fR 2 0 0 aH.length aG aF 3 0 0 al.length a4 4 0 0 aI.length)] .live],(b2 2 aY iO),(av 1 (bb 1 0 2) aH),(av 1 eI al),(av 1 el aI)]
def H2 (dN cX:Int)(d4 dV d3:List Int)(a4 ag:Int)(gg en:Nat)(jH:List Int)(j0:Int)(aG:Bool)(aF:List Int)(aH:List bs)(al:List Int)(aI:List Bool):(List (List bp))→du
 | a=>⟨some 2,[(0,.d6 5 [[.n .i64 dN,.n .i64 cX,.isl 1 (d4.map eI),.isl 1 (dV.map eI),.isl 1 (d3.map eI)]] 0 0),(4,.n .i64 a4),(5,.ref 0 0 0 0),(6,.n .i64 ag),(7,.bm 1 (gg+0) 0 en),(8,.n .i64 (-1:Int)),(34,.n .i64 dN),(35,.n .i64 ag)],[[ab.mk 6 [(fR 2 0 0 aH.length aG aF 3 0 0 al.length a4 4 0 0 aI.length)] .live],(b2 2 aY a),(av 1 (bb 1 0 2) aH),(av 1 eI al),(av 1 el aI)]⟩
def wW (dN cX:Int)(d4 dV d3:List Int)(a4 ag:Int)(gg en:Nat)(jH:List Int)(j0:Int)(aG:Bool)(aF:List Int)(aH:List bs)(al:List Int)(aI:List Bool)(ed:Int)(iO:List (List bp)):Option ((Int×(List (List bp)))⊕((List (List bp)))) :=
 if (decide (ed<j0))=true then
  if 0≤ed∧ed<jH.length then
  jH[ed.toNat]? >>= fun aD =>
  og (R ((-1:Int)*aD)) >>= fun aU =>
  iO[gg]? >>= fun iI =>
  if 0≤ed∧ed<(en:Nat) then
  iI[(0+ed.toNat)]? >>= fun iZ =>
  some (.inl (R (ed+(1:Int)),iO.set gg (iI.set (0+ed.toNat) aU)))
  else none
  else none
 else
  some (.inr iO)
def Dc (dN cX:Int)(d4 dV d3:List Int)(a4 ag:Int)(gg en:Nat)(jH:List Int)(j0:Int)(aG:Bool)(aF:List Int)(aH:List bs)(al:List Int)(aI:List Bool)(ed:Int)(iO:List (List bp)):Option ((List (List bp))):=iter (fun w:Int×(List (List bp))=>wW dN cX d4 dV d3 a4 ag gg en jH j0 aG aF aH al aI w.1 w.2) (ed,iO)
theorem UU {dN cX:Int}{d4 dV d3:List Int}{a4 ag:Int}{gg en:Nat}{jH:List Int}{j0:Int}{aG:Bool}{aF:List Int}{aH:List bs}{al:List Int}{aI:List Bool}{ed:Int}{iO:List (List bp)}:bB (wW dN cX d4 dV d3 a4 ag gg en jH j0 aG aF aH al aI ed iO) (dP bc 205 0 55 [1,1,1,0,1,0,0,1,1,0,0,1,1,1,1,0,1,0,0] (Hu dN cX d4 dV d3 a4 ag gg en jH j0 aG aF aH al aI (ed,iO)) (Hu dN cX d4 dV d3 a4 ag gg en jH j0 aG aF aH al aI) (H2 dN cX d4 dV d3 a4 ag gg en jH j0 aG aF aH al aI)):=by
 unfold wW
 exact .ite (fun h1 =>
  .aZ fun o =>
  .ar fun aD au =>
  .ar fun aU a2 =>
  .ar fun iI bn =>
  .aZ fun cy =>
  .ar fun iZ eW =>
  .ret (let q1:=j5 (fJ .live 2 aY iO) ix bn;bj [(J 1),.aa true,.az (br 2 (.b7 (eI aD)) 2),.az (aj 5 (an (bt 1 (.agg (aY aU)) false) (an (.gj (ab.mk 2 (iI.map aY) .live) []) (an (.gj (ab.mk 2 (iI.map aY) .live) (aY iZ)) [])))),(J 2),.aL [0,1,2,3,4] [.box [.id,.id,.id,.id,.id,.id],.bG (b2 2 aY (iO.set gg (iI.set (0+ed.toNat) aU))),.bG (av 1 (bb 1 0 2) aH),.pure,.pure] (ba [0,4,5,6,7,8,34,35,51,52,53])] (.bl h1 o.1 (cQ eI o.2) (bX eI au) (rW aU a2) q1 cy.1 cy.2 (.d9 q1 (bX aY eW) (mn (ca:=(bP [0,1,2,3,4])) (o7 (fJ .live 2 aY iO) gg (qG (cY aY iI) (0+ed.toNat) aU (rfl:(setCells (aY iZ) 0 (aY aU))=aY aU))) (lP fb)) (ex (bP [0,1,2,3,4]) 1 1 0 2 rfl aH) (aK 1 .live aP al) (aK 1 .live eZ aI)))))
  (fun h1 =>
  .ret (bj [(J 1),.aa false,.aL [0,1,2,3,4] [.box [.id,.id,.id,.id,.id,.id],.bG (b2 2 aY iO),.bG (av 1 (bb 1 0 2) aH),.pure,.pure] (ba [0,4,5,6,7,8,34,35])] (.dw h1 (dz (bP [0,1,2,3,4]) 2 fb iO) (ex (bP [0,1,2,3,4]) 1 1 0 2 rfl aH) (aK 1 .live aP al) (aK 1 .live eZ aI))))
theorem Wn {dN cX:Int}{d4 dV d3:List Int}{a4 ag:Int}{gg en:Nat}{jH:List Int}{j0:Int}{aG:Bool}{aF:List Int}{aH:List bs}{al:List Int}{aI:List Bool}{ed:Int}{iO:List (List bp)}{r} (h:Dc dN cX d4 dV d3 a4 ag gg en jH j0 aG aF aH al aI ed iO=some r):dQ bc 205 0 55 [1,1,1,0,1,0,0,1,1,0,0,1,1,1,1,0,1,0,0] (Hu dN cX d4 dV d3 a4 ag gg en jH j0 aG aF aH al aI) (H2 dN cX d4 dV d3 a4 ag gg en jH j0 aG aF aH al aI) (ed,iO) r:=dR (fun _=>UU) h
def Hv (dN cX:Int)(d4 dV d3:List Int)(a4 ag:Int)(gg en:Nat)(jH:List Int)(j0:Int)(aG:Bool)(aF:List Int)(aH:List bs)(al:List Int)(aI:List Bool):(Int×(List (List bp)))→S:=fun (ed,iO)=>dr [(0,.d6 5 [[.n .i64 dN,.n .i64 cX,.isl 1 (d4.map eI),.isl 1 (dV.map eI),.isl 1 (d3.map eI)]] 0 0),(4,.n .i64 a4),(5,.ref 0 0 0 0),(6,.n .i64 ag),(7,.bm 1 (gg+0) 0 en),(8,.n .i64 (1:Int)),(34,.n .i64 dN),(35,.n .i64 ag),(51,.isl 1 (jH.map eI)),(52,.n .i64 j0),(53,.n .i64 ed)] [[ab.mk 6 [(fR 2 0 0 aH.length aG aF 3 0 0 al.length a4 4 0 0 aI.length)] .live],(b2 2 aY iO),(av 1 (bb 1 0 2) aH),(av 1 eI al),(av 1 el aI)]
def H3 (dN cX:Int)(d4 dV d3:List Int)(a4 ag:Int)(gg en:Nat)(jH:List Int)(j0:Int)(aG:Bool)(aF:List Int)(aH:List bs)(al:List Int)(aI:List Bool):(List (List bp))→du
 | a=>⟨some 2,[(0,.d6 5 [[.n .i64 dN,.n .i64 cX,.isl 1 (d4.map eI),.isl 1 (dV.map eI),.isl 1 (d3.map eI)]] 0 0),(4,.n .i64 a4),(5,.ref 0 0 0 0),(6,.n .i64 ag),(7,.bm 1 (gg+0) 0 en),(8,.n .i64 (1:Int)),(34,.n .i64 dN),(35,.n .i64 ag)],[[ab.mk 6 [(fR 2 0 0 aH.length aG aF 3 0 0 al.length a4 4 0 0 aI.length)] .live],(b2 2 aY a),(av 1 (bb 1 0 2) aH),(av 1 eI al),(av 1 el aI)]⟩
def wX (dN cX:Int)(d4 dV d3:List Int)(a4 ag:Int)(gg en:Nat)(jH:List Int)(j0:Int)(aG:Bool)(aF:List Int)(aH:List bs)(al:List Int)(aI:List Bool)(ed:Int)(iO:List (List bp)):Option ((Int×(List (List bp)))⊕((List (List bp)))) :=
 if (decide (ed<j0))=true then
  if 0≤ed∧ed<jH.length then
  jH[ed.toNat]? >>= fun aD =>
  og (R ((1:Int)*aD)) >>= fun aU =>
  iO[gg]? >>= fun iI =>
  if 0≤ed∧ed<(en:Nat) then
  iI[(0+ed.toNat)]? >>= fun iZ =>
  some (.inl (R (ed+(1:Int)),iO.set gg (iI.set (0+ed.toNat) aU)))
  else none
  else none
 else
  some (.inr iO)
def Dd (dN cX:Int)(d4 dV d3:List Int)(a4 ag:Int)(gg en:Nat)(jH:List Int)(j0:Int)(aG:Bool)(aF:List Int)(aH:List bs)(al:List Int)(aI:List Bool)(ed:Int)(iO:List (List bp)):Option ((List (List bp))):=iter (fun w:Int×(List (List bp))=>wX dN cX d4 dV d3 a4 ag gg en jH j0 aG aF aH al aI w.1 w.2) (ed,iO)
theorem UW {dN cX:Int}{d4 dV d3:List Int}{a4 ag:Int}{gg en:Nat}{jH:List Int}{j0:Int}{aG:Bool}{aF:List Int}{aH:List bs}{al:List Int}{aI:List Bool}{ed:Int}{iO:List (List bp)}:bB (wX dN cX d4 dV d3 a4 ag gg en jH j0 aG aF aH al aI ed iO) (dP bc 205 0 55 [1,1,1,0,1,0,0,1,1,0,0,1,1,1,1,0,1,0,0] (Hv dN cX d4 dV d3 a4 ag gg en jH j0 aG aF aH al aI (ed,iO)) (Hv dN cX d4 dV d3 a4 ag gg en jH j0 aG aF aH al aI) (H3 dN cX d4 dV d3 a4 ag gg en jH j0 aG aF aH al aI)):=by
 unfold wX
 exact .ite (fun h1 =>
  .aZ fun o =>
  .ar fun aD au =>
  .ar fun aU a2 =>
  .ar fun iI bn =>
  .aZ fun cy =>
  .ar fun iZ eW =>
  .ret (let q1:=j5 (fJ .live 2 aY iO) ix bn;bj [(J 1),.aa true,.az (br 2 (.b7 (eI aD)) 2),.az (aj 5 (an (bt 1 (.agg (aY aU)) false) (an (.gj (ab.mk 2 (iI.map aY) .live) []) (an (.gj (ab.mk 2 (iI.map aY) .live) (aY iZ)) [])))),(J 2),.aL [0,1,2,3,4] [.box [.id,.id,.id,.id,.id,.id],.bG (b2 2 aY (iO.set gg (iI.set (0+ed.toNat) aU))),.bG (av 1 (bb 1 0 2) aH),.pure,.pure] (ba [0,4,5,6,7,8,34,35,51,52,53])] (.bl h1 o.1 (cQ eI o.2) (bX eI au) (rW aU a2) q1 cy.1 cy.2 (.d9 q1 (bX aY eW) (mn (ca:=(bP [0,1,2,3,4])) (o7 (fJ .live 2 aY iO) gg (qG (cY aY iI) (0+ed.toNat) aU (rfl:(setCells (aY iZ) 0 (aY aU))=aY aU))) (lP fb)) (ex (bP [0,1,2,3,4]) 1 1 0 2 rfl aH) (aK 1 .live aP al) (aK 1 .live eZ aI)))))
  (fun h1 =>
  .ret (bj [(J 1),.aa false,.aL [0,1,2,3,4] [.box [.id,.id,.id,.id,.id,.id],.bG (b2 2 aY iO),.bG (av 1 (bb 1 0 2) aH),.pure,.pure] (ba [0,4,5,6,7,8,34,35])] (.dw h1 (dz (bP [0,1,2,3,4]) 2 fb iO) (ex (bP [0,1,2,3,4]) 1 1 0 2 rfl aH) (aK 1 .live aP al) (aK 1 .live eZ aI))))
theorem Wo {dN cX:Int}{d4 dV d3:List Int}{a4 ag:Int}{gg en:Nat}{jH:List Int}{j0:Int}{aG:Bool}{aF:List Int}{aH:List bs}{al:List Int}{aI:List Bool}{ed:Int}{iO:List (List bp)}{r} (h:Dd dN cX d4 dV d3 a4 ag gg en jH j0 aG aF aH al aI ed iO=some r):dQ bc 205 0 55 [1,1,1,0,1,0,0,1,1,0,0,1,1,1,1,0,1,0,0] (Hv dN cX d4 dV d3 a4 ag gg en jH j0 aG aF aH al aI) (H3 dN cX d4 dV d3 a4 ag gg en jH j0 aG aF aH al aI) (ed,iO) r:=dR (fun _=>UW) h
def Hw (dN cX:Int)(d4 dV d3:List Int)(a4:Int)(aG:Bool)(aF:List Int)(aI:List Bool):(Int×(List bs)×(List (List bp))×(List Int))→S:=fun (dl,aq,a9,al)=>dr [(0,.d6 5 [[.n .i64 dN,.n .i64 cX,.isl 1 (d4.map eI),.isl 1 (dV.map eI),.isl 1 (d3.map eI)]] 0 0),(4,.n .i64 a4),(5,.ref 0 0 0 0),(34,.n .i64 dN),(35,.n .i64 dl)] [[ab.mk 6 [(fR 1 0 0 aq.length aG aF 3 0 0 al.length a4 4 0 0 aI.length)] .live],(av 1 (bb 2 0 2) aq),(b2 2 aY a9),(av 1 eI al),(av 1 el aI)]
def H4 (dN cX:Int)(d4 dV d3:List Int)(a4:Int)(aG:Bool)(aF:List Int)(aI:List Bool):((List bs)×(List (List bp))×(List Int))→du
 | a=>⟨some 0,[(0,.d6 5 [[.n .i64 dN,.n .i64 cX,.isl 1 (d4.map eI),.isl 1 (dV.map eI),.isl 1 (d3.map eI)]] 0 0),(4,.n .i64 a4),(5,.ref 0 0 0 0)],[[ab.mk 6 [(fR 1 0 0 a.1.length aG aF 3 0 0 a.2.2.length a4 4 0 0 aI.length)] .live],(av 1 (bb 2 0 2) a.1),(b2 2 aY a.2.1),(av 1 eI a.2.2),(av 1 el aI)]⟩
def wY (dN cX:Int)(d4 dV d3:List Int)(a4:Int)(aG:Bool)(aF:List Int)(aI:List Bool)(dl:Int)(aq:List bs)(a9:List (List bp))(al:List Int):Option ((Int×(List bs)×(List (List bp))×(List Int))⊕((List bs)×(List (List bp))×(List Int))) :=
 if (decide (dl<dN))=true then
  if 0≤(R (a4+(1:Int)))∧(32:Int)*(R (a4+(1:Int)))≤281474976710656∧(R (a4+(1:Int)))<9223372036854775808 then
  if 0≤dl∧dl<dV.length then
  dV[dl.toNat]? >>= fun fD =>
  if (decide (fD<(0:Int)))=true then
   xl (⟨dN,cX,d4,dV,d3⟩:hz) dl >>= fun bJ =>
   Dc dN cX d4 dV d3 a4 dl a9.length ((R (a4+(1:Int))).toNat) bJ (len_ eI bJ) aG aF aq al aI 0 (a9++[(List.replicate (R (a4+(1:Int))).toNat (⟨false,([]:List Int)⟩:bp):List bp)]) >>= fun bz =>
   og 1 >>= fun di =>
   bz[a9.length]? >>= fun ll =>
   if 0≤(R (cX+dl))∧(R (cX+dl))<((R (a4+(1:Int))).toNat:Nat) then
   ll[(0+(R (cX+dl)).toNat)]? >>= fun mv =>
   og (R ((-1:Int)*fD)) >>= fun fa =>
   (bz.set a9.length (ll.set (0+(R (cX+dl)).toNat) di))[a9.length]? >>= fun oV =>
   if 0≤a4∧a4<((R (a4+(1:Int))).toNat:Nat) then
   oV[(0+a4.toNat)]? >>= fun vq =>
   if (aq++([(some (a9.length,(R (a4+(1:Int))).toNat))]:List bs)).length*24≤140737488355328 then
   if (al++([R (cX+dl)]:List Int)).length*8≤140737488355328 then
   some (.inl (R (dl+(1:Int)),aq++([(some (a9.length,(R (a4+(1:Int))).toNat))]:List bs),(bz.set a9.length (ll.set (0+(R (cX+dl)).toNat) di)).set a9.length (oV.set (0+a4.toNat) fa),al++([R (cX+dl)]:List Int)))
   else none
   else none
   else none
   else none
  else
   xl (⟨dN,cX,d4,dV,d3⟩:hz) dl >>= fun bJ =>
   Dd dN cX d4 dV d3 a4 dl a9.length ((R (a4+(1:Int))).toNat) bJ (len_ eI bJ) aG aF aq al aI 0 (a9++[(List.replicate (R (a4+(1:Int))).toNat (⟨false,([]:List Int)⟩:bp):List bp)]) >>= fun bz =>
   og 1 >>= fun di =>
   bz[a9.length]? >>= fun ll =>
   if 0≤(R (cX+dl))∧(R (cX+dl))<((R (a4+(1:Int))).toNat:Nat) then
   ll[(0+(R (cX+dl)).toNat)]? >>= fun mv =>
   og (R ((1:Int)*fD)) >>= fun fa =>
   (bz.set a9.length (ll.set (0+(R (cX+dl)).toNat) di))[a9.length]? >>= fun oV =>
   if 0≤a4∧a4<((R (a4+(1:Int))).toNat:Nat) then
   oV[(0+a4.toNat)]? >>= fun vq =>
   if (aq++([(some (a9.length,(R (a4+(1:Int))).toNat))]:List bs)).length*24≤140737488355328 then
   if (al++([R (cX+dl)]:List Int)).length*8≤140737488355328 then
   some (.inl (R (dl+(1:Int)),aq++([(some (a9.length,(R (a4+(1:Int))).toNat))]:List bs),(bz.set a9.length (ll.set (0+(R (cX+dl)).toNat) di)).set a9.length (oV.set (0+a4.toNat) fa),al++([R (cX+dl)]:List Int)))
   else none
   else none
   else none
   else none
  else none
  else none
 else
  some (.inr (aq,a9,al))
def De (dN cX:Int)(d4 dV d3:List Int)(a4:Int)(aG:Bool)(aF:List Int)(aI:List Bool)(dl:Int)(aq:List bs)(a9:List (List bp))(al:List Int):Option ((List bs)×(List (List bp))×(List Int)):=iter (fun w:Int×(List bs)×(List (List bp))×(List Int)=>wY dN cX d4 dV d3 a4 aG aF aI w.1 w.2.1 w.2.2.1 w.2.2.2) (dl,aq,a9,al)
theorem UX {dN cX:Int}{d4 dV d3:List Int}{a4:Int}{aG:Bool}{aF:List Int}{aI:List Bool}{dl:Int}{aq:List bs}{a9:List (List bp)}{al:List Int}:bB (wY dN cX d4 dV d3 a4 aG aF aI dl aq a9 al) (dP bc 205 0 55 [1,1,1,0,1,0,0] (Hw dN cX d4 dV d3 a4 aG aF aI (dl,aq,a9,al)) (Hw dN cX d4 dV d3 a4 aG aF aI) (H4 dN cX d4 dV d3 a4 aG aF aI)):=by
 unfold wY
 exact .ite (fun h1 =>
  .aZ fun o =>
  .aZ fun ae =>
  .ar fun fD aA =>
  (let t1:List bY:=[(J 1),.aa true,(J 2),.az (br 2 (.tE 2 (a9.length+0) (.b7 [.b false,.isl 1 (([]:List Int).map eI)])) 1),(J 1),.az (br 6 (.b7 (eI fD)) 1)];
  have aQ:=((.bl h1 o.1 (Int.le_refl (R (a4+(1:Int)))) o.2.1 o.2.2 (congrArg (· + 0) (Ef (fJ .live 2 aY a9) rfl)) ae.1 (cQ eI ae.2) (.e1 (bX eI aA))):cz _);
  .ite (fun a2 =>
  .ar fun bJ bn =>
  .ar fun bz cN =>
  .ar fun di e6 =>
  .ar fun ll eA =>
  .aZ fun fW =>
  .ar fun mv hD =>
  .ar fun fa gA =>
  .ar fun oV gO =>
  .aZ fun iT =>
  .ar fun vq yR =>
  .aZ fun ra =>
  .aZ fun B8 =>
  .ret (let a1:=(R (a4+(1:Int)));let b0:=R (cX+dl);let q1:=(o7 (fJ .live 2 aY bz) a9.length (qG (cY aY ll) (0+b0.toNat) di (rfl:(setCells (aY mv) 0 (aY di))=aY di)));let ct:=bP [0,36,1,52,4];let dh:=(al++([b0]:List Int));let fI:=(aq++([(some (a9.length,a1.toNat))]:List bs));let hR:=j5 (fJ .live 2 aY bz) ix eA;bj (t1.append [.aa true,(J 1),.az (br 2 (bt 2 (.isl 1 (bJ.map eI)) false) 2),.aL [0,2,1,3,4] [.box [.id,.id,.id,.id,.id,.id],.bG (b2 2 aY (a9++[(List.replicate a1.toNat (⟨false,([]:List Int)⟩:bp):List bp)])),.bG (av 1 (bb 1 0 2) aq),.pure,.pure] (ba [0,4,5,6,7,8,34,35,51,52,53]),(H2 dN cX d4 dV d3 a4 dl a9.length (a1.toNat) bJ (len_ eI bJ) aG aF aq al aI bz).ff,.az (aj 7 (an (bt 1 (.agg (aY di)) false) (an (.gj (ab.mk 2 (ll.map aY) .live) []) (an (.gj (ab.mk 2 (ll.map aY) .live) (aY mv)) [])))),.az (aj 9 (an (.b7 (eI fD)) (aj 1 (an (bt 1 (.agg (aY fa)) false) (an (.gj (ab.mk 2 (oV.map aY) .live) []) (an (.gj (ab.mk 2 (oV.map aY) .live) (aY vq)) [])))))),.az (aj 6 (an (.j8 93 (kT 1 0 2 (some (a9.length,a1.toNat))) .none) (an (.aJ (fI.length)) (aj 3 [])))),.az (br 12 (.aJ (dh.length)) 3),(J 2),.aL [0,36,1,52,4] [.box [.id,.id,.id,.id,.id,.id],.bG (av 1 (bb 2 0 2) fI),.bG (b2 2 aY ((bz.set a9.length (ll.set (0+b0.toNat) di)).set a9.length (oV.set (0+a4.toNat) fa))),.cO (av 1 eI dh),.pure] (ba [0,4,5,34,35])]) (aQ.aJ (.bl a2 (Nn bJ bn) (mn (ca:=(bP [0,2,1,3,4])) (AU (fJ .live 2 aY a9) (A5 rY 10 2 (a9.length+0) (lx aY a1.toNat (⟨false,([]:List Int)⟩:bp)) (A6 10 2 (a9.length+0)))) (lP fb)) (ex (bP [0,2,1,3,4]) 1 2 0 2 rfl aq) (aK 1 .live aP al) (aK 1 .live eZ aI) (Wn cN) (rW di e6) (.bl hR fW.1 fW.2 hR (bX aY hD) ae.1 (cQ eI ae.2) (bX eI aA) (.bl (rW fa gA) (j5 q1 ix gO) iT.1 iT.2 (j5 q1 ix gO) (bX aY yR) (.s2 1 0 2 a9.length (a1.toNat):ki (.bm 1 (a9.length+0) 0 (a1.toNat)) (kT 1 0 2 (some (a9.length,a1.toNat)))) (ha (bb 1 0 2) (some (a9.length,a1.toNat))) (.bl (ho (bb 1 0 2) aq) (gR (bb 1 0 2) aq (some (a9.length,a1.toNat))) ra (ha eI b0) (ho eI al) (gR eI al b0) B8 (c5 (qv (ca:=ct) 1 .live (bb 2 0 2) (hy (bb 1 0 2) aq (some (a9.length,a1.toNat))) (rF (rfl:ct 1=some 2))) (o8 (ca:=ct))) (.de (mn (ca:=ct) (o7 q1 a9.length (qG (cY aY oV) (0+a4.toNat) fa (rfl:(setCells (aY vq) 0 (aY fa))=aY fa))) (lP fb)) (db 1 .live (hy eI al b0)) (aK 1 .live aP dh) (aK 1 .live eZ aI)))))))))
  (fun a2 =>
  .ar fun bJ bn =>
  .ar fun bz cN =>
  .ar fun di e6 =>
  .ar fun ll eA =>
  .aZ fun fW =>
  .ar fun mv hD =>
  .ar fun fa gA =>
  .ar fun oV gO =>
  .aZ fun iT =>
  .ar fun vq yR =>
  .aZ fun ra =>
  .aZ fun B8 =>
  .ret (let jh:=(R (a4+(1:Int)));let lF:=R (cX+dl);let fp:=(o7 (fJ .live 2 aY bz) a9.length (qG (cY aY ll) (0+lF.toNat) di (rfl:(setCells (aY mv) 0 (aY di))=aY di)));let i2:=bP [0,36,1,52,4];let pH:=(al++([lF]:List Int));let ms:=(aq++([(some (a9.length,jh.toNat))]:List bs));let pI:=j5 (fJ .live 2 aY bz) ix eA;bj (t1.append [.aa false,.az (br 2 (bt 2 (.isl 1 (bJ.map eI)) false) 2),.aL [0,2,1,3,4] [.box [.id,.id,.id,.id,.id,.id],.bG (b2 2 aY (a9++[(List.replicate jh.toNat (⟨false,([]:List Int)⟩:bp):List bp)])),.bG (av 1 (bb 1 0 2) aq),.pure,.pure] (ba [0,4,5,6,7,8,34,35,51,52,53]),(H3 dN cX d4 dV d3 a4 dl a9.length (jh.toNat) bJ (len_ eI bJ) aG aF aq al aI bz).ff,.az (aj 7 (an (bt 1 (.agg (aY di)) false) (an (.gj (ab.mk 2 (ll.map aY) .live) []) (an (.gj (ab.mk 2 (ll.map aY) .live) (aY mv)) [])))),.az (aj 9 (an (.b7 (eI fD)) (aj 1 (an (bt 1 (.agg (aY fa)) false) (an (.gj (ab.mk 2 (oV.map aY) .live) []) (an (.gj (ab.mk 2 (oV.map aY) .live) (aY vq)) [])))))),.az (aj 6 (an (.j8 93 (kT 1 0 2 (some (a9.length,jh.toNat))) .none) (an (.aJ (ms.length)) (aj 3 [])))),.az (br 12 (.aJ (pH.length)) 3),(J 2),.aL [0,36,1,52,4] [.box [.id,.id,.id,.id,.id,.id],.bG (av 1 (bb 2 0 2) ms),.bG (b2 2 aY ((bz.set a9.length (ll.set (0+lF.toNat) di)).set a9.length (oV.set (0+a4.toNat) fa))),.cO (av 1 eI pH),.pure] (ba [0,4,5,34,35])]) (aQ.aJ (.bl a2 (Nn bJ bn) (mn (ca:=(bP [0,2,1,3,4])) (AU (fJ .live 2 aY a9) (A5 rY 10 2 (a9.length+0) (lx aY jh.toNat (⟨false,([]:List Int)⟩:bp)) (A6 10 2 (a9.length+0)))) (lP fb)) (ex (bP [0,2,1,3,4]) 1 2 0 2 rfl aq) (aK 1 .live aP al) (aK 1 .live eZ aI) (Wo cN) (rW di e6) (.bl pI fW.1 fW.2 pI (bX aY hD) ae.1 (cQ eI ae.2) (bX eI aA) (.bl (rW fa gA) (j5 fp ix gO) iT.1 iT.2 (j5 fp ix gO) (bX aY yR) (.s2 1 0 2 a9.length (jh.toNat):ki (.bm 1 (a9.length+0) 0 (jh.toNat)) (kT 1 0 2 (some (a9.length,jh.toNat)))) (ha (bb 1 0 2) (some (a9.length,jh.toNat))) (.bl (ho (bb 1 0 2) aq) (gR (bb 1 0 2) aq (some (a9.length,jh.toNat))) ra (ha eI lF) (ho eI al) (gR eI al lF) B8 (c5 (qv (ca:=i2) 1 .live (bb 2 0 2) (hy (bb 1 0 2) aq (some (a9.length,jh.toNat))) (rF (rfl:i2 1=some 2))) (o8 (ca:=i2))) (.de (mn (ca:=i2) (o7 fp a9.length (qG (cY aY oV) (0+a4.toNat) fa (rfl:(setCells (aY vq) 0 (aY fa))=aY fa))) (lP fb)) (db 1 .live (hy eI al lF)) (aK 1 .live aP pH) (aK 1 .live eZ aI)))))))))))
  (fun h1 =>
  .ret (bj [(J 1),.aa false,.aL [0,1,2,3,4] [.box [.id,.id,.id,.id,.id,.id],.bG (av 1 (bb 2 0 2) aq),.bG (b2 2 aY a9),.pure,.pure] (ba [0,4,5])] (.dw h1 (ex (bP [0,1,2,3,4]) 2 2 0 2 rfl aq) (dz (bP [0,1,2,3,4]) 2 fb a9) (aK 1 .live aP al) (aK 1 .live eZ aI))))
theorem Wp {dN cX:Int}{d4 dV d3:List Int}{a4:Int}{aG:Bool}{aF:List Int}{aI:List Bool}{dl:Int}{aq:List bs}{a9:List (List bp)}{al:List Int}{r} (h:De dN cX d4 dV d3 a4 aG aF aI dl aq a9 al=some r):dQ bc 205 0 55 [1,1,1,0,1,0,0] (Hw dN cX d4 dV d3 a4 aG aF aI) (H4 dN cX d4 dV d3 a4 aG aF aI) (dl,aq,a9,al) r:=dR (fun _=>UX) h
def Hx (dN cX:Int)(d4 dV d3:List Int)(a4 ov:Int)(aG:Bool)(aF:List Int)(aH:List bs)(dn:List (List bp))(aI:List Int):(Int×(List Int)×(List Bool))→S:=fun (gJ,aq,bH)=>dr [(0,.d6 5 [[.n .i64 dN,.n .i64 cX,.isl 1 (d4.map eI),.isl 1 (dV.map eI),.isl 1 (d3.map eI)]] 0 0),(4,.n .i64 a4),(5,.ref 0 0 0 0),(11,.bm 1 0 0 aq.length),(117,.n .i64 ov),(118,.n .i64 gJ)] [[ab.mk 6 [(fR 2 0 0 aH.length aG aF 4 0 0 aI.length a4 5 0 0 bH.length)] .live],(av 1 eI aq),(av 1 (bb 3 0 2) aH),(b2 2 aY dn),(av 1 eI aI),(av 1 el bH)]
def H5 (dN cX:Int)(d4 dV d3:List Int)(a4 ov:Int)(aG:Bool)(aF:List Int)(aH:List bs)(dn:List (List bp))(aI:List Int):((List Int)×(List Bool))→du
 | a=>⟨some 4,[(0,.d6 5 [[.n .i64 dN,.n .i64 cX,.isl 1 (d4.map eI),.isl 1 (dV.map eI),.isl 1 (d3.map eI)]] 0 0),(4,.n .i64 a4),(5,.ref 0 0 0 0),(11,.bm 1 0 0 a.1.length)],[[ab.mk 6 [(fR 2 0 0 aH.length aG aF 4 0 0 aI.length a4 5 0 0 a.2.length)] .live],(av 1 eI a.1),(av 1 (bb 3 0 2) aH),(b2 2 aY dn),(av 1 eI aI),(av 1 el a.2)]⟩
def wZ (dN cX:Int)(d4 dV d3:List Int)(a4 ov:Int)(aG:Bool)(aF:List Int)(aH:List bs)(dn:List (List bp))(aI:List Int)(gJ:Int)(aq:List Int)(bH:List Bool):Option ((Int×(List Int)×(List Bool))⊕((List Int)×(List Bool))) :=
 if (decide (gJ<ov))=true then
  if 0≤gJ∧gJ<(bH.length:Nat) then
  if (0+gJ.toNat)<bH.length then
  if (decide (cX≤gJ))=true then
   if 0≤gJ∧gJ<(aq.length:Nat) then
   if (0+gJ.toNat)<aq.length then
   some (.inl (R (gJ+(1:Int)),aq.set (0+gJ.toNat) (-1),bH.set (0+gJ.toNat) (decide (gJ<cX))))
   else none
   else none
  else
   some (.inl (R (gJ+(1:Int)),aq,bH.set (0+gJ.toNat) (decide (gJ<cX))))
  else none
  else none
 else
  some (.inr (aq,bH))
def Df (dN cX:Int)(d4 dV d3:List Int)(a4 ov:Int)(aG:Bool)(aF:List Int)(aH:List bs)(dn:List (List bp))(aI:List Int)(gJ:Int)(aq:List Int)(bH:List Bool):Option ((List Int)×(List Bool)):=iter (fun w:Int×(List Int)×(List Bool)=>wZ dN cX d4 dV d3 a4 ov aG aF aH dn aI w.1 w.2.1 w.2.2) (gJ,aq,bH)
theorem UY {dN cX:Int}{d4 dV d3:List Int}{a4 ov:Int}{aG:Bool}{aF:List Int}{aH:List bs}{dn:List (List bp)}{aI:List Int}{gJ:Int}{aq:List Int}{bH:List Bool}:bB (wZ dN cX d4 dV d3 a4 ov aG aF aH dn aI gJ aq bH) (dP bc 205 0 55 [1,1,1,1,1,0,1,0,0] (Hx dN cX d4 dV d3 a4 ov aG aF aH dn aI (gJ,aq,bH)) (Hx dN cX d4 dV d3 a4 ov aG aF aH dn aI) (H5 dN cX d4 dV d3 a4 ov aG aF aH dn aI)):=by
 unfold wZ
 exact .ite (fun h1 =>
  .aZ fun o =>
  .aZ fun ae =>
  (let t1:List bY:=[(J 1),.aa true,(J 2),.az (aj 12 (an .fV [])),(J 6)];
  have aQ:=((.dw h1 o.1 o.2 (hH el ae) (hx 1)):cz _);
  .ite (fun au =>
  .aZ fun aA =>
  .aZ fun a2 =>
  .ret (let q1:=bP [0,1,2,3,4,5];bj (t1.append [.aa true,.az (aj 3 (an .fV [])),(J 2),.aL [0,1,2,3,4,5] [.box [.id,.id,.id,.id,.id,.len ((bH.set (0+gJ.toNat) (decide (gJ<cX))).length)],.cO (av 1 eI (aq.set (0+gJ.toNat) (-1))),.bG (av 1 (bb 3 0 2) aH),.bG (b2 2 aY dn),.pure,.cO (av 1 el (bH.set (0+gJ.toNat) (decide (gJ<cX))))] [(0,ii),(4,ii),(5,ii),(11,f5 ((aq.set (0+gJ.toNat) (-1)).length)),(117,ii),(118,ii)]]) (aQ.aJ (.bl au aA.1 aA.2 (hH eI a2) (hx 1) (hX (dO bH) (0+gJ.toNat) (decide (gJ<cX))) (db 1 .live (gD (cY eI aq) (0+gJ.toNat) (-1))) (aK 1 .live aP (aq.set (0+gJ.toNat) (-1))) (.d9 (ex q1 3 3 0 2 rfl aH) (dz q1 2 fb dn) (aK 1 .live aP aI) (db 1 .live (gD (cY el bH) (0+gJ.toNat) (decide (gJ<cX)))) (aK 1 .live eZ (bH.set (0+gJ.toNat) (decide (gJ<cX)))) (hX (dO aq) (0+gJ.toNat) (-1)))))))
  (fun au =>
  .ret (let a1:=bP [0,1,2,3,4,5];bj (t1.append [.aa false,(J 2),.aL [0,1,2,3,4,5] [.box [.id,.id,.id,.id,.id,.len ((bH.set (0+gJ.toNat) (decide (gJ<cX))).length)],.pure,.bG (av 1 (bb 3 0 2) aH),.bG (b2 2 aY dn),.pure,.cO (av 1 el (bH.set (0+gJ.toNat) (decide (gJ<cX))))] (ba [0,4,5,11,117,118])]) (aQ.aJ (.gU au (hX (dO bH) (0+gJ.toNat) (decide (gJ<cX))) (aK 1 .live aP aq) (ex a1 3 3 0 2 rfl aH) (dz a1 2 fb dn) (aK 1 .live aP aI) (db 1 .live (gD (cY el bH) (0+gJ.toNat) (decide (gJ<cX)))) (aK 1 .live eZ (bH.set (0+gJ.toNat) (decide (gJ<cX))))))))))
  (fun h1 =>
  .ret (let b0:=bP [0,1,2,3,4,5];bj [(J 1),.aa false,.aL [0,1,2,3,4,5] [.box [.id,.id,.id,.id,.id,.id],.pure,.bG (av 1 (bb 3 0 2) aH),.bG (b2 2 aY dn),.pure,.pure] (ba [0,4,5,11])] (.d9 h1 (aK 1 .live aP aq) (ex b0 3 3 0 2 rfl aH) (dz b0 2 fb dn) (aK 1 .live aP aI) (aK 1 .live eZ bH))))
theorem Wq {dN cX:Int}{d4 dV d3:List Int}{a4 ov:Int}{aG:Bool}{aF:List Int}{aH:List bs}{dn:List (List bp)}{aI:List Int}{gJ:Int}{aq:List Int}{bH:List Bool}{r} (h:Df dN cX d4 dV d3 a4 ov aG aF aH dn aI gJ aq bH=some r):dQ bc 205 0 55 [1,1,1,1,1,0,1,0,0] (Hx dN cX d4 dV d3 a4 ov aG aF aH dn aI) (H5 dN cX d4 dV d3 a4 ov aG aF aH dn aI) (gJ,aq,bH) r:=dR (fun _=>UY) h
def Hy (dN cX:Int)(d4 dV d3:List Int)(a4 ow:Int)(aG:Bool)(aF:List Int)(bq:Int)(aq:List Int)(aH:List bs)(dn:List (List bp))(aI:List Bool):Int→S:=fun mJ=>dr [(0,.d6 5 [[.n .i64 dN,.n .i64 cX,.isl 1 (d4.map eI),.isl 1 (dV.map eI),.isl 1 (d3.map eI)]] 0 0),(4,.n .i64 a4),(5,.ref 0 0 0 0),(149,.bm 1 0 0 aq.length),(150,.n .i64 ow),(151,.n .i64 mJ)] [[ab.mk 6 [(fR 2 0 0 aH.length aG aF 1 0 0 aq.length bq 4 0 0 aI.length)] .live],(av 1 eI aq),(av 1 (bb 3 0 2) aH),(b2 2 aY dn),(av 1 el aI)]
def H6 (dN cX:Int)(d4 dV d3:List Int)(a4 ow:Int)(aG:Bool)(aF:List Int)(bq:Int)(aq:List Int)(aH:List bs)(dn:List (List bp))(aI:List Bool):((Unit)⊕(Unit))→du
 | .inl a=>⟨some 6,[(0,.d6 5 [[.n .i64 dN,.n .i64 cX,.isl 1 (d4.map eI),.isl 1 (dV.map eI),.isl 1 (d3.map eI)]] 0 0),(5,.ref 0 0 0 0)],[[ab.mk 6 [(fR 1 0 0 aH.length aG aF 3 0 0 aq.length bq 4 0 0 aI.length)] .live],(av 1 (bb 2 0 2) aH),(b2 2 aY dn),(av 1 eI aq),(av 1 el aI)]⟩
 | .inr a=>⟨none,[(2,.h6),(3,.b false)],[]⟩
def w0 (dN cX:Int)(d4 dV d3:List Int)(a4 ow:Int)(aG:Bool)(aF:List Int)(bq:Int)(aq:List Int)(aH:List bs)(dn:List (List bp))(aI:List Bool)(mJ:Int):Option ((Int)⊕((Unit)⊕(Unit))) :=
 if (decide (mJ<ow))=true then
  if 0≤mJ∧mJ<(aq.length:Nat) then
  aq[(0+mJ.toNat)]? >>= fun aD =>
  if (decide (cX≤aD))=true then
   if 0≤mJ∧mJ<(aH.length:Nat) then
   aH[(0+mJ.toNat)]? >>= fun eS =>
   eS >>= fun l0 =>
   dn[l0.1]? >>= fun EV =>
   if 0≤a4∧a4<(l0.2:Nat) then
   EV[(0+a4.toNat)]? >>= fun L4 =>
   o0 L4 >>= fun ef =>
   if (decide ((0:Int)<ef))=true then
    some (.inr (.inr ()))
   else
    some (.inl (R (mJ+(1:Int))))
   else none
   else none
  else
   some (.inl (R (mJ+(1:Int))))
  else none
 else
  some (.inr (.inl ()))
def Dg (dN cX:Int)(d4 dV d3:List Int)(a4 ow:Int)(aG:Bool)(aF:List Int)(bq:Int)(aq:List Int)(aH:List bs)(dn:List (List bp))(aI:List Bool)(mJ:Int):Option ((Unit)⊕(Unit)):=iter (fun w:Int=>w0 dN cX d4 dV d3 a4 ow aG aF bq aq aH dn aI w) mJ
theorem UZ {dN cX:Int}{d4 dV d3:List Int}{a4 ow:Int}{aG:Bool}{aF:List Int}{bq:Int}{aq:List Int}{aH:List bs}{dn:List (List bp)}{aI:List Bool}{mJ:Int}:bB (w0 dN cX d4 dV d3 a4 ow aG aF bq aq aH dn aI mJ) (dP bc 205 0 55 [1,1,1,1,1,1,1,0,1,0,0] (Hy dN cX d4 dV d3 a4 ow aG aF bq aq aH dn aI mJ) (Hy dN cX d4 dV d3 a4 ow aG aF bq aq aH dn aI) (H6 dN cX d4 dV d3 a4 ow aG aF bq aq aH dn aI)):=by
 unfold w0
 exact .ite (fun h1 =>
  .aZ fun o =>
  .ar fun aD au =>
  (let t1:List bY:=[(J 1),.aa true,.az (br 2 (.b7 (eI aD)) 2)];
  .ite (fun aA =>
  .aZ fun a2 =>
  .ar fun eS bn =>
  .ar fun l0 cN =>
  .ar fun EV e6 =>
  .aZ fun ez =>
  .ar fun L4 fW =>
  .ar fun ef hD =>
  (let q1:=j5 (fJ .live 2 aY dn) ix e6;let t2:List bY:=t1.append [.az (aj 13 (an (.b7 ((bb 3 0 2) eS)) (aj 1 (an (.j8 169 (.bm 3 (l0.1+0) 0 l0.2) (.gj (ab.mk 2 (EV.map aY) .live) [])) (an (.gj (ab.mk 2 (EV.map aY) .live) (aY L4)) (an (bt 1 (.n .i64 ef) true) (aj 1 (an (.aa true) []))))))))];
  have fH:=((.bl h1 o.1 o.2 (bX eI au) aA aA aA aA (.bl aA aA a2.1 a2.2 aA (bX (bb 3 0 2) bn) aA aA (.bl (l5 (dD:=3) (c:=0) (sz:=2) cN) q1 ez.1 ez.2 aA q1 (bX aY fW) aA (.de (sR ef hD) (cc.n .i64 ef) aA aA)))):cz _);
  .ite (fun hE =>
  .ret (bj (t2.append [.aa true,(J 2),.aL [] [] (ba [2,3])]) (fH.aJ (.e1 hE))))
  (fun hE =>
  .ret (bj (t2.append [.aa false,(J 2),.aL [0,1,2,3,4] [.box [.id,.id,.id,.id,.id,.id],.pure,.bG (av 1 (bb 3 0 2) aH),.bG (b2 2 aY dn),.pure] (ba [0,4,5,149,150,151])]) (fH.aJ (.dw hE (aK 1 .live aP aq) (ex (bP [0,1,2,3,4]) 3 3 0 2 rfl aH) (dz (bP [0,1,2,3,4]) 2 fb dn) (aK 1 .live eZ aI)))))))
  (fun aA =>
  .ret (bj (t1.append [.az (aj 7 (cD 12 (an (.aa false) []))),.aa false,(J 2),.aL [0,1,2,3,4] [.box [.id,.id,.id,.id,.id,.id],.pure,.bG (av 1 (bb 3 0 2) aH),.bG (b2 2 aY dn),.pure] (ba [0,4,5,149,150,151])]) (.bl h1 o.1 o.2 (bX eI au) aA aA aA aA (.bl aA aA aA aA aA aA aA aA (.d9 aA c6 (aK 1 .live aP aq) (ex (bP [0,1,2,3,4]) 3 3 0 2 rfl aH) (dz (bP [0,1,2,3,4]) 2 fb dn) (aK 1 .live eZ aI))))))))
  (fun h1 =>
  .ret (bj [(J 1),.aa false,.aL [0,2,3,1,4] [.box [.id,.id,.id,.id,.id,.id],.bG (av 1 (bb 2 0 2) aH),.bG (b2 2 aY dn),.pure,.pure] (ba [0,5])] (.dw h1 (ex (bP [0,2,3,1,4]) 2 3 0 2 rfl aH) (dz (bP [0,2,3,1,4]) 2 fb dn) (aK 1 .live aP aq) (aK 1 .live eZ aI))))
theorem NB {dN cX:Int}{d4 dV d3:List Int}{a4 ow:Int}{aG:Bool}{aF:List Int}{bq:Int}{aq:List Int}{aH:List bs}{dn:List (List bp)}{aI:List Bool}{mJ:Int}{r} (h:Dg dN cX d4 dV d3 a4 ow aG aF bq aq aH dn aI mJ=some r):dQ bc 205 0 55 [1,1,1,1,1,1,1,0,1,0,0] (Hy dN cX d4 dV d3 a4 ow aG aF bq aq aH dn aI) (H6 dN cX d4 dV d3 a4 ow aG aF bq aq aH dn aI) mJ r:=dR (fun _=>UZ) h
def Hz (dN cX:Int)(d4 dV d3:List Int)(ox:Int)(aG:Bool)(aF:List Int)(bq:Int)(aq:List bs)(a9:List (List bp))(al:List Int):(Int×(List Bool))→S:=fun (kC,aI)=>dr [(0,.d6 5 [[.n .i64 dN,.n .i64 cX,.isl 1 (d4.map eI),.isl 1 (dV.map eI),.isl 1 (d3.map eI)]] 0 0),(5,.ref 0 0 0 0),(181,.n .i64 ox),(182,.n .i64 kC)] [[ab.mk 6 [(fR 1 0 0 aq.length aG aF 3 0 0 al.length bq 4 0 0 aI.length)] .live],(av 1 (bb 2 0 2) aq),(b2 2 aY a9),(av 1 eI al),(av 1 el aI)]
def H7 (dN cX:Int)(d4 dV d3:List Int)(ox:Int)(aG:Bool)(aF:List Int)(bq:Int)(aq:List bs)(a9:List (List bp))(al:List Int):(List Bool)→du
 | a=>⟨some 8,[(0,.d6 5 [[.n .i64 dN,.n .i64 cX,.isl 1 (d4.map eI),.isl 1 (dV.map eI),.isl 1 (d3.map eI)]] 0 0),(5,.ref 0 0 0 0)],[[ab.mk 6 [(fR 1 0 0 aq.length aG aF 3 0 0 al.length bq 4 0 0 a.length)] .live],(av 1 (bb 2 0 2) aq),(b2 2 aY a9),(av 1 eI al),(av 1 el a)]⟩
def w1 (dN cX:Int)(d4 dV d3:List Int)(ox:Int)(aG:Bool)(aF:List Int)(bq:Int)(aq:List bs)(a9:List (List bp))(al:List Int)(kC:Int)(aI:List Bool):Option ((Int×(List Bool))⊕((List Bool))) :=
 if (decide (kC<ox))=true then
  if 0≤kC∧kC<(aI.length:Nat) then
  if (0+kC.toNat)<aI.length then
  some (.inl (R (kC+(1:Int)),aI.set (0+kC.toNat) (decide (kC<cX))))
  else none
  else none
 else
  some (.inr aI)
def Dh (dN cX:Int)(d4 dV d3:List Int)(ox:Int)(aG:Bool)(aF:List Int)(bq:Int)(aq:List bs)(a9:List (List bp))(al:List Int)(kC:Int)(aI:List Bool):Option ((List Bool)):=iter (fun w:Int×(List Bool)=>w1 dN cX d4 dV d3 ox aG aF bq aq a9 al w.1 w.2) (kC,aI)
theorem U0 {dN cX:Int}{d4 dV d3:List Int}{ox:Int}{aG:Bool}{aF:List Int}{bq:Int}{aq:List bs}{a9:List (List bp)}{al:List Int}{kC:Int}{aI:List Bool}:bB (w1 dN cX d4 dV d3 ox aG aF bq aq a9 al kC aI) (dP bc 205 0 55 [1,1,1,1,1,1,1,1,0,1,0,0] (Hz dN cX d4 dV d3 ox aG aF bq aq a9 al (kC,aI)) (Hz dN cX d4 dV d3 ox aG aF bq aq a9 al) (H7 dN cX d4 dV d3 ox aG aF bq aq a9 al)):=by
 unfold w1
 exact .ite (fun h1 =>
  .aZ fun o =>
  .aZ fun ae =>
  .ret (bj [(J 1),.aa true,(J 2),.az (aj 12 (an .fV [])),(J 2),.aL [0,1,2,3,4] [.box [.id,.id,.id,.id,.id,.len ((aI.set (0+kC.toNat) (decide (kC<cX))).length)],.bG (av 1 (bb 2 0 2) aq),.bG (b2 2 aY a9),.pure,.cO (av 1 el (aI.set (0+kC.toNat) (decide (kC<cX))))] (ba [0,5,181,182])] (.bl h1 o.1 o.2 (hH el ae) (hx 1) (hX (dO aI) (0+kC.toNat) (decide (kC<cX))) (ex (bP [0,1,2,3,4]) 2 2 0 2 rfl aq) (dz (bP [0,1,2,3,4]) 2 fb a9) (.bT (aK 1 .live aP al) (db 1 .live (gD (cY el aI) (0+kC.toNat) (decide (kC<cX)))) (aK 1 .live eZ (aI.set (0+kC.toNat) (decide (kC<cX))))))))
  (fun h1 =>
  .ret (bj [(J 1),.aa false,.aL [0,1,2,3,4] [.box [.id,.id,.id,.id,.id,.id],.bG (av 1 (bb 2 0 2) aq),.bG (b2 2 aY a9),.pure,.pure] (ba [0,5])] (.dw h1 (ex (bP [0,1,2,3,4]) 2 2 0 2 rfl aq) (dz (bP [0,1,2,3,4]) 2 fb a9) (aK 1 .live aP al) (aK 1 .live eZ aI))))
theorem Wr {dN cX:Int}{d4 dV d3:List Int}{ox:Int}{aG:Bool}{aF:List Int}{bq:Int}{aq:List bs}{a9:List (List bp)}{al:List Int}{kC:Int}{aI:List Bool}{r} (h:Dh dN cX d4 dV d3 ox aG aF bq aq a9 al kC aI=some r):dQ bc 205 0 55 [1,1,1,1,1,1,1,1,0,1,0,0] (Hz dN cX d4 dV d3 ox aG aF bq aq a9 al) (H7 dN cX d4 dV d3 ox aG aF bq aq a9 al) (kC,aI) r:=dR (fun _=>U0) h
def z5 (cd:hz):Option ((Bool×(List Int)×Int×(List bs)×(List Int)×(List Bool)×(List (List bp)))⊕(Unit)) :=
 og 1 >>= fun r1 =>
 if 0≤(R (cd.ec+cd.fq))∧(1:Int)*(R (cd.ec+cd.fq))≤281474976710656∧(R (cd.ec+cd.fq))<9223372036854775808 then
 De cd.fq cd.ec cd.dF cd.ei cd.hL (R (cd.ec+cd.fq)) r1.cR r1.cH (List.replicate (R (cd.ec+cd.fq)).toNat false:List Bool) 0 ([]:List bs) ([]:List (List bp)) ([]:List Int) >>= fun bg =>
 if 0≤(R (cd.ec+cd.fq))∧(8:Int)*(R (cd.ec+cd.fq))≤281474976710656∧(R (cd.ec+cd.fq))<9223372036854775808 then
 Df cd.fq cd.ec cd.dF cd.ei cd.hL (R (cd.ec+cd.fq)) (((R (cd.ec+cd.fq)).toNat:Nat):Int) r1.cR r1.cH bg.1 bg.2.1 bg.2.2 0 (List.replicate (R (cd.ec+cd.fq)).toNat 0:List Int) (List.replicate (R (cd.ec+cd.fq)).toNat false:List Bool) >>= fun bJ =>
 wE r1.cR r1.cH (R (cd.ec+cd.fq)) bg.1 bg.2.1 bg.2.2 bJ.2 bJ.1 >>= fun bz =>
 Dg cd.fq cd.ec cd.dF cd.ei cd.hL (R (cd.ec+cd.fq)) ((bz.2.2.2.2.1.length:Nat):Int) bz.2.1 bz.2.2.1 (R (cd.ec+cd.fq)) bz.2.2.2.2.1 bg.1 bz.2.2.2.1 bz.2.2.2.2.2 0 >>= fun di =>
 match di with
 | .inl tz=>(Dh cd.fq cd.ec cd.dF cd.ei cd.hL ((bz.2.2.2.2.2.length:Nat):Int) bz.2.1 bz.2.2.1 (R (cd.ec+cd.fq)) bg.1 bz.2.2.2.1 bz.2.2.2.2.1 0 bz.2.2.2.2.2 >>= fun gd =>
  zl cd.ec bz.2.1 bz.2.2.1 (R (cd.ec+cd.fq)) bg.1 bz.2.2.2.1 bz.2.2.2.2.1 gd >>= fun ef =>
  some (.inl (ef.1,ef.2.1,(R (cd.ec+cd.fq)),ef.2.2.1,ef.2.2.2.2,gd,ef.2.2.2.1)))
 | .inr tz=>(some (.inr ()))
 else none
 else none
set_option maxHeartbeats 4000000 in
theorem NY {cd:hz}:bB (z5 cd) (Sum.elim (fun a=>Con bc 55 [.d6 5 [(nR cd)] 0 0] [] (.d7 [.ref 0 0 0 0,.b true]) [(ab.mk 6 [(fR 0 1 0 a.2.2.2.1.length a.1 a.2.1 0 2 0 a.2.2.2.2.1.length a.2.2.1 0 3 0 a.2.2.2.2.2.1.length)] .live::ab.mk 1 (a.2.2.2.1.map (bb 0 4 2)) .live::ab.mk 1 (a.2.2.2.2.1.map eI) .live::ab.mk 1 (a.2.2.2.2.2.1.map el) .live::(b2 2 aY a.2.2.2.2.2.2))]) (fun a=>Con bc 55 [.d6 5 [(nR cd)] 0 0] [] (.d7 [.h6,.b false]) [])):=by
 unfold z5
 exact .ar fun r1 o =>
  .aZ fun ae =>
  .ar fun bg aA =>
  .aZ fun a2 =>
  .ar fun bJ bn =>
  .ar fun bz cN =>
  .ar fun di e6 =>
  (let i2:=R (cd.ec+cd.fq);let pH:=fR 1 0 0 bg.1.length bz.2.1 bz.2.2.1 3 0 0 bz.2.2.2.2.1.length i2 4 0 0 bz.2.2.2.2.2.length;let ms:=fR 2 0 0 bg.1.length bz.2.1 bz.2.2.1 4 0 0 bz.2.2.2.2.1.length i2 5 0 0 bz.2.2.2.2.2.length;let pI:=(List.replicate i2.toNat false:List Bool);let vk:=bP [17,24,25,26,15];let vl:=fR 1 0 0 bg.1.length r1.cR r1.cH 3 0 0 bg.2.2.length i2 4 0 0 bJ.2.length;let yQ:=fR 2 0 0 bg.1.length r1.cR r1.cH 4 0 0 bg.2.2.length i2 5 0 0 bJ.2.length;let yN:=b2 2 aY bz.2.2.2.1;let vm:=(List.replicate i2.toNat 0:List Int);let vn:=av 1 (bb 3 0 2) bg.1;let yO:=pn [0,2,3,4,5,1];let yP:=iF [0,2,3,4,5,1];let vo:=av 1 (bb 2 0 2) bg.1;let B7:=bP [0,6,1,2,3,4];let t1:List bY:=[(J 2),(J 10),.az (br 1 (bt 1 (.agg (aY r1)) false) 5),(J 5),.tx 17 0 1,.EN,.tx 17 3 1,.aL [17,24,25,26,15] [.box [.len (([]:List bs).length),.id,.id,.len (([]:List Int).length),.id,.len (pI.length)],.bG (av 1 (bb 2 0 2) ([]:List bs)),.bG (b2 2 aY ([]:List (List bp))),.cO (av 1 eI ([]:List Int)),.cO (av 1 el pI)] (ba [0,4,5,34,35]),(H4 cd.fq cd.ec cd.dF cd.ei cd.hL i2 r1.cR r1.cH pI bg).ff,(J 3),(J 3),.aL [0,6,1,2,3,4] [.box [.id,.id,.id,.id,.id,.id],.cO (av 1 eI vm),.bG vn,.bG (b2 2 aY bg.2.1),.pure,.pure] [(0,ii),(4,ii),(5,ii),(11,f5 (vm.length)),(117,ii),(118,ii)],(H5 cd.fq cd.ec cd.dF cd.ei cd.hL i2 ((i2.toNat:Nat):Int) r1.cR r1.cH bg.1 bg.2.1 bg.2.2 bJ).ff,.az (aj 2 (an (.call {a0:=(vf [0,2,3,4,5,1]),dv:=[.bG [ab.mk 6 [vl] .live],.bG vo,.bG (b2 2 aY bg.2.1),.pure,.pure,.pure],ac:=[ii,ii],r:= .b bz.1,fy:=[[ab.mk 6 [pH] .live],vo,yN,(av 1 eI bz.2.2.2.2.1),(av 1 el bz.2.2.2.2.2),(av 1 eI bJ.1)],ib:=ii,kj:=[.bG [ab.mk 6 [ms] .live],.bG vn,.bG yN,.pure,.pure,.pure],fU:=[0,1,2,3,4,5],fP:=false}) [])),(J 6),.aL [0,4,2,3,5] [.box [.id,.id,.id,.id,.id,.id],.pure,.bG vn,.bG yN,.pure] (ba [0,4,5,149,150,151])];
  have aQ:=((.bl (rW r1 o) ae.1 (Int.le_refl i2) ae.2.1 ae.2.2 (fK bs) (fK Int) (lL i2.toNat (false:Bool)) (.bl (c5 (qv (ca:=vk) 1 .live (bb 2 0 2) (pP (bb 25 0 2)) (rF (rfl:vk 25=some 2))) (o8 (ca:=vk))) (mn (ca:=vk) (KJ .live 2 aY) (lP fb)) (db 1 .live (pP eI)) (aK 1 .live aP ([]:List Int)) (db 1 .live (lx el i2.toNat false)) (aK 1 .live eZ pI) (Wp aA) a2.1 (.bl (Int.le_refl i2) a2.2.1 a2.2.2 (db 1 .live (lx eI i2.toNat 0)) (aK 1 .live aP vm) (ex B7 3 2 0 2 rfl bg.1) (dz B7 2 fb bg.2.1) (aK 1 .live aP bg.2.2) (.bl (aK 1 .live eZ pI) (lL i2.toNat (0:Int)) (Wq bn) (qw yO 6 [vl] [yQ] rfl) (po 6 [yQ]) (ex yO 2 3 0 2 rfl bg.1) (po 1 (bg.1.map (bb 3 0 2))) (dz yO 2 fb bg.2.1) (.bl (tJ 2 aY bg.2.1) (iU 1 aP bg.2.2) (iU 1 eZ bJ.2) (iU 1 aP bJ.1) (qw yP 6 [ms] [pH] rfl) (po 6 [pH]) (ex yP 3 2 0 2 rfl bg.1) (po 1 (bg.1.map (bb 2 0 2))) (.bl (dz yP 2 fb bz.2.2.2.1) (tJ 2 aY bz.2.2.2.1) (iU 1 aP bz.2.2.2.2.1) (iU 1 eZ bz.2.2.2.2.2) (iU 1 aP bJ.1) (Ui bz cN) (aK 1 .live aP bz.2.2.2.2.1) (ex (bP [0,4,2,3,5]) 3 3 0 2 rfl bg.1) (.aE (dz (bP [0,4,2,3,5]) 2 fb bz.2.2.2.1) (aK 1 .live eZ bz.2.2.2.2.2)))))))):cz _);
  (by
  rcases di with tz|tz
  ·exact (.ar fun gd fW =>
  .ar fun ef hD =>
  .ret (let b0:=b2 2 aY ef.2.2.2.1;let ct:=av 1 (bb 2 0 2) ef.2.2.1;let dh:=R (cd.ec+cd.fq);let q1:=fR 1 0 0 ef.2.2.1.length ef.1 ef.2.1 3 0 0 ef.2.2.2.2.length dh 4 0 0 gd.length;let a1:=fR 1 0 0 bg.1.length bz.2.1 bz.2.2.1 3 0 0 bz.2.2.2.2.1.length dh 4 0 0 gd.length;let fI:=pn [0,1,2,3,4];let hR:=iF [0,1,2,3,4];let fp:=av 1 (bb 0 4 2) ef.2.2.1;let jh:=b2 2 aY bz.2.2.2.1;let lF:=av 1 (bb 2 0 2) bg.1;lE (t1.append [(H6 cd.fq cd.ec cd.dF cd.ei cd.hL dh ((bz.2.2.2.2.1.length:Nat):Int) bz.2.1 bz.2.2.1 dh bz.2.2.2.2.1 bg.1 bz.2.2.2.1 bz.2.2.2.2.2 (.inl tz)).ff,(J 6),.aL [0,1,2,3,4] [.box [.id,.id,.id,.id,.id,.id],.bG lF,.bG jh,.pure,.pure] (ba [0,5,181,182]),(H7 cd.fq cd.ec cd.dF cd.ei cd.hL ((bz.2.2.2.2.2.length:Nat):Int) bz.2.1 bz.2.2.1 dh bg.1 bz.2.2.2.1 bz.2.2.2.2.1 gd).ff,.az (aj 5 (an (.call {a0:=(vf [0,1,2,3,4]),dv:=[.bG [ab.mk 6 [a1] .live],.bG lF,.bG jh,.pure,.pure],ac:=[ii,ii],r:= .d7 [],fy:=[[ab.mk 6 [q1] .live],ct,b0,(av 1 eI ef.2.2.2.2),(av 1 el gd)],ib:=ii,kj:=[.bG [ab.mk 6 [q1] .live],.bG ct,.bG b0,.pure,.pure],fU:=[0,1,2,3,4],fP:=false}) [])),(J 3),.B0 [{bE:=[(0,0),(1,0),(3,0),(4,0)],iE:=some (2,0)}] [([.box [.at_ 0 1 ef.2.2.1.length,.id,.id,.at_ 0 2 ef.2.2.2.2.length,.id,.at_ 0 3 gd.length],.rx fp,.pure,.pure],some (.rx b0))] [(2,.bx (.dM (.at_ 0 0 0))),(3,ii)]]) [0] [.bG (ab.mk 6 [(fR 0 1 0 ef.2.2.1.length ef.1 ef.2.1 0 2 0 ef.2.2.2.2.length dh 0 3 0 gd.length)] .live::ab.mk 1 (ef.2.2.1.map (bb 0 4 2)) .live::ab.mk 1 (ef.2.2.2.2.map eI) .live::ab.mk 1 (gd.map el) .live::b0)] (aQ.aJ (.bl (NB e6) (ex (bP [0,1,2,3,4]) 2 2 0 2 rfl bg.1) (dz (bP [0,1,2,3,4]) 2 fb bz.2.2.2.1) (aK 1 .live aP bz.2.2.2.2.1) (aK 1 .live eZ bz.2.2.2.2.2) (Wr fW) (qw fI 6 [a1] [a1] rfl) (po 6 [a1]) (.bl (ex fI 2 2 0 2 rfl bg.1) (po 1 (bg.1.map (bb 2 0 2))) (dz fI 2 fb bz.2.2.2.1) (tJ 2 aY bz.2.2.2.1) (iU 1 aP bz.2.2.2.2.1) (iU 1 eZ gd) (qw hR 6 [q1] [q1] rfl) (po 6 [q1]) (.bl (ex hR 2 2 0 2 rfl ef.2.2.1) (po 1 (ef.2.2.1.map (bb 2 0 2))) (dz hR 2 fb ef.2.2.2.1) (tJ 2 aY ef.2.2.2.1) (iU 1 aP ef.2.2.2.2) (iU 1 eZ gd) (UT ef hD) (rfl:(kG [{bE:=[(0,0),(1,0),(3,0),(4,0)],iE:=some (2,0)}]) 0 1=some (1,0)) (.bl (rfl:ef.2.2.1.length=ef.2.2.1.length) (rfl:(kG [{bE:=[(0,0),(1,0),(3,0),(4,0)],iE:=some (2,0)}]) 0 2=some (3,0)) (rfl:ef.2.2.2.2.length=ef.2.2.2.2.length) (rfl:(kG [{bE:=[(0,0),(1,0),(3,0),(4,0)],iE:=some (2,0)}]) 0 3=some (4,0)) (rfl:gd.length=gd.length) (Qk (KZ (j9:=(bb 0 4 2)) (cY (bb 2 0 2) ef.2.2.1) (fun _=>rfl) (fun x=>(Rh (fun _=>rfl)) x)) QM:rK (kG [{bE:=[(0,0),(1,0),(3,0),(4,0)],iE:=some (2,0)}]) ct fp) (aK 1 .live aP ef.2.2.2.2) (aK 1 .live eZ gd) (.bT (Qm (fJ .live 2 aY ef.2.2.2.1) (fun _=>rfl) fb:rK (kG [{bE:=[(0,0),(1,0),(3,0),(4,0)],iE:=some (2,0)}]) b0 b0) (rfl:(kG [{bE:=[(0,0),(1,0),(3,0),(4,0)],iE:=some (2,0)}]) 0 0=some (0,0)) (c5 (show ab.mk 6 [(fR 0 1 0 ef.2.2.1.length ef.1 ef.2.1 0 2 0 ef.2.2.2.2.length (R (cd.ec+cd.fq)) 0 3 0 gd.length)] .live=gG (bP [0]) (ab.mk 6 [(fR 0 1 0 ef.2.2.1.length ef.1 ef.2.1 0 2 0 ef.2.2.2.2.length (R (cd.ec+cd.fq)) 0 3 0 gd.length)] .live) from rfl) (c5 (ka (bP [0]) 0 0 4 2 rfl ef.2.2.1) (c5 (f6 (bP [0]) 1 jq ef.2.2.2.2) (c5 (f6 (bP [0]) 1 Rg gd) (dz (bP [0]) 2 fb ef.2.2.2.1))))))))))) (.comp [.dM .id,.dM .id])))
  ·exact (.ret (lE (t1.append [.sub (.ret) [(2,.h6),(3,.b false)] []]) [] [] (aQ.aJ (.e1 (NB e6)))))))
def wG (aN:cS)(dm:List Int):Option Bool :=
 y9 aN dm 0 0 >>= fun r1 =>
 z5 r1 >>= fun bk =>
 match bk with
 | .inl fm=>(some true)
 | .inr fm=>(some false)
theorem Uo {aN:cS}{dm:List Int}:bB (wG aN dm) (fun r=>Con bc 34 [.d6 2 [(hT aN)] 0 0,.isl 1 (dm.map eI)] [] (.b r) []):=by
 unfold wG
 exact .ar fun r1 o =>
  .ar fun bk au =>
  (let t1:List bY:=[(J 1),.az (br 2 (bt 4 (.agg (nR r1)) false) 2),.iY 4];
  have aQ:=((.aE (TK r1 o) (qF (Xz r1):jM [(nR r1)])):cz _);
  (by
  rcases bk with fm|fm
  ·exact (.ret (let q1:=fR 0 1 0 fm.2.2.2.1.length fm.1 fm.2.1 0 2 0 fm.2.2.2.2.1.length fm.2.2.1 0 3 0 fm.2.2.2.2.2.1.length;let a1:=b2 2 aY fm.2.2.2.2.2.2;bu (t1.append [.az (an (.call {a0:=[],dv:=[],ac:=[.bx (.ptr [.id,.id,.id,.id,.id])],r:= .d7 [.ref 0 0 0 0,.b true],fy:=[(ab.mk 6 [q1] .live::ab.mk 1 (fm.2.2.2.1.map (bb 0 4 2)) .live::ab.mk 1 (fm.2.2.2.2.1.map eI) .live::ab.mk 1 (fm.2.2.2.2.2.1.map el) .live::a1)],ib:= .comp [.dM .id,.dM .id],kj:=[.bG (ab.mk 6 [(fR 6 1 0 fm.2.2.2.1.length fm.1 fm.2.1 6 2 0 fm.2.2.2.2.1.length fm.2.2.1 6 3 0 fm.2.2.2.2.2.1.length)] .live::ab.mk 1 (fm.2.2.2.1.map (bb 6 4 2)) .live::ab.mk 1 (fm.2.2.2.2.1.map eI) .live::ab.mk 1 (fm.2.2.2.2.2.1.map el) .live::a1)],fU:=[4],fP:=false}) (aj 5 [])),(J 2)]) (aQ.aJ (.bT (c5 (show ab.mk 6 [(fR 6 1 0 fm.2.2.2.1.length fm.1 fm.2.1 6 2 0 fm.2.2.2.2.1.length fm.2.2.1 6 3 0 fm.2.2.2.2.2.1.length)] .live=gG (iF [6]) (ab.mk 6 [(fR 0 1 0 fm.2.2.2.1.length fm.1 fm.2.1 0 2 0 fm.2.2.2.2.1.length fm.2.2.1 0 3 0 fm.2.2.2.2.2.1.length)] .live) from rfl) (c5 (ka (iF [6]) 6 0 4 2 rfl fm.2.2.2.1) (c5 (f6 (iF [6]) 1 jq fm.2.2.2.2.1) (c5 (f6 (iF [6]) 1 Rg fm.2.2.2.2.2.1) (dz (iF [6]) 2 fb fm.2.2.2.2.2.2))))) ((jj rfl (jj rfl (jj rfl (jj rfl (ru (fJ .live 2 aY fm.2.2.2.2.2.2)))))):lA (ab.mk 6 [q1] .live::ab.mk 1 (fm.2.2.2.1.map (bb 0 4 2)) .live::ab.mk 1 (fm.2.2.2.2.1.map eI) .live::ab.mk 1 (fm.2.2.2.2.2.1.map el) .live::a1)) (NY (.inl fm) au)))))
  ·exact (.ret (bu (t1.append [.az (an (.call {a0:=[],dv:=[],ac:=[.bx (.ptr [.id,.id,.id,.id,.id])],r:= .d7 [.h6,.b false],fy:=[],ib:=ii,kj:=[],fU:=[4],fP:=false}) (aj 5 [])),(J 2)]) (aQ.aJ (.e1 (NY (.inr fm) au)))))))
def FJ (ea:List b3)(dG:List cj)(dA:List (List Int))(dq:Int):Int→S:=fun ee=>dr [(0,.d6 2 [[.isl 4 (ea.map b9),.isl 3 (dG.map cv)]] 0 0),(7,.isl 1 (dA.map (eL 1 eI))),(8,.n .i64 dq),(9,.n .i64 ee)] []
def MR (ea:List b3)(dG:List cj)(dA:List (List Int))(dq:Int):((Unit)⊕(Int))→du
 | .inl a=>⟨some 0,[],[]⟩
 | .inr a=>⟨none,[(4,.n .i64 a)],[]⟩
def qx (ea:List b3)(dG:List cj)(dA:List (List Int))(dq ee:Int):Option ((Int)⊕((Unit)⊕(Int))) :=
 if (decide (ee<dq))=true then
  if 0≤ee∧ee<dA.length then
  dA[ee.toNat]? >>= fun aD =>
  wG (⟨ea,dG⟩:cS) aD >>= fun aU =>
  if aU=true then
   some (.inl (R (ee+(1:Int))))
  else
   some (.inr (.inr ee))
  else none
 else
  some (.inr (.inl ()))
def F3 (ea:List b3)(dG:List cj)(dA:List (List Int))(dq ee:Int):Option ((Unit)⊕(Int)):=iter (fun w:Int=>qx ea dG dA dq w) ee
theorem Tx {ea:List b3}{dG:List cj}{dA:List (List Int)}{dq ee:Int}:bB (qx ea dG dA dq ee) (dP bc 20 0 21 [1,0,1,0,0] (FJ ea dG dA dq ee) (FJ ea dG dA dq) (MR ea dG dA dq)):=by
 unfold qx
 exact .ite (fun h1 =>
  .aZ fun o =>
  .ar fun aD au =>
  .ar fun aU a2 =>
  (let t1:List bY:=[(J 1),.aa true,.az (br 2 (.b7 ((eL 1 eI) aD)) 2),.az (br 2 (bt 2 (.b aU) true) 1)];
  have aQ:=((.d9 h1 o.1 (cQ (eL 1 eI) o.2) (bX (eL 1 eI) au) (Uo aU a2) (cc.b aU)):cz _);
  .ite (fun bd =>
  .ret (bj (t1.append [.aa false,(J 2),.aL [] [] (ba [0,7,8,9])]) (aQ.aJ (.e1 (c1 bd)))))
  (fun bd =>
  .ret (bj (t1.append [.aa true,(J 2),.aL [] [] (ba [4])]) (aQ.aJ (.e1 (cW bd)))))))
  (fun h1 =>
  .ret (bj [(J 1),.aa false,.aL [] [] []] (.e1 h1)))
theorem MT {ea:List b3}{dG:List cj}{dA:List (List Int)}{dq ee:Int}{r} (h:F3 ea dG dA dq ee=some r):dQ bc 20 0 21 [1,0,1,0,0] (FJ ea dG dA dq) (MR ea dG dA dq) ee r:=dR (fun _=>Tx) h
def zf (aN:cS)(jB:List (List Int)):Option Int :=
 F3 aN.b1 aN.bO jB (len_ (eL 1 eI) jB) 0 >>= fun r1 =>
 match r1 with
 | .inl dp=>(some (-1))
 | .inr dp=>(some dp)
theorem Up {aN:cS}{jB:List (List Int)}:bB (zf aN jB) (fun r=>Con bc 21 [.d6 2 [(hT aN)] 0 0,.isl 1 (jB.map (eL 1 eI))] [] (.n .i64 r) []):=by
 unfold zf
 exact .ar fun r1 o =>
  (let t1:List bY:=[(J 1),(J 3),.aL [] [] (ba [0,7,8,9])];
  (by
  rcases r1 with dp|dp
  ·exact (.ret (bu (t1.append [.sub (.exit 0) [] [],(J 1)]) (.e1 (MT o))))
  ·exact (.ret (bu (t1.append [.sub (.ret) [(4,.n .i64 dp)] []]) (.e1 (MT o))))))
def zq (aN:cS)(jB:List (List Int)):Option Int :=
 xy aN jB >>= fun r1 =>
 if r1=true then
  zf aN jB >>= fun bg =>
  some bg
 else
  some (-1)
theorem VN {aN:cS}{jB:List (List Int)}:bB (zq aN jB) (fun r=>Con bc 9 [.agg (hT aN),.isl 1 (jB.map (eL 1 eI))] [] (.n .i64 r) []):=by
 unfold zq
 exact .ar fun r1 o =>
  (let t1:List bY:=[(J 2),.az (br 1 (.call {ac:=[.bx (.ptr [.id,.id]),ii],r:= .b r1,fP:=true,fU:=[0]}) 1)];
  have aQ:=((.bT (qF (C3 aN):jM [(hT aN)]) (Xl r1 o) (cc.b r1)):cz _);
  .ite (fun ae =>
  .ar fun bg aA =>
  .ret (bu (t1.append [.aa false,.az (br 1 (.call {ac:=[.bx (.ptr [.id,.id]),ii],r:= .n .i64 bg,fP:=true,fU:=[0]}) 1)]) (aQ.aJ (.de (c1 ae) (qF (C3 aN):jM [(hT aN)]) (Up bg aA) (cc.n .i64 bg)))))
  (fun ae =>
  .ret (bu (t1.append [.aa true,(J 1)]) (aQ.aJ (.e1 (cW ae))))))
def z6 (af ax:b3):Option Bool :=
 if (!(af.ld.toList == ax.ld.toList))=true then
  some false
 else
  if (af.iG != ax.iG)=true then
   some false
  else
   if (af.iH != ax.iH)=true then
    some false
   else
    if (af.la == ax.la)=true then
     some true
    else
     some false
theorem Xq {af ax:b3}:bB (z6 af ax) (fun r=>Con bc 35 [.agg (b9 af),.agg (b9 ax)] [] (.b r) []):=by
 unfold z6
 exact .ite (fun h1 =>
  .ret (bu [(J 3),(J 5),.aa true,(J 1)] (.e1 h1)))
  (fun h1 =>
  (let t1:List bY:=[(J 3),(J 5),.aa false,(J 5)];
  .ite (fun o =>
  .ret (bu (t1.append [.aa true,(J 1)]) (.aE h1 o)))
  (fun o =>
  .ite (fun ae =>
  .ret (bu (t1.append [.aa false,(J 5),.aa true,(J 1)]) (.bT h1 o ae)))
  (fun ae =>
  (let t2:List bY:=t1.append [.aa false,(J 5),.aa false,(J 5)];
  .ite (fun au =>
  .ret (bu (t2.append [.aa false,(J 1)]) (.de h1 o ae (c1 au))))
  (fun au =>
  .ret (bu (t2.append [.aa true,(J 1)]) (.de h1 o ae (cW au)))))))))
def G2 (af ax:List b3):Int→S:=fun ag=>dr [(0,.isl 4 (af.map b9)),(1,.isl 4 (ax.map b9)),(5,.n .i64 ag)] []
def Nf (af ax:List b3):((Unit)⊕(Unit))→du
 | .inl a=>⟨some 0,[],[]⟩
 | .inr a=>⟨none,[(4,.b false)],[]⟩
def wN (af ax:List b3)(ag:Int):Option ((Int)⊕((Unit)⊕(Unit))) :=
 if (decide (ag<(len_ b9 af)))=true then
  if 0≤ag∧ag<af.length then
  af[ag.toNat]? >>= fun aD =>
  if 0≤ag∧ag<ax.length then
  ax[ag.toNat]? >>= fun cu =>
  z6 aD cu >>= fun c0 =>
  if c0=true then
   some (.inl (R (ag+(1:Int))))
  else
   some (.inr (.inr ()))
  else none
  else none
 else
  some (.inr (.inl ()))
def I5 (af ax:List b3)(ag:Int):Option ((Unit)⊕(Unit)):=iter (fun w:Int=>wN af ax w) ag
theorem UD {af ax:List b3}{ag:Int}:bB (wN af ax ag) (dP bc 27 0 22 [1,1,0,1,0,0] (G2 af ax ag) (G2 af ax) (Nf af ax)):=by
 unfold wN
 exact .ite (fun h1 =>
  .aZ fun o =>
  .ar fun aD au =>
  .aZ fun aA =>
  .ar fun cu bd =>
  .ar fun c0 cy =>
  (let t1:List bY:=[(J 4),.aa true,.az (aj 3 (an (.b7 (b9 aD)) (aj 3 (an (.b7 (b9 cu)) (an (bt 2 (.b c0) true) (aj 1 []))))))];
  have aQ:=((.bl h1 o.1 (cQ b9 o.2) (bX b9 au) aA.1 (cQ b9 aA.2) (bX b9 bd) (Xq c0 cy) (.e1 (cc.b c0))):cz _);
  .ite (fun cN =>
  .ret (bj (t1.append [.aa false,(J 3),.aL [] [] (ba [0,1,5])]) (aQ.aJ (.e1 (c1 cN)))))
  (fun cN =>
  .ret (bj (t1.append [.aa true,(J 1),.aL [] [] (ba [4])]) (aQ.aJ (.e1 (cW cN)))))))
  (fun h1 =>
  .ret (bj [(J 4),.aa false,.aL [] [] []] (.e1 h1)))
theorem Nq {af ax:List b3}{ag:Int}{r} (h:I5 af ax ag=some r):dQ bc 27 0 22 [1,1,0,1,0,0] (G2 af ax) (Nf af ax) ag r:=dR (fun _=>UD) h
def zV (af ax:List b3):Option Bool :=
 if ((len_ b9 af) != (len_ b9 ax))=true then
  some false
 else
  I5 af ax 0 >>= fun b5 =>
  match b5 with
  | .inl fh=>(some true)
  | .inr fh=>(some false)
theorem W4 {af ax:List b3}:bB (zV af ax) (fun r=>Con bc 22 [.isl 4 (af.map b9),.isl 4 (ax.map b9)] [] (.b r) []):=by
 unfold zV
 exact .ite (fun h1 =>
  .ret (bu [(J 1),(J 5),.aa true,(J 1)] (.e1 h1)))
  (fun h1 =>
  .ar fun b5 ae =>
  (let t1:List bY:=[(J 1),(J 5),.aa false,(J 1),.aL [] [] (ba [0,1,5])];
  (by
  rcases b5 with fh|fh
  ·exact (.ret (bu (t1.append [.sub (.exit 0) [] [],(J 1)]) (.aE h1 (Nq ae))))
  ·exact (.ret (bu (t1.append [.sub (.ret) [(4,.b false)] []]) (.aE h1 (Nq ae)))))))
def zW (af ax:cj):Option Bool :=
 if (af.dF != ax.dF)=true then
  some false
 else
  if (af.ei != ax.ei)=true then
   some false
  else
   if (af.jc != ax.jc)=true then
    some false
   else
    some true
theorem W5 {af ax:cj}:bB (zW af ax) (fun r=>Con bc 36 [.agg (cv af),.agg (cv ax)] [] (.b r) []):=by
 unfold zW
 exact .ite (fun h1 =>
  .ret (bu [(J 3),(J 5),.aa true,(J 1)] (.e1 h1)))
  (fun h1 =>
  (let t1:List bY:=[(J 3),(J 5),.aa false,(J 5)];
  .ite (fun o =>
  .ret (bu (t1.append [.aa true,(J 1)]) (.aE h1 o)))
  (fun o =>
  .ite (fun ae =>
  .ret (bu (t1.append [.aa false,(J 5),.aa true,(J 1)]) (.bT h1 o ae)))
  (fun ae =>
  .ret (bu (t1.append [.aa false,(J 5),.aa false,(J 1)]) (.bT h1 o ae))))))
def GM (af ax:List cj):Int→S:=fun ag=>dr [(0,.isl 3 (af.map cv)),(1,.isl 3 (ax.map cv)),(5,.n .i64 ag)] []
def M8 (af ax:List cj):((Unit)⊕(Unit))→du
 | .inl a=>⟨some 0,[],[]⟩
 | .inr a=>⟨none,[(4,.b false)],[]⟩
def wH (af ax:List cj)(ag:Int):Option ((Int)⊕((Unit)⊕(Unit))) :=
 if (decide (ag<(len_ cv af)))=true then
  if 0≤ag∧ag<af.length then
  af[ag.toNat]? >>= fun aD =>
  if 0≤ag∧ag<ax.length then
  ax[ag.toNat]? >>= fun cu =>
  zW aD cu >>= fun c0 =>
  if c0=true then
   some (.inl (R (ag+(1:Int))))
  else
   some (.inr (.inr ()))
  else none
  else none
 else
  some (.inr (.inl ()))
def IP (af ax:List cj)(ag:Int):Option ((Unit)⊕(Unit)):=iter (fun w:Int=>wH af ax w) ag
theorem Uq {af ax:List cj}{ag:Int}:bB (wH af ax ag) (dP bc 27 0 23 [1,1,0,1,0,0] (GM af ax ag) (GM af ax) (M8 af ax)):=by
 unfold wH
 exact .ite (fun h1 =>
  .aZ fun o =>
  .ar fun aD au =>
  .aZ fun aA =>
  .ar fun cu bd =>
  .ar fun c0 cy =>
  (let t1:List bY:=[(J 4),.aa true,.az (aj 3 (an (.b7 (cv aD)) (aj 3 (an (.b7 (cv cu)) (an (bt 2 (.b c0) true) (aj 1 []))))))];
  have aQ:=((.bl h1 o.1 (cQ cv o.2) (bX cv au) aA.1 (cQ cv aA.2) (bX cv bd) (W5 c0 cy) (.e1 (cc.b c0))):cz _);
  .ite (fun cN =>
  .ret (bj (t1.append [.aa false,(J 3),.aL [] [] (ba [0,1,5])]) (aQ.aJ (.e1 (c1 cN)))))
  (fun cN =>
  .ret (bj (t1.append [.aa true,(J 1),.aL [] [] (ba [4])]) (aQ.aJ (.e1 (cW cN)))))))
  (fun h1 =>
  .ret (bj [(J 4),.aa false,.aL [] [] []] (.e1 h1)))
theorem Ng {af ax:List cj}{ag:Int}{r} (h:IP af ax ag=some r):dQ bc 27 0 23 [1,1,0,1,0,0] (GM af ax) (M8 af ax) ag r:=dR (fun _=>Uq) h
def zI (af ax:List cj):Option Bool :=
 if ((len_ cv af) != (len_ cv ax))=true then
  some false
 else
  IP af ax 0 >>= fun b5 =>
  match b5 with
  | .inl fh=>(some true)
  | .inr fh=>(some false)
theorem WD {af ax:List cj}:bB (zI af ax) (fun r=>Con bc 23 [.isl 3 (af.map cv),.isl 3 (ax.map cv)] [] (.b r) []):=by
 unfold zI
 exact .ite (fun h1 =>
  .ret (bu [(J 1),(J 5),.aa true,(J 1)] (.e1 h1)))
  (fun h1 =>
  .ar fun b5 ae =>
  (let t1:List bY:=[(J 1),(J 5),.aa false,(J 1),.aL [] [] (ba [0,1,5])];
  (by
  rcases b5 with fh|fh
  ·exact (.ret (bu (t1.append [.sub (.exit 0) [] [],(J 1)]) (.aE h1 (Ng ae))))
  ·exact (.ret (bu (t1.append [.sub (.ret) [(4,.b false)] []]) (.aE h1 (Ng ae)))))))
def zt (af ax:cS):Option Bool :=
 zV af.b1 ax.b1 >>= fun r1 =>
 if r1=true then
  zI af.bO ax.bO >>= fun bg =>
  if bg=true then
   some true
  else
   some false
 else
  some false
theorem V4 {af ax:cS}:bB (zt af ax) (fun r=>Con bc 10 [.agg (hT af),.agg (hT ax)] [] (.b r) []):=by
 unfold zt
 exact .ar fun r1 o =>
  (let t1:List bY:=[(J 3),.az (br 4 (bt 2 (.b r1) true) 1)];
  have aQ:=((.aE (W4 r1 o) (cc.b r1)):cz _);
  .ite (fun ae =>
  .ar fun bg aA =>
  (let t3:List bY:=t1.append [.aa false,.az (br 4 (bt 2 (.b bg) true) 1)];
  have eR:=aQ.aJ (.bT (c1 ae) (WD bg aA) (cc.b bg));
  .ite (fun a2 =>
  .ret (bu (t3.append [.aa false,(J 1)]) (eR.aJ (.e1 (c1 a2)))))
  (fun a2 =>
  .ret (bu (t3.append [.aa true,(J 1)]) (eR.aJ (.e1 (cW a2)))))))
  (fun ae =>
  .ret (bu (t1.append [.aa true,(J 1)]) (aQ.aJ (.e1 (cW ae))))))
def H8 (af ax:List Int):Int→S:=fun ag=>dr [(0,.isl 1 (af.map eI)),(1,.isl 1 (ax.map eI)),(5,.n .i64 ag)] []
def NC (af ax:List Int):((Unit)⊕(Unit))→du
 | .inl a=>⟨some 0,[],[]⟩
 | .inr a=>⟨none,[(4,.b false)],[]⟩
def w9 (af ax:List Int)(ag:Int):Option ((Int)⊕((Unit)⊕(Unit))) :=
 if (decide (ag<(len_ eI af)))=true then
  if 0≤ag∧ag<af.length then
  af[ag.toNat]? >>= fun aD =>
  if 0≤ag∧ag<ax.length then
  ax[ag.toNat]? >>= fun cu =>
  if (aD != cu)=true then
   some (.inr (.inr ()))
  else
   some (.inl (R (ag+(1:Int))))
  else none
  else none
 else
  some (.inr (.inl ()))
def Jy (af ax:List Int)(ag:Int):Option ((Unit)⊕(Unit)):=iter (fun w:Int=>w9 af ax w) ag
theorem Vl {af ax:List Int}{ag:Int}:bB (w9 af ax ag) (dP bc 26 0 24 [1,1,0,1,0,0] (H8 af ax ag) (H8 af ax) (NC af ax)):=by
 unfold w9
 exact .ite (fun h1 =>
  .aZ fun o =>
  .ar fun aD au =>
  .aZ fun aA =>
  .ar fun cu bd =>
  (let t1:List bY:=[(J 4),.aa true,.az (aj 3 (an (.b7 (eI aD)) (br 3 (.b7 (eI cu)) 1)))];
  have aQ:=((.eX h1 o.1 (cQ eI o.2) (bX eI au) aA.1 (cQ eI aA.2) (bX eI bd)):cz _);
  .ite (fun bn =>
  .ret (bj (t1.append [.aa true,(J 1),.aL [] [] (ba [4])]) (aQ.aJ (.e1 bn))))
  (fun bn =>
  .ret (bj (t1.append [.aa false,(J 3),.aL [] [] (ba [0,1,5])]) (aQ.aJ (.e1 bn))))))
  (fun h1 =>
  .ret (bj [(J 4),.aa false,.aL [] [] []] (.e1 h1)))
theorem NM {af ax:List Int}{ag:Int}{r} (h:Jy af ax ag=some r):dQ bc 26 0 24 [1,1,0,1,0,0] (H8 af ax) (NC af ax) ag r:=dR (fun _=>Vl) h
def Af (af ax:List Int):Option Bool :=
 if ((len_ eI af) != (len_ eI ax))=true then
  some false
 else
  Jy af ax 0 >>= fun b5 =>
  match b5 with
  | .inl fh=>(some true)
  | .inr fh=>(some false)
theorem XI {af ax:List Int}:bB (Af af ax) (fun r=>Con bc 24 [.isl 1 (af.map eI),.isl 1 (ax.map eI)] [] (.b r) []):=by
 unfold Af
 exact .ite (fun h1 =>
  .ret (bu [(J 1),(J 5),.aa true,(J 1)] (.e1 h1)))
  (fun h1 =>
  .ar fun b5 ae =>
  (let t1:List bY:=[(J 1),(J 5),.aa false,(J 1),.aL [] [] (ba [0,1,5])];
  (by
  rcases b5 with fh|fh
  ·exact (.ret (bu (t1.append [.sub (.exit 0) [] [],(J 1)]) (.aE h1 (NM ae))))
  ·exact (.ret (bu (t1.append [.sub (.ret) [(4,.b false)] []]) (.aE h1 (NM ae)))))))
def HA (af ax:List (List Int)):Int→S:=fun ag=>dr [(0,.isl 1 (af.map (eL 1 eI))),(1,.isl 1 (ax.map (eL 1 eI))),(5,.n .i64 ag)] []
def Nr (af ax:List (List Int)):((Unit)⊕(Unit))→du
 | .inl a=>⟨some 0,[],[]⟩
 | .inr a=>⟨none,[(4,.b false)],[]⟩
def w2 (af ax:List (List Int))(ag:Int):Option ((Int)⊕((Unit)⊕(Unit))) :=
 if (decide (ag<(len_ (eL 1 eI) af)))=true then
  if 0≤ag∧ag<af.length then
  af[ag.toNat]? >>= fun aD =>
  if 0≤ag∧ag<ax.length then
  ax[ag.toNat]? >>= fun cu =>
  Af aD cu >>= fun c0 =>
  if c0=true then
   some (.inl (R (ag+(1:Int))))
  else
   some (.inr (.inr ()))
  else none
  else none
 else
  some (.inr (.inl ()))
def Jj (af ax:List (List Int))(ag:Int):Option ((Unit)⊕(Unit)):=iter (fun w:Int=>w2 af ax w) ag
theorem U1 {af ax:List (List Int)}{ag:Int}:bB (w2 af ax ag) (dP bc 27 0 11 [1,1,0,1,0,0] (HA af ax ag) (HA af ax) (Nr af ax)):=by
 unfold w2
 exact .ite (fun h1 =>
  .aZ fun o =>
  .ar fun aD au =>
  .aZ fun aA =>
  .ar fun cu bd =>
  .ar fun c0 cy =>
  (let t1:List bY:=[(J 4),.aa true,.az (aj 3 (an (.b7 ((eL 1 eI) aD)) (aj 3 (an (.b7 ((eL 1 eI) cu)) (an (bt 2 (.b c0) true) (aj 1 []))))))];
  have aQ:=((.bl h1 o.1 (cQ (eL 1 eI) o.2) (bX (eL 1 eI) au) aA.1 (cQ (eL 1 eI) aA.2) (bX (eL 1 eI) bd) (XI c0 cy) (.e1 (cc.b c0))):cz _);
  .ite (fun cN =>
  .ret (bj (t1.append [.aa false,(J 3),.aL [] [] (ba [0,1,5])]) (aQ.aJ (.e1 (c1 cN)))))
  (fun cN =>
  .ret (bj (t1.append [.aa true,(J 1),.aL [] [] (ba [4])]) (aQ.aJ (.e1 (cW cN)))))))
  (fun h1 =>
  .ret (bj [(J 4),.aa false,.aL [] [] []] (.e1 h1)))
theorem ND {af ax:List (List Int)}{ag:Int}{r} (h:Jj af ax ag=some r):dQ bc 27 0 11 [1,1,0,1,0,0] (HA af ax) (Nr af ax) ag r:=dR (fun _=>U1) h
def z7 (af ax:List (List Int)):Option Bool :=
 if ((len_ (eL 1 eI) af) != (len_ (eL 1 eI) ax))=true then
  some false
 else
  Jj af ax 0 >>= fun b5 =>
  match b5 with
  | .inl fh=>(some true)
  | .inr fh=>(some false)
theorem Xr {af ax:List (List Int)}:bB (z7 af ax) (fun r=>Con bc 11 [.isl 1 (af.map (eL 1 eI)),.isl 1 (ax.map (eL 1 eI))] [] (.b r) []):=by
 unfold z7
 exact .ite (fun h1 =>
  .ret (bu [(J 1),(J 5),.aa true,(J 1)] (.e1 h1)))
  (fun h1 =>
  .ar fun b5 ae =>
  (let t1:List bY:=[(J 1),(J 5),.aa false,(J 1),.aL [] [] (ba [0,1,5])];
  (by
  rcases b5 with fh|fh
  ·exact (.ret (bu (t1.append [.sub (.exit 0) [] [],(J 1)]) (.aE h1 (ND ae))))
  ·exact (.ret (bu (t1.append [.sub (.ret) [(4,.b false)] []]) (.aE h1 (ND ae)))))))
def CP (BA:cS)(Aw:List (List Int)):Option Bool :=
 uc BA 1048576 >>= fun r1 =>
 if (decide (r1<(0:Int)))=true then
  some true
 else
  zZ Aw r1 >>= fun bg =>
  if (decide (bg<(0:Int)))=true then
   some true
  else
   zo BA >>= fun bJ =>
   zB Aw >>= fun bz =>
   if bz.1.all (oR bz.2)=true then
   xg (⟨bJ.1,bJ.2⟩:cS) (bz.1.map (gz bz.2)) >>= fun dY =>
   zq (⟨bJ.1,bJ.2⟩:cS) (bz.1.map (gz bz.2)) >>= fun gd =>
   if (gd != dY)=true then
    some false
   else
    zt (⟨bJ.1,bJ.2⟩:cS) (⟨bJ.1,bJ.2⟩:cS) >>= fun gp =>
    if gp=true then
     z7 (bz.1.map (gz bz.2)) (bz.1.map (gz bz.2)) >>= fun jw =>
     if jw=true then
      some true
     else
      some false
    else
     some false
   else none
theorem TZ {BA:cS}{Aw:List (List Int)}:bB (CP BA Aw) (fun r=>Con bc 3 [.agg (hT BA),.isl 1 (Aw.map (eL 1 eI))] [] (.b r) []):=by
 unfold CP
 exact .ar fun r1 o =>
  (let t1:List bY:=[(J 2),(J 1),.az (br 2 (bt 2 (.n .i64 r1) true) 1),(J 2)];
  have aQ:=((.aE (VP r1 o) (cc.n .i64 r1)):cz _);
  .ite (fun ae =>
  .ret (bu (t1.append [.aa true,(J 1)]) (aQ.aJ (.e1 ae))))
  (fun ae =>
  .ar fun bg aA =>
  (let t3:List bY:=t1.append [.aa false,.az (br 2 (bt 2 (.n .i64 bg) true) 1),(J 2)];
  have eR:=aQ.aJ (.bT ae (Xc bg aA) (cc.n .i64 bg));
  .ite (fun a2 =>
  .ret (bu (t3.append [.aa true,(J 1)]) (eR.aJ (.e1 a2))))
  (fun a2 =>
  .ar fun bJ bn =>
  .ar fun bz cN =>
  .aZ fun eW =>
  .ar fun dY ez =>
  .ar fun gd fW =>
  (let ct:=b2 1 eI bz.2;let dh:=av 1 (bb 18 1 1) bz.1;let fI:=av 1 (bb 26 1 1) bz.1;let t5:List bY:=t3.append [.aa false,.az (aj 1 (an (.call {a0:=[],dv:=[],ac:=[ii],r:= .agg [.bm 0 0 0 bJ.1.length,.bm 0 1 0 bJ.2.length],fy:=[[ab.mk 4 (bJ.1.map b9) .live,ab.mk 3 (bJ.2.map cv) .live]],ib:= .bx (.agg [.id,.id]),kj:=[.bG [ab.mk 4 (bJ.1.map b9) .live,ab.mk 3 (bJ.2.map cv) .live]],fU:=[],fP:=true}) (aj 1 (an (.call {a0:=[],dv:=[],ac:=[ii],r:= .bm 0 0 0 bz.1.length,fy:=[(ab.mk 1 (bz.1.map (bb 0 1 1)) .live::ct)],ib:=ii,kj:=[.bG (ab.mk 1 (bz.1.map (bb 18 1 1)) .live::ct)],fU:=[],fP:=true}) (an (.call {ac:=[.bx (.agg [.e7 (bJ.1.map b9),.e7 (bJ.2.map cv)]),.bx (.dM (.view 18 (ab.mk 1 (bz.1.map (bb 18 1 1)) .live) ((bz.1.map (gz bz.2)).map (eL 1 eI))))],r:= .n .i64 dY,fP:=true,fU:=[16,18]}) (aj 1 [])))))),.az (br 1 (.call {a0:=[],dv:=[],ac:=[ii],r:= .agg [.bm 0 0 0 bJ.1.length,.bm 0 1 0 bJ.2.length],fy:=[[ab.mk 4 (bJ.1.map b9) .live,ab.mk 3 (bJ.2.map cv) .live]],ib:= .bx (.agg [.id,.id]),kj:=[.bG [ab.mk 4 (bJ.1.map b9) .live,ab.mk 3 (bJ.2.map cv) .live]],fU:=[],fP:=true}) 2),.az (br 1 (.call {a0:=[],dv:=[],ac:=[ii],r:= .bm 0 0 0 bz.1.length,fy:=[(ab.mk 1 (bz.1.map (bb 0 1 1)) .live::ct)],ib:=ii,kj:=[.bG (ab.mk 1 (bz.1.map (bb 26 1 1)) .live::ct)],fU:=[],fP:=true}) 1),.az (br 2 (.call {ac:=[.bx (.agg [.e7 (bJ.1.map b9),.e7 (bJ.2.map cv)]),.bx (.dM (.view 26 (ab.mk 1 (bz.1.map (bb 26 1 1)) .live) ((bz.1.map (gz bz.2)).map (eL 1 eI))))],r:= .n .i64 gd,fP:=true,fU:=[22,26]}) 1),(J 3)];
  have kK:=eR.aJ (.bl a2 (c5 (f6 (iF [16]) 4 DC bJ.1) (c5 (f6 (iF [16]) 3 Dy bJ.2) (o8 (ca:=(iF [16]))))) ((jj rfl (jj rfl DT)):lA [ab.mk 4 (bJ.1.map b9) .live,ab.mk 3 (bJ.2.map cv) .live]) (GO bJ bn) (cc.agg (o6 (cc.bm 0 0 0 bJ.1.length) (o6 (cc.bm 0 1 0 bJ.2.length) uN))) ((qH (o5 (oo DD) (o5 (oo Dz) s7)) qJ):n7 [[ab.mk 4 (bJ.1.map b9) .live,ab.mk 3 (bJ.2.map cv) .live]]) (c5 (ka (iF [18]) 18 0 1 1 rfl bz.1) (dz (iF [18]) 1 jq bz.2)) ((jj rfl (ru (fJ .live 1 eI bz.2))):lA (ab.mk 1 (bz.1.map (bb 0 1 1)) .live::ct)) (.bl (IA bz cN) (cc.bm 0 0 0 bz.1.length) ((qH (o5 (oo (K0 _ _ _)) (Kn yi)) qJ):n7 [(ab.mk 1 (bz.1.map (bb 0 1 1)) .live::ct)]) (gQ b9 bJ.1) (fY b9 bJ.1) (dX pY bJ.1) (gQ cv bJ.2) (fY cv bJ.2) (.bl (dX pW bJ.2) (rfl:dg (some (ab.mk 1 (bz.1.map (bb 18 1 1)) .live::ct)) 0=some (ab.mk 1 (bz.1.map (bb 18 1 1)) .live)) (rfl:_=true) (fY (bb 18 1 1) bz.1) (dX (l4 (sz:=1) aP) (bz.1.map (gz bz.2))) (qO (dD:=18) (iA:=dh++ct) (bW:=ja) (sz:=1) (g:=(eL 1 eI)) (cY (bb 18 1 1) bz.1) (fun _=>rfl) (fun x U=>(rM (dD:=18) (c:=1) (bW:=ja) (oz:=dh) (fJ .live 1 eI bz.2) aP rfl ix rfl (rC eW x U))) (dO bz.1)) (VE dY ez) (cc.n .i64 dY) (.bl (c5 (f6 (iF [22]) 4 DC bJ.1) (c5 (f6 (iF [22]) 3 Dy bJ.2) (o8 (ca:=(iF [22]))))) ((jj rfl (jj rfl DT)):lA [ab.mk 4 (bJ.1.map b9) .live,ab.mk 3 (bJ.2.map cv) .live]) (GO bJ bn) (cc.agg (o6 (cc.bm 0 0 0 bJ.1.length) (o6 (cc.bm 0 1 0 bJ.2.length) uN))) ((qH (o5 (oo DD) (o5 (oo Dz) s7)) qJ):n7 [[ab.mk 4 (bJ.1.map b9) .live,ab.mk 3 (bJ.2.map cv) .live]]) (c5 (ka (iF [26]) 26 0 1 1 rfl bz.1) (dz (iF [26]) 1 jq bz.2)) ((jj rfl (ru (fJ .live 1 eI bz.2))):lA (ab.mk 1 (bz.1.map (bb 0 1 1)) .live::ct)) (IA bz cN) (.bl (cc.bm 0 0 0 bz.1.length) ((qH (o5 (oo (K0 _ _ _)) (Kn yi)) qJ):n7 [(ab.mk 1 (bz.1.map (bb 0 1 1)) .live::ct)]) (gQ b9 bJ.1) (fY b9 bJ.1) (dX pY bJ.1) (gQ cv bJ.2) (fY cv bJ.2) (dX pW bJ.2) (.eX (rfl:dg (some (ab.mk 1 (bz.1.map (bb 26 1 1)) .live::ct)) 0=some (ab.mk 1 (bz.1.map (bb 26 1 1)) .live)) (rfl:_=true) (fY (bb 26 1 1) bz.1) (dX (l4 (sz:=1) aP) (bz.1.map (gz bz.2))) (qO (dD:=26) (iA:=fI++ct) (bW:=ja) (sz:=1) (g:=(eL 1 eI)) (cY (bb 26 1 1) bz.1) (fun _=>rfl) (fun x U=>(rM (dD:=26) (c:=1) (bW:=ja) (oz:=fI) (fJ .live 1 eI bz.2) aP rfl ix rfl (rC eW x U))) (dO bz.1)) (VN gd fW) (cc.n .i64 gd)))))));
  .ite (fun h4 =>
  .ret (bu (t5.append [.aa true,(J 1)]) (kK.aJ (.e1 h4))))
  (fun h4 =>
  .ar fun gp hE =>
  (let t7:List bY:=t5.append [.aa false,.az (aj 2 (an (.call {a0:=[],dv:=[],ac:=[ii],r:= .agg [.bm 0 0 0 bJ.1.length,.bm 0 1 0 bJ.2.length],fy:=[[ab.mk 4 (bJ.1.map b9) .live,ab.mk 3 (bJ.2.map cv) .live]],ib:= .bx (.agg [.id,.id]),kj:=[.bG [ab.mk 4 (bJ.1.map b9) .live,ab.mk 3 (bJ.2.map cv) .live]],fU:=[],fP:=true}) (an (.call {ac:=[.bx (.agg [.e7 (bJ.1.map b9),.e7 (bJ.2.map cv)]),.bx (.agg [.e7 (bJ.1.map b9),.e7 (bJ.2.map cv)])],r:= .b gp,fP:=true,fU:=[22,37]}) (aj 1 []))))];
  have mB:=kK.aJ (.bl h4 (c5 (f6 (iF [37]) 4 DC bJ.1) (c5 (f6 (iF [37]) 3 Dy bJ.2) (o8 (ca:=(iF [37]))))) ((jj rfl (jj rfl DT)):lA [ab.mk 4 (bJ.1.map b9) .live,ab.mk 3 (bJ.2.map cv) .live]) (GO bJ bn) (cc.agg (o6 (cc.bm 0 0 0 bJ.1.length) (o6 (cc.bm 0 1 0 bJ.2.length) uN))) ((qH (o5 (oo DD) (o5 (oo Dz) s7)) qJ):n7 [[ab.mk 4 (bJ.1.map b9) .live,ab.mk 3 (bJ.2.map cv) .live]]) (gQ b9 bJ.1) (fY b9 bJ.1) (.bl (dX pY bJ.1) (gQ cv bJ.2) (fY cv bJ.2) (dX pW bJ.2) (gQ b9 bJ.1) (fY b9 bJ.1) (dX pY bJ.1) (gQ cv bJ.2) (.de (fY cv bJ.2) (dX pW bJ.2) (V4 gp hE) (cc.b gp))));
  .ite (fun gA =>
  .ar fun jw gO =>
  (let q1:=b2 1 eI bz.2;let a1:=av 1 (bb 26 1 1) bz.1;let b0:=av 1 (bb 42 1 1) bz.1;let t9:List bY:=t7.append [.aa false,.az (aj 2 (an (.call {a0:=[],dv:=[],ac:=[ii],r:= .bm 0 0 0 bz.1.length,fy:=[(ab.mk 1 (bz.1.map (bb 0 1 1)) .live::q1)],ib:=ii,kj:=[.bG (ab.mk 1 (bz.1.map (bb 42 1 1)) .live::q1)],fU:=[],fP:=true}) (an (.call {ac:=[.bx (.dM (.view 26 (ab.mk 1 (bz.1.map (bb 26 1 1)) .live) ((bz.1.map (gz bz.2)).map (eL 1 eI)))),.bx (.dM (.view 42 (ab.mk 1 (bz.1.map (bb 42 1 1)) .live) ((bz.1.map (gz bz.2)).map (eL 1 eI))))],r:= .b jw,fP:=true,fU:=[26,42]}) (aj 1 []))))];
  have Sn:=mB.aJ (.bl (c1 gA) (c5 (ka (iF [42]) 42 0 1 1 rfl bz.1) (dz (iF [42]) 1 jq bz.2)) ((jj rfl (ru (fJ .live 1 eI bz.2))):lA (ab.mk 1 (bz.1.map (bb 0 1 1)) .live::q1)) (IA bz cN) (cc.bm 0 0 0 bz.1.length) ((qH (o5 (oo (K0 _ _ _)) (Kn yi)) qJ):n7 [(ab.mk 1 (bz.1.map (bb 0 1 1)) .live::q1)]) (rfl:dg (some (ab.mk 1 (bz.1.map (bb 26 1 1)) .live::q1)) 0=some (ab.mk 1 (bz.1.map (bb 26 1 1)) .live)) (rfl:_=true) (.bl (fY (bb 26 1 1) bz.1) (dX (l4 (sz:=1) aP) (bz.1.map (gz bz.2))) (qO (dD:=26) (iA:=a1++q1) (bW:=ja) (sz:=1) (g:=(eL 1 eI)) (cY (bb 26 1 1) bz.1) (fun _=>rfl) (fun x U=>(rM (dD:=26) (c:=1) (bW:=ja) (oz:=a1) (fJ .live 1 eI bz.2) aP rfl ix rfl (rC eW x U))) (dO bz.1)) (rfl:dg (some (ab.mk 1 (bz.1.map (bb 42 1 1)) .live::q1)) 0=some (ab.mk 1 (bz.1.map (bb 42 1 1)) .live)) (rfl:_=true) (fY (bb 42 1 1) bz.1) (dX (l4 (sz:=1) aP) (bz.1.map (gz bz.2))) (qO (dD:=42) (iA:=b0++q1) (bW:=ja) (sz:=1) (g:=(eL 1 eI)) (cY (bb 42 1 1) bz.1) (fun _=>rfl) (fun x U=>(rM (dD:=42) (c:=1) (bW:=ja) (oz:=b0) (fJ .live 1 eI bz.2) aP rfl ix rfl (rC eW x U))) (dO bz.1)) (.aE (Xr jw gO) (cc.b jw))));
  .ite (fun iT =>
  .ret (bu (t9.append [.aa false,(J 1)]) (Sn.aJ (.e1 (c1 iT)))))
  (fun iT =>
  .ret (bu (t9.append [.aa true,(J 1)]) (Sn.aJ (.e1 (cW iT)))))))
  (fun gA =>
  .ret (bu (t7.append [.aa true,(J 1)]) (mB.aJ (.e1 (cW gA))))))))))))
end Go.Proofs.YtamedijmgkdlgadGreat
