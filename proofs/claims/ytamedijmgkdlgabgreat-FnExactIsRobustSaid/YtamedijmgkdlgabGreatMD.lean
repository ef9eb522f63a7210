/- Lemmas, plain functions of the program, and what they answer. No condition. -/
import Derived.Test.YtamedijmgkdlgabGreatMC
namespace Go.Proofs.YtamedijmgkdlgabGreat
set_option linter.unusedVariables false
set_option linter.unusedSimpArgs false
open Go Go.VL
def E6 (fA:List bD)(e8:List bP)(bY:List Int)(iD:List eA)(ag:Int)(gK:List Int)(e3:List (List Int))(gx fj bK dK:Int)(aj aH:List Int):(Int×(List Int))→S:=fun (gy,aA)=>dm [(0,.eb 2 [[.isl 4 (fA.map bL),.isl 3 (e8.map bU)]] 0 0),(1,.isl 1 (bY.map eI)),(8,.ref 0 0 0 0),(10,.isl 2 (iD.map gn)),(11,.ref 1 0 0 0),(12,.n .i64 ag),(13,.isl 1 (gK.map eI)),(46,.isl 1 (e3.map (eu 1 eI))),(47,.n .i64 gx),(48,.n .i64 ag),(53,.isl 2 (iD.map gn)),(54,.n .i64 fj),(55,.n .i64 gy)] [[ae.mk 5 [[.n .i64 (0:Int),.n .i64 (0:Int),.eo,.eo,.eo]] .live],[ae.mk 5 [(yw bK dK 2 0 0 aA.length 3 0 0 aj.length 4 0 0 aH.length)] .live],(af 1 eI aA),(af 1 eI aj),(af 1 eI aH)]
def Fb (fA:List bD)(e8:List bP)(bY:List Int)(iD:List eA)(ag:Int)(gK:List Int)(e3:List (List Int))(gx fj bK dK:Int)(aj aH:List Int):(List Int)→dp
 | a=>⟨some 2,[(0,.eb 2 [[.isl 4 (fA.map bL),.isl 3 (e8.map bU)]] 0 0),(1,.isl 1 (bY.map eI)),(8,.ref 0 0 0 0),(10,.isl 2 (iD.map gn)),(11,.ref 1 0 0 0),(46,.isl 1 (e3.map (eu 1 eI))),(47,.n .i64 gx),(48,.n .i64 ag)],[[ae.mk 5 [[.n .i64 (0:Int),.n .i64 (0:Int),.eo,.eo,.eo]] .live],[ae.mk 5 [(yw bK dK 2 0 0 a.length 3 0 0 aj.length 4 0 0 aH.length)] .live],(af 1 eI a),(af 1 eI aj),(af 1 eI aH)]⟩
def vE (fA:List bD)(e8:List bP)(bY:List Int)(iD:List eA)(ag:Int)(gK:List Int)(e3:List (List Int))(gx fj bK dK:Int)(aj aH:List Int)(gy:Int)(aA:List Int):Option ((Int×(List Int))⊕((List Int))) :=
 if (decide (gy<fj))=true then
  if 0≤gy∧gy<iD.length then
  iD[gy.toNat]? >>= fun aI =>
  if 0≤aI.mG∧aI.mG<gK.length then
  gK[aI.mG.toNat]? >>= fun cw =>
  if 0≤(R ((R (ag*dK))+gy))∧(R ((R (ag*dK))+gy))<(aA.length:Nat) then
  if (0+(R ((R (ag*dK))+gy)).toNat)<aA.length then
  some (.inl (R (gy+(1:Int)),aA.set (0+(R ((R (ag*dK))+gy)).toNat) (R (aI.p4*cw))))
  else none
  else none
  else none
  else none
 else
  some (.inr aA)
def Fm (fA:List bD)(e8:List bP)(bY:List Int)(iD:List eA)(ag:Int)(gK:List Int)(e3:List (List Int))(gx fj bK dK:Int)(aj aH:List Int)(gy:Int)(aA:List Int):Option ((List Int)):=iter (fun w:Int×(List Int)=>vE fA e8 bY iD ag gK e3 gx fj bK dK aj aH w.1 w.2) (gy,aA)
theorem SS {fA:List bD}{e8:List bP}{bY:List Int}{iD:List eA}{ag:Int}{gK:List Int}{e3:List (List Int)}{gx fj bK dK:Int}{aj aH:List Int}{gy:Int}{aA:List Int}:bz (vE fA e8 bY iD ag gK e3 gx fj bK dK aj aH gy aA) (dQ a9 113 0 46 [1,1,1,1,0,1,0,0,1,1,0,0,1,1,0,0] (E6 fA e8 bY iD ag gK e3 gx fj bK dK aj aH (gy,aA)) (E6 fA e8 bY iD ag gK e3 gx fj bK dK aj aH) (Fb fA e8 bY iD ag gK e3 gx fj bK dK aj aH)):=by
 unfold vE
 exact .ite (fun h1 =>
  .a0 fun o =>
  .au fun aI av =>
  .a0 fun az =>
  .au fun cw bg =>
  .a0 fun bl =>
  .a0 fun cq =>
  .ret (let q1:=R ((R (ag*dK))+gy);let a2:=R (aI.p4*cw);bi [(J 1),.aa true,.ax (bt 2 (.b9 (gn aI)) 3),.ax (ah 14 (an (.b9 (eI cw)) (ah 2 (an .fP [])))),(J 2),.aO [0,1,2,3,4] [.box [.id,.id,.id,.id,.id],.box [.id,.id,.len ((aA.set (0+q1.toNat) a2).length),.id,.id],.cA (af 1 eI (aA.set (0+q1.toNat) a2)),.pure,.pure] (ba [0,1,8,10,11,12,13,46,47,48,53,54,55])] (.bk h1 o.1 (cU gn o.2) (bX gn av) az.1 (cU eI az.2) (bX eI bg) bl.1 (.gD bl.2 (hE eI cq) (hz 1) (hU (dJ aA) (0+q1.toNat) a2) (cY 1 .live (gI (cX eI aA) (0+q1.toNat) a2)) (aK 1 .live aQ (aA.set (0+q1.toNat) a2)) (aK 1 .live aQ aj) (aK 1 .live aQ aH)))))
  (fun h1 =>
  .ret (bi [(J 1),.aa false,.aO [0,1,2,3,4] [.box [.id,.id,.id,.id,.id],.box [.id,.id,.id,.id,.id],.pure,.pure,.pure] (ba [0,1,8,10,11,46,47,48])] (.da h1 (aK 1 .live aQ aA) (aK 1 .live aQ aj) (aK 1 .live aQ aH))))
theorem S6 {fA:List bD}{e8:List bP}{bY:List Int}{iD:List eA}{ag:Int}{gK:List Int}{e3:List (List Int)}{gx fj bK dK:Int}{aj aH:List Int}{gy:Int}{aA:List Int}{r} (h:Fm fA e8 bY iD ag gK e3 gx fj bK dK aj aH gy aA=some r):dR a9 113 0 46 [1,1,1,1,0,1,0,0,1,1,0,0,1,1,0,0] (E6 fA e8 bY iD ag gK e3 gx fj bK dK aj aH) (Fb fA e8 bY iD ag gK e3 gx fj bK dK aj aH) (gy,aA) r:=dS (fun _=>SS) h
def E7 (fA:List bD)(e8:List bP)(bY:List Int)(iD:List eA)(e3:List (List Int))(gx bK dK:Int)(aj aH:List Int):(Int×(List Int))→S:=fun (nx,aA)=>dm [(0,.eb 2 [[.isl 4 (fA.map bL),.isl 3 (e8.map bU)]] 0 0),(1,.isl 1 (bY.map eI)),(8,.ref 0 0 0 0),(10,.isl 2 (iD.map gn)),(11,.ref 1 0 0 0),(46,.isl 1 (e3.map (eu 1 eI))),(47,.n .i64 gx),(48,.n .i64 nx)] [[ae.mk 5 [[.n .i64 (0:Int),.n .i64 (0:Int),.eo,.eo,.eo]] .live],[ae.mk 5 [(yw bK dK 2 0 0 aA.length 3 0 0 aj.length 4 0 0 aH.length)] .live],(af 1 eI aA),(af 1 eI aj),(af 1 eI aH)]
def Fc (fA:List bD)(e8:List bP)(bY:List Int)(iD:List eA)(e3:List (List Int))(gx bK dK:Int)(aj aH:List Int):(List Int)→dp
 | a=>⟨some 0,[(0,.eb 2 [[.isl 4 (fA.map bL),.isl 3 (e8.map bU)]] 0 0),(1,.isl 1 (bY.map eI)),(8,.ref 0 0 0 0),(11,.ref 1 0 0 0)],[[ae.mk 5 [[.n .i64 (0:Int),.n .i64 (0:Int),.eo,.eo,.eo]] .live],[ae.mk 5 [(yw bK dK 2 0 0 a.length 3 0 0 aj.length 4 0 0 aH.length)] .live],(af 1 eI a),(af 1 eI aj),(af 1 eI aH)]⟩
def vF (fA:List bD)(e8:List bP)(bY:List Int)(iD:List eA)(e3:List (List Int))(gx bK dK:Int)(aj aH:List Int)(nx:Int)(aA:List Int):Option ((Int×(List Int))⊕((List Int))) :=
 if (decide (nx<gx))=true then
  if 0≤nx∧nx<e3.length then
  e3[nx.toNat]? >>= fun aI =>
  Fm fA e8 bY iD nx aI e3 gx (len_ gn iD) bK dK aj aH 0 aA >>= fun aM =>
  some (.inl (R (nx+(1:Int)),aM))
  else none
 else
  some (.inr aA)
def Fo (fA:List bD)(e8:List bP)(bY:List Int)(iD:List eA)(e3:List (List Int))(gx bK dK:Int)(aj aH:List Int)(nx:Int)(aA:List Int):Option ((List Int)):=iter (fun w:Int×(List Int)=>vF fA e8 bY iD e3 gx bK dK aj aH w.1 w.2) (nx,aA)
theorem SU {fA:List bD}{e8:List bP}{bY:List Int}{iD:List eA}{e3:List (List Int)}{gx bK dK:Int}{aj aH:List Int}{nx:Int}{aA:List Int}:bz (vF fA e8 bY iD e3 gx bK dK aj aH nx aA) (dQ a9 113 0 46 [1,1,1,1,0,1,0,0] (E7 fA e8 bY iD e3 gx bK dK aj aH (nx,aA)) (E7 fA e8 bY iD e3 gx bK dK aj aH) (Fc fA e8 bY iD e3 gx bK dK aj aH)):=by
 unfold vF
 exact .ite (fun h1 =>
  .a0 fun o =>
  .au fun aI av =>
  .au fun aM aZ =>
  .ret (bi [(J 1),.aa true,.ax (bt 2 (.b9 ((eu 1 eI) aI)) 2),(J 3),.aO [0,1,2,3,4] [.box [.id,.id,.id,.id,.id],.box [.id,.id,.id,.id,.id],.pure,.pure,.pure] (ba [0,1,8,10,11,12,13,46,47,48,53,54,55]),(Fb fA e8 bY iD nx aI e3 gx (len_ gn iD) bK dK aj aH aM).fc,(J 2),.aO [0,1,2,3,4] [.box [.id,.id,.id,.id,.id],.box [.id,.id,.id,.id,.id],.pure,.pure,.pure] (ba [0,1,8,10,11,46,47,48])] (.bk h1 o.1 (cU (eu 1 eI) o.2) (bX (eu 1 eI) av) (aK 1 .live aQ aA) (aK 1 .live aQ aj) (aK 1 .live aQ aH) (S6 aZ) (.bS (aK 1 .live aQ aM) (aK 1 .live aQ aj) (aK 1 .live aQ aH)))))
  (fun h1 =>
  .ret (bi [(J 1),.aa false,.aO [0,1,2,3,4] [.box [.id,.id,.id,.id,.id],.box [.id,.id,.id,.id,.id],.pure,.pure,.pure] (ba [0,1,8,11])] (.da h1 (aK 1 .live aQ aA) (aK 1 .live aQ aj) (aK 1 .live aQ aH))))
theorem S7 {fA:List bD}{e8:List bP}{bY:List Int}{iD:List eA}{e3:List (List Int)}{gx bK dK:Int}{aj aH:List Int}{nx:Int}{aA:List Int}{r} (h:Fo fA e8 bY iD e3 gx bK dK aj aH nx aA=some r):dR a9 113 0 46 [1,1,1,1,0,1,0,0] (E7 fA e8 bY iD e3 gx bK dK aj aH) (Fc fA e8 bY iD e3 gx bK dK aj aH) (nx,aA) r:=dS (fun _=>SU) h
def E8 (bY n4:List Int)(oF bK dK:Int)(aA aH:List Int):(Int×(List Int))→S:=fun (kT,aj)=>dm [(1,.isl 1 (bY.map eI)),(8,.ref 0 0 0 0),(11,.ref 1 0 0 0),(80,.isl 1 (n4.map eI)),(81,.n .i64 oF),(82,.n .i64 kT)] [[ae.mk 5 [[.n .i64 (0:Int),.n .i64 (0:Int),.eo,.eo,.eo]] .live],[ae.mk 5 [(yw bK dK 2 0 0 aA.length 3 0 0 aj.length 4 0 0 aH.length)] .live],(af 1 eI aA),(af 1 eI aj),(af 1 eI aH)]
def Fe (bY n4:List Int)(oF bK dK:Int)(aA aH:List Int):(List Int)→dp
 | a=>⟨some 4,[(8,.ref 0 0 0 0),(11,.ref 1 0 0 0)],[[ae.mk 5 [[.n .i64 (0:Int),.n .i64 (0:Int),.eo,.eo,.eo]] .live],[ae.mk 5 [(yw bK dK 2 0 0 aA.length 3 0 0 a.length 4 0 0 aH.length)] .live],(af 1 eI aA),(af 1 eI a),(af 1 eI aH)]⟩
def vG (bY n4:List Int)(oF bK dK:Int)(aA aH:List Int)(kT:Int)(aj:List Int):Option ((Int×(List Int))⊕((List Int))) :=
 if (decide (kT<oF))=true then
  if 0≤kT∧kT<n4.length then
  n4[kT.toNat]? >>= fun aI =>
  if 0≤(R ((2:Int)*aI))∧(R ((2:Int)*aI))<bY.length then
  bY[(R ((2:Int)*aI)).toNat]? >>= fun cw =>
  if 0≤(R ((R ((2:Int)*aI))+(1:Int)))∧(R ((R ((2:Int)*aI))+(1:Int)))<bY.length then
  bY[(R ((R ((2:Int)*aI))+(1:Int))).toNat]? >>= fun ew =>
  if 0≤(R ((2:Int)*kT))∧(R ((2:Int)*kT))<(aj.length:Nat) then
  if (0+(R ((2:Int)*kT)).toNat)<aj.length then
  if 0≤(R ((R ((2:Int)*kT))+(1:Int)))∧(R ((R ((2:Int)*kT))+(1:Int)))<(aj.length:Nat) then
  if (0+(R ((R ((2:Int)*kT))+(1:Int))).toNat)<(aj.set (0+(R ((2:Int)*kT)).toNat) (R (0-cw))).length then
  some (.inl (R (kT+(1:Int)),(aj.set (0+(R ((2:Int)*kT)).toNat) (R (0-cw))).set (0+(R ((R ((2:Int)*kT))+(1:Int))).toNat) (R (0-ew))))
  else none
  else none
  else none
  else none
  else none
  else none
  else none
 else
  some (.inr aj)
def Fp (bY n4:List Int)(oF bK dK:Int)(aA aH:List Int)(kT:Int)(aj:List Int):Option ((List Int)):=iter (fun w:Int×(List Int)=>vG bY n4 oF bK dK aA aH w.1 w.2) (kT,aj)
theorem SV {bY n4:List Int}{oF bK dK:Int}{aA aH:List Int}{kT:Int}{aj:List Int}:bz (vG bY n4 oF bK dK aA aH kT aj) (dQ a9 113 0 46 [1,1,1,1,1,0,1,0,0] (E8 bY n4 oF bK dK aA aH (kT,aj)) (E8 bY n4 oF bK dK aA aH) (Fe bY n4 oF bK dK aA aH)):=by
 unfold vG
 exact .ite (fun h1 =>
  .a0 fun o =>
  .au fun aI av =>
  .a0 fun az =>
  .au fun cw bg =>
  .a0 fun bl =>
  .au fun ew cQ =>
  .a0 fun fa =>
  .a0 fun eV =>
  .a0 fun et =>
  .a0 fun eB =>
  .ret (let q1:=(R ((2:Int)*kT));let a2:=(R (q1+(1:Int)));let bO:=R (0-cw);let b4:=R (0-ew);bi [(J 1),.aa true,.ax (bt 2 (.b9 (eI aI)) 2),.ax (ah 13 (an (.b9 (eI cw)) (ah 6 (an (.b9 (eI ew)) (ah 2 (an .fP (ah 1 (an .fP [])))))))),(J 2),.aO [0,1,2,3,4] [.box [.id,.id,.id,.id,.id],.box [.id,.id,.id,.len (((aj.set (0+q1.toNat) bO).set (0+a2.toNat) b4).length),.id],.pure,.cA (af 1 eI ((aj.set (0+q1.toNat) bO).set (0+a2.toNat) b4)),.pure] (ba [1,8,11,80,81,82])] (.bk h1 o.1 (cU eI o.2) (bX eI av) az.1 (cU eI az.2) (bX eI bg) bl.1 (.bk (cU eI bl.2) (bX eI cQ) fa.1 fa.2 (hE eI eV) (hz 1) et.1 et.2 (.er (abp (gI (cX eI aj) (0+q1.toNat) bO) eB) (hz 1) (hU (hU (dJ aj) (0+q1.toNat) bO) (0+a2.toNat) b4) (aK 1 .live aQ aA) (cY 1 .live (gI (gI (cX eI aj) (0+q1.toNat) bO) (0+a2.toNat) b4)) (aK 1 .live aQ ((aj.set (0+q1.toNat) bO).set (0+a2.toNat) b4)) (aK 1 .live aQ aH))))))
  (fun h1 =>
  .ret (bi [(J 1),.aa false,.aO [0,1,2,3,4] [.box [.id,.id,.id,.id,.id],.box [.id,.id,.id,.id,.id],.pure,.pure,.pure] (ba [8,11])] (.da h1 (aK 1 .live aQ aA) (aK 1 .live aQ aj) (aK 1 .live aQ aH))))
theorem S8 {bY n4:List Int}{oF bK dK:Int}{aA aH:List Int}{kT:Int}{aj:List Int}{r} (h:Fp bY n4 oF bK dK aA aH kT aj=some r):dR a9 113 0 46 [1,1,1,1,1,0,1,0,0] (E8 bY n4 oF bK dK aA aH) (Fe bY n4 oF bK dK aA aH) (kT,aj) r:=dS (fun _=>SV) h
def yS (aL:ct)(bY:List Int)(nr nU:Int):Option hp :=
 yT aL >>= fun r1 =>
 yX aL >>= fun bj =>
 if 0≤(R ((R ((len_ (eu 1 eI) r1)+nU))*(R ((len_ gn bj)+nr))))∧(8:Int)*(R ((R ((len_ (eu 1 eI) r1)+nU))*(R ((len_ gn bj)+nr))))≤281474976710656∧(R ((R ((len_ (eu 1 eI) r1)+nU))*(R ((len_ gn bj)+nr))))<9223372036854775808 then
 if 0≤(R ((len_ (eu 1 eI) r1)+nU))∧(8:Int)*(R ((len_ (eu 1 eI) r1)+nU))≤281474976710656∧(R ((len_ (eu 1 eI) r1)+nU))<9223372036854775808 then
 if 0≤(R ((len_ gn bj)+nr))∧(8:Int)*(R ((len_ gn bj)+nr))≤281474976710656∧(R ((len_ gn bj)+nr))<9223372036854775808 then
 Fo aL.bZ aL.bB bY bj r1 (len_ (eu 1 eI) r1) (R ((len_ (eu 1 eI) r1)+nU)) (R ((len_ gn bj)+nr)) (List.replicate (R ((len_ (eu 1 eI) r1)+nU)).toNat 0:List Int) (List.replicate (R ((len_ gn bj)+nr)).toNat 0:List Int) 0 (List.replicate (R ((R ((len_ (eu 1 eI) r1)+nU))*(R ((len_ gn bj)+nr)))).toNat 0:List Int) >>= fun c4 =>
 vX aL >>= fun eg =>
 Fp bY eg (len_ eI eg) (R ((len_ (eu 1 eI) r1)+nU)) (R ((len_ gn bj)+nr)) c4 (List.replicate (R ((len_ gn bj)+nr)).toNat 0:List Int) 0 (List.replicate (R ((len_ (eu 1 eI) r1)+nU)).toNat 0:List Int) >>= fun ec =>
 some (⟨R ((len_ (eu 1 eI) r1)+nU),R ((len_ gn bj)+nr),c4,ec,(List.replicate (R ((len_ gn bj)+nr)).toNat 0:List Int)⟩:hp)
 else none
 else none
 else none
theorem To {aL:ct}{bY:List Int}{nr nU:Int}:bz (yS aL bY nr nU) (fun r=>Con a9 46 [.eb 2 [(gE aL)] 0 0,.isl 1 (bY.map eI),.n .i64 nr,.n .i64 nU] [] (.agg (nW r)) []):=by
 unfold yS
 exact .au fun r1 o =>
  .au fun bj av =>
  .a0 fun az =>
  .a0 fun aZ =>
  .a0 fun bg =>
  .au fun c4 cq =>
  .au fun eg fa =>
  .au fun ec et =>
  .ret (let q1:=R ((len_ (eu 1 eI) r1)+nU);let a2:=R ((len_ gn bj)+nr);let bO:=(List.replicate a2.toNat 0:List Int);let b4:=(List.replicate q1.toNat 0:List Int);let d9:=R (q1*a2);let cJ:=(List.replicate d9.toNat 0:List Int);bw [(J 1),.ax (ah 1 (an (bp 1 (.isl 1 (r1.map (eu 1 eI))) false) (bt 1 (bp 1 (.isl 2 (bj.map gn)) false) 2))),(J 11),(J 18),(J 3),.aO [0,16,23,26,29] [.box [.id,.id,.id,.id,.id],.box [.id,.id,.len (cJ.length),.len (b4.length),.len (bO.length)],.cA (af 1 eI cJ),.cA (af 1 eI b4),.cA (af 1 eI bO)] (ba [0,1,8,10,11,46,47,48]),(Fc aL.bZ aL.bB bY bj r1 (len_ (eu 1 eI) r1) q1 a2 b4 bO c4).fc,.ax (bt 1 (bp 1 (.isl 1 (eg.map eI)) false) 2),.aO [0,1,2,3,4] [.box [.id,.id,.id,.id,.id],.box [.id,.id,.id,.id,.id],.pure,.pure,.pure] (ba [1,8,11,80,81,82]),(Fe bY eg (len_ eI eg) q1 a2 c4 bO ec).fc,(J 2)] (.bk (Tq r1 o) (T0 bj av) az.1 (Int.le_refl d9) az.2.1 az.2.2 aZ.1 (Int.le_refl q1) (.bk aZ.2.1 aZ.2.2 bg.1 (Int.le_refl a2) bg.2.1 bg.2.2 (lZ d9.toNat (0:Int)) (lZ q1.toNat (0:Int)) (.bk (lZ a2.toNat (0:Int)) (cY 1 .live (lF eI d9.toNat 0)) (aK 1 .live aQ cJ) (cY 1 .live (lF eI q1.toNat 0)) (aK 1 .live aQ b4) (cY 1 .live (lF eI a2.toNat 0)) (aK 1 .live aQ bO) (S7 cq) (.bk (Mx eg fa) (aK 1 .live aQ c4) (aK 1 .live aQ b4) (aK 1 .live aQ bO) (S8 et) (f6 eI c4) (fC eI c4) (dw aQ c4) (.dT (f6 eI ec) (fC eI ec) (dw aQ ec) (f6 eI bO) (fC eI bO) (dw aQ bO)))))) (.bu (.agg [.id,.id,.ek (c4.map eI),.ek (ec.map eI),.ek (bO.map eI)])))
def G6:(Int×(List Int))→S:=fun (aY,ad)=>dm [(0,.n .u64 aY),(3,.bm 0 0 0 ad.length)] [(af 1 eI ad)]
def HD:(List Int)→dp
 | a=>⟨some 0,[(3,.bm 0 0 0 a.length)],[(af 1 eI a)]⟩
def wC (aY:Int)(ad:List Int):Option ((Int×(List Int))⊕((List Int))) :=
 if (decide ((0:Int)<aY))=true then
  if (ad++([IntKind.wrap .i64 (aY.tmod (1000000000:Int))]:List Int)).length*8≤140737488355328 then
  some (.inl (IntKind.wrap .u64 (aY.tdiv (1000000000:Int)),ad++([IntKind.wrap .i64 (aY.tmod (1000000000:Int))]:List Int)))
  else none
 else
  some (.inr ad)
def IR (aY:Int)(ad:List Int):Option ((List Int)):=iter (fun w:Int×(List Int)=>wC w.1 w.2) (aY,ad)
theorem Up {aY:Int}{ad:List Int}:bz (wC aY ad) (dQ a9 15 0 101 [1,1,0,0,0] (G6 (aY,ad)) (G6) (HD)):=by
 unfold wC
 exact .ite (fun h1 =>
  .a0 fun o =>
  .ret (let q1:=(ad++([(IntKind.wrap .i64 (aY.tmod (1000000000:Int)))]:List Int));bi [(J 2),.aa true,.ax (bt 5 (.aJ (q1.length)) 1),(J 3),.aO [8] [.cA (af 1 eI q1)] (ba [0,3])] (.bk h1 (by decide:(1000000000:Int)≠0) (gv eI (IntKind.wrap .i64 (aY.tmod (1000000000:Int)))) (gO eI ad) (gw eI ad (IntKind.wrap .i64 (aY.tmod (1000000000:Int)))) o (by decide:(1000000000:Int)≠0) (cY 1 .live (gS eI ad (IntKind.wrap .i64 (aY.tmod (1000000000:Int))))) (.e1 (aK 1 .live aQ q1)))))
  (fun h1 =>
  .ret (bi [(J 2),.aa false,.aO [0] [.pure] (ba [3])] (.aD h1 (aK 1 .live aQ ad))))
theorem VX {aY:Int}{ad:List Int}{r} (h:IR aY ad=some r):dR a9 15 0 101 [1,1,0,0,0] (G6) (HD) (aY,ad) r:=dS (fun _=>Up) h
def ui (aY:Int):Option (List Int) :=
 IR aY ([]:List Int) >>= fun r1 =>
 some r1
theorem IU {aY:Int}:bz (ui aY) (fun r=>Con a9 101 [.n .u64 aY] [] (.isl 1 (r.map eI)) []):=by
 unfold ui
 exact .au fun r1 o =>
  .ret (bw [(J 1),(J 1),.sd 3 1,.aO [2] [.cA (af 1 eI ([]:List Int))] [(0,ii),(3,fV (([]:List Int).length))],(HD r1).fc,(J 2)] (.er (cY 1 .live (m0 eI)) (aK 1 .live aQ ([]:List Int)) (eZ Int) (VX o) (f6 eI r1) (fC eI r1) (dw aQ r1)) (.bu (.di (.ek (r1.map eI)))))
def m4 (n2:Bool)(x2:List Int):Option bq :=
 if n2=true then
  some (⟨(decide ((0:Int)<(len_ eI x2))),x2⟩:bq)
 else
  some (⟨false,x2⟩:bq)
theorem sM {n2:Bool}{x2:List Int}:bz (m4 n2 x2) (fun r=>Con a9 100 [.b n2,.isl 1 (x2.map eI)] [] (.agg (aX r)) []):=by
 unfold m4
 exact .ite (fun h1 =>
  .ret (bw [(J 1),.ax (bt 5 (.aa true) 3)] (.da h1 h1 h1 h1)))
  (fun h1 =>
  .ret (bw [(J 1),.ax (ah 2 (cn 3 (an (.aa false) (ah 3 []))))] (.da h1 h1 h1 h1)))
def oj (aY:Int):Option bq :=
 if (decide (aY<(0:Int)))=true then
  ui (IntKind.wrap .u64 ((IntKind.wrap .u64 (R (0-(R (aY+(1:Int))))))+(1:Int))) >>= fun b1 =>
  m4 true b1 >>= fun bb =>
  some bb
 else
  ui (IntKind.wrap .u64 aY) >>= fun b1 =>
  m4 false b1 >>= fun bb =>
  some bb
theorem rI {aY:Int}:bz (oj aY) (fun r=>Con a9 73 [.n .i64 aY] [] (.agg (aX r)) []):=by
 unfold oj
 exact .ite (fun h1 =>
  .au fun b1 ab =>
  .au fun bb az =>
  .ret (bw [(J 1),(J 2),.aa true,.ax (ah 5 (an (bp 1 (.isl 1 (b1.map eI)) false) (an (bp 2 (.agg (aX bb)) false) (ah 1 []))))] (.bS h1 (IU b1 ab) (sM bb az))))
  (fun h1 =>
  .au fun b1 ab =>
  .au fun bb az =>
  .ret (bw [(J 1),(J 2),.aa false,.ax (ah 2 (an (bp 1 (.isl 1 (b1.map eI)) false) (an (bp 2 (.agg (aX bb)) false) (ah 1 []))))] (.bS h1 (IU b1 ab) (sM bb az))))
def w4 (cf:hp)(ag:Int):Option (List Int) :=
 if 0≤(R (ag*cf.ea)) then
 if 0≤(R ((R (ag+(1:Int)))*cf.ea)) then
 if (R (ag*cf.ea)).toNat≤(R ((R (ag+(1:Int)))*cf.ea)).toNat∧(R ((R (ag+(1:Int)))*cf.ea)).toNat≤cf.dI.length then
 some ((cf.dI.drop ((R (ag*cf.ea)).toNat)).take ((R ((R (ag+(1:Int)))*cf.ea)).toNat-(R (ag*cf.ea)).toNat))
 else none
 else none
 else none
theorem MZ {cf:hp}{ag:Int}:bz (w4 cf ag) (fun r=>Con a9 74 [.eb 5 [(nW cf)] 0 0,.n .i64 ag] [] (.isl 1 (r.map eI)) []):=by
 unfold w4
 exact .a0 fun h1 =>
  .a0 fun o =>
  .a0 fun ab =>
  .ret (let q1:=R (ag*cf.ea);let a2:=(R ((R (ag+(1:Int)))*cf.ea));bw [(J 1),(J 19)] (.dl h1 o ab.1 (rj (cX eI cf.dI) ab.2) (congrArg (aB.isl 1) (ol (cX eI cf.dI) (q1.toNat) (a2.toNat-q1.toNat)):(.isl 1 (((cf.dI.map eI).drop (q1.toNat)).take (a2.toNat-q1.toNat)):aB) = .isl 1 (((cf.dI.drop (q1.toNat)).take (a2.toNat-q1.toNat)).map eI))) (.bu (.di (.cA (.isl 1 (((cf.dI.drop (q1.toNat)).take (a2.toNat-q1.toNat)).map eI))))))
def IV (aL:List Int)(ep du:Int):Int→S:=fun dk=>dm [(0,.isl 1 (aL.map eI)),(1,.n .i64 ep),(7,.n .i64 du),(8,.n .i64 dk)] []
def NI (aL:List Int)(ep du:Int):((Unit)⊕(Int))→dp
 | .inl a=>⟨some 0,[],[]⟩
 | .inr a=>⟨none,[(4,.n .i64 a)],[]⟩
def rJ (aL:List Int)(ep du dk:Int):Option ((Int)⊕((Unit)⊕(Int))) :=
 if (decide (dk<du))=true then
  if 0≤dk∧dk<aL.length then
  aL[dk.toNat]? >>= fun aI =>
  if (ep == aI)=true then
   some (.inr (.inr dk))
  else
   some (.inl (R (dk+(1:Int))))
  else none
 else
  some (.inr (.inl ()))
def Dk (aL:List Int)(ep du dk:Int):Option ((Unit)⊕(Int)):=iter (fun w:Int=>rJ aL ep du w) dk
theorem VY {aL:List Int}{ep du dk:Int}:bz (rJ aL ep du dk) (dQ a9 19 0 105 [1,0,1,0,0] (IV aL ep du dk) (IV aL ep du) (NI aL ep du)):=by
 unfold rJ
 exact .ite (fun h1 =>
  .a0 fun o =>
  .au fun aI av =>
  (let t1:List b2:=[(J 1),.aa true,(J 2),.ax (bt 4 (.b9 (eI aI)) 1)];
  have aU:=((.da h1 o.1 (cU eI o.2) (bX eI av)):cr _);
  .ite (fun az =>
  .ret (bi (t1.append [.aa true,(J 2),.aO [] [] (ba [4])]) (aU.aJ (.e1 az))))
  (fun az =>
  .ret (bi (t1.append [.aa false,(J 2),.aO [] [] (ba [0,1,7,8])]) (aU.aJ (.e1 az))))))
  (fun h1 =>
  .ret (bi [(J 1),.aa false,.aO [] [] []] (.e1 h1)))
theorem NN {aL:List Int}{ep du dk:Int}{r} (h:Dk aL ep du dk=some r):dR a9 19 0 105 [1,0,1,0,0] (IV aL ep du) (NI aL ep du) dk r:=dS (fun _=>VY) h
def Am (aL:List Int)(ep:Int):Option Int :=
 Dk aL ep (len_ eI aL) 0 >>= fun r1 =>
 match r1 with
 | .inl dn=>(some (-1))
 | .inr dn=>(some dn)
theorem YJ {aL:List Int}{ep:Int}:bz (Am aL ep) (fun r=>Con a9 105 [.isl 1 (aL.map eI),.n .i64 ep] [] (.n .i64 r) []):=by
 unfold Am
 exact .au fun r1 o =>
  (let t1:List b2:=[(J 1),(J 3),.aO [] [] (ba [0,1,7,8])];
  (by
  rcases r1 with dn|dn
  ·exact (.ret (bw (t1.append [.sub (.exit 0) [] [],(J 1)]) (.e1 (NN o))))
  ·exact (.ret (bw (t1.append [.sub (.ret) [(4,.n .i64 dn)] []]) (.e1 (NN o))))))
def rP (aL:List Int)(ep:Int):Option Bool :=
 Am aL ep >>= fun r1 =>
 some (decide ((0:Int)≤r1))
theorem Jm {aL:List Int}{ep:Int}:bz (rP aL ep) (fun r=>Con a9 79 [.isl 1 (aL.map eI),.n .i64 ep] [] (.b r) []):=by
 unfold rP
 exact .au fun r1 o =>
  .ret (bw [(J 1),.ax (bt 2 (bp 2 (.n .i64 r1) true) 2)] (.aD (YJ r1 o) (b7.n .i64 r1)))
def Ij:(List Int)→S:=fun ai=>dm [(0,.isl 1 (ai.map eI))] []
def IE:(List Int)→dp
 | a=>⟨some 0,[(0,.isl 1 (a.map eI))],[]⟩
def w0 (ai:List Int):Option (((List Int))⊕((List Int))) :=
 if (decide ((0:Int)<(len_ eI ai)))=true then
  if 0≤(R ((len_ eI ai)-(1:Int)))∧(R ((len_ eI ai)-(1:Int)))<ai.length then
  ai[(R ((len_ eI ai)-(1:Int))).toNat]? >>= fun aI =>
  if (aI == (0:Int))=true then
   if 0≤(R ((len_ eI ai)-(1:Int))) then
   if 0≤(R ((len_ eI ai)-(1:Int))).toNat∧(R ((len_ eI ai)-(1:Int))).toNat≤ai.length then
   some (.inl ((ai.drop 0).take ((R ((len_ eI ai)-(1:Int))).toNat-0)))
   else none
   else none
  else
   some (.inr ai)
  else none
 else
  some (.inr ai)
def Jq (ai:List Int):Option ((List Int)):=iter (fun w:(List Int)=>w0 w) ai
theorem Vk {ai:List Int}:bz (w0 ai) (dQ a9 21 0 131 [1,0,0,0] (Ij ai) (Ij) (IE)):=by
 unfold w0
 exact .ite (fun h1 =>
  .a0 fun o =>
  .au fun aI av =>
  (let t1:List b2:=[.ax (ah 9 (an (.b9 (eI aI)) (ah 1 (an (.aa true) []))))];
  have aU:=((.bk h1 h1 h1 h1 h1 o.1 (cU eI o.2) h1 (.bS (bX eI av) h1 h1)):cr _);
  .ite (fun az =>
  .a0 fun aZ =>
  .a0 fun bg =>
  .ret (let q1:=(R ((len_ eI ai)-(1:Int)));bi (t1.append [.aa true,(J 6),.aO [] [] [(0,.bu (.di (.cA (.isl 1 (((ai.drop 0).take (q1.toNat-0)).map eI)))))]]) (aU.aJ (.dl az aZ bg.1 (rj (cX eI ai) bg.2) (congrArg (aB.isl 1) (ol (cX eI ai) 0 (q1.toNat-0)):(.isl 1 (((ai.map eI).drop 0).take (q1.toNat-0)):aB) = .isl 1 (((ai.drop 0).take (q1.toNat-0)).map eI))))))
  (fun az =>
  .ret (bi (t1.append [.aa false,.aO [] [] (ba [0])]) (aU.aJ (.e1 az))))))
  (fun h1 =>
  .ret (bi [.ax (ah 4 (cn 7 (an (.aa false) []))),.aa false,.aO [] [] (ba [0])] (.bk h1 h1 h1 h1 h1 h1 h1 h1 (.e1 cP))))
theorem W0 {ai:List Int}{r} (h:Jq ai=some r):dR a9 21 0 131 [1,0,0,0] (Ij) (IE) ai r:=dS (fun _=>Vk) h
def pQ (ai:List Int):Option (List Int) :=
 Jq ai >>= fun r1 =>
 some r1
theorem uj {ai:List Int}:bz (pQ ai) (fun r=>Con a9 131 [.isl 1 (ai.map eI)] [] (.isl 1 (r.map eI)) []):=by
 unfold pQ
 exact .au fun r1 o =>
  .ret (bw [(J 1),.aO [] [] (ba [0]),(IE r1).fc,(J 2)] (.e1 (W0 o)))
def H6 (aC:List Int)(ag aY:Int)(dd:List Int)(de hb:Int):(Int×Int×(List Int))→S:=fun (c3,df,ad)=>dm [(1,.isl 1 (aC.map eI)),(5,.bm 0 0 0 ad.length),(6,.n .i64 ag),(7,.n .i64 aY),(8,.n .i64 c3),(26,.isl 1 (dd.map eI)),(27,.n .i64 de),(28,.n .i64 ag),(33,.isl 1 (aC.map eI)),(34,.n .i64 hb),(35,.n .i64 df)] [(af 1 eI ad)]
def Ik (aC:List Int)(ag aY:Int)(dd:List Int)(de hb:Int):(Int×(List Int))→dp
 | a=>⟨some 2,[(1,.isl 1 (aC.map eI)),(5,.bm 0 0 0 a.2.length),(6,.n .i64 ag),(8,.n .i64 a.1),(26,.isl 1 (dd.map eI)),(27,.n .i64 de),(28,.n .i64 ag)],[(af 1 eI a.2)]⟩
def H7 (aC:List Int)(ag aY:Int)(dd:List Int)(de hb c3 df:Int)(ad:List Int):Option ((Int×Int×(List Int))⊕(Int×(List Int))) :=
 if (decide (df<hb))=true then
  if 0≤df∧df<aC.length then
  aC[df.toNat]? >>= fun aI =>
  if 0≤(R (ag+df))∧(R (ag+df))<(ad.length:Nat) then
  ad[(0+(R (ag+df)).toNat)]? >>= fun cw =>
  if (0+(R (ag+df)).toNat)<ad.length then
  some (.inl (R ((R ((R (cw+(R (aY*aI))))+c3)).tdiv (1000000000:Int)),R (df+(1:Int)),ad.set (0+(R (ag+df)).toNat) ((R ((R (cw+(R (aY*aI))))+c3)).tmod (1000000000:Int))))
  else none
  else none
  else none
 else
  some (.inr (c3,ad))
def NO (aC:List Int)(ag aY:Int)(dd:List Int)(de hb c3 df:Int)(ad:List Int):Option (Int×(List Int)):=iter (fun w:Int×Int×(List Int)=>H7 aC ag aY dd de hb w.1 w.2.1 w.2.2) (c3,df,ad)
theorem Vg {aC:List Int}{ag aY:Int}{dd:List Int}{de hb c3 df:Int}{ad:List Int}:bz (H7 aC ag aY dd de hb c3 df ad) (dQ a9 72 0 127 [1,1,1,0,1,0,0,1,1,0,0,1,1,0,1,0,0] (H6 aC ag aY dd de hb (c3,df,ad)) (H6 aC ag aY dd de hb) (Ik aC ag aY dd de hb)):=by
 unfold H7
 exact .ite (fun h1 =>
  .a0 fun o =>
  .au fun aI av =>
  .a0 fun az =>
  .au fun cw bg =>
  .a0 fun bl =>
  .ret (let q1:=R ((R (cw+(R (aY*aI))))+c3);let a2:=R (ag+df);bi [(J 1),.aa true,.ax (bt 2 (.b9 (eI aI)) 2),.ax (bt 5 (.b9 (eI cw)) 7),.ax (bt 9 .fP 1),(J 2),.aO [0] [.cA (af 1 eI (ad.set (0+a2.toNat) (q1.tmod (1000000000:Int))))] [(1,ii),(5,fV ((ad.set (0+a2.toNat) (q1.tmod (1000000000:Int))).length)),(6,ii),(7,ii),(8,ii),(26,ii),(27,ii),(28,ii),(33,ii),(34,ii),(35,ii)]] (.bk h1 o.1 (cU eI o.2) (bX eI av) az.1 az.2 (bX eI bg) (by decide:(1000000000:Int)≠0) (.gD (by decide:(1000000000:Int)≠0) az.1 az.2 (hE eI bl) (hz 1) (cY 1 .live (gI (cX eI ad) (0+a2.toNat) (q1.tmod (1000000000:Int)))) (aK 1 .live aQ (ad.set (0+a2.toNat) (q1.tmod (1000000000:Int)))) (hU (dJ ad) (0+a2.toNat) (q1.tmod (1000000000:Int)))))))
  (fun h1 =>
  .ret (bi [(J 1),.aa false,.aO [0] [.pure] (ba [1,5,6,8,26,27,28])] (.aD h1 (aK 1 .live aQ ad))))
theorem WC {aC:List Int}{ag aY:Int}{dd:List Int}{de hb c3 df:Int}{ad:List Int}{r} (h:NO aC ag aY dd de hb c3 df ad=some r):dR a9 72 0 127 [1,1,1,0,1,0,0,1,1,0,0,1,1,0,1,0,0] (H6 aC ag aY dd de hb) (Ik aC ag aY dd de hb) (c3,df,ad) r:=dS (fun _=>Vg) h
def H8 (aC dd:List Int)(de:Int):(Int×(List Int))→S:=fun (fv,ad)=>dm [(1,.isl 1 (aC.map eI)),(5,.bm 0 0 0 ad.length),(26,.isl 1 (dd.map eI)),(27,.n .i64 de),(28,.n .i64 fv)] [(af 1 eI ad)]
def Il (aC dd:List Int)(de:Int):(List Int)→dp
 | a=>⟨some 0,[(5,.bm 0 0 0 a.length)],[(af 1 eI a)]⟩
def H9 (aC dd:List Int)(de fv:Int)(ad:List Int):Option ((Int×(List Int))⊕((List Int))) :=
 if (decide (fv<de))=true then
  if 0≤fv∧fv<dd.length then
  dd[fv.toNat]? >>= fun aI =>
  NO aC fv aI dd de (len_ eI aC) 0 0 ad >>= fun aM =>
  if 0≤(R (fv+(len_ eI aC)))∧(R (fv+(len_ eI aC)))<(aM.2.length:Nat) then
  if (0+(R (fv+(len_ eI aC))).toNat)<aM.2.length then
  some (.inl (R (fv+(1:Int)),aM.2.set (0+(R (fv+(len_ eI aC))).toNat) aM.1))
  else none
  else none
  else none
 else
  some (.inr ad)
def Jn (aC dd:List Int)(de fv:Int)(ad:List Int):Option ((List Int)):=iter (fun w:Int×(List Int)=>H9 aC dd de w.1 w.2) (fv,ad)
theorem Vh {aC dd:List Int}{de fv:Int}{ad:List Int}:bz (H9 aC dd de fv ad) (dQ a9 72 0 127 [1,1,1,0,1,0,0] (H8 aC dd de (fv,ad)) (H8 aC dd de) (Il aC dd de)):=by
 unfold H9
 exact .ite (fun h1 =>
  .a0 fun o =>
  .au fun aI av =>
  .au fun aM aZ =>
  .a0 fun bg =>
  .a0 fun bl =>
  .ret (let q1:=R (fv+(len_ eI aC));bi [(J 1),.aa true,.ax (bt 2 (.b9 (eI aI)) 2),(J 1),(J 3),.aO [0] [.pure] (ba [1,5,6,7,8,26,27,28,33,34,35]),(Ik aC fv aI dd de (len_ eI aC) aM).fc,.ax (ah 7 (an .fP [])),(J 2),.aO [0] [.cA (af 1 eI (aM.2.set (0+q1.toNat) aM.1))] [(1,ii),(5,fV ((aM.2.set (0+q1.toNat) aM.1).length)),(26,ii),(27,ii),(28,ii)]] (.bk h1 o.1 (cU eI o.2) (bX eI av) (aK 1 .live aQ ad) (WC aZ) bg.1 bg.2 (.dl (hE eI bl) (hz 1) (cY 1 .live (gI (cX eI aM.2) (0+q1.toNat) aM.1)) (aK 1 .live aQ (aM.2.set (0+q1.toNat) aM.1)) (hU (dJ aM.2) (0+q1.toNat) aM.1)))))
  (fun h1 =>
  .ret (bi [(J 1),.aa false,.aO [0] [.pure] (ba [5])] (.aD h1 (aK 1 .live aQ ad))))
theorem WD {aC dd:List Int}{de fv:Int}{ad:List Int}{r} (h:Jn aC dd de fv ad=some r):dR a9 72 0 127 [1,1,1,0,1,0,0] (H8 aC dd de) (Il aC dd de) (fv,ad) r:=dS (fun _=>Vh) h
def z7 (ai aC:List Int):Option (List Int) :=
 if ((len_ eI ai) == (0:Int))=true then
  some ([]:List Int)
 else
  if ((len_ eI aC) == (0:Int))=true then
   some ([]:List Int)
  else
   if 0≤(R ((len_ eI ai)+(len_ eI aC)))∧(8:Int)*(R ((len_ eI ai)+(len_ eI aC)))≤281474976710656∧(R ((len_ eI ai)+(len_ eI aC)))<9223372036854775808 then
   Jn aC ai (len_ eI ai) 0 (List.replicate (R ((len_ eI ai)+(len_ eI aC))).toNat 0:List Int) >>= fun bb =>
   pQ bb >>= fun cj =>
   some cj
   else none
theorem Xx {ai aC:List Int}:bz (z7 ai aC) (fun r=>Con a9 127 [.isl 1 (ai.map eI),.isl 1 (aC.map eI)] [] (.isl 1 (r.map eI)) []):=by
 unfold z7
 exact .ite (fun h1 =>
  .ret (bw [(J 1),.ax (ah 4 (cn 3 (an (.aa true) []))),.aa true,(J 1)] (.dl h1 h1 h1 h1 cB) (.bu (.di (.jj 1)))))
  (fun h1 =>
  (let t1:List b2:=[(J 1),.ax (ah 7 (an (.aa false) []))];
  .ite (fun o =>
  .ret (bw (t1.append [.aa true,(J 1)]) (.dl h1 h1 h1 h1 o) (.bu (.di (.jj 1)))))
  (fun o =>
  .a0 fun ab =>
  .au fun bb az =>
  .au fun cj bg =>
  .ret (let q1:=R ((len_ eI ai)+(len_ eI aC));let a2:=(List.replicate q1.toNat 0:List Int);bw (t1.append [.aa false,(J 7),(J 3),.aO [14] [.cA (af 1 eI a2)] [(1,ii),(5,fV (a2.length)),(26,ii),(27,ii),(28,ii)],(Il aC ai (len_ eI ai) bb).fc,.iO 0,.ax (bt 1 (.call {ac:=[.bu (.di (.ek (bb.map eI)))],r:= .isl 1 (cj.map eI),fB:=false,fI:=[0]}) 1)]) (.bk h1 h1 h1 h1 o ab.1 (Int.le_refl q1) ab.2.1 (.bk ab.2.2 (cY 1 .live (lF eI q1.toNat 0)) (aK 1 .live aQ a2) (lZ q1.toNat (0:Int)) (WD az) (f6 eI bb) (fC eI bb) (dw aQ bb) (.e1 (uj cj bg))))))))
def pd (c8 ey:bq):Option bq :=
 z7 c8.cC ey.cC >>= fun r1 =>
 m4 (!(c8.cN == ey.cN)) r1 >>= fun bj =>
 some bj
theorem wD {c8 ey:bq}:bz (pd c8 ey) (fun r=>Con a9 120 [.agg (aX c8),.agg (aX ey)] [] (.agg (aX r)) []):=by
 unfold pd
 exact .au fun r1 o =>
  .au fun bj av =>
  .ret (bw [(J 3),.ax (ah 9 (an (bp 2 (.isl 1 (r1.map eI)) false) (an (bp 2 (.agg (aX bj)) false) (ah 1 []))))] (.aD (Xx r1 o) (sM bj av)))
def oV (c8:bq):Option Int :=
 if ((len_ eI c8.cC) == (0:Int))=true then
  some 0
 else
  if c8.cN=true then
   some (-1)
  else
   some 1
theorem sJ {c8:bq}:bz (oV c8) (fun r=>Con a9 76 [.agg (aX c8)] [] (.n .i64 r) []):=by
 unfold oV
 exact .ite (fun h1 =>
  .ret (bw [(J 2),(J 5),.aa true,(J 1)] (.e1 h1)))
  (fun h1 =>
  (let t1:List b2:=[(J 2),(J 5),.aa false,(J 3)];
  .ite (fun o =>
  .ret (bw (t1.append [.aa true,(J 1)]) (.aD h1 o)))
  (fun o =>
  .ret (bw (t1.append [.aa false,(J 1)]) (.aD h1 o)))))
def rE (c8:bq):Option bq :=
 m4 (!c8.cN) c8.cC >>= fun r1 =>
 some r1
theorem Gh {c8:bq}:bz (rE c8) (fun r=>Con a9 124 [.agg (aX c8)] [] (.agg (aX r)) []):=by
 unfold rE
 exact .au fun r1 o =>
  .ret (bw [(J 2),.ax (bt 5 (bp 2 (.agg (aX r1)) false) 1)] (.e1 (sM r1 o)))
def G7 (ai aC:List Int):Int→S:=fun ag=>dm [(0,.isl 1 (ai.map eI)),(1,.isl 1 (aC.map eI)),(5,.n .i64 ag)] []
def M0 (ai aC:List Int):((Unit)⊕(Int))→dp
 | .inl a=>⟨some 0,[],[]⟩
 | .inr a=>⟨none,[(4,.n .i64 a)],[]⟩
def G8 (ai aC:List Int)(ag:Int):Option ((Int)⊕((Unit)⊕(Int))) :=
 if (decide ((0:Int)≤ag))=true then
  if 0≤ag∧ag<ai.length then
  ai[ag.toNat]? >>= fun aI =>
  if 0≤ag∧ag<aC.length then
  aC[ag.toNat]? >>= fun cw =>
  if (decide (aI<cw))=true then
   some (.inr (.inr (-1)))
  else
   if (decide (cw<aI))=true then
    some (.inr (.inr 1))
   else
    some (.inl (R (ag-(1:Int))))
  else none
  else none
 else
  some (.inr (.inl ()))
def Nu (ai aC:List Int)(ag:Int):Option ((Unit)⊕(Int)):=iter (fun w:Int=>G8 ai aC w) ag
theorem Uq {ai aC:List Int}{ag:Int}:bz (G8 ai aC ag) (dQ a9 43 0 129 [1,1,0,1,0,0] (G7 ai aC ag) (G7 ai aC) (M0 ai aC)):=by
 unfold G8
 exact .ite (fun h1 =>
  .a0 fun o =>
  .au fun aI av =>
  .a0 fun az =>
  .au fun cw bg =>
  (let t1:List b2:=[(J 2),.aa true,.ax (ah 3 (an (.b9 (eI aI)) (bt 3 (.b9 (eI cw)) 2)))];
  have aU:=((.er h1 o.1 (cU eI o.2) (bX eI av) az.1 (cU eI az.2) (bX eI bg)):cr _);
  .ite (fun bl =>
  .ret (bi (t1.append [.aa true,(J 1),.aO [] [] (ba [4])]) (aU.aJ (.e1 bl))))
  (fun bl =>
  (let t3:List b2:=t1.append [.aa false,.ax (ah 3 (an (.b9 (eI aI)) (bt 3 (.b9 (eI cw)) 2)))];
  have eS:=aU.aJ (.er bl o.1 (cU eI o.2) (bX eI av) az.1 (cU eI az.2) (bX eI bg));
  .ite (fun cq =>
  .ret (bi (t3.append [.aa true,(J 1),.aO [] [] (ba [4])]) (eS.aJ (.e1 cq))))
  (fun cq =>
  .ret (bi (t3.append [.aa false,(J 3),.aO [] [] (ba [0,1,5])]) (eS.aJ (.e1 cq))))))))
  (fun h1 =>
  .ret (bi [(J 2),.aa false,.aO [] [] []] (.e1 h1)))
theorem M8 {ai aC:List Int}{ag:Int}{r} (h:Nu ai aC ag=some r):dR a9 43 0 129 [1,1,0,1,0,0] (G7 ai aC) (M0 ai aC) ag r:=dS (fun _=>Uq) h
def qk (ai aC:List Int):Option Int :=
 if ((len_ eI ai) != (len_ eI aC))=true then
  if (decide ((len_ eI ai)<(len_ eI aC)))=true then
   some (-1)
  else
   some 1
 else
  Nu ai aC (R ((len_ eI ai)-(1:Int))) >>= fun b1 =>
  match b1 with
  | .inl fN=>(some 0)
  | .inr fN=>(some fN)
theorem CR {ai aC:List Int}:bz (qk ai aC) (fun r=>Con a9 129 [.isl 1 (ai.map eI),.isl 1 (aC.map eI)] [] (.n .i64 r) []):=by
 unfold qk
 exact .ite (fun h1 =>
  (let t1:List b2:=[(J 1),(J 5),.aa true,(J 5)];
  .ite (fun o =>
  .ret (bw (t1.append [.aa true,(J 1)]) (.aD h1 o)))
  (fun o =>
  .ret (bw (t1.append [.aa false,(J 1)]) (.aD h1 o)))))
  (fun h1 =>
  .au fun b1 ab =>
  (let t1:List b2:=[(J 1),(J 5),.aa false,(J 4),.aO [] [] (ba [0,1,5])];
  (by
  rcases b1 with fN|fN
  ·exact (.ret (bw (t1.append [.sub (.exit 0) [] [],(J 1)]) (.aD h1 (M8 ab))))
  ·exact (.ret (bw (t1.append [.sub (.ret) [(4,.n .i64 fN)] []]) (.aD h1 (M8 ab)))))))
def Im (ai aC:List Int)(gF:Int):(Int×Int×(List Int))→S:=fun (c3,gp,ad)=>dm [(0,.isl 1 (ai.map eI)),(1,.isl 1 (aC.map eI)),(5,.bm 0 0 0 ad.length),(6,.n .i64 c3),(20,.isl 1 (ai.map eI)),(21,.n .i64 gF),(22,.n .i64 gp)] [(af 1 eI ad)]
def CO (ai aC:List Int)(gF:Int):(Int×(List Int))→dp
 | a=>⟨some 0,[(0,.isl 1 (ai.map eI)),(5,.bm 0 0 0 a.2.length),(6,.n .i64 a.1)],[(af 1 eI a.2)]⟩
def w1 (ai aC:List Int)(gF c3 gp:Int)(ad:List Int):Option ((Int×Int×(List Int))⊕(Int×(List Int))) :=
 if (decide (gp<gF))=true then
  if 0≤gp∧gp<ai.length then
  ai[gp.toNat]? >>= fun aI =>
  if (decide (gp<(len_ eI aC)))=true then
   if 0≤gp∧gp<aC.length then
   aC[gp.toNat]? >>= fun fl =>
   if 0≤gp∧gp<(ad.length:Nat) then
   if (0+gp.toNat)<ad.length then
   some (.inl (R ((R ((R (aI+c3))+fl)).tdiv (1000000000:Int)),R (gp+(1:Int)),ad.set (0+gp.toNat) ((R ((R (aI+c3))+fl)).tmod (1000000000:Int))))
   else none
   else none
   else none
  else
   if 0≤gp∧gp<(ad.length:Nat) then
   if (0+gp.toNat)<ad.length then
   some (.inl (R ((R (aI+c3)).tdiv (1000000000:Int)),R (gp+(1:Int)),ad.set (0+gp.toNat) ((R (aI+c3)).tmod (1000000000:Int))))
   else none
   else none
  else none
 else
  some (.inr (c3,ad))
def zO (ai aC:List Int)(gF c3 gp:Int)(ad:List Int):Option (Int×(List Int)):=iter (fun w:Int×Int×(List Int)=>w1 ai aC gF w.1 w.2.1 w.2.2) (c3,gp,ad)
theorem Vl {ai aC:List Int}{gF c3 gp:Int}{ad:List Int}:bz (w1 ai aC gF c3 gp ad) (dQ a9 55 0 132 [1,1,1,1,0,1,0,0] (Im ai aC gF (c3,gp,ad)) (Im ai aC gF) (CO ai aC gF)):=by
 unfold w1
 exact .ite (fun h1 =>
  .a0 fun o =>
  .au fun aI av =>
  (let t1:List b2:=[(J 1),.aa true,.ax (bt 2 (.b9 (eI aI)) 2),(J 4),(J 4)];
  have aU:=((.da h1 o.1 (cU eI o.2) (bX eI av)):cr _);
  .ite (fun az =>
  .a0 fun aZ =>
  .au fun fl bl =>
  .a0 fun cq =>
  .a0 fun cQ =>
  .ret (let q1:=R ((R (aI+c3))+fl);bi (t1.append [.aa true,.ax (bt 4 (.b9 (eI fl)) 2),.ax (bt 7 .fP 1),(J 2),.aO [0] [.cA (af 1 eI (ad.set (0+gp.toNat) (q1.tmod (1000000000:Int))))] [(0,ii),(1,ii),(5,fV ((ad.set (0+gp.toNat) (q1.tmod (1000000000:Int))).length)),(6,ii),(20,ii),(21,ii),(22,ii)]]) (aU.aJ (.bk az aZ.1 (cU eI aZ.2) (bX eI bl) (by decide:(1000000000:Int)≠0) (by decide:(1000000000:Int)≠0) cq.1 cq.2 (.dl (hE eI cQ) (hz 1) (cY 1 .live (gI (cX eI ad) (0+gp.toNat) (q1.tmod (1000000000:Int)))) (aK 1 .live aQ (ad.set (0+gp.toNat) (q1.tmod (1000000000:Int)))) (hU (dJ ad) (0+gp.toNat) (q1.tmod (1000000000:Int))))))))
  (fun az =>
  .a0 fun aZ =>
  .a0 fun bg =>
  .ret (let a2:=R (aI+c3);bi (t1.append [.aa false,.ax (bt 7 .fP 1),(J 2),.aO [0] [.cA (af 1 eI (ad.set (0+gp.toNat) (a2.tmod (1000000000:Int))))] [(0,ii),(1,ii),(5,fV ((ad.set (0+gp.toNat) (a2.tmod (1000000000:Int))).length)),(6,ii),(20,ii),(21,ii),(22,ii)]]) (aU.aJ (.bk az (by decide:(1000000000:Int)≠0) (by decide:(1000000000:Int)≠0) aZ.1 aZ.2 (hE eI bg) (hz 1) (cY 1 .live (gI (cX eI ad) (0+gp.toNat) (a2.tmod (1000000000:Int)))) (.aD (aK 1 .live aQ (ad.set (0+gp.toNat) (a2.tmod (1000000000:Int)))) (hU (dJ ad) (0+gp.toNat) (a2.tmod (1000000000:Int))))))))))
  (fun h1 =>
  .ret (bi [(J 1),.aa false,.aO [0] [.pure] (ba [0,5,6])] (.aD h1 (aK 1 .live aQ ad))))
theorem Nv {ai aC:List Int}{gF c3 gp:Int}{ad:List Int}{r} (h:zO ai aC gF c3 gp ad=some r):dR a9 55 0 132 [1,1,1,1,0,1,0,0] (Im ai aC gF) (CO ai aC gF) (c3,gp,ad) r:=dS (fun _=>Vl) h
def xr (ai aC:List Int):Option (List Int) :=
 if (decide ((len_ eI ai)<(len_ eI aC)))=true then
  if 0≤(R ((len_ eI aC)+(1:Int)))∧(8:Int)*(R ((len_ eI aC)+(1:Int)))≤281474976710656∧(R ((len_ eI aC)+(1:Int)))<9223372036854775808 then
  zO aC ai (len_ eI aC) 0 0 (List.replicate (R ((len_ eI aC)+(1:Int))).toNat 0:List Int) >>= fun bj =>
  if 0≤(len_ eI aC)∧(len_ eI aC)<(bj.2.length:Nat) then
  if (0+(len_ eI aC).toNat)<bj.2.length then
  pQ (bj.2.set (0+(len_ eI aC).toNat) bj.1) >>= fun cb =>
  some cb
  else none
  else none
  else none
 else
  if 0≤(R ((len_ eI ai)+(1:Int)))∧(8:Int)*(R ((len_ eI ai)+(1:Int)))≤281474976710656∧(R ((len_ eI ai)+(1:Int)))<9223372036854775808 then
  zO ai aC (len_ eI ai) 0 0 (List.replicate (R ((len_ eI ai)+(1:Int))).toNat 0:List Int) >>= fun bj =>
  if 0≤(len_ eI ai)∧(len_ eI ai)<(bj.2.length:Nat) then
  if (0+(len_ eI ai).toNat)<bj.2.length then
  pQ (bj.2.set (0+(len_ eI ai).toNat) bj.1) >>= fun cb =>
  some cb
  else none
  else none
  else none
theorem XT {ai aC:List Int}:bz (xr ai aC) (fun r=>Con a9 132 [.isl 1 (ai.map eI),.isl 1 (aC.map eI)] [] (.isl 1 (r.map eI)) []):=by
 unfold xr
 exact .ite (fun h1 =>
  .a0 fun o =>
  .au fun bj av =>
  .a0 fun az =>
  .a0 fun aZ =>
  .au fun cb bl =>
  .ret (let a2:=len_ eI aC;let q1:=(R (a2+(1:Int)));let bO:=(List.replicate q1.toNat 0:List Int);let b4:=hU (dJ bj.2) (0+a2.toNat) bj.1;bw [(J 1),(J 5),.aa true,(J 4),(J 5),(J 1),(J 3),.aO [13] [.cA (af 1 eI bO)] [(0,ii),(1,ii),(5,fV (bO.length)),(6,ii),(20,ii),(21,ii),(22,ii)],(CO aC ai a2 bj).fc,.ax (ah 5 (an .fP [])),.iO 0,.ax (bt 1 (.call {ac:=[.bu (.di (.ek ((bj.2.set (0+a2.toNat) bj.1).map eI)))],r:= .isl 1 (cb.map eI),fB:=false,fI:=[0]}) 1)] (.bk h1 o.1 (Int.le_refl q1) o.2.1 o.2.2 (cY 1 .live (lF eI q1.toNat 0)) (aK 1 .live aQ bO) (lZ q1.toNat (0:Int)) (.bk (Nv av) az.1 az.2 (hE eI aZ) (hz 1) (kR (gI (cX eI bj.2) (0+a2.toNat) bj.1) b4) (k2 (gI (cX eI bj.2) (0+a2.toNat) bj.1) b4) (dw aQ (bj.2.set (0+a2.toNat) bj.1)) (.e1 (uj cb bl))))))
  (fun h1 =>
  .a0 fun o =>
  .au fun bj av =>
  .a0 fun az =>
  .a0 fun aZ =>
  .au fun cb bl =>
  .ret (let d9:=len_ eI ai;let cJ:=(R (d9+(1:Int)));let fM:=(List.replicate cJ.toNat 0:List Int);let eG:=hU (dJ bj.2) (0+d9.toNat) bj.1;bw [(J 1),(J 5),.aa false,(J 5),(J 1),(J 3),.aO [9] [.cA (af 1 eI fM)] [(0,ii),(1,ii),(5,fV (fM.length)),(6,ii),(20,ii),(21,ii),(22,ii)],(CO ai aC d9 bj).fc,.ax (ah 5 (an .fP [])),.iO 0,.ax (bt 1 (.call {ac:=[.bu (.di (.ek ((bj.2.set (0+d9.toNat) bj.1).map eI)))],r:= .isl 1 (cb.map eI),fB:=false,fI:=[0]}) 1)] (.bk h1 o.1 (Int.le_refl cJ) o.2.1 o.2.2 (cY 1 .live (lF eI cJ.toNat 0)) (aK 1 .live aQ fM) (lZ cJ.toNat (0:Int)) (.bk (Nv av) az.1 az.2 (hE eI aZ) (hz 1) (kR (gI (cX eI bj.2) (0+d9.toNat) bj.1) eG) (k2 (gI (cX eI bj.2) (0+d9.toNat) bj.1) eG) (dw aQ (bj.2.set (0+d9.toNat) bj.1)) (.e1 (uj cb bl))))))
def Ia (aC dN:List Int)(b3:Int):(Int×Int×(List Int))→S:=fun (mh,bI,ad)=>dm [(1,.isl 1 (aC.map eI)),(5,.bm 0 0 0 ad.length),(6,.n .i64 mh),(12,.isl 1 (dN.map eI)),(13,.n .i64 b3),(14,.n .i64 bI)] [(af 1 eI ad)]
def Io (aC dN:List Int)(b3:Int):(List Int)→dp
 | a=>⟨some 0,[(5,.bm 0 0 0 a.length)],[(af 1 eI a)]⟩
def wZ (aC dN:List Int)(b3 mh bI:Int)(ad:List Int):Option ((Int×Int×(List Int))⊕((List Int))) :=
 if (decide (bI<b3))=true then
  if 0≤bI∧bI<dN.length then
  dN[bI.toNat]? >>= fun aI =>
  if (decide (bI<(len_ eI aC)))=true then
   if 0≤bI∧bI<aC.length then
   aC[bI.toNat]? >>= fun fl =>
   if (decide ((R ((R (aI-mh))-fl))<(0:Int)))=true then
    if 0≤bI∧bI<(ad.length:Nat) then
    if (0+bI.toNat)<ad.length then
    some (.inl (1,R (bI+(1:Int)),ad.set (0+bI.toNat) (R ((R ((R (aI-mh))-fl))+(1000000000:Int)))))
    else none
    else none
   else
    if 0≤bI∧bI<(ad.length:Nat) then
    if (0+bI.toNat)<ad.length then
    some (.inl (0,R (bI+(1:Int)),ad.set (0+bI.toNat) (R ((R (aI-mh))-fl))))
    else none
    else none
   else none
  else
   if (decide ((R (aI-mh))<(0:Int)))=true then
    if 0≤bI∧bI<(ad.length:Nat) then
    if (0+bI.toNat)<ad.length then
    some (.inl (1,R (bI+(1:Int)),ad.set (0+bI.toNat) (R ((R (aI-mh))+(1000000000:Int)))))
    else none
    else none
   else
    if 0≤bI∧bI<(ad.length:Nat) then
    if (0+bI.toNat)<ad.length then
    some (.inl (0,R (bI+(1:Int)),ad.set (0+bI.toNat) (R (aI-mh))))
    else none
    else none
  else none
 else
  some (.inr ad)
def Jo (aC dN:List Int)(b3 mh bI:Int)(ad:List Int):Option ((List Int)):=iter (fun w:Int×Int×(List Int)=>wZ aC dN b3 w.1 w.2.1 w.2.2) (mh,bI,ad)
theorem Vi {aC dN:List Int}{b3 mh bI:Int}{ad:List Int}:bz (wZ aC dN b3 mh bI ad) (dQ a9 43 0 133 [1,1,1,0,1,0,0] (Ia aC dN b3 (mh,bI,ad)) (Ia aC dN b3) (Io aC dN b3)):=by
 unfold wZ
 exact .ite (fun h1 =>
  .a0 fun o =>
  .au fun aI av =>
  (let t1:List b2:=[(J 1),.aa true,.ax (bt 2 (.b9 (eI aI)) 2),(J 4),(J 4)];
  have aU:=((.da h1 o.1 (cU eI o.2) (bX eI av)):cr _);
  .ite (fun az =>
  .a0 fun aZ =>
  .au fun fl bl =>
  (let t3:List b2:=t1.append [.aa true,.ax (bt 4 (.b9 (eI fl)) 2),(J 1),(J 2)];
  have eS:=aU.aJ (.da az aZ.1 (cU eI aZ.2) (bX eI bl));
  .ite (fun cq =>
  .a0 fun cQ =>
  .a0 fun fa =>
  .ret (let q1:=(R ((R ((R (aI-mh))-fl))+(1000000000:Int)));bi (t3.append [.aa true,(J 3),(J 1),.ax (ah 4 (an .fP [])),(J 2),.aO [0] [.cA (af 1 eI (ad.set (0+bI.toNat) q1))] [(1,ii),(5,fV ((ad.set (0+bI.toNat) q1).length)),(6,ii),(12,ii),(13,ii),(14,ii)]]) (eS.aJ (.gD cq cQ.1 cQ.2 (hE eI fa) (hz 1) (cY 1 .live (gI (cX eI ad) (0+bI.toNat) q1)) (aK 1 .live aQ (ad.set (0+bI.toNat) q1)) (hU (dJ ad) (0+bI.toNat) q1)))))
  (fun cq =>
  .a0 fun cQ =>
  .a0 fun fa =>
  .ret (let a2:=R ((R (aI-mh))-fl);bi (t3.append [.aa false,.ax (ah 4 (an .fP [])),(J 2),.aO [0] [.cA (af 1 eI (ad.set (0+bI.toNat) a2))] [(1,ii),(5,fV ((ad.set (0+bI.toNat) a2).length)),(6,ii),(12,ii),(13,ii),(14,ii)]]) (eS.aJ (.gD cq cQ.1 cQ.2 (hE eI fa) (hz 1) (cY 1 .live (gI (cX eI ad) (0+bI.toNat) a2)) (aK 1 .live aQ (ad.set (0+bI.toNat) a2)) (hU (dJ ad) (0+bI.toNat) a2)))))))
  (fun az =>
  (let t3:List b2:=t1.append [.aa false,(J 1),(J 2)];
  .ite (fun aZ =>
  .a0 fun bg =>
  .a0 fun bl =>
  .ret (let bO:=(R ((R (aI-mh))+(1000000000:Int)));bi (t3.append [.aa true,(J 3),(J 1),.ax (ah 4 (an .fP [])),(J 2),.aO [0] [.cA (af 1 eI (ad.set (0+bI.toNat) bO))] [(1,ii),(5,fV ((ad.set (0+bI.toNat) bO).length)),(6,ii),(12,ii),(13,ii),(14,ii)]]) (aU.aJ (.bk az aZ bg.1 bg.2 (hE eI bl) (hz 1) (cY 1 .live (gI (cX eI ad) (0+bI.toNat) bO)) (aK 1 .live aQ (ad.set (0+bI.toNat) bO)) (.e1 (hU (dJ ad) (0+bI.toNat) bO))))))
  (fun aZ =>
  .a0 fun bg =>
  .a0 fun bl =>
  .ret (let b4:=R (aI-mh);bi (t3.append [.aa false,.ax (ah 4 (an .fP [])),(J 2),.aO [0] [.cA (af 1 eI (ad.set (0+bI.toNat) b4))] [(1,ii),(5,fV ((ad.set (0+bI.toNat) b4).length)),(6,ii),(12,ii),(13,ii),(14,ii)]]) (aU.aJ (.bk az aZ bg.1 bg.2 (hE eI bl) (hz 1) (cY 1 .live (gI (cX eI ad) (0+bI.toNat) b4)) (aK 1 .live aQ (ad.set (0+bI.toNat) b4)) (.e1 (hU (dJ ad) (0+bI.toNat) b4))))))))))
  (fun h1 =>
  .ret (bi [(J 1),.aa false,.aO [0] [.pure] (ba [5])] (.aD h1 (aK 1 .live aQ ad))))
theorem WE {aC dN:List Int}{b3 mh bI:Int}{ad:List Int}{r} (h:Jo aC dN b3 mh bI ad=some r):dR a9 43 0 133 [1,1,1,0,1,0,0] (Ia aC dN b3) (Io aC dN b3) (mh,bI,ad) r:=dS (fun _=>Vi) h
def sV (ai aC:List Int):Option (List Int) :=
 if 0≤(len_ eI ai)∧(8:Int)*(len_ eI ai)≤281474976710656∧(len_ eI ai)<9223372036854775808 then
 Jo aC ai (len_ eI ai) 0 0 (List.replicate (len_ eI ai).toNat 0:List Int) >>= fun b1 =>
 pQ b1 >>= fun bb =>
 some bb
 else none
theorem NP {ai aC:List Int}:bz (sV ai aC) (fun r=>Con a9 133 [.isl 1 (ai.map eI),.isl 1 (aC.map eI)] [] (.isl 1 (r.map eI)) []):=by
 unfold sV
 exact .a0 fun h1 =>
  .au fun b1 ab =>
  .au fun bb az =>
  .ret (let a2:=len_ eI ai;let q1:=(List.replicate a2.toNat 0:List Int);bw [(J 1),(J 4),(J 1),(J 3),.aO [3] [.cA (af 1 eI q1)] [(1,ii),(5,fV (q1.length)),(6,ii),(12,ii),(13,ii),(14,ii)],(Io aC ai a2 b1).fc,.iO 0,.ax (bt 1 (.call {ac:=[.bu (.di (.ek (b1.map eI)))],r:= .isl 1 (bb.map eI),fB:=false,fI:=[0]}) 1)] (.bk h1.1 (Int.le_refl a2) h1.2.1 h1.2.2 (cY 1 .live (lF eI a2.toNat 0)) (aK 1 .live aQ q1) (lZ a2.toNat (0:Int)) (WE ab) (.da (f6 eI b1) (fC eI b1) (dw aQ b1) (uj bb az))))
def w5 (c8 ey:bq):Option bq :=
 qk c8.cC ey.cC >>= fun r1 =>
 if (c8.cN == ey.cN)=true then
  xr c8.cC ey.cC >>= fun bb =>
  m4 c8.cN bb >>= fun cj =>
  some cj
 else
  if (decide ((0:Int)≤r1))=true then
   sV c8.cC ey.cC >>= fun aM =>
   m4 c8.cN aM >>= fun cb =>
   some cb
  else
   sV ey.cC c8.cC >>= fun aM =>
   m4 ey.cN aM >>= fun cb =>
   some cb
theorem VG {c8 ey:bq}:bz (w5 c8 ey) (fun r=>Con a9 128 [.agg (aX c8),.agg (aX ey)] [] (.agg (aX r)) []):=by
 unfold w5
 exact .au fun r1 o =>
  (let t1:List b2:=[(J 3),.ax (bt 4 (bp 2 (.n .i64 r1) true) 1),(J 6)];
  have aU:=((.aD (CR r1 o) (b7.n .i64 r1)):cr _);
  .ite (fun ab =>
  .au fun bb az =>
  .au fun cj bg =>
  .ret (bw (t1.append [.aa true,.ax (ah 6 (an (bp 2 (.isl 1 (bb.map eI)) false) (an (bp 2 (.agg (aX cj)) false) (ah 1 []))))]) (aU.aJ (.bS ab (XT bb az) (sM cj bg)))))
  (fun ab =>
  .ite (fun av =>
  .au fun aM aZ =>
  .au fun cb bl =>
  .ret (bw (t1.append [.aa false,(J 3),.aa true,.ax (ah 6 (an (bp 2 (.isl 1 (aM.map eI)) false) (an (bp 2 (.agg (aX cb)) false) (ah 1 []))))]) (aU.aJ (.da ab av (NP aM aZ) (sM cb bl)))))
  (fun av =>
  .au fun aM aZ =>
  .au fun cb bl =>
  .ret (bw (t1.append [.aa false,(J 3),.aa false,.ax (ah 6 (an (bp 2 (.isl 1 (aM.map eI)) false) (an (bp 2 (.agg (aX cb)) false) (ah 1 []))))]) (aU.aJ (.da ab av (NP aM aZ) (sM cb bl)))))))
def tY (c8 ey:bq):Option bq :=
 rE ey >>= fun r1 =>
 w5 c8 r1 >>= fun bj =>
 some bj
theorem MR {c8 ey:bq}:bz (tY c8 ey) (fun r=>Con a9 121 [.agg (aX c8),.agg (aX ey)] [] (.agg (aX r)) []):=by
 unfold tY
 exact .au fun r1 o =>
  .au fun bj av =>
  .ret (bw [(J 3),.ax (ah 2 (an (bp 1 (.agg (aX r1)) false) (an (bp 2 (.agg (aX bj)) false) (ah 1 []))))] (.aD (Gh r1 o) (VG bj av)))
def FO (eL:List (List bq))(eT:Bool)(eK eM:List Int)(iT:Int)(j6:List Bool)(lq:List Int)(bs jP:Int):(Int×Bool×(List Int))→S:=fun (h8,aG,aE)=>dm [(0,.eb 6 [[.isl 1 (eL.map (eu 2 aX)),.b eT,.isl 1 (eK.map eI),.isl 1 (eM.map eI),.n .i64 iT,.isl 1 (j6.map eh)]] 0 0),(1,.isl 1 (lq.map eI)),(2,.n .i64 bs),(7,.ref 0 0 0 0),(23,.isl 1 (eM.map eI)),(24,.n .i64 jP),(25,.n .i64 h8)] [[ae.mk 2 [[.b aG,.isl 1 (aE.map eI)]] .live]]
def MC (eL:List (List bq))(eT:Bool)(eK eM:List Int)(iT:Int)(j6:List Bool)(lq:List Int)(bs jP:Int):(Bool×(List Int))→dp
 | a=>⟨some 0,[(7,.ref 0 0 0 0)],[[ae.mk 2 [[.b a.1,.isl 1 (a.2.map eI)]] .live]]⟩
def vY (eL:List (List bq))(eT:Bool)(eK eM:List Int)(iT:Int)(j6:List Bool)(lq:List Int)(bs jP h8:Int)(aG:Bool)(aE:List Int):Option ((Int×Bool×(List Int))⊕(Bool×(List Int))) :=
 if (decide (h8<jP))=true then
  if 0≤h8∧h8<eM.length then
  eM[h8.toNat]? >>= fun aI =>
  if 0≤aI∧aI<lq.length then
  lq[aI.toNat]? >>= fun cw =>
  if (cw != (0:Int))=true then
   if 0≤h8∧h8<eL.length then
   eL[h8.toNat]? >>= fun iP =>
   if 0≤bs∧bs<iP.length then
   iP[bs.toNat]? >>= fun qU =>
   oV qU >>= fun gA =>
   if (gA != (0:Int))=true then
    oj cw >>= fun fb =>
    pd qU fb >>= fun kp =>
    tY (⟨aG,aE⟩:bq) kp >>= fun BN =>
    some (.inl (R (h8+(1:Int)),BN.cN,BN.cC))
   else
    some (.inl (R (h8+(1:Int)),aG,aE))
   else none
   else none
  else
   some (.inl (R (h8+(1:Int)),aG,aE))
  else none
  else none
 else
  some (.inr (aG,aE))
def G9 (eL:List (List bq))(eT:Bool)(eK eM:List Int)(iT:Int)(j6:List Bool)(lq:List Int)(bs jP h8:Int)(aG:Bool)(aE:List Int):Option (Bool×(List Int)):=iter (fun w:Int×Bool×(List Int)=>vY eL eT eK eM iT j6 lq bs jP w.1 w.2.1 w.2.2) (h8,aG,aE)
theorem Tt {eL:List (List bq)}{eT:Bool}{eK eM:List Int}{iT:Int}{j6:List Bool}{lq:List Int}{bs jP h8:Int}{aG:Bool}{aE:List Int}:bz (vY eL eT eK eM iT j6 lq bs jP h8 aG aE) (dQ a9 70 0 102 [1,1,0,1,0,0] (FO eL eT eK eM iT j6 lq bs jP (h8,aG,aE)) (FO eL eT eK eM iT j6 lq bs jP) (MC eL eT eK eM iT j6 lq bs jP)):=by
 unfold vY
 exact .ite (fun h1 =>
  .a0 fun o =>
  .au fun aI av =>
  .a0 fun az =>
  .au fun cw bg =>
  (let t1:List b2:=[(J 1),.aa true,.ax (bt 2 (.b9 (eI aI)) 2)];
  have aU:=((.er h1 o.1 (cU eI o.2) (bX eI av) az.1 (cU eI az.2) (bX eI bg)):cr _);
  .ite (fun bl =>
  .a0 fun cq =>
  .au fun iP fa =>
  .a0 fun eV =>
  .au fun qU eB =>
  .au fun gA hS =>
  (let t3:List b2:=t1.append [.ax (ah 3 (an (.b9 (eI cw)) (ah 8 (an (.b9 ((eu 2 aX) iP)) (ah 2 (an (.b9 (aX qU)) (an (bp 1 (.n .i64 gA) true) (ah 1 (an (.aa true) [])))))))))];
  have eS:=aU.aJ (.bk bl bl bl bl bl bl cq.1 (cU (eu 2 aX) cq.2) (.bk bl (bX (eu 2 aX) fa) bl bl eV.1 (cU aX eV.2) bl (bX aX eB) (.dl bl (sJ gA hS) (b7.n .i64 gA) bl bl)));
  .ite (fun hr =>
  .au fun fb gz =>
  .au fun kp gY =>
  .au fun BN mW =>
  .ret (bi (t3.append [.aa true,.ax (ah 7 (an (.b9 ((eu 2 aX) iP)) (ah 2 (an (.b9 (aX qU)) (ah 3 (an (.b9 (eI cw)) (an (bp 1 (.agg (aX fb)) false) (an (bp 2 (.agg (aX kp)) false) (an (bp 2 (.agg (aX BN)) false) (ah 1 [])))))))))),(J 2),.aO [0] [.box [.id,.id]] (ba [0,1,2,7,23,24,25])]) (eS.aJ (.bk hr cq.1 (cU (eu 2 aX) cq.2) (bX (eu 2 aX) fa) eV.1 (cU aX eV.2) (bX aX eB) az.1 (.dl (cU eI az.2) (bX eI bg) (rI fb gz) (wD kp gY) (MR BN mW))))))
  (fun hr =>
  .ret (bi (t3.append [.aa false,(J 2),.aO [0] [.box [.id,.id]] (ba [0,1,2,7,23,24,25])]) (eS.aJ (.e1 hr))))))
  (fun bl =>
  .ret (bi (t1.append [.ax (ah 3 (an (.b9 (eI cw)) (ah 2 (cn 12 (an (.aa false) []))))),.aa false,(J 2),.aO [0] [.box [.id,.id]] (ba [0,1,2,7,23,24,25])]) (aU.aJ (.bk bl bl bl bl bl bl bl bl (.dT bl bl bl bl bl cP)))))))
  (fun h1 =>
  .ret (bi [(J 1),.aa false,.aO [0] [.box [.id,.id]] (ba [7])] (.e1 h1)))
theorem Ur {eL:List (List bq)}{eT:Bool}{eK eM:List Int}{iT:Int}{j6:List Bool}{lq:List Int}{bs jP h8:Int}{aG:Bool}{aE:List Int}{r} (h:G9 eL eT eK eM iT j6 lq bs jP h8 aG aE=some r):dR a9 70 0 102 [1,1,0,1,0,0] (FO eL eT eK eM iT j6 lq bs jP) (MC eL eT eK eM iT j6 lq bs jP) (h8,aG,aE) r:=dS (fun _=>Tt) h
def w2 (hd:qn)(lq:List Int)(bs:Int):Option Int :=
 if 0≤bs∧bs<lq.length then
 lq[bs.toNat]? >>= fun dY =>
 oj dY >>= fun bb =>
 pd hd.vb bb >>= fun cj =>
 G9 hd.sa hd.vb.cN hd.vb.cC hd.rm hd.KF hd.KG lq bs (len_ eI hd.rm) 0 cj.cN cj.cC >>= fun c4 =>
 oV (⟨c4.1,c4.2⟩:bq) >>= fun eg =>
 some eg
 else none
theorem MS {hd:qn}{lq:List Int}{bs:Int}:bz (w2 hd lq bs) (fun r=>Con a9 102 [.eb 6 [(xn hd)] 0 0,.isl 1 (lq.map eI),.n .i64 bs] [] (.n .i64 r) []):=by
 unfold w2
 exact .a0 fun h1 =>
  .au fun dY ab =>
  .au fun bb az =>
  .au fun cj bg =>
  .au fun c4 cq =>
  .au fun eg fa =>
  .ret (bw [(J 1),.ax (ah 7 (an (.b9 (eI dY)) (an (bp 1 (.agg (aX bb)) false) (an (bp 2 (.agg (aX cj)) false) (ah 2 []))))),(J 6),.aO [11] [.box [.id,.id]] (ba [0,1,2,7,23,24,25]),.sub (.exit 0) [(7,.ref 0 0 0 0)] [[ae.mk 2 [[.b c4.1,.isl 1 (c4.2.map eI)]] .live]],.ax (bt 1 (bp 1 (.n .i64 eg) true) 1)] (.gD h1.1 (cU eI h1.2) (bX eI ab) (rI bb az) (wD cj bg) (Ur cq) (sJ eg fa) (b7.n .i64 eg)))
def rF (c8 ey:bq):Option Int :=
 if (c8.cN == ey.cN)=true then
  if c8.cN=true then
   qk ey.cC c8.cC >>= fun bj =>
   some bj
  else
   qk c8.cC ey.cC >>= fun bj =>
   some bj
 else
  if c8.cN=true then
   some (-1)
  else
   some 1
theorem UW {c8 ey:bq}:bz (rF c8 ey) (fun r=>Con a9 122 [.agg (aX c8),.agg (aX ey)] [] (.n .i64 r) []):=by
 unfold rF
 exact .ite (fun h1 =>
  (let t1:List b2:=[(J 3),.ax (ah 6 (cn 2 (an (.aa false) (ah 1 [])))),.aa false,(J 6),.aa false,(J 3)];
  have aU:=((.dl (c0 h1) (c0 h1) (c0 h1) cP (c0 h1)):cr _);
  .ite (fun o =>
  .au fun bj av =>
  .ret (bw (t1.append [.aa true,.ax (bt 4 (bp 2 (.n .i64 bj) true) 1)]) (aU.aJ (.bS o (CR bj av) (b7.n .i64 bj)))))
  (fun o =>
  .au fun bj av =>
  .ret (bw (t1.append [.aa false,.ax (bt 4 (bp 2 (.n .i64 bj) true) 1)]) (aU.aJ (.bS o (CR bj av) (b7.n .i64 bj)))))))
  (fun h1 =>
  (let t1:List b2:=[(J 3),.ax (bt 8 (.aa true) 1)];
  have aU:=((.bS (cS h1) (cS h1) (cS h1)):cr _);
  .ite (fun o =>
  .ret (bw (t1.append [.aa true,(J 1)]) (aU.aJ (.e1 o))))
  (fun o =>
  .ret (bw (t1.append [.aa false,(J 6),.aa true,(J 1)]) (aU.aJ (.aD o (cS h1)))))))
def Fv (eL:List (List bq))(eT:Bool)(eK eM:List Int)(iT:Int)(j6:List Bool)(bs b3:Int):(Int×Int)→S:=fun (hX,bI)=>dm [(0,.eb 6 [[.isl 1 (eL.map (eu 2 aX)),.b eT,.isl 1 (eK.map eI),.isl 1 (eM.map eI),.n .i64 iT,.isl 1 (j6.map eh)]] 0 0),(1,.n .i64 bs),(5,.n .i64 hX),(12,.isl 1 (eL.map (eu 2 aX))),(13,.n .i64 b3),(14,.n .i64 bI)] []
def Mz (eL:List (List bq))(eT:Bool)(eK eM:List Int)(iT:Int)(j6:List Bool)(bs b3:Int):Int→dp
 | a=>⟨some 0,[(5,.n .i64 a)],[]⟩
def vN (eL:List (List bq))(eT:Bool)(eK eM:List Int)(iT:Int)(j6:List Bool)(bs b3 hX bI:Int):Option ((Int×Int)⊕(Int)) :=
 if (decide (bI<b3))=true then
  if 0≤bI∧bI<eL.length then
  eL[bI.toNat]? >>= fun aI =>
  if 0≤bs∧bs<aI.length then
  aI[bs.toNat]? >>= fun cw =>
  oV cw >>= fun c4 =>
  if (decide (c4≤(0:Int)))=true then
   some (.inl (hX,R (bI+(1:Int))))
  else
   if (decide (hX<(0:Int)))=true then
    some (.inl (bI,R (bI+(1:Int))))
   else
    if 0≤iT∧iT<aI.length then
    aI[iT.toNat]? >>= fun qU =>
    if 0≤hX∧hX<eL.length then
    eL[hX.toNat]? >>= fun ms =>
    if 0≤bs∧bs<ms.length then
    ms[bs.toNat]? >>= fun qV =>
    pd qU qV >>= fun nK =>
    if 0≤iT∧iT<ms.length then
    ms[iT.toNat]? >>= fun sq =>
    pd sq cw >>= fun nL =>
    rF nK nL >>= fun mu =>
    if (decide (mu<(0:Int)))=true then
     some (.inl (bI,R (bI+(1:Int))))
    else
     if (mu == (0:Int))=true then
      if 0≤bI∧bI<eM.length then
      eM[bI.toNat]? >>= fun LD =>
      if 0≤hX∧hX<eM.length then
      eM[hX.toNat]? >>= fun LF =>
      if (decide (LD<LF))=true then
       some (.inl (bI,R (bI+(1:Int))))
      else
       some (.inl (hX,R (bI+(1:Int))))
      else none
      else none
     else
      some (.inl (hX,R (bI+(1:Int))))
    else none
    else none
    else none
    else none
  else none
  else none
 else
  some (.inr hX)
def Gi (eL:List (List bq))(eT:Bool)(eK eM:List Int)(iT:Int)(j6:List Bool)(bs b3 hX bI:Int):Option (Int):=iter (fun w:Int×Int=>vN eL eT eK eM iT j6 bs b3 w.1 w.2) (hX,bI)
theorem Te {eL:List (List bq)}{eT:Bool}{eK eM:List Int}{iT:Int}{j6:List Bool}{bs b3 hX bI:Int}:bz (vN eL eT eK eM iT j6 bs b3 hX bI) (dQ a9 91 0 103 [1,1,0,1,0,0] (Fv eL eT eK eM iT j6 bs b3 (hX,bI)) (Fv eL eT eK eM iT j6 bs b3) (Mz eL eT eK eM iT j6 bs b3)):=by
 unfold vN
 exact .ite (fun h1 =>
  .a0 fun o =>
  .au fun aI av =>
  .a0 fun az =>
  .au fun cw bg =>
  .au fun c4 cq =>
  (let t1:List b2:=[(J 1),.aa true,.ax (bt 2 (.b9 ((eu 2 aX) aI)) 2),.ax (ah 3 (an (.b9 (aX cw)) (an (bp 1 (.n .i64 c4) true) (ah 1 []))))];
  have aU:=((.bk h1 o.1 (cU (eu 2 aX) o.2) (bX (eu 2 aX) av) az.1 (cU aX az.2) (bX aX bg) (sJ c4 cq) (.e1 (b7.n .i64 c4))):cr _);
  .ite (fun cQ =>
  .ret (bi (t1.append [.aa true,(J 2),.aO [] [] (ba [0,1,5,12,13,14])]) (aU.aJ (.e1 cQ))))
  (fun cQ =>
  .ite (fun fa =>
  .ret (bi (t1.append [.aa false,(J 2),.aa true,(J 2),(J 2),.aO [] [] (ba [0,1,5,12,13,14])]) (aU.aJ (.aD cQ fa))))
  (fun fa =>
  .a0 fun eV =>
  .au fun qU eB =>
  .a0 fun fR =>
  .au fun ms hr =>
  .a0 fun hs =>
  .au fun qV fk =>
  .au fun nK jw =>
  .a0 fun mW =>
  .au fun sq qW =>
  .au fun nL so =>
  .au fun mu BO =>
  (let q1:=eu 2 aX;let t3:List b2:=t1.append [.aa false,(J 2),.aa false,.ax (ah 6 (an (.b9 (aX qU)) (ah 6 (an (.b9 (q1 ms)) (ah 2 (an (.b9 (aX qV)) (an (bp 2 (.agg (aX nK)) false) (ah 6 (an (.b9 (q1 ms)) (ah 5 (an (.b9 (aX sq)) (ah 3 (an (.b9 (aX cw)) (an (bp 2 (.agg (aX nL)) false) (an (bp 2 (.n .i64 mu) true) (ah 1 []))))))))))))))))];
  have eS:=aU.aJ (.bk cQ fa eV.1 (cU aX eV.2) (bX aX eB) fR.1 (cU q1 fR.2) (bX q1 hr) (.bk hs.1 (cU aX hs.2) (bX aX fk) (wD nK jw) fR.1 (cU q1 fR.2) (bX q1 hr) mW.1 (.gD (cU aX mW.2) (bX aX qW) az.1 (cU aX az.2) (bX aX bg) (wD nL so) (UW mu BO) (b7.n .i64 mu))));
  .ite (fun od =>
  .ret (bi (t3.append [.ax (ah 3 (cn 3 (ah 15 (cn 1 (an (.aa true) []))))),.aa true,(J 2),(J 2),.aO [] [] (ba [0,1,5,12,13,14])]) (eS.aJ (.dT od od od od od cB))))
  (fun od =>
  .ite (fun jz =>
  .a0 fun RY =>
  .au fun LD adw =>
  .a0 fun RZ =>
  .au fun LF adx =>
  (let t5:List b2:=t3.append [.ax (ah 12 (an (.b9 (eI LD)) (ah 6 (an (.b9 (eI LF)) (ah 1 (an (.aa true) (an (.aa false) [])))))))];
  have kH:=eS.aJ (.bk od od od jz jz jz jz jz (.bk jz RY.1 (cU eI RY.2) jz (bX eI adw) jz jz jz (.bk jz jz jz RZ.1 (cU eI RZ.2) jz (bX eI adx) jz (.bS od jz od))));
  .ite (fun LG =>
  .ret (bi (t5.append [.aa true,(J 2),(J 2),.aO [] [] (ba [0,1,5,12,13,14])]) (kH.aJ (.e1 LG))))
  (fun LG =>
  .ret (bi (t5.append [.aa false,(J 2),.aO [] [] (ba [0,1,5,12,13,14])]) (kH.aJ (.e1 LG))))))
  (fun jz =>
  .ret (bi (t3.append [.ax (ah 6 (cn 15 (an (.aa false) (an (.aa false) [])))),.aa false,(J 2),.aO [] [] (ba [0,1,5,12,13,14])]) (eS.aJ (.bk od od od jz jz jz jz jz (.bk jz jz jz jz jz jz jz jz (.dT jz jz od jz od cP))))))))))))
  (fun h1 =>
  .ret (bi [(J 1),.aa false,.aO [] [] (ba [5])] (.e1 h1)))
theorem TQ {eL:List (List bq)}{eT:Bool}{eK eM:List Int}{iT:Int}{j6:List Bool}{bs b3 hX bI:Int}{r} (h:Gi eL eT eK eM iT j6 bs b3 hX bI=some r):dR a9 91 0 103 [1,1,0,1,0,0] (Fv eL eT eK eM iT j6 bs b3) (Mz eL eT eK eM iT j6 bs b3) (hX,bI) r:=dS (fun _=>Te) h
def y3 (hd:qn)(bs:Int):Option Int :=
 Gi hd.sa hd.vb.cN hd.vb.cC hd.rm hd.KF hd.KG bs (len_ (eu 2 aX) hd.sa) (-1) 0 >>= fun r1 =>
 some r1
theorem Us {hd:qn}{bs:Int}:bz (y3 hd bs) (fun r=>Con a9 103 [.eb 6 [(xn hd)] 0 0,.n .i64 bs] [] (.n .i64 r) []):=by
 unfold y3
 exact .au fun r1 o =>
  .ret (bw [(J 1),(J 1),(J 6),.aO [] [] (ba [0,1,5,12,13,14]),.sub (.exit 0) [(5,.n .i64 r1)] [],(J 2)] (.e1 (TQ o)))
def An (aL:List Int):Option (List Int) :=
 if aL.length*8≤140737488355328 then some aL else none
theorem Zj:Con a9 134 [.eo] [] (.isl 1 (([]:List Int).map eI)) []:=bw [(J 1),(J 2),.aa true,(J 1)] (.e1 cB) (.bu (.di (.jj 1)))
theorem Zk:Con a9 134 [.ib] [] (.isl 1 (([]:List Int).map eI)) []:=(by
 have h:=fun (h1:(([]:List Int)++([]:List Int)).length*8≤140737488355328)=>(bw [(J 1),(J 2),.aa false,.ax (bt 2 (.aJ ((([]:List Int)++([]:List Int)).length)) 1)] (.er cP (m7 (show []=(([]:List Int)).map eI from rfl) (eZ Int)) (lG (eZ Int) (m0 eI):(([]:List Int)++([]:List Int)).length=0+([]:List (List aB)).length) h1 (kR (h6 (show []=(([]:List Int)).map eI from rfl) (eZ Int) (m0 eI)) (dJ (([]:List Int)++([]:List Int)))) (k2 (h6 (show []=(([]:List Int)).map eI from rfl) (eZ Int) (m0 eI)) (dJ (([]:List Int)++([]:List Int)))) (dw aQ (([]:List Int)++([]:List Int)))) (.bu (.di (.ek ((([]:List Int)++([]:List Int)).map eI)))):Con a9 134 [.ib] [] (.isl 1 ((([]:List Int)++([]:List Int)).map eI)) [])
 exact h (by decide))
theorem Zl (x:Int)(l:List Int)(h1:(([]:List Int)++(x::l)).length*8≤140737488355328):Con a9 134 [.isl 1 ((x::l).map eI)] [] (.isl 1 ((([]:List Int)++(x::l)).map eI)) []:=bw [(J 1),.ax (ah 1 (an .fP [])),.aa false,.ax (bt 2 (.aJ ((([]:List Int)++(x::l)).length)) 1)] (.gD (by simp:(x::l).map eI≠[]) cP (m7 (show []=(([]:List Int)).map eI from rfl) (eZ Int)) (lG (eZ Int) (cX eI (x::l)):(([]:List Int)++(x::l)).length=0+((x::l).map eI).length) h1 (kR (h6 (show []=(([]:List Int)).map eI from rfl) (eZ Int) (cX eI (x::l))) (dJ (([]:List Int)++(x::l)))) (k2 (h6 (show []=(([]:List Int)).map eI from rfl) (eZ Int) (cX eI (x::l))) (dJ (([]:List Int)++(x::l)))) (dw aQ (([]:List Int)++(x::l)))) (.bu (.di (.ek ((([]:List Int)++(x::l)).map eI))))
theorem YK {aL:List Int}:bz (An aL) (fun r=>Con a9 134 [.isl 1 (aL.map eI)] [] (.isl 1 (r.map eI)) []):=by
 unfold An
 refine .a0 fun h=> .ret ?_
 cases aL with
 | nil=>exact .jY Zj Zk
 | cons x l =>
  have o:=Zl x l (by simpa using h)
  simpa using o
def Gw (ai:List Int)(aC:Int):(Int×Int×(List Int))→S:=fun (fK,ag,ad)=>dm [(0,.isl 1 (ai.map eI)),(1,.n .i64 aC),(6,.bm 0 0 0 ad.length),(7,.n .i64 fK),(8,.n .i64 ag)] [(af 1 eI ad)]
def GO (ai:List Int)(aC:Int):(Int×(List Int))→dp
 | a=>⟨some 0,[(6,.bm 0 0 0 a.2.length),(7,.n .i64 a.1)],[(af 1 eI a.2)]⟩
def Gx (ai:List Int)(aC fK ag:Int)(ad:List Int):Option ((Int×Int×(List Int))⊕(Int×(List Int))) :=
 if (decide ((0:Int)≤ag))=true then
  if 0≤ag∧ag<ai.length then
  ai[ag.toNat]? >>= fun aI =>
  if aC≠0 then
  if 0≤ag∧ag<(ad.length:Nat) then
  if (0+ag.toNat)<ad.length then
  some (.inl ((R ((R (fK*(1000000000:Int)))+aI)).tmod aC,R (ag-(1:Int)),ad.set (0+ag.toNat) (R ((R ((R (fK*(1000000000:Int)))+aI)).tdiv aC))))
  else none
  else none
  else none
  else none
 else
  some (.inr (fK,ad))
def Ip (ai:List Int)(aC fK ag:Int)(ad:List Int):Option (Int×(List Int)):=iter (fun w:Int×Int×(List Int)=>Gx ai aC w.1 w.2.1 w.2.2) (fK,ag,ad)
theorem T1 {ai:List Int}{aC fK ag:Int}{ad:List Int}:bz (Gx ai aC fK ag ad) (dQ a9 39 0 135 [1,1,1,0,1,0,0] (Gw ai aC (fK,ag,ad)) (Gw ai aC) (GO ai aC)):=by
 unfold Gx
 exact .ite (fun h1 =>
  .a0 fun o =>
  .au fun aI av =>
  .a0 fun az =>
  .a0 fun aZ =>
  .a0 fun bg =>
  .ret (let q1:=(R ((R ((R (fK*(1000000000:Int)))+aI)).tdiv aC));bi [(J 2),.aa true,.ax (bt 5 (.b9 (eI aI)) 2),.ax (bt 9 .fP 1),(J 3),.aO [0] [.cA (af 1 eI (ad.set (0+ag.toNat) q1))] [(0,ii),(1,ii),(6,fV ((ad.set (0+ag.toNat) q1).length)),(7,ii),(8,ii)]] (.bk h1 o.1 (cU eI o.2) (bX eI av) az az aZ.1 aZ.2 (.dl (hE eI bg) (hz 1) (cY 1 .live (gI (cX eI ad) (0+ag.toNat) q1)) (aK 1 .live aQ (ad.set (0+ag.toNat) q1)) (hU (dJ ad) (0+ag.toNat) q1)))))
  (fun h1 =>
  .ret (bi [(J 2),.aa false,.aO [0] [.pure] (ba [6,7])] (.aD h1 (aK 1 .live aQ ad))))
theorem Vm {ai:List Int}{aC fK ag:Int}{ad:List Int}{r} (h:Ip ai aC fK ag ad=some r):dR a9 39 0 135 [1,1,1,0,1,0,0] (Gw ai aC) (GO ai aC) (fK,ag,ad) r:=dS (fun _=>T1) h
def w9 (ai:List Int)(aC:Int):Option ((List Int)×Int) :=
 if 0≤(len_ eI ai)∧(8:Int)*(len_ eI ai)≤281474976710656∧(len_ eI ai)<9223372036854775808 then
 Ip ai aC 0 (R ((len_ eI ai)-(1:Int))) (List.replicate (len_ eI ai).toNat 0:List Int) >>= fun b1 =>
 pQ b1.2 >>= fun bb =>
 some (bb,b1.1)
 else none
theorem Nk {ai:List Int}{aC:Int}:bz (w9 ai aC) (fun r=>Con a9 135 [.isl 1 (ai.map eI),.n .i64 aC] [] (.dX [.isl 1 (r.1.map eI),.n .i64 r.2]) []):=by
 unfold w9
 exact .a0 fun h1 =>
  .au fun b1 ab =>
  .au fun bb az =>
  .ret (let q1:=(List.replicate (len_ eI ai).toNat 0:List Int);bw [(J 2),(J 4),(J 1),(J 4),.aO [4] [.cA (af 1 eI q1)] [(0,ii),(1,ii),(6,fV (q1.length)),(7,ii),(8,ii)],(GO ai aC b1).fc,.iO 0,.ax (bt 1 (.call {ac:=[.bu (.di (.ek (b1.2.map eI)))],r:= .isl 1 (bb.map eI),fB:=false,fI:=[0]}) 3)] (.bk h1.1 (Int.le_refl (len_ eI ai)) h1.2.1 h1.2.2 (cY 1 .live (lF eI (len_ eI ai).toNat 0)) (aK 1 .live aQ q1) (lZ (len_ eI ai).toNat (0:Int)) (Vm ab) (.da (f6 eI b1.2) (fC eI b1.2) (dw aQ b1.2) (uj bb az))))
def HE (ad:List Int):Nat→S:=fun lH=>dm [(0,.bm 0 0 0 lH)] [(af 1 eI ad)]
def Ib (ad:List Int):Nat→dp
 | a=>⟨some 0,[(0,.bm 0 0 0 a)],[(af 1 eI ad)]⟩
def wR (ad:List Int)(lH:Nat):Option ((Nat)⊕(Nat)) :=
 if (decide ((0:Int)<((lH:Nat):Int)))=true then
  if 0≤(R (((lH:Nat):Int)-(1:Int)))∧(R (((lH:Nat):Int)-(1:Int)))<(lH:Nat) then
  ad[(0+(R (((lH:Nat):Int)-(1:Int))).toNat)]? >>= fun aI =>
  if (aI == (0:Int))=true then
   if 0≤(R (((lH:Nat):Int)-(1:Int))) then
   if 0≤(R (((lH:Nat):Int)-(1:Int))).toNat∧(R (((lH:Nat):Int)-(1:Int))).toNat≤lH then
   some (.inl ((R (((lH:Nat):Int)-(1:Int))).toNat-0))
   else none
   else none
  else
   some (.inr lH)
  else none
 else
  some (.inr lH)
def Jb (ad:List Int)(lH:Nat):Option (Nat):=iter (fun w:Nat=>wR ad w) lH
theorem UX {ad:List Int}{lH:Nat}:bz (wR ad lH) (dQ a9 21 1 131 [1,0,0,0] (HE ad lH) (HE ad) (Ib ad)):=by
 unfold wR
 exact .ite (fun h1 =>
  .a0 fun o =>
  .au fun aI av =>
  (let t1:List b2:=[.ax (ah 9 (an (.b9 (eI aI)) (ah 1 (an (.aa true) []))))];
  have aU:=((.bk h1 h1 h1 h1 h1 o.1 o.2 h1 (.bS (bX eI av) h1 h1)):cr _);
  .ite (fun az =>
  .a0 fun aZ =>
  .a0 fun bg =>
  .ret (bi (t1.append [.aa true,(J 6),.aO [0] [.pure] (ba [0])]) (aU.aJ (.dl az aZ bg.1 bg.2 (aK 1 .live aQ ad)))))
  (fun az =>
  .ret (bi (t1.append [.aa false,.aO [0] [.pure] (ba [0])]) (aU.aJ (.aD az (aK 1 .live aQ ad)))))))
  (fun h1 =>
  .ret (bi [.ax (ah 4 (cn 7 (an (.aa false) []))),.aa false,.aO [0] [.pure] (ba [0])] (.bk h1 h1 h1 h1 h1 h1 h1 h1 (.aD cP (aK 1 .live aQ ad)))))
theorem We {ad:List Int}{lH:Nat}{r} (h:Jb ad lH=some r):dR a9 21 1 131 [1,0,0,0] (HE ad) (Ib ad) lH r:=dS (fun _=>UX) h
def zW (fD:List Int):Option Nat :=
 Jb fD fD.length >>= fun r1 =>
 some r1
theorem Xk {fD:List Int}:bz (zW fD) (fun a=>Con a9 131 [.bm 0 0 0 fD.length] [(af 1 eI fD)] (.bm 0 0 0 a) [(af 1 eI fD)]):=by
 unfold zW
 exact .au fun r1 o =>
  .ret (lT [(J 1),.aO [0] [.pure] (ba [0]),(Ib fD r1).fc,(J 2)] [0] [.pure] (.bS (aK 1 .live aQ fD) (We o) (aK 1 .live aQ fD)))
def Ha (aC:List Int)(ag aY:Int)(dd:List Int)(de hb:Int):(Int×Int×(List Int))→S:=fun (c3,df,ad)=>dm [(1,.isl 1 (aC.map eI)),(5,.bm 0 0 0 ad.length),(6,.n .i64 ag),(7,.n .i64 aY),(8,.n .i64 c3),(26,.isl 1 (dd.map eI)),(27,.n .i64 de),(28,.n .i64 ag),(33,.isl 1 (aC.map eI)),(34,.n .i64 hb),(35,.n .i64 df)] [(af 1 eI ad)]
def HF (aC:List Int)(ag aY:Int)(dd:List Int)(de hb:Int):(Int×(List Int))→dp
 | a=>⟨some 2,[(1,.isl 1 (aC.map eI)),(5,.bm 0 0 0 a.2.length),(6,.n .i64 ag),(8,.n .i64 a.1),(26,.isl 1 (dd.map eI)),(27,.n .i64 de),(28,.n .i64 ag)],[(af 1 eI a.2)]⟩
def Hb (aC:List Int)(ag aY:Int)(dd:List Int)(de hb c3 df:Int)(ad:List Int):Option ((Int×Int×(List Int))⊕(Int×(List Int))) :=
 if (decide (df<hb))=true then
  if 0≤df∧df<aC.length then
  aC[df.toNat]? >>= fun aI =>
  if 0≤(R (ag+df))∧(R (ag+df))<(ad.length:Nat) then
  ad[(0+(R (ag+df)).toNat)]? >>= fun cw =>
  if (0+(R (ag+df)).toNat)<ad.length then
  some (.inl (R ((R ((R (cw+(R (aY*aI))))+c3)).tdiv (1000000000:Int)),R (df+(1:Int)),ad.set (0+(R (ag+df)).toNat) ((R ((R (cw+(R (aY*aI))))+c3)).tmod (1000000000:Int))))
  else none
  else none
  else none
 else
  some (.inr (c3,ad))
def Nw (aC:List Int)(ag aY:Int)(dd:List Int)(de hb c3 df:Int)(ad:List Int):Option (Int×(List Int)):=iter (fun w:Int×Int×(List Int)=>Hb aC ag aY dd de hb w.1 w.2.1 w.2.2) (c3,df,ad)
theorem Ut {aC:List Int}{ag aY:Int}{dd:List Int}{de hb c3 df:Int}{ad:List Int}:bz (Hb aC ag aY dd de hb c3 df ad) (dQ a9 72 0 127 [1,1,1,0,1,0,0,1,1,0,0,1,1,0,1,0,0] (Ha aC ag aY dd de hb (c3,df,ad)) (Ha aC ag aY dd de hb) (HF aC ag aY dd de hb)):=by
 unfold Hb
 exact .ite (fun h1 =>
  .a0 fun o =>
  .au fun aI av =>
  .a0 fun az =>
  .au fun cw bg =>
  .a0 fun bl =>
  .ret (let q1:=R ((R (cw+(R (aY*aI))))+c3);let a2:=R (ag+df);bi [(J 1),.aa true,.ax (bt 2 (.b9 (eI aI)) 2),.ax (bt 5 (.b9 (eI cw)) 7),.ax (bt 9 .fP 1),(J 2),.aO [0] [.cA (af 1 eI (ad.set (0+a2.toNat) (q1.tmod (1000000000:Int))))] [(1,ii),(5,fV ((ad.set (0+a2.toNat) (q1.tmod (1000000000:Int))).length)),(6,ii),(7,ii),(8,ii),(26,ii),(27,ii),(28,ii),(33,ii),(34,ii),(35,ii)]] (.bk h1 o.1 (cU eI o.2) (bX eI av) az.1 az.2 (bX eI bg) (by decide:(1000000000:Int)≠0) (.gD (by decide:(1000000000:Int)≠0) az.1 az.2 (hE eI bl) (hz 1) (cY 1 .live (gI (cX eI ad) (0+a2.toNat) (q1.tmod (1000000000:Int)))) (aK 1 .live aQ (ad.set (0+a2.toNat) (q1.tmod (1000000000:Int)))) (hU (dJ ad) (0+a2.toNat) (q1.tmod (1000000000:Int)))))))
  (fun h1 =>
  .ret (bi [(J 1),.aa false,.aO [0] [.pure] (ba [1,5,6,8,26,27,28])] (.aD h1 (aK 1 .live aQ ad))))
theorem VZ {aC:List Int}{ag aY:Int}{dd:List Int}{de hb c3 df:Int}{ad:List Int}{r} (h:Nw aC ag aY dd de hb c3 df ad=some r):dR a9 72 0 127 [1,1,1,0,1,0,0,1,1,0,0,1,1,0,1,0,0] (Ha aC ag aY dd de hb) (HF aC ag aY dd de hb) (c3,df,ad) r:=dS (fun _=>Ut) h
def Hc (aC dd:List Int)(de:Int):(Int×(List Int))→S:=fun (fv,ad)=>dm [(1,.isl 1 (aC.map eI)),(5,.bm 0 0 0 ad.length),(26,.isl 1 (dd.map eI)),(27,.n .i64 de),(28,.n .i64 fv)] [(af 1 eI ad)]
def HG (aC dd:List Int)(de:Int):(List Int)→dp
 | a=>⟨some 0,[(5,.bm 0 0 0 a.length)],[(af 1 eI a)]⟩
def Hd (aC dd:List Int)(de fv:Int)(ad:List Int):Option ((Int×(List Int))⊕((List Int))) :=
 if (decide (fv<de))=true then
  if 0≤fv∧fv<dd.length then
  dd[fv.toNat]? >>= fun aI =>
  Nw aC fv aI dd de (len_ eI aC) 0 0 ad >>= fun aM =>
  if 0≤(R (fv+(len_ eI aC)))∧(R (fv+(len_ eI aC)))<(aM.2.length:Nat) then
  if (0+(R (fv+(len_ eI aC))).toNat)<aM.2.length then
  some (.inl (R (fv+(1:Int)),aM.2.set (0+(R (fv+(len_ eI aC))).toNat) aM.1))
  else none
  else none
  else none
 else
  some (.inr ad)
def IW (aC dd:List Int)(de fv:Int)(ad:List Int):Option ((List Int)):=iter (fun w:Int×(List Int)=>Hd aC dd de w.1 w.2) (fv,ad)
theorem Uu {aC dd:List Int}{de fv:Int}{ad:List Int}:bz (Hd aC dd de fv ad) (dQ a9 72 0 127 [1,1,1,0,1,0,0] (Hc aC dd de (fv,ad)) (Hc aC dd de) (HG aC dd de)):=by
 unfold Hd
 exact .ite (fun h1 =>
  .a0 fun o =>
  .au fun aI av =>
  .au fun aM aZ =>
  .a0 fun bg =>
  .a0 fun bl =>
  .ret (let q1:=R (fv+(len_ eI aC));bi [(J 1),.aa true,.ax (bt 2 (.b9 (eI aI)) 2),(J 1),(J 3),.aO [0] [.pure] (ba [1,5,6,7,8,26,27,28,33,34,35]),(HF aC fv aI dd de (len_ eI aC) aM).fc,.ax (ah 7 (an .fP [])),(J 2),.aO [0] [.cA (af 1 eI (aM.2.set (0+q1.toNat) aM.1))] [(1,ii),(5,fV ((aM.2.set (0+q1.toNat) aM.1).length)),(26,ii),(27,ii),(28,ii)]] (.bk h1 o.1 (cU eI o.2) (bX eI av) (aK 1 .live aQ ad) (VZ aZ) bg.1 bg.2 (.dl (hE eI bl) (hz 1) (cY 1 .live (gI (cX eI aM.2) (0+q1.toNat) aM.1)) (aK 1 .live aQ (aM.2.set (0+q1.toNat) aM.1)) (hU (dJ aM.2) (0+q1.toNat) aM.1)))))
  (fun h1 =>
  .ret (bi [(J 1),.aa false,.aO [0] [.pure] (ba [5])] (.aD h1 (aK 1 .live aQ ad))))
theorem V0 {aC dd:List Int}{de fv:Int}{ad:List Int}{r} (h:IW aC dd de fv ad=some r):dR a9 72 0 127 [1,1,1,0,1,0,0] (Hc aC dd de) (HG aC dd de) (fv,ad) r:=dS (fun _=>Uu) h
def xh (ai aC:List Int):Option (Nat×(List Int)) :=
 if ((len_ eI ai) == (0:Int))=true then
  none
 else
  if ((len_ eI aC) == (0:Int))=true then
   none
  else
   if 0≤(R ((len_ eI ai)+(len_ eI aC)))∧(8:Int)*(R ((len_ eI ai)+(len_ eI aC)))≤281474976710656∧(R ((len_ eI ai)+(len_ eI aC)))<9223372036854775808 then
   IW aC ai (len_ eI ai) 0 (List.replicate (R ((len_ eI ai)+(len_ eI aC))).toNat 0:List Int) >>= fun bb =>
   zW bb >>= fun cj =>
   some (cj,bb)
   else none
theorem Nx {ai aC:List Int}:bz (xh ai aC) (fun a=>Con a9 127 [.isl 1 (ai.map eI),.isl 1 (aC.map eI)] [] (.bm 0 0 0 a.1) [(af 1 eI a.2)]):=by
 unfold xh
 exact .ite (fun h1 =>
  .RQ)
  (fun h1 =>
  .ite (fun o =>
  .RQ)
  (fun o =>
  .a0 fun ab =>
  .au fun bb az =>
  .au fun cj bg =>
  .ret (let q1:=R ((len_ eI ai)+(len_ eI aC));let a2:=(List.replicate q1.toNat 0:List Int);lT [(J 1),.ax (ah 7 (an (.aa false) [])),.aa false,(J 7),(J 3),.aO [14] [.cA (af 1 eI a2)] [(1,ii),(5,fV (a2.length)),(26,ii),(27,ii),(28,ii)],(HG aC ai (len_ eI ai) bb).fc,.ax (bt 1 (.call {a1:=[.row 0],dt:=[.pure],ac:=[ii],r:= .bm 0 0 0 cj,fy:=[(af 1 eI bb)],ik:=ii,kn:=[.pure],fI:=[0],fB:=false}) 1)] [0] [.pure] (.bk h1 h1 h1 h1 o ab.1 (Int.le_refl q1) ab.2.1 (.bk ab.2.2 (cY 1 .live (lF eI q1.toNat 0)) (aK 1 .live aQ a2) (lZ q1.toNat (0:Int)) (V0 az) (iq 1 aQ bb) (iq 1 aQ bb) (Xk cj bg) (.e1 (aK 1 .live aQ bb)))))))
def HH (fi ex:Nat)(ep:List Int)(kl dN:Int):(Int×Int×(List Int))→S:=fun (c3,b3,ad)=>dm [(0,.bm 0 0 fi ex),(1,.isl 1 (ep.map eI)),(2,.n .i64 kl),(7,.n .i64 c3),(11,.isl 1 (ep.map eI)),(12,.n .i64 dN),(13,.n .i64 b3)] [(af 1 eI ad)]
def Ic (fi ex:Nat)(ep:List Int)(kl dN:Int):(Int×(List Int))→dp
 | a=>⟨some 0,[(0,.bm 0 0 fi ex),(1,.isl 1 (ep.map eI)),(7,.n .i64 a.1)],[(af 1 eI a.2)]⟩
def tW (fi ex:Nat)(ep:List Int)(kl dN c3 b3:Int)(ad:List Int):Option ((Int×Int×(List Int))⊕(Int×(List Int))) :=
 if (decide (b3<dN))=true then
  if 0≤b3∧b3<ep.length then
  ep[b3.toNat]? >>= fun aI =>
  if 0≤b3∧b3<(ex:Nat) then
  ad[(fi+b3.toNat)]? >>= fun cw =>
  if (decide ((R ((R (cw-(R (kl*aI))))-c3))<(0:Int)))=true then
   if (fi+b3.toNat)<ad.length then
   some (.inl (R ((R ((999999999:Int)-(R ((R (cw-(R (kl*aI))))-c3)))).tdiv (1000000000:Int)),R (b3+(1:Int)),ad.set (fi+b3.toNat) (R ((R ((R (cw-(R (kl*aI))))-c3))+(R ((R ((R ((999999999:Int)-(R ((R (cw-(R (kl*aI))))-c3)))).tdiv (1000000000:Int)))*(1000000000:Int)))))))
   else none
  else
   if (fi+b3.toNat)<ad.length then
   some (.inl (0,R (b3+(1:Int)),ad.set (fi+b3.toNat) (R ((R (cw-(R (kl*aI))))-c3))))
   else none
  else none
  else none
 else
  some (.inr (c3,ad))
def Jc (fi ex:Nat)(ep:List Int)(kl dN c3 b3:Int)(ad:List Int):Option (Int×(List Int)):=iter (fun w:Int×Int×(List Int)=>tW fi ex ep kl dN w.1 w.2.1 w.2.2) (c3,b3,ad)
theorem UY {fi ex:Nat}{ep:List Int}{kl dN c3 b3:Int}{ad:List Int}:bz (tW fi ex ep kl dN c3 b3 ad) (dQ a9 56 1 136 [1,1,0,1,0,0] (HH fi ex ep kl dN (c3,b3,ad)) (HH fi ex ep kl dN) (Ic fi ex ep kl dN)):=by
 unfold tW
 exact .ite (fun h1 =>
  .a0 fun o =>
  .au fun aI av =>
  .a0 fun az =>
  .au fun cw bg =>
  (let t1:List b2:=[(J 1),.aa true,.ax (bt 2 (.b9 (eI aI)) 2),.ax (bt 3 (.b9 (eI cw)) 7),(J 1),(J 2)];
  have aU:=((.er h1 o.1 (cU eI o.2) (bX eI av) az.1 az.2 (bX eI bg)):cr _);
  .ite (fun bl =>
  .a0 fun cq =>
  .ret (let q1:=(R ((R ((R (cw-(R (kl*aI))))-c3))+(R ((R ((R ((999999999:Int)-(R ((R (cw-(R (kl*aI))))-c3)))).tdiv (1000000000:Int)))*(1000000000:Int)))));bi (t1.append [.aa true,(J 4),(J 5),.ax (ah 4 (an .fP [])),(J 2),.aO [0] [.cA (af 1 eI (ad.set (fi+b3.toNat) q1))] (ba [0,1,2,7,11,12,13])]) (aU.aJ (.gD bl (by decide:(1000000000:Int)≠0) az.1 az.2 (hE eI cq) (hz 1) (cY 1 .live (gI (cX eI ad) (fi+b3.toNat) q1)) (aK 1 .live aQ (ad.set (fi+b3.toNat) q1))))))
  (fun bl =>
  .a0 fun cq =>
  .ret (let a2:=R ((R (cw-(R (kl*aI))))-c3);bi (t1.append [.aa false,.ax (ah 4 (an .fP [])),(J 2),.aO [0] [.cA (af 1 eI (ad.set (fi+b3.toNat) a2))] (ba [0,1,2,7,11,12,13])]) (aU.aJ (.er bl az.1 az.2 (hE eI cq) (hz 1) (cY 1 .live (gI (cX eI ad) (fi+b3.toNat) a2)) (aK 1 .live aQ (ad.set (fi+b3.toNat) a2))))))))
  (fun h1 =>
  .ret (bi [(J 1),.aa false,.aO [0] [.pure] (ba [0,1,7])] (.aD h1 (aK 1 .live aQ ad))))
theorem Wf {fi ex:Nat}{ep:List Int}{kl dN c3 b3:Int}{ad:List Int}{r} (h:Jc fi ex ep kl dN c3 b3 ad=some r):dR a9 56 1 136 [1,1,0,1,0,0] (HH fi ex ep kl dN) (Ic fi ex ep kl dN) (c3,b3,ad) r:=dS (fun _=>UY) h
def zX (ep:List Int)(kl:Int)(fi ex:Nat)(fD:List Int):Option (Bool×(List Int)) :=
 Jc fi ex ep kl (len_ eI ep) 0 0 fD >>= fun r1 =>
 if 0≤(len_ eI ep)∧(len_ eI ep)<(ex:Nat) then
 r1.2[(fi+(len_ eI ep).toNat)]? >>= fun gf =>
 if (fi+(len_ eI ep).toNat)<r1.2.length then
 (r1.2.set (fi+(len_ eI ep).toNat) (R (gf-r1.1)))[(fi+(len_ eI ep).toNat)]? >>= fun fl =>
 some ((decide (fl<(0:Int))),r1.2.set (fi+(len_ eI ep).toNat) (R (gf-r1.1)))
 else none
 else none
theorem Xl {ep:List Int}{kl:Int}{fi ex:Nat}{fD:List Int}:bz (zX ep kl fi ex fD) (fun a=>Con a9 136 (adu 0 0 fi ex ep kl) [(af 1 eI fD)] (.b a.1) [(af 1 eI a.2)]):=by
 unfold zX
 exact .au fun r1 o =>
  .a0 fun ab =>
  .au fun gf az =>
  .a0 fun aZ =>
  .au fun fl bl =>
  .ret (let q1:=R (gf-r1.1);let a2:=len_ eI ep;lT [(J 1),(J 1),(J 3),.aO [0] [.pure] (ba [0,1,2,7,11,12,13]),(Ic fi ex ep kl a2 r1).fc,.ax (ah 4 (an (.b9 (eI gf)) (ah 3 (an .fP [])))),.ax (bt 4 (.b9 (eI fl)) 2)] [0] [.cA (af 1 eI (r1.2.set (fi+a2.toNat) q1))] (.bk (aK 1 .live aQ fD) (Wf o) ab.1 ab.2 (bX eI az) ab.1 ab.2 (hE eI aZ) (.dT (hz 1) ab.1 ab.2 (aaR (gI (cX eI r1.2) (fi+a2.toNat) q1) bl) (cY 1 .live (gI (cX eI r1.2) (fi+a2.toNat) q1)) (aK 1 .live aQ (r1.2.set (fi+a2.toNat) q1)))))
def HI (fi ex:Nat)(ep:List Int)(d7:Int):(Int×Int×(List Int))→S:=fun (c3,c1,ad)=>dm [(0,.bm 0 0 fi ex),(1,.isl 1 (ep.map eI)),(4,.n .i64 c3),(8,.isl 1 (ep.map eI)),(9,.n .i64 d7),(10,.n .i64 c1)] [(af 1 eI ad)]
def Ie (fi ex:Nat)(ep:List Int)(d7:Int):(Int×(List Int))→dp
 | a=>⟨some 0,[(0,.bm 0 0 fi ex),(1,.isl 1 (ep.map eI)),(4,.n .i64 a.1)],[(af 1 eI a.2)]⟩
def wS (fi ex:Nat)(ep:List Int)(d7 c3 c1:Int)(ad:List Int):Option ((Int×Int×(List Int))⊕(Int×(List Int))) :=
 if (decide (c1<d7))=true then
  if 0≤c1∧c1<ep.length then
  ep[c1.toNat]? >>= fun aI =>
  if 0≤c1∧c1<(ex:Nat) then
  ad[(fi+c1.toNat)]? >>= fun cw =>
  if (fi+c1.toNat)<ad.length then
  some (.inl (R ((R ((R (cw+aI))+c3)).tdiv (1000000000:Int)),R (c1+(1:Int)),ad.set (fi+c1.toNat) ((R ((R (cw+aI))+c3)).tmod (1000000000:Int))))
  else none
  else none
  else none
 else
  some (.inr (c3,ad))
def Jd (fi ex:Nat)(ep:List Int)(d7 c3 c1:Int)(ad:List Int):Option (Int×(List Int)):=iter (fun w:Int×Int×(List Int)=>wS fi ex ep d7 w.1 w.2.1 w.2.2) (c3,c1,ad)
theorem UZ {fi ex:Nat}{ep:List Int}{d7 c3 c1:Int}{ad:List Int}:bz (wS fi ex ep d7 c3 c1 ad) (dQ a9 39 1 137 [1,0,1,0,0] (HI fi ex ep d7 (c3,c1,ad)) (HI fi ex ep d7) (Ie fi ex ep d7)):=by
 unfold wS
 exact .ite (fun h1 =>
  .a0 fun o =>
  .au fun aI av =>
  .a0 fun az =>
  .au fun cw bg =>
  .a0 fun bl =>
  .ret (let q1:=R ((R (cw+aI))+c3);bi [(J 1),.aa true,.ax (bt 2 (.b9 (eI aI)) 2),.ax (bt 3 (.b9 (eI cw)) 5),.ax (bt 7 .fP 1),(J 2),.aO [0] [.cA (af 1 eI (ad.set (fi+c1.toNat) (q1.tmod (1000000000:Int))))] (ba [0,1,4,8,9,10])] (.bk h1 o.1 (cU eI o.2) (bX eI av) az.1 az.2 (bX eI bg) (by decide:(1000000000:Int)≠0) (.er (by decide:(1000000000:Int)≠0) az.1 az.2 (hE eI bl) (hz 1) (cY 1 .live (gI (cX eI ad) (fi+c1.toNat) (q1.tmod (1000000000:Int)))) (aK 1 .live aQ (ad.set (fi+c1.toNat) (q1.tmod (1000000000:Int))))))))
  (fun h1 =>
  .ret (bi [(J 1),.aa false,.aO [0] [.pure] (ba [0,1,4])] (.aD h1 (aK 1 .live aQ ad))))
theorem Wg {fi ex:Nat}{ep:List Int}{d7 c3 c1:Int}{ad:List Int}{r} (h:Jd fi ex ep d7 c3 c1 ad=some r):dR a9 39 1 137 [1,0,1,0,0] (HI fi ex ep d7) (Ie fi ex ep d7) (c3,c1,ad) r:=dS (fun _=>UZ) h
def xl (ep:List Int)(fi ex:Nat)(fD:List Int):Option (List Int) :=
 Jd fi ex ep (len_ eI ep) 0 0 fD >>= fun r1 =>
 if 0≤(len_ eI ep)∧(len_ eI ep)<(ex:Nat) then
 r1.2[(fi+(len_ eI ep).toNat)]? >>= fun gf =>
 if (fi+(len_ eI ep).toNat)<r1.2.length then
 some (r1.2.set (fi+(len_ eI ep).toNat) (R (gf+r1.1)))
 else none
 else none
theorem Xm {ep:List Int}{fi ex:Nat}{fD:List Int}:bz (xl ep fi ex fD) (fun a=>Con a9 137 [.bm 0 0 fi ex,.isl 1 (ep.map eI)] [(af 1 eI fD)] (.dX []) [(af 1 eI a)]):=by
 unfold xl
 exact .au fun r1 o =>
  .a0 fun ab =>
  .au fun gf az =>
  .a0 fun aZ =>
  .ret (let q1:=R (gf+r1.1);let a2:=len_ eI ep;lT [(J 1),(J 3),.aO [0] [.pure] (ba [0,1,4,8,9,10]),(Ie fi ex ep a2 r1).fc,.ax (ah 4 (an (.b9 (eI gf)) (ah 3 (an .fP []))))] [0] [.cA (af 1 eI (r1.2.set (fi+a2.toNat) q1))] (.bk (aK 1 .live aQ fD) (Wg o) ab.1 ab.2 (bX eI az) ab.1 ab.2 (hE eI aZ) (.bS (hz 1) (cY 1 .live (gI (cX eI r1.2) (fi+a2.toNat) q1)) (aK 1 .live aQ (r1.2.set (fi+a2.toNat) q1)))))
def Iq (ai:List Int)(fU:Nat)(ad aA:List Int):(List Int)→S:=fun al=>dm [(0,.isl 1 (ai.map eI)),(8,.bm 0 0 0 ad.length),(9,.bm 1 0 0 al.length),(10,.bm 2 0 0 fU)] [(af 1 eI ad),(af 1 eI al),(af 1 eI aA)]
def IF (ai:List Int)(fU:Nat)(ad aA:List Int):(List Int)→dp
 | a=>⟨some 0,[(8,.bm 0 0 0 ad.length),(9,.bm 1 0 0 a.length),(10,.bm 2 0 0 fU)],[(af 1 eI ad),(af 1 eI a),(af 1 eI aA)]⟩
def CJ (ai:List Int)(fU:Nat)(ad aA al:List Int):Option (((List Int))⊕((List Int))) :=
 if (decide (((al.length:Nat):Int)≤(len_ eI ai)))=true then
  if (al++([0]:List Int)).length*8≤140737488355328 then
  some (.inl (al++([0]:List Int)))
  else none
 else
  some (.inr al)
def C9 (ai:List Int)(fU:Nat)(ad aA al:List Int):Option ((List Int)):=iter (fun w:(List Int)=>CJ ai fU ad aA w) al
theorem Vn {ai:List Int}{fU:Nat}{ad aA al:List Int}:bz (CJ ai fU ad aA al) (dQ a9 172 0 130 [1,1,1,1,1,0,0,0] (Iq ai fU ad aA al) (Iq ai fU ad aA) (IF ai fU ad aA)):=by
 unfold CJ
 exact .ite (fun h1 =>
  .a0 fun o =>
  .ret (let q1:=(al++([0]:List Int));bi [(J 5),.aa true,.ax (bt 2 (.aJ (q1.length)) 1),.aO [0,10,2] [.pure,.cA (af 1 eI q1),.pure] (ba [0,8,9,10])] (.bk h1 (gv eI 0) (gO eI al) (gw eI al 0) o (aK 1 .live aQ ad) (cY 1 .live (gS eI al 0)) (aK 1 .live aQ q1) (.e1 (aK 1 .live aQ aA)))))
  (fun h1 =>
  .ret (bi [(J 5),.aa false,.aO [0,1,2] [.pure,.pure,.pure] (ba [8,9,10])] (.da h1 (aK 1 .live aQ ad) (aK 1 .live aQ al) (aK 1 .live aQ aA))))
theorem W1 {ai:List Int}{fU:Nat}{ad aA al:List Int}{r} (h:C9 ai fU ad aA al=some r):dR a9 172 0 130 [1,1,1,1,1,0,0,0] (Iq ai fU ad aA) (IF ai fU ad aA) al r:=dS (fun _=>Vn) h
def Ir (ex fU:Nat)(aY bT:Int)(ad al aA aj:List Int):(Int×Int)→S:=fun (nu,fK)=>dm [(8,.bm 0 0 0 ad.length),(9,.bm 1 0 0 ex),(10,.bm 2 0 0 fU),(11,.n .i64 aY),(12,.bm 3 0 0 aj.length),(13,.n .i64 bT),(15,.n .i64 nu),(16,.n .i64 fK)] [(af 1 eI ad),(af 1 eI al),[ae.mk 1 (aA.map eI) .iO],(af 1 eI aj)]
def IG (ex fU:Nat)(aY bT:Int)(ad al aA aj:List Int):Int→dp
 | a=>⟨some 4,[(8,.bm 0 0 0 ad.length),(9,.bm 1 0 0 ex),(10,.bm 2 0 0 fU),(11,.n .i64 aY),(12,.bm 3 0 0 aj.length),(13,.n .i64 bT),(15,.n .i64 a)],[(af 1 eI ad),(af 1 eI al),[ae.mk 1 (aA.map eI) .iO],(af 1 eI aj)]⟩
def tZ (ex fU:Nat)(aY bT:Int)(ad al aA aj:List Int)(nu fK:Int):Option ((Int×Int)⊕(Int)) :=
 if (decide ((1000000000:Int)≤nu))=true then
  if 0≤(R (aY-(1:Int)))∧(R (aY-(1:Int)))<(fU:Nat) then
  aA[(0+(R (aY-(1:Int))).toNat)]? >>= fun aI =>
  if (decide ((1000000000:Int)≤(R (fK+aI))))=true then
   some (.inr (R (nu-(1:Int))))
  else
   some (.inl (R (nu-(1:Int)),R (fK+aI)))
  else none
 else
  if 0≤(R (aY-(2:Int)))∧(R (aY-(2:Int)))<(fU:Nat) then
  aA[(0+(R (aY-(2:Int))).toNat)]? >>= fun aI =>
  if 0≤(R ((R (bT+aY))-(2:Int)))∧(R ((R (bT+aY))-(2:Int)))<(ex:Nat) then
  al[(0+(R ((R (bT+aY))-(2:Int))).toNat)]? >>= fun cw =>
  if (decide ((R ((R (fK*(1000000000:Int)))+cw))<(R (nu*aI))))=true then
   if 0≤(R (aY-(1:Int)))∧(R (aY-(1:Int)))<(fU:Nat) then
   aA[(0+(R (aY-(1:Int))).toNat)]? >>= fun iP =>
   if (decide ((1000000000:Int)≤(R (fK+iP))))=true then
    some (.inr (R (nu-(1:Int))))
   else
    some (.inl (R (nu-(1:Int)),R (fK+iP)))
   else none
  else
   some (.inr nu)
  else none
  else none
def Jr (ex fU:Nat)(aY bT:Int)(ad al aA aj:List Int)(nu fK:Int):Option (Int):=iter (fun w:Int×Int=>tZ ex fU aY bT ad al aA aj w.1 w.2) (nu,fK)
theorem Vo {ex fU:Nat}{aY bT:Int}{ad al aA aj:List Int}{nu fK:Int}:bz (tZ ex fU aY bT ad al aA aj nu fK) (dQ a9 172 0 130 [1,1,1,1,1,1,1,1,0,1,0,0,1,0,0,1,1,0,0,0] (Ir ex fU aY bT ad al aA aj (nu,fK)) (Ir ex fU aY bT ad al aA aj) (IG ex fU aY bT ad al aA aj)):=by
 unfold tZ
 exact .ite (fun h1 =>
  .a0 fun o =>
  .au fun aI av =>
  (let t1:List b2:=[.ax (ah 3 (cn 18 (an (.aa true) []))),.aa true,(J 3),.ax (bt 5 (.b9 (eI aI)) 2),(J 2)];
  have aU:=((.bk h1 h1 h1 h1 h1 h1 h1 h1 (.bk h1 h1 h1 h1 h1 h1 h1 h1 (.er h1 h1 h1 cB o.1 o.2 (bX eI av)))):cr _);
  .ite (fun az =>
  .ret (bi (t1.append [.aa true,.aO [0,1,2,3] [.pure,.pure,.pure,.pure] (ba [8,9,10,11,12,13,15])]) (aU.aJ (.dl az (aK 1 .live aQ ad) (aK 1 .live aQ al) (aK 1 .iO aQ aA) (aK 1 .live aQ aj)))))
  (fun az =>
  .ret (bi (t1.append [.aa false,.aO [0,1,2,3] [.pure,.pure,.pure,.pure] (ba [8,9,10,11,12,13,15,16])]) (aU.aJ (.dl az (aK 1 .live aQ ad) (aK 1 .live aQ al) (aK 1 .iO aQ aA) (aK 1 .live aQ aj)))))))
  (fun h1 =>
  .a0 fun o =>
  .au fun aI av =>
  .a0 fun az =>
  .au fun cw bg =>
  (let t1:List b2:=[.ax (ah 8 (an (.b9 (eI aI)) (ah 9 (an (.b9 (eI cw)) (ah 2 (an (.aa false) []))))))];
  have aU:=((.bk h1 h1 h1 h1 h1 o.1 o.2 h1 (.bk (bX eI av) h1 h1 h1 h1 h1 h1 h1 (.bk h1 h1 az.1 az.2 h1 (bX eI bg) h1 h1 (.e1 h1)))):cr _);
  .ite (fun bl =>
  .a0 fun cq =>
  .au fun iP fa =>
  (let t3:List b2:=t1.append [.aa true,(J 3),.ax (bt 5 (.b9 (eI iP)) 2),(J 2)];
  .ite (fun eV =>
  .ret (bi (t3.append [.aa true,.aO [0,1,2,3] [.pure,.pure,.pure,.pure] (ba [8,9,10,11,12,13,15])]) (aU.aJ (.bk bl cq.1 cq.2 (bX eI fa) eV (aK 1 .live aQ ad) (aK 1 .live aQ al) (aK 1 .iO aQ aA) (.e1 (aK 1 .live aQ aj))))))
  (fun eV =>
  .ret (bi (t3.append [.aa false,.aO [0,1,2,3] [.pure,.pure,.pure,.pure] (ba [8,9,10,11,12,13,15,16])]) (aU.aJ (.bk bl cq.1 cq.2 (bX eI fa) eV (aK 1 .live aQ ad) (aK 1 .live aQ al) (aK 1 .iO aQ aA) (.e1 (aK 1 .live aQ aj))))))))
  (fun bl =>
  .ret (bi (t1.append [.aa false,.aO [0,1,2,3] [.pure,.pure,.pure,.pure] (ba [8,9,10,11,12,13,15])]) (aU.aJ (.dl bl (aK 1 .live aQ ad) (aK 1 .live aQ al) (aK 1 .iO aQ aA) (aK 1 .live aQ aj)))))))
theorem W2 {ex fU:Nat}{aY bT:Int}{ad al aA aj:List Int}{nu fK:Int}{r} (h:Jr ex fU aY bT ad al aA aj nu fK=some r):dR a9 172 0 130 [1,1,1,1,1,1,1,1,0,1,0,0,1,0,0,1,1,0,0,0] (Ir ex fU aY bT ad al aA aj) (IG ex fU aY bT ad al aA aj) (nu,fK) r:=dS (fun _=>Vo) h
def Is (ex fU:Nat)(aY:Int)(ad aA:List Int):(Int×(List Int)×(List Int))→S:=fun (bT,al,aj)=>dm [(8,.bm 0 0 0 ad.length),(9,.bm 1 0 0 ex),(10,.bm 2 0 0 fU),(11,.n .i64 aY),(12,.bm 3 0 0 aj.length),(13,.n .i64 bT)] [(af 1 eI ad),(af 1 eI al),[ae.mk 1 (aA.map eI) .iO],(af 1 eI aj)]
def IH (ex fU:Nat)(aY:Int)(ad aA:List Int):((List Int)×(List Int))→dp
 | a=>⟨some 2,[(8,.bm 0 0 0 ad.length),(9,.bm 1 0 0 ex),(12,.bm 2 0 0 a.2.length)],[(af 1 eI ad),(af 1 eI a.1),(af 1 eI a.2)]⟩
def t0 (ex fU:Nat)(aY:Int)(ad aA:List Int)(bT:Int)(al aj:List Int):Option ((Int×(List Int)×(List Int))⊕((List Int)×(List Int))) :=
 if (decide ((0:Int)≤bT))=true then
  if 0≤(R (bT+aY))∧(R (bT+aY))<(ex:Nat) then
  al[(0+(R (bT+aY)).toNat)]? >>= fun aI =>
  if 0≤(R ((R (bT+aY))-(1:Int)))∧(R ((R (bT+aY))-(1:Int)))<(ex:Nat) then
  al[(0+(R ((R (bT+aY))-(1:Int))).toNat)]? >>= fun cw =>
  if 0≤(R (aY-(1:Int)))∧(R (aY-(1:Int)))<(fU:Nat) then
  aA[(0+(R (aY-(1:Int))).toNat)]? >>= fun ew =>
  if ew≠0 then
  Jr ex fU aY bT ad al aA aj (R ((R ((R (aI*(1000000000:Int)))+cw)).tdiv ew)) ((R ((R (aI*(1000000000:Int)))+cw)).tmod ew) >>= fun ec =>
  if 0≤bT then
  if bT.toNat≤ex then
  if 0+fU≤aA.length then
  zX ((aA.drop 0).take fU) ec (0+bT.toNat) (ex-bT.toNat) al >>= fun gm =>
  if gm.1=true then
   xl ((aA.drop 0).take fU) (0+bT.toNat) (ex-bT.toNat) gm.2 >>= fun kp =>
   if 0≤bT∧bT<(aj.length:Nat) then
   if (0+bT.toNat)<aj.length then
   some (.inl (R (bT-(1:Int)),kp,aj.set (0+bT.toNat) (R (ec-(1:Int)))))
   else none
   else none
  else
   if 0≤bT∧bT<(aj.length:Nat) then
   if (0+bT.toNat)<aj.length then
   some (.inl (R (bT-(1:Int)),gm.2,aj.set (0+bT.toNat) ec))
   else none
   else none
  else none
  else none
  else none
  else none
  else none
  else none
  else none
 else
  some (.inr (al,aj))
def Js (ex fU:Nat)(aY:Int)(ad aA:List Int)(bT:Int)(al aj:List Int):Option ((List Int)×(List Int)):=iter (fun w:Int×(List Int)×(List Int)=>t0 ex fU aY ad aA w.1 w.2.1 w.2.2) (bT,al,aj)
theorem Vp {ex fU:Nat}{aY:Int}{ad aA:List Int}{bT:Int}{al aj:List Int}:bz (t0 ex fU aY ad aA bT al aj) (dQ a9 172 0 130 [1,1,1,1,1,1,1,1,0,1,0,0] (Is ex fU aY ad aA (bT,al,aj)) (Is ex fU aY ad aA) (IH ex fU aY ad aA)):=by
 unfold t0
 exact .ite (fun h1 =>
  .a0 fun o =>
  .au fun aI av =>
  .a0 fun az =>
  .au fun cw bg =>
  .a0 fun bl =>
  .au fun ew cQ =>
  .a0 fun fa =>
  .au fun ec et =>
  .a0 fun eB =>
  .a0 fun fR =>
  .a0 fun hS =>
  .au fun gm hs =>
  (let t1:List b2:=[(J 2),.aa true,.ax (ah 5 (an (.b9 (eI aI)) (bt 7 (.b9 (eI cw)) 2))),.ax (ah 5 (an (.b9 (eI ew)) (bt 6 (.b9 (eI ew)) 3))),.aO [0,1,2,3] [.pure,.pure,.pure,.pure] (ba [8,9,10,11,12,13,15,16]),(IG ex fU aY bT ad al aA aj ec).fc,.ax (ah 5 (an (.call {a1:=[.row 1],dt:=[.pure],ac:=[ii,.bu (.di (.ek (((aA.drop 0).take fU).map eI))),ii],r:= .b gm.1,fy:=[(af 1 eI gm.2)],ik:=ii,kn:=[.pure],fI:=[1,2],fB:=false}) []))];
  have aU:=((.bk h1 o.1 o.2 (bX eI av) az.1 az.2 (bX eI bg) bl.1 (.bk bl.2 (bX eI cQ) fa bl.1 bl.2 (bX eI cQ) fa (aK 1 .live aQ ad) (.bk (aK 1 .live aQ al) (aK 1 .iO aQ aA) (aK 1 .live aQ aj) (W2 et) eB fR (Nat.le_refl ex) (J1 (cX eI aA) 0 fU) (.dl (rj (cX eI aA) hS) (dw aQ ((aA.drop 0).take fU)) (iq 1 aQ al) (iq 1 aQ gm.2) (Xl gm hs))))):cr _);
  .ite (fun gz =>
  .au fun kp gY =>
  .a0 fun jw =>
  .a0 fun mW =>
  .ret (let q1:=(R (ec-(1:Int)));bi (t1.append [.aa true,(J 3),.ax (ah 4 (an (.call {a1:=[.row 1],dt:=[.pure],ac:=[ii,.bu (.di (.ek (((aA.drop 0).take fU).map eI)))],r:= .dX [],fy:=[(af 1 eI kp)],ik:=ii,kn:=[.pure],fI:=[1,2],fB:=false}) [])),.ax (ah 4 (an .fP [])),(J 3),.aO [0,1,2,3] [.pure,.pure,.pure,.cA (af 1 eI (aj.set (0+bT.toNat) q1))] [(8,ii),(9,ii),(10,ii),(11,ii),(12,fV ((aj.set (0+bT.toNat) q1).length)),(13,ii)]]) (aU.aJ (.bk gz eB fR (Nat.le_refl ex) (J1 (cX eI aA) 0 fU) (rj (cX eI aA) hS) (dw aQ ((aA.drop 0).take fU)) (iq 1 aQ gm.2) (.bk (iq 1 aQ kp) (Xm kp gY) jw.1 jw.2 (hE eI mW) (hz 1) (aK 1 .live aQ ad) (aK 1 .live aQ kp) (.da (aK 1 .iO aQ aA) (cY 1 .live (gI (cX eI aj) (0+bT.toNat) q1)) (aK 1 .live aQ (aj.set (0+bT.toNat) q1)) (hU (dJ aj) (0+bT.toNat) q1)))))))
  (fun gz =>
  .a0 fun fk =>
  .a0 fun gY =>
  .ret (bi (t1.append [.aa false,.ax (ah 4 (an .fP [])),(J 3),.aO [0,1,2,3] [.pure,.pure,.pure,.cA (af 1 eI (aj.set (0+bT.toNat) ec))] [(8,ii),(9,ii),(10,ii),(11,ii),(12,fV ((aj.set (0+bT.toNat) ec).length)),(13,ii)]]) (aU.aJ (.bk gz fk.1 fk.2 (hE eI gY) (hz 1) (aK 1 .live aQ ad) (aK 1 .live aQ gm.2) (aK 1 .iO aQ aA) (.bS (cY 1 .live (gI (cX eI aj) (0+bT.toNat) ec)) (aK 1 .live aQ (aj.set (0+bT.toNat) ec)) (hU (dJ aj) (0+bT.toNat) ec))))))))
  (fun h1 =>
  .ret (bi [(J 2),.aa false,.aO [0,1,3] [.pure,.pure,.pure] (ba [8,9,12])] (.da h1 (aK 1 .live aQ ad) (aK 1 .live aQ al) (aK 1 .live aQ aj))))
theorem W3 {ex fU:Nat}{aY:Int}{ad aA:List Int}{bT:Int}{al aj:List Int}{r} (h:Js ex fU aY ad aA bT al aj=some r):dR a9 172 0 130 [1,1,1,1,1,1,1,1,0,1,0,0] (Is ex fU aY ad aA) (IH ex fU aY ad aA) (bT,al,aj) r:=dS (fun _=>Vp) h
def xt (ai aC:List Int):Option ((List Int)×(List Int)) :=
 qk ai aC >>= fun r1 =>
 if (decide (r1<(0:Int)))=true then
  An ai >>= fun bb =>
  some (([]:List Int),bb)
 else
  if ((len_ eI aC) == (1:Int))=true then
   if 0≤(0:Int)∧(0:Int)<aC.length then
   aC[0]? >>= fun cw =>
   w9 ai cw >>= fun c4 =>
   ui (IntKind.wrap .u64 c4.2) >>= fun eg =>
   some (c4.1,eg)
   else none
  else
   if 0≤(R ((len_ eI aC)-(1:Int)))∧(R ((len_ eI aC)-(1:Int)))<aC.length then
   aC[(R ((len_ eI aC)-(1:Int))).toNat]? >>= fun cw =>
   if (R (cw+(1:Int)))≠0 then
   xh ai ([R ((1000000000:Int).tdiv (R (cw+(1:Int))))]:List Int) >>= fun cc =>
   if cc.1≤cc.2.length then
   if (cc.2.take cc.1++([0]:List Int)).length*8≤140737488355328 then
   xh aC ([R ((1000000000:Int).tdiv (R (cw+(1:Int))))]:List Int) >>= fun eC =>
   C9 ai eC.1 ([R ((1000000000:Int).tdiv (R (cw+(1:Int))))]:List Int) eC.2 (cc.2.take cc.1++([0]:List Int)) >>= fun gA =>
   if 0≤(R (((gA.length:Nat):Int)-((eC.1:Nat):Int)))∧(8:Int)*(R (((gA.length:Nat):Int)-((eC.1:Nat):Int)))≤281474976710656∧(R (((gA.length:Nat):Int)-((eC.1:Nat):Int)))<9223372036854775808 then
   Js gA.length eC.1 ((eC.1:Nat):Int) ([R ((1000000000:Int).tdiv (R (cw+(1:Int))))]:List Int) eC.2 (R ((R (((gA.length:Nat):Int)-((eC.1:Nat):Int)))-(1:Int))) gA (List.replicate (R (((gA.length:Nat):Int)-((eC.1:Nat):Int))).toNat 0:List Int) >>= fun fb =>
   if 0+gA.length≤fb.1.length then
   pQ ((fb.1.drop 0).take gA.length) >>= fun nK =>
   if 0≤(0:Int)∧(0:Int)<(([R ((1000000000:Int).tdiv (R (cw+(1:Int))))]:List Int).length:Nat) then
   ([R ((1000000000:Int).tdiv (R (cw+(1:Int))))]:List Int)[0]? >>= fun sq =>
   w9 nK sq >>= fun nL =>
   pQ fb.2 >>= fun mu =>
   some (mu,nL.1)
   else none
   else none
   else none
   else none
   else none
   else none
   else none
theorem XU {ai aC:List Int}:bz (xt ai aC) (fun r=>Con a9 130 [.isl 1 (ai.map eI),.isl 1 (aC.map eI)] [] (.dX [.isl 1 (r.1.map eI),.isl 1 (r.2.map eI)]) []):=by
 unfold xt
 exact .au fun r1 o =>
  (let t1:List b2:=[(J 2),.ax (bt 2 (bp 2 (.n .i64 r1) true) 1)];
  have aU:=((.aD (CR r1 o) (b7.n .i64 r1)):cr _);
  .ite (fun ab =>
  .au fun bb az =>
  .ret (bw (t1.append [.aa true,.ax (bt 1 (bp 1 (.isl 1 (bb.map eI)) false) 2)]) (aU.aJ (.aD ab (YK bb az))) (.comp [.di (.jj 1),.di .id])))
  (fun ab =>
  .ite (fun av =>
  .a0 fun az =>
  .au fun cw bg =>
  .au fun c4 cq =>
  .au fun eg fa =>
  .ret (bw (t1.append [.aa false,(J 3),.aa true,.ax (ah 3 (an (.b9 (eI cw)) (an (bp 2 (.dX [.isl 1 (c4.1.map eI),.n .i64 c4.2]) false) (ah 5 [])))),.ax (bt 3 (bp 1 (.isl 1 (eg.map eI)) false) 2)]) (aU.aJ (.er ab av az.1 (cU eI az.2) (bX eI bg) (Nk c4 cq) (IU eg fa)))))
  (fun av =>
  .a0 fun az =>
  .au fun cw bg =>
  .a0 fun bl =>
  .au fun cc cQ =>
  .a0 fun fa =>
  .a0 fun eV =>
  .au fun eC eB =>
  .au fun gA hS =>
  .a0 fun hr =>
  .au fun fb gz =>
  .a0 fun fk =>
  .au fun nK jw =>
  .a0 fun mW =>
  .au fun sq qW =>
  .au fun nL so =>
  .au fun mu BO =>
  .ret (let q1:=(R ((1000000000:Int).tdiv (R (cw+(1:Int)))));let a2:=(R (((gA.length:Nat):Int)-((eC.1:Nat):Int)));let bO:=(cc.2.take cc.1++([0]:List Int));let b4:=(List.replicate a2.toNat 0:List Int);let cJ:=(aK 1 .live aQ ([q1]:List Int));bw (t1.append [.aa false,(J 3),.aa false,.ax (bt 5 (.b9 (eI cw)) 4),.ax (ah 2 (an (.call {a1:=[],dt:=[],ac:=[ii,.bu (.di (.ek (([q1]:List Int).map eI)))],r:= .bm 0 0 0 cc.1,fy:=[(af 1 eI cc.2)],ik:=ii,kn:=[.pure],fI:=[17],fB:=true}) (ah 1 (an (.aJ (bO.length)) (bt 2 (.call {a1:=[],dt:=[],ac:=[ii,.bu (.di (.ek (([q1]:List Int).map eI)))],r:= .bm 0 0 0 eC.1,fy:=[(af 1 eI eC.2)],ik:=ii,kn:=[.pure],fI:=[17],fB:=true}) 2))))),.aO [17,23,26] [.cA (af 1 eI ([q1]:List Int)),.cA (af 1 eI bO),.pure] [(0,ii),(8,fV (([q1]:List Int).length)),(9,ii),(10,ii)],(IF ai eC.1 ([q1]:List Int) eC.2 gA).fc,(J 3),(J 6),(J 6),.aO [0,1,2,10] [.pure,.pure,.pure,.cA (af 1 eI b4)] [(8,ii),(9,ii),(10,ii),(11,ii),(12,fV (b4.length)),(13,ii)],.iO 2,.aO [0,1,2,3] [.pure,.pure,.pure,.pure] (ba [8,9,10,11,12,13]),(IH gA.length eC.1 ((eC.1:Nat):Int) ([q1]:List Int) eC.2 fb).fc,.iO 1,.ax (ah 1 (an (.call {ac:=[.bu (.di (.ek (((fb.1.drop 0).take gA.length).map eI)))],r:= .isl 1 (nK.map eI),fB:=false,fI:=[1]}) (ah 2 (an (.b9 (eI sq)) (an (bp 2 (.dX [.isl 1 (nL.1.map eI),.n .i64 nL.2]) false) (ah 5 [])))))),.iO 2,.ax (bt 1 (.call {ac:=[.bu (.di (.ek (fb.2.map eI)))],r:= .isl 1 (mu.map eI),fB:=false,fI:=[2]}) 3)]) (aU.aJ (.bk ab av az.1 (cU eI az.2) (bX eI bg) bl (kR (show [[.n .i64 q1]]=(([q1]:List Int)).map eI from rfl) (show 1=([q1]:List Int).length from rfl)) (gv eI q1) (.bk (dw aQ ([q1]:List Int)) (iq 1 aQ cc.2) (Nx cc cQ) (b7.bm 0 0 0 cc.1) ((rh (ph (o2 AM) rl) rk):oO [(af 1 eI cc.2)]) (gv eI 0) (rj (cX eI cc.2) fa) (adm eI fa 0) (.bk eV (kR (show [[.n .i64 q1]]=(([q1]:List Int)).map eI from rfl) (show 1=([q1]:List Int).length from rfl)) (gv eI q1) (dw aQ ([q1]:List Int)) (iq 1 aQ eC.2) (Nx eC eB) (b7.bm 0 0 0 eC.1) ((rh (ph (o2 AM) rl) rk):oO [(af 1 eI eC.2)]) (.bk (cY 1 .live (show [[.n .i64 q1]]=(([q1]:List Int)).map eI from rfl)) cJ (cY 1 .live (J2 (cX eI cc.2) cc.1 (vt eI 0))) (aK 1 .live aQ bO) (aK 1 .live aQ eC.2) (show 1=([q1]:List Int).length from rfl) (W1 hS) hr.1 (.bk (Int.le_refl a2) hr.2.1 hr.2.2 cJ (aK 1 .live aQ gA) (aK 1 .live aQ eC.2) (cY 1 .live (lF eI a2.toNat 0)) (aK 1 .live aQ b4) (.bk (lZ a2.toNat (0:Int)) cJ (aK 1 .live aQ gA) (aK 1 .iO aQ eC.2) (aK 1 .live aQ b4) (W3 gz) (J1 (cX eI fb.1) 0 gA.length) (rj (cX eI fb.1) fk) (.bk (dw aQ ((fb.1.drop 0).take gA.length)) (uj nK jw) mW.1 mW.2 (bX eI qW) (Nk nL so) (f6 eI fb.2) (fC eI fb.2) (.aD (dw aQ fb.2) (uj mu BO))))))))))))))
def sK (c8 ey:bq):Option bq :=
 xt c8.cC ey.cC >>= fun r1 =>
 m4 (!(c8.cN == ey.cN)) r1.1 >>= fun bj =>
 some bj
theorem Gy {c8 ey:bq}:bz (sK c8 ey) (fun r=>Con a9 123 [.agg (aX c8),.agg (aX ey)] [] (.agg (aX r)) []):=by
 unfold sK
 exact .au fun r1 o =>
  .au fun bj av =>
  .ret (bw [(J 3),.ax (bt 4 (bp 2 (.dX [.isl 1 (r1.1.map eI),.isl 1 (r1.2.map eI)]) false) 5),.ax (bt 6 (bp 2 (.agg (aX bj)) false) 1)] (.aD (XU r1 o) (sM bj av)))
def Fw (bW bs:Int)(gK jN:bx)(jt iZ js:Int)(aG:Bool)(aE:List Int)(br:Int)(al:List bx)(aj:List Int)(aH:List Bool)(je:Bool)(ja:List Int)(n5:Bool)(nZ:List Int):(Int×(List (List bq)))→S:=fun (e3,a6)=>dm [(0,.ref 0 0 0 0),(1,.n .i64 bW),(2,.n .i64 bs),(6,lB 2 0 2 gK),(7,.ref 5 0 0 0),(9,lB 2 0 2 jN),(10,.ref 6 0 0 0),(30,.bm 1 0 0 al.length),(31,.n .i64 jt),(32,.n .i64 iZ),(45,.n .i64 js),(46,.n .i64 e3)] [[ae.mk 6 [(fZ 1 0 0 al.length aG aE 3 0 0 aj.length br 4 0 0 aH.length)] .live],(af 1 (bn 2 0 2) al),(ca 2 aX a6),(af 1 eI aj),(af 1 eh aH),[ae.mk 2 [[.b je,.isl 1 (ja.map eI)]] .live],[ae.mk 2 [[.b n5,.isl 1 (nZ.map eI)]] .live]]
def FE (bW bs:Int)(gK jN:bx)(jt iZ js:Int)(aG:Bool)(aE:List Int)(br:Int)(al:List bx)(aj:List Int)(aH:List Bool)(je:Bool)(ja:List Int)(n5:Bool)(nZ:List Int):(List (List bq))→dp
 | a=>⟨some 2,[(0,.ref 0 0 0 0),(1,.n .i64 bW),(2,.n .i64 bs),(6,lB 2 0 2 gK),(7,.ref 5 0 0 0),(30,.bm 1 0 0 al.length),(31,.n .i64 jt),(32,.n .i64 iZ)],[[ae.mk 6 [(fZ 1 0 0 al.length aG aE 3 0 0 aj.length br 4 0 0 aH.length)] .live],(af 1 (bn 2 0 2) al),(ca 2 aX a),(af 1 eI aj),(af 1 eh aH),[ae.mk 2 [[.b je,.isl 1 (ja.map eI)]] .live]]⟩
def vO (bW bs:Int)(gK jN:bx)(jt iZ js:Int)(aG:Bool)(aE:List Int)(br:Int)(al:List bx)(aj:List Int)(aH:List Bool)(je:Bool)(ja:List Int)(n5:Bool)(nZ:List Int)(e3:Int)(a6:List (List bq)):Option ((Int×(List (List bq)))⊕((List (List bq)))) :=
 if (decide (e3<js))=true then
  jN >>= fun gT =>
  a6[gT.1]? >>= fun jV =>
  if 0≤e3∧e3<(gT.2:Nat) then
  jV[(0+e3.toNat)]? >>= fun fl =>
  pd fl (⟨je,ja⟩:bq) >>= fun cc =>
  oV (⟨n5,nZ⟩:bq) >>= fun c5 =>
  if (c5 != (0:Int))=true then
   gK >>= fun ve =>
   a6[ve.1]? >>= fun yE =>
   if 0≤e3∧e3<(ve.2:Nat) then
   yE[(0+e3.toNat)]? >>= fun qV =>
   oV qV >>= fun nK =>
   if (nK != (0:Int))=true then
    pd (⟨n5,nZ⟩:bq) qV >>= fun pC =>
    tY cc pC >>= fun nL =>
    sK nL (⟨aG,aE⟩:bq) >>= fun mu =>
    some (.inl (R (e3+(1:Int)),a6.set gT.1 (jV.set (0+e3.toNat) mu)))
   else
    sK cc (⟨aG,aE⟩:bq) >>= fun pC =>
    some (.inl (R (e3+(1:Int)),a6.set gT.1 (jV.set (0+e3.toNat) pC)))
   else none
  else
   sK cc (⟨aG,aE⟩:bq) >>= fun gd =>
   some (.inl (R (e3+(1:Int)),a6.set gT.1 (jV.set (0+e3.toNat) gd)))
  else none
 else
  some (.inr a6)
def Cv (bW bs:Int)(gK jN:bx)(jt iZ js:Int)(aG:Bool)(aE:List Int)(br:Int)(al:List bx)(aj:List Int)(aH:List Bool)(je:Bool)(ja:List Int)(n5:Bool)(nZ:List Int)(e3:Int)(a6:List (List bq)):Option ((List (List bq))):=iter (fun w:Int×(List (List bq))=>vO bW bs gK jN jt iZ js aG aE br al aj aH je ja n5 nZ w.1 w.2) (e3,a6)
theorem Tf {bW bs:Int}{gK jN:bx}{jt iZ js:Int}{aG:Bool}{aE:List Int}{br:Int}{al:List bx}{aj:List Int}{aH:List Bool}{je:Bool}{ja:List Int}{n5:Bool}{nZ:List Int}{e3:Int}{a6:List (List bq)}:bz (vO bW bs gK jN jt iZ js aG aE br al aj aH je ja n5 nZ e3 a6) (dQ a9 128 5 104 [1,1,0,1,0,0,1,1,0,0,1,1,1,1,0,0] (Fw bW bs gK jN jt iZ js aG aE br al aj aH je ja n5 nZ (e3,a6)) (Fw bW bs gK jN jt iZ js aG aE br al aj aH je ja n5 nZ) (FE bW bs gK jN jt iZ js aG aE br al aj aH je ja n5 nZ)):=by
 unfold vO
 exact .ite (fun h1 =>
  .au fun gT ab =>
  .au fun jV az =>
  .a0 fun aZ =>
  .au fun fl bl =>
  .au fun cc cQ =>
  .au fun c5 eV =>
  (let jx:=jX (gg .live 2 aX a6) i5 az;let t1:List b2:=[(J 1),.aa true,(J 2),.ax (ah 2 (an (.kf 49 (.bm 2 (gT.1+0) 0 gT.2) (.gh (ae.mk 2 (jV.map aX) .live) [])) (an (.gh (ae.mk 2 (jV.map aX) .live) (aX fl)) (bt 1 (bp 2 (.agg (aX cc)) false) 2))))];
  have aU:=((.bk h1 (l0 (dP:=2) (c:=0) (sz:=2) ab) jx aZ.1 aZ.2 jx (bX aX bl) (wD cc cQ) (.aD (sJ c5 eV) (b7.n .i64 c5))):cr _);
  .ite (fun et =>
  .au fun ve fR =>
  .au fun yE hr =>
  .a0 fun hs =>
  .au fun qV fk =>
  .au fun nK jw =>
  (let hG:=jX (gg .live 2 aX a6) i5 hr;let t3:List b2:=t1.append [.ax (ah 1 (an (bp 1 (.n .i64 c5) true) (ah 4 (an (.kf 59 (.bm 2 (ve.1+0) 0 ve.2) (.gh (ae.mk 2 (yE.map aX) .live) [])) (an (.gh (ae.mk 2 (yE.map aX) .live) (aX qV)) (an (bp 1 (.n .i64 nK) true) (ah 1 (an (.aa true) []))))))))];
  have eS:=aU.aJ (.bk et et et (l0 (dP:=2) (c:=0) (sz:=2) fR) hG hs.1 hs.2 et (.er hG (bX aX fk) et (sJ nK jw) (b7.n .i64 nK) et et));
  .ite (fun mW =>
  .au fun pC qW =>
  .au fun nL so =>
  .au fun mu BO =>
  .ret (let q1:=jX (gg .live 2 aX a6) i5 hr;let a2:=jX (gg .live 2 aX a6) i5 az;let bO:=cH [0,1,2,3,4,5,6];bi (t3.append [.aa true,.ax (ah 4 (an (.kf 68 (.bm 2 (ve.1+0) 0 ve.2) (.gh (ae.mk 2 (yE.map aX) .live) [])) (an (.gh (ae.mk 2 (yE.map aX) .live) (aX qV)) (an (bp 2 (.agg (aX pC)) false) (an (bp 2 (.agg (aX nL)) false) (ah 1 [])))))),.ax (ah 7 (an (bp 2 (.agg (aX mu)) false) (an (.kf 74 (.bm 2 (gT.1+0) 0 gT.2) (.gh (ae.mk 2 (jV.map aX) .live) [])) (an (.gh (ae.mk 2 (jV.map aX) .live) (aX fl)) [])))),(J 2),.aO [0,1,2,3,4,5,6] [.box [.id,.id,.id,.id,.id,.id],.bG (af 1 (bn 2 0 2) al),.bG (ca 2 aX (a6.set gT.1 (jV.set (0+e3.toNat) mu))),.pure,.pure,.box [.id,.id],.box [.id,.id]] (ba [0,1,2,6,7,9,10,30,31,32,45,46])]) (eS.aJ (.bk mW (l0 (dP:=2) (c:=0) (sz:=2) fR) q1 hs.1 hs.2 q1 (bX aX fk) (wD pC qW) (.bk (MR nL so) (Gy mu BO) (l0 (dP:=2) (c:=0) (sz:=2) ab) a2 aZ.1 aZ.2 a2 (bX aX bl) (.da (ez bO 2 2 0 2 rfl al) (m8 (cd:=bO) (o0 (gg .live 2 aX a6) gT.1 (qo (cX aX jV) (0+e3.toNat) mu (rfl:(setCells (aX fl) 0 (aX mu))=aX mu))) (mj e7)) (aK 1 .live aQ aj) (aK 1 .live eW aH)))))))
  (fun mW =>
  .au fun pC qW =>
  .ret (let b4:=jX (gg .live 2 aX a6) i5 az;let cJ:=cH [0,1,2,3,4,5,6];bi (t3.append [.aa false,.ax (ah 7 (an (bp 2 (.agg (aX pC)) false) (an (.kf 74 (.bm 2 (gT.1+0) 0 gT.2) (.gh (ae.mk 2 (jV.map aX) .live) [])) (an (.gh (ae.mk 2 (jV.map aX) .live) (aX fl)) [])))),(J 2),.aO [0,1,2,3,4,5,6] [.box [.id,.id,.id,.id,.id,.id],.bG (af 1 (bn 2 0 2) al),.bG (ca 2 aX (a6.set gT.1 (jV.set (0+e3.toNat) pC))),.pure,.pure,.box [.id,.id],.box [.id,.id]] (ba [0,1,2,6,7,9,10,30,31,32,45,46])]) (eS.aJ (.bk mW (Gy pC qW) (l0 (dP:=2) (c:=0) (sz:=2) ab) b4 aZ.1 aZ.2 b4 (bX aX bl) (.da (ez cJ 2 2 0 2 rfl al) (m8 (cd:=cJ) (o0 (gg .live 2 aX a6) gT.1 (qo (cX aX jV) (0+e3.toNat) pC (rfl:(setCells (aX fl) 0 (aX pC))=aX pC))) (mj e7)) (aK 1 .live aQ aj) (aK 1 .live eW aH))))))))
  (fun et =>
  .au fun gd fR =>
  .ret (let d9:=jX (gg .live 2 aX a6) i5 az;let fM:=cH [0,1,2,3,4,5,6];bi (t1.append [.ax (ah 1 (an (bp 1 (.n .i64 c5) true) (ah 2 (cn 6 (an (.aa false) []))))),.aa false,.ax (ah 7 (an (bp 2 (.agg (aX gd)) false) (an (.kf 74 (.bm 2 (gT.1+0) 0 gT.2) (.gh (ae.mk 2 (jV.map aX) .live) [])) (an (.gh (ae.mk 2 (jV.map aX) .live) (aX fl)) [])))),(J 2),.aO [0,1,2,3,4,5,6] [.box [.id,.id,.id,.id,.id,.id],.bG (af 1 (bn 2 0 2) al),.bG (ca 2 aX (a6.set gT.1 (jV.set (0+e3.toNat) gd))),.pure,.pure,.box [.id,.id],.box [.id,.id]] (ba [0,1,2,6,7,9,10,30,31,32,45,46])]) (aU.aJ (.bk et et et et et et et cP (.bk (Gy gd fR) (l0 (dP:=2) (c:=0) (sz:=2) ab) d9 aZ.1 aZ.2 d9 (bX aX bl) (ez fM 2 2 0 2 rfl al) (.bS (m8 (cd:=fM) (o0 (gg .live 2 aX a6) gT.1 (qo (cX aX jV) (0+e3.toNat) gd (rfl:(setCells (aX fl) 0 (aX gd))=aX gd))) (mj e7)) (aK 1 .live aQ aj) (aK 1 .live eW aH)))))))))
  (fun h1 =>
  .ret (let eG:=cH [0,1,2,3,4,5];bi [(J 1),.aa false,.aO [0,1,2,3,4,5] [.box [.id,.id,.id,.id,.id,.id],.bG (af 1 (bn 2 0 2) al),.bG (ca 2 aX a6),.pure,.pure,.box [.id,.id]] (ba [0,1,2,6,7,30,31,32])] (.dl h1 (ez eG 2 2 0 2 rfl al) (dD eG 2 e7 a6) (aK 1 .live aQ aj) (aK 1 .live eW aH))))
theorem TR {bW bs:Int}{gK jN:bx}{jt iZ js:Int}{aG:Bool}{aE:List Int}{br:Int}{al:List bx}{aj:List Int}{aH:List Bool}{je:Bool}{ja:List Int}{n5:Bool}{nZ:List Int}{e3:Int}{a6:List (List bq)}{r} (h:Cv bW bs gK jN jt iZ js aG aE br al aj aH je ja n5 nZ e3 a6=some r):dR a9 128 5 104 [1,1,0,1,0,0,1,1,0,0,1,1,1,1,0,0] (Fw bW bs gK jN jt iZ js aG aE br al aj aH je ja n5 nZ) (FE bW bs gK jN jt iZ js aG aE br al aj aH je ja n5 nZ) (e3,a6) r:=dS (fun _=>Tf) h
def Fx (bW bs:Int)(gK:bx)(jt:Int)(aG:Bool)(aE:List Int)(br:Int)(al:List bx)(aj:List Int)(aH:List Bool)(je:Bool)(ja:List Int):(Int×(List (List bq)))→S:=fun (iZ,a6)=>dm [(0,.ref 0 0 0 0),(1,.n .i64 bW),(2,.n .i64 bs),(6,lB 2 0 2 gK),(7,.ref 5 0 0 0),(30,.bm 1 0 0 al.length),(31,.n .i64 jt),(32,.n .i64 iZ)] [[ae.mk 6 [(fZ 1 0 0 al.length aG aE 3 0 0 aj.length br 4 0 0 aH.length)] .live],(af 1 (bn 2 0 2) al),(ca 2 aX a6),(af 1 eI aj),(af 1 eh aH),[ae.mk 2 [[.b je,.isl 1 (ja.map eI)]] .live]]
def FF (bW bs:Int)(gK:bx)(jt:Int)(aG:Bool)(aE:List Int)(br:Int)(al:List bx)(aj:List Int)(aH:List Bool)(je:Bool)(ja:List Int):(List (List bq))→dp
 | a=>⟨some 0,[(0,.ref 0 0 0 0),(1,.n .i64 bW),(2,.n .i64 bs),(7,.ref 5 0 0 0)],[[ae.mk 6 [(fZ 1 0 0 al.length aG aE 3 0 0 aj.length br 4 0 0 aH.length)] .live],(af 1 (bn 2 0 2) al),(ca 2 aX a),(af 1 eI aj),(af 1 eh aH),[ae.mk 2 [[.b je,.isl 1 (ja.map eI)]] .live]]⟩
def vP (bW bs:Int)(gK:bx)(jt:Int)(aG:Bool)(aE:List Int)(br:Int)(al:List bx)(aj:List Int)(aH:List Bool)(je:Bool)(ja:List Int)(iZ:Int)(a6:List (List bq)):Option ((Int×(List (List bq)))⊕((List (List bq)))) :=
 if (decide (iZ<jt))=true then
  if 0≤iZ∧iZ<(al.length:Nat) then
  al[(0+iZ.toNat)]? >>= fun aI =>
  if (iZ == bW)=true then
   some (.inl (R (iZ+(1:Int)),a6))
  else
   aI >>= fun sD =>
   a6[sD.1]? >>= fun Ce =>
   if 0≤bs∧bs<(sD.2:Nat) then
   Ce[(0+bs.toNat)]? >>= fun pB =>
   Cv bW bs gK aI jt iZ ((sD.2:Nat):Int) aG aE br al aj aH je ja pB.cN pB.cC 0 a6 >>= fun eC =>
   some (.inl (R (iZ+(1:Int)),eC))
   else none
  else none
 else
  some (.inr a6)
def Cw (bW bs:Int)(gK:bx)(jt:Int)(aG:Bool)(aE:List Int)(br:Int)(al:List bx)(aj:List Int)(aH:List Bool)(je:Bool)(ja:List Int)(iZ:Int)(a6:List (List bq)):Option ((List (List bq))):=iter (fun w:Int×(List (List bq))=>vP bW bs gK jt aG aE br al aj aH je ja w.1 w.2) (iZ,a6)
theorem Tg {bW bs:Int}{gK:bx}{jt:Int}{aG:Bool}{aE:List Int}{br:Int}{al:List bx}{aj:List Int}{aH:List Bool}{je:Bool}{ja:List Int}{iZ:Int}{a6:List (List bq)}:bz (vP bW bs gK jt aG aE br al aj aH je ja iZ a6) (dQ a9 128 5 104 [1,1,0,1,0,0] (Fx bW bs gK jt aG aE br al aj aH je ja (iZ,a6)) (Fx bW bs gK jt aG aE br al aj aH je ja) (FF bW bs gK jt aG aE br al aj aH je ja)):=by
 unfold vP
 exact .ite (fun h1 =>
  .a0 fun o =>
  .au fun aI av =>
  (let t1:List b2:=[(J 1),.aa true,.ax (bt 2 (.b9 ((bn 2 0 2) aI)) 2),(J 3)];
  have aU:=((.da h1 o.1 o.2 (bX (bn 2 0 2) av)):cr _);
  .ite (fun az =>
  .ret (let q1:=cH [0,1,2,3,4,5];bi (t1.append [.aa true,(J 2),.aO [0,1,2,3,4,5] [.box [.id,.id,.id,.id,.id,.id],.bG (af 1 (bn 2 0 2) al),.bG (ca 2 aX a6),.pure,.pure,.box [.id,.id]] (ba [0,1,2,6,7,30,31,32])]) (aU.aJ (.dl az (ez q1 2 2 0 2 rfl al) (dD q1 2 e7 a6) (aK 1 .live aQ aj) (aK 1 .live eW aH)))))
  (fun az =>
  .au fun sD bg =>
  .au fun Ce cq =>
  .a0 fun cQ =>
  .au fun pB eV =>
  .au fun eC eB =>
  .ret (let a2:=jX (gg .live 2 aX a6) i5 cq;let bO:=cH [0,1,2,3,4,5,19];let b4:=cH [0,1,2,3,4,5];bi (t1.append [.aa false,.ax (ah 2 (an (.kf 40 (.bm 2 (sD.1+0) 0 sD.2) (.gh (ae.mk 2 (Ce.map aX) .live) [])) (an (.gh (ae.mk 2 (Ce.map aX) .live) (aX pB)) (ah 2 [])))),.ax (bt 1 (.kf 44 (.bm 2 (sD.1+0) 0 sD.2) (.gh (ae.mk 2 (Ce.map aX) .live) [])) 1),.aO [0,1,2,3,4,5,19] [.box [.id,.id,.id,.id,.id,.id],.bG (af 1 (bn 2 0 2) al),.bG (ca 2 aX a6),.pure,.pure,.box [.id,.id],.box [.id,.id]] (ba [0,1,2,6,7,9,10,30,31,32,45,46]),(FE bW bs gK aI jt iZ ((sD.2:Nat):Int) aG aE br al aj aH je ja pB.cN pB.cC eC).fc,(J 2),.aO [0,1,2,3,4,5] [.box [.id,.id,.id,.id,.id,.id],.bG (af 1 (bn 2 0 2) al),.bG (ca 2 aX eC),.pure,.pure,.box [.id,.id]] (ba [0,1,2,6,7,30,31,32])]) (aU.aJ (.bk az (l0 (dP:=2) (c:=0) (sz:=2) bg) a2 cQ.1 cQ.2 a2 (bX aX eV) (l0 (dP:=2) (c:=0) (sz:=2) bg) (.bk a2 (ez bO 2 2 0 2 rfl al) (dD bO 2 e7 a6) (aK 1 .live aQ aj) (aK 1 .live eW aH) (TR eB) (ez b4 2 2 0 2 rfl al) (dD b4 2 e7 eC) (.aD (aK 1 .live aQ aj) (aK 1 .live eW aH)))))))))
  (fun h1 =>
  .ret (let cJ:=cH [0,1,2,3,4,5];bi [(J 1),.aa false,.aO [0,1,2,3,4,5] [.box [.id,.id,.id,.id,.id,.id],.bG (af 1 (bn 2 0 2) al),.bG (ca 2 aX a6),.pure,.pure,.box [.id,.id]] (ba [0,1,2,7])] (.dl h1 (ez cJ 2 2 0 2 rfl al) (dD cJ 2 e7 a6) (aK 1 .live aQ aj) (aK 1 .live eW aH))))
theorem TS {bW bs:Int}{gK:bx}{jt:Int}{aG:Bool}{aE:List Int}{br:Int}{al:List bx}{aj:List Int}{aH:List Bool}{je:Bool}{ja:List Int}{iZ:Int}{a6:List (List bq)}{r} (h:Cw bW bs gK jt aG aE br al aj aH je ja iZ a6=some r):dR a9 128 5 104 [1,1,0,1,0,0] (Fx bW bs gK jt aG aE br al aj aH je ja) (FF bW bs gK jt aG aE br al aj aH je ja) (iZ,a6) r:=dS (fun _=>Tg) h
def Fy (jN:bx)(jq jr ou:Int)(aG:Bool)(aE:List Int)(br:Int)(al:List bx)(aj:List Int)(aH:List Bool):(Int×(List (List bq)))→S:=fun (m9,a6)=>dm [(14,lB 2 0 2 jN),(107,.bm 1 0 0 al.length),(108,.n .i64 jq),(109,.n .i64 jr),(114,.n .i64 ou),(115,.n .i64 m9)] [[ae.mk 6 [(fZ 1 0 0 al.length aG aE 3 0 0 aj.length br 4 0 0 aH.length)] .live],(af 1 (bn 2 0 2) al),(ca 2 aX a6),(af 1 eI aj),(af 1 eh aH)]
def FG (jN:bx)(jq jr ou:Int)(aG:Bool)(aE:List Int)(br:Int)(al:List bx)(aj:List Int)(aH:List Bool):(List (List bq))→dp
 | a=>⟨some 6,[(107,.bm 1 0 0 al.length),(108,.n .i64 jq),(109,.n .i64 jr)],[[ae.mk 6 [(fZ 1 0 0 al.length aG aE 3 0 0 aj.length br 4 0 0 aH.length)] .live],(af 1 (bn 2 0 2) al),(ca 2 aX a),(af 1 eI aj),(af 1 eh aH)]⟩
def vQ (jN:bx)(jq jr ou:Int)(aG:Bool)(aE:List Int)(br:Int)(al:List bx)(aj:List Int)(aH:List Bool)(m9:Int)(a6:List (List bq)):Option ((Int×(List (List bq)))⊕((List (List bq)))) :=
 if (decide (m9<ou))=true then
  jN >>= fun gT =>
  a6[gT.1]? >>= fun jV =>
  if 0≤m9∧m9<(gT.2:Nat) then
  jV[(0+m9.toNat)]? >>= fun fl =>
  rE fl >>= fun cc =>
  some (.inl (R (m9+(1:Int)),a6.set gT.1 (jV.set (0+m9.toNat) cc)))
  else none
 else
  some (.inr a6)
def Cx (jN:bx)(jq jr ou:Int)(aG:Bool)(aE:List Int)(br:Int)(al:List bx)(aj:List Int)(aH:List Bool)(m9:Int)(a6:List (List bq)):Option ((List (List bq))):=iter (fun w:Int×(List (List bq))=>vQ jN jq jr ou aG aE br al aj aH w.1 w.2) (m9,a6)
theorem Th {jN:bx}{jq jr ou:Int}{aG:Bool}{aE:List Int}{br:Int}{al:List bx}{aj:List Int}{aH:List Bool}{m9:Int}{a6:List (List bq)}:bz (vQ jN jq jr ou aG aE br al aj aH m9 a6) (dQ a9 128 5 104 [1,1,1,1,1,1,1,1,0,0,1,1,0,0,1,1,0,0] (Fy jN jq jr ou aG aE br al aj aH (m9,a6)) (Fy jN jq jr ou aG aE br al aj aH) (FG jN jq jr ou aG aE br al aj aH)):=by
 unfold vQ
 exact .ite (fun h1 =>
  .au fun gT ab =>
  .au fun jV az =>
  .a0 fun aZ =>
  .au fun fl bl =>
  .au fun cc cQ =>
  .ret (let q1:=jX (gg .live 2 aX a6) i5 az;bi [(J 1),.aa true,(J 2),.ax (ah 4 (an (.kf 120 (.bm 2 (gT.1+0) 0 gT.2) (.gh (ae.mk 2 (jV.map aX) .live) [])) (an (.gh (ae.mk 2 (jV.map aX) .live) (aX fl)) (an (bp 1 (.agg (aX cc)) false) (an (.kf 118 (.bm 2 (gT.1+0) 0 gT.2) (.gh (ae.mk 2 (jV.map aX) .live) [])) (an (.gh (ae.mk 2 (jV.map aX) .live) (aX fl)) [])))))),(J 2),.aO [0,1,2,3,4] [.box [.id,.id,.id,.id,.id,.id],.bG (af 1 (bn 2 0 2) al),.bG (ca 2 aX (a6.set gT.1 (jV.set (0+m9.toNat) cc))),.pure,.pure] (ba [14,107,108,109,114,115])] (.bk h1 (l0 (dP:=2) (c:=0) (sz:=2) ab) q1 aZ.1 aZ.2 q1 (bX aX bl) (Gh cc cQ) (.bk (l0 (dP:=2) (c:=0) (sz:=2) ab) q1 aZ.1 aZ.2 q1 (bX aX bl) (ez (cH [0,1,2,3,4]) 2 2 0 2 rfl al) (m8 (cd:=(cH [0,1,2,3,4])) (o0 (gg .live 2 aX a6) gT.1 (qo (cX aX jV) (0+m9.toNat) cc (rfl:(setCells (aX fl) 0 (aX cc))=aX cc))) (mj e7)) (.aD (aK 1 .live aQ aj) (aK 1 .live eW aH))))))
  (fun h1 =>
  .ret (bi [(J 1),.aa false,.aO [0,1,2,3,4] [.box [.id,.id,.id,.id,.id,.id],.bG (af 1 (bn 2 0 2) al),.bG (ca 2 aX a6),.pure,.pure] (ba [107,108,109])] (.dl h1 (ez (cH [0,1,2,3,4]) 2 2 0 2 rfl al) (dD (cH [0,1,2,3,4]) 2 e7 a6) (aK 1 .live aQ aj) (aK 1 .live eW aH))))
theorem TT {jN:bx}{jq jr ou:Int}{aG:Bool}{aE:List Int}{br:Int}{al:List bx}{aj:List Int}{aH:List Bool}{m9:Int}{a6:List (List bq)}{r} (h:Cx jN jq jr ou aG aE br al aj aH m9 a6=some r):dR a9 128 5 104 [1,1,1,1,1,1,1,1,0,0,1,1,0,0,1,1,0,0] (Fy jN jq jr ou aG aE br al aj aH) (FG jN jq jr ou aG aE br al aj aH) (m9,a6) r:=dS (fun _=>Th) h
def Fz (jq:Int)(aG:Bool)(aE:List Int)(br:Int)(al:List bx)(aj:List Int)(aH:List Bool):(Int×(List (List bq)))→S:=fun (jr,a6)=>dm [(107,.bm 1 0 0 al.length),(108,.n .i64 jq),(109,.n .i64 jr)] [[ae.mk 6 [(fZ 1 0 0 al.length aG aE 3 0 0 aj.length br 4 0 0 aH.length)] .live],(af 1 (bn 2 0 2) al),(ca 2 aX a6),(af 1 eI aj),(af 1 eh aH)]
def FH (jq:Int)(aG:Bool)(aE:List Int)(br:Int)(al:List bx)(aj:List Int)(aH:List Bool):(List (List bq))→dp
 | a=>⟨some 4,[],[[ae.mk 6 [(fZ 1 0 0 al.length aG aE 3 0 0 aj.length br 4 0 0 aH.length)] .live],(af 1 (bn 2 0 2) al),(ca 2 aX a),(af 1 eI aj),(af 1 eh aH)]⟩
def vR (jq:Int)(aG:Bool)(aE:List Int)(br:Int)(al:List bx)(aj:List Int)(aH:List Bool)(jr:Int)(a6:List (List bq)):Option ((Int×(List (List bq)))⊕((List (List bq)))) :=
 if (decide (jr<jq))=true then
  if 0≤jr∧jr<(al.length:Nat) then
  al[(0+jr.toNat)]? >>= fun aI =>
  aI >>= fun lC =>
  a6[lC.1]? >>= fun iB =>
  Cx aI jq jr ((lC.2:Nat):Int) aG aE br al aj aH 0 a6 >>= fun cc =>
  some (.inl (R (jr+(1:Int)),cc))
  else none
 else
  some (.inr a6)
def yW (jq:Int)(aG:Bool)(aE:List Int)(br:Int)(al:List bx)(aj:List Int)(aH:List Bool)(jr:Int)(a6:List (List bq)):Option ((List (List bq))):=iter (fun w:Int×(List (List bq))=>vR jq aG aE br al aj aH w.1 w.2) (jr,a6)
theorem Ti {jq:Int}{aG:Bool}{aE:List Int}{br:Int}{al:List bx}{aj:List Int}{aH:List Bool}{jr:Int}{a6:List (List bq)}:bz (vR jq aG aE br al aj aH jr a6) (dQ a9 128 5 104 [1,1,1,1,1,1,1,1,0,0] (Fz jq aG aE br al aj aH (jr,a6)) (Fz jq aG aE br al aj aH) (FH jq aG aE br al aj aH)):=by
 unfold vR
 exact .ite (fun h1 =>
  .a0 fun o =>
  .au fun aI av =>
  .au fun lC aZ =>
  .au fun iB bl =>
  .au fun cc cQ =>
  .ret (let q1:=cH [0,1,2,3,4];let a2:=ez q1 2 2 0 2 rfl al;bi [(J 1),.aa true,.ax (bt 1 (.b9 ((bn 2 0 2) aI)) 1),.ax (bt 1 (.kf 113 (.bm 2 (lC.1+0) 0 lC.2) (.gh (ae.mk 2 (iB.map aX) .live) [])) 1),.aO [0,1,2,3,4] [.box [.id,.id,.id,.id,.id,.id],.bG (af 1 (bn 2 0 2) al),.bG (ca 2 aX a6),.pure,.pure] (ba [14,107,108,109,114,115]),(FG aI jq jr ((lC.2:Nat):Int) aG aE br al aj aH cc).fc,(J 2),.aO [0,1,2,3,4] [.box [.id,.id,.id,.id,.id,.id],.bG (af 1 (bn 2 0 2) al),.bG (ca 2 aX cc),.pure,.pure] (ba [107,108,109])] (.bk h1 o.1 o.2 (bX (bn 2 0 2) av) (l0 (dP:=2) (c:=0) (sz:=2) aZ) (jX (gg .live 2 aX a6) i5 bl) a2 (dD q1 2 e7 a6) (.er (aK 1 .live aQ aj) (aK 1 .live eW aH) (TT cQ) a2 (dD q1 2 e7 cc) (aK 1 .live aQ aj) (aK 1 .live eW aH)))))
  (fun h1 =>
  .ret (bi [(J 1),.aa false,.aO [0,1,2,3,4] [.box [.id,.id,.id,.id,.id,.id],.bG (af 1 (bn 2 0 2) al),.bG (ca 2 aX a6),.pure,.pure] []] (.dl h1 (ez (cH [0,1,2,3,4]) 2 2 0 2 rfl al) (dD (cH [0,1,2,3,4]) 2 e7 a6) (aK 1 .live aQ aj) (aK 1 .live eW aH))))
theorem TU {jq:Int}{aG:Bool}{aE:List Int}{br:Int}{al:List bx}{aj:List Int}{aH:List Bool}{jr:Int}{a6:List (List bq)}{r} (h:yW jq aG aE br al aj aH jr a6=some r):dR a9 128 5 104 [1,1,1,1,1,1,1,1,0,0] (Fz jq aG aE br al aj aH) (FH jq aG aE br al aj aH) (jr,a6) r:=dS (fun _=>Ti) h
def wE (bW bs:Int)(oK:Bool)(oG:List Int)(jD:Int)(ff:List bx)(lU:List (List bq))(ie:List Int)(ht:List Bool):Option (Bool×(List Int)×(List (List bq))×(List Int)) :=
 if 0≤bW∧bW<(ff.length:Nat) then
 ff[(0+bW.toNat)]? >>= fun dY =>
 dY >>= fun jB =>
 lU[jB.1]? >>= fun m1 =>
 if 0≤bs∧bs<(jB.2:Nat) then
 m1[(0+bs.toNat)]? >>= fun ew =>
 Cw bW bs dY ((ff.length:Nat):Int) oK oG jD ff ie ht ew.cN ew.cC 0 lU >>= fun c5 =>
 if 0≤bW∧bW<(ie.length:Nat) then
 if (0+bW.toNat)<ie.length then
 oV ew >>= fun gA =>
 if (decide ((0:Int)<gA))=true then
  some (ew.cN,ew.cC,c5,ie.set (0+bW.toNat) bs)
 else
  rE ew >>= fun fb =>
  yW ((ff.length:Nat):Int) fb.cN fb.cC jD ff (ie.set (0+bW.toNat) bs) ht 0 c5 >>= fun kp =>
  some (fb.cN,fb.cC,kp,ie.set (0+bW.toNat) bs)
 else none
 else none
 else none
 else none
theorem MF {bW bs:Int}{oK:Bool}{oG:List Int}{jD:Int}{ff:List bx}{lU:List (List bq)}{ie:List Int}{ht:List Bool}:bz (wE bW bs oK oG jD ff lU ie ht) (fun a=>Con a9 104 [.ref 0 0 0 0,.n .i64 bW,.n .i64 bs] [[ae.mk 6 [(fZ 1 0 0 ff.length oK oG 3 0 0 ie.length jD 4 0 0 ht.length)] .live],(af 1 (bn 2 0 2) ff),(ca 2 aX lU),(af 1 eI ie),(af 1 eh ht)] (.dX []) [[ae.mk 6 [(fZ 1 0 0 ff.length a.1 a.2.1 3 0 0 a.2.2.2.length jD 4 0 0 ht.length)] .live],(af 1 (bn 2 0 2) ff),(ca 2 aX a.2.2.1),(af 1 eI a.2.2.2),(af 1 eh ht)]):=by
 unfold wE
 exact .a0 fun h1 =>
  .au fun dY ab =>
  .au fun jB az =>
  .au fun m1 bg =>
  .a0 fun bl =>
  .au fun ew cQ =>
  .au fun c5 eV =>
  .a0 fun et =>
  .a0 fun eB =>
  .au fun gA hS =>
  (let fM:=jX (gg .live 2 aX lU) i5 bg;let eG:=cH [0,1,2,3,4,17];let t1:List b2:=[.ax (bt 6 (.b9 ((bn 2 0 2) dY)) 1),.ax (ah 2 (an (.kf 23 (.bm 2 (jB.1+0) 0 jB.2) (.gh (ae.mk 2 (m1.map aX) .live) [])) (an (.gh (ae.mk 2 (m1.map aX) .live) (aX ew)) (ah 2 [])))),(J 6),.aO [0,1,2,3,4,17] [.box [.id,.id,.id,.id,.id,.id],.bG (af 1 (bn 2 0 2) ff),.bG (ca 2 aX lU),.pure,.pure,.box [.id,.id]] (ba [0,1,2,6,7,30,31,32]),(FF bW bs dY ((ff.length:Nat):Int) oK oG jD ff ie ht ew.cN ew.cC c5).fc,(J 5),.ax (ah 7 (an .fP [])),.ax (bt 1 (bp 1 (.n .i64 gA) true) 1)];
  have aU:=((.bk h1.1 h1.2 (bX (bn 2 0 2) ab) (l0 (dP:=2) (c:=0) (sz:=2) az) fM bl.1 bl.2 fM (.bk (bX aX cQ) (ez eG 2 2 0 2 rfl ff) (dD eG 2 e7 lU) (aK 1 .live aQ ie) (aK 1 .live eW ht) (TS eV) et.1 et.2 (.da (hE eI eB) (hz 1) (sJ gA hS) (b7.n .i64 gA)))):cr _);
  .ite (fun hr =>
  .ret (let q1:=fZ 1 0 0 ff.length ew.cN ew.cC 3 0 0 ((ie.set (0+bW.toNat) bs).length) jD 4 0 0 ht.length;let a2:=cH [0,1,2,3,4];lT (t1.append [.aa true]) [0,1,2,3,4] [.bG [ae.mk 6 [q1] .live],.bG (af 1 (bn 2 0 2) ff),.bG (ca 2 aX c5),.cA (af 1 eI (ie.set (0+bW.toNat) bs)),.pure] (aU.aJ (.er hr (c7 (show ae.mk 6 [q1] .live=gH a2 (ae.mk 6 [(fZ 1 0 0 ff.length ew.cN ew.cC 3 0 0 ie.length jD 4 0 0 ht.length)] .live) from (congrArg (fun Cd=>ae.mk 6 [(fZ 1 0 0 ff.length ew.cN ew.cC 3 0 0 Cd jD 4 0 0 ht.length)] .live) (hU (dJ ie) (0+bW.toNat) bs).symm)) o1) (ez a2 2 2 0 2 rfl ff) (dD a2 2 e7 c5) (cY 1 .live (gI (cX eI ie) (0+bW.toNat) bs)) (aK 1 .live aQ (ie.set (0+bW.toNat) bs)) (aK 1 .live eW ht)))))
  (fun hr =>
  .au fun fb gz =>
  .au fun kp gY =>
  .ret (let bO:=fZ 1 0 0 ff.length fb.cN fb.cC 3 0 0 ((ie.set (0+bW.toNat) bs).length) jD 4 0 0 ht.length;let b4:=cH [0,1,2,3,4];let cJ:=aK 1 .live aQ (ie.set (0+bW.toNat) bs);let d9:=ez b4 2 2 0 2 rfl ff;lT (t1.append [.aa false,.ax (bt 2 (bp 1 (.agg (aX fb)) false) 3),(J 6),.aO [0,1,2,3,4] [.box [.id,.id,.id,.len ((ie.set (0+bW.toNat) bs).length),.id,.id],.bG (af 1 (bn 2 0 2) ff),.bG (ca 2 aX c5),.cA (af 1 eI (ie.set (0+bW.toNat) bs)),.pure] (ba [107,108,109]),(FH ((ff.length:Nat):Int) fb.cN fb.cC jD ff (ie.set (0+bW.toNat) bs) ht kp).fc]) [0,1,2,3,4] [.bG [ae.mk 6 [bO] .live],.bG (af 1 (bn 2 0 2) ff),.bG (ca 2 aX kp),.pure,.pure] (aU.aJ (.bk hr (Gh fb gz) (hU (dJ ie) (0+bW.toNat) bs) d9 (dD b4 2 e7 c5) (cY 1 .live (gI (cX eI ie) (0+bW.toNat) bs)) cJ (aK 1 .live eW ht) (.dT (TU gY) (x1 b4 6 [bO] [bO] rfl) d9 (dD b4 2 e7 kp) cJ (aK 1 .live eW ht)))))))
def Fh (b3:Int)(aG:Bool)(aE:List Int)(al:List bx)(a6:List (List bq))(aj:List Int)(aH:List Bool)(bE:List Int):Int→S:=fun bI=>dm [(0,.ref 0 0 0 0),(1,.bm 5 0 0 bE.length),(5,.b false),(13,.n .i64 b3),(14,.n .i64 bI)] [[ae.mk 6 [(fZ 1 0 0 al.length aG aE 3 0 0 aj.length b3 4 0 0 aH.length)] .live],(af 1 (bn 2 0 2) al),(ca 2 aX a6),(af 1 eI aj),(af 1 eh aH),(af 1 eI bE)]
def Cn (b3:Int)(aG:Bool)(aE:List Int)(al:List bx)(a6:List (List bq))(aj:List Int)(aH:List Bool)(bE:List Int):((Bool×Bool×(List Int)×(List (List bq))×(List Int))⊕(Unit))→dp
 | .inl a=>⟨some 2,[(0,.ref 0 0 0 0),(1,.bm 5 0 0 bE.length),(5,.b a.1)],[[ae.mk 6 [(fZ 1 0 0 al.length a.2.1 a.2.2.1 3 0 0 a.2.2.2.2.length b3 4 0 0 aH.length)] .live],(af 1 (bn 2 0 2) al),(ca 2 aX a.2.2.2.1),(af 1 eI a.2.2.2.2),(af 1 eh aH),(af 1 eI bE)]⟩
 | .inr a=>⟨none,[(4,.b false)],[[ae.mk 6 [(fZ 1 0 0 al.length aG aE 3 0 0 aj.length b3 4 0 0 aH.length)] .live],(af 1 (bn 2 0 2) al),(ca 2 aX a6),(af 1 eI aj),(af 1 eh aH),(af 1 eI bE)]⟩
def vJ (b3:Int)(aG:Bool)(aE:List Int)(al:List bx)(a6:List (List bq))(aj:List Int)(aH:List Bool)(bE:List Int)(bI:Int):Option ((Int)⊕((Bool×Bool×(List Int)×(List (List bq))×(List Int))⊕(Unit))) :=
 if (decide (bI<b3))=true then
  if 0≤bI∧bI<(aH.length:Nat) then
  aH[(0+bI.toNat)]? >>= fun aI =>
  if aI=true then
   rP aj bI >>= fun cj =>
   if cj=true then
    some (.inl (R (bI+(1:Int))))
   else
    if al.all (qQ a6)=true then
    w2 (⟨al.map (ix a6),(⟨aG,aE⟩:bq),aj,b3,aH⟩:qn) bE bI >>= fun eg =>
    if (decide (eg≤(0:Int)))=true then
     some (.inl (R (bI+(1:Int))))
    else
     y3 (⟨al.map (ix a6),(⟨aG,aE⟩:bq),aj,b3,aH⟩:qn) bI >>= fun eC =>
     if (decide (eC<(0:Int)))=true then
      some (.inr (.inr ()))
     else
      wE eC bI aG aE b3 al a6 aj aH >>= fun eD =>
      some (.inr (.inl (true,eD.1,eD.2.1,eD.2.2.1,eD.2.2.2)))
    else none
  else
   some (.inl (R (bI+(1:Int))))
  else none
 else
  some (.inr (.inl (false,aG,aE,a6,aj)))
def vW (b3:Int)(aG:Bool)(aE:List Int)(al:List bx)(a6:List (List bq))(aj:List Int)(aH:List Bool)(bE:List Int)(bI:Int):Option ((Bool×Bool×(List Int)×(List (List bq))×(List Int))⊕(Unit)):=iter (fun w:Int=>vJ b3 aG aE al a6 aj aH bE w) bI
theorem S0 {b3:Int}{aG:Bool}{aE:List Int}{al:List bx}{a6:List (List bq)}{aj:List Int}{aH:List Bool}{bE:List Int}{bI:Int}:bz (vJ b3 aG aE al a6 aj aH bE bI) (dQ a9 87 6 75 [1,0,1,0,0,1,0,1,1,0,0] (Fh b3 aG aE al a6 aj aH bE bI) (Fh b3 aG aE al a6 aj aH bE) (Cn b3 aG aE al a6 aj aH bE)):=by
 unfold vJ
 exact .ite (fun h1 =>
  .a0 fun o =>
  .au fun aI av =>
  (let t1:List b2:=[(J 1),.aa true,(J 2)];
  .ite (fun az =>
  .au fun cj bg =>
  (have aU:=((.bk h1 o.1 o.2 (bX eh av) (c0 az) (c0 az) (c0 az) (c0 az) (.gD (c0 az) (c0 az) (f6 eI aj) (fC eI aj) (dw aQ aj) (Jm cj bg) (b7.b cj) (c0 az))):cr _);
  .ite (fun bl =>
  .ret (let q1:=cH [0,1,2,3,4,5];bi (t1.append [.ax (ah 6 (an (.b9 (eh aI)) (ah 7 (an (.call {ac:=[.bu (.di (.ek (aj.map eI))),ii],r:= .b cj,fB:=true,fI:=[3]}) (an (.aa false) (ah 1 (cn 5 (an (.aa true) [])))))))),.aa true,(J 2),.aO [0,1,2,3,4,5] [.box [.id,.id,.id,.id,.id,.id],.bG (af 1 (bn 2 0 2) al),.bG (ca 2 aX a6),.pure,.pure,.pure] (ba [0,1,5,13,14])]) (aU.aJ (.bk bl bl bl bl bl bl cB (ez q1 2 2 0 2 rfl al) (.da (dD q1 2 e7 a6) (aK 1 .live aQ aj) (aK 1 .live eW aH) (aK 1 .live aQ bE))))))
  (fun bl =>
  .a0 fun cq =>
  .au fun eg fa =>
  (let t3:List b2:=t1.append [.ax (ah 6 (an (.b9 (eh aI)) (ah 7 (an (.call {ac:=[.bu (.di (.ek (aj.map eI))),ii],r:= .b cj,fB:=true,fI:=[3]}) (an (.aa false) (ah 4 (an (.call {ac:=[.bu (.ptr [.view 2 (ae.mk 1 (al.map (bn 2 0 2)) .live) ((al.map (ix a6)).map (eu 2 aX)),.id,.id,.ek (aj.map eI),.id,.ek (aH.map eh)]),.bu (.di (.ek (bE.map eI))),ii],r:= .n .i64 eg,fB:=true,fI:=[0,1,2,3,4,5]}) (ah 1 (an (.aa false) [])))))))))];
  have eS:=aU.aJ (.bk bl bl bl bl (rfl:dh (some (af 1 (bn 2 0 2) al)) 0=some (ae.mk 1 (al.map (bn 2 0 2)) .live)) (rfl:_=true) (fC (bn 2 0 2) al) (dw (nt (sz:=2) rL) (al.map (ix a6))) (.bk (uL (dP:=2) (jf:=[]++(ca 2 aX a6)) (b8:=ky) (sz:=1) (g:=(eu 2 aX)) (cX (bn 2 0 2) al) (fun _=>rfl) (fun x U=>(yu (dP:=2) (c:=0) (b8:=ky) (qB:=[]) (gg .live 2 aX a6) rL rfl i5 rfl (xQ cq x U))) (dJ al)) (f6 eI aj) (fC eI aj) (dw aQ aj) (f6 eh aH) (fC eh aH) (dw eW aH) (pR (IJ (⟨al.map (ix a6),(⟨aG,aE⟩:bq),aj,b3,aH⟩:qn)):jo [[.isl 1 ((al.map (ix a6)).map (eu 2 aX)),.b aG,.isl 1 (aE.map eI),.isl 1 (aj.map eI),.n .i64 b3,.isl 1 (aH.map eh)]]) (.er (f6 eI bE) (fC eI bE) (dw aQ bE) (MS eg fa) (b7.n .i64 eg) bl bl)));
  .ite (fun eV =>
  .ret (let a2:=cH [0,1,2,3,4,5];bi (t3.append [.aa true,(J 2),.aO [0,1,2,3,4,5] [.box [.id,.id,.id,.id,.id,.id],.bG (af 1 (bn 2 0 2) al),.bG (ca 2 aX a6),.pure,.pure,.pure] (ba [0,1,5,13,14])]) (eS.aJ (.dT eV (ez a2 2 2 0 2 rfl al) (dD a2 2 e7 a6) (aK 1 .live aQ aj) (aK 1 .live eW aH) (aK 1 .live aQ bE)))))
  (fun eV =>
  .au fun eC eB =>
  (let t5:List b2:=t3.append [.aa false,.ax (bt 2 (.call {ac:=[.bu (.ptr [.view 2 (ae.mk 1 (al.map (bn 2 0 2)) .live) ((al.map (ix a6)).map (eu 2 aX)),.id,.id,.ek (aj.map eI),.id,.ek (aH.map eh)]),ii],r:= .n .i64 eC,fB:=true,fI:=[0,1,2,3,4]}) 1),(J 2)];
  have kH:=eS.aJ (.bk eV (rfl:dh (some (af 1 (bn 2 0 2) al)) 0=some (ae.mk 1 (al.map (bn 2 0 2)) .live)) (rfl:_=true) (fC (bn 2 0 2) al) (dw (nt (sz:=2) rL) (al.map (ix a6))) (uL (dP:=2) (jf:=[]++(ca 2 aX a6)) (b8:=ky) (sz:=1) (g:=(eu 2 aX)) (cX (bn 2 0 2) al) (fun _=>rfl) (fun x U=>(yu (dP:=2) (c:=0) (b8:=ky) (qB:=[]) (gg .live 2 aX a6) rL rfl i5 rfl (xQ cq x U))) (dJ al)) (f6 eI aj) (fC eI aj) (.er (dw aQ aj) (f6 eh aH) (fC eh aH) (dw eW aH) (pR (IJ (⟨al.map (ix a6),(⟨aG,aE⟩:bq),aj,b3,aH⟩:qn)):jo [[.isl 1 ((al.map (ix a6)).map (eu 2 aX)),.b aG,.isl 1 (aE.map eI),.isl 1 (aj.map eI),.n .i64 b3,.isl 1 (aH.map eh)]]) (Us eC eB) (b7.n .i64 eC)));
  .ite (fun fR =>
  .ret (let bO:=cH [0,1,2,3,4,5];bi (t5.append [.aa true,(J 1),.aO [0,1,2,3,4,5] [.box [.id,.id,.id,.id,.id,.id],.bG (af 1 (bn 2 0 2) al),.bG (ca 2 aX a6),.pure,.pure,.pure] (ba [4])]) (kH.aJ (.dT fR (ez bO 2 2 0 2 rfl al) (dD bO 2 e7 a6) (aK 1 .live aQ aj) (aK 1 .live eW aH) (aK 1 .live aQ bE)))))
  (fun fR =>
  .au fun eD hr =>
  .ret (let b4:=fZ 1 0 0 al.length eD.1 eD.2.1 3 0 0 eD.2.2.2.length b3 4 0 0 aH.length;let cJ:=fZ 1 0 0 al.length aG aE 3 0 0 aj.length b3 4 0 0 aH.length;let d9:=af 1 (bn 2 0 2) al;let fM:=ca 2 aX eD.2.2.1;let eG:=pc [0,1,2,3,4];let hG:=jK [0,1,2,3,4];let jx:=kF 1 (al.map (bn 2 0 2));let jy:=cH [0,1,2,3,4,5];bi (t5.append [.aa false,.ax (ah 3 (an (.call {a1:=(u9 [0,1,2,3,4]),dt:=[.bG [ae.mk 6 [cJ] .live],.bG d9,.bG (ca 2 aX a6),.pure,.pure],ac:=[ii,ii,ii],r:= .dX [],fy:=[[ae.mk 6 [b4] .live],d9,fM,(af 1 eI eD.2.2.2),(af 1 eh aH)],ik:=ii,kn:=[.bG [ae.mk 6 [b4] .live],.bG d9,.bG fM,.pure,.pure],fI:=[0,1,2,3,4],fB:=false}) [])),(J 1),.aO [0,1,2,3,4,5] [.box [.id,.id,.id,.id,.id,.id],.bG d9,.bG fM,.pure,.pure,.pure] (ba [0,1,5])]) (kH.aJ (.bk fR (x1 eG 6 [cJ] [cJ] rfl) (kF 6 [cJ]) (ez eG 2 2 0 2 rfl al) jx (dD eG 2 e7 a6) (tD 2 aX a6) (iq 1 aQ aj) (.bk (iq 1 eW aH) (x1 hG 6 [b4] [b4] rfl) (kF 6 [b4]) (ez hG 2 2 0 2 rfl al) jx (dD hG 2 e7 eD.2.2.1) (tD 2 aX eD.2.2.1) (iq 1 aQ eD.2.2.2) (.er (iq 1 eW aH) (MF eD hr) (ez jy 2 2 0 2 rfl al) (dD jy 2 e7 eD.2.2.1) (aK 1 .live aQ eD.2.2.2) (aK 1 .live eW aH) (aK 1 .live aQ bE)))))))))))))
  (fun az =>
  .ret (let mq:=cH [0,1,2,3,4,5];bi (t1.append [.ax (ah 6 (an (.b9 (eh aI)) (ah 2 (cn 6 (an (.aa true) (ah 1 (cn 5 (ah 1 [])))))))),.aa true,(J 2),.aO [0,1,2,3,4,5] [.box [.id,.id,.id,.id,.id,.id],.bG (af 1 (bn 2 0 2) al),.bG (ca 2 aX a6),.pure,.pure,.pure] (ba [0,1,5,13,14])]) (.bk h1 o.1 o.2 (bX eh av) (cS az) (cS az) (cS az) (cS az) (.bk (cS az) (cS az) (cS az) cB cB cB cB cB (.dT cB (ez mq 2 2 0 2 rfl al) (dD mq 2 e7 a6) (aK 1 .live aQ aj) (aK 1 .live eW aH) (aK 1 .live aQ bE))))))))
  (fun h1 =>
  .ret (let iJ:=cH [0,1,2,3,4,5];bi [(J 1),.aa false,.aO [0,1,2,3,4,5] [.box [.id,.id,.id,.id,.id,.id],.bG (af 1 (bn 2 0 2) al),.bG (ca 2 aX a6),.pure,.pure,.pure] (ba [0,1,5])] (.dT h1 (ez iJ 2 2 0 2 rfl al) (dD iJ 2 e7 a6) (aK 1 .live aQ aj) (aK 1 .live eW aH) (aK 1 .live aQ bE))))
theorem Mv {b3:Int}{aG:Bool}{aE:List Int}{al:List bx}{a6:List (List bq)}{aj:List Int}{aH:List Bool}{bE:List Int}{bI:Int}{r} (h:vW b3 aG aE al a6 aj aH bE bI=some r):dR a9 87 6 75 [1,0,1,0,0,1,0,1,1,0,0] (Fh b3 aG aE al a6 aj aH bE) (Cn b3 aG aE al a6 aj aH bE) bI r:=dS (fun _=>S0) h
def Fi (br:Int)(al:List bx)(aH:List Bool)(bE:List Int):(Bool×Bool×(List Int)×(List (List bq))×(List Int))→S:=fun (qq,aG,aE,a6,aj)=>dm [(0,.ref 0 0 0 0),(1,.bm 5 0 0 bE.length),(5,.b qq)] [[ae.mk 6 [(fZ 1 0 0 al.length aG aE 3 0 0 aj.length br 4 0 0 aH.length)] .live],(af 1 (bn 2 0 2) al),(ca 2 aX a6),(af 1 eI aj),(af 1 eh aH),(af 1 eI bE)]
def Co (br:Int)(al:List bx)(aH:List Bool)(bE:List Int):((Bool×(List Int)×(List (List bq))×(List Int))⊕(Bool×(List Int)×(List (List bq))×(List Int)))→dp
 | .inl a=>⟨some 0,[(0,.ref 0 0 0 0),(1,.bm 5 0 0 bE.length)],[[ae.mk 6 [(fZ 1 0 0 al.length a.1 a.2.1 3 0 0 a.2.2.2.length br 4 0 0 aH.length)] .live],(af 1 (bn 2 0 2) al),(ca 2 aX a.2.2.1),(af 1 eI a.2.2.2),(af 1 eh aH),(af 1 eI bE)]⟩
 | .inr a=>⟨none,[(4,.b false)],[[ae.mk 6 [(fZ 1 0 0 al.length a.1 a.2.1 3 0 0 a.2.2.2.length br 4 0 0 aH.length)] .live],(af 1 (bn 2 0 2) al),(ca 2 aX a.2.2.1),(af 1 eI a.2.2.2),(af 1 eh aH),(af 1 eI bE)]⟩
def tK (br:Int)(al:List bx)(aH:List Bool)(bE:List Int)(qq aG:Bool)(aE:List Int)(a6:List (List bq))(aj:List Int):Option ((Bool×Bool×(List Int)×(List (List bq))×(List Int))⊕((Bool×(List Int)×(List (List bq))×(List Int))⊕(Bool×(List Int)×(List (List bq))×(List Int)))) :=
 if qq=true then
  vW br aG aE al a6 aj aH bE 0 >>= fun b1 =>
  match b1 with
  | .inl fN=>(some (.inl (fN.1,fN.2.1,fN.2.2.1,fN.2.2.2.1,fN.2.2.2.2)))
  | .inr fN=>(some (.inr (.inr (aG,aE,a6,aj))))
 else
  some (.inr (.inl (aG,aE,a6,aj)))
def Cs (br:Int)(al:List bx)(aH:List Bool)(bE:List Int)(qq aG:Bool)(aE:List Int)(a6:List (List bq))(aj:List Int):Option ((Bool×(List Int)×(List (List bq))×(List Int))⊕(Bool×(List Int)×(List (List bq))×(List Int))):=iter (fun w:Bool×Bool×(List Int)×(List (List bq))×(List Int)=>tK br al aH bE w.1 w.2.1 w.2.2.1 w.2.2.2.1 w.2.2.2.2) (qq,aG,aE,a6,aj)
theorem S1 {br:Int}{al:List bx}{aH:List Bool}{bE:List Int}{qq aG:Bool}{aE:List Int}{a6:List (List bq)}{aj:List Int}:bz (tK br al aH bE qq aG aE a6 aj) (dQ a9 87 6 75 [1,0,1,0,0] (Fi br al aH bE (qq,aG,aE,a6,aj)) (Fi br al aH bE) (Co br al aH bE)):=by
 unfold tK
 exact .ite (fun h1 =>
  .au fun b1 ab =>
  (let b4:=cH [0,1,2,3,4,5];let t1:List b2:=[(J 1),.aa true,(J 1),(J 5),.aO [0,1,2,3,4,5] [.box [.id,.id,.id,.id,.id,.id],.bG (af 1 (bn 2 0 2) al),.bG (ca 2 aX a6),.pure,.pure,.pure] (ba [0,1,5,13,14])];
  have aU:=((.dT h1 (ez b4 2 2 0 2 rfl al) (dD b4 2 e7 a6) (aK 1 .live aQ aj) (aK 1 .live eW aH) (aK 1 .live aQ bE)):cr _);
  (by
  rcases b1 with fN|fN
  ·exact (.ret (let q1:=cH [0,1,2,3,4,5];bi (t1.append [(Cn br aG aE al a6 aj aH bE (.inl fN)).fc,.aO [0,1,2,3,4,5] [.box [.id,.id,.id,.id,.id,.id],.bG (af 1 (bn 2 0 2) al),.bG (ca 2 aX fN.2.2.2.1),.pure,.pure,.pure] (ba [0,1,5])]) (aU.aJ (.dT (Mv ab) (ez q1 2 2 0 2 rfl al) (dD q1 2 e7 fN.2.2.2.1) (aK 1 .live aQ fN.2.2.2.2) (aK 1 .live eW aH) (aK 1 .live aQ bE)))))
  ·exact (.ret (let a2:=cH [0,1,2,3,4,5];bi (t1.append [(Cn br aG aE al a6 aj aH bE (.inr fN)).fc,.aO [0,1,2,3,4,5] [.box [.id,.id,.id,.id,.id,.id],.bG (af 1 (bn 2 0 2) al),.bG (ca 2 aX a6),.pure,.pure,.pure] (ba [4])]) (aU.aJ (.dT (Mv ab) (ez a2 2 2 0 2 rfl al) (dD a2 2 e7 a6) (aK 1 .live aQ aj) (aK 1 .live eW aH) (aK 1 .live aQ bE))))))))
  (fun h1 =>
  .ret (let bO:=cH [0,1,2,3,4,5];bi [(J 1),.aa false,.aO [0,1,2,3,4,5] [.box [.id,.id,.id,.id,.id,.id],.bG (af 1 (bn 2 0 2) al),.bG (ca 2 aX a6),.pure,.pure,.pure] (ba [0,1])] (.dT h1 (ez bO 2 2 0 2 rfl al) (dD bO 2 e7 a6) (aK 1 .live aQ aj) (aK 1 .live eW aH) (aK 1 .live aQ bE))))
theorem Mw {br:Int}{al:List bx}{aH:List Bool}{bE:List Int}{qq aG:Bool}{aE:List Int}{a6:List (List bq)}{aj:List Int}{r} (h:Cs br al aH bE qq aG aE a6 aj=some r):dR a9 87 6 75 [1,0,1,0,0] (Fi br al aH bE) (Co br al aH bE) (qq,aG,aE,a6,aj) r:=dS (fun _=>S1) h
def Fj (d5:Int)(aG:Bool)(aE:List Int)(al:List bx)(a6:List (List bq))(aj bE:List Int):(Int×(List Bool))→S:=fun (fj,aH)=>dm [(0,.ref 0 0 0 0),(1,.bm 5 0 0 bE.length),(53,.n .i64 d5),(54,.n .i64 fj)] [[ae.mk 6 [(fZ 1 0 0 al.length aG aE 3 0 0 aj.length d5 4 0 0 aH.length)] .live],(af 1 (bn 2 0 2) al),(ca 2 aX a6),(af 1 eI aj),(af 1 eh aH),(af 1 eI bE)]
def Fq (d5:Int)(aG:Bool)(aE:List Int)(al:List bx)(a6:List (List bq))(aj bE:List Int):(List Bool)→dp
 | a=>⟨some 4,[],[[ae.mk 6 [(fZ 1 0 0 al.length aG aE 3 0 0 aj.length d5 4 0 0 a.length)] .live],(af 1 (bn 2 0 2) al),(ca 2 aX a6),(af 1 eI aj),(af 1 eh a),(af 1 eI bE)]⟩
def vK (d5:Int)(aG:Bool)(aE:List Int)(al:List bx)(a6:List (List bq))(aj bE:List Int)(fj:Int)(aH:List Bool):Option ((Int×(List Bool))⊕((List Bool))) :=
 if (decide (fj<d5))=true then
  if 0≤fj∧fj<(aH.length:Nat) then
  aH[(0+fj.toNat)]? >>= fun aI =>
  if aI=true then
   rP aj fj >>= fun cj =>
   if cj=true then
    some (.inl (R (fj+(1:Int)),aH))
   else
    if al.all (qQ a6)=true then
    w2 (⟨al.map (ix a6),(⟨aG,aE⟩:bq),aj,d5,aH⟩:qn) bE fj >>= fun eg =>
    if (decide (eg<(0:Int)))=true then
     if (0+fj.toNat)<aH.length then
     some (.inl (R (fj+(1:Int)),aH.set (0+fj.toNat) false))
     else none
    else
     some (.inl (R (fj+(1:Int)),aH))
    else none
  else
   some (.inl (R (fj+(1:Int)),aH))
  else none
 else
  some (.inr aH)
def Ct (d5:Int)(aG:Bool)(aE:List Int)(al:List bx)(a6:List (List bq))(aj bE:List Int)(fj:Int)(aH:List Bool):Option ((List Bool)):=iter (fun w:Int×(List Bool)=>vK d5 aG aE al a6 aj bE w.1 w.2) (fj,aH)
theorem S2 {d5:Int}{aG:Bool}{aE:List Int}{al:List bx}{a6:List (List bq)}{aj bE:List Int}{fj:Int}{aH:List Bool}:bz (vK d5 aG aE al a6 aj bE fj aH) (dQ a9 87 6 75 [1,1,0,1,0,0] (Fj d5 aG aE al a6 aj bE (fj,aH)) (Fj d5 aG aE al a6 aj bE) (Fq d5 aG aE al a6 aj bE)):=by
 unfold vK
 exact .ite (fun h1 =>
  .a0 fun o =>
  .au fun aI av =>
  (let t1:List b2:=[(J 1),.aa true,(J 2)];
  .ite (fun az =>
  .au fun cj bg =>
  (have aU:=((.bk h1 o.1 o.2 (bX eh av) az az az az (.bk az az (f6 eI aj) (fC eI aj) (dw aQ aj) (Jm cj bg) (b7.b cj) az (.e1 az))):cr _);
  .ite (fun bl =>
  .ret (let q1:=cH [0,1,2,3,4,5];bi (t1.append [.ax (ah 6 (an (.b9 (eh aI)) (ah 6 (an (.call {ac:=[.bu (.di (.ek (aj.map eI))),ii],r:= .b cj,fB:=true,fI:=[3]}) (ah 1 (an (.aa true) (ah 1 (cn 5 (an (.aa false) []))))))))),.aa false,(J 2),.aO [0,1,2,3,4,5] [.box [.id,.id,.id,.id,.id,.id],.bG (af 1 (bn 2 0 2) al),.bG (ca 2 aX a6),.pure,.pure,.pure] (ba [0,1,53,54])]) (aU.aJ (.bk (c0 bl) (c0 bl) (c0 bl) (c0 bl) (c0 bl) (c0 bl) cP (ez q1 2 2 0 2 rfl al) (.da (dD q1 2 e7 a6) (aK 1 .live aQ aj) (aK 1 .live eW aH) (aK 1 .live aQ bE))))))
  (fun bl =>
  .a0 fun cq =>
  .au fun eg fa =>
  (let t3:List b2:=t1.append [.ax (ah 6 (an (.b9 (eh aI)) (ah 6 (an (.call {ac:=[.bu (.di (.ek (aj.map eI))),ii],r:= .b cj,fB:=true,fI:=[3]}) (ah 1 (an (.aa true) (ah 4 (an (.call {ac:=[.bu (.ptr [.view 2 (ae.mk 1 (al.map (bn 2 0 2)) .live) ((al.map (ix a6)).map (eu 2 aX)),.id,.id,.ek (aj.map eI),.id,.ek (aH.map eh)]),.bu (.di (.ek (bE.map eI))),ii],r:= .n .i64 eg,fB:=true,fI:=[0,1,2,3,4,5]}) (ah 1 (an (.aa true) []))))))))))];
  have eS:=aU.aJ (.bk (cS bl) (cS bl) (cS bl) (cS bl) (rfl:dh (some (af 1 (bn 2 0 2) al)) 0=some (ae.mk 1 (al.map (bn 2 0 2)) .live)) (rfl:_=true) (fC (bn 2 0 2) al) (dw (nt (sz:=2) rL) (al.map (ix a6))) (.bk (uL (dP:=2) (jf:=[]++(ca 2 aX a6)) (b8:=ky) (sz:=1) (g:=(eu 2 aX)) (cX (bn 2 0 2) al) (fun _=>rfl) (fun x U=>(yu (dP:=2) (c:=0) (b8:=ky) (qB:=[]) (gg .live 2 aX a6) rL rfl i5 rfl (xQ cq x U))) (dJ al)) (f6 eI aj) (fC eI aj) (dw aQ aj) (f6 eh aH) (fC eh aH) (dw eW aH) (pR (IJ (⟨al.map (ix a6),(⟨aG,aE⟩:bq),aj,d5,aH⟩:qn)):jo [[.isl 1 ((al.map (ix a6)).map (eu 2 aX)),.b aG,.isl 1 (aE.map eI),.isl 1 (aj.map eI),.n .i64 d5,.isl 1 (aH.map eh)]]) (.er (f6 eI bE) (fC eI bE) (dw aQ bE) (MS eg fa) (b7.n .i64 eg) (cS bl) (cS bl))));
  .ite (fun eV =>
  .a0 fun et =>
  .ret (let a2:=cH [0,1,2,3,4,5];bi (t3.append [.aa true,.ax (ah 6 (an .fP [])),(J 2),.aO [0,1,2,3,4,5] [.box [.id,.id,.id,.id,.id,.len ((aH.set (0+fj.toNat) false).length)],.bG (af 1 (bn 2 0 2) al),.bG (ca 2 aX a6),.pure,.cA (af 1 eh (aH.set (0+fj.toNat) false)),.pure] (ba [0,1,53,54])]) (eS.aJ (.bk eV o.1 o.2 (hE eh et) (hz 1) (hU (dJ aH) (0+fj.toNat) false) (ez a2 2 2 0 2 rfl al) (dD a2 2 e7 a6) (.da (aK 1 .live aQ aj) (cY 1 .live (gI (cX eh aH) (0+fj.toNat) false)) (aK 1 .live eW (aH.set (0+fj.toNat) false)) (aK 1 .live aQ bE))))))
  (fun eV =>
  .ret (let bO:=cH [0,1,2,3,4,5];bi (t3.append [.aa false,(J 2),.aO [0,1,2,3,4,5] [.box [.id,.id,.id,.id,.id,.id],.bG (af 1 (bn 2 0 2) al),.bG (ca 2 aX a6),.pure,.pure,.pure] (ba [0,1,53,54])]) (eS.aJ (.dT eV (ez bO 2 2 0 2 rfl al) (dD bO 2 e7 a6) (aK 1 .live aQ aj) (aK 1 .live eW aH) (aK 1 .live aQ bE)))))))))
  (fun az =>
  .ret (let b4:=cH [0,1,2,3,4,5];bi (t1.append [.ax (ah 6 (an (.b9 (eh aI)) (ah 1 (cn 7 (an (.aa false) (ah 1 (cn 5 (ah 1 [])))))))),.aa false,(J 2),.aO [0,1,2,3,4,5] [.box [.id,.id,.id,.id,.id,.id],.bG (af 1 (bn 2 0 2) al),.bG (ca 2 aX a6),.pure,.pure,.pure] (ba [0,1,53,54])]) (.bk h1 o.1 o.2 (bX eh av) az az az az (.bk az az az az cP cP cP cP (.er cP cP (ez b4 2 2 0 2 rfl al) (dD b4 2 e7 a6) (aK 1 .live aQ aj) (aK 1 .live eW aH) (aK 1 .live aQ bE))))))))
  (fun h1 =>
  .ret (let cJ:=cH [0,1,2,3,4,5];bi [(J 1),.aa false,.aO [0,1,2,3,4,5] [.box [.id,.id,.id,.id,.id,.id],.bG (af 1 (bn 2 0 2) al),.bG (ca 2 aX a6),.pure,.pure,.pure] []] (.dT h1 (ez cJ 2 2 0 2 rfl al) (dD cJ 2 e7 a6) (aK 1 .live aQ aj) (aK 1 .live eW aH) (aK 1 .live aQ bE))))
theorem Tr {d5:Int}{aG:Bool}{aE:List Int}{al:List bx}{a6:List (List bq)}{aj bE:List Int}{fj:Int}{aH:List Bool}{r} (h:Ct d5 aG aE al a6 aj bE fj aH=some r):dR a9 87 6 75 [1,1,0,1,0,0] (Fj d5 aG aE al a6 aj bE) (Fq d5 aG aE al a6 aj bE) (fj,aH) r:=dS (fun _=>S2) h
def wo (oK:Bool)(oG:List Int)(jD:Int)(ff:List bx)(lU:List (List bq))(ie:List Int)(ht:List Bool)(o8:List Int):Option (Bool×Bool×(List Int)×(List (List bq))×(List Int)×(List Bool)) :=
 Cs jD ff ht o8 true oK oG lU ie >>= fun r1 =>
 match r1 with
 | .inl dn=>(Ct jD dn.1 dn.2.1 ff dn.2.2.1 dn.2.2.2 o8 0 ht >>= fun bb =>
  some (true,dn.1,dn.2.1,dn.2.2.1,dn.2.2.2,bb))
 | .inr dn=>(some (false,dn.1,dn.2.1,dn.2.2.1,dn.2.2.2,ht))
theorem TV {oK:Bool}{oG:List Int}{jD:Int}{ff:List bx}{lU:List (List bq)}{ie:List Int}{ht:List Bool}{o8:List Int}:bz (wo oK oG jD ff lU ie ht o8) (fun a=>Con a9 75 [.ref 0 0 0 0,.bm 5 0 0 o8.length] [[ae.mk 6 [(fZ 1 0 0 ff.length oK oG 3 0 0 ie.length jD 4 0 0 ht.length)] .live],(af 1 (bn 2 0 2) ff),(ca 2 aX lU),(af 1 eI ie),(af 1 eh ht),(af 1 eI o8)] (.b a.1) [[ae.mk 6 [(fZ 1 0 0 ff.length a.2.1 a.2.2.1 3 0 0 a.2.2.2.2.1.length jD 4 0 0 a.2.2.2.2.2.length)] .live],(af 1 (bn 2 0 2) ff),(ca 2 aX a.2.2.2.1),(af 1 eI a.2.2.2.2.1),(af 1 eh a.2.2.2.2.2),(af 1 eI o8)]):=by
 unfold wo
 exact .au fun r1 o =>
  (let hG:=cH [0,1,2,3,4,5];let t1:List b2:=[(J 1),(J 1),.aO [0,1,2,3,4,5] [.box [.id,.id,.id,.id,.id,.id],.bG (af 1 (bn 2 0 2) ff),.bG (ca 2 aX lU),.pure,.pure,.pure] (ba [0,1,5])];
  have aU:=((.dl (ez hG 2 2 0 2 rfl ff) (dD hG 2 e7 lU) (aK 1 .live aQ ie) (aK 1 .live eW ht) (aK 1 .live aQ o8)):cr _);
  (by
  rcases r1 with dn|dn
  ·exact (.au fun bb az =>
  .ret (let q1:=fZ 1 0 0 ff.length dn.1 dn.2.1 3 0 0 dn.2.2.2.length jD 4 0 0 bb.length;let a2:=cH [0,1,2,3,4,5];let bO:=aK 1 .live aQ dn.2.2.2;let b4:=dD a2 2 e7 dn.2.2.1;let cJ:=ca 2 aX dn.2.2.1;let d9:=ez a2 2 2 0 2 rfl ff;lT (t1.append [(Co jD ff ht o8 (.inl dn)).fc,(J 5),.aO [0,1,2,3,4,5] [.box [.id,.id,.id,.id,.id,.id],.bG (af 1 (bn 2 0 2) ff),.bG cJ,.pure,.pure,.pure] (ba [0,1,53,54]),(Fq jD dn.1 dn.2.1 ff dn.2.2.1 dn.2.2.2 o8 bb).fc,(J 1)]) [0,1,2,3,4,5] [.bG [ae.mk 6 [q1] .live],.bG (af 1 (bn 2 0 2) ff),.bG cJ,.pure,.pure,.pure] (aU.aJ (.bk (Mw o) d9 b4 bO (aK 1 .live eW ht) (aK 1 .live aQ o8) (Tr az) (x1 a2 6 [q1] [q1] rfl) (.dl d9 b4 bO (aK 1 .live eW bb) (aK 1 .live aQ o8))))))
  ·exact (.ret (let fM:=fZ 1 0 0 ff.length dn.1 dn.2.1 3 0 0 dn.2.2.2.length jD 4 0 0 ht.length;let eG:=cH [0,1,2,3,4,5];lT (t1.append [(Co jD ff ht o8 (.inr dn)).fc]) [0,1,2,3,4,5] [.bG [ae.mk 6 [fM] .live],.bG (af 1 (bn 2 0 2) ff),.bG (ca 2 aX dn.2.2.1),.pure,.pure,.pure] (aU.aJ (.er (Mw o) (x1 eG 6 [fM] [fM] rfl) (ez eG 2 2 0 2 rfl ff) (dD eG 2 e7 dn.2.2.1) (aK 1 .live aQ dn.2.2.2) (aK 1 .live eW ht) (aK 1 .live aQ o8)))))))
def FA (hP ag:Int)(aG:Bool)(aE:List Int)(br:Int)(al:List bx)(a6:List (List bq))(aj:List Int)(aH:List Bool):Int→S:=fun bs=>dm [(0,.ref 0 0 0 0),(1,.n .i64 hP),(4,.n .i64 ag),(5,.n .i64 bs)] [[ae.mk 6 [(fZ 1 0 0 al.length aG aE 3 0 0 aj.length br 4 0 0 aH.length)] .live],(af 1 (bn 2 0 2) al),(ca 2 aX a6),(af 1 eI aj),(af 1 eh aH)]
def FI (hP ag:Int)(aG:Bool)(aE:List Int)(br:Int)(al:List bx)(a6:List (List bq))(aj:List Int)(aH:List Bool):Int→dp
 | a=>⟨some 2,[(0,.ref 0 0 0 0),(1,.n .i64 hP),(4,.n .i64 ag),(5,.n .i64 a)],[[ae.mk 6 [(fZ 1 0 0 al.length aG aE 3 0 0 aj.length br 4 0 0 aH.length)] .live],(af 1 (bn 2 0 2) al),(ca 2 aX a6),(af 1 eI aj),(af 1 eh aH)]⟩
def vS (hP ag:Int)(aG:Bool)(aE:List Int)(br:Int)(al:List bx)(a6:List (List bq))(aj:List Int)(aH:List Bool)(bs:Int):Option ((Int)⊕(Int)) :=
 if (decide (bs<hP))=true then
  if 0≤ag∧ag<(al.length:Nat) then
  al[(0+ag.toNat)]? >>= fun aI =>
  aI >>= fun lC =>
  a6[lC.1]? >>= fun iB =>
  if 0≤bs∧bs<(lC.2:Nat) then
  iB[(0+bs.toNat)]? >>= fun iP =>
  oV iP >>= fun ec =>
  if (ec == (0:Int))=true then
   some (.inl (R (bs+(1:Int))))
  else
   some (.inr bs)
  else none
  else none
 else
  some (.inr bs)
def Cy (hP ag:Int)(aG:Bool)(aE:List Int)(br:Int)(al:List bx)(a6:List (List bq))(aj:List Int)(aH:List Bool)(bs:Int):Option (Int):=iter (fun w:Int=>vS hP ag aG aE br al a6 aj aH w) bs
theorem Tj {hP ag:Int}{aG:Bool}{aE:List Int}{br:Int}{al:List bx}{a6:List (List bq)}{aj:List Int}{aH:List Bool}{bs:Int}:bz (vS hP ag aG aE br al a6 aj aH bs) (dQ a9 86 5 77 [1,0,0,1,0,1,1,0,0,0] (FA hP ag aG aE br al a6 aj aH bs) (FA hP ag aG aE br al a6 aj aH) (FI hP ag aG aE br al a6 aj aH)):=by
 unfold vS
 exact .ite (fun h1 =>
  .a0 fun o =>
  .au fun aI av =>
  .au fun lC aZ =>
  .au fun iB bl =>
  .a0 fun cq =>
  .au fun iP fa =>
  .au fun ec et =>
  (let q1:=jX (gg .live 2 aX a6) i5 bl;let t1:List b2:=[.ax (ah 10 (an (.b9 ((bn 2 0 2) aI)) (ah 1 (an (.kf 34 (.bm 2 (lC.1+0) 0 lC.2) (.gh (ae.mk 2 (iB.map aX) .live) [])) (an (.gh (ae.mk 2 (iB.map aX) .live) (aX iP)) (an (bp 1 (.n .i64 ec) true) (ah 1 (an (.aa true) []))))))))];
  have aU:=((.bk h1 h1 h1 h1 h1 h1 o.1 o.2 (.bk h1 (bX (bn 2 0 2) av) h1 h1 (l0 (dP:=2) (c:=0) (sz:=2) aZ) q1 cq.1 cq.2 (.gD h1 q1 (bX aX fa) h1 (sJ ec et) (b7.n .i64 ec) h1 h1))):cr _);
  .ite (fun eB =>
  .ret (bi (t1.append [.aa true,(J 3),.aO [0,1,2,3,4] [.box [.id,.id,.id,.id,.id,.id],.bG (af 1 (bn 2 0 2) al),.bG (ca 2 aX a6),.pure,.pure] (ba [0,1,4,5])]) (aU.aJ (.dl eB (ez (cH [0,1,2,3,4]) 2 2 0 2 rfl al) (dD (cH [0,1,2,3,4]) 2 e7 a6) (aK 1 .live aQ aj) (aK 1 .live eW aH)))))
  (fun eB =>
  .ret (bi (t1.append [.aa false,.aO [0,1,2,3,4] [.box [.id,.id,.id,.id,.id,.id],.bG (af 1 (bn 2 0 2) al),.bG (ca 2 aX a6),.pure,.pure] (ba [0,1,4,5])]) (aU.aJ (.dl eB (ez (cH [0,1,2,3,4]) 2 2 0 2 rfl al) (dD (cH [0,1,2,3,4]) 2 e7 a6) (aK 1 .live aQ aj) (aK 1 .live eW aH)))))))
  (fun h1 =>
  .ret (bi [.ax (ah 4 (cn 12 (an (.aa false) []))),.aa false,.aO [0,1,2,3,4] [.box [.id,.id,.id,.id,.id,.id],.bG (af 1 (bn 2 0 2) al),.bG (ca 2 aX a6),.pure,.pure] (ba [0,1,4,5])] (.bk h1 h1 h1 h1 h1 h1 h1 h1 (.bk h1 h1 h1 h1 h1 cP (ez (cH [0,1,2,3,4]) 2 2 0 2 rfl al) (dD (cH [0,1,2,3,4]) 2 e7 a6) (.aD (aK 1 .live aQ aj) (aK 1 .live eW aH))))))
theorem TW {hP ag:Int}{aG:Bool}{aE:List Int}{br:Int}{al:List bx}{a6:List (List bq)}{aj:List Int}{aH:List Bool}{bs:Int}{r} (h:Cy hP ag aG aE br al a6 aj aH bs=some r):dR a9 86 5 77 [1,0,0,1,0,1,1,0,0,0] (FA hP ag aG aE br al a6 aj aH) (FI hP ag aG aE br al a6 aj aH) bs r:=dS (fun _=>Tj) h
def FB (hP br:Int)(aH:List Bool):(Int×Bool×(List Int)×(List bx)×(List (List bq))×(List Int))→S:=fun (ag,aG,aE,al,a6,aj)=>dm [(0,.ref 0 0 0 0),(1,.n .i64 hP),(4,.n .i64 ag)] [[ae.mk 6 [(fZ 1 0 0 al.length aG aE 3 0 0 aj.length br 4 0 0 aH.length)] .live],(af 1 (bn 2 0 2) al),(ca 2 aX a6),(af 1 eI aj),(af 1 eh aH)]
def FJ (hP br:Int)(aH:List Bool):(Bool×(List Int)×(List bx)×(List (List bq))×(List Int))→dp
 | a=>⟨some 0,[],[[ae.mk 6 [(fZ 1 0 0 a.2.2.1.length a.1 a.2.1 3 0 0 a.2.2.2.2.length br 4 0 0 aH.length)] .live],(af 1 (bn 2 0 2) a.2.2.1),(ca 2 aX a.2.2.2.1),(af 1 eI a.2.2.2.2),(af 1 eh aH)]⟩
def yR (hP br:Int)(aH:List Bool)(ag:Int)(aG:Bool)(aE:List Int)(al:List bx)(a6:List (List bq))(aj:List Int):Option ((Int×Bool×(List Int)×(List bx)×(List (List bq))×(List Int))⊕(Bool×(List Int)×(List bx)×(List (List bq))×(List Int))) :=
 if (decide (ag<((al.length:Nat):Int)))=true then
  if 0≤ag∧ag<(aj.length:Nat) then
  aj[(0+ag.toNat)]? >>= fun aI =>
  if (decide (aI<hP))=true then
   some (.inl (R (ag+(1:Int)),aG,aE,al,a6,aj))
  else
   Cy hP ag aG aE br al a6 aj aH 0 >>= fun cj =>
   if (decide (cj<hP))=true then
    wE ag cj aG aE br al a6 aj aH >>= fun cc =>
    some (.inl (R (ag+(1:Int)),cc.1,cc.2.1,al,cc.2.2.1,cc.2.2.2))
   else
    if 0≤ag then
    if 0≤ag.toNat∧ag.toNat≤al.length then
    if 0≤(R (ag+(1:Int))) then
    if (R (ag+(1:Int))).toNat≤al.length then
    if (0+(R (ag+(1:Int))).toNat)+(al.length-(R (ag+(1:Int))).toNat)≤al.length then
    if (ag.toNat-0)+((al.drop (0+(R (ag+(1:Int))).toNat)).take (al.length-(R (ag+(1:Int))).toNat)).length≤al.length then
    if ((al.drop (0+(R (ag+(1:Int))).toNat)).take (al.length-(R (ag+(1:Int))).toNat)).length*24≤140737488355328 then
    if 0≤ag.toNat∧ag.toNat≤aj.length then
    if (R (ag+(1:Int))).toNat≤aj.length then
    if (0+(R (ag+(1:Int))).toNat)+(aj.length-(R (ag+(1:Int))).toNat)≤aj.length then
    if (ag.toNat-0)+((aj.drop (0+(R (ag+(1:Int))).toNat)).take (aj.length-(R (ag+(1:Int))).toNat)).length≤aj.length then
    if ((aj.drop (0+(R (ag+(1:Int))).toNat)).take (aj.length-(R (ag+(1:Int))).toNat)).length*8≤140737488355328 then
    some (.inl (ag,aG,aE,al.take (ag.toNat-0)++((al.drop (0+(R (ag+(1:Int))).toNat)).take (al.length-(R (ag+(1:Int))).toNat)),a6,aj.take (ag.toNat-0)++((aj.drop (0+(R (ag+(1:Int))).toNat)).take (aj.length-(R (ag+(1:Int))).toNat))))
    else none
    else none
    else none
    else none
    else none
    else none
    else none
    else none
    else none
    else none
    else none
    else none
  else none
 else
  some (.inr (aG,aE,al,a6,aj))
def Gj (hP br:Int)(aH:List Bool)(ag:Int)(aG:Bool)(aE:List Int)(al:List bx)(a6:List (List bq))(aj:List Int):Option (Bool×(List Int)×(List bx)×(List (List bq))×(List Int)):=iter (fun w:Int×Bool×(List Int)×(List bx)×(List (List bq))×(List Int)=>yR hP br aH w.1 w.2.1 w.2.2.1 w.2.2.2.1 w.2.2.2.2.1 w.2.2.2.2.2) (ag,aG,aE,al,a6,aj)
theorem Tk {hP br:Int}{aH:List Bool}{ag:Int}{aG:Bool}{aE:List Int}{al:List bx}{a6:List (List bq)}{aj:List Int}:bz (yR hP br aH ag aG aE al a6 aj) (dQ a9 86 5 77 [1,0,0] (FB hP br aH (ag,aG,aE,al,a6,aj)) (FB hP br aH) (FJ hP br aH)):=by
 unfold yR
 exact .ite (fun h1 =>
  .a0 fun o =>
  .au fun aI av =>
  (let t1:List b2:=[(J 7),.aa true,.ax (bt 6 (.b9 (eI aI)) 2)];
  .ite (fun az =>
  .ret (bi (t1.append [.aa true,(J 3),.aO [0,1,2,3,4] [.box [.id,.id,.id,.id,.id,.id],.bG (af 1 (bn 2 0 2) al),.bG (ca 2 aX a6),.pure,.pure] (ba [0,1,4])]) (.bk h1 o.1 o.2 (bX eI av) az (ez (cH [0,1,2,3,4]) 2 2 0 2 rfl al) (dD (cH [0,1,2,3,4]) 2 e7 a6) (aK 1 .live aQ aj) (.e1 (aK 1 .live eW aH)))))
  (fun az =>
  .au fun cj bg =>
  (let t2:List b2:=t1.append [.aa false,(J 1),.aO [0,1,2,3,4] [.box [.id,.id,.id,.id,.id,.id],.bG (af 1 (bn 2 0 2) al),.bG (ca 2 aX a6),.pure,.pure] (ba [0,1,4,5]),(FI hP ag aG aE br al a6 aj aH cj).fc,(J 3)];
  have fE:=((.bk h1 o.1 o.2 (bX eI av) az (ez (cH [0,1,2,3,4]) 2 2 0 2 rfl al) (dD (cH [0,1,2,3,4]) 2 e7 a6) (aK 1 .live aQ aj) (.aD (aK 1 .live eW aH) (TW bg))):cr _);
  .ite (fun bl =>
  .au fun cc cQ =>
  .ret (let q1:=fZ 1 0 0 al.length cc.1 cc.2.1 3 0 0 cc.2.2.2.length br 4 0 0 aH.length;let a2:=fZ 1 0 0 al.length aG aE 3 0 0 aj.length br 4 0 0 aH.length;let bO:=af 1 (bn 2 0 2) al;let b4:=ca 2 aX cc.2.2.1;let cJ:=pc [0,1,2,3,4];let d9:=jK [0,1,2,3,4];let fM:=kF 1 (al.map (bn 2 0 2));bi (t2.append [.aa true,.ax (ah 3 (an (.call {a1:=(u9 [0,1,2,3,4]),dt:=[.bG [ae.mk 6 [a2] .live],.bG bO,.bG (ca 2 aX a6),.pure,.pure],ac:=[ii,ii,ii],r:= .dX [],fy:=[[ae.mk 6 [q1] .live],bO,b4,(af 1 eI cc.2.2.2),(af 1 eh aH)],ik:=ii,kn:=[.bG [ae.mk 6 [q1] .live],.bG bO,.bG b4,.pure,.pure],fI:=[0,1,2,3,4],fB:=false}) [])),(J 3),.aO [0,1,2,3,4] [.box [.id,.id,.id,.id,.id,.id],.bG bO,.bG b4,.pure,.pure] (ba [0,1,4])]) (fE.aJ (.bk bl (x1 cJ 6 [a2] [a2] rfl) (kF 6 [a2]) (ez cJ 2 2 0 2 rfl al) fM (dD cJ 2 e7 a6) (tD 2 aX a6) (iq 1 aQ aj) (.bk (iq 1 eW aH) (x1 d9 6 [q1] [q1] rfl) (kF 6 [q1]) (ez d9 2 2 0 2 rfl al) fM (dD d9 2 e7 cc.2.2.1) (tD 2 aX cc.2.2.1) (iq 1 aQ cc.2.2.2) (.dT (iq 1 eW aH) (MF cc cQ) (ez (cH [0,1,2,3,4]) 2 2 0 2 rfl al) (dD (cH [0,1,2,3,4]) 2 e7 cc.2.2.1) (aK 1 .live aQ cc.2.2.2) (aK 1 .live eW aH)))))))
  (fun bl =>
  .a0 fun cq =>
  .a0 fun cQ =>
  .a0 fun fa =>
  .a0 fun eV =>
  .a0 fun et =>
  .a0 fun eB =>
  .a0 fun fR =>
  .a0 fun hS =>
  .a0 fun hr =>
  .a0 fun hs =>
  .a0 fun gz =>
  .a0 fun fk =>
  .ret (let eG:=(R (ag+(1:Int)));let hG:=cX (bn 2 0 2) al;let jx:=cH [0,1,2,3,4];let jy:=cX eI aj;bi (t2.append [.aa false,.ax (bt 14 .fP 3),.ax (bt 14 .fP 3),.aO [0,1,2,3,4] [.box [.len ((al.take (ag.toNat-0)++((al.drop (0+eG.toNat)).take (al.length-eG.toNat))).length),.id,.id,.len ((aj.take (ag.toNat-0)++((aj.drop (0+eG.toNat)).take (aj.length-eG.toNat))).length),.id,.id],.bG (af 1 (bn 2 0 2) (al.take (ag.toNat-0)++((al.drop (0+eG.toNat)).take (al.length-eG.toNat)))),.bG (ca 2 aX a6),.cA (af 1 eI (aj.take (ag.toNat-0)++((aj.drop (0+eG.toNat)).take (aj.length-eG.toNat)))),.pure] (ba [0,1,4])]) (fE.aJ (.bk bl cq cQ.1 cQ.2 fa eV (Nat.le_refl al.length) (rj hG et) (.bk (Qu hG (ol hG (0+eG.toNat) (al.length-eG.toNat)) eB) (Po (ol hG (0+eG.toNat) (al.length-eG.toNat)) fR) cq hS.1 hS.2 fa hr (Nat.le_refl aj.length) (.bk (rj jy hs) (Qu jy (ol jy (0+eG.toNat) (aj.length-eG.toNat)) gz) (Po (ol jy (0+eG.toNat) (aj.length-eG.toNat)) fk) ((J3 (Qt eB) (ol hG (0+eG.toNat) (al.length-eG.toNat)):(al.take (ag.toNat-0)++((al.drop (0+eG.toNat)).take (al.length-eG.toNat))).length=(ag.toNat-0)+(((al.map (bn 2 0 2)).drop (0+eG.toNat)).take (al.length-eG.toNat)).length).symm) ((J3 (Qt gz) (ol jy (0+eG.toNat) (aj.length-eG.toNat)):(aj.take (ag.toNat-0)++((aj.drop (0+eG.toNat)).take (aj.length-eG.toNat))).length=(ag.toNat-0)+(((aj.map eI).drop (0+eG.toNat)).take (aj.length-eG.toNat)).length).symm) (c7 (rA (cd:=jx) 1 .live (bn 2 0 2) (J2 hG (ag.toNat-0) (ol hG (0+eG.toNat) (al.length-eG.toNat))) (s9 (rfl:jx 2=some 2))) (o1 (cd:=jx))) (dD jx 2 e7 a6) (cY 1 .live (J2 jy (ag.toNat-0) (ol jy (0+eG.toNat) (aj.length-eG.toNat)))) (.aD (aK 1 .live aQ (aj.take (ag.toNat-0)++((aj.drop (0+eG.toNat)).take (aj.length-eG.toNat)))) (aK 1 .live eW aH))))))))))))
  (fun h1 =>
  .ret (bi [(J 7),.aa false,.aO [0,1,2,3,4] [.box [.id,.id,.id,.id,.id,.id],.bG (af 1 (bn 2 0 2) al),.bG (ca 2 aX a6),.pure,.pure] []] (.dl h1 (ez (cH [0,1,2,3,4]) 2 2 0 2 rfl al) (dD (cH [0,1,2,3,4]) 2 e7 a6) (aK 1 .live aQ aj) (aK 1 .live eW aH))))
theorem TX {hP br:Int}{aH:List Bool}{ag:Int}{aG:Bool}{aE:List Int}{al:List bx}{a6:List (List bq)}{aj:List Int}{r} (h:Gj hP br aH ag aG aE al a6 aj=some r):dR a9 86 5 77 [1,0,0] (FB hP br aH) (FJ hP br aH) (ag,aG,aE,al,a6,aj) r:=dS (fun _=>Tk) h
def y4 (hP:Int)(oK:Bool)(oG:List Int)(jD:Int)(ff:List bx)(lU:List (List bq))(ie:List Int)(ht:List Bool):Option (Bool×(List Int)×(List bx)×(List (List bq))×(List Int)) :=
 Gj hP jD ht 0 oK oG ff lU ie >>= fun r1 =>
 some (r1.1,r1.2.1,r1.2.2.1,r1.2.2.2.1,r1.2.2.2.2)
theorem Uv {hP:Int}{oK:Bool}{oG:List Int}{jD:Int}{ff:List bx}{lU:List (List bq)}{ie:List Int}{ht:List Bool}:bz (y4 hP oK oG jD ff lU ie ht) (fun a=>Con a9 77 [.ref 0 0 0 0,.n .i64 hP] [[ae.mk 6 [(fZ 1 0 0 ff.length oK oG 3 0 0 ie.length jD 4 0 0 ht.length)] .live],(af 1 (bn 2 0 2) ff),(ca 2 aX lU),(af 1 eI ie),(af 1 eh ht)] (.dX []) [[ae.mk 6 [(fZ 1 0 0 a.2.2.1.length a.1 a.2.1 3 0 0 a.2.2.2.2.length jD 4 0 0 ht.length)] .live],(af 1 (bn 2 0 2) a.2.2.1),(ca 2 aX a.2.2.2.1),(af 1 eI a.2.2.2.2),(af 1 eh ht)]):=by
 unfold y4
 exact .au fun r1 o =>
  .ret (let q1:=fZ 1 0 0 r1.2.2.1.length r1.1 r1.2.1 3 0 0 r1.2.2.2.2.length jD 4 0 0 ht.length;let a2:=cH [0,1,2,3,4];lT [(J 1),.aO [0,1,2,3,4] [.box [.id,.id,.id,.id,.id,.id],.bG (af 1 (bn 2 0 2) ff),.bG (ca 2 aX lU),.pure,.pure] (ba [0,1,4]),(FJ hP jD ht r1).fc] [0,1,2,3,4] [.bG [ae.mk 6 [q1] .live],.bG (af 1 (bn 2 0 2) r1.2.2.1),.bG (ca 2 aX r1.2.2.2.1),.pure,.pure] (.bk (ez a2 2 2 0 2 rfl ff) (dD a2 2 e7 lU) (aK 1 .live aQ ie) (aK 1 .live eW ht) (TX o) (x1 a2 6 [q1] [q1] rfl) (ez a2 2 2 0 2 rfl r1.2.2.1) (dD a2 2 e7 r1.2.2.2.1) (.aD (aK 1 .live aQ r1.2.2.2.2) (aK 1 .live eW ht))))
end Go.Proofs.YtamedijmgkdlgabGreat
namespace Go.Proofs.YtamedijmgkdlgabGreat
set_option linter.unusedVariables false
set_option linter.unusedSimpArgs false
open Go Go.VL
def He (dF cV:Int)(dV dM dU:List Int)(aY ag:Int)(ga ei:Nat)(ju:List Int)(jT:Int)(aG:Bool)(aE:List Int)(aA:List bx)(aj:List Int)(aH:List Bool):(Int×(List (List bq)))→S:=fun (d5,iG)=>dm [(0,.eb 5 [[.n .i64 dF,.n .i64 cV,.isl 1 (dV.map eI),.isl 1 (dM.map eI),.isl 1 (dU.map eI)]] 0 0),(4,.n .i64 aY),(5,.ref 0 0 0 0),(6,.n .i64 ag),(7,.bm 1 (ga+0) 0 ei),(8,.n .i64 (-1:Int)),(34,.n .i64 dF),(35,.n .i64 ag),(51,.isl 1 (ju.map eI)),(52,.n .i64 jT),(53,.n .i64 d5)] [[ae.mk 6 [(fZ 2 0 0 aA.length aG aE 3 0 0 aj.length aY 4 0 0 aH.length)] .live],(ca 2 aX iG),(af 1 (bn 1 0 2) aA),(af 1 eI aj),(af 1 eh aH)]
def HJ (dF cV:Int)(dV dM dU:List Int)(aY ag:Int)(ga ei:Nat)(ju:List Int)(jT:Int)(aG:Bool)(aE:List Int)(aA:List bx)(aj:List Int)(aH:List Bool):(List (List bq))→dp
 | a=>⟨some 2,[(0,.eb 5 [[.n .i64 dF,.n .i64 cV,.isl 1 (dV.map eI),.isl 1 (dM.map eI),.isl 1 (dU.map eI)]] 0 0),(4,.n .i64 aY),(5,.ref 0 0 0 0),(6,.n .i64 ag),(7,.bm 1 (ga+0) 0 ei),(8,.n .i64 (-1:Int)),(34,.n .i64 dF),(35,.n .i64 ag)],[[ae.mk 6 [(fZ 2 0 0 aA.length aG aE 3 0 0 aj.length aY 4 0 0 aH.length)] .live],(ca 2 aX a),(af 1 (bn 1 0 2) aA),(af 1 eI aj),(af 1 eh aH)]⟩
def wF (dF cV:Int)(dV dM dU:List Int)(aY ag:Int)(ga ei:Nat)(ju:List Int)(jT:Int)(aG:Bool)(aE:List Int)(aA:List bx)(aj:List Int)(aH:List Bool)(d5:Int)(iG:List (List bq)):Option ((Int×(List (List bq)))⊕((List (List bq)))) :=
 if (decide (d5<jT))=true then
  if 0≤d5∧d5<ju.length then
  ju[d5.toNat]? >>= fun aI =>
  oj (R ((-1:Int)*aI)) >>= fun aM =>
  iG[ga]? >>= fun iB =>
  if 0≤d5∧d5<(ei:Nat) then
  iB[(0+d5.toNat)]? >>= fun iP =>
  some (.inl (R (d5+(1:Int)),iG.set ga (iB.set (0+d5.toNat) aM)))
  else none
  else none
 else
  some (.inr iG)
def CS (dF cV:Int)(dV dM dU:List Int)(aY ag:Int)(ga ei:Nat)(ju:List Int)(jT:Int)(aG:Bool)(aE:List Int)(aA:List bx)(aj:List Int)(aH:List Bool)(d5:Int)(iG:List (List bq)):Option ((List (List bq))):=iter (fun w:Int×(List (List bq))=>wF dF cV dV dM dU aY ag ga ei ju jT aG aE aA aj aH w.1 w.2) (d5,iG)
theorem Uw {dF cV:Int}{dV dM dU:List Int}{aY ag:Int}{ga ei:Nat}{ju:List Int}{jT:Int}{aG:Bool}{aE:List Int}{aA:List bx}{aj:List Int}{aH:List Bool}{d5:Int}{iG:List (List bq)}:bz (wF dF cV dV dM dU aY ag ga ei ju jT aG aE aA aj aH d5 iG) (dQ a9 205 0 47 [1,1,1,0,1,0,0,1,1,0,0,1,1,1,1,0,1,0,0] (He dF cV dV dM dU aY ag ga ei ju jT aG aE aA aj aH (d5,iG)) (He dF cV dV dM dU aY ag ga ei ju jT aG aE aA aj aH) (HJ dF cV dV dM dU aY ag ga ei ju jT aG aE aA aj aH)):=by
 unfold wF
 exact .ite (fun h1 =>
  .a0 fun o =>
  .au fun aI av =>
  .au fun aM aZ =>
  .au fun iB bl =>
  .a0 fun cq =>
  .au fun iP fa =>
  .ret (let q1:=jX (gg .live 2 aX iG) i5 bl;bi [(J 1),.aa true,.ax (bt 2 (.b9 (eI aI)) 2),.ax (ah 5 (an (bp 1 (.agg (aX aM)) false) (an (.gh (ae.mk 2 (iB.map aX) .live) []) (an (.gh (ae.mk 2 (iB.map aX) .live) (aX iP)) [])))),(J 2),.aO [0,1,2,3,4] [.box [.id,.id,.id,.id,.id,.id],.bG (ca 2 aX (iG.set ga (iB.set (0+d5.toNat) aM))),.bG (af 1 (bn 1 0 2) aA),.pure,.pure] (ba [0,4,5,6,7,8,34,35,51,52,53])] (.bk h1 o.1 (cU eI o.2) (bX eI av) (rI aM aZ) q1 cq.1 cq.2 (.dT q1 (bX aX fa) (m8 (cd:=(cH [0,1,2,3,4])) (o0 (gg .live 2 aX iG) ga (qo (cX aX iB) (0+d5.toNat) aM (rfl:(setCells (aX iP) 0 (aX aM))=aX aM))) (mj e7)) (ez (cH [0,1,2,3,4]) 1 1 0 2 rfl aA) (aK 1 .live aQ aj) (aK 1 .live eW aH)))))
  (fun h1 =>
  .ret (bi [(J 1),.aa false,.aO [0,1,2,3,4] [.box [.id,.id,.id,.id,.id,.id],.bG (ca 2 aX iG),.bG (af 1 (bn 1 0 2) aA),.pure,.pure] (ba [0,4,5,6,7,8,34,35])] (.dl h1 (dD (cH [0,1,2,3,4]) 2 e7 iG) (ez (cH [0,1,2,3,4]) 1 1 0 2 rfl aA) (aK 1 .live aQ aj) (aK 1 .live eW aH))))
theorem V1 {dF cV:Int}{dV dM dU:List Int}{aY ag:Int}{ga ei:Nat}{ju:List Int}{jT:Int}{aG:Bool}{aE:List Int}{aA:List bx}{aj:List Int}{aH:List Bool}{d5:Int}{iG:List (List bq)}{r} (h:CS dF cV dV dM dU aY ag ga ei ju jT aG aE aA aj aH d5 iG=some r):dR a9 205 0 47 [1,1,1,0,1,0,0,1,1,0,0,1,1,1,1,0,1,0,0] (He dF cV dV dM dU aY ag ga ei ju jT aG aE aA aj aH) (HJ dF cV dV dM dU aY ag ga ei ju jT aG aE aA aj aH) (d5,iG) r:=dS (fun _=>Uw) h
def Hf (dF cV:Int)(dV dM dU:List Int)(aY ag:Int)(ga ei:Nat)(ju:List Int)(jT:Int)(aG:Bool)(aE:List Int)(aA:List bx)(aj:List Int)(aH:List Bool):(Int×(List (List bq)))→S:=fun (d5,iG)=>dm [(0,.eb 5 [[.n .i64 dF,.n .i64 cV,.isl 1 (dV.map eI),.isl 1 (dM.map eI),.isl 1 (dU.map eI)]] 0 0),(4,.n .i64 aY),(5,.ref 0 0 0 0),(6,.n .i64 ag),(7,.bm 1 (ga+0) 0 ei),(8,.n .i64 (1:Int)),(34,.n .i64 dF),(35,.n .i64 ag),(51,.isl 1 (ju.map eI)),(52,.n .i64 jT),(53,.n .i64 d5)] [[ae.mk 6 [(fZ 2 0 0 aA.length aG aE 3 0 0 aj.length aY 4 0 0 aH.length)] .live],(ca 2 aX iG),(af 1 (bn 1 0 2) aA),(af 1 eI aj),(af 1 eh aH)]
def HK (dF cV:Int)(dV dM dU:List Int)(aY ag:Int)(ga ei:Nat)(ju:List Int)(jT:Int)(aG:Bool)(aE:List Int)(aA:List bx)(aj:List Int)(aH:List Bool):(List (List bq))→dp
 | a=>⟨some 2,[(0,.eb 5 [[.n .i64 dF,.n .i64 cV,.isl 1 (dV.map eI),.isl 1 (dM.map eI),.isl 1 (dU.map eI)]] 0 0),(4,.n .i64 aY),(5,.ref 0 0 0 0),(6,.n .i64 ag),(7,.bm 1 (ga+0) 0 ei),(8,.n .i64 (1:Int)),(34,.n .i64 dF),(35,.n .i64 ag)],[[ae.mk 6 [(fZ 2 0 0 aA.length aG aE 3 0 0 aj.length aY 4 0 0 aH.length)] .live],(ca 2 aX a),(af 1 (bn 1 0 2) aA),(af 1 eI aj),(af 1 eh aH)]⟩
def wG (dF cV:Int)(dV dM dU:List Int)(aY ag:Int)(ga ei:Nat)(ju:List Int)(jT:Int)(aG:Bool)(aE:List Int)(aA:List bx)(aj:List Int)(aH:List Bool)(d5:Int)(iG:List (List bq)):Option ((Int×(List (List bq)))⊕((List (List bq)))) :=
 if (decide (d5<jT))=true then
  if 0≤d5∧d5<ju.length then
  ju[d5.toNat]? >>= fun aI =>
  oj (R ((1:Int)*aI)) >>= fun aM =>
  iG[ga]? >>= fun iB =>
  if 0≤d5∧d5<(ei:Nat) then
  iB[(0+d5.toNat)]? >>= fun iP =>
  some (.inl (R (d5+(1:Int)),iG.set ga (iB.set (0+d5.toNat) aM)))
  else none
  else none
 else
  some (.inr iG)
def CT (dF cV:Int)(dV dM dU:List Int)(aY ag:Int)(ga ei:Nat)(ju:List Int)(jT:Int)(aG:Bool)(aE:List Int)(aA:List bx)(aj:List Int)(aH:List Bool)(d5:Int)(iG:List (List bq)):Option ((List (List bq))):=iter (fun w:Int×(List (List bq))=>wG dF cV dV dM dU aY ag ga ei ju jT aG aE aA aj aH w.1 w.2) (d5,iG)
theorem Ux {dF cV:Int}{dV dM dU:List Int}{aY ag:Int}{ga ei:Nat}{ju:List Int}{jT:Int}{aG:Bool}{aE:List Int}{aA:List bx}{aj:List Int}{aH:List Bool}{d5:Int}{iG:List (List bq)}:bz (wG dF cV dV dM dU aY ag ga ei ju jT aG aE aA aj aH d5 iG) (dQ a9 205 0 47 [1,1,1,0,1,0,0,1,1,0,0,1,1,1,1,0,1,0,0] (Hf dF cV dV dM dU aY ag ga ei ju jT aG aE aA aj aH (d5,iG)) (Hf dF cV dV dM dU aY ag ga ei ju jT aG aE aA aj aH) (HK dF cV dV dM dU aY ag ga ei ju jT aG aE aA aj aH)):=by
 unfold wG
 exact .ite (fun h1 =>
  .a0 fun o =>
  .au fun aI av =>
  .au fun aM aZ =>
  .au fun iB bl =>
  .a0 fun cq =>
  .au fun iP fa =>
  .ret (let q1:=jX (gg .live 2 aX iG) i5 bl;bi [(J 1),.aa true,.ax (bt 2 (.b9 (eI aI)) 2),.ax (ah 5 (an (bp 1 (.agg (aX aM)) false) (an (.gh (ae.mk 2 (iB.map aX) .live) []) (an (.gh (ae.mk 2 (iB.map aX) .live) (aX iP)) [])))),(J 2),.aO [0,1,2,3,4] [.box [.id,.id,.id,.id,.id,.id],.bG (ca 2 aX (iG.set ga (iB.set (0+d5.toNat) aM))),.bG (af 1 (bn 1 0 2) aA),.pure,.pure] (ba [0,4,5,6,7,8,34,35,51,52,53])] (.bk h1 o.1 (cU eI o.2) (bX eI av) (rI aM aZ) q1 cq.1 cq.2 (.dT q1 (bX aX fa) (m8 (cd:=(cH [0,1,2,3,4])) (o0 (gg .live 2 aX iG) ga (qo (cX aX iB) (0+d5.toNat) aM (rfl:(setCells (aX iP) 0 (aX aM))=aX aM))) (mj e7)) (ez (cH [0,1,2,3,4]) 1 1 0 2 rfl aA) (aK 1 .live aQ aj) (aK 1 .live eW aH)))))
  (fun h1 =>
  .ret (bi [(J 1),.aa false,.aO [0,1,2,3,4] [.box [.id,.id,.id,.id,.id,.id],.bG (ca 2 aX iG),.bG (af 1 (bn 1 0 2) aA),.pure,.pure] (ba [0,4,5,6,7,8,34,35])] (.dl h1 (dD (cH [0,1,2,3,4]) 2 e7 iG) (ez (cH [0,1,2,3,4]) 1 1 0 2 rfl aA) (aK 1 .live aQ aj) (aK 1 .live eW aH))))
theorem V2 {dF cV:Int}{dV dM dU:List Int}{aY ag:Int}{ga ei:Nat}{ju:List Int}{jT:Int}{aG:Bool}{aE:List Int}{aA:List bx}{aj:List Int}{aH:List Bool}{d5:Int}{iG:List (List bq)}{r} (h:CT dF cV dV dM dU aY ag ga ei ju jT aG aE aA aj aH d5 iG=some r):dR a9 205 0 47 [1,1,1,0,1,0,0,1,1,0,0,1,1,1,1,0,1,0,0] (Hf dF cV dV dM dU aY ag ga ei ju jT aG aE aA aj aH) (HK dF cV dV dM dU aY ag ga ei ju jT aG aE aA aj aH) (d5,iG) r:=dS (fun _=>Ux) h
def Hg (dF cV:Int)(dV dM dU:List Int)(aY:Int)(aG:Bool)(aE:List Int)(aH:List Bool):(Int×(List bx)×(List (List bq))×(List Int))→S:=fun (df,al,a6,aj)=>dm [(0,.eb 5 [[.n .i64 dF,.n .i64 cV,.isl 1 (dV.map eI),.isl 1 (dM.map eI),.isl 1 (dU.map eI)]] 0 0),(4,.n .i64 aY),(5,.ref 0 0 0 0),(34,.n .i64 dF),(35,.n .i64 df)] [[ae.mk 6 [(fZ 1 0 0 al.length aG aE 3 0 0 aj.length aY 4 0 0 aH.length)] .live],(af 1 (bn 2 0 2) al),(ca 2 aX a6),(af 1 eI aj),(af 1 eh aH)]
def HL (dF cV:Int)(dV dM dU:List Int)(aY:Int)(aG:Bool)(aE:List Int)(aH:List Bool):((List bx)×(List (List bq))×(List Int))→dp
 | a=>⟨some 0,[(0,.eb 5 [[.n .i64 dF,.n .i64 cV,.isl 1 (dV.map eI),.isl 1 (dM.map eI),.isl 1 (dU.map eI)]] 0 0),(4,.n .i64 aY),(5,.ref 0 0 0 0)],[[ae.mk 6 [(fZ 1 0 0 a.1.length aG aE 3 0 0 a.2.2.length aY 4 0 0 aH.length)] .live],(af 1 (bn 2 0 2) a.1),(ca 2 aX a.2.1),(af 1 eI a.2.2),(af 1 eh aH)]⟩
def wH (dF cV:Int)(dV dM dU:List Int)(aY:Int)(aG:Bool)(aE:List Int)(aH:List Bool)(df:Int)(al:List bx)(a6:List (List bq))(aj:List Int):Option ((Int×(List bx)×(List (List bq))×(List Int))⊕((List bx)×(List (List bq))×(List Int))) :=
 if (decide (df<dF))=true then
  if 0≤(R (aY+(1:Int)))∧(32:Int)*(R (aY+(1:Int)))≤281474976710656∧(R (aY+(1:Int)))<9223372036854775808 then
  if 0≤df∧df<dM.length then
  dM[df.toNat]? >>= fun gf =>
  if (decide (gf<(0:Int)))=true then
   w4 (⟨dF,cV,dV,dM,dU⟩:hp) df >>= fun cb =>
   CS dF cV dV dM dU aY df a6.length ((R (aY+(1:Int))).toNat) cb (len_ eI cb) aG aE al aj aH 0 (a6++[(List.replicate (R (aY+(1:Int))).toNat (⟨false,([]:List Int)⟩:bq):List bq)]) >>= fun cc =>
   oj 1 >>= fun c5 =>
   cc[a6.length]? >>= fun li =>
   if 0≤(R (cV+df))∧(R (cV+df))<((R (aY+(1:Int))).toNat:Nat) then
   li[(0+(R (cV+df)).toNat)]? >>= fun ms =>
   oj (R ((-1:Int)*gf)) >>= fun fb =>
   (cc.set a6.length (li.set (0+(R (cV+df)).toNat) c5))[a6.length]? >>= fun oR =>
   if 0≤aY∧aY<((R (aY+(1:Int))).toNat:Nat) then
   oR[(0+aY.toNat)]? >>= fun vf =>
   if (al++([(some (a6.length,(R (aY+(1:Int))).toNat))]:List bx)).length*24≤140737488355328 then
   if (aj++([R (cV+df)]:List Int)).length*8≤140737488355328 then
   some (.inl (R (df+(1:Int)),al++([(some (a6.length,(R (aY+(1:Int))).toNat))]:List bx),(cc.set a6.length (li.set (0+(R (cV+df)).toNat) c5)).set a6.length (oR.set (0+aY.toNat) fb),aj++([R (cV+df)]:List Int)))
   else none
   else none
   else none
   else none
  else
   w4 (⟨dF,cV,dV,dM,dU⟩:hp) df >>= fun cb =>
   CT dF cV dV dM dU aY df a6.length ((R (aY+(1:Int))).toNat) cb (len_ eI cb) aG aE al aj aH 0 (a6++[(List.replicate (R (aY+(1:Int))).toNat (⟨false,([]:List Int)⟩:bq):List bq)]) >>= fun cc =>
   oj 1 >>= fun c5 =>
   cc[a6.length]? >>= fun li =>
   if 0≤(R (cV+df))∧(R (cV+df))<((R (aY+(1:Int))).toNat:Nat) then
   li[(0+(R (cV+df)).toNat)]? >>= fun ms =>
   oj (R ((1:Int)*gf)) >>= fun fb =>
   (cc.set a6.length (li.set (0+(R (cV+df)).toNat) c5))[a6.length]? >>= fun oR =>
   if 0≤aY∧aY<((R (aY+(1:Int))).toNat:Nat) then
   oR[(0+aY.toNat)]? >>= fun vf =>
   if (al++([(some (a6.length,(R (aY+(1:Int))).toNat))]:List bx)).length*24≤140737488355328 then
   if (aj++([R (cV+df)]:List Int)).length*8≤140737488355328 then
   some (.inl (R (df+(1:Int)),al++([(some (a6.length,(R (aY+(1:Int))).toNat))]:List bx),(cc.set a6.length (li.set (0+(R (cV+df)).toNat) c5)).set a6.length (oR.set (0+aY.toNat) fb),aj++([R (cV+df)]:List Int)))
   else none
   else none
   else none
   else none
  else none
  else none
 else
  some (.inr (al,a6,aj))
def CU (dF cV:Int)(dV dM dU:List Int)(aY:Int)(aG:Bool)(aE:List Int)(aH:List Bool)(df:Int)(al:List bx)(a6:List (List bq))(aj:List Int):Option ((List bx)×(List (List bq))×(List Int)):=iter (fun w:Int×(List bx)×(List (List bq))×(List Int)=>wH dF cV dV dM dU aY aG aE aH w.1 w.2.1 w.2.2.1 w.2.2.2) (df,al,a6,aj)
theorem Uy {dF cV:Int}{dV dM dU:List Int}{aY:Int}{aG:Bool}{aE:List Int}{aH:List Bool}{df:Int}{al:List bx}{a6:List (List bq)}{aj:List Int}:bz (wH dF cV dV dM dU aY aG aE aH df al a6 aj) (dQ a9 205 0 47 [1,1,1,0,1,0,0] (Hg dF cV dV dM dU aY aG aE aH (df,al,a6,aj)) (Hg dF cV dV dM dU aY aG aE aH) (HL dF cV dV dM dU aY aG aE aH)):=by
 unfold wH
 exact .ite (fun h1 =>
  .a0 fun o =>
  .a0 fun ab =>
  .au fun gf az =>
  (let t1:List b2:=[(J 1),.aa true,(J 2),.ax (bt 2 (.vl 2 (a6.length+0) (.b9 [.b false,.isl 1 (([]:List Int).map eI)])) 1),(J 1),.ax (bt 6 (.b9 (eI gf)) 1)];
  have aU:=((.bk h1 o.1 (Int.le_refl (R (aY+(1:Int)))) o.2.1 o.2.2 (congrArg (· + 0) (Kq (gg .live 2 aX a6) rfl)) ab.1 (cU eI ab.2) (.e1 (bX eI az))):cr _);
  .ite (fun aZ =>
  .au fun cb bl =>
  .au fun cc cQ =>
  .au fun c5 eV =>
  .au fun li eB =>
  .a0 fun fR =>
  .au fun ms hr =>
  .au fun fb gz =>
  .au fun oR gY =>
  .a0 fun jw =>
  .au fun vf yD =>
  .a0 fun qW =>
  .a0 fun BM =>
  .ret (let a2:=(R (aY+(1:Int)));let bO:=R (cV+df);let q1:=(o0 (gg .live 2 aX cc) a6.length (qo (cX aX li) (0+bO.toNat) c5 (rfl:(setCells (aX ms) 0 (aX c5))=aX c5)));let b4:=cH [0,36,1,52,4];let cJ:=(aj++([bO]:List Int));let d9:=(al++([(some (a6.length,a2.toNat))]:List bx));let fM:=jX (gg .live 2 aX cc) i5 eB;bi (t1.append [.aa true,(J 1),.ax (bt 2 (bp 2 (.isl 1 (cb.map eI)) false) 2),.aO [0,2,1,3,4] [.box [.id,.id,.id,.id,.id,.id],.bG (ca 2 aX (a6++[(List.replicate a2.toNat (⟨false,([]:List Int)⟩:bq):List bq)])),.bG (af 1 (bn 1 0 2) al),.pure,.pure] (ba [0,4,5,6,7,8,34,35,51,52,53]),(HJ dF cV dV dM dU aY df a6.length (a2.toNat) cb (len_ eI cb) aG aE al aj aH cc).fc,.ax (ah 7 (an (bp 1 (.agg (aX c5)) false) (an (.gh (ae.mk 2 (li.map aX) .live) []) (an (.gh (ae.mk 2 (li.map aX) .live) (aX ms)) [])))),.ax (ah 9 (an (.b9 (eI gf)) (ah 1 (an (bp 1 (.agg (aX fb)) false) (an (.gh (ae.mk 2 (oR.map aX) .live) []) (an (.gh (ae.mk 2 (oR.map aX) .live) (aX vf)) [])))))),.ax (ah 6 (an (.kf 93 (lB 1 0 2 (some (a6.length,a2.toNat))) .none) (an (.aJ (d9.length)) (ah 3 [])))),.ax (bt 12 (.aJ (cJ.length)) 3),(J 2),.aO [0,36,1,52,4] [.box [.id,.id,.id,.id,.id,.id],.bG (af 1 (bn 2 0 2) d9),.bG (ca 2 aX ((cc.set a6.length (li.set (0+bO.toNat) c5)).set a6.length (oR.set (0+aY.toNat) fb))),.cA (af 1 eI cJ),.pure] (ba [0,4,5,34,35])]) (aU.aJ (.bk aZ (MZ cb bl) (m8 (cd:=(cH [0,2,1,3,4])) (DU (gg .live 2 aX a6) (D3 rL 10 2 (a6.length+0) (lF aX a2.toNat (⟨false,([]:List Int)⟩:bq)) (D4 10 2 (a6.length+0)))) (mj e7)) (ez (cH [0,2,1,3,4]) 1 2 0 2 rfl al) (aK 1 .live aQ aj) (aK 1 .live eW aH) (V1 cQ) (rI c5 eV) (.bk fM fR.1 fR.2 fM (bX aX hr) ab.1 (cU eI ab.2) (bX eI az) (.bk (rI fb gz) (jX q1 i5 gY) jw.1 jw.2 (jX q1 i5 gY) (bX aX yD) (.s2 1 0 2 a6.length (a2.toNat):kk (.bm 1 (a6.length+0) 0 (a2.toNat)) (lB 1 0 2 (some (a6.length,a2.toNat)))) (gv (bn 1 0 2) (some (a6.length,a2.toNat))) (.bk (gO (bn 1 0 2) al) (gw (bn 1 0 2) al (some (a6.length,a2.toNat))) qW (gv eI bO) (gO eI aj) (gw eI aj bO) BM (c7 (rA (cd:=b4) 1 .live (bn 2 0 2) (gS (bn 1 0 2) al (some (a6.length,a2.toNat))) (s9 (rfl:b4 1=some 2))) (o1 (cd:=b4))) (.da (m8 (cd:=b4) (o0 q1 a6.length (qo (cX aX oR) (0+aY.toNat) fb (rfl:(setCells (aX vf) 0 (aX fb))=aX fb))) (mj e7)) (cY 1 .live (gS eI aj bO)) (aK 1 .live aQ cJ) (aK 1 .live eW aH)))))))))
  (fun aZ =>
  .au fun cb bl =>
  .au fun cc cQ =>
  .au fun c5 eV =>
  .au fun li eB =>
  .a0 fun fR =>
  .au fun ms hr =>
  .au fun fb gz =>
  .au fun oR gY =>
  .a0 fun jw =>
  .au fun vf yD =>
  .a0 fun qW =>
  .a0 fun BM =>
  .ret (let hG:=(R (aY+(1:Int)));let jx:=R (cV+df);let eG:=(o0 (gg .live 2 aX cc) a6.length (qo (cX aX li) (0+jx.toNat) c5 (rfl:(setCells (aX ms) 0 (aX c5))=aX c5)));let jy:=cH [0,36,1,52,4];let mq:=(aj++([jx]:List Int));let iJ:=(al++([(some (a6.length,hG.toNat))]:List bx));let qS:=jX (gg .live 2 aX cc) i5 eB;bi (t1.append [.aa false,.ax (bt 2 (bp 2 (.isl 1 (cb.map eI)) false) 2),.aO [0,2,1,3,4] [.box [.id,.id,.id,.id,.id,.id],.bG (ca 2 aX (a6++[(List.replicate hG.toNat (⟨false,([]:List Int)⟩:bq):List bq)])),.bG (af 1 (bn 1 0 2) al),.pure,.pure] (ba [0,4,5,6,7,8,34,35,51,52,53]),(HK dF cV dV dM dU aY df a6.length (hG.toNat) cb (len_ eI cb) aG aE al aj aH cc).fc,.ax (ah 7 (an (bp 1 (.agg (aX c5)) false) (an (.gh (ae.mk 2 (li.map aX) .live) []) (an (.gh (ae.mk 2 (li.map aX) .live) (aX ms)) [])))),.ax (ah 9 (an (.b9 (eI gf)) (ah 1 (an (bp 1 (.agg (aX fb)) false) (an (.gh (ae.mk 2 (oR.map aX) .live) []) (an (.gh (ae.mk 2 (oR.map aX) .live) (aX vf)) [])))))),.ax (ah 6 (an (.kf 93 (lB 1 0 2 (some (a6.length,hG.toNat))) .none) (an (.aJ (iJ.length)) (ah 3 [])))),.ax (bt 12 (.aJ (mq.length)) 3),(J 2),.aO [0,36,1,52,4] [.box [.id,.id,.id,.id,.id,.id],.bG (af 1 (bn 2 0 2) iJ),.bG (ca 2 aX ((cc.set a6.length (li.set (0+jx.toNat) c5)).set a6.length (oR.set (0+aY.toNat) fb))),.cA (af 1 eI mq),.pure] (ba [0,4,5,34,35])]) (aU.aJ (.bk aZ (MZ cb bl) (m8 (cd:=(cH [0,2,1,3,4])) (DU (gg .live 2 aX a6) (D3 rL 10 2 (a6.length+0) (lF aX hG.toNat (⟨false,([]:List Int)⟩:bq)) (D4 10 2 (a6.length+0)))) (mj e7)) (ez (cH [0,2,1,3,4]) 1 2 0 2 rfl al) (aK 1 .live aQ aj) (aK 1 .live eW aH) (V2 cQ) (rI c5 eV) (.bk qS fR.1 fR.2 qS (bX aX hr) ab.1 (cU eI ab.2) (bX eI az) (.bk (rI fb gz) (jX eG i5 gY) jw.1 jw.2 (jX eG i5 gY) (bX aX yD) (.s2 1 0 2 a6.length (hG.toNat):kk (.bm 1 (a6.length+0) 0 (hG.toNat)) (lB 1 0 2 (some (a6.length,hG.toNat)))) (gv (bn 1 0 2) (some (a6.length,hG.toNat))) (.bk (gO (bn 1 0 2) al) (gw (bn 1 0 2) al (some (a6.length,hG.toNat))) qW (gv eI jx) (gO eI aj) (gw eI aj jx) BM (c7 (rA (cd:=jy) 1 .live (bn 2 0 2) (gS (bn 1 0 2) al (some (a6.length,hG.toNat))) (s9 (rfl:jy 1=some 2))) (o1 (cd:=jy))) (.da (m8 (cd:=jy) (o0 eG a6.length (qo (cX aX oR) (0+aY.toNat) fb (rfl:(setCells (aX vf) 0 (aX fb))=aX fb))) (mj e7)) (cY 1 .live (gS eI aj jx)) (aK 1 .live aQ mq) (aK 1 .live eW aH)))))))))))
  (fun h1 =>
  .ret (bi [(J 1),.aa false,.aO [0,1,2,3,4] [.box [.id,.id,.id,.id,.id,.id],.bG (af 1 (bn 2 0 2) al),.bG (ca 2 aX a6),.pure,.pure] (ba [0,4,5])] (.dl h1 (ez (cH [0,1,2,3,4]) 2 2 0 2 rfl al) (dD (cH [0,1,2,3,4]) 2 e7 a6) (aK 1 .live aQ aj) (aK 1 .live eW aH))))
theorem V3 {dF cV:Int}{dV dM dU:List Int}{aY:Int}{aG:Bool}{aE:List Int}{aH:List Bool}{df:Int}{al:List bx}{a6:List (List bq)}{aj:List Int}{r} (h:CU dF cV dV dM dU aY aG aE aH df al a6 aj=some r):dR a9 205 0 47 [1,1,1,0,1,0,0] (Hg dF cV dV dM dU aY aG aE aH) (HL dF cV dV dM dU aY aG aE aH) (df,al,a6,aj) r:=dS (fun _=>Uy) h
def Hh (dF cV:Int)(dV dM dU:List Int)(aY ov:Int)(aG:Bool)(aE:List Int)(aA:List bx)(dg:List (List bq))(aH:List Int):(Int×(List Int)×(List Bool))→S:=fun (gJ,al,bE)=>dm [(0,.eb 5 [[.n .i64 dF,.n .i64 cV,.isl 1 (dV.map eI),.isl 1 (dM.map eI),.isl 1 (dU.map eI)]] 0 0),(4,.n .i64 aY),(5,.ref 0 0 0 0),(11,.bm 1 0 0 al.length),(117,.n .i64 ov),(118,.n .i64 gJ)] [[ae.mk 6 [(fZ 2 0 0 aA.length aG aE 4 0 0 aH.length aY 5 0 0 bE.length)] .live],(af 1 eI al),(af 1 (bn 3 0 2) aA),(ca 2 aX dg),(af 1 eI aH),(af 1 eh bE)]
def HM (dF cV:Int)(dV dM dU:List Int)(aY ov:Int)(aG:Bool)(aE:List Int)(aA:List bx)(dg:List (List bq))(aH:List Int):((List Int)×(List Bool))→dp
 | a=>⟨some 4,[(0,.eb 5 [[.n .i64 dF,.n .i64 cV,.isl 1 (dV.map eI),.isl 1 (dM.map eI),.isl 1 (dU.map eI)]] 0 0),(4,.n .i64 aY),(5,.ref 0 0 0 0),(11,.bm 1 0 0 a.1.length)],[[ae.mk 6 [(fZ 2 0 0 aA.length aG aE 4 0 0 aH.length aY 5 0 0 a.2.length)] .live],(af 1 eI a.1),(af 1 (bn 3 0 2) aA),(ca 2 aX dg),(af 1 eI aH),(af 1 eh a.2)]⟩
def wI (dF cV:Int)(dV dM dU:List Int)(aY ov:Int)(aG:Bool)(aE:List Int)(aA:List bx)(dg:List (List bq))(aH:List Int)(gJ:Int)(al:List Int)(bE:List Bool):Option ((Int×(List Int)×(List Bool))⊕((List Int)×(List Bool))) :=
 if (decide (gJ<ov))=true then
  if 0≤gJ∧gJ<(bE.length:Nat) then
  if (0+gJ.toNat)<bE.length then
  if (decide (cV≤gJ))=true then
   if 0≤gJ∧gJ<(al.length:Nat) then
   if (0+gJ.toNat)<al.length then
   some (.inl (R (gJ+(1:Int)),al.set (0+gJ.toNat) (-1),bE.set (0+gJ.toNat) (decide (gJ<cV))))
   else none
   else none
  else
   some (.inl (R (gJ+(1:Int)),al,bE.set (0+gJ.toNat) (decide (gJ<cV))))
  else none
  else none
 else
  some (.inr (al,bE))
def CV (dF cV:Int)(dV dM dU:List Int)(aY ov:Int)(aG:Bool)(aE:List Int)(aA:List bx)(dg:List (List bq))(aH:List Int)(gJ:Int)(al:List Int)(bE:List Bool):Option ((List Int)×(List Bool)):=iter (fun w:Int×(List Int)×(List Bool)=>wI dF cV dV dM dU aY ov aG aE aA dg aH w.1 w.2.1 w.2.2) (gJ,al,bE)
theorem Uz {dF cV:Int}{dV dM dU:List Int}{aY ov:Int}{aG:Bool}{aE:List Int}{aA:List bx}{dg:List (List bq)}{aH:List Int}{gJ:Int}{al:List Int}{bE:List Bool}:bz (wI dF cV dV dM dU aY ov aG aE aA dg aH gJ al bE) (dQ a9 205 0 47 [1,1,1,1,1,0,1,0,0] (Hh dF cV dV dM dU aY ov aG aE aA dg aH (gJ,al,bE)) (Hh dF cV dV dM dU aY ov aG aE aA dg aH) (HM dF cV dV dM dU aY ov aG aE aA dg aH)):=by
 unfold wI
 exact .ite (fun h1 =>
  .a0 fun o =>
  .a0 fun ab =>
  (let t1:List b2:=[(J 1),.aa true,(J 2),.ax (ah 12 (an .fP [])),(J 6)];
  have aU:=((.dl h1 o.1 o.2 (hE eh ab) (hz 1)):cr _);
  .ite (fun av =>
  .a0 fun az =>
  .a0 fun aZ =>
  .ret (let q1:=cH [0,1,2,3,4,5];bi (t1.append [.aa true,.ax (ah 3 (an .fP [])),(J 2),.aO [0,1,2,3,4,5] [.box [.id,.id,.id,.id,.id,.len ((bE.set (0+gJ.toNat) (decide (gJ<cV))).length)],.cA (af 1 eI (al.set (0+gJ.toNat) (-1))),.bG (af 1 (bn 3 0 2) aA),.bG (ca 2 aX dg),.pure,.cA (af 1 eh (bE.set (0+gJ.toNat) (decide (gJ<cV))))] [(0,ii),(4,ii),(5,ii),(11,fV ((al.set (0+gJ.toNat) (-1)).length)),(117,ii),(118,ii)]]) (aU.aJ (.bk av az.1 az.2 (hE eI aZ) (hz 1) (hU (dJ bE) (0+gJ.toNat) (decide (gJ<cV))) (cY 1 .live (gI (cX eI al) (0+gJ.toNat) (-1))) (aK 1 .live aQ (al.set (0+gJ.toNat) (-1))) (.dT (ez q1 3 3 0 2 rfl aA) (dD q1 2 e7 dg) (aK 1 .live aQ aH) (cY 1 .live (gI (cX eh bE) (0+gJ.toNat) (decide (gJ<cV)))) (aK 1 .live eW (bE.set (0+gJ.toNat) (decide (gJ<cV)))) (hU (dJ al) (0+gJ.toNat) (-1)))))))
  (fun av =>
  .ret (let a2:=cH [0,1,2,3,4,5];bi (t1.append [.aa false,(J 2),.aO [0,1,2,3,4,5] [.box [.id,.id,.id,.id,.id,.len ((bE.set (0+gJ.toNat) (decide (gJ<cV))).length)],.pure,.bG (af 1 (bn 3 0 2) aA),.bG (ca 2 aX dg),.pure,.cA (af 1 eh (bE.set (0+gJ.toNat) (decide (gJ<cV))))] (ba [0,4,5,11,117,118])]) (aU.aJ (.gD av (hU (dJ bE) (0+gJ.toNat) (decide (gJ<cV))) (aK 1 .live aQ al) (ez a2 3 3 0 2 rfl aA) (dD a2 2 e7 dg) (aK 1 .live aQ aH) (cY 1 .live (gI (cX eh bE) (0+gJ.toNat) (decide (gJ<cV)))) (aK 1 .live eW (bE.set (0+gJ.toNat) (decide (gJ<cV))))))))))
  (fun h1 =>
  .ret (let bO:=cH [0,1,2,3,4,5];bi [(J 1),.aa false,.aO [0,1,2,3,4,5] [.box [.id,.id,.id,.id,.id,.id],.pure,.bG (af 1 (bn 3 0 2) aA),.bG (ca 2 aX dg),.pure,.pure] (ba [0,4,5,11])] (.dT h1 (aK 1 .live aQ al) (ez bO 3 3 0 2 rfl aA) (dD bO 2 e7 dg) (aK 1 .live aQ aH) (aK 1 .live eW bE))))
theorem V4 {dF cV:Int}{dV dM dU:List Int}{aY ov:Int}{aG:Bool}{aE:List Int}{aA:List bx}{dg:List (List bq)}{aH:List Int}{gJ:Int}{al:List Int}{bE:List Bool}{r} (h:CV dF cV dV dM dU aY ov aG aE aA dg aH gJ al bE=some r):dR a9 205 0 47 [1,1,1,1,1,0,1,0,0] (Hh dF cV dV dM dU aY ov aG aE aA dg aH) (HM dF cV dV dM dU aY ov aG aE aA dg aH) (gJ,al,bE) r:=dS (fun _=>Uz) h
def Hi (dF cV:Int)(dV dM dU:List Int)(aY ow:Int)(aG:Bool)(aE:List Int)(br:Int)(al:List Int)(aA:List bx)(dg:List (List bq))(aH:List Bool):Int→S:=fun mH=>dm [(0,.eb 5 [[.n .i64 dF,.n .i64 cV,.isl 1 (dV.map eI),.isl 1 (dM.map eI),.isl 1 (dU.map eI)]] 0 0),(4,.n .i64 aY),(5,.ref 0 0 0 0),(149,.bm 1 0 0 al.length),(150,.n .i64 ow),(151,.n .i64 mH)] [[ae.mk 6 [(fZ 2 0 0 aA.length aG aE 1 0 0 al.length br 4 0 0 aH.length)] .live],(af 1 eI al),(af 1 (bn 3 0 2) aA),(ca 2 aX dg),(af 1 eh aH)]
def HN (dF cV:Int)(dV dM dU:List Int)(aY ow:Int)(aG:Bool)(aE:List Int)(br:Int)(al:List Int)(aA:List bx)(dg:List (List bq))(aH:List Bool):((Unit)⊕(Unit))→dp
 | .inl a=>⟨some 6,[(0,.eb 5 [[.n .i64 dF,.n .i64 cV,.isl 1 (dV.map eI),.isl 1 (dM.map eI),.isl 1 (dU.map eI)]] 0 0),(5,.ref 0 0 0 0)],[[ae.mk 6 [(fZ 1 0 0 aA.length aG aE 3 0 0 al.length br 4 0 0 aH.length)] .live],(af 1 (bn 2 0 2) aA),(ca 2 aX dg),(af 1 eI al),(af 1 eh aH)]⟩
 | .inr a=>⟨none,[(2,.hY),(3,.b false)],[]⟩
def wJ (dF cV:Int)(dV dM dU:List Int)(aY ow:Int)(aG:Bool)(aE:List Int)(br:Int)(al:List Int)(aA:List bx)(dg:List (List bq))(aH:List Bool)(mH:Int):Option ((Int)⊕((Unit)⊕(Unit))) :=
 if (decide (mH<ow))=true then
  if 0≤mH∧mH<(al.length:Nat) then
  al[(0+mH.toNat)]? >>= fun aI =>
  if (decide (cV≤aI))=true then
   if 0≤mH∧mH<(aA.length:Nat) then
   aA[(0+mH.toNat)]? >>= fun fl =>
   fl >>= fun lW =>
   dg[lW.1]? >>= fun ED =>
   if 0≤aY∧aY<(lW.2:Nat) then
   ED[(0+aY.toNat)]? >>= fun LH =>
   oV LH >>= fun eD =>
   if (decide ((0:Int)<eD))=true then
    some (.inr (.inr ()))
   else
    some (.inl (R (mH+(1:Int))))
   else none
   else none
  else
   some (.inl (R (mH+(1:Int))))
  else none
 else
  some (.inr (.inl ()))
def CW (dF cV:Int)(dV dM dU:List Int)(aY ow:Int)(aG:Bool)(aE:List Int)(br:Int)(al:List Int)(aA:List bx)(dg:List (List bq))(aH:List Bool)(mH:Int):Option ((Unit)⊕(Unit)):=iter (fun w:Int=>wJ dF cV dV dM dU aY ow aG aE br al aA dg aH w) mH
theorem UA {dF cV:Int}{dV dM dU:List Int}{aY ow:Int}{aG:Bool}{aE:List Int}{br:Int}{al:List Int}{aA:List bx}{dg:List (List bq)}{aH:List Bool}{mH:Int}:bz (wJ dF cV dV dM dU aY ow aG aE br al aA dg aH mH) (dQ a9 205 0 47 [1,1,1,1,1,1,1,0,1,0,0] (Hi dF cV dV dM dU aY ow aG aE br al aA dg aH mH) (Hi dF cV dV dM dU aY ow aG aE br al aA dg aH) (HN dF cV dV dM dU aY ow aG aE br al aA dg aH)):=by
 unfold wJ
 exact .ite (fun h1 =>
  .a0 fun o =>
  .au fun aI av =>
  (let t1:List b2:=[(J 1),.aa true,.ax (bt 2 (.b9 (eI aI)) 2)];
  .ite (fun az =>
  .a0 fun aZ =>
  .au fun fl bl =>
  .au fun lW cQ =>
  .au fun ED eV =>
  .a0 fun et =>
  .au fun LH fR =>
  .au fun eD hr =>
  (let q1:=jX (gg .live 2 aX dg) i5 eV;let t2:List b2:=t1.append [.ax (ah 13 (an (.b9 ((bn 3 0 2) fl)) (ah 1 (an (.kf 169 (.bm 3 (lW.1+0) 0 lW.2) (.gh (ae.mk 2 (ED.map aX) .live) [])) (an (.gh (ae.mk 2 (ED.map aX) .live) (aX LH)) (an (bp 1 (.n .i64 eD) true) (ah 1 (an (.aa true) []))))))))];
  have fE:=((.bk h1 o.1 o.2 (bX eI av) az az az az (.bk az az aZ.1 aZ.2 az (bX (bn 3 0 2) bl) az az (.bk (l0 (dP:=3) (c:=0) (sz:=2) cQ) q1 et.1 et.2 az q1 (bX aX fR) az (.da (sJ eD hr) (b7.n .i64 eD) az az)))):cr _);
  .ite (fun hs =>
  .ret (bi (t2.append [.aa true,(J 2),.aO [] [] (ba [2,3])]) (fE.aJ (.e1 hs))))
  (fun hs =>
  .ret (bi (t2.append [.aa false,(J 2),.aO [0,1,2,3,4] [.box [.id,.id,.id,.id,.id,.id],.pure,.bG (af 1 (bn 3 0 2) aA),.bG (ca 2 aX dg),.pure] (ba [0,4,5,149,150,151])]) (fE.aJ (.dl hs (aK 1 .live aQ al) (ez (cH [0,1,2,3,4]) 3 3 0 2 rfl aA) (dD (cH [0,1,2,3,4]) 2 e7 dg) (aK 1 .live eW aH)))))))
  (fun az =>
  .ret (bi (t1.append [.ax (ah 7 (cn 12 (an (.aa false) []))),.aa false,(J 2),.aO [0,1,2,3,4] [.box [.id,.id,.id,.id,.id,.id],.pure,.bG (af 1 (bn 3 0 2) aA),.bG (ca 2 aX dg),.pure] (ba [0,4,5,149,150,151])]) (.bk h1 o.1 o.2 (bX eI av) az az az az (.bk az az az az az az az az (.dT az cP (aK 1 .live aQ al) (ez (cH [0,1,2,3,4]) 3 3 0 2 rfl aA) (dD (cH [0,1,2,3,4]) 2 e7 dg) (aK 1 .live eW aH))))))))
  (fun h1 =>
  .ret (bi [(J 1),.aa false,.aO [0,2,3,1,4] [.box [.id,.id,.id,.id,.id,.id],.bG (af 1 (bn 2 0 2) aA),.bG (ca 2 aX dg),.pure,.pure] (ba [0,5])] (.dl h1 (ez (cH [0,2,3,1,4]) 2 3 0 2 rfl aA) (dD (cH [0,2,3,1,4]) 2 e7 dg) (aK 1 .live aQ al) (aK 1 .live eW aH))))
theorem M9 {dF cV:Int}{dV dM dU:List Int}{aY ow:Int}{aG:Bool}{aE:List Int}{br:Int}{al:List Int}{aA:List bx}{dg:List (List bq)}{aH:List Bool}{mH:Int}{r} (h:CW dF cV dV dM dU aY ow aG aE br al aA dg aH mH=some r):dR a9 205 0 47 [1,1,1,1,1,1,1,0,1,0,0] (Hi dF cV dV dM dU aY ow aG aE br al aA dg aH) (HN dF cV dV dM dU aY ow aG aE br al aA dg aH) mH r:=dS (fun _=>UA) h
def Hj (dF cV:Int)(dV dM dU:List Int)(ox:Int)(aG:Bool)(aE:List Int)(br:Int)(al:List bx)(a6:List (List bq))(aj:List Int):(Int×(List Bool))→S:=fun (kx,aH)=>dm [(0,.eb 5 [[.n .i64 dF,.n .i64 cV,.isl 1 (dV.map eI),.isl 1 (dM.map eI),.isl 1 (dU.map eI)]] 0 0),(5,.ref 0 0 0 0),(181,.n .i64 ox),(182,.n .i64 kx)] [[ae.mk 6 [(fZ 1 0 0 al.length aG aE 3 0 0 aj.length br 4 0 0 aH.length)] .live],(af 1 (bn 2 0 2) al),(ca 2 aX a6),(af 1 eI aj),(af 1 eh aH)]
def HO (dF cV:Int)(dV dM dU:List Int)(ox:Int)(aG:Bool)(aE:List Int)(br:Int)(al:List bx)(a6:List (List bq))(aj:List Int):(List Bool)→dp
 | a=>⟨some 8,[(0,.eb 5 [[.n .i64 dF,.n .i64 cV,.isl 1 (dV.map eI),.isl 1 (dM.map eI),.isl 1 (dU.map eI)]] 0 0),(5,.ref 0 0 0 0)],[[ae.mk 6 [(fZ 1 0 0 al.length aG aE 3 0 0 aj.length br 4 0 0 a.length)] .live],(af 1 (bn 2 0 2) al),(ca 2 aX a6),(af 1 eI aj),(af 1 eh a)]⟩
def wK (dF cV:Int)(dV dM dU:List Int)(ox:Int)(aG:Bool)(aE:List Int)(br:Int)(al:List bx)(a6:List (List bq))(aj:List Int)(kx:Int)(aH:List Bool):Option ((Int×(List Bool))⊕((List Bool))) :=
 if (decide (kx<ox))=true then
  if 0≤kx∧kx<(aH.length:Nat) then
  if (0+kx.toNat)<aH.length then
  some (.inl (R (kx+(1:Int)),aH.set (0+kx.toNat) (decide (kx<cV))))
  else none
  else none
 else
  some (.inr aH)
def CX (dF cV:Int)(dV dM dU:List Int)(ox:Int)(aG:Bool)(aE:List Int)(br:Int)(al:List bx)(a6:List (List bq))(aj:List Int)(kx:Int)(aH:List Bool):Option ((List Bool)):=iter (fun w:Int×(List Bool)=>wK dF cV dV dM dU ox aG aE br al a6 aj w.1 w.2) (kx,aH)
theorem UB {dF cV:Int}{dV dM dU:List Int}{ox:Int}{aG:Bool}{aE:List Int}{br:Int}{al:List bx}{a6:List (List bq)}{aj:List Int}{kx:Int}{aH:List Bool}:bz (wK dF cV dV dM dU ox aG aE br al a6 aj kx aH) (dQ a9 205 0 47 [1,1,1,1,1,1,1,1,0,1,0,0] (Hj dF cV dV dM dU ox aG aE br al a6 aj (kx,aH)) (Hj dF cV dV dM dU ox aG aE br al a6 aj) (HO dF cV dV dM dU ox aG aE br al a6 aj)):=by
 unfold wK
 exact .ite (fun h1 =>
  .a0 fun o =>
  .a0 fun ab =>
  .ret (bi [(J 1),.aa true,(J 2),.ax (ah 12 (an .fP [])),(J 2),.aO [0,1,2,3,4] [.box [.id,.id,.id,.id,.id,.len ((aH.set (0+kx.toNat) (decide (kx<cV))).length)],.bG (af 1 (bn 2 0 2) al),.bG (ca 2 aX a6),.pure,.cA (af 1 eh (aH.set (0+kx.toNat) (decide (kx<cV))))] (ba [0,5,181,182])] (.bk h1 o.1 o.2 (hE eh ab) (hz 1) (hU (dJ aH) (0+kx.toNat) (decide (kx<cV))) (ez (cH [0,1,2,3,4]) 2 2 0 2 rfl al) (dD (cH [0,1,2,3,4]) 2 e7 a6) (.bS (aK 1 .live aQ aj) (cY 1 .live (gI (cX eh aH) (0+kx.toNat) (decide (kx<cV)))) (aK 1 .live eW (aH.set (0+kx.toNat) (decide (kx<cV))))))))
  (fun h1 =>
  .ret (bi [(J 1),.aa false,.aO [0,1,2,3,4] [.box [.id,.id,.id,.id,.id,.id],.bG (af 1 (bn 2 0 2) al),.bG (ca 2 aX a6),.pure,.pure] (ba [0,5])] (.dl h1 (ez (cH [0,1,2,3,4]) 2 2 0 2 rfl al) (dD (cH [0,1,2,3,4]) 2 e7 a6) (aK 1 .live aQ aj) (aK 1 .live eW aH))))
theorem V5 {dF cV:Int}{dV dM dU:List Int}{ox:Int}{aG:Bool}{aE:List Int}{br:Int}{al:List bx}{a6:List (List bq)}{aj:List Int}{kx:Int}{aH:List Bool}{r} (h:CX dF cV dV dM dU ox aG aE br al a6 aj kx aH=some r):dR a9 205 0 47 [1,1,1,1,1,1,1,1,0,1,0,0] (Hj dF cV dV dM dU ox aG aE br al a6 aj) (HO dF cV dV dM dU ox aG aE br al a6 aj) (kx,aH) r:=dS (fun _=>UB) h
def zP (cf:hp):Option ((Bool×(List Int)×Int×(List bx)×(List Int)×(List Bool)×(List (List bq)))⊕(Unit)) :=
 oj 1 >>= fun r1 =>
 if 0≤(R (cf.ea+cf.ft))∧(1:Int)*(R (cf.ea+cf.ft))≤281474976710656∧(R (cf.ea+cf.ft))<9223372036854775808 then
 CU cf.ft cf.ea cf.dI cf.el cf.hF (R (cf.ea+cf.ft)) r1.cN r1.cC (List.replicate (R (cf.ea+cf.ft)).toNat false:List Bool) 0 ([]:List bx) ([]:List (List bq)) ([]:List Int) >>= fun bb =>
 if 0≤(R (cf.ea+cf.ft))∧(8:Int)*(R (cf.ea+cf.ft))≤281474976710656∧(R (cf.ea+cf.ft))<9223372036854775808 then
 CV cf.ft cf.ea cf.dI cf.el cf.hF (R (cf.ea+cf.ft)) (((R (cf.ea+cf.ft)).toNat:Nat):Int) r1.cN r1.cC bb.1 bb.2.1 bb.2.2 0 (List.replicate (R (cf.ea+cf.ft)).toNat 0:List Int) (List.replicate (R (cf.ea+cf.ft)).toNat false:List Bool) >>= fun cb =>
 wo r1.cN r1.cC (R (cf.ea+cf.ft)) bb.1 bb.2.1 bb.2.2 cb.2 cb.1 >>= fun cc =>
 CW cf.ft cf.ea cf.dI cf.el cf.hF (R (cf.ea+cf.ft)) ((cc.2.2.2.2.1.length:Nat):Int) cc.2.1 cc.2.2.1 (R (cf.ea+cf.ft)) cc.2.2.2.2.1 bb.1 cc.2.2.2.1 cc.2.2.2.2.2 0 >>= fun c5 =>
 match c5 with
 | .inl ts=>(CX cf.ft cf.ea cf.dI cf.el cf.hF ((cc.2.2.2.2.2.length:Nat):Int) cc.2.1 cc.2.2.1 (R (cf.ea+cf.ft)) bb.1 cc.2.2.2.1 cc.2.2.2.2.1 0 cc.2.2.2.2.2 >>= fun gd =>
  y4 cf.ea cc.2.1 cc.2.2.1 (R (cf.ea+cf.ft)) bb.1 cc.2.2.2.1 cc.2.2.2.2.1 gd >>= fun eD =>
  some (.inl (eD.1,eD.2.1,(R (cf.ea+cf.ft)),eD.2.2.1,eD.2.2.2.2,gd,eD.2.2.2.1)))
 | .inr ts=>(some (.inr ()))
 else none
 else none
set_option maxHeartbeats 4000000 in
theorem Ny {cf:hp}:bz (zP cf) (Sum.elim (fun a=>Con a9 47 [.eb 5 [(nW cf)] 0 0] [] (.dX [.ref 0 0 0 0,.b true]) [(ae.mk 6 [(fZ 0 1 0 a.2.2.2.1.length a.1 a.2.1 0 2 0 a.2.2.2.2.1.length a.2.2.1 0 3 0 a.2.2.2.2.2.1.length)] .live::ae.mk 1 (a.2.2.2.1.map (bn 0 4 2)) .live::ae.mk 1 (a.2.2.2.2.1.map eI) .live::ae.mk 1 (a.2.2.2.2.2.1.map eh) .live::(ca 2 aX a.2.2.2.2.2.2))]) (fun a=>Con a9 47 [.eb 5 [(nW cf)] 0 0] [] (.dX [.hY,.b false]) [])):=by
 unfold zP
 exact .au fun r1 o =>
  .a0 fun ab =>
  .au fun bb az =>
  .a0 fun aZ =>
  .au fun cb bl =>
  .au fun cc cQ =>
  .au fun c5 eV =>
  (let iJ:=R (cf.ea+cf.ft);let qS:=fZ 1 0 0 bb.1.length cc.2.1 cc.2.2.1 3 0 0 cc.2.2.2.2.1.length iJ 4 0 0 cc.2.2.2.2.2.length;let BK:=fZ 2 0 0 bb.1.length cc.2.1 cc.2.2.1 4 0 0 cc.2.2.2.2.1.length iJ 5 0 0 cc.2.2.2.2.2.length;let rv:=(List.replicate iJ.toNat false:List Bool);let tu:=cH [17,24,25,26,15];let BL:=fZ 1 0 0 bb.1.length r1.cN r1.cC 3 0 0 bb.2.2.length iJ 4 0 0 cb.2.length;let yz:=fZ 2 0 0 bb.1.length r1.cN r1.cC 4 0 0 bb.2.2.length iJ 5 0 0 cb.2.length;let vd:=ca 2 aX cc.2.2.2.1;let yA:=(List.replicate iJ.toNat 0:List Int);let yB:=af 1 (bn 3 0 2) bb.1;let tt:=pc [0,2,3,4,5,1];let yC:=jK [0,2,3,4,5,1];let R0:=af 1 (bn 2 0 2) bb.1;let R1:=cH [0,6,1,2,3,4];let t1:List b2:=[(J 2),(J 10),.ax (bt 1 (bp 1 (.agg (aX r1)) false) 5),(J 5),.ru 17 0 1,.Ev,.ru 17 3 1,.aO [17,24,25,26,15] [.box [.len (([]:List bx).length),.id,.id,.len (([]:List Int).length),.id,.len (rv.length)],.bG (af 1 (bn 2 0 2) ([]:List bx)),.bG (ca 2 aX ([]:List (List bq))),.cA (af 1 eI ([]:List Int)),.cA (af 1 eh rv)] (ba [0,4,5,34,35]),(HL cf.ft cf.ea cf.dI cf.el cf.hF iJ r1.cN r1.cC rv bb).fc,(J 3),(J 3),.aO [0,6,1,2,3,4] [.box [.id,.id,.id,.id,.id,.id],.cA (af 1 eI yA),.bG yB,.bG (ca 2 aX bb.2.1),.pure,.pure] [(0,ii),(4,ii),(5,ii),(11,fV (yA.length)),(117,ii),(118,ii)],(HM cf.ft cf.ea cf.dI cf.el cf.hF iJ ((iJ.toNat:Nat):Int) r1.cN r1.cC bb.1 bb.2.1 bb.2.2 cb).fc,.ax (ah 2 (an (.call {a1:=(u9 [0,2,3,4,5,1]),dt:=[.bG [ae.mk 6 [BL] .live],.bG R0,.bG (ca 2 aX bb.2.1),.pure,.pure,.pure],ac:=[ii,ii],r:= .b cc.1,fy:=[[ae.mk 6 [qS] .live],R0,vd,(af 1 eI cc.2.2.2.2.1),(af 1 eh cc.2.2.2.2.2),(af 1 eI cb.1)],ik:=ii,kn:=[.bG [ae.mk 6 [BK] .live],.bG yB,.bG vd,.pure,.pure,.pure],fI:=[0,1,2,3,4,5],fB:=false}) [])),(J 6),.aO [0,4,2,3,5] [.box [.id,.id,.id,.id,.id,.id],.pure,.bG yB,.bG vd,.pure] (ba [0,4,5,149,150,151])];
  have aU:=((.bk (rI r1 o) ab.1 (Int.le_refl iJ) ab.2.1 ab.2.2 (eZ bx) (eZ Int) (lZ iJ.toNat (false:Bool)) (.bk (c7 (rA (cd:=tu) 1 .live (bn 2 0 2) (m0 (bn 25 0 2)) (s9 (rfl:tu 25=some 2))) (o1 (cd:=tu))) (m8 (cd:=tu) (Qp .live 2 aX) (mj e7)) (cY 1 .live (m0 eI)) (aK 1 .live aQ ([]:List Int)) (cY 1 .live (lF eh iJ.toNat false)) (aK 1 .live eW rv) (V3 az) aZ.1 (.bk (Int.le_refl iJ) aZ.2.1 aZ.2.2 (cY 1 .live (lF eI iJ.toNat 0)) (aK 1 .live aQ yA) (ez R1 3 2 0 2 rfl bb.1) (dD R1 2 e7 bb.2.1) (aK 1 .live aQ bb.2.2) (.bk (aK 1 .live eW rv) (lZ iJ.toNat (0:Int)) (V4 bl) (x1 tt 6 [BL] [yz] rfl) (kF 6 [yz]) (ez tt 2 3 0 2 rfl bb.1) (kF 1 (bb.1.map (bn 3 0 2))) (dD tt 2 e7 bb.2.1) (.bk (tD 2 aX bb.2.1) (iq 1 aQ bb.2.2) (iq 1 eW cb.2) (iq 1 aQ cb.1) (x1 yC 6 [BK] [qS] rfl) (kF 6 [qS]) (ez yC 3 2 0 2 rfl bb.1) (kF 1 (bb.1.map (bn 2 0 2))) (.bk (dD yC 2 e7 cc.2.2.2.1) (tD 2 aX cc.2.2.2.1) (iq 1 aQ cc.2.2.2.2.1) (iq 1 eW cc.2.2.2.2.2) (iq 1 aQ cb.1) (TV cc cQ) (aK 1 .live aQ cc.2.2.2.2.1) (ez (cH [0,4,2,3,5]) 3 3 0 2 rfl bb.1) (.aD (dD (cH [0,4,2,3,5]) 2 e7 cc.2.2.2.1) (aK 1 .live eW cc.2.2.2.2.2)))))))):cr _);
  (by
  rcases c5 with ts|ts
  ·exact (.au fun gd fR =>
  .au fun eD hr =>
  .ret (let b4:=ca 2 aX eD.2.2.2.1;let cJ:=af 1 (bn 2 0 2) eD.2.2.1;let d9:=R (cf.ea+cf.ft);let q1:=fZ 1 0 0 eD.2.2.1.length eD.1 eD.2.1 3 0 0 eD.2.2.2.2.length d9 4 0 0 gd.length;let a2:=fZ 1 0 0 bb.1.length cc.2.1 cc.2.2.1 3 0 0 cc.2.2.2.2.1.length d9 4 0 0 gd.length;let bO:=fZ 0 1 0 eD.2.2.1.length eD.1 eD.2.1 0 2 0 eD.2.2.2.2.length d9 0 3 0 gd.length;let fM:=pc [0,1,2,3,4];let eG:=jK [0,1,2,3,4];let hG:=af 1 (bn 0 4 2) eD.2.2.1;let jx:=ca 2 aX cc.2.2.2.1;let jy:=af 1 (bn 2 0 2) bb.1;let mq:=cH [0];lT (t1.append [(HN cf.ft cf.ea cf.dI cf.el cf.hF d9 ((cc.2.2.2.2.1.length:Nat):Int) cc.2.1 cc.2.2.1 d9 cc.2.2.2.2.1 bb.1 cc.2.2.2.1 cc.2.2.2.2.2 (.inl ts)).fc,(J 6),.aO [0,1,2,3,4] [.box [.id,.id,.id,.id,.id,.id],.bG jy,.bG jx,.pure,.pure] (ba [0,5,181,182]),(HO cf.ft cf.ea cf.dI cf.el cf.hF ((cc.2.2.2.2.2.length:Nat):Int) cc.2.1 cc.2.2.1 d9 bb.1 cc.2.2.2.1 cc.2.2.2.2.1 gd).fc,.ax (ah 5 (an (.call {a1:=(u9 [0,1,2,3,4]),dt:=[.bG [ae.mk 6 [a2] .live],.bG jy,.bG jx,.pure,.pure],ac:=[ii,ii],r:= .dX [],fy:=[[ae.mk 6 [q1] .live],cJ,b4,(af 1 eI eD.2.2.2.2),(af 1 eh gd)],ik:=ii,kn:=[.bG [ae.mk 6 [q1] .live],.bG cJ,.bG b4,.pure,.pure],fI:=[0,1,2,3,4],fB:=false}) [])),(J 3),.BH [{bJ:=[(0,0),(1,0),(3,0),(4,0)],iA:=some (2,0)}] [([.box [.at_ 0 1 eD.2.2.1.length,.id,.id,.at_ 0 2 eD.2.2.2.2.length,.id,.at_ 0 3 gd.length],.rx hG,.pure,.pure],some (.rx b4))] [(2,.bu (.di (.at_ 0 0 0))),(3,ii)]]) [0] [.bG (ae.mk 6 [bO] .live::ae.mk 1 (eD.2.2.1.map (bn 0 4 2)) .live::ae.mk 1 (eD.2.2.2.2.map eI) .live::ae.mk 1 (gd.map eh) .live::b4)] (aU.aJ (.bk (M9 eV) (ez (cH [0,1,2,3,4]) 2 2 0 2 rfl bb.1) (dD (cH [0,1,2,3,4]) 2 e7 cc.2.2.2.1) (aK 1 .live aQ cc.2.2.2.2.1) (aK 1 .live eW cc.2.2.2.2.2) (V5 fR) (x1 fM 6 [a2] [a2] rfl) (kF 6 [a2]) (.bk (ez fM 2 2 0 2 rfl bb.1) (kF 1 (bb.1.map (bn 2 0 2))) (dD fM 2 e7 cc.2.2.2.1) (tD 2 aX cc.2.2.2.1) (iq 1 aQ cc.2.2.2.2.1) (iq 1 eW gd) (x1 eG 6 [q1] [q1] rfl) (kF 6 [q1]) (.bk (ez eG 2 2 0 2 rfl eD.2.2.1) (kF 1 (eD.2.2.1.map (bn 2 0 2))) (dD eG 2 e7 eD.2.2.2.1) (tD 2 aX eD.2.2.2.1) (iq 1 aQ eD.2.2.2.2) (iq 1 eW gd) (Uv eD hr) (rfl:(kD [{bJ:=[(0,0),(1,0),(3,0),(4,0)],iA:=some (2,0)}]) 0 1=some (1,0)) (.bk (rfl:eD.2.2.1.length=eD.2.2.1.length) (rfl:(kD [{bJ:=[(0,0),(1,0),(3,0),(4,0)],iA:=some (2,0)}]) 0 2=some (3,0)) (rfl:eD.2.2.2.2.length=eD.2.2.2.2.length) (rfl:(kD [{bJ:=[(0,0),(1,0),(3,0),(4,0)],iA:=some (2,0)}]) 0 3=some (4,0)) (rfl:gd.length=gd.length) (PX (KD (j1:=(bn 0 4 2)) (cX (bn 2 0 2) eD.2.2.1) (fun _=>rfl) (fun x=>(QY (fun _=>rfl)) x)) Qr:rr (kD [{bJ:=[(0,0),(1,0),(3,0),(4,0)],iA:=some (2,0)}]) cJ hG) (aK 1 .live aQ eD.2.2.2.2) (aK 1 .live eW gd) (.bS (PZ (gg .live 2 aX eD.2.2.2.1) (fun _=>rfl) e7:rr (kD [{bJ:=[(0,0),(1,0),(3,0),(4,0)],iA:=some (2,0)}]) b4 b4) (rfl:(kD [{bJ:=[(0,0),(1,0),(3,0),(4,0)],iA:=some (2,0)}]) 0 0=some (0,0)) (c7 (show ae.mk 6 [bO] .live=gH mq (ae.mk 6 [bO] .live) from rfl) (c7 (k1 mq 0 0 4 2 rfl eD.2.2.1) (c7 (fX mq 1 kA eD.2.2.2.2) (c7 (fX mq 1 QX gd) (dD mq 2 e7 eD.2.2.2.1))))))))))) (.comp [.di .id,.di .id])))
  ·exact (.ret (lT (t1.append [.sub (.ret) [(2,.hY),(3,.b false)] []]) [] [] (aU.aJ (.e1 (M9 eV)))))))
def sH (aL:ct)(bY:List Int):Option Bool :=
 yS aL bY 0 0 >>= fun r1 =>
 zP r1 >>= fun bj =>
 match bj with
 | .inl fS=>(some true)
 | .inr fS=>(some false)
theorem MB {aL:ct}{bY:List Int}:bz (sH aL bY) (fun r=>Con a9 29 [.eb 2 [(gE aL)] 0 0,.isl 1 (bY.map eI)] [] (.b r) []):=by
 unfold sH
 exact .au fun r1 o =>
  .au fun bj av =>
  (let t1:List b2:=[(J 1),.ax (bt 2 (bp 4 (.agg (nW r1)) false) 2),.iO 4];
  have aU:=((.aD (To r1 o) (pR (Xe r1):jo [(nW r1)])):cr _);
  (by
  rcases bj with fS|fS
  ·exact (.ret (let q1:=fZ 0 1 0 fS.2.2.2.1.length fS.1 fS.2.1 0 2 0 fS.2.2.2.2.1.length fS.2.2.1 0 3 0 fS.2.2.2.2.2.1.length;let a2:=fZ 6 1 0 fS.2.2.2.1.length fS.1 fS.2.1 6 2 0 fS.2.2.2.2.1.length fS.2.2.1 6 3 0 fS.2.2.2.2.2.1.length;let bO:=ca 2 aX fS.2.2.2.2.2.2;bw (t1.append [.ax (an (.call {a1:=[],dt:=[],ac:=[.bu (.ptr [.id,.id,.id,.id,.id])],r:= .dX [.ref 0 0 0 0,.b true],fy:=[(ae.mk 6 [q1] .live::ae.mk 1 (fS.2.2.2.1.map (bn 0 4 2)) .live::ae.mk 1 (fS.2.2.2.2.1.map eI) .live::ae.mk 1 (fS.2.2.2.2.2.1.map eh) .live::bO)],ik:= .comp [.di .id,.di .id],kn:=[.bG (ae.mk 6 [a2] .live::ae.mk 1 (fS.2.2.2.1.map (bn 6 4 2)) .live::ae.mk 1 (fS.2.2.2.2.1.map eI) .live::ae.mk 1 (fS.2.2.2.2.2.1.map eh) .live::bO)],fI:=[4],fB:=false}) (ah 5 [])),(J 2)]) (aU.aJ (.bS (c7 (show ae.mk 6 [a2] .live=gH (jK [6]) (ae.mk 6 [q1] .live) from rfl) (c7 (k1 (jK [6]) 6 0 4 2 rfl fS.2.2.2.1) (c7 (fX (jK [6]) 1 kA fS.2.2.2.2.1) (c7 (fX (jK [6]) 1 QX fS.2.2.2.2.2.1) (dD (jK [6]) 2 e7 fS.2.2.2.2.2.2))))) ((jL rfl (jL rfl (jL rfl (jL rfl (uw (gg .live 2 aX fS.2.2.2.2.2.2)))))):mi (ae.mk 6 [q1] .live::ae.mk 1 (fS.2.2.2.1.map (bn 0 4 2)) .live::ae.mk 1 (fS.2.2.2.2.1.map eI) .live::ae.mk 1 (fS.2.2.2.2.2.1.map eh) .live::bO)) (Ny (.inl fS) av)))))
  ·exact (.ret (bw (t1.append [.ax (an (.call {a1:=[],dt:=[],ac:=[.bu (.ptr [.id,.id,.id,.id,.id])],r:= .dX [.hY,.b false],fy:=[],ik:=ii,kn:=[],fI:=[4],fB:=false}) (ah 5 [])),(J 2)]) (aU.aJ (.e1 (Ny (.inr fS) av)))))))
def C3 (aL:ct)(bY:List Int):Option Bool :=
 sR aL bY >>= fun r1 =>
 if r1=true then
  sH aL bY >>= fun bb =>
  some bb
 else
  some false
theorem WG {aL:ct}{bY:List Int}:bz (C3 aL bY) (fun r=>Con a9 17 [.agg (gE aL),.isl 1 (bY.map eI)] [] (.b r) []):=by
 unfold C3
 exact .au fun r1 o =>
  (have af:=((.aD (Ja r1 o) (b7.b r1)):cr _);
  .ite (fun ab =>
  .au fun bb az =>
  .ret (bw [(J 2),.ax (ah 2 (an (bp 2 (.b r1) true) (ah 2 (an (.call {ac:=[.bu (.ptr [.id,.id]),ii],r:= .b bb,fB:=true,fI:=[0]}) (an (.aa true) (ah 1 []))))))] (af.aJ (.dT ab ab (pR (za aL):jo [(gE aL)]) (MB bb az) (b7.b bb) ab))))
  (fun ab =>
  .ret (bw [(J 2),.ax (ah 2 (an (bp 2 (.b r1) true) (ah 1 (cn 2 (an (.aa false) (ah 1 []))))))] (af.aJ (.bS ab ab ab)))))
def C4 (aL:List bD):Option (List bD) :=
 if aL.length*40≤140737488355328 then some aL else none
theorem W4:Con a9 78 [.eo] [] (.isl 4 (([]:List bD).map bL)) []:=bw [(J 1),(J 2),.aa true,(J 1)] (.e1 cB) (.bu (.di (.jj 4)))
theorem W5:Con a9 78 [.ib] [] (.isl 4 (([]:List bD).map bL)) []:=(by
 have h:=fun (h1:(([]:List bD)++([]:List bD)).length*40≤140737488355328)=>(bw [(J 1),(J 2),.aa false,.ax (bt 2 (.aJ ((([]:List bD)++([]:List bD)).length)) 1)] (.er cP (m7 (show []=(([]:List bD)).map bL from rfl) (eZ bD)) (lG (eZ bD) (m0 bL):(([]:List bD)++([]:List bD)).length=0+([]:List (List aB)).length) h1 (kR (h6 (show []=(([]:List bD)).map bL from rfl) (eZ bD) (m0 bL)) (dJ (([]:List bD)++([]:List bD)))) (k2 (h6 (show []=(([]:List bD)).map bL from rfl) (eZ bD) (m0 bL)) (dJ (([]:List bD)++([]:List bD)))) (dw mD (([]:List bD)++([]:List bD)))) (.bu (.di (.ek ((([]:List bD)++([]:List bD)).map bL)))):Con a9 78 [.ib] [] (.isl 4 ((([]:List bD)++([]:List bD)).map bL)) [])
 exact h (by decide))
theorem W6 (x:bD)(l:List bD)(h1:(([]:List bD)++(x::l)).length*40≤140737488355328):Con a9 78 [.isl 4 ((x::l).map bL)] [] (.isl 4 ((([]:List bD)++(x::l)).map bL)) []:=bw [(J 1),.ax (ah 1 (an .fP [])),.aa false,.ax (bt 2 (.aJ ((([]:List bD)++(x::l)).length)) 1)] (.gD (by simp:(x::l).map bL≠[]) cP (m7 (show []=(([]:List bD)).map bL from rfl) (eZ bD)) (lG (eZ bD) (cX bL (x::l)):(([]:List bD)++(x::l)).length=0+((x::l).map bL).length) h1 (kR (h6 (show []=(([]:List bD)).map bL from rfl) (eZ bD) (cX bL (x::l))) (dJ (([]:List bD)++(x::l)))) (k2 (h6 (show []=(([]:List bD)).map bL from rfl) (eZ bD) (cX bL (x::l))) (dJ (([]:List bD)++(x::l)))) (dw mD (([]:List bD)++(x::l)))) (.bu (.di (.ek ((([]:List bD)++(x::l)).map bL))))
theorem WH {aL:List bD}:bz (C4 aL) (fun r=>Con a9 78 [.isl 4 (aL.map bL)] [] (.isl 4 (r.map bL)) []):=by
 unfold C4
 refine .a0 fun h=> .ret ?_
 cases aL with
 | nil=>exact .jY W4 W5
 | cons x l =>
  have o:=W6 x l (by simpa using h)
  simpa using o
def FK (hB:List Int)(b3:List bP)(bI:Int)(bK:List bD):(Int×(List bP))→S:=fun (cT,aA)=>dm [(1,.isl 1 (hB.map eI)),(4,.ref 0 0 0 0),(5,.ref 1 0 0 0),(13,.isl 3 (b3.map bU)),(14,.n .i64 bI),(15,.n .i64 cT)] [[ae.mk 2 [[.eo,.eo]] .live],[ae.mk 2 [[.isl 4 (bK.map bL),.bm 2 0 0 aA.length]] .live],(af 3 bU aA)]
def FM (hB:List Int)(b3:List bP)(bI:Int)(bK:List bD):(List bP)→dp
 | a=>⟨some 0,[(4,.ref 0 0 0 0),(5,.ref 1 0 0 0)],[[ae.mk 2 [[.eo,.eo]] .live],[ae.mk 2 [[.isl 4 (bK.map bL),.bm 2 0 0 a.length]] .live],(af 3 bU a)]⟩
def vV (hB:List Int)(b3:List bP)(bI:Int)(bK:List bD)(cT:Int)(aA:List bP):Option ((Int×(List bP))⊕((List bP))) :=
 if (decide (cT<bI))=true then
  if 0≤cT∧cT<b3.length then
  b3[cT.toNat]? >>= fun aI =>
  rP hB cT >>= fun aM =>
  if aM=true then
   some (.inl (R (cT+(1:Int)),aA))
  else
   if (aA++([aI]:List bP)).length*24≤140737488355328 then
   some (.inl (R (cT+(1:Int)),aA++([aI]:List bP)))
   else none
  else none
 else
  some (.inr aA)
def Gz (hB:List Int)(b3:List bP)(bI:Int)(bK:List bD)(cT:Int)(aA:List bP):Option ((List bP)):=iter (fun w:Int×(List bP)=>vV hB b3 bI bK w.1 w.2) (cT,aA)
theorem Tp {hB:List Int}{b3:List bP}{bI:Int}{bK:List bD}{cT:Int}{aA:List bP}:bz (vV hB b3 bI bK cT aA) (dQ a9 32 0 48 [1,1,0,1,0,0] (FK hB b3 bI bK (cT,aA)) (FK hB b3 bI bK) (FM hB b3 bI bK)):=by
 unfold vV
 exact .ite (fun h1 =>
  .a0 fun o =>
  .au fun aI av =>
  .au fun aM aZ =>
  (let t1:List b2:=[(J 1),.aa true,.ax (bt 2 (.b9 (bU aI)) 3),.ax (bt 2 (bp 2 (.b aM) true) 1)];
  have aU:=((.dT h1 o.1 (cU bU o.2) (bX bU av) (Jm aM aZ) (b7.b aM)):cr _);
  .ite (fun bg =>
  .ret (bi (t1.append [.aa false,(J 2),.aO [0,1,2] [.box [.id,.id],.box [.id,.id],.pure] (ba [1,4,5,13,14,15])]) (aU.aJ (.aD (c0 bg) (aK 3 .live lD aA)))))
  (fun bg =>
  .a0 fun bl =>
  .ret (let q1:=(aA++([aI]:List bP));bi (t1.append [.aa true,.ax (bt 4 (.aJ (q1.length)) 2),(J 2),.aO [0,1,18] [.box [.id,.id],.box [.id,.id],.cA (af 3 bU q1)] (ba [1,4,5,13,14,15])]) (aU.aJ (.er (cS bg) (gv bU aI) (gO bU aA) (gw bU aA aI) bl (cY 3 .live (gS bU aA aI)) (aK 3 .live lD q1)))))))
  (fun h1 =>
  .ret (bi [(J 1),.aa false,.aO [0,1,2] [.box [.id,.id],.box [.id,.id],.pure] (ba [4,5])] (.aD h1 (aK 3 .live lD aA))))
theorem T2 {hB:List Int}{b3:List bP}{bI:Int}{bK:List bD}{cT:Int}{aA:List bP}{r} (h:Gz hB b3 bI bK cT aA=some r):dR a9 32 0 48 [1,1,0,1,0,0] (FK hB b3 bI bK) (FM hB b3 bI bK) (cT,aA) r:=dS (fun _=>Tp) h
def wT (aL:ct)(hB:List Int):Option ct :=
 C4 aL.bZ >>= fun r1 =>
 Gz hB aL.bB (len_ bU aL.bB) r1 0 ([]:List bP) >>= fun bj =>
 some (⟨r1,bj⟩:ct)
theorem U0 {aL:ct}{hB:List Int}:bz (wT aL hB) (fun r=>Con a9 48 [.agg (gE aL),.isl 1 (hB.map eI)] [] (.agg (gE r)) []):=by
 unfold wT
 exact .au fun r1 o =>
  .au fun bj av =>
  .ret (bw [(J 2),.ax (bt 2 (bp 1 (.isl 4 (r1.map bL)) false) 3),(J 4),.ru 6 1 3,.aO [1,6,12] [.box [.id,.id],.box [.id,.len (([]:List bP).length)],.cA (af 3 bU ([]:List bP))] (ba [1,4,5,13,14,15]),(FM hB aL.bB (len_ bU aL.bB) r1 bj).fc,(J 2)] (.gD (WH r1 o) (eZ bP) (cY 3 .live (m0 bU)) (aK 3 .live lD ([]:List bP)) (T2 av) (f6 bU bj) (fC bU bj) (dw lD bj)) (.bu (.agg [.id,.ek (bj.map bU)])))
def ue (aL:ct)(bY:List Int)(bs:Int):Option Bool :=
 sR aL bY >>= fun r1 =>
 if r1=true then
  if (decide (bs<(0:Int)))=true then
   some false
  else
   if (decide ((len_ bU aL.bB)≤bs))=true then
    some false
   else
    wT aL ([bs]:List Int) >>= fun cj =>
    sH cj bY >>= fun c4 =>
    some c4
 else
  some false
theorem WI {aL:ct}{bY:List Int}{bs:Int}:bz (ue aL bY bs) (fun r=>Con a9 30 [.agg (gE aL),.isl 1 (bY.map eI),.n .i64 bs] [] (.b r) []):=by
 unfold ue
 exact .au fun r1 o =>
  (have af:=((.aD (Ja r1 o) (b7.b r1)):cr _);
  .ite (fun ab =>
  (have aU:=af.aJ (.bS (c0 ab) (c0 ab) (c0 ab));
  .ite (fun av =>
  .ret (bw [(J 2),.ax (ah 2 (an (bp 2 (.b r1) true) (ah 4 (an (.aa false) (ah 1 (cn 5 (an (.aa true) []))))))),.aa true,(J 1)] (aU.aJ (.er av av av av av av cB))))
  (fun av =>
  (let t3:List b2:=[(J 2),.ax (ah 2 (an (bp 2 (.b r1) true) (ah 4 (an (.aa false) (ah 6 (an (.aa false) []))))))];
  .ite (fun az =>
  .ret (bw (t3.append [.aa true,(J 1)]) (aU.aJ (.er av av av av av av az))))
  (fun az =>
  .au fun cj bg =>
  .au fun c4 cq =>
  .ret (bw (t3.append [.aa false,.ax (bt 3 (.sw 19 (.call {ac:=[ii,.bu (.di (.ek (([bs]:List Int).map eI)))],r:= .agg (gE cj),fB:=false,fI:=[19]})) 2),.ax (bt 1 (.call {ac:=[.bu (.ptr [.id,.id]),ii],r:= .b c4,fB:=true,fI:=[21]}) 1)]) (aU.aJ (.bk av av av av av av az (kR (show [[.n .i64 bs]]=(([bs]:List Int)).map eI from rfl) (show 1=([bs]:List Int).length from rfl)) (.dT (gv eI bs) (dw aQ ([bs]:List Int)) (U0 cj bg) (pR (za cj):jo [(gE cj)]) (MB c4 cq) (b7.b c4))))))))))
  (fun ab =>
  .ret (bw [(J 2),.ax (ah 2 (an (bp 2 (.b r1) true) (ah 2 (cn 2 (an (.aa true) (ah 1 (cn 5 (ah 1 [])))))))),.aa true,(J 1)] (af.aJ (.bk (cS ab) (cS ab) (cS ab) cB cB cB cB cB (.e1 cB))))))
def FC (bY:List Int)(b3:Int)(aG:List bD)(aE:List bP):(Int×(List Int))→S:=fun (bI,al)=>dm [(1,.isl 1 (bY.map eI)),(2,.ref 0 0 0 0),(5,.bm 1 0 0 al.length),(13,.n .i64 b3),(14,.n .i64 bI)] [[ae.mk 2 [[.isl 4 (aG.map bL),.isl 3 (aE.map bU)]] .live],(af 1 eI al)]
def MA (bY:List Int)(b3:Int)(aG:List bD)(aE:List bP):(List Int)→dp
 | a=>⟨some 0,[(5,.bm 0 0 0 a.length)],[(af 1 eI a)]⟩
def vT (bY:List Int)(b3:Int)(aG:List bD)(aE:List bP)(bI:Int)(al:List Int):Option ((Int×(List Int))⊕((List Int))) :=
 if (decide (bI<b3))=true then
  ue (⟨aG,aE⟩:ct) bY bI >>= fun b1 =>
  if b1=true then
   some (.inl (R (bI+(1:Int)),al))
  else
   if (al++([bI]:List Int)).length*8≤140737488355328 then
   some (.inl (R (bI+(1:Int)),al++([bI]:List Int)))
   else none
 else
  some (.inr al)
def Gk (bY:List Int)(b3:Int)(aG:List bD)(aE:List bP)(bI:Int)(al:List Int):Option ((List Int)):=iter (fun w:Int×(List Int)=>vT bY b3 aG aE w.1 w.2) (bI,al)
theorem Tl {bY:List Int}{b3:Int}{aG:List bD}{aE:List bP}{bI:Int}{al:List Int}:bz (vT bY b3 aG aE bI al) (dQ a9 28 0 18 [1,1,1,0,1,0,0] (FC bY b3 aG aE (bI,al)) (FC bY b3 aG aE) (MA bY b3 aG aE)):=by
 unfold vT
 exact .ite (fun h1 =>
  .au fun b1 ab =>
  (let t1:List b2:=[(J 1),.aa true,(J 2),.ax (bt 3 (bp 3 (.b b1) true) 1)];
  have aU:=((.bS h1 (WI b1 ab) (b7.b b1)):cr _);
  .ite (fun av =>
  .ret (bi (t1.append [.aa false,(J 2),.aO [0,1] [.box [.id,.id],.pure] (ba [1,2,5,13,14])]) (aU.aJ (.aD (c0 av) (aK 1 .live aQ al)))))
  (fun av =>
  .a0 fun az =>
  .ret (let q1:=(al++([bI]:List Int));bi (t1.append [.aa true,.ax (bt 3 (.aJ (q1.length)) 1),(J 2),.aO [0,13] [.box [.id,.id],.cA (af 1 eI q1)] (ba [1,2,5,13,14])]) (aU.aJ (.er (cS av) (gv eI bI) (gO eI al) (gw eI al bI) az (cY 1 .live (gS eI al bI)) (aK 1 .live aQ q1)))))))
  (fun h1 =>
  .ret (bi [(J 1),.aa false,.aO [1] [.pure] (ba [5])] (.aD h1 (aK 1 .live aQ al))))
theorem TY {bY:List Int}{b3:Int}{aG:List bD}{aE:List bP}{bI:Int}{al:List Int}{r} (h:Gk bY b3 aG aE bI al=some r):dR a9 28 0 18 [1,1,1,0,1,0,0] (FC bY b3 aG aE) (MA bY b3 aG aE) (bI,al) r:=dS (fun _=>Tl) h
def y5 (aL:ct)(bY:List Int):Option (List Int) :=
 sR aL bY >>= fun r1 =>
 if r1=true then
  Gk bY (len_ bU aL.bB) aL.bZ aL.bB 0 ([]:List Int) >>= fun bb =>
  some bb
 else
  some ([]:List Int)
theorem UC {aL:ct}{bY:List Int}:bz (y5 aL bY) (fun r=>Con a9 18 [.agg (gE aL),.isl 1 (bY.map eI)] [] (.isl 1 (r.map eI)) []):=by
 unfold y5
 exact .au fun r1 o =>
  (let t1:List b2:=[(J 2),.ax (bt 2 (bp 2 (.b r1) true) 1)];
  have aU:=((.aD (Ja r1 o) (b7.b r1)):cr _);
  .ite (fun ab =>
  .au fun bb az =>
  .ret (bw (t1.append [.aa false,(J 1),(J 4),.sd 5 1,.aO [0,11] [.box [.id,.id],.cA (af 1 eI ([]:List Int))] [(1,ii),(2,ii),(5,fV (([]:List Int).length)),(13,ii),(14,ii)],.sub (.exit 0) [(5,.bm 0 0 0 bb.length)] [(af 1 eI bb)],(J 2)]) (aU.aJ (.gD (c0 ab) (cY 1 .live (m0 eI)) (aK 1 .live aQ ([]:List Int)) (eZ Int) (TY az) (f6 eI bb) (fC eI bb) (dw aQ bb))) (.bu (.di (.ek (bb.map eI))))))
  (fun ab =>
  .ret (bw (t1.append [.aa true,(J 1)]) (aU.aJ (.e1 (cS ab))) (.bu (.di (.jj 1))))))
def zF (aL:ct)(bY:List Int):Option Bool :=
 C3 aL bY >>= fun r1 =>
 if r1=true then
  y5 aL bY >>= fun bb =>
  some ((len_ eI bb) == (0:Int))
 else
  some false
theorem WJ {aL:ct}{bY:List Int}:bz (zF aL bY) (fun r=>Con a9 8 [.agg (gE aL),.isl 1 (bY.map eI)] [] (.b r) []):=by
 unfold zF
 exact .au fun r1 o =>
  (have af:=((.aD (WG r1 o) (b7.b r1)):cr _);
  .ite (fun ab =>
  .au fun bb az =>
  .ret (bw [(J 2),.ax (ah 2 (an (bp 2 (.b r1) true) (ah 3 (an (bp 2 (.isl 1 (bb.map eI)) false) (bt 2 (.aa true) 1)))))] (af.aJ (.er ab ab ab (UC bb az) ab ab ab))))
  (fun ab =>
  .ret (bw [(J 2),.ax (ah 2 (an (bp 2 (.b r1) true) (ah 1 (cn 5 (an (.aa false) (ah 1 []))))))] (af.aJ (.dT ab ab ab ab ab ab)))))
def zQ (ai aC:bD):Option Bool :=
 if (!(ai.k9.toList == aC.k9.toList))=true then
  some false
 else
  if (ai.j2 != aC.j2)=true then
   some false
  else
   if (ai.j3 != aC.j3)=true then
    some false
   else
    if (ai.k6 == aC.k6)=true then
     some true
    else
     some false
theorem W7 {ai aC:bD}:bz (zQ ai aC) (fun r=>Con a9 31 [.agg (bL ai),.agg (bL aC)] [] (.b r) []):=by
 unfold zQ
 exact .ite (fun h1 =>
  .ret (bw [(J 3),(J 5),.aa true,(J 1)] (.e1 h1)))
  (fun h1 =>
  (let t1:List b2:=[(J 3),(J 5),.aa false,(J 5)];
  .ite (fun o =>
  .ret (bw (t1.append [.aa true,(J 1)]) (.aD h1 o)))
  (fun o =>
  .ite (fun ab =>
  .ret (bw (t1.append [.aa false,(J 5),.aa true,(J 1)]) (.bS h1 o ab)))
  (fun ab =>
  (let t2:List b2:=t1.append [.aa false,(J 5),.aa false,(J 5)];
  .ite (fun av =>
  .ret (bw (t2.append [.aa false,(J 1)]) (.da h1 o ab (c0 av))))
  (fun av =>
  .ret (bw (t2.append [.aa true,(J 1)]) (.da h1 o ab (cS av)))))))))
def GP (ai aC:List bD):Int→S:=fun ag=>dm [(0,.isl 4 (ai.map bL)),(1,.isl 4 (aC.map bL)),(5,.n .i64 ag)] []
def MT (ai aC:List bD):((Unit)⊕(Unit))→dp
 | .inl a=>⟨some 0,[],[]⟩
 | .inr a=>⟨none,[(4,.b false)],[]⟩
def wz (ai aC:List bD)(ag:Int):Option ((Int)⊕((Unit)⊕(Unit))) :=
 if (decide (ag<(len_ bL ai)))=true then
  if 0≤ag∧ag<ai.length then
  ai[ag.toNat]? >>= fun aI =>
  if 0≤ag∧ag<aC.length then
  aC[ag.toNat]? >>= fun cw =>
  zQ aI cw >>= fun c4 =>
  if c4=true then
   some (.inl (R (ag+(1:Int))))
  else
   some (.inr (.inr ()))
  else none
  else none
 else
  some (.inr (.inl ()))
def II (ai aC:List bD)(ag:Int):Option ((Unit)⊕(Unit)):=iter (fun w:Int=>wz ai aC w) ag
theorem Uh {ai aC:List bD}{ag:Int}:bz (wz ai aC ag) (dQ a9 27 0 19 [1,1,0,1,0,0] (GP ai aC ag) (GP ai aC) (MT ai aC)):=by
 unfold wz
 exact .ite (fun h1 =>
  .a0 fun o =>
  .au fun aI av =>
  .a0 fun az =>
  .au fun cw bg =>
  .au fun c4 cq =>
  (let t1:List b2:=[(J 4),.aa true,.ax (ah 3 (an (.b9 (bL aI)) (ah 3 (an (.b9 (bL cw)) (an (bp 2 (.b c4) true) (ah 1 []))))))];
  have aU:=((.bk h1 o.1 (cU bL o.2) (bX bL av) az.1 (cU bL az.2) (bX bL bg) (W7 c4 cq) (.e1 (b7.b c4))):cr _);
  .ite (fun cQ =>
  .ret (bi (t1.append [.aa false,(J 3),.aO [] [] (ba [0,1,5])]) (aU.aJ (.e1 (c0 cQ)))))
  (fun cQ =>
  .ret (bi (t1.append [.aa true,(J 1),.aO [] [] (ba [4])]) (aU.aJ (.e1 (cS cQ)))))))
  (fun h1 =>
  .ret (bi [(J 4),.aa false,.aO [] [] []] (.e1 h1)))
theorem M1 {ai aC:List bD}{ag:Int}{r} (h:II ai aC ag=some r):dR a9 27 0 19 [1,1,0,1,0,0] (GP ai aC) (MT ai aC) ag r:=dS (fun _=>Uh) h
def zG (ai aC:List bD):Option Bool :=
 if ((len_ bL ai) != (len_ bL aC))=true then
  some false
 else
  II ai aC 0 >>= fun b1 =>
  match b1 with
  | .inl fN=>(some true)
  | .inr fN=>(some false)
theorem WK {ai aC:List bD}:bz (zG ai aC) (fun r=>Con a9 19 [.isl 4 (ai.map bL),.isl 4 (aC.map bL)] [] (.b r) []):=by
 unfold zG
 exact .ite (fun h1 =>
  .ret (bw [(J 1),(J 5),.aa true,(J 1)] (.e1 h1)))
  (fun h1 =>
  .au fun b1 ab =>
  (let t1:List b2:=[(J 1),(J 5),.aa false,(J 1),.aO [] [] (ba [0,1,5])];
  (by
  rcases b1 with fN|fN
  ·exact (.ret (bw (t1.append [.sub (.exit 0) [] [],(J 1)]) (.aD h1 (M1 ab))))
  ·exact (.ret (bw (t1.append [.sub (.ret) [(4,.b false)] []]) (.aD h1 (M1 ab)))))))
def zH (ai aC:bP):Option Bool :=
 if (ai.dI != aC.dI)=true then
  some false
 else
  if (ai.el != aC.el)=true then
   some false
  else
   if (ai.iY != aC.iY)=true then
    some false
   else
    some true
theorem WL {ai aC:bP}:bz (zH ai aC) (fun r=>Con a9 32 [.agg (bU ai),.agg (bU aC)] [] (.b r) []):=by
 unfold zH
 exact .ite (fun h1 =>
  .ret (bw [(J 3),(J 5),.aa true,(J 1)] (.e1 h1)))
  (fun h1 =>
  (let t1:List b2:=[(J 3),(J 5),.aa false,(J 5)];
  .ite (fun o =>
  .ret (bw (t1.append [.aa true,(J 1)]) (.aD h1 o)))
  (fun o =>
  .ite (fun ab =>
  .ret (bw (t1.append [.aa false,(J 5),.aa true,(J 1)]) (.bS h1 o ab)))
  (fun ab =>
  .ret (bw (t1.append [.aa false,(J 5),.aa false,(J 1)]) (.bS h1 o ab))))))
def GA (ai aC:List bP):Int→S:=fun ag=>dm [(0,.isl 3 (ai.map bU)),(1,.isl 3 (aC.map bU)),(5,.n .i64 ag)] []
def MN (ai aC:List bP):((Unit)⊕(Unit))→dp
 | .inl a=>⟨some 0,[],[]⟩
 | .inr a=>⟨none,[(4,.b false)],[]⟩
def wq (ai aC:List bP)(ag:Int):Option ((Int)⊕((Unit)⊕(Unit))) :=
 if (decide (ag<(len_ bU ai)))=true then
  if 0≤ag∧ag<ai.length then
  ai[ag.toNat]? >>= fun aI =>
  if 0≤ag∧ag<aC.length then
  aC[ag.toNat]? >>= fun cw =>
  zH aI cw >>= fun c4 =>
  if c4=true then
   some (.inl (R (ag+(1:Int))))
  else
   some (.inr (.inr ()))
  else none
  else none
 else
  some (.inr (.inl ()))
def It (ai aC:List bP)(ag:Int):Option ((Unit)⊕(Unit)):=iter (fun w:Int=>wq ai aC w) ag
theorem T3 {ai aC:List bP}{ag:Int}:bz (wq ai aC ag) (dQ a9 27 0 20 [1,1,0,1,0,0] (GA ai aC ag) (GA ai aC) (MN ai aC)):=by
 unfold wq
 exact .ite (fun h1 =>
  .a0 fun o =>
  .au fun aI av =>
  .a0 fun az =>
  .au fun cw bg =>
  .au fun c4 cq =>
  (let t1:List b2:=[(J 4),.aa true,.ax (ah 3 (an (.b9 (bU aI)) (ah 3 (an (.b9 (bU cw)) (an (bp 2 (.b c4) true) (ah 1 []))))))];
  have aU:=((.bk h1 o.1 (cU bU o.2) (bX bU av) az.1 (cU bU az.2) (bX bU bg) (WL c4 cq) (.e1 (b7.b c4))):cr _);
  .ite (fun cQ =>
  .ret (bi (t1.append [.aa false,(J 3),.aO [] [] (ba [0,1,5])]) (aU.aJ (.e1 (c0 cQ)))))
  (fun cQ =>
  .ret (bi (t1.append [.aa true,(J 1),.aO [] [] (ba [4])]) (aU.aJ (.e1 (cS cQ)))))))
  (fun h1 =>
  .ret (bi [(J 4),.aa false,.aO [] [] []] (.e1 h1)))
theorem MU {ai aC:List bP}{ag:Int}{r} (h:It ai aC ag=some r):dR a9 27 0 20 [1,1,0,1,0,0] (GA ai aC) (MN ai aC) ag r:=dS (fun _=>T3) h
def zr (ai aC:List bP):Option Bool :=
 if ((len_ bU ai) != (len_ bU aC))=true then
  some false
 else
  It ai aC 0 >>= fun b1 =>
  match b1 with
  | .inl fN=>(some true)
  | .inr fN=>(some false)
theorem Wh {ai aC:List bP}:bz (zr ai aC) (fun r=>Con a9 20 [.isl 3 (ai.map bU),.isl 3 (aC.map bU)] [] (.b r) []):=by
 unfold zr
 exact .ite (fun h1 =>
  .ret (bw [(J 1),(J 5),.aa true,(J 1)] (.e1 h1)))
  (fun h1 =>
  .au fun b1 ab =>
  (let t1:List b2:=[(J 1),(J 5),.aa false,(J 1),.aO [] [] (ba [0,1,5])];
  (by
  rcases b1 with fN|fN
  ·exact (.ret (bw (t1.append [.sub (.exit 0) [] [],(J 1)]) (.aD h1 (MU ab))))
  ·exact (.ret (bw (t1.append [.sub (.ret) [(4,.b false)] []]) (.aD h1 (MU ab)))))))
def ze (ai aC:ct):Option Bool :=
 zG ai.bZ aC.bZ >>= fun r1 =>
 if r1=true then
  zr ai.bB aC.bB >>= fun bb =>
  if bb=true then
   some true
  else
   some false
 else
  some false
theorem VH {ai aC:ct}:bz (ze ai aC) (fun r=>Con a9 9 [.agg (gE ai),.agg (gE aC)] [] (.b r) []):=by
 unfold ze
 exact .au fun r1 o =>
  (let t1:List b2:=[(J 3),.ax (bt 4 (bp 2 (.b r1) true) 1)];
  have aU:=((.aD (WK r1 o) (b7.b r1)):cr _);
  .ite (fun ab =>
  .au fun bb az =>
  (let t3:List b2:=t1.append [.aa false,.ax (bt 4 (bp 2 (.b bb) true) 1)];
  have eS:=aU.aJ (.bS (c0 ab) (Wh bb az) (b7.b bb));
  .ite (fun aZ =>
  .ret (bw (t3.append [.aa false,(J 1)]) (eS.aJ (.e1 (c0 aZ)))))
  (fun aZ =>
  .ret (bw (t3.append [.aa true,(J 1)]) (eS.aJ (.e1 (cS aZ)))))))
  (fun ab =>
  .ret (bw (t1.append [.aa true,(J 1)]) (aU.aJ (.e1 (cS ab))))))
def HP (ai aC:List Int):Int→S:=fun ag=>dm [(0,.isl 1 (ai.map eI)),(1,.isl 1 (aC.map eI)),(5,.n .i64 ag)] []
def Na (ai aC:List Int):((Unit)⊕(Unit))→dp
 | .inl a=>⟨some 0,[],[]⟩
 | .inr a=>⟨none,[(4,.b false)],[]⟩
def wU (ai aC:List Int)(ag:Int):Option ((Int)⊕((Unit)⊕(Unit))) :=
 if (decide (ag<(len_ eI ai)))=true then
  if 0≤ag∧ag<ai.length then
  ai[ag.toNat]? >>= fun aI =>
  if 0≤ag∧ag<aC.length then
  aC[ag.toNat]? >>= fun cw =>
  if (aI != cw)=true then
   some (.inr (.inr ()))
  else
   some (.inl (R (ag+(1:Int))))
  else none
  else none
 else
  some (.inr (.inl ()))
def Je (ai aC:List Int)(ag:Int):Option ((Unit)⊕(Unit)):=iter (fun w:Int=>wU ai aC w) ag
theorem U1 {ai aC:List Int}{ag:Int}:bz (wU ai aC ag) (dQ a9 26 0 10 [1,1,0,1,0,0] (HP ai aC ag) (HP ai aC) (Na ai aC)):=by
 unfold wU
 exact .ite (fun h1 =>
  .a0 fun o =>
  .au fun aI av =>
  .a0 fun az =>
  .au fun cw bg =>
  (let t1:List b2:=[(J 4),.aa true,.ax (ah 3 (an (.b9 (eI aI)) (bt 3 (.b9 (eI cw)) 1)))];
  have aU:=((.er h1 o.1 (cU eI o.2) (bX eI av) az.1 (cU eI az.2) (bX eI bg)):cr _);
  .ite (fun bl =>
  .ret (bi (t1.append [.aa true,(J 1),.aO [] [] (ba [4])]) (aU.aJ (.e1 bl))))
  (fun bl =>
  .ret (bi (t1.append [.aa false,(J 3),.aO [] [] (ba [0,1,5])]) (aU.aJ (.e1 bl))))))
  (fun h1 =>
  .ret (bi [(J 4),.aa false,.aO [] [] []] (.e1 h1)))
theorem Nl {ai aC:List Int}{ag:Int}{r} (h:Je ai aC ag=some r):dR a9 26 0 10 [1,1,0,1,0,0] (HP ai aC) (Na ai aC) ag r:=dS (fun _=>U1) h
def zY (ai aC:List Int):Option Bool :=
 if ((len_ eI ai) != (len_ eI aC))=true then
  some false
 else
  Je ai aC 0 >>= fun b1 =>
  match b1 with
  | .inl fN=>(some true)
  | .inr fN=>(some false)
theorem Xn {ai aC:List Int}:bz (zY ai aC) (fun r=>Con a9 10 [.isl 1 (ai.map eI),.isl 1 (aC.map eI)] [] (.b r) []):=by
 unfold zY
 exact .ite (fun h1 =>
  .ret (bw [(J 1),(J 5),.aa true,(J 1)] (.e1 h1)))
  (fun h1 =>
  .au fun b1 ab =>
  (let t1:List b2:=[(J 1),(J 5),.aa false,(J 1),.aO [] [] (ba [0,1,5])];
  (by
  rcases b1 with fN|fN
  ·exact (.ret (bw (t1.append [.sub (.exit 0) [] [],(J 1)]) (.aD h1 (Nl ab))))
  ·exact (.ret (bw (t1.append [.sub (.ret) [(4,.b false)] []]) (.aD h1 (Nl ab)))))))
def CA (Bf:ct)(Bg:List Int):Option Bool :=
 if (decide ((1048576:Int)<(len_ eI Bg)))=true then
  some true
 else
  zb Bf 1048576 >>= fun b1 =>
  if (decide (b1<(0:Int)))=true then
   some true
  else
   y8 Bf >>= fun aM =>
   zt Bg >>= fun cb =>
   zC (⟨aM.1,aM.2⟩:ct) cb >>= fun cc =>
   zF (⟨aM.1,aM.2⟩:ct) cb >>= fun c5 =>
   if (c5 == cc)=true then
    ze (⟨aM.1,aM.2⟩:ct) (⟨aM.1,aM.2⟩:ct) >>= fun gd =>
    if gd=true then
     zY cb cb >>= fun gm =>
     if gm=true then
      some true
     else
      some false
    else
     some false
   else
    some false
theorem UD {Bf:ct}{Bg:List Int}:bz (CA Bf Bg) (fun r=>Con a9 3 [.agg (gE Bf),.isl 1 (Bg.map eI)] [] (.b r) []):=by
 unfold CA
 exact .ite (fun h1 =>
  .ret (bw [(J 2),(J 3),.aa true,(J 1)] (.e1 h1)))
  (fun h1 =>
  .au fun b1 ab =>
  (let t1:List b2:=[(J 2),(J 3),.aa false,(J 1),.ax (bt 2 (bp 2 (.n .i64 b1) true) 1),(J 2)];
  have aU:=((.bS h1 (Vs b1 ab) (b7.n .i64 b1)):cr _);
  .ite (fun av =>
  .ret (bw (t1.append [.aa true,(J 1)]) (aU.aJ (.e1 av))))
  (fun av =>
  .au fun aM aZ =>
  .au fun cb bl =>
  .au fun cc cQ =>
  .au fun c5 eV =>
  (let q1:=af 1 eI cb;let t3:List b2:=t1.append [.aa false,.ax (ah 1 (an (.call {a1:=[],dt:=[],ac:=[ii],r:= .agg [.bm 0 0 0 aM.1.length,.bm 0 1 0 aM.2.length],fy:=[[ae.mk 4 (aM.1.map bL) .live,ae.mk 3 (aM.2.map bU) .live]],ik:= .bu (.agg [.id,.id]),kn:=[.bG [ae.mk 4 (aM.1.map bL) .live,ae.mk 3 (aM.2.map bU) .live]],fI:=[],fB:=true}) (ah 1 (an (.call {a1:=[],dt:=[],ac:=[ii],r:= .bm 0 0 0 cb.length,fy:=[q1],ik:=ii,kn:=[.pure],fI:=[],fB:=true}) (an (.call {ac:=[.bu (.agg [.ek (aM.1.map bL),.ek (aM.2.map bU)]),.bu (.di (.ek (cb.map eI)))],r:= .b cc,fB:=true,fI:=[13,15]}) (ah 1 [])))))),.ax (bt 1 (.call {a1:=[],dt:=[],ac:=[ii],r:= .agg [.bm 0 0 0 aM.1.length,.bm 0 1 0 aM.2.length],fy:=[[ae.mk 4 (aM.1.map bL) .live,ae.mk 3 (aM.2.map bU) .live]],ik:= .bu (.agg [.id,.id]),kn:=[.bG [ae.mk 4 (aM.1.map bL) .live,ae.mk 3 (aM.2.map bU) .live]],fI:=[],fB:=true}) 2),.ax (bt 1 (.call {a1:=[],dt:=[],ac:=[ii],r:= .bm 0 0 0 cb.length,fy:=[q1],ik:=ii,kn:=[.pure],fI:=[],fB:=true}) 1),.ax (bt 2 (.call {ac:=[.bu (.agg [.ek (aM.1.map bL),.ek (aM.2.map bU)]),.bu (.di (.ek (cb.map eI)))],r:= .b c5,fB:=true,fI:=[19,23]}) 1),(J 3)];
  have eS:=aU.aJ (.bk av (c7 (fX (jK [13]) 4 Di aM.1) (c7 (fX (jK [13]) 3 Dd aM.2) (o1 (cd:=(jK [13]))))) ((jL rfl (jL rfl DA)):mi [ae.mk 4 (aM.1.map bL) .live,ae.mk 3 (aM.2.map bU) .live]) (GC aM aZ) (b7.agg (oZ (b7.bm 0 0 0 aM.1.length) (oZ (b7.bm 0 1 0 aM.2.length) uK))) ((rh (ph (o2 Dj) (ph (o2 De) rl)) rk):oO [[ae.mk 4 (aM.1.map bL) .live,ae.mk 3 (aM.2.map bU) .live]]) (iq 1 aQ cb) (Ix cb bl) (.bk (b7.bm 0 0 0 cb.length) ((rh (ph (o2 AM) rl) rk):oO [q1]) (f6 bL aM.1) (fC bL aM.1) (dw mD aM.1) (f6 bU aM.2) (fC bU aM.2) (dw lD aM.2) (.bk (f6 eI cb) (fC eI cb) (dw aQ cb) (Wz cc cQ) (b7.b cc) (c7 (fX (jK [19]) 4 Di aM.1) (c7 (fX (jK [19]) 3 Dd aM.2) (o1 (cd:=(jK [19]))))) ((jL rfl (jL rfl DA)):mi [ae.mk 4 (aM.1.map bL) .live,ae.mk 3 (aM.2.map bU) .live]) (GC aM aZ) (.bk (b7.agg (oZ (b7.bm 0 0 0 aM.1.length) (oZ (b7.bm 0 1 0 aM.2.length) uK))) ((rh (ph (o2 Dj) (ph (o2 De) rl)) rk):oO [[ae.mk 4 (aM.1.map bL) .live,ae.mk 3 (aM.2.map bU) .live]]) (iq 1 aQ cb) (Ix cb bl) (b7.bm 0 0 0 cb.length) ((rh (ph (o2 AM) rl) rk):oO [q1]) (f6 bL aM.1) (fC bL aM.1) (.bk (dw mD aM.1) (f6 bU aM.2) (fC bU aM.2) (dw lD aM.2) (f6 eI cb) (fC eI cb) (dw aQ cb) (WJ c5 eV) (.e1 (b7.b c5)))))));
  .ite (fun et =>
  .au fun gd fR =>
  (let t5:List b2:=t3.append [.aa false,.ax (ah 2 (an (.call {a1:=[],dt:=[],ac:=[ii],r:= .agg [.bm 0 0 0 aM.1.length,.bm 0 1 0 aM.2.length],fy:=[[ae.mk 4 (aM.1.map bL) .live,ae.mk 3 (aM.2.map bU) .live]],ik:= .bu (.agg [.id,.id]),kn:=[.bG [ae.mk 4 (aM.1.map bL) .live,ae.mk 3 (aM.2.map bU) .live]],fI:=[],fB:=true}) (an (.call {ac:=[.bu (.agg [.ek (aM.1.map bL),.ek (aM.2.map bU)]),.bu (.agg [.ek (aM.1.map bL),.ek (aM.2.map bU)])],r:= .b gd,fB:=true,fI:=[19,34]}) (ah 1 []))))];
  have kH:=eS.aJ (.bk (c0 et) (c7 (fX (jK [34]) 4 Di aM.1) (c7 (fX (jK [34]) 3 Dd aM.2) (o1 (cd:=(jK [34]))))) ((jL rfl (jL rfl DA)):mi [ae.mk 4 (aM.1.map bL) .live,ae.mk 3 (aM.2.map bU) .live]) (GC aM aZ) (b7.agg (oZ (b7.bm 0 0 0 aM.1.length) (oZ (b7.bm 0 1 0 aM.2.length) uK))) ((rh (ph (o2 Dj) (ph (o2 De) rl)) rk):oO [[ae.mk 4 (aM.1.map bL) .live,ae.mk 3 (aM.2.map bU) .live]]) (f6 bL aM.1) (fC bL aM.1) (.bk (dw mD aM.1) (f6 bU aM.2) (fC bU aM.2) (dw lD aM.2) (f6 bL aM.1) (fC bL aM.1) (dw mD aM.1) (f6 bU aM.2) (.da (fC bU aM.2) (dw lD aM.2) (VH gd fR) (b7.b gd))));
  .ite (fun hS =>
  .au fun gm hs =>
  (let t7:List b2:=t5.append [.aa false,.ax (ah 2 (an (.call {a1:=[],dt:=[],ac:=[ii],r:= .bm 0 0 0 cb.length,fy:=[(af 1 eI cb)],ik:=ii,kn:=[.pure],fI:=[],fB:=true}) (an (.call {ac:=[.bu (.di (.ek (cb.map eI))),.bu (.di (.ek (cb.map eI)))],r:= .b gm,fB:=true,fI:=[23,39]}) (ah 1 []))))];
  have mA:=kH.aJ (.bk (c0 hS) (iq 1 aQ cb) (Ix cb bl) (b7.bm 0 0 0 cb.length) ((rh (ph (o2 AM) rl) rk):oO [(af 1 eI cb)]) (f6 eI cb) (fC eI cb) (dw aQ cb) (.dl (f6 eI cb) (fC eI cb) (dw aQ cb) (Xn gm hs) (b7.b gm)));
  .ite (fun gz =>
  .ret (bw (t7.append [.aa false,(J 1)]) (mA.aJ (.e1 (c0 gz)))))
  (fun gz =>
  .ret (bw (t7.append [.aa true,(J 1)]) (mA.aJ (.e1 (cS gz)))))))
  (fun hS =>
  .ret (bw (t5.append [.aa true,(J 1)]) (kH.aJ (.e1 (cS hS)))))))
  (fun et =>
  .ret (bw (t3.append [.aa true,(J 1)]) (eS.aJ (.e1 (cS et)))))))))
end Go.Proofs.YtamedijmgkdlgabGreat
