/- Lemmas, plain functions of the program, and what they answer. No condition. -/
import Derived.Test.YtfdnefmiaihfcaaGreatMC
namespace Go.Proofs.YtfdnefmiaihfcaaGreat
set_option linter.unusedVariables false
set_option linter.unusedSimpArgs false
open Go Go.VL
def Gp (a7:List Int)(fu:Nat)(az aH:List Int):(List Int)→S:=fun ab=>eM [(0,.isl 1 (a7.map J)),(8,.bu 0 0 0 az.length),(9,.bu 1 0 0 ab.length),(10,.bu 2 0 0 fu)] [(aq 1 J az),(aq 1 J ab),(aq 1 J aH)]
def Gt (a7:List Int)(fu:Nat)(az aH:List Int):(List Int)→eP
 | a=>⟨some 0,[(8,.bu 0 0 0 az.length),(9,.bu 1 0 0 a.length),(10,.bu 2 0 0 fu)],[(aq 1 J az),(aq 1 J a),(aq 1 J aH)]⟩
def Bv (a7:List Int)(fu:Nat)(az aH ab:List Int):Option (((List Int))⊕((List Int))) :=
 if (decide (((ab.length:Nat):Int)≤(len_ J a7)))=true then
  if (ab++([0]:List Int)).length*8≤140737488355328 then
  some (.inl (ab++([0]:List Int)))
  else none
 else
  some (.inr ab)
def B2 (a7:List Int)(fu:Nat)(az aH ab:List Int):Option ((List Int)):=iter (fun w:(List Int)=>Bv a7 fu az aH w) ab
theorem Se {a7:List Int}{fu:Nat}{az aH ab:List Int}:bV (Bv a7 fu az aH ab) (fo bp 172 0 98 [1,1,1,1,1,0,0,0] (Gp a7 fu az aH ab) (Gp a7 fu az aH) (Gt a7 fu az aH)):=by
 unfold Bv
 exact .ite (fun o =>
  .bq fun R =>
  .ret (let aW:=(ab++([0]:List Int));bW [(ag 5),.ao true,.aJ (bO 2 (.a3 (aW.length)) 1),.bj [0,10,2] [.pure,.dL (aq 1 J aW),.pure] (bT [0,8,9,10])] (.bi o (jY J 0) (oX J ab) (mI J ab 0) R (aB 1 .live aA az) (eA 1 .live (oY J ab 0)) (aB 1 .live aA aW) (.ax (aB 1 .live aA aH)))))
  (fun o =>
  .ret (bW [(ag 5),.ao false,.bj [0,1,2] [.pure,.pure,.pure] (bT [8,9,10])] (.dy o (aB 1 .live aA az) (aB 1 .live aA ab) (aB 1 .live aA aH))))
theorem Te {a7:List Int}{fu:Nat}{az aH ab:List Int}{r} (h:B2 a7 fu az aH ab=some r):fp bp 172 0 98 [1,1,1,1,1,0,0,0] (Gp a7 fu az aH) (Gt a7 fu az aH) ab r:=fr (fun _=>Se) h
def Gq (dT fu:Nat)(aZ dI:Int)(az ab aH ai:List Int):(Int×Int)→S:=fun (mL,gV)=>eM [(8,.bu 0 0 0 az.length),(9,.bu 1 0 0 dT),(10,.bu 2 0 0 fu),(11,.n .i64 aZ),(12,.bu 3 0 0 ai.length),(13,.n .i64 dI),(15,.n .i64 mL),(16,.n .i64 gV)] [(aq 1 J az),(aq 1 J ab),[al.mk 1 (aH.map J) .ix],(aq 1 J ai)]
def Gu (dT fu:Nat)(aZ dI:Int)(az ab aH ai:List Int):Int→eP
 | a=>⟨some 4,[(8,.bu 0 0 0 az.length),(9,.bu 1 0 0 dT),(10,.bu 2 0 0 fu),(11,.n .i64 aZ),(12,.bu 3 0 0 ai.length),(13,.n .i64 dI),(15,.n .i64 a)],[(aq 1 J az),(aq 1 J ab),[al.mk 1 (aH.map J) .ix],(aq 1 J ai)]⟩
def tz (dT fu:Nat)(aZ dI:Int)(az ab aH ai:List Int)(mL gV:Int):Option ((Int×Int)⊕(Int)) :=
 if (decide ((1000000000:Int)≤mL))=true then
  if 0≤(U (aZ-(1:Int)))∧(U (aZ-(1:Int)))<(fu:Nat) then
  aH[(0+(U (aZ-(1:Int))).toNat)]? >>= fun a2 =>
  if (decide ((1000000000:Int)≤(U (gV+a2))))=true then
   some (.inr (U (mL-(1:Int))))
  else
   some (.inl (U (mL-(1:Int)),U (gV+a2)))
  else none
 else
  if 0≤(U (aZ-(2:Int)))∧(U (aZ-(2:Int)))<(fu:Nat) then
  aH[(0+(U (aZ-(2:Int))).toNat)]? >>= fun a2 =>
  if 0≤(U ((U (dI+aZ))-(2:Int)))∧(U ((U (dI+aZ))-(2:Int)))<(dT:Nat) then
  ab[(0+(U ((U (dI+aZ))-(2:Int))).toNat)]? >>= fun cX =>
  if (decide ((U ((U (gV*(1000000000:Int)))+cX))<(U (mL*a2))))=true then
   if 0≤(U (aZ-(1:Int)))∧(U (aZ-(1:Int)))<(fu:Nat) then
   aH[(0+(U (aZ-(1:Int))).toNat)]? >>= fun kW =>
   if (decide ((1000000000:Int)≤(U (gV+kW))))=true then
    some (.inr (U (mL-(1:Int))))
   else
    some (.inl (U (mL-(1:Int)),U (gV+kW)))
   else none
  else
   some (.inr mL)
  else none
  else none
def G3 (dT fu:Nat)(aZ dI:Int)(az ab aH ai:List Int)(mL gV:Int):Option (Int):=iter (fun w:Int×Int=>tz dT fu aZ dI az ab aH ai w.1 w.2) (mL,gV)
theorem Sf {dT fu:Nat}{aZ dI:Int}{az ab aH ai:List Int}{mL gV:Int}:bV (tz dT fu aZ dI az ab aH ai mL gV) (fo bp 172 0 98 [1,1,1,1,1,1,1,1,0,1,0,0,1,0,0,1,1,0,0,0] (Gq dT fu aZ dI az ab aH ai (mL,gV)) (Gq dT fu aZ dI az ab aH ai) (Gu dT fu aZ dI az ab aH ai)):=by
 unfold tz
 exact .ite (fun o =>
  .bq fun R =>
  .aD fun a2 ay =>
  (let t1:List cL:=[.aJ (ap 3 (cO 18 (au (.ao true) []))),.ao true,(ag 3),.aJ (bO 5 (.c4 (J a2)) 2),(ag 2)];
  have a9:=((.bi o o o o o o o o (.bi o o o o o o o o (.eT o o o cv R.1 R.2 (cQ J ay)))):cT _);
  .ite (fun aK =>
  .ret (bW (t1.append [.ao true,.bj [0,1,2,3] [.pure,.pure,.pure,.pure] (bT [8,9,10,11,12,13,15])]) (a9.a3 (.ea aK (aB 1 .live aA az) (aB 1 .live aA ab) (aB 1 .ix aA aH) (aB 1 .live aA ai)))))
  (fun aK =>
  .ret (bW (t1.append [.ao false,.bj [0,1,2,3] [.pure,.pure,.pure,.pure] (bT [8,9,10,11,12,13,15,16])]) (a9.a3 (.ea aK (aB 1 .live aA az) (aB 1 .live aA ab) (aB 1 .ix aA aH) (aB 1 .live aA ai)))))))
  (fun o =>
  .bq fun R =>
  .aD fun a2 ay =>
  .bq fun aK =>
  .aD fun cX bQ =>
  (let t1:List cL:=[.aJ (ap 8 (au (.c4 (J a2)) (ap 9 (au (.c4 (J cX)) (ap 2 (au (.ao false) []))))))];
  have a9:=((.bi o o o o o R.1 R.2 o (.bi (cQ J ay) o o o o o o o (.bi o o aK.1 aK.2 o (cQ J bQ) o o (.ax o)))):cT _);
  .ite (fun bE =>
  .bq fun c6 =>
  .aD fun kW eu =>
  (let t3:List cL:=t1.append [.ao true,(ag 3),.aJ (bO 5 (.c4 (J kW)) 2),(ag 2)];
  .ite (fun ec =>
  .ret (bW (t3.append [.ao true,.bj [0,1,2,3] [.pure,.pure,.pure,.pure] (bT [8,9,10,11,12,13,15])]) (a9.a3 (.bi bE c6.1 c6.2 (cQ J eu) ec (aB 1 .live aA az) (aB 1 .live aA ab) (aB 1 .ix aA aH) (.ax (aB 1 .live aA ai))))))
  (fun ec =>
  .ret (bW (t3.append [.ao false,.bj [0,1,2,3] [.pure,.pure,.pure,.pure] (bT [8,9,10,11,12,13,15,16])]) (a9.a3 (.bi bE c6.1 c6.2 (cQ J eu) ec (aB 1 .live aA az) (aB 1 .live aA ab) (aB 1 .ix aA aH) (.ax (aB 1 .live aA ai))))))))
  (fun bE =>
  .ret (bW (t1.append [.ao false,.bj [0,1,2,3] [.pure,.pure,.pure,.pure] (bT [8,9,10,11,12,13,15])]) (a9.a3 (.ea bE (aB 1 .live aA az) (aB 1 .live aA ab) (aB 1 .ix aA aH) (aB 1 .live aA ai)))))))
theorem Tf {dT fu:Nat}{aZ dI:Int}{az ab aH ai:List Int}{mL gV:Int}{r} (h:G3 dT fu aZ dI az ab aH ai mL gV=some r):fp bp 172 0 98 [1,1,1,1,1,1,1,1,0,1,0,0,1,0,0,1,1,0,0,0] (Gq dT fu aZ dI az ab aH ai) (Gu dT fu aZ dI az ab aH ai) (mL,gV) r:=fr (fun _=>Sf) h
def Gr (dT fu:Nat)(aZ:Int)(az aH:List Int):(Int×(List Int)×(List Int))→S:=fun (dI,ab,ai)=>eM [(8,.bu 0 0 0 az.length),(9,.bu 1 0 0 dT),(10,.bu 2 0 0 fu),(11,.n .i64 aZ),(12,.bu 3 0 0 ai.length),(13,.n .i64 dI)] [(aq 1 J az),(aq 1 J ab),[al.mk 1 (aH.map J) .ix],(aq 1 J ai)]
def Gv (dT fu:Nat)(aZ:Int)(az aH:List Int):((List Int)×(List Int))→eP
 | a=>⟨some 2,[(8,.bu 0 0 0 az.length),(9,.bu 1 0 0 dT),(12,.bu 2 0 0 a.2.length)],[(aq 1 J az),(aq 1 J a.1),(aq 1 J a.2)]⟩
def tA (dT fu:Nat)(aZ:Int)(az aH:List Int)(dI:Int)(ab ai:List Int):Option ((Int×(List Int)×(List Int))⊕((List Int)×(List Int))) :=
 if (decide ((0:Int)≤dI))=true then
  if 0≤(U (dI+aZ))∧(U (dI+aZ))<(dT:Nat) then
  ab[(0+(U (dI+aZ)).toNat)]? >>= fun a2 =>
  if 0≤(U ((U (dI+aZ))-(1:Int)))∧(U ((U (dI+aZ))-(1:Int)))<(dT:Nat) then
  ab[(0+(U ((U (dI+aZ))-(1:Int))).toNat)]? >>= fun cX =>
  if 0≤(U (aZ-(1:Int)))∧(U (aZ-(1:Int)))<(fu:Nat) then
  aH[(0+(U (aZ-(1:Int))).toNat)]? >>= fun gS =>
  if gS≠0 then
  G3 dT fu aZ dI az ab aH ai (U ((U ((U (a2*(1000000000:Int)))+cX)).tdiv gS)) ((U ((U (a2*(1000000000:Int)))+cX)).tmod gS) >>= fun f6 =>
  if 0≤dI then
  if dI.toNat≤dT then
  if 0+fu≤aH.length then
  yq ((aH.drop 0).take fu) f6 (0+dI.toNat) (dT-dI.toNat) ab >>= fun hc =>
  if hc.1=true then
   we ((aH.drop 0).take fu) (0+dI.toNat) (dT-dI.toNat) hc.2 >>= fun hT =>
   if 0≤dI∧dI<(ai.length:Nat) then
   if (0+dI.toNat)<ai.length then
   some (.inl (U (dI-(1:Int)),hT,ai.set (0+dI.toNat) (U (f6-(1:Int)))))
   else none
   else none
  else
   if 0≤dI∧dI<(ai.length:Nat) then
   if (0+dI.toNat)<ai.length then
   some (.inl (U (dI-(1:Int)),hc.2,ai.set (0+dI.toNat) f6))
   else none
   else none
  else none
  else none
  else none
  else none
  else none
  else none
  else none
 else
  some (.inr (ab,ai))
def G4 (dT fu:Nat)(aZ:Int)(az aH:List Int)(dI:Int)(ab ai:List Int):Option ((List Int)×(List Int)):=iter (fun w:Int×(List Int)×(List Int)=>tA dT fu aZ az aH w.1 w.2.1 w.2.2) (dI,ab,ai)
theorem Sg {dT fu:Nat}{aZ:Int}{az aH:List Int}{dI:Int}{ab ai:List Int}:bV (tA dT fu aZ az aH dI ab ai) (fo bp 172 0 98 [1,1,1,1,1,1,1,1,0,1,0,0] (Gr dT fu aZ az aH (dI,ab,ai)) (Gr dT fu aZ az aH) (Gv dT fu aZ az aH)):=by
 unfold tA
 exact .ite (fun o =>
  .bq fun R =>
  .aD fun a2 ay =>
  .bq fun aK =>
  .aD fun cX bQ =>
  .bq fun bE =>
  .aD fun gS dj =>
  .bq fun eu =>
  .aD fun f6 dE =>
  .bq fun eU =>
  .bq fun d3 =>
  .bq fun gv =>
  .aD fun hc ig =>
  (let t1:List cL:=[(ag 2),.ao true,.aJ (ap 5 (au (.c4 (J a2)) (bO 7 (.c4 (J cX)) 2))),.aJ (ap 5 (au (.c4 (J gS)) (bO 6 (.c4 (J gS)) 3))),.bj [0,1,2,3] [.pure,.pure,.pure,.pure] (bT [8,9,10,11,12,13,15,16]),(Gu dT fu aZ dI az ab aH ai f6).gh,.aJ (ap 5 (au (.call {aL:=[.row 1],cq:=[.pure],ac:=[ii,.bF (.cu (.fI (((aH.drop 0).take fu).map J))),ii],r:= .b hc.1,dh:=[(aq 1 J hc.2)],ez:=ii,e5:=[.pure],dD:=[1,2],dB:=false}) []))];
  have a9:=((.bi o R.1 R.2 (cQ J ay) aK.1 aK.2 (cQ J bQ) bE.1 (.bi bE.2 (cQ J dj) eu bE.1 bE.2 (cQ J dj) eu (aB 1 .live aA az) (.bi (aB 1 .live aA ab) (aB 1 .ix aA aH) (aB 1 .live aA ai) (Tf dE) eU d3 (Nat.le_refl dT) (HG (dW J aH) 0 fu) (.ea (tU (dW J aH) gv) (ey aA ((aH.drop 0).take fu)) (eo 1 aA ab) (eo 1 aA hc.2) (Tp hc ig))))):cT _);
  .ite (fun gZ =>
  .aD fun hT m5 =>
  .bq fun jR =>
  .bq fun lp =>
  .ret (let aW:=(U (f6-(1:Int)));bW (t1.append [.ao true,(ag 3),.aJ (ap 4 (au (.call {aL:=[.row 1],cq:=[.pure],ac:=[ii,.bF (.cu (.fI (((aH.drop 0).take fu).map J)))],r:= .dm [],dh:=[(aq 1 J hT)],ez:=ii,e5:=[.pure],dD:=[1,2],dB:=false}) [])),.aJ (ap 4 (au .dx [])),(ag 3),.bj [0,1,2,3] [.pure,.pure,.pure,.dL (aq 1 J (ai.set (0+dI.toNat) aW))] [(8,ii),(9,ii),(10,ii),(11,ii),(12,gY ((ai.set (0+dI.toNat) aW).length)),(13,ii)]]) (a9.a3 (.bi gZ eU d3 (Nat.le_refl dT) (HG (dW J aH) 0 fu) (tU (dW J aH) gv) (ey aA ((aH.drop 0).take fu)) (eo 1 aA hc.2) (.bi (eo 1 aA hT) (Tq hT m5) jR.1 jR.2 (h9 J lp) (hp 1) (aB 1 .live aA az) (aB 1 .live aA hT) (.dy (aB 1 .ix aA aH) (eA 1 .live (ga (dW J ai) (0+dI.toNat) aW)) (aB 1 .live aA (ai.set (0+dI.toNat) aW)) (hC (fl ai) (0+dI.toNat) aW)))))))
  (fun gZ =>
  .bq fun m4 =>
  .bq fun m5 =>
  .ret (bW (t1.append [.ao false,.aJ (ap 4 (au .dx [])),(ag 3),.bj [0,1,2,3] [.pure,.pure,.pure,.dL (aq 1 J (ai.set (0+dI.toNat) f6))] [(8,ii),(9,ii),(10,ii),(11,ii),(12,gY ((ai.set (0+dI.toNat) f6).length)),(13,ii)]]) (a9.a3 (.bi gZ m4.1 m4.2 (h9 J m5) (hp 1) (aB 1 .live aA az) (aB 1 .live aA hc.2) (aB 1 .ix aA aH) (.b4 (eA 1 .live (ga (dW J ai) (0+dI.toNat) f6)) (aB 1 .live aA (ai.set (0+dI.toNat) f6)) (hC (fl ai) (0+dI.toNat) f6))))))))
  (fun o =>
  .ret (bW [(ag 2),.ao false,.bj [0,1,3] [.pure,.pure,.pure] (bT [8,9,12])] (.dy o (aB 1 .live aA az) (aB 1 .live aA ab) (aB 1 .live aA ai))))
theorem Tg {dT fu:Nat}{aZ:Int}{az aH:List Int}{dI:Int}{ab ai:List Int}{r} (h:G4 dT fu aZ az aH dI ab ai=some r):fp bp 172 0 98 [1,1,1,1,1,1,1,1,0,1,0,0] (Gr dT fu aZ az aH) (Gv dT fu aZ az aH) (dI,ab,ai) r:=fr (fun _=>Sg) h
def rK (a7 a6:List Int):Option ((List Int)×(List Int)) :=
 o2 a7 a6 >>= fun ad =>
 if (decide (ad<(0:Int)))=true then
  tX a7 >>= fun bl =>
  some (([]:List Int),bl)
 else
  if ((len_ J a6) == (1:Int))=true then
   if 0≤(0:Int)∧(0:Int)<a6.length then
   a6[0]? >>= fun cX =>
   vX a7 cX >>= fun eh =>
   tD (IntKind.wrap .u64 eh.2) >>= fun fc =>
   some (eh.1,fc)
   else none
  else
   if 0≤(U ((len_ J a6)-(1:Int)))∧(U ((len_ J a6)-(1:Int)))<a6.length then
   a6[(U ((len_ J a6)-(1:Int))).toNat]? >>= fun cX =>
   if (U (cX+(1:Int)))≠0 then
   wa a7 ([U ((1000000000:Int).tdiv (U (cX+(1:Int))))]:List Int) >>= fun bf =>
   if bf.1≤bf.2.length then
   if (bf.2.take bf.1++([0]:List Int)).length*8≤140737488355328 then
   wa a6 ([U ((1000000000:Int).tdiv (U (cX+(1:Int))))]:List Int) >>= fun de =>
   B2 a7 de.1 ([U ((1000000000:Int).tdiv (U (cX+(1:Int))))]:List Int) de.2 (bf.2.take bf.1++([0]:List Int)) >>= fun fk =>
   if 0≤(U (((fk.length:Nat):Int)-((de.1:Nat):Int)))∧(8:Int)*(U (((fk.length:Nat):Int)-((de.1:Nat):Int)))≤281474976710656∧(U (((fk.length:Nat):Int)-((de.1:Nat):Int)))<9223372036854775808 then
   G4 fk.length de.1 ((de.1:Nat):Int) ([U ((1000000000:Int).tdiv (U (cX+(1:Int))))]:List Int) de.2 (U ((U (((fk.length:Nat):Int)-((de.1:Nat):Int)))-(1:Int))) fk (List.replicate (U (((fk.length:Nat):Int)-((de.1:Nat):Int))).toNat 0:List Int) >>= fun d2 =>
   if 0+fk.length≤d2.1.length then
   pE ((d2.1.drop 0).take fk.length) >>= fun i6 =>
   if 0≤(0:Int)∧(0:Int)<(([U ((1000000000:Int).tdiv (U (cX+(1:Int))))]:List Int).length:Nat) then
   ([U ((1000000000:Int).tdiv (U (cX+(1:Int))))]:List Int)[0]? >>= fun sg =>
   vX i6 sg >>= fun m6 =>
   pE d2.2 >>= fun lD =>
   some (lD,m6.1)
   else none
   else none
   else none
   else none
   else none
   else none
   else none
theorem B3 {a7 a6:List Int}:bV (rK a7 a6) (fun r=>Con bp 98 [.isl 1 (a7.map J),.isl 1 (a6.map J)] [] (.dm [.isl 1 (r.1.map J),.isl 1 (r.2.map J)]) []):=by
 unfold rK
 exact .aD fun ad R =>
  (let t1:List cL:=[(ag 2),.aJ (bO 2 (bM 2 (.n .i64 ad) true) 1)];
  have a9:=((.aF (vT ad R) (cm.n .i64 ad)):cT _);
  .ite (fun ae =>
  .aD fun bl aK =>
  .ret (b1 (t1.append [.ao true,.aJ (bO 1 (bM 1 (.isl 1 (bl.map J)) false) 2)]) (a9.a3 (.aF ae (Hl bl aK))) (.comp [.cu (.gm 1),.cu .id])))
  (fun ae =>
  .ite (fun ay =>
  .bq fun aK =>
  .aD fun cX bQ =>
  .aD fun eh c6 =>
  .aD fun fc eu =>
  .ret (b1 (t1.append [.ao false,(ag 3),.ao true,.aJ (ap 3 (au (.c4 (J cX)) (au (bM 2 (.dm [.isl 1 (eh.1.map J),.n .i64 eh.2]) false) (ap 5 [])))),.aJ (bO 3 (bM 1 (.isl 1 (fc.map J)) false) 2)]) (a9.a3 (.eT ae ay aK.1 (eY J aK.2) (cQ J bQ) (Lh eh c6) (GD fc eu)))))
  (fun ay =>
  .bq fun aK =>
  .aD fun cX bQ =>
  .bq fun bE =>
  .aD fun bf dj =>
  .bq fun eu =>
  .bq fun ec =>
  .aD fun de eU =>
  .aD fun fk gv =>
  .bq fun gz =>
  .aD fun d2 gZ =>
  .bq fun m4 =>
  .aD fun i6 jR =>
  .bq fun lp =>
  .aD fun sg qL =>
  .aD fun m6 Ag =>
  .aD fun lD Ah =>
  .ret (let aW:=(U ((1000000000:Int).tdiv (U (cX+(1:Int)))));let bh:=(U (((fk.length:Nat):Int)-((de.1:Nat):Int)));let cf:=(bf.2.take bf.1++([0]:List Int));let cI:=(List.replicate bh.toNat 0:List Int);let ee:=(aB 1 .live aA ([aW]:List Int));b1 (t1.append [.ao false,(ag 3),.ao false,.aJ (bO 5 (.c4 (J cX)) 4),.aJ (ap 2 (au (.call {aL:=[],cq:=[],ac:=[ii,.bF (.cu (.fI (([aW]:List Int).map J)))],r:= .bu 0 0 0 bf.1,dh:=[(aq 1 J bf.2)],ez:=ii,e5:=[.pure],dD:=[17],dB:=true}) (ap 1 (au (.a3 (cf.length)) (bO 2 (.call {aL:=[],cq:=[],ac:=[ii,.bF (.cu (.fI (([aW]:List Int).map J)))],r:= .bu 0 0 0 de.1,dh:=[(aq 1 J de.2)],ez:=ii,e5:=[.pure],dD:=[17],dB:=true}) 2))))),.bj [17,23,26] [.dL (aq 1 J ([aW]:List Int)),.dL (aq 1 J cf),.pure] [(0,ii),(8,gY (([aW]:List Int).length)),(9,ii),(10,ii)],(Gt a7 de.1 ([aW]:List Int) de.2 fk).gh,(ag 3),(ag 6),(ag 6),.bj [0,1,2,10] [.pure,.pure,.pure,.dL (aq 1 J cI)] [(8,ii),(9,ii),(10,ii),(11,ii),(12,gY (cI.length)),(13,ii)],.ix 2,.bj [0,1,2,3] [.pure,.pure,.pure,.pure] (bT [8,9,10,11,12,13]),(Gv fk.length de.1 ((de.1:Nat):Int) ([aW]:List Int) de.2 d2).gh,.ix 1,.aJ (ap 1 (au (.call {ac:=[.bF (.cu (.fI (((d2.1.drop 0).take fk.length).map J)))],r:= .isl 1 (i6.map J),dB:=false,dD:=[1]}) (ap 2 (au (.c4 (J sg)) (au (bM 2 (.dm [.isl 1 (m6.1.map J),.n .i64 m6.2]) false) (ap 5 [])))))),.ix 2,.aJ (bO 1 (.call {ac:=[.bF (.cu (.fI (d2.2.map J)))],r:= .isl 1 (lD.map J),dB:=false,dD:=[2]}) 3)]) (a9.a3 (.bi ae ay aK.1 (eY J aK.2) (cQ J bQ) bE (kd (show [[.n .i64 (U ((1000000000:Int).tdiv (U (cX+(1:Int)))))]]=(([(U ((1000000000:Int).tdiv (U (cX+(1:Int)))))]:List Int)).map J from rfl) (show 1=([(U ((1000000000:Int).tdiv (U (cX+(1:Int)))))]:List Int).length from rfl)) (jY J aW) (.bi (ey aA ([aW]:List Int)) (eo 1 aA bf.2) (Ls bf dj) (cm.bu 0 0 0 bf.1) ((Cv (sE (rQ sS) CF) CE):sc [(aq 1 J bf.2)]) (jY J 0) (tU (dW J bf.2) eu) (Zt J eu 0) (.bi ec (kd (show [[.n .i64 (U ((1000000000:Int).tdiv (U (cX+(1:Int)))))]]=(([(U ((1000000000:Int).tdiv (U (cX+(1:Int)))))]:List Int)).map J from rfl) (show 1=([(U ((1000000000:Int).tdiv (U (cX+(1:Int)))))]:List Int).length from rfl)) (jY J aW) (ey aA ([aW]:List Int)) (eo 1 aA de.2) (Ls de eU) (cm.bu 0 0 0 de.1) ((Cv (sE (rQ sS) CF) CE):sc [(aq 1 J de.2)]) (.bi (eA 1 .live (show [[.n .i64 (U ((1000000000:Int).tdiv (U (cX+(1:Int)))))]]=(([(U ((1000000000:Int).tdiv (U (cX+(1:Int)))))]:List Int)).map J from rfl)) ee (eA 1 .live (HH (dW J bf.2) bf.1 (uS J 0))) (aB 1 .live aA cf) (aB 1 .live aA de.2) (show 1=([(U ((1000000000:Int).tdiv (U (cX+(1:Int)))))]:List Int).length from rfl) (Te gv) gz.1 (.bi (Int.le_refl bh) gz.2.1 gz.2.2 ee (aB 1 .live aA fk) (aB 1 .live aA de.2) (eA 1 .live (ls J bh.toNat 0)) (aB 1 .live aA cI) (.bi (lP bh.toNat (0:Int)) ee (aB 1 .live aA fk) (aB 1 .ix aA de.2) (aB 1 .live aA cI) (Tg gZ) (HG (dW J d2.1) 0 fk.length) (tU (dW J d2.1) m4) (.bi (ey aA ((d2.1.drop 0).take fk.length)) (tE i6 jR) lp.1 lp.2 (cQ J qL) (Lh m6 Ag) (jH J d2.2) (i3 J d2.2) (.aF (ey aA d2.2) (tE lD Ah))))))))))))))
def sv (cD e3:a5):Option a5 :=
 rK cD.cy e3.cy >>= fun ad =>
 ku (!(cD.cU == e3.cU)) ad.1 >>= fun bg =>
 some bg
theorem Fl {cD e3:a5}:bV (sv cD e3) (fun r=>Con bp 97 [.agg (aN cD),.agg (aN e3)] [] (.agg (aN r)) []):=by
 unfold sv
 exact .aD fun ad R =>
  .aD fun bg ay =>
  .ret (b1 [(ag 3),.aJ (bO 4 (bM 2 (.dm [.isl 1 (ad.1.map J),.isl 1 (ad.2.map J)]) false) 5),.aJ (bO 6 (bM 2 (.agg (aN bg)) false) 1)] (.aF (B3 ad R) (q1 bg ay)))
def EL (dg bJ:Int)(gd iV:bZ)(gi fb od:Int)(aT:Bool)(aI:List Int)(ct:Int)(ab:List bZ)(ai:List Int)(aX:List Bool)(iw:Bool)(iu:List Int)(nv:Bool)(nq:List Int):(Int×(List (List a5)))→S:=fun (fi,br)=>eM [(0,.ref 0 0 0 0),(1,.n .i64 dg),(2,.n .i64 bJ),(6,mh 2 0 2 gd),(7,.ref 5 0 0 0),(9,mh 2 0 2 iV),(10,.ref 6 0 0 0),(30,.bu 1 0 0 ab.length),(31,.n .i64 gi),(32,.n .i64 fb),(45,.n .i64 od),(46,.n .i64 fi)] [[al.mk 6 [(ef 1 0 0 ab.length aT aI 3 0 0 ai.length ct 4 0 0 aX.length)] .live],(aq 1 (bN 2 0 2) ab),(cR 2 aN br),(aq 1 J ai),(aq 1 dk aX),[al.mk 2 [[.b iw,.isl 1 (iu.map J)]] .live],[al.mk 2 [[.b nv,.isl 1 (nq.map J)]] .live]]
def EU (dg bJ:Int)(gd iV:bZ)(gi fb od:Int)(aT:Bool)(aI:List Int)(ct:Int)(ab:List bZ)(ai:List Int)(aX:List Bool)(iw:Bool)(iu:List Int)(nv:Bool)(nq:List Int):(List (List a5))→eP
 | a=>⟨some 2,[(0,.ref 0 0 0 0),(1,.n .i64 dg),(2,.n .i64 bJ),(6,mh 2 0 2 gd),(7,.ref 5 0 0 0),(30,.bu 1 0 0 ab.length),(31,.n .i64 gi),(32,.n .i64 fb)],[[al.mk 6 [(ef 1 0 0 ab.length aT aI 3 0 0 ai.length ct 4 0 0 aX.length)] .live],(aq 1 (bN 2 0 2) ab),(cR 2 aN a),(aq 1 J ai),(aq 1 dk aX),[al.mk 2 [[.b iw,.isl 1 (iu.map J)]] .live]]⟩
def vf (dg bJ:Int)(gd iV:bZ)(gi fb od:Int)(aT:Bool)(aI:List Int)(ct:Int)(ab:List bZ)(ai:List Int)(aX:List Bool)(iw:Bool)(iu:List Int)(nv:Bool)(nq:List Int)(fi:Int)(br:List (List a5)):Option ((Int×(List (List a5)))⊕((List (List a5)))) :=
 if (decide (fi<od))=true then
  iV >>= fun d6 =>
  br[d6.1]? >>= fun iR =>
  if 0≤fi∧fi<(d6.2:Nat) then
  iR[(0+fi.toNat)]? >>= fun f7 =>
  nO f7 (⟨iw,iu⟩:a5) >>= fun bf =>
  nP (⟨nv,nq⟩:a5) >>= fun cr =>
  if (cr != (0:Int))=true then
   gd >>= fun uE =>
   br[uE.1]? >>= fun xu =>
   if 0≤fi∧fi<(uE.2:Nat) then
   xu[(0+fi.toNat)]? >>= fun qK =>
   nP qK >>= fun i6 =>
   if (i6 != (0:Int))=true then
    nO (⟨nv,nq⟩:a5) qK >>= fun pq =>
    ty bf pq >>= fun m6 =>
    sv m6 (⟨aT,aI⟩:a5) >>= fun lD =>
    some (.inl (U (fi+(1:Int)),br.set d6.1 (iR.set (0+fi.toNat) lD)))
   else
    sv bf (⟨aT,aI⟩:a5) >>= fun pq =>
    some (.inl (U (fi+(1:Int)),br.set d6.1 (iR.set (0+fi.toNat) pq)))
   else none
  else
   sv bf (⟨aT,aI⟩:a5) >>= fun fx =>
   some (.inl (U (fi+(1:Int)),br.set d6.1 (iR.set (0+fi.toNat) fx)))
  else none
 else
  some (.inr br)
def A9 (dg bJ:Int)(gd iV:bZ)(gi fb od:Int)(aT:Bool)(aI:List Int)(ct:Int)(ab:List bZ)(ai:List Int)(aX:List Bool)(iw:Bool)(iu:List Int)(nv:Bool)(nq:List Int)(fi:Int)(br:List (List a5)):Option ((List (List a5))):=iter (fun w:Int×(List (List a5))=>vf dg bJ gd iV gi fb od aT aI ct ab ai aX iw iu nv nq w.1 w.2) (fi,br)
theorem Ra {dg bJ:Int}{gd iV:bZ}{gi fb od:Int}{aT:Bool}{aI:List Int}{ct:Int}{ab:List bZ}{ai:List Int}{aX:List Bool}{iw:Bool}{iu:List Int}{nv:Bool}{nq:List Int}{fi:Int}{br:List (List a5)}:bV (vf dg bJ gd iV gi fb od aT aI ct ab ai aX iw iu nv nq fi br) (fo bp 128 5 79 [1,1,0,1,0,0,1,1,0,0,1,1,1,1,0,0] (EL dg bJ gd iV gi fb od aT aI ct ab ai aX iw iu nv nq (fi,br)) (EL dg bJ gd iV gi fb od aT aI ct ab ai aX iw iu nv nq) (EU dg bJ gd iV gi fb od aT aI ct ab ai aX iw iu nv nq)):=by
 unfold vf
 exact .ite (fun o =>
  .aD fun d6 ae =>
  .aD fun iR aK =>
  .bq fun bI =>
  .aD fun f7 bE =>
  .aD fun bf dj =>
  .aD fun cr ec =>
  (let h4:=kN (hX .live 2 aN br) kr aK;let t1:List cL:=[(ag 1),.ao true,(ag 2),.aJ (ap 2 (au (.fy 49 (.bu 2 (d6.1+0) 0 d6.2) (.gB (al.mk 2 (iR.map aN) .live) [])) (au (.gB (al.mk 2 (iR.map aN) .live) (aN f7)) (bO 1 (bM 2 (.agg (aN bf)) false) 2))))];
  have a9:=((.bi o (nV (dP:=2) (c:=0) (sz:=2) ae) h4 bI.1 bI.2 h4 (cQ aN bE) (tu bf dj) (.aF (ry cr ec) (cm.n .i64 cr))):cT _);
  .ite (fun dE =>
  .aD fun uE d3 =>
  .aD fun xu gz =>
  .bq fun ig =>
  .aD fun qK m4 =>
  .aD fun i6 jR =>
  (let hK:=kN (hX .live 2 aN br) kr gz;let t3:List cL:=t1.append [.aJ (ap 1 (au (bM 1 (.n .i64 cr) true) (ap 4 (au (.fy 59 (.bu 2 (uE.1+0) 0 uE.2) (.gB (al.mk 2 (xu.map aN) .live) [])) (au (.gB (al.mk 2 (xu.map aN) .live) (aN qK)) (au (bM 1 (.n .i64 i6) true) (ap 1 (au (.ao true) []))))))))];
  have fA:=a9.a3 (.bi dE dE dE (nV (dP:=2) (c:=0) (sz:=2) d3) hK ig.1 ig.2 dE (.eT hK (cQ aN m4) dE (ry i6 jR) (cm.n .i64 i6) dE dE));
  .ite (fun lp =>
  .aD fun pq qL =>
  .aD fun m6 Ag =>
  .aD fun lD Ah =>
  .ret (let aW:=kN (hX .live 2 aN br) kr gz;let bh:=kN (hX .live 2 aN br) kr aK;let cf:=db [0,1,2,3,4,5,6];bW (t3.append [.ao true,.aJ (ap 4 (au (.fy 68 (.bu 2 (uE.1+0) 0 uE.2) (.gB (al.mk 2 (xu.map aN) .live) [])) (au (.gB (al.mk 2 (xu.map aN) .live) (aN qK)) (au (bM 2 (.agg (aN pq)) false) (au (bM 2 (.agg (aN m6)) false) (ap 1 [])))))),.aJ (ap 7 (au (bM 2 (.agg (aN lD)) false) (au (.fy 74 (.bu 2 (d6.1+0) 0 d6.2) (.gB (al.mk 2 (iR.map aN) .live) [])) (au (.gB (al.mk 2 (iR.map aN) .live) (aN f7)) [])))),(ag 2),.bj [0,1,2,3,4,5,6] [.box [.id,.id,.id,.id,.id,.id],.bz (aq 1 (bN 2 0 2) ab),.bz (cR 2 aN (br.set d6.1 (iR.set (0+fi.toNat) lD))),.pure,.pure,.box [.id,.id],.box [.id,.id]] (bT [0,1,2,6,7,9,10,30,31,32,45,46])]) (fA.a3 (.bi lp (nV (dP:=2) (c:=0) (sz:=2) d3) aW ig.1 ig.2 aW (cQ aN m4) (tu pq qL) (.bi (La m6 Ag) (Fl lD Ah) (nV (dP:=2) (c:=0) (sz:=2) ae) bh bI.1 bI.2 bh (cQ aN bE) (.dy (ex cf 2 2 0 2 rfl ab) (pJ (b5:=cf) (q8 (hX .live 2 aN br) d6.1 (q6 (dW aN iR) (0+fi.toNat) lD (rfl:(setCells (aN f7) 0 (aN lD))=aN lD))) (o9 dK)) (aB 1 .live aA ai) (aB 1 .live dF aX)))))))
  (fun lp =>
  .aD fun pq qL =>
  .ret (let cI:=kN (hX .live 2 aN br) kr aK;let ee:=db [0,1,2,3,4,5,6];bW (t3.append [.ao false,.aJ (ap 7 (au (bM 2 (.agg (aN pq)) false) (au (.fy 74 (.bu 2 (d6.1+0) 0 d6.2) (.gB (al.mk 2 (iR.map aN) .live) [])) (au (.gB (al.mk 2 (iR.map aN) .live) (aN f7)) [])))),(ag 2),.bj [0,1,2,3,4,5,6] [.box [.id,.id,.id,.id,.id,.id],.bz (aq 1 (bN 2 0 2) ab),.bz (cR 2 aN (br.set d6.1 (iR.set (0+fi.toNat) pq))),.pure,.pure,.box [.id,.id],.box [.id,.id]] (bT [0,1,2,6,7,9,10,30,31,32,45,46])]) (fA.a3 (.bi lp (Fl pq qL) (nV (dP:=2) (c:=0) (sz:=2) ae) cI bI.1 bI.2 cI (cQ aN bE) (.dy (ex ee 2 2 0 2 rfl ab) (pJ (b5:=ee) (q8 (hX .live 2 aN br) d6.1 (q6 (dW aN iR) (0+fi.toNat) pq (rfl:(setCells (aN f7) 0 (aN pq))=aN pq))) (o9 dK)) (aB 1 .live aA ai) (aB 1 .live dF aX))))))))
  (fun dE =>
  .aD fun fx d3 =>
  .ret (let fS:=kN (hX .live 2 aN br) kr aK;let gx:=db [0,1,2,3,4,5,6];bW (t1.append [.aJ (ap 1 (au (bM 1 (.n .i64 cr) true) (ap 2 (cO 6 (au (.ao false) []))))),.ao false,.aJ (ap 7 (au (bM 2 (.agg (aN fx)) false) (au (.fy 74 (.bu 2 (d6.1+0) 0 d6.2) (.gB (al.mk 2 (iR.map aN) .live) [])) (au (.gB (al.mk 2 (iR.map aN) .live) (aN f7)) [])))),(ag 2),.bj [0,1,2,3,4,5,6] [.box [.id,.id,.id,.id,.id,.id],.bz (aq 1 (bN 2 0 2) ab),.bz (cR 2 aN (br.set d6.1 (iR.set (0+fi.toNat) fx))),.pure,.pure,.box [.id,.id],.box [.id,.id]] (bT [0,1,2,6,7,9,10,30,31,32,45,46])]) (a9.a3 (.bi dE dE dE dE dE dE dE eW (.bi (Fl fx d3) (nV (dP:=2) (c:=0) (sz:=2) ae) fS bI.1 bI.2 fS (cQ aN bE) (ex gx 2 2 0 2 rfl ab) (.b4 (pJ (b5:=gx) (q8 (hX .live 2 aN br) d6.1 (q6 (dW aN iR) (0+fi.toNat) fx (rfl:(setCells (aN f7) 0 (aN fx))=aN fx))) (o9 dK)) (aB 1 .live aA ai) (aB 1 .live dF aX)))))))))
  (fun o =>
  .ret (let e8:=db [0,1,2,3,4,5];bW [(ag 1),.ao false,.bj [0,1,2,3,4,5] [.box [.id,.id,.id,.id,.id,.id],.bz (aq 1 (bN 2 0 2) ab),.bz (cR 2 aN br),.pure,.pure,.box [.id,.id]] (bT [0,1,2,6,7,30,31,32])] (.ea o (ex e8 2 2 0 2 rfl ab) (eB e8 2 dK br) (aB 1 .live aA ai) (aB 1 .live dF aX))))
theorem Rs {dg bJ:Int}{gd iV:bZ}{gi fb od:Int}{aT:Bool}{aI:List Int}{ct:Int}{ab:List bZ}{ai:List Int}{aX:List Bool}{iw:Bool}{iu:List Int}{nv:Bool}{nq:List Int}{fi:Int}{br:List (List a5)}{r} (h:A9 dg bJ gd iV gi fb od aT aI ct ab ai aX iw iu nv nq fi br=some r):fp bp 128 5 79 [1,1,0,1,0,0,1,1,0,0,1,1,1,1,0,0] (EL dg bJ gd iV gi fb od aT aI ct ab ai aX iw iu nv nq) (EU dg bJ gd iV gi fb od aT aI ct ab ai aX iw iu nv nq) (fi,br) r:=fr (fun _=>Ra) h
def EM (dg bJ:Int)(gd:bZ)(gi:Int)(aT:Bool)(aI:List Int)(ct:Int)(ab:List bZ)(ai:List Int)(aX:List Bool)(iw:Bool)(iu:List Int):(Int×(List (List a5)))→S:=fun (fb,br)=>eM [(0,.ref 0 0 0 0),(1,.n .i64 dg),(2,.n .i64 bJ),(6,mh 2 0 2 gd),(7,.ref 5 0 0 0),(30,.bu 1 0 0 ab.length),(31,.n .i64 gi),(32,.n .i64 fb)] [[al.mk 6 [(ef 1 0 0 ab.length aT aI 3 0 0 ai.length ct 4 0 0 aX.length)] .live],(aq 1 (bN 2 0 2) ab),(cR 2 aN br),(aq 1 J ai),(aq 1 dk aX),[al.mk 2 [[.b iw,.isl 1 (iu.map J)]] .live]]
def EV (dg bJ:Int)(gd:bZ)(gi:Int)(aT:Bool)(aI:List Int)(ct:Int)(ab:List bZ)(ai:List Int)(aX:List Bool)(iw:Bool)(iu:List Int):(List (List a5))→eP
 | a=>⟨some 0,[(0,.ref 0 0 0 0),(1,.n .i64 dg),(2,.n .i64 bJ),(7,.ref 5 0 0 0)],[[al.mk 6 [(ef 1 0 0 ab.length aT aI 3 0 0 ai.length ct 4 0 0 aX.length)] .live],(aq 1 (bN 2 0 2) ab),(cR 2 aN a),(aq 1 J ai),(aq 1 dk aX),[al.mk 2 [[.b iw,.isl 1 (iu.map J)]] .live]]⟩
def vg (dg bJ:Int)(gd:bZ)(gi:Int)(aT:Bool)(aI:List Int)(ct:Int)(ab:List bZ)(ai:List Int)(aX:List Bool)(iw:Bool)(iu:List Int)(fb:Int)(br:List (List a5)):Option ((Int×(List (List a5)))⊕((List (List a5)))) :=
 if (decide (fb<gi))=true then
  if 0≤fb∧fb<(ab.length:Nat) then
  ab[(0+fb.toNat)]? >>= fun a2 =>
  if (fb == dg)=true then
   some (.inl (U (fb+(1:Int)),br))
  else
   a2 >>= fun nf =>
   br[nf.1]? >>= fun AM =>
   if 0≤bJ∧bJ<(nf.2:Nat) then
   AM[(0+bJ.toNat)]? >>= fun pp =>
   A9 dg bJ gd a2 gi fb ((nf.2:Nat):Int) aT aI ct ab ai aX iw iu pp.cU pp.cy 0 br >>= fun de =>
   some (.inl (U (fb+(1:Int)),de))
   else none
  else none
 else
  some (.inr br)
def Ba (dg bJ:Int)(gd:bZ)(gi:Int)(aT:Bool)(aI:List Int)(ct:Int)(ab:List bZ)(ai:List Int)(aX:List Bool)(iw:Bool)(iu:List Int)(fb:Int)(br:List (List a5)):Option ((List (List a5))):=iter (fun w:Int×(List (List a5))=>vg dg bJ gd gi aT aI ct ab ai aX iw iu w.1 w.2) (fb,br)
theorem Rb {dg bJ:Int}{gd:bZ}{gi:Int}{aT:Bool}{aI:List Int}{ct:Int}{ab:List bZ}{ai:List Int}{aX:List Bool}{iw:Bool}{iu:List Int}{fb:Int}{br:List (List a5)}:bV (vg dg bJ gd gi aT aI ct ab ai aX iw iu fb br) (fo bp 128 5 79 [1,1,0,1,0,0] (EM dg bJ gd gi aT aI ct ab ai aX iw iu (fb,br)) (EM dg bJ gd gi aT aI ct ab ai aX iw iu) (EV dg bJ gd gi aT aI ct ab ai aX iw iu)):=by
 unfold vg
 exact .ite (fun o =>
  .bq fun R =>
  .aD fun a2 ay =>
  (let t1:List cL:=[(ag 1),.ao true,.aJ (bO 2 (.c4 ((bN 2 0 2) a2)) 2),(ag 3)];
  have a9:=((.dy o R.1 R.2 (cQ (bN 2 0 2) ay)):cT _);
  .ite (fun aK =>
  .ret (let aW:=db [0,1,2,3,4,5];bW (t1.append [.ao true,(ag 2),.bj [0,1,2,3,4,5] [.box [.id,.id,.id,.id,.id,.id],.bz (aq 1 (bN 2 0 2) ab),.bz (cR 2 aN br),.pure,.pure,.box [.id,.id]] (bT [0,1,2,6,7,30,31,32])]) (a9.a3 (.ea aK (ex aW 2 2 0 2 rfl ab) (eB aW 2 dK br) (aB 1 .live aA ai) (aB 1 .live dF aX)))))
  (fun aK =>
  .aD fun nf bQ =>
  .aD fun AM c6 =>
  .bq fun dj =>
  .aD fun pp ec =>
  .aD fun de eU =>
  .ret (let bh:=kN (hX .live 2 aN br) kr c6;let cf:=db [0,1,2,3,4,5,19];let cI:=db [0,1,2,3,4,5];bW (t1.append [.ao false,.aJ (ap 2 (au (.fy 40 (.bu 2 (nf.1+0) 0 nf.2) (.gB (al.mk 2 (AM.map aN) .live) [])) (au (.gB (al.mk 2 (AM.map aN) .live) (aN pp)) (ap 2 [])))),.aJ (bO 1 (.fy 44 (.bu 2 (nf.1+0) 0 nf.2) (.gB (al.mk 2 (AM.map aN) .live) [])) 1),.bj [0,1,2,3,4,5,19] [.box [.id,.id,.id,.id,.id,.id],.bz (aq 1 (bN 2 0 2) ab),.bz (cR 2 aN br),.pure,.pure,.box [.id,.id],.box [.id,.id]] (bT [0,1,2,6,7,9,10,30,31,32,45,46]),(EU dg bJ gd a2 gi fb ((nf.2:Nat):Int) aT aI ct ab ai aX iw iu pp.cU pp.cy de).gh,(ag 2),.bj [0,1,2,3,4,5] [.box [.id,.id,.id,.id,.id,.id],.bz (aq 1 (bN 2 0 2) ab),.bz (cR 2 aN de),.pure,.pure,.box [.id,.id]] (bT [0,1,2,6,7,30,31,32])]) (a9.a3 (.bi aK (nV (dP:=2) (c:=0) (sz:=2) bQ) bh dj.1 dj.2 bh (cQ aN ec) (nV (dP:=2) (c:=0) (sz:=2) bQ) (.bi bh (ex cf 2 2 0 2 rfl ab) (eB cf 2 dK br) (aB 1 .live aA ai) (aB 1 .live dF aX) (Rs eU) (ex cI 2 2 0 2 rfl ab) (eB cI 2 dK de) (.aF (aB 1 .live aA ai) (aB 1 .live dF aX)))))))))
  (fun o =>
  .ret (let ee:=db [0,1,2,3,4,5];bW [(ag 1),.ao false,.bj [0,1,2,3,4,5] [.box [.id,.id,.id,.id,.id,.id],.bz (aq 1 (bN 2 0 2) ab),.bz (cR 2 aN br),.pure,.pure,.box [.id,.id]] (bT [0,1,2,7])] (.ea o (ex ee 2 2 0 2 rfl ab) (eB ee 2 dK br) (aB 1 .live aA ai) (aB 1 .live dF aX))))
theorem Rt {dg bJ:Int}{gd:bZ}{gi:Int}{aT:Bool}{aI:List Int}{ct:Int}{ab:List bZ}{ai:List Int}{aX:List Bool}{iw:Bool}{iu:List Int}{fb:Int}{br:List (List a5)}{r} (h:Ba dg bJ gd gi aT aI ct ab ai aX iw iu fb br=some r):fp bp 128 5 79 [1,1,0,1,0,0] (EM dg bJ gd gi aT aI ct ab ai aX iw iu) (EV dg bJ gd gi aT aI ct ab ai aX iw iu) (fb,br) r:=fr (fun _=>Rb) h
def EN (iV:bZ)(iG iH nY:Int)(aT:Bool)(aI:List Int)(ct:Int)(ab:List bZ)(ai:List Int)(aX:List Bool):(Int×(List (List a5)))→S:=fun (mq,br)=>eM [(14,mh 2 0 2 iV),(107,.bu 1 0 0 ab.length),(108,.n .i64 iG),(109,.n .i64 iH),(114,.n .i64 nY),(115,.n .i64 mq)] [[al.mk 6 [(ef 1 0 0 ab.length aT aI 3 0 0 ai.length ct 4 0 0 aX.length)] .live],(aq 1 (bN 2 0 2) ab),(cR 2 aN br),(aq 1 J ai),(aq 1 dk aX)]
def EW (iV:bZ)(iG iH nY:Int)(aT:Bool)(aI:List Int)(ct:Int)(ab:List bZ)(ai:List Int)(aX:List Bool):(List (List a5))→eP
 | a=>⟨some 6,[(107,.bu 1 0 0 ab.length),(108,.n .i64 iG),(109,.n .i64 iH)],[[al.mk 6 [(ef 1 0 0 ab.length aT aI 3 0 0 ai.length ct 4 0 0 aX.length)] .live],(aq 1 (bN 2 0 2) ab),(cR 2 aN a),(aq 1 J ai),(aq 1 dk aX)]⟩
def vh (iV:bZ)(iG iH nY:Int)(aT:Bool)(aI:List Int)(ct:Int)(ab:List bZ)(ai:List Int)(aX:List Bool)(mq:Int)(br:List (List a5)):Option ((Int×(List (List a5)))⊕((List (List a5)))) :=
 if (decide (mq<nY))=true then
  iV >>= fun d6 =>
  br[d6.1]? >>= fun iR =>
  if 0≤mq∧mq<(d6.2:Nat) then
  iR[(0+mq.toNat)]? >>= fun f7 =>
  o1 f7 >>= fun bf =>
  some (.inl (U (mq+(1:Int)),br.set d6.1 (iR.set (0+mq.toNat) bf)))
  else none
 else
  some (.inr br)
def Bb (iV:bZ)(iG iH nY:Int)(aT:Bool)(aI:List Int)(ct:Int)(ab:List bZ)(ai:List Int)(aX:List Bool)(mq:Int)(br:List (List a5)):Option ((List (List a5))):=iter (fun w:Int×(List (List a5))=>vh iV iG iH nY aT aI ct ab ai aX w.1 w.2) (mq,br)
theorem Rc {iV:bZ}{iG iH nY:Int}{aT:Bool}{aI:List Int}{ct:Int}{ab:List bZ}{ai:List Int}{aX:List Bool}{mq:Int}{br:List (List a5)}:bV (vh iV iG iH nY aT aI ct ab ai aX mq br) (fo bp 128 5 79 [1,1,1,1,1,1,1,1,0,0,1,1,0,0,1,1,0,0] (EN iV iG iH nY aT aI ct ab ai aX (mq,br)) (EN iV iG iH nY aT aI ct ab ai aX) (EW iV iG iH nY aT aI ct ab ai aX)):=by
 unfold vh
 exact .ite (fun o =>
  .aD fun d6 ae =>
  .aD fun iR aK =>
  .bq fun bI =>
  .aD fun f7 bE =>
  .aD fun bf dj =>
  .ret (let aW:=kN (hX .live 2 aN br) kr aK;bW [(ag 1),.ao true,(ag 2),.aJ (ap 4 (au (.fy 120 (.bu 2 (d6.1+0) 0 d6.2) (.gB (al.mk 2 (iR.map aN) .live) [])) (au (.gB (al.mk 2 (iR.map aN) .live) (aN f7)) (au (bM 1 (.agg (aN bf)) false) (au (.fy 118 (.bu 2 (d6.1+0) 0 d6.2) (.gB (al.mk 2 (iR.map aN) .live) [])) (au (.gB (al.mk 2 (iR.map aN) .live) (aN f7)) [])))))),(ag 2),.bj [0,1,2,3,4] [.box [.id,.id,.id,.id,.id,.id],.bz (aq 1 (bN 2 0 2) ab),.bz (cR 2 aN (br.set d6.1 (iR.set (0+mq.toNat) bf))),.pure,.pure] (bT [14,107,108,109,114,115])] (.bi o (nV (dP:=2) (c:=0) (sz:=2) ae) aW bI.1 bI.2 aW (cQ aN bE) (A8 bf dj) (.bi (nV (dP:=2) (c:=0) (sz:=2) ae) aW bI.1 bI.2 aW (cQ aN bE) (ex (db [0,1,2,3,4]) 2 2 0 2 rfl ab) (pJ (b5:=(db [0,1,2,3,4])) (q8 (hX .live 2 aN br) d6.1 (q6 (dW aN iR) (0+mq.toNat) bf (rfl:(setCells (aN f7) 0 (aN bf))=aN bf))) (o9 dK)) (.aF (aB 1 .live aA ai) (aB 1 .live dF aX))))))
  (fun o =>
  .ret (bW [(ag 1),.ao false,.bj [0,1,2,3,4] [.box [.id,.id,.id,.id,.id,.id],.bz (aq 1 (bN 2 0 2) ab),.bz (cR 2 aN br),.pure,.pure] (bT [107,108,109])] (.ea o (ex (db [0,1,2,3,4]) 2 2 0 2 rfl ab) (eB (db [0,1,2,3,4]) 2 dK br) (aB 1 .live aA ai) (aB 1 .live dF aX))))
theorem Ru {iV:bZ}{iG iH nY:Int}{aT:Bool}{aI:List Int}{ct:Int}{ab:List bZ}{ai:List Int}{aX:List Bool}{mq:Int}{br:List (List a5)}{r} (h:Bb iV iG iH nY aT aI ct ab ai aX mq br=some r):fp bp 128 5 79 [1,1,1,1,1,1,1,1,0,0,1,1,0,0,1,1,0,0] (EN iV iG iH nY aT aI ct ab ai aX) (EW iV iG iH nY aT aI ct ab ai aX) (mq,br) r:=fr (fun _=>Rc) h
def EO (iG:Int)(aT:Bool)(aI:List Int)(ct:Int)(ab:List bZ)(ai:List Int)(aX:List Bool):(Int×(List (List a5)))→S:=fun (iH,br)=>eM [(107,.bu 1 0 0 ab.length),(108,.n .i64 iG),(109,.n .i64 iH)] [[al.mk 6 [(ef 1 0 0 ab.length aT aI 3 0 0 ai.length ct 4 0 0 aX.length)] .live],(aq 1 (bN 2 0 2) ab),(cR 2 aN br),(aq 1 J ai),(aq 1 dk aX)]
def EX (iG:Int)(aT:Bool)(aI:List Int)(ct:Int)(ab:List bZ)(ai:List Int)(aX:List Bool):(List (List a5))→eP
 | a=>⟨some 4,[],[[al.mk 6 [(ef 1 0 0 ab.length aT aI 3 0 0 ai.length ct 4 0 0 aX.length)] .live],(aq 1 (bN 2 0 2) ab),(cR 2 aN a),(aq 1 J ai),(aq 1 dk aX)]⟩
def vi (iG:Int)(aT:Bool)(aI:List Int)(ct:Int)(ab:List bZ)(ai:List Int)(aX:List Bool)(iH:Int)(br:List (List a5)):Option ((Int×(List (List a5)))⊕((List (List a5)))) :=
 if (decide (iH<iG))=true then
  if 0≤iH∧iH<(ab.length:Nat) then
  ab[(0+iH.toNat)]? >>= fun a2 =>
  a2 >>= fun k3 =>
  br[k3.1]? >>= fun kI =>
  Bb a2 iG iH ((k3.2:Nat):Int) aT aI ct ab ai aX 0 br >>= fun bf =>
  some (.inl (U (iH+(1:Int)),bf))
  else none
 else
  some (.inr br)
def xS (iG:Int)(aT:Bool)(aI:List Int)(ct:Int)(ab:List bZ)(ai:List Int)(aX:List Bool)(iH:Int)(br:List (List a5)):Option ((List (List a5))):=iter (fun w:Int×(List (List a5))=>vi iG aT aI ct ab ai aX w.1 w.2) (iH,br)
theorem Rd {iG:Int}{aT:Bool}{aI:List Int}{ct:Int}{ab:List bZ}{ai:List Int}{aX:List Bool}{iH:Int}{br:List (List a5)}:bV (vi iG aT aI ct ab ai aX iH br) (fo bp 128 5 79 [1,1,1,1,1,1,1,1,0,0] (EO iG aT aI ct ab ai aX (iH,br)) (EO iG aT aI ct ab ai aX) (EX iG aT aI ct ab ai aX)):=by
 unfold vi
 exact .ite (fun o =>
  .bq fun R =>
  .aD fun a2 ay =>
  .aD fun k3 bI =>
  .aD fun kI bE =>
  .aD fun bf dj =>
  .ret (let aW:=db [0,1,2,3,4];let bh:=ex aW 2 2 0 2 rfl ab;bW [(ag 1),.ao true,.aJ (bO 1 (.c4 ((bN 2 0 2) a2)) 1),.aJ (bO 1 (.fy 113 (.bu 2 (k3.1+0) 0 k3.2) (.gB (al.mk 2 (kI.map aN) .live) [])) 1),.bj [0,1,2,3,4] [.box [.id,.id,.id,.id,.id,.id],.bz (aq 1 (bN 2 0 2) ab),.bz (cR 2 aN br),.pure,.pure] (bT [14,107,108,109,114,115]),(EW a2 iG iH ((k3.2:Nat):Int) aT aI ct ab ai aX bf).gh,(ag 2),.bj [0,1,2,3,4] [.box [.id,.id,.id,.id,.id,.id],.bz (aq 1 (bN 2 0 2) ab),.bz (cR 2 aN bf),.pure,.pure] (bT [107,108,109])] (.bi o R.1 R.2 (cQ (bN 2 0 2) ay) (nV (dP:=2) (c:=0) (sz:=2) bI) (kN (hX .live 2 aN br) kr bE) bh (eB aW 2 dK br) (.eT (aB 1 .live aA ai) (aB 1 .live dF aX) (Ru dj) bh (eB aW 2 dK bf) (aB 1 .live aA ai) (aB 1 .live dF aX)))))
  (fun o =>
  .ret (bW [(ag 1),.ao false,.bj [0,1,2,3,4] [.box [.id,.id,.id,.id,.id,.id],.bz (aq 1 (bN 2 0 2) ab),.bz (cR 2 aN br),.pure,.pure] []] (.ea o (ex (db [0,1,2,3,4]) 2 2 0 2 rfl ab) (eB (db [0,1,2,3,4]) 2 dK br) (aB 1 .live aA ai) (aB 1 .live dF aX))))
theorem Rv {iG:Int}{aT:Bool}{aI:List Int}{ct:Int}{ab:List bZ}{ai:List Int}{aX:List Bool}{iH:Int}{br:List (List a5)}{r} (h:xS iG aT aI ct ab ai aX iH br=some r):fp bp 128 5 79 [1,1,1,1,1,1,1,1,0,0] (EO iG aT aI ct ab ai aX) (EX iG aT aI ct ab ai aX) (iH,br) r:=fr (fun _=>Rd) h
def vy (dg bJ:Int)(bP:Bool)(cl:List Int)(eb:Int)(b9:List bZ)(kY:List (List a5))(cV:List Int)(gE:List Bool):Option (Bool×(List Int)×(List (List a5))×(List Int)) :=
 if 0≤dg∧dg<(b9.length:Nat) then
 b9[(0+dg.toNat)]? >>= fun eN =>
 eN >>= fun qQ =>
 kY[qQ.1]? >>= fun xF =>
 if 0≤bJ∧bJ<(qQ.2:Nat) then
 xF[(0+bJ.toNat)]? >>= fun gS =>
 Ba dg bJ eN ((b9.length:Nat):Int) bP cl eb b9 cV gE gS.cU gS.cy 0 kY >>= fun cr =>
 if 0≤dg∧dg<(cV.length:Nat) then
 if (0+dg.toNat)<cV.length then
 nP gS >>= fun fk =>
 if (decide ((0:Int)<fk))=true then
  some (gS.cU,gS.cy,cr,cV.set (0+dg.toNat) bJ)
 else
  o1 gS >>= fun d2 =>
  xS ((b9.length:Nat):Int) d2.cU d2.cy eb b9 (cV.set (0+dg.toNat) bJ) gE 0 cr >>= fun hT =>
  some (d2.cU,d2.cy,hT,cV.set (0+dg.toNat) bJ)
 else none
 else none
 else none
 else none
theorem K4 {dg bJ:Int}{bP:Bool}{cl:List Int}{eb:Int}{b9:List bZ}{kY:List (List a5)}{cV:List Int}{gE:List Bool}:bV (vy dg bJ bP cl eb b9 kY cV gE) (fun a=>Con bp 79 [.ref 0 0 0 0,.n .i64 dg,.n .i64 bJ] [[al.mk 6 [(ef 1 0 0 b9.length bP cl 3 0 0 cV.length eb 4 0 0 gE.length)] .live],(aq 1 (bN 2 0 2) b9),(cR 2 aN kY),(aq 1 J cV),(aq 1 dk gE)] (.dm []) [[al.mk 6 [(ef 1 0 0 b9.length a.1 a.2.1 3 0 0 a.2.2.2.length eb 4 0 0 gE.length)] .live],(aq 1 (bN 2 0 2) b9),(cR 2 aN a.2.2.1),(aq 1 J a.2.2.2),(aq 1 dk gE)]):=by
 unfold vy
 exact .bq fun o =>
  .aD fun eN ae =>
  .aD fun qQ aK =>
  .aD fun xF bQ =>
  .bq fun bE =>
  .aD fun gS dj =>
  .aD fun cr ec =>
  .bq fun dE =>
  .bq fun eU =>
  .aD fun fk gv =>
  (let ee:=kN (hX .live 2 aN kY) kr bQ;let fS:=db [0,1,2,3,4,17];let t1:List cL:=[.aJ (bO 6 (.c4 ((bN 2 0 2) eN)) 1),.aJ (ap 2 (au (.fy 23 (.bu 2 (qQ.1+0) 0 qQ.2) (.gB (al.mk 2 (xF.map aN) .live) [])) (au (.gB (al.mk 2 (xF.map aN) .live) (aN gS)) (ap 2 [])))),(ag 6),.bj [0,1,2,3,4,17] [.box [.id,.id,.id,.id,.id,.id],.bz (aq 1 (bN 2 0 2) b9),.bz (cR 2 aN kY),.pure,.pure,.box [.id,.id]] (bT [0,1,2,6,7,30,31,32]),(EV dg bJ eN ((b9.length:Nat):Int) bP cl eb b9 cV gE gS.cU gS.cy cr).gh,(ag 5),.aJ (ap 7 (au .dx [])),.aJ (bO 1 (bM 1 (.n .i64 fk) true) 1)];
  have a9:=((.bi o.1 o.2 (cQ (bN 2 0 2) ae) (nV (dP:=2) (c:=0) (sz:=2) aK) ee bE.1 bE.2 ee (.bi (cQ aN dj) (ex fS 2 2 0 2 rfl b9) (eB fS 2 dK kY) (aB 1 .live aA cV) (aB 1 .live dF gE) (Rt ec) dE.1 dE.2 (.dy (h9 J eU) (hp 1) (ry fk gv) (cm.n .i64 fk)))):cT _);
  .ite (fun gz =>
  .ret (hH (t1.append [.ao true]) [0,1,2,3,4] [.bz [al.mk 6 [(ef 1 0 0 b9.length gS.cU gS.cy 3 0 0 ((cV.set (0+dg.toNat) bJ).length) eb 4 0 0 gE.length)] .live],.bz (aq 1 (bN 2 0 2) b9),.bz (cR 2 aN cr),.dL (aq 1 J (cV.set (0+dg.toNat) bJ)),.pure] (a9.a3 (.eT gz (ib (show al.mk 6 [(ef 1 0 0 b9.length gS.cU gS.cy 3 0 0 ((cV.set (0+dg.toNat) bJ).length) eb 4 0 0 gE.length)] .live=jr (db [0,1,2,3,4]) (al.mk 6 [(ef 1 0 0 b9.length gS.cU gS.cy 3 0 0 cV.length eb 4 0 0 gE.length)] .live) from (congrArg (fun aaS=>al.mk 6 [(ef 1 0 0 b9.length gS.cU gS.cy 3 0 0 aaS eb 4 0 0 gE.length)] .live) (hC (fl cV) (0+dg.toNat) bJ).symm)) qo) (ex (db [0,1,2,3,4]) 2 2 0 2 rfl b9) (eB (db [0,1,2,3,4]) 2 dK cr) (eA 1 .live (ga (dW J cV) (0+dg.toNat) bJ)) (aB 1 .live aA (cV.set (0+dg.toNat) bJ)) (aB 1 .live dF gE)))))
  (fun gz =>
  .aD fun d2 gZ =>
  .aD fun hT m5 =>
  .ret (let aW:=ef 1 0 0 b9.length d2.cU d2.cy 3 0 0 ((cV.set (0+dg.toNat) bJ).length) eb 4 0 0 gE.length;let bh:=db [0,1,2,3,4];let cf:=aB 1 .live aA (cV.set (0+dg.toNat) bJ);let cI:=ex bh 2 2 0 2 rfl b9;hH (t1.append [.ao false,.aJ (bO 2 (bM 1 (.agg (aN d2)) false) 3),(ag 6),.bj [0,1,2,3,4] [.box [.id,.id,.id,.len ((cV.set (0+dg.toNat) bJ).length),.id,.id],.bz (aq 1 (bN 2 0 2) b9),.bz (cR 2 aN cr),.dL (aq 1 J (cV.set (0+dg.toNat) bJ)),.pure] (bT [107,108,109]),(EX ((b9.length:Nat):Int) d2.cU d2.cy eb b9 (cV.set (0+dg.toNat) bJ) gE hT).gh]) [0,1,2,3,4] [.bz [al.mk 6 [aW] .live],.bz (aq 1 (bN 2 0 2) b9),.bz (cR 2 aN hT),.pure,.pure] (a9.a3 (.bi gz (A8 d2 gZ) (hC (fl cV) (0+dg.toNat) bJ) cI (eB bh 2 dK cr) (eA 1 .live (ga (dW J cV) (0+dg.toNat) bJ)) cf (aB 1 .live dF gE) (.e7 (Rv m5) (gR bh 6 [aW] [aW] rfl) cI (eB bh 2 dK hT) cf (aB 1 .live dF gE)))))))
def EC (bU:Int)(aT:Bool)(aI:List Int)(ab:List bZ)(br:List (List a5))(ai:List Int)(aX:List Bool)(bo:List Int):Int→S:=fun b0=>eM [(0,.ref 0 0 0 0),(1,.bu 5 0 0 bo.length),(5,.b false),(13,.n .i64 bU),(14,.n .i64 b0)] [[al.mk 6 [(ef 1 0 0 ab.length aT aI 3 0 0 ai.length bU 4 0 0 aX.length)] .live],(aq 1 (bN 2 0 2) ab),(cR 2 aN br),(aq 1 J ai),(aq 1 dk aX),(aq 1 J bo)]
def AZ (bU:Int)(aT:Bool)(aI:List Int)(ab:List bZ)(br:List (List a5))(ai:List Int)(aX:List Bool)(bo:List Int):((Bool×Bool×(List Int)×(List (List a5))×(List Int))⊕(Unit))→eP
 | .inl a=>⟨some 2,[(0,.ref 0 0 0 0),(1,.bu 5 0 0 bo.length),(5,.b a.1)],[[al.mk 6 [(ef 1 0 0 ab.length a.2.1 a.2.2.1 3 0 0 a.2.2.2.2.length bU 4 0 0 aX.length)] .live],(aq 1 (bN 2 0 2) ab),(cR 2 aN a.2.2.2.1),(aq 1 J a.2.2.2.2),(aq 1 dk aX),(aq 1 J bo)]⟩
 | .inr a=>⟨none,[(4,.b false)],[[al.mk 6 [(ef 1 0 0 ab.length aT aI 3 0 0 ai.length bU 4 0 0 aX.length)] .live],(aq 1 (bN 2 0 2) ab),(cR 2 aN br),(aq 1 J ai),(aq 1 dk aX),(aq 1 J bo)]⟩
def vb (bU:Int)(aT:Bool)(aI:List Int)(ab:List bZ)(br:List (List a5))(ai:List Int)(aX:List Bool)(bo:List Int)(b0:Int):Option ((Int)⊕((Bool×Bool×(List Int)×(List (List a5))×(List Int))⊕(Unit))) :=
 if (decide (b0<bU))=true then
  if 0≤b0∧b0<(aX.length:Nat) then
  aX[(0+b0.toNat)]? >>= fun a2 =>
  if a2=true then
   rH ai b0 >>= fun bw =>
   if bw=true then
    some (.inl (U (b0+(1:Int))))
   else
    if ab.all (uC br)=true then
    vR (⟨ab.map (lA br),(⟨aT,aI⟩:a5),ai,bU,aX⟩:ql) bo b0 >>= fun fc =>
    if (decide (fc≤(0:Int)))=true then
     some (.inl (U (b0+(1:Int))))
    else
     xV (⟨ab.map (lA br),(⟨aT,aI⟩:a5),ai,bU,aX⟩:ql) b0 >>= fun de =>
     if (decide (de<(0:Int)))=true then
      some (.inr (.inr ()))
     else
      vy de b0 aT aI bU ab br ai aX >>= fun dr =>
      some (.inr (.inl (true,dr.1,dr.2.1,dr.2.2.1,dr.2.2.2)))
    else none
  else
   some (.inl (U (b0+(1:Int))))
  else none
 else
  some (.inr (.inl (false,aT,aI,br,ai)))
def vn (bU:Int)(aT:Bool)(aI:List Int)(ab:List bZ)(br:List (List a5))(ai:List Int)(aX:List Bool)(bo:List Int)(b0:Int):Option ((Bool×Bool×(List Int)×(List (List a5))×(List Int))⊕(Unit)):=iter (fun w:Int=>vb bU aT aI ab br ai aX bo w) b0
theorem QY {bU:Int}{aT:Bool}{aI:List Int}{ab:List bZ}{br:List (List a5)}{ai:List Int}{aX:List Bool}{bo:List Int}{b0:Int}:bV (vb bU aT aI ab br ai aX bo b0) (fo bp 87 6 56 [1,0,1,0,0,1,0,1,1,0,0] (EC bU aT aI ab br ai aX bo b0) (EC bU aT aI ab br ai aX bo) (AZ bU aT aI ab br ai aX bo)):=by
 unfold vb
 exact .ite (fun o =>
  .bq fun R =>
  .aD fun a2 ay =>
  (let t1:List cL:=[(ag 1),.ao true,(ag 2)];
  .ite (fun aK =>
  .aD fun bw bQ =>
  (have a9:=((.bi o R.1 R.2 (cQ dk ay) (dU aK) (dU aK) (dU aK) (dU aK) (.gH (dU aK) (dU aK) (jH J ai) (i3 J ai) (ey aA ai) (GS bw bQ) (cm.b bw) (dU aK))):cT _);
  .ite (fun bE =>
  .ret (let aW:=db [0,1,2,3,4,5];bW (t1.append [.aJ (ap 6 (au (.c4 (dk a2)) (ap 7 (au (.call {ac:=[.bF (.cu (.fI (ai.map J))),ii],r:= .b bw,dB:=true,dD:=[3]}) (au (.ao false) (ap 1 (cO 5 (au (.ao true) [])))))))),.ao true,(ag 2),.bj [0,1,2,3,4,5] [.box [.id,.id,.id,.id,.id,.id],.bz (aq 1 (bN 2 0 2) ab),.bz (cR 2 aN br),.pure,.pure,.pure] (bT [0,1,5,13,14])]) (a9.a3 (.bi bE bE bE bE bE bE cv (ex aW 2 2 0 2 rfl ab) (.dy (eB aW 2 dK br) (aB 1 .live aA ai) (aB 1 .live dF aX) (aB 1 .live aA bo))))))
  (fun bE =>
  .bq fun c6 =>
  .aD fun fc eu =>
  (let t3:List cL:=t1.append [.aJ (ap 6 (au (.c4 (dk a2)) (ap 7 (au (.call {ac:=[.bF (.cu (.fI (ai.map J))),ii],r:= .b bw,dB:=true,dD:=[3]}) (au (.ao false) (ap 4 (au (.call {ac:=[.bF (.ptr [.view 2 (al.mk 1 (ab.map (bN 2 0 2)) .live) ((ab.map (lA br)).map (eR 2 aN)),.id,.id,.fI (ai.map J),.id,.fI (aX.map dk)]),.bF (.cu (.fI (bo.map J))),ii],r:= .n .i64 fc,dB:=true,dD:=[0,1,2,3,4,5]}) (ap 1 (au (.ao false) [])))))))))];
  have fA:=a9.a3 (.bi bE bE bE bE (rfl:c0 (some (aq 1 (bN 2 0 2) ab)) 0=some (al.mk 1 (ab.map (bN 2 0 2)) .live)) (rfl:_=true) (i3 (bN 2 0 2) ab) (ey (oF (sz:=2) rD) (ab.map (lA br))) (.bi (CX (dP:=2) (iZ:=[]++(cR 2 aN br)) (bL:=lf) (sz:=1) (g:=(eR 2 aN)) (dW (bN 2 0 2) ab) (fun _=>rfl) (fun x aa=>(Ju (dP:=2) (c:=0) (bL:=lf) (sR:=[]) (hX .live 2 aN br) rD rfl kr rfl (H9 c6 x aa))) (fl ab)) (jH J ai) (i3 J ai) (ey aA ai) (jH dk aX) (i3 dk aX) (ey dF aX) (k9 (GA (⟨ab.map (lA br),(⟨aT,aI⟩:a5),ai,bU,aX⟩:ql)):gU [[.isl 1 ((ab.map (lA br)).map (eR 2 aN)),.b aT,.isl 1 (aI.map J),.isl 1 (ai.map J),.n .i64 bU,.isl 1 (aX.map dk)]]) (.eT (jH J bo) (i3 J bo) (ey aA bo) (Lb fc eu) (cm.n .i64 fc) bE bE)));
  .ite (fun ec =>
  .ret (let bh:=db [0,1,2,3,4,5];bW (t3.append [.ao true,(ag 2),.bj [0,1,2,3,4,5] [.box [.id,.id,.id,.id,.id,.id],.bz (aq 1 (bN 2 0 2) ab),.bz (cR 2 aN br),.pure,.pure,.pure] (bT [0,1,5,13,14])]) (fA.a3 (.e7 ec (ex bh 2 2 0 2 rfl ab) (eB bh 2 dK br) (aB 1 .live aA ai) (aB 1 .live dF aX) (aB 1 .live aA bo)))))
  (fun ec =>
  .aD fun de eU =>
  (let t5:List cL:=t3.append [.ao false,.aJ (bO 2 (.call {ac:=[.bF (.ptr [.view 2 (al.mk 1 (ab.map (bN 2 0 2)) .live) ((ab.map (lA br)).map (eR 2 aN)),.id,.id,.fI (ai.map J),.id,.fI (aX.map dk)]),ii],r:= .n .i64 de,dB:=true,dD:=[0,1,2,3,4]}) 1),(ag 2)];
  have kH:=fA.a3 (.bi ec (rfl:c0 (some (aq 1 (bN 2 0 2) ab)) 0=some (al.mk 1 (ab.map (bN 2 0 2)) .live)) (rfl:_=true) (i3 (bN 2 0 2) ab) (ey (oF (sz:=2) rD) (ab.map (lA br))) (CX (dP:=2) (iZ:=[]++(cR 2 aN br)) (bL:=lf) (sz:=1) (g:=(eR 2 aN)) (dW (bN 2 0 2) ab) (fun _=>rfl) (fun x aa=>(Ju (dP:=2) (c:=0) (bL:=lf) (sR:=[]) (hX .live 2 aN br) rD rfl kr rfl (H9 c6 x aa))) (fl ab)) (jH J ai) (i3 J ai) (.eT (ey aA ai) (jH dk aX) (i3 dk aX) (ey dF aX) (k9 (GA (⟨ab.map (lA br),(⟨aT,aI⟩:a5),ai,bU,aX⟩:ql)):gU [[.isl 1 ((ab.map (lA br)).map (eR 2 aN)),.b aT,.isl 1 (aI.map J),.isl 1 (ai.map J),.n .i64 bU,.isl 1 (aX.map dk)]]) (RL de eU) (cm.n .i64 de)));
  .ite (fun d3 =>
  .ret (let cf:=db [0,1,2,3,4,5];bW (t5.append [.ao true,(ag 1),.bj [0,1,2,3,4,5] [.box [.id,.id,.id,.id,.id,.id],.bz (aq 1 (bN 2 0 2) ab),.bz (cR 2 aN br),.pure,.pure,.pure] (bT [4])]) (kH.a3 (.e7 d3 (ex cf 2 2 0 2 rfl ab) (eB cf 2 dK br) (aB 1 .live aA ai) (aB 1 .live dF aX) (aB 1 .live aA bo)))))
  (fun d3 =>
  .aD fun dr gz =>
  .ret (let cI:=ef 1 0 0 ab.length dr.1 dr.2.1 3 0 0 dr.2.2.2.length bU 4 0 0 aX.length;let ee:=ef 1 0 0 ab.length aT aI 3 0 0 ai.length bU 4 0 0 aX.length;let fS:=aq 1 (bN 2 0 2) ab;let gx:=cR 2 aN dr.2.2.1;let e8:=nL [0,1,2,3,4];let hK:=kc [0,1,2,3,4];let h4:=gN 1 (ab.map (bN 2 0 2));let jS:=db [0,1,2,3,4,5];bW (t5.append [.ao false,.aJ (ap 3 (au (.call {aL:=(lo [0,1,2,3,4]),cq:=[.bz [al.mk 6 [ee] .live],.bz fS,.bz (cR 2 aN br),.pure,.pure],ac:=[ii,ii,ii],r:= .dm [],dh:=[[al.mk 6 [cI] .live],fS,gx,(aq 1 J dr.2.2.2),(aq 1 dk aX)],ez:=ii,e5:=[.bz [al.mk 6 [cI] .live],.bz fS,.bz gx,.pure,.pure],dD:=[0,1,2,3,4],dB:=false}) [])),(ag 1),.bj [0,1,2,3,4,5] [.box [.id,.id,.id,.id,.id,.id],.bz fS,.bz gx,.pure,.pure,.pure] (bT [0,1,5])]) (kH.a3 (.bi d3 (gR e8 6 [ee] [ee] rfl) (gN 6 [ee]) (ex e8 2 2 0 2 rfl ab) h4 (eB e8 2 dK br) (qf 2 aN br) (eo 1 aA ai) (.bi (eo 1 dF aX) (gR hK 6 [cI] [cI] rfl) (gN 6 [cI]) (ex hK 2 2 0 2 rfl ab) h4 (eB hK 2 dK dr.2.2.1) (qf 2 aN dr.2.2.1) (eo 1 aA dr.2.2.2) (.eT (eo 1 dF aX) (K4 dr gz) (ex jS 2 2 0 2 rfl ab) (eB jS 2 dK dr.2.2.1) (aB 1 .live aA dr.2.2.2) (aB 1 .live dF aX) (aB 1 .live aA bo)))))))))))))
  (fun aK =>
  .ret (let jT:=db [0,1,2,3,4,5];bW (t1.append [.aJ (ap 6 (au (.c4 (dk a2)) (ap 2 (cO 6 (au (.ao true) (ap 1 (cO 5 (ap 1 [])))))))),.ao true,(ag 2),.bj [0,1,2,3,4,5] [.box [.id,.id,.id,.id,.id,.id],.bz (aq 1 (bN 2 0 2) ab),.bz (cR 2 aN br),.pure,.pure,.pure] (bT [0,1,5,13,14])]) (.bi o R.1 R.2 (cQ dk ay) (dN aK) (dN aK) (dN aK) (dN aK) (.bi (dN aK) (dN aK) (dN aK) cv cv cv cv cv (.e7 cv (ex jT 2 2 0 2 rfl ab) (eB jT 2 dK br) (aB 1 .live aA ai) (aB 1 .live dF aX) (aB 1 .live aA bo))))))))
  (fun o =>
  .ret (let l9:=db [0,1,2,3,4,5];bW [(ag 1),.ao false,.bj [0,1,2,3,4,5] [.box [.id,.id,.id,.id,.id,.id],.bz (aq 1 (bN 2 0 2) ab),.bz (cR 2 aN br),.pure,.pure,.pure] (bT [0,1,5])] (.e7 o (ex l9 2 2 0 2 rfl ab) (eB l9 2 dK br) (aB 1 .live aA ai) (aB 1 .live dF aX) (aB 1 .live aA bo))))
theorem KW {bU:Int}{aT:Bool}{aI:List Int}{ab:List bZ}{br:List (List a5)}{ai:List Int}{aX:List Bool}{bo:List Int}{b0:Int}{r} (h:vn bU aT aI ab br ai aX bo b0=some r):fp bp 87 6 56 [1,0,1,0,0,1,0,1,1,0,0] (EC bU aT aI ab br ai aX bo) (AZ bU aT aI ab br ai aX bo) b0 r:=fr (fun _=>QY) h
def ED (ct:Int)(ab:List bZ)(aX:List Bool)(bo:List Int):(Bool×Bool×(List Int)×(List (List a5))×(List Int))→S:=fun (qm,aT,aI,br,ai)=>eM [(0,.ref 0 0 0 0),(1,.bu 5 0 0 bo.length),(5,.b qm)] [[al.mk 6 [(ef 1 0 0 ab.length aT aI 3 0 0 ai.length ct 4 0 0 aX.length)] .live],(aq 1 (bN 2 0 2) ab),(cR 2 aN br),(aq 1 J ai),(aq 1 dk aX),(aq 1 J bo)]
def A0 (ct:Int)(ab:List bZ)(aX:List Bool)(bo:List Int):((Bool×(List Int)×(List (List a5))×(List Int))⊕(Bool×(List Int)×(List (List a5))×(List Int)))→eP
 | .inl a=>⟨some 0,[(0,.ref 0 0 0 0),(1,.bu 5 0 0 bo.length)],[[al.mk 6 [(ef 1 0 0 ab.length a.1 a.2.1 3 0 0 a.2.2.2.length ct 4 0 0 aX.length)] .live],(aq 1 (bN 2 0 2) ab),(cR 2 aN a.2.2.1),(aq 1 J a.2.2.2),(aq 1 dk aX),(aq 1 J bo)]⟩
 | .inr a=>⟨none,[(4,.b false)],[[al.mk 6 [(ef 1 0 0 ab.length a.1 a.2.1 3 0 0 a.2.2.2.length ct 4 0 0 aX.length)] .live],(aq 1 (bN 2 0 2) ab),(cR 2 aN a.2.2.1),(aq 1 J a.2.2.2),(aq 1 dk aX),(aq 1 J bo)]⟩
def tq (ct:Int)(ab:List bZ)(aX:List Bool)(bo:List Int)(qm aT:Bool)(aI:List Int)(br:List (List a5))(ai:List Int):Option ((Bool×Bool×(List Int)×(List (List a5))×(List Int))⊕((Bool×(List Int)×(List (List a5))×(List Int))⊕(Bool×(List Int)×(List (List a5))×(List Int)))) :=
 if qm=true then
  vn ct aT aI ab br ai aX bo 0 >>= fun b3 =>
  match b3 with
  | .inl hJ=>(some (.inl (hJ.1,hJ.2.1,hJ.2.2.1,hJ.2.2.2.1,hJ.2.2.2.2)))
  | .inr hJ=>(some (.inr (.inr (aT,aI,br,ai))))
 else
  some (.inr (.inl (aT,aI,br,ai)))
def A5 (ct:Int)(ab:List bZ)(aX:List Bool)(bo:List Int)(qm aT:Bool)(aI:List Int)(br:List (List a5))(ai:List Int):Option ((Bool×(List Int)×(List (List a5))×(List Int))⊕(Bool×(List Int)×(List (List a5))×(List Int))):=iter (fun w:Bool×Bool×(List Int)×(List (List a5))×(List Int)=>tq ct ab aX bo w.1 w.2.1 w.2.2.1 w.2.2.2.1 w.2.2.2.2) (qm,aT,aI,br,ai)
theorem QZ {ct:Int}{ab:List bZ}{aX:List Bool}{bo:List Int}{qm aT:Bool}{aI:List Int}{br:List (List a5)}{ai:List Int}:bV (tq ct ab aX bo qm aT aI br ai) (fo bp 87 6 56 [1,0,1,0,0] (ED ct ab aX bo (qm,aT,aI,br,ai)) (ED ct ab aX bo) (A0 ct ab aX bo)):=by
 unfold tq
 exact .ite (fun o =>
  .aD fun b3 ae =>
  (let cI:=db [0,1,2,3,4,5];let t1:List cL:=[(ag 1),.ao true,(ag 1),(ag 5),.bj [0,1,2,3,4,5] [.box [.id,.id,.id,.id,.id,.id],.bz (aq 1 (bN 2 0 2) ab),.bz (cR 2 aN br),.pure,.pure,.pure] (bT [0,1,5,13,14])];
  have a9:=((.e7 o (ex cI 2 2 0 2 rfl ab) (eB cI 2 dK br) (aB 1 .live aA ai) (aB 1 .live dF aX) (aB 1 .live aA bo)):cT _);
  (by
  rcases b3 with hJ|hJ
  ·exact (.ret (let aW:=db [0,1,2,3,4,5];bW (t1.append [(AZ ct aT aI ab br ai aX bo (.inl hJ)).gh,.bj [0,1,2,3,4,5] [.box [.id,.id,.id,.id,.id,.id],.bz (aq 1 (bN 2 0 2) ab),.bz (cR 2 aN hJ.2.2.2.1),.pure,.pure,.pure] (bT [0,1,5])]) (a9.a3 (.e7 (KW ae) (ex aW 2 2 0 2 rfl ab) (eB aW 2 dK hJ.2.2.2.1) (aB 1 .live aA hJ.2.2.2.2) (aB 1 .live dF aX) (aB 1 .live aA bo)))))
  ·exact (.ret (let bh:=db [0,1,2,3,4,5];bW (t1.append [(AZ ct aT aI ab br ai aX bo (.inr hJ)).gh,.bj [0,1,2,3,4,5] [.box [.id,.id,.id,.id,.id,.id],.bz (aq 1 (bN 2 0 2) ab),.bz (cR 2 aN br),.pure,.pure,.pure] (bT [4])]) (a9.a3 (.e7 (KW ae) (ex bh 2 2 0 2 rfl ab) (eB bh 2 dK br) (aB 1 .live aA ai) (aB 1 .live dF aX) (aB 1 .live aA bo))))))))
  (fun o =>
  .ret (let cf:=db [0,1,2,3,4,5];bW [(ag 1),.ao false,.bj [0,1,2,3,4,5] [.box [.id,.id,.id,.id,.id,.id],.bz (aq 1 (bN 2 0 2) ab),.bz (cR 2 aN br),.pure,.pure,.pure] (bT [0,1])] (.e7 o (ex cf 2 2 0 2 rfl ab) (eB cf 2 dK br) (aB 1 .live aA ai) (aB 1 .live dF aX) (aB 1 .live aA bo))))
theorem KX {ct:Int}{ab:List bZ}{aX:List Bool}{bo:List Int}{qm aT:Bool}{aI:List Int}{br:List (List a5)}{ai:List Int}{r} (h:A5 ct ab aX bo qm aT aI br ai=some r):fp bp 87 6 56 [1,0,1,0,0] (ED ct ab aX bo) (A0 ct ab aX bo) (qm,aT,aI,br,ai) r:=fr (fun _=>QZ) h
def EE (fj:Int)(aT:Bool)(aI:List Int)(ab:List bZ)(br:List (List a5))(ai bo:List Int):(Int×(List Bool))→S:=fun (gP,aX)=>eM [(0,.ref 0 0 0 0),(1,.bu 5 0 0 bo.length),(53,.n .i64 fj),(54,.n .i64 gP)] [[al.mk 6 [(ef 1 0 0 ab.length aT aI 3 0 0 ai.length fj 4 0 0 aX.length)] .live],(aq 1 (bN 2 0 2) ab),(cR 2 aN br),(aq 1 J ai),(aq 1 dk aX),(aq 1 J bo)]
def EH (fj:Int)(aT:Bool)(aI:List Int)(ab:List bZ)(br:List (List a5))(ai bo:List Int):(List Bool)→eP
 | a=>⟨some 4,[],[[al.mk 6 [(ef 1 0 0 ab.length aT aI 3 0 0 ai.length fj 4 0 0 a.length)] .live],(aq 1 (bN 2 0 2) ab),(cR 2 aN br),(aq 1 J ai),(aq 1 dk a),(aq 1 J bo)]⟩
def vc (fj:Int)(aT:Bool)(aI:List Int)(ab:List bZ)(br:List (List a5))(ai bo:List Int)(gP:Int)(aX:List Bool):Option ((Int×(List Bool))⊕((List Bool))) :=
 if (decide (gP<fj))=true then
  if 0≤gP∧gP<(aX.length:Nat) then
  aX[(0+gP.toNat)]? >>= fun a2 =>
  if a2=true then
   rH ai gP >>= fun bw =>
   if bw=true then
    some (.inl (U (gP+(1:Int)),aX))
   else
    if ab.all (uC br)=true then
    vR (⟨ab.map (lA br),(⟨aT,aI⟩:a5),ai,fj,aX⟩:ql) bo gP >>= fun fc =>
    if (decide (fc<(0:Int)))=true then
     if (0+gP.toNat)<aX.length then
     some (.inl (U (gP+(1:Int)),aX.set (0+gP.toNat) false))
     else none
    else
     some (.inl (U (gP+(1:Int)),aX))
    else none
  else
   some (.inl (U (gP+(1:Int)),aX))
  else none
 else
  some (.inr aX)
def A6 (fj:Int)(aT:Bool)(aI:List Int)(ab:List bZ)(br:List (List a5))(ai bo:List Int)(gP:Int)(aX:List Bool):Option ((List Bool)):=iter (fun w:Int×(List Bool)=>vc fj aT aI ab br ai bo w.1 w.2) (gP,aX)
theorem Q0 {fj:Int}{aT:Bool}{aI:List Int}{ab:List bZ}{br:List (List a5)}{ai bo:List Int}{gP:Int}{aX:List Bool}:bV (vc fj aT aI ab br ai bo gP aX) (fo bp 87 6 56 [1,1,0,1,0,0] (EE fj aT aI ab br ai bo (gP,aX)) (EE fj aT aI ab br ai bo) (EH fj aT aI ab br ai bo)):=by
 unfold vc
 exact .ite (fun o =>
  .bq fun R =>
  .aD fun a2 ay =>
  (let t1:List cL:=[(ag 1),.ao true,(ag 2)];
  .ite (fun aK =>
  .aD fun bw bQ =>
  (have a9:=((.bi o R.1 R.2 (cQ dk ay) aK aK aK aK (.bi aK aK (jH J ai) (i3 J ai) (ey aA ai) (GS bw bQ) (cm.b bw) aK (.ax aK))):cT _);
  .ite (fun bE =>
  .ret (let aW:=db [0,1,2,3,4,5];bW (t1.append [.aJ (ap 6 (au (.c4 (dk a2)) (ap 6 (au (.call {ac:=[.bF (.cu (.fI (ai.map J))),ii],r:= .b bw,dB:=true,dD:=[3]}) (ap 1 (au (.ao true) (ap 1 (cO 5 (au (.ao false) []))))))))),.ao false,(ag 2),.bj [0,1,2,3,4,5] [.box [.id,.id,.id,.id,.id,.id],.bz (aq 1 (bN 2 0 2) ab),.bz (cR 2 aN br),.pure,.pure,.pure] (bT [0,1,53,54])]) (a9.a3 (.bi (dU bE) (dU bE) (dU bE) (dU bE) (dU bE) (dU bE) eW (ex aW 2 2 0 2 rfl ab) (.dy (eB aW 2 dK br) (aB 1 .live aA ai) (aB 1 .live dF aX) (aB 1 .live aA bo))))))
  (fun bE =>
  .bq fun c6 =>
  .aD fun fc eu =>
  (let t3:List cL:=t1.append [.aJ (ap 6 (au (.c4 (dk a2)) (ap 6 (au (.call {ac:=[.bF (.cu (.fI (ai.map J))),ii],r:= .b bw,dB:=true,dD:=[3]}) (ap 1 (au (.ao true) (ap 4 (au (.call {ac:=[.bF (.ptr [.view 2 (al.mk 1 (ab.map (bN 2 0 2)) .live) ((ab.map (lA br)).map (eR 2 aN)),.id,.id,.fI (ai.map J),.id,.fI (aX.map dk)]),.bF (.cu (.fI (bo.map J))),ii],r:= .n .i64 fc,dB:=true,dD:=[0,1,2,3,4,5]}) (ap 1 (au (.ao true) []))))))))))];
  have fA:=a9.a3 (.bi (dN bE) (dN bE) (dN bE) (dN bE) (rfl:c0 (some (aq 1 (bN 2 0 2) ab)) 0=some (al.mk 1 (ab.map (bN 2 0 2)) .live)) (rfl:_=true) (i3 (bN 2 0 2) ab) (ey (oF (sz:=2) rD) (ab.map (lA br))) (.bi (CX (dP:=2) (iZ:=[]++(cR 2 aN br)) (bL:=lf) (sz:=1) (g:=(eR 2 aN)) (dW (bN 2 0 2) ab) (fun _=>rfl) (fun x aa=>(Ju (dP:=2) (c:=0) (bL:=lf) (sR:=[]) (hX .live 2 aN br) rD rfl kr rfl (H9 c6 x aa))) (fl ab)) (jH J ai) (i3 J ai) (ey aA ai) (jH dk aX) (i3 dk aX) (ey dF aX) (k9 (GA (⟨ab.map (lA br),(⟨aT,aI⟩:a5),ai,fj,aX⟩:ql)):gU [[.isl 1 ((ab.map (lA br)).map (eR 2 aN)),.b aT,.isl 1 (aI.map J),.isl 1 (ai.map J),.n .i64 fj,.isl 1 (aX.map dk)]]) (.eT (jH J bo) (i3 J bo) (ey aA bo) (Lb fc eu) (cm.n .i64 fc) (dN bE) (dN bE))));
  .ite (fun ec =>
  .bq fun dE =>
  .ret (let bh:=db [0,1,2,3,4,5];bW (t3.append [.ao true,.aJ (ap 6 (au .dx [])),(ag 2),.bj [0,1,2,3,4,5] [.box [.id,.id,.id,.id,.id,.len ((aX.set (0+gP.toNat) false).length)],.bz (aq 1 (bN 2 0 2) ab),.bz (cR 2 aN br),.pure,.dL (aq 1 dk (aX.set (0+gP.toNat) false)),.pure] (bT [0,1,53,54])]) (fA.a3 (.bi ec R.1 R.2 (h9 dk dE) (hp 1) (hC (fl aX) (0+gP.toNat) false) (ex bh 2 2 0 2 rfl ab) (eB bh 2 dK br) (.dy (aB 1 .live aA ai) (eA 1 .live (ga (dW dk aX) (0+gP.toNat) false)) (aB 1 .live dF (aX.set (0+gP.toNat) false)) (aB 1 .live aA bo))))))
  (fun ec =>
  .ret (let cf:=db [0,1,2,3,4,5];bW (t3.append [.ao false,(ag 2),.bj [0,1,2,3,4,5] [.box [.id,.id,.id,.id,.id,.id],.bz (aq 1 (bN 2 0 2) ab),.bz (cR 2 aN br),.pure,.pure,.pure] (bT [0,1,53,54])]) (fA.a3 (.e7 ec (ex cf 2 2 0 2 rfl ab) (eB cf 2 dK br) (aB 1 .live aA ai) (aB 1 .live dF aX) (aB 1 .live aA bo)))))))))
  (fun aK =>
  .ret (let cI:=db [0,1,2,3,4,5];bW (t1.append [.aJ (ap 6 (au (.c4 (dk a2)) (ap 1 (cO 7 (au (.ao false) (ap 1 (cO 5 (ap 1 [])))))))),.ao false,(ag 2),.bj [0,1,2,3,4,5] [.box [.id,.id,.id,.id,.id,.id],.bz (aq 1 (bN 2 0 2) ab),.bz (cR 2 aN br),.pure,.pure,.pure] (bT [0,1,53,54])]) (.bi o R.1 R.2 (cQ dk ay) aK aK aK aK (.bi aK aK aK aK eW eW eW eW (.eT eW eW (ex cI 2 2 0 2 rfl ab) (eB cI 2 dK br) (aB 1 .live aA ai) (aB 1 .live dF aX) (aB 1 .live aA bo))))))))
  (fun o =>
  .ret (let ee:=db [0,1,2,3,4,5];bW [(ag 1),.ao false,.bj [0,1,2,3,4,5] [.box [.id,.id,.id,.id,.id,.id],.bz (aq 1 (bN 2 0 2) ab),.bz (cR 2 aN br),.pure,.pure,.pure] []] (.e7 o (ex ee 2 2 0 2 rfl ab) (eB ee 2 dK br) (aB 1 .live aA ai) (aB 1 .live dF aX) (aB 1 .live aA bo))))
theorem Rl {fj:Int}{aT:Bool}{aI:List Int}{ab:List bZ}{br:List (List a5)}{ai bo:List Int}{gP:Int}{aX:List Bool}{r} (h:A6 fj aT aI ab br ai bo gP aX=some r):fp bp 87 6 56 [1,1,0,1,0,0] (EE fj aT aI ab br ai bo) (EH fj aT aI ab br ai bo) (gP,aX) r:=fr (fun _=>Q0) h
def rv (bP:Bool)(cl:List Int)(eb:Int)(b9:List bZ)(kY:List (List a5))(cV:List Int)(gE:List Bool)(oS:List Int):Option (Bool×Bool×(List Int)×(List (List a5))×(List Int)×(List Bool)) :=
 A5 eb b9 gE oS true bP cl kY cV >>= fun ad =>
 match ad with
 | .inl bs=>(A6 eb bs.1 bs.2.1 b9 bs.2.2.1 bs.2.2.2 oS 0 gE >>= fun bl =>
  some (true,bs.1,bs.2.1,bs.2.2.1,bs.2.2.2,bl))
 | .inr bs=>(some (false,bs.1,bs.2.1,bs.2.2.1,bs.2.2.2,gE))
theorem E3 {bP:Bool}{cl:List Int}{eb:Int}{b9:List bZ}{kY:List (List a5)}{cV:List Int}{gE:List Bool}{oS:List Int}:bV (rv bP cl eb b9 kY cV gE oS) (fun a=>Con bp 56 [.ref 0 0 0 0,.bu 5 0 0 oS.length] [[al.mk 6 [(ef 1 0 0 b9.length bP cl 3 0 0 cV.length eb 4 0 0 gE.length)] .live],(aq 1 (bN 2 0 2) b9),(cR 2 aN kY),(aq 1 J cV),(aq 1 dk gE),(aq 1 J oS)] (.b a.1) [[al.mk 6 [(ef 1 0 0 b9.length a.2.1 a.2.2.1 3 0 0 a.2.2.2.2.1.length eb 4 0 0 a.2.2.2.2.2.length)] .live],(aq 1 (bN 2 0 2) b9),(cR 2 aN a.2.2.2.1),(aq 1 J a.2.2.2.2.1),(aq 1 dk a.2.2.2.2.2),(aq 1 J oS)]):=by
 unfold rv
 exact .aD fun ad R =>
  (let hK:=db [0,1,2,3,4,5];let t1:List cL:=[(ag 1),(ag 1),.bj [0,1,2,3,4,5] [.box [.id,.id,.id,.id,.id,.id],.bz (aq 1 (bN 2 0 2) b9),.bz (cR 2 aN kY),.pure,.pure,.pure] (bT [0,1,5])];
  have a9:=((.ea (ex hK 2 2 0 2 rfl b9) (eB hK 2 dK kY) (aB 1 .live aA cV) (aB 1 .live dF gE) (aB 1 .live aA oS)):cT _);
  (by
  rcases ad with bs|bs
  ·exact (.aD fun bl aK =>
  .ret (let aW:=ef 1 0 0 b9.length bs.1 bs.2.1 3 0 0 bs.2.2.2.length eb 4 0 0 bl.length;let bh:=db [0,1,2,3,4,5];let cf:=aB 1 .live aA bs.2.2.2;let cI:=eB bh 2 dK bs.2.2.1;let ee:=cR 2 aN bs.2.2.1;let fS:=ex bh 2 2 0 2 rfl b9;hH (t1.append [(A0 eb b9 gE oS (.inl bs)).gh,(ag 5),.bj [0,1,2,3,4,5] [.box [.id,.id,.id,.id,.id,.id],.bz (aq 1 (bN 2 0 2) b9),.bz ee,.pure,.pure,.pure] (bT [0,1,53,54]),(EH eb bs.1 bs.2.1 b9 bs.2.2.1 bs.2.2.2 oS bl).gh,(ag 1)]) [0,1,2,3,4,5] [.bz [al.mk 6 [aW] .live],.bz (aq 1 (bN 2 0 2) b9),.bz ee,.pure,.pure,.pure] (a9.a3 (.bi (KX R) fS cI cf (aB 1 .live dF gE) (aB 1 .live aA oS) (Rl aK) (gR bh 6 [aW] [aW] rfl) (.ea fS cI cf (aB 1 .live dF bl) (aB 1 .live aA oS))))))
  ·exact (.ret (let gx:=ef 1 0 0 b9.length bs.1 bs.2.1 3 0 0 bs.2.2.2.length eb 4 0 0 gE.length;let e8:=db [0,1,2,3,4,5];hH (t1.append [(A0 eb b9 gE oS (.inr bs)).gh]) [0,1,2,3,4,5] [.bz [al.mk 6 [gx] .live],.bz (aq 1 (bN 2 0 2) b9),.bz (cR 2 aN bs.2.2.1),.pure,.pure,.pure] (a9.a3 (.eT (KX R) (gR e8 6 [gx] [gx] rfl) (ex e8 2 2 0 2 rfl b9) (eB e8 2 dK bs.2.2.1) (aB 1 .live aA bs.2.2.2) (aB 1 .live dF gE) (aB 1 .live aA oS)))))))
def EP (g9 bc:Int)(aT:Bool)(aI:List Int)(ct:Int)(ab:List bZ)(br:List (List a5))(ai:List Int)(aX:List Bool):Int→S:=fun bJ=>eM [(0,.ref 0 0 0 0),(1,.n .i64 g9),(4,.n .i64 bc),(5,.n .i64 bJ)] [[al.mk 6 [(ef 1 0 0 ab.length aT aI 3 0 0 ai.length ct 4 0 0 aX.length)] .live],(aq 1 (bN 2 0 2) ab),(cR 2 aN br),(aq 1 J ai),(aq 1 dk aX)]
def EY (g9 bc:Int)(aT:Bool)(aI:List Int)(ct:Int)(ab:List bZ)(br:List (List a5))(ai:List Int)(aX:List Bool):Int→eP
 | a=>⟨some 2,[(0,.ref 0 0 0 0),(1,.n .i64 g9),(4,.n .i64 bc),(5,.n .i64 a)],[[al.mk 6 [(ef 1 0 0 ab.length aT aI 3 0 0 ai.length ct 4 0 0 aX.length)] .live],(aq 1 (bN 2 0 2) ab),(cR 2 aN br),(aq 1 J ai),(aq 1 dk aX)]⟩
def vj (g9 bc:Int)(aT:Bool)(aI:List Int)(ct:Int)(ab:List bZ)(br:List (List a5))(ai:List Int)(aX:List Bool)(bJ:Int):Option ((Int)⊕(Int)) :=
 if (decide (bJ<g9))=true then
  if 0≤bc∧bc<(ab.length:Nat) then
  ab[(0+bc.toNat)]? >>= fun a2 =>
  a2 >>= fun k3 =>
  br[k3.1]? >>= fun kI =>
  if 0≤bJ∧bJ<(k3.2:Nat) then
  kI[(0+bJ.toNat)]? >>= fun kW =>
  nP kW >>= fun f6 =>
  if (f6 == (0:Int))=true then
   some (.inl (U (bJ+(1:Int))))
  else
   some (.inr bJ)
  else none
  else none
 else
  some (.inr bJ)
def Bc (g9 bc:Int)(aT:Bool)(aI:List Int)(ct:Int)(ab:List bZ)(br:List (List a5))(ai:List Int)(aX:List Bool)(bJ:Int):Option (Int):=iter (fun w:Int=>vj g9 bc aT aI ct ab br ai aX w) bJ
theorem Re {g9 bc:Int}{aT:Bool}{aI:List Int}{ct:Int}{ab:List bZ}{br:List (List a5)}{ai:List Int}{aX:List Bool}{bJ:Int}:bV (vj g9 bc aT aI ct ab br ai aX bJ) (fo bp 86 5 58 [1,0,0,1,0,1,1,0,0,0] (EP g9 bc aT aI ct ab br ai aX bJ) (EP g9 bc aT aI ct ab br ai aX) (EY g9 bc aT aI ct ab br ai aX)):=by
 unfold vj
 exact .ite (fun o =>
  .bq fun R =>
  .aD fun a2 ay =>
  .aD fun k3 bI =>
  .aD fun kI bE =>
  .bq fun c6 =>
  .aD fun kW eu =>
  .aD fun f6 dE =>
  (let aW:=kN (hX .live 2 aN br) kr bE;let t1:List cL:=[.aJ (ap 10 (au (.c4 ((bN 2 0 2) a2)) (ap 1 (au (.fy 34 (.bu 2 (k3.1+0) 0 k3.2) (.gB (al.mk 2 (kI.map aN) .live) [])) (au (.gB (al.mk 2 (kI.map aN) .live) (aN kW)) (au (bM 1 (.n .i64 f6) true) (ap 1 (au (.ao true) []))))))))];
  have a9:=((.bi o o o o o o R.1 R.2 (.bi o (cQ (bN 2 0 2) ay) o o (nV (dP:=2) (c:=0) (sz:=2) bI) aW c6.1 c6.2 (.gH o aW (cQ aN eu) o (ry f6 dE) (cm.n .i64 f6) o o))):cT _);
  .ite (fun eU =>
  .ret (bW (t1.append [.ao true,(ag 3),.bj [0,1,2,3,4] [.box [.id,.id,.id,.id,.id,.id],.bz (aq 1 (bN 2 0 2) ab),.bz (cR 2 aN br),.pure,.pure] (bT [0,1,4,5])]) (a9.a3 (.ea eU (ex (db [0,1,2,3,4]) 2 2 0 2 rfl ab) (eB (db [0,1,2,3,4]) 2 dK br) (aB 1 .live aA ai) (aB 1 .live dF aX)))))
  (fun eU =>
  .ret (bW (t1.append [.ao false,.bj [0,1,2,3,4] [.box [.id,.id,.id,.id,.id,.id],.bz (aq 1 (bN 2 0 2) ab),.bz (cR 2 aN br),.pure,.pure] (bT [0,1,4,5])]) (a9.a3 (.ea eU (ex (db [0,1,2,3,4]) 2 2 0 2 rfl ab) (eB (db [0,1,2,3,4]) 2 dK br) (aB 1 .live aA ai) (aB 1 .live dF aX)))))))
  (fun o =>
  .ret (bW [.aJ (ap 4 (cO 12 (au (.ao false) []))),.ao false,.bj [0,1,2,3,4] [.box [.id,.id,.id,.id,.id,.id],.bz (aq 1 (bN 2 0 2) ab),.bz (cR 2 aN br),.pure,.pure] (bT [0,1,4,5])] (.bi o o o o o o o o (.bi o o o o o eW (ex (db [0,1,2,3,4]) 2 2 0 2 rfl ab) (eB (db [0,1,2,3,4]) 2 dK br) (.aF (aB 1 .live aA ai) (aB 1 .live dF aX))))))
theorem Rw {g9 bc:Int}{aT:Bool}{aI:List Int}{ct:Int}{ab:List bZ}{br:List (List a5)}{ai:List Int}{aX:List Bool}{bJ:Int}{r} (h:Bc g9 bc aT aI ct ab br ai aX bJ=some r):fp bp 86 5 58 [1,0,0,1,0,1,1,0,0,0] (EP g9 bc aT aI ct ab br ai aX) (EY g9 bc aT aI ct ab br ai aX) bJ r:=fr (fun _=>Re) h
def EQ (g9 ct:Int)(aX:List Bool):(Int×Bool×(List Int)×(List bZ)×(List (List a5))×(List Int))→S:=fun (bc,aT,aI,ab,br,ai)=>eM [(0,.ref 0 0 0 0),(1,.n .i64 g9),(4,.n .i64 bc)] [[al.mk 6 [(ef 1 0 0 ab.length aT aI 3 0 0 ai.length ct 4 0 0 aX.length)] .live],(aq 1 (bN 2 0 2) ab),(cR 2 aN br),(aq 1 J ai),(aq 1 dk aX)]
def EZ (g9 ct:Int)(aX:List Bool):(Bool×(List Int)×(List bZ)×(List (List a5))×(List Int))→eP
 | a=>⟨some 0,[],[[al.mk 6 [(ef 1 0 0 a.2.2.1.length a.1 a.2.1 3 0 0 a.2.2.2.2.length ct 4 0 0 aX.length)] .live],(aq 1 (bN 2 0 2) a.2.2.1),(cR 2 aN a.2.2.2.1),(aq 1 J a.2.2.2.2),(aq 1 dk aX)]⟩
def xO (g9 ct:Int)(aX:List Bool)(bc:Int)(aT:Bool)(aI:List Int)(ab:List bZ)(br:List (List a5))(ai:List Int):Option ((Int×Bool×(List Int)×(List bZ)×(List (List a5))×(List Int))⊕(Bool×(List Int)×(List bZ)×(List (List a5))×(List Int))) :=
 if (decide (bc<((ab.length:Nat):Int)))=true then
  if 0≤bc∧bc<(ai.length:Nat) then
  ai[(0+bc.toNat)]? >>= fun a2 =>
  if (decide (a2<g9))=true then
   some (.inl (U (bc+(1:Int)),aT,aI,ab,br,ai))
  else
   Bc g9 bc aT aI ct ab br ai aX 0 >>= fun bw =>
   if (decide (bw<g9))=true then
    vy bc bw aT aI ct ab br ai aX >>= fun bf =>
    some (.inl (U (bc+(1:Int)),bf.1,bf.2.1,ab,bf.2.2.1,bf.2.2.2))
   else
    if 0≤bc then
    if 0≤bc.toNat∧bc.toNat≤ab.length then
    if 0≤(U (bc+(1:Int))) then
    if (U (bc+(1:Int))).toNat≤ab.length then
    if (0+(U (bc+(1:Int))).toNat)+(ab.length-(U (bc+(1:Int))).toNat)≤ab.length then
    if (bc.toNat-0)+((ab.drop (0+(U (bc+(1:Int))).toNat)).take (ab.length-(U (bc+(1:Int))).toNat)).length≤ab.length then
    if ((ab.drop (0+(U (bc+(1:Int))).toNat)).take (ab.length-(U (bc+(1:Int))).toNat)).length*24≤140737488355328 then
    if 0≤bc.toNat∧bc.toNat≤ai.length then
    if (U (bc+(1:Int))).toNat≤ai.length then
    if (0+(U (bc+(1:Int))).toNat)+(ai.length-(U (bc+(1:Int))).toNat)≤ai.length then
    if (bc.toNat-0)+((ai.drop (0+(U (bc+(1:Int))).toNat)).take (ai.length-(U (bc+(1:Int))).toNat)).length≤ai.length then
    if ((ai.drop (0+(U (bc+(1:Int))).toNat)).take (ai.length-(U (bc+(1:Int))).toNat)).length*8≤140737488355328 then
    some (.inl (bc,aT,aI,ab.take (bc.toNat-0)++((ab.drop (0+(U (bc+(1:Int))).toNat)).take (ab.length-(U (bc+(1:Int))).toNat)),br,ai.take (bc.toNat-0)++((ai.drop (0+(U (bc+(1:Int))).toNat)).take (ai.length-(U (bc+(1:Int))).toNat))))
    else none
    else none
    else none
    else none
    else none
    else none
    else none
    else none
    else none
    else none
    else none
    else none
  else none
 else
  some (.inr (aT,aI,ab,br,ai))
def Fa (g9 ct:Int)(aX:List Bool)(bc:Int)(aT:Bool)(aI:List Int)(ab:List bZ)(br:List (List a5))(ai:List Int):Option (Bool×(List Int)×(List bZ)×(List (List a5))×(List Int)):=iter (fun w:Int×Bool×(List Int)×(List bZ)×(List (List a5))×(List Int)=>xO g9 ct aX w.1 w.2.1 w.2.2.1 w.2.2.2.1 w.2.2.2.2.1 w.2.2.2.2.2) (bc,aT,aI,ab,br,ai)
theorem Rf {g9 ct:Int}{aX:List Bool}{bc:Int}{aT:Bool}{aI:List Int}{ab:List bZ}{br:List (List a5)}{ai:List Int}:bV (xO g9 ct aX bc aT aI ab br ai) (fo bp 86 5 58 [1,0,0] (EQ g9 ct aX (bc,aT,aI,ab,br,ai)) (EQ g9 ct aX) (EZ g9 ct aX)):=by
 unfold xO
 exact .ite (fun o =>
  .bq fun R =>
  .aD fun a2 ay =>
  (let t1:List cL:=[(ag 7),.ao true,.aJ (bO 6 (.c4 (J a2)) 2)];
  .ite (fun aK =>
  .ret (bW (t1.append [.ao true,(ag 3),.bj [0,1,2,3,4] [.box [.id,.id,.id,.id,.id,.id],.bz (aq 1 (bN 2 0 2) ab),.bz (cR 2 aN br),.pure,.pure] (bT [0,1,4])]) (.bi o R.1 R.2 (cQ J ay) aK (ex (db [0,1,2,3,4]) 2 2 0 2 rfl ab) (eB (db [0,1,2,3,4]) 2 dK br) (aB 1 .live aA ai) (.ax (aB 1 .live dF aX)))))
  (fun aK =>
  .aD fun bw bQ =>
  (let t2:List cL:=t1.append [.ao false,(ag 1),.bj [0,1,2,3,4] [.box [.id,.id,.id,.id,.id,.id],.bz (aq 1 (bN 2 0 2) ab),.bz (cR 2 aN br),.pure,.pure] (bT [0,1,4,5]),(EY g9 bc aT aI ct ab br ai aX bw).gh,(ag 3)];
  have gG:=((.bi o R.1 R.2 (cQ J ay) aK (ex (db [0,1,2,3,4]) 2 2 0 2 rfl ab) (eB (db [0,1,2,3,4]) 2 dK br) (aB 1 .live aA ai) (.aF (aB 1 .live dF aX) (Rw bQ))):cT _);
  .ite (fun bE =>
  .aD fun bf dj =>
  .ret (let aW:=ef 1 0 0 ab.length bf.1 bf.2.1 3 0 0 bf.2.2.2.length ct 4 0 0 aX.length;let bh:=ef 1 0 0 ab.length aT aI 3 0 0 ai.length ct 4 0 0 aX.length;let cf:=aq 1 (bN 2 0 2) ab;let cI:=cR 2 aN bf.2.2.1;let ee:=nL [0,1,2,3,4];let fS:=kc [0,1,2,3,4];let gx:=gN 1 (ab.map (bN 2 0 2));bW (t2.append [.ao true,.aJ (ap 3 (au (.call {aL:=(lo [0,1,2,3,4]),cq:=[.bz [al.mk 6 [bh] .live],.bz cf,.bz (cR 2 aN br),.pure,.pure],ac:=[ii,ii,ii],r:= .dm [],dh:=[[al.mk 6 [aW] .live],cf,cI,(aq 1 J bf.2.2.2),(aq 1 dk aX)],ez:=ii,e5:=[.bz [al.mk 6 [aW] .live],.bz cf,.bz cI,.pure,.pure],dD:=[0,1,2,3,4],dB:=false}) [])),(ag 3),.bj [0,1,2,3,4] [.box [.id,.id,.id,.id,.id,.id],.bz cf,.bz cI,.pure,.pure] (bT [0,1,4])]) (gG.a3 (.bi bE (gR ee 6 [bh] [bh] rfl) (gN 6 [bh]) (ex ee 2 2 0 2 rfl ab) gx (eB ee 2 dK br) (qf 2 aN br) (eo 1 aA ai) (.bi (eo 1 dF aX) (gR fS 6 [aW] [aW] rfl) (gN 6 [aW]) (ex fS 2 2 0 2 rfl ab) gx (eB fS 2 dK bf.2.2.1) (qf 2 aN bf.2.2.1) (eo 1 aA bf.2.2.2) (.e7 (eo 1 dF aX) (K4 bf dj) (ex (db [0,1,2,3,4]) 2 2 0 2 rfl ab) (eB (db [0,1,2,3,4]) 2 dK bf.2.2.1) (aB 1 .live aA bf.2.2.2) (aB 1 .live dF aX)))))))
  (fun bE =>
  .bq fun c6 =>
  .bq fun dj =>
  .bq fun eu =>
  .bq fun ec =>
  .bq fun dE =>
  .bq fun eU =>
  .bq fun d3 =>
  .bq fun gv =>
  .bq fun gz =>
  .bq fun ig =>
  .bq fun gZ =>
  .bq fun m4 =>
  .ret (let e8:=(U (bc+(1:Int)));let hK:=dW (bN 2 0 2) ab;let h4:=db [0,1,2,3,4];let jS:=dW J ai;bW (t2.append [.ao false,.aJ (bO 14 .dx 3),.aJ (bO 14 .dx 3),.bj [0,1,2,3,4] [.box [.len ((ab.take (bc.toNat-0)++((ab.drop (0+e8.toNat)).take (ab.length-e8.toNat))).length),.id,.id,.len ((ai.take (bc.toNat-0)++((ai.drop (0+e8.toNat)).take (ai.length-e8.toNat))).length),.id,.id],.bz (aq 1 (bN 2 0 2) (ab.take (bc.toNat-0)++((ab.drop (0+e8.toNat)).take (ab.length-e8.toNat)))),.bz (cR 2 aN br),.dL (aq 1 J (ai.take (bc.toNat-0)++((ai.drop (0+e8.toNat)).take (ai.length-e8.toNat)))),.pure] (bT [0,1,4])]) (gG.a3 (.bi bE c6 dj.1 dj.2 eu ec (Nat.le_refl ab.length) (tU hK dE) (.bi (Ot hK (pH hK (0+e8.toNat) (ab.length-e8.toNat)) eU) (Nj (pH hK (0+e8.toNat) (ab.length-e8.toNat)) d3) c6 gv.1 gv.2 eu gz (Nat.le_refl ai.length) (.bi (tU jS ig) (Ot jS (pH jS (0+e8.toNat) (ai.length-e8.toNat)) gZ) (Nj (pH jS (0+e8.toNat) (ai.length-e8.toNat)) m4) ((HI (Oq eU) (pH hK (0+e8.toNat) (ab.length-e8.toNat)):(ab.take (bc.toNat-0)++((ab.drop (0+e8.toNat)).take (ab.length-e8.toNat))).length=(bc.toNat-0)+(((ab.map (bN 2 0 2)).drop (0+e8.toNat)).take (ab.length-e8.toNat)).length).symm) ((HI (Oq gZ) (pH jS (0+e8.toNat) (ai.length-e8.toNat)):(ai.take (bc.toNat-0)++((ai.drop (0+e8.toNat)).take (ai.length-e8.toNat))).length=(bc.toNat-0)+(((ai.map J).drop (0+e8.toNat)).take (ai.length-e8.toNat)).length).symm) (ib (xC (b5:=h4) 1 .live (bN 2 0 2) (HH hK (bc.toNat-0) (pH hK (0+e8.toNat) (ab.length-e8.toNat))) (zh (rfl:h4 2=some 2))) (qo (b5:=h4))) (eB h4 2 dK br) (eA 1 .live (HH jS (bc.toNat-0) (pH jS (0+e8.toNat) (ai.length-e8.toNat)))) (.aF (aB 1 .live aA (ai.take (bc.toNat-0)++((ai.drop (0+e8.toNat)).take (ai.length-e8.toNat)))) (aB 1 .live dF aX))))))))))))
  (fun o =>
  .ret (bW [(ag 7),.ao false,.bj [0,1,2,3,4] [.box [.id,.id,.id,.id,.id,.id],.bz (aq 1 (bN 2 0 2) ab),.bz (cR 2 aN br),.pure,.pure] []] (.ea o (ex (db [0,1,2,3,4]) 2 2 0 2 rfl ab) (eB (db [0,1,2,3,4]) 2 dK br) (aB 1 .live aA ai) (aB 1 .live dF aX))))
theorem Rx {g9 ct:Int}{aX:List Bool}{bc:Int}{aT:Bool}{aI:List Int}{ab:List bZ}{br:List (List a5)}{ai:List Int}{r} (h:Fa g9 ct aX bc aT aI ab br ai=some r):fp bp 86 5 58 [1,0,0] (EQ g9 ct aX) (EZ g9 ct aX) (bc,aT,aI,ab,br,ai) r:=fr (fun _=>Rf) h
def xW (g9:Int)(bP:Bool)(cl:List Int)(eb:Int)(b9:List bZ)(kY:List (List a5))(cV:List Int)(gE:List Bool):Option (Bool×(List Int)×(List bZ)×(List (List a5))×(List Int)) :=
 Fa g9 eb gE 0 bP cl b9 kY cV >>= fun ad =>
 some (ad.1,ad.2.1,ad.2.2.1,ad.2.2.2.1,ad.2.2.2.2)
theorem RO {g9:Int}{bP:Bool}{cl:List Int}{eb:Int}{b9:List bZ}{kY:List (List a5)}{cV:List Int}{gE:List Bool}:bV (xW g9 bP cl eb b9 kY cV gE) (fun a=>Con bp 58 [.ref 0 0 0 0,.n .i64 g9] [[al.mk 6 [(ef 1 0 0 b9.length bP cl 3 0 0 cV.length eb 4 0 0 gE.length)] .live],(aq 1 (bN 2 0 2) b9),(cR 2 aN kY),(aq 1 J cV),(aq 1 dk gE)] (.dm []) [[al.mk 6 [(ef 1 0 0 a.2.2.1.length a.1 a.2.1 3 0 0 a.2.2.2.2.length eb 4 0 0 gE.length)] .live],(aq 1 (bN 2 0 2) a.2.2.1),(cR 2 aN a.2.2.2.1),(aq 1 J a.2.2.2.2),(aq 1 dk gE)]):=by
 unfold xW
 exact .aD fun ad R =>
  .ret (let aW:=ef 1 0 0 ad.2.2.1.length ad.1 ad.2.1 3 0 0 ad.2.2.2.2.length eb 4 0 0 gE.length;let bh:=db [0,1,2,3,4];hH [(ag 1),.bj [0,1,2,3,4] [.box [.id,.id,.id,.id,.id,.id],.bz (aq 1 (bN 2 0 2) b9),.bz (cR 2 aN kY),.pure,.pure] (bT [0,1,4]),(EZ g9 eb gE ad).gh] [0,1,2,3,4] [.bz [al.mk 6 [aW] .live],.bz (aq 1 (bN 2 0 2) ad.2.2.1),.bz (cR 2 aN ad.2.2.2.1),.pure,.pure] (.bi (ex bh 2 2 0 2 rfl b9) (eB bh 2 dK kY) (aB 1 .live aA cV) (aB 1 .live dF gE) (Rx R) (gR bh 6 [aW] [aW] rfl) (ex bh 2 2 0 2 rfl ad.2.2.1) (eB bh 2 dK ad.2.2.2.1) (.aF (aB 1 .live aA ad.2.2.2.2) (aB 1 .live dF gE))))
def FD (aZ bc:Int)(hq iF:Nat)(dA:Int)(iU iT:Nat)(iY aI:Int)(ab aH ai:List Int)(cC:Bool)(cB:List Int)(cb:List bZ)(da:List Int)(cc:List Bool):(Int×(List (List a5)))→S:=fun (fj,hN)=>eM [(0,.ref 0 0 0 0),(4,.n .i64 aZ),(5,.ref 4 0 0 0),(6,.n .i64 bc),(7,.bu 5 (hq+0) 0 iF),(8,.n .i64 (-1:Int)),(34,.n .i64 dA),(35,.n .i64 bc),(51,.bu 1 0 iU iT),(52,.n .i64 iY),(53,.n .i64 fj)] [[al.mk 5 [(e2 dA aI 1 0 0 ab.length 2 0 0 aH.length 3 0 0 ai.length)] .live],(aq 1 J ab),(aq 1 J aH),(aq 1 J ai),[al.mk 6 [(ef 6 0 0 cb.length cC cB 7 0 0 da.length aZ 8 0 0 cc.length)] .live],(cR 2 aN hN),(aq 1 (bN 5 0 2) cb),(aq 1 J da),(aq 1 dk cc)]
def FW (aZ bc:Int)(hq iF:Nat)(dA:Int)(iU iT:Nat)(iY aI:Int)(ab aH ai:List Int)(cC:Bool)(cB:List Int)(cb:List bZ)(da:List Int)(cc:List Bool):(List (List a5))→eP
 | a=>⟨some 2,[(0,.ref 0 0 0 0),(4,.n .i64 aZ),(5,.ref 4 0 0 0),(6,.n .i64 bc),(7,.bu 5 (hq+0) 0 iF),(8,.n .i64 (-1:Int)),(34,.n .i64 dA),(35,.n .i64 bc)],[[al.mk 5 [(e2 dA aI 1 0 0 ab.length 2 0 0 aH.length 3 0 0 ai.length)] .live],(aq 1 J ab),(aq 1 J aH),(aq 1 J ai),[al.mk 6 [(ef 6 0 0 cb.length cC cB 7 0 0 da.length aZ 8 0 0 cc.length)] .live],(cR 2 aN a),(aq 1 (bN 5 0 2) cb),(aq 1 J da),(aq 1 dk cc)]⟩
def vz (aZ bc:Int)(hq iF:Nat)(dA:Int)(iU iT:Nat)(iY aI:Int)(ab aH ai:List Int)(cC:Bool)(cB:List Int)(cb:List bZ)(da:List Int)(cc:List Bool)(fj:Int)(hN:List (List a5)):Option ((Int×(List (List a5)))⊕((List (List a5)))) :=
 if (decide (fj<iY))=true then
  if 0≤fj∧fj<(iT:Nat) then
  ab[(iU+fj.toNat)]? >>= fun a2 =>
  nj (U ((-1:Int)*a2)) >>= fun bt =>
  hN[hq]? >>= fun kI =>
  if 0≤fj∧fj<(iF:Nat) then
  kI[(0+fj.toNat)]? >>= fun kW =>
  some (.inl (U (fj+(1:Int)),hN.set hq (kI.set (0+fj.toNat) bt)))
  else none
  else none
 else
  some (.inr hN)
def BA (aZ bc:Int)(hq iF:Nat)(dA:Int)(iU iT:Nat)(iY aI:Int)(ab aH ai:List Int)(cC:Bool)(cB:List Int)(cb:List bZ)(da:List Int)(cc:List Bool)(fj:Int)(hN:List (List a5)):Option ((List (List a5))):=iter (fun w:Int×(List (List a5))=>vz aZ bc hq iF dA iU iT iY aI ab aH ai cC cB cb da cc w.1 w.2) (fj,hN)
theorem RP {aZ bc:Int}{hq iF:Nat}{dA:Int}{iU iT:Nat}{iY aI:Int}{ab aH ai:List Int}{cC:Bool}{cB:List Int}{cb:List bZ}{da:List Int}{cc:List Bool}{fj:Int}{hN:List (List a5)}:bV (vz aZ bc hq iF dA iU iT iY aI ab aH ai cC cB cb da cc fj hN) (fo bp 205 4 33 [1,1,1,0,1,0,0,1,1,0,0,1,1,1,1,0,1,0,0] (FD aZ bc hq iF dA iU iT iY aI ab aH ai cC cB cb da cc (fj,hN)) (FD aZ bc hq iF dA iU iT iY aI ab aH ai cC cB cb da cc) (FW aZ bc hq iF dA iU iT iY aI ab aH ai cC cB cb da cc)):=by
 unfold vz
 exact .ite (fun o =>
  .bq fun R =>
  .aD fun a2 ay =>
  .aD fun bt bI =>
  .aD fun kI bE =>
  .bq fun c6 =>
  .aD fun kW eu =>
  .ret (let aW:=db [0,1,2,3,4,5,6,7,8];let bh:=kN (hX .live 2 aN hN) kr bE;bW [(ag 1),.ao true,.aJ (bO 2 (.c4 (J a2)) 2),.aJ (ap 5 (au (bM 1 (.agg (aN bt)) false) (au (.gB (al.mk 2 (kI.map aN) .live) []) (au (.gB (al.mk 2 (kI.map aN) .live) (aN kW)) [])))),(ag 2),.bj [0,1,2,3,4,5,6,7,8] [.box [.id,.id,.id,.id,.id],.pure,.pure,.pure,.box [.id,.id,.id,.id,.id,.id],.bz (cR 2 aN (hN.set hq (kI.set (0+fj.toNat) bt))),.bz (aq 1 (bN 5 0 2) cb),.pure,.pure] (bT [0,4,5,6,7,8,34,35,51,52,53])] (.bi o R.1 R.2 (cQ J ay) (qY bt bI) bh c6.1 c6.2 (.bi bh (cQ aN eu) (aB 1 .live aA ab) (aB 1 .live aA aH) (aB 1 .live aA ai) (pJ (b5:=aW) (q8 (hX .live 2 aN hN) hq (q6 (dW aN kI) (0+fj.toNat) bt (rfl:(setCells (aN kW) 0 (aN bt))=aN bt))) (o9 dK)) (ex aW 5 5 0 2 rfl cb) (aB 1 .live aA da) (.ax (aB 1 .live dF cc))))))
  (fun o =>
  .ret (let cf:=db [0,1,2,3,4,5,6,7,8];bW [(ag 1),.ao false,.bj [0,1,2,3,4,5,6,7,8] [.box [.id,.id,.id,.id,.id],.pure,.pure,.pure,.box [.id,.id,.id,.id,.id,.id],.bz (cR 2 aN hN),.bz (aq 1 (bN 5 0 2) cb),.pure,.pure] (bT [0,4,5,6,7,8,34,35])] (.gH o (aB 1 .live aA ab) (aB 1 .live aA aH) (aB 1 .live aA ai) (eB cf 2 dK hN) (ex cf 5 5 0 2 rfl cb) (aB 1 .live aA da) (aB 1 .live dF cc))))
theorem Sw {aZ bc:Int}{hq iF:Nat}{dA:Int}{iU iT:Nat}{iY aI:Int}{ab aH ai:List Int}{cC:Bool}{cB:List Int}{cb:List bZ}{da:List Int}{cc:List Bool}{fj:Int}{hN:List (List a5)}{r} (h:BA aZ bc hq iF dA iU iT iY aI ab aH ai cC cB cb da cc fj hN=some r):fp bp 205 4 33 [1,1,1,0,1,0,0,1,1,0,0,1,1,1,1,0,1,0,0] (FD aZ bc hq iF dA iU iT iY aI ab aH ai cC cB cb da cc) (FW aZ bc hq iF dA iU iT iY aI ab aH ai cC cB cb da cc) (fj,hN) r:=fr (fun _=>RP) h
def FE (aZ bc:Int)(hq iF:Nat)(dA:Int)(iU iT:Nat)(iY aI:Int)(ab aH ai:List Int)(cC:Bool)(cB:List Int)(cb:List bZ)(da:List Int)(cc:List Bool):(Int×(List (List a5)))→S:=fun (fj,hN)=>eM [(0,.ref 0 0 0 0),(4,.n .i64 aZ),(5,.ref 4 0 0 0),(6,.n .i64 bc),(7,.bu 5 (hq+0) 0 iF),(8,.n .i64 (1:Int)),(34,.n .i64 dA),(35,.n .i64 bc),(51,.bu 1 0 iU iT),(52,.n .i64 iY),(53,.n .i64 fj)] [[al.mk 5 [(e2 dA aI 1 0 0 ab.length 2 0 0 aH.length 3 0 0 ai.length)] .live],(aq 1 J ab),(aq 1 J aH),(aq 1 J ai),[al.mk 6 [(ef 6 0 0 cb.length cC cB 7 0 0 da.length aZ 8 0 0 cc.length)] .live],(cR 2 aN hN),(aq 1 (bN 5 0 2) cb),(aq 1 J da),(aq 1 dk cc)]
def FX (aZ bc:Int)(hq iF:Nat)(dA:Int)(iU iT:Nat)(iY aI:Int)(ab aH ai:List Int)(cC:Bool)(cB:List Int)(cb:List bZ)(da:List Int)(cc:List Bool):(List (List a5))→eP
 | a=>⟨some 2,[(0,.ref 0 0 0 0),(4,.n .i64 aZ),(5,.ref 4 0 0 0),(6,.n .i64 bc),(7,.bu 5 (hq+0) 0 iF),(8,.n .i64 (1:Int)),(34,.n .i64 dA),(35,.n .i64 bc)],[[al.mk 5 [(e2 dA aI 1 0 0 ab.length 2 0 0 aH.length 3 0 0 ai.length)] .live],(aq 1 J ab),(aq 1 J aH),(aq 1 J ai),[al.mk 6 [(ef 6 0 0 cb.length cC cB 7 0 0 da.length aZ 8 0 0 cc.length)] .live],(cR 2 aN a),(aq 1 (bN 5 0 2) cb),(aq 1 J da),(aq 1 dk cc)]⟩
def vA (aZ bc:Int)(hq iF:Nat)(dA:Int)(iU iT:Nat)(iY aI:Int)(ab aH ai:List Int)(cC:Bool)(cB:List Int)(cb:List bZ)(da:List Int)(cc:List Bool)(fj:Int)(hN:List (List a5)):Option ((Int×(List (List a5)))⊕((List (List a5)))) :=
 if (decide (fj<iY))=true then
  if 0≤fj∧fj<(iT:Nat) then
  ab[(iU+fj.toNat)]? >>= fun a2 =>
  nj (U ((1:Int)*a2)) >>= fun bt =>
  hN[hq]? >>= fun kI =>
  if 0≤fj∧fj<(iF:Nat) then
  kI[(0+fj.toNat)]? >>= fun kW =>
  some (.inl (U (fj+(1:Int)),hN.set hq (kI.set (0+fj.toNat) bt)))
  else none
  else none
 else
  some (.inr hN)
def BB (aZ bc:Int)(hq iF:Nat)(dA:Int)(iU iT:Nat)(iY aI:Int)(ab aH ai:List Int)(cC:Bool)(cB:List Int)(cb:List bZ)(da:List Int)(cc:List Bool)(fj:Int)(hN:List (List a5)):Option ((List (List a5))):=iter (fun w:Int×(List (List a5))=>vA aZ bc hq iF dA iU iT iY aI ab aH ai cC cB cb da cc w.1 w.2) (fj,hN)
theorem RQ {aZ bc:Int}{hq iF:Nat}{dA:Int}{iU iT:Nat}{iY aI:Int}{ab aH ai:List Int}{cC:Bool}{cB:List Int}{cb:List bZ}{da:List Int}{cc:List Bool}{fj:Int}{hN:List (List a5)}:bV (vA aZ bc hq iF dA iU iT iY aI ab aH ai cC cB cb da cc fj hN) (fo bp 205 4 33 [1,1,1,0,1,0,0,1,1,0,0,1,1,1,1,0,1,0,0] (FE aZ bc hq iF dA iU iT iY aI ab aH ai cC cB cb da cc (fj,hN)) (FE aZ bc hq iF dA iU iT iY aI ab aH ai cC cB cb da cc) (FX aZ bc hq iF dA iU iT iY aI ab aH ai cC cB cb da cc)):=by
 unfold vA
 exact .ite (fun o =>
  .bq fun R =>
  .aD fun a2 ay =>
  .aD fun bt bI =>
  .aD fun kI bE =>
  .bq fun c6 =>
  .aD fun kW eu =>
  .ret (let aW:=db [0,1,2,3,4,5,6,7,8];let bh:=kN (hX .live 2 aN hN) kr bE;bW [(ag 1),.ao true,.aJ (bO 2 (.c4 (J a2)) 2),.aJ (ap 5 (au (bM 1 (.agg (aN bt)) false) (au (.gB (al.mk 2 (kI.map aN) .live) []) (au (.gB (al.mk 2 (kI.map aN) .live) (aN kW)) [])))),(ag 2),.bj [0,1,2,3,4,5,6,7,8] [.box [.id,.id,.id,.id,.id],.pure,.pure,.pure,.box [.id,.id,.id,.id,.id,.id],.bz (cR 2 aN (hN.set hq (kI.set (0+fj.toNat) bt))),.bz (aq 1 (bN 5 0 2) cb),.pure,.pure] (bT [0,4,5,6,7,8,34,35,51,52,53])] (.bi o R.1 R.2 (cQ J ay) (qY bt bI) bh c6.1 c6.2 (.bi bh (cQ aN eu) (aB 1 .live aA ab) (aB 1 .live aA aH) (aB 1 .live aA ai) (pJ (b5:=aW) (q8 (hX .live 2 aN hN) hq (q6 (dW aN kI) (0+fj.toNat) bt (rfl:(setCells (aN kW) 0 (aN bt))=aN bt))) (o9 dK)) (ex aW 5 5 0 2 rfl cb) (aB 1 .live aA da) (.ax (aB 1 .live dF cc))))))
  (fun o =>
  .ret (let cf:=db [0,1,2,3,4,5,6,7,8];bW [(ag 1),.ao false,.bj [0,1,2,3,4,5,6,7,8] [.box [.id,.id,.id,.id,.id],.pure,.pure,.pure,.box [.id,.id,.id,.id,.id,.id],.bz (cR 2 aN hN),.bz (aq 1 (bN 5 0 2) cb),.pure,.pure] (bT [0,4,5,6,7,8,34,35])] (.gH o (aB 1 .live aA ab) (aB 1 .live aA aH) (aB 1 .live aA ai) (eB cf 2 dK hN) (ex cf 5 5 0 2 rfl cb) (aB 1 .live aA da) (aB 1 .live dF cc))))
theorem Sx {aZ bc:Int}{hq iF:Nat}{dA:Int}{iU iT:Nat}{iY aI:Int}{ab aH ai:List Int}{cC:Bool}{cB:List Int}{cb:List bZ}{da:List Int}{cc:List Bool}{fj:Int}{hN:List (List a5)}{r} (h:BB aZ bc hq iF dA iU iT iY aI ab aH ai cC cB cb da cc fj hN=some r):fp bp 205 4 33 [1,1,1,0,1,0,0,1,1,0,0,1,1,1,1,0,1,0,0] (FE aZ bc hq iF dA iU iT iY aI ab aH ai cC cB cb da cc) (FX aZ bc hq iF dA iU iT iY aI ab aH ai cC cB cb da cc) (fj,hN) r:=fr (fun _=>RQ) h
def FF (aZ dA aI:Int)(ab aH ai:List Int)(cC:Bool)(cB:List Int)(cc:List Bool):(Int×(List bZ)×(List (List a5))×(List Int))→S:=fun (c7,bo,dZ,da)=>eM [(0,.ref 0 0 0 0),(4,.n .i64 aZ),(5,.ref 4 0 0 0),(34,.n .i64 dA),(35,.n .i64 c7)] [[al.mk 5 [(e2 dA aI 1 0 0 ab.length 2 0 0 aH.length 3 0 0 ai.length)] .live],(aq 1 J ab),(aq 1 J aH),(aq 1 J ai),[al.mk 6 [(ef 5 0 0 bo.length cC cB 7 0 0 da.length aZ 8 0 0 cc.length)] .live],(aq 1 (bN 6 0 2) bo),(cR 2 aN dZ),(aq 1 J da),(aq 1 dk cc)]
def FY (aZ dA aI:Int)(ab aH ai:List Int)(cC:Bool)(cB:List Int)(cc:List Bool):((List bZ)×(List (List a5))×(List Int))→eP
 | a=>⟨some 0,[(0,.ref 0 0 0 0),(4,.n .i64 aZ),(5,.ref 4 0 0 0)],[[al.mk 5 [(e2 dA aI 1 0 0 ab.length 2 0 0 aH.length 3 0 0 ai.length)] .live],(aq 1 J ab),(aq 1 J aH),(aq 1 J ai),[al.mk 6 [(ef 5 0 0 a.1.length cC cB 7 0 0 a.2.2.length aZ 8 0 0 cc.length)] .live],(aq 1 (bN 6 0 2) a.1),(cR 2 aN a.2.1),(aq 1 J a.2.2),(aq 1 dk cc)]⟩
def vB (aZ dA aI:Int)(ab aH ai:List Int)(cC:Bool)(cB:List Int)(cc:List Bool)(c7:Int)(bo:List bZ)(dZ:List (List a5))(da:List Int):Option ((Int×(List bZ)×(List (List a5))×(List Int))⊕((List bZ)×(List (List a5))×(List Int))) :=
 if (decide (c7<dA))=true then
  if 0≤(U (aZ+(1:Int)))∧(32:Int)*(U (aZ+(1:Int)))≤281474976710656∧(U (aZ+(1:Int)))<9223372036854775808 then
  if 0≤c7∧c7<(aH.length:Nat) then
  aH[(0+c7.toNat)]? >>= fun fN =>
  if (decide (fN<(0:Int)))=true then
   vN c7 dA aI ab aH ai >>= fun bS =>
   BA aZ c7 dZ.length ((U (aZ+(1:Int))).toNat) dA bS.1 bS.2 ((bS.2:Nat):Int) aI ab aH ai cC cB bo da cc 0 (dZ++[(List.replicate (U (aZ+(1:Int))).toNat (⟨false,([]:List Int)⟩:a5):List a5)]) >>= fun bf =>
   nj 1 >>= fun cr =>
   bf[dZ.length]? >>= fun m7 =>
   if 0≤(U (aI+c7))∧(U (aI+c7))<((U (aZ+(1:Int))).toNat:Nat) then
   m7[(0+(U (aI+c7)).toNat)]? >>= fun lC =>
   nj (U ((-1:Int)*fN)) >>= fun d2 =>
   (bf.set dZ.length (m7.set (0+(U (aI+c7)).toNat) cr))[dZ.length]? >>= fun ox =>
   if 0≤aZ∧aZ<((U (aZ+(1:Int))).toNat:Nat) then
   ox[(0+aZ.toNat)]? >>= fun uF =>
   if (bo++([(some (dZ.length,(U (aZ+(1:Int))).toNat))]:List bZ)).length*24≤140737488355328 then
   if (da++([U (aI+c7)]:List Int)).length*8≤140737488355328 then
   some (.inl (U (c7+(1:Int)),bo++([(some (dZ.length,(U (aZ+(1:Int))).toNat))]:List bZ),(bf.set dZ.length (m7.set (0+(U (aI+c7)).toNat) cr)).set dZ.length (ox.set (0+aZ.toNat) d2),da++([U (aI+c7)]:List Int)))
   else none
   else none
   else none
   else none
  else
   vN c7 dA aI ab aH ai >>= fun bS =>
   BB aZ c7 dZ.length ((U (aZ+(1:Int))).toNat) dA bS.1 bS.2 ((bS.2:Nat):Int) aI ab aH ai cC cB bo da cc 0 (dZ++[(List.replicate (U (aZ+(1:Int))).toNat (⟨false,([]:List Int)⟩:a5):List a5)]) >>= fun bf =>
   nj 1 >>= fun cr =>
   bf[dZ.length]? >>= fun m7 =>
   if 0≤(U (aI+c7))∧(U (aI+c7))<((U (aZ+(1:Int))).toNat:Nat) then
   m7[(0+(U (aI+c7)).toNat)]? >>= fun lC =>
   nj (U ((1:Int)*fN)) >>= fun d2 =>
   (bf.set dZ.length (m7.set (0+(U (aI+c7)).toNat) cr))[dZ.length]? >>= fun ox =>
   if 0≤aZ∧aZ<((U (aZ+(1:Int))).toNat:Nat) then
   ox[(0+aZ.toNat)]? >>= fun uF =>
   if (bo++([(some (dZ.length,(U (aZ+(1:Int))).toNat))]:List bZ)).length*24≤140737488355328 then
   if (da++([U (aI+c7)]:List Int)).length*8≤140737488355328 then
   some (.inl (U (c7+(1:Int)),bo++([(some (dZ.length,(U (aZ+(1:Int))).toNat))]:List bZ),(bf.set dZ.length (m7.set (0+(U (aI+c7)).toNat) cr)).set dZ.length (ox.set (0+aZ.toNat) d2),da++([U (aI+c7)]:List Int)))
   else none
   else none
   else none
   else none
  else none
  else none
 else
  some (.inr (bo,dZ,da))
def BC (aZ dA aI:Int)(ab aH ai:List Int)(cC:Bool)(cB:List Int)(cc:List Bool)(c7:Int)(bo:List bZ)(dZ:List (List a5))(da:List Int):Option ((List bZ)×(List (List a5))×(List Int)):=iter (fun w:Int×(List bZ)×(List (List a5))×(List Int)=>vB aZ dA aI ab aH ai cC cB cc w.1 w.2.1 w.2.2.1 w.2.2.2) (c7,bo,dZ,da)
set_option maxHeartbeats 4000000 in
theorem RR {aZ dA aI:Int}{ab aH ai:List Int}{cC:Bool}{cB:List Int}{cc:List Bool}{c7:Int}{bo:List bZ}{dZ:List (List a5)}{da:List Int}:bV (vB aZ dA aI ab aH ai cC cB cc c7 bo dZ da) (fo bp 205 4 33 [1,1,1,0,1,0,0] (FF aZ dA aI ab aH ai cC cB cc (c7,bo,dZ,da)) (FF aZ dA aI ab aH ai cC cB cc) (FY aZ dA aI ab aH ai cC cB cc)):=by
 unfold vB
 exact .ite (fun o =>
  .bq fun R =>
  .bq fun ae =>
  .aD fun fN aK =>
  (let t1:List cL:=[(ag 1),.ao true,(ag 2),.aJ (bO 2 (.AA 6 (dZ.length+0) (.c4 [.b false,.isl 1 (([]:List Int).map J)])) 1),(ag 1),.aJ (bO 6 (.c4 (J fN)) 1)];
  have a9:=((.bi o R.1 (Int.le_refl (U (aZ+(1:Int)))) R.2.1 R.2.2 (congrArg (· + 0) (Xb (hX .live 2 aN dZ) rfl)) ae.1 ae.2 (.ax (cQ J aK))):cT _);
  .ite (fun bI =>
  .aD fun bS bE =>
  .aD fun bf dj =>
  .aD fun cr ec =>
  .aD fun m7 eU =>
  .bq fun d3 =>
  .aD fun lC gz =>
  .aD fun d2 gZ =>
  .aD fun ox m5 =>
  .bq fun jR =>
  .aD fun uF JH =>
  .bq fun qL =>
  .bq fun JI =>
  .ret (let aW:=e2 dA aI 1 0 0 ab.length 2 0 0 aH.length 3 0 0 ai.length;let cf:=(U (aZ+(1:Int)));let cI:=db [0,1,2,3,4,40,5,56,8];let ee:=U (aI+c7);let bh:=(q8 (hX .live 2 aN bf) dZ.length (q6 (dW aN m7) (0+ee.toNat) cr (rfl:(setCells (aN lC) 0 (aN cr))=aN cr)));let fS:=(da++([ee]:List Int));let gx:=(bo++([(some (dZ.length,cf.toNat))]:List bZ));let e8:=db [0,1,2,3,4,6,5,7,8];let hK:=kN (hX .live 2 aN bf) kr eU;bW (t1.append [.ao true,(ag 1),.aJ (bO 2 (.call {aL:=(lo [0,1,2,3]),cq:=[.bz [al.mk 5 [aW] .live],.pure,.pure,.pure],ac:=[ii,ii],r:= .bu 1 0 bS.1 bS.2,dh:=[[al.mk 5 [aW] .live],(aq 1 J ab),(aq 1 J aH),(aq 1 J ai)],ez:=ii,e5:=[.bz [al.mk 5 [aW] .live],.pure,.pure,.pure],dD:=[0,1,2,3],dB:=false}) 2),.bj [0,1,2,3,4,6,5,7,8] [.box [.id,.id,.id,.id,.id],.pure,.pure,.pure,.box [.id,.id,.id,.id,.id,.id],.bz (cR 2 aN (dZ++[(List.replicate cf.toNat (⟨false,([]:List Int)⟩:a5):List a5)])),.bz (aq 1 (bN 5 0 2) bo),.pure,.pure] (bT [0,4,5,6,7,8,34,35,51,52,53]),(FW aZ c7 dZ.length (cf.toNat) dA bS.1 bS.2 ((bS.2:Nat):Int) aI ab aH ai cC cB bo da cc bf).gh,.aJ (ap 7 (au (bM 1 (.agg (aN cr)) false) (au (.gB (al.mk 2 (m7.map aN) .live) []) (au (.gB (al.mk 2 (m7.map aN) .live) (aN lC)) [])))),.aJ (ap 9 (au (.c4 (J fN)) (ap 1 (au (bM 1 (.agg (aN d2)) false) (au (.gB (al.mk 2 (ox.map aN) .live) []) (au (.gB (al.mk 2 (ox.map aN) .live) (aN uF)) [])))))),.aJ (ap 6 (au (.fy 93 (mh 5 0 2 (some (dZ.length,cf.toNat))) .none) (au (.a3 (gx.length)) (ap 3 [])))),.aJ (bO 12 (.a3 (fS.length)) 3),(ag 2),.bj [0,1,2,3,4,40,5,56,8] [.box [.id,.id,.id,.id,.id],.pure,.pure,.pure,.box [.id,.id,.id,.id,.id,.id],.bz (aq 1 (bN 6 0 2) gx),.bz (cR 2 aN ((bf.set dZ.length (m7.set (0+ee.toNat) cr)).set dZ.length (ox.set (0+aZ.toNat) d2))),.dL (aq 1 J fS),.pure] (bT [0,4,5,34,35])]) (a9.a3 (.bi bI (gR (nL [0,1,2,3]) 5 [aW] [aW] rfl) (gN 5 [aW]) (eo 1 aA ab) (eo 1 aA aH) (eo 1 aA ai) (gR (kc [0,1,2,3]) 5 [aW] [aW] rfl) (gN 5 [aW]) (.bi (eo 1 aA ab) (eo 1 aA aH) (eo 1 aA ai) (K8 bS bE) (aB 1 .live aA ab) (aB 1 .live aA aH) (aB 1 .live aA ai) (pJ (b5:=e8) (Ol (hX .live 2 aN dZ) (OW rD 14 6 (dZ.length+0) (ls aN cf.toNat (⟨false,([]:List Int)⟩:a5)) (OX 14 6 (dZ.length+0)))) (o9 dK)) (.bi (ex e8 5 6 0 2 rfl bo) (aB 1 .live aA da) (aB 1 .live dF cc) (Sw dj) (qY cr ec) hK d3.1 d3.2 (.bi hK (cQ aN gz) ae.1 ae.2 (cQ J aK) (qY d2 gZ) (kN bh kr m5) jR.1 (.bi jR.2 (kN bh kr m5) (cQ aN JH) (.s2 5 0 2 dZ.length (cf.toNat):jM (.bu 5 (dZ.length+0) 0 (cf.toNat)) (mh 5 0 2 (some (dZ.length,cf.toNat)))) (jY (bN 5 0 2) (some (dZ.length,cf.toNat))) (oX (bN 5 0 2) bo) (mI (bN 5 0 2) bo (some (dZ.length,cf.toNat))) qL (.bi (jY J ee) (oX J da) (mI J da ee) JI (aB 1 .live aA ab) (aB 1 .live aA aH) (aB 1 .live aA ai) (ib (xC (b5:=cI) 1 .live (bN 6 0 2) (oY (bN 5 0 2) bo (some (dZ.length,cf.toNat))) (zh (rfl:cI 5=some 6))) (qo (b5:=cI))) (.dy (pJ (b5:=cI) (q8 bh dZ.length (q6 (dW aN ox) (0+aZ.toNat) d2 (rfl:(setCells (aN uF) 0 (aN d2))=aN d2))) (o9 dK)) (eA 1 .live (oY J da ee)) (aB 1 .live aA fS) (aB 1 .live dF cc)))))))))))
  (fun bI =>
  .aD fun bS bE =>
  .aD fun bf dj =>
  .aD fun cr ec =>
  .aD fun m7 eU =>
  .bq fun d3 =>
  .aD fun lC gz =>
  .aD fun d2 gZ =>
  .aD fun ox m5 =>
  .bq fun jR =>
  .aD fun uF JH =>
  .bq fun qL =>
  .bq fun JI =>
  .ret (let h4:=e2 dA aI 1 0 0 ab.length 2 0 0 aH.length 3 0 0 ai.length;let jT:=(U (aZ+(1:Int)));let l9:=db [0,1,2,3,4,40,5,56,8];let ma:=U (aI+c7);let jS:=(q8 (hX .live 2 aN bf) dZ.length (q6 (dW aN m7) (0+ma.toNat) cr (rfl:(setCells (aN lC) 0 (aN cr))=aN cr)));let kZ:=(da++([ma]:List Int));let oT:=(bo++([(some (dZ.length,jT.toNat))]:List bZ));let m8:=db [0,1,2,3,4,6,5,7,8];let mb:=kN (hX .live 2 aN bf) kr eU;bW (t1.append [.ao false,.aJ (bO 2 (.call {aL:=(lo [0,1,2,3]),cq:=[.bz [al.mk 5 [h4] .live],.pure,.pure,.pure],ac:=[ii,ii],r:= .bu 1 0 bS.1 bS.2,dh:=[[al.mk 5 [h4] .live],(aq 1 J ab),(aq 1 J aH),(aq 1 J ai)],ez:=ii,e5:=[.bz [al.mk 5 [h4] .live],.pure,.pure,.pure],dD:=[0,1,2,3],dB:=false}) 2),.bj [0,1,2,3,4,6,5,7,8] [.box [.id,.id,.id,.id,.id],.pure,.pure,.pure,.box [.id,.id,.id,.id,.id,.id],.bz (cR 2 aN (dZ++[(List.replicate jT.toNat (⟨false,([]:List Int)⟩:a5):List a5)])),.bz (aq 1 (bN 5 0 2) bo),.pure,.pure] (bT [0,4,5,6,7,8,34,35,51,52,53]),(FX aZ c7 dZ.length (jT.toNat) dA bS.1 bS.2 ((bS.2:Nat):Int) aI ab aH ai cC cB bo da cc bf).gh,.aJ (ap 7 (au (bM 1 (.agg (aN cr)) false) (au (.gB (al.mk 2 (m7.map aN) .live) []) (au (.gB (al.mk 2 (m7.map aN) .live) (aN lC)) [])))),.aJ (ap 9 (au (.c4 (J fN)) (ap 1 (au (bM 1 (.agg (aN d2)) false) (au (.gB (al.mk 2 (ox.map aN) .live) []) (au (.gB (al.mk 2 (ox.map aN) .live) (aN uF)) [])))))),.aJ (ap 6 (au (.fy 93 (mh 5 0 2 (some (dZ.length,jT.toNat))) .none) (au (.a3 (oT.length)) (ap 3 [])))),.aJ (bO 12 (.a3 (kZ.length)) 3),(ag 2),.bj [0,1,2,3,4,40,5,56,8] [.box [.id,.id,.id,.id,.id],.pure,.pure,.pure,.box [.id,.id,.id,.id,.id,.id],.bz (aq 1 (bN 6 0 2) oT),.bz (cR 2 aN ((bf.set dZ.length (m7.set (0+ma.toNat) cr)).set dZ.length (ox.set (0+aZ.toNat) d2))),.dL (aq 1 J kZ),.pure] (bT [0,4,5,34,35])]) (a9.a3 (.bi bI (gR (nL [0,1,2,3]) 5 [h4] [h4] rfl) (gN 5 [h4]) (eo 1 aA ab) (eo 1 aA aH) (eo 1 aA ai) (gR (kc [0,1,2,3]) 5 [h4] [h4] rfl) (gN 5 [h4]) (.bi (eo 1 aA ab) (eo 1 aA aH) (eo 1 aA ai) (K8 bS bE) (aB 1 .live aA ab) (aB 1 .live aA aH) (aB 1 .live aA ai) (pJ (b5:=m8) (Ol (hX .live 2 aN dZ) (OW rD 14 6 (dZ.length+0) (ls aN jT.toNat (⟨false,([]:List Int)⟩:a5)) (OX 14 6 (dZ.length+0)))) (o9 dK)) (.bi (ex m8 5 6 0 2 rfl bo) (aB 1 .live aA da) (aB 1 .live dF cc) (Sx dj) (qY cr ec) mb d3.1 d3.2 (.bi mb (cQ aN gz) ae.1 ae.2 (cQ J aK) (qY d2 gZ) (kN jS kr m5) jR.1 (.bi jR.2 (kN jS kr m5) (cQ aN JH) (.s2 5 0 2 dZ.length (jT.toNat):jM (.bu 5 (dZ.length+0) 0 (jT.toNat)) (mh 5 0 2 (some (dZ.length,jT.toNat)))) (jY (bN 5 0 2) (some (dZ.length,jT.toNat))) (oX (bN 5 0 2) bo) (mI (bN 5 0 2) bo (some (dZ.length,jT.toNat))) qL (.bi (jY J ma) (oX J da) (mI J da ma) JI (aB 1 .live aA ab) (aB 1 .live aA aH) (aB 1 .live aA ai) (ib (xC (b5:=l9) 1 .live (bN 6 0 2) (oY (bN 5 0 2) bo (some (dZ.length,jT.toNat))) (zh (rfl:l9 5=some 6))) (qo (b5:=l9))) (.dy (pJ (b5:=l9) (q8 jS dZ.length (q6 (dW aN ox) (0+aZ.toNat) d2 (rfl:(setCells (aN uF) 0 (aN d2))=aN d2))) (o9 dK)) (eA 1 .live (oY J da ma)) (aB 1 .live aA kZ) (aB 1 .live dF cc)))))))))))))
  (fun o =>
  .ret (let i7:=db [0,1,2,3,4,5,6,7,8];bW [(ag 1),.ao false,.bj [0,1,2,3,4,5,6,7,8] [.box [.id,.id,.id,.id,.id],.pure,.pure,.pure,.box [.id,.id,.id,.id,.id,.id],.bz (aq 1 (bN 6 0 2) bo),.bz (cR 2 aN dZ),.pure,.pure] (bT [0,4,5])] (.gH o (aB 1 .live aA ab) (aB 1 .live aA aH) (aB 1 .live aA ai) (ex i7 6 6 0 2 rfl bo) (eB i7 2 dK dZ) (aB 1 .live aA da) (aB 1 .live dF cc))))
theorem Sy {aZ dA aI:Int}{ab aH ai:List Int}{cC:Bool}{cB:List Int}{cc:List Bool}{c7:Int}{bo:List bZ}{dZ:List (List a5)}{da:List Int}{r} (h:BC aZ dA aI ab aH ai cC cB cc c7 bo dZ da=some r):fp bp 205 4 33 [1,1,1,0,1,0,0] (FF aZ dA aI ab aH ai cC cB cc) (FY aZ dA aI ab aH ai cC cB cc) (c7,bo,dZ,da) r:=fr (fun _=>RR) h
def FG (aZ nZ aT aI:Int)(ab aH ai:List Int)(cC:Bool)(cB:List Int)(cb:List bZ)(ej:List (List a5))(cc:List Int):(Int×(List Int)×(List Bool))→S:=fun (gb,bo,er)=>eM [(0,.ref 0 0 0 0),(4,.n .i64 aZ),(5,.ref 4 0 0 0),(11,.bu 5 0 0 bo.length),(117,.n .i64 nZ),(118,.n .i64 gb)] [[al.mk 5 [(e2 aT aI 1 0 0 ab.length 2 0 0 aH.length 3 0 0 ai.length)] .live],(aq 1 J ab),(aq 1 J aH),(aq 1 J ai),[al.mk 6 [(ef 6 0 0 cb.length cC cB 8 0 0 cc.length aZ 9 0 0 er.length)] .live],(aq 1 J bo),(aq 1 (bN 7 0 2) cb),(cR 2 aN ej),(aq 1 J cc),(aq 1 dk er)]
def FZ (aZ nZ aT aI:Int)(ab aH ai:List Int)(cC:Bool)(cB:List Int)(cb:List bZ)(ej:List (List a5))(cc:List Int):((List Int)×(List Bool))→eP
 | a=>⟨some 4,[(0,.ref 0 0 0 0),(4,.n .i64 aZ),(5,.ref 4 0 0 0),(11,.bu 5 0 0 a.1.length)],[[al.mk 5 [(e2 aT aI 1 0 0 ab.length 2 0 0 aH.length 3 0 0 ai.length)] .live],(aq 1 J ab),(aq 1 J aH),(aq 1 J ai),[al.mk 6 [(ef 6 0 0 cb.length cC cB 8 0 0 cc.length aZ 9 0 0 a.2.length)] .live],(aq 1 J a.1),(aq 1 (bN 7 0 2) cb),(cR 2 aN ej),(aq 1 J cc),(aq 1 dk a.2)]⟩
def vC (aZ nZ aT aI:Int)(ab aH ai:List Int)(cC:Bool)(cB:List Int)(cb:List bZ)(ej:List (List a5))(cc:List Int)(gb:Int)(bo:List Int)(er:List Bool):Option ((Int×(List Int)×(List Bool))⊕((List Int)×(List Bool))) :=
 if (decide (gb<nZ))=true then
  if 0≤gb∧gb<(er.length:Nat) then
  if (0+gb.toNat)<er.length then
  if (decide (aI≤gb))=true then
   if 0≤gb∧gb<(bo.length:Nat) then
   if (0+gb.toNat)<bo.length then
   some (.inl (U (gb+(1:Int)),bo.set (0+gb.toNat) (-1),er.set (0+gb.toNat) (decide (gb<aI))))
   else none
   else none
  else
   some (.inl (U (gb+(1:Int)),bo,er.set (0+gb.toNat) (decide (gb<aI))))
  else none
  else none
 else
  some (.inr (bo,er))
def BD (aZ nZ aT aI:Int)(ab aH ai:List Int)(cC:Bool)(cB:List Int)(cb:List bZ)(ej:List (List a5))(cc:List Int)(gb:Int)(bo:List Int)(er:List Bool):Option ((List Int)×(List Bool)):=iter (fun w:Int×(List Int)×(List Bool)=>vC aZ nZ aT aI ab aH ai cC cB cb ej cc w.1 w.2.1 w.2.2) (gb,bo,er)
theorem RS {aZ nZ aT aI:Int}{ab aH ai:List Int}{cC:Bool}{cB:List Int}{cb:List bZ}{ej:List (List a5)}{cc:List Int}{gb:Int}{bo:List Int}{er:List Bool}:bV (vC aZ nZ aT aI ab aH ai cC cB cb ej cc gb bo er) (fo bp 205 4 33 [1,1,1,1,1,0,1,0,0] (FG aZ nZ aT aI ab aH ai cC cB cb ej cc (gb,bo,er)) (FG aZ nZ aT aI ab aH ai cC cB cb ej cc) (FZ aZ nZ aT aI ab aH ai cC cB cb ej cc)):=by
 unfold vC
 exact .ite (fun o =>
  .bq fun R =>
  .bq fun ae =>
  (let t1:List cL:=[(ag 1),.ao true,(ag 2),.aJ (ap 12 (au .dx [])),(ag 6)];
  have a9:=((.ea o R.1 R.2 (h9 dk ae) (hp 1)):cT _);
  .ite (fun ay =>
  .bq fun aK =>
  .bq fun bI =>
  .ret (let aW:=db [0,1,2,3,4,5,6,7,8,9];bW (t1.append [.ao true,.aJ (ap 3 (au .dx [])),(ag 2),.bj [0,1,2,3,4,5,6,7,8,9] [.box [.id,.id,.id,.id,.id],.pure,.pure,.pure,.box [.id,.id,.id,.id,.id,.len ((er.set (0+gb.toNat) (decide (gb<aI))).length)],.dL (aq 1 J (bo.set (0+gb.toNat) (-1))),.bz (aq 1 (bN 7 0 2) cb),.bz (cR 2 aN ej),.pure,.dL (aq 1 dk (er.set (0+gb.toNat) (decide (gb<aI))))] [(0,ii),(4,ii),(5,ii),(11,gY ((bo.set (0+gb.toNat) (-1)).length)),(117,ii),(118,ii)]]) (a9.a3 (.bi ay aK.1 aK.2 (h9 J bI) (hp 1) (aB 1 .live aA ab) (aB 1 .live aA aH) (aB 1 .live aA ai) (.bi (hC (fl er) (0+gb.toNat) (decide (gb<aI))) (eA 1 .live (ga (dW J bo) (0+gb.toNat) (-1))) (aB 1 .live aA (bo.set (0+gb.toNat) (-1))) (ex aW 7 7 0 2 rfl cb) (eB aW 2 dK ej) (aB 1 .live aA cc) (eA 1 .live (ga (dW dk er) (0+gb.toNat) (decide (gb<aI)))) (aB 1 .live dF (er.set (0+gb.toNat) (decide (gb<aI)))) (.ax (hC (fl bo) (0+gb.toNat) (-1))))))))
  (fun ay =>
  .ret (let bh:=db [0,1,2,3,4,5,6,7,8,9];bW (t1.append [.ao false,(ag 2),.bj [0,1,2,3,4,5,6,7,8,9] [.box [.id,.id,.id,.id,.id],.pure,.pure,.pure,.box [.id,.id,.id,.id,.id,.len ((er.set (0+gb.toNat) (decide (gb<aI))).length)],.pure,.bz (aq 1 (bN 7 0 2) cb),.bz (cR 2 aN ej),.pure,.dL (aq 1 dk (er.set (0+gb.toNat) (decide (gb<aI))))] (bT [0,4,5,11,117,118])]) (a9.a3 (.bi ay (aB 1 .live aA ab) (aB 1 .live aA aH) (aB 1 .live aA ai) (hC (fl er) (0+gb.toNat) (decide (gb<aI))) (aB 1 .live aA bo) (ex bh 7 7 0 2 rfl cb) (eB bh 2 dK ej) (.b4 (aB 1 .live aA cc) (eA 1 .live (ga (dW dk er) (0+gb.toNat) (decide (gb<aI)))) (aB 1 .live dF (er.set (0+gb.toNat) (decide (gb<aI)))))))))))
  (fun o =>
  .ret (let cf:=db [0,1,2,3,4,5,6,7,8,9];bW [(ag 1),.ao false,.bj [0,1,2,3,4,5,6,7,8,9] [.box [.id,.id,.id,.id,.id],.pure,.pure,.pure,.box [.id,.id,.id,.id,.id,.id],.pure,.bz (aq 1 (bN 7 0 2) cb),.bz (cR 2 aN ej),.pure,.pure] (bT [0,4,5,11])] (.bi o (aB 1 .live aA ab) (aB 1 .live aA aH) (aB 1 .live aA ai) (aB 1 .live aA bo) (ex cf 7 7 0 2 rfl cb) (eB cf 2 dK ej) (aB 1 .live aA cc) (.ax (aB 1 .live dF er)))))
theorem Sz {aZ nZ aT aI:Int}{ab aH ai:List Int}{cC:Bool}{cB:List Int}{cb:List bZ}{ej:List (List a5)}{cc:List Int}{gb:Int}{bo:List Int}{er:List Bool}{r} (h:BD aZ nZ aT aI ab aH ai cC cB cb ej cc gb bo er=some r):fp bp 205 4 33 [1,1,1,1,1,0,1,0,0] (FG aZ nZ aT aI ab aH ai cC cB cb ej cc) (FZ aZ nZ aT aI ab aH ai cC cB cb ej cc) (gb,bo,er) r:=fr (fun _=>RS) h
def FH (aZ n1 aT aI:Int)(ab aH ai:List Int)(cC:Bool)(cB:List Int)(d7:Int)(bo:List Int)(cb:List bZ)(ej:List (List a5))(cc:List Bool):Int→S:=fun lR=>eM [(0,.ref 0 0 0 0),(4,.n .i64 aZ),(5,.ref 4 0 0 0),(149,.bu 5 0 0 bo.length),(150,.n .i64 n1),(151,.n .i64 lR)] [[al.mk 5 [(e2 aT aI 1 0 0 ab.length 2 0 0 aH.length 3 0 0 ai.length)] .live],(aq 1 J ab),(aq 1 J aH),(aq 1 J ai),[al.mk 6 [(ef 6 0 0 cb.length cC cB 5 0 0 bo.length d7 8 0 0 cc.length)] .live],(aq 1 J bo),(aq 1 (bN 7 0 2) cb),(cR 2 aN ej),(aq 1 dk cc)]
def Bi (aZ n1 aT aI:Int)(ab aH ai:List Int)(cC:Bool)(cB:List Int)(d7:Int)(bo:List Int)(cb:List bZ)(ej:List (List a5))(cc:List Bool):((Unit)⊕(Unit))→eP
 | .inl a=>⟨some 6,[(0,.ref 0 0 0 0),(5,.ref 4 0 0 0)],[[al.mk 5 [(e2 aT aI 1 0 0 ab.length 2 0 0 aH.length 3 0 0 ai.length)] .live],(aq 1 J ab),(aq 1 J aH),(aq 1 J ai),[al.mk 6 [(ef 5 0 0 cb.length cC cB 7 0 0 bo.length d7 8 0 0 cc.length)] .live],(aq 1 (bN 6 0 2) cb),(cR 2 aN ej),(aq 1 J bo),(aq 1 dk cc)]⟩
 | .inr a=>⟨none,[(2,.hh),(3,.b false)],[[al.mk 5 [(e2 aT aI 1 0 0 ab.length 2 0 0 aH.length 3 0 0 ai.length)] .live],(aq 1 J ab),(aq 1 J aH),(aq 1 J ai)]⟩
def vD (aZ n1 aT aI:Int)(ab aH ai:List Int)(cC:Bool)(cB:List Int)(d7:Int)(bo:List Int)(cb:List bZ)(ej:List (List a5))(cc:List Bool)(lR:Int):Option ((Int)⊕((Unit)⊕(Unit))) :=
 if (decide (lR<n1))=true then
  if 0≤lR∧lR<(bo.length:Nat) then
  bo[(0+lR.toNat)]? >>= fun a2 =>
  if (decide (aI≤a2))=true then
   if 0≤lR∧lR<(cb.length:Nat) then
   cb[(0+lR.toNat)]? >>= fun f7 =>
   f7 >>= fun AN =>
   ej[AN.1]? >>= fun DH =>
   if 0≤aZ∧aZ<(AN.2:Nat) then
   DH[(0+aZ.toNat)]? >>= fun JJ =>
   nP JJ >>= fun dr =>
   if (decide ((0:Int)<dr))=true then
    some (.inr (.inr ()))
   else
    some (.inl (U (lR+(1:Int))))
   else none
   else none
  else
   some (.inl (U (lR+(1:Int))))
  else none
 else
  some (.inr (.inl ()))
def BE (aZ n1 aT aI:Int)(ab aH ai:List Int)(cC:Bool)(cB:List Int)(d7:Int)(bo:List Int)(cb:List bZ)(ej:List (List a5))(cc:List Bool)(lR:Int):Option ((Unit)⊕(Unit)):=iter (fun w:Int=>vD aZ n1 aT aI ab aH ai cC cB d7 bo cb ej cc w) lR
theorem RT {aZ n1 aT aI:Int}{ab aH ai:List Int}{cC:Bool}{cB:List Int}{d7:Int}{bo:List Int}{cb:List bZ}{ej:List (List a5)}{cc:List Bool}{lR:Int}:bV (vD aZ n1 aT aI ab aH ai cC cB d7 bo cb ej cc lR) (fo bp 205 4 33 [1,1,1,1,1,1,1,0,1,0,0] (FH aZ n1 aT aI ab aH ai cC cB d7 bo cb ej cc lR) (FH aZ n1 aT aI ab aH ai cC cB d7 bo cb ej cc) (Bi aZ n1 aT aI ab aH ai cC cB d7 bo cb ej cc)):=by
 unfold vD
 exact .ite (fun o =>
  .bq fun R =>
  .aD fun a2 ay =>
  (let t1:List cL:=[(ag 1),.ao true,.aJ (bO 2 (.c4 (J a2)) 2)];
  .ite (fun aK =>
  .bq fun bI =>
  .aD fun f7 bE =>
  .aD fun AN dj =>
  .aD fun DH ec =>
  .bq fun dE =>
  .aD fun JJ d3 =>
  .aD fun dr gz =>
  (let cI:=kN (hX .live 2 aN ej) kr ec;let t2:List cL:=t1.append [.aJ (ap 13 (au (.c4 ((bN 7 0 2) f7)) (ap 1 (au (.fy 169 (.bu 7 (AN.1+0) 0 AN.2) (.gB (al.mk 2 (DH.map aN) .live) [])) (au (.gB (al.mk 2 (DH.map aN) .live) (aN JJ)) (au (bM 1 (.n .i64 dr) true) (ap 1 (au (.ao true) []))))))))];
  have gG:=((.bi o R.1 R.2 (cQ J ay) aK aK aK aK (.bi aK aK bI.1 bI.2 aK (cQ (bN 7 0 2) bE) aK aK (.bi (nV (dP:=7) (c:=0) (sz:=2) dj) cI dE.1 dE.2 aK cI (cQ aN d3) aK (.dy (ry dr gz) (cm.n .i64 dr) aK aK)))):cT _);
  .ite (fun ig =>
  .ret (bW (t2.append [.ao true,(ag 2),.bj [0,1,2,3] [.box [.id,.id,.id,.id,.id],.pure,.pure,.pure] (bT [2,3])]) (gG.a3 (.dy ig (aB 1 .live aA ab) (aB 1 .live aA aH) (aB 1 .live aA ai)))))
  (fun ig =>
  .ret (let aW:=db [0,1,2,3,4,5,6,7,8];bW (t2.append [.ao false,(ag 2),.bj [0,1,2,3,4,5,6,7,8] [.box [.id,.id,.id,.id,.id],.pure,.pure,.pure,.box [.id,.id,.id,.id,.id,.id],.pure,.bz (aq 1 (bN 7 0 2) cb),.bz (cR 2 aN ej),.pure] (bT [0,4,5,149,150,151])]) (gG.a3 (.gH ig (aB 1 .live aA ab) (aB 1 .live aA aH) (aB 1 .live aA ai) (aB 1 .live aA bo) (ex aW 7 7 0 2 rfl cb) (eB aW 2 dK ej) (aB 1 .live dF cc)))))))
  (fun aK =>
  .ret (let bh:=db [0,1,2,3,4,5,6,7,8];bW (t1.append [.aJ (ap 7 (cO 12 (au (.ao false) []))),.ao false,(ag 2),.bj [0,1,2,3,4,5,6,7,8] [.box [.id,.id,.id,.id,.id],.pure,.pure,.pure,.box [.id,.id,.id,.id,.id,.id],.pure,.bz (aq 1 (bN 7 0 2) cb),.bz (cR 2 aN ej),.pure] (bT [0,4,5,149,150,151])]) (.bi o R.1 R.2 (cQ J ay) aK aK aK aK (.bi aK aK aK aK aK aK aK aK (.bi aK eW (aB 1 .live aA ab) (aB 1 .live aA aH) (aB 1 .live aA ai) (aB 1 .live aA bo) (ex bh 7 7 0 2 rfl cb) (eB bh 2 dK ej) (.ax (aB 1 .live dF cc)))))))))
  (fun o =>
  .ret (let cf:=db [0,1,2,3,4,6,7,5,8];bW [(ag 1),.ao false,.bj [0,1,2,3,4,6,7,5,8] [.box [.id,.id,.id,.id,.id],.pure,.pure,.pure,.box [.id,.id,.id,.id,.id,.id],.bz (aq 1 (bN 6 0 2) cb),.bz (cR 2 aN ej),.pure,.pure] (bT [0,5])] (.gH o (aB 1 .live aA ab) (aB 1 .live aA aH) (aB 1 .live aA ai) (ex cf 6 7 0 2 rfl cb) (eB cf 2 dK ej) (aB 1 .live aA bo) (aB 1 .live dF cc))))
theorem Lg {aZ n1 aT aI:Int}{ab aH ai:List Int}{cC:Bool}{cB:List Int}{d7:Int}{bo:List Int}{cb:List bZ}{ej:List (List a5)}{cc:List Bool}{lR:Int}{r} (h:BE aZ n1 aT aI ab aH ai cC cB d7 bo cb ej cc lR=some r):fp bp 205 4 33 [1,1,1,1,1,1,1,0,1,0,0] (FH aZ n1 aT aI ab aH ai cC cB d7 bo cb ej cc) (Bi aZ n1 aT aI ab aH ai cC cB d7 bo cb ej cc) lR r:=fr (fun _=>RT) h
def FI (n2 aT aI:Int)(ab aH ai:List Int)(cC:Bool)(cB:List Int)(d7:Int)(bo:List bZ)(dZ:List (List a5))(da:List Int):(Int×(List Bool))→S:=fun (jz,cc)=>eM [(0,.ref 0 0 0 0),(5,.ref 4 0 0 0),(181,.n .i64 n2),(182,.n .i64 jz)] [[al.mk 5 [(e2 aT aI 1 0 0 ab.length 2 0 0 aH.length 3 0 0 ai.length)] .live],(aq 1 J ab),(aq 1 J aH),(aq 1 J ai),[al.mk 6 [(ef 5 0 0 bo.length cC cB 7 0 0 da.length d7 8 0 0 cc.length)] .live],(aq 1 (bN 6 0 2) bo),(cR 2 aN dZ),(aq 1 J da),(aq 1 dk cc)]
def F0 (n2 aT aI:Int)(ab aH ai:List Int)(cC:Bool)(cB:List Int)(d7:Int)(bo:List bZ)(dZ:List (List a5))(da:List Int):(List Bool)→eP
 | a=>⟨some 8,[(0,.ref 0 0 0 0),(5,.ref 4 0 0 0)],[[al.mk 5 [(e2 aT aI 1 0 0 ab.length 2 0 0 aH.length 3 0 0 ai.length)] .live],(aq 1 J ab),(aq 1 J aH),(aq 1 J ai),[al.mk 6 [(ef 5 0 0 bo.length cC cB 7 0 0 da.length d7 8 0 0 a.length)] .live],(aq 1 (bN 6 0 2) bo),(cR 2 aN dZ),(aq 1 J da),(aq 1 dk a)]⟩
def vE (n2 aT aI:Int)(ab aH ai:List Int)(cC:Bool)(cB:List Int)(d7:Int)(bo:List bZ)(dZ:List (List a5))(da:List Int)(jz:Int)(cc:List Bool):Option ((Int×(List Bool))⊕((List Bool))) :=
 if (decide (jz<n2))=true then
  if 0≤jz∧jz<(cc.length:Nat) then
  if (0+jz.toNat)<cc.length then
  some (.inl (U (jz+(1:Int)),cc.set (0+jz.toNat) (decide (jz<aI))))
  else none
  else none
 else
  some (.inr cc)
def BF (n2 aT aI:Int)(ab aH ai:List Int)(cC:Bool)(cB:List Int)(d7:Int)(bo:List bZ)(dZ:List (List a5))(da:List Int)(jz:Int)(cc:List Bool):Option ((List Bool)):=iter (fun w:Int×(List Bool)=>vE n2 aT aI ab aH ai cC cB d7 bo dZ da w.1 w.2) (jz,cc)
theorem RU {n2 aT aI:Int}{ab aH ai:List Int}{cC:Bool}{cB:List Int}{d7:Int}{bo:List bZ}{dZ:List (List a5)}{da:List Int}{jz:Int}{cc:List Bool}:bV (vE n2 aT aI ab aH ai cC cB d7 bo dZ da jz cc) (fo bp 205 4 33 [1,1,1,1,1,1,1,1,0,1,0,0] (FI n2 aT aI ab aH ai cC cB d7 bo dZ da (jz,cc)) (FI n2 aT aI ab aH ai cC cB d7 bo dZ da) (F0 n2 aT aI ab aH ai cC cB d7 bo dZ da)):=by
 unfold vE
 exact .ite (fun o =>
  .bq fun R =>
  .bq fun ae =>
  .ret (let aW:=db [0,1,2,3,4,5,6,7,8];bW [(ag 1),.ao true,(ag 2),.aJ (ap 12 (au .dx [])),(ag 2),.bj [0,1,2,3,4,5,6,7,8] [.box [.id,.id,.id,.id,.id],.pure,.pure,.pure,.box [.id,.id,.id,.id,.id,.len ((cc.set (0+jz.toNat) (decide (jz<aI))).length)],.bz (aq 1 (bN 6 0 2) bo),.bz (cR 2 aN dZ),.pure,.dL (aq 1 dk (cc.set (0+jz.toNat) (decide (jz<aI))))] (bT [0,5,181,182])] (.bi o R.1 R.2 (h9 dk ae) (hp 1) (aB 1 .live aA ab) (aB 1 .live aA aH) (aB 1 .live aA ai) (.e7 (hC (fl cc) (0+jz.toNat) (decide (jz<aI))) (ex aW 6 6 0 2 rfl bo) (eB aW 2 dK dZ) (aB 1 .live aA da) (eA 1 .live (ga (dW dk cc) (0+jz.toNat) (decide (jz<aI)))) (aB 1 .live dF (cc.set (0+jz.toNat) (decide (jz<aI))))))))
  (fun o =>
  .ret (let bh:=db [0,1,2,3,4,5,6,7,8];bW [(ag 1),.ao false,.bj [0,1,2,3,4,5,6,7,8] [.box [.id,.id,.id,.id,.id],.pure,.pure,.pure,.box [.id,.id,.id,.id,.id,.id],.bz (aq 1 (bN 6 0 2) bo),.bz (cR 2 aN dZ),.pure,.pure] (bT [0,5])] (.gH o (aB 1 .live aA ab) (aB 1 .live aA aH) (aB 1 .live aA ai) (ex bh 6 6 0 2 rfl bo) (eB bh 2 dK dZ) (aB 1 .live aA da) (aB 1 .live dF cc))))
theorem SA {n2 aT aI:Int}{ab aH ai:List Int}{cC:Bool}{cB:List Int}{d7:Int}{bo:List bZ}{dZ:List (List a5)}{da:List Int}{jz:Int}{cc:List Bool}{r} (h:BF n2 aT aI ab aH ai cC cB d7 bo dZ da jz cc=some r):fp bp 205 4 33 [1,1,1,1,1,1,1,1,0,1,0,0] (FI n2 aT aI ab aH ai cC cB d7 bo dZ da) (F0 n2 aT aI ab aH ai cC cB d7 bo dZ da) (jz,cc) r:=fr (fun _=>RU) h
def wb (bP cl:Int)(b9 ed cV:List Int):Option ((Bool×(List Int)×Int×(List bZ)×(List Int)×(List Bool)×(List (List a5)))⊕(Unit)) :=
 nj 1 >>= fun ad =>
 if 0≤(U (cl+bP))∧(1:Int)*(U (cl+bP))≤281474976710656∧(U (cl+bP))<9223372036854775808 then
 BC (U (cl+bP)) bP cl b9 ed cV ad.cU ad.cy (List.replicate (U (cl+bP)).toNat false:List Bool) 0 ([]:List bZ) ([]:List (List a5)) ([]:List Int) >>= fun bl =>
 if 0≤(U (cl+bP))∧(8:Int)*(U (cl+bP))≤281474976710656∧(U (cl+bP))<9223372036854775808 then
 BD (U (cl+bP)) (((U (cl+bP)).toNat:Nat):Int) bP cl b9 ed cV ad.cU ad.cy bl.1 bl.2.1 bl.2.2 0 (List.replicate (U (cl+bP)).toNat 0:List Int) (List.replicate (U (cl+bP)).toNat false:List Bool) >>= fun bS =>
 rv ad.cU ad.cy (U (cl+bP)) bl.1 bl.2.1 bl.2.2 bS.2 bS.1 >>= fun bf =>
 BE (U (cl+bP)) ((bf.2.2.2.2.1.length:Nat):Int) bP cl b9 ed cV bf.2.1 bf.2.2.1 (U (cl+bP)) bf.2.2.2.2.1 bl.1 bf.2.2.2.1 bf.2.2.2.2.2 0 >>= fun cr =>
 match cr with
 | .inl sf=>(BF ((bf.2.2.2.2.2.length:Nat):Int) bP cl b9 ed cV bf.2.1 bf.2.2.1 (U (cl+bP)) bl.1 bf.2.2.2.1 bf.2.2.2.2.1 0 bf.2.2.2.2.2 >>= fun fx =>
  xW cl bf.2.1 bf.2.2.1 (U (cl+bP)) bl.1 bf.2.2.2.1 bf.2.2.2.2.1 fx >>= fun dr =>
  some (.inl (dr.1,dr.2.1,(U (cl+bP)),dr.2.2.1,dr.2.2.2.2,fx,dr.2.2.2.1)))
 | .inr sf=>(some (.inr ()))
 else none
 else none
set_option maxHeartbeats 4000000 in
theorem BG {bP cl:Int}{b9 ed cV:List Int}:bV (wb bP cl b9 ed cV) (Sum.elim (fun a=>Con bp 33 [.ref 0 0 0 0] [[al.mk 5 [(e2 bP cl 1 0 0 b9.length 2 0 0 ed.length 3 0 0 cV.length)] .live],(aq 1 J b9),(aq 1 J ed),(aq 1 J cV)] (.dm [.ref 4 0 0 0,.b true]) [[al.mk 5 [(e2 bP cl 1 0 0 b9.length 2 0 0 ed.length 3 0 0 cV.length)] .live],(aq 1 J b9),(aq 1 J ed),(aq 1 J cV),(al.mk 6 [(ef 4 1 0 a.2.2.2.1.length a.1 a.2.1 4 2 0 a.2.2.2.2.1.length a.2.2.1 4 3 0 a.2.2.2.2.2.1.length)] .live::al.mk 1 (a.2.2.2.1.map (bN 4 4 2)) .live::al.mk 1 (a.2.2.2.2.1.map J) .live::al.mk 1 (a.2.2.2.2.2.1.map dk) .live::(cR 2 aN a.2.2.2.2.2.2))]) (fun a=>Con bp 33 [.ref 0 0 0 0] [[al.mk 5 [(e2 bP cl 1 0 0 b9.length 2 0 0 ed.length 3 0 0 cV.length)] .live],(aq 1 J b9),(aq 1 J ed),(aq 1 J cV)] (.dm [.hh,.b false]) [[al.mk 5 [(e2 bP cl 1 0 0 b9.length 2 0 0 ed.length 3 0 0 cV.length)] .live],(aq 1 J b9),(aq 1 J ed),(aq 1 J cV)])):=by
 unfold wb
 exact .aD fun ad R =>
  .bq fun ae =>
  .aD fun bl aK =>
  .bq fun bI =>
  .aD fun bS bE =>
  .aD fun bf dj =>
  .aD fun cr ec =>
  (let i7:=U (cl+bP);let p8:=ef 1 0 0 bl.1.length bf.2.1 bf.2.2.1 3 0 0 bf.2.2.2.2.1.length i7 4 0 0 bf.2.2.2.2.2.length;let rl:=db [0,1,2,3,21,28,29,30,19];let rm:=ef 6 0 0 bl.1.length bf.2.1 bf.2.2.1 8 0 0 bf.2.2.2.2.1.length i7 9 0 0 bf.2.2.2.2.2.length;let pr:=(List.replicate i7.toNat false:List Bool);let p9:=ef 1 0 0 bl.1.length ad.cU ad.cy 3 0 0 bl.2.2.length i7 4 0 0 bS.2.length;let xv:=ef 6 0 0 bl.1.length ad.cU ad.cy 8 0 0 bl.2.2.length i7 9 0 0 bS.2.length;let ta:=cR 2 aN bf.2.2.2.1;let uG:=(List.replicate i7.toNat 0:List Int);let uH:=aq 1 (bN 7 0 2) bl.1;let xw:=nL [4,6,7,8,9,5];let xx:=kc [4,6,7,8,9,5];let Ai:=db [0,1,2,3,4,10,5,6,7,8];let Aj:=db [0,1,2,3,4,8,6,7,9];let uI:=aB 1 .live aA b9;let JK:=aB 1 .live aA ed;let JL:=aB 1 .live aA cV;let P1:=aq 1 (bN 2 0 2) bl.1;let t1:List cL:=[(ag 2),(ag 10),.aJ (bO 1 (bM 1 (.agg (aN ad)) false) 5),(ag 5),.Ac 21 0 1,.Js,.Ac 21 3 1,.bj [0,1,2,3,21,28,29,30,19] [.box [.id,.id,.id,.id,.id],.pure,.pure,.pure,.box [.len (([]:List bZ).length),.id,.id,.len (([]:List Int).length),.id,.len (pr.length)],.bz (aq 1 (bN 6 0 2) ([]:List bZ)),.bz (cR 2 aN ([]:List (List a5))),.dL (aq 1 J ([]:List Int)),.dL (aq 1 dk pr)] (bT [0,4,5,34,35]),(FY i7 bP cl b9 ed cV ad.cU ad.cy pr bl).gh,(ag 3),(ag 3),.bj [0,1,2,3,4,10,5,6,7,8] [.box [.id,.id,.id,.id,.id],.pure,.pure,.pure,.box [.id,.id,.id,.id,.id,.id],.dL (aq 1 J uG),.bz uH,.bz (cR 2 aN bl.2.1),.pure,.pure] [(0,ii),(4,ii),(5,ii),(11,gY (uG.length)),(117,ii),(118,ii)],(FZ i7 ((i7.toNat:Nat):Int) bP cl b9 ed cV ad.cU ad.cy bl.1 bl.2.1 bl.2.2 bS).gh,.aJ (ap 2 (au (.call {aL:=(lo [4,6,7,8,9,5]),cq:=[.bz [al.mk 6 [p9] .live],.bz P1,.bz (cR 2 aN bl.2.1),.pure,.pure,.pure],ac:=[ii,ii],r:= .b bf.1,dh:=[[al.mk 6 [p8] .live],P1,ta,(aq 1 J bf.2.2.2.2.1),(aq 1 dk bf.2.2.2.2.2),(aq 1 J bS.1)],ez:=ii,e5:=[.bz [al.mk 6 [rm] .live],.bz uH,.bz ta,.pure,.pure,.pure],dD:=[4,5,6,7,8,9],dB:=false}) [])),(ag 6),.bj [0,1,2,3,4,8,6,7,9] [.box [.id,.id,.id,.id,.id],.pure,.pure,.pure,.box [.id,.id,.id,.id,.id,.id],.pure,.bz uH,.bz ta,.pure] (bT [0,4,5,149,150,151])];
  have a9:=((.bi (qY ad R) ae.1 (Int.le_refl i7) ae.2.1 ae.2.2 uI JK JL (.bi (jI bZ) (jI Int) (lP i7.toNat (false:Bool)) (ib (xC (b5:=rl) 1 .live (bN 6 0 2) (oB (bN 29 0 2)) (zh (rfl:rl 29=some 6))) (qo (b5:=rl))) (pJ (b5:=rl) (Xa .live 2 aN) (o9 dK)) (eA 1 .live (oB J)) (aB 1 .live aA ([]:List Int)) (eA 1 .live (ls dk i7.toNat false)) (.bi (aB 1 .live dF pr) (Sy aK) bI.1 (Int.le_refl i7) bI.2.1 bI.2.2 uI JK (.bi JL (eA 1 .live (ls J i7.toNat 0)) (aB 1 .live aA uG) (ex Ai 7 6 0 2 rfl bl.1) (eB Ai 2 dK bl.2.1) (aB 1 .live aA bl.2.2) (aB 1 .live dF pr) (lP i7.toNat (0:Int)) (.bi (Sz bE) (gR xw 6 [p9] [xv] rfl) (gN 6 [xv]) (ex xw 2 7 0 2 rfl bl.1) (gN 1 (bl.1.map (bN 7 0 2))) (eB xw 2 dK bl.2.1) (qf 2 aN bl.2.1) (eo 1 aA bl.2.2) (.bi (eo 1 dF bS.2) (eo 1 aA bS.1) (gR xx 6 [rm] [p8] rfl) (gN 6 [p8]) (ex xx 7 2 0 2 rfl bl.1) (gN 1 (bl.1.map (bN 2 0 2))) (eB xx 2 dK bf.2.2.2.1) (qf 2 aN bf.2.2.2.1) (.bi (eo 1 aA bf.2.2.2.2.1) (eo 1 dF bf.2.2.2.2.2) (eo 1 aA bS.1) (E3 bf dj) uI JK JL (aB 1 .live aA bf.2.2.2.2.1) (.b4 (ex Aj 7 7 0 2 rfl bl.1) (eB Aj 2 dK bf.2.2.2.1) (aB 1 .live dF bf.2.2.2.2.2))))))))):cT _);
  (by
  rcases cr with sf|sf
  ·exact (.aD fun fx d3 =>
  .aD fun dr gz =>
  .ret (let aW:=e2 bP cl 1 0 0 b9.length 2 0 0 ed.length 3 0 0 cV.length;let cf:=cR 2 aN dr.2.2.2.1;let cI:=U (cl+bP);let bh:=ef 1 0 0 dr.2.2.1.length dr.1 dr.2.1 3 0 0 dr.2.2.2.2.length cI 4 0 0 fx.length;let ee:=ef 1 0 0 bl.1.length bf.2.1 bf.2.2.1 3 0 0 bf.2.2.2.2.1.length cI 4 0 0 fx.length;let fS:=ef 5 0 0 bl.1.length bf.2.1 bf.2.2.1 7 0 0 bf.2.2.2.2.1.length cI 8 0 0 fx.length;let gx:=ef 5 0 0 dr.2.2.1.length dr.1 dr.2.1 7 0 0 dr.2.2.2.2.length cI 8 0 0 fx.length;let e8:=db [0,1,2,3,4];let hK:=nL [4,5,6,7,8];let h4:=kc [4,5,6,7,8];let jS:=db [0,1,2,3,4,5,6,7,8];let jT:=aq 1 (bN 6 0 2) dr.2.2.1;let l9:=aq 1 (bN 4 4 2) dr.2.2.1;let ma:=aB 1 .live aA b9;let kZ:=aB 1 .live aA ed;let oT:=aB 1 .live aA cV;let m8:=cR 2 aN bf.2.2.2.1;hH (t1.append [(Bi cI ((bf.2.2.2.2.1.length:Nat):Int) bP cl b9 ed cV bf.2.1 bf.2.2.1 cI bf.2.2.2.2.1 bl.1 bf.2.2.2.1 bf.2.2.2.2.2 (.inl sf)).gh,(ag 6),.bj [0,1,2,3,4,5,6,7,8] [.box [.id,.id,.id,.id,.id],.pure,.pure,.pure,.box [.id,.id,.id,.id,.id,.id],.bz (aq 1 (bN 6 0 2) bl.1),.bz m8,.pure,.pure] (bT [0,5,181,182]),(F0 ((bf.2.2.2.2.2.length:Nat):Int) bP cl b9 ed cV bf.2.1 bf.2.2.1 cI bl.1 bf.2.2.2.1 bf.2.2.2.2.1 fx).gh,.aJ (ap 5 (au (.call {aL:=(lo [4,5,6,7,8]),cq:=[.bz [al.mk 6 [ee] .live],.bz (aq 1 (bN 2 0 2) bl.1),.bz m8,.pure,.pure],ac:=[ii,ii],r:= .dm [],dh:=[[al.mk 6 [bh] .live],(aq 1 (bN 2 0 2) dr.2.2.1),cf,(aq 1 J dr.2.2.2.2),(aq 1 dk fx)],ez:=ii,e5:=[.bz [al.mk 6 [gx] .live],.bz jT,.bz cf,.pure,.pure],dD:=[4,5,6,7,8],dB:=false}) [])),(ag 3),.xp [{cY:=some (0,0)},{cY:=some (1,0)},{cY:=some (2,0)},{cY:=some (3,0)},{ba:=[(4,0),(5,0),(7,0),(8,0)],cY:=some (6,0)}] [([],some (.bz [al.mk 5 [aW] .live])),([],some (.pure)),([],some (.pure)),([],some (.pure)),([.box [.at_ 4 1 dr.2.2.1.length,.id,.id,.at_ 4 2 dr.2.2.2.2.length,.id,.at_ 4 3 fx.length],.rx l9,.pure,.pure],some (.rx cf))] [(2,.bF (.cu (.at_ 4 0 0))),(3,ii)]]) [0,1,2,3,4] [.bz [al.mk 5 [aW] .live],.pure,.pure,.pure,.bz (al.mk 6 [(ef 4 1 0 dr.2.2.1.length dr.1 dr.2.1 4 2 0 dr.2.2.2.2.length cI 4 3 0 fx.length)] .live::al.mk 1 (dr.2.2.1.map (bN 4 4 2)) .live::al.mk 1 (dr.2.2.2.2.map J) .live::al.mk 1 (fx.map dk) .live::cf)] (a9.a3 (.bi (Lg ec) ma kZ oT (ex jS 6 6 0 2 rfl bl.1) (eB jS 2 dK bf.2.2.2.1) (aB 1 .live aA bf.2.2.2.2.1) (aB 1 .live dF bf.2.2.2.2.2) (.bi (SA d3) (gR hK 6 [ee] [fS] rfl) (gN 6 [fS]) (ex hK 2 6 0 2 rfl bl.1) (gN 1 (bl.1.map (bN 6 0 2))) (eB hK 2 dK bf.2.2.2.1) (qf 2 aN bf.2.2.2.1) (eo 1 aA bf.2.2.2.2.1) (.bi (eo 1 dF fx) (gR h4 6 [gx] [bh] rfl) (gN 6 [bh]) (ex h4 6 2 0 2 rfl dr.2.2.1) (gN 1 (dr.2.2.1.map (bN 2 0 2))) (eB h4 2 dK dr.2.2.2.1) (qf 2 aN dr.2.2.2.1) (eo 1 aA dr.2.2.2.2) (.bi (eo 1 dF fx) (RO dr gz) (gR (sX 0 [{cY:=some (0,0)},{cY:=some (1,0)},{cY:=some (2,0)},{cY:=some (3,0)},{ba:=[(4,0),(5,0),(7,0),(8,0)],cY:=some (6,0)}]) 5 [aW] [aW] rfl) ma kZ oT (rfl:(hS [{cY:=some (0,0)},{cY:=some (1,0)},{cY:=some (2,0)},{cY:=some (3,0)},{ba:=[(4,0),(5,0),(7,0),(8,0)],cY:=some (6,0)}]) 4 1=some (5,0)) (rfl:dr.2.2.1.length=dr.2.2.1.length) (.bi (rfl:(hS [{cY:=some (0,0)},{cY:=some (1,0)},{cY:=some (2,0)},{cY:=some (3,0)},{ba:=[(4,0),(5,0),(7,0),(8,0)],cY:=some (6,0)}]) 4 2=some (7,0)) (rfl:dr.2.2.2.2.length=dr.2.2.2.2.length) (rfl:(hS [{cY:=some (0,0)},{cY:=some (1,0)},{cY:=some (2,0)},{cY:=some (3,0)},{ba:=[(4,0),(5,0),(7,0),(8,0)],cY:=some (6,0)}]) 4 3=some (8,0)) (rfl:fx.length=fx.length) (NR (Ir (i9:=(bN 4 4 2)) (dW (bN 6 0 2) dr.2.2.1) (fun _=>rfl) (fun x=>(OZ (fun _=>rfl)) x)) On:ri (hS [{cY:=some (0,0)},{cY:=some (1,0)},{cY:=some (2,0)},{cY:=some (3,0)},{ba:=[(4,0),(5,0),(7,0),(8,0)],cY:=some (6,0)}]) jT l9) (aB 1 .live aA dr.2.2.2.2) (aB 1 .live dF fx) (NT (hX .live 2 aN dr.2.2.2.1) (fun _=>rfl) dK:ri (hS [{cY:=some (0,0)},{cY:=some (1,0)},{cY:=some (2,0)},{cY:=some (3,0)},{ba:=[(4,0),(5,0),(7,0),(8,0)],cY:=some (6,0)}]) cf cf) (.e7 (rfl:(hS [{cY:=some (0,0)},{cY:=some (1,0)},{cY:=some (2,0)},{cY:=some (3,0)},{ba:=[(4,0),(5,0),(7,0),(8,0)],cY:=some (6,0)}]) 4 0=some (4,0)) (gR e8 5 [aW] [aW] rfl) ma kZ oT (ib (show al.mk 6 [(ef 4 1 0 dr.2.2.1.length dr.1 dr.2.1 4 2 0 dr.2.2.2.2.length (U (cl+bP)) 4 3 0 fx.length)] .live=jr (db [0,1,2,3,4]) (al.mk 6 [(ef 4 1 0 dr.2.2.1.length dr.1 dr.2.1 4 2 0 dr.2.2.2.2.length (U (cl+bP)) 4 3 0 fx.length)] .live) from rfl) (ib (AH e8 4 4 4 2 rfl dr.2.2.1) (ib (lL e8 1 ns dr.2.2.2.2) (ib (lL e8 1 Db fx) (eB e8 2 dK dr.2.2.2.1)))))))))))) (.comp [.cu .id,.cu .id])))
  ·exact (.ret (let mb:=e2 bP cl 1 0 0 b9.length 2 0 0 ed.length 3 0 0 cV.length;hH (t1.append [(Bi (U (cl+bP)) ((bf.2.2.2.2.1.length:Nat):Int) bP cl b9 ed cV bf.2.1 bf.2.2.1 (U (cl+bP)) bf.2.2.2.2.1 bl.1 bf.2.2.2.1 bf.2.2.2.2.2 (.inr sf)).gh]) [0,1,2,3] [.bz [al.mk 5 [mb] .live],.pure,.pure,.pure] (a9.a3 (.ea (Lg ec) (gR (db [0,1,2,3]) 5 [mb] [mb] rfl) (aB 1 .live aA b9) (aB 1 .live aA ed) (aB 1 .live aA cV)))))))
def qV (aO:cw)(b6:List Int):Option Bool :=
 tr aO b6 0 0 >>= fun ad =>
 wb ad.1 ad.2.1 ad.2.2.1 ad.2.2.2.1 ad.2.2.2.2 >>= fun bg =>
 match bg with
 | .inl fJ=>(some true)
 | .inr fJ=>(some false)
theorem E6 {aO:cw}{b6:List Int}:bV (qV aO b6) (fun r=>Con bp 19 [.dV 2 [(fU aO)] 0 0,.isl 1 (b6.map J)] [] (.b r) []):=by
 unfold qV
 exact .aD fun ad R =>
  .aD fun bg ay =>
  (let fS:=e2 ad.1 ad.2.1 1 0 0 ad.2.2.1.length 2 0 0 ad.2.2.2.1.length 3 0 0 ad.2.2.2.2.length;let gx:=db [4,3];let t1:List cL:=[(ag 1),.aJ (bO 2 (.call {aL:=[],cq:=[],ac:=[ii,ii,ii,ii],r:= .agg (e2 ad.1 ad.2.1 0 0 0 ad.2.2.1.length 0 1 0 ad.2.2.2.1.length 0 2 0 ad.2.2.2.2.length),dh:=[[al.mk 1 (ad.2.2.1.map J) .live,al.mk 1 (ad.2.2.2.1.map J) .live,al.mk 1 (ad.2.2.2.2.map J) .live]],ez:= .bF (.agg [.id,.id,.id,.id,.id]),e5:=[.bz [al.mk 1 (ad.2.2.1.map J) .live,al.mk 1 (ad.2.2.2.1.map J) .live,al.mk 1 (ad.2.2.2.2.map J) .live]],dD:=[],dB:=true}) 2),.bj [4,3] [.box [.id,.id,.id,.id,.id],.bz [al.mk 1 (ad.2.2.1.map J) .live,al.mk 1 (ad.2.2.2.1.map J) .live,al.mk 1 (ad.2.2.2.2.map J) .live]] [(0,ii),(1,ii),(4,ii),(5,ii),(8,ii),(9,ii),(10,.bF (.agg [.id,.id,.id,.id,.id]))],.xp [{cY:=some (0,0)},{ba:=[(1,0)]},{ba:=[(1,1)]},{ba:=[(1,2)]}] [([],some (.box [.id,.id,.at_ 1 0 ad.2.2.1.length,.at_ 2 0 ad.2.2.2.1.length,.at_ 3 0 ad.2.2.2.2.length])),([.pure],none),([.pure],none),([.pure],none)] [(0,ii),(1,ii),(4,ii),(5,ii),(8,ii),(9,ii),(10,.bF (.agg [.id,.id,.at_ 1 0 ad.2.2.1.length,.at_ 2 0 ad.2.2.2.1.length,.at_ 3 0 ad.2.2.2.2.length]))]];
  have a9:=((.bi (ib (lL (kc [3]) 1 ns ad.2.2.1) (ib (lL (kc [3]) 1 ns ad.2.2.2.1) (ib (lL (kc [3]) 1 ns ad.2.2.2.2) (qo (b5:=(kc [3])))))) ((nR rfl (nR rfl (nR rfl HJ))):n7 [al.mk 1 (ad.2.2.1.map J) .live,al.mk 1 (ad.2.2.2.1.map J) .live,al.mk 1 (ad.2.2.2.2.map J) .live]) (KR ad R) (cm.agg (pI (cm.n .i64 ad.1) (pI (cm.n .i64 ad.2.1) (pI (cm.bu 0 0 0 ad.2.2.1.length) (pI (cm.bu 0 1 0 ad.2.2.2.1.length) (pI (cm.bu 0 2 0 ad.2.2.2.2.length) H8)))))) ((Cv (sE (rQ sS) (sE (rQ sS) (sE (rQ sS) CF))) CE):sc [[al.mk 1 (ad.2.2.1.map J) .live,al.mk 1 (ad.2.2.2.1.map J) .live,al.mk 1 (ad.2.2.2.2.map J) .live]]) (ib (lL gx 1 ns ad.2.2.1) (ib (lL gx 1 ns ad.2.2.2.1) (ib (lL gx 1 ns ad.2.2.2.2) (qo (b5:=gx))))) (rfl:(hS [{cY:=some (0,0)},{ba:=[(1,0)]},{ba:=[(1,1)]},{ba:=[(1,2)]}]) 1 0=some (1,0)) (rfl:ad.2.2.1.length=ad.2.2.1.length) (.bi (rfl:(hS [{cY:=some (0,0)},{ba:=[(1,0)]},{ba:=[(1,1)]},{ba:=[(1,2)]}]) 2 0=some (1,1)) (rfl:ad.2.2.2.1.length=ad.2.2.2.1.length) (rfl:(hS [{cY:=some (0,0)},{ba:=[(1,0)]},{ba:=[(1,1)]},{ba:=[(1,2)]}]) 3 0=some (1,2)) (rfl:ad.2.2.2.2.length=ad.2.2.2.2.length) (aB 1 .live aA ad.2.2.1) (aB 1 .live aA ad.2.2.2.1) (aB 1 .live aA ad.2.2.2.2) (rfl:(hS [{cY:=some (0,0)},{ba:=[(1,0)]},{ba:=[(1,1)]},{ba:=[(1,2)]}]) 1 0=some (1,0)) (.bi (rfl:ad.2.2.1.length=ad.2.2.1.length) (rfl:(hS [{cY:=some (0,0)},{ba:=[(1,0)]},{ba:=[(1,1)]},{ba:=[(1,2)]}]) 2 0=some (1,1)) (rfl:ad.2.2.2.1.length=ad.2.2.2.1.length) (rfl:(hS [{cY:=some (0,0)},{ba:=[(1,0)]},{ba:=[(1,1)]},{ba:=[(1,2)]}]) 3 0=some (1,2)) (rfl:ad.2.2.2.2.length=ad.2.2.2.2.length) (gR (nL [0,1,2,3]) 5 [fS] [fS] rfl) (gN 5 [fS]) (eo 1 aA ad.2.2.1) (.aF (eo 1 aA ad.2.2.2.1) (eo 1 aA ad.2.2.2.2))))):cT _);
  (by
  rcases bg with fJ|fJ
  ·exact (.ret (let aW:=e2 ad.1 ad.2.1 1 0 0 ad.2.2.1.length 2 0 0 ad.2.2.2.1.length 3 0 0 ad.2.2.2.2.length;let bh:=ef 4 1 0 fJ.2.2.2.1.length fJ.1 fJ.2.1 4 2 0 fJ.2.2.2.2.1.length fJ.2.2.1 4 3 0 fJ.2.2.2.2.2.1.length;let cf:=kc [0,1,2,3,4];let cI:=cR 2 aN fJ.2.2.2.2.2.2;b1 (t1.append [.aJ (au (.call {aL:=(lo [0,1,2,3]),cq:=[.bz [al.mk 5 [aW] .live],.pure,.pure,.pure],ac:=[ii],r:= .dm [.ref 4 0 0 0,.b true],dh:=[[al.mk 5 [aW] .live],(aq 1 J ad.2.2.1),(aq 1 J ad.2.2.2.1),(aq 1 J ad.2.2.2.2),(al.mk 6 [bh] .live::al.mk 1 (fJ.2.2.2.1.map (bN 4 4 2)) .live::al.mk 1 (fJ.2.2.2.2.1.map J) .live::al.mk 1 (fJ.2.2.2.2.2.1.map dk) .live::cI)],ez:= .comp [.cu .id,.cu .id],e5:=[.bz [al.mk 5 [aW] .live],.pure,.pure,.pure,.bz (al.mk 6 [bh] .live::al.mk 1 (fJ.2.2.2.1.map (bN 4 4 2)) .live::al.mk 1 (fJ.2.2.2.2.1.map J) .live::al.mk 1 (fJ.2.2.2.2.2.1.map dk) .live::cI)],dD:=[0,1,2,3],dB:=false}) (ap 5 [])),(ag 2)]) (a9.a3 (.gH (gR cf 5 [aW] [aW] rfl) (gN 5 [aW]) (eo 1 aA ad.2.2.1) (eo 1 aA ad.2.2.2.1) (eo 1 aA ad.2.2.2.2) (ib (show al.mk 6 [(ef 4 1 0 fJ.2.2.2.1.length fJ.1 fJ.2.1 4 2 0 fJ.2.2.2.2.1.length fJ.2.2.1 4 3 0 fJ.2.2.2.2.2.1.length)] .live=jr (kc [0,1,2,3,4]) (al.mk 6 [(ef 4 1 0 fJ.2.2.2.1.length fJ.1 fJ.2.1 4 2 0 fJ.2.2.2.2.1.length fJ.2.2.1 4 3 0 fJ.2.2.2.2.2.1.length)] .live) from rfl) (ib (AH cf 4 4 4 2 rfl fJ.2.2.2.1) (ib (lL cf 1 ns fJ.2.2.2.2.1) (ib (lL cf 1 Db fJ.2.2.2.2.2.1) (eB cf 2 dK fJ.2.2.2.2.2.2))))) ((nR rfl (nR rfl (nR rfl (nR rfl (Hs (hX .live 2 aN fJ.2.2.2.2.2.2)))))):n7 (al.mk 6 [bh] .live::al.mk 1 (fJ.2.2.2.1.map (bN 4 4 2)) .live::al.mk 1 (fJ.2.2.2.2.1.map J) .live::al.mk 1 (fJ.2.2.2.2.2.1.map dk) .live::cI)) (BG (.inl fJ) ay)))))
  ·exact (.ret (let ee:=e2 ad.1 ad.2.1 1 0 0 ad.2.2.1.length 2 0 0 ad.2.2.2.1.length 3 0 0 ad.2.2.2.2.length;b1 (t1.append [.aJ (au (.call {aL:=(lo [0,1,2,3]),cq:=[.bz [al.mk 5 [ee] .live],.pure,.pure,.pure],ac:=[ii],r:= .dm [.hh,.b false],dh:=[[al.mk 5 [ee] .live],(aq 1 J ad.2.2.1),(aq 1 J ad.2.2.2.1),(aq 1 J ad.2.2.2.2)],ez:=ii,e5:=[.bz [al.mk 5 [ee] .live],.pure,.pure,.pure],dD:=[0,1,2,3],dB:=false}) (ap 5 [])),(ag 2)]) (a9.a3 (.e7 (gR (kc [0,1,2,3]) 5 [ee] [ee] rfl) (gN 5 [ee]) (eo 1 aA ad.2.2.1) (eo 1 aA ad.2.2.2.1) (eo 1 aA ad.2.2.2.2) (BG (.inr fJ) ay)))))))
def v5 (aO:cw)(b6:List Int)(bJ:Int):Option Bool :=
 rG aO b6 >>= fun ad =>
 if ad=true then
  if (decide (bJ<(0:Int)))=true then
   some false
  else
   if (decide ((len_ c2 aO.b8)≤bJ))=true then
    some false
   else
    su aO ([bJ]:List Int) >>= fun bw =>
    qV bw b6 >>= fun eh =>
    some eh
 else
  some false
theorem Gw {aO:cw}{b6:List Int}{bJ:Int}:bV (v5 aO b6 bJ) (fun r=>Con bp 10 [.agg (fU aO),.isl 1 (b6.map J),.n .i64 bJ] [] (.b r) []):=by
 unfold v5
 exact .aD fun ad R =>
  (have bY:=((.aF (yc ad R) (cm.b ad)):cT _);
  .ite (fun ae =>
  (have a9:=bY.a3 (.b4 (dU ae) (dU ae) (dU ae));
  .ite (fun ay =>
  .ret (b1 [(ag 2),.aJ (ap 2 (au (bM 2 (.b ad) true) (ap 4 (au (.ao false) (ap 1 (cO 5 (au (.ao true) []))))))),.ao true,(ag 1)] (a9.a3 (.eT ay ay ay ay ay ay cv))))
  (fun ay =>
  (let t3:List cL:=[(ag 2),.aJ (ap 2 (au (bM 2 (.b ad) true) (ap 4 (au (.ao false) (ap 6 (au (.ao false) []))))))];
  .ite (fun aK =>
  .ret (b1 (t3.append [.ao true,(ag 1)]) (a9.a3 (.eT ay ay ay ay ay ay aK))))
  (fun aK =>
  .aD fun bw bQ =>
  .aD fun eh c6 =>
  .ret (b1 (t3.append [.ao false,.aJ (bO 3 (.sl 19 (.call {ac:=[ii,.bF (.cu (.fI (([bJ]:List Int).map J)))],r:= .agg (fU bw),dB:=false,dD:=[19]})) 2),.aJ (bO 1 (.call {ac:=[.bF (.ptr [.id,.id]),ii],r:= .b eh,dB:=true,dD:=[21]}) 1)]) (a9.a3 (.bi ay ay ay ay ay ay aK (kd (show [[.n .i64 bJ]]=(([bJ]:List Int)).map J from rfl) (show 1=([bJ]:List Int).length from rfl)) (.e7 (jY J bJ) (ey aA ([bJ]:List Int)) (Fi bw bQ) (k9 (qX bw):gU [(fU bw)]) (E6 eh c6) (cm.b eh))))))))))
  (fun ae =>
  .ret (b1 [(ag 2),.aJ (ap 2 (au (bM 2 (.b ad) true) (ap 2 (cO 2 (au (.ao true) (ap 1 (cO 5 (ap 1 [])))))))),.ao true,(ag 1)] (bY.a3 (.bi (dN ae) (dN ae) (dN ae) cv cv cv cv cv (.ax cv))))))
def ER (b6:List Int)(bU:Int)(aT:List bb)(aI:List bB):(Int×(List Int))→S:=fun (b0,ab)=>eM [(1,.isl 1 (b6.map J)),(2,.ref 0 0 0 0),(5,.bu 1 0 0 ab.length),(13,.n .i64 bU),(14,.n .i64 b0)] [[al.mk 2 [[.isl 4 (aT.map cS),.isl 3 (aI.map c2)]] .live],(aq 1 J ab)]
def K0 (b6:List Int)(bU:Int)(aT:List bb)(aI:List bB):(List Int)→eP
 | a=>⟨some 0,[(5,.bu 0 0 0 a.length)],[(aq 1 J a)]⟩
def xP (b6:List Int)(bU:Int)(aT:List bb)(aI:List bB)(b0:Int)(ab:List Int):Option ((Int×(List Int))⊕((List Int))) :=
 if (decide (b0<bU))=true then
  v5 (⟨aT,aI⟩:cw) b6 b0 >>= fun b3 =>
  if b3=true then
   some (.inl (U (b0+(1:Int)),ab))
  else
   if (ab++([b0]:List Int)).length*8≤140737488355328 then
   some (.inl (U (b0+(1:Int)),ab++([b0]:List Int)))
   else none
 else
  some (.inr ab)
def Fb (b6:List Int)(bU:Int)(aT:List bb)(aI:List bB)(b0:Int)(ab:List Int):Option ((List Int)):=iter (fun w:Int×(List Int)=>xP b6 bU aT aI w.1 w.2) (b0,ab)
theorem Rg {b6:List Int}{bU:Int}{aT:List bb}{aI:List bB}{b0:Int}{ab:List Int}:bV (xP b6 bU aT aI b0 ab) (fo bp 28 0 5 [1,1,1,0,1,0,0] (ER b6 bU aT aI (b0,ab)) (ER b6 bU aT aI) (K0 b6 bU aT aI)):=by
 unfold xP
 exact .ite (fun o =>
  .aD fun b3 ae =>
  (let t1:List cL:=[(ag 1),.ao true,(ag 2),.aJ (bO 3 (bM 3 (.b b3) true) 1)];
  have a9:=((.b4 o (Gw b3 ae) (cm.b b3)):cT _);
  .ite (fun ay =>
  .ret (bW (t1.append [.ao false,(ag 2),.bj [0,1] [.box [.id,.id],.pure] (bT [1,2,5,13,14])]) (a9.a3 (.aF (dU ay) (aB 1 .live aA ab)))))
  (fun ay =>
  .bq fun aK =>
  .ret (let aW:=(ab++([b0]:List Int));bW (t1.append [.ao true,.aJ (bO 3 (.a3 (aW.length)) 1),(ag 2),.bj [0,13] [.box [.id,.id],.dL (aq 1 J aW)] (bT [1,2,5,13,14])]) (a9.a3 (.eT (dN ay) (jY J b0) (oX J ab) (mI J ab b0) aK (eA 1 .live (oY J ab b0)) (aB 1 .live aA aW)))))))
  (fun o =>
  .ret (bW [(ag 1),.ao false,.bj [1] [.pure] (bT [5])] (.aF o (aB 1 .live aA ab))))
theorem Ry {b6:List Int}{bU:Int}{aT:List bb}{aI:List bB}{b0:Int}{ab:List Int}{r} (h:Fb b6 bU aT aI b0 ab=some r):fp bp 28 0 5 [1,1,1,0,1,0,0] (ER b6 bU aT aI) (K0 b6 bU aT aI) (b0,ab) r:=fr (fun _=>Rg) h
def vF (aO:cw)(b6:List Int):Option (List Int) :=
 rG aO b6 >>= fun ad =>
 if ad=true then
  Fb b6 (len_ c2 aO.b8) aO.cx aO.b8 0 ([]:List Int) >>= fun bl =>
  some bl
 else
  some ([]:List Int)
theorem K5 {aO:cw}{b6:List Int}:bV (vF aO b6) (fun r=>Con bp 5 [.agg (fU aO),.isl 1 (b6.map J)] [] (.isl 1 (r.map J)) []):=by
 unfold vF
 exact .aD fun ad R =>
  (let t1:List cL:=[(ag 2),.aJ (bO 2 (bM 2 (.b ad) true) 1)];
  have a9:=((.aF (yc ad R) (cm.b ad)):cT _);
  .ite (fun ae =>
  .aD fun bl aK =>
  .ret (b1 (t1.append [.ao false,(ag 1),(ag 4),.rb 5 1,.bj [0,11] [.box [.id,.id],.dL (aq 1 J ([]:List Int))] [(1,ii),(2,ii),(5,gY (([]:List Int).length)),(13,ii),(14,ii)],.sub (.exit 0) [(5,.bu 0 0 0 bl.length)] [(aq 1 J bl)],(ag 2)]) (a9.a3 (.gH (dU ae) (eA 1 .live (oB J)) (aB 1 .live aA ([]:List Int)) (jI Int) (Ry aK) (jH J bl) (i3 J bl) (ey aA bl))) (.bF (.cu (.fI (bl.map J))))))
  (fun ae =>
  .ret (b1 (t1.append [.ao true,(ag 1)]) (a9.a3 (.ax (dN ae))) (.bF (.cu (.gm 1))))))
def qh (aO:cw)(b6:List Int):Option Bool :=
 rG aO b6 >>= fun ad =>
 if ad=true then
  qV aO b6 >>= fun bl =>
  some bl
 else
  some false
theorem x3 {aO:cw}{b6:List Int}:bV (qh aO b6) (fun r=>Con bp 7 [.agg (fU aO),.isl 1 (b6.map J)] [] (.b r) []):=by
 unfold qh
 exact .aD fun ad R =>
  (have bY:=((.aF (yc ad R) (cm.b ad)):cT _);
  .ite (fun ae =>
  .aD fun bl aK =>
  .ret (b1 [(ag 2),.aJ (ap 2 (au (bM 2 (.b ad) true) (ap 2 (au (.call {ac:=[.bF (.ptr [.id,.id]),ii],r:= .b bl,dB:=true,dD:=[0]}) (au (.ao true) (ap 1 []))))))] (bY.a3 (.e7 ae ae (k9 (qX aO):gU [(fU aO)]) (E6 bl aK) (cm.b bl) ae))))
  (fun ae =>
  .ret (b1 [(ag 2),.aJ (ap 2 (au (bM 2 (.b ad) true) (ap 1 (cO 2 (au (.ao false) (ap 1 []))))))] (bY.a3 (.b4 ae ae ae)))))
def vw (aO:cw)(bJ:Int):Option Bool :=
 if (decide ((0:Int)≤bJ))=true then
  if (decide (bJ<(len_ c2 aO.b8)))=true then
   if 0≤bJ∧bJ<aO.b8.length then
   aO.b8[bJ.toNat]? >>= fun fN =>
   some (fN.lg == (1:Int))
   else none
  else
   some false
 else
  some false
theorem K3 {aO:cw}{bJ:Int}:bV (vw aO bJ) (fun r=>Con bp 29 [.dV 2 [(fU aO)] 0 0,.n .i64 bJ] [] (.b r) []):=by
 unfold vw
 exact .ite (fun o =>
  .ite (fun R =>
  .bq fun ae =>
  .aD fun fN aK =>
  .ret (b1 [(ag 1),.aJ (ap 10 (au (.ao true) (ap 8 (au (.c4 (c2 fN)) (bO 1 (.ao true) 1)))))] (.bi o o o o o o o o (.bi R R R R R R ae.1 (eY c2 ae.2) (.ea R R (cQ c2 aK) R R)))))
  (fun R =>
  .ret (b1 [(ag 1),.aJ (ap 10 (au (.ao true) (ap 1 (cO 9 (au (.ao false) (ap 1 []))))))] (.bi o o o o o o o o (.bi R R R R R R R R (.aF R R))))))
  (fun o =>
  .ret (b1 [(ag 1),.aJ (ap 3 (cO 7 (au (.ao false) (ap 1 (cO 9 (ap 2 []))))))] (.bi o o o o o o o o (.bi eW eW eW eW eW eW eW eW (.ax eW)))))
def Bw (bJ:Int)(cu:cw):Option Bool :=
 vw cu bJ >>= fun ad =>
 some (!ad)
theorem Sh {bJ:Int}{cu:cw}:bV (Bw bJ cu) (fun r=>Con bp 31 [.n .i64 bJ,.dV 2 [(fU cu)] 0 0] [] (.b r) []):=by
 unfold Bw
 exact .aD fun ad R =>
  .ret (b1 [(ag 1),.aJ (bO 1 (bM 2 (.b ad) true) 2)] (.aF (K3 ad R) (cm.b ad)))
def El (aO:List Int)(gq:List bb)(iW:List bB)(cZ:Int):Int→S:=fun c1=>eM [(0,.isl 1 (aO.map J)),(1,.fn 31 [.dV 2 [[.isl 4 (gq.map cS),.isl 3 (iW.map c2)]] 0 0]),(7,.n .i64 cZ),(8,.n .i64 c1)] []
def KK (aO:List Int)(gq:List bb)(iW:List bB)(cZ:Int):((Unit)⊕(Int))→eP
 | .inl a=>⟨some 0,[],[]⟩
 | .inr a=>⟨none,[(4,.n .i64 a)],[]⟩
def u5 (aO:List Int)(gq:List bb)(iW:List bB)(cZ c1:Int):Option ((Int)⊕((Unit)⊕(Int))) :=
 if (decide (c1<cZ))=true then
  if 0≤c1∧c1<aO.length then
  aO[c1.toNat]? >>= fun a2 =>
  Bw a2 (⟨gq,iW⟩:cw) >>= fun bt =>
  if bt=true then
   some (.inr (.inr c1))
  else
   some (.inl (U (c1+(1:Int))))
  else none
 else
  some (.inr (.inl ()))
def EA (aO:List Int)(gq:List bb)(iW:List bB)(cZ c1:Int):Option ((Unit)⊕(Int)):=iter (fun w:Int=>u5 aO gq iW cZ w) c1
theorem QN {aO:List Int}{gq:List bb}{iW:List bB}{cZ c1:Int}:bV (u5 aO gq iW cZ c1) (fo bp 19 0 50 [1,0,1,0,0] (El aO gq iW cZ c1) (El aO gq iW cZ) (KK aO gq iW cZ)):=by
 unfold u5
 exact .ite (fun o =>
  .bq fun R =>
  .aD fun a2 ay =>
  .aD fun bt bI =>
  (let t1:List cL:=[(ag 1),.ao true,(ag 2),.aJ (ap 4 (au (.c4 (J a2)) (au (bM 2 (.b bt) true) [])))];
  have a9:=((.e7 o R.1 (eY J R.2) (cQ J ay) (Sh bt bI) (cm.b bt)):cT _);
  .ite (fun bQ =>
  .ret (bW (t1.append [.ao true,(ag 2),.bj [] [] (bT [4])]) (a9.a3 (.ax bQ))))
  (fun bQ =>
  .ret (bW (t1.append [.ao false,(ag 2),.bj [] [] [(0,ii),(1,.comp [.cu .id]),(7,ii),(8,ii)]]) (a9.a3 (.ax bQ))))))
  (fun o =>
  .ret (bW [(ag 1),.ao false,.bj [] [] []] (.ax o)))
theorem KM {aO:List Int}{gq:List bb}{iW:List bB}{cZ c1:Int}{r} (h:EA aO gq iW cZ c1=some r):fp bp 19 0 50 [1,0,1,0,0] (El aO gq iW cZ) (KK aO gq iW cZ) c1 r:=fr (fun _=>QN) h
def A3 (aO:List Int)(jK:cw):Option Int :=
 EA aO jK.cx jK.b8 (len_ J aO) 0 >>= fun ad =>
 match ad with
 | .inl bs=>(some (-1))
 | .inr bs=>(some bs)
theorem Q7 {aO:List Int}{jK:cw}:bV (A3 aO jK) (fun r=>Con bp 50 [.isl 1 (aO.map J),.fn 31 [.dV 2 [(fU jK)] 0 0]] [] (.n .i64 r) []):=by
 unfold A3
 exact .aD fun ad R =>
  (let t1:List cL:=[(ag 1),(ag 3),.bj [] [] [(0,ii),(1,.comp [.cu .id]),(7,ii),(8,ii)]];
  (by
  rcases ad with bs|bs
  ·exact (.ret (b1 (t1.append [.sub (.exit 0) [] [],(ag 1)]) (.ax (KM R))))
  ·exact (.ret (b1 (t1.append [.sub (.ret) [(4,.n .i64 bs)] []]) (.ax (KM R))))))
def xN (aO:List Int)(jK:cw):Option Bool :=
 A3 aO jK >>= fun ad =>
 some (decide ((0:Int)≤ad))
theorem QW {aO:List Int}{jK:cw}:bV (xN aO jK) (fun r=>Con bp 30 [.isl 1 (aO.map J),.fn 31 [.dV 2 [(fU jK)] 0 0]] [] (.b r) []):=by
 unfold xN
 exact .aD fun ad R =>
  .ret (b1 [(ag 1),.aJ (bO 2 (bM 2 (.n .i64 ad) true) 2)] (.aF (Q7 ad R) (cm.n .i64 ad)))
def BH (aO:cw)(b6 jy:List Int):Option Bool :=
 rG aO b6 >>= fun ad =>
 if ad=true then
  xN jy aO >>= fun bl =>
  if bl=true then
   some false
  else
   su aO jy >>= fun bS =>
   qV bS b6 >>= fun bf =>
   some bf
 else
  some false
theorem SB {aO:cw}{b6 jy:List Int}:bV (BH aO b6 jy) (fun r=>Con bp 18 [.agg (fU aO),.isl 1 (b6.map J),.isl 1 (jy.map J)] [] (.b r) []):=by
 unfold BH
 exact .aD fun ad R =>
  (have bY:=((.aF (yc ad R) (cm.b ad)):cT _);
  .ite (fun ae =>
  .aD fun bl aK =>
  (let t2:List cL:=[(ag 2),.aJ (ap 2 (au (bM 2 (.b ad) true) (ap 4 (au (.call {ac:=[ii,.comp [.ptr [.id,.id]]],r:= .b bl,dB:=true,dD:=[0]}) (au (.ao false) [])))))];
  have gG:=bY.a3 (.eT (dU ae) (dU ae) (dU ae) (k9 (qX aO):gU [(fU aO)]) (QW bl aK) (cm.b bl) (dU ae));
  .ite (fun bI =>
  .ret (b1 (t2.append [.ao true,(ag 1)]) (gG.a3 (.ax bI))))
  (fun bI =>
  .aD fun bS bE =>
  .aD fun bf dj =>
  .ret (b1 (t2.append [.ao false,.aJ (bO 2 (bM 2 (.agg (fU bS)) false) 2),.aJ (bO 1 (.call {ac:=[.bF (.ptr [.id,.id]),ii],r:= .b bf,dB:=true,dD:=[14]}) 1)]) (gG.a3 (.ea bI (Fi bS bE) (k9 (qX bS):gU [(fU bS)]) (E6 bf dj) (cm.b bf)))))))
  (fun ae =>
  .ret (b1 [(ag 2),.aJ (ap 2 (au (bM 2 (.b ad) true) (ap 2 (cO 3 (au (.ao true) []))))),.ao true,(ag 1)] (bY.a3 (.ea (dN ae) (dN ae) (dN ae) (dN ae) cv)))))
def Bn (bJ:Int)(cu:cw)(bF:List Int):Option Bool :=
 BH cu bF ([bJ]:List Int) >>= fun ad =>
 some (!ad)
theorem R8 {bJ:Int}{cu:cw}{bF:List Int}:bV (Bn bJ cu bF) (fun r=>Con bp 17 [.n .i64 bJ,.dV 2 [(fU cu)] 0 0,.dV 1 [[.isl 1 (bF.map J)]] 0 0] [] (.b r) []):=by
 unfold Bn
 exact .aD fun ad R =>
  .ret (b1 [(ag 1),.aJ (bO 4 (.call {ac:=[ii,ii,.bF (.cu (.fI (([bJ]:List Int).map J)))],r:= .b ad,dB:=true,dD:=[4]}) 2)] (.ea (kd (show [[.n .i64 bJ]]=(([bJ]:List Int)).map J from rfl) (show 1=([bJ]:List Int).length from rfl)) (jY J bJ) (ey aA ([bJ]:List Int)) (SB ad R) (cm.b ad)))
def Ed (ek:List bb)(dH:List bB)(n3:List bb)(nX:List bB)(nU:List Int)(du:Int):(Int×(List Int))→S:=fun (d8,az)=>eM [(0,.dV 2 [[.isl 4 (ek.map cS),.isl 3 (dH.map c2)]] 0 0),(1,.fn 17 [.dV 2 [[.isl 4 (n3.map cS),.isl 3 (nX.map c2)]] 0 0,.dV 1 [[.isl 1 (nU.map J)]] 0 0]),(5,.bu 0 0 0 az.length),(11,.n .i64 du),(12,.n .i64 d8)] [(aq 1 J az)]
def KG (ek:List bb)(dH:List bB)(n3:List bb)(nX:List bB)(nU:List Int)(du:Int):(List Int)→eP
 | a=>⟨some 0,[(5,.bu 0 0 0 a.length)],[(aq 1 J a)]⟩
def xJ (ek:List bb)(dH:List bB)(n3:List bb)(nX:List bB)(nU:List Int)(du d8:Int)(az:List Int):Option ((Int×(List Int))⊕((List Int))) :=
 if (decide (d8<du))=true then
  vw (⟨ek,dH⟩:cw) d8 >>= fun b3 =>
  if b3=true then
   Bn d8 (⟨n3,nX⟩:cw) nU >>= fun bt =>
   if bt=true then
    if (az++([d8]:List Int)).length*8≤140737488355328 then
    some (.inl (U (d8+(1:Int)),az++([d8]:List Int)))
    else none
   else
    some (.inl (U (d8+(1:Int)),az))
  else
   some (.inl (U (d8+(1:Int)),az))
 else
  some (.inr az)
def Ee (ek:List bb)(dH:List bB)(n3:List bb)(nX:List bB)(nU:List Int)(du d8:Int)(az:List Int):Option ((List Int)):=iter (fun w:Int×(List Int)=>xJ ek dH n3 nX nU du w.1 w.2) (d8,az)
theorem QF {ek:List bb}{dH:List bB}{n3:List bb}{nX:List bB}{nU:List Int}{du d8:Int}{az:List Int}:bV (xJ ek dH n3 nX nU du d8 az) (fo bp 29 0 16 [1,1,0,1,0,0] (Ed ek dH n3 nX nU du (d8,az)) (Ed ek dH n3 nX nU du) (KG ek dH n3 nX nU du)):=by
 unfold xJ
 exact .ite (fun o =>
  .aD fun b3 ae =>
  (let t1:List cL:=[(ag 1),.ao true,(ag 2)];
  have a9:=((.b4 o (K3 b3 ae) (cm.b b3)):cT _);
  .ite (fun ay =>
  .aD fun bt bI =>
  (let t3:List cL:=t1.append [.aJ (ap 2 (au (bM 2 (.b b3) true) (ap 3 (au (bM 3 (.b bt) true) (au (.ao true) [])))))];
  have fA:=a9.a3 (.e7 ay ay ay (R8 bt bI) (cm.b bt) ay);
  .ite (fun bQ =>
  .bq fun bE =>
  .ret (let aW:=(az++([d8]:List Int));bW (t3.append [.ao true,.aJ (bO 3 (.a3 (aW.length)) 1),(ag 2),.bj [15] [.dL (aq 1 J aW)] [(0,ii),(1,.comp [.cu .id,.cu .id]),(5,ii),(11,ii),(12,ii)]]) (fA.a3 (.eT bQ (jY J d8) (oX J az) (mI J az d8) bE (eA 1 .live (oY J az d8)) (aB 1 .live aA aW)))))
  (fun bQ =>
  .ret (bW (t3.append [.ao false,(ag 2),.bj [0] [.pure] [(0,ii),(1,.comp [.cu .id,.cu .id]),(5,ii),(11,ii),(12,ii)]]) (fA.a3 (.aF bQ (aB 1 .live aA az)))))))
  (fun ay =>
  .ret (bW (t1.append [.aJ (ap 2 (au (bM 2 (.b b3) true) (ap 1 (cO 3 (au (.ao false) []))))),.ao false,(ag 2),.bj [0] [.pure] [(0,ii),(1,.comp [.cu .id,.cu .id]),(5,ii),(11,ii),(12,ii)]]) (a9.a3 (.e7 ay ay ay ay eW (aB 1 .live aA az)))))))
  (fun o =>
  .ret (bW [(ag 1),.ao false,.bj [0] [.pure] (bT [5])] (.aF o (aB 1 .live aA az))))
theorem QG {ek:List bb}{dH:List bB}{n3:List bb}{nX:List bB}{nU:List Int}{du d8:Int}{az:List Int}{r} (h:Ee ek dH n3 nX nU du d8 az=some r):fp bp 29 0 16 [1,1,0,1,0,0] (Ed ek dH n3 nX nU du) (KG ek dH n3 nX nU du) (d8,az) r:=fr (fun _=>QF) h
def Ef (aO yX:cw)(CM:List Int):Option (List Int) :=
 Ee aO.cx aO.b8 yX.cx yX.b8 CM (len_ c2 aO.b8) 0 ([]:List Int) >>= fun ad =>
 some ad
theorem QH {aO yX:cw}{CM:List Int}:bV (Ef aO yX CM) (fun r=>Con bp 16 [.dV 2 [(fU aO)] 0 0,.fn 17 [.dV 2 [(fU yX)] 0 0,.dV 1 [[.isl 1 (CM.map J)]] 0 0]] [] (.isl 1 (r.map J)) []):=by
 unfold Ef
 exact .aD fun ad R =>
  .ret (b1 [(ag 1),(ag 1),(ag 6),.rb 5 1,.bj [8] [.dL (aq 1 J ([]:List Int))] [(0,ii),(1,.comp [.cu .id,.cu .id]),(5,gY (([]:List Int).length)),(11,ii),(12,ii)],.sub (.exit 0) [(5,.bu 0 0 0 ad.length)] [(aq 1 J ad)],(ag 2)] (.eT (eA 1 .live (oB J)) (aB 1 .live aA ([]:List Int)) (jI Int) (QG R) (jH J ad) (i3 J ad) (ey aA ad)) (.bF (.cu (.fI (ad.map J)))))
def x4 (aO:cw)(b6:List Int):Option (List Int) :=
 qh aO b6 >>= fun ad =>
 if ad=true then
  Ef aO aO b6 >>= fun bl =>
  some bl
 else
  some ([]:List Int)
theorem Sn {aO:cw}{b6:List Int}:bV (x4 aO b6) (fun r=>Con bp 6 [.agg (fU aO),.isl 1 (b6.map J)] [] (.isl 1 (r.map J)) []):=by
 unfold x4
 exact .aD fun ad R =>
  (let t1:List cL:=[(ag 3),.aJ (bO 2 (bM 2 (.b ad) true) 1)];
  have a9:=((.aF (x3 ad R) (cm.b ad)):cT _);
  .ite (fun ae =>
  .aD fun bl aK =>
  .ret (b1 (t1.append [.ao false,.ix 0,.ix 1,.aJ (bO 1 (.call {ac:=[.bF (.ptr [.id,.id]),.comp [.ptr [.id,.id],.ptr [.id]]],r:= .isl 1 (bl.map J),dB:=false,dD:=[0,1]}) 1)]) (a9.a3 (.ea (dU ae) (k9 (qX aO):gU [(fU aO)]) (k9 (qX aO):gU [(fU aO)]) (k9 ((oF (sz:=1) aA) b6):gU [[.isl 1 (b6.map J)]]) (QH bl aK)))))
  (fun ae =>
  .ret (b1 (t1.append [.ao true,(ag 1)]) (a9.a3 (.ax (dN ae))) (.bF (.cu (.gm 1))))))
def Gx (aZ:Int)(cZ:List Int)(c1:Int):Int→S:=fun fg=>eM [(1,.n .i64 aZ),(7,.isl 1 (cZ.map J)),(8,.n .i64 c1),(9,.n .i64 fg)] []
def Lt (aZ:Int)(cZ:List Int)(c1:Int):((Unit)⊕(Unit))→eP
 | .inl a=>⟨some 0,[],[]⟩
 | .inr a=>⟨none,[(4,.b true)],[]⟩
def vS (aZ:Int)(cZ:List Int)(c1 fg:Int):Option ((Int)⊕((Unit)⊕(Unit))) :=
 if (decide (fg<c1))=true then
  if 0≤fg∧fg<cZ.length then
  cZ[fg.toNat]? >>= fun a2 =>
  if (a2 == aZ)=true then
   some (.inr (.inr ()))
  else
   some (.inl (U (fg+(1:Int))))
  else none
 else
  some (.inr (.inl ()))
def Hc (aZ:Int)(cZ:List Int)(c1 fg:Int):Option ((Unit)⊕(Unit)):=iter (fun w:Int=>vS aZ cZ c1 w) fg
theorem So {aZ:Int}{cZ:List Int}{c1 fg:Int}:bV (vS aZ cZ c1 fg) (fo bp 17 0 9 [1,0,1,0,0] (Gx aZ cZ c1 fg) (Gx aZ cZ c1) (Lt aZ cZ c1)):=by
 unfold vS
 exact .ite (fun o =>
  .bq fun R =>
  .aD fun a2 ay =>
  (let t1:List cL:=[(ag 1),.ao true,.aJ (bO 1 (.c4 (J a2)) 1),(ag 3)];
  have a9:=((.dy o R.1 (eY J R.2) (cQ J ay)):cT _);
  .ite (fun aK =>
  .ret (bW (t1.append [.ao true,(ag 1),.bj [] [] (bT [4])]) (a9.a3 (.ax aK))))
  (fun aK =>
  .ret (bW (t1.append [.ao false,(ag 2),.bj [] [] (bT [1,7,8,9])]) (a9.a3 (.ax aK))))))
  (fun o =>
  .ret (bW [(ag 1),.ao false,.bj [] [] []] (.ax o)))
theorem Ly {aZ:Int}{cZ:List Int}{c1 fg:Int}{r} (h:Hc aZ cZ c1 fg=some r):fp bp 17 0 9 [1,0,1,0,0] (Gx aZ cZ c1) (Lt aZ cZ c1) fg r:=fr (fun _=>So) h
def wB (b6:List Int)(aZ:Int):Option Bool :=
 Hc aZ b6 (len_ J b6) 0 >>= fun ad =>
 match ad with
 | .inl bs=>(some false)
 | .inr bs=>(some true)
theorem L4 {b6:List Int}{aZ:Int}:bV (wB b6 aZ) (fun r=>Con bp 9 [.isl 1 (b6.map J),.n .i64 aZ] [] (.b r) []):=by
 unfold wB
 exact .aD fun ad R =>
  (let t1:List cL:=[(ag 1),(ag 3),.bj [] [] (bT [1,7,8,9])];
  (by
  rcases ad with bs|bs
  ·exact (.ret (b1 (t1.append [.sub (.exit 0) [] [],(ag 1)]) (.ax (Ly R))))
  ·exact (.ret (b1 (t1.append [.sub (.ret) [(4,.b true)] []]) (.ax (Ly R))))))
def ES (bJ kM:Int)(du:List eG)(d8 aT aI:Int)(ab aH:List Int):(Int×(List Int))→S:=fun (bU,ai)=>eM [(1,.ref 0 0 0 0),(2,.n .i64 bJ),(3,.n .i64 kM),(11,.isl 2 (du.map fq)),(12,.n .i64 d8),(13,.n .i64 bU)] [[al.mk 5 [(e2 aT aI 1 0 0 ab.length 2 0 0 aH.length 3 0 0 ai.length)] .live],(aq 1 J ab),(aq 1 J aH),(aq 1 J ai)]
def E0 (bJ kM:Int)(du:List eG)(d8 aT aI:Int)(ab aH:List Int):(List Int)→eP
 | a=>⟨some 0,[],[[al.mk 5 [(e2 aT aI 1 0 0 ab.length 2 0 0 aH.length 3 0 0 a.length)] .live],(aq 1 J ab),(aq 1 J aH),(aq 1 J a)]⟩
def vk (bJ kM:Int)(du:List eG)(d8 aT aI:Int)(ab aH:List Int)(bU:Int)(ai:List Int):Option ((Int×(List Int))⊕((List Int))) :=
 if (decide (bU<d8))=true then
  if 0≤bU∧bU<du.length then
  du[bU.toNat]? >>= fun a2 =>
  if 0≤bU∧bU<(ai.length:Nat) then
  if (0+bU.toNat)<ai.length then
  if (a2.tW == bJ)=true then
   if (0+bU.toNat)<(ai.set (0+bU.toNat) 0).length then
   some (.inl (U (bU+(1:Int)),(ai.set (0+bU.toNat) 0).set (0+bU.toNat) (U (kM*a2.r2))))
   else none
  else
   some (.inl (U (bU+(1:Int)),ai.set (0+bU.toNat) 0))
  else none
  else none
  else none
 else
  some (.inr ai)
def Fc (bJ kM:Int)(du:List eG)(d8 aT aI:Int)(ab aH:List Int)(bU:Int)(ai:List Int):Option ((List Int)):=iter (fun w:Int×(List Int)=>vk bJ kM du d8 aT aI ab aH w.1 w.2) (bU,ai)
theorem Rh {bJ kM:Int}{du:List eG}{d8 aT aI:Int}{ab aH:List Int}{bU:Int}{ai:List Int}:bV (vk bJ kM du d8 aT aI ab aH bU ai) (fo bp 39 4 59 [1,0,0] (ES bJ kM du d8 aT aI ab aH (bU,ai)) (ES bJ kM du d8 aT aI ab aH) (E0 bJ kM du d8 aT aI ab aH)):=by
 unfold vk
 exact .ite (fun o =>
  .bq fun R =>
  .aD fun a2 ay =>
  .bq fun aK =>
  .bq fun bI =>
  (let t1:List cL:=[(ag 1),.ao true,.aJ (bO 2 (.c4 (fq a2)) 3),.aJ (ap 6 (au .dx [])),(ag 4)];
  have a9:=((.gH o R.1 (eY fq R.2) (cQ fq ay) aK.1 aK.2 (h9 J bI) (hp 1)):cT _);
  .ite (fun bQ =>
  .bq fun bE =>
  .ret (let aW:=U (kM*a2.r2);bW (t1.append [.ao true,.aJ (ap 10 (au .dx [])),(ag 2),.bj [0,1,2,3] [.box [.id,.id,.id,.id,.len (((ai.set (0+bU.toNat) 0).set (0+bU.toNat) aW).length)],.pure,.pure,.dL (aq 1 J ((ai.set (0+bU.toNat) 0).set (0+bU.toNat) aW))] (bT [1,2,3,11,12,13])]) (a9.a3 (.bi bQ aK.1 aK.2 (CW (ga (dW J ai) (0+bU.toNat) 0) bE) (hp 1) (hC (hC (fl ai) (0+bU.toNat) 0) (0+bU.toNat) aW) (aB 1 .live aA ab) (aB 1 .live aA aH) (.aF (eA 1 .live (ga (ga (dW J ai) (0+bU.toNat) 0) (0+bU.toNat) aW)) (aB 1 .live aA ((ai.set (0+bU.toNat) 0).set (0+bU.toNat) aW)))))))
  (fun bQ =>
  .ret (bW (t1.append [.ao false,(ag 2),.bj [0,1,2,3] [.box [.id,.id,.id,.id,.len ((ai.set (0+bU.toNat) 0).length)],.pure,.pure,.dL (aq 1 J (ai.set (0+bU.toNat) 0))] (bT [1,2,3,11,12,13])]) (a9.a3 (.e7 bQ (hC (fl ai) (0+bU.toNat) 0) (aB 1 .live aA ab) (aB 1 .live aA aH) (eA 1 .live (ga (dW J ai) (0+bU.toNat) 0)) (aB 1 .live aA (ai.set (0+bU.toNat) 0))))))))
  (fun o =>
  .ret (bW [(ag 1),.ao false,.bj [0,1,2,3] [.box [.id,.id,.id,.id,.id],.pure,.pure,.pure] []] (.dy o (aB 1 .live aA ab) (aB 1 .live aA aH) (aB 1 .live aA ai))))
theorem Rz {bJ kM:Int}{du:List eG}{d8 aT aI:Int}{ab aH:List Int}{bU:Int}{ai:List Int}{r} (h:Fc bJ kM du d8 aT aI ab aH bU ai=some r):fp bp 39 4 59 [1,0,0] (ES bJ kM du d8 aT aI ab aH) (E0 bJ kM du d8 aT aI ab aH) (bU,ai) r:=fr (fun _=>Rh) h
def tv (aO:cw)(bJ kM bP cl:Int)(b9 ed cV:List Int):Option (List Int) :=
 vt aO >>= fun ad =>
 Fc bJ kM ad (len_ fq ad) bP cl b9 ed 0 cV >>= fun bg =>
 some bg
theorem Fe {aO:cw}{bJ kM bP cl:Int}{b9 ed cV:List Int}:bV (tv aO bJ kM bP cl b9 ed cV) (fun a=>Con bp 59 [.dV 2 [(fU aO)] 0 0,.ref 0 0 0 0,.n .i64 bJ,.n .i64 kM] [[al.mk 5 [(e2 bP cl 1 0 0 b9.length 2 0 0 ed.length 3 0 0 cV.length)] .live],(aq 1 J b9),(aq 1 J ed),(aq 1 J cV)] (.dm []) [[al.mk 5 [(e2 bP cl 1 0 0 b9.length 2 0 0 ed.length 3 0 0 a.length)] .live],(aq 1 J b9),(aq 1 J ed),(aq 1 J a)]):=by
 unfold tv
 exact .aD fun ad R =>
  .aD fun bg ay =>
  .ret (let aW:=e2 bP cl 1 0 0 b9.length 2 0 0 ed.length 3 0 0 bg.length;hH [.aJ (bO 1 (bM 1 (.isl 2 (ad.map fq)) false) 2),.bj [0,1,2,3] [.box [.id,.id,.id,.id,.id],.pure,.pure,.pure] (bT [1,2,3,11,12,13]),(E0 bJ kM ad (len_ fq ad) bP cl b9 ed bg).gh] [0,1,2,3] [.bz [al.mk 5 [aW] .live],.pure,.pure,.pure] (.bi (K1 ad R) (aB 1 .live aA b9) (aB 1 .live aA ed) (aB 1 .live aA cV) (Rz ay) (gR (db [0,1,2,3]) 5 [aW] [aW] rfl) (aB 1 .live aA b9) (aB 1 .live aA ed) (.ax (aB 1 .live aA bg))))
def rI (aZ:Int):Option (Option c3) :=
 nj aZ >>= fun ad =>
 some (some (⟨ad,([1]:List Int)⟩:c3))
theorem BV {aZ:Int}:bV (rI aZ) (fun r=>Con bp 80 [.n .i64 aZ] [] (fT 3 cH r) []):=by
 unfold rI
 exact .aD fun ad R =>
  .ret (b1 [(ag 1),.aJ (bO 1 (bM 1 (.agg (aN ad)) false) 4)] (.ea (qY ad R) (kd (show [[.n .i64 (1:Int)]]=(([1]:List Int)).map J from rfl) (show 1=([1]:List Int).length from rfl)) (jY J 1) (ey aA ([1]:List Int)) (k9 (ni (⟨ad,([1]:List Int)⟩:c3)):gU [[.b ad.cU,.isl 1 (ad.cy.map J),.isl 1 (([1]:List Int).map J)]])) (.bF (.r4 [.id,.id,.fI (([1]:List Int).map J)])))
def FJ:((List Int)×(List Int))→S:=fun (a7,a6)=>eM [(0,.isl 1 (a7.map J)),(1,.isl 1 (a6.map J))] []
def F1:(List Int)→eP
 | a=>⟨some 0,[(0,.isl 1 (a.map J))],[]⟩
def vG (a7 a6:List Int):Option (((List Int)×(List Int))⊕((List Int))) :=
 if (decide ((0:Int)<(len_ J a6)))=true then
  rK a7 a6 >>= fun b3 =>
  some (.inl (a6,b3.2))
 else
  some (.inr a7)
def GG (a7 a6:List Int):Option ((List Int)):=iter (fun w:(List Int)×(List Int)=>vG w.1 w.2) (a7,a6)
theorem RV {a7 a6:List Int}:bV (vG a7 a6) (fo bp 19 0 91 [1,0,0,0] (FJ (a7,a6)) (FJ) (F1)):=by
 unfold vG
 exact .ite (fun o =>
  .aD fun b3 ae =>
  .ret (bW [(ag 3),.ao true,.aJ (bO 2 (bM 2 (.dm [.isl 1 (b3.1.map J),.isl 1 (b3.2.map J)]) false) 5),(ag 4),.bj [] [] (bT [0,1])] (.aF o (B3 b3 ae))))
  (fun o =>
  .ret (bW [(ag 3),.ao false,.bj [] [] (bT [0])] (.ax o)))
theorem SC {a7 a6:List Int}{r} (h:GG a7 a6=some r):fp bp 19 0 91 [1,0,0,0] (FJ) (F1) (a7,a6) r:=fr (fun _=>RV) h
def wc (a7 a6:List Int):Option (List Int) :=
 GG a7 a6 >>= fun ad =>
 some ad
theorem Lu {a7 a6:List Int}:bV (wc a7 a6) (fun r=>Con bp 91 [.isl 1 (a7.map J),.isl 1 (a6.map J)] [] (.isl 1 (r.map J)) []):=by
 unfold wc
 exact .aD fun ad R =>
  .ret (b1 [(ag 1),.bj [] [] (bT [0,1]),(F1 ad).gh,(ag 2)] (.ax (SC R)))
def qj (qv:a5)(sU:List Int):Option (Option c3) :=
 if ((len_ J qv.cy) == (0:Int))=true then
  some (some (⟨(⟨false,([]:List Int)⟩:a5),([1]:List Int)⟩:c3))
 else
  wc qv.cy sU >>= fun b3 =>
  o2 b3 ([1]:List Int) >>= fun bl =>
  if (bl == (0:Int))=true then
   some (some (⟨qv,sU⟩:c3))
  else
   rK qv.cy b3 >>= fun bS =>
   rK sU b3 >>= fun bf =>
   ku qv.cU bS.1 >>= fun cr =>
   some (some (⟨cr,bf.1⟩:c3))
theorem GO {qv:a5}{sU:List Int}:bV (qj qv sU) (fun r=>Con bp 81 [.agg (aN qv),.isl 1 (sU.map J)] [] (fT 3 cH r) []):=by
 unfold qj
 exact .ite (fun o =>
  .ret (b1 [(ag 2),(ag 4),.ao true,(ag 4)] (.ea o (kd (show [[.n .i64 (1:Int)]]=(([1]:List Int)).map J from rfl) (show 1=([1]:List Int).length from rfl)) (jY J 1) (ey aA ([1]:List Int)) (k9 (ni (⟨(⟨false,([]:List Int)⟩:a5),([1]:List Int)⟩:c3)):gU [[.b false,.isl 1 (([]:List Int).map J),.isl 1 (([1]:List Int).map J)]])) (.bF (.r4 [.id,.gm 1,.fI (([1]:List Int).map J)]))))
  (fun o =>
  .aD fun b3 ae =>
  .aD fun bl aK =>
  (let t1:List cL:=[(ag 2),(ag 4),.ao false,.aJ (bO 3 (bM 2 (.isl 1 (b3.map J)) false) 1),.aJ (bO 2 (.call {ac:=[ii,.bF (.cu (.fI (([1]:List Int).map J)))],r:= .n .i64 bl,dB:=true,dD:=[12]}) 1)];
  have a9:=((.eT o (Lu b3 ae) (kd (show [[.n .i64 (1:Int)]]=(([1]:List Int)).map J from rfl) (show 1=([1]:List Int).length from rfl)) (jY J 1) (ey aA ([1]:List Int)) (vT bl aK) (cm.n .i64 bl)):cT _);
  .ite (fun bI =>
  .ret (b1 (t1.append [.ao true,(ag 5)]) (a9.a3 (.aF bI (k9 (ni (⟨qv,sU⟩:c3)):gU [[.b qv.cU,.isl 1 (qv.cy.map J),.isl 1 (sU.map J)]]))) (.bF (.r4 [.id,.id,.id]))))
  (fun bI =>
  .aD fun bS bE =>
  .aD fun bf dj =>
  .aD fun cr ec =>
  .ret (b1 (t1.append [.ao false,.aJ (bO 3 (bM 2 (.dm [.isl 1 (bS.1.map J),.isl 1 (bS.2.map J)]) false) 5),.aJ (bO 2 (bM 2 (.dm [.isl 1 (bf.1.map J),.isl 1 (bf.2.map J)]) false) 5),.aJ (bO 3 (bM 2 (.agg (aN cr)) false) 4)]) (a9.a3 (.ea bI (B3 bS bE) (B3 bf dj) (q1 cr ec) (k9 (ni (⟨cr,bf.1⟩:c3)):gU [[.b cr.cU,.isl 1 (cr.cy.map J),.isl 1 (bf.1.map J)]]))) (.bF (.r4 [.id,.id,.id]))))))
def x5 (cD e3:Option c3):Option (Option c3) :=
 cD >>= fun eQ =>
 e3 >>= fun k4 =>
 nO eQ.pf k4.pf >>= fun bt =>
 pD eQ.oM k4.oM >>= fun bS =>
 qj bt bS >>= fun bf =>
 some bf
theorem Sp {cD e3:Option c3}:bV (x5 cD e3) (fun r=>Con bp 83 [fT 3 cH cD,fT 3 cH e3] [] (fT 3 cH r) []):=by
 unfold x5
 exact .aD fun eQ R =>
  .aD fun k4 ay =>
  .aD fun bt bI =>
  .aD fun bS bE =>
  .aD fun bf dj =>
  .ret (b1 [(ag 1),.aJ (ap 1 (au (.fy 5 (.eZ 3 (some (cH eQ))) .dx) (ap 3 (au (.fy 9 (.eZ 3 (some (cH k4))) .dx) (ap 2 (au (bM 2 (.agg (aN bt)) false) (ap 1 (au (.fy 14 (.eZ 3 (some (cH eQ))) .dx) (ap 3 (au (.fy 18 (.eZ 3 (some (cH k4))) .dx) (ap 2 (au (bM 2 (.isl 1 (bS.map J)) false) (au (bM 2 (fT 3 cH bf) false) (ap 1 []))))))))))))))] (.eT (kk (sz:=3) (f:=cH) R) (kk (sz:=3) (f:=cH) ay) (tu bt bI) (kk (sz:=3) (f:=cH) R) (kk (sz:=3) (f:=cH) ay) (BU bS bE) (GO bf dj)))
def pB (cD:Option c3)(iK:List Int):Option a5 :=
 cD >>= fun eQ =>
 pD eQ.pf.cy iK >>= fun bg =>
 ku eQ.pf.cU bg >>= fun bt =>
 some bt
theorem Bg {cD:Option c3}{iK:List Int}:bV (pB cD iK) (fun r=>Con bp 99 [fT 3 cH cD,.isl 1 (iK.map J)] [] (.agg (aN r)) []):=by
 unfold pB
 exact .aD fun eQ R =>
  .aD fun bg ay =>
  .aD fun bt bI =>
  .ret (b1 [(ag 1),.aJ (ap 1 (au (.fy 5 (.eZ 3 (some (cH eQ))) .dx) (ap 4 (au (.fy 10 (.eZ 3 (some (cH eQ))) .dx) (ap 4 (au (bM 2 (.isl 1 (bg.map J)) false) (au (bM 2 (.agg (aN bt)) false) (ap 1 []))))))))] (.dy (kk (sz:=3) (f:=cH) R) (kk (sz:=3) (f:=cH) R) (BU bg ay) (q1 bt bI)))
def x7 (cD e3:Option c3):Option (Option c3) :=
 e3 >>= fun eQ =>
 pB cD eQ.oM >>= fun bg =>
 cD >>= fun k3 =>
 pB e3 k3.oM >>= fun bS =>
 sx bg bS >>= fun bf =>
 pD k3.oM eQ.oM >>= fun cr =>
 qj bf cr >>= fun de =>
 some de
theorem SD {cD e3:Option c3}:bV (x7 cD e3) (fun r=>Con bp 82 [fT 3 cH cD,fT 3 cH e3] [] (fT 3 cH r) []):=by
 unfold x7
 exact .aD fun eQ R =>
  .aD fun bg ay =>
  .aD fun k3 bI =>
  .aD fun bS bE =>
  .aD fun bf dj =>
  .aD fun cr ec =>
  .aD fun de eU =>
  .ret (b1 [(ag 1),.aJ (ap 2 (au (.fy 6 (.eZ 3 (some (cH eQ))) .dx) (ap 2 (au (bM 2 (.agg (aN bg)) false) (ap 2 (au (.fy 12 (.eZ 3 (some (cH k3))) .dx) (ap 2 (au (bM 2 (.agg (aN bS)) false) (au (bM 2 (.agg (aN bf)) false) (ap 1 (au (.fy 18 (.eZ 3 (some (cH k3))) .dx) (ap 3 (au (.fy 22 (.eZ 3 (some (cH eQ))) .dx) (ap 2 (au (bM 2 (.isl 1 (cr.map J)) false) (au (bM 2 (fT 3 cH de) false) (ap 1 [])))))))))))))))))] (.bi (kk (sz:=3) (f:=cH) R) (Bg bg ay) (kk (sz:=3) (f:=cH) bI) (Bg bS bE) (Ld bf dj) (kk (sz:=3) (f:=cH) bI) (kk (sz:=3) (f:=cH) R) (BU cr ec) (.ax (GO de eU))))
end Go.Proofs.YtfdnefmiaihfcaaGreat
namespace Go.Proofs.YtfdnefmiaihfcaaGreat
set_option linter.unusedVariables false
set_option linter.unusedSimpArgs false
open Go Go.VL
def FK (mR aT:Int)(ab aH ai:List Int)(d7:Int)(cb:List bZ):(Int×Bool×(List Int)×(List Int)×(List (List a5))×(List Int)×(List Bool))→S:=fun (kg,cC,cB,bo,ej,cc,er)=>eM [(0,.ref 0 0 0 0),(5,.ref 4 0 0 0),(7,.bu 5 0 0 bo.length),(41,.n .i64 mR),(42,.n .i64 kg)] [[al.mk 5 [(e2 aT mR 1 0 0 ab.length 2 0 0 aH.length 3 0 0 ai.length)] .live],(aq 1 J ab),(aq 1 J aH),(aq 1 J ai),[al.mk 6 [(ef 6 0 0 cb.length cC cB 8 0 0 cc.length d7 9 0 0 er.length)] .live],(aq 1 J bo),(aq 1 (bN 7 0 2) cb),(cR 2 aN ej),(aq 1 J cc),(aq 1 dk er)]
def F2 (mR aT:Int)(ab aH ai:List Int)(d7:Int)(cb:List bZ):(Bool×(List Int)×(List (List a5))×(List Int)×(List Bool))→eP
 | a=>⟨some 0,[(0,.ref 0 0 0 0),(5,.ref 4 0 0 0)],[[al.mk 5 [(e2 aT mR 1 0 0 ab.length 2 0 0 aH.length 3 0 0 ai.length)] .live],(aq 1 J ab),(aq 1 J aH),(aq 1 J ai),[al.mk 6 [(ef 5 0 0 cb.length a.1 a.2.1 7 0 0 a.2.2.2.1.length d7 8 0 0 a.2.2.2.2.length)] .live],(aq 1 (bN 6 0 2) cb),(cR 2 aN a.2.2.1),(aq 1 J a.2.2.2.1),(aq 1 dk a.2.2.2.2)]⟩
def tw (mR aT:Int)(ab aH ai:List Int)(d7:Int)(cb:List bZ)(kg:Int)(cC:Bool)(cB bo:List Int)(ej:List (List a5))(cc:List Int)(er:List Bool):Option ((Int×Bool×(List Int)×(List Int)×(List (List a5))×(List Int)×(List Bool))⊕(Bool×(List Int)×(List (List a5))×(List Int)×(List Bool))) :=
 if (decide (kg<mR))=true then
  if 0≤kg∧kg<(bo.length:Nat) then
  if (0+kg.toNat)<(List.replicate bo.length 0:List Int).length then
  rv cC cB d7 cb ej cc er ((List.replicate bo.length 0:List Int).set (0+kg.toNat) (-1)) >>= fun bl =>
  some (.inl (U (kg+(1:Int)),bl.2.1,bl.2.2.1,((List.replicate bo.length 0:List Int).set (0+kg.toNat) (-1)),bl.2.2.2.1,bl.2.2.2.2.1,bl.2.2.2.2.2))
  else none
  else none
 else
  some (.inr (cC,cB,ej,cc,er))
def BI (mR aT:Int)(ab aH ai:List Int)(d7:Int)(cb:List bZ)(kg:Int)(cC:Bool)(cB bo:List Int)(ej:List (List a5))(cc:List Int)(er:List Bool):Option (Bool×(List Int)×(List (List a5))×(List Int)×(List Bool)):=iter (fun w:Int×Bool×(List Int)×(List Int)×(List (List a5))×(List Int)×(List Bool)=>tw mR aT ab aH ai d7 cb w.1 w.2.1 w.2.2.1 w.2.2.2.1 w.2.2.2.2.1 w.2.2.2.2.2.1 w.2.2.2.2.2.2) (kg,cC,cB,bo,ej,cc,er)
theorem RW {mR aT:Int}{ab aH ai:List Int}{d7:Int}{cb:List bZ}{kg:Int}{cC:Bool}{cB bo:List Int}{ej:List (List a5)}{cc:List Int}{er:List Bool}:bV (tw mR aT ab aH ai d7 cb kg cC cB bo ej cc er) (fo bp 124 4 60 [1,1,1,1,1,1,0,1,0,0] (FK mR aT ab aH ai d7 cb (kg,cC,cB,bo,ej,cc,er)) (FK mR aT ab aH ai d7 cb) (F2 mR aT ab aH ai d7 cb)):=by
 unfold tw
 exact .ite (fun o =>
  .bq fun R =>
  .bq fun ae =>
  .aD fun bl aK =>
  .ret (let aW:=ef 1 0 0 cb.length bl.2.1 bl.2.2.1 3 0 0 bl.2.2.2.2.1.length d7 4 0 0 bl.2.2.2.2.2.length;let bh:=(List.replicate bo.length 0:List Int);let cf:=ef 6 0 0 cb.length bl.2.1 bl.2.2.1 8 0 0 bl.2.2.2.2.1.length d7 9 0 0 bl.2.2.2.2.2.length;let cI:=ef 1 0 0 cb.length cC cB 3 0 0 cc.length d7 4 0 0 er.length;let ee:=ef 6 0 0 cb.length cC cB 8 0 0 cc.length d7 9 0 0 er.length;let fS:=cR 2 aN bl.2.2.2.1;let gx:=nL [4,6,7,8,9,5];let e8:=kc [4,6,7,8,9,5];let hK:=(hC (lP bo.length (0:Int)) (0+kg.toNat) (-1));let h4:=db [0,1,2,3,4,5,6,7,8,9];let jS:=aq 1 J (bh.set (0+kg.toNat) (-1));let jT:=eo 1 aA (bh.set (0+kg.toNat) (-1));bW [(ag 1),.ao true,(ag 2),(ag 2),.aJ (ap 3 (au .dx [])),.aJ (ap 2 (au (.call {aL:=(lo [4,6,7,8,9,5]),cq:=[.bz [al.mk 6 [cI] .live],.bz (aq 1 (bN 2 0 2) cb),.bz (cR 2 aN ej),.pure,.pure,.dL jS],ac:=[ii,.bF (.cu (.len ((bh.set (0+kg.toNat) (-1)).length)))],r:= .b bl.1,dh:=[[al.mk 6 [aW] .live],(aq 1 (bN 2 0 2) cb),fS,(aq 1 J bl.2.2.2.2.1),(aq 1 dk bl.2.2.2.2.2),jS],ez:=ii,e5:=[.bz [al.mk 6 [cf] .live],.bz (aq 1 (bN 7 0 2) cb),.bz fS,.pure,.pure,.pure],dD:=[4,5,6,7,8,9],dB:=false}) [])),(ag 2),.bj [0,1,2,3,4,5,6,7,8,9] [.box [.id,.id,.id,.id,.id],.pure,.pure,.pure,.box [.id,.id,.id,.id,.id,.id],.pure,.bz (aq 1 (bN 7 0 2) cb),.bz fS,.pure,.pure] [(0,ii),(5,ii),(7,gY ((bh.set (0+kg.toNat) (-1)).length)),(41,ii),(42,ii)]] (.bi o (Xd (dW J bo) (fl bo)) R.1 R.2 (CW (ls J bo.length 0) ae) (hp 1) hK (gR gx 6 [cI] [ee] rfl) (.bi (gN 6 [ee]) (ex gx 2 7 0 2 rfl cb) (gN 1 (cb.map (bN 7 0 2))) (eB gx 2 dK ej) (qf 2 aN ej) (eo 1 aA cc) (eo 1 dF er) (eA 1 .live (ga (ls J bo.length 0) (0+kg.toNat) (-1))) (.bi jT (gR e8 6 [cf] [aW] rfl) (gN 6 [aW]) (ex e8 7 2 0 2 rfl cb) (gN 1 (cb.map (bN 2 0 2))) (eB e8 2 dK bl.2.2.2.1) (qf 2 aN bl.2.2.2.1) (eo 1 aA bl.2.2.2.2.1) (.bi (eo 1 dF bl.2.2.2.2.2) jT (E3 bl aK) (aB 1 .live aA ab) (aB 1 .live aA aH) (aB 1 .live aA ai) (aB 1 .live aA (bh.set (0+kg.toNat) (-1))) (ex h4 7 7 0 2 rfl cb) (.dy (eB h4 2 dK bl.2.2.2.1) (aB 1 .live aA bl.2.2.2.2.1) (aB 1 .live dF bl.2.2.2.2.2) hK)))))))
  (fun o =>
  .ret (let l9:=db [0,1,2,3,4,6,7,8,9];bW [(ag 1),.ao false,.bj [0,1,2,3,4,6,7,8,9] [.box [.id,.id,.id,.id,.id],.pure,.pure,.pure,.box [.id,.id,.id,.id,.id,.id],.bz (aq 1 (bN 6 0 2) cb),.bz (cR 2 aN ej),.pure,.pure] (bT [0,5])] (.gH o (aB 1 .live aA ab) (aB 1 .live aA aH) (aB 1 .live aA ai) (ex l9 6 7 0 2 rfl cb) (eB l9 2 dK ej) (aB 1 .live aA cc) (aB 1 .live dF er))))
theorem SE {mR aT:Int}{ab aH ai:List Int}{d7:Int}{cb:List bZ}{kg:Int}{cC:Bool}{cB bo:List Int}{ej:List (List a5)}{cc:List Int}{er:List Bool}{r} (h:BI mR aT ab aH ai d7 cb kg cC cB bo ej cc er=some r):fp bp 124 4 60 [1,1,1,1,1,1,0,1,0,0] (FK mR aT ab aH ai d7 cb) (F2 mR aT ab aH ai d7 cb) (kg,cC,cB,bo,ej,cc,er) r:=fr (fun _=>RW) h
def FL (oe aT aI:Int)(ab aH ai:List Int)(cC:Bool)(cB:List Int)(d7:Int)(cb:List bZ)(ej:List (List a5))(cc:List Int)(er:List Bool):(Int×(List (Option c3)))→S:=fun (lh,bo)=>eM [(0,.ref 0 0 0 0),(5,.ref 4 0 0 0),(9,.bu 5 0 0 bo.length),(59,.n .i64 oe),(60,.n .i64 lh)] [[al.mk 5 [(e2 aT aI 1 0 0 ab.length 2 0 0 aH.length 3 0 0 ai.length)] .live],(aq 1 J ab),(aq 1 J aH),(aq 1 J ai),[al.mk 6 [(ef 6 0 0 cb.length cC cB 8 0 0 cc.length d7 9 0 0 er.length)] .live],(aq 1 (jG 3 cH) bo),(aq 1 (bN 7 0 2) cb),(cR 2 aN ej),(aq 1 J cc),(aq 1 dk er)]
def F3 (oe aT aI:Int)(ab aH ai:List Int)(cC:Bool)(cB:List Int)(d7:Int)(cb:List bZ)(ej:List (List a5))(cc:List Int)(er:List Bool):(List (Option c3))→eP
 | a=>⟨some 2,[(0,.ref 0 0 0 0),(5,.ref 4 0 0 0),(9,.bu 5 0 0 a.length)],[[al.mk 5 [(e2 aT aI 1 0 0 ab.length 2 0 0 aH.length 3 0 0 ai.length)] .live],(aq 1 J ab),(aq 1 J aH),(aq 1 J ai),[al.mk 6 [(ef 6 0 0 cb.length cC cB 8 0 0 cc.length d7 9 0 0 er.length)] .live],(aq 1 (jG 3 cH) a),(aq 1 (bN 7 0 2) cb),(cR 2 aN ej),(aq 1 J cc),(aq 1 dk er)]⟩
def vH (oe aT aI:Int)(ab aH ai:List Int)(cC:Bool)(cB:List Int)(d7:Int)(cb:List bZ)(ej:List (List a5))(cc:List Int)(er:List Bool)(lh:Int)(bo:List (Option c3)):Option ((Int×(List (Option c3)))⊕((List (Option c3)))) :=
 if (decide (lh<oe))=true then
  rI 0 >>= fun b3 =>
  if 0≤lh∧lh<(bo.length:Nat) then
  if (0+lh.toNat)<bo.length then
  some (.inl (U (lh+(1:Int)),bo.set (0+lh.toNat) b3))
  else none
  else none
 else
  some (.inr bo)
def BJ (oe aT aI:Int)(ab aH ai:List Int)(cC:Bool)(cB:List Int)(d7:Int)(cb:List bZ)(ej:List (List a5))(cc:List Int)(er:List Bool)(lh:Int)(bo:List (Option c3)):Option ((List (Option c3))):=iter (fun w:Int×(List (Option c3))=>vH oe aT aI ab aH ai cC cB d7 cb ej cc er w.1 w.2) (lh,bo)
theorem RX {oe aT aI:Int}{ab aH ai:List Int}{cC:Bool}{cB:List Int}{d7:Int}{cb:List bZ}{ej:List (List a5)}{cc:List Int}{er:List Bool}{lh:Int}{bo:List (Option c3)}:bV (vH oe aT aI ab aH ai cC cB d7 cb ej cc er lh bo) (fo bp 124 4 60 [1,1,1,1,1,1,1,1,0,1,0,0] (FL oe aT aI ab aH ai cC cB d7 cb ej cc er (lh,bo)) (FL oe aT aI ab aH ai cC cB d7 cb ej cc er) (F3 oe aT aI ab aH ai cC cB d7 cb ej cc er)):=by
 unfold vH
 exact .ite (fun o =>
  .aD fun b3 ae =>
  .bq fun ay =>
  .bq fun aK =>
  .ret (let aW:=db [0,1,2,3,4,5,6,7,8,9];bW [(ag 1),.ao true,(ag 2),.aJ (ap 2 (au (bM 1 (fT 3 cH b3) false) (ap 1 (au .dx [])))),(ag 2),.bj [0,1,2,3,4,5,6,7,8,9] [.box [.id,.id,.id,.id,.id],.pure,.pure,.pure,.box [.id,.id,.id,.id,.id,.id],.dL (aq 1 (jG 3 cH) (bo.set (0+lh.toNat) b3)),.bz (aq 1 (bN 7 0 2) cb),.bz (cR 2 aN ej),.pure,.pure] [(0,ii),(5,ii),(9,gY ((bo.set (0+lh.toNat) b3).length)),(59,ii),(60,ii)]] (.bi o (BV b3 ae) ay.1 ay.2 (h9 (jG 3 cH) aK) (hp 1) (aB 1 .live aA ab) (aB 1 .live aA aH) (.gH (aB 1 .live aA ai) (eA 1 .live (ga (dW (jG 3 cH) bo) (0+lh.toNat) b3)) (aB 1 .live (q7 (sz:=3) ni) (bo.set (0+lh.toNat) b3)) (ex aW 7 7 0 2 rfl cb) (eB aW 2 dK ej) (aB 1 .live aA cc) (aB 1 .live dF er) (hC (fl bo) (0+lh.toNat) b3)))))
  (fun o =>
  .ret (let bh:=db [0,1,2,3,4,5,6,7,8,9];bW [(ag 1),.ao false,.bj [0,1,2,3,4,5,6,7,8,9] [.box [.id,.id,.id,.id,.id],.pure,.pure,.pure,.box [.id,.id,.id,.id,.id,.id],.pure,.bz (aq 1 (bN 7 0 2) cb),.bz (cR 2 aN ej),.pure,.pure] (bT [0,5,9])] (.bi o (aB 1 .live aA ab) (aB 1 .live aA aH) (aB 1 .live aA ai) (aB 1 .live (q7 (sz:=3) ni) bo) (ex bh 7 7 0 2 rfl cb) (eB bh 2 dK ej) (aB 1 .live aA cc) (.ax (aB 1 .live dF er)))))
theorem SF {oe aT aI:Int}{ab aH ai:List Int}{cC:Bool}{cB:List Int}{d7:Int}{cb:List bZ}{ej:List (List a5)}{cc:List Int}{er:List Bool}{lh:Int}{bo:List (Option c3)}{r} (h:BJ oe aT aI ab aH ai cC cB d7 cb ej cc er lh bo=some r):fp bp 124 4 60 [1,1,1,1,1,1,1,1,0,1,0,0] (FL oe aT aI ab aH ai cC cB d7 cb ej cc er) (F3 oe aT aI ab aH ai cC cB d7 cb ej cc er) (lh,bo) r:=fr (fun _=>RX) h
def FM (og aT aI:Int)(ab aH ai:List Int)(cC:Bool)(cB:List Int)(d7:Int)(cb:List Int)(da:List bZ)(ms:List (List a5))(er:List Bool):(Int×(List (Option c3)))→S:=fun (mu,bo)=>eM [(0,.ref 0 0 0 0),(5,.ref 4 0 0 0),(9,.bu 5 0 0 bo.length),(71,.bu 6 0 0 cb.length),(72,.n .i64 og),(73,.n .i64 mu)] [[al.mk 5 [(e2 aT aI 1 0 0 ab.length 2 0 0 aH.length 3 0 0 ai.length)] .live],(aq 1 J ab),(aq 1 J aH),(aq 1 J ai),[al.mk 6 [(ef 7 0 0 da.length cC cB 6 0 0 cb.length d7 9 0 0 er.length)] .live],(aq 1 (jG 3 cH) bo),(aq 1 J cb),(aq 1 (bN 8 0 2) da),(cR 2 aN ms),(aq 1 dk er)]
def F4 (og aT aI:Int)(ab aH ai:List Int)(cC:Bool)(cB:List Int)(d7:Int)(cb:List Int)(da:List bZ)(ms:List (List a5))(er:List Bool):(List (Option c3))→eP
 | a=>⟨some 4,[(0,.ref 0 0 0 0),(9,.bu 4 0 0 a.length)],[[al.mk 5 [(e2 aT aI 1 0 0 ab.length 2 0 0 aH.length 3 0 0 ai.length)] .live],(aq 1 J ab),(aq 1 J aH),(aq 1 J ai),(aq 1 (jG 3 cH) a)]⟩
def vI (og aT aI:Int)(ab aH ai:List Int)(cC:Bool)(cB:List Int)(d7:Int)(cb:List Int)(da:List bZ)(ms:List (List a5))(er:List Bool)(mu:Int)(bo:List (Option c3)):Option ((Int×(List (Option c3)))⊕((List (Option c3)))) :=
 if (decide (mu<og))=true then
  if 0≤mu∧mu<(cb.length:Nat) then
  cb[(0+mu.toNat)]? >>= fun a2 =>
  if 0≤mu∧mu<(da.length:Nat) then
  da[(0+mu.toNat)]? >>= fun cX =>
  cX >>= fun qg =>
  ms[qg.1]? >>= fun DI =>
  if 0≤d7∧d7<(qg.2:Nat) then
  DI[(0+d7.toNat)]? >>= fun ow =>
  qj ow cB >>= fun fk =>
  if 0≤a2∧a2<(bo.length:Nat) then
  if (0+a2.toNat)<bo.length then
  some (.inl (U (mu+(1:Int)),bo.set (0+a2.toNat) fk))
  else none
  else none
  else none
  else none
  else none
 else
  some (.inr bo)
def BK (og aT aI:Int)(ab aH ai:List Int)(cC:Bool)(cB:List Int)(d7:Int)(cb:List Int)(da:List bZ)(ms:List (List a5))(er:List Bool)(mu:Int)(bo:List (Option c3)):Option ((List (Option c3))):=iter (fun w:Int×(List (Option c3))=>vI og aT aI ab aH ai cC cB d7 cb da ms er w.1 w.2) (mu,bo)
theorem RY {og aT aI:Int}{ab aH ai:List Int}{cC:Bool}{cB:List Int}{d7:Int}{cb:List Int}{da:List bZ}{ms:List (List a5)}{er:List Bool}{mu:Int}{bo:List (Option c3)}:bV (vI og aT aI ab aH ai cC cB d7 cb da ms er mu bo) (fo bp 124 4 60 [1,1,1,1,1,1,1,1,1,0,1,0,0] (FM og aT aI ab aH ai cC cB d7 cb da ms er (mu,bo)) (FM og aT aI ab aH ai cC cB d7 cb da ms er) (F4 og aT aI ab aH ai cC cB d7 cb da ms er)):=by
 unfold vI
 exact .ite (fun o =>
  .bq fun R =>
  .aD fun a2 ay =>
  .bq fun aK =>
  .aD fun cX bQ =>
  .aD fun qg c6 =>
  .aD fun DI eu =>
  .bq fun ec =>
  .aD fun ow eU =>
  .aD fun fk gv =>
  .bq fun gz =>
  .bq fun ig =>
  .ret (let aW:=db [0,1,2,3,4,5,6,7,8,9];let bh:=kN (hX .live 2 aN ms) kr eu;bW [(ag 1),.ao true,.aJ (bO 2 (.c4 (J a2)) 2),.aJ (ap 8 (au (.c4 ((bN 8 0 2) cX)) (ap 4 (au (.fy 86 (.bu 8 (qg.1+0) 0 qg.2) (.gB (al.mk 2 (DI.map aN) .live) [])) (au (.gB (al.mk 2 (DI.map aN) .live) (aN ow)) (ap 5 (au (bM 2 (fT 3 cH fk) false) (ap 1 (au .dx []))))))))),(ag 2),.bj [0,1,2,3,4,5,6,7,8,9] [.box [.id,.id,.id,.id,.id],.pure,.pure,.pure,.box [.id,.id,.id,.id,.id,.id],.dL (aq 1 (jG 3 cH) (bo.set (0+a2.toNat) fk)),.pure,.bz (aq 1 (bN 8 0 2) da),.bz (cR 2 aN ms),.pure] [(0,ii),(5,ii),(9,gY ((bo.set (0+a2.toNat) fk).length)),(71,ii),(72,ii),(73,ii)]] (.bi o R.1 R.2 (cQ J ay) aK.1 aK.2 (cQ (bN 8 0 2) bQ) (nV (dP:=8) (c:=0) (sz:=2) c6) (.bi bh ec.1 ec.2 bh (cQ aN eU) (GO fk gv) gz.1 gz.2 (.bi (h9 (jG 3 cH) ig) (hp 1) (aB 1 .live aA ab) (aB 1 .live aA aH) (aB 1 .live aA ai) (eA 1 .live (ga (dW (jG 3 cH) bo) (0+a2.toNat) fk)) (aB 1 .live (q7 (sz:=3) ni) (bo.set (0+a2.toNat) fk)) (aB 1 .live aA cb) (.dy (ex aW 8 8 0 2 rfl da) (eB aW 2 dK ms) (aB 1 .live dF er) (hC (fl bo) (0+a2.toNat) fk)))))))
  (fun o =>
  .ret (bW [(ag 1),.ao false,.bj [0,1,2,3,5] [.box [.id,.id,.id,.id,.id],.pure,.pure,.pure,.pure] (bT [0,9])] (.ea o (aB 1 .live aA ab) (aB 1 .live aA aH) (aB 1 .live aA ai) (aB 1 .live (q7 (sz:=3) ni) bo))))
theorem SG {og aT aI:Int}{ab aH ai:List Int}{cC:Bool}{cB:List Int}{d7:Int}{cb:List Int}{da:List bZ}{ms:List (List a5)}{er:List Bool}{mu:Int}{bo:List (Option c3)}{r} (h:BK og aT aI ab aH ai cC cB d7 cb da ms er mu bo=some r):fp bp 124 4 60 [1,1,1,1,1,1,1,1,1,0,1,0,0] (FM og aT aI ab aH ai cC cB d7 cb da ms er) (F4 og aT aI ab aH ai cC cB d7 cb da ms er) (mu,bo) r:=fr (fun _=>RY) h
def FN (n4 aT aI:Int)(ab aH ai:List Int)(aX:List (Option c3)):((Option c3)×Int)→S:=fun (ir,mr)=>eM [(0,.ref 0 0 0 0),(9,.bu 4 0 0 aX.length),(13,fT 3 cH ir),(102,.bu 4 0 0 aX.length),(103,.n .i64 n4),(104,.n .i64 mr)] [[al.mk 5 [(e2 aT aI 1 0 0 ab.length 2 0 0 aH.length 3 0 0 ai.length)] .live],(aq 1 J ab),(aq 1 J aH),(aq 1 J ai),(aq 1 (jG 3 cH) aX)]
def F5 (n4 aT aI:Int)(ab aH ai:List Int)(aX:List (Option c3)):(Option c3)→eP
 | a=>⟨some 6,[(9,.bu 4 0 0 aX.length),(13,fT 3 cH a)],[[al.mk 5 [(e2 aT aI 1 0 0 ab.length 2 0 0 aH.length 3 0 0 ai.length)] .live],(aq 1 J ab),(aq 1 J aH),(aq 1 J ai),(aq 1 (jG 3 cH) aX)]⟩
def vJ (n4 aT aI:Int)(ab aH ai:List Int)(aX:List (Option c3))(ir:Option c3)(mr:Int):Option (((Option c3)×Int)⊕((Option c3))) :=
 if (decide (mr<n4))=true then
  if 0≤mr∧mr<(aX.length:Nat) then
  aX[(0+mr.toNat)]? >>= fun a2 =>
  if 0≤mr∧mr<(ai.length:Nat) then
  ai[(0+mr.toNat)]? >>= fun cX =>
  rI cX >>= fun eh =>
  x5 a2 eh >>= fun fc =>
  x7 ir fc >>= fun f6 =>
  some (.inl (f6,U (mr+(1:Int))))
  else none
  else none
 else
  some (.inr ir)
def BL (n4 aT aI:Int)(ab aH ai:List Int)(aX:List (Option c3))(ir:Option c3)(mr:Int):Option ((Option c3)):=iter (fun w:(Option c3)×Int=>vJ n4 aT aI ab aH ai aX w.1 w.2) (ir,mr)
theorem RZ {n4 aT aI:Int}{ab aH ai:List Int}{aX:List (Option c3)}{ir:Option c3}{mr:Int}:bV (vJ n4 aT aI ab aH ai aX ir mr) (fo bp 124 4 60 [1,1,1,1,1,1,1,1,1,1,1,0,1,0,0] (FN n4 aT aI ab aH ai aX (ir,mr)) (FN n4 aT aI ab aH ai aX) (F5 n4 aT aI ab aH ai aX)):=by
 unfold vJ
 exact .ite (fun o =>
  .bq fun R =>
  .aD fun a2 ay =>
  .bq fun aK =>
  .aD fun cX bQ =>
  .aD fun eh c6 =>
  .aD fun fc eu =>
  .aD fun f6 dE =>
  .ret (bW [(ag 1),.ao true,.aJ (bO 2 (.c4 ((jG 3 cH) a2)) 2),.aJ (ap 8 (au (.c4 (J cX)) (au (bM 1 (fT 3 cH eh) false) (au (bM 2 (fT 3 cH fc) false) (au (bM 2 (fT 3 cH f6) false) (ap 1 [])))))),(ag 2),.bj [0,1,2,3,4] [.box [.id,.id,.id,.id,.id],.pure,.pure,.pure,.pure] (bT [0,9,13,102,103,104])] (.bi o R.1 R.2 (cQ (jG 3 cH) ay) aK.1 aK.2 (cQ J bQ) (BV eh c6) (.e7 (Sp fc eu) (SD f6 dE) (aB 1 .live aA ab) (aB 1 .live aA aH) (aB 1 .live aA ai) (aB 1 .live (q7 (sz:=3) ni) aX)))))
  (fun o =>
  .ret (bW [(ag 1),.ao false,.bj [0,1,2,3,4] [.box [.id,.id,.id,.id,.id],.pure,.pure,.pure,.pure] (bT [9,13])] (.ea o (aB 1 .live aA ab) (aB 1 .live aA aH) (aB 1 .live aA ai) (aB 1 .live (q7 (sz:=3) ni) aX))))
theorem SH {n4 aT aI:Int}{ab aH ai:List Int}{aX:List (Option c3)}{ir:Option c3}{mr:Int}{r} (h:BL n4 aT aI ab aH ai aX ir mr=some r):fp bp 124 4 60 [1,1,1,1,1,1,1,1,1,1,1,0,1,0,0] (FN n4 aT aI ab aH ai aX) (F5 n4 aT aI ab aH ai aX) (ir,mr) r:=fr (fun _=>RZ) h
def sy (bP cl:Int)(b9 ed cV:List Int):Option (Int×(List (Option c3))×(Option c3)) :=
 wb bP cl b9 ed cV >>= fun ad =>
 match ad with
 | .inl bs=>(if 0≤bs.2.2.1∧(8:Int)*bs.2.2.1≤281474976710656∧bs.2.2.1<9223372036854775808 then
  if cV.length≤bs.2.2.1.toNat then
  rv bs.1 bs.2.1 bs.2.2.1 bs.2.2.2.1 bs.2.2.2.2.2.2 bs.2.2.2.2.1 bs.2.2.2.2.2.1 (cV++(List.replicate bs.2.2.1.toNat 0:List Int).drop cV.length) >>= fun bw =>
  if bw.1=true then
   BI cl bP b9 ed cV bs.2.2.1 bs.2.2.2.1 0 bw.2.1 bw.2.2.1 (cV++(List.replicate bs.2.2.1.toNat 0:List Int).drop cV.length) bw.2.2.2.1 bw.2.2.2.2.1 bw.2.2.2.2.2 >>= fun bf =>
   if 0≤cl∧(8:Int)*cl≤281474976710656∧cl<9223372036854775808 then
   BJ ((cl.toNat:Nat):Int) bP cl b9 ed cV bf.1 bf.2.1 bs.2.2.1 bs.2.2.2.1 bf.2.2.1 bf.2.2.2.1 bf.2.2.2.2 0 (List.replicate cl.toNat (none:(Option c3)):List (Option c3)) >>= fun f6 =>
   BK ((bf.2.2.2.1.length:Nat):Int) bP cl b9 ed cV bf.1 bf.2.1 bs.2.2.1 bf.2.2.2.1 bs.2.2.2.1 bf.2.2.1 bf.2.2.2.2 0 f6 >>= fun fx =>
   rI 0 >>= fun dr =>
   BL ((fx.length:Nat):Int) bP cl b9 ed cV fx dr 0 >>= fun d2 =>
   some (0,fx,d2)
   else none
  else
   some (3,([]:List (Option c3)),(none:(Option c3)))
  else none
  else none)
 | .inr bs=>(some (2,([]:List (Option c3)),(none:(Option c3))))
set_option maxHeartbeats 4000000 in
theorem GH {bP cl:Int}{b9 ed cV:List Int}:bV (sy bP cl b9 ed cV) (fun a=>Con bp 60 [.ref 0 0 0 0] [[al.mk 5 [(e2 bP cl 1 0 0 b9.length 2 0 0 ed.length 3 0 0 cV.length)] .live],(aq 1 J b9),(aq 1 J ed),(aq 1 J cV)] (.dm [.n .i64 a.1,.isl 1 (a.2.1.map (jG 3 cH)),fT 3 cH a.2.2]) [[al.mk 5 [(e2 bP cl 1 0 0 b9.length 2 0 0 ed.length 3 0 0 cV.length)] .live],(aq 1 J b9),(aq 1 J ed),(aq 1 J cV)]):=by
 unfold sy
 exact .aD fun ad R =>
  (let uI:=e2 bP cl 1 0 0 b9.length 2 0 0 ed.length 3 0 0 cV.length;have bY:=((.ea (gR (nL [0,1,2,3]) 5 [uI] [uI] rfl) (gN 5 [uI]) (eo 1 aA b9) (eo 1 aA ed) (eo 1 aA cV)):cT _);
  (by
  rcases ad with bs|bs
  ·exact (.bq fun ay =>
  .bq fun aK =>
  .aD fun bw bQ =>
  (let oT:=ef 1 0 0 bs.2.2.2.1.length bw.2.1 bw.2.2.1 3 0 0 bw.2.2.2.2.1.length bs.2.2.1 4 0 0 bw.2.2.2.2.2.length;let m8:=ef 4 1 0 bs.2.2.2.1.length bs.1 bs.2.1 4 2 0 bs.2.2.2.2.1.length bs.2.2.1 4 3 0 bs.2.2.2.2.2.1.length;let mb:=e2 bP cl 1 0 0 b9.length 2 0 0 ed.length 3 0 0 cV.length;let i7:=cR 2 aN bs.2.2.2.2.2.2;let p8:=(cV++(List.replicate bs.2.2.1.toNat 0:List Int).drop cV.length);let rl:=ef 5 0 0 bs.2.2.2.1.length bw.2.1 bw.2.2.1 6 0 0 bw.2.2.2.2.1.length bs.2.2.1 7 0 0 bw.2.2.2.2.2.length;let rm:=ef 1 0 0 bs.2.2.2.1.length bs.1 bs.2.1 3 0 0 bs.2.2.2.2.1.length bs.2.2.1 4 0 0 bs.2.2.2.2.2.1.length;let pr:=ef 5 0 0 bs.2.2.2.1.length bs.1 bs.2.1 6 0 0 bs.2.2.2.2.1.length bs.2.2.1 7 0 0 bs.2.2.2.2.2.1.length;let p9:=kc [0,1,2,3,8];let xv:=aq 1 (bN 8 0 2) bs.2.2.2.1;let ta:=db [0,1,2,3,8];let uG:=nL [4,5,8,6,7,15];let uH:=kc [4,5,8,6,7,15];let xw:=aq 1 (bN 2 0 2) bs.2.2.2.1;let xx:=(lP bs.2.2.1.toNat (0:Int));let Ai:=cR 2 aN bw.2.2.2.1;let Aj:=ls J bs.2.2.1.toNat 0;let t2:List cL:=[(ag 3),.aJ (bO 1 (.call {aL:=(lo [0,1,2,3]),cq:=[.bz [al.mk 5 [mb] .live],.pure,.pure,.pure],ac:=[ii],r:= .dm [.ref 4 0 0 0,.b true],dh:=[[al.mk 5 [mb] .live],(aq 1 J b9),(aq 1 J ed),(aq 1 J cV),(al.mk 6 [m8] .live::al.mk 1 (bs.2.2.2.1.map (bN 4 4 2)) .live::al.mk 1 (bs.2.2.2.2.1.map J) .live::al.mk 1 (bs.2.2.2.2.2.1.map dk) .live::i7)],ez:= .comp [.cu .id,.cu .id],e5:=[.bz [al.mk 5 [mb] .live],.pure,.pure,.pure,.bz (al.mk 6 [(ef 8 1 0 bs.2.2.2.1.length bs.1 bs.2.1 8 2 0 bs.2.2.2.2.1.length bs.2.2.1 8 3 0 bs.2.2.2.2.2.1.length)] .live::al.mk 1 (bs.2.2.2.1.map (bN 8 4 2)) .live::al.mk 1 (bs.2.2.2.2.1.map J) .live::al.mk 1 (bs.2.2.2.2.2.1.map dk) .live::i7)],dD:=[0,1,2,3],dB:=false}) 5),.bj [0,1,2,3,8] [.box [.id,.id,.id,.id,.id],.pure,.pure,.pure,.bz (al.mk 6 [m8] .live::al.mk 1 (bs.2.2.2.1.map (bN 4 4 2)) .live::al.mk 1 (bs.2.2.2.2.1.map J) .live::al.mk 1 (bs.2.2.2.2.2.1.map dk) .live::i7)] [(0,ii),(2,ii),(3,ii),(4,.bF (.cu (.lG 3))),(5,ii),(6,ii),(16,.comp [.cu .id,.cu .id]),(17,ii),(18,.comp [.cu .id,.cu .id]),(19,ii),(20,ii)],.xp [{cY:=some (0,0)},{cY:=some (1,0)},{cY:=some (2,0)},{cY:=some (3,0)},{ba:=[(4,0)]},{ba:=[(4,1)]},{ba:=[(4,2)]},{ba:=[(4,3)]},{cY:=some (4,4)}] [([],some (.box [.id,.id,.id,.id,.id])),([],some (.pure)),([],some (.pure)),([],some (.pure)),([.box [.at_ 5 0 bs.2.2.2.1.length,.id,.id,.at_ 6 0 bs.2.2.2.2.1.length,.id,.at_ 7 0 bs.2.2.2.2.2.1.length]],none),([.rx xv],none),([.pure],none),([.pure],none),([],some (.rx i7))] [(0,ii),(2,ii),(3,ii),(4,ii),(5,.bF (.cu (.at_ 4 0 0))),(6,ii),(16,.comp [.cu (.at_ 4 0 0),.cu .id]),(17,ii),(18,.comp [.cu (.at_ 4 0 0),.cu .id]),(19,.bF (.cu (.at_ 4 0 0))),(20,ii)],(ag 2),.ao false,(ag 6),(ag 6),.aJ (bO 2 (.call {aL:=(lo [4,5,8,6,7,15]),cq:=[.bz [al.mk 6 [rm] .live],.bz xw,.bz i7,.pure,.pure,.dL (aq 1 J p8)],ac:=[ii,.bF (.cu (.len (p8.length)))],r:= .b bw.1,dh:=[[al.mk 6 [oT] .live],xw,Ai,(aq 1 J bw.2.2.2.2.1),(aq 1 dk bw.2.2.2.2.2),(aq 1 J p8)],ez:=ii,e5:=[.bz [al.mk 6 [rl] .live],.bz xv,.bz Ai,.pure,.pure,.pure],dD:=[4,5,6,7,8,15],dB:=false}) 1)];
  have gG:=bY.a3 (.bi (gR p9 5 [mb] [mb] rfl) (gN 5 [mb]) (eo 1 aA b9) (eo 1 aA ed) (eo 1 aA cV) (ib (show al.mk 6 [(ef 8 1 0 bs.2.2.2.1.length bs.1 bs.2.1 8 2 0 bs.2.2.2.2.1.length bs.2.2.1 8 3 0 bs.2.2.2.2.2.1.length)] .live=jr (kc [0,1,2,3,8]) (al.mk 6 [(ef 4 1 0 bs.2.2.2.1.length bs.1 bs.2.1 4 2 0 bs.2.2.2.2.1.length bs.2.2.1 4 3 0 bs.2.2.2.2.2.1.length)] .live) from rfl) (ib (AH p9 8 4 4 2 rfl bs.2.2.2.1) (ib (lL p9 1 ns bs.2.2.2.2.1) (ib (lL p9 1 Db bs.2.2.2.2.2.1) (eB p9 2 dK bs.2.2.2.2.2.2))))) ((nR rfl (nR rfl (nR rfl (nR rfl (Hs (hX .live 2 aN bs.2.2.2.2.2.2)))))):n7 (al.mk 6 [m8] .live::al.mk 1 (bs.2.2.2.1.map (bN 4 4 2)) .live::al.mk 1 (bs.2.2.2.2.1.map J) .live::al.mk 1 (bs.2.2.2.2.2.1.map dk) .live::i7)) (BG (.inl bs) R) (.bi (aB 1 .live aA b9) (aB 1 .live aA ed) (aB 1 .live aA cV) (ib (show al.mk 6 [(ef 4 1 0 bs.2.2.2.1.length bs.1 bs.2.1 4 2 0 bs.2.2.2.2.1.length bs.2.2.1 4 3 0 bs.2.2.2.2.2.1.length)] .live=jr (db [0,1,2,3,8]) (al.mk 6 [(ef 8 1 0 bs.2.2.2.1.length bs.1 bs.2.1 8 2 0 bs.2.2.2.2.1.length bs.2.2.1 8 3 0 bs.2.2.2.2.2.1.length)] .live) from rfl) (ib (AH ta 4 8 4 2 rfl bs.2.2.2.1) (ib (lL ta 1 ns bs.2.2.2.2.1) (ib (lL ta 1 Db bs.2.2.2.2.2.1) (eB ta 2 dK bs.2.2.2.2.2.2))))) (aB 1 .live aA b9) (aB 1 .live aA ed) (aB 1 .live aA cV) (rfl:(hS [{cY:=some (0,0)},{cY:=some (1,0)},{cY:=some (2,0)},{cY:=some (3,0)},{ba:=[(4,0)]},{ba:=[(4,1)]},{ba:=[(4,2)]},{ba:=[(4,3)]},{cY:=some (4,4)}]) 5 0=some (4,1)) (.bi (rfl:bs.2.2.2.1.length=bs.2.2.2.1.length) (rfl:(hS [{cY:=some (0,0)},{cY:=some (1,0)},{cY:=some (2,0)},{cY:=some (3,0)},{ba:=[(4,0)]},{ba:=[(4,1)]},{ba:=[(4,2)]},{ba:=[(4,3)]},{cY:=some (4,4)}]) 6 0=some (4,2)) (rfl:bs.2.2.2.2.1.length=bs.2.2.2.2.1.length) (rfl:(hS [{cY:=some (0,0)},{cY:=some (1,0)},{cY:=some (2,0)},{cY:=some (3,0)},{ba:=[(4,0)]},{ba:=[(4,1)]},{ba:=[(4,2)]},{ba:=[(4,3)]},{cY:=some (4,4)}]) 7 0=some (4,3)) (rfl:bs.2.2.2.2.2.1.length=bs.2.2.2.2.2.1.length) (NR (Ir (i9:=(bN 8 0 2)) (dW (bN 4 4 2) bs.2.2.2.1) (fun _=>rfl) (fun x=>(OZ (fun _=>rfl)) x)) On:ri (hS [{cY:=some (0,0)},{cY:=some (1,0)},{cY:=some (2,0)},{cY:=some (3,0)},{ba:=[(4,0)]},{ba:=[(4,1)]},{ba:=[(4,2)]},{ba:=[(4,3)]},{cY:=some (4,4)}]) (aq 1 (bN 4 4 2) bs.2.2.2.1) xv) (aB 1 .live aA bs.2.2.2.2.1) (aB 1 .live dF bs.2.2.2.2.2.1) (.bi (NT (hX .live 2 aN bs.2.2.2.2.2.2) (fun _=>rfl) dK:ri (hS [{cY:=some (0,0)},{cY:=some (1,0)},{cY:=some (2,0)},{cY:=some (3,0)},{ba:=[(4,0)]},{ba:=[(4,1)]},{ba:=[(4,2)]},{ba:=[(4,3)]},{cY:=some (4,4)}]) i7 i7) (rfl:(hS [{cY:=some (0,0)},{cY:=some (1,0)},{cY:=some (2,0)},{cY:=some (3,0)},{ba:=[(4,0)]},{ba:=[(4,1)]},{ba:=[(4,2)]},{ba:=[(4,3)]},{cY:=some (4,4)}]) 4 0=some (4,0)) (rfl:(hS [{cY:=some (0,0)},{cY:=some (1,0)},{cY:=some (2,0)},{cY:=some (3,0)},{ba:=[(4,0)]},{ba:=[(4,1)]},{ba:=[(4,2)]},{ba:=[(4,3)]},{cY:=some (4,4)}]) 4 0=some (4,0)) (rfl:(hS [{cY:=some (0,0)},{cY:=some (1,0)},{cY:=some (2,0)},{cY:=some (3,0)},{ba:=[(4,0)]},{ba:=[(4,1)]},{ba:=[(4,2)]},{ba:=[(4,3)]},{cY:=some (4,4)}]) 4 0=some (4,0)) (rfl:(hS [{cY:=some (0,0)},{cY:=some (1,0)},{cY:=some (2,0)},{cY:=some (3,0)},{ba:=[(4,0)]},{ba:=[(4,1)]},{ba:=[(4,2)]},{ba:=[(4,3)]},{cY:=some (4,4)}]) 4 0=some (4,0)) eW ay.1 (Int.le_refl bs.2.2.1) (.bi ay.2.1 ay.2.2 (i3 J cV) (X0 (y9 (dW J cV) (fl cV)) aK) (rN Aj xx) (Ou xx (Nat.le_refl _) aK) (gR uG 6 [rm] [pr] rfl) (gN 6 [pr]) (.bi (ex uG 2 8 0 2 rfl bs.2.2.2.1) (gN 1 (bs.2.2.2.1.map (bN 8 0 2))) (eB uG 2 dK bs.2.2.2.2.2.2) (qf 2 aN bs.2.2.2.2.2.2) (eo 1 aA bs.2.2.2.2.1) (eo 1 dF bs.2.2.2.2.2.1) (eA 1 .live (Xc Aj (y9 (dW J cV) (fl cV)))) (eo 1 aA p8) (.bi (gR uH 6 [rl] [oT] rfl) (gN 6 [oT]) (ex uH 8 2 0 2 rfl bs.2.2.2.1) (gN 1 (bs.2.2.2.1.map (bN 2 0 2))) (eB uH 2 dK bw.2.2.2.1) (qf 2 aN bw.2.2.2.1) (eo 1 aA bw.2.2.2.2.1) (eo 1 dF bw.2.2.2.2.2) (.aF (eo 1 aA p8) (E3 bw bQ)))))))));
  .ite (fun bE =>
  .aD fun bf dj =>
  .bq fun eu =>
  .aD fun f6 dE =>
  .aD fun fx d3 =>
  .aD fun dr gz =>
  .aD fun d2 gZ =>
  .ret (let aW:=e2 bP cl 1 0 0 b9.length 2 0 0 ed.length 3 0 0 cV.length;let bh:=(List.replicate cl.toNat (none:(Option c3)):List (Option c3));let cf:=aB 1 .live aA b9;let cI:=aB 1 .live aA ed;let ee:=aB 1 .live aA cV;let fS:=(cV++(List.replicate bs.2.2.1.toNat 0:List Int).drop cV.length);let gx:=db [0,1,2,3,4,15,5,8,6,7];let e8:=db [0,1,2,3,4,13,5,6,7,8];let hK:=db [0,1,2,3,4,5,8,6,7,9];let h4:=aq 1 (bN 7 0 2) bs.2.2.2.1;let jS:=aB 1 .live aA bf.2.2.2.1;let jT:=aB 1 .live dF bf.2.2.2.2;let l9:=cR 2 aN bf.2.2.1;hH (t2.append [.ao false,(ag 5),.bj [0,1,2,3,4,15,5,8,6,7] [.box [.id,.id,.id,.id,.id],.pure,.pure,.pure,.box [.id,.id,.id,.id,.id,.id],.pure,.bz h4,.bz (cR 2 aN bw.2.2.2.1),.pure,.pure] [(0,ii),(5,ii),(7,gY (fS.length)),(41,ii),(42,ii)],(F2 cl bP b9 ed cV bs.2.2.1 bs.2.2.2.1 bf).gh,.aJ (bO 4 (.c4 [(fT 3 cH (none:(Option c3)))]) 1),(ag 3),.bj [0,1,2,3,4,13,5,6,7,8] [.box [.id,.id,.id,.id,.id],.pure,.pure,.pure,.box [.id,.id,.id,.id,.id,.id],.dL (aq 1 (jG 3 cH) bh),.bz h4,.bz l9,.pure,.pure] [(0,ii),(5,ii),(9,gY (bh.length)),(59,ii),(60,ii)],(F3 ((cl.toNat:Nat):Int) bP cl b9 ed cV bf.1 bf.2.1 bs.2.2.1 bs.2.2.2.1 bf.2.2.1 bf.2.2.2.1 bf.2.2.2.2 f6).gh,(ag 6),.bj [0,1,2,3,4,5,8,6,7,9] [.box [.id,.id,.id,.id,.id],.pure,.pure,.pure,.box [.id,.id,.id,.id,.id,.id],.pure,.pure,.bz (aq 1 (bN 8 0 2) bs.2.2.2.1),.bz l9,.pure] (bT [0,5,9,71,72,73]),(F4 ((bf.2.2.2.1.length:Nat):Int) bP cl b9 ed cV bf.1 bf.2.1 bs.2.2.1 bf.2.2.2.1 bs.2.2.2.1 bf.2.2.1 bf.2.2.2.2 fx).gh,.aJ (au (bM 1 (fT 3 cH dr) false) (ap 1 [])),(ag 3),.bj [0,1,2,3,4] [.box [.id,.id,.id,.id,.id],.pure,.pure,.pure,.pure] (bT [0,9,13,102,103,104]),(F5 ((fx.length:Nat):Int) bP cl b9 ed cV fx d2).gh,(ag 5)]) [0,1,2,3] [.bz [al.mk 5 [aW] .live],.pure,.pure,.pure] (gG.a3 (.bi (dU bE) cf cI ee (aB 1 .live aA fS) (ex gx 7 8 0 2 rfl bs.2.2.2.1) (eB gx 2 dK bw.2.2.2.1) (aB 1 .live aA bw.2.2.2.2.1) (.bi (aB 1 .live dF bw.2.2.2.2.2) (Ou (lP bs.2.2.1.toNat (0:Int)) (Nat.le_refl _) aK) (SE dj) eu.1 (Int.le_refl cl) eu.2.1 eu.2.2 cf (.bi cI ee (eA 1 .live (ls (jG 3 cH) cl.toNat (none:(Option c3)))) (aB 1 .live (q7 (sz:=3) ni) bh) (ex e8 7 6 0 2 rfl bs.2.2.2.1) (eB e8 2 dK bf.2.2.1) jS jT (.bi (lP cl.toNat ((none:(Option c3)):(Option c3))) (SF dE) cf cI ee (aB 1 .live (q7 (sz:=3) ni) f6) jS (ex hK 8 7 0 2 rfl bs.2.2.2.1) (.bi (eB hK 2 dK bf.2.2.1) jT (SG d3) (BV dr gz) cf cI ee (aB 1 .live (q7 (sz:=3) ni) fx) (.gH (SH gZ) (gR (db [0,1,2,3]) 5 [aW] [aW] rfl) cf cI ee (jH (jG 3 cH) fx) (i3 (jG 3 cH) fx) (ey (q7 (sz:=3) ni) fx)))))))) (.comp [.cu .id,.cu (.fI (fx.map (jG 3 cH))),.cu .id])))
  (fun bE =>
  .ret (let ma:=e2 bP cl 1 0 0 b9.length 2 0 0 ed.length 3 0 0 cV.length;hH (t2.append [.ao true,(ag 3)]) [0,1,2,3] [.bz [al.mk 5 [ma] .live],.pure,.pure,.pure] (gG.a3 (.ea (dN bE) (gR (db [0,1,2,3]) 5 [ma] [ma] rfl) (aB 1 .live aA b9) (aB 1 .live aA ed) (aB 1 .live aA cV))) (.comp [.cu .id,.cu (.gm 1),.cu (.lG 3)])))))
  ·exact (.ret (let kZ:=e2 bP cl 1 0 0 b9.length 2 0 0 ed.length 3 0 0 cV.length;hH [(ag 3),.aJ (bO 1 (.call {aL:=(lo [0,1,2,3]),cq:=[.bz [al.mk 5 [kZ] .live],.pure,.pure,.pure],ac:=[ii],r:= .dm [.hh,.b false],dh:=[[al.mk 5 [kZ] .live],(aq 1 J b9),(aq 1 J ed),(aq 1 J cV)],ez:=ii,e5:=[.bz [al.mk 5 [kZ] .live],.pure,.pure,.pure],dD:=[0,1,2,3],dB:=false}) 5),(ag 2),.ao true,(ag 3)] [0,1,2,3] [.bz [al.mk 5 [kZ] .live],.pure,.pure,.pure] (bY.a3 (.bi (gR (kc [0,1,2,3]) 5 [kZ] [kZ] rfl) (gN 5 [kZ]) (eo 1 aA b9) (eo 1 aA ed) (eo 1 aA cV) (BG (.inr bs) R) cv (gR (db [0,1,2,3]) 5 [kZ] [kZ] rfl) (.b4 (aB 1 .live aA b9) (aB 1 .live aA ed) (aB 1 .live aA cV)))) (.comp [.cu .id,.cu (.gm 1),.cu (.lG 3)])))))
def x2 (cD:a5):Option a5 :=
 if (decide ((60:Int)<(len_ J cD.cy)))=true then
  some (⟨false,([]:List Int)⟩:a5)
 else
  tX cD.cy >>= fun b3 =>
  some (⟨cD.cU,b3⟩:a5)
theorem Si {cD:a5}:bV (x2 cD) (fun r=>Con bp 84 [.agg (aN cD)] [] (.agg (aN r)) []):=by
 unfold x2
 exact .ite (fun o =>
  .ret (b1 [(ag 2),(ag 4),.ao true,(ag 2)] (.ax o) (.bF (.agg [.id,.gm 1]))))
  (fun o =>
  .aD fun b3 ae =>
  .ret (b1 [(ag 2),(ag 4),.ao false,.aJ (bO 4 (bM 1 (.isl 1 (b3.map J)) false) 2)] (.aF o (Hl b3 ae))))
def tL (cD:Option c3):Option j5 :=
 cD.elim
 (some (⟨(⟨false,([]:List Int)⟩:a5),([]:List Int)⟩:j5))
 fun d6 =>
 x2 d6.pf >>= fun bg =>
 tX d6.oM >>= fun bt =>
 some (⟨bg,bt⟩:j5)
theorem BW {cD:Option c3}:bV (tL cD) (fun r=>Con bp 62 [(fT 3 cH cD)] [] (.agg (mP r)) []):=by
 unfold tL
 exact .s8 (fun o =>
  .ret (b1 [(ag 1),.aJ (ap 1 (au (.fy 3 (.eZ 3 none) .dx) [])),.ao true,(ag 2)] (.aF (Ad (sz:=3) (f:=cH) o) cv) (.bF (.agg [.id,.gm 1,.gm 1]))))
  (fun d6 o =>
  .aD fun bg ay =>
  .aD fun bt bI =>
  .ret (b1 [(ag 1),.aJ (ap 1 (au (.fy 3 (.eZ 3 (some (cH d6))) .dx) [])),.ao false,.aJ (ap 1 (au (.fy 6 (.eZ 3 (some (cH d6))) .dx) (ap 2 (au (bM 1 (.agg (aN bg)) false) (ap 1 (au (.fy 11 (.eZ 3 (some (cH d6))) .dx) (bO 2 (bM 1 (.isl 1 (bt.map J)) false) 2)))))))] (.e7 (kk (sz:=3) (f:=cH) o) eW (kk (sz:=3) (f:=cH) o) (Si bg ay) (kk (sz:=3) (f:=cH) o) (Hl bt bI))))
def x8 (aZ:Int):Option j5 :=
 rI aZ >>= fun ad =>
 tL ad >>= fun bg =>
 some bg
theorem Gf {aZ:Int}:bV (x8 aZ) (fun r=>Con bp 61 [.n .i64 aZ] [] (.agg (mP r)) []):=by
 unfold x8
 exact .aD fun ad R =>
  .aD fun bg ay =>
  .ret (b1 [(ag 1),.aJ (ap 1 (au (bM 1 (fT 3 cH ad) false) (au (bM 1 (.agg (mP bg)) false) (ap 1 []))))] (.aF (BV ad R) (BW bg ay)))
def yJ (a7:Option c3):Option (Option c3) :=
 a7.elim
 (some (none:(Option c3)))
 fun d6 =>
 o1 d6.pf >>= fun bg =>
 some (some (⟨bg,d6.oM⟩:c3))
theorem L5 {a7:Option c3}:bV (yJ a7) (fun r=>Con bp 64 [(fT 3 cH a7)] [] (fT 3 cH r) []):=by
 unfold yJ
 exact .s8 (fun o =>
  .ret (b1 [(ag 1),.aJ (ap 1 (au (.fy 3 (.eZ 3 none) .dx) [])),.ao true,(ag 1)] (.aF (Ad (sz:=3) (f:=cH) o) cv) (.bF (.cu (.lG 3)))))
  (fun d6 o =>
  .aD fun bg ay =>
  .ret (b1 [(ag 1),.aJ (ap 1 (au (.fy 3 (.eZ 3 (some (cH d6))) .dx) [])),.ao false,.aJ (ap 1 (au (.fy 5 (.eZ 3 (some (cH d6))) .dx) (ap 2 (au (bM 1 (.agg (aN bg)) false) (bO 1 (.fy 10 (.eZ 3 (some (cH d6))) .dx) 5)))))] (.e7 (kk (sz:=3) (f:=cH) o) eW (kk (sz:=3) (f:=cH) o) (A8 bg ay) (kk (sz:=3) (f:=cH) o) (k9 (ni (⟨bg,d6.oM⟩:c3)):gU [[.b bg.cU,.isl 1 (bg.cy.map J),.isl 1 (d6.oM.map J)]])) (.bF (.r4 [.id,.id,.id]))))
def sF (cD:Option c3):Option (Option c3) :=
 cD >>= fun eQ =>
 if (decide ((24:Int)<(len_ J eQ.pf.cy)))=true then
  some (none:(Option c3))
 else
  if (decide ((24:Int)<(len_ J eQ.oM)))=true then
   some (none:(Option c3))
  else
   some cD
theorem Hd {cD:Option c3}:bV (sF cD) (fun r=>Con bp 63 [(fT 3 cH cD)] [] (fT 3 cH r) []):=by
 unfold sF
 exact .aD fun eQ R =>
  (have bY:=((.ax (kk (sz:=3) (f:=cH) R)):cT _);
  .ite (fun ae =>
  .ret (b1 [(ag 1),.aJ (ap 1 (au (.fy 3 (.eZ 3 (some (cH eQ))) .dx) (ap 6 (cO 6 (au (.ao true) []))))),.ao true,(ag 1)] (bY.a3 (.gH ae ae ae ae ae ae ae cv)) (.bF (.cu (.lG 3)))))
  (fun ae =>
  (let t2:List cL:=[(ag 1),.aJ (ap 1 (au (.fy 3 (.eZ 3 (some (cH eQ))) .dx) (ap 7 (au (.fy 11 (.eZ 3 (some (cH eQ))) .dx) (ap 4 (au (.ao false) []))))))];
  have gG:=bY.a3 (.gH ae ae (kk (sz:=3) (f:=cH) R) ae ae ae ae ae);
  .ite (fun ay =>
  .ret (b1 (t2.append [.ao true,(ag 1)]) (gG.a3 (.ax ay)) (.bF (.cu (.lG 3)))))
  (fun ay =>
  .ret (b1 (t2.append [.ao false,(ag 2)]) (gG.a3 (.ax ay)))))))
def xT (aO:cw)(bJ lj li:Int)(en b9 ed:List Int):Option (Bool×(List Int)×(List Int)×Bool×(List Int)×(List Int)×Bool×Bool×Bool×(List Int)) :=
 tv aO bJ 1 lj li en b9 ed >>= fun ad =>
 sy lj li en b9 ad >>= fun bg =>
 if (bg.1 == (2:Int))=true then
  some (false,([]:List Int),([]:List Int),false,([]:List Int),([]:List Int),false,false,false,ad)
 else
  if (bg.1 == (3:Int))=true then
   x8 0 >>= fun bS =>
   tv aO bJ (-1) lj li en b9 ad >>= fun bf =>
   sy lj li en b9 bf >>= fun cr =>
   if (cr.1 == (3:Int))=true then
    some (bS.gW.cU,bS.gW.cy,bS.hb,bS.gW.cU,bS.gW.cy,bS.hb,true,true,true,bf)
   else
    yJ cr.2.2 >>= fun fx =>
    sF fx >>= fun dr =>
    tL dr >>= fun d2 =>
    some (d2.gW.cU,d2.gW.cy,d2.hb,bS.gW.cU,bS.gW.cy,bS.hb,false,true,true,bf)
  else
   sF bg.2.2 >>= fun bS =>
   tL bS >>= fun bf =>
   tv aO bJ (-1) lj li en b9 ad >>= fun cr =>
   sy lj li en b9 cr >>= fun de =>
   if (de.1 == (3:Int))=true then
    x8 0 >>= fun dr =>
    some (dr.gW.cU,dr.gW.cy,dr.hb,bf.gW.cU,bf.gW.cy,bf.hb,true,false,true,cr)
   else
    yJ de.2.2 >>= fun dr =>
    sF dr >>= fun d2 =>
    tL d2 >>= fun hT =>
    some (hT.gW.cU,hT.gW.cy,hT.hb,bf.gW.cU,bf.gW.cy,bf.hb,false,false,true,cr)
theorem RA {aO:cw}{bJ lj li:Int}{en b9 ed:List Int}:bV (xT aO bJ lj li en b9 ed) (fun a=>Con bp 35 [.dV 2 [(fU aO)] 0 0,.agg (e2 lj li 0 0 0 en.length 1 0 0 b9.length 2 0 0 ed.length),.n .i64 bJ] [(aq 1 J en),(aq 1 J b9),(aq 1 J ed)] (.dm [.agg [.b a.1,.isl 1 (a.2.1.map J),.isl 1 (a.2.2.1.map J),.b a.2.2.2.1,.isl 1 (a.2.2.2.2.1.map J),.isl 1 (a.2.2.2.2.2.1.map J),.b a.2.2.2.2.2.2.1,.b a.2.2.2.2.2.2.2.1],.b a.2.2.2.2.2.2.2.2.1]) [(aq 1 J en),(aq 1 J b9),(aq 1 J a.2.2.2.2.2.2.2.2.2)]):=by
 unfold xT
 exact .aD fun ad R =>
  .aD fun bg ay =>
  (let m8:=e2 lj li 1 0 0 en.length 2 0 0 b9.length 3 0 0 ad.length;let mb:=e2 lj li 0 0 0 en.length 1 0 0 b9.length 2 0 0 ad.length;let i7:=e2 lj li 1 0 0 en.length 2 0 0 b9.length 3 0 0 ed.length;let p8:=e2 lj li 0 0 0 en.length 1 0 0 b9.length 2 0 0 ed.length;let rl:=gR (kc [3,0,1,2]) 5 [mb] [m8] rfl;let rm:=eo 1 aA en;let pr:=eo 1 aA b9;let p9:=eo 1 aA ad;let t1:List cL:=[(ag 3),(ag 1),.aJ (ap 2 (au (.call {aL:=(lo [3,0,1,2]),cq:=[.bz [al.mk 5 [i7] .live],.pure,.pure,.pure],ac:=[ii,ii,ii,ii],r:= .dm [],dh:=[[al.mk 5 [m8] .live],(aq 1 J en),(aq 1 J b9),(aq 1 J ad)],ez:=ii,e5:=[.bz [al.mk 5 [mb] .live],.pure,.pure,.pure],dD:=[0,1,2,3],dB:=false}) [])),.aJ (au (.call {aL:=(lo [3,0,1,2]),cq:=[.bz [al.mk 5 [m8] .live],.pure,.pure,.pure],ac:=[ii],r:= .dm [.n .i64 bg.1,.isl 1 (bg.2.1.map (jG 3 cH)),fT 3 cH bg.2.2],dh:=[[al.mk 5 [m8] .live],(aq 1 J en),(aq 1 J b9),(aq 1 J ad)],ez:=ii,e5:=[.bz [al.mk 5 [mb] .live],.pure,.pure,.pure],dD:=[0,1,2,3],dB:=false}) (ap 7 [])),(ag 1),(ag 2)];
  have a9:=((.bi (gR (nL [3,0,1,2]) 5 [i7] [p8] rfl) (gN 5 [p8]) rm pr (eo 1 aA ed) rl (gN 5 [m8]) rm (.bi pr p9 (Fe ad R) (gR (nL [3,0,1,2]) 5 [m8] [mb] rfl) (gN 5 [mb]) rm pr p9 (.e7 rl (gN 5 [m8]) rm pr p9 (GH bg ay)))):cT _);
  .ite (fun aK =>
  .ret (hH (t1.append [.ao true,(ag 3)]) [0,1,2] [.pure,.pure,.pure] (a9.a3 (.dy aK (aB 1 .live aA en) (aB 1 .live aA b9) (aB 1 .live aA ad))) (.comp [.agg [.id,.gm 1,.gm 1,.id,.gm 1,.gm 1,.id,.id],.cu .id])))
  (fun aK =>
  .ite (fun bI =>
  .aD fun bS bE =>
  .aD fun bf dj =>
  .aD fun cr ec =>
  (let aW:=e2 lj li 1 0 0 en.length 2 0 0 b9.length 3 0 0 bf.length;let bh:=e2 lj li 0 0 0 en.length 1 0 0 b9.length 2 0 0 bf.length;let cf:=e2 lj li 1 0 0 en.length 2 0 0 b9.length 3 0 0 ad.length;let cI:=e2 lj li 0 0 0 en.length 1 0 0 b9.length 2 0 0 ad.length;let ee:=gR (kc [3,0,1,2]) 5 [bh] [aW] rfl;let fS:=eo 1 aA en;let gx:=eo 1 aA b9;let e8:=eo 1 aA bf;let t3:List cL:=t1.append [.ao false,(ag 2),.ao true,.aJ (au (bM 1 (.agg (mP bS)) false) (ap 4 [])),.aJ (ap 2 (au (.call {aL:=(lo [3,0,1,2]),cq:=[.bz [al.mk 5 [cf] .live],.pure,.pure,.pure],ac:=[ii,ii,ii,ii],r:= .dm [],dh:=[[al.mk 5 [aW] .live],(aq 1 J en),(aq 1 J b9),(aq 1 J bf)],ez:=ii,e5:=[.bz [al.mk 5 [bh] .live],.pure,.pure,.pure],dD:=[0,1,2,3],dB:=false}) [])),.aJ (au (.call {aL:=(lo [3,0,1,2]),cq:=[.bz [al.mk 5 [aW] .live],.pure,.pure,.pure],ac:=[ii],r:= .dm [.n .i64 cr.1,.isl 1 (cr.2.1.map (jG 3 cH)),fT 3 cH cr.2.2],dh:=[[al.mk 5 [aW] .live],(aq 1 J en),(aq 1 J b9),(aq 1 J bf)],ez:=ii,e5:=[.bz [al.mk 5 [bh] .live],.pure,.pure,.pure],dD:=[0,1,2,3],dB:=false}) (ap 6 [])),(ag 2)];
  have fA:=a9.a3 (.bi aK bI (Gf bS bE) (gR (nL [3,0,1,2]) 5 [cf] [cI] rfl) (gN 5 [cI]) fS gx (eo 1 aA ad) (.bi ee (gN 5 [aW]) fS gx e8 (Fe bf dj) (gR (nL [3,0,1,2]) 5 [aW] [bh] rfl) (gN 5 [bh]) (.bi fS gx e8 ee (gN 5 [aW]) fS gx e8 (.ax (GH cr ec)))));
  .ite (fun dE =>
  .ret (hH (t3.append [.ao true,.aJ (au (bM 1 (.agg (mP bS)) false) (ap 4 [])),(ag 3)]) [0,1,2] [.pure,.pure,.pure] (fA.a3 (.ea dE (Gf bS bE) (aB 1 .live aA en) (aB 1 .live aA b9) (aB 1 .live aA bf)))))
  (fun dE =>
  .aD fun fx d3 =>
  .aD fun dr gz =>
  .aD fun d2 gZ =>
  .ret (hH (t3.append [.ao false,.aJ (ap 1 (au (bM 1 (fT 3 cH fx) false) (au (bM 1 (fT 3 cH dr) false) (au (bM 1 (.agg (mP d2)) false) (ap 2 []))))),(ag 3)]) [0,1,2] [.pure,.pure,.pure] (fA.a3 (.eT dE (L5 fx d3) (Hd dr gz) (BW d2 gZ) (aB 1 .live aA en) (aB 1 .live aA b9) (aB 1 .live aA bf)))))))
  (fun bI =>
  .aD fun bS bE =>
  .aD fun bf dj =>
  .aD fun cr ec =>
  .aD fun de eU =>
  (let hK:=e2 lj li 1 0 0 en.length 2 0 0 b9.length 3 0 0 cr.length;let h4:=e2 lj li 0 0 0 en.length 1 0 0 b9.length 2 0 0 cr.length;let jS:=e2 lj li 1 0 0 en.length 2 0 0 b9.length 3 0 0 ad.length;let jT:=e2 lj li 0 0 0 en.length 1 0 0 b9.length 2 0 0 ad.length;let l9:=gR (kc [3,0,1,2]) 5 [h4] [hK] rfl;let ma:=eo 1 aA en;let kZ:=eo 1 aA b9;let oT:=eo 1 aA cr;let t3:List cL:=t1.append [.ao false,(ag 2),.ao false,.aJ (ap 1 (au (bM 1 (fT 3 cH bS) false) (au (bM 1 (.agg (mP bf)) false) (ap 2 [])))),.aJ (ap 2 (au (.call {aL:=(lo [3,0,1,2]),cq:=[.bz [al.mk 5 [jS] .live],.pure,.pure,.pure],ac:=[ii,ii,ii,ii],r:= .dm [],dh:=[[al.mk 5 [hK] .live],(aq 1 J en),(aq 1 J b9),(aq 1 J cr)],ez:=ii,e5:=[.bz [al.mk 5 [h4] .live],.pure,.pure,.pure],dD:=[0,1,2,3],dB:=false}) [])),.aJ (au (.call {aL:=(lo [3,0,1,2]),cq:=[.bz [al.mk 5 [hK] .live],.pure,.pure,.pure],ac:=[ii],r:= .dm [.n .i64 de.1,.isl 1 (de.2.1.map (jG 3 cH)),fT 3 cH de.2.2],dh:=[[al.mk 5 [hK] .live],(aq 1 J en),(aq 1 J b9),(aq 1 J cr)],ez:=ii,e5:=[.bz [al.mk 5 [h4] .live],.pure,.pure,.pure],dD:=[0,1,2,3],dB:=false}) (ap 6 [])),(ag 2)];
  have fA:=a9.a3 (.bi aK bI (Hd bS bE) (BW bf dj) (gR (nL [3,0,1,2]) 5 [jS] [jT] rfl) (gN 5 [jT]) ma kZ (.bi (eo 1 aA ad) l9 (gN 5 [hK]) ma kZ oT (Fe cr ec) (gR (nL [3,0,1,2]) 5 [hK] [h4] rfl) (.bi (gN 5 [h4]) ma kZ oT l9 (gN 5 [hK]) ma kZ (.aF oT (GH de eU)))));
  .ite (fun d3 =>
  .aD fun dr gz =>
  .ret (hH (t3.append [.ao true,.aJ (au (bM 1 (.agg (mP dr)) false) (ap 4 [])),(ag 3)]) [0,1,2] [.pure,.pure,.pure] (fA.a3 (.ea d3 (Gf dr gz) (aB 1 .live aA en) (aB 1 .live aA b9) (aB 1 .live aA cr)))))
  (fun d3 =>
  .aD fun dr gz =>
  .aD fun d2 gZ =>
  .aD fun hT m5 =>
  .ret (hH (t3.append [.ao false,.aJ (ap 1 (au (bM 1 (fT 3 cH dr) false) (au (bM 1 (fT 3 cH d2) false) (au (bM 1 (.agg (mP hT)) false) (ap 2 []))))),(ag 3)]) [0,1,2] [.pure,.pure,.pure] (fA.a3 (.eT d3 (L5 dr gz) (Hd d2 gZ) (BW hT m5) (aB 1 .live aA en) (aB 1 .live aA b9) (aB 1 .live aA cr)))))))))
def yk (aO:cw)(b6:List Int)(bJ:Int):Option (pa×Bool) :=
 rG aO b6 >>= fun ad =>
 if ad=true then
  if (decide (bJ<(0:Int)))=true then
   some ((⟨(⟨(⟨false,([]:List Int)⟩:a5),([]:List Int)⟩:j5),(⟨(⟨false,([]:List Int)⟩:a5),([]:List Int)⟩:j5),false,false⟩:pa),false)
  else
   if (decide ((len_ c2 aO.b8)≤bJ))=true then
    some ((⟨(⟨(⟨false,([]:List Int)⟩:a5),([]:List Int)⟩:j5),(⟨(⟨false,([]:List Int)⟩:a5),([]:List Int)⟩:j5),false,false⟩:pa),false)
   else
    tr aO b6 0 0 >>= fun bw =>
    xT aO bJ bw.1 bw.2.1 bw.2.2.1 bw.2.2.2.1 bw.2.2.2.2 >>= fun eh =>
    if bw.2.2.2.2.length=eh.2.2.2.2.2.2.2.2.2.length then
    some ((⟨(⟨(⟨eh.1,eh.2.1⟩:a5),eh.2.2.1⟩:j5),(⟨(⟨eh.2.2.2.1,eh.2.2.2.2.1⟩:a5),eh.2.2.2.2.2.1⟩:j5),eh.2.2.2.2.2.2.1,eh.2.2.2.2.2.2.2.1⟩:pa),eh.2.2.2.2.2.2.2.2.1)
    else none
 else
  some ((⟨(⟨(⟨false,([]:List Int)⟩:a5),([]:List Int)⟩:j5),(⟨(⟨false,([]:List Int)⟩:a5),([]:List Int)⟩:j5),false,false⟩:pa),false)
theorem Th {aO:cw}{b6:List Int}{bJ:Int}:bV (yk aO b6 bJ) (fun r=>Con bp 22 [.agg (fU aO),.isl 1 (b6.map J),.n .i64 bJ] [] (.dm [.agg (rR r.1),.b r.2]) []):=by
 unfold yk
 exact .aD fun ad R =>
  (have bY:=((.aF (yc ad R) (cm.b ad)):cT _);
  .ite (fun ae =>
  (have a9:=bY.a3 (.b4 (dU ae) (dU ae) (dU ae));
  .ite (fun ay =>
  .ret (b1 [(ag 3),.aJ (ap 2 (au (bM 2 (.b ad) true) (ap 4 (au (.ao false) (ap 1 (cO 5 (au (.ao true) []))))))),.ao true,(ag 3)] (a9.a3 (.eT ay ay ay ay ay ay cv)) (.comp [.agg [.id,.gm 1,.gm 1,.id,.gm 1,.gm 1,.id,.id],.cu .id])))
  (fun ay =>
  (let t3:List cL:=[(ag 3),.aJ (ap 2 (au (bM 2 (.b ad) true) (ap 4 (au (.ao false) (ap 6 (au (.ao false) []))))))];
  .ite (fun aK =>
  .ret (b1 (t3.append [.ao true,(ag 3)]) (a9.a3 (.eT ay ay ay ay ay ay aK)) (.comp [.agg [.id,.gm 1,.gm 1,.id,.gm 1,.gm 1,.id,.id],.cu .id])))
  (fun aK =>
  .aD fun bw bQ =>
  .aD fun eh c6 =>
  .bq fun dj =>
  .ret (let aW:=eo 1 aA bw.2.2.2.1;let bh:=eo 1 aA bw.2.2.1;b1 (t3.append [.ao false,.ix 0,.aJ (ap 1 (au (.call {aL:=[],cq:=[],ac:=[.bF (.ptr [.id,.id]),ii,ii,ii],r:= .agg (e2 bw.1 bw.2.1 0 0 0 bw.2.2.1.length 0 1 0 bw.2.2.2.1.length 0 2 0 bw.2.2.2.2.length),dh:=[[al.mk 1 (bw.2.2.1.map J) .live,al.mk 1 (bw.2.2.2.1.map J) .live,al.mk 1 (bw.2.2.2.2.map J) .live]],ez:= .bF (.agg [.id,.id,.id,.id,.id]),e5:=[.bz [al.mk 1 (bw.2.2.1.map J) .live,al.mk 1 (bw.2.2.2.1.map J) .live,al.mk 1 (bw.2.2.2.2.map J) .live]],dD:=[0],dB:=true}) (bO 1 (.call {aL:=[.ah 19 0 (al.mk 1 (bw.2.2.1.map J) .live),.ah 19 1 (al.mk 1 (bw.2.2.2.1.map J) .live),.ah 19 2 (al.mk 1 (bw.2.2.2.2.map J) .live)],cq:=[.pure,.pure,.pure],ac:=[.bF (.ptr [.id,.id]),.bF (.agg [.id,.id,.at_ 0 0 bw.2.2.1.length,.at_ 1 0 bw.2.2.2.1.length,.at_ 2 0 bw.2.2.2.2.length]),ii],r:= .dm [.agg [.b eh.1,.isl 1 (eh.2.1.map J),.isl 1 (eh.2.2.1.map J),.b eh.2.2.2.1,.isl 1 (eh.2.2.2.2.1.map J),.isl 1 (eh.2.2.2.2.2.1.map J),.b eh.2.2.2.2.2.2.1,.b eh.2.2.2.2.2.2.2.1],.b eh.2.2.2.2.2.2.2.2.1],dh:=[(aq 1 J bw.2.2.1),(aq 1 J bw.2.2.2.1),(aq 1 J eh.2.2.2.2.2.2.2.2.2)],ez:=ii,e5:=[.pure,.pure,.pure],dD:=[0,19],dB:=false}) 4)))]) (a9.a3 (.bi ay ay ay ay ay ay aK (k9 (qX aO):gU [(fU aO)]) (.bi (ib (lL (kc [19]) 1 ns bw.2.2.1) (ib (lL (kc [19]) 1 ns bw.2.2.2.1) (ib (lL (kc [19]) 1 ns bw.2.2.2.2) (qo (b5:=(kc [19])))))) ((nR rfl (nR rfl (nR rfl HJ))):n7 [al.mk 1 (bw.2.2.1.map J) .live,al.mk 1 (bw.2.2.2.1.map J) .live,al.mk 1 (bw.2.2.2.2.map J) .live]) (KR bw bQ) (cm.agg (pI (cm.n .i64 bw.1) (pI (cm.n .i64 bw.2.1) (pI (cm.bu 0 0 0 bw.2.2.1.length) (pI (cm.bu 0 1 0 bw.2.2.2.1.length) (pI (cm.bu 0 2 0 bw.2.2.2.2.length) H8)))))) ((Cv (sE (rQ sS) (sE (rQ sS) (sE (rQ sS) CF))) CE):sc [[al.mk 1 (bw.2.2.1.map J) .live,al.mk 1 (bw.2.2.2.1.map J) .live,al.mk 1 (bw.2.2.2.2.map J) .live]]) (by decide:0≠1) (by decide:0≠2) (by decide:1≠2) (.bi (k9 (qX aO):gU [(fU aO)]) (rfl:kE [.ah 19 0 (al.mk 1 (bw.2.2.1.map J) .live),.ah 19 1 (al.mk 1 (bw.2.2.2.1.map J) .live),.ah 19 2 (al.mk 1 (bw.2.2.2.2.map J) .live)] 0 0=some (19,0)) (rfl:bw.2.2.1.length=bw.2.2.1.length) (rfl:kE [.ah 19 0 (al.mk 1 (bw.2.2.1.map J) .live),.ah 19 1 (al.mk 1 (bw.2.2.2.1.map J) .live),.ah 19 2 (al.mk 1 (bw.2.2.2.2.map J) .live)] 1 0=some (19,1)) (rfl:bw.2.2.2.1.length=bw.2.2.2.1.length) (rfl:kE [.ah 19 0 (al.mk 1 (bw.2.2.1.map J) .live),.ah 19 1 (al.mk 1 (bw.2.2.2.1.map J) .live),.ah 19 2 (al.mk 1 (bw.2.2.2.2.map J) .live)] 2 0=some (19,2)) (rfl:bw.2.2.2.2.length=bw.2.2.2.2.length) (rfl:c0 (some [al.mk 1 (bw.2.2.1.map J) .live,al.mk 1 (bw.2.2.2.1.map J) .live,al.mk 1 (bw.2.2.2.2.map J) .live]) 0=some (al.mk 1 (bw.2.2.1.map J) .live)) (.bi bh (rfl:c0 (some [al.mk 1 (bw.2.2.1.map J) .live,al.mk 1 (bw.2.2.2.1.map J) .live,al.mk 1 (bw.2.2.2.2.map J) .live]) 1=some (al.mk 1 (bw.2.2.2.1.map J) .live)) aW (rfl:c0 (some [al.mk 1 (bw.2.2.1.map J) .live,al.mk 1 (bw.2.2.2.1.map J) .live,al.mk 1 (bw.2.2.2.2.map J) .live]) 2=some (al.mk 1 (bw.2.2.2.2.map J) .live)) (eo 1 aA bw.2.2.2.2) bh aW (eo 1 aA eh.2.2.2.2.2.2.2.2.2) (.ax (RA eh c6)))))))))))))
  (fun ae =>
  .ret (b1 [(ag 3),.aJ (ap 2 (au (bM 2 (.b ad) true) (ap 2 (cO 2 (au (.ao true) (ap 1 (cO 5 (ap 1 [])))))))),.ao true,(ag 3)] (bY.a3 (.bi (dN ae) (dN ae) (dN ae) cv cv cv cv cv (.ax cv))) (.comp [.agg [.id,.gm 1,.gm 1,.id,.gm 1,.gm 1,.id,.id],.cu .id]))))
def yl (aZ:Int):Option Bool :=
 if (decide (aZ<(0:Int)))=true then
  some true
 else
  some (decide ((1000000000:Int)≤aZ))
theorem Ti {aZ:Int}:bV (yl aZ) (fun r=>Con bp 102 [.n .i64 aZ] [] (.b r) []):=by
 unfold yl
 exact .ite (fun o =>
  .ret (b1 [(ag 1),.aJ (ap 3 (cO 2 (au (.ao true) (ap 1 []))))] (.b4 o o o)))
  (fun o =>
  .ret (b1 [(ag 1),.aJ (bO 5 (.ao false) 1)] (.b4 o o o)))
def EB (aO:List Int)(cZ:Int):Int→S:=fun c1=>eM [(0,.isl 1 (aO.map J)),(1,.fn 102 []),(7,.n .i64 cZ),(8,.n .i64 c1)] []
def KS (aO:List Int)(cZ:Int):((Unit)⊕(Int))→eP
 | .inl a=>⟨some 0,[],[]⟩
 | .inr a=>⟨none,[(4,.n .i64 a)],[]⟩
def va (aO:List Int)(cZ c1:Int):Option ((Int)⊕((Unit)⊕(Int))) :=
 if (decide (c1<cZ))=true then
  if 0≤c1∧c1<aO.length then
  aO[c1.toNat]? >>= fun a2 =>
  yl a2 >>= fun bt =>
  if bt=true then
   some (.inr (.inr c1))
  else
   some (.inl (U (c1+(1:Int))))
  else none
 else
  some (.inr (.inl ()))
def E1 (aO:List Int)(cZ c1:Int):Option ((Unit)⊕(Int)):=iter (fun w:Int=>va aO cZ w) c1
theorem QX {aO:List Int}{cZ c1:Int}:bV (va aO cZ c1) (fo bp 19 0 50 [1,0,1,0,0] (EB aO cZ c1) (EB aO cZ) (KS aO cZ)):=by
 unfold va
 exact .ite (fun o =>
  .bq fun R =>
  .aD fun a2 ay =>
  .aD fun bt bI =>
  (let t1:List cL:=[(ag 1),.ao true,(ag 2),.aJ (ap 4 (au (.c4 (J a2)) (au (bM 1 (.b bt) true) [])))];
  have a9:=((.e7 o R.1 (eY J R.2) (cQ J ay) (Ti bt bI) (cm.b bt)):cT _);
  .ite (fun bQ =>
  .ret (bW (t1.append [.ao true,(ag 2),.bj [] [] (bT [4])]) (a9.a3 (.ax bQ))))
  (fun bQ =>
  .ret (bW (t1.append [.ao false,(ag 2),.bj [] [] (bT [0,1,7,8])]) (a9.a3 (.ax bQ))))))
  (fun o =>
  .ret (bW [(ag 1),.ao false,.bj [] [] []] (.ax o)))
theorem KT {aO:List Int}{cZ c1:Int}{r} (h:E1 aO cZ c1=some r):fp bp 19 0 50 [1,0,1,0,0] (EB aO cZ) (KS aO cZ) c1 r:=fr (fun _=>QX) h
def A7 (aO:List Int):Option Int :=
 E1 aO (len_ J aO) 0 >>= fun ad =>
 match ad with
 | .inl bs=>(some (-1))
 | .inr bs=>(some bs)
theorem Rp {aO:List Int}:bV (A7 aO) (fun r=>Con bp 50 [.isl 1 (aO.map J),.fn 102 []] [] (.n .i64 r) []):=by
 unfold A7
 exact .aD fun ad R =>
  (let t1:List cL:=[(ag 1),(ag 3),.bj [] [] (bT [0,1,7,8])];
  (by
  rcases ad with bs|bs
  ·exact (.ret (b1 (t1.append [.sub (.exit 0) [] [],(ag 1)]) (.ax (KT R))))
  ·exact (.ret (b1 (t1.append [.sub (.ret) [(4,.n .i64 bs)] []]) (.ax (KT R))))))
def vm (aO:List Int):Option Bool :=
 A7 aO >>= fun ad =>
 some (decide ((0:Int)≤ad))
theorem KU {aO:List Int}:bV (vm aO) (fun r=>Con bp 30 [.isl 1 (aO.map J),.fn 102 []] [] (.b r) []):=by
 unfold vm
 exact .aD fun ad R =>
  .ret (b1 [(ag 1),.aJ (bO 2 (bM 2 (.n .i64 ad) true) 2)] (.aF (Rp ad R) (cm.n .i64 ad)))
def tM (a7:List Int):Option Bool :=
 if (decide ((60:Int)<(len_ J a7)))=true then
  some false
 else
  if (decide ((0:Int)<(len_ J a7)))=true then
   if 0≤(U ((len_ J a7)-(1:Int)))∧(U ((len_ J a7)-(1:Int)))<a7.length then
   a7[(U ((len_ J a7)-(1:Int))).toNat]? >>= fun fN =>
   if (fN == (0:Int))=true then
    some false
   else
    vm a7 >>= fun bS =>
    some (!bS)
   else none
  else
   vm a7 >>= fun bg =>
   some (!bg)
theorem LJ {a7:List Int}:bV (tM a7) (fun r=>Con bp 89 [.isl 1 (a7.map J)] [] (.b r) []):=by
 unfold tM
 exact .ite (fun o =>
  .ret (b1 [(ag 1),.aJ (ap 4 (cO 4 (ap 7 (cO 1 (au (.ao true) []))))),.ao true,(ag 1)] (.eT o o o o o o cv)))
  (fun o =>
  .ite (fun R =>
  .bq fun ae =>
  .aD fun fN aK =>
  (let t1:List cL:=[(ag 1),.aJ (ap 13 (au (.c4 (J fN)) (ap 1 (au (.ao true) (au (.ao false) [])))))];
  have a9:=((.bi o o o o R R R R (.bi R ae.1 (eY J ae.2) R (cQ J aK) R o R (.ax o))):cT _);
  .ite (fun bI =>
  .ret (b1 (t1.append [.ao true,(ag 1)]) (a9.a3 (.ax bI))))
  (fun bI =>
  .aD fun bS bE =>
  .ret (b1 (t1.append [.ao false,.aJ (bO 1 (bM 2 (.b bS) true) 2)]) (a9.a3 (.b4 bI (KU bS bE) (cm.b bS)))))))
  (fun R =>
  .aD fun bg ay =>
  .ret (b1 [(ag 1),.aJ (ap 8 (cO 7 (au (.ao false) (au (.ao false) [])))),.ao false,.aJ (bO 1 (bM 2 (.b bg) true) 2)] (.bi o o o o R R R R (.bi R R R o R o eW (KU bg ay) (.ax (cm.b bg)))))))
def ye (cD:a5):Option Bool :=
 tM cD.cy >>= fun ad =>
 if ad=true then
  if cD.cU=true then
   some (!((len_ J cD.cy) == (0:Int)))
  else
   some true
 else
  some false
theorem S4 {cD:a5}:bV (ye cD) (fun r=>Con bp 88 [.agg (aN cD)] [] (.b r) []):=by
 unfold ye
 exact .aD fun ad R =>
  (have bY:=((.aF (LJ ad R) (cm.b ad)):cT _);
  .ite (fun ae =>
  .ite (fun ay =>
  .ret (b1 [(ag 2),.aJ (ap 2 (au (bM 1 (.b ad) true) (ap 8 (au (.ao true) (bO 1 (.ao true) 1)))))] (bY.a3 (.bi ae ae ae ay ay ay ay ae (.b4 ay ae ae)))))
  (fun ay =>
  .ret (b1 [(ag 2),.aJ (ap 2 (au (bM 1 (.b ad) true) (ap 4 (cO 4 (au (.ao false) (bO 1 (.ao true) 1))))))] (bY.a3 (.bi ae ae ae ay ay ay ay ae (.b4 ay ae ae))))))
  (fun ae =>
  .ret (b1 [(ag 2),.aJ (ap 2 (au (bM 1 (.b ad) true) (ap 1 (cO 3 (ap 4 (cO 2 (au (.ao false) (ap 1 []))))))))] (bY.a3 (.e7 ae ae ae ae ae ae)))))
def wk (dg:j5):Option Bool :=
 ye dg.gW >>= fun ad =>
 if ad=true then
  tM dg.hb >>= fun bl =>
  if bl=true then
   if ((len_ J dg.hb) == (0:Int))=true then
    some false
   else
    if (decide ((24:Int)<(len_ J dg.gW.cy)))=true then
     some false
    else
     if (decide ((24:Int)<(len_ J dg.hb)))=true then
      some false
     else
      wc dg.gW.cy dg.hb >>= fun fc =>
      o2 fc ([1]:List Int) >>= fun f6 =>
      some (f6 == (0:Int))
  else
   some false
 else
  some false
theorem Tx {dg:j5}:bV (wk dg) (fun r=>Con bp 66 [.agg (mP dg)] [] (.b r) []):=by
 unfold wk
 exact .aD fun ad R =>
  (have bY:=((.aF (S4 ad R) (cm.b ad)):cT _);
  .ite (fun ae =>
  .aD fun bl aK =>
  (have a9:=bY.a3 (.eT (dU ae) (dU ae) (dU ae) (LJ bl aK) (cm.b bl) (dU ae) (dU ae));
  .ite (fun bI =>
  (have gG:=a9.a3 (.ea (dU bI) (dU bI) (dU bI) (dU bI) (dU bI));
  .ite (fun bQ =>
  .ret (b1 [(ag 2),.aJ (ap 2 (au (bM 1 (.b ad) true) (ap 4 (au (bM 1 (.b bl) true) (ap 1 (au (.ao false) (ap 5 (au (.ao false) (ap 1 (cO 5 (au (.ao true) (ap 1 (cO 4 (ap 1 [])))))))))))))),.ao true,(ag 1)] (gG.a3 (.bi bQ bQ bQ bQ bQ bQ cv cv (.b4 cv cv cv)))))
  (fun bQ =>
  .ite (fun bE =>
  .ret (b1 [(ag 2),.aJ (ap 2 (au (bM 1 (.b ad) true) (ap 4 (au (bM 1 (.b bl) true) (ap 1 (au (.ao false) (ap 5 (au (.ao false) (ap 6 (au (.ao false) (ap 1 (cO 4 (au (.ao true) []))))))))))))),.ao true,(ag 1)] (gG.a3 (.bi bQ bQ bQ bQ bQ bQ bE bE (.dy bE bE bE cv)))))
  (fun bE =>
  (let t4:List cL:=[(ag 2),.aJ (ap 2 (au (bM 1 (.b ad) true) (ap 4 (au (bM 1 (.b bl) true) (ap 1 (au (.ao false) (ap 5 (au (.ao false) (ap 6 (au (.ao false) (ap 5 (au (.ao false) []))))))))))))];
  have nM:=gG.a3 (.bi bQ bQ bQ bQ bQ bQ bE bE (.b4 bE bE bE));
  .ite (fun c6 =>
  .ret (b1 (t4.append [.ao true,(ag 1)]) (nM.a3 (.ax c6))))
  (fun c6 =>
  .aD fun fc eu =>
  .aD fun f6 dE =>
  .ret (b1 (t4.append [.ao false,.aJ (ap 5 (au (bM 2 (.isl 1 (fc.map J)) false) (bO 1 (.call {ac:=[ii,.bF (.cu (.fI (([1]:List Int).map J)))],r:= .n .i64 f6,dB:=true,dD:=[37]}) 2)))]) (nM.a3 (.eT c6 (Lu fc eu) (kd (show [[.n .i64 (1:Int)]]=(([1]:List Int)).map J from rfl) (show 1=([1]:List Int).length from rfl)) (jY J 1) (ey aA ([1]:List Int)) (vT f6 dE) (cm.n .i64 f6))))))))))
  (fun bI =>
  .ret (b1 [(ag 2),.aJ (ap 2 (au (bM 1 (.b ad) true) (ap 4 (au (bM 1 (.b bl) true) (ap 1 (au (.ao false) (ap 1 (cO 4 (au (.ao true) (ap 1 (cO 5 (ap 2 (cO 4 (ap 1 [])))))))))))))),.ao true,(ag 1)] (a9.a3 (.bi (dN bI) (dN bI) (dN bI) (dN bI) (dN bI) cv cv cv (.eT cv cv cv cv cv cv cv)))))))
  (fun ae =>
  .ret (b1 [(ag 2),.aJ (ap 2 (au (bM 1 (.b ad) true) (ap 2 (cO 4 (au (.ao true) (ap 1 (cO 4 (ap 2 (cO 5 (ap 2 (cO 4 (ap 1 [])))))))))))),.ao true,(ag 1)] (bY.a3 (.bi (dN ae) (dN ae) (dN ae) (dN ae) (dN ae) cv cv cv (.bi cv cv cv cv cv cv cv cv (.b4 cv cv cv)))))))
def wu (dg:j5):Option (Option c3) :=
 wk dg >>= fun ad =>
 if ad=true then
  some (some (⟨dg.gW,dg.hb⟩:c3))
 else
  some (none:(Option c3))
theorem B4 {dg:j5}:bV (wu dg) (fun r=>Con bp 37 [.agg (mP dg)] [] (fT 3 cH r) []):=by
 unfold wu
 exact .aD fun ad R =>
  (let t1:List cL:=[(ag 2),.aJ (bO 1 (bM 1 (.b ad) true) 1)];
  have a9:=((.aF (Tx ad R) (cm.b ad)):cT _);
  .ite (fun ae =>
  .ret (b1 (t1.append [.ao false,(ag 7)]) (a9.a3 (.aF (dU ae) (k9 (ni (⟨dg.gW,dg.hb⟩:c3)):gU [(mP dg)]))) (.bF (.r4 [.id,.id,.id]))))
  (fun ae =>
  .ret (b1 (t1.append [.ao true,(ag 1)]) (a9.a3 (.ax (dN ae))) (.bF (.cu (.lG 3))))))
def rA (cD:Option c3):Option Int :=
 cD >>= fun eQ =>
 nP eQ.pf >>= fun bg =>
 some bg
theorem Bo {cD:Option c3}:bV (rA cD) (fun r=>Con bp 38 [(fT 3 cH cD)] [] (.n .i64 r) []):=by
 unfold rA
 exact .aD fun eQ R =>
  .aD fun bg ay =>
  .ret (b1 [(ag 1),.aJ (ap 1 (au (.fy 3 (.eZ 3 (some (cH eQ))) .dx) (bO 2 (bM 1 (.n .i64 bg) true) 1)))] (.b4 (kk (sz:=3) (f:=cH) R) (ry bg ay) (cm.n .i64 bg)))
def vY (cD e3:Option c3):Option Int :=
 e3 >>= fun eQ =>
 pB cD eQ.oM >>= fun bg =>
 cD >>= fun k3 =>
 pB e3 k3.oM >>= fun bS =>
 qW bg bS >>= fun bf =>
 some bf
theorem SQ {cD e3:Option c3}:bV (vY cD e3) (fun r=>Con bp 87 [fT 3 cH cD,fT 3 cH e3] [] (.n .i64 r) []):=by
 unfold vY
 exact .aD fun eQ R =>
  .aD fun bg ay =>
  .aD fun k3 bI =>
  .aD fun bS bE =>
  .aD fun bf dj =>
  .ret (b1 [(ag 1),.aJ (ap 2 (au (.fy 6 (.eZ 3 (some (cH eQ))) .dx) (ap 2 (au (bM 2 (.agg (aN bg)) false) (ap 2 (au (.fy 12 (.eZ 3 (some (cH k3))) .dx) (ap 2 (au (bM 2 (.agg (aN bS)) false) (au (bM 2 (.n .i64 bf) true) (ap 1 []))))))))))] (.e7 (kk (sz:=3) (f:=cH) R) (Bg bg ay) (kk (sz:=3) (f:=cH) bI) (Bg bS bE) (K7 bf dj) (cm.n .i64 bf)))
def BN (cD:pa):Option ((Option c3)×(Option c3)×Bool) :=
 wu cD.zM >>= fun ad =>
 wu cD.zm >>= fun bg =>
 ad.elim
 (some ((none:(Option c3)),(none:(Option c3)),false))
 fun nf =>
 bg.elim
 (some ((none:(Option c3)),(none:(Option c3)),false))
 fun qg =>
 if cD.Ig=true then
  rA ad >>= fun fc =>
  if (fc != (0:Int))=true then
   some ((none:(Option c3)),(none:(Option c3)),false)
  else
   if cD.CL=true then
    rA bg >>= fun fx =>
    if (fx != (0:Int))=true then
     some ((none:(Option c3)),(none:(Option c3)),false)
    else
     some (ad,bg,true)
   else
    some (ad,bg,true)
 else
  if cD.CL=true then
   rA bg >>= fun cr =>
   if (cr != (0:Int))=true then
    some ((none:(Option c3)),(none:(Option c3)),false)
   else
    some (ad,bg,true)
  else
   vY ad bg >>= fun cr =>
   some (ad,bg,(decide (cr≤(0:Int))))
theorem SR {cD:pa}:bV (BN cD) (fun r=>Con bp 65 [.agg (rR cD)] [] (.dm [fT 3 cH r.1,fT 3 cH r.2.1,.b r.2.2]) []):=by
 unfold BN
 exact .aD fun ad R =>
  .aD fun bg ay =>
  (let t1:List cL:=[(ag 4),.aJ (ap 2 (au (bM 1 (fT 3 cH ad) false) (bO 2 (bM 1 (fT 3 cH bg) false) 2)))];
  have a9:=((.aF (B4 ad R) (B4 bg ay)):cT _);
  .s8 (fun aK =>
  .ret (b1 (t1.append [.aJ (ap 1 (au (.fy 13 (.eZ 3 none) .dx) (ap 1 (cO 2 (ap 2 (cO 3 (ap 3 (cO 1 (ap 2 (cO 3 (ap 3 (cO 1 (ap 1 []))))))))))))),.ao true,(ag 3)]) (a9.a3 (.bi (Ad (sz:=3) (f:=cH) aK) cv cv cv cv cv cv cv (.dy cv cv cv cv))) (.comp [.cu (.lG 3),.cu (.lG 3),.cu .id])))
  (fun nf aK =>
  (have gG:=a9.a3 (.b4 (kk (sz:=3) (f:=cH) aK) eW eW);
  .s8 (fun bQ =>
  .ret (b1 (t1.append [.aJ (ap 1 (au (.fy 13 (.eZ 3 (some (cH nf))) .dx) (ap 2 (au (.fy 16 (.eZ 3 none) .dx) (ap 2 (cO 3 (ap 3 (cO 1 (ap 2 (cO 3 (ap 3 (cO 1 (ap 1 []))))))))))))),.ao true,(ag 3)]) (gG.a3 (.bi (Ad (sz:=3) (f:=cH) bQ) cv cv cv cv cv cv cv (.aF cv cv))) (.comp [.cu (.lG 3),.cu (.lG 3),.cu .id])))
  (fun qg bQ =>
  (have fA:=gG.a3 (.dy (kk (sz:=3) (f:=cH) bQ) eW eW eW);
  .ite (fun c6 =>
  .aD fun fc eu =>
  (have nM:=fA.a3 (.eT c6 c6 (Bo fc eu) (cm.n .i64 fc) c6 eW c6);
  .ite (fun ec =>
  .ret (b1 (t1.append [.aJ (ap 1 (au (.fy 13 (.eZ 3 (some (cH nf))) .dx) (ap 2 (au (.fy 16 (.eZ 3 (some (cH qg))) .dx) (ap 6 (au (bM 1 (.n .i64 fc) true) (ap 1 (au (.ao true) (ap 2 (cO 3 (ap 3 (cO 1 (au (.ao true) []))))))))))))),.ao true,(ag 3)]) (nM.a3 (.e7 ec ec ec ec ec cv)) (.comp [.cu (.lG 3),.cu (.lG 3),.cu .id])))
  (fun ec =>
  .ite (fun dE =>
  .aD fun fx d3 =>
  (let t6:List cL:=t1.append [.aJ (ap 1 (au (.fy 13 (.eZ 3 (some (cH nf))) .dx) (ap 2 (au (.fy 16 (.eZ 3 (some (cH qg))) .dx) (ap 6 (au (bM 1 (.n .i64 fc) true) (ap 1 (au (.ao true) (ap 6 (au (bM 1 (.n .i64 fx) true) (ap 1 (au (.ao true) (au (.ao false) [])))))))))))))];
  have AO:=nM.a3 (.bi ec ec ec dE dE (Bo fx d3) (cm.n .i64 fx) dE (.b4 ec dE ec));
  .ite (fun gv =>
  .ret (b1 (t6.append [.ao true,(ag 3)]) (AO.a3 (.ax gv)) (.comp [.cu (.lG 3),.cu (.lG 3),.cu .id])))
  (fun gv =>
  .ret (b1 (t6.append [.ao false,.aJ (ap 5 (cO 2 (au (.ao true) (ap 1 (cO 4 (ap 4 []))))))]) (AO.a3 (.gH gv c6 c6 c6 cv cv cv cv))))))
  (fun dE =>
  .ret (b1 (t1.append [.aJ (ap 1 (au (.fy 13 (.eZ 3 (some (cH nf))) .dx) (ap 2 (au (.fy 16 (.eZ 3 (some (cH qg))) .dx) (ap 6 (au (bM 1 (.n .i64 fc) true) (ap 1 (au (.ao true) (ap 5 (cO 3 (au (.ao false) (au (.ao false) [])))))))))))),.ao false,.aJ (ap 5 (cO 2 (au (.ao true) (ap 1 (cO 4 (ap 4 []))))))]) (nM.a3 (.bi ec ec ec dE dE dE ec dE (.bi ec eW c6 c6 c6 cv cv cv (.ax cv)))))))))
  (fun c6 =>
  .ite (fun dj =>
  .aD fun cr ec =>
  (let t5:List cL:=t1.append [.aJ (ap 1 (au (.fy 13 (.eZ 3 (some (cH nf))) .dx) (ap 2 (au (.fy 16 (.eZ 3 (some (cH qg))) .dx) (ap 5 (cO 3 (au (.ao false) (ap 6 (au (bM 1 (.n .i64 cr) true) (bO 1 (.ao true) 1))))))))))];
  have kH:=fA.a3 (.bi c6 c6 c6 eW c6 eW eW eW (.eT dj dj (Bo cr ec) (cm.n .i64 cr) dj eW dj));
  .ite (fun dE =>
  .ret (b1 (t5.append [.ao true,(ag 3)]) (kH.a3 (.ax dE)) (.comp [.cu (.lG 3),.cu (.lG 3),.cu .id])))
  (fun dE =>
  .ret (b1 (t5.append [.ao false,.aJ (ap 7 (au (.ao false) (ap 1 (cO 4 (au (.ao true) (ap 3 []))))))]) (kH.a3 (.bi dE c6 c6 c6 dj dj dj dj (.ax dj)))))))
  (fun dj =>
  .aD fun cr ec =>
  .ret (b1 (t1.append [.aJ (ap 1 (au (.fy 13 (.eZ 3 (some (cH nf))) .dx) (ap 2 (au (.fy 16 (.eZ 3 (some (cH qg))) .dx) (ap 5 (cO 3 (au (.ao false) (ap 5 (cO 3 (au (.ao false) (ap 1 []))))))))))),.ao false,.aJ (ap 7 (au (.ao false) (ap 3 (au (bM 2 (.n .i64 cr) true) (bO 1 (.ao false) 3)))))]) (fA.a3 (.bi c6 c6 c6 eW c6 eW eW eW (.bi dj dj dj eW dj eW c6 c6 (.gH c6 dj dj dj (SQ cr ec) (cm.n .i64 cr) dj dj))))))))))))
def B8 (cD:pa):Option Bool :=
 BN cD >>= fun ad =>
 some ad.2.2
theorem Tr {cD:pa}:bV (B8 cD) (fun r=>Con bp 36 [.agg (rR cD)] [] (.b r) []):=by
 unfold B8
 exact .aD fun ad R =>
  .ret (b1 [(ag 2),.aJ (bO 1 (bM 1 (.dm [fT 3 cH ad.1,fT 3 cH ad.2.1,.b ad.2.2]) false) 7),(ag 2)] (.ax (SR ad R)))
def yr (cD:pa):Option Bool :=
 B8 cD >>= fun ad =>
 if ad=true then
  if cD.Ig=true then
   some true
  else
   some cD.CL
 else
  some false
theorem Ts {cD:pa}:bV (yr cD) (fun r=>Con bp 23 [.agg (rR cD)] [] (.b r) []):=by
 unfold yr
 exact .aD fun ad R =>
  (have bY:=((.aF (Tr ad R) (cm.b ad)):cT _);
  .ite (fun ae =>
  .ite (fun ay =>
  .ret (b1 [(ag 2),.aJ (ap 1 (au (bM 1 (.b ad) true) (ap 4 (cO 2 (au (.ao true) (au (.ao true) (ap 1 [])))))))] (bY.a3 (.gH ae ae ae ay ay ae ay ae))))
  (fun ay =>
  .ret (b1 [(ag 2),.aJ (ap 1 (au (bM 1 (.b ad) true) (ap 6 (au (.ao false) (au (.ao true) (ap 1 []))))))] (bY.a3 (.gH ae ae ae ay ay ae ay ae)))))
  (fun ae =>
  .ret (b1 [(ag 2),.aJ (ap 1 (au (bM 1 (.b ad) true) (ap 1 (cO 3 (ap 2 (cO 1 (au (.ao false) (ap 1 []))))))))] (bY.a3 (.ea ae ae ae ae ae)))))
def ym (dg:j5):Option Int :=
 wu dg >>= fun ad =>
 ad.elim
 (some 0)
 fun qQ =>
 rA ad >>= fun bt =>
 some bt
theorem Lv {dg:j5}:bV (ym dg) (fun r=>Con bp 24 [.agg (mP dg)] [] (.n .i64 r) []):=by
 unfold ym
 exact .aD fun ad R =>
  (let t1:List cL:=[(ag 2),.aJ (bO 1 (bM 1 (fT 3 cH ad) false) 1)];
  .s8 (fun ae =>
  .ret (b1 (t1.append [.aJ (ap 1 (au (.fy 6 (.eZ 3 none) .dx) [])),.ao true,(ag 1)]) (.b4 (B4 ad R) (Ad (sz:=3) (f:=cH) ae) cv)))
  (fun qQ ae =>
  .aD fun bt bI =>
  .ret (b1 (t1.append [.aJ (ap 1 (au (.fy 6 (.eZ 3 (some (cH qQ))) .dx) [])),.ao false,.aJ (bO 1 (bM 1 (.n .i64 bt) true) 1)]) (.ea (B4 ad R) (kk (sz:=3) (f:=cH) ae) eW (Bo bt bI) (cm.n .i64 bt)))))
def sA (aO:cw)(b6:List Int)(bJ:Int):Option ByteArray :=
 qh aO b6 >>= fun ad =>
 if ad=true then
  if (decide (bJ<(0:Int)))=true then
   some (⟨#[]⟩:ByteArray)
  else
   if (decide ((len_ c2 aO.b8)≤bJ))=true then
    some (⟨#[]⟩:ByteArray)
   else
    v5 aO b6 bJ >>= fun bw =>
    if bw=true then
     yk aO b6 bJ >>= fun bf =>
     yr bf.1 >>= fun cr =>
     if cr=true then
      some (⟨#[117,115,101,102,117,108]⟩:ByteArray)
     else
      ym bf.1.zM >>= fun fx =>
      if (fx == (0:Int))=true then
       ym bf.1.zm >>= fun hc =>
       if (hc == (0:Int))=true then
        some (⟨#[105,100,108,101]⟩:ByteArray)
       else
        some (⟨#[117,115,101,102,117,108]⟩:ByteArray)
      else
       some (⟨#[117,115,101,102,117,108]⟩:ByteArray)
    else
     some (⟨#[99,114,105,116,105,99,97,108]⟩:ByteArray)
 else
  some (⟨#[]⟩:ByteArray)
theorem GP {aO:cw}{b6:List Int}{bJ:Int}:bV (sA aO b6 bJ) (fun r=>Con bp 11 [.agg (fU aO),.isl 1 (b6.map J),.n .i64 bJ] [] (.s r) []):=by
 unfold sA
 exact .aD fun ad R =>
  (have bY:=((.aF (x3 ad R) (cm.b ad)):cT _);
  .ite (fun ae =>
  (have a9:=bY.a3 (.b4 (dU ae) (dU ae) (dU ae));
  .ite (fun ay =>
  .ret (b1 [(ag 2),.aJ (ap 2 (au (bM 2 (.b ad) true) (ap 4 (au (.ao false) (ap 1 (cO 5 (au (.ao true) []))))))),.ao true,(ag 1)] (a9.a3 (.eT ay ay ay ay ay ay cv))))
  (fun ay =>
  (let t3:List cL:=[(ag 2),.aJ (ap 2 (au (bM 2 (.b ad) true) (ap 4 (au (.ao false) (ap 6 (au (.ao false) []))))))];
  .ite (fun aK =>
  .ret (b1 (t3.append [.ao true,(ag 1)]) (a9.a3 (.eT ay ay ay ay ay ay aK))))
  (fun aK =>
  .aD fun bw bQ =>
  (let t4:List cL:=t3.append [.ao false,.aJ (bO 3 (bM 3 (.b bw) true) 1)];
  have nM:=a9.a3 (.bi ay ay ay ay ay ay aK (Gw bw bQ) (.ax (cm.b bw)));
  .ite (fun bE =>
  .aD fun bf dj =>
  .aD fun cr ec =>
  (let t6:List cL:=t4.append [.ao false,.aJ (bO 3 (bM 3 (.dm [.agg (rR bf.1),.b bf.2]) false) 6)];
  have AO:=nM.a3 (.dy (dU bE) (Th bf dj) (Ts cr ec) (cm.b cr));
  .ite (fun dE =>
  .ret (b1 (t6.append [.aJ (ap 1 (au (bM 1 (.b cr) true) (ap 2 (cO 4 (au (.ao false) (ap 1 (cO 4 (ap 1 [])))))))),.ao false,(ag 1)]) (AO.a3 (.bi (dU dE) (dU dE) (dU dE) (dU dE) (dU dE) eW eW eW (.aF eW eW)))))
  (fun dE =>
  .aD fun fx d3 =>
  (have tj:=AO.a3 (.eT (dN dE) (dN dE) (dN dE) (Lv fx d3) (cm.n .i64 fx) (dN dE) (dN dE));
  .ite (fun gv =>
  .aD fun hc ig =>
  (let t9:List cL:=t6.append [.aJ (ap 1 (au (bM 1 (.b cr) true) (ap 4 (au (bM 1 (.n .i64 fx) true) (ap 1 (au (.ao true) (ap 3 (au (bM 1 (.n .i64 hc) true) (ap 1 (au (.ao true) []))))))))))];
  have Ak:=tj.a3 (.eT gv gv gv (Lv hc ig) (cm.n .i64 hc) gv gv);
  .ite (fun gZ =>
  .ret (b1 (t9.append [.ao true,(ag 1)]) (Ak.a3 (.ax gZ))))
  (fun gZ =>
  .ret (b1 (t9.append [.ao false,(ag 1)]) (Ak.a3 (.ax gZ))))))
  (fun gv =>
  .ret (b1 (t6.append [.aJ (ap 1 (au (bM 1 (.b cr) true) (ap 4 (au (bM 1 (.n .i64 fx) true) (ap 1 (au (.ao true) (ap 1 (cO 4 (au (.ao false) []))))))))),.ao false,(ag 1)]) (tj.a3 (.e7 gv gv gv gv gv eW))))))))
  (fun bE =>
  .ret (b1 (t4.append [.ao true,(ag 1)]) (nM.a3 (.ax (dN bE)))))))))))
  (fun ae =>
  .ret (b1 [(ag 2),.aJ (ap 2 (au (bM 2 (.b ad) true) (ap 2 (cO 2 (au (.ao true) (ap 1 (cO 5 (ap 1 [])))))))),.ao true,(ag 1)] (bY.a3 (.bi (dN ae) (dN ae) (dN ae) cv cv cv cv cv (.ax cv))))))
def yf (aO:cw)(b6:List Int):Option Bool :=
 qh aO b6 >>= fun ad =>
 if ad=true then
  vF aO b6 >>= fun bl =>
  some ((len_ J bl) == (0:Int))
 else
  some false
theorem S5 {aO:cw}{b6:List Int}:bV (yf aO b6) (fun r=>Con bp 12 [.agg (fU aO),.isl 1 (b6.map J)] [] (.b r) []):=by
 unfold yf
 exact .aD fun ad R =>
  (have bY:=((.aF (x3 ad R) (cm.b ad)):cT _);
  .ite (fun ae =>
  .aD fun bl aK =>
  .ret (b1 [(ag 2),.aJ (ap 2 (au (bM 2 (.b ad) true) (ap 3 (au (bM 2 (.isl 1 (bl.map J)) false) (bO 2 (.ao true) 1)))))] (bY.a3 (.eT ae ae ae (K5 bl aK) ae ae ae))))
  (fun ae =>
  .ret (b1 [(ag 2),.aJ (ap 2 (au (bM 2 (.b ad) true) (ap 1 (cO 5 (au (.ao false) (ap 1 []))))))] (bY.a3 (.e7 ae ae ae ae ae ae)))))
def Ff (b6 nw n5:List Int)(lS:Bool)(kA:List bB)(gi:Int)(aT:List bb):Int→S:=fun fb=>eM [(3,.ref 0 0 0 0),(4,.isl 1 (b6.map J)),(5,.isl 1 (nw.map J)),(6,.isl 1 (n5.map J)),(7,.b lS),(30,.isl 3 (kA.map c2)),(31,.n .i64 gi),(32,.n .i64 fb)] [[al.mk 2 [[.isl 4 (aT.map cS),.isl 3 (kA.map c2)]] .live]]
def Fm (b6 nw n5:List Int)(lS:Bool)(kA:List bB)(gi:Int)(aT:List bb):((Unit)⊕(Unit))→eP
 | .inl a=>⟨some 0,[(3,.ref 0 0 0 0),(4,.isl 1 (b6.map J)),(5,.isl 1 (nw.map J)),(7,.b lS)],[[al.mk 2 [[.isl 4 (aT.map cS),.isl 3 (kA.map c2)]] .live]]⟩
 | .inr a=>⟨none,[(2,.b false)],[]⟩
def vr (b6 nw n5:List Int)(lS:Bool)(kA:List bB)(gi:Int)(aT:List bb)(fb:Int):Option ((Int)⊕((Unit)⊕(Unit))) :=
 if (decide (fb<gi))=true then
  if 0≤fb∧fb<kA.length then
  kA[fb.toNat]? >>= fun a2 =>
  su (⟨aT,kA⟩:cw) ([fb]:List Int) >>= fun bt =>
  qh bt b6 >>= fun bS =>
  wB nw fb >>= fun bf =>
  if (bf == (!bS))=true then
   v5 (⟨aT,kA⟩:cw) b6 fb >>= fun f6 =>
   if (f6 == (!bS))=true then
    some (.inr (.inr ()))
   else
    if lS=true then
     if (a2.lg == (1:Int))=true then
      wB n5 fb >>= fun hc =>
      if (hc == (!bS))=true then
       sA (⟨aT,kA⟩:cw) b6 fb >>= fun hT =>
       if (lS == (!(hT.toList == (⟨#[]⟩:ByteArray).toList)))=true then
        if ((hT.toList == (⟨#[99,114,105,116,105,99,97,108]⟩:ByteArray).toList) == (!bS))=true then
         some (.inl (U (fb+(1:Int))))
        else
         some (.inr (.inr ()))
       else
        some (.inr (.inr ()))
      else
       some (.inr (.inr ()))
     else
      sA (⟨aT,kA⟩:cw) b6 fb >>= fun hc =>
      if (lS == (!(hc.toList == (⟨#[]⟩:ByteArray).toList)))=true then
       if ((hc.toList == (⟨#[99,114,105,116,105,99,97,108]⟩:ByteArray).toList) == (!bS))=true then
        some (.inl (U (fb+(1:Int))))
       else
        some (.inr (.inr ()))
      else
       some (.inr (.inr ()))
    else
     sA (⟨aT,kA⟩:cw) b6 fb >>= fun dr =>
     if (lS == (!(dr.toList == (⟨#[]⟩:ByteArray).toList)))=true then
      some (.inl (U (fb+(1:Int))))
     else
      some (.inr (.inr ()))
  else
   some (.inr (.inr ()))
  else none
 else
  some (.inr (.inl ()))
def Bp (b6 nw n5:List Int)(lS:Bool)(kA:List bB)(gi:Int)(aT:List bb)(fb:Int):Option ((Unit)⊕(Unit)):=iter (fun w:Int=>vr b6 nw n5 lS kA gi aT w) fb
theorem RB {b6 nw n5:List Int}{lS:Bool}{kA:List bB}{gi:Int}{aT:List bb}{fb:Int}:bV (vr b6 nw n5 lS kA gi aT fb) (fo bp 98 0 3 [1,1,1,1,1,1,0,1,0,0] (Ff b6 nw n5 lS kA gi aT fb) (Ff b6 nw n5 lS kA gi aT) (Fm b6 nw n5 lS kA gi aT)):=by
 unfold vr
 exact .ite (fun o =>
  .bq fun R =>
  .aD fun a2 ay =>
  .aD fun bt bI =>
  .aD fun bS bE =>
  .aD fun bf dj =>
  (let t1:List cL:=[(ag 1),.ao true,.aJ (bO 2 (.c4 (c2 a2)) 3),.aJ (ap 3 (au (.sl 10 (.call {ac:=[ii,.bF (.cu (.fI (([fb]:List Int).map J)))],r:= .agg (fU bt),dB:=false,dD:=[10]})) (bO 1 (bM 2 (.b bS) true) 2)))];
  have a9:=((.bi o R.1 (eY c2 R.2) (cQ c2 ay) (kd (show [[.n .i64 fb]]=(([fb]:List Int)).map J from rfl) (show 1=([fb]:List Int).length from rfl)) (jY J fb) (ey aA ([fb]:List Int)) (Fi bt bI) (.dy (x3 bS bE) (cm.b bS) (L4 bf dj) (cm.b bf))):cT _);
  .ite (fun eu =>
  .aD fun f6 dE =>
  (let t3:List cL:=t1.append [.aJ (ap 2 (au (bM 2 (.b bf) true) (ap 6 (au (bM 3 (.b f6) true) (ap 2 (au (.ao false) []))))))];
  have fA:=a9.a3 (.bi (dU eu) (dU eu) (dU eu) (dU eu) (Gw f6 dE) (cm.b f6) (dU eu) (dU eu) (.ax (dU eu)));
  .ite (fun eU =>
  .ret (bW (t3.append [.ao true,(ag 1),.bj [] [] (bT [2])]) (fA.a3 (.ax eU))))
  (fun eU =>
  .ite (fun d3 =>
  .ite (fun gv =>
  .aD fun hc ig =>
  (let t5:List cL:=t3.append [.ao false,.aJ (ap 5 (au (.ao true) (ap 3 (au (bM 2 (.b hc) true) (ap 2 (au (.ao true) []))))))];
  have kH:=fA.a3 (.bi eU d3 d3 d3 d3 gv gv gv (.ea (L4 hc ig) (cm.b hc) gv gv gv));
  .ite (fun gZ =>
  .aD fun hT m5 =>
  (let t7:List cL:=t5.append [.ao false,.aJ (bO 3 (bM 3 (.s hT) true) 1)];
  have tj:=kH.a3 (.b4 (dU gZ) (GP hT m5) (cm.s hT));
  .ite (fun jR =>
  (let t9:List cL:=t7.append [.aJ (ap 11 (au (.ao true) (au (.ao false) [])))];
  have Ak:=tj.a3 (.bi (dU jR) (dU jR) d3 d3 d3 d3 (dU jR) d3 (.ax (dU jR)));
  .ite (fun lp =>
  .ret (bW (t9.append [.ao false,(ag 2),.bj [0] [.box [.id,.id]] (bT [3,4,5,6,7,30,31,32])]) (Ak.a3 (.ax (dU lp)))))
  (fun lp =>
  .ret (bW (t9.append [.ao true,(ag 1),.bj [] [] (bT [2])]) (Ak.a3 (.ax (dN lp)))))))
  (fun jR =>
  .ret (bW (t7.append [.aJ (ap 5 (cO 2 (ap 4 (cO 1 (au (.ao true) []))))),.ao true,(ag 1),.bj [] [] (bT [2])]) (tj.a3 (.ea (dN jR) (dN jR) (dN jR) (dN jR) cv))))))
  (fun gZ =>
  .ret (bW (t5.append [.ao true,(ag 1),.bj [] [] (bT [2])]) (kH.a3 (.ax (dN gZ)))))))
  (fun gv =>
  .aD fun hc ig =>
  (let t5:List cL:=t3.append [.ao false,.aJ (ap 5 (au (.ao true) (ap 1 (cO 5 (au (.ao false) []))))),.ao false,.aJ (bO 3 (bM 3 (.s hc) true) 1)];
  have kH:=fA.a3 (.bi eU d3 d3 d3 d3 gv gv gv (.e7 gv gv gv eW (GP hc ig) (cm.s hc)));
  .ite (fun gZ =>
  (let t7:List cL:=t5.append [.aJ (ap 11 (au (.ao true) (au (.ao false) [])))];
  have tj:=kH.a3 (.bi (dU gZ) (dU gZ) d3 d3 d3 d3 (dU gZ) d3 (.ax (dU gZ)));
  .ite (fun m4 =>
  .ret (bW (t7.append [.ao false,(ag 2),.bj [0] [.box [.id,.id]] (bT [3,4,5,6,7,30,31,32])]) (tj.a3 (.ax (dU m4)))))
  (fun m4 =>
  .ret (bW (t7.append [.ao true,(ag 1),.bj [] [] (bT [2])]) (tj.a3 (.ax (dN m4)))))))
  (fun gZ =>
  .ret (bW (t5.append [.aJ (ap 5 (cO 2 (ap 4 (cO 1 (au (.ao true) []))))),.ao true,(ag 1),.bj [] [] (bT [2])]) (kH.a3 (.ea (dN gZ) (dN gZ) (dN gZ) (dN gZ) cv)))))))
  (fun d3 =>
  .aD fun dr gz =>
  (let t5:List cL:=t3.append [.ao false,.aJ (ap 2 (cO 3 (au (.ao false) (ap 1 (cO 5 (ap 1 [])))))),.ao false,.aJ (bO 3 (bM 3 (.s dr) true) 1)];
  have kH:=fA.a3 (.bi eU d3 d3 d3 d3 eW eW eW (.ea eW eW eW (GP dr gz) (cm.s dr)));
  .ite (fun ig =>
  .ret (bW (t5.append [.aJ (ap 7 (cO 4 (au (.ao false) (au (.ao false) [])))),.ao false,(ag 2),.bj [0] [.box [.id,.id]] (bT [3,4,5,6,7,30,31,32])]) (kH.a3 (.bi (dU ig) (dU ig) d3 d3 d3 d3 (dU ig) d3 (.aF (dU ig) eW)))))
  (fun ig =>
  .ret (bW (t5.append [.aJ (ap 5 (cO 2 (ap 4 (cO 1 (au (.ao true) []))))),.ao true,(ag 1),.bj [] [] (bT [2])]) (kH.a3 (.ea (dN ig) (dN ig) (dN ig) (dN ig) cv)))))))))
  (fun eu =>
  .ret (bW (t1.append [.aJ (ap 2 (au (bM 2 (.b bf) true) (ap 3 (cO 6 (au (.ao true) []))))),.ao true,(ag 1),.bj [] [] (bT [2])]) (a9.a3 (.gH (dN eu) (dN eu) (dN eu) (dN eu) (dN eu) (dN eu) (dN eu) cv))))))
  (fun o =>
  .ret (bW [(ag 1),.ao false,.bj [0] [.box [.id,.id]] (bT [3,4,5,7])] (.ax o)))
theorem K9 {b6 nw n5:List Int}{lS:Bool}{kA:List bB}{gi:Int}{aT:List bb}{fb:Int}{r} (h:Bp b6 nw n5 lS kA gi aT fb=some r):fp bp 98 0 3 [1,1,1,1,1,1,0,1,0,0] (Ff b6 nw n5 lS kA gi aT) (Fm b6 nw n5 lS kA gi aT) fb r:=fr (fun _=>RB) h
def BM (hg:List Int):Option Bool :=
 if (decide ((1048576:Int)<(len_ eU8 hg)))=true then
  some true
 else
  BR hg >>= fun b3 =>
  vF b3.1 b3.2 >>= fun bl =>
  x4 b3.1 b3.2 >>= fun bw =>
  qh b3.1 b3.2 >>= fun eh =>
  Bp b3.2 bl bw eh b3.1.b8 (len_ c2 b3.1.b8) b3.1.cx 0 >>= fun fc =>
  match fc with
  | .inl s9=>(yf b3.1 b3.2 >>= fun de =>
   if eh=true then
    some (de == ((len_ J bl) == (0:Int)))
   else
    some (de == false))
  | .inr s9=>(some false)
theorem SI {hg:List Int}:bV (BM hg) (fun r=>Con bp 3 [.isl 1 (hg.map eU8)] [] (.b r) []):=by
 unfold BM
 exact .ite (fun o =>
  .ret (b1 [(ag 1),(ag 3),.ao true,(ag 1)] (.ax o)))
  (fun o =>
  .aD fun b3 ae =>
  .aD fun bl aK =>
  .aD fun bw bQ =>
  .aD fun eh c6 =>
  .aD fun fc eu =>
  (let t1:List cL:=[(ag 1),(ag 3),.ao false,.aJ (bO 1 (bM 1 (.dm [.agg (fU b3.1),.isl 1 (b3.2.map J)]) false) 6),.aJ (bO 2 (bM 2 (.isl 1 (bl.map J)) false) 1),.aJ (bO 2 (bM 2 (.isl 1 (bw.map J)) false) 1),.aJ (bO 2 (bM 2 (.b eh) true) 1),(ag 4),.bj [9] [.box [.id,.id]] (bT [3,4,5,6,7,30,31,32])];
  have a9:=((.e7 o (SX b3 ae) (K5 bl aK) (Sn bw bQ) (x3 eh c6) (cm.b eh)):cT _);
  (by
  rcases fc with s9|s9
  ·exact (.aD fun de eU =>
  (let t3:List cL:=t1.append [(Fm b3.2 bl bw eh b3.1.b8 (len_ c2 b3.1.b8) b3.1.cx (.inl s9)).gh];
  have fA:=a9.a3 (.b4 (K9 eu) (S5 de eU) (cm.b de));
  .ite (fun d3 =>
  .ret (b1 (t3.append [.aJ (ap 2 (au (bM 2 (.b de) true) (bO 5 (.ao true) 2)))]) (fA.a3 (.dy d3 d3 d3 d3))))
  (fun d3 =>
  .ret (b1 (t3.append [.aJ (ap 2 (au (bM 2 (.b de) true) (ap 2 (cO 3 (au (.ao false) (ap 2 []))))))]) (fA.a3 (.dy d3 d3 d3 d3))))))
  ·exact (.ret (b1 (t1.append [.sub (.ret) [(2,.b false)] []]) (a9.a3 (.ax (K9 eu))))))))
end Go.Proofs.YtfdnefmiaihfcaaGreat
