/- Lemmas, plain functions of the program, and what they answer. No condition. -/
import Derived.Test.YtojbgalflbgajabGreatMC
namespace Go.Proofs.YtojbgalflbgajabGreat
set_option linter.unusedVariables false
set_option linter.unusedSimpArgs false
open Go Go.VL
def IL (a9:List Int)(gq:Nat)(ai aR:List Int):(List Int)→S:=fun ak=>fh [(0,.isl 1 (a9.map I)),(8,.bx 0 0 0 ai.length),(9,.bx 1 0 0 ak.length),(10,.bx 2 0 0 gq)] [(au 1 I ai),(au 1 I ak),(au 1 I aR)]
def IV (a9:List Int)(gq:Nat)(ai aR:List Int):(List Int)→fp
 | a=>⟨some 0,[(8,.bx 0 0 0 ai.length),(9,.bx 1 0 0 a.length),(10,.bx 2 0 0 gq)],[(au 1 I ai),(au 1 I a),(au 1 I aR)]⟩
def Dr (a9:List Int)(gq:Nat)(ai aR ak:List Int):Option (((List Int))⊕((List Int))) :=
 if (decide (((ak.length:Nat):Int)≤(len_ I a9)))=true then
  if (ak++([0]:List Int)).length*8≤140737488355328 then
  some (.inl (ak++([0]:List Int)))
  else none
 else
  some (.inr ak)
def DU (a9:List Int)(gq:Nat)(ai aR ak:List Int):Option ((List Int)):=iter (fun w:(List Int)=>Dr a9 gq ai aR w) ak
theorem VD {a9:List Int}{gq:Nat}{ai aR ak:List Int}:bV (Dr a9 gq ai aR ak) (fV bt 172 0 109 [1,1,1,1,1,0,0,0] (IL a9 gq ai aR ak) (IL a9 gq ai aR) (IV a9 gq ai aR)):=by
 unfold Dr
 exact .ite (fun o =>
  .bn fun J =>
  .ret (let aL:=(ak++([0]:List Int));bQ [(ad 5),.ap true,.aI (bL 2 (.a1 (aL.length)) 1),.bm [0,10,2] [.pure,.dY (au 1 I aL),.pure] (bX [0,8,9,10])] (.bo o (mi I 0) (qF I ak) (n7 I ak 0) J (aD 1 .live aA ai) (eB 1 .live (qG I ak 0)) (aD 1 .live aA aL) (.aC (aD 1 .live aA aR)))))
  (fun o =>
  .ret (bQ [(ad 5),.ap false,.bm [0,1,2] [.pure,.pure,.pure] (bX [8,9,10])] (.dh o (aD 1 .live aA ai) (aD 1 .live aA ak) (aD 1 .live aA aR))))
theorem Wx {a9:List Int}{gq:Nat}{ai aR ak:List Int}{r} (h:DU a9 gq ai aR ak=some r):fW bt 172 0 109 [1,1,1,1,1,0,0,0] (IL a9 gq ai aR) (IV a9 gq ai aR) ak r:=fZ (fun _=>VD) h
def IM (eS gq:Nat)(bh eG:Int)(ai ak aR an:List Int):(Int×Int)→S:=fun (od,ij)=>fh [(8,.bx 0 0 0 ai.length),(9,.bx 1 0 0 eS),(10,.bx 2 0 0 gq),(11,.n .i64 bh),(12,.bx 3 0 0 an.length),(13,.n .i64 eG),(15,.n .i64 od),(16,.n .i64 ij)] [(au 1 I ai),(au 1 I ak),[ab.mk 1 (aR.map I) .h9],(au 1 I an)]
def IW (eS gq:Nat)(bh eG:Int)(ai ak aR an:List Int):Int→fp
 | a=>⟨some 4,[(8,.bx 0 0 0 ai.length),(9,.bx 1 0 0 eS),(10,.bx 2 0 0 gq),(11,.n .i64 bh),(12,.bx 3 0 0 an.length),(13,.n .i64 eG),(15,.n .i64 a)],[(au 1 I ai),(au 1 I ak),[ab.mk 1 (aR.map I) .h9],(au 1 I an)]⟩
def uV (eS gq:Nat)(bh eG:Int)(ai ak aR an:List Int)(od ij:Int):Option ((Int×Int)⊕(Int)) :=
 if (decide ((1000000000:Int)≤od))=true then
  if 0≤(U (bh-(1:Int)))∧(U (bh-(1:Int)))<(gq:Nat) then
  aR[(0+(U (bh-(1:Int))).toNat)]? >>= fun aM =>
  if (decide ((1000000000:Int)≤(U (ij+aM))))=true then
   some (.inr (U (od-(1:Int))))
  else
   some (.inl (U (od-(1:Int)),U (ij+aM)))
  else none
 else
  if 0≤(U (bh-(2:Int)))∧(U (bh-(2:Int)))<(gq:Nat) then
  aR[(0+(U (bh-(2:Int))).toNat)]? >>= fun aM =>
  if 0≤(U ((U (eG+bh))-(2:Int)))∧(U ((U (eG+bh))-(2:Int)))<(eS:Nat) then
  ak[(0+(U ((U (eG+bh))-(2:Int))).toNat)]? >>= fun cy =>
  if (decide ((U ((U (ij*(1000000000:Int)))+cy))<(U (od*aM))))=true then
   if 0≤(U (bh-(1:Int)))∧(U (bh-(1:Int)))<(gq:Nat) then
   aR[(0+(U (bh-(1:Int))).toNat)]? >>= fun il =>
   if (decide ((1000000000:Int)≤(U (ij+il))))=true then
    some (.inr (U (od-(1:Int))))
   else
    some (.inl (U (od-(1:Int)),U (ij+il)))
   else none
  else
   some (.inr od)
  else none
  else none
def Ju (eS gq:Nat)(bh eG:Int)(ai ak aR an:List Int)(od ij:Int):Option (Int):=iter (fun w:Int×Int=>uV eS gq bh eG ai ak aR an w.1 w.2) (od,ij)
theorem VE {eS gq:Nat}{bh eG:Int}{ai ak aR an:List Int}{od ij:Int}:bV (uV eS gq bh eG ai ak aR an od ij) (fV bt 172 0 109 [1,1,1,1,1,1,1,1,0,1,0,0,1,0,0,1,1,0,0,0] (IM eS gq bh eG ai ak aR an (od,ij)) (IM eS gq bh eG ai ak aR an) (IW eS gq bh eG ai ak aR an)):=by
 unfold uV
 exact .ite (fun o =>
  .bn fun J =>
  .ay fun aM aF =>
  (let t1:List cG:=[.aI (av 3 (dm 18 (aq (.ap true) []))),.ap true,(ad 3),.aI (bL 5 (.cz (I aM)) 2),(ad 2)];
  have a5:=((.bo o o o o o o o o (.bo o o o o o o o o (.fC o o o cV J.1 J.2 (cD I aF)))):cW _);
  .ite (fun aJ =>
  .ret (bQ (t1.append [.ap true,.bm [0,1,2,3] [.pure,.pure,.pure,.pure] (bX [8,9,10,11,12,13,15])]) (a5.a1 (.eR aJ (aD 1 .live aA ai) (aD 1 .live aA ak) (aD 1 .h9 aA aR) (aD 1 .live aA an)))))
  (fun aJ =>
  .ret (bQ (t1.append [.ap false,.bm [0,1,2,3] [.pure,.pure,.pure,.pure] (bX [8,9,10,11,12,13,15,16])]) (a5.a1 (.eR aJ (aD 1 .live aA ai) (aD 1 .live aA ak) (aD 1 .h9 aA aR) (aD 1 .live aA an)))))))
  (fun o =>
  .bn fun J =>
  .ay fun aM aF =>
  .bn fun aJ =>
  .ay fun cy bJ =>
  (let t1:List cG:=[.aI (av 8 (aq (.cz (I aM)) (av 9 (aq (.cz (I cy)) (av 2 (aq (.ap false) []))))))];
  have a5:=((.bo o o o o o J.1 J.2 o (.bo (cD I aF) o o o o o o o (.bo o o aJ.1 aJ.2 o (cD I bJ) o o (.aC o)))):cW _);
  .ite (fun bu =>
  .bn fun c9 =>
  .ay fun il c8 =>
  (let t3:List cG:=t1.append [.ap true,(ad 3),.aI (bL 5 (.cz (I il)) 2),(ad 2)];
  .ite (fun eF =>
  .ret (bQ (t3.append [.ap true,.bm [0,1,2,3] [.pure,.pure,.pure,.pure] (bX [8,9,10,11,12,13,15])]) (a5.a1 (.bo bu c9.1 c9.2 (cD I c8) eF (aD 1 .live aA ai) (aD 1 .live aA ak) (aD 1 .h9 aA aR) (.aC (aD 1 .live aA an))))))
  (fun eF =>
  .ret (bQ (t3.append [.ap false,.bm [0,1,2,3] [.pure,.pure,.pure,.pure] (bX [8,9,10,11,12,13,15,16])]) (a5.a1 (.bo bu c9.1 c9.2 (cD I c8) eF (aD 1 .live aA ai) (aD 1 .live aA ak) (aD 1 .h9 aA aR) (.aC (aD 1 .live aA an))))))))
  (fun bu =>
  .ret (bQ (t1.append [.ap false,.bm [0,1,2,3] [.pure,.pure,.pure,.pure] (bX [8,9,10,11,12,13,15])]) (a5.a1 (.eR bu (aD 1 .live aA ai) (aD 1 .live aA ak) (aD 1 .h9 aA aR) (aD 1 .live aA an)))))))
theorem Wy {eS gq:Nat}{bh eG:Int}{ai ak aR an:List Int}{od ij:Int}{r} (h:Ju eS gq bh eG ai ak aR an od ij=some r):fW bt 172 0 109 [1,1,1,1,1,1,1,1,0,1,0,0,1,0,0,1,1,0,0,0] (IM eS gq bh eG ai ak aR an) (IW eS gq bh eG ai ak aR an) (od,ij) r:=fZ (fun _=>VE) h
def IP (eS gq:Nat)(bh:Int)(ai aR:List Int):(Int×(List Int)×(List Int))→S:=fun (eG,ak,an)=>fh [(8,.bx 0 0 0 ai.length),(9,.bx 1 0 0 eS),(10,.bx 2 0 0 gq),(11,.n .i64 bh),(12,.bx 3 0 0 an.length),(13,.n .i64 eG)] [(au 1 I ai),(au 1 I ak),[ab.mk 1 (aR.map I) .h9],(au 1 I an)]
def IX (eS gq:Nat)(bh:Int)(ai aR:List Int):((List Int)×(List Int))→fp
 | a=>⟨some 2,[(8,.bx 0 0 0 ai.length),(9,.bx 1 0 0 eS),(12,.bx 2 0 0 a.2.length)],[(au 1 I ai),(au 1 I a.1),(au 1 I a.2)]⟩
def uW (eS gq:Nat)(bh:Int)(ai aR:List Int)(eG:Int)(ak an:List Int):Option ((Int×(List Int)×(List Int))⊕((List Int)×(List Int))) :=
 if (decide ((0:Int)≤eG))=true then
  if 0≤(U (eG+bh))∧(U (eG+bh))<(eS:Nat) then
  ak[(0+(U (eG+bh)).toNat)]? >>= fun aM =>
  if 0≤(U ((U (eG+bh))-(1:Int)))∧(U ((U (eG+bh))-(1:Int)))<(eS:Nat) then
  ak[(0+(U ((U (eG+bh))-(1:Int))).toNat)]? >>= fun cy =>
  if 0≤(U (bh-(1:Int)))∧(U (bh-(1:Int)))<(gq:Nat) then
  aR[(0+(U (bh-(1:Int))).toNat)]? >>= fun gE =>
  if gE≠0 then
  Ju eS gq bh eG ai ak aR an (U ((U ((U (aM*(1000000000:Int)))+cy)).tdiv gE)) ((U ((U (aM*(1000000000:Int)))+cy)).tmod gE) >>= fun fA =>
  if 0≤eG then
  if eG.toNat≤eS then
  if 0+gq≤aR.length then
  Al ((aR.drop 0).take gq) fA (0+eG.toNat) (eS-eG.toNat) ak >>= fun iU =>
  if iU.1=true then
   x6 ((aR.drop 0).take gq) (0+eG.toNat) (eS-eG.toNat) iU.2 >>= fun iJ =>
   if 0≤eG∧eG<(an.length:Nat) then
   if (0+eG.toNat)<an.length then
   some (.inl (U (eG-(1:Int)),iJ,an.set (0+eG.toNat) (U (fA-(1:Int)))))
   else none
   else none
  else
   if 0≤eG∧eG<(an.length:Nat) then
   if (0+eG.toNat)<an.length then
   some (.inl (U (eG-(1:Int)),iU.2,an.set (0+eG.toNat) fA))
   else none
   else none
  else none
  else none
  else none
  else none
  else none
  else none
  else none
 else
  some (.inr (ak,an))
def Jv (eS gq:Nat)(bh:Int)(ai aR:List Int)(eG:Int)(ak an:List Int):Option ((List Int)×(List Int)):=iter (fun w:Int×(List Int)×(List Int)=>uW eS gq bh ai aR w.1 w.2.1 w.2.2) (eG,ak,an)
theorem VF {eS gq:Nat}{bh:Int}{ai aR:List Int}{eG:Int}{ak an:List Int}:bV (uW eS gq bh ai aR eG ak an) (fV bt 172 0 109 [1,1,1,1,1,1,1,1,0,1,0,0] (IP eS gq bh ai aR (eG,ak,an)) (IP eS gq bh ai aR) (IX eS gq bh ai aR)):=by
 unfold uW
 exact .ite (fun o =>
  .bn fun J =>
  .ay fun aM aF =>
  .bn fun aJ =>
  .ay fun cy bJ =>
  .bn fun bu =>
  .ay fun gE da =>
  .bn fun c8 =>
  .ay fun fA d4 =>
  .bn fun d8 =>
  .bn fun gK =>
  .bn fun fT =>
  .ay fun iU kA =>
  (let t1:List cG:=[(ad 2),.ap true,.aI (av 5 (aq (.cz (I aM)) (bL 7 (.cz (I cy)) 2))),.aI (av 5 (aq (.cz (I gE)) (bL 6 (.cz (I gE)) 3))),.bm [0,1,2,3] [.pure,.pure,.pure,.pure] (bX [8,9,10,11,12,13,15,16]),(IW eS gq bh eG ai ak aR an fA).gL,.aI (av 5 (aq (.call {aO:=[.row 1],cu:=[.pure],ac:=[ii,.bE (.ck (.gv (((aR.drop 0).take gq).map I))),ii],r:= .b iU.1,dg:=[(au 1 I iU.2)],eL:=ii,fq:=[.pure],dZ:=[1,2],dr:=false}) []))];
  have a5:=((.bo o J.1 J.2 (cD I aF) aJ.1 aJ.2 (cD I bJ) bu.1 (.bo bu.2 (cD I da) c8 bu.1 bu.2 (cD I da) c8 (aD 1 .live aA ai) (.bo (aD 1 .live aA ak) (aD 1 .h9 aA aR) (aD 1 .live aA an) (Wy d4) d8 gK (Nat.le_refl eS) (J6 (ej I aR) 0 gq) (.eR (s3 (ej I aR) fT) (fs aA ((aR.drop 0).take gq)) (du 1 aA ak) (du 1 aA iU.2) (WK iU kA))))):cW _);
  .ite (fun j0 =>
  .ay fun iJ jS =>
  .bn fun n1 =>
  .bn fun lT =>
  .ret (let aL:=(U (fA-(1:Int)));bQ (t1.append [.ap true,(ad 3),.aI (av 4 (aq (.call {aO:=[.row 1],cu:=[.pure],ac:=[ii,.bE (.ck (.gv (((aR.drop 0).take gq).map I)))],r:= .cY [],dg:=[(au 1 I iJ)],eL:=ii,fq:=[.pure],dZ:=[1,2],dr:=false}) [])),.aI (av 4 (aq .c4 [])),(ad 3),.bm [0,1,2,3] [.pure,.pure,.pure,.dY (au 1 I (an.set (0+eG.toNat) aL))] [(8,ii),(9,ii),(10,ii),(11,ii),(12,gz ((an.set (0+eG.toNat) aL).length)),(13,ii)]]) (a5.a1 (.bo j0 d8 gK (Nat.le_refl eS) (J6 (ej I aR) 0 gq) (s3 (ej I aR) fT) (fs aA ((aR.drop 0).take gq)) (du 1 aA iU.2) (.bo (du 1 aA iJ) (WL iJ jS) n1.1 n1.2 (hB I lT) (g8 1) (aD 1 .live aA ai) (aD 1 .live aA iJ) (.dh (aD 1 .h9 aA aR) (eB 1 .live (gi (ej I an) (0+eG.toNat) aL)) (aD 1 .live aA (an.set (0+eG.toNat) aL)) (hg (fP an) (0+eG.toNat) aL)))))))
  (fun j0 =>
  .bn fun oA =>
  .bn fun jS =>
  .ret (bQ (t1.append [.ap false,.aI (av 4 (aq .c4 [])),(ad 3),.bm [0,1,2,3] [.pure,.pure,.pure,.dY (au 1 I (an.set (0+eG.toNat) fA))] [(8,ii),(9,ii),(10,ii),(11,ii),(12,gz ((an.set (0+eG.toNat) fA).length)),(13,ii)]]) (a5.a1 (.bo j0 oA.1 oA.2 (hB I jS) (g8 1) (aD 1 .live aA ai) (aD 1 .live aA iU.2) (aD 1 .h9 aA aR) (.cd (eB 1 .live (gi (ej I an) (0+eG.toNat) fA)) (aD 1 .live aA (an.set (0+eG.toNat) fA)) (hg (fP an) (0+eG.toNat) fA))))))))
  (fun o =>
  .ret (bQ [(ad 2),.ap false,.bm [0,1,3] [.pure,.pure,.pure] (bX [8,9,12])] (.dh o (aD 1 .live aA ai) (aD 1 .live aA ak) (aD 1 .live aA an))))
theorem Wz {eS gq:Nat}{bh:Int}{ai aR:List Int}{eG:Int}{ak an:List Int}{r} (h:Jv eS gq bh ai aR eG ak an=some r):fW bt 172 0 109 [1,1,1,1,1,1,1,1,0,1,0,0] (IP eS gq bh ai aR) (IX eS gq bh ai aR) (eG,ak,an) r:=fZ (fun _=>VF) h
def sW (a9 a8:List Int):Option ((List Int)×(List Int)) :=
 qb a9 a8 >>= fun ae =>
 if (decide (ae<(0:Int)))=true then
  vt a9 >>= fun aw =>
  some (([]:List Int),aw)
 else
  if ((len_ I a8) == (1:Int))=true then
   if 0≤(0:Int)∧(0:Int)<a8.length then
   a8[0]? >>= fun cy =>
   xY a9 cy >>= fun ea =>
   u3 (IntKind.wrap .u64 ea.2) >>= fun fb =>
   some (ea.1,fb)
   else none
  else
   if 0≤(U ((len_ I a8)-(1:Int)))∧(U ((len_ I a8)-(1:Int)))<a8.length then
   a8[(U ((len_ I a8)-(1:Int))).toNat]? >>= fun cy =>
   if (U (cy+(1:Int)))≠0 then
   x4 a9 ([U ((1000000000:Int).tdiv (U (cy+(1:Int))))]:List Int) >>= fun ba =>
   if ba.1≤ba.2.length then
   if (ba.2.take ba.1++([0]:List Int)).length*8≤140737488355328 then
   x4 a8 ([U ((1000000000:Int).tdiv (U (cy+(1:Int))))]:List Int) >>= fun ed =>
   DU a9 ed.1 ([U ((1000000000:Int).tdiv (U (cy+(1:Int))))]:List Int) ed.2 (ba.2.take ba.1++([0]:List Int)) >>= fun fN =>
   if 0≤(U (((fN.length:Nat):Int)-((ed.1:Nat):Int)))∧(8:Int)*(U (((fN.length:Nat):Int)-((ed.1:Nat):Int)))≤281474976710656∧(U (((fN.length:Nat):Int)-((ed.1:Nat):Int)))<9223372036854775808 then
   Jv fN.length ed.1 ((ed.1:Nat):Int) ([U ((1000000000:Int).tdiv (U (cy+(1:Int))))]:List Int) ed.2 (U ((U (((fN.length:Nat):Int)-((ed.1:Nat):Int)))-(1:Int))) fN (List.replicate (U (((fN.length:Nat):Int)-((ed.1:Nat):Int))).toNat 0:List Int) >>= fun eK =>
   if 0+fN.length≤eK.1.length then
   qN ((eK.1.drop 0).take fN.length) >>= fun jr =>
   if 0≤(0:Int)∧(0:Int)<(([U ((1000000000:Int).tdiv (U (cy+(1:Int))))]:List Int).length:Nat) then
   ([U ((1000000000:Int).tdiv (U (cy+(1:Int))))]:List Int)[0]? >>= fun tv =>
   xY jr tv >>= fun oB =>
   qN eK.2 >>= fun kV =>
   some (kV,oB.1)
   else none
   else none
   else none
   else none
   else none
   else none
   else none
theorem DV {a9 a8:List Int}:bV (sW a9 a8) (fun r=>Con bt 109 [.isl 1 (a9.map I),.isl 1 (a8.map I)] [] (.cY [.isl 1 (r.1.map I),.isl 1 (r.2.map I)]) []):=by
 unfold sW
 exact .ay fun ae J =>
  (let t1:List cG:=[(ad 2),.aI (bL 2 (bC 2 (.n .i64 ae) true) 1)];
  have a5:=((.aH (xR ae J) (cl.n .i64 ae)):cW _);
  .ite (fun af =>
  .ay fun aw aJ =>
  .ret (bY (t1.append [.ap true,.aI (bL 1 (bC 1 (.isl 1 (aw.map I)) false) 2)]) (a5.a1 (.aH af (JM aw aJ))) (.comp [.ck (.hh 1),.ck .id])))
  (fun af =>
  .ite (fun aF =>
  .bn fun aJ =>
  .ay fun cy bJ =>
  .ay fun ea c9 =>
  .ay fun fb c8 =>
  .ret (bY (t1.append [.ap false,(ad 3),.ap true,.aI (av 3 (aq (.cz (I cy)) (aq (bC 2 (.cY [.isl 1 (ea.1.map I),.n .i64 ea.2]) false) (av 5 [])))),.aI (bL 3 (bC 1 (.isl 1 (fb.map I)) false) 2)]) (a5.a1 (.fC af aF aJ.1 (eI I aJ.2) (cD I bJ) (NL ea c9) (I3 fb c8)))))
  (fun aF =>
  .bn fun aJ =>
  .ay fun cy bJ =>
  .bn fun bu =>
  .ay fun ba da =>
  .bn fun c8 =>
  .bn fun eF =>
  .ay fun ed d8 =>
  .ay fun fN fT =>
  .bn fun g7 =>
  .ay fun eK j0 =>
  .bn fun oA =>
  .ay fun jr n1 =>
  .bn fun lT =>
  .ay fun tv qy =>
  .ay fun oB B7 =>
  .ay fun kV wb =>
  .ret (let aL:=(U ((1000000000:Int).tdiv (U (cy+(1:Int)))));let bg:=(U (((fN.length:Nat):Int)-((ed.1:Nat):Int)));let b1:=(ba.2.take ba.1++([0]:List Int));let cI:=(List.replicate bg.toNat 0:List Int);let eU:=(aD 1 .live aA ([aL]:List Int));bY (t1.append [.ap false,(ad 3),.ap false,.aI (bL 5 (.cz (I cy)) 4),.aI (av 2 (aq (.call {aO:=[],cu:=[],ac:=[ii,.bE (.ck (.gv (([aL]:List Int).map I)))],r:= .bx 0 0 0 ba.1,dg:=[(au 1 I ba.2)],eL:=ii,fq:=[.pure],dZ:=[17],dr:=true}) (av 1 (aq (.a1 (b1.length)) (bL 2 (.call {aO:=[],cu:=[],ac:=[ii,.bE (.ck (.gv (([aL]:List Int).map I)))],r:= .bx 0 0 0 ed.1,dg:=[(au 1 I ed.2)],eL:=ii,fq:=[.pure],dZ:=[17],dr:=true}) 2))))),.bm [17,23,26] [.dY (au 1 I ([aL]:List Int)),.dY (au 1 I b1),.pure] [(0,ii),(8,gz (([aL]:List Int).length)),(9,ii),(10,ii)],(IV a9 ed.1 ([aL]:List Int) ed.2 fN).gL,(ad 3),(ad 6),(ad 6),.bm [0,1,2,10] [.pure,.pure,.pure,.dY (au 1 I cI)] [(8,ii),(9,ii),(10,ii),(11,ii),(12,gz (cI.length)),(13,ii)],.h9 2,.bm [0,1,2,3] [.pure,.pure,.pure,.pure] (bX [8,9,10,11,12,13]),(IX fN.length ed.1 ((ed.1:Nat):Int) ([aL]:List Int) ed.2 eK).gL,.h9 1,.aI (av 1 (aq (.call {ac:=[.bE (.ck (.gv (((eK.1.drop 0).take fN.length).map I)))],r:= .isl 1 (jr.map I),dr:=false,dZ:=[1]}) (av 2 (aq (.cz (I tv)) (aq (bC 2 (.cY [.isl 1 (oB.1.map I),.n .i64 oB.2]) false) (av 5 [])))))),.h9 2,.aI (bL 1 (.call {ac:=[.bE (.ck (.gv (eK.2.map I)))],r:= .isl 1 (kV.map I),dr:=false,dZ:=[2]}) 3)]) (a5.a1 (.bo af aF aJ.1 (eI I aJ.2) (cD I bJ) bu (ms (show [[.n .i64 (U ((1000000000:Int).tdiv (U (cy+(1:Int)))))]]=(([(U ((1000000000:Int).tdiv (U (cy+(1:Int)))))]:List Int)).map I from rfl) (show 1=([(U ((1000000000:Int).tdiv (U (cy+(1:Int)))))]:List Int).length from rfl)) (mi I aL) (.bo (fs aA ([aL]:List Int)) (du 1 aA ba.2) (N0 ba da) (cl.bx 0 0 0 ba.1) ((tS (mO (mA mR) tW) tV):qt [(au 1 I ba.2)]) (mi I 0) (s3 (ej I ba.2) c8) (adk I c8 0) (.bo eF (ms (show [[.n .i64 (U ((1000000000:Int).tdiv (U (cy+(1:Int)))))]]=(([(U ((1000000000:Int).tdiv (U (cy+(1:Int)))))]:List Int)).map I from rfl) (show 1=([(U ((1000000000:Int).tdiv (U (cy+(1:Int)))))]:List Int).length from rfl)) (mi I aL) (fs aA ([aL]:List Int)) (du 1 aA ed.2) (N0 ed d8) (cl.bx 0 0 0 ed.1) ((tS (mO (mA mR) tW) tV):qt [(au 1 I ed.2)]) (.bo (eB 1 .live (show [[.n .i64 (U ((1000000000:Int).tdiv (U (cy+(1:Int)))))]]=(([(U ((1000000000:Int).tdiv (U (cy+(1:Int)))))]:List Int)).map I from rfl)) eU (eB 1 .live (J7 (ej I ba.2) ba.1 (wC I 0))) (aD 1 .live aA b1) (aD 1 .live aA ed.2) (show 1=([(U ((1000000000:Int).tdiv (U (cy+(1:Int)))))]:List Int).length from rfl) (Wx fT) g7.1 (.bo (Int.le_refl bg) g7.2.1 g7.2.2 eU (aD 1 .live aA fN) (aD 1 .live aA ed.2) (eB 1 .live (kr I bg.toNat 0)) (aD 1 .live aA cI) (.bo (kI bg.toNat (0:Int)) eU (aD 1 .live aA fN) (aD 1 .h9 aA ed.2) (aD 1 .live aA cI) (Wz j0) (J6 (ej I eK.1) 0 fN.length) (s3 (ej I eK.1) oA) (.bo (fs aA ((eK.1.drop 0).take fN.length)) (u4 jr n1) lT.1 lT.2 (cD I qy) (NL oB B7) (ki I eK.2) (jw I eK.2) (.aH (fs aA eK.2) (u4 kV wb))))))))))))))
def tK (b3 el:bf):Option bf :=
 sW b3.cN el.cN >>= fun ae =>
 lL (!(b3.db == el.db)) ae.1 >>= fun bl =>
 some bl
theorem HB {b3 el:bf}:bV (tK b3 el) (fun r=>Con bt 117 [.agg (aU b3),.agg (aU el)] [] (.agg (aU r)) []):=by
 unfold tK
 exact .ay fun ae J =>
  .ay fun bl aF =>
  .ret (bY [(ad 3),.aI (bL 4 (bC 2 (.cY [.isl 1 (ae.1.map I),.isl 1 (ae.2.map I)]) false) 5),.aI (bL 6 (bC 2 (.agg (aU bl)) false) 1)] (.aH (DV ae J) (sf bl aF)))
def GZ (dq cc:Int)(ga j8:b8)(jN jo pt:Int)(aZ:Bool)(aN:List Int)(cJ:Int)(ak:List b8)(an:List Int)(a7:List Bool)(jA:Bool)(jz:List Int)(oS:Bool)(oO:List Int):(Int×(List (List bf)))→S:=fun (gj,bG)=>fh [(0,.ref 0 0 0 0),(1,.n .i64 dq),(2,.n .i64 cc),(6,nC 2 0 2 ga),(7,.ref 5 0 0 0),(9,nC 2 0 2 j8),(10,.ref 6 0 0 0),(30,.bx 1 0 0 ak.length),(31,.n .i64 jN),(32,.n .i64 jo),(45,.n .i64 pt),(46,.n .i64 gj)] [[ab.mk 6 [(eX 1 0 0 ak.length aZ aN 3 0 0 an.length cJ 4 0 0 a7.length)] .live],(au 1 (b2 2 0 2) ak),(c7 2 aU bG),(au 1 I an),(au 1 d6 a7),[ab.mk 2 [[.b jA,.isl 1 (jz.map I)]] .live],[ab.mk 2 [[.b oS,.isl 1 (oO.map I)]] .live]]
def G8 (dq cc:Int)(ga j8:b8)(jN jo pt:Int)(aZ:Bool)(aN:List Int)(cJ:Int)(ak:List b8)(an:List Int)(a7:List Bool)(jA:Bool)(jz:List Int)(oS:Bool)(oO:List Int):(List (List bf))→fp
 | a=>⟨some 2,[(0,.ref 0 0 0 0),(1,.n .i64 dq),(2,.n .i64 cc),(6,nC 2 0 2 ga),(7,.ref 5 0 0 0),(30,.bx 1 0 0 ak.length),(31,.n .i64 jN),(32,.n .i64 jo)],[[ab.mk 6 [(eX 1 0 0 ak.length aZ aN 3 0 0 an.length cJ 4 0 0 a7.length)] .live],(au 1 (b2 2 0 2) ak),(c7 2 aU a),(au 1 I an),(au 1 d6 a7),[ab.mk 2 [[.b jA,.isl 1 (jz.map I)]] .live]]⟩
def w3 (dq cc:Int)(ga j8:b8)(jN jo pt:Int)(aZ:Bool)(aN:List Int)(cJ:Int)(ak:List b8)(an:List Int)(a7:List Bool)(jA:Bool)(jz:List Int)(oS:Bool)(oO:List Int)(gj:Int)(bG:List (List bf)):Option ((Int×(List (List bf)))⊕((List (List bf)))) :=
 if (decide (gj<pt))=true then
  j8 >>= fun eo =>
  bG[eo.1]? >>= fun j2 =>
  if 0≤gj∧gj<(eo.2:Nat) then
  j2[(0+gj.toNat)]? >>= fun gD =>
  o7 gD (⟨jA,jz⟩:bf) >>= fun ba =>
  o9 (⟨oS,oO⟩:bf) >>= fun cE =>
  if (cE != (0:Int))=true then
   ga >>= fun wc =>
   bG[wc.1]? >>= fun zq =>
   if 0≤gj∧gj<(wc.2:Nat) then
   zq[(0+gj.toNat)]? >>= fun rZ =>
   o9 rZ >>= fun jr =>
   if (jr != (0:Int))=true then
    o7 (⟨oS,oO⟩:bf) rZ >>= fun nt =>
    uU ba nt >>= fun oB =>
    tK oB (⟨aZ,aN⟩:bf) >>= fun kV =>
    some (.inl (U (gj+(1:Int)),bG.set eo.1 (j2.set (0+gj.toNat) kV)))
   else
    tK ba (⟨aZ,aN⟩:bf) >>= fun nt =>
    some (.inl (U (gj+(1:Int)),bG.set eo.1 (j2.set (0+gj.toNat) nt)))
   else none
  else
   tK ba (⟨aZ,aN⟩:bf) >>= fun fz =>
   some (.inl (U (gj+(1:Int)),bG.set eo.1 (j2.set (0+gj.toNat) fz)))
  else none
 else
  some (.inr bG)
def C2 (dq cc:Int)(ga j8:b8)(jN jo pt:Int)(aZ:Bool)(aN:List Int)(cJ:Int)(ak:List b8)(an:List Int)(a7:List Bool)(jA:Bool)(jz:List Int)(oS:Bool)(oO:List Int)(gj:Int)(bG:List (List bf)):Option ((List (List bf))):=iter (fun w:Int×(List (List bf))=>w3 dq cc ga j8 jN jo pt aZ aN cJ ak an a7 jA jz oS oO w.1 w.2) (gj,bG)
theorem Uk {dq cc:Int}{ga j8:b8}{jN jo pt:Int}{aZ:Bool}{aN:List Int}{cJ:Int}{ak:List b8}{an:List Int}{a7:List Bool}{jA:Bool}{jz:List Int}{oS:Bool}{oO:List Int}{gj:Int}{bG:List (List bf)}:bV (w3 dq cc ga j8 jN jo pt aZ aN cJ ak an a7 jA jz oS oO gj bG) (fV bt 128 5 99 [1,1,0,1,0,0,1,1,0,0,1,1,1,1,0,0] (GZ dq cc ga j8 jN jo pt aZ aN cJ ak an a7 jA jz oS oO (gj,bG)) (GZ dq cc ga j8 jN jo pt aZ aN cJ ak an a7 jA jz oS oO) (G8 dq cc ga j8 jN jo pt aZ aN cJ ak an a7 jA jz oS oO)):=by
 unfold w3
 exact .ite (fun o =>
  .ay fun eo af =>
  .ay fun j2 aJ =>
  .bn fun bp =>
  .ay fun gD bu =>
  .ay fun ba da =>
  .ay fun cE eF =>
  (let jh:=l2 (iX .live 2 aU bG) lJ aJ;let t1:List cG:=[(ad 1),.ap true,(ad 2),.aI (av 2 (aq (.fF 49 (.bx 2 (eo.1+0) 0 eo.2) (.hT (ab.mk 2 (j2.map aU) .live) [])) (aq (.hT (ab.mk 2 (j2.map aU) .live) (aU gD)) (bL 1 (bC 2 (.agg (aU ba)) false) 2))))];
  have a5:=((.bo o (pc (eO:=2) (c:=0) (sz:=2) af) jh bp.1 bp.2 jh (cD aU bu) (uP ba da) (.aH (sM cE eF) (cl.n .i64 cE))):cW _);
  .ite (fun d4 =>
  .ay fun wc gK =>
  .ay fun zq g7 =>
  .bn fun kA =>
  .ay fun rZ oA =>
  .ay fun jr n1 =>
  (let ic:=l2 (iX .live 2 aU bG) lJ g7;let t3:List cG:=t1.append [.aI (av 1 (aq (bC 1 (.n .i64 cE) true) (av 4 (aq (.fF 59 (.bx 2 (wc.1+0) 0 wc.2) (.hT (ab.mk 2 (zq.map aU) .live) [])) (aq (.hT (ab.mk 2 (zq.map aU) .live) (aU rZ)) (aq (bC 1 (.n .i64 jr) true) (av 1 (aq (.ap true) []))))))))];
  have fI:=a5.a1 (.bo d4 d4 d4 (pc (eO:=2) (c:=0) (sz:=2) gK) ic kA.1 kA.2 d4 (.fC ic (cD aU oA) d4 (sM jr n1) (cl.n .i64 jr) d4 d4));
  .ite (fun lT =>
  .ay fun nt qy =>
  .ay fun oB B7 =>
  .ay fun kV wb =>
  .ret (let aL:=l2 (iX .live 2 aU bG) lJ g7;let bg:=l2 (iX .live 2 aU bG) lJ aJ;let b1:=di [0,1,2,3,4,5,6];bQ (t3.append [.ap true,.aI (av 4 (aq (.fF 68 (.bx 2 (wc.1+0) 0 wc.2) (.hT (ab.mk 2 (zq.map aU) .live) [])) (aq (.hT (ab.mk 2 (zq.map aU) .live) (aU rZ)) (aq (bC 2 (.agg (aU nt)) false) (aq (bC 2 (.agg (aU oB)) false) (av 1 [])))))),.aI (av 7 (aq (bC 2 (.agg (aU kV)) false) (aq (.fF 74 (.bx 2 (eo.1+0) 0 eo.2) (.hT (ab.mk 2 (j2.map aU) .live) [])) (aq (.hT (ab.mk 2 (j2.map aU) .live) (aU gD)) [])))),(ad 2),.bm [0,1,2,3,4,5,6] [.box [.id,.id,.id,.id,.id,.id],.bB (au 1 (b2 2 0 2) ak),.bB (c7 2 aU (bG.set eo.1 (j2.set (0+gj.toNat) kV))),.pure,.pure,.box [.id,.id],.box [.id,.id]] (bX [0,1,2,6,7,9,10,30,31,32,45,46])]) (fI.a1 (.bo lT (pc (eO:=2) (c:=0) (sz:=2) gK) aL kA.1 kA.2 aL (cD aU oA) (uP nt qy) (.bo (Ny oB B7) (HB kV wb) (pc (eO:=2) (c:=0) (sz:=2) af) bg bp.1 bp.2 bg (cD aU bu) (.dh (fw b1 2 2 0 2 rfl ak) (qP (cg:=b1) (so (iX .live 2 aU bG) eo.1 (sl (ej aU j2) (0+gj.toNat) kV (rfl:(setCells (aU gD) 0 (aU kV))=aU kV))) (pS eC)) (aD 1 .live aA an) (aD 1 .live eD a7)))))))
  (fun lT =>
  .ay fun nt qy =>
  .ret (let cI:=l2 (iX .live 2 aU bG) lJ aJ;let eU:=di [0,1,2,3,4,5,6];bQ (t3.append [.ap false,.aI (av 7 (aq (bC 2 (.agg (aU nt)) false) (aq (.fF 74 (.bx 2 (eo.1+0) 0 eo.2) (.hT (ab.mk 2 (j2.map aU) .live) [])) (aq (.hT (ab.mk 2 (j2.map aU) .live) (aU gD)) [])))),(ad 2),.bm [0,1,2,3,4,5,6] [.box [.id,.id,.id,.id,.id,.id],.bB (au 1 (b2 2 0 2) ak),.bB (c7 2 aU (bG.set eo.1 (j2.set (0+gj.toNat) nt))),.pure,.pure,.box [.id,.id],.box [.id,.id]] (bX [0,1,2,6,7,9,10,30,31,32,45,46])]) (fI.a1 (.bo lT (HB nt qy) (pc (eO:=2) (c:=0) (sz:=2) af) cI bp.1 bp.2 cI (cD aU bu) (.dh (fw eU 2 2 0 2 rfl ak) (qP (cg:=eU) (so (iX .live 2 aU bG) eo.1 (sl (ej aU j2) (0+gj.toNat) nt (rfl:(setCells (aU gD) 0 (aU nt))=aU nt))) (pS eC)) (aD 1 .live aA an) (aD 1 .live eD a7))))))))
  (fun d4 =>
  .ay fun fz gK =>
  .ret (let gC:=l2 (iX .live 2 aU bG) lJ aJ;let hq:=di [0,1,2,3,4,5,6];bQ (t1.append [.aI (av 1 (aq (bC 1 (.n .i64 cE) true) (av 2 (dm 6 (aq (.ap false) []))))),.ap false,.aI (av 7 (aq (bC 2 (.agg (aU fz)) false) (aq (.fF 74 (.bx 2 (eo.1+0) 0 eo.2) (.hT (ab.mk 2 (j2.map aU) .live) [])) (aq (.hT (ab.mk 2 (j2.map aU) .live) (aU gD)) [])))),(ad 2),.bm [0,1,2,3,4,5,6] [.box [.id,.id,.id,.id,.id,.id],.bB (au 1 (b2 2 0 2) ak),.bB (c7 2 aU (bG.set eo.1 (j2.set (0+gj.toNat) fz))),.pure,.pure,.box [.id,.id],.box [.id,.id]] (bX [0,1,2,6,7,9,10,30,31,32,45,46])]) (a5.a1 (.bo d4 d4 d4 d4 d4 d4 d4 fv (.bo (HB fz gK) (pc (eO:=2) (c:=0) (sz:=2) af) gC bp.1 bp.2 gC (cD aU bu) (fw hq 2 2 0 2 rfl ak) (.cd (qP (cg:=hq) (so (iX .live 2 aU bG) eo.1 (sl (ej aU j2) (0+gj.toNat) fz (rfl:(setCells (aU gD) 0 (aU fz))=aU fz))) (pS eC)) (aD 1 .live aA an) (aD 1 .live eD a7)))))))))
  (fun o =>
  .ret (let fY:=di [0,1,2,3,4,5];bQ [(ad 1),.ap false,.bm [0,1,2,3,4,5] [.box [.id,.id,.id,.id,.id,.id],.bB (au 1 (b2 2 0 2) ak),.bB (c7 2 aU bG),.pure,.pure,.box [.id,.id]] (bX [0,1,2,6,7,30,31,32])] (.eR o (fw fY 2 2 0 2 rfl ak) (fx fY 2 eC bG) (aD 1 .live aA an) (aD 1 .live eD a7))))
theorem UF {dq cc:Int}{ga j8:b8}{jN jo pt:Int}{aZ:Bool}{aN:List Int}{cJ:Int}{ak:List b8}{an:List Int}{a7:List Bool}{jA:Bool}{jz:List Int}{oS:Bool}{oO:List Int}{gj:Int}{bG:List (List bf)}{r} (h:C2 dq cc ga j8 jN jo pt aZ aN cJ ak an a7 jA jz oS oO gj bG=some r):fW bt 128 5 99 [1,1,0,1,0,0,1,1,0,0,1,1,1,1,0,0] (GZ dq cc ga j8 jN jo pt aZ aN cJ ak an a7 jA jz oS oO) (G8 dq cc ga j8 jN jo pt aZ aN cJ ak an a7 jA jz oS oO) (gj,bG) r:=fZ (fun _=>Uk) h
def G0 (dq cc:Int)(ga:b8)(jN:Int)(aZ:Bool)(aN:List Int)(cJ:Int)(ak:List b8)(an:List Int)(a7:List Bool)(jA:Bool)(jz:List Int):(Int×(List (List bf)))→S:=fun (jo,bG)=>fh [(0,.ref 0 0 0 0),(1,.n .i64 dq),(2,.n .i64 cc),(6,nC 2 0 2 ga),(7,.ref 5 0 0 0),(30,.bx 1 0 0 ak.length),(31,.n .i64 jN),(32,.n .i64 jo)] [[ab.mk 6 [(eX 1 0 0 ak.length aZ aN 3 0 0 an.length cJ 4 0 0 a7.length)] .live],(au 1 (b2 2 0 2) ak),(c7 2 aU bG),(au 1 I an),(au 1 d6 a7),[ab.mk 2 [[.b jA,.isl 1 (jz.map I)]] .live]]
def G9 (dq cc:Int)(ga:b8)(jN:Int)(aZ:Bool)(aN:List Int)(cJ:Int)(ak:List b8)(an:List Int)(a7:List Bool)(jA:Bool)(jz:List Int):(List (List bf))→fp
 | a=>⟨some 0,[(0,.ref 0 0 0 0),(1,.n .i64 dq),(2,.n .i64 cc),(7,.ref 5 0 0 0)],[[ab.mk 6 [(eX 1 0 0 ak.length aZ aN 3 0 0 an.length cJ 4 0 0 a7.length)] .live],(au 1 (b2 2 0 2) ak),(c7 2 aU a),(au 1 I an),(au 1 d6 a7),[ab.mk 2 [[.b jA,.isl 1 (jz.map I)]] .live]]⟩
def w4 (dq cc:Int)(ga:b8)(jN:Int)(aZ:Bool)(aN:List Int)(cJ:Int)(ak:List b8)(an:List Int)(a7:List Bool)(jA:Bool)(jz:List Int)(jo:Int)(bG:List (List bf)):Option ((Int×(List (List bf)))⊕((List (List bf)))) :=
 if (decide (jo<jN))=true then
  if 0≤jo∧jo<(ak.length:Nat) then
  ak[(0+jo.toNat)]? >>= fun aM =>
  if (jo == dq)=true then
   some (.inl (U (jo+(1:Int)),bG))
  else
   aM >>= fun o6 =>
   bG[o6.1]? >>= fun CC =>
   if 0≤cc∧cc<(o6.2:Nat) then
   CC[(0+cc.toNat)]? >>= fun qx =>
   C2 dq cc ga aM jN jo ((o6.2:Nat):Int) aZ aN cJ ak an a7 jA jz qx.db qx.cN 0 bG >>= fun ed =>
   some (.inl (U (jo+(1:Int)),ed))
   else none
  else none
 else
  some (.inr bG)
def C3 (dq cc:Int)(ga:b8)(jN:Int)(aZ:Bool)(aN:List Int)(cJ:Int)(ak:List b8)(an:List Int)(a7:List Bool)(jA:Bool)(jz:List Int)(jo:Int)(bG:List (List bf)):Option ((List (List bf))):=iter (fun w:Int×(List (List bf))=>w4 dq cc ga jN aZ aN cJ ak an a7 jA jz w.1 w.2) (jo,bG)
theorem Ul {dq cc:Int}{ga:b8}{jN:Int}{aZ:Bool}{aN:List Int}{cJ:Int}{ak:List b8}{an:List Int}{a7:List Bool}{jA:Bool}{jz:List Int}{jo:Int}{bG:List (List bf)}:bV (w4 dq cc ga jN aZ aN cJ ak an a7 jA jz jo bG) (fV bt 128 5 99 [1,1,0,1,0,0] (G0 dq cc ga jN aZ aN cJ ak an a7 jA jz (jo,bG)) (G0 dq cc ga jN aZ aN cJ ak an a7 jA jz) (G9 dq cc ga jN aZ aN cJ ak an a7 jA jz)):=by
 unfold w4
 exact .ite (fun o =>
  .bn fun J =>
  .ay fun aM aF =>
  (let t1:List cG:=[(ad 1),.ap true,.aI (bL 2 (.cz ((b2 2 0 2) aM)) 2),(ad 3)];
  have a5:=((.dh o J.1 J.2 (cD (b2 2 0 2) aF)):cW _);
  .ite (fun aJ =>
  .ret (let aL:=di [0,1,2,3,4,5];bQ (t1.append [.ap true,(ad 2),.bm [0,1,2,3,4,5] [.box [.id,.id,.id,.id,.id,.id],.bB (au 1 (b2 2 0 2) ak),.bB (c7 2 aU bG),.pure,.pure,.box [.id,.id]] (bX [0,1,2,6,7,30,31,32])]) (a5.a1 (.eR aJ (fw aL 2 2 0 2 rfl ak) (fx aL 2 eC bG) (aD 1 .live aA an) (aD 1 .live eD a7)))))
  (fun aJ =>
  .ay fun o6 bJ =>
  .ay fun CC c9 =>
  .bn fun da =>
  .ay fun qx eF =>
  .ay fun ed d8 =>
  .ret (let bg:=l2 (iX .live 2 aU bG) lJ c9;let b1:=di [0,1,2,3,4,5,19];let cI:=di [0,1,2,3,4,5];bQ (t1.append [.ap false,.aI (av 2 (aq (.fF 40 (.bx 2 (o6.1+0) 0 o6.2) (.hT (ab.mk 2 (CC.map aU) .live) [])) (aq (.hT (ab.mk 2 (CC.map aU) .live) (aU qx)) (av 2 [])))),.aI (bL 1 (.fF 44 (.bx 2 (o6.1+0) 0 o6.2) (.hT (ab.mk 2 (CC.map aU) .live) [])) 1),.bm [0,1,2,3,4,5,19] [.box [.id,.id,.id,.id,.id,.id],.bB (au 1 (b2 2 0 2) ak),.bB (c7 2 aU bG),.pure,.pure,.box [.id,.id],.box [.id,.id]] (bX [0,1,2,6,7,9,10,30,31,32,45,46]),(G8 dq cc ga aM jN jo ((o6.2:Nat):Int) aZ aN cJ ak an a7 jA jz qx.db qx.cN ed).gL,(ad 2),.bm [0,1,2,3,4,5] [.box [.id,.id,.id,.id,.id,.id],.bB (au 1 (b2 2 0 2) ak),.bB (c7 2 aU ed),.pure,.pure,.box [.id,.id]] (bX [0,1,2,6,7,30,31,32])]) (a5.a1 (.bo aJ (pc (eO:=2) (c:=0) (sz:=2) bJ) bg da.1 da.2 bg (cD aU eF) (pc (eO:=2) (c:=0) (sz:=2) bJ) (.bo bg (fw b1 2 2 0 2 rfl ak) (fx b1 2 eC bG) (aD 1 .live aA an) (aD 1 .live eD a7) (UF d8) (fw cI 2 2 0 2 rfl ak) (fx cI 2 eC ed) (.aH (aD 1 .live aA an) (aD 1 .live eD a7)))))))))
  (fun o =>
  .ret (let eU:=di [0,1,2,3,4,5];bQ [(ad 1),.ap false,.bm [0,1,2,3,4,5] [.box [.id,.id,.id,.id,.id,.id],.bB (au 1 (b2 2 0 2) ak),.bB (c7 2 aU bG),.pure,.pure,.box [.id,.id]] (bX [0,1,2,7])] (.eR o (fw eU 2 2 0 2 rfl ak) (fx eU 2 eC bG) (aD 1 .live aA an) (aD 1 .live eD a7))))
theorem UG {dq cc:Int}{ga:b8}{jN:Int}{aZ:Bool}{aN:List Int}{cJ:Int}{ak:List b8}{an:List Int}{a7:List Bool}{jA:Bool}{jz:List Int}{jo:Int}{bG:List (List bf)}{r} (h:C3 dq cc ga jN aZ aN cJ ak an a7 jA jz jo bG=some r):fW bt 128 5 99 [1,1,0,1,0,0] (G0 dq cc ga jN aZ aN cJ ak an a7 jA jz) (G9 dq cc ga jN aZ aN cJ ak an a7 jA jz) (jo,bG) r:=fZ (fun _=>Ul) h
def G1 (j8:b8)(jJ jK ph:Int)(aZ:Bool)(aN:List Int)(cJ:Int)(ak:List b8)(an:List Int)(a7:List Bool):(Int×(List (List bf)))→S:=fun (nN,bG)=>fh [(14,nC 2 0 2 j8),(107,.bx 1 0 0 ak.length),(108,.n .i64 jJ),(109,.n .i64 jK),(114,.n .i64 ph),(115,.n .i64 nN)] [[ab.mk 6 [(eX 1 0 0 ak.length aZ aN 3 0 0 an.length cJ 4 0 0 a7.length)] .live],(au 1 (b2 2 0 2) ak),(c7 2 aU bG),(au 1 I an),(au 1 d6 a7)]
def Ha (j8:b8)(jJ jK ph:Int)(aZ:Bool)(aN:List Int)(cJ:Int)(ak:List b8)(an:List Int)(a7:List Bool):(List (List bf))→fp
 | a=>⟨some 6,[(107,.bx 1 0 0 ak.length),(108,.n .i64 jJ),(109,.n .i64 jK)],[[ab.mk 6 [(eX 1 0 0 ak.length aZ aN 3 0 0 an.length cJ 4 0 0 a7.length)] .live],(au 1 (b2 2 0 2) ak),(c7 2 aU a),(au 1 I an),(au 1 d6 a7)]⟩
def w5 (j8:b8)(jJ jK ph:Int)(aZ:Bool)(aN:List Int)(cJ:Int)(ak:List b8)(an:List Int)(a7:List Bool)(nN:Int)(bG:List (List bf)):Option ((Int×(List (List bf)))⊕((List (List bf)))) :=
 if (decide (nN<ph))=true then
  j8 >>= fun eo =>
  bG[eo.1]? >>= fun j2 =>
  if 0≤nN∧nN<(eo.2:Nat) then
  j2[(0+nN.toNat)]? >>= fun gD =>
  p9 gD >>= fun ba =>
  some (.inl (U (nN+(1:Int)),bG.set eo.1 (j2.set (0+nN.toNat) ba)))
  else none
 else
  some (.inr bG)
def C4 (j8:b8)(jJ jK ph:Int)(aZ:Bool)(aN:List Int)(cJ:Int)(ak:List b8)(an:List Int)(a7:List Bool)(nN:Int)(bG:List (List bf)):Option ((List (List bf))):=iter (fun w:Int×(List (List bf))=>w5 j8 jJ jK ph aZ aN cJ ak an a7 w.1 w.2) (nN,bG)
theorem Um {j8:b8}{jJ jK ph:Int}{aZ:Bool}{aN:List Int}{cJ:Int}{ak:List b8}{an:List Int}{a7:List Bool}{nN:Int}{bG:List (List bf)}:bV (w5 j8 jJ jK ph aZ aN cJ ak an a7 nN bG) (fV bt 128 5 99 [1,1,1,1,1,1,1,1,0,0,1,1,0,0,1,1,0,0] (G1 j8 jJ jK ph aZ aN cJ ak an a7 (nN,bG)) (G1 j8 jJ jK ph aZ aN cJ ak an a7) (Ha j8 jJ jK ph aZ aN cJ ak an a7)):=by
 unfold w5
 exact .ite (fun o =>
  .ay fun eo af =>
  .ay fun j2 aJ =>
  .bn fun bp =>
  .ay fun gD bu =>
  .ay fun ba da =>
  .ret (let aL:=l2 (iX .live 2 aU bG) lJ aJ;bQ [(ad 1),.ap true,(ad 2),.aI (av 4 (aq (.fF 120 (.bx 2 (eo.1+0) 0 eo.2) (.hT (ab.mk 2 (j2.map aU) .live) [])) (aq (.hT (ab.mk 2 (j2.map aU) .live) (aU gD)) (aq (bC 1 (.agg (aU ba)) false) (aq (.fF 118 (.bx 2 (eo.1+0) 0 eo.2) (.hT (ab.mk 2 (j2.map aU) .live) [])) (aq (.hT (ab.mk 2 (j2.map aU) .live) (aU gD)) [])))))),(ad 2),.bm [0,1,2,3,4] [.box [.id,.id,.id,.id,.id,.id],.bB (au 1 (b2 2 0 2) ak),.bB (c7 2 aU (bG.set eo.1 (j2.set (0+nN.toNat) ba))),.pure,.pure] (bX [14,107,108,109,114,115])] (.bo o (pc (eO:=2) (c:=0) (sz:=2) af) aL bp.1 bp.2 aL (cD aU bu) (C1 ba da) (.bo (pc (eO:=2) (c:=0) (sz:=2) af) aL bp.1 bp.2 aL (cD aU bu) (fw (di [0,1,2,3,4]) 2 2 0 2 rfl ak) (qP (cg:=(di [0,1,2,3,4])) (so (iX .live 2 aU bG) eo.1 (sl (ej aU j2) (0+nN.toNat) ba (rfl:(setCells (aU gD) 0 (aU ba))=aU ba))) (pS eC)) (.aH (aD 1 .live aA an) (aD 1 .live eD a7))))))
  (fun o =>
  .ret (bQ [(ad 1),.ap false,.bm [0,1,2,3,4] [.box [.id,.id,.id,.id,.id,.id],.bB (au 1 (b2 2 0 2) ak),.bB (c7 2 aU bG),.pure,.pure] (bX [107,108,109])] (.eR o (fw (di [0,1,2,3,4]) 2 2 0 2 rfl ak) (fx (di [0,1,2,3,4]) 2 eC bG) (aD 1 .live aA an) (aD 1 .live eD a7))))
theorem UH {j8:b8}{jJ jK ph:Int}{aZ:Bool}{aN:List Int}{cJ:Int}{ak:List b8}{an:List Int}{a7:List Bool}{nN:Int}{bG:List (List bf)}{r} (h:C4 j8 jJ jK ph aZ aN cJ ak an a7 nN bG=some r):fW bt 128 5 99 [1,1,1,1,1,1,1,1,0,0,1,1,0,0,1,1,0,0] (G1 j8 jJ jK ph aZ aN cJ ak an a7) (Ha j8 jJ jK ph aZ aN cJ ak an a7) (nN,bG) r:=fZ (fun _=>Um) h
def G2 (jJ:Int)(aZ:Bool)(aN:List Int)(cJ:Int)(ak:List b8)(an:List Int)(a7:List Bool):(Int×(List (List bf)))→S:=fun (jK,bG)=>fh [(107,.bx 1 0 0 ak.length),(108,.n .i64 jJ),(109,.n .i64 jK)] [[ab.mk 6 [(eX 1 0 0 ak.length aZ aN 3 0 0 an.length cJ 4 0 0 a7.length)] .live],(au 1 (b2 2 0 2) ak),(c7 2 aU bG),(au 1 I an),(au 1 d6 a7)]
def Hb (jJ:Int)(aZ:Bool)(aN:List Int)(cJ:Int)(ak:List b8)(an:List Int)(a7:List Bool):(List (List bf))→fp
 | a=>⟨some 4,[],[[ab.mk 6 [(eX 1 0 0 ak.length aZ aN 3 0 0 an.length cJ 4 0 0 a7.length)] .live],(au 1 (b2 2 0 2) ak),(c7 2 aU a),(au 1 I an),(au 1 d6 a7)]⟩
def w6 (jJ:Int)(aZ:Bool)(aN:List Int)(cJ:Int)(ak:List b8)(an:List Int)(a7:List Bool)(jK:Int)(bG:List (List bf)):Option ((Int×(List (List bf)))⊕((List (List bf)))) :=
 if (decide (jK<jJ))=true then
  if 0≤jK∧jK<(ak.length:Nat) then
  ak[(0+jK.toNat)]? >>= fun aM =>
  aM >>= fun ml =>
  bG[ml.1]? >>= fun lW =>
  C4 aM jJ jK ((ml.2:Nat):Int) aZ aN cJ ak an a7 0 bG >>= fun ba =>
  some (.inl (U (jK+(1:Int)),ba))
  else none
 else
  some (.inr bG)
def zL (jJ:Int)(aZ:Bool)(aN:List Int)(cJ:Int)(ak:List b8)(an:List Int)(a7:List Bool)(jK:Int)(bG:List (List bf)):Option ((List (List bf))):=iter (fun w:Int×(List (List bf))=>w6 jJ aZ aN cJ ak an a7 w.1 w.2) (jK,bG)
theorem Un {jJ:Int}{aZ:Bool}{aN:List Int}{cJ:Int}{ak:List b8}{an:List Int}{a7:List Bool}{jK:Int}{bG:List (List bf)}:bV (w6 jJ aZ aN cJ ak an a7 jK bG) (fV bt 128 5 99 [1,1,1,1,1,1,1,1,0,0] (G2 jJ aZ aN cJ ak an a7 (jK,bG)) (G2 jJ aZ aN cJ ak an a7) (Hb jJ aZ aN cJ ak an a7)):=by
 unfold w6
 exact .ite (fun o =>
  .bn fun J =>
  .ay fun aM aF =>
  .ay fun ml bp =>
  .ay fun lW bu =>
  .ay fun ba da =>
  .ret (let aL:=di [0,1,2,3,4];let bg:=fw aL 2 2 0 2 rfl ak;bQ [(ad 1),.ap true,.aI (bL 1 (.cz ((b2 2 0 2) aM)) 1),.aI (bL 1 (.fF 113 (.bx 2 (ml.1+0) 0 ml.2) (.hT (ab.mk 2 (lW.map aU) .live) [])) 1),.bm [0,1,2,3,4] [.box [.id,.id,.id,.id,.id,.id],.bB (au 1 (b2 2 0 2) ak),.bB (c7 2 aU bG),.pure,.pure] (bX [14,107,108,109,114,115]),(Ha aM jJ jK ((ml.2:Nat):Int) aZ aN cJ ak an a7 ba).gL,(ad 2),.bm [0,1,2,3,4] [.box [.id,.id,.id,.id,.id,.id],.bB (au 1 (b2 2 0 2) ak),.bB (c7 2 aU ba),.pure,.pure] (bX [107,108,109])] (.bo o J.1 J.2 (cD (b2 2 0 2) aF) (pc (eO:=2) (c:=0) (sz:=2) bp) (l2 (iX .live 2 aU bG) lJ bu) bg (fx aL 2 eC bG) (.fC (aD 1 .live aA an) (aD 1 .live eD a7) (UH da) bg (fx aL 2 eC ba) (aD 1 .live aA an) (aD 1 .live eD a7)))))
  (fun o =>
  .ret (bQ [(ad 1),.ap false,.bm [0,1,2,3,4] [.box [.id,.id,.id,.id,.id,.id],.bB (au 1 (b2 2 0 2) ak),.bB (c7 2 aU bG),.pure,.pure] []] (.eR o (fw (di [0,1,2,3,4]) 2 2 0 2 rfl ak) (fx (di [0,1,2,3,4]) 2 eC bG) (aD 1 .live aA an) (aD 1 .live eD a7))))
theorem UI {jJ:Int}{aZ:Bool}{aN:List Int}{cJ:Int}{ak:List b8}{an:List Int}{a7:List Bool}{jK:Int}{bG:List (List bf)}{r} (h:zL jJ aZ aN cJ ak an a7 jK bG=some r):fW bt 128 5 99 [1,1,1,1,1,1,1,1,0,0] (G2 jJ aZ aN cJ ak an a7) (Hb jJ aZ aN cJ ak an a7) (jK,bG) r:=fZ (fun _=>Un) h
def xq (dq cc:Int)(b5:Bool)(cC:List Int)(e7:Int)(b6:List b8)(me:List (List bf))(dc:List Int)(hY:List Bool):Option (Bool×(List Int)×(List (List bf))×(List Int)) :=
 if 0≤dq∧dq<(b6.length:Nat) then
 b6[(0+dq.toNat)]? >>= fun fo =>
 fo >>= fun oG =>
 me[oG.1]? >>= fun zD =>
 if 0≤cc∧cc<(oG.2:Nat) then
 zD[(0+cc.toNat)]? >>= fun gE =>
 C3 dq cc fo ((b6.length:Nat):Int) b5 cC e7 b6 dc hY gE.db gE.cN 0 me >>= fun cE =>
 if 0≤dq∧dq<(dc.length:Nat) then
 if (0+dq.toNat)<dc.length then
 o9 gE >>= fun fN =>
 if (decide ((0:Int)<fN))=true then
  some (gE.db,gE.cN,cE,dc.set (0+dq.toNat) cc)
 else
  p9 gE >>= fun eK =>
  zL ((b6.length:Nat):Int) eK.db eK.cN e7 b6 (dc.set (0+dq.toNat) cc) hY 0 cE >>= fun iJ =>
  some (eK.db,eK.cN,iJ,dc.set (0+dq.toNat) cc)
 else none
 else none
 else none
 else none
theorem Nq {dq cc:Int}{b5:Bool}{cC:List Int}{e7:Int}{b6:List b8}{me:List (List bf)}{dc:List Int}{hY:List Bool}:bV (xq dq cc b5 cC e7 b6 me dc hY) (fun a=>Con bt 99 [.ref 0 0 0 0,.n .i64 dq,.n .i64 cc] [[ab.mk 6 [(eX 1 0 0 b6.length b5 cC 3 0 0 dc.length e7 4 0 0 hY.length)] .live],(au 1 (b2 2 0 2) b6),(c7 2 aU me),(au 1 I dc),(au 1 d6 hY)] (.cY []) [[ab.mk 6 [(eX 1 0 0 b6.length a.1 a.2.1 3 0 0 a.2.2.2.length e7 4 0 0 hY.length)] .live],(au 1 (b2 2 0 2) b6),(c7 2 aU a.2.2.1),(au 1 I a.2.2.2),(au 1 d6 hY)]):=by
 unfold xq
 exact .bn fun o =>
  .ay fun fo af =>
  .ay fun oG aJ =>
  .ay fun zD bJ =>
  .bn fun bu =>
  .ay fun gE da =>
  .ay fun cE eF =>
  .bn fun d4 =>
  .bn fun d8 =>
  .ay fun fN fT =>
  (let eU:=l2 (iX .live 2 aU me) lJ bJ;let gC:=di [0,1,2,3,4,17];let t1:List cG:=[.aI (bL 6 (.cz ((b2 2 0 2) fo)) 1),.aI (av 2 (aq (.fF 23 (.bx 2 (oG.1+0) 0 oG.2) (.hT (ab.mk 2 (zD.map aU) .live) [])) (aq (.hT (ab.mk 2 (zD.map aU) .live) (aU gE)) (av 2 [])))),(ad 6),.bm [0,1,2,3,4,17] [.box [.id,.id,.id,.id,.id,.id],.bB (au 1 (b2 2 0 2) b6),.bB (c7 2 aU me),.pure,.pure,.box [.id,.id]] (bX [0,1,2,6,7,30,31,32]),(G9 dq cc fo ((b6.length:Nat):Int) b5 cC e7 b6 dc hY gE.db gE.cN cE).gL,(ad 5),.aI (av 7 (aq .c4 [])),.aI (bL 1 (bC 1 (.n .i64 fN) true) 1)];
  have a5:=((.bo o.1 o.2 (cD (b2 2 0 2) af) (pc (eO:=2) (c:=0) (sz:=2) aJ) eU bu.1 bu.2 eU (.bo (cD aU da) (fw gC 2 2 0 2 rfl b6) (fx gC 2 eC me) (aD 1 .live aA dc) (aD 1 .live eD hY) (UG eF) d4.1 d4.2 (.dh (hB I d8) (g8 1) (sM fN fT) (cl.n .i64 fN)))):cW _);
  .ite (fun g7 =>
  .ret (h2 (t1.append [.ap true]) [0,1,2,3,4] [.bB [ab.mk 6 [(eX 1 0 0 b6.length gE.db gE.cN 3 0 0 ((dc.set (0+dq.toNat) cc).length) e7 4 0 0 hY.length)] .live],.bB (au 1 (b2 2 0 2) b6),.bB (c7 2 aU cE),.dY (au 1 I (dc.set (0+dq.toNat) cc)),.pure] (a5.a1 (.fC g7 (fL (show ab.mk 6 [(eX 1 0 0 b6.length gE.db gE.cN 3 0 0 ((dc.set (0+dq.toNat) cc).length) e7 4 0 0 hY.length)] .live=kx (di [0,1,2,3,4]) (ab.mk 6 [(eX 1 0 0 b6.length gE.db gE.cN 3 0 0 dc.length e7 4 0 0 hY.length)] .live) from (congrArg (fun aeK=>ab.mk 6 [(eX 1 0 0 b6.length gE.db gE.cN 3 0 0 aeK e7 4 0 0 hY.length)] .live) (hg (fP dc) (0+dq.toNat) cc).symm)) l0) (fw (di [0,1,2,3,4]) 2 2 0 2 rfl b6) (fx (di [0,1,2,3,4]) 2 eC cE) (eB 1 .live (gi (ej I dc) (0+dq.toNat) cc)) (aD 1 .live aA (dc.set (0+dq.toNat) cc)) (aD 1 .live eD hY)))))
  (fun g7 =>
  .ay fun eK j0 =>
  .ay fun iJ jS =>
  .ret (let aL:=eX 1 0 0 b6.length eK.db eK.cN 3 0 0 ((dc.set (0+dq.toNat) cc).length) e7 4 0 0 hY.length;let bg:=di [0,1,2,3,4];let b1:=aD 1 .live aA (dc.set (0+dq.toNat) cc);let cI:=fw bg 2 2 0 2 rfl b6;h2 (t1.append [.ap false,.aI (bL 2 (bC 1 (.agg (aU eK)) false) 3),(ad 6),.bm [0,1,2,3,4] [.box [.id,.id,.id,.len ((dc.set (0+dq.toNat) cc).length),.id,.id],.bB (au 1 (b2 2 0 2) b6),.bB (c7 2 aU cE),.dY (au 1 I (dc.set (0+dq.toNat) cc)),.pure] (bX [107,108,109]),(Hb ((b6.length:Nat):Int) eK.db eK.cN e7 b6 (dc.set (0+dq.toNat) cc) hY iJ).gL]) [0,1,2,3,4] [.bB [ab.mk 6 [aL] .live],.bB (au 1 (b2 2 0 2) b6),.bB (c7 2 aU iJ),.pure,.pure] (a5.a1 (.bo g7 (C1 eK j0) (hg (fP dc) (0+dq.toNat) cc) cI (fx bg 2 eC cE) (eB 1 .live (gi (ej I dc) (0+dq.toNat) cc)) b1 (aD 1 .live eD hY) (.fG (UI jS) (hr bg 6 [aL] [aL] rfl) cI (fx bg 2 eC iJ) b1 (aD 1 .live eD hY)))))))
def GM (cw:Int)(aZ:Bool)(aN:List Int)(ak:List b8)(bG:List (List bf))(an:List Int)(a7:List Bool)(bD:List Int):Int→S:=fun cF=>fh [(0,.ref 0 0 0 0),(1,.bx 5 0 0 bD.length),(5,.b false),(13,.n .i64 cw),(14,.n .i64 cF)] [[ab.mk 6 [(eX 1 0 0 ak.length aZ aN 3 0 0 an.length cw 4 0 0 a7.length)] .live],(au 1 (b2 2 0 2) ak),(c7 2 aU bG),(au 1 I an),(au 1 d6 a7),(au 1 I bD)]
def CT (cw:Int)(aZ:Bool)(aN:List Int)(ak:List b8)(bG:List (List bf))(an:List Int)(a7:List Bool)(bD:List Int):((Bool×Bool×(List Int)×(List (List bf))×(List Int))⊕(Unit))→fp
 | .inl a=>⟨some 2,[(0,.ref 0 0 0 0),(1,.bx 5 0 0 bD.length),(5,.b a.1)],[[ab.mk 6 [(eX 1 0 0 ak.length a.2.1 a.2.2.1 3 0 0 a.2.2.2.2.length cw 4 0 0 a7.length)] .live],(au 1 (b2 2 0 2) ak),(c7 2 aU a.2.2.2.1),(au 1 I a.2.2.2.2),(au 1 d6 a7),(au 1 I bD)]⟩
 | .inr a=>⟨none,[(4,.b false)],[[ab.mk 6 [(eX 1 0 0 ak.length aZ aN 3 0 0 an.length cw 4 0 0 a7.length)] .live],(au 1 (b2 2 0 2) ak),(c7 2 aU bG),(au 1 I an),(au 1 d6 a7),(au 1 I bD)]⟩
def wY (cw:Int)(aZ:Bool)(aN:List Int)(ak:List b8)(bG:List (List bf))(an:List Int)(a7:List Bool)(bD:List Int)(cF:Int):Option ((Int)⊕((Bool×Bool×(List Int)×(List (List bf))×(List Int))⊕(Unit))) :=
 if (decide (cF<cw))=true then
  if 0≤cF∧cF<(a7.length:Nat) then
  a7[(0+cF.toNat)]? >>= fun aM =>
  if aM=true then
   yc an cF >>= fun bI =>
   if bI=true then
    some (.inl (U (cF+(1:Int))))
   else
    if ak.all (v8 bG)=true then
    xN (⟨ak.map (mW bG),(⟨aZ,aN⟩:bf),an,cw,a7⟩:rB) bD cF >>= fun fb =>
    if (decide (fb≤(0:Int)))=true then
     some (.inl (U (cF+(1:Int))))
    else
     zO (⟨ak.map (mW bG),(⟨aZ,aN⟩:bf),an,cw,a7⟩:rB) cF >>= fun ed =>
     if (decide (ed<(0:Int)))=true then
      some (.inr (.inr ()))
     else
      xq ed cF aZ aN cw ak bG an a7 >>= fun df =>
      some (.inr (.inl (true,df.1,df.2.1,df.2.2.1,df.2.2.2)))
    else none
  else
   some (.inl (U (cF+(1:Int))))
  else none
 else
  some (.inr (.inl (false,aZ,aN,bG,an)))
def xe (cw:Int)(aZ:Bool)(aN:List Int)(ak:List b8)(bG:List (List bf))(an:List Int)(a7:List Bool)(bD:List Int)(cF:Int):Option ((Bool×Bool×(List Int)×(List (List bf))×(List Int))⊕(Unit)):=iter (fun w:Int=>wY cw aZ aN ak bG an a7 bD w) cF
theorem T8 {cw:Int}{aZ:Bool}{aN:List Int}{ak:List b8}{bG:List (List bf)}{an:List Int}{a7:List Bool}{bD:List Int}{cF:Int}:bV (wY cw aZ aN ak bG an a7 bD cF) (fV bt 87 6 65 [1,0,1,0,0,1,0,1,1,0,0] (GM cw aZ aN ak bG an a7 bD cF) (GM cw aZ aN ak bG an a7 bD) (CT cw aZ aN ak bG an a7 bD)):=by
 unfold wY
 exact .ite (fun o =>
  .bn fun J =>
  .ay fun aM aF =>
  (let t1:List cG:=[(ad 1),.ap true,(ad 2)];
  .ite (fun aJ =>
  .ay fun bI bJ =>
  (have a5:=((.bo o J.1 J.2 (cD d6 aF) (d7 aJ) (d7 aJ) (d7 aJ) (d7 aJ) (.h6 (d7 aJ) (d7 aJ) (ki I an) (jw I an) (fs aA an) (Oe bI bJ) (cl.b bI) (d7 aJ))):cW _);
  .ite (fun bu =>
  .ret (let aL:=di [0,1,2,3,4,5];bQ (t1.append [.aI (av 6 (aq (.cz (d6 aM)) (av 7 (aq (.call {ac:=[.bE (.ck (.gv (an.map I))),ii],r:= .b bI,dr:=true,dZ:=[3]}) (aq (.ap false) (av 1 (dm 5 (aq (.ap true) [])))))))),.ap true,(ad 2),.bm [0,1,2,3,4,5] [.box [.id,.id,.id,.id,.id,.id],.bB (au 1 (b2 2 0 2) ak),.bB (c7 2 aU bG),.pure,.pure,.pure] (bX [0,1,5,13,14])]) (a5.a1 (.bo bu bu bu bu bu bu cV (fw aL 2 2 0 2 rfl ak) (.dh (fx aL 2 eC bG) (aD 1 .live aA an) (aD 1 .live eD a7) (aD 1 .live aA bD))))))
  (fun bu =>
  .bn fun c9 =>
  .ay fun fb c8 =>
  (let t3:List cG:=t1.append [.aI (av 6 (aq (.cz (d6 aM)) (av 7 (aq (.call {ac:=[.bE (.ck (.gv (an.map I))),ii],r:= .b bI,dr:=true,dZ:=[3]}) (aq (.ap false) (av 4 (aq (.call {ac:=[.bE (.ptr [.view 2 (ab.mk 1 (ak.map (b2 2 0 2)) .live) ((ak.map (mW bG)).map (fi 2 aU)),.id,.id,.gv (an.map I),.id,.gv (a7.map d6)]),.bE (.ck (.gv (bD.map I))),ii],r:= .n .i64 fb,dr:=true,dZ:=[0,1,2,3,4,5]}) (av 1 (aq (.ap false) [])))))))))];
  have fI:=a5.a1 (.bo bu bu bu bu (rfl:de (some (au 1 (b2 2 0 2) ak)) 0=some (ab.mk 1 (ak.map (b2 2 0 2)) .live)) (rfl:_=true) (jw (b2 2 0 2) ak) (fs (pb (sz:=2) sQ) (ak.map (mW bG))) (.bo (EO (eO:=2) (kd:=[]++(c7 2 aU bG)) (bT:=mB) (sz:=1) (g:=(fi 2 aU)) (ej (b2 2 0 2) ak) (fun _=>rfl) (fun x aa=>(LQ (eO:=2) (c:=0) (bT:=mB) (ud:=[]) (iX .live 2 aU bG) sQ rfl lJ rfl (KB c9 x aa))) (fP ak)) (ki I an) (jw I an) (fs aA an) (ki d6 a7) (jw d6 a7) (fs eD a7) (j6 (I1 (⟨ak.map (mW bG),(⟨aZ,aN⟩:bf),an,cw,a7⟩:rB)):g9 [[.isl 1 ((ak.map (mW bG)).map (fi 2 aU)),.b aZ,.isl 1 (aN.map I),.isl 1 (an.map I),.n .i64 cw,.isl 1 (a7.map d6)]]) (.fC (ki I bD) (jw I bD) (fs aA bD) (Nz fb c8) (cl.n .i64 fb) bu bu)));
  .ite (fun eF =>
  .ret (let bg:=di [0,1,2,3,4,5];bQ (t3.append [.ap true,(ad 2),.bm [0,1,2,3,4,5] [.box [.id,.id,.id,.id,.id,.id],.bB (au 1 (b2 2 0 2) ak),.bB (c7 2 aU bG),.pure,.pure,.pure] (bX [0,1,5,13,14])]) (fI.a1 (.fG eF (fw bg 2 2 0 2 rfl ak) (fx bg 2 eC bG) (aD 1 .live aA an) (aD 1 .live eD a7) (aD 1 .live aA bD)))))
  (fun eF =>
  .ay fun ed d8 =>
  (let t5:List cG:=t3.append [.ap false,.aI (bL 2 (.call {ac:=[.bE (.ptr [.view 2 (ab.mk 1 (ak.map (b2 2 0 2)) .live) ((ak.map (mW bG)).map (fi 2 aU)),.id,.id,.gv (an.map I),.id,.gv (a7.map d6)]),ii],r:= .n .i64 ed,dr:=true,dZ:=[0,1,2,3,4]}) 1),(ad 2)];
  have nG:=fI.a1 (.bo eF (rfl:de (some (au 1 (b2 2 0 2) ak)) 0=some (ab.mk 1 (ak.map (b2 2 0 2)) .live)) (rfl:_=true) (jw (b2 2 0 2) ak) (fs (pb (sz:=2) sQ) (ak.map (mW bG))) (EO (eO:=2) (kd:=[]++(c7 2 aU bG)) (bT:=mB) (sz:=1) (g:=(fi 2 aU)) (ej (b2 2 0 2) ak) (fun _=>rfl) (fun x aa=>(LQ (eO:=2) (c:=0) (bT:=mB) (ud:=[]) (iX .live 2 aU bG) sQ rfl lJ rfl (KB c9 x aa))) (fP ak)) (ki I an) (jw I an) (.fC (fs aA an) (ki d6 a7) (jw d6 a7) (fs eD a7) (j6 (I1 (⟨ak.map (mW bG),(⟨aZ,aN⟩:bf),an,cw,a7⟩:rB)):g9 [[.isl 1 ((ak.map (mW bG)).map (fi 2 aU)),.b aZ,.isl 1 (aN.map I),.isl 1 (an.map I),.n .i64 cw,.isl 1 (a7.map d6)]]) (U3 ed d8) (cl.n .i64 ed)));
  .ite (fun gK =>
  .ret (let b1:=di [0,1,2,3,4,5];bQ (t5.append [.ap true,(ad 1),.bm [0,1,2,3,4,5] [.box [.id,.id,.id,.id,.id,.id],.bB (au 1 (b2 2 0 2) ak),.bB (c7 2 aU bG),.pure,.pure,.pure] (bX [4])]) (nG.a1 (.fG gK (fw b1 2 2 0 2 rfl ak) (fx b1 2 eC bG) (aD 1 .live aA an) (aD 1 .live eD a7) (aD 1 .live aA bD)))))
  (fun gK =>
  .ay fun df g7 =>
  .ret (let cI:=eX 1 0 0 ak.length df.1 df.2.1 3 0 0 df.2.2.2.length cw 4 0 0 a7.length;let eU:=eX 1 0 0 ak.length aZ aN 3 0 0 an.length cw 4 0 0 a7.length;let gC:=au 1 (b2 2 0 2) ak;let hq:=c7 2 aU df.2.2.1;let fY:=nE [0,1,2,3,4];let ic:=hR [0,1,2,3,4];let jh:=hi 1 (ak.map (b2 2 0 2));let k7:=di [0,1,2,3,4,5];bQ (t5.append [.ap false,.aI (av 3 (aq (.call {aO:=(ln [0,1,2,3,4]),cu:=[.bB [ab.mk 6 [eU] .live],.bB gC,.bB (c7 2 aU bG),.pure,.pure],ac:=[ii,ii,ii],r:= .cY [],dg:=[[ab.mk 6 [cI] .live],gC,hq,(au 1 I df.2.2.2),(au 1 d6 a7)],eL:=ii,fq:=[.bB [ab.mk 6 [cI] .live],.bB gC,.bB hq,.pure,.pure],dZ:=[0,1,2,3,4],dr:=false}) [])),(ad 1),.bm [0,1,2,3,4,5] [.box [.id,.id,.id,.id,.id,.id],.bB gC,.bB hq,.pure,.pure,.pure] (bX [0,1,5])]) (nG.a1 (.bo gK (hr fY 6 [eU] [eU] rfl) (hi 6 [eU]) (fw fY 2 2 0 2 rfl ak) jh (fx fY 2 eC bG) (rq 2 aU bG) (du 1 aA an) (.bo (du 1 eD a7) (hr ic 6 [cI] [cI] rfl) (hi 6 [cI]) (fw ic 2 2 0 2 rfl ak) jh (fx ic 2 eC df.2.2.1) (rq 2 aU df.2.2.1) (du 1 aA df.2.2.2) (.fC (du 1 eD a7) (Nq df g7) (fw k7 2 2 0 2 rfl ak) (fx k7 2 eC df.2.2.1) (aD 1 .live aA df.2.2.2) (aD 1 .live eD a7) (aD 1 .live aA bD)))))))))))))
  (fun aJ =>
  .ret (let k8:=di [0,1,2,3,4,5];bQ (t1.append [.aI (av 6 (aq (.cz (d6 aM)) (av 2 (dm 6 (aq (.ap true) (av 1 (dm 5 (av 1 [])))))))),.ap true,(ad 2),.bm [0,1,2,3,4,5] [.box [.id,.id,.id,.id,.id,.id],.bB (au 1 (b2 2 0 2) ak),.bB (c7 2 aU bG),.pure,.pure,.pure] (bX [0,1,5,13,14])]) (.bo o J.1 J.2 (cD d6 aF) (ee aJ) (ee aJ) (ee aJ) (ee aJ) (.bo (ee aJ) (ee aJ) (ee aJ) cV cV cV cV cV (.fG cV (fw k8 2 2 0 2 rfl ak) (fx k8 2 eC bG) (aD 1 .live aA an) (aD 1 .live eD a7) (aD 1 .live aA bD))))))))
  (fun o =>
  .ret (let nu:=di [0,1,2,3,4,5];bQ [(ad 1),.ap false,.bm [0,1,2,3,4,5] [.box [.id,.id,.id,.id,.id,.id],.bB (au 1 (b2 2 0 2) ak),.bB (c7 2 aU bG),.pure,.pure,.pure] (bX [0,1,5])] (.fG o (fw nu 2 2 0 2 rfl ak) (fx nu 2 eC bG) (aD 1 .live aA an) (aD 1 .live eD a7) (aD 1 .live aA bD))))
theorem Ng {cw:Int}{aZ:Bool}{aN:List Int}{ak:List b8}{bG:List (List bf)}{an:List Int}{a7:List Bool}{bD:List Int}{cF:Int}{r} (h:xe cw aZ aN ak bG an a7 bD cF=some r):fW bt 87 6 65 [1,0,1,0,0,1,0,1,1,0,0] (GM cw aZ aN ak bG an a7 bD) (CT cw aZ aN ak bG an a7 bD) cF r:=fZ (fun _=>T8) h
def GN (cJ:Int)(ak:List b8)(a7:List Bool)(bD:List Int):(Bool×Bool×(List Int)×(List (List bf))×(List Int))→S:=fun (rE,aZ,aN,bG,an)=>fh [(0,.ref 0 0 0 0),(1,.bx 5 0 0 bD.length),(5,.b rE)] [[ab.mk 6 [(eX 1 0 0 ak.length aZ aN 3 0 0 an.length cJ 4 0 0 a7.length)] .live],(au 1 (b2 2 0 2) ak),(c7 2 aU bG),(au 1 I an),(au 1 d6 a7),(au 1 I bD)]
def CU (cJ:Int)(ak:List b8)(a7:List Bool)(bD:List Int):((Bool×(List Int)×(List (List bf))×(List Int))⊕(Bool×(List Int)×(List (List bf))×(List Int)))→fp
 | .inl a=>⟨some 0,[(0,.ref 0 0 0 0),(1,.bx 5 0 0 bD.length)],[[ab.mk 6 [(eX 1 0 0 ak.length a.1 a.2.1 3 0 0 a.2.2.2.length cJ 4 0 0 a7.length)] .live],(au 1 (b2 2 0 2) ak),(c7 2 aU a.2.2.1),(au 1 I a.2.2.2),(au 1 d6 a7),(au 1 I bD)]⟩
 | .inr a=>⟨none,[(4,.b false)],[[ab.mk 6 [(eX 1 0 0 ak.length a.1 a.2.1 3 0 0 a.2.2.2.length cJ 4 0 0 a7.length)] .live],(au 1 (b2 2 0 2) ak),(c7 2 aU a.2.2.1),(au 1 I a.2.2.2),(au 1 d6 a7),(au 1 I bD)]⟩
def uL (cJ:Int)(ak:List b8)(a7:List Bool)(bD:List Int)(rE aZ:Bool)(aN:List Int)(bG:List (List bf))(an:List Int):Option ((Bool×Bool×(List Int)×(List (List bf))×(List Int))⊕((Bool×(List Int)×(List (List bf))×(List Int))⊕(Bool×(List Int)×(List (List bf))×(List Int)))) :=
 if rE=true then
  xe cJ aZ aN ak bG an a7 bD 0 >>= fun bq =>
  match bq with
  | .inl gH=>(some (.inl (gH.1,gH.2.1,gH.2.2.1,gH.2.2.2.1,gH.2.2.2.2)))
  | .inr gH=>(some (.inr (.inr (aZ,aN,bG,an))))
 else
  some (.inr (.inl (aZ,aN,bG,an)))
def CY (cJ:Int)(ak:List b8)(a7:List Bool)(bD:List Int)(rE aZ:Bool)(aN:List Int)(bG:List (List bf))(an:List Int):Option ((Bool×(List Int)×(List (List bf))×(List Int))⊕(Bool×(List Int)×(List (List bf))×(List Int))):=iter (fun w:Bool×Bool×(List Int)×(List (List bf))×(List Int)=>uL cJ ak a7 bD w.1 w.2.1 w.2.2.1 w.2.2.2.1 w.2.2.2.2) (rE,aZ,aN,bG,an)
theorem T9 {cJ:Int}{ak:List b8}{a7:List Bool}{bD:List Int}{rE aZ:Bool}{aN:List Int}{bG:List (List bf)}{an:List Int}:bV (uL cJ ak a7 bD rE aZ aN bG an) (fV bt 87 6 65 [1,0,1,0,0] (GN cJ ak a7 bD (rE,aZ,aN,bG,an)) (GN cJ ak a7 bD) (CU cJ ak a7 bD)):=by
 unfold uL
 exact .ite (fun o =>
  .ay fun bq af =>
  (let cI:=di [0,1,2,3,4,5];let t1:List cG:=[(ad 1),.ap true,(ad 1),(ad 5),.bm [0,1,2,3,4,5] [.box [.id,.id,.id,.id,.id,.id],.bB (au 1 (b2 2 0 2) ak),.bB (c7 2 aU bG),.pure,.pure,.pure] (bX [0,1,5,13,14])];
  have a5:=((.fG o (fw cI 2 2 0 2 rfl ak) (fx cI 2 eC bG) (aD 1 .live aA an) (aD 1 .live eD a7) (aD 1 .live aA bD)):cW _);
  (by
  rcases bq with gH|gH
  ·exact (.ret (let aL:=di [0,1,2,3,4,5];bQ (t1.append [(CT cJ aZ aN ak bG an a7 bD (.inl gH)).gL,.bm [0,1,2,3,4,5] [.box [.id,.id,.id,.id,.id,.id],.bB (au 1 (b2 2 0 2) ak),.bB (c7 2 aU gH.2.2.2.1),.pure,.pure,.pure] (bX [0,1,5])]) (a5.a1 (.fG (Ng af) (fw aL 2 2 0 2 rfl ak) (fx aL 2 eC gH.2.2.2.1) (aD 1 .live aA gH.2.2.2.2) (aD 1 .live eD a7) (aD 1 .live aA bD)))))
  ·exact (.ret (let bg:=di [0,1,2,3,4,5];bQ (t1.append [(CT cJ aZ aN ak bG an a7 bD (.inr gH)).gL,.bm [0,1,2,3,4,5] [.box [.id,.id,.id,.id,.id,.id],.bB (au 1 (b2 2 0 2) ak),.bB (c7 2 aU bG),.pure,.pure,.pure] (bX [4])]) (a5.a1 (.fG (Ng af) (fw bg 2 2 0 2 rfl ak) (fx bg 2 eC bG) (aD 1 .live aA an) (aD 1 .live eD a7) (aD 1 .live aA bD))))))))
  (fun o =>
  .ret (let b1:=di [0,1,2,3,4,5];bQ [(ad 1),.ap false,.bm [0,1,2,3,4,5] [.box [.id,.id,.id,.id,.id,.id],.bB (au 1 (b2 2 0 2) ak),.bB (c7 2 aU bG),.pure,.pure,.pure] (bX [0,1])] (.fG o (fw b1 2 2 0 2 rfl ak) (fx b1 2 eC bG) (aD 1 .live aA an) (aD 1 .live eD a7) (aD 1 .live aA bD))))
theorem Nh {cJ:Int}{ak:List b8}{a7:List Bool}{bD:List Int}{rE aZ:Bool}{aN:List Int}{bG:List (List bf)}{an:List Int}{r} (h:CY cJ ak a7 bD rE aZ aN bG an=some r):fW bt 87 6 65 [1,0,1,0,0] (GN cJ ak a7 bD) (CU cJ ak a7 bD) (rE,aZ,aN,bG,an) r:=fZ (fun _=>T9) h
def GO (gk:Int)(aZ:Bool)(aN:List Int)(ak:List b8)(bG:List (List bf))(an bD:List Int):(Int×(List Bool))→S:=fun (h8,a7)=>fh [(0,.ref 0 0 0 0),(1,.bx 5 0 0 bD.length),(53,.n .i64 gk),(54,.n .i64 h8)] [[ab.mk 6 [(eX 1 0 0 ak.length aZ aN 3 0 0 an.length gk 4 0 0 a7.length)] .live],(au 1 (b2 2 0 2) ak),(c7 2 aU bG),(au 1 I an),(au 1 d6 a7),(au 1 I bD)]
def GR (gk:Int)(aZ:Bool)(aN:List Int)(ak:List b8)(bG:List (List bf))(an bD:List Int):(List Bool)→fp
 | a=>⟨some 4,[],[[ab.mk 6 [(eX 1 0 0 ak.length aZ aN 3 0 0 an.length gk 4 0 0 a.length)] .live],(au 1 (b2 2 0 2) ak),(c7 2 aU bG),(au 1 I an),(au 1 d6 a),(au 1 I bD)]⟩
def wZ (gk:Int)(aZ:Bool)(aN:List Int)(ak:List b8)(bG:List (List bf))(an bD:List Int)(h8:Int)(a7:List Bool):Option ((Int×(List Bool))⊕((List Bool))) :=
 if (decide (h8<gk))=true then
  if 0≤h8∧h8<(a7.length:Nat) then
  a7[(0+h8.toNat)]? >>= fun aM =>
  if aM=true then
   yc an h8 >>= fun bI =>
   if bI=true then
    some (.inl (U (h8+(1:Int)),a7))
   else
    if ak.all (v8 bG)=true then
    xN (⟨ak.map (mW bG),(⟨aZ,aN⟩:bf),an,gk,a7⟩:rB) bD h8 >>= fun fb =>
    if (decide (fb<(0:Int)))=true then
     if (0+h8.toNat)<a7.length then
     some (.inl (U (h8+(1:Int)),a7.set (0+h8.toNat) false))
     else none
    else
     some (.inl (U (h8+(1:Int)),a7))
    else none
  else
   some (.inl (U (h8+(1:Int)),a7))
  else none
 else
  some (.inr a7)
def CZ (gk:Int)(aZ:Bool)(aN:List Int)(ak:List b8)(bG:List (List bf))(an bD:List Int)(h8:Int)(a7:List Bool):Option ((List Bool)):=iter (fun w:Int×(List Bool)=>wZ gk aZ aN ak bG an bD w.1 w.2) (h8,a7)
theorem Ua {gk:Int}{aZ:Bool}{aN:List Int}{ak:List b8}{bG:List (List bf)}{an bD:List Int}{h8:Int}{a7:List Bool}:bV (wZ gk aZ aN ak bG an bD h8 a7) (fV bt 87 6 65 [1,1,0,1,0,0] (GO gk aZ aN ak bG an bD (h8,a7)) (GO gk aZ aN ak bG an bD) (GR gk aZ aN ak bG an bD)):=by
 unfold wZ
 exact .ite (fun o =>
  .bn fun J =>
  .ay fun aM aF =>
  (let t1:List cG:=[(ad 1),.ap true,(ad 2)];
  .ite (fun aJ =>
  .ay fun bI bJ =>
  (have a5:=((.bo o J.1 J.2 (cD d6 aF) aJ aJ aJ aJ (.bo aJ aJ (ki I an) (jw I an) (fs aA an) (Oe bI bJ) (cl.b bI) aJ (.aC aJ))):cW _);
  .ite (fun bu =>
  .ret (let aL:=di [0,1,2,3,4,5];bQ (t1.append [.aI (av 6 (aq (.cz (d6 aM)) (av 6 (aq (.call {ac:=[.bE (.ck (.gv (an.map I))),ii],r:= .b bI,dr:=true,dZ:=[3]}) (av 1 (aq (.ap true) (av 1 (dm 5 (aq (.ap false) []))))))))),.ap false,(ad 2),.bm [0,1,2,3,4,5] [.box [.id,.id,.id,.id,.id,.id],.bB (au 1 (b2 2 0 2) ak),.bB (c7 2 aU bG),.pure,.pure,.pure] (bX [0,1,53,54])]) (a5.a1 (.bo (d7 bu) (d7 bu) (d7 bu) (d7 bu) (d7 bu) (d7 bu) fv (fw aL 2 2 0 2 rfl ak) (.dh (fx aL 2 eC bG) (aD 1 .live aA an) (aD 1 .live eD a7) (aD 1 .live aA bD))))))
  (fun bu =>
  .bn fun c9 =>
  .ay fun fb c8 =>
  (let t3:List cG:=t1.append [.aI (av 6 (aq (.cz (d6 aM)) (av 6 (aq (.call {ac:=[.bE (.ck (.gv (an.map I))),ii],r:= .b bI,dr:=true,dZ:=[3]}) (av 1 (aq (.ap true) (av 4 (aq (.call {ac:=[.bE (.ptr [.view 2 (ab.mk 1 (ak.map (b2 2 0 2)) .live) ((ak.map (mW bG)).map (fi 2 aU)),.id,.id,.gv (an.map I),.id,.gv (a7.map d6)]),.bE (.ck (.gv (bD.map I))),ii],r:= .n .i64 fb,dr:=true,dZ:=[0,1,2,3,4,5]}) (av 1 (aq (.ap true) []))))))))))];
  have fI:=a5.a1 (.bo (ee bu) (ee bu) (ee bu) (ee bu) (rfl:de (some (au 1 (b2 2 0 2) ak)) 0=some (ab.mk 1 (ak.map (b2 2 0 2)) .live)) (rfl:_=true) (jw (b2 2 0 2) ak) (fs (pb (sz:=2) sQ) (ak.map (mW bG))) (.bo (EO (eO:=2) (kd:=[]++(c7 2 aU bG)) (bT:=mB) (sz:=1) (g:=(fi 2 aU)) (ej (b2 2 0 2) ak) (fun _=>rfl) (fun x aa=>(LQ (eO:=2) (c:=0) (bT:=mB) (ud:=[]) (iX .live 2 aU bG) sQ rfl lJ rfl (KB c9 x aa))) (fP ak)) (ki I an) (jw I an) (fs aA an) (ki d6 a7) (jw d6 a7) (fs eD a7) (j6 (I1 (⟨ak.map (mW bG),(⟨aZ,aN⟩:bf),an,gk,a7⟩:rB)):g9 [[.isl 1 ((ak.map (mW bG)).map (fi 2 aU)),.b aZ,.isl 1 (aN.map I),.isl 1 (an.map I),.n .i64 gk,.isl 1 (a7.map d6)]]) (.fC (ki I bD) (jw I bD) (fs aA bD) (Nz fb c8) (cl.n .i64 fb) (ee bu) (ee bu))));
  .ite (fun eF =>
  .bn fun d4 =>
  .ret (let bg:=di [0,1,2,3,4,5];bQ (t3.append [.ap true,.aI (av 6 (aq .c4 [])),(ad 2),.bm [0,1,2,3,4,5] [.box [.id,.id,.id,.id,.id,.len ((a7.set (0+h8.toNat) false).length)],.bB (au 1 (b2 2 0 2) ak),.bB (c7 2 aU bG),.pure,.dY (au 1 d6 (a7.set (0+h8.toNat) false)),.pure] (bX [0,1,53,54])]) (fI.a1 (.bo eF J.1 J.2 (hB d6 d4) (g8 1) (hg (fP a7) (0+h8.toNat) false) (fw bg 2 2 0 2 rfl ak) (fx bg 2 eC bG) (.dh (aD 1 .live aA an) (eB 1 .live (gi (ej d6 a7) (0+h8.toNat) false)) (aD 1 .live eD (a7.set (0+h8.toNat) false)) (aD 1 .live aA bD))))))
  (fun eF =>
  .ret (let b1:=di [0,1,2,3,4,5];bQ (t3.append [.ap false,(ad 2),.bm [0,1,2,3,4,5] [.box [.id,.id,.id,.id,.id,.id],.bB (au 1 (b2 2 0 2) ak),.bB (c7 2 aU bG),.pure,.pure,.pure] (bX [0,1,53,54])]) (fI.a1 (.fG eF (fw b1 2 2 0 2 rfl ak) (fx b1 2 eC bG) (aD 1 .live aA an) (aD 1 .live eD a7) (aD 1 .live aA bD)))))))))
  (fun aJ =>
  .ret (let cI:=di [0,1,2,3,4,5];bQ (t1.append [.aI (av 6 (aq (.cz (d6 aM)) (av 1 (dm 7 (aq (.ap false) (av 1 (dm 5 (av 1 [])))))))),.ap false,(ad 2),.bm [0,1,2,3,4,5] [.box [.id,.id,.id,.id,.id,.id],.bB (au 1 (b2 2 0 2) ak),.bB (c7 2 aU bG),.pure,.pure,.pure] (bX [0,1,53,54])]) (.bo o J.1 J.2 (cD d6 aF) aJ aJ aJ aJ (.bo aJ aJ aJ aJ fv fv fv fv (.fC fv fv (fw cI 2 2 0 2 rfl ak) (fx cI 2 eC bG) (aD 1 .live aA an) (aD 1 .live eD a7) (aD 1 .live aA bD))))))))
  (fun o =>
  .ret (let eU:=di [0,1,2,3,4,5];bQ [(ad 1),.ap false,.bm [0,1,2,3,4,5] [.box [.id,.id,.id,.id,.id,.id],.bB (au 1 (b2 2 0 2) ak),.bB (c7 2 aU bG),.pure,.pure,.pure] []] (.fG o (fw eU 2 2 0 2 rfl ak) (fx eU 2 eC bG) (aD 1 .live aA an) (aD 1 .live eD a7) (aD 1 .live aA bD))))
theorem Uv {gk:Int}{aZ:Bool}{aN:List Int}{ak:List b8}{bG:List (List bf)}{an bD:List Int}{h8:Int}{a7:List Bool}{r} (h:CZ gk aZ aN ak bG an bD h8 a7=some r):fW bt 87 6 65 [1,1,0,1,0,0] (GO gk aZ aN ak bG an bD) (GR gk aZ aN ak bG an bD) (h8,a7) r:=fZ (fun _=>Ua) h
def sL (b5:Bool)(cC:List Int)(e7:Int)(b6:List b8)(me:List (List bf))(dc:List Int)(hY:List Bool)(p2:List Int):Option (Bool×Bool×(List Int)×(List (List bf))×(List Int)×(List Bool)) :=
 CY e7 b6 hY p2 true b5 cC me dc >>= fun ae =>
 match ae with
 | .inl bN=>(CZ e7 bN.1 bN.2.1 b6 bN.2.2.1 bN.2.2.2 p2 0 hY >>= fun aw =>
  some (true,bN.1,bN.2.1,bN.2.2.1,bN.2.2.2,aw))
 | .inr bN=>(some (false,bN.1,bN.2.1,bN.2.2.1,bN.2.2.2,hY))
theorem Hj {b5:Bool}{cC:List Int}{e7:Int}{b6:List b8}{me:List (List bf)}{dc:List Int}{hY:List Bool}{p2:List Int}:bV (sL b5 cC e7 b6 me dc hY p2) (fun a=>Con bt 65 [.ref 0 0 0 0,.bx 5 0 0 p2.length] [[ab.mk 6 [(eX 1 0 0 b6.length b5 cC 3 0 0 dc.length e7 4 0 0 hY.length)] .live],(au 1 (b2 2 0 2) b6),(c7 2 aU me),(au 1 I dc),(au 1 d6 hY),(au 1 I p2)] (.b a.1) [[ab.mk 6 [(eX 1 0 0 b6.length a.2.1 a.2.2.1 3 0 0 a.2.2.2.2.1.length e7 4 0 0 a.2.2.2.2.2.length)] .live],(au 1 (b2 2 0 2) b6),(c7 2 aU a.2.2.2.1),(au 1 I a.2.2.2.2.1),(au 1 d6 a.2.2.2.2.2),(au 1 I p2)]):=by
 unfold sL
 exact .ay fun ae J =>
  (let ic:=di [0,1,2,3,4,5];let t1:List cG:=[(ad 1),(ad 1),.bm [0,1,2,3,4,5] [.box [.id,.id,.id,.id,.id,.id],.bB (au 1 (b2 2 0 2) b6),.bB (c7 2 aU me),.pure,.pure,.pure] (bX [0,1,5])];
  have a5:=((.eR (fw ic 2 2 0 2 rfl b6) (fx ic 2 eC me) (aD 1 .live aA dc) (aD 1 .live eD hY) (aD 1 .live aA p2)):cW _);
  (by
  rcases ae with bN|bN
  ·exact (.ay fun aw aJ =>
  .ret (let aL:=eX 1 0 0 b6.length bN.1 bN.2.1 3 0 0 bN.2.2.2.length e7 4 0 0 aw.length;let bg:=di [0,1,2,3,4,5];let b1:=aD 1 .live aA bN.2.2.2;let cI:=fx bg 2 eC bN.2.2.1;let eU:=c7 2 aU bN.2.2.1;let gC:=fw bg 2 2 0 2 rfl b6;h2 (t1.append [(CU e7 b6 hY p2 (.inl bN)).gL,(ad 5),.bm [0,1,2,3,4,5] [.box [.id,.id,.id,.id,.id,.id],.bB (au 1 (b2 2 0 2) b6),.bB eU,.pure,.pure,.pure] (bX [0,1,53,54]),(GR e7 bN.1 bN.2.1 b6 bN.2.2.1 bN.2.2.2 p2 aw).gL,(ad 1)]) [0,1,2,3,4,5] [.bB [ab.mk 6 [aL] .live],.bB (au 1 (b2 2 0 2) b6),.bB eU,.pure,.pure,.pure] (a5.a1 (.bo (Nh J) gC cI b1 (aD 1 .live eD hY) (aD 1 .live aA p2) (Uv aJ) (hr bg 6 [aL] [aL] rfl) (.eR gC cI b1 (aD 1 .live eD aw) (aD 1 .live aA p2))))))
  ·exact (.ret (let hq:=eX 1 0 0 b6.length bN.1 bN.2.1 3 0 0 bN.2.2.2.length e7 4 0 0 hY.length;let fY:=di [0,1,2,3,4,5];h2 (t1.append [(CU e7 b6 hY p2 (.inr bN)).gL]) [0,1,2,3,4,5] [.bB [ab.mk 6 [hq] .live],.bB (au 1 (b2 2 0 2) b6),.bB (c7 2 aU bN.2.2.1),.pure,.pure,.pure] (a5.a1 (.fC (Nh J) (hr fY 6 [hq] [hq] rfl) (fw fY 2 2 0 2 rfl b6) (fx fY 2 eC bN.2.2.1) (aD 1 .live aA bN.2.2.2) (aD 1 .live eD hY) (aD 1 .live aA p2)))))))
def G3 (iv bd:Int)(aZ:Bool)(aN:List Int)(cJ:Int)(ak:List b8)(bG:List (List bf))(an:List Int)(a7:List Bool):Int→S:=fun cc=>fh [(0,.ref 0 0 0 0),(1,.n .i64 iv),(4,.n .i64 bd),(5,.n .i64 cc)] [[ab.mk 6 [(eX 1 0 0 ak.length aZ aN 3 0 0 an.length cJ 4 0 0 a7.length)] .live],(au 1 (b2 2 0 2) ak),(c7 2 aU bG),(au 1 I an),(au 1 d6 a7)]
def Hc (iv bd:Int)(aZ:Bool)(aN:List Int)(cJ:Int)(ak:List b8)(bG:List (List bf))(an:List Int)(a7:List Bool):Int→fp
 | a=>⟨some 2,[(0,.ref 0 0 0 0),(1,.n .i64 iv),(4,.n .i64 bd),(5,.n .i64 a)],[[ab.mk 6 [(eX 1 0 0 ak.length aZ aN 3 0 0 an.length cJ 4 0 0 a7.length)] .live],(au 1 (b2 2 0 2) ak),(c7 2 aU bG),(au 1 I an),(au 1 d6 a7)]⟩
def w7 (iv bd:Int)(aZ:Bool)(aN:List Int)(cJ:Int)(ak:List b8)(bG:List (List bf))(an:List Int)(a7:List Bool)(cc:Int):Option ((Int)⊕(Int)) :=
 if (decide (cc<iv))=true then
  if 0≤bd∧bd<(ak.length:Nat) then
  ak[(0+bd.toNat)]? >>= fun aM =>
  aM >>= fun ml =>
  bG[ml.1]? >>= fun lW =>
  if 0≤cc∧cc<(ml.2:Nat) then
  lW[(0+cc.toNat)]? >>= fun il =>
  o9 il >>= fun fA =>
  if (fA == (0:Int))=true then
   some (.inl (U (cc+(1:Int))))
  else
   some (.inr cc)
  else none
  else none
 else
  some (.inr cc)
def C5 (iv bd:Int)(aZ:Bool)(aN:List Int)(cJ:Int)(ak:List b8)(bG:List (List bf))(an:List Int)(a7:List Bool)(cc:Int):Option (Int):=iter (fun w:Int=>w7 iv bd aZ aN cJ ak bG an a7 w) cc
theorem Uo {iv bd:Int}{aZ:Bool}{aN:List Int}{cJ:Int}{ak:List b8}{bG:List (List bf)}{an:List Int}{a7:List Bool}{cc:Int}:bV (w7 iv bd aZ aN cJ ak bG an a7 cc) (fV bt 86 5 67 [1,0,0,1,0,1,1,0,0,0] (G3 iv bd aZ aN cJ ak bG an a7 cc) (G3 iv bd aZ aN cJ ak bG an a7) (Hc iv bd aZ aN cJ ak bG an a7)):=by
 unfold w7
 exact .ite (fun o =>
  .bn fun J =>
  .ay fun aM aF =>
  .ay fun ml bp =>
  .ay fun lW bu =>
  .bn fun c9 =>
  .ay fun il c8 =>
  .ay fun fA d4 =>
  (let aL:=l2 (iX .live 2 aU bG) lJ bu;let t1:List cG:=[.aI (av 10 (aq (.cz ((b2 2 0 2) aM)) (av 1 (aq (.fF 34 (.bx 2 (ml.1+0) 0 ml.2) (.hT (ab.mk 2 (lW.map aU) .live) [])) (aq (.hT (ab.mk 2 (lW.map aU) .live) (aU il)) (aq (bC 1 (.n .i64 fA) true) (av 1 (aq (.ap true) []))))))))];
  have a5:=((.bo o o o o o o J.1 J.2 (.bo o (cD (b2 2 0 2) aF) o o (pc (eO:=2) (c:=0) (sz:=2) bp) aL c9.1 c9.2 (.h6 o aL (cD aU c8) o (sM fA d4) (cl.n .i64 fA) o o))):cW _);
  .ite (fun d8 =>
  .ret (bQ (t1.append [.ap true,(ad 3),.bm [0,1,2,3,4] [.box [.id,.id,.id,.id,.id,.id],.bB (au 1 (b2 2 0 2) ak),.bB (c7 2 aU bG),.pure,.pure] (bX [0,1,4,5])]) (a5.a1 (.eR d8 (fw (di [0,1,2,3,4]) 2 2 0 2 rfl ak) (fx (di [0,1,2,3,4]) 2 eC bG) (aD 1 .live aA an) (aD 1 .live eD a7)))))
  (fun d8 =>
  .ret (bQ (t1.append [.ap false,.bm [0,1,2,3,4] [.box [.id,.id,.id,.id,.id,.id],.bB (au 1 (b2 2 0 2) ak),.bB (c7 2 aU bG),.pure,.pure] (bX [0,1,4,5])]) (a5.a1 (.eR d8 (fw (di [0,1,2,3,4]) 2 2 0 2 rfl ak) (fx (di [0,1,2,3,4]) 2 eC bG) (aD 1 .live aA an) (aD 1 .live eD a7)))))))
  (fun o =>
  .ret (bQ [.aI (av 4 (dm 12 (aq (.ap false) []))),.ap false,.bm [0,1,2,3,4] [.box [.id,.id,.id,.id,.id,.id],.bB (au 1 (b2 2 0 2) ak),.bB (c7 2 aU bG),.pure,.pure] (bX [0,1,4,5])] (.bo o o o o o o o o (.bo o o o o o fv (fw (di [0,1,2,3,4]) 2 2 0 2 rfl ak) (fx (di [0,1,2,3,4]) 2 eC bG) (.aH (aD 1 .live aA an) (aD 1 .live eD a7))))))
theorem UJ {iv bd:Int}{aZ:Bool}{aN:List Int}{cJ:Int}{ak:List b8}{bG:List (List bf)}{an:List Int}{a7:List Bool}{cc:Int}{r} (h:C5 iv bd aZ aN cJ ak bG an a7 cc=some r):fW bt 86 5 67 [1,0,0,1,0,1,1,0,0,0] (G3 iv bd aZ aN cJ ak bG an a7) (Hc iv bd aZ aN cJ ak bG an a7) cc r:=fZ (fun _=>Uo) h
def G4 (iv cJ:Int)(a7:List Bool):(Int×Bool×(List Int)×(List b8)×(List (List bf))×(List Int))→S:=fun (bd,aZ,aN,ak,bG,an)=>fh [(0,.ref 0 0 0 0),(1,.n .i64 iv),(4,.n .i64 bd)] [[ab.mk 6 [(eX 1 0 0 ak.length aZ aN 3 0 0 an.length cJ 4 0 0 a7.length)] .live],(au 1 (b2 2 0 2) ak),(c7 2 aU bG),(au 1 I an),(au 1 d6 a7)]
def Hd (iv cJ:Int)(a7:List Bool):(Bool×(List Int)×(List b8)×(List (List bf))×(List Int))→fp
 | a=>⟨some 0,[],[[ab.mk 6 [(eX 1 0 0 a.2.2.1.length a.1 a.2.1 3 0 0 a.2.2.2.2.length cJ 4 0 0 a7.length)] .live],(au 1 (b2 2 0 2) a.2.2.1),(c7 2 aU a.2.2.2.1),(au 1 I a.2.2.2.2),(au 1 d6 a7)]⟩
def zI (iv cJ:Int)(a7:List Bool)(bd:Int)(aZ:Bool)(aN:List Int)(ak:List b8)(bG:List (List bf))(an:List Int):Option ((Int×Bool×(List Int)×(List b8)×(List (List bf))×(List Int))⊕(Bool×(List Int)×(List b8)×(List (List bf))×(List Int))) :=
 if (decide (bd<((ak.length:Nat):Int)))=true then
  if 0≤bd∧bd<(an.length:Nat) then
  an[(0+bd.toNat)]? >>= fun aM =>
  if (decide (aM<iv))=true then
   some (.inl (U (bd+(1:Int)),aZ,aN,ak,bG,an))
  else
   C5 iv bd aZ aN cJ ak bG an a7 0 >>= fun bI =>
   if (decide (bI<iv))=true then
    xq bd bI aZ aN cJ ak bG an a7 >>= fun ba =>
    some (.inl (U (bd+(1:Int)),ba.1,ba.2.1,ak,ba.2.2.1,ba.2.2.2))
   else
    if 0≤bd then
    if 0≤bd.toNat∧bd.toNat≤ak.length then
    if 0≤(U (bd+(1:Int))) then
    if (U (bd+(1:Int))).toNat≤ak.length then
    if (0+(U (bd+(1:Int))).toNat)+(ak.length-(U (bd+(1:Int))).toNat)≤ak.length then
    if (bd.toNat-0)+((ak.drop (0+(U (bd+(1:Int))).toNat)).take (ak.length-(U (bd+(1:Int))).toNat)).length≤ak.length then
    if ((ak.drop (0+(U (bd+(1:Int))).toNat)).take (ak.length-(U (bd+(1:Int))).toNat)).length*24≤140737488355328 then
    if 0≤bd.toNat∧bd.toNat≤an.length then
    if (U (bd+(1:Int))).toNat≤an.length then
    if (0+(U (bd+(1:Int))).toNat)+(an.length-(U (bd+(1:Int))).toNat)≤an.length then
    if (bd.toNat-0)+((an.drop (0+(U (bd+(1:Int))).toNat)).take (an.length-(U (bd+(1:Int))).toNat)).length≤an.length then
    if ((an.drop (0+(U (bd+(1:Int))).toNat)).take (an.length-(U (bd+(1:Int))).toNat)).length*8≤140737488355328 then
    some (.inl (bd,aZ,aN,ak.take (bd.toNat-0)++((ak.drop (0+(U (bd+(1:Int))).toNat)).take (ak.length-(U (bd+(1:Int))).toNat)),bG,an.take (bd.toNat-0)++((an.drop (0+(U (bd+(1:Int))).toNat)).take (an.length-(U (bd+(1:Int))).toNat))))
    else none
    else none
    else none
    else none
    else none
    else none
    else none
    else none
    else none
    else none
    else none
    else none
  else none
 else
  some (.inr (aZ,aN,ak,bG,an))
def Hu (iv cJ:Int)(a7:List Bool)(bd:Int)(aZ:Bool)(aN:List Int)(ak:List b8)(bG:List (List bf))(an:List Int):Option (Bool×(List Int)×(List b8)×(List (List bf))×(List Int)):=iter (fun w:Int×Bool×(List Int)×(List b8)×(List (List bf))×(List Int)=>zI iv cJ a7 w.1 w.2.1 w.2.2.1 w.2.2.2.1 w.2.2.2.2.1 w.2.2.2.2.2) (bd,aZ,aN,ak,bG,an)
theorem Up {iv cJ:Int}{a7:List Bool}{bd:Int}{aZ:Bool}{aN:List Int}{ak:List b8}{bG:List (List bf)}{an:List Int}:bV (zI iv cJ a7 bd aZ aN ak bG an) (fV bt 86 5 67 [1,0,0] (G4 iv cJ a7 (bd,aZ,aN,ak,bG,an)) (G4 iv cJ a7) (Hd iv cJ a7)):=by
 unfold zI
 exact .ite (fun o =>
  .bn fun J =>
  .ay fun aM aF =>
  (let t1:List cG:=[(ad 7),.ap true,.aI (bL 6 (.cz (I aM)) 2)];
  .ite (fun aJ =>
  .ret (bQ (t1.append [.ap true,(ad 3),.bm [0,1,2,3,4] [.box [.id,.id,.id,.id,.id,.id],.bB (au 1 (b2 2 0 2) ak),.bB (c7 2 aU bG),.pure,.pure] (bX [0,1,4])]) (.bo o J.1 J.2 (cD I aF) aJ (fw (di [0,1,2,3,4]) 2 2 0 2 rfl ak) (fx (di [0,1,2,3,4]) 2 eC bG) (aD 1 .live aA an) (.aC (aD 1 .live eD a7)))))
  (fun aJ =>
  .ay fun bI bJ =>
  (let t2:List cG:=t1.append [.ap false,(ad 1),.bm [0,1,2,3,4] [.box [.id,.id,.id,.id,.id,.id],.bB (au 1 (b2 2 0 2) ak),.bB (c7 2 aU bG),.pure,.pure] (bX [0,1,4,5]),(Hc iv bd aZ aN cJ ak bG an a7 bI).gL,(ad 3)];
  have gh:=((.bo o J.1 J.2 (cD I aF) aJ (fw (di [0,1,2,3,4]) 2 2 0 2 rfl ak) (fx (di [0,1,2,3,4]) 2 eC bG) (aD 1 .live aA an) (.aH (aD 1 .live eD a7) (UJ bJ))):cW _);
  .ite (fun bu =>
  .ay fun ba da =>
  .ret (let aL:=eX 1 0 0 ak.length ba.1 ba.2.1 3 0 0 ba.2.2.2.length cJ 4 0 0 a7.length;let bg:=eX 1 0 0 ak.length aZ aN 3 0 0 an.length cJ 4 0 0 a7.length;let b1:=au 1 (b2 2 0 2) ak;let cI:=c7 2 aU ba.2.2.1;let eU:=nE [0,1,2,3,4];let gC:=hR [0,1,2,3,4];let hq:=hi 1 (ak.map (b2 2 0 2));bQ (t2.append [.ap true,.aI (av 3 (aq (.call {aO:=(ln [0,1,2,3,4]),cu:=[.bB [ab.mk 6 [bg] .live],.bB b1,.bB (c7 2 aU bG),.pure,.pure],ac:=[ii,ii,ii],r:= .cY [],dg:=[[ab.mk 6 [aL] .live],b1,cI,(au 1 I ba.2.2.2),(au 1 d6 a7)],eL:=ii,fq:=[.bB [ab.mk 6 [aL] .live],.bB b1,.bB cI,.pure,.pure],dZ:=[0,1,2,3,4],dr:=false}) [])),(ad 3),.bm [0,1,2,3,4] [.box [.id,.id,.id,.id,.id,.id],.bB b1,.bB cI,.pure,.pure] (bX [0,1,4])]) (gh.a1 (.bo bu (hr eU 6 [bg] [bg] rfl) (hi 6 [bg]) (fw eU 2 2 0 2 rfl ak) hq (fx eU 2 eC bG) (rq 2 aU bG) (du 1 aA an) (.bo (du 1 eD a7) (hr gC 6 [aL] [aL] rfl) (hi 6 [aL]) (fw gC 2 2 0 2 rfl ak) hq (fx gC 2 eC ba.2.2.1) (rq 2 aU ba.2.2.1) (du 1 aA ba.2.2.2) (.fG (du 1 eD a7) (Nq ba da) (fw (di [0,1,2,3,4]) 2 2 0 2 rfl ak) (fx (di [0,1,2,3,4]) 2 eC ba.2.2.1) (aD 1 .live aA ba.2.2.2) (aD 1 .live eD a7)))))))
  (fun bu =>
  .bn fun c9 =>
  .bn fun da =>
  .bn fun c8 =>
  .bn fun eF =>
  .bn fun d4 =>
  .bn fun d8 =>
  .bn fun gK =>
  .bn fun fT =>
  .bn fun g7 =>
  .bn fun kA =>
  .bn fun j0 =>
  .bn fun oA =>
  .ret (let fY:=(U (bd+(1:Int)));let ic:=ej (b2 2 0 2) ak;let jh:=di [0,1,2,3,4];let k7:=ej I an;bQ (t2.append [.ap false,.aI (bL 14 .c4 3),.aI (bL 14 .c4 3),.bm [0,1,2,3,4] [.box [.len ((ak.take (bd.toNat-0)++((ak.drop (0+fY.toNat)).take (ak.length-fY.toNat))).length),.id,.id,.len ((an.take (bd.toNat-0)++((an.drop (0+fY.toNat)).take (an.length-fY.toNat))).length),.id,.id],.bB (au 1 (b2 2 0 2) (ak.take (bd.toNat-0)++((ak.drop (0+fY.toNat)).take (ak.length-fY.toNat)))),.bB (c7 2 aU bG),.dY (au 1 I (an.take (bd.toNat-0)++((an.drop (0+fY.toNat)).take (an.length-fY.toNat)))),.pure] (bX [0,1,4])]) (gh.a1 (.bo bu c9 da.1 da.2 c8 eF (Nat.le_refl ak.length) (s3 ic d4) (.bo (Rd ic (oM ic (0+fY.toNat) (ak.length-fY.toNat)) d8) (PV (oM ic (0+fY.toNat) (ak.length-fY.toNat)) gK) c9 fT.1 fT.2 c8 g7 (Nat.le_refl an.length) (.bo (s3 k7 kA) (Rd k7 (oM k7 (0+fY.toNat) (an.length-fY.toNat)) j0) (PV (oM k7 (0+fY.toNat) (an.length-fY.toNat)) oA) ((J8 (Rc d8) (oM ic (0+fY.toNat) (ak.length-fY.toNat)):(ak.take (bd.toNat-0)++((ak.drop (0+fY.toNat)).take (ak.length-fY.toNat))).length=(bd.toNat-0)+(((ak.map (b2 2 0 2)).drop (0+fY.toNat)).take (ak.length-fY.toNat)).length).symm) ((J8 (Rc j0) (oM k7 (0+fY.toNat) (an.length-fY.toNat)):(an.take (bd.toNat-0)++((an.drop (0+fY.toNat)).take (an.length-fY.toNat))).length=(bd.toNat-0)+(((an.map I).drop (0+fY.toNat)).take (an.length-fY.toNat)).length).symm) (fL (wB (cg:=jh) 1 .live (b2 2 0 2) (J7 ic (bd.toNat-0) (oM ic (0+fY.toNat) (ak.length-fY.toNat))) (Bb (rfl:jh 2=some 2))) (l0 (cg:=jh))) (fx jh 2 eC bG) (eB 1 .live (J7 k7 (bd.toNat-0) (oM k7 (0+fY.toNat) (an.length-fY.toNat)))) (.aH (aD 1 .live aA (an.take (bd.toNat-0)++((an.drop (0+fY.toNat)).take (an.length-fY.toNat)))) (aD 1 .live eD a7))))))))))))
  (fun o =>
  .ret (bQ [(ad 7),.ap false,.bm [0,1,2,3,4] [.box [.id,.id,.id,.id,.id,.id],.bB (au 1 (b2 2 0 2) ak),.bB (c7 2 aU bG),.pure,.pure] []] (.eR o (fw (di [0,1,2,3,4]) 2 2 0 2 rfl ak) (fx (di [0,1,2,3,4]) 2 eC bG) (aD 1 .live aA an) (aD 1 .live eD a7))))
theorem UK {iv cJ:Int}{a7:List Bool}{bd:Int}{aZ:Bool}{aN:List Int}{ak:List b8}{bG:List (List bf)}{an:List Int}{r} (h:Hu iv cJ a7 bd aZ aN ak bG an=some r):fW bt 86 5 67 [1,0,0] (G4 iv cJ a7) (Hd iv cJ a7) (bd,aZ,aN,ak,bG,an) r:=fZ (fun _=>Up) h
def zP (iv:Int)(b5:Bool)(cC:List Int)(e7:Int)(b6:List b8)(me:List (List bf))(dc:List Int)(hY:List Bool):Option (Bool×(List Int)×(List b8)×(List (List bf))×(List Int)) :=
 Hu iv e7 hY 0 b5 cC b6 me dc >>= fun ae =>
 some (ae.1,ae.2.1,ae.2.2.1,ae.2.2.2.1,ae.2.2.2.2)
theorem U6 {iv:Int}{b5:Bool}{cC:List Int}{e7:Int}{b6:List b8}{me:List (List bf)}{dc:List Int}{hY:List Bool}:bV (zP iv b5 cC e7 b6 me dc hY) (fun a=>Con bt 67 [.ref 0 0 0 0,.n .i64 iv] [[ab.mk 6 [(eX 1 0 0 b6.length b5 cC 3 0 0 dc.length e7 4 0 0 hY.length)] .live],(au 1 (b2 2 0 2) b6),(c7 2 aU me),(au 1 I dc),(au 1 d6 hY)] (.cY []) [[ab.mk 6 [(eX 1 0 0 a.2.2.1.length a.1 a.2.1 3 0 0 a.2.2.2.2.length e7 4 0 0 hY.length)] .live],(au 1 (b2 2 0 2) a.2.2.1),(c7 2 aU a.2.2.2.1),(au 1 I a.2.2.2.2),(au 1 d6 hY)]):=by
 unfold zP
 exact .ay fun ae J =>
  .ret (let aL:=eX 1 0 0 ae.2.2.1.length ae.1 ae.2.1 3 0 0 ae.2.2.2.2.length e7 4 0 0 hY.length;let bg:=di [0,1,2,3,4];h2 [(ad 1),.bm [0,1,2,3,4] [.box [.id,.id,.id,.id,.id,.id],.bB (au 1 (b2 2 0 2) b6),.bB (c7 2 aU me),.pure,.pure] (bX [0,1,4]),(Hd iv e7 hY ae).gL] [0,1,2,3,4] [.bB [ab.mk 6 [aL] .live],.bB (au 1 (b2 2 0 2) ae.2.2.1),.bB (c7 2 aU ae.2.2.2.1),.pure,.pure] (.bo (fw bg 2 2 0 2 rfl b6) (fx bg 2 eC me) (aD 1 .live aA dc) (aD 1 .live eD hY) (UK J) (hr bg 6 [aL] [aL] rfl) (fw bg 2 2 0 2 rfl ae.2.2.1) (fx bg 2 eC ae.2.2.2.1) (.aH (aD 1 .live aA ae.2.2.2.2) (aD 1 .live eD hY))))
def HT (bh bd:Int)(iP jI:Nat)(eu:Int)(j7 j5:Nat)(kc aN:Int)(ak aR an:List Int)(cU:Bool)(cS:List Int)(cp:List b8)(dX:List Int)(cq:List Bool):(Int×(List (List bf)))→S:=fun (gk,i3)=>fh [(0,.ref 0 0 0 0),(4,.n .i64 bh),(5,.ref 4 0 0 0),(6,.n .i64 bd),(7,.bx 5 (iP+0) 0 jI),(8,.n .i64 (-1:Int)),(34,.n .i64 eu),(35,.n .i64 bd),(51,.bx 1 0 j7 j5),(52,.n .i64 kc),(53,.n .i64 gk)] [[ab.mk 5 [(eJ eu aN 1 0 0 ak.length 2 0 0 aR.length 3 0 0 an.length)] .live],(au 1 I ak),(au 1 I aR),(au 1 I an),[ab.mk 6 [(eX 6 0 0 cp.length cU cS 7 0 0 dX.length bh 8 0 0 cq.length)] .live],(c7 2 aU i3),(au 1 (b2 5 0 2) cp),(au 1 I dX),(au 1 d6 cq)]
def Ie (bh bd:Int)(iP jI:Nat)(eu:Int)(j7 j5:Nat)(kc aN:Int)(ak aR an:List Int)(cU:Bool)(cS:List Int)(cp:List b8)(dX:List Int)(cq:List Bool):(List (List bf))→fp
 | a=>⟨some 2,[(0,.ref 0 0 0 0),(4,.n .i64 bh),(5,.ref 4 0 0 0),(6,.n .i64 bd),(7,.bx 5 (iP+0) 0 jI),(8,.n .i64 (-1:Int)),(34,.n .i64 eu),(35,.n .i64 bd)],[[ab.mk 5 [(eJ eu aN 1 0 0 ak.length 2 0 0 aR.length 3 0 0 an.length)] .live],(au 1 I ak),(au 1 I aR),(au 1 I an),[ab.mk 6 [(eX 6 0 0 cp.length cU cS 7 0 0 dX.length bh 8 0 0 cq.length)] .live],(c7 2 aU a),(au 1 (b2 5 0 2) cp),(au 1 I dX),(au 1 d6 cq)]⟩
def xr (bh bd:Int)(iP jI:Nat)(eu:Int)(j7 j5:Nat)(kc aN:Int)(ak aR an:List Int)(cU:Bool)(cS:List Int)(cp:List b8)(dX:List Int)(cq:List Bool)(gk:Int)(i3:List (List bf)):Option ((Int×(List (List bf)))⊕((List (List bf)))) :=
 if (decide (gk<kc))=true then
  if 0≤gk∧gk<(j5:Nat) then
  ak[(j7+gk.toNat)]? >>= fun aM =>
  oI (U ((-1:Int)*aM)) >>= fun br =>
  i3[iP]? >>= fun lW =>
  if 0≤gk∧gk<(jI:Nat) then
  lW[(0+gk.toNat)]? >>= fun il =>
  some (.inl (U (gk+(1:Int)),i3.set iP (lW.set (0+gk.toNat) br)))
  else none
  else none
 else
  some (.inr i3)
def Dw (bh bd:Int)(iP jI:Nat)(eu:Int)(j7 j5:Nat)(kc aN:Int)(ak aR an:List Int)(cU:Bool)(cS:List Int)(cp:List b8)(dX:List Int)(cq:List Bool)(gk:Int)(i3:List (List bf)):Option ((List (List bf))):=iter (fun w:Int×(List (List bf))=>xr bh bd iP jI eu j7 j5 kc aN ak aR an cU cS cp dX cq w.1 w.2) (gk,i3)
theorem U7 {bh bd:Int}{iP jI:Nat}{eu:Int}{j7 j5:Nat}{kc aN:Int}{ak aR an:List Int}{cU:Bool}{cS:List Int}{cp:List b8}{dX:List Int}{cq:List Bool}{gk:Int}{i3:List (List bf)}:bV (xr bh bd iP jI eu j7 j5 kc aN ak aR an cU cS cp dX cq gk i3) (fV bt 205 4 31 [1,1,1,0,1,0,0,1,1,0,0,1,1,1,1,0,1,0,0] (HT bh bd iP jI eu j7 j5 kc aN ak aR an cU cS cp dX cq (gk,i3)) (HT bh bd iP jI eu j7 j5 kc aN ak aR an cU cS cp dX cq) (Ie bh bd iP jI eu j7 j5 kc aN ak aR an cU cS cp dX cq)):=by
 unfold xr
 exact .ite (fun o =>
  .bn fun J =>
  .ay fun aM aF =>
  .ay fun br bp =>
  .ay fun lW bu =>
  .bn fun c9 =>
  .ay fun il c8 =>
  .ret (let aL:=di [0,1,2,3,4,5,6,7,8];let bg:=l2 (iX .live 2 aU i3) lJ bu;bQ [(ad 1),.ap true,.aI (bL 2 (.cz (I aM)) 2),.aI (av 5 (aq (bC 1 (.agg (aU br)) false) (aq (.hT (ab.mk 2 (lW.map aU) .live) []) (aq (.hT (ab.mk 2 (lW.map aU) .live) (aU il)) [])))),(ad 2),.bm [0,1,2,3,4,5,6,7,8] [.box [.id,.id,.id,.id,.id],.pure,.pure,.pure,.box [.id,.id,.id,.id,.id,.id],.bB (c7 2 aU (i3.set iP (lW.set (0+gk.toNat) br))),.bB (au 1 (b2 5 0 2) cp),.pure,.pure] (bX [0,4,5,6,7,8,34,35,51,52,53])] (.bo o J.1 J.2 (cD I aF) (sd br bp) bg c9.1 c9.2 (.bo bg (cD aU c8) (aD 1 .live aA ak) (aD 1 .live aA aR) (aD 1 .live aA an) (qP (cg:=aL) (so (iX .live 2 aU i3) iP (sl (ej aU lW) (0+gk.toNat) br (rfl:(setCells (aU il) 0 (aU br))=aU br))) (pS eC)) (fw aL 5 5 0 2 rfl cp) (aD 1 .live aA dX) (.aC (aD 1 .live eD cq))))))
  (fun o =>
  .ret (let b1:=di [0,1,2,3,4,5,6,7,8];bQ [(ad 1),.ap false,.bm [0,1,2,3,4,5,6,7,8] [.box [.id,.id,.id,.id,.id],.pure,.pure,.pure,.box [.id,.id,.id,.id,.id,.id],.bB (c7 2 aU i3),.bB (au 1 (b2 5 0 2) cp),.pure,.pure] (bX [0,4,5,6,7,8,34,35])] (.h6 o (aD 1 .live aA ak) (aD 1 .live aA aR) (aD 1 .live aA an) (fx b1 2 eC i3) (fw b1 5 5 0 2 rfl cp) (aD 1 .live aA dX) (aD 1 .live eD cq))))
theorem VV {bh bd:Int}{iP jI:Nat}{eu:Int}{j7 j5:Nat}{kc aN:Int}{ak aR an:List Int}{cU:Bool}{cS:List Int}{cp:List b8}{dX:List Int}{cq:List Bool}{gk:Int}{i3:List (List bf)}{r} (h:Dw bh bd iP jI eu j7 j5 kc aN ak aR an cU cS cp dX cq gk i3=some r):fW bt 205 4 31 [1,1,1,0,1,0,0,1,1,0,0,1,1,1,1,0,1,0,0] (HT bh bd iP jI eu j7 j5 kc aN ak aR an cU cS cp dX cq) (Ie bh bd iP jI eu j7 j5 kc aN ak aR an cU cS cp dX cq) (gk,i3) r:=fZ (fun _=>U7) h
def HU (bh bd:Int)(iP jI:Nat)(eu:Int)(j7 j5:Nat)(kc aN:Int)(ak aR an:List Int)(cU:Bool)(cS:List Int)(cp:List b8)(dX:List Int)(cq:List Bool):(Int×(List (List bf)))→S:=fun (gk,i3)=>fh [(0,.ref 0 0 0 0),(4,.n .i64 bh),(5,.ref 4 0 0 0),(6,.n .i64 bd),(7,.bx 5 (iP+0) 0 jI),(8,.n .i64 (1:Int)),(34,.n .i64 eu),(35,.n .i64 bd),(51,.bx 1 0 j7 j5),(52,.n .i64 kc),(53,.n .i64 gk)] [[ab.mk 5 [(eJ eu aN 1 0 0 ak.length 2 0 0 aR.length 3 0 0 an.length)] .live],(au 1 I ak),(au 1 I aR),(au 1 I an),[ab.mk 6 [(eX 6 0 0 cp.length cU cS 7 0 0 dX.length bh 8 0 0 cq.length)] .live],(c7 2 aU i3),(au 1 (b2 5 0 2) cp),(au 1 I dX),(au 1 d6 cq)]
def Ig (bh bd:Int)(iP jI:Nat)(eu:Int)(j7 j5:Nat)(kc aN:Int)(ak aR an:List Int)(cU:Bool)(cS:List Int)(cp:List b8)(dX:List Int)(cq:List Bool):(List (List bf))→fp
 | a=>⟨some 2,[(0,.ref 0 0 0 0),(4,.n .i64 bh),(5,.ref 4 0 0 0),(6,.n .i64 bd),(7,.bx 5 (iP+0) 0 jI),(8,.n .i64 (1:Int)),(34,.n .i64 eu),(35,.n .i64 bd)],[[ab.mk 5 [(eJ eu aN 1 0 0 ak.length 2 0 0 aR.length 3 0 0 an.length)] .live],(au 1 I ak),(au 1 I aR),(au 1 I an),[ab.mk 6 [(eX 6 0 0 cp.length cU cS 7 0 0 dX.length bh 8 0 0 cq.length)] .live],(c7 2 aU a),(au 1 (b2 5 0 2) cp),(au 1 I dX),(au 1 d6 cq)]⟩
def xt (bh bd:Int)(iP jI:Nat)(eu:Int)(j7 j5:Nat)(kc aN:Int)(ak aR an:List Int)(cU:Bool)(cS:List Int)(cp:List b8)(dX:List Int)(cq:List Bool)(gk:Int)(i3:List (List bf)):Option ((Int×(List (List bf)))⊕((List (List bf)))) :=
 if (decide (gk<kc))=true then
  if 0≤gk∧gk<(j5:Nat) then
  ak[(j7+gk.toNat)]? >>= fun aM =>
  oI (U ((1:Int)*aM)) >>= fun br =>
  i3[iP]? >>= fun lW =>
  if 0≤gk∧gk<(jI:Nat) then
  lW[(0+gk.toNat)]? >>= fun il =>
  some (.inl (U (gk+(1:Int)),i3.set iP (lW.set (0+gk.toNat) br)))
  else none
  else none
 else
  some (.inr i3)
def Dx (bh bd:Int)(iP jI:Nat)(eu:Int)(j7 j5:Nat)(kc aN:Int)(ak aR an:List Int)(cU:Bool)(cS:List Int)(cp:List b8)(dX:List Int)(cq:List Bool)(gk:Int)(i3:List (List bf)):Option ((List (List bf))):=iter (fun w:Int×(List (List bf))=>xt bh bd iP jI eu j7 j5 kc aN ak aR an cU cS cp dX cq w.1 w.2) (gk,i3)
theorem U8 {bh bd:Int}{iP jI:Nat}{eu:Int}{j7 j5:Nat}{kc aN:Int}{ak aR an:List Int}{cU:Bool}{cS:List Int}{cp:List b8}{dX:List Int}{cq:List Bool}{gk:Int}{i3:List (List bf)}:bV (xt bh bd iP jI eu j7 j5 kc aN ak aR an cU cS cp dX cq gk i3) (fV bt 205 4 31 [1,1,1,0,1,0,0,1,1,0,0,1,1,1,1,0,1,0,0] (HU bh bd iP jI eu j7 j5 kc aN ak aR an cU cS cp dX cq (gk,i3)) (HU bh bd iP jI eu j7 j5 kc aN ak aR an cU cS cp dX cq) (Ig bh bd iP jI eu j7 j5 kc aN ak aR an cU cS cp dX cq)):=by
 unfold xt
 exact .ite (fun o =>
  .bn fun J =>
  .ay fun aM aF =>
  .ay fun br bp =>
  .ay fun lW bu =>
  .bn fun c9 =>
  .ay fun il c8 =>
  .ret (let aL:=di [0,1,2,3,4,5,6,7,8];let bg:=l2 (iX .live 2 aU i3) lJ bu;bQ [(ad 1),.ap true,.aI (bL 2 (.cz (I aM)) 2),.aI (av 5 (aq (bC 1 (.agg (aU br)) false) (aq (.hT (ab.mk 2 (lW.map aU) .live) []) (aq (.hT (ab.mk 2 (lW.map aU) .live) (aU il)) [])))),(ad 2),.bm [0,1,2,3,4,5,6,7,8] [.box [.id,.id,.id,.id,.id],.pure,.pure,.pure,.box [.id,.id,.id,.id,.id,.id],.bB (c7 2 aU (i3.set iP (lW.set (0+gk.toNat) br))),.bB (au 1 (b2 5 0 2) cp),.pure,.pure] (bX [0,4,5,6,7,8,34,35,51,52,53])] (.bo o J.1 J.2 (cD I aF) (sd br bp) bg c9.1 c9.2 (.bo bg (cD aU c8) (aD 1 .live aA ak) (aD 1 .live aA aR) (aD 1 .live aA an) (qP (cg:=aL) (so (iX .live 2 aU i3) iP (sl (ej aU lW) (0+gk.toNat) br (rfl:(setCells (aU il) 0 (aU br))=aU br))) (pS eC)) (fw aL 5 5 0 2 rfl cp) (aD 1 .live aA dX) (.aC (aD 1 .live eD cq))))))
  (fun o =>
  .ret (let b1:=di [0,1,2,3,4,5,6,7,8];bQ [(ad 1),.ap false,.bm [0,1,2,3,4,5,6,7,8] [.box [.id,.id,.id,.id,.id],.pure,.pure,.pure,.box [.id,.id,.id,.id,.id,.id],.bB (c7 2 aU i3),.bB (au 1 (b2 5 0 2) cp),.pure,.pure] (bX [0,4,5,6,7,8,34,35])] (.h6 o (aD 1 .live aA ak) (aD 1 .live aA aR) (aD 1 .live aA an) (fx b1 2 eC i3) (fw b1 5 5 0 2 rfl cp) (aD 1 .live aA dX) (aD 1 .live eD cq))))
theorem VW {bh bd:Int}{iP jI:Nat}{eu:Int}{j7 j5:Nat}{kc aN:Int}{ak aR an:List Int}{cU:Bool}{cS:List Int}{cp:List b8}{dX:List Int}{cq:List Bool}{gk:Int}{i3:List (List bf)}{r} (h:Dx bh bd iP jI eu j7 j5 kc aN ak aR an cU cS cp dX cq gk i3=some r):fW bt 205 4 31 [1,1,1,0,1,0,0,1,1,0,0,1,1,1,1,0,1,0,0] (HU bh bd iP jI eu j7 j5 kc aN ak aR an cU cS cp dX cq) (Ig bh bd iP jI eu j7 j5 kc aN ak aR an cU cS cp dX cq) (gk,i3) r:=fZ (fun _=>U8) h
def HV (bh eu aN:Int)(ak aR an:List Int)(cU:Bool)(cS:List Int)(cq:List Bool):(Int×(List b8)×(List (List bf))×(List Int))→S:=fun (dU,bD,eZ,dX)=>fh [(0,.ref 0 0 0 0),(4,.n .i64 bh),(5,.ref 4 0 0 0),(34,.n .i64 eu),(35,.n .i64 dU)] [[ab.mk 5 [(eJ eu aN 1 0 0 ak.length 2 0 0 aR.length 3 0 0 an.length)] .live],(au 1 I ak),(au 1 I aR),(au 1 I an),[ab.mk 6 [(eX 5 0 0 bD.length cU cS 7 0 0 dX.length bh 8 0 0 cq.length)] .live],(au 1 (b2 6 0 2) bD),(c7 2 aU eZ),(au 1 I dX),(au 1 d6 cq)]
def Ih (bh eu aN:Int)(ak aR an:List Int)(cU:Bool)(cS:List Int)(cq:List Bool):((List b8)×(List (List bf))×(List Int))→fp
 | a=>⟨some 0,[(0,.ref 0 0 0 0),(4,.n .i64 bh),(5,.ref 4 0 0 0)],[[ab.mk 5 [(eJ eu aN 1 0 0 ak.length 2 0 0 aR.length 3 0 0 an.length)] .live],(au 1 I ak),(au 1 I aR),(au 1 I an),[ab.mk 6 [(eX 5 0 0 a.1.length cU cS 7 0 0 a.2.2.length bh 8 0 0 cq.length)] .live],(au 1 (b2 6 0 2) a.1),(c7 2 aU a.2.1),(au 1 I a.2.2),(au 1 d6 cq)]⟩
def xu (bh eu aN:Int)(ak aR an:List Int)(cU:Bool)(cS:List Int)(cq:List Bool)(dU:Int)(bD:List b8)(eZ:List (List bf))(dX:List Int):Option ((Int×(List b8)×(List (List bf))×(List Int))⊕((List b8)×(List (List bf))×(List Int))) :=
 if (decide (dU<eu))=true then
  if 0≤(U (bh+(1:Int)))∧(32:Int)*(U (bh+(1:Int)))≤281474976710656∧(U (bh+(1:Int)))<9223372036854775808 then
  if 0≤dU∧dU<(aR.length:Nat) then
  aR[(0+dU.toNat)]? >>= fun gP =>
  if (decide (gP<(0:Int)))=true then
   xH dU eu aN ak aR an >>= fun bZ =>
   Dw bh dU eZ.length ((U (bh+(1:Int))).toNat) eu bZ.1 bZ.2 ((bZ.2:Nat):Int) aN ak aR an cU cS bD dX cq 0 (eZ++[(List.replicate (U (bh+(1:Int))).toNat (⟨false,([]:List Int)⟩:bf):List bf)]) >>= fun ba =>
   oI 1 >>= fun cE =>
   ba[eZ.length]? >>= fun oC =>
   if 0≤(U (aN+dU))∧(U (aN+dU))<((U (bh+(1:Int))).toNat:Nat) then
   oC[(0+(U (aN+dU)).toNat)]? >>= fun mZ =>
   oI (U ((-1:Int)*gP)) >>= fun eK =>
   (ba.set eZ.length (oC.set (0+(U (aN+dU)).toNat) cE))[eZ.length]? >>= fun pH =>
   if 0≤bh∧bh<((U (bh+(1:Int))).toNat:Nat) then
   pH[(0+bh.toNat)]? >>= fun we =>
   if (bD++([(some (eZ.length,(U (bh+(1:Int))).toNat))]:List b8)).length*24≤140737488355328 then
   if (dX++([U (aN+dU)]:List Int)).length*8≤140737488355328 then
   some (.inl (U (dU+(1:Int)),bD++([(some (eZ.length,(U (bh+(1:Int))).toNat))]:List b8),(ba.set eZ.length (oC.set (0+(U (aN+dU)).toNat) cE)).set eZ.length (pH.set (0+bh.toNat) eK),dX++([U (aN+dU)]:List Int)))
   else none
   else none
   else none
   else none
  else
   xH dU eu aN ak aR an >>= fun bZ =>
   Dx bh dU eZ.length ((U (bh+(1:Int))).toNat) eu bZ.1 bZ.2 ((bZ.2:Nat):Int) aN ak aR an cU cS bD dX cq 0 (eZ++[(List.replicate (U (bh+(1:Int))).toNat (⟨false,([]:List Int)⟩:bf):List bf)]) >>= fun ba =>
   oI 1 >>= fun cE =>
   ba[eZ.length]? >>= fun oC =>
   if 0≤(U (aN+dU))∧(U (aN+dU))<((U (bh+(1:Int))).toNat:Nat) then
   oC[(0+(U (aN+dU)).toNat)]? >>= fun mZ =>
   oI (U ((1:Int)*gP)) >>= fun eK =>
   (ba.set eZ.length (oC.set (0+(U (aN+dU)).toNat) cE))[eZ.length]? >>= fun pH =>
   if 0≤bh∧bh<((U (bh+(1:Int))).toNat:Nat) then
   pH[(0+bh.toNat)]? >>= fun we =>
   if (bD++([(some (eZ.length,(U (bh+(1:Int))).toNat))]:List b8)).length*24≤140737488355328 then
   if (dX++([U (aN+dU)]:List Int)).length*8≤140737488355328 then
   some (.inl (U (dU+(1:Int)),bD++([(some (eZ.length,(U (bh+(1:Int))).toNat))]:List b8),(ba.set eZ.length (oC.set (0+(U (aN+dU)).toNat) cE)).set eZ.length (pH.set (0+bh.toNat) eK),dX++([U (aN+dU)]:List Int)))
   else none
   else none
   else none
   else none
  else none
  else none
 else
  some (.inr (bD,eZ,dX))
def Dy (bh eu aN:Int)(ak aR an:List Int)(cU:Bool)(cS:List Int)(cq:List Bool)(dU:Int)(bD:List b8)(eZ:List (List bf))(dX:List Int):Option ((List b8)×(List (List bf))×(List Int)):=iter (fun w:Int×(List b8)×(List (List bf))×(List Int)=>xu bh eu aN ak aR an cU cS cq w.1 w.2.1 w.2.2.1 w.2.2.2) (dU,bD,eZ,dX)
set_option maxHeartbeats 4000000 in
theorem U9 {bh eu aN:Int}{ak aR an:List Int}{cU:Bool}{cS:List Int}{cq:List Bool}{dU:Int}{bD:List b8}{eZ:List (List bf)}{dX:List Int}:bV (xu bh eu aN ak aR an cU cS cq dU bD eZ dX) (fV bt 205 4 31 [1,1,1,0,1,0,0] (HV bh eu aN ak aR an cU cS cq (dU,bD,eZ,dX)) (HV bh eu aN ak aR an cU cS cq) (Ih bh eu aN ak aR an cU cS cq)):=by
 unfold xu
 exact .ite (fun o =>
  .bn fun J =>
  .bn fun af =>
  .ay fun gP aJ =>
  (let t1:List cG:=[(ad 1),.ap true,(ad 2),.aI (bL 2 (.Cu 6 (eZ.length+0) (.cz [.b false,.isl 1 (([]:List Int).map I)])) 1),(ad 1),.aI (bL 6 (.cz (I gP)) 1)];
  have a5:=((.bo o J.1 (Int.le_refl (U (bh+(1:Int)))) J.2.1 J.2.2 (congrArg (· + 0) (aaK (iX .live 2 aU eZ) rfl)) af.1 af.2 (.aC (cD I aJ))):cW _);
  .ite (fun bp =>
  .ay fun bZ bu =>
  .ay fun ba da =>
  .ay fun cE eF =>
  .ay fun oC d8 =>
  .bn fun gK =>
  .ay fun mZ g7 =>
  .ay fun eK j0 =>
  .ay fun pH jS =>
  .bn fun n1 =>
  .ay fun we us =>
  .bn fun qy =>
  .bn fun sD =>
  .ret (let aL:=eJ eu aN 1 0 0 ak.length 2 0 0 aR.length 3 0 0 an.length;let b1:=(U (bh+(1:Int)));let cI:=di [0,1,2,3,4,40,5,56,8];let eU:=U (aN+dU);let bg:=(so (iX .live 2 aU ba) eZ.length (sl (ej aU oC) (0+eU.toNat) cE (rfl:(setCells (aU mZ) 0 (aU cE))=aU cE)));let gC:=(dX++([eU]:List Int));let hq:=(bD++([(some (eZ.length,b1.toNat))]:List b8));let fY:=di [0,1,2,3,4,6,5,7,8];let ic:=l2 (iX .live 2 aU ba) lJ d8;bQ (t1.append [.ap true,(ad 1),.aI (bL 2 (.call {aO:=(ln [0,1,2,3]),cu:=[.bB [ab.mk 5 [aL] .live],.pure,.pure,.pure],ac:=[ii,ii],r:= .bx 1 0 bZ.1 bZ.2,dg:=[[ab.mk 5 [aL] .live],(au 1 I ak),(au 1 I aR),(au 1 I an)],eL:=ii,fq:=[.bB [ab.mk 5 [aL] .live],.pure,.pure,.pure],dZ:=[0,1,2,3],dr:=false}) 2),.bm [0,1,2,3,4,6,5,7,8] [.box [.id,.id,.id,.id,.id],.pure,.pure,.pure,.box [.id,.id,.id,.id,.id,.id],.bB (c7 2 aU (eZ++[(List.replicate b1.toNat (⟨false,([]:List Int)⟩:bf):List bf)])),.bB (au 1 (b2 5 0 2) bD),.pure,.pure] (bX [0,4,5,6,7,8,34,35,51,52,53]),(Ie bh dU eZ.length (b1.toNat) eu bZ.1 bZ.2 ((bZ.2:Nat):Int) aN ak aR an cU cS bD dX cq ba).gL,.aI (av 7 (aq (bC 1 (.agg (aU cE)) false) (aq (.hT (ab.mk 2 (oC.map aU) .live) []) (aq (.hT (ab.mk 2 (oC.map aU) .live) (aU mZ)) [])))),.aI (av 9 (aq (.cz (I gP)) (av 1 (aq (bC 1 (.agg (aU eK)) false) (aq (.hT (ab.mk 2 (pH.map aU) .live) []) (aq (.hT (ab.mk 2 (pH.map aU) .live) (aU we)) [])))))),.aI (av 6 (aq (.fF 93 (nC 5 0 2 (some (eZ.length,b1.toNat))) .none) (aq (.a1 (hq.length)) (av 3 [])))),.aI (bL 12 (.a1 (gC.length)) 3),(ad 2),.bm [0,1,2,3,4,40,5,56,8] [.box [.id,.id,.id,.id,.id],.pure,.pure,.pure,.box [.id,.id,.id,.id,.id,.id],.bB (au 1 (b2 6 0 2) hq),.bB (c7 2 aU ((ba.set eZ.length (oC.set (0+eU.toNat) cE)).set eZ.length (pH.set (0+bh.toNat) eK))),.dY (au 1 I gC),.pure] (bX [0,4,5,34,35])]) (a5.a1 (.bo bp (hr (nE [0,1,2,3]) 5 [aL] [aL] rfl) (hi 5 [aL]) (du 1 aA ak) (du 1 aA aR) (du 1 aA an) (hr (hR [0,1,2,3]) 5 [aL] [aL] rfl) (hi 5 [aL]) (.bo (du 1 aA ak) (du 1 aA aR) (du 1 aA an) (Nv bZ bu) (aD 1 .live aA ak) (aD 1 .live aA aR) (aD 1 .live aA an) (qP (cg:=fY) (Q8 (iX .live 2 aU eZ) (RK sQ 14 6 (eZ.length+0) (kr aU b1.toNat (⟨false,([]:List Int)⟩:bf)) (RL 14 6 (eZ.length+0)))) (pS eC)) (.bo (fw fY 5 6 0 2 rfl bD) (aD 1 .live aA dX) (aD 1 .live eD cq) (VV da) (sd cE eF) ic gK.1 gK.2 (.bo ic (cD aU g7) af.1 af.2 (cD I aJ) (sd eK j0) (l2 bg lJ jS) n1.1 (.bo n1.2 (l2 bg lJ jS) (cD aU us) (.s2 5 0 2 eZ.length (b1.toNat):k0 (.bx 5 (eZ.length+0) 0 (b1.toNat)) (nC 5 0 2 (some (eZ.length,b1.toNat)))) (mi (b2 5 0 2) (some (eZ.length,b1.toNat))) (qF (b2 5 0 2) bD) (n7 (b2 5 0 2) bD (some (eZ.length,b1.toNat))) qy (.bo (mi I eU) (qF I dX) (n7 I dX eU) sD (aD 1 .live aA ak) (aD 1 .live aA aR) (aD 1 .live aA an) (fL (wB (cg:=cI) 1 .live (b2 6 0 2) (qG (b2 5 0 2) bD (some (eZ.length,b1.toNat))) (Bb (rfl:cI 5=some 6))) (l0 (cg:=cI))) (.dh (qP (cg:=cI) (so bg eZ.length (sl (ej aU pH) (0+bh.toNat) eK (rfl:(setCells (aU we) 0 (aU eK))=aU eK))) (pS eC)) (eB 1 .live (qG I dX eU)) (aD 1 .live aA gC) (aD 1 .live eD cq)))))))))))
  (fun bp =>
  .ay fun bZ bu =>
  .ay fun ba da =>
  .ay fun cE eF =>
  .ay fun oC d8 =>
  .bn fun gK =>
  .ay fun mZ g7 =>
  .ay fun eK j0 =>
  .ay fun pH jS =>
  .bn fun n1 =>
  .ay fun we us =>
  .bn fun qy =>
  .bn fun sD =>
  .ret (let jh:=eJ eu aN 1 0 0 ak.length 2 0 0 aR.length 3 0 0 an.length;let k8:=(U (bh+(1:Int)));let nu:=di [0,1,2,3,4,40,5,56,8];let nv:=U (aN+dU);let k7:=(so (iX .live 2 aU ba) eZ.length (sl (ej aU oC) (0+nv.toNat) cE (rfl:(setCells (aU mZ) 0 (aU cE))=aU cE)));let mf:=(dX++([nv]:List Int));let p3:=(bD++([(some (eZ.length,k8.toNat))]:List b8));let oD:=di [0,1,2,3,4,6,5,7,8];let nw:=l2 (iX .live 2 aU ba) lJ d8;bQ (t1.append [.ap false,.aI (bL 2 (.call {aO:=(ln [0,1,2,3]),cu:=[.bB [ab.mk 5 [jh] .live],.pure,.pure,.pure],ac:=[ii,ii],r:= .bx 1 0 bZ.1 bZ.2,dg:=[[ab.mk 5 [jh] .live],(au 1 I ak),(au 1 I aR),(au 1 I an)],eL:=ii,fq:=[.bB [ab.mk 5 [jh] .live],.pure,.pure,.pure],dZ:=[0,1,2,3],dr:=false}) 2),.bm [0,1,2,3,4,6,5,7,8] [.box [.id,.id,.id,.id,.id],.pure,.pure,.pure,.box [.id,.id,.id,.id,.id,.id],.bB (c7 2 aU (eZ++[(List.replicate k8.toNat (⟨false,([]:List Int)⟩:bf):List bf)])),.bB (au 1 (b2 5 0 2) bD),.pure,.pure] (bX [0,4,5,6,7,8,34,35,51,52,53]),(Ig bh dU eZ.length (k8.toNat) eu bZ.1 bZ.2 ((bZ.2:Nat):Int) aN ak aR an cU cS bD dX cq ba).gL,.aI (av 7 (aq (bC 1 (.agg (aU cE)) false) (aq (.hT (ab.mk 2 (oC.map aU) .live) []) (aq (.hT (ab.mk 2 (oC.map aU) .live) (aU mZ)) [])))),.aI (av 9 (aq (.cz (I gP)) (av 1 (aq (bC 1 (.agg (aU eK)) false) (aq (.hT (ab.mk 2 (pH.map aU) .live) []) (aq (.hT (ab.mk 2 (pH.map aU) .live) (aU we)) [])))))),.aI (av 6 (aq (.fF 93 (nC 5 0 2 (some (eZ.length,k8.toNat))) .none) (aq (.a1 (p3.length)) (av 3 [])))),.aI (bL 12 (.a1 (mf.length)) 3),(ad 2),.bm [0,1,2,3,4,40,5,56,8] [.box [.id,.id,.id,.id,.id],.pure,.pure,.pure,.box [.id,.id,.id,.id,.id,.id],.bB (au 1 (b2 6 0 2) p3),.bB (c7 2 aU ((ba.set eZ.length (oC.set (0+nv.toNat) cE)).set eZ.length (pH.set (0+bh.toNat) eK))),.dY (au 1 I mf),.pure] (bX [0,4,5,34,35])]) (a5.a1 (.bo bp (hr (nE [0,1,2,3]) 5 [jh] [jh] rfl) (hi 5 [jh]) (du 1 aA ak) (du 1 aA aR) (du 1 aA an) (hr (hR [0,1,2,3]) 5 [jh] [jh] rfl) (hi 5 [jh]) (.bo (du 1 aA ak) (du 1 aA aR) (du 1 aA an) (Nv bZ bu) (aD 1 .live aA ak) (aD 1 .live aA aR) (aD 1 .live aA an) (qP (cg:=oD) (Q8 (iX .live 2 aU eZ) (RK sQ 14 6 (eZ.length+0) (kr aU k8.toNat (⟨false,([]:List Int)⟩:bf)) (RL 14 6 (eZ.length+0)))) (pS eC)) (.bo (fw oD 5 6 0 2 rfl bD) (aD 1 .live aA dX) (aD 1 .live eD cq) (VW da) (sd cE eF) nw gK.1 gK.2 (.bo nw (cD aU g7) af.1 af.2 (cD I aJ) (sd eK j0) (l2 k7 lJ jS) n1.1 (.bo n1.2 (l2 k7 lJ jS) (cD aU us) (.s2 5 0 2 eZ.length (k8.toNat):k0 (.bx 5 (eZ.length+0) 0 (k8.toNat)) (nC 5 0 2 (some (eZ.length,k8.toNat)))) (mi (b2 5 0 2) (some (eZ.length,k8.toNat))) (qF (b2 5 0 2) bD) (n7 (b2 5 0 2) bD (some (eZ.length,k8.toNat))) qy (.bo (mi I nv) (qF I dX) (n7 I dX nv) sD (aD 1 .live aA ak) (aD 1 .live aA aR) (aD 1 .live aA an) (fL (wB (cg:=nu) 1 .live (b2 6 0 2) (qG (b2 5 0 2) bD (some (eZ.length,k8.toNat))) (Bb (rfl:nu 5=some 6))) (l0 (cg:=nu))) (.dh (qP (cg:=nu) (so k7 eZ.length (sl (ej aU pH) (0+bh.toNat) eK (rfl:(setCells (aU we) 0 (aU eK))=aU eK))) (pS eC)) (eB 1 .live (qG I dX nv)) (aD 1 .live aA mf) (aD 1 .live eD cq)))))))))))))
  (fun o =>
  .ret (let kk:=di [0,1,2,3,4,5,6,7,8];bQ [(ad 1),.ap false,.bm [0,1,2,3,4,5,6,7,8] [.box [.id,.id,.id,.id,.id],.pure,.pure,.pure,.box [.id,.id,.id,.id,.id,.id],.bB (au 1 (b2 6 0 2) bD),.bB (c7 2 aU eZ),.pure,.pure] (bX [0,4,5])] (.h6 o (aD 1 .live aA ak) (aD 1 .live aA aR) (aD 1 .live aA an) (fw kk 6 6 0 2 rfl bD) (fx kk 2 eC eZ) (aD 1 .live aA dX) (aD 1 .live eD cq))))
theorem VX {bh eu aN:Int}{ak aR an:List Int}{cU:Bool}{cS:List Int}{cq:List Bool}{dU:Int}{bD:List b8}{eZ:List (List bf)}{dX:List Int}{r} (h:Dy bh eu aN ak aR an cU cS cq dU bD eZ dX=some r):fW bt 205 4 31 [1,1,1,0,1,0,0] (HV bh eu aN ak aR an cU cS cq) (Ih bh eu aN ak aR an cU cS cq) (dU,bD,eZ,dX) r:=fZ (fun _=>U9) h
def HW (bh pi aZ aN:Int)(ak aR an:List Int)(cU:Bool)(cS:List Int)(cp:List b8)(ff:List (List bf))(cq:List Int):(Int×(List Int)×(List Bool))→S:=fun (hj,bD,fk)=>fh [(0,.ref 0 0 0 0),(4,.n .i64 bh),(5,.ref 4 0 0 0),(11,.bx 5 0 0 bD.length),(117,.n .i64 pi),(118,.n .i64 hj)] [[ab.mk 5 [(eJ aZ aN 1 0 0 ak.length 2 0 0 aR.length 3 0 0 an.length)] .live],(au 1 I ak),(au 1 I aR),(au 1 I an),[ab.mk 6 [(eX 6 0 0 cp.length cU cS 8 0 0 cq.length bh 9 0 0 fk.length)] .live],(au 1 I bD),(au 1 (b2 7 0 2) cp),(c7 2 aU ff),(au 1 I cq),(au 1 d6 fk)]
def Ii (bh pi aZ aN:Int)(ak aR an:List Int)(cU:Bool)(cS:List Int)(cp:List b8)(ff:List (List bf))(cq:List Int):((List Int)×(List Bool))→fp
 | a=>⟨some 4,[(0,.ref 0 0 0 0),(4,.n .i64 bh),(5,.ref 4 0 0 0),(11,.bx 5 0 0 a.1.length)],[[ab.mk 5 [(eJ aZ aN 1 0 0 ak.length 2 0 0 aR.length 3 0 0 an.length)] .live],(au 1 I ak),(au 1 I aR),(au 1 I an),[ab.mk 6 [(eX 6 0 0 cp.length cU cS 8 0 0 cq.length bh 9 0 0 a.2.length)] .live],(au 1 I a.1),(au 1 (b2 7 0 2) cp),(c7 2 aU ff),(au 1 I cq),(au 1 d6 a.2)]⟩
def xv (bh pi aZ aN:Int)(ak aR an:List Int)(cU:Bool)(cS:List Int)(cp:List b8)(ff:List (List bf))(cq:List Int)(hj:Int)(bD:List Int)(fk:List Bool):Option ((Int×(List Int)×(List Bool))⊕((List Int)×(List Bool))) :=
 if (decide (hj<pi))=true then
  if 0≤hj∧hj<(fk.length:Nat) then
  if (0+hj.toNat)<fk.length then
  if (decide (aN≤hj))=true then
   if 0≤hj∧hj<(bD.length:Nat) then
   if (0+hj.toNat)<bD.length then
   some (.inl (U (hj+(1:Int)),bD.set (0+hj.toNat) (-1),fk.set (0+hj.toNat) (decide (hj<aN))))
   else none
   else none
  else
   some (.inl (U (hj+(1:Int)),bD,fk.set (0+hj.toNat) (decide (hj<aN))))
  else none
  else none
 else
  some (.inr (bD,fk))
def Dz (bh pi aZ aN:Int)(ak aR an:List Int)(cU:Bool)(cS:List Int)(cp:List b8)(ff:List (List bf))(cq:List Int)(hj:Int)(bD:List Int)(fk:List Bool):Option ((List Int)×(List Bool)):=iter (fun w:Int×(List Int)×(List Bool)=>xv bh pi aZ aN ak aR an cU cS cp ff cq w.1 w.2.1 w.2.2) (hj,bD,fk)
theorem Va {bh pi aZ aN:Int}{ak aR an:List Int}{cU:Bool}{cS:List Int}{cp:List b8}{ff:List (List bf)}{cq:List Int}{hj:Int}{bD:List Int}{fk:List Bool}:bV (xv bh pi aZ aN ak aR an cU cS cp ff cq hj bD fk) (fV bt 205 4 31 [1,1,1,1,1,0,1,0,0] (HW bh pi aZ aN ak aR an cU cS cp ff cq (hj,bD,fk)) (HW bh pi aZ aN ak aR an cU cS cp ff cq) (Ii bh pi aZ aN ak aR an cU cS cp ff cq)):=by
 unfold xv
 exact .ite (fun o =>
  .bn fun J =>
  .bn fun af =>
  (let t1:List cG:=[(ad 1),.ap true,(ad 2),.aI (av 12 (aq .c4 [])),(ad 6)];
  have a5:=((.eR o J.1 J.2 (hB d6 af) (g8 1)):cW _);
  .ite (fun aF =>
  .bn fun aJ =>
  .bn fun bp =>
  .ret (let aL:=di [0,1,2,3,4,5,6,7,8,9];bQ (t1.append [.ap true,.aI (av 3 (aq .c4 [])),(ad 2),.bm [0,1,2,3,4,5,6,7,8,9] [.box [.id,.id,.id,.id,.id],.pure,.pure,.pure,.box [.id,.id,.id,.id,.id,.len ((fk.set (0+hj.toNat) (decide (hj<aN))).length)],.dY (au 1 I (bD.set (0+hj.toNat) (-1))),.bB (au 1 (b2 7 0 2) cp),.bB (c7 2 aU ff),.pure,.dY (au 1 d6 (fk.set (0+hj.toNat) (decide (hj<aN))))] [(0,ii),(4,ii),(5,ii),(11,gz ((bD.set (0+hj.toNat) (-1)).length)),(117,ii),(118,ii)]]) (a5.a1 (.bo aF aJ.1 aJ.2 (hB I bp) (g8 1) (aD 1 .live aA ak) (aD 1 .live aA aR) (aD 1 .live aA an) (.bo (hg (fP fk) (0+hj.toNat) (decide (hj<aN))) (eB 1 .live (gi (ej I bD) (0+hj.toNat) (-1))) (aD 1 .live aA (bD.set (0+hj.toNat) (-1))) (fw aL 7 7 0 2 rfl cp) (fx aL 2 eC ff) (aD 1 .live aA cq) (eB 1 .live (gi (ej d6 fk) (0+hj.toNat) (decide (hj<aN)))) (aD 1 .live eD (fk.set (0+hj.toNat) (decide (hj<aN)))) (.aC (hg (fP bD) (0+hj.toNat) (-1))))))))
  (fun aF =>
  .ret (let bg:=di [0,1,2,3,4,5,6,7,8,9];bQ (t1.append [.ap false,(ad 2),.bm [0,1,2,3,4,5,6,7,8,9] [.box [.id,.id,.id,.id,.id],.pure,.pure,.pure,.box [.id,.id,.id,.id,.id,.len ((fk.set (0+hj.toNat) (decide (hj<aN))).length)],.pure,.bB (au 1 (b2 7 0 2) cp),.bB (c7 2 aU ff),.pure,.dY (au 1 d6 (fk.set (0+hj.toNat) (decide (hj<aN))))] (bX [0,4,5,11,117,118])]) (a5.a1 (.bo aF (aD 1 .live aA ak) (aD 1 .live aA aR) (aD 1 .live aA an) (hg (fP fk) (0+hj.toNat) (decide (hj<aN))) (aD 1 .live aA bD) (fw bg 7 7 0 2 rfl cp) (fx bg 2 eC ff) (.cd (aD 1 .live aA cq) (eB 1 .live (gi (ej d6 fk) (0+hj.toNat) (decide (hj<aN)))) (aD 1 .live eD (fk.set (0+hj.toNat) (decide (hj<aN)))))))))))
  (fun o =>
  .ret (let b1:=di [0,1,2,3,4,5,6,7,8,9];bQ [(ad 1),.ap false,.bm [0,1,2,3,4,5,6,7,8,9] [.box [.id,.id,.id,.id,.id],.pure,.pure,.pure,.box [.id,.id,.id,.id,.id,.id],.pure,.bB (au 1 (b2 7 0 2) cp),.bB (c7 2 aU ff),.pure,.pure] (bX [0,4,5,11])] (.bo o (aD 1 .live aA ak) (aD 1 .live aA aR) (aD 1 .live aA an) (aD 1 .live aA bD) (fw b1 7 7 0 2 rfl cp) (fx b1 2 eC ff) (aD 1 .live aA cq) (.aC (aD 1 .live eD fk)))))
theorem VY {bh pi aZ aN:Int}{ak aR an:List Int}{cU:Bool}{cS:List Int}{cp:List b8}{ff:List (List bf)}{cq:List Int}{hj:Int}{bD:List Int}{fk:List Bool}{r} (h:Dz bh pi aZ aN ak aR an cU cS cp ff cq hj bD fk=some r):fW bt 205 4 31 [1,1,1,1,1,0,1,0,0] (HW bh pi aZ aN ak aR an cU cS cp ff cq) (Ii bh pi aZ aN ak aR an cU cS cp ff cq) (hj,bD,fk) r:=fZ (fun _=>Va) h
def HX (bh pj aZ aN:Int)(ak aR an:List Int)(cU:Bool)(cS:List Int)(e6:Int)(bD:List Int)(cp:List b8)(ff:List (List bf))(cq:List Bool):Int→S:=fun nb=>fh [(0,.ref 0 0 0 0),(4,.n .i64 bh),(5,.ref 4 0 0 0),(149,.bx 5 0 0 bD.length),(150,.n .i64 pj),(151,.n .i64 nb)] [[ab.mk 5 [(eJ aZ aN 1 0 0 ak.length 2 0 0 aR.length 3 0 0 an.length)] .live],(au 1 I ak),(au 1 I aR),(au 1 I an),[ab.mk 6 [(eX 6 0 0 cp.length cU cS 5 0 0 bD.length e6 8 0 0 cq.length)] .live],(au 1 I bD),(au 1 (b2 7 0 2) cp),(c7 2 aU ff),(au 1 d6 cq)]
def Df (bh pj aZ aN:Int)(ak aR an:List Int)(cU:Bool)(cS:List Int)(e6:Int)(bD:List Int)(cp:List b8)(ff:List (List bf))(cq:List Bool):((Unit)⊕(Unit))→fp
 | .inl a=>⟨some 6,[(0,.ref 0 0 0 0),(5,.ref 4 0 0 0)],[[ab.mk 5 [(eJ aZ aN 1 0 0 ak.length 2 0 0 aR.length 3 0 0 an.length)] .live],(au 1 I ak),(au 1 I aR),(au 1 I an),[ab.mk 6 [(eX 5 0 0 cp.length cU cS 7 0 0 bD.length e6 8 0 0 cq.length)] .live],(au 1 (b2 6 0 2) cp),(c7 2 aU ff),(au 1 I bD),(au 1 d6 cq)]⟩
 | .inr a=>⟨none,[(2,.iw),(3,.b false)],[[ab.mk 5 [(eJ aZ aN 1 0 0 ak.length 2 0 0 aR.length 3 0 0 an.length)] .live],(au 1 I ak),(au 1 I aR),(au 1 I an)]⟩
def xw (bh pj aZ aN:Int)(ak aR an:List Int)(cU:Bool)(cS:List Int)(e6:Int)(bD:List Int)(cp:List b8)(ff:List (List bf))(cq:List Bool)(nb:Int):Option ((Int)⊕((Unit)⊕(Unit))) :=
 if (decide (nb<pj))=true then
  if 0≤nb∧nb<(bD.length:Nat) then
  bD[(0+nb.toNat)]? >>= fun aM =>
  if (decide (aN≤aM))=true then
   if 0≤nb∧nb<(cp.length:Nat) then
   cp[(0+nb.toNat)]? >>= fun gD =>
   gD >>= fun CD =>
   ff[CD.1]? >>= fun FK =>
   if 0≤bh∧bh<(CD.2:Nat) then
   FK[(0+bh.toNat)]? >>= fun L1 =>
   o9 L1 >>= fun df =>
   if (decide ((0:Int)<df))=true then
    some (.inr (.inr ()))
   else
    some (.inl (U (nb+(1:Int))))
   else none
   else none
  else
   some (.inl (U (nb+(1:Int))))
  else none
 else
  some (.inr (.inl ()))
def DA (bh pj aZ aN:Int)(ak aR an:List Int)(cU:Bool)(cS:List Int)(e6:Int)(bD:List Int)(cp:List b8)(ff:List (List bf))(cq:List Bool)(nb:Int):Option ((Unit)⊕(Unit)):=iter (fun w:Int=>xw bh pj aZ aN ak aR an cU cS e6 bD cp ff cq w) nb
theorem Vb {bh pj aZ aN:Int}{ak aR an:List Int}{cU:Bool}{cS:List Int}{e6:Int}{bD:List Int}{cp:List b8}{ff:List (List bf)}{cq:List Bool}{nb:Int}:bV (xw bh pj aZ aN ak aR an cU cS e6 bD cp ff cq nb) (fV bt 205 4 31 [1,1,1,1,1,1,1,0,1,0,0] (HX bh pj aZ aN ak aR an cU cS e6 bD cp ff cq nb) (HX bh pj aZ aN ak aR an cU cS e6 bD cp ff cq) (Df bh pj aZ aN ak aR an cU cS e6 bD cp ff cq)):=by
 unfold xw
 exact .ite (fun o =>
  .bn fun J =>
  .ay fun aM aF =>
  (let t1:List cG:=[(ad 1),.ap true,.aI (bL 2 (.cz (I aM)) 2)];
  .ite (fun aJ =>
  .bn fun bp =>
  .ay fun gD bu =>
  .ay fun CD da =>
  .ay fun FK eF =>
  .bn fun d4 =>
  .ay fun L1 gK =>
  .ay fun df g7 =>
  (let cI:=l2 (iX .live 2 aU ff) lJ eF;let t2:List cG:=t1.append [.aI (av 13 (aq (.cz ((b2 7 0 2) gD)) (av 1 (aq (.fF 169 (.bx 7 (CD.1+0) 0 CD.2) (.hT (ab.mk 2 (FK.map aU) .live) [])) (aq (.hT (ab.mk 2 (FK.map aU) .live) (aU L1)) (aq (bC 1 (.n .i64 df) true) (av 1 (aq (.ap true) []))))))))];
  have gh:=((.bo o J.1 J.2 (cD I aF) aJ aJ aJ aJ (.bo aJ aJ bp.1 bp.2 aJ (cD (b2 7 0 2) bu) aJ aJ (.bo (pc (eO:=7) (c:=0) (sz:=2) da) cI d4.1 d4.2 aJ cI (cD aU gK) aJ (.dh (sM df g7) (cl.n .i64 df) aJ aJ)))):cW _);
  .ite (fun kA =>
  .ret (bQ (t2.append [.ap true,(ad 2),.bm [0,1,2,3] [.box [.id,.id,.id,.id,.id],.pure,.pure,.pure] (bX [2,3])]) (gh.a1 (.dh kA (aD 1 .live aA ak) (aD 1 .live aA aR) (aD 1 .live aA an)))))
  (fun kA =>
  .ret (let aL:=di [0,1,2,3,4,5,6,7,8];bQ (t2.append [.ap false,(ad 2),.bm [0,1,2,3,4,5,6,7,8] [.box [.id,.id,.id,.id,.id],.pure,.pure,.pure,.box [.id,.id,.id,.id,.id,.id],.pure,.bB (au 1 (b2 7 0 2) cp),.bB (c7 2 aU ff),.pure] (bX [0,4,5,149,150,151])]) (gh.a1 (.h6 kA (aD 1 .live aA ak) (aD 1 .live aA aR) (aD 1 .live aA an) (aD 1 .live aA bD) (fw aL 7 7 0 2 rfl cp) (fx aL 2 eC ff) (aD 1 .live eD cq)))))))
  (fun aJ =>
  .ret (let bg:=di [0,1,2,3,4,5,6,7,8];bQ (t1.append [.aI (av 7 (dm 12 (aq (.ap false) []))),.ap false,(ad 2),.bm [0,1,2,3,4,5,6,7,8] [.box [.id,.id,.id,.id,.id],.pure,.pure,.pure,.box [.id,.id,.id,.id,.id,.id],.pure,.bB (au 1 (b2 7 0 2) cp),.bB (c7 2 aU ff),.pure] (bX [0,4,5,149,150,151])]) (.bo o J.1 J.2 (cD I aF) aJ aJ aJ aJ (.bo aJ aJ aJ aJ aJ aJ aJ aJ (.bo aJ fv (aD 1 .live aA ak) (aD 1 .live aA aR) (aD 1 .live aA an) (aD 1 .live aA bD) (fw bg 7 7 0 2 rfl cp) (fx bg 2 eC ff) (.aC (aD 1 .live eD cq)))))))))
  (fun o =>
  .ret (let b1:=di [0,1,2,3,4,6,7,5,8];bQ [(ad 1),.ap false,.bm [0,1,2,3,4,6,7,5,8] [.box [.id,.id,.id,.id,.id],.pure,.pure,.pure,.box [.id,.id,.id,.id,.id,.id],.bB (au 1 (b2 6 0 2) cp),.bB (c7 2 aU ff),.pure,.pure] (bX [0,5])] (.h6 o (aD 1 .live aA ak) (aD 1 .live aA aR) (aD 1 .live aA an) (fw b1 6 7 0 2 rfl cp) (fx b1 2 eC ff) (aD 1 .live aA bD) (aD 1 .live eD cq))))
theorem NH {bh pj aZ aN:Int}{ak aR an:List Int}{cU:Bool}{cS:List Int}{e6:Int}{bD:List Int}{cp:List b8}{ff:List (List bf)}{cq:List Bool}{nb:Int}{r} (h:DA bh pj aZ aN ak aR an cU cS e6 bD cp ff cq nb=some r):fW bt 205 4 31 [1,1,1,1,1,1,1,0,1,0,0] (HX bh pj aZ aN ak aR an cU cS e6 bD cp ff cq) (Df bh pj aZ aN ak aR an cU cS e6 bD cp ff cq) nb r:=fZ (fun _=>Vb) h
def HY (pk aZ aN:Int)(ak aR an:List Int)(cU:Bool)(cS:List Int)(e6:Int)(bD:List b8)(eZ:List (List bf))(dX:List Int):(Int×(List Bool))→S:=fun (kQ,cq)=>fh [(0,.ref 0 0 0 0),(5,.ref 4 0 0 0),(181,.n .i64 pk),(182,.n .i64 kQ)] [[ab.mk 5 [(eJ aZ aN 1 0 0 ak.length 2 0 0 aR.length 3 0 0 an.length)] .live],(au 1 I ak),(au 1 I aR),(au 1 I an),[ab.mk 6 [(eX 5 0 0 bD.length cU cS 7 0 0 dX.length e6 8 0 0 cq.length)] .live],(au 1 (b2 6 0 2) bD),(c7 2 aU eZ),(au 1 I dX),(au 1 d6 cq)]
def Ij (pk aZ aN:Int)(ak aR an:List Int)(cU:Bool)(cS:List Int)(e6:Int)(bD:List b8)(eZ:List (List bf))(dX:List Int):(List Bool)→fp
 | a=>⟨some 8,[(0,.ref 0 0 0 0),(5,.ref 4 0 0 0)],[[ab.mk 5 [(eJ aZ aN 1 0 0 ak.length 2 0 0 aR.length 3 0 0 an.length)] .live],(au 1 I ak),(au 1 I aR),(au 1 I an),[ab.mk 6 [(eX 5 0 0 bD.length cU cS 7 0 0 dX.length e6 8 0 0 a.length)] .live],(au 1 (b2 6 0 2) bD),(c7 2 aU eZ),(au 1 I dX),(au 1 d6 a)]⟩
def xx (pk aZ aN:Int)(ak aR an:List Int)(cU:Bool)(cS:List Int)(e6:Int)(bD:List b8)(eZ:List (List bf))(dX:List Int)(kQ:Int)(cq:List Bool):Option ((Int×(List Bool))⊕((List Bool))) :=
 if (decide (kQ<pk))=true then
  if 0≤kQ∧kQ<(cq.length:Nat) then
  if (0+kQ.toNat)<cq.length then
  some (.inl (U (kQ+(1:Int)),cq.set (0+kQ.toNat) (decide (kQ<aN))))
  else none
  else none
 else
  some (.inr cq)
def DB (pk aZ aN:Int)(ak aR an:List Int)(cU:Bool)(cS:List Int)(e6:Int)(bD:List b8)(eZ:List (List bf))(dX:List Int)(kQ:Int)(cq:List Bool):Option ((List Bool)):=iter (fun w:Int×(List Bool)=>xx pk aZ aN ak aR an cU cS e6 bD eZ dX w.1 w.2) (kQ,cq)
theorem Vc {pk aZ aN:Int}{ak aR an:List Int}{cU:Bool}{cS:List Int}{e6:Int}{bD:List b8}{eZ:List (List bf)}{dX:List Int}{kQ:Int}{cq:List Bool}:bV (xx pk aZ aN ak aR an cU cS e6 bD eZ dX kQ cq) (fV bt 205 4 31 [1,1,1,1,1,1,1,1,0,1,0,0] (HY pk aZ aN ak aR an cU cS e6 bD eZ dX (kQ,cq)) (HY pk aZ aN ak aR an cU cS e6 bD eZ dX) (Ij pk aZ aN ak aR an cU cS e6 bD eZ dX)):=by
 unfold xx
 exact .ite (fun o =>
  .bn fun J =>
  .bn fun af =>
  .ret (let aL:=di [0,1,2,3,4,5,6,7,8];bQ [(ad 1),.ap true,(ad 2),.aI (av 12 (aq .c4 [])),(ad 2),.bm [0,1,2,3,4,5,6,7,8] [.box [.id,.id,.id,.id,.id],.pure,.pure,.pure,.box [.id,.id,.id,.id,.id,.len ((cq.set (0+kQ.toNat) (decide (kQ<aN))).length)],.bB (au 1 (b2 6 0 2) bD),.bB (c7 2 aU eZ),.pure,.dY (au 1 d6 (cq.set (0+kQ.toNat) (decide (kQ<aN))))] (bX [0,5,181,182])] (.bo o J.1 J.2 (hB d6 af) (g8 1) (aD 1 .live aA ak) (aD 1 .live aA aR) (aD 1 .live aA an) (.fG (hg (fP cq) (0+kQ.toNat) (decide (kQ<aN))) (fw aL 6 6 0 2 rfl bD) (fx aL 2 eC eZ) (aD 1 .live aA dX) (eB 1 .live (gi (ej d6 cq) (0+kQ.toNat) (decide (kQ<aN)))) (aD 1 .live eD (cq.set (0+kQ.toNat) (decide (kQ<aN))))))))
  (fun o =>
  .ret (let bg:=di [0,1,2,3,4,5,6,7,8];bQ [(ad 1),.ap false,.bm [0,1,2,3,4,5,6,7,8] [.box [.id,.id,.id,.id,.id],.pure,.pure,.pure,.box [.id,.id,.id,.id,.id,.id],.bB (au 1 (b2 6 0 2) bD),.bB (c7 2 aU eZ),.pure,.pure] (bX [0,5])] (.h6 o (aD 1 .live aA ak) (aD 1 .live aA aR) (aD 1 .live aA an) (fw bg 6 6 0 2 rfl bD) (fx bg 2 eC eZ) (aD 1 .live aA dX) (aD 1 .live eD cq))))
theorem VZ {pk aZ aN:Int}{ak aR an:List Int}{cU:Bool}{cS:List Int}{e6:Int}{bD:List b8}{eZ:List (List bf)}{dX:List Int}{kQ:Int}{cq:List Bool}{r} (h:DB pk aZ aN ak aR an cU cS e6 bD eZ dX kQ cq=some r):fW bt 205 4 31 [1,1,1,1,1,1,1,1,0,1,0,0] (HY pk aZ aN ak aR an cU cS e6 bD eZ dX) (Ij pk aZ aN ak aR an cU cS e6 bD eZ dX) (kQ,cq) r:=fZ (fun _=>Vc) h
def u5 (b5 cC:Int)(b6 dl dc:List Int):Option ((Bool×(List Int)×Int×(List b8)×(List Int)×(List Bool)×(List (List bf)))⊕(Unit)) :=
 oI 1 >>= fun ae =>
 if 0≤(U (cC+b5))∧(1:Int)*(U (cC+b5))≤281474976710656∧(U (cC+b5))<9223372036854775808 then
 Dy (U (cC+b5)) b5 cC b6 dl dc ae.db ae.cN (List.replicate (U (cC+b5)).toNat false:List Bool) 0 ([]:List b8) ([]:List (List bf)) ([]:List Int) >>= fun aw =>
 if 0≤(U (cC+b5))∧(8:Int)*(U (cC+b5))≤281474976710656∧(U (cC+b5))<9223372036854775808 then
 Dz (U (cC+b5)) (((U (cC+b5)).toNat:Nat):Int) b5 cC b6 dl dc ae.db ae.cN aw.1 aw.2.1 aw.2.2 0 (List.replicate (U (cC+b5)).toNat 0:List Int) (List.replicate (U (cC+b5)).toNat false:List Bool) >>= fun bZ =>
 sL ae.db ae.cN (U (cC+b5)) aw.1 aw.2.1 aw.2.2 bZ.2 bZ.1 >>= fun ba =>
 DA (U (cC+b5)) ((ba.2.2.2.2.1.length:Nat):Int) b5 cC b6 dl dc ba.2.1 ba.2.2.1 (U (cC+b5)) ba.2.2.2.2.1 aw.1 ba.2.2.2.1 ba.2.2.2.2.2 0 >>= fun cE =>
 match cE with
 | .inl tu=>(DB ((ba.2.2.2.2.2.length:Nat):Int) b5 cC b6 dl dc ba.2.1 ba.2.2.1 (U (cC+b5)) aw.1 ba.2.2.2.1 ba.2.2.2.2.1 0 ba.2.2.2.2.2 >>= fun fz =>
  zP cC ba.2.1 ba.2.2.1 (U (cC+b5)) aw.1 ba.2.2.2.1 ba.2.2.2.2.1 fz >>= fun df =>
  some (.inl (df.1,df.2.1,(U (cC+b5)),df.2.2.1,df.2.2.2.2,fz,df.2.2.2.1)))
 | .inr tu=>(some (.inr ()))
 else none
 else none
set_option maxHeartbeats 4000000 in
theorem xS {b5 cC:Int}{b6 dl dc:List Int}:bV (u5 b5 cC b6 dl dc) (Sum.elim (fun a=>Con bt 31 [.ref 0 0 0 0] [[ab.mk 5 [(eJ b5 cC 1 0 0 b6.length 2 0 0 dl.length 3 0 0 dc.length)] .live],(au 1 I b6),(au 1 I dl),(au 1 I dc)] (.cY [.ref 4 0 0 0,.b true]) [[ab.mk 5 [(eJ b5 cC 1 0 0 b6.length 2 0 0 dl.length 3 0 0 dc.length)] .live],(au 1 I b6),(au 1 I dl),(au 1 I dc),(ab.mk 6 [(eX 4 1 0 a.2.2.2.1.length a.1 a.2.1 4 2 0 a.2.2.2.2.1.length a.2.2.1 4 3 0 a.2.2.2.2.2.1.length)] .live::ab.mk 1 (a.2.2.2.1.map (b2 4 4 2)) .live::ab.mk 1 (a.2.2.2.2.1.map I) .live::ab.mk 1 (a.2.2.2.2.2.1.map d6) .live::(c7 2 aU a.2.2.2.2.2.2))]) (fun a=>Con bt 31 [.ref 0 0 0 0] [[ab.mk 5 [(eJ b5 cC 1 0 0 b6.length 2 0 0 dl.length 3 0 0 dc.length)] .live],(au 1 I b6),(au 1 I dl),(au 1 I dc)] (.cY [.iw,.b false]) [[ab.mk 5 [(eJ b5 cC 1 0 0 b6.length 2 0 0 dl.length 3 0 0 dc.length)] .live],(au 1 I b6),(au 1 I dl),(au 1 I dc)])):=by
 unfold u5
 exact .ay fun ae J =>
  .bn fun af =>
  .ay fun aw aJ =>
  .bn fun bp =>
  .ay fun bZ bu =>
  .ay fun ba da =>
  .ay fun cE eF =>
  (let kk:=U (cC+b5);let rh:=eX 1 0 0 aw.1.length ba.2.1 ba.2.2.1 3 0 0 ba.2.2.2.2.1.length kk 4 0 0 ba.2.2.2.2.2.length;let sE:=di [0,1,2,3,21,28,29,30,19];let sF:=eX 6 0 0 aw.1.length ba.2.1 ba.2.2.1 8 0 0 ba.2.2.2.2.1.length kk 9 0 0 ba.2.2.2.2.2.length;let qz:=(List.replicate kk.toNat false:List Bool);let ri:=eX 1 0 0 aw.1.length ae.db ae.cN 3 0 0 aw.2.2.length kk 4 0 0 bZ.2.length;let zr:=eX 6 0 0 aw.1.length ae.db ae.cN 8 0 0 aw.2.2.length kk 9 0 0 bZ.2.length;let uu:=c7 2 aU ba.2.2.2.1;let wg:=(List.replicate kk.toNat 0:List Int);let wh:=au 1 (b2 7 0 2) aw.1;let zs:=nE [4,6,7,8,9,5];let zt:=hR [4,6,7,8,9,5];let B9:=di [0,1,2,3,4,10,5,6,7,8];let Ca:=di [0,1,2,3,4,8,6,7,9];let wi:=aD 1 .live aA b6;let L2:=aD 1 .live aA dl;let L3:=aD 1 .live aA dc;let SP:=au 1 (b2 2 0 2) aw.1;let t1:List cG:=[(ad 2),(ad 10),.aI (bL 1 (bC 1 (.agg (aU ae)) false) 5),(ad 5),.FE 21 0 1,.LO,.FE 21 3 1,.bm [0,1,2,3,21,28,29,30,19] [.box [.id,.id,.id,.id,.id],.pure,.pure,.pure,.box [.len (([]:List b8).length),.id,.id,.len (([]:List Int).length),.id,.len (qz.length)],.bB (au 1 (b2 6 0 2) ([]:List b8)),.bB (c7 2 aU ([]:List (List bf))),.dY (au 1 I ([]:List Int)),.dY (au 1 d6 qz)] (bX [0,4,5,34,35]),(Ih kk b5 cC b6 dl dc ae.db ae.cN qz aw).gL,(ad 3),(ad 3),.bm [0,1,2,3,4,10,5,6,7,8] [.box [.id,.id,.id,.id,.id],.pure,.pure,.pure,.box [.id,.id,.id,.id,.id,.id],.dY (au 1 I wg),.bB wh,.bB (c7 2 aU aw.2.1),.pure,.pure] [(0,ii),(4,ii),(5,ii),(11,gz (wg.length)),(117,ii),(118,ii)],(Ii kk ((kk.toNat:Nat):Int) b5 cC b6 dl dc ae.db ae.cN aw.1 aw.2.1 aw.2.2 bZ).gL,.aI (av 2 (aq (.call {aO:=(ln [4,6,7,8,9,5]),cu:=[.bB [ab.mk 6 [ri] .live],.bB SP,.bB (c7 2 aU aw.2.1),.pure,.pure,.pure],ac:=[ii,ii],r:= .b ba.1,dg:=[[ab.mk 6 [rh] .live],SP,uu,(au 1 I ba.2.2.2.2.1),(au 1 d6 ba.2.2.2.2.2),(au 1 I bZ.1)],eL:=ii,fq:=[.bB [ab.mk 6 [sF] .live],.bB wh,.bB uu,.pure,.pure,.pure],dZ:=[4,5,6,7,8,9],dr:=false}) [])),(ad 6),.bm [0,1,2,3,4,8,6,7,9] [.box [.id,.id,.id,.id,.id],.pure,.pure,.pure,.box [.id,.id,.id,.id,.id,.id],.pure,.bB wh,.bB uu,.pure] (bX [0,4,5,149,150,151])];
  have a5:=((.bo (sd ae J) af.1 (Int.le_refl kk) af.2.1 af.2.2 wi L2 L3 (.bo (mL b8) (mL Int) (kI kk.toNat (false:Bool)) (fL (wB (cg:=sE) 1 .live (b2 6 0 2) (r4 (b2 29 0 2)) (Bb (rfl:sE 29=some 6))) (l0 (cg:=sE))) (qP (cg:=sE) (aaJ .live 2 aU) (pS eC)) (eB 1 .live (r4 I)) (aD 1 .live aA ([]:List Int)) (eB 1 .live (kr d6 kk.toNat false)) (.bo (aD 1 .live eD qz) (VX aJ) bp.1 (Int.le_refl kk) bp.2.1 bp.2.2 wi L2 (.bo L3 (eB 1 .live (kr I kk.toNat 0)) (aD 1 .live aA wg) (fw B9 7 6 0 2 rfl aw.1) (fx B9 2 eC aw.2.1) (aD 1 .live aA aw.2.2) (aD 1 .live eD qz) (kI kk.toNat (0:Int)) (.bo (VY bu) (hr zs 6 [ri] [zr] rfl) (hi 6 [zr]) (fw zs 2 7 0 2 rfl aw.1) (hi 1 (aw.1.map (b2 7 0 2))) (fx zs 2 eC aw.2.1) (rq 2 aU aw.2.1) (du 1 aA aw.2.2) (.bo (du 1 eD bZ.2) (du 1 aA bZ.1) (hr zt 6 [sF] [rh] rfl) (hi 6 [rh]) (fw zt 7 2 0 2 rfl aw.1) (hi 1 (aw.1.map (b2 2 0 2))) (fx zt 2 eC ba.2.2.2.1) (rq 2 aU ba.2.2.2.1) (.bo (du 1 aA ba.2.2.2.2.1) (du 1 eD ba.2.2.2.2.2) (du 1 aA bZ.1) (Hj ba da) wi L2 L3 (aD 1 .live aA ba.2.2.2.2.1) (.cd (fw Ca 7 7 0 2 rfl aw.1) (fx Ca 2 eC ba.2.2.2.1) (aD 1 .live eD ba.2.2.2.2.2))))))))):cW _);
  (by
  rcases cE with tu|tu
  ·exact (.ay fun fz gK =>
  .ay fun df g7 =>
  .ret (let aL:=eJ b5 cC 1 0 0 b6.length 2 0 0 dl.length 3 0 0 dc.length;let b1:=c7 2 aU df.2.2.2.1;let cI:=U (cC+b5);let bg:=eX 1 0 0 df.2.2.1.length df.1 df.2.1 3 0 0 df.2.2.2.2.length cI 4 0 0 fz.length;let eU:=eX 1 0 0 aw.1.length ba.2.1 ba.2.2.1 3 0 0 ba.2.2.2.2.1.length cI 4 0 0 fz.length;let gC:=eX 5 0 0 aw.1.length ba.2.1 ba.2.2.1 7 0 0 ba.2.2.2.2.1.length cI 8 0 0 fz.length;let hq:=eX 5 0 0 df.2.2.1.length df.1 df.2.1 7 0 0 df.2.2.2.2.length cI 8 0 0 fz.length;let fY:=di [0,1,2,3,4];let ic:=nE [4,5,6,7,8];let jh:=hR [4,5,6,7,8];let k7:=di [0,1,2,3,4,5,6,7,8];let k8:=au 1 (b2 6 0 2) df.2.2.1;let nu:=au 1 (b2 4 4 2) df.2.2.1;let nv:=aD 1 .live aA b6;let mf:=aD 1 .live aA dl;let p3:=aD 1 .live aA dc;let oD:=c7 2 aU ba.2.2.2.1;h2 (t1.append [(Df cI ((ba.2.2.2.2.1.length:Nat):Int) b5 cC b6 dl dc ba.2.1 ba.2.2.1 cI ba.2.2.2.2.1 aw.1 ba.2.2.2.1 ba.2.2.2.2.2 (.inl tu)).gL,(ad 6),.bm [0,1,2,3,4,5,6,7,8] [.box [.id,.id,.id,.id,.id],.pure,.pure,.pure,.box [.id,.id,.id,.id,.id,.id],.bB (au 1 (b2 6 0 2) aw.1),.bB oD,.pure,.pure] (bX [0,5,181,182]),(Ij ((ba.2.2.2.2.2.length:Nat):Int) b5 cC b6 dl dc ba.2.1 ba.2.2.1 cI aw.1 ba.2.2.2.1 ba.2.2.2.2.1 fz).gL,.aI (av 5 (aq (.call {aO:=(ln [4,5,6,7,8]),cu:=[.bB [ab.mk 6 [eU] .live],.bB (au 1 (b2 2 0 2) aw.1),.bB oD,.pure,.pure],ac:=[ii,ii],r:= .cY [],dg:=[[ab.mk 6 [bg] .live],(au 1 (b2 2 0 2) df.2.2.1),b1,(au 1 I df.2.2.2.2),(au 1 d6 fz)],eL:=ii,fq:=[.bB [ab.mk 6 [hq] .live],.bB k8,.bB b1,.pure,.pure],dZ:=[4,5,6,7,8],dr:=false}) [])),(ad 3),.vZ [{c2:=some (0,0)},{c2:=some (1,0)},{c2:=some (2,0)},{c2:=some (3,0)},{bc:=[(4,0),(5,0),(7,0),(8,0)],c2:=some (6,0)}] [([],some (.bB [ab.mk 5 [aL] .live])),([],some (.pure)),([],some (.pure)),([],some (.pure)),([.box [.at_ 4 1 df.2.2.1.length,.id,.id,.at_ 4 2 df.2.2.2.2.length,.id,.at_ 4 3 fz.length],.rx nu,.pure,.pure],some (.rx b1))] [(2,.bE (.ck (.at_ 4 0 0))),(3,ii)]]) [0,1,2,3,4] [.bB [ab.mk 5 [aL] .live],.pure,.pure,.pure,.bB (ab.mk 6 [(eX 4 1 0 df.2.2.1.length df.1 df.2.1 4 2 0 df.2.2.2.2.length cI 4 3 0 fz.length)] .live::ab.mk 1 (df.2.2.1.map (b2 4 4 2)) .live::ab.mk 1 (df.2.2.2.2.map I) .live::ab.mk 1 (fz.map d6) .live::b1)] (a5.a1 (.bo (NH eF) nv mf p3 (fw k7 6 6 0 2 rfl aw.1) (fx k7 2 eC ba.2.2.2.1) (aD 1 .live aA ba.2.2.2.2.1) (aD 1 .live eD ba.2.2.2.2.2) (.bo (VZ gK) (hr ic 6 [eU] [gC] rfl) (hi 6 [gC]) (fw ic 2 6 0 2 rfl aw.1) (hi 1 (aw.1.map (b2 6 0 2))) (fx ic 2 eC ba.2.2.2.1) (rq 2 aU ba.2.2.2.1) (du 1 aA ba.2.2.2.2.1) (.bo (du 1 eD fz) (hr jh 6 [hq] [bg] rfl) (hi 6 [bg]) (fw jh 6 2 0 2 rfl df.2.2.1) (hi 1 (df.2.2.1.map (b2 2 0 2))) (fx jh 2 eC df.2.2.2.1) (rq 2 aU df.2.2.2.1) (du 1 aA df.2.2.2.2) (.bo (du 1 eD fz) (U6 df g7) (hr (uj 0 [{c2:=some (0,0)},{c2:=some (1,0)},{c2:=some (2,0)},{c2:=some (3,0)},{bc:=[(4,0),(5,0),(7,0),(8,0)],c2:=some (6,0)}]) 5 [aL] [aL] rfl) nv mf p3 (rfl:(ia [{c2:=some (0,0)},{c2:=some (1,0)},{c2:=some (2,0)},{c2:=some (3,0)},{bc:=[(4,0),(5,0),(7,0),(8,0)],c2:=some (6,0)}]) 4 1=some (5,0)) (rfl:df.2.2.1.length=df.2.2.1.length) (.bo (rfl:(ia [{c2:=some (0,0)},{c2:=some (1,0)},{c2:=some (2,0)},{c2:=some (3,0)},{bc:=[(4,0),(5,0),(7,0),(8,0)],c2:=some (6,0)}]) 4 2=some (7,0)) (rfl:df.2.2.2.2.length=df.2.2.2.2.length) (rfl:(ia [{c2:=some (0,0)},{c2:=some (1,0)},{c2:=some (2,0)},{c2:=some (3,0)},{bc:=[(4,0),(5,0),(7,0),(8,0)],c2:=some (6,0)}]) 4 3=some (8,0)) (rfl:fz.length=fz.length) (Qu (KR (km:=(b2 4 4 2)) (ej (b2 6 0 2) df.2.2.1) (fun _=>rfl) (fun x=>(RN (fun _=>rfl)) x)) Ra:sA (ia [{c2:=some (0,0)},{c2:=some (1,0)},{c2:=some (2,0)},{c2:=some (3,0)},{bc:=[(4,0),(5,0),(7,0),(8,0)],c2:=some (6,0)}]) k8 nu) (aD 1 .live aA df.2.2.2.2) (aD 1 .live eD fz) (Qw (iX .live 2 aU df.2.2.2.1) (fun _=>rfl) eC:sA (ia [{c2:=some (0,0)},{c2:=some (1,0)},{c2:=some (2,0)},{c2:=some (3,0)},{bc:=[(4,0),(5,0),(7,0),(8,0)],c2:=some (6,0)}]) b1 b1) (.fG (rfl:(ia [{c2:=some (0,0)},{c2:=some (1,0)},{c2:=some (2,0)},{c2:=some (3,0)},{bc:=[(4,0),(5,0),(7,0),(8,0)],c2:=some (6,0)}]) 4 0=some (4,0)) (hr fY 5 [aL] [aL] rfl) nv mf p3 (fL (show ab.mk 6 [(eX 4 1 0 df.2.2.1.length df.1 df.2.1 4 2 0 df.2.2.2.2.length (U (cC+b5)) 4 3 0 fz.length)] .live=kx (di [0,1,2,3,4]) (ab.mk 6 [(eX 4 1 0 df.2.2.1.length df.1 df.2.1 4 2 0 df.2.2.2.2.length (U (cC+b5)) 4 3 0 fz.length)] .live) from rfl) (fL (zB fY 4 4 4 2 rfl df.2.2.1) (fL (gR fY 1 ha df.2.2.2.2) (fL (gR fY 1 Ba fz) (fx fY 2 eC df.2.2.2.1)))))))))))) (.comp [.ck .id,.ck .id])))
  ·exact (.ret (let nw:=eJ b5 cC 1 0 0 b6.length 2 0 0 dl.length 3 0 0 dc.length;h2 (t1.append [(Df (U (cC+b5)) ((ba.2.2.2.2.1.length:Nat):Int) b5 cC b6 dl dc ba.2.1 ba.2.2.1 (U (cC+b5)) ba.2.2.2.2.1 aw.1 ba.2.2.2.1 ba.2.2.2.2.2 (.inr tu)).gL]) [0,1,2,3] [.bB [ab.mk 5 [nw] .live],.pure,.pure,.pure] (a5.a1 (.eR (NH eF) (hr (di [0,1,2,3]) 5 [nw] [nw] rfl) (aD 1 .live aA b6) (aD 1 .live aA dl) (aD 1 .live aA dc)))))))
def m7 (bh:Int):Option (Option bj) :=
 oI bh >>= fun ae =>
 some (some (⟨ae,([1]:List Int)⟩:bj))
theorem qa {bh:Int}:bV (m7 bh) (fun r=>Con bt 28 [.n .i64 bh] [] (d9 3 aS r) []):=by
 unfold m7
 exact .ay fun ae J =>
  .ret (bY [(ad 1),.aI (bL 1 (bC 1 (.agg (aU ae)) false) 4)] (.eR (sd ae J) (ms (show [[.n .i64 (1:Int)]]=(([1]:List Int)).map I from rfl) (show 1=([1]:List Int).length from rfl)) (mi I 1) (fs aA ([1]:List Int)) (j6 (hM (⟨ae,([1]:List Int)⟩:bj)):g9 [[.b ae.db,.isl 1 (ae.cN.map I),.isl 1 (([1]:List Int).map I)]])) (.bE (.ti [.id,.id,.gv (([1]:List Int).map I)])))
def HZ:((List Int)×(List Int))→S:=fun (a9,a8)=>fh [(0,.isl 1 (a9.map I)),(1,.isl 1 (a8.map I))] []
def Ik:(List Int)→fp
 | a=>⟨some 0,[(0,.isl 1 (a.map I))],[]⟩
def xy (a9 a8:List Int):Option (((List Int)×(List Int))⊕((List Int))) :=
 if (decide ((0:Int)<(len_ I a8)))=true then
  sW a9 a8 >>= fun bq =>
  some (.inl (a8,bq.2))
 else
  some (.inr a9)
def I6 (a9 a8:List Int):Option ((List Int)):=iter (fun w:(List Int)×(List Int)=>xy w.1 w.2) (a9,a8)
theorem Vd {a9 a8:List Int}:bV (xy a9 a8) (fV bt 19 0 104 [1,0,0,0] (HZ (a9,a8)) (HZ) (Ik)):=by
 unfold xy
 exact .ite (fun o =>
  .ay fun bq af =>
  .ret (bQ [(ad 3),.ap true,.aI (bL 2 (bC 2 (.cY [.isl 1 (bq.1.map I),.isl 1 (bq.2.map I)]) false) 5),(ad 4),.bm [] [] (bX [0,1])] (.aH o (DV bq af))))
  (fun o =>
  .ret (bQ [(ad 3),.ap false,.bm [] [] (bX [0])] (.aC o)))
theorem V0 {a9 a8:List Int}{r} (h:I6 a9 a8=some r):fW bt 19 0 104 [1,0,0,0] (HZ) (Ik) (a9,a8) r:=fZ (fun _=>Vd) h
def x5 (a9 a8:List Int):Option (List Int) :=
 I6 a9 a8 >>= fun ae =>
 some ae
theorem N1 {a9 a8:List Int}:bV (x5 a9 a8) (fun r=>Con bt 104 [.isl 1 (a9.map I),.isl 1 (a8.map I)] [] (.isl 1 (r.map I)) []):=by
 unfold x5
 exact .ay fun ae J =>
  .ret (bY [(ad 1),.bm [] [] (bX [0,1]),(Ik ae).gL,(ad 2)] (.aC (V0 J)))
def rz (rL:bf)(uf:List Int):Option (Option bj) :=
 if ((len_ I rL.cN) == (0:Int))=true then
  some (some (⟨(⟨false,([]:List Int)⟩:bf),([1]:List Int)⟩:bj))
 else
  x5 rL.cN uf >>= fun bq =>
  qb bq ([1]:List Int) >>= fun aw =>
  if (aw == (0:Int))=true then
   some (some (⟨rL,uf⟩:bj))
  else
   sW rL.cN bq >>= fun bZ =>
   sW uf bq >>= fun ba =>
   lL rL.db bZ.1 >>= fun cE =>
   some (some (⟨cE,ba.1⟩:bj))
theorem Jd {rL:bf}{uf:List Int}:bV (rz rL uf) (fun r=>Con bt 88 [.agg (aU rL),.isl 1 (uf.map I)] [] (d9 3 aS r) []):=by
 unfold rz
 exact .ite (fun o =>
  .ret (bY [(ad 2),(ad 4),.ap true,(ad 4)] (.eR o (ms (show [[.n .i64 (1:Int)]]=(([1]:List Int)).map I from rfl) (show 1=([1]:List Int).length from rfl)) (mi I 1) (fs aA ([1]:List Int)) (j6 (hM (⟨(⟨false,([]:List Int)⟩:bf),([1]:List Int)⟩:bj)):g9 [[.b false,.isl 1 (([]:List Int).map I),.isl 1 (([1]:List Int).map I)]])) (.bE (.ti [.id,.hh 1,.gv (([1]:List Int).map I)]))))
  (fun o =>
  .ay fun bq af =>
  .ay fun aw aJ =>
  (let t1:List cG:=[(ad 2),(ad 4),.ap false,.aI (bL 3 (bC 2 (.isl 1 (bq.map I)) false) 1),.aI (bL 2 (.call {ac:=[ii,.bE (.ck (.gv (([1]:List Int).map I)))],r:= .n .i64 aw,dr:=true,dZ:=[12]}) 1)];
  have a5:=((.fC o (N1 bq af) (ms (show [[.n .i64 (1:Int)]]=(([1]:List Int)).map I from rfl) (show 1=([1]:List Int).length from rfl)) (mi I 1) (fs aA ([1]:List Int)) (xR aw aJ) (cl.n .i64 aw)):cW _);
  .ite (fun bp =>
  .ret (bY (t1.append [.ap true,(ad 5)]) (a5.a1 (.aH bp (j6 (hM (⟨rL,uf⟩:bj)):g9 [[.b rL.db,.isl 1 (rL.cN.map I),.isl 1 (uf.map I)]]))) (.bE (.ti [.id,.id,.id]))))
  (fun bp =>
  .ay fun bZ bu =>
  .ay fun ba da =>
  .ay fun cE eF =>
  .ret (bY (t1.append [.ap false,.aI (bL 3 (bC 2 (.cY [.isl 1 (bZ.1.map I),.isl 1 (bZ.2.map I)]) false) 5),.aI (bL 2 (bC 2 (.cY [.isl 1 (ba.1.map I),.isl 1 (ba.2.map I)]) false) 5),.aI (bL 3 (bC 2 (.agg (aU cE)) false) 4)]) (a5.a1 (.eR bp (DV bZ bu) (DV ba da) (sf cE eF) (j6 (hM (⟨cE,ba.1⟩:bj)):g9 [[.b cE.db,.isl 1 (cE.cN.map I),.isl 1 (ba.1.map I)]]))) (.bE (.ti [.id,.id,.id]))))))
def xO (b3 el:Option bj):Option (Option bj) :=
 b3 >>= fun fJ =>
 el >>= fun mm =>
 o7 fJ.qn mm.qn >>= fun br =>
 qM fJ.pY mm.pY >>= fun bZ =>
 rz br bZ >>= fun ba =>
 some ba
theorem ND {b3 el:Option bj}:bV (xO b3 el) (fun r=>Con bt 89 [d9 3 aS b3,d9 3 aS el] [] (d9 3 aS r) []):=by
 unfold xO
 exact .ay fun fJ J =>
  .ay fun mm aF =>
  .ay fun br bp =>
  .ay fun bZ bu =>
  .ay fun ba da =>
  .ret (bY [(ad 1),.aI (av 1 (aq (.fF 5 (.e8 3 (some (aS fJ))) .c4) (av 3 (aq (.fF 9 (.e8 3 (some (aS mm))) .c4) (av 2 (aq (bC 2 (.agg (aU br)) false) (av 1 (aq (.fF 14 (.e8 3 (some (aS fJ))) .c4) (av 3 (aq (.fF 18 (.e8 3 (some (aS mm))) .c4) (av 2 (aq (bC 2 (.isl 1 (bZ.map I)) false) (aq (bC 2 (d9 3 aS ba) false) (av 1 []))))))))))))))] (.fC (jq (sz:=3) (f:=aS) J) (jq (sz:=3) (f:=aS) aF) (uP br bp) (jq (sz:=3) (f:=aS) J) (jq (sz:=3) (f:=aS) aF) (DO bZ bu) (Jd ba da)))
def qJ (b3:Option bj)(jR:List Int):Option bf :=
 b3 >>= fun fJ =>
 qM fJ.qn.cN jR >>= fun bl =>
 lL fJ.qn.db bl >>= fun br =>
 some br
theorem Db {b3:Option bj}{jR:List Int}:bV (qJ b3 jR) (fun r=>Con bt 74 [d9 3 aS b3,.isl 1 (jR.map I)] [] (.agg (aU r)) []):=by
 unfold qJ
 exact .ay fun fJ J =>
  .ay fun bl aF =>
  .ay fun br bp =>
  .ret (bY [(ad 1),.aI (av 1 (aq (.fF 5 (.e8 3 (some (aS fJ))) .c4) (av 4 (aq (.fF 10 (.e8 3 (some (aS fJ))) .c4) (av 4 (aq (bC 2 (.isl 1 (bl.map I)) false) (aq (bC 2 (.agg (aU br)) false) (av 1 []))))))))] (.dh (jq (sz:=3) (f:=aS) J) (jq (sz:=3) (f:=aS) J) (DO bl aF) (sf br bp)))
def xT (b3 el:Option bj):Option (Option bj) :=
 el >>= fun fJ =>
 qJ b3 fJ.pY >>= fun bl =>
 b3 >>= fun ml =>
 qJ el ml.pY >>= fun bZ =>
 tL bl bZ >>= fun ba =>
 qM ml.pY fJ.pY >>= fun cE =>
 rz ba cE >>= fun ed =>
 some ed
theorem NI {b3 el:Option bj}:bV (xT b3 el) (fun r=>Con bt 62 [d9 3 aS b3,d9 3 aS el] [] (d9 3 aS r) []):=by
 unfold xT
 exact .ay fun fJ J =>
  .ay fun bl aF =>
  .ay fun ml bp =>
  .ay fun bZ bu =>
  .ay fun ba da =>
  .ay fun cE eF =>
  .ay fun ed d8 =>
  .ret (bY [(ad 1),.aI (av 2 (aq (.fF 6 (.e8 3 (some (aS fJ))) .c4) (av 2 (aq (bC 2 (.agg (aU bl)) false) (av 2 (aq (.fF 12 (.e8 3 (some (aS ml))) .c4) (av 2 (aq (bC 2 (.agg (aU bZ)) false) (aq (bC 2 (.agg (aU ba)) false) (av 1 (aq (.fF 18 (.e8 3 (some (aS ml))) .c4) (av 3 (aq (.fF 22 (.e8 3 (some (aS fJ))) .c4) (av 2 (aq (bC 2 (.isl 1 (cE.map I)) false) (aq (bC 2 (d9 3 aS ed) false) (av 1 [])))))))))))))))))] (.bo (jq (sz:=3) (f:=aS) J) (Db bl aF) (jq (sz:=3) (f:=aS) bp) (Db bZ bu) (NC ba da) (jq (sz:=3) (f:=aS) bp) (jq (sz:=3) (f:=aS) J) (DO cE eF) (.aC (Jd ed d8))))
end Go.Proofs.YtojbgalflbgajabGreat
namespace Go.Proofs.YtojbgalflbgajabGreat
set_option linter.unusedVariables false
set_option linter.unusedSimpArgs false
open Go Go.VL
def H0 (jO aZ:Int)(ak aR an:List Int)(e6:Int)(cp:List b8):(Int×Bool×(List Int)×(List Int)×(List (List bf))×(List Int)×(List Bool))→S:=fun (hb,cU,cS,bD,ff,cq,fk)=>fh [(0,.ref 0 0 0 0),(5,.ref 4 0 0 0),(7,.bx 5 0 0 bD.length),(41,.n .i64 jO),(42,.n .i64 hb)] [[ab.mk 5 [(eJ aZ jO 1 0 0 ak.length 2 0 0 aR.length 3 0 0 an.length)] .live],(au 1 I ak),(au 1 I aR),(au 1 I an),[ab.mk 6 [(eX 6 0 0 cp.length cU cS 8 0 0 cq.length e6 9 0 0 fk.length)] .live],(au 1 I bD),(au 1 (b2 7 0 2) cp),(c7 2 aU ff),(au 1 I cq),(au 1 d6 fk)]
def Il (jO aZ:Int)(ak aR an:List Int)(e6:Int)(cp:List b8):(Bool×(List Int)×(List (List bf))×(List Int)×(List Bool))→fp
 | a=>⟨some 0,[(0,.ref 0 0 0 0),(5,.ref 4 0 0 0)],[[ab.mk 5 [(eJ aZ jO 1 0 0 ak.length 2 0 0 aR.length 3 0 0 an.length)] .live],(au 1 I ak),(au 1 I aR),(au 1 I an),[ab.mk 6 [(eX 5 0 0 cp.length a.1 a.2.1 7 0 0 a.2.2.2.1.length e6 8 0 0 a.2.2.2.2.length)] .live],(au 1 (b2 6 0 2) cp),(c7 2 aU a.2.2.1),(au 1 I a.2.2.2.1),(au 1 d6 a.2.2.2.2)]⟩
def uQ (jO aZ:Int)(ak aR an:List Int)(e6:Int)(cp:List b8)(hb:Int)(cU:Bool)(cS bD:List Int)(ff:List (List bf))(cq:List Int)(fk:List Bool):Option ((Int×Bool×(List Int)×(List Int)×(List (List bf))×(List Int)×(List Bool))⊕(Bool×(List Int)×(List (List bf))×(List Int)×(List Bool))) :=
 if (decide (hb<jO))=true then
  if 0≤hb∧hb<(bD.length:Nat) then
  if (0+hb.toNat)<(List.replicate bD.length 0:List Int).length then
  sL cU cS e6 cp ff cq fk ((List.replicate bD.length 0:List Int).set (0+hb.toNat) (-1)) >>= fun aw =>
  some (.inl (U (hb+(1:Int)),aw.2.1,aw.2.2.1,((List.replicate bD.length 0:List Int).set (0+hb.toNat) (-1)),aw.2.2.2.1,aw.2.2.2.2.1,aw.2.2.2.2.2))
  else none
  else none
 else
  some (.inr (cU,cS,ff,cq,fk))
def DC (jO aZ:Int)(ak aR an:List Int)(e6:Int)(cp:List b8)(hb:Int)(cU:Bool)(cS bD:List Int)(ff:List (List bf))(cq:List Int)(fk:List Bool):Option (Bool×(List Int)×(List (List bf))×(List Int)×(List Bool)):=iter (fun w:Int×Bool×(List Int)×(List Int)×(List (List bf))×(List Int)×(List Bool)=>uQ jO aZ ak aR an e6 cp w.1 w.2.1 w.2.2.1 w.2.2.2.1 w.2.2.2.2.1 w.2.2.2.2.2.1 w.2.2.2.2.2.2) (hb,cU,cS,bD,ff,cq,fk)
theorem Ve {jO aZ:Int}{ak aR an:List Int}{e6:Int}{cp:List b8}{hb:Int}{cU:Bool}{cS bD:List Int}{ff:List (List bf)}{cq:List Int}{fk:List Bool}:bV (uQ jO aZ ak aR an e6 cp hb cU cS bD ff cq fk) (fV bt 124 4 57 [1,1,1,1,1,1,0,1,0,0] (H0 jO aZ ak aR an e6 cp (hb,cU,cS,bD,ff,cq,fk)) (H0 jO aZ ak aR an e6 cp) (Il jO aZ ak aR an e6 cp)):=by
 unfold uQ
 exact .ite (fun o =>
  .bn fun J =>
  .bn fun af =>
  .ay fun aw aJ =>
  .ret (let aL:=eX 1 0 0 cp.length aw.2.1 aw.2.2.1 3 0 0 aw.2.2.2.2.1.length e6 4 0 0 aw.2.2.2.2.2.length;let bg:=(List.replicate bD.length 0:List Int);let b1:=eX 6 0 0 cp.length aw.2.1 aw.2.2.1 8 0 0 aw.2.2.2.2.1.length e6 9 0 0 aw.2.2.2.2.2.length;let cI:=eX 1 0 0 cp.length cU cS 3 0 0 cq.length e6 4 0 0 fk.length;let eU:=eX 6 0 0 cp.length cU cS 8 0 0 cq.length e6 9 0 0 fk.length;let gC:=c7 2 aU aw.2.2.2.1;let hq:=nE [4,6,7,8,9,5];let fY:=hR [4,6,7,8,9,5];let ic:=(hg (kI bD.length (0:Int)) (0+hb.toNat) (-1));let jh:=di [0,1,2,3,4,5,6,7,8,9];let k7:=au 1 I (bg.set (0+hb.toNat) (-1));let k8:=du 1 aA (bg.set (0+hb.toNat) (-1));bQ [(ad 1),.ap true,(ad 2),(ad 2),.aI (av 3 (aq .c4 [])),.aI (av 2 (aq (.call {aO:=(ln [4,6,7,8,9,5]),cu:=[.bB [ab.mk 6 [cI] .live],.bB (au 1 (b2 2 0 2) cp),.bB (c7 2 aU ff),.pure,.pure,.dY k7],ac:=[ii,.bE (.ck (.len ((bg.set (0+hb.toNat) (-1)).length)))],r:= .b aw.1,dg:=[[ab.mk 6 [aL] .live],(au 1 (b2 2 0 2) cp),gC,(au 1 I aw.2.2.2.2.1),(au 1 d6 aw.2.2.2.2.2),k7],eL:=ii,fq:=[.bB [ab.mk 6 [b1] .live],.bB (au 1 (b2 7 0 2) cp),.bB gC,.pure,.pure,.pure],dZ:=[4,5,6,7,8,9],dr:=false}) [])),(ad 2),.bm [0,1,2,3,4,5,6,7,8,9] [.box [.id,.id,.id,.id,.id],.pure,.pure,.pure,.box [.id,.id,.id,.id,.id,.id],.pure,.bB (au 1 (b2 7 0 2) cp),.bB gC,.pure,.pure] [(0,ii),(5,ii),(7,gz ((bg.set (0+hb.toNat) (-1)).length)),(41,ii),(42,ii)]] (.bo o (aaM (ej I bD) (fP bD)) J.1 J.2 (EN (kr I bD.length 0) af) (g8 1) ic (hr hq 6 [cI] [eU] rfl) (.bo (hi 6 [eU]) (fw hq 2 7 0 2 rfl cp) (hi 1 (cp.map (b2 7 0 2))) (fx hq 2 eC ff) (rq 2 aU ff) (du 1 aA cq) (du 1 eD fk) (eB 1 .live (gi (kr I bD.length 0) (0+hb.toNat) (-1))) (.bo k8 (hr fY 6 [b1] [aL] rfl) (hi 6 [aL]) (fw fY 7 2 0 2 rfl cp) (hi 1 (cp.map (b2 2 0 2))) (fx fY 2 eC aw.2.2.2.1) (rq 2 aU aw.2.2.2.1) (du 1 aA aw.2.2.2.2.1) (.bo (du 1 eD aw.2.2.2.2.2) k8 (Hj aw aJ) (aD 1 .live aA ak) (aD 1 .live aA aR) (aD 1 .live aA an) (aD 1 .live aA (bg.set (0+hb.toNat) (-1))) (fw jh 7 7 0 2 rfl cp) (.dh (fx jh 2 eC aw.2.2.2.1) (aD 1 .live aA aw.2.2.2.2.1) (aD 1 .live eD aw.2.2.2.2.2) ic)))))))
  (fun o =>
  .ret (let nu:=di [0,1,2,3,4,6,7,8,9];bQ [(ad 1),.ap false,.bm [0,1,2,3,4,6,7,8,9] [.box [.id,.id,.id,.id,.id],.pure,.pure,.pure,.box [.id,.id,.id,.id,.id,.id],.bB (au 1 (b2 6 0 2) cp),.bB (c7 2 aU ff),.pure,.pure] (bX [0,5])] (.h6 o (aD 1 .live aA ak) (aD 1 .live aA aR) (aD 1 .live aA an) (fw nu 6 7 0 2 rfl cp) (fx nu 2 eC ff) (aD 1 .live aA cq) (aD 1 .live eD fk))))
theorem V1 {jO aZ:Int}{ak aR an:List Int}{e6:Int}{cp:List b8}{hb:Int}{cU:Bool}{cS bD:List Int}{ff:List (List bf)}{cq:List Int}{fk:List Bool}{r} (h:DC jO aZ ak aR an e6 cp hb cU cS bD ff cq fk=some r):fW bt 124 4 57 [1,1,1,1,1,1,0,1,0,0] (H0 jO aZ ak aR an e6 cp) (Il jO aZ ak aR an e6 cp) (hb,cU,cS,bD,ff,cq,fk) r:=fZ (fun _=>Ve) h
def H2 (pu aZ aN:Int)(ak aR an:List Int)(cU:Bool)(cS:List Int)(e6:Int)(cp:List b8)(ff:List (List bf))(cq:List Int)(fk:List Bool):(Int×(List (Option bj)))→S:=fun (mC,bD)=>fh [(0,.ref 0 0 0 0),(5,.ref 4 0 0 0),(9,.bx 5 0 0 bD.length),(59,.n .i64 pu),(60,.n .i64 mC)] [[ab.mk 5 [(eJ aZ aN 1 0 0 ak.length 2 0 0 aR.length 3 0 0 an.length)] .live],(au 1 I ak),(au 1 I aR),(au 1 I an),[ab.mk 6 [(eX 6 0 0 cp.length cU cS 8 0 0 cq.length e6 9 0 0 fk.length)] .live],(au 1 (bM 3 aS) bD),(au 1 (b2 7 0 2) cp),(c7 2 aU ff),(au 1 I cq),(au 1 d6 fk)]
def Im (pu aZ aN:Int)(ak aR an:List Int)(cU:Bool)(cS:List Int)(e6:Int)(cp:List b8)(ff:List (List bf))(cq:List Int)(fk:List Bool):(List (Option bj))→fp
 | a=>⟨some 2,[(0,.ref 0 0 0 0),(5,.ref 4 0 0 0),(9,.bx 5 0 0 a.length)],[[ab.mk 5 [(eJ aZ aN 1 0 0 ak.length 2 0 0 aR.length 3 0 0 an.length)] .live],(au 1 I ak),(au 1 I aR),(au 1 I an),[ab.mk 6 [(eX 6 0 0 cp.length cU cS 8 0 0 cq.length e6 9 0 0 fk.length)] .live],(au 1 (bM 3 aS) a),(au 1 (b2 7 0 2) cp),(c7 2 aU ff),(au 1 I cq),(au 1 d6 fk)]⟩
def xz (pu aZ aN:Int)(ak aR an:List Int)(cU:Bool)(cS:List Int)(e6:Int)(cp:List b8)(ff:List (List bf))(cq:List Int)(fk:List Bool)(mC:Int)(bD:List (Option bj)):Option ((Int×(List (Option bj)))⊕((List (Option bj)))) :=
 if (decide (mC<pu))=true then
  m7 0 >>= fun bq =>
  if 0≤mC∧mC<(bD.length:Nat) then
  if (0+mC.toNat)<bD.length then
  some (.inl (U (mC+(1:Int)),bD.set (0+mC.toNat) bq))
  else none
  else none
 else
  some (.inr bD)
def DD (pu aZ aN:Int)(ak aR an:List Int)(cU:Bool)(cS:List Int)(e6:Int)(cp:List b8)(ff:List (List bf))(cq:List Int)(fk:List Bool)(mC:Int)(bD:List (Option bj)):Option ((List (Option bj))):=iter (fun w:Int×(List (Option bj))=>xz pu aZ aN ak aR an cU cS e6 cp ff cq fk w.1 w.2) (mC,bD)
theorem Vf {pu aZ aN:Int}{ak aR an:List Int}{cU:Bool}{cS:List Int}{e6:Int}{cp:List b8}{ff:List (List bf)}{cq:List Int}{fk:List Bool}{mC:Int}{bD:List (Option bj)}:bV (xz pu aZ aN ak aR an cU cS e6 cp ff cq fk mC bD) (fV bt 124 4 57 [1,1,1,1,1,1,1,1,0,1,0,0] (H2 pu aZ aN ak aR an cU cS e6 cp ff cq fk (mC,bD)) (H2 pu aZ aN ak aR an cU cS e6 cp ff cq fk) (Im pu aZ aN ak aR an cU cS e6 cp ff cq fk)):=by
 unfold xz
 exact .ite (fun o =>
  .ay fun bq af =>
  .bn fun aF =>
  .bn fun aJ =>
  .ret (let aL:=di [0,1,2,3,4,5,6,7,8,9];bQ [(ad 1),.ap true,(ad 2),.aI (av 2 (aq (bC 1 (d9 3 aS bq) false) (av 1 (aq .c4 [])))),(ad 2),.bm [0,1,2,3,4,5,6,7,8,9] [.box [.id,.id,.id,.id,.id],.pure,.pure,.pure,.box [.id,.id,.id,.id,.id,.id],.dY (au 1 (bM 3 aS) (bD.set (0+mC.toNat) bq)),.bB (au 1 (b2 7 0 2) cp),.bB (c7 2 aU ff),.pure,.pure] [(0,ii),(5,ii),(9,gz ((bD.set (0+mC.toNat) bq).length)),(59,ii),(60,ii)]] (.bo o (qa bq af) aF.1 aF.2 (hB (bM 3 aS) aJ) (g8 1) (aD 1 .live aA ak) (aD 1 .live aA aR) (.h6 (aD 1 .live aA an) (eB 1 .live (gi (ej (bM 3 aS) bD) (0+mC.toNat) bq)) (aD 1 .live (iC (sz:=3) hM) (bD.set (0+mC.toNat) bq)) (fw aL 7 7 0 2 rfl cp) (fx aL 2 eC ff) (aD 1 .live aA cq) (aD 1 .live eD fk) (hg (fP bD) (0+mC.toNat) bq)))))
  (fun o =>
  .ret (let bg:=di [0,1,2,3,4,5,6,7,8,9];bQ [(ad 1),.ap false,.bm [0,1,2,3,4,5,6,7,8,9] [.box [.id,.id,.id,.id,.id],.pure,.pure,.pure,.box [.id,.id,.id,.id,.id,.id],.pure,.bB (au 1 (b2 7 0 2) cp),.bB (c7 2 aU ff),.pure,.pure] (bX [0,5,9])] (.bo o (aD 1 .live aA ak) (aD 1 .live aA aR) (aD 1 .live aA an) (aD 1 .live (iC (sz:=3) hM) bD) (fw bg 7 7 0 2 rfl cp) (fx bg 2 eC ff) (aD 1 .live aA cq) (.aC (aD 1 .live eD fk)))))
theorem V2 {pu aZ aN:Int}{ak aR an:List Int}{cU:Bool}{cS:List Int}{e6:Int}{cp:List b8}{ff:List (List bf)}{cq:List Int}{fk:List Bool}{mC:Int}{bD:List (Option bj)}{r} (h:DD pu aZ aN ak aR an cU cS e6 cp ff cq fk mC bD=some r):fW bt 124 4 57 [1,1,1,1,1,1,1,1,0,1,0,0] (H2 pu aZ aN ak aR an cU cS e6 cp ff cq fk) (Im pu aZ aN ak aR an cU cS e6 cp ff cq fk) (mC,bD) r:=fZ (fun _=>Vf) h
def H3 (pv aZ aN:Int)(ak aR an:List Int)(cU:Bool)(cS:List Int)(e6:Int)(cp:List Int)(dX:List b8)(nQ:List (List bf))(fk:List Bool):(Int×(List (Option bj)))→S:=fun (nR,bD)=>fh [(0,.ref 0 0 0 0),(5,.ref 4 0 0 0),(9,.bx 5 0 0 bD.length),(71,.bx 6 0 0 cp.length),(72,.n .i64 pv),(73,.n .i64 nR)] [[ab.mk 5 [(eJ aZ aN 1 0 0 ak.length 2 0 0 aR.length 3 0 0 an.length)] .live],(au 1 I ak),(au 1 I aR),(au 1 I an),[ab.mk 6 [(eX 7 0 0 dX.length cU cS 6 0 0 cp.length e6 9 0 0 fk.length)] .live],(au 1 (bM 3 aS) bD),(au 1 I cp),(au 1 (b2 8 0 2) dX),(c7 2 aU nQ),(au 1 d6 fk)]
def Io (pv aZ aN:Int)(ak aR an:List Int)(cU:Bool)(cS:List Int)(e6:Int)(cp:List Int)(dX:List b8)(nQ:List (List bf))(fk:List Bool):(List (Option bj))→fp
 | a=>⟨some 4,[(0,.ref 0 0 0 0),(9,.bx 4 0 0 a.length)],[[ab.mk 5 [(eJ aZ aN 1 0 0 ak.length 2 0 0 aR.length 3 0 0 an.length)] .live],(au 1 I ak),(au 1 I aR),(au 1 I an),(au 1 (bM 3 aS) a)]⟩
def xA (pv aZ aN:Int)(ak aR an:List Int)(cU:Bool)(cS:List Int)(e6:Int)(cp:List Int)(dX:List b8)(nQ:List (List bf))(fk:List Bool)(nR:Int)(bD:List (Option bj)):Option ((Int×(List (Option bj)))⊕((List (Option bj)))) :=
 if (decide (nR<pv))=true then
  if 0≤nR∧nR<(cp.length:Nat) then
  cp[(0+nR.toNat)]? >>= fun aM =>
  if 0≤nR∧nR<(dX.length:Nat) then
  dX[(0+nR.toNat)]? >>= fun cy =>
  cy >>= fun uD =>
  nQ[uD.1]? >>= fun FL =>
  if 0≤e6∧e6<(uD.2:Nat) then
  FL[(0+e6.toNat)]? >>= fun pG =>
  rz pG cS >>= fun fN =>
  if 0≤aM∧aM<(bD.length:Nat) then
  if (0+aM.toNat)<bD.length then
  some (.inl (U (nR+(1:Int)),bD.set (0+aM.toNat) fN))
  else none
  else none
  else none
  else none
  else none
 else
  some (.inr bD)
def DE (pv aZ aN:Int)(ak aR an:List Int)(cU:Bool)(cS:List Int)(e6:Int)(cp:List Int)(dX:List b8)(nQ:List (List bf))(fk:List Bool)(nR:Int)(bD:List (Option bj)):Option ((List (Option bj))):=iter (fun w:Int×(List (Option bj))=>xA pv aZ aN ak aR an cU cS e6 cp dX nQ fk w.1 w.2) (nR,bD)
theorem Vg {pv aZ aN:Int}{ak aR an:List Int}{cU:Bool}{cS:List Int}{e6:Int}{cp:List Int}{dX:List b8}{nQ:List (List bf)}{fk:List Bool}{nR:Int}{bD:List (Option bj)}:bV (xA pv aZ aN ak aR an cU cS e6 cp dX nQ fk nR bD) (fV bt 124 4 57 [1,1,1,1,1,1,1,1,1,0,1,0,0] (H3 pv aZ aN ak aR an cU cS e6 cp dX nQ fk (nR,bD)) (H3 pv aZ aN ak aR an cU cS e6 cp dX nQ fk) (Io pv aZ aN ak aR an cU cS e6 cp dX nQ fk)):=by
 unfold xA
 exact .ite (fun o =>
  .bn fun J =>
  .ay fun aM aF =>
  .bn fun aJ =>
  .ay fun cy bJ =>
  .ay fun uD c9 =>
  .ay fun FL c8 =>
  .bn fun eF =>
  .ay fun pG d8 =>
  .ay fun fN fT =>
  .bn fun g7 =>
  .bn fun kA =>
  .ret (let aL:=di [0,1,2,3,4,5,6,7,8,9];let bg:=l2 (iX .live 2 aU nQ) lJ c8;bQ [(ad 1),.ap true,.aI (bL 2 (.cz (I aM)) 2),.aI (av 8 (aq (.cz ((b2 8 0 2) cy)) (av 4 (aq (.fF 86 (.bx 8 (uD.1+0) 0 uD.2) (.hT (ab.mk 2 (FL.map aU) .live) [])) (aq (.hT (ab.mk 2 (FL.map aU) .live) (aU pG)) (av 5 (aq (bC 2 (d9 3 aS fN) false) (av 1 (aq .c4 []))))))))),(ad 2),.bm [0,1,2,3,4,5,6,7,8,9] [.box [.id,.id,.id,.id,.id],.pure,.pure,.pure,.box [.id,.id,.id,.id,.id,.id],.dY (au 1 (bM 3 aS) (bD.set (0+aM.toNat) fN)),.pure,.bB (au 1 (b2 8 0 2) dX),.bB (c7 2 aU nQ),.pure] [(0,ii),(5,ii),(9,gz ((bD.set (0+aM.toNat) fN).length)),(71,ii),(72,ii),(73,ii)]] (.bo o J.1 J.2 (cD I aF) aJ.1 aJ.2 (cD (b2 8 0 2) bJ) (pc (eO:=8) (c:=0) (sz:=2) c9) (.bo bg eF.1 eF.2 bg (cD aU d8) (Jd fN fT) g7.1 g7.2 (.bo (hB (bM 3 aS) kA) (g8 1) (aD 1 .live aA ak) (aD 1 .live aA aR) (aD 1 .live aA an) (eB 1 .live (gi (ej (bM 3 aS) bD) (0+aM.toNat) fN)) (aD 1 .live (iC (sz:=3) hM) (bD.set (0+aM.toNat) fN)) (aD 1 .live aA cp) (.dh (fw aL 8 8 0 2 rfl dX) (fx aL 2 eC nQ) (aD 1 .live eD fk) (hg (fP bD) (0+aM.toNat) fN)))))))
  (fun o =>
  .ret (bQ [(ad 1),.ap false,.bm [0,1,2,3,5] [.box [.id,.id,.id,.id,.id],.pure,.pure,.pure,.pure] (bX [0,9])] (.eR o (aD 1 .live aA ak) (aD 1 .live aA aR) (aD 1 .live aA an) (aD 1 .live (iC (sz:=3) hM) bD))))
theorem V3 {pv aZ aN:Int}{ak aR an:List Int}{cU:Bool}{cS:List Int}{e6:Int}{cp:List Int}{dX:List b8}{nQ:List (List bf)}{fk:List Bool}{nR:Int}{bD:List (Option bj)}{r} (h:DE pv aZ aN ak aR an cU cS e6 cp dX nQ fk nR bD=some r):fW bt 124 4 57 [1,1,1,1,1,1,1,1,1,0,1,0,0] (H3 pv aZ aN ak aR an cU cS e6 cp dX nQ fk) (Io pv aZ aN ak aR an cU cS e6 cp dX nQ fk) (nR,bD) r:=fZ (fun _=>Vg) h
def H4 (pn aZ aN:Int)(ak aR an:List Int)(a7:List (Option bj)):((Option bj)×Int)→S:=fun (jy,nO)=>fh [(0,.ref 0 0 0 0),(9,.bx 4 0 0 a7.length),(13,d9 3 aS jy),(102,.bx 4 0 0 a7.length),(103,.n .i64 pn),(104,.n .i64 nO)] [[ab.mk 5 [(eJ aZ aN 1 0 0 ak.length 2 0 0 aR.length 3 0 0 an.length)] .live],(au 1 I ak),(au 1 I aR),(au 1 I an),(au 1 (bM 3 aS) a7)]
def Ip (pn aZ aN:Int)(ak aR an:List Int)(a7:List (Option bj)):(Option bj)→fp
 | a=>⟨some 6,[(9,.bx 4 0 0 a7.length),(13,d9 3 aS a)],[[ab.mk 5 [(eJ aZ aN 1 0 0 ak.length 2 0 0 aR.length 3 0 0 an.length)] .live],(au 1 I ak),(au 1 I aR),(au 1 I an),(au 1 (bM 3 aS) a7)]⟩
def xB (pn aZ aN:Int)(ak aR an:List Int)(a7:List (Option bj))(jy:Option bj)(nO:Int):Option (((Option bj)×Int)⊕((Option bj))) :=
 if (decide (nO<pn))=true then
  if 0≤nO∧nO<(a7.length:Nat) then
  a7[(0+nO.toNat)]? >>= fun aM =>
  if 0≤nO∧nO<(an.length:Nat) then
  an[(0+nO.toNat)]? >>= fun cy =>
  m7 cy >>= fun ea =>
  xO aM ea >>= fun fb =>
  xT jy fb >>= fun fA =>
  some (.inl (fA,U (nO+(1:Int))))
  else none
  else none
 else
  some (.inr jy)
def DF (pn aZ aN:Int)(ak aR an:List Int)(a7:List (Option bj))(jy:Option bj)(nO:Int):Option ((Option bj)):=iter (fun w:(Option bj)×Int=>xB pn aZ aN ak aR an a7 w.1 w.2) (jy,nO)
theorem Vh {pn aZ aN:Int}{ak aR an:List Int}{a7:List (Option bj)}{jy:Option bj}{nO:Int}:bV (xB pn aZ aN ak aR an a7 jy nO) (fV bt 124 4 57 [1,1,1,1,1,1,1,1,1,1,1,0,1,0,0] (H4 pn aZ aN ak aR an a7 (jy,nO)) (H4 pn aZ aN ak aR an a7) (Ip pn aZ aN ak aR an a7)):=by
 unfold xB
 exact .ite (fun o =>
  .bn fun J =>
  .ay fun aM aF =>
  .bn fun aJ =>
  .ay fun cy bJ =>
  .ay fun ea c9 =>
  .ay fun fb c8 =>
  .ay fun fA d4 =>
  .ret (bQ [(ad 1),.ap true,.aI (bL 2 (.cz ((bM 3 aS) aM)) 2),.aI (av 8 (aq (.cz (I cy)) (aq (bC 1 (d9 3 aS ea) false) (aq (bC 2 (d9 3 aS fb) false) (aq (bC 2 (d9 3 aS fA) false) (av 1 [])))))),(ad 2),.bm [0,1,2,3,4] [.box [.id,.id,.id,.id,.id],.pure,.pure,.pure,.pure] (bX [0,9,13,102,103,104])] (.bo o J.1 J.2 (cD (bM 3 aS) aF) aJ.1 aJ.2 (cD I bJ) (qa ea c9) (.fG (ND fb c8) (NI fA d4) (aD 1 .live aA ak) (aD 1 .live aA aR) (aD 1 .live aA an) (aD 1 .live (iC (sz:=3) hM) a7)))))
  (fun o =>
  .ret (bQ [(ad 1),.ap false,.bm [0,1,2,3,4] [.box [.id,.id,.id,.id,.id],.pure,.pure,.pure,.pure] (bX [9,13])] (.eR o (aD 1 .live aA ak) (aD 1 .live aA aR) (aD 1 .live aA an) (aD 1 .live (iC (sz:=3) hM) a7))))
theorem V4 {pn aZ aN:Int}{ak aR an:List Int}{a7:List (Option bj)}{jy:Option bj}{nO:Int}{r} (h:DF pn aZ aN ak aR an a7 jy nO=some r):fW bt 124 4 57 [1,1,1,1,1,1,1,1,1,1,1,0,1,0,0] (H4 pn aZ aN ak aR an a7) (Ip pn aZ aN ak aR an a7) (jy,nO) r:=fZ (fun _=>Vh) h
def sg (b5 cC:Int)(b6 dl dc:List Int):Option (Int×(List (Option bj))×(Option bj)) :=
 u5 b5 cC b6 dl dc >>= fun ae =>
 match ae with
 | .inl bN=>(if 0≤bN.2.2.1∧(8:Int)*bN.2.2.1≤281474976710656∧bN.2.2.1<9223372036854775808 then
  if dc.length≤bN.2.2.1.toNat then
  sL bN.1 bN.2.1 bN.2.2.1 bN.2.2.2.1 bN.2.2.2.2.2.2 bN.2.2.2.2.1 bN.2.2.2.2.2.1 (dc++(List.replicate bN.2.2.1.toNat 0:List Int).drop dc.length) >>= fun bI =>
  if bI.1=true then
   DC cC b5 b6 dl dc bN.2.2.1 bN.2.2.2.1 0 bI.2.1 bI.2.2.1 (dc++(List.replicate bN.2.2.1.toNat 0:List Int).drop dc.length) bI.2.2.2.1 bI.2.2.2.2.1 bI.2.2.2.2.2 >>= fun ba =>
   if 0≤cC∧(8:Int)*cC≤281474976710656∧cC<9223372036854775808 then
   DD ((cC.toNat:Nat):Int) b5 cC b6 dl dc ba.1 ba.2.1 bN.2.2.1 bN.2.2.2.1 ba.2.2.1 ba.2.2.2.1 ba.2.2.2.2 0 (List.replicate cC.toNat (none:(Option bj)):List (Option bj)) >>= fun fA =>
   DE ((ba.2.2.2.1.length:Nat):Int) b5 cC b6 dl dc ba.1 ba.2.1 bN.2.2.1 ba.2.2.2.1 bN.2.2.2.1 ba.2.2.1 ba.2.2.2.2 0 fA >>= fun fz =>
   m7 0 >>= fun df =>
   DF ((fz.length:Nat):Int) b5 cC b6 dl dc fz df 0 >>= fun eK =>
   some (0,fz,eK)
   else none
  else
   some (3,([]:List (Option bj)),(none:(Option bj)))
  else none
  else none)
 | .inr bN=>(some (2,([]:List (Option bj)),(none:(Option bj))))
set_option maxHeartbeats 4000000 in
theorem z0 {b5 cC:Int}{b6 dl dc:List Int}:bV (sg b5 cC b6 dl dc) (fun a=>Con bt 57 [.ref 0 0 0 0] [[ab.mk 5 [(eJ b5 cC 1 0 0 b6.length 2 0 0 dl.length 3 0 0 dc.length)] .live],(au 1 I b6),(au 1 I dl),(au 1 I dc)] (.cY [.n .i64 a.1,.isl 1 (a.2.1.map (bM 3 aS)),d9 3 aS a.2.2]) [[ab.mk 5 [(eJ b5 cC 1 0 0 b6.length 2 0 0 dl.length 3 0 0 dc.length)] .live],(au 1 I b6),(au 1 I dl),(au 1 I dc)]):=by
 unfold sg
 exact .ay fun ae J =>
  (let wi:=eJ b5 cC 1 0 0 b6.length 2 0 0 dl.length 3 0 0 dc.length;have cf:=((.eR (hr (nE [0,1,2,3]) 5 [wi] [wi] rfl) (hi 5 [wi]) (du 1 aA b6) (du 1 aA dl) (du 1 aA dc)):cW _);
  (by
  rcases ae with bN|bN
  ·exact (.bn fun aF =>
  .bn fun aJ =>
  .ay fun bI bJ =>
  (let p3:=eX 1 0 0 bN.2.2.2.1.length bI.2.1 bI.2.2.1 3 0 0 bI.2.2.2.2.1.length bN.2.2.1 4 0 0 bI.2.2.2.2.2.length;let oD:=eX 4 1 0 bN.2.2.2.1.length bN.1 bN.2.1 4 2 0 bN.2.2.2.2.1.length bN.2.2.1 4 3 0 bN.2.2.2.2.2.1.length;let nw:=eJ b5 cC 1 0 0 b6.length 2 0 0 dl.length 3 0 0 dc.length;let kk:=c7 2 aU bN.2.2.2.2.2.2;let rh:=(dc++(List.replicate bN.2.2.1.toNat 0:List Int).drop dc.length);let sE:=eX 5 0 0 bN.2.2.2.1.length bI.2.1 bI.2.2.1 6 0 0 bI.2.2.2.2.1.length bN.2.2.1 7 0 0 bI.2.2.2.2.2.length;let sF:=eX 1 0 0 bN.2.2.2.1.length bN.1 bN.2.1 3 0 0 bN.2.2.2.2.1.length bN.2.2.1 4 0 0 bN.2.2.2.2.2.1.length;let qz:=eX 5 0 0 bN.2.2.2.1.length bN.1 bN.2.1 6 0 0 bN.2.2.2.2.1.length bN.2.2.1 7 0 0 bN.2.2.2.2.2.1.length;let ri:=hR [0,1,2,3,8];let zr:=au 1 (b2 8 0 2) bN.2.2.2.1;let uu:=di [0,1,2,3,8];let wg:=nE [4,5,8,6,7,15];let wh:=hR [4,5,8,6,7,15];let zs:=au 1 (b2 2 0 2) bN.2.2.2.1;let zt:=(kI bN.2.2.1.toNat (0:Int));let B9:=c7 2 aU bI.2.2.2.1;let Ca:=kr I bN.2.2.1.toNat 0;let t2:List cG:=[(ad 3),.aI (bL 1 (.call {aO:=(ln [0,1,2,3]),cu:=[.bB [ab.mk 5 [nw] .live],.pure,.pure,.pure],ac:=[ii],r:= .cY [.ref 4 0 0 0,.b true],dg:=[[ab.mk 5 [nw] .live],(au 1 I b6),(au 1 I dl),(au 1 I dc),(ab.mk 6 [oD] .live::ab.mk 1 (bN.2.2.2.1.map (b2 4 4 2)) .live::ab.mk 1 (bN.2.2.2.2.1.map I) .live::ab.mk 1 (bN.2.2.2.2.2.1.map d6) .live::kk)],eL:= .comp [.ck .id,.ck .id],fq:=[.bB [ab.mk 5 [nw] .live],.pure,.pure,.pure,.bB (ab.mk 6 [(eX 8 1 0 bN.2.2.2.1.length bN.1 bN.2.1 8 2 0 bN.2.2.2.2.1.length bN.2.2.1 8 3 0 bN.2.2.2.2.2.1.length)] .live::ab.mk 1 (bN.2.2.2.1.map (b2 8 4 2)) .live::ab.mk 1 (bN.2.2.2.2.1.map I) .live::ab.mk 1 (bN.2.2.2.2.2.1.map d6) .live::kk)],dZ:=[0,1,2,3],dr:=false}) 5),.bm [0,1,2,3,8] [.box [.id,.id,.id,.id,.id],.pure,.pure,.pure,.bB (ab.mk 6 [oD] .live::ab.mk 1 (bN.2.2.2.1.map (b2 4 4 2)) .live::ab.mk 1 (bN.2.2.2.2.1.map I) .live::ab.mk 1 (bN.2.2.2.2.2.1.map d6) .live::kk)] [(0,ii),(2,ii),(3,ii),(4,.bE (.ck (.p6 3))),(5,ii),(6,ii),(16,.comp [.ck .id,.ck .id]),(17,ii),(18,.comp [.ck .id,.ck .id]),(19,ii),(20,ii)],.vZ [{c2:=some (0,0)},{c2:=some (1,0)},{c2:=some (2,0)},{c2:=some (3,0)},{bc:=[(4,0)]},{bc:=[(4,1)]},{bc:=[(4,2)]},{bc:=[(4,3)]},{c2:=some (4,4)}] [([],some (.box [.id,.id,.id,.id,.id])),([],some (.pure)),([],some (.pure)),([],some (.pure)),([.box [.at_ 5 0 bN.2.2.2.1.length,.id,.id,.at_ 6 0 bN.2.2.2.2.1.length,.id,.at_ 7 0 bN.2.2.2.2.2.1.length]],none),([.rx zr],none),([.pure],none),([.pure],none),([],some (.rx kk))] [(0,ii),(2,ii),(3,ii),(4,ii),(5,.bE (.ck (.at_ 4 0 0))),(6,ii),(16,.comp [.ck (.at_ 4 0 0),.ck .id]),(17,ii),(18,.comp [.ck (.at_ 4 0 0),.ck .id]),(19,.bE (.ck (.at_ 4 0 0))),(20,ii)],(ad 2),.ap false,(ad 6),(ad 6),.aI (bL 2 (.call {aO:=(ln [4,5,8,6,7,15]),cu:=[.bB [ab.mk 6 [sF] .live],.bB zs,.bB kk,.pure,.pure,.dY (au 1 I rh)],ac:=[ii,.bE (.ck (.len (rh.length)))],r:= .b bI.1,dg:=[[ab.mk 6 [p3] .live],zs,B9,(au 1 I bI.2.2.2.2.1),(au 1 d6 bI.2.2.2.2.2),(au 1 I rh)],eL:=ii,fq:=[.bB [ab.mk 6 [sE] .live],.bB zr,.bB B9,.pure,.pure,.pure],dZ:=[4,5,6,7,8,15],dr:=false}) 1)];
  have gh:=cf.a1 (.bo (hr ri 5 [nw] [nw] rfl) (hi 5 [nw]) (du 1 aA b6) (du 1 aA dl) (du 1 aA dc) (fL (show ab.mk 6 [(eX 8 1 0 bN.2.2.2.1.length bN.1 bN.2.1 8 2 0 bN.2.2.2.2.1.length bN.2.2.1 8 3 0 bN.2.2.2.2.2.1.length)] .live=kx (hR [0,1,2,3,8]) (ab.mk 6 [(eX 4 1 0 bN.2.2.2.1.length bN.1 bN.2.1 4 2 0 bN.2.2.2.2.1.length bN.2.2.1 4 3 0 bN.2.2.2.2.2.1.length)] .live) from rfl) (fL (zB ri 8 4 4 2 rfl bN.2.2.2.1) (fL (gR ri 1 ha bN.2.2.2.2.1) (fL (gR ri 1 Ba bN.2.2.2.2.2.1) (fx ri 2 eC bN.2.2.2.2.2.2))))) ((j4 rfl (j4 rfl (j4 rfl (j4 rfl (Ec (iX .live 2 aU bN.2.2.2.2.2.2)))))):mQ (ab.mk 6 [oD] .live::ab.mk 1 (bN.2.2.2.1.map (b2 4 4 2)) .live::ab.mk 1 (bN.2.2.2.2.1.map I) .live::ab.mk 1 (bN.2.2.2.2.2.1.map d6) .live::kk)) (xS (.inl bN) J) (.bo (aD 1 .live aA b6) (aD 1 .live aA dl) (aD 1 .live aA dc) (fL (show ab.mk 6 [(eX 4 1 0 bN.2.2.2.1.length bN.1 bN.2.1 4 2 0 bN.2.2.2.2.1.length bN.2.2.1 4 3 0 bN.2.2.2.2.2.1.length)] .live=kx (di [0,1,2,3,8]) (ab.mk 6 [(eX 8 1 0 bN.2.2.2.1.length bN.1 bN.2.1 8 2 0 bN.2.2.2.2.1.length bN.2.2.1 8 3 0 bN.2.2.2.2.2.1.length)] .live) from rfl) (fL (zB uu 4 8 4 2 rfl bN.2.2.2.1) (fL (gR uu 1 ha bN.2.2.2.2.1) (fL (gR uu 1 Ba bN.2.2.2.2.2.1) (fx uu 2 eC bN.2.2.2.2.2.2))))) (aD 1 .live aA b6) (aD 1 .live aA dl) (aD 1 .live aA dc) (rfl:(ia [{c2:=some (0,0)},{c2:=some (1,0)},{c2:=some (2,0)},{c2:=some (3,0)},{bc:=[(4,0)]},{bc:=[(4,1)]},{bc:=[(4,2)]},{bc:=[(4,3)]},{c2:=some (4,4)}]) 5 0=some (4,1)) (.bo (rfl:bN.2.2.2.1.length=bN.2.2.2.1.length) (rfl:(ia [{c2:=some (0,0)},{c2:=some (1,0)},{c2:=some (2,0)},{c2:=some (3,0)},{bc:=[(4,0)]},{bc:=[(4,1)]},{bc:=[(4,2)]},{bc:=[(4,3)]},{c2:=some (4,4)}]) 6 0=some (4,2)) (rfl:bN.2.2.2.2.1.length=bN.2.2.2.2.1.length) (rfl:(ia [{c2:=some (0,0)},{c2:=some (1,0)},{c2:=some (2,0)},{c2:=some (3,0)},{bc:=[(4,0)]},{bc:=[(4,1)]},{bc:=[(4,2)]},{bc:=[(4,3)]},{c2:=some (4,4)}]) 7 0=some (4,3)) (rfl:bN.2.2.2.2.2.1.length=bN.2.2.2.2.2.1.length) (Qu (KR (km:=(b2 8 0 2)) (ej (b2 4 4 2) bN.2.2.2.1) (fun _=>rfl) (fun x=>(RN (fun _=>rfl)) x)) Ra:sA (ia [{c2:=some (0,0)},{c2:=some (1,0)},{c2:=some (2,0)},{c2:=some (3,0)},{bc:=[(4,0)]},{bc:=[(4,1)]},{bc:=[(4,2)]},{bc:=[(4,3)]},{c2:=some (4,4)}]) (au 1 (b2 4 4 2) bN.2.2.2.1) zr) (aD 1 .live aA bN.2.2.2.2.1) (aD 1 .live eD bN.2.2.2.2.2.1) (.bo (Qw (iX .live 2 aU bN.2.2.2.2.2.2) (fun _=>rfl) eC:sA (ia [{c2:=some (0,0)},{c2:=some (1,0)},{c2:=some (2,0)},{c2:=some (3,0)},{bc:=[(4,0)]},{bc:=[(4,1)]},{bc:=[(4,2)]},{bc:=[(4,3)]},{c2:=some (4,4)}]) kk kk) (rfl:(ia [{c2:=some (0,0)},{c2:=some (1,0)},{c2:=some (2,0)},{c2:=some (3,0)},{bc:=[(4,0)]},{bc:=[(4,1)]},{bc:=[(4,2)]},{bc:=[(4,3)]},{c2:=some (4,4)}]) 4 0=some (4,0)) (rfl:(ia [{c2:=some (0,0)},{c2:=some (1,0)},{c2:=some (2,0)},{c2:=some (3,0)},{bc:=[(4,0)]},{bc:=[(4,1)]},{bc:=[(4,2)]},{bc:=[(4,3)]},{c2:=some (4,4)}]) 4 0=some (4,0)) (rfl:(ia [{c2:=some (0,0)},{c2:=some (1,0)},{c2:=some (2,0)},{c2:=some (3,0)},{bc:=[(4,0)]},{bc:=[(4,1)]},{bc:=[(4,2)]},{bc:=[(4,3)]},{c2:=some (4,4)}]) 4 0=some (4,0)) (rfl:(ia [{c2:=some (0,0)},{c2:=some (1,0)},{c2:=some (2,0)},{c2:=some (3,0)},{bc:=[(4,0)]},{bc:=[(4,1)]},{bc:=[(4,2)]},{bc:=[(4,3)]},{c2:=some (4,4)}]) 4 0=some (4,0)) fv aF.1 (Int.le_refl bN.2.2.1) (.bo aF.2.1 aF.2.2 (jw I dc) (abI (AZ (ej I dc) (fP dc)) aJ) (vq Ca zt) (Re zt (Nat.le_refl _) aJ) (hr wg 6 [sF] [qz] rfl) (hi 6 [qz]) (.bo (fw wg 2 8 0 2 rfl bN.2.2.2.1) (hi 1 (bN.2.2.2.1.map (b2 8 0 2))) (fx wg 2 eC bN.2.2.2.2.2.2) (rq 2 aU bN.2.2.2.2.2.2) (du 1 aA bN.2.2.2.2.1) (du 1 eD bN.2.2.2.2.2.1) (eB 1 .live (aaL Ca (AZ (ej I dc) (fP dc)))) (du 1 aA rh) (.bo (hr wh 6 [sE] [p3] rfl) (hi 6 [p3]) (fw wh 8 2 0 2 rfl bN.2.2.2.1) (hi 1 (bN.2.2.2.1.map (b2 2 0 2))) (fx wh 2 eC bI.2.2.2.1) (rq 2 aU bI.2.2.2.1) (du 1 aA bI.2.2.2.2.1) (du 1 eD bI.2.2.2.2.2) (.aH (du 1 aA rh) (Hj bI bJ)))))))));
  .ite (fun bu =>
  .ay fun ba da =>
  .bn fun c8 =>
  .ay fun fA d4 =>
  .ay fun fz gK =>
  .ay fun df g7 =>
  .ay fun eK j0 =>
  .ret (let aL:=eJ b5 cC 1 0 0 b6.length 2 0 0 dl.length 3 0 0 dc.length;let bg:=(List.replicate cC.toNat (none:(Option bj)):List (Option bj));let b1:=aD 1 .live aA b6;let cI:=aD 1 .live aA dl;let eU:=aD 1 .live aA dc;let gC:=(dc++(List.replicate bN.2.2.1.toNat 0:List Int).drop dc.length);let hq:=di [0,1,2,3,4,15,5,8,6,7];let fY:=di [0,1,2,3,4,13,5,6,7,8];let ic:=di [0,1,2,3,4,5,8,6,7,9];let jh:=au 1 (b2 7 0 2) bN.2.2.2.1;let k7:=aD 1 .live aA ba.2.2.2.1;let k8:=aD 1 .live eD ba.2.2.2.2;let nu:=c7 2 aU ba.2.2.1;h2 (t2.append [.ap false,(ad 5),.bm [0,1,2,3,4,15,5,8,6,7] [.box [.id,.id,.id,.id,.id],.pure,.pure,.pure,.box [.id,.id,.id,.id,.id,.id],.pure,.bB jh,.bB (c7 2 aU bI.2.2.2.1),.pure,.pure] [(0,ii),(5,ii),(7,gz (gC.length)),(41,ii),(42,ii)],(Il cC b5 b6 dl dc bN.2.2.1 bN.2.2.2.1 ba).gL,.aI (bL 4 (.cz [(d9 3 aS (none:(Option bj)))]) 1),(ad 3),.bm [0,1,2,3,4,13,5,6,7,8] [.box [.id,.id,.id,.id,.id],.pure,.pure,.pure,.box [.id,.id,.id,.id,.id,.id],.dY (au 1 (bM 3 aS) bg),.bB jh,.bB nu,.pure,.pure] [(0,ii),(5,ii),(9,gz (bg.length)),(59,ii),(60,ii)],(Im ((cC.toNat:Nat):Int) b5 cC b6 dl dc ba.1 ba.2.1 bN.2.2.1 bN.2.2.2.1 ba.2.2.1 ba.2.2.2.1 ba.2.2.2.2 fA).gL,(ad 6),.bm [0,1,2,3,4,5,8,6,7,9] [.box [.id,.id,.id,.id,.id],.pure,.pure,.pure,.box [.id,.id,.id,.id,.id,.id],.pure,.pure,.bB (au 1 (b2 8 0 2) bN.2.2.2.1),.bB nu,.pure] (bX [0,5,9,71,72,73]),(Io ((ba.2.2.2.1.length:Nat):Int) b5 cC b6 dl dc ba.1 ba.2.1 bN.2.2.1 ba.2.2.2.1 bN.2.2.2.1 ba.2.2.1 ba.2.2.2.2 fz).gL,.aI (aq (bC 1 (d9 3 aS df) false) (av 1 [])),(ad 3),.bm [0,1,2,3,4] [.box [.id,.id,.id,.id,.id],.pure,.pure,.pure,.pure] (bX [0,9,13,102,103,104]),(Ip ((fz.length:Nat):Int) b5 cC b6 dl dc fz eK).gL,(ad 5)]) [0,1,2,3] [.bB [ab.mk 5 [aL] .live],.pure,.pure,.pure] (gh.a1 (.bo (d7 bu) b1 cI eU (aD 1 .live aA gC) (fw hq 7 8 0 2 rfl bN.2.2.2.1) (fx hq 2 eC bI.2.2.2.1) (aD 1 .live aA bI.2.2.2.2.1) (.bo (aD 1 .live eD bI.2.2.2.2.2) (Re (kI bN.2.2.1.toNat (0:Int)) (Nat.le_refl _) aJ) (V1 da) c8.1 (Int.le_refl cC) c8.2.1 c8.2.2 b1 (.bo cI eU (eB 1 .live (kr (bM 3 aS) cC.toNat (none:(Option bj)))) (aD 1 .live (iC (sz:=3) hM) bg) (fw fY 7 6 0 2 rfl bN.2.2.2.1) (fx fY 2 eC ba.2.2.1) k7 k8 (.bo (kI cC.toNat ((none:(Option bj)):(Option bj))) (V2 d4) b1 cI eU (aD 1 .live (iC (sz:=3) hM) fA) k7 (fw ic 8 7 0 2 rfl bN.2.2.2.1) (.bo (fx ic 2 eC ba.2.2.1) k8 (V3 gK) (qa df g7) b1 cI eU (aD 1 .live (iC (sz:=3) hM) fz) (.h6 (V4 j0) (hr (di [0,1,2,3]) 5 [aL] [aL] rfl) b1 cI eU (ki (bM 3 aS) fz) (jw (bM 3 aS) fz) (fs (iC (sz:=3) hM) fz)))))))) (.comp [.ck .id,.ck (.gv (fz.map (bM 3 aS))),.ck .id])))
  (fun bu =>
  .ret (let nv:=eJ b5 cC 1 0 0 b6.length 2 0 0 dl.length 3 0 0 dc.length;h2 (t2.append [.ap true,(ad 3)]) [0,1,2,3] [.bB [ab.mk 5 [nv] .live],.pure,.pure,.pure] (gh.a1 (.eR (ee bu) (hr (di [0,1,2,3]) 5 [nv] [nv] rfl) (aD 1 .live aA b6) (aD 1 .live aA dl) (aD 1 .live aA dc))) (.comp [.ck .id,.ck (.hh 1),.ck (.p6 3)])))))
  ·exact (.ret (let mf:=eJ b5 cC 1 0 0 b6.length 2 0 0 dl.length 3 0 0 dc.length;h2 [(ad 3),.aI (bL 1 (.call {aO:=(ln [0,1,2,3]),cu:=[.bB [ab.mk 5 [mf] .live],.pure,.pure,.pure],ac:=[ii],r:= .cY [.iw,.b false],dg:=[[ab.mk 5 [mf] .live],(au 1 I b6),(au 1 I dl),(au 1 I dc)],eL:=ii,fq:=[.bB [ab.mk 5 [mf] .live],.pure,.pure,.pure],dZ:=[0,1,2,3],dr:=false}) 5),(ad 2),.ap true,(ad 3)] [0,1,2,3] [.bB [ab.mk 5 [mf] .live],.pure,.pure,.pure] (cf.a1 (.bo (hr (hR [0,1,2,3]) 5 [mf] [mf] rfl) (hi 5 [mf]) (du 1 aA b6) (du 1 aA dl) (du 1 aA dc) (xS (.inr bN) J) cV (hr (di [0,1,2,3]) 5 [mf] [mf] rfl) (.cd (aD 1 .live aA b6) (aD 1 .live aA dl) (aD 1 .live aA dc)))) (.comp [.ck .id,.ck (.hh 1),.ck (.p6 3)])))))
def vn (a9:Option bj):Option (Option bj) :=
 a9.elim
 (some (none:(Option bj)))
 fun eo =>
 p9 eo.qn >>= fun bl =>
 some (some (⟨bl,eo.pY⟩:bj))
theorem D0 {a9:Option bj}:bV (vn a9) (fun r=>Con bt 90 [(d9 3 aS a9)] [] (d9 3 aS r) []):=by
 unfold vn
 exact .k5 (fun o =>
  .ret (bY [(ad 1),.aI (av 1 (aq (.fF 3 (.e8 3 none) .c4) [])),.ap true,(ad 1)] (.aH (o1 (sz:=3) (f:=aS) o) cV) (.bE (.ck (.p6 3)))))
  (fun eo o =>
  .ay fun bl aF =>
  .ret (bY [(ad 1),.aI (av 1 (aq (.fF 3 (.e8 3 (some (aS eo))) .c4) [])),.ap false,.aI (av 1 (aq (.fF 5 (.e8 3 (some (aS eo))) .c4) (av 2 (aq (bC 1 (.agg (aU bl)) false) (bL 1 (.fF 10 (.e8 3 (some (aS eo))) .c4) 5)))))] (.fG (jq (sz:=3) (f:=aS) o) fv (jq (sz:=3) (f:=aS) o) (C1 bl aF) (jq (sz:=3) (f:=aS) o) (j6 (hM (⟨bl,eo.pY⟩:bj)):g9 [[.b bl.db,.isl 1 (bl.cN.map I),.isl 1 (eo.pY.map I)]])) (.bE (.ti [.id,.id,.id]))))
def sm (b3:Option bj):Option (Option bj) :=
 b3 >>= fun fJ =>
 if (decide ((24:Int)<(len_ I fJ.qn.cN)))=true then
  some (none:(Option bj))
 else
  if (decide ((24:Int)<(len_ I fJ.pY)))=true then
   some (none:(Option bj))
  else
   some b3
theorem Am {b3:Option bj}:bV (sm b3) (fun r=>Con bt 61 [(d9 3 aS b3)] [] (d9 3 aS r) []):=by
 unfold sm
 exact .ay fun fJ J =>
  (have cf:=((.aC (jq (sz:=3) (f:=aS) J)):cW _);
  .ite (fun af =>
  .ret (bY [(ad 1),.aI (av 1 (aq (.fF 3 (.e8 3 (some (aS fJ))) .c4) (av 6 (dm 6 (aq (.ap true) []))))),.ap true,(ad 1)] (cf.a1 (.h6 af af af af af af af cV)) (.bE (.ck (.p6 3)))))
  (fun af =>
  (let t2:List cG:=[(ad 1),.aI (av 1 (aq (.fF 3 (.e8 3 (some (aS fJ))) .c4) (av 7 (aq (.fF 11 (.e8 3 (some (aS fJ))) .c4) (av 4 (aq (.ap false) []))))))];
  have gh:=cf.a1 (.h6 af af (jq (sz:=3) (f:=aS) J) af af af af af);
  .ite (fun aF =>
  .ret (bY (t2.append [.ap true,(ad 1)]) (gh.a1 (.aC aF)) (.bE (.ck (.p6 3)))))
  (fun aF =>
  .ret (bY (t2.append [.ap false,(ad 2)]) (gh.a1 (.aC aF)))))))
def m9 (a9 a8:Option bj):Option (Option bj) :=
 a9.elim
 (some (none:(Option bj)))
 fun eo =>
 a8.elim
 (some (none:(Option bj)))
 fun oG =>
 xT a9 a8 >>= fun br =>
 sm br >>= fun bZ =>
 some bZ
theorem qL {a9 a8:Option bj}:bV (m9 a9 a8) (fun r=>Con bt 27 [d9 3 aS a9,d9 3 aS a8] [] (d9 3 aS r) []):=by
 unfold m9
 exact .k5 (fun o =>
  .ret (bY [(ad 1),.aI (av 1 (aq (.fF 5 (.e8 3 none) .c4) (av 1 (dm 2 (av 1 []))))),.ap true,(ad 1)] (.dh (o1 (sz:=3) (f:=aS) o) cV cV cV) (.bE (.ck (.p6 3)))))
  (fun eo o =>
  (have cf:=((.cd (jq (sz:=3) (f:=aS) o) fv fv):cW _);
  .k5 (fun af =>
  .ret (bY [(ad 1),.aI (av 1 (aq (.fF 5 (.e8 3 (some (aS eo))) .c4) (bL 2 (.fF 8 (.e8 3 none) .c4) 1))),.ap true,(ad 1)] (cf.a1 (.aH (o1 (sz:=3) (f:=aS) af) cV)) (.bE (.ck (.p6 3)))))
  (fun oG af =>
  .ay fun br bp =>
  .ay fun bZ bu =>
  .ret (bY [(ad 1),.aI (av 1 (aq (.fF 5 (.e8 3 (some (aS eo))) .c4) (bL 2 (.fF 8 (.e8 3 (some (aS oG))) .c4) 1))),.ap false,.aI (av 2 (aq (bC 2 (d9 3 aS br) false) (aq (bC 1 (d9 3 aS bZ) false) (av 1 []))))] (cf.a1 (.dh (jq (sz:=3) (f:=aS) af) fv (NI br bp) (Am bZ bu)))))))
def GU (b3:List (Option bj))(fu:List ez)(hI:Int):(Int×(List (Option bj)))→S:=fun (dt,ai)=>fh [(1,.isl 1 (b3.map (bM 3 aS))),(5,.bx 0 0 0 ai.length),(16,.isl 2 (fu.map et)),(17,.n .i64 hI),(18,.n .i64 dt)] [(au 1 (bM 3 aS) ai)]
def G5 (b3:List (Option bj))(fu:List ez)(hI:Int):(List (Option bj))→fp
 | a=>⟨some 0,[(5,.bx 0 0 0 a.length)],[(au 1 (bM 3 aS) a)]⟩
def GV (b3:List (Option bj))(fu:List ez)(hI dt:Int)(ai:List (Option bj)):Option ((Int×(List (Option bj)))⊕((List (Option bj)))) :=
 if (decide (dt<hI))=true then
  if 0≤dt∧dt<fu.length then
  fu[dt.toNat]? >>= fun aM =>
  if 0≤dt∧dt<b3.length then
  b3[dt.toNat]? >>= fun cy =>
  if (decide (aM.og<(0:Int)))=true then
   vn cy >>= fun ba =>
   if 0≤aM.fj∧aM.fj<(ai.length:Nat) then
   ai[(0+aM.fj.toNat)]? >>= fun qA =>
   qA.elim
   (if (0+aM.fj.toNat)<ai.length then
     some (.inl (U (dt+(1:Int)),ai.set (0+aM.fj.toNat) ba))
     else none)
   fun Cb =>
   m9 qA ba >>= fun df =>
   if (0+aM.fj.toNat)<ai.length then
   some (.inl (U (dt+(1:Int)),ai.set (0+aM.fj.toNat) df))
   else none
   else none
  else
   if 0≤aM.fj∧aM.fj<(ai.length:Nat) then
   ai[(0+aM.fj.toNat)]? >>= fun il =>
   il.elim
   (if (0+aM.fj.toNat)<ai.length then
     some (.inl (U (dt+(1:Int)),ai.set (0+aM.fj.toNat) cy))
     else none)
   fun Cc =>
   m9 il cy >>= fun fz =>
   if (0+aM.fj.toNat)<ai.length then
   some (.inl (U (dt+(1:Int)),ai.set (0+aM.fj.toNat) fz))
   else none
   else none
  else none
  else none
 else
  some (.inr ai)
def Nn (b3:List (Option bj))(fu:List ez)(hI dt:Int)(ai:List (Option bj)):Option ((List (Option bj))):=iter (fun w:Int×(List (Option bj))=>GV b3 fu hI w.1 w.2) (dt,ai)
theorem Uh {b3:List (Option bj)}{fu:List ez}{hI dt:Int}{ai:List (Option bj)}:bV (GV b3 fu hI dt ai) (fV bt 56 0 59 [1,1,0,1,0,0] (GU b3 fu hI (dt,ai)) (GU b3 fu hI) (G5 b3 fu hI)):=by
 unfold GV
 exact .ite (fun o =>
  .bn fun J =>
  .ay fun aM aF =>
  .bn fun aJ =>
  .ay fun cy bJ =>
  (let t1:List cG:=[(ad 1),.ap true,.aI (bL 2 (.cz (et aM)) 3),.aI (bL 3 (.cz ((bM 3 aS) cy)) 1),(ad 3)];
  have a5:=((.fC o J.1 (eI et J.2) (cD et aF) aJ.1 (eI (bM 3 aS) aJ.2) (cD (bM 3 aS) bJ)):cW _);
  .ite (fun bu =>
  .ay fun ba da =>
  .bn fun c8 =>
  .ay fun qA d4 =>
  (let t3:List cG:=t1.append [.ap true,.aI (bL 1 (bC 1 (d9 3 aS ba) false) 1)];
  have fI:=a5.a1 (.eR bu (D0 ba da) c8.1 c8.2 (cD (bM 3 aS) d4));
  .k5 (fun d8 =>
  .bn fun fT =>
  .ret (bQ (t3.append [.aI (av 4 (aq (.cz ((bM 3 aS) qA)) (aq (.fF 36 (.e8 3 none) .c4) []))),.ap true,.aI (av 5 (aq .c4 [])),(ad 2),.bm [0] [.dY (au 1 (bM 3 aS) (ai.set (0+aM.fj.toNat) ba))] [(1,ii),(5,gz ((ai.set (0+aM.fj.toNat) ba).length)),(16,ii),(17,ii),(18,ii)]]) (fI.a1 (.bo (o1 (sz:=3) (f:=aS) d8) cV c8.1 c8.2 (hB (bM 3 aS) fT) (g8 1) (eB 1 .live (gi (ej (bM 3 aS) ai) (0+aM.fj.toNat) ba)) (aD 1 .live (iC (sz:=3) hM) (ai.set (0+aM.fj.toNat) ba)) (.aC (hg (fP ai) (0+aM.fj.toNat) ba))))))
  (fun Cb d8 =>
  .ay fun df g7 =>
  .bn fun kA =>
  .ret (bQ (t3.append [.aI (av 4 (aq (.cz ((bM 3 aS) qA)) (aq (.fF 36 (.e8 3 (some (aS Cb))) .c4) []))),.ap false,.aI (av 7 (aq (.cz ((bM 3 aS) qA)) (av 1 (aq (bC 2 (d9 3 aS df) false) (av 1 (aq .c4 [])))))),(ad 2),.bm [0] [.dY (au 1 (bM 3 aS) (ai.set (0+aM.fj.toNat) df))] [(1,ii),(5,gz ((ai.set (0+aM.fj.toNat) df).length)),(16,ii),(17,ii),(18,ii)]]) (fI.a1 (.bo (jq (sz:=3) (f:=aS) d8) fv c8.1 c8.2 (cD (bM 3 aS) d4) (qL df g7) c8.1 c8.2 (.eR (hB (bM 3 aS) kA) (g8 1) (eB 1 .live (gi (ej (bM 3 aS) ai) (0+aM.fj.toNat) df)) (aD 1 .live (iC (sz:=3) hM) (ai.set (0+aM.fj.toNat) df)) (hg (fP ai) (0+aM.fj.toNat) df))))))))
  (fun bu =>
  .bn fun c9 =>
  .ay fun il c8 =>
  (have gh:=a5.a1 (.dh bu c9.1 c9.2 (cD (bM 3 aS) c8));
  .k5 (fun eF =>
  .bn fun d8 =>
  .ret (bQ (t1.append [.ap false,.aI (av 4 (aq (.cz ((bM 3 aS) il)) (aq (.fF 36 (.e8 3 none) .c4) []))),.ap true,.aI (av 5 (aq .c4 [])),(ad 2),.bm [0] [.dY (au 1 (bM 3 aS) (ai.set (0+aM.fj.toNat) cy))] [(1,ii),(5,gz ((ai.set (0+aM.fj.toNat) cy).length)),(16,ii),(17,ii),(18,ii)]]) (gh.a1 (.bo (o1 (sz:=3) (f:=aS) eF) cV c9.1 c9.2 (hB (bM 3 aS) d8) (g8 1) (eB 1 .live (gi (ej (bM 3 aS) ai) (0+aM.fj.toNat) cy)) (aD 1 .live (iC (sz:=3) hM) (ai.set (0+aM.fj.toNat) cy)) (.aC (hg (fP ai) (0+aM.fj.toNat) cy))))))
  (fun Cc eF =>
  .ay fun fz gK =>
  .bn fun fT =>
  .ret (bQ (t1.append [.ap false,.aI (av 4 (aq (.cz ((bM 3 aS) il)) (aq (.fF 36 (.e8 3 (some (aS Cc))) .c4) []))),.ap false,.aI (av 7 (aq (.cz ((bM 3 aS) il)) (av 1 (aq (bC 2 (d9 3 aS fz) false) (av 1 (aq .c4 [])))))),(ad 2),.bm [0] [.dY (au 1 (bM 3 aS) (ai.set (0+aM.fj.toNat) fz))] [(1,ii),(5,gz ((ai.set (0+aM.fj.toNat) fz).length)),(16,ii),(17,ii),(18,ii)]]) (gh.a1 (.bo (jq (sz:=3) (f:=aS) eF) fv c9.1 c9.2 (cD (bM 3 aS) c8) (qL fz gK) c9.1 c9.2 (.eR (hB (bM 3 aS) fT) (g8 1) (eB 1 .live (gi (ej (bM 3 aS) ai) (0+aM.fj.toNat) fz)) (aD 1 .live (iC (sz:=3) hM) (ai.set (0+aM.fj.toNat) fz)) (hg (fP ai) (0+aM.fj.toNat) fz))))))))))
  (fun o =>
  .ret (bQ [(ad 1),.ap false,.bm [0] [.pure] (bX [5])] (.aH o (aD 1 .live (iC (sz:=3) hM) ai))))
theorem UB {b3:List (Option bj)}{fu:List ez}{hI dt:Int}{ai:List (Option bj)}{r} (h:Nn b3 fu hI dt ai=some r):fW bt 56 0 59 [1,1,0,1,0,0] (GU b3 fu hI) (G5 b3 fu hI) (dt,ai) r:=fZ (fun _=>Uh) h
def C7 (aK:b4)(b3:List (Option bj)):Option (List (Option bj)) :=
 if 0≤(len_ c3 aK.bz)∧(8:Int)*(len_ c3 aK.bz)≤281474976710656∧(len_ c3 aK.bz)<9223372036854775808 then
 sb aK >>= fun bq =>
 Nn b3 bq (len_ et bq) 0 (List.replicate (len_ c3 aK.bz).toNat (none:(Option bj)):List (Option bj)) >>= fun aw =>
 some aw
 else none
theorem UY {aK:b4}{b3:List (Option bj)}:bV (C7 aK b3) (fun a=>Con bt 59 [.eh 2 [(gf aK)] 0 0,.isl 1 (b3.map (bM 3 aS))] [] (.bx 0 0 0 a.length) [(au 1 (bM 3 aS) a)]):=by
 unfold C7
 exact .bn fun o =>
  .ay fun bq af =>
  .ay fun aw aJ =>
  .ret (let bg:=len_ c3 aK.bz;let aL:=(List.replicate bg.toNat (none:(Option bj)):List (Option bj));h2 [(ad 1),.aI (bL 5 (.cz [(d9 3 aS (none:(Option bj)))]) 1),.aI (bL 1 (bC 1 (.isl 2 (bq.map et)) false) 2),.bm [6] [.dY (au 1 (bM 3 aS) aL)] [(1,ii),(5,gz (aL.length)),(16,ii),(17,ii),(18,ii)],(G5 b3 bq (len_ et bq) aw).gL,(ad 2)] [0] [.pure] (.bo o.1 (Int.le_refl bg) o.2.1 o.2.2 (xf bq af) (eB 1 .live (kr (bM 3 aS) bg.toNat (none:(Option bj)))) (aD 1 .live (iC (sz:=3) hM) aL) (kI bg.toNat ((none:(Option bj)):(Option bj))) (.aH (UB aJ) (aD 1 .live (iC (sz:=3) hM) aw))))
def zJ (aK:b4)(jf jc:Int)(dn b6 dl:List Int):Option ((Unit)⊕((List (Option bj))×(List (Option bj)))) :=
 sg jf jc dn b6 dl >>= fun ae =>
 if (ae.1 != (0:Int))=true then
  some (.inl ())
 else
  sb aK >>= fun aw =>
  if 0≤(len_ et aw) then
  if 0≤(len_ et aw).toNat∧(len_ et aw).toNat≤ae.2.1.length then
  C7 aK ((ae.2.1.drop 0).take ((len_ et aw).toNat-0)) >>= fun ea =>
  if (len_ et aw).toNat≤ae.2.1.length then
  some (.inr ((ae.2.1.drop ((len_ et aw).toNat)).take ((ae.2.1.map (bM 3 aS)).length-(len_ et aw).toNat),ea))
  else none
  else none
  else none
theorem Nj {aK:b4}{jf jc:Int}{dn b6 dl:List Int}:bV (zJ aK jf jc dn b6 dl) (Sum.elim (fun a=>Con bt 25 [.eh 2 [(gf aK)] 0 0,.agg (eJ jf jc 0 0 0 dn.length 1 0 0 b6.length 2 0 0 dl.length)] [(au 1 I dn),(au 1 I b6),(au 1 I dl)] (.cY [.eP,.eP,.b false]) [(au 1 I dn),(au 1 I b6),(au 1 I dl)]) (fun a=>Con bt 25 [.eh 2 [(gf aK)] 0 0,.agg (eJ jf jc 0 0 0 dn.length 1 0 0 b6.length 2 0 0 dl.length)] [(au 1 I dn),(au 1 I b6),(au 1 I dl)] (.cY [.bx 3 0 0 a.2.length,.isl 1 (a.1.map (bM 3 aS)),.b true]) [(au 1 I dn),(au 1 I b6),(au 1 I dl),(au 1 (bM 3 aS) a.2)])):=by
 unfold zJ
 exact .ay fun ae J =>
  (let b1:=eJ jf jc 1 0 0 dn.length 2 0 0 b6.length 3 0 0 dl.length;let cI:=eJ jf jc 0 0 0 dn.length 1 0 0 b6.length 2 0 0 dl.length;let t1:List cG:=[(ad 4),.aI (aq (.call {aO:=(ln [3,0,1,2]),cu:=[.bB [ab.mk 5 [b1] .live],.pure,.pure,.pure],ac:=[ii],r:= .cY [.n .i64 ae.1,.isl 1 (ae.2.1.map (bM 3 aS)),d9 3 aS ae.2.2],dg:=[[ab.mk 5 [b1] .live],(au 1 I dn),(au 1 I b6),(au 1 I dl)],eL:=ii,fq:=[.bB [ab.mk 5 [cI] .live],.pure,.pure,.pure],dZ:=[0,1,2,3],dr:=false}) (av 7 [])),(ad 2)];
  have a5:=((.bo (hr (nE [3,0,1,2]) 5 [b1] [cI] rfl) (hi 5 [cI]) (du 1 aA dn) (du 1 aA b6) (du 1 aA dl) (hr (hR [3,0,1,2]) 5 [cI] [b1] rfl) (hi 5 [b1]) (du 1 aA dn) (.cd (du 1 aA b6) (du 1 aA dl) (z0 ae J))):cW _);
  .ite (fun af =>
  .ret (h2 (t1.append [.ap true,(ad 3)]) [0,1,2] [.pure,.pure,.pure] (a5.a1 (.dh af (aD 1 .live aA dn) (aD 1 .live aA b6) (aD 1 .live aA dl)))))
  (fun af =>
  .ay fun aw aJ =>
  .bn fun bp =>
  .bn fun bJ =>
  .ay fun ea c9 =>
  .bn fun da =>
  .ret (let aL:=len_ et aw;let bg:=ej (bM 3 aS) ae.2.1;h2 (t1.append [.ap false,.aI (bL 1 (bC 1 (.isl 2 (aw.map et)) false) 2),.aI (bL 4 (.call {aO:=[],cu:=[],ac:=[ii,.bE (.ck (.dY (.isl 1 (((ae.2.1.drop 0).take (aL.toNat-0)).map (bM 3 aS)))))],r:= .bx 0 0 0 ea.length,dg:=[(au 1 (bM 3 aS) ea)],eL:=ii,fq:=[.pure],dZ:=[],dr:=false}) 6)]) [0,1,2,25] [.pure,.pure,.pure,.pure] (a5.a1 (.bo af (xf aw aJ) bp bJ.1 (s3 bg bJ.2) (congrArg (aB.isl 1) (oM bg 0 (aL.toNat-0)):(.isl 1 (((ae.2.1.map (bM 3 aS)).drop 0).take (aL.toNat-0)):aB) = .isl 1 (((ae.2.1.drop 0).take (aL.toNat-0)).map (bM 3 aS))) (du 1 (iC (sz:=3) hM) ea) (UY ea c9) (.h6 bp (Q7 bg▸da:aL.toNat≤(ae.2.1.map (bM 3 aS)).length) (Nat.le_refl ((ae.2.1.map (bM 3 aS)).length)) (aD 1 .live aA dn) (aD 1 .live aA b6) (aD 1 .live aA dl) (aD 1 .live (iC (sz:=3) hM) ea) (congrArg (aB.isl 1) (oM bg (aL.toNat) ((ae.2.1.map (bM 3 aS)).length-aL.toNat)):(.isl 1 (((ae.2.1.map (bM 3 aS)).drop (aL.toNat)).take ((ae.2.1.map (bM 3 aS)).length-aL.toNat)):aB) = .isl 1 (((ae.2.1.drop (aL.toNat)).take ((ae.2.1.map (bM 3 aS)).length-aL.toNat)).map (bM 3 aS)))))) (.comp [.ck .id,.ck (.dY (.isl 1 (((ae.2.1.drop (aL.toNat)).take ((ae.2.1.map (bM 3 aS)).length-aL.toNat)).map (bM 3 aS)))),.ck .id]))))
def zX (b3:bf):Option bf :=
 if (decide ((60:Int)<(len_ I b3.cN)))=true then
  some (⟨false,([]:List Int)⟩:bf)
 else
  vt b3.cN >>= fun bq =>
  some (⟨b3.db,bq⟩:bf)
theorem VG {b3:bf}:bV (zX b3) (fun r=>Con bt 76 [.agg (aU b3)] [] (.agg (aU r)) []):=by
 unfold zX
 exact .ite (fun o =>
  .ret (bY [(ad 2),(ad 4),.ap true,(ad 2)] (.aC o) (.bE (.agg [.id,.hh 1]))))
  (fun o =>
  .ay fun bq af =>
  .ret (bY [(ad 2),(ad 4),.ap false,.aI (bL 4 (bC 1 (.isl 1 (bq.map I)) false) 2)] (.aH o (JM bq af))))
def sT (b3:Option bj):Option ep :=
 b3.elim
 (some (⟨(⟨false,([]:List Int)⟩:bf),([]:List Int)⟩:ep))
 fun eo =>
 zX eo.qn >>= fun bl =>
 vt eo.pY >>= fun br =>
 some (⟨bl,br⟩:ep)
theorem z6 {b3:Option bj}:bV (sT b3) (fun r=>Con bt 40 [(d9 3 aS b3)] [] (.agg (eE r)) []):=by
 unfold sT
 exact .k5 (fun o =>
  .ret (bY [(ad 1),.aI (av 1 (aq (.fF 3 (.e8 3 none) .c4) [])),.ap true,(ad 2)] (.aH (o1 (sz:=3) (f:=aS) o) cV) (.bE (.agg [.id,.hh 1,.hh 1]))))
  (fun eo o =>
  .ay fun bl aF =>
  .ay fun br bp =>
  .ret (bY [(ad 1),.aI (av 1 (aq (.fF 3 (.e8 3 (some (aS eo))) .c4) [])),.ap false,.aI (av 1 (aq (.fF 6 (.e8 3 (some (aS eo))) .c4) (av 2 (aq (bC 1 (.agg (aU bl)) false) (av 1 (aq (.fF 11 (.e8 3 (some (aS eo))) .c4) (bL 2 (bC 1 (.isl 1 (br.map I)) false) 2)))))))] (.fG (jq (sz:=3) (f:=aS) o) fv (jq (sz:=3) (f:=aS) o) (VG bl aF) (jq (sz:=3) (f:=aS) o) (JM br bp))))
def Iq (eT:List (Option bj))(cL:Int):(Int×(List ep))→S:=fun (cB,ai)=>fh [(4,.bx 0 0 0 ai.length),(10,.isl 1 (eT.map (bM 3 aS))),(11,.n .i64 cL),(12,.n .i64 cB)] [(au 3 eE ai)]
def IA (eT:List (Option bj))(cL:Int):(((List ep))⊕(Unit))→fp
 | .inl a=>⟨some 0,[(4,.bx 0 0 0 a.length)],[(au 3 eE a)]⟩
 | .inr a=>⟨none,[(2,.eP),(3,.b false)],[]⟩
def xG (eT:List (Option bj))(cL cB:Int)(ai:List ep):Option ((Int×(List ep))⊕(((List ep))⊕(Unit))) :=
 if (decide (cB<cL))=true then
  if 0≤cB∧cB<eT.length then
  eT[cB.toNat]? >>= fun aM =>
  aM.elim
  (some (.inr (.inr ())))
  fun o6 =>
  sT aM >>= fun bZ =>
  if 0≤cB∧cB<(ai.length:Nat) then
  if (0+cB.toNat)<ai.length then
  some (.inl (U (cB+(1:Int)),ai.set (0+cB.toNat) bZ))
  else none
  else none
  else none
 else
  some (.inr (.inl ai))
def Je (eT:List (Option bj))(cL cB:Int)(ai:List ep):Option (((List ep))⊕(Unit)):=iter (fun w:Int×(List ep)=>xG eT cL w.1 w.2) (cB,ai)
theorem Vo {eT:List (Option bj)}{cL cB:Int}{ai:List ep}:bV (xG eT cL cB ai) (fV bt 26 0 30 [1,1,0,1,0,0] (Iq eT cL (cB,ai)) (Iq eT cL) (IA eT cL)):=by
 unfold xG
 exact .ite (fun o =>
  .bn fun J =>
  .ay fun aM aF =>
  (let t1:List cG:=[(ad 1),.ap true,.aI (bL 2 (.cz ((bM 3 aS) aM)) 2)];
  have a5:=((.dh o J.1 (eI (bM 3 aS) J.2) (cD (bM 3 aS) aF)):cW _);
  .k5 (fun aJ =>
  .ret (bQ (t1.append [.aI (av 1 (aq (.fF 17 (.e8 3 none) .c4) [])),.ap true,(ad 2),.bm [] [] (bX [2,3])]) (a5.a1 (.aH (o1 (sz:=3) (f:=aS) aJ) cV))))
  (fun o6 aJ =>
  .ay fun bZ bu =>
  .bn fun c9 =>
  .bn fun da =>
  .ret (bQ (t1.append [.aI (av 1 (aq (.fF 17 (.e8 3 (some (aS o6))) .c4) [])),.ap false,.aI (av 3 (aq (bC 1 (.agg (eE bZ)) false) (av 1 (aq .c4 [])))),(ad 2),.bm [0] [.dY (au 3 eE (ai.set (0+cB.toNat) bZ))] [(4,gz ((ai.set (0+cB.toNat) bZ).length)),(10,ii),(11,ii),(12,ii)]]) (a5.a1 (.bo (jq (sz:=3) (f:=aS) aJ) fv (z6 bZ bu) c9.1 c9.2 (hB eE da) (g8 3) (eB 3 .live (gi (ej eE ai) (0+cB.toNat) bZ)) (.aH (aD 3 .live D6 (ai.set (0+cB.toNat) bZ)) (hg (fP ai) (0+cB.toNat) bZ))))))))
  (fun o =>
  .ret (bQ [(ad 1),.ap false,.bm [0] [.pure] (bX [4])] (.aH o (aD 3 .live D6 ai))))
theorem NM {eT:List (Option bj)}{cL cB:Int}{ai:List ep}{r} (h:Je eT cL cB ai=some r):fW bt 26 0 30 [1,1,0,1,0,0] (Iq eT cL) (IA eT cL) (cB,ai) r:=fZ (fun _=>Vo) h
def va (dd:List (Option bj)):Option ((List ep)×Bool) :=
 if 0≤(len_ (bM 3 aS) dd)∧(56:Int)*(len_ (bM 3 aS) dd)≤281474976710656∧(len_ (bM 3 aS) dd)<9223372036854775808 then
 Je dd (len_ (bM 3 aS) dd) 0 (List.replicate (len_ (bM 3 aS) dd).toNat (⟨(⟨false,([]:List Int)⟩:bf),([]:List Int)⟩:ep):List ep) >>= fun bq =>
 match bq with
 | .inl gH=>(some (gH,true))
 | .inr gH=>(some (([]:List ep),false))
 else none
theorem Jf {dd:List (Option bj)}:bV (va dd) (fun r=>Con bt 30 [.isl 1 (dd.map (bM 3 aS))] [] (.cY [.isl 3 (r.1.map eE),.b r.2]) []):=by
 unfold va
 exact .bn fun o =>
  .ay fun bq af =>
  (let bg:=len_ (bM 3 aS) dd;let aL:=(List.replicate bg.toNat (⟨(⟨false,([]:List Int)⟩:bf),([]:List Int)⟩:ep):List ep);let t1:List cG:=[(ad 2),.aI (bL 2 (.cz [.b false,.isl 1 (([]:List Int).map I),.isl 1 (([]:List Int).map I)]) 1),(ad 3),.bm [4] [.dY (au 3 eE aL)] [(4,gz (aL.length)),(10,ii),(11,ii),(12,ii)]];
  have a5:=((.fC o.1 (Int.le_refl bg) o.2.1 o.2.2 (eB 3 .live (kr eE bg.toNat (⟨(⟨false,([]:List Int)⟩:bf),([]:List Int)⟩:ep))) (aD 3 .live D6 aL) (kI bg.toNat ((⟨(⟨false,([]:List Int)⟩:bf),([]:List Int)⟩:ep):ep))):cW _);
  (by
  rcases bq with gH|gH
  ·exact (.ret (bY (t1.append [(IA dd (len_ (bM 3 aS) dd) (.inl gH)).gL,(ad 3)]) (a5.a1 (.dh (NM af) (ki eE gH) (jw eE gH) (fs D6 gH))) (.comp [.ck (.gv (gH.map eE)),.ck .id])))
  ·exact (.ret (bY (t1.append [.sub (.ret) [(2,.eP),(3,.b false)] []]) (a5.a1 (.aC (NM af))) (.comp [.ck (.hh 3),.ck .id])))))
def Hn (gI:List bF)(gW:Int):(Int×(List (Option bj)))→S:=fun (lk,ai)=>fh [(4,.bx 0 0 0 ai.length),(21,.isl 3 (gI.map c3)),(22,.n .i64 gW),(23,.n .i64 lk)] [(au 1 (bM 3 aS) ai)]
def Hq (gI:List bF)(gW:Int):(List (Option bj))→fp
 | a=>⟨some 0,[(4,.bx 0 0 0 a.length)],[(au 1 (bM 3 aS) a)]⟩
def xh (gI:List bF)(gW lk:Int)(ai:List (Option bj)):Option ((Int×(List (Option bj)))⊕((List (Option bj)))) :=
 if (decide (lk<gW))=true then
  if 0≤lk∧lk<gI.length then
  gI[lk.toNat]? >>= fun aM =>
  if 0≤lk∧lk<(ai.length:Nat) then
  ai[(0+lk.toNat)]? >>= fun cy =>
  xZ aM.gr >>= fun ea =>
  m7 ea >>= fun fb =>
  m9 cy fb >>= fun fA =>
  if (0+lk.toNat)<ai.length then
  some (.inl (U (lk+(1:Int)),ai.set (0+lk.toNat) fA))
  else none
  else none
  else none
 else
  some (.inr ai)
def H5 (gI:List bF)(gW lk:Int)(ai:List (Option bj)):Option ((List (Option bj))):=iter (fun w:Int×(List (Option bj))=>xh gI gW w.1 w.2) (lk,ai)
theorem Uy {gI:List bF}{gW lk:Int}{ai:List (Option bj)}:bV (xh gI gW lk ai) (fV bt 45 0 7 [1,1,1,1,0,1,0,0] (Hn gI gW (lk,ai)) (Hn gI gW) (Hq gI gW)):=by
 unfold xh
 exact .ite (fun o =>
  .bn fun J =>
  .ay fun aM aF =>
  .bn fun aJ =>
  .ay fun cy bJ =>
  .ay fun ea c9 =>
  .ay fun fb c8 =>
  .ay fun fA d4 =>
  .bn fun d8 =>
  .ret (bQ [(ad 1),.ap true,.aI (bL 2 (.cz (c3 aM)) 3),.aI (av 5 (aq (.cz ((bM 3 aS) cy)) (av 2 (aq (bC 1 (.n .i64 ea) true) (aq (bC 1 (d9 3 aS fb) false) (aq (bC 2 (d9 3 aS fA) false) (av 1 (aq .c4 [])))))))),(ad 2),.bm [0] [.dY (au 1 (bM 3 aS) (ai.set (0+lk.toNat) fA))] [(4,gz ((ai.set (0+lk.toNat) fA).length)),(21,ii),(22,ii),(23,ii)]] (.bo o J.1 (eI c3 J.2) (cD c3 aF) aJ.1 aJ.2 (cD (bM 3 aS) bJ) (NR ea c9) (.bo (cl.n .i64 ea) (qa fb c8) (qL fA d4) aJ.1 aJ.2 (hB (bM 3 aS) d8) (g8 1) (eB 1 .live (gi (ej (bM 3 aS) ai) (0+lk.toNat) fA)) (.aH (aD 1 .live (iC (sz:=3) hM) (ai.set (0+lk.toNat) fA)) (hg (fP ai) (0+lk.toNat) fA))))))
  (fun o =>
  .ret (bQ [(ad 1),.ap false,.bm [0] [.pure] (bX [4])] (.aH o (aD 1 .live (iC (sz:=3) hM) ai))))
theorem Vi {gI:List bF}{gW lk:Int}{ai:List (Option bj)}{r} (h:H5 gI gW lk ai=some r):fW bt 45 0 7 [1,1,1,1,0,1,0,0] (Hn gI gW) (Hq gI gW) (lk,ai) r:=fZ (fun _=>Uy) h
def uX (aK:b4):Option ((List ep)×Bool) :=
 o8 aK >>= fun ae =>
 if ae=true then
  w1 aK >>= fun aw =>
  zJ aK aw.1 aw.2.1 aw.2.2.1 aw.2.2.2.1 aw.2.2.2.2 >>= fun bI =>
  match bI with
  | .inl gx=>(some (([]:List ep),false))
  | .inr gx=>(H5 aK.bz (len_ c3 aK.bz) 0 gx.2 >>= fun ba =>
   va ba >>= fun cE =>
   some (cE.1,cE.2))
 else
  some (([]:List ep),false)
theorem VH {aK:b4}:bV (uX aK) (fun r=>Con bt 7 [.agg (gf aK)] [] (.cY [.isl 3 (r.1.map eE),.b r.2]) []):=by
 unfold uX
 exact .ay fun ae J =>
  (let t1:List cG:=[(ad 3),.aI (bL 1 (bC 1 (.b ae) true) 1)];
  have a5:=((.aH (xD ae J) (cl.b ae)):cW _);
  .ite (fun af =>
  .ay fun aw aJ =>
  .ay fun bI bJ =>
  (let aL:=du 1 aA aw.2.2.2.1;let bg:=du 1 aA aw.2.2.2.2;let b1:=du 1 aA aw.2.2.1;have gh:=a5.a1 (.bo (d7 af) (j6 (m6 aK):g9 [(gf aK)]) (fL (gR (hR [6]) 1 ha aw.2.2.1) (fL (gR (hR [6]) 1 ha aw.2.2.2.1) (fL (gR (hR [6]) 1 ha aw.2.2.2.2) (l0 (cg:=(hR [6])))))) ((j4 rfl (j4 rfl (j4 rfl vl))):mQ [ab.mk 1 (aw.2.2.1.map I) .live,ab.mk 1 (aw.2.2.2.1.map I) .live,ab.mk 1 (aw.2.2.2.2.map I) .live]) (M9 aw aJ) (cl.agg (jx (cl.n .i64 aw.1) (jx (cl.n .i64 aw.2.1) (jx (cl.bx 0 0 0 aw.2.2.1.length) (jx (cl.bx 0 1 0 aw.2.2.2.1.length) (jx (cl.bx 0 2 0 aw.2.2.2.2.length) t0)))))) ((tS (mO (mA mR) (mO (mA mR) (mO (mA mR) tW))) tV):qt [[ab.mk 1 (aw.2.2.1.map I) .live,ab.mk 1 (aw.2.2.2.1.map I) .live,ab.mk 1 (aw.2.2.2.2.map I) .live]]) (by decide:0≠1) (.bo (by decide:0≠2) (by decide:1≠2) (j6 (m6 aK):g9 [(gf aK)]) (rfl:ky [.ah 6 0 (ab.mk 1 (aw.2.2.1.map I) .live),.ah 6 1 (ab.mk 1 (aw.2.2.2.1.map I) .live),.ah 6 2 (ab.mk 1 (aw.2.2.2.2.map I) .live)] 0 0=some (6,0)) (rfl:aw.2.2.1.length=aw.2.2.1.length) (rfl:ky [.ah 6 0 (ab.mk 1 (aw.2.2.1.map I) .live),.ah 6 1 (ab.mk 1 (aw.2.2.2.1.map I) .live),.ah 6 2 (ab.mk 1 (aw.2.2.2.2.map I) .live)] 1 0=some (6,1)) (rfl:aw.2.2.2.1.length=aw.2.2.2.1.length) (rfl:ky [.ah 6 0 (ab.mk 1 (aw.2.2.1.map I) .live),.ah 6 1 (ab.mk 1 (aw.2.2.2.1.map I) .live),.ah 6 2 (ab.mk 1 (aw.2.2.2.2.map I) .live)] 2 0=some (6,2)) (.bo (rfl:aw.2.2.2.2.length=aw.2.2.2.2.length) (rfl:de (some [ab.mk 1 (aw.2.2.1.map I) .live,ab.mk 1 (aw.2.2.2.1.map I) .live,ab.mk 1 (aw.2.2.2.2.map I) .live]) 0=some (ab.mk 1 (aw.2.2.1.map I) .live)) b1 (rfl:de (some [ab.mk 1 (aw.2.2.1.map I) .live,ab.mk 1 (aw.2.2.2.1.map I) .live,ab.mk 1 (aw.2.2.2.2.map I) .live]) 1=some (ab.mk 1 (aw.2.2.2.1.map I) .live)) aL (rfl:de (some [ab.mk 1 (aw.2.2.1.map I) .live,ab.mk 1 (aw.2.2.2.1.map I) .live,ab.mk 1 (aw.2.2.2.2.map I) .live]) 2=some (ab.mk 1 (aw.2.2.2.2.map I) .live)) bg b1 (.aH aL bg))));
  (by
  rcases bI with gx|gx
  ·exact (.ret (bY (t1.append [.ap false,.h9 0,.aI (aq (.call {aO:=[],cu:=[],ac:=[.bE (.ptr [.id,.id])],r:= .agg (eJ aw.1 aw.2.1 0 0 0 aw.2.2.1.length 0 1 0 aw.2.2.2.1.length 0 2 0 aw.2.2.2.2.length),dg:=[[ab.mk 1 (aw.2.2.1.map I) .live,ab.mk 1 (aw.2.2.2.1.map I) .live,ab.mk 1 (aw.2.2.2.2.map I) .live]],eL:= .bE (.agg [.id,.id,.id,.id,.id]),fq:=[.bB [ab.mk 1 (aw.2.2.1.map I) .live,ab.mk 1 (aw.2.2.2.1.map I) .live,ab.mk 1 (aw.2.2.2.2.map I) .live]],dZ:=[0],dr:=true}) (aq (.call {aO:=[.ah 6 0 (ab.mk 1 (aw.2.2.1.map I) .live),.ah 6 1 (ab.mk 1 (aw.2.2.2.1.map I) .live),.ah 6 2 (ab.mk 1 (aw.2.2.2.2.map I) .live)],cu:=[.pure,.pure,.pure],ac:=[.bE (.ptr [.id,.id]),.bE (.agg [.id,.id,.at_ 0 0 aw.2.2.1.length,.at_ 1 0 aw.2.2.2.1.length,.at_ 2 0 aw.2.2.2.2.length])],r:= .cY [.eP,.eP,.b false],dg:=[(au 1 I aw.2.2.1),(au 1 I aw.2.2.2.1),(au 1 I aw.2.2.2.2)],eL:=ii,fq:=[.pure,.pure,.pure],dZ:=[0,6],dr:=false}) (av 7 []))),(ad 2),.ap true,(ad 2)]) (gh.a1 (.aH (Nj (.inl gx) bJ) cV)) (.comp [.ck (.hh 3),.ck .id])))
  ·exact (.ay fun ba da =>
  .ay fun cE eF =>
  .ret (bY (t1.append [.ap false,.h9 0,.aI (aq (.call {aO:=[],cu:=[],ac:=[.bE (.ptr [.id,.id])],r:= .agg (eJ aw.1 aw.2.1 0 0 0 aw.2.2.1.length 0 1 0 aw.2.2.2.1.length 0 2 0 aw.2.2.2.2.length),dg:=[[ab.mk 1 (aw.2.2.1.map I) .live,ab.mk 1 (aw.2.2.2.1.map I) .live,ab.mk 1 (aw.2.2.2.2.map I) .live]],eL:= .bE (.agg [.id,.id,.id,.id,.id]),fq:=[.bB [ab.mk 1 (aw.2.2.1.map I) .live,ab.mk 1 (aw.2.2.2.1.map I) .live,ab.mk 1 (aw.2.2.2.2.map I) .live]],dZ:=[0],dr:=true}) (aq (.call {aO:=[.ah 6 0 (ab.mk 1 (aw.2.2.1.map I) .live),.ah 6 1 (ab.mk 1 (aw.2.2.2.1.map I) .live),.ah 6 2 (ab.mk 1 (aw.2.2.2.2.map I) .live)],cu:=[.pure,.pure,.pure],ac:=[.bE (.ptr [.id,.id]),.bE (.agg [.id,.id,.at_ 0 0 aw.2.2.1.length,.at_ 1 0 aw.2.2.2.1.length,.at_ 2 0 aw.2.2.2.2.length])],r:= .cY [.bx 3 0 0 gx.2.length,.isl 1 (gx.1.map (bM 3 aS)),.b true],dg:=[(au 1 I aw.2.2.1),(au 1 I aw.2.2.2.1),(au 1 I aw.2.2.2.2),(au 1 (bM 3 aS) gx.2)],eL:= .comp [.ck .id,.ck .id,.ck .id],fq:=[.pure,.pure,.pure,.pure],dZ:=[0,6],dr:=false}) (av 7 []))),(ad 2),.ap false,(ad 4),.bm [7] [.pure] (bX [4,21,22,23]),(Hq aK.bz (len_ c3 aK.bz) ba).gL,.h9 0,.aI (bL 1 (.call {ac:=[.bE (.ck (.gv (ba.map (bM 3 aS))))],r:= .cY [.isl 3 (cE.1.map eE),.b cE.2],dr:=false,dZ:=[0]}) 4)]) (gh.a1 (.bo (du 1 (iC (sz:=3) hM) gx.2) (Nj (.inr gx) bJ) fv (aD 1 .live (iC (sz:=3) hM) gx.2) (Vi da) (ki (bM 3 aS) ba) (jw (bM 3 aS) ba) (fs (iC (sz:=3) hM) ba) (.aC (Jf cE eF)))))))))
  (fun af =>
  .ret (bY (t1.append [.ap true,(ad 2)]) (a5.a1 (.aC (ee af))) (.comp [.ck (.hh 3),.ck .id]))))
def uT (aK:b4):Option Bool :=
 o8 aK >>= fun ae =>
 if ae=true then
  w1 aK >>= fun aw =>
  u5 aw.1 aw.2.1 aw.2.2.1 aw.2.2.2.1 aw.2.2.2.2 >>= fun bI =>
  match bI with
  | .inl gx=>(some true)
  | .inr gx=>(some false)
 else
  some false
theorem Vw {aK:b4}:bV (uT aK) (fun r=>Con bt 8 [.agg (gf aK)] [] (.b r) []):=by
 unfold uT
 exact .ay fun ae J =>
  (let t1:List cG:=[(ad 2),.aI (bL 1 (bC 1 (.b ae) true) 1)];
  have a5:=((.aH (xD ae J) (cl.b ae)):cW _);
  .ite (fun af =>
  .ay fun aw aJ =>
  .ay fun bI bJ =>
  (let fY:=eJ aw.1 aw.2.1 2 0 0 aw.2.2.1.length 3 0 0 aw.2.2.2.1.length 4 0 0 aw.2.2.2.2.length;let ic:=di [0,6,5];let t3:List cG:=t1.append [.ap false,.aI (aq (.call {aO:=[],cu:=[],ac:=[.bE (.ptr [.id,.id])],r:= .agg (eJ aw.1 aw.2.1 0 0 0 aw.2.2.1.length 0 1 0 aw.2.2.2.1.length 0 2 0 aw.2.2.2.2.length),dg:=[[ab.mk 1 (aw.2.2.1.map I) .live,ab.mk 1 (aw.2.2.2.1.map I) .live,ab.mk 1 (aw.2.2.2.2.map I) .live]],eL:= .bE (.agg [.id,.id,.id,.id,.id]),fq:=[.bB [ab.mk 1 (aw.2.2.1.map I) .live,ab.mk 1 (aw.2.2.2.1.map I) .live,ab.mk 1 (aw.2.2.2.2.map I) .live]],dZ:=[0],dr:=true}) (av 2 [])),.bm [0,6,5] [.box [.id,.id],.box [.id,.id,.id,.id,.id],.bB [ab.mk 1 (aw.2.2.1.map I) .live,ab.mk 1 (aw.2.2.2.1.map I) .live,ab.mk 1 (aw.2.2.2.2.map I) .live]] [(0,ii),(1,ii),(2,ii),(3,ii),(6,ii),(7,ii),(8,ii),(9,.bE (.agg [.id,.id,.id,.id,.id]))],.vZ [{c2:=some (0,0)},{c2:=some (1,0)},{bc:=[(2,0)]},{bc:=[(2,1)]},{bc:=[(2,2)]}] [([],some (.box [.id,.id])),([],some (.box [.id,.id,.at_ 2 0 aw.2.2.1.length,.at_ 3 0 aw.2.2.2.1.length,.at_ 4 0 aw.2.2.2.2.length])),([.pure],none),([.pure],none),([.pure],none)] [(0,ii),(1,ii),(2,ii),(3,ii),(6,ii),(7,ii),(8,ii),(9,.bE (.agg [.id,.id,.at_ 2 0 aw.2.2.1.length,.at_ 3 0 aw.2.2.2.1.length,.at_ 4 0 aw.2.2.2.2.length]))]];
  have fI:=a5.a1 (.bo (d7 af) (j6 (m6 aK):g9 [(gf aK)]) (fL (gR (hR [5]) 1 ha aw.2.2.1) (fL (gR (hR [5]) 1 ha aw.2.2.2.1) (fL (gR (hR [5]) 1 ha aw.2.2.2.2) (l0 (cg:=(hR [5])))))) ((j4 rfl (j4 rfl (j4 rfl vl))):mQ [ab.mk 1 (aw.2.2.1.map I) .live,ab.mk 1 (aw.2.2.2.1.map I) .live,ab.mk 1 (aw.2.2.2.2.map I) .live]) (M9 aw aJ) (cl.agg (jx (cl.n .i64 aw.1) (jx (cl.n .i64 aw.2.1) (jx (cl.bx 0 0 0 aw.2.2.1.length) (jx (cl.bx 0 1 0 aw.2.2.2.1.length) (jx (cl.bx 0 2 0 aw.2.2.2.2.length) t0)))))) ((tS (mO (mA mR) (mO (mA mR) (mO (mA mR) tW))) tV):qt [[ab.mk 1 (aw.2.2.1.map I) .live,ab.mk 1 (aw.2.2.2.1.map I) .live,ab.mk 1 (aw.2.2.2.2.map I) .live]]) (fL (gR ic 1 ha aw.2.2.1) (fL (gR ic 1 ha aw.2.2.2.1) (fL (gR ic 1 ha aw.2.2.2.2) (l0 (cg:=ic))))) (.bo (rfl:(ia [{c2:=some (0,0)},{c2:=some (1,0)},{bc:=[(2,0)]},{bc:=[(2,1)]},{bc:=[(2,2)]}]) 2 0=some (2,0)) (rfl:aw.2.2.1.length=aw.2.2.1.length) (rfl:(ia [{c2:=some (0,0)},{c2:=some (1,0)},{bc:=[(2,0)]},{bc:=[(2,1)]},{bc:=[(2,2)]}]) 3 0=some (2,1)) (rfl:aw.2.2.2.1.length=aw.2.2.2.1.length) (rfl:(ia [{c2:=some (0,0)},{c2:=some (1,0)},{bc:=[(2,0)]},{bc:=[(2,1)]},{bc:=[(2,2)]}]) 4 0=some (2,2)) (rfl:aw.2.2.2.2.length=aw.2.2.2.2.length) (aD 1 .live aA aw.2.2.1) (aD 1 .live aA aw.2.2.2.1) (.bo (aD 1 .live aA aw.2.2.2.2) (rfl:(ia [{c2:=some (0,0)},{c2:=some (1,0)},{bc:=[(2,0)]},{bc:=[(2,1)]},{bc:=[(2,2)]}]) 2 0=some (2,0)) (rfl:aw.2.2.1.length=aw.2.2.1.length) (rfl:(ia [{c2:=some (0,0)},{c2:=some (1,0)},{bc:=[(2,0)]},{bc:=[(2,1)]},{bc:=[(2,2)]}]) 3 0=some (2,1)) (rfl:aw.2.2.2.1.length=aw.2.2.2.1.length) (rfl:(ia [{c2:=some (0,0)},{c2:=some (1,0)},{bc:=[(2,0)]},{bc:=[(2,1)]},{bc:=[(2,2)]}]) 4 0=some (2,2)) (rfl:aw.2.2.2.2.length=aw.2.2.2.2.length) (hr (nE [1,2,3,4]) 5 [(eJ aw.1 aw.2.1 1 0 0 aw.2.2.1.length 2 0 0 aw.2.2.2.1.length 3 0 0 aw.2.2.2.2.length)] [fY] rfl) (.dh (hi 5 [fY]) (du 1 aA aw.2.2.1) (du 1 aA aw.2.2.2.1) (du 1 aA aw.2.2.2.2)))));
  (by
  rcases bI with gx|gx
  ·exact (.ret (let aL:=eJ aw.1 aw.2.1 1 0 0 aw.2.2.1.length 2 0 0 aw.2.2.2.1.length 3 0 0 aw.2.2.2.2.length;let bg:=eX 4 1 0 gx.2.2.2.1.length gx.1 gx.2.1 4 2 0 gx.2.2.2.2.1.length gx.2.2.1 4 3 0 gx.2.2.2.2.2.1.length;let b1:=eJ aw.1 aw.2.1 2 0 0 aw.2.2.1.length 3 0 0 aw.2.2.2.1.length 4 0 0 aw.2.2.2.2.length;let cI:=hR [1,2,3,4,5];let eU:=c7 2 aU gx.2.2.2.2.2.2;bY (t3.append [.aI (aq (.call {aO:=(ln [1,2,3,4]),cu:=[.bB [ab.mk 5 [aL] .live],.pure,.pure,.pure],ac:=[ii],r:= .cY [.ref 4 0 0 0,.b true],dg:=[[ab.mk 5 [aL] .live],(au 1 I aw.2.2.1),(au 1 I aw.2.2.2.1),(au 1 I aw.2.2.2.2),(ab.mk 6 [bg] .live::ab.mk 1 (gx.2.2.2.1.map (b2 4 4 2)) .live::ab.mk 1 (gx.2.2.2.2.1.map I) .live::ab.mk 1 (gx.2.2.2.2.2.1.map d6) .live::eU)],eL:= .comp [.ck .id,.ck .id],fq:=[.bB [ab.mk 5 [b1] .live],.pure,.pure,.pure,.bB (ab.mk 6 [(eX 5 1 0 gx.2.2.2.1.length gx.1 gx.2.1 5 2 0 gx.2.2.2.2.1.length gx.2.2.1 5 3 0 gx.2.2.2.2.2.1.length)] .live::ab.mk 1 (gx.2.2.2.1.map (b2 5 4 2)) .live::ab.mk 1 (gx.2.2.2.2.1.map I) .live::ab.mk 1 (gx.2.2.2.2.2.1.map d6) .live::eU)],dZ:=[1,2,3,4],dr:=false}) (av 5 [])),(ad 2)]) (fI.a1 (.h6 (hr cI 5 [b1] [aL] rfl) (hi 5 [aL]) (du 1 aA aw.2.2.1) (du 1 aA aw.2.2.2.1) (du 1 aA aw.2.2.2.2) (fL (show ab.mk 6 [(eX 5 1 0 gx.2.2.2.1.length gx.1 gx.2.1 5 2 0 gx.2.2.2.2.1.length gx.2.2.1 5 3 0 gx.2.2.2.2.2.1.length)] .live=kx (hR [1,2,3,4,5]) (ab.mk 6 [(eX 4 1 0 gx.2.2.2.1.length gx.1 gx.2.1 4 2 0 gx.2.2.2.2.1.length gx.2.2.1 4 3 0 gx.2.2.2.2.2.1.length)] .live) from rfl) (fL (zB cI 5 4 4 2 rfl gx.2.2.2.1) (fL (gR cI 1 ha gx.2.2.2.2.1) (fL (gR cI 1 Ba gx.2.2.2.2.2.1) (fx cI 2 eC gx.2.2.2.2.2.2))))) ((j4 rfl (j4 rfl (j4 rfl (j4 rfl (Ec (iX .live 2 aU gx.2.2.2.2.2.2)))))):mQ (ab.mk 6 [bg] .live::ab.mk 1 (gx.2.2.2.1.map (b2 4 4 2)) .live::ab.mk 1 (gx.2.2.2.2.1.map I) .live::ab.mk 1 (gx.2.2.2.2.2.1.map d6) .live::eU)) (xS (.inl gx) bJ)))))
  ·exact (.ret (let gC:=eJ aw.1 aw.2.1 1 0 0 aw.2.2.1.length 2 0 0 aw.2.2.2.1.length 3 0 0 aw.2.2.2.2.length;let hq:=eJ aw.1 aw.2.1 2 0 0 aw.2.2.1.length 3 0 0 aw.2.2.2.1.length 4 0 0 aw.2.2.2.2.length;bY (t3.append [.aI (aq (.call {aO:=(ln [1,2,3,4]),cu:=[.bB [ab.mk 5 [gC] .live],.pure,.pure,.pure],ac:=[ii],r:= .cY [.iw,.b false],dg:=[[ab.mk 5 [gC] .live],(au 1 I aw.2.2.1),(au 1 I aw.2.2.2.1),(au 1 I aw.2.2.2.2)],eL:=ii,fq:=[.bB [ab.mk 5 [hq] .live],.pure,.pure,.pure],dZ:=[1,2,3,4],dr:=false}) (av 5 [])),(ad 2)]) (fI.a1 (.fG (hr (hR [1,2,3,4]) 5 [hq] [gC] rfl) (hi 5 [gC]) (du 1 aA aw.2.2.1) (du 1 aA aw.2.2.2.1) (du 1 aA aw.2.2.2.2) (xS (.inr gx) bJ))))))))
  (fun af =>
  .ret (bY (t1.append [.ap true,(ad 1)]) (a5.a1 (.aC (ee af))))))
def An (aK:b4):Option (List Int) :=
 o8 aK >>= fun ae =>
 if ae=true then
  if 0≤(U ((2:Int)*(len_ dk aK.cj)))∧(8:Int)*(U ((2:Int)*(len_ dk aK.cj)))≤281474976710656∧(U ((2:Int)*(len_ dk aK.cj)))<9223372036854775808 then
  some (List.replicate (U ((2:Int)*(len_ dk aK.cj))).toNat 0:List Int)
  else none
 else
  some ([]:List Int)
theorem WM {aK:b4}:bV (An aK) (fun r=>Con bt 10 [.agg (gf aK)] [] (.isl 1 (r.map I)) []):=by
 unfold An
 exact .ay fun ae J =>
  (let t1:List cG:=[(ad 2),.aI (bL 1 (bC 1 (.b ae) true) 1)];
  have a5:=((.aH (xD ae J) (cl.b ae)):cW _);
  .ite (fun af =>
  .bn fun aF =>
  .ret (let aL:=(U ((2:Int)*(len_ dk aK.cj)));let bg:=(List.replicate aL.toNat 0:List Int);bY (t1.append [.ap false,(ad 6)]) (a5.a1 (.h6 (d7 af) aF.1 (Int.le_refl aL) aF.2.1 aF.2.2 (ms (kr I aL.toNat 0) (kI aL.toNat (0:Int))) (oK (kr I aL.toNat 0) (kI aL.toNat (0:Int))) (fs aA bg))) (.bE (.ck (.gv (bg.map I))))))
  (fun af =>
  .ret (bY (t1.append [.ap true,(ad 1)]) (a5.a1 (.aC (ee af))) (.bE (.ck (.hh 1))))))
def Ad (bh:Int):Option Bool :=
 if (decide (bh<(0:Int)))=true then
  some true
 else
  some (decide ((1000000000:Int)≤bh))
theorem WA {bh:Int}:bV (Ad bh) (fun r=>Con bt 118 [.n .i64 bh] [] (.b r) []):=by
 unfold Ad
 exact .ite (fun o =>
  .ret (bY [(ad 1),.aI (av 3 (dm 2 (aq (.ap true) (av 1 []))))] (.cd o o o)))
  (fun o =>
  .ret (bY [(ad 1),.aI (bL 5 (.ap false) 1)] (.cd o o o)))
def GL (aK:List Int)(e1:Int):Int→S:=fun fa=>fh [(0,.isl 1 (aK.map I)),(1,.fn 118 []),(7,.n .i64 e1),(8,.n .i64 fa)] []
def Na (aK:List Int)(e1:Int):((Unit)⊕(Int))→fp
 | .inl a=>⟨some 0,[],[]⟩
 | .inr a=>⟨none,[(4,.n .i64 a)],[]⟩
def wX (aK:List Int)(e1 fa:Int):Option ((Int)⊕((Unit)⊕(Int))) :=
 if (decide (fa<e1))=true then
  if 0≤fa∧fa<aK.length then
  aK[fa.toNat]? >>= fun aM =>
  Ad aM >>= fun br =>
  if br=true then
   some (.inr (.inr fa))
  else
   some (.inl (U (fa+(1:Int))))
  else none
 else
  some (.inr (.inl ()))
def He (aK:List Int)(e1 fa:Int):Option ((Unit)⊕(Int)):=iter (fun w:Int=>wX aK e1 w) fa
theorem T7 {aK:List Int}{e1 fa:Int}:bV (wX aK e1 fa) (fV bt 19 0 85 [1,0,1,0,0] (GL aK e1 fa) (GL aK e1) (Na aK e1)):=by
 unfold wX
 exact .ite (fun o =>
  .bn fun J =>
  .ay fun aM aF =>
  .ay fun br bp =>
  (let t1:List cG:=[(ad 1),.ap true,(ad 2),.aI (av 4 (aq (.cz (I aM)) (aq (bC 1 (.b br) true) [])))];
  have a5:=((.fG o J.1 (eI I J.2) (cD I aF) (WA br bp) (cl.b br)):cW _);
  .ite (fun bJ =>
  .ret (bQ (t1.append [.ap true,(ad 2),.bm [] [] (bX [4])]) (a5.a1 (.aC bJ))))
  (fun bJ =>
  .ret (bQ (t1.append [.ap false,(ad 2),.bm [] [] (bX [0,1,7,8])]) (a5.a1 (.aC bJ))))))
  (fun o =>
  .ret (bQ [(ad 1),.ap false,.bm [] [] []] (.aC o)))
theorem Nb {aK:List Int}{e1 fa:Int}{r} (h:He aK e1 fa=some r):fW bt 19 0 85 [1,0,1,0,0] (GL aK e1) (Na aK e1) fa r:=fZ (fun _=>T7) h
def C0 (aK:List Int):Option Int :=
 He aK (len_ I aK) 0 >>= fun ae =>
 match ae with
 | .inl bN=>(some (-1))
 | .inr bN=>(some bN)
theorem UC {aK:List Int}:bV (C0 aK) (fun r=>Con bt 85 [.isl 1 (aK.map I),.fn 118 []] [] (.n .i64 r) []):=by
 unfold C0
 exact .ay fun ae J =>
  (let t1:List cG:=[(ad 1),(ad 3),.bm [] [] (bX [0,1,7,8])];
  (by
  rcases ae with bN|bN
  ·exact (.ret (bY (t1.append [.sub (.exit 0) [] [],(ad 1)]) (.aC (Nb J))))
  ·exact (.ret (bY (t1.append [.sub (.ret) [(4,.n .i64 bN)] []]) (.aC (Nb J))))))
def xa (aK:List Int):Option Bool :=
 C0 aK >>= fun ae =>
 some (decide ((0:Int)≤ae))
theorem Nc {aK:List Int}:bV (xa aK) (fun r=>Con bt 49 [.isl 1 (aK.map I),.fn 118 []] [] (.b r) []):=by
 unfold xa
 exact .ay fun ae J =>
  .ret (bY [(ad 1),.aI (bL 2 (bC 2 (.n .i64 ae) true) 2)] (.aH (UC ae J) (cl.n .i64 ae)))
def ve (a9:List Int):Option Bool :=
 if (decide ((60:Int)<(len_ I a9)))=true then
  some false
 else
  if (decide ((0:Int)<(len_ I a9)))=true then
   if 0≤(U ((len_ I a9)-(1:Int)))∧(U ((len_ I a9)-(1:Int)))<a9.length then
   a9[(U ((len_ I a9)-(1:Int))).toNat]? >>= fun gP =>
   if (gP == (0:Int))=true then
    some false
   else
    xa a9 >>= fun bZ =>
    some (!bZ)
   else none
  else
   xa a9 >>= fun bl =>
   some (!bl)
theorem Oh {a9:List Int}:bV (ve a9) (fun r=>Con bt 102 [.isl 1 (a9.map I)] [] (.b r) []):=by
 unfold ve
 exact .ite (fun o =>
  .ret (bY [(ad 1),.aI (av 4 (dm 4 (av 7 (dm 1 (aq (.ap true) []))))),.ap true,(ad 1)] (.fC o o o o o o cV)))
  (fun o =>
  .ite (fun J =>
  .bn fun af =>
  .ay fun gP aJ =>
  (let t1:List cG:=[(ad 1),.aI (av 13 (aq (.cz (I gP)) (av 1 (aq (.ap true) (aq (.ap false) [])))))];
  have a5:=((.bo o o o o J J J J (.bo J af.1 (eI I af.2) J (cD I aJ) J o J (.aC o))):cW _);
  .ite (fun bp =>
  .ret (bY (t1.append [.ap true,(ad 1)]) (a5.a1 (.aC bp))))
  (fun bp =>
  .ay fun bZ bu =>
  .ret (bY (t1.append [.ap false,.aI (bL 1 (bC 2 (.b bZ) true) 2)]) (a5.a1 (.cd bp (Nc bZ bu) (cl.b bZ)))))))
  (fun J =>
  .ay fun bl aF =>
  .ret (bY [(ad 1),.aI (av 8 (dm 7 (aq (.ap false) (aq (.ap false) [])))),.ap false,.aI (bL 1 (bC 2 (.b bl) true) 2)] (.bo o o o o J J J J (.bo J J J o J o fv (Nc bl aF) (.aC (cl.b bl)))))))
def z7 (b3:bf):Option Bool :=
 ve b3.cN >>= fun ae =>
 if ae=true then
  if b3.db=true then
   some (!((len_ I b3.cN) == (0:Int)))
  else
   some true
 else
  some false
theorem Wp {b3:bf}:bV (z7 b3) (fun r=>Con bt 101 [.agg (aU b3)] [] (.b r) []):=by
 unfold z7
 exact .ay fun ae J =>
  (have cf:=((.aH (Oh ae J) (cl.b ae)):cW _);
  .ite (fun af =>
  .ite (fun aF =>
  .ret (bY [(ad 2),.aI (av 2 (aq (bC 1 (.b ae) true) (av 8 (aq (.ap true) (bL 1 (.ap true) 1)))))] (cf.a1 (.bo af af af aF aF aF aF af (.cd aF af af)))))
  (fun aF =>
  .ret (bY [(ad 2),.aI (av 2 (aq (bC 1 (.b ae) true) (av 4 (dm 4 (aq (.ap false) (bL 1 (.ap true) 1))))))] (cf.a1 (.bo af af af aF aF aF aF af (.cd aF af af))))))
  (fun af =>
  .ret (bY [(ad 2),.aI (av 2 (aq (bC 1 (.b ae) true) (av 1 (dm 3 (av 4 (dm 2 (aq (.ap false) (av 1 []))))))))] (cf.a1 (.fG af af af af af af)))))
def yd (dq:ep):Option Bool :=
 z7 dq.ik >>= fun ae =>
 if ae=true then
  ve dq.iy >>= fun aw =>
  if aw=true then
   if ((len_ I dq.iy) == (0:Int))=true then
    some false
   else
    if (decide ((24:Int)<(len_ I dq.ik.cN)))=true then
     some false
    else
     if (decide ((24:Int)<(len_ I dq.iy)))=true then
      some false
     else
      x5 dq.ik.cN dq.iy >>= fun fb =>
      qb fb ([1]:List Int) >>= fun fA =>
      some (fA == (0:Int))
  else
   some false
 else
  some false
theorem WR {dq:ep}:bV (yd dq) (fun r=>Con bt 73 [.agg (eE dq)] [] (.b r) []):=by
 unfold yd
 exact .ay fun ae J =>
  (have cf:=((.aH (Wp ae J) (cl.b ae)):cW _);
  .ite (fun af =>
  .ay fun aw aJ =>
  (have a5:=cf.a1 (.fC (d7 af) (d7 af) (d7 af) (Oh aw aJ) (cl.b aw) (d7 af) (d7 af));
  .ite (fun bp =>
  (have gh:=a5.a1 (.eR (d7 bp) (d7 bp) (d7 bp) (d7 bp) (d7 bp));
  .ite (fun bJ =>
  .ret (bY [(ad 2),.aI (av 2 (aq (bC 1 (.b ae) true) (av 4 (aq (bC 1 (.b aw) true) (av 1 (aq (.ap false) (av 5 (aq (.ap false) (av 1 (dm 5 (aq (.ap true) (av 1 (dm 4 (av 1 [])))))))))))))),.ap true,(ad 1)] (gh.a1 (.bo bJ bJ bJ bJ bJ bJ cV cV (.cd cV cV cV)))))
  (fun bJ =>
  .ite (fun bu =>
  .ret (bY [(ad 2),.aI (av 2 (aq (bC 1 (.b ae) true) (av 4 (aq (bC 1 (.b aw) true) (av 1 (aq (.ap false) (av 5 (aq (.ap false) (av 6 (aq (.ap false) (av 1 (dm 4 (aq (.ap true) []))))))))))))),.ap true,(ad 1)] (gh.a1 (.bo bJ bJ bJ bJ bJ bJ bu bu (.dh bu bu bu cV)))))
  (fun bu =>
  (let t4:List cG:=[(ad 2),.aI (av 2 (aq (bC 1 (.b ae) true) (av 4 (aq (bC 1 (.b aw) true) (av 1 (aq (.ap false) (av 5 (aq (.ap false) (av 6 (aq (.ap false) (av 5 (aq (.ap false) []))))))))))))];
  have n8:=gh.a1 (.bo bJ bJ bJ bJ bJ bJ bu bu (.cd bu bu bu));
  .ite (fun c9 =>
  .ret (bY (t4.append [.ap true,(ad 1)]) (n8.a1 (.aC c9))))
  (fun c9 =>
  .ay fun fb c8 =>
  .ay fun fA d4 =>
  .ret (bY (t4.append [.ap false,.aI (av 5 (aq (bC 2 (.isl 1 (fb.map I)) false) (bL 1 (.call {ac:=[ii,.bE (.ck (.gv (([1]:List Int).map I)))],r:= .n .i64 fA,dr:=true,dZ:=[37]}) 2)))]) (n8.a1 (.fC c9 (N1 fb c8) (ms (show [[.n .i64 (1:Int)]]=(([1]:List Int)).map I from rfl) (show 1=([1]:List Int).length from rfl)) (mi I 1) (fs aA ([1]:List Int)) (xR fA d4) (cl.n .i64 fA))))))))))
  (fun bp =>
  .ret (bY [(ad 2),.aI (av 2 (aq (bC 1 (.b ae) true) (av 4 (aq (bC 1 (.b aw) true) (av 1 (aq (.ap false) (av 1 (dm 4 (aq (.ap true) (av 1 (dm 5 (av 2 (dm 4 (av 1 [])))))))))))))),.ap true,(ad 1)] (a5.a1 (.bo (ee bp) (ee bp) (ee bp) (ee bp) (ee bp) cV cV cV (.fC cV cV cV cV cV cV cV)))))))
  (fun af =>
  .ret (bY [(ad 2),.aI (av 2 (aq (bC 1 (.b ae) true) (av 2 (dm 4 (aq (.ap true) (av 1 (dm 4 (av 2 (dm 5 (av 2 (dm 4 (av 1 [])))))))))))),.ap true,(ad 1)] (cf.a1 (.bo (ee af) (ee af) (ee af) (ee af) (ee af) cV cV cV (.bo cV cV cV cV cV cV cV cV (.cd cV cV cV)))))))
def vf (dq:ep):Option (Option bj) :=
 yd dq >>= fun ae =>
 if ae=true then
  some (some (⟨dq.ik,dq.iy⟩:bj))
 else
  some (none:(Option bj))
theorem Ae {dq:ep}:bV (vf dq) (fun r=>Con bt 38 [.agg (eE dq)] [] (d9 3 aS r) []):=by
 unfold vf
 exact .ay fun ae J =>
  (let t1:List cG:=[(ad 2),.aI (bL 1 (bC 1 (.b ae) true) 1)];
  have a5:=((.aH (WR ae J) (cl.b ae)):cW _);
  .ite (fun af =>
  .ret (bY (t1.append [.ap false,(ad 7)]) (a5.a1 (.aH (d7 af) (j6 (hM (⟨dq.ik,dq.iy⟩:bj)):g9 [(eE dq)]))) (.bE (.ti [.id,.id,.id]))))
  (fun af =>
  .ret (bY (t1.append [.ap true,(ad 1)]) (a5.a1 (.aC (ee af))) (.bE (.ck (.p6 3))))))
def IB (eT:List ep)(cL:Int):(Int×(List (Option bj)))→S:=fun (cB,ai)=>fh [(4,.bx 0 0 0 ai.length),(10,.isl 3 (eT.map eE)),(11,.n .i64 cL),(12,.n .i64 cB)] [(au 1 (bM 3 aS) ai)]
def IQ (eT:List ep)(cL:Int):(((List (Option bj)))⊕(Unit))→fp
 | .inl a=>⟨some 0,[(4,.bx 0 0 0 a.length)],[(au 1 (bM 3 aS) a)]⟩
 | .inr a=>⟨none,[(2,.eP),(3,.b false)],[]⟩
def xJ (eT:List ep)(cL cB:Int)(ai:List (Option bj)):Option ((Int×(List (Option bj)))⊕(((List (Option bj)))⊕(Unit))) :=
 if (decide (cB<cL))=true then
  if 0≤cB∧cB<eT.length then
  eT[cB.toNat]? >>= fun aM =>
  vf aM >>= fun br =>
  if 0≤cB∧cB<(ai.length:Nat) then
  if (0+cB.toNat)<ai.length then
  (ai.set (0+cB.toNat) br)[(0+cB.toNat)]? >>= fun gE =>
  gE.elim
  (some (.inr (.inr ())))
  fun SQ =>
  some (.inl (U (cB+(1:Int)),ai.set (0+cB.toNat) br))
  else none
  else none
  else none
 else
  some (.inr (.inl ai))
def Jl (eT:List ep)(cL cB:Int)(ai:List (Option bj)):Option (((List (Option bj)))⊕(Unit)):=iter (fun w:Int×(List (Option bj))=>xJ eT cL w.1 w.2) (cB,ai)
theorem Vx {eT:List ep}{cL cB:Int}{ai:List (Option bj)}:bV (xJ eT cL cB ai) (fV bt 29 0 71 [1,1,0,1,0,0] (IB eT cL (cB,ai)) (IB eT cL) (IQ eT cL)):=by
 unfold xJ
 exact .ite (fun o =>
  .bn fun J =>
  .ay fun aM aF =>
  .ay fun br bp =>
  .bn fun bJ =>
  .bn fun bu =>
  .ay fun gE da =>
  (let t1:List cG:=[(ad 1),.ap true,.aI (bL 2 (.cz (eE aM)) 3),.aI (av 3 (aq (bC 1 (d9 3 aS br) false) (av 1 (aq .c4 []))))];
  have a5:=((.bo o J.1 (eI eE J.2) (cD eE aF) (Ae br bp) bJ.1 bJ.2 (hB (bM 3 aS) bu) (.dh (g8 1) bJ.1 bJ.2 (Qq (gi (ej (bM 3 aS) ai) (0+cB.toNat) br) da))):cW _);
  .k5 (fun c8 =>
  .ret (bQ (t1.append [.aI (av 3 (aq (.cz ((bM 3 aS) gE)) (aq (.fF 25 (.e8 3 none) .c4) []))),.ap true,(ad 2),.bm [] [] (bX [2,3])]) (a5.a1 (.aH (o1 (sz:=3) (f:=aS) c8) cV))))
  (fun SQ c8 =>
  .ret (bQ (t1.append [.aI (av 3 (aq (.cz ((bM 3 aS) gE)) (aq (.fF 25 (.e8 3 (some (aS SQ))) .c4) []))),.ap false,(ad 2),.bm [0] [.dY (au 1 (bM 3 aS) (ai.set (0+cB.toNat) br))] [(4,gz ((ai.set (0+cB.toNat) br).length)),(10,ii),(11,ii),(12,ii)]]) (a5.a1 (.eR (jq (sz:=3) (f:=aS) c8) fv (eB 1 .live (gi (ej (bM 3 aS) ai) (0+cB.toNat) br)) (aD 1 .live (iC (sz:=3) hM) (ai.set (0+cB.toNat) br)) (hg (fP ai) (0+cB.toNat) br)))))))
  (fun o =>
  .ret (bQ [(ad 1),.ap false,.bm [0] [.pure] (bX [4])] (.aH o (aD 1 .live (iC (sz:=3) hM) ai))))
theorem NS {eT:List ep}{cL cB:Int}{ai:List (Option bj)}{r} (h:Jl eT cL cB ai=some r):fW bt 29 0 71 [1,1,0,1,0,0] (IB eT cL) (IQ eT cL) (cB,ai) r:=fZ (fun _=>Vx) h
def ye (dd:List ep):Option ((List (Option bj))×Bool) :=
 if 0≤(len_ eE dd)∧(8:Int)*(len_ eE dd)≤281474976710656∧(len_ eE dd)<9223372036854775808 then
 Jl dd (len_ eE dd) 0 (List.replicate (len_ eE dd).toNat (none:(Option bj)):List (Option bj)) >>= fun bq =>
 match bq with
 | .inl gH=>(some (gH,true))
 | .inr gH=>(some (([]:List (Option bj)),false))
 else none
theorem Oi {dd:List ep}:bV (ye dd) (fun r=>Con bt 71 [.isl 3 (dd.map eE)] [] (.cY [.isl 1 (r.1.map (bM 3 aS)),.b r.2]) []):=by
 unfold ye
 exact .bn fun o =>
  .ay fun bq af =>
  (let aL:=(List.replicate (len_ eE dd).toNat (none:(Option bj)):List (Option bj));let t1:List cG:=[(ad 2),.aI (bL 2 (.cz [(d9 3 aS (none:(Option bj)))]) 1),(ad 3),.bm [4] [.dY (au 1 (bM 3 aS) aL)] [(4,gz (aL.length)),(10,ii),(11,ii),(12,ii)]];
  have a5:=((.fC o.1 (Int.le_refl (len_ eE dd)) o.2.1 o.2.2 (eB 1 .live (kr (bM 3 aS) (len_ eE dd).toNat (none:(Option bj)))) (aD 1 .live (iC (sz:=3) hM) aL) (kI (len_ eE dd).toNat ((none:(Option bj)):(Option bj)))):cW _);
  (by
  rcases bq with gH|gH
  ·exact (.ret (bY (t1.append [(IQ dd (len_ eE dd) (.inl gH)).gL,(ad 3)]) (a5.a1 (.dh (NS af) (ki (bM 3 aS) gH) (jw (bM 3 aS) gH) (fs (iC (sz:=3) hM) gH))) (.comp [.ck (.gv (gH.map (bM 3 aS))),.ck .id])))
  ·exact (.ret (bY (t1.append [.sub (.ret) [(2,.eP),(3,.b false)] []]) (a5.a1 (.aC (NS af))) (.comp [.ck (.hh 1),.ck .id])))))
def uZ (aK:b4)(f6:List ep):Option ((List (Option bj))×Bool) :=
 if ((len_ eE f6) != (len_ c3 aK.bz))=true then
  some (([]:List (Option bj)),false)
 else
  o8 aK >>= fun bq =>
  if bq=true then
   ye f6 >>= fun br =>
   some (br.1,br.2)
  else
   some (([]:List (Option bj)),false)
theorem IR {aK:b4}{f6:List ep}:bV (uZ aK f6) (fun r=>Con bt 34 [.eh 2 [(gf aK)] 0 0,.isl 3 (f6.map eE)] [] (.cY [.isl 1 (r.1.map (bM 3 aS)),.b r.2]) []):=by
 unfold uZ
 exact .ite (fun o =>
  .ret (bY [(ad 2),.aI (av 9 (dm 5 (aq (.ap true) []))),.ap true,(ad 2)] (.fC o o o o o o cV) (.comp [.ck (.hh 1),.ck .id])))
  (fun o =>
  .ay fun bq af =>
  (let t1:List cG:=[(ad 2),.aI (av 12 (aq (bC 1 (.b bq) true) (av 1 (aq (.ap false) []))))];
  have a5:=((.h6 o o o o (xD bq af) (cl.b bq) o o):cW _);
  .ite (fun aF =>
  .ay fun br bp =>
  .ret (bY (t1.append [.ap false,.aI (bL 1 (bC 1 (.cY [.isl 1 (br.1.map (bM 3 aS)),.b br.2]) false) 4)]) (a5.a1 (.aH (d7 aF) (Oi br bp)))))
  (fun aF =>
  .ret (bY (t1.append [.ap true,(ad 2)]) (a5.a1 (.aC (ee aF))) (.comp [.ck (.hh 1),.ck .id])))))
def tT (a9 a8:Option bj):Option (Option bj) :=
 a9.elim
 (some (none:(Option bj)))
 fun eo =>
 a8.elim
 (some (none:(Option bj)))
 fun oG =>
 xO a9 a8 >>= fun br =>
 sm br >>= fun bZ =>
 some bZ
theorem D1 {a9 a8:Option bj}:bV (tT a9 a8) (fun r=>Con bt 100 [d9 3 aS a9,d9 3 aS a8] [] (d9 3 aS r) []):=by
 unfold tT
 exact .k5 (fun o =>
  .ret (bY [(ad 1),.aI (av 1 (aq (.fF 5 (.e8 3 none) .c4) (av 1 (dm 2 (av 1 []))))),.ap true,(ad 1)] (.dh (o1 (sz:=3) (f:=aS) o) cV cV cV) (.bE (.ck (.p6 3)))))
  (fun eo o =>
  (have cf:=((.cd (jq (sz:=3) (f:=aS) o) fv fv):cW _);
  .k5 (fun af =>
  .ret (bY [(ad 1),.aI (av 1 (aq (.fF 5 (.e8 3 (some (aS eo))) .c4) (bL 2 (.fF 8 (.e8 3 none) .c4) 1))),.ap true,(ad 1)] (cf.a1 (.aH (o1 (sz:=3) (f:=aS) af) cV)) (.bE (.ck (.p6 3)))))
  (fun oG af =>
  .ay fun br bp =>
  .ay fun bZ bu =>
  .ret (bY [(ad 1),.aI (av 1 (aq (.fF 5 (.e8 3 (some (aS eo))) .c4) (bL 2 (.fF 8 (.e8 3 (some (aS oG))) .c4) 1))),.ap false,.aI (av 2 (aq (bC 2 (d9 3 aS br) false) (aq (bC 1 (d9 3 aS bZ) false) (av 1 []))))] (cf.a1 (.dh (jq (sz:=3) (f:=aS) af) fv (ND br bp) (Am bZ bu)))))))
def Hf (cO:List bs)(cr:List bF)(f6:List (Option bj))(mx gU:Int):((Option bj)×(Option bj)×Int)→S:=fun (b3,el,gI)=>fh [(0,.eh 2 [[.isl 4 (cO.map dk),.isl 3 (cr.map c3)]] 0 0),(1,.isl 1 (f6.map (bM 3 aS))),(2,.n .i64 mx),(8,d9 3 aS b3),(9,d9 3 aS el),(19,.isl 3 (cr.map c3)),(20,.n .i64 gU),(21,.n .i64 gI)] []
def Nk (cO:List bs)(cr:List bF)(f6:List (Option bj))(mx gU:Int):((Option bj)×(Option bj))→fp
 | a=>⟨some 0,[(8,d9 3 aS a.1),(9,d9 3 aS a.2)],[]⟩
def xb (cO:List bs)(cr:List bF)(f6:List (Option bj))(mx gU:Int)(b3 el:Option bj)(gI:Int):Option (((Option bj)×(Option bj)×Int)⊕((Option bj)×(Option bj))) :=
 if (decide (gI<gU))=true then
  if 0≤gI∧gI<cr.length then
  cr[gI.toNat]? >>= fun aM =>
  ru (⟨cO,cr⟩:b4) gI >>= fun br =>
  if (mx == aM.f9)=true then
   if 0≤gI∧gI<f6.length then
   f6[gI.toNat]? >>= fun gE =>
   m7 br.1 >>= fun cE =>
   tT gE cE >>= fun ed =>
   m9 b3 ed >>= fun fN =>
   m7 br.2 >>= fun iU =>
   tT gE iU >>= fun qB =>
   m9 el qB >>= fun jr =>
   some (.inl (fN,jr,U (gI+(1:Int))))
   else none
  else
   if (mx == aM.fX)=true then
    if 0≤gI∧gI<f6.length then
    f6[gI.toNat]? >>= fun il =>
    m7 (U (0-br.1)) >>= fun fA =>
    tT il fA >>= fun fz =>
    m9 b3 fz >>= fun df =>
    m7 (U (0-br.2)) >>= fun eK =>
    tT il eK >>= fun iJ =>
    m9 el iJ >>= fun mY =>
    some (.inl (df,mY,U (gI+(1:Int))))
    else none
   else
    some (.inl (b3,el,U (gI+(1:Int))))
  else none
 else
  some (.inr (b3,el))
def HC (cO:List bs)(cr:List bF)(f6:List (Option bj))(mx gU:Int)(b3 el:Option bj)(gI:Int):Option ((Option bj)×(Option bj)):=iter (fun w:(Option bj)×(Option bj)×Int=>xb cO cr f6 mx gU w.1 w.2.1 w.2.2) (b3,el,gI)
theorem Ut {cO:List bs}{cr:List bF}{f6:List (Option bj)}{mx gU:Int}{b3 el:Option bj}{gI:Int}:bV (xb cO cr f6 mx gU b3 el gI) (fV bt 66 0 69 [1,1,0,1,0,0] (Hf cO cr f6 mx gU (b3,el,gI)) (Hf cO cr f6 mx gU) (Nk cO cr f6 mx gU)):=by
 unfold xb
 exact .ite (fun o =>
  .bn fun J =>
  .ay fun aM aF =>
  .ay fun br bp =>
  (let t1:List cG:=[(ad 1),.ap true,.aI (bL 2 (.cz (c3 aM)) 3),.aI (bL 2 (bC 2 (.cY [.n .i64 br.1,.n .i64 br.2]) true) 5),(ad 1),(ad 4)];
  have a5:=((.fG o J.1 (eI c3 J.2) (cD c3 aF) (Nl br bp) (Q6 (jx (cl.n .i64 br.1) (jx (cl.n .i64 br.2) t0)))):cW _);
  .ite (fun bJ =>
  .bn fun bu =>
  .ay fun gE da =>
  .ay fun cE eF =>
  .ay fun ed d8 =>
  .ay fun fN fT =>
  .ay fun iU kA =>
  .ay fun qB oA =>
  .ay fun jr n1 =>
  .ret (bQ (t1.append [.ap true,.aI (av 4 (aq (.cz ((bM 3 aS) gE)) (av 1 (aq (bC 1 (d9 3 aS cE) false) (aq (bC 2 (d9 3 aS ed) false) (aq (bC 2 (d9 3 aS fN) false) (av 1 []))))))),.aI (av 4 (aq (.cz ((bM 3 aS) gE)) (av 1 (aq (bC 1 (d9 3 aS iU) false) (aq (bC 2 (d9 3 aS qB) false) (aq (bC 2 (d9 3 aS jr) false) (av 1 []))))))),(ad 2),.bm [] [] (bX [0,1,2,8,9,19,20,21])]) (a5.a1 (.bo bJ bu.1 (eI (bM 3 aS) bu.2) (cD (bM 3 aS) da) (qa cE eF) (D1 ed d8) (qL fN fT) bu.1 (.eR (eI (bM 3 aS) bu.2) (cD (bM 3 aS) da) (qa iU kA) (D1 qB oA) (qL jr n1))))))
  (fun bJ =>
  .ite (fun bu =>
  .bn fun c9 =>
  .ay fun il c8 =>
  .ay fun fA d4 =>
  .ay fun fz gK =>
  .ay fun df g7 =>
  .ay fun eK j0 =>
  .ay fun iJ jS =>
  .ay fun mY lT =>
  .ret (bQ (t1.append [.ap false,(ad 4),.ap true,(ad 6),.aI (av 4 (aq (.cz ((bM 3 aS) il)) (av 1 (aq (bC 1 (d9 3 aS fA) false) (aq (bC 2 (d9 3 aS fz) false) (aq (bC 2 (d9 3 aS df) false) (av 1 []))))))),.aI (av 4 (aq (.cz ((bM 3 aS) il)) (av 1 (aq (bC 1 (d9 3 aS eK) false) (aq (bC 2 (d9 3 aS iJ) false) (aq (bC 2 (d9 3 aS mY) false) (av 1 []))))))),(ad 2),.bm [] [] (bX [0,1,2,8,9,19,20,21])]) (a5.a1 (.bo bJ bu c9.1 (eI (bM 3 aS) c9.2) (cD (bM 3 aS) c8) (qa fA d4) (D1 fz gK) (qL df g7) (.fG c9.1 (eI (bM 3 aS) c9.2) (cD (bM 3 aS) c8) (qa eK j0) (D1 iJ jS) (qL mY lT))))))
  (fun bu =>
  .ret (bQ (t1.append [.ap false,(ad 4),.ap false,(ad 2),.bm [] [] (bX [0,1,2,8,9,19,20,21])]) (a5.a1 (.aH bJ bu)))))))
  (fun o =>
  .ret (bQ [(ad 1),.ap false,.bm [] [] (bX [8,9])] (.aC o)))
theorem US {cO:List bs}{cr:List bF}{f6:List (Option bj)}{mx gU:Int}{b3 el:Option bj}{gI:Int}{r} (h:HC cO cr f6 mx gU b3 el gI=some r):fW bt 66 0 69 [1,1,0,1,0,0] (Hf cO cr f6 mx gU) (Nk cO cr f6 mx gU) (b3,el,gI) r:=fZ (fun _=>Ut) h
def zR (aK:b4)(f6:List (Option bj))(mx:Int):Option ((Option bj)×(Option bj)) :=
 m7 0 >>= fun ae =>
 HC aK.cj aK.bz f6 mx (len_ c3 aK.bz) ae ae 0 >>= fun bl =>
 some (bl.1,bl.2)
theorem Vp {aK:b4}{f6:List (Option bj)}{mx:Int}:bV (zR aK f6 mx) (fun r=>Con bt 69 [.eh 2 [(gf aK)] 0 0,.isl 1 (f6.map (bM 3 aS)),.n .i64 mx] [] (.cY [d9 3 aS r.1,d9 3 aS r.2]) []):=by
 unfold zR
 exact .ay fun ae J =>
  .ay fun bl aF =>
  .ret (bY [(ad 2),.aI (aq (bC 1 (d9 3 aS ae) false) (aq (bC 1 (d9 3 aS ae) false) (av 2 []))),(ad 6),.bm [] [] (bX [0,1,2,8,9,19,20,21]),.sub (.exit 0) [(8,d9 3 aS bl.1),(9,d9 3 aS bl.2)] [],(ad 4)] (.cd (qa ae J) (qa ae J) (US aF)))
def sN (b3:Option bj):Option Int :=
 b3 >>= fun fJ =>
 o9 fJ.qn >>= fun bl =>
 some bl
theorem Dk {b3:Option bj}:bV (sN b3) (fun r=>Con bt 37 [(d9 3 aS b3)] [] (.n .i64 r) []):=by
 unfold sN
 exact .ay fun fJ J =>
  .ay fun bl aF =>
  .ret (bY [(ad 1),.aI (av 1 (aq (.fF 3 (.e8 3 (some (aS fJ))) .c4) (bL 2 (bC 1 (.n .i64 bl) true) 1)))] (.cd (jq (sz:=3) (f:=aS) J) (sM bl aF) (cl.n .i64 bl)))
def Ao (b3:Option bj):Option Bool :=
 b3.elim
 (some false)
 fun eo =>
 sN b3 >>= fun bl =>
 some (bl == (0:Int))
theorem N5 {b3:Option bj}:bV (Ao b3) (fun r=>Con bt 70 [(d9 3 aS b3)] [] (.b r) []):=by
 unfold Ao
 exact .k5 (fun o =>
  .ret (bY [(ad 1),.aI (av 1 (aq (.fF 3 (.e8 3 none) .c4) (av 1 (dm 3 (av 2 [])))))] (.dh (o1 (sz:=3) (f:=aS) o) fv fv fv)))
  (fun eo o =>
  .ay fun bl aF =>
  .ret (bY [(ad 1),.aI (av 1 (aq (.fF 3 (.e8 3 (some (aS eo))) .c4) (bL 2 (bC 1 (.n .i64 bl) true) 3)))] (.fG (jq (sz:=3) (f:=aS) o) cV cV (Dk bl aF) (cl.n .i64 bl) cV)))
def Hv (cH:List Int)(jV:List (Option bj))(i2:List Int)(eA:Int)(aZ:List bs)(aN:List bF):Int→S:=fun eN=>fh [(1,.isl 1 (cH.map I)),(3,.ref 0 0 0 0),(7,.isl 1 (jV.map (bM 3 aS))),(25,.isl 1 (i2.map I)),(26,.n .i64 eA),(27,.n .i64 eN)] [[ab.mk 2 [[.isl 4 (aZ.map dk),.isl 3 (aN.map c3)]] .h9]]
def Nu (cH:List Int)(jV:List (Option bj))(i2:List Int)(eA:Int)(aZ:List bs)(aN:List bF):((Unit)⊕(Unit))→fp
 | .inl a=>⟨some 0,[],[]⟩
 | .inr a=>⟨none,[(6,.b false)],[]⟩
def xk (cH:List Int)(jV:List (Option bj))(i2:List Int)(eA:Int)(aZ:List bs)(aN:List bF)(eN:Int):Option ((Int)⊕((Unit)⊕(Unit))) :=
 if (decide (eN<eA))=true then
  if 0≤eN∧eN<i2.length then
  i2[eN.toNat]? >>= fun aM =>
  zR (⟨aZ,aN⟩:b4) jV aM >>= fun br =>
  if 0≤(U ((2:Int)*aM))∧(U ((2:Int)*aM))<cH.length then
  cH[(U ((2:Int)*aM)).toNat]? >>= fun lu =>
  m7 lu >>= fun fb =>
  m9 br.1 fb >>= fun fA =>
  Ao fA >>= fun fz =>
  if fz=true then
   if 0≤(U ((U ((2:Int)*aM))+(1:Int)))∧(U ((U ((2:Int)*aM))+(1:Int)))<cH.length then
   cH[(U ((U ((2:Int)*aM))+(1:Int))).toNat]? >>= fun L4 =>
   m7 L4 >>= fun iJ =>
   m9 br.2 iJ >>= fun mY =>
   Ao mY >>= fun nt =>
   if nt=true then
    some (.inl (U (eN+(1:Int))))
   else
    some (.inr (.inr ()))
   else none
  else
   some (.inr (.inr ()))
  else none
  else none
 else
  some (.inr (.inl ()))
def IC (cH:List Int)(jV:List (Option bj))(i2:List Int)(eA:Int)(aZ:List bs)(aN:List bF)(eN:Int):Option ((Unit)⊕(Unit)):=iter (fun w:Int=>xk cH jV i2 eA aZ aN w) eN
theorem UL {cH:List Int}{jV:List (Option bj)}{i2:List Int}{eA:Int}{aZ:List bs}{aN:List bF}{eN:Int}:bV (xk cH jV i2 eA aZ aN eN) (fV bt 61 0 32 [1,1,1,0,1,0,0] (Hv cH jV i2 eA aZ aN eN) (Hv cH jV i2 eA aZ aN) (Nu cH jV i2 eA aZ aN)):=by
 unfold xk
 exact .ite (fun o =>
  .bn fun J =>
  .ay fun aM aF =>
  .ay fun br bp =>
  .bn fun bJ =>
  .ay fun lu c9 =>
  .ay fun fb c8 =>
  .ay fun fA d4 =>
  .ay fun fz gK =>
  (let t1:List cG:=[(ad 1),.ap true,.aI (bL 1 (.cz (I aM)) 1),.aI (bL 2 (.call {ac:=[.bE (.ptr [.id,.id]),ii,ii],r:= .cY [d9 3 aS br.1,d9 3 aS br.2],dr:=false,dZ:=[0]}) 5)];
  have a5:=((.bo o J.1 (eI I J.2) (cD I aF) (j6 (m6 (⟨aZ,aN⟩:b4)):g9 [[.isl 4 (aZ.map dk),.isl 3 (aN.map c3)]]) (Vp br bp) bJ.1 (eI I bJ.2) (.eR (cD I c9) (qa fb c8) (qL fA d4) (N5 fz gK) (cl.b fz))):cW _);
  .ite (fun fT =>
  .bn fun g7 =>
  .ay fun L4 j0 =>
  .ay fun iJ jS =>
  .ay fun mY lT =>
  .ay fun nt qy =>
  (let t3:List cG:=t1.append [.aI (av 5 (aq (.cz (I lu)) (aq (bC 1 (d9 3 aS fb) false) (aq (bC 2 (d9 3 aS fA) false) (aq (bC 1 (.b fz) true) (av 8 (aq (.cz (I L4)) (aq (bC 1 (d9 3 aS iJ) false) (aq (bC 2 (d9 3 aS mY) false) (aq (bC 1 (.b nt) true) (av 1 (aq (.ap false) []))))))))))))];
  have fI:=a5.a1 (.bo (d7 fT) (d7 fT) (d7 fT) (d7 fT) (d7 fT) (d7 fT) g7.1 (eI I g7.2) (.bo (d7 fT) (cD I j0) (d7 fT) (qa iJ jS) (d7 fT) (qL mY lT) (d7 fT) (N5 nt qy) (.cd (cl.b nt) (d7 fT) (d7 fT))));
  .ite (fun sD =>
  .ret (bQ (t3.append [.ap false,(ad 2),.bm [0] [.box [.id,.id]] (bX [1,3,7,25,26,27])]) (fI.a1 (.aC (d7 sD)))))
  (fun sD =>
  .ret (bQ (t3.append [.ap true,(ad 1),.bm [] [] (bX [6])]) (fI.a1 (.aC (ee sD)))))))
  (fun fT =>
  .ret (bQ (t1.append [.aI (av 5 (aq (.cz (I lu)) (aq (bC 1 (d9 3 aS fb) false) (aq (bC 2 (d9 3 aS fA) false) (aq (bC 1 (.b fz) true) (av 2 (dm 11 (aq (.ap true) [])))))))),.ap true,(ad 1),.bm [] [] (bX [6])]) (a5.a1 (.bo (ee fT) (ee fT) (ee fT) (ee fT) (ee fT) (ee fT) (ee fT) (ee fT) (.eR (ee fT) (ee fT) (ee fT) (ee fT) cV)))))))
  (fun o =>
  .ret (bQ [(ad 1),.ap false,.bm [] [] []] (.aC o)))
theorem Nw {cH:List Int}{jV:List (Option bj)}{i2:List Int}{eA:Int}{aZ:List bs}{aN:List bF}{eN:Int}{r} (h:IC cH jV i2 eA aZ aN eN=some r):fW bt 61 0 32 [1,1,1,0,1,0,0] (Hv cH jV i2 eA aZ aN) (Nu cH jV i2 eA aZ aN) eN r:=fZ (fun _=>UL) h
def z1 (aK:b4)(cH:List Int)(f6:List ep):Option Bool :=
 uZ aK f6 >>= fun ae =>
 if ae.2=true then
  sR aK cH >>= fun aw =>
  if aw=true then
   uM aK >>= fun bZ =>
   IC cH ae.1 bZ (len_ I bZ) aK.cj aK.bz 0 >>= fun ba =>
   match ba with
   | .inl wa=>(some true)
   | .inr wa=>(some false)
  else
   some false
 else
  some false
theorem V5 {aK:b4}{cH:List Int}{f6:List ep}:bV (z1 aK cH f6) (fun r=>Con bt 32 [.agg (gf aK),.isl 1 (cH.map I),.isl 3 (f6.map eE)] [] (.b r) []):=by
 unfold z1
 exact .ay fun ae J =>
  (let t1:List cG:=[(ad 2),.h9 0,.aI (bL 1 (.call {ac:=[.bE (.ptr [.id,.id]),ii],r:= .cY [.isl 1 (ae.1.map (bM 3 aS)),.b ae.2],dr:=false,dZ:=[0]}) 5)];
  have a5:=((.aH (j6 (m6 aK):g9 [(gf aK)]) (IR ae J)):cW _);
  .ite (fun af =>
  .ay fun aw aJ =>
  (let t3:List cG:=t1.append [.aI (av 4 (aq (.call {ac:=[.bE (.ptr [.id,.id]),ii],r:= .b aw,dr:=true,dZ:=[0]}) (av 1 (aq (.ap false) []))))];
  have fI:=a5.a1 (.fC (d7 af) (d7 af) (j6 (m6 aK):g9 [(gf aK)]) (NQ aw aJ) (cl.b aw) (d7 af) (d7 af));
  .ite (fun bp =>
  .ay fun bZ bu =>
  .ay fun ba da =>
  (let t5:List cG:=t3.append [.ap false,.aI (aq (.call {ac:=[.bE (.ptr [.id,.id])],r:= .isl 1 (bZ.map I),dr:=false,dZ:=[0]}) (av 2 [])),.bm [0] [.box [.id,.id]] (bX [1,3,7,25,26,27])];
  have nG:=fI.a1 (.cd (d7 bp) (j6 (m6 aK):g9 [(gf aK)]) (GX bZ bu));
  (by
  rcases ba with wa|wa
  ·exact (.ret (bY (t5.append [.sub (.exit 0) [] [],(ad 1)]) (nG.a1 (.aC (Nw da)))))
  ·exact (.ret (bY (t5.append [.sub (.ret) [(6,.b false)] []]) (nG.a1 (.aC (Nw da))))))))
  (fun bp =>
  .ret (bY (t3.append [.ap true,(ad 1)]) (fI.a1 (.aC (ee bp)))))))
  (fun af =>
  .ret (bY (t1.append [.aI (av 3 (dm 3 (aq (.ap true) []))),.ap true,(ad 1)]) (a5.a1 (.eR (ee af) (ee af) (ee af) (ee af) cV)))))
def HI (jV:List (Option bj))(dt:List bF)(hv:Int):Int→S:=fun gU=>fh [(5,.isl 1 (jV.map (bM 3 aS))),(18,.isl 3 (dt.map c3)),(19,.n .i64 hv),(20,.n .i64 gU)] []
def NA (jV:List (Option bj))(dt:List bF)(hv:Int):((Unit)⊕(Unit))→fp
 | .inl a=>⟨some 0,[],[]⟩
 | .inr a=>⟨none,[(4,.b false)],[]⟩
def xo (jV:List (Option bj))(dt:List bF)(hv gU:Int):Option ((Int)⊕((Unit)⊕(Unit))) :=
 if (decide (gU<hv))=true then
  if 0≤gU∧gU<dt.length then
  dt[gU.toNat]? >>= fun aM =>
  if 0≤gU∧gU<jV.length then
  jV[gU.toNat]? >>= fun cy =>
  sN cy >>= fun ea =>
  if (aM.gr == (1:Int))=true then
   if (decide (ea<(0:Int)))=true then
    some (.inr (.inr ()))
   else
    if (aM.gr == (2:Int))=true then
     if (decide ((0:Int)<ea))=true then
      some (.inr (.inr ()))
     else
      some (.inl (U (gU+(1:Int))))
    else
     some (.inl (U (gU+(1:Int))))
  else
   if (aM.gr == (2:Int))=true then
    if (decide ((0:Int)<ea))=true then
     some (.inr (.inr ()))
    else
     some (.inl (U (gU+(1:Int))))
   else
    some (.inl (U (gU+(1:Int))))
  else none
  else none
 else
  some (.inr (.inl ()))
def IY (jV:List (Option bj))(dt:List bF)(hv gU:Int):Option ((Unit)⊕(Unit)):=iter (fun w:Int=>xo jV dt hv w) gU
theorem UZ {jV:List (Option bj)}{dt:List bF}{hv gU:Int}:bV (xo jV dt hv gU) (fV bt 47 0 33 [1,1,1,0,1,0,0] (HI jV dt hv gU) (HI jV dt hv) (NA jV dt hv)):=by
 unfold xo
 exact .ite (fun o =>
  .bn fun J =>
  .ay fun aM aF =>
  .bn fun aJ =>
  .ay fun cy bJ =>
  .ay fun ea c9 =>
  (let t1:List cG:=[(ad 1),.ap true,.aI (bL 2 (.cz (c3 aM)) 3),.aI (av 3 (aq (.cz ((bM 3 aS) cy)) (aq (bC 1 (.n .i64 ea) true) (av 1 []))))];
  have a5:=((.bo o J.1 (eI c3 J.2) (cD c3 aF) aJ.1 (eI (bM 3 aS) aJ.2) (cD (bM 3 aS) bJ) (Dk ea c9) (.aC (cl.n .i64 ea))):cW _);
  .ite (fun da =>
  .ite (fun c8 =>
  .ret (bQ (t1.append [.aI (av 6 (aq (.ap true) (av 1 (dm 4 (av 2 (dm 1 (aq (.ap true) []))))))),.ap true,(ad 1),.bm [] [] (bX [4])]) (a5.a1 (.bo da da da c8 c8 c8 c8 c8 (.aH c8 cV)))))
  (fun c8 =>
  (have gh:=a5.a1 (.fC da da da c8 c8 c8 c8);
  .ite (fun eF =>
  (let t4:List cG:=t1.append [.aI (av 6 (aq (.ap true) (av 7 (aq (.ap true) (aq (.ap false) [])))))];
  .ite (fun d4 =>
  .ret (bQ (t4.append [.ap true,(ad 1),.bm [] [] (bX [4])]) (gh.a1 (.fG eF eF c8 eF c8 d4))))
  (fun d4 =>
  .ret (bQ (t4.append [.ap false,(ad 2),.bm [] [] (bX [5,18,19,20])]) (gh.a1 (.fG eF eF c8 eF c8 d4))))))
  (fun eF =>
  .ret (bQ (t1.append [.aI (av 6 (aq (.ap true) (av 5 (dm 2 (aq (.ap false) (aq (.ap false) [])))))),.ap false,(ad 2),.bm [] [] (bX [5,18,19,20])]) (gh.a1 (.fG eF eF c8 eF c8 fv)))))))
  (fun da =>
  .ite (fun c8 =>
  (let t3:List cG:=t1.append [.aI (av 4 (dm 2 (aq (.ap false) (bL 7 (.ap true) 1))))];
  have fI:=a5.a1 (.bo da da da fv fv fv fv c8 (.cd c8 fv c8));
  .ite (fun eF =>
  .ret (bQ (t3.append [.ap true,(ad 1),.bm [] [] (bX [4])]) (fI.a1 (.aC eF))))
  (fun eF =>
  .ret (bQ (t3.append [.ap false,(ad 2),.bm [] [] (bX [5,18,19,20])]) (fI.a1 (.aC eF))))))
  (fun c8 =>
  .ret (bQ (t1.append [.aI (av 4 (dm 2 (aq (.ap false) (av 5 (dm 2 (aq (.ap false) (av 1 []))))))),.ap false,(ad 2),.bm [] [] (bX [5,18,19,20])]) (a5.a1 (.bo da da da fv fv fv fv c8 (.dh c8 fv c8 fv))))))))
  (fun o =>
  .ret (bQ [(ad 1),.ap false,.bm [] [] []] (.aC o)))
theorem NE {jV:List (Option bj)}{dt:List bF}{hv gU:Int}{r} (h:IY jV dt hv gU=some r):fW bt 47 0 33 [1,1,1,0,1,0,0] (HI jV dt hv) (NA jV dt hv) gU r:=fZ (fun _=>UZ) h
def z8 (aK:b4)(f6:List ep):Option Bool :=
 uZ aK f6 >>= fun ae =>
 if ae.2=true then
  IY ae.1 aK.bz (len_ c3 aK.bz) 0 >>= fun aw =>
  match aw with
  | .inl wG=>(some true)
  | .inr wG=>(some false)
 else
  some false
theorem Wq {aK:b4}{f6:List ep}:bV (z8 aK f6) (fun r=>Con bt 33 [.agg (gf aK),.isl 3 (f6.map eE)] [] (.b r) []):=by
 unfold z8
 exact .ay fun ae J =>
  (let t1:List cG:=[(ad 2),.h9 0,.aI (bL 1 (.call {ac:=[.bE (.ptr [.id,.id]),ii],r:= .cY [.isl 1 (ae.1.map (bM 3 aS)),.b ae.2],dr:=false,dZ:=[0]}) 5),(ad 2)];
  have a5:=((.aH (j6 (m6 aK):g9 [(gf aK)]) (IR ae J)):cW _);
  .ite (fun af =>
  .ay fun aw aJ =>
  (let t3:List cG:=t1.append [.ap false,(ad 4),.bm [] [] (bX [5,18,19,20])];
  (by
  rcases aw with wG|wG
  ·exact (.ret (bY (t3.append [.sub (.exit 0) [] [],(ad 1)]) (a5.a1 (.aH (d7 af) (NE aJ)))))
  ·exact (.ret (bY (t3.append [.sub (.ret) [(4,.b false)] []]) (a5.a1 (.aH (d7 af) (NE aJ))))))))
  (fun af =>
  .ret (bY (t1.append [.ap true,(ad 1)]) (a5.a1 (.aC (ee af))))))
def zV (aK:b4)(cH:List Int)(f6:List ep):Option Bool :=
 z1 aK cH f6 >>= fun ae =>
 if ae=true then
  z8 aK f6 >>= fun aw =>
  some aw
 else
  some false
theorem Nx {aK:b4}{cH:List Int}{f6:List ep}:bV (zV aK cH f6) (fun r=>Con bt 9 [.agg (gf aK),.isl 1 (cH.map I),.isl 3 (f6.map eE)] [] (.b r) []):=by
 unfold zV
 exact .ay fun ae J =>
  (have cf:=((.aH (V5 ae J) (cl.b ae)):cW _);
  .ite (fun af =>
  .ay fun aw aJ =>
  .ret (bY [(ad 2),.aI (av 3 (aq (bC 3 (.b ae) true) (av 3 (aq (bC 2 (.b aw) true) (aq (.ap true) (av 1 []))))))] (cf.a1 (.fG af af af (Wq aw aJ) (cl.b aw) af))))
  (fun af =>
  .ret (bY [(ad 2),.aI (av 3 (aq (bC 3 (.b ae) true) (av 1 (dm 3 (aq (.ap false) (av 1 []))))))] (cf.a1 (.dh af af af af)))))
def tJ (aK:b4)(cc:Int):Option Bool :=
 if (decide ((0:Int)≤cc))=true then
  if (decide (cc<(len_ c3 aK.bz)))=true then
   if 0≤cc∧cc<aK.bz.length then
   aK.bz[cc.toNat]? >>= fun gP =>
   some (gP.gr == (1:Int))
   else none
  else
   some false
 else
  some false
theorem Np {aK:b4}{cc:Int}:bV (tJ aK cc) (fun r=>Con bt 72 [.eh 2 [(gf aK)] 0 0,.n .i64 cc] [] (.b r) []):=by
 unfold tJ
 exact .ite (fun o =>
  .ite (fun J =>
  .bn fun af =>
  .ay fun gP aJ =>
  .ret (bY [(ad 1),.aI (av 10 (aq (.ap true) (av 8 (aq (.cz (c3 gP)) (bL 1 (.ap true) 1)))))] (.bo o o o o o o o o (.bo J J J J J J af.1 (eI c3 af.2) (.eR J J (cD c3 aJ) J J)))))
  (fun J =>
  .ret (bY [(ad 1),.aI (av 10 (aq (.ap true) (av 1 (dm 9 (aq (.ap false) (av 1 []))))))] (.bo o o o o o o o o (.bo J J J J J J J J (.aH J J))))))
  (fun o =>
  .ret (bY [(ad 1),.aI (av 3 (dm 7 (aq (.ap false) (av 1 (dm 9 (av 2 []))))))] (.bo o o o o o o o o (.bo fv fv fv fv fv fv fv fv (.aC fv)))))
def DI (cc:Int)(ck:List (Option bj)):Option Bool :=
 if 0≤cc∧cc<ck.length then
 ck[cc.toNat]? >>= fun fo =>
 sN fo >>= fun aw =>
 some (aw == (0:Int))
 else none
theorem We {cc:Int}{ck:List (Option bj)}:bV (DI cc ck) (fun r=>Con bt 36 [.n .i64 cc,.eh 1 [[.isl 1 (ck.map (bM 3 aS))]] 0 0] [] (.b r) []):=by
 unfold DI
 exact .bn fun o =>
  .ay fun fo af =>
  .ay fun aw aJ =>
  .ret (bY [(ad 1),.aI (av 3 (aq (.cz ((bM 3 aS) fo)) (aq (bC 1 (.n .i64 aw) true) (av 2 []))))] (.eR o.1 (eI (bM 3 aS) o.2) (cD (bM 3 aS) af) (Dk aw aJ) (cl.n .i64 aw)))
def Gh (cO:List bs)(cr:List bF)(j9:List (Option bj))(cL:Int):(Int×(List Int))→S:=fun (cB,ai)=>fh [(0,.eh 2 [[.isl 4 (cO.map dk),.isl 3 (cr.map c3)]] 0 0),(1,.fn 36 [.eh 1 [[.isl 1 (j9.map (bM 3 aS))]] 0 0]),(5,.bx 0 0 0 ai.length),(11,.n .i64 cL),(12,.n .i64 cB)] [(au 1 I ai)]
def M0 (cO:List bs)(cr:List bF)(j9:List (Option bj))(cL:Int):(List Int)→fp
 | a=>⟨some 0,[(5,.bx 0 0 0 a.length)],[(au 1 I a)]⟩
def wN (cO:List bs)(cr:List bF)(j9:List (Option bj))(cL cB:Int)(ai:List Int):Option ((Int×(List Int))⊕((List Int))) :=
 if (decide (cB<cL))=true then
  tJ (⟨cO,cr⟩:b4) cB >>= fun bq =>
  if bq=true then
   DI cB j9 >>= fun br =>
   if br=true then
    if (ai++([cB]:List Int)).length*8≤140737488355328 then
    some (.inl (U (cB+(1:Int)),ai++([cB]:List Int)))
    else none
   else
    some (.inl (U (cB+(1:Int)),ai))
  else
   some (.inl (U (cB+(1:Int)),ai))
 else
  some (.inr ai)
def Gk (cO:List bs)(cr:List bF)(j9:List (Option bj))(cL cB:Int)(ai:List Int):Option ((List Int)):=iter (fun w:Int×(List Int)=>wN cO cr j9 cL w.1 w.2) (cB,ai)
theorem TL {cO:List bs}{cr:List bF}{j9:List (Option bj)}{cL cB:Int}{ai:List Int}:bV (wN cO cr j9 cL cB ai) (fV bt 29 0 35 [1,1,0,1,0,0] (Gh cO cr j9 cL (cB,ai)) (Gh cO cr j9 cL) (M0 cO cr j9 cL)):=by
 unfold wN
 exact .ite (fun o =>
  .ay fun bq af =>
  (let t1:List cG:=[(ad 1),.ap true,(ad 2)];
  have a5:=((.cd o (Np bq af) (cl.b bq)):cW _);
  .ite (fun aF =>
  .ay fun br bp =>
  (let t3:List cG:=t1.append [.aI (av 2 (aq (bC 2 (.b bq) true) (av 3 (aq (bC 2 (.b br) true) (aq (.ap true) [])))))];
  have fI:=a5.a1 (.fG aF aF aF (We br bp) (cl.b br) aF);
  .ite (fun bJ =>
  .bn fun bu =>
  .ret (let aL:=(ai++([cB]:List Int));bQ (t3.append [.ap true,.aI (bL 3 (.a1 (aL.length)) 1),(ad 2),.bm [15] [.dY (au 1 I aL)] [(0,ii),(1,.comp [.ck .id]),(5,ii),(11,ii),(12,ii)]]) (fI.a1 (.fC bJ (mi I cB) (qF I ai) (n7 I ai cB) bu (eB 1 .live (qG I ai cB)) (aD 1 .live aA aL)))))
  (fun bJ =>
  .ret (bQ (t3.append [.ap false,(ad 2),.bm [0] [.pure] [(0,ii),(1,.comp [.ck .id]),(5,ii),(11,ii),(12,ii)]]) (fI.a1 (.aH bJ (aD 1 .live aA ai)))))))
  (fun aF =>
  .ret (bQ (t1.append [.aI (av 2 (aq (bC 2 (.b bq) true) (av 1 (dm 3 (aq (.ap false) []))))),.ap false,(ad 2),.bm [0] [.pure] [(0,ii),(1,.comp [.ck .id]),(5,ii),(11,ii),(12,ii)]]) (a5.a1 (.fG aF aF aF aF fv (aD 1 .live aA ai)))))))
  (fun o =>
  .ret (bQ [(ad 1),.ap false,.bm [0] [.pure] (bX [5])] (.aH o (aD 1 .live aA ai))))
theorem TO {cO:List bs}{cr:List bF}{j9:List (Option bj)}{cL cB:Int}{ai:List Int}{r} (h:Gk cO cr j9 cL cB ai=some r):fW bt 29 0 35 [1,1,0,1,0,0] (Gh cO cr j9 cL) (M0 cO cr j9 cL) (cB,ai) r:=fZ (fun _=>TL) h
def Gz (aK:b4)(sn:List (Option bj)):Option (List Int) :=
 Gk aK.cj aK.bz sn (len_ c3 aK.bz) 0 ([]:List Int) >>= fun ae =>
 some ae
theorem TX {aK:b4}{sn:List (Option bj)}:bV (Gz aK sn) (fun r=>Con bt 35 [.eh 2 [(gf aK)] 0 0,.fn 36 [.eh 1 [[.isl 1 (sn.map (bM 3 aS))]] 0 0]] [] (.isl 1 (r.map I)) []):=by
 unfold Gz
 exact .ay fun ae J =>
  .ret (bY [(ad 1),(ad 1),(ad 6),.su 5 1,.bm [8] [.dY (au 1 I ([]:List Int))] [(0,ii),(1,.comp [.ck .id]),(5,gz (([]:List Int).length)),(11,ii),(12,ii)],.sub (.exit 0) [(5,.bx 0 0 0 ae.length)] [(au 1 I ae)],(ad 2)] (.fC (eB 1 .live (r4 I)) (aD 1 .live aA ([]:List Int)) (mL Int) (TO J) (ki I ae) (jw I ae) (fs aA ae)) (.bE (.ck (.gv (ae.map I)))))
def Af (aK:b4)(f6:List ep):Option (List Int) :=
 uZ aK f6 >>= fun ae =>
 if ae.2=true then
  Gz aK ae.1 >>= fun aw =>
  some aw
 else
  some ([]:List Int)
theorem WB {aK:b4}{f6:List ep}:bV (Af aK f6) (fun r=>Con bt 11 [.agg (gf aK),.isl 3 (f6.map eE)] [] (.isl 1 (r.map I)) []):=by
 unfold Af
 exact .ay fun ae J =>
  (let t1:List cG:=[(ad 2),.h9 0,.aI (bL 1 (.call {ac:=[.bE (.ptr [.id,.id]),ii],r:= .cY [.isl 1 (ae.1.map (bM 3 aS)),.b ae.2],dr:=false,dZ:=[0]}) 6),(ad 2)];
  have a5:=((.aH (j6 (m6 aK):g9 [(gf aK)]) (IR ae J)):cW _);
  .ite (fun af =>
  .ay fun aw aJ =>
  .ret (bY (t1.append [.ap false,.h9 7,.aI (bL 1 (.call {ac:=[.bE (.ptr [.id,.id]),.comp [.ptr [.id]]],r:= .isl 1 (aw.map I),dr:=false,dZ:=[0,7]}) 1)]) (a5.a1 (.dh (d7 af) (j6 (m6 aK):g9 [(gf aK)]) (j6 ((pb (sz:=1) (iC (sz:=3) hM)) ae.1):g9 [[.isl 1 (ae.1.map (bM 3 aS))]]) (TX aw aJ)))))
  (fun af =>
  .ret (bY (t1.append [.ap true,(ad 1)]) (a5.a1 (.aC (ee af))) (.bE (.ck (.hh 1))))))
def rv (bh:Int):Option ep :=
 m7 bh >>= fun ae =>
 sT ae >>= fun bl =>
 some bl
theorem xK {bh:Int}:bV (rv bh) (fun r=>Con bt 13 [.n .i64 bh] [] (.agg (eE r)) []):=by
 unfold rv
 exact .ay fun ae J =>
  .ay fun bl aF =>
  .ret (bY [(ad 1),.aI (av 1 (aq (bC 1 (d9 3 aS ae) false) (aq (bC 1 (.agg (eE bl)) false) (av 1 []))))] (.aH (qa ae J) (z6 bl aF)))
def tN (b3 el:Option bj):Option Int :=
 el >>= fun fJ =>
 qJ b3 fJ.pY >>= fun bl =>
 b3 >>= fun ml =>
 qJ el ml.pY >>= fun bZ =>
 sc bl bZ >>= fun ba =>
 some ba
theorem Wf {b3 el:Option bj}:bV (tN b3 el) (fun r=>Con bt 39 [d9 3 aS b3,d9 3 aS el] [] (.n .i64 r) []):=by
 unfold tN
 exact .ay fun fJ J =>
  .ay fun bl aF =>
  .ay fun ml bp =>
  .ay fun bZ bu =>
  .ay fun ba da =>
  .ret (bY [(ad 1),.aI (av 2 (aq (.fF 6 (.e8 3 (some (aS fJ))) .c4) (av 2 (aq (bC 2 (.agg (aU bl)) false) (av 2 (aq (.fF 12 (.e8 3 (some (aS ml))) .c4) (av 2 (aq (bC 2 (.agg (aU bZ)) false) (aq (bC 2 (.n .i64 ba) true) (av 1 []))))))))))] (.fG (jq (sz:=3) (f:=aS) J) (Db bl aF) (jq (sz:=3) (f:=aS) bp) (Db bZ bu) (Nt ba da) (cl.n .i64 ba)))
def x7 (dq aK:ep):Option Int :=
 vf dq >>= fun ae =>
 vf aK >>= fun bl =>
 ae.elim
 (some 0)
 fun o6 =>
 bl.elim
 (some 0)
 fun uD =>
 tN ae bl >>= fun ba =>
 some ba
theorem Jg {dq aK:ep}:bV (x7 dq aK) (fun r=>Con bt 12 [.agg (eE dq),.agg (eE aK)] [] (.n .i64 r) []):=by
 unfold x7
 exact .ay fun ae J =>
  .ay fun bl aF =>
  (let t1:List cG:=[(ad 3),.aI (av 1 (aq (bC 1 (d9 3 aS ae) false) (bL 1 (bC 1 (d9 3 aS bl) false) 2)))];
  have a5:=((.aH (Ae ae J) (Ae bl aF)):cW _);
  .k5 (fun aJ =>
  .ret (bY (t1.append [.aI (av 1 (aq (.fF 11 (.e8 3 none) .c4) (av 1 (dm 2 (av 1 []))))),.ap true,(ad 1)]) (a5.a1 (.dh (o1 (sz:=3) (f:=aS) aJ) cV cV cV))))
  (fun o6 aJ =>
  (have gh:=a5.a1 (.cd (jq (sz:=3) (f:=aS) aJ) fv fv);
  .k5 (fun bJ =>
  .ret (bY (t1.append [.aI (av 1 (aq (.fF 11 (.e8 3 (some (aS o6))) .c4) (bL 2 (.fF 14 (.e8 3 none) .c4) 1))),.ap true,(ad 1)]) (gh.a1 (.aH (o1 (sz:=3) (f:=aS) bJ) cV))))
  (fun uD bJ =>
  .ay fun ba da =>
  .ret (bY (t1.append [.aI (av 1 (aq (.fF 11 (.e8 3 (some (aS o6))) .c4) (bL 2 (.fF 14 (.e8 3 (some (aS uD))) .c4) 1))),.ap false,.aI (bL 2 (bC 2 (.n .i64 ba) true) 1)]) (gh.a1 (.dh (jq (sz:=3) (f:=aS) bJ) fv (Wf ba da) (cl.n .i64 ba))))))))
def Hg (b3:List (Option bj))(fu:List ez)(hI:Int):(Int×(List (Option bj)))→S:=fun (dt,ai)=>fh [(1,.isl 1 (b3.map (bM 3 aS))),(5,.bx 0 0 0 ai.length),(16,.isl 2 (fu.map et)),(17,.n .i64 hI),(18,.n .i64 dt)] [(au 1 (bM 3 aS) ai)]
def Hk (b3:List (Option bj))(fu:List ez)(hI:Int):(List (Option bj))→fp
 | a=>⟨some 0,[(5,.bx 0 0 0 a.length)],[(au 1 (bM 3 aS) a)]⟩
def xc (b3:List (Option bj))(fu:List ez)(hI dt:Int)(ai:List (Option bj)):Option ((Int×(List (Option bj)))⊕((List (Option bj)))) :=
 if (decide (dt<hI))=true then
  if 0≤dt∧dt<fu.length then
  fu[dt.toNat]? >>= fun aM =>
  if 0≤dt∧dt<b3.length then
  b3[dt.toNat]? >>= fun cy =>
  if (decide (aM.og<(0:Int)))=true then
   vn cy >>= fun ba =>
   if 0≤aM.fj∧aM.fj<(ai.length:Nat) then
   ai[(0+aM.fj.toNat)]? >>= fun qA =>
   qA.elim
   (if (0+aM.fj.toNat)<ai.length then
     some (.inl (U (dt+(1:Int)),ai.set (0+aM.fj.toNat) ba))
     else none)
   fun Cb =>
   m9 qA ba >>= fun df =>
   if (0+aM.fj.toNat)<ai.length then
   some (.inl (U (dt+(1:Int)),ai.set (0+aM.fj.toNat) df))
   else none
   else none
  else
   if 0≤aM.fj∧aM.fj<(ai.length:Nat) then
   ai[(0+aM.fj.toNat)]? >>= fun il =>
   il.elim
   (if (0+aM.fj.toNat)<ai.length then
     some (.inl (U (dt+(1:Int)),ai.set (0+aM.fj.toNat) cy))
     else none)
   fun Cc =>
   m9 il cy >>= fun fz =>
   if (0+aM.fj.toNat)<ai.length then
   some (.inl (U (dt+(1:Int)),ai.set (0+aM.fj.toNat) fz))
   else none
   else none
  else none
  else none
 else
  some (.inr ai)
def HD (b3:List (Option bj))(fu:List ez)(hI dt:Int)(ai:List (Option bj)):Option ((List (Option bj))):=iter (fun w:Int×(List (Option bj))=>xc b3 fu hI w.1 w.2) (dt,ai)
theorem Uu {b3:List (Option bj)}{fu:List ez}{hI dt:Int}{ai:List (Option bj)}:bV (xc b3 fu hI dt ai) (fV bt 56 0 59 [1,1,0,1,0,0] (Hg b3 fu hI (dt,ai)) (Hg b3 fu hI) (Hk b3 fu hI)):=by
 unfold xc
 exact .ite (fun o =>
  .bn fun J =>
  .ay fun aM aF =>
  .bn fun aJ =>
  .ay fun cy bJ =>
  (let t1:List cG:=[(ad 1),.ap true,.aI (bL 2 (.cz (et aM)) 3),.aI (bL 3 (.cz ((bM 3 aS) cy)) 1),(ad 3)];
  have a5:=((.fC o J.1 (eI et J.2) (cD et aF) aJ.1 (eI (bM 3 aS) aJ.2) (cD (bM 3 aS) bJ)):cW _);
  .ite (fun bu =>
  .ay fun ba da =>
  .bn fun c8 =>
  .ay fun qA d4 =>
  (let t3:List cG:=t1.append [.ap true,.aI (bL 1 (bC 1 (d9 3 aS ba) false) 1)];
  have fI:=a5.a1 (.eR bu (D0 ba da) c8.1 c8.2 (cD (bM 3 aS) d4));
  .k5 (fun d8 =>
  .bn fun fT =>
  .ret (bQ (t3.append [.aI (av 4 (aq (.cz ((bM 3 aS) qA)) (aq (.fF 36 (.e8 3 none) .c4) []))),.ap true,.aI (av 5 (aq .c4 [])),(ad 2),.bm [0] [.dY (au 1 (bM 3 aS) (ai.set (0+aM.fj.toNat) ba))] [(1,ii),(5,gz ((ai.set (0+aM.fj.toNat) ba).length)),(16,ii),(17,ii),(18,ii)]]) (fI.a1 (.bo (o1 (sz:=3) (f:=aS) d8) cV c8.1 c8.2 (hB (bM 3 aS) fT) (g8 1) (eB 1 .live (gi (ej (bM 3 aS) ai) (0+aM.fj.toNat) ba)) (aD 1 .live (iC (sz:=3) hM) (ai.set (0+aM.fj.toNat) ba)) (.aC (hg (fP ai) (0+aM.fj.toNat) ba))))))
  (fun Cb d8 =>
  .ay fun df g7 =>
  .bn fun kA =>
  .ret (bQ (t3.append [.aI (av 4 (aq (.cz ((bM 3 aS) qA)) (aq (.fF 36 (.e8 3 (some (aS Cb))) .c4) []))),.ap false,.aI (av 7 (aq (.cz ((bM 3 aS) qA)) (av 1 (aq (bC 2 (d9 3 aS df) false) (av 1 (aq .c4 [])))))),(ad 2),.bm [0] [.dY (au 1 (bM 3 aS) (ai.set (0+aM.fj.toNat) df))] [(1,ii),(5,gz ((ai.set (0+aM.fj.toNat) df).length)),(16,ii),(17,ii),(18,ii)]]) (fI.a1 (.bo (jq (sz:=3) (f:=aS) d8) fv c8.1 c8.2 (cD (bM 3 aS) d4) (qL df g7) c8.1 c8.2 (.eR (hB (bM 3 aS) kA) (g8 1) (eB 1 .live (gi (ej (bM 3 aS) ai) (0+aM.fj.toNat) df)) (aD 1 .live (iC (sz:=3) hM) (ai.set (0+aM.fj.toNat) df)) (hg (fP ai) (0+aM.fj.toNat) df))))))))
  (fun bu =>
  .bn fun c9 =>
  .ay fun il c8 =>
  (have gh:=a5.a1 (.dh bu c9.1 c9.2 (cD (bM 3 aS) c8));
  .k5 (fun eF =>
  .bn fun d8 =>
  .ret (bQ (t1.append [.ap false,.aI (av 4 (aq (.cz ((bM 3 aS) il)) (aq (.fF 36 (.e8 3 none) .c4) []))),.ap true,.aI (av 5 (aq .c4 [])),(ad 2),.bm [0] [.dY (au 1 (bM 3 aS) (ai.set (0+aM.fj.toNat) cy))] [(1,ii),(5,gz ((ai.set (0+aM.fj.toNat) cy).length)),(16,ii),(17,ii),(18,ii)]]) (gh.a1 (.bo (o1 (sz:=3) (f:=aS) eF) cV c9.1 c9.2 (hB (bM 3 aS) d8) (g8 1) (eB 1 .live (gi (ej (bM 3 aS) ai) (0+aM.fj.toNat) cy)) (aD 1 .live (iC (sz:=3) hM) (ai.set (0+aM.fj.toNat) cy)) (.aC (hg (fP ai) (0+aM.fj.toNat) cy))))))
  (fun Cc eF =>
  .ay fun fz gK =>
  .bn fun fT =>
  .ret (bQ (t1.append [.ap false,.aI (av 4 (aq (.cz ((bM 3 aS) il)) (aq (.fF 36 (.e8 3 (some (aS Cc))) .c4) []))),.ap false,.aI (av 7 (aq (.cz ((bM 3 aS) il)) (av 1 (aq (bC 2 (d9 3 aS fz) false) (av 1 (aq .c4 [])))))),(ad 2),.bm [0] [.dY (au 1 (bM 3 aS) (ai.set (0+aM.fj.toNat) fz))] [(1,ii),(5,gz ((ai.set (0+aM.fj.toNat) fz).length)),(16,ii),(17,ii),(18,ii)]]) (gh.a1 (.bo (jq (sz:=3) (f:=aS) eF) fv c9.1 c9.2 (cD (bM 3 aS) c8) (qL fz gK) c9.1 c9.2 (.eR (hB (bM 3 aS) fT) (g8 1) (eB 1 .live (gi (ej (bM 3 aS) ai) (0+aM.fj.toNat) fz)) (aD 1 .live (iC (sz:=3) hM) (ai.set (0+aM.fj.toNat) fz)) (hg (fP ai) (0+aM.fj.toNat) fz))))))))))
  (fun o =>
  .ret (bQ [(ad 1),.ap false,.bm [0] [.pure] (bX [5])] (.aH o (aD 1 .live (iC (sz:=3) hM) ai))))
theorem UT {b3:List (Option bj)}{fu:List ez}{hI dt:Int}{ai:List (Option bj)}{r} (h:HD b3 fu hI dt ai=some r):fW bt 56 0 59 [1,1,0,1,0,0] (Hg b3 fu hI) (Hk b3 fu hI) (dt,ai) r:=fZ (fun _=>Uu) h
def zS (aK:b4)(b3:List (Option bj)):Option (List (Option bj)) :=
 if 0≤(len_ c3 aK.bz)∧(8:Int)*(len_ c3 aK.bz)≤281474976710656∧(len_ c3 aK.bz)<9223372036854775808 then
 sb aK >>= fun bq =>
 HD b3 bq (len_ et bq) 0 (List.replicate (len_ c3 aK.bz).toNat (none:(Option bj)):List (Option bj)) >>= fun aw =>
 some aw
 else none
theorem Vq {aK:b4}{b3:List (Option bj)}:bV (zS aK b3) (fun r=>Con bt 59 [.eh 2 [(gf aK)] 0 0,.isl 1 (b3.map (bM 3 aS))] [] (.isl 1 (r.map (bM 3 aS))) []):=by
 unfold zS
 exact .bn fun o =>
  .ay fun bq af =>
  .ay fun aw aJ =>
  .ret (let bg:=len_ c3 aK.bz;let aL:=(List.replicate bg.toNat (none:(Option bj)):List (Option bj));bY [(ad 1),.aI (bL 5 (.cz [(d9 3 aS (none:(Option bj)))]) 1),.aI (bL 1 (bC 1 (.isl 2 (bq.map et)) false) 2),.bm [6] [.dY (au 1 (bM 3 aS) aL)] [(1,ii),(5,gz (aL.length)),(16,ii),(17,ii),(18,ii)],(Hk b3 bq (len_ et bq) aw).gL,(ad 2)] (.bo o.1 (Int.le_refl bg) o.2.1 o.2.2 (xf bq af) (eB 1 .live (kr (bM 3 aS) bg.toNat (none:(Option bj)))) (aD 1 .live (iC (sz:=3) hM) aL) (kI bg.toNat ((none:(Option bj)):(Option bj))) (.dh (UT aJ) (ki (bM 3 aS) aw) (jw (bM 3 aS) aw) (fs (iC (sz:=3) hM) aw))) (.bE (.ck (.gv (aw.map (bM 3 aS))))))
def uN (aK:b4)(jf jc:Int)(dn b6 dl:List Int):Option ((List (Option bj))×(List (Option bj))×Bool) :=
 sg jf jc dn b6 dl >>= fun ae =>
 if (ae.1 != (0:Int))=true then
  some (([]:List (Option bj)),([]:List (Option bj)),false)
 else
  sb aK >>= fun aw =>
  if 0≤(len_ et aw) then
  if 0≤(len_ et aw).toNat∧(len_ et aw).toNat≤ae.2.1.length then
  zS aK ((ae.2.1.drop 0).take ((len_ et aw).toNat-0)) >>= fun ea =>
  if (len_ et aw).toNat≤ae.2.1.length then
  some (ea,(ae.2.1.drop ((len_ et aw).toNat)).take ((ae.2.1.map (bM 3 aS)).length-(len_ et aw).toNat),true)
  else none
  else none
  else none
theorem UM {aK:b4}{jf jc:Int}{dn b6 dl:List Int}:bV (uN aK jf jc dn b6 dl) (fun a=>Con bt 25 [.eh 2 [(gf aK)] 0 0,.agg (eJ jf jc 0 0 0 dn.length 1 0 0 b6.length 2 0 0 dl.length)] [(au 1 I dn),(au 1 I b6),(au 1 I dl)] (.cY [.isl 1 (a.1.map (bM 3 aS)),.isl 1 (a.2.1.map (bM 3 aS)),.b a.2.2]) [(au 1 I dn),(au 1 I b6),(au 1 I dl)]):=by
 unfold uN
 exact .ay fun ae J =>
  (let b1:=eJ jf jc 1 0 0 dn.length 2 0 0 b6.length 3 0 0 dl.length;let cI:=eJ jf jc 0 0 0 dn.length 1 0 0 b6.length 2 0 0 dl.length;let t1:List cG:=[(ad 4),.aI (aq (.call {aO:=(ln [3,0,1,2]),cu:=[.bB [ab.mk 5 [b1] .live],.pure,.pure,.pure],ac:=[ii],r:= .cY [.n .i64 ae.1,.isl 1 (ae.2.1.map (bM 3 aS)),d9 3 aS ae.2.2],dg:=[[ab.mk 5 [b1] .live],(au 1 I dn),(au 1 I b6),(au 1 I dl)],eL:=ii,fq:=[.bB [ab.mk 5 [cI] .live],.pure,.pure,.pure],dZ:=[0,1,2,3],dr:=false}) (av 7 [])),(ad 2)];
  have a5:=((.bo (hr (nE [3,0,1,2]) 5 [b1] [cI] rfl) (hi 5 [cI]) (du 1 aA dn) (du 1 aA b6) (du 1 aA dl) (hr (hR [3,0,1,2]) 5 [cI] [b1] rfl) (hi 5 [b1]) (du 1 aA dn) (.cd (du 1 aA b6) (du 1 aA dl) (z0 ae J))):cW _);
  .ite (fun af =>
  .ret (h2 (t1.append [.ap true,(ad 3)]) [0,1,2] [.pure,.pure,.pure] (a5.a1 (.dh af (aD 1 .live aA dn) (aD 1 .live aA b6) (aD 1 .live aA dl))) (.comp [.ck (.hh 1),.ck (.hh 1),.ck .id])))
  (fun af =>
  .ay fun aw aJ =>
  .bn fun bp =>
  .bn fun bJ =>
  .ay fun ea c9 =>
  .bn fun da =>
  .ret (let aL:=len_ et aw;let bg:=ej (bM 3 aS) ae.2.1;h2 (t1.append [.ap false,.aI (bL 1 (bC 1 (.isl 2 (aw.map et)) false) 2),.aI (bL 4 (.call {ac:=[ii,.bE (.ck (.dY (.isl 1 (((ae.2.1.drop 0).take (aL.toNat-0)).map (bM 3 aS)))))],r:= .isl 1 (ea.map (bM 3 aS)),dr:=false}) 6)]) [0,1,2] [.pure,.pure,.pure] (a5.a1 (.bo af (xf aw aJ) bp bJ.1 (s3 bg bJ.2) (congrArg (aB.isl 1) (oM bg 0 (aL.toNat-0)):(.isl 1 (((ae.2.1.map (bM 3 aS)).drop 0).take (aL.toNat-0)):aB) = .isl 1 (((ae.2.1.drop 0).take (aL.toNat-0)).map (bM 3 aS))) (Vq ea c9) bp (.fG (Q7 bg▸da:aL.toNat≤(ae.2.1.map (bM 3 aS)).length) (Nat.le_refl ((ae.2.1.map (bM 3 aS)).length)) (aD 1 .live aA dn) (aD 1 .live aA b6) (aD 1 .live aA dl) (congrArg (aB.isl 1) (oM bg (aL.toNat) ((ae.2.1.map (bM 3 aS)).length-aL.toNat)):(.isl 1 (((ae.2.1.map (bM 3 aS)).drop (aL.toNat)).take ((ae.2.1.map (bM 3 aS)).length-aL.toNat)):aB) = .isl 1 (((ae.2.1.drop (aL.toNat)).take ((ae.2.1.map (bM 3 aS)).length-aL.toNat)).map (bM 3 aS)))))) (.comp [.ck .id,.ck (.dY (.isl 1 (((ae.2.1.drop (aL.toNat)).take ((ae.2.1.map (bM 3 aS)).length-aL.toNat)).map (bM 3 aS)))),.ck .id]))))
def xP (aK:b4)(cH:List Int):Option ((List ep)×Bool) :=
 tO aK cH >>= fun ae =>
 if ae=true then
  sK aK cH 0 0 >>= fun aw =>
  uN aK aw.1 aw.2.1 aw.2.2.1 aw.2.2.2.1 aw.2.2.2.2 >>= fun bI =>
  if bI.2.2=true then
   va bI.1 >>= fun ba =>
   some (ba.1,ba.2)
  else
   some (([]:List ep),false)
 else
  some (([]:List ep),false)
theorem VO {aK:b4}{cH:List Int}:bV (xP aK cH) (fun r=>Con bt 14 [.agg (gf aK),.isl 1 (cH.map I)] [] (.cY [.isl 3 (r.1.map eE),.b r.2]) []):=by
 unfold xP
 exact .ay fun ae J =>
  (let t1:List cG:=[(ad 3),.aI (bL 2 (bC 2 (.b ae) true) 1)];
  have a5:=((.aH (DH ae J) (cl.b ae)):cW _);
  .ite (fun af =>
  .ay fun aw aJ =>
  .ay fun bI bJ =>
  (let aL:=du 1 aA aw.2.2.2.1;let bg:=du 1 aA aw.2.2.2.2;let b1:=du 1 aA aw.2.2.1;let t3:List cG:=t1.append [.ap false,.h9 0,.aI (av 1 (aq (.call {aO:=[],cu:=[],ac:=[.bE (.ptr [.id,.id]),ii,ii,ii],r:= .agg (eJ aw.1 aw.2.1 0 0 0 aw.2.2.1.length 0 1 0 aw.2.2.2.1.length 0 2 0 aw.2.2.2.2.length),dg:=[[ab.mk 1 (aw.2.2.1.map I) .live,ab.mk 1 (aw.2.2.2.1.map I) .live,ab.mk 1 (aw.2.2.2.2.map I) .live]],eL:= .bE (.agg [.id,.id,.id,.id,.id]),fq:=[.bB [ab.mk 1 (aw.2.2.1.map I) .live,ab.mk 1 (aw.2.2.2.1.map I) .live,ab.mk 1 (aw.2.2.2.2.map I) .live]],dZ:=[0],dr:=true}) (aq (.call {aO:=[.ah 8 0 (ab.mk 1 (aw.2.2.1.map I) .live),.ah 8 1 (ab.mk 1 (aw.2.2.2.1.map I) .live),.ah 8 2 (ab.mk 1 (aw.2.2.2.2.map I) .live)],cu:=[.pure,.pure,.pure],ac:=[.bE (.ptr [.id,.id]),.bE (.agg [.id,.id,.at_ 0 0 aw.2.2.1.length,.at_ 1 0 aw.2.2.2.1.length,.at_ 2 0 aw.2.2.2.2.length])],r:= .cY [.isl 1 (bI.1.map (bM 3 aS)),.isl 1 (bI.2.1.map (bM 3 aS)),.b bI.2.2],dg:=[(au 1 I aw.2.2.1),(au 1 I aw.2.2.2.1),(au 1 I aw.2.2.2.2)],eL:=ii,fq:=[.pure,.pure,.pure],dZ:=[0,8],dr:=false}) (av 7 [])))),(ad 2)];
  have fI:=a5.a1 (.bo (d7 af) (j6 (m6 aK):g9 [(gf aK)]) (fL (gR (hR [8]) 1 ha aw.2.2.1) (fL (gR (hR [8]) 1 ha aw.2.2.2.1) (fL (gR (hR [8]) 1 ha aw.2.2.2.2) (l0 (cg:=(hR [8])))))) ((j4 rfl (j4 rfl (j4 rfl vl))):mQ [ab.mk 1 (aw.2.2.1.map I) .live,ab.mk 1 (aw.2.2.2.1.map I) .live,ab.mk 1 (aw.2.2.2.2.map I) .live]) (CP aw aJ) (cl.agg (jx (cl.n .i64 aw.1) (jx (cl.n .i64 aw.2.1) (jx (cl.bx 0 0 0 aw.2.2.1.length) (jx (cl.bx 0 1 0 aw.2.2.2.1.length) (jx (cl.bx 0 2 0 aw.2.2.2.2.length) t0)))))) ((tS (mO (mA mR) (mO (mA mR) (mO (mA mR) tW))) tV):qt [[ab.mk 1 (aw.2.2.1.map I) .live,ab.mk 1 (aw.2.2.2.1.map I) .live,ab.mk 1 (aw.2.2.2.2.map I) .live]]) (by decide:0≠1) (.bo (by decide:0≠2) (by decide:1≠2) (j6 (m6 aK):g9 [(gf aK)]) (rfl:ky [.ah 8 0 (ab.mk 1 (aw.2.2.1.map I) .live),.ah 8 1 (ab.mk 1 (aw.2.2.2.1.map I) .live),.ah 8 2 (ab.mk 1 (aw.2.2.2.2.map I) .live)] 0 0=some (8,0)) (rfl:aw.2.2.1.length=aw.2.2.1.length) (rfl:ky [.ah 8 0 (ab.mk 1 (aw.2.2.1.map I) .live),.ah 8 1 (ab.mk 1 (aw.2.2.2.1.map I) .live),.ah 8 2 (ab.mk 1 (aw.2.2.2.2.map I) .live)] 1 0=some (8,1)) (rfl:aw.2.2.2.1.length=aw.2.2.2.1.length) (rfl:ky [.ah 8 0 (ab.mk 1 (aw.2.2.1.map I) .live),.ah 8 1 (ab.mk 1 (aw.2.2.2.1.map I) .live),.ah 8 2 (ab.mk 1 (aw.2.2.2.2.map I) .live)] 2 0=some (8,2)) (.bo (rfl:aw.2.2.2.2.length=aw.2.2.2.2.length) (rfl:de (some [ab.mk 1 (aw.2.2.1.map I) .live,ab.mk 1 (aw.2.2.2.1.map I) .live,ab.mk 1 (aw.2.2.2.2.map I) .live]) 0=some (ab.mk 1 (aw.2.2.1.map I) .live)) b1 (rfl:de (some [ab.mk 1 (aw.2.2.1.map I) .live,ab.mk 1 (aw.2.2.2.1.map I) .live,ab.mk 1 (aw.2.2.2.2.map I) .live]) 1=some (ab.mk 1 (aw.2.2.2.1.map I) .live)) aL (rfl:de (some [ab.mk 1 (aw.2.2.1.map I) .live,ab.mk 1 (aw.2.2.2.1.map I) .live,ab.mk 1 (aw.2.2.2.2.map I) .live]) 2=some (ab.mk 1 (aw.2.2.2.2.map I) .live)) bg b1 (.cd aL bg (UM bI bJ)))));
  .ite (fun bu =>
  .ay fun ba da =>
  .ret (bY (t3.append [.ap false,.aI (bL 1 (bC 1 (.cY [.isl 3 (ba.1.map eE),.b ba.2]) false) 4)]) (fI.a1 (.aH (d7 bu) (Jf ba da)))))
  (fun bu =>
  .ret (bY (t3.append [.ap true,(ad 2)]) (fI.a1 (.aC (ee bu))) (.comp [.ck (.hh 3),.ck .id])))))
  (fun af =>
  .ret (bY (t1.append [.ap true,(ad 2)]) (a5.a1 (.aC (ee af))) (.comp [.ck (.hh 3),.ck .id]))))
def xU (dd:List ep):Option ((List (Option bj))×Bool) :=
 if (decide ((24:Int)<(len_ eE dd)))=true then
  some (([]:List (Option bj)),false)
 else
  ye dd >>= fun bq =>
  some (bq.1,bq.2)
theorem NJ {dd:List ep}:bV (xU dd) (fun r=>Con bt 106 [.isl 3 (dd.map eE)] [] (.cY [.isl 1 (r.1.map (bM 3 aS)),.b r.2]) []):=by
 unfold xU
 exact .ite (fun o =>
  .ret (bY [(ad 2),(ad 3),.ap true,(ad 2)] (.aC o) (.comp [.ck (.hh 1),.ck .id])))
  (fun o =>
  .ay fun bq af =>
  .ret (bY [(ad 2),(ad 3),.ap false,.aI (bL 1 (bC 1 (.cY [.isl 1 (bq.1.map (bM 3 aS)),.b bq.2]) false) 4)] (.aH o (Oi bq af))))
def G6 (b3 el:List (Option bj))(jO:Int):(Int×(List (Option bj)))→S:=fun (hb,ai)=>fh [(2,.fn 27 []),(8,.isl 1 (b3.map (bM 3 aS))),(10,.isl 1 (el.map (bM 3 aS))),(12,.bx 0 0 0 ai.length),(41,.n .i64 jO),(42,.n .i64 hb)] [(au 1 (bM 3 aS) ai)]
def Hh (b3 el:List (Option bj))(jO:Int):(List (Option bj))→fp
 | a=>⟨some 0,[(12,.bx 0 0 0 a.length)],[(au 1 (bM 3 aS) a)]⟩
def w8 (b3 el:List (Option bj))(jO hb:Int)(ai:List (Option bj)):Option ((Int×(List (Option bj)))⊕((List (Option bj)))) :=
 if (decide (hb<jO))=true then
  if 0≤hb∧hb<b3.length then
  b3[hb.toNat]? >>= fun aM =>
  if 0≤hb∧hb<el.length then
  el[hb.toNat]? >>= fun cy =>
  m9 aM cy >>= fun ea =>
  if 0≤hb∧hb<(ai.length:Nat) then
  if (0+hb.toNat)<ai.length then
  some (.inl (U (hb+(1:Int)),ai.set (0+hb.toNat) ea))
  else none
  else none
  else none
  else none
 else
  some (.inr ai)
def C6 (b3 el:List (Option bj))(jO hb:Int)(ai:List (Option bj)):Option ((List (Option bj))):=iter (fun w:Int×(List (Option bj))=>w8 b3 el jO w.1 w.2) (hb,ai)
theorem Uq {b3 el:List (Option bj)}{jO hb:Int}{ai:List (Option bj)}:bV (w8 b3 el jO hb ai) (fV bt 60 0 80 [1,1,1,1,1,0,1,0,0] (G6 b3 el jO (hb,ai)) (G6 b3 el jO) (Hh b3 el jO)):=by
 unfold w8
 exact .ite (fun o =>
  .bn fun J =>
  .ay fun aM aF =>
  .bn fun aJ =>
  .ay fun cy bJ =>
  .ay fun ea c9 =>
  .bn fun da =>
  .bn fun c8 =>
  .ret (bQ [(ad 1),.ap true,(ad 2),.aI (av 6 (aq (.cz ((bM 3 aS) aM)) (av 3 (aq (.cz ((bM 3 aS) cy)) (aq (bC 2 (d9 3 aS ea) false) (av 1 (aq .c4 []))))))),(ad 2),.bm [0] [.dY (au 1 (bM 3 aS) (ai.set (0+hb.toNat) ea))] [(2,ii),(8,ii),(10,ii),(12,gz ((ai.set (0+hb.toNat) ea).length)),(41,ii),(42,ii)]] (.bo o J.1 (eI (bM 3 aS) J.2) (cD (bM 3 aS) aF) aJ.1 (eI (bM 3 aS) aJ.2) (cD (bM 3 aS) bJ) (qL ea c9) (.fC da.1 da.2 (hB (bM 3 aS) c8) (g8 1) (eB 1 .live (gi (ej (bM 3 aS) ai) (0+hb.toNat) ea)) (aD 1 .live (iC (sz:=3) hM) (ai.set (0+hb.toNat) ea)) (hg (fP ai) (0+hb.toNat) ea)))))
  (fun o =>
  .ret (bQ [(ad 1),.ap false,.bm [0] [.pure] (bX [12])] (.aH o (aD 1 .live (iC (sz:=3) hM) ai))))
theorem UN {b3 el:List (Option bj)}{jO hb:Int}{ai:List (Option bj)}{r} (h:C6 b3 el jO hb ai=some r):fW bt 60 0 80 [1,1,1,1,1,0,1,0,0] (G6 b3 el jO) (Hh b3 el jO) (hb,ai) r:=fZ (fun _=>Uq) h
def Dc (a9 a8:List ep):Option ((List (Option bj))×Bool) :=
 xU a9 >>= fun ae =>
 xU a8 >>= fun bl =>
 if ae.2=true then
  if bl.2=true then
   if ((len_ (bM 3 aS) ae.1) != (len_ (bM 3 aS) bl.1))=true then
    some (([]:List (Option bj)),false)
   else
    if 0≤(len_ (bM 3 aS) ae.1)∧(8:Int)*(len_ (bM 3 aS) ae.1)≤281474976710656∧(len_ (bM 3 aS) ae.1)<9223372036854775808 then
    C6 ae.1 bl.1 (len_ (bM 3 aS) ae.1) 0 (List.replicate (len_ (bM 3 aS) ae.1).toNat (none:(Option bj)):List (Option bj)) >>= fun ba =>
    some (ba,true)
    else none
  else
   some (([]:List (Option bj)),false)
 else
  some (([]:List (Option bj)),false)
theorem Vj {a9 a8:List ep}:bV (Dc a9 a8) (fun r=>Con bt 80 [.isl 3 (a9.map eE),.isl 3 (a8.map eE),.fn 27 []] [] (.cY [.isl 1 (r.1.map (bM 3 aS)),.b r.2]) []):=by
 unfold Dc
 exact .ay fun ae J =>
  .ay fun bl aF =>
  (let t1:List cG:=[(ad 2),.aI (bL 1 (bC 1 (.cY [.isl 1 (ae.1.map (bM 3 aS)),.b ae.2]) false) 5),.aI (bL 1 (bC 1 (.cY [.isl 1 (bl.1.map (bM 3 aS)),.b bl.2]) false) 5)];
  have a5:=((.aH (NJ ae J) (NJ bl aF)):cW _);
  .ite (fun aJ =>
  (have gh:=a5.a1 (.cd (d7 aJ) (d7 aJ) (d7 aJ));
  .ite (fun bp =>
  (let t4:List cG:=t1.append [.aI (av 5 (aq (.ap false) (av 6 (aq (.ap false) []))))];
  have n8:=gh.a1 (.fG (d7 bp) (d7 bp) (d7 bp) (d7 bp) (d7 bp) (d7 bp));
  .ite (fun bJ =>
  .ret (bY (t4.append [.ap true,(ad 2)]) (n8.a1 (.aC bJ)) (.comp [.ck (.hh 1),.ck .id])))
  (fun bJ =>
  .bn fun bu =>
  .ay fun ba da =>
  .ret (let bg:=len_ (bM 3 aS) ae.1;let aL:=(List.replicate bg.toNat (none:(Option bj)):List (Option bj));bY (t4.append [.ap false,.aI (bL 2 (.cz [(d9 3 aS (none:(Option bj)))]) 1),(ad 3),.bm [31] [.dY (au 1 (bM 3 aS) aL)] [(2,ii),(8,ii),(10,ii),(12,gz (aL.length)),(41,ii),(42,ii)],(Hh ae.1 bl.1 bg ba).gL,(ad 3)]) (n8.a1 (.bo bJ bu.1 (Int.le_refl bg) bu.2.1 bu.2.2 (eB 1 .live (kr (bM 3 aS) bg.toNat (none:(Option bj)))) (aD 1 .live (iC (sz:=3) hM) aL) (kI bg.toNat ((none:(Option bj)):(Option bj))) (.dh (UN da) (ki (bM 3 aS) ba) (jw (bM 3 aS) ba) (fs (iC (sz:=3) hM) ba)))) (.comp [.ck (.gv (ba.map (bM 3 aS))),.ck .id])))))
  (fun bp =>
  .ret (bY (t1.append [.aI (av 5 (aq (.ap false) (av 1 (dm 5 (aq (.ap true) []))))),.ap true,(ad 2)]) (gh.a1 (.fC (ee bp) (ee bp) (ee bp) (ee bp) (ee bp) (ee bp) cV)) (.comp [.ck (.hh 1),.ck .id])))))
  (fun aJ =>
  .ret (bY (t1.append [.aI (av 3 (dm 2 (aq (.ap true) (av 1 (dm 5 (av 1 [])))))),.ap true,(ad 2)]) (a5.a1 (.bo (ee aJ) (ee aJ) (ee aJ) cV cV cV cV cV (.aC cV))) (.comp [.ck (.hh 1),.ck .id]))))
def DG (a9 a8:List ep):Option ((List ep)×Bool) :=
 Dc a9 a8 >>= fun ae =>
 if ae.2=true then
  va ae.1 >>= fun aw =>
  some (aw.1,aw.2)
 else
  some (([]:List ep),false)
theorem V6 {a9 a8:List ep}:bV (DG a9 a8) (fun r=>Con bt 46 [.isl 3 (a9.map eE),.isl 3 (a8.map eE)] [] (.cY [.isl 3 (r.1.map eE),.b r.2]) []):=by
 unfold DG
 exact .ay fun ae J =>
  (let t1:List cG:=[(ad 2),.aI (bL 2 (bC 3 (.cY [.isl 1 (ae.1.map (bM 3 aS)),.b ae.2]) false) 5),(ad 2)];
  have a5:=((.aC (Vj ae J)):cW _);
  .ite (fun af =>
  .ay fun aw aJ =>
  .ret (bY (t1.append [.ap false,.aI (bL 1 (bC 1 (.cY [.isl 3 (aw.1.map eE),.b aw.2]) false) 4)]) (a5.a1 (.aH (d7 af) (Jf aw aJ)))))
  (fun af =>
  .ret (bY (t1.append [.ap true,(ad 2)]) (a5.a1 (.aC (ee af))) (.comp [.ck (.hh 3),.ck .id]))))
def zY (a9 a8:List ep):Option ((List ep)×Bool) :=
 DG a9 a8 >>= fun ae =>
 some (ae.1,ae.2)
theorem VI {a9 a8:List ep}:bV (zY a9 a8) (fun r=>Con bt 16 [.isl 3 (a9.map eE),.isl 3 (a8.map eE)] [] (.cY [.isl 3 (r.1.map eE),.b r.2]) []):=by
 unfold zY
 exact .ay fun ae J =>
  .ret (bY [(ad 2),.aI (bL 2 (bC 2 (.cY [.isl 3 (ae.1.map eE),.b ae.2]) false) 4)] (.aC (V6 ae J)))
def xl (aK:b4)(cH:List Int):Option Bool :=
 sK aK cH 0 0 >>= fun ae =>
 u5 ae.1 ae.2.1 ae.2.2.1 ae.2.2.2.1 ae.2.2.2.2 >>= fun bl =>
 match bl with
 | .inl gM=>(some true)
 | .inr gM=>(some false)
theorem UU {aK:b4}{cH:List Int}:bV (xl aK cH) (fun r=>Con bt 78 [.eh 2 [(gf aK)] 0 0,.isl 1 (cH.map I)] [] (.b r) []):=by
 unfold xl
 exact .ay fun ae J =>
  .ay fun bl aF =>
  (let gC:=eJ ae.1 ae.2.1 1 0 0 ae.2.2.1.length 2 0 0 ae.2.2.2.1.length 3 0 0 ae.2.2.2.2.length;let hq:=di [4,3];let t1:List cG:=[(ad 1),.aI (bL 2 (.call {aO:=[],cu:=[],ac:=[ii,ii,ii,ii],r:= .agg (eJ ae.1 ae.2.1 0 0 0 ae.2.2.1.length 0 1 0 ae.2.2.2.1.length 0 2 0 ae.2.2.2.2.length),dg:=[[ab.mk 1 (ae.2.2.1.map I) .live,ab.mk 1 (ae.2.2.2.1.map I) .live,ab.mk 1 (ae.2.2.2.2.map I) .live]],eL:= .bE (.agg [.id,.id,.id,.id,.id]),fq:=[.bB [ab.mk 1 (ae.2.2.1.map I) .live,ab.mk 1 (ae.2.2.2.1.map I) .live,ab.mk 1 (ae.2.2.2.2.map I) .live]],dZ:=[],dr:=true}) 2),.bm [4,3] [.box [.id,.id,.id,.id,.id],.bB [ab.mk 1 (ae.2.2.1.map I) .live,ab.mk 1 (ae.2.2.2.1.map I) .live,ab.mk 1 (ae.2.2.2.2.map I) .live]] [(0,ii),(1,ii),(4,ii),(5,ii),(8,ii),(9,ii),(10,.bE (.agg [.id,.id,.id,.id,.id]))],.vZ [{c2:=some (0,0)},{bc:=[(1,0)]},{bc:=[(1,1)]},{bc:=[(1,2)]}] [([],some (.box [.id,.id,.at_ 1 0 ae.2.2.1.length,.at_ 2 0 ae.2.2.2.1.length,.at_ 3 0 ae.2.2.2.2.length])),([.pure],none),([.pure],none),([.pure],none)] [(0,ii),(1,ii),(4,ii),(5,ii),(8,ii),(9,ii),(10,.bE (.agg [.id,.id,.at_ 1 0 ae.2.2.1.length,.at_ 2 0 ae.2.2.2.1.length,.at_ 3 0 ae.2.2.2.2.length]))]];
  have a5:=((.bo (fL (gR (hR [3]) 1 ha ae.2.2.1) (fL (gR (hR [3]) 1 ha ae.2.2.2.1) (fL (gR (hR [3]) 1 ha ae.2.2.2.2) (l0 (cg:=(hR [3])))))) ((j4 rfl (j4 rfl (j4 rfl vl))):mQ [ab.mk 1 (ae.2.2.1.map I) .live,ab.mk 1 (ae.2.2.2.1.map I) .live,ab.mk 1 (ae.2.2.2.2.map I) .live]) (CP ae J) (cl.agg (jx (cl.n .i64 ae.1) (jx (cl.n .i64 ae.2.1) (jx (cl.bx 0 0 0 ae.2.2.1.length) (jx (cl.bx 0 1 0 ae.2.2.2.1.length) (jx (cl.bx 0 2 0 ae.2.2.2.2.length) t0)))))) ((tS (mO (mA mR) (mO (mA mR) (mO (mA mR) tW))) tV):qt [[ab.mk 1 (ae.2.2.1.map I) .live,ab.mk 1 (ae.2.2.2.1.map I) .live,ab.mk 1 (ae.2.2.2.2.map I) .live]]) (fL (gR hq 1 ha ae.2.2.1) (fL (gR hq 1 ha ae.2.2.2.1) (fL (gR hq 1 ha ae.2.2.2.2) (l0 (cg:=hq))))) (rfl:(ia [{c2:=some (0,0)},{bc:=[(1,0)]},{bc:=[(1,1)]},{bc:=[(1,2)]}]) 1 0=some (1,0)) (rfl:ae.2.2.1.length=ae.2.2.1.length) (.bo (rfl:(ia [{c2:=some (0,0)},{bc:=[(1,0)]},{bc:=[(1,1)]},{bc:=[(1,2)]}]) 2 0=some (1,1)) (rfl:ae.2.2.2.1.length=ae.2.2.2.1.length) (rfl:(ia [{c2:=some (0,0)},{bc:=[(1,0)]},{bc:=[(1,1)]},{bc:=[(1,2)]}]) 3 0=some (1,2)) (rfl:ae.2.2.2.2.length=ae.2.2.2.2.length) (aD 1 .live aA ae.2.2.1) (aD 1 .live aA ae.2.2.2.1) (aD 1 .live aA ae.2.2.2.2) (rfl:(ia [{c2:=some (0,0)},{bc:=[(1,0)]},{bc:=[(1,1)]},{bc:=[(1,2)]}]) 1 0=some (1,0)) (.bo (rfl:ae.2.2.1.length=ae.2.2.1.length) (rfl:(ia [{c2:=some (0,0)},{bc:=[(1,0)]},{bc:=[(1,1)]},{bc:=[(1,2)]}]) 2 0=some (1,1)) (rfl:ae.2.2.2.1.length=ae.2.2.2.1.length) (rfl:(ia [{c2:=some (0,0)},{bc:=[(1,0)]},{bc:=[(1,1)]},{bc:=[(1,2)]}]) 3 0=some (1,2)) (rfl:ae.2.2.2.2.length=ae.2.2.2.2.length) (hr (nE [0,1,2,3]) 5 [gC] [gC] rfl) (hi 5 [gC]) (du 1 aA ae.2.2.1) (.aH (du 1 aA ae.2.2.2.1) (du 1 aA ae.2.2.2.2))))):cW _);
  (by
  rcases bl with gM|gM
  ·exact (.ret (let aL:=eJ ae.1 ae.2.1 1 0 0 ae.2.2.1.length 2 0 0 ae.2.2.2.1.length 3 0 0 ae.2.2.2.2.length;let bg:=eX 4 1 0 gM.2.2.2.1.length gM.1 gM.2.1 4 2 0 gM.2.2.2.2.1.length gM.2.2.1 4 3 0 gM.2.2.2.2.2.1.length;let b1:=hR [0,1,2,3,4];let cI:=c7 2 aU gM.2.2.2.2.2.2;bY (t1.append [.aI (aq (.call {aO:=(ln [0,1,2,3]),cu:=[.bB [ab.mk 5 [aL] .live],.pure,.pure,.pure],ac:=[ii],r:= .cY [.ref 4 0 0 0,.b true],dg:=[[ab.mk 5 [aL] .live],(au 1 I ae.2.2.1),(au 1 I ae.2.2.2.1),(au 1 I ae.2.2.2.2),(ab.mk 6 [bg] .live::ab.mk 1 (gM.2.2.2.1.map (b2 4 4 2)) .live::ab.mk 1 (gM.2.2.2.2.1.map I) .live::ab.mk 1 (gM.2.2.2.2.2.1.map d6) .live::cI)],eL:= .comp [.ck .id,.ck .id],fq:=[.bB [ab.mk 5 [aL] .live],.pure,.pure,.pure,.bB (ab.mk 6 [bg] .live::ab.mk 1 (gM.2.2.2.1.map (b2 4 4 2)) .live::ab.mk 1 (gM.2.2.2.2.1.map I) .live::ab.mk 1 (gM.2.2.2.2.2.1.map d6) .live::cI)],dZ:=[0,1,2,3],dr:=false}) (av 5 [])),(ad 2)]) (a5.a1 (.h6 (hr b1 5 [aL] [aL] rfl) (hi 5 [aL]) (du 1 aA ae.2.2.1) (du 1 aA ae.2.2.2.1) (du 1 aA ae.2.2.2.2) (fL (show ab.mk 6 [(eX 4 1 0 gM.2.2.2.1.length gM.1 gM.2.1 4 2 0 gM.2.2.2.2.1.length gM.2.2.1 4 3 0 gM.2.2.2.2.2.1.length)] .live=kx (hR [0,1,2,3,4]) (ab.mk 6 [(eX 4 1 0 gM.2.2.2.1.length gM.1 gM.2.1 4 2 0 gM.2.2.2.2.1.length gM.2.2.1 4 3 0 gM.2.2.2.2.2.1.length)] .live) from rfl) (fL (zB b1 4 4 4 2 rfl gM.2.2.2.1) (fL (gR b1 1 ha gM.2.2.2.2.1) (fL (gR b1 1 Ba gM.2.2.2.2.2.1) (fx b1 2 eC gM.2.2.2.2.2.2))))) ((j4 rfl (j4 rfl (j4 rfl (j4 rfl (Ec (iX .live 2 aU gM.2.2.2.2.2.2)))))):mQ (ab.mk 6 [bg] .live::ab.mk 1 (gM.2.2.2.1.map (b2 4 4 2)) .live::ab.mk 1 (gM.2.2.2.2.1.map I) .live::ab.mk 1 (gM.2.2.2.2.2.1.map d6) .live::cI)) (xS (.inl gM) aF)))))
  ·exact (.ret (let eU:=eJ ae.1 ae.2.1 1 0 0 ae.2.2.1.length 2 0 0 ae.2.2.2.1.length 3 0 0 ae.2.2.2.2.length;bY (t1.append [.aI (aq (.call {aO:=(ln [0,1,2,3]),cu:=[.bB [ab.mk 5 [eU] .live],.pure,.pure,.pure],ac:=[ii],r:= .cY [.iw,.b false],dg:=[[ab.mk 5 [eU] .live],(au 1 I ae.2.2.1),(au 1 I ae.2.2.2.1),(au 1 I ae.2.2.2.2)],eL:=ii,fq:=[.bB [ab.mk 5 [eU] .live],.pure,.pure,.pure],dZ:=[0,1,2,3],dr:=false}) (av 5 [])),(ad 2)]) (a5.a1 (.fG (hr (hR [0,1,2,3]) 5 [eU] [eU] rfl) (hi 5 [eU]) (du 1 aA ae.2.2.1) (du 1 aA ae.2.2.2.1) (du 1 aA ae.2.2.2.2) (xS (.inr gM) aF)))))))
def DP (aK:b4)(cH:List Int):Option Bool :=
 tO aK cH >>= fun ae =>
 if ae=true then
  xl aK cH >>= fun aw =>
  some aw
 else
  some false
theorem Wr {aK:b4}{cH:List Int}:bV (DP aK cH) (fun r=>Con bt 42 [.agg (gf aK),.isl 1 (cH.map I)] [] (.b r) []):=by
 unfold DP
 exact .ay fun ae J =>
  (have cf:=((.aH (DH ae J) (cl.b ae)):cW _);
  .ite (fun af =>
  .ay fun aw aJ =>
  .ret (bY [(ad 2),.aI (av 2 (aq (bC 2 (.b ae) true) (av 2 (aq (.call {ac:=[.bE (.ptr [.id,.id]),ii],r:= .b aw,dr:=true,dZ:=[0]}) (aq (.ap true) (av 1 []))))))] (cf.a1 (.fG af af (j6 (m6 aK):g9 [(gf aK)]) (UU aw aJ) (cl.b aw) af))))
  (fun af =>
  .ret (bY [(ad 2),.aI (av 2 (aq (bC 2 (.b ae) true) (av 1 (dm 2 (aq (.ap false) (av 1 []))))))] (cf.a1 (.cd af af af)))))
def G7 (cc l1:Int)(cL:List ez)(cB aZ aN:Int)(ak aR:List Int):(Int×(List Int))→S:=fun (cw,an)=>fh [(1,.ref 0 0 0 0),(2,.n .i64 cc),(3,.n .i64 l1),(11,.isl 2 (cL.map et)),(12,.n .i64 cB),(13,.n .i64 cw)] [[ab.mk 5 [(eJ aZ aN 1 0 0 ak.length 2 0 0 aR.length 3 0 0 an.length)] .live],(au 1 I ak),(au 1 I aR),(au 1 I an)]
def Hi (cc l1:Int)(cL:List ez)(cB aZ aN:Int)(ak aR:List Int):(List Int)→fp
 | a=>⟨some 0,[],[[ab.mk 5 [(eJ aZ aN 1 0 0 ak.length 2 0 0 aR.length 3 0 0 a.length)] .live],(au 1 I ak),(au 1 I aR),(au 1 I a)]⟩
def w9 (cc l1:Int)(cL:List ez)(cB aZ aN:Int)(ak aR:List Int)(cw:Int)(an:List Int):Option ((Int×(List Int))⊕((List Int))) :=
 if (decide (cw<cB))=true then
  if 0≤cw∧cw<cL.length then
  cL[cw.toNat]? >>= fun aM =>
  if 0≤cw∧cw<(an.length:Nat) then
  if (0+cw.toNat)<an.length then
  if (aM.fj == cc)=true then
   if (0+cw.toNat)<(an.set (0+cw.toNat) 0).length then
   some (.inl (U (cw+(1:Int)),(an.set (0+cw.toNat) 0).set (0+cw.toNat) (U (l1*aM.og))))
   else none
  else
   some (.inl (U (cw+(1:Int)),an.set (0+cw.toNat) 0))
  else none
  else none
  else none
 else
  some (.inr an)
def Hw (cc l1:Int)(cL:List ez)(cB aZ aN:Int)(ak aR:List Int)(cw:Int)(an:List Int):Option ((List Int)):=iter (fun w:Int×(List Int)=>w9 cc l1 cL cB aZ aN ak aR w.1 w.2) (cw,an)
theorem Ur {cc l1:Int}{cL:List ez}{cB aZ aN:Int}{ak aR:List Int}{cw:Int}{an:List Int}:bV (w9 cc l1 cL cB aZ aN ak aR cw an) (fV bt 39 4 105 [1,0,0] (G7 cc l1 cL cB aZ aN ak aR (cw,an)) (G7 cc l1 cL cB aZ aN ak aR) (Hi cc l1 cL cB aZ aN ak aR)):=by
 unfold w9
 exact .ite (fun o =>
  .bn fun J =>
  .ay fun aM aF =>
  .bn fun aJ =>
  .bn fun bp =>
  (let t1:List cG:=[(ad 1),.ap true,.aI (bL 2 (.cz (et aM)) 3),.aI (av 6 (aq .c4 [])),(ad 4)];
  have a5:=((.h6 o J.1 (eI et J.2) (cD et aF) aJ.1 aJ.2 (hB I bp) (g8 1)):cW _);
  .ite (fun bJ =>
  .bn fun bu =>
  .ret (let aL:=U (l1*aM.og);bQ (t1.append [.ap true,.aI (av 10 (aq .c4 [])),(ad 2),.bm [0,1,2,3] [.box [.id,.id,.id,.id,.len (((an.set (0+cw.toNat) 0).set (0+cw.toNat) aL).length)],.pure,.pure,.dY (au 1 I ((an.set (0+cw.toNat) 0).set (0+cw.toNat) aL))] (bX [1,2,3,11,12,13])]) (a5.a1 (.bo bJ aJ.1 aJ.2 (EN (gi (ej I an) (0+cw.toNat) 0) bu) (g8 1) (hg (hg (fP an) (0+cw.toNat) 0) (0+cw.toNat) aL) (aD 1 .live aA ak) (aD 1 .live aA aR) (.aH (eB 1 .live (gi (gi (ej I an) (0+cw.toNat) 0) (0+cw.toNat) aL)) (aD 1 .live aA ((an.set (0+cw.toNat) 0).set (0+cw.toNat) aL)))))))
  (fun bJ =>
  .ret (bQ (t1.append [.ap false,(ad 2),.bm [0,1,2,3] [.box [.id,.id,.id,.id,.len ((an.set (0+cw.toNat) 0).length)],.pure,.pure,.dY (au 1 I (an.set (0+cw.toNat) 0))] (bX [1,2,3,11,12,13])]) (a5.a1 (.fG bJ (hg (fP an) (0+cw.toNat) 0) (aD 1 .live aA ak) (aD 1 .live aA aR) (eB 1 .live (gi (ej I an) (0+cw.toNat) 0)) (aD 1 .live aA (an.set (0+cw.toNat) 0))))))))
  (fun o =>
  .ret (bQ [(ad 1),.ap false,.bm [0,1,2,3] [.box [.id,.id,.id,.id,.id],.pure,.pure,.pure] []] (.dh o (aD 1 .live aA ak) (aD 1 .live aA aR) (aD 1 .live aA an))))
theorem UO {cc l1:Int}{cL:List ez}{cB aZ aN:Int}{ak aR:List Int}{cw:Int}{an:List Int}{r} (h:Hw cc l1 cL cB aZ aN ak aR cw an=some r):fW bt 39 4 105 [1,0,0] (G7 cc l1 cL cB aZ aN ak aR) (Hi cc l1 cL cB aZ aN ak aR) (cw,an) r:=fZ (fun _=>Ur) h
def uR (aK:b4)(cc l1 b5 cC:Int)(b6 dl dc:List Int):Option (List Int) :=
 sb aK >>= fun ae =>
 Hw cc l1 ae (len_ et ae) b5 cC b6 dl 0 dc >>= fun bl =>
 some bl
theorem Hx {aK:b4}{cc l1 b5 cC:Int}{b6 dl dc:List Int}:bV (uR aK cc l1 b5 cC b6 dl dc) (fun a=>Con bt 105 [.eh 2 [(gf aK)] 0 0,.ref 0 0 0 0,.n .i64 cc,.n .i64 l1] [[ab.mk 5 [(eJ b5 cC 1 0 0 b6.length 2 0 0 dl.length 3 0 0 dc.length)] .live],(au 1 I b6),(au 1 I dl),(au 1 I dc)] (.cY []) [[ab.mk 5 [(eJ b5 cC 1 0 0 b6.length 2 0 0 dl.length 3 0 0 a.length)] .live],(au 1 I b6),(au 1 I dl),(au 1 I a)]):=by
 unfold uR
 exact .ay fun ae J =>
  .ay fun bl aF =>
  .ret (let aL:=eJ b5 cC 1 0 0 b6.length 2 0 0 dl.length 3 0 0 bl.length;h2 [.aI (bL 1 (bC 1 (.isl 2 (ae.map et)) false) 2),.bm [0,1,2,3] [.box [.id,.id,.id,.id,.id],.pure,.pure,.pure] (bX [1,2,3,11,12,13]),(Hi cc l1 ae (len_ et ae) b5 cC b6 dl bl).gL] [0,1,2,3] [.bB [ab.mk 5 [aL] .live],.pure,.pure,.pure] (.bo (xf ae J) (aD 1 .live aA b6) (aD 1 .live aA dl) (aD 1 .live aA dc) (UO aF) (hr (di [0,1,2,3]) 5 [aL] [aL] rfl) (aD 1 .live aA b6) (aD 1 .live aA dl) (.aC (aD 1 .live aA bl))))
def zM (aK:b4)(cc jf jc:Int)(dn b6 dl:List Int):Option (Bool×(List Int)×(List Int)×Bool×(List Int)×(List Int)×Bool×Bool×Bool×(List Int)) :=
 uR aK cc 1 jf jc dn b6 dl >>= fun ae =>
 sg jf jc dn b6 ae >>= fun bl =>
 if (bl.1 == (2:Int))=true then
  some (false,([]:List Int),([]:List Int),false,([]:List Int),([]:List Int),false,false,false,ae)
 else
  if (bl.1 == (3:Int))=true then
   rv 0 >>= fun bZ =>
   uR aK cc (-1) jf jc dn b6 ae >>= fun ba =>
   sg jf jc dn b6 ba >>= fun cE =>
   if (cE.1 == (3:Int))=true then
    some (bZ.ik.db,bZ.ik.cN,bZ.iy,bZ.ik.db,bZ.ik.cN,bZ.iy,true,true,true,ba)
   else
    vn cE.2.2 >>= fun fz =>
    sm fz >>= fun df =>
    sT df >>= fun eK =>
    some (eK.ik.db,eK.ik.cN,eK.iy,bZ.ik.db,bZ.ik.cN,bZ.iy,false,true,true,ba)
  else
   sm bl.2.2 >>= fun bZ =>
   sT bZ >>= fun ba =>
   uR aK cc (-1) jf jc dn b6 ae >>= fun cE =>
   sg jf jc dn b6 cE >>= fun ed =>
   if (ed.1 == (3:Int))=true then
    rv 0 >>= fun df =>
    some (df.ik.db,df.ik.cN,df.iy,ba.ik.db,ba.ik.cN,ba.iy,true,false,true,cE)
   else
    vn ed.2.2 >>= fun df =>
    sm df >>= fun eK =>
    sT eK >>= fun iJ =>
    some (iJ.ik.db,iJ.ik.cN,iJ.iy,ba.ik.db,ba.ik.cN,ba.iy,false,false,true,cE)
theorem UP {aK:b4}{cc jf jc:Int}{dn b6 dl:List Int}:bV (zM aK cc jf jc dn b6 dl) (fun a=>Con bt 79 [.eh 2 [(gf aK)] 0 0,.agg (eJ jf jc 0 0 0 dn.length 1 0 0 b6.length 2 0 0 dl.length),.n .i64 cc] [(au 1 I dn),(au 1 I b6),(au 1 I dl)] (.cY [.agg [.b a.1,.isl 1 (a.2.1.map I),.isl 1 (a.2.2.1.map I),.b a.2.2.2.1,.isl 1 (a.2.2.2.2.1.map I),.isl 1 (a.2.2.2.2.2.1.map I),.b a.2.2.2.2.2.2.1,.b a.2.2.2.2.2.2.2.1],.b a.2.2.2.2.2.2.2.2.1]) [(au 1 I dn),(au 1 I b6),(au 1 I a.2.2.2.2.2.2.2.2.2)]):=by
 unfold zM
 exact .ay fun ae J =>
  .ay fun bl aF =>
  (let oD:=eJ jf jc 1 0 0 dn.length 2 0 0 b6.length 3 0 0 ae.length;let nw:=eJ jf jc 0 0 0 dn.length 1 0 0 b6.length 2 0 0 ae.length;let kk:=eJ jf jc 1 0 0 dn.length 2 0 0 b6.length 3 0 0 dl.length;let rh:=eJ jf jc 0 0 0 dn.length 1 0 0 b6.length 2 0 0 dl.length;let sE:=hr (hR [3,0,1,2]) 5 [nw] [oD] rfl;let sF:=du 1 aA dn;let qz:=du 1 aA b6;let ri:=du 1 aA ae;let t1:List cG:=[(ad 3),(ad 1),.aI (av 2 (aq (.call {aO:=(ln [3,0,1,2]),cu:=[.bB [ab.mk 5 [kk] .live],.pure,.pure,.pure],ac:=[ii,ii,ii,ii],r:= .cY [],dg:=[[ab.mk 5 [oD] .live],(au 1 I dn),(au 1 I b6),(au 1 I ae)],eL:=ii,fq:=[.bB [ab.mk 5 [nw] .live],.pure,.pure,.pure],dZ:=[0,1,2,3],dr:=false}) [])),.aI (aq (.call {aO:=(ln [3,0,1,2]),cu:=[.bB [ab.mk 5 [oD] .live],.pure,.pure,.pure],ac:=[ii],r:= .cY [.n .i64 bl.1,.isl 1 (bl.2.1.map (bM 3 aS)),d9 3 aS bl.2.2],dg:=[[ab.mk 5 [oD] .live],(au 1 I dn),(au 1 I b6),(au 1 I ae)],eL:=ii,fq:=[.bB [ab.mk 5 [nw] .live],.pure,.pure,.pure],dZ:=[0,1,2,3],dr:=false}) (av 7 [])),(ad 1),(ad 2)];
  have a5:=((.bo (hr (nE [3,0,1,2]) 5 [kk] [rh] rfl) (hi 5 [rh]) sF qz (du 1 aA dl) sE (hi 5 [oD]) sF (.bo qz ri (Hx ae J) (hr (nE [3,0,1,2]) 5 [oD] [nw] rfl) (hi 5 [nw]) sF qz ri (.fG sE (hi 5 [oD]) sF qz ri (z0 bl aF)))):cW _);
  .ite (fun aJ =>
  .ret (h2 (t1.append [.ap true,(ad 3)]) [0,1,2] [.pure,.pure,.pure] (a5.a1 (.dh aJ (aD 1 .live aA dn) (aD 1 .live aA b6) (aD 1 .live aA ae))) (.comp [.agg [.id,.hh 1,.hh 1,.id,.hh 1,.hh 1,.id,.id],.ck .id])))
  (fun aJ =>
  .ite (fun bp =>
  .ay fun bZ bu =>
  .ay fun ba da =>
  .ay fun cE eF =>
  (let aL:=eJ jf jc 1 0 0 dn.length 2 0 0 b6.length 3 0 0 ba.length;let bg:=eJ jf jc 0 0 0 dn.length 1 0 0 b6.length 2 0 0 ba.length;let b1:=eJ jf jc 1 0 0 dn.length 2 0 0 b6.length 3 0 0 ae.length;let cI:=eJ jf jc 0 0 0 dn.length 1 0 0 b6.length 2 0 0 ae.length;let eU:=hr (hR [3,0,1,2]) 5 [bg] [aL] rfl;let gC:=du 1 aA dn;let hq:=du 1 aA b6;let fY:=du 1 aA ba;let t3:List cG:=t1.append [.ap false,(ad 2),.ap true,.aI (aq (bC 1 (.agg (eE bZ)) false) (av 4 [])),.aI (av 2 (aq (.call {aO:=(ln [3,0,1,2]),cu:=[.bB [ab.mk 5 [b1] .live],.pure,.pure,.pure],ac:=[ii,ii,ii,ii],r:= .cY [],dg:=[[ab.mk 5 [aL] .live],(au 1 I dn),(au 1 I b6),(au 1 I ba)],eL:=ii,fq:=[.bB [ab.mk 5 [bg] .live],.pure,.pure,.pure],dZ:=[0,1,2,3],dr:=false}) [])),.aI (aq (.call {aO:=(ln [3,0,1,2]),cu:=[.bB [ab.mk 5 [aL] .live],.pure,.pure,.pure],ac:=[ii],r:= .cY [.n .i64 cE.1,.isl 1 (cE.2.1.map (bM 3 aS)),d9 3 aS cE.2.2],dg:=[[ab.mk 5 [aL] .live],(au 1 I dn),(au 1 I b6),(au 1 I ba)],eL:=ii,fq:=[.bB [ab.mk 5 [bg] .live],.pure,.pure,.pure],dZ:=[0,1,2,3],dr:=false}) (av 6 [])),(ad 2)];
  have fI:=a5.a1 (.bo aJ bp (xK bZ bu) (hr (nE [3,0,1,2]) 5 [b1] [cI] rfl) (hi 5 [cI]) gC hq (du 1 aA ae) (.bo eU (hi 5 [aL]) gC hq fY (Hx ba da) (hr (nE [3,0,1,2]) 5 [aL] [bg] rfl) (hi 5 [bg]) (.bo gC hq fY eU (hi 5 [aL]) gC hq fY (.aC (z0 cE eF)))));
  .ite (fun d4 =>
  .ret (h2 (t3.append [.ap true,.aI (aq (bC 1 (.agg (eE bZ)) false) (av 4 [])),(ad 3)]) [0,1,2] [.pure,.pure,.pure] (fI.a1 (.eR d4 (xK bZ bu) (aD 1 .live aA dn) (aD 1 .live aA b6) (aD 1 .live aA ba)))))
  (fun d4 =>
  .ay fun fz gK =>
  .ay fun df g7 =>
  .ay fun eK j0 =>
  .ret (h2 (t3.append [.ap false,.aI (av 1 (aq (bC 1 (d9 3 aS fz) false) (aq (bC 1 (d9 3 aS df) false) (aq (bC 1 (.agg (eE eK)) false) (av 2 []))))),(ad 3)]) [0,1,2] [.pure,.pure,.pure] (fI.a1 (.fC d4 (D0 fz gK) (Am df g7) (z6 eK j0) (aD 1 .live aA dn) (aD 1 .live aA b6) (aD 1 .live aA ba)))))))
  (fun bp =>
  .ay fun bZ bu =>
  .ay fun ba da =>
  .ay fun cE eF =>
  .ay fun ed d8 =>
  (let ic:=eJ jf jc 1 0 0 dn.length 2 0 0 b6.length 3 0 0 cE.length;let jh:=eJ jf jc 0 0 0 dn.length 1 0 0 b6.length 2 0 0 cE.length;let k7:=eJ jf jc 1 0 0 dn.length 2 0 0 b6.length 3 0 0 ae.length;let k8:=eJ jf jc 0 0 0 dn.length 1 0 0 b6.length 2 0 0 ae.length;let nu:=hr (hR [3,0,1,2]) 5 [jh] [ic] rfl;let nv:=du 1 aA dn;let mf:=du 1 aA b6;let p3:=du 1 aA cE;let t3:List cG:=t1.append [.ap false,(ad 2),.ap false,.aI (av 1 (aq (bC 1 (d9 3 aS bZ) false) (aq (bC 1 (.agg (eE ba)) false) (av 2 [])))),.aI (av 2 (aq (.call {aO:=(ln [3,0,1,2]),cu:=[.bB [ab.mk 5 [k7] .live],.pure,.pure,.pure],ac:=[ii,ii,ii,ii],r:= .cY [],dg:=[[ab.mk 5 [ic] .live],(au 1 I dn),(au 1 I b6),(au 1 I cE)],eL:=ii,fq:=[.bB [ab.mk 5 [jh] .live],.pure,.pure,.pure],dZ:=[0,1,2,3],dr:=false}) [])),.aI (aq (.call {aO:=(ln [3,0,1,2]),cu:=[.bB [ab.mk 5 [ic] .live],.pure,.pure,.pure],ac:=[ii],r:= .cY [.n .i64 ed.1,.isl 1 (ed.2.1.map (bM 3 aS)),d9 3 aS ed.2.2],dg:=[[ab.mk 5 [ic] .live],(au 1 I dn),(au 1 I b6),(au 1 I cE)],eL:=ii,fq:=[.bB [ab.mk 5 [jh] .live],.pure,.pure,.pure],dZ:=[0,1,2,3],dr:=false}) (av 6 [])),(ad 2)];
  have fI:=a5.a1 (.bo aJ bp (Am bZ bu) (z6 ba da) (hr (nE [3,0,1,2]) 5 [k7] [k8] rfl) (hi 5 [k8]) nv mf (.bo (du 1 aA ae) nu (hi 5 [ic]) nv mf p3 (Hx cE eF) (hr (nE [3,0,1,2]) 5 [ic] [jh] rfl) (.bo (hi 5 [jh]) nv mf p3 nu (hi 5 [ic]) nv mf (.aH p3 (z0 ed d8)))));
  .ite (fun gK =>
  .ay fun df g7 =>
  .ret (h2 (t3.append [.ap true,.aI (aq (bC 1 (.agg (eE df)) false) (av 4 [])),(ad 3)]) [0,1,2] [.pure,.pure,.pure] (fI.a1 (.eR gK (xK df g7) (aD 1 .live aA dn) (aD 1 .live aA b6) (aD 1 .live aA cE)))))
  (fun gK =>
  .ay fun df g7 =>
  .ay fun eK j0 =>
  .ay fun iJ jS =>
  .ret (h2 (t3.append [.ap false,.aI (av 1 (aq (bC 1 (d9 3 aS df) false) (aq (bC 1 (d9 3 aS eK) false) (aq (bC 1 (.agg (eE iJ)) false) (av 2 []))))),(ad 3)]) [0,1,2] [.pure,.pure,.pure] (fI.a1 (.fC gK (D0 df g7) (Am eK j0) (z6 iJ jS) (aD 1 .live aA dn) (aD 1 .live aA b6) (aD 1 .live aA cE)))))))))
def Ag (aK:b4)(cH:List Int)(cc:Int):Option (yS×Bool) :=
 tO aK cH >>= fun ae =>
 if ae=true then
  if (decide (cc<(0:Int)))=true then
   some ((⟨(⟨(⟨false,([]:List Int)⟩:bf),([]:List Int)⟩:ep),(⟨(⟨false,([]:List Int)⟩:bf),([]:List Int)⟩:ep),false,false⟩:yS),false)
  else
   if (decide ((len_ c3 aK.bz)≤cc))=true then
    some ((⟨(⟨(⟨false,([]:List Int)⟩:bf),([]:List Int)⟩:ep),(⟨(⟨false,([]:List Int)⟩:bf),([]:List Int)⟩:ep),false,false⟩:yS),false)
   else
    sK aK cH 0 0 >>= fun bI =>
    zM aK cc bI.1 bI.2.1 bI.2.2.1 bI.2.2.2.1 bI.2.2.2.2 >>= fun ea =>
    if bI.2.2.2.2.length=ea.2.2.2.2.2.2.2.2.2.length then
    some ((⟨(⟨(⟨ea.1,ea.2.1⟩:bf),ea.2.2.1⟩:ep),(⟨(⟨ea.2.2.2.1,ea.2.2.2.2.1⟩:bf),ea.2.2.2.2.2.1⟩:ep),ea.2.2.2.2.2.2.1,ea.2.2.2.2.2.2.2.1⟩:yS),ea.2.2.2.2.2.2.2.2.1)
    else none
 else
  some ((⟨(⟨(⟨false,([]:List Int)⟩:bf),([]:List Int)⟩:ep),(⟨(⟨false,([]:List Int)⟩:bf),([]:List Int)⟩:ep),false,false⟩:yS),false)
theorem N2 {aK:b4}{cH:List Int}{cc:Int}:bV (Ag aK cH cc) (fun r=>Con bt 44 [.agg (gf aK),.isl 1 (cH.map I),.n .i64 cc] [] (.cY [.agg (yH r.1),.b r.2]) []):=by
 unfold Ag
 exact .ay fun ae J =>
  (have cf:=((.aH (DH ae J) (cl.b ae)):cW _);
  .ite (fun af =>
  (have a5:=cf.a1 (.cd (d7 af) (d7 af) (d7 af));
  .ite (fun aF =>
  .ret (bY [(ad 3),.aI (av 2 (aq (bC 2 (.b ae) true) (av 4 (aq (.ap false) (av 1 (dm 5 (aq (.ap true) []))))))),.ap true,(ad 3)] (a5.a1 (.fC aF aF aF aF aF aF cV)) (.comp [.agg [.id,.hh 1,.hh 1,.id,.hh 1,.hh 1,.id,.id],.ck .id])))
  (fun aF =>
  (let t3:List cG:=[(ad 3),.aI (av 2 (aq (bC 2 (.b ae) true) (av 4 (aq (.ap false) (av 6 (aq (.ap false) []))))))];
  .ite (fun aJ =>
  .ret (bY (t3.append [.ap true,(ad 3)]) (a5.a1 (.fC aF aF aF aF aF aF aJ)) (.comp [.agg [.id,.hh 1,.hh 1,.id,.hh 1,.hh 1,.id,.id],.ck .id])))
  (fun aJ =>
  .ay fun bI bJ =>
  .ay fun ea c9 =>
  .bn fun da =>
  .ret (let aL:=du 1 aA bI.2.2.2.1;let bg:=du 1 aA bI.2.2.1;bY (t3.append [.ap false,.h9 0,.aI (av 1 (aq (.call {aO:=[],cu:=[],ac:=[.bE (.ptr [.id,.id]),ii,ii,ii],r:= .agg (eJ bI.1 bI.2.1 0 0 0 bI.2.2.1.length 0 1 0 bI.2.2.2.1.length 0 2 0 bI.2.2.2.2.length),dg:=[[ab.mk 1 (bI.2.2.1.map I) .live,ab.mk 1 (bI.2.2.2.1.map I) .live,ab.mk 1 (bI.2.2.2.2.map I) .live]],eL:= .bE (.agg [.id,.id,.id,.id,.id]),fq:=[.bB [ab.mk 1 (bI.2.2.1.map I) .live,ab.mk 1 (bI.2.2.2.1.map I) .live,ab.mk 1 (bI.2.2.2.2.map I) .live]],dZ:=[0],dr:=true}) (bL 1 (.call {aO:=[.ah 19 0 (ab.mk 1 (bI.2.2.1.map I) .live),.ah 19 1 (ab.mk 1 (bI.2.2.2.1.map I) .live),.ah 19 2 (ab.mk 1 (bI.2.2.2.2.map I) .live)],cu:=[.pure,.pure,.pure],ac:=[.bE (.ptr [.id,.id]),.bE (.agg [.id,.id,.at_ 0 0 bI.2.2.1.length,.at_ 1 0 bI.2.2.2.1.length,.at_ 2 0 bI.2.2.2.2.length]),ii],r:= .cY [.agg [.b ea.1,.isl 1 (ea.2.1.map I),.isl 1 (ea.2.2.1.map I),.b ea.2.2.2.1,.isl 1 (ea.2.2.2.2.1.map I),.isl 1 (ea.2.2.2.2.2.1.map I),.b ea.2.2.2.2.2.2.1,.b ea.2.2.2.2.2.2.2.1],.b ea.2.2.2.2.2.2.2.2.1],dg:=[(au 1 I bI.2.2.1),(au 1 I bI.2.2.2.1),(au 1 I ea.2.2.2.2.2.2.2.2.2)],eL:=ii,fq:=[.pure,.pure,.pure],dZ:=[0,19],dr:=false}) 4)))]) (a5.a1 (.bo aF aF aF aF aF aF aJ (j6 (m6 aK):g9 [(gf aK)]) (.bo (fL (gR (hR [19]) 1 ha bI.2.2.1) (fL (gR (hR [19]) 1 ha bI.2.2.2.1) (fL (gR (hR [19]) 1 ha bI.2.2.2.2) (l0 (cg:=(hR [19])))))) ((j4 rfl (j4 rfl (j4 rfl vl))):mQ [ab.mk 1 (bI.2.2.1.map I) .live,ab.mk 1 (bI.2.2.2.1.map I) .live,ab.mk 1 (bI.2.2.2.2.map I) .live]) (CP bI bJ) (cl.agg (jx (cl.n .i64 bI.1) (jx (cl.n .i64 bI.2.1) (jx (cl.bx 0 0 0 bI.2.2.1.length) (jx (cl.bx 0 1 0 bI.2.2.2.1.length) (jx (cl.bx 0 2 0 bI.2.2.2.2.length) t0)))))) ((tS (mO (mA mR) (mO (mA mR) (mO (mA mR) tW))) tV):qt [[ab.mk 1 (bI.2.2.1.map I) .live,ab.mk 1 (bI.2.2.2.1.map I) .live,ab.mk 1 (bI.2.2.2.2.map I) .live]]) (by decide:0≠1) (by decide:0≠2) (by decide:1≠2) (.bo (j6 (m6 aK):g9 [(gf aK)]) (rfl:ky [.ah 19 0 (ab.mk 1 (bI.2.2.1.map I) .live),.ah 19 1 (ab.mk 1 (bI.2.2.2.1.map I) .live),.ah 19 2 (ab.mk 1 (bI.2.2.2.2.map I) .live)] 0 0=some (19,0)) (rfl:bI.2.2.1.length=bI.2.2.1.length) (rfl:ky [.ah 19 0 (ab.mk 1 (bI.2.2.1.map I) .live),.ah 19 1 (ab.mk 1 (bI.2.2.2.1.map I) .live),.ah 19 2 (ab.mk 1 (bI.2.2.2.2.map I) .live)] 1 0=some (19,1)) (rfl:bI.2.2.2.1.length=bI.2.2.2.1.length) (rfl:ky [.ah 19 0 (ab.mk 1 (bI.2.2.1.map I) .live),.ah 19 1 (ab.mk 1 (bI.2.2.2.1.map I) .live),.ah 19 2 (ab.mk 1 (bI.2.2.2.2.map I) .live)] 2 0=some (19,2)) (rfl:bI.2.2.2.2.length=bI.2.2.2.2.length) (rfl:de (some [ab.mk 1 (bI.2.2.1.map I) .live,ab.mk 1 (bI.2.2.2.1.map I) .live,ab.mk 1 (bI.2.2.2.2.map I) .live]) 0=some (ab.mk 1 (bI.2.2.1.map I) .live)) (.bo bg (rfl:de (some [ab.mk 1 (bI.2.2.1.map I) .live,ab.mk 1 (bI.2.2.2.1.map I) .live,ab.mk 1 (bI.2.2.2.2.map I) .live]) 1=some (ab.mk 1 (bI.2.2.2.1.map I) .live)) aL (rfl:de (some [ab.mk 1 (bI.2.2.1.map I) .live,ab.mk 1 (bI.2.2.2.1.map I) .live,ab.mk 1 (bI.2.2.2.2.map I) .live]) 2=some (ab.mk 1 (bI.2.2.2.2.map I) .live)) (du 1 aA bI.2.2.2.2) bg aL (du 1 aA ea.2.2.2.2.2.2.2.2.2) (.aC (UP ea c9)))))))))))))
  (fun af =>
  .ret (bY [(ad 3),.aI (av 2 (aq (bC 2 (.b ae) true) (av 2 (dm 2 (aq (.ap true) (av 1 (dm 5 (av 1 [])))))))),.ap true,(ad 3)] (cf.a1 (.bo (ee af) (ee af) (ee af) cV cV cV cV cV (.aC cV))) (.comp [.agg [.id,.hh 1,.hh 1,.id,.hh 1,.hh 1,.id,.id],.ck .id]))))
def DW (dq:ep):Option Int :=
 vf dq >>= fun ae =>
 ae.elim
 (some 0)
 fun oG =>
 sN ae >>= fun br =>
 some br
theorem WC {dq:ep}:bV (DW dq) (fun r=>Con bt 45 [.agg (eE dq)] [] (.n .i64 r) []):=by
 unfold DW
 exact .ay fun ae J =>
  (let t1:List cG:=[(ad 2),.aI (bL 1 (bC 1 (d9 3 aS ae) false) 1)];
  .k5 (fun af =>
  .ret (bY (t1.append [.aI (av 1 (aq (.fF 6 (.e8 3 none) .c4) [])),.ap true,(ad 1)]) (.cd (Ae ae J) (o1 (sz:=3) (f:=aS) af) cV)))
  (fun oG af =>
  .ay fun br bp =>
  .ret (bY (t1.append [.aI (av 1 (aq (.fF 6 (.e8 3 (some (aS oG))) .c4) [])),.ap false,.aI (bL 1 (bC 1 (.n .i64 br) true) 1)]) (.eR (Ae ae J) (jq (sz:=3) (f:=aS) af) fv (Dk br bp) (cl.n .i64 br)))))
def Ds (cc:Int)(ck:b4)(bE:List Int):Option Bool :=
 Ag ck bE cc >>= fun ae =>
 if ae.1.QB=true then
  some false
 else
  DW ae.1.E3 >>= fun aw =>
  some (decide (aw≤(0:Int)))
theorem VJ {cc:Int}{ck:b4}{bE:List Int}:bV (Ds cc ck bE) (fun r=>Con bt 43 [.n .i64 cc,.eh 2 [(gf ck)] 0 0,.eh 1 [[.isl 1 (bE.map I)]] 0 0] [] (.b r) []):=by
 unfold Ds
 exact .ay fun ae J =>
  (let t1:List cG:=[(ad 1),.aI (bL 3 (bC 3 (.cY [.agg (yH ae.1),.b ae.2]) false) 6)];
  .ite (fun af =>
  .ret (bY (t1.append [.aI (av 4 (dm 4 (aq (.ap false) (av 1 []))))]) (.fG (N2 ae J) (d7 af) (d7 af) (d7 af) (d7 af) (d7 af))))
  (fun af =>
  .ay fun aw aJ =>
  .ret (bY (t1.append [.aI (av 6 (aq (bC 1 (.n .i64 aw) true) (bL 1 (.ap true) 1)))]) (.h6 (N2 ae J) (ee af) (ee af) (ee af) (WC aw aJ) (cl.n .i64 aw) (ee af) (ee af)))))
def Gg (cO:List bs)(cr:List bF)(j9:List bs)(pe:List bF)(pa:List Int)(cL:Int):(Int×(List Int))→S:=fun (cB,ai)=>fh [(0,.eh 2 [[.isl 4 (cO.map dk),.isl 3 (cr.map c3)]] 0 0),(1,.fn 43 [.eh 2 [[.isl 4 (j9.map dk),.isl 3 (pe.map c3)]] 0 0,.eh 1 [[.isl 1 (pa.map I)]] 0 0]),(5,.bx 0 0 0 ai.length),(11,.n .i64 cL),(12,.n .i64 cB)] [(au 1 I ai)]
def MZ (cO:List bs)(cr:List bF)(j9:List bs)(pe:List bF)(pa:List Int)(cL:Int):(List Int)→fp
 | a=>⟨some 0,[(5,.bx 0 0 0 a.length)],[(au 1 I a)]⟩
def wM (cO:List bs)(cr:List bF)(j9:List bs)(pe:List bF)(pa:List Int)(cL cB:Int)(ai:List Int):Option ((Int×(List Int))⊕((List Int))) :=
 if (decide (cB<cL))=true then
  tJ (⟨cO,cr⟩:b4) cB >>= fun bq =>
  if bq=true then
   Ds cB (⟨j9,pe⟩:b4) pa >>= fun br =>
   if br=true then
    if (ai++([cB]:List Int)).length*8≤140737488355328 then
    some (.inl (U (cB+(1:Int)),ai++([cB]:List Int)))
    else none
   else
    some (.inl (U (cB+(1:Int)),ai))
  else
   some (.inl (U (cB+(1:Int)),ai))
 else
  some (.inr ai)
def Gi (cO:List bs)(cr:List bF)(j9:List bs)(pe:List bF)(pa:List Int)(cL cB:Int)(ai:List Int):Option ((List Int)):=iter (fun w:Int×(List Int)=>wM cO cr j9 pe pa cL w.1 w.2) (cB,ai)
theorem TK {cO:List bs}{cr:List bF}{j9:List bs}{pe:List bF}{pa:List Int}{cL cB:Int}{ai:List Int}:bV (wM cO cr j9 pe pa cL cB ai) (fV bt 29 0 35 [1,1,0,1,0,0] (Gg cO cr j9 pe pa cL (cB,ai)) (Gg cO cr j9 pe pa cL) (MZ cO cr j9 pe pa cL)):=by
 unfold wM
 exact .ite (fun o =>
  .ay fun bq af =>
  (let t1:List cG:=[(ad 1),.ap true,(ad 2)];
  have a5:=((.cd o (Np bq af) (cl.b bq)):cW _);
  .ite (fun aF =>
  .ay fun br bp =>
  (let t3:List cG:=t1.append [.aI (av 2 (aq (bC 2 (.b bq) true) (av 3 (aq (bC 3 (.b br) true) (aq (.ap true) [])))))];
  have fI:=a5.a1 (.fG aF aF aF (VJ br bp) (cl.b br) aF);
  .ite (fun bJ =>
  .bn fun bu =>
  .ret (let aL:=(ai++([cB]:List Int));bQ (t3.append [.ap true,.aI (bL 3 (.a1 (aL.length)) 1),(ad 2),.bm [15] [.dY (au 1 I aL)] [(0,ii),(1,.comp [.ck .id,.ck .id]),(5,ii),(11,ii),(12,ii)]]) (fI.a1 (.fC bJ (mi I cB) (qF I ai) (n7 I ai cB) bu (eB 1 .live (qG I ai cB)) (aD 1 .live aA aL)))))
  (fun bJ =>
  .ret (bQ (t3.append [.ap false,(ad 2),.bm [0] [.pure] [(0,ii),(1,.comp [.ck .id,.ck .id]),(5,ii),(11,ii),(12,ii)]]) (fI.a1 (.aH bJ (aD 1 .live aA ai)))))))
  (fun aF =>
  .ret (bQ (t1.append [.aI (av 2 (aq (bC 2 (.b bq) true) (av 1 (dm 3 (aq (.ap false) []))))),.ap false,(ad 2),.bm [0] [.pure] [(0,ii),(1,.comp [.ck .id,.ck .id]),(5,ii),(11,ii),(12,ii)]]) (a5.a1 (.fG aF aF aF aF fv (aD 1 .live aA ai)))))))
  (fun o =>
  .ret (bQ [(ad 1),.ap false,.bm [0] [.pure] (bX [5])] (.aH o (aD 1 .live aA ai))))
theorem TM {cO:List bs}{cr:List bF}{j9:List bs}{pe:List bF}{pa:List Int}{cL cB:Int}{ai:List Int}{r} (h:Gi cO cr j9 pe pa cL cB ai=some r):fW bt 29 0 35 [1,1,0,1,0,0] (Gg cO cr j9 pe pa cL) (MZ cO cr j9 pe pa cL) (cB,ai) r:=fZ (fun _=>TK) h
def Gl (aK sn:b4)(EE:List Int):Option (List Int) :=
 Gi aK.cj aK.bz sn.cj sn.bz EE (len_ c3 aK.bz) 0 ([]:List Int) >>= fun ae =>
 some ae
theorem TP {aK sn:b4}{EE:List Int}:bV (Gl aK sn EE) (fun r=>Con bt 35 [.eh 2 [(gf aK)] 0 0,.fn 43 [.eh 2 [(gf sn)] 0 0,.eh 1 [[.isl 1 (EE.map I)]] 0 0]] [] (.isl 1 (r.map I)) []):=by
 unfold Gl
 exact .ay fun ae J =>
  .ret (bY [(ad 1),(ad 1),(ad 6),.su 5 1,.bm [8] [.dY (au 1 I ([]:List Int))] [(0,ii),(1,.comp [.ck .id,.ck .id]),(5,gz (([]:List Int).length)),(11,ii),(12,ii)],.sub (.exit 0) [(5,.bx 0 0 0 ae.length)] [(au 1 I ae)],(ad 2)] (.fC (eB 1 .live (r4 I)) (aD 1 .live aA ([]:List Int)) (mL Int) (TM J) (ki I ae) (jw I ae) (fs aA ae)) (.bE (.ck (.gv (ae.map I)))))
def tM (aK:b4)(cH:List Int):Option Bool :=
 DP aK cH >>= fun ae =>
 if ae=true then
  Gl aK aK cH >>= fun aw =>
  some ((len_ I aw) == (0:Int))
 else
  some false
theorem NK {aK:b4}{cH:List Int}:bV (tM aK cH) (fun r=>Con bt 15 [.agg (gf aK),.isl 1 (cH.map I)] [] (.b r) []):=by
 unfold tM
 exact .ay fun ae J =>
  (let t1:List cG:=[(ad 3),.aI (bL 2 (bC 2 (.b ae) true) 1)];
  have a5:=((.aH (Wr ae J) (cl.b ae)):cW _);
  .ite (fun af =>
  .ay fun aw aJ =>
  .ret (bY (t1.append [.ap false,.h9 0,.h9 1,.aI (bL 1 (.call {ac:=[.bE (.ptr [.id,.id]),.comp [.ptr [.id,.id],.ptr [.id]]],r:= .isl 1 (aw.map I),dr:=false,dZ:=[0,1]}) 3)]) (a5.a1 (.eR (d7 af) (j6 (m6 aK):g9 [(gf aK)]) (j6 (m6 aK):g9 [(gf aK)]) (j6 ((pb (sz:=1) aA) cH):g9 [[.isl 1 (cH.map I)]]) (TP aw aJ)))))
  (fun af =>
  .ret (bY (t1.append [.ap true,(ad 1)]) (a5.a1 (.aC (ee af))))))
def Ho (cH:List Int)(f6:List ep)(nS:List bF)(pw:Int)(aZ:List bs):Int→S:=fun ly=>fh [(3,.ref 0 0 0 0),(4,.isl 1 (cH.map I)),(5,.isl 3 (f6.map eE)),(66,.isl 3 (nS.map c3)),(67,.n .i64 pw),(68,.n .i64 ly)] [[ab.mk 2 [[.isl 4 (aZ.map dk),.isl 3 (nS.map c3)]] .live]]
def Hr (cH:List Int)(f6:List ep)(nS:List bF)(pw:Int)(aZ:List bs):((Unit)⊕(Unit))→fp
 | .inl a=>⟨some 0,[(3,.ref 0 0 0 0),(4,.isl 1 (cH.map I)),(5,.isl 3 (f6.map eE))],[[ab.mk 2 [[.isl 4 (aZ.map dk),.isl 3 (nS.map c3)]] .live]]⟩
 | .inr a=>⟨none,[(2,.b false)],[]⟩
def xi (cH:List Int)(f6:List ep)(nS:List bF)(pw:Int)(aZ:List bs)(ly:Int):Option ((Int)⊕((Unit)⊕(Unit))) :=
 if (decide (ly<pw))=true then
  if 0≤ly∧ly<nS.length then
  nS[ly.toNat]? >>= fun aM =>
  if (aM.gr == (1:Int))=true then
   if 0≤ly∧ly<f6.length then
   f6[ly.toNat]? >>= fun gD =>
   rv 1 >>= fun ba =>
   x7 gD ba >>= fun cE =>
   if (decide (cE<(0:Int)))=true then
    some (.inr (.inr ()))
   else
    if (aM.gr == (2:Int))=true then
     rv (-1) >>= fun fN =>
     x7 gD fN >>= fun iU =>
     if (decide ((0:Int)<iU))=true then
      some (.inr (.inr ()))
     else
      some (.inl (U (ly+(1:Int))))
    else
     some (.inl (U (ly+(1:Int))))
   else none
  else
   if (aM.gr == (2:Int))=true then
    if 0≤ly∧ly<f6.length then
    f6[ly.toNat]? >>= fun lu =>
    rv (-1) >>= fun fb =>
    x7 lu fb >>= fun fA =>
    if (decide ((0:Int)<fA))=true then
     some (.inr (.inr ()))
    else
     some (.inl (U (ly+(1:Int))))
    else none
   else
    some (.inl (U (ly+(1:Int))))
  else none
 else
  some (.inr (.inl ()))
def Dd (cH:List Int)(f6:List ep)(nS:List bF)(pw:Int)(aZ:List bs)(ly:Int):Option ((Unit)⊕(Unit)):=iter (fun w:Int=>xi cH f6 nS pw aZ w) ly
theorem Uz {cH:List Int}{f6:List ep}{nS:List bF}{pw:Int}{aZ:List bs}{ly:Int}:bV (xi cH f6 nS pw aZ ly) (fV bt 130 0 3 [1,1,1,1,1,1,1,1,0,1,0,0] (Ho cH f6 nS pw aZ ly) (Ho cH f6 nS pw aZ) (Hr cH f6 nS pw aZ)):=by
 unfold xi
 exact .ite (fun o =>
  .bn fun J =>
  .ay fun aM aF =>
  (let t1:List cG:=[(ad 1),.ap true,.aI (bL 2 (.cz (c3 aM)) 3)];
  have a5:=((.dh o J.1 (eI c3 J.2) (cD c3 aF)):cW _);
  .ite (fun aJ =>
  .bn fun bp =>
  .ay fun gD bu =>
  .ay fun ba da =>
  .ay fun cE eF =>
  (have gh:=a5.a1 (.bo aJ aJ aJ bp.1 (eI eE bp.2) aJ (cD eE bu) aJ (.fG (xK ba da) aJ (Jg cE eF) (cl.n .i64 cE) aJ aJ));
  .ite (fun d4 =>
  .ret (bQ (t1.append [.aI (av 7 (aq (.cz (eE gD)) (aq (bC 1 (.agg (eE ba)) false) (aq (bC 2 (.n .i64 cE) true) (av 1 (aq (.ap true) (av 1 (dm 4 (av 7 (dm 1 (aq (.ap true) []))))))))))),.ap true,(ad 1),.bm [] [] (bX [2])]) (gh.a1 (.fC d4 d4 d4 d4 d4 d4 cV))))
  (fun d4 =>
  .ite (fun d8 =>
  .ay fun fN fT =>
  .ay fun iU kA =>
  (let t4:List cG:=t1.append [.aI (av 7 (aq (.cz (eE gD)) (aq (bC 1 (.agg (eE ba)) false) (aq (bC 2 (.n .i64 cE) true) (av 1 (aq (.ap true) (av 8 (aq (.cz (eE gD)) (aq (bC 1 (.agg (eE fN)) false) (aq (bC 2 (.n .i64 iU) true) (av 1 (aq (.ap true) (aq (.ap false) [])))))))))))))];
  have n8:=gh.a1 (.bo d4 d4 d4 d4 d8 d8 d8 bp.1 (.bo (eI eE bp.2) d8 (cD eE bu) d8 (xK fN fT) d8 (Jg iU kA) (cl.n .i64 iU) (.dh d8 d4 d8 d4)));
  .ite (fun j0 =>
  .ret (bQ (t4.append [.ap true,(ad 1),.bm [] [] (bX [2])]) (n8.a1 (.aC j0))))
  (fun j0 =>
  .ret (bQ (t4.append [.ap false,(ad 2),.bm [0] [.box [.id,.id]] (bX [3,4,5,66,67,68])]) (n8.a1 (.aC j0))))))
  (fun d8 =>
  .ret (bQ (t1.append [.aI (av 7 (aq (.cz (eE gD)) (aq (bC 1 (.agg (eE ba)) false) (aq (bC 2 (.n .i64 cE) true) (av 1 (aq (.ap true) (av 5 (dm 7 (aq (.ap false) (aq (.ap false) [])))))))))),.ap false,(ad 2),.bm [0] [.box [.id,.id]] (bX [3,4,5,66,67,68])]) (gh.a1 (.bo d4 d4 d4 d4 d8 d8 d8 d8 (.fC d8 d8 d8 d4 d8 d4 fv))))))))
  (fun aJ =>
  (have gh:=a5.a1 (.bo aJ aJ aJ aJ aJ aJ aJ aJ (.dh fv fv fv fv));
  .ite (fun bp =>
  .bn fun bJ =>
  .ay fun lu c9 =>
  .ay fun fb c8 =>
  .ay fun fA d4 =>
  (let t4:List cG:=t1.append [.aI (av 4 (dm 7 (aq (.ap false) (av 8 (aq (.cz (eE lu)) (aq (bC 1 (.agg (eE fb)) false) (aq (bC 2 (.n .i64 fA) true) (bL 1 (.ap true) 1))))))))];
  have n8:=gh.a1 (.bo bp bp bp bJ.1 (eI eE bJ.2) bp (cD eE c9) bp (.fC (xK fb c8) bp (Jg fA d4) (cl.n .i64 fA) bp fv bp));
  .ite (fun d8 =>
  .ret (bQ (t4.append [.ap true,(ad 1),.bm [] [] (bX [2])]) (n8.a1 (.aC d8))))
  (fun d8 =>
  .ret (bQ (t4.append [.ap false,(ad 2),.bm [0] [.box [.id,.id]] (bX [3,4,5,66,67,68])]) (n8.a1 (.aC d8))))))
  (fun bp =>
  .ret (bQ (t1.append [.aI (av 4 (dm 7 (aq (.ap false) (av 5 (dm 7 (aq (.ap false) (av 1 []))))))),.ap false,(ad 2),.bm [0] [.box [.id,.id]] (bX [3,4,5,66,67,68])]) (gh.a1 (.bo bp bp bp bp bp bp bp fv (.aH bp fv)))))))))
  (fun o =>
  .ret (bQ [(ad 1),.ap false,.bm [0] [.box [.id,.id]] (bX [3,4,5])] (.aC o)))
theorem Nr {cH:List Int}{f6:List ep}{nS:List bF}{pw:Int}{aZ:List bs}{ly:Int}{r} (h:Dd cH f6 nS pw aZ ly=some r):fW bt 130 0 3 [1,1,1,1,1,1,1,1,0,1,0,0] (Ho cH f6 nS pw aZ) (Hr cH f6 nS pw aZ) ly r:=fZ (fun _=>Uz) h
def Dt (iD:List Int):Option Bool :=
 if (decide ((1048576:Int)<(len_ eU8 iD)))=true then
  some true
 else
  DM iD >>= fun bq =>
  tO bq.1 bq.2 >>= fun aw =>
  if aw=true then
   o8 bq.1 >>= fun bZ =>
   if bZ=true then
    uX bq.1 >>= fun fb =>
    uT bq.1 >>= fun fA =>
    if (fb.2 == fA)=true then
     if fb.2=true then
      if ((len_ eE fb.1) != (len_ c3 bq.1.bz))=true then
       some false
      else
       An bq.1 >>= fun iU =>
       zV bq.1 iU fb.1 >>= fun qB =>
       if qB=true then
        Af bq.1 fb.1 >>= fun mY =>
        if (decide ((0:Int)<(len_ I mY)))=true then
         some false
        else
         Dd bq.2 fb.1 bq.1.bz (len_ c3 bq.1.bz) bq.1.cj 0 >>= fun L5 =>
         match L5 with
         | .inl FM=>(xP bq.1 bq.2 >>= fun kV =>
          if kV.2=true then
           zY kV.1 fb.1 >>= fun rj =>
           if rj.2=true then
            zV bq.1 bq.2 rj.1 >>= fun zu =>
            if zu=true then
             tM bq.1 bq.2 >>= fun Cd =>
             some Cd
            else
             some false
           else
            some false
          else
           tM bq.1 bq.2 >>= fun rj =>
           some (!rj))
         | .inr FM=>(some false)
       else
        some false
     else
      some ((len_ eE fb.1) == (0:Int))
    else
     some false
   else
    some false
  else
   some false
theorem VK {iD:List Int}:bV (Dt iD) (fun r=>Con bt 3 [.isl 1 (iD.map eU8)] [] (.b r) []):=by
 unfold Dt
 exact .ite (fun o =>
  .ret (bY [(ad 1),(ad 3),.ap true,(ad 1)] (.aC o)))
  (fun o =>
  .ay fun bq af =>
  .ay fun aw aJ =>
  (let t1:List cG:=[(ad 1),(ad 3),.ap false,.aI (bL 1 (bC 1 (.cY [.agg (gf bq.1),.isl 1 (bq.2.map I)]) false) 6)];
  have a5:=((.dh o (Wk bq af) (DH aw aJ) (cl.b aw)):cW _);
  .ite (fun bp =>
  .ay fun bZ bu =>
  (let t3:List cG:=t1.append [.aI (av 2 (aq (bC 2 (.b aw) true) (av 3 (aq (bC 1 (.b bZ) true) (av 1 (aq (.ap false) []))))))];
  have fI:=a5.a1 (.fG (d7 bp) (d7 bp) (xD bZ bu) (cl.b bZ) (d7 bp) (d7 bp));
  .ite (fun c9 =>
  .ay fun fb c8 =>
  .ay fun fA d4 =>
  (let t5:List cG:=t3.append [.ap false,.aI (bL 1 (bC 1 (.cY [.isl 3 (fb.1.map eE),.b fb.2]) false) 5),.aI (bL 2 (bC 1 (.b fA) true) 1)];
  have nG:=fI.a1 (.dh (d7 c9) (VH fb c8) (Vw fA d4) (cl.b fA));
  .ite (fun d8 =>
  .ite (fun gK =>
  (let t7:List cG:=t5.append [.ap false,(ad 2),.ap false];
  .ite (fun fT =>
  .ret (bY (t7.append [.aI (av 7 (dm 6 (aq (.ap true) (av 1 (dm 5 (av 1 [])))))),.ap true,(ad 1)]) (nG.a1 (.bo (d7 d8) (d7 gK) fT fT fT fT fT fT (.fC fT cV cV cV cV cV cV)))))
  (fun fT =>
  .ay fun iU kA =>
  .ay fun qB oA =>
  (have Tw:=nG.a1 (.bo (d7 d8) (d7 gK) fT fT fT (WM iU kA) fT fT (.dh (Nx qB oA) (cl.b qB) fT fT));
  .ite (fun jS =>
  .ay fun mY lT =>
  (let t9:List cG:=t7.append [.aI (av 9 (aq (bC 1 (.isl 1 (iU.map I)) false) (av 1 (aq (bC 3 (.b qB) true) (av 1 (aq (.ap false) (av 3 (aq (bC 2 (.isl 1 (mY.map I)) false) (av 2 (aq (.ap false) []))))))))))];
  have L6:=Tw.a1 (.fC (d7 jS) (d7 jS) (d7 jS) (WB mY lT) (d7 jS) (d7 jS) (d7 jS));
  .ite (fun us =>
  .ret (bY (t9.append [.ap true,(ad 1)]) (L6.a1 (.aC us))))
  (fun us =>
  .ay fun L5 sD =>
  (let t11:List cG:=t9.append [.ap false,(ad 4),.bm [9] [.box [.id,.id]] (bX [3,4,5,66,67,68])];
  (by
  rcases L5 with FM|FM
  ·exact (.ay fun kV wb =>
  (let t12:List cG:=t11.append [(Hr bq.2 fb.1 bq.1.bz (len_ c3 bq.1.bz) bq.1.cj (.inl FM)).gL,.aI (bL 2 (bC 2 (.cY [.isl 3 (kV.1.map eE),.b kV.2]) false) 5),(ad 2)];
  have SR:=L6.a1 (.cd us (Nr sD) (VO kV wb));
  .ite (fun m0 =>
  .ay fun rj zp =>
  (let t14:List cG:=t12.append [.ap false,.aI (bL 2 (bC 2 (.cY [.isl 3 (rj.1.map eE),.b rj.2]) false) 5)];
  have SS:=SR.a1 (.aH (d7 m0) (VI rj zp));
  .ite (fun r1 =>
  .ay fun zu FJ =>
  (have SU:=SS.a1 (.fC r1 r1 r1 r1 (Nx zu FJ) (cl.b zu) r1);
  .ite (fun tw =>
  .ay fun Cd B8 =>
  .ret (bY (t14.append [.aI (av 5 (aq (bC 3 (.b zu) true) (aq (.ap true) (av 3 (aq (bC 2 (.b Cd) true) (aq (.ap true) (av 1 [])))))))]) (SU.a1 (.fG tw tw tw (NK Cd B8) (cl.b Cd) tw))))
  (fun tw =>
  .ret (bY (t14.append [.aI (av 5 (aq (bC 3 (.b zu) true) (aq (.ap true) (av 1 (dm 3 (aq (.ap false) (av 1 [])))))))]) (SU.a1 (.dh tw tw tw tw))))))
  (fun r1 =>
  .ret (bY (t14.append [.aI (av 2 (dm 4 (aq (.ap false) (av 1 (dm 3 (av 2 []))))))]) (SS.a1 (.h6 r1 r1 r1 r1 r1 fv fv fv))))))
  (fun m0 =>
  .ay fun rj zp =>
  .ret (bY (t12.append [.ap true,.aI (bL 2 (bC 2 (.b rj) true) 2)]) (SR.a1 (.cd (ee m0) (NK rj zp) (cl.b rj)))))))
  ·exact (.ret (bY (t11.append [.sub (.ret) [(2,.b false)] []]) (L6.a1 (.aH us (Nr sD))))))))))
  (fun jS =>
  .ret (bY (t7.append [.aI (av 9 (aq (bC 1 (.isl 1 (iU.map I)) false) (av 1 (aq (bC 3 (.b qB) true) (av 1 (aq (.ap false) (av 1 (dm 5 (aq (.ap true) []))))))))),.ap true,(ad 1)]) (Tw.a1 (.fC (ee jS) (ee jS) (ee jS) (ee jS) (ee jS) (ee jS) cV))))))))
  (fun gK =>
  .ret (bY (t5.append [.ap false,(ad 2),.ap true,(ad 4)]) (nG.a1 (.aH (d7 d8) (ee gK))))))
  (fun d8 =>
  .ret (bY (t5.append [.ap true,(ad 1)]) (nG.a1 (.aC (ee d8)))))))
  (fun c9 =>
  .ret (bY (t3.append [.ap true,(ad 1)]) (fI.a1 (.aC (ee c9)))))))
  (fun bp =>
  .ret (bY (t1.append [.aI (av 2 (aq (bC 2 (.b aw) true) (av 2 (dm 3 (aq (.ap true) []))))),.ap true,(ad 1)]) (a5.a1 (.eR (ee bp) (ee bp) (ee bp) (ee bp) cV))))))
end Go.Proofs.YtojbgalflbgajabGreat
