/- Lemmas, plain functions of the program, and what they answer. No condition. -/
import Derived.Test.YtgfpnhmcmgnepadGreatMC
namespace Go.Proofs.YtgfpnhmcmgnepadGreat
set_option linter.unusedVariables false
set_option linter.unusedSimpArgs false
open Go Go.VL
def Hj (ba:List Int)(fE:Nat)(aj aR:List Int):(List Int)→S:=fun ae=>eD [(0,.isl 1 (ba.map J)),(8,.bw 0 0 0 aj.length),(9,.bw 1 0 0 ae.length),(10,.bw 2 0 0 fE)] [(av 1 J aj),(av 1 J ae),(av 1 J aR)]
def Hq (ba:List Int)(fE:Nat)(aj aR:List Int):(List Int)→eJ
 | a=>⟨some 0,[(8,.bw 0 0 0 aj.length),(9,.bw 1 0 0 a.length),(10,.bw 2 0 0 fE)],[(av 1 J aj),(av 1 J a),(av 1 J aR)]⟩
def Cf (ba:List Int)(fE:Nat)(aj aR ae:List Int):Option (((List Int))⊕((List Int))) :=
 if (decide (((ae.length:Nat):Int)≤(len_ J ba)))=true then
  if (ae++([0]:List Int)).length*8≤140737488355328 then
  some (.inl (ae++([0]:List Int)))
  else none
 else
  some (.inr ae)
def CH (ba:List Int)(fE:Nat)(aj aR ae:List Int):Option ((List Int)):=iter (fun w:(List Int)=>Cf ba fE aj aR w) ae
theorem T1 {ba:List Int}{fE:Nat}{aj aR ae:List Int}:bQ (Cf ba fE aj aR ae) (fj bo 172 0 105 [1,1,1,1,1,0,0,0] (Hj ba fE aj aR ae) (Hj ba fE aj aR) (Hq ba fE aj aR)):=by
 unfold Cf
 exact .ite (fun o =>
  .bn fun R =>
  .ret (let aW:=(ae++([0]:List Int));bS [(ad 5),.ao true,.aH (bH 2 (.aZ (aW.length)) 1),.bj [0,10,2] [.pure,.dw (av 1 J aW),.pure] (bR [0,8,9,10])] (.bt o (k6 J 0) (o4 J ae) (nt J ae 0) R (aE 1 .live aD aj) (d4 1 .live (o5 J ae 0)) (aE 1 .live aD aW) (.ax (aE 1 .live aD aR)))))
  (fun o =>
  .ret (bS [(ad 5),.ao false,.bj [0,1,2] [.pure,.pure,.pure] (bR [8,9,10])] (.c8 o (aE 1 .live aD aj) (aE 1 .live aD ae) (aE 1 .live aD aR))))
theorem UU {ba:List Int}{fE:Nat}{aj aR ae:List Int}{r} (h:CH ba fE aj aR ae=some r):fk bo 172 0 105 [1,1,1,1,1,0,0,0] (Hj ba fE aj aR) (Hq ba fE aj aR) ae r:=fl (fun _=>T1) h
def Hk (d9 fE:Nat)(a0 dV:Int)(aj ae aR an:List Int):(Int×Int)→S:=fun (m5,hj)=>eD [(8,.bw 0 0 0 aj.length),(9,.bw 1 0 0 d9),(10,.bw 2 0 0 fE),(11,.n .i64 a0),(12,.bw 3 0 0 an.length),(13,.n .i64 dV),(15,.n .i64 m5),(16,.n .i64 hj)] [(av 1 J aj),(av 1 J ae),[aq.mk 1 (aR.map J) .im],(av 1 J an)]
def Hr (d9 fE:Nat)(a0 dV:Int)(aj ae aR an:List Int):Int→eJ
 | a=>⟨some 4,[(8,.bw 0 0 0 aj.length),(9,.bw 1 0 0 d9),(10,.bw 2 0 0 fE),(11,.n .i64 a0),(12,.bw 3 0 0 an.length),(13,.n .i64 dV),(15,.n .i64 a)],[(av 1 J aj),(av 1 J ae),[aq.mk 1 (aR.map J) .im],(av 1 J an)]⟩
def tD (d9 fE:Nat)(a0 dV:Int)(aj ae aR an:List Int)(m5 hj:Int):Option ((Int×Int)⊕(Int)) :=
 if (decide ((1000000000:Int)≤m5))=true then
  if 0≤(U (a0-(1:Int)))∧(U (a0-(1:Int)))<(fE:Nat) then
  aR[(0+(U (a0-(1:Int))).toNat)]? >>= fun aU =>
  if (decide ((1000000000:Int)≤(U (hj+aU))))=true then
   some (.inr (U (m5-(1:Int))))
  else
   some (.inl (U (m5-(1:Int)),U (hj+aU)))
  else none
 else
  if 0≤(U (a0-(2:Int)))∧(U (a0-(2:Int)))<(fE:Nat) then
  aR[(0+(U (a0-(2:Int))).toNat)]? >>= fun aU =>
  if 0≤(U ((U (dV+a0))-(2:Int)))∧(U ((U (dV+a0))-(2:Int)))<(d9:Nat) then
  ae[(0+(U ((U (dV+a0))-(2:Int))).toNat)]? >>= fun cd =>
  if (decide ((U ((U (hj*(1000000000:Int)))+cd))<(U (m5*aU))))=true then
   if 0≤(U (a0-(1:Int)))∧(U (a0-(1:Int)))<(fE:Nat) then
   aR[(0+(U (a0-(1:Int))).toNat)]? >>= fun i1 =>
   if (decide ((1000000000:Int)≤(U (hj+i1))))=true then
    some (.inr (U (m5-(1:Int))))
   else
    some (.inl (U (m5-(1:Int)),U (hj+i1)))
   else none
  else
   some (.inr m5)
  else none
  else none
def HZ (d9 fE:Nat)(a0 dV:Int)(aj ae aR an:List Int)(m5 hj:Int):Option (Int):=iter (fun w:Int×Int=>tD d9 fE a0 dV aj ae aR an w.1 w.2) (m5,hj)
theorem T2 {d9 fE:Nat}{a0 dV:Int}{aj ae aR an:List Int}{m5 hj:Int}:bQ (tD d9 fE a0 dV aj ae aR an m5 hj) (fj bo 172 0 105 [1,1,1,1,1,1,1,1,0,1,0,0,1,0,0,1,1,0,0,0] (Hk d9 fE a0 dV aj ae aR an (m5,hj)) (Hk d9 fE a0 dV aj ae aR an) (Hr d9 fE a0 dV aj ae aR an)):=by
 unfold tD
 exact .ite (fun o =>
  .bn fun R =>
  .az fun aU aA =>
  (let t1:List cw:=[.aH (ap 3 (dk 18 (ar (.ao true) []))),.ao true,(ad 3),.aH (bH 5 (.cB (J aU)) 2),(ad 2)];
  have a6:=((.bt o o o o o o o o (.bt o o o o o o o o (.e2 o o o ca R.1 R.2 (cD J aA)))):cL _);
  .ite (fun aF =>
  .ret (bS (t1.append [.ao true,.bj [0,1,2,3] [.pure,.pure,.pure,.pure] (bR [8,9,10,11,12,13,15])]) (a6.aZ (.ep aF (aE 1 .live aD aj) (aE 1 .live aD ae) (aE 1 .im aD aR) (aE 1 .live aD an)))))
  (fun aF =>
  .ret (bS (t1.append [.ao false,.bj [0,1,2,3] [.pure,.pure,.pure,.pure] (bR [8,9,10,11,12,13,15,16])]) (a6.aZ (.ep aF (aE 1 .live aD aj) (aE 1 .live aD ae) (aE 1 .im aD aR) (aE 1 .live aD an)))))))
  (fun o =>
  .bn fun R =>
  .az fun aU aA =>
  .bn fun aF =>
  .az fun cd bU =>
  (let t1:List cw:=[.aH (ap 8 (ar (.cB (J aU)) (ap 9 (ar (.cB (J cd)) (ap 2 (ar (.ao false) []))))))];
  have a6:=((.bt o o o o o R.1 R.2 o (.bt (cD J aA) o o o o o o o (.bt o o aF.1 aF.2 o (cD J bU) o o (.ax o)))):cL _);
  .ite (fun bx =>
  .bn fun c2 =>
  .az fun i1 d2 =>
  (let t3:List cw:=t1.append [.ao true,(ad 3),.aH (bH 5 (.cB (J i1)) 2),(ad 2)];
  .ite (fun ev =>
  .ret (bS (t3.append [.ao true,.bj [0,1,2,3] [.pure,.pure,.pure,.pure] (bR [8,9,10,11,12,13,15])]) (a6.aZ (.bt bx c2.1 c2.2 (cD J d2) ev (aE 1 .live aD aj) (aE 1 .live aD ae) (aE 1 .im aD aR) (.ax (aE 1 .live aD an))))))
  (fun ev =>
  .ret (bS (t3.append [.ao false,.bj [0,1,2,3] [.pure,.pure,.pure,.pure] (bR [8,9,10,11,12,13,15,16])]) (a6.aZ (.bt bx c2.1 c2.2 (cD J d2) ev (aE 1 .live aD aj) (aE 1 .live aD ae) (aE 1 .im aD aR) (.ax (aE 1 .live aD an))))))))
  (fun bx =>
  .ret (bS (t1.append [.ao false,.bj [0,1,2,3] [.pure,.pure,.pure,.pure] (bR [8,9,10,11,12,13,15])]) (a6.aZ (.ep bx (aE 1 .live aD aj) (aE 1 .live aD ae) (aE 1 .im aD aR) (aE 1 .live aD an)))))))
theorem UW {d9 fE:Nat}{a0 dV:Int}{aj ae aR an:List Int}{m5 hj:Int}{r} (h:HZ d9 fE a0 dV aj ae aR an m5 hj=some r):fk bo 172 0 105 [1,1,1,1,1,1,1,1,0,1,0,0,1,0,0,1,1,0,0,0] (Hk d9 fE a0 dV aj ae aR an) (Hr d9 fE a0 dV aj ae aR an) (m5,hj) r:=fl (fun _=>T2) h
def Hl (d9 fE:Nat)(a0:Int)(aj aR:List Int):(Int×(List Int)×(List Int))→S:=fun (dV,ae,an)=>eD [(8,.bw 0 0 0 aj.length),(9,.bw 1 0 0 d9),(10,.bw 2 0 0 fE),(11,.n .i64 a0),(12,.bw 3 0 0 an.length),(13,.n .i64 dV)] [(av 1 J aj),(av 1 J ae),[aq.mk 1 (aR.map J) .im],(av 1 J an)]
def Hs (d9 fE:Nat)(a0:Int)(aj aR:List Int):((List Int)×(List Int))→eJ
 | a=>⟨some 2,[(8,.bw 0 0 0 aj.length),(9,.bw 1 0 0 d9),(12,.bw 2 0 0 a.2.length)],[(av 1 J aj),(av 1 J a.1),(av 1 J a.2)]⟩
def tE (d9 fE:Nat)(a0:Int)(aj aR:List Int)(dV:Int)(ae an:List Int):Option ((Int×(List Int)×(List Int))⊕((List Int)×(List Int))) :=
 if (decide ((0:Int)≤dV))=true then
  if 0≤(U (dV+a0))∧(U (dV+a0))<(d9:Nat) then
  ae[(0+(U (dV+a0)).toNat)]? >>= fun aU =>
  if 0≤(U ((U (dV+a0))-(1:Int)))∧(U ((U (dV+a0))-(1:Int)))<(d9:Nat) then
  ae[(0+(U ((U (dV+a0))-(1:Int))).toNat)]? >>= fun cd =>
  if 0≤(U (a0-(1:Int)))∧(U (a0-(1:Int)))<(fE:Nat) then
  aR[(0+(U (a0-(1:Int))).toNat)]? >>= fun gK =>
  if gK≠0 then
  HZ d9 fE a0 dV aj ae aR an (U ((U ((U (aU*(1000000000:Int)))+cd)).tdiv gK)) ((U ((U (aU*(1000000000:Int)))+cd)).tmod gK) >>= fun gW =>
  if 0≤dV then
  if dV.toNat≤d9 then
  if 0+fE≤aR.length then
  zi ((aR.drop 0).take fE) gW (0+dV.toNat) (d9-dV.toNat) ae >>= fun i7 =>
  if i7.1=true then
   wV ((aR.drop 0).take fE) (0+dV.toNat) (d9-dV.toNat) i7.2 >>= fun i9 =>
   if 0≤dV∧dV<(an.length:Nat) then
   if (0+dV.toNat)<an.length then
   some (.inl (U (dV-(1:Int)),i9,an.set (0+dV.toNat) (U (gW-(1:Int)))))
   else none
   else none
  else
   if 0≤dV∧dV<(an.length:Nat) then
   if (0+dV.toNat)<an.length then
   some (.inl (U (dV-(1:Int)),i7.2,an.set (0+dV.toNat) gW))
   else none
   else none
  else none
  else none
  else none
  else none
  else none
  else none
  else none
 else
  some (.inr (ae,an))
def H0 (d9 fE:Nat)(a0:Int)(aj aR:List Int)(dV:Int)(ae an:List Int):Option ((List Int)×(List Int)):=iter (fun w:Int×(List Int)×(List Int)=>tE d9 fE a0 aj aR w.1 w.2.1 w.2.2) (dV,ae,an)
theorem T3 {d9 fE:Nat}{a0:Int}{aj aR:List Int}{dV:Int}{ae an:List Int}:bQ (tE d9 fE a0 aj aR dV ae an) (fj bo 172 0 105 [1,1,1,1,1,1,1,1,0,1,0,0] (Hl d9 fE a0 aj aR (dV,ae,an)) (Hl d9 fE a0 aj aR) (Hs d9 fE a0 aj aR)):=by
 unfold tE
 exact .ite (fun o =>
  .bn fun R =>
  .az fun aU aA =>
  .bn fun aF =>
  .az fun cd bU =>
  .bn fun bx =>
  .az fun gK dO =>
  .bn fun d2 =>
  .az fun gW fo =>
  .bn fun eT =>
  .bn fun hD =>
  .bn fun h5 =>
  .az fun i7 j6 =>
  (let t1:List cw:=[(ad 2),.ao true,.aH (ap 5 (ar (.cB (J aU)) (bH 7 (.cB (J cd)) 2))),.aH (ap 5 (ar (.cB (J gK)) (bH 6 (.cB (J gK)) 3))),.bj [0,1,2,3] [.pure,.pure,.pure,.pure] (bR [8,9,10,11,12,13,15,16]),(Hr d9 fE a0 dV aj ae aR an gW).fW,.aH (ap 5 (ar (.call {aM:=[.row 1],cu:=[.pure],ac:=[ii,.bF (.b9 (.e5 (((aR.drop 0).take fE).map J))),ii],r:= .b i7.1,db:=[(av 1 J i7.2)],eo:=ii,e4:=[.pure],dd:=[1,2],c9:=false}) []))];
  have a6:=((.bt o R.1 R.2 (cD J aA) aF.1 aF.2 (cD J bU) bx.1 (.bt bx.2 (cD J dO) d2 bx.1 bx.2 (cD J dO) d2 (aE 1 .live aD aj) (.bt (aE 1 .live aD ae) (aE 1 .im aD aR) (aE 1 .live aD an) (UW fo) eT hD (Nat.le_refl d9) (IH (dF J aR) 0 fE) (.ep (sN (dF J aR) h5) (eF aD ((aR.drop 0).take fE)) (fg 1 aD ae) (fg 1 aD i7.2) (U8 i7 j6))))):cL _);
  .ite (fun gG =>
  .az fun i9 oE =>
  .bn fun h6 =>
  .bn fun lI =>
  .ret (let aW:=(U (gW-(1:Int)));bS (t1.append [.ao true,(ad 3),.aH (ap 4 (ar (.call {aM:=[.row 1],cu:=[.pure],ac:=[ii,.bF (.b9 (.e5 (((aR.drop 0).take fE).map J)))],r:= .cW [],db:=[(av 1 J i9)],eo:=ii,e4:=[.pure],dd:=[1,2],c9:=false}) [])),.aH (ap 4 (ar .cT [])),(ad 3),.bj [0,1,2,3] [.pure,.pure,.pure,.dw (av 1 J (an.set (0+dV.toNat) aW))] [(8,ii),(9,ii),(10,ii),(11,ii),(12,fQ ((an.set (0+dV.toNat) aW).length)),(13,ii)]]) (a6.aZ (.bt gG eT hD (Nat.le_refl d9) (IH (dF J aR) 0 fE) (sN (dF J aR) h5) (eF aD ((aR.drop 0).take fE)) (fg 1 aD i7.2) (.bt (fg 1 aD i9) (U9 i9 oE) h6.1 h6.2 (hb J lI) (gB 1) (aE 1 .live aD aj) (aE 1 .live aD i9) (.c8 (aE 1 .im aD aR) (d4 1 .live (fs (dF J an) (0+dV.toNat) aW)) (aE 1 .live aD (an.set (0+dV.toNat) aW)) (gP (fq an) (0+dV.toNat) aW)))))))
  (fun gG =>
  .bn fun nS =>
  .bn fun oE =>
  .ret (bS (t1.append [.ao false,.aH (ap 4 (ar .cT [])),(ad 3),.bj [0,1,2,3] [.pure,.pure,.pure,.dw (av 1 J (an.set (0+dV.toNat) gW))] [(8,ii),(9,ii),(10,ii),(11,ii),(12,fQ ((an.set (0+dV.toNat) gW).length)),(13,ii)]]) (a6.aZ (.bt gG nS.1 nS.2 (hb J oE) (gB 1) (aE 1 .live aD aj) (aE 1 .live aD i7.2) (aE 1 .im aD aR) (.bZ (d4 1 .live (fs (dF J an) (0+dV.toNat) gW)) (aE 1 .live aD (an.set (0+dV.toNat) gW)) (gP (fq an) (0+dV.toNat) gW))))))))
  (fun o =>
  .ret (bS [(ad 2),.ao false,.bj [0,1,3] [.pure,.pure,.pure] (bR [8,9,12])] (.c8 o (aE 1 .live aD aj) (aE 1 .live aD ae) (aE 1 .live aD an))))
theorem UX {d9 fE:Nat}{a0:Int}{aj aR:List Int}{dV:Int}{ae an:List Int}{r} (h:H0 d9 fE a0 aj aR dV ae an=some r):fk bo 172 0 105 [1,1,1,1,1,1,1,1,0,1,0,0] (Hl d9 fE a0 aj aR) (Hs d9 fE a0 aj aR) (dV,ae,an) r:=fl (fun _=>T3) h
def rO (ba a9:List Int):Option ((List Int)×(List Int)) :=
 o8 ba a9 >>= fun ak =>
 if (decide (ak<(0:Int)))=true then
  ui ba >>= fun aX =>
  some (([]:List Int),aX)
 else
  if ((len_ J a9) == (1:Int))=true then
   if 0≤(0:Int)∧(0:Int)<a9.length then
   a9[0]? >>= fun cd =>
   wL ba cd >>= fun eQ =>
   tM (IntKind.wrap .u64 eQ.2) >>= fun en =>
   some (eQ.1,en)
   else none
  else
   if 0≤(U ((len_ J a9)-(1:Int)))∧(U ((len_ J a9)-(1:Int)))<a9.length then
   a9[(U ((len_ J a9)-(1:Int))).toNat]? >>= fun cd =>
   if (U (cd+(1:Int)))≠0 then
   wS ba ([U ((1000000000:Int).tdiv (U (cd+(1:Int))))]:List Int) >>= fun bi =>
   if bi.1≤bi.2.length then
   if (bi.2.take bi.1++([0]:List Int)).length*8≤140737488355328 then
   wS a9 ([U ((1000000000:Int).tdiv (U (cd+(1:Int))))]:List Int) >>= fun dv =>
   CH ba dv.1 ([U ((1000000000:Int).tdiv (U (cd+(1:Int))))]:List Int) dv.2 (bi.2.take bi.1++([0]:List Int)) >>= fun eX =>
   if 0≤(U (((eX.length:Nat):Int)-((dv.1:Nat):Int)))∧(8:Int)*(U (((eX.length:Nat):Int)-((dv.1:Nat):Int)))≤281474976710656∧(U (((eX.length:Nat):Int)-((dv.1:Nat):Int)))<9223372036854775808 then
   H0 eX.length dv.1 ((dv.1:Nat):Int) ([U ((1000000000:Int).tdiv (U (cd+(1:Int))))]:List Int) dv.2 (U ((U (((eX.length:Nat):Int)-((dv.1:Nat):Int)))-(1:Int))) eX (List.replicate (U (((eX.length:Nat):Int)-((dv.1:Nat):Int))).toNat 0:List Int) >>= fun eZ =>
   if 0+eX.length≤eZ.1.length then
   pJ ((eZ.1.drop 0).take eX.length) >>= fun jw =>
   if 0≤(0:Int)∧(0:Int)<(([U ((1000000000:Int).tdiv (U (cd+(1:Int))))]:List Int).length:Nat) then
   ([U ((1000000000:Int).tdiv (U (cd+(1:Int))))]:List Int)[0]? >>= fun sl =>
   wL jw sl >>= fun k1 =>
   pJ eZ.2 >>= fun lV =>
   some (lV,k1.1)
   else none
   else none
   else none
   else none
   else none
   else none
   else none
theorem CI {ba a9:List Int}:bQ (rO ba a9) (fun r=>Con bo 105 [.isl 1 (ba.map J),.isl 1 (a9.map J)] [] (.cW [.isl 1 (r.1.map J),.isl 1 (r.2.map J)]) []):=by
 unfold rO
 exact .az fun ak R =>
  (let t1:List cw:=[(ad 2),.aH (bH 2 (bT 2 (.n .i64 ak) true) 1)];
  have a6:=((.aC (wF ak R) (cp.n .i64 ak)):cL _);
  .ite (fun ab =>
  .az fun aX aF =>
  .ret (bP (t1.append [.ao true,.aH (bH 1 (bT 1 (.isl 1 (aX.map J)) false) 2)]) (a6.aZ (.aC ab (Il aX aF))) (.comp [.b9 (.iv 1),.b9 .id])))
  (fun ab =>
  .ite (fun aA =>
  .bn fun aF =>
  .az fun cd bU =>
  .az fun eQ c2 =>
  .az fun en d2 =>
  .ret (bP (t1.append [.ao false,(ad 3),.ao true,.aH (ap 3 (ar (.cB (J cd)) (ar (bT 2 (.cW [.isl 1 (eQ.1.map J),.n .i64 eQ.2]) false) (ap 5 [])))),.aH (bH 3 (bT 1 (.isl 1 (en.map J)) false) 2)]) (a6.aZ (.e2 ab aA aF.1 (eE J aF.2) (cD J bU) (Mn eQ c2) (Hy en d2)))))
  (fun aA =>
  .bn fun aF =>
  .az fun cd bU =>
  .bn fun bx =>
  .az fun bi dO =>
  .bn fun d2 =>
  .bn fun ev =>
  .az fun dv eT =>
  .az fun eX h5 =>
  .bn fun gh =>
  .az fun eZ gG =>
  .bn fun nS =>
  .az fun jw h6 =>
  .bn fun lI =>
  .az fun sl qP =>
  .az fun k1 uX =>
  .az fun lV sm =>
  .ret (let aW:=(U ((1000000000:Int).tdiv (U (cd+(1:Int)))));let bl:=(U (((eX.length:Nat):Int)-((dv.1:Nat):Int)));let cc:=(bi.2.take bi.1++([0]:List Int));let cM:=(List.replicate bl.toNat 0:List Int);let eN:=(aE 1 .live aD ([aW]:List Int));bP (t1.append [.ao false,(ad 3),.ao false,.aH (bH 5 (.cB (J cd)) 4),.aH (ap 2 (ar (.call {aM:=[],cu:=[],ac:=[ii,.bF (.b9 (.e5 (([aW]:List Int).map J)))],r:= .bw 0 0 0 bi.1,db:=[(av 1 J bi.2)],eo:=ii,e4:=[.pure],dd:=[17],c9:=true}) (ap 1 (ar (.aZ (cc.length)) (bH 2 (.call {aM:=[],cu:=[],ac:=[ii,.bF (.b9 (.e5 (([aW]:List Int).map J)))],r:= .bw 0 0 0 dv.1,db:=[(av 1 J dv.2)],eo:=ii,e4:=[.pure],dd:=[17],c9:=true}) 2))))),.bj [17,23,26] [.dw (av 1 J ([aW]:List Int)),.dw (av 1 J cc),.pure] [(0,ii),(8,fQ (([aW]:List Int).length)),(9,ii),(10,ii)],(Hq ba dv.1 ([aW]:List Int) dv.2 eX).fW,(ad 3),(ad 6),(ad 6),.bj [0,1,2,10] [.pure,.pure,.pure,.dw (av 1 J cM)] [(8,ii),(9,ii),(10,ii),(11,ii),(12,fQ (cM.length)),(13,ii)],.im 2,.bj [0,1,2,3] [.pure,.pure,.pure,.pure] (bR [8,9,10,11,12,13]),(Hs eX.length dv.1 ((dv.1:Nat):Int) ([aW]:List Int) dv.2 eZ).fW,.im 1,.aH (ap 1 (ar (.call {ac:=[.bF (.b9 (.e5 (((eZ.1.drop 0).take eX.length).map J)))],r:= .isl 1 (jw.map J),c9:=false,dd:=[1]}) (ap 2 (ar (.cB (J sl)) (ar (bT 2 (.cW [.isl 1 (k1.1.map J),.n .i64 k1.2]) false) (ap 5 [])))))),.im 2,.aH (bH 1 (.call {ac:=[.bF (.b9 (.e5 (eZ.2.map J)))],r:= .isl 1 (lV.map J),c9:=false,dd:=[2]}) 3)]) (a6.aZ (.bt ab aA aF.1 (eE J aF.2) (cD J bU) bx (lL (show [[.n .i64 (U ((1000000000:Int).tdiv (U (cd+(1:Int)))))]]=(([(U ((1000000000:Int).tdiv (U (cd+(1:Int)))))]:List Int)).map J from rfl) (show 1=([(U ((1000000000:Int).tdiv (U (cd+(1:Int)))))]:List Int).length from rfl)) (k6 J aW) (.bt (eF aD ([aW]:List Int)) (fg 1 aD bi.2) (MI bi dO) (cp.bw 0 0 0 bi.1) ((t8 (rP (rf r6) ug) uf):p5 [(av 1 J bi.2)]) (k6 J 0) (sN (dF J bi.2) d2) (abx J d2 0) (.bt ev (lL (show [[.n .i64 (U ((1000000000:Int).tdiv (U (cd+(1:Int)))))]]=(([(U ((1000000000:Int).tdiv (U (cd+(1:Int)))))]:List Int)).map J from rfl) (show 1=([(U ((1000000000:Int).tdiv (U (cd+(1:Int)))))]:List Int).length from rfl)) (k6 J aW) (eF aD ([aW]:List Int)) (fg 1 aD dv.2) (MI dv eT) (cp.bw 0 0 0 dv.1) ((t8 (rP (rf r6) ug) uf):p5 [(av 1 J dv.2)]) (.bt (d4 1 .live (show [[.n .i64 (U ((1000000000:Int).tdiv (U (cd+(1:Int)))))]]=(([(U ((1000000000:Int).tdiv (U (cd+(1:Int)))))]:List Int)).map J from rfl)) eN (d4 1 .live (II (dF J bi.2) bi.1 (vg J 0))) (aE 1 .live aD cc) (aE 1 .live aD dv.2) (show 1=([(U ((1000000000:Int).tdiv (U (cd+(1:Int)))))]:List Int).length from rfl) (UU h5) gh.1 (.bt (Int.le_refl bl) gh.2.1 gh.2.2 eN (aE 1 .live aD eX) (aE 1 .live aD dv.2) (d4 1 .live (kp J bl.toNat 0)) (aE 1 .live aD cM) (.bt (kB bl.toNat (0:Int)) eN (aE 1 .live aD eX) (aE 1 .im aD dv.2) (aE 1 .live aD cM) (UX gG) (IH (dF J eZ.1) 0 eX.length) (sN (dF J eZ.1) nS) (.bt (eF aD ((eZ.1.drop 0).take eX.length)) (tN jw h6) lI.1 lI.2 (cD J qP) (Mn k1 uX) (ia J eZ.2) (ht J eZ.2) (.aC (eF aD eZ.2) (tN lV sm))))))))))))))
def sE (b2 eH:bc):Option bc :=
 rO b2.cK eH.cK >>= fun ak =>
 kd (!(b2.c6 == eH.c6)) ak.1 >>= fun bk =>
 some bk
theorem F0 {b2 eH:bc}:bQ (sE b2 eH) (fun r=>Con bo 113 [.agg (aQ b2),.agg (aQ eH)] [] (.agg (aQ r)) []):=by
 unfold sE
 exact .az fun ak R =>
  .az fun bk aA =>
  .ret (bP [(ad 3),.aH (bH 4 (bT 2 (.cW [.isl 1 (ak.1.map J),.isl 1 (ak.2.map J)]) false) 5),.aH (bH 6 (bT 2 (.agg (aQ bk)) false) 1)] (.aC (CI ak R) (qn bk aA)))
def Ft (de cl:Int)(gl jg:b0)(iW iD oq:Int)(aT:Bool)(aG:List Int)(b7:Int)(ae:List b0)(an:List Int)(a4:List Bool)(iJ:Bool)(iI:List Int)(nJ:Bool)(nF:List Int):(Int×(List (List bc)))→S:=fun (ft,bC)=>eD [(0,.ref 0 0 0 0),(1,.n .i64 de),(2,.n .i64 cl),(6,mz 2 0 2 gl),(7,.ref 5 0 0 0),(9,mz 2 0 2 jg),(10,.ref 6 0 0 0),(30,.bw 1 0 0 ae.length),(31,.n .i64 iW),(32,.n .i64 iD),(45,.n .i64 oq),(46,.n .i64 ft)] [[aq.mk 6 [(eG 1 0 0 ae.length aT aG 3 0 0 an.length b7 4 0 0 a4.length)] .live],(av 1 (bW 2 0 2) ae),(cU 2 aQ bC),(av 1 J an),(av 1 dB a4),[aq.mk 2 [[.b iJ,.isl 1 (iI.map J)]] .live],[aq.mk 2 [[.b nJ,.isl 1 (nF.map J)]] .live]]
def Fz (de cl:Int)(gl jg:b0)(iW iD oq:Int)(aT:Bool)(aG:List Int)(b7:Int)(ae:List b0)(an:List Int)(a4:List Bool)(iJ:Bool)(iI:List Int)(nJ:Bool)(nF:List Int):(List (List bc))→eJ
 | a=>⟨some 2,[(0,.ref 0 0 0 0),(1,.n .i64 de),(2,.n .i64 cl),(6,mz 2 0 2 gl),(7,.ref 5 0 0 0),(30,.bw 1 0 0 ae.length),(31,.n .i64 iW),(32,.n .i64 iD)],[[aq.mk 6 [(eG 1 0 0 ae.length aT aG 3 0 0 an.length b7 4 0 0 a4.length)] .live],(av 1 (bW 2 0 2) ae),(cU 2 aQ a),(av 1 J an),(av 1 dB a4),[aq.mk 2 [[.b iJ,.isl 1 (iI.map J)]] .live]]⟩
def vF (de cl:Int)(gl jg:b0)(iW iD oq:Int)(aT:Bool)(aG:List Int)(b7:Int)(ae:List b0)(an:List Int)(a4:List Bool)(iJ:Bool)(iI:List Int)(nJ:Bool)(nF:List Int)(ft:Int)(bC:List (List bc)):Option ((Int×(List (List bc)))⊕((List (List bc)))) :=
 if (decide (ft<oq))=true then
  jg >>= fun dQ =>
  bC[dQ.1]? >>= fun jc =>
  if 0≤ft∧ft<(dQ.2:Nat) then
  jc[(0+ft.toNat)]? >>= fun fY =>
  n4 fY (⟨iJ,iI⟩:bc) >>= fun bi =>
  n5 (⟨nJ,nF⟩:bc) >>= fun c0 =>
  if (c0 != (0:Int))=true then
   gl >>= fun uY =>
   bC[uY.1]? >>= fun yh =>
   if 0≤ft∧ft<(uY.2:Nat) then
   yh[(0+ft.toNat)]? >>= fun qO =>
   n5 qO >>= fun jw =>
   if (jw != (0:Int))=true then
    n4 (⟨nJ,nF⟩:bc) qO >>= fun py =>
    tC bi py >>= fun k1 =>
    sE k1 (⟨aT,aG⟩:bc) >>= fun lV =>
    some (.inl (U (ft+(1:Int)),bC.set dQ.1 (jc.set (0+ft.toNat) lV)))
   else
    sE bi (⟨aT,aG⟩:bc) >>= fun py =>
    some (.inl (U (ft+(1:Int)),bC.set dQ.1 (jc.set (0+ft.toNat) py)))
   else none
  else
   sE bi (⟨aT,aG⟩:bc) >>= fun gd =>
   some (.inl (U (ft+(1:Int)),bC.set dQ.1 (jc.set (0+ft.toNat) gd)))
  else none
 else
  some (.inr bC)
def BR (de cl:Int)(gl jg:b0)(iW iD oq:Int)(aT:Bool)(aG:List Int)(b7:Int)(ae:List b0)(an:List Int)(a4:List Bool)(iJ:Bool)(iI:List Int)(nJ:Bool)(nF:List Int)(ft:Int)(bC:List (List bc)):Option ((List (List bc))):=iter (fun w:Int×(List (List bc))=>vF de cl gl jg iW iD oq aT aG b7 ae an a4 iJ iI nJ nF w.1 w.2) (ft,bC)
theorem SM {de cl:Int}{gl jg:b0}{iW iD oq:Int}{aT:Bool}{aG:List Int}{b7:Int}{ae:List b0}{an:List Int}{a4:List Bool}{iJ:Bool}{iI:List Int}{nJ:Bool}{nF:List Int}{ft:Int}{bC:List (List bc)}:bQ (vF de cl gl jg iW iD oq aT aG b7 ae an a4 iJ iI nJ nF ft bC) (fj bo 128 5 104 [1,1,0,1,0,0,1,1,0,0,1,1,1,1,0,0] (Ft de cl gl jg iW iD oq aT aG b7 ae an a4 iJ iI nJ nF (ft,bC)) (Ft de cl gl jg iW iD oq aT aG b7 ae an a4 iJ iI nJ nF) (Fz de cl gl jg iW iD oq aT aG b7 ae an a4 iJ iI nJ nF)):=by
 unfold vF
 exact .ite (fun o =>
  .az fun dQ ab =>
  .az fun jc aF =>
  .bn fun br =>
  .az fun fY bx =>
  .az fun bi dO =>
  .az fun c0 ev =>
  (let jx:=ld (ix .live 2 aQ bC) kP aF;let t1:List cw:=[(ad 1),.ao true,(ad 2),.aH (ap 2 (ar (.eM 49 (.bw 2 (dQ.1+0) 0 dQ.2) (.gT (aq.mk 2 (jc.map aQ) .live) [])) (ar (.gT (aq.mk 2 (jc.map aQ) .live) (aQ fY)) (bH 1 (bT 2 (.agg (aQ bi)) false) 2))))];
  have a6:=((.bt o (n7 (d3:=2) (c:=0) (sz:=2) ab) jx br.1 br.2 jx (cD aQ bx) (tz bi dO) (.aC (rG c0 ev) (cp.n .i64 c0))):cL _);
  .ite (fun fo =>
  .az fun uY hD =>
  .az fun yh gh =>
  .bn fun j6 =>
  .az fun qO nS =>
  .az fun jw h6 =>
  (let jz:=ld (ix .live 2 aQ bC) kP gh;let t3:List cw:=t1.append [.aH (ap 1 (ar (bT 1 (.n .i64 c0) true) (ap 4 (ar (.eM 59 (.bw 2 (uY.1+0) 0 uY.2) (.gT (aq.mk 2 (yh.map aQ) .live) [])) (ar (.gT (aq.mk 2 (yh.map aQ) .live) (aQ qO)) (ar (bT 1 (.n .i64 jw) true) (ap 1 (ar (.ao true) []))))))))];
  have fa:=a6.aZ (.bt fo fo fo (n7 (d3:=2) (c:=0) (sz:=2) hD) jz j6.1 j6.2 fo (.e2 jz (cD aQ nS) fo (rG jw h6) (cp.n .i64 jw) fo fo));
  .ite (fun lI =>
  .az fun py qP =>
  .az fun k1 uX =>
  .az fun lV sm =>
  .ret (let aW:=ld (ix .live 2 aQ bC) kP gh;let bl:=ld (ix .live 2 aQ bC) kP aF;let cc:=dq [0,1,2,3,4,5,6];bS (t3.append [.ao true,.aH (ap 4 (ar (.eM 68 (.bw 2 (uY.1+0) 0 uY.2) (.gT (aq.mk 2 (yh.map aQ) .live) [])) (ar (.gT (aq.mk 2 (yh.map aQ) .live) (aQ qO)) (ar (bT 2 (.agg (aQ py)) false) (ar (bT 2 (.agg (aQ k1)) false) (ap 1 [])))))),.aH (ap 7 (ar (bT 2 (.agg (aQ lV)) false) (ar (.eM 74 (.bw 2 (dQ.1+0) 0 dQ.2) (.gT (aq.mk 2 (jc.map aQ) .live) [])) (ar (.gT (aq.mk 2 (jc.map aQ) .live) (aQ fY)) [])))),(ad 2),.bj [0,1,2,3,4,5,6] [.box [.id,.id,.id,.id,.id,.id],.bM (av 1 (bW 2 0 2) ae),.bM (cU 2 aQ (bC.set dQ.1 (jc.set (0+ft.toNat) lV))),.pure,.pure,.box [.id,.id],.box [.id,.id]] (bR [0,1,2,6,7,9,10,30,31,32,45,46])]) (fa.aZ (.bt lI (n7 (d3:=2) (c:=0) (sz:=2) hD) aW j6.1 j6.2 aW (cD aQ nS) (tz py qP) (.bt (L4 k1 uX) (F0 lV sm) (n7 (d3:=2) (c:=0) (sz:=2) ab) bl br.1 br.2 bl (cD aQ bx) (.c8 (eP cc 2 2 0 2 rfl ae) (pL (b8:=cc) (re (ix .live 2 aQ bC) dQ.1 (rc (dF aQ jc) (0+ft.toNat) lV (rfl:(setCells (aQ fY) 0 (aQ lV))=aQ lV))) (pi d1)) (aE 1 .live aD an) (aE 1 .live dT a4)))))))
  (fun lI =>
  .az fun py qP =>
  .ret (let cM:=ld (ix .live 2 aQ bC) kP aF;let eN:=dq [0,1,2,3,4,5,6];bS (t3.append [.ao false,.aH (ap 7 (ar (bT 2 (.agg (aQ py)) false) (ar (.eM 74 (.bw 2 (dQ.1+0) 0 dQ.2) (.gT (aq.mk 2 (jc.map aQ) .live) [])) (ar (.gT (aq.mk 2 (jc.map aQ) .live) (aQ fY)) [])))),(ad 2),.bj [0,1,2,3,4,5,6] [.box [.id,.id,.id,.id,.id,.id],.bM (av 1 (bW 2 0 2) ae),.bM (cU 2 aQ (bC.set dQ.1 (jc.set (0+ft.toNat) py))),.pure,.pure,.box [.id,.id],.box [.id,.id]] (bR [0,1,2,6,7,9,10,30,31,32,45,46])]) (fa.aZ (.bt lI (F0 py qP) (n7 (d3:=2) (c:=0) (sz:=2) ab) cM br.1 br.2 cM (cD aQ bx) (.c8 (eP eN 2 2 0 2 rfl ae) (pL (b8:=eN) (re (ix .live 2 aQ bC) dQ.1 (rc (dF aQ jc) (0+ft.toNat) py (rfl:(setCells (aQ fY) 0 (aQ py))=aQ py))) (pi d1)) (aE 1 .live aD an) (aE 1 .live dT a4))))))))
  (fun fo =>
  .az fun gd hD =>
  .ret (let gH:=ld (ix .live 2 aQ bC) kP aF;let h9:=dq [0,1,2,3,4,5,6];bS (t1.append [.aH (ap 1 (ar (bT 1 (.n .i64 c0) true) (ap 2 (dk 6 (ar (.ao false) []))))),.ao false,.aH (ap 7 (ar (bT 2 (.agg (aQ gd)) false) (ar (.eM 74 (.bw 2 (dQ.1+0) 0 dQ.2) (.gT (aq.mk 2 (jc.map aQ) .live) [])) (ar (.gT (aq.mk 2 (jc.map aQ) .live) (aQ fY)) [])))),(ad 2),.bj [0,1,2,3,4,5,6] [.box [.id,.id,.id,.id,.id,.id],.bM (av 1 (bW 2 0 2) ae),.bM (cU 2 aQ (bC.set dQ.1 (jc.set (0+ft.toNat) gd))),.pure,.pure,.box [.id,.id],.box [.id,.id]] (bR [0,1,2,6,7,9,10,30,31,32,45,46])]) (a6.aZ (.bt fo fo fo fo fo fo fo gC (.bt (F0 gd hD) (n7 (d3:=2) (c:=0) (sz:=2) ab) gH br.1 br.2 gH (cD aQ bx) (eP h9 2 2 0 2 rfl ae) (.bZ (pL (b8:=h9) (re (ix .live 2 aQ bC) dQ.1 (rc (dF aQ jc) (0+ft.toNat) gd (rfl:(setCells (aQ fY) 0 (aQ gd))=aQ gd))) (pi d1)) (aE 1 .live aD an) (aE 1 .live dT a4)))))))))
  (fun o =>
  .ret (let fx:=dq [0,1,2,3,4,5];bS [(ad 1),.ao false,.bj [0,1,2,3,4,5] [.box [.id,.id,.id,.id,.id,.id],.bM (av 1 (bW 2 0 2) ae),.bM (cU 2 aQ bC),.pure,.pure,.box [.id,.id]] (bR [0,1,2,6,7,30,31,32])] (.ep o (eP fx 2 2 0 2 rfl ae) (eS fx 2 d1 bC) (aE 1 .live aD an) (aE 1 .live dT a4))))
theorem S6 {de cl:Int}{gl jg:b0}{iW iD oq:Int}{aT:Bool}{aG:List Int}{b7:Int}{ae:List b0}{an:List Int}{a4:List Bool}{iJ:Bool}{iI:List Int}{nJ:Bool}{nF:List Int}{ft:Int}{bC:List (List bc)}{r} (h:BR de cl gl jg iW iD oq aT aG b7 ae an a4 iJ iI nJ nF ft bC=some r):fk bo 128 5 104 [1,1,0,1,0,0,1,1,0,0,1,1,1,1,0,0] (Ft de cl gl jg iW iD oq aT aG b7 ae an a4 iJ iI nJ nF) (Fz de cl gl jg iW iD oq aT aG b7 ae an a4 iJ iI nJ nF) (ft,bC) r:=fl (fun _=>SM) h
def Fu (de cl:Int)(gl:b0)(iW:Int)(aT:Bool)(aG:List Int)(b7:Int)(ae:List b0)(an:List Int)(a4:List Bool)(iJ:Bool)(iI:List Int):(Int×(List (List bc)))→S:=fun (iD,bC)=>eD [(0,.ref 0 0 0 0),(1,.n .i64 de),(2,.n .i64 cl),(6,mz 2 0 2 gl),(7,.ref 5 0 0 0),(30,.bw 1 0 0 ae.length),(31,.n .i64 iW),(32,.n .i64 iD)] [[aq.mk 6 [(eG 1 0 0 ae.length aT aG 3 0 0 an.length b7 4 0 0 a4.length)] .live],(av 1 (bW 2 0 2) ae),(cU 2 aQ bC),(av 1 J an),(av 1 dB a4),[aq.mk 2 [[.b iJ,.isl 1 (iI.map J)]] .live]]
def FA (de cl:Int)(gl:b0)(iW:Int)(aT:Bool)(aG:List Int)(b7:Int)(ae:List b0)(an:List Int)(a4:List Bool)(iJ:Bool)(iI:List Int):(List (List bc))→eJ
 | a=>⟨some 0,[(0,.ref 0 0 0 0),(1,.n .i64 de),(2,.n .i64 cl),(7,.ref 5 0 0 0)],[[aq.mk 6 [(eG 1 0 0 ae.length aT aG 3 0 0 an.length b7 4 0 0 a4.length)] .live],(av 1 (bW 2 0 2) ae),(cU 2 aQ a),(av 1 J an),(av 1 dB a4),[aq.mk 2 [[.b iJ,.isl 1 (iI.map J)]] .live]]⟩
def vG (de cl:Int)(gl:b0)(iW:Int)(aT:Bool)(aG:List Int)(b7:Int)(ae:List b0)(an:List Int)(a4:List Bool)(iJ:Bool)(iI:List Int)(iD:Int)(bC:List (List bc)):Option ((Int×(List (List bc)))⊕((List (List bc)))) :=
 if (decide (iD<iW))=true then
  if 0≤iD∧iD<(ae.length:Nat) then
  ae[(0+iD.toNat)]? >>= fun aU =>
  if (iD == de)=true then
   some (.inl (U (iD+(1:Int)),bC))
  else
   aU >>= fun n2 =>
   bC[n2.1]? >>= fun Bw =>
   if 0≤cl∧cl<(n2.2:Nat) then
   Bw[(0+cl.toNat)]? >>= fun px =>
   BR de cl gl aU iW iD ((n2.2:Nat):Int) aT aG b7 ae an a4 iJ iI px.c6 px.cK 0 bC >>= fun dv =>
   some (.inl (U (iD+(1:Int)),dv))
   else none
  else none
 else
  some (.inr bC)
def BS (de cl:Int)(gl:b0)(iW:Int)(aT:Bool)(aG:List Int)(b7:Int)(ae:List b0)(an:List Int)(a4:List Bool)(iJ:Bool)(iI:List Int)(iD:Int)(bC:List (List bc)):Option ((List (List bc))):=iter (fun w:Int×(List (List bc))=>vG de cl gl iW aT aG b7 ae an a4 iJ iI w.1 w.2) (iD,bC)
theorem SN {de cl:Int}{gl:b0}{iW:Int}{aT:Bool}{aG:List Int}{b7:Int}{ae:List b0}{an:List Int}{a4:List Bool}{iJ:Bool}{iI:List Int}{iD:Int}{bC:List (List bc)}:bQ (vG de cl gl iW aT aG b7 ae an a4 iJ iI iD bC) (fj bo 128 5 104 [1,1,0,1,0,0] (Fu de cl gl iW aT aG b7 ae an a4 iJ iI (iD,bC)) (Fu de cl gl iW aT aG b7 ae an a4 iJ iI) (FA de cl gl iW aT aG b7 ae an a4 iJ iI)):=by
 unfold vG
 exact .ite (fun o =>
  .bn fun R =>
  .az fun aU aA =>
  (let t1:List cw:=[(ad 1),.ao true,.aH (bH 2 (.cB ((bW 2 0 2) aU)) 2),(ad 3)];
  have a6:=((.c8 o R.1 R.2 (cD (bW 2 0 2) aA)):cL _);
  .ite (fun aF =>
  .ret (let aW:=dq [0,1,2,3,4,5];bS (t1.append [.ao true,(ad 2),.bj [0,1,2,3,4,5] [.box [.id,.id,.id,.id,.id,.id],.bM (av 1 (bW 2 0 2) ae),.bM (cU 2 aQ bC),.pure,.pure,.box [.id,.id]] (bR [0,1,2,6,7,30,31,32])]) (a6.aZ (.ep aF (eP aW 2 2 0 2 rfl ae) (eS aW 2 d1 bC) (aE 1 .live aD an) (aE 1 .live dT a4)))))
  (fun aF =>
  .az fun n2 bU =>
  .az fun Bw c2 =>
  .bn fun dO =>
  .az fun px ev =>
  .az fun dv eT =>
  .ret (let bl:=ld (ix .live 2 aQ bC) kP c2;let cc:=dq [0,1,2,3,4,5,19];let cM:=dq [0,1,2,3,4,5];bS (t1.append [.ao false,.aH (ap 2 (ar (.eM 40 (.bw 2 (n2.1+0) 0 n2.2) (.gT (aq.mk 2 (Bw.map aQ) .live) [])) (ar (.gT (aq.mk 2 (Bw.map aQ) .live) (aQ px)) (ap 2 [])))),.aH (bH 1 (.eM 44 (.bw 2 (n2.1+0) 0 n2.2) (.gT (aq.mk 2 (Bw.map aQ) .live) [])) 1),.bj [0,1,2,3,4,5,19] [.box [.id,.id,.id,.id,.id,.id],.bM (av 1 (bW 2 0 2) ae),.bM (cU 2 aQ bC),.pure,.pure,.box [.id,.id],.box [.id,.id]] (bR [0,1,2,6,7,9,10,30,31,32,45,46]),(Fz de cl gl aU iW iD ((n2.2:Nat):Int) aT aG b7 ae an a4 iJ iI px.c6 px.cK dv).fW,(ad 2),.bj [0,1,2,3,4,5] [.box [.id,.id,.id,.id,.id,.id],.bM (av 1 (bW 2 0 2) ae),.bM (cU 2 aQ dv),.pure,.pure,.box [.id,.id]] (bR [0,1,2,6,7,30,31,32])]) (a6.aZ (.bt aF (n7 (d3:=2) (c:=0) (sz:=2) bU) bl dO.1 dO.2 bl (cD aQ ev) (n7 (d3:=2) (c:=0) (sz:=2) bU) (.bt bl (eP cc 2 2 0 2 rfl ae) (eS cc 2 d1 bC) (aE 1 .live aD an) (aE 1 .live dT a4) (S6 eT) (eP cM 2 2 0 2 rfl ae) (eS cM 2 d1 dv) (.aC (aE 1 .live aD an) (aE 1 .live dT a4)))))))))
  (fun o =>
  .ret (let eN:=dq [0,1,2,3,4,5];bS [(ad 1),.ao false,.bj [0,1,2,3,4,5] [.box [.id,.id,.id,.id,.id,.id],.bM (av 1 (bW 2 0 2) ae),.bM (cU 2 aQ bC),.pure,.pure,.box [.id,.id]] (bR [0,1,2,7])] (.ep o (eP eN 2 2 0 2 rfl ae) (eS eN 2 d1 bC) (aE 1 .live aD an) (aE 1 .live dT a4))))
theorem S7 {de cl:Int}{gl:b0}{iW:Int}{aT:Bool}{aG:List Int}{b7:Int}{ae:List b0}{an:List Int}{a4:List Bool}{iJ:Bool}{iI:List Int}{iD:Int}{bC:List (List bc)}{r} (h:BS de cl gl iW aT aG b7 ae an a4 iJ iI iD bC=some r):fk bo 128 5 104 [1,1,0,1,0,0] (Fu de cl gl iW aT aG b7 ae an a4 iJ iI) (FA de cl gl iW aT aG b7 ae an a4 iJ iI) (iD,bC) r:=fl (fun _=>SN) h
def Fv (jg:b0)(iT iU oc:Int)(aT:Bool)(aG:List Int)(b7:Int)(ae:List b0)(an:List Int)(a4:List Bool):(Int×(List (List bc)))→S:=fun (mH,bC)=>eD [(14,mz 2 0 2 jg),(107,.bw 1 0 0 ae.length),(108,.n .i64 iT),(109,.n .i64 iU),(114,.n .i64 oc),(115,.n .i64 mH)] [[aq.mk 6 [(eG 1 0 0 ae.length aT aG 3 0 0 an.length b7 4 0 0 a4.length)] .live],(av 1 (bW 2 0 2) ae),(cU 2 aQ bC),(av 1 J an),(av 1 dB a4)]
def FB (jg:b0)(iT iU oc:Int)(aT:Bool)(aG:List Int)(b7:Int)(ae:List b0)(an:List Int)(a4:List Bool):(List (List bc))→eJ
 | a=>⟨some 6,[(107,.bw 1 0 0 ae.length),(108,.n .i64 iT),(109,.n .i64 iU)],[[aq.mk 6 [(eG 1 0 0 ae.length aT aG 3 0 0 an.length b7 4 0 0 a4.length)] .live],(av 1 (bW 2 0 2) ae),(cU 2 aQ a),(av 1 J an),(av 1 dB a4)]⟩
def vH (jg:b0)(iT iU oc:Int)(aT:Bool)(aG:List Int)(b7:Int)(ae:List b0)(an:List Int)(a4:List Bool)(mH:Int)(bC:List (List bc)):Option ((Int×(List (List bc)))⊕((List (List bc)))) :=
 if (decide (mH<oc))=true then
  jg >>= fun dQ =>
  bC[dQ.1]? >>= fun jc =>
  if 0≤mH∧mH<(dQ.2:Nat) then
  jc[(0+mH.toNat)]? >>= fun fY =>
  o7 fY >>= fun bi =>
  some (.inl (U (mH+(1:Int)),bC.set dQ.1 (jc.set (0+mH.toNat) bi)))
  else none
 else
  some (.inr bC)
def BT (jg:b0)(iT iU oc:Int)(aT:Bool)(aG:List Int)(b7:Int)(ae:List b0)(an:List Int)(a4:List Bool)(mH:Int)(bC:List (List bc)):Option ((List (List bc))):=iter (fun w:Int×(List (List bc))=>vH jg iT iU oc aT aG b7 ae an a4 w.1 w.2) (mH,bC)
theorem SO {jg:b0}{iT iU oc:Int}{aT:Bool}{aG:List Int}{b7:Int}{ae:List b0}{an:List Int}{a4:List Bool}{mH:Int}{bC:List (List bc)}:bQ (vH jg iT iU oc aT aG b7 ae an a4 mH bC) (fj bo 128 5 104 [1,1,1,1,1,1,1,1,0,0,1,1,0,0,1,1,0,0] (Fv jg iT iU oc aT aG b7 ae an a4 (mH,bC)) (Fv jg iT iU oc aT aG b7 ae an a4) (FB jg iT iU oc aT aG b7 ae an a4)):=by
 unfold vH
 exact .ite (fun o =>
  .az fun dQ ab =>
  .az fun jc aF =>
  .bn fun br =>
  .az fun fY bx =>
  .az fun bi dO =>
  .ret (let aW:=ld (ix .live 2 aQ bC) kP aF;bS [(ad 1),.ao true,(ad 2),.aH (ap 4 (ar (.eM 120 (.bw 2 (dQ.1+0) 0 dQ.2) (.gT (aq.mk 2 (jc.map aQ) .live) [])) (ar (.gT (aq.mk 2 (jc.map aQ) .live) (aQ fY)) (ar (bT 1 (.agg (aQ bi)) false) (ar (.eM 118 (.bw 2 (dQ.1+0) 0 dQ.2) (.gT (aq.mk 2 (jc.map aQ) .live) [])) (ar (.gT (aq.mk 2 (jc.map aQ) .live) (aQ fY)) [])))))),(ad 2),.bj [0,1,2,3,4] [.box [.id,.id,.id,.id,.id,.id],.bM (av 1 (bW 2 0 2) ae),.bM (cU 2 aQ (bC.set dQ.1 (jc.set (0+mH.toNat) bi))),.pure,.pure] (bR [14,107,108,109,114,115])] (.bt o (n7 (d3:=2) (c:=0) (sz:=2) ab) aW br.1 br.2 aW (cD aQ bx) (BQ bi dO) (.bt (n7 (d3:=2) (c:=0) (sz:=2) ab) aW br.1 br.2 aW (cD aQ bx) (eP (dq [0,1,2,3,4]) 2 2 0 2 rfl ae) (pL (b8:=(dq [0,1,2,3,4])) (re (ix .live 2 aQ bC) dQ.1 (rc (dF aQ jc) (0+mH.toNat) bi (rfl:(setCells (aQ fY) 0 (aQ bi))=aQ bi))) (pi d1)) (.aC (aE 1 .live aD an) (aE 1 .live dT a4))))))
  (fun o =>
  .ret (bS [(ad 1),.ao false,.bj [0,1,2,3,4] [.box [.id,.id,.id,.id,.id,.id],.bM (av 1 (bW 2 0 2) ae),.bM (cU 2 aQ bC),.pure,.pure] (bR [107,108,109])] (.ep o (eP (dq [0,1,2,3,4]) 2 2 0 2 rfl ae) (eS (dq [0,1,2,3,4]) 2 d1 bC) (aE 1 .live aD an) (aE 1 .live dT a4))))
theorem S8 {jg:b0}{iT iU oc:Int}{aT:Bool}{aG:List Int}{b7:Int}{ae:List b0}{an:List Int}{a4:List Bool}{mH:Int}{bC:List (List bc)}{r} (h:BT jg iT iU oc aT aG b7 ae an a4 mH bC=some r):fk bo 128 5 104 [1,1,1,1,1,1,1,1,0,0,1,1,0,0,1,1,0,0] (Fv jg iT iU oc aT aG b7 ae an a4) (FB jg iT iU oc aT aG b7 ae an a4) (mH,bC) r:=fl (fun _=>SO) h
def Fw (iT:Int)(aT:Bool)(aG:List Int)(b7:Int)(ae:List b0)(an:List Int)(a4:List Bool):(Int×(List (List bc)))→S:=fun (iU,bC)=>eD [(107,.bw 1 0 0 ae.length),(108,.n .i64 iT),(109,.n .i64 iU)] [[aq.mk 6 [(eG 1 0 0 ae.length aT aG 3 0 0 an.length b7 4 0 0 a4.length)] .live],(av 1 (bW 2 0 2) ae),(cU 2 aQ bC),(av 1 J an),(av 1 dB a4)]
def FC (iT:Int)(aT:Bool)(aG:List Int)(b7:Int)(ae:List b0)(an:List Int)(a4:List Bool):(List (List bc))→eJ
 | a=>⟨some 4,[],[[aq.mk 6 [(eG 1 0 0 ae.length aT aG 3 0 0 an.length b7 4 0 0 a4.length)] .live],(av 1 (bW 2 0 2) ae),(cU 2 aQ a),(av 1 J an),(av 1 dB a4)]⟩
def vI (iT:Int)(aT:Bool)(aG:List Int)(b7:Int)(ae:List b0)(an:List Int)(a4:List Bool)(iU:Int)(bC:List (List bc)):Option ((Int×(List (List bc)))⊕((List (List bc)))) :=
 if (decide (iU<iT))=true then
  if 0≤iU∧iU<(ae.length:Nat) then
  ae[(0+iU.toNat)]? >>= fun aU =>
  aU >>= fun lu =>
  bC[lu.1]? >>= fun k7 =>
  BT aU iT iU ((lu.2:Nat):Int) aT aG b7 ae an a4 0 bC >>= fun bi =>
  some (.inl (U (iU+(1:Int)),bi))
  else none
 else
  some (.inr bC)
def yJ (iT:Int)(aT:Bool)(aG:List Int)(b7:Int)(ae:List b0)(an:List Int)(a4:List Bool)(iU:Int)(bC:List (List bc)):Option ((List (List bc))):=iter (fun w:Int×(List (List bc))=>vI iT aT aG b7 ae an a4 w.1 w.2) (iU,bC)
theorem SP {iT:Int}{aT:Bool}{aG:List Int}{b7:Int}{ae:List b0}{an:List Int}{a4:List Bool}{iU:Int}{bC:List (List bc)}:bQ (vI iT aT aG b7 ae an a4 iU bC) (fj bo 128 5 104 [1,1,1,1,1,1,1,1,0,0] (Fw iT aT aG b7 ae an a4 (iU,bC)) (Fw iT aT aG b7 ae an a4) (FC iT aT aG b7 ae an a4)):=by
 unfold vI
 exact .ite (fun o =>
  .bn fun R =>
  .az fun aU aA =>
  .az fun lu br =>
  .az fun k7 bx =>
  .az fun bi dO =>
  .ret (let aW:=dq [0,1,2,3,4];let bl:=eP aW 2 2 0 2 rfl ae;bS [(ad 1),.ao true,.aH (bH 1 (.cB ((bW 2 0 2) aU)) 1),.aH (bH 1 (.eM 113 (.bw 2 (lu.1+0) 0 lu.2) (.gT (aq.mk 2 (k7.map aQ) .live) [])) 1),.bj [0,1,2,3,4] [.box [.id,.id,.id,.id,.id,.id],.bM (av 1 (bW 2 0 2) ae),.bM (cU 2 aQ bC),.pure,.pure] (bR [14,107,108,109,114,115]),(FB aU iT iU ((lu.2:Nat):Int) aT aG b7 ae an a4 bi).fW,(ad 2),.bj [0,1,2,3,4] [.box [.id,.id,.id,.id,.id,.id],.bM (av 1 (bW 2 0 2) ae),.bM (cU 2 aQ bi),.pure,.pure] (bR [107,108,109])] (.bt o R.1 R.2 (cD (bW 2 0 2) aA) (n7 (d3:=2) (c:=0) (sz:=2) br) (ld (ix .live 2 aQ bC) kP bx) bl (eS aW 2 d1 bC) (.e2 (aE 1 .live aD an) (aE 1 .live dT a4) (S8 dO) bl (eS aW 2 d1 bi) (aE 1 .live aD an) (aE 1 .live dT a4)))))
  (fun o =>
  .ret (bS [(ad 1),.ao false,.bj [0,1,2,3,4] [.box [.id,.id,.id,.id,.id,.id],.bM (av 1 (bW 2 0 2) ae),.bM (cU 2 aQ bC),.pure,.pure] []] (.ep o (eP (dq [0,1,2,3,4]) 2 2 0 2 rfl ae) (eS (dq [0,1,2,3,4]) 2 d1 bC) (aE 1 .live aD an) (aE 1 .live dT a4))))
theorem S9 {iT:Int}{aT:Bool}{aG:List Int}{b7:Int}{ae:List b0}{an:List Int}{a4:List Bool}{iU:Int}{bC:List (List bc)}{r} (h:yJ iT aT aG b7 ae an a4 iU bC=some r):fk bo 128 5 104 [1,1,1,1,1,1,1,1,0,0] (Fw iT aT aG b7 ae an a4) (FC iT aT aG b7 ae an a4) (iU,bC) r:=fl (fun _=>SP) h
def v5 (de cl:Int)(b1:Bool)(cx:List Int)(el:Int)(cN:List b0)(lo:List (List bc))(c3:List Int)(gX:List Bool):Option (Bool×(List Int)×(List (List bc))×(List Int)) :=
 if 0≤de∧de<(cN.length:Nat) then
 cN[(0+de.toNat)]? >>= fun e1 =>
 e1 >>= fun nw =>
 lo[nw.1]? >>= fun yz =>
 if 0≤cl∧cl<(nw.2:Nat) then
 yz[(0+cl.toNat)]? >>= fun gK =>
 BS de cl e1 ((cN.length:Nat):Int) b1 cx el cN c3 gX gK.c6 gK.cK 0 lo >>= fun c0 =>
 if 0≤de∧de<(c3.length:Nat) then
 if (0+de.toNat)<c3.length then
 n5 gK >>= fun eX =>
 if (decide ((0:Int)<eX))=true then
  some (gK.c6,gK.cK,c0,c3.set (0+de.toNat) cl)
 else
  o7 gK >>= fun eZ =>
  yJ ((cN.length:Nat):Int) eZ.c6 eZ.cK el cN (c3.set (0+de.toNat) cl) gX 0 c0 >>= fun i9 =>
  some (eZ.c6,eZ.cK,i9,c3.set (0+de.toNat) cl)
 else none
 else none
 else none
 else none
theorem LY {de cl:Int}{b1:Bool}{cx:List Int}{el:Int}{cN:List b0}{lo:List (List bc)}{c3:List Int}{gX:List Bool}:bQ (v5 de cl b1 cx el cN lo c3 gX) (fun a=>Con bo 104 [.ref 0 0 0 0,.n .i64 de,.n .i64 cl] [[aq.mk 6 [(eG 1 0 0 cN.length b1 cx 3 0 0 c3.length el 4 0 0 gX.length)] .live],(av 1 (bW 2 0 2) cN),(cU 2 aQ lo),(av 1 J c3),(av 1 dB gX)] (.cW []) [[aq.mk 6 [(eG 1 0 0 cN.length a.1 a.2.1 3 0 0 a.2.2.2.length el 4 0 0 gX.length)] .live],(av 1 (bW 2 0 2) cN),(cU 2 aQ a.2.2.1),(av 1 J a.2.2.2),(av 1 dB gX)]):=by
 unfold v5
 exact .bn fun o =>
  .az fun e1 ab =>
  .az fun nw aF =>
  .az fun yz bU =>
  .bn fun bx =>
  .az fun gK dO =>
  .az fun c0 ev =>
  .bn fun fo =>
  .bn fun eT =>
  .az fun eX h5 =>
  (let eN:=ld (ix .live 2 aQ lo) kP bU;let gH:=dq [0,1,2,3,4,17];let t1:List cw:=[.aH (bH 6 (.cB ((bW 2 0 2) e1)) 1),.aH (ap 2 (ar (.eM 23 (.bw 2 (nw.1+0) 0 nw.2) (.gT (aq.mk 2 (yz.map aQ) .live) [])) (ar (.gT (aq.mk 2 (yz.map aQ) .live) (aQ gK)) (ap 2 [])))),(ad 6),.bj [0,1,2,3,4,17] [.box [.id,.id,.id,.id,.id,.id],.bM (av 1 (bW 2 0 2) cN),.bM (cU 2 aQ lo),.pure,.pure,.box [.id,.id]] (bR [0,1,2,6,7,30,31,32]),(FA de cl e1 ((cN.length:Nat):Int) b1 cx el cN c3 gX gK.c6 gK.cK c0).fW,(ad 5),.aH (ap 7 (ar .cT [])),.aH (bH 1 (bT 1 (.n .i64 eX) true) 1)];
  have a6:=((.bt o.1 o.2 (cD (bW 2 0 2) ab) (n7 (d3:=2) (c:=0) (sz:=2) aF) eN bx.1 bx.2 eN (.bt (cD aQ dO) (eP gH 2 2 0 2 rfl cN) (eS gH 2 d1 lo) (aE 1 .live aD c3) (aE 1 .live dT gX) (S7 ev) fo.1 fo.2 (.c8 (hb J eT) (gB 1) (rG eX h5) (cp.n .i64 eX)))):cL _);
  .ite (fun gh =>
  .ret (hg (t1.append [.ao true]) [0,1,2,3,4] [.bM [aq.mk 6 [(eG 1 0 0 cN.length gK.c6 gK.cK 3 0 0 ((c3.set (0+de.toNat) cl).length) el 4 0 0 gX.length)] .live],.bM (av 1 (bW 2 0 2) cN),.bM (cU 2 aQ c0),.dw (av 1 J (c3.set (0+de.toNat) cl)),.pure] (a6.aZ (.e2 gh (kr (show aq.mk 6 [(eG 1 0 0 cN.length gK.c6 gK.cK 3 0 0 ((c3.set (0+de.toNat) cl).length) el 4 0 0 gX.length)] .live=j5 (dq [0,1,2,3,4]) (aq.mk 6 [(eG 1 0 0 cN.length gK.c6 gK.cK 3 0 0 c3.length el 4 0 0 gX.length)] .live) from (congrArg (fun acY=>aq.mk 6 [(eG 1 0 0 cN.length gK.c6 gK.cK 3 0 0 acY el 4 0 0 gX.length)] .live) (gP (fq c3) (0+de.toNat) cl).symm)) rW) (eP (dq [0,1,2,3,4]) 2 2 0 2 rfl cN) (eS (dq [0,1,2,3,4]) 2 d1 c0) (d4 1 .live (fs (dF J c3) (0+de.toNat) cl)) (aE 1 .live aD (c3.set (0+de.toNat) cl)) (aE 1 .live dT gX)))))
  (fun gh =>
  .az fun eZ gG =>
  .az fun i9 oE =>
  .ret (let aW:=eG 1 0 0 cN.length eZ.c6 eZ.cK 3 0 0 ((c3.set (0+de.toNat) cl).length) el 4 0 0 gX.length;let bl:=dq [0,1,2,3,4];let cc:=aE 1 .live aD (c3.set (0+de.toNat) cl);let cM:=eP bl 2 2 0 2 rfl cN;hg (t1.append [.ao false,.aH (bH 2 (bT 1 (.agg (aQ eZ)) false) 3),(ad 6),.bj [0,1,2,3,4] [.box [.id,.id,.id,.len ((c3.set (0+de.toNat) cl).length),.id,.id],.bM (av 1 (bW 2 0 2) cN),.bM (cU 2 aQ c0),.dw (av 1 J (c3.set (0+de.toNat) cl)),.pure] (bR [107,108,109]),(FC ((cN.length:Nat):Int) eZ.c6 eZ.cK el cN (c3.set (0+de.toNat) cl) gX i9).fW]) [0,1,2,3,4] [.bM [aq.mk 6 [aW] .live],.bM (av 1 (bW 2 0 2) cN),.bM (cU 2 aQ i9),.pure,.pure] (a6.aZ (.bt gh (BQ eZ gG) (gP (fq c3) (0+de.toNat) cl) cM (eS bl 2 d1 c0) (d4 1 .live (fs (dF J c3) (0+de.toNat) cl)) cc (aE 1 .live dT gX) (.fb (S9 oE) (jb bl 6 [aW] [aW] rfl) cM (eS bl 2 d1 i9) cc (aE 1 .live dT gX)))))))
def Fi (cY:Int)(aT:Bool)(aG:List Int)(ae:List b0)(bC:List (List bc))(an:List Int)(a4:List Bool)(bz:List Int):Int→S:=fun cv=>eD [(0,.ref 0 0 0 0),(1,.bw 5 0 0 bz.length),(5,.b false),(13,.n .i64 cY),(14,.n .i64 cv)] [[aq.mk 6 [(eG 1 0 0 ae.length aT aG 3 0 0 an.length cY 4 0 0 a4.length)] .live],(av 1 (bW 2 0 2) ae),(cU 2 aQ bC),(av 1 J an),(av 1 dB a4),(av 1 J bz)]
def BG (cY:Int)(aT:Bool)(aG:List Int)(ae:List b0)(bC:List (List bc))(an:List Int)(a4:List Bool)(bz:List Int):((Bool×Bool×(List Int)×(List (List bc))×(List Int))⊕(Unit))→eJ
 | .inl a=>⟨some 2,[(0,.ref 0 0 0 0),(1,.bw 5 0 0 bz.length),(5,.b a.1)],[[aq.mk 6 [(eG 1 0 0 ae.length a.2.1 a.2.2.1 3 0 0 a.2.2.2.2.length cY 4 0 0 a4.length)] .live],(av 1 (bW 2 0 2) ae),(cU 2 aQ a.2.2.2.1),(av 1 J a.2.2.2.2),(av 1 dB a4),(av 1 J bz)]⟩
 | .inr a=>⟨none,[(4,.b false)],[[aq.mk 6 [(eG 1 0 0 ae.length aT aG 3 0 0 an.length cY 4 0 0 a4.length)] .live],(av 1 (bW 2 0 2) ae),(cU 2 aQ bC),(av 1 J an),(av 1 dB a4),(av 1 J bz)]⟩
def vA (cY:Int)(aT:Bool)(aG:List Int)(ae:List b0)(bC:List (List bc))(an:List Int)(a4:List Bool)(bz:List Int)(cv:Int):Option ((Int)⊕((Bool×Bool×(List Int)×(List (List bc))×(List Int))⊕(Unit))) :=
 if (decide (cv<cY))=true then
  if 0≤cv∧cv<(a4.length:Nat) then
  a4[(0+cv.toNat)]? >>= fun aU =>
  if aU=true then
   w4 an cv >>= fun cj =>
   if cj=true then
    some (.inl (U (cv+(1:Int))))
   else
    if ae.all (uU bC)=true then
    wA (⟨ae.map (lS bC),(⟨aT,aG⟩:bc),an,cY,a4⟩:qp) bz cv >>= fun en =>
    if (decide (en≤(0:Int)))=true then
     some (.inl (U (cv+(1:Int))))
    else
     yL (⟨ae.map (lS bC),(⟨aT,aG⟩:bc),an,cY,a4⟩:qp) cv >>= fun dv =>
     if (decide (dv<(0:Int)))=true then
      some (.inr (.inr ()))
     else
      v5 dv cv aT aG cY ae bC an a4 >>= fun dP =>
      some (.inr (.inl (true,dP.1,dP.2.1,dP.2.2.1,dP.2.2.2)))
    else none
  else
   some (.inl (U (cv+(1:Int))))
  else none
 else
  some (.inr (.inl (false,aT,aG,bC,an)))
def vM (cY:Int)(aT:Bool)(aG:List Int)(ae:List b0)(bC:List (List bc))(an:List Int)(a4:List Bool)(bz:List Int)(cv:Int):Option ((Bool×Bool×(List Int)×(List (List bc))×(List Int))⊕(Unit)):=iter (fun w:Int=>vA cY aT aG ae bC an a4 bz w) cv
theorem Sz {cY:Int}{aT:Bool}{aG:List Int}{ae:List b0}{bC:List (List bc)}{an:List Int}{a4:List Bool}{bz:List Int}{cv:Int}:bQ (vA cY aT aG ae bC an a4 bz cv) (fj bo 87 6 84 [1,0,1,0,0,1,0,1,1,0,0] (Fi cY aT aG ae bC an a4 bz cv) (Fi cY aT aG ae bC an a4 bz) (BG cY aT aG ae bC an a4 bz)):=by
 unfold vA
 exact .ite (fun o =>
  .bn fun R =>
  .az fun aU aA =>
  (let t1:List cw:=[(ad 1),.ao true,(ad 2)];
  .ite (fun aF =>
  .az fun cj bU =>
  (have a6:=((.bt o R.1 R.2 (cD dB aA) (dc aF) (dc aF) (dc aF) (dc aF) (.hh (dc aF) (dc aF) (ia J an) (ht J an) (eF aD an) (MX cj bU) (cp.b cj) (dc aF))):cL _);
  .ite (fun bx =>
  .ret (let aW:=dq [0,1,2,3,4,5];bS (t1.append [.aH (ap 6 (ar (.cB (dB aU)) (ap 7 (ar (.call {ac:=[.bF (.b9 (.e5 (an.map J))),ii],r:= .b cj,c9:=true,dd:=[3]}) (ar (.ao false) (ap 1 (dk 5 (ar (.ao true) [])))))))),.ao true,(ad 2),.bj [0,1,2,3,4,5] [.box [.id,.id,.id,.id,.id,.id],.bM (av 1 (bW 2 0 2) ae),.bM (cU 2 aQ bC),.pure,.pure,.pure] (bR [0,1,5,13,14])]) (a6.aZ (.bt bx bx bx bx bx bx ca (eP aW 2 2 0 2 rfl ae) (.c8 (eS aW 2 d1 bC) (aE 1 .live aD an) (aE 1 .live dT a4) (aE 1 .live aD bz))))))
  (fun bx =>
  .bn fun c2 =>
  .az fun en d2 =>
  (let t3:List cw:=t1.append [.aH (ap 6 (ar (.cB (dB aU)) (ap 7 (ar (.call {ac:=[.bF (.b9 (.e5 (an.map J))),ii],r:= .b cj,c9:=true,dd:=[3]}) (ar (.ao false) (ap 4 (ar (.call {ac:=[.bF (.ptr [.view 2 (aq.mk 1 (ae.map (bW 2 0 2)) .live) ((ae.map (lS bC)).map (e7 2 aQ)),.id,.id,.e5 (an.map J),.id,.e5 (a4.map dB)]),.bF (.b9 (.e5 (bz.map J))),ii],r:= .n .i64 en,c9:=true,dd:=[0,1,2,3,4,5]}) (ap 1 (ar (.ao false) [])))))))))];
  have fa:=a6.aZ (.bt bx bx bx bx (rfl:c7 (some (av 1 (bW 2 0 2) ae)) 0=some (aq.mk 1 (ae.map (bW 2 0 2)) .live)) (rfl:_=true) (ht (bW 2 0 2) ae) (eF (pe (sz:=2) rJ) (ae.map (lS bC))) (.bt (Dz (d3:=2) (jl:=[]++(cU 2 aQ bC)) (bN:=lB) (sz:=1) (g:=(e7 2 aQ)) (dF (bW 2 0 2) ae) (fun _=>rfl) (fun x aa=>(Kl (d3:=2) (c:=0) (bN:=lB) (sW:=[]) (ix .live 2 aQ bC) rJ rfl kP rfl (Jb c2 x aa))) (fq ae)) (ia J an) (ht J an) (eF aD an) (ia dB a4) (ht dB a4) (eF dT a4) (k9 (Hw (⟨ae.map (lS bC),(⟨aT,aG⟩:bc),an,cY,a4⟩:qp)):hc [[.isl 1 ((ae.map (lS bC)).map (e7 2 aQ)),.b aT,.isl 1 (aG.map J),.isl 1 (an.map J),.n .i64 cY,.isl 1 (a4.map dB)]]) (.e2 (ia J bz) (ht J bz) (eF aD bz) (L5 en d2) (cp.n .i64 en) bx bx)));
  .ite (fun ev =>
  .ret (let bl:=dq [0,1,2,3,4,5];bS (t3.append [.ao true,(ad 2),.bj [0,1,2,3,4,5] [.box [.id,.id,.id,.id,.id,.id],.bM (av 1 (bW 2 0 2) ae),.bM (cU 2 aQ bC),.pure,.pure,.pure] (bR [0,1,5,13,14])]) (fa.aZ (.fb ev (eP bl 2 2 0 2 rfl ae) (eS bl 2 d1 bC) (aE 1 .live aD an) (aE 1 .live dT a4) (aE 1 .live aD bz)))))
  (fun ev =>
  .az fun dv eT =>
  (let t5:List cw:=t3.append [.ao false,.aH (bH 2 (.call {ac:=[.bF (.ptr [.view 2 (aq.mk 1 (ae.map (bW 2 0 2)) .live) ((ae.map (lS bC)).map (e7 2 aQ)),.id,.id,.e5 (an.map J),.id,.e5 (a4.map dB)]),ii],r:= .n .i64 dv,c9:=true,dd:=[0,1,2,3,4]}) 1),(ad 2)];
  have m1:=fa.aZ (.bt ev (rfl:c7 (some (av 1 (bW 2 0 2) ae)) 0=some (aq.mk 1 (ae.map (bW 2 0 2)) .live)) (rfl:_=true) (ht (bW 2 0 2) ae) (eF (pe (sz:=2) rJ) (ae.map (lS bC))) (Dz (d3:=2) (jl:=[]++(cU 2 aQ bC)) (bN:=lB) (sz:=1) (g:=(e7 2 aQ)) (dF (bW 2 0 2) ae) (fun _=>rfl) (fun x aa=>(Kl (d3:=2) (c:=0) (bN:=lB) (sW:=[]) (ix .live 2 aQ bC) rJ rfl kP rfl (Jb c2 x aa))) (fq ae)) (ia J an) (ht J an) (.e2 (eF aD an) (ia dB a4) (ht dB a4) (eF dT a4) (k9 (Hw (⟨ae.map (lS bC),(⟨aT,aG⟩:bc),an,cY,a4⟩:qp)):hc [[.isl 1 ((ae.map (lS bC)).map (e7 2 aQ)),.b aT,.isl 1 (aG.map J),.isl 1 (an.map J),.n .i64 cY,.isl 1 (a4.map dB)]]) (Tr dv eT) (cp.n .i64 dv)));
  .ite (fun hD =>
  .ret (let cc:=dq [0,1,2,3,4,5];bS (t5.append [.ao true,(ad 1),.bj [0,1,2,3,4,5] [.box [.id,.id,.id,.id,.id,.id],.bM (av 1 (bW 2 0 2) ae),.bM (cU 2 aQ bC),.pure,.pure,.pure] (bR [4])]) (m1.aZ (.fb hD (eP cc 2 2 0 2 rfl ae) (eS cc 2 d1 bC) (aE 1 .live aD an) (aE 1 .live dT a4) (aE 1 .live aD bz)))))
  (fun hD =>
  .az fun dP gh =>
  .ret (let cM:=eG 1 0 0 ae.length dP.1 dP.2.1 3 0 0 dP.2.2.2.length cY 4 0 0 a4.length;let eN:=eG 1 0 0 ae.length aT aG 3 0 0 an.length cY 4 0 0 a4.length;let gH:=av 1 (bW 2 0 2) ae;let h9:=cU 2 aQ dP.2.2.1;let fx:=rB [0,1,2,3,4];let jz:=n1 [0,1,2,3,4];let jx:=js 1 (ae.map (bW 2 0 2));let k3:=dq [0,1,2,3,4,5];bS (t5.append [.ao false,.aH (ap 3 (ar (.call {aM:=(oT [0,1,2,3,4]),cu:=[.bM [aq.mk 6 [eN] .live],.bM gH,.bM (cU 2 aQ bC),.pure,.pure],ac:=[ii,ii,ii],r:= .cW [],db:=[[aq.mk 6 [cM] .live],gH,h9,(av 1 J dP.2.2.2),(av 1 dB a4)],eo:=ii,e4:=[.bM [aq.mk 6 [cM] .live],.bM gH,.bM h9,.pure,.pure],dd:=[0,1,2,3,4],c9:=false}) [])),(ad 1),.bj [0,1,2,3,4,5] [.box [.id,.id,.id,.id,.id,.id],.bM gH,.bM h9,.pure,.pure,.pure] (bR [0,1,5])]) (m1.aZ (.bt hD (jb fx 6 [eN] [eN] rfl) (js 6 [eN]) (eP fx 2 2 0 2 rfl ae) jx (eS fx 2 d1 bC) (qj 2 aQ bC) (fg 1 aD an) (.bt (fg 1 dT a4) (jb jz 6 [cM] [cM] rfl) (js 6 [cM]) (eP jz 2 2 0 2 rfl ae) jx (eS jz 2 d1 dP.2.2.1) (qj 2 aQ dP.2.2.1) (fg 1 aD dP.2.2.2) (.e2 (fg 1 dT a4) (LY dP gh) (eP k3 2 2 0 2 rfl ae) (eS k3 2 d1 dP.2.2.1) (aE 1 .live aD dP.2.2.2) (aE 1 .live dT a4) (aE 1 .live aD bz)))))))))))))
  (fun aF =>
  .ret (let k4:=dq [0,1,2,3,4,5];bS (t1.append [.aH (ap 6 (ar (.cB (dB aU)) (ap 2 (dk 6 (ar (.ao true) (ap 1 (dk 5 (ap 1 [])))))))),.ao true,(ad 2),.bj [0,1,2,3,4,5] [.box [.id,.id,.id,.id,.id,.id],.bM (av 1 (bW 2 0 2) ae),.bM (cU 2 aQ bC),.pure,.pure,.pure] (bR [0,1,5,13,14])]) (.bt o R.1 R.2 (cD dB aA) (df aF) (df aF) (df aF) (df aF) (.bt (df aF) (df aF) (df aF) ca ca ca ca ca (.fb ca (eP k4 2 2 0 2 rfl ae) (eS k4 2 d1 bC) (aE 1 .live aD an) (aE 1 .live dT a4) (aE 1 .live aD bz))))))))
  (fun o =>
  .ret (let nT:=dq [0,1,2,3,4,5];bS [(ad 1),.ao false,.bj [0,1,2,3,4,5] [.box [.id,.id,.id,.id,.id,.id],.bM (av 1 (bW 2 0 2) ae),.bM (cU 2 aQ bC),.pure,.pure,.pure] (bR [0,1,5])] (.fb o (eP nT 2 2 0 2 rfl ae) (eS nT 2 d1 bC) (aE 1 .live aD an) (aE 1 .live dT a4) (aE 1 .live aD bz))))
theorem LP {cY:Int}{aT:Bool}{aG:List Int}{ae:List b0}{bC:List (List bc)}{an:List Int}{a4:List Bool}{bz:List Int}{cv:Int}{r} (h:vM cY aT aG ae bC an a4 bz cv=some r):fk bo 87 6 84 [1,0,1,0,0,1,0,1,1,0,0] (Fi cY aT aG ae bC an a4 bz) (BG cY aT aG ae bC an a4 bz) cv r:=fl (fun _=>Sz) h
def Fj (b7:Int)(ae:List b0)(a4:List Bool)(bz:List Int):(Bool×Bool×(List Int)×(List (List bc))×(List Int))→S:=fun (qt,aT,aG,bC,an)=>eD [(0,.ref 0 0 0 0),(1,.bw 5 0 0 bz.length),(5,.b qt)] [[aq.mk 6 [(eG 1 0 0 ae.length aT aG 3 0 0 an.length b7 4 0 0 a4.length)] .live],(av 1 (bW 2 0 2) ae),(cU 2 aQ bC),(av 1 J an),(av 1 dB a4),(av 1 J bz)]
def BH (b7:Int)(ae:List b0)(a4:List Bool)(bz:List Int):((Bool×(List Int)×(List (List bc))×(List Int))⊕(Bool×(List Int)×(List (List bc))×(List Int)))→eJ
 | .inl a=>⟨some 0,[(0,.ref 0 0 0 0),(1,.bw 5 0 0 bz.length)],[[aq.mk 6 [(eG 1 0 0 ae.length a.1 a.2.1 3 0 0 a.2.2.2.length b7 4 0 0 a4.length)] .live],(av 1 (bW 2 0 2) ae),(cU 2 aQ a.2.2.1),(av 1 J a.2.2.2),(av 1 dB a4),(av 1 J bz)]⟩
 | .inr a=>⟨none,[(4,.b false)],[[aq.mk 6 [(eG 1 0 0 ae.length a.1 a.2.1 3 0 0 a.2.2.2.length b7 4 0 0 a4.length)] .live],(av 1 (bW 2 0 2) ae),(cU 2 aQ a.2.2.1),(av 1 J a.2.2.2),(av 1 dB a4),(av 1 J bz)]⟩
def tv (b7:Int)(ae:List b0)(a4:List Bool)(bz:List Int)(qt aT:Bool)(aG:List Int)(bC:List (List bc))(an:List Int):Option ((Bool×Bool×(List Int)×(List (List bc))×(List Int))⊕((Bool×(List Int)×(List (List bc))×(List Int))⊕(Bool×(List Int)×(List (List bc))×(List Int)))) :=
 if qt=true then
  vM b7 aT aG ae bC an a4 bz 0 >>= fun bm =>
  match bm with
  | .inl fD=>(some (.inl (fD.1,fD.2.1,fD.2.2.1,fD.2.2.2.1,fD.2.2.2.2)))
  | .inr fD=>(some (.inr (.inr (aT,aG,bC,an))))
 else
  some (.inr (.inl (aT,aG,bC,an)))
def BM (b7:Int)(ae:List b0)(a4:List Bool)(bz:List Int)(qt aT:Bool)(aG:List Int)(bC:List (List bc))(an:List Int):Option ((Bool×(List Int)×(List (List bc))×(List Int))⊕(Bool×(List Int)×(List (List bc))×(List Int))):=iter (fun w:Bool×Bool×(List Int)×(List (List bc))×(List Int)=>tv b7 ae a4 bz w.1 w.2.1 w.2.2.1 w.2.2.2.1 w.2.2.2.2) (qt,aT,aG,bC,an)
theorem SA {b7:Int}{ae:List b0}{a4:List Bool}{bz:List Int}{qt aT:Bool}{aG:List Int}{bC:List (List bc)}{an:List Int}:bQ (tv b7 ae a4 bz qt aT aG bC an) (fj bo 87 6 84 [1,0,1,0,0] (Fj b7 ae a4 bz (qt,aT,aG,bC,an)) (Fj b7 ae a4 bz) (BH b7 ae a4 bz)):=by
 unfold tv
 exact .ite (fun o =>
  .az fun bm ab =>
  (let cM:=dq [0,1,2,3,4,5];let t1:List cw:=[(ad 1),.ao true,(ad 1),(ad 5),.bj [0,1,2,3,4,5] [.box [.id,.id,.id,.id,.id,.id],.bM (av 1 (bW 2 0 2) ae),.bM (cU 2 aQ bC),.pure,.pure,.pure] (bR [0,1,5,13,14])];
  have a6:=((.fb o (eP cM 2 2 0 2 rfl ae) (eS cM 2 d1 bC) (aE 1 .live aD an) (aE 1 .live dT a4) (aE 1 .live aD bz)):cL _);
  (by
  rcases bm with fD|fD
  ·exact (.ret (let aW:=dq [0,1,2,3,4,5];bS (t1.append [(BG b7 aT aG ae bC an a4 bz (.inl fD)).fW,.bj [0,1,2,3,4,5] [.box [.id,.id,.id,.id,.id,.id],.bM (av 1 (bW 2 0 2) ae),.bM (cU 2 aQ fD.2.2.2.1),.pure,.pure,.pure] (bR [0,1,5])]) (a6.aZ (.fb (LP ab) (eP aW 2 2 0 2 rfl ae) (eS aW 2 d1 fD.2.2.2.1) (aE 1 .live aD fD.2.2.2.2) (aE 1 .live dT a4) (aE 1 .live aD bz)))))
  ·exact (.ret (let bl:=dq [0,1,2,3,4,5];bS (t1.append [(BG b7 aT aG ae bC an a4 bz (.inr fD)).fW,.bj [0,1,2,3,4,5] [.box [.id,.id,.id,.id,.id,.id],.bM (av 1 (bW 2 0 2) ae),.bM (cU 2 aQ bC),.pure,.pure,.pure] (bR [4])]) (a6.aZ (.fb (LP ab) (eP bl 2 2 0 2 rfl ae) (eS bl 2 d1 bC) (aE 1 .live aD an) (aE 1 .live dT a4) (aE 1 .live aD bz))))))))
  (fun o =>
  .ret (let cc:=dq [0,1,2,3,4,5];bS [(ad 1),.ao false,.bj [0,1,2,3,4,5] [.box [.id,.id,.id,.id,.id,.id],.bM (av 1 (bW 2 0 2) ae),.bM (cU 2 aQ bC),.pure,.pure,.pure] (bR [0,1])] (.fb o (eP cc 2 2 0 2 rfl ae) (eS cc 2 d1 bC) (aE 1 .live aD an) (aE 1 .live dT a4) (aE 1 .live aD bz))))
theorem LQ {b7:Int}{ae:List b0}{a4:List Bool}{bz:List Int}{qt aT:Bool}{aG:List Int}{bC:List (List bc)}{an:List Int}{r} (h:BM b7 ae a4 bz qt aT aG bC an=some r):fk bo 87 6 84 [1,0,1,0,0] (Fj b7 ae a4 bz) (BH b7 ae a4 bz) (qt,aT,aG,bC,an) r:=fl (fun _=>SA) h
def Fk (fu:Int)(aT:Bool)(aG:List Int)(ae:List b0)(bC:List (List bc))(an bz:List Int):(Int×(List Bool))→S:=fun (hf,a4)=>eD [(0,.ref 0 0 0 0),(1,.bw 5 0 0 bz.length),(53,.n .i64 fu),(54,.n .i64 hf)] [[aq.mk 6 [(eG 1 0 0 ae.length aT aG 3 0 0 an.length fu 4 0 0 a4.length)] .live],(av 1 (bW 2 0 2) ae),(cU 2 aQ bC),(av 1 J an),(av 1 dB a4),(av 1 J bz)]
def Fo (fu:Int)(aT:Bool)(aG:List Int)(ae:List b0)(bC:List (List bc))(an bz:List Int):(List Bool)→eJ
 | a=>⟨some 4,[],[[aq.mk 6 [(eG 1 0 0 ae.length aT aG 3 0 0 an.length fu 4 0 0 a.length)] .live],(av 1 (bW 2 0 2) ae),(cU 2 aQ bC),(av 1 J an),(av 1 dB a),(av 1 J bz)]⟩
def vB (fu:Int)(aT:Bool)(aG:List Int)(ae:List b0)(bC:List (List bc))(an bz:List Int)(hf:Int)(a4:List Bool):Option ((Int×(List Bool))⊕((List Bool))) :=
 if (decide (hf<fu))=true then
  if 0≤hf∧hf<(a4.length:Nat) then
  a4[(0+hf.toNat)]? >>= fun aU =>
  if aU=true then
   w4 an hf >>= fun cj =>
   if cj=true then
    some (.inl (U (hf+(1:Int)),a4))
   else
    if ae.all (uU bC)=true then
    wA (⟨ae.map (lS bC),(⟨aT,aG⟩:bc),an,fu,a4⟩:qp) bz hf >>= fun en =>
    if (decide (en<(0:Int)))=true then
     if (0+hf.toNat)<a4.length then
     some (.inl (U (hf+(1:Int)),a4.set (0+hf.toNat) false))
     else none
    else
     some (.inl (U (hf+(1:Int)),a4))
    else none
  else
   some (.inl (U (hf+(1:Int)),a4))
  else none
 else
  some (.inr a4)
def BN (fu:Int)(aT:Bool)(aG:List Int)(ae:List b0)(bC:List (List bc))(an bz:List Int)(hf:Int)(a4:List Bool):Option ((List Bool)):=iter (fun w:Int×(List Bool)=>vB fu aT aG ae bC an bz w.1 w.2) (hf,a4)
theorem SB {fu:Int}{aT:Bool}{aG:List Int}{ae:List b0}{bC:List (List bc)}{an bz:List Int}{hf:Int}{a4:List Bool}:bQ (vB fu aT aG ae bC an bz hf a4) (fj bo 87 6 84 [1,1,0,1,0,0] (Fk fu aT aG ae bC an bz (hf,a4)) (Fk fu aT aG ae bC an bz) (Fo fu aT aG ae bC an bz)):=by
 unfold vB
 exact .ite (fun o =>
  .bn fun R =>
  .az fun aU aA =>
  (let t1:List cw:=[(ad 1),.ao true,(ad 2)];
  .ite (fun aF =>
  .az fun cj bU =>
  (have a6:=((.bt o R.1 R.2 (cD dB aA) aF aF aF aF (.bt aF aF (ia J an) (ht J an) (eF aD an) (MX cj bU) (cp.b cj) aF (.ax aF))):cL _);
  .ite (fun bx =>
  .ret (let aW:=dq [0,1,2,3,4,5];bS (t1.append [.aH (ap 6 (ar (.cB (dB aU)) (ap 6 (ar (.call {ac:=[.bF (.b9 (.e5 (an.map J))),ii],r:= .b cj,c9:=true,dd:=[3]}) (ap 1 (ar (.ao true) (ap 1 (dk 5 (ar (.ao false) []))))))))),.ao false,(ad 2),.bj [0,1,2,3,4,5] [.box [.id,.id,.id,.id,.id,.id],.bM (av 1 (bW 2 0 2) ae),.bM (cU 2 aQ bC),.pure,.pure,.pure] (bR [0,1,53,54])]) (a6.aZ (.bt (dc bx) (dc bx) (dc bx) (dc bx) (dc bx) (dc bx) gC (eP aW 2 2 0 2 rfl ae) (.c8 (eS aW 2 d1 bC) (aE 1 .live aD an) (aE 1 .live dT a4) (aE 1 .live aD bz))))))
  (fun bx =>
  .bn fun c2 =>
  .az fun en d2 =>
  (let t3:List cw:=t1.append [.aH (ap 6 (ar (.cB (dB aU)) (ap 6 (ar (.call {ac:=[.bF (.b9 (.e5 (an.map J))),ii],r:= .b cj,c9:=true,dd:=[3]}) (ap 1 (ar (.ao true) (ap 4 (ar (.call {ac:=[.bF (.ptr [.view 2 (aq.mk 1 (ae.map (bW 2 0 2)) .live) ((ae.map (lS bC)).map (e7 2 aQ)),.id,.id,.e5 (an.map J),.id,.e5 (a4.map dB)]),.bF (.b9 (.e5 (bz.map J))),ii],r:= .n .i64 en,c9:=true,dd:=[0,1,2,3,4,5]}) (ap 1 (ar (.ao true) []))))))))))];
  have fa:=a6.aZ (.bt (df bx) (df bx) (df bx) (df bx) (rfl:c7 (some (av 1 (bW 2 0 2) ae)) 0=some (aq.mk 1 (ae.map (bW 2 0 2)) .live)) (rfl:_=true) (ht (bW 2 0 2) ae) (eF (pe (sz:=2) rJ) (ae.map (lS bC))) (.bt (Dz (d3:=2) (jl:=[]++(cU 2 aQ bC)) (bN:=lB) (sz:=1) (g:=(e7 2 aQ)) (dF (bW 2 0 2) ae) (fun _=>rfl) (fun x aa=>(Kl (d3:=2) (c:=0) (bN:=lB) (sW:=[]) (ix .live 2 aQ bC) rJ rfl kP rfl (Jb c2 x aa))) (fq ae)) (ia J an) (ht J an) (eF aD an) (ia dB a4) (ht dB a4) (eF dT a4) (k9 (Hw (⟨ae.map (lS bC),(⟨aT,aG⟩:bc),an,fu,a4⟩:qp)):hc [[.isl 1 ((ae.map (lS bC)).map (e7 2 aQ)),.b aT,.isl 1 (aG.map J),.isl 1 (an.map J),.n .i64 fu,.isl 1 (a4.map dB)]]) (.e2 (ia J bz) (ht J bz) (eF aD bz) (L5 en d2) (cp.n .i64 en) (df bx) (df bx))));
  .ite (fun ev =>
  .bn fun fo =>
  .ret (let bl:=dq [0,1,2,3,4,5];bS (t3.append [.ao true,.aH (ap 6 (ar .cT [])),(ad 2),.bj [0,1,2,3,4,5] [.box [.id,.id,.id,.id,.id,.len ((a4.set (0+hf.toNat) false).length)],.bM (av 1 (bW 2 0 2) ae),.bM (cU 2 aQ bC),.pure,.dw (av 1 dB (a4.set (0+hf.toNat) false)),.pure] (bR [0,1,53,54])]) (fa.aZ (.bt ev R.1 R.2 (hb dB fo) (gB 1) (gP (fq a4) (0+hf.toNat) false) (eP bl 2 2 0 2 rfl ae) (eS bl 2 d1 bC) (.c8 (aE 1 .live aD an) (d4 1 .live (fs (dF dB a4) (0+hf.toNat) false)) (aE 1 .live dT (a4.set (0+hf.toNat) false)) (aE 1 .live aD bz))))))
  (fun ev =>
  .ret (let cc:=dq [0,1,2,3,4,5];bS (t3.append [.ao false,(ad 2),.bj [0,1,2,3,4,5] [.box [.id,.id,.id,.id,.id,.id],.bM (av 1 (bW 2 0 2) ae),.bM (cU 2 aQ bC),.pure,.pure,.pure] (bR [0,1,53,54])]) (fa.aZ (.fb ev (eP cc 2 2 0 2 rfl ae) (eS cc 2 d1 bC) (aE 1 .live aD an) (aE 1 .live dT a4) (aE 1 .live aD bz)))))))))
  (fun aF =>
  .ret (let cM:=dq [0,1,2,3,4,5];bS (t1.append [.aH (ap 6 (ar (.cB (dB aU)) (ap 1 (dk 7 (ar (.ao false) (ap 1 (dk 5 (ap 1 [])))))))),.ao false,(ad 2),.bj [0,1,2,3,4,5] [.box [.id,.id,.id,.id,.id,.id],.bM (av 1 (bW 2 0 2) ae),.bM (cU 2 aQ bC),.pure,.pure,.pure] (bR [0,1,53,54])]) (.bt o R.1 R.2 (cD dB aA) aF aF aF aF (.bt aF aF aF aF gC gC gC gC (.e2 gC gC (eP cM 2 2 0 2 rfl ae) (eS cM 2 d1 bC) (aE 1 .live aD an) (aE 1 .live dT a4) (aE 1 .live aD bz))))))))
  (fun o =>
  .ret (let eN:=dq [0,1,2,3,4,5];bS [(ad 1),.ao false,.bj [0,1,2,3,4,5] [.box [.id,.id,.id,.id,.id,.id],.bM (av 1 (bW 2 0 2) ae),.bM (cU 2 aQ bC),.pure,.pure,.pure] []] (.fb o (eP eN 2 2 0 2 rfl ae) (eS eN 2 d1 bC) (aE 1 .live aD an) (aE 1 .live dT a4) (aE 1 .live aD bz))))
theorem SW {fu:Int}{aT:Bool}{aG:List Int}{ae:List b0}{bC:List (List bc)}{an bz:List Int}{hf:Int}{a4:List Bool}{r} (h:BN fu aT aG ae bC an bz hf a4=some r):fk bo 87 6 84 [1,1,0,1,0,0] (Fk fu aT aG ae bC an bz) (Fo fu aT aG ae bC an bz) (hf,a4) r:=fl (fun _=>SB) h
def rE (b1:Bool)(cx:List Int)(el:Int)(cN:List b0)(lo:List (List bc))(c3:List Int)(gX:List Bool)(oV:List Int):Option (Bool×Bool×(List Int)×(List (List bc))×(List Int)×(List Bool)) :=
 BM el cN gX oV true b1 cx lo c3 >>= fun ak =>
 match ak with
 | .inl bs=>(BN el bs.1 bs.2.1 cN bs.2.2.1 bs.2.2.2 oV 0 gX >>= fun aX =>
  some (true,bs.1,bs.2.1,bs.2.2.1,bs.2.2.2,aX))
 | .inr bs=>(some (false,bs.1,bs.2.1,bs.2.2.1,bs.2.2.2,gX))
theorem FH {b1:Bool}{cx:List Int}{el:Int}{cN:List b0}{lo:List (List bc)}{c3:List Int}{gX:List Bool}{oV:List Int}:bQ (rE b1 cx el cN lo c3 gX oV) (fun a=>Con bo 84 [.ref 0 0 0 0,.bw 5 0 0 oV.length] [[aq.mk 6 [(eG 1 0 0 cN.length b1 cx 3 0 0 c3.length el 4 0 0 gX.length)] .live],(av 1 (bW 2 0 2) cN),(cU 2 aQ lo),(av 1 J c3),(av 1 dB gX),(av 1 J oV)] (.b a.1) [[aq.mk 6 [(eG 1 0 0 cN.length a.2.1 a.2.2.1 3 0 0 a.2.2.2.2.1.length el 4 0 0 a.2.2.2.2.2.length)] .live],(av 1 (bW 2 0 2) cN),(cU 2 aQ a.2.2.2.1),(av 1 J a.2.2.2.2.1),(av 1 dB a.2.2.2.2.2),(av 1 J oV)]):=by
 unfold rE
 exact .az fun ak R =>
  (let jz:=dq [0,1,2,3,4,5];let t1:List cw:=[(ad 1),(ad 1),.bj [0,1,2,3,4,5] [.box [.id,.id,.id,.id,.id,.id],.bM (av 1 (bW 2 0 2) cN),.bM (cU 2 aQ lo),.pure,.pure,.pure] (bR [0,1,5])];
  have a6:=((.ep (eP jz 2 2 0 2 rfl cN) (eS jz 2 d1 lo) (aE 1 .live aD c3) (aE 1 .live dT gX) (aE 1 .live aD oV)):cL _);
  (by
  rcases ak with bs|bs
  ·exact (.az fun aX aF =>
  .ret (let aW:=eG 1 0 0 cN.length bs.1 bs.2.1 3 0 0 bs.2.2.2.length el 4 0 0 aX.length;let bl:=dq [0,1,2,3,4,5];let cc:=aE 1 .live aD bs.2.2.2;let cM:=eS bl 2 d1 bs.2.2.1;let eN:=cU 2 aQ bs.2.2.1;let gH:=eP bl 2 2 0 2 rfl cN;hg (t1.append [(BH el cN gX oV (.inl bs)).fW,(ad 5),.bj [0,1,2,3,4,5] [.box [.id,.id,.id,.id,.id,.id],.bM (av 1 (bW 2 0 2) cN),.bM eN,.pure,.pure,.pure] (bR [0,1,53,54]),(Fo el bs.1 bs.2.1 cN bs.2.2.1 bs.2.2.2 oV aX).fW,(ad 1)]) [0,1,2,3,4,5] [.bM [aq.mk 6 [aW] .live],.bM (av 1 (bW 2 0 2) cN),.bM eN,.pure,.pure,.pure] (a6.aZ (.bt (LQ R) gH cM cc (aE 1 .live dT gX) (aE 1 .live aD oV) (SW aF) (jb bl 6 [aW] [aW] rfl) (.ep gH cM cc (aE 1 .live dT aX) (aE 1 .live aD oV))))))
  ·exact (.ret (let h9:=eG 1 0 0 cN.length bs.1 bs.2.1 3 0 0 bs.2.2.2.length el 4 0 0 gX.length;let fx:=dq [0,1,2,3,4,5];hg (t1.append [(BH el cN gX oV (.inr bs)).fW]) [0,1,2,3,4,5] [.bM [aq.mk 6 [h9] .live],.bM (av 1 (bW 2 0 2) cN),.bM (cU 2 aQ bs.2.2.1),.pure,.pure,.pure] (a6.aZ (.e2 (LQ R) (jb fx 6 [h9] [h9] rfl) (eP fx 2 2 0 2 rfl cN) (eS fx 2 d1 bs.2.2.1) (aE 1 .live aD bs.2.2.2) (aE 1 .live dT gX) (aE 1 .live aD oV)))))))
def Fx (hq bd:Int)(aT:Bool)(aG:List Int)(b7:Int)(ae:List b0)(bC:List (List bc))(an:List Int)(a4:List Bool):Int→S:=fun cl=>eD [(0,.ref 0 0 0 0),(1,.n .i64 hq),(4,.n .i64 bd),(5,.n .i64 cl)] [[aq.mk 6 [(eG 1 0 0 ae.length aT aG 3 0 0 an.length b7 4 0 0 a4.length)] .live],(av 1 (bW 2 0 2) ae),(cU 2 aQ bC),(av 1 J an),(av 1 dB a4)]
def FD (hq bd:Int)(aT:Bool)(aG:List Int)(b7:Int)(ae:List b0)(bC:List (List bc))(an:List Int)(a4:List Bool):Int→eJ
 | a=>⟨some 2,[(0,.ref 0 0 0 0),(1,.n .i64 hq),(4,.n .i64 bd),(5,.n .i64 a)],[[aq.mk 6 [(eG 1 0 0 ae.length aT aG 3 0 0 an.length b7 4 0 0 a4.length)] .live],(av 1 (bW 2 0 2) ae),(cU 2 aQ bC),(av 1 J an),(av 1 dB a4)]⟩
def vJ (hq bd:Int)(aT:Bool)(aG:List Int)(b7:Int)(ae:List b0)(bC:List (List bc))(an:List Int)(a4:List Bool)(cl:Int):Option ((Int)⊕(Int)) :=
 if (decide (cl<hq))=true then
  if 0≤bd∧bd<(ae.length:Nat) then
  ae[(0+bd.toNat)]? >>= fun aU =>
  aU >>= fun lu =>
  bC[lu.1]? >>= fun k7 =>
  if 0≤cl∧cl<(lu.2:Nat) then
  k7[(0+cl.toNat)]? >>= fun i1 =>
  n5 i1 >>= fun gW =>
  if (gW == (0:Int))=true then
   some (.inl (U (cl+(1:Int))))
  else
   some (.inr cl)
  else none
  else none
 else
  some (.inr cl)
def BU (hq bd:Int)(aT:Bool)(aG:List Int)(b7:Int)(ae:List b0)(bC:List (List bc))(an:List Int)(a4:List Bool)(cl:Int):Option (Int):=iter (fun w:Int=>vJ hq bd aT aG b7 ae bC an a4 w) cl
theorem SQ {hq bd:Int}{aT:Bool}{aG:List Int}{b7:Int}{ae:List b0}{bC:List (List bc)}{an:List Int}{a4:List Bool}{cl:Int}:bQ (vJ hq bd aT aG b7 ae bC an a4 cl) (fj bo 86 5 100 [1,0,0,1,0,1,1,0,0,0] (Fx hq bd aT aG b7 ae bC an a4 cl) (Fx hq bd aT aG b7 ae bC an a4) (FD hq bd aT aG b7 ae bC an a4)):=by
 unfold vJ
 exact .ite (fun o =>
  .bn fun R =>
  .az fun aU aA =>
  .az fun lu br =>
  .az fun k7 bx =>
  .bn fun c2 =>
  .az fun i1 d2 =>
  .az fun gW fo =>
  (let aW:=ld (ix .live 2 aQ bC) kP bx;let t1:List cw:=[.aH (ap 10 (ar (.cB ((bW 2 0 2) aU)) (ap 1 (ar (.eM 34 (.bw 2 (lu.1+0) 0 lu.2) (.gT (aq.mk 2 (k7.map aQ) .live) [])) (ar (.gT (aq.mk 2 (k7.map aQ) .live) (aQ i1)) (ar (bT 1 (.n .i64 gW) true) (ap 1 (ar (.ao true) []))))))))];
  have a6:=((.bt o o o o o o R.1 R.2 (.bt o (cD (bW 2 0 2) aA) o o (n7 (d3:=2) (c:=0) (sz:=2) br) aW c2.1 c2.2 (.hh o aW (cD aQ d2) o (rG gW fo) (cp.n .i64 gW) o o))):cL _);
  .ite (fun eT =>
  .ret (bS (t1.append [.ao true,(ad 3),.bj [0,1,2,3,4] [.box [.id,.id,.id,.id,.id,.id],.bM (av 1 (bW 2 0 2) ae),.bM (cU 2 aQ bC),.pure,.pure] (bR [0,1,4,5])]) (a6.aZ (.ep eT (eP (dq [0,1,2,3,4]) 2 2 0 2 rfl ae) (eS (dq [0,1,2,3,4]) 2 d1 bC) (aE 1 .live aD an) (aE 1 .live dT a4)))))
  (fun eT =>
  .ret (bS (t1.append [.ao false,.bj [0,1,2,3,4] [.box [.id,.id,.id,.id,.id,.id],.bM (av 1 (bW 2 0 2) ae),.bM (cU 2 aQ bC),.pure,.pure] (bR [0,1,4,5])]) (a6.aZ (.ep eT (eP (dq [0,1,2,3,4]) 2 2 0 2 rfl ae) (eS (dq [0,1,2,3,4]) 2 d1 bC) (aE 1 .live aD an) (aE 1 .live dT a4)))))))
  (fun o =>
  .ret (bS [.aH (ap 4 (dk 12 (ar (.ao false) []))),.ao false,.bj [0,1,2,3,4] [.box [.id,.id,.id,.id,.id,.id],.bM (av 1 (bW 2 0 2) ae),.bM (cU 2 aQ bC),.pure,.pure] (bR [0,1,4,5])] (.bt o o o o o o o o (.bt o o o o o gC (eP (dq [0,1,2,3,4]) 2 2 0 2 rfl ae) (eS (dq [0,1,2,3,4]) 2 d1 bC) (.aC (aE 1 .live aD an) (aE 1 .live dT a4))))))
theorem Ta {hq bd:Int}{aT:Bool}{aG:List Int}{b7:Int}{ae:List b0}{bC:List (List bc)}{an:List Int}{a4:List Bool}{cl:Int}{r} (h:BU hq bd aT aG b7 ae bC an a4 cl=some r):fk bo 86 5 100 [1,0,0,1,0,1,1,0,0,0] (Fx hq bd aT aG b7 ae bC an a4) (FD hq bd aT aG b7 ae bC an a4) cl r:=fl (fun _=>SQ) h
def Fy (hq b7:Int)(a4:List Bool):(Int×Bool×(List Int)×(List b0)×(List (List bc))×(List Int))→S:=fun (bd,aT,aG,ae,bC,an)=>eD [(0,.ref 0 0 0 0),(1,.n .i64 hq),(4,.n .i64 bd)] [[aq.mk 6 [(eG 1 0 0 ae.length aT aG 3 0 0 an.length b7 4 0 0 a4.length)] .live],(av 1 (bW 2 0 2) ae),(cU 2 aQ bC),(av 1 J an),(av 1 dB a4)]
def FE (hq b7:Int)(a4:List Bool):(Bool×(List Int)×(List b0)×(List (List bc))×(List Int))→eJ
 | a=>⟨some 0,[],[[aq.mk 6 [(eG 1 0 0 a.2.2.1.length a.1 a.2.1 3 0 0 a.2.2.2.2.length b7 4 0 0 a4.length)] .live],(av 1 (bW 2 0 2) a.2.2.1),(cU 2 aQ a.2.2.2.1),(av 1 J a.2.2.2.2),(av 1 dB a4)]⟩
def yG (hq b7:Int)(a4:List Bool)(bd:Int)(aT:Bool)(aG:List Int)(ae:List b0)(bC:List (List bc))(an:List Int):Option ((Int×Bool×(List Int)×(List b0)×(List (List bc))×(List Int))⊕(Bool×(List Int)×(List b0)×(List (List bc))×(List Int))) :=
 if (decide (bd<((ae.length:Nat):Int)))=true then
  if 0≤bd∧bd<(an.length:Nat) then
  an[(0+bd.toNat)]? >>= fun aU =>
  if (decide (aU<hq))=true then
   some (.inl (U (bd+(1:Int)),aT,aG,ae,bC,an))
  else
   BU hq bd aT aG b7 ae bC an a4 0 >>= fun cj =>
   if (decide (cj<hq))=true then
    v5 bd cj aT aG b7 ae bC an a4 >>= fun bi =>
    some (.inl (U (bd+(1:Int)),bi.1,bi.2.1,ae,bi.2.2.1,bi.2.2.2))
   else
    if 0≤bd then
    if 0≤bd.toNat∧bd.toNat≤ae.length then
    if 0≤(U (bd+(1:Int))) then
    if (U (bd+(1:Int))).toNat≤ae.length then
    if (0+(U (bd+(1:Int))).toNat)+(ae.length-(U (bd+(1:Int))).toNat)≤ae.length then
    if (bd.toNat-0)+((ae.drop (0+(U (bd+(1:Int))).toNat)).take (ae.length-(U (bd+(1:Int))).toNat)).length≤ae.length then
    if ((ae.drop (0+(U (bd+(1:Int))).toNat)).take (ae.length-(U (bd+(1:Int))).toNat)).length*24≤140737488355328 then
    if 0≤bd.toNat∧bd.toNat≤an.length then
    if (U (bd+(1:Int))).toNat≤an.length then
    if (0+(U (bd+(1:Int))).toNat)+(an.length-(U (bd+(1:Int))).toNat)≤an.length then
    if (bd.toNat-0)+((an.drop (0+(U (bd+(1:Int))).toNat)).take (an.length-(U (bd+(1:Int))).toNat)).length≤an.length then
    if ((an.drop (0+(U (bd+(1:Int))).toNat)).take (an.length-(U (bd+(1:Int))).toNat)).length*8≤140737488355328 then
    some (.inl (bd,aT,aG,ae.take (bd.toNat-0)++((ae.drop (0+(U (bd+(1:Int))).toNat)).take (ae.length-(U (bd+(1:Int))).toNat)),bC,an.take (bd.toNat-0)++((an.drop (0+(U (bd+(1:Int))).toNat)).take (an.length-(U (bd+(1:Int))).toNat))))
    else none
    else none
    else none
    else none
    else none
    else none
    else none
    else none
    else none
    else none
    else none
    else none
  else none
 else
  some (.inr (aT,aG,ae,bC,an))
def FV (hq b7:Int)(a4:List Bool)(bd:Int)(aT:Bool)(aG:List Int)(ae:List b0)(bC:List (List bc))(an:List Int):Option (Bool×(List Int)×(List b0)×(List (List bc))×(List Int)):=iter (fun w:Int×Bool×(List Int)×(List b0)×(List (List bc))×(List Int)=>yG hq b7 a4 w.1 w.2.1 w.2.2.1 w.2.2.2.1 w.2.2.2.2.1 w.2.2.2.2.2) (bd,aT,aG,ae,bC,an)
theorem SR {hq b7:Int}{a4:List Bool}{bd:Int}{aT:Bool}{aG:List Int}{ae:List b0}{bC:List (List bc)}{an:List Int}:bQ (yG hq b7 a4 bd aT aG ae bC an) (fj bo 86 5 100 [1,0,0] (Fy hq b7 a4 (bd,aT,aG,ae,bC,an)) (Fy hq b7 a4) (FE hq b7 a4)):=by
 unfold yG
 exact .ite (fun o =>
  .bn fun R =>
  .az fun aU aA =>
  (let t1:List cw:=[(ad 7),.ao true,.aH (bH 6 (.cB (J aU)) 2)];
  .ite (fun aF =>
  .ret (bS (t1.append [.ao true,(ad 3),.bj [0,1,2,3,4] [.box [.id,.id,.id,.id,.id,.id],.bM (av 1 (bW 2 0 2) ae),.bM (cU 2 aQ bC),.pure,.pure] (bR [0,1,4])]) (.bt o R.1 R.2 (cD J aA) aF (eP (dq [0,1,2,3,4]) 2 2 0 2 rfl ae) (eS (dq [0,1,2,3,4]) 2 d1 bC) (aE 1 .live aD an) (.ax (aE 1 .live dT a4)))))
  (fun aF =>
  .az fun cj bU =>
  (let t2:List cw:=t1.append [.ao false,(ad 1),.bj [0,1,2,3,4] [.box [.id,.id,.id,.id,.id,.id],.bM (av 1 (bW 2 0 2) ae),.bM (cU 2 aQ bC),.pure,.pure] (bR [0,1,4,5]),(FD hq bd aT aG b7 ae bC an a4 cj).fW,(ad 3)];
  have fX:=((.bt o R.1 R.2 (cD J aA) aF (eP (dq [0,1,2,3,4]) 2 2 0 2 rfl ae) (eS (dq [0,1,2,3,4]) 2 d1 bC) (aE 1 .live aD an) (.aC (aE 1 .live dT a4) (Ta bU))):cL _);
  .ite (fun bx =>
  .az fun bi dO =>
  .ret (let aW:=eG 1 0 0 ae.length bi.1 bi.2.1 3 0 0 bi.2.2.2.length b7 4 0 0 a4.length;let bl:=eG 1 0 0 ae.length aT aG 3 0 0 an.length b7 4 0 0 a4.length;let cc:=av 1 (bW 2 0 2) ae;let cM:=cU 2 aQ bi.2.2.1;let eN:=rB [0,1,2,3,4];let gH:=n1 [0,1,2,3,4];let h9:=js 1 (ae.map (bW 2 0 2));bS (t2.append [.ao true,.aH (ap 3 (ar (.call {aM:=(oT [0,1,2,3,4]),cu:=[.bM [aq.mk 6 [bl] .live],.bM cc,.bM (cU 2 aQ bC),.pure,.pure],ac:=[ii,ii,ii],r:= .cW [],db:=[[aq.mk 6 [aW] .live],cc,cM,(av 1 J bi.2.2.2),(av 1 dB a4)],eo:=ii,e4:=[.bM [aq.mk 6 [aW] .live],.bM cc,.bM cM,.pure,.pure],dd:=[0,1,2,3,4],c9:=false}) [])),(ad 3),.bj [0,1,2,3,4] [.box [.id,.id,.id,.id,.id,.id],.bM cc,.bM cM,.pure,.pure] (bR [0,1,4])]) (fX.aZ (.bt bx (jb eN 6 [bl] [bl] rfl) (js 6 [bl]) (eP eN 2 2 0 2 rfl ae) h9 (eS eN 2 d1 bC) (qj 2 aQ bC) (fg 1 aD an) (.bt (fg 1 dT a4) (jb gH 6 [aW] [aW] rfl) (js 6 [aW]) (eP gH 2 2 0 2 rfl ae) h9 (eS gH 2 d1 bi.2.2.1) (qj 2 aQ bi.2.2.1) (fg 1 aD bi.2.2.2) (.fb (fg 1 dT a4) (LY bi dO) (eP (dq [0,1,2,3,4]) 2 2 0 2 rfl ae) (eS (dq [0,1,2,3,4]) 2 d1 bi.2.2.1) (aE 1 .live aD bi.2.2.2) (aE 1 .live dT a4)))))))
  (fun bx =>
  .bn fun c2 =>
  .bn fun dO =>
  .bn fun d2 =>
  .bn fun ev =>
  .bn fun fo =>
  .bn fun eT =>
  .bn fun hD =>
  .bn fun h5 =>
  .bn fun gh =>
  .bn fun j6 =>
  .bn fun gG =>
  .bn fun nS =>
  .ret (let fx:=(U (bd+(1:Int)));let jz:=dF (bW 2 0 2) ae;let jx:=dq [0,1,2,3,4];let k3:=dF J an;bS (t2.append [.ao false,.aH (bH 14 .cT 3),.aH (bH 14 .cT 3),.bj [0,1,2,3,4] [.box [.len ((ae.take (bd.toNat-0)++((ae.drop (0+fx.toNat)).take (ae.length-fx.toNat))).length),.id,.id,.len ((an.take (bd.toNat-0)++((an.drop (0+fx.toNat)).take (an.length-fx.toNat))).length),.id,.id],.bM (av 1 (bW 2 0 2) (ae.take (bd.toNat-0)++((ae.drop (0+fx.toNat)).take (ae.length-fx.toNat)))),.bM (cU 2 aQ bC),.dw (av 1 J (an.take (bd.toNat-0)++((an.drop (0+fx.toNat)).take (an.length-fx.toNat)))),.pure] (bR [0,1,4])]) (fX.aZ (.bt bx c2 dO.1 dO.2 d2 ev (Nat.le_refl ae.length) (sN jz fo) (.bt (PT jz (oK jz (0+fx.toNat) (ae.length-fx.toNat)) eT) (OM (oK jz (0+fx.toNat) (ae.length-fx.toNat)) hD) c2 h5.1 h5.2 d2 gh (Nat.le_refl an.length) (.bt (sN k3 j6) (PT k3 (oK k3 (0+fx.toNat) (an.length-fx.toNat)) gG) (OM (oK k3 (0+fx.toNat) (an.length-fx.toNat)) nS) ((IJ (PS eT) (oK jz (0+fx.toNat) (ae.length-fx.toNat)):(ae.take (bd.toNat-0)++((ae.drop (0+fx.toNat)).take (ae.length-fx.toNat))).length=(bd.toNat-0)+(((ae.map (bW 2 0 2)).drop (0+fx.toNat)).take (ae.length-fx.toNat)).length).symm) ((IJ (PS gG) (oK k3 (0+fx.toNat) (an.length-fx.toNat)):(an.take (bd.toNat-0)++((an.drop (0+fx.toNat)).take (an.length-fx.toNat))).length=(bd.toNat-0)+(((an.map J).drop (0+fx.toNat)).take (an.length-fx.toNat)).length).symm) (kr (yx (b8:=jx) 1 .live (bW 2 0 2) (II jz (bd.toNat-0) (oK jz (0+fx.toNat) (ae.length-fx.toNat))) (z6 (rfl:jx 2=some 2))) (rW (b8:=jx))) (eS jx 2 d1 bC) (d4 1 .live (II k3 (bd.toNat-0) (oK k3 (0+fx.toNat) (an.length-fx.toNat)))) (.aC (aE 1 .live aD (an.take (bd.toNat-0)++((an.drop (0+fx.toNat)).take (an.length-fx.toNat)))) (aE 1 .live dT a4))))))))))))
  (fun o =>
  .ret (bS [(ad 7),.ao false,.bj [0,1,2,3,4] [.box [.id,.id,.id,.id,.id,.id],.bM (av 1 (bW 2 0 2) ae),.bM (cU 2 aQ bC),.pure,.pure] []] (.ep o (eP (dq [0,1,2,3,4]) 2 2 0 2 rfl ae) (eS (dq [0,1,2,3,4]) 2 d1 bC) (aE 1 .live aD an) (aE 1 .live dT a4))))
theorem Tb {hq b7:Int}{a4:List Bool}{bd:Int}{aT:Bool}{aG:List Int}{ae:List b0}{bC:List (List bc)}{an:List Int}{r} (h:FV hq b7 a4 bd aT aG ae bC an=some r):fk bo 86 5 100 [1,0,0] (Fy hq b7 a4) (FE hq b7 a4) (bd,aT,aG,ae,bC,an) r:=fl (fun _=>SR) h
def yM (hq:Int)(b1:Bool)(cx:List Int)(el:Int)(cN:List b0)(lo:List (List bc))(c3:List Int)(gX:List Bool):Option (Bool×(List Int)×(List b0)×(List (List bc))×(List Int)) :=
 FV hq el gX 0 b1 cx cN lo c3 >>= fun ak =>
 some (ak.1,ak.2.1,ak.2.2.1,ak.2.2.2.1,ak.2.2.2.2)
theorem Tu {hq:Int}{b1:Bool}{cx:List Int}{el:Int}{cN:List b0}{lo:List (List bc)}{c3:List Int}{gX:List Bool}:bQ (yM hq b1 cx el cN lo c3 gX) (fun a=>Con bo 100 [.ref 0 0 0 0,.n .i64 hq] [[aq.mk 6 [(eG 1 0 0 cN.length b1 cx 3 0 0 c3.length el 4 0 0 gX.length)] .live],(av 1 (bW 2 0 2) cN),(cU 2 aQ lo),(av 1 J c3),(av 1 dB gX)] (.cW []) [[aq.mk 6 [(eG 1 0 0 a.2.2.1.length a.1 a.2.1 3 0 0 a.2.2.2.2.length el 4 0 0 gX.length)] .live],(av 1 (bW 2 0 2) a.2.2.1),(cU 2 aQ a.2.2.2.1),(av 1 J a.2.2.2.2),(av 1 dB gX)]):=by
 unfold yM
 exact .az fun ak R =>
  .ret (let aW:=eG 1 0 0 ak.2.2.1.length ak.1 ak.2.1 3 0 0 ak.2.2.2.2.length el 4 0 0 gX.length;let bl:=dq [0,1,2,3,4];hg [(ad 1),.bj [0,1,2,3,4] [.box [.id,.id,.id,.id,.id,.id],.bM (av 1 (bW 2 0 2) cN),.bM (cU 2 aQ lo),.pure,.pure] (bR [0,1,4]),(FE hq el gX ak).fW] [0,1,2,3,4] [.bM [aq.mk 6 [aW] .live],.bM (av 1 (bW 2 0 2) ak.2.2.1),.bM (cU 2 aQ ak.2.2.2.1),.pure,.pure] (.bt (eP bl 2 2 0 2 rfl cN) (eS bl 2 d1 lo) (aE 1 .live aD c3) (aE 1 .live dT gX) (Tb R) (jb bl 6 [aW] [aW] rfl) (eP bl 2 2 0 2 rfl ak.2.2.1) (eS bl 2 d1 ak.2.2.2.1) (.aC (aE 1 .live aD ak.2.2.2.2) (aE 1 .live dT gX))))
def Gp (a0 bd:Int)(hI iS:Nat)(dL:Int)(jf je:Nat)(jk aG:Int)(ae aR an:List Int)(cG:Bool)(cF:List Int)(cf:List b0)(dj:List Int)(cg:List Bool):(Int×(List (List bc)))→S:=fun (fu,hZ)=>eD [(0,.ref 0 0 0 0),(4,.n .i64 a0),(5,.ref 4 0 0 0),(6,.n .i64 bd),(7,.bw 5 (hI+0) 0 iS),(8,.n .i64 (-1:Int)),(34,.n .i64 dL),(35,.n .i64 bd),(51,.bw 1 0 jf je),(52,.n .i64 jk),(53,.n .i64 fu)] [[aq.mk 5 [(gp dL aG 1 0 0 ae.length 2 0 0 aR.length 3 0 0 an.length)] .live],(av 1 J ae),(av 1 J aR),(av 1 J an),[aq.mk 6 [(eG 6 0 0 cf.length cG cF 7 0 0 dj.length a0 8 0 0 cg.length)] .live],(cU 2 aQ hZ),(av 1 (bW 5 0 2) cf),(av 1 J dj),(av 1 dB cg)]
def GL (a0 bd:Int)(hI iS:Nat)(dL:Int)(jf je:Nat)(jk aG:Int)(ae aR an:List Int)(cG:Bool)(cF:List Int)(cf:List b0)(dj:List Int)(cg:List Bool):(List (List bc))→eJ
 | a=>⟨some 2,[(0,.ref 0 0 0 0),(4,.n .i64 a0),(5,.ref 4 0 0 0),(6,.n .i64 bd),(7,.bw 5 (hI+0) 0 iS),(8,.n .i64 (-1:Int)),(34,.n .i64 dL),(35,.n .i64 bd)],[[aq.mk 5 [(gp dL aG 1 0 0 ae.length 2 0 0 aR.length 3 0 0 an.length)] .live],(av 1 J ae),(av 1 J aR),(av 1 J an),[aq.mk 6 [(eG 6 0 0 cf.length cG cF 7 0 0 dj.length a0 8 0 0 cg.length)] .live],(cU 2 aQ a),(av 1 (bW 5 0 2) cf),(av 1 J dj),(av 1 dB cg)]⟩
def v7 (a0 bd:Int)(hI iS:Nat)(dL:Int)(jf je:Nat)(jk aG:Int)(ae aR an:List Int)(cG:Bool)(cF:List Int)(cf:List b0)(dj:List Int)(cg:List Bool)(fu:Int)(hZ:List (List bc)):Option ((Int×(List (List bc)))⊕((List (List bc)))) :=
 if (decide (fu<jk))=true then
  if 0≤fu∧fu<(je:Nat) then
  ae[(jf+fu.toNat)]? >>= fun aU =>
  nz (U ((-1:Int)*aU)) >>= fun bh =>
  hZ[hI]? >>= fun k7 =>
  if 0≤fu∧fu<(iS:Nat) then
  k7[(0+fu.toNat)]? >>= fun i1 =>
  some (.inl (U (fu+(1:Int)),hZ.set hI (k7.set (0+fu.toNat) bh)))
  else none
  else none
 else
  some (.inr hZ)
def Cj (a0 bd:Int)(hI iS:Nat)(dL:Int)(jf je:Nat)(jk aG:Int)(ae aR an:List Int)(cG:Bool)(cF:List Int)(cf:List b0)(dj:List Int)(cg:List Bool)(fu:Int)(hZ:List (List bc)):Option ((List (List bc))):=iter (fun w:Int×(List (List bc))=>v7 a0 bd hI iS dL jf je jk aG ae aR an cG cF cf dj cg w.1 w.2) (fu,hZ)
theorem Tv {a0 bd:Int}{hI iS:Nat}{dL:Int}{jf je:Nat}{jk aG:Int}{ae aR an:List Int}{cG:Bool}{cF:List Int}{cf:List b0}{dj:List Int}{cg:List Bool}{fu:Int}{hZ:List (List bc)}:bQ (v7 a0 bd hI iS dL jf je jk aG ae aR an cG cF cf dj cg fu hZ) (fj bo 205 4 83 [1,1,1,0,1,0,0,1,1,0,0,1,1,1,1,0,1,0,0] (Gp a0 bd hI iS dL jf je jk aG ae aR an cG cF cf dj cg (fu,hZ)) (Gp a0 bd hI iS dL jf je jk aG ae aR an cG cF cf dj cg) (GL a0 bd hI iS dL jf je jk aG ae aR an cG cF cf dj cg)):=by
 unfold v7
 exact .ite (fun o =>
  .bn fun R =>
  .az fun aU aA =>
  .az fun bh br =>
  .az fun k7 bx =>
  .bn fun c2 =>
  .az fun i1 d2 =>
  .ret (let aW:=dq [0,1,2,3,4,5,6,7,8];let bl:=ld (ix .live 2 aQ hZ) kP bx;bS [(ad 1),.ao true,.aH (bH 2 (.cB (J aU)) 2),.aH (ap 5 (ar (bT 1 (.agg (aQ bh)) false) (ar (.gT (aq.mk 2 (k7.map aQ) .live) []) (ar (.gT (aq.mk 2 (k7.map aQ) .live) (aQ i1)) [])))),(ad 2),.bj [0,1,2,3,4,5,6,7,8] [.box [.id,.id,.id,.id,.id],.pure,.pure,.pure,.box [.id,.id,.id,.id,.id,.id],.bM (cU 2 aQ (hZ.set hI (k7.set (0+fu.toNat) bh))),.bM (av 1 (bW 5 0 2) cf),.pure,.pure] (bR [0,4,5,6,7,8,34,35,51,52,53])] (.bt o R.1 R.2 (cD J aA) (q4 bh br) bl c2.1 c2.2 (.bt bl (cD aQ d2) (aE 1 .live aD ae) (aE 1 .live aD aR) (aE 1 .live aD an) (pL (b8:=aW) (re (ix .live 2 aQ hZ) hI (rc (dF aQ k7) (0+fu.toNat) bh (rfl:(setCells (aQ i1) 0 (aQ bh))=aQ bh))) (pi d1)) (eP aW 5 5 0 2 rfl cf) (aE 1 .live aD dj) (.ax (aE 1 .live dT cg))))))
  (fun o =>
  .ret (let cc:=dq [0,1,2,3,4,5,6,7,8];bS [(ad 1),.ao false,.bj [0,1,2,3,4,5,6,7,8] [.box [.id,.id,.id,.id,.id],.pure,.pure,.pure,.box [.id,.id,.id,.id,.id,.id],.bM (cU 2 aQ hZ),.bM (av 1 (bW 5 0 2) cf),.pure,.pure] (bR [0,4,5,6,7,8,34,35])] (.hh o (aE 1 .live aD ae) (aE 1 .live aD aR) (aE 1 .live aD an) (eS cc 2 d1 hZ) (eP cc 5 5 0 2 rfl cf) (aE 1 .live aD dj) (aE 1 .live dT cg))))
theorem Ug {a0 bd:Int}{hI iS:Nat}{dL:Int}{jf je:Nat}{jk aG:Int}{ae aR an:List Int}{cG:Bool}{cF:List Int}{cf:List b0}{dj:List Int}{cg:List Bool}{fu:Int}{hZ:List (List bc)}{r} (h:Cj a0 bd hI iS dL jf je jk aG ae aR an cG cF cf dj cg fu hZ=some r):fk bo 205 4 83 [1,1,1,0,1,0,0,1,1,0,0,1,1,1,1,0,1,0,0] (Gp a0 bd hI iS dL jf je jk aG ae aR an cG cF cf dj cg) (GL a0 bd hI iS dL jf je jk aG ae aR an cG cF cf dj cg) (fu,hZ) r:=fl (fun _=>Tv) h
def Gq (a0 bd:Int)(hI iS:Nat)(dL:Int)(jf je:Nat)(jk aG:Int)(ae aR an:List Int)(cG:Bool)(cF:List Int)(cf:List b0)(dj:List Int)(cg:List Bool):(Int×(List (List bc)))→S:=fun (fu,hZ)=>eD [(0,.ref 0 0 0 0),(4,.n .i64 a0),(5,.ref 4 0 0 0),(6,.n .i64 bd),(7,.bw 5 (hI+0) 0 iS),(8,.n .i64 (1:Int)),(34,.n .i64 dL),(35,.n .i64 bd),(51,.bw 1 0 jf je),(52,.n .i64 jk),(53,.n .i64 fu)] [[aq.mk 5 [(gp dL aG 1 0 0 ae.length 2 0 0 aR.length 3 0 0 an.length)] .live],(av 1 J ae),(av 1 J aR),(av 1 J an),[aq.mk 6 [(eG 6 0 0 cf.length cG cF 7 0 0 dj.length a0 8 0 0 cg.length)] .live],(cU 2 aQ hZ),(av 1 (bW 5 0 2) cf),(av 1 J dj),(av 1 dB cg)]
def GM (a0 bd:Int)(hI iS:Nat)(dL:Int)(jf je:Nat)(jk aG:Int)(ae aR an:List Int)(cG:Bool)(cF:List Int)(cf:List b0)(dj:List Int)(cg:List Bool):(List (List bc))→eJ
 | a=>⟨some 2,[(0,.ref 0 0 0 0),(4,.n .i64 a0),(5,.ref 4 0 0 0),(6,.n .i64 bd),(7,.bw 5 (hI+0) 0 iS),(8,.n .i64 (1:Int)),(34,.n .i64 dL),(35,.n .i64 bd)],[[aq.mk 5 [(gp dL aG 1 0 0 ae.length 2 0 0 aR.length 3 0 0 an.length)] .live],(av 1 J ae),(av 1 J aR),(av 1 J an),[aq.mk 6 [(eG 6 0 0 cf.length cG cF 7 0 0 dj.length a0 8 0 0 cg.length)] .live],(cU 2 aQ a),(av 1 (bW 5 0 2) cf),(av 1 J dj),(av 1 dB cg)]⟩
def v8 (a0 bd:Int)(hI iS:Nat)(dL:Int)(jf je:Nat)(jk aG:Int)(ae aR an:List Int)(cG:Bool)(cF:List Int)(cf:List b0)(dj:List Int)(cg:List Bool)(fu:Int)(hZ:List (List bc)):Option ((Int×(List (List bc)))⊕((List (List bc)))) :=
 if (decide (fu<jk))=true then
  if 0≤fu∧fu<(je:Nat) then
  ae[(jf+fu.toNat)]? >>= fun aU =>
  nz (U ((1:Int)*aU)) >>= fun bh =>
  hZ[hI]? >>= fun k7 =>
  if 0≤fu∧fu<(iS:Nat) then
  k7[(0+fu.toNat)]? >>= fun i1 =>
  some (.inl (U (fu+(1:Int)),hZ.set hI (k7.set (0+fu.toNat) bh)))
  else none
  else none
 else
  some (.inr hZ)
def Ck (a0 bd:Int)(hI iS:Nat)(dL:Int)(jf je:Nat)(jk aG:Int)(ae aR an:List Int)(cG:Bool)(cF:List Int)(cf:List b0)(dj:List Int)(cg:List Bool)(fu:Int)(hZ:List (List bc)):Option ((List (List bc))):=iter (fun w:Int×(List (List bc))=>v8 a0 bd hI iS dL jf je jk aG ae aR an cG cF cf dj cg w.1 w.2) (fu,hZ)
theorem Tw {a0 bd:Int}{hI iS:Nat}{dL:Int}{jf je:Nat}{jk aG:Int}{ae aR an:List Int}{cG:Bool}{cF:List Int}{cf:List b0}{dj:List Int}{cg:List Bool}{fu:Int}{hZ:List (List bc)}:bQ (v8 a0 bd hI iS dL jf je jk aG ae aR an cG cF cf dj cg fu hZ) (fj bo 205 4 83 [1,1,1,0,1,0,0,1,1,0,0,1,1,1,1,0,1,0,0] (Gq a0 bd hI iS dL jf je jk aG ae aR an cG cF cf dj cg (fu,hZ)) (Gq a0 bd hI iS dL jf je jk aG ae aR an cG cF cf dj cg) (GM a0 bd hI iS dL jf je jk aG ae aR an cG cF cf dj cg)):=by
 unfold v8
 exact .ite (fun o =>
  .bn fun R =>
  .az fun aU aA =>
  .az fun bh br =>
  .az fun k7 bx =>
  .bn fun c2 =>
  .az fun i1 d2 =>
  .ret (let aW:=dq [0,1,2,3,4,5,6,7,8];let bl:=ld (ix .live 2 aQ hZ) kP bx;bS [(ad 1),.ao true,.aH (bH 2 (.cB (J aU)) 2),.aH (ap 5 (ar (bT 1 (.agg (aQ bh)) false) (ar (.gT (aq.mk 2 (k7.map aQ) .live) []) (ar (.gT (aq.mk 2 (k7.map aQ) .live) (aQ i1)) [])))),(ad 2),.bj [0,1,2,3,4,5,6,7,8] [.box [.id,.id,.id,.id,.id],.pure,.pure,.pure,.box [.id,.id,.id,.id,.id,.id],.bM (cU 2 aQ (hZ.set hI (k7.set (0+fu.toNat) bh))),.bM (av 1 (bW 5 0 2) cf),.pure,.pure] (bR [0,4,5,6,7,8,34,35,51,52,53])] (.bt o R.1 R.2 (cD J aA) (q4 bh br) bl c2.1 c2.2 (.bt bl (cD aQ d2) (aE 1 .live aD ae) (aE 1 .live aD aR) (aE 1 .live aD an) (pL (b8:=aW) (re (ix .live 2 aQ hZ) hI (rc (dF aQ k7) (0+fu.toNat) bh (rfl:(setCells (aQ i1) 0 (aQ bh))=aQ bh))) (pi d1)) (eP aW 5 5 0 2 rfl cf) (aE 1 .live aD dj) (.ax (aE 1 .live dT cg))))))
  (fun o =>
  .ret (let cc:=dq [0,1,2,3,4,5,6,7,8];bS [(ad 1),.ao false,.bj [0,1,2,3,4,5,6,7,8] [.box [.id,.id,.id,.id,.id],.pure,.pure,.pure,.box [.id,.id,.id,.id,.id,.id],.bM (cU 2 aQ hZ),.bM (av 1 (bW 5 0 2) cf),.pure,.pure] (bR [0,4,5,6,7,8,34,35])] (.hh o (aE 1 .live aD ae) (aE 1 .live aD aR) (aE 1 .live aD an) (eS cc 2 d1 hZ) (eP cc 5 5 0 2 rfl cf) (aE 1 .live aD dj) (aE 1 .live dT cg))))
theorem Uh {a0 bd:Int}{hI iS:Nat}{dL:Int}{jf je:Nat}{jk aG:Int}{ae aR an:List Int}{cG:Bool}{cF:List Int}{cf:List b0}{dj:List Int}{cg:List Bool}{fu:Int}{hZ:List (List bc)}{r} (h:Ck a0 bd hI iS dL jf je jk aG ae aR an cG cF cf dj cg fu hZ=some r):fk bo 205 4 83 [1,1,1,0,1,0,0,1,1,0,0,1,1,1,1,0,1,0,0] (Gq a0 bd hI iS dL jf je jk aG ae aR an cG cF cf dj cg) (GM a0 bd hI iS dL jf je jk aG ae aR an cG cF cf dj cg) (fu,hZ) r:=fl (fun _=>Tw) h
def Gr (a0 dL aG:Int)(ae aR an:List Int)(cG:Bool)(cF:List Int)(cg:List Bool):(Int×(List b0)×(List (List bc))×(List Int))→S:=fun (dg,bz,ee,dj)=>eD [(0,.ref 0 0 0 0),(4,.n .i64 a0),(5,.ref 4 0 0 0),(34,.n .i64 dL),(35,.n .i64 dg)] [[aq.mk 5 [(gp dL aG 1 0 0 ae.length 2 0 0 aR.length 3 0 0 an.length)] .live],(av 1 J ae),(av 1 J aR),(av 1 J an),[aq.mk 6 [(eG 5 0 0 bz.length cG cF 7 0 0 dj.length a0 8 0 0 cg.length)] .live],(av 1 (bW 6 0 2) bz),(cU 2 aQ ee),(av 1 J dj),(av 1 dB cg)]
def GN (a0 dL aG:Int)(ae aR an:List Int)(cG:Bool)(cF:List Int)(cg:List Bool):((List b0)×(List (List bc))×(List Int))→eJ
 | a=>⟨some 0,[(0,.ref 0 0 0 0),(4,.n .i64 a0),(5,.ref 4 0 0 0)],[[aq.mk 5 [(gp dL aG 1 0 0 ae.length 2 0 0 aR.length 3 0 0 an.length)] .live],(av 1 J ae),(av 1 J aR),(av 1 J an),[aq.mk 6 [(eG 5 0 0 a.1.length cG cF 7 0 0 a.2.2.length a0 8 0 0 cg.length)] .live],(av 1 (bW 6 0 2) a.1),(cU 2 aQ a.2.1),(av 1 J a.2.2),(av 1 dB cg)]⟩
def v9 (a0 dL aG:Int)(ae aR an:List Int)(cG:Bool)(cF:List Int)(cg:List Bool)(dg:Int)(bz:List b0)(ee:List (List bc))(dj:List Int):Option ((Int×(List b0)×(List (List bc))×(List Int))⊕((List b0)×(List (List bc))×(List Int))) :=
 if (decide (dg<dL))=true then
  if 0≤(U (a0+(1:Int)))∧(32:Int)*(U (a0+(1:Int)))≤281474976710656∧(U (a0+(1:Int)))<9223372036854775808 then
  if 0≤dg∧dg<(aR.length:Nat) then
  aR[(0+dg.toNat)]? >>= fun fO =>
  if (decide (fO<(0:Int)))=true then
   wt dg dL aG ae aR an >>= fun bK =>
   Cj a0 dg ee.length ((U (a0+(1:Int))).toNat) dL bK.1 bK.2 ((bK.2:Nat):Int) aG ae aR an cG cF bz dj cg 0 (ee++[(List.replicate (U (a0+(1:Int))).toNat (⟨false,([]:List Int)⟩:bc):List bc)]) >>= fun bi =>
   nz 1 >>= fun c0 =>
   bi[ee.length]? >>= fun np =>
   if 0≤(U (aG+dg))∧(U (aG+dg))<((U (a0+(1:Int))).toNat:Nat) then
   np[(0+(U (aG+dg)).toNat)]? >>= fun jU =>
   nz (U ((-1:Int)*fO)) >>= fun eZ =>
   (bi.set ee.length (np.set (0+(U (aG+dg)).toNat) c0))[ee.length]? >>= fun oF =>
   if 0≤a0∧a0<((U (a0+(1:Int))).toNat:Nat) then
   oF[(0+a0.toNat)]? >>= fun uZ =>
   if (bz++([(some (ee.length,(U (a0+(1:Int))).toNat))]:List b0)).length*24≤140737488355328 then
   if (dj++([U (aG+dg)]:List Int)).length*8≤140737488355328 then
   some (.inl (U (dg+(1:Int)),bz++([(some (ee.length,(U (a0+(1:Int))).toNat))]:List b0),(bi.set ee.length (np.set (0+(U (aG+dg)).toNat) c0)).set ee.length (oF.set (0+a0.toNat) eZ),dj++([U (aG+dg)]:List Int)))
   else none
   else none
   else none
   else none
  else
   wt dg dL aG ae aR an >>= fun bK =>
   Ck a0 dg ee.length ((U (a0+(1:Int))).toNat) dL bK.1 bK.2 ((bK.2:Nat):Int) aG ae aR an cG cF bz dj cg 0 (ee++[(List.replicate (U (a0+(1:Int))).toNat (⟨false,([]:List Int)⟩:bc):List bc)]) >>= fun bi =>
   nz 1 >>= fun c0 =>
   bi[ee.length]? >>= fun np =>
   if 0≤(U (aG+dg))∧(U (aG+dg))<((U (a0+(1:Int))).toNat:Nat) then
   np[(0+(U (aG+dg)).toNat)]? >>= fun jU =>
   nz (U ((1:Int)*fO)) >>= fun eZ =>
   (bi.set ee.length (np.set (0+(U (aG+dg)).toNat) c0))[ee.length]? >>= fun oF =>
   if 0≤a0∧a0<((U (a0+(1:Int))).toNat:Nat) then
   oF[(0+a0.toNat)]? >>= fun uZ =>
   if (bz++([(some (ee.length,(U (a0+(1:Int))).toNat))]:List b0)).length*24≤140737488355328 then
   if (dj++([U (aG+dg)]:List Int)).length*8≤140737488355328 then
   some (.inl (U (dg+(1:Int)),bz++([(some (ee.length,(U (a0+(1:Int))).toNat))]:List b0),(bi.set ee.length (np.set (0+(U (aG+dg)).toNat) c0)).set ee.length (oF.set (0+a0.toNat) eZ),dj++([U (aG+dg)]:List Int)))
   else none
   else none
   else none
   else none
  else none
  else none
 else
  some (.inr (bz,ee,dj))
def Cl (a0 dL aG:Int)(ae aR an:List Int)(cG:Bool)(cF:List Int)(cg:List Bool)(dg:Int)(bz:List b0)(ee:List (List bc))(dj:List Int):Option ((List b0)×(List (List bc))×(List Int)):=iter (fun w:Int×(List b0)×(List (List bc))×(List Int)=>v9 a0 dL aG ae aR an cG cF cg w.1 w.2.1 w.2.2.1 w.2.2.2) (dg,bz,ee,dj)
set_option maxHeartbeats 4000000 in
theorem Tx {a0 dL aG:Int}{ae aR an:List Int}{cG:Bool}{cF:List Int}{cg:List Bool}{dg:Int}{bz:List b0}{ee:List (List bc)}{dj:List Int}:bQ (v9 a0 dL aG ae aR an cG cF cg dg bz ee dj) (fj bo 205 4 83 [1,1,1,0,1,0,0] (Gr a0 dL aG ae aR an cG cF cg (dg,bz,ee,dj)) (Gr a0 dL aG ae aR an cG cF cg) (GN a0 dL aG ae aR an cG cF cg)):=by
 unfold v9
 exact .ite (fun o =>
  .bn fun R =>
  .bn fun ab =>
  .az fun fO aF =>
  (let t1:List cw:=[(ad 1),.ao true,(ad 2),.aH (bH 2 (.Bm 6 (ee.length+0) (.cB [.b false,.isl 1 (([]:List Int).map J)])) 1),(ad 1),.aH (bH 6 (.cB (J fO)) 1)];
  have a6:=((.bt o R.1 (Int.le_refl (U (a0+(1:Int)))) R.2.1 R.2.2 (congrArg (· + 0) (Y9 (ix .live 2 aQ ee) rfl)) ab.1 ab.2 (.ax (cD J aF))):cL _);
  .ite (fun br =>
  .az fun bK bx =>
  .az fun bi dO =>
  .az fun c0 ev =>
  .az fun np eT =>
  .bn fun hD =>
  .az fun jU gh =>
  .az fun eZ gG =>
  .az fun oF oE =>
  .bn fun h6 =>
  .az fun uZ yi =>
  .bn fun qP =>
  .bn fun nq =>
  .ret (let aW:=gp dL aG 1 0 0 ae.length 2 0 0 aR.length 3 0 0 an.length;let cc:=(U (a0+(1:Int)));let cM:=dq [0,1,2,3,4,40,5,56,8];let eN:=U (aG+dg);let bl:=(re (ix .live 2 aQ bi) ee.length (rc (dF aQ np) (0+eN.toNat) c0 (rfl:(setCells (aQ jU) 0 (aQ c0))=aQ c0)));let gH:=(dj++([eN]:List Int));let h9:=(bz++([(some (ee.length,cc.toNat))]:List b0));let fx:=dq [0,1,2,3,4,6,5,7,8];let jz:=ld (ix .live 2 aQ bi) kP eT;bS (t1.append [.ao true,(ad 1),.aH (bH 2 (.call {aM:=(oT [0,1,2,3]),cu:=[.bM [aq.mk 5 [aW] .live],.pure,.pure,.pure],ac:=[ii,ii],r:= .bw 1 0 bK.1 bK.2,db:=[[aq.mk 5 [aW] .live],(av 1 J ae),(av 1 J aR),(av 1 J an)],eo:=ii,e4:=[.bM [aq.mk 5 [aW] .live],.pure,.pure,.pure],dd:=[0,1,2,3],c9:=false}) 2),.bj [0,1,2,3,4,6,5,7,8] [.box [.id,.id,.id,.id,.id],.pure,.pure,.pure,.box [.id,.id,.id,.id,.id,.id],.bM (cU 2 aQ (ee++[(List.replicate cc.toNat (⟨false,([]:List Int)⟩:bc):List bc)])),.bM (av 1 (bW 5 0 2) bz),.pure,.pure] (bR [0,4,5,6,7,8,34,35,51,52,53]),(GL a0 dg ee.length (cc.toNat) dL bK.1 bK.2 ((bK.2:Nat):Int) aG ae aR an cG cF bz dj cg bi).fW,.aH (ap 7 (ar (bT 1 (.agg (aQ c0)) false) (ar (.gT (aq.mk 2 (np.map aQ) .live) []) (ar (.gT (aq.mk 2 (np.map aQ) .live) (aQ jU)) [])))),.aH (ap 9 (ar (.cB (J fO)) (ap 1 (ar (bT 1 (.agg (aQ eZ)) false) (ar (.gT (aq.mk 2 (oF.map aQ) .live) []) (ar (.gT (aq.mk 2 (oF.map aQ) .live) (aQ uZ)) [])))))),.aH (ap 6 (ar (.eM 93 (mz 5 0 2 (some (ee.length,cc.toNat))) .none) (ar (.aZ (h9.length)) (ap 3 [])))),.aH (bH 12 (.aZ (gH.length)) 3),(ad 2),.bj [0,1,2,3,4,40,5,56,8] [.box [.id,.id,.id,.id,.id],.pure,.pure,.pure,.box [.id,.id,.id,.id,.id,.id],.bM (av 1 (bW 6 0 2) h9),.bM (cU 2 aQ ((bi.set ee.length (np.set (0+eN.toNat) c0)).set ee.length (oF.set (0+a0.toNat) eZ))),.dw (av 1 J gH),.pure] (bR [0,4,5,34,35])]) (a6.aZ (.bt br (jb (rB [0,1,2,3]) 5 [aW] [aW] rfl) (js 5 [aW]) (fg 1 aD ae) (fg 1 aD aR) (fg 1 aD an) (jb (n1 [0,1,2,3]) 5 [aW] [aW] rfl) (js 5 [aW]) (.bt (fg 1 aD ae) (fg 1 aD aR) (fg 1 aD an) (L3 bK bx) (aE 1 .live aD ae) (aE 1 .live aD aR) (aE 1 .live aD an) (pL (b8:=fx) (PO (ix .live 2 aQ ee) (Qn rJ 14 6 (ee.length+0) (kp aQ cc.toNat (⟨false,([]:List Int)⟩:bc)) (Qo 14 6 (ee.length+0)))) (pi d1)) (.bt (eP fx 5 6 0 2 rfl bz) (aE 1 .live aD dj) (aE 1 .live dT cg) (Ug dO) (q4 c0 ev) jz hD.1 hD.2 (.bt jz (cD aQ gh) ab.1 ab.2 (cD J aF) (q4 eZ gG) (ld bl kP oE) h6.1 (.bt h6.2 (ld bl kP oE) (cD aQ yi) (.s2 5 0 2 ee.length (cc.toNat):kg (.bw 5 (ee.length+0) 0 (cc.toNat)) (mz 5 0 2 (some (ee.length,cc.toNat)))) (k6 (bW 5 0 2) (some (ee.length,cc.toNat))) (o4 (bW 5 0 2) bz) (nt (bW 5 0 2) bz (some (ee.length,cc.toNat))) qP (.bt (k6 J eN) (o4 J dj) (nt J dj eN) nq (aE 1 .live aD ae) (aE 1 .live aD aR) (aE 1 .live aD an) (kr (yx (b8:=cM) 1 .live (bW 6 0 2) (o5 (bW 5 0 2) bz (some (ee.length,cc.toNat))) (z6 (rfl:cM 5=some 6))) (rW (b8:=cM))) (.c8 (pL (b8:=cM) (re bl ee.length (rc (dF aQ oF) (0+a0.toNat) eZ (rfl:(setCells (aQ uZ) 0 (aQ eZ))=aQ eZ))) (pi d1)) (d4 1 .live (o5 J dj eN)) (aE 1 .live aD gH) (aE 1 .live dT cg)))))))))))
  (fun br =>
  .az fun bK bx =>
  .az fun bi dO =>
  .az fun c0 ev =>
  .az fun np eT =>
  .bn fun hD =>
  .az fun jU gh =>
  .az fun eZ gG =>
  .az fun oF oE =>
  .bn fun h6 =>
  .az fun uZ yi =>
  .bn fun qP =>
  .bn fun nq =>
  .ret (let jx:=gp dL aG 1 0 0 ae.length 2 0 0 aR.length 3 0 0 an.length;let k4:=(U (a0+(1:Int)));let nT:=dq [0,1,2,3,4,40,5,56,8];let oW:=U (aG+dg);let k3:=(re (ix .live 2 aQ bi) ee.length (rc (dF aQ np) (0+oW.toNat) c0 (rfl:(setCells (aQ jU) 0 (aQ c0))=aQ c0)));let nr:=(dj++([oW]:List Int));let rv:=(bz++([(some (ee.length,k4.toNat))]:List b0));let sn:=dq [0,1,2,3,4,6,5,7,8];let pz:=ld (ix .live 2 aQ bi) kP eT;bS (t1.append [.ao false,.aH (bH 2 (.call {aM:=(oT [0,1,2,3]),cu:=[.bM [aq.mk 5 [jx] .live],.pure,.pure,.pure],ac:=[ii,ii],r:= .bw 1 0 bK.1 bK.2,db:=[[aq.mk 5 [jx] .live],(av 1 J ae),(av 1 J aR),(av 1 J an)],eo:=ii,e4:=[.bM [aq.mk 5 [jx] .live],.pure,.pure,.pure],dd:=[0,1,2,3],c9:=false}) 2),.bj [0,1,2,3,4,6,5,7,8] [.box [.id,.id,.id,.id,.id],.pure,.pure,.pure,.box [.id,.id,.id,.id,.id,.id],.bM (cU 2 aQ (ee++[(List.replicate k4.toNat (⟨false,([]:List Int)⟩:bc):List bc)])),.bM (av 1 (bW 5 0 2) bz),.pure,.pure] (bR [0,4,5,6,7,8,34,35,51,52,53]),(GM a0 dg ee.length (k4.toNat) dL bK.1 bK.2 ((bK.2:Nat):Int) aG ae aR an cG cF bz dj cg bi).fW,.aH (ap 7 (ar (bT 1 (.agg (aQ c0)) false) (ar (.gT (aq.mk 2 (np.map aQ) .live) []) (ar (.gT (aq.mk 2 (np.map aQ) .live) (aQ jU)) [])))),.aH (ap 9 (ar (.cB (J fO)) (ap 1 (ar (bT 1 (.agg (aQ eZ)) false) (ar (.gT (aq.mk 2 (oF.map aQ) .live) []) (ar (.gT (aq.mk 2 (oF.map aQ) .live) (aQ uZ)) [])))))),.aH (ap 6 (ar (.eM 93 (mz 5 0 2 (some (ee.length,k4.toNat))) .none) (ar (.aZ (rv.length)) (ap 3 [])))),.aH (bH 12 (.aZ (nr.length)) 3),(ad 2),.bj [0,1,2,3,4,40,5,56,8] [.box [.id,.id,.id,.id,.id],.pure,.pure,.pure,.box [.id,.id,.id,.id,.id,.id],.bM (av 1 (bW 6 0 2) rv),.bM (cU 2 aQ ((bi.set ee.length (np.set (0+oW.toNat) c0)).set ee.length (oF.set (0+a0.toNat) eZ))),.dw (av 1 J nr),.pure] (bR [0,4,5,34,35])]) (a6.aZ (.bt br (jb (rB [0,1,2,3]) 5 [jx] [jx] rfl) (js 5 [jx]) (fg 1 aD ae) (fg 1 aD aR) (fg 1 aD an) (jb (n1 [0,1,2,3]) 5 [jx] [jx] rfl) (js 5 [jx]) (.bt (fg 1 aD ae) (fg 1 aD aR) (fg 1 aD an) (L3 bK bx) (aE 1 .live aD ae) (aE 1 .live aD aR) (aE 1 .live aD an) (pL (b8:=sn) (PO (ix .live 2 aQ ee) (Qn rJ 14 6 (ee.length+0) (kp aQ k4.toNat (⟨false,([]:List Int)⟩:bc)) (Qo 14 6 (ee.length+0)))) (pi d1)) (.bt (eP sn 5 6 0 2 rfl bz) (aE 1 .live aD dj) (aE 1 .live dT cg) (Uh dO) (q4 c0 ev) pz hD.1 hD.2 (.bt pz (cD aQ gh) ab.1 ab.2 (cD J aF) (q4 eZ gG) (ld k3 kP oE) h6.1 (.bt h6.2 (ld k3 kP oE) (cD aQ yi) (.s2 5 0 2 ee.length (k4.toNat):kg (.bw 5 (ee.length+0) 0 (k4.toNat)) (mz 5 0 2 (some (ee.length,k4.toNat)))) (k6 (bW 5 0 2) (some (ee.length,k4.toNat))) (o4 (bW 5 0 2) bz) (nt (bW 5 0 2) bz (some (ee.length,k4.toNat))) qP (.bt (k6 J oW) (o4 J dj) (nt J dj oW) nq (aE 1 .live aD ae) (aE 1 .live aD aR) (aE 1 .live aD an) (kr (yx (b8:=nT) 1 .live (bW 6 0 2) (o5 (bW 5 0 2) bz (some (ee.length,k4.toNat))) (z6 (rfl:nT 5=some 6))) (rW (b8:=nT))) (.c8 (pL (b8:=nT) (re k3 ee.length (rc (dF aQ oF) (0+a0.toNat) eZ (rfl:(setCells (aQ uZ) 0 (aQ eZ))=aQ eZ))) (pi d1)) (d4 1 .live (o5 J dj oW)) (aE 1 .live aD nr) (aE 1 .live dT cg)))))))))))))
  (fun o =>
  .ret (let j7:=dq [0,1,2,3,4,5,6,7,8];bS [(ad 1),.ao false,.bj [0,1,2,3,4,5,6,7,8] [.box [.id,.id,.id,.id,.id],.pure,.pure,.pure,.box [.id,.id,.id,.id,.id,.id],.bM (av 1 (bW 6 0 2) bz),.bM (cU 2 aQ ee),.pure,.pure] (bR [0,4,5])] (.hh o (aE 1 .live aD ae) (aE 1 .live aD aR) (aE 1 .live aD an) (eP j7 6 6 0 2 rfl bz) (eS j7 2 d1 ee) (aE 1 .live aD dj) (aE 1 .live dT cg))))
theorem Ui {a0 dL aG:Int}{ae aR an:List Int}{cG:Bool}{cF:List Int}{cg:List Bool}{dg:Int}{bz:List b0}{ee:List (List bc)}{dj:List Int}{r} (h:Cl a0 dL aG ae aR an cG cF cg dg bz ee dj=some r):fk bo 205 4 83 [1,1,1,0,1,0,0] (Gr a0 dL aG ae aR an cG cF cg) (GN a0 dL aG ae aR an cG cF cg) (dg,bz,ee,dj) r:=fl (fun _=>Tx) h
def Gs (a0 od aT aG:Int)(ae aR an:List Int)(cG:Bool)(cF:List Int)(cf:List b0)(ew:List (List bc))(cg:List Int):(Int×(List Int)×(List Bool))→S:=fun (gi,bz,eA)=>eD [(0,.ref 0 0 0 0),(4,.n .i64 a0),(5,.ref 4 0 0 0),(11,.bw 5 0 0 bz.length),(117,.n .i64 od),(118,.n .i64 gi)] [[aq.mk 5 [(gp aT aG 1 0 0 ae.length 2 0 0 aR.length 3 0 0 an.length)] .live],(av 1 J ae),(av 1 J aR),(av 1 J an),[aq.mk 6 [(eG 6 0 0 cf.length cG cF 8 0 0 cg.length a0 9 0 0 eA.length)] .live],(av 1 J bz),(av 1 (bW 7 0 2) cf),(cU 2 aQ ew),(av 1 J cg),(av 1 dB eA)]
def GO (a0 od aT aG:Int)(ae aR an:List Int)(cG:Bool)(cF:List Int)(cf:List b0)(ew:List (List bc))(cg:List Int):((List Int)×(List Bool))→eJ
 | a=>⟨some 4,[(0,.ref 0 0 0 0),(4,.n .i64 a0),(5,.ref 4 0 0 0),(11,.bw 5 0 0 a.1.length)],[[aq.mk 5 [(gp aT aG 1 0 0 ae.length 2 0 0 aR.length 3 0 0 an.length)] .live],(av 1 J ae),(av 1 J aR),(av 1 J an),[aq.mk 6 [(eG 6 0 0 cf.length cG cF 8 0 0 cg.length a0 9 0 0 a.2.length)] .live],(av 1 J a.1),(av 1 (bW 7 0 2) cf),(cU 2 aQ ew),(av 1 J cg),(av 1 dB a.2)]⟩
def wa (a0 od aT aG:Int)(ae aR an:List Int)(cG:Bool)(cF:List Int)(cf:List b0)(ew:List (List bc))(cg:List Int)(gi:Int)(bz:List Int)(eA:List Bool):Option ((Int×(List Int)×(List Bool))⊕((List Int)×(List Bool))) :=
 if (decide (gi<od))=true then
  if 0≤gi∧gi<(eA.length:Nat) then
  if (0+gi.toNat)<eA.length then
  if (decide (aG≤gi))=true then
   if 0≤gi∧gi<(bz.length:Nat) then
   if (0+gi.toNat)<bz.length then
   some (.inl (U (gi+(1:Int)),bz.set (0+gi.toNat) (-1),eA.set (0+gi.toNat) (decide (gi<aG))))
   else none
   else none
  else
   some (.inl (U (gi+(1:Int)),bz,eA.set (0+gi.toNat) (decide (gi<aG))))
  else none
  else none
 else
  some (.inr (bz,eA))
def Cm (a0 od aT aG:Int)(ae aR an:List Int)(cG:Bool)(cF:List Int)(cf:List b0)(ew:List (List bc))(cg:List Int)(gi:Int)(bz:List Int)(eA:List Bool):Option ((List Int)×(List Bool)):=iter (fun w:Int×(List Int)×(List Bool)=>wa a0 od aT aG ae aR an cG cF cf ew cg w.1 w.2.1 w.2.2) (gi,bz,eA)
theorem Ty {a0 od aT aG:Int}{ae aR an:List Int}{cG:Bool}{cF:List Int}{cf:List b0}{ew:List (List bc)}{cg:List Int}{gi:Int}{bz:List Int}{eA:List Bool}:bQ (wa a0 od aT aG ae aR an cG cF cf ew cg gi bz eA) (fj bo 205 4 83 [1,1,1,1,1,0,1,0,0] (Gs a0 od aT aG ae aR an cG cF cf ew cg (gi,bz,eA)) (Gs a0 od aT aG ae aR an cG cF cf ew cg) (GO a0 od aT aG ae aR an cG cF cf ew cg)):=by
 unfold wa
 exact .ite (fun o =>
  .bn fun R =>
  .bn fun ab =>
  (let t1:List cw:=[(ad 1),.ao true,(ad 2),.aH (ap 12 (ar .cT [])),(ad 6)];
  have a6:=((.ep o R.1 R.2 (hb dB ab) (gB 1)):cL _);
  .ite (fun aA =>
  .bn fun aF =>
  .bn fun br =>
  .ret (let aW:=dq [0,1,2,3,4,5,6,7,8,9];bS (t1.append [.ao true,.aH (ap 3 (ar .cT [])),(ad 2),.bj [0,1,2,3,4,5,6,7,8,9] [.box [.id,.id,.id,.id,.id],.pure,.pure,.pure,.box [.id,.id,.id,.id,.id,.len ((eA.set (0+gi.toNat) (decide (gi<aG))).length)],.dw (av 1 J (bz.set (0+gi.toNat) (-1))),.bM (av 1 (bW 7 0 2) cf),.bM (cU 2 aQ ew),.pure,.dw (av 1 dB (eA.set (0+gi.toNat) (decide (gi<aG))))] [(0,ii),(4,ii),(5,ii),(11,fQ ((bz.set (0+gi.toNat) (-1)).length)),(117,ii),(118,ii)]]) (a6.aZ (.bt aA aF.1 aF.2 (hb J br) (gB 1) (aE 1 .live aD ae) (aE 1 .live aD aR) (aE 1 .live aD an) (.bt (gP (fq eA) (0+gi.toNat) (decide (gi<aG))) (d4 1 .live (fs (dF J bz) (0+gi.toNat) (-1))) (aE 1 .live aD (bz.set (0+gi.toNat) (-1))) (eP aW 7 7 0 2 rfl cf) (eS aW 2 d1 ew) (aE 1 .live aD cg) (d4 1 .live (fs (dF dB eA) (0+gi.toNat) (decide (gi<aG)))) (aE 1 .live dT (eA.set (0+gi.toNat) (decide (gi<aG)))) (.ax (gP (fq bz) (0+gi.toNat) (-1))))))))
  (fun aA =>
  .ret (let bl:=dq [0,1,2,3,4,5,6,7,8,9];bS (t1.append [.ao false,(ad 2),.bj [0,1,2,3,4,5,6,7,8,9] [.box [.id,.id,.id,.id,.id],.pure,.pure,.pure,.box [.id,.id,.id,.id,.id,.len ((eA.set (0+gi.toNat) (decide (gi<aG))).length)],.pure,.bM (av 1 (bW 7 0 2) cf),.bM (cU 2 aQ ew),.pure,.dw (av 1 dB (eA.set (0+gi.toNat) (decide (gi<aG))))] (bR [0,4,5,11,117,118])]) (a6.aZ (.bt aA (aE 1 .live aD ae) (aE 1 .live aD aR) (aE 1 .live aD an) (gP (fq eA) (0+gi.toNat) (decide (gi<aG))) (aE 1 .live aD bz) (eP bl 7 7 0 2 rfl cf) (eS bl 2 d1 ew) (.bZ (aE 1 .live aD cg) (d4 1 .live (fs (dF dB eA) (0+gi.toNat) (decide (gi<aG)))) (aE 1 .live dT (eA.set (0+gi.toNat) (decide (gi<aG)))))))))))
  (fun o =>
  .ret (let cc:=dq [0,1,2,3,4,5,6,7,8,9];bS [(ad 1),.ao false,.bj [0,1,2,3,4,5,6,7,8,9] [.box [.id,.id,.id,.id,.id],.pure,.pure,.pure,.box [.id,.id,.id,.id,.id,.id],.pure,.bM (av 1 (bW 7 0 2) cf),.bM (cU 2 aQ ew),.pure,.pure] (bR [0,4,5,11])] (.bt o (aE 1 .live aD ae) (aE 1 .live aD aR) (aE 1 .live aD an) (aE 1 .live aD bz) (eP cc 7 7 0 2 rfl cf) (eS cc 2 d1 ew) (aE 1 .live aD cg) (.ax (aE 1 .live dT eA)))))
theorem Uj {a0 od aT aG:Int}{ae aR an:List Int}{cG:Bool}{cF:List Int}{cf:List b0}{ew:List (List bc)}{cg:List Int}{gi:Int}{bz:List Int}{eA:List Bool}{r} (h:Cm a0 od aT aG ae aR an cG cF cf ew cg gi bz eA=some r):fk bo 205 4 83 [1,1,1,1,1,0,1,0,0] (Gs a0 od aT aG ae aR an cG cF cf ew cg) (GO a0 od aT aG ae aR an cG cF cf ew cg) (gi,bz,eA) r:=fl (fun _=>Ty) h
def Gt (a0 oe aT aG:Int)(ae aR an:List Int)(cG:Bool)(cF:List Int)(ej:Int)(bz:List Int)(cf:List b0)(ew:List (List bc))(cg:List Bool):Int→S:=fun l6=>eD [(0,.ref 0 0 0 0),(4,.n .i64 a0),(5,.ref 4 0 0 0),(149,.bw 5 0 0 bz.length),(150,.n .i64 oe),(151,.n .i64 l6)] [[aq.mk 5 [(gp aT aG 1 0 0 ae.length 2 0 0 aR.length 3 0 0 an.length)] .live],(av 1 J ae),(av 1 J aR),(av 1 J an),[aq.mk 6 [(eG 6 0 0 cf.length cG cF 5 0 0 bz.length ej 8 0 0 cg.length)] .live],(av 1 J bz),(av 1 (bW 7 0 2) cf),(cU 2 aQ ew),(av 1 dB cg)]
def B3 (a0 oe aT aG:Int)(ae aR an:List Int)(cG:Bool)(cF:List Int)(ej:Int)(bz:List Int)(cf:List b0)(ew:List (List bc))(cg:List Bool):((Unit)⊕(Unit))→eJ
 | .inl a=>⟨some 6,[(0,.ref 0 0 0 0),(5,.ref 4 0 0 0)],[[aq.mk 5 [(gp aT aG 1 0 0 ae.length 2 0 0 aR.length 3 0 0 an.length)] .live],(av 1 J ae),(av 1 J aR),(av 1 J an),[aq.mk 6 [(eG 5 0 0 cf.length cG cF 7 0 0 bz.length ej 8 0 0 cg.length)] .live],(av 1 (bW 6 0 2) cf),(cU 2 aQ ew),(av 1 J bz),(av 1 dB cg)]⟩
 | .inr a=>⟨none,[(2,.hJ),(3,.b false)],[[aq.mk 5 [(gp aT aG 1 0 0 ae.length 2 0 0 aR.length 3 0 0 an.length)] .live],(av 1 J ae),(av 1 J aR),(av 1 J an)]⟩
def wb (a0 oe aT aG:Int)(ae aR an:List Int)(cG:Bool)(cF:List Int)(ej:Int)(bz:List Int)(cf:List b0)(ew:List (List bc))(cg:List Bool)(l6:Int):Option ((Int)⊕((Unit)⊕(Unit))) :=
 if (decide (l6<oe))=true then
  if 0≤l6∧l6<(bz.length:Nat) then
  bz[(0+l6.toNat)]? >>= fun aU =>
  if (decide (aG≤aU))=true then
   if 0≤l6∧l6<(cf.length:Nat) then
   cf[(0+l6.toNat)]? >>= fun fY =>
   fY >>= fun tm =>
   ew[tm.1]? >>= fun Em =>
   if 0≤a0∧a0<(tm.2:Nat) then
   Em[(0+a0.toNat)]? >>= fun Kx =>
   n5 Kx >>= fun dP =>
   if (decide ((0:Int)<dP))=true then
    some (.inr (.inr ()))
   else
    some (.inl (U (l6+(1:Int))))
   else none
   else none
  else
   some (.inl (U (l6+(1:Int))))
  else none
 else
  some (.inr (.inl ()))
def Cn (a0 oe aT aG:Int)(ae aR an:List Int)(cG:Bool)(cF:List Int)(ej:Int)(bz:List Int)(cf:List b0)(ew:List (List bc))(cg:List Bool)(l6:Int):Option ((Unit)⊕(Unit)):=iter (fun w:Int=>wb a0 oe aT aG ae aR an cG cF ej bz cf ew cg w) l6
theorem Tz {a0 oe aT aG:Int}{ae aR an:List Int}{cG:Bool}{cF:List Int}{ej:Int}{bz:List Int}{cf:List b0}{ew:List (List bc)}{cg:List Bool}{l6:Int}:bQ (wb a0 oe aT aG ae aR an cG cF ej bz cf ew cg l6) (fj bo 205 4 83 [1,1,1,1,1,1,1,0,1,0,0] (Gt a0 oe aT aG ae aR an cG cF ej bz cf ew cg l6) (Gt a0 oe aT aG ae aR an cG cF ej bz cf ew cg) (B3 a0 oe aT aG ae aR an cG cF ej bz cf ew cg)):=by
 unfold wb
 exact .ite (fun o =>
  .bn fun R =>
  .az fun aU aA =>
  (let t1:List cw:=[(ad 1),.ao true,.aH (bH 2 (.cB (J aU)) 2)];
  .ite (fun aF =>
  .bn fun br =>
  .az fun fY bx =>
  .az fun tm dO =>
  .az fun Em ev =>
  .bn fun fo =>
  .az fun Kx hD =>
  .az fun dP gh =>
  (let cM:=ld (ix .live 2 aQ ew) kP ev;let t2:List cw:=t1.append [.aH (ap 13 (ar (.cB ((bW 7 0 2) fY)) (ap 1 (ar (.eM 169 (.bw 7 (tm.1+0) 0 tm.2) (.gT (aq.mk 2 (Em.map aQ) .live) [])) (ar (.gT (aq.mk 2 (Em.map aQ) .live) (aQ Kx)) (ar (bT 1 (.n .i64 dP) true) (ap 1 (ar (.ao true) []))))))))];
  have fX:=((.bt o R.1 R.2 (cD J aA) aF aF aF aF (.bt aF aF br.1 br.2 aF (cD (bW 7 0 2) bx) aF aF (.bt (n7 (d3:=7) (c:=0) (sz:=2) dO) cM fo.1 fo.2 aF cM (cD aQ hD) aF (.c8 (rG dP gh) (cp.n .i64 dP) aF aF)))):cL _);
  .ite (fun j6 =>
  .ret (bS (t2.append [.ao true,(ad 2),.bj [0,1,2,3] [.box [.id,.id,.id,.id,.id],.pure,.pure,.pure] (bR [2,3])]) (fX.aZ (.c8 j6 (aE 1 .live aD ae) (aE 1 .live aD aR) (aE 1 .live aD an)))))
  (fun j6 =>
  .ret (let aW:=dq [0,1,2,3,4,5,6,7,8];bS (t2.append [.ao false,(ad 2),.bj [0,1,2,3,4,5,6,7,8] [.box [.id,.id,.id,.id,.id],.pure,.pure,.pure,.box [.id,.id,.id,.id,.id,.id],.pure,.bM (av 1 (bW 7 0 2) cf),.bM (cU 2 aQ ew),.pure] (bR [0,4,5,149,150,151])]) (fX.aZ (.hh j6 (aE 1 .live aD ae) (aE 1 .live aD aR) (aE 1 .live aD an) (aE 1 .live aD bz) (eP aW 7 7 0 2 rfl cf) (eS aW 2 d1 ew) (aE 1 .live dT cg)))))))
  (fun aF =>
  .ret (let bl:=dq [0,1,2,3,4,5,6,7,8];bS (t1.append [.aH (ap 7 (dk 12 (ar (.ao false) []))),.ao false,(ad 2),.bj [0,1,2,3,4,5,6,7,8] [.box [.id,.id,.id,.id,.id],.pure,.pure,.pure,.box [.id,.id,.id,.id,.id,.id],.pure,.bM (av 1 (bW 7 0 2) cf),.bM (cU 2 aQ ew),.pure] (bR [0,4,5,149,150,151])]) (.bt o R.1 R.2 (cD J aA) aF aF aF aF (.bt aF aF aF aF aF aF aF aF (.bt aF gC (aE 1 .live aD ae) (aE 1 .live aD aR) (aE 1 .live aD an) (aE 1 .live aD bz) (eP bl 7 7 0 2 rfl cf) (eS bl 2 d1 ew) (.ax (aE 1 .live dT cg)))))))))
  (fun o =>
  .ret (let cc:=dq [0,1,2,3,4,6,7,5,8];bS [(ad 1),.ao false,.bj [0,1,2,3,4,6,7,5,8] [.box [.id,.id,.id,.id,.id],.pure,.pure,.pure,.box [.id,.id,.id,.id,.id,.id],.bM (av 1 (bW 6 0 2) cf),.bM (cU 2 aQ ew),.pure,.pure] (bR [0,5])] (.hh o (aE 1 .live aD ae) (aE 1 .live aD aR) (aE 1 .live aD an) (eP cc 6 7 0 2 rfl cf) (eS cc 2 d1 ew) (aE 1 .live aD bz) (aE 1 .live dT cg))))
theorem Mk {a0 oe aT aG:Int}{ae aR an:List Int}{cG:Bool}{cF:List Int}{ej:Int}{bz:List Int}{cf:List b0}{ew:List (List bc)}{cg:List Bool}{l6:Int}{r} (h:Cn a0 oe aT aG ae aR an cG cF ej bz cf ew cg l6=some r):fk bo 205 4 83 [1,1,1,1,1,1,1,0,1,0,0] (Gt a0 oe aT aG ae aR an cG cF ej bz cf ew cg) (B3 a0 oe aT aG ae aR an cG cF ej bz cf ew cg) l6 r:=fl (fun _=>Tz) h
def Gu (og aT aG:Int)(ae aR an:List Int)(cG:Bool)(cF:List Int)(ej:Int)(bz:List b0)(ee:List (List bc))(dj:List Int):(Int×(List Bool))→S:=fun (j1,cg)=>eD [(0,.ref 0 0 0 0),(5,.ref 4 0 0 0),(181,.n .i64 og),(182,.n .i64 j1)] [[aq.mk 5 [(gp aT aG 1 0 0 ae.length 2 0 0 aR.length 3 0 0 an.length)] .live],(av 1 J ae),(av 1 J aR),(av 1 J an),[aq.mk 6 [(eG 5 0 0 bz.length cG cF 7 0 0 dj.length ej 8 0 0 cg.length)] .live],(av 1 (bW 6 0 2) bz),(cU 2 aQ ee),(av 1 J dj),(av 1 dB cg)]
def GP (og aT aG:Int)(ae aR an:List Int)(cG:Bool)(cF:List Int)(ej:Int)(bz:List b0)(ee:List (List bc))(dj:List Int):(List Bool)→eJ
 | a=>⟨some 8,[(0,.ref 0 0 0 0),(5,.ref 4 0 0 0)],[[aq.mk 5 [(gp aT aG 1 0 0 ae.length 2 0 0 aR.length 3 0 0 an.length)] .live],(av 1 J ae),(av 1 J aR),(av 1 J an),[aq.mk 6 [(eG 5 0 0 bz.length cG cF 7 0 0 dj.length ej 8 0 0 a.length)] .live],(av 1 (bW 6 0 2) bz),(cU 2 aQ ee),(av 1 J dj),(av 1 dB a)]⟩
def wc (og aT aG:Int)(ae aR an:List Int)(cG:Bool)(cF:List Int)(ej:Int)(bz:List b0)(ee:List (List bc))(dj:List Int)(j1:Int)(cg:List Bool):Option ((Int×(List Bool))⊕((List Bool))) :=
 if (decide (j1<og))=true then
  if 0≤j1∧j1<(cg.length:Nat) then
  if (0+j1.toNat)<cg.length then
  some (.inl (U (j1+(1:Int)),cg.set (0+j1.toNat) (decide (j1<aG))))
  else none
  else none
 else
  some (.inr cg)
def Co (og aT aG:Int)(ae aR an:List Int)(cG:Bool)(cF:List Int)(ej:Int)(bz:List b0)(ee:List (List bc))(dj:List Int)(j1:Int)(cg:List Bool):Option ((List Bool)):=iter (fun w:Int×(List Bool)=>wc og aT aG ae aR an cG cF ej bz ee dj w.1 w.2) (j1,cg)
theorem TA {og aT aG:Int}{ae aR an:List Int}{cG:Bool}{cF:List Int}{ej:Int}{bz:List b0}{ee:List (List bc)}{dj:List Int}{j1:Int}{cg:List Bool}:bQ (wc og aT aG ae aR an cG cF ej bz ee dj j1 cg) (fj bo 205 4 83 [1,1,1,1,1,1,1,1,0,1,0,0] (Gu og aT aG ae aR an cG cF ej bz ee dj (j1,cg)) (Gu og aT aG ae aR an cG cF ej bz ee dj) (GP og aT aG ae aR an cG cF ej bz ee dj)):=by
 unfold wc
 exact .ite (fun o =>
  .bn fun R =>
  .bn fun ab =>
  .ret (let aW:=dq [0,1,2,3,4,5,6,7,8];bS [(ad 1),.ao true,(ad 2),.aH (ap 12 (ar .cT [])),(ad 2),.bj [0,1,2,3,4,5,6,7,8] [.box [.id,.id,.id,.id,.id],.pure,.pure,.pure,.box [.id,.id,.id,.id,.id,.len ((cg.set (0+j1.toNat) (decide (j1<aG))).length)],.bM (av 1 (bW 6 0 2) bz),.bM (cU 2 aQ ee),.pure,.dw (av 1 dB (cg.set (0+j1.toNat) (decide (j1<aG))))] (bR [0,5,181,182])] (.bt o R.1 R.2 (hb dB ab) (gB 1) (aE 1 .live aD ae) (aE 1 .live aD aR) (aE 1 .live aD an) (.fb (gP (fq cg) (0+j1.toNat) (decide (j1<aG))) (eP aW 6 6 0 2 rfl bz) (eS aW 2 d1 ee) (aE 1 .live aD dj) (d4 1 .live (fs (dF dB cg) (0+j1.toNat) (decide (j1<aG)))) (aE 1 .live dT (cg.set (0+j1.toNat) (decide (j1<aG))))))))
  (fun o =>
  .ret (let bl:=dq [0,1,2,3,4,5,6,7,8];bS [(ad 1),.ao false,.bj [0,1,2,3,4,5,6,7,8] [.box [.id,.id,.id,.id,.id],.pure,.pure,.pure,.box [.id,.id,.id,.id,.id,.id],.bM (av 1 (bW 6 0 2) bz),.bM (cU 2 aQ ee),.pure,.pure] (bR [0,5])] (.hh o (aE 1 .live aD ae) (aE 1 .live aD aR) (aE 1 .live aD an) (eP bl 6 6 0 2 rfl bz) (eS bl 2 d1 ee) (aE 1 .live aD dj) (aE 1 .live dT cg))))
theorem Uk {og aT aG:Int}{ae aR an:List Int}{cG:Bool}{cF:List Int}{ej:Int}{bz:List b0}{ee:List (List bc)}{dj:List Int}{j1:Int}{cg:List Bool}{r} (h:Co og aT aG ae aR an cG cF ej bz ee dj j1 cg=some r):fk bo 205 4 83 [1,1,1,1,1,1,1,1,0,1,0,0] (Gu og aT aG ae aR an cG cF ej bz ee dj) (GP og aT aG ae aR an cG cF ej bz ee dj) (j1,cg) r:=fl (fun _=>TA) h
def y9 (b1 cx:Int)(cN eR c3:List Int):Option ((Bool×(List Int)×Int×(List b0)×(List Int)×(List Bool)×(List (List bc)))⊕(Unit)) :=
 nz 1 >>= fun ak =>
 if 0≤(U (cx+b1))∧(1:Int)*(U (cx+b1))≤281474976710656∧(U (cx+b1))<9223372036854775808 then
 Cl (U (cx+b1)) b1 cx cN eR c3 ak.c6 ak.cK (List.replicate (U (cx+b1)).toNat false:List Bool) 0 ([]:List b0) ([]:List (List bc)) ([]:List Int) >>= fun aX =>
 if 0≤(U (cx+b1))∧(8:Int)*(U (cx+b1))≤281474976710656∧(U (cx+b1))<9223372036854775808 then
 Cm (U (cx+b1)) (((U (cx+b1)).toNat:Nat):Int) b1 cx cN eR c3 ak.c6 ak.cK aX.1 aX.2.1 aX.2.2 0 (List.replicate (U (cx+b1)).toNat 0:List Int) (List.replicate (U (cx+b1)).toNat false:List Bool) >>= fun bK =>
 rE ak.c6 ak.cK (U (cx+b1)) aX.1 aX.2.1 aX.2.2 bK.2 bK.1 >>= fun bi =>
 Cn (U (cx+b1)) ((bi.2.2.2.2.1.length:Nat):Int) b1 cx cN eR c3 bi.2.1 bi.2.2.1 (U (cx+b1)) bi.2.2.2.2.1 aX.1 bi.2.2.2.1 bi.2.2.2.2.2 0 >>= fun c0 =>
 match c0 with
 | .inl sk=>(Co ((bi.2.2.2.2.2.length:Nat):Int) b1 cx cN eR c3 bi.2.1 bi.2.2.1 (U (cx+b1)) aX.1 bi.2.2.2.1 bi.2.2.2.2.1 0 bi.2.2.2.2.2 >>= fun gd =>
  yM cx bi.2.1 bi.2.2.1 (U (cx+b1)) aX.1 bi.2.2.2.1 bi.2.2.2.2.1 gd >>= fun dP =>
  some (.inl (dP.1,dP.2.1,(U (cx+b1)),dP.2.2.1,dP.2.2.2.2,gd,dP.2.2.2.1)))
 | .inr sk=>(some (.inr ()))
 else none
 else none
set_option maxHeartbeats 4000000 in
theorem MJ {b1 cx:Int}{cN eR c3:List Int}:bQ (y9 b1 cx cN eR c3) (Sum.elim (fun a=>Con bo 83 [.ref 0 0 0 0] [[aq.mk 5 [(gp b1 cx 1 0 0 cN.length 2 0 0 eR.length 3 0 0 c3.length)] .live],(av 1 J cN),(av 1 J eR),(av 1 J c3)] (.cW [.ref 4 0 0 0,.b true]) [[aq.mk 5 [(gp b1 cx 1 0 0 cN.length 2 0 0 eR.length 3 0 0 c3.length)] .live],(av 1 J cN),(av 1 J eR),(av 1 J c3),(aq.mk 6 [(eG 4 1 0 a.2.2.2.1.length a.1 a.2.1 4 2 0 a.2.2.2.2.1.length a.2.2.1 4 3 0 a.2.2.2.2.2.1.length)] .live::aq.mk 1 (a.2.2.2.1.map (bW 4 4 2)) .live::aq.mk 1 (a.2.2.2.2.1.map J) .live::aq.mk 1 (a.2.2.2.2.2.1.map dB) .live::(cU 2 aQ a.2.2.2.2.2.2))]) (fun a=>Con bo 83 [.ref 0 0 0 0] [[aq.mk 5 [(gp b1 cx 1 0 0 cN.length 2 0 0 eR.length 3 0 0 c3.length)] .live],(av 1 J cN),(av 1 J eR),(av 1 J c3)] (.cW [.hJ,.b false]) [[aq.mk 5 [(gp b1 cx 1 0 0 cN.length 2 0 0 eR.length 3 0 0 c3.length)] .live],(av 1 J cN),(av 1 J eR),(av 1 J c3)])):=by
 unfold y9
 exact .az fun ak R =>
  .bn fun ab =>
  .az fun aX aF =>
  .bn fun br =>
  .az fun bK bx =>
  .az fun bi dO =>
  .az fun c0 ev =>
  (let j7:=U (cx+b1);let so:=eG 1 0 0 aX.1.length bi.2.1 bi.2.2.1 3 0 0 bi.2.2.2.2.1.length j7 4 0 0 bi.2.2.2.2.2.length;let u0:=dq [0,1,2,3,21,28,29,30,19];let A2:=eG 6 0 0 aX.1.length bi.2.1 bi.2.2.1 8 0 0 bi.2.2.2.2.1.length j7 9 0 0 bi.2.2.2.2.2.length;let tc:=(List.replicate j7.toNat false:List Bool);let td:=eG 1 0 0 aX.1.length ak.c6 ak.cK 3 0 0 aX.2.2.length j7 4 0 0 bK.2.length;let yj:=eG 6 0 0 aX.1.length ak.c6 ak.cK 8 0 0 aX.2.2.length j7 9 0 0 bK.2.length;let te:=cU 2 aQ bi.2.2.2.1;let u1:=(List.replicate j7.toNat 0:List Int);let u2:=av 1 (bW 7 0 2) aX.1;let yk:=rB [4,6,7,8,9,5];let yl:=n1 [4,6,7,8,9,5];let A3:=dq [0,1,2,3,4,10,5,6,7,8];let A4:=dq [0,1,2,3,4,8,6,7,9];let u3:=aE 1 .live aD cN;let Ky:=aE 1 .live aD eR;let Kz:=aE 1 .live aD c3;let Rs:=av 1 (bW 2 0 2) aX.1;let t1:List cw:=[(ad 2),(ad 10),.aH (bH 1 (bT 1 (.agg (aQ ak)) false) 5),(ad 5),.Ef 21 0 1,.Kj,.Ef 21 3 1,.bj [0,1,2,3,21,28,29,30,19] [.box [.id,.id,.id,.id,.id],.pure,.pure,.pure,.box [.len (([]:List b0).length),.id,.id,.len (([]:List Int).length),.id,.len (tc.length)],.bM (av 1 (bW 6 0 2) ([]:List b0)),.bM (cU 2 aQ ([]:List (List bc))),.dw (av 1 J ([]:List Int)),.dw (av 1 dB tc)] (bR [0,4,5,34,35]),(GN j7 b1 cx cN eR c3 ak.c6 ak.cK tc aX).fW,(ad 3),(ad 3),.bj [0,1,2,3,4,10,5,6,7,8] [.box [.id,.id,.id,.id,.id],.pure,.pure,.pure,.box [.id,.id,.id,.id,.id,.id],.dw (av 1 J u1),.bM u2,.bM (cU 2 aQ aX.2.1),.pure,.pure] [(0,ii),(4,ii),(5,ii),(11,fQ (u1.length)),(117,ii),(118,ii)],(GO j7 ((j7.toNat:Nat):Int) b1 cx cN eR c3 ak.c6 ak.cK aX.1 aX.2.1 aX.2.2 bK).fW,.aH (ap 2 (ar (.call {aM:=(oT [4,6,7,8,9,5]),cu:=[.bM [aq.mk 6 [td] .live],.bM Rs,.bM (cU 2 aQ aX.2.1),.pure,.pure,.pure],ac:=[ii,ii],r:= .b bi.1,db:=[[aq.mk 6 [so] .live],Rs,te,(av 1 J bi.2.2.2.2.1),(av 1 dB bi.2.2.2.2.2),(av 1 J bK.1)],eo:=ii,e4:=[.bM [aq.mk 6 [A2] .live],.bM u2,.bM te,.pure,.pure,.pure],dd:=[4,5,6,7,8,9],c9:=false}) [])),(ad 6),.bj [0,1,2,3,4,8,6,7,9] [.box [.id,.id,.id,.id,.id],.pure,.pure,.pure,.box [.id,.id,.id,.id,.id,.id],.pure,.bM u2,.bM te,.pure] (bR [0,4,5,149,150,151])];
  have a6:=((.bt (q4 ak R) ab.1 (Int.le_refl j7) ab.2.1 ab.2.2 u3 Ky Kz (.bt (mB b0) (mB Int) (kB j7.toNat (false:Bool)) (kr (yx (b8:=u0) 1 .live (bW 6 0 2) (qT (bW 29 0 2)) (z6 (rfl:u0 29=some 6))) (rW (b8:=u0))) (pL (b8:=u0) (Y8 .live 2 aQ) (pi d1)) (d4 1 .live (qT J)) (aE 1 .live aD ([]:List Int)) (d4 1 .live (kp dB j7.toNat false)) (.bt (aE 1 .live dT tc) (Ui aF) br.1 (Int.le_refl j7) br.2.1 br.2.2 u3 Ky (.bt Kz (d4 1 .live (kp J j7.toNat 0)) (aE 1 .live aD u1) (eP A3 7 6 0 2 rfl aX.1) (eS A3 2 d1 aX.2.1) (aE 1 .live aD aX.2.2) (aE 1 .live dT tc) (kB j7.toNat (0:Int)) (.bt (Uj bx) (jb yk 6 [td] [yj] rfl) (js 6 [yj]) (eP yk 2 7 0 2 rfl aX.1) (js 1 (aX.1.map (bW 7 0 2))) (eS yk 2 d1 aX.2.1) (qj 2 aQ aX.2.1) (fg 1 aD aX.2.2) (.bt (fg 1 dT bK.2) (fg 1 aD bK.1) (jb yl 6 [A2] [so] rfl) (js 6 [so]) (eP yl 7 2 0 2 rfl aX.1) (js 1 (aX.1.map (bW 2 0 2))) (eS yl 2 d1 bi.2.2.2.1) (qj 2 aQ bi.2.2.2.1) (.bt (fg 1 aD bi.2.2.2.2.1) (fg 1 dT bi.2.2.2.2.2) (fg 1 aD bK.1) (FH bi dO) u3 Ky Kz (aE 1 .live aD bi.2.2.2.2.1) (.bZ (eP A4 7 7 0 2 rfl aX.1) (eS A4 2 d1 bi.2.2.2.1) (aE 1 .live dT bi.2.2.2.2.2))))))))):cL _);
  (by
  rcases c0 with sk|sk
  ·exact (.az fun gd hD =>
  .az fun dP gh =>
  .ret (let aW:=gp b1 cx 1 0 0 cN.length 2 0 0 eR.length 3 0 0 c3.length;let cc:=cU 2 aQ dP.2.2.2.1;let cM:=U (cx+b1);let bl:=eG 1 0 0 dP.2.2.1.length dP.1 dP.2.1 3 0 0 dP.2.2.2.2.length cM 4 0 0 gd.length;let eN:=eG 1 0 0 aX.1.length bi.2.1 bi.2.2.1 3 0 0 bi.2.2.2.2.1.length cM 4 0 0 gd.length;let gH:=eG 5 0 0 aX.1.length bi.2.1 bi.2.2.1 7 0 0 bi.2.2.2.2.1.length cM 8 0 0 gd.length;let h9:=eG 5 0 0 dP.2.2.1.length dP.1 dP.2.1 7 0 0 dP.2.2.2.2.length cM 8 0 0 gd.length;let fx:=dq [0,1,2,3,4];let jz:=rB [4,5,6,7,8];let jx:=n1 [4,5,6,7,8];let k3:=dq [0,1,2,3,4,5,6,7,8];let k4:=av 1 (bW 6 0 2) dP.2.2.1;let nT:=av 1 (bW 4 4 2) dP.2.2.1;let oW:=aE 1 .live aD cN;let nr:=aE 1 .live aD eR;let rv:=aE 1 .live aD c3;let sn:=cU 2 aQ bi.2.2.2.1;hg (t1.append [(B3 cM ((bi.2.2.2.2.1.length:Nat):Int) b1 cx cN eR c3 bi.2.1 bi.2.2.1 cM bi.2.2.2.2.1 aX.1 bi.2.2.2.1 bi.2.2.2.2.2 (.inl sk)).fW,(ad 6),.bj [0,1,2,3,4,5,6,7,8] [.box [.id,.id,.id,.id,.id],.pure,.pure,.pure,.box [.id,.id,.id,.id,.id,.id],.bM (av 1 (bW 6 0 2) aX.1),.bM sn,.pure,.pure] (bR [0,5,181,182]),(GP ((bi.2.2.2.2.2.length:Nat):Int) b1 cx cN eR c3 bi.2.1 bi.2.2.1 cM aX.1 bi.2.2.2.1 bi.2.2.2.2.1 gd).fW,.aH (ap 5 (ar (.call {aM:=(oT [4,5,6,7,8]),cu:=[.bM [aq.mk 6 [eN] .live],.bM (av 1 (bW 2 0 2) aX.1),.bM sn,.pure,.pure],ac:=[ii,ii],r:= .cW [],db:=[[aq.mk 6 [bl] .live],(av 1 (bW 2 0 2) dP.2.2.1),cc,(av 1 J dP.2.2.2.2),(av 1 dB gd)],eo:=ii,e4:=[.bM [aq.mk 6 [h9] .live],.bM k4,.bM cc,.pure,.pure],dd:=[4,5,6,7,8],c9:=false}) [])),(ad 3),.AY [{da:=some (0,0)},{da:=some (1,0)},{da:=some (2,0)},{da:=some (3,0)},{bg:=[(4,0),(5,0),(7,0),(8,0)],da:=some (6,0)}] [([],some (.bM [aq.mk 5 [aW] .live])),([],some (.pure)),([],some (.pure)),([],some (.pure)),([.box [.at_ 4 1 dP.2.2.1.length,.id,.id,.at_ 4 2 dP.2.2.2.2.length,.id,.at_ 4 3 gd.length],.rx nT,.pure,.pure],some (.rx cc))] [(2,.bF (.b9 (.at_ 4 0 0))),(3,ii)]]) [0,1,2,3,4] [.bM [aq.mk 5 [aW] .live],.pure,.pure,.pure,.bM (aq.mk 6 [(eG 4 1 0 dP.2.2.1.length dP.1 dP.2.1 4 2 0 dP.2.2.2.2.length cM 4 3 0 gd.length)] .live::aq.mk 1 (dP.2.2.1.map (bW 4 4 2)) .live::aq.mk 1 (dP.2.2.2.2.map J) .live::aq.mk 1 (gd.map dB) .live::cc)] (a6.aZ (.bt (Mk ev) oW nr rv (eP k3 6 6 0 2 rfl aX.1) (eS k3 2 d1 bi.2.2.2.1) (aE 1 .live aD bi.2.2.2.2.1) (aE 1 .live dT bi.2.2.2.2.2) (.bt (Uk hD) (jb jz 6 [eN] [gH] rfl) (js 6 [gH]) (eP jz 2 6 0 2 rfl aX.1) (js 1 (aX.1.map (bW 6 0 2))) (eS jz 2 d1 bi.2.2.2.1) (qj 2 aQ bi.2.2.2.1) (fg 1 aD bi.2.2.2.2.1) (.bt (fg 1 dT gd) (jb jx 6 [h9] [bl] rfl) (js 6 [bl]) (eP jx 6 2 0 2 rfl dP.2.2.1) (js 1 (dP.2.2.1.map (bW 2 0 2))) (eS jx 2 d1 dP.2.2.2.1) (qj 2 aQ dP.2.2.2.1) (fg 1 aD dP.2.2.2.2) (.bt (fg 1 dT gd) (Tu dP gh) (jb (s5 0 [{da:=some (0,0)},{da:=some (1,0)},{da:=some (2,0)},{da:=some (3,0)},{bg:=[(4,0),(5,0),(7,0),(8,0)],da:=some (6,0)}]) 5 [aW] [aW] rfl) oW nr rv (rfl:(jn [{da:=some (0,0)},{da:=some (1,0)},{da:=some (2,0)},{da:=some (3,0)},{bg:=[(4,0),(5,0),(7,0),(8,0)],da:=some (6,0)}]) 4 1=some (5,0)) (rfl:dP.2.2.1.length=dP.2.2.1.length) (.bt (rfl:(jn [{da:=some (0,0)},{da:=some (1,0)},{da:=some (2,0)},{da:=some (3,0)},{bg:=[(4,0),(5,0),(7,0),(8,0)],da:=some (6,0)}]) 4 2=some (7,0)) (rfl:dP.2.2.2.2.length=dP.2.2.2.2.length) (rfl:(jn [{da:=some (0,0)},{da:=some (1,0)},{da:=some (2,0)},{da:=some (3,0)},{bg:=[(4,0),(5,0),(7,0),(8,0)],da:=some (6,0)}]) 4 3=some (8,0)) (rfl:gd.length=gd.length) (Pj (Jr (jy:=(bW 4 4 2)) (dF (bW 6 0 2) dP.2.2.1) (fun _=>rfl) (fun x=>(Qq (fun _=>rfl)) x)) PQ:rq (jn [{da:=some (0,0)},{da:=some (1,0)},{da:=some (2,0)},{da:=some (3,0)},{bg:=[(4,0),(5,0),(7,0),(8,0)],da:=some (6,0)}]) k4 nT) (aE 1 .live aD dP.2.2.2.2) (aE 1 .live dT gd) (Pl (ix .live 2 aQ dP.2.2.2.1) (fun _=>rfl) d1:rq (jn [{da:=some (0,0)},{da:=some (1,0)},{da:=some (2,0)},{da:=some (3,0)},{bg:=[(4,0),(5,0),(7,0),(8,0)],da:=some (6,0)}]) cc cc) (.fb (rfl:(jn [{da:=some (0,0)},{da:=some (1,0)},{da:=some (2,0)},{da:=some (3,0)},{bg:=[(4,0),(5,0),(7,0),(8,0)],da:=some (6,0)}]) 4 0=some (4,0)) (jb fx 5 [aW] [aW] rfl) oW nr rv (kr (show aq.mk 6 [(eG 4 1 0 dP.2.2.1.length dP.1 dP.2.1 4 2 0 dP.2.2.2.2.length (U (cx+b1)) 4 3 0 gd.length)] .live=j5 (dq [0,1,2,3,4]) (aq.mk 6 [(eG 4 1 0 dP.2.2.1.length dP.1 dP.2.1 4 2 0 dP.2.2.2.2.length (U (cx+b1)) 4 3 0 gd.length)] .live) from rfl) (kr (EE fx 4 4 4 2 rfl dP.2.2.1) (kr (qi fx 1 r7 dP.2.2.2.2) (kr (qi fx 1 Js gd) (eS fx 2 d1 dP.2.2.2.1)))))))))))) (.comp [.b9 .id,.b9 .id])))
  ·exact (.ret (let pz:=gp b1 cx 1 0 0 cN.length 2 0 0 eR.length 3 0 0 c3.length;hg (t1.append [(B3 (U (cx+b1)) ((bi.2.2.2.2.1.length:Nat):Int) b1 cx cN eR c3 bi.2.1 bi.2.2.1 (U (cx+b1)) bi.2.2.2.2.1 aX.1 bi.2.2.2.1 bi.2.2.2.2.2 (.inr sk)).fW]) [0,1,2,3] [.bM [aq.mk 5 [pz] .live],.pure,.pure,.pure] (a6.aZ (.ep (Mk ev) (jb (dq [0,1,2,3]) 5 [pz] [pz] rfl) (aE 1 .live aD cN) (aE 1 .live aD eR) (aE 1 .live aD c3)))))))
def nB (a0:Int):Option (Option bq) :=
 nz a0 >>= fun ak =>
 some (some (⟨ak,([1]:List Int)⟩:bq))
theorem q8 {a0:Int}:bQ (nB a0) (fun r=>Con bo 41 [.n .i64 a0] [] (ek 3 a2 r) []):=by
 unfold nB
 exact .az fun ak R =>
  .ret (bP [(ad 1),.aH (bH 1 (bT 1 (.agg (aQ ak)) false) 4)] (.ep (q4 ak R) (lL (show [[.n .i64 (1:Int)]]=(([1]:List Int)).map J from rfl) (show 1=([1]:List Int).length from rfl)) (k6 J 1) (eF aD ([1]:List Int)) (k9 (jd (⟨ak,([1]:List Int)⟩:bq)):hc [[.b ak.c6,.isl 1 (ak.cK.map J),.isl 1 (([1]:List Int).map J)]])) (.bF (.r9 [.id,.id,.e5 (([1]:List Int).map J)])))
def Gv:((List Int)×(List Int))→S:=fun (ba,a9)=>eD [(0,.isl 1 (ba.map J)),(1,.isl 1 (a9.map J))] []
def GQ:(List Int)→eJ
 | a=>⟨some 0,[(0,.isl 1 (a.map J))],[]⟩
def we (ba a9:List Int):Option (((List Int)×(List Int))⊕((List Int))) :=
 if (decide ((0:Int)<(len_ J a9)))=true then
  rO ba a9 >>= fun bm =>
  some (.inl (a9,bm.2))
 else
  some (.inr ba)
def HB (ba a9:List Int):Option ((List Int)):=iter (fun w:(List Int)×(List Int)=>we w.1 w.2) (ba,a9)
theorem TB {ba a9:List Int}:bQ (we ba a9) (fj bo 19 0 94 [1,0,0,0] (Gv (ba,a9)) (Gv) (GQ)):=by
 unfold we
 exact .ite (fun o =>
  .az fun bm ab =>
  .ret (bS [(ad 3),.ao true,.aH (bH 2 (bT 2 (.cW [.isl 1 (bm.1.map J),.isl 1 (bm.2.map J)]) false) 5),(ad 4),.bj [] [] (bR [0,1])] (.aC o (CI bm ab))))
  (fun o =>
  .ret (bS [(ad 3),.ao false,.bj [] [] (bR [0])] (.ax o)))
theorem Ul {ba a9:List Int}{r} (h:HB ba a9=some r):fk bo 19 0 94 [1,0,0,0] (Gv) (GQ) (ba,a9) r:=fl (fun _=>TB) h
def wT (ba a9:List Int):Option (List Int) :=
 HB ba a9 >>= fun ak =>
 some ak
theorem MK {ba a9:List Int}:bQ (wT ba a9) (fun r=>Con bo 94 [.isl 1 (ba.map J),.isl 1 (a9.map J)] [] (.isl 1 (r.map J)) []):=by
 unfold wT
 exact .az fun ak R =>
  .ret (bP [(ad 1),.bj [] [] (bR [0,1]),(GQ ak).fW,(ad 2)] (.ax (Ul R)))
def pI (qA:bc)(sZ:List Int):Option (Option bq) :=
 if ((len_ J qA.cK) == (0:Int))=true then
  some (some (⟨(⟨false,([]:List Int)⟩:bc),([1]:List Int)⟩:bq))
 else
  wT qA.cK sZ >>= fun bm =>
  o8 bm ([1]:List Int) >>= fun aX =>
  if (aX == (0:Int))=true then
   some (some (⟨qA,sZ⟩:bq))
  else
   rO qA.cK bm >>= fun bK =>
   rO sZ bm >>= fun bi =>
   kd qA.c6 bK.1 >>= fun c0 =>
   some (some (⟨c0,bi.1⟩:bq))
theorem Cu {qA:bc}{sZ:List Int}:bQ (pI qA sZ) (fun r=>Con bo 85 [.agg (aQ qA),.isl 1 (sZ.map J)] [] (ek 3 a2 r) []):=by
 unfold pI
 exact .ite (fun o =>
  .ret (bP [(ad 2),(ad 4),.ao true,(ad 4)] (.ep o (lL (show [[.n .i64 (1:Int)]]=(([1]:List Int)).map J from rfl) (show 1=([1]:List Int).length from rfl)) (k6 J 1) (eF aD ([1]:List Int)) (k9 (jd (⟨(⟨false,([]:List Int)⟩:bc),([1]:List Int)⟩:bq)):hc [[.b false,.isl 1 (([]:List Int).map J),.isl 1 (([1]:List Int).map J)]])) (.bF (.r9 [.id,.iv 1,.e5 (([1]:List Int).map J)]))))
  (fun o =>
  .az fun bm ab =>
  .az fun aX aF =>
  (let t1:List cw:=[(ad 2),(ad 4),.ao false,.aH (bH 3 (bT 2 (.isl 1 (bm.map J)) false) 1),.aH (bH 2 (.call {ac:=[ii,.bF (.b9 (.e5 (([1]:List Int).map J)))],r:= .n .i64 aX,c9:=true,dd:=[12]}) 1)];
  have a6:=((.e2 o (MK bm ab) (lL (show [[.n .i64 (1:Int)]]=(([1]:List Int)).map J from rfl) (show 1=([1]:List Int).length from rfl)) (k6 J 1) (eF aD ([1]:List Int)) (wF aX aF) (cp.n .i64 aX)):cL _);
  .ite (fun br =>
  .ret (bP (t1.append [.ao true,(ad 5)]) (a6.aZ (.aC br (k9 (jd (⟨qA,sZ⟩:bq)):hc [[.b qA.c6,.isl 1 (qA.cK.map J),.isl 1 (sZ.map J)]]))) (.bF (.r9 [.id,.id,.id]))))
  (fun br =>
  .az fun bK bx =>
  .az fun bi dO =>
  .az fun c0 ev =>
  .ret (bP (t1.append [.ao false,.aH (bH 3 (bT 2 (.cW [.isl 1 (bK.1.map J),.isl 1 (bK.2.map J)]) false) 5),.aH (bH 2 (bT 2 (.cW [.isl 1 (bi.1.map J),.isl 1 (bi.2.map J)]) false) 5),.aH (bH 3 (bT 2 (.agg (aQ c0)) false) 4)]) (a6.aZ (.ep br (CI bK bx) (CI bi dO) (qn c0 ev) (k9 (jd (⟨c0,bi.1⟩:bq)):hc [[.b c0.c6,.isl 1 (c0.cK.map J),.isl 1 (bi.1.map J)]]))) (.bF (.r9 [.id,.id,.id]))))))
def wB (b2 eH:Option bq):Option (Option bq) :=
 b2 >>= fun eK =>
 eH >>= fun jA =>
 n4 eK.lD jA.lD >>= fun bh =>
 mE eK.mN jA.mN >>= fun bK =>
 pI bh bK >>= fun bi =>
 some bi
theorem Mc {b2 eH:Option bq}:bQ (wB b2 eH) (fun r=>Con bo 87 [ek 3 a2 b2,ek 3 a2 eH] [] (ek 3 a2 r) []):=by
 unfold wB
 exact .az fun eK R =>
  .az fun jA aA =>
  .az fun bh br =>
  .az fun bK bx =>
  .az fun bi dO =>
  .ret (bP [(ad 1),.aH (ap 1 (ar (.eM 5 (.eb 3 (some (a2 eK))) .cT) (ap 3 (ar (.eM 9 (.eb 3 (some (a2 jA))) .cT) (ap 2 (ar (bT 2 (.agg (aQ bh)) false) (ap 1 (ar (.eM 14 (.eb 3 (some (a2 eK))) .cT) (ap 3 (ar (.eM 18 (.eb 3 (some (a2 jA))) .cT) (ap 2 (ar (bT 2 (.isl 1 (bK.map J)) false) (ar (bT 2 (ek 3 a2 bi) false) (ap 1 []))))))))))))))] (.e2 (hz (sz:=3) (f:=a2) R) (hz (sz:=3) (f:=a2) aA) (tz bh br) (hz (sz:=3) (f:=a2) R) (hz (sz:=3) (f:=a2) aA) (wO bK bx) (Cu bi dO)))
def pF (b2:Option bq)(iZ:List Int):Option bc :=
 b2 >>= fun eK =>
 mE eK.lD.cK iZ >>= fun bk =>
 kd eK.lD.c6 bk >>= fun bh =>
 some bh
theorem BZ {b2:Option bq}{iZ:List Int}:bQ (pF b2 iZ) (fun r=>Con bo 66 [ek 3 a2 b2,.isl 1 (iZ.map J)] [] (.agg (aQ r)) []):=by
 unfold pF
 exact .az fun eK R =>
  .az fun bk aA =>
  .az fun bh br =>
  .ret (bP [(ad 1),.aH (ap 1 (ar (.eM 5 (.eb 3 (some (a2 eK))) .cT) (ap 4 (ar (.eM 10 (.eb 3 (some (a2 eK))) .cT) (ap 4 (ar (bT 2 (.isl 1 (bk.map J)) false) (ar (bT 2 (.agg (aQ bh)) false) (ap 1 []))))))))] (.c8 (hz (sz:=3) (f:=a2) R) (hz (sz:=3) (f:=a2) R) (wO bk aA) (qn bh br)))
def wG (b2 eH:Option bq):Option (Option bq) :=
 eH >>= fun eK =>
 pF b2 eK.mN >>= fun bk =>
 b2 >>= fun lu =>
 pF eH lu.mN >>= fun bK =>
 sG bk bK >>= fun bi =>
 mE lu.mN eK.mN >>= fun c0 =>
 pI bi c0 >>= fun dv =>
 some dv
theorem Ml {b2 eH:Option bq}:bQ (wG b2 eH) (fun r=>Con bo 86 [ek 3 a2 b2,ek 3 a2 eH] [] (ek 3 a2 r) []):=by
 unfold wG
 exact .az fun eK R =>
  .az fun bk aA =>
  .az fun lu br =>
  .az fun bK bx =>
  .az fun bi dO =>
  .az fun c0 ev =>
  .az fun dv eT =>
  .ret (bP [(ad 1),.aH (ap 2 (ar (.eM 6 (.eb 3 (some (a2 eK))) .cT) (ap 2 (ar (bT 2 (.agg (aQ bk)) false) (ap 2 (ar (.eM 12 (.eb 3 (some (a2 lu))) .cT) (ap 2 (ar (bT 2 (.agg (aQ bK)) false) (ar (bT 2 (.agg (aQ bi)) false) (ap 1 (ar (.eM 18 (.eb 3 (some (a2 lu))) .cT) (ap 3 (ar (.eM 22 (.eb 3 (some (a2 eK))) .cT) (ap 2 (ar (bT 2 (.isl 1 (c0.map J)) false) (ar (bT 2 (ek 3 a2 dv) false) (ap 1 [])))))))))))))))))] (.bt (hz (sz:=3) (f:=a2) R) (BZ bk aA) (hz (sz:=3) (f:=a2) br) (BZ bK bx) (Mb bi dO) (hz (sz:=3) (f:=a2) br) (hz (sz:=3) (f:=a2) R) (wO c0 ev) (.ax (Cu dv eT))))
end Go.Proofs.YtgfpnhmcmgnepadGreat
namespace Go.Proofs.YtgfpnhmcmgnepadGreat
set_option linter.unusedVariables false
set_option linter.unusedSimpArgs false
open Go Go.VL
def Gw (m9 aT:Int)(ae aR an:List Int)(ej:Int)(cf:List b0):(Int×Bool×(List Int)×(List Int)×(List (List bc))×(List Int)×(List Bool))→S:=fun (kE,cG,cF,bz,ew,cg,eA)=>eD [(0,.ref 0 0 0 0),(5,.ref 4 0 0 0),(7,.bw 5 0 0 bz.length),(41,.n .i64 m9),(42,.n .i64 kE)] [[aq.mk 5 [(gp aT m9 1 0 0 ae.length 2 0 0 aR.length 3 0 0 an.length)] .live],(av 1 J ae),(av 1 J aR),(av 1 J an),[aq.mk 6 [(eG 6 0 0 cf.length cG cF 8 0 0 cg.length ej 9 0 0 eA.length)] .live],(av 1 J bz),(av 1 (bW 7 0 2) cf),(cU 2 aQ ew),(av 1 J cg),(av 1 dB eA)]
def GR (m9 aT:Int)(ae aR an:List Int)(ej:Int)(cf:List b0):(Bool×(List Int)×(List (List bc))×(List Int)×(List Bool))→eJ
 | a=>⟨some 0,[(0,.ref 0 0 0 0),(5,.ref 4 0 0 0)],[[aq.mk 5 [(gp aT m9 1 0 0 ae.length 2 0 0 aR.length 3 0 0 an.length)] .live],(av 1 J ae),(av 1 J aR),(av 1 J an),[aq.mk 6 [(eG 5 0 0 cf.length a.1 a.2.1 7 0 0 a.2.2.2.1.length ej 8 0 0 a.2.2.2.2.length)] .live],(av 1 (bW 6 0 2) cf),(cU 2 aQ a.2.2.1),(av 1 J a.2.2.2.1),(av 1 dB a.2.2.2.2)]⟩
def tA (m9 aT:Int)(ae aR an:List Int)(ej:Int)(cf:List b0)(kE:Int)(cG:Bool)(cF bz:List Int)(ew:List (List bc))(cg:List Int)(eA:List Bool):Option ((Int×Bool×(List Int)×(List Int)×(List (List bc))×(List Int)×(List Bool))⊕(Bool×(List Int)×(List (List bc))×(List Int)×(List Bool))) :=
 if (decide (kE<m9))=true then
  if 0≤kE∧kE<(bz.length:Nat) then
  if (0+kE.toNat)<(List.replicate bz.length 0:List Int).length then
  rE cG cF ej cf ew cg eA ((List.replicate bz.length 0:List Int).set (0+kE.toNat) (-1)) >>= fun aX =>
  some (.inl (U (kE+(1:Int)),aX.2.1,aX.2.2.1,((List.replicate bz.length 0:List Int).set (0+kE.toNat) (-1)),aX.2.2.2.1,aX.2.2.2.2.1,aX.2.2.2.2.2))
  else none
  else none
 else
  some (.inr (cG,cF,ew,cg,eA))
def Cp (m9 aT:Int)(ae aR an:List Int)(ej:Int)(cf:List b0)(kE:Int)(cG:Bool)(cF bz:List Int)(ew:List (List bc))(cg:List Int)(eA:List Bool):Option (Bool×(List Int)×(List (List bc))×(List Int)×(List Bool)):=iter (fun w:Int×Bool×(List Int)×(List Int)×(List (List bc))×(List Int)×(List Bool)=>tA m9 aT ae aR an ej cf w.1 w.2.1 w.2.2.1 w.2.2.2.1 w.2.2.2.2.1 w.2.2.2.2.2.1 w.2.2.2.2.2.2) (kE,cG,cF,bz,ew,cg,eA)
theorem TC {m9 aT:Int}{ae aR an:List Int}{ej:Int}{cf:List b0}{kE:Int}{cG:Bool}{cF bz:List Int}{ew:List (List bc)}{cg:List Int}{eA:List Bool}:bQ (tA m9 aT ae aR an ej cf kE cG cF bz ew cg eA) (fj bo 124 4 56 [1,1,1,1,1,1,0,1,0,0] (Gw m9 aT ae aR an ej cf (kE,cG,cF,bz,ew,cg,eA)) (Gw m9 aT ae aR an ej cf) (GR m9 aT ae aR an ej cf)):=by
 unfold tA
 exact .ite (fun o =>
  .bn fun R =>
  .bn fun ab =>
  .az fun aX aF =>
  .ret (let aW:=eG 1 0 0 cf.length aX.2.1 aX.2.2.1 3 0 0 aX.2.2.2.2.1.length ej 4 0 0 aX.2.2.2.2.2.length;let bl:=(List.replicate bz.length 0:List Int);let cc:=eG 6 0 0 cf.length aX.2.1 aX.2.2.1 8 0 0 aX.2.2.2.2.1.length ej 9 0 0 aX.2.2.2.2.2.length;let cM:=eG 1 0 0 cf.length cG cF 3 0 0 cg.length ej 4 0 0 eA.length;let eN:=eG 6 0 0 cf.length cG cF 8 0 0 cg.length ej 9 0 0 eA.length;let gH:=cU 2 aQ aX.2.2.2.1;let h9:=rB [4,6,7,8,9,5];let fx:=n1 [4,6,7,8,9,5];let jz:=(gP (kB bz.length (0:Int)) (0+kE.toNat) (-1));let jx:=dq [0,1,2,3,4,5,6,7,8,9];let k3:=av 1 J (bl.set (0+kE.toNat) (-1));let k4:=fg 1 aD (bl.set (0+kE.toNat) (-1));bS [(ad 1),.ao true,(ad 2),(ad 2),.aH (ap 3 (ar .cT [])),.aH (ap 2 (ar (.call {aM:=(oT [4,6,7,8,9,5]),cu:=[.bM [aq.mk 6 [cM] .live],.bM (av 1 (bW 2 0 2) cf),.bM (cU 2 aQ ew),.pure,.pure,.dw k3],ac:=[ii,.bF (.b9 (.len ((bl.set (0+kE.toNat) (-1)).length)))],r:= .b aX.1,db:=[[aq.mk 6 [aW] .live],(av 1 (bW 2 0 2) cf),gH,(av 1 J aX.2.2.2.2.1),(av 1 dB aX.2.2.2.2.2),k3],eo:=ii,e4:=[.bM [aq.mk 6 [cc] .live],.bM (av 1 (bW 7 0 2) cf),.bM gH,.pure,.pure,.pure],dd:=[4,5,6,7,8,9],c9:=false}) [])),(ad 2),.bj [0,1,2,3,4,5,6,7,8,9] [.box [.id,.id,.id,.id,.id],.pure,.pure,.pure,.box [.id,.id,.id,.id,.id,.id],.pure,.bM (av 1 (bW 7 0 2) cf),.bM gH,.pure,.pure] [(0,ii),(5,ii),(7,fQ ((bl.set (0+kE.toNat) (-1)).length)),(41,ii),(42,ii)]] (.bt o (Zb (dF J bz) (fq bz)) R.1 R.2 (zW (kp J bz.length 0) ab) (gB 1) jz (jb h9 6 [cM] [eN] rfl) (.bt (js 6 [eN]) (eP h9 2 7 0 2 rfl cf) (js 1 (cf.map (bW 7 0 2))) (eS h9 2 d1 ew) (qj 2 aQ ew) (fg 1 aD cg) (fg 1 dT eA) (d4 1 .live (fs (kp J bz.length 0) (0+kE.toNat) (-1))) (.bt k4 (jb fx 6 [cc] [aW] rfl) (js 6 [aW]) (eP fx 7 2 0 2 rfl cf) (js 1 (cf.map (bW 2 0 2))) (eS fx 2 d1 aX.2.2.2.1) (qj 2 aQ aX.2.2.2.1) (fg 1 aD aX.2.2.2.2.1) (.bt (fg 1 dT aX.2.2.2.2.2) k4 (FH aX aF) (aE 1 .live aD ae) (aE 1 .live aD aR) (aE 1 .live aD an) (aE 1 .live aD (bl.set (0+kE.toNat) (-1))) (eP jx 7 7 0 2 rfl cf) (.c8 (eS jx 2 d1 aX.2.2.2.1) (aE 1 .live aD aX.2.2.2.2.1) (aE 1 .live dT aX.2.2.2.2.2) jz)))))))
  (fun o =>
  .ret (let nT:=dq [0,1,2,3,4,6,7,8,9];bS [(ad 1),.ao false,.bj [0,1,2,3,4,6,7,8,9] [.box [.id,.id,.id,.id,.id],.pure,.pure,.pure,.box [.id,.id,.id,.id,.id,.id],.bM (av 1 (bW 6 0 2) cf),.bM (cU 2 aQ ew),.pure,.pure] (bR [0,5])] (.hh o (aE 1 .live aD ae) (aE 1 .live aD aR) (aE 1 .live aD an) (eP nT 6 7 0 2 rfl cf) (eS nT 2 d1 ew) (aE 1 .live aD cg) (aE 1 .live dT eA))))
theorem Um {m9 aT:Int}{ae aR an:List Int}{ej:Int}{cf:List b0}{kE:Int}{cG:Bool}{cF bz:List Int}{ew:List (List bc)}{cg:List Int}{eA:List Bool}{r} (h:Cp m9 aT ae aR an ej cf kE cG cF bz ew cg eA=some r):fk bo 124 4 56 [1,1,1,1,1,1,0,1,0,0] (Gw m9 aT ae aR an ej cf) (GR m9 aT ae aR an ej cf) (kE,cG,cF,bz,ew,cg,eA) r:=fl (fun _=>TC) h
def Gx (jv aT aG:Int)(ae aR an:List Int)(cG:Bool)(cF:List Int)(ej:Int)(cf:List b0)(ew:List (List bc))(cg:List Int)(eA:List Bool):(Int×(List (Option bq)))→S:=fun (lC,bz)=>eD [(0,.ref 0 0 0 0),(5,.ref 4 0 0 0),(9,.bw 5 0 0 bz.length),(59,.n .i64 jv),(60,.n .i64 lC)] [[aq.mk 5 [(gp aT aG 1 0 0 ae.length 2 0 0 aR.length 3 0 0 an.length)] .live],(av 1 J ae),(av 1 J aR),(av 1 J an),[aq.mk 6 [(eG 6 0 0 cf.length cG cF 8 0 0 cg.length ej 9 0 0 eA.length)] .live],(av 1 (b6 3 a2) bz),(av 1 (bW 7 0 2) cf),(cU 2 aQ ew),(av 1 J cg),(av 1 dB eA)]
def GS (jv aT aG:Int)(ae aR an:List Int)(cG:Bool)(cF:List Int)(ej:Int)(cf:List b0)(ew:List (List bc))(cg:List Int)(eA:List Bool):(List (Option bq))→eJ
 | a=>⟨some 2,[(0,.ref 0 0 0 0),(5,.ref 4 0 0 0),(9,.bw 5 0 0 a.length)],[[aq.mk 5 [(gp aT aG 1 0 0 ae.length 2 0 0 aR.length 3 0 0 an.length)] .live],(av 1 J ae),(av 1 J aR),(av 1 J an),[aq.mk 6 [(eG 6 0 0 cf.length cG cF 8 0 0 cg.length ej 9 0 0 eA.length)] .live],(av 1 (b6 3 a2) a),(av 1 (bW 7 0 2) cf),(cU 2 aQ ew),(av 1 J cg),(av 1 dB eA)]⟩
def wg (jv aT aG:Int)(ae aR an:List Int)(cG:Bool)(cF:List Int)(ej:Int)(cf:List b0)(ew:List (List bc))(cg:List Int)(eA:List Bool)(lC:Int)(bz:List (Option bq)):Option ((Int×(List (Option bq)))⊕((List (Option bq)))) :=
 if (decide (lC<jv))=true then
  nB 0 >>= fun bm =>
  if 0≤lC∧lC<(bz.length:Nat) then
  if (0+lC.toNat)<bz.length then
  some (.inl (U (lC+(1:Int)),bz.set (0+lC.toNat) bm))
  else none
  else none
 else
  some (.inr bz)
def Cq (jv aT aG:Int)(ae aR an:List Int)(cG:Bool)(cF:List Int)(ej:Int)(cf:List b0)(ew:List (List bc))(cg:List Int)(eA:List Bool)(lC:Int)(bz:List (Option bq)):Option ((List (Option bq))):=iter (fun w:Int×(List (Option bq))=>wg jv aT aG ae aR an cG cF ej cf ew cg eA w.1 w.2) (lC,bz)
theorem TD {jv aT aG:Int}{ae aR an:List Int}{cG:Bool}{cF:List Int}{ej:Int}{cf:List b0}{ew:List (List bc)}{cg:List Int}{eA:List Bool}{lC:Int}{bz:List (Option bq)}:bQ (wg jv aT aG ae aR an cG cF ej cf ew cg eA lC bz) (fj bo 124 4 56 [1,1,1,1,1,1,1,1,0,1,0,0] (Gx jv aT aG ae aR an cG cF ej cf ew cg eA (lC,bz)) (Gx jv aT aG ae aR an cG cF ej cf ew cg eA) (GS jv aT aG ae aR an cG cF ej cf ew cg eA)):=by
 unfold wg
 exact .ite (fun o =>
  .az fun bm ab =>
  .bn fun aA =>
  .bn fun aF =>
  .ret (let aW:=dq [0,1,2,3,4,5,6,7,8,9];bS [(ad 1),.ao true,(ad 2),.aH (ap 2 (ar (bT 1 (ek 3 a2 bm) false) (ap 1 (ar .cT [])))),(ad 2),.bj [0,1,2,3,4,5,6,7,8,9] [.box [.id,.id,.id,.id,.id],.pure,.pure,.pure,.box [.id,.id,.id,.id,.id,.id],.dw (av 1 (b6 3 a2) (bz.set (0+lC.toNat) bm)),.bM (av 1 (bW 7 0 2) cf),.bM (cU 2 aQ ew),.pure,.pure] [(0,ii),(5,ii),(9,fQ ((bz.set (0+lC.toNat) bm).length)),(59,ii),(60,ii)]] (.bt o (q8 bm ab) aA.1 aA.2 (hb (b6 3 a2) aF) (gB 1) (aE 1 .live aD ae) (aE 1 .live aD aR) (.hh (aE 1 .live aD an) (d4 1 .live (fs (dF (b6 3 a2) bz) (0+lC.toNat) bm)) (aE 1 .live (kq (sz:=3) jd) (bz.set (0+lC.toNat) bm)) (eP aW 7 7 0 2 rfl cf) (eS aW 2 d1 ew) (aE 1 .live aD cg) (aE 1 .live dT eA) (gP (fq bz) (0+lC.toNat) bm)))))
  (fun o =>
  .ret (let bl:=dq [0,1,2,3,4,5,6,7,8,9];bS [(ad 1),.ao false,.bj [0,1,2,3,4,5,6,7,8,9] [.box [.id,.id,.id,.id,.id],.pure,.pure,.pure,.box [.id,.id,.id,.id,.id,.id],.pure,.bM (av 1 (bW 7 0 2) cf),.bM (cU 2 aQ ew),.pure,.pure] (bR [0,5,9])] (.bt o (aE 1 .live aD ae) (aE 1 .live aD aR) (aE 1 .live aD an) (aE 1 .live (kq (sz:=3) jd) bz) (eP bl 7 7 0 2 rfl cf) (eS bl 2 d1 ew) (aE 1 .live aD cg) (.ax (aE 1 .live dT eA)))))
theorem Un {jv aT aG:Int}{ae aR an:List Int}{cG:Bool}{cF:List Int}{ej:Int}{cf:List b0}{ew:List (List bc)}{cg:List Int}{eA:List Bool}{lC:Int}{bz:List (Option bq)}{r} (h:Cq jv aT aG ae aR an cG cF ej cf ew cg eA lC bz=some r):fk bo 124 4 56 [1,1,1,1,1,1,1,1,0,1,0,0] (Gx jv aT aG ae aR an cG cF ej cf ew cg eA) (GS jv aT aG ae aR an cG cF ej cf ew cg eA) (lC,bz) r:=fl (fun _=>TD) h
def Gy (ot aT aG:Int)(ae aR an:List Int)(cG:Bool)(cF:List Int)(ej:Int)(cf:List Int)(dj:List b0)(mK:List (List bc))(eA:List Bool):(Int×(List (Option bq)))→S:=fun (mL,bz)=>eD [(0,.ref 0 0 0 0),(5,.ref 4 0 0 0),(9,.bw 5 0 0 bz.length),(71,.bw 6 0 0 cf.length),(72,.n .i64 ot),(73,.n .i64 mL)] [[aq.mk 5 [(gp aT aG 1 0 0 ae.length 2 0 0 aR.length 3 0 0 an.length)] .live],(av 1 J ae),(av 1 J aR),(av 1 J an),[aq.mk 6 [(eG 7 0 0 dj.length cG cF 6 0 0 cf.length ej 9 0 0 eA.length)] .live],(av 1 (b6 3 a2) bz),(av 1 J cf),(av 1 (bW 8 0 2) dj),(cU 2 aQ mK),(av 1 dB eA)]
def GU (ot aT aG:Int)(ae aR an:List Int)(cG:Bool)(cF:List Int)(ej:Int)(cf:List Int)(dj:List b0)(mK:List (List bc))(eA:List Bool):(List (Option bq))→eJ
 | a=>⟨some 4,[(0,.ref 0 0 0 0),(9,.bw 4 0 0 a.length)],[[aq.mk 5 [(gp aT aG 1 0 0 ae.length 2 0 0 aR.length 3 0 0 an.length)] .live],(av 1 J ae),(av 1 J aR),(av 1 J an),(av 1 (b6 3 a2) a)]⟩
def wh (ot aT aG:Int)(ae aR an:List Int)(cG:Bool)(cF:List Int)(ej:Int)(cf:List Int)(dj:List b0)(mK:List (List bc))(eA:List Bool)(mL:Int)(bz:List (Option bq)):Option ((Int×(List (Option bq)))⊕((List (Option bq)))) :=
 if (decide (mL<ot))=true then
  if 0≤mL∧mL<(cf.length:Nat) then
  cf[(0+mL.toNat)]? >>= fun aU =>
  if 0≤mL∧mL<(dj.length:Nat) then
  dj[(0+mL.toNat)]? >>= fun cd =>
  cd >>= fun tn =>
  mK[tn.1]? >>= fun En =>
  if 0≤ej∧ej<(tn.2:Nat) then
  En[(0+ej.toNat)]? >>= fun mo =>
  pI mo cF >>= fun eX =>
  if 0≤aU∧aU<(bz.length:Nat) then
  if (0+aU.toNat)<bz.length then
  some (.inl (U (mL+(1:Int)),bz.set (0+aU.toNat) eX))
  else none
  else none
  else none
  else none
  else none
 else
  some (.inr bz)
def Cr (ot aT aG:Int)(ae aR an:List Int)(cG:Bool)(cF:List Int)(ej:Int)(cf:List Int)(dj:List b0)(mK:List (List bc))(eA:List Bool)(mL:Int)(bz:List (Option bq)):Option ((List (Option bq))):=iter (fun w:Int×(List (Option bq))=>wh ot aT aG ae aR an cG cF ej cf dj mK eA w.1 w.2) (mL,bz)
theorem TE {ot aT aG:Int}{ae aR an:List Int}{cG:Bool}{cF:List Int}{ej:Int}{cf:List Int}{dj:List b0}{mK:List (List bc)}{eA:List Bool}{mL:Int}{bz:List (Option bq)}:bQ (wh ot aT aG ae aR an cG cF ej cf dj mK eA mL bz) (fj bo 124 4 56 [1,1,1,1,1,1,1,1,1,0,1,0,0] (Gy ot aT aG ae aR an cG cF ej cf dj mK eA (mL,bz)) (Gy ot aT aG ae aR an cG cF ej cf dj mK eA) (GU ot aT aG ae aR an cG cF ej cf dj mK eA)):=by
 unfold wh
 exact .ite (fun o =>
  .bn fun R =>
  .az fun aU aA =>
  .bn fun aF =>
  .az fun cd bU =>
  .az fun tn c2 =>
  .az fun En d2 =>
  .bn fun ev =>
  .az fun mo eT =>
  .az fun eX h5 =>
  .bn fun gh =>
  .bn fun j6 =>
  .ret (let aW:=dq [0,1,2,3,4,5,6,7,8,9];let bl:=ld (ix .live 2 aQ mK) kP d2;bS [(ad 1),.ao true,.aH (bH 2 (.cB (J aU)) 2),.aH (ap 8 (ar (.cB ((bW 8 0 2) cd)) (ap 4 (ar (.eM 86 (.bw 8 (tn.1+0) 0 tn.2) (.gT (aq.mk 2 (En.map aQ) .live) [])) (ar (.gT (aq.mk 2 (En.map aQ) .live) (aQ mo)) (ap 5 (ar (bT 2 (ek 3 a2 eX) false) (ap 1 (ar .cT []))))))))),(ad 2),.bj [0,1,2,3,4,5,6,7,8,9] [.box [.id,.id,.id,.id,.id],.pure,.pure,.pure,.box [.id,.id,.id,.id,.id,.id],.dw (av 1 (b6 3 a2) (bz.set (0+aU.toNat) eX)),.pure,.bM (av 1 (bW 8 0 2) dj),.bM (cU 2 aQ mK),.pure] [(0,ii),(5,ii),(9,fQ ((bz.set (0+aU.toNat) eX).length)),(71,ii),(72,ii),(73,ii)]] (.bt o R.1 R.2 (cD J aA) aF.1 aF.2 (cD (bW 8 0 2) bU) (n7 (d3:=8) (c:=0) (sz:=2) c2) (.bt bl ev.1 ev.2 bl (cD aQ eT) (Cu eX h5) gh.1 gh.2 (.bt (hb (b6 3 a2) j6) (gB 1) (aE 1 .live aD ae) (aE 1 .live aD aR) (aE 1 .live aD an) (d4 1 .live (fs (dF (b6 3 a2) bz) (0+aU.toNat) eX)) (aE 1 .live (kq (sz:=3) jd) (bz.set (0+aU.toNat) eX)) (aE 1 .live aD cf) (.c8 (eP aW 8 8 0 2 rfl dj) (eS aW 2 d1 mK) (aE 1 .live dT eA) (gP (fq bz) (0+aU.toNat) eX)))))))
  (fun o =>
  .ret (bS [(ad 1),.ao false,.bj [0,1,2,3,5] [.box [.id,.id,.id,.id,.id],.pure,.pure,.pure,.pure] (bR [0,9])] (.ep o (aE 1 .live aD ae) (aE 1 .live aD aR) (aE 1 .live aD an) (aE 1 .live (kq (sz:=3) jd) bz))))
theorem Uo {ot aT aG:Int}{ae aR an:List Int}{cG:Bool}{cF:List Int}{ej:Int}{cf:List Int}{dj:List b0}{mK:List (List bc)}{eA:List Bool}{mL:Int}{bz:List (Option bq)}{r} (h:Cr ot aT aG ae aR an cG cF ej cf dj mK eA mL bz=some r):fk bo 124 4 56 [1,1,1,1,1,1,1,1,1,0,1,0,0] (Gy ot aT aG ae aR an cG cF ej cf dj mK eA) (GU ot aT aG ae aR an cG cF ej cf dj mK eA) (mL,bz) r:=fl (fun _=>TE) h
def Gz (oh aT aG:Int)(ae aR an:List Int)(a4:List (Option bq)):((Option bq)×Int)→S:=fun (iH,mI)=>eD [(0,.ref 0 0 0 0),(9,.bw 4 0 0 a4.length),(13,ek 3 a2 iH),(102,.bw 4 0 0 a4.length),(103,.n .i64 oh),(104,.n .i64 mI)] [[aq.mk 5 [(gp aT aG 1 0 0 ae.length 2 0 0 aR.length 3 0 0 an.length)] .live],(av 1 J ae),(av 1 J aR),(av 1 J an),(av 1 (b6 3 a2) a4)]
def GV (oh aT aG:Int)(ae aR an:List Int)(a4:List (Option bq)):(Option bq)→eJ
 | a=>⟨some 6,[(9,.bw 4 0 0 a4.length),(13,ek 3 a2 a)],[[aq.mk 5 [(gp aT aG 1 0 0 ae.length 2 0 0 aR.length 3 0 0 an.length)] .live],(av 1 J ae),(av 1 J aR),(av 1 J an),(av 1 (b6 3 a2) a4)]⟩
def wi (oh aT aG:Int)(ae aR an:List Int)(a4:List (Option bq))(iH:Option bq)(mI:Int):Option (((Option bq)×Int)⊕((Option bq))) :=
 if (decide (mI<oh))=true then
  if 0≤mI∧mI<(a4.length:Nat) then
  a4[(0+mI.toNat)]? >>= fun aU =>
  if 0≤mI∧mI<(an.length:Nat) then
  an[(0+mI.toNat)]? >>= fun cd =>
  nB cd >>= fun eQ =>
  wB aU eQ >>= fun en =>
  wG iH en >>= fun gW =>
  some (.inl (gW,U (mI+(1:Int))))
  else none
  else none
 else
  some (.inr iH)
def Cs (oh aT aG:Int)(ae aR an:List Int)(a4:List (Option bq))(iH:Option bq)(mI:Int):Option ((Option bq)):=iter (fun w:(Option bq)×Int=>wi oh aT aG ae aR an a4 w.1 w.2) (iH,mI)
theorem TF {oh aT aG:Int}{ae aR an:List Int}{a4:List (Option bq)}{iH:Option bq}{mI:Int}:bQ (wi oh aT aG ae aR an a4 iH mI) (fj bo 124 4 56 [1,1,1,1,1,1,1,1,1,1,1,0,1,0,0] (Gz oh aT aG ae aR an a4 (iH,mI)) (Gz oh aT aG ae aR an a4) (GV oh aT aG ae aR an a4)):=by
 unfold wi
 exact .ite (fun o =>
  .bn fun R =>
  .az fun aU aA =>
  .bn fun aF =>
  .az fun cd bU =>
  .az fun eQ c2 =>
  .az fun en d2 =>
  .az fun gW fo =>
  .ret (bS [(ad 1),.ao true,.aH (bH 2 (.cB ((b6 3 a2) aU)) 2),.aH (ap 8 (ar (.cB (J cd)) (ar (bT 1 (ek 3 a2 eQ) false) (ar (bT 2 (ek 3 a2 en) false) (ar (bT 2 (ek 3 a2 gW) false) (ap 1 [])))))),(ad 2),.bj [0,1,2,3,4] [.box [.id,.id,.id,.id,.id],.pure,.pure,.pure,.pure] (bR [0,9,13,102,103,104])] (.bt o R.1 R.2 (cD (b6 3 a2) aA) aF.1 aF.2 (cD J bU) (q8 eQ c2) (.fb (Mc en d2) (Ml gW fo) (aE 1 .live aD ae) (aE 1 .live aD aR) (aE 1 .live aD an) (aE 1 .live (kq (sz:=3) jd) a4)))))
  (fun o =>
  .ret (bS [(ad 1),.ao false,.bj [0,1,2,3,4] [.box [.id,.id,.id,.id,.id],.pure,.pure,.pure,.pure] (bR [9,13])] (.ep o (aE 1 .live aD ae) (aE 1 .live aD aR) (aE 1 .live aD an) (aE 1 .live (kq (sz:=3) jd) a4))))
theorem Up {oh aT aG:Int}{ae aR an:List Int}{a4:List (Option bq)}{iH:Option bq}{mI:Int}{r} (h:Cs oh aT aG ae aR an a4 iH mI=some r):fk bo 124 4 56 [1,1,1,1,1,1,1,1,1,1,1,0,1,0,0] (Gz oh aT aG ae aR an a4) (GV oh aT aG ae aR an a4) (iH,mI) r:=fl (fun _=>TF) h
def za (b1 cx:Int)(cN eR c3:List Int):Option (Int×(List (Option bq))×(Option bq)) :=
 y9 b1 cx cN eR c3 >>= fun ak =>
 match ak with
 | .inl bs=>(if 0≤bs.2.2.1∧(8:Int)*bs.2.2.1≤281474976710656∧bs.2.2.1<9223372036854775808 then
  if c3.length≤bs.2.2.1.toNat then
  rE bs.1 bs.2.1 bs.2.2.1 bs.2.2.2.1 bs.2.2.2.2.2.2 bs.2.2.2.2.1 bs.2.2.2.2.2.1 (c3++(List.replicate bs.2.2.1.toNat 0:List Int).drop c3.length) >>= fun cj =>
  if cj.1=true then
   Cp cx b1 cN eR c3 bs.2.2.1 bs.2.2.2.1 0 cj.2.1 cj.2.2.1 (c3++(List.replicate bs.2.2.1.toNat 0:List Int).drop c3.length) cj.2.2.2.1 cj.2.2.2.2.1 cj.2.2.2.2.2 >>= fun bi =>
   if 0≤cx∧(8:Int)*cx≤281474976710656∧cx<9223372036854775808 then
   Cq ((cx.toNat:Nat):Int) b1 cx cN eR c3 bi.1 bi.2.1 bs.2.2.1 bs.2.2.2.1 bi.2.2.1 bi.2.2.2.1 bi.2.2.2.2 0 (List.replicate cx.toNat (none:(Option bq)):List (Option bq)) >>= fun gW =>
   Cr ((bi.2.2.2.1.length:Nat):Int) b1 cx cN eR c3 bi.1 bi.2.1 bs.2.2.1 bi.2.2.2.1 bs.2.2.2.1 bi.2.2.1 bi.2.2.2.2 0 gW >>= fun gd =>
   nB 0 >>= fun dP =>
   Cs ((gd.length:Nat):Int) b1 cx cN eR c3 gd dP 0 >>= fun eZ =>
   some (0,gd,eZ)
   else none
  else
   some (3,([]:List (Option bq)),(none:(Option bq)))
  else none
  else none)
 | .inr bs=>(some (2,([]:List (Option bq)),(none:(Option bq))))
set_option maxHeartbeats 4000000 in
theorem UY {b1 cx:Int}{cN eR c3:List Int}:bQ (za b1 cx cN eR c3) (fun a=>Con bo 56 [.ref 0 0 0 0] [[aq.mk 5 [(gp b1 cx 1 0 0 cN.length 2 0 0 eR.length 3 0 0 c3.length)] .live],(av 1 J cN),(av 1 J eR),(av 1 J c3)] (.cW [.n .i64 a.1,.isl 1 (a.2.1.map (b6 3 a2)),ek 3 a2 a.2.2]) [[aq.mk 5 [(gp b1 cx 1 0 0 cN.length 2 0 0 eR.length 3 0 0 c3.length)] .live],(av 1 J cN),(av 1 J eR),(av 1 J c3)]):=by
 unfold za
 exact .az fun ak R =>
  (let u3:=gp b1 cx 1 0 0 cN.length 2 0 0 eR.length 3 0 0 c3.length;have b3:=((.ep (jb (rB [0,1,2,3]) 5 [u3] [u3] rfl) (js 5 [u3]) (fg 1 aD cN) (fg 1 aD eR) (fg 1 aD c3)):cL _);
  (by
  rcases ak with bs|bs
  ·exact (.bn fun aA =>
  .bn fun aF =>
  .az fun cj bU =>
  (let rv:=eG 1 0 0 bs.2.2.2.1.length cj.2.1 cj.2.2.1 3 0 0 cj.2.2.2.2.1.length bs.2.2.1 4 0 0 cj.2.2.2.2.2.length;let sn:=eG 4 1 0 bs.2.2.2.1.length bs.1 bs.2.1 4 2 0 bs.2.2.2.2.1.length bs.2.2.1 4 3 0 bs.2.2.2.2.2.1.length;let pz:=gp b1 cx 1 0 0 cN.length 2 0 0 eR.length 3 0 0 c3.length;let j7:=cU 2 aQ bs.2.2.2.2.2.2;let so:=(c3++(List.replicate bs.2.2.1.toNat 0:List Int).drop c3.length);let u0:=eG 5 0 0 bs.2.2.2.1.length cj.2.1 cj.2.2.1 6 0 0 cj.2.2.2.2.1.length bs.2.2.1 7 0 0 cj.2.2.2.2.2.length;let A2:=eG 1 0 0 bs.2.2.2.1.length bs.1 bs.2.1 3 0 0 bs.2.2.2.2.1.length bs.2.2.1 4 0 0 bs.2.2.2.2.2.1.length;let tc:=eG 5 0 0 bs.2.2.2.1.length bs.1 bs.2.1 6 0 0 bs.2.2.2.2.1.length bs.2.2.1 7 0 0 bs.2.2.2.2.2.1.length;let td:=n1 [0,1,2,3,8];let yj:=av 1 (bW 8 0 2) bs.2.2.2.1;let te:=dq [0,1,2,3,8];let u1:=rB [4,5,8,6,7,15];let u2:=n1 [4,5,8,6,7,15];let yk:=av 1 (bW 2 0 2) bs.2.2.2.1;let yl:=(kB bs.2.2.1.toNat (0:Int));let A3:=cU 2 aQ cj.2.2.2.1;let A4:=kp J bs.2.2.1.toNat 0;let t2:List cw:=[(ad 3),.aH (bH 1 (.call {aM:=(oT [0,1,2,3]),cu:=[.bM [aq.mk 5 [pz] .live],.pure,.pure,.pure],ac:=[ii],r:= .cW [.ref 4 0 0 0,.b true],db:=[[aq.mk 5 [pz] .live],(av 1 J cN),(av 1 J eR),(av 1 J c3),(aq.mk 6 [sn] .live::aq.mk 1 (bs.2.2.2.1.map (bW 4 4 2)) .live::aq.mk 1 (bs.2.2.2.2.1.map J) .live::aq.mk 1 (bs.2.2.2.2.2.1.map dB) .live::j7)],eo:= .comp [.b9 .id,.b9 .id],e4:=[.bM [aq.mk 5 [pz] .live],.pure,.pure,.pure,.bM (aq.mk 6 [(eG 8 1 0 bs.2.2.2.1.length bs.1 bs.2.1 8 2 0 bs.2.2.2.2.1.length bs.2.2.1 8 3 0 bs.2.2.2.2.2.1.length)] .live::aq.mk 1 (bs.2.2.2.1.map (bW 8 4 2)) .live::aq.mk 1 (bs.2.2.2.2.1.map J) .live::aq.mk 1 (bs.2.2.2.2.2.1.map dB) .live::j7)],dd:=[0,1,2,3],c9:=false}) 5),.bj [0,1,2,3,8] [.box [.id,.id,.id,.id,.id],.pure,.pure,.pure,.bM (aq.mk 6 [sn] .live::aq.mk 1 (bs.2.2.2.1.map (bW 4 4 2)) .live::aq.mk 1 (bs.2.2.2.2.1.map J) .live::aq.mk 1 (bs.2.2.2.2.2.1.map dB) .live::j7)] [(0,ii),(2,ii),(3,ii),(4,.bF (.b9 (.o1 3))),(5,ii),(6,ii),(16,.comp [.b9 .id,.b9 .id]),(17,ii),(18,.comp [.b9 .id,.b9 .id]),(19,ii),(20,ii)],.AY [{da:=some (0,0)},{da:=some (1,0)},{da:=some (2,0)},{da:=some (3,0)},{bg:=[(4,0)]},{bg:=[(4,1)]},{bg:=[(4,2)]},{bg:=[(4,3)]},{da:=some (4,4)}] [([],some (.box [.id,.id,.id,.id,.id])),([],some (.pure)),([],some (.pure)),([],some (.pure)),([.box [.at_ 5 0 bs.2.2.2.1.length,.id,.id,.at_ 6 0 bs.2.2.2.2.1.length,.id,.at_ 7 0 bs.2.2.2.2.2.1.length]],none),([.rx yj],none),([.pure],none),([.pure],none),([],some (.rx j7))] [(0,ii),(2,ii),(3,ii),(4,ii),(5,.bF (.b9 (.at_ 4 0 0))),(6,ii),(16,.comp [.b9 (.at_ 4 0 0),.b9 .id]),(17,ii),(18,.comp [.b9 (.at_ 4 0 0),.b9 .id]),(19,.bF (.b9 (.at_ 4 0 0))),(20,ii)],(ad 2),.ao false,(ad 6),(ad 6),.aH (bH 2 (.call {aM:=(oT [4,5,8,6,7,15]),cu:=[.bM [aq.mk 6 [A2] .live],.bM yk,.bM j7,.pure,.pure,.dw (av 1 J so)],ac:=[ii,.bF (.b9 (.len (so.length)))],r:= .b cj.1,db:=[[aq.mk 6 [rv] .live],yk,A3,(av 1 J cj.2.2.2.2.1),(av 1 dB cj.2.2.2.2.2),(av 1 J so)],eo:=ii,e4:=[.bM [aq.mk 6 [u0] .live],.bM yj,.bM A3,.pure,.pure,.pure],dd:=[4,5,6,7,8,15],c9:=false}) 1)];
  have fX:=b3.aZ (.bt (jb td 5 [pz] [pz] rfl) (js 5 [pz]) (fg 1 aD cN) (fg 1 aD eR) (fg 1 aD c3) (kr (show aq.mk 6 [(eG 8 1 0 bs.2.2.2.1.length bs.1 bs.2.1 8 2 0 bs.2.2.2.2.1.length bs.2.2.1 8 3 0 bs.2.2.2.2.2.1.length)] .live=j5 (n1 [0,1,2,3,8]) (aq.mk 6 [(eG 4 1 0 bs.2.2.2.1.length bs.1 bs.2.1 4 2 0 bs.2.2.2.2.1.length bs.2.2.1 4 3 0 bs.2.2.2.2.2.1.length)] .live) from rfl) (kr (EE td 8 4 4 2 rfl bs.2.2.2.1) (kr (qi td 1 r7 bs.2.2.2.2.1) (kr (qi td 1 Js bs.2.2.2.2.2.1) (eS td 2 d1 bs.2.2.2.2.2.2))))) ((sK rfl (sK rfl (sK rfl (sK rfl (Og (ix .live 2 aQ bs.2.2.2.2.2.2)))))):ph (aq.mk 6 [sn] .live::aq.mk 1 (bs.2.2.2.1.map (bW 4 4 2)) .live::aq.mk 1 (bs.2.2.2.2.1.map J) .live::aq.mk 1 (bs.2.2.2.2.2.1.map dB) .live::j7)) (MJ (.inl bs) R) (.bt (aE 1 .live aD cN) (aE 1 .live aD eR) (aE 1 .live aD c3) (kr (show aq.mk 6 [(eG 4 1 0 bs.2.2.2.1.length bs.1 bs.2.1 4 2 0 bs.2.2.2.2.1.length bs.2.2.1 4 3 0 bs.2.2.2.2.2.1.length)] .live=j5 (dq [0,1,2,3,8]) (aq.mk 6 [(eG 8 1 0 bs.2.2.2.1.length bs.1 bs.2.1 8 2 0 bs.2.2.2.2.1.length bs.2.2.1 8 3 0 bs.2.2.2.2.2.1.length)] .live) from rfl) (kr (EE te 4 8 4 2 rfl bs.2.2.2.1) (kr (qi te 1 r7 bs.2.2.2.2.1) (kr (qi te 1 Js bs.2.2.2.2.2.1) (eS te 2 d1 bs.2.2.2.2.2.2))))) (aE 1 .live aD cN) (aE 1 .live aD eR) (aE 1 .live aD c3) (rfl:(jn [{da:=some (0,0)},{da:=some (1,0)},{da:=some (2,0)},{da:=some (3,0)},{bg:=[(4,0)]},{bg:=[(4,1)]},{bg:=[(4,2)]},{bg:=[(4,3)]},{da:=some (4,4)}]) 5 0=some (4,1)) (.bt (rfl:bs.2.2.2.1.length=bs.2.2.2.1.length) (rfl:(jn [{da:=some (0,0)},{da:=some (1,0)},{da:=some (2,0)},{da:=some (3,0)},{bg:=[(4,0)]},{bg:=[(4,1)]},{bg:=[(4,2)]},{bg:=[(4,3)]},{da:=some (4,4)}]) 6 0=some (4,2)) (rfl:bs.2.2.2.2.1.length=bs.2.2.2.2.1.length) (rfl:(jn [{da:=some (0,0)},{da:=some (1,0)},{da:=some (2,0)},{da:=some (3,0)},{bg:=[(4,0)]},{bg:=[(4,1)]},{bg:=[(4,2)]},{bg:=[(4,3)]},{da:=some (4,4)}]) 7 0=some (4,3)) (rfl:bs.2.2.2.2.2.1.length=bs.2.2.2.2.2.1.length) (Pj (Jr (jy:=(bW 8 0 2)) (dF (bW 4 4 2) bs.2.2.2.1) (fun _=>rfl) (fun x=>(Qq (fun _=>rfl)) x)) PQ:rq (jn [{da:=some (0,0)},{da:=some (1,0)},{da:=some (2,0)},{da:=some (3,0)},{bg:=[(4,0)]},{bg:=[(4,1)]},{bg:=[(4,2)]},{bg:=[(4,3)]},{da:=some (4,4)}]) (av 1 (bW 4 4 2) bs.2.2.2.1) yj) (aE 1 .live aD bs.2.2.2.2.1) (aE 1 .live dT bs.2.2.2.2.2.1) (.bt (Pl (ix .live 2 aQ bs.2.2.2.2.2.2) (fun _=>rfl) d1:rq (jn [{da:=some (0,0)},{da:=some (1,0)},{da:=some (2,0)},{da:=some (3,0)},{bg:=[(4,0)]},{bg:=[(4,1)]},{bg:=[(4,2)]},{bg:=[(4,3)]},{da:=some (4,4)}]) j7 j7) (rfl:(jn [{da:=some (0,0)},{da:=some (1,0)},{da:=some (2,0)},{da:=some (3,0)},{bg:=[(4,0)]},{bg:=[(4,1)]},{bg:=[(4,2)]},{bg:=[(4,3)]},{da:=some (4,4)}]) 4 0=some (4,0)) (rfl:(jn [{da:=some (0,0)},{da:=some (1,0)},{da:=some (2,0)},{da:=some (3,0)},{bg:=[(4,0)]},{bg:=[(4,1)]},{bg:=[(4,2)]},{bg:=[(4,3)]},{da:=some (4,4)}]) 4 0=some (4,0)) (rfl:(jn [{da:=some (0,0)},{da:=some (1,0)},{da:=some (2,0)},{da:=some (3,0)},{bg:=[(4,0)]},{bg:=[(4,1)]},{bg:=[(4,2)]},{bg:=[(4,3)]},{da:=some (4,4)}]) 4 0=some (4,0)) (rfl:(jn [{da:=some (0,0)},{da:=some (1,0)},{da:=some (2,0)},{da:=some (3,0)},{bg:=[(4,0)]},{bg:=[(4,1)]},{bg:=[(4,2)]},{bg:=[(4,3)]},{da:=some (4,4)}]) 4 0=some (4,0)) gC aA.1 (Int.le_refl bs.2.2.1) (.bt aA.2.1 aA.2.2 (ht J c3) (Z1 (zX (dF J c3) (fq c3)) aF) (ue A4 yl) (PU yl (Nat.le_refl _) aF) (jb u1 6 [A2] [tc] rfl) (js 6 [tc]) (.bt (eP u1 2 8 0 2 rfl bs.2.2.2.1) (js 1 (bs.2.2.2.1.map (bW 8 0 2))) (eS u1 2 d1 bs.2.2.2.2.2.2) (qj 2 aQ bs.2.2.2.2.2.2) (fg 1 aD bs.2.2.2.2.1) (fg 1 dT bs.2.2.2.2.2.1) (d4 1 .live (Za A4 (zX (dF J c3) (fq c3)))) (fg 1 aD so) (.bt (jb u2 6 [u0] [rv] rfl) (js 6 [rv]) (eP u2 8 2 0 2 rfl bs.2.2.2.1) (js 1 (bs.2.2.2.1.map (bW 2 0 2))) (eS u2 2 d1 cj.2.2.2.1) (qj 2 aQ cj.2.2.2.1) (fg 1 aD cj.2.2.2.2.1) (fg 1 dT cj.2.2.2.2.2) (.aC (fg 1 aD so) (FH cj bU)))))))));
  .ite (fun bx =>
  .az fun bi dO =>
  .bn fun d2 =>
  .az fun gW fo =>
  .az fun gd hD =>
  .az fun dP gh =>
  .az fun eZ gG =>
  .ret (let aW:=gp b1 cx 1 0 0 cN.length 2 0 0 eR.length 3 0 0 c3.length;let bl:=(List.replicate cx.toNat (none:(Option bq)):List (Option bq));let cc:=aE 1 .live aD cN;let cM:=aE 1 .live aD eR;let eN:=aE 1 .live aD c3;let gH:=(c3++(List.replicate bs.2.2.1.toNat 0:List Int).drop c3.length);let h9:=dq [0,1,2,3,4,15,5,8,6,7];let fx:=dq [0,1,2,3,4,13,5,6,7,8];let jz:=dq [0,1,2,3,4,5,8,6,7,9];let jx:=av 1 (bW 7 0 2) bs.2.2.2.1;let k3:=aE 1 .live aD bi.2.2.2.1;let k4:=aE 1 .live dT bi.2.2.2.2;let nT:=cU 2 aQ bi.2.2.1;hg (t2.append [.ao false,(ad 5),.bj [0,1,2,3,4,15,5,8,6,7] [.box [.id,.id,.id,.id,.id],.pure,.pure,.pure,.box [.id,.id,.id,.id,.id,.id],.pure,.bM jx,.bM (cU 2 aQ cj.2.2.2.1),.pure,.pure] [(0,ii),(5,ii),(7,fQ (gH.length)),(41,ii),(42,ii)],(GR cx b1 cN eR c3 bs.2.2.1 bs.2.2.2.1 bi).fW,.aH (bH 4 (.cB [(ek 3 a2 (none:(Option bq)))]) 1),(ad 3),.bj [0,1,2,3,4,13,5,6,7,8] [.box [.id,.id,.id,.id,.id],.pure,.pure,.pure,.box [.id,.id,.id,.id,.id,.id],.dw (av 1 (b6 3 a2) bl),.bM jx,.bM nT,.pure,.pure] [(0,ii),(5,ii),(9,fQ (bl.length)),(59,ii),(60,ii)],(GS ((cx.toNat:Nat):Int) b1 cx cN eR c3 bi.1 bi.2.1 bs.2.2.1 bs.2.2.2.1 bi.2.2.1 bi.2.2.2.1 bi.2.2.2.2 gW).fW,(ad 6),.bj [0,1,2,3,4,5,8,6,7,9] [.box [.id,.id,.id,.id,.id],.pure,.pure,.pure,.box [.id,.id,.id,.id,.id,.id],.pure,.pure,.bM (av 1 (bW 8 0 2) bs.2.2.2.1),.bM nT,.pure] (bR [0,5,9,71,72,73]),(GU ((bi.2.2.2.1.length:Nat):Int) b1 cx cN eR c3 bi.1 bi.2.1 bs.2.2.1 bi.2.2.2.1 bs.2.2.2.1 bi.2.2.1 bi.2.2.2.2 gd).fW,.aH (ar (bT 1 (ek 3 a2 dP) false) (ap 1 [])),(ad 3),.bj [0,1,2,3,4] [.box [.id,.id,.id,.id,.id],.pure,.pure,.pure,.pure] (bR [0,9,13,102,103,104]),(GV ((gd.length:Nat):Int) b1 cx cN eR c3 gd eZ).fW,(ad 5)]) [0,1,2,3] [.bM [aq.mk 5 [aW] .live],.pure,.pure,.pure] (fX.aZ (.bt (dc bx) cc cM eN (aE 1 .live aD gH) (eP h9 7 8 0 2 rfl bs.2.2.2.1) (eS h9 2 d1 cj.2.2.2.1) (aE 1 .live aD cj.2.2.2.2.1) (.bt (aE 1 .live dT cj.2.2.2.2.2) (PU (kB bs.2.2.1.toNat (0:Int)) (Nat.le_refl _) aF) (Um dO) d2.1 (Int.le_refl cx) d2.2.1 d2.2.2 cc (.bt cM eN (d4 1 .live (kp (b6 3 a2) cx.toNat (none:(Option bq)))) (aE 1 .live (kq (sz:=3) jd) bl) (eP fx 7 6 0 2 rfl bs.2.2.2.1) (eS fx 2 d1 bi.2.2.1) k3 k4 (.bt (kB cx.toNat ((none:(Option bq)):(Option bq))) (Un fo) cc cM eN (aE 1 .live (kq (sz:=3) jd) gW) k3 (eP jz 8 7 0 2 rfl bs.2.2.2.1) (.bt (eS jz 2 d1 bi.2.2.1) k4 (Uo hD) (q8 dP gh) cc cM eN (aE 1 .live (kq (sz:=3) jd) gd) (.hh (Up gG) (jb (dq [0,1,2,3]) 5 [aW] [aW] rfl) cc cM eN (ia (b6 3 a2) gd) (ht (b6 3 a2) gd) (eF (kq (sz:=3) jd) gd)))))))) (.comp [.b9 .id,.b9 (.e5 (gd.map (b6 3 a2))),.b9 .id])))
  (fun bx =>
  .ret (let oW:=gp b1 cx 1 0 0 cN.length 2 0 0 eR.length 3 0 0 c3.length;hg (t2.append [.ao true,(ad 3)]) [0,1,2,3] [.bM [aq.mk 5 [oW] .live],.pure,.pure,.pure] (fX.aZ (.ep (df bx) (jb (dq [0,1,2,3]) 5 [oW] [oW] rfl) (aE 1 .live aD cN) (aE 1 .live aD eR) (aE 1 .live aD c3))) (.comp [.b9 .id,.b9 (.iv 1),.b9 (.o1 3)])))))
  ·exact (.ret (let nr:=gp b1 cx 1 0 0 cN.length 2 0 0 eR.length 3 0 0 c3.length;hg [(ad 3),.aH (bH 1 (.call {aM:=(oT [0,1,2,3]),cu:=[.bM [aq.mk 5 [nr] .live],.pure,.pure,.pure],ac:=[ii],r:= .cW [.hJ,.b false],db:=[[aq.mk 5 [nr] .live],(av 1 J cN),(av 1 J eR),(av 1 J c3)],eo:=ii,e4:=[.bM [aq.mk 5 [nr] .live],.pure,.pure,.pure],dd:=[0,1,2,3],c9:=false}) 5),(ad 2),.ao true,(ad 3)] [0,1,2,3] [.bM [aq.mk 5 [nr] .live],.pure,.pure,.pure] (b3.aZ (.bt (jb (n1 [0,1,2,3]) 5 [nr] [nr] rfl) (js 5 [nr]) (fg 1 aD cN) (fg 1 aD eR) (fg 1 aD c3) (MJ (.inr bs) R) ca (jb (dq [0,1,2,3]) 5 [nr] [nr] rfl) (.bZ (aE 1 .live aD cN) (aE 1 .live aD eR) (aE 1 .live aD c3)))) (.comp [.b9 .id,.b9 (.iv 1),.b9 (.o1 3)])))))
def C9 (ba:Option bq):Option (Option bq) :=
 ba.elim
 (some (none:(Option bq)))
 fun dQ =>
 o7 dQ.lD >>= fun bk =>
 some (some (⟨bk,dQ.mN⟩:bq))
theorem VV {ba:Option bq}:bQ (C9 ba) (fun r=>Con bo 88 [(ek 3 a2 ba)] [] (ek 3 a2 r) []):=by
 unfold C9
 exact .mn (fun o =>
  .ret (bP [(ad 1),.aH (ap 1 (ar (.eM 3 (.eb 3 none) .cT) [])),.ao true,(ad 1)] (.aC (oC (sz:=3) (f:=a2) o) ca) (.bF (.b9 (.o1 3)))))
  (fun dQ o =>
  .az fun bk aA =>
  .ret (bP [(ad 1),.aH (ap 1 (ar (.eM 3 (.eb 3 (some (a2 dQ))) .cT) [])),.ao false,.aH (ap 1 (ar (.eM 5 (.eb 3 (some (a2 dQ))) .cT) (ap 2 (ar (bT 1 (.agg (aQ bk)) false) (bH 1 (.eM 10 (.eb 3 (some (a2 dQ))) .cT) 5)))))] (.fb (hz (sz:=3) (f:=a2) o) gC (hz (sz:=3) (f:=a2) o) (BQ bk aA) (hz (sz:=3) (f:=a2) o) (k9 (jd (⟨bk,dQ.mN⟩:bq)):hc [[.b bk.c6,.isl 1 (bk.cK.map J),.isl 1 (dQ.mN.map J)]])) (.bF (.r9 [.id,.id,.id]))))
def ua (b2:Option bq):Option (Option bq) :=
 b2 >>= fun eK =>
 if (decide ((24:Int)<(len_ J eK.lD.cK)))=true then
  some (none:(Option bq))
 else
  if (decide ((24:Int)<(len_ J eK.mN)))=true then
   some (none:(Option bq))
  else
   some b2
theorem Np {b2:Option bq}:bQ (ua b2) (fun r=>Con bo 90 [(ek 3 a2 b2)] [] (ek 3 a2 r) []):=by
 unfold ua
 exact .az fun eK R =>
  (have b3:=((.ax (hz (sz:=3) (f:=a2) R)):cL _);
  .ite (fun ab =>
  .ret (bP [(ad 1),.aH (ap 1 (ar (.eM 3 (.eb 3 (some (a2 eK))) .cT) (ap 6 (dk 6 (ar (.ao true) []))))),.ao true,(ad 1)] (b3.aZ (.hh ab ab ab ab ab ab ab ca)) (.bF (.b9 (.o1 3)))))
  (fun ab =>
  (let t2:List cw:=[(ad 1),.aH (ap 1 (ar (.eM 3 (.eb 3 (some (a2 eK))) .cT) (ap 7 (ar (.eM 11 (.eb 3 (some (a2 eK))) .cT) (ap 4 (ar (.ao false) []))))))];
  have fX:=b3.aZ (.hh ab ab (hz (sz:=3) (f:=a2) R) ab ab ab ab ab);
  .ite (fun aA =>
  .ret (bP (t2.append [.ao true,(ad 1)]) (fX.aZ (.ax aA)) (.bF (.b9 (.o1 3)))))
  (fun aA =>
  .ret (bP (t2.append [.ao false,(ad 2)]) (fX.aZ (.ax aA)))))))
def ub (ba a9:Option bq):Option (Option bq) :=
 ba.elim
 (some (none:(Option bq)))
 fun dQ =>
 a9.elim
 (some (none:(Option bq)))
 fun nw =>
 wG ba a9 >>= fun bh =>
 ua bh >>= fun bK =>
 some bK
theorem Nq {ba a9:Option bq}:bQ (ub ba a9) (fun r=>Con bo 89 [ek 3 a2 ba,ek 3 a2 a9] [] (ek 3 a2 r) []):=by
 unfold ub
 exact .mn (fun o =>
  .ret (bP [(ad 1),.aH (ap 1 (ar (.eM 5 (.eb 3 none) .cT) (ap 1 (dk 2 (ap 1 []))))),.ao true,(ad 1)] (.c8 (oC (sz:=3) (f:=a2) o) ca ca ca) (.bF (.b9 (.o1 3)))))
  (fun dQ o =>
  (have b3:=((.bZ (hz (sz:=3) (f:=a2) o) gC gC):cL _);
  .mn (fun ab =>
  .ret (bP [(ad 1),.aH (ap 1 (ar (.eM 5 (.eb 3 (some (a2 dQ))) .cT) (bH 2 (.eM 8 (.eb 3 none) .cT) 1))),.ao true,(ad 1)] (b3.aZ (.aC (oC (sz:=3) (f:=a2) ab) ca)) (.bF (.b9 (.o1 3)))))
  (fun nw ab =>
  .az fun bh br =>
  .az fun bK bx =>
  .ret (bP [(ad 1),.aH (ap 1 (ar (.eM 5 (.eb 3 (some (a2 dQ))) .cT) (bH 2 (.eM 8 (.eb 3 (some (a2 nw))) .cT) 1))),.ao false,.aH (ap 2 (ar (bT 2 (ek 3 a2 bh) false) (ar (bT 1 (ek 3 a2 bK) false) (ap 1 []))))] (b3.aZ (.c8 (hz (sz:=3) (f:=a2) ab) gC (Ml bh br) (Np bK bx)))))))
def FF (b2:List (Option bq))(fz:List eW)(jj:Int):(Int×(List (Option bq)))→S:=fun (hQ,aj)=>eD [(1,.isl 1 (b2.map (b6 3 a2))),(5,.bw 0 0 0 aj.length),(16,.isl 2 (fz.map e8)),(17,.n .i64 jj),(18,.n .i64 hQ)] [(av 1 (b6 3 a2) aj)]
def FI (b2:List (Option bq))(fz:List eW)(jj:Int):(List (Option bq))→eJ
 | a=>⟨some 0,[(5,.bw 0 0 0 a.length)],[(av 1 (b6 3 a2) a)]⟩
def vK (b2:List (Option bq))(fz:List eW)(jj hQ:Int)(aj:List (Option bq)):Option ((Int×(List (Option bq)))⊕((List (Option bq)))) :=
 if (decide (hQ<jj))=true then
  if 0≤hQ∧hQ<fz.length then
  fz[hQ.toNat]? >>= fun aU =>
  if 0≤hQ∧hQ<b2.length then
  b2[hQ.toNat]? >>= fun cd =>
  if (decide (aU.sY<(0:Int)))=true then
   C9 cd >>= fun bi =>
   if 0≤aU.hp∧aU.hp<(aj.length:Nat) then
   aj[(0+aU.hp.toNat)]? >>= fun ym =>
   ym.elim
   (if (0+aU.hp.toNat)<aj.length then
     some (.inl (U (hQ+(1:Int)),aj.set (0+aU.hp.toNat) bi))
     else none)
   fun Rt =>
   ub ym bi >>= fun dP =>
   if (0+aU.hp.toNat)<aj.length then
   some (.inl (U (hQ+(1:Int)),aj.set (0+aU.hp.toNat) dP))
   else none
   else none
  else
   if 0≤aU.hp∧aU.hp<(aj.length:Nat) then
   aj[(0+aU.hp.toNat)]? >>= fun i1 =>
   i1.elim
   (if (0+aU.hp.toNat)<aj.length then
     some (.inl (U (hQ+(1:Int)),aj.set (0+aU.hp.toNat) cd))
     else none)
   fun Ru =>
   ub i1 cd >>= fun gd =>
   if (0+aU.hp.toNat)<aj.length then
   some (.inl (U (hQ+(1:Int)),aj.set (0+aU.hp.toNat) gd))
   else none
   else none
  else none
  else none
 else
  some (.inr aj)
def F1 (b2:List (Option bq))(fz:List eW)(jj hQ:Int)(aj:List (Option bq)):Option ((List (Option bq))):=iter (fun w:Int×(List (Option bq))=>vK b2 fz jj w.1 w.2) (hQ,aj)
theorem SU {b2:List (Option bq)}{fz:List eW}{jj hQ:Int}{aj:List (Option bq)}:bQ (vK b2 fz jj hQ aj) (fj bo 56 0 58 [1,1,0,1,0,0] (FF b2 fz jj (hQ,aj)) (FF b2 fz jj) (FI b2 fz jj)):=by
 unfold vK
 exact .ite (fun o =>
  .bn fun R =>
  .az fun aU aA =>
  .bn fun aF =>
  .az fun cd bU =>
  (let t1:List cw:=[(ad 1),.ao true,.aH (bH 2 (.cB (e8 aU)) 3),.aH (bH 3 (.cB ((b6 3 a2) cd)) 1),(ad 3)];
  have a6:=((.e2 o R.1 (eE e8 R.2) (cD e8 aA) aF.1 (eE (b6 3 a2) aF.2) (cD (b6 3 a2) bU)):cL _);
  .ite (fun bx =>
  .az fun bi dO =>
  .bn fun d2 =>
  .az fun ym fo =>
  (let t3:List cw:=t1.append [.ao true,.aH (bH 1 (bT 1 (ek 3 a2 bi) false) 1)];
  have fa:=a6.aZ (.ep bx (VV bi dO) d2.1 d2.2 (cD (b6 3 a2) fo));
  .mn (fun eT =>
  .bn fun h5 =>
  .ret (bS (t3.append [.aH (ap 4 (ar (.cB ((b6 3 a2) ym)) (ar (.eM 36 (.eb 3 none) .cT) []))),.ao true,.aH (ap 5 (ar .cT [])),(ad 2),.bj [0] [.dw (av 1 (b6 3 a2) (aj.set (0+aU.hp.toNat) bi))] [(1,ii),(5,fQ ((aj.set (0+aU.hp.toNat) bi).length)),(16,ii),(17,ii),(18,ii)]]) (fa.aZ (.bt (oC (sz:=3) (f:=a2) eT) ca d2.1 d2.2 (hb (b6 3 a2) h5) (gB 1) (d4 1 .live (fs (dF (b6 3 a2) aj) (0+aU.hp.toNat) bi)) (aE 1 .live (kq (sz:=3) jd) (aj.set (0+aU.hp.toNat) bi)) (.ax (gP (fq aj) (0+aU.hp.toNat) bi))))))
  (fun Rt eT =>
  .az fun dP gh =>
  .bn fun j6 =>
  .ret (bS (t3.append [.aH (ap 4 (ar (.cB ((b6 3 a2) ym)) (ar (.eM 36 (.eb 3 (some (a2 Rt))) .cT) []))),.ao false,.aH (ap 7 (ar (.cB ((b6 3 a2) ym)) (ap 1 (ar (bT 2 (ek 3 a2 dP) false) (ap 1 (ar .cT [])))))),(ad 2),.bj [0] [.dw (av 1 (b6 3 a2) (aj.set (0+aU.hp.toNat) dP))] [(1,ii),(5,fQ ((aj.set (0+aU.hp.toNat) dP).length)),(16,ii),(17,ii),(18,ii)]]) (fa.aZ (.bt (hz (sz:=3) (f:=a2) eT) gC d2.1 d2.2 (cD (b6 3 a2) fo) (Nq dP gh) d2.1 d2.2 (.ep (hb (b6 3 a2) j6) (gB 1) (d4 1 .live (fs (dF (b6 3 a2) aj) (0+aU.hp.toNat) dP)) (aE 1 .live (kq (sz:=3) jd) (aj.set (0+aU.hp.toNat) dP)) (gP (fq aj) (0+aU.hp.toNat) dP))))))))
  (fun bx =>
  .bn fun c2 =>
  .az fun i1 d2 =>
  (have fX:=a6.aZ (.c8 bx c2.1 c2.2 (cD (b6 3 a2) d2));
  .mn (fun ev =>
  .bn fun eT =>
  .ret (bS (t1.append [.ao false,.aH (ap 4 (ar (.cB ((b6 3 a2) i1)) (ar (.eM 36 (.eb 3 none) .cT) []))),.ao true,.aH (ap 5 (ar .cT [])),(ad 2),.bj [0] [.dw (av 1 (b6 3 a2) (aj.set (0+aU.hp.toNat) cd))] [(1,ii),(5,fQ ((aj.set (0+aU.hp.toNat) cd).length)),(16,ii),(17,ii),(18,ii)]]) (fX.aZ (.bt (oC (sz:=3) (f:=a2) ev) ca c2.1 c2.2 (hb (b6 3 a2) eT) (gB 1) (d4 1 .live (fs (dF (b6 3 a2) aj) (0+aU.hp.toNat) cd)) (aE 1 .live (kq (sz:=3) jd) (aj.set (0+aU.hp.toNat) cd)) (.ax (gP (fq aj) (0+aU.hp.toNat) cd))))))
  (fun Ru ev =>
  .az fun gd hD =>
  .bn fun h5 =>
  .ret (bS (t1.append [.ao false,.aH (ap 4 (ar (.cB ((b6 3 a2) i1)) (ar (.eM 36 (.eb 3 (some (a2 Ru))) .cT) []))),.ao false,.aH (ap 7 (ar (.cB ((b6 3 a2) i1)) (ap 1 (ar (bT 2 (ek 3 a2 gd) false) (ap 1 (ar .cT [])))))),(ad 2),.bj [0] [.dw (av 1 (b6 3 a2) (aj.set (0+aU.hp.toNat) gd))] [(1,ii),(5,fQ ((aj.set (0+aU.hp.toNat) gd).length)),(16,ii),(17,ii),(18,ii)]]) (fX.aZ (.bt (hz (sz:=3) (f:=a2) ev) gC c2.1 c2.2 (cD (b6 3 a2) d2) (Nq gd hD) c2.1 c2.2 (.ep (hb (b6 3 a2) h5) (gB 1) (d4 1 .live (fs (dF (b6 3 a2) aj) (0+aU.hp.toNat) gd)) (aE 1 .live (kq (sz:=3) jd) (aj.set (0+aU.hp.toNat) gd)) (gP (fq aj) (0+aU.hp.toNat) gd))))))))))
  (fun o =>
  .ret (bS [(ad 1),.ao false,.bj [0] [.pure] (bR [5])] (.aC o (aE 1 .live (kq (sz:=3) jd) aj))))
theorem Tg {b2:List (Option bq)}{fz:List eW}{jj hQ:Int}{aj:List (Option bq)}{r} (h:F1 b2 fz jj hQ aj=some r):fk bo 56 0 58 [1,1,0,1,0,0] (FF b2 fz jj) (FI b2 fz jj) (hQ,aj) r:=fl (fun _=>SU) h
def yO (aL:cz)(b2:List (Option bq)):Option (List (Option bq)) :=
 if 0≤(len_ d5 aL.bB)∧(8:Int)*(len_ d5 aL.bB)≤281474976710656∧(len_ d5 aL.bB)<9223372036854775808 then
 ty aL >>= fun bm =>
 F1 b2 bm (len_ e8 bm) 0 (List.replicate (len_ d5 aL.bB).toNat (none:(Option bq)):List (Option bq)) >>= fun aX =>
 some aX
 else none
theorem TL {aL:cz}{b2:List (Option bq)}:bQ (yO aL b2) (fun r=>Con bo 58 [.ey 2 [(f9 aL)] 0 0,.isl 1 (b2.map (b6 3 a2))] [] (.isl 1 (r.map (b6 3 a2))) []):=by
 unfold yO
 exact .bn fun o =>
  .az fun bm ab =>
  .az fun aX aF =>
  .ret (let bl:=len_ d5 aL.bB;let aW:=(List.replicate bl.toNat (none:(Option bq)):List (Option bq));bP [(ad 1),.aH (bH 5 (.cB [(ek 3 a2 (none:(Option bq)))]) 1),.aH (bH 1 (bT 1 (.isl 2 (bm.map e8)) false) 2),.bj [6] [.dw (av 1 (b6 3 a2) aW)] [(1,ii),(5,fQ (aW.length)),(16,ii),(17,ii),(18,ii)],(FI b2 bm (len_ e8 bm) aX).fW,(ad 2)] (.bt o.1 (Int.le_refl bl) o.2.1 o.2.2 (FK bm ab) (d4 1 .live (kp (b6 3 a2) bl.toNat (none:(Option bq)))) (aE 1 .live (kq (sz:=3) jd) aW) (kB bl.toNat ((none:(Option bq)):(Option bq))) (.c8 (Tg aF) (ia (b6 3 a2) aX) (ht (b6 3 a2) aX) (eF (kq (sz:=3) jd) aX))) (.bF (.b9 (.e5 (aX.map (b6 3 a2))))))
def tw (aL:cz)(xS xJ:Int)(fJ cN eR:List Int):Option ((List (Option bq))×(List (Option bq))×Bool) :=
 za xS xJ fJ cN eR >>= fun ak =>
 if (ak.1 != (0:Int))=true then
  some (([]:List (Option bq)),([]:List (Option bq)),false)
 else
  ty aL >>= fun aX =>
  if 0≤(len_ e8 aX) then
  if 0≤(len_ e8 aX).toNat∧(len_ e8 aX).toNat≤ak.2.1.length then
  yO aL ((ak.2.1.drop 0).take ((len_ e8 aX).toNat-0)) >>= fun eQ =>
  if (len_ e8 aX).toNat≤ak.2.1.length then
  some (eQ,(ak.2.1.drop ((len_ e8 aX).toNat)).take ((ak.2.1.map (b6 3 a2)).length-(len_ e8 aX).toNat),true)
  else none
  else none
  else none
theorem Tc {aL:cz}{xS xJ:Int}{fJ cN eR:List Int}:bQ (tw aL xS xJ fJ cN eR) (fun a=>Con bo 27 [.ey 2 [(f9 aL)] 0 0,.agg (gp xS xJ 0 0 0 fJ.length 1 0 0 cN.length 2 0 0 eR.length)] [(av 1 J fJ),(av 1 J cN),(av 1 J eR)] (.cW [.isl 1 (a.1.map (b6 3 a2)),.isl 1 (a.2.1.map (b6 3 a2)),.b a.2.2]) [(av 1 J fJ),(av 1 J cN),(av 1 J eR)]):=by
 unfold tw
 exact .az fun ak R =>
  (let cc:=gp xS xJ 1 0 0 fJ.length 2 0 0 cN.length 3 0 0 eR.length;let cM:=gp xS xJ 0 0 0 fJ.length 1 0 0 cN.length 2 0 0 eR.length;let t1:List cw:=[(ad 4),.aH (ar (.call {aM:=(oT [3,0,1,2]),cu:=[.bM [aq.mk 5 [cc] .live],.pure,.pure,.pure],ac:=[ii],r:= .cW [.n .i64 ak.1,.isl 1 (ak.2.1.map (b6 3 a2)),ek 3 a2 ak.2.2],db:=[[aq.mk 5 [cc] .live],(av 1 J fJ),(av 1 J cN),(av 1 J eR)],eo:=ii,e4:=[.bM [aq.mk 5 [cM] .live],.pure,.pure,.pure],dd:=[0,1,2,3],c9:=false}) (ap 7 [])),(ad 2)];
  have a6:=((.bt (jb (rB [3,0,1,2]) 5 [cc] [cM] rfl) (js 5 [cM]) (fg 1 aD fJ) (fg 1 aD cN) (fg 1 aD eR) (jb (n1 [3,0,1,2]) 5 [cM] [cc] rfl) (js 5 [cc]) (fg 1 aD fJ) (.bZ (fg 1 aD cN) (fg 1 aD eR) (UY ak R))):cL _);
  .ite (fun ab =>
  .ret (hg (t1.append [.ao true,(ad 3)]) [0,1,2] [.pure,.pure,.pure] (a6.aZ (.c8 ab (aE 1 .live aD fJ) (aE 1 .live aD cN) (aE 1 .live aD eR))) (.comp [.b9 (.iv 1),.b9 (.iv 1),.b9 .id])))
  (fun ab =>
  .az fun aX aF =>
  .bn fun br =>
  .bn fun bU =>
  .az fun eQ c2 =>
  .bn fun dO =>
  .ret (let aW:=len_ e8 aX;let bl:=dF (b6 3 a2) ak.2.1;hg (t1.append [.ao false,.aH (bH 1 (bT 1 (.isl 2 (aX.map e8)) false) 2),.aH (bH 4 (.call {ac:=[ii,.bF (.b9 (.dw (.isl 1 (((ak.2.1.drop 0).take (aW.toNat-0)).map (b6 3 a2)))))],r:= .isl 1 (eQ.map (b6 3 a2)),c9:=false}) 6)]) [0,1,2] [.pure,.pure,.pure] (a6.aZ (.bt ab (FK aX aF) br bU.1 (sN bl bU.2) (congrArg (ay.isl 1) (oK bl 0 (aW.toNat-0)):(.isl 1 (((ak.2.1.map (b6 3 a2)).drop 0).take (aW.toNat-0)):ay) = .isl 1 (((ak.2.1.drop 0).take (aW.toNat-0)).map (b6 3 a2))) (TL eQ c2) br (.fb (Y6 bl▸dO:aW.toNat≤(ak.2.1.map (b6 3 a2)).length) (Nat.le_refl ((ak.2.1.map (b6 3 a2)).length)) (aE 1 .live aD fJ) (aE 1 .live aD cN) (aE 1 .live aD eR) (congrArg (ay.isl 1) (oK bl (aW.toNat) ((ak.2.1.map (b6 3 a2)).length-aW.toNat)):(.isl 1 (((ak.2.1.map (b6 3 a2)).drop (aW.toNat)).take ((ak.2.1.map (b6 3 a2)).length-aW.toNat)):ay) = .isl 1 (((ak.2.1.drop (aW.toNat)).take ((ak.2.1.map (b6 3 a2)).length-aW.toNat)).map (b6 3 a2)))))) (.comp [.b9 .id,.b9 (.dw (.isl 1 (((ak.2.1.drop (aW.toNat)).take ((ak.2.1.map (b6 3 a2)).length-aW.toNat)).map (b6 3 a2)))),.b9 .id]))))
def yS (b2:bc):Option bc :=
 if (decide ((60:Int)<(len_ J b2.cK)))=true then
  some (⟨false,([]:List Int)⟩:bc)
 else
  ui b2.cK >>= fun bm =>
  some (⟨b2.c6,bm⟩:bc)
theorem T4 {b2:bc}:bQ (yS b2) (fun r=>Con bo 68 [.agg (aQ b2)] [] (.agg (aQ r)) []):=by
 unfold yS
 exact .ite (fun o =>
  .ret (bP [(ad 2),(ad 4),.ao true,(ad 2)] (.ax o) (.bF (.agg [.id,.iv 1]))))
  (fun o =>
  .az fun bm ab =>
  .ret (bP [(ad 2),(ad 4),.ao false,.aH (bH 4 (bT 1 (.isl 1 (bm.map J)) false) 2)] (.aC o (Il bm ab))))
def tT (b2:Option bq):Option dX :=
 b2.elim
 (some (⟨(⟨false,([]:List Int)⟩:bc),([]:List Int)⟩:dX))
 fun dQ =>
 yS dQ.lD >>= fun bk =>
 ui dQ.mN >>= fun bh =>
 some (⟨bk,bh⟩:dX)
theorem HP {b2:Option bq}:bQ (tT b2) (fun r=>Con bo 40 [(ek 3 a2 b2)] [] (.agg (fm r)) []):=by
 unfold tT
 exact .mn (fun o =>
  .ret (bP [(ad 1),.aH (ap 1 (ar (.eM 3 (.eb 3 none) .cT) [])),.ao true,(ad 2)] (.aC (oC (sz:=3) (f:=a2) o) ca) (.bF (.agg [.id,.iv 1,.iv 1]))))
  (fun dQ o =>
  .az fun bk aA =>
  .az fun bh br =>
  .ret (bP [(ad 1),.aH (ap 1 (ar (.eM 3 (.eb 3 (some (a2 dQ))) .cT) [])),.ao false,.aH (ap 1 (ar (.eM 6 (.eb 3 (some (a2 dQ))) .cT) (ap 2 (ar (bT 1 (.agg (aQ bk)) false) (ap 1 (ar (.eM 11 (.eb 3 (some (a2 dQ))) .cT) (bH 2 (bT 1 (.isl 1 (bh.map J)) false) 2)))))))] (.fb (hz (sz:=3) (f:=a2) o) gC (hz (sz:=3) (f:=a2) o) (T4 bk aA) (hz (sz:=3) (f:=a2) o) (Il bh br))))
def GW (ea:List (Option bq))(dG:Int):(Int×(List dX))→S:=fun (dH,aj)=>eD [(4,.bw 0 0 0 aj.length),(10,.isl 1 (ea.map (b6 3 a2))),(11,.n .i64 dG),(12,.n .i64 dH)] [(av 3 fm aj)]
def G7 (ea:List (Option bq))(dG:Int):(((List dX))⊕(Unit))→eJ
 | .inl a=>⟨some 0,[(4,.bw 0 0 0 a.length)],[(av 3 fm a)]⟩
 | .inr a=>⟨none,[(2,.d7),(3,.b false)],[]⟩
def wo (ea:List (Option bq))(dG dH:Int)(aj:List dX):Option ((Int×(List dX))⊕(((List dX))⊕(Unit))) :=
 if (decide (dH<dG))=true then
  if 0≤dH∧dH<ea.length then
  ea[dH.toNat]? >>= fun aU =>
  aU.elim
  (some (.inr (.inr ())))
  fun n2 =>
  tT aU >>= fun bK =>
  if 0≤dH∧dH<(aj.length:Nat) then
  if (0+dH.toNat)<aj.length then
  some (.inl (U (dH+(1:Int)),aj.set (0+dH.toNat) bK))
  else none
  else none
  else none
 else
  some (.inr (.inl aj))
def HI (ea:List (Option bq))(dG dH:Int)(aj:List dX):Option (((List dX))⊕(Unit)):=iter (fun w:Int×(List dX)=>wo ea dG w.1 w.2) (dH,aj)
theorem TM {ea:List (Option bq)}{dG dH:Int}{aj:List dX}:bQ (wo ea dG dH aj) (fj bo 26 0 29 [1,1,0,1,0,0] (GW ea dG (dH,aj)) (GW ea dG) (G7 ea dG)):=by
 unfold wo
 exact .ite (fun o =>
  .bn fun R =>
  .az fun aU aA =>
  (let t1:List cw:=[(ad 1),.ao true,.aH (bH 2 (.cB ((b6 3 a2) aU)) 2)];
  have a6:=((.c8 o R.1 (eE (b6 3 a2) R.2) (cD (b6 3 a2) aA)):cL _);
  .mn (fun aF =>
  .ret (bS (t1.append [.aH (ap 1 (ar (.eM 17 (.eb 3 none) .cT) [])),.ao true,(ad 2),.bj [] [] (bR [2,3])]) (a6.aZ (.aC (oC (sz:=3) (f:=a2) aF) ca))))
  (fun n2 aF =>
  .az fun bK bx =>
  .bn fun c2 =>
  .bn fun dO =>
  .ret (bS (t1.append [.aH (ap 1 (ar (.eM 17 (.eb 3 (some (a2 n2))) .cT) [])),.ao false,.aH (ap 3 (ar (bT 1 (.agg (fm bK)) false) (ap 1 (ar .cT [])))),(ad 2),.bj [0] [.dw (av 3 fm (aj.set (0+dH.toNat) bK))] [(4,fQ ((aj.set (0+dH.toNat) bK).length)),(10,ii),(11,ii),(12,ii)]]) (a6.aZ (.bt (hz (sz:=3) (f:=a2) aF) gC (HP bK bx) c2.1 c2.2 (hb fm dO) (gB 3) (d4 3 .live (fs (dF fm aj) (0+dH.toNat) bK)) (.aC (aE 3 .live CR (aj.set (0+dH.toNat) bK)) (gP (fq aj) (0+dH.toNat) bK))))))))
  (fun o =>
  .ret (bS [(ad 1),.ao false,.bj [0] [.pure] (bR [4])] (.aC o (aE 3 .live CR aj))))
theorem Mo {ea:List (Option bq)}{dG dH:Int}{aj:List dX}{r} (h:HI ea dG dH aj=some r):fk bo 26 0 29 [1,1,0,1,0,0] (GW ea dG) (G7 ea dG) (dH,aj) r:=fl (fun _=>TM) h
def zj (cX:List (Option bq)):Option ((List dX)×Bool) :=
 if 0≤(len_ (b6 3 a2) cX)∧(56:Int)*(len_ (b6 3 a2) cX)≤281474976710656∧(len_ (b6 3 a2) cX)<9223372036854775808 then
 HI cX (len_ (b6 3 a2) cX) 0 (List.replicate (len_ (b6 3 a2) cX).toNat (⟨(⟨false,([]:List Int)⟩:bc),([]:List Int)⟩:dX):List dX) >>= fun bm =>
 match bm with
 | .inl fD=>(some (fD,true))
 | .inr fD=>(some (([]:List dX),false))
 else none
theorem Va {cX:List (Option bq)}:bQ (zj cX) (fun r=>Con bo 29 [.isl 1 (cX.map (b6 3 a2))] [] (.cW [.isl 3 (r.1.map fm),.b r.2]) []):=by
 unfold zj
 exact .bn fun o =>
  .az fun bm ab =>
  (let bl:=len_ (b6 3 a2) cX;let aW:=(List.replicate bl.toNat (⟨(⟨false,([]:List Int)⟩:bc),([]:List Int)⟩:dX):List dX);let t1:List cw:=[(ad 2),.aH (bH 2 (.cB [.b false,.isl 1 (([]:List Int).map J),.isl 1 (([]:List Int).map J)]) 1),(ad 3),.bj [4] [.dw (av 3 fm aW)] [(4,fQ (aW.length)),(10,ii),(11,ii),(12,ii)]];
  have a6:=((.e2 o.1 (Int.le_refl bl) o.2.1 o.2.2 (d4 3 .live (kp fm bl.toNat (⟨(⟨false,([]:List Int)⟩:bc),([]:List Int)⟩:dX))) (aE 3 .live CR aW) (kB bl.toNat ((⟨(⟨false,([]:List Int)⟩:bc),([]:List Int)⟩:dX):dX))):cL _);
  (by
  rcases bm with fD|fD
  ·exact (.ret (bP (t1.append [(G7 cX (len_ (b6 3 a2) cX) (.inl fD)).fW,(ad 3)]) (a6.aZ (.c8 (Mo ab) (ia fm fD) (ht fm fD) (eF CR fD))) (.comp [.b9 (.e5 (fD.map fm)),.b9 .id])))
  ·exact (.ret (bP (t1.append [.sub (.ret) [(2,.d7),(3,.b false)] []]) (a6.aZ (.ax (Mo ab))) (.comp [.b9 (.iv 3),.b9 .id])))))
def tF (aL:cz)(dS:List Int):Option ((List dX)×Bool) :=
 wU aL dS >>= fun ak =>
 if ak=true then
  vD aL dS 0 0 >>= fun aX =>
  tw aL aX.1 aX.2.1 aX.2.2.1 aX.2.2.2.1 aX.2.2.2.2 >>= fun cj =>
  if cj.2.2=true then
   zj cj.1 >>= fun bi =>
   some (bi.1,bi.2)
  else
   some (([]:List dX),false)
 else
  some (([]:List dX),false)
theorem Md {aL:cz}{dS:List Int}:bQ (tF aL dS) (fun r=>Con bo 7 [.agg (f9 aL),.isl 1 (dS.map J)] [] (.cW [.isl 3 (r.1.map fm),.b r.2]) []):=by
 unfold tF
 exact .az fun ak R =>
  (let t1:List cw:=[(ad 3),.aH (bH 2 (bT 2 (.b ak) true) 1)];
  have a6:=((.aC (MN ak R) (cp.b ak)):cL _);
  .ite (fun ab =>
  .az fun aX aF =>
  .az fun cj bU =>
  (let aW:=fg 1 aD aX.2.2.2.1;let bl:=fg 1 aD aX.2.2.2.2;let cc:=fg 1 aD aX.2.2.1;let t3:List cw:=t1.append [.ao false,.im 0,.aH (ap 1 (ar (.call {aM:=[],cu:=[],ac:=[.bF (.ptr [.id,.id]),ii,ii,ii],r:= .agg (gp aX.1 aX.2.1 0 0 0 aX.2.2.1.length 0 1 0 aX.2.2.2.1.length 0 2 0 aX.2.2.2.2.length),db:=[[aq.mk 1 (aX.2.2.1.map J) .live,aq.mk 1 (aX.2.2.2.1.map J) .live,aq.mk 1 (aX.2.2.2.2.map J) .live]],eo:= .bF (.agg [.id,.id,.id,.id,.id]),e4:=[.bM [aq.mk 1 (aX.2.2.1.map J) .live,aq.mk 1 (aX.2.2.2.1.map J) .live,aq.mk 1 (aX.2.2.2.2.map J) .live]],dd:=[0],c9:=true}) (ar (.call {aM:=[.ag 8 0 (aq.mk 1 (aX.2.2.1.map J) .live),.ag 8 1 (aq.mk 1 (aX.2.2.2.1.map J) .live),.ag 8 2 (aq.mk 1 (aX.2.2.2.2.map J) .live)],cu:=[.pure,.pure,.pure],ac:=[.bF (.ptr [.id,.id]),.bF (.agg [.id,.id,.at_ 0 0 aX.2.2.1.length,.at_ 1 0 aX.2.2.2.1.length,.at_ 2 0 aX.2.2.2.2.length])],r:= .cW [.isl 1 (cj.1.map (b6 3 a2)),.isl 1 (cj.2.1.map (b6 3 a2)),.b cj.2.2],db:=[(av 1 J aX.2.2.1),(av 1 J aX.2.2.2.1),(av 1 J aX.2.2.2.2)],eo:=ii,e4:=[.pure,.pure,.pure],dd:=[0,8],c9:=false}) (ap 7 [])))),(ad 2)];
  have fa:=a6.aZ (.bt (dc ab) (k9 (pG aL):hc [(f9 aL)]) (kr (qi (n1 [8]) 1 r7 aX.2.2.1) (kr (qi (n1 [8]) 1 r7 aX.2.2.2.1) (kr (qi (n1 [8]) 1 r7 aX.2.2.2.2) (rW (b8:=(n1 [8])))))) ((sK rfl (sK rfl (sK rfl OL))):ph [aq.mk 1 (aX.2.2.1.map J) .live,aq.mk 1 (aX.2.2.2.1.map J) .live,aq.mk 1 (aX.2.2.2.2.map J) .live]) (SI aX aF) (cp.agg (l3 (cp.n .i64 aX.1) (l3 (cp.n .i64 aX.2.1) (l3 (cp.bw 0 0 0 aX.2.2.1.length) (l3 (cp.bw 0 1 0 aX.2.2.2.1.length) (l3 (cp.bw 0 2 0 aX.2.2.2.2.length) sQ)))))) ((t8 (rP (rf r6) (rP (rf r6) (rP (rf r6) ug))) uf):p5 [[aq.mk 1 (aX.2.2.1.map J) .live,aq.mk 1 (aX.2.2.2.1.map J) .live,aq.mk 1 (aX.2.2.2.2.map J) .live]]) (by decide:0≠1) (.bt (by decide:0≠2) (by decide:1≠2) (k9 (pG aL):hc [(f9 aL)]) (rfl:k0 [.ag 8 0 (aq.mk 1 (aX.2.2.1.map J) .live),.ag 8 1 (aq.mk 1 (aX.2.2.2.1.map J) .live),.ag 8 2 (aq.mk 1 (aX.2.2.2.2.map J) .live)] 0 0=some (8,0)) (rfl:aX.2.2.1.length=aX.2.2.1.length) (rfl:k0 [.ag 8 0 (aq.mk 1 (aX.2.2.1.map J) .live),.ag 8 1 (aq.mk 1 (aX.2.2.2.1.map J) .live),.ag 8 2 (aq.mk 1 (aX.2.2.2.2.map J) .live)] 1 0=some (8,1)) (rfl:aX.2.2.2.1.length=aX.2.2.2.1.length) (rfl:k0 [.ag 8 0 (aq.mk 1 (aX.2.2.1.map J) .live),.ag 8 1 (aq.mk 1 (aX.2.2.2.1.map J) .live),.ag 8 2 (aq.mk 1 (aX.2.2.2.2.map J) .live)] 2 0=some (8,2)) (.bt (rfl:aX.2.2.2.2.length=aX.2.2.2.2.length) (rfl:c7 (some [aq.mk 1 (aX.2.2.1.map J) .live,aq.mk 1 (aX.2.2.2.1.map J) .live,aq.mk 1 (aX.2.2.2.2.map J) .live]) 0=some (aq.mk 1 (aX.2.2.1.map J) .live)) cc (rfl:c7 (some [aq.mk 1 (aX.2.2.1.map J) .live,aq.mk 1 (aX.2.2.2.1.map J) .live,aq.mk 1 (aX.2.2.2.2.map J) .live]) 1=some (aq.mk 1 (aX.2.2.2.1.map J) .live)) aW (rfl:c7 (some [aq.mk 1 (aX.2.2.1.map J) .live,aq.mk 1 (aX.2.2.2.1.map J) .live,aq.mk 1 (aX.2.2.2.2.map J) .live]) 2=some (aq.mk 1 (aX.2.2.2.2.map J) .live)) bl cc (.bZ aW bl (Tc cj bU)))));
  .ite (fun bx =>
  .az fun bi dO =>
  .ret (bP (t3.append [.ao false,.aH (bH 1 (bT 1 (.cW [.isl 3 (bi.1.map fm),.b bi.2]) false) 4)]) (fa.aZ (.aC (dc bx) (Va bi dO)))))
  (fun bx =>
  .ret (bP (t3.append [.ao true,(ad 2)]) (fa.aZ (.ax (df bx))) (.comp [.b9 (.iv 3),.b9 .id])))))
  (fun ab =>
  .ret (bP (t1.append [.ao true,(ad 2)]) (a6.aZ (.ax (df ab))) (.comp [.b9 (.iv 3),.b9 .id]))))
def zb (a0:Int):Option Bool :=
 if (decide (a0<(0:Int)))=true then
  some true
 else
  some (decide ((1000000000:Int)≤a0))
theorem UZ {a0:Int}:bQ (zb a0) (fun r=>Con bo 109 [.n .i64 a0] [] (.b r) []):=by
 unfold zb
 exact .ite (fun o =>
  .ret (bP [(ad 1),.aH (ap 3 (dk 2 (ar (.ao true) (ap 1 []))))] (.bZ o o o)))
  (fun o =>
  .ret (bP [(ad 1),.aH (bH 5 (.ao false) 1)] (.bZ o o o)))
def Ff (aL:List Int)(dz:Int):Int→S:=fun dE=>eD [(0,.isl 1 (aL.map J)),(1,.fn 109 []),(7,.n .i64 dz),(8,.n .i64 dE)] []
def LL (aL:List Int)(dz:Int):((Unit)⊕(Int))→eJ
 | .inl a=>⟨some 0,[],[]⟩
 | .inr a=>⟨none,[(4,.n .i64 a)],[]⟩
def vz (aL:List Int)(dz dE:Int):Option ((Int)⊕((Unit)⊕(Int))) :=
 if (decide (dE<dz))=true then
  if 0≤dE∧dE<aL.length then
  aL[dE.toNat]? >>= fun aU =>
  zb aU >>= fun bh =>
  if bh=true then
   some (.inr (.inr dE))
  else
   some (.inl (U (dE+(1:Int))))
  else none
 else
  some (.inr (.inl ()))
def FG (aL:List Int)(dz dE:Int):Option ((Unit)⊕(Int)):=iter (fun w:Int=>vz aL dz w) dE
theorem Sx {aL:List Int}{dz dE:Int}:bQ (vz aL dz dE) (fj bo 19 0 80 [1,0,1,0,0] (Ff aL dz dE) (Ff aL dz) (LL aL dz)):=by
 unfold vz
 exact .ite (fun o =>
  .bn fun R =>
  .az fun aU aA =>
  .az fun bh br =>
  (let t1:List cw:=[(ad 1),.ao true,(ad 2),.aH (ap 4 (ar (.cB (J aU)) (ar (bT 1 (.b bh) true) [])))];
  have a6:=((.fb o R.1 (eE J R.2) (cD J aA) (UZ bh br) (cp.b bh)):cL _);
  .ite (fun bU =>
  .ret (bS (t1.append [.ao true,(ad 2),.bj [] [] (bR [4])]) (a6.aZ (.ax bU))))
  (fun bU =>
  .ret (bS (t1.append [.ao false,(ad 2),.bj [] [] (bR [0,1,7,8])]) (a6.aZ (.ax bU))))))
  (fun o =>
  .ret (bS [(ad 1),.ao false,.bj [] [] []] (.ax o)))
theorem LM {aL:List Int}{dz dE:Int}{r} (h:FG aL dz dE=some r):fk bo 19 0 80 [1,0,1,0,0] (Ff aL dz) (LL aL dz) dE r:=fl (fun _=>Sx) h
def BO (aL:List Int):Option Int :=
 FG aL (len_ J aL) 0 >>= fun ak =>
 match ak with
 | .inl bs=>(some (-1))
 | .inr bs=>(some bs)
theorem S2 {aL:List Int}:bQ (BO aL) (fun r=>Con bo 80 [.isl 1 (aL.map J),.fn 109 []] [] (.n .i64 r) []):=by
 unfold BO
 exact .az fun ak R =>
  (let t1:List cw:=[(ad 1),(ad 3),.bj [] [] (bR [0,1,7,8])];
  (by
  rcases ak with bs|bs
  ·exact (.ret (bP (t1.append [.sub (.exit 0) [] [],(ad 1)]) (.ax (LM R))))
  ·exact (.ret (bP (t1.append [.sub (.ret) [(4,.n .i64 bs)] []]) (.ax (LM R))))))
def vL (aL:List Int):Option Bool :=
 BO aL >>= fun ak =>
 some (decide ((0:Int)≤ak))
theorem LN {aL:List Int}:bQ (vL aL) (fun r=>Con bo 48 [.isl 1 (aL.map J),.fn 109 []] [] (.b r) []):=by
 unfold vL
 exact .az fun ak R =>
  .ret (bP [(ad 1),.aH (bH 2 (bT 2 (.n .i64 ak) true) 2)] (.aC (S2 ak R) (cp.n .i64 ak)))
def tU (ba:List Int):Option Bool :=
 if (decide ((60:Int)<(len_ J ba)))=true then
  some false
 else
  if (decide ((0:Int)<(len_ J ba)))=true then
   if 0≤(U ((len_ J ba)-(1:Int)))∧(U ((len_ J ba)-(1:Int)))<ba.length then
   ba[(U ((len_ J ba)-(1:Int))).toNat]? >>= fun fO =>
   if (fO == (0:Int))=true then
    some false
   else
    vL ba >>= fun bK =>
    some (!bK)
   else none
  else
   vL ba >>= fun bk =>
   some (!bk)
theorem M0 {ba:List Int}:bQ (tU ba) (fun r=>Con bo 92 [.isl 1 (ba.map J)] [] (.b r) []):=by
 unfold tU
 exact .ite (fun o =>
  .ret (bP [(ad 1),.aH (ap 4 (dk 4 (ap 7 (dk 1 (ar (.ao true) []))))),.ao true,(ad 1)] (.e2 o o o o o o ca)))
  (fun o =>
  .ite (fun R =>
  .bn fun ab =>
  .az fun fO aF =>
  (let t1:List cw:=[(ad 1),.aH (ap 13 (ar (.cB (J fO)) (ap 1 (ar (.ao true) (ar (.ao false) [])))))];
  have a6:=((.bt o o o o R R R R (.bt R ab.1 (eE J ab.2) R (cD J aF) R o R (.ax o))):cL _);
  .ite (fun br =>
  .ret (bP (t1.append [.ao true,(ad 1)]) (a6.aZ (.ax br))))
  (fun br =>
  .az fun bK bx =>
  .ret (bP (t1.append [.ao false,.aH (bH 1 (bT 2 (.b bK) true) 2)]) (a6.aZ (.bZ br (LN bK bx) (cp.b bK)))))))
  (fun R =>
  .az fun bk aA =>
  .ret (bP [(ad 1),.aH (ap 8 (dk 7 (ar (.ao false) (ar (.ao false) [])))),.ao false,.aH (bH 1 (bT 2 (.b bk) true) 2)] (.bt o o o o R R R R (.bt R R R o R o gC (LN bk aA) (.ax (cp.b bk)))))))
def y3 (b2:bc):Option Bool :=
 tU b2.cK >>= fun ak =>
 if ak=true then
  if b2.c6=true then
   some (!((len_ J b2.cK) == (0:Int)))
  else
   some true
 else
  some false
theorem UK {b2:bc}:bQ (y3 b2) (fun r=>Con bo 91 [.agg (aQ b2)] [] (.b r) []):=by
 unfold y3
 exact .az fun ak R =>
  (have b3:=((.aC (M0 ak R) (cp.b ak)):cL _);
  .ite (fun ab =>
  .ite (fun aA =>
  .ret (bP [(ad 2),.aH (ap 2 (ar (bT 1 (.b ak) true) (ap 8 (ar (.ao true) (bH 1 (.ao true) 1)))))] (b3.aZ (.bt ab ab ab aA aA aA aA ab (.bZ aA ab ab)))))
  (fun aA =>
  .ret (bP [(ad 2),.aH (ap 2 (ar (bT 1 (.b ak) true) (ap 4 (dk 4 (ar (.ao false) (bH 1 (.ao true) 1))))))] (b3.aZ (.bt ab ab ab aA aA aA aA ab (.bZ aA ab ab))))))
  (fun ab =>
  .ret (bP [(ad 2),.aH (ap 2 (ar (bT 1 (.b ak) true) (ap 1 (dk 3 (ap 4 (dk 2 (ar (.ao false) (ap 1 []))))))))] (b3.aZ (.fb ab ab ab ab ab ab)))))
def w5 (de:dX):Option Bool :=
 y3 de.mM >>= fun ak =>
 if ak=true then
  tU de.jJ >>= fun aX =>
  if aX=true then
   if ((len_ J de.jJ) == (0:Int))=true then
    some false
   else
    if (decide ((24:Int)<(len_ J de.mM.cK)))=true then
     some false
    else
     if (decide ((24:Int)<(len_ J de.jJ)))=true then
      some false
     else
      wT de.mM.cK de.jJ >>= fun en =>
      o8 en ([1]:List Int) >>= fun gW =>
      some (gW == (0:Int))
  else
   some false
 else
  some false
theorem Vi {de:dX}:bQ (w5 de) (fun r=>Con bo 65 [.agg (fm de)] [] (.b r) []):=by
 unfold w5
 exact .az fun ak R =>
  (have b3:=((.aC (UK ak R) (cp.b ak)):cL _);
  .ite (fun ab =>
  .az fun aX aF =>
  (have a6:=b3.aZ (.e2 (dc ab) (dc ab) (dc ab) (M0 aX aF) (cp.b aX) (dc ab) (dc ab));
  .ite (fun br =>
  (have fX:=a6.aZ (.ep (dc br) (dc br) (dc br) (dc br) (dc br));
  .ite (fun bU =>
  .ret (bP [(ad 2),.aH (ap 2 (ar (bT 1 (.b ak) true) (ap 4 (ar (bT 1 (.b aX) true) (ap 1 (ar (.ao false) (ap 5 (ar (.ao false) (ap 1 (dk 5 (ar (.ao true) (ap 1 (dk 4 (ap 1 [])))))))))))))),.ao true,(ad 1)] (fX.aZ (.bt bU bU bU bU bU bU ca ca (.bZ ca ca ca)))))
  (fun bU =>
  .ite (fun bx =>
  .ret (bP [(ad 2),.aH (ap 2 (ar (bT 1 (.b ak) true) (ap 4 (ar (bT 1 (.b aX) true) (ap 1 (ar (.ao false) (ap 5 (ar (.ao false) (ap 6 (ar (.ao false) (ap 1 (dk 4 (ar (.ao true) []))))))))))))),.ao true,(ad 1)] (fX.aZ (.bt bU bU bU bU bU bU bx bx (.c8 bx bx bx ca)))))
  (fun bx =>
  (let t4:List cw:=[(ad 2),.aH (ap 2 (ar (bT 1 (.b ak) true) (ap 4 (ar (bT 1 (.b aX) true) (ap 1 (ar (.ao false) (ap 5 (ar (.ao false) (ap 6 (ar (.ao false) (ap 5 (ar (.ao false) []))))))))))))];
  have sA:=fX.aZ (.bt bU bU bU bU bU bU bx bx (.bZ bx bx bx));
  .ite (fun c2 =>
  .ret (bP (t4.append [.ao true,(ad 1)]) (sA.aZ (.ax c2))))
  (fun c2 =>
  .az fun en d2 =>
  .az fun gW fo =>
  .ret (bP (t4.append [.ao false,.aH (ap 5 (ar (bT 2 (.isl 1 (en.map J)) false) (bH 1 (.call {ac:=[ii,.bF (.b9 (.e5 (([1]:List Int).map J)))],r:= .n .i64 gW,c9:=true,dd:=[37]}) 2)))]) (sA.aZ (.e2 c2 (MK en d2) (lL (show [[.n .i64 (1:Int)]]=(([1]:List Int)).map J from rfl) (show 1=([1]:List Int).length from rfl)) (k6 J 1) (eF aD ([1]:List Int)) (wF gW fo) (cp.n .i64 gW))))))))))
  (fun br =>
  .ret (bP [(ad 2),.aH (ap 2 (ar (bT 1 (.b ak) true) (ap 4 (ar (bT 1 (.b aX) true) (ap 1 (ar (.ao false) (ap 1 (dk 4 (ar (.ao true) (ap 1 (dk 5 (ap 2 (dk 4 (ap 1 [])))))))))))))),.ao true,(ad 1)] (a6.aZ (.bt (df br) (df br) (df br) (df br) (df br) ca ca ca (.e2 ca ca ca ca ca ca ca)))))))
  (fun ab =>
  .ret (bP [(ad 2),.aH (ap 2 (ar (bT 1 (.b ak) true) (ap 2 (dk 4 (ar (.ao true) (ap 1 (dk 4 (ap 2 (dk 5 (ap 2 (dk 4 (ap 1 [])))))))))))),.ao true,(ad 1)] (b3.aZ (.bt (df ab) (df ab) (df ab) (df ab) (df ab) ca ca ca (.bt ca ca ca ca ca ca ca ca (.bZ ca ca ca)))))))
def tW (de:dX):Option (Option bq) :=
 w5 de >>= fun ak =>
 if ak=true then
  some (some (⟨de.mM,de.jJ⟩:bq))
 else
  some (none:(Option bq))
theorem zc {de:dX}:bQ (tW de) (fun r=>Con bo 38 [.agg (fm de)] [] (ek 3 a2 r) []):=by
 unfold tW
 exact .az fun ak R =>
  (let t1:List cw:=[(ad 2),.aH (bH 1 (bT 1 (.b ak) true) 1)];
  have a6:=((.aC (Vi ak R) (cp.b ak)):cL _);
  .ite (fun ab =>
  .ret (bP (t1.append [.ao false,(ad 7)]) (a6.aZ (.aC (dc ab) (k9 (jd (⟨de.mM,de.jJ⟩:bq)):hc [(fm de)]))) (.bF (.r9 [.id,.id,.id]))))
  (fun ab =>
  .ret (bP (t1.append [.ao true,(ad 1)]) (a6.aZ (.ax (df ab))) (.bF (.b9 (.o1 3))))))
def G8 (ea:List dX)(dG:Int):(Int×(List (Option bq)))→S:=fun (dH,aj)=>eD [(4,.bw 0 0 0 aj.length),(10,.isl 3 (ea.map fm)),(11,.n .i64 dG),(12,.n .i64 dH)] [(av 1 (b6 3 a2) aj)]
def Hm (ea:List dX)(dG:Int):(((List (Option bq)))⊕(Unit))→eJ
 | .inl a=>⟨some 0,[(4,.bw 0 0 0 a.length)],[(av 1 (b6 3 a2) a)]⟩
 | .inr a=>⟨none,[(2,.d7),(3,.b false)],[]⟩
def wv (ea:List dX)(dG dH:Int)(aj:List (Option bq)):Option ((Int×(List (Option bq)))⊕(((List (Option bq)))⊕(Unit))) :=
 if (decide (dH<dG))=true then
  if 0≤dH∧dH<ea.length then
  ea[dH.toNat]? >>= fun aU =>
  tW aU >>= fun bh =>
  if 0≤dH∧dH<(aj.length:Nat) then
  if (0+dH.toNat)<aj.length then
  (aj.set (0+dH.toNat) bh)[(0+dH.toNat)]? >>= fun gK =>
  gK.elim
  (some (.inr (.inr ())))
  fun Rv =>
  some (.inl (U (dH+(1:Int)),aj.set (0+dH.toNat) bh))
  else none
  else none
  else none
 else
  some (.inr (.inl aj))
def HQ (ea:List dX)(dG dH:Int)(aj:List (Option bq)):Option (((List (Option bq)))⊕(Unit)):=iter (fun w:Int×(List (Option bq))=>wv ea dG w.1 w.2) (dH,aj)
theorem TT {ea:List dX}{dG dH:Int}{aj:List (Option bq)}:bQ (wv ea dG dH aj) (fj bo 29 0 62 [1,1,0,1,0,0] (G8 ea dG (dH,aj)) (G8 ea dG) (Hm ea dG)):=by
 unfold wv
 exact .ite (fun o =>
  .bn fun R =>
  .az fun aU aA =>
  .az fun bh br =>
  .bn fun bU =>
  .bn fun bx =>
  .az fun gK dO =>
  (let t1:List cw:=[(ad 1),.ao true,.aH (bH 2 (.cB (fm aU)) 3),.aH (ap 3 (ar (bT 1 (ek 3 a2 bh) false) (ap 1 (ar .cT []))))];
  have a6:=((.bt o R.1 (eE fm R.2) (cD fm aA) (zc bh br) bU.1 bU.2 (hb (b6 3 a2) bx) (.c8 (gB 1) bU.1 bU.2 (zJ (fs (dF (b6 3 a2) aj) (0+dH.toNat) bh) dO))):cL _);
  .mn (fun d2 =>
  .ret (bS (t1.append [.aH (ap 3 (ar (.cB ((b6 3 a2) gK)) (ar (.eM 25 (.eb 3 none) .cT) []))),.ao true,(ad 2),.bj [] [] (bR [2,3])]) (a6.aZ (.aC (oC (sz:=3) (f:=a2) d2) ca))))
  (fun Rv d2 =>
  .ret (bS (t1.append [.aH (ap 3 (ar (.cB ((b6 3 a2) gK)) (ar (.eM 25 (.eb 3 (some (a2 Rv))) .cT) []))),.ao false,(ad 2),.bj [0] [.dw (av 1 (b6 3 a2) (aj.set (0+dH.toNat) bh))] [(4,fQ ((aj.set (0+dH.toNat) bh).length)),(10,ii),(11,ii),(12,ii)]]) (a6.aZ (.ep (hz (sz:=3) (f:=a2) d2) gC (d4 1 .live (fs (dF (b6 3 a2) aj) (0+dH.toNat) bh)) (aE 1 .live (kq (sz:=3) jd) (aj.set (0+dH.toNat) bh)) (gP (fq aj) (0+dH.toNat) bh)))))))
  (fun o =>
  .ret (bS [(ad 1),.ao false,.bj [0] [.pure] (bR [4])] (.aC o (aE 1 .live (kq (sz:=3) jd) aj))))
theorem Mw {ea:List dX}{dG dH:Int}{aj:List (Option bq)}{r} (h:HQ ea dG dH aj=some r):fk bo 29 0 62 [1,1,0,1,0,0] (G8 ea dG) (Hm ea dG) (dH,aj) r:=fl (fun _=>TT) h
def zr (cX:List dX):Option ((List (Option bq))×Bool) :=
 if 0≤(len_ fm cX)∧(8:Int)*(len_ fm cX)≤281474976710656∧(len_ fm cX)<9223372036854775808 then
 HQ cX (len_ fm cX) 0 (List.replicate (len_ fm cX).toNat (none:(Option bq)):List (Option bq)) >>= fun bm =>
 match bm with
 | .inl fD=>(some (fD,true))
 | .inr fD=>(some (([]:List (Option bq)),false))
 else none
theorem Vj {cX:List dX}:bQ (zr cX) (fun r=>Con bo 62 [.isl 3 (cX.map fm)] [] (.cW [.isl 1 (r.1.map (b6 3 a2)),.b r.2]) []):=by
 unfold zr
 exact .bn fun o =>
  .az fun bm ab =>
  (let aW:=(List.replicate (len_ fm cX).toNat (none:(Option bq)):List (Option bq));let t1:List cw:=[(ad 2),.aH (bH 2 (.cB [(ek 3 a2 (none:(Option bq)))]) 1),(ad 3),.bj [4] [.dw (av 1 (b6 3 a2) aW)] [(4,fQ (aW.length)),(10,ii),(11,ii),(12,ii)]];
  have a6:=((.e2 o.1 (Int.le_refl (len_ fm cX)) o.2.1 o.2.2 (d4 1 .live (kp (b6 3 a2) (len_ fm cX).toNat (none:(Option bq)))) (aE 1 .live (kq (sz:=3) jd) aW) (kB (len_ fm cX).toNat ((none:(Option bq)):(Option bq)))):cL _);
  (by
  rcases bm with fD|fD
  ·exact (.ret (bP (t1.append [(Hm cX (len_ fm cX) (.inl fD)).fW,(ad 3)]) (a6.aZ (.c8 (Mw ab) (ia (b6 3 a2) fD) (ht (b6 3 a2) fD) (eF (kq (sz:=3) jd) fD))) (.comp [.b9 (.e5 (fD.map (b6 3 a2))),.b9 .id])))
  ·exact (.ret (bP (t1.append [.sub (.ret) [(2,.d7),(3,.b false)] []]) (a6.aZ (.ax (Mw ab))) (.comp [.b9 (.iv 1),.b9 .id])))))
def wM (aL:cz)(eg:List dX):Option ((List (Option bq))×Bool) :=
 if ((len_ fm eg) != (len_ d5 aL.bB))=true then
  some (([]:List (Option bq)),false)
 else
  q3 aL >>= fun bm =>
  if bm=true then
   zr eg >>= fun bh =>
   some (bh.1,bh.2)
  else
   some (([]:List (Option bq)),false)
theorem Hn {aL:cz}{eg:List dX}:bQ (wM aL eg) (fun r=>Con bo 35 [.ey 2 [(f9 aL)] 0 0,.isl 3 (eg.map fm)] [] (.cW [.isl 1 (r.1.map (b6 3 a2)),.b r.2]) []):=by
 unfold wM
 exact .ite (fun o =>
  .ret (bP [(ad 2),.aH (ap 9 (dk 5 (ar (.ao true) []))),.ao true,(ad 2)] (.e2 o o o o o o ca) (.comp [.b9 (.iv 1),.b9 .id])))
  (fun o =>
  .az fun bm ab =>
  (let t1:List cw:=[(ad 2),.aH (ap 12 (ar (bT 1 (.b bm) true) (ap 1 (ar (.ao false) []))))];
  have a6:=((.hh o o o o (B2 bm ab) (cp.b bm) o o):cL _);
  .ite (fun aA =>
  .az fun bh br =>
  .ret (bP (t1.append [.ao false,.aH (bH 1 (bT 1 (.cW [.isl 1 (bh.1.map (b6 3 a2)),.b bh.2]) false) 4)]) (a6.aZ (.aC (dc aA) (Vj bh br)))))
  (fun aA =>
  .ret (bP (t1.append [.ao true,(ad 2)]) (a6.aZ (.ax (df aA))) (.comp [.b9 (.iv 1),.b9 .id])))))
def zA (ba a9:Option bq):Option (Option bq) :=
 ba.elim
 (some (none:(Option bq)))
 fun dQ =>
 a9.elim
 (some (none:(Option bq)))
 fun nw =>
 wB ba a9 >>= fun bh =>
 ua bh >>= fun bK =>
 some bK
theorem Nr {ba a9:Option bq}:bQ (zA ba a9) (fun r=>Con bo 64 [ek 3 a2 ba,ek 3 a2 a9] [] (ek 3 a2 r) []):=by
 unfold zA
 exact .mn (fun o =>
  .ret (bP [(ad 1),.aH (ap 1 (ar (.eM 5 (.eb 3 none) .cT) (ap 1 (dk 2 (ap 1 []))))),.ao true,(ad 1)] (.c8 (oC (sz:=3) (f:=a2) o) ca ca ca) (.bF (.b9 (.o1 3)))))
  (fun dQ o =>
  (have b3:=((.bZ (hz (sz:=3) (f:=a2) o) gC gC):cL _);
  .mn (fun ab =>
  .ret (bP [(ad 1),.aH (ap 1 (ar (.eM 5 (.eb 3 (some (a2 dQ))) .cT) (bH 2 (.eM 8 (.eb 3 none) .cT) 1))),.ao true,(ad 1)] (b3.aZ (.aC (oC (sz:=3) (f:=a2) ab) ca)) (.bF (.b9 (.o1 3)))))
  (fun nw ab =>
  .az fun bh br =>
  .az fun bK bx =>
  .ret (bP [(ad 1),.aH (ap 1 (ar (.eM 5 (.eb 3 (some (a2 dQ))) .cT) (bH 2 (.eM 8 (.eb 3 (some (a2 nw))) .cT) 1))),.ao false,.aH (ap 2 (ar (bT 2 (ek 3 a2 bh) false) (ar (bT 1 (ek 3 a2 bK) false) (ap 1 []))))] (b3.aZ (.c8 (hz (sz:=3) (f:=a2) ab) gC (Mc bh br) (Np bK bx)))))))
def vN (aL:cz)(eg:List (Option bq))(cl:Int):Option (Option bq) :=
 sD aL cl >>= fun ak =>
 if 0≤cl∧cl<eg.length then
 eg[cl.toNat]? >>= fun fO =>
 zA fO fO >>= fun cj =>
 nB (U ((U (ak.1*ak.1))+(U (ak.2*ak.2)))) >>= fun eQ =>
 zA cj eQ >>= fun en =>
 some en
 else none
theorem LR {aL:cz}{eg:List (Option bq)}{cl:Int}:bQ (vN aL eg cl) (fun r=>Con bo 37 [.ey 2 [(f9 aL)] 0 0,.isl 1 (eg.map (b6 3 a2)),.n .i64 cl] [] (ek 3 a2 r) []):=by
 unfold vN
 exact .az fun ak R =>
  .bn fun ab =>
  .az fun fO aF =>
  .az fun cj bU =>
  .az fun eQ c2 =>
  .az fun en d2 =>
  .ret (bP [(ad 1),.aH (bH 2 (bT 2 (.cW [.n .i64 ak.1,.n .i64 ak.2]) true) 5),.aH (ap 3 (ar (.cB ((b6 3 a2) fO)) (ap 3 (ar (.cB ((b6 3 a2) fO)) (ar (bT 2 (ek 3 a2 cj) false) (ap 7 (ar (bT 1 (ek 3 a2 eQ) false) (ar (bT 2 (ek 3 a2 en) false) (ap 1 [])))))))))] (.bt (LV ak R) (uq (l3 (cp.n .i64 ak.1) (l3 (cp.n .i64 ak.2) sQ))) ab.1 (eE (b6 3 a2) ab.2) (cD (b6 3 a2) aF) ab.1 (eE (b6 3 a2) ab.2) (cD (b6 3 a2) aF) (.bZ (Nr cj bU) (q8 eQ c2) (Nr en d2))))
def FM (ex:List bA)(dU:List b4)(iA:List (Option bq))(fh:Int):(Int×(List (Option bq)))→S:=fun (gm,aj)=>eD [(0,.ey 2 [[.isl 4 (ex.map dK),.isl 3 (dU.map d5)]] 0 0),(6,.isl 1 (iA.map (b6 3 a2))),(8,.bw 0 0 0 aj.length),(22,.n .i64 fh),(23,.n .i64 gm)] [(av 1 (b6 3 a2) aj)]
def LX (ex:List bA)(dU:List b4)(iA:List (Option bq))(fh:Int):(((List (Option bq)))⊕(Unit))→eJ
 | .inl a=>⟨some 0,[(8,.bw 0 0 0 a.length)],[(av 1 (b6 3 a2) a)]⟩
 | .inr a=>⟨none,[(4,.d7),(5,.b false)],[]⟩
def vQ (ex:List bA)(dU:List b4)(iA:List (Option bq))(fh gm:Int)(aj:List (Option bq)):Option ((Int×(List (Option bq)))⊕(((List (Option bq)))⊕(Unit))) :=
 if (decide (gm<fh))=true then
  vN (⟨ex,dU⟩:cz) iA gm >>= fun bm =>
  if 0≤gm∧gm<(aj.length:Nat) then
  if (0+gm.toNat)<aj.length then
  (aj.set (0+gm.toNat) bm)[(0+gm.toNat)]? >>= fun cd =>
  cd.elim
  (some (.inr (.inr ())))
  fun tm =>
  some (.inl (U (gm+(1:Int)),aj.set (0+gm.toNat) bm))
  else none
  else none
 else
  some (.inr (.inl aj))
def GA (ex:List bA)(dU:List b4)(iA:List (Option bq))(fh gm:Int)(aj:List (Option bq)):Option (((List (Option bq)))⊕(Unit)):=iter (fun w:Int×(List (Option bq))=>vQ ex dU iA fh w.1 w.2) (gm,aj)
theorem SZ {ex:List bA}{dU:List b4}{iA:List (Option bq)}{fh gm:Int}{aj:List (Option bq)}:bQ (vQ ex dU iA fh gm aj) (fj bo 40 0 33 [1,1,1,1,0,1,0,0] (FM ex dU iA fh (gm,aj)) (FM ex dU iA fh) (LX ex dU iA fh)):=by
 unfold vQ
 exact .ite (fun o =>
  .az fun bm ab =>
  .bn fun aA =>
  .bn fun aF =>
  .az fun cd bU =>
  (let t1:List cw:=[(ad 1),.ao true,(ad 2),.aH (ap 5 (ar (bT 3 (ek 3 a2 bm) false) (ap 1 (ar .cT []))))];
  have a6:=((.bt o (LR bm ab) aA.1 aA.2 (hb (b6 3 a2) aF) (gB 1) aA.1 aA.2 (.ax (zJ (fs (dF (b6 3 a2) aj) (0+gm.toNat) bm) bU))):cL _);
  .mn (fun bx =>
  .ret (bS (t1.append [.aH (ap 3 (ar (.cB ((b6 3 a2) cd)) (ar (.eM 36 (.eb 3 none) .cT) []))),.ao true,(ad 2),.bj [] [] (bR [4,5])]) (a6.aZ (.aC (oC (sz:=3) (f:=a2) bx) ca))))
  (fun tm bx =>
  .ret (bS (t1.append [.aH (ap 3 (ar (.cB ((b6 3 a2) cd)) (ar (.eM 36 (.eb 3 (some (a2 tm))) .cT) []))),.ao false,(ad 2),.bj [0] [.dw (av 1 (b6 3 a2) (aj.set (0+gm.toNat) bm))] [(0,ii),(6,ii),(8,fQ ((aj.set (0+gm.toNat) bm).length)),(22,ii),(23,ii)]]) (a6.aZ (.ep (hz (sz:=3) (f:=a2) bx) gC (d4 1 .live (fs (dF (b6 3 a2) aj) (0+gm.toNat) bm)) (aE 1 .live (kq (sz:=3) jd) (aj.set (0+gm.toNat) bm)) (gP (fq aj) (0+gm.toNat) bm)))))))
  (fun o =>
  .ret (bS [(ad 1),.ao false,.bj [0] [.pure] (bR [8])] (.aC o (aE 1 .live (kq (sz:=3) jd) aj))))
theorem LZ {ex:List bA}{dU:List b4}{iA:List (Option bq)}{fh gm:Int}{aj:List (Option bq)}{r} (h:GA ex dU iA fh gm aj=some r):fk bo 40 0 33 [1,1,1,1,0,1,0,0] (FM ex dU iA fh) (LX ex dU iA fh) (gm,aj) r:=fl (fun _=>SZ) h
def sF (aL:cz)(eg:List dX):Option ((List (Option bq))×Bool) :=
 wM aL eg >>= fun ak =>
 if ak.2=true then
  if 0≤(len_ (b6 3 a2) ak.1)∧(8:Int)*(len_ (b6 3 a2) ak.1)≤281474976710656∧(len_ (b6 3 a2) ak.1)<9223372036854775808 then
  GA aL.cR aL.bB ak.1 (len_ (b6 3 a2) ak.1) 0 (List.replicate (len_ (b6 3 a2) ak.1).toNat (none:(Option bq)):List (Option bq)) >>= fun bh =>
  match bh with
  | .inl lK=>(some (lK,true))
  | .inr lK=>(some (([]:List (Option bq)),false))
  else none
 else
  some (([]:List (Option bq)),false)
theorem B0 {aL:cz}{eg:List dX}:bQ (sF aL eg) (fun r=>Con bo 33 [.ey 2 [(f9 aL)] 0 0,.isl 3 (eg.map fm)] [] (.cW [.isl 1 (r.1.map (b6 3 a2)),.b r.2]) []):=by
 unfold sF
 exact .az fun ak R =>
  (let t1:List cw:=[(ad 2),.aH (bH 2 (bT 2 (.cW [.isl 1 (ak.1.map (b6 3 a2)),.b ak.2]) false) 5),(ad 2)];
  .ite (fun ab =>
  .bn fun aA =>
  .az fun bh br =>
  (let bl:=len_ (b6 3 a2) ak.1;let aW:=(List.replicate bl.toNat (none:(Option bq)):List (Option bq));let t2:List cw:=t1.append [.ao false,.aH (bH 2 (.cB [(ek 3 a2 (none:(Option bq)))]) 1),(ad 3),.bj [14] [.dw (av 1 (b6 3 a2) aW)] [(0,ii),(6,ii),(8,fQ (aW.length)),(22,ii),(23,ii)]];
  have fX:=((.bt (Hn ak R) (dc ab) aA.1 (Int.le_refl bl) aA.2.1 aA.2.2 (d4 1 .live (kp (b6 3 a2) bl.toNat (none:(Option bq)))) (aE 1 .live (kq (sz:=3) jd) aW) (.ax (kB bl.toNat ((none:(Option bq)):(Option bq))))):cL _);
  (by
  rcases bh with lK|lK
  ·exact (.ret (bP (t2.append [.sub (.exit 0) [(8,.bw 0 0 0 lK.length)] [(av 1 (b6 3 a2) lK)],(ad 3)]) (fX.aZ (.c8 (LZ br) (ia (b6 3 a2) lK) (ht (b6 3 a2) lK) (eF (kq (sz:=3) jd) lK))) (.comp [.b9 (.e5 (lK.map (b6 3 a2))),.b9 .id])))
  ·exact (.ret (bP (t2.append [.sub (.ret) [(4,.d7),(5,.b false)] []]) (fX.aZ (.ax (LZ br))) (.comp [.b9 (.iv 1),.b9 .id]))))))
  (fun ab =>
  .ret (bP (t1.append [.ao true,(ad 2)]) (.aC (Hn ak R) (df ab)) (.comp [.b9 (.iv 1),.b9 .id]))))
def q7 (b2 eH:Option bq):Option Int :=
 eH >>= fun eK =>
 pF b2 eK.mN >>= fun bk =>
 b2 >>= fun lu =>
 pF eH lu.mN >>= fun bK =>
 q2 bk bK >>= fun bi =>
 some bi
theorem yT {b2 eH:Option bq}:bQ (q7 b2 eH) (fun r=>Con bo 39 [ek 3 a2 b2,ek 3 a2 eH] [] (.n .i64 r) []):=by
 unfold q7
 exact .az fun eK R =>
  .az fun bk aA =>
  .az fun lu br =>
  .az fun bK bx =>
  .az fun bi dO =>
  .ret (bP [(ad 1),.aH (ap 2 (ar (.eM 6 (.eb 3 (some (a2 eK))) .cT) (ap 2 (ar (bT 2 (.agg (aQ bk)) false) (ap 2 (ar (.eM 12 (.eb 3 (some (a2 lu))) .cT) (ap 2 (ar (bT 2 (.agg (aQ bK)) false) (ar (bT 2 (.n .i64 bi) true) (ap 1 []))))))))))] (.fb (hz (sz:=3) (f:=a2) R) (BZ bk aA) (hz (sz:=3) (f:=a2) br) (BZ bK bx) (L2 bi dO) (cp.n .i64 bi)))
def GX (b2:Option bq):Int→S:=fun jm=>eD [(0,ek 3 a2 b2),(5,.n .i64 jm)] []
def G9 (b2:Option bq):((Unit)⊕(Int))→eJ
 | .inl a=>⟨some 0,[],[]⟩
 | .inr a=>⟨none,[(2,.n .i64 a),(3,.b true)],[]⟩
def wq (b2:Option bq)(jm:Int):Option ((Int)⊕((Unit)⊕(Int))) :=
 if (decide (jm<(1001:Int)))=true then
  nB (U (jm*jm)) >>= fun bm =>
  q7 bm b2 >>= fun aX =>
  if (decide ((0:Int)≤aX))=true then
   some (.inr (.inr jm))
  else
   some (.inl (U (jm+(1:Int))))
 else
  some (.inr (.inl ()))
def HJ (b2:Option bq)(jm:Int):Option ((Unit)⊕(Int)):=iter (fun w:Int=>wq b2 w) jm
theorem TN {b2:Option bq}{jm:Int}:bQ (wq b2 jm) (fj bo 17 0 34 [1,0,1,0,0] (GX b2 jm) (GX b2) (G9 b2)):=by
 unfold wq
 exact .ite (fun o =>
  .az fun bm ab =>
  .az fun aX aF =>
  (let t1:List cw:=[(ad 1),.ao true,(ad 2),.aH (ap 3 (ar (bT 1 (ek 3 a2 bm) false) (bH 1 (bT 2 (.n .i64 aX) true) 1)))];
  have a6:=((.c8 o (q8 bm ab) (yT aX aF) (cp.n .i64 aX)):cL _);
  .ite (fun br =>
  .ret (bS (t1.append [.ao true,(ad 3),.bj [] [] (bR [2,3])]) (a6.aZ (.ax br))))
  (fun br =>
  .ret (bS (t1.append [.ao false,(ad 2),.bj [] [] (bR [0,5])]) (a6.aZ (.ax br))))))
  (fun o =>
  .ret (bS [(ad 1),.ao false,.bj [] [] []] (.ax o)))
theorem Mp {b2:Option bq}{jm:Int}{r} (h:HJ b2 jm=some r):fk bo 17 0 34 [1,0,1,0,0] (GX b2) (G9 b2) jm r:=fl (fun _=>TN) h
def wW (b2:Option bq):Option (Int×Bool) :=
 HJ b2 0 >>= fun ak =>
 match ak with
 | .inl bs=>(some (0,false))
 | .inr bs=>(some (bs,true))
theorem Vb {b2:Option bq}:bQ (wW b2) (fun r=>Con bo 34 [(ek 3 a2 b2)] [] (.cW [.n .i64 r.1,.b r.2]) []):=by
 unfold wW
 exact .az fun ak R =>
  (let t1:List cw:=[(ad 2),(ad 1),.bj [] [] (bR [0,5])];
  (by
  rcases ak with bs|bs
  ·exact (.ret (bP (t1.append [.sub (.exit 0) [] [],(ad 2)]) (.ax (Mp R))))
  ·exact (.ret (bP (t1.append [(G9 b2 (.inr bs)).fW]) (.ax (Mp R))))))
def F2 (i2:List (Option bq))(fh:Int):(Int×(List Int))→S:=fun (gm,aj)=>eD [(8,.bw 0 0 0 aj.length),(21,.isl 1 (i2.map (b6 3 a2))),(22,.n .i64 fh),(23,.n .i64 gm)] [(av 1 J aj)]
def F9 (i2:List (Option bq))(fh:Int):(((List Int))⊕(Unit))→eJ
 | .inl a=>⟨some 0,[(8,.bw 0 0 0 a.length)],[(av 1 J a)]⟩
 | .inr a=>⟨none,[(4,.d7),(5,.b false)],[]⟩
def rF (i2:List (Option bq))(fh gm:Int)(aj:List Int):Option ((Int×(List Int))⊕(((List Int))⊕(Unit))) :=
 if (decide (gm<fh))=true then
  if 0≤gm∧gm<i2.length then
  i2[gm.toNat]? >>= fun aU =>
  wW aU >>= fun bh =>
  if 0≤gm∧gm<(aj.length:Nat) then
  if (0+gm.toNat)<aj.length then
  if bh.2=true then
   some (.inl (U (gm+(1:Int)),aj.set (0+gm.toNat) bh.1))
  else
   some (.inr (.inr ()))
  else none
  else none
  else none
 else
  some (.inr (.inl aj))
def Ho (i2:List (Option bq))(fh gm:Int)(aj:List Int):Option (((List Int))⊕(Unit)):=iter (fun w:Int×(List Int)=>rF i2 fh w.1 w.2) (gm,aj)
theorem Th {i2:List (Option bq)}{fh gm:Int}{aj:List Int}:bQ (rF i2 fh gm aj) (fj bo 40 0 10 [1,1,1,1,0,1,0,0] (F2 i2 fh (gm,aj)) (F2 i2 fh) (F9 i2 fh)):=by
 unfold rF
 exact .ite (fun o =>
  .bn fun R =>
  .az fun aU aA =>
  .az fun bh br =>
  .bn fun bU =>
  .bn fun bx =>
  (let t1:List cw:=[(ad 1),.ao true,.aH (bH 2 (.cB ((b6 3 a2) aU)) 2),.aH (ap 3 (ar (bT 1 (.cW [.n .i64 bh.1,.b bh.2]) true) (bH 4 .cT 1))),(ad 2)];
  have a6:=((.bt o R.1 (eE (b6 3 a2) R.2) (cD (b6 3 a2) aA) (Vb bh br) (uq (l3 (cp.n .i64 bh.1) (l3 (cp.b bh.2) sQ))) bU.1 bU.2 (.aC (hb J bx) (gB 1))):cL _);
  .ite (fun c2 =>
  .ret (bS (t1.append [.ao false,(ad 2),.bj [0] [.dw (av 1 J (aj.set (0+gm.toNat) bh.1))] [(8,fQ ((aj.set (0+gm.toNat) bh.1).length)),(21,ii),(22,ii),(23,ii)]]) (a6.aZ (.c8 (dc c2) (d4 1 .live (fs (dF J aj) (0+gm.toNat) bh.1)) (aE 1 .live aD (aj.set (0+gm.toNat) bh.1)) (gP (fq aj) (0+gm.toNat) bh.1)))))
  (fun c2 =>
  .ret (bS (t1.append [.ao true,(ad 2),.bj [] [] (bR [4,5])]) (a6.aZ (.ax (df c2)))))))
  (fun o =>
  .ret (bS [(ad 1),.ao false,.bj [0] [.pure] (bR [8])] (.aC o (aE 1 .live aD aj))))
theorem L6 {i2:List (Option bq)}{fh gm:Int}{aj:List Int}{r} (h:Ho i2 fh gm aj=some r):fk bo 40 0 10 [1,1,1,1,0,1,0,0] (F2 i2 fh) (F9 i2 fh) (gm,aj) r:=fl (fun _=>Th) h
def tH (aL:cz)(eg:List dX):Option (((List Int))⊕(Unit)) :=
 sF aL eg >>= fun ak =>
 if ak.2=true then
  if 0≤(len_ (b6 3 a2) ak.1)∧(8:Int)*(len_ (b6 3 a2) ak.1)≤281474976710656∧(len_ (b6 3 a2) ak.1)<9223372036854775808 then
  Ho ak.1 (len_ (b6 3 a2) ak.1) 0 (List.replicate (len_ (b6 3 a2) ak.1).toNat 0:List Int) >>= fun bh =>
  match bh with
  | .inl lK=>(some (.inl lK))
  | .inr lK=>(some (.inr ()))
  else none
 else
  some (.inr ())
theorem Mq {aL:cz}{eg:List dX}:bQ (tH aL eg) (Sum.elim (fun a=>Con bo 10 [.agg (f9 aL),.isl 3 (eg.map fm)] [] (.cW [.bw 0 0 0 a.length,.b true]) [(av 1 J a)]) (fun a=>Con bo 10 [.agg (f9 aL),.isl 3 (eg.map fm)] [] (.cW [.d7,.b false]) [])):=by
 unfold tH
 exact .az fun ak R =>
  (let t1:List cw:=[(ad 3),.im 0,.aH (bH 1 (.call {ac:=[.bF (.ptr [.id,.id]),ii],r:= .cW [.isl 1 (ak.1.map (b6 3 a2)),.b ak.2],c9:=false,dd:=[0]}) 5),(ad 2)];
  have a6:=((.aC (k9 (pG aL):hc [(f9 aL)]) (B0 ak R)):cL _);
  .ite (fun ab =>
  .bn fun aA =>
  .az fun bh br =>
  (let aW:=len_ (b6 3 a2) ak.1;let bl:=(List.replicate aW.toNat 0:List Int);let t3:List cw:=t1.append [.ao false,(ad 4),(ad 3),.bj [14] [.dw (av 1 J bl)] [(8,fQ (bl.length)),(21,ii),(22,ii),(23,ii)]];
  have fa:=a6.aZ (.hh (dc ab) aA.1 (Int.le_refl aW) aA.2.1 aA.2.2 (d4 1 .live (kp J aW.toNat 0)) (aE 1 .live aD bl) (kB aW.toNat (0:Int)));
  (by
  rcases bh with lK|lK
  ·exact (.ret (hg (t3.append [(F9 ak.1 (len_ (b6 3 a2) ak.1) (.inl lK)).fW,(ad 3)]) [0] [.pure] (fa.aZ (.aC (L6 br) (aE 1 .live aD lK))) (.comp [.b9 .id,.b9 .id])))
  ·exact (.ret (hg (t3.append [.sub (.ret) [(4,.d7),(5,.b false)] []]) [] [] (fa.aZ (.ax (L6 br))))))))
  (fun ab =>
  .ret (hg (t1.append [.ao true,(ad 2)]) [] [] (a6.aZ (.ax (df ab))))))
def zd (a0:Int):Option Bool :=
 if (decide ((0:Int)≤a0))=true then
  some (decide (a0≤(1000:Int)))
 else
  some false
theorem U0 {a0:Int}:bQ (zd a0) (fun r=>Con bo 72 [.n .i64 a0] [] (.b r) []):=by
 unfold zd
 exact .ite (fun o =>
  .ret (bP [(ad 1),.aH (bH 5 (.ao true) 1)] (.bZ o o o)))
  (fun o =>
  .ret (bP [(ad 1),.aH (ap 3 (dk 2 (ar (.ao false) (ap 1 []))))] (.bZ o o o)))
def Cg (a0:Int):Option Bool :=
 zd a0 >>= fun ak =>
 some (!ak)
theorem T5 {a0:Int}:bQ (Cg a0) (fun r=>Con bo 71 [.n .i64 a0] [] (.b r) []):=by
 unfold Cg
 exact .az fun ak R =>
  .ret (bP [(ad 1),.aH (bH 1 (bT 1 (.b ak) true) 2)] (.aC (U0 ak R) (cp.b ak)))
def E0 (aL:List Int)(dz:Int):Int→S:=fun dE=>eD [(0,.isl 1 (aL.map J)),(1,.fn 71 []),(7,.n .i64 dz),(8,.n .i64 dE)] []
def LD (aL:List Int)(dz:Int):((Unit)⊕(Int))→eJ
 | .inl a=>⟨some 0,[],[]⟩
 | .inr a=>⟨none,[(4,.n .i64 a)],[]⟩
def vv (aL:List Int)(dz dE:Int):Option ((Int)⊕((Unit)⊕(Int))) :=
 if (decide (dE<dz))=true then
  if 0≤dE∧dE<aL.length then
  aL[dE.toNat]? >>= fun aU =>
  Cg aU >>= fun bh =>
  if bh=true then
   some (.inr (.inr dE))
  else
   some (.inl (U (dE+(1:Int))))
  else none
 else
  some (.inr (.inl ()))
def Fg (aL:List Int)(dz dE:Int):Option ((Unit)⊕(Int)):=iter (fun w:Int=>vv aL dz w) dE
theorem So {aL:List Int}{dz dE:Int}:bQ (vv aL dz dE) (fj bo 19 0 80 [1,0,1,0,0] (E0 aL dz dE) (E0 aL dz) (LD aL dz)):=by
 unfold vv
 exact .ite (fun o =>
  .bn fun R =>
  .az fun aU aA =>
  .az fun bh br =>
  (let t1:List cw:=[(ad 1),.ao true,(ad 2),.aH (ap 4 (ar (.cB (J aU)) (ar (bT 1 (.b bh) true) [])))];
  have a6:=((.fb o R.1 (eE J R.2) (cD J aA) (T5 bh br) (cp.b bh)):cL _);
  .ite (fun bU =>
  .ret (bS (t1.append [.ao true,(ad 2),.bj [] [] (bR [4])]) (a6.aZ (.ax bU))))
  (fun bU =>
  .ret (bS (t1.append [.ao false,(ad 2),.bj [] [] (bR [0,1,7,8])]) (a6.aZ (.ax bU))))))
  (fun o =>
  .ret (bS [(ad 1),.ao false,.bj [] [] []] (.ax o)))
theorem LG {aL:List Int}{dz dE:Int}{r} (h:Fg aL dz dE=some r):fk bo 19 0 80 [1,0,1,0,0] (E0 aL dz) (LD aL dz) dE r:=fl (fun _=>So) h
def yF (aL:List Int):Option Int :=
 Fg aL (len_ J aL) 0 >>= fun ak =>
 match ak with
 | .inl bs=>(some (-1))
 | .inr bs=>(some bs)
theorem SJ {aL:List Int}:bQ (yF aL) (fun r=>Con bo 80 [.isl 1 (aL.map J),.fn 71 []] [] (.n .i64 r) []):=by
 unfold yF
 exact .az fun ak R =>
  (let t1:List cw:=[(ad 1),(ad 3),.bj [] [] (bR [0,1,7,8])];
  (by
  rcases ak with bs|bs
  ·exact (.ret (bP (t1.append [.sub (.exit 0) [] [],(ad 1)]) (.ax (LG R))))
  ·exact (.ret (bP (t1.append [.sub (.ret) [(4,.n .i64 bs)] []]) (.ax (LG R))))))
def Fh (aL:List Int):Option Bool :=
 yF aL >>= fun ak =>
 some (decide ((0:Int)≤ak))
theorem Sy {aL:List Int}:bQ (Fh aL) (fun r=>Con bo 48 [.isl 1 (aL.map J),.fn 71 []] [] (.b r) []):=by
 unfold Fh
 exact .az fun ak R =>
  .ret (bP [(ad 1),.aH (bH 2 (bT 2 (.n .i64 ak) true) 2)] (.aC (SJ ak R) (cp.n .i64 ak)))
def sH (aL:cz)(cZ:List Int):Option Bool :=
 if ((len_ J cZ) == (len_ d5 aL.bB))=true then
  Fh cZ >>= fun bm =>
  some (!bm)
 else
  some false
theorem B9 {aL:cz}{cZ:List Int}:bQ (sH aL cZ) (fun r=>Con bo 42 [.ey 2 [(f9 aL)] 0 0,.isl 1 (cZ.map J)] [] (.b r) []):=by
 unfold sH
 exact .ite (fun o =>
  .az fun bm ab =>
  .ret (bP [(ad 1),.aH (ap 10 (ar (bT 2 (.b bm) true) (bH 1 (.ao true) 1)))] (.fb o o (Sy bm ab) (cp.b bm) o o)))
  (fun o =>
  .ret (bP [(ad 1),.aH (ap 9 (dk 3 (ar (.ao false) (ap 1 []))))] (.c8 o o o o)))
def HR (aL:cz)(cZ:List Int):Option Bool :=
 q3 aL >>= fun ak =>
 if ak=true then
  sH aL cZ >>= fun aX =>
  some aX
 else
  some false
theorem UL {aL:cz}{cZ:List Int}:bQ (HR aL cZ) (fun r=>Con bo 14 [.agg (f9 aL),.isl 1 (cZ.map J)] [] (.b r) []):=by
 unfold HR
 exact .az fun ak R =>
  (have b3:=((.aC (B2 ak R) (cp.b ak)):cL _);
  .ite (fun ab =>
  .az fun aX aF =>
  .ret (bP [(ad 2),.aH (ap 1 (ar (bT 1 (.b ak) true) (ap 2 (ar (.call {ac:=[.bF (.ptr [.id,.id]),ii],r:= .b aX,c9:=true,dd:=[0]}) (ar (.ao true) (ap 1 []))))))] (b3.aZ (.fb ab ab (k9 (pG aL):hc [(f9 aL)]) (B9 aX aF) (cp.b aX) ab))))
  (fun ab =>
  .ret (bP [(ad 2),.aH (ap 1 (ar (bT 1 (.b ak) true) (ap 1 (dk 2 (ar (.ao false) (ap 1 []))))))] (b3.aZ (.bZ ab ab ab)))))
def FW (cZ:List Int)(dp:List (Option bq))(d6:Int):(Int×(List Int))→S:=fun (gg,aj)=>eD [(2,.isl 1 (cZ.map J)),(10,.bw 0 0 0 aj.length),(27,.isl 1 (dp.map (b6 3 a2))),(28,.n .i64 d6),(29,.n .i64 gg)] [(av 1 J aj)]
def F3 (cZ:List Int)(dp:List (Option bq))(d6:Int):(List Int)→eJ
 | a=>⟨some 0,[(10,.bw 0 0 0 a.length)],[(av 1 J a)]⟩
def vS (cZ:List Int)(dp:List (Option bq))(d6 gg:Int)(aj:List Int):Option ((Int×(List Int))⊕((List Int))) :=
 if (decide (gg<d6))=true then
  if 0≤gg∧gg<dp.length then
  dp[gg.toNat]? >>= fun aU =>
  if 0≤gg∧gg<cZ.length then
  cZ[gg.toNat]? >>= fun cd =>
  nB (U (cd*cd)) >>= fun eQ =>
  q7 aU eQ >>= fun en =>
  if (decide ((0:Int)<en))=true then
   if (aj++([gg]:List Int)).length*8≤140737488355328 then
   some (.inl (U (gg+(1:Int)),aj++([gg]:List Int)))
   else none
  else
   some (.inl (U (gg+(1:Int)),aj))
  else none
  else none
 else
  some (.inr aj)
def yR (cZ:List Int)(dp:List (Option bq))(d6 gg:Int)(aj:List Int):Option ((List Int)):=iter (fun w:Int×(List Int)=>vS cZ dp d6 w.1 w.2) (gg,aj)
theorem Td {cZ:List Int}{dp:List (Option bq)}{d6 gg:Int}{aj:List Int}:bQ (vS cZ dp d6 gg aj) (fj bo 53 0 43 [1,1,1,1,0,1,0,0] (FW cZ dp d6 (gg,aj)) (FW cZ dp d6) (F3 cZ dp d6)):=by
 unfold vS
 exact .ite (fun o =>
  .bn fun R =>
  .az fun aU aA =>
  .bn fun aF =>
  .az fun cd bU =>
  .az fun eQ c2 =>
  .az fun en d2 =>
  (let t1:List cw:=[(ad 1),.ao true,.aH (bH 2 (.cB ((b6 3 a2) aU)) 2),.aH (ap 4 (ar (.cB (J cd)) (ap 3 (ar (.cB (J cd)) (ap 1 (ar (bT 1 (ek 3 a2 eQ) false) (ar (bT 2 (.n .i64 en) true) (ap 1 []))))))))];
  have a6:=((.bt o R.1 (eE (b6 3 a2) R.2) (cD (b6 3 a2) aA) aF.1 (eE J aF.2) (cD J bU) aF.1 (.ep (eE J aF.2) (cD J bU) (q8 eQ c2) (yT en d2) (cp.n .i64 en))):cL _);
  .ite (fun ev =>
  .bn fun fo =>
  .ret (let aW:=(aj++([gg]:List Int));bS (t1.append [.ao true,.aH (bH 3 (.aZ (aW.length)) 1),(ad 2),.bj [23] [.dw (av 1 J aW)] (bR [2,10,27,28,29])]) (a6.aZ (.e2 ev (k6 J gg) (o4 J aj) (nt J aj gg) fo (d4 1 .live (o5 J aj gg)) (aE 1 .live aD aW)))))
  (fun ev =>
  .ret (bS (t1.append [.ao false,(ad 2),.bj [0] [.pure] (bR [2,10,27,28,29])]) (a6.aZ (.aC ev (aE 1 .live aD aj)))))))
  (fun o =>
  .ret (bS [(ad 1),.ao false,.bj [0] [.pure] (bR [10])] (.aC o (aE 1 .live aD aj))))
theorem TU {cZ:List Int}{dp:List (Option bq)}{d6 gg:Int}{aj:List Int}{r} (h:yR cZ dp d6 gg aj=some r):fk bo 53 0 43 [1,1,1,1,0,1,0,0] (FW cZ dp d6) (F3 cZ dp d6) (gg,aj) r:=fl (fun _=>Td) h
def wH (aL:cz)(eg:List dX)(cZ:List Int):Option ((List Int)×Bool) :=
 sF aL eg >>= fun ak =>
 if ak.2=true then
  sH aL cZ >>= fun aX =>
  if aX=true then
   yR cZ ak.1 (len_ (b6 3 a2) ak.1) 0 ([]:List Int) >>= fun bK =>
   some (bK,true)
  else
   some (([]:List Int),false)
 else
  some (([]:List Int),false)
theorem Uq {aL:cz}{eg:List dX}{cZ:List Int}:bQ (wH aL eg cZ) (fun r=>Con bo 43 [.ey 2 [(f9 aL)] 0 0,.isl 3 (eg.map fm),.isl 1 (cZ.map J)] [] (.cW [.isl 1 (r.1.map J),.b r.2]) []):=by
 unfold wH
 exact .az fun ak R =>
  (let t1:List cw:=[(ad 2),.aH (bH 2 (bT 2 (.cW [.isl 1 (ak.1.map (b6 3 a2)),.b ak.2]) false) 5)];
  have a6:=((.ax (B0 ak R)):cL _);
  .ite (fun ab =>
  .az fun aX aF =>
  (let t3:List cw:=t1.append [.aH (ap 5 (ar (bT 2 (.b aX) true) (ap 1 (ar (.ao false) []))))];
  have fa:=a6.aZ (.e2 (dc ab) (dc ab) (dc ab) (B9 aX aF) (cp.b aX) (dc ab) (dc ab));
  .ite (fun br =>
  .az fun bK bx =>
  .ret (bP (t3.append [.ao false,(ad 1),(ad 3),.rk 10 1,.bj [22] [.dw (av 1 J ([]:List Int))] [(2,ii),(10,fQ (([]:List Int).length)),(27,ii),(28,ii),(29,ii)],(F3 cZ ak.1 (len_ (b6 3 a2) ak.1) bK).fW,(ad 3)]) (fa.aZ (.hh (dc br) (d4 1 .live (qT J)) (aE 1 .live aD ([]:List Int)) (mB Int) (TU bx) (ia J bK) (ht J bK) (eF aD bK))) (.comp [.b9 (.e5 (bK.map J)),.b9 .id])))
  (fun br =>
  .ret (bP (t3.append [.ao true,(ad 2)]) (fa.aZ (.ax (df br))) (.comp [.b9 (.iv 1),.b9 .id])))))
  (fun ab =>
  .ret (bP (t1.append [.aH (ap 3 (dk 4 (ar (.ao true) []))),.ao true,(ad 2)]) (a6.aZ (.fb (df ab) (df ab) (df ab) (df ab) (df ab) ca)) (.comp [.b9 (.iv 1),.b9 .id]))))
def y4 (aL:cz)(eg:List dX)(cZ:List Int):Option Bool :=
 wH aL eg cZ >>= fun ak =>
 if ak.2=true then
  some ((len_ J ak.1) == (0:Int))
 else
  some false
theorem Mx {aL:cz}{eg:List dX}{cZ:List Int}:bQ (y4 aL eg cZ) (fun r=>Con bo 15 [.agg (f9 aL),.isl 3 (eg.map fm),.isl 1 (cZ.map J)] [] (.b r) []):=by
 unfold y4
 exact .az fun ak R =>
  (let t1:List cw:=[(ad 2),.im 0,.aH (bH 2 (.call {ac:=[.bF (.ptr [.id,.id]),ii,ii],r:= .cW [.isl 1 (ak.1.map J),.b ak.2],c9:=false,dd:=[0]}) 5)];
  have a6:=((.aC (k9 (pG aL):hc [(f9 aL)]) (Uq ak R)):cL _);
  .ite (fun ab =>
  .ret (bP (t1.append [.aH (bH 5 (.ao true) 1)]) (a6.aZ (.c8 ab ab ab ab))))
  (fun ab =>
  .ret (bP (t1.append [.aH (ap 2 (dk 3 (ar (.ao false) (ap 1 []))))]) (a6.aZ (.c8 ab ab ab ab)))))
def FN (cZ:List Int)(dp:List (Option bq))(d6:Int):(Int×(List Int))→S:=fun (gg,aj)=>eD [(2,.isl 1 (cZ.map J)),(10,.bw 0 0 0 aj.length),(27,.isl 1 (dp.map (b6 3 a2))),(28,.n .i64 d6),(29,.n .i64 gg)] [(av 1 J aj)]
def FQ (cZ:List Int)(dp:List (Option bq))(d6:Int):(List Int)→eJ
 | a=>⟨some 0,[(10,.bw 0 0 0 a.length)],[(av 1 J a)]⟩
def FO (cZ:List Int)(dp:List (Option bq))(d6 gg:Int)(aj:List Int):Option ((Int×(List Int))⊕((List Int))) :=
 if (decide (gg<d6))=true then
  if 0≤gg∧gg<dp.length then
  dp[gg.toNat]? >>= fun aU =>
  if 0≤gg∧gg<cZ.length then
  cZ[gg.toNat]? >>= fun cd =>
  nB (U (cd*cd)) >>= fun eQ =>
  q7 aU eQ >>= fun en =>
  if (decide ((0:Int)<en))=true then
   if (aj++([gg]:List Int)).length*8≤140737488355328 then
   some (.inl (U (gg+(1:Int)),aj++([gg]:List Int)))
   else none
  else
   some (.inl (U (gg+(1:Int)),aj))
  else none
  else none
 else
  some (.inr aj)
def GB (cZ:List Int)(dp:List (Option bq))(d6 gg:Int)(aj:List Int):Option ((List Int)):=iter (fun w:Int×(List Int)=>FO cZ dp d6 w.1 w.2) (gg,aj)
theorem S0 {cZ:List Int}{dp:List (Option bq)}{d6 gg:Int}{aj:List Int}:bQ (FO cZ dp d6 gg aj) (fj bo 53 0 43 [1,1,1,1,0,1,0,0] (FN cZ dp d6 (gg,aj)) (FN cZ dp d6) (FQ cZ dp d6)):=by
 unfold FO
 exact .ite (fun o =>
  .bn fun R =>
  .az fun aU aA =>
  .bn fun aF =>
  .az fun cd bU =>
  .az fun eQ c2 =>
  .az fun en d2 =>
  (let t1:List cw:=[(ad 1),.ao true,.aH (bH 2 (.cB ((b6 3 a2) aU)) 2),.aH (ap 4 (ar (.cB (J cd)) (ap 3 (ar (.cB (J cd)) (ap 1 (ar (bT 1 (ek 3 a2 eQ) false) (ar (bT 2 (.n .i64 en) true) (ap 1 []))))))))];
  have a6:=((.bt o R.1 (eE (b6 3 a2) R.2) (cD (b6 3 a2) aA) aF.1 (eE J aF.2) (cD J bU) aF.1 (.ep (eE J aF.2) (cD J bU) (q8 eQ c2) (yT en d2) (cp.n .i64 en))):cL _);
  .ite (fun ev =>
  .bn fun fo =>
  .ret (let aW:=(aj++([gg]:List Int));bS (t1.append [.ao true,.aH (bH 3 (.aZ (aW.length)) 1),(ad 2),.bj [23] [.dw (av 1 J aW)] (bR [2,10,27,28,29])]) (a6.aZ (.e2 ev (k6 J gg) (o4 J aj) (nt J aj gg) fo (d4 1 .live (o5 J aj gg)) (aE 1 .live aD aW)))))
  (fun ev =>
  .ret (bS (t1.append [.ao false,(ad 2),.bj [0] [.pure] (bR [2,10,27,28,29])]) (a6.aZ (.aC ev (aE 1 .live aD aj)))))))
  (fun o =>
  .ret (bS [(ad 1),.ao false,.bj [0] [.pure] (bR [10])] (.aC o (aE 1 .live aD aj))))
theorem TG {cZ:List Int}{dp:List (Option bq)}{d6 gg:Int}{aj:List Int}{r} (h:GB cZ dp d6 gg aj=some r):fk bo 53 0 43 [1,1,1,1,0,1,0,0] (FN cZ dp d6) (FQ cZ dp d6) (gg,aj) r:=fl (fun _=>S0) h
def yU (aL:cz)(eg:List dX)(cZ:List Int):Option (((List Int))⊕(Unit)) :=
 sF aL eg >>= fun ak =>
 if ak.2=true then
  sH aL cZ >>= fun aX =>
  if aX=true then
   GB cZ ak.1 (len_ (b6 3 a2) ak.1) 0 ([]:List Int) >>= fun bK =>
   some (.inl bK)
  else
   some (.inr ())
 else
  some (.inr ())
theorem L7 {aL:cz}{eg:List dX}{cZ:List Int}:bQ (yU aL eg cZ) (Sum.elim (fun a=>Con bo 43 [.ey 2 [(f9 aL)] 0 0,.isl 3 (eg.map fm),.isl 1 (cZ.map J)] [] (.cW [.bw 0 0 0 a.length,.b true]) [(av 1 J a)]) (fun a=>Con bo 43 [.ey 2 [(f9 aL)] 0 0,.isl 3 (eg.map fm),.isl 1 (cZ.map J)] [] (.cW [.d7,.b false]) [])):=by
 unfold yU
 exact .az fun ak R =>
  (let t1:List cw:=[(ad 2),.aH (bH 2 (bT 2 (.cW [.isl 1 (ak.1.map (b6 3 a2)),.b ak.2]) false) 5)];
  have a6:=((.ax (B0 ak R)):cL _);
  .ite (fun ab =>
  .az fun aX aF =>
  (let t3:List cw:=t1.append [.aH (ap 5 (ar (bT 2 (.b aX) true) (ap 1 (ar (.ao false) []))))];
  have fa:=a6.aZ (.e2 (dc ab) (dc ab) (dc ab) (B9 aX aF) (cp.b aX) (dc ab) (dc ab));
  .ite (fun br =>
  .az fun bK bx =>
  .ret (hg (t3.append [.ao false,(ad 1),(ad 3),.rk 10 1,.bj [22] [.dw (av 1 J ([]:List Int))] [(2,ii),(10,fQ (([]:List Int).length)),(27,ii),(28,ii),(29,ii)],(FQ cZ ak.1 (len_ (b6 3 a2) ak.1) bK).fW,(ad 3)]) [0] [.pure] (fa.aZ (.fb (dc br) (d4 1 .live (qT J)) (aE 1 .live aD ([]:List Int)) (mB Int) (TG bx) (aE 1 .live aD bK))) (.comp [.b9 .id,.b9 .id])))
  (fun br =>
  .ret (hg (t3.append [.ao true,(ad 2)]) [] [] (fa.aZ (.ax (df br)))))))
  (fun ab =>
  .ret (hg (t1.append [.aH (ap 3 (dk 4 (ar (.ao true) []))),.ao true,(ad 2)]) [] [] (a6.aZ (.fb (df ab) (df ab) (df ab) (df ab) (df ab) ca)))))
def BP (aL:cz)(eg:List dX)(cZ:List Int):Option (((List Int))⊕(Unit)) :=
 yU aL eg cZ >>= fun ak =>
 match ak with
 | .inl bs=>(some (.inl bs))
 | .inr bs=>(some (.inr ()))
theorem BL {aL:cz}{eg:List dX}{cZ:List Int}:bQ (BP aL eg cZ) (Sum.elim (fun a=>Con bo 16 [.agg (f9 aL),.isl 3 (eg.map fm),.isl 1 (cZ.map J)] [] (.bw 0 0 0 a.length) [(av 1 J a)]) (fun a=>Con bo 16 [.agg (f9 aL),.isl 3 (eg.map fm),.isl 1 (cZ.map J)] [] (.d7) [])):=by
 unfold BP
 exact .az fun ak R =>
  (have b3:=((.ax (k9 (pG aL):hc [(f9 aL)])):cL _);
  (by
  rcases ak with bs|bs
  ·exact (.ret (hg [(ad 2),.aH (bH 2 (.call {aM:=[],cu:=[],ac:=[.bF (.ptr [.id,.id]),ii,ii],r:= .cW [.bw 0 0 0 bs.length,.b true],db:=[(av 1 J bs)],eo:= .comp [.b9 .id,.b9 .id],e4:=[.pure],dd:=[0],c9:=true}) 5),(ad 2)] [4] [.pure] (b3.aZ (.ep (fg 1 aD bs) (L7 (.inl bs) R) (uq (l3 (cp.bw 0 0 0 bs.length) (l3 (cp.b true) sQ))) ((t8 (rP (rf r6) ug) uf):p5 [(av 1 J bs)]) (aE 1 .live aD bs)))))
  ·exact (.ret (hg [(ad 2),.aH (bH 2 (.call {aM:=[],cu:=[],ac:=[.bF (.ptr [.id,.id]),ii,ii],r:= .cW [.d7,.b false],db:=[],eo:=ii,e4:=[],dd:=[0],c9:=true}) 5),(ad 2)] [] [] (b3.aZ (.aC (L7 (.inr bs) R) (uq (l3 cp.d7 (l3 (cp.b false) sQ)))))))))
def Ha (aL:cz)(dS cZ:List Int):Option ((List dX)×Bool) :=
 tF aL dS >>= fun ak =>
 if ak.2=true then
  y4 aL ak.1 cZ >>= fun aX =>
  if aX=true then
   some (ak.1,true)
  else
   some (([]:List dX),false)
 else
  some (([]:List dX),false)
theorem TV {aL:cz}{dS cZ:List Int}:bQ (Ha aL dS cZ) (fun r=>Con bo 30 [.agg (f9 aL),.isl 1 (dS.map J),.isl 1 (cZ.map J)] [] (.cW [.isl 3 (r.1.map fm),.b r.2]) []):=by
 unfold Ha
 exact .az fun ak R =>
  (let t1:List cw:=[(ad 3),.aH (bH 2 (bT 2 (.cW [.isl 3 (ak.1.map fm),.b ak.2]) false) 5)];
  have a6:=((.ax (Md ak R)):cL _);
  .ite (fun ab =>
  .az fun aX aF =>
  (let t3:List cw:=t1.append [.aH (ap 6 (ar (bT 3 (.b aX) true) (ap 1 (ar (.ao false) []))))];
  have fa:=a6.aZ (.hh (dc ab) (dc ab) (dc ab) (dc ab) (Mx aX aF) (cp.b aX) (dc ab) (dc ab));
  .ite (fun br =>
  .ret (bP (t3.append [.ao false,(ad 3)]) (fa.aZ (.ax (dc br)))))
  (fun br =>
  .ret (bP (t3.append [.ao true,(ad 2)]) (fa.aZ (.ax (df br))) (.comp [.b9 (.iv 3),.b9 .id])))))
  (fun ab =>
  .ret (bP (t1.append [.aH (ap 3 (dk 5 (ar (.ao true) []))),.ao true,(ad 2)]) (a6.aZ (.e2 (df ab) (df ab) (df ab) (df ab) (df ab) (df ab) ca)) (.comp [.b9 (.iv 3),.b9 .id]))))
def wX (aL:cz)(dS cZ:List Int):Option Bool :=
 Ha aL dS cZ >>= fun ak =>
 some ak.2
theorem HK {aL:cz}{dS cZ:List Int}:bQ (wX aL dS cZ) (fun r=>Con bo 8 [.agg (f9 aL),.isl 1 (dS.map J),.isl 1 (cZ.map J)] [] (.b r) []):=by
 unfold wX
 exact .az fun ak R =>
  .ret (bP [(ad 2),.aH (bH 3 (bT 3 (.cW [.isl 3 (ak.1.map fm),.b ak.2]) false) 5),(ad 2)] (.ax (TV ak R)))
def rH (b2:Option bq):Option Int :=
 b2 >>= fun eK =>
 n5 eK.lD >>= fun bk =>
 some bk
theorem Mm {b2:Option bq}:bQ (rH b2) (fun r=>Con bo 45 [(ek 3 a2 b2)] [] (.n .i64 r) []):=by
 unfold rH
 exact .az fun eK R =>
  .az fun bk aA =>
  .ret (bP [(ad 1),.aH (ap 1 (ar (.eM 3 (.eb 3 (some (a2 eK))) .cT) (bH 2 (bT 1 (.n .i64 bk) true) 1)))] (.bZ (hz (sz:=3) (f:=a2) R) (rG bk aA) (cp.n .i64 bk)))
def tJ (b2:Option bq)(cZ:Int):Option Bool :=
 if (cZ == (0:Int))=true then
  rH b2 >>= fun bm =>
  some (bm != (0:Int))
 else
  some false
theorem yV {b2:Option bq}{cZ:Int}:bQ (tJ b2 cZ) (fun r=>Con bo 73 [ek 3 a2 b2,.n .i64 cZ] [] (.b r) []):=by
 unfold tJ
 exact .ite (fun o =>
  .az fun bm ab =>
  .ret (bP [(ad 1),.aH (ap 4 (ar (bT 1 (.n .i64 bm) true) (bH 1 (.ao true) 1)))] (.fb o o (Mm bm ab) (cp.n .i64 bm) o o)))
  (fun o =>
  .ret (bP [(ad 1),.aH (ap 3 (dk 3 (ar (.ao false) (ap 1 []))))] (.c8 o o o o)))
def CA (b2 eH:Option bq):Option (Option bq) :=
 b2 >>= fun eK =>
 eH >>= fun jA =>
 mE eK.lD.cK jA.mN >>= fun bh =>
 kd (!(eK.lD.c6 == jA.lD.c6)) bh >>= fun bK =>
 mE eK.mN jA.lD.cK >>= fun bi =>
 pI bK bi >>= fun c0 =>
 some c0
theorem UM {b2 eH:Option bq}:bQ (CA b2 eH) (fun r=>Con bo 75 [ek 3 a2 b2,ek 3 a2 eH] [] (ek 3 a2 r) []):=by
 unfold CA
 exact .az fun eK R =>
  .az fun jA aA =>
  .az fun bh br =>
  .az fun bK bx =>
  .az fun bi dO =>
  .az fun c0 ev =>
  .ret (bP [(ad 1),.aH (ap 1 (ar (.eM 5 (.eb 3 (some (a2 eK))) .cT) (ap 4 (ar (.eM 10 (.eb 3 (some (a2 jA))) .cT) (ap 5 (ar (.eM 16 (.eb 3 (some (a2 eK))) .cT) (ap 4 (ar (.eM 21 (.eb 3 (some (a2 jA))) .cT) (ap 2 (ar (bT 2 (.isl 1 (bh.map J)) false) (ar (bT 2 (.agg (aQ bK)) false) (ap 1 (ar (.eM 27 (.eb 3 (some (a2 eK))) .cT) (ap 3 (ar (.eM 31 (.eb 3 (some (a2 jA))) .cT) (ap 3 (ar (bT 2 (.isl 1 (bi.map J)) false) (ar (bT 2 (ek 3 a2 c0) false) (ap 1 [])))))))))))))))))))] (.bt (hz (sz:=3) (f:=a2) R) (hz (sz:=3) (f:=a2) aA) (hz (sz:=3) (f:=a2) R) (hz (sz:=3) (f:=a2) aA) (wO bh br) (qn bK bx) (hz (sz:=3) (f:=a2) R) (hz (sz:=3) (f:=a2) aA) (.aC (wO bi dO) (Cu c0 ev))))
def rK (b2:Option bq)(cZ:Int):Option (Option bq) :=
 if (cZ == (0:Int))=true then
  nB 0 >>= fun bm =>
  some bm
 else
  nB (U (cZ*cZ)) >>= fun bm =>
  CA b2 bm >>= fun aX =>
  some aX
theorem My {b2:Option bq}{cZ:Int}:bQ (rK b2 cZ) (fun r=>Con bo 74 [ek 3 a2 b2,.n .i64 cZ] [] (ek 3 a2 r) []):=by
 unfold rK
 exact .ite (fun o =>
  .az fun bm ab =>
  .ret (bP [(ad 1),(ad 2),.ao true,.aH (ar (bT 1 (ek 3 a2 bm) false) (ap 1 []))] (.aC o (q8 bm ab))))
  (fun o =>
  .az fun bm ab =>
  .az fun aX aF =>
  .ret (bP [(ad 1),(ad 2),.ao false,.aH (ap 4 (ar (bT 1 (ek 3 a2 bm) false) (ar (bT 2 (ek 3 a2 aX) false) (ap 1 []))))] (.bZ o (q8 bm ab) (UM aX aF))))
def zk (b2:Option bq)(cX:Int)(eH:Option bq)(cZ:Int):Option Bool :=
 tJ b2 cX >>= fun ak =>
 if ak=true then
  tJ eH cZ >>= fun aX =>
  some (!aX)
 else
  tJ eH cZ >>= fun aX =>
  if aX=true then
   some false
  else
   rK b2 cX >>= fun bK =>
   rK eH cZ >>= fun bi =>
   q7 bK bi >>= fun c0 =>
   some (decide ((0:Int)<c0))
theorem Vc {b2:Option bq}{cX:Int}{eH:Option bq}{cZ:Int}:bQ (zk b2 cX eH cZ) (fun r=>Con bo 44 [ek 3 a2 b2,.n .i64 cX,ek 3 a2 eH,.n .i64 cZ] [] (.b r) []):=by
 unfold zk
 exact .az fun ak R =>
  (have b3:=((.aC (yV ak R) (cp.b ak)):cL _);
  .ite (fun ab =>
  .az fun aX aF =>
  .ret (bP [(ad 1),(ad 1),.aH (ap 3 (ar (bT 2 (.b ak) true) (ap 1 (dk 4 (ar (.ao true) []))))),.ao true,.aH (ap 3 (ar (bT 2 (.b ak) true) (ap 4 (ar (bT 2 (.b aX) true) (bH 1 (.ao true) 1)))))] (b3.aZ (.bt ab ab ab ab ab ca (yV ak R) (cp.b ak) (.hh ab ab ab ab (yV aX aF) (cp.b aX) ab ab)))))
  (fun ab =>
  .az fun aX aF =>
  (let t2:List cw:=[(ad 1),(ad 1),.aH (ap 3 (ar (bT 2 (.b ak) true) (ap 4 (ar (bT 2 (.b aX) true) (ar (.ao false) [])))))];
  have fX:=b3.aZ (.e2 ab ab ab ab (yV aX aF) (cp.b aX) ab);
  .ite (fun br =>
  .ret (bP (t2.append [.ao true,.aH (ap 3 (ar (bT 2 (.b ak) true) (ap 1 (dk 5 (ar (.ao false) (ap 1 []))))))]) (fX.aZ (.bt br (yV ak R) (cp.b ak) ab ab ab ab ab (.ax ab)))))
  (fun br =>
  .az fun bK bx =>
  .az fun bi dO =>
  .az fun c0 ev =>
  .ret (bP (t2.append [.ao false,(ad 1),.aH (ap 3 (ar (bT 2 (ek 3 a2 bK) false) (ap 3 (ar (bT 2 (ek 3 a2 bi) false) (ar (bT 2 (.n .i64 c0) true) (ap 2 []))))))]) (fX.aZ (.ep br (My bK bx) (My bi dO) (yT c0 ev) (cp.n .i64 c0))))))))
def FR (cZ:List Int)(iA:List (Option bq))(ij:Int):(Int×Int)→S:=fun (l4,dC)=>eD [(2,.isl 1 (cZ.map J)),(7,.isl 1 (iA.map (b6 3 a2))),(9,.n .i64 l4),(24,.isl 1 (iA.map (b6 3 a2))),(25,.n .i64 ij),(26,.n .i64 dC)] []
def L0 (cZ:List Int)(iA:List (Option bq))(ij:Int):Int→eJ
 | a=>⟨some 0,[(9,.n .i64 a)],[]⟩
def sC (cZ:List Int)(iA:List (Option bq))(ij l4 dC:Int):Option ((Int×Int)⊕(Int)) :=
 if (decide (dC<ij))=true then
  if 0≤dC∧dC<iA.length then
  iA[dC.toNat]? >>= fun aU =>
  if (decide (l4<(0:Int)))=true then
   some (.inl (dC,U (dC+(1:Int))))
  else
   if 0≤dC∧dC<cZ.length then
   cZ[dC.toNat]? >>= fun fY =>
   if 0≤l4∧l4<iA.length then
   iA[l4.toNat]? >>= fun i1 =>
   if 0≤l4∧l4<cZ.length then
   cZ[l4.toNat]? >>= fun mo =>
   zk aU fY i1 mo >>= fun eX =>
   if eX=true then
    some (.inl (dC,U (dC+(1:Int))))
   else
    some (.inl (l4,U (dC+(1:Int))))
   else none
   else none
   else none
  else none
 else
  some (.inr l4)
def Me (cZ:List Int)(iA:List (Option bq))(ij l4 dC:Int):Option (Int):=iter (fun w:Int×Int=>sC cZ iA ij w.1 w.2) (l4,dC)
theorem S3 {cZ:List Int}{iA:List (Option bq)}{ij l4 dC:Int}:bQ (sC cZ iA ij l4 dC) (fj bo 52 0 17 [1,1,1,1,0,1,0,0] (FR cZ iA ij (l4,dC)) (FR cZ iA ij) (L0 cZ iA ij)):=by
 unfold sC
 exact .ite (fun o =>
  .bn fun R =>
  .az fun aU aA =>
  (let t1:List cw:=[(ad 1),.ao true,.aH (bH 2 (.cB ((b6 3 a2) aU)) 2)];
  have a6:=((.c8 o R.1 (eE (b6 3 a2) R.2) (cD (b6 3 a2) aA)):cL _);
  .ite (fun aF =>
  .ret (bS (t1.append [.aH (ap 3 (dk 14 (ar (.ao true) []))),.ao true,(ad 2),(ad 2),.bj [] [] (bR [2,7,9,24,25,26])]) (a6.aZ (.bt aF aF aF aF aF aF aF aF (.hh aF aF aF aF aF aF aF ca)))))
  (fun aF =>
  .bn fun br =>
  .az fun fY bx =>
  .bn fun c2 =>
  .az fun i1 d2 =>
  .bn fun ev =>
  .az fun mo eT =>
  .az fun eX h5 =>
  (let t3:List cw:=t1.append [.aH (ap 7 (ar (.cB (J fY)) (ap 3 (ar (.cB ((b6 3 a2) i1)) (ap 3 (ar (.cB (J mo)) (ar (bT 4 (.b eX) true) (ar (.ao false) []))))))))];
  have fa:=a6.aZ (.bt aF aF aF aF br.1 (eE J br.2) aF (cD J bx) (.bt aF aF aF c2.1 (eE (b6 3 a2) c2.2) aF (cD (b6 3 a2) d2) aF (.bt aF aF ev.1 (eE J ev.2) aF (cD J eT) aF (Vc eX h5) (.aC (cp.b eX) aF))));
  .ite (fun gh =>
  .ret (bS (t3.append [.ao true,(ad 2),(ad 2),.bj [] [] (bR [2,7,9,24,25,26])]) (fa.aZ (.ax gh))))
  (fun gh =>
  .ret (bS (t3.append [.ao false,(ad 2),.bj [] [] (bR [2,7,9,24,25,26])]) (fa.aZ (.ax gh))))))))
  (fun o =>
  .ret (bS [(ad 1),.ao false,.bj [] [] (bR [9])] (.ax o)))
theorem TO {cZ:List Int}{iA:List (Option bq)}{ij l4 dC:Int}{r} (h:Me cZ iA ij l4 dC=some r):fk bo 52 0 17 [1,1,1,1,0,1,0,0] (FR cZ iA ij) (L0 cZ iA ij) (l4,dC) r:=fl (fun _=>S3) h
def wC (aL:cz)(eg:List dX)(cZ:List Int):Option Int :=
 sF aL eg >>= fun ak =>
 if ak.2=true then
  sH aL cZ >>= fun aX =>
  if aX=true then
   Me cZ ak.1 (len_ (b6 3 a2) ak.1) (-1) 0 >>= fun bK =>
   some bK
  else
   some (-1)
 else
  some (-1)
theorem Mf {aL:cz}{eg:List dX}{cZ:List Int}:bQ (wC aL eg cZ) (fun r=>Con bo 17 [.agg (f9 aL),.isl 3 (eg.map fm),.isl 1 (cZ.map J)] [] (.n .i64 r) []):=by
 unfold wC
 exact .az fun ak R =>
  (let t1:List cw:=[(ad 2),.im 0,.aH (bH 1 (.call {ac:=[.bF (.ptr [.id,.id]),ii],r:= .cW [.isl 1 (ak.1.map (b6 3 a2)),.b ak.2],c9:=false,dd:=[0]}) 5)];
  have a6:=((.aC (k9 (pG aL):hc [(f9 aL)]) (B0 ak R)):cL _);
  .ite (fun ab =>
  .az fun aX aF =>
  (let t3:List cw:=t1.append [.aH (ap 4 (ar (.call {ac:=[.bF (.ptr [.id,.id]),ii],r:= .b aX,c9:=true,dd:=[0]}) (ap 1 (ar (.ao false) []))))];
  have fa:=a6.aZ (.e2 (dc ab) (dc ab) (k9 (pG aL):hc [(f9 aL)]) (B9 aX aF) (cp.b aX) (dc ab) (dc ab));
  .ite (fun br =>
  .az fun bK bx =>
  .ret (bP (t3.append [.ao false,(ad 1),(ad 3),.bj [] [] (bR [2,7,9,24,25,26]),.sub (.exit 0) [(9,.n .i64 bK)] [],(ad 2)]) (fa.aZ (.aC (dc br) (TO bx)))))
  (fun br =>
  .ret (bP (t3.append [.ao true,(ad 1)]) (fa.aZ (.ax (df br)))))))
  (fun ab =>
  .ret (bP (t1.append [.aH (ap 3 (dk 3 (ar (.ao true) []))),.ao true,(ad 1)]) (a6.aZ (.ep (df ab) (df ab) (df ab) (df ab) ca)))))
def Iw (b2:Option bq):Option (dX×Bool) :=
 b2.elim
 (some ((⟨(⟨false,([]:List Int)⟩:bc),([]:List Int)⟩:dX),false))
 fun dQ =>
 tT b2 >>= fun bk =>
 some (bk,true)
theorem Vw {b2:Option bq}:bQ (Iw b2) (fun r=>Con bo 36 [(ek 3 a2 b2)] [] (.cW [.agg (fm r.1),.b r.2]) []):=by
 unfold Iw
 exact .mn (fun o =>
  .ret (bP [(ad 2),.aH (ap 1 (ar (.eM 4 (.eb 3 none) .cT) [])),.ao true,(ad 3)] (.aC (oC (sz:=3) (f:=a2) o) ca) (.comp [.agg [.id,.iv 1,.iv 1],.b9 .id])))
  (fun dQ o =>
  .az fun bk aA =>
  .ret (bP [(ad 2),.aH (ap 1 (ar (.eM 4 (.eb 3 (some (a2 dQ))) .cT) [])),.ao false,.aH (bH 1 (bT 1 (.agg (fm bk)) false) 2)] (.bZ (hz (sz:=3) (f:=a2) o) gC (HP bk aA))))
def wD (aL:cz)(eg:List dX)(cl:Int):Option (dX×Bool) :=
 wM aL eg >>= fun ak =>
 if ak.2=true then
  if (decide (cl<(0:Int)))=true then
   some ((⟨(⟨false,([]:List Int)⟩:bc),([]:List Int)⟩:dX),false)
  else
   if (decide ((len_ d5 aL.bB)≤cl))=true then
    some ((⟨(⟨false,([]:List Int)⟩:bc),([]:List Int)⟩:dX),false)
   else
    vN aL ak.1 cl >>= fun cj =>
    Iw cj >>= fun eQ =>
    some (eQ.1,eQ.2)
 else
  some ((⟨(⟨false,([]:List Int)⟩:bc),([]:List Int)⟩:dX),false)
theorem Mg {aL:cz}{eg:List dX}{cl:Int}:bQ (wD aL eg cl) (fun r=>Con bo 11 [.agg (f9 aL),.isl 3 (eg.map fm),.n .i64 cl] [] (.cW [.agg (fm r.1),.b r.2]) []):=by
 unfold wD
 exact .az fun ak R =>
  (let t1:List cw:=[(ad 3),.im 0,.aH (bH 1 (.call {ac:=[.bF (.ptr [.id,.id]),ii],r:= .cW [.isl 1 (ak.1.map (b6 3 a2)),.b ak.2],c9:=false,dd:=[0]}) 5)];
  have a6:=((.aC (k9 (pG aL):hc [(f9 aL)]) (Hn ak R)):cL _);
  .ite (fun ab =>
  (have fX:=a6.aZ (.bZ (dc ab) (dc ab) (dc ab));
  .ite (fun aA =>
  .ret (bP (t1.append [.aH (ap 5 (ar (.ao false) (ap 1 (dk 5 (ar (.ao true) []))))),.ao true,(ad 3)]) (fX.aZ (.e2 aA aA aA aA aA aA ca)) (.comp [.agg [.id,.iv 1,.iv 1],.b9 .id])))
  (fun aA =>
  (let t4:List cw:=t1.append [.aH (ap 5 (ar (.ao false) (ap 6 (ar (.ao false) []))))];
  .ite (fun aF =>
  .ret (bP (t4.append [.ao true,(ad 3)]) (fX.aZ (.e2 aA aA aA aA aA aA aF)) (.comp [.agg [.id,.iv 1,.iv 1],.b9 .id])))
  (fun aF =>
  .az fun cj bU =>
  .az fun eQ c2 =>
  .ret (bP (t4.append [.ao false,.aH (ap 2 (ar (.call {ac:=[.bF (.ptr [.id,.id]),ii,ii],r:=ek 3 a2 cj,c9:=false,dd:=[0]}) (ar (bT 1 (.cW [.agg (fm eQ.1),.b eQ.2]) false) (ap 4 []))))]) (fX.aZ (.bt aA aA aA aA aA aA aF (k9 (pG aL):hc [(f9 aL)]) (.aC (LR cj bU) (Vw eQ c2))))))))))
  (fun ab =>
  .ret (bP (t1.append [.aH (ap 3 (dk 2 (ar (.ao true) (ap 1 (dk 5 (ap 1 [])))))),.ao true,(ad 3)]) (a6.aZ (.bt (df ab) (df ab) (df ab) ca ca ca ca ca (.ax ca))) (.comp [.agg [.id,.iv 1,.iv 1],.b9 .id]))))
def ze (de:dX):Option Int :=
 tW de >>= fun ak =>
 ak.elim
 (some 0)
 fun nw =>
 rH ak >>= fun bh =>
 some bh
theorem U1 {de:dX}:bQ (ze de) (fun r=>Con bo 18 [.agg (fm de)] [] (.n .i64 r) []):=by
 unfold ze
 exact .az fun ak R =>
  (let t1:List cw:=[(ad 2),.aH (bH 1 (bT 1 (ek 3 a2 ak) false) 1)];
  .mn (fun ab =>
  .ret (bP (t1.append [.aH (ap 1 (ar (.eM 6 (.eb 3 none) .cT) [])),.ao true,(ad 1)]) (.bZ (zc ak R) (oC (sz:=3) (f:=a2) ab) ca)))
  (fun nw ab =>
  .az fun bh br =>
  .ret (bP (t1.append [.aH (ap 1 (ar (.eM 6 (.eb 3 (some (a2 nw))) .cT) [])),.ao false,.aH (bH 1 (bT 1 (.n .i64 bh) true) 1)]) (.ep (zc ak R) (hz (sz:=3) (f:=a2) ab) gC (Mm bh br) (cp.n .i64 bh)))))
def Ct (a0:Int):Option dX :=
 nB a0 >>= fun ak =>
 tT ak >>= fun bk =>
 some bk
theorem Ur {a0:Int}:bQ (Ct a0) (fun r=>Con bo 13 [.n .i64 a0] [] (.agg (fm r)) []):=by
 unfold Ct
 exact .az fun ak R =>
  .az fun bk aA =>
  .ret (bP [(ad 1),.aH (ap 1 (ar (bT 1 (ek 3 a2 ak) false) (ar (bT 1 (.agg (fm bk)) false) (ap 1 []))))] (.aC (q8 ak R) (HP bk aA)))
def CM (de aL:dX):Option Int :=
 tW de >>= fun ak =>
 tW aL >>= fun bk =>
 ak.elim
 (some 0)
 fun n2 =>
 bk.elim
 (some 0)
 fun tn =>
 q7 ak bk >>= fun bi =>
 some bi
theorem Vd {de aL:dX}:bQ (CM de aL) (fun r=>Con bo 12 [.agg (fm de),.agg (fm aL)] [] (.n .i64 r) []):=by
 unfold CM
 exact .az fun ak R =>
  .az fun bk aA =>
  (let t1:List cw:=[(ad 3),.aH (ap 1 (ar (bT 1 (ek 3 a2 ak) false) (bH 1 (bT 1 (ek 3 a2 bk) false) 2)))];
  have a6:=((.aC (zc ak R) (zc bk aA)):cL _);
  .mn (fun aF =>
  .ret (bP (t1.append [.aH (ap 1 (ar (.eM 11 (.eb 3 none) .cT) (ap 1 (dk 2 (ap 1 []))))),.ao true,(ad 1)]) (a6.aZ (.c8 (oC (sz:=3) (f:=a2) aF) ca ca ca))))
  (fun n2 aF =>
  (have fX:=a6.aZ (.bZ (hz (sz:=3) (f:=a2) aF) gC gC);
  .mn (fun bU =>
  .ret (bP (t1.append [.aH (ap 1 (ar (.eM 11 (.eb 3 (some (a2 n2))) .cT) (bH 2 (.eM 14 (.eb 3 none) .cT) 1))),.ao true,(ad 1)]) (fX.aZ (.aC (oC (sz:=3) (f:=a2) bU) ca))))
  (fun tn bU =>
  .az fun bi dO =>
  .ret (bP (t1.append [.aH (ap 1 (ar (.eM 11 (.eb 3 (some (a2 n2))) .cT) (bH 2 (.eM 14 (.eb 3 (some (a2 tn))) .cT) 1))),.ao false,.aH (bH 2 (bT 2 (.n .i64 bi) true) 1)]) (fX.aZ (.c8 (hz (sz:=3) (f:=a2) bU) gC (yT bi dO) (cp.n .i64 bi))))))))
def Ga (a0:Int)(aT:List Int):(Int×Int×Int)→S:=fun (bd,aG,b7)=>eD [(1,.n .i64 a0),(5,.ref 0 0 0 0),(6,.n .i64 bd)] [[aq.mk 3 [[.isl 1 (aT.map eU8),.n .i64 aG,.n .i64 b7]] .live]]
def GC (a0:Int)(aT:List Int):(Int×Int)→eJ
 | a=>⟨some 0,[(5,.ref 0 0 0 0)],[[aq.mk 3 [[.isl 1 (aT.map eU8),.n .i64 a.1,.n .i64 a.2]] .live]]⟩
def vW (a0:Int)(aT:List Int)(bd aG b7:Int):Option ((Int×Int×Int)⊕(Int×Int)) :=
 if (decide (bd<a0))=true then
  q6 aT aG b7 >>= fun bm =>
  some (.inl (U (bd+(1:Int)),bm.2.1,bm.2.2))
 else
  some (.inr (aG,b7))
def Mz (a0:Int)(aT:List Int)(bd aG b7:Int):Option (Int×Int):=iter (fun w:Int×Int×Int=>vW a0 aT w.1 w.2.1 w.2.2) (bd,aG,b7)
theorem Tl {a0:Int}{aT:List Int}{bd aG b7:Int}:bQ (vW a0 aT bd aG b7) (fj bo 17 0 31 [1,1,0,1,0,0] (Ga a0 aT (bd,aG,b7)) (Ga a0 aT) (GC a0 aT)):=by
 unfold vW
 exact .ite (fun o =>
  .az fun bm ab =>
  .ret (bS [(ad 3),.ao true,.aH (ap 1 (ar (.call {aM:=[.row 0],cu:=[.box [.id,.id,.id]],ac:=[ii],r:= .n .i64 bm.1,db:=[[aq.mk 3 [[.isl 1 (aT.map eU8),.n .i64 bm.2.1,.n .i64 bm.2.2]] .live]],eo:=ii,e4:=[.box [.id,.id,.id]],dd:=[0],c9:=false}) [])),(ad 3),.bj [0] [.box [.id,.id,.id]] (bR [1,5,6])] (.aC o (wx bm ab))))
  (fun o =>
  .ret (bS [(ad 3),.ao false,.bj [0] [.box [.id,.id,.id]] (bR [5])] (.ax o)))
theorem T9 {a0:Int}{aT:List Int}{bd aG b7:Int}{r} (h:Mz a0 aT bd aG b7=some r):fk bo 17 0 31 [1,1,0,1,0,0] (Ga a0 aT) (GC a0 aT) (bd,aG,b7) r:=fl (fun _=>Tl) h
def CB (fG:List Int)(a0:Int):Option (Int×Int) :=
 y1 fG >>= fun ak =>
 Mz a0 fG 0 0 ak >>= fun bk =>
 some (bk.1,bk.2)
theorem UN {fG:List Int}{a0:Int}:bQ (CB fG a0) (fun a=>Con bo 31 [.isl 1 (fG.map eU8),.n .i64 a0] [] (.ref 0 0 0 0) [[aq.mk 3 [[.isl 1 (fG.map eU8),.n .i64 a.1,.n .i64 a.2]] .live]]):=by
 unfold CB
 exact .az fun ak R =>
  .az fun bk aA =>
  .ret (hg [(ad 1),.aH (bH 1 (.call {aM:=[],cu:=[],ac:=[ii],r:= .ref 0 0 0 0,db:=[[aq.mk 3 [[.isl 1 (fG.map eU8),.n .i64 (0:Int),.n .i64 ak]] .live]],eo:=ii,e4:=[.box [.id,.id,.id]],dd:=[],c9:=false}) 1),(ad 1),.bj [2] [.box [.id,.id,.id]] (bR [1,5,6]),(GC a0 fG bk).fW,(ad 2)] [0] [.box [.id,.id,.id]] (.aC (Mu ak R) (T9 aA)))
def F4 (aT:List Int):(Int×Int×Int×(List Int))→S:=fun (cl,aG,b7,ae)=>eD [(5,.ref 0 0 0 0),(6,.bw 1 0 0 ae.length),(7,.n .i64 cl)] [[aq.mk 3 [[.isl 1 (aT.map eU8),.n .i64 aG,.n .i64 b7]] .live],(av 1 J ae)]
def Gb (aT:List Int):(List Int)→eJ
 | a=>⟨some 0,[(6,.bw 0 0 0 a.length)],[(av 1 J a)]⟩
def vT (aT:List Int)(cl aG b7:Int)(ae:List Int):Option ((Int×Int×Int×(List Int))⊕((List Int))) :=
 if (decide ((0:Int)<cl))=true then
  jY 16 aT aG b7 >>= fun bm =>
  if (ae++([bm.1]:List Int)).length*8≤140737488355328 then
  some (.inl (U (cl-(1:Int)),bm.2.1,bm.2.2,ae++([bm.1]:List Int)))
  else none
 else
  some (.inr ae)
def Mr (aT:List Int)(cl aG b7:Int)(ae:List Int):Option ((List Int)):=iter (fun w:Int×Int×Int×(List Int)=>vT aT w.1 w.2.1 w.2.2.1 w.2.2.2) (cl,aG,b7,ae)
theorem Ti {aT:List Int}{cl aG b7:Int}{ae:List Int}:bQ (vT aT cl aG b7 ae) (fj bo 24 0 9 [1,1,1,0,1,0,0] (F4 aT (cl,aG,b7,ae)) (F4 aT) (Gb aT)):=by
 unfold vT
 exact .ite (fun o =>
  .az fun bm ab =>
  .bn fun aA =>
  .ret (let aW:=(ae++([bm.1]:List Int));bS [(ad 2),.ao true,.aH (ap 2 (ar (.call {aM:=[.row 0],cu:=[.box [.id,.id,.id]],ac:=[ii,ii],r:= .n .i64 bm.1,db:=[[aq.mk 3 [[.isl 1 (aT.map eU8),.n .i64 bm.2.1,.n .i64 bm.2.2]] .live]],eo:=ii,e4:=[.box [.id,.id,.id]],dd:=[0],c9:=false}) (bH 1 (.aZ (aW.length)) 1))),(ad 3),.bj [0,8] [.box [.id,.id,.id],.dw (av 1 J aW)] (bR [5,6,7])] (.hh o (kR bm ab) (k6 J bm.1) (o4 J ae) (nt J ae bm.1) aA (d4 1 .live (o5 J ae bm.1)) (aE 1 .live aD aW))))
  (fun o =>
  .ret (bS [(ad 2),.ao false,.bj [1] [.pure] (bR [6])] (.aC o (aE 1 .live aD ae))))
theorem T6 {aT:List Int}{cl aG b7:Int}{ae:List Int}{r} (h:Mr aT cl aG b7 ae=some r):fk bo 24 0 9 [1,1,1,0,1,0,0] (F4 aT) (Gb aT) (cl,aG,b7,ae) r:=fl (fun _=>Ti) h
def Cv (fG:List Int)(a0:Int):Option (List Int) :=
 CB fG a0 >>= fun ak =>
 jY 4 fG ak.1 ak.2 >>= fun bk =>
 Mr fG bk.1 bk.2.1 bk.2.2 ([]:List Int) >>= fun bh =>
 some bh
theorem UA {fG:List Int}{a0:Int}:bQ (Cv fG a0) (fun r=>Con bo 9 [.isl 1 (fG.map eU8),.n .i64 a0] [] (.isl 1 (r.map J)) []):=by
 unfold Cv
 exact .az fun ak R =>
  .az fun bk aA =>
  .az fun bh br =>
  .ret (bP [(ad 1),.aH (bH 2 (.call {aM:=[],cu:=[],ac:=[ii,ii],r:= .ref 0 0 0 0,db:=[[aq.mk 3 [[.isl 1 (fG.map eU8),.n .i64 ak.1,.n .i64 ak.2]] .live]],eo:=ii,e4:=[.box [.id,.id,.id]],dd:=[],c9:=false}) 1),(ad 2),.aH (bH 1 (.call {aM:=[.row 3],cu:=[.box [.id,.id,.id]],ac:=[ii,ii],r:= .n .i64 bk.1,db:=[[aq.mk 3 [[.isl 1 (fG.map eU8),.n .i64 bk.2.1,.n .i64 bk.2.2]] .live]],eo:=ii,e4:=[.box [.id,.id,.id]],dd:=[3],c9:=false}) 1),.bj [3,5] [.box [.id,.id,.id],.dw (av 1 J ([]:List Int))] [(5,ii),(6,fQ (([]:List Int).length)),(7,ii)],(Gb fG bh).fW,(ad 2)] (.bt (UN ak R) (kR bk aA) (d4 1 .live (show []=(([]:List Int)).map J from rfl)) (aE 1 .live aD ([]:List Int)) (mB Int) (T6 br) (ia J bh) (ht J bh) (.ax (eF aD bh))) (.bF (.b9 (.e5 (bh.map J)))))
def Gc (eg:List dX)(oi:Int)(aT:List bA)(aG:List b4):(Int×(List Int))→S:=fun (gj,ae)=>eD [(3,.ref 0 0 0 0),(5,.isl 3 (eg.map fm)),(7,.bw 1 0 0 ae.length),(127,.n .i64 oi),(128,.n .i64 gj)] [[aq.mk 2 [[.isl 4 (aT.map dK),.isl 3 (aG.map d5)]] .live],(av 1 J ae)]
def L8 (eg:List dX)(oi:Int)(aT:List bA)(aG:List b4):((Unit)⊕(Unit))→eJ
 | .inl a=>⟨some 2,[],[]⟩
 | .inr a=>⟨none,[(2,.b false)],[]⟩
def vX (eg:List dX)(oi:Int)(aT:List bA)(aG:List b4)(gj:Int)(ae:List Int):Option ((Int×(List Int))⊕((Unit)⊕(Unit))) :=
 if (decide (gj<oi))=true then
  wD (⟨aT,aG⟩:cz) eg gj >>= fun bm =>
  if bm.2=true then
   if 0≤gj∧gj<(ae.length:Nat) then
   ae[(0+gj.toNat)]? >>= fun cd =>
   ze bm.1 >>= fun eQ =>
   if ((cd == (0:Int)) == (eQ == (0:Int)))=true then
    if (decide ((0:Int)<cd))=true then
     if (0+gj.toNat)<ae.length then
     BP (⟨aT,aG⟩:cz) eg (ae.set (0+gj.toNat) (U (cd-(1:Int)))) >>= fun dv =>
     match dv with
     | .inl eU=>((ae.set (0+gj.toNat) (U (cd-(1:Int))))[(0+gj.toNat)]? >>= fun jU =>
      if (0+gj.toNat)<(ae.set (0+gj.toNat) (U (cd-(1:Int)))).length then
      if (((eU.length:Nat):Int) != (1:Int))=true then
       some (.inr (.inr ()))
      else
       if 0≤(0:Int)∧(0:Int)<(eU.length:Nat) then
       eU[0]? >>= fun KA =>
       if (KA != gj)=true then
        some (.inr (.inr ()))
       else
        some (.inl (U (gj+(1:Int)),(ae.set (0+gj.toNat) (U (cd-(1:Int)))).set (0+gj.toNat) (U (jU+(1:Int)))))
       else none
      else none)
     | .inr eU=>((ae.set (0+gj.toNat) (U (cd-(1:Int))))[(0+gj.toNat)]? >>= fun jU =>
      if (0+gj.toNat)<(ae.set (0+gj.toNat) (U (cd-(1:Int)))).length then
      some (.inr (.inr ()))
      else none)
     else none
    else
     some (.inl (U (gj+(1:Int)),ae))
   else
    some (.inr (.inr ()))
   else none
  else
   some (.inr (.inr ()))
 else
  some (.inr (.inl ()))
def Ht (eg:List dX)(oi:Int)(aT:List bA)(aG:List b4)(gj:Int)(ae:List Int):Option ((Unit)⊕(Unit)):=iter (fun w:Int×(List Int)=>vX eg oi aT aG w.1 w.2) (gj,ae)
theorem Tm {eg:List dX}{oi:Int}{aT:List bA}{aG:List b4}{gj:Int}{ae:List Int}:bQ (vX eg oi aT aG gj ae) (fj bo 183 0 3 [1,1,1,1,1,1,1,1,1,1,1,0,1,0,0] (Gc eg oi aT aG (gj,ae)) (Gc eg oi aT aG) (L8 eg oi aT aG)):=by
 unfold vX
 exact .ite (fun o =>
  .az fun bm ab =>
  (let t1:List cw:=[(ad 1),.ao true,(ad 2),.aH (bH 3 (bT 3 (.cW [.agg (fm bm.1),.b bm.2]) false) 6)];
  have a6:=((.aC o (Mg bm ab)):cL _);
  .ite (fun aA =>
  .bn fun aF =>
  .az fun cd bU =>
  .az fun eQ c2 =>
  (let t3:List cw:=t1.append [.aH (ap 6 (ar (.cB (J cd)) (ap 2 (ar (bT 1 (.n .i64 eQ) true) (ap 2 (ar (.ao false) []))))))];
  have fa:=a6.aZ (.bt (dc aA) (dc aA) (dc aA) aF.1 aF.2 (dc aA) (cD J bU) (dc aA) (.e2 (dc aA) (dc aA) (U1 eQ c2) (cp.n .i64 eQ) (dc aA) (dc aA) (dc aA)));
  .ite (fun dO =>
  (let t5:List cw:=t3.append [.ao false,.aH (bH 3 (.cB (J cd)) 1)];
  have m1:=fa.aZ (.c8 (dc dO) aF.1 aF.2 (cD J bU));
  .ite (fun d2 =>
  .bn fun ev =>
  .az fun dv eT =>
  (let eN:=(U (cd-(1:Int)));let gH:=gP (fq ae) (0+gj.toNat) eN;let t7:List cw:=t5.append [.ao true,.aH (ap 3 (ar (.cB (J cd)) (ap 2 (ar .cT []))))];
  have tp:=m1.aZ (.bt d2 aF.1 aF.2 (cD J bU) aF.1 aF.2 (hb J ev) (gB 1) (.bZ (lL (fs (dF J ae) (0+gj.toNat) eN) gH) (n6 (fs (dF J ae) (0+gj.toNat) eN) gH) (eF aD (ae.set (0+gj.toNat) eN))));
  (by
  rcases dv with eU|eU
  ·exact (.az fun jU gh =>
  .bn fun j6 =>
  (let cM:=(U (cd-(1:Int)));let t9:List cw:=t7.append [.aH (bH 3 (.call {aM:=[],cu:=[],ac:=[ii,ii,.bF (.b9 (.e5 ((ae.set (0+gj.toNat) cM).map J)))],r:= .bw 0 0 0 eU.length,db:=[(av 1 J eU)],eo:=ii,e4:=[.pure],dd:=[1],c9:=true}) 1),.aH (ap 3 (ar (.cB (J jU)) (ap 2 (ar .cT []))))];
  have A5:=tp.aZ (.bt (fg 1 aD eU) (BL (.inl eU) eT) (cp.bw 0 0 0 eU.length) ((t8 (rP (rf r6) ug) uf):p5 [(av 1 J eU)]) aF.1 aF.2 (zJ (fs (dF J ae) (0+gj.toNat) cM) gh) aF.1 (.bZ aF.2 (zW (fs (dF J ae) (0+gj.toNat) cM) j6) (gB 1)));
  .ite (fun gG =>
  .ret (bS (t9.append [.aH (ap 4 (dk 5 (ar (.ao true) []))),.ao true,(ad 1),.bj [] [] (bR [2])]) (A5.aZ (.e2 gG gG gG gG gG gG ca))))
  (fun gG =>
  .bn fun nS =>
  .az fun KA h6 =>
  (let t11:List cw:=t9.append [.aH (ap 6 (ar (.cB (J KA)) (ap 2 (ar (.ao false) []))))];
  have A6:=A5.aZ (.bt gG gG nS.1 nS.2 gG (cD J h6) gG gG (.ax gG));
  .ite (fun lI =>
  .ret (bS (t11.append [.ao true,(ad 1),.bj [] [] (bR [2])]) (A6.aZ (.ax lI))))
  (fun lI =>
  .ret (let aW:=(U (cd-(1:Int)));let bl:=(U (jU+(1:Int)));bS (t11.append [.ao false,(ad 2),.bj [0,1] [.box [.id,.id],.dw (av 1 J ((ae.set (0+gj.toNat) aW).set (0+gj.toNat) bl))] [(3,ii),(5,ii),(7,fQ (((ae.set (0+gj.toNat) aW).set (0+gj.toNat) bl).length)),(127,ii),(128,ii)]]) (A6.aZ (.c8 lI (d4 1 .live (fs (fs (dF J ae) (0+gj.toNat) aW) (0+gj.toNat) bl)) (aE 1 .live aD ((ae.set (0+gj.toNat) aW).set (0+gj.toNat) bl)) (gP (gP (fq ae) (0+gj.toNat) aW) (0+gj.toNat) bl)))))))))
  ·exact (.az fun jU gh =>
  .bn fun j6 =>
  .ret (let cc:=(U (cd-(1:Int)));bS (t7.append [.aH (bH 3 (.call {aM:=[],cu:=[],ac:=[ii,ii,.bF (.b9 (.e5 ((ae.set (0+gj.toNat) cc).map J)))],r:= .d7,db:=[],eo:=ii,e4:=[],dd:=[1],c9:=true}) 1),.aH (ap 3 (ar (.cB (J jU)) (ap 2 (ar .cT [])))),.aH (ap 4 (dk 5 (ap 1 []))),.ao true,(ad 1),.bj [] [] (bR [2])]) (tp.aZ (.bt (BL (.inr eU) eT) cp.d7 aF.1 aF.2 (zJ (fs (dF J ae) (0+gj.toNat) cc) gh) aF.1 aF.2 (zW (fs (dF J ae) (0+gj.toNat) cc) j6) (.e2 (gB 1) ca ca ca ca ca ca))))))))
  (fun d2 =>
  .ret (bS (t5.append [.ao false,(ad 2),.bj [0,1] [.box [.id,.id],.pure] (bR [3,5,7,127,128])]) (m1.aZ (.aC d2 (aE 1 .live aD ae)))))))
  (fun dO =>
  .ret (bS (t3.append [.ao true,(ad 1),.bj [] [] (bR [2])]) (fa.aZ (.ax (df dO)))))))
  (fun aA =>
  .ret (bS (t1.append [.aH (ap 3 (dk 9 (ar (.ao true) []))),.ao true,(ad 1),.bj [] [] (bR [2])]) (a6.aZ (.bt (df aA) (df aA) (df aA) (df aA) (df aA) (df aA) (df aA) (df aA) (.bZ (df aA) (df aA) ca)))))))
  (fun o =>
  .ret (bS [(ad 1),.ao false,.bj [] [] []] (.ax o)))
theorem B4 {eg:List dX}{oi:Int}{aT:List bA}{aG:List b4}{gj:Int}{ae:List Int}{r} (h:Ht eg oi aT aG gj ae=some r):fk bo 183 0 3 [1,1,1,1,1,1,1,1,1,1,1,0,1,0,0] (Gc eg oi aT aG) (L8 eg oi aT aG) (gj,ae) r:=fl (fun _=>Tm) h
def Gd (eg:List dX)(ou:Int)(aT:List bA)(aG:List b4):Int→S:=fun jv=>eD [(3,.ref 0 0 0 0),(5,.isl 3 (eg.map fm)),(7,.d7),(58,.n .i64 ou),(59,.n .i64 jv)] [[aq.mk 2 [[.isl 4 (aT.map dK),.isl 3 (aG.map d5)]] .live]]
def L9 (eg:List dX)(ou:Int)(aT:List bA)(aG:List b4):((Unit)⊕(Unit))→eJ
 | .inl a=>⟨some 0,[],[]⟩
 | .inr a=>⟨none,[(2,.b true)],[]⟩
def vY (eg:List dX)(ou:Int)(aT:List bA)(aG:List b4)(jv:Int):Option ((Int)⊕((Unit)⊕(Unit))) :=
 if (decide (jv<ou))=true then
  wD (⟨aT,aG⟩:cz) eg jv >>= fun bm =>
  if bm.2=true then
   Ct 1000000 >>= fun bh =>
   CM bm.1 bh >>= fun bK =>
   if (decide ((0:Int)<bK))=true then
    some (.inr (.inr ()))
   else
    some (.inl (U (jv+(1:Int))))
  else
   some (.inl (U (jv+(1:Int))))
 else
  some (.inr (.inl ()))
def MA (eg:List dX)(ou:Int)(aT:List bA)(aG:List b4)(jv:Int):Option ((Unit)⊕(Unit)):=iter (fun w:Int=>vY eg ou aT aG w) jv
theorem Tn {eg:List dX}{ou:Int}{aT:List bA}{aG:List b4}{jv:Int}:bQ (vY eg ou aT aG jv) (fj bo 183 0 3 [1,1,1,1,1,1,1,0,1,0,0,1,0,0] (Gd eg ou aT aG jv) (Gd eg ou aT aG) (L9 eg ou aT aG)):=by
 unfold vY
 exact .ite (fun o =>
  .az fun bm ab =>
  (let t1:List cw:=[(ad 1),.ao true,(ad 2),.aH (bH 3 (bT 3 (.cW [.agg (fm bm.1),.b bm.2]) false) 6)];
  have a6:=((.aC o (Mg bm ab)):cL _);
  .ite (fun aA =>
  .az fun bh br =>
  .az fun bK bx =>
  (let t3:List cw:=t1.append [.aH (ap 3 (ar (bT 1 (.agg (fm bh)) false) (ar (bT 2 (.n .i64 bK) true) (ap 1 (ar (.ao true) [])))))];
  have fa:=a6.aZ (.hh aA aA (Ur bh br) aA (Vd bK bx) (cp.n .i64 bK) aA aA);
  .ite (fun c2 =>
  .ret (bS (t3.append [.ao true,(ad 4),.bj [] [] (bR [2])]) (fa.aZ (.ax c2))))
  (fun c2 =>
  .ret (bS (t3.append [.ao false,(ad 2),.bj [0] [.box [.id,.id]] (bR [3,5,7,58,59])]) (fa.aZ (.ax c2))))))
  (fun aA =>
  .ret (bS (t1.append [.aH (ap 2 (dk 4 (ar (.ao false) []))),.ao false,(ad 2),.bj [0] [.box [.id,.id]] (bR [3,5,7,58,59])]) (a6.aZ (.fb aA aA aA aA aA gC))))))
  (fun o =>
  .ret (bS [(ad 1),.ao false,.bj [] [] []] (.ax o)))
theorem Mh {eg:List dX}{ou:Int}{aT:List bA}{aG:List b4}{jv:Int}{r} (h:MA eg ou aT aG jv=some r):fk bo 183 0 3 [1,1,1,1,1,1,1,0,1,0,0,1,0,0] (Gd eg ou aT aG) (L9 eg ou aT aG) jv r:=fl (fun _=>Tn) h
def CC (fG:List Int):Option Bool :=
 if (decide ((1048576:Int)<(len_ eU8 fG)))=true then
  some true
 else
  Cy fG >>= fun bm =>
  wU bm.1 bm.2 >>= fun aX =>
  if aX=true then
   q3 bm.1 >>= fun bK =>
   if bK=true then
    tF bm.1 bm.2 >>= fun en =>
    if en.2=true then
     tH bm.1 en.1 >>= fun dv =>
     match dv with
     | .inl eU=>(if (((eU.length:Nat):Int) != (len_ d5 bm.1.bB))=true then
      some false
      else
       HR bm.1 eU >>= fun i7 =>
       if i7=true then
        y4 bm.1 en.1 eU >>= fun i9 =>
        if i9=true then
         BP bm.1 en.1 eU >>= fun KB =>
         match KB with
         | .inl pA=>(if (((pA.length:Nat):Int) != (0:Int))=true then
          some false
          else
           wX bm.1 bm.2 eU >>= fun A7 =>
           if A7=true then
            wC bm.1 en.1 eU >>= fun yn =>
            if (decide (yn<(0:Int)))=true then
             some false
            else
             if (decide (((eU.length:Nat):Int)≤yn))=true then
              some false
             else
              Ht en.1 ((eU.length:Nat):Int) bm.1.cR bm.1.bB 0 eU >>= fun KC =>
              match KC with
              | .inl KD=>(some true)
              | .inr KD=>(some false)
           else
            some false)
         | .inr pA=>(wX bm.1 bm.2 eU >>= fun k1 =>
          if k1=true then
           wC bm.1 en.1 eU >>= fun yo =>
           if (decide (yo<(0:Int)))=true then
            some false
           else
            if (decide (((eU.length:Nat):Int)≤yo))=true then
             some false
            else
             Ht en.1 ((eU.length:Nat):Int) bm.1.cR bm.1.bB 0 eU >>= fun KE =>
             match KE with
             | .inl KF=>(some true)
             | .inr KF=>(some false)
          else
           some false)
        else
         some false
       else
        some false)
     | .inr eU=>(MA en.1 (len_ d5 bm.1.bB) bm.1.cR bm.1.bB 0 >>= fun dP =>
      match dP with
      | .inl KG=>(some false)
      | .inr KG=>(some true))
    else
     Cv fG 40 >>= fun dv =>
     wX bm.1 bm.2 dv >>= fun eX =>
     some (!eX)
   else
    some false
  else
   some false
theorem UO {fG:List Int}:bQ (CC fG) (fun r=>Con bo 3 [.isl 1 (fG.map eU8)] [] (.b r) []):=by
 unfold CC
 exact .ite (fun o =>
  .ret (bP [(ad 1),(ad 3),.ao true,(ad 1)] (.ax o)))
  (fun o =>
  .az fun bm ab =>
  .az fun aX aF =>
  (let t1:List cw:=[(ad 1),(ad 3),.ao false,.aH (bH 1 (bT 1 (.cW [.agg (f9 bm.1),.isl 1 (bm.2.map J)]) false) 6)];
  have a6:=((.c8 o (UE bm ab) (MN aX aF) (cp.b aX)):cL _);
  .ite (fun br =>
  .az fun bK bx =>
  (let t3:List cw:=t1.append [.aH (ap 2 (ar (bT 2 (.b aX) true) (ap 3 (ar (bT 1 (.b bK) true) (ap 1 (ar (.ao false) []))))))];
  have fa:=a6.aZ (.fb (dc br) (dc br) (B2 bK bx) (cp.b bK) (dc br) (dc br));
  .ite (fun c2 =>
  .az fun en d2 =>
  (let t5:List cw:=t3.append [.ao false,.aH (bH 2 (bT 2 (.cW [.isl 3 (en.1.map fm),.b en.2]) false) 5),(ad 2)];
  have m1:=fa.aZ (.aC (dc c2) (Md en d2));
  .ite (fun ev =>
  .az fun dv eT =>
  (by
  rcases dv with eU|eU
  ·exact ((let t7:List cw:=t5.append [.ao false,.aH (bH 2 (.call {aM:=[],cu:=[],ac:=[ii,ii],r:= .cW [.bw 0 0 0 eU.length,.b true],db:=[(av 1 J eU)],eo:= .comp [.b9 .id,.b9 .id],e4:=[.pure],dd:=[],c9:=true}) 5),(ad 2),.ao false];
  have tp:=m1.aZ (.fb (dc ev) (fg 1 aD eU) (Mq (.inl eU) eT) (uq (l3 (cp.bw 0 0 0 eU.length) (l3 (cp.b true) sQ))) ((t8 (rP (rf r6) ug) uf):p5 [(av 1 J eU)]) gC);
  .ite (fun h5 =>
  .ret (bP (t7.append [.aH (ap 7 (dk 4 (ar (.ao true) (ap 1 (dk 5 (ap 2 (dk 6 (ap 2 (dk 5 (ap 1 [])))))))))),.ao true,(ad 1)]) (tp.aZ (.bt h5 h5 h5 h5 h5 ca ca ca (.bt ca ca ca ca ca ca ca ca (.fb ca ca ca ca ca ca))))))
  (fun h5 =>
  .az fun i7 j6 =>
  (have Sa:=tp.aZ (.bt h5 h5 h5 (ia J eU) (ht J eU) (eF aD eU) (UL i7 j6) (cp.b i7) (.aC h5 h5));
  .ite (fun gG =>
  .az fun i9 oE =>
  (have A5:=Sa.aZ (.bt (dc gG) (dc gG) (dc gG) (dc gG) (ia J eU) (ht J eU) (eF aD eU) (Mx i9 oE) (.bZ (cp.b i9) (dc gG) (dc gG)));
  .ite (fun h6 =>
  .az fun KB yi =>
  (have Rw:=A5.aZ (.e2 (dc h6) (dc h6) (dc h6) (dc h6) (ia J eU) (ht J eU) (eF aD eU));
  (by
  rcases KB with pA|pA
  ·exact ((have A6:=Rw.aZ (.e2 (fg 1 aD pA) (BL (.inl pA) yi) (cp.bw 0 0 0 pA.length) ((t8 (rP (rf r6) ug) uf):p5 [(av 1 J pA)]) (dc h6) (dc h6) (dc h6));
  .ite (fun nq =>
  .ret (bP (t7.append [.aH (ap 9 (ar (.call {ac:=[ii,.bF (.b9 (.e5 (eU.map J)))],r:= .b i7,c9:=true,dd:=[33]}) (ap 1 (ar (.ao false) (ap 4 (ar (.call {ac:=[ii,ii,.bF (.b9 (.e5 (eU.map J)))],r:= .b i9,c9:=true,dd:=[33]}) (ap 1 (ar (.ao false) (ap 4 (ar (.call {aM:=[],cu:=[],ac:=[ii,ii,.bF (.b9 (.e5 (eU.map J)))],r:= .bw 0 0 0 pA.length,db:=[(av 1 J pA)],eo:=ii,e4:=[.pure],dd:=[33],c9:=true}) (ap 2 (ar (.ao false) (ap 1 (dk 5 (ar (.ao true) []))))))))))))))),.ao true,(ad 1)]) (A6.aZ (.e2 nq nq nq nq nq nq ca))))
  (fun nq =>
  .az fun A7 A8 =>
  (let t13:List cw:=t7.append [.aH (ap 9 (ar (.call {ac:=[ii,.bF (.b9 (.e5 (eU.map J)))],r:= .b i7,c9:=true,dd:=[33]}) (ap 1 (ar (.ao false) (ap 4 (ar (.call {ac:=[ii,ii,.bF (.b9 (.e5 (eU.map J)))],r:= .b i9,c9:=true,dd:=[33]}) (ap 1 (ar (.ao false) (ap 4 (ar (.call {aM:=[],cu:=[],ac:=[ii,ii,.bF (.b9 (.e5 (eU.map J)))],r:= .bw 0 0 0 pA.length,db:=[(av 1 J pA)],eo:=ii,e4:=[.pure],dd:=[33],c9:=true}) (ap 2 (ar (.ao false) (ap 4 (ar (.call {ac:=[ii,ii,.bF (.b9 (.e5 (eU.map J)))],r:= .b A7,c9:=true,dd:=[33]}) (ap 1 (ar (.ao false) []))))))))))))))))];
  have Rx:=A6.aZ (.bt nq nq nq nq (ia J eU) (ht J eU) (eF aD eU) (HK A7 A8) (.bZ (cp.b A7) nq nq));
  .ite (fun sm =>
  .az fun yn f6 =>
  (let t15:List cw:=t13.append [.ao false,.aH (bH 3 (.call {ac:=[ii,ii,.bF (.b9 (.e5 (eU.map J)))],r:= .n .i64 yn,c9:=true,dd:=[33]}) 1)];
  have KH:=Rx.aZ (.fb (dc sm) (ia J eU) (ht J eU) (eF aD eU) (Mf yn f6) (cp.n .i64 yn));
  .ite (fun k2 =>
  .ret (bP (t15.append [.aH (ap 3 (dk 4 (ar (.ao true) []))),.ao true,(ad 1)]) (KH.aZ (.fb k2 k2 k2 k2 k2 ca))))
  (fun k2 =>
  (let t17:List cw:=t15.append [.aH (ap 7 (ar (.ao false) []))];
  .ite (fun KI =>
  .ret (bP (t17.append [.ao true,(ad 1)]) (KH.aZ (.fb k2 k2 k2 k2 k2 KI))))
  (fun KI =>
  .az fun KC A1 =>
  (let t18:List cw:=t17.append [.ao false,(ad 3),.bj [9,33] [.box [.id,.id],.pure] (bR [3,5,7,127,128])];
  have Ry:=KH.aZ (.e2 k2 k2 k2 k2 k2 KI (aE 1 .live aD eU));
  (by
  rcases KC with KD|KD
  ·exact (.ret (bP (t18.append [.sub (.exit 2) [] [],(ad 1)]) (Ry.aZ (.ax (B4 A1)))))
  ·exact (.ret (bP (t18.append [.sub (.ret) [(2,.b false)] []]) (Ry.aZ (.ax (B4 A1))))))))))))
  (fun sm =>
  .ret (bP (t13.append [.ao true,(ad 1)]) (Rx.aZ (.ax (df sm)))))))))
  ·exact (.az fun k1 uX =>
  (let t12:List cw:=t7.append [.aH (ap 9 (ar (.call {ac:=[ii,.bF (.b9 (.e5 (eU.map J)))],r:= .b i7,c9:=true,dd:=[33]}) (ap 1 (ar (.ao false) (ap 4 (ar (.call {ac:=[ii,ii,.bF (.b9 (.e5 (eU.map J)))],r:= .b i9,c9:=true,dd:=[33]}) (ap 1 (ar (.ao false) (ap 4 (ar (.call {aM:=[],cu:=[],ac:=[ii,ii,.bF (.b9 (.e5 (eU.map J)))],r:= .d7,db:=[],eo:=ii,e4:=[],dd:=[33],c9:=true}) (ap 2 (ar (.ao false) (bH 4 (.call {ac:=[ii,ii,.bF (.b9 (.e5 (eU.map J)))],r:= .b k1,c9:=true,dd:=[33]}) 2)))))))))))))];
  have Rz:=Rw.aZ (.bt (BL (.inr pA) yi) cp.d7 (dc h6) (dc h6) (dc h6) gC gC gC (.e2 gC (ia J eU) (ht J eU) (eF aD eU) (HK k1 uX) (cp.b k1) gC));
  .ite (fun A8 =>
  .az fun yo mU =>
  (let t14:List cw:=t12.append [.ao false,.aH (bH 3 (.call {ac:=[ii,ii,.bF (.b9 (.e5 (eU.map J)))],r:= .n .i64 yo,c9:=true,dd:=[33]}) 1)];
  have KJ:=Rz.aZ (.fb (dc A8) (ia J eU) (ht J eU) (eF aD eU) (Mf yo mU) (cp.n .i64 yo));
  .ite (fun f6 =>
  .ret (bP (t14.append [.aH (ap 3 (dk 4 (ar (.ao true) []))),.ao true,(ad 1)]) (KJ.aZ (.fb f6 f6 f6 f6 f6 ca))))
  (fun f6 =>
  (let t16:List cw:=t14.append [.aH (ap 7 (ar (.ao false) []))];
  .ite (fun k2 =>
  .ret (bP (t16.append [.ao true,(ad 1)]) (KJ.aZ (.fb f6 f6 f6 f6 f6 k2))))
  (fun k2 =>
  .az fun KE El =>
  (let t17:List cw:=t16.append [.ao false,(ad 3),.bj [9,33] [.box [.id,.id],.pure] (bR [3,5,7,127,128])];
  have RA:=KJ.aZ (.e2 f6 f6 f6 f6 f6 k2 (aE 1 .live aD eU));
  (by
  rcases KE with KF|KF
  ·exact (.ret (bP (t17.append [.sub (.exit 2) [] [],(ad 1)]) (RA.aZ (.ax (B4 El)))))
  ·exact (.ret (bP (t17.append [.sub (.ret) [(2,.b false)] []]) (RA.aZ (.ax (B4 El))))))))))))
  (fun A8 =>
  .ret (bP (t12.append [.ao true,(ad 1)]) (Rz.aZ (.ax (df A8))))))))))
  (fun h6 =>
  .ret (bP (t7.append [.aH (ap 9 (ar (.call {ac:=[ii,.bF (.b9 (.e5 (eU.map J)))],r:= .b i7,c9:=true,dd:=[33]}) (ap 1 (ar (.ao false) (ap 4 (ar (.call {ac:=[ii,ii,.bF (.b9 (.e5 (eU.map J)))],r:= .b i9,c9:=true,dd:=[33]}) (ap 1 (ar (.ao false) (ap 1 (dk 6 (ar (.ao true) (ap 1 (dk 5 (ap 1 [])))))))))))))),.ao true,(ad 1)]) (A5.aZ (.bt (df h6) (df h6) (df h6) (df h6) (df h6) (df h6) (df h6) ca (.ep ca ca ca ca ca)))))))
  (fun gG =>
  .ret (bP (t7.append [.aH (ap 9 (ar (.call {ac:=[ii,.bF (.b9 (.e5 (eU.map J)))],r:= .b i7,c9:=true,dd:=[33]}) (ap 1 (ar (.ao false) (ap 1 (dk 5 (ar (.ao true) (ap 1 (dk 6 (ap 2 (dk 5 (ap 1 [])))))))))))),.ao true,(ad 1)]) (Sa.aZ (.bt (df gG) (df gG) (df gG) (df gG) (df gG) (df gG) ca ca (.bt ca ca ca ca ca ca ca ca (.aC ca ca))))))))))
  ·exact (.az fun dP gh =>
  (let t7:List cw:=t5.append [.ao false,.aH (bH 2 (.call {aM:=[],cu:=[],ac:=[ii,ii],r:= .cW [.d7,.b false],db:=[],eo:=ii,e4:=[],dd:=[],c9:=true}) 5),(ad 2),.ao true,(ad 4),.bj [9] [.box [.id,.id]] (bR [3,5,7,58,59])];
  have tp:=m1.aZ (.c8 (dc ev) (Mq (.inr eU) eT) (uq (l3 cp.d7 (l3 (cp.b false) sQ))) ca);
  (by
  rcases dP with KG|KG
  ·exact (.ret (bP (t7.append [.sub (.exit 0) [] [],(ad 1)]) (tp.aZ (.ax (Mh gh)))))
  ·exact (.ret (bP (t7.append [.sub (.ret) [(2,.b true)] []]) (tp.aZ (.ax (Mh gh))))))))))
  (fun ev =>
  .az fun dv eT =>
  .az fun eX h5 =>
  .ret (bP (t5.append [.ao true,.aH (ap 3 (ar (bT 2 (.isl 1 (dv.map J)) false) (ar (bT 3 (.b eX) true) (ap 2 []))))]) (m1.aZ (.c8 (df ev) (UA dv eT) (HK eX h5) (cp.b eX)))))))
  (fun c2 =>
  .ret (bP (t3.append [.ao true,(ad 1)]) (fa.aZ (.ax (df c2)))))))
  (fun br =>
  .ret (bP (t1.append [.aH (ap 2 (ar (bT 2 (.b aX) true) (ap 2 (dk 3 (ar (.ao true) []))))),.ao true,(ad 1)]) (a6.aZ (.ep (df br) (df br) (df br) (df br) ca))))))
end Go.Proofs.YtgfpnhmcmgnepadGreat
