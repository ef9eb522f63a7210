/- Lemmas, plain functions of the program, and what they answer. No condition. -/
import Derived.Test.YtmmbmjbpfklkcaaGreatMC
namespace Go.Proofs.YtmmbmjbpfklkcaaGreat
set_option linter.unusedVariables false
set_option linter.unusedSimpArgs false
open Go Go.VL
def BH (aa:(List Int)) (eA:Nat) (ae:(List Int)) (cW:(List Int)):(List Int)→S:=fun dE=>dy [(0,.isl 1 (aa.map I)),(8,.aN 0 0 0 ae.length),(9,.aN 1 0 0 dE.length),(10,.aN 2 0 0 eA)] [[ab.mk 1 (ae.map I) .live],[ab.mk 1 (dE.map I) .live],[ab.mk 1 (cW.map I) .live]]
def B0 (aa:(List Int)) (eA:Nat) (ae:(List Int)) (cW:(List Int)):(List Int)→dB
 | a=>⟨some 0,[(8,.aN 0 0 0 ae.length),(9,.aN 1 0 0 a.length),(10,.aN 2 0 0 eA)],[[ab.mk 1 (ae.map I) .live],[ab.mk 1 (a.map I) .live],[ab.mk 1 (cW.map I) .live]]⟩
def xq (aa:(List Int)) (eA:Nat) (ae:(List Int)) (cW:(List Int)) (dE:(List Int)):Option (((List Int))⊕((List Int))) :=
 if (decide (((dE.length:Nat):Int)≤(len_ I aa)))=true then
  if (dE++([0]:List Int)).length*8≤140737488355328 then
  some (.inl (dE++([0]:List Int)))
  else none
 else
  some (.inr dE)
def xO (aa:(List Int)) (eA:Nat) (ae:(List Int)) (cW:(List Int)) (dE:(List Int)):Option ((List Int)):=iter (fun w:(List Int)=>xq aa eA ae cW w) dE
theorem Mc {aa:(List Int)} {eA:Nat} {ae:(List Int)} {cW:(List Int)} {dE:(List Int)}:bk (xq aa eA ae cW dE) (eg aY 172 0 124 [1,1,1,1,1,0,0,0] (BH aa eA ae cW dE) (BH aa eA ae cW) (B0 aa eA ae cW)):=by
 unfold xq
 exact .ite (fun h1 =>
  .bn fun h2 =>
  .ret (bz [.J (o 5 []),.ah true,.J (o 2 (ad (.az ((dE++([0]:List Int)).length)) (o 1 []))),.a4 [0,10,2] [.pure,.dr [ab.mk 1 ((dE++([0]:List Int)).map I) .live],.pure] (bB [0,8,9,10])] (.bh h1 (cq (show [[.n .i64 (0:Int)]]=(([0]:List Int)).map I from rfl) (show 1=([0]:List Int).length from rfl)) (ia (aD I dE) (ba dE)) (ib (ba dE) (hy (show [[.n .i64 (0:Int)]]=(([0]:List Int)).map I from rfl) (show 1=([0]:List Int).length from rfl)):(dE++([0]:List Int)).length=dE.length+(([[.n .i64 (0:Int)]].drop 0).take 1).length) h2 (bJ 1 .live a3 ae) (eb 1 .live (gf (aD I dE) (ba dE) (hy (show [[.n .i64 (0:Int)]]=(([0]:List Int)).map I from rfl) (show 1=([0]:List Int).length from rfl)))) (bJ 1 .live a3 (dE++([0]:List Int))) (.e1 (bJ 1 .live a3 cW)))))
  (fun h1 =>
  .ret (bz [.J (o 5 []),.ah false,.a4 [0,1,2] [.pure,.pure,.pure] (bB [8,9,10])] (.cp h1 (bJ 1 .live a3 ae) (bJ 1 .live a3 dE) (bJ 1 .live a3 cW))))
theorem NG {aa:(List Int)} {eA:Nat} {ae:(List Int)} {cW:(List Int)} {dE:(List Int)} {r} (h:xO aa eA ae cW dE=some r):eh aY 172 0 124 [1,1,1,1,1,0,0,0] (BH aa eA ae cW) (B0 aa eA ae cW) dE r:=ej (fun _=>Mc) h
def BI (c9:Nat) (eA:Nat) (bc:Int) (c2:Int) (ae:(List Int)) (dE:(List Int)) (cW:(List Int)) (d7:(List Int)):(Int×Int)→S:=fun (kg,dC)=>dy [(8,.aN 0 0 0 ae.length),(9,.aN 1 0 0 c9),(10,.aN 2 0 0 eA),(11,.n .i64 bc),(12,.aN 3 0 0 d7.length),(13,.n .i64 c2),(15,.n .i64 kg),(16,.n .i64 dC)] [[ab.mk 1 (ae.map I) .live],[ab.mk 1 (dE.map I) .live],[ab.mk 1 (cW.map I) .fx],[ab.mk 1 (d7.map I) .live]]
def B1 (c9:Nat) (eA:Nat) (bc:Int) (c2:Int) (ae:(List Int)) (dE:(List Int)) (cW:(List Int)) (d7:(List Int)):Int→dB
 | a=>⟨some 4,[(8,.aN 0 0 0 ae.length),(9,.aN 1 0 0 c9),(10,.aN 2 0 0 eA),(11,.n .i64 bc),(12,.aN 3 0 0 d7.length),(13,.n .i64 c2),(15,.n .i64 a)],[[ab.mk 1 (ae.map I) .live],[ab.mk 1 (dE.map I) .live],[ab.mk 1 (cW.map I) .fx],[ab.mk 1 (d7.map I) .live]]⟩
def pI (c9:Nat) (eA:Nat) (bc:Int) (c2:Int) (ae:(List Int)) (dE:(List Int)) (cW:(List Int)) (d7:(List Int)) (kg:Int) (dC:Int):Option ((Int×Int)⊕(Int)) :=
 if (decide ((1000000000:Int)≤kg))=true then
  if 0≤(U (bc-(1:Int)))∧(U (bc-(1:Int)))<(eA:Nat) then
  cW[(0+(U (bc-(1:Int))).toNat)]? >>= fun an =>
  if (decide ((1000000000:Int)≤(U (dC+an))))=true then
   some (.inr (U (kg-(1:Int))))
  else
   some (.inl (U (kg-(1:Int)),U (dC+an)))
  else none
 else
  if 0≤(U (bc-(2:Int)))∧(U (bc-(2:Int)))<(eA:Nat) then
  cW[(0+(U (bc-(2:Int))).toNat)]? >>= fun an =>
  if 0≤(U ((U (c2+bc))-(2:Int)))∧(U ((U (c2+bc))-(2:Int)))<(c9:Nat) then
  dE[(0+(U ((U (c2+bc))-(2:Int))).toNat)]? >>= fun bW =>
  if (decide ((U ((U (dC*(1000000000:Int)))+bW))<(U (kg*an))))=true then
   if 0≤(U (bc-(1:Int)))∧(U (bc-(1:Int)))<(eA:Nat) then
   cW[(0+(U (bc-(1:Int))).toNat)]? >>= fun ze =>
   if (decide ((1000000000:Int)≤(U (dC+ze))))=true then
    some (.inr (U (kg-(1:Int))))
   else
    some (.inl (U (kg-(1:Int)),U (dC+ze)))
   else none
  else
   some (.inr kg)
  else none
  else none
def CH (c9:Nat) (eA:Nat) (bc:Int) (c2:Int) (ae:(List Int)) (dE:(List Int)) (cW:(List Int)) (d7:(List Int)) (kg:Int) (dC:Int):Option (Int):=iter (fun w:Int×Int=>pI c9 eA bc c2 ae dE cW d7 w.1 w.2) (kg,dC)
theorem Md {c9:Nat} {eA:Nat} {bc:Int} {c2:Int} {ae:(List Int)} {dE:(List Int)} {cW:(List Int)} {d7:(List Int)} {kg:Int} {dC:Int}:bk (pI c9 eA bc c2 ae dE cW d7 kg dC) (eg aY 172 0 124 [1,1,1,1,1,1,1,1,0,1,0,0,1,0,0,1,1,0,0,0] (BI c9 eA bc c2 ae dE cW d7 (kg,dC)) (BI c9 eA bc c2 ae dE cW d7) (B1 c9 eA bc c2 ae dE cW d7)):=by
 unfold pI
 exact .ite (fun h1 =>
  .bn fun h2 =>
  .au fun an ap =>
  (let t1:List bE:=[.J (o 3 (ch 18 (ad (.ah true) []))),.ah true,.J (o 3 []),.J (o 5 (ad (.b8 (I an)) (o 2 []))),.J (o 2 [])];
  have aO:=((.bh h1 h1 h1 h1 h1 h1 h1 h1 (.bh h1 h1 h1 h1 h1 h1 h1 h1 (.dP h1 h1 h1 bG h2.1 h2.2 (cB I ap)))):cd _);
  .ite (fun aE =>
  .ret (bz (t1.append [.ah true,.a4 [0,1,2,3] [.pure,.pure,.pure,.pure] (bB [8,9,10,11,12,13,15])]) (aO.az (.cM aE (bJ 1 .live a3 ae) (bJ 1 .live a3 dE) (bJ 1 .fx a3 cW) (bJ 1 .live a3 d7)))))
  (fun aE =>
  .ret (bz (t1.append [.ah false,.a4 [0,1,2,3] [.pure,.pure,.pure,.pure] (bB [8,9,10,11,12,13,15,16])]) (aO.az (.cM aE (bJ 1 .live a3 ae) (bJ 1 .live a3 dE) (bJ 1 .fx a3 cW) (bJ 1 .live a3 d7)))))))
  (fun h1 =>
  .bn fun h2 =>
  .au fun an ap =>
  .bn fun aE =>
  .au fun bW bd =>
  (let t1:List bE:=[.J (o 8 (ad (.b8 (I an)) (o 9 (ad (.b8 (I bW)) (o 2 (ad (.ah false) []))))))];
  have aO:=((.bh h1 h1 h1 h1 h1 h2.1 h2.2 h1 (.bh (cB I ap) h1 h1 h1 h1 h1 h1 h1 (.bh h1 h1 aE.1 aE.2 h1 (cB I bd) h1 h1 (.e1 h1)))):cd _);
  .ite (fun bL =>
  .bn fun c3 =>
  .au fun ze fi =>
  (let t3:List bE:=t1.append [.ah true,.J (o 3 []),.J (o 5 (ad (.b8 (I ze)) (o 2 []))),.J (o 2 [])];
  .ite (fun fB =>
  .ret (bz (t3.append [.ah true,.a4 [0,1,2,3] [.pure,.pure,.pure,.pure] (bB [8,9,10,11,12,13,15])]) (aO.az (.bh bL c3.1 c3.2 (cB I fi) fB (bJ 1 .live a3 ae) (bJ 1 .live a3 dE) (bJ 1 .fx a3 cW) (.e1 (bJ 1 .live a3 d7))))))
  (fun fB =>
  .ret (bz (t3.append [.ah false,.a4 [0,1,2,3] [.pure,.pure,.pure,.pure] (bB [8,9,10,11,12,13,15,16])]) (aO.az (.bh bL c3.1 c3.2 (cB I fi) fB (bJ 1 .live a3 ae) (bJ 1 .live a3 dE) (bJ 1 .fx a3 cW) (.e1 (bJ 1 .live a3 d7))))))))
  (fun bL =>
  .ret (bz (t1.append [.ah false,.a4 [0,1,2,3] [.pure,.pure,.pure,.pure] (bB [8,9,10,11,12,13,15])]) (aO.az (.cM bL (bJ 1 .live a3 ae) (bJ 1 .live a3 dE) (bJ 1 .fx a3 cW) (bJ 1 .live a3 d7)))))))
theorem NH {c9:Nat} {eA:Nat} {bc:Int} {c2:Int} {ae:(List Int)} {dE:(List Int)} {cW:(List Int)} {d7:(List Int)} {kg:Int} {dC:Int} {r} (h:CH c9 eA bc c2 ae dE cW d7 kg dC=some r):eh aY 172 0 124 [1,1,1,1,1,1,1,1,0,1,0,0,1,0,0,1,1,0,0,0] (BI c9 eA bc c2 ae dE cW d7) (B1 c9 eA bc c2 ae dE cW d7) (kg,dC) r:=ej (fun _=>Md) h
def BJ (c9:Nat) (eA:Nat) (bc:Int) (ae:(List Int)) (cW:(List Int)):(Int×(List Int)×(List Int))→S:=fun (c2,dE,d7)=>dy [(8,.aN 0 0 0 ae.length),(9,.aN 1 0 0 c9),(10,.aN 2 0 0 eA),(11,.n .i64 bc),(12,.aN 3 0 0 d7.length),(13,.n .i64 c2)] [[ab.mk 1 (ae.map I) .live],[ab.mk 1 (dE.map I) .live],[ab.mk 1 (cW.map I) .fx],[ab.mk 1 (d7.map I) .live]]
def B2 (c9:Nat) (eA:Nat) (bc:Int) (ae:(List Int)) (cW:(List Int)):((List Int)×(List Int))→dB
 | a=>⟨some 2,[(8,.aN 0 0 0 ae.length),(9,.aN 1 0 0 c9),(12,.aN 2 0 0 a.2.length)],[[ab.mk 1 (ae.map I) .live],[ab.mk 1 (a.1.map I) .live],[ab.mk 1 (a.2.map I) .live]]⟩
def pJ (c9:Nat) (eA:Nat) (bc:Int) (ae:(List Int)) (cW:(List Int)) (c2:Int) (dE:(List Int)) (d7:(List Int)):Option ((Int×(List Int)×(List Int))⊕((List Int)×(List Int))) :=
 if (decide ((0:Int)≤c2))=true then
  if 0≤(U (c2+bc))∧(U (c2+bc))<(c9:Nat) then
  dE[(0+(U (c2+bc)).toNat)]? >>= fun an =>
  if 0≤(U ((U (c2+bc))-(1:Int)))∧(U ((U (c2+bc))-(1:Int)))<(c9:Nat) then
  dE[(0+(U ((U (c2+bc))-(1:Int))).toNat)]? >>= fun bW =>
  if 0≤(U (bc-(1:Int)))∧(U (bc-(1:Int)))<(eA:Nat) then
  cW[(0+(U (bc-(1:Int))).toNat)]? >>= fun dS =>
  if dS≠0 then
  CH c9 eA bc c2 ae dE cW d7 (U ((U ((U (an*(1000000000:Int)))+bW)).tdiv dS)) ((U ((U (an*(1000000000:Int)))+bW)).tmod dS) >>= fun ay =>
  if 0≤c2 then
  if c2.toNat≤c9 then
  if 0+eA≤cW.length then
  uZ ((cW.drop 0).take eA) ay (0+c2.toNat) (c9-c2.toNat) dE >>= fun gy =>
  if gy.1=true then
   sD ((cW.drop 0).take eA) (0+c2.toNat) (c9-c2.toNat) gy.2 >>= fun iz =>
   if 0≤c2∧c2<(d7.length:Nat) then
   if (0+c2.toNat)<d7.length then
   some (.inl (U (c2-(1:Int)),iz,d7.set (0+c2.toNat) (U (ay-(1:Int)))))
   else none
   else none
  else
   if 0≤c2∧c2<(d7.length:Nat) then
   if (0+c2.toNat)<d7.length then
   some (.inl (U (c2-(1:Int)),gy.2,d7.set (0+c2.toNat) ay))
   else none
   else none
  else none
  else none
  else none
  else none
  else none
  else none
  else none
 else
  some (.inr (dE,d7))
def CI (c9:Nat) (eA:Nat) (bc:Int) (ae:(List Int)) (cW:(List Int)) (c2:Int) (dE:(List Int)) (d7:(List Int)):Option ((List Int)×(List Int)):=iter (fun w:Int×(List Int)×(List Int)=>pJ c9 eA bc ae cW w.1 w.2.1 w.2.2) (c2,dE,d7)
theorem Me {c9:Nat} {eA:Nat} {bc:Int} {ae:(List Int)} {cW:(List Int)} {c2:Int} {dE:(List Int)} {d7:(List Int)}:bk (pJ c9 eA bc ae cW c2 dE d7) (eg aY 172 0 124 [1,1,1,1,1,1,1,1,0,1,0,0] (BJ c9 eA bc ae cW (c2,dE,d7)) (BJ c9 eA bc ae cW) (B2 c9 eA bc ae cW)):=by
 unfold pJ
 exact .ite (fun h1 =>
  .bn fun h2 =>
  .au fun an ap =>
  .bn fun aE =>
  .au fun bW bd =>
  .bn fun bL =>
  .au fun dS cR =>
  .bn fun fi =>
  .au fun ay ex =>
  .bn fun ez =>
  .bn fun gN =>
  .bn fun gY =>
  .au fun gy iO =>
  (let t1:List bE:=[.J (o 2 []),.ah true,.J (o 5 (ad (.b8 (I an)) (o 7 (ad (.b8 (I bW)) (o 2 []))))),.J (o 5 (ad (.b8 (I dS)) (o 6 (ad (.b8 (I dS)) (o 3 []))))),.a4 [0,1,2,3] [.pure,.pure,.pure,.pure] (bB [8,9,10,11,12,13,15,16]),(B1 c9 eA bc c2 ae dE cW d7 ay).fo,.J (o 5 (ad (.call {aB:=[.row 1],bN:=[.pure],ac:=[ii,.bo (.bX (.cL (((cW.drop 0).take eA).map I))),ii],r:= .b gy.1,cg:=[[ab.mk 1 (gy.2.map I) .live]],cC:=ii,cQ:=[.pure],b6:=[1,2],b5:=false}) []))];
  have aO:=((.bh h1 h2.1 h2.2 (cB I ap) aE.1 aE.2 (cB I bd) bL.1 (.bh bL.2 (cB I cR) fi bL.1 bL.2 (cB I cR) fi (bJ 1 .live a3 ae) (.bh (bJ 1 .live a3 dE) (bJ 1 .fx a3 cW) (bJ 1 .live a3 d7) (NH ex) ez gN (Nat.le_refl c9) (mX (aD I cW) 0 eA) (.cM (lv (aD I cW) gY) (cn a3 ((cW.drop 0).take eA)) (ec 1 a3 dE) (ec 1 a3 gy.2) (NW gy iO))))):cd _);
  .ite (fun ks =>
  .au fun iz fM =>
  .bn fun jj =>
  .bn fun nQ =>
  .ret (bz (t1.append [.ah true,.J (o 3 []),.J (o 4 (ad (.call {aB:=[.row 1],bN:=[.pure],ac:=[ii,.bo (.bX (.cL (((cW.drop 0).take eA).map I)))],r:= .cz [],cg:=[[ab.mk 1 (iz.map I) .live]],cC:=ii,cQ:=[.pure],b6:=[1,2],b5:=false}) [])),.J (o 4 (ad .cY [])),.J (o 3 []),.a4 [0,1,2,3] [.pure,.pure,.pure,.dr [ab.mk 1 ((d7.set (0+c2.toNat) (U (ay-(1:Int)))).map I) .live]] [(8,ii),(9,ii),(10,ii),(11,ii),(12,e6 ((d7.set (0+c2.toNat) (U (ay-(1:Int)))).length)),(13,ii)]]) (aO.az (.bh ks ez gN (Nat.le_refl c9) (mX (aD I cW) 0 eA) (lv (aD I cW) gY) (cn a3 ((cW.drop 0).take eA)) (ec 1 a3 gy.2) (.bh (ec 1 a3 iz) (NX iz fM) jj.1 jj.2 (g7 I nQ) (gT 1) (bJ 1 .live a3 ae) (bJ 1 .live a3 iz) (.cp (bJ 1 .fx a3 cW) (eb 1 .live (fZ (aD I d7) (0+c2.toNat) (U (ay-(1:Int))))) (bJ 1 .live a3 (d7.set (0+c2.toNat) (U (ay-(1:Int))))) (fQ (ba d7) (0+c2.toNat) (U (ay-(1:Int))))))))))
  (fun ks =>
  .bn fun hR =>
  .bn fun fM =>
  .ret (bz (t1.append [.ah false,.J (o 4 (ad .cY [])),.J (o 3 []),.a4 [0,1,2,3] [.pure,.pure,.pure,.dr [ab.mk 1 ((d7.set (0+c2.toNat) ay).map I) .live]] [(8,ii),(9,ii),(10,ii),(11,ii),(12,e6 ((d7.set (0+c2.toNat) ay).length)),(13,ii)]]) (aO.az (.bh ks hR.1 hR.2 (g7 I fM) (gT 1) (bJ 1 .live a3 ae) (bJ 1 .live a3 gy.2) (bJ 1 .fx a3 cW) (.bp (eb 1 .live (fZ (aD I d7) (0+c2.toNat) ay)) (bJ 1 .live a3 (d7.set (0+c2.toNat) ay)) (fQ (ba d7) (0+c2.toNat) ay))))))))
  (fun h1 =>
  .ret (bz [.J (o 2 []),.ah false,.a4 [0,1,3] [.pure,.pure,.pure] (bB [8,9,12])] (.cp h1 (bJ 1 .live a3 ae) (bJ 1 .live a3 dE) (bJ 1 .live a3 d7))))
theorem NI {c9:Nat} {eA:Nat} {bc:Int} {ae:(List Int)} {cW:(List Int)} {c2:Int} {dE:(List Int)} {d7:(List Int)} {r} (h:CI c9 eA bc ae cW c2 dE d7=some r):eh aY 172 0 124 [1,1,1,1,1,1,1,1,0,1,0,0] (BJ c9 eA bc ae cW) (B2 c9 eA bc ae cW) (c2,dE,d7) r:=ej (fun _=>Me) h
def qa (aa:(List Int)) (ak:(List Int)):Option ((List Int)×(List Int)) :=
 oH aa ak >>= fun r1 =>
 if (decide (r1<(0:Int)))=true then
  vq aa >>= fun bb =>
  some (([]:List Int),bb)
 else
  if ((len_ I ak) == (1:Int))=true then
   if 0≤(0:Int)∧(0:Int)<ak.length then
   ak[0]? >>= fun bW =>
   sb aa bW >>= fun eM =>
   pV (IntKind.wrap .u64 eM.2) >>= fun aA =>
   some (eM.1,aA)
   else none
  else
   if 0≤(U ((len_ I ak)-(1:Int)))∧(U ((len_ I ak)-(1:Int)))<ak.length then
   ak[(U ((len_ I ak)-(1:Int))).toNat]? >>= fun bW =>
   if (U (bW+(1:Int)))≠0 then
   so aa ([U ((1000000000:Int).tdiv (U (bW+(1:Int))))]:List Int) >>= fun cu =>
   if cu.1≤cu.2.length then
   if (cu.2.take cu.1++([0]:List Int)).length*8≤140737488355328 then
   so ak ([U ((1000000000:Int).tdiv (U (bW+(1:Int))))]:List Int) >>= fun dN =>
   xO aa dN.1 ([U ((1000000000:Int).tdiv (U (bW+(1:Int))))]:List Int) dN.2 (cu.2.take cu.1++([0]:List Int)) >>= fun et =>
   if 0≤(U (((et.length:Nat):Int)-((dN.1:Nat):Int)))∧(8:Int)*(U (((et.length:Nat):Int)-((dN.1:Nat):Int)))≤281474976710656∧(U (((et.length:Nat):Int)-((dN.1:Nat):Int)))<9223372036854775808 then
   CI et.length dN.1 ((dN.1:Nat):Int) ([U ((1000000000:Int).tdiv (U (bW+(1:Int))))]:List Int) dN.2 (U ((U (((et.length:Nat):Int)-((dN.1:Nat):Int)))-(1:Int))) et (List.replicate (U (((et.length:Nat):Int)-((dN.1:Nat):Int))).toNat 0:List Int) >>= fun fO =>
   if 0+et.length≤fO.1.length then
   mh ((fO.1.drop 0).take et.length) >>= fun zf =>
   if 0≤(0:Int)∧(0:Int)<(([U ((1000000000:Int).tdiv (U (bW+(1:Int))))]:List Int).length:Nat) then
   ([U ((1000000000:Int).tdiv (U (bW+(1:Int))))]:List Int)[0]? >>= fun EF =>
   sb zf EF >>= fun wH =>
   mh fO.2 >>= fun zg =>
   some (zg,wH.1)
   else none
   else none
   else none
   else none
   else none
   else none
   else none
theorem CJ {aa:(List Int)} {ak:(List Int)}:bk (qa aa ak) (fun r=>Con aY 124 [.isl 1 (aa.map I),.isl 1 (ak.map I)] [] (.cz [.isl 1 (r.1.map I),.isl 1 (r.2.map I)]) []):=by
 unfold qa
 exact .au fun r1 h2 =>
  (let t1:List bE:=[.J (o 2 []),.J (o 2 (ad (a7 2 (.n .i64 r1) true) (o 1 [])))];
  have aO:=((.e2 (xy r1 h2) (aK.n .i64 r1)):cd _);
  .ite (fun ag =>
  .au fun bb aE =>
  .ret (aU (t1.append [.ah true,.J (o 1 (ad (a7 1 (.isl 1 (bb.map I)) false) (o 2 [])))]) (aO.az (.e2 ag (O7 bb aE))) (.comp [.bX (.eO 1),.bX .id])))
  (fun ag =>
  .ite (fun ap =>
  .bn fun aE =>
  .au fun bW bd =>
  .au fun eM c3 =>
  .au fun aA fi =>
  .ret (aU (t1.append [.ah false,.J (o 3 []),.ah true,.J (o 3 (ad (.b8 (I bW)) (ad (a7 2 (.cz [.isl 1 (eM.1.map I),.n .i64 eM.2]) false) (o 5 [])))),.J (o 3 (ad (a7 1 (.isl 1 (aA.map I)) false) (o 2 [])))]) (aO.az (.dP ag ap aE.1 (dd I aE.2) (cB I bd) (FY eM c3) (Cd aA fi)))))
  (fun ap =>
  .bn fun aE =>
  .au fun bW bd =>
  .bn fun bL =>
  .au fun cu cR =>
  .bn fun fi =>
  .bn fun fB =>
  .au fun dN ez =>
  .au fun et gY =>
  .bn fun hq =>
  .au fun fO ks =>
  .bn fun hR =>
  .au fun zf jj =>
  .bn fun nQ =>
  .au fun EF dK =>
  .au fun wH SE =>
  .au fun zg ku =>
  .ret (aU (t1.append [.ah false,.J (o 3 []),.ah false,.J (o 5 (ad (.b8 (I bW)) (o 4 []))),.J (o 2 (ad (.call {aB:=[],bN:=[],ac:=[ii,.bo (.bX (.cL (([U ((1000000000:Int).tdiv (U (bW+(1:Int))))]:List Int).map I)))],r:= .aN 0 0 0 cu.1,cg:=[[ab.mk 1 (cu.2.map I) .live]],cC:=ii,cQ:=[.pure],b6:=[17],b5:=true}) (o 1 (ad (.az ((cu.2.take cu.1++([0]:List Int)).length)) (o 2 (ad (.call {aB:=[],bN:=[],ac:=[ii,.bo (.bX (.cL (([U ((1000000000:Int).tdiv (U (bW+(1:Int))))]:List Int).map I)))],r:= .aN 0 0 0 dN.1,cg:=[[ab.mk 1 (dN.2.map I) .live]],cC:=ii,cQ:=[.pure],b6:=[17],b5:=true}) (o 2 []))))))),.a4 [17,23,26] [.dr [ab.mk 1 (([U ((1000000000:Int).tdiv (U (bW+(1:Int))))]:List Int).map I) .live],.dr [ab.mk 1 ((cu.2.take cu.1++([0]:List Int)).map I) .live],.pure] [(0,ii),(8,e6 (([U ((1000000000:Int).tdiv (U (bW+(1:Int))))]:List Int).length)),(9,ii),(10,ii)],(B0 aa dN.1 ([U ((1000000000:Int).tdiv (U (bW+(1:Int))))]:List Int) dN.2 et).fo,.J (o 3 []),.J (o 6 []),.J (o 6 []),.a4 [0,1,2,10] [.pure,.pure,.pure,.dr [ab.mk 1 ((List.replicate (U (((et.length:Nat):Int)-((dN.1:Nat):Int))).toNat 0:List Int).map I) .live]] [(8,ii),(9,ii),(10,ii),(11,ii),(12,e6 ((List.replicate (U (((et.length:Nat):Int)-((dN.1:Nat):Int))).toNat 0:List Int).length)),(13,ii)],.fx 2,.a4 [0,1,2,3] [.pure,.pure,.pure,.pure] (bB [8,9,10,11,12,13]),(B2 et.length dN.1 ((dN.1:Nat):Int) ([U ((1000000000:Int).tdiv (U (bW+(1:Int))))]:List Int) dN.2 fO).fo,.fx 1,.J (o 1 (ad (.call {ac:=[.bo (.bX (.cL (((fO.1.drop 0).take et.length).map I)))],r:= .isl 1 (zf.map I),b5:=false,b6:=[1]}) (o 2 (ad (.b8 (I EF)) (ad (a7 2 (.cz [.isl 1 (wH.1.map I),.n .i64 wH.2]) false) (o 5 [])))))),.fx 2,.J (o 1 (ad (.call {ac:=[.bo (.bX (.cL (fO.2.map I)))],r:= .isl 1 (zg.map I),b5:=false,b6:=[2]}) (o 3 [])))]) (aO.az (.bh ag ap aE.1 (dd I aE.2) (cB I bd) bL (dv (show [[.n .i64 (U ((1000000000:Int).tdiv (U (bW+(1:Int)))))]]=(([U ((1000000000:Int).tdiv (U (bW+(1:Int))))]:List Int)).map I from rfl) (show 1=([U ((1000000000:Int).tdiv (U (bW+(1:Int))))]:List Int).length from rfl)) (cq (show [[.n .i64 (U ((1000000000:Int).tdiv (U (bW+(1:Int)))))]]=(([U ((1000000000:Int).tdiv (U (bW+(1:Int))))]:List Int)).map I from rfl) (show 1=([U ((1000000000:Int).tdiv (U (bW+(1:Int))))]:List Int).length from rfl)) (.bh (cn a3 ([U ((1000000000:Int).tdiv (U (bW+(1:Int))))]:List Int)) (ec 1 a3 cu.2) (Ge cu cR) (aK.aN 0 0 0 cu.1) ((e3 (d6 (dW fu) gJ) e4):eL [[ab.mk 1 (cu.2.map I) .live]]) (cq (show [[.n .i64 (0:Int)]]=(([0]:List Int)).map I from rfl) (show 1=([0]:List Int).length from rfl)) (lv (aD I cu.2) fi) (Qo fi (hy (show [[.n .i64 (0:Int)]]=(([0]:List Int)).map I from rfl) (show 1=([0]:List Int).length from rfl)):(cu.2.take cu.1++([0]:List Int)).length=cu.1+(([[.n .i64 (0:Int)]].drop 0).take 1).length) (.bh fB (dv (show [[.n .i64 (U ((1000000000:Int).tdiv (U (bW+(1:Int)))))]]=(([U ((1000000000:Int).tdiv (U (bW+(1:Int))))]:List Int)).map I from rfl) (show 1=([U ((1000000000:Int).tdiv (U (bW+(1:Int))))]:List Int).length from rfl)) (cq (show [[.n .i64 (U ((1000000000:Int).tdiv (U (bW+(1:Int)))))]]=(([U ((1000000000:Int).tdiv (U (bW+(1:Int))))]:List Int)).map I from rfl) (show 1=([U ((1000000000:Int).tdiv (U (bW+(1:Int))))]:List Int).length from rfl)) (cn a3 ([U ((1000000000:Int).tdiv (U (bW+(1:Int))))]:List Int)) (ec 1 a3 dN.2) (Ge dN ez) (aK.aN 0 0 0 dN.1) ((e3 (d6 (dW fu) gJ) e4):eL [[ab.mk 1 (dN.2.map I) .live]]) (.bh (eb 1 .live (show [[.n .i64 (U ((1000000000:Int).tdiv (U (bW+(1:Int)))))]]=(([U ((1000000000:Int).tdiv (U (bW+(1:Int))))]:List Int)).map I from rfl)) (bJ 1 .live a3 ([U ((1000000000:Int).tdiv (U (bW+(1:Int))))]:List Int)) (eb 1 .live (Qn (aD I cu.2) cu.1 (hy (show [[.n .i64 (0:Int)]]=(([0]:List Int)).map I from rfl) (show 1=([0]:List Int).length from rfl)))) (bJ 1 .live a3 (cu.2.take cu.1++([0]:List Int))) (bJ 1 .live a3 dN.2) (show 1=([U ((1000000000:Int).tdiv (U (bW+(1:Int))))]:List Int).length from rfl) (NG gY) hq.1 (.bh (Int.le_refl (U (((et.length:Nat):Int)-((dN.1:Nat):Int)))) hq.2.1 hq.2.2 (bJ 1 .live a3 ([U ((1000000000:Int).tdiv (U (bW+(1:Int))))]:List Int)) (bJ 1 .live a3 et) (bJ 1 .live a3 dN.2) (eb 1 .live (kB I (U (((et.length:Nat):Int)-((dN.1:Nat):Int))).toNat 0)) (bJ 1 .live a3 (List.replicate (U (((et.length:Nat):Int)-((dN.1:Nat):Int))).toNat 0:List Int)) (.bh (kC (U (((et.length:Nat):Int)-((dN.1:Nat):Int))).toNat (0:Int)) (bJ 1 .live a3 ([U ((1000000000:Int).tdiv (U (bW+(1:Int))))]:List Int)) (bJ 1 .live a3 et) (bJ 1 .fx a3 dN.2) (bJ 1 .live a3 (List.replicate (U (((et.length:Nat):Int)-((dN.1:Nat):Int))).toNat 0:List Int)) (NI ks) (mX (aD I fO.1) 0 et.length) (lv (aD I fO.1) hR) (.bh (cn a3 ((fO.1.drop 0).take et.length)) (pU zf jj) nQ.1 nQ.2 (cB I dK) (FY wH SE) (dv (aD I fO.2) (ba fO.2)) (cq (aD I fO.2) (ba fO.2)) (.e2 (cn a3 fO.2) (pU zg ku))))))))))))))
def AH:((List Int)×(List Int))→S:=fun (aa,ak)=>dy [(0,.isl 1 (aa.map I)),(1,.isl 1 (ak.map I))] []
def A8:(List Int)→dB
 | a=>⟨some 0,[(0,.isl 1 (a.map I))],[]⟩
def rN (aa:(List Int)) (ak:(List Int)):Option (((List Int)×(List Int))⊕((List Int))) :=
 if (decide ((0:Int)<(len_ I ak)))=true then
  qa aa ak >>= fun r2 =>
  some (.inl (ak,r2.2))
 else
  some (.inr aa)
def Cf (aa:(List Int)) (ak:(List Int)):Option ((List Int)):=iter (fun w:(List Int)×(List Int)=>rN w.1 w.2) (aa,ak)
theorem Lx {aa:(List Int)} {ak:(List Int)}:bk (rN aa ak) (eg aY 19 0 122 [1,0,0,0] (AH (aa,ak)) (AH) (A8)):=by
 unfold rN
 exact .ite (fun h1 =>
  .au fun r2 ag =>
  .ret (bz [.J (o 3 []),.ah true,.J (o 2 (ad (a7 2 (.cz [.isl 1 (r2.1.map I),.isl 1 (r2.2.map I)]) false) (o 5 []))),.J (o 4 []),.a4 [] [] (bB [0,1])] (.e2 h1 (CJ r2 ag))))
  (fun h1 =>
  .ret (bz [.J (o 3 []),.ah false,.a4 [] [] (bB [0])] (.e1 h1)))
theorem MI {aa:(List Int)} {ak:(List Int)} {r} (h:Cf aa ak=some r):eh aY 19 0 122 [1,0,0,0] (AH) (A8) (aa,ak) r:=ej (fun _=>Lx) h
def sq (aa:(List Int)) (ak:(List Int)):Option (List Int) :=
 Cf aa ak >>= fun r1 =>
 some r1
theorem Gf {aa:(List Int)} {ak:(List Int)}:bk (sq aa ak) (fun r=>Con aY 122 [.isl 1 (aa.map I),.isl 1 (ak.map I)] [] (.isl 1 (r.map I)) []):=by
 unfold sq
 exact .au fun r1 h2 =>
  .ret (aU [.J (o 1 []),.a4 [] [] (bB [0,1]),(A8 r1).fo,.J (o 2 [])] (.e1 (MI h2)))
def u9 (cl:bF):Option Bool :=
 uE cl.bm >>= fun r1 =>
 if r1=true then
  p6 cl.bO >>= fun bb =>
  if bb=true then
   if ((len_ I cl.bO) == (0:Int))=true then
    some false
   else
    if (decide ((24:Int)<(len_ I cl.bm.a9)))=true then
     some false
    else
     if (decide ((24:Int)<(len_ I cl.bO)))=true then
      some false
     else
      sq cl.bm.a9 cl.bO >>= fun aA =>
      oH aA ([1]:List Int) >>= fun ay =>
      some (ay == (0:Int))
  else
   some false
 else
  some false
theorem N7 {cl:bF}:bk (u9 cl) (fun r=>Con aY 120 [.agg [.b cl.bm.bM,.isl 1 (cl.bm.a9.map I),.isl 1 (cl.bO.map I)]] [] (.b r) []):=by
 unfold u9
 exact .au fun r1 h2 =>
  (have bt:=((.e2 (Ni r1 h2) (aK.b r1)):cd _);
  .ite (fun ag =>
  .au fun bb aE =>
  (have aO:=bt.az (.dP (bK ag) (bK ag) (bK ag) (Gx bb aE) (aK.b bb) (bK ag) (bK ag));
  .ite (fun aQ =>
  (have dZ:=aO.az (.cM (bK aQ) (bK aQ) (bK aQ) (bK aQ) (bK aQ));
  .ite (fun bd =>
  .ret (aU [.J (o 2 []),.J (o 2 (ad (a7 1 (.b r1) true) (o 4 (ad (a7 1 (.b bb) true) (o 1 (ad (.ah false) (o 5 (ad (.ah false) (o 1 (ch 5 (ad (.ah true) (o 1 (ch 4 (o 1 [])))))))))))))),.ah true,.J (o 1 [])] (dZ.az (.bh bd bd bd bd bd bd bG bG (.bp bG bG bG)))))
  (fun bd =>
  .ite (fun bL =>
  .ret (aU [.J (o 2 []),.J (o 2 (ad (a7 1 (.b r1) true) (o 4 (ad (a7 1 (.b bb) true) (o 1 (ad (.ah false) (o 5 (ad (.ah false) (o 6 (ad (.ah false) (o 1 (ch 4 (ad (.ah true) []))))))))))))),.ah true,.J (o 1 [])] (dZ.az (.bh bd bd bd bd bd bd bL bL (.cp bL bL bL bG)))))
  (fun bL =>
  (let t4:List bE:=[.J (o 2 []),.J (o 2 (ad (a7 1 (.b r1) true) (o 4 (ad (a7 1 (.b bb) true) (o 1 (ad (.ah false) (o 5 (ad (.ah false) (o 6 (ad (.ah false) (o 5 (ad (.ah false) []))))))))))))];
  have kd:=dZ.az (.bh bd bd bd bd bd bd bL bL (.bp bL bL bL));
  .ite (fun c3 =>
  .ret (aU (t4.append [.ah true,.J (o 1 [])]) (kd.az (.e1 c3))))
  (fun c3 =>
  .au fun aA fi =>
  .au fun ay ex =>
  .ret (aU (t4.append [.ah false,.J (o 5 (ad (a7 2 (.isl 1 (aA.map I)) false) (o 1 (ad (.call {ac:=[ii,.bo (.bX (.cL (([1]:List Int).map I)))],r:= .n .i64 ay,b5:=true,b6:=[37]}) (o 2 [])))))]) (kd.az (.dP c3 (Gf aA fi) (dv (show [[.n .i64 (1:Int)]]=(([1]:List Int)).map I from rfl) (show 1=([1]:List Int).length from rfl)) (cq (show [[.n .i64 (1:Int)]]=(([1]:List Int)).map I from rfl) (show 1=([1]:List Int).length from rfl)) (cn a3 ([1]:List Int)) (xy ay ex) (aK.n .i64 ay))))))))))
  (fun aQ =>
  .ret (aU [.J (o 2 []),.J (o 2 (ad (a7 1 (.b r1) true) (o 4 (ad (a7 1 (.b bb) true) (o 1 (ad (.ah false) (o 1 (ch 4 (ad (.ah true) (o 1 (ch 5 (o 2 (ch 4 (o 1 [])))))))))))))),.ah true,.J (o 1 [])] (aO.az (.bh (b3 aQ) (b3 aQ) (b3 aQ) (b3 aQ) (b3 aQ) bG bG bG (.dP bG bG bG bG bG bG bG)))))))
  (fun ag =>
  .ret (aU [.J (o 2 []),.J (o 2 (ad (a7 1 (.b r1) true) (o 2 (ch 4 (ad (.ah true) (o 1 (ch 4 (o 2 (ch 5 (o 2 (ch 4 (o 1 [])))))))))))),.ah true,.J (o 1 [])] (bt.az (.bh (b3 ag) (b3 ag) (b3 ag) (b3 ag) (b3 ag) bG bG bG (.bh bG bG bG bG bG bG bG bG (.bp bG bG bG)))))))
def n0 (cl:bF):Option (Option bV) :=
 u9 cl >>= fun r1 =>
 if r1=true then
  some (some (⟨cl.bm,cl.bO⟩:bV))
 else
  some (none:(Option bV))
theorem Ot {cl:bF}:bk (n0 cl) (fun r=>Con aY 96 [.agg [.b cl.bm.bM,.isl 1 (cl.bm.a9.map I),.isl 1 (cl.bO.map I)]] [] (ep 3 bC r) []):=by
 unfold n0
 exact .au fun r1 h2 =>
  (let t1:List bE:=[.J (o 2 []),.J (o 1 (ad (a7 1 (.b r1) true) (o 1 [])))];
  have aO:=((.e2 (N7 r1 h2) (aK.b r1)):cd _);
  .ite (fun ag =>
  .ret (aU (t1.append [.ah false,.J (o 7 [])]) (aO.az (.e2 (bK ag) (nE (kA (⟨cl.bm,cl.bO⟩:bV)):hn [[.b cl.bm.bM,.isl 1 (cl.bm.a9.map I),.isl 1 (cl.bO.map I)]]))) (.bo (.oZ [.id,.id,.id]))))
  (fun ag =>
  .ret (aU (t1.append [.ah true,.J (o 1 [])]) (aO.az (.e1 (b3 ag))) (.bo (.bX (.mL 3))))))
def Br (cr:(List bF)) (dp:Int):(Int×(List (Option bV)))→S:=fun (dl,ae)=>dy [(4,.aN 0 0 0 ae.length),(10,.isl 3 (cr.map eTRat)),(11,.n .i64 dp),(12,.n .i64 dl)] [[ab.mk 1 (ae.map (ea 3 bC)) .live]]
def BK (cr:(List bF)) (dp:Int):(((List (Option bV)))⊕(Unit))→dB
 | .inl a=>⟨some 0,[(4,.aN 0 0 0 a.length)],[[ab.mk 1 (a.map (ea 3 bC)) .live]]⟩
 | .inr a=>⟨none,[(2,.eQ),(3,.b false)],[]⟩
def rZ (cr:(List bF)) (dp:Int) (dl:Int) (ae:(List (Option bV))):Option ((Int×(List (Option bV)))⊕(((List (Option bV)))⊕(Unit))) :=
 if (decide (dl<dp))=true then
  if 0≤dl∧dl<cr.length then
  cr[dl.toNat]? >>= fun an =>
  n0 an >>= fun aV =>
  if 0≤dl∧dl<(ae.length:Nat) then
  if (0+dl.toNat)<ae.length then
  (ae.set (0+dl.toNat) aV)[(0+dl.toNat)]? >>= fun dS =>
  dS.elim
  (some (.inr (.inr ())))
  fun kv =>
  some (.inl (U (dl+(1:Int)),ae.set (0+dl.toNat) aV))
  else none
  else none
  else none
 else
  some (.inr (.inl ae))
def CD (cr:(List bF)) (dp:Int) (dl:Int) (ae:(List (Option bV))):Option (((List (Option bV)))⊕(Unit)):=iter (fun w:Int×(List (Option bV))=>rZ cr dp w.1 w.2) (dl,ae)
theorem L0 {cr:(List bF)} {dp:Int} {dl:Int} {ae:(List (Option bV))}:bk (rZ cr dp dl ae) (eg aY 29 0 68 [1,1,0,1,0,0] (Br cr dp (dl,ae)) (Br cr dp) (BK cr dp)):=by
 unfold rZ
 exact .ite (fun h1 =>
  .bn fun h2 =>
  .au fun an ap =>
  .au fun aV aQ =>
  .bn fun bd =>
  .bn fun bL =>
  .au fun dS cR =>
  (let t1:List bE:=[.J (o 1 []),.ah true,.J (o 2 (ad (.b8 (eTRat an)) (o 3 []))),.J (o 3 (ad (a7 1 (ep 3 bC aV) false) (o 1 (ad .cY []))))];
  have aO:=((.bh h1 h2.1 (dd eTRat h2.2) (cB eTRat ap) (Ot aV aQ) bd.1 bd.2 (g7 (ea 3 bC) bL) (.cp (gT 1) bd.1 bd.2 (jA (fZ (aD (ea 3 bC) ae) (0+dl.toNat) aV) cR))):cd _);
  .mI (fun fi =>
  .ret (bz (t1.append [.J (o 3 (ad (.b8 ((ea 3 bC) dS)) (ad (.eT 25 (.dH 3 none) .cY) []))),.ah true,.J (o 2 []),.a4 [] [] (bB [2,3])]) (aO.az (.e2 (oi (sz:=3) (f:=bC) fi) bG))))
  (fun kv fi =>
  .ret (bz (t1.append [.J (o 3 (ad (.b8 ((ea 3 bC) dS)) (ad (.eT 25 (.dH 3 (some (bC kv))) .cY) []))),.ah false,.J (o 2 []),.a4 [0] [.dr [ab.mk 1 ((ae.set (0+dl.toNat) aV).map (ea 3 bC)) .live]] [(4,e6 ((ae.set (0+dl.toNat) aV).length)),(10,ii),(11,ii),(12,ii)]]) (aO.az (.cM (hQ (sz:=3) (f:=bC) fi) fP (eb 1 .live (fZ (aD (ea 3 bC) ae) (0+dl.toNat) aV)) (bJ 1 .live (mY (sz:=3) kA) (ae.set (0+dl.toNat) aV)) (fQ (ba ae) (0+dl.toNat) aV)))))))
  (fun h1 =>
  .ret (bz [.J (o 1 []),.ah false,.a4 [0] [.pure] (bB [4])] (.e2 h1 (bJ 1 .live (mY (sz:=3) kA) ae))))
theorem F7 {cr:(List bF)} {dp:Int} {dl:Int} {ae:(List (Option bV))} {r} (h:CD cr dp dl ae=some r):eh aY 29 0 68 [1,1,0,1,0,0] (Br cr dp) (BK cr dp) (dl,ae) r:=ej (fun _=>L0) h
def p7 (cU:(List bF)):Option ((List (Option bV))×Bool) :=
 if 0≤(len_ eTRat cU)∧(8:Int)*(len_ eTRat cU)≤281474976710656∧(len_ eTRat cU)<9223372036854775808 then
 CD cU (len_ eTRat cU) 0 (List.replicate (len_ eTRat cU).toNat (none:(Option bV)):List (Option bV)) >>= fun r2 =>
 match r2 with
 | .inl ei=>(some (ei,true))
 | .inr ei=>(some (([]:List (Option bV)),false))
 else none
theorem Gy {cU:(List bF)}:bk (p7 cU) (fun r=>Con aY 68 [.isl 3 (cU.map eTRat)] [] (.cz [.isl 1 (r.1.map (ea 3 bC)),.b r.2]) []):=by
 unfold p7
 exact .bn fun h1 =>
  .au fun r2 ag =>
  (let t1:List bE:=[.J (o 2 []),.J (o 2 (ad (.b8 [ep 3 bC (none:(Option bV))]) (o 1 []))),.J (o 3 []),.a4 [4] [.dr [ab.mk 1 ((List.replicate (len_ eTRat cU).toNat (none:(Option bV)):List (Option bV)).map (ea 3 bC)) .live]] [(4,e6 ((List.replicate (len_ eTRat cU).toNat (none:(Option bV)):List (Option bV)).length)),(10,ii),(11,ii),(12,ii)]];
  have aO:=((.dP h1.1 (Int.le_refl (len_ eTRat cU)) h1.2.1 h1.2.2 (eb 1 .live (kB (ea 3 bC) (len_ eTRat cU).toNat (none:(Option bV)))) (bJ 1 .live (mY (sz:=3) kA) (List.replicate (len_ eTRat cU).toNat (none:(Option bV)):List (Option bV))) (kC (len_ eTRat cU).toNat ((none:(Option bV)):(Option bV)))):cd _);
  (by
  rcases r2 with ei|ei
  ·exact (.ret (aU (t1.append [(BK cU (len_ eTRat cU) (.inl ei)).fo,.J (o 3 [])]) (aO.az (.cp (F7 ag) (dv (aD (ea 3 bC) ei) (ba ei)) (cq (aD (ea 3 bC) ei) (ba ei)) (cn (mY (sz:=3) kA) ei))) (.comp [.bX (.cL (ei.map (ea 3 bC))),.bX .id])))
  ·exact (.ret (aU (t1.append [.sub (.ret) [(2,.eQ),(3,.b false)] []]) (aO.az (.e1 (F7 ag))) (.comp [.bX (.eO 1),.bX .id])))))
def sc (aH:c4) (fN:(List bF)):Option ((List (Option bV))×Bool) :=
 if ((len_ eTRat fN) != (len_ aZ aH.b9))=true then
  some (([]:List (Option bV)),false)
 else
  pL aH >>= fun r2 =>
  if r2=true then
   p7 fN >>= fun aV =>
   some (aV.1,aV.2)
  else
   some (([]:List (Option bV)),false)
theorem MY {aH:c4} {fN:(List bF)}:bk (sc aH fN) (fun r=>Con aY 31 [.eG 2 [[.isl 4 (aH.a6.map aG),.isl 3 (aH.b9.map aZ)]] 0 0,.isl 3 (fN.map eTRat)] [] (.cz [.isl 1 (r.1.map (ea 3 bC)),.b r.2]) []):=by
 unfold sc
 exact .ite (fun h1 =>
  .ret (aU [.J (o 2 []),.J (o 9 (ch 5 (ad (.ah true) []))),.ah true,.J (o 2 [])] (.dP h1 h1 h1 h1 h1 h1 bG) (.comp [.bX (.eO 1),.bX .id])))
  (fun h1 =>
  .au fun r2 ag =>
  (let t1:List bE:=[.J (o 2 []),.J (o 12 (ad (a7 1 (.b r2) true) (o 1 (ad (.ah false) []))))];
  have aO:=((.gz h1 h1 h1 h1 (FF r2 ag) (aK.b r2) h1 h1):cd _);
  .ite (fun ap =>
  .au fun aV aQ =>
  .ret (aU (t1.append [.ah false,.J (o 1 (ad (a7 1 (.cz [.isl 1 (aV.1.map (ea 3 bC)),.b aV.2]) false) (o 4 [])))]) (aO.az (.e2 (bK ap) (Gy aV aQ)))))
  (fun ap =>
  .ret (aU (t1.append [.ah true,.J (o 2 [])]) (aO.az (.e1 (b3 ap))) (.comp [.bX (.eO 1),.bX .id])))))
def zC (du:(List bg)) (cr:Int):(Int×(List Int))→S:=fun (dp,ae)=>dy [(3,.aN 0 0 0 ae.length),(9,.isl 4 (du.map aG)),(10,.n .i64 cr),(11,.n .i64 dp)] [[ab.mk 1 (ae.map I) .live]]
def Fg (du:(List bg)) (cr:Int):(List Int)→dB
 | a=>⟨some 0,[(3,.aN 0 0 0 a.length)],[[ab.mk 1 (a.map I) .live]]⟩
def tV (du:(List bg)) (cr:Int) (dp:Int) (ae:(List Int)):Option ((Int×(List Int))⊕((List Int))) :=
 if (decide (dp<cr))=true then
  if 0≤dp∧dp<du.length then
  du[dp.toNat]? >>= fun an =>
  if an.cS=true then
   some (.inl (U (dp+(1:Int)),ae))
  else
   if (ae++([dp]:List Int)).length*8≤140737488355328 then
   some (.inl (U (dp+(1:Int)),ae++([dp]:List Int)))
   else none
  else none
 else
  some (.inr ae)
def zE (du:(List bg)) (cr:Int) (dp:Int) (ae:(List Int)):Option ((List Int)):=iter (fun w:Int×(List Int)=>tV du cr w.1 w.2) (dp,ae)
theorem KM {du:(List bg)} {cr:Int} {dp:Int} {ae:(List Int)}:bk (tV du cr dp ae) (eg aY 25 0 69 [1,1,0,1,0,0] (zC du cr (dp,ae)) (zC du cr) (Fg du cr)):=by
 unfold tV
 exact .ite (fun h1 =>
  .bn fun h2 =>
  .au fun an ap =>
  (let t1:List bE:=[.J (o 1 []),.ah true,.J (o 2 (ad (.b8 (aG an)) (o 3 []))),.J (o 3 [])];
  have aO:=((.cp h1 h2.1 (dd aG h2.2) (cB aG ap)):cd _);
  .ite (fun aE =>
  .ret (bz (t1.append [.ah false,.J (o 2 []),.a4 [0] [.pure] (bB [3,9,10,11])]) (aO.az (.e2 (bK aE) (bJ 1 .live a3 ae)))))
  (fun aE =>
  .bn fun aQ =>
  .ret (bz (t1.append [.ah true,.J (o 3 (ad (.az ((ae++([dp]:List Int)).length)) (o 1 []))),.J (o 2 []),.a4 [14] [.dr [ab.mk 1 ((ae++([dp]:List Int)).map I) .live]] (bB [3,9,10,11])]) (aO.az (.dP (b3 aE) (cq (show [[.n .i64 dp]]=(([dp]:List Int)).map I from rfl) (show 1=([dp]:List Int).length from rfl)) (ia (aD I ae) (ba ae)) (ib (ba ae) (hy (show [[.n .i64 dp]]=(([dp]:List Int)).map I from rfl) (show 1=([dp]:List Int).length from rfl)):(ae++([dp]:List Int)).length=ae.length+(([[.n .i64 dp]].drop 0).take 1).length) aQ (eb 1 .live (gf (aD I ae) (ba ae) (hy (show [[.n .i64 dp]]=(([dp]:List Int)).map I from rfl) (show 1=([dp]:List Int).length from rfl)))) (bJ 1 .live a3 (ae++([dp]:List Int)))))))))
  (fun h1 =>
  .ret (bz [.J (o 1 []),.ah false,.a4 [0] [.pure] (bB [3])] (.e2 h1 (bJ 1 .live a3 ae))))
theorem KQ {du:(List bg)} {cr:Int} {dp:Int} {ae:(List Int)} {r} (h:zE du cr dp ae=some r):eh aY 25 0 69 [1,1,0,1,0,0] (zC du cr) (Fg du cr) (dp,ae) r:=ej (fun _=>KM) h
def tX (aH:c4):Option (List Int) :=
 zE aH.a6 (len_ aG aH.a6) 0 ([]:List Int) >>= fun r1 =>
 some r1
theorem KU {aH:c4}:bk (tX aH) (fun r=>Con aY 69 [.eG 2 [[.isl 4 (aH.a6.map aG),.isl 3 (aH.b9.map aZ)]] 0 0] [] (.isl 1 (r.map I)) []):=by
 unfold tX
 exact .au fun r1 h2 =>
  .ret (aU [.J (o 1 []),.J (o 1 []),.J (o 6 []),.tj 3 1,.a4 [8] [.dr [ab.mk 1 (([]:List Int).map I) .live]] [(3,e6 (([]:List Int).length)),(9,ii),(10,ii),(11,ii)],.sub (.exit 0) [(3,.aN 0 0 0 r1.length)] [[ab.mk 1 (r1.map I) .live]],.J (o 2 [])] (.dP (eb 1 .live (show ([]:List (List ax))=([]:List Int).map I from rfl)) (bJ 1 .live a3 ([]:List Int)) (show 0=([]:List Int).length from rfl) (KQ h2) (dv (aD I r1) (ba r1)) (cq (aD I r1) (ba r1)) (cn a3 r1)) (.bo (.bX (.cL (r1.map I)))))
def xP (bS:(List bF)) (bc:Int):Option ((List (Option bV))×Bool) :=
 if ((len_ eTRat bS) != bc)=true then
  some (([]:List (Option bV)),false)
 else
  p7 bS >>= fun r2 =>
  some (r2.1,r2.2)
theorem NJ {bS:(List bF)} {bc:Int}:bk (xP bS bc) (fun r=>Con aY 70 [.isl 3 (bS.map eTRat),.n .i64 bc] [] (.cz [.isl 1 (r.1.map (ea 3 bC)),.b r.2]) []):=by
 unfold xP
 exact .ite (fun h1 =>
  .ret (aU [.J (o 2 []),.J (o 4 []),.ah true,.J (o 2 [])] (.e1 h1) (.comp [.bX (.eO 1),.bX .id])))
  (fun h1 =>
  .au fun r2 ag =>
  .ret (aU [.J (o 2 []),.J (o 4 []),.ah false,.J (o 1 (ad (a7 1 (.cz [.isl 1 (r2.1.map (ea 3 bC)),.b r2.2]) false) (o 4 [])))] (.e2 h1 (Gy r2 ag))))
def jz (kG:Bool) (td:(List Int)):Option cZ :=
 if kG=true then
  some (⟨(decide ((0:Int)<(len_ I td))),td⟩:cZ)
 else
  some (⟨false,td⟩:cZ)
theorem nX {kG:Bool} {td:(List Int)}:bk (jz kG td) (fun r=>Con aY 97 [.b kG,.isl 1 (td.map I)] [] (.agg [.b r.bM,.isl 1 (r.a9.map I)]) []):=by
 unfold jz
 exact .ite (fun h1 =>
  .ret (aU [.J (o 1 []),.J (o 5 (ad (.ah true) (o 3 [])))] (.cp h1 h1 h1 h1)))
  (fun h1 =>
  .ret (aU [.J (o 1 []),.J (o 2 (ch 3 (ad (.ah false) (o 3 []))))] (.cp h1 h1 h1 h1)))
def uR (bc:Int):Option cZ :=
 if (decide (bc<(0:Int)))=true then
  pV (IntKind.wrap .u64 ((IntKind.wrap .u64 (U (0-(U (bc+(1:Int))))))+(1:Int))) >>= fun r2 =>
  jz true r2 >>= fun bb =>
  some bb
 else
  pV (IntKind.wrap .u64 bc) >>= fun r2 =>
  jz false r2 >>= fun bb =>
  some bb
theorem NK {bc:Int}:bk (uR bc) (fun r=>Con aY 71 [.n .i64 bc] [] (.agg [.b r.bM,.isl 1 (r.a9.map I)]) []):=by
 unfold uR
 exact .ite (fun h1 =>
  .au fun r2 ag =>
  .au fun bb aE =>
  .ret (aU [.J (o 1 []),.J (o 2 []),.ah true,.J (o 5 (ad (a7 1 (.isl 1 (r2.map I)) false) (ad (a7 2 (.agg [.b bb.bM,.isl 1 (bb.a9.map I)]) false) (o 1 []))))] (.bp h1 (Cd r2 ag) (nX bb aE))))
  (fun h1 =>
  .au fun r2 ag =>
  .au fun bb aE =>
  .ret (aU [.J (o 1 []),.J (o 2 []),.ah false,.J (o 2 (ad (a7 1 (.isl 1 (r2.map I)) false) (ad (a7 2 (.agg [.b bb.bM,.isl 1 (bb.a9.map I)]) false) (o 1 []))))] (.bp h1 (Cd r2 ag) (nX bb aE))))
def sG (bc:Int):Option (Option bV) :=
 uR bc >>= fun r1 =>
 some (some (⟨r1,([1]:List Int)⟩:bV))
theorem Gz {bc:Int}:bk (sG bc) (fun r=>Con aY 33 [.n .i64 bc] [] (ep 3 bC r) []):=by
 unfold sG
 exact .au fun r1 h2 =>
  .ret (aU [.J (o 1 []),.J (o 1 (ad (a7 1 (.agg [.b r1.bM,.isl 1 (r1.a9.map I)]) false) (o 4 [])))] (.cM (NK r1 h2) (dv (show [[.n .i64 (1:Int)]]=(([1]:List Int)).map I from rfl) (show 1=([1]:List Int).length from rfl)) (cq (show [[.n .i64 (1:Int)]]=(([1]:List Int)).map I from rfl) (show 1=([1]:List Int).length from rfl)) (cn a3 ([1]:List Int)) (nE (kA (⟨r1,([1]:List Int)⟩:bV)):hn [[.b r1.bM,.isl 1 (r1.a9.map I),.isl 1 (([1]:List Int).map I)]])) (.bo (.oZ [.id,.id,.cL (([1]:List Int).map I)])))
def zG (k1:(List Int)) (fg:(List (Option bV))) (k6:Int):(Int×(List (Option bV)))→S:=fun (i9,ae)=>dy [(6,.isl 1 (k1.map I)),(7,.isl 1 (fg.map (ea 3 bC))),(9,.aN 0 0 0 ae.length),(38,.n .i64 k6),(39,.n .i64 i9)] [[ab.mk 1 (ae.map (ea 3 bC)) .live]]
def zJ (k1:(List Int)) (fg:(List (Option bV))) (k6:Int):(List (Option bV))→dB
 | a=>⟨some 0,[(6,.isl 1 (k1.map I)),(7,.isl 1 (fg.map (ea 3 bC))),(9,.aN 0 0 0 a.length)],[[ab.mk 1 (a.map (ea 3 bC)) .live]]⟩
def rs (k1:(List Int)) (fg:(List (Option bV))) (k6:Int) (i9:Int) (ae:(List (Option bV))):Option ((Int×(List (Option bV)))⊕((List (Option bV)))) :=
 if (decide (i9<k6))=true then
  sG 0 >>= fun r2 =>
  if 0≤i9∧i9<(ae.length:Nat) then
  if (0+i9.toNat)<ae.length then
  some (.inl (U (i9+(1:Int)),ae.set (0+i9.toNat) r2))
  else none
  else none
 else
  some (.inr ae)
def Aj (k1:(List Int)) (fg:(List (Option bV))) (k6:Int) (i9:Int) (ae:(List (Option bV))):Option ((List (Option bV))):=iter (fun w:Int×(List (Option bV))=>rs k1 fg k6 w.1 w.2) (i9,ae)
theorem KR {k1:(List Int)} {fg:(List (Option bV))} {k6:Int} {i9:Int} {ae:(List (Option bV))}:bk (rs k1 fg k6 i9 ae) (eg aY 76 0 32 [1,1,1,1,1,1,0,1,0,0] (zG k1 fg k6 (i9,ae)) (zG k1 fg k6) (zJ k1 fg k6)):=by
 unfold rs
 exact .ite (fun h1 =>
  .au fun r2 ag =>
  .bn fun ap =>
  .bn fun aE =>
  .ret (bz [.J (o 1 []),.ah true,.J (o 2 []),.J (o 2 (ad (a7 1 (ep 3 bC r2) false) (o 1 (ad .cY [])))),.J (o 2 []),.a4 [0] [.dr [ab.mk 1 ((ae.set (0+i9.toNat) r2).map (ea 3 bC)) .live]] [(6,ii),(7,ii),(9,e6 ((ae.set (0+i9.toNat) r2).length)),(38,ii),(39,ii)]] (.bh h1 (Gz r2 ag) ap.1 ap.2 (g7 (ea 3 bC) aE) (gT 1) (eb 1 .live (fZ (aD (ea 3 bC) ae) (0+i9.toNat) r2)) (bJ 1 .live (mY (sz:=3) kA) (ae.set (0+i9.toNat) r2)) (.e1 (fQ (ba ae) (0+i9.toNat) r2)))))
  (fun h1 =>
  .ret (bz [.J (o 1 []),.ah false,.a4 [0] [.pure] (bB [6,7,9])] (.e2 h1 (bJ 1 .live (mY (sz:=3) kA) ae))))
theorem Lk {k1:(List Int)} {fg:(List (Option bV))} {k6:Int} {i9:Int} {ae:(List (Option bV))} {r} (h:Aj k1 fg k6 i9 ae=some r):eh aY 76 0 32 [1,1,1,1,1,1,0,1,0,0] (zG k1 fg k6) (zJ k1 fg k6) (i9,ae) r:=ej (fun _=>KR) h
def zH (fg:(List (Option bV))) (gD:(List Int)) (k7:Int):(Int×(List (Option bV)))→S:=fun (ja,ae)=>dy [(7,.isl 1 (fg.map (ea 3 bC))),(9,.aN 0 0 0 ae.length),(47,.isl 1 (gD.map I)),(48,.n .i64 k7),(49,.n .i64 ja)] [[ab.mk 1 (ae.map (ea 3 bC)) .live]]
def zK (fg:(List (Option bV))) (gD:(List Int)) (k7:Int):(List (Option bV))→dB
 | a=>⟨some 2,[(9,.aN 0 0 0 a.length)],[[ab.mk 1 (a.map (ea 3 bC)) .live]]⟩
def ru (fg:(List (Option bV))) (gD:(List Int)) (k7:Int) (ja:Int) (ae:(List (Option bV))):Option ((Int×(List (Option bV)))⊕((List (Option bV)))) :=
 if (decide (ja<k7))=true then
  if 0≤ja∧ja<gD.length then
  gD[ja.toNat]? >>= fun an =>
  if 0≤(U ((2:Int)*ja))∧(U ((2:Int)*ja))<fg.length then
  fg[(U ((2:Int)*ja)).toNat]? >>= fun bW =>
  if 0≤(U ((U ((2:Int)*ja))+(1:Int)))∧(U ((U ((2:Int)*ja))+(1:Int)))<fg.length then
  fg[(U ((U ((2:Int)*ja))+(1:Int))).toNat]? >>= fun dS =>
  if 0≤(U ((2:Int)*an))∧(U ((2:Int)*an))<(ae.length:Nat) then
  if (0+(U ((2:Int)*an)).toNat)<ae.length then
  if 0≤(U ((U ((2:Int)*an))+(1:Int)))∧(U ((U ((2:Int)*an))+(1:Int)))<(ae.length:Nat) then
  if (0+(U ((U ((2:Int)*an))+(1:Int))).toNat)<(ae.set (0+(U ((2:Int)*an)).toNat) bW).length then
  some (.inl (U (ja+(1:Int)),(ae.set (0+(U ((2:Int)*an)).toNat) bW).set (0+(U ((U ((2:Int)*an))+(1:Int))).toNat) dS))
  else none
  else none
  else none
  else none
  else none
  else none
  else none
 else
  some (.inr ae)
def Ak (fg:(List (Option bV))) (gD:(List Int)) (k7:Int) (ja:Int) (ae:(List (Option bV))):Option ((List (Option bV))):=iter (fun w:Int×(List (Option bV))=>ru fg gD k7 w.1 w.2) (ja,ae)
theorem KS {fg:(List (Option bV))} {gD:(List Int)} {k7:Int} {ja:Int} {ae:(List (Option bV))}:bk (ru fg gD k7 ja ae) (eg aY 76 0 32 [1,1,1,1,1,1,1,0,1,0,0] (zH fg gD k7 (ja,ae)) (zH fg gD k7) (zK fg gD k7)):=by
 unfold ru
 exact .ite (fun h1 =>
  .bn fun h2 =>
  .au fun an ap =>
  .bn fun aE =>
  .au fun bW bd =>
  .bn fun bL =>
  .au fun dS cR =>
  .bn fun fi =>
  .bn fun fB =>
  .bn fun ex =>
  .bn fun ez =>
  .ret (bz [.J (o 1 []),.ah true,.J (o 2 (ad (.b8 (I an)) (o 2 []))),.J (o 11 (ad (.b8 ((ea 3 bC) bW)) (o 5 (ad (.b8 ((ea 3 bC) dS)) (o 1 (ad .cY (o 1 (ad .cY [])))))))),.J (o 2 []),.a4 [0] [.dr [ab.mk 1 (((ae.set (0+(U ((2:Int)*an)).toNat) bW).set (0+(U ((U ((2:Int)*an))+(1:Int))).toNat) dS).map (ea 3 bC)) .live]] [(7,ii),(9,e6 (((ae.set (0+(U ((2:Int)*an)).toNat) bW).set (0+(U ((U ((2:Int)*an))+(1:Int))).toNat) dS).length)),(47,ii),(48,ii),(49,ii)]] (.bh h1 h2.1 (dd I h2.2) (cB I ap) aE.1 (dd (ea 3 bC) aE.2) (cB (ea 3 bC) bd) bL.1 (.bh (dd (ea 3 bC) bL.2) (cB (ea 3 bC) cR) fi.1 fi.2 (g7 (ea 3 bC) fB) (gT 1) ex.1 ex.2 (.cM (Q5 (fZ (aD (ea 3 bC) ae) (0+(U ((2:Int)*an)).toNat) bW) ez) (gT 1) (eb 1 .live (fZ (fZ (aD (ea 3 bC) ae) (0+(U ((2:Int)*an)).toNat) bW) (0+(U ((U ((2:Int)*an))+(1:Int))).toNat) dS)) (bJ 1 .live (mY (sz:=3) kA) ((ae.set (0+(U ((2:Int)*an)).toNat) bW).set (0+(U ((U ((2:Int)*an))+(1:Int))).toNat) dS)) (fQ (fQ (ba ae) (0+(U ((2:Int)*an)).toNat) bW) (0+(U ((U ((2:Int)*an))+(1:Int))).toNat) dS))))))
  (fun h1 =>
  .ret (bz [.J (o 1 []),.ah false,.a4 [0] [.pure] (bB [9])] (.e2 h1 (bJ 1 .live (mY (sz:=3) kA) ae))))
theorem Ll {fg:(List (Option bV))} {gD:(List Int)} {k7:Int} {ja:Int} {ae:(List (Option bV))} {r} (h:Ak fg gD k7 ja ae=some r):eh aY 76 0 32 [1,1,1,1,1,1,1,0,1,0,0] (zH fg gD k7) (zK fg gD k7) (ja,ae) r:=ej (fun _=>KS) h
def pH (aH:c4) (c5:(List bF)):Option ((List (Option bV))×Bool) :=
 pL aH >>= fun r1 =>
 if r1=true then
  tX aH >>= fun bb =>
  xP c5 (U ((2:Int)*(len_ I bb))) >>= fun dk =>
  if dk.2=true then
   if 0≤(U ((2:Int)*(len_ aG aH.a6)))∧(8:Int)*(U ((2:Int)*(len_ aG aH.a6)))≤281474976710656∧(U ((2:Int)*(len_ aG aH.a6)))<9223372036854775808 then
   Aj bb dk.1 (((U ((2:Int)*(len_ aG aH.a6))).toNat:Nat):Int) 0 (List.replicate (U ((2:Int)*(len_ aG aH.a6))).toNat (none:(Option bV)):List (Option bV)) >>= fun aA =>
   Ak dk.1 bb (len_ I bb) 0 aA >>= fun ay =>
   some (ay,true)
   else none
  else
   some (([]:List (Option bV)),false)
 else
  some (([]:List (Option bV)),false)
theorem L1 {aH:c4} {c5:(List bF)}:bk (pH aH c5) (fun r=>Con aY 32 [.eG 2 [[.isl 4 (aH.a6.map aG),.isl 3 (aH.b9.map aZ)]] 0 0,.isl 3 (c5.map eTRat)] [] (.cz [.isl 1 (r.1.map (ea 3 bC)),.b r.2]) []):=by
 unfold pH
 exact .au fun r1 h2 =>
  (let t1:List bE:=[.J (o 2 []),.J (o 3 (ad (a7 1 (.b r1) true) (o 1 [])))];
  have aO:=((.e2 (FF r1 h2) (aK.b r1)):cd _);
  .ite (fun ag =>
  .au fun bb aE =>
  .au fun dk bd =>
  (let t3:List bE:=t1.append [.ah false,.J (o 1 (ad (a7 1 (.isl 1 (bb.map I)) false) (o 1 []))),.J (o 4 (ad (a7 2 (.cz [.isl 1 (dk.1.map (ea 3 bC)),.b dk.2]) false) (o 5 []))),.J (o 2 [])];
  have d4:=aO.az (.bp (bK ag) (KU bb aE) (NJ dk bd));
  .ite (fun bL =>
  .bn fun c3 =>
  .au fun aA fi =>
  .au fun ay ex =>
  .ret (aU (t3.append [.ah false,.J (o 6 (ad (.b8 [ep 3 bC (none:(Option bV))]) (o 1 []))),.J (o 3 []),.a4 [28] [.dr [ab.mk 1 ((List.replicate (U ((2:Int)*(len_ aG aH.a6))).toNat (none:(Option bV)):List (Option bV)).map (ea 3 bC)) .live]] [(6,ii),(7,ii),(9,e6 ((List.replicate (U ((2:Int)*(len_ aG aH.a6))).toNat (none:(Option bV)):List (Option bV)).length)),(38,ii),(39,ii)],(zJ bb dk.1 (((U ((2:Int)*(len_ aG aH.a6))).toNat:Nat):Int) aA).fo,.J (o 3 []),.a4 [0] [.pure] (bB [7,9,47,48,49]),(zK dk.1 bb (len_ I bb) ay).fo,.J (o 3 [])]) (d4.az (.bh (bK bL) c3.1 (Int.le_refl (U ((2:Int)*(len_ aG aH.a6)))) c3.2.1 c3.2.2 (eb 1 .live (kB (ea 3 bC) (U ((2:Int)*(len_ aG aH.a6))).toNat (none:(Option bV)))) (bJ 1 .live (mY (sz:=3) kA) (List.replicate (U ((2:Int)*(len_ aG aH.a6))).toNat (none:(Option bV)):List (Option bV))) (kC (U ((2:Int)*(len_ aG aH.a6))).toNat ((none:(Option bV)):(Option bV))) (.d5 (Lk fi) (bJ 1 .live (mY (sz:=3) kA) aA) (Ll ex) (dv (aD (ea 3 bC) ay) (ba ay)) (cq (aD (ea 3 bC) ay) (ba ay)) (cn (mY (sz:=3) kA) ay)))) (.comp [.bX (.cL (ay.map (ea 3 bC))),.bX .id])))
  (fun bL =>
  .ret (aU (t3.append [.ah true,.J (o 2 [])]) (d4.az (.e1 (b3 bL))) (.comp [.bX (.eO 1),.bX .id])))))
  (fun ag =>
  .ret (aU (t1.append [.ah true,.J (o 2 [])]) (aO.az (.e1 (b3 ag))) (.comp [.bX (.eO 1),.bX .id]))))
def Bs (ak:(List Int)) (ai:Int) (bc:Int) (cI:(List Int)) (cO:Int) (fw:Int):(Int×Int×(List Int))→S:=fun (bx,dD,ae)=>dy [(1,.isl 1 (ak.map I)),(5,.aN 0 0 0 ae.length),(6,.n .i64 ai),(7,.n .i64 bc),(8,.n .i64 bx),(26,.isl 1 (cI.map I)),(27,.n .i64 cO),(28,.n .i64 ai),(33,.isl 1 (ak.map I)),(34,.n .i64 fw),(35,.n .i64 dD)] [[ab.mk 1 (ae.map I) .live]]
def BL (ak:(List Int)) (ai:Int) (bc:Int) (cI:(List Int)) (cO:Int) (fw:Int):(Int×(List Int))→dB
 | a=>⟨some 2,[(1,.isl 1 (ak.map I)),(5,.aN 0 0 0 a.2.length),(6,.n .i64 ai),(8,.n .i64 a.1),(26,.isl 1 (cI.map I)),(27,.n .i64 cO),(28,.n .i64 ai)],[[ab.mk 1 (a.2.map I) .live]]⟩
def Bt (ak:(List Int)) (ai:Int) (bc:Int) (cI:(List Int)) (cO:Int) (fw:Int) (bx:Int) (dD:Int) (ae:(List Int)):Option ((Int×Int×(List Int))⊕(Int×(List Int))) :=
 if (decide (dD<fw))=true then
  if 0≤dD∧dD<ak.length then
  ak[dD.toNat]? >>= fun an =>
  if 0≤(U (ai+dD))∧(U (ai+dD))<(ae.length:Nat) then
  ae[(0+(U (ai+dD)).toNat)]? >>= fun bW =>
  if (0+(U (ai+dD)).toNat)<ae.length then
  some (.inl (U ((U ((U (bW+(U (bc*an))))+bx)).tdiv (1000000000:Int)),U (dD+(1:Int)),ae.set (0+(U (ai+dD)).toNat) ((U ((U (bW+(U (bc*an))))+bx)).tmod (1000000000:Int))))
  else none
  else none
  else none
 else
  some (.inr (bx,ae))
def GA (ak:(List Int)) (ai:Int) (bc:Int) (cI:(List Int)) (cO:Int) (fw:Int) (bx:Int) (dD:Int) (ae:(List Int)):Option (Int×(List Int)):=iter (fun w:Int×Int×(List Int)=>Bt ak ai bc cI cO fw w.1 w.2.1 w.2.2) (bx,dD,ae)
theorem L2 {ak:(List Int)} {ai:Int} {bc:Int} {cI:(List Int)} {cO:Int} {fw:Int} {bx:Int} {dD:Int} {ae:(List Int)}:bk (Bt ak ai bc cI cO fw bx dD ae) (eg aY 72 0 103 [1,1,1,0,1,0,0,1,1,0,0,1,1,0,1,0,0] (Bs ak ai bc cI cO fw (bx,dD,ae)) (Bs ak ai bc cI cO fw) (BL ak ai bc cI cO fw)):=by
 unfold Bt
 exact .ite (fun h1 =>
  .bn fun h2 =>
  .au fun an ap =>
  .bn fun aE =>
  .au fun bW bd =>
  .bn fun bL =>
  .ret (bz [.J (o 1 []),.ah true,.J (o 2 (ad (.b8 (I an)) (o 2 []))),.J (o 5 (ad (.b8 (I bW)) (o 7 []))),.J (o 9 (ad .cY (o 1 []))),.J (o 2 []),.a4 [0] [.dr [ab.mk 1 ((ae.set (0+(U (ai+dD)).toNat) ((U ((U (bW+(U (bc*an))))+bx)).tmod (1000000000:Int))).map I) .live]] [(1,ii),(5,e6 ((ae.set (0+(U (ai+dD)).toNat) ((U ((U (bW+(U (bc*an))))+bx)).tmod (1000000000:Int))).length)),(6,ii),(7,ii),(8,ii),(26,ii),(27,ii),(28,ii),(33,ii),(34,ii),(35,ii)]] (.bh h1 h2.1 (dd I h2.2) (cB I ap) aE.1 aE.2 (cB I bd) (by decide:(1000000000:Int)≠0) (.gz (by decide:(1000000000:Int)≠0) aE.1 aE.2 (g7 I bL) (gT 1) (eb 1 .live (fZ (aD I ae) (0+(U (ai+dD)).toNat) ((U ((U (bW+(U (bc*an))))+bx)).tmod (1000000000:Int)))) (bJ 1 .live a3 (ae.set (0+(U (ai+dD)).toNat) ((U ((U (bW+(U (bc*an))))+bx)).tmod (1000000000:Int)))) (fQ (ba ae) (0+(U (ai+dD)).toNat) ((U ((U (bW+(U (bc*an))))+bx)).tmod (1000000000:Int)))))))
  (fun h1 =>
  .ret (bz [.J (o 1 []),.ah false,.a4 [0] [.pure] (bB [1,5,6,8,26,27,28])] (.e2 h1 (bJ 1 .live a3 ae))))
theorem Nj {ak:(List Int)} {ai:Int} {bc:Int} {cI:(List Int)} {cO:Int} {fw:Int} {bx:Int} {dD:Int} {ae:(List Int)} {r} (h:GA ak ai bc cI cO fw bx dD ae=some r):eh aY 72 0 103 [1,1,1,0,1,0,0,1,1,0,0,1,1,0,1,0,0] (Bs ak ai bc cI cO fw) (BL ak ai bc cI cO fw) (bx,dD,ae) r:=ej (fun _=>L2) h
def Bu (ak:(List Int)) (cI:(List Int)) (cO:Int):(Int×(List Int))→S:=fun (dx,ae)=>dy [(1,.isl 1 (ak.map I)),(5,.aN 0 0 0 ae.length),(26,.isl 1 (cI.map I)),(27,.n .i64 cO),(28,.n .i64 dx)] [[ab.mk 1 (ae.map I) .live]]
def BM (ak:(List Int)) (cI:(List Int)) (cO:Int):(List Int)→dB
 | a=>⟨some 0,[(5,.aN 0 0 0 a.length)],[[ab.mk 1 (a.map I) .live]]⟩
def Bv (ak:(List Int)) (cI:(List Int)) (cO:Int) (dx:Int) (ae:(List Int)):Option ((Int×(List Int))⊕((List Int))) :=
 if (decide (dx<cO))=true then
  if 0≤dx∧dx<cI.length then
  cI[dx.toNat]? >>= fun an =>
  GA ak dx an cI cO (len_ I ak) 0 0 ae >>= fun aV =>
  if 0≤(U (dx+(len_ I ak)))∧(U (dx+(len_ I ak)))<(aV.2.length:Nat) then
  if (0+(U (dx+(len_ I ak))).toNat)<aV.2.length then
  some (.inl (U (dx+(1:Int)),aV.2.set (0+(U (dx+(len_ I ak))).toNat) aV.1))
  else none
  else none
  else none
 else
  some (.inr ae)
def CE (ak:(List Int)) (cI:(List Int)) (cO:Int) (dx:Int) (ae:(List Int)):Option ((List Int)):=iter (fun w:Int×(List Int)=>Bv ak cI cO w.1 w.2) (dx,ae)
theorem L3 {ak:(List Int)} {cI:(List Int)} {cO:Int} {dx:Int} {ae:(List Int)}:bk (Bv ak cI cO dx ae) (eg aY 72 0 103 [1,1,1,0,1,0,0] (Bu ak cI cO (dx,ae)) (Bu ak cI cO) (BM ak cI cO)):=by
 unfold Bv
 exact .ite (fun h1 =>
  .bn fun h2 =>
  .au fun an ap =>
  .au fun aV aQ =>
  .bn fun bd =>
  .bn fun bL =>
  .ret (bz [.J (o 1 []),.ah true,.J (o 2 (ad (.b8 (I an)) (o 2 []))),.J (o 1 []),.J (o 3 []),.a4 [0] [.pure] (bB [1,5,6,7,8,26,27,28,33,34,35]),(BL ak dx an cI cO (len_ I ak) aV).fo,.J (o 7 (ad .cY [])),.J (o 2 []),.a4 [0] [.dr [ab.mk 1 ((aV.2.set (0+(U (dx+(len_ I ak))).toNat) aV.1).map I) .live]] [(1,ii),(5,e6 ((aV.2.set (0+(U (dx+(len_ I ak))).toNat) aV.1).length)),(26,ii),(27,ii),(28,ii)]] (.bh h1 h2.1 (dd I h2.2) (cB I ap) (bJ 1 .live a3 ae) (Nj aQ) bd.1 bd.2 (.cM (g7 I bL) (gT 1) (eb 1 .live (fZ (aD I aV.2) (0+(U (dx+(len_ I ak))).toNat) aV.1)) (bJ 1 .live a3 (aV.2.set (0+(U (dx+(len_ I ak))).toNat) aV.1)) (fQ (ba aV.2) (0+(U (dx+(len_ I ak))).toNat) aV.1)))))
  (fun h1 =>
  .ret (bz [.J (o 1 []),.ah false,.a4 [0] [.pure] (bB [5])] (.e2 h1 (bJ 1 .live a3 ae))))
theorem Nk {ak:(List Int)} {cI:(List Int)} {cO:Int} {dx:Int} {ae:(List Int)} {r} (h:CE ak cI cO dx ae=some r):eh aY 72 0 103 [1,1,1,0,1,0,0] (Bu ak cI cO) (BM ak cI cO) (dx,ae) r:=ej (fun _=>L3) h
def lJ (aa:(List Int)) (ak:(List Int)):Option (List Int) :=
 if ((len_ I aa) == (0:Int))=true then
  some ([]:List Int)
 else
  if ((len_ I ak) == (0:Int))=true then
   some ([]:List Int)
  else
   if 0≤(U ((len_ I aa)+(len_ I ak)))∧(8:Int)*(U ((len_ I aa)+(len_ I ak)))≤281474976710656∧(U ((len_ I aa)+(len_ I ak)))<9223372036854775808 then
   CE ak aa (len_ I aa) 0 (List.replicate (U ((len_ I aa)+(len_ I ak))).toNat 0:List Int) >>= fun bb =>
   mh bb >>= fun dk =>
   some dk
   else none
theorem uF {aa:(List Int)} {ak:(List Int)}:bk (lJ aa ak) (fun r=>Con aY 103 [.isl 1 (aa.map I),.isl 1 (ak.map I)] [] (.isl 1 (r.map I)) []):=by
 unfold lJ
 exact .ite (fun h1 =>
  .ret (aU [.J (o 1 []),.J (o 4 (ch 3 (ad (.ah true) []))),.ah true,.J (o 1 [])] (.cM h1 h1 h1 h1 bG) (.bo (.bX (.eO 1)))))
  (fun h1 =>
  (let t1:List bE:=[.J (o 1 []),.J (o 7 (ad (.ah false) []))];
  .ite (fun h2 =>
  .ret (aU (t1.append [.ah true,.J (o 1 [])]) (.cM h1 h1 h1 h1 h2) (.bo (.bX (.eO 1)))))
  (fun h2 =>
  .bn fun ag =>
  .au fun bb aE =>
  .au fun dk bd =>
  .ret (aU (t1.append [.ah false,.J (o 7 []),.J (o 3 []),.a4 [14] [.dr [ab.mk 1 ((List.replicate (U ((len_ I aa)+(len_ I ak))).toNat 0:List Int).map I) .live]] [(1,ii),(5,e6 ((List.replicate (U ((len_ I aa)+(len_ I ak))).toNat 0:List Int).length)),(26,ii),(27,ii),(28,ii)],(BM ak aa (len_ I aa) bb).fo,.fx 0,.J (o 1 (ad (.call {ac:=[.bo (.bX (.cL (bb.map I)))],r:= .isl 1 (dk.map I),b5:=false,b6:=[0]}) (o 1 [])))]) (.bh h1 h1 h1 h1 h2 ag.1 (Int.le_refl (U ((len_ I aa)+(len_ I ak)))) ag.2.1 (.bh ag.2.2 (eb 1 .live (kB I (U ((len_ I aa)+(len_ I ak))).toNat 0)) (bJ 1 .live a3 (List.replicate (U ((len_ I aa)+(len_ I ak))).toNat 0:List Int)) (kC (U ((len_ I aa)+(len_ I ak))).toNat (0:Int)) (Nk aE) (dv (aD I bb) (ba bb)) (cq (aD I bb) (ba bb)) (cn a3 bb) (.e1 (pU dk bd))))))))
def ma (bS:(Option bV)) (f8:(List Int)):Option cZ :=
 bS >>= fun g8 =>
 lJ g8.m6.a9 f8 >>= fun a2 =>
 jz g8.m6.bM a2 >>= fun aV =>
 some aV
theorem xl {bS:(Option bV)} {f8:(List Int)}:bk (ma bS f8) (fun r=>Con aY 101 [ep 3 bC bS,.isl 1 (f8.map I)] [] (.agg [.b r.bM,.isl 1 (r.a9.map I)]) []):=by
 unfold ma
 exact .au fun g8 h2 =>
  .au fun a2 ap =>
  .au fun aV aQ =>
  .ret (aU [.J (o 1 []),.J (o 1 (ad (.eT 5 (.dH 3 (some (bC g8))) .cY) (o 4 (ad (.eT 10 (.dH 3 (some (bC g8))) .cY) (o 4 (ad (a7 2 (.isl 1 (a2.map I)) false) (ad (a7 2 (.agg [.b aV.bM,.isl 1 (aV.a9.map I)]) false) (o 1 []))))))))] (.cp (hQ (sz:=3) (f:=bC) h2) (hQ (sz:=3) (f:=bC) h2) (uF a2 ap) (nX aV aQ)))
def AJ (bS:cZ):Option cZ :=
 jz (!bS.bM) bS.a9 >>= fun r1 =>
 some r1
theorem Ly {bS:cZ}:bk (AJ bS) (fun r=>Con aY 132 [.agg [.b bS.bM,.isl 1 (bS.a9.map I)]] [] (.agg [.b r.bM,.isl 1 (r.a9.map I)]) []):=by
 unfold AJ
 exact .au fun r1 h2 =>
  .ret (aU [.J (o 2 []),.J (o 5 (ad (a7 2 (.agg [.b r1.bM,.isl 1 (r1.a9.map I)]) false) (o 1 [])))] (.e1 (nX r1 h2)))
def BN (aa:(List Int)) (ak:(List Int)) (gC:Int):(Int×Int×(List Int))→S:=fun (bx,e5,ae)=>dy [(0,.isl 1 (aa.map I)),(1,.isl 1 (ak.map I)),(5,.aN 0 0 0 ae.length),(6,.n .i64 bx),(20,.isl 1 (aa.map I)),(21,.n .i64 gC),(22,.n .i64 e5)] [[ab.mk 1 (ae.map I) .live]]
def xu (aa:(List Int)) (ak:(List Int)) (gC:Int):(Int×(List Int))→dB
 | a=>⟨some 0,[(0,.isl 1 (aa.map I)),(5,.aN 0 0 0 a.2.length),(6,.n .i64 a.1)],[[ab.mk 1 (a.2.map I) .live]]⟩
def r5 (aa:(List Int)) (ak:(List Int)) (gC:Int) (bx:Int) (e5:Int) (ae:(List Int)):Option ((Int×Int×(List Int))⊕(Int×(List Int))) :=
 if (decide (e5<gC))=true then
  if 0≤e5∧e5<aa.length then
  aa[e5.toNat]? >>= fun an =>
  if (decide (e5<(len_ I ak)))=true then
   if 0≤e5∧e5<ak.length then
   ak[e5.toNat]? >>= fun bU =>
   if 0≤e5∧e5<(ae.length:Nat) then
   if (0+e5.toNat)<ae.length then
   some (.inl (U ((U ((U (an+bx))+bU)).tdiv (1000000000:Int)),U (e5+(1:Int)),ae.set (0+e5.toNat) ((U ((U (an+bx))+bU)).tmod (1000000000:Int))))
   else none
   else none
   else none
  else
   if 0≤e5∧e5<(ae.length:Nat) then
   if (0+e5.toNat)<ae.length then
   some (.inl (U ((U (an+bx)).tdiv (1000000000:Int)),U (e5+(1:Int)),ae.set (0+e5.toNat) ((U (an+bx)).tmod (1000000000:Int))))
   else none
   else none
  else none
 else
  some (.inr (bx,ae))
def uS (aa:(List Int)) (ak:(List Int)) (gC:Int) (bx:Int) (e5:Int) (ae:(List Int)):Option (Int×(List Int)):=iter (fun w:Int×Int×(List Int)=>r5 aa ak gC w.1 w.2.1 w.2.2) (bx,e5,ae)
theorem Mf {aa:(List Int)} {ak:(List Int)} {gC:Int} {bx:Int} {e5:Int} {ae:(List Int)}:bk (r5 aa ak gC bx e5 ae) (eg aY 55 0 125 [1,1,1,1,0,1,0,0] (BN aa ak gC (bx,e5,ae)) (BN aa ak gC) (xu aa ak gC)):=by
 unfold r5
 exact .ite (fun h1 =>
  .bn fun h2 =>
  .au fun an ap =>
  (let t1:List bE:=[.J (o 1 []),.ah true,.J (o 2 (ad (.b8 (I an)) (o 2 []))),.J (o 4 []),.J (o 4 [])];
  have aO:=((.cp h1 h2.1 (dd I h2.2) (cB I ap)):cd _);
  .ite (fun aE =>
  .bn fun aQ =>
  .au fun bU bL =>
  .bn fun c3 =>
  .bn fun cR =>
  .ret (bz (t1.append [.ah true,.J (o 4 (ad (.b8 (I bU)) (o 2 []))),.J (o 7 (ad .cY (o 1 []))),.J (o 2 []),.a4 [0] [.dr [ab.mk 1 ((ae.set (0+e5.toNat) ((U ((U (an+bx))+bU)).tmod (1000000000:Int))).map I) .live]] [(0,ii),(1,ii),(5,e6 ((ae.set (0+e5.toNat) ((U ((U (an+bx))+bU)).tmod (1000000000:Int))).length)),(6,ii),(20,ii),(21,ii),(22,ii)]]) (aO.az (.bh aE aQ.1 (dd I aQ.2) (cB I bL) (by decide:(1000000000:Int)≠0) (by decide:(1000000000:Int)≠0) c3.1 c3.2 (.cM (g7 I cR) (gT 1) (eb 1 .live (fZ (aD I ae) (0+e5.toNat) ((U ((U (an+bx))+bU)).tmod (1000000000:Int)))) (bJ 1 .live a3 (ae.set (0+e5.toNat) ((U ((U (an+bx))+bU)).tmod (1000000000:Int)))) (fQ (ba ae) (0+e5.toNat) ((U ((U (an+bx))+bU)).tmod (1000000000:Int))))))))
  (fun aE =>
  .bn fun aQ =>
  .bn fun bd =>
  .ret (bz (t1.append [.ah false,.J (o 7 (ad .cY (o 1 []))),.J (o 2 []),.a4 [0] [.dr [ab.mk 1 ((ae.set (0+e5.toNat) ((U (an+bx)).tmod (1000000000:Int))).map I) .live]] [(0,ii),(1,ii),(5,e6 ((ae.set (0+e5.toNat) ((U (an+bx)).tmod (1000000000:Int))).length)),(6,ii),(20,ii),(21,ii),(22,ii)]]) (aO.az (.bh aE (by decide:(1000000000:Int)≠0) (by decide:(1000000000:Int)≠0) aQ.1 aQ.2 (g7 I bd) (gT 1) (eb 1 .live (fZ (aD I ae) (0+e5.toNat) ((U (an+bx)).tmod (1000000000:Int)))) (.e2 (bJ 1 .live a3 (ae.set (0+e5.toNat) ((U (an+bx)).tmod (1000000000:Int)))) (fQ (ba ae) (0+e5.toNat) ((U (an+bx)).tmod (1000000000:Int))))))))))
  (fun h1 =>
  .ret (bz [.J (o 1 []),.ah false,.a4 [0] [.pure] (bB [0,5,6])] (.e2 h1 (bJ 1 .live a3 ae))))
theorem Gg {aa:(List Int)} {ak:(List Int)} {gC:Int} {bx:Int} {e5:Int} {ae:(List Int)} {r} (h:uS aa ak gC bx e5 ae=some r):eh aY 55 0 125 [1,1,1,1,0,1,0,0] (BN aa ak gC) (xu aa ak gC) (bx,e5,ae) r:=ej (fun _=>Mf) h
def sI (aa:(List Int)) (ak:(List Int)):Option (List Int) :=
 if (decide ((len_ I aa)<(len_ I ak)))=true then
  if 0≤(U ((len_ I ak)+(1:Int)))∧(8:Int)*(U ((len_ I ak)+(1:Int)))≤281474976710656∧(U ((len_ I ak)+(1:Int)))<9223372036854775808 then
  uS ak aa (len_ I ak) 0 0 (List.replicate (U ((len_ I ak)+(1:Int))).toNat 0:List Int) >>= fun a2 =>
  if 0≤(len_ I ak)∧(len_ I ak)<(a2.2.length:Nat) then
  if (0+(len_ I ak).toNat)<a2.2.length then
  mh (a2.2.set (0+(len_ I ak).toNat) a2.1) >>= fun bw =>
  some bw
  else none
  else none
  else none
 else
  if 0≤(U ((len_ I aa)+(1:Int)))∧(8:Int)*(U ((len_ I aa)+(1:Int)))≤281474976710656∧(U ((len_ I aa)+(1:Int)))<9223372036854775808 then
  uS aa ak (len_ I aa) 0 0 (List.replicate (U ((len_ I aa)+(1:Int))).toNat 0:List Int) >>= fun a2 =>
  if 0≤(len_ I aa)∧(len_ I aa)<(a2.2.length:Nat) then
  if (0+(len_ I aa).toNat)<a2.2.length then
  mh (a2.2.set (0+(len_ I aa).toNat) a2.1) >>= fun bw =>
  some bw
  else none
  else none
  else none
theorem Ou {aa:(List Int)} {ak:(List Int)}:bk (sI aa ak) (fun r=>Con aY 125 [.isl 1 (aa.map I),.isl 1 (ak.map I)] [] (.isl 1 (r.map I)) []):=by
 unfold sI
 exact .ite (fun h1 =>
  .bn fun h2 =>
  .au fun a2 ap =>
  .bn fun aE =>
  .bn fun aQ =>
  .au fun bw bL =>
  .ret (aU [.J (o 1 []),.J (o 5 []),.ah true,.J (o 4 []),.J (o 5 []),.J (o 1 []),.J (o 3 []),.a4 [13] [.dr [ab.mk 1 ((List.replicate (U ((len_ I ak)+(1:Int))).toNat 0:List Int).map I) .live]] [(0,ii),(1,ii),(5,e6 ((List.replicate (U ((len_ I ak)+(1:Int))).toNat 0:List Int).length)),(6,ii),(20,ii),(21,ii),(22,ii)],(xu ak aa (len_ I ak) a2).fo,.J (o 5 (ad .cY [])),.fx 0,.J (o 1 (ad (.call {ac:=[.bo (.bX (.cL ((a2.2.set (0+(len_ I ak).toNat) a2.1).map I)))],r:= .isl 1 (bw.map I),b5:=false,b6:=[0]}) (o 1 [])))] (.bh h1 h2.1 (Int.le_refl (U ((len_ I ak)+(1:Int)))) h2.2.1 h2.2.2 (eb 1 .live (kB I (U ((len_ I ak)+(1:Int))).toNat 0)) (bJ 1 .live a3 (List.replicate (U ((len_ I ak)+(1:Int))).toNat 0:List Int)) (kC (U ((len_ I ak)+(1:Int))).toNat (0:Int)) (.bh (Gg ap) aE.1 aE.2 (g7 I aQ) (gT 1) (dv (fZ (aD I a2.2) (0+(len_ I ak).toNat) a2.1) (fQ (ba a2.2) (0+(len_ I ak).toNat) a2.1)) (cq (fZ (aD I a2.2) (0+(len_ I ak).toNat) a2.1) (fQ (ba a2.2) (0+(len_ I ak).toNat) a2.1)) (cn a3 (a2.2.set (0+(len_ I ak).toNat) a2.1)) (.e1 (pU bw bL))))))
  (fun h1 =>
  .bn fun h2 =>
  .au fun a2 ap =>
  .bn fun aE =>
  .bn fun aQ =>
  .au fun bw bL =>
  .ret (aU [.J (o 1 []),.J (o 5 []),.ah false,.J (o 5 []),.J (o 1 []),.J (o 3 []),.a4 [9] [.dr [ab.mk 1 ((List.replicate (U ((len_ I aa)+(1:Int))).toNat 0:List Int).map I) .live]] [(0,ii),(1,ii),(5,e6 ((List.replicate (U ((len_ I aa)+(1:Int))).toNat 0:List Int).length)),(6,ii),(20,ii),(21,ii),(22,ii)],(xu aa ak (len_ I aa) a2).fo,.J (o 5 (ad .cY [])),.fx 0,.J (o 1 (ad (.call {ac:=[.bo (.bX (.cL ((a2.2.set (0+(len_ I aa).toNat) a2.1).map I)))],r:= .isl 1 (bw.map I),b5:=false,b6:=[0]}) (o 1 [])))] (.bh h1 h2.1 (Int.le_refl (U ((len_ I aa)+(1:Int)))) h2.2.1 h2.2.2 (eb 1 .live (kB I (U ((len_ I aa)+(1:Int))).toNat 0)) (bJ 1 .live a3 (List.replicate (U ((len_ I aa)+(1:Int))).toNat 0:List Int)) (kC (U ((len_ I aa)+(1:Int))).toNat (0:Int)) (.bh (Gg ap) aE.1 aE.2 (g7 I aQ) (gT 1) (dv (fZ (aD I a2.2) (0+(len_ I aa).toNat) a2.1) (fQ (ba a2.2) (0+(len_ I aa).toNat) a2.1)) (cq (fZ (aD I a2.2) (0+(len_ I aa).toNat) a2.1) (fQ (ba a2.2) (0+(len_ I aa).toNat) a2.1)) (cn a3 (a2.2.set (0+(len_ I aa).toNat) a2.1)) (.e1 (pU bw bL))))))
def Bw (ak:(List Int)) (dl:(List Int)) (fG:Int):(Int×Int×(List Int))→S:=fun (gv,eN,ae)=>dy [(1,.isl 1 (ak.map I)),(5,.aN 0 0 0 ae.length),(6,.n .i64 gv),(12,.isl 1 (dl.map I)),(13,.n .i64 fG),(14,.n .i64 eN)] [[ab.mk 1 (ae.map I) .live]]
def BO (ak:(List Int)) (dl:(List Int)) (fG:Int):(List Int)→dB
 | a=>⟨some 0,[(5,.aN 0 0 0 a.length)],[[ab.mk 1 (a.map I) .live]]⟩
def r3 (ak:(List Int)) (dl:(List Int)) (fG:Int) (gv:Int) (eN:Int) (ae:(List Int)):Option ((Int×Int×(List Int))⊕((List Int))) :=
 if (decide (eN<fG))=true then
  if 0≤eN∧eN<dl.length then
  dl[eN.toNat]? >>= fun an =>
  if (decide (eN<(len_ I ak)))=true then
   if 0≤eN∧eN<ak.length then
   ak[eN.toNat]? >>= fun bU =>
   if (decide ((U ((U (an-gv))-bU))<(0:Int)))=true then
    if 0≤eN∧eN<(ae.length:Nat) then
    if (0+eN.toNat)<ae.length then
    some (.inl (1,U (eN+(1:Int)),ae.set (0+eN.toNat) (U ((U ((U (an-gv))-bU))+(1000000000:Int)))))
    else none
    else none
   else
    if 0≤eN∧eN<(ae.length:Nat) then
    if (0+eN.toNat)<ae.length then
    some (.inl (0,U (eN+(1:Int)),ae.set (0+eN.toNat) (U ((U (an-gv))-bU))))
    else none
    else none
   else none
  else
   if (decide ((U (an-gv))<(0:Int)))=true then
    if 0≤eN∧eN<(ae.length:Nat) then
    if (0+eN.toNat)<ae.length then
    some (.inl (1,U (eN+(1:Int)),ae.set (0+eN.toNat) (U ((U (an-gv))+(1000000000:Int)))))
    else none
    else none
   else
    if 0≤eN∧eN<(ae.length:Nat) then
    if (0+eN.toNat)<ae.length then
    some (.inl (0,U (eN+(1:Int)),ae.set (0+eN.toNat) (U (an-gv))))
    else none
    else none
  else none
 else
  some (.inr ae)
def CF (ak:(List Int)) (dl:(List Int)) (fG:Int) (gv:Int) (eN:Int) (ae:(List Int)):Option ((List Int)):=iter (fun w:Int×Int×(List Int)=>r3 ak dl fG w.1 w.2.1 w.2.2) (gv,eN,ae)
theorem L4 {ak:(List Int)} {dl:(List Int)} {fG:Int} {gv:Int} {eN:Int} {ae:(List Int)}:bk (r3 ak dl fG gv eN ae) (eg aY 43 0 126 [1,1,1,0,1,0,0] (Bw ak dl fG (gv,eN,ae)) (Bw ak dl fG) (BO ak dl fG)):=by
 unfold r3
 exact .ite (fun h1 =>
  .bn fun h2 =>
  .au fun an ap =>
  (let t1:List bE:=[.J (o 1 []),.ah true,.J (o 2 (ad (.b8 (I an)) (o 2 []))),.J (o 4 []),.J (o 4 [])];
  have aO:=((.cp h1 h2.1 (dd I h2.2) (cB I ap)):cd _);
  .ite (fun aE =>
  .bn fun aQ =>
  .au fun bU bL =>
  (let t3:List bE:=t1.append [.ah true,.J (o 4 (ad (.b8 (I bU)) (o 2 []))),.J (o 1 []),.J (o 2 [])];
  have d4:=aO.az (.cp aE aQ.1 (dd I aQ.2) (cB I bL));
  .ite (fun c3 =>
  .bn fun cR =>
  .bn fun fi =>
  .ret (bz (t3.append [.ah true,.J (o 3 []),.J (o 1 []),.J (o 4 (ad .cY [])),.J (o 2 []),.a4 [0] [.dr [ab.mk 1 ((ae.set (0+eN.toNat) (U ((U ((U (an-gv))-bU))+(1000000000:Int)))).map I) .live]] [(1,ii),(5,e6 ((ae.set (0+eN.toNat) (U ((U ((U (an-gv))-bU))+(1000000000:Int)))).length)),(6,ii),(12,ii),(13,ii),(14,ii)]]) (d4.az (.gz c3 cR.1 cR.2 (g7 I fi) (gT 1) (eb 1 .live (fZ (aD I ae) (0+eN.toNat) (U ((U ((U (an-gv))-bU))+(1000000000:Int))))) (bJ 1 .live a3 (ae.set (0+eN.toNat) (U ((U ((U (an-gv))-bU))+(1000000000:Int))))) (fQ (ba ae) (0+eN.toNat) (U ((U ((U (an-gv))-bU))+(1000000000:Int))))))))
  (fun c3 =>
  .bn fun cR =>
  .bn fun fi =>
  .ret (bz (t3.append [.ah false,.J (o 4 (ad .cY [])),.J (o 2 []),.a4 [0] [.dr [ab.mk 1 ((ae.set (0+eN.toNat) (U ((U (an-gv))-bU))).map I) .live]] [(1,ii),(5,e6 ((ae.set (0+eN.toNat) (U ((U (an-gv))-bU))).length)),(6,ii),(12,ii),(13,ii),(14,ii)]]) (d4.az (.gz c3 cR.1 cR.2 (g7 I fi) (gT 1) (eb 1 .live (fZ (aD I ae) (0+eN.toNat) (U ((U (an-gv))-bU)))) (bJ 1 .live a3 (ae.set (0+eN.toNat) (U ((U (an-gv))-bU)))) (fQ (ba ae) (0+eN.toNat) (U ((U (an-gv))-bU)))))))))
  (fun aE =>
  (let t3:List bE:=t1.append [.ah false,.J (o 1 []),.J (o 2 [])];
  .ite (fun aQ =>
  .bn fun bd =>
  .bn fun bL =>
  .ret (bz (t3.append [.ah true,.J (o 3 []),.J (o 1 []),.J (o 4 (ad .cY [])),.J (o 2 []),.a4 [0] [.dr [ab.mk 1 ((ae.set (0+eN.toNat) (U ((U (an-gv))+(1000000000:Int)))).map I) .live]] [(1,ii),(5,e6 ((ae.set (0+eN.toNat) (U ((U (an-gv))+(1000000000:Int)))).length)),(6,ii),(12,ii),(13,ii),(14,ii)]]) (aO.az (.bh aE aQ bd.1 bd.2 (g7 I bL) (gT 1) (eb 1 .live (fZ (aD I ae) (0+eN.toNat) (U ((U (an-gv))+(1000000000:Int))))) (bJ 1 .live a3 (ae.set (0+eN.toNat) (U ((U (an-gv))+(1000000000:Int))))) (.e1 (fQ (ba ae) (0+eN.toNat) (U ((U (an-gv))+(1000000000:Int)))))))))
  (fun aQ =>
  .bn fun bd =>
  .bn fun bL =>
  .ret (bz (t3.append [.ah false,.J (o 4 (ad .cY [])),.J (o 2 []),.a4 [0] [.dr [ab.mk 1 ((ae.set (0+eN.toNat) (U (an-gv))).map I) .live]] [(1,ii),(5,e6 ((ae.set (0+eN.toNat) (U (an-gv))).length)),(6,ii),(12,ii),(13,ii),(14,ii)]]) (aO.az (.bh aE aQ bd.1 bd.2 (g7 I bL) (gT 1) (eb 1 .live (fZ (aD I ae) (0+eN.toNat) (U (an-gv)))) (bJ 1 .live a3 (ae.set (0+eN.toNat) (U (an-gv)))) (.e1 (fQ (ba ae) (0+eN.toNat) (U (an-gv))))))))))))
  (fun h1 =>
  .ret (bz [.J (o 1 []),.ah false,.a4 [0] [.pure] (bB [5])] (.e2 h1 (bJ 1 .live a3 ae))))
theorem Nl {ak:(List Int)} {dl:(List Int)} {fG:Int} {gv:Int} {eN:Int} {ae:(List Int)} {r} (h:CF ak dl fG gv eN ae=some r):eh aY 43 0 126 [1,1,1,0,1,0,0] (Bw ak dl fG) (BO ak dl fG) (gv,eN,ae) r:=ej (fun _=>L4) h
def oN (aa:(List Int)) (ak:(List Int)):Option (List Int) :=
 if 0≤(len_ I aa)∧(8:Int)*(len_ I aa)≤281474976710656∧(len_ I aa)<9223372036854775808 then
 CF ak aa (len_ I aa) 0 0 (List.replicate (len_ I aa).toNat 0:List Int) >>= fun r2 =>
 mh r2 >>= fun bb =>
 some bb
 else none
theorem GB {aa:(List Int)} {ak:(List Int)}:bk (oN aa ak) (fun r=>Con aY 126 [.isl 1 (aa.map I),.isl 1 (ak.map I)] [] (.isl 1 (r.map I)) []):=by
 unfold oN
 exact .bn fun h1 =>
  .au fun r2 ag =>
  .au fun bb aE =>
  .ret (aU [.J (o 1 []),.J (o 4 []),.J (o 1 []),.J (o 3 []),.a4 [3] [.dr [ab.mk 1 ((List.replicate (len_ I aa).toNat 0:List Int).map I) .live]] [(1,ii),(5,e6 ((List.replicate (len_ I aa).toNat 0:List Int).length)),(6,ii),(12,ii),(13,ii),(14,ii)],(BO ak aa (len_ I aa) r2).fo,.fx 0,.J (o 1 (ad (.call {ac:=[.bo (.bX (.cL (r2.map I)))],r:= .isl 1 (bb.map I),b5:=false,b6:=[0]}) (o 1 [])))] (.bh h1.1 (Int.le_refl (len_ I aa)) h1.2.1 h1.2.2 (eb 1 .live (kB I (len_ I aa).toNat 0)) (bJ 1 .live a3 (List.replicate (len_ I aa).toNat 0:List Int)) (kC (len_ I aa).toNat (0:Int)) (Nl ag) (.cp (dv (aD I r2) (ba r2)) (cq (aD I r2) (ba r2)) (cn a3 r2) (pU bb aE))))
def oB (bS:cZ) (da:cZ):Option cZ :=
 oH bS.a9 da.a9 >>= fun r1 =>
 if (bS.bM == da.bM)=true then
  sI bS.a9 da.a9 >>= fun bb =>
  jz bS.bM bb >>= fun dk =>
  some dk
 else
  if (decide ((0:Int)≤r1))=true then
   oN bS.a9 da.a9 >>= fun aV =>
   jz bS.bM aV >>= fun bw =>
   some bw
  else
   oN da.a9 bS.a9 >>= fun aV =>
   jz da.bM aV >>= fun bw =>
   some bw
theorem FH {bS:cZ} {da:cZ}:bk (oB bS da) (fun r=>Con aY 102 [.agg [.b bS.bM,.isl 1 (bS.a9.map I)],.agg [.b da.bM,.isl 1 (da.a9.map I)]] [] (.agg [.b r.bM,.isl 1 (r.a9.map I)]) []):=by
 unfold oB
 exact .au fun r1 h2 =>
  (let t1:List bE:=[.J (o 3 []),.J (o 4 (ad (a7 2 (.n .i64 r1) true) (o 1 []))),.J (o 6 [])];
  have aO:=((.e2 (xy r1 h2) (aK.n .i64 r1)):cd _);
  .ite (fun ag =>
  .au fun bb aE =>
  .au fun dk bd =>
  .ret (aU (t1.append [.ah true,.J (o 6 (ad (a7 2 (.isl 1 (bb.map I)) false) (ad (a7 2 (.agg [.b dk.bM,.isl 1 (dk.a9.map I)]) false) (o 1 []))))]) (aO.az (.bp ag (Ou bb aE) (nX dk bd)))))
  (fun ag =>
  .ite (fun ap =>
  .au fun aV aQ =>
  .au fun bw bL =>
  .ret (aU (t1.append [.ah false,.J (o 3 []),.ah true,.J (o 6 (ad (a7 2 (.isl 1 (aV.map I)) false) (ad (a7 2 (.agg [.b bw.bM,.isl 1 (bw.a9.map I)]) false) (o 1 []))))]) (aO.az (.cp ag ap (GB aV aQ) (nX bw bL)))))
  (fun ap =>
  .au fun aV aQ =>
  .au fun bw bL =>
  .ret (aU (t1.append [.ah false,.J (o 3 []),.ah false,.J (o 6 (ad (a7 2 (.isl 1 (aV.map I)) false) (ad (a7 2 (.agg [.b bw.bM,.isl 1 (bw.a9.map I)]) false) (o 1 []))))]) (aO.az (.cp ag ap (GB aV aQ) (nX bw bL)))))))
def r6 (bS:cZ) (da:cZ):Option cZ :=
 AJ da >>= fun r1 =>
 oB bS r1 >>= fun a2 =>
 some a2
theorem Mg {bS:cZ} {da:cZ}:bk (r6 bS da) (fun r=>Con aY 121 [.agg [.b bS.bM,.isl 1 (bS.a9.map I)],.agg [.b da.bM,.isl 1 (da.a9.map I)]] [] (.agg [.b r.bM,.isl 1 (r.a9.map I)]) []):=by
 unfold r6
 exact .au fun r1 h2 =>
  .au fun a2 ap =>
  .ret (aU [.J (o 3 []),.J (o 2 (ad (a7 1 (.agg [.b r1.bM,.isl 1 (r1.a9.map I)]) false) (ad (a7 2 (.agg [.b a2.bM,.isl 1 (a2.a9.map I)]) false) (o 1 []))))] (.e2 (Ly r1 h2) (FH a2 ap)))
def ny (mx:cZ) (oY:(List Int)):Option (Option bV) :=
 if ((len_ I mx.a9) == (0:Int))=true then
  some (some (⟨(⟨false,([]:List Int)⟩:cZ),([1]:List Int)⟩:bV))
 else
  sq mx.a9 oY >>= fun r2 =>
  oH r2 ([1]:List Int) >>= fun bb =>
  if (bb == (0:Int))=true then
   some (some (⟨mx,oY⟩:bV))
  else
   qa mx.a9 r2 >>= fun bw =>
   qa oY r2 >>= fun cu =>
   jz mx.bM bw.1 >>= fun cN =>
   some (some (⟨cN,cu.1⟩:bV))
theorem Cv {mx:cZ} {oY:(List Int)}:bk (ny mx oY) (fun r=>Con aY 100 [.agg [.b mx.bM,.isl 1 (mx.a9.map I)],.isl 1 (oY.map I)] [] (ep 3 bC r) []):=by
 unfold ny
 exact .ite (fun h1 =>
  .ret (aU [.J (o 2 []),.J (o 4 []),.ah true,.J (o 4 [])] (.cM h1 (dv (show [[.n .i64 (1:Int)]]=(([1]:List Int)).map I from rfl) (show 1=([1]:List Int).length from rfl)) (cq (show [[.n .i64 (1:Int)]]=(([1]:List Int)).map I from rfl) (show 1=([1]:List Int).length from rfl)) (cn a3 ([1]:List Int)) (nE (kA (⟨(⟨false,([]:List Int)⟩:cZ),([1]:List Int)⟩:bV)):hn [[.b false,.isl 1 (([]:List Int).map I),.isl 1 (([1]:List Int).map I)]])) (.bo (.oZ [.id,.eO 1,.cL (([1]:List Int).map I)]))))
  (fun h1 =>
  .au fun r2 ag =>
  .au fun bb aE =>
  (let t1:List bE:=[.J (o 2 []),.J (o 4 []),.ah false,.J (o 3 (ad (a7 2 (.isl 1 (r2.map I)) false) (o 1 []))),.J (o 2 (ad (.call {ac:=[ii,.bo (.bX (.cL (([1]:List Int).map I)))],r:= .n .i64 bb,b5:=true,b6:=[12]}) (o 1 [])))];
  have aO:=((.dP h1 (Gf r2 ag) (dv (show [[.n .i64 (1:Int)]]=(([1]:List Int)).map I from rfl) (show 1=([1]:List Int).length from rfl)) (cq (show [[.n .i64 (1:Int)]]=(([1]:List Int)).map I from rfl) (show 1=([1]:List Int).length from rfl)) (cn a3 ([1]:List Int)) (xy bb aE) (aK.n .i64 bb)):cd _);
  .ite (fun aQ =>
  .ret (aU (t1.append [.ah true,.J (o 5 [])]) (aO.az (.e2 aQ (nE (kA (⟨mx,oY⟩:bV)):hn [[.b mx.bM,.isl 1 (mx.a9.map I),.isl 1 (oY.map I)]]))) (.bo (.oZ [.id,.id,.id]))))
  (fun aQ =>
  .au fun bw bL =>
  .au fun cu cR =>
  .au fun cN fB =>
  .ret (aU (t1.append [.ah false,.J (o 3 (ad (a7 2 (.cz [.isl 1 (bw.1.map I),.isl 1 (bw.2.map I)]) false) (o 5 []))),.J (o 2 (ad (a7 2 (.cz [.isl 1 (cu.1.map I),.isl 1 (cu.2.map I)]) false) (o 5 []))),.J (o 3 (ad (a7 2 (.agg [.b cN.bM,.isl 1 (cN.a9.map I)]) false) (o 4 [])))]) (aO.az (.cM aQ (CJ bw bL) (CJ cu cR) (nX cN fB) (nE (kA (⟨cN,cu.1⟩:bV)):hn [[.b cN.bM,.isl 1 (cN.a9.map I),.isl 1 (cu.1.map I)]]))) (.bo (.oZ [.id,.id,.id]))))))
def B3 (bS:(Option bV)) (da:(Option bV)):Option (Option bV) :=
 da >>= fun g8 =>
 ma bS g8.lb >>= fun a2 =>
 bS >>= fun nq =>
 ma da nq.lb >>= fun bw =>
 r6 a2 bw >>= fun cu =>
 lJ nq.lb g8.lb >>= fun cN =>
 ny cu cN >>= fun dN =>
 some dN
theorem Mu {bS:(Option bV)} {da:(Option bV)}:bk (B3 bS da) (fun r=>Con aY 99 [ep 3 bC bS,ep 3 bC da] [] (ep 3 bC r) []):=by
 unfold B3
 exact .au fun g8 h2 =>
  .au fun a2 ap =>
  .au fun nq aQ =>
  .au fun bw bL =>
  .au fun cu cR =>
  .au fun cN fB =>
  .au fun dN ez =>
  .ret (aU [.J (o 1 []),.J (o 2 (ad (.eT 6 (.dH 3 (some (bC g8))) .cY) (o 2 (ad (a7 2 (.agg [.b a2.bM,.isl 1 (a2.a9.map I)]) false) (o 2 (ad (.eT 12 (.dH 3 (some (bC nq))) .cY) (o 2 (ad (a7 2 (.agg [.b bw.bM,.isl 1 (bw.a9.map I)]) false) (ad (a7 2 (.agg [.b cu.bM,.isl 1 (cu.a9.map I)]) false) (o 1 (ad (.eT 18 (.dH 3 (some (bC nq))) .cY) (o 3 (ad (.eT 22 (.dH 3 (some (bC g8))) .cY) (o 2 (ad (a7 2 (.isl 1 (cN.map I)) false) (ad (a7 2 (ep 3 bC dN) false) (o 1 [])))))))))))))))))] (.bh (hQ (sz:=3) (f:=bC) h2) (xl a2 ap) (hQ (sz:=3) (f:=bC) aQ) (xl bw bL) (Mg cu cR) (hQ (sz:=3) (f:=bC) aQ) (hQ (sz:=3) (f:=bC) h2) (uF cN fB) (.e1 (Cv dN ez))))
def nF (bS:(Option bV)):Option (Option bV) :=
 bS >>= fun g8 =>
 if (decide ((24:Int)<(len_ I g8.m6.a9)))=true then
  some (none:(Option bV))
 else
  if (decide ((24:Int)<(len_ I g8.lb)))=true then
   some (none:(Option bV))
  else
   some bS
theorem CP {bS:(Option bV)}:bk (nF bS) (fun r=>Con aY 73 [ep 3 bC bS] [] (ep 3 bC r) []):=by
 unfold nF
 exact .au fun g8 h2 =>
  (have bt:=((.e1 (hQ (sz:=3) (f:=bC) h2)):cd _);
  .ite (fun ag =>
  .ret (aU [.J (o 1 []),.J (o 1 (ad (.eT 3 (.dH 3 (some (bC g8))) .cY) (o 6 (ch 6 (ad (.ah true) []))))),.ah true,.J (o 1 [])] (bt.az (.gz ag ag ag ag ag ag ag bG)) (.bo (.bX (.mL 3)))))
  (fun ag =>
  (let t2:List bE:=[.J (o 1 []),.J (o 1 (ad (.eT 3 (.dH 3 (some (bC g8))) .cY) (o 7 (ad (.eT 11 (.dH 3 (some (bC g8))) .cY) (o 4 (ad (.ah false) []))))))];
  have dZ:=bt.az (.gz ag ag (hQ (sz:=3) (f:=bC) h2) ag ag ag ag ag);
  .ite (fun ap =>
  .ret (aU (t2.append [.ah true,.J (o 1 [])]) (dZ.az (.e1 ap)) (.bo (.bX (.mL 3)))))
  (fun ap =>
  .ret (aU (t2.append [.ah false,.J (o 2 [])]) (dZ.az (.e1 ap)))))))
def qi (aa:(Option bV)) (ak:(Option bV)):Option (Option bV) :=
 aa.elim
 (some (none:(Option bV)))
 fun hG =>
 ak.elim
 (some (none:(Option bV)))
 fun pp =>
 B3 aa ak >>= fun aV =>
 nF aV >>= fun bw =>
 some bw
theorem GU {aa:(Option bV)} {ak:(Option bV)}:bk (qi aa ak) (fun r=>Con aY 72 [ep 3 bC aa,ep 3 bC ak] [] (ep 3 bC r) []):=by
 unfold qi
 exact .mI (fun h1 =>
  .ret (aU [.J (o 1 []),.J (o 1 (ad (.eT 5 (.dH 3 none) .cY) (o 1 (ch 2 (o 1 []))))),.ah true,.J (o 1 [])] (.cp (oi (sz:=3) (f:=bC) h1) bG bG bG) (.bo (.bX (.mL 3)))))
  (fun hG h1 =>
  (have bt:=((.bp (hQ (sz:=3) (f:=bC) h1) fP fP):cd _);
  .mI (fun ag =>
  .ret (aU [.J (o 1 []),.J (o 1 (ad (.eT 5 (.dH 3 (some (bC hG))) .cY) (o 2 (ad (.eT 8 (.dH 3 none) .cY) (o 1 []))))),.ah true,.J (o 1 [])] (bt.az (.e2 (oi (sz:=3) (f:=bC) ag) bG)) (.bo (.bX (.mL 3)))))
  (fun pp ag =>
  .au fun aV aQ =>
  .au fun bw bL =>
  .ret (aU [.J (o 1 []),.J (o 1 (ad (.eT 5 (.dH 3 (some (bC hG))) .cY) (o 2 (ad (.eT 8 (.dH 3 (some (bC pp))) .cY) (o 1 []))))),.ah false,.J (o 2 (ad (a7 2 (ep 3 bC aV) false) (ad (a7 1 (ep 3 bC bw) false) (o 1 []))))] (bt.az (.cp (hQ (sz:=3) (f:=bC) ag) fP (Mu aV aQ) (CP bw bL)))))))
def t8 (aH:c4) (aJ:Int) (c5:(List (Option bV))):Option ((Option bV)×(Option bV)) :=
 if 0≤aJ∧aJ<aH.b9.length then
 aH.b9[aJ.toNat]? >>= fun x2 =>
 if 0≤(U ((2:Int)*x2.c1))∧(U ((2:Int)*x2.c1))<c5.length then
 c5[(U ((2:Int)*x2.c1)).toNat]? >>= fun b2 =>
 if 0≤(U ((2:Int)*x2.de))∧(U ((2:Int)*x2.de))<c5.length then
 c5[(U ((2:Int)*x2.de)).toNat]? >>= fun kc =>
 qi b2 kc >>= fun aA =>
 if 0≤(U ((U ((2:Int)*x2.c1))+(1:Int)))∧(U ((U ((2:Int)*x2.c1))+(1:Int)))<c5.length then
 c5[(U ((U ((2:Int)*x2.c1))+(1:Int))).toNat]? >>= fun EG =>
 if 0≤(U ((U ((2:Int)*x2.de))+(1:Int)))∧(U ((U ((2:Int)*x2.de))+(1:Int)))<c5.length then
 c5[(U ((U ((2:Int)*x2.de))+(1:Int))).toNat]? >>= fun EH =>
 qi EG EH >>= fun fO =>
 some (aA,fO)
 else none
 else none
 else none
 else none
 else none
theorem Lz {aH:c4} {aJ:Int} {c5:(List (Option bV))}:bk (t8 aH aJ c5) (fun r=>Con aY 34 [.eG 2 [[.isl 4 (aH.a6.map aG),.isl 3 (aH.b9.map aZ)]] 0 0,.n .i64 aJ,.isl 1 (c5.map (ea 3 bC))] [] (.cz [ep 3 bC r.1,ep 3 bC r.2]) []):=by
 unfold t8
 exact .bn fun h1 =>
  .au fun x2 ag =>
  .bn fun ap =>
  .au fun b2 aQ =>
  .bn fun bd =>
  .au fun kc c3 =>
  .au fun aA fi =>
  .bn fun fB =>
  .au fun EG ez =>
  .bn fun gN =>
  .au fun EH hq =>
  .au fun fO ks =>
  .ret (aU [.J (o 2 []),.J (o 6 (ad (.b8 (aZ x2)) (o 2 []))),.J (o 5 (ad (.b8 ((ea 3 bC) b2)) (o 5 (ad (.b8 ((ea 3 bC) kc)) (ad (a7 2 (ep 3 bC aA) false) (o 6 (ad (.b8 ((ea 3 bC) EG)) (o 6 (ad (.b8 ((ea 3 bC) EH)) (ad (a7 2 (ep 3 bC fO) false) (o 2 [])))))))))))] (.bh h1.1 (dd aZ h1.2) (cB aZ ag) ap.1 (dd (ea 3 bC) ap.2) (cB (ea 3 bC) aQ) bd.1 (dd (ea 3 bC) bd.2) (.bh (cB (ea 3 bC) c3) (GU aA fi) fB.1 (dd (ea 3 bC) fB.2) (cB (ea 3 bC) ez) gN.1 (dd (ea 3 bC) gN.2) (cB (ea 3 bC) hq) (.e1 (GU fO ks)))))
def ug (bS:cZ) (da:cZ):Option cZ :=
 lJ bS.a9 da.a9 >>= fun r1 =>
 jz (!(bS.bM == da.bM)) r1 >>= fun a2 =>
 some a2
theorem Mh {bS:cZ} {da:cZ}:bk (ug bS da) (fun r=>Con aY 104 [.agg [.b bS.bM,.isl 1 (bS.a9.map I)],.agg [.b da.bM,.isl 1 (da.a9.map I)]] [] (.agg [.b r.bM,.isl 1 (r.a9.map I)]) []):=by
 unfold ug
 exact .au fun r1 h2 =>
  .au fun a2 ap =>
  .ret (aU [.J (o 3 []),.J (o 9 (ad (a7 2 (.isl 1 (r1.map I)) false) (ad (a7 2 (.agg [.b a2.bM,.isl 1 (a2.a9.map I)]) false) (o 1 []))))] (.e2 (uF r1 h2) (nX a2 ap)))
def xv (bS:(Option bV)) (da:(Option bV)):Option (Option bV) :=
 bS >>= fun g8 =>
 da >>= fun xa =>
 ug g8.m6 xa.m6 >>= fun aV =>
 lJ g8.lb xa.lb >>= fun bw =>
 ny aV bw >>= fun cu =>
 some cu
theorem Mv {bS:(Option bV)} {da:(Option bV)}:bk (xv bS da) (fun r=>Con aY 75 [ep 3 bC bS,ep 3 bC da] [] (ep 3 bC r) []):=by
 unfold xv
 exact .au fun g8 h2 =>
  .au fun xa ap =>
  .au fun aV aQ =>
  .au fun bw bL =>
  .au fun cu cR =>
  .ret (aU [.J (o 1 []),.J (o 1 (ad (.eT 5 (.dH 3 (some (bC g8))) .cY) (o 3 (ad (.eT 9 (.dH 3 (some (bC xa))) .cY) (o 2 (ad (a7 2 (.agg [.b aV.bM,.isl 1 (aV.a9.map I)]) false) (o 1 (ad (.eT 14 (.dH 3 (some (bC g8))) .cY) (o 3 (ad (.eT 18 (.dH 3 (some (bC xa))) .cY) (o 2 (ad (a7 2 (.isl 1 (bw.map I)) false) (ad (a7 2 (ep 3 bC cu) false) (o 1 []))))))))))))))] (.dP (hQ (sz:=3) (f:=bC) h2) (hQ (sz:=3) (f:=bC) ap) (Mh aV aQ) (hQ (sz:=3) (f:=bC) h2) (hQ (sz:=3) (f:=bC) ap) (uF bw bL) (Cv cu cR)))
def qj (aa:(Option bV)) (ak:(Option bV)):Option (Option bV) :=
 aa.elim
 (some (none:(Option bV)))
 fun hG =>
 ak.elim
 (some (none:(Option bV)))
 fun pp =>
 xv aa ak >>= fun aV =>
 nF aV >>= fun bw =>
 some bw
theorem CQ {aa:(Option bV)} {ak:(Option bV)}:bk (qj aa ak) (fun r=>Con aY 36 [ep 3 bC aa,ep 3 bC ak] [] (ep 3 bC r) []):=by
 unfold qj
 exact .mI (fun h1 =>
  .ret (aU [.J (o 1 []),.J (o 1 (ad (.eT 5 (.dH 3 none) .cY) (o 1 (ch 2 (o 1 []))))),.ah true,.J (o 1 [])] (.cp (oi (sz:=3) (f:=bC) h1) bG bG bG) (.bo (.bX (.mL 3)))))
  (fun hG h1 =>
  (have bt:=((.bp (hQ (sz:=3) (f:=bC) h1) fP fP):cd _);
  .mI (fun ag =>
  .ret (aU [.J (o 1 []),.J (o 1 (ad (.eT 5 (.dH 3 (some (bC hG))) .cY) (o 2 (ad (.eT 8 (.dH 3 none) .cY) (o 1 []))))),.ah true,.J (o 1 [])] (bt.az (.e2 (oi (sz:=3) (f:=bC) ag) bG)) (.bo (.bX (.mL 3)))))
  (fun pp ag =>
  .au fun aV aQ =>
  .au fun bw bL =>
  .ret (aU [.J (o 1 []),.J (o 1 (ad (.eT 5 (.dH 3 (some (bC hG))) .cY) (o 2 (ad (.eT 8 (.dH 3 (some (bC pp))) .cY) (o 1 []))))),.ah false,.J (o 2 (ad (a7 2 (ep 3 bC aV) false) (ad (a7 1 (ep 3 bC bw) false) (o 1 []))))] (bt.az (.cp (hQ (sz:=3) (f:=bC) ag) fP (Mv aV aQ) (CP bw bL)))))))
def Cg (bS:(Option bV)) (da:(Option bV)):Option (Option bV) :=
 da >>= fun g8 =>
 ma bS g8.lb >>= fun a2 =>
 bS >>= fun nq =>
 ma da nq.lb >>= fun bw =>
 oB a2 bw >>= fun cu =>
 lJ nq.lb g8.lb >>= fun cN =>
 ny cu cN >>= fun dN =>
 some dN
theorem MJ {bS:(Option bV)} {da:(Option bV)}:bk (Cg bS da) (fun r=>Con aY 74 [ep 3 bC bS,ep 3 bC da] [] (ep 3 bC r) []):=by
 unfold Cg
 exact .au fun g8 h2 =>
  .au fun a2 ap =>
  .au fun nq aQ =>
  .au fun bw bL =>
  .au fun cu cR =>
  .au fun cN fB =>
  .au fun dN ez =>
  .ret (aU [.J (o 1 []),.J (o 2 (ad (.eT 6 (.dH 3 (some (bC g8))) .cY) (o 2 (ad (a7 2 (.agg [.b a2.bM,.isl 1 (a2.a9.map I)]) false) (o 2 (ad (.eT 12 (.dH 3 (some (bC nq))) .cY) (o 2 (ad (a7 2 (.agg [.b bw.bM,.isl 1 (bw.a9.map I)]) false) (ad (a7 2 (.agg [.b cu.bM,.isl 1 (cu.a9.map I)]) false) (o 1 (ad (.eT 18 (.dH 3 (some (bC nq))) .cY) (o 3 (ad (.eT 22 (.dH 3 (some (bC g8))) .cY) (o 2 (ad (a7 2 (.isl 1 (cN.map I)) false) (ad (a7 2 (ep 3 bC dN) false) (o 1 [])))))))))))))))))] (.bh (hQ (sz:=3) (f:=bC) h2) (xl a2 ap) (hQ (sz:=3) (f:=bC) aQ) (xl bw bL) (FH cu cR) (hQ (sz:=3) (f:=bC) aQ) (hQ (sz:=3) (f:=bC) h2) (uF cN fB) (.e1 (Cv dN ez))))
def qk (aa:(Option bV)) (ak:(Option bV)):Option (Option bV) :=
 aa.elim
 (some (none:(Option bV)))
 fun hG =>
 ak.elim
 (some (none:(Option bV)))
 fun pp =>
 Cg aa ak >>= fun aV =>
 nF aV >>= fun bw =>
 some bw
theorem GV {aa:(Option bV)} {ak:(Option bV)}:bk (qk aa ak) (fun r=>Con aY 35 [ep 3 bC aa,ep 3 bC ak] [] (ep 3 bC r) []):=by
 unfold qk
 exact .mI (fun h1 =>
  .ret (aU [.J (o 1 []),.J (o 1 (ad (.eT 5 (.dH 3 none) .cY) (o 1 (ch 2 (o 1 []))))),.ah true,.J (o 1 [])] (.cp (oi (sz:=3) (f:=bC) h1) bG bG bG) (.bo (.bX (.mL 3)))))
  (fun hG h1 =>
  (have bt:=((.bp (hQ (sz:=3) (f:=bC) h1) fP fP):cd _);
  .mI (fun ag =>
  .ret (aU [.J (o 1 []),.J (o 1 (ad (.eT 5 (.dH 3 (some (bC hG))) .cY) (o 2 (ad (.eT 8 (.dH 3 none) .cY) (o 1 []))))),.ah true,.J (o 1 [])] (bt.az (.e2 (oi (sz:=3) (f:=bC) ag) bG)) (.bo (.bX (.mL 3)))))
  (fun pp ag =>
  .au fun aV aQ =>
  .au fun bw bL =>
  .ret (aU [.J (o 1 []),.J (o 1 (ad (.eT 5 (.dH 3 (some (bC hG))) .cY) (o 2 (ad (.eT 8 (.dH 3 (some (bC pp))) .cY) (o 1 []))))),.ah false,.J (o 2 (ad (a7 2 (ep 3 bC aV) false) (ad (a7 1 (ep 3 bC bw) false) (o 1 []))))] (bt.az (.cp (hQ (sz:=3) (f:=bC) ag) fP (MJ aV aQ) (CP bw bL)))))))
def qb (aH:(List Int)):Option (Unit⊕(List Int)) :=
 if aH.length*8≤140737488355328 then (match aH with|[]=>some (.inl ())|x::l=>some (.inr (x::l))) else none
theorem OJ:Con aY 106 [.eQ] [] (.isl 1 []) []:=aU [.J (o 1 []),.J (o 2 []),.ah true,.J (o 1 [])] (.e1 bG) (.bo (.bX (.eO 1)))
theorem OK:Con aY 106 [.f9] [] (.isl 1 []) []:=by
 have h:=fun (h1:(([]:List Int)++([]:List Int)).length*8≤140737488355328)=>(aU [.J (o 1 []),.J (o 2 []),.ah false,.J (o 2 (ad (.az ((([]:List Int)++([]:List Int)).length)) (o 1 [])))] (.dP fP (ia (show []=(([]:List Int)).map I from rfl) (show 0=([]:List Int).length from rfl)) (ib (show 0=([]:List Int).length from rfl) (show ([]:List (List ax))=([]:List Int).map I from rfl):(([]:List Int)++([]:List Int)).length=0+([]:List (List ax)).length) h1 (dv (gf (show []=(([]:List Int)).map I from rfl) (show 0=([]:List Int).length from rfl) (show ([]:List (List ax))=([]:List Int).map I from rfl)) (ba (([]:List Int)++([]:List Int)))) (cq (gf (show []=(([]:List Int)).map I from rfl) (show 0=([]:List Int).length from rfl) (show ([]:List (List ax))=([]:List Int).map I from rfl)) (ba (([]:List Int)++([]:List Int)))) (cn a3 (([]:List Int)++([]:List Int)))) (.bo (.bX (.cL ((([]:List Int)++([]:List Int)).map I)))):Con aY 106 [.f9] [] (.isl 1 []) [])
 exact h (by decide)
theorem OL (x:Int) (l:List Int) (h1:(([]:List Int)++(x::l)).length*8≤140737488355328):Con aY 106 [.isl 1 ((x::l).map I)] [] (.aN 0 0 0 (([]:List Int)++(x::l)).length) [[ab.mk 1 ((([]:List Int)++(x::l)).map I) .live]]:=fL [.J (o 1 []),.J (o 1 (ad .cY [])),.ah false,.J (o 2 (ad (.az ((([]:List Int)++(x::l)).length)) (o 1 [])))] [5] [.dr [ab.mk 1 ((([]:List Int)++(x::l)).map I) .live]] (.dP (by simp:(x::l).map I≠[]) fP (ia (show []=(([]:List Int)).map I from rfl) (show 0=([]:List Int).length from rfl)) (ib (show 0=([]:List Int).length from rfl) (aD I (x::l)):(([]:List Int)++(x::l)).length=0+((x::l).map I).length) h1 (eb 1 .live (gf (show []=(([]:List Int)).map I from rfl) (show 0=([]:List Int).length from rfl) (aD I (x::l)))) (bJ 1 .live a3 (([]:List Int)++(x::l))))
theorem sr {aH:(List Int)}:bk (qb aH) (Sum.elim (fun _=>Con aY 106 [.isl 1 (aH.map I)] [] (.isl 1 []) []) (fun a=>Con aY 106 [.isl 1 (aH.map I)] [] (.aN 0 0 0 a.length) [[ab.mk 1 (a.map I) .live]])):=by
 unfold qb
 refine .bn fun h=> ?_
 cases aH with
 | nil=>exact .ret (Con.fk OJ OK)
 | cons x l =>
  have h2:=OL x l (by simpa using h)
  exact .ret (by simpa using h2)
def uc (bS:cZ):Option ((Bool)⊕(Bool×(List Int))) :=
 if (decide ((60:Int)<(len_ I bS.a9)))=true then
  some (.inl false)
 else
  qb bS.a9 >>= fun r2 =>
  match r2 with
  | .inl ei=>(some (.inl bS.bM))
  | .inr ei=>(some (.inr (bS.bM,ei)))
theorem Fq {bS:cZ}:bk (uc bS) (Sum.elim (fun a=>Con aY 105 [.agg [.b bS.bM,.isl 1 (bS.a9.map I)]] [] (.agg [.b a,.isl 1 (([]:List Int).map I)]) []) (fun a=>Con aY 105 [.agg [.b bS.bM,.isl 1 (bS.a9.map I)]] [] (.agg [.b a.1,.aN 0 0 0 a.2.length]) [[ab.mk 1 (a.2.map I) .live]])):=by
 unfold uc
 exact .ite (fun h1 =>
  .ret (fL [.J (o 2 []),.J (o 4 []),.ah true,.J (o 2 [])] [] [] (.e1 h1) (.bo (.agg [.id,.eO 1]))))
  (fun h1 =>
  .au fun r2 ag =>
  (let t1:List bE:=[.J (o 2 []),.J (o 4 []),.ah false];
  (by
  rcases r2 with ei|ei
  ·exact (.ret (fL (t1.append [.J (o 4 (ad (.call {aB:=[],bN:=[],ac:=[ii],r:= .isl 1 (([]:List Int).map I),cg:=[],cC:=ii,cQ:=[],b6:=[],b5:=true}) (o 2 [])))]) [] [] (.bp h1 (sr (.inl ei) ag) (aK.fk _:aK (.isl 1 (([]:List Int).map I))))))
  ·exact (.ret (fL (t1.append [.J (o 4 (ad (.call {aB:=[],bN:=[],ac:=[ii],r:= .aN 0 0 0 ei.length,cg:=[[ab.mk 1 (ei.map I) .live]],cC:=ii,cQ:=[.pure],b6:=[],b5:=true}) (o 2 [])))]) [10] [.pure] (.d5 h1 (ec 1 a3 ei) (sr (.inr ei) ag) (aK.aN 0 0 0 ei.length) ((e3 (d6 (dW fu) gJ) e4):eL [[ab.mk 1 (ei.map I) .live]]) (bJ 1 .live a3 ei)) (.bo (.agg [.id,.id])))))))
def ss (bS:(Option bV)):Option ((Bool)⊕((Bool×(List Int))⊕((Bool×(List Int))⊕(Bool×(List Int)×(List Int))))) :=
 bS.elim
 (some (.inl false))
 fun hG =>
 uc hG.m6 >>= fun a2 =>
 match a2 with
 | .inl cw=>(qb hG.lb >>= fun dk =>
  match dk with
  | .inl gU=>(some (.inl cw))
  | .inr gU=>(some (.inr (.inl (cw,gU)))))
 | .inr cw=>(qb hG.lb >>= fun dk =>
  match dk with
  | .inl gU=>(some (.inr (.inr (.inl (cw.1,cw.2)))))
  | .inr gU=>(some (.inr (.inr (.inr (cw.1,cw.2,gU))))))
theorem xz {bS:(Option bV)}:bk (ss bS) (Sum.elim (fun a=>Con aY 76 [ep 3 bC bS] [] (.agg [.b a,.isl 1 (([]:List Int).map I),.isl 1 (([]:List Int).map I)]) []) (Sum.elim (fun a=>Con aY 76 [ep 3 bC bS] [] (.agg [.b a.1,.isl 1 (([]:List Int).map I),.aN 0 0 0 a.2.length]) [[ab.mk 1 (a.2.map I) .live]]) (Sum.elim (fun a=>Con aY 76 [ep 3 bC bS] [] (.agg [.b a.1,.aN 0 0 0 a.2.length,.isl 1 (([]:List Int).map I)]) [[ab.mk 1 (a.2.map I) .live]]) (fun a=>Con aY 76 [ep 3 bC bS] [] (.agg [.b a.1,.aN 0 0 0 a.2.1.length,.aN 0 1 0 a.2.2.length]) [[ab.mk 1 (a.2.1.map I) .live,ab.mk 1 (a.2.2.map I) .live]])))):=by
 unfold ss
 exact .mI (fun h1 =>
  .ret (fL [.J (o 1 []),.J (o 1 (ad (.eT 3 (.dH 3 none) .cY) [])),.ah true,.J (o 2 [])] [] [] (.e2 (oi (sz:=3) (f:=bC) h1) bG) (.bo (.agg [.id,.eO 1,.eO 1]))))
  (fun hG h1 =>
  .au fun a2 ap =>
  (let t1:List bE:=[.J (o 1 []),.J (o 1 (ad (.eT 3 (.dH 3 (some (bC hG))) .cY) [])),.ah false];
  have aO:=((.bp (hQ (sz:=3) (f:=bC) h1) fP (hQ (sz:=3) (f:=bC) h1)):cd _);
  (by
  rcases a2 with cw|cw
  ·exact (.au fun dk bd =>
  (have dZ:=aO.az (.bp (Fq (.inl cw) ap) (aK.agg (cG (aK.b cw) (cG (aK.fk _:aK (.isl 1 (([]:List Int).map I))) fH))) (hQ (sz:=3) (f:=bC) h1));
  (by
  rcases dk with gU|gU
  ·exact (.ret (fL (t1.append [.J (o 1 (ad (.eT 6 (.dH 3 (some (bC hG))) .cY) (o 2 (ad (.call {aB:=[],bN:=[],ac:=[ii],r:= .agg [.b cw,.isl 1 (([]:List Int).map I)],cg:=[],cC:=ii,cQ:=[],b6:=[],b5:=true}) (o 1 (ad (.eT 11 (.dH 3 (some (bC hG))) .cY) (o 2 (ad (.call {aB:=[],bN:=[],ac:=[ii],r:= .isl 1 (([]:List Int).map I),cg:=[],cC:=ii,cQ:=[],b6:=[],b5:=true}) (o 2 [])))))))))]) [] [] (dZ.az (.e2 (sr (.inl gU) bd) (aK.fk _:aK (.isl 1 (([]:List Int).map I)))))))
  ·exact (.ret (fL (t1.append [.J (o 1 (ad (.eT 6 (.dH 3 (some (bC hG))) .cY) (o 2 (ad (.call {aB:=[],bN:=[],ac:=[ii],r:= .agg [.b cw,.isl 1 (([]:List Int).map I)],cg:=[],cC:=ii,cQ:=[],b6:=[],b5:=true}) (o 1 (ad (.eT 11 (.dH 3 (some (bC hG))) .cY) (o 2 (ad (.call {aB:=[],bN:=[],ac:=[ii],r:= .aN 0 0 0 gU.length,cg:=[[ab.mk 1 (gU.map I) .live]],cC:=ii,cQ:=[.pure],b6:=[],b5:=true}) (o 2 [])))))))))]) [12] [.pure] (dZ.az (.cM (ec 1 a3 gU) (sr (.inr gU) bd) (aK.aN 0 0 0 gU.length) ((e3 (d6 (dW fu) gJ) e4):eL [[ab.mk 1 (gU.map I) .live]]) (bJ 1 .live a3 gU))) (.bo (.agg [.id,.id,.id])))))))
  ·exact (.au fun dk bd =>
  (have dZ:=aO.az (.cM (ec 1 a3 cw.2) (Fq (.inr cw) ap) (aK.agg (cG (aK.b cw.1) (cG (aK.aN 0 0 0 cw.2.length) fH))) ((e3 (d6 (dW fu) gJ) e4):eL [[ab.mk 1 (cw.2.map I) .live]]) (hQ (sz:=3) (f:=bC) h1));
  (by
  rcases dk with gU|gU
  ·exact (.ret (fL (t1.append [.J (o 1 (ad (.eT 6 (.dH 3 (some (bC hG))) .cY) (o 2 (ad (.call {aB:=[],bN:=[],ac:=[ii],r:= .agg [.b cw.1,.aN 0 0 0 cw.2.length],cg:=[[ab.mk 1 (cw.2.map I) .live]],cC:= .bo (.agg [.id,.id]),cQ:=[.pure],b6:=[],b5:=true}) (o 1 (ad (.eT 11 (.dH 3 (some (bC hG))) .cY) (o 2 (ad (.call {aB:=[],bN:=[],ac:=[ii],r:= .isl 1 (([]:List Int).map I),cg:=[],cC:=ii,cQ:=[],b6:=[],b5:=true}) (o 2 [])))))))))]) [7] [.pure] (dZ.az (.bp (sr (.inl gU) bd) (aK.fk _:aK (.isl 1 (([]:List Int).map I))) (bJ 1 .live a3 cw.2))) (.bo (.agg [.id,.id,.id]))))
  ·exact (.ret (fL (t1.append [.J (o 1 (ad (.eT 6 (.dH 3 (some (bC hG))) .cY) (o 2 (ad (.call {aB:=[],bN:=[],ac:=[ii],r:= .agg [.b cw.1,.aN 0 0 0 cw.2.length],cg:=[[ab.mk 1 (cw.2.map I) .live]],cC:= .bo (.agg [.id,.id]),cQ:=[.pure],b6:=[],b5:=true}) (o 1 (ad (.eT 11 (.dH 3 (some (bC hG))) .cY) (o 2 (ad (.call {aB:=[],bN:=[],ac:=[ii],r:= .aN 0 0 0 gU.length,cg:=[[ab.mk 1 (gU.map I) .live]],cC:=ii,cQ:=[.pure],b6:=[],b5:=true}) (o 2 []))))))))),.wG [{a0:=[(7,0),(12,0)],hi:=none},{a0:=[(0,0)]}] [([.pure,.pure],none),([.box [.id,.at_ 0 0 cw.2.length,.at_ 0 1 gU.length]],none)] [(2,.bo (.bX (.at_ 1 0 0)))]]) [0] [.dO [ab.mk 1 (cw.2.map I) .live,ab.mk 1 (gU.map I) .live]] (dZ.az (.bh (ec 1 a3 gU) (sr (.inr gU) bd) (aK.aN 0 0 0 gU.length) ((e3 (d6 (dW fu) gJ) e4):eL [[ab.mk 1 (gU.map I) .live]]) (bJ 1 .live a3 cw.2) (bJ 1 .live a3 gU) (rfl:(ji [{a0:=[(7,0),(12,0)],hi:=none},{a0:=[(0,0)]}]) 0 0=some (7,0)) (rfl:cw.2.length=cw.2.length) (.cp (rfl:(ji [{a0:=[(7,0),(12,0)],hi:=none},{a0:=[(0,0)]}]) 0 1=some (12,0)) (rfl:gU.length=gU.length) (rfl:(ji [{a0:=[(7,0),(12,0)],hi:=none},{a0:=[(0,0)]}]) 1 0=some (0,0)) (df (dh (aW:=(eD [0])) 1 .live I (aD I cw.2) (fun x=>(dg ev) x)) (df (dh (aW:=(eD [0])) 1 .live I (aD I gU) (fun x=>(dg ev) x)) (jo (aW:=(eD [0])))))))) (.bo (.agg [.id,.id,.id]))))))))))
def u0 (bS:(Option bV)):Option ((Bool×Bool)⊕((Bool×(List Int))⊕((Bool×(List Int))⊕(Bool×(List Int)×(List Int))))) :=
 bS.elim
 (some (.inl (false,false)))
 fun hG =>
 ss bS >>= fun a2 =>
 match a2 with
 | .inl cw=>(some (.inl (cw,true)))
 | .inr (.inl cw)=>(some (.inr (.inl (cw.1,cw.2))))
 | .inr (.inr (.inl cw))=>(some (.inr (.inr (.inl (cw.1,cw.2)))))
 | .inr (.inr (.inr cw))=>(some (.inr (.inr (.inr (cw.1,cw.2.1,cw.2.2)))))
theorem xF {bS:(Option bV)}:bk (u0 bS) (Sum.elim (fun a=>Con aY 37 [ep 3 bC bS] [] (.cz [.agg [.b a.1,.isl 1 (([]:List Int).map I),.isl 1 (([]:List Int).map I)],.b a.2]) []) (Sum.elim (fun a=>Con aY 37 [ep 3 bC bS] [] (.cz [.agg [.b a.1,.isl 1 (([]:List Int).map I),.aN 0 0 0 a.2.length],.b true]) [[ab.mk 1 (a.2.map I) .live]]) (Sum.elim (fun a=>Con aY 37 [ep 3 bC bS] [] (.cz [.agg [.b a.1,.aN 0 0 0 a.2.length,.isl 1 (([]:List Int).map I)],.b true]) [[ab.mk 1 (a.2.map I) .live]]) (fun a=>Con aY 37 [ep 3 bC bS] [] (.cz [.agg [.b a.1,.aN 0 0 0 a.2.1.length,.aN 0 1 0 a.2.2.length],.b true]) [[ab.mk 1 (a.2.1.map I) .live,ab.mk 1 (a.2.2.map I) .live]])))):=by
 unfold u0
 exact .mI (fun h1 =>
  .ret (fL [.J (o 2 []),.J (o 1 (ad (.eT 4 (.dH 3 none) .cY) [])),.ah true,.J (o 3 [])] [] [] (.e2 (oi (sz:=3) (f:=bC) h1) bG) (.comp [.agg [.id,.eO 1,.eO 1],.bX .id])))
  (fun hG h1 =>
  .au fun a2 ap =>
  (let t1:List bE:=[.J (o 2 []),.J (o 1 (ad (.eT 4 (.dH 3 (some (bC hG))) .cY) [])),.ah false];
  have aO:=((.e2 (hQ (sz:=3) (f:=bC) h1) fP):cd _);
  (by
  rcases a2 with cw|cw|cw|cw
  ·exact (.ret (fL (t1.append [.J (o 1 (ad (.call {aB:=[],bN:=[],ac:=[ii],r:= .agg [.b cw,.isl 1 (([]:List Int).map I),.isl 1 (([]:List Int).map I)],cg:=[],cC:=ii,cQ:=[],b6:=[],b5:=true}) (o 2 [])))]) [] [] (aO.az (.e2 (xz (.inl cw) ap) (aK.agg (cG (aK.b cw) (cG (aK.fk _:aK (.isl 1 (([]:List Int).map I))) (cG (aK.fk _:aK (.isl 1 (([]:List Int).map I))) fH))))))))
  ·exact (.ret (fL (t1.append [.J (o 1 (ad (.call {aB:=[],bN:=[],ac:=[ii],r:= .agg [.b cw.1,.isl 1 (([]:List Int).map I),.aN 0 0 0 cw.2.length],cg:=[[ab.mk 1 (cw.2.map I) .live]],cC:= .bo (.agg [.id,.id,.id]),cQ:=[.pure],b6:=[],b5:=true}) (o 2 [])))]) [5] [.pure] (aO.az (.cM (ec 1 a3 cw.2) (xz (.inr (.inl cw)) ap) (aK.agg (cG (aK.b cw.1) (cG (aK.fk _:aK (.isl 1 (([]:List Int).map I))) (cG (aK.aN 0 0 0 cw.2.length) fH)))) ((e3 (d6 (dW fu) gJ) e4):eL [[ab.mk 1 (cw.2.map I) .live]]) (bJ 1 .live a3 cw.2))) (.comp [.agg [.id,.id,.id],.bX .id])))
  ·exact (.ret (fL (t1.append [.J (o 1 (ad (.call {aB:=[],bN:=[],ac:=[ii],r:= .agg [.b cw.1,.aN 0 0 0 cw.2.length,.isl 1 (([]:List Int).map I)],cg:=[[ab.mk 1 (cw.2.map I) .live]],cC:= .bo (.agg [.id,.id,.id]),cQ:=[.pure],b6:=[],b5:=true}) (o 2 [])))]) [5] [.pure] (aO.az (.cM (ec 1 a3 cw.2) (xz (.inr (.inr (.inl cw))) ap) (aK.agg (cG (aK.b cw.1) (cG (aK.aN 0 0 0 cw.2.length) (cG (aK.fk _:aK (.isl 1 (([]:List Int).map I))) fH)))) ((e3 (d6 (dW fu) gJ) e4):eL [[ab.mk 1 (cw.2.map I) .live]]) (bJ 1 .live a3 cw.2))) (.comp [.agg [.id,.id,.id],.bX .id])))
  ·exact (.ret (fL (t1.append [.J (o 1 (ad (.call {aB:=[],bN:=[],ac:=[ii],r:= .agg [.b cw.1,.aN 0 0 0 cw.2.1.length,.aN 0 1 0 cw.2.2.length],cg:=[[ab.mk 1 (cw.2.1.map I) .live,ab.mk 1 (cw.2.2.map I) .live]],cC:= .bo (.agg [.id,.id,.id]),cQ:=[.dO [ab.mk 1 (cw.2.1.map I) .live,ab.mk 1 (cw.2.2.map I) .live]],b6:=[],b5:=true}) (o 2 [])))]) [5] [.dO [ab.mk 1 (cw.2.1.map I) .live,ab.mk 1 (cw.2.2.map I) .live]] (aO.az (.d5 (df (dh (aW:=(cj [.row 5])) 1 .live I (aD I cw.2.1) (fun x=>(dg ev) x)) (df (dh (aW:=(cj [.row 5])) 1 .live I (aD I cw.2.2) (fun x=>(dg ev) x)) (jo (aW:=(cj [.row 5]))))) ((er rfl (er rfl kW)):eF [ab.mk 1 (cw.2.1.map I) .live,ab.mk 1 (cw.2.2.map I) .live]) (xz (.inr (.inr (.inr cw))) ap) (aK.agg (cG (aK.b cw.1) (cG (aK.aN 0 0 0 cw.2.1.length) (cG (aK.aN 0 1 0 cw.2.2.length) fH)))) ((e3 (d6 (dW fu) (d6 (dW fu) gJ)) e4):eL [[ab.mk 1 (cw.2.1.map I) .live,ab.mk 1 (cw.2.2.map I) .live]]) (df (dh (aW:=(eD [5])) 1 .live I (aD I cw.2.1) (fun x=>(dg ev) x)) (df (dh (aW:=(eD [5])) 1 .live I (aD I cw.2.2) (fun x=>(dg ev) x)) (jo (aW:=(eD [5]))))))) (.comp [.agg [.id,.id,.id],.bX .id]))))))
def zY (fg:(List (Option bV))) (kZ:(List (Option bV))) (k8:Int) (e9:(List bg)) (ff:(List bR)):((Option bV)×Int)→S:=fun (my,kI)=>dy [(3,.ref 0 0 0 0),(6,.ref 1 0 0 0),(8,.isl 1 (fg.map (ea 3 bC))),(10,.isl 1 (kZ.map (ea 3 bC))),(12,ep 3 bC my),(36,.n .i64 k8),(37,.n .i64 kI)] [[ab.mk 2 [[.isl 4 (e9.map aG),.isl 3 (ff.map aZ)]] .fx],[ab.mk 3 [[.b false,.eQ,.eQ]] .live]]
def z5 (fg:(List (Option bV))) (kZ:(List (Option bV))) (k8:Int) (e9:(List bg)) (ff:(List bR)):(Option bV)→dB
 | a=>⟨some 0,[(6,.ref 0 0 0 0),(12,ep 3 bC a)],[[ab.mk 3 [[.b false,.eQ,.eQ]] .live]]⟩
def rz (fg:(List (Option bV))) (kZ:(List (Option bV))) (k8:Int) (e9:(List bg)) (ff:(List bR)) (my:(Option bV)) (kI:Int):Option (((Option bV)×Int)⊕((Option bV))) :=
 if (decide (kI<k8))=true then
  t8 (⟨e9,ff⟩:c4) kI kZ >>= fun r2 =>
  if 0≤kI∧kI<fg.length then
  fg[kI.toNat]? >>= fun b2 =>
  qj r2.1 r2.1 >>= fun bw =>
  qj r2.2 r2.2 >>= fun cu =>
  qk bw cu >>= fun cN =>
  qj b2 cN >>= fun dN =>
  qk my dN >>= fun et =>
  some (.inl (et,U (kI+(1:Int))))
  else none
 else
  some (.inr my)
def Bx (fg:(List (Option bV))) (kZ:(List (Option bV))) (k8:Int) (e9:(List bg)) (ff:(List bR)) (my:(Option bV)) (kI:Int):Option ((Option bV)):=iter (fun w:(Option bV)×Int=>rz fg kZ k8 e9 ff w.1 w.2) (my,kI)
theorem K5 {fg:(List (Option bV))} {kZ:(List (Option bV))} {k8:Int} {e9:(List bg)} {ff:(List bR)} {my:(Option bV)} {kI:Int}:bk (rz fg kZ k8 e9 ff my kI) (eg aY 65 0 9 [1,1,1,1,1,0,1,0,0] (zY fg kZ k8 e9 ff (my,kI)) (zY fg kZ k8 e9 ff) (z5 fg kZ k8 e9 ff)):=by
 unfold rz
 exact .ite (fun h1 =>
  .au fun r2 ag =>
  .bn fun ap =>
  .au fun b2 aQ =>
  .au fun bw bL =>
  .au fun cu cR =>
  .au fun cN fB =>
  .au fun dN ez =>
  .au fun et gY =>
  .ret (bz [.J (o 1 []),.ah true,.J (o 2 []),.J (o 2 (ad (.call {ac:=[.bo (.ptr [.id,.id]),ii,ii],r:= .cz [ep 3 bC r2.1,ep 3 bC r2.2],b5:=false,b6:=[0]}) (o 5 []))),.J (o 4 (ad (.b8 ((ea 3 bC) b2)) (o 2 (ad (a7 2 (ep 3 bC bw) false) (o 2 (ad (a7 2 (ep 3 bC cu) false) (ad (a7 2 (ep 3 bC cN) false) (ad (a7 2 (ep 3 bC dN) false) (ad (a7 2 (ep 3 bC et) false) (o 1 [])))))))))),.J (o 2 []),.a4 [0,1] [.box [.id,.id],.box [.id,.id,.id]] (bB [3,6,8,10,12,36,37])] (.bh h1 (nE (uj (⟨e9,ff⟩:c4)):hn [[.isl 4 (e9.map aG),.isl 3 (ff.map aZ)]]) (Lz r2 ag) ap.1 (dd (ea 3 bC) ap.2) (cB (ea 3 bC) aQ) (CQ bw bL) (CQ cu cR) (.bp (GV cN fB) (CQ dN ez) (GV et gY)))))
  (fun h1 =>
  .ret (bz [.J (o 1 []),.ah false,.a4 [1] [.box [.id,.id,.id]] (bB [6,12])] (.e1 h1)))
theorem L5 {fg:(List (Option bV))} {kZ:(List (Option bV))} {k8:Int} {e9:(List bg)} {ff:(List bR)} {my:(Option bV)} {kI:Int} {r} (h:Bx fg kZ k8 e9 ff my kI=some r):eh aY 65 0 9 [1,1,1,1,1,0,1,0,0] (zY fg kZ k8 e9 ff) (z5 fg kZ k8 e9 ff) (my,kI) r:=ej (fun _=>K5) h
def pO (aH:c4) (fN:(List bF)) (c5:(List bF)):Option ((Bool×Bool)⊕((Bool×(List Int))⊕((Bool×(List Int))⊕(Bool×(List Int)×(List Int))))) :=
 sc aH fN >>= fun r1 =>
 pH aH c5 >>= fun a2 =>
 if r1.2=true then
  if a2.2=true then
   sG 0 >>= fun bw =>
   Bx r1.1 a2.1 (len_ aZ aH.b9) aH.a6 aH.b9 bw 0 >>= fun cu =>
   u0 cu >>= fun cN =>
   match cN with
   | .inl eH=>(some (.inl (eH.1,eH.2)))
   | .inr (.inl eH)=>(some (.inr (.inl (eH.1,eH.2))))
   | .inr (.inr (.inl eH))=>(some (.inr (.inr (.inl (eH.1,eH.2)))))
   | .inr (.inr (.inr eH))=>(some (.inr (.inr (.inr (eH.1,eH.2.1,eH.2.2)))))
  else
   some (.inl (false,false))
 else
  some (.inl (false,false))
theorem oz {aH:c4} {fN:(List bF)} {c5:(List bF)}:bk (pO aH fN c5) (Sum.elim (fun a=>Con aY 9 [.agg [.isl 4 (aH.a6.map aG),.isl 3 (aH.b9.map aZ)],.isl 3 (fN.map eTRat),.isl 3 (c5.map eTRat)] [] (.cz [.agg [.b a.1,.isl 1 (([]:List Int).map I),.isl 1 (([]:List Int).map I)],.b a.2]) []) (Sum.elim (fun a=>Con aY 9 [.agg [.isl 4 (aH.a6.map aG),.isl 3 (aH.b9.map aZ)],.isl 3 (fN.map eTRat),.isl 3 (c5.map eTRat)] [] (.cz [.agg [.b a.1,.isl 1 (([]:List Int).map I),.aN 0 0 0 a.2.length],.b true]) [[ab.mk 1 (a.2.map I) .live]]) (Sum.elim (fun a=>Con aY 9 [.agg [.isl 4 (aH.a6.map aG),.isl 3 (aH.b9.map aZ)],.isl 3 (fN.map eTRat),.isl 3 (c5.map eTRat)] [] (.cz [.agg [.b a.1,.aN 0 0 0 a.2.length,.isl 1 (([]:List Int).map I)],.b true]) [[ab.mk 1 (a.2.map I) .live]]) (fun a=>Con aY 9 [.agg [.isl 4 (aH.a6.map aG),.isl 3 (aH.b9.map aZ)],.isl 3 (fN.map eTRat),.isl 3 (c5.map eTRat)] [] (.cz [.agg [.b a.1,.aN 0 0 0 a.2.1.length,.aN 0 1 0 a.2.2.length],.b true]) [[ab.mk 1 (a.2.1.map I) .live,ab.mk 1 (a.2.2.map I) .live]])))):=by
 unfold pO
 exact .au fun r1 h2 =>
  .au fun a2 ap =>
  (let t1:List bE:=[.J (o 3 []),.fx 0,.J (o 1 (ad (.call {ac:=[.bo (.ptr [.id,.id]),ii],r:= .cz [.isl 1 (r1.1.map (ea 3 bC)),.b r1.2],b5:=false,b6:=[0]}) (o 5 []))),.J (o 1 (ad (.call {ac:=[.bo (.ptr [.id,.id]),ii],r:= .cz [.isl 1 (a2.1.map (ea 3 bC)),.b a2.2],b5:=false,b6:=[0]}) (o 5 [])))];
  have aO:=((.cp (nE (uj aH):hn [[.isl 4 (aH.a6.map aG),.isl 3 (aH.b9.map aZ)]]) (MY r1 h2) (nE (uj aH):hn [[.isl 4 (aH.a6.map aG),.isl 3 (aH.b9.map aZ)]]) (L1 a2 ap)):cd _);
  .ite (fun aE =>
  (let t3:List bE:=t1.append [.J (o 5 (ad (.ah false) []))];
  have d4:=aO.az (.bp (bK aE) (bK aE) (bK aE));
  .ite (fun aQ =>
  .au fun bw bL =>
  .au fun cu cR =>
  .au fun cN fB =>
  (let t5:List bE:=t3.append [.ah false,.J (ad (a7 1 (ep 3 bC bw) false) (o 1 [])),.J (o 4 []),.a4 [0,1] [.box [.id,.id],.box [.id,.id,.id]] (bB [3,6,8,10,12,36,37]),(z5 r1.1 a2.1 (len_ aZ aH.b9) aH.a6 aH.b9 cu).fo];
  have jy:=d4.az (.bp (bK aQ) (Gz bw bL) (L5 cR));
  (by
  rcases cN with eH|eH|eH|eH
  ·exact (.ret (fL (t5.append [.J (o 1 (ad (.call {aB:=[],bN:=[],ac:=[ii],r:= .cz [.agg [.b eH.1,.isl 1 (([]:List Int).map I),.isl 1 (([]:List Int).map I)],.b eH.2],cg:=[],cC:=ii,cQ:=[],b6:=[],b5:=true}) (o 4 [])))]) [] [] (jy.az (.e2 (xF (.inl eH) fB) (lx (cG (aK.agg (cG (aK.b eH.1) (cG (aK.fk _:aK (.isl 1 (([]:List Int).map I))) (cG (aK.fk _:aK (.isl 1 (([]:List Int).map I))) fH)))) (cG (aK.b eH.2) fH)))))))
  ·exact (.ret (fL (t5.append [.J (o 1 (ad (.call {aB:=[],bN:=[],ac:=[ii],r:= .cz [.agg [.b eH.1,.isl 1 (([]:List Int).map I),.aN 0 0 0 eH.2.length],.b true],cg:=[[ab.mk 1 (eH.2.map I) .live]],cC:= .comp [.agg [.id,.id,.id],.bX .id],cQ:=[.pure],b6:=[],b5:=true}) (o 4 [])))]) [2] [.pure] (jy.az (.cM (ec 1 a3 eH.2) (xF (.inr (.inl eH)) fB) (lx (cG (aK.agg (cG (aK.b eH.1) (cG (aK.fk _:aK (.isl 1 (([]:List Int).map I))) (cG (aK.aN 0 0 0 eH.2.length) fH)))) (cG (aK.b true) fH))) ((e3 (d6 (dW fu) gJ) e4):eL [[ab.mk 1 (eH.2.map I) .live]]) (bJ 1 .live a3 eH.2))) (.comp [.agg [.id,.id,.id],.bX .id])))
  ·exact (.ret (fL (t5.append [.J (o 1 (ad (.call {aB:=[],bN:=[],ac:=[ii],r:= .cz [.agg [.b eH.1,.aN 0 0 0 eH.2.length,.isl 1 (([]:List Int).map I)],.b true],cg:=[[ab.mk 1 (eH.2.map I) .live]],cC:= .comp [.agg [.id,.id,.id],.bX .id],cQ:=[.pure],b6:=[],b5:=true}) (o 4 [])))]) [2] [.pure] (jy.az (.cM (ec 1 a3 eH.2) (xF (.inr (.inr (.inl eH))) fB) (lx (cG (aK.agg (cG (aK.b eH.1) (cG (aK.aN 0 0 0 eH.2.length) (cG (aK.fk _:aK (.isl 1 (([]:List Int).map I))) fH)))) (cG (aK.b true) fH))) ((e3 (d6 (dW fu) gJ) e4):eL [[ab.mk 1 (eH.2.map I) .live]]) (bJ 1 .live a3 eH.2))) (.comp [.agg [.id,.id,.id],.bX .id])))
  ·exact (.ret (fL (t5.append [.J (o 1 (ad (.call {aB:=[],bN:=[],ac:=[ii],r:= .cz [.agg [.b eH.1,.aN 0 0 0 eH.2.1.length,.aN 0 1 0 eH.2.2.length],.b true],cg:=[[ab.mk 1 (eH.2.1.map I) .live,ab.mk 1 (eH.2.2.map I) .live]],cC:= .comp [.agg [.id,.id,.id],.bX .id],cQ:=[.dO [ab.mk 1 (eH.2.1.map I) .live,ab.mk 1 (eH.2.2.map I) .live]],b6:=[],b5:=true}) (o 4 [])))]) [2] [.dO [ab.mk 1 (eH.2.1.map I) .live,ab.mk 1 (eH.2.2.map I) .live]] (jy.az (.d5 (df (dh (aW:=(cj [.row 2])) 1 .live I (aD I eH.2.1) (fun x=>(dg ev) x)) (df (dh (aW:=(cj [.row 2])) 1 .live I (aD I eH.2.2) (fun x=>(dg ev) x)) (jo (aW:=(cj [.row 2]))))) ((er rfl (er rfl kW)):eF [ab.mk 1 (eH.2.1.map I) .live,ab.mk 1 (eH.2.2.map I) .live]) (xF (.inr (.inr (.inr eH))) fB) (lx (cG (aK.agg (cG (aK.b eH.1) (cG (aK.aN 0 0 0 eH.2.1.length) (cG (aK.aN 0 1 0 eH.2.2.length) fH)))) (cG (aK.b true) fH))) ((e3 (d6 (dW fu) (d6 (dW fu) gJ)) e4):eL [[ab.mk 1 (eH.2.1.map I) .live,ab.mk 1 (eH.2.2.map I) .live]]) (df (dh (aW:=(eD [2])) 1 .live I (aD I eH.2.1) (fun x=>(dg ev) x)) (df (dh (aW:=(eD [2])) 1 .live I (aD I eH.2.2) (fun x=>(dg ev) x)) (jo (aW:=(eD [2]))))))) (.comp [.agg [.id,.id,.id],.bX .id]))))))
  (fun aQ =>
  .ret (fL (t3.append [.ah true,.J (o 3 [])]) [] [] (d4.az (.e1 (b3 aQ))) (.comp [.agg [.id,.eO 1,.eO 1],.bX .id])))))
  (fun aE =>
  .ret (fL (t1.append [.J (o 3 (ch 2 (ad (.ah true) []))),.ah true,.J (o 3 [])]) [] [] (aO.az (.cp (b3 aE) (b3 aE) (b3 aE) bG)) (.comp [.agg [.id,.eO 1,.eO 1],.bX .id]))))
def A9 (aa:(List Int)) (ak:(List Int)):Int→S:=fun ai=>dy [(0,.isl 1 (aa.map I)),(1,.isl 1 (ak.map I)),(5,.n .i64 ai)] []
def FO (aa:(List Int)) (ak:(List Int)):((Unit)⊕(Unit))→dB
 | .inl a=>⟨some 0,[],[]⟩
 | .inr a=>⟨none,[(4,.b false)],[]⟩
def rT (aa:(List Int)) (ak:(List Int)) (ai:Int):Option ((Int)⊕((Unit)⊕(Unit))) :=
 if (decide (ai<(len_ I aa)))=true then
  if 0≤ai∧ai<aa.length then
  aa[ai.toNat]? >>= fun an =>
  if 0≤ai∧ai<ak.length then
  ak[ai.toNat]? >>= fun bW =>
  if (an != bW)=true then
   some (.inr (.inr ()))
  else
   some (.inl (U (ai+(1:Int))))
  else none
  else none
 else
  some (.inr (.inl ()))
def Cw (aa:(List Int)) (ak:(List Int)) (ai:Int):Option ((Unit)⊕(Unit)):=iter (fun w:Int=>rT aa ak w) ai
theorem LR {aa:(List Int)} {ak:(List Int)} {ai:Int}:bk (rT aa ak ai) (eg aY 26 0 39 [1,1,0,1,0,0] (A9 aa ak ai) (A9 aa ak) (FO aa ak)):=by
 unfold rT
 exact .ite (fun h1 =>
  .bn fun h2 =>
  .au fun an ap =>
  .bn fun aE =>
  .au fun bW bd =>
  (let t1:List bE:=[.J (o 4 []),.ah true,.J (o 3 (ad (.b8 (I an)) (o 3 (ad (.b8 (I bW)) (o 1 [])))))];
  have aO:=((.dP h1 h2.1 (dd I h2.2) (cB I ap) aE.1 (dd I aE.2) (cB I bd)):cd _);
  .ite (fun bL =>
  .ret (bz (t1.append [.ah true,.J (o 1 []),.a4 [] [] (bB [4])]) (aO.az (.e1 bL))))
  (fun bL =>
  .ret (bz (t1.append [.ah false,.J (o 3 []),.a4 [] [] (bB [0,1,5])]) (aO.az (.e1 bL))))))
  (fun h1 =>
  .ret (bz [.J (o 4 []),.ah false,.a4 [] [] []] (.e1 h1)))
theorem FZ {aa:(List Int)} {ak:(List Int)} {ai:Int} {r} (h:Cw aa ak ai=some r):eh aY 26 0 39 [1,1,0,1,0,0] (A9 aa ak) (FO aa ak) ai r:=ej (fun _=>LR) h
def sE (aa:(List Int)) (ak:(List Int)):Option Bool :=
 if ((len_ I aa) != (len_ I ak))=true then
  some false
 else
  Cw aa ak 0 >>= fun r2 =>
  match r2 with
  | .inl ei=>(some true)
  | .inr ei=>(some false)
theorem Gs {aa:(List Int)} {ak:(List Int)}:bk (sE aa ak) (fun r=>Con aY 39 [.isl 1 (aa.map I),.isl 1 (ak.map I)] [] (.b r) []):=by
 unfold sE
 exact .ite (fun h1 =>
  .ret (aU [.J (o 1 []),.J (o 5 []),.ah true,.J (o 1 [])] (.e1 h1)))
  (fun h1 =>
  .au fun r2 ag =>
  (let t1:List bE:=[.J (o 1 []),.J (o 5 []),.ah false,.J (o 1 []),.a4 [] [] (bB [0,1,5])];
  (by
  rcases r2 with ei|ei
  ·exact (.ret (aU (t1.append [.sub (.exit 0) [] [],.J (o 1 [])]) (.e2 h1 (FZ ag))))
  ·exact (.ret (aU (t1.append [.sub (.ret) [(4,.b false)] []]) (.e2 h1 (FZ ag)))))))
def xJ (aa:cZ) (ak:cZ):Option Bool :=
 if (aa.bM == ak.bM)=true then
  sE aa.a9 ak.a9 >>= fun r2 =>
  if r2=true then
   some true
  else
   some false
 else
  some false
theorem Nm {aa:cZ} {ak:cZ}:bk (xJ aa ak) (fun r=>Con aY 38 [.agg [.b aa.bM,.isl 1 (aa.a9.map I)],.agg [.b ak.bM,.isl 1 (ak.a9.map I)]] [] (.b r) []):=by
 unfold xJ
 exact .ite (fun h1 =>
  .au fun r2 ag =>
  (let t1:List bE:=[.J (o 3 []),.J (o 5 []),.ah false,.J (o 4 (ad (a7 2 (.b r2) true) (o 1 [])))];
  have aO:=((.bp (bK h1) (Gs r2 ag) (aK.b r2)):cd _);
  .ite (fun ap =>
  .ret (aU (t1.append [.ah false,.J (o 1 [])]) (aO.az (.e1 (bK ap)))))
  (fun ap =>
  .ret (aU (t1.append [.ah true,.J (o 1 [])]) (aO.az (.e1 (b3 ap)))))))
  (fun h1 =>
  .ret (aU [.J (o 3 []),.J (o 5 []),.ah true,.J (o 1 [])] (.e1 (b3 h1))))
def mW (aa:bF) (ak:bF):Option Bool :=
 xJ aa.bm ak.bm >>= fun r1 =>
 if r1=true then
  sE aa.bO ak.bO >>= fun bb =>
  if bb=true then
   some true
  else
   some false
 else
  some false
theorem lI {aa:bF} {ak:bF}:bk (mW aa ak) (fun r=>Con aY 10 [.agg [.b aa.bm.bM,.isl 1 (aa.bm.a9.map I),.isl 1 (aa.bO.map I)],.agg [.b ak.bm.bM,.isl 1 (ak.bm.a9.map I),.isl 1 (ak.bO.map I)]] [] (.b r) []):=by
 unfold mW
 exact .au fun r1 h2 =>
  (let t1:List bE:=[.J (o 3 []),.J (o 4 (ad (a7 2 (.b r1) true) (o 1 [])))];
  have aO:=((.e2 (Nm r1 h2) (aK.b r1)):cd _);
  .ite (fun ag =>
  .au fun bb aE =>
  (let t3:List bE:=t1.append [.ah false,.J (o 4 (ad (a7 2 (.b bb) true) (o 1 [])))];
  have d4:=aO.az (.bp (bK ag) (Gs bb aE) (aK.b bb));
  .ite (fun aQ =>
  .ret (aU (t3.append [.ah false,.J (o 1 [])]) (d4.az (.e1 (bK aQ)))))
  (fun aQ =>
  .ret (aU (t3.append [.ah true,.J (o 1 [])]) (d4.az (.e1 (b3 aQ)))))))
  (fun ag =>
  .ret (aU (t1.append [.ah true,.J (o 1 [])]) (aO.az (.e1 (b3 ag))))))
def uT (aa:bg) (ak:bg):Option Bool :=
 if (!(aa.ed.toList == ak.ed.toList))=true then
  some false
 else
  if (aa.eu != ak.eu)=true then
   some false
  else
   if (aa.dV != ak.dV)=true then
    some false
   else
    if (aa.cS == ak.cS)=true then
     some true
    else
     some false
theorem NL {aa:bg} {ak:bg}:bk (uT aa ak) (fun r=>Con aY 77 [.agg [.s aa.ed,.n .i64 aa.eu,.n .i64 aa.dV,.b aa.cS],.agg [.s ak.ed,.n .i64 ak.eu,.n .i64 ak.dV,.b ak.cS]] [] (.b r) []):=by
 unfold uT
 exact .ite (fun h1 =>
  .ret (aU [.J (o 3 []),.J (o 5 []),.ah true,.J (o 1 [])] (.e1 h1)))
  (fun h1 =>
  (let t1:List bE:=[.J (o 3 []),.J (o 5 []),.ah false,.J (o 5 [])];
  .ite (fun h2 =>
  .ret (aU (t1.append [.ah true,.J (o 1 [])]) (.e2 h1 h2)))
  (fun h2 =>
  .ite (fun ag =>
  .ret (aU (t1.append [.ah false,.J (o 5 []),.ah true,.J (o 1 [])]) (.bp h1 h2 ag)))
  (fun ag =>
  (let t2:List bE:=t1.append [.ah false,.J (o 5 []),.ah false,.J (o 5 [])];
  .ite (fun ap =>
  .ret (aU (t2.append [.ah false,.J (o 1 [])]) (.cp h1 h2 ag (bK ap))))
  (fun ap =>
  .ret (aU (t2.append [.ah true,.J (o 1 [])]) (.cp h1 h2 ag (b3 ap)))))))))
def Al (aa:(List bg)) (ak:(List bg)):Int→S:=fun ai=>dy [(0,.isl 4 (aa.map aG)),(1,.isl 4 (ak.map aG)),(5,.n .i64 ai)] []
def Fx (aa:(List bg)) (ak:(List bg)):((Unit)⊕(Unit))→dB
 | .inl a=>⟨some 0,[],[]⟩
 | .inr a=>⟨none,[(4,.b false)],[]⟩
def rJ (aa:(List bg)) (ak:(List bg)) (ai:Int):Option ((Int)⊕((Unit)⊕(Unit))) :=
 if (decide (ai<(len_ aG aa)))=true then
  if 0≤ai∧ai<aa.length then
  aa[ai.toNat]? >>= fun an =>
  if 0≤ai∧ai<ak.length then
  ak[ai.toNat]? >>= fun bW =>
  uT an bW >>= fun eM =>
  if eM=true then
   some (.inl (U (ai+(1:Int))))
  else
   some (.inr (.inr ()))
  else none
  else none
 else
  some (.inr (.inl ()))
def B4 (aa:(List bg)) (ak:(List bg)) (ai:Int):Option ((Unit)⊕(Unit)):=iter (fun w:Int=>rJ aa ak w) ai
theorem Lm {aa:(List bg)} {ak:(List bg)} {ai:Int}:bk (rJ aa ak ai) (eg aY 27 0 40 [1,1,0,1,0,0] (Al aa ak ai) (Al aa ak) (Fx aa ak)):=by
 unfold rJ
 exact .ite (fun h1 =>
  .bn fun h2 =>
  .au fun an ap =>
  .bn fun aE =>
  .au fun bW bd =>
  .au fun eM c3 =>
  (let t1:List bE:=[.J (o 4 []),.ah true,.J (o 3 (ad (.b8 (aG an)) (o 3 (ad (.b8 (aG bW)) (ad (a7 2 (.b eM) true) (o 1 []))))))];
  have aO:=((.bh h1 h2.1 (dd aG h2.2) (cB aG ap) aE.1 (dd aG aE.2) (cB aG bd) (NL eM c3) (.e1 (aK.b eM))):cd _);
  .ite (fun cR =>
  .ret (bz (t1.append [.ah false,.J (o 3 []),.a4 [] [] (bB [0,1,5])]) (aO.az (.e1 (bK cR)))))
  (fun cR =>
  .ret (bz (t1.append [.ah true,.J (o 1 []),.a4 [] [] (bB [4])]) (aO.az (.e1 (b3 cR)))))))
  (fun h1 =>
  .ret (bz [.J (o 4 []),.ah false,.a4 [] [] []] (.e1 h1)))
theorem FI {aa:(List bg)} {ak:(List bg)} {ai:Int} {r} (h:B4 aa ak ai=some r):eh aY 27 0 40 [1,1,0,1,0,0] (Al aa ak) (Fx aa ak) ai r:=ej (fun _=>Lm) h
def uG (aa:(List bg)) (ak:(List bg)):Option Bool :=
 if ((len_ aG aa) != (len_ aG ak))=true then
  some false
 else
  B4 aa ak 0 >>= fun r2 =>
  match r2 with
  | .inl ei=>(some true)
  | .inr ei=>(some false)
theorem Nn {aa:(List bg)} {ak:(List bg)}:bk (uG aa ak) (fun r=>Con aY 40 [.isl 4 (aa.map aG),.isl 4 (ak.map aG)] [] (.b r) []):=by
 unfold uG
 exact .ite (fun h1 =>
  .ret (aU [.J (o 1 []),.J (o 5 []),.ah true,.J (o 1 [])] (.e1 h1)))
  (fun h1 =>
  .au fun r2 ag =>
  (let t1:List bE:=[.J (o 1 []),.J (o 5 []),.ah false,.J (o 1 []),.a4 [] [] (bB [0,1,5])];
  (by
  rcases r2 with ei|ei
  ·exact (.ret (aU (t1.append [.sub (.exit 0) [] [],.J (o 1 [])]) (.e2 h1 (FI ag))))
  ·exact (.ret (aU (t1.append [.sub (.ret) [(4,.b false)] []]) (.e2 h1 (FI ag)))))))
def uH (aa:bR) (ak:bR):Option Bool :=
 if (aa.de != ak.de)=true then
  some false
 else
  if (aa.c1 != ak.c1)=true then
   some false
  else
   if (aa.eK != ak.eK)=true then
    some false
   else
    some true
theorem Np {aa:bR} {ak:bR}:bk (uH aa ak) (fun r=>Con aY 78 [.agg [.n .i64 aa.de,.n .i64 aa.c1,.n .i64 aa.eK],.agg [.n .i64 ak.de,.n .i64 ak.c1,.n .i64 ak.eK]] [] (.b r) []):=by
 unfold uH
 exact .ite (fun h1 =>
  .ret (aU [.J (o 3 []),.J (o 5 []),.ah true,.J (o 1 [])] (.e1 h1)))
  (fun h1 =>
  (let t1:List bE:=[.J (o 3 []),.J (o 5 []),.ah false,.J (o 5 [])];
  .ite (fun h2 =>
  .ret (aU (t1.append [.ah true,.J (o 1 [])]) (.e2 h1 h2)))
  (fun h2 =>
  .ite (fun ag =>
  .ret (aU (t1.append [.ah false,.J (o 5 []),.ah true,.J (o 1 [])]) (.bp h1 h2 ag)))
  (fun ag =>
  .ret (aU (t1.append [.ah false,.J (o 5 []),.ah false,.J (o 1 [])]) (.bp h1 h2 ag))))))
def z6 (aa:(List bR)) (ak:(List bR)):Int→S:=fun ai=>dy [(0,.isl 3 (aa.map aZ)),(1,.isl 3 (ak.map aZ)),(5,.n .i64 ai)] []
def Ft (aa:(List bR)) (ak:(List bR)):((Unit)⊕(Unit))→dB
 | .inl a=>⟨some 0,[],[]⟩
 | .inr a=>⟨none,[(4,.b false)],[]⟩
def rC (aa:(List bR)) (ak:(List bR)) (ai:Int):Option ((Int)⊕((Unit)⊕(Unit))) :=
 if (decide (ai<(len_ aZ aa)))=true then
  if 0≤ai∧ai<aa.length then
  aa[ai.toNat]? >>= fun an =>
  if 0≤ai∧ai<ak.length then
  ak[ai.toNat]? >>= fun bW =>
  uH an bW >>= fun eM =>
  if eM=true then
   some (.inl (U (ai+(1:Int))))
  else
   some (.inr (.inr ()))
  else none
  else none
 else
  some (.inr (.inl ()))
def BP (aa:(List bR)) (ak:(List bR)) (ai:Int):Option ((Unit)⊕(Unit)):=iter (fun w:Int=>rC aa ak w) ai
theorem K9 {aa:(List bR)} {ak:(List bR)} {ai:Int}:bk (rC aa ak ai) (eg aY 27 0 41 [1,1,0,1,0,0] (z6 aa ak ai) (z6 aa ak) (Ft aa ak)):=by
 unfold rC
 exact .ite (fun h1 =>
  .bn fun h2 =>
  .au fun an ap =>
  .bn fun aE =>
  .au fun bW bd =>
  .au fun eM c3 =>
  (let t1:List bE:=[.J (o 4 []),.ah true,.J (o 3 (ad (.b8 (aZ an)) (o 3 (ad (.b8 (aZ bW)) (ad (a7 2 (.b eM) true) (o 1 []))))))];
  have aO:=((.bh h1 h2.1 (dd aZ h2.2) (cB aZ ap) aE.1 (dd aZ aE.2) (cB aZ bd) (Np eM c3) (.e1 (aK.b eM))):cd _);
  .ite (fun cR =>
  .ret (bz (t1.append [.ah false,.J (o 3 []),.a4 [] [] (bB [0,1,5])]) (aO.az (.e1 (bK cR)))))
  (fun cR =>
  .ret (bz (t1.append [.ah true,.J (o 1 []),.a4 [] [] (bB [4])]) (aO.az (.e1 (b3 cR)))))))
  (fun h1 =>
  .ret (bz [.J (o 4 []),.ah false,.a4 [] [] []] (.e1 h1)))
theorem Fy {aa:(List bR)} {ak:(List bR)} {ai:Int} {r} (h:BP aa ak ai=some r):eh aY 27 0 41 [1,1,0,1,0,0] (z6 aa ak) (Ft aa ak) ai r:=ej (fun _=>K9) h
def uv (aa:(List bR)) (ak:(List bR)):Option Bool :=
 if ((len_ aZ aa) != (len_ aZ ak))=true then
  some false
 else
  BP aa ak 0 >>= fun r2 =>
  match r2 with
  | .inl ei=>(some true)
  | .inr ei=>(some false)
theorem MZ {aa:(List bR)} {ak:(List bR)}:bk (uv aa ak) (fun r=>Con aY 41 [.isl 3 (aa.map aZ),.isl 3 (ak.map aZ)] [] (.b r) []):=by
 unfold uv
 exact .ite (fun h1 =>
  .ret (aU [.J (o 1 []),.J (o 5 []),.ah true,.J (o 1 [])] (.e1 h1)))
  (fun h1 =>
  .au fun r2 ag =>
  (let t1:List bE:=[.J (o 1 []),.J (o 5 []),.ah false,.J (o 1 []),.a4 [] [] (bB [0,1,5])];
  (by
  rcases r2 with ei|ei
  ·exact (.ret (aU (t1.append [.sub (.exit 0) [] [],.J (o 1 [])]) (.e2 h1 (Fy ag))))
  ·exact (.ret (aU (t1.append [.sub (.ret) [(4,.b false)] []]) (.e2 h1 (Fy ag)))))))
def oC (aa:c4) (ak:c4):Option Bool :=
 uG aa.a6 ak.a6 >>= fun r1 =>
 if r1=true then
  uv aa.b9 ak.b9 >>= fun bb =>
  if bb=true then
   some true
  else
   some false
 else
  some false
theorem xo {aa:c4} {ak:c4}:bk (oC aa ak) (fun r=>Con aY 11 [.agg [.isl 4 (aa.a6.map aG),.isl 3 (aa.b9.map aZ)],.agg [.isl 4 (ak.a6.map aG),.isl 3 (ak.b9.map aZ)]] [] (.b r) []):=by
 unfold oC
 exact .au fun r1 h2 =>
  (let t1:List bE:=[.J (o 3 []),.J (o 4 (ad (a7 2 (.b r1) true) (o 1 [])))];
  have aO:=((.e2 (Nn r1 h2) (aK.b r1)):cd _);
  .ite (fun ag =>
  .au fun bb aE =>
  (let t3:List bE:=t1.append [.ah false,.J (o 4 (ad (a7 2 (.b bb) true) (o 1 [])))];
  have d4:=aO.az (.bp (bK ag) (MZ bb aE) (aK.b bb));
  .ite (fun aQ =>
  .ret (aU (t3.append [.ah false,.J (o 1 [])]) (d4.az (.e1 (bK aQ)))))
  (fun aQ =>
  .ret (aU (t3.append [.ah true,.J (o 1 [])]) (d4.az (.e1 (b3 aQ)))))))
  (fun ag =>
  .ret (aU (t1.append [.ah true,.J (o 1 [])]) (aO.az (.e1 (b3 ag))))))
def Ba (aa:(List bF)) (ak:(List bF)):Int→S:=fun ai=>dy [(0,.isl 3 (aa.map eTRat)),(1,.isl 3 (ak.map eTRat)),(5,.n .i64 ai)] []
def FP (aa:(List bF)) (ak:(List bF)):((Unit)⊕(Unit))→dB
 | .inl a=>⟨some 0,[],[]⟩
 | .inr a=>⟨none,[(4,.b false)],[]⟩
def rU (aa:(List bF)) (ak:(List bF)) (ai:Int):Option ((Int)⊕((Unit)⊕(Unit))) :=
 if (decide (ai<(len_ eTRat aa)))=true then
  if 0≤ai∧ai<aa.length then
  aa[ai.toNat]? >>= fun an =>
  if 0≤ai∧ai<ak.length then
  ak[ai.toNat]? >>= fun bW =>
  mW an bW >>= fun eM =>
  if eM=true then
   some (.inl (U (ai+(1:Int))))
  else
   some (.inr (.inr ()))
  else none
  else none
 else
  some (.inr (.inl ()))
def Cx (aa:(List bF)) (ak:(List bF)) (ai:Int):Option ((Unit)⊕(Unit)):=iter (fun w:Int=>rU aa ak w) ai
theorem LS {aa:(List bF)} {ak:(List bF)} {ai:Int}:bk (rU aa ak ai) (eg aY 27 0 12 [1,1,0,1,0,0] (Ba aa ak ai) (Ba aa ak) (FP aa ak)):=by
 unfold rU
 exact .ite (fun h1 =>
  .bn fun h2 =>
  .au fun an ap =>
  .bn fun aE =>
  .au fun bW bd =>
  .au fun eM c3 =>
  (let t1:List bE:=[.J (o 4 []),.ah true,.J (o 3 (ad (.b8 (eTRat an)) (o 3 (ad (.b8 (eTRat bW)) (ad (a7 2 (.b eM) true) (o 1 []))))))];
  have aO:=((.bh h1 h2.1 (dd eTRat h2.2) (cB eTRat ap) aE.1 (dd eTRat aE.2) (cB eTRat bd) (lI eM c3) (.e1 (aK.b eM))):cd _);
  .ite (fun cR =>
  .ret (bz (t1.append [.ah false,.J (o 3 []),.a4 [] [] (bB [0,1,5])]) (aO.az (.e1 (bK cR)))))
  (fun cR =>
  .ret (bz (t1.append [.ah true,.J (o 1 []),.a4 [] [] (bB [4])]) (aO.az (.e1 (b3 cR)))))))
  (fun h1 =>
  .ret (bz [.J (o 4 []),.ah false,.a4 [] [] []] (.e1 h1)))
theorem F0 {aa:(List bF)} {ak:(List bF)} {ai:Int} {r} (h:Cx aa ak ai=some r):eh aY 27 0 12 [1,1,0,1,0,0] (Ba aa ak) (FP aa ak) ai r:=ej (fun _=>LS) h
def mg (aa:(List bF)) (ak:(List bF)):Option Bool :=
 if ((len_ eTRat aa) != (len_ eTRat ak))=true then
  some false
 else
  Cx aa ak 0 >>= fun r2 =>
  match r2 with
  | .inl ei=>(some true)
  | .inr ei=>(some false)
theorem oF {aa:(List bF)} {ak:(List bF)}:bk (mg aa ak) (fun r=>Con aY 12 [.isl 3 (aa.map eTRat),.isl 3 (ak.map eTRat)] [] (.b r) []):=by
 unfold mg
 exact .ite (fun h1 =>
  .ret (aU [.J (o 1 []),.J (o 5 []),.ah true,.J (o 1 [])] (.e1 h1)))
  (fun h1 =>
  .au fun r2 ag =>
  (let t1:List bE:=[.J (o 1 []),.J (o 5 []),.ah false,.J (o 1 []),.a4 [] [] (bB [0,1,5])];
  (by
  rcases r2 with ei|ei
  ·exact (.ret (aU (t1.append [.sub (.exit 0) [] [],.J (o 1 [])]) (.e2 h1 (F0 ag))))
  ·exact (.ret (aU (t1.append [.sub (.ret) [(4,.b false)] []]) (.e2 h1 (F0 ag)))))))
def Am:(Int×ByteArray)→S:=fun (aJ,lS)=>dy [(0,.n .i64 aJ),(3,.s lS)] []
def AK:ByteArray→dB
 | a=>⟨some 0,[(3,.s a)],[]⟩
def rK (aJ:Int) (lS:ByteArray):Option ((Int×ByteArray)⊕(ByteArray)) :=
 if (decide ((0:Int)<aJ))=true then
  if (nM [(IntKind.wrap .u8 (U ((48:Int)+(aJ.tmod (10:Int)))))]).size+lS.size<9223372036854775808 then
  some (.inl (U (aJ.tdiv (10:Int)),(nM [(IntKind.wrap .u8 (U ((48:Int)+(aJ.tmod (10:Int)))))])++lS))
  else none
 else
  some (.inr lS)
def B5 (aJ:Int) (lS:ByteArray):Option (ByteArray):=iter (fun w:Int×ByteArray=>rK w.1 w.2) (aJ,lS)
theorem Ln {aJ:Int} {lS:ByteArray}:bk (rK aJ lS) (eg aY 20 0 79 [1,1,1,0,0,0] (Am (aJ,lS)) (Am) (AK)):=by
 unfold rK
 exact .ite (fun h1 =>
  .bn fun h2 =>
  .ret (bz [.J (o 2 []),.ah true,.J (o 9 []),.J (o 3 []),.a4 [] [] (bB [0,3])] (.cp h1 (by decide:(10:Int)≠0) h2 (by decide:(10:Int)≠0))))
  (fun h1 =>
  .ret (bz [.J (o 2 []),.ah false,.a4 [] [] (bB [3])] (.e1 h1)))
theorem Mw {aJ:Int} {lS:ByteArray} {r} (h:B5 aJ lS=some r):eh aY 20 0 79 [1,1,1,0,0,0] (Am) (AK) (aJ,lS) r:=ej (fun _=>Ln) h
def uI (aJ:Int):Option ByteArray :=
 if (decide (aJ≤(0:Int)))=true then
  some (⟨#[109,48]⟩:ByteArray)
 else
  B5 aJ (⟨#[]⟩:ByteArray) >>= fun r2 =>
  if (⟨#[109]⟩:ByteArray).size+r2.size<9223372036854775808 then
  some ((⟨#[109]⟩:ByteArray)++r2)
  else none
theorem Nq {aJ:Int}:bk (uI aJ) (fun r=>Con aY 79 [.n .i64 aJ] [] (.s r) []):=by
 unfold uI
 exact .ite (fun h1 =>
  .ret (aU [.J (o 1 []),.J (o 2 []),.ah true,.J (o 1 [])] (.e1 h1)))
  (fun h1 =>
  .au fun r2 ag =>
  .bn fun ap =>
  .ret (aU [.J (o 1 []),.J (o 2 []),.ah false,.J (o 1 []),.a4 [] [] (bB [0,3]),(AK r2).fo,.J (o 3 [])] (.bp h1 (Mw ag) ap)))
def zL:(Int×Int×(List bg))→S:=fun (aJ,ai,ae)=>dy [(0,.aN 0 0 0 ae.length),(1,.n .i64 aJ),(5,.n .i64 ai)] [[ab.mk 4 (ae.map aG) .live]]
def zR:(Int×(List bg))→dB
 | a=>⟨some 0,[(1,.n .i64 a.1)],[[ab.mk 4 (a.2.map aG) .live]]⟩
def pt (aJ:Int) (ai:Int) (ae:(List bg)):Option ((Int×Int×(List bg))⊕(Int×(List bg))) :=
 if (decide (ai<((ae.length:Nat):Int)))=true then
  uI aJ >>= fun r2 =>
  if 0≤ai∧ai<(ae.length:Nat) then
  ae[(0+ai.toNat)]? >>= fun b2 =>
  (ae.set (0+ai.toNat) (⟨r2,b2.eu,b2.dV,b2.cS⟩:bg))[(0+ai.toNat)]? >>= fun bU =>
  ((ae.set (0+ai.toNat) (⟨r2,b2.eu,b2.dV,b2.cS⟩:bg)).set (0+ai.toNat) (⟨bU.ed,U (aJ+(1:Int)),bU.dV,bU.cS⟩:bg))[(0+ai.toNat)]? >>= fun dS =>
  (((ae.set (0+ai.toNat) (⟨r2,b2.eu,b2.dV,b2.cS⟩:bg)).set (0+ai.toNat) (⟨bU.ed,U (aJ+(1:Int)),bU.dV,bU.cS⟩:bg)).set (0+ai.toNat) (⟨dS.ed,dS.eu,U ((U (aJ+(1:Int)))+(1:Int)),dS.cS⟩:bg))[(0+ai.toNat)]? >>= fun hg =>
  some (.inl (U ((U ((U ((U (aJ+(1:Int)))+(1:Int)))+(1:Int)))+(1:Int)),U (ai+(1:Int)),(((ae.set (0+ai.toNat) (⟨r2,b2.eu,b2.dV,b2.cS⟩:bg)).set (0+ai.toNat) (⟨bU.ed,U (aJ+(1:Int)),bU.dV,bU.cS⟩:bg)).set (0+ai.toNat) (⟨dS.ed,dS.eu,U ((U (aJ+(1:Int)))+(1:Int)),dS.cS⟩:bg)).set (0+ai.toNat) (⟨hg.ed,hg.eu,hg.dV,(((U ((U ((U (aJ+(1:Int)))+(1:Int)))+(1:Int))).tmod (3:Int)) == (0:Int))⟩:bg)))
  else none
 else
  some (.inr (aJ,ae))
def AL (aJ:Int) (ai:Int) (ae:(List bg)):Option (Int×(List bg)):=iter (fun w:Int×Int×(List bg)=>pt w.1 w.2.1 w.2.2) (aJ,ai,ae)
theorem KV {aJ:Int} {ai:Int} {ae:(List bg)}:bk (pt aJ ai ae) (eg aY 44 1 42 [1,0,1,0,0] (zL (aJ,ai,ae)) (zL) (zR)):=by
 unfold pt
 exact .ite (fun h1 =>
  .au fun r2 ag =>
  .bn fun ap =>
  .au fun b2 aQ =>
  .au fun bU bL =>
  .au fun dS cR =>
  .au fun hg fB =>
  .ret (bz [.J (o 4 []),.ah true,.J (o 3 (ad (a7 1 (.s r2) true) (o 1 (ad (.b8 (aG b2)) (ad (.b8 (aG b2)) []))))),.J (o 3 []),.J (o 4 (ad (.b8 (aG bU)) (ad (.b8 (aG bU)) []))),.J (o 3 []),.J (o 4 (ad (.b8 (aG dS)) (ad (.b8 (aG dS)) []))),.J (o 3 []),.J (o 6 (ad (.b8 (aG hg)) (ad (.b8 (aG hg)) []))),.J (o 3 []),.J (o 3 []),.a4 [0] [.dr [ab.mk 4 (((((ae.set (0+ai.toNat) (⟨r2,b2.eu,b2.dV,b2.cS⟩:bg)).set (0+ai.toNat) (⟨bU.ed,U (aJ+(1:Int)),bU.dV,bU.cS⟩:bg)).set (0+ai.toNat) (⟨dS.ed,dS.eu,U ((U (aJ+(1:Int)))+(1:Int)),dS.cS⟩:bg)).set (0+ai.toNat) (⟨hg.ed,hg.eu,hg.dV,(((U ((U ((U (aJ+(1:Int)))+(1:Int)))+(1:Int))).tmod (3:Int)) == (0:Int))⟩:bg)).map aG) .live]] [(0,e6 (((((ae.set (0+ai.toNat) (⟨r2,b2.eu,b2.dV,b2.cS⟩:bg)).set (0+ai.toNat) (⟨bU.ed,U (aJ+(1:Int)),bU.dV,bU.cS⟩:bg)).set (0+ai.toNat) (⟨dS.ed,dS.eu,U ((U (aJ+(1:Int)))+(1:Int)),dS.cS⟩:bg)).set (0+ai.toNat) (⟨hg.ed,hg.eu,hg.dV,(((U ((U ((U (aJ+(1:Int)))+(1:Int)))+(1:Int))).tmod (3:Int)) == (0:Int))⟩:bg)).length)),(1,ii),(5,ii)]] (.bh h1 (Nq r2 ag) (aK.s r2) ap.1 ap.2 (cB aG aQ) (cB aG aQ) ap.1 (.bh ap.2 (jA (gu (aD aG ae) (0+ai.toNat) (⟨r2,b2.eu,b2.dV,b2.cS⟩:bg) (rfl:(setCells (aG b2) 0 [.s r2])=aG (⟨r2,b2.eu,b2.dV,b2.cS⟩:bg))) bL) (jA (gu (aD aG ae) (0+ai.toNat) (⟨r2,b2.eu,b2.dV,b2.cS⟩:bg) (rfl:(setCells (aG b2) 0 [.s r2])=aG (⟨r2,b2.eu,b2.dV,b2.cS⟩:bg))) bL) ap.1 ap.2 (jA (gu (gu (aD aG ae) (0+ai.toNat) (⟨r2,b2.eu,b2.dV,b2.cS⟩:bg) (rfl:(setCells (aG b2) 0 [.s r2])=aG (⟨r2,b2.eu,b2.dV,b2.cS⟩:bg))) (0+ai.toNat) (⟨bU.ed,U (aJ+(1:Int)),bU.dV,bU.cS⟩:bg) (rfl:(setCells (aG bU) 1 [.n .i64 (U (aJ+(1:Int)))])=aG (⟨bU.ed,U (aJ+(1:Int)),bU.dV,bU.cS⟩:bg))) cR) (jA (gu (gu (aD aG ae) (0+ai.toNat) (⟨r2,b2.eu,b2.dV,b2.cS⟩:bg) (rfl:(setCells (aG b2) 0 [.s r2])=aG (⟨r2,b2.eu,b2.dV,b2.cS⟩:bg))) (0+ai.toNat) (⟨bU.ed,U (aJ+(1:Int)),bU.dV,bU.cS⟩:bg) (rfl:(setCells (aG bU) 1 [.n .i64 (U (aJ+(1:Int)))])=aG (⟨bU.ed,U (aJ+(1:Int)),bU.dV,bU.cS⟩:bg))) cR) (by decide:(3:Int)≠0) (.dP ap.1 ap.2 (jA (gu (gu (gu (aD aG ae) (0+ai.toNat) (⟨r2,b2.eu,b2.dV,b2.cS⟩:bg) (rfl:(setCells (aG b2) 0 [.s r2])=aG (⟨r2,b2.eu,b2.dV,b2.cS⟩:bg))) (0+ai.toNat) (⟨bU.ed,U (aJ+(1:Int)),bU.dV,bU.cS⟩:bg) (rfl:(setCells (aG bU) 1 [.n .i64 (U (aJ+(1:Int)))])=aG (⟨bU.ed,U (aJ+(1:Int)),bU.dV,bU.cS⟩:bg))) (0+ai.toNat) (⟨dS.ed,dS.eu,U ((U (aJ+(1:Int)))+(1:Int)),dS.cS⟩:bg) (rfl:(setCells (aG dS) 2 [.n .i64 (U ((U (aJ+(1:Int)))+(1:Int)))])=aG (⟨dS.ed,dS.eu,U ((U (aJ+(1:Int)))+(1:Int)),dS.cS⟩:bg))) fB) (jA (gu (gu (gu (aD aG ae) (0+ai.toNat) (⟨r2,b2.eu,b2.dV,b2.cS⟩:bg) (rfl:(setCells (aG b2) 0 [.s r2])=aG (⟨r2,b2.eu,b2.dV,b2.cS⟩:bg))) (0+ai.toNat) (⟨bU.ed,U (aJ+(1:Int)),bU.dV,bU.cS⟩:bg) (rfl:(setCells (aG bU) 1 [.n .i64 (U (aJ+(1:Int)))])=aG (⟨bU.ed,U (aJ+(1:Int)),bU.dV,bU.cS⟩:bg))) (0+ai.toNat) (⟨dS.ed,dS.eu,U ((U (aJ+(1:Int)))+(1:Int)),dS.cS⟩:bg) (rfl:(setCells (aG dS) 2 [.n .i64 (U ((U (aJ+(1:Int)))+(1:Int)))])=aG (⟨dS.ed,dS.eu,U ((U (aJ+(1:Int)))+(1:Int)),dS.cS⟩:bg))) fB) (eb 4 .live (gu (gu (gu (gu (aD aG ae) (0+ai.toNat) (⟨r2,b2.eu,b2.dV,b2.cS⟩:bg) (rfl:(setCells (aG b2) 0 [.s r2])=aG (⟨r2,b2.eu,b2.dV,b2.cS⟩:bg))) (0+ai.toNat) (⟨bU.ed,U (aJ+(1:Int)),bU.dV,bU.cS⟩:bg) (rfl:(setCells (aG bU) 1 [.n .i64 (U (aJ+(1:Int)))])=aG (⟨bU.ed,U (aJ+(1:Int)),bU.dV,bU.cS⟩:bg))) (0+ai.toNat) (⟨dS.ed,dS.eu,U ((U (aJ+(1:Int)))+(1:Int)),dS.cS⟩:bg) (rfl:(setCells (aG dS) 2 [.n .i64 (U ((U (aJ+(1:Int)))+(1:Int)))])=aG (⟨dS.ed,dS.eu,U ((U (aJ+(1:Int)))+(1:Int)),dS.cS⟩:bg))) (0+ai.toNat) (⟨hg.ed,hg.eu,hg.dV,(((U ((U ((U (aJ+(1:Int)))+(1:Int)))+(1:Int))).tmod (3:Int)) == (0:Int))⟩:bg) (rfl:(setCells (aG hg) 3 [.b (((U ((U ((U (aJ+(1:Int)))+(1:Int)))+(1:Int))).tmod (3:Int)) == (0:Int))])=aG (⟨hg.ed,hg.eu,hg.dV,(((U ((U ((U (aJ+(1:Int)))+(1:Int)))+(1:Int))).tmod (3:Int)) == (0:Int))⟩:bg)))) (bJ 4 .live gl ((((ae.set (0+ai.toNat) (⟨r2,b2.eu,b2.dV,b2.cS⟩:bg)).set (0+ai.toNat) (⟨bU.ed,U (aJ+(1:Int)),bU.dV,bU.cS⟩:bg)).set (0+ai.toNat) (⟨dS.ed,dS.eu,U ((U (aJ+(1:Int)))+(1:Int)),dS.cS⟩:bg)).set (0+ai.toNat) (⟨hg.ed,hg.eu,hg.dV,(((U ((U ((U (aJ+(1:Int)))+(1:Int)))+(1:Int))).tmod (3:Int)) == (0:Int))⟩:bg))) (fQ (fQ (fQ (fQ (ba ae) (0+ai.toNat) (⟨r2,b2.eu,b2.dV,b2.cS⟩:bg)) (0+ai.toNat) (⟨bU.ed,U (aJ+(1:Int)),bU.dV,bU.cS⟩:bg)) (0+ai.toNat) (⟨dS.ed,dS.eu,U ((U (aJ+(1:Int)))+(1:Int)),dS.cS⟩:bg)) (0+ai.toNat) (⟨hg.ed,hg.eu,hg.dV,(((U ((U ((U (aJ+(1:Int)))+(1:Int)))+(1:Int))).tmod (3:Int)) == (0:Int))⟩:bg)))))))
  (fun h1 =>
  .ret (bz [.J (o 4 []),.ah false,.a4 [0] [.pure] (bB [1])] (.e2 h1 (bJ 4 .live gl ae))))
theorem LA {aJ:Int} {ai:Int} {ae:(List bg)} {r} (h:AL aJ ai ae=some r):eh aY 44 1 42 [1,0,1,0,0] (zL) (zR) (aJ,ai,ae) r:=ej (fun _=>KV) h
def uh (aJ:Int) (cE:(List bg)):Option (Int×(List bg)) :=
 AL aJ 0 cE >>= fun r1 =>
 some (r1.1,r1.2)
theorem Mi {aJ:Int} {cE:(List bg)}:bk (uh aJ cE) (fun a=>Con aY 42 [.aN 0 0 0 cE.length,.n .i64 aJ] [[ab.mk 4 (cE.map aG) .live]] (.n .i64 a.1) [[ab.mk 4 (a.2.map aG) .live]]):=by
 unfold uh
 exact .au fun r1 h2 =>
  .ret (fL [.J (o 1 []),.J (o 1 []),.a4 [0] [.pure] (bB [0,1,5]),(zR r1).fo,.J (o 2 [])] [0] [.pure] (.bp (bJ 4 .live gl cE) (LA h2) (bJ 4 .live gl r1.2)))
def zI:(Int×Int×(List bR))→S:=fun (aJ,ai,ae)=>dy [(0,.aN 0 0 0 ae.length),(1,.n .i64 aJ),(5,.n .i64 ai)] [[ab.mk 3 (ae.map aZ) .live]]
def zM:(Int×(List bR))→dB
 | a=>⟨some 0,[(1,.n .i64 a.1)],[[ab.mk 3 (a.2.map aZ) .live]]⟩
def ps (aJ:Int) (ai:Int) (ae:(List bR)):Option ((Int×Int×(List bR))⊕(Int×(List bR))) :=
 if (decide (ai<((ae.length:Nat):Int)))=true then
  if 0≤ai∧ai<(ae.length:Nat) then
  ae[(0+ai.toNat)]? >>= fun an =>
  (ae.set (0+ai.toNat) (⟨aJ,an.c1,an.eK⟩:bR))[(0+ai.toNat)]? >>= fun b2 =>
  ((ae.set (0+ai.toNat) (⟨aJ,an.c1,an.eK⟩:bR)).set (0+ai.toNat) (⟨b2.de,U (aJ+(1:Int)),b2.eK⟩:bR))[(0+ai.toNat)]? >>= fun bU =>
  some (.inl (U ((U ((U (aJ+(1:Int)))+(1:Int)))+(1:Int)),U (ai+(1:Int)),((ae.set (0+ai.toNat) (⟨aJ,an.c1,an.eK⟩:bR)).set (0+ai.toNat) (⟨b2.de,U (aJ+(1:Int)),b2.eK⟩:bR)).set (0+ai.toNat) (⟨bU.de,bU.c1,U ((U (aJ+(1:Int)))+(1:Int))⟩:bR)))
  else none
 else
  some (.inr (aJ,ae))
def An (aJ:Int) (ai:Int) (ae:(List bR)):Option (Int×(List bR)):=iter (fun w:Int×Int×(List bR)=>ps w.1 w.2.1 w.2.2) (aJ,ai,ae)
theorem KT {aJ:Int} {ai:Int} {ae:(List bR)}:bk (ps aJ ai ae) (eg aY 34 1 43 [1,0,1,0,0] (zI (aJ,ai,ae)) (zI) (zM)):=by
 unfold ps
 exact .ite (fun h1 =>
  .bn fun h2 =>
  .au fun an ap =>
  .au fun b2 aQ =>
  .au fun bU bL =>
  .ret (bz [.J (o 4 []),.ah true,.J (o 4 (ad (.b8 (aZ an)) (ad (.b8 (aZ an)) []))),.J (o 3 []),.J (o 4 (ad (.b8 (aZ b2)) (ad (.b8 (aZ b2)) []))),.J (o 3 []),.J (o 4 (ad (.b8 (aZ bU)) (ad (.b8 (aZ bU)) []))),.J (o 3 []),.J (o 3 []),.a4 [0] [.dr [ab.mk 3 ((((ae.set (0+ai.toNat) (⟨aJ,an.c1,an.eK⟩:bR)).set (0+ai.toNat) (⟨b2.de,U (aJ+(1:Int)),b2.eK⟩:bR)).set (0+ai.toNat) (⟨bU.de,bU.c1,U ((U (aJ+(1:Int)))+(1:Int))⟩:bR)).map aZ) .live]] [(0,e6 ((((ae.set (0+ai.toNat) (⟨aJ,an.c1,an.eK⟩:bR)).set (0+ai.toNat) (⟨b2.de,U (aJ+(1:Int)),b2.eK⟩:bR)).set (0+ai.toNat) (⟨bU.de,bU.c1,U ((U (aJ+(1:Int)))+(1:Int))⟩:bR)).length)),(1,ii),(5,ii)]] (.bh h1 h2.1 h2.2 (cB aZ ap) (cB aZ ap) h2.1 h2.2 (jA (gu (aD aZ ae) (0+ai.toNat) (⟨aJ,an.c1,an.eK⟩:bR) (rfl:(setCells (aZ an) 0 [.n .i64 aJ])=aZ (⟨aJ,an.c1,an.eK⟩:bR))) aQ) (.gz (jA (gu (aD aZ ae) (0+ai.toNat) (⟨aJ,an.c1,an.eK⟩:bR) (rfl:(setCells (aZ an) 0 [.n .i64 aJ])=aZ (⟨aJ,an.c1,an.eK⟩:bR))) aQ) h2.1 h2.2 (jA (gu (gu (aD aZ ae) (0+ai.toNat) (⟨aJ,an.c1,an.eK⟩:bR) (rfl:(setCells (aZ an) 0 [.n .i64 aJ])=aZ (⟨aJ,an.c1,an.eK⟩:bR))) (0+ai.toNat) (⟨b2.de,U (aJ+(1:Int)),b2.eK⟩:bR) (rfl:(setCells (aZ b2) 1 [.n .i64 (U (aJ+(1:Int)))])=aZ (⟨b2.de,U (aJ+(1:Int)),b2.eK⟩:bR))) bL) (jA (gu (gu (aD aZ ae) (0+ai.toNat) (⟨aJ,an.c1,an.eK⟩:bR) (rfl:(setCells (aZ an) 0 [.n .i64 aJ])=aZ (⟨aJ,an.c1,an.eK⟩:bR))) (0+ai.toNat) (⟨b2.de,U (aJ+(1:Int)),b2.eK⟩:bR) (rfl:(setCells (aZ b2) 1 [.n .i64 (U (aJ+(1:Int)))])=aZ (⟨b2.de,U (aJ+(1:Int)),b2.eK⟩:bR))) bL) (eb 3 .live (gu (gu (gu (aD aZ ae) (0+ai.toNat) (⟨aJ,an.c1,an.eK⟩:bR) (rfl:(setCells (aZ an) 0 [.n .i64 aJ])=aZ (⟨aJ,an.c1,an.eK⟩:bR))) (0+ai.toNat) (⟨b2.de,U (aJ+(1:Int)),b2.eK⟩:bR) (rfl:(setCells (aZ b2) 1 [.n .i64 (U (aJ+(1:Int)))])=aZ (⟨b2.de,U (aJ+(1:Int)),b2.eK⟩:bR))) (0+ai.toNat) (⟨bU.de,bU.c1,U ((U (aJ+(1:Int)))+(1:Int))⟩:bR) (rfl:(setCells (aZ bU) 2 [.n .i64 (U ((U (aJ+(1:Int)))+(1:Int)))])=aZ (⟨bU.de,bU.c1,U ((U (aJ+(1:Int)))+(1:Int))⟩:bR)))) (bJ 3 .live gk (((ae.set (0+ai.toNat) (⟨aJ,an.c1,an.eK⟩:bR)).set (0+ai.toNat) (⟨b2.de,U (aJ+(1:Int)),b2.eK⟩:bR)).set (0+ai.toNat) (⟨bU.de,bU.c1,U ((U (aJ+(1:Int)))+(1:Int))⟩:bR))) (fQ (fQ (fQ (ba ae) (0+ai.toNat) (⟨aJ,an.c1,an.eK⟩:bR)) (0+ai.toNat) (⟨b2.de,U (aJ+(1:Int)),b2.eK⟩:bR)) (0+ai.toNat) (⟨bU.de,bU.c1,U ((U (aJ+(1:Int)))+(1:Int))⟩:bR))))))
  (fun h1 =>
  .ret (bz [.J (o 4 []),.ah false,.a4 [0] [.pure] (bB [1])] (.e2 h1 (bJ 3 .live gk ae))))
theorem Lo {aJ:Int} {ai:Int} {ae:(List bR)} {r} (h:An aJ ai ae=some r):eh aY 34 1 43 [1,0,1,0,0] (zI) (zM) (aJ,ai,ae) r:=ej (fun _=>KT) h
def ue (aJ:Int) (cE:(List bR)):Option (Int×(List bR)) :=
 An aJ 0 cE >>= fun r1 =>
 some (r1.1,r1.2)
theorem L6 {aJ:Int} {cE:(List bR)}:bk (ue aJ cE) (fun a=>Con aY 43 [.aN 0 0 0 cE.length,.n .i64 aJ] [[ab.mk 3 (cE.map aZ) .live]] (.n .i64 a.1) [[ab.mk 3 (a.2.map aZ) .live]]):=by
 unfold ue
 exact .au fun r1 h2 =>
  .ret (fL [.J (o 1 []),.J (o 1 []),.a4 [0] [.pure] (bB [0,1,5]),(zM r1).fo,.J (o 2 [])] [0] [.pure] (.bp (bJ 3 .live gk cE) (Lo h2) (bJ 3 .live gk r1.2)))
def ox (aJ:Int) (cE:(List bg)) (l3:(List bR)):Option (Int×(List bg)×(List bR)) :=
 uh aJ cE >>= fun r1 =>
 ue r1.1 l3 >>= fun a2 =>
 some (a2.1,r1.2,a2.2)
theorem xj {aJ:Int} {cE:(List bg)} {l3:(List bR)}:bk (ox aJ cE l3) (fun a=>Con aY 13 [.agg [.aN 0 0 0 cE.length,.aN 1 0 0 l3.length],.n .i64 aJ] [[ab.mk 4 (cE.map aG) .live],[ab.mk 3 (l3.map aZ) .live]] (.n .i64 a.1) [[ab.mk 4 (a.2.1.map aG) .live],[ab.mk 3 (a.2.2.map aZ) .live]]):=by
 unfold ox
 exact .au fun r1 h2 =>
  .au fun a2 ap =>
  .ret (fL [.J (o 2 []),.J (o 3 (ad (.call {aB:=[.row 0],bN:=[.pure],ac:=[ii,ii],r:= .n .i64 r1.1,cg:=[[ab.mk 4 (r1.2.map aG) .live]],cC:=ii,cQ:=[.pure],b6:=[0],b5:=false}) (o 1 []))),.J (o 3 (ad (.call {aB:=[.row 1],bN:=[.pure],ac:=[ii,ii],r:= .n .i64 a2.1,cg:=[[ab.mk 3 (a2.2.map aZ) .live]],cC:=ii,cQ:=[.pure],b6:=[1],b5:=false}) (o 1 []))),.J (o 2 [])] [0,1] [.pure,.pure] (.gz (ec 4 gl cE) (ec 4 gl r1.2) (Mi r1 h2) (ec 3 gk l3) (ec 3 gk a2.2) (L6 a2 ap) (bJ 4 .live gl r1.2) (bJ 3 .live gk a2.2)))
def Ao (aa:(List Int)) (aJ:Int):Unit→S:=fun _=>dy [(0,.isl 1 (aa.map I)),(1,.n .i64 aJ),(5,.n .i64 (0:Int))] []
def Fz (aa:(List Int)) (aJ:Int):Unit→dB
 | a=>⟨some 0,[(1,.n .i64 aJ)],[]⟩
def xk (aa:(List Int)) (aJ:Int):Option ((Unit)⊕(Unit)) :=
 if (decide ((0:Int)<(len_ I aa)))=true then
  if 0≤(0:Int)∧(0:Int)<aa.length then
  none
  else none
 else
  some (.inr ())
def xw (aa:(List Int)) (aJ:Int):Option (Unit):=iter (fun w:Unit=>xk aa aJ) ()
theorem Lp {aa:(List Int)} {aJ:Int}:bk (xk aa aJ) (eg aY 19 0 44 [1,0,1,0,0] (Ao aa aJ ()) (Ao aa aJ) (Fz aa aJ)):=by
 unfold xk
 exact .ite (fun h1 =>
  .bn fun h2 =>
  .EC)
  (fun h1 =>
  .ret (bz [.J (o 4 []),.ah false,.a4 [] [] (bB [1])] (.e1 h1)))
theorem Mx {aa:(List Int)} {aJ:Int} {r} (h:xw aa aJ=some r):eh aY 19 0 44 [1,0,1,0,0] (Ao aa aJ) (Fz aa aJ) () r:=ej (fun _=>Lp) h
def mO (aa:(List Int)) (aJ:Int):Option Int :=
 xw aa aJ >>= fun r1 =>
 some aJ
theorem r8 {aa:(List Int)} {aJ:Int}:bk (mO aa aJ) (fun r=>Con aY 44 [.isl 1 (aa.map I),.n .i64 aJ] [] (.n .i64 r) []):=by
 unfold mO
 exact .au fun r1 h2 =>
  .ret (aU [.J (o 1 []),.J (o 1 []),.a4 [] [] (bB [0,1,5]),.sub (.exit 0) [(1,.n .i64 aJ)] [],.J (o 2 [])] (.e1 (Mx h2)))
def zZ (iv:Nat) (fD:Nat):(Int×Int×(List Int))→S:=fun (aJ,ai,ae)=>dy [(0,.aN 0 0 iv fD),(1,.n .i64 aJ),(5,.n .i64 ai)] [[ab.mk 1 (ae.map I) .live]]
def z7 (iv:Nat) (fD:Nat):(Int×(List Int))→dB
 | a=>⟨some 0,[(1,.n .i64 a.1)],[[ab.mk 1 (a.2.map I) .live]]⟩
def rA (iv:Nat) (fD:Nat) (aJ:Int) (ai:Int) (ae:(List Int)):Option ((Int×Int×(List Int))⊕(Int×(List Int))) :=
 if (decide (ai<((fD:Nat):Int)))=true then
  if 0≤ai∧ai<(fD:Nat) then
  if (iv+ai.toNat)<ae.length then
  some (.inl (U (aJ+(1:Int)),U (ai+(1:Int)),ae.set (iv+ai.toNat) aJ))
  else none
  else none
 else
  some (.inr (aJ,ae))
def Bz (iv:Nat) (fD:Nat) (aJ:Int) (ai:Int) (ae:(List Int)):Option (Int×(List Int)):=iter (fun w:Int×Int×(List Int)=>rA iv fD w.1 w.2.1 w.2.2) (aJ,ai,ae)
theorem K6 {iv:Nat} {fD:Nat} {aJ:Int} {ai:Int} {ae:(List Int)}:bk (rA iv fD aJ ai ae) (eg aY 19 1 44 [1,0,1,0,0] (zZ iv fD (aJ,ai,ae)) (zZ iv fD) (z7 iv fD)):=by
 unfold rA
 exact .ite (fun h1 =>
  .bn fun h2 =>
  .bn fun ag =>
  .ret (bz [.J (o 4 []),.ah true,.J (o 4 (ad .cY [])),.J (o 3 []),.J (o 3 []),.a4 [0] [.dr [ab.mk 1 ((ae.set (iv+ai.toNat) aJ).map I) .live]] (bB [0,1,5])] (.dP h1 h2.1 h2.2 (g7 I ag) (gT 1) (eb 1 .live (fZ (aD I ae) (iv+ai.toNat) aJ)) (bJ 1 .live a3 (ae.set (iv+ai.toNat) aJ)))))
  (fun h1 =>
  .ret (bz [.J (o 4 []),.ah false,.a4 [0] [.pure] (bB [1])] (.e2 h1 (bJ 1 .live a3 ae))))
theorem L7 {iv:Nat} {fD:Nat} {aJ:Int} {ai:Int} {ae:(List Int)} {r} (h:Bz iv fD aJ ai ae=some r):eh aY 19 1 44 [1,0,1,0,0] (zZ iv fD) (z7 iv fD) (aJ,ai,ae) r:=ej (fun _=>K6) h
def oD (aJ:Int) (iv:Nat) (fD:Nat) (cE:(List Int)):Option (Int×(List Int)) :=
 Bz iv fD aJ 0 cE >>= fun r1 =>
 some (r1.1,r1.2)
theorem BA {aJ:Int} {iv:Nat} {fD:Nat} {cE:(List Int)}:bk (oD aJ iv fD cE) (fun a=>Con aY 44 [.aN 0 0 iv fD,.n .i64 aJ] [[ab.mk 1 (cE.map I) .live]] (.n .i64 a.1) [[ab.mk 1 (a.2.map I) .live]]):=by
 unfold oD
 exact .au fun r1 h2 =>
  .ret (fL [.J (o 1 []),.J (o 1 []),.a4 [0] [.pure] (bB [0,1,5]),(z7 iv fD r1).fo,.J (o 2 [])] [0] [.pure] (.bp (bJ 1 .live a3 cE) (L7 h2) (bJ 1 .live a3 r1.2)))
def z0:(Int×Int×(List c7)×(List (List Int)))→S:=fun (aJ,ai,ek,dU)=>dy [(0,.aN 0 0 0 ek.length),(1,.n .i64 aJ),(5,.n .i64 ai)] [(ab.mk 3 (ek.map (aw 0 1)) .live::(dU.map (bq .live 1 I)))]
def z8:(Int×(List c7)×(List (List Int)))→dB
 | a=>⟨some 0,[(1,.n .i64 a.1)],[(ab.mk 3 (a.2.1.map (aw 0 1)) .live::(a.2.2.map (bq .live 1 I)))]⟩
def rB (aJ:Int) (ai:Int) (ek:(List c7)) (dU:(List (List Int))):Option ((Int×Int×(List c7)×(List (List Int)))⊕(Int×(List c7)×(List (List Int)))) :=
 if (decide (ai<((ek.length:Nat):Int)))=true then
  if 0≤ai∧ai<(ek.length:Nat) then
  ek[(0+ai.toNat)]? >>= fun an =>
  (ek.set (0+ai.toNat) (⟨(⟨((aJ.tmod (3:Int)) == (0:Int)),an.bm.a9⟩:eU),an.bO⟩:c7))[(0+ai.toNat)]? >>= fun b2 =>
  b2.bm.a9.elim
  (mO ([]:List Int) (U (aJ+(1:Int))) >>= fun cu =>
    b2.bO.elim
    (mO ([]:List Int) cu >>= fun dN =>
      some (.inl (dN,U (ai+(1:Int)),ek.set (0+ai.toNat) (⟨(⟨((aJ.tmod (3:Int)) == (0:Int)),an.bm.a9⟩:eU),an.bO⟩:c7),dU)))
    fun kv =>
    dU[kv.1]? >>= fun wI =>
    oD cu 0 kv.2 wI >>= fun et =>
    some (.inl (et.1,U (ai+(1:Int)),ek.set (0+ai.toNat) (⟨(⟨((aJ.tmod (3:Int)) == (0:Int)),an.bm.a9⟩:eU),an.bO⟩:c7),dU.set kv.1 et.2)))
  fun jX =>
  dU[jX.1]? >>= fun xb =>
  oD (U (aJ+(1:Int))) 0 jX.2 xb >>= fun cN =>
  b2.bO.elim
  (mO ([]:List Int) cN.1 >>= fun et =>
    some (.inl (et,U (ai+(1:Int)),ek.set (0+ai.toNat) (⟨(⟨((aJ.tmod (3:Int)) == (0:Int)),an.bm.a9⟩:eU),an.bO⟩:c7),dU.set jX.1 cN.2)))
  fun lF =>
  (dU.set jX.1 cN.2)[lF.1]? >>= fun wJ =>
  oD cN.1 0 lF.2 wJ >>= fun gy =>
  some (.inl (gy.1,U (ai+(1:Int)),ek.set (0+ai.toNat) (⟨(⟨((aJ.tmod (3:Int)) == (0:Int)),an.bm.a9⟩:eU),an.bO⟩:c7),(dU.set jX.1 cN.2).set lF.1 gy.2))
  else none
 else
  some (.inr (aJ,ek,dU))
def BB (aJ:Int) (ai:Int) (ek:(List c7)) (dU:(List (List Int))):Option (Int×(List c7)×(List (List Int))):=iter (fun w:Int×Int×(List c7)×(List (List Int))=>rB w.1 w.2.1 w.2.2.1 w.2.2.2) (aJ,ai,ek,dU)
theorem K7 {aJ:Int} {ai:Int} {ek:(List c7)} {dU:(List (List Int))}:bk (rB aJ ai ek dU) (eg aY 38 1 14 [1,0,1,0,0] (z0 (aJ,ai,ek,dU)) (z0) (z8)):=by
 unfold rB
 exact .ite (fun h1 =>
  .bn fun h2 =>
  .au fun an ap =>
  .au fun b2 aQ =>
  (let t1:List bE:=[.J (o 4 []),.ah true,.J (o 6 (ad (.b8 ((aw 0 1) an)) (ad (.b8 ((aw 0 1) an)) (ad (.b8 ((aw 0 1) an)) [])))),.J (o 3 [])];
  have aO:=((.bh h1 (by decide:(3:Int)≠0) h2.1 h2.2 (cB (aw 0 1) ap) (cB (aw 0 1) ap) (cB (aw 0 1) ap) h2.1 (.cp h2.2 (jA (gu (aD (aw 0 1) ek) (0+ai.toNat) (⟨(⟨((aJ.tmod (3:Int)) == (0:Int)),an.bm.a9⟩:eU),an.bO⟩:c7) (rfl:(setCells ((aw 0 1) an) 0 [.b ((aJ.tmod (3:Int)) == (0:Int))])=(aw 0 1) (⟨(⟨((aJ.tmod (3:Int)) == (0:Int)),an.bm.a9⟩:eU),an.bO⟩:c7))) aQ) (jA (gu (aD (aw 0 1) ek) (0+ai.toNat) (⟨(⟨((aJ.tmod (3:Int)) == (0:Int)),an.bm.a9⟩:eU),an.bO⟩:c7) (rfl:(setCells ((aw 0 1) an) 0 [.b ((aJ.tmod (3:Int)) == (0:Int))])=(aw 0 1) (⟨(⟨((aJ.tmod (3:Int)) == (0:Int)),an.bm.a9⟩:eU),an.bO⟩:c7))) aQ) (jA (gu (aD (aw 0 1) ek) (0+ai.toNat) (⟨(⟨((aJ.tmod (3:Int)) == (0:Int)),an.bm.a9⟩:eU),an.bO⟩:c7) (rfl:(setCells ((aw 0 1) an) 0 [.b ((aJ.tmod (3:Int)) == (0:Int))])=(aw 0 1) (⟨(⟨((aJ.tmod (3:Int)) == (0:Int)),an.bm.a9⟩:eU),an.bO⟩:c7))) aQ))):cd _);
  .mI (fun bd =>
  .au fun cu cR =>
  (let t3:List bE:=t1.append [.J (o 3 (ad (.b8 ((aw 0 1) b2)) (ad (.b8 ((aw 0 1) b2)) (ad (.b8 ((aw 0 1) b2)) (o 1 (ad (.eT 27 (.isl 1 []) (a7 2 (.n .i64 cu) true)) (o 1 [])))))))];
  have d4:=aO.az (.dP (Dn (b4:=0) (c:=1) (sz:=1) bd) (r8 cu cR) (aK.n .i64 cu) h2.1 h2.2 (jA (gu (aD (aw 0 1) ek) (0+ai.toNat) (⟨(⟨((aJ.tmod (3:Int)) == (0:Int)),an.bm.a9⟩:eU),an.bO⟩:c7) (rfl:(setCells ((aw 0 1) an) 0 [.b ((aJ.tmod (3:Int)) == (0:Int))])=(aw 0 1) (⟨(⟨((aJ.tmod (3:Int)) == (0:Int)),an.bm.a9⟩:eU),an.bO⟩:c7))) aQ) (jA (gu (aD (aw 0 1) ek) (0+ai.toNat) (⟨(⟨((aJ.tmod (3:Int)) == (0:Int)),an.bm.a9⟩:eU),an.bO⟩:c7) (rfl:(setCells ((aw 0 1) an) 0 [.b ((aJ.tmod (3:Int)) == (0:Int))])=(aw 0 1) (⟨(⟨((aJ.tmod (3:Int)) == (0:Int)),an.bm.a9⟩:eU),an.bO⟩:c7))) aQ));
  .mI (fun fi =>
  .au fun dN ez =>
  .ret (bz (t3.append [.J (o 3 (ad (.b8 ((aw 0 1) b2)) (ad (.b8 ((aw 0 1) b2)) (o 1 (ad (.eT 34 (.isl 1 []) (a7 2 (.n .i64 dN) true)) (o 1 [])))))),.J (o 3 []),.a4 [0] [.dO (ab.mk 3 ((ek.set (0+ai.toNat) (⟨(⟨((aJ.tmod (3:Int)) == (0:Int)),an.bm.a9⟩:eU),an.bO⟩:c7)).map (aw 0 1)) .live::(dU.map (bq .live 1 I)))] [(0,e6 ((ek.set (0+ai.toNat) (⟨(⟨((aJ.tmod (3:Int)) == (0:Int)),an.bm.a9⟩:eU),an.bO⟩:c7)).length)),(1,ii),(5,ii)]]) (d4.az (.cM (Dn (b4:=0) (c:=1) (sz:=1) fi) (r8 dN ez) (aK.n .i64 dN) (df (dh (aW:=(eD [0])) 3 .live (aw 0 1) (gu (aD (aw 0 1) ek) (0+ai.toNat) (⟨(⟨((aJ.tmod (3:Int)) == (0:Int)),an.bm.a9⟩:eU),an.bO⟩:c7) (rfl:(setCells ((aw 0 1) an) 0 [.b ((aJ.tmod (3:Int)) == (0:Int))])=(aw 0 1) (⟨(⟨((aJ.tmod (3:Int)) == (0:Int)),an.bm.a9⟩:eU),an.bO⟩:c7))) (fun x=>(fr (rfl:(eD [0]) 0=some 0)) x)) (fs (aW:=(eD [0])) (cA .live 1 I dU) (fun x=>(dg ev) x))) (fQ (ba ek) (0+ai.toNat) (⟨(⟨((aJ.tmod (3:Int)) == (0:Int)),an.bm.a9⟩:eU),an.bO⟩:c7))))))
  (fun kv fi =>
  .au fun wI ez =>
  .au fun et gY =>
  .ret (bz (t3.append [.J (o 3 (ad (.b8 ((aw 0 1) b2)) (ad (.b8 ((aw 0 1) b2)) (o 1 (ad (.eT 34 (.aN 0 (kv.1+1) 0 kv.2) (.call {aB:=[.aq 0 (kv.1+1) (ab.mk 1 (wI.map I) .live)],bN:=[.pure],ac:=[.bo (.bX (.at_ 0 0 kv.2)),ii],r:= .n .i64 et.1,cg:=[[ab.mk 1 (et.2.map I) .live]],cC:=ii,cQ:=[.pure],b6:=[0],b5:=false})) (o 1 [])))))),.J (o 3 []),.a4 [0] [.dO (ab.mk 3 ((ek.set (0+ai.toNat) (⟨(⟨((aJ.tmod (3:Int)) == (0:Int)),an.bm.a9⟩:eU),an.bO⟩:c7)).map (aw 0 1)) .live::((dU.set kv.1 et.2).map (bq .live 1 I)))] [(0,e6 ((ek.set (0+ai.toNat) (⟨(⟨((aJ.tmod (3:Int)) == (0:Int)),an.bm.a9⟩:eU),an.bO⟩:c7)).length)),(1,ii),(5,ii)]]) (d4.az (.bh (Dp (b4:=0) (c:=1) (sz:=1) fi) (rfl:gX [.aq 0 (kv.1+1) (ab.mk 1 (wI.map I) .live)] 0 0=some (0,(kv.1+1))) (rfl:kv.2=kv.2) (yL (cA .live 1 I dU) hF ez) (ec 1 a3 wI) (ec 1 a3 et.2) (BA et gY) (df (dh (aW:=(eD [0])) 3 .live (aw 0 1) (gu (aD (aw 0 1) ek) (0+ai.toNat) (⟨(⟨((aJ.tmod (3:Int)) == (0:Int)),an.bm.a9⟩:eU),an.bO⟩:c7) (rfl:(setCells ((aw 0 1) an) 0 [.b ((aJ.tmod (3:Int)) == (0:Int))])=(aw 0 1) (⟨(⟨((aJ.tmod (3:Int)) == (0:Int)),an.bm.a9⟩:eU),an.bO⟩:c7))) (fun x=>(fr (rfl:(eD [0]) 0=some 0)) x)) (fs (aW:=(eD [0])) (vB (cA .live 1 I dU) kv.1 (aD I et.2)) (fun x=>(dg ev) x))) (.e1 (fQ (ba ek) (0+ai.toNat) (⟨(⟨((aJ.tmod (3:Int)) == (0:Int)),an.bm.a9⟩:eU),an.bO⟩:c7)))))))))
  (fun jX bd =>
  .au fun xb cR =>
  .au fun cN fB =>
  (let t3:List bE:=t1.append [.J (o 3 (ad (.b8 ((aw 0 1) b2)) (ad (.b8 ((aw 0 1) b2)) (ad (.b8 ((aw 0 1) b2)) (o 1 (ad (.eT 27 (.aN 0 (jX.1+1) 0 jX.2) (.call {aB:=[.aq 0 (jX.1+1) (ab.mk 1 (xb.map I) .live)],bN:=[.pure],ac:=[.bo (.bX (.at_ 0 0 jX.2)),ii],r:= .n .i64 cN.1,cg:=[[ab.mk 1 (cN.2.map I) .live]],cC:=ii,cQ:=[.pure],b6:=[0],b5:=false})) (o 1 [])))))))];
  have d4:=aO.az (.bh (Dp (b4:=0) (c:=1) (sz:=1) bd) (rfl:gX [.aq 0 (jX.1+1) (ab.mk 1 (xb.map I) .live)] 0 0=some (0,(jX.1+1))) (rfl:jX.2=jX.2) (yL (cA .live 1 I dU) hF cR) (ec 1 a3 xb) (ec 1 a3 cN.2) (BA cN fB) h2.1 (.bp h2.2 (jA (gu (aD (aw 0 1) ek) (0+ai.toNat) (⟨(⟨((aJ.tmod (3:Int)) == (0:Int)),an.bm.a9⟩:eU),an.bO⟩:c7) (rfl:(setCells ((aw 0 1) an) 0 [.b ((aJ.tmod (3:Int)) == (0:Int))])=(aw 0 1) (⟨(⟨((aJ.tmod (3:Int)) == (0:Int)),an.bm.a9⟩:eU),an.bO⟩:c7))) aQ) (jA (gu (aD (aw 0 1) ek) (0+ai.toNat) (⟨(⟨((aJ.tmod (3:Int)) == (0:Int)),an.bm.a9⟩:eU),an.bO⟩:c7) (rfl:(setCells ((aw 0 1) an) 0 [.b ((aJ.tmod (3:Int)) == (0:Int))])=(aw 0 1) (⟨(⟨((aJ.tmod (3:Int)) == (0:Int)),an.bm.a9⟩:eU),an.bO⟩:c7))) aQ)));
  .mI (fun ex =>
  .au fun et gY =>
  .ret (bz (t3.append [.J (o 3 (ad (.b8 ((aw 0 1) b2)) (ad (.b8 ((aw 0 1) b2)) (o 1 (ad (.eT 34 (.isl 1 []) (a7 2 (.n .i64 et) true)) (o 1 [])))))),.J (o 3 []),.a4 [0] [.dO (ab.mk 3 ((ek.set (0+ai.toNat) (⟨(⟨((aJ.tmod (3:Int)) == (0:Int)),an.bm.a9⟩:eU),an.bO⟩:c7)).map (aw 0 1)) .live::((dU.set jX.1 cN.2).map (bq .live 1 I)))] [(0,e6 ((ek.set (0+ai.toNat) (⟨(⟨((aJ.tmod (3:Int)) == (0:Int)),an.bm.a9⟩:eU),an.bO⟩:c7)).length)),(1,ii),(5,ii)]]) (d4.az (.cM (Dn (b4:=0) (c:=1) (sz:=1) ex) (r8 et gY) (aK.n .i64 et) (df (dh (aW:=(eD [0])) 3 .live (aw 0 1) (gu (aD (aw 0 1) ek) (0+ai.toNat) (⟨(⟨((aJ.tmod (3:Int)) == (0:Int)),an.bm.a9⟩:eU),an.bO⟩:c7) (rfl:(setCells ((aw 0 1) an) 0 [.b ((aJ.tmod (3:Int)) == (0:Int))])=(aw 0 1) (⟨(⟨((aJ.tmod (3:Int)) == (0:Int)),an.bm.a9⟩:eU),an.bO⟩:c7))) (fun x=>(fr (rfl:(eD [0]) 0=some 0)) x)) (fs (aW:=(eD [0])) (vB (cA .live 1 I dU) jX.1 (aD I cN.2)) (fun x=>(dg ev) x))) (fQ (ba ek) (0+ai.toNat) (⟨(⟨((aJ.tmod (3:Int)) == (0:Int)),an.bm.a9⟩:eU),an.bO⟩:c7))))))
  (fun lF ex =>
  .au fun wJ gY =>
  .au fun gy iO =>
  .ret (bz (t3.append [.J (o 3 (ad (.b8 ((aw 0 1) b2)) (ad (.b8 ((aw 0 1) b2)) (o 1 (ad (.eT 34 (.aN 0 (lF.1+1) 0 lF.2) (.call {aB:=[.aq 0 (lF.1+1) (ab.mk 1 (wJ.map I) .live)],bN:=[.pure],ac:=[.bo (.bX (.at_ 0 0 lF.2)),ii],r:= .n .i64 gy.1,cg:=[[ab.mk 1 (gy.2.map I) .live]],cC:=ii,cQ:=[.pure],b6:=[0],b5:=false})) (o 1 [])))))),.J (o 3 []),.a4 [0] [.dO (ab.mk 3 ((ek.set (0+ai.toNat) (⟨(⟨((aJ.tmod (3:Int)) == (0:Int)),an.bm.a9⟩:eU),an.bO⟩:c7)).map (aw 0 1)) .live::(((dU.set jX.1 cN.2).set lF.1 gy.2).map (bq .live 1 I)))] [(0,e6 ((ek.set (0+ai.toNat) (⟨(⟨((aJ.tmod (3:Int)) == (0:Int)),an.bm.a9⟩:eU),an.bO⟩:c7)).length)),(1,ii),(5,ii)]]) (d4.az (.bh (Dp (b4:=0) (c:=1) (sz:=1) ex) (rfl:gX [.aq 0 (lF.1+1) (ab.mk 1 (wJ.map I) .live)] 0 0=some (0,(lF.1+1))) (rfl:lF.2=lF.2) (yL (vB (cA .live 1 I dU) jX.1 (aD I cN.2)) hF gY) (ec 1 a3 wJ) (ec 1 a3 gy.2) (BA gy iO) (df (dh (aW:=(eD [0])) 3 .live (aw 0 1) (gu (aD (aw 0 1) ek) (0+ai.toNat) (⟨(⟨((aJ.tmod (3:Int)) == (0:Int)),an.bm.a9⟩:eU),an.bO⟩:c7) (rfl:(setCells ((aw 0 1) an) 0 [.b ((aJ.tmod (3:Int)) == (0:Int))])=(aw 0 1) (⟨(⟨((aJ.tmod (3:Int)) == (0:Int)),an.bm.a9⟩:eU),an.bO⟩:c7))) (fun x=>(fr (rfl:(eD [0]) 0=some 0)) x)) (fs (aW:=(eD [0])) (vB (vB (cA .live 1 I dU) jX.1 (aD I cN.2)) lF.1 (aD I gy.2)) (fun x=>(dg ev) x))) (.e1 (fQ (ba ek) (0+ai.toNat) (⟨(⟨((aJ.tmod (3:Int)) == (0:Int)),an.bm.a9⟩:eU),an.bO⟩:c7)))))))))))
  (fun h1 =>
  .ret (bz [.J (o 4 []),.ah false,.a4 [0] [.dO (ab.mk 3 (ek.map (aw 0 1)) .live::(dU.map (bq .live 1 I)))] (bB [1])] (.e2 h1 (df (dh (aW:=(eD [0])) 3 .live (aw 0 1) (aD (aw 0 1) ek) (fun x=>(fr (rfl:(eD [0]) 0=some 0)) x)) (fs (aW:=(eD [0])) (cA .live 1 I dU) (fun x=>(dg ev) x))))))
theorem L8 {aJ:Int} {ai:Int} {ek:(List c7)} {dU:(List (List Int))} {r} (h:BB aJ ai ek dU=some r):eh aY 38 1 14 [1,0,1,0,0] (z0) (z8) (aJ,ai,ek,dU) r:=ej (fun _=>K7) h
def mb (aJ:Int) (qy:(List c7)) (tJ:(List (List Int))):Option (Int×(List c7)×(List (List Int))) :=
 BB aJ 0 qy tJ >>= fun r1 =>
 some (r1.1,r1.2.1,r1.2.2)
theorem oA {aJ:Int} {qy:(List c7)} {tJ:(List (List Int))}:bk (mb aJ qy tJ) (fun a=>Con aY 14 [.aN 0 0 0 qy.length,.n .i64 aJ] [(ab.mk 3 (qy.map (aw 0 1)) .live::(tJ.map (bq .live 1 I)))] (.n .i64 a.1) [(ab.mk 3 (a.2.1.map (aw 0 1)) .live::(a.2.2.map (bq .live 1 I)))]):=by
 unfold mb
 exact .au fun r1 h2 =>
  .ret (fL [.J (o 1 []),.J (o 1 []),.a4 [0] [.dO (ab.mk 3 (qy.map (aw 0 1)) .live::(tJ.map (bq .live 1 I)))] (bB [0,1,5]),(z8 r1).fo,.J (o 2 [])] [0] [.dO (ab.mk 3 (r1.2.1.map (aw 0 1)) .live::(r1.2.2.map (bq .live 1 I)))] (.bp (df (dh (aW:=(eD [0])) 3 .live (aw 0 1) (aD (aw 0 1) qy) (fun x=>(fr (rfl:(eD [0]) 0=some 0)) x)) (fs (aW:=(eD [0])) (cA .live 1 I tJ) (fun x=>(dg ev) x))) (L8 h2) (df (dh (aW:=(eD [0])) 3 .live (aw 0 1) (aD (aw 0 1) r1.2.1) (fun x=>(fr (rfl:(eD [0]) 0=some 0)) x)) (fs (aW:=(eD [0])) (cA .live 1 I r1.2.2) (fun x=>(dg ev) x)))))
def r7 (aJ:Int) (h3:Bool) (jE:(List Int)):Option Int :=
 mO jE aJ >>= fun r1 =>
 some r1
theorem FA {aJ:Int} {h3:Bool} {jE:(List Int)}:bk (r7 aJ h3 jE) (fun a=>Con aY 45 [.agg [.b h3,.isl 1 (jE.map I)],.n .i64 aJ] [] (.n .i64 a) []):=by
 unfold r7
 exact .au fun r1 h2 =>
  .ret (fL [.J (o 2 []),.J (o 3 (ad (a7 2 (.n .i64 r1) true) (o 1 []))),.J (o 2 [])] [] [] (.e2 (r8 r1 h2) (aK.n .i64 r1)))
def uw (aJ:Int) (h3:Bool) (jE:(List Int)) (yy:(List Int)):Option Int :=
 r7 aJ h3 jE >>= fun r1 =>
 mO yy r1 >>= fun a2 =>
 some a2
theorem M0 {aJ:Int} {h3:Bool} {jE:(List Int)} {yy:(List Int)}:bk (uw aJ h3 jE yy) (fun a=>Con aY 15 [.agg [.b h3,.isl 1 (jE.map I),.isl 1 (yy.map I)],.n .i64 aJ] [] (.n .i64 a) []):=by
 unfold uw
 exact .au fun r1 h2 =>
  .au fun a2 ap =>
  .ret (fL [.J (o 2 []),.J (o 3 (ad (.call {aB:=[],bN:=[],ac:=[.bo (.agg [.id,.id]),ii],r:= .n .i64 r1,cg:=[],cC:=ii,cQ:=[],b6:=[],b5:=false}) (o 1 []))),.J (o 3 (ad (a7 2 (.n .i64 a2) true) (o 1 []))),.J (o 2 [])] [] [] (.bp (FA r1 h2) (r8 a2 ap) (aK.n .i64 a2)))
def Ap (aa:(List Int)):(Int×Int)→S:=fun (aJ,ai)=>dy [(0,.isl 1 (aa.map I)),(1,.n .i64 aJ),(5,.n .i64 ai)] []
def AM (aa:(List Int)):((Int)⊕(Unit))→dB
 | .inl a=>⟨some 0,[(1,.n .i64 a)],[]⟩
 | .inr a=>⟨none,[(4,.n .i64 (-1:Int))],[]⟩
def rL (aa:(List Int)) (aJ:Int) (ai:Int):Option ((Int×Int)⊕((Int)⊕(Unit))) :=
 if (decide (ai<(len_ I aa)))=true then
  if 0≤ai∧ai<aa.length then
  aa[ai.toNat]? >>= fun an =>
  if (an != aJ)=true then
   some (.inr (.inr ()))
  else
   some (.inl (U (aJ+(1:Int)),U (ai+(1:Int))))
  else none
 else
  some (.inr (.inl aJ))
def B6 (aa:(List Int)) (aJ:Int) (ai:Int):Option ((Int)⊕(Unit)):=iter (fun w:Int×Int=>rL aa w.1 w.2) (aJ,ai)
theorem Lq {aa:(List Int)} {aJ:Int} {ai:Int}:bk (rL aa aJ ai) (eg aY 21 0 47 [1,0,1,0,0] (Ap aa (aJ,ai)) (Ap aa) (AM aa)):=by
 unfold rL
 exact .ite (fun h1 =>
  .bn fun h2 =>
  .au fun an ap =>
  (let t1:List bE:=[.J (o 4 []),.ah true,.J (o 3 (ad (.b8 (I an)) (o 2 [])))];
  have aO:=((.cp h1 h2.1 (dd I h2.2) (cB I ap)):cd _);
  .ite (fun aE =>
  .ret (bz (t1.append [.ah true,.J (o 1 []),.a4 [] [] (bB [4])]) (aO.az (.e1 aE))))
  (fun aE =>
  .ret (bz (t1.append [.ah false,.J (o 3 []),.J (o 3 []),.a4 [] [] (bB [0,1,5])]) (aO.az (.e1 aE))))))
  (fun h1 =>
  .ret (bz [.J (o 4 []),.ah false,.a4 [] [] (bB [1])] (.e1 h1)))
theorem FJ {aa:(List Int)} {aJ:Int} {ai:Int} {r} (h:B6 aa aJ ai=some r):eh aY 21 0 47 [1,0,1,0,0] (Ap aa) (AM aa) (aJ,ai) r:=ej (fun _=>Lq) h
def sj (aa:(List Int)) (aJ:Int):Option Int :=
 B6 aa aJ 0 >>= fun r1 =>
 match r1 with
 | .inl dR=>(some dR)
 | .inr dR=>(some (-1))
theorem F8 {aa:(List Int)} {aJ:Int}:bk (sj aa aJ) (fun r=>Con aY 47 [.isl 1 (aa.map I),.n .i64 aJ] [] (.n .i64 r) []):=by
 unfold sj
 exact .au fun r1 h2 =>
  (let t1:List bE:=[.J (o 1 []),.J (o 1 []),.a4 [] [] (bB [0,1,5])];
  (by
  rcases r1 with dR|dR
  ·exact (.ret (aU (t1.append [.sub (.exit 0) [(1,.n .i64 dR)] [],.J (o 2 [])]) (.e1 (FJ h2))))
  ·exact (.ret (aU (t1.append [(AM aa (.inr dR)).fo]) (.e1 (FJ h2))))))
def xA (aa:cZ) (aJ:Int):Option Int :=
 sj aa.a9 aJ >>= fun r1 =>
 if (decide (r1<(0:Int)))=true then
  some (-1)
 else
  some r1
theorem MK {aa:cZ} {aJ:Int}:bk (xA aa aJ) (fun r=>Con aY 46 [.agg [.b aa.bM,.isl 1 (aa.a9.map I)],.n .i64 aJ] [] (.n .i64 r) []):=by
 unfold xA
 exact .au fun r1 h2 =>
  (let t1:List bE:=[.J (o 2 []),.J (o 3 (ad (a7 2 (.n .i64 r1) true) (o 1 []))),.J (o 2 [])];
  have aO:=((.e2 (F8 r1 h2) (aK.n .i64 r1)):cd _);
  .ite (fun ag =>
  .ret (aU (t1.append [.ah true,.J (o 1 [])]) (aO.az (.e1 ag))))
  (fun ag =>
  .ret (aU (t1.append [.ah false,.J (o 2 [])]) (aO.az (.e1 ag)))))
def nx (aa:bF) (aJ:Int):Option Int :=
 xA aa.bm aJ >>= fun r1 =>
 if (decide (r1<(0:Int)))=true then
  some (-1)
 else
  sj aa.bO r1 >>= fun bb =>
  if (decide (bb<(0:Int)))=true then
   some (-1)
  else
   some bb
theorem oE {aa:bF} {aJ:Int}:bk (nx aa aJ) (fun r=>Con aY 16 [.agg [.b aa.bm.bM,.isl 1 (aa.bm.a9.map I),.isl 1 (aa.bO.map I)],.n .i64 aJ] [] (.n .i64 r) []):=by
 unfold nx
 exact .au fun r1 h2 =>
  (let t1:List bE:=[.J (o 2 []),.J (o 3 (ad (a7 2 (.n .i64 r1) true) (o 1 []))),.J (o 2 [])];
  have aO:=((.e2 (MK r1 h2) (aK.n .i64 r1)):cd _);
  .ite (fun ag =>
  .ret (aU (t1.append [.ah true,.J (o 1 [])]) (aO.az (.e1 ag))))
  (fun ag =>
  .au fun bb aE =>
  (let t3:List bE:=t1.append [.ah false,.J (o 3 (ad (a7 2 (.n .i64 bb) true) (o 1 []))),.J (o 2 [])];
  have d4:=aO.az (.bp ag (F8 bb aE) (aK.n .i64 bb));
  .ite (fun aQ =>
  .ret (aU (t3.append [.ah true,.J (o 1 [])]) (d4.az (.e1 aQ))))
  (fun aQ =>
  .ret (aU (t3.append [.ah false,.J (o 2 [])]) (d4.az (.e1 aQ)))))))
def zS:(Int×Int×(List Int))→S:=fun (aJ,ai,ae)=>dy [(0,.aN 0 0 0 ae.length),(1,.n .i64 aJ),(5,.n .i64 ai)] [[ab.mk 1 (ae.map I) .live]]
def z1:(Int×(List Int))→dB
 | a=>⟨some 0,[(1,.n .i64 a.1)],[[ab.mk 1 (a.2.map I) .live]]⟩
def rv (aJ:Int) (ai:Int) (ae:(List Int)):Option ((Int×Int×(List Int))⊕(Int×(List Int))) :=
 if (decide (ai<((ae.length:Nat):Int)))=true then
  if 0≤ai∧ai<(ae.length:Nat) then
  if (0+ai.toNat)<ae.length then
  some (.inl (U (aJ+(1:Int)),U (ai+(1:Int)),ae.set (0+ai.toNat) aJ))
  else none
  else none
 else
  some (.inr (aJ,ae))
def Bb (aJ:Int) (ai:Int) (ae:(List Int)):Option (Int×(List Int)):=iter (fun w:Int×Int×(List Int)=>rv w.1 w.2.1 w.2.2) (aJ,ai,ae)
theorem K1 {aJ:Int} {ai:Int} {ae:(List Int)}:bk (rv aJ ai ae) (eg aY 19 1 44 [1,0,1,0,0] (zS (aJ,ai,ae)) (zS) (z1)):=by
 unfold rv
 exact .ite (fun h1 =>
  .bn fun h2 =>
  .bn fun ag =>
  .ret (bz [.J (o 4 []),.ah true,.J (o 4 (ad .cY [])),.J (o 3 []),.J (o 3 []),.a4 [0] [.dr [ab.mk 1 ((ae.set (0+ai.toNat) aJ).map I) .live]] [(0,e6 ((ae.set (0+ai.toNat) aJ).length)),(1,ii),(5,ii)]] (.gz h1 h2.1 h2.2 (g7 I ag) (gT 1) (eb 1 .live (fZ (aD I ae) (0+ai.toNat) aJ)) (bJ 1 .live a3 (ae.set (0+ai.toNat) aJ)) (fQ (ba ae) (0+ai.toNat) aJ))))
  (fun h1 =>
  .ret (bz [.J (o 4 []),.ah false,.a4 [0] [.pure] (bB [1])] (.e2 h1 (bJ 1 .live a3 ae))))
theorem LU {aJ:Int} {ai:Int} {ae:(List Int)} {r} (h:Bb aJ ai ae=some r):eh aY 19 1 44 [1,0,1,0,0] (zS) (z1) (aJ,ai,ae) r:=ej (fun _=>K1) h
def pM (aJ:Int) (cE:(List Int)):Option (Int×(List Int)) :=
 Bb aJ 0 cE >>= fun r1 =>
 some (r1.1,r1.2)
theorem Bc {aJ:Int} {cE:(List Int)}:bk (pM aJ cE) (fun a=>Con aY 44 [.aN 0 0 0 cE.length,.n .i64 aJ] [[ab.mk 1 (cE.map I) .live]] (.n .i64 a.1) [[ab.mk 1 (a.2.map I) .live]]):=by
 unfold pM
 exact .au fun r1 h2 =>
  .ret (fL [.J (o 1 []),.J (o 1 []),.a4 [0] [.pure] (bB [0,1,5]),(z1 r1).fo,.J (o 2 [])] [0] [.pure] (.bp (bJ 1 .live a3 cE) (LU h2) (bJ 1 .live a3 r1.2)))
def uo (aJ:Int) (h3:Bool) (jE:(List Int)) (cE:(List Int)):Option (Int×(List Int)) :=
 r7 aJ h3 jE >>= fun r1 =>
 pM r1 cE >>= fun a2 =>
 some (a2.1,a2.2)
theorem ML {aJ:Int} {h3:Bool} {jE:(List Int)} {cE:(List Int)}:bk (uo aJ h3 jE cE) (fun a=>Con aY 15 [.agg [.b h3,.isl 1 (jE.map I),.aN 0 0 0 cE.length],.n .i64 aJ] [[ab.mk 1 (cE.map I) .live]] (.n .i64 a.1) [[ab.mk 1 (a.2.map I) .live]]):=by
 unfold uo
 exact .au fun r1 h2 =>
  .au fun a2 ap =>
  .ret (fL [.J (o 2 []),.J (o 3 (ad (.call {aB:=[],bN:=[],ac:=[.bo (.agg [.id,.id]),ii],r:= .n .i64 r1,cg:=[],cC:=ii,cQ:=[],b6:=[],b5:=false}) (o 1 []))),.J (o 3 (ad (.call {aB:=[.row 0],bN:=[.pure],ac:=[ii,ii],r:= .n .i64 a2.1,cg:=[[ab.mk 1 (a2.2.map I) .live]],cC:=ii,cQ:=[.pure],b6:=[0],b5:=false}) (o 1 []))),.J (o 2 [])] [0] [.pure] (.cM (FA r1 h2) (ec 1 a3 cE) (ec 1 a3 a2.2) (Bc a2 ap) (bJ 1 .live a3 a2.2)))
def uf (aJ:Int) (h3:Bool) (cE:(List Int)):Option (Int×(List Int)) :=
 pM aJ cE >>= fun r1 =>
 some (r1.1,r1.2)
theorem Fu {aJ:Int} {h3:Bool} {cE:(List Int)}:bk (uf aJ h3 cE) (fun a=>Con aY 45 [.agg [.b h3,.aN 0 0 0 cE.length],.n .i64 aJ] [[ab.mk 1 (cE.map I) .live]] (.n .i64 a.1) [[ab.mk 1 (a.2.map I) .live]]):=by
 unfold uf
 exact .au fun r1 h2 =>
  .ret (fL [.J (o 2 []),.J (o 3 (ad (.call {aB:=[.row 0],bN:=[.pure],ac:=[ii,ii],r:= .n .i64 r1.1,cg:=[[ab.mk 1 (r1.2.map I) .live]],cC:=ii,cQ:=[.pure],b6:=[0],b5:=false}) (o 1 []))),.J (o 2 [])] [0] [.pure] (.cp (ec 1 a3 cE) (ec 1 a3 r1.2) (Bc r1 h2) (bJ 1 .live a3 r1.2)))
def B7 (aJ:Int) (h3:Bool) (jE:(List Int)) (cE:(List Int)):Option (Int×(List Int)) :=
 uf aJ h3 cE >>= fun r1 =>
 mO jE r1.1 >>= fun a2 =>
 some (a2,r1.2)
theorem My {aJ:Int} {h3:Bool} {jE:(List Int)} {cE:(List Int)}:bk (B7 aJ h3 jE cE) (fun a=>Con aY 15 [.agg [.b h3,.aN 0 0 0 cE.length,.isl 1 (jE.map I)],.n .i64 aJ] [[ab.mk 1 (cE.map I) .live]] (.n .i64 a.1) [[ab.mk 1 (a.2.map I) .live]]):=by
 unfold B7
 exact .au fun r1 h2 =>
  .au fun a2 ap =>
  .ret (fL [.J (o 2 []),.J (o 3 (ad (.call {aB:=[.row 0],bN:=[.pure],ac:=[.bo (.agg [.id,.id]),ii],r:= .n .i64 r1.1,cg:=[[ab.mk 1 (r1.2.map I) .live]],cC:=ii,cQ:=[.pure],b6:=[0],b5:=false}) (o 1 []))),.J (o 3 (ad (a7 2 (.n .i64 a2) true) (o 1 []))),.J (o 2 [])] [0] [.pure] (.d5 (ec 1 a3 cE) (ec 1 a3 r1.2) (Fu r1 h2) (r8 a2 ap) (aK.n .i64 a2) (bJ 1 .live a3 r1.2)))
def ui (aJ:Int) (h3:Bool) (cE:(List Int)) (l3:(List Int)):Option (Int×(List Int)×(List Int)) :=
 uf aJ h3 cE >>= fun r1 =>
 pM r1.1 l3 >>= fun a2 =>
 some (a2.1,r1.2,a2.2)
theorem Mj {aJ:Int} {h3:Bool} {cE:(List Int)} {l3:(List Int)}:bk (ui aJ h3 cE l3) (fun a=>Con aY 15 [.agg [.b h3,.aN 0 0 0 cE.length,.aN 1 0 0 l3.length],.n .i64 aJ] [[ab.mk 1 (cE.map I) .live],[ab.mk 1 (l3.map I) .live]] (.n .i64 a.1) [[ab.mk 1 (a.2.1.map I) .live],[ab.mk 1 (a.2.2.map I) .live]]):=by
 unfold ui
 exact .au fun r1 h2 =>
  .au fun a2 ap =>
  .ret (fL [.J (o 2 []),.J (o 3 (ad (.call {aB:=[.row 0],bN:=[.pure],ac:=[.bo (.agg [.id,.id]),ii],r:= .n .i64 r1.1,cg:=[[ab.mk 1 (r1.2.map I) .live]],cC:=ii,cQ:=[.pure],b6:=[0],b5:=false}) (o 1 []))),.J (o 3 (ad (.call {aB:=[.row 1],bN:=[.pure],ac:=[ii,ii],r:= .n .i64 a2.1,cg:=[[ab.mk 1 (a2.2.map I) .live]],cC:=ii,cQ:=[.pure],b6:=[1],b5:=false}) (o 1 []))),.J (o 2 [])] [0,1] [.pure,.pure] (.gz (ec 1 a3 cE) (ec 1 a3 r1.2) (Fu r1 h2) (ec 1 a3 l3) (ec 1 a3 a2.2) (Bc a2 ap) (bJ 1 .live a3 r1.2) (bJ 1 .live a3 a2.2)))
end Go.Proofs.YtmmbmjbpfklkcaaGreat
namespace Go.Proofs.YtmmbmjbpfklkcaaGreat
set_option linter.unusedVariables false
set_option linter.unusedSimpArgs false
open Go Go.VL
def xm (tk:c4) (v7:(List bF)) (v8:(List bF)):Option Bool :=
 pK tk 1048576 >>= fun r1 =>
 if (decide (r1<(0:Int)))=true then
  some true
 else
  sv v7 r1 >>= fun bb =>
  if (decide (bb<(0:Int)))=true then
   some true
  else
   sv v8 bb >>= fun bw =>
   if (decide (bw<(0:Int)))=true then
    some true
   else
    ud tk >>= fun aA =>
    se v7 >>= fun ay =>
    se v8 >>= fun aC =>
    if ay.1.all (sW ay.2)=true then
    if aC.1.all (sW aC.2)=true then
    pR (⟨aA.1,aA.2⟩:c4) (ay.1.map (dc ay.2)) (aC.1.map (dc aC.2)) >>= fun fO =>
    pO (⟨aA.1,aA.2⟩:c4) (ay.1.map (dc ay.2)) (aC.1.map (dc aC.2)) >>= fun iz =>
    match iz with
    | .inl bl=>(mW (⟨(⟨bl.1,([]:List Int)⟩:cZ),([]:List Int)⟩:bF) fO.1 >>= fun fj =>
     if fj=true then
      if (bl.2 == fO.2)=true then
       oC (⟨aA.1,aA.2⟩:c4) (⟨aA.1,aA.2⟩:c4) >>= fun iP =>
       if iP=true then
        mg (ay.1.map (dc ay.2)) (ay.1.map (dc ay.2)) >>= fun iQ =>
        if iQ=true then
         mg (aC.1.map (dc aC.2)) (aC.1.map (dc aC.2)) >>= fun iR =>
         if iR=true then
          ox 1 aA.1 aA.2 >>= fun gG =>
          mb gG.1 ay.1 ay.2 >>= fun eW =>
          mb eW.1 aC.1 aC.2 >>= fun eX =>
          if (decide (eX.1<(0:Int)))=true then
           some false
          else
           uw 1 bl.1 ([]:List Int) ([]:List Int) >>= fun en =>
           nx (⟨(⟨bl.1,([]:List Int)⟩:cZ),([]:List Int)⟩:bF) 1 >>= fun ol =>
           if (decide (ol<(0:Int)))=true then
            some false
           else
            if (ol != en)=true then
             some false
            else
             some true
         else
          some false
        else
         some false
       else
        some false
      else
       some false
     else
      some false)
    | .inr (.inl bl)=>(mW (⟨(⟨bl.1,([]:List Int)⟩:cZ),bl.2⟩:bF) fO.1 >>= fun fj =>
     if fj=true then
      if (true == fO.2)=true then
       oC (⟨aA.1,aA.2⟩:c4) (⟨aA.1,aA.2⟩:c4) >>= fun iP =>
       if iP=true then
        mg (ay.1.map (dc ay.2)) (ay.1.map (dc ay.2)) >>= fun iQ =>
        if iQ=true then
         mg (aC.1.map (dc aC.2)) (aC.1.map (dc aC.2)) >>= fun iR =>
         if iR=true then
          ox 1 aA.1 aA.2 >>= fun gG =>
          mb gG.1 ay.1 ay.2 >>= fun eW =>
          mb eW.1 aC.1 aC.2 >>= fun eX =>
          if (decide (eX.1<(0:Int)))=true then
           some false
          else
           uo 1 bl.1 ([]:List Int) bl.2 >>= fun en =>
           if 0+bl.2.length≤en.2.length then
           nx (⟨(⟨bl.1,([]:List Int)⟩:cZ),(en.2.drop 0).take bl.2.length⟩:bF) 1 >>= fun jQ =>
           if (decide (jQ<(0:Int)))=true then
            some false
           else
            if (jQ != en.1)=true then
             some false
            else
             some true
           else none
         else
          some false
        else
         some false
       else
        some false
      else
       some false
     else
      some false)
    | .inr (.inr (.inl bl))=>(mW (⟨(⟨bl.1,bl.2⟩:cZ),([]:List Int)⟩:bF) fO.1 >>= fun fj =>
     if fj=true then
      if (true == fO.2)=true then
       oC (⟨aA.1,aA.2⟩:c4) (⟨aA.1,aA.2⟩:c4) >>= fun iP =>
       if iP=true then
        mg (ay.1.map (dc ay.2)) (ay.1.map (dc ay.2)) >>= fun iQ =>
        if iQ=true then
         mg (aC.1.map (dc aC.2)) (aC.1.map (dc aC.2)) >>= fun iR =>
         if iR=true then
          ox 1 aA.1 aA.2 >>= fun gG =>
          mb gG.1 ay.1 ay.2 >>= fun eW =>
          mb eW.1 aC.1 aC.2 >>= fun eX =>
          if (decide (eX.1<(0:Int)))=true then
           some false
          else
           B7 1 bl.1 ([]:List Int) bl.2 >>= fun en =>
           if 0+bl.2.length≤en.2.length then
           nx (⟨(⟨bl.1,(en.2.drop 0).take bl.2.length⟩:cZ),([]:List Int)⟩:bF) 1 >>= fun jQ =>
           if (decide (jQ<(0:Int)))=true then
            some false
           else
            if (jQ != en.1)=true then
             some false
            else
             some true
           else none
         else
          some false
        else
         some false
       else
        some false
      else
       some false
     else
      some false)
    | .inr (.inr (.inr bl))=>(mW (⟨(⟨bl.1,bl.2.1⟩:cZ),bl.2.2⟩:bF) fO.1 >>= fun fj =>
     if fj=true then
      if (true == fO.2)=true then
       oC (⟨aA.1,aA.2⟩:c4) (⟨aA.1,aA.2⟩:c4) >>= fun iP =>
       if iP=true then
        mg (ay.1.map (dc ay.2)) (ay.1.map (dc ay.2)) >>= fun iQ =>
        if iQ=true then
         mg (aC.1.map (dc aC.2)) (aC.1.map (dc aC.2)) >>= fun iR =>
         if iR=true then
          ox 1 aA.1 aA.2 >>= fun gG =>
          mb gG.1 ay.1 ay.2 >>= fun eW =>
          mb eW.1 aC.1 aC.2 >>= fun eX =>
          if (decide (eX.1<(0:Int)))=true then
           some false
          else
           ui 1 bl.1 bl.2.1 bl.2.2 >>= fun en =>
           if 0+bl.2.1.length≤en.2.1.length then
           if 0+bl.2.2.length≤en.2.2.length then
           nx (⟨(⟨bl.1,(en.2.1.drop 0).take bl.2.1.length⟩:cZ),(en.2.2.drop 0).take bl.2.2.length⟩:bF) 1 >>= fun om =>
           if (decide (om<(0:Int)))=true then
            some false
           else
            if (om != en.1)=true then
             some false
            else
             some true
           else none
           else none
         else
          some false
        else
         some false
       else
        some false
      else
       some false
     else
      some false)
    else none
    else none
set_option maxHeartbeats 4000000 in
theorem LB {tk:c4} {v7:(List bF)} {v8:(List bF)}:bk (xm tk v7 v8) (fun r=>Con aY 3 [.agg [.isl 4 (tk.a6.map aG),.isl 3 (tk.b9.map aZ)],.isl 3 (v7.map eTRat),.isl 3 (v8.map eTRat)] [] (.b r) []):=by
 unfold xm
 exact .au fun r1 h2 =>
  (let t1:List bE:=[.J (o 2 []),.J (o 1 []),.J (o 2 (ad (a7 2 (.n .i64 r1) true) (o 1 []))),.J (o 2 [])];
  have aO:=((.e2 (Mm r1 h2) (aK.n .i64 r1)):cd _);
  .ite (fun ag =>
  .ret (aU (t1.append [.ah true,.J (o 1 [])]) (aO.az (.e1 ag))))
  (fun ag =>
  .au fun bb aE =>
  (let t3:List bE:=t1.append [.ah false,.J (o 2 (ad (a7 2 (.n .i64 bb) true) (o 1 []))),.J (o 2 [])];
  have d4:=aO.az (.bp ag (Gl bb aE) (aK.n .i64 bb));
  .ite (fun aQ =>
  .ret (aU (t3.append [.ah true,.J (o 1 [])]) (d4.az (.e1 aQ))))
  (fun aQ =>
  .au fun bw bL =>
  (let t5:List bE:=t3.append [.ah false,.J (o 2 (ad (a7 2 (.n .i64 bw) true) (o 1 []))),.J (o 2 [])];
  have jy:=d4.az (.bp aQ (Gl bw bL) (aK.n .i64 bw));
  .ite (fun c3 =>
  .ret (aU (t5.append [.ah true,.J (o 1 [])]) (jy.az (.e1 c3))))
  (fun c3 =>
  .au fun aA fi =>
  .au fun ay ex =>
  .au fun aC gN =>
  .bn fun gY =>
  .bn fun hq =>
  .au fun fO ks =>
  .au fun iz fM =>
  (let t7:List bE:=t5.append [.ah false,.J (o 1 (ad (.call {aB:=[],bN:=[],ac:=[ii],r:= .agg [.aN 0 0 0 aA.1.length,.aN 0 1 0 aA.2.length],cg:=[[ab.mk 4 (aA.1.map aG) .live,ab.mk 3 (aA.2.map aZ) .live]],cC:= .bo (.agg [.id,.id]),cQ:=[.dO [ab.mk 4 (aA.1.map aG) .live,ab.mk 3 (aA.2.map aZ) .live]],b6:=[],b5:=true}) (o 1 (ad (.call {aB:=[],bN:=[],ac:=[ii],r:= .aN 0 0 0 ay.1.length,cg:=[(ab.mk 3 (ay.1.map (aw 0 1)) .live::(ay.2.map (bq .live 1 I)))],cC:=ii,cQ:=[.dO (ab.mk 3 (ay.1.map (aw 24 1)) .live::(ay.2.map (bq .live 1 I)))],b6:=[],b5:=true}) (o 1 (ad (.call {aB:=[],bN:=[],ac:=[ii],r:= .aN 0 0 0 aC.1.length,cg:=[(ab.mk 3 (aC.1.map (aw 0 1)) .live::(aC.2.map (bq .live 1 I)))],cC:=ii,cQ:=[.dO (ab.mk 3 (aC.1.map (aw 26 1)) .live::(aC.2.map (bq .live 1 I)))],b6:=[],b5:=true}) (ad (.nR 22 (.nR 26 (.nR 24 (.call {ac:=[.bo (.agg [.cL (aA.1.map aG),.cL (aA.2.map aZ)]),.bo (.bX (.view 24 (ab.mk 3 (ay.1.map (aw 24 1)) .fx) ((ay.1.map (dc ay.2)).map eTRat))),.bo (.bX (.view 26 (ab.mk 3 (aC.1.map (aw 26 1)) .fx) ((aC.1.map (dc aC.2)).map eTRat)))],r:= .cz [.agg [.b fO.1.bm.bM,.isl 1 (fO.1.bm.a9.map I),.isl 1 (fO.1.bO.map I)],.b fO.2],b5:=false,b6:=[22,24,26]})))) (o 6 [])))))))),.J (o 1 (ad (.call {aB:=[],bN:=[],ac:=[ii],r:= .agg [.aN 0 0 0 aA.1.length,.aN 0 1 0 aA.2.length],cg:=[[ab.mk 4 (aA.1.map aG) .live,ab.mk 3 (aA.2.map aZ) .live]],cC:= .bo (.agg [.id,.id]),cQ:=[.dO [ab.mk 4 (aA.1.map aG) .live,ab.mk 3 (aA.2.map aZ) .live]],b6:=[],b5:=true}) (o 2 []))),.J (o 1 (ad (.call {aB:=[],bN:=[],ac:=[ii],r:= .aN 0 0 0 ay.1.length,cg:=[(ab.mk 3 (ay.1.map (aw 0 1)) .live::(ay.2.map (bq .live 1 I)))],cC:=ii,cQ:=[.dO (ab.mk 3 (ay.1.map (aw 39 1)) .live::(ay.2.map (bq .live 1 I)))],b6:=[],b5:=true}) (o 1 []))),.J (o 1 (ad (.call {aB:=[],bN:=[],ac:=[ii],r:= .aN 0 0 0 aC.1.length,cg:=[(ab.mk 3 (aC.1.map (aw 0 1)) .live::(aC.2.map (bq .live 1 I)))],cC:=ii,cQ:=[.dO (ab.mk 3 (aC.1.map (aw 42 1)) .live::(aC.2.map (bq .live 1 I)))],b6:=[],b5:=true}) (o 1 [])))];
  have jW:=jy.az (.bh c3 (df (dh (aW:=(cj [.row 22])) 4 .live aG (aD aG aA.1) (fun x=>(dg mU) x)) (df (dh (aW:=(cj [.row 22])) 3 .live aZ (aD aZ aA.2) (fun x=>(dg mQ) x)) (jo (aW:=(cj [.row 22]))))) ((er rfl (er rfl kW)):eF [ab.mk 4 (aA.1.map aG) .live,ab.mk 3 (aA.2.map aZ) .live]) (nu aA fi) (aK.agg (cG (aK.aN 0 0 0 aA.1.length) (cG (aK.aN 0 1 0 aA.2.length) fH))) ((e3 (d6 (dW mV) (d6 (dW mR) gJ)) e4):eL [[ab.mk 4 (aA.1.map aG) .live,ab.mk 3 (aA.2.map aZ) .live]]) (df (dh (aW:=(cj [.row 24])) 3 .live (aw 24 1) (aD (aw 0 1) ay.1) (fun x=>(fr (rfl:(cj [.row 24]) 0=some 24)) x)) (fs (aW:=(cj [.row 24])) (cA .live 1 I ay.2) (fun x=>(dg ev) x))) ((er rfl (gr (cA .live 1 I ay.2))):eF (ab.mk 3 (ay.1.map (aw 0 1)) .live::(ay.2.map (bq .live 1 I)))) (.bh (jl ay ex) (aK.aN 0 0 0 ay.1.length) ((e3 (d6 (dW (jm _ _)) (jn fu)) e4):eL [(ab.mk 3 (ay.1.map (aw 0 1)) .live::(ay.2.map (bq .live 1 I)))]) (df (dh (aW:=(cj [.row 26])) 3 .live (aw 26 1) (aD (aw 0 1) aC.1) (fun x=>(fr (rfl:(cj [.row 26]) 0=some 26)) x)) (fs (aW:=(cj [.row 26])) (cA .live 1 I aC.2) (fun x=>(dg ev) x))) ((er rfl (gr (cA .live 1 I aC.2))):eF (ab.mk 3 (aC.1.map (aw 0 1)) .live::(aC.2.map (bq .live 1 I)))) (jl aC gN) (aK.aN 0 0 0 aC.1.length) ((e3 (d6 (dW (jm _ _)) (jn fu)) e4):eL [(ab.mk 3 (aC.1.map (aw 0 1)) .live::(aC.2.map (bq .live 1 I)))]) (.bh (dv (aD aG aA.1) (ba aA.1)) (cq (aD aG aA.1) (ba aA.1)) (cn gl aA.1) (dv (aD aZ aA.2) (ba aA.2)) (cq (aD aZ aA.2) (ba aA.2)) (cn gk aA.2) (rfl:ca (some (ab.mk 3 (ay.1.map (aw 24 1)) .fx::(ic (ay.2.map (bq .live 1 I))))) 0=some (ab.mk 3 (ay.1.map (aw 24 1)) .fx)) (rfl:_=true) (.bh (cq (aD (aw 24 1) ay.1) (ba ay.1)) (cn hx (ay.1.map (dc ay.2))) (hK (b4:=24) (fh:=[ab.mk 3 (ay.1.map (aw 24 1)) .fx]++(ic (ay.2.map (bq .live 1 I)))) (bs:=lR) (sz:=3) (g:=eTRat) (aD (aw 24 1) ay.1) (fun _=>rfl) (fun x af=>(hI (b4:=24) (c:=1) (bs:=lR) (f7:=[ab.mk 3 (ay.1.map (aw 24 1)) .fx]) (IW (cA .live 1 I ay.2)) rfl Kz rfl (hL gY x af))) (ba ay.1)) (rfl:ca (some (ab.mk 3 (aC.1.map (aw 26 1)) .fx::(ic (aC.2.map (bq .live 1 I))))) 0=some (ab.mk 3 (aC.1.map (aw 26 1)) .fx)) (rfl:_=true) (cq (aD (aw 26 1) aC.1) (ba aC.1)) (cn hx (aC.1.map (dc aC.2))) (hK (b4:=26) (fh:=[ab.mk 3 (aC.1.map (aw 26 1)) .fx]++(ic (aC.2.map (bq .live 1 I)))) (bs:=lR) (sz:=3) (g:=eTRat) (aD (aw 26 1) aC.1) (fun _=>rfl) (fun x af=>(hI (b4:=26) (c:=1) (bs:=lR) (f7:=[ab.mk 3 (aC.1.map (aw 26 1)) .fx]) (IW (cA .live 1 I aC.2)) rfl Kz rfl (hL hq x af))) (ba aC.1)) (.bh (Ng fO ks) (df (dh (aW:=(cj [.row 35])) 4 .live aG (aD aG aA.1) (fun x=>(dg mU) x)) (df (dh (aW:=(cj [.row 35])) 3 .live aZ (aD aZ aA.2) (fun x=>(dg mQ) x)) (jo (aW:=(cj [.row 35]))))) ((er rfl (er rfl kW)):eF [ab.mk 4 (aA.1.map aG) .live,ab.mk 3 (aA.2.map aZ) .live]) (nu aA fi) (aK.agg (cG (aK.aN 0 0 0 aA.1.length) (cG (aK.aN 0 1 0 aA.2.length) fH))) ((e3 (d6 (dW mV) (d6 (dW mR) gJ)) e4):eL [[ab.mk 4 (aA.1.map aG) .live,ab.mk 3 (aA.2.map aZ) .live]]) (df (dh (aW:=(cj [.row 39])) 3 .live (aw 39 1) (aD (aw 0 1) ay.1) (fun x=>(fr (rfl:(cj [.row 39]) 0=some 39)) x)) (fs (aW:=(cj [.row 39])) (cA .live 1 I ay.2) (fun x=>(dg ev) x))) ((er rfl (gr (cA .live 1 I ay.2))):eF (ab.mk 3 (ay.1.map (aw 0 1)) .live::(ay.2.map (bq .live 1 I)))) (.bh (jl ay ex) (aK.aN 0 0 0 ay.1.length) ((e3 (d6 (dW (jm _ _)) (jn fu)) e4):eL [(ab.mk 3 (ay.1.map (aw 0 1)) .live::(ay.2.map (bq .live 1 I)))]) (df (dh (aW:=(cj [.row 42])) 3 .live (aw 42 1) (aD (aw 0 1) aC.1) (fun x=>(fr (rfl:(cj [.row 42]) 0=some 42)) x)) (fs (aW:=(cj [.row 42])) (cA .live 1 I aC.2) (fun x=>(dg ev) x))) ((er rfl (gr (cA .live 1 I aC.2))):eF (ab.mk 3 (aC.1.map (aw 0 1)) .live::(aC.2.map (bq .live 1 I)))) (jl aC gN) (aK.aN 0 0 0 aC.1.length) ((e3 (d6 (dW (jm _ _)) (jn fu)) e4):eL [(ab.mk 3 (aC.1.map (aw 0 1)) .live::(aC.2.map (bq .live 1 I)))]) (.bh (dv (aD aG aA.1) (ba aA.1)) (cq (aD aG aA.1) (ba aA.1)) (cn gl aA.1) (dv (aD aZ aA.2) (ba aA.2)) (cq (aD aZ aA.2) (ba aA.2)) (cn gk aA.2) (rfl:ca (some (ab.mk 3 (ay.1.map (aw 39 1)) .live::(ay.2.map (bq .live 1 I)))) 0=some (ab.mk 3 (ay.1.map (aw 39 1)) .live)) (rfl:_=true) (.gz (cq (aD (aw 39 1) ay.1) (ba ay.1)) (cn hx (ay.1.map (dc ay.2))) (hK (b4:=39) (fh:=[ab.mk 3 (ay.1.map (aw 39 1)) .live]++(ay.2.map (bq .live 1 I))) (bs:=el) (sz:=3) (g:=eTRat) (aD (aw 39 1) ay.1) (fun _=>rfl) (fun x af=>(hI (b4:=39) (c:=1) (bs:=el) (f7:=[ab.mk 3 (ay.1.map (aw 39 1)) .live]) (cA .live 1 I ay.2) rfl hF rfl (hL gY x af))) (ba ay.1)) (rfl:ca (some (ab.mk 3 (aC.1.map (aw 42 1)) .live::(aC.2.map (bq .live 1 I)))) 0=some (ab.mk 3 (aC.1.map (aw 42 1)) .live)) (rfl:_=true) (cq (aD (aw 42 1) aC.1) (ba aC.1)) (cn hx (aC.1.map (dc aC.2))) (hK (b4:=42) (fh:=[ab.mk 3 (aC.1.map (aw 42 1)) .live]++(aC.2.map (bq .live 1 I))) (bs:=el) (sz:=3) (g:=eTRat) (aD (aw 42 1) aC.1) (fun _=>rfl) (fun x af=>(hI (b4:=42) (c:=1) (bs:=el) (f7:=[ab.mk 3 (aC.1.map (aw 42 1)) .live]) (cA .live 1 I aC.2) rfl hF rfl (hL hq x af))) (ba aC.1))))))))));
  (by
  rcases iz with bl|bl|bl|bl
  ·exact (.au fun fj lj =>
  (let t9:List bE:=t7.append [.J (o 3 (ad (.call {aB:=[],bN:=[],ac:=[.bo (.agg [.cL (aA.1.map aG),.cL (aA.2.map aZ)]),.bo (.bX (.view 39 (ab.mk 3 (ay.1.map (aw 39 1)) .live) ((ay.1.map (dc ay.2)).map eTRat))),.bo (.bX (.view 42 (ab.mk 3 (aC.1.map (aw 42 1)) .live) ((aC.1.map (dc aC.2)).map eTRat)))],r:= .cz [.agg [.b bl.1,.isl 1 (([]:List Int).map I),.isl 1 (([]:List Int).map I)],.b bl.2],cg:=[],cC:=ii,cQ:=[],b6:=[35,39,42],b5:=true}) (o 6 [])))];
  have nf:=jW.az (.cp (oz (.inl bl) fM) (lx (cG (aK.agg (cG (aK.b bl.1) (cG (aK.fk _:aK (.isl 1 (([]:List Int).map I))) (cG (aK.fk _:aK (.isl 1 (([]:List Int).map I))) fH)))) (cG (aK.b bl.2) fH))) (lI fj lj) (aK.b fj));
  .ite (fun dK =>
  (let t11:List bE:=t9.append [.J (o 2 (ad (a7 2 (.b fj) true) (o 5 (ad (.ah false) []))))];
  have ng:=nf.az (.cp (bK dK) (bK dK) (bK dK) (bK dK));
  .ite (fun iS =>
  .au fun iP qV =>
  (let t13:List bE:=t11.append [.ah false,.J (o 2 (ad (.call {aB:=[],bN:=[],ac:=[ii],r:= .agg [.aN 0 0 0 aA.1.length,.aN 0 1 0 aA.2.length],cg:=[[ab.mk 4 (aA.1.map aG) .live,ab.mk 3 (aA.2.map aZ) .live]],cC:= .bo (.agg [.id,.id]),cQ:=[.dO [ab.mk 4 (aA.1.map aG) .live,ab.mk 3 (aA.2.map aZ) .live]],b6:=[],b5:=true}) (ad (.call {ac:=[.bo (.agg [.cL (aA.1.map aG),.cL (aA.2.map aZ)]),.bo (.agg [.cL (aA.1.map aG),.cL (aA.2.map aZ)])],r:= .b iP,b5:=true,b6:=[35,65]}) (o 1 []))))];
  have nh:=ng.az (.bh (bK iS) (df (dh (aW:=(cj [.row 65])) 4 .live aG (aD aG aA.1) (fun x=>(dg mU) x)) (df (dh (aW:=(cj [.row 65])) 3 .live aZ (aD aZ aA.2) (fun x=>(dg mQ) x)) (jo (aW:=(cj [.row 65]))))) ((er rfl (er rfl kW)):eF [ab.mk 4 (aA.1.map aG) .live,ab.mk 3 (aA.2.map aZ) .live]) (nu aA fi) (aK.agg (cG (aK.aN 0 0 0 aA.1.length) (cG (aK.aN 0 1 0 aA.2.length) fH))) ((e3 (d6 (dW mV) (d6 (dW mR) gJ)) e4):eL [[ab.mk 4 (aA.1.map aG) .live,ab.mk 3 (aA.2.map aZ) .live]]) (dv (aD aG aA.1) (ba aA.1)) (cq (aD aG aA.1) (ba aA.1)) (.bh (cn gl aA.1) (dv (aD aZ aA.2) (ba aA.2)) (cq (aD aZ aA.2) (ba aA.2)) (cn gk aA.2) (dv (aD aG aA.1) (ba aA.1)) (cq (aD aG aA.1) (ba aA.1)) (cn gl aA.1) (dv (aD aZ aA.2) (ba aA.2)) (.cp (cq (aD aZ aA.2) (ba aA.2)) (cn gk aA.2) (xo iP qV) (aK.b iP))));
  .ite (fun ku =>
  .au fun iQ qW =>
  (let t15:List bE:=t13.append [.ah false,.J (o 2 (ad (.call {aB:=[],bN:=[],ac:=[ii],r:= .aN 0 0 0 ay.1.length,cg:=[(ab.mk 3 (ay.1.map (aw 0 1)) .live::(ay.2.map (bq .live 1 I)))],cC:=ii,cQ:=[.dO (ab.mk 3 (ay.1.map (aw 70 1)) .live::(ay.2.map (bq .live 1 I)))],b6:=[],b5:=true}) (ad (.call {ac:=[.bo (.bX (.view 39 (ab.mk 3 (ay.1.map (aw 39 1)) .live) ((ay.1.map (dc ay.2)).map eTRat))),.bo (.bX (.view 70 (ab.mk 3 (ay.1.map (aw 70 1)) .live) ((ay.1.map (dc ay.2)).map eTRat)))],r:= .b iQ,b5:=true,b6:=[39,70]}) (o 1 []))))];
  have ni:=nh.az (.bh (bK ku) (df (dh (aW:=(cj [.row 70])) 3 .live (aw 70 1) (aD (aw 0 1) ay.1) (fun x=>(fr (rfl:(cj [.row 70]) 0=some 70)) x)) (fs (aW:=(cj [.row 70])) (cA .live 1 I ay.2) (fun x=>(dg ev) x))) ((er rfl (gr (cA .live 1 I ay.2))):eF (ab.mk 3 (ay.1.map (aw 0 1)) .live::(ay.2.map (bq .live 1 I)))) (jl ay ex) (aK.aN 0 0 0 ay.1.length) ((e3 (d6 (dW (jm _ _)) (jn fu)) e4):eL [(ab.mk 3 (ay.1.map (aw 0 1)) .live::(ay.2.map (bq .live 1 I)))]) (rfl:ca (some (ab.mk 3 (ay.1.map (aw 39 1)) .live::(ay.2.map (bq .live 1 I)))) 0=some (ab.mk 3 (ay.1.map (aw 39 1)) .live)) (rfl:_=true) (.bh (cq (aD (aw 39 1) ay.1) (ba ay.1)) (cn hx (ay.1.map (dc ay.2))) (hK (b4:=39) (fh:=[ab.mk 3 (ay.1.map (aw 39 1)) .live]++(ay.2.map (bq .live 1 I))) (bs:=el) (sz:=3) (g:=eTRat) (aD (aw 39 1) ay.1) (fun _=>rfl) (fun x af=>(hI (b4:=39) (c:=1) (bs:=el) (f7:=[ab.mk 3 (ay.1.map (aw 39 1)) .live]) (cA .live 1 I ay.2) rfl hF rfl (hL gY x af))) (ba ay.1)) (rfl:ca (some (ab.mk 3 (ay.1.map (aw 70 1)) .live::(ay.2.map (bq .live 1 I)))) 0=some (ab.mk 3 (ay.1.map (aw 70 1)) .live)) (rfl:_=true) (cq (aD (aw 70 1) ay.1) (ba ay.1)) (cn hx (ay.1.map (dc ay.2))) (hK (b4:=70) (fh:=[ab.mk 3 (ay.1.map (aw 70 1)) .live]++(ay.2.map (bq .live 1 I))) (bs:=el) (sz:=3) (g:=eTRat) (aD (aw 70 1) ay.1) (fun _=>rfl) (fun x af=>(hI (b4:=70) (c:=1) (bs:=el) (f7:=[ab.mk 3 (ay.1.map (aw 70 1)) .live]) (cA .live 1 I ay.2) rfl hF rfl (hL gY x af))) (ba ay.1)) (.e2 (oF iQ qW) (aK.b iQ))));
  .ite (fun lk =>
  .au fun iR qX =>
  (let t17:List bE:=t15.append [.ah false,.J (o 2 (ad (.call {aB:=[],bN:=[],ac:=[ii],r:= .aN 0 0 0 aC.1.length,cg:=[(ab.mk 3 (aC.1.map (aw 0 1)) .live::(aC.2.map (bq .live 1 I)))],cC:=ii,cQ:=[.dO (ab.mk 3 (aC.1.map (aw 75 1)) .live::(aC.2.map (bq .live 1 I)))],b6:=[],b5:=true}) (ad (.call {ac:=[.bo (.bX (.view 42 (ab.mk 3 (aC.1.map (aw 42 1)) .live) ((aC.1.map (dc aC.2)).map eTRat))),.bo (.bX (.view 75 (ab.mk 3 (aC.1.map (aw 75 1)) .live) ((aC.1.map (dc aC.2)).map eTRat)))],r:= .b iR,b5:=true,b6:=[42,75]}) (o 1 []))))];
  have nj:=ni.az (.bh (bK lk) (df (dh (aW:=(cj [.row 75])) 3 .live (aw 75 1) (aD (aw 0 1) aC.1) (fun x=>(fr (rfl:(cj [.row 75]) 0=some 75)) x)) (fs (aW:=(cj [.row 75])) (cA .live 1 I aC.2) (fun x=>(dg ev) x))) ((er rfl (gr (cA .live 1 I aC.2))):eF (ab.mk 3 (aC.1.map (aw 0 1)) .live::(aC.2.map (bq .live 1 I)))) (jl aC gN) (aK.aN 0 0 0 aC.1.length) ((e3 (d6 (dW (jm _ _)) (jn fu)) e4):eL [(ab.mk 3 (aC.1.map (aw 0 1)) .live::(aC.2.map (bq .live 1 I)))]) (rfl:ca (some (ab.mk 3 (aC.1.map (aw 42 1)) .live::(aC.2.map (bq .live 1 I)))) 0=some (ab.mk 3 (aC.1.map (aw 42 1)) .live)) (rfl:_=true) (.bh (cq (aD (aw 42 1) aC.1) (ba aC.1)) (cn hx (aC.1.map (dc aC.2))) (hK (b4:=42) (fh:=[ab.mk 3 (aC.1.map (aw 42 1)) .live]++(aC.2.map (bq .live 1 I))) (bs:=el) (sz:=3) (g:=eTRat) (aD (aw 42 1) aC.1) (fun _=>rfl) (fun x af=>(hI (b4:=42) (c:=1) (bs:=el) (f7:=[ab.mk 3 (aC.1.map (aw 42 1)) .live]) (cA .live 1 I aC.2) rfl hF rfl (hL hq x af))) (ba aC.1)) (rfl:ca (some (ab.mk 3 (aC.1.map (aw 75 1)) .live::(aC.2.map (bq .live 1 I)))) 0=some (ab.mk 3 (aC.1.map (aw 75 1)) .live)) (rfl:_=true) (cq (aD (aw 75 1) aC.1) (ba aC.1)) (cn hx (aC.1.map (dc aC.2))) (hK (b4:=75) (fh:=[ab.mk 3 (aC.1.map (aw 75 1)) .live]++(aC.2.map (bq .live 1 I))) (bs:=el) (sz:=3) (g:=eTRat) (aD (aw 75 1) aC.1) (fun _=>rfl) (fun x af=>(hI (b4:=75) (c:=1) (bs:=el) (f7:=[ab.mk 3 (aC.1.map (aw 75 1)) .live]) (cA .live 1 I aC.2) rfl hF rfl (hL hq x af))) (ba aC.1)) (.e2 (oF iR qX) (aK.b iR))));
  .ite (fun ll =>
  .au fun gG qY =>
  .au fun eW qZ =>
  .au fun eX q3 =>
  (let t19:List bE:=t17.append [.ah false,.J (o 1 []),.J (o 2 (ad (.call {aB:=[.aq 35 0 (ab.mk 4 (aA.1.map aG) .live),.aq 35 1 (ab.mk 3 (aA.2.map aZ) .live)],bN:=[.pure,.pure],ac:=[.bo (.agg [.at_ 0 0 aA.1.length,.at_ 1 0 aA.2.length]),ii],r:= .n .i64 gG.1,cg:=[[ab.mk 4 (gG.2.1.map aG) .live],[ab.mk 3 (gG.2.2.map aZ) .live]],cC:=ii,cQ:=[.pure,.pure],b6:=[35],b5:=false}) (o 1 []))),.J (o 2 (ad (.call {aB:=[.row 39],bN:=[.dO (ab.mk 3 (ay.1.map (aw 0 1)) .live::(ay.2.map (bq .live 1 I)))],ac:=[ii,ii],r:= .n .i64 eW.1,cg:=[(ab.mk 3 (eW.2.1.map (aw 0 1)) .live::(eW.2.2.map (bq .live 1 I)))],cC:=ii,cQ:=[.dO (ab.mk 3 (eW.2.1.map (aw 39 1)) .live::(eW.2.2.map (bq .live 1 I)))],b6:=[39],b5:=false}) (o 1 []))),.J (o 2 (ad (.call {aB:=[.row 42],bN:=[.dO (ab.mk 3 (aC.1.map (aw 0 1)) .live::(aC.2.map (bq .live 1 I)))],ac:=[ii,ii],r:= .n .i64 eX.1,cg:=[(ab.mk 3 (eX.2.1.map (aw 0 1)) .live::(eX.2.2.map (bq .live 1 I)))],cC:=ii,cQ:=[.dO (ab.mk 3 (eX.2.1.map (aw 42 1)) .live::(eX.2.2.map (bq .live 1 I)))],b6:=[42],b5:=false}) (o 1 [])))];
  have nk:=nj.az (.bh (bK ll) (by decide:0≠1) (rfl:gX [.aq 35 0 (ab.mk 4 (aA.1.map aG) .live),.aq 35 1 (ab.mk 3 (aA.2.map aZ) .live)] 0 0=some (35,0)) (rfl:aA.1.length=aA.1.length) (rfl:gX [.aq 35 0 (ab.mk 4 (aA.1.map aG) .live),.aq 35 1 (ab.mk 3 (aA.2.map aZ) .live)] 1 0=some (35,1)) (rfl:aA.2.length=aA.2.length) (rfl:ca (some [ab.mk 4 (aA.1.map aG) .live,ab.mk 3 (aA.2.map aZ) .live]) 0=some (ab.mk 4 (aA.1.map aG) .live)) (ec 4 gl aA.1) (.bh (rfl:ca (some [ab.mk 4 (aA.1.map aG) .live,ab.mk 3 (aA.2.map aZ) .live]) 1=some (ab.mk 3 (aA.2.map aZ) .live)) (ec 3 gk aA.2) (ec 4 gl gG.2.1) (ec 3 gk gG.2.2) (xj gG qY) (df (dh (aW:=(gh 0 [.row 39])) 3 .live (aw 0 1) (aD (aw 39 1) ay.1) (fun x=>(fr (rfl:(gh 0 [.row 39]) 39=some 0)) x)) (fs (aW:=(gh 0 [.row 39])) (cA .live 1 I ay.2) (fun x=>(dg ev) x))) ((er rfl (gr (cA .live 1 I ay.2))):eF (ab.mk 3 (ay.1.map (aw 39 1)) .live::(ay.2.map (bq .live 1 I)))) (df (dh (aW:=(cj [.row 39])) 3 .live (aw 39 1) (aD (aw 0 1) eW.2.1) (fun x=>(fr (rfl:(cj [.row 39]) 0=some 39)) x)) (fs (aW:=(cj [.row 39])) (cA .live 1 I eW.2.2) (fun x=>(dg ev) x))) (.dP ((er rfl (gr (cA .live 1 I eW.2.2))):eF (ab.mk 3 (eW.2.1.map (aw 0 1)) .live::(eW.2.2.map (bq .live 1 I)))) (oA eW qZ) (df (dh (aW:=(gh 0 [.row 42])) 3 .live (aw 0 1) (aD (aw 42 1) aC.1) (fun x=>(fr (rfl:(gh 0 [.row 42]) 42=some 0)) x)) (fs (aW:=(gh 0 [.row 42])) (cA .live 1 I aC.2) (fun x=>(dg ev) x))) ((er rfl (gr (cA .live 1 I aC.2))):eF (ab.mk 3 (aC.1.map (aw 42 1)) .live::(aC.2.map (bq .live 1 I)))) (df (dh (aW:=(cj [.row 42])) 3 .live (aw 42 1) (aD (aw 0 1) eX.2.1) (fun x=>(fr (rfl:(cj [.row 42]) 0=some 42)) x)) (fs (aW:=(cj [.row 42])) (cA .live 1 I eX.2.2) (fun x=>(dg ev) x))) ((er rfl (gr (cA .live 1 I eX.2.2))):eF (ab.mk 3 (eX.2.1.map (aw 0 1)) .live::(eX.2.2.map (bq .live 1 I)))) (oA eX q3))));
  .ite (fun fz =>
  .ret (aU (t19.append [.J (o 3 (ch 4 (ad (.ah true) (o 1 (ch 3 (o 1 [])))))),.ah true,.J (o 1 [])]) (nk.az (.bh fz fz fz fz fz bG bG bG (.e1 bG)))))
  (fun fz =>
  .au fun en q4 =>
  .au fun ol wK =>
  (let t21:List bE:=t19.append [.J (o 5 (ad (a7 2 (.b fj) true) (o 1 (ad (.ah false) (o 4 (ad (.ah false) [])))))),.ah false,.J (o 1 []),.J (o 2 (ad (.call {aB:=[],bN:=[],ac:=[.bo (.agg [.id,.id,.id]),ii],r:= .n .i64 en,cg:=[],cC:=ii,cQ:=[],b6:=[],b5:=false}) (o 1 []))),.J (o 1 []),.J (o 2 (ad (a7 2 (.n .i64 ol) true) (o 1 []))),.J (o 2 [])];
  have lm:=nk.az (.bh fz fz fz (lI fj lj) (aK.b fj) fz fz (bK dK) (.dP (bK dK) (bK dK) (bK dK) (bK iS) (M0 en q4) (oE ol wK) (aK.n .i64 ol)));
  .ite (fun lh =>
  .ret (aU (t21.append [.ah true,.J (o 1 [])]) (lm.az (.e1 lh))))
  (fun lh =>
  .ite (fun jR =>
  .ret (aU (t21.append [.ah false,.J (o 3 []),.ah true,.J (o 1 [])]) (lm.az (.e2 lh jR))))
  (fun jR =>
  .ret (aU (t21.append [.ah false,.J (o 3 []),.ah false,.J (o 1 (ad (.call {aB:=[],bN:=[],ac:=[ii],r:= .agg [.aN 0 0 0 aA.1.length,.aN 0 1 0 aA.2.length],cg:=[[ab.mk 4 (aA.1.map aG) .live,ab.mk 3 (aA.2.map aZ) .live]],cC:= .bo (.agg [.id,.id]),cQ:=[.dO [ab.mk 4 (aA.1.map aG) .live,ab.mk 3 (aA.2.map aZ) .live]],b6:=[],b5:=true}) (o 1 (ad (.call {aB:=[],bN:=[],ac:=[ii],r:= .aN 0 0 0 ay.1.length,cg:=[(ab.mk 3 (ay.1.map (aw 0 1)) .live::(ay.2.map (bq .live 1 I)))],cC:=ii,cQ:=[.dO (ab.mk 3 (ay.1.map (aw 122 1)) .live::(ay.2.map (bq .live 1 I)))],b6:=[],b5:=true}) (o 1 (ad (.call {aB:=[],bN:=[],ac:=[ii],r:= .aN 0 0 0 aC.1.length,cg:=[(ab.mk 3 (aC.1.map (aw 0 1)) .live::(aC.2.map (bq .live 1 I)))],cC:=ii,cQ:=[.dO (ab.mk 3 (aC.1.map (aw 124 1)) .live::(aC.2.map (bq .live 1 I)))],b6:=[],b5:=true}) (ad (.call {aB:=[],bN:=[],ac:=[.bo (.agg [.cL (aA.1.map aG),.cL (aA.2.map aZ)]),.bo (.bX (.view 122 (ab.mk 3 (ay.1.map (aw 122 1)) .live) ((ay.1.map (dc ay.2)).map eTRat))),.bo (.bX (.view 124 (ab.mk 3 (aC.1.map (aw 124 1)) .live) ((aC.1.map (dc aC.2)).map eTRat)))],r:= .cz [.agg [.b bl.1,.isl 1 (([]:List Int).map I),.isl 1 (([]:List Int).map I)],.b bl.2],cg:=[],cC:=ii,cQ:=[],b6:=[120,122,124],b5:=true}) (o 6 [])))))))),.J (o 2 (ad (a7 2 (.b fj) true) (o 5 (ad (.ah false) [])))),.ah false,.J (o 1 []),.J (o 2 (ad (a7 2 (.n .i64 ol) true) (o 1 []))),.J (o 2 []),.ah false,.J (o 3 []),.ah false,.J (o 1 [])]) (lm.az (.bh lh jR (df (dh (aW:=(cj [.row 120])) 4 .live aG (aD aG aA.1) (fun x=>(dg mU) x)) (df (dh (aW:=(cj [.row 120])) 3 .live aZ (aD aZ aA.2) (fun x=>(dg mQ) x)) (jo (aW:=(cj [.row 120]))))) ((er rfl (er rfl kW)):eF [ab.mk 4 (aA.1.map aG) .live,ab.mk 3 (aA.2.map aZ) .live]) (nu aA fi) (aK.agg (cG (aK.aN 0 0 0 aA.1.length) (cG (aK.aN 0 1 0 aA.2.length) fH))) ((e3 (d6 (dW mV) (d6 (dW mR) gJ)) e4):eL [[ab.mk 4 (aA.1.map aG) .live,ab.mk 3 (aA.2.map aZ) .live]]) (df (dh (aW:=(cj [.row 122])) 3 .live (aw 122 1) (aD (aw 0 1) ay.1) (fun x=>(fr (rfl:(cj [.row 122]) 0=some 122)) x)) (fs (aW:=(cj [.row 122])) (cA .live 1 I ay.2) (fun x=>(dg ev) x))) (.bh ((er rfl (gr (cA .live 1 I ay.2))):eF (ab.mk 3 (ay.1.map (aw 0 1)) .live::(ay.2.map (bq .live 1 I)))) (jl ay ex) (aK.aN 0 0 0 ay.1.length) ((e3 (d6 (dW (jm _ _)) (jn fu)) e4):eL [(ab.mk 3 (ay.1.map (aw 0 1)) .live::(ay.2.map (bq .live 1 I)))]) (df (dh (aW:=(cj [.row 124])) 3 .live (aw 124 1) (aD (aw 0 1) aC.1) (fun x=>(fr (rfl:(cj [.row 124]) 0=some 124)) x)) (fs (aW:=(cj [.row 124])) (cA .live 1 I aC.2) (fun x=>(dg ev) x))) ((er rfl (gr (cA .live 1 I aC.2))):eF (ab.mk 3 (aC.1.map (aw 0 1)) .live::(aC.2.map (bq .live 1 I)))) (jl aC gN) (aK.aN 0 0 0 aC.1.length) (.bh ((e3 (d6 (dW (jm _ _)) (jn fu)) e4):eL [(ab.mk 3 (aC.1.map (aw 0 1)) .live::(aC.2.map (bq .live 1 I)))]) (dv (aD aG aA.1) (ba aA.1)) (cq (aD aG aA.1) (ba aA.1)) (cn gl aA.1) (dv (aD aZ aA.2) (ba aA.2)) (cq (aD aZ aA.2) (ba aA.2)) (cn gk aA.2) (rfl:ca (some (ab.mk 3 (ay.1.map (aw 122 1)) .live::(ay.2.map (bq .live 1 I)))) 0=some (ab.mk 3 (ay.1.map (aw 122 1)) .live)) (.bh (rfl:_=true) (cq (aD (aw 122 1) ay.1) (ba ay.1)) (cn hx (ay.1.map (dc ay.2))) (hK (b4:=122) (fh:=[ab.mk 3 (ay.1.map (aw 122 1)) .live]++(ay.2.map (bq .live 1 I))) (bs:=el) (sz:=3) (g:=eTRat) (aD (aw 122 1) ay.1) (fun _=>rfl) (fun x af=>(hI (b4:=122) (c:=1) (bs:=el) (f7:=[ab.mk 3 (ay.1.map (aw 122 1)) .live]) (cA .live 1 I ay.2) rfl hF rfl (hL gY x af))) (ba ay.1)) (rfl:ca (some (ab.mk 3 (aC.1.map (aw 124 1)) .live::(aC.2.map (bq .live 1 I)))) 0=some (ab.mk 3 (aC.1.map (aw 124 1)) .live)) (rfl:_=true) (cq (aD (aw 124 1) aC.1) (ba aC.1)) (cn hx (aC.1.map (dc aC.2))) (.bh (hK (b4:=124) (fh:=[ab.mk 3 (aC.1.map (aw 124 1)) .live]++(aC.2.map (bq .live 1 I))) (bs:=el) (sz:=3) (g:=eTRat) (aD (aw 124 1) aC.1) (fun _=>rfl) (fun x af=>(hI (b4:=124) (c:=1) (bs:=el) (f7:=[ab.mk 3 (aC.1.map (aw 124 1)) .live]) (cA .live 1 I aC.2) rfl hF rfl (hL hq x af))) (ba aC.1)) (oz (.inl bl) fM) (lx (cG (aK.agg (cG (aK.b bl.1) (cG (aK.fk _:aK (.isl 1 (([]:List Int).map I))) (cG (aK.fk _:aK (.isl 1 (([]:List Int).map I))) fH)))) (cG (aK.b bl.2) fH))) (lI fj lj) (aK.b fj) (bK dK) (bK dK) (bK dK) (.d5 (bK dK) (bK iS) (oE ol wK) (aK.n .i64 ol) lh jR))))))))))))))
  (fun ll =>
  .ret (aU (t17.append [.ah true,.J (o 1 [])]) (nj.az (.e1 (b3 ll)))))))
  (fun lk =>
  .ret (aU (t15.append [.ah true,.J (o 1 [])]) (ni.az (.e1 (b3 lk)))))))
  (fun ku =>
  .ret (aU (t13.append [.ah true,.J (o 1 [])]) (nh.az (.e1 (b3 ku)))))))
  (fun iS =>
  .ret (aU (t11.append [.ah true,.J (o 1 [])]) (ng.az (.e1 (b3 iS)))))))
  (fun dK =>
  .ret (aU (t9.append [.J (o 2 (ad (a7 2 (.b fj) true) (o 2 (ch 3 (ad (.ah true) []))))),.ah true,.J (o 1 [])]) (nf.az (.cM (b3 dK) (b3 dK) (b3 dK) (b3 dK) bG))))))
  ·exact (.au fun fj lj =>
  (let t9:List bE:=t7.append [.J (o 3 (ad (.call {aB:=[],bN:=[],ac:=[.bo (.agg [.cL (aA.1.map aG),.cL (aA.2.map aZ)]),.bo (.bX (.view 39 (ab.mk 3 (ay.1.map (aw 39 1)) .live) ((ay.1.map (dc ay.2)).map eTRat))),.bo (.bX (.view 42 (ab.mk 3 (aC.1.map (aw 42 1)) .live) ((aC.1.map (dc aC.2)).map eTRat)))],r:= .cz [.agg [.b bl.1,.isl 1 (([]:List Int).map I),.aN 0 0 0 bl.2.length],.b true],cg:=[[ab.mk 1 (bl.2.map I) .live]],cC:= .comp [.agg [.id,.id,.id],.bX .id],cQ:=[.pure],b6:=[35,39,42],b5:=true}) (o 6 [])))];
  have nf:=jW.az (.bh (ec 1 a3 bl.2) (oz (.inr (.inl bl)) fM) (lx (cG (aK.agg (cG (aK.b bl.1) (cG (aK.fk _:aK (.isl 1 (([]:List Int).map I))) (cG (aK.aN 0 0 0 bl.2.length) fH)))) (cG (aK.b true) fH))) ((e3 (d6 (dW fu) gJ) e4):eL [[ab.mk 1 (bl.2.map I) .live]]) (dv (aD I bl.2) (ba bl.2)) (cq (aD I bl.2) (ba bl.2)) (cn a3 bl.2) (lI fj lj) (.e1 (aK.b fj)));
  .ite (fun dK =>
  (let t11:List bE:=t9.append [.J (o 2 (ad (.call {ac:=[.bo (.agg [.id,.id,.cL (bl.2.map I)]),ii],r:= .b fj,b5:=true,b6:=[47]}) (o 5 (ad (.ah false) []))))];
  have ng:=nf.az (.cp (bK dK) (bK dK) (bK dK) (bK dK));
  .ite (fun iS =>
  .au fun iP qV =>
  (let t13:List bE:=t11.append [.ah false,.J (o 2 (ad (.call {aB:=[],bN:=[],ac:=[ii],r:= .agg [.aN 0 0 0 aA.1.length,.aN 0 1 0 aA.2.length],cg:=[[ab.mk 4 (aA.1.map aG) .live,ab.mk 3 (aA.2.map aZ) .live]],cC:= .bo (.agg [.id,.id]),cQ:=[.dO [ab.mk 4 (aA.1.map aG) .live,ab.mk 3 (aA.2.map aZ) .live]],b6:=[],b5:=true}) (ad (.call {ac:=[.bo (.agg [.cL (aA.1.map aG),.cL (aA.2.map aZ)]),.bo (.agg [.cL (aA.1.map aG),.cL (aA.2.map aZ)])],r:= .b iP,b5:=true,b6:=[35,65]}) (o 1 []))))];
  have nh:=ng.az (.bh (bK iS) (df (dh (aW:=(cj [.row 65])) 4 .live aG (aD aG aA.1) (fun x=>(dg mU) x)) (df (dh (aW:=(cj [.row 65])) 3 .live aZ (aD aZ aA.2) (fun x=>(dg mQ) x)) (jo (aW:=(cj [.row 65]))))) ((er rfl (er rfl kW)):eF [ab.mk 4 (aA.1.map aG) .live,ab.mk 3 (aA.2.map aZ) .live]) (nu aA fi) (aK.agg (cG (aK.aN 0 0 0 aA.1.length) (cG (aK.aN 0 1 0 aA.2.length) fH))) ((e3 (d6 (dW mV) (d6 (dW mR) gJ)) e4):eL [[ab.mk 4 (aA.1.map aG) .live,ab.mk 3 (aA.2.map aZ) .live]]) (dv (aD aG aA.1) (ba aA.1)) (cq (aD aG aA.1) (ba aA.1)) (.bh (cn gl aA.1) (dv (aD aZ aA.2) (ba aA.2)) (cq (aD aZ aA.2) (ba aA.2)) (cn gk aA.2) (dv (aD aG aA.1) (ba aA.1)) (cq (aD aG aA.1) (ba aA.1)) (cn gl aA.1) (dv (aD aZ aA.2) (ba aA.2)) (.cp (cq (aD aZ aA.2) (ba aA.2)) (cn gk aA.2) (xo iP qV) (aK.b iP))));
  .ite (fun ku =>
  .au fun iQ qW =>
  (let t15:List bE:=t13.append [.ah false,.J (o 2 (ad (.call {aB:=[],bN:=[],ac:=[ii],r:= .aN 0 0 0 ay.1.length,cg:=[(ab.mk 3 (ay.1.map (aw 0 1)) .live::(ay.2.map (bq .live 1 I)))],cC:=ii,cQ:=[.dO (ab.mk 3 (ay.1.map (aw 70 1)) .live::(ay.2.map (bq .live 1 I)))],b6:=[],b5:=true}) (ad (.call {ac:=[.bo (.bX (.view 39 (ab.mk 3 (ay.1.map (aw 39 1)) .live) ((ay.1.map (dc ay.2)).map eTRat))),.bo (.bX (.view 70 (ab.mk 3 (ay.1.map (aw 70 1)) .live) ((ay.1.map (dc ay.2)).map eTRat)))],r:= .b iQ,b5:=true,b6:=[39,70]}) (o 1 []))))];
  have ni:=nh.az (.bh (bK ku) (df (dh (aW:=(cj [.row 70])) 3 .live (aw 70 1) (aD (aw 0 1) ay.1) (fun x=>(fr (rfl:(cj [.row 70]) 0=some 70)) x)) (fs (aW:=(cj [.row 70])) (cA .live 1 I ay.2) (fun x=>(dg ev) x))) ((er rfl (gr (cA .live 1 I ay.2))):eF (ab.mk 3 (ay.1.map (aw 0 1)) .live::(ay.2.map (bq .live 1 I)))) (jl ay ex) (aK.aN 0 0 0 ay.1.length) ((e3 (d6 (dW (jm _ _)) (jn fu)) e4):eL [(ab.mk 3 (ay.1.map (aw 0 1)) .live::(ay.2.map (bq .live 1 I)))]) (rfl:ca (some (ab.mk 3 (ay.1.map (aw 39 1)) .live::(ay.2.map (bq .live 1 I)))) 0=some (ab.mk 3 (ay.1.map (aw 39 1)) .live)) (rfl:_=true) (.bh (cq (aD (aw 39 1) ay.1) (ba ay.1)) (cn hx (ay.1.map (dc ay.2))) (hK (b4:=39) (fh:=[ab.mk 3 (ay.1.map (aw 39 1)) .live]++(ay.2.map (bq .live 1 I))) (bs:=el) (sz:=3) (g:=eTRat) (aD (aw 39 1) ay.1) (fun _=>rfl) (fun x af=>(hI (b4:=39) (c:=1) (bs:=el) (f7:=[ab.mk 3 (ay.1.map (aw 39 1)) .live]) (cA .live 1 I ay.2) rfl hF rfl (hL gY x af))) (ba ay.1)) (rfl:ca (some (ab.mk 3 (ay.1.map (aw 70 1)) .live::(ay.2.map (bq .live 1 I)))) 0=some (ab.mk 3 (ay.1.map (aw 70 1)) .live)) (rfl:_=true) (cq (aD (aw 70 1) ay.1) (ba ay.1)) (cn hx (ay.1.map (dc ay.2))) (hK (b4:=70) (fh:=[ab.mk 3 (ay.1.map (aw 70 1)) .live]++(ay.2.map (bq .live 1 I))) (bs:=el) (sz:=3) (g:=eTRat) (aD (aw 70 1) ay.1) (fun _=>rfl) (fun x af=>(hI (b4:=70) (c:=1) (bs:=el) (f7:=[ab.mk 3 (ay.1.map (aw 70 1)) .live]) (cA .live 1 I ay.2) rfl hF rfl (hL gY x af))) (ba ay.1)) (.e2 (oF iQ qW) (aK.b iQ))));
  .ite (fun lk =>
  .au fun iR qX =>
  (let t17:List bE:=t15.append [.ah false,.J (o 2 (ad (.call {aB:=[],bN:=[],ac:=[ii],r:= .aN 0 0 0 aC.1.length,cg:=[(ab.mk 3 (aC.1.map (aw 0 1)) .live::(aC.2.map (bq .live 1 I)))],cC:=ii,cQ:=[.dO (ab.mk 3 (aC.1.map (aw 75 1)) .live::(aC.2.map (bq .live 1 I)))],b6:=[],b5:=true}) (ad (.call {ac:=[.bo (.bX (.view 42 (ab.mk 3 (aC.1.map (aw 42 1)) .live) ((aC.1.map (dc aC.2)).map eTRat))),.bo (.bX (.view 75 (ab.mk 3 (aC.1.map (aw 75 1)) .live) ((aC.1.map (dc aC.2)).map eTRat)))],r:= .b iR,b5:=true,b6:=[42,75]}) (o 1 []))))];
  have nj:=ni.az (.bh (bK lk) (df (dh (aW:=(cj [.row 75])) 3 .live (aw 75 1) (aD (aw 0 1) aC.1) (fun x=>(fr (rfl:(cj [.row 75]) 0=some 75)) x)) (fs (aW:=(cj [.row 75])) (cA .live 1 I aC.2) (fun x=>(dg ev) x))) ((er rfl (gr (cA .live 1 I aC.2))):eF (ab.mk 3 (aC.1.map (aw 0 1)) .live::(aC.2.map (bq .live 1 I)))) (jl aC gN) (aK.aN 0 0 0 aC.1.length) ((e3 (d6 (dW (jm _ _)) (jn fu)) e4):eL [(ab.mk 3 (aC.1.map (aw 0 1)) .live::(aC.2.map (bq .live 1 I)))]) (rfl:ca (some (ab.mk 3 (aC.1.map (aw 42 1)) .live::(aC.2.map (bq .live 1 I)))) 0=some (ab.mk 3 (aC.1.map (aw 42 1)) .live)) (rfl:_=true) (.bh (cq (aD (aw 42 1) aC.1) (ba aC.1)) (cn hx (aC.1.map (dc aC.2))) (hK (b4:=42) (fh:=[ab.mk 3 (aC.1.map (aw 42 1)) .live]++(aC.2.map (bq .live 1 I))) (bs:=el) (sz:=3) (g:=eTRat) (aD (aw 42 1) aC.1) (fun _=>rfl) (fun x af=>(hI (b4:=42) (c:=1) (bs:=el) (f7:=[ab.mk 3 (aC.1.map (aw 42 1)) .live]) (cA .live 1 I aC.2) rfl hF rfl (hL hq x af))) (ba aC.1)) (rfl:ca (some (ab.mk 3 (aC.1.map (aw 75 1)) .live::(aC.2.map (bq .live 1 I)))) 0=some (ab.mk 3 (aC.1.map (aw 75 1)) .live)) (rfl:_=true) (cq (aD (aw 75 1) aC.1) (ba aC.1)) (cn hx (aC.1.map (dc aC.2))) (hK (b4:=75) (fh:=[ab.mk 3 (aC.1.map (aw 75 1)) .live]++(aC.2.map (bq .live 1 I))) (bs:=el) (sz:=3) (g:=eTRat) (aD (aw 75 1) aC.1) (fun _=>rfl) (fun x af=>(hI (b4:=75) (c:=1) (bs:=el) (f7:=[ab.mk 3 (aC.1.map (aw 75 1)) .live]) (cA .live 1 I aC.2) rfl hF rfl (hL hq x af))) (ba aC.1)) (.e2 (oF iR qX) (aK.b iR))));
  .ite (fun ll =>
  .au fun gG qY =>
  .au fun eW qZ =>
  .au fun eX q3 =>
  (let t19:List bE:=t17.append [.ah false,.J (o 1 []),.J (o 2 (ad (.call {aB:=[.aq 35 0 (ab.mk 4 (aA.1.map aG) .live),.aq 35 1 (ab.mk 3 (aA.2.map aZ) .live)],bN:=[.pure,.pure],ac:=[.bo (.agg [.at_ 0 0 aA.1.length,.at_ 1 0 aA.2.length]),ii],r:= .n .i64 gG.1,cg:=[[ab.mk 4 (gG.2.1.map aG) .live],[ab.mk 3 (gG.2.2.map aZ) .live]],cC:=ii,cQ:=[.pure,.pure],b6:=[35],b5:=false}) (o 1 []))),.J (o 2 (ad (.call {aB:=[.row 39],bN:=[.dO (ab.mk 3 (ay.1.map (aw 0 1)) .live::(ay.2.map (bq .live 1 I)))],ac:=[ii,ii],r:= .n .i64 eW.1,cg:=[(ab.mk 3 (eW.2.1.map (aw 0 1)) .live::(eW.2.2.map (bq .live 1 I)))],cC:=ii,cQ:=[.dO (ab.mk 3 (eW.2.1.map (aw 39 1)) .live::(eW.2.2.map (bq .live 1 I)))],b6:=[39],b5:=false}) (o 1 []))),.J (o 2 (ad (.call {aB:=[.row 42],bN:=[.dO (ab.mk 3 (aC.1.map (aw 0 1)) .live::(aC.2.map (bq .live 1 I)))],ac:=[ii,ii],r:= .n .i64 eX.1,cg:=[(ab.mk 3 (eX.2.1.map (aw 0 1)) .live::(eX.2.2.map (bq .live 1 I)))],cC:=ii,cQ:=[.dO (ab.mk 3 (eX.2.1.map (aw 42 1)) .live::(eX.2.2.map (bq .live 1 I)))],b6:=[42],b5:=false}) (o 1 [])))];
  have nk:=nj.az (.bh (bK ll) (by decide:0≠1) (rfl:gX [.aq 35 0 (ab.mk 4 (aA.1.map aG) .live),.aq 35 1 (ab.mk 3 (aA.2.map aZ) .live)] 0 0=some (35,0)) (rfl:aA.1.length=aA.1.length) (rfl:gX [.aq 35 0 (ab.mk 4 (aA.1.map aG) .live),.aq 35 1 (ab.mk 3 (aA.2.map aZ) .live)] 1 0=some (35,1)) (rfl:aA.2.length=aA.2.length) (rfl:ca (some [ab.mk 4 (aA.1.map aG) .live,ab.mk 3 (aA.2.map aZ) .live]) 0=some (ab.mk 4 (aA.1.map aG) .live)) (ec 4 gl aA.1) (.bh (rfl:ca (some [ab.mk 4 (aA.1.map aG) .live,ab.mk 3 (aA.2.map aZ) .live]) 1=some (ab.mk 3 (aA.2.map aZ) .live)) (ec 3 gk aA.2) (ec 4 gl gG.2.1) (ec 3 gk gG.2.2) (xj gG qY) (df (dh (aW:=(gh 0 [.row 39])) 3 .live (aw 0 1) (aD (aw 39 1) ay.1) (fun x=>(fr (rfl:(gh 0 [.row 39]) 39=some 0)) x)) (fs (aW:=(gh 0 [.row 39])) (cA .live 1 I ay.2) (fun x=>(dg ev) x))) ((er rfl (gr (cA .live 1 I ay.2))):eF (ab.mk 3 (ay.1.map (aw 39 1)) .live::(ay.2.map (bq .live 1 I)))) (df (dh (aW:=(cj [.row 39])) 3 .live (aw 39 1) (aD (aw 0 1) eW.2.1) (fun x=>(fr (rfl:(cj [.row 39]) 0=some 39)) x)) (fs (aW:=(cj [.row 39])) (cA .live 1 I eW.2.2) (fun x=>(dg ev) x))) (.dP ((er rfl (gr (cA .live 1 I eW.2.2))):eF (ab.mk 3 (eW.2.1.map (aw 0 1)) .live::(eW.2.2.map (bq .live 1 I)))) (oA eW qZ) (df (dh (aW:=(gh 0 [.row 42])) 3 .live (aw 0 1) (aD (aw 42 1) aC.1) (fun x=>(fr (rfl:(gh 0 [.row 42]) 42=some 0)) x)) (fs (aW:=(gh 0 [.row 42])) (cA .live 1 I aC.2) (fun x=>(dg ev) x))) ((er rfl (gr (cA .live 1 I aC.2))):eF (ab.mk 3 (aC.1.map (aw 42 1)) .live::(aC.2.map (bq .live 1 I)))) (df (dh (aW:=(cj [.row 42])) 3 .live (aw 42 1) (aD (aw 0 1) eX.2.1) (fun x=>(fr (rfl:(cj [.row 42]) 0=some 42)) x)) (fs (aW:=(cj [.row 42])) (cA .live 1 I eX.2.2) (fun x=>(dg ev) x))) ((er rfl (gr (cA .live 1 I eX.2.2))):eF (ab.mk 3 (eX.2.1.map (aw 0 1)) .live::(eX.2.2.map (bq .live 1 I)))) (oA eX q3))));
  .ite (fun fz =>
  .ret (aU (t19.append [.J (o 3 (ch 4 (ad (.ah true) (o 1 (ch 3 (o 1 [])))))),.ah true,.J (o 1 [])]) (nk.az (.bh fz fz fz fz fz bG bG bG (.e1 bG)))))
  (fun fz =>
  .au fun en q4 =>
  .bn fun o9 =>
  .au fun jQ lh =>
  (let t21:List bE:=t19.append [.J (o 5 (ad (.call {ac:=[.bo (.agg [.id,.id,.cL (bl.2.map I)]),ii],r:= .b fj,b5:=true,b6:=[47]}) (o 1 (ad (.ah false) (o 4 (ad (.ah false) [])))))),.ah false,.J (o 1 []),.J (o 2 (ad (.call {aB:=[.row 47],bN:=[.pure],ac:=[.bo (.agg [.id,.id,.id]),ii],r:= .n .i64 en.1,cg:=[[ab.mk 1 (en.2.map I) .live]],cC:=ii,cQ:=[.pure],b6:=[47],b5:=false}) (o 1 []))),.J (o 1 []),.J (o 2 (ad (.call {ac:=[.bo (.agg [.id,.id,.cL (((en.2.drop 0).take bl.2.length).map I)]),ii],r:= .n .i64 jQ,b5:=true,b6:=[47]}) (o 1 []))),.J (o 2 [])];
  have lm:=nk.az (.bh fz fz fz (dv (aD I bl.2) (ba bl.2)) (cq (aD I bl.2) (ba bl.2)) (cn a3 bl.2) (lI fj lj) (aK.b fj) (.bh fz fz (bK dK) (bK dK) (bK dK) (bK dK) (bK iS) (ec 1 a3 bl.2) (.dP (ec 1 a3 en.2) (ML en q4) (mX (aD I en.2) 0 bl.2.length) (lv (aD I en.2) o9) (cn a3 ((en.2.drop 0).take bl.2.length)) (oE jQ lh) (aK.n .i64 jQ))));
  .ite (fun jR =>
  .ret (aU (t21.append [.ah true,.J (o 1 [])]) (lm.az (.e1 jR))))
  (fun jR =>
  .ite (fun ln =>
  .ret (aU (t21.append [.ah false,.J (o 3 []),.ah true,.J (o 1 [])]) (lm.az (.e2 jR ln))))
  (fun ln =>
  .ret (aU (t21.append [.ah false,.J (o 3 []),.ah false,.J (o 1 (ad (.call {aB:=[],bN:=[],ac:=[ii],r:= .agg [.aN 0 0 0 aA.1.length,.aN 0 1 0 aA.2.length],cg:=[[ab.mk 4 (aA.1.map aG) .live,ab.mk 3 (aA.2.map aZ) .live]],cC:= .bo (.agg [.id,.id]),cQ:=[.dO [ab.mk 4 (aA.1.map aG) .live,ab.mk 3 (aA.2.map aZ) .live]],b6:=[],b5:=true}) (o 1 (ad (.call {aB:=[],bN:=[],ac:=[ii],r:= .aN 0 0 0 ay.1.length,cg:=[(ab.mk 3 (ay.1.map (aw 0 1)) .live::(ay.2.map (bq .live 1 I)))],cC:=ii,cQ:=[.dO (ab.mk 3 (ay.1.map (aw 122 1)) .live::(ay.2.map (bq .live 1 I)))],b6:=[],b5:=true}) (o 1 (ad (.call {aB:=[],bN:=[],ac:=[ii],r:= .aN 0 0 0 aC.1.length,cg:=[(ab.mk 3 (aC.1.map (aw 0 1)) .live::(aC.2.map (bq .live 1 I)))],cC:=ii,cQ:=[.dO (ab.mk 3 (aC.1.map (aw 124 1)) .live::(aC.2.map (bq .live 1 I)))],b6:=[],b5:=true}) (ad (.call {aB:=[],bN:=[],ac:=[.bo (.agg [.cL (aA.1.map aG),.cL (aA.2.map aZ)]),.bo (.bX (.view 122 (ab.mk 3 (ay.1.map (aw 122 1)) .live) ((ay.1.map (dc ay.2)).map eTRat))),.bo (.bX (.view 124 (ab.mk 3 (aC.1.map (aw 124 1)) .live) ((aC.1.map (dc aC.2)).map eTRat)))],r:= .cz [.agg [.b bl.1,.isl 1 (([]:List Int).map I),.aN 0 0 0 bl.2.length],.b true],cg:=[[ab.mk 1 (bl.2.map I) .live]],cC:= .comp [.agg [.id,.id,.id],.bX .id],cQ:=[.pure],b6:=[120,122,124],b5:=true}) (o 6 [])))))))),.J (o 2 (ad (.call {ac:=[.bo (.agg [.id,.id,.cL (bl.2.map I)]),ii],r:= .b fj,b5:=true,b6:=[125]}) (o 5 (ad (.ah false) [])))),.ah false,.J (o 1 []),.J (o 2 (ad (.call {ac:=[.bo (.agg [.id,.id,.cL (((en.2.drop 0).take bl.2.length).map I)]),ii],r:= .n .i64 jQ,b5:=true,b6:=[47]}) (o 1 []))),.J (o 2 []),.ah false,.J (o 3 []),.ah false,.J (o 1 [])]) (lm.az (.bh jR ln (df (dh (aW:=(cj [.row 120])) 4 .live aG (aD aG aA.1) (fun x=>(dg mU) x)) (df (dh (aW:=(cj [.row 120])) 3 .live aZ (aD aZ aA.2) (fun x=>(dg mQ) x)) (jo (aW:=(cj [.row 120]))))) ((er rfl (er rfl kW)):eF [ab.mk 4 (aA.1.map aG) .live,ab.mk 3 (aA.2.map aZ) .live]) (nu aA fi) (aK.agg (cG (aK.aN 0 0 0 aA.1.length) (cG (aK.aN 0 1 0 aA.2.length) fH))) ((e3 (d6 (dW mV) (d6 (dW mR) gJ)) e4):eL [[ab.mk 4 (aA.1.map aG) .live,ab.mk 3 (aA.2.map aZ) .live]]) (df (dh (aW:=(cj [.row 122])) 3 .live (aw 122 1) (aD (aw 0 1) ay.1) (fun x=>(fr (rfl:(cj [.row 122]) 0=some 122)) x)) (fs (aW:=(cj [.row 122])) (cA .live 1 I ay.2) (fun x=>(dg ev) x))) (.bh ((er rfl (gr (cA .live 1 I ay.2))):eF (ab.mk 3 (ay.1.map (aw 0 1)) .live::(ay.2.map (bq .live 1 I)))) (jl ay ex) (aK.aN 0 0 0 ay.1.length) ((e3 (d6 (dW (jm _ _)) (jn fu)) e4):eL [(ab.mk 3 (ay.1.map (aw 0 1)) .live::(ay.2.map (bq .live 1 I)))]) (df (dh (aW:=(cj [.row 124])) 3 .live (aw 124 1) (aD (aw 0 1) aC.1) (fun x=>(fr (rfl:(cj [.row 124]) 0=some 124)) x)) (fs (aW:=(cj [.row 124])) (cA .live 1 I aC.2) (fun x=>(dg ev) x))) ((er rfl (gr (cA .live 1 I aC.2))):eF (ab.mk 3 (aC.1.map (aw 0 1)) .live::(aC.2.map (bq .live 1 I)))) (jl aC gN) (aK.aN 0 0 0 aC.1.length) (.bh ((e3 (d6 (dW (jm _ _)) (jn fu)) e4):eL [(ab.mk 3 (aC.1.map (aw 0 1)) .live::(aC.2.map (bq .live 1 I)))]) (dv (aD aG aA.1) (ba aA.1)) (cq (aD aG aA.1) (ba aA.1)) (cn gl aA.1) (dv (aD aZ aA.2) (ba aA.2)) (cq (aD aZ aA.2) (ba aA.2)) (cn gk aA.2) (rfl:ca (some (ab.mk 3 (ay.1.map (aw 122 1)) .live::(ay.2.map (bq .live 1 I)))) 0=some (ab.mk 3 (ay.1.map (aw 122 1)) .live)) (.bh (rfl:_=true) (cq (aD (aw 122 1) ay.1) (ba ay.1)) (cn hx (ay.1.map (dc ay.2))) (hK (b4:=122) (fh:=[ab.mk 3 (ay.1.map (aw 122 1)) .live]++(ay.2.map (bq .live 1 I))) (bs:=el) (sz:=3) (g:=eTRat) (aD (aw 122 1) ay.1) (fun _=>rfl) (fun x af=>(hI (b4:=122) (c:=1) (bs:=el) (f7:=[ab.mk 3 (ay.1.map (aw 122 1)) .live]) (cA .live 1 I ay.2) rfl hF rfl (hL gY x af))) (ba ay.1)) (rfl:ca (some (ab.mk 3 (aC.1.map (aw 124 1)) .live::(aC.2.map (bq .live 1 I)))) 0=some (ab.mk 3 (aC.1.map (aw 124 1)) .live)) (rfl:_=true) (cq (aD (aw 124 1) aC.1) (ba aC.1)) (cn hx (aC.1.map (dc aC.2))) (.bh (hK (b4:=124) (fh:=[ab.mk 3 (aC.1.map (aw 124 1)) .live]++(aC.2.map (bq .live 1 I))) (bs:=el) (sz:=3) (g:=eTRat) (aD (aw 124 1) aC.1) (fun _=>rfl) (fun x af=>(hI (b4:=124) (c:=1) (bs:=el) (f7:=[ab.mk 3 (aC.1.map (aw 124 1)) .live]) (cA .live 1 I aC.2) rfl hF rfl (hL hq x af))) (ba aC.1)) (ec 1 a3 bl.2) (oz (.inr (.inl bl)) fM) (lx (cG (aK.agg (cG (aK.b bl.1) (cG (aK.fk _:aK (.isl 1 (([]:List Int).map I))) (cG (aK.aN 0 0 0 bl.2.length) fH)))) (cG (aK.b true) fH))) ((e3 (d6 (dW fu) gJ) e4):eL [[ab.mk 1 (bl.2.map I) .live]]) (dv (aD I bl.2) (ba bl.2)) (cq (aD I bl.2) (ba bl.2)) (cn a3 bl.2) (.bh (lI fj lj) (aK.b fj) (bK dK) (bK dK) (bK dK) (bK dK) (bK iS) (mX (aD I en.2) 0 bl.2.length) (.d5 (lv (aD I en.2) o9) (cn a3 ((en.2.drop 0).take bl.2.length)) (oE jQ lh) (aK.n .i64 jQ) jR ln)))))))))))))))
  (fun ll =>
  .ret (aU (t17.append [.ah true,.J (o 1 [])]) (nj.az (.e1 (b3 ll)))))))
  (fun lk =>
  .ret (aU (t15.append [.ah true,.J (o 1 [])]) (ni.az (.e1 (b3 lk)))))))
  (fun ku =>
  .ret (aU (t13.append [.ah true,.J (o 1 [])]) (nh.az (.e1 (b3 ku)))))))
  (fun iS =>
  .ret (aU (t11.append [.ah true,.J (o 1 [])]) (ng.az (.e1 (b3 iS)))))))
  (fun dK =>
  .ret (aU (t9.append [.J (o 2 (ad (.call {ac:=[.bo (.agg [.id,.id,.cL (bl.2.map I)]),ii],r:= .b fj,b5:=true,b6:=[47]}) (o 2 (ch 3 (ad (.ah true) []))))),.ah true,.J (o 1 [])]) (nf.az (.cM (b3 dK) (b3 dK) (b3 dK) (b3 dK) bG))))))
  ·exact (.au fun fj lj =>
  (let t9:List bE:=t7.append [.J (o 3 (ad (.call {aB:=[],bN:=[],ac:=[.bo (.agg [.cL (aA.1.map aG),.cL (aA.2.map aZ)]),.bo (.bX (.view 39 (ab.mk 3 (ay.1.map (aw 39 1)) .live) ((ay.1.map (dc ay.2)).map eTRat))),.bo (.bX (.view 42 (ab.mk 3 (aC.1.map (aw 42 1)) .live) ((aC.1.map (dc aC.2)).map eTRat)))],r:= .cz [.agg [.b bl.1,.aN 0 0 0 bl.2.length,.isl 1 (([]:List Int).map I)],.b true],cg:=[[ab.mk 1 (bl.2.map I) .live]],cC:= .comp [.agg [.id,.id,.id],.bX .id],cQ:=[.pure],b6:=[35,39,42],b5:=true}) (o 6 [])))];
  have nf:=jW.az (.bh (ec 1 a3 bl.2) (oz (.inr (.inr (.inl bl))) fM) (lx (cG (aK.agg (cG (aK.b bl.1) (cG (aK.aN 0 0 0 bl.2.length) (cG (aK.fk _:aK (.isl 1 (([]:List Int).map I))) fH)))) (cG (aK.b true) fH))) ((e3 (d6 (dW fu) gJ) e4):eL [[ab.mk 1 (bl.2.map I) .live]]) (dv (aD I bl.2) (ba bl.2)) (cq (aD I bl.2) (ba bl.2)) (cn a3 bl.2) (lI fj lj) (.e1 (aK.b fj)));
  .ite (fun dK =>
  (let t11:List bE:=t9.append [.J (o 2 (ad (.call {ac:=[.bo (.agg [.id,.cL (bl.2.map I),.id]),ii],r:= .b fj,b5:=true,b6:=[47]}) (o 5 (ad (.ah false) []))))];
  have ng:=nf.az (.cp (bK dK) (bK dK) (bK dK) (bK dK));
  .ite (fun iS =>
  .au fun iP qV =>
  (let t13:List bE:=t11.append [.ah false,.J (o 2 (ad (.call {aB:=[],bN:=[],ac:=[ii],r:= .agg [.aN 0 0 0 aA.1.length,.aN 0 1 0 aA.2.length],cg:=[[ab.mk 4 (aA.1.map aG) .live,ab.mk 3 (aA.2.map aZ) .live]],cC:= .bo (.agg [.id,.id]),cQ:=[.dO [ab.mk 4 (aA.1.map aG) .live,ab.mk 3 (aA.2.map aZ) .live]],b6:=[],b5:=true}) (ad (.call {ac:=[.bo (.agg [.cL (aA.1.map aG),.cL (aA.2.map aZ)]),.bo (.agg [.cL (aA.1.map aG),.cL (aA.2.map aZ)])],r:= .b iP,b5:=true,b6:=[35,65]}) (o 1 []))))];
  have nh:=ng.az (.bh (bK iS) (df (dh (aW:=(cj [.row 65])) 4 .live aG (aD aG aA.1) (fun x=>(dg mU) x)) (df (dh (aW:=(cj [.row 65])) 3 .live aZ (aD aZ aA.2) (fun x=>(dg mQ) x)) (jo (aW:=(cj [.row 65]))))) ((er rfl (er rfl kW)):eF [ab.mk 4 (aA.1.map aG) .live,ab.mk 3 (aA.2.map aZ) .live]) (nu aA fi) (aK.agg (cG (aK.aN 0 0 0 aA.1.length) (cG (aK.aN 0 1 0 aA.2.length) fH))) ((e3 (d6 (dW mV) (d6 (dW mR) gJ)) e4):eL [[ab.mk 4 (aA.1.map aG) .live,ab.mk 3 (aA.2.map aZ) .live]]) (dv (aD aG aA.1) (ba aA.1)) (cq (aD aG aA.1) (ba aA.1)) (.bh (cn gl aA.1) (dv (aD aZ aA.2) (ba aA.2)) (cq (aD aZ aA.2) (ba aA.2)) (cn gk aA.2) (dv (aD aG aA.1) (ba aA.1)) (cq (aD aG aA.1) (ba aA.1)) (cn gl aA.1) (dv (aD aZ aA.2) (ba aA.2)) (.cp (cq (aD aZ aA.2) (ba aA.2)) (cn gk aA.2) (xo iP qV) (aK.b iP))));
  .ite (fun ku =>
  .au fun iQ qW =>
  (let t15:List bE:=t13.append [.ah false,.J (o 2 (ad (.call {aB:=[],bN:=[],ac:=[ii],r:= .aN 0 0 0 ay.1.length,cg:=[(ab.mk 3 (ay.1.map (aw 0 1)) .live::(ay.2.map (bq .live 1 I)))],cC:=ii,cQ:=[.dO (ab.mk 3 (ay.1.map (aw 70 1)) .live::(ay.2.map (bq .live 1 I)))],b6:=[],b5:=true}) (ad (.call {ac:=[.bo (.bX (.view 39 (ab.mk 3 (ay.1.map (aw 39 1)) .live) ((ay.1.map (dc ay.2)).map eTRat))),.bo (.bX (.view 70 (ab.mk 3 (ay.1.map (aw 70 1)) .live) ((ay.1.map (dc ay.2)).map eTRat)))],r:= .b iQ,b5:=true,b6:=[39,70]}) (o 1 []))))];
  have ni:=nh.az (.bh (bK ku) (df (dh (aW:=(cj [.row 70])) 3 .live (aw 70 1) (aD (aw 0 1) ay.1) (fun x=>(fr (rfl:(cj [.row 70]) 0=some 70)) x)) (fs (aW:=(cj [.row 70])) (cA .live 1 I ay.2) (fun x=>(dg ev) x))) ((er rfl (gr (cA .live 1 I ay.2))):eF (ab.mk 3 (ay.1.map (aw 0 1)) .live::(ay.2.map (bq .live 1 I)))) (jl ay ex) (aK.aN 0 0 0 ay.1.length) ((e3 (d6 (dW (jm _ _)) (jn fu)) e4):eL [(ab.mk 3 (ay.1.map (aw 0 1)) .live::(ay.2.map (bq .live 1 I)))]) (rfl:ca (some (ab.mk 3 (ay.1.map (aw 39 1)) .live::(ay.2.map (bq .live 1 I)))) 0=some (ab.mk 3 (ay.1.map (aw 39 1)) .live)) (rfl:_=true) (.bh (cq (aD (aw 39 1) ay.1) (ba ay.1)) (cn hx (ay.1.map (dc ay.2))) (hK (b4:=39) (fh:=[ab.mk 3 (ay.1.map (aw 39 1)) .live]++(ay.2.map (bq .live 1 I))) (bs:=el) (sz:=3) (g:=eTRat) (aD (aw 39 1) ay.1) (fun _=>rfl) (fun x af=>(hI (b4:=39) (c:=1) (bs:=el) (f7:=[ab.mk 3 (ay.1.map (aw 39 1)) .live]) (cA .live 1 I ay.2) rfl hF rfl (hL gY x af))) (ba ay.1)) (rfl:ca (some (ab.mk 3 (ay.1.map (aw 70 1)) .live::(ay.2.map (bq .live 1 I)))) 0=some (ab.mk 3 (ay.1.map (aw 70 1)) .live)) (rfl:_=true) (cq (aD (aw 70 1) ay.1) (ba ay.1)) (cn hx (ay.1.map (dc ay.2))) (hK (b4:=70) (fh:=[ab.mk 3 (ay.1.map (aw 70 1)) .live]++(ay.2.map (bq .live 1 I))) (bs:=el) (sz:=3) (g:=eTRat) (aD (aw 70 1) ay.1) (fun _=>rfl) (fun x af=>(hI (b4:=70) (c:=1) (bs:=el) (f7:=[ab.mk 3 (ay.1.map (aw 70 1)) .live]) (cA .live 1 I ay.2) rfl hF rfl (hL gY x af))) (ba ay.1)) (.e2 (oF iQ qW) (aK.b iQ))));
  .ite (fun lk =>
  .au fun iR qX =>
  (let t17:List bE:=t15.append [.ah false,.J (o 2 (ad (.call {aB:=[],bN:=[],ac:=[ii],r:= .aN 0 0 0 aC.1.length,cg:=[(ab.mk 3 (aC.1.map (aw 0 1)) .live::(aC.2.map (bq .live 1 I)))],cC:=ii,cQ:=[.dO (ab.mk 3 (aC.1.map (aw 75 1)) .live::(aC.2.map (bq .live 1 I)))],b6:=[],b5:=true}) (ad (.call {ac:=[.bo (.bX (.view 42 (ab.mk 3 (aC.1.map (aw 42 1)) .live) ((aC.1.map (dc aC.2)).map eTRat))),.bo (.bX (.view 75 (ab.mk 3 (aC.1.map (aw 75 1)) .live) ((aC.1.map (dc aC.2)).map eTRat)))],r:= .b iR,b5:=true,b6:=[42,75]}) (o 1 []))))];
  have nj:=ni.az (.bh (bK lk) (df (dh (aW:=(cj [.row 75])) 3 .live (aw 75 1) (aD (aw 0 1) aC.1) (fun x=>(fr (rfl:(cj [.row 75]) 0=some 75)) x)) (fs (aW:=(cj [.row 75])) (cA .live 1 I aC.2) (fun x=>(dg ev) x))) ((er rfl (gr (cA .live 1 I aC.2))):eF (ab.mk 3 (aC.1.map (aw 0 1)) .live::(aC.2.map (bq .live 1 I)))) (jl aC gN) (aK.aN 0 0 0 aC.1.length) ((e3 (d6 (dW (jm _ _)) (jn fu)) e4):eL [(ab.mk 3 (aC.1.map (aw 0 1)) .live::(aC.2.map (bq .live 1 I)))]) (rfl:ca (some (ab.mk 3 (aC.1.map (aw 42 1)) .live::(aC.2.map (bq .live 1 I)))) 0=some (ab.mk 3 (aC.1.map (aw 42 1)) .live)) (rfl:_=true) (.bh (cq (aD (aw 42 1) aC.1) (ba aC.1)) (cn hx (aC.1.map (dc aC.2))) (hK (b4:=42) (fh:=[ab.mk 3 (aC.1.map (aw 42 1)) .live]++(aC.2.map (bq .live 1 I))) (bs:=el) (sz:=3) (g:=eTRat) (aD (aw 42 1) aC.1) (fun _=>rfl) (fun x af=>(hI (b4:=42) (c:=1) (bs:=el) (f7:=[ab.mk 3 (aC.1.map (aw 42 1)) .live]) (cA .live 1 I aC.2) rfl hF rfl (hL hq x af))) (ba aC.1)) (rfl:ca (some (ab.mk 3 (aC.1.map (aw 75 1)) .live::(aC.2.map (bq .live 1 I)))) 0=some (ab.mk 3 (aC.1.map (aw 75 1)) .live)) (rfl:_=true) (cq (aD (aw 75 1) aC.1) (ba aC.1)) (cn hx (aC.1.map (dc aC.2))) (hK (b4:=75) (fh:=[ab.mk 3 (aC.1.map (aw 75 1)) .live]++(aC.2.map (bq .live 1 I))) (bs:=el) (sz:=3) (g:=eTRat) (aD (aw 75 1) aC.1) (fun _=>rfl) (fun x af=>(hI (b4:=75) (c:=1) (bs:=el) (f7:=[ab.mk 3 (aC.1.map (aw 75 1)) .live]) (cA .live 1 I aC.2) rfl hF rfl (hL hq x af))) (ba aC.1)) (.e2 (oF iR qX) (aK.b iR))));
  .ite (fun ll =>
  .au fun gG qY =>
  .au fun eW qZ =>
  .au fun eX q3 =>
  (let t19:List bE:=t17.append [.ah false,.J (o 1 []),.J (o 2 (ad (.call {aB:=[.aq 35 0 (ab.mk 4 (aA.1.map aG) .live),.aq 35 1 (ab.mk 3 (aA.2.map aZ) .live)],bN:=[.pure,.pure],ac:=[.bo (.agg [.at_ 0 0 aA.1.length,.at_ 1 0 aA.2.length]),ii],r:= .n .i64 gG.1,cg:=[[ab.mk 4 (gG.2.1.map aG) .live],[ab.mk 3 (gG.2.2.map aZ) .live]],cC:=ii,cQ:=[.pure,.pure],b6:=[35],b5:=false}) (o 1 []))),.J (o 2 (ad (.call {aB:=[.row 39],bN:=[.dO (ab.mk 3 (ay.1.map (aw 0 1)) .live::(ay.2.map (bq .live 1 I)))],ac:=[ii,ii],r:= .n .i64 eW.1,cg:=[(ab.mk 3 (eW.2.1.map (aw 0 1)) .live::(eW.2.2.map (bq .live 1 I)))],cC:=ii,cQ:=[.dO (ab.mk 3 (eW.2.1.map (aw 39 1)) .live::(eW.2.2.map (bq .live 1 I)))],b6:=[39],b5:=false}) (o 1 []))),.J (o 2 (ad (.call {aB:=[.row 42],bN:=[.dO (ab.mk 3 (aC.1.map (aw 0 1)) .live::(aC.2.map (bq .live 1 I)))],ac:=[ii,ii],r:= .n .i64 eX.1,cg:=[(ab.mk 3 (eX.2.1.map (aw 0 1)) .live::(eX.2.2.map (bq .live 1 I)))],cC:=ii,cQ:=[.dO (ab.mk 3 (eX.2.1.map (aw 42 1)) .live::(eX.2.2.map (bq .live 1 I)))],b6:=[42],b5:=false}) (o 1 [])))];
  have nk:=nj.az (.bh (bK ll) (by decide:0≠1) (rfl:gX [.aq 35 0 (ab.mk 4 (aA.1.map aG) .live),.aq 35 1 (ab.mk 3 (aA.2.map aZ) .live)] 0 0=some (35,0)) (rfl:aA.1.length=aA.1.length) (rfl:gX [.aq 35 0 (ab.mk 4 (aA.1.map aG) .live),.aq 35 1 (ab.mk 3 (aA.2.map aZ) .live)] 1 0=some (35,1)) (rfl:aA.2.length=aA.2.length) (rfl:ca (some [ab.mk 4 (aA.1.map aG) .live,ab.mk 3 (aA.2.map aZ) .live]) 0=some (ab.mk 4 (aA.1.map aG) .live)) (ec 4 gl aA.1) (.bh (rfl:ca (some [ab.mk 4 (aA.1.map aG) .live,ab.mk 3 (aA.2.map aZ) .live]) 1=some (ab.mk 3 (aA.2.map aZ) .live)) (ec 3 gk aA.2) (ec 4 gl gG.2.1) (ec 3 gk gG.2.2) (xj gG qY) (df (dh (aW:=(gh 0 [.row 39])) 3 .live (aw 0 1) (aD (aw 39 1) ay.1) (fun x=>(fr (rfl:(gh 0 [.row 39]) 39=some 0)) x)) (fs (aW:=(gh 0 [.row 39])) (cA .live 1 I ay.2) (fun x=>(dg ev) x))) ((er rfl (gr (cA .live 1 I ay.2))):eF (ab.mk 3 (ay.1.map (aw 39 1)) .live::(ay.2.map (bq .live 1 I)))) (df (dh (aW:=(cj [.row 39])) 3 .live (aw 39 1) (aD (aw 0 1) eW.2.1) (fun x=>(fr (rfl:(cj [.row 39]) 0=some 39)) x)) (fs (aW:=(cj [.row 39])) (cA .live 1 I eW.2.2) (fun x=>(dg ev) x))) (.dP ((er rfl (gr (cA .live 1 I eW.2.2))):eF (ab.mk 3 (eW.2.1.map (aw 0 1)) .live::(eW.2.2.map (bq .live 1 I)))) (oA eW qZ) (df (dh (aW:=(gh 0 [.row 42])) 3 .live (aw 0 1) (aD (aw 42 1) aC.1) (fun x=>(fr (rfl:(gh 0 [.row 42]) 42=some 0)) x)) (fs (aW:=(gh 0 [.row 42])) (cA .live 1 I aC.2) (fun x=>(dg ev) x))) ((er rfl (gr (cA .live 1 I aC.2))):eF (ab.mk 3 (aC.1.map (aw 42 1)) .live::(aC.2.map (bq .live 1 I)))) (df (dh (aW:=(cj [.row 42])) 3 .live (aw 42 1) (aD (aw 0 1) eX.2.1) (fun x=>(fr (rfl:(cj [.row 42]) 0=some 42)) x)) (fs (aW:=(cj [.row 42])) (cA .live 1 I eX.2.2) (fun x=>(dg ev) x))) ((er rfl (gr (cA .live 1 I eX.2.2))):eF (ab.mk 3 (eX.2.1.map (aw 0 1)) .live::(eX.2.2.map (bq .live 1 I)))) (oA eX q3))));
  .ite (fun fz =>
  .ret (aU (t19.append [.J (o 3 (ch 4 (ad (.ah true) (o 1 (ch 3 (o 1 [])))))),.ah true,.J (o 1 [])]) (nk.az (.bh fz fz fz fz fz bG bG bG (.e1 bG)))))
  (fun fz =>
  .au fun en q4 =>
  .bn fun o9 =>
  .au fun jQ lh =>
  (let t21:List bE:=t19.append [.J (o 5 (ad (.call {ac:=[.bo (.agg [.id,.cL (bl.2.map I),.id]),ii],r:= .b fj,b5:=true,b6:=[47]}) (o 1 (ad (.ah false) (o 4 (ad (.ah false) [])))))),.ah false,.J (o 1 []),.J (o 2 (ad (.call {aB:=[.row 47],bN:=[.pure],ac:=[.bo (.agg [.id,.id,.id]),ii],r:= .n .i64 en.1,cg:=[[ab.mk 1 (en.2.map I) .live]],cC:=ii,cQ:=[.pure],b6:=[47],b5:=false}) (o 1 []))),.J (o 1 []),.J (o 2 (ad (.call {ac:=[.bo (.agg [.id,.cL (((en.2.drop 0).take bl.2.length).map I),.id]),ii],r:= .n .i64 jQ,b5:=true,b6:=[47]}) (o 1 []))),.J (o 2 [])];
  have lm:=nk.az (.bh fz fz fz (dv (aD I bl.2) (ba bl.2)) (cq (aD I bl.2) (ba bl.2)) (cn a3 bl.2) (lI fj lj) (aK.b fj) (.bh fz fz (bK dK) (bK dK) (bK dK) (bK dK) (bK iS) (ec 1 a3 bl.2) (.dP (ec 1 a3 en.2) (My en q4) (mX (aD I en.2) 0 bl.2.length) (lv (aD I en.2) o9) (cn a3 ((en.2.drop 0).take bl.2.length)) (oE jQ lh) (aK.n .i64 jQ))));
  .ite (fun jR =>
  .ret (aU (t21.append [.ah true,.J (o 1 [])]) (lm.az (.e1 jR))))
  (fun jR =>
  .ite (fun ln =>
  .ret (aU (t21.append [.ah false,.J (o 3 []),.ah true,.J (o 1 [])]) (lm.az (.e2 jR ln))))
  (fun ln =>
  .ret (aU (t21.append [.ah false,.J (o 3 []),.ah false,.J (o 1 (ad (.call {aB:=[],bN:=[],ac:=[ii],r:= .agg [.aN 0 0 0 aA.1.length,.aN 0 1 0 aA.2.length],cg:=[[ab.mk 4 (aA.1.map aG) .live,ab.mk 3 (aA.2.map aZ) .live]],cC:= .bo (.agg [.id,.id]),cQ:=[.dO [ab.mk 4 (aA.1.map aG) .live,ab.mk 3 (aA.2.map aZ) .live]],b6:=[],b5:=true}) (o 1 (ad (.call {aB:=[],bN:=[],ac:=[ii],r:= .aN 0 0 0 ay.1.length,cg:=[(ab.mk 3 (ay.1.map (aw 0 1)) .live::(ay.2.map (bq .live 1 I)))],cC:=ii,cQ:=[.dO (ab.mk 3 (ay.1.map (aw 122 1)) .live::(ay.2.map (bq .live 1 I)))],b6:=[],b5:=true}) (o 1 (ad (.call {aB:=[],bN:=[],ac:=[ii],r:= .aN 0 0 0 aC.1.length,cg:=[(ab.mk 3 (aC.1.map (aw 0 1)) .live::(aC.2.map (bq .live 1 I)))],cC:=ii,cQ:=[.dO (ab.mk 3 (aC.1.map (aw 124 1)) .live::(aC.2.map (bq .live 1 I)))],b6:=[],b5:=true}) (ad (.call {aB:=[],bN:=[],ac:=[.bo (.agg [.cL (aA.1.map aG),.cL (aA.2.map aZ)]),.bo (.bX (.view 122 (ab.mk 3 (ay.1.map (aw 122 1)) .live) ((ay.1.map (dc ay.2)).map eTRat))),.bo (.bX (.view 124 (ab.mk 3 (aC.1.map (aw 124 1)) .live) ((aC.1.map (dc aC.2)).map eTRat)))],r:= .cz [.agg [.b bl.1,.aN 0 0 0 bl.2.length,.isl 1 (([]:List Int).map I)],.b true],cg:=[[ab.mk 1 (bl.2.map I) .live]],cC:= .comp [.agg [.id,.id,.id],.bX .id],cQ:=[.pure],b6:=[120,122,124],b5:=true}) (o 6 [])))))))),.J (o 2 (ad (.call {ac:=[.bo (.agg [.id,.cL (bl.2.map I),.id]),ii],r:= .b fj,b5:=true,b6:=[125]}) (o 5 (ad (.ah false) [])))),.ah false,.J (o 1 []),.J (o 2 (ad (.call {ac:=[.bo (.agg [.id,.cL (((en.2.drop 0).take bl.2.length).map I),.id]),ii],r:= .n .i64 jQ,b5:=true,b6:=[47]}) (o 1 []))),.J (o 2 []),.ah false,.J (o 3 []),.ah false,.J (o 1 [])]) (lm.az (.bh jR ln (df (dh (aW:=(cj [.row 120])) 4 .live aG (aD aG aA.1) (fun x=>(dg mU) x)) (df (dh (aW:=(cj [.row 120])) 3 .live aZ (aD aZ aA.2) (fun x=>(dg mQ) x)) (jo (aW:=(cj [.row 120]))))) ((er rfl (er rfl kW)):eF [ab.mk 4 (aA.1.map aG) .live,ab.mk 3 (aA.2.map aZ) .live]) (nu aA fi) (aK.agg (cG (aK.aN 0 0 0 aA.1.length) (cG (aK.aN 0 1 0 aA.2.length) fH))) ((e3 (d6 (dW mV) (d6 (dW mR) gJ)) e4):eL [[ab.mk 4 (aA.1.map aG) .live,ab.mk 3 (aA.2.map aZ) .live]]) (df (dh (aW:=(cj [.row 122])) 3 .live (aw 122 1) (aD (aw 0 1) ay.1) (fun x=>(fr (rfl:(cj [.row 122]) 0=some 122)) x)) (fs (aW:=(cj [.row 122])) (cA .live 1 I ay.2) (fun x=>(dg ev) x))) (.bh ((er rfl (gr (cA .live 1 I ay.2))):eF (ab.mk 3 (ay.1.map (aw 0 1)) .live::(ay.2.map (bq .live 1 I)))) (jl ay ex) (aK.aN 0 0 0 ay.1.length) ((e3 (d6 (dW (jm _ _)) (jn fu)) e4):eL [(ab.mk 3 (ay.1.map (aw 0 1)) .live::(ay.2.map (bq .live 1 I)))]) (df (dh (aW:=(cj [.row 124])) 3 .live (aw 124 1) (aD (aw 0 1) aC.1) (fun x=>(fr (rfl:(cj [.row 124]) 0=some 124)) x)) (fs (aW:=(cj [.row 124])) (cA .live 1 I aC.2) (fun x=>(dg ev) x))) ((er rfl (gr (cA .live 1 I aC.2))):eF (ab.mk 3 (aC.1.map (aw 0 1)) .live::(aC.2.map (bq .live 1 I)))) (jl aC gN) (aK.aN 0 0 0 aC.1.length) (.bh ((e3 (d6 (dW (jm _ _)) (jn fu)) e4):eL [(ab.mk 3 (aC.1.map (aw 0 1)) .live::(aC.2.map (bq .live 1 I)))]) (dv (aD aG aA.1) (ba aA.1)) (cq (aD aG aA.1) (ba aA.1)) (cn gl aA.1) (dv (aD aZ aA.2) (ba aA.2)) (cq (aD aZ aA.2) (ba aA.2)) (cn gk aA.2) (rfl:ca (some (ab.mk 3 (ay.1.map (aw 122 1)) .live::(ay.2.map (bq .live 1 I)))) 0=some (ab.mk 3 (ay.1.map (aw 122 1)) .live)) (.bh (rfl:_=true) (cq (aD (aw 122 1) ay.1) (ba ay.1)) (cn hx (ay.1.map (dc ay.2))) (hK (b4:=122) (fh:=[ab.mk 3 (ay.1.map (aw 122 1)) .live]++(ay.2.map (bq .live 1 I))) (bs:=el) (sz:=3) (g:=eTRat) (aD (aw 122 1) ay.1) (fun _=>rfl) (fun x af=>(hI (b4:=122) (c:=1) (bs:=el) (f7:=[ab.mk 3 (ay.1.map (aw 122 1)) .live]) (cA .live 1 I ay.2) rfl hF rfl (hL gY x af))) (ba ay.1)) (rfl:ca (some (ab.mk 3 (aC.1.map (aw 124 1)) .live::(aC.2.map (bq .live 1 I)))) 0=some (ab.mk 3 (aC.1.map (aw 124 1)) .live)) (rfl:_=true) (cq (aD (aw 124 1) aC.1) (ba aC.1)) (cn hx (aC.1.map (dc aC.2))) (.bh (hK (b4:=124) (fh:=[ab.mk 3 (aC.1.map (aw 124 1)) .live]++(aC.2.map (bq .live 1 I))) (bs:=el) (sz:=3) (g:=eTRat) (aD (aw 124 1) aC.1) (fun _=>rfl) (fun x af=>(hI (b4:=124) (c:=1) (bs:=el) (f7:=[ab.mk 3 (aC.1.map (aw 124 1)) .live]) (cA .live 1 I aC.2) rfl hF rfl (hL hq x af))) (ba aC.1)) (ec 1 a3 bl.2) (oz (.inr (.inr (.inl bl))) fM) (lx (cG (aK.agg (cG (aK.b bl.1) (cG (aK.aN 0 0 0 bl.2.length) (cG (aK.fk _:aK (.isl 1 (([]:List Int).map I))) fH)))) (cG (aK.b true) fH))) ((e3 (d6 (dW fu) gJ) e4):eL [[ab.mk 1 (bl.2.map I) .live]]) (dv (aD I bl.2) (ba bl.2)) (cq (aD I bl.2) (ba bl.2)) (cn a3 bl.2) (.bh (lI fj lj) (aK.b fj) (bK dK) (bK dK) (bK dK) (bK dK) (bK iS) (mX (aD I en.2) 0 bl.2.length) (.d5 (lv (aD I en.2) o9) (cn a3 ((en.2.drop 0).take bl.2.length)) (oE jQ lh) (aK.n .i64 jQ) jR ln)))))))))))))))
  (fun ll =>
  .ret (aU (t17.append [.ah true,.J (o 1 [])]) (nj.az (.e1 (b3 ll)))))))
  (fun lk =>
  .ret (aU (t15.append [.ah true,.J (o 1 [])]) (ni.az (.e1 (b3 lk)))))))
  (fun ku =>
  .ret (aU (t13.append [.ah true,.J (o 1 [])]) (nh.az (.e1 (b3 ku)))))))
  (fun iS =>
  .ret (aU (t11.append [.ah true,.J (o 1 [])]) (ng.az (.e1 (b3 iS)))))))
  (fun dK =>
  .ret (aU (t9.append [.J (o 2 (ad (.call {ac:=[.bo (.agg [.id,.cL (bl.2.map I),.id]),ii],r:= .b fj,b5:=true,b6:=[47]}) (o 2 (ch 3 (ad (.ah true) []))))),.ah true,.J (o 1 [])]) (nf.az (.cM (b3 dK) (b3 dK) (b3 dK) (b3 dK) bG))))))
  ·exact (.au fun fj lj =>
  (let t9:List bE:=t7.append [.J (o 3 (ad (.call {aB:=[],bN:=[],ac:=[.bo (.agg [.cL (aA.1.map aG),.cL (aA.2.map aZ)]),.bo (.bX (.view 39 (ab.mk 3 (ay.1.map (aw 39 1)) .live) ((ay.1.map (dc ay.2)).map eTRat))),.bo (.bX (.view 42 (ab.mk 3 (aC.1.map (aw 42 1)) .live) ((aC.1.map (dc aC.2)).map eTRat)))],r:= .cz [.agg [.b bl.1,.aN 0 0 0 bl.2.1.length,.aN 0 1 0 bl.2.2.length],.b true],cg:=[[ab.mk 1 (bl.2.1.map I) .live,ab.mk 1 (bl.2.2.map I) .live]],cC:= .comp [.agg [.id,.id,.id],.bX .id],cQ:=[.dO [ab.mk 1 (bl.2.1.map I) .live,ab.mk 1 (bl.2.2.map I) .live]],b6:=[35,39,42],b5:=true}) (o 6 [])))];
  have nf:=jW.az (.bh (df (dh (aW:=(cj [.row 47])) 1 .live I (aD I bl.2.1) (fun x=>(dg ev) x)) (df (dh (aW:=(cj [.row 47])) 1 .live I (aD I bl.2.2) (fun x=>(dg ev) x)) (jo (aW:=(cj [.row 47]))))) ((er rfl (er rfl kW)):eF [ab.mk 1 (bl.2.1.map I) .live,ab.mk 1 (bl.2.2.map I) .live]) (oz (.inr (.inr (.inr bl))) fM) (lx (cG (aK.agg (cG (aK.b bl.1) (cG (aK.aN 0 0 0 bl.2.1.length) (cG (aK.aN 0 1 0 bl.2.2.length) fH)))) (cG (aK.b true) fH))) ((e3 (d6 (dW fu) (d6 (dW fu) gJ)) e4):eL [[ab.mk 1 (bl.2.1.map I) .live,ab.mk 1 (bl.2.2.map I) .live]]) (dv (aD I bl.2.1) (ba bl.2.1)) (cq (aD I bl.2.1) (ba bl.2.1)) (cn a3 bl.2.1) (.cM (dv (aD I bl.2.2) (ba bl.2.2)) (cq (aD I bl.2.2) (ba bl.2.2)) (cn a3 bl.2.2) (lI fj lj) (aK.b fj)));
  .ite (fun dK =>
  (let t11:List bE:=t9.append [.J (o 2 (ad (.call {ac:=[.bo (.agg [.id,.cL (bl.2.1.map I),.cL (bl.2.2.map I)]),ii],r:= .b fj,b5:=true,b6:=[47]}) (o 5 (ad (.ah false) []))))];
  have ng:=nf.az (.cp (bK dK) (bK dK) (bK dK) (bK dK));
  .ite (fun iS =>
  .au fun iP qV =>
  (let t13:List bE:=t11.append [.ah false,.J (o 2 (ad (.call {aB:=[],bN:=[],ac:=[ii],r:= .agg [.aN 0 0 0 aA.1.length,.aN 0 1 0 aA.2.length],cg:=[[ab.mk 4 (aA.1.map aG) .live,ab.mk 3 (aA.2.map aZ) .live]],cC:= .bo (.agg [.id,.id]),cQ:=[.dO [ab.mk 4 (aA.1.map aG) .live,ab.mk 3 (aA.2.map aZ) .live]],b6:=[],b5:=true}) (ad (.call {ac:=[.bo (.agg [.cL (aA.1.map aG),.cL (aA.2.map aZ)]),.bo (.agg [.cL (aA.1.map aG),.cL (aA.2.map aZ)])],r:= .b iP,b5:=true,b6:=[35,65]}) (o 1 []))))];
  have nh:=ng.az (.bh (bK iS) (df (dh (aW:=(cj [.row 65])) 4 .live aG (aD aG aA.1) (fun x=>(dg mU) x)) (df (dh (aW:=(cj [.row 65])) 3 .live aZ (aD aZ aA.2) (fun x=>(dg mQ) x)) (jo (aW:=(cj [.row 65]))))) ((er rfl (er rfl kW)):eF [ab.mk 4 (aA.1.map aG) .live,ab.mk 3 (aA.2.map aZ) .live]) (nu aA fi) (aK.agg (cG (aK.aN 0 0 0 aA.1.length) (cG (aK.aN 0 1 0 aA.2.length) fH))) ((e3 (d6 (dW mV) (d6 (dW mR) gJ)) e4):eL [[ab.mk 4 (aA.1.map aG) .live,ab.mk 3 (aA.2.map aZ) .live]]) (dv (aD aG aA.1) (ba aA.1)) (cq (aD aG aA.1) (ba aA.1)) (.bh (cn gl aA.1) (dv (aD aZ aA.2) (ba aA.2)) (cq (aD aZ aA.2) (ba aA.2)) (cn gk aA.2) (dv (aD aG aA.1) (ba aA.1)) (cq (aD aG aA.1) (ba aA.1)) (cn gl aA.1) (dv (aD aZ aA.2) (ba aA.2)) (.cp (cq (aD aZ aA.2) (ba aA.2)) (cn gk aA.2) (xo iP qV) (aK.b iP))));
  .ite (fun ku =>
  .au fun iQ qW =>
  (let t15:List bE:=t13.append [.ah false,.J (o 2 (ad (.call {aB:=[],bN:=[],ac:=[ii],r:= .aN 0 0 0 ay.1.length,cg:=[(ab.mk 3 (ay.1.map (aw 0 1)) .live::(ay.2.map (bq .live 1 I)))],cC:=ii,cQ:=[.dO (ab.mk 3 (ay.1.map (aw 70 1)) .live::(ay.2.map (bq .live 1 I)))],b6:=[],b5:=true}) (ad (.call {ac:=[.bo (.bX (.view 39 (ab.mk 3 (ay.1.map (aw 39 1)) .live) ((ay.1.map (dc ay.2)).map eTRat))),.bo (.bX (.view 70 (ab.mk 3 (ay.1.map (aw 70 1)) .live) ((ay.1.map (dc ay.2)).map eTRat)))],r:= .b iQ,b5:=true,b6:=[39,70]}) (o 1 []))))];
  have ni:=nh.az (.bh (bK ku) (df (dh (aW:=(cj [.row 70])) 3 .live (aw 70 1) (aD (aw 0 1) ay.1) (fun x=>(fr (rfl:(cj [.row 70]) 0=some 70)) x)) (fs (aW:=(cj [.row 70])) (cA .live 1 I ay.2) (fun x=>(dg ev) x))) ((er rfl (gr (cA .live 1 I ay.2))):eF (ab.mk 3 (ay.1.map (aw 0 1)) .live::(ay.2.map (bq .live 1 I)))) (jl ay ex) (aK.aN 0 0 0 ay.1.length) ((e3 (d6 (dW (jm _ _)) (jn fu)) e4):eL [(ab.mk 3 (ay.1.map (aw 0 1)) .live::(ay.2.map (bq .live 1 I)))]) (rfl:ca (some (ab.mk 3 (ay.1.map (aw 39 1)) .live::(ay.2.map (bq .live 1 I)))) 0=some (ab.mk 3 (ay.1.map (aw 39 1)) .live)) (rfl:_=true) (.bh (cq (aD (aw 39 1) ay.1) (ba ay.1)) (cn hx (ay.1.map (dc ay.2))) (hK (b4:=39) (fh:=[ab.mk 3 (ay.1.map (aw 39 1)) .live]++(ay.2.map (bq .live 1 I))) (bs:=el) (sz:=3) (g:=eTRat) (aD (aw 39 1) ay.1) (fun _=>rfl) (fun x af=>(hI (b4:=39) (c:=1) (bs:=el) (f7:=[ab.mk 3 (ay.1.map (aw 39 1)) .live]) (cA .live 1 I ay.2) rfl hF rfl (hL gY x af))) (ba ay.1)) (rfl:ca (some (ab.mk 3 (ay.1.map (aw 70 1)) .live::(ay.2.map (bq .live 1 I)))) 0=some (ab.mk 3 (ay.1.map (aw 70 1)) .live)) (rfl:_=true) (cq (aD (aw 70 1) ay.1) (ba ay.1)) (cn hx (ay.1.map (dc ay.2))) (hK (b4:=70) (fh:=[ab.mk 3 (ay.1.map (aw 70 1)) .live]++(ay.2.map (bq .live 1 I))) (bs:=el) (sz:=3) (g:=eTRat) (aD (aw 70 1) ay.1) (fun _=>rfl) (fun x af=>(hI (b4:=70) (c:=1) (bs:=el) (f7:=[ab.mk 3 (ay.1.map (aw 70 1)) .live]) (cA .live 1 I ay.2) rfl hF rfl (hL gY x af))) (ba ay.1)) (.e2 (oF iQ qW) (aK.b iQ))));
  .ite (fun lk =>
  .au fun iR qX =>
  (let t17:List bE:=t15.append [.ah false,.J (o 2 (ad (.call {aB:=[],bN:=[],ac:=[ii],r:= .aN 0 0 0 aC.1.length,cg:=[(ab.mk 3 (aC.1.map (aw 0 1)) .live::(aC.2.map (bq .live 1 I)))],cC:=ii,cQ:=[.dO (ab.mk 3 (aC.1.map (aw 75 1)) .live::(aC.2.map (bq .live 1 I)))],b6:=[],b5:=true}) (ad (.call {ac:=[.bo (.bX (.view 42 (ab.mk 3 (aC.1.map (aw 42 1)) .live) ((aC.1.map (dc aC.2)).map eTRat))),.bo (.bX (.view 75 (ab.mk 3 (aC.1.map (aw 75 1)) .live) ((aC.1.map (dc aC.2)).map eTRat)))],r:= .b iR,b5:=true,b6:=[42,75]}) (o 1 []))))];
  have nj:=ni.az (.bh (bK lk) (df (dh (aW:=(cj [.row 75])) 3 .live (aw 75 1) (aD (aw 0 1) aC.1) (fun x=>(fr (rfl:(cj [.row 75]) 0=some 75)) x)) (fs (aW:=(cj [.row 75])) (cA .live 1 I aC.2) (fun x=>(dg ev) x))) ((er rfl (gr (cA .live 1 I aC.2))):eF (ab.mk 3 (aC.1.map (aw 0 1)) .live::(aC.2.map (bq .live 1 I)))) (jl aC gN) (aK.aN 0 0 0 aC.1.length) ((e3 (d6 (dW (jm _ _)) (jn fu)) e4):eL [(ab.mk 3 (aC.1.map (aw 0 1)) .live::(aC.2.map (bq .live 1 I)))]) (rfl:ca (some (ab.mk 3 (aC.1.map (aw 42 1)) .live::(aC.2.map (bq .live 1 I)))) 0=some (ab.mk 3 (aC.1.map (aw 42 1)) .live)) (rfl:_=true) (.bh (cq (aD (aw 42 1) aC.1) (ba aC.1)) (cn hx (aC.1.map (dc aC.2))) (hK (b4:=42) (fh:=[ab.mk 3 (aC.1.map (aw 42 1)) .live]++(aC.2.map (bq .live 1 I))) (bs:=el) (sz:=3) (g:=eTRat) (aD (aw 42 1) aC.1) (fun _=>rfl) (fun x af=>(hI (b4:=42) (c:=1) (bs:=el) (f7:=[ab.mk 3 (aC.1.map (aw 42 1)) .live]) (cA .live 1 I aC.2) rfl hF rfl (hL hq x af))) (ba aC.1)) (rfl:ca (some (ab.mk 3 (aC.1.map (aw 75 1)) .live::(aC.2.map (bq .live 1 I)))) 0=some (ab.mk 3 (aC.1.map (aw 75 1)) .live)) (rfl:_=true) (cq (aD (aw 75 1) aC.1) (ba aC.1)) (cn hx (aC.1.map (dc aC.2))) (hK (b4:=75) (fh:=[ab.mk 3 (aC.1.map (aw 75 1)) .live]++(aC.2.map (bq .live 1 I))) (bs:=el) (sz:=3) (g:=eTRat) (aD (aw 75 1) aC.1) (fun _=>rfl) (fun x af=>(hI (b4:=75) (c:=1) (bs:=el) (f7:=[ab.mk 3 (aC.1.map (aw 75 1)) .live]) (cA .live 1 I aC.2) rfl hF rfl (hL hq x af))) (ba aC.1)) (.e2 (oF iR qX) (aK.b iR))));
  .ite (fun ll =>
  .au fun gG qY =>
  .au fun eW qZ =>
  .au fun eX q3 =>
  (let t19:List bE:=t17.append [.ah false,.J (o 1 []),.J (o 2 (ad (.call {aB:=[.aq 35 0 (ab.mk 4 (aA.1.map aG) .live),.aq 35 1 (ab.mk 3 (aA.2.map aZ) .live)],bN:=[.pure,.pure],ac:=[.bo (.agg [.at_ 0 0 aA.1.length,.at_ 1 0 aA.2.length]),ii],r:= .n .i64 gG.1,cg:=[[ab.mk 4 (gG.2.1.map aG) .live],[ab.mk 3 (gG.2.2.map aZ) .live]],cC:=ii,cQ:=[.pure,.pure],b6:=[35],b5:=false}) (o 1 []))),.J (o 2 (ad (.call {aB:=[.row 39],bN:=[.dO (ab.mk 3 (ay.1.map (aw 0 1)) .live::(ay.2.map (bq .live 1 I)))],ac:=[ii,ii],r:= .n .i64 eW.1,cg:=[(ab.mk 3 (eW.2.1.map (aw 0 1)) .live::(eW.2.2.map (bq .live 1 I)))],cC:=ii,cQ:=[.dO (ab.mk 3 (eW.2.1.map (aw 39 1)) .live::(eW.2.2.map (bq .live 1 I)))],b6:=[39],b5:=false}) (o 1 []))),.J (o 2 (ad (.call {aB:=[.row 42],bN:=[.dO (ab.mk 3 (aC.1.map (aw 0 1)) .live::(aC.2.map (bq .live 1 I)))],ac:=[ii,ii],r:= .n .i64 eX.1,cg:=[(ab.mk 3 (eX.2.1.map (aw 0 1)) .live::(eX.2.2.map (bq .live 1 I)))],cC:=ii,cQ:=[.dO (ab.mk 3 (eX.2.1.map (aw 42 1)) .live::(eX.2.2.map (bq .live 1 I)))],b6:=[42],b5:=false}) (o 1 [])))];
  have nk:=nj.az (.bh (bK ll) (by decide:0≠1) (rfl:gX [.aq 35 0 (ab.mk 4 (aA.1.map aG) .live),.aq 35 1 (ab.mk 3 (aA.2.map aZ) .live)] 0 0=some (35,0)) (rfl:aA.1.length=aA.1.length) (rfl:gX [.aq 35 0 (ab.mk 4 (aA.1.map aG) .live),.aq 35 1 (ab.mk 3 (aA.2.map aZ) .live)] 1 0=some (35,1)) (rfl:aA.2.length=aA.2.length) (rfl:ca (some [ab.mk 4 (aA.1.map aG) .live,ab.mk 3 (aA.2.map aZ) .live]) 0=some (ab.mk 4 (aA.1.map aG) .live)) (ec 4 gl aA.1) (.bh (rfl:ca (some [ab.mk 4 (aA.1.map aG) .live,ab.mk 3 (aA.2.map aZ) .live]) 1=some (ab.mk 3 (aA.2.map aZ) .live)) (ec 3 gk aA.2) (ec 4 gl gG.2.1) (ec 3 gk gG.2.2) (xj gG qY) (df (dh (aW:=(gh 0 [.row 39])) 3 .live (aw 0 1) (aD (aw 39 1) ay.1) (fun x=>(fr (rfl:(gh 0 [.row 39]) 39=some 0)) x)) (fs (aW:=(gh 0 [.row 39])) (cA .live 1 I ay.2) (fun x=>(dg ev) x))) ((er rfl (gr (cA .live 1 I ay.2))):eF (ab.mk 3 (ay.1.map (aw 39 1)) .live::(ay.2.map (bq .live 1 I)))) (df (dh (aW:=(cj [.row 39])) 3 .live (aw 39 1) (aD (aw 0 1) eW.2.1) (fun x=>(fr (rfl:(cj [.row 39]) 0=some 39)) x)) (fs (aW:=(cj [.row 39])) (cA .live 1 I eW.2.2) (fun x=>(dg ev) x))) (.dP ((er rfl (gr (cA .live 1 I eW.2.2))):eF (ab.mk 3 (eW.2.1.map (aw 0 1)) .live::(eW.2.2.map (bq .live 1 I)))) (oA eW qZ) (df (dh (aW:=(gh 0 [.row 42])) 3 .live (aw 0 1) (aD (aw 42 1) aC.1) (fun x=>(fr (rfl:(gh 0 [.row 42]) 42=some 0)) x)) (fs (aW:=(gh 0 [.row 42])) (cA .live 1 I aC.2) (fun x=>(dg ev) x))) ((er rfl (gr (cA .live 1 I aC.2))):eF (ab.mk 3 (aC.1.map (aw 42 1)) .live::(aC.2.map (bq .live 1 I)))) (df (dh (aW:=(cj [.row 42])) 3 .live (aw 42 1) (aD (aw 0 1) eX.2.1) (fun x=>(fr (rfl:(cj [.row 42]) 0=some 42)) x)) (fs (aW:=(cj [.row 42])) (cA .live 1 I eX.2.2) (fun x=>(dg ev) x))) ((er rfl (gr (cA .live 1 I eX.2.2))):eF (ab.mk 3 (eX.2.1.map (aw 0 1)) .live::(eX.2.2.map (bq .live 1 I)))) (oA eX q3))));
  .ite (fun fz =>
  .ret (aU (t19.append [.J (o 3 (ch 4 (ad (.ah true) (o 1 (ch 3 (o 1 [])))))),.ah true,.J (o 1 [])]) (nk.az (.bh fz fz fz fz fz bG bG bG (.e1 bG)))))
  (fun fz =>
  .au fun en q4 =>
  .bn fun o9 =>
  .bn fun wK =>
  .au fun om jR =>
  (let t21:List bE:=t19.append [.J (o 5 (ad (.call {ac:=[.bo (.agg [.id,.cL (bl.2.1.map I),.cL (bl.2.2.map I)]),ii],r:= .b fj,b5:=true,b6:=[47]}) (o 1 (ad (.ah false) (o 4 (ad (.ah false) [])))))),.ah false,.J (o 1 []),.J (o 2 (ad (.call {aB:=[.aq 47 0 (ab.mk 1 (bl.2.1.map I) .live),.aq 47 1 (ab.mk 1 (bl.2.2.map I) .live)],bN:=[.pure,.pure],ac:=[.bo (.agg [.id,.at_ 0 0 bl.2.1.length,.at_ 1 0 bl.2.2.length]),ii],r:= .n .i64 en.1,cg:=[[ab.mk 1 (en.2.1.map I) .live],[ab.mk 1 (en.2.2.map I) .live]],cC:=ii,cQ:=[.pure,.pure],b6:=[47],b5:=false}) (o 1 []))),.J (o 1 []),.J (o 2 (ad (.call {ac:=[.bo (.agg [.id,.cL (((en.2.1.drop 0).take bl.2.1.length).map I),.cL (((en.2.2.drop 0).take bl.2.2.length).map I)]),ii],r:= .n .i64 om,b5:=true,b6:=[47]}) (o 1 []))),.J (o 2 [])];
  have lm:=nk.az (.bh fz fz fz (dv (aD I bl.2.1) (ba bl.2.1)) (cq (aD I bl.2.1) (ba bl.2.1)) (cn a3 bl.2.1) (dv (aD I bl.2.2) (ba bl.2.2)) (cq (aD I bl.2.2) (ba bl.2.2)) (.bh (cn a3 bl.2.2) (lI fj lj) (aK.b fj) fz fz (bK dK) (bK dK) (bK dK) (.bh (bK dK) (bK iS) (by decide:0≠1) (rfl:gX [.aq 47 0 (ab.mk 1 (bl.2.1.map I) .live),.aq 47 1 (ab.mk 1 (bl.2.2.map I) .live)] 0 0=some (47,0)) (rfl:bl.2.1.length=bl.2.1.length) (rfl:gX [.aq 47 0 (ab.mk 1 (bl.2.1.map I) .live),.aq 47 1 (ab.mk 1 (bl.2.2.map I) .live)] 1 0=some (47,1)) (rfl:bl.2.2.length=bl.2.2.length) (rfl:ca (some [ab.mk 1 (bl.2.1.map I) .live,ab.mk 1 (bl.2.2.map I) .live]) 0=some (ab.mk 1 (bl.2.1.map I) .live)) (.bh (ec 1 a3 bl.2.1) (rfl:ca (some [ab.mk 1 (bl.2.1.map I) .live,ab.mk 1 (bl.2.2.map I) .live]) 1=some (ab.mk 1 (bl.2.2.map I) .live)) (ec 1 a3 bl.2.2) (ec 1 a3 en.2.1) (ec 1 a3 en.2.2) (Mj en q4) (mX (aD I en.2.1) 0 bl.2.1.length) (lv (aD I en.2.1) o9) (.d5 (cn a3 ((en.2.1.drop 0).take bl.2.1.length)) (mX (aD I en.2.2) 0 bl.2.2.length) (lv (aD I en.2.2) wK) (cn a3 ((en.2.2.drop 0).take bl.2.2.length)) (oE om jR) (aK.n .i64 om))))));
  .ite (fun ln =>
  .ret (aU (t21.append [.ah true,.J (o 1 [])]) (lm.az (.e1 ln))))
  (fun ln =>
  .ite (fun zh =>
  .ret (aU (t21.append [.ah false,.J (o 3 []),.ah true,.J (o 1 [])]) (lm.az (.e2 ln zh))))
  (fun zh =>
  .ret (aU (t21.append [.ah false,.J (o 3 []),.ah false,.J (o 1 (ad (.call {aB:=[],bN:=[],ac:=[ii],r:= .agg [.aN 0 0 0 aA.1.length,.aN 0 1 0 aA.2.length],cg:=[[ab.mk 4 (aA.1.map aG) .live,ab.mk 3 (aA.2.map aZ) .live]],cC:= .bo (.agg [.id,.id]),cQ:=[.dO [ab.mk 4 (aA.1.map aG) .live,ab.mk 3 (aA.2.map aZ) .live]],b6:=[],b5:=true}) (o 1 (ad (.call {aB:=[],bN:=[],ac:=[ii],r:= .aN 0 0 0 ay.1.length,cg:=[(ab.mk 3 (ay.1.map (aw 0 1)) .live::(ay.2.map (bq .live 1 I)))],cC:=ii,cQ:=[.dO (ab.mk 3 (ay.1.map (aw 122 1)) .live::(ay.2.map (bq .live 1 I)))],b6:=[],b5:=true}) (o 1 (ad (.call {aB:=[],bN:=[],ac:=[ii],r:= .aN 0 0 0 aC.1.length,cg:=[(ab.mk 3 (aC.1.map (aw 0 1)) .live::(aC.2.map (bq .live 1 I)))],cC:=ii,cQ:=[.dO (ab.mk 3 (aC.1.map (aw 124 1)) .live::(aC.2.map (bq .live 1 I)))],b6:=[],b5:=true}) (ad (.call {aB:=[],bN:=[],ac:=[.bo (.agg [.cL (aA.1.map aG),.cL (aA.2.map aZ)]),.bo (.bX (.view 122 (ab.mk 3 (ay.1.map (aw 122 1)) .live) ((ay.1.map (dc ay.2)).map eTRat))),.bo (.bX (.view 124 (ab.mk 3 (aC.1.map (aw 124 1)) .live) ((aC.1.map (dc aC.2)).map eTRat)))],r:= .cz [.agg [.b bl.1,.aN 0 0 0 bl.2.1.length,.aN 0 1 0 bl.2.2.length],.b true],cg:=[[ab.mk 1 (bl.2.1.map I) .live,ab.mk 1 (bl.2.2.map I) .live]],cC:= .comp [.agg [.id,.id,.id],.bX .id],cQ:=[.dO [ab.mk 1 (bl.2.1.map I) .live,ab.mk 1 (bl.2.2.map I) .live]],b6:=[120,122,124],b5:=true}) (o 6 [])))))))),.J (o 2 (ad (.call {ac:=[.bo (.agg [.id,.cL (bl.2.1.map I),.cL (bl.2.2.map I)]),ii],r:= .b fj,b5:=true,b6:=[125]}) (o 5 (ad (.ah false) [])))),.ah false,.J (o 1 []),.J (o 2 (ad (.call {ac:=[.bo (.agg [.id,.cL (((en.2.1.drop 0).take bl.2.1.length).map I),.cL (((en.2.2.drop 0).take bl.2.2.length).map I)]),ii],r:= .n .i64 om,b5:=true,b6:=[47]}) (o 1 []))),.J (o 2 []),.ah false,.J (o 3 []),.ah false,.J (o 1 [])]) (lm.az (.bh ln zh (df (dh (aW:=(cj [.row 120])) 4 .live aG (aD aG aA.1) (fun x=>(dg mU) x)) (df (dh (aW:=(cj [.row 120])) 3 .live aZ (aD aZ aA.2) (fun x=>(dg mQ) x)) (jo (aW:=(cj [.row 120]))))) ((er rfl (er rfl kW)):eF [ab.mk 4 (aA.1.map aG) .live,ab.mk 3 (aA.2.map aZ) .live]) (nu aA fi) (aK.agg (cG (aK.aN 0 0 0 aA.1.length) (cG (aK.aN 0 1 0 aA.2.length) fH))) ((e3 (d6 (dW mV) (d6 (dW mR) gJ)) e4):eL [[ab.mk 4 (aA.1.map aG) .live,ab.mk 3 (aA.2.map aZ) .live]]) (df (dh (aW:=(cj [.row 122])) 3 .live (aw 122 1) (aD (aw 0 1) ay.1) (fun x=>(fr (rfl:(cj [.row 122]) 0=some 122)) x)) (fs (aW:=(cj [.row 122])) (cA .live 1 I ay.2) (fun x=>(dg ev) x))) (.bh ((er rfl (gr (cA .live 1 I ay.2))):eF (ab.mk 3 (ay.1.map (aw 0 1)) .live::(ay.2.map (bq .live 1 I)))) (jl ay ex) (aK.aN 0 0 0 ay.1.length) ((e3 (d6 (dW (jm _ _)) (jn fu)) e4):eL [(ab.mk 3 (ay.1.map (aw 0 1)) .live::(ay.2.map (bq .live 1 I)))]) (df (dh (aW:=(cj [.row 124])) 3 .live (aw 124 1) (aD (aw 0 1) aC.1) (fun x=>(fr (rfl:(cj [.row 124]) 0=some 124)) x)) (fs (aW:=(cj [.row 124])) (cA .live 1 I aC.2) (fun x=>(dg ev) x))) ((er rfl (gr (cA .live 1 I aC.2))):eF (ab.mk 3 (aC.1.map (aw 0 1)) .live::(aC.2.map (bq .live 1 I)))) (jl aC gN) (aK.aN 0 0 0 aC.1.length) (.bh ((e3 (d6 (dW (jm _ _)) (jn fu)) e4):eL [(ab.mk 3 (aC.1.map (aw 0 1)) .live::(aC.2.map (bq .live 1 I)))]) (dv (aD aG aA.1) (ba aA.1)) (cq (aD aG aA.1) (ba aA.1)) (cn gl aA.1) (dv (aD aZ aA.2) (ba aA.2)) (cq (aD aZ aA.2) (ba aA.2)) (cn gk aA.2) (rfl:ca (some (ab.mk 3 (ay.1.map (aw 122 1)) .live::(ay.2.map (bq .live 1 I)))) 0=some (ab.mk 3 (ay.1.map (aw 122 1)) .live)) (.bh (rfl:_=true) (cq (aD (aw 122 1) ay.1) (ba ay.1)) (cn hx (ay.1.map (dc ay.2))) (hK (b4:=122) (fh:=[ab.mk 3 (ay.1.map (aw 122 1)) .live]++(ay.2.map (bq .live 1 I))) (bs:=el) (sz:=3) (g:=eTRat) (aD (aw 122 1) ay.1) (fun _=>rfl) (fun x af=>(hI (b4:=122) (c:=1) (bs:=el) (f7:=[ab.mk 3 (ay.1.map (aw 122 1)) .live]) (cA .live 1 I ay.2) rfl hF rfl (hL gY x af))) (ba ay.1)) (rfl:ca (some (ab.mk 3 (aC.1.map (aw 124 1)) .live::(aC.2.map (bq .live 1 I)))) 0=some (ab.mk 3 (aC.1.map (aw 124 1)) .live)) (rfl:_=true) (cq (aD (aw 124 1) aC.1) (ba aC.1)) (cn hx (aC.1.map (dc aC.2))) (.bh (hK (b4:=124) (fh:=[ab.mk 3 (aC.1.map (aw 124 1)) .live]++(aC.2.map (bq .live 1 I))) (bs:=el) (sz:=3) (g:=eTRat) (aD (aw 124 1) aC.1) (fun _=>rfl) (fun x af=>(hI (b4:=124) (c:=1) (bs:=el) (f7:=[ab.mk 3 (aC.1.map (aw 124 1)) .live]) (cA .live 1 I aC.2) rfl hF rfl (hL hq x af))) (ba aC.1)) (df (dh (aW:=(cj [.row 125])) 1 .live I (aD I bl.2.1) (fun x=>(dg ev) x)) (df (dh (aW:=(cj [.row 125])) 1 .live I (aD I bl.2.2) (fun x=>(dg ev) x)) (jo (aW:=(cj [.row 125]))))) ((er rfl (er rfl kW)):eF [ab.mk 1 (bl.2.1.map I) .live,ab.mk 1 (bl.2.2.map I) .live]) (oz (.inr (.inr (.inr bl))) fM) (lx (cG (aK.agg (cG (aK.b bl.1) (cG (aK.aN 0 0 0 bl.2.1.length) (cG (aK.aN 0 1 0 bl.2.2.length) fH)))) (cG (aK.b true) fH))) ((e3 (d6 (dW fu) (d6 (dW fu) gJ)) e4):eL [[ab.mk 1 (bl.2.1.map I) .live,ab.mk 1 (bl.2.2.map I) .live]]) (dv (aD I bl.2.1) (ba bl.2.1)) (cq (aD I bl.2.1) (ba bl.2.1)) (.bh (cn a3 bl.2.1) (dv (aD I bl.2.2) (ba bl.2.2)) (cq (aD I bl.2.2) (ba bl.2.2)) (cn a3 bl.2.2) (lI fj lj) (aK.b fj) (bK dK) (bK dK) (.bh (bK dK) (bK dK) (bK iS) (mX (aD I en.2.1) 0 bl.2.1.length) (lv (aD I en.2.1) o9) (cn a3 ((en.2.1.drop 0).take bl.2.1.length)) (mX (aD I en.2.2) 0 bl.2.2.length) (lv (aD I en.2.2) wK) (.cM (cn a3 ((en.2.2.drop 0).take bl.2.2.length)) (oE om jR) (aK.n .i64 om) ln zh))))))))))))))))
  (fun ll =>
  .ret (aU (t17.append [.ah true,.J (o 1 [])]) (nj.az (.e1 (b3 ll)))))))
  (fun lk =>
  .ret (aU (t15.append [.ah true,.J (o 1 [])]) (ni.az (.e1 (b3 lk)))))))
  (fun ku =>
  .ret (aU (t13.append [.ah true,.J (o 1 [])]) (nh.az (.e1 (b3 ku)))))))
  (fun iS =>
  .ret (aU (t11.append [.ah true,.J (o 1 [])]) (ng.az (.e1 (b3 iS)))))))
  (fun dK =>
  .ret (aU (t9.append [.J (o 2 (ad (.call {ac:=[.bo (.agg [.id,.cL (bl.2.1.map I),.cL (bl.2.2.map I)]),ii],r:= .b fj,b5:=true,b6:=[47]}) (o 2 (ch 3 (ad (.ah true) []))))),.ah true,.J (o 1 [])]) (nf.az (.cM (b3 dK) (b3 dK) (b3 dK) (b3 dK) bG))))))))))))))
end Go.Proofs.YtmmbmjbpfklkcaaGreat
