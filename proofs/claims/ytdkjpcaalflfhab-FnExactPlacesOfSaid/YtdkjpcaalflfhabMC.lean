/- Lemmas, plain functions of the program, and what they answer. No condition. -/
import Derived.Test.YtdkjpcaalflfhabMB
namespace Go.Proofs.Ytdkjpcaalflfhab
set_option linter.unusedVariables false
set_option linter.unusedSimpArgs false
open Go Go.VL
def qf (ay:bh)(e6:Int):Option Int :=
 if (decide ((bq (e6-(ay.dO.size:Int)))<(0:Int)))=true then
  some (-1)
 else
  some (bq (e6-(ay.dO.size:Int)))
theorem Eh {ay:bh}{e6:Int}:bP (qf ay e6) (fun r=>Con bE 28 [.agg (a6 ay),.n .i64 e6] [] (.n .i64 r) []):=by
 unfold qf
 exact (let t1:List b8:=[(ap 2),(ap 6),(ap 2)];
  .ite (fun I =>
  .ret (bI (t1.append [.aH true,(ap 1)]) (.ar I)))
  (fun I =>
  .ret (bI (t1.append [.aH false,(ap 2)]) (.ar I))))
def vl (ay:List bh):(Int×Int)→S:=fun (e6,aF)=>ec [(0,.a1 4 (ay.map a6)),(1,.n .i64 e6),(5,.n .i64 aF)] []
def vv (ay:List bh):((Int)⊕(Unit))→el
 | .inl a=>⟨some 0,[(1,.n .i64 a)],[]⟩
 | .inr a=>⟨none,[(4,.n .i64 (-1:Int))],[]⟩
def m4 (ay:List bh)(e6 aF:Int):Option ((Int×Int)⊕((Int)⊕(Unit))) :=
 if (decide (aF<(len_ a6 ay)))=true then
  if 0≤aF∧aF<ay.length then
  ay[aF.toNat]? >>= fun a9 =>
  qf a9 e6 >>= fun cg =>
  if (decide (cg<(0:Int)))=true then
   some (.inr (.inr ()))
  else
   some (.inl (cg,bq (aF+(1:Int))))
  else none
 else
  some (.inr (.inl e6))
def vU (ay:List bh)(e6 aF:Int):Option ((Int)⊕(Unit)):=iter (fun w:Int×Int=>m4 ay w.1 w.2) (e6,aF)
theorem Dc {ay:List bh}{e6 aF:Int}:bP (m4 ay e6 aF) (fV bE 27 0 13 [1,1,1,0,1,0,0] (vl ay (e6,aF)) (vl ay) (vv ay)):=by
 unfold m4
 exact .ite (fun I =>
  .cH fun R =>
  .bp fun a9 aR =>
  .bp fun cg bM =>
  (let t1:List b8:=[(ap 4),.aH true,.bk (aO 3 (aN (.c4 (a6 a9)) (ct 1 (cI 2 (.n .i64 cg) true) 1))),(ap 2)];
  have bb:=((.eS I R.1 (gl a6 R.2) (fr a6 aR) (Eh cg bM) (aT.n .i64 cg)):cr _);
  .ite (fun ca =>
  .ret (bT (t1.append [.aH true,(ap 1),.bB [] [] (bQ [4])]) (bb.aW (.ar ca))))
  (fun ca =>
  .ret (bT (t1.append [.aH false,(ap 3),.bB [] [] (bQ [0,1,5])]) (bb.aW (.ar ca))))))
  (fun I =>
  .ret (bT [(ap 4),.aH false,.bB [] [] (bQ [1])] (.ar I)))
theorem yH {ay:List bh}{e6 aF:Int}{r} (h:vU ay e6 aF=some r):fW bE 27 0 13 [1,1,1,0,1,0,0] (vl ay) (vv ay) (e6,aF) r:=f6 (fun _=>Dc) h
def p6 (ay:List bh)(e6:Int):Option Int :=
 if (decide ((bq (e6-(len_ a6 ay)))<(0:Int)))=true then
  some (-1)
 else
  vU ay (bq (e6-(len_ a6 ay))) 0 >>= fun bX =>
  match bX with
  | .inl dy=>(some dy)
  | .inr dy=>(some (-1))
theorem D2 {ay:List bh}{e6:Int}:bP (p6 ay e6) (fun r=>Con bE 13 [.a1 4 (ay.map a6),.n .i64 e6] [] (.n .i64 r) []):=by
 unfold p6
 exact (let t1:List b8:=[(ap 1),(ap 5),(ap 2)];
  .ite (fun I =>
  .ret (bI (t1.append [.aH true,(ap 1)]) (.ar I)))
  (fun I =>
  .bp fun bX av =>
  (let t2:List b8:=t1.append [.aH false,(ap 1),.bB [] [] (bQ [0,1,5])];
  (by
  rcases bX with dy|dy
  ·exact (.ret (bI (t2.append [.sub (.exit 0) [(1,.n .i64 dy)] [],(ap 2)]) (.aE I (yH av))))
  ·exact (.ret (bI (t2.append [(vv ay (.inr dy)).jk]) (.aE I (yH av))))))))
def p3 (ay:List bw)(e6:Int):Option Int :=
 if (decide ((bq (e6-(len_ bl ay)))<(0:Int)))=true then
  some (-1)
 else
  some (bq (e6-(len_ bl ay)))
theorem DV {ay:List bw}{e6:Int}:bP (p3 ay e6) (fun r=>Con bE 14 [.a1 3 (ay.map bl),.n .i64 e6] [] (.n .i64 r) []):=by
 unfold p3
 exact (let t1:List b8:=[(ap 1),(ap 5),(ap 2)];
  .ite (fun I =>
  .ret (bI (t1.append [.aH true,(ap 1)]) (.ar I)))
  (fun I =>
  .ret (bI (t1.append [.aH false,(ap 2)]) (.ar I))))
def pX (ay:dq)(e6:Int):Option Int :=
 p6 ay.bH e6 >>= fun aQ =>
 if (decide (aQ<(0:Int)))=true then
  some (-1)
 else
  p3 ay.dP aQ >>= fun aM =>
  if (decide (aM<(0:Int)))=true then
   some (-1)
  else
   some aM
theorem DG {ay:dq}{e6:Int}:bP (pX ay e6) (fun r=>Con bE 4 [.agg (hn ay),.n .i64 e6] [] (.n .i64 r) []):=by
 unfold pX
 exact .bp fun aQ R =>
  (let t1:List b8:=[(ap 2),.bk (ct 3 (cI 2 (.n .i64 aQ) true) 1),(ap 2)];
  have bb:=((.aE (D2 aQ R) (aT.n .i64 aQ)):cr _);
  .ite (fun av =>
  .ret (bI (t1.append [.aH true,(ap 1)]) (bb.aW (.ar av))))
  (fun av =>
  .bp fun aM bC =>
  (let t3:List b8:=t1.append [.aH false,.bk (ct 3 (cI 2 (.n .i64 aM) true) 1),(ap 2)];
  have d2:=bb.aW (.br av (DV aM bC) (aT.n .i64 aM));
  .ite (fun bM =>
  .ret (bI (t3.append [.aH true,(ap 1)]) (d2.aW (.ar bM))))
  (fun bM =>
  .ret (bI (t3.append [.aH false,(ap 2)]) (d2.aW (.ar bM)))))))
def sQ (ay:bh):Option bh :=
 some ay
theorem Ei {ay:bh}:bP (sQ ay) (fun r=>Con bE 33 [.agg (a6 ay)] [] (.agg (a6 r)) []):=by
 unfold sQ
 exact .ret (bI [(ap 2),(ap 1),(ap 4),(ap 4),(ap 4),(ap 4),(ap 2)] .nil)
def u7 (ay:List bh):(Int×(List bh))→S:=fun (aF,aJ)=>ec [(0,.a1 4 (ay.map a6)),(3,.bd 0 0 0 aJ.length),(4,.n .i64 aF)] [(aP 4 a6 aJ)]
def vg (ay:List bh):(List bh)→el
 | a=>⟨some 0,[(3,.bd 0 0 0 a.length)],[(aP 4 a6 a)]⟩
def m2 (ay:List bh)(aF:Int)(aJ:List bh):Option ((Int×(List bh))⊕((List bh))) :=
 if (decide (aF<(len_ a6 ay)))=true then
  if 0≤aF∧aF<ay.length then
  ay[aF.toNat]? >>= fun a9 =>
  sQ a9 >>= fun cg =>
  if 0≤aF∧aF<(aJ.length:Nat) then
  if (0+aF.toNat)<aJ.length then
  some (.inl (bq (aF+(1:Int)),aJ.set (0+aF.toNat) cg))
  else none
  else none
  else none
 else
  some (.inr aJ)
def vL (ay:List bh)(aF:Int)(aJ:List bh):Option ((List bh)):=iter (fun w:Int×(List bh)=>m2 ay w.1 w.2) (aF,aJ)
theorem C4 {ay:List bh}{aF:Int}{aJ:List bh}:bP (m2 ay aF aJ) (fV bE 23 0 17 [1,1,0,1,0,0] (u7 ay (aF,aJ)) (u7 ay) (vg ay)):=by
 unfold m2
 exact .ite (fun I =>
  .cH fun R =>
  .bp fun a9 aR =>
  .bp fun cg bM =>
  .cH fun ca =>
  .cH fun gU =>
  .ret (bT [(ap 4),.aH true,.bk (aO 5 (aN (.c4 (a6 a9)) (aN (cI 1 (.agg (a6 cg)) false) (aO 1 (aN .gd []))))),(ap 3),.bB [0] [.gH (aP 4 a6 (aJ.set (0+aF.toNat) cg))] [(0,ii),(3,j9 ((aJ.set (0+aF.toNat) cg).length)),(4,ii)]] (.cs I R.1 (gl a6 R.2) (fr a6 aR) (Ei cg bM) ca.1 ca.2 (yk a6 gU) (.de (yj 4) (ke 4 .live (wT (cb a6 aJ) (0+aF.toNat) cg)) (en 4 .live gp (aJ.set (0+aF.toNat) cg)) (kk (dl aJ) (0+aF.toNat) cg)))))
  (fun I =>
  .ret (bT [(ap 4),.aH false,.bB [0] [.pure] (bQ [3])] (.aE I (en 4 .live gp aJ))))
theorem Dv {ay:List bh}{aF:Int}{aJ:List bh}{r} (h:vL ay aF aJ=some r):fW bE 23 0 17 [1,1,0,1,0,0] (u7 ay) (vg ay) (aF,aJ) r:=f6 (fun _=>C4) h
def pZ (ay:List bh):Option (List bh) :=
 if 0≤(len_ a6 ay)∧(40:Int)*(len_ a6 ay)≤281474976710656∧(len_ a6 ay)<9223372036854775808 then
 vL ay 0 (List.replicate (len_ a6 ay).toNat (⟨ByteArray.empty,0,0,false⟩:bh):List bh) >>= fun bX =>
 some bX
 else none
theorem DO {ay:List bh}:bP (pZ ay) (fun a=>Con bE 17 [.a1 4 (ay.map a6)] [] (.bd 0 0 0 a.length) [(aP 4 a6 a)]):=by
 unfold pZ
 exact .cH fun I =>
  .bp fun bX av =>
  .ret (let cq:=(List.replicate (len_ a6 ay).toNat (⟨ByteArray.empty,0,0,false⟩:bh):List bh);hh [(ap 1),(ap 4),(ap 1),.bB [3] [.gH (aP 4 a6 cq)] [(0,ii),(3,j9 (cq.length)),(4,ii)],(vg ay bX).jk,(ap 2)] [0] [.pure] (.cs I.1 (Int.le_refl (len_ a6 ay)) I.2.1 I.2.2 (ke 4 .live (AH a6 (len_ a6 ay).toNat (⟨ByteArray.empty,0,0,false⟩:bh))) (en 4 .live gp cq) (AK (len_ a6 ay).toNat ((⟨ByteArray.empty,0,0,false⟩:bh):bh)) (Dv av) (.ar (en 4 .live gp bX))))
def sK (ay:bw):Option bw :=
 some ay
theorem D3 {ay:bw}:bP (sK ay) (fun r=>Con bE 34 [.agg (bl ay)] [] (.agg (bl r)) []):=by
 unfold sK
 exact .ret (bI [(ap 2),(ap 1),(ap 4),(ap 4),(ap 4),(ap 2)] .nil)
def u2 (ay:List bw):(Int×(List bw))→S:=fun (aF,aJ)=>ec [(0,.a1 3 (ay.map bl)),(3,.bd 0 0 0 aJ.length),(4,.n .i64 aF)] [(aP 3 bl aJ)]
def u9 (ay:List bw):(List bw)→el
 | a=>⟨some 0,[(3,.bd 0 0 0 a.length)],[(aP 3 bl a)]⟩
def m1 (ay:List bw)(aF:Int)(aJ:List bw):Option ((Int×(List bw))⊕((List bw))) :=
 if (decide (aF<(len_ bl ay)))=true then
  if 0≤aF∧aF<ay.length then
  ay[aF.toNat]? >>= fun a9 =>
  sK a9 >>= fun cg =>
  if 0≤aF∧aF<(aJ.length:Nat) then
  if (0+aF.toNat)<aJ.length then
  some (.inl (bq (aF+(1:Int)),aJ.set (0+aF.toNat) cg))
  else none
  else none
  else none
 else
  some (.inr aJ)
def vD (ay:List bw)(aF:Int)(aJ:List bw):Option ((List bw)):=iter (fun w:Int×(List bw)=>m1 ay w.1 w.2) (aF,aJ)
theorem C0 {ay:List bw}{aF:Int}{aJ:List bw}:bP (m1 ay aF aJ) (fV bE 23 0 18 [1,1,0,1,0,0] (u2 ay (aF,aJ)) (u2 ay) (u9 ay)):=by
 unfold m1
 exact .ite (fun I =>
  .cH fun R =>
  .bp fun a9 aR =>
  .bp fun cg bM =>
  .cH fun ca =>
  .cH fun gU =>
  .ret (bT [(ap 4),.aH true,.bk (aO 5 (aN (.c4 (bl a9)) (aN (cI 1 (.agg (bl cg)) false) (aO 1 (aN .gd []))))),(ap 3),.bB [0] [.gH (aP 3 bl (aJ.set (0+aF.toNat) cg))] [(0,ii),(3,j9 ((aJ.set (0+aF.toNat) cg).length)),(4,ii)]] (.cs I R.1 (gl bl R.2) (fr bl aR) (D3 cg bM) ca.1 ca.2 (yk bl gU) (.de (yj 3) (ke 3 .live (wT (cb bl aJ) (0+aF.toNat) cg)) (en 3 .live gn (aJ.set (0+aF.toNat) cg)) (kk (dl aJ) (0+aF.toNat) cg)))))
  (fun I =>
  .ret (bT [(ap 4),.aH false,.bB [0] [.pure] (bQ [3])] (.aE I (en 3 .live gn aJ))))
theorem Dq {ay:List bw}{aF:Int}{aJ:List bw}{r} (h:vD ay aF aJ=some r):fW bE 23 0 18 [1,1,0,1,0,0] (u2 ay) (u9 ay) (aF,aJ) r:=f6 (fun _=>C0) h
def pY (ay:List bw):Option (List bw) :=
 if 0≤(len_ bl ay)∧(24:Int)*(len_ bl ay)≤281474976710656∧(len_ bl ay)<9223372036854775808 then
 vD ay 0 (List.replicate (len_ bl ay).toNat (⟨0,0,0⟩:bw):List bw) >>= fun bX =>
 some bX
 else none
theorem DH {ay:List bw}:bP (pY ay) (fun a=>Con bE 18 [.a1 3 (ay.map bl)] [] (.bd 0 0 0 a.length) [(aP 3 bl a)]):=by
 unfold pY
 exact .cH fun I =>
  .bp fun bX av =>
  .ret (let cq:=(List.replicate (len_ bl ay).toNat (⟨0,0,0⟩:bw):List bw);hh [(ap 1),(ap 4),(ap 1),.bB [3] [.gH (aP 3 bl cq)] [(0,ii),(3,j9 (cq.length)),(4,ii)],(u9 ay bX).jk,(ap 2)] [0] [.pure] (.cs I.1 (Int.le_refl (len_ bl ay)) I.2.1 I.2.2 (ke 3 .live (AH bl (len_ bl ay).toNat (⟨0,0,0⟩:bw))) (en 3 .live gn cq) (AK (len_ bl ay).toNat ((⟨0,0,0⟩:bw):bw)) (Dq av) (.ar (en 3 .live gn bX))))
def pU (ay:dq):Option ((List bh)×(List bw)) :=
 pZ ay.bH >>= fun aQ =>
 pY ay.dP >>= fun dA =>
 some (aQ,dA)
theorem ob {ay:dq}:bP (pU ay) (fun a=>Con bE 6 [.agg (hn ay)] [] (.agg [.bd 0 0 0 a.1.length,.bd 0 1 0 a.2.length]) [[ao.mk 4 (a.1.map a6) .live,ao.mk 3 (a.2.map bl) .live]]):=by
 unfold pU
 exact .bp fun aQ R =>
  .bp fun dA aR =>
  .ret (hh [(ap 2),(ap 1),.bk (ct 2 (.call {au:=[],bs:=[],ac:=[ii],r:= .bd 0 0 0 aQ.length,bW:=[(aP 4 a6 aQ)],cz:=ii,cO:=[.pure],cy:=[],cj:=true}) 2),.bk (ct 2 (.call {au:=[],bs:=[],ac:=[ii],r:= .bd 0 0 0 dA.length,bW:=[(aP 3 bl dA)],cz:=ii,cO:=[.pure],cy:=[],cj:=true}) 2),(ap 2),.r2 [{bc:=[(5,0),(10,0)],fF:=none},{bc:=[(1,0)]}] [([.pure,.pure],none),([.box [.at_ 0 0 aQ.length,.at_ 0 1 dA.length]],none)] [(2,.bF (.dp (.at_ 1 0 0)))]] [0] [.cK [ao.mk 4 (aQ.map a6) .live,ao.mk 3 (dA.map bl) .live]] (.cs (eZ 4 gp aQ) (DO aQ R) (aT.bd 0 0 0 aQ.length) ((fs (dX (dR nk) fP) ft):eN [(aP 4 a6 aQ)]) (eZ 3 gn dA) (DH dA aR) (aT.bd 0 0 0 dA.length) ((fs (dX (dR nf) fP) ft):eN [(aP 3 bl dA)]) (.kY (en 4 .live gp aQ) (en 3 .live gn dA) (rfl:(hO [{bc:=[(5,0),(10,0)],fF:=none},{bc:=[(1,0)]}]) 0 0=some (5,0)) (rfl:aQ.length=aQ.length) (rfl:(hO [{bc:=[(5,0),(10,0)],fF:=none},{bc:=[(1,0)]}]) 0 1=some (10,0)) (rfl:dA.length=dA.length) (rfl:(hO [{bc:=[(5,0),(10,0)],fF:=none},{bc:=[(1,0)]}]) 1 0=some (1,0)) (c5 (fX (da [0]) 4 nj aQ) (c5 (fX (da [0]) 3 nd dA) (e5 (a2:=(da [0]))))))) (.bF (.agg [.id,.id])))
def k3 (bU tV tW:Int):Option Bool :=
 if (decide (tV≤bU))=true then
  some (decide (bU≤tW))
 else
  some false
theorem oB {bU tV tW:Int}:bP (k3 bU tV tW) (fun r=>Con bE 31 [.n .i64 bU,.n .i64 tV,.n .i64 tW] [] (.b r) []):=by
 unfold k3
 exact .ite (fun I =>
  .ret (bI [(ap 1),.bk (ct 7 (.aH true) 1)] (.de I I I I)))
  (fun I =>
  .ret (bI [(ap 1),.bk (aO 4 (c2 3 (aN (.aH false) (aO 1 []))))] (.de I I I I)))
def vE (bi:ByteArray):Int→S:=fun aF=>ec [(0,.s bi),(3,.n .i64 aF)] []
def yM (bi:ByteArray):((Unit)⊕(Unit))→el
 | .inl a=>⟨some 0,[(0,.s bi)],[]⟩
 | .inr a=>⟨none,[(2,.b false)],[]⟩
def ml (bi:ByteArray)(aF:Int):Option ((Int)⊕((Unit)⊕(Unit))) :=
 if (decide (aF<(bi.size:Int)))=true then
  if 0≤aF∧aF<(bi.size:Nat) then
  if (decide ((97:Int)≤((bi.data.toList.getD aF.toNat 0).toNat:Int)))=true then
   if (decide (((bi.data.toList.getD aF.toNat 0).toNat:Int)≤(122:Int)))=true then
    some (.inl (bq (aF+(1:Int))))
   else
    if (aF == (0:Int))=true then
     some (.inr (.inr ()))
    else
     if (decide (((bi.data.toList.getD aF.toNat 0).toNat:Int)<(48:Int)))=true then
      some (.inr (.inr ()))
     else
      if (decide ((57:Int)<((bi.data.toList.getD aF.toNat 0).toNat:Int)))=true then
       some (.inr (.inr ()))
      else
       some (.inl (bq (aF+(1:Int))))
  else
   if (aF == (0:Int))=true then
    some (.inr (.inr ()))
   else
    if (decide (((bi.data.toList.getD aF.toNat 0).toNat:Int)<(48:Int)))=true then
     some (.inr (.inr ()))
    else
     if (decide ((57:Int)<((bi.data.toList.getD aF.toNat 0).toNat:Int)))=true then
      some (.inr (.inr ()))
     else
      some (.inl (bq (aF+(1:Int))))
  else none
 else
  some (.inr (.inl ()))
def p4 (bi:ByteArray)(aF:Int):Option ((Unit)⊕(Unit)):=iter (fun w:Int=>ml bi w) aF
theorem Dr {bi:ByteArray}{aF:Int}:bP (ml bi aF) (fV bE 42 0 47 [1,0,1,0,0] (vE bi aF) (vE bi) (yM bi)):=by
 unfold ml
 exact .ite (fun I =>
  .cH fun R =>
  .ite (fun av =>
  (let t1:List b8:=[(ap 4),.aH true,.bk (ct 9 (.aH true) 1)];
  have bb:=((.cs I R.1 R.2 av av av R.1 R.2 (.aE av av)):cr _);
  .ite (fun aR =>
  .ret (bT (t1.append [.bk (aO 3 (c2 3 (aO 4 (c2 2 (aO 4 (c2 1 (aN (.aH false) []))))))),.aH false,(ap 3),.bB [] [] (bQ [0,3])]) (bb.aW (.kY (c9 aR) (c9 aR) (c9 aR) (c9 aR) (c9 aR) (c9 aR) (c9 aR) ib))))
  (fun aR =>
  (have db:=bb.aW (.br (c0 aR) (c0 aR) (c0 aR));
  .ite (fun bC =>
  .ret (bT (t1.append [.bk (aO 6 (c2 4 (aN (.aH true) (aO 1 (c2 4 (aO 1 (aN (.aH true) []))))))),.aH true,(ap 1),.bB [] [] (bQ [2])]) (db.aW (.cs bC bC bC bC (c0 aR) bC (c0 aR) cw (.eS cw cw cw (c0 aR) (c0 aR) cw)))))
  (fun bC =>
  (have d2:=db.aW (.cs bC bC bC R.1 R.2 bC (c0 aR) bC (.ar (c0 aR)));
  .ite (fun bM =>
  .ret (bT (t1.append [.bk (aO 10 (aN (.aH false) (aO 1 (c2 4 (aN (.aH true) (aN (.aH true) [])))))),.aH true,(ap 1),.bB [] [] (bQ [2])]) (d2.aW (.kY bM bM bM bM (c0 aR) bM (c0 aR) cw))))
  (fun bM =>
  (let t5:List b8:=t1.append [.bk (aO 10 (aN (.aH false) (aO 5 (aN (.aH false) (aN (.aH true) [])))))];
  have jm:=d2.aW (.cs bM bM bM R.1 R.2 bM (c0 aR) bM (.ar (c0 aR)));
  .ite (fun ca =>
  .ret (bT (t5.append [.aH true,(ap 1),.bB [] [] (bQ [2])]) (jm.aW (.ar ca))))
  (fun ca =>
  .ret (bT (t5.append [.aH false,(ap 3),.bB [] [] (bQ [0,3])]) (jm.aW (.ar ca))))))))))))
  (fun av =>
  (let t1:List b8:=[(ap 4),.aH true,.bk (aO 5 (c2 4 (aN (.aH false) (aO 1 []))))];
  have bb:=((.cs I R.1 R.2 av av av av av (.br cw cw cw)):cr _);
  .ite (fun aR =>
  .ret (bT (t1.append [.bk (aO 6 (c2 4 (aN (.aH true) (aO 1 (c2 4 (aO 2 [])))))),.aH true,(ap 1),.bB [] [] (bQ [2])]) (bb.aW (.cs aR aR aR aR cw aR cw cw (.ee cw cw cw cw cw)))))
  (fun aR =>
  (have db:=bb.aW (.cs aR aR aR R.1 R.2 aR cw aR (.ar cw));
  .ite (fun bC =>
  .ret (bT (t1.append [.bk (aO 10 (aN (.aH false) (aO 1 (c2 4 (aN (.aH true) (aO 1 [])))))),.aH true,(ap 1),.bB [] [] (bQ [2])]) (db.aW (.jl bC bC bC bC cw bC cw))))
  (fun bC =>
  (let t4:List b8:=t1.append [.bk (aO 10 (aN (.aH false) (ct 5 (.aH false) 1)))];
  have k0:=db.aW (.kY bC bC bC R.1 R.2 bC cw bC);
  .ite (fun bM =>
  .ret (bT (t4.append [.aH true,(ap 1),.bB [] [] (bQ [2])]) (k0.aW (.ar bM))))
  (fun bM =>
  .ret (bT (t4.append [.aH false,(ap 3),.bB [] [] (bQ [0,3])]) (k0.aW (.ar bM)))))))))))
  (fun I =>
  .ret (bT [(ap 4),.aH false,.bB [] [] (bQ [0])] (.ar I)))
theorem yT {bi:ByteArray}{aF:Int}{r} (h:p4 bi aF=some r):fW bE 42 0 47 [1,0,1,0,0] (vE bi) (yM bi) aF r:=f6 (fun _=>Dr) h
def ng (bi:ByteArray):Option Bool :=
 p4 bi 0 >>= fun aQ =>
 match aQ with
 | .inl c1=>(k3 (bi.size:Int) 1 8 >>= fun aM =>
  some aM)
 | .inr c1=>(some false)
theorem Es {bi:ByteArray}:bP (ng bi) (fun r=>Con bE 47 [.s bi] [] (.b r) []):=by
 unfold ng
 exact .bp fun aQ R =>
  (let t1:List b8:=[(ap 1),(ap 1),.bB [] [] (bQ [0,3])];
  (by
  rcases aQ with c1|c1
  ·exact (.bp fun aM bC =>
  .ret (bI (t1.append [.sub (.exit 0) [(0,.s bi)] [],.bk (ct 2 (cI 3 (.b aM) true) 1)]) (.br (yT R) (oB aM bC) (aT.b aM))))
  ·exact (.ret (bI (t1.append [.sub (.ret) [(2,.b false)] []]) (.ar (yT R))))))
def k1 (iX:bh):Option Bool :=
 ng iX.dO >>= fun aQ =>
 if aQ=true then
  k3 iX.dK (-50) 50 >>= fun aM =>
  if aM=true then
   k3 iX.dx (-50) 50 >>= fun fl =>
   some fl
  else
   some false
 else
  some false
theorem Ej {iX:bh}:bP (k1 iX) (fun r=>Con bE 29 [.agg (a6 iX)] [] (.b r) []):=by
 unfold k1
 exact .bp fun aQ R =>
  (have aP:=((.aE (Es aQ R) (aT.b aQ)):cr _);
  .ite (fun av =>
  .bp fun aM bC =>
  (have bb:=aP.aW (.eS av av av (oB aM bC) (aT.b aM) av);
  .ite (fun bM =>
  .bp fun fl gU =>
  .ret (bI [(ap 2),.bk (aO 2 (aN (cI 1 (.b aQ) true) (aO 3 (aN (cI 3 (.b aM) true) (aN (.aH true) (aO 3 (aN (cI 3 (.b fl) true) (aN (.aH true) (aO 1 [])))))))))] (bb.aW (.eS bM bM bM (oB fl gU) (aT.b fl) bM))))
  (fun bM =>
  .ret (bI [(ap 2),.bk (aO 2 (aN (cI 1 (.b aQ) true) (aO 3 (aN (cI 3 (.b aM) true) (aN (.aH true) (aO 1 (c2 3 (aN (.aH false) (aO 1 [])))))))))] (bb.aW (.de bM bM bM bM))))))
  (fun av =>
  .ret (bI [(ap 2),.bk (aO 2 (aN (cI 1 (.b aQ) true) (aO 1 (c2 3 (aN (.aH false) (aO 1 (c2 3 (aO 2 []))))))))] (aP.aW (.jl av av av av ib ib ib)))))
def va (gu:ByteArray)(dF:List bh)(jU:Int):Int→S:=fun fo=>ec [(1,.s gu),(8,.a1 4 (dF.map a6)),(9,.n .i64 jU),(10,.n .i64 fo)] []
def yw (gu:ByteArray)(dF:List bh)(jU:Int):((Unit)⊕(Int))→el
 | .inl a=>⟨some 0,[],[]⟩
 | .inr a=>⟨none,[(4,.n .i64 a)],[]⟩
def n7 (gu:ByteArray)(dF:List bh)(jU fo:Int):Option ((Int)⊕((Unit)⊕(Int))) :=
 if (decide (fo<jU))=true then
  if 0≤fo∧fo<dF.length then
  dF[fo.toNat]? >>= fun a9 =>
  if (a9.dO.toList == gu.toList)=true then
   some (.inr (.inr fo))
  else
   some (.inl (bq (fo+(1:Int))))
  else none
 else
  some (.inr (.inl ()))
def oo (gu:ByteArray)(dF:List bh)(jU fo:Int):Option ((Unit)⊕(Int)):=iter (fun w:Int=>n7 gu dF jU w) fo
theorem C5 {gu:ByteArray}{dF:List bh}{jU fo:Int}:bP (n7 gu dF jU fo) (fV bE 21 0 30 [1,0,1,0,0] (va gu dF jU fo) (va gu dF jU) (yw gu dF jU)):=by
 unfold n7
 exact .ite (fun I =>
  .cH fun R =>
  .bp fun a9 aR =>
  (let t1:List b8:=[(ap 1),.aH true,.bk (ct 2 (.c4 (a6 a9)) 3),(ap 4)];
  have bb:=((.de I R.1 (gl a6 R.2) (fr a6 aR)):cr _);
  .ite (fun bC =>
  .ret (bT (t1.append [.aH true,(ap 2),.bB [] [] (bQ [4])]) (bb.aW (.ar bC))))
  (fun bC =>
  .ret (bT (t1.append [.aH false,(ap 2),.bB [] [] (bQ [1,8,9,10])]) (bb.aW (.ar bC))))))
  (fun I =>
  .ret (bT [(ap 1),.aH false,.bB [] [] []] (.ar I)))
theorem yB {gu:ByteArray}{dF:List bh}{jU fo:Int}{r} (h:oo gu dF jU fo=some r):fW bE 21 0 30 [1,0,1,0,0] (va gu dF jU) (yw gu dF jU) fo r:=f6 (fun _=>C5) h
def m7 (bi:dq)(gu:ByteArray):Option Int :=
 oo gu bi.bH (len_ a6 bi.bH) 0 >>= fun aQ =>
 match aQ with
 | .inl c1=>(some (-1))
 | .inr c1=>(some c1)
theorem DP {bi:dq}{gu:ByteArray}:bP (m7 bi gu) (fun r=>Con bE 30 [.agg (hn bi),.s gu] [] (.n .i64 r) []):=by
 unfold m7
 exact .bp fun aQ R =>
  (let t1:List b8:=[(ap 2),(ap 4),.bB [] [] (bQ [1,8,9,10])];
  (by
  rcases aQ with c1|c1
  ·exact (.ret (bI (t1.append [.sub (.exit 0) [] [],(ap 1)]) (.ar (yB R))))
  ·exact (.ret (bI (t1.append [.sub (.ret) [(4,.n .i64 c1)] []]) (.ar (yB R))))))
def u3 (ic:List bh)(jM:Int)(fm:List bw):Int→S:=fun js=>ec [(1,.ref 0 0 0 0),(21,.a1 4 (ic.map a6)),(22,.n .i64 jM),(23,.n .i64 js)] [[ao.mk 2 [[.a1 4 (ic.map a6),.a1 3 (fm.map bl)]] .live]]
def vb (ic:List bh)(jM:Int)(fm:List bw):((Unit)⊕(Unit))→el
 | .inl a=>⟨some 0,[(1,.ref 0 0 0 0)],[[ao.mk 2 [[.a1 4 (ic.map a6),.a1 3 (fm.map bl)]] .live]]⟩
 | .inr a=>⟨none,[(2,.b false)],[]⟩
def ls (ic:List bh)(jM:Int)(fm:List bw)(js:Int):Option ((Int)⊕((Unit)⊕(Unit))) :=
 if (decide (js<jM))=true then
  if 0≤js∧js<ic.length then
  ic[js.toNat]? >>= fun a9 =>
  k1 a9 >>= fun cg =>
  if cg=true then
   m7 (⟨ic,fm⟩:dq) a9.dO >>= fun dm =>
   if (dm != js)=true then
    some (.inr (.inr ()))
   else
    some (.inl (bq (js+(1:Int))))
  else
   some (.inr (.inr ()))
  else none
 else
  some (.inr (.inl ()))
def m6 (ic:List bh)(jM:Int)(fm:List bw)(js:Int):Option ((Unit)⊕(Unit)):=iter (fun w:Int=>ls ic jM fm w) js
theorem C1 {ic:List bh}{jM:Int}{fm:List bw}{js:Int}:bP (ls ic jM fm js) (fV bE 102 0 15 [1,1,0,1,0,0] (u3 ic jM fm js) (u3 ic jM fm) (vb ic jM fm)):=by
 unfold ls
 exact .ite (fun I =>
  .cH fun R =>
  .bp fun a9 aR =>
  .bp fun cg bM =>
  (let t1:List b8:=[(ap 1),.aH true,.bk (ct 2 (.c4 (a6 a9)) 3)];
  have bb:=((.eS I R.1 (gl a6 R.2) (fr a6 aR) (Ej cg bM) (aT.b cg)):cr _);
  .ite (fun ca =>
  .bp fun dm d3 =>
  (let t3:List b8:=t1.append [.bk (aO 1 (aN (cI 1 (.b cg) true) (aO 5 (aN (cI 2 (.n .i64 dm) true) (aO 2 (aN (.aH false) []))))))];
  have d2:=bb.aW (.cs (c9 ca) (c9 ca) (c9 ca) (c9 ca) (DP dm d3) (aT.n .i64 dm) (c9 ca) (c9 ca) (.ar (c9 ca)));
  .ite (fun d4 =>
  .ret (bT (t3.append [.aH true,(ap 1),.bB [] [] (bQ [2])]) (d2.aW (.ar d4))))
  (fun d4 =>
  .ret (bT (t3.append [.aH false,(ap 2),.bB [0] [.box [.id,.id]] (bQ [1,21,22,23])]) (d2.aW (.ar d4))))))
  (fun ca =>
  .ret (bT (t1.append [.bk (aO 1 (aN (cI 1 (.b cg) true) (aO 2 (c2 6 (aN (.aH true) []))))),.aH true,(ap 1),.bB [] [] (bQ [2])]) (bb.aW (.kY (c0 ca) (c0 ca) (c0 ca) (c0 ca) (c0 ca) (c0 ca) (c0 ca) cw))))))
  (fun I =>
  .ret (bT [(ap 1),.aH false,.bB [0] [.box [.id,.id]] (bQ [1])] (.ar I)))
theorem yx {ic:List bh}{jM:Int}{fm:List bw}{js:Int}{r} (h:m6 ic jM fm js=some r):fW bE 102 0 15 [1,1,0,1,0,0] (u3 ic jM fm) (vb ic jM fm) js r:=f6 (fun _=>C1) h
def u4 (jo:Int)(i7:List bw)(jN:Int)(iN:List bh):Int→S:=fun iO=>ec [(1,.ref 0 0 0 0),(5,.n .i64 jo),(45,.a1 3 (i7.map bl)),(46,.n .i64 jN),(47,.n .i64 iO)] [[ao.mk 2 [[.a1 4 (iN.map a6),.a1 3 (i7.map bl)]] .live]]
def yu (jo:Int)(i7:List bw)(jN:Int)(iN:List bh):((Unit)⊕(Unit))→el
 | .inl a=>⟨some 2,[],[]⟩
 | .inr a=>⟨none,[(2,.b false)],[]⟩
def pQ (jo:Int)(i7:List bw)(jN:Int)(iN:List bh)(iO:Int):Option ((Int)⊕((Unit)⊕(Unit))) :=
 if (decide (iO<jN))=true then
  if 0≤iO∧iO<i7.length then
  i7[iO.toNat]? >>= fun a9 =>
  k3 a9.dE 0 jo >>= fun cg =>
  if cg=true then
   k3 a9.dC 0 jo >>= fun dm =>
   if dm=true then
    k3 a9.eo 1 3 >>= fun fB =>
    if fB=true then
     if 0≤a9.dE∧a9.dE<iN.length then
     iN[a9.dE.toNat]? >>= fun py =>
     if 0≤a9.dC∧a9.dC<iN.length then
     iN[a9.dC.toNat]? >>= fun pz =>
     if (py.dK == pz.dK)=true then
      if (py.dx == pz.dx)=true then
       some (.inr (.inr ()))
      else
       if py.dS=true then
        if pz.dS=true then
         some (.inr (.inr ()))
        else
         some (.inl (bq (iO+(1:Int))))
       else
        some (.inl (bq (iO+(1:Int))))
     else
      if py.dS=true then
       if pz.dS=true then
        some (.inr (.inr ()))
       else
        some (.inl (bq (iO+(1:Int))))
      else
       some (.inl (bq (iO+(1:Int))))
     else none
     else none
    else
     some (.inr (.inr ()))
   else
    some (.inr (.inr ()))
  else
   some (.inr (.inr ()))
  else none
 else
  some (.inr (.inl ()))
def vF (jo:Int)(i7:List bw)(jN:Int)(iN:List bh)(iO:Int):Option ((Unit)⊕(Unit)):=iter (fun w:Int=>pQ jo i7 jN iN w) iO
theorem C2 {jo:Int}{i7:List bw}{jN:Int}{iN:List bh}{iO:Int}:bP (pQ jo i7 jN iN iO) (fV bE 102 0 15 [1,1,1,1,0,1,0,0] (u4 jo i7 jN iN iO) (u4 jo i7 jN iN) (yu jo i7 jN iN)):=by
 unfold pQ
 exact .ite (fun I =>
  .cH fun R =>
  .bp fun a9 aR =>
  .bp fun cg bM =>
  (let t1:List b8:=[(ap 1),.aH true,.bk (ct 1 (.c4 (bl a9)) 2)];
  have bb:=((.eS I R.1 (gl bl R.2) (fr bl aR) (oB cg bM) (aT.b cg)):cr _);
  .ite (fun ca =>
  .bp fun dm d3 =>
  (have db:=bb.aW (.kY (c9 ca) (c9 ca) (c9 ca) (c9 ca) (oB dm d3) (aT.b dm) (c9 ca) (c9 ca));
  .ite (fun d4 =>
  .bp fun fB kW =>
  (let t4:List b8:=t1.append [.bk (aO 3 (aN (cI 3 (.b cg) true) (aO 5 (aN (cI 3 (.b dm) true) (aO 1 (aN (.aH false) (aO 3 (aN (cI 3 (.b fB) true) (aO 1 (aN (.aH false) []))))))))))];
  have k0:=db.aW (.jl (c9 d4) (c9 d4) (c9 d4) (oB fB kW) (aT.b fB) (c9 d4) (c9 d4));
  .ite (fun eO =>
  .cH fun eP =>
  .bp fun py kz =>
  .cH fun pA =>
  .bp fun pz uw =>
  (let t6:List b8:=t4.append [.aH false,.bk (ct 5 (.c4 (a6 py)) 2),.bk (ct 5 (.c4 (a6 pz)) 2)];
  have yp:=k0.aW (.jl (c9 eO) eP.1 (gl a6 eP.2) (fr a6 kz) pA.1 (gl a6 pA.2) (fr a6 uw));
  .ite (fun hP =>
  .ite (fun ez =>
  .ret (bT (t6.append [.bk (aO 11 (aN (.aH true) (aO 1 (c2 3 (aO 2 (c2 1 (aN (.aH true) []))))))),.aH true,(ap 1),.bB [] [] (bQ [2])]) (yp.aW (.cs hP hP hP hP hP hP ez ez (.de ez ez ez cw)))))
  (fun ez =>
  (have kF:=yp.aW (.cs hP hP hP hP hP hP ez ez (.ar ez));
  .ite (fun gF =>
  (let t9:List b8:=t6.append [.bk (aO 11 (aN (.aH true) (aO 6 (aN (.aH true) (aN (.aH false) [])))))];
  .ite (fun r4 =>
  .ret (bT (t9.append [.aH true,(ap 1),.bB [] [] (bQ [2])]) (kF.aW (.eS gF gF ez gF ez r4))))
  (fun r4 =>
  .ret (bT (t9.append [.aH false,(ap 2),.bB [0] [.box [.id,.id]] (bQ [1,5,45,46,47])]) (kF.aW (.eS gF gF ez gF ez r4))))))
  (fun gF =>
  .ret (bT (t6.append [.bk (aO 11 (aN (.aH true) (aO 4 (c2 2 (aN (.aH false) (aN (.aH false) [])))))),.aH false,(ap 2),.bB [0] [.box [.id,.id]] (bQ [1,5,45,46,47])]) (kF.aW (.eS gF gF ez gF ez ib)))))))
  (fun hP =>
  (have kF:=yp.aW (.cs hP hP hP hP hP hP ib ib (.ar ib));
  .ite (fun ez =>
  (let t9:List b8:=t6.append [.bk (aO 6 (c2 5 (aN (.aH false) (ct 6 (.aH true) 1))))];
  .ite (fun gF =>
  .ret (bT (t9.append [.aH true,(ap 1),.bB [] [] (bQ [2])]) (kF.aW (.ee ez ez ib ez gF))))
  (fun gF =>
  .ret (bT (t9.append [.aH false,(ap 2),.bB [0] [.box [.id,.id]] (bQ [1,5,45,46,47])]) (kF.aW (.ee ez ez ib ez gF))))))
  (fun ez =>
  .ret (bT (t6.append [.bk (aO 6 (c2 5 (aN (.aH false) (aO 4 (c2 2 (aN (.aH false) (aO 1 []))))))),.aH false,(ap 2),.bB [0] [.box [.id,.id]] (bQ [1,5,45,46,47])]) (kF.aW (.ee ez ez ib ez ib))))))))
  (fun eO =>
  .ret (bT (t4.append [.aH true,(ap 1),.bB [] [] (bQ [2])]) (k0.aW (.ar (c0 eO)))))))
  (fun d4 =>
  .ret (bT (t1.append [.bk (aO 3 (aN (cI 3 (.b cg) true) (aO 5 (aN (cI 3 (.b dm) true) (aO 1 (aN (.aH false) (aO 1 (c2 4 (aN (.aH true) []))))))))),.aH true,(ap 1),.bB [] [] (bQ [2])]) (db.aW (.eS (c0 d4) (c0 d4) (c0 d4) (c0 d4) (c0 d4) cw))))))
  (fun ca =>
  .ret (bT (t1.append [.bk (aO 3 (aN (cI 3 (.b cg) true) (aO 2 (c2 5 (aN (.aH true) (aO 1 (c2 4 (aO 1 [])))))))),.aH true,(ap 1),.bB [] [] (bQ [2])]) (bb.aW (.cs (c0 ca) (c0 ca) (c0 ca) (c0 ca) (c0 ca) (c0 ca) cw cw (.br cw cw cw)))))))
  (fun I =>
  .ret (bT [(ap 1),.aH false,.bB [] [] []] (.ar I)))
theorem yy {jo:Int}{i7:List bw}{jN:Int}{iN:List bh}{iO:Int}{r} (h:vF jo i7 jN iN iO=some r):fW bE 102 0 15 [1,1,1,1,0,1,0,0] (u4 jo i7 jN iN) (yu jo i7 jN iN) iO r:=f6 (fun _=>C2) h
def ou (bi:dq):Option Bool :=
 if (decide ((6:Int)<(len_ a6 bi.bH)))=true then
  some false
 else
  if (decide ((8:Int)<(len_ bl bi.dP)))=true then
   some false
  else
   m6 bi.bH (len_ a6 bi.bH) bi.dP 0 >>= fun dA =>
   match dA with
   | .inl b3=>(vF (bq ((len_ a6 bi.bH)-(1:Int))) bi.dP (len_ bl bi.dP) bi.bH 0 >>= fun fY =>
    match fY with
    | .inl e1=>(some true)
    | .inr e1=>(some false))
   | .inr b3=>(some false)
theorem DI {bi:dq}:bP (ou bi) (fun r=>Con bE 15 [.agg (hn bi)] [] (.b r) []):=by
 unfold ou
 exact .ite (fun I =>
  .ret (bI [(ap 2),.bk (aO 5 (c2 4 (aN (.aH true) []))),.aH true,(ap 1)] (.eS I I I I I cw)))
  (fun I =>
  (let t1:List b8:=[(ap 2),.bk (aO 9 (aN (.aH false) []))];
  .ite (fun R =>
  .ret (bI (t1.append [.aH true,(ap 1)]) (.eS I I I I I R)))
  (fun R =>
  .bp fun dA aR =>
  (let t2:List b8:=t1.append [.aH false,(ap 4),.bB [0] [.box [.id,.id]] (bQ [1,21,22,23])];
  (by
  rcases dA with b3|b3
  ·exact (.bp fun fY ca =>
  (let t3:List b8:=t2.append [(vb bi.bH (len_ a6 bi.bH) bi.dP (.inl b3)).jk,(ap 5),(ap 4),.bB [0] [.box [.id,.id]] (bQ [1,5,45,46,47])];
  have d2:=((.jl I I I I I R (yx aR)):cr _);
  (by
  rcases fY with e1|e1
  ·exact (.ret (bI (t3.append [.sub (.exit 2) [] [],(ap 1)]) (d2.aW (.ar (yy ca)))))
  ·exact (.ret (bI (t3.append [.sub (.ret) [(2,.b false)] []]) (d2.aW (.ar (yy ca))))))))
  ·exact (.ret (bI (t2.append [.sub (.ret) [(2,.b false)] []]) (.jl I I I I I R (yx aR)))))))))
def vw (ay:List Int):Int→S:=fun bU=>ec [(0,.a1 1 (ay.map aq)),(3,.n .i64 bU)] []
def vG (ay:List Int):Int→el
 | a=>⟨some 0,[(0,.a1 1 (ay.map aq)),(3,.n .i64 a)],[]⟩
def m5 (ay:List Int)(bU:Int):Option ((Int)⊕(Int)) :=
 if (decide ((0:Int)<bU))=true then
  if 0≤(bq (bU-(1:Int)))∧(bq (bU-(1:Int)))<ay.length then
  ay[(bq (bU-(1:Int))).toNat]? >>= fun a9 =>
  if (a9 == (0:Int))=true then
   some (.inl (bq (bU-(1:Int))))
  else
   some (.inr bU)
  else none
 else
  some (.inr bU)
def v7 (ay:List Int)(bU:Int):Option (Int):=iter (fun w:Int=>m5 ay w) bU
theorem Dl {ay:List Int}{bU:Int}:bP (m5 ay bU) (fV bE 21 0 63 [1,1,0,0,0] (vw ay bU) (vw ay) (vG ay)):=by
 unfold m5
 exact .ite (fun I =>
  .cH fun R =>
  .bp fun a9 aR =>
  (let t1:List b8:=[.bk (aO 7 (aN (.c4 (aq a9)) (aO 1 (aN (.aH true) []))))];
  have bb:=((.cs I I I I R.1 (gl aq R.2) I (fr aq aR) (.aE I I)):cr _);
  .ite (fun bC =>
  .ret (bT (t1.append [.aH true,(ap 3),.bB [] [] (bQ [0,3])]) (bb.aW (.ar bC))))
  (fun bC =>
  .ret (bT (t1.append [.aH false,.bB [] [] (bQ [0,3])]) (bb.aW (.ar bC))))))
  (fun I =>
  .ret (bT [.bk (aO 3 (c2 6 (aN (.aH false) []))),.aH false,.bB [] [] (bQ [0,3])] (.kY I I I I I I I ib)))
theorem DQ {ay:List Int}{bU:Int}{r} (h:v7 ay bU=some r):fW bE 21 0 63 [1,1,0,0,0] (vw ay) (vG ay) bU r:=f6 (fun _=>Dl) h
def qg (ay:List Int):Option (List Int) :=
 v7 ay (len_ aq ay) >>= fun aQ =>
 if 0≤aQ then
 if 0≤aQ.toNat∧aQ.toNat≤ay.length then
 some ((ay.drop 0).take (aQ.toNat-0))
 else none
 else none
theorem y2 {ay:List Int}:bP (qg ay) (fun r=>Con bE 63 [.a1 1 (ay.map aq)] [] (.a1 1 (r.map aq)) []):=by
 unfold qg
 exact .bp fun aQ R =>
  .cH fun av =>
  .cH fun aR =>
  .ret (bI [(ap 1),(ap 3),.bB [] [] (bQ [0,3]),(vG ay aQ).jk,(ap 4)] (.ee (DQ R) av aR.1 (wU (cb aq ay) aR.2) (congrArg (aj.a1 1) (th (cb aq ay) 0 (aQ.toNat-0)):(.a1 1 (((ay.map aq).drop 0).take (aQ.toNat-0)):aj) = .a1 1 (((ay.drop 0).take (aQ.toNat-0)).map aq))) (.bF (.dp (.gH (.a1 1 (((ay.drop 0).take (aQ.toNat-0)).map aq))))))
def qo (ay:List Int):Option (List Int) :=
 qg ay >>= fun aQ =>
 if (decide ((60:Int)<(len_ aq aQ)))=true then
  some ([]:List Int)
 else
  some aQ
theorem y7 {ay:List Int}:bP (qo ay) (fun r=>Con bE 58 [.a1 1 (ay.map aq)] [] (.a1 1 (r.map aq)) []):=by
 unfold qo
 exact .bp fun aQ R =>
  (let t1:List b8:=[(ap 1),.bk (ct 1 (cI 1 (.a1 1 (aQ.map aq)) false) 1),(ap 3)];
  .ite (fun av =>
  .ret (bI (t1.append [.aH true,(ap 1)]) (.aE (y2 aQ R) av) (.bF (.dp (.jB 1)))))
  (fun av =>
  .ret (bI (t1.append [.aH false,(ap 2)]) (.aE (y2 aQ R) av))))
def na (l5:Bool)(ay:List Int):Option hY :=
 qo ay >>= fun aQ =>
 if l5=true then
  if (([]:List Int)++aQ).length*8≤140737488355328 then
  some (⟨(decide ((0:Int)<(len_ aq aQ))),([]:List Int)++aQ⟩:hY)
  else none
 else
  if (([]:List Int)++aQ).length*8≤140737488355328 then
  some (⟨false,([]:List Int)++aQ⟩:hY)
  else none
theorem v8 {l5:Bool}{ay:List Int}:bP (na l5 ay) (fun r=>Con bE 48 [.b l5,.a1 1 (ay.map aq)] [] (.agg (hU r)) []):=by
 unfold na
 exact .bp fun aQ R =>
  (let t1:List b8:=[(ap 1),.bk (ct 1 (cI 1 (.a1 1 (aQ.map aq)) false) 1)];
  .ite (fun av =>
  .cH fun aR =>
  .ret (let cq:=(([]:List Int)++aQ);bI (t1.append [.bk (aO 5 (aN (.aH true) (ct 2 (.aW (cq.length)) 2)))]) (.cs (y7 aQ R) av av av av (qP (show []=(([]:List Int)).map aq from rfl) (iJ Int)) (hq (iJ Int) (cb aq aQ):cq.length=0+(aQ.map aq).length) aR (.br (nl (gL (show []=(([]:List Int)).map aq from rfl) (iJ Int) (cb aq aQ)) (dl cq)) (hp (gL (show []=(([]:List Int)).map aq from rfl) (iJ Int) (cb aq aQ)) (dl cq)) (eg ch cq))) (.bF (.agg [.id,.fU (cq.map aq)]))))
  (fun av =>
  .cH fun aR =>
  .ret (let dJ:=(([]:List Int)++aQ);bI (t1.append [.bk (aO 2 (c2 3 (aN (.aH false) (ct 2 (.aW (dJ.length)) 2))))]) (.cs (y7 aQ R) av av av av (qP (show []=(([]:List Int)).map aq from rfl) (iJ Int)) (hq (iJ Int) (cb aq aQ):dJ.length=0+(aQ.map aq).length) aR (.br (nl (gL (show []=(([]:List Int)).map aq from rfl) (iJ Int) (cb aq aQ)) (dl dJ)) (hp (gL (show []=(([]:List Int)).map aq from rfl) (iJ Int) (cb aq aQ)) (dl dJ)) (eg ch dJ))) (.bF (.agg [.id,.fU (dJ.map aq)])))))
def vM:(Int×(List Int))→S:=fun (bU,aJ)=>ec [(0,.n .i64 bU),(3,.bd 0 0 0 aJ.length)] [(aP 1 aq aJ)]
def vQ:(List Int)→el
 | a=>⟨some 0,[(3,.bd 0 0 0 a.length)],[(aP 1 aq a)]⟩
def oq (bU:Int)(aJ:List Int):Option ((Int×(List Int))⊕((List Int))) :=
 if (decide ((0:Int)<bU))=true then
  if (aJ++([bU.tmod (1000000000:Int)]:List Int)).length*8≤140737488355328 then
  some (.inl (bq (bU.tdiv (1000000000:Int)),aJ++([bU.tmod (1000000000:Int)]:List Int)))
  else none
 else
  some (.inr aJ)
def wg (bU:Int)(aJ:List Int):Option ((List Int)):=iter (fun w:Int×(List Int)=>oq w.1 w.2) (bU,aJ)
theorem Dw {bU:Int}{aJ:List Int}:bP (oq bU aJ) (fV bE 15 0 49 [1,1,0,0,0] (vM (bU,aJ)) (vM) (vQ)):=by
 unfold oq
 exact .ite (fun I =>
  .cH fun R =>
  .ret (let cq:=(aJ++([(bU.tmod (1000000000:Int))]:List Int));bT [(ap 2),.aH true,.bk (ct 4 (.aW (cq.length)) 1),(ap 3),.bB [7] [.gH (aP 1 aq cq)] (bQ [0,3])] (.cs I (by decide:(1000000000:Int)≠0) (uS aq (bU.tmod (1000000000:Int))) (iI aq aJ) (CE aq aJ (bU.tmod (1000000000:Int))) R (by decide:(1000000000:Int)≠0) (ke 1 .live (CF aq aJ (bU.tmod (1000000000:Int)))) (.ar (en 1 .live ch cq)))))
  (fun I =>
  .ret (bT [(ap 2),.aH false,.bB [0] [.pure] (bQ [3])] (.aE I (en 1 .live ch aJ))))
theorem D4 {bU:Int}{aJ:List Int}{r} (h:wg bU aJ=some r):fW bE 15 0 49 [1,1,0,0,0] (vM) (vQ) (bU,aJ) r:=f6 (fun _=>Dw) h
def oN (bU:Int):Option (List Int) :=
 wg bU ([]:List Int) >>= fun aQ =>
 some aQ
theorem zd {bU:Int}:bP (oN bU) (fun r=>Con bE 49 [.n .i64 bU] [] (.a1 1 (r.map aq)) []):=by
 unfold oN
 exact .bp fun aQ R =>
  .ret (bI [(ap 1),(ap 2),.bB [1] [.gH (aP 1 aq ([]:List Int))] [(0,ii),(3,j9 (([]:List Int).length))],(vQ aQ).jk,(ap 2)] (.jl (ke 1 .live (show []=(([]:List Int)).map aq from rfl)) (en 1 .live ch ([]:List Int)) (iJ Int) (D4 R) (iH aq aQ) (hE aq aQ) (eg ch aQ)) (.bF (.dp (.fU (aQ.map aq)))))
def p7 (bU:Int):Option hY :=
 if (bU == (-9223372036854775808:Int))=true then
  na true ([854775808,223372036,9]:List Int) >>= fun bX =>
  some bX
 else
  if (decide (bU<(0:Int)))=true then
   oN (bq (0-bU)) >>= fun dA =>
   na true dA >>= fun cg =>
   some cg
  else
   oN bU >>= fun dA =>
   na false dA >>= fun cg =>
   some cg
theorem D5 {bU:Int}:bP (p7 bU) (fun r=>Con bE 32 [.n .i64 bU] [] (.agg (hU r)) []):=by
 unfold p7
 exact .ite (fun I =>
  .bp fun bX av =>
  .ret (bI [(ap 1),(ap 2),.aH true,.bk (ct 1 (.pG 3 (.call {ac:=[ii,.bF (.dp (.fU (([854775808,223372036,9]:List Int).map aq)))],r:= .agg (hU bX),cj:=false,cy:=[3]})) 1)] (.ee I (nl (show [[.n .i64 (854775808:Int)],[.n .i64 (223372036:Int)],[.n .i64 (9:Int)]]=(([854775808,223372036,9]:List Int)).map aq from rfl) (show 3=([854775808,223372036,9]:List Int).length from rfl)) (hp (show [[.n .i64 (854775808:Int)],[.n .i64 (223372036:Int)],[.n .i64 (9:Int)]]=(([854775808,223372036,9]:List Int)).map aq from rfl) (show 3=([854775808,223372036,9]:List Int).length from rfl)) (eg ch ([854775808,223372036,9]:List Int)) (v8 bX av))))
  (fun I =>
  (let t1:List b8:=[(ap 1),(ap 2),.aH false,(ap 2)];
  .ite (fun R =>
  .bp fun dA aR =>
  .bp fun cg bM =>
  .ret (bI (t1.append [.aH true,.bk (aO 2 (aN (cI 1 (.a1 1 (dA.map aq)) false) (aN (cI 2 (.agg (hU cg)) false) (aO 1 []))))]) (.de I R (zd dA aR) (v8 cg bM))))
  (fun R =>
  .bp fun dA aR =>
  .bp fun cg bM =>
  .ret (bI (t1.append [.aH false,.bk (aO 1 (aN (cI 1 (.a1 1 (dA.map aq)) false) (aN (cI 2 (.agg (hU cg)) false) (aO 1 []))))]) (.de I R (zd dA aR) (v8 cg bM))))))
def ox (bU:Int):Option cD :=
 p7 bU >>= fun aQ =>
 some (⟨aQ,([1]:List Int)⟩:cD)
theorem yN {bU:Int}:bP (ox bU) (fun r=>Con bE 16 [.n .i64 bU] [] (.agg (cL r)) []):=by
 unfold ox
 exact .bp fun aQ R =>
  .ret (bI [(ap 1),.bk (ct 1 (cI 1 (.agg (hU aQ)) false) 3)] (.de (D5 aQ R) (nl (show [[.n .i64 (1:Int)]]=(([1]:List Int)).map aq from rfl) (show 1=([1]:List Int).length from rfl)) (uS aq 1) (eg ch ([1]:List Int))) (.bF (.agg [.id,.id,.fU (([1]:List Int).map aq)])))
def vm (fx:List bh)(dQ:Int):(Int×(List cD))→S:=fun (jO,aJ)=>ec [(3,.bd 0 0 0 aJ.length),(11,.a1 4 (fx.map a6)),(12,.n .i64 dQ),(13,.n .i64 jO)] [(aP 3 cL aJ)]
def vx (fx:List bh)(dQ:Int):(List cD)→el
 | a=>⟨some 0,[(3,.bd 0 0 0 a.length)],[(aP 3 cL a)]⟩
def oc (fx:List bh)(dQ jO:Int)(aJ:List cD):Option ((Int×(List cD))⊕((List cD))) :=
 if (decide (jO<dQ))=true then
  if 0≤jO∧jO<fx.length then
  fx[jO.toNat]? >>= fun a9 =>
  ox a9.dK >>= fun cg =>
  ox a9.dx >>= fun fl =>
  if (aJ++([cg,fl]:List cD)).length*56≤140737488355328 then
  some (.inl (bq (jO+(1:Int)),aJ++([cg,fl]:List cD)))
  else none
  else none
 else
  some (.inr aJ)
def vV (fx:List bh)(dQ jO:Int)(aJ:List cD):Option ((List cD)):=iter (fun w:Int×(List cD)=>oc fx dQ w.1 w.2) (jO,aJ)
theorem Dd {fx:List bh}{dQ jO:Int}{aJ:List cD}:bP (oc fx dQ jO aJ) (fV bE 28 0 5 [1,1,1,0,1,0,0] (vm fx dQ (jO,aJ)) (vm fx dQ) (vx fx dQ)):=by
 unfold oc
 exact .ite (fun I =>
  .cH fun R =>
  .bp fun a9 aR =>
  .bp fun cg bM =>
  .bp fun fl gU =>
  .cH fun d3 =>
  .ret (let cq:=(aJ++([cg,fl]:List cD));bT [(ap 1),.aH true,.bk (ct 1 (.c4 (a6 a9)) 2),.bk (aO 3 (aN (cI 1 (.agg (cL cg)) false) (aO 2 (aN (cI 1 (.agg (cL fl)) false) (ct 1 (.aW (cq.length)) 1))))),(ap 2),.bB [14] [.gH (aP 3 cL cq)] (bQ [3,11,12,13])] (.cs I R.1 (gl a6 R.2) (fr a6 aR) (yN cg bM) (yN fl gU) (hp (show [(cL cg),(cL fl)]=(([cg,fl]:List cD)).map cL from rfl) (show 2=([cg,fl]:List cD).length from rfl)) (iI cL aJ) (.de (hq (dl aJ) (e4 (show [(cL cg),(cL fl)]=(([cg,fl]:List cD)).map cL from rfl) (show 2=([cg,fl]:List cD).length from rfl)):cq.length=aJ.length+(([(cL cg),(cL fl)].drop 0).take 2).length) d3 (ke 3 .live (gL (cb cL aJ) (dl aJ) (e4 (show [(cL cg),(cL fl)]=(([cg,fl]:List cD)).map cL from rfl) (show 2=([cg,fl]:List cD).length from rfl)))) (en 3 .live lS cq)))))
  (fun I =>
  .ret (bT [(ap 1),.aH false,.bB [0] [.pure] (bQ [3])] (.aE I (en 3 .live lS aJ))))
theorem DJ {fx:List bh}{dQ jO:Int}{aJ:List cD}{r} (h:vV fx dQ jO aJ=some r):fW bE 28 0 5 [1,1,1,0,1,0,0] (vm fx dQ) (vx fx dQ) (jO,aJ) r:=f6 (fun _=>Dd) h
def p8 (bi:dq):Option (List cD) :=
 ou bi >>= fun aQ =>
 if aQ=true then
  vV bi.bH (len_ a6 bi.bH) 0 ([]:List cD) >>= fun aM =>
  some aM
 else
  some ([]:List cD)
theorem D6 {bi:dq}:bP (p8 bi) (fun r=>Con bE 5 [.agg (hn bi)] [] (.a1 3 (r.map cL)) []):=by
 unfold p8
 exact .bp fun aQ R =>
  (let t1:List b8:=[(ap 2),(ap 2),.bk (ct 1 (cI 1 (.b aQ) true) 1)];
  have bb:=((.aE (DI aQ R) (aT.b aQ)):cr _);
  .ite (fun av =>
  .bp fun aM bC =>
  .ret (bI (t1.append [.aH false,(ap 4),.bB [2] [.gH (aP 3 cL ([]:List cD))] [(3,j9 (([]:List cD).length)),(11,ii),(12,ii),(13,ii)],(vx bi.bH (len_ a6 bi.bH) aM).jk,(ap 2)]) (bb.aW (.kY (c9 av) (ke 3 .live (show []=(([]:List cD)).map cL from rfl)) (en 3 .live lS ([]:List cD)) (iJ cD) (DJ bC) (iH cL aM) (hE cL aM) (eg lS aM))) (.bF (.dp (.fU (aM.map cL))))))
  (fun av =>
  .ret (bI (t1.append [.aH true,(ap 1)]) (bb.aW (.ar (c0 av))) (.bF (.dp (.jB 3))))))
def p9 (lk:Int):Option Bool :=
 if (decide ((97:Int)≤lk))=true then
  some (decide (lk≤(122:Int)))
 else
  some false
theorem D7 {lk:Int}:bP (p9 lk) (fun r=>Con bE 59 [.n .u8 lk] [] (.b r) []):=by
 unfold p9
 exact .ite (fun I =>
  .ret (bI [(ap 1),.bk (ct 5 (.aH true) 1)] (.br I I I)))
  (fun I =>
  .ret (bI [(ap 1),.bk (aO 3 (c2 2 (aN (.aH false) (aO 1 []))))] (.br I I I)))
def qh (lk:Int):Option Bool :=
 if (decide ((48:Int)≤lk))=true then
  some (decide (lk≤(57:Int)))
 else
  some false
theorem Ek {lk:Int}:bP (qh lk) (fun r=>Con bE 60 [.n .u8 lk] [] (.b r) []):=by
 unfold qh
 exact .ite (fun I =>
  .ret (bI [(ap 1),.bk (ct 5 (.aH true) 1)] (.br I I I)))
  (fun I =>
  .ret (bI [(ap 1),.bk (aO 3 (c2 2 (aN (.aH false) (aO 1 []))))] (.br I I I)))
def vH (bi:ByteArray)(jV:Int):Int→S:=fun iQ=>ec [(0,.s bi),(5,.n .i64 jV),(6,.n .i64 iQ)] []
def yO (bi:ByteArray)(jV:Int):((Unit)⊕(Unit))→el
 | .inl a=>⟨some 0,[(0,.s bi)],[]⟩
 | .inr a=>⟨none,[(2,.b false)],[]⟩
def pS (bi:ByteArray)(jV iQ:Int):Option ((Int)⊕((Unit)⊕(Unit))) :=
 if (decide (iQ<jV))=true then
  if 0≤iQ∧iQ<(bi.size:Nat) then
  p9 ((bi.data.toList.getD iQ.toNat 0).toNat:Int) >>= fun dA =>
  if dA=true then
   some (.inl (bq (iQ+(1:Int))))
  else
   if (iQ == (0:Int))=true then
    some (.inr (.inr ()))
   else
    qh ((bi.data.toList.getD iQ.toNat 0).toNat:Int) >>= fun fl =>
    if fl=true then
     some (.inl (bq (iQ+(1:Int))))
    else
     some (.inr (.inr ()))
  else none
 else
  some (.inr (.inl ()))
def sI (bi:ByteArray)(jV iQ:Int):Option ((Unit)⊕(Unit)):=iter (fun w:Int=>pS bi jV w) iQ
theorem Ds {bi:ByteArray}{jV iQ:Int}:bP (pS bi jV iQ) (fV bE 33 0 50 [1,0,1,0,0] (vH bi jV iQ) (vH bi jV) (yO bi jV)):=by
 unfold pS
 exact .ite (fun I =>
  .cH fun R =>
  .bp fun dA aR =>
  (let t1:List b8:=[(ap 1),.aH true,(ap 2)];
  have bb:=((.ee I R.1 R.2 (D7 dA aR) (aT.b dA)):cr _);
  .ite (fun bC =>
  .ret (bT (t1.append [.bk (aO 3 (aN (cI 1 (.b dA) true) (aO 2 (c2 3 (aO 5 (c2 1 (aN (.aH false) []))))))),.aH false,(ap 2),.bB [] [] (bQ [0,5,6])]) (bb.aW (.eS (c9 bC) (c9 bC) (c9 bC) (c9 bC) (c9 bC) ib))))
  (fun bC =>
  (have db:=bb.aW (.br (c0 bC) (c0 bC) (c0 bC));
  .ite (fun bM =>
  .ret (bT (t1.append [.bk (aO 3 (aN (cI 1 (.b dA) true) (aO 5 (c2 5 (aN (.aH true) (aN (.aH true) [])))))),.aH true,(ap 1),.bB [] [] (bQ [2])]) (db.aW (.cs bM bM bM bM bM (c0 bC) bM (c0 bC) (.ar cw)))))
  (fun bM =>
  .bp fun fl gU =>
  (let t4:List b8:=t1.append [.bk (aO 3 (aN (cI 1 (.b dA) true) (aO 8 (aN (cI 1 (.b fl) true) (aO 1 (aN (.aH false) (aN (.aH true) [])))))))];
  have k0:=db.aW (.cs bM bM bM R.1 R.2 bM (Ek fl gU) (aT.b fl) (.de bM (c0 bC) bM (c0 bC)));
  .ite (fun d3 =>
  .ret (bT (t4.append [.aH false,(ap 2),.bB [] [] (bQ [0,5,6])]) (k0.aW (.ar (c9 d3)))))
  (fun d3 =>
  .ret (bT (t4.append [.aH true,(ap 1),.bB [] [] (bQ [2])]) (k0.aW (.ar (c0 d3)))))))))))
  (fun I =>
  .ret (bT [(ap 1),.aH false,.bB [] [] (bQ [0])] (.ar I)))
theorem vR {bi:ByteArray}{jV iQ:Int}{r} (h:sI bi jV iQ=some r):fW bE 33 0 50 [1,0,1,0,0] (vH bi jV) (yO bi jV) iQ r:=f6 (fun _=>Ds) h
def qp (bi:ByteArray):Option Bool :=
 sI bi (bi.size:Int) 0 >>= fun aQ =>
 match aQ with
 | .inl c1=>(if (!(bi.toList == (⟨#[]⟩:ByteArray).toList))=true then
  some (decide ((bi.size:Int)≤(8:Int)))
  else
   some false)
 | .inr c1=>(some false)
theorem Et {bi:ByteArray}:bP (qp bi) (fun r=>Con bE 50 [.s bi] [] (.b r) []):=by
 unfold qp
 exact .bp fun aQ R =>
  (let t1:List b8:=[(ap 1),(ap 3),.bB [] [] (bQ [0,5,6])];
  (by
  rcases aQ with c1|c1
  ·exact ((let t2:List b8:=t1.append [.sub (.exit 0) [(0,.s bi)] []];
  .ite (fun aR =>
  .ret (bI (t2.append [.bk (ct 6 (.aH true) 1)]) (.ee (vR R) aR aR aR aR)))
  (fun aR =>
  .ret (bI (t2.append [.bk (aO 3 (c2 3 (aN (.aH false) (aO 1 []))))]) (.ee (vR R) aR aR aR aR)))))
  ·exact (.ret (bI (t1.append [.sub (.ret) [(2,.b false)] []]) (.ar (vR R))))))
def oG (bU:Int):Option Bool :=
 if (decide ((-50:Int)≤bU))=true then
  some (decide (bU≤(50:Int)))
 else
  some false
theorem y3 {bU:Int}:bP (oG bU) (fun r=>Con bE 51 [.n .i64 bU] [] (.b r) []):=by
 unfold oG
 exact .ite (fun I =>
  .ret (bI [(ap 1),.bk (ct 5 (.aH true) 1)] (.br I I I)))
  (fun I =>
  .ret (bI [(ap 1),.bk (aO 3 (c2 2 (aN (.aH false) (aO 1 []))))] (.br I I I)))
def qi (iX:bh):Option Bool :=
 qp iX.dO >>= fun aQ =>
 if aQ=true then
  oG iX.dK >>= fun aM =>
  if aM=true then
   oG iX.dx >>= fun fl =>
   some fl
  else
   some false
 else
  some false
theorem El {iX:bh}:bP (qi iX) (fun r=>Con bE 35 [.agg (a6 iX)] [] (.b r) []):=by
 unfold qi
 exact .bp fun aQ R =>
  (have aP:=((.aE (Et aQ R) (aT.b aQ)):cr _);
  .ite (fun av =>
  .bp fun aM bC =>
  (have bb:=aP.aW (.eS av av av (y3 aM bC) (aT.b aM) av);
  .ite (fun bM =>
  .bp fun fl gU =>
  .ret (bI [(ap 2),.bk (aO 2 (aN (cI 1 (.b aQ) true) (aO 3 (aN (cI 1 (.b aM) true) (aN (.aH true) (aO 3 (aN (cI 1 (.b fl) true) (aN (.aH true) (aO 1 [])))))))))] (bb.aW (.eS bM bM bM (y3 fl gU) (aT.b fl) bM))))
  (fun bM =>
  .ret (bI [(ap 2),.bk (aO 2 (aN (cI 1 (.b aQ) true) (aO 3 (aN (cI 1 (.b aM) true) (aN (.aH true) (aO 1 (c2 3 (aN (.aH false) (aO 1 [])))))))))] (bb.aW (.de bM bM bM bM))))))
  (fun av =>
  .ret (bI [(ap 2),.bk (aO 2 (aN (cI 1 (.b aQ) true) (aO 1 (c2 3 (aN (.aH false) (aO 1 (c2 3 (aO 2 []))))))))] (aP.aW (.jl av av av av ib ib ib)))))
def vS (iX:bh)(dp:ByteArray):Option Bool :=
 some (iX.dO.toList == dp.toList)
theorem DC {iX:bh}{dp:ByteArray}:bP (vS iX dp) (fun r=>Con bE 53 [.agg (a6 iX),.di 1 [[.s dp]] 0 0] [] (.b r) []):=by
 unfold vS
 exact .ret (bI [(ap 2),(ap 5)] .nil)
def uX (bi:List bh)(fJ:ByteArray)(fK:Int):Int→S:=fun dF=>ec [(0,.a1 4 (bi.map a6)),(1,.fn 53 [.di 1 [[.s fJ]] 0 0]),(7,.n .i64 fK),(8,.n .i64 dF)] []
def yr (bi:List bh)(fJ:ByteArray)(fK:Int):((Unit)⊕(Int))→el
 | .inl a=>⟨some 0,[],[]⟩
 | .inr a=>⟨none,[(4,.n .i64 a)],[]⟩
def uY (bi:List bh)(fJ:ByteArray)(fK dF:Int):Option ((Int)⊕((Unit)⊕(Int))) :=
 if (decide (dF<fK))=true then
  if 0≤dF∧dF<bi.length then
  bi[dF.toNat]? >>= fun a9 =>
  vS a9 fJ >>= fun cg =>
  if cg=true then
   some (.inr (.inr dF))
  else
   some (.inl (bq (dF+(1:Int))))
  else none
 else
  some (.inr (.inl ()))
def sw (bi:List bh)(fJ:ByteArray)(fK dF:Int):Option ((Unit)⊕(Int)):=iter (fun w:Int=>uY bi fJ fK w) dF
theorem CU {bi:List bh}{fJ:ByteArray}{fK dF:Int}:bP (uY bi fJ fK dF) (fV bE 19 0 52 [1,0,1,0,0] (uX bi fJ fK dF) (uX bi fJ fK) (yr bi fJ fK)):=by
 unfold uY
 exact .ite (fun I =>
  .cH fun R =>
  .bp fun a9 aR =>
  .bp fun cg bM =>
  (let t1:List b8:=[(ap 1),.aH true,(ap 2),.bk (aO 4 (aN (.c4 (a6 a9)) (aN (cI 2 (.b cg) true) [])))];
  have bb:=((.eS I R.1 (gl a6 R.2) (fr a6 aR) (DC cg bM) (aT.b cg)):cr _);
  .ite (fun ca =>
  .ret (bT (t1.append [.aH true,(ap 2),.bB [] [] (bQ [4])]) (bb.aW (.ar ca))))
  (fun ca =>
  .ret (bT (t1.append [.aH false,(ap 2),.bB [] [] [(0,ii),(1,.comp [.dp .id]),(7,ii),(8,ii)]]) (bb.aW (.ar ca))))))
  (fun I =>
  .ret (bT [(ap 1),.aH false,.bB [] [] []] (.ar I)))
theorem yt {bi:List bh}{fJ:ByteArray}{fK dF:Int}{r} (h:sw bi fJ fK dF=some r):fW bE 19 0 52 [1,0,1,0,0] (uX bi fJ fK) (yr bi fJ fK) dF r:=f6 (fun _=>CU) h
def sx (bi:List bh)(jK:ByteArray):Option Int :=
 sw bi jK (len_ a6 bi) 0 >>= fun aQ =>
 match aQ with
 | .inl c1=>(some (-1))
 | .inr c1=>(some c1)
theorem CX {bi:List bh}{jK:ByteArray}:bP (sx bi jK) (fun r=>Con bE 52 [.a1 4 (bi.map a6),.fn 53 [.di 1 [[.s jK]] 0 0]] [] (.n .i64 r) []):=by
 unfold sx
 exact .bp fun aQ R =>
  (let t1:List b8:=[(ap 1),(ap 3),.bB [] [] [(0,ii),(1,.comp [.dp .id]),(7,ii),(8,ii)]];
  (by
  rcases aQ with c1|c1
  ·exact (.ret (bI (t1.append [.sub (.exit 0) [] [],(ap 1)]) (.ar (yt R))))
  ·exact (.ret (bI (t1.append [.sub (.ret) [(4,.n .i64 c1)] []]) (.ar (yt R))))))
def p1 (bi:dq)(gu:ByteArray):Option Int :=
 sx bi.bH gu >>= fun aQ =>
 some aQ
theorem DR {bi:dq}{gu:ByteArray}:bP (p1 bi gu) (fun r=>Con bE 36 [.agg (hn bi),.s gu] [] (.n .i64 r) []):=by
 unfold p1
 exact .bp fun aQ R =>
  .ret (bI [(ap 3),.bk (ct 3 (.call {ac:=[ii,.comp [.ptr [.id]]],r:= .n .i64 aQ,cj:=true,cy:=[1]}) 1)] (.br (wN (AJ gu):gV [[.s gu]]) (CX aQ R) (aT.n .i64 aQ)))
def pR (bi:dq)(h1:bw):Option Bool :=
 if (decide (h1.dE<(0:Int)))=true then
  some false
 else
  if (decide ((len_ a6 bi.bH)≤h1.dE))=true then
   some false
  else
   if (decide (h1.dC<(0:Int)))=true then
    some false
   else
    if (decide ((len_ a6 bi.bH)≤h1.dC))=true then
     some false
    else
     if (decide (h1.eo<(1:Int)))=true then
      some false
     else
      if (decide ((3:Int)<h1.eo))=true then
       some false
      else
       if 0≤h1.dE∧h1.dE<bi.bH.length then
       bi.bH[h1.dE.toNat]? >>= fun lP =>
       if 0≤h1.dC∧h1.dC<bi.bH.length then
       bi.bH[h1.dC.toNat]? >>= fun fC =>
       if (lP.dK != fC.dK)=true then
        if lP.dS=true then
         some (!fC.dS)
        else
         some true
       else
        if (lP.dx != fC.dx)=true then
         if lP.dS=true then
          some (!fC.dS)
         else
          some true
        else
         some false
       else none
       else none
theorem C6 {bi:dq}{h1:bw}:bP (pR bi h1) (fun r=>Con bE 39 [.di 2 [(hn bi)] 0 0,.agg (bl h1)] [] (.b r) []):=by
 unfold pR
 exact .ite (fun I =>
  .ret (bI [(ap 2),(ap 6),.bk (aO 4 (c2 4 (aN (.aH true) (aO 1 (c2 3 (aO 2 (c2 4 (aO 2 (c2 3 (aO 2 (c2 3 (aO 1 [])))))))))))),.aH true,(ap 1)] (.cs I I I I I cw cw cw (.cs cw cw cw cw cw cw cw cw (.br cw cw cw)))))
  (fun I =>
  .ite (fun R =>
  .ret (bI [(ap 2),(ap 6),.bk (aO 8 (aN (.aH false) (aO 1 (c2 3 (aN (.aH true) (aO 1 (c2 4 (aO 2 (c2 3 (aO 2 (c2 3 (aO 1 [])))))))))))),.aH true,(ap 1)] (.cs I I I I I R R R (.cs R cw cw cw cw cw cw cw (.de cw cw cw cw)))))
  (fun R =>
  (have aP:=((.cs I I I I I R R R (.ar R)):cr _);
  .ite (fun av =>
  .ret (bI [(ap 2),(ap 6),.bk (aO 8 (aN (.aH false) (aO 4 (aN (.aH false) (aO 1 (c2 4 (aN (.aH true) (aO 1 (c2 3 (aO 2 (c2 3 (aO 1 [])))))))))))),.aH true,(ap 1)] (aP.aW (.cs av av av av av cw cw cw (.de cw cw cw cw)))))
  (fun av =>
  .ite (fun aR =>
  .ret (bI [(ap 2),(ap 6),.bk (aO 8 (aN (.aH false) (aO 4 (aN (.aH false) (aO 5 (aN (.aH false) (aO 1 (c2 3 (aN (.aH true) (aO 1 (c2 3 (aO 1 [])))))))))))),.aH true,(ap 1)] (aP.aW (.cs av av av av av aR aR aR (.ee aR cw cw cw cw)))))
  (fun aR =>
  (have bb:=aP.aW (.cs av av av av av aR aR aR (.ar aR));
  .ite (fun bC =>
  .ret (bI [(ap 2),(ap 6),.bk (aO 8 (aN (.aH false) (aO 4 (aN (.aH false) (aO 5 (aN (.aH false) (aO 4 (aN (.aH false) (aO 1 (c2 3 (aN (.aH true) []))))))))))),.aH true,(ap 1)] (bb.aW (.ee bC bC bC bC cw))))
  (fun bC =>
  (let t3:List b8:=[(ap 2),(ap 6),.bk (aO 8 (aN (.aH false) (aO 4 (aN (.aH false) (aO 5 (aN (.aH false) (aO 4 (aN (.aH false) (aO 4 (aN (.aH false) []))))))))))];
  .ite (fun bM =>
  .ret (bI (t3.append [.aH true,(ap 1)]) (bb.aW (.ee bC bC bC bC bM))))
  (fun bM =>
  .cH fun ca =>
  .bp fun lP d3 =>
  .cH fun d4 =>
  .bp fun fC kW =>
  (let t4:List b8:=t3.append [.aH false,.bk (aO 7 (aN (.c4 (a6 lP)) (ct 7 (.c4 (a6 fC)) 4)))];
  have k0:=bb.aW (.cs bC bC bC bC bM ca.1 (gl a6 ca.2) (fr a6 d3) (.br d4.1 (gl a6 d4.2) (fr a6 kW)));
  .ite (fun eO =>
  (have jm:=k0.aW (.cs eO eO eO eO eO eO cw cw (.ar cw));
  .ite (fun eP =>
  .ret (bI (t4.append [.bk (aO 6 (c2 5 (aN (.aH true) (ct 6 (.aH true) 3))))]) (jm.aW (.ee eP eP cw eP cw))))
  (fun eP =>
  .ret (bI (t4.append [.bk (aO 6 (c2 5 (aN (.aH true) (aO 4 (c2 2 (aN (.aH false) (aO 3 [])))))))]) (jm.aW (.ee eP eP cw eP cw))))))
  (fun eO =>
  .ite (fun eP =>
  (have jm:=k0.aW (.cs eO eO eO eO eO eO eP eP (.ar eP));
  .ite (fun ma =>
  .ret (bI (t4.append [.bk (aO 11 (aN (.aH false) (aO 6 (aN (.aH true) (ct 1 (.aH true) 1)))))]) (jm.aW (.eS ma ma eP ma eP eP))))
  (fun ma =>
  .ret (bI (t4.append [.bk (aO 11 (aN (.aH false) (aO 4 (c2 2 (aN (.aH false) (ct 1 (.aH true) 1))))))]) (jm.aW (.eS ma ma eP ma eP eP))))))
  (fun eP =>
  .ret (bI (t4.append [.bk (aO 11 (aN (.aH false) (aO 1 (c2 3 (aO 2 (c2 2 (aN (.aH false) (aO 1 []))))))))]) (k0.aW (.cs eO eO eO eO eO eO eP eP (.de eP eP eP eP))))))))))))))))
def ot (h1:bw)(dp:dq):Option Bool :=
 pR dp h1 >>= fun aQ =>
 some (!aQ)
theorem Dx {h1:bw}{dp:dq}:bP (ot h1 dp) (fun r=>Con bE 38 [.agg (bl h1),.di 2 [(hn dp)] 0 0] [] (.b r) []):=by
 unfold ot
 exact .bp fun aQ R =>
  .ret (bI [(ap 2),.bk (ct 1 (cI 2 (.b aQ) true) 2)] (.aE (C6 aQ R) (aT.b aQ)))
def uW (bi:List bw)(fJ:List bh)(jL:List bw)(fK:Int):Int→S:=fun dF=>ec [(0,.a1 3 (bi.map bl)),(1,.fn 38 [.di 2 [[.a1 4 (fJ.map a6),.a1 3 (jL.map bl)]] 0 0]),(7,.n .i64 fK),(8,.n .i64 dF)] []
def yq (bi:List bw)(fJ:List bh)(jL:List bw)(fK:Int):((Unit)⊕(Int))→el
 | .inl a=>⟨some 0,[],[]⟩
 | .inr a=>⟨none,[(4,.n .i64 a)],[]⟩
def kI (bi:List bw)(fJ:List bh)(jL:List bw)(fK dF:Int):Option ((Int)⊕((Unit)⊕(Int))) :=
 if (decide (dF<fK))=true then
  if 0≤dF∧dF<bi.length then
  bi[dF.toNat]? >>= fun a9 =>
  ot a9 (⟨fJ,jL⟩:dq) >>= fun cg =>
  if cg=true then
   some (.inr (.inr dF))
  else
   some (.inl (bq (dF+(1:Int))))
  else none
 else
  some (.inr (.inl ()))
def pN (bi:List bw)(fJ:List bh)(jL:List bw)(fK dF:Int):Option ((Unit)⊕(Int)):=iter (fun w:Int=>kI bi fJ jL fK w) dF
theorem CT {bi:List bw}{fJ:List bh}{jL:List bw}{fK dF:Int}:bP (kI bi fJ jL fK dF) (fV bE 19 0 54 [1,0,1,0,0] (uW bi fJ jL fK dF) (uW bi fJ jL fK) (yq bi fJ jL fK)):=by
 unfold kI
 exact .ite (fun I =>
  .cH fun R =>
  .bp fun a9 aR =>
  .bp fun cg bM =>
  (let t1:List b8:=[(ap 1),.aH true,(ap 2),.bk (aO 4 (aN (.c4 (bl a9)) (aN (cI 2 (.b cg) true) [])))];
  have bb:=((.eS I R.1 (gl bl R.2) (fr bl aR) (Dx cg bM) (aT.b cg)):cr _);
  .ite (fun ca =>
  .ret (bT (t1.append [.aH true,(ap 2),.bB [] [] (bQ [4])]) (bb.aW (.ar ca))))
  (fun ca =>
  .ret (bT (t1.append [.aH false,(ap 2),.bB [] [] [(0,ii),(1,.comp [.dp .id]),(7,ii),(8,ii)]]) (bb.aW (.ar ca))))))
  (fun I =>
  .ret (bT [(ap 1),.aH false,.bB [] [] []] (.ar I)))
theorem ys {bi:List bw}{fJ:List bh}{jL:List bw}{fK dF:Int}{r} (h:pN bi fJ jL fK dF=some r):fW bE 19 0 54 [1,0,1,0,0] (uW bi fJ jL fK) (yq bi fJ jL fK) dF r:=f6 (fun _=>CT) h
def pP (bi:List bw)(jK:dq):Option Int :=
 pN bi jK.bH jK.dP (len_ bl bi) 0 >>= fun aQ =>
 match aQ with
 | .inl c1=>(some (-1))
 | .inr c1=>(some c1)
theorem CW {bi:List bw}{jK:dq}:bP (pP bi jK) (fun r=>Con bE 54 [.a1 3 (bi.map bl),.fn 38 [.di 2 [(hn jK)] 0 0]] [] (.n .i64 r) []):=by
 unfold pP
 exact .bp fun aQ R =>
  (let t1:List b8:=[(ap 1),(ap 3),.bB [] [] [(0,ii),(1,.comp [.dp .id]),(7,ii),(8,ii)]];
  (by
  rcases aQ with c1|c1
  ·exact (.ret (bI (t1.append [.sub (.exit 0) [] [],(ap 1)]) (.ar (ys R))))
  ·exact (.ret (bI (t1.append [.sub (.ret) [(4,.n .i64 c1)] []]) (.ar (ys R))))))
def pO (bi:List bw)(jK:dq):Option Bool :=
 pP bi jK >>= fun aQ =>
 some (decide ((0:Int)≤aQ))
theorem CV {bi:List bw}{jK:dq}:bP (pO bi jK) (fun r=>Con bE 37 [.a1 3 (bi.map bl),.fn 38 [.di 2 [(hn jK)] 0 0]] [] (.b r) []):=by
 unfold pO
 exact .bp fun aQ R =>
  .ret (bI [(ap 1),.bk (ct 2 (cI 2 (.n .i64 aQ) true) 2)] (.aE (CW aQ R) (aT.n .i64 aQ)))
def u5 (ie:List bh)(jP:Int)(fm:List bw):Int→S:=fun jt=>ec [(1,.ref 0 0 0 0),(16,.a1 4 (ie.map a6)),(17,.n .i64 jP),(18,.n .i64 jt)] [[ao.mk 2 [[.a1 4 (ie.map a6),.a1 3 (fm.map bl)]] .live]]
def vc (ie:List bh)(jP:Int)(fm:List bw):((Unit)⊕(Unit))→el
 | .inl a=>⟨some 0,[(1,.ref 0 0 0 0)],[[ao.mk 2 [[.a1 4 (ie.map a6),.a1 3 (fm.map bl)]] .live]]⟩
 | .inr a=>⟨none,[(2,.b false)],[]⟩
def sy (ie:List bh)(jP:Int)(fm:List bw)(jt:Int):Option ((Int)⊕((Unit)⊕(Unit))) :=
 if (decide (jt<jP))=true then
  if 0≤jt∧jt<ie.length then
  ie[jt.toNat]? >>= fun a9 =>
  qi a9 >>= fun cg =>
  if cg=true then
   p1 (⟨ie,fm⟩:dq) a9.dO >>= fun dm =>
   if (dm != jt)=true then
    some (.inr (.inr ()))
   else
    some (.inl (bq (jt+(1:Int))))
  else
   some (.inr (.inr ()))
  else none
 else
  some (.inr (.inl ()))
def sC (ie:List bh)(jP:Int)(fm:List bw)(jt:Int):Option ((Unit)⊕(Unit)):=iter (fun w:Int=>sy ie jP fm w) jt
theorem C3 {ie:List bh}{jP:Int}{fm:List bw}{jt:Int}:bP (sy ie jP fm jt) (fV bE 40 0 19 [1,1,0,1,0,0] (u5 ie jP fm jt) (u5 ie jP fm) (vc ie jP fm)):=by
 unfold sy
 exact .ite (fun I =>
  .cH fun R =>
  .bp fun a9 aR =>
  .bp fun cg bM =>
  (let t1:List b8:=[(ap 1),.aH true,.bk (ct 2 (.c4 (a6 a9)) 3)];
  have bb:=((.eS I R.1 (gl a6 R.2) (fr a6 aR) (El cg bM) (aT.b cg)):cr _);
  .ite (fun ca =>
  .bp fun dm d3 =>
  (let t3:List b8:=t1.append [.bk (aO 1 (aN (cI 1 (.b cg) true) (aO 5 (aN (cI 2 (.n .i64 dm) true) (aO 2 (aN (.aH false) []))))))];
  have d2:=bb.aW (.cs (c9 ca) (c9 ca) (c9 ca) (c9 ca) (DR dm d3) (aT.n .i64 dm) (c9 ca) (c9 ca) (.ar (c9 ca)));
  .ite (fun d4 =>
  .ret (bT (t3.append [.aH true,(ap 1),.bB [] [] (bQ [2])]) (d2.aW (.ar d4))))
  (fun d4 =>
  .ret (bT (t3.append [.aH false,(ap 2),.bB [0] [.box [.id,.id]] (bQ [1,16,17,18])]) (d2.aW (.ar d4))))))
  (fun ca =>
  .ret (bT (t1.append [.bk (aO 1 (aN (cI 1 (.b cg) true) (aO 2 (c2 6 (aN (.aH true) []))))),.aH true,(ap 1),.bB [] [] (bQ [2])]) (bb.aW (.kY (c0 ca) (c0 ca) (c0 ca) (c0 ca) (c0 ca) (c0 ca) (c0 ca) cw))))))
  (fun I =>
  .ret (bT [(ap 1),.aH false,.bB [0] [.box [.id,.id]] (bQ [1])] (.ar I)))
theorem yz {ie:List bh}{jP:Int}{fm:List bw}{jt:Int}{r} (h:sC ie jP fm jt=some r):fW bE 40 0 19 [1,1,0,1,0,0] (u5 ie jP fm) (vc ie jP fm) jt r:=f6 (fun _=>C3) h
def ov (bi:dq):Option Bool :=
 if (decide ((6:Int)<(len_ a6 bi.bH)))=true then
  some false
 else
  if (decide ((8:Int)<(len_ bl bi.dP)))=true then
   some false
  else
   sC bi.bH (len_ a6 bi.bH) bi.dP 0 >>= fun dA =>
   match dA with
   | .inl b3=>(pO bi.dP bi >>= fun fY =>
    some (!fY))
   | .inr b3=>(some false)
theorem DK {bi:dq}:bP (ov bi) (fun r=>Con bE 19 [.agg (hn bi)] [] (.b r) []):=by
 unfold ov
 exact .ite (fun I =>
  .ret (bI [(ap 2),.bk (aO 5 (c2 4 (aN (.aH true) []))),.aH true,(ap 1)] (.eS I I I I I cw)))
  (fun I =>
  (let t1:List b8:=[(ap 2),.bk (aO 9 (aN (.aH false) []))];
  .ite (fun R =>
  .ret (bI (t1.append [.aH true,(ap 1)]) (.eS I I I I I R)))
  (fun R =>
  .bp fun dA aR =>
  (let t2:List b8:=t1.append [.aH false,(ap 4),.bB [0] [.box [.id,.id]] (bQ [1,16,17,18])];
  (by
  rcases dA with b3|b3
  ·exact (.bp fun fY ca =>
  .ret (bI (t2.append [(vc bi.bH (len_ a6 bi.bH) bi.dP (.inl b3)).jk,.bk (ct 3 (.call {ac:=[ii,.comp [.ptr [.id,.id]]],r:= .b fY,cj:=true,cy:=[0]}) 2)]) (.cs I I I I I R (yz aR) (wN (yX bi):gV [(hn bi)]) (.aE (CV fY ca) (aT.b fY)))))
  ·exact (.ret (bI (t2.append [.sub (.ret) [(2,.b false)] []]) (.jl I I I I I R (yz aR)))))))))
def vy:(Int×(List Int))→S:=fun (bU,aJ)=>ec [(0,.n .u64 bU),(3,.bd 0 0 0 aJ.length)] [(aP 1 aq aJ)]
def vI:(List Int)→el
 | a=>⟨some 0,[(3,.bd 0 0 0 a.length)],[(aP 1 aq a)]⟩
def oi (bU:Int)(aJ:List Int):Option ((Int×(List Int))⊕((List Int))) :=
 if (decide ((0:Int)<bU))=true then
  if (aJ++([IntKind.wrap .i64 (bU.tmod (1000000000:Int))]:List Int)).length*8≤140737488355328 then
  some (.inl (IntKind.wrap .u64 (bU.tdiv (1000000000:Int)),aJ++([IntKind.wrap .i64 (bU.tmod (1000000000:Int))]:List Int)))
  else none
 else
  some (.inr aJ)
def v9 (bU:Int)(aJ:List Int):Option ((List Int)):=iter (fun w:Int×(List Int)=>oi w.1 w.2) (bU,aJ)
theorem Dm {bU:Int}{aJ:List Int}:bP (oi bU aJ) (fV bE 15 0 62 [1,1,0,0,0] (vy (bU,aJ)) (vy) (vI)):=by
 unfold oi
 exact .ite (fun I =>
  .cH fun R =>
  .ret (let cq:=(aJ++([(IntKind.wrap .i64 (bU.tmod (1000000000:Int)))]:List Int));bT [(ap 2),.aH true,.bk (ct 5 (.aW (cq.length)) 1),(ap 3),.bB [8] [.gH (aP 1 aq cq)] (bQ [0,3])] (.cs I (by decide:(1000000000:Int)≠0) (uS aq (IntKind.wrap .i64 (bU.tmod (1000000000:Int)))) (iI aq aJ) (CE aq aJ (IntKind.wrap .i64 (bU.tmod (1000000000:Int)))) R (by decide:(1000000000:Int)≠0) (ke 1 .live (CF aq aJ (IntKind.wrap .i64 (bU.tmod (1000000000:Int))))) (.ar (en 1 .live ch cq)))))
  (fun I =>
  .ret (bT [(ap 2),.aH false,.bB [0] [.pure] (bQ [3])] (.aE I (en 1 .live ch aJ))))
theorem DS {bU:Int}{aJ:List Int}{r} (h:v9 bU aJ=some r):fW bE 15 0 62 [1,1,0,0,0] (vy) (vI) (bU,aJ) r:=f6 (fun _=>Dm) h
def oH (bU:Int):Option (List Int) :=
 v9 bU ([]:List Int) >>= fun aQ =>
 some aQ
theorem y4 {bU:Int}:bP (oH bU) (fun r=>Con bE 62 [.n .u64 bU] [] (.a1 1 (r.map aq)) []):=by
 unfold oH
 exact .bp fun aQ R =>
  .ret (bI [(ap 1),(ap 1),.pf 3 1,.bB [2] [.gH (aP 1 aq ([]:List Int))] [(0,ii),(3,j9 (([]:List Int).length))],(vI aQ).jk,(ap 2)] (.jl (ke 1 .live (sn aq)) (en 1 .live ch ([]:List Int)) (iJ Int) (DS R) (iH aq aQ) (hE aq aQ) (eg ch aQ)) (.bF (.dp (.fU (aQ.map aq)))))
def oJ (l5:Bool)(o8:List Int):Option hY :=
 if l5=true then
  some (⟨(decide ((0:Int)<(len_ aq o8))),o8⟩:hY)
 else
  some (⟨false,o8⟩:hY)
theorem y8 {l5:Bool}{o8:List Int}:bP (oJ l5 o8) (fun r=>Con bE 61 [.b l5,.a1 1 (o8.map aq)] [] (.agg (hU r)) []):=by
 unfold oJ
 exact .ite (fun I =>
  .ret (bI [(ap 1),.bk (ct 5 (.aH true) 3)] (.de I I I I)))
  (fun I =>
  .ret (bI [(ap 1),.bk (aO 2 (c2 3 (aN (.aH false) (aO 3 []))))] (.de I I I I)))
def qj (bU:Int):Option hY :=
 if (decide (bU<(0:Int)))=true then
  oH (IntKind.wrap .u64 ((IntKind.wrap .u64 (bq (0-(bq (bU+(1:Int))))))+(1:Int))) >>= fun bX =>
  oJ true bX >>= fun aM =>
  some aM
 else
  oH (IntKind.wrap .u64 bU) >>= fun bX =>
  oJ false bX >>= fun aM =>
  some aM
theorem Em {bU:Int}:bP (qj bU) (fun r=>Con bE 57 [.n .i64 bU] [] (.agg (hU r)) []):=by
 unfold qj
 exact .ite (fun I =>
  .bp fun bX av =>
  .bp fun aM bC =>
  .ret (bI [(ap 1),(ap 2),.aH true,.bk (aO 5 (aN (cI 1 (.a1 1 (bX.map aq)) false) (aN (cI 2 (.agg (hU aM)) false) (aO 1 []))))] (.br I (y4 bX av) (y8 aM bC))))
  (fun I =>
  .bp fun bX av =>
  .bp fun aM bC =>
  .ret (bI [(ap 1),(ap 2),.aH false,.bk (aO 2 (aN (cI 1 (.a1 1 (bX.map aq)) false) (aN (cI 2 (.agg (hU aM)) false) (aO 1 []))))] (.br I (y4 bX av) (y8 aM bC))))
def qx (bU:Int):Option (Option mx) :=
 qj bU >>= fun aQ =>
 some (some (⟨aQ,([1]:List Int)⟩:mx))
theorem sL {bU:Int}:bP (qx bU) (fun r=>Con bE 41 [.n .i64 bU] [] (jj 3 gr r) []):=by
 unfold qx
 exact .bp fun aQ R =>
  .ret (bI [(ap 1),.bk (ct 1 (cI 1 (.agg (hU aQ)) false) 4)] (.ee (Em aQ R) (nl (show [[.n .i64 (1:Int)]]=(([1]:List Int)).map aq from rfl) (show 1=([1]:List Int).length from rfl)) (uS aq 1) (eg ch ([1]:List Int)) (wN (EB (⟨aQ,([1]:List Int)⟩:mx)):gV [[.b aQ.jT,.a1 1 (aQ.cY.map aq),.a1 1 (([1]:List Int).map aq)]])) (.bF (.tK [.id,.id,.fU (([1]:List Int).map aq)])))
def nn (bi:List Int):Option (Unit⊕(List Int)) :=
 if bi.length*8≤140737488355328 then (match bi with|[]=>some (.inl ())|x::l=>some (.inr (x::l))) else none
theorem E8:Con bE 56 [.dz] [] (.a1 1 []) []:=bI [(ap 1),(ap 2),.aH true,(ap 1)] (.ar cw) (.bF (.dp (.jB 1)))
theorem E9:Con bE 56 [.eL] [] (.a1 1 []) []:=by
 have h:=fun (I:(([]:List Int)++([]:List Int)).length*8≤140737488355328)=>(bI [(ap 1),(ap 2),.aH false,.bk (ct 2 (.aW ((([]:List Int)++([]:List Int)).length)) 1)] (.jl ib (qP (show []=(([]:List Int)).map aq from rfl) (iJ Int)) (hq (iJ Int) (sn aq):(([]:List Int)++([]:List Int)).length=0+([]:List (List aj)).length) I (nl (gL (show []=(([]:List Int)).map aq from rfl) (iJ Int) (sn aq)) (dl (([]:List Int)++([]:List Int)))) (hp (gL (show []=(([]:List Int)).map aq from rfl) (iJ Int) (sn aq)) (dl (([]:List Int)++([]:List Int)))) (eg ch (([]:List Int)++([]:List Int)))) (.bF (.dp (.fU ((([]:List Int)++([]:List Int)).map aq)))):Con bE 56 [.eL] [] (.a1 1 []) [])
 exact h (by decide)
theorem Fa (x:Int)(l:List Int)(I:(([]:List Int)++(x::l)).length*8≤140737488355328):Con bE 56 [.a1 1 ((x::l).map aq)] [] (.bd 0 0 0 (([]:List Int)++(x::l)).length) [(aP 1 aq (([]:List Int)++(x::l)))]:=hh [(ap 1),.bk (aO 1 (aN .gd [])),.aH false,.bk (ct 2 (.aW ((([]:List Int)++(x::l)).length)) 1)] [5] [.gH (aP 1 aq (([]:List Int)++(x::l)))] (.jl (by simp:(x::l).map aq≠[]) ib (qP (show []=(([]:List Int)).map aq from rfl) (iJ Int)) (hq (iJ Int) (cb aq (x::l)):(([]:List Int)++(x::l)).length=0+((x::l).map aq).length) I (ke 1 .live (gL (show []=(([]:List Int)).map aq from rfl) (iJ Int) (cb aq (x::l)))) (en 1 .live ch (([]:List Int)++(x::l))))
theorem oI {bi:List Int}:bP (nn bi) (Sum.elim (fun _=>Con bE 56 [.a1 1 (bi.map aq)] [] (.a1 1 []) []) (fun a=>Con bE 56 [.a1 1 (bi.map aq)] [] (.bd 0 0 0 a.length) [(aP 1 aq a)])):=by
 unfold nn
 refine .cH fun h=> ?_
 cases bi with
 | nil=>exact .ret (Con.dd E8 E9)
 | cons x l =>
  have R:=Fa x l (by simpa using h)
  exact .ret (by simpa using R)
def pT (jz:hY):Option ((Bool)⊕(Bool×(List Int))) :=
 if (decide ((60:Int)<(len_ aq jz.cY)))=true then
  some (.inl false)
 else
  nn jz.cY >>= fun bX =>
  match bX with
  | .inl dy=>(some (.inl jz.jT))
  | .inr dy=>(some (.inr (jz.jT,dy)))
theorem yA {jz:hY}:bP (pT jz) (Sum.elim (fun a=>Con bE 55 [.agg (hU jz)] [] (.agg [.b a,.a1 1 (([]:List Int).map aq)]) []) (fun a=>Con bE 55 [.agg (hU jz)] [] (.agg [.b a.1,.bd 0 0 0 a.2.length]) [(aP 1 aq a.2)])):=by
 unfold pT
 exact .ite (fun I =>
  .ret (hh [(ap 2),(ap 4),.aH true,(ap 2)] [] [] (.ar I) (.bF (.agg [.id,.jB 1]))))
  (fun I =>
  .bp fun bX av =>
  (let t1:List b8:=[(ap 2),(ap 4),.aH false];
  (by
  rcases bX with dy|dy
  ·exact (.ret (hh (t1.append [.bk (ct 4 (.call {au:=[],bs:=[],ac:=[ii],r:= .a1 1 (([]:List Int).map aq),bW:=[],cz:=ii,cO:=[],cy:=[],cj:=true}) 2)]) [] [] (.br I (oI (.inl dy) av) (aT.dd _:aT (.a1 1 (([]:List Int).map aq))))))
  ·exact (.ret (hh (t1.append [.bk (ct 4 (.call {au:=[],bs:=[],ac:=[ii],r:= .bd 0 0 0 dy.length,bW:=[(aP 1 aq dy)],cz:=ii,cO:=[.pure],cy:=[],cj:=true}) 2)]) [10] [.pure] (.eS I (eZ 1 ch dy) (oI (.inr dy) av) (aT.bd 0 0 0 dy.length) ((fs (dX (dR fS) fP) ft):eN [(aP 1 aq dy)]) (en 1 .live ch dy)) (.bF (.agg [.id,.id])))))))
def qk (jz:Option mx):Option ((Bool)⊕((Bool×(List Int))⊕((Bool×(List Int))⊕(Bool×(List Int)×(List Int))))) :=
 jz.elim
 (some (.inl false))
 fun kG =>
 pT kG.tT >>= fun dA =>
 match dA with
 | .inl b3=>(nn kG.tU >>= fun fY =>
  match fY with
  | .inl e1=>(some (.inl b3))
  | .inr e1=>(some (.inr (.inl (b3,e1)))))
 | .inr b3=>(nn kG.tU >>= fun fY =>
  match fY with
  | .inl e1=>(some (.inr (.inr (.inl (b3.1,b3.2)))))
  | .inr e1=>(some (.inr (.inr (.inr (b3.1,b3.2,e1))))))
theorem sH {jz:Option mx}:bP (qk jz) (Sum.elim (fun a=>Con bE 40 [(jj 3 gr jz)] [] (.agg [.b a,.a1 1 (([]:List Int).map aq),.a1 1 (([]:List Int).map aq)]) []) (Sum.elim (fun a=>Con bE 40 [(jj 3 gr jz)] [] (.agg (iA a.1 ([]:List Int) 0 0 0 a.2.length)) [(aP 1 aq a.2)]) (Sum.elim (fun a=>Con bE 40 [(jj 3 gr jz)] [] (.agg (iB a.1 0 0 0 a.2.length ([]:List Int))) [(aP 1 aq a.2)]) (fun a=>Con bE 40 [(jj 3 gr jz)] [] (.agg (iC a.1 0 0 0 a.2.1.length 0 1 0 a.2.2.length)) [[ao.mk 1 (a.2.1.map aq) .live,ao.mk 1 (a.2.2.map aq) .live]])))):=by
 unfold qk
 exact .uu (fun I =>
  .ret (hh [(ap 1),.bk (aO 1 (aN (.dB 3 (.er 3 none) .gd) [])),.aH true,(ap 2)] [] [] (.aE (I6 (aa:=3) (f:=gr) I) cw) (.bF (.agg [.id,.jB 1,.jB 1]))))
  (fun kG I =>
  .bp fun dA aR =>
  (let t1:List b8:=[(ap 1),.bk (aO 1 (aN (.dB 3 (.er 3 (some (gr kG))) .gd) [])),.aH false];
  have bb:=((.br (uv (aa:=3) (f:=gr) I) ib (uv (aa:=3) (f:=gr) I)):cr _);
  (by
  rcases dA with b3|b3
  ·exact (.bp fun fY ca =>
  (have db:=bb.aW (.br (yA (.inl b3) aR) (aT.agg (ck (aT.b b3) (ck (aT.dd _:aT (.a1 1 (([]:List Int).map aq))) fu))) (uv (aa:=3) (f:=gr) I));
  (by
  rcases fY with e1|e1
  ·exact (.ret (hh (t1.append [.bk (aO 1 (aN (.dB 6 (.er 3 (some (gr kG))) .gd) (aO 2 (aN (.call {au:=[],bs:=[],ac:=[ii],r:= .agg [.b b3,.a1 1 (([]:List Int).map aq)],bW:=[],cz:=ii,cO:=[],cy:=[],cj:=true}) (aO 1 (aN (.dB 11 (.er 3 (some (gr kG))) .gd) (ct 2 (.call {au:=[],bs:=[],ac:=[ii],r:= .a1 1 (([]:List Int).map aq),bW:=[],cz:=ii,cO:=[],cy:=[],cj:=true}) 2)))))))]) [] [] (db.aW (.aE (oI (.inl e1) ca) (aT.dd _:aT (.a1 1 (([]:List Int).map aq)))))))
  ·exact (.ret (hh (t1.append [.bk (aO 1 (aN (.dB 6 (.er 3 (some (gr kG))) .gd) (aO 2 (aN (.call {au:=[],bs:=[],ac:=[ii],r:= .agg [.b b3,.a1 1 (([]:List Int).map aq)],bW:=[],cz:=ii,cO:=[],cy:=[],cj:=true}) (aO 1 (aN (.dB 11 (.er 3 (some (gr kG))) .gd) (ct 2 (.call {au:=[],bs:=[],ac:=[ii],r:= .bd 0 0 0 e1.length,bW:=[(aP 1 aq e1)],cz:=ii,cO:=[.pure],cy:=[],cj:=true}) 2)))))))]) [12] [.pure] (db.aW (.ee (eZ 1 ch e1) (oI (.inr e1) ca) (aT.bd 0 0 0 e1.length) ((fs (dX (dR fS) fP) ft):eN [(aP 1 aq e1)]) (en 1 .live ch e1))) (.bF (.agg [.id,.id,.id])))))))
  ·exact (.bp fun fY ca =>
  (have db:=bb.aW (.ee (eZ 1 ch b3.2) (yA (.inr b3) aR) (aT.agg (ck (aT.b b3.1) (ck (aT.bd 0 0 0 b3.2.length) fu))) ((fs (dX (dR fS) fP) ft):eN [(aP 1 aq b3.2)]) (uv (aa:=3) (f:=gr) I));
  (by
  rcases fY with e1|e1
  ·exact (.ret (hh (t1.append [.bk (aO 1 (aN (.dB 6 (.er 3 (some (gr kG))) .gd) (aO 2 (aN (.call {au:=[],bs:=[],ac:=[ii],r:= .agg [.b b3.1,.bd 0 0 0 b3.2.length],bW:=[(aP 1 aq b3.2)],cz:= .bF (.agg [.id,.id]),cO:=[.pure],cy:=[],cj:=true}) (aO 1 (aN (.dB 11 (.er 3 (some (gr kG))) .gd) (ct 2 (.call {au:=[],bs:=[],ac:=[ii],r:= .a1 1 (([]:List Int).map aq),bW:=[],cz:=ii,cO:=[],cy:=[],cj:=true}) 2)))))))]) [7] [.pure] (db.aW (.br (oI (.inl e1) ca) (aT.dd _:aT (.a1 1 (([]:List Int).map aq))) (en 1 .live ch b3.2))) (.bF (.agg [.id,.id,.id]))))
  ·exact (.ret (hh (t1.append [.bk (aO 1 (aN (.dB 6 (.er 3 (some (gr kG))) .gd) (aO 2 (aN (.call {au:=[],bs:=[],ac:=[ii],r:= .agg [.b b3.1,.bd 0 0 0 b3.2.length],bW:=[(aP 1 aq b3.2)],cz:= .bF (.agg [.id,.id]),cO:=[.pure],cy:=[],cj:=true}) (aO 1 (aN (.dB 11 (.er 3 (some (gr kG))) .gd) (ct 2 (.call {au:=[],bs:=[],ac:=[ii],r:= .bd 0 0 0 e1.length,bW:=[(aP 1 aq e1)],cz:=ii,cO:=[.pure],cy:=[],cj:=true}) 2))))))),.r2 [{bc:=[(7,0),(12,0)],fF:=none},{bc:=[(0,0)]}] [([.pure,.pure],none),([.box [.id,.at_ 0 0 b3.2.length,.at_ 0 1 e1.length]],none)] [(2,.bF (.dp (.at_ 1 0 0)))]]) [0] [.cK [ao.mk 1 (b3.2.map aq) .live,ao.mk 1 (e1.map aq) .live]] (db.aW (.cs (eZ 1 ch e1) (oI (.inr e1) ca) (aT.bd 0 0 0 e1.length) ((fs (dX (dR fS) fP) ft):eN [(aP 1 aq e1)]) (en 1 .live ch b3.2) (en 1 .live ch e1) (rfl:(hO [{bc:=[(7,0),(12,0)],fF:=none},{bc:=[(0,0)]}]) 0 0=some (7,0)) (rfl:b3.2.length=b3.2.length) (.de (rfl:(hO [{bc:=[(7,0),(12,0)],fF:=none},{bc:=[(0,0)]}]) 0 1=some (12,0)) (rfl:e1.length=e1.length) (rfl:(hO [{bc:=[(7,0),(12,0)],fF:=none},{bc:=[(0,0)]}]) 1 0=some (0,0)) (c5 (fX (da [0]) 1 dN b3.2) (c5 (fX (da [0]) 1 dN e1) (e5 (a2:=(da [0])))))))) (.bF (.agg [.id,.id,.id]))))))))))
def lQ (bU:Int):Option ((Bool)⊕((Bool×(List Int))⊕((Bool×(List Int))⊕(Bool×(List Int)×(List Int))))) :=
 qx bU >>= fun aQ =>
 qk aQ >>= fun dA =>
 match dA with
 | .inl b3=>(some (.inl b3))
 | .inr (.inl b3)=>(some (.inr (.inl (b3.1,b3.2))))
 | .inr (.inr (.inl b3))=>(some (.inr (.inr (.inl (b3.1,b3.2)))))
 | .inr (.inr (.inr b3))=>(some (.inr (.inr (.inr (b3.1,b3.2.1,b3.2.2)))))
theorem hT {bU:Int}:bP (lQ bU) (Sum.elim (fun a=>Con bE 20 [.n .i64 bU] [] (.agg [.b a,.a1 1 (([]:List Int).map aq),.a1 1 (([]:List Int).map aq)]) []) (Sum.elim (fun a=>Con bE 20 [.n .i64 bU] [] (.agg (iA a.1 ([]:List Int) 0 0 0 a.2.length)) [(aP 1 aq a.2)]) (Sum.elim (fun a=>Con bE 20 [.n .i64 bU] [] (.agg (iB a.1 0 0 0 a.2.length ([]:List Int))) [(aP 1 aq a.2)]) (fun a=>Con bE 20 [.n .i64 bU] [] (.agg (iC a.1 0 0 0 a.2.1.length 0 1 0 a.2.2.length)) [[ao.mk 1 (a.2.1.map aq) .live,ao.mk 1 (a.2.2.map aq) .live]])))):=by
 unfold lQ
 exact .bp fun aQ R =>
  .bp fun dA aR =>
  (by
  rcases dA with b3|b3|b3|b3
  ·exact (.ret (hh [(ap 1),.bk (aO 1 (aN (cI 1 (jj 3 gr aQ) false) (aN (.call {au:=[],bs:=[],ac:=[ii],r:= .agg [.b b3,.a1 1 (([]:List Int).map aq),.a1 1 (([]:List Int).map aq)],bW:=[],cz:=ii,cO:=[],cy:=[],cj:=true}) (aO 1 []))))] [] [] (.br (sL aQ R) (sH (.inl b3) aR) (aT.agg (ck (aT.b b3) (ck (aT.dd _:aT (.a1 1 (([]:List Int).map aq))) (ck (aT.dd _:aT (.a1 1 (([]:List Int).map aq))) fu)))))))
  ·exact (.ret (hh [(ap 1),.bk (aO 1 (aN (cI 1 (jj 3 gr aQ) false) (aN (.call {au:=[],bs:=[],ac:=[ii],r:= .agg (iA b3.1 ([]:List Int) 0 0 0 b3.2.length),bW:=[(aP 1 aq b3.2)],cz:= .bF (.agg [.id,.id,.id]),cO:=[.pure],cy:=[],cj:=true}) (aO 1 []))))] [3] [.pure] (.eS (sL aQ R) (eZ 1 ch b3.2) (sH (.inr (.inl b3)) aR) (aT.agg (ck (aT.b b3.1) (ck (aT.dd _:aT (.a1 1 (([]:List Int).map aq))) (ck (aT.bd 0 0 0 b3.2.length) fu)))) ((fs (dX (dR fS) fP) ft):eN [(aP 1 aq b3.2)]) (en 1 .live ch b3.2)) (.bF (.agg [.id,.id,.id]))))
  ·exact (.ret (hh [(ap 1),.bk (aO 1 (aN (cI 1 (jj 3 gr aQ) false) (aN (.call {au:=[],bs:=[],ac:=[ii],r:= .agg (iB b3.1 0 0 0 b3.2.length ([]:List Int)),bW:=[(aP 1 aq b3.2)],cz:= .bF (.agg [.id,.id,.id]),cO:=[.pure],cy:=[],cj:=true}) (aO 1 []))))] [3] [.pure] (.eS (sL aQ R) (eZ 1 ch b3.2) (sH (.inr (.inr (.inl b3))) aR) (aT.agg (ck (aT.b b3.1) (ck (aT.bd 0 0 0 b3.2.length) (ck (aT.dd _:aT (.a1 1 (([]:List Int).map aq))) fu)))) ((fs (dX (dR fS) fP) ft):eN [(aP 1 aq b3.2)]) (en 1 .live ch b3.2)) (.bF (.agg [.id,.id,.id]))))
  ·exact (.ret (hh [(ap 1),.bk (aO 1 (aN (cI 1 (jj 3 gr aQ) false) (aN (.call {au:=[],bs:=[],ac:=[ii],r:= .agg (iC b3.1 0 0 0 b3.2.1.length 0 1 0 b3.2.2.length),bW:=[[ao.mk 1 (b3.2.1.map aq) .live,ao.mk 1 (b3.2.2.map aq) .live]],cz:= .bF (.agg [.id,.id,.id]),cO:=[.cK [ao.mk 1 (b3.2.1.map aq) .live,ao.mk 1 (b3.2.2.map aq) .live]],cy:=[],cj:=true}) (aO 1 []))))] [3] [.cK [ao.mk 1 (b3.2.1.map aq) .live,ao.mk 1 (b3.2.2.map aq) .live]] (.jl (sL aQ R) (c5 (fX (dW [3]) 1 dN b3.2.1) (c5 (fX (dW [3]) 1 dN b3.2.2) (e5 (a2:=(dW [3]))))) ((f5 rfl (f5 rfl kh)):gv [ao.mk 1 (b3.2.1.map aq) .live,ao.mk 1 (b3.2.2.map aq) .live]) (sH (.inr (.inr (.inr b3))) aR) (aT.agg (ck (aT.b b3.1) (ck (aT.bd 0 0 0 b3.2.1.length) (ck (aT.bd 0 1 0 b3.2.2.length) fu)))) ((fs (dX (dR fS) (dX (dR fS) fP)) ft):eN [[ao.mk 1 (b3.2.1.map aq) .live,ao.mk 1 (b3.2.2.map aq) .live]]) (c5 (fX (da [3]) 1 dN b3.2.1) (c5 (fX (da [3]) 1 dN b3.2.2) (e5 (a2:=(da [3])))))) (.bF (.agg [.id,.id,.id])))))
def vd (fo:List bh)(fx:Int):(Int×(List ak)×(List (List Int)))→S:=fun (dQ,aJ,ae)=>ec [(3,.bd 0 0 0 aJ.length),(10,.a1 4 (fo.map a6)),(11,.n .i64 fx),(12,.n .i64 dQ)] [(aP 3 (a0 1 0) aJ),(eC 1 aq ae)]
def vh (fo:List bh)(fx:Int):((List ak)×(List (List Int)))→el
 | a=>⟨some 0,[(3,.bd 0 0 0 a.1.length)],[(aP 3 (a0 1 0) a.1),(eC 1 aq a.2)]⟩
def m3 (fo:List bh)(fx dQ:Int)(aJ:List ak)(ae:List (List Int)):Option ((Int×(List ak)×(List (List Int)))⊕((List ak)×(List (List Int)))) :=
 if (decide (dQ<fx))=true then
  if 0≤dQ∧dQ<fo.length then
  fo[dQ.toNat]? >>= fun a9 =>
  lQ a9.dK >>= fun cg =>
  match cg with
  | .inl J=>(lQ a9.dx >>= fun dm =>
   match dm with
   | .inl U=>(if (aJ++([(⟨(⟨J,(none:al)⟩:aI),(none:al)⟩:ak),(⟨(⟨U,(none:al)⟩:aI),(none:al)⟩:ak)]:List ak)).length*56≤140737488355328 then
    some (.inl (bq (dQ+(1:Int)),aJ++([(⟨(⟨J,(none:al)⟩:aI),(none:al)⟩:ak),(⟨(⟨U,(none:al)⟩:aI),(none:al)⟩:ak)]:List ak),ae))
    else none)
   | .inr (.inl U)=>(if (aJ++([(⟨(⟨J,(none:al)⟩:aI),(none:al)⟩:ak),(⟨(⟨U.1,(none:al)⟩:aI),(some (ae.length,U.2.length))⟩:ak)]:List ak)).length*56≤140737488355328 then
    some (.inl (bq (dQ+(1:Int)),aJ++([(⟨(⟨J,(none:al)⟩:aI),(none:al)⟩:ak),(⟨(⟨U.1,(none:al)⟩:aI),(some (ae.length,U.2.length))⟩:ak)]:List ak),ae++[U.2]))
    else none)
   | .inr (.inr (.inl U))=>(if (aJ++([(⟨(⟨J,(none:al)⟩:aI),(none:al)⟩:ak),(⟨(⟨U.1,(some (ae.length,U.2.length))⟩:aI),(none:al)⟩:ak)]:List ak)).length*56≤140737488355328 then
    some (.inl (bq (dQ+(1:Int)),aJ++([(⟨(⟨J,(none:al)⟩:aI),(none:al)⟩:ak),(⟨(⟨U.1,(some (ae.length,U.2.length))⟩:aI),(none:al)⟩:ak)]:List ak),ae++[U.2]))
    else none)
   | .inr (.inr (.inr U))=>(if (aJ++([(⟨(⟨J,(none:al)⟩:aI),(none:al)⟩:ak),(⟨(⟨U.1,(some (ae.length,U.2.1.length))⟩:aI),(some ((ae.length+1),U.2.2.length))⟩:ak)]:List ak)).length*56≤140737488355328 then
    some (.inl (bq (dQ+(1:Int)),aJ++([(⟨(⟨J,(none:al)⟩:aI),(none:al)⟩:ak),(⟨(⟨U.1,(some (ae.length,U.2.1.length))⟩:aI),(some ((ae.length+1),U.2.2.length))⟩:ak)]:List ak),ae++[U.2.1,U.2.2]))
    else none))
  | .inr (.inl J)=>(lQ a9.dx >>= fun dm =>
   match dm with
   | .inl U=>(if (aJ++([(⟨(⟨J.1,(none:al)⟩:aI),(some (ae.length,J.2.length))⟩:ak),(⟨(⟨U,(none:al)⟩:aI),(none:al)⟩:ak)]:List ak)).length*56≤140737488355328 then
    some (.inl (bq (dQ+(1:Int)),aJ++([(⟨(⟨J.1,(none:al)⟩:aI),(some (ae.length,J.2.length))⟩:ak),(⟨(⟨U,(none:al)⟩:aI),(none:al)⟩:ak)]:List ak),ae++[J.2]))
    else none)
   | .inr (.inl U)=>(if (aJ++([(⟨(⟨J.1,(none:al)⟩:aI),(some (ae.length,J.2.length))⟩:ak),(⟨(⟨U.1,(none:al)⟩:aI),(some ((ae++[J.2]).length,U.2.length))⟩:ak)]:List ak)).length*56≤140737488355328 then
    some (.inl (bq (dQ+(1:Int)),aJ++([(⟨(⟨J.1,(none:al)⟩:aI),(some (ae.length,J.2.length))⟩:ak),(⟨(⟨U.1,(none:al)⟩:aI),(some ((ae++[J.2]).length,U.2.length))⟩:ak)]:List ak),(ae++[J.2])++[U.2]))
    else none)
   | .inr (.inr (.inl U))=>(if (aJ++([(⟨(⟨J.1,(none:al)⟩:aI),(some (ae.length,J.2.length))⟩:ak),(⟨(⟨U.1,(some ((ae++[J.2]).length,U.2.length))⟩:aI),(none:al)⟩:ak)]:List ak)).length*56≤140737488355328 then
    some (.inl (bq (dQ+(1:Int)),aJ++([(⟨(⟨J.1,(none:al)⟩:aI),(some (ae.length,J.2.length))⟩:ak),(⟨(⟨U.1,(some ((ae++[J.2]).length,U.2.length))⟩:aI),(none:al)⟩:ak)]:List ak),(ae++[J.2])++[U.2]))
    else none)
   | .inr (.inr (.inr U))=>(if (aJ++([(⟨(⟨J.1,(none:al)⟩:aI),(some (ae.length,J.2.length))⟩:ak),(⟨(⟨U.1,(some ((ae++[J.2]).length,U.2.1.length))⟩:aI),(some (((ae++[J.2]).length+1),U.2.2.length))⟩:ak)]:List ak)).length*56≤140737488355328 then
    some (.inl (bq (dQ+(1:Int)),aJ++([(⟨(⟨J.1,(none:al)⟩:aI),(some (ae.length,J.2.length))⟩:ak),(⟨(⟨U.1,(some ((ae++[J.2]).length,U.2.1.length))⟩:aI),(some (((ae++[J.2]).length+1),U.2.2.length))⟩:ak)]:List ak),(ae++[J.2])++[U.2.1,U.2.2]))
    else none))
  | .inr (.inr (.inl J))=>(lQ a9.dx >>= fun dm =>
   match dm with
   | .inl U=>(if (aJ++([(⟨(⟨J.1,(some (ae.length,J.2.length))⟩:aI),(none:al)⟩:ak),(⟨(⟨U,(none:al)⟩:aI),(none:al)⟩:ak)]:List ak)).length*56≤140737488355328 then
    some (.inl (bq (dQ+(1:Int)),aJ++([(⟨(⟨J.1,(some (ae.length,J.2.length))⟩:aI),(none:al)⟩:ak),(⟨(⟨U,(none:al)⟩:aI),(none:al)⟩:ak)]:List ak),ae++[J.2]))
    else none)
   | .inr (.inl U)=>(if (aJ++([(⟨(⟨J.1,(some (ae.length,J.2.length))⟩:aI),(none:al)⟩:ak),(⟨(⟨U.1,(none:al)⟩:aI),(some ((ae++[J.2]).length,U.2.length))⟩:ak)]:List ak)).length*56≤140737488355328 then
    some (.inl (bq (dQ+(1:Int)),aJ++([(⟨(⟨J.1,(some (ae.length,J.2.length))⟩:aI),(none:al)⟩:ak),(⟨(⟨U.1,(none:al)⟩:aI),(some ((ae++[J.2]).length,U.2.length))⟩:ak)]:List ak),(ae++[J.2])++[U.2]))
    else none)
   | .inr (.inr (.inl U))=>(if (aJ++([(⟨(⟨J.1,(some (ae.length,J.2.length))⟩:aI),(none:al)⟩:ak),(⟨(⟨U.1,(some ((ae++[J.2]).length,U.2.length))⟩:aI),(none:al)⟩:ak)]:List ak)).length*56≤140737488355328 then
    some (.inl (bq (dQ+(1:Int)),aJ++([(⟨(⟨J.1,(some (ae.length,J.2.length))⟩:aI),(none:al)⟩:ak),(⟨(⟨U.1,(some ((ae++[J.2]).length,U.2.length))⟩:aI),(none:al)⟩:ak)]:List ak),(ae++[J.2])++[U.2]))
    else none)
   | .inr (.inr (.inr U))=>(if (aJ++([(⟨(⟨J.1,(some (ae.length,J.2.length))⟩:aI),(none:al)⟩:ak),(⟨(⟨U.1,(some ((ae++[J.2]).length,U.2.1.length))⟩:aI),(some (((ae++[J.2]).length+1),U.2.2.length))⟩:ak)]:List ak)).length*56≤140737488355328 then
    some (.inl (bq (dQ+(1:Int)),aJ++([(⟨(⟨J.1,(some (ae.length,J.2.length))⟩:aI),(none:al)⟩:ak),(⟨(⟨U.1,(some ((ae++[J.2]).length,U.2.1.length))⟩:aI),(some (((ae++[J.2]).length+1),U.2.2.length))⟩:ak)]:List ak),(ae++[J.2])++[U.2.1,U.2.2]))
    else none))
  | .inr (.inr (.inr J))=>(lQ a9.dx >>= fun dm =>
   match dm with
   | .inl U=>(if (aJ++([(⟨(⟨J.1,(some (ae.length,J.2.1.length))⟩:aI),(some ((ae.length+1),J.2.2.length))⟩:ak),(⟨(⟨U,(none:al)⟩:aI),(none:al)⟩:ak)]:List ak)).length*56≤140737488355328 then
    some (.inl (bq (dQ+(1:Int)),aJ++([(⟨(⟨J.1,(some (ae.length,J.2.1.length))⟩:aI),(some ((ae.length+1),J.2.2.length))⟩:ak),(⟨(⟨U,(none:al)⟩:aI),(none:al)⟩:ak)]:List ak),ae++[J.2.1,J.2.2]))
    else none)
   | .inr (.inl U)=>(if (aJ++([(⟨(⟨J.1,(some (ae.length,J.2.1.length))⟩:aI),(some ((ae.length+1),J.2.2.length))⟩:ak),(⟨(⟨U.1,(none:al)⟩:aI),(some ((ae++[J.2.1,J.2.2]).length,U.2.length))⟩:ak)]:List ak)).length*56≤140737488355328 then
    some (.inl (bq (dQ+(1:Int)),aJ++([(⟨(⟨J.1,(some (ae.length,J.2.1.length))⟩:aI),(some ((ae.length+1),J.2.2.length))⟩:ak),(⟨(⟨U.1,(none:al)⟩:aI),(some ((ae++[J.2.1,J.2.2]).length,U.2.length))⟩:ak)]:List ak),(ae++[J.2.1,J.2.2])++[U.2]))
    else none)
   | .inr (.inr (.inl U))=>(if (aJ++([(⟨(⟨J.1,(some (ae.length,J.2.1.length))⟩:aI),(some ((ae.length+1),J.2.2.length))⟩:ak),(⟨(⟨U.1,(some ((ae++[J.2.1,J.2.2]).length,U.2.length))⟩:aI),(none:al)⟩:ak)]:List ak)).length*56≤140737488355328 then
    some (.inl (bq (dQ+(1:Int)),aJ++([(⟨(⟨J.1,(some (ae.length,J.2.1.length))⟩:aI),(some ((ae.length+1),J.2.2.length))⟩:ak),(⟨(⟨U.1,(some ((ae++[J.2.1,J.2.2]).length,U.2.length))⟩:aI),(none:al)⟩:ak)]:List ak),(ae++[J.2.1,J.2.2])++[U.2]))
    else none)
   | .inr (.inr (.inr U))=>(if (aJ++([(⟨(⟨J.1,(some (ae.length,J.2.1.length))⟩:aI),(some ((ae.length+1),J.2.2.length))⟩:ak),(⟨(⟨U.1,(some ((ae++[J.2.1,J.2.2]).length,U.2.1.length))⟩:aI),(some (((ae++[J.2.1,J.2.2]).length+1),U.2.2.length))⟩:ak)]:List ak)).length*56≤140737488355328 then
    some (.inl (bq (dQ+(1:Int)),aJ++([(⟨(⟨J.1,(some (ae.length,J.2.1.length))⟩:aI),(some ((ae.length+1),J.2.2.length))⟩:ak),(⟨(⟨U.1,(some ((ae++[J.2.1,J.2.2]).length,U.2.1.length))⟩:aI),(some (((ae++[J.2.1,J.2.2]).length+1),U.2.2.length))⟩:ak)]:List ak),(ae++[J.2.1,J.2.2])++[U.2.1,U.2.2]))
    else none))
  else none
 else
  some (.inr (aJ,ae))
def yP (fo:List bh)(fx dQ:Int)(aJ:List ak)(ae:List (List Int)):Option ((List ak)×(List (List Int))):=iter (fun w:Int×(List ak)×(List (List Int))=>m3 fo fx w.1 w.2.1 w.2.2) (dQ,aJ,ae)
set_option maxHeartbeats 4000000 in
theorem C7 {fo:List bh}{fx dQ:Int}{aJ:List ak}{ae:List (List Int)}:bP (m3 fo fx dQ aJ ae) (fV bE 27 0 7 [1,1,1,0,1,0,0] (vd fo fx (dQ,aJ,ae)) (vd fo fx) (vh fo fx)):=by
 unfold m3
 exact .ite (fun I =>
  .cH fun R =>
  .bp fun a9 aR =>
  .bp fun cg bM =>
  (let t1:List b8:=[(ap 1),.aH true,.bk (ct 1 (.c4 (a6 a9)) 2)];
  have bb:=((.de I R.1 (gl a6 R.2) (fr a6 aR)):cr _);
  (by
  rcases cg with J|J|J|J
  ·exact (.bp fun dm d3 =>
  (have db:=bb.aW (.aE (hT (.inl J) bM) (aT.agg (ck (aT.b J) (ck (aT.dd _:aT (.a1 1 (([]:List Int).map aq))) (ck (aT.dd _:aT (.a1 1 (([]:List Int).map aq))) fu)))));
  (by
  rcases dm with U|U|U|U
  ·exact (.cH fun d5 =>
  .ret (let cq:=(aJ++([(⟨(⟨J,(none:al)⟩:aI),(none:al)⟩:ak),(⟨(⟨U,(none:al)⟩:aI),(none:al)⟩:ak)]:List ak));let dJ:=da [15,1];bT (t1.append [.bk (aO 3 (aN (.call {au:=[],bs:=[],ac:=[ii],r:= .agg [.b J,.a1 1 (([]:List Int).map aq),.a1 1 (([]:List Int).map aq)],bW:=[],cz:=ii,cO:=[],cy:=[],cj:=true}) (aO 2 (aN (.call {au:=[],bs:=[],ac:=[ii],r:= .agg [.b U,.a1 1 (([]:List Int).map aq),.a1 1 (([]:List Int).map aq)],bW:=[],cz:=ii,cO:=[],cy:=[],cj:=true}) (aN (.dB 19 (.agg [.b J,ax 1 0 1 (none:al),ax 1 0 1 (none:al)]) (.dB 22 (.agg [.b U,ax 1 0 1 (none:al),ax 1 0 1 (none:al)]) .none)) (aN (.aW (cq.length)) (aO 1 []))))))),(ap 2),.bB [15,1] [.cK (aP 3 (a0 1 0) cq),.cK (eC 1 aq ae)] (bQ [3,10,11,12])]) (db.aW (.cs (hT (.inl U) d3) (aT.agg (ck (aT.b U) (ck (aT.dd _:aT (.a1 1 (([]:List Int).map aq))) (ck (aT.dd _:aT (.a1 1 (([]:List Int).map aq))) fu)))) (fv ⟨.refl _,.dc 1 0 1,.dc 1 0 1,trivial⟩:dg (.agg [.b J,.a1 1 (([]:List Int).map aq),.a1 1 (([]:List Int).map aq)]) (.agg [.b J,ax 1 0 1 (none:al),ax 1 0 1 (none:al)])) (fv ⟨.refl _,.dc 1 0 1,.dc 1 0 1,trivial⟩:dg (.agg [.b U,.a1 1 (([]:List Int).map aq),.a1 1 (([]:List Int).map aq)]) (.agg [.b U,ax 1 0 1 (none:al),ax 1 0 1 (none:al)])) (hp (show [[.b J,ax 1 0 1 (none:al),ax 1 0 1 (none:al)],[.b U,ax 1 0 1 (none:al),ax 1 0 1 (none:al)]]=(([(⟨(⟨J,(none:al)⟩:aI),(none:al)⟩:ak),(⟨(⟨U,(none:al)⟩:aI),(none:al)⟩:ak)]:List ak)).map (a0 1 0) from rfl) (show 2=([(⟨(⟨J,(none:al)⟩:aI),(none:al)⟩:ak),(⟨(⟨U,(none:al)⟩:aI),(none:al)⟩:ak)]:List ak).length from rfl)) (iI (a0 1 0) aJ) (hq (dl aJ) (e4 (show [[.b J,ax 1 0 1 (none:al),ax 1 0 1 (none:al)],[.b U,ax 1 0 1 (none:al),ax 1 0 1 (none:al)]]=(([(⟨(⟨J,(none:al)⟩:aI),(none:al)⟩:ak),(⟨(⟨U,(none:al)⟩:aI),(none:al)⟩:ak)]:List ak)).map (a0 1 0) from rfl) (show 2=([(⟨(⟨J,(none:al)⟩:aI),(none:al)⟩:ak),(⟨(⟨U,(none:al)⟩:aI),(none:al)⟩:ak)]:List ak).length from rfl)):cq.length=aJ.length+(([[.b J,ax 1 0 1 (none:al),ax 1 0 1 (none:al)],[.b U,ax 1 0 1 (none:al),ax 1 0 1 (none:al)]].drop 0).take 2).length) d5 (.aE (c5 (fG (a2:=dJ) 3 .live (a0 1 0) (gL (cb (a0 1 0) aJ) (dl aJ) (e4 (show [[.b J,ax 1 0 1 (none:al),ax 1 0 1 (none:al)],[.b U,ax 1 0 1 (none:al),ax 1 0 1 (none:al)]]=(([(⟨(⟨J,(none:al)⟩:aI),(none:al)⟩:ak),(⟨(⟨U,(none:al)⟩:aI),(none:al)⟩:ak)]:List ak)).map (a0 1 0) from rfl) (show 2=([(⟨(⟨J,(none:al)⟩:aI),(none:al)⟩:ak),(⟨(⟨U,(none:al)⟩:aI),(none:al)⟩:ak)]:List ak).length from rfl))) (fun x=>(fO (rfl:dJ 1=some 1)) x)) (e5 (a2:=dJ))) (lp dJ 1 dN ae))))))
  ·exact (.cH fun d5 =>
  .ret (let ek:=(aJ++([(⟨(⟨J,(none:al)⟩:aI),(none:al)⟩:ak),(⟨(⟨U.1,(none:al)⟩:aI),(some (ae.length,U.2.length))⟩:ak)]:List ak));let hD:=da [15,1];bT (t1.append [.bk (aO 3 (aN (.call {au:=[],bs:=[],ac:=[ii],r:= .agg [.b J,.a1 1 (([]:List Int).map aq),.a1 1 (([]:List Int).map aq)],bW:=[],cz:=ii,cO:=[],cy:=[],cj:=true}) (aO 2 (aN (.gj 1 (ae.length+0) (.call {au:=[],bs:=[],ac:=[ii],r:= .agg (iA U.1 ([]:List Int) 0 0 0 U.2.length),bW:=[(aP 1 aq U.2)],cz:= .bF (.agg [.id,.id,.id]),cO:=[.pure],cy:=[],cj:=true})) (aN (.dB 19 (.agg [.b J,ax 1 0 1 (none:al),ax 1 0 1 (none:al)]) (.dB 22 (.agg [.b U.1,ax 1 0 1 (none:al),ax 1 0 1 (some (ae.length,U.2.length))]) .none)) (aN (.aW (ek.length)) (aO 1 []))))))),(ap 2),.bB [15,1] [.cK (aP 3 (a0 1 0) ek),.cK (eC 1 aq (ae++[U.2]))] (bQ [3,10,11,12])]) (db.aW (.cs (eZ 1 ch U.2) (hT (.inr (.inl U)) d3) (aT.agg (ck (aT.b U.1) (ck (aT.dd _:aT (.a1 1 (([]:List Int).map aq))) (ck (aT.bd 0 0 0 U.2.length) fu)))) ((fs (dX (dR fS) fP) ft):eN [(aP 1 aq U.2)]) (congrArg (· + 0) (jJ (eJ .live 1 aq ae) rfl)) (fv ⟨.refl _,.dc 1 0 1,.dc 1 0 1,trivial⟩:dg (.agg [.b J,.a1 1 (([]:List Int).map aq),.a1 1 (([]:List Int).map aq)]) (.agg [.b J,ax 1 0 1 (none:al),ax 1 0 1 (none:al)])) (fv ⟨.refl _,.dc 1 0 1,.s2 1 0 1 ae.length U.2.length,trivial⟩:dg (.agg (iA U.1 ([]:List Int) 1 (ae.length+0) 0 U.2.length)) (.agg [.b U.1,ax 1 0 1 (none:al),ax 1 0 1 (some (ae.length,U.2.length))])) (hp (show [[.b J,ax 1 0 1 (none:al),ax 1 0 1 (none:al)],[.b U.1,ax 1 0 1 (none:al),ax 1 0 1 (some (ae.length,U.2.length))]]=(([(⟨(⟨J,(none:al)⟩:aI),(none:al)⟩:ak),(⟨(⟨U.1,(none:al)⟩:aI),(some (ae.length,U.2.length))⟩:ak)]:List ak)).map (a0 1 0) from rfl) (show 2=([(⟨(⟨J,(none:al)⟩:aI),(none:al)⟩:ak),(⟨(⟨U.1,(none:al)⟩:aI),(some (ae.length,U.2.length))⟩:ak)]:List ak).length from rfl)) (.ee (iI (a0 1 0) aJ) (hq (dl aJ) (e4 (show [[.b J,ax 1 0 1 (none:al),ax 1 0 1 (none:al)],[.b U.1,ax 1 0 1 (none:al),ax 1 0 1 (some (ae.length,U.2.length))]]=(([(⟨(⟨J,(none:al)⟩:aI),(none:al)⟩:ak),(⟨(⟨U.1,(none:al)⟩:aI),(some (ae.length,U.2.length))⟩:ak)]:List ak)).map (a0 1 0) from rfl) (show 2=([(⟨(⟨J,(none:al)⟩:aI),(none:al)⟩:ak),(⟨(⟨U.1,(none:al)⟩:aI),(some (ae.length,U.2.length))⟩:ak)]:List ak).length from rfl)):ek.length=aJ.length+(([[.b J,ax 1 0 1 (none:al),ax 1 0 1 (none:al)],[.b U.1,ax 1 0 1 (none:al),ax 1 0 1 (some (ae.length,U.2.length))]].drop 0).take 2).length) d5 (c5 (fG (a2:=hD) 3 .live (a0 1 0) (gL (cb (a0 1 0) aJ) (dl aJ) (e4 (show [[.b J,ax 1 0 1 (none:al),ax 1 0 1 (none:al)],[.b U.1,ax 1 0 1 (none:al),ax 1 0 1 (some (ae.length,U.2.length))]]=(([(⟨(⟨J,(none:al)⟩:aI),(none:al)⟩:ak),(⟨(⟨U.1,(none:al)⟩:aI),(some (ae.length,U.2.length))⟩:ak)]:List ak)).map (a0 1 0) from rfl) (show 2=([(⟨(⟨J,(none:al)⟩:aI),(none:al)⟩:ak),(⟨(⟨U.1,(none:al)⟩:aI),(some (ae.length,U.2.length))⟩:ak)]:List ak).length from rfl))) (fun x=>(fO (rfl:hD 1=some 1)) x)) (e5 (a2:=hD))) (hX (a2:=hD) (gW (eJ .live 1 aq ae) (fw ch 13 1 (ae.length+0) (cb aq U.2) (gX 13 1 (ae.length+0)))) (hI dN)))))))
  ·exact (.cH fun d5 =>
  .ret (let gC:=(aJ++([(⟨(⟨J,(none:al)⟩:aI),(none:al)⟩:ak),(⟨(⟨U.1,(some (ae.length,U.2.length))⟩:aI),(none:al)⟩:ak)]:List ak));let lo:=da [15,1];bT (t1.append [.bk (aO 3 (aN (.call {au:=[],bs:=[],ac:=[ii],r:= .agg [.b J,.a1 1 (([]:List Int).map aq),.a1 1 (([]:List Int).map aq)],bW:=[],cz:=ii,cO:=[],cy:=[],cj:=true}) (aO 2 (aN (.gj 1 (ae.length+0) (.call {au:=[],bs:=[],ac:=[ii],r:= .agg (iB U.1 0 0 0 U.2.length ([]:List Int)),bW:=[(aP 1 aq U.2)],cz:= .bF (.agg [.id,.id,.id]),cO:=[.pure],cy:=[],cj:=true})) (aN (.dB 19 (.agg [.b J,ax 1 0 1 (none:al),ax 1 0 1 (none:al)]) (.dB 22 (.agg [.b U.1,ax 1 0 1 (some (ae.length,U.2.length)),ax 1 0 1 (none:al)]) .none)) (aN (.aW (gC.length)) (aO 1 []))))))),(ap 2),.bB [15,1] [.cK (aP 3 (a0 1 0) gC),.cK (eC 1 aq (ae++[U.2]))] (bQ [3,10,11,12])]) (db.aW (.cs (eZ 1 ch U.2) (hT (.inr (.inr (.inl U))) d3) (aT.agg (ck (aT.b U.1) (ck (aT.bd 0 0 0 U.2.length) (ck (aT.dd _:aT (.a1 1 (([]:List Int).map aq))) fu)))) ((fs (dX (dR fS) fP) ft):eN [(aP 1 aq U.2)]) (congrArg (· + 0) (jJ (eJ .live 1 aq ae) rfl)) (fv ⟨.refl _,.dc 1 0 1,.dc 1 0 1,trivial⟩:dg (.agg [.b J,.a1 1 (([]:List Int).map aq),.a1 1 (([]:List Int).map aq)]) (.agg [.b J,ax 1 0 1 (none:al),ax 1 0 1 (none:al)])) (fv ⟨.refl _,.s2 1 0 1 ae.length U.2.length,.dc 1 0 1,trivial⟩:dg (.agg (iB U.1 1 (ae.length+0) 0 U.2.length ([]:List Int))) (.agg [.b U.1,ax 1 0 1 (some (ae.length,U.2.length)),ax 1 0 1 (none:al)])) (hp (show [[.b J,ax 1 0 1 (none:al),ax 1 0 1 (none:al)],[.b U.1,ax 1 0 1 (some (ae.length,U.2.length)),ax 1 0 1 (none:al)]]=(([(⟨(⟨J,(none:al)⟩:aI),(none:al)⟩:ak),(⟨(⟨U.1,(some (ae.length,U.2.length))⟩:aI),(none:al)⟩:ak)]:List ak)).map (a0 1 0) from rfl) (show 2=([(⟨(⟨J,(none:al)⟩:aI),(none:al)⟩:ak),(⟨(⟨U.1,(some (ae.length,U.2.length))⟩:aI),(none:al)⟩:ak)]:List ak).length from rfl)) (.ee (iI (a0 1 0) aJ) (hq (dl aJ) (e4 (show [[.b J,ax 1 0 1 (none:al),ax 1 0 1 (none:al)],[.b U.1,ax 1 0 1 (some (ae.length,U.2.length)),ax 1 0 1 (none:al)]]=(([(⟨(⟨J,(none:al)⟩:aI),(none:al)⟩:ak),(⟨(⟨U.1,(some (ae.length,U.2.length))⟩:aI),(none:al)⟩:ak)]:List ak)).map (a0 1 0) from rfl) (show 2=([(⟨(⟨J,(none:al)⟩:aI),(none:al)⟩:ak),(⟨(⟨U.1,(some (ae.length,U.2.length))⟩:aI),(none:al)⟩:ak)]:List ak).length from rfl)):gC.length=aJ.length+(([[.b J,ax 1 0 1 (none:al),ax 1 0 1 (none:al)],[.b U.1,ax 1 0 1 (some (ae.length,U.2.length)),ax 1 0 1 (none:al)]].drop 0).take 2).length) d5 (c5 (fG (a2:=lo) 3 .live (a0 1 0) (gL (cb (a0 1 0) aJ) (dl aJ) (e4 (show [[.b J,ax 1 0 1 (none:al),ax 1 0 1 (none:al)],[.b U.1,ax 1 0 1 (some (ae.length,U.2.length)),ax 1 0 1 (none:al)]]=(([(⟨(⟨J,(none:al)⟩:aI),(none:al)⟩:ak),(⟨(⟨U.1,(some (ae.length,U.2.length))⟩:aI),(none:al)⟩:ak)]:List ak)).map (a0 1 0) from rfl) (show 2=([(⟨(⟨J,(none:al)⟩:aI),(none:al)⟩:ak),(⟨(⟨U.1,(some (ae.length,U.2.length))⟩:aI),(none:al)⟩:ak)]:List ak).length from rfl))) (fun x=>(fO (rfl:lo 1=some 1)) x)) (e5 (a2:=lo))) (hX (a2:=lo) (gW (eJ .live 1 aq ae) (fw ch 13 1 (ae.length+0) (cb aq U.2) (gX 13 1 (ae.length+0)))) (hI dN)))))))
  ·exact (.cH fun d5 =>
  .ret (let mT:=(aJ++([(⟨(⟨J,(none:al)⟩:aI),(none:al)⟩:ak),(⟨(⟨U.1,(some (ae.length,U.2.1.length))⟩:aI),(some ((ae.length+1),U.2.2.length))⟩:ak)]:List ak));let n6:=da [15,1];bT (t1.append [.bk (aO 3 (aN (.call {au:=[],bs:=[],ac:=[ii],r:= .agg [.b J,.a1 1 (([]:List Int).map aq),.a1 1 (([]:List Int).map aq)],bW:=[],cz:=ii,cO:=[],cy:=[],cj:=true}) (aO 2 (aN (.gj 1 (ae.length+0) (.call {au:=[],bs:=[],ac:=[ii],r:= .agg (iC U.1 0 0 0 U.2.1.length 0 1 0 U.2.2.length),bW:=[[ao.mk 1 (U.2.1.map aq) .live,ao.mk 1 (U.2.2.map aq) .live]],cz:= .bF (.agg [.id,.id,.id]),cO:=[.cK [ao.mk 1 (U.2.1.map aq) .live,ao.mk 1 (U.2.2.map aq) .live]],cy:=[],cj:=true})) (aN (.dB 19 (.agg [.b J,ax 1 0 1 (none:al),ax 1 0 1 (none:al)]) (.dB 22 (.agg [.b U.1,ax 1 0 1 (some (ae.length,U.2.1.length)),ax 1 0 1 (some ((ae.length+1),U.2.2.length))]) .none)) (aN (.aW (mT.length)) (aO 1 []))))))),(ap 2),.bB [15,1] [.cK (aP 3 (a0 1 0) mT),.cK (eC 1 aq (ae++[U.2.1,U.2.2]))] (bQ [3,10,11,12])]) (db.aW (.cs (c5 (fX (dW [13]) 1 dN U.2.1) (c5 (fX (dW [13]) 1 dN U.2.2) (e5 (a2:=(dW [13]))))) ((f5 rfl (f5 rfl kh)):gv [ao.mk 1 (U.2.1.map aq) .live,ao.mk 1 (U.2.2.map aq) .live]) (hT (.inr (.inr (.inr U))) d3) (aT.agg (ck (aT.b U.1) (ck (aT.bd 0 0 0 U.2.1.length) (ck (aT.bd 0 1 0 U.2.2.length) fu)))) ((fs (dX (dR fS) (dX (dR fS) fP)) ft):eN [[ao.mk 1 (U.2.1.map aq) .live,ao.mk 1 (U.2.2.map aq) .live]]) (congrArg (· + 0) (jJ (eJ .live 1 aq ae) rfl)) (fv ⟨.refl _,.dc 1 0 1,.dc 1 0 1,trivial⟩:dg (.agg [.b J,.a1 1 (([]:List Int).map aq),.a1 1 (([]:List Int).map aq)]) (.agg [.b J,ax 1 0 1 (none:al),ax 1 0 1 (none:al)])) (fv ⟨.refl _,.s2 1 0 1 ae.length U.2.1.length,.s2 1 0 1 (ae.length+1) U.2.2.length,trivial⟩:dg (.agg (iC U.1 1 (ae.length+0) 0 U.2.1.length 1 ((ae.length+1)+0) 0 U.2.2.length)) (.agg [.b U.1,ax 1 0 1 (some (ae.length,U.2.1.length)),ax 1 0 1 (some ((ae.length+1),U.2.2.length))])) (.eS (hp (show [[.b J,ax 1 0 1 (none:al),ax 1 0 1 (none:al)],[.b U.1,ax 1 0 1 (some (ae.length,U.2.1.length)),ax 1 0 1 (some ((ae.length+1),U.2.2.length))]]=(([(⟨(⟨J,(none:al)⟩:aI),(none:al)⟩:ak),(⟨(⟨U.1,(some (ae.length,U.2.1.length))⟩:aI),(some ((ae.length+1),U.2.2.length))⟩:ak)]:List ak)).map (a0 1 0) from rfl) (show 2=([(⟨(⟨J,(none:al)⟩:aI),(none:al)⟩:ak),(⟨(⟨U.1,(some (ae.length,U.2.1.length))⟩:aI),(some ((ae.length+1),U.2.2.length))⟩:ak)]:List ak).length from rfl)) (iI (a0 1 0) aJ) (hq (dl aJ) (e4 (show [[.b J,ax 1 0 1 (none:al),ax 1 0 1 (none:al)],[.b U.1,ax 1 0 1 (some (ae.length,U.2.1.length)),ax 1 0 1 (some ((ae.length+1),U.2.2.length))]]=(([(⟨(⟨J,(none:al)⟩:aI),(none:al)⟩:ak),(⟨(⟨U.1,(some (ae.length,U.2.1.length))⟩:aI),(some ((ae.length+1),U.2.2.length))⟩:ak)]:List ak)).map (a0 1 0) from rfl) (show 2=([(⟨(⟨J,(none:al)⟩:aI),(none:al)⟩:ak),(⟨(⟨U.1,(some (ae.length,U.2.1.length))⟩:aI),(some ((ae.length+1),U.2.2.length))⟩:ak)]:List ak).length from rfl)):mT.length=aJ.length+(([[.b J,ax 1 0 1 (none:al),ax 1 0 1 (none:al)],[.b U.1,ax 1 0 1 (some (ae.length,U.2.1.length)),ax 1 0 1 (some ((ae.length+1),U.2.2.length))]].drop 0).take 2).length) d5 (c5 (fG (a2:=n6) 3 .live (a0 1 0) (gL (cb (a0 1 0) aJ) (dl aJ) (e4 (show [[.b J,ax 1 0 1 (none:al),ax 1 0 1 (none:al)],[.b U.1,ax 1 0 1 (some (ae.length,U.2.1.length)),ax 1 0 1 (some ((ae.length+1),U.2.2.length))]]=(([(⟨(⟨J,(none:al)⟩:aI),(none:al)⟩:ak),(⟨(⟨U.1,(some (ae.length,U.2.1.length))⟩:aI),(some ((ae.length+1),U.2.2.length))⟩:ak)]:List ak)).map (a0 1 0) from rfl) (show 2=([(⟨(⟨J,(none:al)⟩:aI),(none:al)⟩:ak),(⟨(⟨U.1,(some (ae.length,U.2.1.length))⟩:aI),(some ((ae.length+1),U.2.2.length))⟩:ak)]:List ak).length from rfl))) (fun x=>(fO (rfl:n6 1=some 1)) x)) (e5 (a2:=n6))) (hX (a2:=n6) (gW (eJ .live 1 aq ae) (fw ch 13 1 (ae.length+0) (cb aq U.2.1) (fw ch 13 1 (ae.length+0) (cb aq U.2.2) (gX 13 1 (ae.length+0))))) (hI dN))))))))))
  ·exact (.bp fun dm d3 =>
  (have db:=bb.aW (.ee (eZ 1 ch J.2) (hT (.inr (.inl J)) bM) (aT.agg (ck (aT.b J.1) (ck (aT.dd _:aT (.a1 1 (([]:List Int).map aq))) (ck (aT.bd 0 0 0 J.2.length) fu)))) ((fs (dX (dR fS) fP) ft):eN [(aP 1 aq J.2)]) (congrArg (· + 0) (jJ (eJ .live 1 aq ae) rfl)));
  (by
  rcases dm with U|U|U|U
  ·exact (.cH fun d5 =>
  .ret (let pK:=(aJ++([(⟨(⟨J.1,(none:al)⟩:aI),(some (ae.length,J.2.length))⟩:ak),(⟨(⟨U,(none:al)⟩:aI),(none:al)⟩:ak)]:List ak));let ll:=da [15,1];bT (t1.append [.bk (aO 3 (aN (.gj 1 (ae.length+0) (.call {au:=[],bs:=[],ac:=[ii],r:= .agg (iA J.1 ([]:List Int) 0 0 0 J.2.length),bW:=[(aP 1 aq J.2)],cz:= .bF (.agg [.id,.id,.id]),cO:=[.pure],cy:=[],cj:=true})) (aO 2 (aN (.call {au:=[],bs:=[],ac:=[ii],r:= .agg [.b U,.a1 1 (([]:List Int).map aq),.a1 1 (([]:List Int).map aq)],bW:=[],cz:=ii,cO:=[],cy:=[],cj:=true}) (aN (.dB 19 (.agg [.b J.1,ax 1 0 1 (none:al),ax 1 0 1 (some (ae.length,J.2.length))]) (.dB 22 (.agg [.b U,ax 1 0 1 (none:al),ax 1 0 1 (none:al)]) .none)) (aN (.aW (pK.length)) (aO 1 []))))))),(ap 2),.bB [15,1] [.cK (aP 3 (a0 1 0) pK),.cK (eC 1 aq (ae++[J.2]))] (bQ [3,10,11,12])]) (db.aW (.cs (hT (.inl U) d3) (aT.agg (ck (aT.b U) (ck (aT.dd _:aT (.a1 1 (([]:List Int).map aq))) (ck (aT.dd _:aT (.a1 1 (([]:List Int).map aq))) fu)))) (fv ⟨.refl _,.dc 1 0 1,.s2 1 0 1 ae.length J.2.length,trivial⟩:dg (.agg (iA J.1 ([]:List Int) 1 (ae.length+0) 0 J.2.length)) (.agg [.b J.1,ax 1 0 1 (none:al),ax 1 0 1 (some (ae.length,J.2.length))])) (fv ⟨.refl _,.dc 1 0 1,.dc 1 0 1,trivial⟩:dg (.agg [.b U,.a1 1 (([]:List Int).map aq),.a1 1 (([]:List Int).map aq)]) (.agg [.b U,ax 1 0 1 (none:al),ax 1 0 1 (none:al)])) (hp (show [[.b J.1,ax 1 0 1 (none:al),ax 1 0 1 (some (ae.length,J.2.length))],[.b U,ax 1 0 1 (none:al),ax 1 0 1 (none:al)]]=(([(⟨(⟨J.1,(none:al)⟩:aI),(some (ae.length,J.2.length))⟩:ak),(⟨(⟨U,(none:al)⟩:aI),(none:al)⟩:ak)]:List ak)).map (a0 1 0) from rfl) (show 2=([(⟨(⟨J.1,(none:al)⟩:aI),(some (ae.length,J.2.length))⟩:ak),(⟨(⟨U,(none:al)⟩:aI),(none:al)⟩:ak)]:List ak).length from rfl)) (iI (a0 1 0) aJ) (hq (dl aJ) (e4 (show [[.b J.1,ax 1 0 1 (none:al),ax 1 0 1 (some (ae.length,J.2.length))],[.b U,ax 1 0 1 (none:al),ax 1 0 1 (none:al)]]=(([(⟨(⟨J.1,(none:al)⟩:aI),(some (ae.length,J.2.length))⟩:ak),(⟨(⟨U,(none:al)⟩:aI),(none:al)⟩:ak)]:List ak)).map (a0 1 0) from rfl) (show 2=([(⟨(⟨J.1,(none:al)⟩:aI),(some (ae.length,J.2.length))⟩:ak),(⟨(⟨U,(none:al)⟩:aI),(none:al)⟩:ak)]:List ak).length from rfl)):pK.length=aJ.length+(([[.b J.1,ax 1 0 1 (none:al),ax 1 0 1 (some (ae.length,J.2.length))],[.b U,ax 1 0 1 (none:al),ax 1 0 1 (none:al)]].drop 0).take 2).length) d5 (.aE (c5 (fG (a2:=ll) 3 .live (a0 1 0) (gL (cb (a0 1 0) aJ) (dl aJ) (e4 (show [[.b J.1,ax 1 0 1 (none:al),ax 1 0 1 (some (ae.length,J.2.length))],[.b U,ax 1 0 1 (none:al),ax 1 0 1 (none:al)]]=(([(⟨(⟨J.1,(none:al)⟩:aI),(some (ae.length,J.2.length))⟩:ak),(⟨(⟨U,(none:al)⟩:aI),(none:al)⟩:ak)]:List ak)).map (a0 1 0) from rfl) (show 2=([(⟨(⟨J.1,(none:al)⟩:aI),(some (ae.length,J.2.length))⟩:ak),(⟨(⟨U,(none:al)⟩:aI),(none:al)⟩:ak)]:List ak).length from rfl))) (fun x=>(fO (rfl:ll 1=some 1)) x)) (e5 (a2:=ll))) (hX (a2:=ll) (gW (eJ .live 1 aq ae) (fw ch 10 1 (ae.length+0) (cb aq J.2) (gX 10 1 (ae.length+0)))) (hI dN)))))))
  ·exact (.cH fun d5 =>
  .ret (let pB:=(aJ++([(⟨(⟨J.1,(none:al)⟩:aI),(some (ae.length,J.2.length))⟩:ak),(⟨(⟨U.1,(none:al)⟩:aI),(some ((ae++[J.2]).length,U.2.length))⟩:ak)]:List ak));let Cn:=gW (eJ .live 1 aq ae) (fw ch 10 1 (ae.length+0) (cb aq J.2) (gX 10 1 (ae.length+0)));let ux:=da [15,1];bT (t1.append [.bk (aO 3 (aN (.gj 1 (ae.length+0) (.call {au:=[],bs:=[],ac:=[ii],r:= .agg (iA J.1 ([]:List Int) 0 0 0 J.2.length),bW:=[(aP 1 aq J.2)],cz:= .bF (.agg [.id,.id,.id]),cO:=[.pure],cy:=[],cj:=true})) (aO 2 (aN (.gj 1 ((ae++[J.2]).length+0) (.call {au:=[],bs:=[],ac:=[ii],r:= .agg (iA U.1 ([]:List Int) 0 0 0 U.2.length),bW:=[(aP 1 aq U.2)],cz:= .bF (.agg [.id,.id,.id]),cO:=[.pure],cy:=[],cj:=true})) (aN (.dB 19 (.agg [.b J.1,ax 1 0 1 (none:al),ax 1 0 1 (some (ae.length,J.2.length))]) (.dB 22 (.agg [.b U.1,ax 1 0 1 (none:al),ax 1 0 1 (some ((ae++[J.2]).length,U.2.length))]) .none)) (aN (.aW (pB.length)) (aO 1 []))))))),(ap 2),.bB [15,1] [.cK (aP 3 (a0 1 0) pB),.cK (eC 1 aq ((ae++[J.2])++[U.2]))] (bQ [3,10,11,12])]) (db.aW (.cs (eZ 1 ch U.2) (hT (.inr (.inl U)) d3) (aT.agg (ck (aT.b U.1) (ck (aT.dd _:aT (.a1 1 (([]:List Int).map aq))) (ck (aT.bd 0 0 0 U.2.length) fu)))) ((fs (dX (dR fS) fP) ft):eN [(aP 1 aq U.2)]) (congrArg (· + 0) (jJ Cn rfl)) (fv ⟨.refl _,.dc 1 0 1,.s2 1 0 1 ae.length J.2.length,trivial⟩:dg (.agg (iA J.1 ([]:List Int) 1 (ae.length+0) 0 J.2.length)) (.agg [.b J.1,ax 1 0 1 (none:al),ax 1 0 1 (some (ae.length,J.2.length))])) (fv ⟨.refl _,.dc 1 0 1,.s2 1 0 1 ((ae++[J.2]).length) U.2.length,trivial⟩:dg (.agg (iA U.1 ([]:List Int) 1 (((ae++[J.2]).length)+0) 0 U.2.length)) (.agg [.b U.1,ax 1 0 1 (none:al),ax 1 0 1 (some ((ae++[J.2]).length,U.2.length))])) (hp (show [[.b J.1,ax 1 0 1 (none:al),ax 1 0 1 (some (ae.length,J.2.length))],[.b U.1,ax 1 0 1 (none:al),ax 1 0 1 (some ((ae++[J.2]).length,U.2.length))]]=(([(⟨(⟨J.1,(none:al)⟩:aI),(some (ae.length,J.2.length))⟩:ak),(⟨(⟨U.1,(none:al)⟩:aI),(some ((ae++[J.2]).length,U.2.length))⟩:ak)]:List ak)).map (a0 1 0) from rfl) (show 2=([(⟨(⟨J.1,(none:al)⟩:aI),(some (ae.length,J.2.length))⟩:ak),(⟨(⟨U.1,(none:al)⟩:aI),(some ((ae++[J.2]).length,U.2.length))⟩:ak)]:List ak).length from rfl)) (.ee (iI (a0 1 0) aJ) (hq (dl aJ) (e4 (show [[.b J.1,ax 1 0 1 (none:al),ax 1 0 1 (some (ae.length,J.2.length))],[.b U.1,ax 1 0 1 (none:al),ax 1 0 1 (some ((ae++[J.2]).length,U.2.length))]]=(([(⟨(⟨J.1,(none:al)⟩:aI),(some (ae.length,J.2.length))⟩:ak),(⟨(⟨U.1,(none:al)⟩:aI),(some ((ae++[J.2]).length,U.2.length))⟩:ak)]:List ak)).map (a0 1 0) from rfl) (show 2=([(⟨(⟨J.1,(none:al)⟩:aI),(some (ae.length,J.2.length))⟩:ak),(⟨(⟨U.1,(none:al)⟩:aI),(some ((ae++[J.2]).length,U.2.length))⟩:ak)]:List ak).length from rfl)):pB.length=aJ.length+(([[.b J.1,ax 1 0 1 (none:al),ax 1 0 1 (some (ae.length,J.2.length))],[.b U.1,ax 1 0 1 (none:al),ax 1 0 1 (some ((ae++[J.2]).length,U.2.length))]].drop 0).take 2).length) d5 (c5 (fG (a2:=ux) 3 .live (a0 1 0) (gL (cb (a0 1 0) aJ) (dl aJ) (e4 (show [[.b J.1,ax 1 0 1 (none:al),ax 1 0 1 (some (ae.length,J.2.length))],[.b U.1,ax 1 0 1 (none:al),ax 1 0 1 (some ((ae++[J.2]).length,U.2.length))]]=(([(⟨(⟨J.1,(none:al)⟩:aI),(some (ae.length,J.2.length))⟩:ak),(⟨(⟨U.1,(none:al)⟩:aI),(some ((ae++[J.2]).length,U.2.length))⟩:ak)]:List ak)).map (a0 1 0) from rfl) (show 2=([(⟨(⟨J.1,(none:al)⟩:aI),(some (ae.length,J.2.length))⟩:ak),(⟨(⟨U.1,(none:al)⟩:aI),(some ((ae++[J.2]).length,U.2.length))⟩:ak)]:List ak).length from rfl))) (fun x=>(fO (rfl:ux 1=some 1)) x)) (e5 (a2:=ux))) (hX (a2:=ux) (gW Cn (fw ch 13 1 ((ae++[J.2]).length+0) (cb aq U.2) (gX 13 1 ((ae++[J.2]).length+0)))) (hI dN)))))))
  ·exact (.cH fun d5 =>
  .ret (let xV:=(aJ++([(⟨(⟨J.1,(none:al)⟩:aI),(some (ae.length,J.2.length))⟩:ak),(⟨(⟨U.1,(some ((ae++[J.2]).length,U.2.length))⟩:aI),(none:al)⟩:ak)]:List ak));let Co:=gW (eJ .live 1 aq ae) (fw ch 10 1 (ae.length+0) (cb aq J.2) (gX 10 1 (ae.length+0)));let uy:=da [15,1];bT (t1.append [.bk (aO 3 (aN (.gj 1 (ae.length+0) (.call {au:=[],bs:=[],ac:=[ii],r:= .agg (iA J.1 ([]:List Int) 0 0 0 J.2.length),bW:=[(aP 1 aq J.2)],cz:= .bF (.agg [.id,.id,.id]),cO:=[.pure],cy:=[],cj:=true})) (aO 2 (aN (.gj 1 ((ae++[J.2]).length+0) (.call {au:=[],bs:=[],ac:=[ii],r:= .agg (iB U.1 0 0 0 U.2.length ([]:List Int)),bW:=[(aP 1 aq U.2)],cz:= .bF (.agg [.id,.id,.id]),cO:=[.pure],cy:=[],cj:=true})) (aN (.dB 19 (.agg [.b J.1,ax 1 0 1 (none:al),ax 1 0 1 (some (ae.length,J.2.length))]) (.dB 22 (.agg [.b U.1,ax 1 0 1 (some ((ae++[J.2]).length,U.2.length)),ax 1 0 1 (none:al)]) .none)) (aN (.aW (xV.length)) (aO 1 []))))))),(ap 2),.bB [15,1] [.cK (aP 3 (a0 1 0) xV),.cK (eC 1 aq ((ae++[J.2])++[U.2]))] (bQ [3,10,11,12])]) (db.aW (.cs (eZ 1 ch U.2) (hT (.inr (.inr (.inl U))) d3) (aT.agg (ck (aT.b U.1) (ck (aT.bd 0 0 0 U.2.length) (ck (aT.dd _:aT (.a1 1 (([]:List Int).map aq))) fu)))) ((fs (dX (dR fS) fP) ft):eN [(aP 1 aq U.2)]) (congrArg (· + 0) (jJ Co rfl)) (fv ⟨.refl _,.dc 1 0 1,.s2 1 0 1 ae.length J.2.length,trivial⟩:dg (.agg (iA J.1 ([]:List Int) 1 (ae.length+0) 0 J.2.length)) (.agg [.b J.1,ax 1 0 1 (none:al),ax 1 0 1 (some (ae.length,J.2.length))])) (fv ⟨.refl _,.s2 1 0 1 ((ae++[J.2]).length) U.2.length,.dc 1 0 1,trivial⟩:dg (.agg (iB U.1 1 (((ae++[J.2]).length)+0) 0 U.2.length ([]:List Int))) (.agg [.b U.1,ax 1 0 1 (some ((ae++[J.2]).length,U.2.length)),ax 1 0 1 (none:al)])) (hp (show [[.b J.1,ax 1 0 1 (none:al),ax 1 0 1 (some (ae.length,J.2.length))],[.b U.1,ax 1 0 1 (some ((ae++[J.2]).length,U.2.length)),ax 1 0 1 (none:al)]]=(([(⟨(⟨J.1,(none:al)⟩:aI),(some (ae.length,J.2.length))⟩:ak),(⟨(⟨U.1,(some ((ae++[J.2]).length,U.2.length))⟩:aI),(none:al)⟩:ak)]:List ak)).map (a0 1 0) from rfl) (show 2=([(⟨(⟨J.1,(none:al)⟩:aI),(some (ae.length,J.2.length))⟩:ak),(⟨(⟨U.1,(some ((ae++[J.2]).length,U.2.length))⟩:aI),(none:al)⟩:ak)]:List ak).length from rfl)) (.ee (iI (a0 1 0) aJ) (hq (dl aJ) (e4 (show [[.b J.1,ax 1 0 1 (none:al),ax 1 0 1 (some (ae.length,J.2.length))],[.b U.1,ax 1 0 1 (some ((ae++[J.2]).length,U.2.length)),ax 1 0 1 (none:al)]]=(([(⟨(⟨J.1,(none:al)⟩:aI),(some (ae.length,J.2.length))⟩:ak),(⟨(⟨U.1,(some ((ae++[J.2]).length,U.2.length))⟩:aI),(none:al)⟩:ak)]:List ak)).map (a0 1 0) from rfl) (show 2=([(⟨(⟨J.1,(none:al)⟩:aI),(some (ae.length,J.2.length))⟩:ak),(⟨(⟨U.1,(some ((ae++[J.2]).length,U.2.length))⟩:aI),(none:al)⟩:ak)]:List ak).length from rfl)):xV.length=aJ.length+(([[.b J.1,ax 1 0 1 (none:al),ax 1 0 1 (some (ae.length,J.2.length))],[.b U.1,ax 1 0 1 (some ((ae++[J.2]).length,U.2.length)),ax 1 0 1 (none:al)]].drop 0).take 2).length) d5 (c5 (fG (a2:=uy) 3 .live (a0 1 0) (gL (cb (a0 1 0) aJ) (dl aJ) (e4 (show [[.b J.1,ax 1 0 1 (none:al),ax 1 0 1 (some (ae.length,J.2.length))],[.b U.1,ax 1 0 1 (some ((ae++[J.2]).length,U.2.length)),ax 1 0 1 (none:al)]]=(([(⟨(⟨J.1,(none:al)⟩:aI),(some (ae.length,J.2.length))⟩:ak),(⟨(⟨U.1,(some ((ae++[J.2]).length,U.2.length))⟩:aI),(none:al)⟩:ak)]:List ak)).map (a0 1 0) from rfl) (show 2=([(⟨(⟨J.1,(none:al)⟩:aI),(some (ae.length,J.2.length))⟩:ak),(⟨(⟨U.1,(some ((ae++[J.2]).length,U.2.length))⟩:aI),(none:al)⟩:ak)]:List ak).length from rfl))) (fun x=>(fO (rfl:uy 1=some 1)) x)) (e5 (a2:=uy))) (hX (a2:=uy) (gW Co (fw ch 13 1 ((ae++[J.2]).length+0) (cb aq U.2) (gX 13 1 ((ae++[J.2]).length+0)))) (hI dN)))))))
  ·exact (.cH fun d5 =>
  .ret (let xW:=(aJ++([(⟨(⟨J.1,(none:al)⟩:aI),(some (ae.length,J.2.length))⟩:ak),(⟨(⟨U.1,(some ((ae++[J.2]).length,U.2.1.length))⟩:aI),(some (((ae++[J.2]).length+1),U.2.2.length))⟩:ak)]:List ak));let Cp:=gW (eJ .live 1 aq ae) (fw ch 10 1 (ae.length+0) (cb aq J.2) (gX 10 1 (ae.length+0)));let uz:=da [15,1];bT (t1.append [.bk (aO 3 (aN (.gj 1 (ae.length+0) (.call {au:=[],bs:=[],ac:=[ii],r:= .agg (iA J.1 ([]:List Int) 0 0 0 J.2.length),bW:=[(aP 1 aq J.2)],cz:= .bF (.agg [.id,.id,.id]),cO:=[.pure],cy:=[],cj:=true})) (aO 2 (aN (.gj 1 ((ae++[J.2]).length+0) (.call {au:=[],bs:=[],ac:=[ii],r:= .agg (iC U.1 0 0 0 U.2.1.length 0 1 0 U.2.2.length),bW:=[[ao.mk 1 (U.2.1.map aq) .live,ao.mk 1 (U.2.2.map aq) .live]],cz:= .bF (.agg [.id,.id,.id]),cO:=[.cK [ao.mk 1 (U.2.1.map aq) .live,ao.mk 1 (U.2.2.map aq) .live]],cy:=[],cj:=true})) (aN (.dB 19 (.agg [.b J.1,ax 1 0 1 (none:al),ax 1 0 1 (some (ae.length,J.2.length))]) (.dB 22 (.agg [.b U.1,ax 1 0 1 (some ((ae++[J.2]).length,U.2.1.length)),ax 1 0 1 (some (((ae++[J.2]).length+1),U.2.2.length))]) .none)) (aN (.aW (xW.length)) (aO 1 []))))))),(ap 2),.bB [15,1] [.cK (aP 3 (a0 1 0) xW),.cK (eC 1 aq ((ae++[J.2])++[U.2.1,U.2.2]))] (bQ [3,10,11,12])]) (db.aW (.cs (c5 (fX (dW [13]) 1 dN U.2.1) (c5 (fX (dW [13]) 1 dN U.2.2) (e5 (a2:=(dW [13]))))) ((f5 rfl (f5 rfl kh)):gv [ao.mk 1 (U.2.1.map aq) .live,ao.mk 1 (U.2.2.map aq) .live]) (hT (.inr (.inr (.inr U))) d3) (aT.agg (ck (aT.b U.1) (ck (aT.bd 0 0 0 U.2.1.length) (ck (aT.bd 0 1 0 U.2.2.length) fu)))) ((fs (dX (dR fS) (dX (dR fS) fP)) ft):eN [[ao.mk 1 (U.2.1.map aq) .live,ao.mk 1 (U.2.2.map aq) .live]]) (congrArg (· + 0) (jJ Cp rfl)) (fv ⟨.refl _,.dc 1 0 1,.s2 1 0 1 ae.length J.2.length,trivial⟩:dg (.agg (iA J.1 ([]:List Int) 1 (ae.length+0) 0 J.2.length)) (.agg [.b J.1,ax 1 0 1 (none:al),ax 1 0 1 (some (ae.length,J.2.length))])) (fv ⟨.refl _,.s2 1 0 1 ((ae++[J.2]).length) U.2.1.length,.s2 1 0 1 ((ae++[J.2]).length+1) U.2.2.length,trivial⟩:dg (.agg (iC U.1 1 (((ae++[J.2]).length)+0) 0 U.2.1.length 1 (((ae++[J.2]).length+1)+0) 0 U.2.2.length)) (.agg [.b U.1,ax 1 0 1 (some ((ae++[J.2]).length,U.2.1.length)),ax 1 0 1 (some (((ae++[J.2]).length+1),U.2.2.length))])) (.eS (hp (show [[.b J.1,ax 1 0 1 (none:al),ax 1 0 1 (some (ae.length,J.2.length))],[.b U.1,ax 1 0 1 (some ((ae++[J.2]).length,U.2.1.length)),ax 1 0 1 (some (((ae++[J.2]).length+1),U.2.2.length))]]=(([(⟨(⟨J.1,(none:al)⟩:aI),(some (ae.length,J.2.length))⟩:ak),(⟨(⟨U.1,(some ((ae++[J.2]).length,U.2.1.length))⟩:aI),(some (((ae++[J.2]).length+1),U.2.2.length))⟩:ak)]:List ak)).map (a0 1 0) from rfl) (show 2=([(⟨(⟨J.1,(none:al)⟩:aI),(some (ae.length,J.2.length))⟩:ak),(⟨(⟨U.1,(some ((ae++[J.2]).length,U.2.1.length))⟩:aI),(some (((ae++[J.2]).length+1),U.2.2.length))⟩:ak)]:List ak).length from rfl)) (iI (a0 1 0) aJ) (hq (dl aJ) (e4 (show [[.b J.1,ax 1 0 1 (none:al),ax 1 0 1 (some (ae.length,J.2.length))],[.b U.1,ax 1 0 1 (some ((ae++[J.2]).length,U.2.1.length)),ax 1 0 1 (some (((ae++[J.2]).length+1),U.2.2.length))]]=(([(⟨(⟨J.1,(none:al)⟩:aI),(some (ae.length,J.2.length))⟩:ak),(⟨(⟨U.1,(some ((ae++[J.2]).length,U.2.1.length))⟩:aI),(some (((ae++[J.2]).length+1),U.2.2.length))⟩:ak)]:List ak)).map (a0 1 0) from rfl) (show 2=([(⟨(⟨J.1,(none:al)⟩:aI),(some (ae.length,J.2.length))⟩:ak),(⟨(⟨U.1,(some ((ae++[J.2]).length,U.2.1.length))⟩:aI),(some (((ae++[J.2]).length+1),U.2.2.length))⟩:ak)]:List ak).length from rfl)):xW.length=aJ.length+(([[.b J.1,ax 1 0 1 (none:al),ax 1 0 1 (some (ae.length,J.2.length))],[.b U.1,ax 1 0 1 (some ((ae++[J.2]).length,U.2.1.length)),ax 1 0 1 (some (((ae++[J.2]).length+1),U.2.2.length))]].drop 0).take 2).length) d5 (c5 (fG (a2:=uz) 3 .live (a0 1 0) (gL (cb (a0 1 0) aJ) (dl aJ) (e4 (show [[.b J.1,ax 1 0 1 (none:al),ax 1 0 1 (some (ae.length,J.2.length))],[.b U.1,ax 1 0 1 (some ((ae++[J.2]).length,U.2.1.length)),ax 1 0 1 (some (((ae++[J.2]).length+1),U.2.2.length))]]=(([(⟨(⟨J.1,(none:al)⟩:aI),(some (ae.length,J.2.length))⟩:ak),(⟨(⟨U.1,(some ((ae++[J.2]).length,U.2.1.length))⟩:aI),(some (((ae++[J.2]).length+1),U.2.2.length))⟩:ak)]:List ak)).map (a0 1 0) from rfl) (show 2=([(⟨(⟨J.1,(none:al)⟩:aI),(some (ae.length,J.2.length))⟩:ak),(⟨(⟨U.1,(some ((ae++[J.2]).length,U.2.1.length))⟩:aI),(some (((ae++[J.2]).length+1),U.2.2.length))⟩:ak)]:List ak).length from rfl))) (fun x=>(fO (rfl:uz 1=some 1)) x)) (e5 (a2:=uz))) (hX (a2:=uz) (gW Cp (fw ch 13 1 ((ae++[J.2]).length+0) (cb aq U.2.1) (fw ch 13 1 ((ae++[J.2]).length+0) (cb aq U.2.2) (gX 13 1 ((ae++[J.2]).length+0))))) (hI dN))))))))))
  ·exact (.bp fun dm d3 =>
  (have db:=bb.aW (.ee (eZ 1 ch J.2) (hT (.inr (.inr (.inl J))) bM) (aT.agg (ck (aT.b J.1) (ck (aT.bd 0 0 0 J.2.length) (ck (aT.dd _:aT (.a1 1 (([]:List Int).map aq))) fu)))) ((fs (dX (dR fS) fP) ft):eN [(aP 1 aq J.2)]) (congrArg (· + 0) (jJ (eJ .live 1 aq ae) rfl)));
  (by
  rcases dm with U|U|U|U
  ·exact (.cH fun d5 =>
  .ret (let xX:=(aJ++([(⟨(⟨J.1,(some (ae.length,J.2.length))⟩:aI),(none:al)⟩:ak),(⟨(⟨U,(none:al)⟩:aI),(none:al)⟩:ak)]:List ak));let uA:=da [15,1];bT (t1.append [.bk (aO 3 (aN (.gj 1 (ae.length+0) (.call {au:=[],bs:=[],ac:=[ii],r:= .agg (iB J.1 0 0 0 J.2.length ([]:List Int)),bW:=[(aP 1 aq J.2)],cz:= .bF (.agg [.id,.id,.id]),cO:=[.pure],cy:=[],cj:=true})) (aO 2 (aN (.call {au:=[],bs:=[],ac:=[ii],r:= .agg [.b U,.a1 1 (([]:List Int).map aq),.a1 1 (([]:List Int).map aq)],bW:=[],cz:=ii,cO:=[],cy:=[],cj:=true}) (aN (.dB 19 (.agg [.b J.1,ax 1 0 1 (some (ae.length,J.2.length)),ax 1 0 1 (none:al)]) (.dB 22 (.agg [.b U,ax 1 0 1 (none:al),ax 1 0 1 (none:al)]) .none)) (aN (.aW (xX.length)) (aO 1 []))))))),(ap 2),.bB [15,1] [.cK (aP 3 (a0 1 0) xX),.cK (eC 1 aq (ae++[J.2]))] (bQ [3,10,11,12])]) (db.aW (.cs (hT (.inl U) d3) (aT.agg (ck (aT.b U) (ck (aT.dd _:aT (.a1 1 (([]:List Int).map aq))) (ck (aT.dd _:aT (.a1 1 (([]:List Int).map aq))) fu)))) (fv ⟨.refl _,.s2 1 0 1 ae.length J.2.length,.dc 1 0 1,trivial⟩:dg (.agg (iB J.1 1 (ae.length+0) 0 J.2.length ([]:List Int))) (.agg [.b J.1,ax 1 0 1 (some (ae.length,J.2.length)),ax 1 0 1 (none:al)])) (fv ⟨.refl _,.dc 1 0 1,.dc 1 0 1,trivial⟩:dg (.agg [.b U,.a1 1 (([]:List Int).map aq),.a1 1 (([]:List Int).map aq)]) (.agg [.b U,ax 1 0 1 (none:al),ax 1 0 1 (none:al)])) (hp (show [[.b J.1,ax 1 0 1 (some (ae.length,J.2.length)),ax 1 0 1 (none:al)],[.b U,ax 1 0 1 (none:al),ax 1 0 1 (none:al)]]=(([(⟨(⟨J.1,(some (ae.length,J.2.length))⟩:aI),(none:al)⟩:ak),(⟨(⟨U,(none:al)⟩:aI),(none:al)⟩:ak)]:List ak)).map (a0 1 0) from rfl) (show 2=([(⟨(⟨J.1,(some (ae.length,J.2.length))⟩:aI),(none:al)⟩:ak),(⟨(⟨U,(none:al)⟩:aI),(none:al)⟩:ak)]:List ak).length from rfl)) (iI (a0 1 0) aJ) (hq (dl aJ) (e4 (show [[.b J.1,ax 1 0 1 (some (ae.length,J.2.length)),ax 1 0 1 (none:al)],[.b U,ax 1 0 1 (none:al),ax 1 0 1 (none:al)]]=(([(⟨(⟨J.1,(some (ae.length,J.2.length))⟩:aI),(none:al)⟩:ak),(⟨(⟨U,(none:al)⟩:aI),(none:al)⟩:ak)]:List ak)).map (a0 1 0) from rfl) (show 2=([(⟨(⟨J.1,(some (ae.length,J.2.length))⟩:aI),(none:al)⟩:ak),(⟨(⟨U,(none:al)⟩:aI),(none:al)⟩:ak)]:List ak).length from rfl)):xX.length=aJ.length+(([[.b J.1,ax 1 0 1 (some (ae.length,J.2.length)),ax 1 0 1 (none:al)],[.b U,ax 1 0 1 (none:al),ax 1 0 1 (none:al)]].drop 0).take 2).length) d5 (.aE (c5 (fG (a2:=uA) 3 .live (a0 1 0) (gL (cb (a0 1 0) aJ) (dl aJ) (e4 (show [[.b J.1,ax 1 0 1 (some (ae.length,J.2.length)),ax 1 0 1 (none:al)],[.b U,ax 1 0 1 (none:al),ax 1 0 1 (none:al)]]=(([(⟨(⟨J.1,(some (ae.length,J.2.length))⟩:aI),(none:al)⟩:ak),(⟨(⟨U,(none:al)⟩:aI),(none:al)⟩:ak)]:List ak)).map (a0 1 0) from rfl) (show 2=([(⟨(⟨J.1,(some (ae.length,J.2.length))⟩:aI),(none:al)⟩:ak),(⟨(⟨U,(none:al)⟩:aI),(none:al)⟩:ak)]:List ak).length from rfl))) (fun x=>(fO (rfl:uA 1=some 1)) x)) (e5 (a2:=uA))) (hX (a2:=uA) (gW (eJ .live 1 aq ae) (fw ch 10 1 (ae.length+0) (cb aq J.2) (gX 10 1 (ae.length+0)))) (hI dN)))))))
  ·exact (.cH fun d5 =>
  .ret (let xY:=(aJ++([(⟨(⟨J.1,(some (ae.length,J.2.length))⟩:aI),(none:al)⟩:ak),(⟨(⟨U.1,(none:al)⟩:aI),(some ((ae++[J.2]).length,U.2.length))⟩:ak)]:List ak));let Cq:=gW (eJ .live 1 aq ae) (fw ch 10 1 (ae.length+0) (cb aq J.2) (gX 10 1 (ae.length+0)));let uB:=da [15,1];bT (t1.append [.bk (aO 3 (aN (.gj 1 (ae.length+0) (.call {au:=[],bs:=[],ac:=[ii],r:= .agg (iB J.1 0 0 0 J.2.length ([]:List Int)),bW:=[(aP 1 aq J.2)],cz:= .bF (.agg [.id,.id,.id]),cO:=[.pure],cy:=[],cj:=true})) (aO 2 (aN (.gj 1 ((ae++[J.2]).length+0) (.call {au:=[],bs:=[],ac:=[ii],r:= .agg (iA U.1 ([]:List Int) 0 0 0 U.2.length),bW:=[(aP 1 aq U.2)],cz:= .bF (.agg [.id,.id,.id]),cO:=[.pure],cy:=[],cj:=true})) (aN (.dB 19 (.agg [.b J.1,ax 1 0 1 (some (ae.length,J.2.length)),ax 1 0 1 (none:al)]) (.dB 22 (.agg [.b U.1,ax 1 0 1 (none:al),ax 1 0 1 (some ((ae++[J.2]).length,U.2.length))]) .none)) (aN (.aW (xY.length)) (aO 1 []))))))),(ap 2),.bB [15,1] [.cK (aP 3 (a0 1 0) xY),.cK (eC 1 aq ((ae++[J.2])++[U.2]))] (bQ [3,10,11,12])]) (db.aW (.cs (eZ 1 ch U.2) (hT (.inr (.inl U)) d3) (aT.agg (ck (aT.b U.1) (ck (aT.dd _:aT (.a1 1 (([]:List Int).map aq))) (ck (aT.bd 0 0 0 U.2.length) fu)))) ((fs (dX (dR fS) fP) ft):eN [(aP 1 aq U.2)]) (congrArg (· + 0) (jJ Cq rfl)) (fv ⟨.refl _,.s2 1 0 1 ae.length J.2.length,.dc 1 0 1,trivial⟩:dg (.agg (iB J.1 1 (ae.length+0) 0 J.2.length ([]:List Int))) (.agg [.b J.1,ax 1 0 1 (some (ae.length,J.2.length)),ax 1 0 1 (none:al)])) (fv ⟨.refl _,.dc 1 0 1,.s2 1 0 1 ((ae++[J.2]).length) U.2.length,trivial⟩:dg (.agg (iA U.1 ([]:List Int) 1 (((ae++[J.2]).length)+0) 0 U.2.length)) (.agg [.b U.1,ax 1 0 1 (none:al),ax 1 0 1 (some ((ae++[J.2]).length,U.2.length))])) (hp (show [[.b J.1,ax 1 0 1 (some (ae.length,J.2.length)),ax 1 0 1 (none:al)],[.b U.1,ax 1 0 1 (none:al),ax 1 0 1 (some ((ae++[J.2]).length,U.2.length))]]=(([(⟨(⟨J.1,(some (ae.length,J.2.length))⟩:aI),(none:al)⟩:ak),(⟨(⟨U.1,(none:al)⟩:aI),(some ((ae++[J.2]).length,U.2.length))⟩:ak)]:List ak)).map (a0 1 0) from rfl) (show 2=([(⟨(⟨J.1,(some (ae.length,J.2.length))⟩:aI),(none:al)⟩:ak),(⟨(⟨U.1,(none:al)⟩:aI),(some ((ae++[J.2]).length,U.2.length))⟩:ak)]:List ak).length from rfl)) (.ee (iI (a0 1 0) aJ) (hq (dl aJ) (e4 (show [[.b J.1,ax 1 0 1 (some (ae.length,J.2.length)),ax 1 0 1 (none:al)],[.b U.1,ax 1 0 1 (none:al),ax 1 0 1 (some ((ae++[J.2]).length,U.2.length))]]=(([(⟨(⟨J.1,(some (ae.length,J.2.length))⟩:aI),(none:al)⟩:ak),(⟨(⟨U.1,(none:al)⟩:aI),(some ((ae++[J.2]).length,U.2.length))⟩:ak)]:List ak)).map (a0 1 0) from rfl) (show 2=([(⟨(⟨J.1,(some (ae.length,J.2.length))⟩:aI),(none:al)⟩:ak),(⟨(⟨U.1,(none:al)⟩:aI),(some ((ae++[J.2]).length,U.2.length))⟩:ak)]:List ak).length from rfl)):xY.length=aJ.length+(([[.b J.1,ax 1 0 1 (some (ae.length,J.2.length)),ax 1 0 1 (none:al)],[.b U.1,ax 1 0 1 (none:al),ax 1 0 1 (some ((ae++[J.2]).length,U.2.length))]].drop 0).take 2).length) d5 (c5 (fG (a2:=uB) 3 .live (a0 1 0) (gL (cb (a0 1 0) aJ) (dl aJ) (e4 (show [[.b J.1,ax 1 0 1 (some (ae.length,J.2.length)),ax 1 0 1 (none:al)],[.b U.1,ax 1 0 1 (none:al),ax 1 0 1 (some ((ae++[J.2]).length,U.2.length))]]=(([(⟨(⟨J.1,(some (ae.length,J.2.length))⟩:aI),(none:al)⟩:ak),(⟨(⟨U.1,(none:al)⟩:aI),(some ((ae++[J.2]).length,U.2.length))⟩:ak)]:List ak)).map (a0 1 0) from rfl) (show 2=([(⟨(⟨J.1,(some (ae.length,J.2.length))⟩:aI),(none:al)⟩:ak),(⟨(⟨U.1,(none:al)⟩:aI),(some ((ae++[J.2]).length,U.2.length))⟩:ak)]:List ak).length from rfl))) (fun x=>(fO (rfl:uB 1=some 1)) x)) (e5 (a2:=uB))) (hX (a2:=uB) (gW Cq (fw ch 13 1 ((ae++[J.2]).length+0) (cb aq U.2) (gX 13 1 ((ae++[J.2]).length+0)))) (hI dN)))))))
  ·exact (.cH fun d5 =>
  .ret (let xZ:=(aJ++([(⟨(⟨J.1,(some (ae.length,J.2.length))⟩:aI),(none:al)⟩:ak),(⟨(⟨U.1,(some ((ae++[J.2]).length,U.2.length))⟩:aI),(none:al)⟩:ak)]:List ak));let Cr:=gW (eJ .live 1 aq ae) (fw ch 10 1 (ae.length+0) (cb aq J.2) (gX 10 1 (ae.length+0)));let uC:=da [15,1];bT (t1.append [.bk (aO 3 (aN (.gj 1 (ae.length+0) (.call {au:=[],bs:=[],ac:=[ii],r:= .agg (iB J.1 0 0 0 J.2.length ([]:List Int)),bW:=[(aP 1 aq J.2)],cz:= .bF (.agg [.id,.id,.id]),cO:=[.pure],cy:=[],cj:=true})) (aO 2 (aN (.gj 1 ((ae++[J.2]).length+0) (.call {au:=[],bs:=[],ac:=[ii],r:= .agg (iB U.1 0 0 0 U.2.length ([]:List Int)),bW:=[(aP 1 aq U.2)],cz:= .bF (.agg [.id,.id,.id]),cO:=[.pure],cy:=[],cj:=true})) (aN (.dB 19 (.agg [.b J.1,ax 1 0 1 (some (ae.length,J.2.length)),ax 1 0 1 (none:al)]) (.dB 22 (.agg [.b U.1,ax 1 0 1 (some ((ae++[J.2]).length,U.2.length)),ax 1 0 1 (none:al)]) .none)) (aN (.aW (xZ.length)) (aO 1 []))))))),(ap 2),.bB [15,1] [.cK (aP 3 (a0 1 0) xZ),.cK (eC 1 aq ((ae++[J.2])++[U.2]))] (bQ [3,10,11,12])]) (db.aW (.cs (eZ 1 ch U.2) (hT (.inr (.inr (.inl U))) d3) (aT.agg (ck (aT.b U.1) (ck (aT.bd 0 0 0 U.2.length) (ck (aT.dd _:aT (.a1 1 (([]:List Int).map aq))) fu)))) ((fs (dX (dR fS) fP) ft):eN [(aP 1 aq U.2)]) (congrArg (· + 0) (jJ Cr rfl)) (fv ⟨.refl _,.s2 1 0 1 ae.length J.2.length,.dc 1 0 1,trivial⟩:dg (.agg (iB J.1 1 (ae.length+0) 0 J.2.length ([]:List Int))) (.agg [.b J.1,ax 1 0 1 (some (ae.length,J.2.length)),ax 1 0 1 (none:al)])) (fv ⟨.refl _,.s2 1 0 1 ((ae++[J.2]).length) U.2.length,.dc 1 0 1,trivial⟩:dg (.agg (iB U.1 1 (((ae++[J.2]).length)+0) 0 U.2.length ([]:List Int))) (.agg [.b U.1,ax 1 0 1 (some ((ae++[J.2]).length,U.2.length)),ax 1 0 1 (none:al)])) (hp (show [[.b J.1,ax 1 0 1 (some (ae.length,J.2.length)),ax 1 0 1 (none:al)],[.b U.1,ax 1 0 1 (some ((ae++[J.2]).length,U.2.length)),ax 1 0 1 (none:al)]]=(([(⟨(⟨J.1,(some (ae.length,J.2.length))⟩:aI),(none:al)⟩:ak),(⟨(⟨U.1,(some ((ae++[J.2]).length,U.2.length))⟩:aI),(none:al)⟩:ak)]:List ak)).map (a0 1 0) from rfl) (show 2=([(⟨(⟨J.1,(some (ae.length,J.2.length))⟩:aI),(none:al)⟩:ak),(⟨(⟨U.1,(some ((ae++[J.2]).length,U.2.length))⟩:aI),(none:al)⟩:ak)]:List ak).length from rfl)) (.ee (iI (a0 1 0) aJ) (hq (dl aJ) (e4 (show [[.b J.1,ax 1 0 1 (some (ae.length,J.2.length)),ax 1 0 1 (none:al)],[.b U.1,ax 1 0 1 (some ((ae++[J.2]).length,U.2.length)),ax 1 0 1 (none:al)]]=(([(⟨(⟨J.1,(some (ae.length,J.2.length))⟩:aI),(none:al)⟩:ak),(⟨(⟨U.1,(some ((ae++[J.2]).length,U.2.length))⟩:aI),(none:al)⟩:ak)]:List ak)).map (a0 1 0) from rfl) (show 2=([(⟨(⟨J.1,(some (ae.length,J.2.length))⟩:aI),(none:al)⟩:ak),(⟨(⟨U.1,(some ((ae++[J.2]).length,U.2.length))⟩:aI),(none:al)⟩:ak)]:List ak).length from rfl)):xZ.length=aJ.length+(([[.b J.1,ax 1 0 1 (some (ae.length,J.2.length)),ax 1 0 1 (none:al)],[.b U.1,ax 1 0 1 (some ((ae++[J.2]).length,U.2.length)),ax 1 0 1 (none:al)]].drop 0).take 2).length) d5 (c5 (fG (a2:=uC) 3 .live (a0 1 0) (gL (cb (a0 1 0) aJ) (dl aJ) (e4 (show [[.b J.1,ax 1 0 1 (some (ae.length,J.2.length)),ax 1 0 1 (none:al)],[.b U.1,ax 1 0 1 (some ((ae++[J.2]).length,U.2.length)),ax 1 0 1 (none:al)]]=(([(⟨(⟨J.1,(some (ae.length,J.2.length))⟩:aI),(none:al)⟩:ak),(⟨(⟨U.1,(some ((ae++[J.2]).length,U.2.length))⟩:aI),(none:al)⟩:ak)]:List ak)).map (a0 1 0) from rfl) (show 2=([(⟨(⟨J.1,(some (ae.length,J.2.length))⟩:aI),(none:al)⟩:ak),(⟨(⟨U.1,(some ((ae++[J.2]).length,U.2.length))⟩:aI),(none:al)⟩:ak)]:List ak).length from rfl))) (fun x=>(fO (rfl:uC 1=some 1)) x)) (e5 (a2:=uC))) (hX (a2:=uC) (gW Cr (fw ch 13 1 ((ae++[J.2]).length+0) (cb aq U.2) (gX 13 1 ((ae++[J.2]).length+0)))) (hI dN)))))))
  ·exact (.cH fun d5 =>
  .ret (let x1:=(aJ++([(⟨(⟨J.1,(some (ae.length,J.2.length))⟩:aI),(none:al)⟩:ak),(⟨(⟨U.1,(some ((ae++[J.2]).length,U.2.1.length))⟩:aI),(some (((ae++[J.2]).length+1),U.2.2.length))⟩:ak)]:List ak));let Cs:=gW (eJ .live 1 aq ae) (fw ch 10 1 (ae.length+0) (cb aq J.2) (gX 10 1 (ae.length+0)));let uD:=da [15,1];bT (t1.append [.bk (aO 3 (aN (.gj 1 (ae.length+0) (.call {au:=[],bs:=[],ac:=[ii],r:= .agg (iB J.1 0 0 0 J.2.length ([]:List Int)),bW:=[(aP 1 aq J.2)],cz:= .bF (.agg [.id,.id,.id]),cO:=[.pure],cy:=[],cj:=true})) (aO 2 (aN (.gj 1 ((ae++[J.2]).length+0) (.call {au:=[],bs:=[],ac:=[ii],r:= .agg (iC U.1 0 0 0 U.2.1.length 0 1 0 U.2.2.length),bW:=[[ao.mk 1 (U.2.1.map aq) .live,ao.mk 1 (U.2.2.map aq) .live]],cz:= .bF (.agg [.id,.id,.id]),cO:=[.cK [ao.mk 1 (U.2.1.map aq) .live,ao.mk 1 (U.2.2.map aq) .live]],cy:=[],cj:=true})) (aN (.dB 19 (.agg [.b J.1,ax 1 0 1 (some (ae.length,J.2.length)),ax 1 0 1 (none:al)]) (.dB 22 (.agg [.b U.1,ax 1 0 1 (some ((ae++[J.2]).length,U.2.1.length)),ax 1 0 1 (some (((ae++[J.2]).length+1),U.2.2.length))]) .none)) (aN (.aW (x1.length)) (aO 1 []))))))),(ap 2),.bB [15,1] [.cK (aP 3 (a0 1 0) x1),.cK (eC 1 aq ((ae++[J.2])++[U.2.1,U.2.2]))] (bQ [3,10,11,12])]) (db.aW (.cs (c5 (fX (dW [13]) 1 dN U.2.1) (c5 (fX (dW [13]) 1 dN U.2.2) (e5 (a2:=(dW [13]))))) ((f5 rfl (f5 rfl kh)):gv [ao.mk 1 (U.2.1.map aq) .live,ao.mk 1 (U.2.2.map aq) .live]) (hT (.inr (.inr (.inr U))) d3) (aT.agg (ck (aT.b U.1) (ck (aT.bd 0 0 0 U.2.1.length) (ck (aT.bd 0 1 0 U.2.2.length) fu)))) ((fs (dX (dR fS) (dX (dR fS) fP)) ft):eN [[ao.mk 1 (U.2.1.map aq) .live,ao.mk 1 (U.2.2.map aq) .live]]) (congrArg (· + 0) (jJ Cs rfl)) (fv ⟨.refl _,.s2 1 0 1 ae.length J.2.length,.dc 1 0 1,trivial⟩:dg (.agg (iB J.1 1 (ae.length+0) 0 J.2.length ([]:List Int))) (.agg [.b J.1,ax 1 0 1 (some (ae.length,J.2.length)),ax 1 0 1 (none:al)])) (fv ⟨.refl _,.s2 1 0 1 ((ae++[J.2]).length) U.2.1.length,.s2 1 0 1 ((ae++[J.2]).length+1) U.2.2.length,trivial⟩:dg (.agg (iC U.1 1 (((ae++[J.2]).length)+0) 0 U.2.1.length 1 (((ae++[J.2]).length+1)+0) 0 U.2.2.length)) (.agg [.b U.1,ax 1 0 1 (some ((ae++[J.2]).length,U.2.1.length)),ax 1 0 1 (some (((ae++[J.2]).length+1),U.2.2.length))])) (.eS (hp (show [[.b J.1,ax 1 0 1 (some (ae.length,J.2.length)),ax 1 0 1 (none:al)],[.b U.1,ax 1 0 1 (some ((ae++[J.2]).length,U.2.1.length)),ax 1 0 1 (some (((ae++[J.2]).length+1),U.2.2.length))]]=(([(⟨(⟨J.1,(some (ae.length,J.2.length))⟩:aI),(none:al)⟩:ak),(⟨(⟨U.1,(some ((ae++[J.2]).length,U.2.1.length))⟩:aI),(some (((ae++[J.2]).length+1),U.2.2.length))⟩:ak)]:List ak)).map (a0 1 0) from rfl) (show 2=([(⟨(⟨J.1,(some (ae.length,J.2.length))⟩:aI),(none:al)⟩:ak),(⟨(⟨U.1,(some ((ae++[J.2]).length,U.2.1.length))⟩:aI),(some (((ae++[J.2]).length+1),U.2.2.length))⟩:ak)]:List ak).length from rfl)) (iI (a0 1 0) aJ) (hq (dl aJ) (e4 (show [[.b J.1,ax 1 0 1 (some (ae.length,J.2.length)),ax 1 0 1 (none:al)],[.b U.1,ax 1 0 1 (some ((ae++[J.2]).length,U.2.1.length)),ax 1 0 1 (some (((ae++[J.2]).length+1),U.2.2.length))]]=(([(⟨(⟨J.1,(some (ae.length,J.2.length))⟩:aI),(none:al)⟩:ak),(⟨(⟨U.1,(some ((ae++[J.2]).length,U.2.1.length))⟩:aI),(some (((ae++[J.2]).length+1),U.2.2.length))⟩:ak)]:List ak)).map (a0 1 0) from rfl) (show 2=([(⟨(⟨J.1,(some (ae.length,J.2.length))⟩:aI),(none:al)⟩:ak),(⟨(⟨U.1,(some ((ae++[J.2]).length,U.2.1.length))⟩:aI),(some (((ae++[J.2]).length+1),U.2.2.length))⟩:ak)]:List ak).length from rfl)):x1.length=aJ.length+(([[.b J.1,ax 1 0 1 (some (ae.length,J.2.length)),ax 1 0 1 (none:al)],[.b U.1,ax 1 0 1 (some ((ae++[J.2]).length,U.2.1.length)),ax 1 0 1 (some (((ae++[J.2]).length+1),U.2.2.length))]].drop 0).take 2).length) d5 (c5 (fG (a2:=uD) 3 .live (a0 1 0) (gL (cb (a0 1 0) aJ) (dl aJ) (e4 (show [[.b J.1,ax 1 0 1 (some (ae.length,J.2.length)),ax 1 0 1 (none:al)],[.b U.1,ax 1 0 1 (some ((ae++[J.2]).length,U.2.1.length)),ax 1 0 1 (some (((ae++[J.2]).length+1),U.2.2.length))]]=(([(⟨(⟨J.1,(some (ae.length,J.2.length))⟩:aI),(none:al)⟩:ak),(⟨(⟨U.1,(some ((ae++[J.2]).length,U.2.1.length))⟩:aI),(some (((ae++[J.2]).length+1),U.2.2.length))⟩:ak)]:List ak)).map (a0 1 0) from rfl) (show 2=([(⟨(⟨J.1,(some (ae.length,J.2.length))⟩:aI),(none:al)⟩:ak),(⟨(⟨U.1,(some ((ae++[J.2]).length,U.2.1.length))⟩:aI),(some (((ae++[J.2]).length+1),U.2.2.length))⟩:ak)]:List ak).length from rfl))) (fun x=>(fO (rfl:uD 1=some 1)) x)) (e5 (a2:=uD))) (hX (a2:=uD) (gW Cs (fw ch 13 1 ((ae++[J.2]).length+0) (cb aq U.2.1) (fw ch 13 1 ((ae++[J.2]).length+0) (cb aq U.2.2) (gX 13 1 ((ae++[J.2]).length+0))))) (hI dN))))))))))
  ·exact (.bp fun dm d3 =>
  (have db:=bb.aW (.eS (c5 (fX (dW [10]) 1 dN J.2.1) (c5 (fX (dW [10]) 1 dN J.2.2) (e5 (a2:=(dW [10]))))) ((f5 rfl (f5 rfl kh)):gv [ao.mk 1 (J.2.1.map aq) .live,ao.mk 1 (J.2.2.map aq) .live]) (hT (.inr (.inr (.inr J))) bM) (aT.agg (ck (aT.b J.1) (ck (aT.bd 0 0 0 J.2.1.length) (ck (aT.bd 0 1 0 J.2.2.length) fu)))) ((fs (dX (dR fS) (dX (dR fS) fP)) ft):eN [[ao.mk 1 (J.2.1.map aq) .live,ao.mk 1 (J.2.2.map aq) .live]]) (congrArg (· + 0) (jJ (eJ .live 1 aq ae) rfl)));
  (by
  rcases dm with U|U|U|U
  ·exact (.cH fun d5 =>
  .ret (let x2:=(aJ++([(⟨(⟨J.1,(some (ae.length,J.2.1.length))⟩:aI),(some ((ae.length+1),J.2.2.length))⟩:ak),(⟨(⟨U,(none:al)⟩:aI),(none:al)⟩:ak)]:List ak));let uE:=da [15,1];bT (t1.append [.bk (aO 3 (aN (.gj 1 (ae.length+0) (.call {au:=[],bs:=[],ac:=[ii],r:= .agg (iC J.1 0 0 0 J.2.1.length 0 1 0 J.2.2.length),bW:=[[ao.mk 1 (J.2.1.map aq) .live,ao.mk 1 (J.2.2.map aq) .live]],cz:= .bF (.agg [.id,.id,.id]),cO:=[.cK [ao.mk 1 (J.2.1.map aq) .live,ao.mk 1 (J.2.2.map aq) .live]],cy:=[],cj:=true})) (aO 2 (aN (.call {au:=[],bs:=[],ac:=[ii],r:= .agg [.b U,.a1 1 (([]:List Int).map aq),.a1 1 (([]:List Int).map aq)],bW:=[],cz:=ii,cO:=[],cy:=[],cj:=true}) (aN (.dB 19 (.agg [.b J.1,ax 1 0 1 (some (ae.length,J.2.1.length)),ax 1 0 1 (some ((ae.length+1),J.2.2.length))]) (.dB 22 (.agg [.b U,ax 1 0 1 (none:al),ax 1 0 1 (none:al)]) .none)) (aN (.aW (x2.length)) (aO 1 []))))))),(ap 2),.bB [15,1] [.cK (aP 3 (a0 1 0) x2),.cK (eC 1 aq (ae++[J.2.1,J.2.2]))] (bQ [3,10,11,12])]) (db.aW (.cs (hT (.inl U) d3) (aT.agg (ck (aT.b U) (ck (aT.dd _:aT (.a1 1 (([]:List Int).map aq))) (ck (aT.dd _:aT (.a1 1 (([]:List Int).map aq))) fu)))) (fv ⟨.refl _,.s2 1 0 1 ae.length J.2.1.length,.s2 1 0 1 (ae.length+1) J.2.2.length,trivial⟩:dg (.agg (iC J.1 1 (ae.length+0) 0 J.2.1.length 1 ((ae.length+1)+0) 0 J.2.2.length)) (.agg [.b J.1,ax 1 0 1 (some (ae.length,J.2.1.length)),ax 1 0 1 (some ((ae.length+1),J.2.2.length))])) (fv ⟨.refl _,.dc 1 0 1,.dc 1 0 1,trivial⟩:dg (.agg [.b U,.a1 1 (([]:List Int).map aq),.a1 1 (([]:List Int).map aq)]) (.agg [.b U,ax 1 0 1 (none:al),ax 1 0 1 (none:al)])) (hp (show [[.b J.1,ax 1 0 1 (some (ae.length,J.2.1.length)),ax 1 0 1 (some ((ae.length+1),J.2.2.length))],[.b U,ax 1 0 1 (none:al),ax 1 0 1 (none:al)]]=(([(⟨(⟨J.1,(some (ae.length,J.2.1.length))⟩:aI),(some ((ae.length+1),J.2.2.length))⟩:ak),(⟨(⟨U,(none:al)⟩:aI),(none:al)⟩:ak)]:List ak)).map (a0 1 0) from rfl) (show 2=([(⟨(⟨J.1,(some (ae.length,J.2.1.length))⟩:aI),(some ((ae.length+1),J.2.2.length))⟩:ak),(⟨(⟨U,(none:al)⟩:aI),(none:al)⟩:ak)]:List ak).length from rfl)) (iI (a0 1 0) aJ) (hq (dl aJ) (e4 (show [[.b J.1,ax 1 0 1 (some (ae.length,J.2.1.length)),ax 1 0 1 (some ((ae.length+1),J.2.2.length))],[.b U,ax 1 0 1 (none:al),ax 1 0 1 (none:al)]]=(([(⟨(⟨J.1,(some (ae.length,J.2.1.length))⟩:aI),(some ((ae.length+1),J.2.2.length))⟩:ak),(⟨(⟨U,(none:al)⟩:aI),(none:al)⟩:ak)]:List ak)).map (a0 1 0) from rfl) (show 2=([(⟨(⟨J.1,(some (ae.length,J.2.1.length))⟩:aI),(some ((ae.length+1),J.2.2.length))⟩:ak),(⟨(⟨U,(none:al)⟩:aI),(none:al)⟩:ak)]:List ak).length from rfl)):x2.length=aJ.length+(([[.b J.1,ax 1 0 1 (some (ae.length,J.2.1.length)),ax 1 0 1 (some ((ae.length+1),J.2.2.length))],[.b U,ax 1 0 1 (none:al),ax 1 0 1 (none:al)]].drop 0).take 2).length) d5 (.aE (c5 (fG (a2:=uE) 3 .live (a0 1 0) (gL (cb (a0 1 0) aJ) (dl aJ) (e4 (show [[.b J.1,ax 1 0 1 (some (ae.length,J.2.1.length)),ax 1 0 1 (some ((ae.length+1),J.2.2.length))],[.b U,ax 1 0 1 (none:al),ax 1 0 1 (none:al)]]=(([(⟨(⟨J.1,(some (ae.length,J.2.1.length))⟩:aI),(some ((ae.length+1),J.2.2.length))⟩:ak),(⟨(⟨U,(none:al)⟩:aI),(none:al)⟩:ak)]:List ak)).map (a0 1 0) from rfl) (show 2=([(⟨(⟨J.1,(some (ae.length,J.2.1.length))⟩:aI),(some ((ae.length+1),J.2.2.length))⟩:ak),(⟨(⟨U,(none:al)⟩:aI),(none:al)⟩:ak)]:List ak).length from rfl))) (fun x=>(fO (rfl:uE 1=some 1)) x)) (e5 (a2:=uE))) (hX (a2:=uE) (gW (eJ .live 1 aq ae) (fw ch 10 1 (ae.length+0) (cb aq J.2.1) (fw ch 10 1 (ae.length+0) (cb aq J.2.2) (gX 10 1 (ae.length+0))))) (hI dN)))))))
  ·exact (.cH fun d5 =>
  .ret (let x3:=(aJ++([(⟨(⟨J.1,(some (ae.length,J.2.1.length))⟩:aI),(some ((ae.length+1),J.2.2.length))⟩:ak),(⟨(⟨U.1,(none:al)⟩:aI),(some ((ae++[J.2.1,J.2.2]).length,U.2.length))⟩:ak)]:List ak));let Ct:=gW (eJ .live 1 aq ae) (fw ch 10 1 (ae.length+0) (cb aq J.2.1) (fw ch 10 1 (ae.length+0) (cb aq J.2.2) (gX 10 1 (ae.length+0))));let uF:=da [15,1];bT (t1.append [.bk (aO 3 (aN (.gj 1 (ae.length+0) (.call {au:=[],bs:=[],ac:=[ii],r:= .agg (iC J.1 0 0 0 J.2.1.length 0 1 0 J.2.2.length),bW:=[[ao.mk 1 (J.2.1.map aq) .live,ao.mk 1 (J.2.2.map aq) .live]],cz:= .bF (.agg [.id,.id,.id]),cO:=[.cK [ao.mk 1 (J.2.1.map aq) .live,ao.mk 1 (J.2.2.map aq) .live]],cy:=[],cj:=true})) (aO 2 (aN (.gj 1 ((ae++[J.2.1,J.2.2]).length+0) (.call {au:=[],bs:=[],ac:=[ii],r:= .agg (iA U.1 ([]:List Int) 0 0 0 U.2.length),bW:=[(aP 1 aq U.2)],cz:= .bF (.agg [.id,.id,.id]),cO:=[.pure],cy:=[],cj:=true})) (aN (.dB 19 (.agg [.b J.1,ax 1 0 1 (some (ae.length,J.2.1.length)),ax 1 0 1 (some ((ae.length+1),J.2.2.length))]) (.dB 22 (.agg [.b U.1,ax 1 0 1 (none:al),ax 1 0 1 (some ((ae++[J.2.1,J.2.2]).length,U.2.length))]) .none)) (aN (.aW (x3.length)) (aO 1 []))))))),(ap 2),.bB [15,1] [.cK (aP 3 (a0 1 0) x3),.cK (eC 1 aq ((ae++[J.2.1,J.2.2])++[U.2]))] (bQ [3,10,11,12])]) (db.aW (.cs (eZ 1 ch U.2) (hT (.inr (.inl U)) d3) (aT.agg (ck (aT.b U.1) (ck (aT.dd _:aT (.a1 1 (([]:List Int).map aq))) (ck (aT.bd 0 0 0 U.2.length) fu)))) ((fs (dX (dR fS) fP) ft):eN [(aP 1 aq U.2)]) (congrArg (· + 0) (jJ Ct rfl)) (fv ⟨.refl _,.s2 1 0 1 ae.length J.2.1.length,.s2 1 0 1 (ae.length+1) J.2.2.length,trivial⟩:dg (.agg (iC J.1 1 (ae.length+0) 0 J.2.1.length 1 ((ae.length+1)+0) 0 J.2.2.length)) (.agg [.b J.1,ax 1 0 1 (some (ae.length,J.2.1.length)),ax 1 0 1 (some ((ae.length+1),J.2.2.length))])) (fv ⟨.refl _,.dc 1 0 1,.s2 1 0 1 ((ae++[J.2.1,J.2.2]).length) U.2.length,trivial⟩:dg (.agg (iA U.1 ([]:List Int) 1 (((ae++[J.2.1,J.2.2]).length)+0) 0 U.2.length)) (.agg [.b U.1,ax 1 0 1 (none:al),ax 1 0 1 (some ((ae++[J.2.1,J.2.2]).length,U.2.length))])) (hp (show [[.b J.1,ax 1 0 1 (some (ae.length,J.2.1.length)),ax 1 0 1 (some ((ae.length+1),J.2.2.length))],[.b U.1,ax 1 0 1 (none:al),ax 1 0 1 (some ((ae++[J.2.1,J.2.2]).length,U.2.length))]]=(([(⟨(⟨J.1,(some (ae.length,J.2.1.length))⟩:aI),(some ((ae.length+1),J.2.2.length))⟩:ak),(⟨(⟨U.1,(none:al)⟩:aI),(some ((ae++[J.2.1,J.2.2]).length,U.2.length))⟩:ak)]:List ak)).map (a0 1 0) from rfl) (show 2=([(⟨(⟨J.1,(some (ae.length,J.2.1.length))⟩:aI),(some ((ae.length+1),J.2.2.length))⟩:ak),(⟨(⟨U.1,(none:al)⟩:aI),(some ((ae++[J.2.1,J.2.2]).length,U.2.length))⟩:ak)]:List ak).length from rfl)) (.ee (iI (a0 1 0) aJ) (hq (dl aJ) (e4 (show [[.b J.1,ax 1 0 1 (some (ae.length,J.2.1.length)),ax 1 0 1 (some ((ae.length+1),J.2.2.length))],[.b U.1,ax 1 0 1 (none:al),ax 1 0 1 (some ((ae++[J.2.1,J.2.2]).length,U.2.length))]]=(([(⟨(⟨J.1,(some (ae.length,J.2.1.length))⟩:aI),(some ((ae.length+1),J.2.2.length))⟩:ak),(⟨(⟨U.1,(none:al)⟩:aI),(some ((ae++[J.2.1,J.2.2]).length,U.2.length))⟩:ak)]:List ak)).map (a0 1 0) from rfl) (show 2=([(⟨(⟨J.1,(some (ae.length,J.2.1.length))⟩:aI),(some ((ae.length+1),J.2.2.length))⟩:ak),(⟨(⟨U.1,(none:al)⟩:aI),(some ((ae++[J.2.1,J.2.2]).length,U.2.length))⟩:ak)]:List ak).length from rfl)):x3.length=aJ.length+(([[.b J.1,ax 1 0 1 (some (ae.length,J.2.1.length)),ax 1 0 1 (some ((ae.length+1),J.2.2.length))],[.b U.1,ax 1 0 1 (none:al),ax 1 0 1 (some ((ae++[J.2.1,J.2.2]).length,U.2.length))]].drop 0).take 2).length) d5 (c5 (fG (a2:=uF) 3 .live (a0 1 0) (gL (cb (a0 1 0) aJ) (dl aJ) (e4 (show [[.b J.1,ax 1 0 1 (some (ae.length,J.2.1.length)),ax 1 0 1 (some ((ae.length+1),J.2.2.length))],[.b U.1,ax 1 0 1 (none:al),ax 1 0 1 (some ((ae++[J.2.1,J.2.2]).length,U.2.length))]]=(([(⟨(⟨J.1,(some (ae.length,J.2.1.length))⟩:aI),(some ((ae.length+1),J.2.2.length))⟩:ak),(⟨(⟨U.1,(none:al)⟩:aI),(some ((ae++[J.2.1,J.2.2]).length,U.2.length))⟩:ak)]:List ak)).map (a0 1 0) from rfl) (show 2=([(⟨(⟨J.1,(some (ae.length,J.2.1.length))⟩:aI),(some ((ae.length+1),J.2.2.length))⟩:ak),(⟨(⟨U.1,(none:al)⟩:aI),(some ((ae++[J.2.1,J.2.2]).length,U.2.length))⟩:ak)]:List ak).length from rfl))) (fun x=>(fO (rfl:uF 1=some 1)) x)) (e5 (a2:=uF))) (hX (a2:=uF) (gW Ct (fw ch 13 1 ((ae++[J.2.1,J.2.2]).length+0) (cb aq U.2) (gX 13 1 ((ae++[J.2.1,J.2.2]).length+0)))) (hI dN)))))))
  ·exact (.cH fun d5 =>
  .ret (let x4:=(aJ++([(⟨(⟨J.1,(some (ae.length,J.2.1.length))⟩:aI),(some ((ae.length+1),J.2.2.length))⟩:ak),(⟨(⟨U.1,(some ((ae++[J.2.1,J.2.2]).length,U.2.length))⟩:aI),(none:al)⟩:ak)]:List ak));let Cu:=gW (eJ .live 1 aq ae) (fw ch 10 1 (ae.length+0) (cb aq J.2.1) (fw ch 10 1 (ae.length+0) (cb aq J.2.2) (gX 10 1 (ae.length+0))));let uG:=da [15,1];bT (t1.append [.bk (aO 3 (aN (.gj 1 (ae.length+0) (.call {au:=[],bs:=[],ac:=[ii],r:= .agg (iC J.1 0 0 0 J.2.1.length 0 1 0 J.2.2.length),bW:=[[ao.mk 1 (J.2.1.map aq) .live,ao.mk 1 (J.2.2.map aq) .live]],cz:= .bF (.agg [.id,.id,.id]),cO:=[.cK [ao.mk 1 (J.2.1.map aq) .live,ao.mk 1 (J.2.2.map aq) .live]],cy:=[],cj:=true})) (aO 2 (aN (.gj 1 ((ae++[J.2.1,J.2.2]).length+0) (.call {au:=[],bs:=[],ac:=[ii],r:= .agg (iB U.1 0 0 0 U.2.length ([]:List Int)),bW:=[(aP 1 aq U.2)],cz:= .bF (.agg [.id,.id,.id]),cO:=[.pure],cy:=[],cj:=true})) (aN (.dB 19 (.agg [.b J.1,ax 1 0 1 (some (ae.length,J.2.1.length)),ax 1 0 1 (some ((ae.length+1),J.2.2.length))]) (.dB 22 (.agg [.b U.1,ax 1 0 1 (some ((ae++[J.2.1,J.2.2]).length,U.2.length)),ax 1 0 1 (none:al)]) .none)) (aN (.aW (x4.length)) (aO 1 []))))))),(ap 2),.bB [15,1] [.cK (aP 3 (a0 1 0) x4),.cK (eC 1 aq ((ae++[J.2.1,J.2.2])++[U.2]))] (bQ [3,10,11,12])]) (db.aW (.cs (eZ 1 ch U.2) (hT (.inr (.inr (.inl U))) d3) (aT.agg (ck (aT.b U.1) (ck (aT.bd 0 0 0 U.2.length) (ck (aT.dd _:aT (.a1 1 (([]:List Int).map aq))) fu)))) ((fs (dX (dR fS) fP) ft):eN [(aP 1 aq U.2)]) (congrArg (· + 0) (jJ Cu rfl)) (fv ⟨.refl _,.s2 1 0 1 ae.length J.2.1.length,.s2 1 0 1 (ae.length+1) J.2.2.length,trivial⟩:dg (.agg (iC J.1 1 (ae.length+0) 0 J.2.1.length 1 ((ae.length+1)+0) 0 J.2.2.length)) (.agg [.b J.1,ax 1 0 1 (some (ae.length,J.2.1.length)),ax 1 0 1 (some ((ae.length+1),J.2.2.length))])) (fv ⟨.refl _,.s2 1 0 1 ((ae++[J.2.1,J.2.2]).length) U.2.length,.dc 1 0 1,trivial⟩:dg (.agg (iB U.1 1 (((ae++[J.2.1,J.2.2]).length)+0) 0 U.2.length ([]:List Int))) (.agg [.b U.1,ax 1 0 1 (some ((ae++[J.2.1,J.2.2]).length,U.2.length)),ax 1 0 1 (none:al)])) (hp (show [[.b J.1,ax 1 0 1 (some (ae.length,J.2.1.length)),ax 1 0 1 (some ((ae.length+1),J.2.2.length))],[.b U.1,ax 1 0 1 (some ((ae++[J.2.1,J.2.2]).length,U.2.length)),ax 1 0 1 (none:al)]]=(([(⟨(⟨J.1,(some (ae.length,J.2.1.length))⟩:aI),(some ((ae.length+1),J.2.2.length))⟩:ak),(⟨(⟨U.1,(some ((ae++[J.2.1,J.2.2]).length,U.2.length))⟩:aI),(none:al)⟩:ak)]:List ak)).map (a0 1 0) from rfl) (show 2=([(⟨(⟨J.1,(some (ae.length,J.2.1.length))⟩:aI),(some ((ae.length+1),J.2.2.length))⟩:ak),(⟨(⟨U.1,(some ((ae++[J.2.1,J.2.2]).length,U.2.length))⟩:aI),(none:al)⟩:ak)]:List ak).length from rfl)) (.ee (iI (a0 1 0) aJ) (hq (dl aJ) (e4 (show [[.b J.1,ax 1 0 1 (some (ae.length,J.2.1.length)),ax 1 0 1 (some ((ae.length+1),J.2.2.length))],[.b U.1,ax 1 0 1 (some ((ae++[J.2.1,J.2.2]).length,U.2.length)),ax 1 0 1 (none:al)]]=(([(⟨(⟨J.1,(some (ae.length,J.2.1.length))⟩:aI),(some ((ae.length+1),J.2.2.length))⟩:ak),(⟨(⟨U.1,(some ((ae++[J.2.1,J.2.2]).length,U.2.length))⟩:aI),(none:al)⟩:ak)]:List ak)).map (a0 1 0) from rfl) (show 2=([(⟨(⟨J.1,(some (ae.length,J.2.1.length))⟩:aI),(some ((ae.length+1),J.2.2.length))⟩:ak),(⟨(⟨U.1,(some ((ae++[J.2.1,J.2.2]).length,U.2.length))⟩:aI),(none:al)⟩:ak)]:List ak).length from rfl)):x4.length=aJ.length+(([[.b J.1,ax 1 0 1 (some (ae.length,J.2.1.length)),ax 1 0 1 (some ((ae.length+1),J.2.2.length))],[.b U.1,ax 1 0 1 (some ((ae++[J.2.1,J.2.2]).length,U.2.length)),ax 1 0 1 (none:al)]].drop 0).take 2).length) d5 (c5 (fG (a2:=uG) 3 .live (a0 1 0) (gL (cb (a0 1 0) aJ) (dl aJ) (e4 (show [[.b J.1,ax 1 0 1 (some (ae.length,J.2.1.length)),ax 1 0 1 (some ((ae.length+1),J.2.2.length))],[.b U.1,ax 1 0 1 (some ((ae++[J.2.1,J.2.2]).length,U.2.length)),ax 1 0 1 (none:al)]]=(([(⟨(⟨J.1,(some (ae.length,J.2.1.length))⟩:aI),(some ((ae.length+1),J.2.2.length))⟩:ak),(⟨(⟨U.1,(some ((ae++[J.2.1,J.2.2]).length,U.2.length))⟩:aI),(none:al)⟩:ak)]:List ak)).map (a0 1 0) from rfl) (show 2=([(⟨(⟨J.1,(some (ae.length,J.2.1.length))⟩:aI),(some ((ae.length+1),J.2.2.length))⟩:ak),(⟨(⟨U.1,(some ((ae++[J.2.1,J.2.2]).length,U.2.length))⟩:aI),(none:al)⟩:ak)]:List ak).length from rfl))) (fun x=>(fO (rfl:uG 1=some 1)) x)) (e5 (a2:=uG))) (hX (a2:=uG) (gW Cu (fw ch 13 1 ((ae++[J.2.1,J.2.2]).length+0) (cb aq U.2) (gX 13 1 ((ae++[J.2.1,J.2.2]).length+0)))) (hI dN)))))))
  ·exact (.cH fun d5 =>
  .ret (let x5:=(aJ++([(⟨(⟨J.1,(some (ae.length,J.2.1.length))⟩:aI),(some ((ae.length+1),J.2.2.length))⟩:ak),(⟨(⟨U.1,(some ((ae++[J.2.1,J.2.2]).length,U.2.1.length))⟩:aI),(some (((ae++[J.2.1,J.2.2]).length+1),U.2.2.length))⟩:ak)]:List ak));let Cv:=gW (eJ .live 1 aq ae) (fw ch 10 1 (ae.length+0) (cb aq J.2.1) (fw ch 10 1 (ae.length+0) (cb aq J.2.2) (gX 10 1 (ae.length+0))));let uH:=da [15,1];bT (t1.append [.bk (aO 3 (aN (.gj 1 (ae.length+0) (.call {au:=[],bs:=[],ac:=[ii],r:= .agg (iC J.1 0 0 0 J.2.1.length 0 1 0 J.2.2.length),bW:=[[ao.mk 1 (J.2.1.map aq) .live,ao.mk 1 (J.2.2.map aq) .live]],cz:= .bF (.agg [.id,.id,.id]),cO:=[.cK [ao.mk 1 (J.2.1.map aq) .live,ao.mk 1 (J.2.2.map aq) .live]],cy:=[],cj:=true})) (aO 2 (aN (.gj 1 ((ae++[J.2.1,J.2.2]).length+0) (.call {au:=[],bs:=[],ac:=[ii],r:= .agg (iC U.1 0 0 0 U.2.1.length 0 1 0 U.2.2.length),bW:=[[ao.mk 1 (U.2.1.map aq) .live,ao.mk 1 (U.2.2.map aq) .live]],cz:= .bF (.agg [.id,.id,.id]),cO:=[.cK [ao.mk 1 (U.2.1.map aq) .live,ao.mk 1 (U.2.2.map aq) .live]],cy:=[],cj:=true})) (aN (.dB 19 (.agg [.b J.1,ax 1 0 1 (some (ae.length,J.2.1.length)),ax 1 0 1 (some ((ae.length+1),J.2.2.length))]) (.dB 22 (.agg [.b U.1,ax 1 0 1 (some ((ae++[J.2.1,J.2.2]).length,U.2.1.length)),ax 1 0 1 (some (((ae++[J.2.1,J.2.2]).length+1),U.2.2.length))]) .none)) (aN (.aW (x5.length)) (aO 1 []))))))),(ap 2),.bB [15,1] [.cK (aP 3 (a0 1 0) x5),.cK (eC 1 aq ((ae++[J.2.1,J.2.2])++[U.2.1,U.2.2]))] (bQ [3,10,11,12])]) (db.aW (.cs (c5 (fX (dW [13]) 1 dN U.2.1) (c5 (fX (dW [13]) 1 dN U.2.2) (e5 (a2:=(dW [13]))))) ((f5 rfl (f5 rfl kh)):gv [ao.mk 1 (U.2.1.map aq) .live,ao.mk 1 (U.2.2.map aq) .live]) (hT (.inr (.inr (.inr U))) d3) (aT.agg (ck (aT.b U.1) (ck (aT.bd 0 0 0 U.2.1.length) (ck (aT.bd 0 1 0 U.2.2.length) fu)))) ((fs (dX (dR fS) (dX (dR fS) fP)) ft):eN [[ao.mk 1 (U.2.1.map aq) .live,ao.mk 1 (U.2.2.map aq) .live]]) (congrArg (· + 0) (jJ Cv rfl)) (fv ⟨.refl _,.s2 1 0 1 ae.length J.2.1.length,.s2 1 0 1 (ae.length+1) J.2.2.length,trivial⟩:dg (.agg (iC J.1 1 (ae.length+0) 0 J.2.1.length 1 ((ae.length+1)+0) 0 J.2.2.length)) (.agg [.b J.1,ax 1 0 1 (some (ae.length,J.2.1.length)),ax 1 0 1 (some ((ae.length+1),J.2.2.length))])) (fv ⟨.refl _,.s2 1 0 1 ((ae++[J.2.1,J.2.2]).length) U.2.1.length,.s2 1 0 1 ((ae++[J.2.1,J.2.2]).length+1) U.2.2.length,trivial⟩:dg (.agg (iC U.1 1 (((ae++[J.2.1,J.2.2]).length)+0) 0 U.2.1.length 1 (((ae++[J.2.1,J.2.2]).length+1)+0) 0 U.2.2.length)) (.agg [.b U.1,ax 1 0 1 (some ((ae++[J.2.1,J.2.2]).length,U.2.1.length)),ax 1 0 1 (some (((ae++[J.2.1,J.2.2]).length+1),U.2.2.length))])) (.eS (hp (show [[.b J.1,ax 1 0 1 (some (ae.length,J.2.1.length)),ax 1 0 1 (some ((ae.length+1),J.2.2.length))],[.b U.1,ax 1 0 1 (some ((ae++[J.2.1,J.2.2]).length,U.2.1.length)),ax 1 0 1 (some (((ae++[J.2.1,J.2.2]).length+1),U.2.2.length))]]=(([(⟨(⟨J.1,(some (ae.length,J.2.1.length))⟩:aI),(some ((ae.length+1),J.2.2.length))⟩:ak),(⟨(⟨U.1,(some ((ae++[J.2.1,J.2.2]).length,U.2.1.length))⟩:aI),(some (((ae++[J.2.1,J.2.2]).length+1),U.2.2.length))⟩:ak)]:List ak)).map (a0 1 0) from rfl) (show 2=([(⟨(⟨J.1,(some (ae.length,J.2.1.length))⟩:aI),(some ((ae.length+1),J.2.2.length))⟩:ak),(⟨(⟨U.1,(some ((ae++[J.2.1,J.2.2]).length,U.2.1.length))⟩:aI),(some (((ae++[J.2.1,J.2.2]).length+1),U.2.2.length))⟩:ak)]:List ak).length from rfl)) (iI (a0 1 0) aJ) (hq (dl aJ) (e4 (show [[.b J.1,ax 1 0 1 (some (ae.length,J.2.1.length)),ax 1 0 1 (some ((ae.length+1),J.2.2.length))],[.b U.1,ax 1 0 1 (some ((ae++[J.2.1,J.2.2]).length,U.2.1.length)),ax 1 0 1 (some (((ae++[J.2.1,J.2.2]).length+1),U.2.2.length))]]=(([(⟨(⟨J.1,(some (ae.length,J.2.1.length))⟩:aI),(some ((ae.length+1),J.2.2.length))⟩:ak),(⟨(⟨U.1,(some ((ae++[J.2.1,J.2.2]).length,U.2.1.length))⟩:aI),(some (((ae++[J.2.1,J.2.2]).length+1),U.2.2.length))⟩:ak)]:List ak)).map (a0 1 0) from rfl) (show 2=([(⟨(⟨J.1,(some (ae.length,J.2.1.length))⟩:aI),(some ((ae.length+1),J.2.2.length))⟩:ak),(⟨(⟨U.1,(some ((ae++[J.2.1,J.2.2]).length,U.2.1.length))⟩:aI),(some (((ae++[J.2.1,J.2.2]).length+1),U.2.2.length))⟩:ak)]:List ak).length from rfl)):x5.length=aJ.length+(([[.b J.1,ax 1 0 1 (some (ae.length,J.2.1.length)),ax 1 0 1 (some ((ae.length+1),J.2.2.length))],[.b U.1,ax 1 0 1 (some ((ae++[J.2.1,J.2.2]).length,U.2.1.length)),ax 1 0 1 (some (((ae++[J.2.1,J.2.2]).length+1),U.2.2.length))]].drop 0).take 2).length) d5 (c5 (fG (a2:=uH) 3 .live (a0 1 0) (gL (cb (a0 1 0) aJ) (dl aJ) (e4 (show [[.b J.1,ax 1 0 1 (some (ae.length,J.2.1.length)),ax 1 0 1 (some ((ae.length+1),J.2.2.length))],[.b U.1,ax 1 0 1 (some ((ae++[J.2.1,J.2.2]).length,U.2.1.length)),ax 1 0 1 (some (((ae++[J.2.1,J.2.2]).length+1),U.2.2.length))]]=(([(⟨(⟨J.1,(some (ae.length,J.2.1.length))⟩:aI),(some ((ae.length+1),J.2.2.length))⟩:ak),(⟨(⟨U.1,(some ((ae++[J.2.1,J.2.2]).length,U.2.1.length))⟩:aI),(some (((ae++[J.2.1,J.2.2]).length+1),U.2.2.length))⟩:ak)]:List ak)).map (a0 1 0) from rfl) (show 2=([(⟨(⟨J.1,(some (ae.length,J.2.1.length))⟩:aI),(some ((ae.length+1),J.2.2.length))⟩:ak),(⟨(⟨U.1,(some ((ae++[J.2.1,J.2.2]).length,U.2.1.length))⟩:aI),(some (((ae++[J.2.1,J.2.2]).length+1),U.2.2.length))⟩:ak)]:List ak).length from rfl))) (fun x=>(fO (rfl:uH 1=some 1)) x)) (e5 (a2:=uH))) (hX (a2:=uH) (gW Cv (fw ch 13 1 ((ae++[J.2.1,J.2.2]).length+0) (cb aq U.2.1) (fw ch 13 1 ((ae++[J.2.1,J.2.2]).length+0) (cb aq U.2.2) (gX 13 1 ((ae++[J.2.1,J.2.2]).length+0))))) (hI dN)))))))))))))
  (fun I =>
  .ret (let uI:=da [0,1];bT [(ap 1),.aH false,.bB [0,1] [.cK (aP 3 (a0 1 0) aJ),.cK (eC 1 aq ae)] (bQ [3])] (.br I (c5 (fG (a2:=uI) 3 .live (a0 1 0) (cb (a0 1 0) aJ) (fun x=>(fO (rfl:uI 1=some 1)) x)) (e5 (a2:=uI))) (lp uI 1 dN ae))))
theorem Dy {fo:List bh}{fx dQ:Int}{aJ:List ak}{ae:List (List Int)}{r} (h:yP fo fx dQ aJ ae=some r):fW bE 27 0 7 [1,1,1,0,1,0,0] (vd fo fx) (vh fo fx) (dQ,aJ,ae) r:=f6 (fun _=>C7) h
def oy (bi:dq):Option (((List ak)×(List (List Int)))⊕(Unit)) :=
 ov bi >>= fun aQ =>
 if aQ=true then
  yP bi.bH (len_ a6 bi.bH) 0 ([]:List ak) ([]:List (List Int)) >>= fun aM =>
  some (.inl (aM.1,aM.2))
 else
  some (.inr ())
theorem sD {bi:dq}:bP (oy bi) (Sum.elim (fun a=>Con bE 7 [.agg (hn bi)] [] (.bd 0 0 0 a.1.length) [(ao.mk 3 (a.1.map (a0 0 1)) .live::(eC 1 aq a.2))]) (fun a=>Con bE 7 [.agg (hn bi)] [] (.dz) [])):=by
 unfold oy
 exact .bp fun aQ R =>
  (let t1:List b8:=[(ap 2),.bk (ct 1 (cI 1 (.b aQ) true) 1)];
  have bb:=((.aE (DK aQ R) (aT.b aQ)):cr _);
  .ite (fun av =>
  .bp fun aM bC =>
  .ret (let cq:=eC 1 aq aM.2;let dJ:=da [10,11];let ek:=aP 3 (a0 0 1) aM.1;hh (t1.append [.aH false,(ap 1),(ap 4),.pf 3 3,.xS,.bB [10,11] [.cK (aP 3 (a0 1 0) ([]:List ak)),.cK (eC 1 aq ([]:List (List Int)))] [(3,j9 (([]:List ak).length)),(10,ii),(11,ii),(12,ii)],(vh bi.bH (len_ a6 bi.bH) aM).jk,(ap 2),.r2 [{bc:=[(0,0)],fF:=some (1,0)}] [([.rx ek],some (.rx cq))] [(2,.bF (.dp (.at_ 0 0 aM.1.length)))]]) [0] [.cK (ao.mk 3 (aM.1.map (a0 0 1)) .live::cq)] (bb.aW (.cs (c9 av) (c5 (fG (a2:=dJ) 3 .live (a0 1 0) (sn (a0 11 0)) (fun x=>(fO (rfl:dJ 11=some 1)) x)) (e5 (a2:=dJ))) (hX (a2:=dJ) (Hj .live 1 aq) (hI dN)) (iJ ak) (Dy bC) (GW (Bs (gf:=(a0 0 1)) (cb (a0 1 0) aM.1) (fun _=>rfl) (fun x=>(FT (fun _=>rfl)) x)) Hk:mN (hO [{bc:=[(0,0)],fF:=some (1,0)}]) (aP 3 (a0 1 0) aM.1) ek) (GX (eJ .live 1 aq aM.2) (fun _=>rfl) dN:mN (hO [{bc:=[(0,0)],fF:=some (1,0)}]) cq cq) (rfl:(hO [{bc:=[(0,0)],fF:=some (1,0)}]) 0 0=some (0,0)) (.aE (rfl:aM.1.length=aM.1.length) (c5 (fG (a2:=(da [0])) 3 .live (a0 0 1) (cb (a0 0 1) aM.1) (fun x=>(fO (rfl:(da [0]) 0=some 0)) x)) (lp (da [0]) 1 dN aM.2)))))))
  (fun av =>
  .ret (hh (t1.append [.aH true,(ap 1)]) [] [] (bb.aW (.ar (c0 av))))))
def vJ (ay bK:List Int):Int→S:=fun aF=>ec [(0,.a1 1 (ay.map aq)),(1,.a1 1 (bK.map aq)),(5,.n .i64 aF)] []
def yQ (ay bK:List Int):((Unit)⊕(Unit))→el
 | .inl a=>⟨some 0,[],[]⟩
 | .inr a=>⟨none,[(4,.b false)],[]⟩
def ol (ay bK:List Int)(aF:Int):Option ((Int)⊕((Unit)⊕(Unit))) :=
 if (decide (aF<(len_ aq ay)))=true then
  if 0≤aF∧aF<ay.length then
  ay[aF.toNat]? >>= fun a9 =>
  if 0≤aF∧aF<bK.length then
  bK[aF.toNat]? >>= fun gT =>
  if (a9 != gT)=true then
   some (.inr (.inr ()))
  else
   some (.inl (bq (aF+(1:Int))))
  else none
  else none
 else
  some (.inr (.inl ()))
def wb (ay bK:List Int)(aF:Int):Option ((Unit)⊕(Unit)):=iter (fun w:Int=>ol ay bK w) aF
theorem Dt {ay bK:List Int}{aF:Int}:bP (ol ay bK aF) (fV bE 26 0 43 [1,1,0,1,0,0] (vJ ay bK aF) (vJ ay bK) (yQ ay bK)):=by
 unfold ol
 exact .ite (fun I =>
  .cH fun R =>
  .bp fun a9 aR =>
  .cH fun bC =>
  .bp fun gT ca =>
  (let t1:List b8:=[(ap 4),.aH true,.bk (aO 3 (aN (.c4 (aq a9)) (ct 3 (.c4 (aq gT)) 1)))];
  have bb:=((.jl I R.1 (gl aq R.2) (fr aq aR) bC.1 (gl aq bC.2) (fr aq ca)):cr _);
  .ite (fun gU =>
  .ret (bT (t1.append [.aH true,(ap 1),.bB [] [] (bQ [4])]) (bb.aW (.ar gU))))
  (fun gU =>
  .ret (bT (t1.append [.aH false,(ap 3),.bB [] [] (bQ [0,1,5])]) (bb.aW (.ar gU))))))
  (fun I =>
  .ret (bT [(ap 4),.aH false,.bB [] [] []] (.ar I)))
theorem yU {ay bK:List Int}{aF:Int}{r} (h:wb ay bK aF=some r):fW bE 26 0 43 [1,1,0,1,0,0] (vJ ay bK) (yQ ay bK) aF r:=f6 (fun _=>Dt) h
def oK (ay bK:List Int):Option Bool :=
 if ((len_ aq ay) != (len_ aq bK))=true then
  some false
 else
  wb ay bK 0 >>= fun bX =>
  match bX with
  | .inl dy=>(some true)
  | .inr dy=>(some false)
theorem y9 {ay bK:List Int}:bP (oK ay bK) (fun r=>Con bE 43 [.a1 1 (ay.map aq),.a1 1 (bK.map aq)] [] (.b r) []):=by
 unfold oK
 exact .ite (fun I =>
  .ret (bI [(ap 1),(ap 5),.aH true,(ap 1)] (.ar I)))
  (fun I =>
  .bp fun bX av =>
  (let t1:List b8:=[(ap 1),(ap 5),.aH false,(ap 1),.bB [] [] (bQ [0,1,5])];
  (by
  rcases bX with dy|dy
  ·exact (.ret (bI (t1.append [.sub (.exit 0) [] [],(ap 1)]) (.aE I (yU av))))
  ·exact (.ret (bI (t1.append [.sub (.ret) [(4,.b false)] []]) (.aE I (yU av)))))))
def sM (ay bK:hY):Option Bool :=
 if (ay.jT == bK.jT)=true then
  oK ay.cY bK.cY >>= fun bX =>
  if bX=true then
   some true
  else
   some false
 else
  some false
theorem D8 {ay bK:hY}:bP (sM ay bK) (fun r=>Con bE 42 [.agg (hU ay),.agg (hU bK)] [] (.b r) []):=by
 unfold sM
 exact .ite (fun I =>
  .bp fun bX av =>
  (let t1:List b8:=[(ap 3),(ap 5),.aH false,.bk (ct 4 (cI 2 (.b bX) true) 1)];
  have bb:=((.br (c9 I) (y9 bX av) (aT.b bX)):cr _);
  .ite (fun aR =>
  .ret (bI (t1.append [.aH false,(ap 1)]) (bb.aW (.ar (c9 aR)))))
  (fun aR =>
  .ret (bI (t1.append [.aH true,(ap 1)]) (bb.aW (.ar (c0 aR)))))))
  (fun I =>
  .ret (bI [(ap 3),(ap 5),.aH true,(ap 1)] (.ar (c0 I))))
def qy (ay bK:cD):Option Bool :=
 sM ay.c6 bK.c6 >>= fun aQ =>
 if aQ=true then
  oK ay.dh bK.dh >>= fun aM =>
  if aM=true then
   some true
  else
   some false
 else
  some false
theorem EC {ay bK:cD}:bP (qy ay bK) (fun r=>Con bE 21 [.agg (cL ay),.agg (cL bK)] [] (.b r) []):=by
 unfold qy
 exact .bp fun aQ R =>
  (let t1:List b8:=[(ap 3),.bk (ct 4 (cI 2 (.b aQ) true) 1)];
  have bb:=((.aE (D8 aQ R) (aT.b aQ)):cr _);
  .ite (fun av =>
  .bp fun aM bC =>
  (let t3:List b8:=t1.append [.aH false,.bk (ct 4 (cI 2 (.b aM) true) 1)];
  have d2:=bb.aW (.br (c9 av) (y9 aM bC) (aT.b aM));
  .ite (fun bM =>
  .ret (bI (t3.append [.aH false,(ap 1)]) (d2.aW (.ar (c9 bM)))))
  (fun bM =>
  .ret (bI (t3.append [.aH true,(ap 1)]) (d2.aW (.ar (c0 bM)))))))
  (fun av =>
  .ret (bI (t1.append [.aH true,(ap 1)]) (bb.aW (.ar (c0 av))))))
def vK (ay bK:List cD):Int→S:=fun aF=>ec [(0,.a1 3 (ay.map cL)),(1,.a1 3 (bK.map cL)),(5,.n .i64 aF)] []
def yR (ay bK:List cD):((Unit)⊕(Unit))→el
 | .inl a=>⟨some 0,[],[]⟩
 | .inr a=>⟨none,[(4,.b false)],[]⟩
def om (ay bK:List cD)(aF:Int):Option ((Int)⊕((Unit)⊕(Unit))) :=
 if (decide (aF<(len_ cL ay)))=true then
  if 0≤aF∧aF<ay.length then
  ay[aF.toNat]? >>= fun a9 =>
  if 0≤aF∧aF<bK.length then
  bK[aF.toNat]? >>= fun gT =>
  qy a9 gT >>= fun dm =>
  if dm=true then
   some (.inl (bq (aF+(1:Int))))
  else
   some (.inr (.inr ()))
  else none
  else none
 else
  some (.inr (.inl ()))
def wc (ay bK:List cD)(aF:Int):Option ((Unit)⊕(Unit)):=iter (fun w:Int=>om ay bK w) aF
theorem Du {ay bK:List cD}{aF:Int}:bP (om ay bK aF) (fV bE 27 0 8 [1,1,0,1,0,0] (vK ay bK aF) (vK ay bK) (yR ay bK)):=by
 unfold om
 exact .ite (fun I =>
  .cH fun R =>
  .bp fun a9 aR =>
  .cH fun bC =>
  .bp fun gT ca =>
  .bp fun dm d3 =>
  (let t1:List b8:=[(ap 4),.aH true,.bk (aO 3 (aN (.c4 (cL a9)) (aO 3 (aN (.c4 (cL gT)) (aN (cI 2 (.b dm) true) (aO 1 []))))))];
  have bb:=((.cs I R.1 (gl cL R.2) (fr cL aR) bC.1 (gl cL bC.2) (fr cL ca) (EC dm d3) (.ar (aT.b dm))):cr _);
  .ite (fun d4 =>
  .ret (bT (t1.append [.aH false,(ap 3),.bB [] [] (bQ [0,1,5])]) (bb.aW (.ar (c9 d4)))))
  (fun d4 =>
  .ret (bT (t1.append [.aH true,(ap 1),.bB [] [] (bQ [4])]) (bb.aW (.ar (c0 d4)))))))
  (fun I =>
  .ret (bT [(ap 4),.aH false,.bB [] [] []] (.ar I)))
theorem yV {ay bK:List cD}{aF:Int}{r} (h:wc ay bK aF=some r):fW bE 27 0 8 [1,1,0,1,0,0] (vK ay bK) (yR ay bK) aF r:=f6 (fun _=>Du) h
def oL (ay bK:List cD):Option Bool :=
 if ((len_ cL ay) != (len_ cL bK))=true then
  some false
 else
  wc ay bK 0 >>= fun bX =>
  match bX with
  | .inl dy=>(some true)
  | .inr dy=>(some false)
theorem oA {ay bK:List cD}:bP (oL ay bK) (fun r=>Con bE 8 [.a1 3 (ay.map cL),.a1 3 (bK.map cL)] [] (.b r) []):=by
 unfold oL
 exact .ite (fun I =>
  .ret (bI [(ap 1),(ap 5),.aH true,(ap 1)] (.ar I)))
  (fun I =>
  .bp fun bX av =>
  (let t1:List b8:=[(ap 1),(ap 5),.aH false,(ap 1),.bB [] [] (bQ [0,1,5])];
  (by
  rcases bX with dy|dy
  ·exact (.ret (bI (t1.append [.sub (.exit 0) [] [],(ap 1)]) (.aE I (yV av))))
  ·exact (.ret (bI (t1.append [.sub (.ret) [(4,.b false)] []]) (.aE I (yV av)))))))
def ql (ay bK:bh):Option Bool :=
 if (!(ay.dO.toList == bK.dO.toList))=true then
  some false
 else
  if (ay.dK != bK.dK)=true then
   some false
  else
   if (ay.dx != bK.dx)=true then
    some false
   else
    if (ay.dS == bK.dS)=true then
     some true
    else
     some false
theorem En {ay bK:bh}:bP (ql ay bK) (fun r=>Con bE 44 [.agg (a6 ay),.agg (a6 bK)] [] (.b r) []):=by
 unfold ql
 exact .ite (fun I =>
  .ret (bI [(ap 3),(ap 5),.aH true,(ap 1)] (.ar I)))
  (fun I =>
  (let t1:List b8:=[(ap 3),(ap 5),.aH false,(ap 5)];
  .ite (fun R =>
  .ret (bI (t1.append [.aH true,(ap 1)]) (.aE I R)))
  (fun R =>
  .ite (fun av =>
  .ret (bI (t1.append [.aH false,(ap 5),.aH true,(ap 1)]) (.br I R av)))
  (fun av =>
  (let t2:List b8:=t1.append [.aH false,(ap 5),.aH false,(ap 5)];
  .ite (fun aR =>
  .ret (bI (t2.append [.aH false,(ap 1)]) (.de I R av (c9 aR))))
  (fun aR =>
  .ret (bI (t2.append [.aH true,(ap 1)]) (.de I R av (c0 aR)))))))))
def vn (ay bK:List bh):Int→S:=fun aF=>ec [(0,.a1 4 (ay.map a6)),(1,.a1 4 (bK.map a6)),(5,.n .i64 aF)] []
def yD (ay bK:List bh):((Unit)⊕(Unit))→el
 | .inl a=>⟨some 0,[],[]⟩
 | .inr a=>⟨none,[(4,.b false)],[]⟩
def od (ay bK:List bh)(aF:Int):Option ((Int)⊕((Unit)⊕(Unit))) :=
 if (decide (aF<(len_ a6 ay)))=true then
  if 0≤aF∧aF<ay.length then
  ay[aF.toNat]? >>= fun a9 =>
  if 0≤aF∧aF<bK.length then
  bK[aF.toNat]? >>= fun gT =>
  ql a9 gT >>= fun dm =>
  if dm=true then
   some (.inl (bq (aF+(1:Int))))
  else
   some (.inr (.inr ()))
  else none
  else none
 else
  some (.inr (.inl ()))
def vW (ay bK:List bh)(aF:Int):Option ((Unit)⊕(Unit)):=iter (fun w:Int=>od ay bK w) aF
theorem De {ay bK:List bh}{aF:Int}:bP (od ay bK aF) (fV bE 27 0 22 [1,1,0,1,0,0] (vn ay bK aF) (vn ay bK) (yD ay bK)):=by
 unfold od
 exact .ite (fun I =>
  .cH fun R =>
  .bp fun a9 aR =>
  .cH fun bC =>
  .bp fun gT ca =>
  .bp fun dm d3 =>
  (let t1:List b8:=[(ap 4),.aH true,.bk (aO 3 (aN (.c4 (a6 a9)) (aO 3 (aN (.c4 (a6 gT)) (aN (cI 2 (.b dm) true) (aO 1 []))))))];
  have bb:=((.cs I R.1 (gl a6 R.2) (fr a6 aR) bC.1 (gl a6 bC.2) (fr a6 ca) (En dm d3) (.ar (aT.b dm))):cr _);
  .ite (fun d4 =>
  .ret (bT (t1.append [.aH false,(ap 3),.bB [] [] (bQ [0,1,5])]) (bb.aW (.ar (c9 d4)))))
  (fun d4 =>
  .ret (bT (t1.append [.aH true,(ap 1),.bB [] [] (bQ [4])]) (bb.aW (.ar (c0 d4)))))))
  (fun I =>
  .ret (bT [(ap 4),.aH false,.bB [] [] []] (.ar I)))
theorem yI {ay bK:List bh}{aF:Int}{r} (h:vW ay bK aF=some r):fW bE 27 0 22 [1,1,0,1,0,0] (vn ay bK) (yD ay bK) aF r:=f6 (fun _=>De) h
def qa (ay bK:List bh):Option Bool :=
 if ((len_ a6 ay) != (len_ a6 bK))=true then
  some false
 else
  vW ay bK 0 >>= fun bX =>
  match bX with
  | .inl dy=>(some true)
  | .inr dy=>(some false)
theorem D9 {ay bK:List bh}:bP (qa ay bK) (fun r=>Con bE 22 [.a1 4 (ay.map a6),.a1 4 (bK.map a6)] [] (.b r) []):=by
 unfold qa
 exact .ite (fun I =>
  .ret (bI [(ap 1),(ap 5),.aH true,(ap 1)] (.ar I)))
  (fun I =>
  .bp fun bX av =>
  (let t1:List b8:=[(ap 1),(ap 5),.aH false,(ap 1),.bB [] [] (bQ [0,1,5])];
  (by
  rcases bX with dy|dy
  ·exact (.ret (bI (t1.append [.sub (.exit 0) [] [],(ap 1)]) (.aE I (yI av))))
  ·exact (.ret (bI (t1.append [.sub (.ret) [(4,.b false)] []]) (.aE I (yI av)))))))
def qb (ay bK:bw):Option Bool :=
 if (ay.dE != bK.dE)=true then
  some false
 else
  if (ay.dC != bK.dC)=true then
   some false
  else
   if (ay.eo != bK.eo)=true then
    some false
   else
    some true
theorem Ea {ay bK:bw}:bP (qb ay bK) (fun r=>Con bE 45 [.agg (bl ay),.agg (bl bK)] [] (.b r) []):=by
 unfold qb
 exact .ite (fun I =>
  .ret (bI [(ap 3),(ap 5),.aH true,(ap 1)] (.ar I)))
  (fun I =>
  (let t1:List b8:=[(ap 3),(ap 5),.aH false,(ap 5)];
  .ite (fun R =>
  .ret (bI (t1.append [.aH true,(ap 1)]) (.aE I R)))
  (fun R =>
  .ite (fun av =>
  .ret (bI (t1.append [.aH false,(ap 5),.aH true,(ap 1)]) (.br I R av)))
  (fun av =>
  .ret (bI (t1.append [.aH false,(ap 5),.aH false,(ap 1)]) (.br I R av))))))
def vi (ay bK:List bw):Int→S:=fun aF=>ec [(0,.a1 3 (ay.map bl)),(1,.a1 3 (bK.map bl)),(5,.n .i64 aF)] []
def yC (ay bK:List bw):((Unit)⊕(Unit))→el
 | .inl a=>⟨some 0,[],[]⟩
 | .inr a=>⟨none,[(4,.b false)],[]⟩
def oa (ay bK:List bw)(aF:Int):Option ((Int)⊕((Unit)⊕(Unit))) :=
 if (decide (aF<(len_ bl ay)))=true then
  if 0≤aF∧aF<ay.length then
  ay[aF.toNat]? >>= fun a9 =>
  if 0≤aF∧aF<bK.length then
  bK[aF.toNat]? >>= fun gT =>
  qb a9 gT >>= fun dm =>
  if dm=true then
   some (.inl (bq (aF+(1:Int))))
  else
   some (.inr (.inr ()))
  else none
  else none
 else
  some (.inr (.inl ()))
def vT (ay bK:List bw)(aF:Int):Option ((Unit)⊕(Unit)):=iter (fun w:Int=>oa ay bK w) aF
theorem Da {ay bK:List bw}{aF:Int}:bP (oa ay bK aF) (fV bE 27 0 23 [1,1,0,1,0,0] (vi ay bK aF) (vi ay bK) (yC ay bK)):=by
 unfold oa
 exact .ite (fun I =>
  .cH fun R =>
  .bp fun a9 aR =>
  .cH fun bC =>
  .bp fun gT ca =>
  .bp fun dm d3 =>
  (let t1:List b8:=[(ap 4),.aH true,.bk (aO 3 (aN (.c4 (bl a9)) (aO 3 (aN (.c4 (bl gT)) (aN (cI 2 (.b dm) true) (aO 1 []))))))];
  have bb:=((.cs I R.1 (gl bl R.2) (fr bl aR) bC.1 (gl bl bC.2) (fr bl ca) (Ea dm d3) (.ar (aT.b dm))):cr _);
  .ite (fun d4 =>
  .ret (bT (t1.append [.aH false,(ap 3),.bB [] [] (bQ [0,1,5])]) (bb.aW (.ar (c9 d4)))))
  (fun d4 =>
  .ret (bT (t1.append [.aH true,(ap 1),.bB [] [] (bQ [4])]) (bb.aW (.ar (c0 d4)))))))
  (fun I =>
  .ret (bT [(ap 4),.aH false,.bB [] [] []] (.ar I)))
theorem yE {ay bK:List bw}{aF:Int}{r} (h:vT ay bK aF=some r):fW bE 27 0 23 [1,1,0,1,0,0] (vi ay bK) (yC ay bK) aF r:=f6 (fun _=>Da) h
def p5 (ay bK:List bw):Option Bool :=
 if ((len_ bl ay) != (len_ bl bK))=true then
  some false
 else
  vT ay bK 0 >>= fun bX =>
  match bX with
  | .inl dy=>(some true)
  | .inr dy=>(some false)
theorem DW {ay bK:List bw}:bP (p5 ay bK) (fun r=>Con bE 23 [.a1 3 (ay.map bl),.a1 3 (bK.map bl)] [] (.b r) []):=by
 unfold p5
 exact .ite (fun I =>
  .ret (bI [(ap 1),(ap 5),.aH true,(ap 1)] (.ar I)))
  (fun I =>
  .bp fun bX av =>
  (let t1:List b8:=[(ap 1),(ap 5),.aH false,(ap 1),.bB [] [] (bQ [0,1,5])];
  (by
  rcases bX with dy|dy
  ·exact (.ret (bI (t1.append [.sub (.exit 0) [] [],(ap 1)]) (.aE I (yE av))))
  ·exact (.ret (bI (t1.append [.sub (.ret) [(4,.b false)] []]) (.aE I (yE av)))))))
def ow (ay bK:dq):Option Bool :=
 qa ay.bH bK.bH >>= fun aQ =>
 if aQ=true then
  p5 ay.dP bK.dP >>= fun aM =>
  if aM=true then
   some true
  else
   some false
 else
  some false
theorem yJ {ay bK:dq}:bP (ow ay bK) (fun r=>Con bE 9 [.agg (hn ay),.agg (hn bK)] [] (.b r) []):=by
 unfold ow
 exact .bp fun aQ R =>
  (let t1:List b8:=[(ap 3),.bk (ct 4 (cI 2 (.b aQ) true) 1)];
  have bb:=((.aE (D9 aQ R) (aT.b aQ)):cr _);
  .ite (fun av =>
  .bp fun aM bC =>
  (let t3:List b8:=t1.append [.aH false,.bk (ct 4 (cI 2 (.b aM) true) 1)];
  have d2:=bb.aW (.br (c9 av) (DW aM bC) (aT.b aM));
  .ite (fun bM =>
  .ret (bI (t3.append [.aH false,(ap 1)]) (d2.aW (.ar (c9 bM)))))
  (fun bM =>
  .ret (bI (t3.append [.aH true,(ap 1)]) (d2.aW (.ar (c0 bM)))))))
  (fun av =>
  .ret (bI (t1.append [.aH true,(ap 1)]) (bb.aW (.ar (c0 av))))))
def vo:(Int×ByteArray)→S:=fun (aX,ko)=>ec [(0,.n .i64 aX),(3,.s ko)] []
def vz:ByteArray→el
 | a=>⟨some 0,[(3,.s a)],[]⟩
def oe (aX:Int)(ko:ByteArray):Option ((Int×ByteArray)⊕(ByteArray)) :=
 if (decide ((0:Int)<aX))=true then
  if (lA [(IntKind.wrap .u8 (bq ((48:Int)+(aX.tmod (10:Int)))))]).size+ko.size<9223372036854775808 then
  some (.inl (bq (aX.tdiv (10:Int)),(lA [(IntKind.wrap .u8 (bq ((48:Int)+(aX.tmod (10:Int)))))])++ko))
  else none
 else
  some (.inr ko)
def vX (aX:Int)(ko:ByteArray):Option (ByteArray):=iter (fun w:Int×ByteArray=>oe w.1 w.2) (aX,ko)
theorem Df {aX:Int}{ko:ByteArray}:bP (oe aX ko) (fV bE 20 0 46 [1,1,1,0,0,0] (vo (aX,ko)) (vo) (vz)):=by
 unfold oe
 exact .ite (fun I =>
  .cH fun R =>
  .ret (bT [(ap 2),.aH true,(ap 9),(ap 3),.bB [] [] (bQ [0,3])] (.de I (by decide:(10:Int)≠0) R (by decide:(10:Int)≠0))))
  (fun I =>
  .ret (bT [(ap 2),.aH false,.bB [] [] (bQ [3])] (.ar I)))
theorem DL {aX:Int}{ko:ByteArray}{r} (h:vX aX ko=some r):fW bE 20 0 46 [1,1,1,0,0,0] (vo) (vz) (aX,ko) r:=f6 (fun _=>Df) h
def qc (aX:Int):Option ByteArray :=
 if (decide (aX≤(0:Int)))=true then
  some (⟨#[109,48]⟩:ByteArray)
 else
  vX aX (⟨#[]⟩:ByteArray) >>= fun bX =>
  if (⟨#[109]⟩:ByteArray).size+bX.size<9223372036854775808 then
  some ((⟨#[109]⟩:ByteArray)++bX)
  else none
theorem Eb {aX:Int}:bP (qc aX) (fun r=>Con bE 46 [.n .i64 aX] [] (.s r) []):=by
 unfold qc
 exact .ite (fun I =>
  .ret (bI [(ap 1),(ap 2),.aH true,(ap 1)] (.ar I)))
  (fun I =>
  .bp fun bX av =>
  .cH fun aR =>
  .ret (bI [(ap 1),(ap 2),.aH false,(ap 1),.bB [] [] (bQ [0,3]),(vz bX).jk,(ap 3)] (.br I (DL av) aR)))
def u0:(Int×Int×(List bh))→S:=fun (aX,aF,aJ)=>ec [(0,.bd 0 0 0 aJ.length),(1,.n .i64 aX),(5,.n .i64 aF)] [(aP 4 a6 aJ)]
def u6:(Int×(List bh))→el
 | a=>⟨some 0,[(1,.n .i64 a.1)],[(aP 4 a6 a.2)]⟩
def m0 (aX aF:Int)(aJ:List bh):Option ((Int×Int×(List bh))⊕(Int×(List bh))) :=
 if (decide (aF<((aJ.length:Nat):Int)))=true then
  qc aX >>= fun bX =>
  if 0≤aF∧aF<(aJ.length:Nat) then
  aJ[(0+aF.toNat)]? >>= fun cm =>
  (aJ.set (0+aF.toNat) (⟨bX,cm.dK,cm.dx,cm.dS⟩:bh))[(0+aF.toNat)]? >>= fun dk =>
  ((aJ.set (0+aF.toNat) (⟨bX,cm.dK,cm.dx,cm.dS⟩:bh)).set (0+aF.toNat) (⟨dk.dO,bq (aX+(1:Int)),dk.dx,dk.dS⟩:bh))[(0+aF.toNat)]? >>= fun gm =>
  (((aJ.set (0+aF.toNat) (⟨bX,cm.dK,cm.dx,cm.dS⟩:bh)).set (0+aF.toNat) (⟨dk.dO,bq (aX+(1:Int)),dk.dx,dk.dS⟩:bh)).set (0+aF.toNat) (⟨gm.dO,gm.dK,bq ((bq (aX+(1:Int)))+(1:Int)),gm.dS⟩:bh))[(0+aF.toNat)]? >>= fun fC =>
  some (.inl (bq ((bq ((bq ((bq (aX+(1:Int)))+(1:Int)))+(1:Int)))+(1:Int)),bq (aF+(1:Int)),(((aJ.set (0+aF.toNat) (⟨bX,cm.dK,cm.dx,cm.dS⟩:bh)).set (0+aF.toNat) (⟨dk.dO,bq (aX+(1:Int)),dk.dx,dk.dS⟩:bh)).set (0+aF.toNat) (⟨gm.dO,gm.dK,bq ((bq (aX+(1:Int)))+(1:Int)),gm.dS⟩:bh)).set (0+aF.toNat) (⟨fC.dO,fC.dK,fC.dx,(((bq ((bq ((bq (aX+(1:Int)))+(1:Int)))+(1:Int))).tmod (3:Int)) == (0:Int))⟩:bh)))
  else none
 else
  some (.inr (aX,aJ))
def vA (aX aF:Int)(aJ:List bh):Option (Int×(List bh)):=iter (fun w:Int×Int×(List bh)=>m0 w.1 w.2.1 w.2.2) (aX,aF,aJ)
theorem CZ {aX aF:Int}{aJ:List bh}:bP (m0 aX aF aJ) (fV bE 44 1 24 [1,0,1,0,0] (u0 (aX,aF,aJ)) (u0) (u6)):=by
 unfold m0
 exact .ite (fun I =>
  .bp fun bX av =>
  .cH fun aR =>
  .bp fun cm bM =>
  .bp fun dk gU =>
  .bp fun gm d4 =>
  .bp fun fC kW =>
  .ret (let hD:=(j3 (cb a6 aJ) (0+aF.toNat) (⟨bX,cm.dK,cm.dx,cm.dS⟩:bh) (rfl:(setCells (a6 cm) 0 [.s bX])=a6 (⟨bX,cm.dK,cm.dx,cm.dS⟩:bh)));let gC:=(bq (aX+(1:Int)));let cq:=(j3 hD (0+aF.toNat) (⟨dk.dO,bq (aX+(1:Int)),dk.dx,dk.dS⟩:bh) (rfl:(setCells (a6 dk) 1 [.n .i64 gC])=a6 (⟨dk.dO,bq (aX+(1:Int)),dk.dx,dk.dS⟩:bh)));let dJ:=(j3 cq (0+aF.toNat) (⟨gm.dO,gm.dK,bq (gC+(1:Int)),gm.dS⟩:bh) (rfl:(setCells (a6 gm) 2 [.n .i64 (bq (gC+(1:Int)))])=a6 (⟨gm.dO,gm.dK,bq (gC+(1:Int)),gm.dS⟩:bh)));let ek:=(bq ((bq (gC+(1:Int)))+(1:Int)));bT [(ap 4),.aH true,.bk (aO 3 (aN (cI 1 (.s bX) true) (aO 1 (aN (.c4 (a6 cm)) (aN (.c4 (a6 cm)) []))))),(ap 3),.bk (aO 4 (aN (.c4 (a6 dk)) (aN (.c4 (a6 dk)) []))),(ap 3),.bk (aO 4 (aN (.c4 (a6 gm)) (aN (.c4 (a6 gm)) []))),(ap 3),.bk (aO 6 (aN (.c4 (a6 fC)) (aN (.c4 (a6 fC)) []))),(ap 3),(ap 3),.bB [0] [.gH (aP 4 a6 ((((aJ.set (0+aF.toNat) (⟨bX,cm.dK,cm.dx,cm.dS⟩:bh)).set (0+aF.toNat) (⟨dk.dO,bq (aX+(1:Int)),dk.dx,dk.dS⟩:bh)).set (0+aF.toNat) (⟨gm.dO,gm.dK,bq (gC+(1:Int)),gm.dS⟩:bh)).set (0+aF.toNat) (⟨fC.dO,fC.dK,fC.dx,((ek.tmod (3:Int)) == (0:Int))⟩:bh)))] [(0,j9 (((((aJ.set (0+aF.toNat) (⟨bX,cm.dK,cm.dx,cm.dS⟩:bh)).set (0+aF.toNat) (⟨dk.dO,bq (aX+(1:Int)),dk.dx,dk.dS⟩:bh)).set (0+aF.toNat) (⟨gm.dO,gm.dK,bq (gC+(1:Int)),gm.dS⟩:bh)).set (0+aF.toNat) (⟨fC.dO,fC.dK,fC.dx,((ek.tmod (3:Int)) == (0:Int))⟩:bh)).length)),(1,ii),(5,ii)]] (.cs I (Eb bX av) (aT.s bX) aR.1 aR.2 (fr a6 bM) (fr a6 bM) aR.1 (.cs aR.2 (i5 hD gU) (i5 hD gU) aR.1 aR.2 (i5 cq d4) (i5 cq d4) (by decide:(3:Int)≠0) (.jl aR.1 aR.2 (i5 dJ kW) (i5 dJ kW) (ke 4 .live (j3 dJ (0+aF.toNat) (⟨fC.dO,fC.dK,fC.dx,((ek.tmod (3:Int)) == (0:Int))⟩:bh) (rfl:(setCells (a6 fC) 3 [.b ((ek.tmod (3:Int)) == (0:Int))])=a6 (⟨fC.dO,fC.dK,fC.dx,((ek.tmod (3:Int)) == (0:Int))⟩:bh)))) (en 4 .live gp ((((aJ.set (0+aF.toNat) (⟨bX,cm.dK,cm.dx,cm.dS⟩:bh)).set (0+aF.toNat) (⟨dk.dO,bq (aX+(1:Int)),dk.dx,dk.dS⟩:bh)).set (0+aF.toNat) (⟨gm.dO,gm.dK,bq (gC+(1:Int)),gm.dS⟩:bh)).set (0+aF.toNat) (⟨fC.dO,fC.dK,fC.dx,((ek.tmod (3:Int)) == (0:Int))⟩:bh))) (kk (kk (kk (kk (dl aJ) (0+aF.toNat) (⟨bX,cm.dK,cm.dx,cm.dS⟩:bh)) (0+aF.toNat) (⟨dk.dO,bq (aX+(1:Int)),dk.dx,dk.dS⟩:bh)) (0+aF.toNat) (⟨gm.dO,gm.dK,bq (gC+(1:Int)),gm.dS⟩:bh)) (0+aF.toNat) (⟨fC.dO,fC.dK,fC.dx,((ek.tmod (3:Int)) == (0:Int))⟩:bh)))))))
  (fun I =>
  .ret (bT [(ap 4),.aH false,.bB [0] [.pure] (bQ [1])] (.aE I (en 4 .live gp aJ))))
theorem Dn {aX aF:Int}{aJ:List bh}{r} (h:vA aX aF aJ=some r):fW bE 44 1 24 [1,0,1,0,0] (u0) (u6) (aX,aF,aJ) r:=f6 (fun _=>CZ) h
def pW (aX:Int)(gz:List bh):Option (Int×(List bh)) :=
 vA aX 0 gz >>= fun aQ =>
 some (aQ.1,aQ.2)
theorem DD {aX:Int}{gz:List bh}:bP (pW aX gz) (fun a=>Con bE 24 [.bd 0 0 0 gz.length,.n .i64 aX] [(aP 4 a6 gz)] (.n .i64 a.1) [(aP 4 a6 a.2)]):=by
 unfold pW
 exact .bp fun aQ R =>
  .ret (hh [(ap 1),(ap 1),.bB [0] [.pure] (bQ [0,1,5]),(u6 aQ).jk,(ap 2)] [0] [.pure] (.br (en 4 .live gp gz) (Dn R) (en 4 .live gp aQ.2)))
def uZ:(Int×Int×(List bw))→S:=fun (aX,aF,aJ)=>ec [(0,.bd 0 0 0 aJ.length),(1,.n .i64 aX),(5,.n .i64 aF)] [(aP 3 bl aJ)]
def u1:(Int×(List bw))→el
 | a=>⟨some 0,[(1,.n .i64 a.1)],[(aP 3 bl a.2)]⟩
def mZ (aX aF:Int)(aJ:List bw):Option ((Int×Int×(List bw))⊕(Int×(List bw))) :=
 if (decide (aF<((aJ.length:Nat):Int)))=true then
  if 0≤aF∧aF<(aJ.length:Nat) then
  aJ[(0+aF.toNat)]? >>= fun a9 =>
  (aJ.set (0+aF.toNat) (⟨aX,a9.dC,a9.eo⟩:bw))[(0+aF.toNat)]? >>= fun cm =>
  ((aJ.set (0+aF.toNat) (⟨aX,a9.dC,a9.eo⟩:bw)).set (0+aF.toNat) (⟨cm.dE,bq (aX+(1:Int)),cm.eo⟩:bw))[(0+aF.toNat)]? >>= fun dk =>
  some (.inl (bq ((bq ((bq (aX+(1:Int)))+(1:Int)))+(1:Int)),bq (aF+(1:Int)),((aJ.set (0+aF.toNat) (⟨aX,a9.dC,a9.eo⟩:bw)).set (0+aF.toNat) (⟨cm.dE,bq (aX+(1:Int)),cm.eo⟩:bw)).set (0+aF.toNat) (⟨dk.dE,dk.dC,bq ((bq (aX+(1:Int)))+(1:Int))⟩:bw)))
  else none
 else
  some (.inr (aX,aJ))
def vp (aX aF:Int)(aJ:List bw):Option (Int×(List bw)):=iter (fun w:Int×Int×(List bw)=>mZ w.1 w.2.1 w.2.2) (aX,aF,aJ)
theorem CY {aX aF:Int}{aJ:List bw}:bP (mZ aX aF aJ) (fV bE 34 1 25 [1,0,1,0,0] (uZ (aX,aF,aJ)) (uZ) (u1)):=by
 unfold mZ
 exact .ite (fun I =>
  .cH fun R =>
  .bp fun a9 aR =>
  .bp fun cm bM =>
  .bp fun dk gU =>
  .ret (let dJ:=(j3 (cb bl aJ) (0+aF.toNat) (⟨aX,a9.dC,a9.eo⟩:bw) (rfl:(setCells (bl a9) 0 [.n .i64 aX])=bl (⟨aX,a9.dC,a9.eo⟩:bw)));let ek:=(bq (aX+(1:Int)));let cq:=(j3 dJ (0+aF.toNat) (⟨cm.dE,bq (aX+(1:Int)),cm.eo⟩:bw) (rfl:(setCells (bl cm) 1 [.n .i64 ek])=bl (⟨cm.dE,bq (aX+(1:Int)),cm.eo⟩:bw)));bT [(ap 4),.aH true,.bk (aO 4 (aN (.c4 (bl a9)) (aN (.c4 (bl a9)) []))),(ap 3),.bk (aO 4 (aN (.c4 (bl cm)) (aN (.c4 (bl cm)) []))),(ap 3),.bk (aO 4 (aN (.c4 (bl dk)) (aN (.c4 (bl dk)) []))),(ap 3),(ap 3),.bB [0] [.gH (aP 3 bl (((aJ.set (0+aF.toNat) (⟨aX,a9.dC,a9.eo⟩:bw)).set (0+aF.toNat) (⟨cm.dE,bq (aX+(1:Int)),cm.eo⟩:bw)).set (0+aF.toNat) (⟨dk.dE,dk.dC,bq (ek+(1:Int))⟩:bw)))] [(0,j9 ((((aJ.set (0+aF.toNat) (⟨aX,a9.dC,a9.eo⟩:bw)).set (0+aF.toNat) (⟨cm.dE,bq (aX+(1:Int)),cm.eo⟩:bw)).set (0+aF.toNat) (⟨dk.dE,dk.dC,bq (ek+(1:Int))⟩:bw)).length)),(1,ii),(5,ii)]] (.cs I R.1 R.2 (fr bl aR) (fr bl aR) R.1 R.2 (i5 dJ bM) (.kY (i5 dJ bM) R.1 R.2 (i5 cq gU) (i5 cq gU) (ke 3 .live (j3 cq (0+aF.toNat) (⟨dk.dE,dk.dC,bq (ek+(1:Int))⟩:bw) (rfl:(setCells (bl dk) 2 [.n .i64 (bq (ek+(1:Int)))])=bl (⟨dk.dE,dk.dC,bq (ek+(1:Int))⟩:bw)))) (en 3 .live gn (((aJ.set (0+aF.toNat) (⟨aX,a9.dC,a9.eo⟩:bw)).set (0+aF.toNat) (⟨cm.dE,bq (aX+(1:Int)),cm.eo⟩:bw)).set (0+aF.toNat) (⟨dk.dE,dk.dC,bq (ek+(1:Int))⟩:bw))) (kk (kk (kk (dl aJ) (0+aF.toNat) (⟨aX,a9.dC,a9.eo⟩:bw)) (0+aF.toNat) (⟨cm.dE,bq (aX+(1:Int)),cm.eo⟩:bw)) (0+aF.toNat) (⟨dk.dE,dk.dC,bq (ek+(1:Int))⟩:bw))))))
  (fun I =>
  .ret (bT [(ap 4),.aH false,.bB [0] [.pure] (bQ [1])] (.aE I (en 3 .live gn aJ))))
theorem Dg {aX aF:Int}{aJ:List bw}{r} (h:vp aX aF aJ=some r):fW bE 34 1 25 [1,0,1,0,0] (uZ) (u1) (aX,aF,aJ) r:=f6 (fun _=>CY) h
def pV (aX:Int)(gz:List bw):Option (Int×(List bw)) :=
 vp aX 0 gz >>= fun aQ =>
 some (aQ.1,aQ.2)
theorem Dz {aX:Int}{gz:List bw}:bP (pV aX gz) (fun a=>Con bE 25 [.bd 0 0 0 gz.length,.n .i64 aX] [(aP 3 bl gz)] (.n .i64 a.1) [(aP 3 bl a.2)]):=by
 unfold pV
 exact .bp fun aQ R =>
  .ret (hh [(ap 1),(ap 1),.bB [0] [.pure] (bQ [0,1,5]),(u1 aQ).jk,(ap 2)] [0] [.pure] (.br (en 3 .live gn gz) (Dg R) (en 3 .live gn aQ.2)))
def oj (aX:Int)(gz:List bh)(nT:List bw):Option (Int×(List bh)×(List bw)) :=
 pW aX gz >>= fun aQ =>
 if gz.length=aQ.2.length then
 pV aQ.1 nT >>= fun aM =>
 if nT.length=aM.2.length then
 some (aM.1,aQ.2,aM.2)
 else none
 else none
theorem yv {aX:Int}{gz:List bh}{nT:List bw}:bP (oj aX gz nT) (fun a=>Con bE 10 [.agg [.bd 0 0 0 gz.length,.bd 1 0 0 nT.length],.n .i64 aX] [(aP 4 a6 gz),(aP 3 bl nT)] (.n .i64 a.1) [(aP 4 a6 a.2.1),(aP 3 bl a.2.2)]):=by
 unfold oj
 exact .bp fun aQ R =>
  .cH fun av =>
  .bp fun aM bC =>
  .cH fun bM =>
  .ret (hh [(ap 2),.bk (ct 3 (.call {au:=[.row 0],bs:=[.pure],ac:=[ii,ii],r:= .n .i64 aQ.1,bW:=[(aP 4 a6 aQ.2)],cz:=ii,cO:=[.pure],cy:=[0],cj:=false}) 1),.bk (ct 3 (.call {au:=[.row 1],bs:=[.pure],ac:=[ii,ii],r:= .n .i64 aM.1,bW:=[(aP 3 bl aM.2)],cz:=ii,cO:=[.pure],cy:=[1],cj:=false}) 1),(ap 2)] [0,1] [.pure,.pure] (.kY (eZ 4 gp gz) (eZ 4 gp aQ.2) (DD aQ R) (eZ 3 gn nT) (eZ 3 gn aM.2) (Dz aM bC) (en 4 .live gp aQ.2) (en 3 .live gn aM.2)))
def vq (ay:List Int)(aX:Int):Unit→S:=fun _=>ec [(0,.a1 1 (ay.map aq)),(1,.n .i64 aX),(5,.n .i64 (0:Int))] []
def yF (ay:List Int)(aX:Int):Unit→el
 | a=>⟨some 0,[(1,.n .i64 aX)],[]⟩
def sz (ay:List Int)(aX:Int):Option ((Unit)⊕(Unit)) :=
 if (decide ((0:Int)<(len_ aq ay)))=true then
  if 0≤(0:Int)∧(0:Int)<ay.length then
  none
  else none
 else
  some (.inr ())
def sE (ay:List Int)(aX:Int):Option (Unit):=iter (fun w:Unit=>sz ay aX) ()
theorem Dh {ay:List Int}{aX:Int}:bP (sz ay aX) (fV bE 19 0 26 [1,0,1,0,0] (vq ay aX ()) (vq ay aX) (yF ay aX)):=by
 unfold sz
 exact .ite (fun I =>
  .cH fun R =>
  .Ce)
  (fun I =>
  .ret (bT [(ap 4),.aH false,.bB [] [] (bQ [1])] (.ar I)))
theorem DM {ay:List Int}{aX:Int}{r} (h:sE ay aX=some r):fW bE 19 0 26 [1,0,1,0,0] (vq ay aX) (yF ay aX) () r:=f6 (fun _=>Dh) h
def mn (ay:List Int)(aX:Int):Option Int :=
 sE ay aX >>= fun aQ =>
 some aX
theorem vY {ay:List Int}{aX:Int}:bP (mn ay aX) (fun r=>Con bE 26 [.a1 1 (ay.map aq),.n .i64 aX] [] (.n .i64 r) []):=by
 unfold mn
 exact .bp fun aQ R =>
  .ret (bI [(ap 1),(ap 1),.bB [] [] (bQ [0,1,5]),.sub (.exit 0) [(1,.n .i64 aX)] [],(ap 2)] (.ar (DM R)))
def ve (gN hr:Nat):(Int×Int×(List Int))→S:=fun (aX,aF,aJ)=>ec [(0,.bd 0 0 gN hr),(1,.n .i64 aX),(5,.n .i64 aF)] [(aP 1 aq aJ)]
def vj (gN hr:Nat):(Int×(List Int))→el
 | a=>⟨some 0,[(1,.n .i64 a.1)],[(aP 1 aq a.2)]⟩
def n8 (gN hr:Nat)(aX aF:Int)(aJ:List Int):Option ((Int×Int×(List Int))⊕(Int×(List Int))) :=
 if (decide (aF<((hr:Nat):Int)))=true then
  if 0≤aF∧aF<(hr:Nat) then
  if (gN+aF.toNat)<aJ.length then
  some (.inl (bq (aX+(1:Int)),bq (aF+(1:Int)),aJ.set (gN+aF.toNat) aX))
  else none
  else none
 else
  some (.inr (aX,aJ))
def vN (gN hr:Nat)(aX aF:Int)(aJ:List Int):Option (Int×(List Int)):=iter (fun w:Int×Int×(List Int)=>n8 gN hr w.1 w.2.1 w.2.2) (aX,aF,aJ)
theorem C8 {gN hr:Nat}{aX aF:Int}{aJ:List Int}:bP (n8 gN hr aX aF aJ) (fV bE 19 1 26 [1,0,1,0,0] (ve gN hr (aX,aF,aJ)) (ve gN hr) (vj gN hr)):=by
 unfold n8
 exact .ite (fun I =>
  .cH fun R =>
  .cH fun av =>
  .ret (bT [(ap 4),.aH true,.bk (aO 4 (aN .gd [])),(ap 3),(ap 3),.bB [0] [.gH (aP 1 aq (aJ.set (gN+aF.toNat) aX))] (bQ [0,1,5])] (.jl I R.1 R.2 (yk aq av) (yj 1) (ke 1 .live (wT (cb aq aJ) (gN+aF.toNat) aX)) (en 1 .live ch (aJ.set (gN+aF.toNat) aX)))))
  (fun I =>
  .ret (bT [(ap 4),.aH false,.bB [0] [.pure] (bQ [1])] (.aE I (en 1 .live ch aJ))))
theorem DA {gN hr:Nat}{aX aF:Int}{aJ:List Int}{r} (h:vN gN hr aX aF aJ=some r):fW bE 19 1 26 [1,0,1,0,0] (ve gN hr) (vj gN hr) (aX,aF,aJ) r:=f6 (fun _=>C8) h
def mm (aX:Int)(gN hr:Nat)(gz:List Int):Option (Int×(List Int)) :=
 vN gN hr aX 0 gz >>= fun aQ =>
 some (aQ.1,aQ.2)
theorem vO {aX:Int}{gN hr:Nat}{gz:List Int}:bP (mm aX gN hr gz) (fun a=>Con bE 26 [.bd 0 0 gN hr,.n .i64 aX] [(aP 1 aq gz)] (.n .i64 a.1) [(aP 1 aq a.2)]):=by
 unfold mm
 exact .bp fun aQ R =>
  .ret (hh [(ap 1),(ap 1),.bB [0] [.pure] (bQ [0,1,5]),(vj gN hr aQ).jk,(ap 2)] [0] [.pure] (.br (en 1 .live ch gz) (DA R) (en 1 .live ch aQ.2)))
def vf:(Int×Int×(List ak)×(List (List Int)))→S:=fun (aX,aF,eh,fT)=>ec [(0,.bd 0 0 0 eh.length),(1,.n .i64 aX),(5,.n .i64 aF)] [(ao.mk 3 (eh.map (a0 0 1)) .live::(eC 1 aq fT))]
def vk:(Int×(List ak)×(List (List Int)))→el
 | a=>⟨some 0,[(1,.n .i64 a.1)],[(ao.mk 3 (a.2.1.map (a0 0 1)) .live::(eC 1 aq a.2.2))]⟩
def n9 (aX aF:Int)(eh:List ak)(fT:List (List Int)):Option ((Int×Int×(List ak)×(List (List Int)))⊕(Int×(List ak)×(List (List Int)))) :=
 if (decide (aF<((eh.length:Nat):Int)))=true then
  if 0≤aF∧aF<(eh.length:Nat) then
  eh[(0+aF.toNat)]? >>= fun a9 =>
  (eh.set (0+aF.toNat) (⟨(⟨((aX.tmod (3:Int)) == (0:Int)),a9.c6.cY⟩:aI),a9.dh⟩:ak))[(0+aF.toNat)]? >>= fun cm =>
  cm.c6.cY.elim
  (mn ([]:List Int) (bq (aX+(1:Int))) >>= fun kH =>
    cm.dh.elim
    (mn ([]:List Int) kH >>= fun r5 =>
      some (.inl (r5,bq (aF+(1:Int)),eh.set (0+aF.toNat) (⟨(⟨((aX.tmod (3:Int)) == (0:Int)),a9.c6.cY⟩:aI),a9.dh⟩:ak),fT)))
    fun ka =>
    fT[ka.1]? >>= fun r6 =>
    mm kH 0 ka.2 r6 >>= fun hQ =>
    some (.inl (hQ.1,bq (aF+(1:Int)),eh.set (0+aF.toNat) (⟨(⟨((aX.tmod (3:Int)) == (0:Int)),a9.c6.cY⟩:aI),a9.dh⟩:ak),fT.set ka.1 hQ.2)))
  fun i3 =>
  fT[i3.1]? >>= fun ss =>
  mm (bq (aX+(1:Int))) 0 i3.2 ss >>= fun fB =>
  cm.dh.elim
  (mn ([]:List Int) fB.1 >>= fun hQ =>
    some (.inl (hQ,bq (aF+(1:Int)),eh.set (0+aF.toNat) (⟨(⟨((aX.tmod (3:Int)) == (0:Int)),a9.c6.cY⟩:aI),a9.dh⟩:ak),fT.set i3.1 fB.2)))
  fun kb =>
  (fT.set i3.1 fB.2)[kb.1]? >>= fun r7 =>
  mm fB.1 0 kb.2 r7 >>= fun h2 =>
  some (.inl (h2.1,bq (aF+(1:Int)),eh.set (0+aF.toNat) (⟨(⟨((aX.tmod (3:Int)) == (0:Int)),a9.c6.cY⟩:aI),a9.dh⟩:ak),(fT.set i3.1 fB.2).set kb.1 h2.2))
  else none
 else
  some (.inr (aX,eh,fT))
def vP (aX aF:Int)(eh:List ak)(fT:List (List Int)):Option (Int×(List ak)×(List (List Int))):=iter (fun w:Int×Int×(List ak)×(List (List Int))=>n9 w.1 w.2.1 w.2.2.1 w.2.2.2) (aX,aF,eh,fT)
theorem C9 {aX aF:Int}{eh:List ak}{fT:List (List Int)}:bP (n9 aX aF eh fT) (fV bE 38 1 11 [1,0,1,0,0] (vf (aX,aF,eh,fT)) (vf) (vk)):=by
 unfold n9
 exact .ite (fun I =>
  .cH fun R =>
  .bp fun a9 aR =>
  .bp fun cm bM =>
  (let hD:=(j3 (cb (a0 0 1) eh) (0+aF.toNat) (⟨(⟨((aX.tmod (3:Int)) == (0:Int)),a9.c6.cY⟩:aI),a9.dh⟩:ak) (rfl:(setCells ((a0 0 1) a9) 0 [.b ((aX.tmod (3:Int)) == (0:Int))])=(a0 0 1) (⟨(⟨((aX.tmod (3:Int)) == (0:Int)),a9.c6.cY⟩:aI),a9.dh⟩:ak)));let gC:=fr (a0 0 1) aR;let t1:List b8:=[(ap 4),.aH true,.bk (aO 6 (aN (.c4 ((a0 0 1) a9)) (aN (.c4 ((a0 0 1) a9)) (aN (.c4 ((a0 0 1) a9)) [])))),(ap 3)];
  have bb:=((.cs I (by decide:(3:Int)≠0) R.1 R.2 gC gC gC R.1 (.de R.2 (i5 hD bM) (i5 hD bM) (i5 hD bM))):cr _);
  .uu (fun ca =>
  .bp fun kH d4 =>
  (let dJ:=(j3 (cb (a0 0 1) eh) (0+aF.toNat) (⟨(⟨((aX.tmod (3:Int)) == (0:Int)),a9.c6.cY⟩:aI),a9.dh⟩:ak) (rfl:(setCells ((a0 0 1) a9) 0 [.b ((aX.tmod (3:Int)) == (0:Int))])=(a0 0 1) (⟨(⟨((aX.tmod (3:Int)) == (0:Int)),a9.c6.cY⟩:aI),a9.dh⟩:ak)));let t3:List b8:=t1.append [.bk (aO 3 (aN (.c4 ((a0 0 1) cm)) (aN (.c4 ((a0 0 1) cm)) (aN (.c4 ((a0 0 1) cm)) (ct 1 (.dB 27 (.a1 1 []) (cI 2 (.n .i64 kH) true)) 1)))))];
  have d2:=bb.aW (.jl (wV (bS:=0) (c:=1) (aa:=1) ca) (vY kH d4) (aT.n .i64 kH) R.1 R.2 (i5 dJ bM) (i5 dJ bM));
  .uu (fun d5 =>
  .bp fun r5 eP =>
  .ret (bT (t3.append [.bk (aO 3 (aN (.c4 ((a0 0 1) cm)) (aN (.c4 ((a0 0 1) cm)) (ct 1 (.dB 34 (.a1 1 []) (cI 2 (.n .i64 r5) true)) 1)))),(ap 3),.bB [0] [.cK (ao.mk 3 ((eh.set (0+aF.toNat) (⟨(⟨((aX.tmod (3:Int)) == (0:Int)),a9.c6.cY⟩:aI),a9.dh⟩:ak)).map (a0 0 1)) .live::(eC 1 aq fT))] [(0,j9 ((eh.set (0+aF.toNat) (⟨(⟨((aX.tmod (3:Int)) == (0:Int)),a9.c6.cY⟩:aI),a9.dh⟩:ak)).length)),(1,ii),(5,ii)]]) (d2.aW (.ee (wV (bS:=0) (c:=1) (aa:=1) d5) (vY r5 eP) (aT.n .i64 r5) (c5 (fG (a2:=(da [0])) 3 .live (a0 0 1) (j3 (cb (a0 0 1) eh) (0+aF.toNat) (⟨(⟨((aX.tmod (3:Int)) == (0:Int)),a9.c6.cY⟩:aI),a9.dh⟩:ak) (rfl:(setCells ((a0 0 1) a9) 0 [.b ((aX.tmod (3:Int)) == (0:Int))])=(a0 0 1) (⟨(⟨((aX.tmod (3:Int)) == (0:Int)),a9.c6.cY⟩:aI),a9.dh⟩:ak))) (fun x=>(fO (rfl:(da [0]) 0=some 0)) x)) (lp (da [0]) 1 dN fT)) (kk (dl eh) (0+aF.toNat) (⟨(⟨((aX.tmod (3:Int)) == (0:Int)),a9.c6.cY⟩:aI),a9.dh⟩:ak))))))
  (fun ka d5 =>
  .bp fun r6 eP =>
  .bp fun hQ kz =>
  .ret (bT (t3.append [.bk (aO 3 (aN (.c4 ((a0 0 1) cm)) (aN (.c4 ((a0 0 1) cm)) (ct 1 (.dB 34 (.bd 0 (ka.1+1) 0 ka.2) (.call {au:=[.ad 0 (ka.1+1) (ao.mk 1 (r6.map aq) .live)],bs:=[.pure],ac:=[.bF (.dp (.at_ 0 0 ka.2)),ii],r:= .n .i64 hQ.1,bW:=[(aP 1 aq hQ.2)],cz:=ii,cO:=[.pure],cy:=[0],cj:=false})) 1)))),(ap 3),.bB [0] [.cK (ao.mk 3 ((eh.set (0+aF.toNat) (⟨(⟨((aX.tmod (3:Int)) == (0:Int)),a9.c6.cY⟩:aI),a9.dh⟩:ak)).map (a0 0 1)) .live::(eC 1 aq (fT.set ka.1 hQ.2)))] [(0,j9 ((eh.set (0+aF.toNat) (⟨(⟨((aX.tmod (3:Int)) == (0:Int)),a9.c6.cY⟩:aI),a9.dh⟩:ak)).length)),(1,ii),(5,ii)]]) (d2.aW (.cs (wW (bS:=0) (c:=1) (aa:=1) d5) (rfl:gy [.ad 0 (ka.1+1) (ao.mk 1 (r6.map aq) .live)] 0 0=some (0,(ka.1+1))) (rfl:ka.2=ka.2) (tH (eJ .live 1 aq fT) mV eP) (eZ 1 ch r6) (eZ 1 ch hQ.2) (vO hQ kz) (c5 (fG (a2:=(da [0])) 3 .live (a0 0 1) (j3 (cb (a0 0 1) eh) (0+aF.toNat) (⟨(⟨((aX.tmod (3:Int)) == (0:Int)),a9.c6.cY⟩:aI),a9.dh⟩:ak) (rfl:(setCells ((a0 0 1) a9) 0 [.b ((aX.tmod (3:Int)) == (0:Int))])=(a0 0 1) (⟨(⟨((aX.tmod (3:Int)) == (0:Int)),a9.c6.cY⟩:aI),a9.dh⟩:ak))) (fun x=>(fO (rfl:(da [0]) 0=some 0)) x)) (hX (a2:=(da [0])) (tr (eJ .live 1 aq fT) ka.1 (cb aq hQ.2)) (hI dN))) (.ar (kk (dl eh) (0+aF.toNat) (⟨(⟨((aX.tmod (3:Int)) == (0:Int)),a9.c6.cY⟩:aI),a9.dh⟩:ak)))))))))
  (fun i3 ca =>
  .bp fun ss d4 =>
  .bp fun fB kW =>
  (let ek:=(j3 (cb (a0 0 1) eh) (0+aF.toNat) (⟨(⟨((aX.tmod (3:Int)) == (0:Int)),a9.c6.cY⟩:aI),a9.dh⟩:ak) (rfl:(setCells ((a0 0 1) a9) 0 [.b ((aX.tmod (3:Int)) == (0:Int))])=(a0 0 1) (⟨(⟨((aX.tmod (3:Int)) == (0:Int)),a9.c6.cY⟩:aI),a9.dh⟩:ak)));let t3:List b8:=t1.append [.bk (aO 3 (aN (.c4 ((a0 0 1) cm)) (aN (.c4 ((a0 0 1) cm)) (aN (.c4 ((a0 0 1) cm)) (ct 1 (.dB 27 (.bd 0 (i3.1+1) 0 i3.2) (.call {au:=[.ad 0 (i3.1+1) (ao.mk 1 (ss.map aq) .live)],bs:=[.pure],ac:=[.bF (.dp (.at_ 0 0 i3.2)),ii],r:= .n .i64 fB.1,bW:=[(aP 1 aq fB.2)],cz:=ii,cO:=[.pure],cy:=[0],cj:=false})) 1)))))];
  have d2:=bb.aW (.cs (wW (bS:=0) (c:=1) (aa:=1) ca) (rfl:gy [.ad 0 (i3.1+1) (ao.mk 1 (ss.map aq) .live)] 0 0=some (0,(i3.1+1))) (rfl:i3.2=i3.2) (tH (eJ .live 1 aq fT) mV d4) (eZ 1 ch ss) (eZ 1 ch fB.2) (vO fB kW) R.1 (.br R.2 (i5 ek bM) (i5 ek bM)));
  .uu (fun eO =>
  .bp fun hQ kz =>
  .ret (bT (t3.append [.bk (aO 3 (aN (.c4 ((a0 0 1) cm)) (aN (.c4 ((a0 0 1) cm)) (ct 1 (.dB 34 (.a1 1 []) (cI 2 (.n .i64 hQ) true)) 1)))),(ap 3),.bB [0] [.cK (ao.mk 3 ((eh.set (0+aF.toNat) (⟨(⟨((aX.tmod (3:Int)) == (0:Int)),a9.c6.cY⟩:aI),a9.dh⟩:ak)).map (a0 0 1)) .live::(eC 1 aq (fT.set i3.1 fB.2)))] [(0,j9 ((eh.set (0+aF.toNat) (⟨(⟨((aX.tmod (3:Int)) == (0:Int)),a9.c6.cY⟩:aI),a9.dh⟩:ak)).length)),(1,ii),(5,ii)]]) (d2.aW (.ee (wV (bS:=0) (c:=1) (aa:=1) eO) (vY hQ kz) (aT.n .i64 hQ) (c5 (fG (a2:=(da [0])) 3 .live (a0 0 1) (j3 (cb (a0 0 1) eh) (0+aF.toNat) (⟨(⟨((aX.tmod (3:Int)) == (0:Int)),a9.c6.cY⟩:aI),a9.dh⟩:ak) (rfl:(setCells ((a0 0 1) a9) 0 [.b ((aX.tmod (3:Int)) == (0:Int))])=(a0 0 1) (⟨(⟨((aX.tmod (3:Int)) == (0:Int)),a9.c6.cY⟩:aI),a9.dh⟩:ak))) (fun x=>(fO (rfl:(da [0]) 0=some 0)) x)) (hX (a2:=(da [0])) (tr (eJ .live 1 aq fT) i3.1 (cb aq fB.2)) (hI dN))) (kk (dl eh) (0+aF.toNat) (⟨(⟨((aX.tmod (3:Int)) == (0:Int)),a9.c6.cY⟩:aI),a9.dh⟩:ak))))))
  (fun kb eO =>
  .bp fun r7 kz =>
  .bp fun h2 x6 =>
  .ret (let cq:=tr (eJ .live 1 aq fT) i3.1 (cb aq fB.2);bT (t3.append [.bk (aO 3 (aN (.c4 ((a0 0 1) cm)) (aN (.c4 ((a0 0 1) cm)) (ct 1 (.dB 34 (.bd 0 (kb.1+1) 0 kb.2) (.call {au:=[.ad 0 (kb.1+1) (ao.mk 1 (r7.map aq) .live)],bs:=[.pure],ac:=[.bF (.dp (.at_ 0 0 kb.2)),ii],r:= .n .i64 h2.1,bW:=[(aP 1 aq h2.2)],cz:=ii,cO:=[.pure],cy:=[0],cj:=false})) 1)))),(ap 3),.bB [0] [.cK (ao.mk 3 ((eh.set (0+aF.toNat) (⟨(⟨((aX.tmod (3:Int)) == (0:Int)),a9.c6.cY⟩:aI),a9.dh⟩:ak)).map (a0 0 1)) .live::(eC 1 aq ((fT.set i3.1 fB.2).set kb.1 h2.2)))] [(0,j9 ((eh.set (0+aF.toNat) (⟨(⟨((aX.tmod (3:Int)) == (0:Int)),a9.c6.cY⟩:aI),a9.dh⟩:ak)).length)),(1,ii),(5,ii)]]) (d2.aW (.cs (wW (bS:=0) (c:=1) (aa:=1) eO) (rfl:gy [.ad 0 (kb.1+1) (ao.mk 1 (r7.map aq) .live)] 0 0=some (0,(kb.1+1))) (rfl:kb.2=kb.2) (tH cq mV kz) (eZ 1 ch r7) (eZ 1 ch h2.2) (vO h2 x6) (c5 (fG (a2:=(da [0])) 3 .live (a0 0 1) (j3 (cb (a0 0 1) eh) (0+aF.toNat) (⟨(⟨((aX.tmod (3:Int)) == (0:Int)),a9.c6.cY⟩:aI),a9.dh⟩:ak) (rfl:(setCells ((a0 0 1) a9) 0 [.b ((aX.tmod (3:Int)) == (0:Int))])=(a0 0 1) (⟨(⟨((aX.tmod (3:Int)) == (0:Int)),a9.c6.cY⟩:aI),a9.dh⟩:ak))) (fun x=>(fO (rfl:(da [0]) 0=some 0)) x)) (hX (a2:=(da [0])) (tr cq kb.1 (cb aq h2.2)) (hI dN))) (.ar (kk (dl eh) (0+aF.toNat) (⟨(⟨((aX.tmod (3:Int)) == (0:Int)),a9.c6.cY⟩:aI),a9.dh⟩:ak)))))))))))
  (fun I =>
  .ret (bT [(ap 4),.aH false,.bB [0] [.cK (ao.mk 3 (eh.map (a0 0 1)) .live::(eC 1 aq fT))] (bQ [1])] (.aE I (c5 (fG (a2:=(da [0])) 3 .live (a0 0 1) (cb (a0 0 1) eh) (fun x=>(fO (rfl:(da [0]) 0=some 0)) x)) (lp (da [0]) 1 dN fT)))))
theorem DB {aX aF:Int}{eh:List ak}{fT:List (List Int)}{r} (h:vP aX aF eh fT=some r):fW bE 38 1 11 [1,0,1,0,0] (vf) (vk) (aX,aF,eh,fT) r:=f6 (fun _=>C9) h
def p2 (aX:Int)(nF:List ak)(pC:List (List Int)):Option (Int×(List ak)×(List (List Int))) :=
 vP aX 0 nF pC >>= fun aQ =>
 some (aQ.1,aQ.2.1,aQ.2.2)
theorem DT {aX:Int}{nF:List ak}{pC:List (List Int)}:bP (p2 aX nF pC) (fun a=>Con bE 11 [.bd 0 0 0 nF.length,.n .i64 aX] [(ao.mk 3 (nF.map (a0 0 1)) .live::(eC 1 aq pC))] (.n .i64 a.1) [(ao.mk 3 (a.2.1.map (a0 0 1)) .live::(eC 1 aq a.2.2))]):=by
 unfold p2
 exact .bp fun aQ R =>
  .ret (let cq:=da [0];hh [(ap 1),(ap 1),.bB [0] [.cK (ao.mk 3 (nF.map (a0 0 1)) .live::(eC 1 aq pC))] (bQ [0,1,5]),(vk aQ).jk,(ap 2)] [0] [.cK (ao.mk 3 (aQ.2.1.map (a0 0 1)) .live::(eC 1 aq aQ.2.2))] (.br (c5 (fG (a2:=cq) 3 .live (a0 0 1) (cb (a0 0 1) nF) (fun x=>(fO (rfl:cq 0=some 0)) x)) (lp cq 1 dN pC)) (DB R) (c5 (fG (a2:=cq) 3 .live (a0 0 1) (cb (a0 0 1) aQ.2.1) (fun x=>(fO (rfl:cq 0=some 0)) x)) (lp cq 1 dN aQ.2.2))))
def vr (ay:List Int):(Int×Int)→S:=fun (aX,aF)=>ec [(0,.a1 1 (ay.map aq)),(1,.n .i64 aX),(5,.n .i64 aF)] []
def vB (ay:List Int):((Int)⊕(Unit))→el
 | .inl a=>⟨some 0,[(1,.n .i64 a)],[]⟩
 | .inr a=>⟨none,[(4,.n .i64 (-1:Int))],[]⟩
def og (ay:List Int)(aX aF:Int):Option ((Int×Int)⊕((Int)⊕(Unit))) :=
 if (decide (aF<(len_ aq ay)))=true then
  if 0≤aF∧aF<ay.length then
  ay[aF.toNat]? >>= fun a9 =>
  if (a9 != aX)=true then
   some (.inr (.inr ()))
  else
   some (.inl (bq (aX+(1:Int)),bq (aF+(1:Int))))
  else none
 else
  some (.inr (.inl aX))
def vZ (ay:List Int)(aX aF:Int):Option ((Int)⊕(Unit)):=iter (fun w:Int×Int=>og ay w.1 w.2) (aX,aF)
theorem Di {ay:List Int}{aX aF:Int}:bP (og ay aX aF) (fV bE 21 0 27 [1,0,1,0,0] (vr ay (aX,aF)) (vr ay) (vB ay)):=by
 unfold og
 exact .ite (fun I =>
  .cH fun R =>
  .bp fun a9 aR =>
  (let t1:List b8:=[(ap 4),.aH true,.bk (ct 3 (.c4 (aq a9)) 2)];
  have bb:=((.de I R.1 (gl aq R.2) (fr aq aR)):cr _);
  .ite (fun bC =>
  .ret (bT (t1.append [.aH true,(ap 1),.bB [] [] (bQ [4])]) (bb.aW (.ar bC))))
  (fun bC =>
  .ret (bT (t1.append [.aH false,(ap 3),(ap 3),.bB [] [] (bQ [0,1,5])]) (bb.aW (.ar bC))))))
  (fun I =>
  .ret (bT [(ap 4),.aH false,.bB [] [] (bQ [1])] (.ar I)))
theorem yK {ay:List Int}{aX aF:Int}{r} (h:vZ ay aX aF=some r):fW bE 21 0 27 [1,0,1,0,0] (vr ay) (vB ay) (aX,aF) r:=f6 (fun _=>Di) h
def oC (ay:List Int)(aX:Int):Option Int :=
 vZ ay aX 0 >>= fun aQ =>
 match aQ with
 | .inl c1=>(some c1)
 | .inr c1=>(some (-1))
theorem yY {ay:List Int}{aX:Int}:bP (oC ay aX) (fun r=>Con bE 27 [.a1 1 (ay.map aq),.n .i64 aX] [] (.n .i64 r) []):=by
 unfold oC
 exact .bp fun aQ R =>
  (let t1:List b8:=[(ap 1),(ap 1),.bB [] [] (bQ [0,1,5])];
  (by
  rcases aQ with c1|c1
  ·exact (.ret (bI (t1.append [.sub (.exit 0) [(1,.n .i64 c1)] [],(ap 2)]) (.ar (yK R))))
  ·exact (.ret (bI (t1.append [(vB ay (.inr c1)).jk]) (.ar (yK R))))))
end Go.Proofs.Ytdkjpcaalflfhab
namespace Go.Proofs.Ytdkjpcaalflfhab
set_option linter.unusedVariables false
set_option linter.unusedSimpArgs false
open Go Go.VL
def vt (ay:List cD):(Int×Int)→S:=fun (aX,aF)=>ec [(0,.a1 3 (ay.map cL)),(1,.n .i64 aX),(5,.n .i64 aF)] []
def vC (ay:List cD):((Int)⊕(Unit))→el
 | .inl a=>⟨some 0,[(1,.n .i64 a)],[]⟩
 | .inr a=>⟨none,[(4,.n .i64 (-1:Int))],[]⟩
def oh (ay:List cD)(aX aF:Int):Option ((Int×Int)⊕((Int)⊕(Unit))) :=
 if (decide (aF<(len_ cL ay)))=true then
  if 0≤aF∧aF<ay.length then
  ay[aF.toNat]? >>= fun a9 =>
  if (a9.c6.jT == ((aX.tmod (3:Int)) == (0:Int)))=true then
   oC a9.c6.cY (bq (aX+(1:Int))) >>= fun fY =>
   if (decide (fY<(0:Int)))=true then
    some (.inr (.inr ()))
   else
    oC a9.dh fY >>= fun kH =>
    if (decide (kH<(0:Int)))=true then
     some (.inr (.inr ()))
    else
     some (.inl (kH,bq (aF+(1:Int))))
  else
   some (.inr (.inr ()))
  else none
 else
  some (.inr (.inl aX))
def v5 (ay:List cD)(aX aF:Int):Option ((Int)⊕(Unit)):=iter (fun w:Int×Int=>oh ay w.1 w.2) (aX,aF)
theorem Dj {ay:List cD}{aX aF:Int}:bP (oh ay aX aF) (fV bE 44 0 12 [1,0,1,0,0] (vt ay (aX,aF)) (vt ay) (vC ay)):=by
 unfold oh
 exact .ite (fun I =>
  .cH fun R =>
  .bp fun a9 aR =>
  (let t1:List b8:=[(ap 4),.aH true,.bk (ct 5 (.c4 (cL a9)) 4)];
  have bb:=((.ee I R.1 (gl cL R.2) (fr cL aR) (by decide:(3:Int)≠0)):cr _);
  .ite (fun bC =>
  .bp fun fY ca =>
  (let t3:List b8:=t1.append [.aH false,(ap 3),.bk (aO 5 (aN (.c4 (cL a9)) (ct 1 (cI 2 (.n .i64 fY) true) 1))),(ap 2)];
  have d2:=bb.aW (.eS (c9 bC) R.1 (gl cL R.2) (fr cL aR) (yY fY ca) (aT.n .i64 fY));
  .ite (fun gU =>
  .ret (bT (t3.append [.aH true,(ap 1),.bB [] [] (bQ [4])]) (d2.aW (.ar gU))))
  (fun gU =>
  .bp fun kH d4 =>
  (let t5:List b8:=t3.append [.aH false,.bk (aO 4 (aN (.c4 (cL a9)) (ct 1 (cI 2 (.n .i64 kH) true) 1))),(ap 2)];
  have jm:=d2.aW (.eS gU R.1 (gl cL R.2) (fr cL aR) (yY kH d4) (aT.n .i64 kH));
  .ite (fun d5 =>
  .ret (bT (t5.append [.aH true,(ap 1),.bB [] [] (bQ [4])]) (jm.aW (.ar d5))))
  (fun d5 =>
  .ret (bT (t5.append [.aH false,(ap 3),.bB [] [] (bQ [0,1,5])]) (jm.aW (.ar d5))))))))
  (fun bC =>
  .ret (bT (t1.append [.aH true,(ap 1),.bB [] [] (bQ [4])]) (bb.aW (.ar (c0 bC)))))))
  (fun I =>
  .ret (bT [(ap 4),.aH false,.bB [] [] (bQ [1])] (.ar I)))
theorem yL {ay:List cD}{aX aF:Int}{r} (h:v5 ay aX aF=some r):fW bE 44 0 12 [1,0,1,0,0] (vt ay) (vC ay) (aX,aF) r:=f6 (fun _=>Dj) h
def m8 (ay:List cD)(aX:Int):Option Int :=
 v5 ay aX 0 >>= fun aQ =>
 match aQ with
 | .inl c1=>(some c1)
 | .inr c1=>(some (-1))
theorem sF {ay:List cD}{aX:Int}:bP (m8 ay aX) (fun r=>Con bE 12 [.a1 3 (ay.map cL),.n .i64 aX] [] (.n .i64 r) []):=by
 unfold m8
 exact .bp fun aQ R =>
  (let t1:List b8:=[(ap 1),(ap 1),.bB [] [] (bQ [0,1,5])];
  (by
  rcases aQ with c1|c1
  ·exact (.ret (bI (t1.append [.sub (.exit 0) [(1,.n .i64 c1)] [],(ap 2)]) (.ar (yL R))))
  ·exact (.ret (bI (t1.append [(vC ay (.inr c1)).jk]) (.ar (yL R))))))
def vu (ay:List cD)(aX:Int):Unit→S:=fun _=>ec [(0,.a1 3 (ay.map cL)),(1,.n .i64 aX),(5,.n .i64 (0:Int))] []
def yG (ay:List cD)(aX:Int):Unit→el
 | a=>⟨some 0,[(1,.n .i64 aX)],[]⟩
def sA (ay:List cD)(aX:Int):Option ((Unit)⊕(Unit)) :=
 if (decide ((0:Int)<(len_ cL ay)))=true then
  if 0≤(0:Int)∧(0:Int)<ay.length then
  none
  else none
 else
  some (.inr ())
def sG (ay:List cD)(aX:Int):Option (Unit):=iter (fun w:Unit=>sA ay aX) ()
theorem Dk {ay:List cD}{aX:Int}:bP (sA ay aX) (fV bE 38 0 11 [1,0,1,0,0] (vu ay aX ()) (vu ay aX) (yG ay aX)):=by
 unfold sA
 exact .ite (fun I =>
  .cH fun R =>
  .Ce)
  (fun I =>
  .ret (bT [(ap 4),.aH false,.bB [] [] (bQ [1])] (.ar I)))
theorem DN {ay:List cD}{aX:Int}{r} (h:sG ay aX=some r):fW bE 38 0 11 [1,0,1,0,0] (vu ay aX) (yG ay aX) () r:=f6 (fun _=>Dk) h
def qd (ay:List cD)(aX:Int):Option Int :=
 sG ay aX >>= fun aQ =>
 some aX
theorem Ec {ay:List cD}{aX:Int}:bP (qd ay aX) (fun r=>Con bE 11 [.a1 3 (ay.map cL),.n .i64 aX] [] (.n .i64 r) []):=by
 unfold qd
 exact .bp fun aQ R =>
  .ret (bI [(ap 1),(ap 1),.bB [] [] (bQ [0,1,5]),.sub (.exit 0) [(1,.n .i64 aX)] [],(ap 2)] (.ar (DN R)))
def sB (rF:dq):Option Bool :=
 pX rF 1048576 >>= fun aQ =>
 if (decide (aQ<(0:Int)))=true then
  some true
 else
  pU rF >>= fun aM =>
  p8 (⟨aM.1,aM.2⟩:dq) >>= fun fY =>
  oy (⟨aM.1,aM.2⟩:dq) >>= fun dm =>
  match dm with
  | .inl U=>(if U.1.all (my U.2)=true then
   oL (U.1.map (fQ U.2)) fY >>= fun lm =>
   if lm=true then
    ow (⟨aM.1,aM.2⟩:dq) (⟨aM.1,aM.2⟩:dq) >>= fun hQ =>
    if hQ=true then
     oj 1 aM.1 aM.2 >>= fun lH =>
     if aM.1.length=lH.2.1.length then
     if aM.2.length=lH.2.2.length then
     if (decide (lH.1<(0:Int)))=true then
      some false
     else
      p2 1 U.1 U.2 >>= fun eF =>
      if 0+U.1.length≤eF.2.1.length then
      if ((eF.2.1.drop 0).take U.1.length).all (my eF.2.2)=true then
      m8 (((eF.2.1.drop 0).take U.1.length).map (fQ eF.2.2)) 1 >>= fun mb =>
      if (decide (mb<(0:Int)))=true then
       some false
      else
       if (mb != eF.1)=true then
        some false
       else
        some true
      else none
      else none
     else none
     else none
    else
     some false
   else
    some false
   else none)
  | .inr U=>(oL ([]:List cD) fY >>= fun fB =>
   if fB=true then
    ow (⟨aM.1,aM.2⟩:dq) (⟨aM.1,aM.2⟩:dq) >>= fun r8 =>
    if r8=true then
     oj 1 aM.1 aM.2 >>= fun h2 =>
     if aM.1.length=h2.2.1.length then
     if aM.2.length=h2.2.2.length then
     if (decide (h2.1<(0:Int)))=true then
      some false
     else
      qd ([]:List cD) 1 >>= fun r9 =>
      m8 ([]:List cD) 1 >>= fun mc =>
      if (decide (mc<(0:Int)))=true then
       some false
      else
       if (mc != r9)=true then
        some false
       else
        some true
     else none
     else none
    else
     some false
   else
    some false)
set_option maxHeartbeats 4000000 in
theorem Dp {rF:dq}:bP (sB rF) (fun r=>Con bE 3 [.agg (hn rF)] [] (.b r) []):=by
 unfold sB
 exact .bp fun aQ R =>
  (let t1:List b8:=[(ap 2),(ap 1),.bk (ct 2 (cI 2 (.n .i64 aQ) true) 1),(ap 2)];
  have bb:=((.aE (DG aQ R) (aT.n .i64 aQ)):cr _);
  .ite (fun av =>
  .ret (bI (t1.append [.aH true,(ap 1)]) (bb.aW (.ar av))))
  (fun av =>
  .bp fun aM bC =>
  .bp fun fY ca =>
  .bp fun dm d3 =>
  (let t3:List b8:=t1.append [.aH false,.bk (aO 1 (aN (.call {au:=[],bs:=[],ac:=[ii],r:= .agg [.bd 0 0 0 aM.1.length,.bd 0 1 0 aM.2.length],bW:=[[ao.mk 4 (aM.1.map a6) .live,ao.mk 3 (aM.2.map bl) .live]],cz:= .bF (.agg [.id,.id]),cO:=[.cK [ao.mk 4 (aM.1.map a6) .live,ao.mk 3 (aM.2.map bl) .live]],cy:=[],cj:=true}) (aN (.pG 10 (.call {ac:=[.bF (.agg [.fU (aM.1.map a6),.fU (aM.2.map bl)])],r:= .a1 3 (fY.map cL),cj:=false,cy:=[10]})) (aO 1 [])))),.bk (ct 1 (.call {au:=[],bs:=[],ac:=[ii],r:= .agg [.bd 0 0 0 aM.1.length,.bd 0 1 0 aM.2.length],bW:=[[ao.mk 4 (aM.1.map a6) .live,ao.mk 3 (aM.2.map bl) .live]],cz:= .bF (.agg [.id,.id]),cO:=[.cK [ao.mk 4 (aM.1.map a6) .live,ao.mk 3 (aM.2.map bl) .live]],cy:=[],cj:=true}) 2)];
  have d2:=bb.aW (.cs av (c5 (fX (dW [10]) 4 nj aM.1) (c5 (fX (dW [10]) 3 nd aM.2) (e5 (a2:=(dW [10]))))) ((f5 rfl (f5 rfl kh)):gv [ao.mk 4 (aM.1.map a6) .live,ao.mk 3 (aM.2.map bl) .live]) (ob aM bC) (aT.agg (ck (aT.bd 0 0 0 aM.1.length) (ck (aT.bd 0 1 0 aM.2.length) fu))) ((fs (dX (dR nk) (dX (dR nf) fP)) ft):eN [[ao.mk 4 (aM.1.map a6) .live,ao.mk 3 (aM.2.map bl) .live]]) (iH a6 aM.1) (hE a6 aM.1) (.cs (eg gp aM.1) (iH bl aM.2) (hE bl aM.2) (eg gn aM.2) (D6 fY ca) (c5 (fX (dW [14]) 4 nj aM.1) (c5 (fX (dW [14]) 3 nd aM.2) (e5 (a2:=(dW [14]))))) ((f5 rfl (f5 rfl kh)):gv [ao.mk 4 (aM.1.map a6) .live,ao.mk 3 (aM.2.map bl) .live]) (ob aM bC) (.kY (aT.agg (ck (aT.bd 0 0 0 aM.1.length) (ck (aT.bd 0 1 0 aM.2.length) fu))) ((fs (dX (dR nk) (dX (dR nf) fP)) ft):eN [[ao.mk 4 (aM.1.map a6) .live,ao.mk 3 (aM.2.map bl) .live]]) (iH a6 aM.1) (hE a6 aM.1) (eg gp aM.1) (iH bl aM.2) (hE bl aM.2) (eg gn aM.2))));
  (by
  rcases dm with U|U
  ·exact (.cH fun d5 =>
  .bp fun lm eO =>
  (let ll:=eC 1 aq U.2;let pB:=aP 3 (a0 18 1) U.1;let t5:List b8:=t3.append [.bk (ct 1 (.call {au:=[],bs:=[],ac:=[.bF (.agg [.fU (aM.1.map a6),.fU (aM.2.map bl)])],r:= .bd 0 0 0 U.1.length,bW:=[(ao.mk 3 (U.1.map (a0 0 1)) .live::ll)],cz:=ii,cO:=[.cK (ao.mk 3 (U.1.map (a0 18 1)) .live::ll)],cy:=[14],cj:=true}) 1),.bk (ct 2 (.call {ac:=[.bF (.dp (.view 18 (ao.mk 3 (U.1.map (a0 18 1)) .live) ((U.1.map (fQ U.2)).map cL))),ii],r:= .b lm,cj:=true,cy:=[18]}) 1)];
  have jm:=d2.aW (.cs (c5 (fG (a2:=(dW [18])) 3 .live (a0 18 1) (cb (a0 0 1) U.1) (fun x=>(fO (rfl:(dW [18]) 0=some 18)) x)) (lp (dW [18]) 1 dN U.2)) ((f5 rfl (qD (eJ .live 1 aq U.2))):gv (ao.mk 3 (U.1.map (a0 0 1)) .live::ll)) (sD (.inl U) d3) (aT.bd 0 0 0 U.1.length) ((fs (dX (dR (Aa _ _)) (Ar fS)) ft):eN [(ao.mk 3 (U.1.map (a0 0 1)) .live::ll)]) (rfl:bN (some (ao.mk 3 (U.1.map (a0 18 1)) .live::ll)) 0=some (ao.mk 3 (U.1.map (a0 18 1)) .live)) (rfl:_=true) (hE (a0 18 1) U.1) (.de (eg lS (U.1.map (fQ U.2))) (ts (bS:=18) (fp:=pB++ll) (bg:=gO) (aa:=3) (g:=cL) (cb (a0 18 1) U.1) (fun _=>rfl) (fun x ab=>(qR (bS:=18) (c:=1) (bg:=gO) (jr:=pB) (eJ .live 1 aq U.2) rfl mV rfl (q4 d5 x ab))) (dl U.1)) (oA lm eO) (aT.b lm)));
  .ite (fun eP =>
  .bp fun hQ kz =>
  (let t7:List b8:=t5.append [.aH false,.bk (aO 2 (aN (.call {au:=[],bs:=[],ac:=[ii],r:= .agg [.bd 0 0 0 aM.1.length,.bd 0 1 0 aM.2.length],bW:=[[ao.mk 4 (aM.1.map a6) .live,ao.mk 3 (aM.2.map bl) .live]],cz:= .bF (.agg [.id,.id]),cO:=[.cK [ao.mk 4 (aM.1.map a6) .live,ao.mk 3 (aM.2.map bl) .live]],cy:=[],cj:=true}) (aN (.call {ac:=[.bF (.agg [.fU (aM.1.map a6),.fU (aM.2.map bl)]),.bF (.agg [.fU (aM.1.map a6),.fU (aM.2.map bl)])],r:= .b hQ,cj:=true,cy:=[14,26]}) (aO 1 []))))];
  have kF:=jm.aW (.cs (c9 eP) (c5 (fX (dW [26]) 4 nj aM.1) (c5 (fX (dW [26]) 3 nd aM.2) (e5 (a2:=(dW [26]))))) ((f5 rfl (f5 rfl kh)):gv [ao.mk 4 (aM.1.map a6) .live,ao.mk 3 (aM.2.map bl) .live]) (ob aM bC) (aT.agg (ck (aT.bd 0 0 0 aM.1.length) (ck (aT.bd 0 1 0 aM.2.length) fu))) ((fs (dX (dR nk) (dX (dR nf) fP)) ft):eN [[ao.mk 4 (aM.1.map a6) .live,ao.mk 3 (aM.2.map bl) .live]]) (iH a6 aM.1) (hE a6 aM.1) (.cs (eg gp aM.1) (iH bl aM.2) (hE bl aM.2) (eg gn aM.2) (iH a6 aM.1) (hE a6 aM.1) (eg gp aM.1) (iH bl aM.2) (.de (hE bl aM.2) (eg gn aM.2) (yJ hQ kz) (aT.b hQ))));
  .ite (fun pA =>
  .bp fun lH uw =>
  .cH fun hP =>
  .cH fun ez =>
  (let t9:List b8:=t7.append [.aH false,(ap 1),.bk (ct 2 (.call {au:=[.ad 14 0 (ao.mk 4 (aM.1.map a6) .live),.ad 14 1 (ao.mk 3 (aM.2.map bl) .live)],bs:=[.pure,.pure],ac:=[.bF (.agg [.at_ 0 0 aM.1.length,.at_ 1 0 aM.2.length]),ii],r:= .n .i64 lH.1,bW:=[(aP 4 a6 lH.2.1),(aP 3 bl lH.2.2)],cz:=ii,cO:=[.pure,.pure],cy:=[14],cj:=false}) 1)];
  have sa:=kF.aW (.cs (c9 pA) (by decide:0≠1) (rfl:gy [.ad 14 0 (ao.mk 4 (aM.1.map a6) .live),.ad 14 1 (ao.mk 3 (aM.2.map bl) .live)] 0 0=some (14,0)) (rfl:aM.1.length=aM.1.length) (rfl:gy [.ad 14 0 (ao.mk 4 (aM.1.map a6) .live),.ad 14 1 (ao.mk 3 (aM.2.map bl) .live)] 1 0=some (14,1)) (rfl:aM.2.length=aM.2.length) (rfl:bN (some [ao.mk 4 (aM.1.map a6) .live,ao.mk 3 (aM.2.map bl) .live]) 0=some (ao.mk 4 (aM.1.map a6) .live)) (eZ 4 gp aM.1) (.ee (rfl:bN (some [ao.mk 4 (aM.1.map a6) .live,ao.mk 3 (aM.2.map bl) .live]) 1=some (ao.mk 3 (aM.2.map bl) .live)) (eZ 3 gn aM.2) (eZ 4 gp lH.2.1) (eZ 3 gn lH.2.2) (yv lH uw)));
  .ite (fun gF =>
  .ret (bI (t9.append [.bk (aO 3 (c2 4 (aN (.aH true) []))),.aH true,(ap 1)]) (sa.aW (.eS gF gF gF gF gF cw))))
  (fun gF =>
  .bp fun eF Jh =>
  .cH fun sb =>
  .cH fun mS =>
  .bp fun mb Cw =>
  (let gC:=eC 1 aq eF.2.2;let lo:=eC 1 aq U.2;let mT:=aP 3 (a0 18 1) eF.2.1;let n6:=cb (a0 18 1) eF.2.1;let pK:=aP 3 (a0 18 1) U.1;let t11:List b8:=t9.append [.bk (aO 5 (aN (.call {ac:=[.bF (.dp (.view 18 (ao.mk 3 (U.1.map (a0 18 1)) .live) ((U.1.map (fQ U.2)).map cL))),ii],r:= .b lm,cj:=true,cy:=[18]}) (aO 1 (aN (.aH false) [])))),.aH false,(ap 1),.bk (ct 2 (.call {au:=[.row 18],bs:=[.cK (ao.mk 3 (U.1.map (a0 0 1)) .live::lo)],ac:=[ii,ii],r:= .n .i64 eF.1,bW:=[(ao.mk 3 (eF.2.1.map (a0 0 1)) .live::gC)],cz:=ii,cO:=[.cK (ao.mk 3 (eF.2.1.map (a0 18 1)) .live::gC)],cy:=[18],cj:=false}) 1),(ap 1),.bk (ct 2 (.call {ac:=[.bF (.dp (.view 18 (ao.mk 3 (eF.2.1.map (a0 18 1)) .live) ((((eF.2.1.drop 0).take U.1.length).map (fQ eF.2.2)).map cL))),ii],r:= .n .i64 mb,cj:=true,cy:=[18]}) 1),(ap 2)];
  have nU:=sa.aW (.cs gF gF gF (rfl:bN (some (ao.mk 3 (U.1.map (a0 18 1)) .live::lo)) 0=some (ao.mk 3 (U.1.map (a0 18 1)) .live)) (rfl:_=true) (hE (a0 18 1) U.1) (eg lS (U.1.map (fQ U.2))) (ts (bS:=18) (fp:=pK++lo) (bg:=gO) (aa:=3) (g:=cL) (cb (a0 18 1) U.1) (fun _=>rfl) (fun x ab=>(qR (bS:=18) (c:=1) (bg:=gO) (jr:=pK) (eJ .live 1 aq U.2) rfl mV rfl (q4 d5 x ab))) (dl U.1)) (.cs (oA lm eO) (aT.b lm) gF gF (c9 eP) (c5 (fG (a2:=(yl [18])) 3 .live (a0 0 1) (cb (a0 18 1) U.1) (fun x=>(fO (rfl:(yl [18]) 18=some 0)) x)) (lp (yl [18]) 1 dN U.2)) ((f5 rfl (qD (eJ .live 1 aq U.2))):gv (ao.mk 3 (U.1.map (a0 18 1)) .live::lo)) (c5 (fG (a2:=(dW [18])) 3 .live (a0 18 1) (cb (a0 0 1) eF.2.1) (fun x=>(fO (rfl:(dW [18]) 0=some 18)) x)) (lp (dW [18]) 1 dN eF.2.2)) (.cs ((f5 rfl (qD (eJ .live 1 aq eF.2.2))):gv (ao.mk 3 (eF.2.1.map (a0 0 1)) .live::gC)) (DT eF Jh) (rfl:bN (some (ao.mk 3 (eF.2.1.map (a0 18 1)) .live::gC)) 0=some (ao.mk 3 (eF.2.1.map (a0 18 1)) .live)) (rfl:_=true) (wU n6 sb) (eg lS (((eF.2.1.drop 0).take U.1.length).map (fQ eF.2.2))) (AO (bS:=18) (fp:=mT++gC) (bg:=gO) (aa:=3) (g:=cL) n6 (fun _=>rfl) 0 U.1.length (fun x ab=>(qR (bS:=18) (c:=1) (bg:=gO) (jr:=mT) (eJ .live 1 aq eF.2.2) rfl mV rfl (q4 mS x ab)))) (sF mb Cw) (.ar (aT.n .i64 mb)))));
  .ite (fun sc =>
  .ret (bI (t11.append [.aH true,(ap 1)]) (nU.aW (.ar sc))))
  (fun sc =>
  .ite (fun uJ =>
  .ret (bI (t11.append [.aH false,(ap 3),.aH true,(ap 1)]) (nU.aW (.aE sc uJ))))
  (fun uJ =>
  .ret (let cq:=eC 1 aq U.2;let dJ:=aP 3 (a0 18 1) eF.2.1;let ek:=cb (a0 18 1) eF.2.1;let hD:=aP 3 (a0 59 1) U.1;bI (t11.append [.aH false,(ap 3),.aH false,.bk (aO 1 (aN (.call {au:=[],bs:=[],ac:=[ii],r:= .agg [.bd 0 0 0 aM.1.length,.bd 0 1 0 aM.2.length],bW:=[[ao.mk 4 (aM.1.map a6) .live,ao.mk 3 (aM.2.map bl) .live]],cz:= .bF (.agg [.id,.id]),cO:=[.cK [ao.mk 4 (aM.1.map a6) .live,ao.mk 3 (aM.2.map bl) .live]],cy:=[],cj:=true}) (aN (.call {au:=[],bs:=[],ac:=[.bF (.agg [.fU (aM.1.map a6),.fU (aM.2.map bl)])],r:= .bd 0 0 0 U.1.length,bW:=[(ao.mk 3 (U.1.map (a0 0 1)) .live::cq)],cz:=ii,cO:=[.cK (ao.mk 3 (U.1.map (a0 59 1)) .live::cq)],cy:=[58],cj:=true}) (aO 1 [])))),.bk (ct 2 (.call {ac:=[.bF (.dp (.view 59 (ao.mk 3 (U.1.map (a0 59 1)) .live) ((U.1.map (fQ U.2)).map cL))),ii],r:= .b lm,cj:=true,cy:=[59]}) 1),.aH false,(ap 1),.bk (ct 2 (.call {ac:=[.bF (.dp (.view 18 (ao.mk 3 (eF.2.1.map (a0 18 1)) .live) ((((eF.2.1.drop 0).take U.1.length).map (fQ eF.2.2)).map cL))),ii],r:= .n .i64 mb,cj:=true,cy:=[18]}) 1),(ap 2),.aH false,(ap 3),.aH false,(ap 1)]) (nU.aW (.cs sc uJ (c5 (fX (dW [58]) 4 nj aM.1) (c5 (fX (dW [58]) 3 nd aM.2) (e5 (a2:=(dW [58]))))) ((f5 rfl (f5 rfl kh)):gv [ao.mk 4 (aM.1.map a6) .live,ao.mk 3 (aM.2.map bl) .live]) (ob aM bC) (aT.agg (ck (aT.bd 0 0 0 aM.1.length) (ck (aT.bd 0 1 0 aM.2.length) fu))) ((fs (dX (dR nk) (dX (dR nf) fP)) ft):eN [[ao.mk 4 (aM.1.map a6) .live,ao.mk 3 (aM.2.map bl) .live]]) (iH a6 aM.1) (.cs (hE a6 aM.1) (eg gp aM.1) (iH bl aM.2) (hE bl aM.2) (eg gn aM.2) (c5 (fG (a2:=(dW [59])) 3 .live (a0 59 1) (cb (a0 0 1) U.1) (fun x=>(fO (rfl:(dW [59]) 0=some 59)) x)) (lp (dW [59]) 1 dN U.2)) ((f5 rfl (qD (eJ .live 1 aq U.2))):gv (ao.mk 3 (U.1.map (a0 0 1)) .live::cq)) (sD (.inl U) d3) (.cs (aT.bd 0 0 0 U.1.length) ((fs (dX (dR (Aa _ _)) (Ar fS)) ft):eN [(ao.mk 3 (U.1.map (a0 0 1)) .live::cq)]) (rfl:bN (some (ao.mk 3 (U.1.map (a0 59 1)) .live::cq)) 0=some (ao.mk 3 (U.1.map (a0 59 1)) .live)) (rfl:_=true) (hE (a0 59 1) U.1) (eg lS (U.1.map (fQ U.2))) (ts (bS:=59) (fp:=hD++cq) (bg:=gO) (aa:=3) (g:=cL) (cb (a0 59 1) U.1) (fun _=>rfl) (fun x ab=>(qR (bS:=59) (c:=1) (bg:=gO) (jr:=hD) (eJ .live 1 aq U.2) rfl mV rfl (q4 d5 x ab))) (dl U.1)) (oA lm eO) (.cs (aT.b lm) (c9 eP) (rfl:bN (some (ao.mk 3 (eF.2.1.map (a0 18 1)) .live::(eC 1 aq eF.2.2))) 0=some (ao.mk 3 (eF.2.1.map (a0 18 1)) .live)) (rfl:_=true) (wU ek sb) (eg lS (((eF.2.1.drop 0).take U.1.length).map (fQ eF.2.2))) (AO (bS:=18) (fp:=dJ++(eC 1 aq eF.2.2)) (bg:=gO) (aa:=3) (g:=cL) ek (fun _=>rfl) 0 U.1.length (fun x ab=>(qR (bS:=18) (c:=1) (bg:=gO) (jr:=dJ) (eJ .live 1 aq eF.2.2) rfl mV rfl (q4 mS x ab)))) (sF mb Cw) (.br (aT.n .i64 mb) sc uJ)))))))))))))
  (fun pA =>
  .ret (bI (t7.append [.aH true,(ap 1)]) (kF.aW (.ar (c0 pA)))))))
  (fun eP =>
  .ret (bI (t5.append [.aH true,(ap 1)]) (jm.aW (.ar (c0 eP)))))))
  ·exact (.bp fun fB kW =>
  (let t5:List b8:=t3.append [.bk (ct 1 (.call {au:=[],bs:=[],ac:=[.bF (.agg [.fU (aM.1.map a6),.fU (aM.2.map bl)])],r:= .dz,bW:=[],cz:=ii,cO:=[],cy:=[14],cj:=true}) 1),.bk (ct 2 (.call {ac:=[.bF (.dp (.jB 3)),ii],r:= .b fB,cj:=true}) 1)];
  have jm:=d2.aW (.de (sD (.inr U) d3) aT.dz (oA fB kW) (aT.b fB));
  .ite (fun eO =>
  .bp fun r8 ma =>
  (let t7:List b8:=t5.append [.aH false,.bk (aO 2 (aN (.call {au:=[],bs:=[],ac:=[ii],r:= .agg [.bd 0 0 0 aM.1.length,.bd 0 1 0 aM.2.length],bW:=[[ao.mk 4 (aM.1.map a6) .live,ao.mk 3 (aM.2.map bl) .live]],cz:= .bF (.agg [.id,.id]),cO:=[.cK [ao.mk 4 (aM.1.map a6) .live,ao.mk 3 (aM.2.map bl) .live]],cy:=[],cj:=true}) (aN (.call {ac:=[.bF (.agg [.fU (aM.1.map a6),.fU (aM.2.map bl)]),.bF (.agg [.fU (aM.1.map a6),.fU (aM.2.map bl)])],r:= .b r8,cj:=true,cy:=[14,26]}) (aO 1 []))))];
  have kF:=jm.aW (.cs (c9 eO) (c5 (fX (dW [26]) 4 nj aM.1) (c5 (fX (dW [26]) 3 nd aM.2) (e5 (a2:=(dW [26]))))) ((f5 rfl (f5 rfl kh)):gv [ao.mk 4 (aM.1.map a6) .live,ao.mk 3 (aM.2.map bl) .live]) (ob aM bC) (aT.agg (ck (aT.bd 0 0 0 aM.1.length) (ck (aT.bd 0 1 0 aM.2.length) fu))) ((fs (dX (dR nk) (dX (dR nf) fP)) ft):eN [[ao.mk 4 (aM.1.map a6) .live,ao.mk 3 (aM.2.map bl) .live]]) (iH a6 aM.1) (hE a6 aM.1) (.cs (eg gp aM.1) (iH bl aM.2) (hE bl aM.2) (eg gn aM.2) (iH a6 aM.1) (hE a6 aM.1) (eg gp aM.1) (iH bl aM.2) (.de (hE bl aM.2) (eg gn aM.2) (yJ r8 ma) (aT.b r8))));
  .ite (fun kz =>
  .bp fun h2 x6 =>
  .cH fun uw =>
  .cH fun hP =>
  (let t9:List b8:=t7.append [.aH false,(ap 1),.bk (ct 2 (.call {au:=[.ad 14 0 (ao.mk 4 (aM.1.map a6) .live),.ad 14 1 (ao.mk 3 (aM.2.map bl) .live)],bs:=[.pure,.pure],ac:=[.bF (.agg [.at_ 0 0 aM.1.length,.at_ 1 0 aM.2.length]),ii],r:= .n .i64 h2.1,bW:=[(aP 4 a6 h2.2.1),(aP 3 bl h2.2.2)],cz:=ii,cO:=[.pure,.pure],cy:=[14],cj:=false}) 1)];
  have sa:=kF.aW (.cs (c9 kz) (by decide:0≠1) (rfl:gy [.ad 14 0 (ao.mk 4 (aM.1.map a6) .live),.ad 14 1 (ao.mk 3 (aM.2.map bl) .live)] 0 0=some (14,0)) (rfl:aM.1.length=aM.1.length) (rfl:gy [.ad 14 0 (ao.mk 4 (aM.1.map a6) .live),.ad 14 1 (ao.mk 3 (aM.2.map bl) .live)] 1 0=some (14,1)) (rfl:aM.2.length=aM.2.length) (rfl:bN (some [ao.mk 4 (aM.1.map a6) .live,ao.mk 3 (aM.2.map bl) .live]) 0=some (ao.mk 4 (aM.1.map a6) .live)) (eZ 4 gp aM.1) (.ee (rfl:bN (some [ao.mk 4 (aM.1.map a6) .live,ao.mk 3 (aM.2.map bl) .live]) 1=some (ao.mk 3 (aM.2.map bl) .live)) (eZ 3 gn aM.2) (eZ 4 gp h2.2.1) (eZ 3 gn h2.2.2) (yv h2 x6)));
  .ite (fun ez =>
  .ret (bI (t9.append [.bk (aO 3 (c2 4 (aN (.aH true) []))),.aH true,(ap 1)]) (sa.aW (.eS ez ez ez ez ez cw))))
  (fun ez =>
  .bp fun r9 r4 =>
  .bp fun mc sb =>
  (let t11:List b8:=t9.append [.bk (aO 5 (aN (.call {ac:=[.bF (.dp (.jB 3)),ii],r:= .b fB,cj:=true}) (aO 1 (aN (.aH false) [])))),.aH false,(ap 1),.bk (ct 2 (.call {ac:=[.bF (.dp (.jB 3)),ii],r:= .n .i64 r9,cj:=true}) 1),(ap 1),.bk (ct 2 (.call {ac:=[.bF (.dp (.jB 3)),ii],r:= .n .i64 mc,cj:=true}) 1),(ap 2)];
  have nU:=sa.aW (.cs ez ez ez (oA fB kW) (aT.b fB) ez ez (c9 eO) (.de (Ec r9 r4) (aT.n .i64 r9) (sF mc sb) (aT.n .i64 mc)));
  .ite (fun mS =>
  .ret (bI (t11.append [.aH true,(ap 1)]) (nU.aW (.ar mS))))
  (fun mS =>
  .ite (fun uK =>
  .ret (bI (t11.append [.aH false,(ap 3),.aH true,(ap 1)]) (nU.aW (.aE mS uK))))
  (fun uK =>
  .ret (bI (t11.append [.aH false,(ap 3),.aH false,.bk (aO 1 (aN (.call {au:=[],bs:=[],ac:=[ii],r:= .agg [.bd 0 0 0 aM.1.length,.bd 0 1 0 aM.2.length],bW:=[[ao.mk 4 (aM.1.map a6) .live,ao.mk 3 (aM.2.map bl) .live]],cz:= .bF (.agg [.id,.id]),cO:=[.cK [ao.mk 4 (aM.1.map a6) .live,ao.mk 3 (aM.2.map bl) .live]],cy:=[],cj:=true}) (aN (.call {au:=[],bs:=[],ac:=[.bF (.agg [.fU (aM.1.map a6),.fU (aM.2.map bl)])],r:= .dz,bW:=[],cz:=ii,cO:=[],cy:=[58],cj:=true}) (aO 1 [])))),.bk (ct 2 (.call {ac:=[.bF (.dp (.jB 3)),ii],r:= .b fB,cj:=true}) 1),.aH false,(ap 1),.bk (ct 2 (.call {ac:=[.bF (.dp (.jB 3)),ii],r:= .n .i64 mc,cj:=true}) 1),(ap 2),.aH false,(ap 3),.aH false,(ap 1)]) (nU.aW (.cs mS uK (c5 (fX (dW [58]) 4 nj aM.1) (c5 (fX (dW [58]) 3 nd aM.2) (e5 (a2:=(dW [58]))))) ((f5 rfl (f5 rfl kh)):gv [ao.mk 4 (aM.1.map a6) .live,ao.mk 3 (aM.2.map bl) .live]) (ob aM bC) (aT.agg (ck (aT.bd 0 0 0 aM.1.length) (ck (aT.bd 0 1 0 aM.2.length) fu))) ((fs (dX (dR nk) (dX (dR nf) fP)) ft):eN [[ao.mk 4 (aM.1.map a6) .live,ao.mk 3 (aM.2.map bl) .live]]) (iH a6 aM.1) (.cs (hE a6 aM.1) (eg gp aM.1) (iH bl aM.2) (hE bl aM.2) (eg gn aM.2) (sD (.inr U) d3) aT.dz (oA fB kW) (.eS (aT.b fB) (c9 eO) (sF mc sb) (aT.n .i64 mc) mS uK)))))))))))
  (fun kz =>
  .ret (bI (t7.append [.aH true,(ap 1)]) (kF.aW (.ar (c0 kz)))))))
  (fun eO =>
  .ret (bI (t5.append [.aH true,(ap 1)]) (jm.aW (.ar (c0 eO)))))))))))
end Go.Proofs.Ytdkjpcaalflfhab
namespace Go.Proofs.Ytdkjpcaalflfhab
set_option linter.unusedVariables false
set_option linter.unusedSimpArgs false
open Go Go.VL
theorem HP {n:Nat}(h:n≤10000000):bq (((n+1:Nat):Int)-1)=n:=by rw [eb (by omega) (by omega)];omega
theorem tu (l:List Int):len_ aq l=l.length:=dn _ l
theorem FU {l:List Int}{k:Nat}{x:Int}(ab:l[k]? = some x)(bj:l.length≤5000000):m5 l ((k+1:Nat):Int)=some (if x=0 then .inl (k:Int) else .inr ((k+1:Nat):Int)):=by
 have a3:=dr ab
 unfold m5
 rw [HP (by omega),if_pos (by simp),if_pos (by omega),Int.toNat_natCast,ab]
 by_cases h:x=0<;>simp [h]
theorem Fz {l:List Int}(aB:dD l)(bj:l.length≤5000000):qg l=some (L (V l)):=by
 have : ∃r,iter (fun w:Int=>m5 l w) (l.length:Int)=some r∧ ∃k:Nat,r=k∧k≤l.length∧l.take k=L (V l):=by
  refine jI (cX:=fun w:Int=> ∃k:Nat,w=k∧k≤l.length∧V (l.take k)=V l) (m:=fun w:Int=>w.toNat) _ ?_ _ ⟨l.length,rfl,by omega,by simp⟩
  rintro _ ⟨k,rfl,a3,aZ⟩
  cases k with
  | zero =>
   refine .inr ⟨0,by simp [m5],0,rfl,by omega,?_⟩
   rw [← aZ]
   simp [V,tt]
  | succ k =>
   have ab:=List.getElem?_eq_getElem (show k<l.length by omega)
   rw [FU ab bj]
   by_cases h:l[k]=0
   ·refine .inl ⟨_,by simp [h],⟨k,rfl,by omega,?_⟩,by omega⟩
    have:=AQ ab
    rw [h] at this
    simp at this
    omega
   ·refine .inr ⟨_,by simp [h],k+1,rfl,a3,?_⟩
    rcases eT.GY aB k (fun x I=>by rw [ab] at I;simp at I;omega) with I|I
    ·exact rD I aZ
    ·omega
 obtain ⟨r,an,k,rfl,I,R⟩:=this
 unfold qg v7
 rw [tu,an]
 simp [I,R]
theorem CL {a b:Int}(h:0≤a):a.tmod b=a % b:=Int.tmod_eq_emod_of_nonneg h
theorem CM {a b:Int}(h:0≤a):a.tdiv b=a / b:=Int.tdiv_eq_ediv_of_nonneg h
theorem tJ {x:Int}(I:0≤x)(R:x<18446744073709551616):IntKind.wrap .u64 x=x:=by
 simp only [IntKind.wrap,IntKind.signed,IntKind.bits]
 have:((2:Int) ^ 64)=18446744073709551616:=by decide
 simp
 omega
theorem HQ {x:Int}(I:-9223372036854775808≤x)(R:x<9223372036854775808):IntKind.wrap .i64 x=x:=eb I R
theorem eT.snoc {l:List Int}{x:Int}(h:dD l)(ab:0<x∧x<1000000000):eT (l++[x]):=⟨h.append (dD.cons (by omega) dD.nil),fun y aS=>by
 rw [List.getLast?_append] at aS
 simp at aS
 omega⟩
theorem Ab {N:Int}(fN:N<18446744073709551616){n:Int}{row:List Int}(h:0≤n∧dD row∧V row+B row.length*n=N∧(n=0→eT row)∧((row.length=0∧n<18446744073709551616)∨(row.length=1∧n<20000000000)∨(row.length=2∧n<20)∨(row.length=3∧n=0)))(bj:0<n):
 (fun (n:Int) (row:List Int)=>0≤n∧dD row∧V row+B row.length*n=N∧(n=0→eT row)∧((row.length=0∧n<18446744073709551616)∨(row.length=1∧n<20000000000)∨(row.length=2∧n<20)∨(row.length=3∧n=0))) (n / 1000000000) (row++[n % 1000000000]):=by
 obtain ⟨h0,I,R,av,aR⟩:=h
 refine ⟨by omega,I.append (dD.cons (by omega) dD.nil),?_,fun bC=>eT.snoc I (by omega),?_⟩
 ·rw [wR,List.length_append,List.length_singleton,ny,jn,HM]
  have:=Int.mul_ediv_add_emod n 1000000000
  generalize n / 1000000000=u at *
  generalize n % 1000000000=t at *
  grind
 ·rw [List.length_append,List.length_singleton]
  omega
theorem Av {n:Int}(h:0≤n)(bj:n<9223372036854775808):oN n=some (L n):=by
 have : ∃r,iter (fun w:Int×List Int=>oq w.1 w.2) (n,[])=some r∧r=L n:=by
  refine jI (cX:=fun w:Int×List Int=>w.1≤n∧0≤w.1∧dD w.2∧V w.2+B w.2.length*w.1=n∧(w.1=0→eT w.2)∧((w.2.length=0∧w.1<18446744073709551616)∨(w.2.length=1∧w.1<20000000000)∨(w.2.length=2∧w.1<20)∨(w.2.length=3∧w.1=0))) (m:=fun w:Int×List Int=>w.1.toNat) _ ?_ _ ⟨Int.le_refl _,h,dD.nil,by simp [V,B],fun _=>eT.nil,.inl ⟨rfl,by simp only;omega⟩⟩
  rintro ⟨m,row⟩ ⟨hm,fa⟩
  simp only at hm fa
  obtain ⟨h0,I,R,av,aR⟩:=id fa
  by_cases gP:0<m
  ·have:=Ab (by omega) fa gP
   refine .inl ⟨(m / 1000000000,row++[m % 1000000000]),?_,⟨by simp only;omega,this⟩,by simp only;omega⟩
   unfold oq
   rw [if_pos (by simp;omega),CL (by omega),CM (by omega),if_pos (by simp;omega),eb (by omega) (by omega)]
  ·refine .inr ⟨row,by simp [oq,gP],?_⟩
   have nQ:m=0:=by omega
   refine rD (av nQ) ?_
   rw [nQ] at R
   simpa using R
 obtain ⟨r,an,rfl⟩:=this
 unfold oN wg
 rw [an]
 rfl
theorem zQ {n:Int}(h:0≤n)(bj:n<18446744073709551616):oH n=some (L n):=by
 have : ∃r,iter (fun w:Int×List Int=>oi w.1 w.2) (n,[])=some r∧r=L n:=by
  refine jI (cX:=fun w:Int×List Int=>w.1≤n∧0≤w.1∧dD w.2∧V w.2+B w.2.length*w.1=n∧(w.1=0→eT w.2)∧((w.2.length=0∧w.1<18446744073709551616)∨(w.2.length=1∧w.1<20000000000)∨(w.2.length=2∧w.1<20)∨(w.2.length=3∧w.1=0))) (m:=fun w:Int×List Int=>w.1.toNat) _ ?_ _ ⟨Int.le_refl _,h,dD.nil,by simp [V,B],fun _=>eT.nil,.inl ⟨rfl,by simp only;omega⟩⟩
  rintro ⟨m,row⟩ ⟨hm,fa⟩
  simp only at hm fa
  obtain ⟨h0,I,R,av,aR⟩:=id fa
  by_cases gP:0<m
  ·have:=Ab (by omega) fa gP
   refine .inl ⟨(m / 1000000000,row++[m % 1000000000]),?_,⟨by simp only;omega,this⟩,by simp only;omega⟩
   unfold oi
   rw [if_pos (by simp;omega),CL (by omega),CM (by omega),HQ (x:=m % 1000000000) (by omega) (by omega),if_pos (by simp;omega),tJ (by omega) (by omega)]
  ·refine .inr ⟨row,by simp [oi,gP],?_⟩
   have nQ:m=0:=by omega
   refine rD (av nQ) ?_
   rw [nQ] at R
   simpa using R
 obtain ⟨r,an,rfl⟩:=this
 unfold oH v9
 rw [an]
 rfl
def KZ (x:Int):Bool:=decide (0≤x) && decide (x<1000000000)
theorem Gz {b:List Int}{i:Nat}{y:Int}(I:∀z,b[i]? = some z→y=z)(R:b[i]? = none→y=0):V (b.take (i+1))=V (b.take i)+B i*y:=by
 cases h:b[i]? with
 | some z=>rw [I z h,AQ h]
 | none =>
  rw [R h]
  have:b.length≤i:=by simpa using h
  rw [List.take_of_length_le (by omega),List.take_of_length_le (by omega)]
  simp
def xo (p:Nat)(l:List Int):Prop:= ∀i z,i≠p→l[i]? = some z→0≤z∧z<1000000000
theorem xo.set {p:Nat}{l:List Int}(h:xo p l){k:Nat}{x:Int}(ab:0≤x∧x<1000000000):xo p (l.set k x):=fun i z aA bY=>by
 by_cases a3:k=i
 ·subst a3
  rw [List.getElem?_set] at bY
  simp only [if_true] at bY
  split at bY
  ·rw [← Option.some.inj bY];exact ab
  ·simp at bY
 ·rw [List.getElem?_set_ne a3] at bY
  exact h i z aA bY
def ks (n:Int):hY:=⟨decide (n<0),L n.natAbs⟩
def dw (neg:Bool)(a:Int):Int:=if neg then -a else a
def mk (p:Int×Int):cD:=⟨ks p.1,L p.2⟩
def sd (p:Int×Int):mx:=⟨ks p.1,L p.2⟩
def BP (x:Option (Int×Int)):Option mx:=x.map sd
structure Fr (p:Int×Int):Prop where
 pos:0<p.2
 Ji:Int.gcd p.1 p.2=1
 num:(p.1.natAbs:Int)<B 24
 den:p.2<B 24
theorem Ac {n:Int}(h:0≤n):decide ((0:Int)<((L n).length:Nat))=decide (0<n):=by
 apply decide_eq_decide.2
 by_cases I:0<n
 ·have:(L n)≠[]:=fun R=>by have:=xc.1 R;omega
  have:=List.length_pos_iff.mpr this
  omega
 ·have:n=0:=by omega
  subst this
  simp [tt]
theorem Ij {n:Int}(h:0≤n):(((L n).length:Nat):Int)=0↔n=0:=by
 constructor
 ·intro I
  have:L n=[]:=List.eq_nil_of_length_eq_zero (by omega)
  have:=xc.1 this
  omega
 ·rintro rfl
  simp [tt]
theorem Hs {neg:Bool}{a:Int}(h:0≤a):((dw neg a).natAbs:Int)=a:=by
 unfold dw
 cases neg<;>simp<;>omega
theorem AW {neg:Bool}{a:Int}(h:0≤a):(⟨neg && decide (0<a),L a⟩:hY)=ks (dw neg a):=by
 unfold ks
 rw [Hs h]
 congr 1
 unfold dw
 cases neg
 ·simp;omega
 ·simp
theorem Ht {a:Int}(h:0≤a)(uL:a<B 60):qo (L a)=some (L a):=by
 have aB:=(re h).2 uL
 unfold qo
 rw [Fz (Bu _) (by omega),r3 h]
 simp only [Option.bind_eq_bind,Option.bind_some,tu]
 rw [if_neg (by simp;omega)]
theorem wX {neg:Bool}{a:Int}(h:0≤a)(uL:a<B 60):na neg (L a)=some (ks (dw neg a)):=by
 have aB:=(re h).2 uL
 unfold na
 rw [Ht h uL]
 simp only [Option.bind_eq_bind,Option.bind_some,tu,List.nil_append]
 have aY:(L a).length*8≤140737488355328:=by omega
 rw [← AW h,← Ac h]
 cases neg<;>simp [aY]
theorem Ad {neg:Bool}{a:Int}(h:0≤a):oJ neg (L a)=some (ks (dw neg a)):=by
 unfold oJ
 rw [← AW h,tu,Ac h]
 cases neg<;>simp
def fits (x:Int):Prop:=x<B 24
noncomputable instance (x:Int):Decidable (fits x):=Classical.propDecidable _
theorem Hu:B 24≤B 60:=q5 (by omega)
theorem Fr.tX {p:Int×Int}(h:Fr p):(L p.1.natAbs).length≤24:=(re (by omega)).2 h.num
theorem Fr.tY {p:Int×Int}(h:Fr p):(L p.2).length≤24:=(re (by have:=h.pos;omega)).2 h.den
theorem AX:(1000000000000000000000000000:Int)≤B 24:=by
 have h:B 3≤B 24:=q5 (by omega)
 have av:B 3=1000000000000000000000000000:=by decide
 omega
theorem G4:(1000000000000000000000000000:Int)≤B 60:=by
 have:=Hu
 have:=AX
 omega
theorem Fb {n:Int}(h:ik n):p7 n=some (ks n):=by
 obtain ⟨I,R⟩:=wO.1 h
 have a4:=G4
 unfold p7
 by_cases hm:n = -9223372036854775808
 ·rw [if_pos (by simpa using hm)]
  have e:([854775808,223372036,9]:List Int)=L 9223372036854775808:=rD ⟨by intro x ab;simp at ab;omega,by simp⟩ (by decide)
  rw [e,wX (by omega) (by omega)]
  subst hm
  rfl
 ·rw [if_neg (by simpa using hm)]
  by_cases bj:n<0
  ·rw [if_pos (by simpa using bj),eb (by omega) (by omega),Av (by omega) (by omega)]
   simp only [Option.bind_eq_bind,Option.bind_some]
   rw [wX (by omega) (by omega)]
   simp only [Option.bind_some]
   congr 2
   unfold dw
   simp
  ·rw [if_neg (by simpa using bj),Av (by omega) (by omega)]
   simp only [Option.bind_eq_bind,Option.bind_some]
   rw [wX (by omega) (by omega)]
   simp only [Option.bind_some]
   congr 2
theorem FA {n:Int}(h:ik n):qj n=some (ks n):=by
 obtain ⟨I,R⟩:=wO.1 h
 unfold qj
 by_cases bj:n<0
 ·rw [if_pos (by simpa using bj),eb (x:=n+1) (by omega) (by omega),eb (x:=0-(n+1)) (by omega) (by omega),tJ (x:=0-(n+1)) (by omega) (by omega),tJ (by omega) (by omega),zQ (by omega) (by omega)]
  simp only [Option.bind_eq_bind,Option.bind_some]
  rw [Ad (by omega)]
  simp only [Option.bind_some]
  congr 2
  unfold dw
  simp
  omega
 ·rw [if_neg (by simpa using bj),tJ (by omega) (by omega),zQ (by omega) (by omega)]
  simp only [Option.bind_eq_bind,Option.bind_some]
  rw [Ad (by omega)]
  simp only [Option.bind_some]
  congr 2
theorem Bv:L 1=[1]:=GZ (by omega)
theorem ze {n:Int}(h:ik n):ox n=some (mk (n,1)):=by
 unfold ox
 rw [Fb h]
 simp only [Option.bind_eq_bind,Option.bind_some,mk,Bv]
theorem GA {n:Int}(h:ik n):qx n=some (some (sd (n,1))):=by
 unfold qx
 rw [FA h]
 simp only [Option.bind_eq_bind,Option.bind_some,sd,Bv]
theorem tv {n:Int}(h:ik n):Fr (n,1):=by
 obtain ⟨I,R⟩:=wO.1 h
 have a4:=AX
 exact ⟨by simp,by simp,by simp only;omega,by simp only;omega⟩
theorem qJ (n bD aA:Int):k3 n bD aA=some (decide (bD≤n∧n≤aA)):=by
 unfold k3
 by_cases h:bD≤n<;>simp [h]
theorem s4 {α β:Type}{t:Nat→α→Option β}: ∀(l:List α) (k:Nat),(∀n x,l[n]? = some x→t (k+n) x=none)→scan t k l=none
 | [],_,_=>rfl
 | x::l,k,h=>by
  have h0:=h 0 x rfl
  simp only [Nat.add_zero] at h0
  simp only [scan,h0]
  exact s4 l (k+1) fun n y aS=>by rw [show k+1+n=k+(n+1) by omega];exact h (n+1) y (by simpa using aS)
theorem zt (l:List Int)(h:l.length≤1048576):oK l l=some true:=by
 have I:wb l l 0=some (.inl ()):=by
  have:=sZ (f:=fun w=>ol l l w) (t:=fun _ _=>none) (e:= .inl ()) l 0 (fun n x ab=>by
   have bj:=dr ab
   have hw:bq ((n:Int)+1)=((n+1:Nat):Int):=by rw [eb (by omega) (by omega)];rfl
   simp only [ol,dn,Nat.zero_add,hw]
   simp [bj]) (by simp [ol,dn])
  rw [s4 l 0 (fun _ _ _=>rfl)] at this
  exact this
 simp [oK,I]
theorem EU (j:bh):ql j j=some true:=by simp [ql]
theorem ED (j:bw):qb j j=some true:=by simp [qb]
theorem EE (l:List bh)(h:l.length≤1048576):qa l l=some true:=by
 have I:vW l l 0=some (.inl ()):=by
  have:=sZ (f:=fun w=>od l l w) (t:=fun _ _=>none) (e:= .inl ()) l 0 (fun n x ab=>by
   have bj:=dr ab
   have hw:bq ((n:Int)+1)=((n+1:Nat):Int):=by rw [eb (by omega) (by omega)];rfl
   simp only [od,dn,Nat.zero_add,hw]
   simp [bj,EU]) (by simp [od,dn])
  rw [s4 l 0 (fun _ _ _=>rfl)] at this
  exact this
 simp [qa,I]
theorem Eu (l:List bw)(h:l.length≤1048576):p5 l l=some true:=by
 have I:vT l l 0=some (.inl ()):=by
  have:=sZ (f:=fun w=>oa l l w) (t:=fun _ _=>none) (e:= .inl ()) l 0 (fun n x ab=>by
   have bj:=dr ab
   have hw:bq ((n:Int)+1)=((n+1:Nat):Int):=by rw [eb (by omega) (by omega)];rfl
   simp only [oa,dn,Nat.zero_add,hw]
   simp [bj,ED]) (by simp [oa,dn])
  rw [s4 l 0 (fun _ _ _=>rfl)] at this
  exact this
 simp [p5,I]
theorem yZ (s:dq)(I:s.bH.length≤1048576)(R:s.dP.length≤1048576):ow s s=some true:=by
 simp [ow,EE _ I,Eu _ R]
theorem EV (j:bh)(left:Int)(aC:j.dO.size≤maxLen)(h0:0≤left)(I:left≤1048576): ∃r,qf j left=some r∧r≤left:=by
 have hm:j.dO.size<9223372036854775808:=by have:maxLen=9223372036854775807:=by decide
                                           omega
 have hw:bq (left-j.dO.size)=left-j.dO.size:=eb (by omega) (by omega)
 unfold qf
 rw [hw]
 by_cases h:left-(j.dO.size:Int)<0
 ·exact ⟨-1,by simp [h],by omega⟩
 ·exact ⟨left-j.dO.size,by simp [h],by omega⟩
theorem EF (l:List bh)(left:Int)(aB:l.length≤maxLen)(aC:∀j∈l,j.dO.size≤maxLen)(h0:0≤left)(I:left≤1048576):
 ∃r,p6 l left=some r∧r≤left∧(0≤r→l.length≤1048576):=by
 have hm:maxLen=9223372036854775807:=by decide
 have hw:bq (left-(l.length:Nat))=left-(l.length:Nat):=eb (by omega) (by omega)
 unfold p6
 simp only [dn,hw]
 by_cases h:left-(l.length:Int)<0
 ·exact ⟨-1,by simp [h],by omega,by omega⟩
 ·obtain ⟨r,aQ,bX⟩:=jI (f:=fun w:Int×Int=>m4 l w.1 w.2) (fun w=>0≤w.1∧w.1≤left∧0≤w.2∧w.2≤l.length) (fun w=>(l.length-w.2).toNat)
   (fun r=>match r with | .inl a=>a≤left | .inr _=>True) (fun w hw=>by
     obtain ⟨a,i⟩:=w
     simp only at hw
     obtain ⟨st,pL,pM,CN⟩:=hw
     by_cases aA:i<l.length
     ·obtain ⟨x,ab⟩ : ∃x,l[i.toNat]? = some x:=⟨_,List.getElem?_eq_getElem (by omega)⟩
      obtain ⟨r,s1,s2⟩:=EV x a (aC x (List.mem_of_getElem? ab)) st (by omega)
      obtain ⟨bj,rfl⟩:=List.getElem?_eq_some_iff.1 ab
      have xR:bq (i+1)=i+1:=eb (by omega) (by omega)
      by_cases an:r<0
      ·right
       exact ⟨.inr (),by simp [m4,dn,aA,pM,ab,s1,an],trivial⟩
      ·left
       refine ⟨(r,i+1),by simp [m4,dn,aA,pM,ab,s1,an,xR],?_,?_⟩
       ·simp only;omega
       ·simp only;omega
     ·right
      exact ⟨.inl a,by simp [m4,dn,aA],by simpa using pL⟩) (left-(l.length:Nat),0) (by simp only;omega)
  have Jj:vU l (left-(l.length:Nat)) 0=some r:=aQ
  rw [Jj]
  cases r with
  | inl a=>exact ⟨a,by simp [h],bX,by omega⟩
  | inr a=>exact ⟨-1,by simp [h],by omega,by omega⟩
theorem Ev (l:List bw)(left:Int)(aB:l.length≤maxLen)(h0:0≤left)(I:left≤1048576):
 ∃r,p3 l left=some r∧r≤left∧(0≤r→l.length≤1048576):=by
 have hm:maxLen=9223372036854775807:=by decide
 have hw:bq (left-(l.length:Nat))=left-(l.length:Nat):=eb (by omega) (by omega)
 unfold p3
 simp only [dn,hw]
 by_cases h:left-(l.length:Int)<0
 ·exact ⟨-1,by simp [h],by omega,by omega⟩
 ·exact ⟨left-(l.length:Nat),by simp [h],by omega,by omega⟩
theorem Ed (s:dq)(i0:mo s)(left:Int)(h0:0≤left)(I:left≤1048576):
 ∃r,pX s left=some r∧(0≤r→s.bH.length≤1048576∧s.dP.length≤1048576):=by
 obtain ⟨⟨dI,ed⟩,c1,dy⟩:=i0
 obtain ⟨r,aQ,bX,dA⟩:=EF s.bH left dI (fun j aC=>(ed j aC).1) h0 I
 unfold pX
 rw [aQ]
 by_cases h:r<0
 ·exact ⟨-1,by simp [h],by omega⟩
 ·obtain ⟨q,cq,dJ,ek⟩:=Ev s.dP r c1 (by omega) (by omega)
  by_cases aL:q<0
  ·exact ⟨-1,by simp [h,cq,aL],by omega⟩
  ·exact ⟨q,by simp [h,cq,aL],fun _=>⟨dA (by omega),ek (by omega)⟩⟩
theorem s5:maxLen=9223372036854775807:=by decide
theorem FB (n:Int):oG n=k3 n (-50) 50:=by
 rw [qJ]
 unfold oG
 by_cases h : -50≤n<;>simp [h]
theorem Fc (c:Int):p9 c=some (decide (97≤c∧c≤122)):=by
 unfold p9
 by_cases h:97≤c<;>simp [h]
theorem FC (c:Int):qh c=some (decide (48≤c∧c≤57)):=by
 unfold qh
 by_cases h:48≤c<;>simp [h]
theorem Fe (s:ByteArray)(i:Int):pS s s.size i=ml s i:=by
 unfold pS ml
 generalize ((s.data.toList.getD i.toNat 0).toNat:Int)=c
 simp only [Fc,FC,Option.bind_eq_bind,Option.bind_some]
 by_cases I:i<(s.size:Int)<;>by_cases h0:0≤i<;>by_cases a:(97:Int)≤c<;>by_cases b:c≤122<;>by_cases d:i=0<;>by_cases e:c<48<;>by_cases f:57<c <;>
  simp [I,h0,a,b,d,e,f,Int.not_lt.1,Int.not_le]<;>omega
theorem FV (s:ByteArray):qp s=ng s:=by
 have h:sI s s.size 0=p4 s 0:=by
  unfold sI p4
  congr 1
  funext w
  exact Fe s w
 unfold qp ng
 rw [h]
 congr 1
 funext r
 cases r with
 | inr a=>rfl
 | inl a =>
  simp only [qJ,Option.bind_eq_bind,Option.bind_some]
  by_cases h0:s.size=0
  ·have:s=⟨#[]⟩:=by
    cases s with
    | mk d=>simp only [ByteArray.size] at h0;rw [Array.size_eq_zero_iff] at h0;rw [h0]
   subst this
   have e0:(ByteArray.mk #[]).size=0:=rfl
   simp [e0]
  ·have b6:s.toList≠(⟨#[]⟩:ByteArray).toList:=by
    intro e
    have aB : ∀x:ByteArray,x.toList.length=x.size:=by intro x;rw [ByteArray.toList_eq];rfl
    have:=aB s
    rw [e,aB] at this
    exact h0 this.symm
   simp only [beq_iff_eq,b6,Bool.not_eq_true',beq_eq_false_iff_ne,ne_eq,not_false_eq_true,if_true]
   congr 1
   apply decide_eq_decide.2
   omega
theorem Ff (s:ByteArray)(bR:s.size≤maxLen): ∃r,ng s=some r:=by
 have hm:=s5
 obtain ⟨r,h,-⟩:=jI (f:=fun w=>ml s w) (fun i=>0≤i∧i≤s.size) (fun i=>(s.size-i).toNat) (fun _=>True) (fun i aA=>by
  obtain ⟨h0,I⟩:=aA
  by_cases R:i<(s.size:Int)
  ·have hw:bq (i+1)=i+1:=eb (by omega) (by omega)
   unfold ml
   generalize ((s.data.toList.getD i.toNat 0).toNat:Int)=c
   have HR:0≤i+1∧i+1≤(s.size:Int):=by omega
   have ir:((s.size:Int)-(i+1)).toNat<((s.size:Int)-i).toNat:=by omega
   have key : ∀x:Option (Int⊕(Unit⊕Unit)),(x=some (.inl (i+1))∨x=some (.inr (.inr ())))→(∃b0,x=some (.inl b0)∧(0≤b0∧b0≤(s.size:Int))∧((s.size:Int)-b0).toNat<((s.size:Int)-i).toNat)∨ ∃r,x=some (.inr r)∧True:=by
    intro x ab
    rcases ab with ab|ab
    ·exact .inl ⟨i+1,ab,HR,ir⟩
    ·exact .inr ⟨_,ab,trivial⟩
   apply key
   simp only [R,h0,hw,decide_true,if_true,and_self]
   by_cases a:(97:Int)≤c<;>by_cases b:c≤122<;>by_cases d:i=0<;>by_cases e:c<48<;>by_cases f:57<c<;>simp [a,b,d,e,f]
  ·exact .inr ⟨.inl (),by simp [ml,R],trivial⟩) 0 (by omega)
 have bG:p4 s 0=some r:=h
 unfold ng
 rw [bG]
 cases r with
 | inl a=>exact ⟨_,by simp [qJ];rfl⟩
 | inr a=>exact ⟨_,rfl⟩
theorem FD (j:bh):qi j=k1 j:=by
 unfold qi k1
 simp only [FV,FB]
theorem zg (j:bh)(h:j.dO.size≤maxLen): ∃r,k1 j=some r:=by
 obtain ⟨r,an⟩:=Ff _ h
 unfold k1
 simp only [an,qJ,Option.bind_eq_bind,Option.bind_some]
 repeat' split
 all_goals exact ⟨_,rfl⟩
theorem EG (s:dq)(n:ByteArray):p1 s n=m7 s n:=by
 have h:sw s.bH n (len_ a6 s.bH) 0=oo n s.bH (len_ a6 s.bH) 0:=by
  unfold sw oo
  congr 1
 unfold p1 m7 sx
 rw [h]
 cases oo n s.bH (len_ a6 s.bH) 0 with
 | none=>rfl
 | some r=>cases r<;>rfl
theorem y5 (s:dq)(n:ByteArray)(h:s.bH.length≤maxLen): ∃r,m7 s n=some r:=by
 have hm:=s5
 obtain ⟨r,I,-⟩:=jI (f:=fun w=>n7 n s.bH (len_ a6 s.bH) w) (fun i=>0≤i∧i≤s.bH.length) (fun i=>(s.bH.length-i).toNat) (fun _=>True) (fun i aA=>by
  obtain ⟨h0,I⟩:=aA
  by_cases R:i<(s.bH.length:Int)
  ·have hw:bq (i+1)=i+1:=eb (by omega) (by omega)
   obtain ⟨x,ab⟩ : ∃x,s.bH[i.toNat]? = some x:=⟨_,List.getElem?_eq_getElem (by omega)⟩
   unfold n7
   simp only [dn,R,h0,hw,ab,decide_true,if_true,and_self,Option.bind_eq_bind,Option.bind_some]
   by_cases e:(x.dO.toList == n.toList)=true
   ·exact .inr ⟨_,by rw [if_pos e],trivial⟩
   ·exact .inl ⟨i+1,by rw [if_neg e],by omega,by omega⟩
  ·exact .inr ⟨.inl (),by simp [n7,dn,R],trivial⟩) 0 (by omega)
 have bG:oo n s.bH (len_ a6 s.bH) 0=some r:=I
 unfold m7
 rw [bG]
 cases r with
 | inl a=>exact ⟨_,rfl⟩
 | inr a=>exact ⟨_,rfl⟩
theorem y6 (s:dq):sC s.bH (len_ a6 s.bH) s.dP 0=m6 s.bH (len_ a6 s.bH) s.dP 0:=by
 unfold sC m6
 congr 1
 funext w
 unfold sy ls
 simp only [FD,EG]
theorem yW (s:dq)(i0:mo s): ∃r,m6 s.bH (len_ a6 s.bH) s.dP 0=some r:=by
 have hm:=s5
 obtain ⟨⟨dI,ed⟩,-⟩:=i0
 obtain ⟨r,I,-⟩:=jI (f:=fun w=>ls s.bH (len_ a6 s.bH) s.dP w) (fun i=>0≤i∧i≤s.bH.length) (fun i=>(s.bH.length-i).toNat) (fun _=>True) (fun i aA=>by
  obtain ⟨h0,I⟩:=aA
  by_cases R:i<(s.bH.length:Int)
  ·have hw:bq (i+1)=i+1:=eb (by omega) (by omega)
   obtain ⟨x,ab⟩ : ∃x,s.bH[i.toNat]? = some x:=⟨_,List.getElem?_eq_getElem (by omega)⟩
   obtain ⟨p,ag⟩:=zg x (ed x (List.mem_of_getElem? ab)).1
   obtain ⟨q,aL⟩:=y5 ⟨s.bH,s.dP⟩ x.dO dI
   unfold ls
   simp only [dn,R,h0,hw,ab,ag,aL,decide_true,if_true,and_self,Option.bind_eq_bind,Option.bind_some]
   by_cases e:p=true
   ·rw [if_pos e]
    by_cases aE:(q != i)=true
    ·exact .inr ⟨_,by rw [if_pos aE],trivial⟩
    ·exact .inl ⟨i+1,by rw [if_neg aE],by omega,by omega⟩
   ·exact .inr ⟨_,by rw [if_neg e],trivial⟩
  ·exact .inr ⟨.inl (),by simp [ls,dn,R],trivial⟩) 0 (by omega)
 exact ⟨r,I⟩
def lV (df:List bh)(m:bw):Bool :=
 decide (0≤m.dE∧m.dE<df.length∧0≤m.dC∧m.dC<df.length∧1≤m.eo∧m.eo≤3) &&
 match df[m.dE.toNat]?,df[m.dC.toNat]? with
 | some a,some b=> !(a.dK == b.dK && a.dx == b.dx) && !(a.dS && b.dS)
 | _,_=>false
theorem wu (s:dq)(m:bw):pR s m=some (lV s.bH m):=by
 unfold pR lV
 simp only [dn]
 by_cases I:m.dE<0
 ·simp [I];omega
 by_cases R:(s.bH.length:Int)≤m.dE
 ·simp [I,R];omega
 by_cases av:m.dC<0
 ·simp [I,R,av];omega
 by_cases aR:(s.bH.length:Int)≤m.dC
 ·simp [I,R,av,aR];omega
 by_cases bC:m.eo<1
 ·simp [I,R,av,aR,bC];omega
 by_cases bM:3<m.eo
 ·simp [I,R,av,aR,bC,bM];omega
 obtain ⟨x,ab⟩ : ∃x,s.bH[m.dE.toNat]? = some x:=⟨_,List.getElem?_eq_getElem (by omega)⟩
 obtain ⟨y,aS⟩ : ∃y,s.bH[m.dC.toNat]? = some y:=⟨_,List.getElem?_eq_getElem (by omega)⟩
 have bF:0≤m.dE∧m.dE<s.bH.length:=by omega
 have eI:0≤m.dC∧m.dC<s.bH.length:=by omega
 have h8:0≤m.dE∧m.dE<s.bH.length∧0≤m.dC∧m.dC<s.bH.length∧1≤m.eo∧m.eo≤3:=by omega
 rw [decide_eq_false I,decide_eq_false R,decide_eq_false av,decide_eq_false aR,decide_eq_false bC,decide_eq_false bM,decide_eq_true h8,if_pos bF,ab]
 simp only [Bool.false_eq_true,if_false,Option.bind_eq_bind,Option.bind_some,Bool.true_and]
 rw [if_pos eI,aS]
 simp only [Option.bind_some]
 by_cases ar:x.dK=y.dK<;>by_cases aE:x.dx=y.dx<;>by_cases x7:x.dS=true<;>by_cases x8:y.dS=true<;>simp [ar,aE,x7,x8]
theorem Ew (df:List bh)(du:List bw)(aC:df.length≤6)(ua:du.length≤8)(i:Int):
 pQ (bq (len_ a6 df-1)) du (len_ bl du) df i =
 (kI du df du (len_ bl du) i).map (Sum.map id (Sum.map id fun _=>())):=by
 have hw:bq ((df.length:Nat)-1)=(df.length:Nat)-1:=eb (by omega) (by omega)
 unfold pQ kI ot
 simp only [dn,hw,wu,qJ,Option.bind_eq_bind,Option.bind_some]
 by_cases I:i<(du.length:Int)
 ·by_cases h0:0≤i
  ·obtain ⟨m,hm⟩ : ∃x,du[i.toNat]? = some x:=⟨_,List.getElem?_eq_getElem (by omega)⟩
   simp only [I,h0,hm,decide_true,if_true,and_self,Option.bind_some]
   unfold lV
   by_cases hA:0≤m.dE∧m.dE≤(df.length:Int)-1
   ·by_cases nY:0≤m.dC∧m.dC≤(df.length:Int)-1
    ·by_cases ef:1≤m.eo∧m.eo≤3
     ·obtain ⟨x,ab⟩ : ∃x,df[m.dE.toNat]? = some x:=⟨_,List.getElem?_eq_getElem (by omega)⟩
      obtain ⟨y,aS⟩ : ∃y,df[m.dC.toNat]? = some y:=⟨_,List.getElem?_eq_getElem (by omega)⟩
      have bF:0≤m.dE∧m.dE<df.length:=by omega
      have eI:0≤m.dC∧m.dC<df.length:=by omega
      have h8:0≤m.dE∧m.dE<df.length∧0≤m.dC∧m.dC<df.length∧1≤m.eo∧m.eo≤3:=by omega
      rw [decide_eq_true hA,decide_eq_true nY,decide_eq_true ef,decide_eq_true h8]
      simp only [if_true,Option.bind_some,Bool.true_and]
      rw [if_pos bF,ab]
      simp only [Option.bind_some]
      rw [if_pos eI,aS]
      simp only [Option.bind_some]
      by_cases ar:x.dK=y.dK<;>by_cases aE:x.dx=y.dx<;>by_cases x7:x.dS=true<;>by_cases x8:y.dS=true<;>simp [ar,aE,x7,x8]
     ·have h8 : ¬(0≤m.dE∧m.dE<df.length∧0≤m.dC∧m.dC<df.length∧1≤m.eo∧m.eo≤3):=by omega
      rw [decide_eq_true hA,decide_eq_true nY,decide_eq_false ef,decide_eq_false h8]
      simp
    ·have h8 : ¬(0≤m.dE∧m.dE<df.length∧0≤m.dC∧m.dC<df.length∧1≤m.eo∧m.eo≤3):=by omega
     rw [decide_eq_true hA,decide_eq_false nY,decide_eq_false h8]
     simp
   ·have h8 : ¬(0≤m.dE∧m.dE<df.length∧0≤m.dC∧m.dC<df.length∧1≤m.eo∧m.eo≤3):=by omega
    rw [decide_eq_false hA,decide_eq_false h8]
    simp
  ·simp [I,h0]
 ·simp [I]
theorem yS (df:List bh)(du:List bw)(ua:du.length≤8): ∃r,pN du df du (len_ bl du) 0=some r∧ ∀k,r = .inr k→0≤k:=by
 exact jI (f:=fun w=>kI du df du (len_ bl du) w) (fun i=>0≤i∧i≤du.length) (fun i=>(du.length-i).toNat) (fun r=> ∀k,r = .inr k→0≤k) (fun i aA=>by
  obtain ⟨h0,I⟩:=aA
  by_cases R:i<(du.length:Int)
  ·have hw:bq (i+1)=i+1:=eb (by omega) (by omega)
   obtain ⟨x,ab⟩ : ∃x,du[i.toNat]? = some x:=⟨_,List.getElem?_eq_getElem (by omega)⟩
   unfold kI ot
   simp only [dn,R,h0,hw,ab,wu,decide_true,if_true,and_self,Option.bind_eq_bind,Option.bind_some]
   by_cases e:(!lV df x)=true
   ·exact .inr ⟨_,by rw [if_pos e],by intro k a3;simp at a3;omega⟩
   ·exact .inl ⟨i+1,by rw [if_neg e],by omega,by omega⟩
  ·exact .inr ⟨.inl (),by simp [kI,dn,R],by intro k a3;simp at a3⟩) 0 (by omega)
theorem y0 (s:dq)(i0:mo s): ∃r,ou s=some r∧ov s=some r:=by
 unfold ou ov
 by_cases I:6<(s.bH.length:Int)
 ·exact ⟨false,by simp [dn,I],by simp [dn,I]⟩
 by_cases R:8<(s.dP.length:Int)
 ·exact ⟨false,by simp [dn,I,R],by simp [dn,I,R]⟩
 obtain ⟨r,an⟩:=yW s i0
 rw [y6,an]
 obtain ⟨q,aL,nK⟩:=yS s.bH s.dP (by omega)
 have Jk:vF (bq (len_ a6 s.bH-1)) s.dP (len_ bl s.dP) s.bH 0=some (Sum.map id (fun _=>()) q) :=
  Gk (f:=fun w=>kI s.dP s.bH s.dP (len_ bl s.dP) w) (Sum.map id fun _=>()) (fun _=>True) (fun _ _ _ _=>trivial)
   (fun i _=>Ew s.bH s.dP (by omega) (by omega) i) 0 q aL trivial
 simp only [pO,pP,aL,Jk,Option.bind_eq_bind,Option.bind_some]
 have lM:decide ((6:Int)<len_ a6 s.bH)=false:=by rw [dn];exact decide_eq_false I
 have lN:decide ((8:Int)<len_ bl s.dP)=false:=by rw [dn];exact decide_eq_false R
 rw [lM,lN]
 simp only [Bool.false_eq_true,if_false]
 cases r with
 | inr a=>exact ⟨false,rfl,rfl⟩
 | inl a =>
  cases q with
  | inl b=>exact ⟨true,rfl,by simp⟩
  | inr k =>
   have:=nK k rfl
   exact ⟨false,rfl,by simp [this]⟩
theorem FW (s:dq)(i0:mo s)(h:m6 s.bH (len_ a6 s.bH) s.dP 0=some (.inl ())): ∀(n:Nat) j,s.bH[n]? = some j→k1 j=some true:=by
 have hm:=s5
 obtain ⟨⟨dI,ed⟩,-⟩:=i0
 obtain ⟨r,I,R⟩:=jI (f:=fun w=>ls s.bH (len_ a6 s.bH) s.dP w) (fun i=>0≤i∧i≤s.bH.length∧ ∀(n:Nat) j,(n:Int)<i→s.bH[n]? = some j→k1 j=some true) (fun i=>(s.bH.length-i).toNat)
  (fun r=>r = .inl ()→ ∀(n:Nat) j,s.bH[n]? = some j→k1 j=some true) (fun i aA=>by
  obtain ⟨h0,I,av⟩:=aA
  by_cases R:i<(s.bH.length:Int)
  ·have hw:bq (i+1)=i+1:=eb (by omega) (by omega)
   obtain ⟨x,ab⟩ : ∃x,s.bH[i.toNat]? = some x:=⟨_,List.getElem?_eq_getElem (by omega)⟩
   obtain ⟨p,ag⟩:=zg x (ed x (List.mem_of_getElem? ab)).1
   obtain ⟨q,aL⟩:=y5 ⟨s.bH,s.dP⟩ x.dO dI
   unfold ls
   simp only [dn,R,h0,hw,ab,ag,aL,decide_true,if_true,and_self,Option.bind_eq_bind,Option.bind_some]
   by_cases e:p=true
   ·rw [if_pos e]
    by_cases aE:(q != i)=true
    ·exact .inr ⟨_,by rw [if_pos aE],by simp⟩
    ·refine .inl ⟨i+1,by rw [if_neg aE],⟨by omega,by omega,fun n j bj aC=> ?_⟩,by omega⟩
     by_cases c:(n:Int)<i
     ·exact av n j c aC
     ·have:n=i.toNat:=by omega
      subst this
      rw [ab] at aC
      obtain rfl:=Option.some.inj aC
      rw [ag,e]
   ·exact .inr ⟨_,by rw [if_neg e],by simp⟩
  ·refine .inr ⟨.inl (),by simp [ls,dn,R],fun _ n j aC=>av n j (by have:=dr aC;omega) aC⟩) 0 ⟨by omega,by omega,fun n j bj=>by omega⟩
 have lD:m6 s.bH (len_ a6 s.bH) s.dP 0=some r:=I
 rw [h] at lD
 exact R (Option.some.inj lD).symm
theorem FE (df:List bh)(du:List bw)(ua:du.length≤8)(h:pN du df du (len_ bl du) 0=some (.inl ())): ∀(n:Nat) m,du[n]? = some m→lV df m=true:=by
 obtain ⟨r,I,R⟩:=jI (f:=fun w=>kI du df du (len_ bl du) w) (fun i=>0≤i∧i≤du.length∧ ∀(n:Nat) m,(n:Int)<i→du[n]? = some m→lV df m=true) (fun i=>(du.length-i).toNat)
  (fun r=>r = .inl ()→ ∀(n:Nat) m,du[n]? = some m→lV df m=true) (fun i aA=>by
  obtain ⟨h0,I,av⟩:=aA
  by_cases R:i<(du.length:Int)
  ·have hw:bq (i+1)=i+1:=eb (by omega) (by omega)
   obtain ⟨x,ab⟩ : ∃x,du[i.toNat]? = some x:=⟨_,List.getElem?_eq_getElem (by omega)⟩
   unfold kI ot
   simp only [dn,R,h0,hw,ab,wu,decide_true,if_true,and_self,Option.bind_eq_bind,Option.bind_some]
   by_cases e:(!lV df x)=true
   ·exact .inr ⟨_,by rw [if_pos e],by simp⟩
   ·refine .inl ⟨i+1,by rw [if_neg e],⟨by omega,by omega,fun n j bj aC=> ?_⟩,by omega⟩
    by_cases c:(n:Int)<i
    ·exact av n j c aC
    ·have:n=i.toNat:=by omega
     subst this
     rw [ab] at aC
     obtain rfl:=Option.some.inj aC
     simpa using e
  ·refine .inr ⟨.inl (),by simp [kI,dn,R],fun _ n j aC=>av n j (by have:=dr aC;omega) aC⟩) 0 ⟨by omega,by omega,fun n j bj=>by omega⟩
 have lD:pN du df du (len_ bl du) 0=some r:=I
 rw [h] at lD
 exact R (Option.some.inj lD).symm
theorem DX (s:dq)(i0:mo s)(h:ou s=some true):
 (∀(n:Nat) j,s.bH[n]? = some j→k1 j=some true)∧(∀(n:Nat) m,s.dP[n]? = some m→lV s.bH m=true)∧s.bH.length≤6∧s.dP.length≤8:=by
 obtain ⟨p,eG,eA⟩:=y0 s i0
 rw [h] at eG
 obtain rfl:=Option.some.inj eG
 unfold ov at eA
 by_cases I:6<(s.bH.length:Int)
 ·simp [dn,I] at eA
 by_cases R:8<(s.dP.length:Int)
 ·simp [dn,I,R] at eA
 obtain ⟨r,an⟩:=yW s i0
 rw [y6,an] at eA
 obtain ⟨q,aL,nK⟩:=yS s.bH s.dP (by omega)
 have lM:decide ((6:Int)<len_ a6 s.bH)=false:=by rw [dn];exact decide_eq_false I
 have lN:decide ((8:Int)<len_ bl s.dP)=false:=by rw [dn];exact decide_eq_false R
 rw [lM,lN] at eA
 simp only [pO,pP,aL,Bool.false_eq_true,if_false,Option.bind_eq_bind,Option.bind_some] at eA
 cases r with
 | inr a=>simp at eA
 | inl a =>
  cases q with
  | inr k =>
   have:=nK k rfl
   simp [this] at eA
  | inl b=>exact ⟨FW s i0 an,FE s.bH s.dP (by omega) aL,by omega,by omega⟩
def tw (r:cD):Prop:=r.c6.cY.length≤1048576∧r.dh.length≤1048576
theorem FF {r:cD}(h:tw r):qy r r=some true:=by
 unfold qy sM
 simp [zt _ h.1,zt _ h.2]
theorem zu (l:List cD)(h:l.length≤1048576)(an:∀r∈l,tw r):oL l l=some true:=by
 have I:iter (fun w=>om l l w) 0=some (if l.all (fun _=>true) then .inl () else .inr ()):=Gl l (fun _=>true) (fun n x ab=>by
  have bj:=dr ab
  unfold om
  rw [dn,if_pos (by simp;omega),if_pos (by omega),Int.toNat_natCast,ab]
  simp only [Option.bind_eq_bind,Option.bind_some]
  rw [if_pos (by omega),FF (an x (List.mem_of_getElem? ab))]
  simp only [Option.bind_some,if_true]
  rw [j1 (by omega)]) (by simp [om,dn])
 unfold oL wc
 rw [I]
 simp
def CO (l:List Int)(n:Nat)(x:Int):Prop:=0≤x∧x<1000000000∧(∀z,l[n]? = some z→x=z)∧(l[n]? = none→x=0)
theorem CO.take {l:List Int}{n:Nat}{x:Int}(h:CO l n x):V (l.take (n+1))=V (l.take n)+B n*x:=Gz h.2.2.1 h.2.2.2
theorem Fr.neg {q:Int×Int}(h:Fr q):Fr (-q.1,q.2):=⟨h.pos,by simp only;rw [Int.neg_gcd];exact h.Ji,by simp only;have:=h.num;omega,h.den⟩
theorem pL {i:Int}{a:Nat}(h0:0≤i)(I:i≤100)(bJ:a≤1):bq (bq (2*i)+(a:Int))=(((2*i+a).toNat:Nat):Int):=by
 rw [eb (x:=2*i) (by omega) (by omega),eb (by omega) (by omega)]
 omega
theorem EH (l:List bh)(h:l.length≤1048576):pZ l=some l:=by
 have a4 : ∀(n:Nat) x (row:List bh),l[n]? = some x→row.length=l.length→m2 l n row=some (.inl (((n+1:Nat):Int),row.set n x)):=by
  intro n x row ab an
  obtain ⟨bj,rfl⟩:=List.getElem?_eq_some_iff.1 ab
  have hw:bq ((n:Int)+1)=((n+1:Nat):Int):=by rw [eb (by omega) (by omega)];rfl
  simp only [m2,dn,hw,sQ]
  simp [bj,an]
 have he : ∀row:List bh,m2 l l.length row=some (.inr row):=by
  intro row
  simp [m2,dn]
 have I:vL l 0 (List.replicate (len_ a6 l).toNat (⟨ByteArray.empty,0,0,false⟩:bh))=some l :=
  z8 l _ (by simp [dn]) a4 he
 unfold pZ
 rw [I,if_pos (by rw [dn];omega)]
 simp [dn]
theorem Ex (l:List bw)(h:l.length≤1048576):pY l=some l:=by
 have a4 : ∀(n:Nat) x (row:List bw),l[n]? = some x→row.length=l.length→m1 l n row=some (.inl (((n+1:Nat):Int),row.set n x)):=by
  intro n x row ab an
  obtain ⟨bj,rfl⟩:=List.getElem?_eq_some_iff.1 ab
  have hw:bq ((n:Int)+1)=((n+1:Nat):Int):=by rw [eb (by omega) (by omega)];rfl
  simp only [m1,dn,hw,sK]
  simp [bj,an]
 have he : ∀row:List bw,m1 l l.length row=some (.inr row):=by
  intro row
  simp [m1,dn]
 have I:vD l 0 (List.replicate (len_ bl l).toNat (⟨0,0,0⟩:bw))=some l :=
  z8 l _ (by simp [dn]) a4 he
 unfold pY
 rw [I,if_pos (by rw [dn];omega)]
 simp [dn]
theorem Ee (s:dq)(I:s.bH.length≤1048576)(R:s.dP.length≤1048576):pU s=some (s.bH,s.dP):=by
 simp [pU,EH _ I,Ex _ R]
def hi (P:List (List Int)):al→Prop
 | none=>True
 | some (k,c)=> ∃x,P[k]? = some x∧x.length=c∧c≤1048576
theorem hi.se {P:List (List Int)}{h:al}(cV:hi P h):mO P h=true:=by
 cases h with
 | none=>rfl
 | some p =>
  obtain ⟨k,c⟩:=p
  obtain ⟨x,I,R,-⟩:=cV
  have a3:=dr I
  have bc:P.getD k []=x:=by rw [List.getD_eq_getElem?_getD,I];rfl
  simp only [mO,bc,Bool.and_eq_true,decide_eq_true_eq]
  omega
theorem hi.aW {P:List (List Int)}(Q:List (List Int)){h:al}(cV:hi P h):hi (P++Q) h∧jY (P++Q) h=jY P h:=by
 cases h with
 | none=>exact ⟨trivial,rfl⟩
 | some p =>
  obtain ⟨k,c⟩:=p
  obtain ⟨x,I,R,av⟩:=cV
  have a3:=dr I
  have e:(P++Q)[k]? = some x:=by rw [List.getElem?_append_left a3];exact I
  refine ⟨⟨x,e,R,av⟩,?_⟩
  simp only [jY,List.getD_eq_getElem?_getD,e,I]
theorem hi.new {P Q:List (List Int)}{x:List Int}{n:Nat}(ab:Q[n]? = some x)(aB:x.length≤1048576):hi (P++Q) (some (P.length+n,x.length))∧jY (P++Q) (some (P.length+n,x.length))=x:=by
 have e:(P++Q)[P.length+n]? = some x:=by rw [List.getElem?_append_right (by omega),show P.length+n-P.length=n by omega];exact ab
 refine ⟨⟨x,e,rfl,aB⟩,?_⟩
 simp only [jY,List.getD_eq_getElem?_getD,e,Option.getD_some,List.take_length]
theorem hi.set {P:List (List Int)}{k:Nat}{x y:List Int}(ab:P[k]? = some x)(aS:y.length=x.length){h:al}(cV:hi P h):hi (P.set k y) h:=by
 cases h with
 | none=>trivial
 | some p =>
  obtain ⟨j,c⟩:=p
  obtain ⟨z,I,R,av⟩:=cV
  by_cases aC:k=j
  ·subst aC
   rw [ab] at I
   obtain rfl:=Option.some.inj I
   exact ⟨y,by rw [List.getElem?_set,if_pos rfl,if_pos (dr ab)],by omega,av⟩
  ·exact ⟨z,by rw [List.getElem?_set,if_neg aC];exact I,R,av⟩
def pD (P:List (List Int))(x:ak):Prop:=hi P x.c6.cY∧hi P x.dh
theorem pD.se {P:List (List Int)}{x:ak}(h:pD P x):my P x=true:=by
 simp only [my,h.1.se,h.2.se,Bool.and_self]
theorem Bw (x:Int):(lA [x]).size=1:=rfl
theorem EI {k:Int}(h:k≤1000000000000000000): ∃r,qc k=some r:=by
 unfold qc
 by_cases c:k≤0
 ·exact ⟨_,by rw [if_pos (by simpa using c)]⟩
 ·rw [if_neg (by simpa using c)]
  obtain ⟨r,aQ,bX⟩:=jI (f:=fun w:Int×ByteArray=>oe w.1 w.2) (cX:=fun w=>0≤w.1∧(w.2.size:Int)+w.1≤1000000000000000000) (m:=fun w=>w.1.toNat)
   (fun r=>(r.size:Int)≤1000000000000000000) (by
     rintro ⟨a,o⟩ ⟨I,R⟩
     simp only at I R
     by_cases bJ:0<a
     ·have bc:a.tdiv 10=a / 10:=by rw [Int.tdiv_eq_ediv_of_nonneg I]
      refine .inl ⟨(a / 10,lA [IntKind.wrap .u8 (bq ((48:Int)+(a.tmod (10:Int))))]++o),?_,⟨by simp only;omega,?_⟩,by simp only;omega⟩
      ·unfold oe
       simp only
       rw [if_pos (by simpa using bJ),Bw,if_pos (by omega),bc,eb (by omega) (by omega)]
      ·simp only [ByteArray.size_append,Bw]
       omega
     ·exact .inr ⟨o,by simp [oe,bJ],by omega⟩) (k,⟨#[]⟩) ⟨by simp only;omega,by
      have:(⟨#[]⟩:ByteArray).size=0:=rfl
      simp only [this];omega⟩
  unfold vX
  rw [aQ]
  refine ⟨_,by
   simp only [Option.bind_eq_bind,Option.bind_some]
   rw [if_pos ?_]
   have:(⟨#[109]⟩:ByteArray).size=1:=rfl
   rw [this]
   omega⟩
theorem DY {k:Int}{l:List bh}(h0:0≤k)(h:k+4*l.length≤1000000000000000000):
 ∃bO cQ,pW k l=some (bO,cQ)∧cQ.length=l.length∧0≤bO∧bO≤k+4*l.length:=by
 obtain ⟨r,aQ,bX⟩:=jI (f:=fun w:Int×Int×(List bh)=>m0 w.1 w.2.1 w.2.2)
  (cX:=fun w=> ∃n:Nat,w.2.1=n∧n≤l.length∧w.2.2.length=l.length∧0≤w.1∧w.1≤k+4*n)
  (m:=fun w=>l.length-w.2.1.toNat) (fun r=>r.2.length=l.length∧0≤r.1∧r.1≤k+4*l.length) (by
    rintro ⟨a,i,row⟩ ⟨n,ar,aE,br,de,ee⟩
    simp only at ar br de ee
    subst ar
    by_cases bj:n=l.length
    ·subst bj
     refine .inr ⟨(a,row),by simp [m0,br],br,de,ee⟩
    ·have kR:n<row.length:=by omega
     obtain ⟨t,bu⟩:=EI (k:=a) (by omega)
     have hw:bq ((n:Int)+1)=((n+1:Nat):Int):=by rw [eb (by omega) (by omega)];rfl
     have st:bq (a+1)=a+1:=eb (by omega) (by omega)
     have pL:bq (a+1+1)=a+1+1:=eb (by omega) (by omega)
     have pM:bq (a+1+1+1)=a+1+1+1:=eb (by omega) (by omega)
     have CN:bq (a+1+1+1+1)=a+1+1+1+1:=eb (by omega) (by omega)
     have key : ∃cc,m0 a n row=some (.inl (a+1+1+1+1,((n+1:Nat):Int),cc))∧cc.length=row.length:=by
      unfold m0
      rw [if_pos (by simpa using kR),bu,st,pL,pM,CN,hw]
      simp only [Option.bind_eq_bind,Option.bind_some,Nat.zero_add,Int.toNat_natCast]
      rw [if_pos (by omega),List.getElem?_eq_getElem kR]
      simp only [Option.bind_some,List.getElem?_set_self kR,List.length_set,List.getElem?_set_self (show n<(row.set n _).length by simpa using kR),List.set_set]
      exact ⟨_,rfl,by simp⟩
     obtain ⟨cc,I,R⟩:=key
     refine .inl ⟨_,I,⟨n+1,rfl,by omega,by simp only;omega,by simp only;omega,by simp only;omega⟩,by simp;omega⟩) (k,0,l) ⟨0,rfl,by omega,rfl,h0,by simp⟩
 obtain ⟨bO,cQ⟩:=r
 exact ⟨bO,cQ,by unfold pW vA;rw [aQ];rfl,bX⟩
theorem DU {k:Int}{l:List bw}(h0:0≤k)(h:k+3*l.length≤1000000000000000000):
 ∃bO cQ,pV k l=some (bO,cQ)∧cQ.length=l.length∧0≤bO∧bO≤k+3*l.length:=by
 obtain ⟨r,aQ,bX⟩:=jI (f:=fun w:Int×Int×(List bw)=>mZ w.1 w.2.1 w.2.2)
  (cX:=fun w=> ∃n:Nat,w.2.1=n∧n≤l.length∧w.2.2.length=l.length∧0≤w.1∧w.1≤k+3*n)
  (m:=fun w=>l.length-w.2.1.toNat) (fun r=>r.2.length=l.length∧0≤r.1∧r.1≤k+3*l.length) (by
    rintro ⟨a,i,row⟩ ⟨n,ar,aE,br,de,ee⟩
    simp only at ar br de ee
    subst ar
    by_cases bj:n=l.length
    ·subst bj
     refine .inr ⟨(a,row),by simp [mZ,br],br,de,ee⟩
    ·have kR:n<row.length:=by omega
     have hw:bq ((n:Int)+1)=((n+1:Nat):Int):=by rw [eb (by omega) (by omega)];rfl
     have st:bq (a+1)=a+1:=eb (by omega) (by omega)
     have pL:bq (a+1+1)=a+1+1:=eb (by omega) (by omega)
     have pM:bq (a+1+1+1)=a+1+1+1:=eb (by omega) (by omega)
     have key : ∃cc,mZ a n row=some (.inl (a+1+1+1,((n+1:Nat):Int),cc))∧cc.length=row.length:=by
      unfold mZ
      rw [if_pos (by simpa using kR),st,pL,pM,hw]
      simp only [Nat.zero_add,Int.toNat_natCast]
      rw [if_pos (by omega),List.getElem?_eq_getElem kR]
      simp only [Option.bind_eq_bind,Option.bind_some,List.getElem?_set_self kR,List.length_set,List.getElem?_set_self (show n<(row.set n _).length by simpa using kR),List.set_set]
      exact ⟨_,rfl,by simp⟩
     obtain ⟨cc,I,R⟩:=key
     refine .inl ⟨_,I,⟨n+1,rfl,by omega,by simp only;omega,by simp only;omega,by simp only;omega⟩,by simp;omega⟩) (k,0,l) ⟨0,rfl,by omega,rfl,h0,by simp⟩
 obtain ⟨bO,cQ⟩:=r
 exact ⟨bO,cQ,by unfold pV vp;rw [aQ];rfl,bX⟩
theorem DE {k:Int}{l:List bh}{m:List bw}(h0:0≤k)(h:k+4*l.length+3*m.length≤1000000000000000000):
 ∃bO cQ cE,oj k l m=some (bO,cQ,cE)∧cQ.length=l.length∧cE.length=m.length∧0≤bO∧bO≤k+4*l.length+3*m.length:=by
 obtain ⟨h6,cQ,ar,aE,br,de⟩:=DY (l:=l) h0 (by omega)
 obtain ⟨hk,cE,f1,f2,f3,f4⟩:=DU (k:=h6) (l:=m) br (by omega)
 refine ⟨hk,cQ,cE,?_,aE,f2,f3,by omega⟩
 unfold oj
 rw [ar]
 simp only [Option.bind_eq_bind,Option.bind_some]
 rw [f1]
 first
  | rfl
  | (rw [if_pos aE.symm];simp only [Option.bind_some];rw [if_pos f2.symm])
def marks (k:Int)(n:Nat):List Int:=(List.range n).map fun i:Nat=>k+(i:Int)
theorem qE (k:Int)(n:Nat):(marks k n).length=n:=by simp [marks]
theorem FX {k:Int}{n i:Nat}(h:i<n):(marks k n)[i]? = some (k+i):=by
 unfold marks
 rw [List.getElem?_map,List.getElem?_range h]
 rfl
theorem FG {k:Int}{l:List Int}{i:Nat}(h:i<l.length):(marks k i++l.drop i).set i (k+i)=marks k (i+1)++l.drop (i+1):=by
 unfold marks
 rw [List.range_succ,List.map_append,List.set_append_right _ _ (by simp)]
 rw [show i-(List.map (fun i:Nat=>k+(i:Int)) (List.range i)).length=0 by simp,List.drop_eq_getElem_cons h,List.set_cons_zero]
 simp
theorem EJ {k:Int}{l:List Int}(h0:0≤k)(h:k+l.length≤1000000000000000000):mm k 0 l.length l=some (k+l.length,marks k l.length):=by
 have:=wP (f:=fun w:Int×Int×(List Int)=>n8 0 l.length w.1 w.2.1 w.2.2) (s:=fun n=>(k+(n:Int),(n:Int),marks k n++l.drop n)) (r:=(k+(l.length:Int),marks k l.length)) l.length 0 (fun i _ aA=> ?_) ?_
 ·unfold mm vN
  have e:(k+((0:Nat):Int),((0:Nat):Int),marks k 0++l.drop 0)=(k,0,l):=by simp [marks]
  rw [e] at this
  rw [this]
  rfl
 ·have gE:i<l.length:=by omega
  unfold n8
  simp only
  rw [if_pos (by simpa using gE),if_pos (by omega),Nat.zero_add,Int.toNat_natCast,if_pos (by simp [qE];omega),FG gE,eb (by omega) (by omega),eb (by omega) (by omega)]
  simp only [Int.natCast_add,Int.add_assoc]
  rfl
 ·simp [n8]
theorem EW (k:Int):mn [] k=some k:=by
 have h:sE [] k=some ():=by
  unfold sE
  rw [iter]
  simp [sz,dn]
 simp [mn,h]
theorem za {k:Int}{n:Nat}(h0:0≤k)(h:k+n≤1000000000000000000):oC (marks k n) k=some (k+n):=by
 have:=wP (f:=fun w:Int×Int=>og (marks k n) w.1 w.2) (s:=fun i=>(k+(i:Int),(i:Int))) (r:= .inl (k+(n:Int))) n 0 (fun i _ aA=> ?_) ?_
 ·unfold oC vZ
  have e:(k+((0:Nat):Int),((0:Nat):Int))=(k,0):=by simp
  rw [e] at this
  rw [this]
  rfl
 ·have gE:i<n:=by omega
  unfold og
  simp only [dn,qE]
  rw [if_pos (by simpa using gE),if_pos (by omega),Int.toNat_natCast,FX gE,eb (by omega) (by omega),eb (by omega) (by omega)]
  simp [Int.add_assoc]
 ·simp [og,dn,qE]
theorem AY {l:List Int}(h:l.length≤1048576):nn l=some (if l=[] then .inl () else .inr l):=by
 unfold nn
 rw [if_pos (by omega)]
 cases l with
 | nil=>rfl
 | cons x l=>rfl
theorem wF {n:Int}(h:0≤n):L n=[]↔n=0:=by
 rw [← Ij h]
 constructor
 ·intro e;rw [e];rfl
 ·intro e;exact List.eq_nil_of_length_eq_zero (by omega)
def hlen:al→Nat
 | none=>0
 | some (_,c)=>c
def fA:al→List Nat
 | none=>[]
 | some (q,_)=>[q]
def kA (x:ak):List Nat:=fA x.c6.cY++fA x.dh
def kB (P:List (List Int)):al→Int→List (List Int)
 | none,_=>P
 | some (q,c),k=>P.set q (marks k c)
structure hR (rw:List ak) (P:List (List Int)):Prop where
 ok : ∀(i:Nat) x,rw[i]? = some x→pD P x
 lt : ∀(i:Nat) x,rw[i]? = some x→ ∀a∈kA x,a<P.length
 CP : ∀(i:Nat) x,rw[i]? = some x→ ∀a∈fA x.c6.cY,a ∉ fA x.dh
 CQ : ∀(i j:Nat) x y,rw[i]? = some x→rw[j]? = some y→i<j→ ∀a∈kA x,a ∉ kA y
theorem qS {P:List (List Int)}{h:al}{k:Int}{q:Nat}(aL:q ∉ fA h):(kB P h k)[q]? = P[q]? := by
 cases h with
 | none=>rfl
 | some p =>
  obtain ⟨a,c⟩:=p
  simp only [fA,List.mem_singleton] at aL
  simp only [kB]
  rw [List.getElem?_set,if_neg (fun e=>aL e.symm)]
theorem Aw {P:List (List Int)}{q c:Nat}{k:Int}(h:q<P.length):(kB P (some (q,c)) k)[q]? = some (marks k c):=by
 simp only [kB]
 rw [List.getElem?_set,if_pos rfl,if_pos h]
theorem wY {P:List (List Int)}{h:al}{k:Int}:(kB P h k).length=P.length:=by
 cases h with
 | none=>rfl
 | some p=>exact List.length_set ..
theorem tx {P:List (List Int)}{h bG:al}{k:Int}(g:hi P h)(cW:hi P bG):hi (kB P h k) bG:=by
 cases h with
 | none=>exact cW
 | some p =>
  obtain ⟨q,c⟩:=p
  obtain ⟨x,I,R,av⟩:=g
  exact cW.set I (by rw [qE,R])
theorem Ae {P:List (List Int)}{h:al}{k:Int}(e:∀q c,h=some (q,c)→P[q]? = some (marks k c)):jY P h=marks k (hlen h):=by
 cases h with
 | none=>rfl
 | some p =>
  obtain ⟨q,c⟩:=p
  have:=e q c rfl
  simp only [jY,hlen,List.getD_eq_getElem?_getD,this,Option.getD_some]
  exact List.take_of_length_le (Nat.le_of_eq (qE ..))
def jZ (s:Int×List (List Int))(x:ak):Int×List (List Int):=(s.1+1+hlen x.c6.cY+hlen x.dh,kB (kB s.2 x.c6.cY (s.1+1)) x.dh (s.1+1+hlen x.c6.cY))
def d6 (rw:List ak)(s:Int×List (List Int)):Nat→Int×List (List Int)
 | 0=>s
 | i+1=>match rw[i]? with
  | some x=>jZ (d6 rw s i) x
  | none=>d6 rw s i
theorem qK {rw:List ak}{s:Int×List (List Int)}{i:Nat}{x:ak}(h:rw[i]? = some x):d6 rw s (i+1)=jZ (d6 rw s i) x:=by
 rw [d6,h]
def jA (rw:List ak)(s:Int×List (List Int))(i:Nat):List ak:=rw.mapIdx fun j x=>if j<i then ⟨⟨(d6 rw s j).1.tmod 3 == 0,x.c6.cY⟩,x.dh⟩ else x
theorem mz {rw:List ak}{s:Int×List (List Int)}{i j:Nat}{x:ak}(h:rw[j]? = some x):(jA rw s i)[j]? = some (if j<i then ⟨⟨(d6 rw s j).1.tmod 3 == 0,x.c6.cY⟩,x.dh⟩ else x):=by
 unfold jA;rw [List.getElem?_mapIdx,h];rfl
theorem kK {rw:List ak}{s:Int×List (List Int)}{i:Nat}:(jA rw s i).length=rw.length:=by unfold jA;rw [List.length_mapIdx]
theorem G5 {rw:List ak}{s:Int×List (List Int)}{i:Nat}{x:ak}(h:rw[i]? = some x):(jA rw s i).set i ⟨⟨(d6 rw s i).1.tmod 3 == 0,x.c6.cY⟩,x.dh⟩=jA rw s (i+1):=by
 apply List.ext_getElem?
 intro j
 rw [List.getElem?_set]
 by_cases c:i=j
 ·subst c
  rw [if_pos rfl,if_pos (by rw [kK];exact dr h),mz h,if_pos (by omega)]
 ·rw [if_neg c]
  by_cases aC:j<rw.length
  ·have ab:=List.getElem?_eq_getElem aC
   rw [mz ab,mz ab]
   by_cases d:j<i
   ·rw [if_pos d,if_pos (by omega)]
   ·rw [if_neg d,if_neg (by omega)]
  ·rw [List.getElem?_eq_none (by rw [kK];omega),List.getElem?_eq_none (by rw [kK];omega)]
theorem GB {rw:List ak}{s:Int×List (List Int)}:jA rw s 0=rw:=by
 apply List.ext_getElem?
 intro j
 by_cases aC:j<rw.length
 ·have ab:=List.getElem?_eq_getElem aC
  rw [mz ab,if_neg (by omega),ab]
 ·rw [List.getElem?_eq_none (by rw [kK];omega),List.getElem?_eq_none (by omega)]
theorem qT {P:List (List Int)}{h:al}(g:hi P h):hlen h≤1048576:=by
 cases h with
 | none=>exact Nat.zero_le _
 | some p=>obtain ⟨q,c⟩:=p;obtain ⟨x,I,R,av⟩:=g;exact av
theorem ty {rw:List ak}{P:List (List Int)}(o:hR rw P){k:Int}(h0:0≤k): ∀n,n≤rw.length→0≤(d6 rw (k,P) n).1∧(d6 rw (k,P) n).1≤k+2097153*n∧(d6 rw (k,P) n).2.length=P.length∧ ∀h,hi P h→hi (d6 rw (k,P) n).2 h:=by
 intro n
 induction n with
 | zero=>intro _;exact ⟨h0,by simp only [d6];omega,rfl,fun h g=>g⟩
 | succ n ih =>
  intro bj
  obtain ⟨dI,ed,c1,dy⟩:=ih (by omega)
  have ab:=List.getElem?_eq_getElem (show n<rw.length by omega)
  obtain ⟨g1,g2⟩:=o.ok n _ ab
  rw [qK ab]
  have j0:=qT g1
  have lJ:=qT g2
  refine ⟨by simp only [jZ];omega,by simp only [jZ];omega,by simp only [jZ,wY,c1],fun h g=> ?_⟩
  simp only [jZ]
  exact tx (tx (dy _ g1) (dy _ g2)) (tx (dy _ g1) (dy _ g))
theorem wZ {P:List (List Int)}{k:Int}{h:al}(cV:hi P h)(h0:0≤k)(a3:k≤500000000000000000):
 (h=none∧mn [] k=some k)∨ ∃j c x,h=some (j,c)∧P[j]? = some x∧mm k 0 c x=some (k+(c:Int),marks k c):=by
 cases h with
 | none=>exact .inl ⟨rfl,EW k⟩
 | some p =>
  obtain ⟨j,c⟩:=p
  obtain ⟨x,I,R,av⟩:=cV
  subst R
  exact .inr ⟨j,x.length,x,rfl,I,EJ h0 (by omega)⟩
theorem EK {rw:List ak}{P:List (List Int)}(o:hR rw P){k:Int}(h0:0≤k)(h:k+2097153*rw.length≤400000000000000000):
 p2 k rw P=some ((d6 rw (k,P) rw.length).1,jA rw (k,P) rw.length,(d6 rw (k,P) rw.length).2):=by
 obtain ⟨_,e,-⟩:=s0 (f:=fun w:Int×Int×(List ak)×(List (List Int))=>n9 w.1 w.2.1 w.2.2.1 w.2.2.2)
  (fun (i:Nat) (_:Unit)=>((d6 rw (k,P) i).1,(i:Int),jA rw (k,P) i,(d6 rw (k,P) i).2)) rw.length (fun _ _=>True) (fun _=>((d6 rw (k,P) rw.length).1,jA rw (k,P) rw.length,(d6 rw (k,P) rw.length).2))
  (fun i aA _ _=>by
    refine ⟨(),?_,trivial⟩
    obtain ⟨dI,ed,c1,dy⟩:=ty o h0 i (by omega)
    have ab:=List.getElem?_eq_getElem aA
    generalize rw[i]=x at ab
    obtain ⟨g1,g2⟩:=o.ok i x ab
    have j0:=qT g1
    have h7:=dy _ g1
    have iE:=dy _ g2
    have an:(jA rw (k,P) i)[i]? = some x:=by rw [mz ab,if_neg (by omega)]
    have hw:bq ((d6 rw (k,P) i).1+1)=(d6 rw (k,P) i).1+1:=eb (by omega) (by omega)
    have bR:=G5 (s:=(k,P)) ab
    have mF:(jA rw (k,P) (i+1))[i]? = some ⟨⟨(d6 rw (k,P) i).1.tmod 3 == 0,x.c6.cY⟩,x.dh⟩:=by rw [mz ab,if_pos (by omega)]
    rw [qK ab]
    generalize d6 rw (k,P) i=s at *
    obtain ⟨bO,Q⟩:=s
    simp only at dI ed c1 dy h7 iE hw mF bR
    simp only
    unfold n9
    rw [hw,j1 (by omega)]
    refine so (by rw [kK];omega) (jG (by rw [kK];omega) (dM (x:=x) (by rw [Int.toNat_natCast,Nat.zero_add];exact an) ?_))
    rw [Int.toNat_natCast,Nat.zero_add,bR]
    refine dM mF ?_
    simp only
    rcases wZ h7 (k:=bO+1) (by omega) (by omega) with ⟨ar,cq⟩|⟨j,c,y,ar,cq,dJ⟩
    ·refine yn ar (dM cq ?_)
     rcases wZ iE (k:=bO+1) (by omega) (by omega) with ⟨aE,aQ⟩|⟨fD,bV,h5,aE,aQ,bX⟩
     ·exact yn aE (dM aQ (by simp only [jZ,ar,aE,hlen,kB,Int.add_zero,Int.ofNat_zero,Int.natCast_zero]))
     ·exact yo aE (dM aQ (dM bX (by simp only [jZ,ar,aE,hlen,kB,Int.add_zero,Int.ofNat_zero,Int.natCast_zero])))
    ·refine yo ar (dM cq (dM dJ ?_))
     have mj:=tx (k:=bO+1) h7 iE
     rw [ar] at mj j0
     simp only [kB] at mj
     simp only [hlen] at j0
     rcases wZ mj (k:=bO+1+(c:Int)) (by omega) (by omega) with ⟨aE,aQ⟩|⟨fD,bV,h5,aE,aQ,bX⟩
     ·exact yn aE (dM aQ (by simp only [jZ,ar,aE,hlen,kB,Int.add_zero,Int.ofNat_zero,Int.natCast_zero]))
     ·exact yo aE (dM aQ (dM bX (by simp only [jZ,ar,aE,hlen,kB]))))
  (fun _ _=>by
    simp only
    unfold n9
    exact kZ (by rw [kK];omega) rfl) () trivial
 simp only [GB,d6] at e
 unfold p2 vP
 exact dM e rfl
theorem GC {rw:List ak}{P:List (List Int)}(o:hR rw P){k:Int}{i:Nat}{x:ak}(ab:rw[i]? = some x): ∀n,i<n→n≤rw.length →
 (∀q c,x.c6.cY=some (q,c)→(d6 rw (k,P) n).2[q]? = some (marks ((d6 rw (k,P) i).1+1) c))∧(∀q c,x.dh=some (q,c)→(d6 rw (k,P) n).2[q]? = some (marks ((d6 rw (k,P) i).1+1+hlen x.c6.cY) c)):=by
 intro n
 induction n with
 | zero=>intro h;omega
 | succ n ih =>
  intro I R
  by_cases c:i=n
  ·subst c
   rw [qK ab]
   have aB:(d6 rw (k,P) i).2.length=P.length:=by
    have key : ∀m,(d6 rw (k,P) m).2.length=P.length:=by
     intro m
     induction m with
     | zero=>rfl
     | succ m ih =>
      rw [d6]
      split
      ·simp only [jZ,wY,ih]
      ·exact ih
    exact key i
   refine ⟨fun q c e=> ?_,fun q c e=> ?_⟩
   ·have aL:q∈fA x.c6.cY:=by rw [e];simp [fA]
    simp only [jZ]
    rw [qS (o.CP i x ab q aL),e,Aw (by rw [aB];exact o.lt i x ab q (List.mem_append_left _ aL))]
   ·have aL:q∈fA x.dh:=by rw [e];simp [fA]
    simp only [jZ]
    rw [e,Aw (by rw [wY,aB];exact o.lt i x ab q (List.mem_append_right _ aL))]
  ·obtain ⟨ar,aE⟩:=ih (by omega) (by omega)
   have aS:=List.getElem?_eq_getElem (show n<rw.length by omega)
   have bc:=o.CQ i n x _ ab aS (by omega)
   rw [qK aS]
   refine ⟨fun q c e=> ?_,fun q c e=> ?_⟩
   ·have aL:q∈kA x:=List.mem_append_left _ (by rw [e];simp [fA])
    have:=bc q aL
    unfold kA at this
    rw [List.mem_append,not_or] at this
    simp only [jZ]
    rw [qS this.2,qS this.1];exact ar q c e
   ·have aL:q∈kA x:=List.mem_append_right _ (by rw [e];simp [fA])
    have:=bc q aL
    unfold kA at this
    rw [List.mem_append,not_or] at this
    simp only [jZ]
    rw [qS this.2,qS this.1];exact aE q c e
theorem zv {rw:List ak}{P:List (List Int)}(o:hR rw P){k:Int}(h0:0≤k)(h:k+2097153*rw.length≤400000000000000000):
 m8 ((jA rw (k,P) rw.length).map (fQ (d6 rw (k,P) rw.length).2)) k=some (d6 rw (k,P) rw.length).1:=by
 obtain ⟨_,e,-⟩:=s0 (f:=fun w:Int×Int=>oh ((jA rw (k,P) rw.length).map (fQ (d6 rw (k,P) rw.length).2)) w.1 w.2)
  (fun (i:Nat) (_:Unit)=>((d6 rw (k,P) i).1,(i:Int))) rw.length (fun _ _=>True) (fun _=>(.inl (d6 rw (k,P) rw.length).1:Int⊕Unit))
  (fun i aA _ _=>by
    refine ⟨(),?_,trivial⟩
    obtain ⟨dI,ed,-,-⟩:=ty o h0 i (by omega)
    have ab:=List.getElem?_eq_getElem aA
    generalize rw[i]=x at ab
    obtain ⟨g1,g2⟩:=o.ok i x ab
    have j0:=qT g1
    have lJ:=qT g2
    obtain ⟨h6,hk⟩:=GC o (k:=k) ab rw.length (by omega) (Nat.le_refl _)
    have v1:=Ae h6
    have v2:=Ae hk
    rw [qK ab]
    have an:((jA rw (k,P) rw.length).map (fQ (d6 rw (k,P) rw.length).2))[i]? = some ⟨⟨(d6 rw (k,P) i).1.tmod 3 == 0,marks ((d6 rw (k,P) i).1+1) (hlen x.c6.cY)⟩,marks ((d6 rw (k,P) i).1+1+hlen x.c6.cY) (hlen x.dh)⟩:=by
     rw [List.getElem?_map,mz ab,if_pos aA]
     simp only [Option.map_some,fQ,v1,v2]
    generalize d6 rw (k,P) i=s at *
    obtain ⟨bO,Q⟩:=s
    simp only at dI ed an
    simp only
    unfold oh
    rw [dn,List.length_map,kK,j1 (by omega),eb (x:=bO+1) (by omega) (by omega)]
    exact so (by omega) (jG (by omega) (dM (gt rfl an) (n3 (by simp) (dM (za (by omega) (by omega)) (kZ (by omega) (dM (za (by omega) (by omega)) (kZ (by omega) rfl))))))))
  (fun _ _=>by
    simp only
    unfold oh
    rw [dn,List.length_map,kK]
    exact kZ (by omega) rfl) () trivial
 simp only [d6] at e
 unfold m8 v5
 exact dM e rfl
theorem Hv {rw:List ak}{P:List (List Int)}(o:hR rw P){k:Int}(h0:0≤k):(jA rw (k,P) rw.length).all (my (d6 rw (k,P) rw.length).2)=true:=by
 rw [List.all_eq_true]
 intro y aS
 obtain ⟨i,aA⟩:=List.getElem?_of_mem aS
 have aB:=dr aA
 rw [kK] at aB
 have ab:=List.getElem?_eq_getElem aB
 rw [mz ab,if_pos aB] at aA
 obtain rfl:=Option.some.inj aA
 obtain ⟨g1,g2⟩:=o.ok i _ ab
 obtain ⟨-,-,-,dy⟩:=ty o h0 rw.length (Nat.le_refl _)
 exact pD.se ⟨dy _ g1,dy _ g2⟩
theorem hR.all {rw:List ak}{P:List (List Int)}(o:hR rw P):rw.all (my P)=true:=by
 rw [List.all_eq_true]
 intro y aS
 obtain ⟨i,aA⟩:=List.getElem?_of_mem aS
 exact (o.ok i y aA).se
theorem hR.nil (P:List (List Int)):hR [] P:=⟨fun i x h=>by simp at h,fun i x h=>by simp at h,fun i x h=>by simp at h,fun i j x y h=>by simp at h⟩
theorem hR.aW {rw:List ak}{P Q:List (List Int)}(o:hR rw P){x:ak}(I:pD (P++Q) x)(R:∀a∈kA x,P.length≤a∧a<(P++Q).length)(av:∀a∈fA x.c6.cY,a ∉ fA x.dh):
 hR (rw++[x]) (P++Q)∧rw.map (fQ (P++Q))=rw.map (fQ P):=by
 have get : ∀ {i:Nat} {y:ak},(rw++[x])[i]? = some y→rw[i]? = some y∨(i=rw.length∧y=x):=fun {i y} h=>by
  by_cases c:i<rw.length
  ·rw [List.getElem?_append_left c] at h;exact .inl h
  ·rw [List.getElem?_append_right (by omega)] at h
   have aB:=dr h
   simp at aB
   have aA:i=rw.length:=by omega
   rw [aA,Nat.sub_self] at h
   exact .inr ⟨aA,by simpa using h.symm⟩
 refine ⟨⟨fun i y h=> ?_,fun i y h=> ?_,fun i y h=> ?_,fun i j y z aS bY j8=> ?_⟩,?_⟩
 ·rcases get h with g|⟨-,rfl⟩
  ·obtain ⟨g1,g2⟩:=o.ok i y g
   exact ⟨(g1.aW Q).1,(g2.aW Q).1⟩
  ·exact I
 ·rcases get h with g|⟨-,rfl⟩
  ·intro a bJ
   have:=o.lt i y g a bJ
   rw [List.length_append];omega
  ·exact fun a bJ=>(R a bJ).2
 ·rcases get h with g|⟨-,rfl⟩
  ·exact o.CP i y g
  ·exact av
 ·rcases get aS with g|⟨aA,rfl⟩
  ·rcases get bY with cW|⟨-,rfl⟩
   ·exact o.CQ i j y z g cW j8
   ·intro a bJ a4
    have:=o.lt i y g a bJ
    have:=(R a a4).1
    omega
  ·rcases get bY with cW|⟨aC,-⟩
   ·have:=dr cW;omega
   ·omega
 ·refine List.map_congr_left fun y aS=> ?_
  obtain ⟨i,aA⟩:=List.getElem?_of_mem aS
  obtain ⟨g1,g2⟩:=o.ok i y aA
  simp only [fQ,(g1.aW Q).2,(g2.aW Q).2]
abbrev su:=(Bool)⊕((Bool×(List Int))⊕((Bool×(List Int))⊕(Bool×(List Int)×(List Int))))
def hC (b:Nat):su→ak
 | .inl a=>⟨⟨a,none⟩,none⟩
 | .inr (.inl a)=>⟨⟨a.1,none⟩,some (b,a.2.length)⟩
 | .inr (.inr (.inl a))=>⟨⟨a.1,some (b,a.2.length)⟩,none⟩
 | .inr (.inr (.inr a))=>⟨⟨a.1,some (b,a.2.1.length)⟩,some (b+1,a.2.2.length)⟩
def g5:su→List (List Int)
 | .inl _=>[]
 | .inr (.inl a)=>[a.2]
 | .inr (.inr (.inl a))=>[a.2]
 | .inr (.inr (.inr a))=>[a.2.1,a.2.2]
def nV:su→cD
 | .inl a=>⟨⟨a,[]⟩,[]⟩
 | .inr (.inl a)=>⟨⟨a.1,[]⟩,a.2⟩
 | .inr (.inr (.inl a))=>⟨⟨a.1,a.2⟩,[]⟩
 | .inr (.inr (.inr a))=>⟨⟨a.1,a.2.1⟩,a.2.2⟩
theorem hR.add {rw:List ak}{P:List (List Int)}(o:hR rw P)(r:su)(aB:∀l∈g5 r,l.length≤1048576):
 hR (rw++[hC P.length r]) (P++g5 r)∧(rw++[hC P.length r]).map (fQ (P++g5 r))=rw.map (fQ P)++[nV r]:=by
 have jD : ∀ {Q:List (List Int)} {x:List Int},Q[0]? = some x→x.length≤1048576→hi (P++Q) (some (P.length,x.length))∧jY (P++Q) (some (P.length,x.length))=x:=fun h R=>hi.new (n:=0) h R
 have d9 : ∀ {Q:List (List Int)} {x:List Int},Q[1]? = some x→x.length≤1048576→hi (P++Q) (some (P.length+1,x.length))∧jY (P++Q) (some (P.length+1,x.length))=x:=fun h R=>hi.new (n:=1) h R
 have key:pD (P++g5 r) (hC P.length r)∧(∀a∈kA (hC P.length r),P.length≤a∧a<(P++g5 r).length)∧(∀a∈fA (hC P.length r).c6.cY,a ∉ fA (hC P.length r).dh)∧fQ (P++g5 r) (hC P.length r)=nV r:=by
  rcases r with a|a|a|a
  ·exact ⟨⟨trivial,trivial⟩,by simp [kA,fA,hC],by simp [fA,hC],rfl⟩
  ·obtain ⟨g1,g2⟩:=jD (Q:=[a.2]) (x:=a.2) rfl (aB a.2 (by simp [g5]))
   exact ⟨⟨trivial,g1⟩,by simp [kA,fA,hC,g5],by simp [fA,hC],by simp only [fQ,hC,g5,nV,g2];rfl⟩
  ·obtain ⟨g1,g2⟩:=jD (Q:=[a.2]) (x:=a.2) rfl (aB a.2 (by simp [g5]))
   exact ⟨⟨g1,trivial⟩,by simp [kA,fA,hC,g5],by simp [fA,hC],by simp only [fQ,hC,g5,nV,g2];rfl⟩
  ·obtain ⟨g1,g2⟩:=jD (Q:=[a.2.1,a.2.2]) (x:=a.2.1) rfl (aB a.2.1 (by simp [g5]))
   obtain ⟨g3,g4⟩:=d9 (Q:=[a.2.1,a.2.2]) (x:=a.2.2) rfl (aB a.2.2 (by simp [g5]))
   exact ⟨⟨g1,g3⟩,by simp [kA,fA,hC,g5],by simp [fA,hC],by simp only [fQ,hC,g5,nV,g2,g4]⟩
 obtain ⟨h6,hk,mX,JA⟩:=key
 obtain ⟨dI,ed⟩:=o.aW (Q:=g5 r) h6 hk mX
 exact ⟨dI,by rw [List.map_append,ed,List.map_singleton,JA]⟩
noncomputable def lI (n:Int):su:=if n=0 then .inr (.inl (false,L 1)) else .inr (.inr (.inr (decide (n<0),L n.natAbs,L 1)))
theorem AZ (n:Int):nV (lI n)=mk (n,1):=by
 unfold lI mk ks
 by_cases c:n=0
 ·rw [if_pos c]
  subst c
  simp only [nV]
  rw [show L ((0:Int).natAbs:Int)=[] from xc.2 (by simp)];rfl
 ·rw [if_neg c];rfl
theorem A0 {n:Int}(h:ik n): ∀l∈g5 (lI n),l.length≤1048576:=by
 have bo:=tv h
 have I:=bo.tX
 have R:=bo.tY
 simp only at I R
 intro l aB
 unfold lI at aB
 by_cases c:n=0
 ·rw [if_pos c] at aB
  simp [g5] at aB;subst aB;omega
 ·rw [if_neg c] at aB
  simp [g5] at aB
  rcases aB with rfl|rfl<;>omega
theorem GD {p:Int×Int}(ag:Fr p):qk (BP (some p))=some (if p.1=0 then .inr (.inl (false,L p.2)) else .inr (.inr (.inr (decide (p.1<0),L p.1.natAbs,L p.2)))):=by
 have I:=ag.tX
 have R:=ag.tY
 have av : ¬L p.2=[]:=fun e=>by have:=(wF (by have:=ag.pos;omega)).1 e;have:=ag.pos;omega
 have bo:pT (ks p.1)=some (if p.1=0 then .inl false else .inr (decide (p.1<0),L p.1.natAbs)):=by
  unfold pT
  have e:(ks p.1).cY=L p.1.natAbs:=rfl
  rw [e,dn]
  refine kZ (by omega) (dM (AY (by omega)) ?_)
  by_cases c:p.1=0
  ·have bV:L (p.1.natAbs:Int)=[]:=(wF (by omega)).2 (by omega)
   have aE:(ks p.1).jT=false:=by
    show decide (p.1<0)=false
    exact decide_eq_false (by omega)
   rw [if_pos bV,if_pos c]
   simp only [aE]
  ·have bV : ¬L (p.1.natAbs:Int)=[]:=fun e=>by have:=(wF (by omega)).1 e;omega
   rw [if_neg bV,if_neg c]
   rfl
 unfold qk BP
 simp only [Option.map_some,Option.elim_some]
 have ar:(sd p).tT=ks p.1:=rfl
 have aE:(sd p).tU=L p.2:=rfl
 rw [ar,aE]
 refine dM bo ?_
 rw [AY (by omega),if_neg av]
 by_cases c:p.1=0
 ·rw [if_pos c,if_pos c];rfl
 ·rw [if_neg c,if_neg c];rfl
theorem zR {n:Int}(h:ik n):lQ n=some (lI n):=by
 unfold lQ
 refine dM (GA h) (dM (GD (tv h)) ?_)
 unfold lI
 by_cases c:n=0
 ·rw [if_pos c]
 ·rw [if_neg c]
def kC (df:List bh):Nat→List cD
 | 0=>[]
 | n+1=>kC df n++(match df[n]? with
  | some x=>[mk (x.dK,1),mk (x.dx,1)]
  | none=>[])
theorem w0 (df:List bh): ∀n,(kC df n).length≤2*n
 | 0=>by simp [kC]
 | n+1=>by
  have:=w0 df n
  rw [kC,List.length_append]
  split<;>simp<;>omega
theorem Fg (df:List bh)(N:Int)(n:Nat)(bj:n<df.length)(fN:N=df.length)(bM:df.length≤6)(ab:ik df[n].dK)(aS:ik df[n].dx)(iz:List ak)(P:List (List Int))(o:hR iz P)(aB:iz.length≤2*n):
 ∃pE sv,m3 df N n iz P=some (.inl (((n+1:Nat):Int),pE,sv))∧hR pE sv∧pE.length≤2*(n+1)∧pE.map (fQ sv)=iz.map (fQ P)++[mk (df[n].dK,1),mk (df[n].dx,1)]:=by
 have cS:=List.getElem?_eq_getElem bj
 obtain ⟨dI,ed⟩:=o.add (lI df[n].dK) (A0 ab)
 obtain ⟨h7,iE⟩:=dI.add (lI df[n].dx) (A0 aS)
 rw [ed,AZ,AZ] at iE
 refine ⟨_,_,?_,h7,by simp only [List.length_append,List.length_singleton];omega,by rw [iE,List.append_assoc];rfl⟩
 unfold m3
 refine so (by omega) (jG (by omega) (dM (gt rfl cS) (dM (zR ab) ?_)))
 have si:=zR aS
 have hle : ∀(A B:ak),(iz++([A,B]:List ak)).length*56≤140737488355328:=fun A B=>by rw [List.length_append];simp;omega
 rw [BN (by omega)]
 unfold lI
 unfold lI at si
 by_cases bF:df[n].dK=0
 ·rw [if_pos bF]
  refine dM si ?_
  by_cases eI:df[n].dx=0
  ·rw [if_pos eI]
   exact jG (hle _ _) (by simp [hC,g5])
  ·rw [if_neg eI]
   exact jG (hle _ _) (by simp [hC,g5])
 ·rw [if_neg bF]
  refine dM si ?_
  by_cases eI:df[n].dx=0
  ·rw [if_pos eI]
   exact jG (hle _ _) (by simp [hC,g5])
  ·rw [if_neg eI]
   exact jG (hle _ _) (by simp [hC,g5])
theorem EL (s:dq)(i0:mo s):
 ∃r,p8 s=some r∧r.length≤1048576∧(∀x∈r,tw x)∧((∃iz P,oy s=some (.inl (iz,P))∧hR iz P∧iz.length≤12∧iz.map (fQ P)=r)∨(oy s=some (.inr ())∧r=[])):=by
 obtain ⟨p,eG,eA⟩:=y0 s i0
 unfold p8 oy
 cases p with
 | false=>exact ⟨[],dM eG (uT rfl rfl),by simp,by simp,.inr ⟨dM eA (uT rfl rfl),rfl⟩⟩
 | true =>
  obtain ⟨-,-,bM,-⟩:=DX s i0 eG
  have hM : ∀(n:Nat) (h:n<s.bH.length),ik s.bH[n].dK∧ik s.bH[n].dx:=fun n h=>by
   have:=i0.1.2 _ (List.getElem_mem h)
   exact ⟨this.2.1,this.2.2.1⟩
  have an : ∀n,n≤s.bH.length→ ∀x∈kC s.bH n,tw x:=by
   intro n
   induction n with
   | zero=>intro _ x ab;simp [kC] at ab
   | succ n ih =>
    intro bj x ab
    rw [kC,List.mem_append] at ab
    rcases ab with ab|ab
    ·exact ih (by omega) x ab
    ·rw [List.getElem?_eq_getElem (show n<s.bH.length by omega)] at ab
     obtain ⟨j1,kD⟩:=hM n (by omega)
     have f1:=tv j1
     have f2:=tv kD
     have j0:=f1.tX
     have lJ:=f1.tY
     have Lq:=f2.tX
     have Lr:=f2.tY
     simp at ab
     rcases ab with rfl|rfl
     ·exact ⟨by show (L _).length≤_;omega,by show (L _).length≤_;omega⟩
     ·exact ⟨by show (L _).length≤_;omega,by show (L _).length≤_;omega⟩
  have s1:vV s.bH (len_ a6 s.bH) 0 []=some (kC s.bH s.bH.length):=by
   rw [dn]
   obtain ⟨_,e,-⟩:=s0 (f:=fun w:Int×(List cD)=>oc s.bH (s.bH.length:Nat) w.1 w.2) (fun (i:Nat) (_:Unit)=>((i:Int),kC s.bH i)) s.bH.length (fun _ _=>True) (fun _=>kC s.bH s.bH.length)
    (fun i aA _ _=>by
      refine ⟨(),?_,trivial⟩
      have cS:=List.getElem?_eq_getElem aA
      have aB:=w0 s.bH i
      obtain ⟨j1,kD⟩:=hM i aA
      simp only
      unfold oc
      refine so (by omega) (jG (by omega) (dM (gt rfl cS) (dM (ze j1) (dM (ze kD) (jG (by rw [List.length_append];simp;omega) ?_)))))
      rw [BN (by omega),kC,cS])
    (fun _ _=>by simp only;unfold oc;exact kZ (by omega) rfl) () trivial
   exact e
  obtain ⟨⟨iz,P⟩,e,ar,aE,br⟩:=s0 (f:=fun w:Int×(List ak)×(List (List Int))=>m3 s.bH (s.bH.length:Nat) w.1 w.2.1 w.2.2) (fun (i:Nat) (q:List ak×List (List Int))=>((i:Int),q.1,q.2)) s.bH.length (fun i q=>hR q.1 q.2∧q.1.length≤2*i∧q.1.map (fQ q.2)=kC s.bH i) (fun q=>q)
   (fun i aA q fa=>by
     obtain ⟨o,l,v⟩:=fa
     obtain ⟨j1,kD⟩:=hM i aA
     obtain ⟨pE,sv,g1,g2,g3,g4⟩:=Fg s.bH (s.bH.length:Nat) i aA rfl bM j1 kD q.1 q.2 o l
     refine ⟨(pE,sv),g1,g2,g3,?_⟩
     simp only
     rw [g4,v,kC,List.getElem?_eq_getElem aA])
   (fun q _=>by simp only;unfold m3;exact kZ (by omega) rfl) ([],[]) ⟨hR.nil [],by simp,rfl⟩
  have aB:=w0 s.bH s.bH.length
  refine ⟨_,dM eG (n3 rfl (dM s1 rfl)),by omega,an _ (Nat.le_refl _),.inl ⟨iz,P,dM eA (n3 rfl (dM (x:=(iz,P)) (by rw [dn];exact e) rfl)),ar,?_,br⟩⟩
  simp only at aE;omega
theorem Db (x0:dq)(i0:mo x0):sB x0=some true:=by
 unfold sB
 obtain ⟨r,aQ,bX⟩:=Ed x0 i0 1048576 (by omega) (by omega)
 refine dM aQ ?_
 by_cases R:r<0
 ·exact so R rfl
 obtain ⟨dI,ed⟩:=bX (by omega)
 obtain ⟨q,cq,dJ,ek,hD⟩:=EL x0 i0
 obtain ⟨h6,j0,eY,lM,lN,uO,Ls,Lt⟩:=DE (k:=1) (l:=x0.bH) (m:=x0.dP) (by omega) (by omega)
 refine kZ R (dM (Ee x0 dI ed) (dM cq ?_))
 rcases hD with ⟨iz,P,g,o,Lh,v⟩|⟨g,rfl⟩
 ·refine dM g (jG o.all (dM (by simp only;rw [v];exact zu q dJ ek) (n3 rfl (dM (yZ x0 dI ed) (n3 rfl (dM lM (jG lN.symm (jG uO.symm (kZ (by simp only;omega) (dM (EK o (by omega) (by omega)) (jG (by simp only [kK];omega) ?_)))))))))))
  simp only
  rw [List.drop_zero,List.take_of_length_le (by rw [kK];omega)]
  obtain ⟨bF,-⟩:=ty o (k:=1) (by omega) iz.length (Nat.le_refl _)
  exact jG (Hv o (by omega)) (dM (zv o (by omega) (by omega)) (kZ (by omega) (uT (I9 rfl) rfl)))
 ·have JB:qd [] 1=some 1:=by
   have h:sG [] 1=some ():=by
    unfold sG
    rw [iter]
    simp [sA,dn]
   simp [qd,h]
  have h0:m8 [] 1=some 1:=zv (rw:=[]) (P:=[]) (hR.nil []) (by omega) (by simp)
  exact dM g (dM (zu [] (by simp) (by simp)) (n3 rfl (dM (yZ x0 dI ed) (n3 rfl (dM lM (jG lN.symm (jG uO.symm (kZ (by simp only;omega) (dM JB (dM h0 (kZ (by omega) (uT rfl rfl))))))))))))
def pg (x:Rat):Prop:=(x.num.natAbs:Int)<B 24∧(x.den:Int)<B 24
instance Kh (x:Rat):Decidable (pg x):=by unfold pg;infer_instance
theorem pg.neg {x:Rat}(h:pg x):pg (-x):=by
 unfold pg at h ⊢
 rw [Rat.neg_num,Rat.neg_den,Int.natAbs_neg];exact h
theorem set_set {α:Type}(l:List α)(i:Nat)(x y:α):(l.set i x).set i y=l.set i y:=by
 rw [List.set_set]
end Go.Proofs.Ytdkjpcaalflfhab
