/- Lemmas, plain functions of the program, and what they answer. No condition. -/
import Derived.Test.YtdkjpcaalflfhaaGreatMB
namespace Go.Proofs.YtdkjpcaalflfhaaGreat
set_option linter.unusedVariables false
set_option linter.unusedSimpArgs false
open Go Go.VL
def zB (ag:bE)(iR:Int):Option Int :=
 if (decide ((J (iR-(ag.k6.size:Int)))<(0:Int)))=true then
  some (-1)
 else
  some (J (iR-(ag.k6.size:Int)))
theorem Wm {ag:bE}{iR:Int}:bx (zB ag iR) (fun r=>Con a7 24 [.agg (bI ag),.n .i64 iR] [] (.n .i64 r) []):=by
 unfold zB
 exact (let t1:List bY:=[(I 2),(I 6),(I 2)];
  .ite (fun h1 =>
  .ret (bs (t1.append [.U true,(I 1)]) (.e1 h1)))
  (fun h1 =>
  .ret (bs (t1.append [.U false,(I 2)]) (.e1 h1))))
def Gn (ag:List bE):(Int×Int)→S:=fun (iR,af)=>dl [(0,.isl 4 (ag.map bI)),(1,.n .i64 iR),(5,.n .i64 af)] []
def GC (ag:List bE):((Int)⊕(Unit))→dq
 | .inl a=>⟨some 0,[(1,.n .i64 a)],[]⟩
 | .inr a=>⟨none,[(4,.n .i64 (-1:Int))],[]⟩
def tJ (ag:List bE)(iR af:Int):Option ((Int×Int)⊕((Int)⊕(Unit))) :=
 if (decide (af<(len_ bI ag)))=true then
  if 0≤af∧af<ag.length then
  ag[af.toNat]? >>= fun aE =>
  zB aE iR >>= fun aK =>
  if (decide (aK<(0:Int)))=true then
   some (.inr (.inr ()))
  else
   some (.inl (aK,J (af+(1:Int))))
  else none
 else
  some (.inr (.inl iR))
def Ih (ag:List bE)(iR af:Int):Option ((Int)⊕(Unit)):=iter (fun w:Int×Int=>tJ ag w.1 w.2) (iR,af)
theorem TG {ag:List bE}{iR af:Int}:bx (tJ ag iR af) (dP a7 27 0 11 [1,1,1,0,1,0,0] (Gn ag (iR,af)) (Gn ag) (GC ag)):=by
 unfold tJ
 exact .ite (fun h1 =>
  .aY fun h2 =>
  .ar fun aE au =>
  .ar fun aK aX =>
  (let t1:List bY:=[(I 4),.U true,.ay (ai 3 (al (.b2 (bI aE)) (bq 1 (bp 2 (.n .i64 aK) true) 1))),(I 2)];
  have aS:=((.dU h1 h2.1 (cO bI h2.2) (bU bI au) (Wm aK aX) (b7.n .i64 aK)):cp _);
  .ite (fun bb =>
  .ret (bf (t1.append [.U true,(I 1),.aN [] [] (a6 [4])]) (aS.aG (.e1 bb))))
  (fun bb =>
  .ret (bf (t1.append [.U false,(I 3),.aN [] [] (a6 [0,1,5])]) (aS.aG (.e1 bb))))))
  (fun h1 =>
  .ret (bf [(I 4),.U false,.aN [] [] (a6 [1])] (.e1 h1)))
theorem MC {ag:List bE}{iR af:Int}{r} (h:Ih ag iR af=some r):dQ a7 27 0 11 [1,1,1,0,1,0,0] (Gn ag) (GC ag) (iR,af) r:=dR (fun _=>TG) h
def zl (ag:List bE)(iR:Int):Option Int :=
 if (decide ((J (iR-(len_ bI ag)))<(0:Int)))=true then
  some (-1)
 else
  Ih ag (J (iR-(len_ bI ag))) 0 >>= fun r2 =>
  match r2 with
  | .inl fK=>(some fK)
  | .inr fK=>(some (-1))
theorem VU {ag:List bE}{iR:Int}:bx (zl ag iR) (fun r=>Con a7 11 [.isl 4 (ag.map bI),.n .i64 iR] [] (.n .i64 r) []):=by
 unfold zl
 exact (let t1:List bY:=[(I 1),(I 5),(I 2)];
  .ite (fun h1 =>
  .ret (bs (t1.append [.U true,(I 1)]) (.e1 h1)))
  (fun h1 =>
  .ar fun r2 ab =>
  (let t2:List bY:=t1.append [.U false,(I 1),.aN [] [] (a6 [0,1,5])];
  (by
  rcases r2 with fK|fK
  ·exact (.ret (bs (t2.append [.sub (.exit 0) [(1,.n .i64 fK)] [],(I 2)]) (.e2 h1 (MC ab))))
  ·exact (.ret (bs (t2.append [(GC ag (.inr fK)).e8]) (.e2 h1 (MC ab))))))))
def ze (ag:List bP)(iR:Int):Option Int :=
 if (decide ((J (iR-(len_ bS ag)))<(0:Int)))=true then
  some (-1)
 else
  some (J (iR-(len_ bS ag)))
theorem VD {ag:List bP}{iR:Int}:bx (ze ag iR) (fun r=>Con a7 12 [.isl 3 (ag.map bS),.n .i64 iR] [] (.n .i64 r) []):=by
 unfold ze
 exact (let t1:List bY:=[(I 1),(I 5),(I 2)];
  .ite (fun h1 =>
  .ret (bs (t1.append [.U true,(I 1)]) (.e1 h1)))
  (fun h1 =>
  .ret (bs (t1.append [.U false,(I 2)]) (.e1 h1))))
def y4 (ag:cI)(iR:Int):Option Int :=
 zl ag.bZ iR >>= fun r1 =>
 if (decide (r1<(0:Int)))=true then
  some (-1)
 else
  ze ag.bG r1 >>= fun bh =>
  if (decide (bh<(0:Int)))=true then
   some (-1)
  else
   some bh
theorem U0 {ag:cI}{iR:Int}:bx (y4 ag iR) (fun r=>Con a7 4 [.agg (hf ag),.n .i64 iR] [] (.n .i64 r) []):=by
 unfold y4
 exact .ar fun r1 h2 =>
  (let t1:List bY:=[(I 2),.ay (bq 3 (bp 2 (.n .i64 r1) true) 1),(I 2)];
  have aS:=((.e2 (VU r1 h2) (b7.n .i64 r1)):cp _);
  .ite (fun ab =>
  .ret (bs (t1.append [.U true,(I 1)]) (aS.aG (.e1 ab))))
  (fun ab =>
  .ar fun bh aA =>
  (let t3:List bY:=t1.append [.U false,.ay (bq 3 (bp 2 (.n .i64 bh) true) 1),(I 2)];
  have eO:=aS.aG (.bO ab (VD bh aA) (b7.n .i64 bh));
  .ite (fun aX =>
  .ret (bs (t3.append [.U true,(I 1)]) (eO.aG (.e1 aX))))
  (fun aX =>
  .ret (bs (t3.append [.U false,(I 2)]) (eO.aG (.e1 aX)))))))
def C0 (ag:bE):Option bE :=
 some ag
theorem Wn {ag:bE}:bx (C0 ag) (fun r=>Con a7 29 [.agg (bI ag)] [] (.agg (bI r)) []):=by
 unfold C0
 exact .ret (bs [(I 2),(I 1),(I 4),(I 4),(I 4),(I 4),(I 2)] .nil)
def FM (ag:List bE):(Int×(List bE))→S:=fun (af,aa)=>dl [(0,.isl 4 (ag.map bI)),(3,.bk 0 0 0 aa.length),(4,.n .i64 af)] [(ae 4 bI aa)]
def F8 (ag:List bE):(List bE)→dq
 | a=>⟨some 0,[(3,.bk 0 0 0 a.length)],[(ae 4 bI a)]⟩
def tH (ag:List bE)(af:Int)(aa:List bE):Option ((Int×(List bE))⊕((List bE))) :=
 if (decide (af<(len_ bI ag)))=true then
  if 0≤af∧af<ag.length then
  ag[af.toNat]? >>= fun aE =>
  C0 aE >>= fun aK =>
  if 0≤af∧af<(aa.length:Nat) then
  if (0+af.toNat)<aa.length then
  some (.inl (J (af+(1:Int)),aa.set (0+af.toNat) aK))
  else none
  else none
  else none
 else
  some (.inr aa)
def HD (ag:List bE)(af:Int)(aa:List bE):Option ((List bE)):=iter (fun w:Int×(List bE)=>tH ag w.1 w.2) (af,aa)
theorem Te {ag:List bE}{af:Int}{aa:List bE}:bx (tH ag af aa) (dP a7 23 0 17 [1,1,0,1,0,0] (FM ag (af,aa)) (FM ag) (F8 ag)):=by
 unfold tH
 exact .ite (fun h1 =>
  .aY fun h2 =>
  .ar fun aE au =>
  .ar fun aK aX =>
  .aY fun bb =>
  .aY fun bi =>
  .ret (bf [(I 4),.U true,.ay (ai 5 (al (.b2 (bI aE)) (al (bp 1 (.agg (bI aK)) false) (ai 1 (al .fM []))))),(I 3),.aN [0] [.cu (ae 4 bI (aa.set (0+af.toNat) aK))] [(0,ii),(3,fV ((aa.set (0+af.toNat) aK).length)),(4,ii)]] (.bg h1 h2.1 (cO bI h2.2) (bU bI au) (Wn aK aX) bb.1 bb.2 (hz bI bi) (.c5 (ht 4) (cU 4 .live (gD (cR bI aa) (0+af.toNat) aK)) (aF 4 .live mx (aa.set (0+af.toNat) aK)) (hP (dF aa) (0+af.toNat) aK)))))
  (fun h1 =>
  .ret (bf [(I 4),.U false,.aN [0] [.pure] (a6 [3])] (.e2 h1 (aF 4 .live mx aa))))
theorem UA {ag:List bE}{af:Int}{aa:List bE}{r} (h:HD ag af aa=some r):dQ a7 23 0 17 [1,1,0,1,0,0] (FM ag) (F8 ag) (af,aa) r:=dR (fun _=>Te) h
def y8 (ag:List bE):Option (List bE) :=
 if 0≤(len_ bI ag)∧(40:Int)*(len_ bI ag)≤281474976710656∧(len_ bI ag)<9223372036854775808 then
 HD ag 0 (List.replicate (len_ bI ag).toNat (⟨ByteArray.empty,0,0,false⟩:bE):List bE) >>= fun r2 =>
 some r2
 else none
theorem Vg {ag:List bE}:bx (y8 ag) (fun a=>Con a7 17 [.isl 4 (ag.map bI)] [] (.bk 0 0 0 a.length) [(ae 4 bI a)]):=by
 unfold y8
 exact .aY fun h1 =>
  .ar fun r2 ab =>
  .ret (let q1:=(List.replicate (len_ bI ag).toNat (⟨ByteArray.empty,0,0,false⟩:bE):List bE);lQ [(I 1),(I 4),(I 1),.aN [3] [.cu (ae 4 bI q1)] [(0,ii),(3,fV (q1.length)),(4,ii)],(F8 ag r2).e8,(I 2)] [0] [.pure] (.bg h1.1 (Int.le_refl (len_ bI ag)) h1.2.1 h1.2.2 (cU 4 .live (lC bI (len_ bI ag).toNat (⟨ByteArray.empty,0,0,false⟩:bE))) (aF 4 .live mx q1) (lW (len_ bI ag).toNat ((⟨ByteArray.empty,0,0,false⟩:bE):bE)) (UA ab) (.e1 (aF 4 .live mx r2))))
def CV (ag:bP):Option bP :=
 some ag
theorem VV {ag:bP}:bx (CV ag) (fun r=>Con a7 30 [.agg (bS ag)] [] (.agg (bS r)) []):=by
 unfold CV
 exact .ret (bs [(I 2),(I 1),(I 4),(I 4),(I 4),(I 2)] .nil)
def FE (ag:List bP):(Int×(List bP))→S:=fun (af,aa)=>dl [(0,.isl 3 (ag.map bS)),(3,.bk 0 0 0 aa.length),(4,.n .i64 af)] [(ae 3 bS aa)]
def FN (ag:List bP):(List bP)→dq
 | a=>⟨some 0,[(3,.bk 0 0 0 a.length)],[(ae 3 bS a)]⟩
def tG (ag:List bP)(af:Int)(aa:List bP):Option ((Int×(List bP))⊕((List bP))) :=
 if (decide (af<(len_ bS ag)))=true then
  if 0≤af∧af<ag.length then
  ag[af.toNat]? >>= fun aE =>
  CV aE >>= fun aK =>
  if 0≤af∧af<(aa.length:Nat) then
  if (0+af.toNat)<aa.length then
  some (.inl (J (af+(1:Int)),aa.set (0+af.toNat) aK))
  else none
  else none
  else none
 else
  some (.inr aa)
def G7 (ag:List bP)(af:Int)(aa:List bP):Option ((List bP)):=iter (fun w:Int×(List bP)=>tG ag w.1 w.2) (af,aa)
theorem S6 {ag:List bP}{af:Int}{aa:List bP}:bx (tG ag af aa) (dP a7 23 0 18 [1,1,0,1,0,0] (FE ag (af,aa)) (FE ag) (FN ag)):=by
 unfold tG
 exact .ite (fun h1 =>
  .aY fun h2 =>
  .ar fun aE au =>
  .ar fun aK aX =>
  .aY fun bb =>
  .aY fun bi =>
  .ret (bf [(I 4),.U true,.ay (ai 5 (al (.b2 (bS aE)) (al (bp 1 (.agg (bS aK)) false) (ai 1 (al .fM []))))),(I 3),.aN [0] [.cu (ae 3 bS (aa.set (0+af.toNat) aK))] [(0,ii),(3,fV ((aa.set (0+af.toNat) aK).length)),(4,ii)]] (.bg h1 h2.1 (cO bS h2.2) (bU bS au) (VV aK aX) bb.1 bb.2 (hz bS bi) (.c5 (ht 3) (cU 3 .live (gD (cR bS aa) (0+af.toNat) aK)) (aF 3 .live lA (aa.set (0+af.toNat) aK)) (hP (dF aa) (0+af.toNat) aK)))))
  (fun h1 =>
  .ret (bf [(I 4),.U false,.aN [0] [.pure] (a6 [3])] (.e2 h1 (aF 3 .live lA aa))))
theorem Ud {ag:List bP}{af:Int}{aa:List bP}{r} (h:G7 ag af aa=some r):dQ a7 23 0 18 [1,1,0,1,0,0] (FE ag) (FN ag) (af,aa) r:=dR (fun _=>S6) h
def y5 (ag:List bP):Option (List bP) :=
 if 0≤(len_ bS ag)∧(24:Int)*(len_ bS ag)≤281474976710656∧(len_ bS ag)<9223372036854775808 then
 G7 ag 0 (List.replicate (len_ bS ag).toNat (⟨0,0,0⟩:bP):List bP) >>= fun r2 =>
 some r2
 else none
theorem U1 {ag:List bP}:bx (y5 ag) (fun a=>Con a7 18 [.isl 3 (ag.map bS)] [] (.bk 0 0 0 a.length) [(ae 3 bS a)]):=by
 unfold y5
 exact .aY fun h1 =>
  .ar fun r2 ab =>
  .ret (let q1:=(List.replicate (len_ bS ag).toNat (⟨0,0,0⟩:bP):List bP);lQ [(I 1),(I 4),(I 1),.aN [3] [.cu (ae 3 bS q1)] [(0,ii),(3,fV (q1.length)),(4,ii)],(FN ag r2).e8,(I 2)] [0] [.pure] (.bg h1.1 (Int.le_refl (len_ bS ag)) h1.2.1 h1.2.2 (cU 3 .live (lC bS (len_ bS ag).toNat (⟨0,0,0⟩:bP))) (aF 3 .live lA q1) (lW (len_ bS ag).toNat ((⟨0,0,0⟩:bP):bP)) (Ud ab) (.e1 (aF 3 .live lA r2))))
def y2 (ag:cI):Option ((List bE)×(List bP)) :=
 y8 ag.bZ >>= fun r1 =>
 y5 ag.bG >>= fun bd =>
 some (r1,bd)
theorem Gp {ag:cI}:bx (y2 ag) (fun a=>Con a7 6 [.agg (hf ag)] [] (.agg [.bk 0 0 0 a.1.length,.bk 0 1 0 a.2.length]) [[ad.mk 4 (a.1.map bI) .live,ad.mk 3 (a.2.map bS) .live]]):=by
 unfold y2
 exact .ar fun r1 h2 =>
  .ar fun bd au =>
  .ret (lQ [(I 2),(I 1),.ay (bq 2 (.call {aZ:=[],dm:=[],ac:=[ii],r:= .bk 0 0 0 r1.length,fv:=[(ae 4 bI r1)],ic:=ii,kk:=[.pure],fH:=[],fz:=true}) 2),.ay (bq 2 (.call {aZ:=[],dm:=[],ac:=[ii],r:= .bk 0 0 0 bd.length,fv:=[(ae 3 bS bd)],ic:=ii,kk:=[.pure],fH:=[],fz:=true}) 2),(I 2),.BA [{bC:=[(5,0),(10,0)],iw:=none},{bC:=[(1,0)]}] [([.pure,.pure],none),([.box [.at_ 0 0 r1.length,.at_ 0 1 bd.length]],none)] [(2,.br (.dh (.at_ 1 0 0)))]] [0] [.bB [ad.mk 4 (r1.map bI) .live,ad.mk 3 (bd.map bS) .live]] (.bg (ij 4 mx r1) (Vg r1 h2) (b7.bk 0 0 0 r1.length) ((rc (pc (oY Db) ri) rh):oK [(ae 4 bI r1)]) (ij 3 lA bd) (U1 bd au) (b7.bk 0 0 0 bd.length) ((rc (pc (oY C6) ri) rh):oK [(ae 3 bS bd)]) (.gJ (aF 4 .live mx r1) (aF 3 .live lA bd) (rfl:(kB [{bC:=[(5,0),(10,0)],iw:=none},{bC:=[(1,0)]}]) 0 0=some (5,0)) (rfl:r1.length=r1.length) (rfl:(kB [{bC:=[(5,0),(10,0)],iw:=none},{bC:=[(1,0)]}]) 0 1=some (10,0)) (rfl:bd.length=bd.length) (rfl:(kB [{bC:=[(5,0),(10,0)],iw:=none},{bC:=[(1,0)]}]) 1 0=some (1,0)) (c2 (fT (cB [0]) 4 Da r1) (c2 (fT (cB [0]) 3 C5 bd) (oX (b6:=(cB [0]))))))) (.br (.agg [.id,.id])))
def Gq (ag:List Int):(Int×(List Int))→S:=fun (af,aa)=>dl [(0,.isl 1 (ag.map eI)),(3,.bk 0 0 0 aa.length),(4,.n .i64 af)] [(ae 1 eI aa)]
def GD (ag:List Int):(List Int)→dq
 | a=>⟨some 0,[(3,.bk 0 0 0 a.length)],[(ae 1 eI a)]⟩
def tK (ag:List Int)(af:Int)(aa:List Int):Option ((Int×(List Int))⊕((List Int))) :=
 if (decide (af<(len_ eI ag)))=true then
  if 0≤af∧af<ag.length then
  ag[af.toNat]? >>= fun aE =>
  if 0≤af∧af<(aa.length:Nat) then
  if (0+af.toNat)<aa.length then
  some (.inl (J (af+(1:Int)),aa.set (0+af.toNat) aE))
  else none
  else none
  else none
 else
  some (.inr aa)
def Ii (ag:List Int)(af:Int)(aa:List Int):Option ((List Int)):=iter (fun w:Int×(List Int)=>tK ag w.1 w.2) (af,aa)
theorem TH {ag:List Int}{af:Int}{aa:List Int}:bx (tK ag af aa) (dP a7 22 0 7 [1,1,0,1,0,0] (Gq ag (af,aa)) (Gq ag) (GD ag)):=by
 unfold tK
 exact .ite (fun h1 =>
  .aY fun h2 =>
  .ar fun aE au =>
  .aY fun aA =>
  .aY fun aX =>
  .ret (bf [(I 4),.U true,.ay (ai 5 (al (.b2 (eI aE)) (ai 1 (al .fM [])))),(I 3),.aN [0] [.cu (ae 1 eI (aa.set (0+af.toNat) aE))] [(0,ii),(3,fV ((aa.set (0+af.toNat) aE).length)),(4,ii)]] (.bg h1 h2.1 (cO eI h2.2) (bU eI au) aA.1 aA.2 (hz eI aX) (ht 1) (.bO (cU 1 .live (gD (cR eI aa) (0+af.toNat) aE)) (aF 1 .live aO (aa.set (0+af.toNat) aE)) (hP (dF aa) (0+af.toNat) aE)))))
  (fun h1 =>
  .ret (bf [(I 4),.U false,.aN [0] [.pure] (a6 [3])] (.e2 h1 (aF 1 .live aO aa))))
theorem U2 {ag:List Int}{af:Int}{aa:List Int}{r} (h:Ii ag af aa=some r):dQ a7 22 0 7 [1,1,0,1,0,0] (Gq ag) (GD ag) (af,aa) r:=dR (fun _=>TH) h
def zm (ag:List Int):Option (List Int) :=
 if 0≤(len_ eI ag)∧(8:Int)*(len_ eI ag)≤281474976710656∧(len_ eI ag)<9223372036854775808 then
 Ii ag 0 (List.replicate (len_ eI ag).toNat 0:List Int) >>= fun r2 =>
 some r2
 else none
theorem Ij {ag:List Int}:bx (zm ag) (fun a=>Con a7 7 [.isl 1 (ag.map eI)] [] (.bk 0 0 0 a.length) [(ae 1 eI a)]):=by
 unfold zm
 exact .aY fun h1 =>
  .ar fun r2 ab =>
  .ret (let q1:=(List.replicate (len_ eI ag).toNat 0:List Int);lQ [(I 1),(I 4),(I 1),.aN [3] [.cu (ae 1 eI q1)] [(0,ii),(3,fV (q1.length)),(4,ii)],(GD ag r2).e8,(I 2)] [0] [.pure] (.bg h1.1 (Int.le_refl (len_ eI ag)) h1.2.1 h1.2.2 (cU 1 .live (lC eI (len_ eI ag).toNat 0)) (aF 1 .live aO q1) (lW (len_ eI ag).toNat (0:Int)) (U2 ab) (.e1 (aF 1 .live aO r2))))
def my (aW l2 mg:Int):Option Bool :=
 if (decide (l2≤aW))=true then
  some (decide (aW≤mg))
 else
  some false
theorem pG {aW l2 mg:Int}:bx (my aW l2 mg) (fun r=>Con a7 14 [.n .i64 aW,.n .i64 l2,.n .i64 mg] [] (.b r) []):=by
 unfold my
 exact .ite (fun h1 =>
  .ret (bs [(I 1),.ay (bq 7 (.U true) 1)] (.c5 h1 h1 h1 h1)))
  (fun h1 =>
  .ret (bs [(I 1),.ay (ai 4 (ck 3 (al (.U false) (ai 1 []))))] (.c5 h1 h1 h1 h1)))
def G8 (aJ:ByteArray):Int→S:=fun af=>dl [(0,.s aJ),(3,.n .i64 af)] []
def MJ (aJ:ByteArray):((Unit)⊕(Unit))→dq
 | .inl a=>⟨some 0,[(0,.s aJ)],[]⟩
 | .inr a=>⟨none,[(2,.b false)],[]⟩
def sD (aJ:ByteArray)(af:Int):Option ((Int)⊕((Unit)⊕(Unit))) :=
 if (decide (af<(aJ.size:Int)))=true then
  if 0≤af∧af<(aJ.size:Nat) then
  if (decide ((97:Int)≤((aJ.data.toList.getD af.toNat 0).toNat:Int)))=true then
   if (decide (((aJ.data.toList.getD af.toNat 0).toNat:Int)≤(122:Int)))=true then
    some (.inl (J (af+(1:Int))))
   else
    if (af == (0:Int))=true then
     some (.inr (.inr ()))
    else
     if (decide (((aJ.data.toList.getD af.toNat 0).toNat:Int)<(48:Int)))=true then
      some (.inr (.inr ()))
     else
      if (decide ((57:Int)<((aJ.data.toList.getD af.toNat 0).toNat:Int)))=true then
       some (.inr (.inr ()))
      else
       some (.inl (J (af+(1:Int))))
  else
   if (af == (0:Int))=true then
    some (.inr (.inr ()))
   else
    if (decide (((aJ.data.toList.getD af.toNat 0).toNat:Int)<(48:Int)))=true then
     some (.inr (.inr ()))
    else
     if (decide ((57:Int)<((aJ.data.toList.getD af.toNat 0).toNat:Int)))=true then
      some (.inr (.inr ()))
     else
      some (.inl (J (af+(1:Int))))
  else none
 else
  some (.inr (.inl ()))
def zf (aJ:ByteArray)(af:Int):Option ((Unit)⊕(Unit)):=iter (fun w:Int=>sD aJ w) af
theorem Ue {aJ:ByteArray}{af:Int}:bx (sD aJ af) (dP a7 42 0 66 [1,0,1,0,0] (G8 aJ af) (G8 aJ) (MJ aJ)):=by
 unfold sD
 exact .ite (fun h1 =>
  .aY fun h2 =>
  .ite (fun ab =>
  (let t1:List bY:=[(I 4),.U true,.ay (bq 9 (.U true) 1)];
  have aS:=((.bg h1 h2.1 h2.2 ab ab ab h2.1 h2.2 (.e2 ab ab)):cp _);
  .ite (fun au =>
  .ret (bf (t1.append [.ay (ai 3 (ck 3 (ai 4 (ck 2 (ai 4 (ck 1 (al (.U false) []))))))),.U false,(I 3),.aN [] [] (a6 [0,3])]) (aS.aG (.gJ (cV au) (cV au) (cV au) (cV au) (cV au) (cV au) (cV au) cL))))
  (fun au =>
  (have fA:=aS.aG (.bO (cT au) (cT au) (cT au));
  .ite (fun aA =>
  .ret (bf (t1.append [.ay (ai 6 (ck 4 (al (.U true) (ai 1 (ck 4 (ai 1 (al (.U true) []))))))),.U true,(I 1),.aN [] [] (a6 [2])]) (fA.aG (.bg aA aA aA aA (cT au) aA (cT au) cv (.dU cv cv cv (cT au) (cT au) cv)))))
  (fun aA =>
  (have eO:=fA.aG (.bg aA aA aA h2.1 h2.2 aA (cT au) aA (.e1 (cT au)));
  .ite (fun aX =>
  .ret (bf (t1.append [.ay (ai 10 (al (.U false) (ai 1 (ck 4 (al (.U true) (al (.U true) [])))))),.U true,(I 1),.aN [] [] (a6 [2])]) (eO.aG (.gJ aX aX aX aX (cT au) aX (cT au) cv))))
  (fun aX =>
  (let t5:List bY:=t1.append [.ay (ai 10 (al (.U false) (ai 5 (al (.U false) (al (.U true) [])))))];
  have kF:=eO.aG (.bg aX aX aX h2.1 h2.2 aX (cT au) aX (.e1 (cT au)));
  .ite (fun bb =>
  .ret (bf (t5.append [.U true,(I 1),.aN [] [] (a6 [2])]) (kF.aG (.e1 bb))))
  (fun bb =>
  .ret (bf (t5.append [.U false,(I 3),.aN [] [] (a6 [0,3])]) (kF.aG (.e1 bb))))))))))))
  (fun ab =>
  (let t1:List bY:=[(I 4),.U true,.ay (ai 5 (ck 4 (al (.U false) (ai 1 []))))];
  have aS:=((.bg h1 h2.1 h2.2 ab ab ab ab ab (.bO cv cv cv)):cp _);
  .ite (fun au =>
  .ret (bf (t1.append [.ay (ai 6 (ck 4 (al (.U true) (ai 1 (ck 4 (ai 2 [])))))),.U true,(I 1),.aN [] [] (a6 [2])]) (aS.aG (.bg au au au au cv au cv cv (.dg cv cv cv cv cv)))))
  (fun au =>
  (have fA:=aS.aG (.bg au au au h2.1 h2.2 au cv au (.e1 cv));
  .ite (fun aA =>
  .ret (bf (t1.append [.ay (ai 10 (al (.U false) (ai 1 (ck 4 (al (.U true) (ai 1 [])))))),.U true,(I 1),.aN [] [] (a6 [2])]) (fA.aG (.eE aA aA aA aA cv aA cv))))
  (fun aA =>
  (let t4:List bY:=t1.append [.ay (ai 10 (al (.U false) (bq 5 (.U false) 1)))];
  have ma:=fA.aG (.gJ aA aA aA h2.1 h2.2 aA cv aA);
  .ite (fun aX =>
  .ret (bf (t4.append [.U true,(I 1),.aN [] [] (a6 [2])]) (ma.aG (.e1 aX))))
  (fun aX =>
  .ret (bf (t4.append [.U false,(I 3),.aN [] [] (a6 [0,3])]) (ma.aG (.e1 aX)))))))))))
  (fun h1 =>
  .ret (bf [(I 4),.U false,.aN [] [] (a6 [0])] (.e1 h1)))
theorem MT {aJ:ByteArray}{af:Int}{r} (h:zf aJ af=some r):dQ a7 42 0 66 [1,0,1,0,0] (G8 aJ) (MJ aJ) af r:=dR (fun _=>Ue) h
def sI (aJ:ByteArray):Option Bool :=
 zf aJ 0 >>= fun r1 =>
 match r1 with
 | .inl di=>(my (aJ.size:Int) 1 8 >>= fun bh =>
  some bh)
 | .inr di=>(some false)
theorem WK {aJ:ByteArray}:bx (sI aJ) (fun r=>Con a7 66 [.s aJ] [] (.b r) []):=by
 unfold sI
 exact .ar fun r1 h2 =>
  (let t1:List bY:=[(I 1),(I 1),.aN [] [] (a6 [0,3])];
  (by
  rcases r1 with di|di
  ·exact (.ar fun bh aA =>
  .ret (bs (t1.append [.sub (.exit 0) [(0,.s aJ)] [],.ay (bq 2 (bp 3 (.b bh) true) 1)]) (.bO (MT h2) (pG bh aA) (b7.b bh))))
  ·exact (.ret (bs (t1.append [.sub (.ret) [(2,.b false)] []]) (.e1 (MT h2))))))
def o9 (bN:bE):Option Bool :=
 sI bN.k6 >>= fun r1 =>
 if r1=true then
  my bN.jZ (-50) 50 >>= fun bh =>
  if bh=true then
   my bN.j0 (-50) 50 >>= fun b4 =>
   some b4
  else
   some false
 else
  some false
theorem Wo {bN:bE}:bx (o9 bN) (fun r=>Con a7 39 [.agg (bI bN)] [] (.b r) []):=by
 unfold o9
 exact .ar fun r1 h2 =>
  (have ae:=((.e2 (WK r1 h2) (b7.b r1)):cp _);
  .ite (fun ab =>
  .ar fun bh aA =>
  (have aS:=ae.aG (.dU ab ab ab (pG bh aA) (b7.b bh) ab);
  .ite (fun aX =>
  .ar fun b4 bi =>
  .ret (bs [(I 2),.ay (ai 2 (al (bp 1 (.b r1) true) (ai 3 (al (bp 3 (.b bh) true) (al (.U true) (ai 3 (al (bp 3 (.b b4) true) (al (.U true) (ai 1 [])))))))))] (aS.aG (.dU aX aX aX (pG b4 bi) (b7.b b4) aX))))
  (fun aX =>
  .ret (bs [(I 2),.ay (ai 2 (al (bp 1 (.b r1) true) (ai 3 (al (bp 3 (.b bh) true) (al (.U true) (ai 1 (ck 3 (al (.U false) (ai 1 [])))))))))] (aS.aG (.c5 aX aX aX aX))))))
  (fun ab =>
  .ret (bs [(I 2),.ay (ai 2 (al (bp 1 (.b r1) true) (ai 1 (ck 3 (al (.U false) (ai 1 (ck 3 (ai 2 []))))))))] (ae.aG (.eE ab ab ab ab cL cL cL)))))
def FO (ku:ByteArray)(df:List bE)(dZ:Int):Int→S:=fun cW=>dl [(1,.s ku),(8,.isl 4 (df.map bI)),(9,.n .i64 dZ),(10,.n .i64 cW)] []
def Mn (ku:ByteArray)(df:List bE)(dZ:Int):((Unit)⊕(Int))→dq
 | .inl a=>⟨some 0,[],[]⟩
 | .inr a=>⟨none,[(4,.n .i64 a)],[]⟩
def vW (ku:ByteArray)(df:List bE)(dZ cW:Int):Option ((Int)⊕((Unit)⊕(Int))) :=
 if (decide (cW<dZ))=true then
  if 0≤cW∧cW<df.length then
  df[cW.toNat]? >>= fun aE =>
  if (aE.k6.toList == ku.toList)=true then
   some (.inr (.inr cW))
  else
   some (.inl (J (cW+(1:Int))))
  else none
 else
  some (.inr (.inl ()))
def wO (ku:ByteArray)(df:List bE)(dZ cW:Int):Option ((Unit)⊕(Int)):=iter (fun w:Int=>vW ku df dZ w) cW
theorem Tf {ku:ByteArray}{df:List bE}{dZ cW:Int}:bx (vW ku df dZ cW) (dP a7 21 0 40 [1,0,1,0,0] (FO ku df dZ cW) (FO ku df dZ) (Mn ku df dZ)):=by
 unfold vW
 exact .ite (fun h1 =>
  .aY fun h2 =>
  .ar fun aE au =>
  (let t1:List bY:=[(I 1),.U true,.ay (bq 2 (.b2 (bI aE)) 3),(I 4)];
  have aS:=((.c5 h1 h2.1 (cO bI h2.2) (bU bI au)):cp _);
  .ite (fun aA =>
  .ret (bf (t1.append [.U true,(I 2),.aN [] [] (a6 [4])]) (aS.aG (.e1 aA))))
  (fun aA =>
  .ret (bf (t1.append [.U false,(I 2),.aN [] [] (a6 [1,8,9,10])]) (aS.aG (.e1 aA))))))
  (fun h1 =>
  .ret (bf [(I 1),.U false,.aN [] [] []] (.e1 h1)))
theorem Ms {ku:ByteArray}{df:List bE}{dZ cW:Int}{r} (h:wO ku df dZ cW=some r):dQ a7 21 0 40 [1,0,1,0,0] (FO ku df dZ) (Mn ku df dZ) cW r:=dR (fun _=>Tf) h
def tY (aJ:cI)(ku:ByteArray):Option Int :=
 wO ku aJ.bZ (len_ bI aJ.bZ) 0 >>= fun r1 =>
 match r1 with
 | .inl di=>(some (-1))
 | .inr di=>(some di)
theorem Vh {aJ:cI}{ku:ByteArray}:bx (tY aJ ku) (fun r=>Con a7 40 [.agg (hf aJ),.s ku] [] (.n .i64 r) []):=by
 unfold tY
 exact .ar fun r1 h2 =>
  (let t1:List bY:=[(I 2),(I 4),.aN [] [] (a6 [1,8,9,10])];
  (by
  rcases r1 with di|di
  ·exact (.ret (bs (t1.append [.sub (.exit 0) [] [],(I 1)]) (.e1 (Ms h2))))
  ·exact (.ret (bs (t1.append [.sub (.ret) [(4,.n .i64 di)] []]) (.e1 (Ms h2))))))
def FF (gA:List bE)(gk:Int)(aH:List bP):Int→S:=fun iH=>dl [(1,.ref 0 0 0 0),(21,.isl 4 (gA.map bI)),(22,.n .i64 gk),(23,.n .i64 iH)] [[ad.mk 2 [[.isl 4 (gA.map bI),.isl 3 (aH.map bS)]] .live]]
def FP (gA:List bE)(gk:Int)(aH:List bP):((Unit)⊕(Unit))→dq
 | .inl a=>⟨some 0,[(1,.ref 0 0 0 0)],[[ad.mk 2 [[.isl 4 (gA.map bI),.isl 3 (aH.map bS)]] .live]]⟩
 | .inr a=>⟨none,[(2,.b false)],[]⟩
def qZ (gA:List bE)(gk:Int)(aH:List bP)(iH:Int):Option ((Int)⊕((Unit)⊕(Unit))) :=
 if (decide (iH<gk))=true then
  if 0≤iH∧iH<gA.length then
  gA[iH.toNat]? >>= fun aE =>
  o9 aE >>= fun aK =>
  if aK=true then
   tY (⟨gA,aH⟩:cI) aE.k6 >>= fun cZ =>
   if (cZ != iH)=true then
    some (.inr (.inr ()))
   else
    some (.inl (J (iH+(1:Int))))
  else
   some (.inr (.inr ()))
  else none
 else
  some (.inr (.inl ()))
def q3 (gA:List bE)(gk:Int)(aH:List bP)(iH:Int):Option ((Unit)⊕(Unit)):=iter (fun w:Int=>qZ gA gk aH w) iH
theorem S7 {gA:List bE}{gk:Int}{aH:List bP}{iH:Int}:bx (qZ gA gk aH iH) (dP a7 102 0 25 [1,1,0,1,0,0] (FF gA gk aH iH) (FF gA gk aH) (FP gA gk aH)):=by
 unfold qZ
 exact .ite (fun h1 =>
  .aY fun h2 =>
  .ar fun aE au =>
  .ar fun aK aX =>
  (let t1:List bY:=[(I 1),.U true,.ay (bq 2 (.b2 (bI aE)) 3)];
  have aS:=((.dU h1 h2.1 (cO bI h2.2) (bU bI au) (Wo aK aX) (b7.b aK)):cp _);
  .ite (fun bb =>
  .ar fun cZ cj =>
  (let t3:List bY:=t1.append [.ay (ai 1 (al (bp 1 (.b aK) true) (ai 5 (al (bp 2 (.n .i64 cZ) true) (ai 2 (al (.U false) []))))))];
  have eO:=aS.aG (.bg (cV bb) (cV bb) (cV bb) (cV bb) (Vh cZ cj) (b7.n .i64 cZ) (cV bb) (cV bb) (.e1 (cV bb)));
  .ite (fun cM =>
  .ret (bf (t3.append [.U true,(I 1),.aN [] [] (a6 [2])]) (eO.aG (.e1 cM))))
  (fun cM =>
  .ret (bf (t3.append [.U false,(I 2),.aN [0] [.box [.id,.id]] (a6 [1,21,22,23])]) (eO.aG (.e1 cM))))))
  (fun bb =>
  .ret (bf (t1.append [.ay (ai 1 (al (bp 1 (.b aK) true) (ai 2 (ck 6 (al (.U true) []))))),.U true,(I 1),.aN [] [] (a6 [2])]) (aS.aG (.gJ (cT bb) (cT bb) (cT bb) (cT bb) (cT bb) (cT bb) (cT bb) cv))))))
  (fun h1 =>
  .ret (bf [(I 1),.U false,.aN [0] [.box [.id,.id]] (a6 [1])] (.e1 h1)))
theorem Mo {gA:List bE}{gk:Int}{aH:List bP}{iH:Int}{r} (h:q3 gA gk aH iH=some r):dQ a7 102 0 25 [1,1,0,1,0,0] (FF gA gk aH) (FP gA gk aH) iH r:=dR (fun _=>S7) h
def FG (nT:Int)(jl:List bP)(eW:Int)(aI:List bE):Int→S:=fun gp=>dl [(1,.ref 0 0 0 0),(5,.n .i64 nT),(45,.isl 3 (jl.map bS)),(46,.n .i64 eW),(47,.n .i64 gp)] [[ad.mk 2 [[.isl 4 (aI.map bI),.isl 3 (jl.map bS)]] .live]]
def Mk (nT:Int)(jl:List bP)(eW:Int)(aI:List bE):((Unit)⊕(Unit))→dq
 | .inl a=>⟨some 2,[],[]⟩
 | .inr a=>⟨none,[(2,.b false)],[]⟩
def yQ (nT:Int)(jl:List bP)(eW:Int)(aI:List bE)(gp:Int):Option ((Int)⊕((Unit)⊕(Unit))) :=
 if (decide (gp<eW))=true then
  if 0≤gp∧gp<jl.length then
  jl[gp.toNat]? >>= fun aE =>
  my aE.dE 0 nT >>= fun aK =>
  if aK=true then
   my aE.eg 0 nT >>= fun cZ =>
   if cZ=true then
    my aE.iU 1 3 >>= fun c0 =>
    if c0=true then
     if 0≤aE.dE∧aE.dE<aI.length then
     aI[aE.dE.toNat]? >>= fun yt =>
     if 0≤aE.eg∧aE.eg<aI.length then
     aI[aE.eg.toNat]? >>= fun yu =>
     if (yt.jZ == yu.jZ)=true then
      if (yt.j0 == yu.j0)=true then
       some (.inr (.inr ()))
      else
       if yt.k3=true then
        if yu.k3=true then
         some (.inr (.inr ()))
        else
         some (.inl (J (gp+(1:Int))))
       else
        some (.inl (J (gp+(1:Int))))
     else
      if yt.k3=true then
       if yu.k3=true then
        some (.inr (.inr ()))
       else
        some (.inl (J (gp+(1:Int))))
      else
       some (.inl (J (gp+(1:Int))))
     else none
     else none
    else
     some (.inr (.inr ()))
   else
    some (.inr (.inr ()))
  else
   some (.inr (.inr ()))
  else none
 else
  some (.inr (.inl ()))
def Ct (nT:Int)(jl:List bP)(eW:Int)(aI:List bE)(gp:Int):Option ((Unit)⊕(Unit)):=iter (fun w:Int=>yQ nT jl eW aI w) gp
theorem S8 {nT:Int}{jl:List bP}{eW:Int}{aI:List bE}{gp:Int}:bx (yQ nT jl eW aI gp) (dP a7 102 0 25 [1,1,1,1,0,1,0,0] (FG nT jl eW aI gp) (FG nT jl eW aI) (Mk nT jl eW aI)):=by
 unfold yQ
 exact .ite (fun h1 =>
  .aY fun h2 =>
  .ar fun aE au =>
  .ar fun aK aX =>
  (let t1:List bY:=[(I 1),.U true,.ay (bq 1 (.b2 (bS aE)) 2)];
  have aS:=((.dU h1 h2.1 (cO bS h2.2) (bU bS au) (pG aK aX) (b7.b aK)):cp _);
  .ite (fun bb =>
  .ar fun cZ cj =>
  (have fA:=aS.aG (.gJ (cV bb) (cV bb) (cV bb) (cV bb) (pG cZ cj) (b7.b cZ) (cV bb) (cV bb));
  .ite (fun cM =>
  .ar fun c0 eR =>
  (let t4:List bY:=t1.append [.ay (ai 3 (al (bp 3 (.b aK) true) (ai 5 (al (bp 3 (.b cZ) true) (ai 1 (al (.U false) (ai 3 (al (bp 3 (.b c0) true) (ai 1 (al (.U false) []))))))))))];
  have ma:=fA.aG (.eE (cV cM) (cV cM) (cV cM) (pG c0 eR) (b7.b c0) (cV cM) (cV cM));
  .ite (fun el =>
  .aY fun ew =>
  .ar fun yt hO =>
  .aY fun hn =>
  .ar fun yu gr =>
  (let t6:List bY:=t4.append [.U false,.ay (bq 5 (.b2 (bI yt)) 2),.ay (bq 5 (.b2 (bI yu)) 2)];
  have L1:=ma.aG (.eE (cV el) ew.1 (cO bI ew.2) (bU bI hO) hn.1 (cO bI hn.2) (bU bI gr));
  .ite (fun fh =>
  .ite (fun gS =>
  .ret (bf (t6.append [.ay (ai 11 (al (.U true) (ai 1 (ck 3 (ai 2 (ck 1 (al (.U true) []))))))),.U true,(I 1),.aN [] [] (a6 [2])]) (L1.aG (.bg fh fh fh fh fh fh gS gS (.c5 gS gS gS cv)))))
  (fun gS =>
  (have mu:=L1.aG (.bg fh fh fh fh fh fh gS gS (.e1 gS));
  .ite (fun jq =>
  (let t9:List bY:=t6.append [.ay (ai 11 (al (.U true) (ai 6 (al (.U true) (al (.U false) [])))))];
  .ite (fun mR =>
  .ret (bf (t9.append [.U true,(I 1),.aN [] [] (a6 [2])]) (mu.aG (.dU jq jq gS jq gS mR))))
  (fun mR =>
  .ret (bf (t9.append [.U false,(I 2),.aN [0] [.box [.id,.id]] (a6 [1,5,45,46,47])]) (mu.aG (.dU jq jq gS jq gS mR))))))
  (fun jq =>
  .ret (bf (t6.append [.ay (ai 11 (al (.U true) (ai 4 (ck 2 (al (.U false) (al (.U false) [])))))),.U false,(I 2),.aN [0] [.box [.id,.id]] (a6 [1,5,45,46,47])]) (mu.aG (.dU jq jq gS jq gS cL)))))))
  (fun fh =>
  (have mu:=L1.aG (.bg fh fh fh fh fh fh cL cL (.e1 cL));
  .ite (fun gS =>
  (let t9:List bY:=t6.append [.ay (ai 6 (ck 5 (al (.U false) (bq 6 (.U true) 1))))];
  .ite (fun jq =>
  .ret (bf (t9.append [.U true,(I 1),.aN [] [] (a6 [2])]) (mu.aG (.dg gS gS cL gS jq))))
  (fun jq =>
  .ret (bf (t9.append [.U false,(I 2),.aN [0] [.box [.id,.id]] (a6 [1,5,45,46,47])]) (mu.aG (.dg gS gS cL gS jq))))))
  (fun gS =>
  .ret (bf (t6.append [.ay (ai 6 (ck 5 (al (.U false) (ai 4 (ck 2 (al (.U false) (ai 1 []))))))),.U false,(I 2),.aN [0] [.box [.id,.id]] (a6 [1,5,45,46,47])]) (mu.aG (.dg gS gS cL gS cL))))))))
  (fun el =>
  .ret (bf (t4.append [.U true,(I 1),.aN [] [] (a6 [2])]) (ma.aG (.e1 (cT el)))))))
  (fun cM =>
  .ret (bf (t1.append [.ay (ai 3 (al (bp 3 (.b aK) true) (ai 5 (al (bp 3 (.b cZ) true) (ai 1 (al (.U false) (ai 1 (ck 4 (al (.U true) []))))))))),.U true,(I 1),.aN [] [] (a6 [2])]) (fA.aG (.dU (cT cM) (cT cM) (cT cM) (cT cM) (cT cM) cv))))))
  (fun bb =>
  .ret (bf (t1.append [.ay (ai 3 (al (bp 3 (.b aK) true) (ai 2 (ck 5 (al (.U true) (ai 1 (ck 4 (ai 1 [])))))))),.U true,(I 1),.aN [] [] (a6 [2])]) (aS.aG (.bg (cT bb) (cT bb) (cT bb) (cT bb) (cT bb) (cT bb) cv cv (.bO cv cv cv)))))))
  (fun h1 =>
  .ret (bf [(I 1),.U false,.aN [] [] []] (.e1 h1)))
theorem Mp {nT:Int}{jl:List bP}{eW:Int}{aI:List bE}{gp:Int}{r} (h:Ct nT jl eW aI gp=some r):dQ a7 102 0 25 [1,1,1,1,0,1,0,0] (FG nT jl eW aI) (Mk nT jl eW aI) gp r:=dR (fun _=>S8) h
def j2 (aJ:cI):Option Bool :=
 if (decide ((6:Int)<(len_ bI aJ.bZ)))=true then
  some false
 else
  if (decide ((8:Int)<(len_ bS aJ.bG)))=true then
   some false
  else
   q3 aJ.bZ (len_ bI aJ.bZ) aJ.bG 0 >>= fun bd =>
   match bd with
   | .inl fP=>(Ct (J ((len_ bI aJ.bZ)-(1:Int))) aJ.bG (len_ bS aJ.bG) aJ.bZ 0 >>= fun cc =>
    match cc with
    | .inl l9=>(some true)
    | .inr l9=>(some false))
   | .inr fP=>(some false)
theorem U3 {aJ:cI}:bx (j2 aJ) (fun r=>Con a7 25 [.agg (hf aJ)] [] (.b r) []):=by
 unfold j2
 exact .ite (fun h1 =>
  .ret (bs [(I 2),.ay (ai 5 (ck 4 (al (.U true) []))),.U true,(I 1)] (.dU h1 h1 h1 h1 h1 cv)))
  (fun h1 =>
  (let t1:List bY:=[(I 2),.ay (ai 9 (al (.U false) []))];
  .ite (fun h2 =>
  .ret (bs (t1.append [.U true,(I 1)]) (.dU h1 h1 h1 h1 h1 h2)))
  (fun h2 =>
  .ar fun bd au =>
  (let t2:List bY:=t1.append [.U false,(I 4),.aN [0] [.box [.id,.id]] (a6 [1,21,22,23])];
  (by
  rcases bd with fP|fP
  ·exact (.ar fun cc bb =>
  (let t3:List bY:=t2.append [(FP aJ.bZ (len_ bI aJ.bZ) aJ.bG (.inl fP)).e8,(I 5),(I 4),.aN [0] [.box [.id,.id]] (a6 [1,5,45,46,47])];
  have eO:=((.eE h1 h1 h1 h1 h1 h2 (Mo au)):cp _);
  (by
  rcases cc with l9|l9
  ·exact (.ret (bs (t3.append [.sub (.exit 2) [] [],(I 1)]) (eO.aG (.e1 (Mp bb)))))
  ·exact (.ret (bs (t3.append [.sub (.ret) [(2,.b false)] []]) (eO.aG (.e1 (Mp bb))))))))
  ·exact (.ret (bs (t2.append [.sub (.ret) [(2,.b false)] []]) (.eE h1 h1 h1 h1 h1 h2 (Mo au)))))))))
def G9 (gP:List Int)(fw:Int):Int→S:=fun gA=>dl [(19,.isl 1 (gP.map eI)),(20,.n .i64 fw),(21,.n .i64 gA)] []
def MK (gP:List Int)(fw:Int):((Unit)⊕(Unit))→dq
 | .inl a=>⟨some 0,[],[]⟩
 | .inr a=>⟨none,[(4,.b false)],[]⟩
def wE (gP:List Int)(fw gA:Int):Option ((Int)⊕((Unit)⊕(Unit))) :=
 if (decide (gA<fw))=true then
  if 0≤gA∧gA<gP.length then
  gP[gA.toNat]? >>= fun aE =>
  my aE (-100) 100 >>= fun aK =>
  if aK=true then
   some (.inl (J (gA+(1:Int))))
  else
   some (.inr (.inr ()))
  else none
 else
  some (.inr (.inl ()))
def II (gP:List Int)(fw gA:Int):Option ((Unit)⊕(Unit)):=iter (fun w:Int=>wE gP fw w) gA
theorem Uf {gP:List Int}{fw gA:Int}:bx (wE gP fw gA) (dP a7 29 0 13 [1,1,0,1,0,0] (G9 gP fw gA) (G9 gP fw) (MK gP fw)):=by
 unfold wE
 exact .ite (fun h1 =>
  .aY fun h2 =>
  .ar fun aE au =>
  .ar fun aK aX =>
  (let t1:List bY:=[(I 1),.U true,.ay (bq 1 (.b2 (eI aE)) 1),.ay (bq 1 (bp 3 (.b aK) true) 1)];
  have aS:=((.dU h1 h2.1 (cO eI h2.2) (bU eI au) (pG aK aX) (b7.b aK)):cp _);
  .ite (fun bb =>
  .ret (bf (t1.append [.U false,(I 2),.aN [] [] (a6 [19,20,21])]) (aS.aG (.e1 (cV bb)))))
  (fun bb =>
  .ret (bf (t1.append [.U true,(I 1),.aN [] [] (a6 [4])]) (aS.aG (.e1 (cT bb)))))))
  (fun h1 =>
  .ret (bf [(I 1),.U false,.aN [] [] []] (.e1 h1)))
theorem MU {gP:List Int}{fw gA:Int}{r} (h:II gP fw gA=some r):dQ a7 29 0 13 [1,1,0,1,0,0] (G9 gP fw) (MK gP fw) gA r:=dR (fun _=>Uf) h
def sJ (aJ:cI)(cH:List Int):Option Bool :=
 j2 aJ >>= fun r1 =>
 if r1=true then
  if ((len_ eI cH) != (J ((2:Int)*(len_ bI aJ.bZ))))=true then
   some false
  else
   II cH (len_ eI cH) 0 >>= fun aK =>
   match aK with
   | .inl oQ=>(some true)
   | .inr oQ=>(some false)
 else
  some false
theorem Ng {aJ:cI}{cH:List Int}:bx (sJ aJ cH) (fun r=>Con a7 13 [.agg (hf aJ),.isl 1 (cH.map eI)] [] (.b r) []):=by
 unfold sJ
 exact .ar fun r1 h2 =>
  (have ae:=((.e2 (U3 r1 h2) (b7.b r1)):cp _);
  .ite (fun ab =>
  (let t2:List bY:=[(I 2),.ay (ai 1 (al (bp 1 (.b r1) true) (ai 9 (al (.U false) []))))];
  have fA:=ae.aG (.gJ (cV ab) (cV ab) (cV ab) (cV ab) (cV ab) (cV ab) (cV ab) (cV ab));
  .ite (fun au =>
  .ret (bs (t2.append [.U true,(I 1)]) (fA.aG (.e1 au))))
  (fun au =>
  .ar fun aK aX =>
  (let t4:List bY:=t2.append [.U false,(I 3),.aN [] [] (a6 [19,20,21])];
  (by
  rcases aK with oQ|oQ
  ·exact (.ret (bs (t4.append [.sub (.exit 0) [] [],(I 1)]) (fA.aG (.e2 au (MU aX)))))
  ·exact (.ret (bs (t4.append [.sub (.ret) [(4,.b false)] []]) (fA.aG (.e2 au (MU aX))))))))))
  (fun ab =>
  .ret (bs [(I 2),.ay (ai 1 (al (bp 1 (.b r1) true) (ai 2 (ck 7 (al (.U true) []))))),.U true,(I 1)] (ae.aG (.bg (cT ab) (cT ab) (cT ab) (cT ab) (cT ab) (cT ab) (cT ab) (cT ab) (.e1 cv))))))
def Ha (aW:Int)(dn:List Int)(df:Int):Int→S:=fun dZ=>dl [(1,.n .i64 aW),(7,.isl 1 (dn.map eI)),(8,.n .i64 df),(9,.n .i64 dZ)] []
def ML (aW:Int)(dn:List Int)(df:Int):((Unit)⊕(Unit))→dq
 | .inl a=>⟨some 0,[],[]⟩
 | .inr a=>⟨none,[(4,.b true)],[]⟩
def wF (aW:Int)(dn:List Int)(df dZ:Int):Option ((Int)⊕((Unit)⊕(Unit))) :=
 if (decide (dZ<df))=true then
  if 0≤dZ∧dZ<dn.length then
  dn[dZ.toNat]? >>= fun aE =>
  if (aE == aW)=true then
   some (.inr (.inr ()))
  else
   some (.inl (J (dZ+(1:Int))))
  else none
 else
  some (.inr (.inl ()))
def IJ (aW:Int)(dn:List Int)(df dZ:Int):Option ((Unit)⊕(Unit)):=iter (fun w:Int=>wF aW dn df w) dZ
theorem Ug {aW:Int}{dn:List Int}{df dZ:Int}:bx (wF aW dn df dZ) (dP a7 17 0 28 [1,0,1,0,0] (Ha aW dn df dZ) (Ha aW dn df) (ML aW dn df)):=by
 unfold wF
 exact .ite (fun h1 =>
  .aY fun h2 =>
  .ar fun aE au =>
  (let t1:List bY:=[(I 1),.U true,.ay (bq 1 (.b2 (eI aE)) 1),(I 3)];
  have aS:=((.c5 h1 h2.1 (cO eI h2.2) (bU eI au)):cp _);
  .ite (fun aA =>
  .ret (bf (t1.append [.U true,(I 1),.aN [] [] (a6 [4])]) (aS.aG (.e1 aA))))
  (fun aA =>
  .ret (bf (t1.append [.U false,(I 2),.aN [] [] (a6 [1,7,8,9])]) (aS.aG (.e1 aA))))))
  (fun h1 =>
  .ret (bf [(I 1),.U false,.aN [] [] []] (.e1 h1)))
theorem MV {aW:Int}{dn:List Int}{df dZ:Int}{r} (h:IJ aW dn df dZ=some r):dQ a7 17 0 28 [1,0,1,0,0] (Ha aW dn df) (ML aW dn df) dZ r:=dR (fun _=>Ug) h
def zL (cH:List Int)(aW:Int):Option Bool :=
 IJ aW cH (len_ eI cH) 0 >>= fun r1 =>
 match r1 with
 | .inl di=>(some false)
 | .inr di=>(some true)
theorem WL {cH:List Int}{aW:Int}:bx (zL cH aW) (fun r=>Con a7 28 [.isl 1 (cH.map eI),.n .i64 aW] [] (.b r) []):=by
 unfold zL
 exact .ar fun r1 h2 =>
  (let t1:List bY:=[(I 1),(I 3),.aN [] [] (a6 [1,7,8,9])];
  (by
  rcases r1 with di|di
  ·exact (.ret (bs (t1.append [.sub (.exit 0) [] [],(I 1)]) (.e1 (MV h2))))
  ·exact (.ret (bs (t1.append [.sub (.ret) [(4,.b true)] []]) (.e1 (MV h2))))))
def Fs (hv:List Int)(bT:List bP)(de:Int)(ax:List bE):(Int×(List bP))→S:=fun (dV,ah)=>dl [(1,.isl 1 (hv.map eI)),(4,.ref 0 0 0 0),(5,.ref 1 0 0 0),(14,.isl 3 (bT.map bS)),(15,.n .i64 de),(16,.n .i64 dV)] [[ad.mk 2 [[.ei,.ei]] .live],[ad.mk 2 [[.bk 2 0 0 ax.length,.bk 3 0 0 ah.length]] .live],(ae 4 bI ax),(ae 3 bS ah)]
def FA (hv:List Int)(bT:List bP)(de:Int)(ax:List bE):(List bP)→dq
 | a=>⟨some 0,[(4,.ref 0 0 0 0),(5,.ref 1 0 0 0)],[[ad.mk 2 [[.ei,.ei]] .live],[ad.mk 2 [[.bk 2 0 0 ax.length,.bk 3 0 0 a.length]] .live],(ae 4 bI ax),(ae 3 bS a)]⟩
def vN (hv:List Int)(bT:List bP)(de:Int)(ax:List bE)(dV:Int)(ah:List bP):Option ((Int×(List bP))⊕((List bP))) :=
 if (decide (dV<de))=true then
  if 0≤dV∧dV<bT.length then
  bT[dV.toNat]? >>= fun aE =>
  zL hv dV >>= fun aK =>
  if aK=true then
   some (.inl (J (dV+(1:Int)),ah))
  else
   if (ah++([aE]:List bP)).length*24≤140737488355328 then
   some (.inl (J (dV+(1:Int)),ah++([aE]:List bP)))
   else none
  else none
 else
  some (.inr ah)
def F9 (hv:List Int)(bT:List bP)(de:Int)(ax:List bE)(dV:Int)(ah:List bP):Option ((List bP)):=iter (fun w:Int×(List bP)=>vN hv bT de ax w.1 w.2) (dV,ah)
theorem SY {hv:List Int}{bT:List bP}{de:Int}{ax:List bE}{dV:Int}{ah:List bP}:bx (vN hv bT de ax dV ah) (dP a7 33 0 16 [1,1,0,1,0,0] (Fs hv bT de ax (dV,ah)) (Fs hv bT de ax) (FA hv bT de ax)):=by
 unfold vN
 exact .ite (fun h1 =>
  .aY fun h2 =>
  .ar fun aE au =>
  .ar fun aK aX =>
  (let t1:List bY:=[(I 1),.U true,.ay (bq 2 (.b2 (bS aE)) 3),.ay (bq 2 (bp 2 (.b aK) true) 1)];
  have aS:=((.dU h1 h2.1 (cO bS h2.2) (bU bS au) (WL aK aX) (b7.b aK)):cp _);
  .ite (fun bb =>
  .ret (bf (t1.append [.U false,(I 2),.aN [0,1,2,3] [.box [.id,.id],.box [.id,.id],.pure,.pure] (a6 [1,4,5,14,15,16])]) (aS.aG (.bO (cV bb) (aF 4 .live mx ax) (aF 3 .live lA ah)))))
  (fun bb =>
  .aY fun bi =>
  .ret (let q1:=(ah++([aE]:List bP));bf (t1.append [.U true,.ay (bq 4 (.aG (q1.length)) 2),(I 2),.aN [0,1,2,19] [.box [.id,.id],.box [.id,.id],.pure,.cu (ae 3 bS q1)] (a6 [1,4,5,14,15,16])]) (aS.aG (.gJ (cT bb) (gx bS aE) (gV bS ah) (gy bS ah aE) bi (aF 4 .live mx ax) (cU 3 .live (ha bS ah aE)) (aF 3 .live lA q1)))))))
  (fun h1 =>
  .ret (bf [(I 1),.U false,.aN [0,1,2,3] [.box [.id,.id],.box [.id,.id],.pure,.pure] (a6 [4,5])] (.bO h1 (aF 4 .live mx ax) (aF 3 .live lA ah))))
theorem Tz {hv:List Int}{bT:List bP}{de:Int}{ax:List bE}{dV:Int}{ah:List bP}{r} (h:F9 hv bT de ax dV ah=some r):dQ a7 33 0 16 [1,1,0,1,0,0] (Fs hv bT de ax) (FA hv bT de ax) (dV,ah) r:=dR (fun _=>SY) h
def wG (aJ:cI)(hv:List Int):Option cI :=
 if (([]:List bE)++aJ.bZ).length*40≤140737488355328 then
 F9 hv aJ.bG (len_ bS aJ.bG) (([]:List bE)++aJ.bZ) 0 ([]:List bP) >>= fun r2 =>
 some (⟨([]:List bE)++aJ.bZ,r2⟩:cI)
 else none
theorem Uh {aJ:cI}{hv:List Int}:bx (wG aJ hv) (fun r=>Con a7 16 [.agg (hf aJ),.isl 1 (hv.map eI)] [] (.agg (hf r)) []):=by
 unfold wG
 exact .aY fun h1 =>
  .ar fun r2 ab =>
  .ret (let q1:=(([]:List bE)++aJ.bZ);bs [(I 2),.ay (bq 3 (.aG (q1.length)) 3),(I 4),.rq 7 1 3,.aN [1,7,5,13] [.box [.id,.id],.box [.id,.len (([]:List bP).length)],.cu (ae 4 bI q1),.cu (ae 3 bS ([]:List bP))] (a6 [1,4,5,14,15,16]),(FA hv aJ.bG (len_ bS aJ.bG) q1 r2).e8,(I 2)] (.bg (m1 (show []=(([]:List bE)).map bI from rfl) (eY bE)) (lD (eY bE) (cR bI aJ.bZ):q1.length=0+(aJ.bZ.map bI).length) h1 (eY bP) (cU 4 .live (hZ (show []=(([]:List bE)).map bI from rfl) (eY bE) (cR bI aJ.bZ))) (aF 4 .live mx q1) (cU 3 .live (nk bS)) (aF 3 .live lA ([]:List bP)) (.eE (Tz ab) (ga bI q1) (fF bI q1) (du mx q1) (ga bS r2) (fF bS r2) (du lA r2))) (.br (.agg [.ek (q1.map bI),.ek (r2.map bS)])))
def FQ (cX:List bP)(dJ:Int):(Int×(List Int)×(List Int))→S:=fun (b9,aa,ap)=>dl [(4,.bk 0 0 0 aa.length),(5,.bk 1 0 0 ap.length),(11,.isl 3 (cX.map bS)),(12,.n .i64 dJ),(13,.n .i64 b9)] [(ae 1 eI aa),(ae 1 eI ap)]
def Ga (cX:List bP)(dJ:Int):((List Int)×(List Int))→dq
 | a=>⟨some 0,[(4,.bk 0 0 0 a.1.length),(5,.bk 1 0 0 a.2.length)],[(ae 1 eI a.1),(ae 1 eI a.2)]⟩
def vX (cX:List bP)(dJ b9:Int)(aa ap:List Int):Option ((Int×(List Int)×(List Int))⊕((List Int)×(List Int))) :=
 if (decide (b9<dJ))=true then
  if 0≤b9∧b9<cX.length then
  cX[b9.toNat]? >>= fun aE =>
  if (aE.iU != (2:Int))=true then
   if (aa++([b9]:List Int)).length*8≤140737488355328 then
   if (ap++([1]:List Int)).length*8≤140737488355328 then
   if (aE.iU != (1:Int))=true then
    if ((aa++([b9]:List Int))++([b9]:List Int)).length*8≤140737488355328 then
    if ((ap++([1]:List Int))++([(-1)]:List Int)).length*8≤140737488355328 then
    some (.inl (J (b9+(1:Int)),(aa++([b9]:List Int))++([b9]:List Int),(ap++([1]:List Int))++([(-1)]:List Int)))
    else none
    else none
   else
    some (.inl (J (b9+(1:Int)),aa++([b9]:List Int),ap++([1]:List Int)))
   else none
   else none
  else
   if (aE.iU != (1:Int))=true then
    if (aa++([b9]:List Int)).length*8≤140737488355328 then
    if (ap++([(-1)]:List Int)).length*8≤140737488355328 then
    some (.inl (J (b9+(1:Int)),aa++([b9]:List Int),ap++([(-1)]:List Int)))
    else none
    else none
   else
    some (.inl (J (b9+(1:Int)),aa,ap))
  else none
 else
  some (.inr (aa,ap))
def HE (cX:List bP)(dJ b9:Int)(aa ap:List Int):Option ((List Int)×(List Int)):=iter (fun w:Int×(List Int)×(List Int)=>vX cX dJ w.1 w.2.1 w.2.2) (b9,aa,ap)
theorem Tg {cX:List bP}{dJ b9:Int}{aa ap:List Int}:bx (vX cX dJ b9 aa ap) (dP a7 41 0 45 [1,1,1,0,1,0,0] (FQ cX dJ (b9,aa,ap)) (FQ cX dJ) (Ga cX dJ)):=by
 unfold vX
 exact .ite (fun h1 =>
  .aY fun h2 =>
  .ar fun aE au =>
  (let t1:List bY:=[(I 1),.U true,.ay (bq 2 (.b2 (bS aE)) 3),(I 3)];
  have aS:=((.c5 h1 h2.1 (cO bS h2.2) (bU bS au)):cp _);
  .ite (fun aA =>
  .aY fun aX =>
  .aY fun bb =>
  (let t3:List bY:=t1.append [.U true,.ay (bq 3 (.aG ((aa++([b9]:List Int)).length)) 1),.ay (bq 2 (.aG ((ap++([1]:List Int)).length)) 1),(I 3)];
  have eO:=aS.aG (.bg aA (gx eI b9) (gV eI aa) (gy eI aa b9) aX (gx eI 1) (gV eI ap) (gy eI ap 1) (.e1 bb));
  .ite (fun bi =>
  .aY fun cj =>
  .aY fun cM =>
  .ret (let q1:=(aa++([b9]:List Int));let q2:=(ap++([1]:List Int));let bK:=(q2++([(-1)]:List Int));let bW:=(q1++([b9]:List Int));bf (t3.append [.U true,.ay (bq 3 (.aG (bW.length)) 1),.ay (bq 2 (.aG (bK.length)) 1),(I 2),.aN [27,31] [.cu (ae 1 eI bW),.cu (ae 1 eI bK)] (a6 [4,5,11,12,13])]) (eO.aG (.bg bi (gx eI b9) (m1 (ha eI aa b9) (dF q1)) (gy eI q1 b9) cj (gx eI (-1)) (m1 (ha eI ap 1) (dF q2)) (gy eI q2 (-1)) (.dg cM (cU 1 .live (hZ (ha eI aa b9) (dF q1) (vn eI b9))) (aF 1 .live aO bW) (cU 1 .live (hZ (ha eI ap 1) (dF q2) (vn eI (-1)))) (aF 1 .live aO bK))))))
  (fun bi =>
  .ret (let cD:=(aa++([b9]:List Int));let d5:=(ap++([1]:List Int));bf (t3.append [.U false,(I 2),.aN [15,19] [.cu (ae 1 eI cD),.cu (ae 1 eI d5)] (a6 [4,5,11,12,13])]) (eO.aG (.dg bi (cU 1 .live (ha eI aa b9)) (aF 1 .live aO cD) (cU 1 .live (ha eI ap 1)) (aF 1 .live aO d5)))))))
  (fun aA =>
  .ite (fun aX =>
  .aY fun bb =>
  .aY fun bi =>
  .ret (let fJ:=(ap++([(-1)]:List Int));let eB:=(aa++([b9]:List Int));bf (t1.append [.U false,(I 3),.U true,.ay (bq 3 (.aG (eB.length)) 1),.ay (bq 2 (.aG (fJ.length)) 1),(I 2),.aN [18,22] [.cu (ae 1 eI eB),.cu (ae 1 eI fJ)] (a6 [4,5,11,12,13])]) (aS.aG (.bg aA aX (gx eI b9) (gV eI aa) (gy eI aa b9) bb (gx eI (-1)) (gV eI ap) (.dU (gy eI ap (-1)) bi (cU 1 .live (ha eI aa b9)) (aF 1 .live aO eB) (cU 1 .live (ha eI ap (-1))) (aF 1 .live aO fJ))))))
  (fun aX =>
  .ret (bf (t1.append [.U false,(I 3),.U false,(I 2),.aN [0,1] [.pure,.pure] (a6 [4,5,11,12,13])]) (aS.aG (.c5 aA aX (aF 1 .live aO aa) (aF 1 .live aO ap))))))))
  (fun h1 =>
  .ret (bf [(I 1),.U false,.aN [0,1] [.pure,.pure] (a6 [4,5])] (.bO h1 (aF 1 .live aO aa) (aF 1 .live aO ap))))
theorem UB {cX:List bP}{dJ b9:Int}{aa ap:List Int}{r} (h:HE cX dJ b9 aa ap=some r):dQ a7 41 0 45 [1,1,1,0,1,0,0] (FQ cX dJ) (Ga cX dJ) (b9,aa,ap) r:=dR (fun _=>Tg) h
def y9 (aJ:cI):Option ((List Int)×(List Int)) :=
 HE aJ.bG (len_ bS aJ.bG) 0 ([]:List Int) ([]:List Int) >>= fun r1 =>
 some (r1.1,r1.2)
theorem Vi {aJ:cI}:bx (y9 aJ) (fun r=>Con a7 45 [.agg (hf aJ)] [] (.dS [.isl 1 (r.1.map eI),.isl 1 (r.2.map eI)]) []):=by
 unfold y9
 exact .ar fun r1 h2 =>
  .ret (let q1:=(cU 1 .live (show []=(([]:List Int)).map eI from rfl));let q2:=(aF 1 .live aO ([]:List Int));let bK:=(ae 1 eI ([]:List Int));bs [(I 3),(I 2),(I 2),(I 4),.aN [3,5] [.cu bK,.cu bK] [(4,fV (([]:List Int).length)),(5,fV (([]:List Int).length)),(11,ii),(12,ii),(13,ii)],(Ga aJ.bG (len_ bS aJ.bG) r1).e8,(I 4)] (.bg q1 q2 q1 q2 (eY Int) (eY Int) (UB h2) (ga eI r1.1) (.dg (fF eI r1.1) (du aO r1.1) (ga eI r1.2) (fF eI r1.2) (du aO r1.2))) (.comp [.dh (.ek (r1.1.map eI)),.dh (.ek (r1.2.map eI))]))
def GF (df:List bE)(dZ:Int):(Int×(List Int))→S:=fun (cW,aa)=>dl [(3,.bk 0 0 0 aa.length),(8,.isl 4 (df.map bI)),(9,.n .i64 dZ),(10,.n .i64 cW)] [(ae 1 eI aa)]
def Hb (df:List bE)(dZ:Int):(List Int)→dq
 | a=>⟨some 0,[(3,.bk 0 0 0 a.length)],[(ae 1 eI a)]⟩
def yW (df:List bE)(dZ cW:Int)(aa:List Int):Option ((Int×(List Int))⊕((List Int))) :=
 if (decide (cW<dZ))=true then
  if 0≤cW∧cW<df.length then
  df[cW.toNat]? >>= fun aE =>
  if aE.k3=true then
   some (.inl (J (cW+(1:Int)),aa))
  else
   if (aa++([cW]:List Int)).length*8≤140737488355328 then
   some (.inl (J (cW+(1:Int)),aa++([cW]:List Int)))
   else none
  else none
 else
  some (.inr aa)
def Ix (df:List bE)(dZ cW:Int)(aa:List Int):Option ((List Int)):=iter (fun w:Int×(List Int)=>yW df dZ w.1 w.2) (cW,aa)
theorem TT {df:List bE}{dZ cW:Int}{aa:List Int}:bx (yW df dZ cW aa) (dP a7 24 0 47 [1,1,0,1,0,0] (GF df dZ (cW,aa)) (GF df dZ) (Hb df dZ)):=by
 unfold yW
 exact .ite (fun h1 =>
  .aY fun h2 =>
  .ar fun aE au =>
  (let t1:List bY:=[(I 1),.U true,.ay (bq 2 (.b2 (bI aE)) 3),(I 3)];
  have aS:=((.c5 h1 h2.1 (cO bI h2.2) (bU bI au)):cp _);
  .ite (fun aA =>
  .ret (bf (t1.append [.U false,(I 2),.aN [0] [.pure] (a6 [3,8,9,10])]) (aS.aG (.e2 (cV aA) (aF 1 .live aO aa)))))
  (fun aA =>
  .aY fun aX =>
  .ret (let q1:=(aa++([cW]:List Int));bf (t1.append [.U true,.ay (bq 3 (.aG (q1.length)) 1),(I 2),.aN [14] [.cu (ae 1 eI q1)] (a6 [3,8,9,10])]) (aS.aG (.eE (cT aA) (gx eI cW) (gV eI aa) (gy eI aa cW) aX (cU 1 .live (ha eI aa cW)) (aF 1 .live aO q1)))))))
  (fun h1 =>
  .ret (bf [(I 1),.U false,.aN [0] [.pure] (a6 [3])] (.e2 h1 (aF 1 .live aO aa))))
theorem Vj {df:List bE}{dZ cW:Int}{aa:List Int}{r} (h:Ix df dZ cW aa=some r):dQ a7 24 0 47 [1,1,0,1,0,0] (GF df dZ) (Hb df dZ) (cW,aa) r:=dR (fun _=>TT) h
def ua (aJ:cI):Option (List Int) :=
 Ix aJ.bZ (len_ bI aJ.bZ) 0 ([]:List Int) >>= fun r1 =>
 some r1
theorem Iy {aJ:cI}:bx (ua aJ) (fun r=>Con a7 47 [.agg (hf aJ)] [] (.isl 1 (r.map eI)) []):=by
 unfold ua
 exact .ar fun r1 h2 =>
  .ret (bs [(I 2),(I 2),(I 4),.aN [2] [.cu (ae 1 eI ([]:List Int))] [(3,fV (([]:List Int).length)),(8,ii),(9,ii),(10,ii)],(Hb aJ.bZ (len_ bI aJ.bZ) r1).e8,(I 2)] (.eE (cU 1 .live (show []=(([]:List Int)).map eI from rfl)) (aF 1 .live aO ([]:List Int)) (eY Int) (Vj h2) (ga eI r1) (fF eI r1) (du aO r1)) (.br (.dh (.ek (r1.map eI)))))
def w0 (aJ:cI)(bo:Int):Option (Int×Int) :=
 if 0≤bo∧bo<aJ.bG.length then
 aJ.bG[bo.toNat]? >>= fun x2 =>
 if 0≤x2.dE∧x2.dE<aJ.bZ.length then
 aJ.bZ[x2.dE.toNat]? >>= fun kq =>
 if 0≤x2.eg∧x2.eg<aJ.bZ.length then
 aJ.bZ[x2.eg.toNat]? >>= fun l8 =>
 some (J (l8.jZ-kq.jZ),J (l8.j0-kq.j0))
 else none
 else none
 else none
theorem VE {aJ:cI}{bo:Int}:bx (w0 aJ bo) (fun r=>Con a7 76 [.agg (hf aJ),.n .i64 bo] [] (.dS [.n .i64 r.1,.n .i64 r.2]) []):=by
 unfold w0
 exact .aY fun h1 =>
  .ar fun x2 ab =>
  .aY fun au =>
  .ar fun kq aX =>
  .aY fun bb =>
  .ar fun l8 cj =>
  .ret (bs [(I 3),.ay (ai 7 (al (.b2 (bS x2)) (bq 1 (.b2 (bI kq)) 2))),.ay (ai 7 (al (.b2 (bS x2)) (bq 1 (.b2 (bI l8)) 2))),(I 12)] (.bg h1.1 (cO bS h1.2) (bU bS ab) au.1 (cO bI au.2) (bU bI aX) h1.1 (cO bS h1.2) (.c5 (bU bS ab) bb.1 (cO bI bb.2) (bU bI cj))))
def GG (af:Int)(bT:List Int)(de dV:Int)(iH:List bP)(jM:Int)(aI:List bE)(ap:List Int):(Int×(List Int)×(List Int))→S:=fun (h4,ax,ah)=>dl [(1,.ref 0 0 0 0),(3,.bk 1 0 0 ap.length),(5,.n .i64 af),(6,.bk 2 0 0 ax.length),(7,.bk 3 0 0 ah.length),(14,.isl 1 (bT.map eI)),(15,.n .i64 de),(16,.n .i64 dV),(23,.isl 3 (iH.map bS)),(24,.n .i64 jM),(25,.n .i64 h4)] [[ad.mk 2 [[.isl 4 (aI.map bI),.isl 3 (iH.map bS)]] .live],(ae 1 eI ap),(ae 1 eI ax),(ae 1 eI ah)]
def Hc (af:Int)(bT:List Int)(de dV:Int)(iH:List bP)(jM:Int)(aI:List bE)(ap:List Int):((List Int)×(List Int))→dq
 | a=>⟨some 2,[(1,.ref 0 0 0 0),(3,.bk 1 0 0 ap.length),(6,.bk 2 0 0 a.1.length),(7,.bk 3 0 0 a.2.length),(14,.isl 1 (bT.map eI)),(15,.n .i64 de),(16,.n .i64 dV)],[[ad.mk 2 [[.isl 4 (aI.map bI),.isl 3 (iH.map bS)]] .live],(ae 1 eI ap),(ae 1 eI a.1),(ae 1 eI a.2)]⟩
def wq (af:Int)(bT:List Int)(de dV:Int)(iH:List bP)(jM:Int)(aI:List bE)(ap:List Int)(h4:Int)(ax ah:List Int):Option ((Int×(List Int)×(List Int))⊕((List Int)×(List Int))) :=
 if (decide (h4<jM))=true then
  if 0≤h4∧h4<iH.length then
  iH[h4.toNat]? >>= fun aE =>
  w0 (⟨aI,iH⟩:cI) h4 >>= fun aK =>
  if (af == aE.dE)=true then
   if (ax++([aK.1]:List Int)).length*8≤140737488355328 then
   if (ah++([aK.2]:List Int)).length*8≤140737488355328 then
   some (.inl (J (h4+(1:Int)),ax++([aK.1]:List Int),ah++([aK.2]:List Int)))
   else none
   else none
  else
   if (af == aE.eg)=true then
    if (ax++([J (0-aK.1)]:List Int)).length*8≤140737488355328 then
    if (ah++([J (0-aK.2)]:List Int)).length*8≤140737488355328 then
    some (.inl (J (h4+(1:Int)),ax++([J (0-aK.1)]:List Int),ah++([J (0-aK.2)]:List Int)))
    else none
    else none
   else
    if (ax++([0]:List Int)).length*8≤140737488355328 then
    if (ah++([0]:List Int)).length*8≤140737488355328 then
    some (.inl (J (h4+(1:Int)),ax++([0]:List Int),ah++([0]:List Int)))
    else none
    else none
  else none
 else
  some (.inr (ax,ah))
def CI (af:Int)(bT:List Int)(de dV:Int)(iH:List bP)(jM:Int)(aI:List bE)(ap:List Int)(h4:Int)(ax ah:List Int):Option ((List Int)×(List Int)):=iter (fun w:Int×(List Int)×(List Int)=>wq af bT de dV iH jM aI ap w.1 w.2.1 w.2.2) (h4,ax,ah)
theorem TU {af:Int}{bT:List Int}{de dV:Int}{iH:List bP}{jM:Int}{aI:List bE}{ap:List Int}{h4:Int}{ax ah:List Int}:bx (wq af bT de dV iH jM aI ap h4 ax ah) (dP a7 78 0 46 [1,1,0,1,0,0,1,1,0,0,1,1,1,0,1,0,0] (GG af bT de dV iH jM aI ap (h4,ax,ah)) (GG af bT de dV iH jM aI ap) (Hc af bT de dV iH jM aI ap)):=by
 unfold wq
 exact .ite (fun h1 =>
  .aY fun h2 =>
  .ar fun aE au =>
  .ar fun aK aX =>
  (let t1:List bY:=[(I 1),.U true,.ay (bq 2 (.b2 (bS aE)) 3),.ay (bq 2 (bp 2 (.dS [.n .i64 aK.1,.n .i64 aK.2]) true) 5),(I 1),(I 4)];
  have aS:=((.dU h1 h2.1 (cO bS h2.2) (bU bS au) (VE aK aX) (DK (oV (b7.n .i64 aK.1) (oV (b7.n .i64 aK.2) uF)))):cp _);
  .ite (fun bb =>
  .aY fun bi =>
  .aY fun cj =>
  .ret (let q1:=(ax++([aK.1]:List Int));let q2:=(ah++([aK.2]:List Int));bf (t1.append [.U true,.ay (bq 3 (.aG (q1.length)) 1),.ay (bq 3 (.aG (q2.length)) 1),(I 2),.aN [0,1,27,32] [.box [.id,.id],.pure,.cu (ae 1 eI q1),.cu (ae 1 eI q2)] (a6 [1,3,5,6,7,14,15,16,23,24,25])]) (aS.aG (.bg bb (gx eI aK.1) (gV eI ax) (gy eI ax aK.1) bi (gx eI aK.2) (gV eI ah) (gy eI ah aK.2) (.dU cj (aF 1 .live aO ap) (cU 1 .live (ha eI ax aK.1)) (aF 1 .live aO q1) (cU 1 .live (ha eI ah aK.2)) (aF 1 .live aO q2))))))
  (fun bb =>
  .ite (fun bi =>
  .aY fun cj =>
  .aY fun cM =>
  .ret (let cD:=J (0-aK.1);let bK:=(ax++([cD]:List Int));let d5:=J (0-aK.2);let bW:=(ah++([d5]:List Int));bf (t1.append [.U false,(I 4),.U true,.ay (bq 4 (.aG (bK.length)) 1),.ay (bq 4 (.aG (bW.length)) 1),(I 2),.aN [0,1,32,38] [.box [.id,.id],.pure,.cu (ae 1 eI bK),.cu (ae 1 eI bW)] (a6 [1,3,5,6,7,14,15,16,23,24,25])]) (aS.aG (.bg bb bi (gx eI cD) (gV eI ax) (gy eI ax cD) cj (gx eI d5) (gV eI ah) (.eE (gy eI ah d5) cM (aF 1 .live aO ap) (cU 1 .live (ha eI ax cD)) (aF 1 .live aO bK) (cU 1 .live (ha eI ah d5)) (aF 1 .live aO bW))))))
  (fun bi =>
  .aY fun cj =>
  .aY fun cM =>
  .ret (let fJ:=(ax++([0]:List Int));let eB:=(ah++([0]:List Int));bf (t1.append [.U false,(I 4),.U false,.ay (bq 2 (.aG (fJ.length)) 1),.ay (bq 2 (.aG (eB.length)) 1),(I 2),.aN [0,1,30,34] [.box [.id,.id],.pure,.cu (ae 1 eI fJ),.cu (ae 1 eI eB)] (a6 [1,3,5,6,7,14,15,16,23,24,25])]) (aS.aG (.bg bb bi (gx eI 0) (gV eI ax) (gy eI ax 0) cj (gx eI 0) (gV eI ah) (.eE (gy eI ah 0) cM (aF 1 .live aO ap) (cU 1 .live (ha eI ax 0)) (aF 1 .live aO fJ) (cU 1 .live (ha eI ah 0)) (aF 1 .live aO eB)))))))))
  (fun h1 =>
  .ret (bf [(I 1),.U false,.aN [0,1,2,3] [.box [.id,.id],.pure,.pure,.pure] (a6 [1,3,6,7,14,15,16])] (.c5 h1 (aF 1 .live aO ap) (aF 1 .live aO ax) (aF 1 .live aO ah))))
theorem Vk {af:Int}{bT:List Int}{de dV:Int}{iH:List bP}{jM:Int}{aI:List bE}{ap:List Int}{h4:Int}{ax ah:List Int}{r} (h:CI af bT de dV iH jM aI ap h4 ax ah=some r):dQ a7 78 0 46 [1,1,0,1,0,0,1,1,0,0,1,1,1,0,1,0,0] (GG af bT de dV iH jM aI ap) (Hc af bT de dV iH jM aI ap) (h4,ax,ah) r:=dR (fun _=>TU) h
def GH (bT:List Int)(de:Int)(aI:List bE)(aH:List bP):(Int×(List Int))→S:=fun (dV,ap)=>dl [(1,.ref 0 0 0 0),(3,.bk 1 0 0 ap.length),(14,.isl 1 (bT.map eI)),(15,.n .i64 de),(16,.n .i64 dV)] [[ad.mk 2 [[.isl 4 (aI.map bI),.isl 3 (aH.map bS)]] .live],(ae 1 eI ap)]
def Hd (bT:List Int)(de:Int)(aI:List bE)(aH:List bP):(List Int)→dq
 | a=>⟨some 0,[(3,.bk 0 0 0 a.length)],[(ae 1 eI a)]⟩
def wt (bT:List Int)(de:Int)(aI:List bE)(aH:List bP)(dV:Int)(ap:List Int):Option ((Int×(List Int))⊕((List Int))) :=
 if (decide (dV<de))=true then
  if 0≤dV∧dV<bT.length then
  bT[dV.toNat]? >>= fun aE =>
  CI aE bT de dV aH (len_ bS aH) aI ap 0 ([]:List Int) ([]:List Int) >>= fun aK =>
  if (ap++aK.1).length*8≤140737488355328 then
  if ((ap++aK.1)++aK.2).length*8≤140737488355328 then
  some (.inl (J (dV+(1:Int)),(ap++aK.1)++aK.2))
  else none
  else none
  else none
 else
  some (.inr ap)
def Iz (bT:List Int)(de:Int)(aI:List bE)(aH:List bP)(dV:Int)(ap:List Int):Option ((List Int)):=iter (fun w:Int×(List Int)=>wt bT de aI aH w.1 w.2) (dV,ap)
theorem TV {bT:List Int}{de:Int}{aI:List bE}{aH:List bP}{dV:Int}{ap:List Int}:bx (wt bT de aI aH dV ap) (dP a7 78 0 46 [1,1,0,1,0,0] (GH bT de aI aH (dV,ap)) (GH bT de aI aH) (Hd bT de aI aH)):=by
 unfold wt
 exact .ite (fun h1 =>
  .aY fun h2 =>
  .ar fun aE au =>
  .ar fun aK aX =>
  .aY fun bb =>
  .aY fun bi =>
  .ret (let q1:=(cU 1 .live (show []=(([]:List Int)).map eI from rfl));let q2:=dF (ap++aK.1);let bK:=(aF 1 .live aO ([]:List Int));let bW:=cR eI aK.1;let cD:=(ae 1 eI ([]:List Int));bf [(I 1),.U true,.ay (bq 1 (.b2 (eI aE)) 1),(I 2),(I 2),(I 4),.aN [0,1,6,8] [.box [.id,.id],.pure,.cu cD,.cu cD] [(1,ii),(3,ii),(5,ii),(6,fV (([]:List Int).length)),(7,fV (([]:List Int).length)),(14,ii),(15,ii),(16,ii),(23,ii),(24,ii),(25,ii)],(Hc aE bT de dV aH (len_ bS aH) aI ap aK).e8,.ay (bq 2 (.aG ((ap++aK.1).length)) 1),.ay (bq 2 (.aG (((ap++aK.1)++aK.2).length)) 1),(I 2),.aN [0,10] [.box [.id,.id],.cu (ae 1 eI ((ap++aK.1)++aK.2))] (a6 [1,3,14,15,16])] (.bg h1 h2.1 (cO eI h2.2) (bU eI au) (aF 1 .live aO ap) q1 bK q1 (.bg bK (eY Int) (eY Int) (Vk aX) (fF eI aK.1) (gV eI ap) (lD (dF ap) (nS bW (dF aK.1)):(ap++aK.1).length=ap.length+(((aK.1.map eI).drop 0).take aK.1.length).length) bb (.dU (fF eI aK.2) (m1 (hZ (cR eI ap) (dF ap) (nS bW (dF aK.1))) q2) (lD q2 (nS (cR eI aK.2) (dF aK.2)):((ap++aK.1)++aK.2).length=((ap++aK.1).length)+(((aK.2.map eI).drop 0).take aK.2.length).length) bi (cU 1 .live (hZ (hZ (cR eI ap) (dF ap) (nS bW (dF aK.1))) q2 (nS (cR eI aK.2) (dF aK.2)))) (aF 1 .live aO ((ap++aK.1)++aK.2)))))))
  (fun h1 =>
  .ret (bf [(I 1),.U false,.aN [1] [.pure] (a6 [3])] (.e2 h1 (aF 1 .live aO ap))))
theorem Vl {bT:List Int}{de:Int}{aI:List bE}{aH:List bP}{dV:Int}{ap:List Int}{r} (h:Iz bT de aI aH dV ap=some r):dQ a7 78 0 46 [1,1,0,1,0,0] (GH bT de aI aH) (Hd bT de aI aH) (dV,ap) r:=dR (fun _=>TV) h
def zC (aJ:cI):Option (List Int) :=
 ua aJ >>= fun r1 =>
 Iz r1 (len_ eI r1) aJ.bZ aJ.bG 0 ([]:List Int) >>= fun bd =>
 some bd
theorem Wp {aJ:cI}:bx (zC aJ) (fun r=>Con a7 46 [.agg (hf aJ)] [] (.isl 1 (r.map eI)) []):=by
 unfold zC
 exact .ar fun r1 h2 =>
  .ar fun bd au =>
  .ret (bs [(I 2),(I 2),.ay (bq 1 (bp 1 (.isl 1 (r1.map eI)) false) 2),.aN [0,2] [.box [.id,.id],.cu (ae 1 eI ([]:List Int))] [(1,ii),(3,fV (([]:List Int).length)),(14,ii),(15,ii),(16,ii)],(Hd r1 (len_ eI r1) aJ.bZ aJ.bG bd).e8,(I 2)] (.gJ (Iy r1 h2) (cU 1 .live (show []=(([]:List Int)).map eI from rfl)) (aF 1 .live aO ([]:List Int)) (eY Int) (Vl au) (ga eI bd) (fF eI bd) (du aO bd)) (.br (.dh (.ek (bd.map eI)))))
def Gr (cH cW:List Int)(cX:Int):(Int×(List Int))→S:=fun (dJ,aa)=>dl [(1,.isl 1 (cH.map eI)),(5,.bk 0 0 0 aa.length),(10,.isl 1 (cW.map eI)),(11,.n .i64 cX),(12,.n .i64 dJ)] [(ae 1 eI aa)]
def GI (cH cW:List Int)(cX:Int):(List Int)→dq
 | a=>⟨some 0,[(5,.bk 0 0 0 a.length)],[(ae 1 eI a)]⟩
def wh (cH cW:List Int)(cX dJ:Int)(aa:List Int):Option ((Int×(List Int))⊕((List Int))) :=
 if (decide (dJ<cX))=true then
  if 0≤dJ∧dJ<cW.length then
  cW[dJ.toNat]? >>= fun aE =>
  if 0≤(J ((2:Int)*aE))∧(J ((2:Int)*aE))<cH.length then
  cH[(J ((2:Int)*aE)).toNat]? >>= fun cn =>
  if 0≤(J ((J ((2:Int)*aE))+(1:Int)))∧(J ((J ((2:Int)*aE))+(1:Int)))<cH.length then
  cH[(J ((J ((2:Int)*aE))+(1:Int))).toNat]? >>= fun ep =>
  if (aa++([J (0-cn),J (0-ep)]:List Int)).length*8≤140737488355328 then
  some (.inl (J (dJ+(1:Int)),aa++([J (0-cn),J (0-ep)]:List Int)))
  else none
  else none
  else none
  else none
 else
  some (.inr aa)
def Ik (cH cW:List Int)(cX dJ:Int)(aa:List Int):Option ((List Int)):=iter (fun w:Int×(List Int)=>wh cH cW cX w.1 w.2) (dJ,aa)
theorem TI {cH cW:List Int}{cX dJ:Int}{aa:List Int}:bx (wh cH cW cX dJ aa) (dP a7 34 0 48 [1,1,0,1,0,0] (Gr cH cW cX (dJ,aa)) (Gr cH cW cX) (GI cH cW cX)):=by
 unfold wh
 exact .ite (fun h1 =>
  .aY fun h2 =>
  .ar fun aE au =>
  .aY fun aA =>
  .ar fun cn bb =>
  .aY fun bi =>
  .ar fun ep cM =>
  .aY fun e6 =>
  .ret (let q1:=(aa++([J (0-cn),J (0-ep)]:List Int));let q2:=J (0-cn);let bK:=J (0-ep);bf [(I 1),.U true,.ay (bq 1 (.b2 (eI aE)) 1),.ay (ai 5 (al (.b2 (eI cn)) (ai 6 (al (.b2 (eI ep)) (bq 2 (.aG (q1.length)) 1))))),(I 2),.aN [20] [.cu (ae 1 eI q1)] (a6 [1,5,10,11,12])] (.bg h1 h2.1 (cO eI h2.2) (bU eI au) aA.1 (cO eI aA.2) (bU eI bb) bi.1 (.gJ (cO eI bi.2) (bU eI cM) (kZ (show [[.n .i64 q2],[.n .i64 bK]]=(([J (0-cn),J (0-ep)]:List Int)).map eI from rfl) (show 2=([J (0-cn),J (0-ep)]:List Int).length from rfl)) (gV eI aa) (lD (dF aa) (nS (show [[.n .i64 q2],[.n .i64 bK]]=(([J (0-cn),J (0-ep)]:List Int)).map eI from rfl) (show 2=([J (0-cn),J (0-ep)]:List Int).length from rfl)):q1.length=aa.length+(([[.n .i64 q2],[.n .i64 bK]].drop 0).take 2).length) e6 (cU 1 .live (hZ (cR eI aa) (dF aa) (nS (show [[.n .i64 q2],[.n .i64 bK]]=(([J (0-cn),J (0-ep)]:List Int)).map eI from rfl) (show 2=([J (0-cn),J (0-ep)]:List Int).length from rfl)))) (aF 1 .live aO q1)))))
  (fun h1 =>
  .ret (bf [(I 1),.U false,.aN [0] [.pure] (a6 [5])] (.e2 h1 (aF 1 .live aO aa))))
theorem U4 {cH cW:List Int}{cX dJ:Int}{aa:List Int}{r} (h:Ik cH cW cX dJ aa=some r):dQ a7 34 0 48 [1,1,0,1,0,0] (Gr cH cW cX) (GI cH cW cX) (dJ,aa) r:=dR (fun _=>TI) h
def zn (aJ:cI)(cH:List Int):Option (List Int) :=
 ua aJ >>= fun r1 =>
 Ik cH r1 (len_ eI r1) 0 ([]:List Int) >>= fun bd =>
 some bd
theorem VW {aJ:cI}{cH:List Int}:bx (zn aJ cH) (fun r=>Con a7 48 [.agg (hf aJ),.isl 1 (cH.map eI)] [] (.isl 1 (r.map eI)) []):=by
 unfold zn
 exact .ar fun r1 h2 =>
  .ar fun bd au =>
  .ret (bs [(I 2),(I 2),.ay (bq 1 (bp 1 (.isl 1 (r1.map eI)) false) 2),.aN [2] [.cu (ae 1 eI ([]:List Int))] [(1,ii),(5,fV (([]:List Int).length)),(10,ii),(11,ii),(12,ii)],(GI cH r1 (len_ eI r1) bd).e8,(I 2)] (.gJ (Iy r1 h2) (cU 1 .live (show []=(([]:List Int)).map eI from rfl)) (aF 1 .live aO ([]:List Int)) (eY Int) (U4 au) (ga eI bd) (fF eI bd) (du aO bd)) (.br (.dh (.ek (bd.map eI)))))
def FR (iB i4:List Int)(aW:Int)(i5:List Int)(af ow bF dG:Int)(gK ah:List Int):(Int×(List Int))→S:=fun (m4,ax)=>dl [(4,.ref 0 0 0 0),(5,.isl 1 (iB.map eI)),(6,.isl 1 (i4.map eI)),(7,.n .i64 aW),(8,.isl 1 (i5.map eI)),(9,.ref 1 0 0 0),(10,.n .i64 af),(42,.isl 1 (iB.map eI)),(43,.n .i64 ow),(44,.n .i64 m4)] [[ad.mk 5 [[.n .i64 (0:Int),.n .i64 (0:Int),.ei,.ei,.ei]] .live],[ad.mk 5 [(Et bF dG 2 0 0 ax.length gK 3 0 0 ah.length)] .live],(ae 1 eI ax),(ae 1 eI ah)]
def Gb (iB i4:List Int)(aW:Int)(i5:List Int)(af ow bF dG:Int)(gK ah:List Int):(List Int)→dq
 | a=>⟨some 2,[(4,.ref 0 0 0 0),(5,.isl 1 (iB.map eI)),(6,.isl 1 (i4.map eI)),(7,.n .i64 aW),(8,.isl 1 (i5.map eI)),(9,.ref 1 0 0 0),(10,.n .i64 af)],[[ad.mk 5 [[.n .i64 (0:Int),.n .i64 (0:Int),.ei,.ei,.ei]] .live],[ad.mk 5 [(Et bF dG 2 0 0 a.length gK 3 0 0 ah.length)] .live],(ae 1 eI a),(ae 1 eI ah)]⟩
def vY (iB i4:List Int)(aW:Int)(i5:List Int)(af ow bF dG:Int)(gK ah:List Int)(m4:Int)(ax:List Int):Option ((Int×(List Int))⊕((List Int))) :=
 if (decide (m4<ow))=true then
  if 0≤m4∧m4<iB.length then
  iB[m4.toNat]? >>= fun aE =>
  if 0≤m4∧m4<i4.length then
  i4[m4.toNat]? >>= fun cn =>
  if 0≤(J ((J (af*aW))+aE))∧(J ((J (af*aW))+aE))<i5.length then
  i5[(J ((J (af*aW))+aE)).toNat]? >>= fun ep =>
  if (ax++([J (cn*ep)]:List Int)).length*8≤140737488355328 then
  some (.inl (J (m4+(1:Int)),ax++([J (cn*ep)]:List Int)))
  else none
  else none
  else none
  else none
 else
  some (.inr ax)
def HF (iB i4:List Int)(aW:Int)(i5:List Int)(af ow bF dG:Int)(gK ah:List Int)(m4:Int)(ax:List Int):Option ((List Int)):=iter (fun w:Int×(List Int)=>vY iB i4 aW i5 af ow bF dG gK ah w.1 w.2) (m4,ax)
theorem Th {iB i4:List Int}{aW:Int}{i5:List Int}{af ow bF dG:Int}{gK ah:List Int}{m4:Int}{ax:List Int}:bx (vY iB i4 aW i5 af ow bF dG gK ah m4 ax) (dP a7 69 0 27 [1,1,1,1,1,0,1,0,0,1,0,0,1,0,0] (FR iB i4 aW i5 af ow bF dG gK ah (m4,ax)) (FR iB i4 aW i5 af ow bF dG gK ah) (Gb iB i4 aW i5 af ow bF dG gK ah)):=by
 unfold vY
 exact .ite (fun h1 =>
  .aY fun h2 =>
  .ar fun aE au =>
  .aY fun aA =>
  .ar fun cn bb =>
  .aY fun bi =>
  .ar fun ep cM =>
  .aY fun e6 =>
  .ret (let q2:=J (cn*ep);let q1:=(ax++([q2]:List Int));bf [(I 1),.U true,.ay (bq 2 (.b2 (eI aE)) 2),.ay (ai 5 (al (.b2 (eI cn)) (ai 7 (al (.b2 (eI ep)) (bq 2 (.aG (q1.length)) 2))))),(I 2),.aN [0,1,26,3] [.box [.id,.id,.id,.id,.id],.box [.id,.id,.id,.id,.id],.cu (ae 1 eI q1),.pure] (a6 [4,5,6,7,8,9,10,42,43,44])] (.bg h1 h2.1 (cO eI h2.2) (bU eI au) aA.1 (cO eI aA.2) (bU eI bb) bi.1 (.bg (cO eI bi.2) (bU eI cM) (gx eI q2) (gV eI ax) (gy eI ax q2) e6 (cU 1 .live (ha eI ax q2)) (aF 1 .live aO q1) (.e1 (aF 1 .live aO ah))))))
  (fun h1 =>
  .ret (bf [(I 1),.U false,.aN [0,1,2,3] [.box [.id,.id,.id,.id,.id],.box [.id,.id,.id,.id,.id],.pure,.pure] (a6 [4,5,6,7,8,9,10])] (.bO h1 (aF 1 .live aO ax) (aF 1 .live aO ah))))
theorem UC {iB i4:List Int}{aW:Int}{i5:List Int}{af ow bF dG:Int}{gK ah:List Int}{m4:Int}{ax:List Int}{r} (h:HF iB i4 aW i5 af ow bF dG gK ah m4 ax=some r):dQ a7 69 0 27 [1,1,1,1,1,0,1,0,0,1,0,0,1,0,0] (FR iB i4 aW i5 af ow bF dG gK ah) (Gb iB i4 aW i5 af ow bF dG gK ah) (m4,ax) r:=dR (fun _=>Th) h
def FT (iB i4:List Int)(aW:Int)(i5:List Int)(bF dG:Int)(gK ah:List Int):(Int×(List Int))→S:=fun (af,ax)=>dl [(4,.ref 0 0 0 0),(5,.isl 1 (iB.map eI)),(6,.isl 1 (i4.map eI)),(7,.n .i64 aW),(8,.isl 1 (i5.map eI)),(9,.ref 1 0 0 0),(10,.n .i64 af)] [[ad.mk 5 [[.n .i64 (0:Int),.n .i64 (0:Int),.ei,.ei,.ei]] .live],[ad.mk 5 [(Et bF dG 2 0 0 ax.length gK 3 0 0 ah.length)] .live],(ae 1 eI ax),(ae 1 eI ah)]
def Gc (iB i4:List Int)(aW:Int)(i5:List Int)(bF dG:Int)(gK ah:List Int):(List Int)→dq
 | a=>⟨some 0,[(4,.ref 0 0 0 0),(9,.ref 1 0 0 0)],[[ad.mk 5 [[.n .i64 (0:Int),.n .i64 (0:Int),.ei,.ei,.ei]] .live],[ad.mk 5 [(Et bF dG 2 0 0 a.length gK 3 0 0 ah.length)] .live],(ae 1 eI a),(ae 1 eI ah)]⟩
def vZ (iB i4:List Int)(aW:Int)(i5:List Int)(bF dG:Int)(gK ah:List Int)(af:Int)(ax:List Int):Option ((Int×(List Int))⊕((List Int))) :=
 if (decide (af<bF))=true then
  HF iB i4 aW i5 af (len_ eI iB) bF dG gK ah 0 ax >>= fun r2 =>
  some (.inl (J (af+(1:Int)),r2))
 else
  some (.inr ax)
def Cx (iB i4:List Int)(aW:Int)(i5:List Int)(bF dG:Int)(gK ah:List Int)(af:Int)(ax:List Int):Option ((List Int)):=iter (fun w:Int×(List Int)=>vZ iB i4 aW i5 bF dG gK ah w.1 w.2) (af,ax)
theorem Ti {iB i4:List Int}{aW:Int}{i5:List Int}{bF dG:Int}{gK ah:List Int}{af:Int}{ax:List Int}:bx (vZ iB i4 aW i5 bF dG gK ah af ax) (dP a7 69 0 27 [1,1,1,1,1,0,1,0,0] (FT iB i4 aW i5 bF dG gK ah (af,ax)) (FT iB i4 aW i5 bF dG gK ah) (Gc iB i4 aW i5 bF dG gK ah)):=by
 unfold vZ
 exact .ite (fun h1 =>
  .ar fun r2 ab =>
  .ret (bf [(I 4),.U true,(I 3),.aN [0,1,2,3] [.box [.id,.id,.id,.id,.id],.box [.id,.id,.id,.id,.id],.pure,.pure] (a6 [4,5,6,7,8,9,10,42,43,44]),(Gb iB i4 aW i5 af (len_ eI iB) bF dG gK ah r2).e8,(I 3),.aN [0,1,2,3] [.box [.id,.id,.id,.id,.id],.box [.id,.id,.id,.id,.id],.pure,.pure] (a6 [4,5,6,7,8,9,10])] (.dU h1 (aF 1 .live aO ax) (aF 1 .live aO ah) (UC ab) (aF 1 .live aO r2) (aF 1 .live aO ah))))
  (fun h1 =>
  .ret (bf [(I 4),.U false,.aN [0,1,2,3] [.box [.id,.id,.id,.id,.id],.box [.id,.id,.id,.id,.id],.pure,.pure] (a6 [4,9])] (.bO h1 (aF 1 .live aO ax) (aF 1 .live aO ah))))
theorem UD {iB i4:List Int}{aW:Int}{i5:List Int}{bF dG:Int}{gK ah:List Int}{af:Int}{ax:List Int}{r} (h:Cx iB i4 aW i5 bF dG gK ah af ax=some r):dQ a7 69 0 27 [1,1,1,1,1,0,1,0,0] (FT iB i4 aW i5 bF dG gK ah) (Gc iB i4 aW i5 bF dG gK ah) (af,ax) r:=dR (fun _=>Ti) h
def tZ (aJ:cI)(cH:List Int):Option hk :=
 y9 aJ >>= fun r1 =>
 zC aJ >>= fun bd =>
 ua aJ >>= fun aK =>
 zn aJ cH >>= fun b4 =>
 if 0≤(len_ eI r1.1)∧(8:Int)*(len_ eI r1.1)≤281474976710656∧(len_ eI r1.1)<9223372036854775808 then
 Cx r1.1 r1.2 (len_ bS aJ.bG) bd (J ((2:Int)*(len_ eI aK))) (len_ eI r1.1) b4 (List.replicate (len_ eI r1.1).toNat 0:List Int) 0 ([]:List Int) >>= fun ec =>
 some (⟨J ((2:Int)*(len_ eI aK)),(len_ eI r1.1),ec,b4,(List.replicate (len_ eI r1.1).toNat 0:List Int)⟩:hk)
 else none
theorem Vm {aJ:cI}{cH:List Int}:bx (tZ aJ cH) (fun r=>Con a7 27 [.agg (hf aJ),.isl 1 (cH.map eI)] [] (.agg (nR r)) []):=by
 unfold tZ
 exact .ar fun r1 h2 =>
  .ar fun bd au =>
  .ar fun aK aX =>
  .ar fun b4 bi =>
  .aY fun cj =>
  .ar fun ec e6 =>
  .ret (let q2:=len_ eI r1.1;let q1:=(List.replicate q2.toNat 0:List Int);bs [(I 2),.ay (bq 1 (bp 1 (.dS [.isl 1 (r1.1.map eI),.isl 1 (r1.2.map eI)]) false) 5),(I 4),.ay (bq 1 (bp 1 (.isl 1 (bd.map eI)) false) 1),.ay (ai 1 (al (bp 1 (.isl 1 (aK.map eI)) false) (bq 6 (bp 2 (.isl 1 (b4.map eI)) false) 6))),(I 1),.rq 29 2 1,.aN [1,29,32,27] [.box [.id,.id,.id,.id,.id],.box [.id,.id,.len (([]:List Int).length),.id,.len (q1.length)],.cu (ae 1 eI ([]:List Int)),.cu (ae 1 eI q1)] (a6 [4,5,6,7,8,9,10]),(Gc r1.1 r1.2 (len_ bS aJ.bG) bd (J ((2:Int)*(len_ eI aK))) q2 b4 q1 ec).e8,(I 2)] (.bg (Vi r1 h2) (Wp bd au) (Iy aK aX) (VW b4 bi) cj.1 (Int.le_refl q2) cj.2.1 cj.2.2 (.bg (eY Int) (lW q2.toNat (0:Int)) (cU 1 .live (nk eI)) (aF 1 .live aO ([]:List Int)) (cU 1 .live (lC eI q2.toNat 0)) (aF 1 .live aO q1) (UD e6) (ga eI ec) (.dg (fF eI ec) (du aO ec) (ga eI q1) (fF eI q1) (du aO q1)))) (.br (.agg [.id,.id,.ek (ec.map eI),.id,.ek (q1.map eI)])))
def HG (jz:List Int)(gG:Int):Int→S:=fun dn=>dl [(5,.isl 1 (jz.map eI)),(6,.n .i64 gG),(7,.n .i64 dn)] []
def MW (jz:List Int)(gG:Int):((Unit)⊕(Unit))→dq
 | .inl a=>⟨some 0,[],[]⟩
 | .inr a=>⟨none,[(2,.b false)],[]⟩
def wP (jz:List Int)(gG dn:Int):Option ((Int)⊕((Unit)⊕(Unit))) :=
 if (decide (dn<gG))=true then
  if 0≤dn∧dn<jz.length then
  jz[dn.toNat]? >>= fun aE =>
  my aE (-100) 100 >>= fun aK =>
  if aK=true then
   some (.inl (J (dn+(1:Int))))
  else
   some (.inr (.inr ()))
  else none
 else
  some (.inr (.inl ()))
def I1 (jz:List Int)(gG dn:Int):Option ((Unit)⊕(Unit)):=iter (fun w:Int=>wP jz gG w) dn
theorem UE {jz:List Int}{gG dn:Int}:bx (wP jz gG dn) (dP a7 15 0 67 [1,0,1,0,0] (HG jz gG dn) (HG jz gG) (MW jz gG)):=by
 unfold wP
 exact .ite (fun h1 =>
  .aY fun h2 =>
  .ar fun aE au =>
  .ar fun aK aX =>
  (let t1:List bY:=[(I 1),.U true,.ay (bq 1 (.b2 (eI aE)) 1),.ay (bq 1 (bp 3 (.b aK) true) 1)];
  have aS:=((.dU h1 h2.1 (cO eI h2.2) (bU eI au) (pG aK aX) (b7.b aK)):cp _);
  .ite (fun bb =>
  .ret (bf (t1.append [.U false,(I 2),.aN [] [] (a6 [5,6,7])]) (aS.aG (.e1 (cV bb)))))
  (fun bb =>
  .ret (bf (t1.append [.U true,(I 1),.aN [] [] (a6 [2])]) (aS.aG (.e1 (cT bb)))))))
  (fun h1 =>
  .ret (bf [(I 1),.U false,.aN [] [] []] (.e1 h1)))
theorem M2 {jz:List Int}{gG dn:Int}{r} (h:I1 jz gG dn=some r):dQ a7 15 0 67 [1,0,1,0,0] (HG jz gG) (MW jz gG) dn r:=dR (fun _=>UE) h
def um (cH:List Int):Option Bool :=
 I1 cH (len_ eI cH) 0 >>= fun r1 =>
 match r1 with
 | .inl di=>(some true)
 | .inr di=>(some false)
theorem I2 {cH:List Int}:bx (um cH) (fun r=>Con a7 67 [.isl 1 (cH.map eI)] [] (.b r) []):=by
 unfold um
 exact .ar fun r1 h2 =>
  (let t1:List bY:=[(I 1),(I 3),.aN [] [] (a6 [5,6,7])];
  (by
  rcases r1 with di|di
  ·exact (.ret (bs (t1.append [.sub (.exit 0) [] [],(I 1)]) (.e1 (M2 h2))))
  ·exact (.ret (bs (t1.append [.sub (.ret) [(2,.b false)] []]) (.e1 (M2 h2))))))
def zg (b8:hk):Option Bool :=
 my b8.fp 0 20 >>= fun r1 =>
 if r1=true then
  my b8.d6 0 40 >>= fun bh =>
  if bh=true then
   if ((len_ eI b8.dE) == (J (b8.fp*b8.d6)))=true then
    if ((len_ eI b8.eg) == b8.fp)=true then
     if ((len_ eI b8.hB) == b8.d6)=true then
      um b8.dE >>= fun ec =>
      if ec=true then
       um b8.eg >>= fun ex =>
       if ex=true then
        um b8.hB >>= fun ey =>
        some ey
       else
        some false
      else
       some false
     else
      some false
    else
     some false
   else
    some false
  else
   some false
 else
  some false
theorem VF {b8:hk}:bx (zg b8) (fun r=>Con a7 41 [.agg (nR b8)] [] (.b r) []):=by
 unfold zg
 exact .ar fun r1 h2 =>
  (have ae:=((.e2 (pG r1 h2) (b7.b r1)):cp _);
  .ite (fun ab =>
  .ar fun bh aA =>
  (have aS:=ae.aG (.dU ab ab ab (pG bh aA) (b7.b bh) ab);
  .ite (fun aX =>
  (have fA:=aS.aG (.bg aX aX aX aX aX aX aX aX (.e2 aX aX));
  .ite (fun bb =>
  .ite (fun bi =>
  (have eO:=fA.aG (.bg bb bb bb bb bb bb bb bi (.dU bi bi bi bi bi bi));
  .ite (fun cj =>
  .ar fun ec e6 =>
  (have ma:=eO.aG (.dU cj cj cj (I2 ec e6) (b7.b ec) cj);
  .ite (fun eR =>
  .ar fun ex ew =>
  (have kF:=ma.aG (.dU eR eR eR (I2 ex ew) (b7.b ex) eR);
  .ite (fun fO =>
  .ar fun ey hn =>
  .ret (bs [(I 2),.ay (ai 2 (al (bp 3 (.b r1) true) (ai 3 (al (bp 3 (.b bh) true) (al (.U true) (ai 10 (al (.U true) (ai 7 (al (.U true) (ai 7 (al (.U true) (ai 3 (al (bp 1 (.b ec) true) (al (.U true) (ai 3 (al (bp 1 (.b ex) true) (al (.U true) (ai 3 (al (bp 1 (.b ey) true) (al (.U true) (ai 1 [])))))))))))))))))))))] (kF.aG (.dU fO fO fO (I2 ey hn) (b7.b ey) fO))))
  (fun fO =>
  .ret (bs [(I 2),.ay (ai 2 (al (bp 3 (.b r1) true) (ai 3 (al (bp 3 (.b bh) true) (al (.U true) (ai 10 (al (.U true) (ai 7 (al (.U true) (ai 7 (al (.U true) (ai 3 (al (bp 1 (.b ec) true) (al (.U true) (ai 3 (al (bp 1 (.b ex) true) (al (.U true) (ai 1 (ck 3 (al (.U false) (ai 1 [])))))))))))))))))))))] (kF.aG (.c5 fO fO fO fO))))))
  (fun eR =>
  .ret (bs [(I 2),.ay (ai 2 (al (bp 3 (.b r1) true) (ai 3 (al (bp 3 (.b bh) true) (al (.U true) (ai 10 (al (.U true) (ai 7 (al (.U true) (ai 7 (al (.U true) (ai 3 (al (bp 1 (.b ec) true) (al (.U true) (ai 1 (ck 3 (al (.U false) (ai 1 (ck 3 (ai 2 []))))))))))))))))))))] (ma.aG (.eE eR eR eR eR cL cL cL))))))
  (fun cj =>
  .ret (bs [(I 2),.ay (ai 2 (al (bp 3 (.b r1) true) (ai 3 (al (bp 3 (.b bh) true) (al (.U true) (ai 10 (al (.U true) (ai 7 (al (.U true) (ai 7 (al (.U true) (ai 1 (ck 3 (al (.U false) (ai 1 (ck 3 (ai 2 (ck 3 (ai 2 [])))))))))))))))))))] (eO.aG (.bg cj cj cj cj cL cL cL cL (.e2 cL cL)))))))
  (fun bi =>
  .ret (bs [(I 2),.ay (ai 2 (al (bp 3 (.b r1) true) (ai 3 (al (bp 3 (.b bh) true) (al (.U true) (ai 10 (al (.U true) (ai 7 (al (.U true) (ai 1 (ck 6 (al (.U false) (ai 1 (ck 3 (ai 2 (ck 3 (ai 2 (ck 3 (ai 2 [])))))))))))))))))))] (fA.aG (.bg bb bb bb bb bb bb bb bi (.bg bi bi bi bi bi bi cL cL (.eE cL cL cL cL cL cL cL)))))))
  (fun bb =>
  .ret (bs [(I 2),.ay (ai 2 (al (bp 3 (.b r1) true) (ai 3 (al (bp 3 (.b bh) true) (al (.U true) (ai 10 (al (.U true) (ai 1 (ck 6 (al (.U false) (ai 1 (ck 6 (ai 2 (ck 3 (ai 2 (ck 3 (ai 2 (ck 3 (ai 2 [])))))))))))))))))))] (fA.aG (.bg bb bb bb bb bb bb bb cL (.bg cL cL cL cL cL cL cL cL (.dU cL cL cL cL cL cL))))))))
  (fun aX =>
  .ret (bs [(I 2),.ay (ai 2 (al (bp 3 (.b r1) true) (ai 3 (al (bp 3 (.b bh) true) (al (.U true) (ai 1 (ck 9 (al (.U false) (ai 1 (ck 6 (ai 2 (ck 6 (ai 2 (ck 3 (ai 2 (ck 3 (ai 2 (ck 3 (ai 2 [])))))))))))))))))))] (aS.aG (.bg aX aX aX aX aX aX aX aX (.bg aX aX cL cL cL cL cL cL (.bg cL cL cL cL cL cL cL cL (.eE cL cL cL cL cL cL cL)))))))))
  (fun ab =>
  .ret (bs [(I 2),.ay (ai 2 (al (bp 3 (.b r1) true) (ai 1 (ck 3 (al (.U false) (ai 1 (ck 9 (ai 2 (ck 6 (ai 2 (ck 6 (ai 2 (ck 3 (ai 2 (ck 3 (ai 2 (ck 3 (ai 2 []))))))))))))))))))] (ae.aG (.bg ab ab ab ab cL cL cL cL (.bg cL cL cL cL cL cL cL cL (.bg cL cL cL cL cL cL cL cL (.bg cL cL cL cL cL cL cL cL (.e2 cL cL)))))))))
def GJ (ag:List Int):Int→S:=fun aW=>dl [(0,.isl 1 (ag.map eI)),(3,.n .i64 aW)] []
def He (ag:List Int):Int→dq
 | a=>⟨some 0,[(0,.isl 1 (ag.map eI)),(3,.n .i64 a)],[]⟩
def tO (ag:List Int)(aW:Int):Option ((Int)⊕(Int)) :=
 if (decide ((0:Int)<aW))=true then
  if 0≤(J (aW-(1:Int)))∧(J (aW-(1:Int)))<ag.length then
  ag[(J (aW-(1:Int))).toNat]? >>= fun aE =>
  if (aE == (0:Int))=true then
   some (.inl (J (aW-(1:Int))))
  else
   some (.inr aW)
  else none
 else
  some (.inr aW)
def IA (ag:List Int)(aW:Int):Option (Int):=iter (fun w:Int=>tO ag w) aW
theorem TW {ag:List Int}{aW:Int}:bx (tO ag aW) (dP a7 21 0 112 [1,1,0,0,0] (GJ ag aW) (GJ ag) (He ag)):=by
 unfold tO
 exact .ite (fun h1 =>
  .aY fun h2 =>
  .ar fun aE au =>
  (let t1:List bY:=[.ay (ai 7 (al (.b2 (eI aE)) (ai 1 (al (.U true) []))))];
  have aS:=((.bg h1 h1 h1 h1 h2.1 (cO eI h2.2) h1 (bU eI au) (.e2 h1 h1)):cp _);
  .ite (fun aA =>
  .ret (bf (t1.append [.U true,(I 3),.aN [] [] (a6 [0,3])]) (aS.aG (.e1 aA))))
  (fun aA =>
  .ret (bf (t1.append [.U false,.aN [] [] (a6 [0,3])]) (aS.aG (.e1 aA))))))
  (fun h1 =>
  .ret (bf [.ay (ai 3 (ck 6 (al (.U false) []))),.U false,.aN [] [] (a6 [0,3])] (.gJ h1 h1 h1 h1 h1 h1 h1 cL)))
theorem Vn {ag:List Int}{aW:Int}{r} (h:IA ag aW=some r):dQ a7 21 0 112 [1,1,0,0,0] (GJ ag) (He ag) aW r:=dR (fun _=>TW) h
def pH (ag:List Int):Option (List Int) :=
 IA ag (len_ eI ag) >>= fun r1 =>
 if 0≤r1 then
 if 0≤r1.toNat∧r1.toNat≤ag.length then
 some ((ag.drop 0).take (r1.toNat-0))
 else none
 else none
theorem rE {ag:List Int}:bx (pH ag) (fun r=>Con a7 112 [.isl 1 (ag.map eI)] [] (.isl 1 (r.map eI)) []):=by
 unfold pH
 exact .ar fun r1 h2 =>
  .aY fun ab =>
  .aY fun au =>
  .ret (bs [(I 1),(I 3),.aN [] [] (a6 [0,3]),(He ag r1).e8,(I 4)] (.dg (Vn h2) ab au.1 (rf (cR eI ag) au.2) (congrArg (az.isl 1) (og (cR eI ag) 0 (r1.toNat-0)):(.isl 1 (((ag.map eI).drop 0).take (r1.toNat-0)):az) = .isl 1 (((ag.drop 0).take (r1.toNat-0)).map eI))) (.br (.dh (.cu (.isl 1 (((ag.drop 0).take (r1.toNat-0)).map eI))))))
def xd (ag:List Int):Option (List Int) :=
 pH ag >>= fun r1 =>
 if (decide ((60:Int)<(len_ eI r1)))=true then
  some ([]:List Int)
 else
  some r1
theorem Nh {ag:List Int}:bx (xd ag) (fun r=>Con a7 114 [.isl 1 (ag.map eI)] [] (.isl 1 (r.map eI)) []):=by
 unfold xd
 exact .ar fun r1 h2 =>
  (let t1:List bY:=[(I 1),.ay (bq 1 (bp 1 (.isl 1 (r1.map eI)) false) 1),(I 3)];
  .ite (fun ab =>
  .ret (bs (t1.append [.U true,(I 1)]) (.e2 (rE r1 h2) ab) (.br (.dh (.jE 1)))))
  (fun ab =>
  .ret (bs (t1.append [.U false,(I 2)]) (.e2 (rE r1 h2) ab))))
def hI (nW:Bool)(ag:List Int):Option bm :=
 xd ag >>= fun r1 =>
 if nW=true then
  if (([]:List Int)++r1).length*8≤140737488355328 then
  some (⟨(decide ((0:Int)<(len_ eI r1))),([]:List Int)++r1⟩:bm)
  else none
 else
  if (([]:List Int)++r1).length*8≤140737488355328 then
  some (⟨false,([]:List Int)++r1⟩:bm)
  else none
theorem nN {nW:Bool}{ag:List Int}:bx (hI nW ag) (fun r=>Con a7 93 [.b nW,.isl 1 (ag.map eI)] [] (.agg (aU r)) []):=by
 unfold hI
 exact .ar fun r1 h2 =>
  (let t1:List bY:=[(I 1),.ay (bq 1 (bp 1 (.isl 1 (r1.map eI)) false) 1)];
  .ite (fun ab =>
  .aY fun au =>
  .ret (let q1:=(([]:List Int)++r1);bs (t1.append [.ay (ai 5 (al (.U true) (bq 2 (.aG (q1.length)) 2)))]) (.bg (Nh r1 h2) ab ab ab ab (m1 (show []=(([]:List Int)).map eI from rfl) (eY Int)) (lD (eY Int) (cR eI r1):q1.length=0+(r1.map eI).length) au (.bO (kO (hZ (show []=(([]:List Int)).map eI from rfl) (eY Int) (cR eI r1)) (dF q1)) (kZ (hZ (show []=(([]:List Int)).map eI from rfl) (eY Int) (cR eI r1)) (dF q1)) (du aO q1))) (.br (.agg [.id,.ek (q1.map eI)]))))
  (fun ab =>
  .aY fun au =>
  .ret (let q2:=(([]:List Int)++r1);bs (t1.append [.ay (ai 2 (ck 3 (al (.U false) (bq 2 (.aG (q2.length)) 2))))]) (.bg (Nh r1 h2) ab ab ab ab (m1 (show []=(([]:List Int)).map eI from rfl) (eY Int)) (lD (eY Int) (cR eI r1):q2.length=0+(r1.map eI).length) au (.bO (kO (hZ (show []=(([]:List Int)).map eI from rfl) (eY Int) (cR eI r1)) (dF q2)) (kZ (hZ (show []=(([]:List Int)).map eI from rfl) (eY Int) (cR eI r1)) (dF q2)) (du aO q2))) (.br (.agg [.id,.ek (q2.map eI)])))))
def HH:(Int×(List Int))→S:=fun (aW,aa)=>dl [(0,.n .i64 aW),(3,.bk 0 0 0 aa.length)] [(ae 1 eI aa)]
def H0:(List Int)→dq
 | a=>⟨some 0,[(3,.bk 0 0 0 a.length)],[(ae 1 eI a)]⟩
def wQ (aW:Int)(aa:List Int):Option ((Int×(List Int))⊕((List Int))) :=
 if (decide ((0:Int)<aW))=true then
  if (aa++([aW.tmod (1000000000:Int)]:List Int)).length*8≤140737488355328 then
  some (.inl (J (aW.tdiv (1000000000:Int)),aa++([aW.tmod (1000000000:Int)]:List Int)))
  else none
 else
  some (.inr aa)
def I3 (aW:Int)(aa:List Int):Option ((List Int)):=iter (fun w:Int×(List Int)=>wQ w.1 w.2) (aW,aa)
theorem UF {aW:Int}{aa:List Int}:bx (wQ aW aa) (dP a7 15 0 108 [1,1,0,0,0] (HH (aW,aa)) (HH) (H0)):=by
 unfold wQ
 exact .ite (fun h1 =>
  .aY fun h2 =>
  .ret (let q1:=(aa++([(aW.tmod (1000000000:Int))]:List Int));bf [(I 2),.U true,.ay (bq 4 (.aG (q1.length)) 1),(I 3),.aN [7] [.cu (ae 1 eI q1)] (a6 [0,3])] (.bg h1 (by decide:(1000000000:Int)≠0) (gx eI (aW.tmod (1000000000:Int))) (gV eI aa) (gy eI aa (aW.tmod (1000000000:Int))) h2 (by decide:(1000000000:Int)≠0) (cU 1 .live (ha eI aa (aW.tmod (1000000000:Int)))) (.e1 (aF 1 .live aO q1)))))
  (fun h1 =>
  .ret (bf [(I 2),.U false,.aN [0] [.pure] (a6 [3])] (.e2 h1 (aF 1 .live aO aa))))
theorem VX {aW:Int}{aa:List Int}{r} (h:I3 aW aa=some r):dQ a7 15 0 108 [1,1,0,0,0] (HH) (H0) (aW,aa) r:=dR (fun _=>UF) h
def q6 (aW:Int):Option (List Int) :=
 I3 aW ([]:List Int) >>= fun r1 =>
 some r1
theorem w3 {aW:Int}:bx (q6 aW) (fun r=>Con a7 108 [.n .i64 aW] [] (.isl 1 (r.map eI)) []):=by
 unfold q6
 exact .ar fun r1 h2 =>
  .ret (bs [(I 1),(I 2),.aN [1] [.cu (ae 1 eI ([]:List Int))] [(0,ii),(3,fV (([]:List Int).length))],(H0 r1).e8,(I 2)] (.eE (cU 1 .live (show []=(([]:List Int)).map eI from rfl)) (aF 1 .live aO ([]:List Int)) (eY Int) (VX h2) (ga eI r1) (fF eI r1) (du aO r1)) (.br (.dh (.ek (r1.map eI)))))
def zo (aW:Int):Option bm :=
 if (aW == (-9223372036854775808:Int))=true then
  hI true ([854775808,223372036,9]:List Int) >>= fun r2 =>
  some r2
 else
  if (decide (aW<(0:Int)))=true then
   q6 (J (0-aW)) >>= fun bd =>
   hI true bd >>= fun aK =>
   some aK
  else
   q6 aW >>= fun bd =>
   hI false bd >>= fun aK =>
   some aK
theorem VY {aW:Int}:bx (zo aW) (fun r=>Con a7 89 [.n .i64 aW] [] (.agg (aU r)) []):=by
 unfold zo
 exact .ite (fun h1 =>
  .ar fun r2 ab =>
  .ret (bs [(I 1),(I 2),.U true,.ay (bq 1 (.ss 3 (.call {ac:=[ii,.br (.dh (.ek (([854775808,223372036,9]:List Int).map eI)))],r:= .agg (aU r2),fz:=false,fH:=[3]})) 1)] (.dg h1 (kO (show [[.n .i64 (854775808:Int)],[.n .i64 (223372036:Int)],[.n .i64 (9:Int)]]=(([854775808,223372036,9]:List Int)).map eI from rfl) (show 3=([854775808,223372036,9]:List Int).length from rfl)) (kZ (show [[.n .i64 (854775808:Int)],[.n .i64 (223372036:Int)],[.n .i64 (9:Int)]]=(([854775808,223372036,9]:List Int)).map eI from rfl) (show 3=([854775808,223372036,9]:List Int).length from rfl)) (du aO ([854775808,223372036,9]:List Int)) (nN r2 ab))))
  (fun h1 =>
  (let t1:List bY:=[(I 1),(I 2),.U false,(I 2)];
  .ite (fun h2 =>
  .ar fun bd au =>
  .ar fun aK aX =>
  .ret (bs (t1.append [.U true,.ay (ai 2 (al (bp 1 (.isl 1 (bd.map eI)) false) (al (bp 2 (.agg (aU aK)) false) (ai 1 []))))]) (.c5 h1 h2 (w3 bd au) (nN aK aX))))
  (fun h2 =>
  .ar fun bd au =>
  .ar fun aK aX =>
  .ret (bs (t1.append [.U false,.ay (ai 1 (al (bp 1 (.isl 1 (bd.map eI)) false) (al (bp 2 (.agg (aU aK)) false) (ai 1 []))))]) (.c5 h1 h2 (w3 bd au) (nN aK aX))))))
def oS (aW:Int):Option aL :=
 zo aW >>= fun r1 =>
 some (⟨r1,([1]:List Int)⟩:aL)
theorem rD {aW:Int}:bx (oS aW) (fun r=>Con a7 68 [.n .i64 aW] [] (.agg (aM r)) []):=by
 unfold oS
 exact .ar fun r1 h2 =>
  .ret (bs [(I 1),.ay (bq 1 (bp 1 (.agg (aU r1)) false) 3)] (.c5 (VY r1 h2) (kO (show [[.n .i64 (1:Int)]]=(([1]:List Int)).map eI from rfl) (show 1=([1]:List Int).length from rfl)) (gx eI 1) (du aO ([1]:List Int))) (.br (.agg [.id,.id,.ek (([1]:List Int).map eI)])))
def ug (b8:hk)(af:Int):Option (List Int) :=
 if 0≤(J (af*b8.d6)) then
 if 0≤(J ((J (af+(1:Int)))*b8.d6)) then
 if (J (af*b8.d6)).toNat≤(J ((J (af+(1:Int)))*b8.d6)).toNat∧(J ((J (af+(1:Int)))*b8.d6)).toNat≤b8.dE.length then
 some ((b8.dE.drop ((J (af*b8.d6)).toNat)).take ((J ((J (af+(1:Int)))*b8.d6)).toNat-(J (af*b8.d6)).toNat))
 else none
 else none
 else none
theorem Ni {b8:hk}{af:Int}:bx (ug b8 af) (fun r=>Con a7 69 [.agg (nR b8),.n .i64 af] [] (.isl 1 (r.map eI)) []):=by
 unfold ug
 exact .aY fun h1 =>
  .aY fun h2 =>
  .aY fun ab =>
  .ret (let q1:=J (af*b8.d6);let q2:=(J ((J (af+(1:Int)))*b8.d6));bs [(I 2),(I 13)] (.dg h1 h2 ab.1 (rf (cR eI b8.dE) ab.2) (congrArg (az.isl 1) (og (cR eI b8.dE) (q1.toNat) (q2.toNat-q1.toNat)):(.isl 1 (((b8.dE.map eI).drop (q1.toNat)).take (q2.toNat-q1.toNat)):az) = .isl 1 (((b8.dE.drop (q1.toNat)).take (q2.toNat-q1.toNat)).map eI))) (.br (.dh (.cu (.isl 1 (((b8.dE.drop (q1.toNat)).take (q2.toNat-q1.toNat)).map eI))))))
def qh (ag:List Int):Option Bool :=
 if ((len_ eI ag) == (1:Int))=true then
  if 0≤(0:Int)∧(0:Int)<ag.length then
  ag[0]? >>= fun aE =>
  some (aE == (1:Int))
  else none
 else
  some false
theorem zh {ag:List Int}:bx (qh ag) (fun r=>Con a7 90 [.isl 1 (ag.map eI)] [] (.b r) []):=by
 unfold qh
 exact .ite (fun h1 =>
  .aY fun h2 =>
  .ar fun aE au =>
  .ret (bs [(I 1),.ay (ai 6 (al (.b2 (eI aE)) (bq 1 (.U true) 1)))] (.gJ h1 h1 h2.1 (cO eI h2.2) h1 (bU eI au) h1 h1)))
  (fun h1 =>
  .ret (bs [(I 1),.ay (ai 4 (ck 4 (al (.U false) (ai 1 []))))] (.dg h1 h1 h1 h1 h1)))
def Hf (ag aB:List Int):(Int×Int×(List Int))→S:=fun (cY,af,aa)=>dl [(0,.isl 1 (ag.map eI)),(1,.isl 1 (aB.map eI)),(5,.bk 0 0 0 aa.length),(6,.n .i64 cY),(7,.n .i64 af)] [(ae 1 eI aa)]
def HI (ag aB:List Int):(List Int)→dq
 | a=>⟨some 0,[(5,.bk 0 0 0 a.length)],[(ae 1 eI a)]⟩
def tP (ag aB:List Int)(cY af:Int)(aa:List Int):Option ((Int×Int×(List Int))⊕((List Int))) :=
 if (decide (af<(len_ eI ag)))=true then
  if 0≤af∧af<ag.length then
  ag[af.toNat]? >>= fun aE =>
  if (decide (af<(len_ eI aB)))=true then
   if 0≤af∧af<aB.length then
   aB[af.toNat]? >>= fun fi =>
   if (aa++([(J ((J (cY+aE))+fi)).tmod (1000000000:Int)]:List Int)).length*8≤140737488355328 then
   some (.inl (J ((J ((J (cY+aE))+fi)).tdiv (1000000000:Int)),J (af+(1:Int)),aa++([(J ((J (cY+aE))+fi)).tmod (1000000000:Int)]:List Int)))
   else none
   else none
  else
   if (aa++([(J (cY+aE)).tmod (1000000000:Int)]:List Int)).length*8≤140737488355328 then
   some (.inl (J ((J (cY+aE)).tdiv (1000000000:Int)),J (af+(1:Int)),aa++([(J (cY+aE)).tmod (1000000000:Int)]:List Int)))
   else none
  else none
 else
  if (decide (af<(len_ eI aB)))=true then
   if 0≤af∧af<aB.length then
   aB[af.toNat]? >>= fun f8 =>
   if (aa++([(J (cY+f8)).tmod (1000000000:Int)]:List Int)).length*8≤140737488355328 then
   some (.inl (J ((J (cY+f8)).tdiv (1000000000:Int)),J (af+(1:Int)),aa++([(J (cY+f8)).tmod (1000000000:Int)]:List Int)))
   else none
   else none
  else
   if (decide ((0:Int)<cY))=true then
    if (aa++([cY.tmod (1000000000:Int)]:List Int)).length*8≤140737488355328 then
    some (.inl (J (cY.tdiv (1000000000:Int)),J (af+(1:Int)),aa++([cY.tmod (1000000000:Int)]:List Int)))
    else none
   else
    some (.inr aa)
def IK (ag aB:List Int)(cY af:Int)(aa:List Int):Option ((List Int)):=iter (fun w:Int×Int×(List Int)=>tP ag aB w.1 w.2.1 w.2.2) (cY,af,aa)
theorem Ui {ag aB:List Int}{cY af:Int}{aa:List Int}:bx (tP ag aB cY af aa) (dP a7 55 0 109 [1,1,1,0,1,0,0] (Hf ag aB (cY,af,aa)) (Hf ag aB) (HI ag aB)):=by
 unfold tP
 exact .ite (fun h1 =>
  .aY fun h2 =>
  .ar fun aE au =>
  (let t1:List bY:=[.ay (ai 5 (ck 4 (al (.U true) (ai 1 (ck 2 (ai 1 [])))))),.U true,(I 2),(I 4),.U true,.ay (bq 4 (.b2 (eI aE)) 2),(I 4)];
  have aS:=((.bg h1 h1 h1 h1 h1 cv cv cv (.c5 h1 h2.1 (cO eI h2.2) (bU eI au))):cp _);
  .ite (fun aA =>
  .aY fun aX =>
  .ar fun fi bi =>
  .aY fun cj =>
  .ret (let q1:=J ((J (cY+aE))+fi);let q2:=(aa++([q1.tmod (1000000000:Int)]:List Int));bf (t1.append [.U true,.ay (bq 4 (.b2 (eI fi)) 2),.ay (bq 4 (.aG (q2.length)) 1),(I 3),(I 3),.aN [43] [.cu (ae 1 eI q2)] (a6 [0,1,5,6,7])]) (aS.aG (.bg aA aX.1 (cO eI aX.2) (bU eI bi) (by decide:(1000000000:Int)≠0) (kZ (show [[.n .i64 (q1.tmod (1000000000:Int))]]=(([q1.tmod (1000000000:Int)]:List Int)).map eI from rfl) (show 1=([q1.tmod (1000000000:Int)]:List Int).length from rfl)) (gV eI aa) (lD (dF aa) (nS (show [[.n .i64 (q1.tmod (1000000000:Int))]]=(([q1.tmod (1000000000:Int)]:List Int)).map eI from rfl) (show 1=([q1.tmod (1000000000:Int)]:List Int).length from rfl)):q2.length=aa.length+(([[.n .i64 (q1.tmod (1000000000:Int))]].drop 0).take 1).length) (.c5 cj (by decide:(1000000000:Int)≠0) (cU 1 .live (hZ (cR eI aa) (dF aa) (nS (show [[.n .i64 (q1.tmod (1000000000:Int))]]=(([q1.tmod (1000000000:Int)]:List Int)).map eI from rfl) (show 1=([q1.tmod (1000000000:Int)]:List Int).length from rfl)))) (aF 1 .live aO q2))))))
  (fun aA =>
  .aY fun aX =>
  .ret (let bW:=J (cY+aE);let bK:=(aa++([bW.tmod (1000000000:Int)]:List Int));bf (t1.append [.U false,.ay (bq 4 (.aG (bK.length)) 1),(I 3),(I 3),.aN [36] [.cu (ae 1 eI bK)] (a6 [0,1,5,6,7])]) (aS.aG (.bg aA (by decide:(1000000000:Int)≠0) (kZ (show [[.n .i64 (bW.tmod (1000000000:Int))]]=(([bW.tmod (1000000000:Int)]:List Int)).map eI from rfl) (show 1=([bW.tmod (1000000000:Int)]:List Int).length from rfl)) (gV eI aa) (lD (dF aa) (nS (show [[.n .i64 (bW.tmod (1000000000:Int))]]=(([bW.tmod (1000000000:Int)]:List Int)).map eI from rfl) (show 1=([bW.tmod (1000000000:Int)]:List Int).length from rfl)):bK.length=aa.length+(([[.n .i64 (bW.tmod (1000000000:Int))]].drop 0).take 1).length) aX (by decide:(1000000000:Int)≠0) (cU 1 .live (hZ (cR eI aa) (dF aa) (nS (show [[.n .i64 (bW.tmod (1000000000:Int))]]=(([bW.tmod (1000000000:Int)]:List Int)).map eI from rfl) (show 1=([bW.tmod (1000000000:Int)]:List Int).length from rfl)))) (.e1 (aF 1 .live aO bK))))))))
  (fun h1 =>
  .ite (fun h2 =>
  .aY fun ab =>
  .ar fun f8 aA =>
  .aY fun aX =>
  .ret (let d5:=J (cY+f8);let cD:=(aa++([d5.tmod (1000000000:Int)]:List Int));bf [.ay (ai 9 (al (.U false) (ai 1 (ck 2 (al (.U true) []))))),.U true,(I 2),(I 4),.U false,(I 4),.U true,.ay (bq 4 (.b2 (eI f8)) 2),.ay (bq 4 (.aG (cD.length)) 1),(I 3),(I 3),.aN [36] [.cu (ae 1 eI cD)] (a6 [0,1,5,6,7])] (.bg h1 h1 h1 h1 h1 h2 h2 h2 (.bg cv h1 h2 ab.1 (cO eI ab.2) (bU eI aA) (by decide:(1000000000:Int)≠0) (kZ (show [[.n .i64 (d5.tmod (1000000000:Int))]]=(([d5.tmod (1000000000:Int)]:List Int)).map eI from rfl) (show 1=([d5.tmod (1000000000:Int)]:List Int).length from rfl)) (.dU (gV eI aa) (lD (dF aa) (nS (show [[.n .i64 (d5.tmod (1000000000:Int))]]=(([d5.tmod (1000000000:Int)]:List Int)).map eI from rfl) (show 1=([d5.tmod (1000000000:Int)]:List Int).length from rfl)):cD.length=aa.length+(([[.n .i64 (d5.tmod (1000000000:Int))]].drop 0).take 1).length) aX (by decide:(1000000000:Int)≠0) (cU 1 .live (hZ (cR eI aa) (dF aa) (nS (show [[.n .i64 (d5.tmod (1000000000:Int))]]=(([d5.tmod (1000000000:Int)]:List Int)).map eI from rfl) (show 1=([d5.tmod (1000000000:Int)]:List Int).length from rfl)))) (aF 1 .live aO cD))))))
  (fun h2 =>
  (let t1:List bY:=[.ay (ai 9 (al (.U false) (ai 3 (al (.U false) []))))];
  .ite (fun ab =>
  .aY fun au =>
  .ret (let fJ:=(aa++([(cY.tmod (1000000000:Int))]:List Int));bf (t1.append [.U true,(I 2),(I 4),.U false,(I 4),.U false,.ay (bq 4 (.aG (fJ.length)) 1),(I 3),(I 3),.aN [29] [.cu (ae 1 eI fJ)] (a6 [0,1,5,6,7])]) (.bg h1 h1 h1 h1 h1 h2 h2 h2 (.bg ab h1 h2 (by decide:(1000000000:Int)≠0) (gx eI (cY.tmod (1000000000:Int))) (gV eI aa) (gy eI aa (cY.tmod (1000000000:Int))) au (.bO (by decide:(1000000000:Int)≠0) (cU 1 .live (ha eI aa (cY.tmod (1000000000:Int)))) (aF 1 .live aO fJ))))))
  (fun ab =>
  .ret (bf (t1.append [.U false,.aN [0] [.pure] (a6 [5])]) (.bg h1 h1 h1 h1 h1 h2 h2 h2 (.e2 ab (aF 1 .live aO aa))))))))
theorem VG {ag aB:List Int}{cY af:Int}{aa:List Int}{r} (h:IK ag aB cY af aa=some r):dQ a7 55 0 109 [1,1,1,0,1,0,0] (Hf ag aB) (HI ag aB) (cY,af,aa) r:=dR (fun _=>Ui) h
def xe (ag aB:List Int):Option (List Int) :=
 IK ag aB 0 0 ([]:List Int) >>= fun r1 =>
 some r1
theorem WM {ag aB:List Int}:bx (xe ag aB) (fun r=>Con a7 109 [.isl 1 (ag.map eI),.isl 1 (aB.map eI)] [] (.isl 1 (r.map eI)) []):=by
 unfold xe
 exact .ar fun r1 h2 =>
  .ret (bs [(I 1),(I 2),(I 1),(I 1),.aN [1] [.cu (ae 1 eI ([]:List Int))] [(0,ii),(1,ii),(5,fV (([]:List Int).length)),(6,ii),(7,ii)],(HI ag aB r1).e8,(I 2)] (.eE (cU 1 .live (show []=(([]:List Int)).map eI from rfl)) (aF 1 .live aO ([]:List Int)) (eY Int) (VG h2) (ga eI r1) (fF eI r1) (du aO r1)) (.br (.dh (.ek (r1.map eI)))))
def Hg (ag aB:List Int):Int→S:=fun af=>dl [(0,.isl 1 (ag.map eI)),(1,.isl 1 (aB.map eI)),(5,.n .i64 af)] []
def MM (ag aB:List Int):((Unit)⊕(Int))→dq
 | .inl a=>⟨some 0,[],[]⟩
 | .inr a=>⟨none,[(4,.n .i64 a)],[]⟩
def wH (ag aB:List Int)(af:Int):Option ((Int)⊕((Unit)⊕(Int))) :=
 if (decide ((0:Int)≤af))=true then
  if 0≤af∧af<ag.length then
  ag[af.toNat]? >>= fun aE =>
  if 0≤af∧af<aB.length then
  aB[af.toNat]? >>= fun cn =>
  if (decide (aE<cn))=true then
   some (.inr (.inr (-1)))
  else
   if (decide (cn<aE))=true then
    some (.inr (.inr 1))
   else
    some (.inl (J (af-(1:Int))))
  else none
  else none
 else
  some (.inr (.inl ()))
def IL (ag aB:List Int)(af:Int):Option ((Unit)⊕(Int)):=iter (fun w:Int=>wH ag aB w) af
theorem Uj {ag aB:List Int}{af:Int}:bx (wH ag aB af) (dP a7 41 0 110 [1,1,0,1,0,0] (Hg ag aB af) (Hg ag aB) (MM ag aB)):=by
 unfold wH
 exact .ite (fun h1 =>
  .aY fun h2 =>
  .ar fun aE au =>
  .aY fun aA =>
  .ar fun cn bb =>
  (let t1:List bY:=[(I 2),.U true,.ay (ai 3 (al (.b2 (eI aE)) (bq 3 (.b2 (eI cn)) 1)))];
  have aS:=((.eE h1 h2.1 (cO eI h2.2) (bU eI au) aA.1 (cO eI aA.2) (bU eI bb)):cp _);
  .ite (fun bi =>
  .ret (bf (t1.append [.U true,(I 1),.aN [] [] (a6 [4])]) (aS.aG (.e1 bi))))
  (fun bi =>
  (let t3:List bY:=t1.append [.U false,.ay (ai 3 (al (.b2 (eI aE)) (bq 3 (.b2 (eI cn)) 1)))];
  have eO:=aS.aG (.eE bi h2.1 (cO eI h2.2) (bU eI au) aA.1 (cO eI aA.2) (bU eI bb));
  .ite (fun cj =>
  .ret (bf (t3.append [.U true,(I 1),.aN [] [] (a6 [4])]) (eO.aG (.e1 cj))))
  (fun cj =>
  .ret (bf (t3.append [.U false,(I 3),.aN [] [] (a6 [0,1,5])]) (eO.aG (.e1 cj))))))))
  (fun h1 =>
  .ret (bf [(I 2),.U false,.aN [] [] []] (.e1 h1)))
theorem MX {ag aB:List Int}{af:Int}{r} (h:IL ag aB af=some r):dQ a7 41 0 110 [1,1,0,1,0,0] (Hg ag aB) (MM ag aB) af r:=dR (fun _=>Uj) h
def pJ (ag aB:List Int):Option Int :=
 if ((len_ eI ag) != (len_ eI aB))=true then
  if (decide ((len_ eI ag)<(len_ eI aB)))=true then
   some (-1)
  else
   some 1
 else
  IL ag aB (J ((len_ eI ag)-(1:Int))) >>= fun r2 =>
  match r2 with
  | .inl fK=>(some 0)
  | .inr fK=>(some fK)
theorem w1 {ag aB:List Int}:bx (pJ ag aB) (fun r=>Con a7 110 [.isl 1 (ag.map eI),.isl 1 (aB.map eI)] [] (.n .i64 r) []):=by
 unfold pJ
 exact .ite (fun h1 =>
  (let t1:List bY:=[(I 1),(I 5),.U true,(I 5)];
  .ite (fun h2 =>
  .ret (bs (t1.append [.U true,(I 1)]) (.e2 h1 h2)))
  (fun h2 =>
  .ret (bs (t1.append [.U false,(I 1)]) (.e2 h1 h2)))))
  (fun h1 =>
  .ar fun r2 ab =>
  (let t1:List bY:=[(I 1),(I 5),.U false,(I 4),.aN [] [] (a6 [0,1,5])];
  (by
  rcases r2 with fK|fK
  ·exact (.ret (bs (t1.append [.sub (.exit 0) [] [],(I 1)]) (.e2 h1 (MX ab))))
  ·exact (.ret (bs (t1.append [.sub (.ret) [(4,.n .i64 fK)] []]) (.e2 h1 (MX ab)))))))
def Hh (ag aB:List Int)(cX:Int):(Int×Int×(List Int))→S:=fun (k4,dJ,aa)=>dl [(0,.isl 1 (ag.map eI)),(1,.isl 1 (aB.map eI)),(5,.bk 0 0 0 aa.length),(6,.n .i64 k4),(11,.n .i64 cX),(12,.n .i64 dJ)] [(ae 1 eI aa)]
def HJ (ag aB:List Int)(cX:Int):(List Int)→dq
 | a=>⟨some 0,[(5,.bk 0 0 0 a.length)],[(ae 1 eI a)]⟩
def tQ (ag aB:List Int)(cX k4 dJ:Int)(aa:List Int):Option ((Int×Int×(List Int))⊕((List Int))) :=
 if (decide (dJ<cX))=true then
  if 0≤dJ∧dJ<ag.length then
  ag[dJ.toNat]? >>= fun aE =>
  if (decide (dJ<(len_ eI aB)))=true then
   if 0≤dJ∧dJ<aB.length then
   aB[dJ.toNat]? >>= fun fi =>
   if (decide ((J ((J (aE-k4))-fi))<(0:Int)))=true then
    if (aa++([J ((J ((J (aE-k4))-fi))+(1000000000:Int))]:List Int)).length*8≤140737488355328 then
    some (.inl (1,J (dJ+(1:Int)),aa++([J ((J ((J (aE-k4))-fi))+(1000000000:Int))]:List Int)))
    else none
   else
    if (aa++([J ((J (aE-k4))-fi)]:List Int)).length*8≤140737488355328 then
    some (.inl (0,J (dJ+(1:Int)),aa++([J ((J (aE-k4))-fi)]:List Int)))
    else none
   else none
  else
   if (decide ((J (aE-k4))<(0:Int)))=true then
    if (aa++([J ((J (aE-k4))+(1000000000:Int))]:List Int)).length*8≤140737488355328 then
    some (.inl (1,J (dJ+(1:Int)),aa++([J ((J (aE-k4))+(1000000000:Int))]:List Int)))
    else none
   else
    if (aa++([J (aE-k4)]:List Int)).length*8≤140737488355328 then
    some (.inl (0,J (dJ+(1:Int)),aa++([J (aE-k4)]:List Int)))
    else none
  else none
 else
  some (.inr aa)
def IM (ag aB:List Int)(cX k4 dJ:Int)(aa:List Int):Option ((List Int)):=iter (fun w:Int×Int×(List Int)=>tQ ag aB cX w.1 w.2.1 w.2.2) (k4,dJ,aa)
theorem Uk {ag aB:List Int}{cX k4 dJ:Int}{aa:List Int}:bx (tQ ag aB cX k4 dJ aa) (dP a7 42 0 111 [1,1,1,0,1,0,0] (Hh ag aB cX (k4,dJ,aa)) (Hh ag aB cX) (HJ ag aB cX)):=by
 unfold tQ
 exact .ite (fun h1 =>
  .aY fun h2 =>
  .ar fun aE au =>
  (let t1:List bY:=[(I 1),.U true,(I 2),.ay (bq 3 (.b2 (eI aE)) 3),(I 4)];
  have aS:=((.c5 h1 h2.1 (cO eI h2.2) (bU eI au)):cp _);
  .ite (fun aA =>
  .aY fun aX =>
  .ar fun fi bi =>
  (let t3:List bY:=t1.append [.U true,.ay (bq 4 (.b2 (eI fi)) 2),(I 1),(I 2)];
  have eO:=aS.aG (.c5 aA aX.1 (cO eI aX.2) (bU eI bi));
  .ite (fun cj =>
  .aY fun cM =>
  .ret (let q1:=(J ((J ((J (aE-k4))-fi))+(1000000000:Int)));let q2:=(aa++([q1]:List Int));bf (t3.append [.U true,(I 3),(I 1),.ay (bq 3 (.aG (q2.length)) 1),(I 2),.aN [32] [.cu (ae 1 eI q2)] (a6 [0,1,5,6,11,12])]) (eO.aG (.eE cj (gx eI q1) (gV eI aa) (gy eI aa q1) cM (cU 1 .live (ha eI aa q1)) (aF 1 .live aO q2)))))
  (fun cj =>
  .aY fun cM =>
  .ret (let bK:=J ((J (aE-k4))-fi);let bW:=(aa++([bK]:List Int));bf (t3.append [.U false,.ay (bq 3 (.aG (bW.length)) 1),(I 2),.aN [28] [.cu (ae 1 eI bW)] (a6 [0,1,5,6,11,12])]) (eO.aG (.eE cj (gx eI bK) (gV eI aa) (gy eI aa bK) cM (cU 1 .live (ha eI aa bK)) (aF 1 .live aO bW)))))))
  (fun aA =>
  (let t3:List bY:=t1.append [.U false,(I 1),(I 2)];
  .ite (fun aX =>
  .aY fun bb =>
  .ret (let cD:=(J ((J (aE-k4))+(1000000000:Int)));let d5:=(aa++([cD]:List Int));bf (t3.append [.U true,(I 3),(I 1),.ay (bq 3 (.aG (d5.length)) 1),(I 2),.aN [25] [.cu (ae 1 eI d5)] (a6 [0,1,5,6,11,12])]) (aS.aG (.gJ aA aX (gx eI cD) (gV eI aa) (gy eI aa cD) bb (cU 1 .live (ha eI aa cD)) (aF 1 .live aO d5)))))
  (fun aX =>
  .aY fun bb =>
  .ret (let eB:=J (aE-k4);let fJ:=(aa++([eB]:List Int));bf (t3.append [.U false,.ay (bq 3 (.aG (fJ.length)) 1),(I 2),.aN [21] [.cu (ae 1 eI fJ)] (a6 [0,1,5,6,11,12])]) (aS.aG (.gJ aA aX (gx eI eB) (gV eI aa) (gy eI aa eB) bb (cU 1 .live (ha eI aa eB)) (aF 1 .live aO fJ)))))))))
  (fun h1 =>
  .ret (bf [(I 1),.U false,.aN [0] [.pure] (a6 [5])] (.e2 h1 (aF 1 .live aO aa))))
theorem VH {ag aB:List Int}{cX k4 dJ:Int}{aa:List Int}{r} (h:IM ag aB cX k4 dJ aa=some r):dQ a7 42 0 111 [1,1,1,0,1,0,0] (Hh ag aB cX) (HJ ag aB cX) (k4,dJ,aa) r:=dR (fun _=>Uk) h
def rJ (ag aB:List Int):Option (List Int) :=
 IM ag aB (len_ eI ag) 0 0 ([]:List Int) >>= fun r1 =>
 pH r1 >>= fun bd =>
 some bd
theorem IP {ag aB:List Int}:bx (rJ ag aB) (fun r=>Con a7 111 [.isl 1 (ag.map eI),.isl 1 (aB.map eI)] [] (.isl 1 (r.map eI)) []):=by
 unfold rJ
 exact .ar fun r1 h2 =>
  .ar fun bd au =>
  .ret (bs [(I 1),(I 2),(I 1),(I 3),.aN [1] [.cu (ae 1 eI ([]:List Int))] [(0,ii),(1,ii),(5,fV (([]:List Int).length)),(6,ii),(11,ii),(12,ii)],(HJ ag aB (len_ eI ag) r1).e8,.iK 0,.ay (bq 1 (.call {ac:=[.br (.dh (.ek (r1.map eI)))],r:= .isl 1 (bd.map eI),fz:=false,fH:=[0]}) 1)] (.gJ (cU 1 .live (show []=(([]:List Int)).map eI from rfl)) (aF 1 .live aO ([]:List Int)) (eY Int) (VH h2) (ga eI r1) (fF eI r1) (du aO r1) (rE bd au)))
def pK (c3 et:bm):Option bm :=
 if (c3.cJ == et.cJ)=true then
  xe c3.cw et.cw >>= fun r2 =>
  hI c3.cJ r2 >>= fun bh =>
  some bh
 else
  pJ c3.cw et.cw >>= fun r2 =>
  if (decide ((0:Int)≤r2))=true then
   rJ c3.cw et.cw >>= fun aK =>
   hI c3.cJ aK >>= fun b4 =>
   some b4
  else
   rJ et.cw c3.cw >>= fun aK =>
   hI et.cJ aK >>= fun b4 =>
   some b4
theorem IQ {c3 et:bm}:bx (pK c3 et) (fun r=>Con a7 91 [.agg (aU c3),.agg (aU et)] [] (.agg (aU r)) []):=by
 unfold pK
 exact .ite (fun h1 =>
  .ar fun r2 ab =>
  .ar fun bh aA =>
  .ret (bs [(I 3),(I 5),.U true,.ay (ai 6 (al (bp 2 (.isl 1 (r2.map eI)) false) (al (bp 2 (.agg (aU bh)) false) (ai 1 []))))] (.bO h1 (WM r2 ab) (nN bh aA))))
  (fun h1 =>
  .ar fun r2 ab =>
  (let t1:List bY:=[(I 3),(I 5),.U false,.ay (bq 4 (bp 2 (.n .i64 r2) true) 1)];
  have aS:=((.bO h1 (w1 r2 ab) (b7.n .i64 r2)):cp _);
  .ite (fun au =>
  .ar fun aK aX =>
  .ar fun b4 bi =>
  .ret (bs (t1.append [.U true,.ay (ai 6 (al (bp 2 (.isl 1 (aK.map eI)) false) (al (bp 2 (.agg (aU b4)) false) (ai 1 []))))]) (aS.aG (.bO au (IP aK aX) (nN b4 bi)))))
  (fun au =>
  .ar fun aK aX =>
  .ar fun b4 bi =>
  .ret (bs (t1.append [.U false,.ay (ai 6 (al (bp 2 (.isl 1 (aK.map eI)) false) (al (bp 2 (.agg (aU b4)) false) (ai 1 []))))]) (aS.aG (.bO au (IP aK aX) (nN b4 bi)))))))
def HK (ag:List Int)(gG:Int):Int→S:=fun dn=>dl [(0,.isl 1 (ag.map eI)),(5,.isl 1 (ag.map eI)),(6,.n .i64 gG),(7,.n .i64 dn)] []
def MY (ag:List Int)(gG:Int):((Unit)⊕(Unit))→dq
 | .inl a=>⟨some 0,[(0,.isl 1 (ag.map eI))],[]⟩
 | .inr a=>⟨none,[(2,.b false)],[]⟩
def wR (ag:List Int)(gG dn:Int):Option ((Int)⊕((Unit)⊕(Unit))) :=
 if (decide (dn<gG))=true then
  if 0≤dn∧dn<ag.length then
  ag[dn.toNat]? >>= fun aE =>
  my aE 0 999999999 >>= fun aK =>
  if aK=true then
   some (.inl (J (dn+(1:Int))))
  else
   some (.inr (.inr ()))
  else none
 else
  some (.inr (.inl ()))
def I4 (ag:List Int)(gG dn:Int):Option ((Unit)⊕(Unit)):=iter (fun w:Int=>wR ag gG w) dn
theorem UG {ag:List Int}{gG dn:Int}:bx (wR ag gG dn) (dP a7 32 0 99 [1,0,1,0,0] (HK ag gG dn) (HK ag gG) (MY ag gG)):=by
 unfold wR
 exact .ite (fun h1 =>
  .aY fun h2 =>
  .ar fun aE au =>
  .ar fun aK aX =>
  (let t1:List bY:=[(I 1),.U true,.ay (bq 1 (.b2 (eI aE)) 1),.ay (bq 1 (bp 3 (.b aK) true) 1)];
  have aS:=((.dU h1 h2.1 (cO eI h2.2) (bU eI au) (pG aK aX) (b7.b aK)):cp _);
  .ite (fun bb =>
  .ret (bf (t1.append [.U false,(I 2),.aN [] [] (a6 [0,5,6,7])]) (aS.aG (.e1 (cV bb)))))
  (fun bb =>
  .ret (bf (t1.append [.U true,(I 1),.aN [] [] (a6 [2])]) (aS.aG (.e1 (cT bb)))))))
  (fun h1 =>
  .ret (bf [(I 1),.U false,.aN [] [] (a6 [0])] (.e1 h1)))
theorem Il {ag:List Int}{gG dn:Int}{r} (h:I4 ag gG dn=some r):dQ a7 32 0 99 [1,0,1,0,0] (HK ag gG) (MY ag gG) dn r:=dR (fun _=>UG) h
def rK (ag:List Int):Option Bool :=
 I4 ag (len_ eI ag) 0 >>= fun r1 =>
 match r1 with
 | .inl di=>(if (decide ((len_ eI ag)≤(60:Int)))=true then
  if ((len_ eI ag) == (0:Int))=true then
   some true
  else
   if 0≤(J ((len_ eI ag)-(1:Int)))∧(J ((len_ eI ag)-(1:Int)))<ag.length then
   ag[(J ((len_ eI ag)-(1:Int))).toNat]? >>= fun fi =>
   some (fi != (0:Int))
   else none
  else
   some false)
 | .inr di=>(some false)
theorem I5 {ag:List Int}:bx (rK ag) (fun r=>Con a7 99 [.isl 1 (ag.map eI)] [] (.b r) []):=by
 unfold rK
 exact .ar fun r1 h2 =>
  (let t1:List bY:=[(I 1),(I 3),.aN [] [] (a6 [0,5,6,7])];
  (by
  rcases r1 with di|di
  ·exact ((let t2:List bY:=t1.append [.sub (.exit 0) [(0,.isl 1 (ag.map eI))] []];
  .ite (fun au =>
  (have fA:=((.dg (Il h2) au au au au):cp _);
  .ite (fun aA =>
  .ret (bs (t2.append [.ay (ai 8 (ck 7 (al (.U true) (al (.U true) (ai 1 [])))))]) (fA.aG (.bg aA aA aA aA aA aA aA au (.e2 aA au)))))
  (fun aA =>
  .aY fun aX =>
  .ar fun fi bi =>
  .ret (bs (t2.append [.ay (ai 13 (al (.b2 (eI fi)) (ai 1 (al (.U false) (al (.U true) (ai 1 []))))))]) (fA.aG (.bg aA aA aA aA aA aX.1 (cO eI aX.2) aA (.dg (bU eI bi) aA au aA au)))))))
  (fun au =>
  .ret (bs (t2.append [.ay (ai 4 (ck 4 (ai 7 (ck 1 (al (.U false) (ai 1 []))))))]) (.eE (Il h2) au au au au au au)))))
  ·exact (.ret (bs (t1.append [.sub (.ret) [(2,.b false)] []]) (.e1 (Il h2))))))
def Gs (ag:List Int):(Int×Int)→S:=fun (aW,af)=>dl [(0,.isl 1 (ag.map eI)),(4,.n .i64 aW),(5,.n .i64 af)] []
def GK (ag:List Int):Int→dq
 | a=>⟨some 0,[(4,.n .i64 a)],[]⟩
def wi (ag:List Int)(aW af:Int):Option ((Int×Int)⊕(Int)) :=
 if (decide ((0:Int)≤af))=true then
  if 0≤af∧af<ag.length then
  ag[af.toNat]? >>= fun aE =>
  some (.inl (J ((J (aW*(1000000000:Int)))+aE),J (af-(1:Int))))
  else none
 else
  some (.inr aW)
def Im (ag:List Int)(aW af:Int):Option (Int):=iter (fun w:Int×Int=>wi ag w.1 w.2) (aW,af)
theorem TJ {ag:List Int}{aW af:Int}:bx (wi ag aW af) (dP a7 30 0 118 [1,1,1,0,1,0,0] (Gs ag (aW,af)) (Gs ag) (GK ag)):=by
 unfold wi
 exact .ite (fun h1 =>
  .aY fun h2 =>
  .ar fun aE au =>
  .ret (bf [(I 2),.U true,.ay (bq 5 (.b2 (eI aE)) 2),(I 3),.aN [] [] (a6 [0,4,5])] (.c5 h1 h2.1 (cO eI h2.2) (bU eI au))))
  (fun h1 =>
  .ret (bf [(I 2),.U false,.aN [] [] (a6 [4])] (.e1 h1)))
theorem U5 {ag:List Int}{aW af:Int}{r} (h:Im ag aW af=some r):dQ a7 30 0 118 [1,1,1,0,1,0,0] (Gs ag) (GK ag) (aW,af) r:=dR (fun _=>TJ) h
def w4 (ag:List Int):Option (Int×Bool) :=
 rK ag >>= fun r1 =>
 if r1=true then
  pJ ag ([854775807,223372036,9]:List Int) >>= fun bh =>
  if (decide ((0:Int)<bh))=true then
   some (0,false)
  else
   Im ag 0 (J ((len_ eI ag)-(1:Int))) >>= fun b4 =>
   some (b4,true)
 else
  some (0,false)
theorem M3 {ag:List Int}:bx (w4 ag) (fun r=>Con a7 118 [.isl 1 (ag.map eI)] [] (.dS [.n .i64 r.1,.b r.2]) []):=by
 unfold w4
 exact .ar fun r1 h2 =>
  (have ae:=((.e2 (I5 r1 h2) (b7.b r1)):cp _);
  .ite (fun ab =>
  .ar fun bh aA =>
  (let t2:List bY:=[(I 2),.ay (ai 1 (al (bp 1 (.b r1) true) (ai 4 (al (.call {ac:=[ii,.br (.dh (.ek (([854775807,223372036,9]:List Int).map eI)))],r:= .n .i64 bh,fz:=true,fH:=[7]}) (ai 1 (al (.U false) []))))))];
  have fA:=ae.aG (.bg (cV ab) (cV ab) (cV ab) (kO (show [[.n .i64 (854775807:Int)],[.n .i64 (223372036:Int)],[.n .i64 (9:Int)]]=(([854775807,223372036,9]:List Int)).map eI from rfl) (show 3=([854775807,223372036,9]:List Int).length from rfl)) (kZ (show [[.n .i64 (854775807:Int)],[.n .i64 (223372036:Int)],[.n .i64 (9:Int)]]=(([854775807,223372036,9]:List Int)).map eI from rfl) (show 3=([854775807,223372036,9]:List Int).length from rfl)) (du aO ([854775807,223372036,9]:List Int)) (w1 bh aA) (b7.n .i64 bh) (.e2 (cV ab) (cV ab)));
  .ite (fun aX =>
  .ret (bs (t2.append [.U true,(I 2)]) (fA.aG (.e1 aX))))
  (fun aX =>
  .ar fun b4 bi =>
  .ret (bs (t2.append [.U false,(I 1),(I 4),.aN [] [] (a6 [0,4,5]),(GK ag b4).e8,(I 3)]) (fA.aG (.e2 aX (U5 bi)))))))
  (fun ab =>
  .ret (bs [(I 2),.ay (ai 1 (al (bp 1 (.b r1) true) (ai 2 (ck 4 (al (.U true) []))))),.U true,(I 2)] (ae.aG (.dU (cT ab) (cT ab) (cT ab) (cT ab) (cT ab) cv)))))
def Gt:(Int×Int)→S:=fun (c3,et)=>dl [(0,.n .i64 c3),(1,.n .i64 et)] []
def GL:Int→dq
 | a=>⟨some 0,[(0,.n .i64 a)],[]⟩
def wj (c3 et:Int):Option ((Int×Int)⊕(Int)) :=
 if (decide ((0:Int)<et))=true then
  if et≠0 then
  some (.inl (et,c3.tmod et))
  else none
 else
  some (.inr c3)
def Io (c3 et:Int):Option (Int):=iter (fun w:Int×Int=>wj w.1 w.2) (c3,et)
theorem TK {c3 et:Int}:bx (wj c3 et) (dP a7 15 0 119 [1,0,0,0] (Gt (c3,et)) (Gt) (GL)):=by
 unfold wj
 exact .ite (fun h1 =>
  .aY fun h2 =>
  .ret (bf [(I 2),.U true,(I 4),(I 2),(I 2),.aN [] [] (a6 [0,1])] (.e2 h1 h2)))
  (fun h1 =>
  .ret (bf [(I 2),.U false,.aN [] [] (a6 [0])] (.e1 h1)))
theorem U6 {c3 et:Int}{r} (h:Io c3 et=some r):dQ a7 15 0 119 [1,0,0,0] (Gt) (GL) (c3,et) r:=dR (fun _=>TK) h
def zp (c3 et:Int):Option (List Int) :=
 Io c3 et >>= fun r1 =>
 q6 r1 >>= fun bd =>
 some bd
theorem VZ {c3 et:Int}:bx (zp c3 et) (fun r=>Con a7 119 [.n .i64 c3,.n .i64 et] [] (.isl 1 (r.map eI)) []):=by
 unfold zp
 exact .ar fun r1 h2 =>
  .ar fun bd au =>
  .ret (bs [(I 1),.aN [] [] (a6 [0,1]),(GL r1).e8,.ay (bq 1 (bp 1 (.isl 1 (bd.map eI)) false) 1)] (.e2 (U6 h2) (w3 bd au)))
def Gu (ag:List Int)(ld:Int):(Int×Int×(List Int))→S:=fun (fG,af,aa)=>dl [(0,.isl 1 (ag.map eI)),(1,.n .i64 ld),(6,.bk 0 0 0 aa.length),(7,.n .i64 fG),(8,.n .i64 af)] [(ae 1 eI aa)]
def GM (ag:List Int)(ld:Int):(Int×(List Int))→dq
 | a=>⟨some 0,[(6,.bk 0 0 0 a.2.length),(7,.n .i64 a.1)],[(ae 1 eI a.2)]⟩
def wk (ag:List Int)(ld fG af:Int)(aa:List Int):Option ((Int×Int×(List Int))⊕(Int×(List Int))) :=
 if (decide ((0:Int)≤af))=true then
  if 0≤af∧af<ag.length then
  ag[af.toNat]? >>= fun aE =>
  if ld≠0 then
  if 0≤af∧af<(aa.length:Nat) then
  if (0+af.toNat)<aa.length then
  some (.inl ((J ((J (fG*(1000000000:Int)))+aE)).tmod ld,J (af-(1:Int)),aa.set (0+af.toNat) (J ((J ((J (fG*(1000000000:Int)))+aE)).tdiv ld))))
  else none
  else none
  else none
  else none
 else
  some (.inr (fG,aa))
def CD (ag:List Int)(ld fG af:Int)(aa:List Int):Option (Int×(List Int)):=iter (fun w:Int×Int×(List Int)=>wk ag ld w.1 w.2.1 w.2.2) (fG,af,aa)
theorem TL {ag:List Int}{ld fG af:Int}{aa:List Int}:bx (wk ag ld fG af aa) (dP a7 39 0 124 [1,1,1,0,1,0,0] (Gu ag ld (fG,af,aa)) (Gu ag ld) (GM ag ld)):=by
 unfold wk
 exact .ite (fun h1 =>
  .aY fun h2 =>
  .ar fun aE au =>
  .aY fun aA =>
  .aY fun aX =>
  .aY fun bb =>
  .ret (let q1:=(J ((J ((J (fG*(1000000000:Int)))+aE)).tdiv ld));bf [(I 2),.U true,.ay (bq 5 (.b2 (eI aE)) 2),.ay (ai 6 (al .fM [])),(I 4),(I 3),.aN [0] [.cu (ae 1 eI (aa.set (0+af.toNat) q1))] [(0,ii),(1,ii),(6,fV ((aa.set (0+af.toNat) q1).length)),(7,ii),(8,ii)]] (.bg h1 h2.1 (cO eI h2.2) (bU eI au) aA aX.1 aX.2 (hz eI bb) (.dg (ht 1) aA (cU 1 .live (gD (cR eI aa) (0+af.toNat) q1)) (aF 1 .live aO (aa.set (0+af.toNat) q1)) (hP (dF aa) (0+af.toNat) q1)))))
  (fun h1 =>
  .ret (bf [(I 2),.U false,.aN [0] [.pure] (a6 [6,7])] (.e2 h1 (aF 1 .live aO aa))))
theorem U7 {ag:List Int}{ld fG af:Int}{aa:List Int}{r} (h:CD ag ld fG af aa=some r):dQ a7 39 0 124 [1,1,1,0,1,0,0] (Gu ag ld) (GM ag ld) (fG,af,aa) r:=dR (fun _=>TL) h
def zq (ag:List Int)(ld:Int):Option ((List Int)×Int) :=
 if 0≤(len_ eI ag)∧(8:Int)*(len_ eI ag)≤281474976710656∧(len_ eI ag)<9223372036854775808 then
 CD ag ld 0 (J ((len_ eI ag)-(1:Int))) (List.replicate (len_ eI ag).toNat 0:List Int) >>= fun r2 =>
 pH r2.2 >>= fun bh =>
 some (bh,r2.1)
 else none
theorem V0 {ag:List Int}{ld:Int}:bx (zq ag ld) (fun r=>Con a7 124 [.isl 1 (ag.map eI),.n .i64 ld] [] (.dS [.isl 1 (r.1.map eI),.n .i64 r.2]) []):=by
 unfold zq
 exact .aY fun h1 =>
  .ar fun r2 ab =>
  .ar fun bh aA =>
  .ret (let q1:=(List.replicate (len_ eI ag).toNat 0:List Int);bs [(I 2),(I 4),(I 1),(I 4),.aN [4] [.cu (ae 1 eI q1)] [(0,ii),(1,ii),(6,fV (q1.length)),(7,ii),(8,ii)],(GM ag ld r2).e8,.iK 0,.ay (bq 1 (.call {ac:=[.br (.dh (.ek (r2.2.map eI)))],r:= .isl 1 (bh.map eI),fz:=false,fH:=[0]}) 3)] (.bg h1.1 (Int.le_refl (len_ eI ag)) h1.2.1 h1.2.2 (cU 1 .live (lC eI (len_ eI ag).toNat 0)) (aF 1 .live aO q1) (lW (len_ eI ag).toNat (0:Int)) (U7 ab) (.c5 (ga eI r2.2) (fF eI r2.2) (du aO r2.2) (rE bh aA))))
def Hi (aB:List Int)(af c3:Int)(c8:List Int)(c9 gX:Int):(Int×Int×(List Int))→S:=fun (cY,da,aa)=>dl [(1,.isl 1 (aB.map eI)),(5,.bk 0 0 0 aa.length),(6,.n .i64 af),(7,.n .i64 c3),(8,.n .i64 cY),(26,.isl 1 (c8.map eI)),(27,.n .i64 c9),(28,.n .i64 af),(33,.isl 1 (aB.map eI)),(34,.n .i64 gX),(35,.n .i64 da)] [(ae 1 eI aa)]
def HL (aB:List Int)(af c3:Int)(c8:List Int)(c9 gX:Int):(Int×(List Int))→dq
 | a=>⟨some 2,[(1,.isl 1 (aB.map eI)),(5,.bk 0 0 0 a.2.length),(6,.n .i64 af),(8,.n .i64 a.1),(26,.isl 1 (c8.map eI)),(27,.n .i64 c9),(28,.n .i64 af)],[(ae 1 eI a.2)]⟩
def wI (aB:List Int)(af c3:Int)(c8:List Int)(c9 gX cY da:Int)(aa:List Int):Option ((Int×Int×(List Int))⊕(Int×(List Int))) :=
 if (decide (da<gX))=true then
  if 0≤da∧da<aB.length then
  aB[da.toNat]? >>= fun aE =>
  if 0≤(J (af+da))∧(J (af+da))<(aa.length:Nat) then
  aa[(0+(J (af+da)).toNat)]? >>= fun cn =>
  if (0+(J (af+da)).toNat)<aa.length then
  some (.inl (J ((J ((J (cn+(J (c3*aE))))+cY)).tdiv (1000000000:Int)),J (da+(1:Int)),aa.set (0+(J (af+da)).toNat) ((J ((J (cn+(J (c3*aE))))+cY)).tmod (1000000000:Int))))
  else none
  else none
  else none
 else
  some (.inr (cY,aa))
def IR (aB:List Int)(af c3:Int)(c8:List Int)(c9 gX cY da:Int)(aa:List Int):Option (Int×(List Int)):=iter (fun w:Int×Int×(List Int)=>wI aB af c3 c8 c9 gX w.1 w.2.1 w.2.2) (cY,da,aa)
theorem Ul {aB:List Int}{af c3:Int}{c8:List Int}{c9 gX cY da:Int}{aa:List Int}:bx (wI aB af c3 c8 c9 gX cY da aa) (dP a7 72 0 94 [1,1,1,0,1,0,0,1,1,0,0,1,1,0,1,0,0] (Hi aB af c3 c8 c9 gX (cY,da,aa)) (Hi aB af c3 c8 c9 gX) (HL aB af c3 c8 c9 gX)):=by
 unfold wI
 exact .ite (fun h1 =>
  .aY fun h2 =>
  .ar fun aE au =>
  .aY fun aA =>
  .ar fun cn bb =>
  .aY fun bi =>
  .ret (let q1:=J ((J (cn+(J (c3*aE))))+cY);let q2:=J (af+da);bf [(I 1),.U true,.ay (bq 2 (.b2 (eI aE)) 2),.ay (bq 5 (.b2 (eI cn)) 7),.ay (ai 7 (al .fM [])),(I 3),(I 2),.aN [0] [.cu (ae 1 eI (aa.set (0+q2.toNat) (q1.tmod (1000000000:Int))))] [(1,ii),(5,fV ((aa.set (0+q2.toNat) (q1.tmod (1000000000:Int))).length)),(6,ii),(7,ii),(8,ii),(26,ii),(27,ii),(28,ii),(33,ii),(34,ii),(35,ii)]] (.bg h1 h2.1 (cO eI h2.2) (bU eI au) aA.1 aA.2 (bU eI bb) (by decide:(1000000000:Int)≠0) (.gJ aA.1 aA.2 (hz eI bi) (ht 1) (by decide:(1000000000:Int)≠0) (cU 1 .live (gD (cR eI aa) (0+q2.toNat) (q1.tmod (1000000000:Int)))) (aF 1 .live aO (aa.set (0+q2.toNat) (q1.tmod (1000000000:Int)))) (hP (dF aa) (0+q2.toNat) (q1.tmod (1000000000:Int)))))))
  (fun h1 =>
  .ret (bf [(I 1),.U false,.aN [0] [.pure] (a6 [1,5,6,8,26,27,28])] (.e2 h1 (aF 1 .live aO aa))))
theorem VI {aB:List Int}{af c3:Int}{c8:List Int}{c9 gX cY da:Int}{aa:List Int}{r} (h:IR aB af c3 c8 c9 gX cY da aa=some r):dQ a7 72 0 94 [1,1,1,0,1,0,0,1,1,0,0,1,1,0,1,0,0] (Hi aB af c3 c8 c9 gX) (HL aB af c3 c8 c9 gX) (cY,da,aa) r:=dR (fun _=>Ul) h
def Hj (aB c8:List Int)(c9:Int):(Int×(List Int))→S:=fun (fs,aa)=>dl [(1,.isl 1 (aB.map eI)),(5,.bk 0 0 0 aa.length),(26,.isl 1 (c8.map eI)),(27,.n .i64 c9),(28,.n .i64 fs)] [(ae 1 eI aa)]
def HM (aB c8:List Int)(c9:Int):(List Int)→dq
 | a=>⟨some 0,[(5,.bk 0 0 0 a.length)],[(ae 1 eI a)]⟩
def y0 (aB c8:List Int)(c9 fs:Int)(aa:List Int):Option ((Int×(List Int))⊕((List Int))) :=
 if (decide (fs<c9))=true then
  if 0≤fs∧fs<c8.length then
  c8[fs.toNat]? >>= fun aE =>
  IR aB fs aE c8 c9 (len_ eI aB) 0 0 aa >>= fun aK =>
  if 0≤(J (fs+(len_ eI aB)))∧(J (fs+(len_ eI aB)))<(aK.2.length:Nat) then
  if (0+(J (fs+(len_ eI aB))).toNat)<aK.2.length then
  some (.inl (J (fs+(1:Int)),aK.2.set (0+(J (fs+(len_ eI aB))).toNat) aK.1))
  else none
  else none
  else none
 else
  some (.inr aa)
def zi (aB c8:List Int)(c9 fs:Int)(aa:List Int):Option ((List Int)):=iter (fun w:Int×(List Int)=>y0 aB c8 c9 w.1 w.2) (fs,aa)
theorem Um {aB c8:List Int}{c9 fs:Int}{aa:List Int}:bx (y0 aB c8 c9 fs aa) (dP a7 72 0 94 [1,1,1,0,1,0,0] (Hj aB c8 c9 (fs,aa)) (Hj aB c8 c9) (HM aB c8 c9)):=by
 unfold y0
 exact .ite (fun h1 =>
  .aY fun h2 =>
  .ar fun aE au =>
  .ar fun aK aX =>
  .aY fun bb =>
  .aY fun bi =>
  .ret (let q1:=J (fs+(len_ eI aB));bf [(I 1),.U true,.ay (bq 2 (.b2 (eI aE)) 2),(I 1),(I 3),.aN [0] [.pure] (a6 [1,5,6,7,8,26,27,28,33,34,35]),(HL aB fs aE c8 c9 (len_ eI aB) aK).e8,.ay (ai 7 (al .fM [])),(I 2),.aN [0] [.cu (ae 1 eI (aK.2.set (0+q1.toNat) aK.1))] [(1,ii),(5,fV ((aK.2.set (0+q1.toNat) aK.1).length)),(26,ii),(27,ii),(28,ii)]] (.bg h1 h2.1 (cO eI h2.2) (bU eI au) (aF 1 .live aO aa) (VI aX) bb.1 bb.2 (.dg (hz eI bi) (ht 1) (cU 1 .live (gD (cR eI aK.2) (0+q1.toNat) aK.1)) (aF 1 .live aO (aK.2.set (0+q1.toNat) aK.1)) (hP (dF aK.2) (0+q1.toNat) aK.1)))))
  (fun h1 =>
  .ret (bf [(I 1),.U false,.aN [0] [.pure] (a6 [5])] (.e2 h1 (aF 1 .live aO aa))))
theorem VJ {aB c8:List Int}{c9 fs:Int}{aa:List Int}{r} (h:zi aB c8 c9 fs aa=some r):dQ a7 72 0 94 [1,1,1,0,1,0,0] (Hj aB c8 c9) (HM aB c8 c9) (fs,aa) r:=dR (fun _=>Um) h
def hE (ag aB:List Int):Option (List Int) :=
 if ((len_ eI ag) == (0:Int))=true then
  some ([]:List Int)
 else
  if ((len_ eI aB) == (0:Int))=true then
   some ([]:List Int)
  else
   if 0≤(J ((len_ eI ag)+(len_ eI aB)))∧(8:Int)*(J ((len_ eI ag)+(len_ eI aB)))≤281474976710656∧(J ((len_ eI ag)+(len_ eI aB)))<9223372036854775808 then
   zi aB ag (len_ eI ag) 0 (List.replicate (J ((len_ eI ag)+(len_ eI aB))).toNat 0:List Int) >>= fun bh =>
   pH bh >>= fun cc =>
   some cc
   else none
theorem oT {ag aB:List Int}:bx (hE ag aB) (fun r=>Con a7 94 [.isl 1 (ag.map eI),.isl 1 (aB.map eI)] [] (.isl 1 (r.map eI)) []):=by
 unfold hE
 exact .ite (fun h1 =>
  .ret (bs [(I 1),.ay (ai 4 (ck 3 (al (.U true) []))),.U true,(I 1)] (.dg h1 h1 h1 h1 cv) (.br (.dh (.jE 1)))))
  (fun h1 =>
  (let t1:List bY:=[(I 1),.ay (ai 7 (al (.U false) []))];
  .ite (fun h2 =>
  .ret (bs (t1.append [.U true,(I 1)]) (.dg h1 h1 h1 h1 h2) (.br (.dh (.jE 1)))))
  (fun h2 =>
  .aY fun ab =>
  .ar fun bh aA =>
  .ar fun cc bb =>
  .ret (let q1:=J ((len_ eI ag)+(len_ eI aB));let q2:=(List.replicate q1.toNat 0:List Int);bs (t1.append [.U false,(I 7),(I 3),.aN [14] [.cu (ae 1 eI q2)] [(1,ii),(5,fV (q2.length)),(26,ii),(27,ii),(28,ii)],(HM aB ag (len_ eI ag) bh).e8,.iK 0,.ay (bq 1 (.call {ac:=[.br (.dh (.ek (bh.map eI)))],r:= .isl 1 (cc.map eI),fz:=false,fH:=[0]}) 1)]) (.bg h1 h1 h1 h1 h2 ab.1 (Int.le_refl q1) ab.2.1 (.bg ab.2.2 (cU 1 .live (lC eI q1.toNat 0)) (aF 1 .live aO q2) (lW q1.toNat (0:Int)) (VJ aA) (ga eI bh) (fF eI bh) (du aO bh) (.e1 (rE cc bb))))))))
def Gv (bR aB:List Int):(Int×Int)→S:=fun (l2,mg)=>dl [(0,.isl 1 (bR.map eI)),(1,.isl 1 (aB.map eI)),(7,.n .i64 l2),(8,.n .i64 mg)] []
def Mv (bR aB:List Int):Int→dq
 | a=>⟨some 0,[(7,.n .i64 a)],[]⟩
def tL (bR aB:List Int)(l2 mg:Int):Option ((Int×Int)⊕(Int)) :=
 if (decide (l2<mg))=true then
  q6 (J ((J ((J (l2+mg))+(1:Int))).tdiv (2:Int))) >>= fun r2 =>
  hE aB r2 >>= fun bh =>
  pJ bh bR >>= fun cc =>
  if (decide (cc≤(0:Int)))=true then
   some (.inl (J ((J ((J (l2+mg))+(1:Int))).tdiv (2:Int)),mg))
  else
   some (.inl (l2,J ((J ((J ((J (l2+mg))+(1:Int))).tdiv (2:Int)))-(1:Int))))
 else
  some (.inr l2)
def CE (bR aB:List Int)(l2 mg:Int):Option (Int):=iter (fun w:Int×Int=>tL bR aB w.1 w.2) (l2,mg)
theorem TM {bR aB:List Int}{l2 mg:Int}:bx (tL bR aB l2 mg) (dP a7 63 0 125 [1,1,1,1,1,1,0,0,0] (Gv bR aB (l2,mg)) (Gv bR aB) (Mv bR aB)):=by
 unfold tL
 exact .ite (fun h1 =>
  .ar fun r2 ab =>
  .ar fun bh aA =>
  .ar fun cc bb =>
  (let t1:List bY:=[(I 3),.U true,(I 6),.ay (ai 2 (al (bp 1 (.isl 1 (r2.map eI)) false) (al (bp 2 (.isl 1 (bh.map eI)) false) (bq 1 (bp 2 (.n .i64 cc) true) 1))))];
  have aS:=((.dU h1 (by decide:(2:Int)≠0) (w3 r2 ab) (oT bh aA) (w1 cc bb) (b7.n .i64 cc)):cp _);
  .ite (fun bi =>
  .ret (bf (t1.append [.U true,(I 2),.aN [] [] (a6 [0,1,7,8])]) (aS.aG (.e1 bi))))
  (fun bi =>
  .ret (bf (t1.append [.U false,(I 3),.aN [] [] (a6 [0,1,7,8])]) (aS.aG (.e1 bi))))))
  (fun h1 =>
  .ret (bf [(I 3),.U false,.aN [] [] (a6 [7])] (.e1 h1)))
theorem MD {bR aB:List Int}{l2 mg:Int}{r} (h:CE bR aB l2 mg=some r):dQ a7 63 0 125 [1,1,1,1,1,1,0,0,0] (Gv bR aB) (Mv bR aB) (l2,mg) r:=dR (fun _=>TM) h
def zr (bR aB:List Int):Option Int :=
 if 0≤(J ((len_ eI aB)-(1:Int)))∧(J ((len_ eI aB)-(1:Int)))<bR.length then
 bR[(J ((len_ eI aB)-(1:Int))).toNat]? >>= fun x2 =>
 if (decide ((len_ eI aB)<(len_ eI bR)))=true then
  if 0≤(len_ eI aB)∧(len_ eI aB)<bR.length then
  bR[(len_ eI aB).toNat]? >>= fun cn =>
  if 0≤(J ((len_ eI aB)-(1:Int)))∧(J ((len_ eI aB)-(1:Int)))<aB.length then
  aB[(J ((len_ eI aB)-(1:Int))).toNat]? >>= fun ep =>
  if (J (ep+(1:Int)))≠0 then
  if ep≠0 then
  CE bR aB (J ((J (x2+(J (cn*(1000000000:Int))))).tdiv (J (ep+(1:Int))))) (if (J ((J (x2+(J (cn*(1000000000:Int))))).tdiv ep))<(999999999:Int) then (J ((J (x2+(J (cn*(1000000000:Int))))).tdiv ep)) else (999999999:Int)) >>= fun ex =>
  some ex
  else none
  else none
  else none
  else none
 else
  if 0≤(J ((len_ eI aB)-(1:Int)))∧(J ((len_ eI aB)-(1:Int)))<aB.length then
  aB[(J ((len_ eI aB)-(1:Int))).toNat]? >>= fun cn =>
  if (J (cn+(1:Int)))≠0 then
  if cn≠0 then
  CE bR aB (J (x2.tdiv (J (cn+(1:Int))))) (if (J (x2.tdiv cn))<(999999999:Int) then (J (x2.tdiv cn)) else (999999999:Int)) >>= fun ec =>
  some ec
  else none
  else none
  else none
 else none
theorem V1 {bR aB:List Int}:bx (zr bR aB) (fun r=>Con a7 125 [.isl 1 (bR.map eI),.isl 1 (aB.map eI)] [] (.n .i64 r) []):=by
 unfold zr
 exact .aY fun h1 =>
  .ar fun x2 ab =>
  (let t1:List bY:=[(I 1),(I 3),.ay (bq 4 (.b2 (eI x2)) 1),(I 4)];
  have aS:=((.bO h1.1 (cO eI h1.2) (bU eI ab)):cp _);
  .ite (fun au =>
  .aY fun aA =>
  .ar fun cn bb =>
  .aY fun bi =>
  .ar fun ep cM =>
  .aY fun e6 =>
  .aY fun eR =>
  .ar fun ex ew =>
  .ret (bs (t1.append [.U true,.ay (bq 4 (.b2 (eI cn)) 3),.ay (bq 5 (.b2 (eI ep)) 3),.ay (bq 5 (.b2 (eI ep)) 3),.aN [] [] (a6 [0,1,7,8]),.sub (.exit 0) [(7,.n .i64 ex)] [],(I 2)]) (aS.aG (.bg au aA.1 (cO eI aA.2) (bU eI bb) bi.1 (cO eI bi.2) (bU eI cM) e6 (.dg bi.1 (cO eI bi.2) (bU eI cM) eR (MD ew))))))
  (fun au =>
  .aY fun aA =>
  .ar fun cn bb =>
  .aY fun bi =>
  .aY fun cj =>
  .ar fun ec e6 =>
  .ret (bs (t1.append [.U false,.ay (bq 5 (.b2 (eI cn)) 3),.ay (bq 5 (.b2 (eI cn)) 3),.aN [] [] (a6 [0,1,7,8]),.sub (.exit 0) [(7,.n .i64 ec)] [],(I 2)]) (aS.aG (.bg au aA.1 (cO eI aA.2) (bU eI bb) bi aA.1 (cO eI aA.2) (bU eI bb) (.e2 cj (MD e6)))))))
def Hk (ag aB:List Int):((List Int)×Int×(List Int))→S:=fun (fG,af,aa)=>dl [(0,.isl 1 (ag.map eI)),(1,.isl 1 (aB.map eI)),(8,.bk 0 0 0 aa.length),(9,.isl 1 (fG.map eI)),(10,.n .i64 af)] [(ae 1 eI aa)]
def HN (ag aB:List Int):((List Int)×(List Int))→dq
 | a=>⟨some 0,[(8,.bk 0 0 0 a.2.length),(9,.isl 1 (a.1.map eI))],[(ae 1 eI a.2)]⟩
def wJ (ag aB fG:List Int)(af:Int)(aa:List Int):Option (((List Int)×Int×(List Int))⊕((List Int)×(List Int))) :=
 if (decide ((0:Int)≤af))=true then
  if 0≤af∧af<ag.length then
  ag[af.toNat]? >>= fun aE =>
  if (([aE]:List Int)++fG).length*8≤140737488355328 then
  pH (([aE]:List Int)++fG) >>= fun cc =>
  pJ cc aB >>= fun cZ =>
  if (decide (cZ<(0:Int)))=true then
   some (.inl (cc,J (af-(1:Int)),aa))
  else
   zr cc aB >>= fun c0 =>
   if 0≤af∧af<(aa.length:Nat) then
   if (0+af.toNat)<aa.length then
   q6 c0 >>= fun gu =>
   hE aB gu >>= fun gi =>
   rJ cc gi >>= fun oL =>
   some (.inl (oL,J (af-(1:Int)),aa.set (0+af.toNat) c0))
   else none
   else none
  else none
  else none
 else
  some (.inr (fG,aa))
def IU (ag aB fG:List Int)(af:Int)(aa:List Int):Option ((List Int)×(List Int)):=iter (fun w:(List Int)×Int×(List Int)=>wJ ag aB w.1 w.2.1 w.2.2) (fG,af,aa)
theorem Un {ag aB fG:List Int}{af:Int}{aa:List Int}:bx (wJ ag aB fG af aa) (dP a7 65 0 113 [1,1,1,1,0,1,0,0] (Hk ag aB (fG,af,aa)) (Hk ag aB) (HN ag aB)):=by
 unfold wJ
 exact .ite (fun h1 =>
  .aY fun h2 =>
  .ar fun aE au =>
  .aY fun aA =>
  .ar fun cc bb =>
  .ar fun cZ cj =>
  (let q1:=(([aE]:List Int)++fG);let t1:List bY:=[(I 2),.U true,.ay (ai 3 (al (.b2 (eI aE)) (ai 2 (al (.aG (q1.length)) (al (.ss 9 (.call {ac:=[.br (.dh (.ek (q1.map eI)))],r:= .isl 1 (cc.map eI),fz:=false,fH:=[9]})) (ai 1 [])))))),.ay (bq 2 (bp 2 (.n .i64 cZ) true) 1)];
  have aS:=((.bg h1 h2.1 (cO eI h2.2) (bU eI au) (adL eI aE) (lD (show 1=([aE]:List Int).length from rfl) (cR eI fG):q1.length=1+(fG.map eI).length) aA (kO (hZ (show [[.n .i64 aE]]=(([aE]:List Int)).map eI from rfl) (show 1=([aE]:List Int).length from rfl) (cR eI fG)) (dF q1)) (.dg (kZ (hZ (show [[.n .i64 aE]]=(([aE]:List Int)).map eI from rfl) (show 1=([aE]:List Int).length from rfl) (cR eI fG)) (dF q1)) (du aO q1) (rE cc bb) (w1 cZ cj) (b7.n .i64 cZ))):cp _);
  .ite (fun cM =>
  .ret (bf (t1.append [.U true,(I 3),.aN [0] [.pure] (a6 [0,1,8,9,10])]) (aS.aG (.e2 cM (aF 1 .live aO aa)))))
  (fun cM =>
  .ar fun c0 eR =>
  .aY fun el =>
  .aY fun ew =>
  .ar fun gu hO =>
  .ar fun gi ho =>
  .ar fun oL fh =>
  .ret (bf (t1.append [.U false,.ay (bq 2 (bp 2 (.n .i64 c0) true) 1),.ay (ai 4 (al .fM [])),.ay (ai 3 (al (bp 1 (.isl 1 (gu.map eI)) false) (al (bp 2 (.isl 1 (gi.map eI)) false) (al (bp 2 (.isl 1 (oL.map eI)) false) (ai 1 []))))),(I 3),.aN [0] [.cu (ae 1 eI (aa.set (0+af.toNat) c0))] [(0,ii),(1,ii),(8,fV ((aa.set (0+af.toNat) c0).length)),(9,ii),(10,ii)]]) (aS.aG (.bg cM (V1 c0 eR) (b7.n .i64 c0) el.1 el.2 (hz eI ew) (ht 1) (w3 gu hO) (.dg (oT gi ho) (IP oL fh) (cU 1 .live (gD (cR eI aa) (0+af.toNat) c0)) (aF 1 .live aO (aa.set (0+af.toNat) c0)) (hP (dF aa) (0+af.toNat) c0))))))))
  (fun h1 =>
  .ret (bf [(I 2),.U false,.aN [0] [.pure] (a6 [8,9])] (.e2 h1 (aF 1 .live aO aa))))
theorem VK {ag aB fG:List Int}{af:Int}{aa:List Int}{r} (h:IU ag aB fG af aa=some r):dQ a7 65 0 113 [1,1,1,1,0,1,0,0] (Hk ag aB) (HN ag aB) (fG,af,aa) r:=dR (fun _=>Un) h
def sK (ag aB:List Int):Option ((List Int)×(List Int)) :=
 if ((len_ eI aB) == (1:Int))=true then
  if 0≤(0:Int)∧(0:Int)<aB.length then
  aB[0]? >>= fun aE =>
  zq ag aE >>= fun aK =>
  q6 aK.2 >>= fun b4 =>
  some (aK.1,b4)
  else none
 else
  if 0≤(len_ eI ag)∧(8:Int)*(len_ eI ag)≤281474976710656∧(len_ eI ag)<9223372036854775808 then
  IU ag aB ([]:List Int) (J ((len_ eI ag)-(1:Int))) (List.replicate (len_ eI ag).toNat 0:List Int) >>= fun bd =>
  pH bd.2 >>= fun aK =>
  some (aK,bd.1)
  else none
theorem CR {ag aB:List Int}:bx (sK ag aB) (fun r=>Con a7 113 [.isl 1 (ag.map eI),.isl 1 (aB.map eI)] [] (.dS [.isl 1 (r.1.map eI),.isl 1 (r.2.map eI)]) []):=by
 unfold sK
 exact .ite (fun h1 =>
  .aY fun h2 =>
  .ar fun aE au =>
  .ar fun aK aX =>
  .ar fun b4 bi =>
  .ret (bs [(I 2),(I 3),.U true,.ay (ai 3 (al (.b2 (eI aE)) (al (bp 2 (.dS [.isl 1 (aK.1.map eI),.n .i64 aK.2]) false) (ai 5 [])))),.ay (bq 2 (bp 1 (.isl 1 (b4.map eI)) false) 2)] (.dU h1 h2.1 (cO eI h2.2) (bU eI au) (V0 aK aX) (w3 b4 bi))))
  (fun h1 =>
  .aY fun h2 =>
  .ar fun bd au =>
  .ar fun aK aX =>
  .ret (let q1:=(List.replicate (len_ eI ag).toNat 0:List Int);bs [(I 2),(I 3),.U false,(I 4),(I 2),(I 4),.aN [7] [.cu (ae 1 eI q1)] [(0,ii),(1,ii),(8,fV (q1.length)),(9,.br (.dh (.ek (([]:List Int).map eI)))),(10,ii)],(HN ag aB bd).e8,.iK 0,.ay (bq 1 (.call {ac:=[.br (.dh (.ek (bd.2.map eI)))],r:= .isl 1 (aK.map eI),fz:=false,fH:=[0]}) 3)] (.bg h1 h2.1 (Int.le_refl (len_ eI ag)) h2.2.1 h2.2.2 (cU 1 .live (lC eI (len_ eI ag).toNat 0)) (aF 1 .live aO q1) (lW (len_ eI ag).toNat (0:Int)) (.gJ (kO (show []=(([]:List Int)).map eI from rfl) (eY Int)) (kZ (show []=(([]:List Int)).map eI from rfl) (eY Int)) (du aO ([]:List Int)) (VK au) (ga eI bd.2) (fF eI bd.2) (du aO bd.2) (rE aK aX)))))
def Hl:((List Int)×(List Int))→S:=fun (c3,et)=>dl [(5,.isl 1 (c3.map eI)),(6,.isl 1 (et.map eI))] []
def Cy:(((List Int))⊕((List Int)))→dq
 | .inl a=>⟨some 0,[(5,.isl 1 (a.map eI))],[]⟩
 | .inr a=>⟨none,[(4,.isl 1 (a.map eI))],[]⟩
def tR (c3 et:List Int):Option (((List Int)×(List Int))⊕(((List Int))⊕((List Int)))) :=
 if (decide ((0:Int)<(len_ eI et)))=true then
  if (decide ((len_ eI c3)<(3:Int)))=true then
   if (decide ((len_ eI et)<(3:Int)))=true then
    w4 c3 >>= fun bh =>
    w4 et >>= fun cc =>
    zp bh.1 cc.1 >>= fun cZ =>
    some (.inr (.inr cZ))
   else
    sK c3 et >>= fun bh =>
    some (.inl (et,bh.2))
  else
   sK c3 et >>= fun bd =>
   some (.inl (et,bd.2))
 else
  some (.inr (.inl c3))
def IV (c3 et:List Int):Option (((List Int))⊕((List Int))):=iter (fun w:(List Int)×(List Int)=>tR w.1 w.2) (c3,et)
theorem Uo {c3 et:List Int}:bx (tR c3 et) (dP a7 52 0 100 [1,1,1,0,0,0] (Hl (c3,et)) (Hl) (Cy)):=by
 unfold tR
 exact .ite (fun h1 =>
  .ite (fun h2 =>
  (let t1:List bY:=[(I 3),.U true,.ay (ai 7 (al (.U true) []))];
  .ite (fun ab =>
  .ar fun bh aA =>
  .ar fun cc bb =>
  .ar fun cZ cj =>
  .ret (bf (t1.append [.U true,.ay (bq 1 (bp 1 (.dS [.n .i64 bh.1,.b bh.2]) true) 5),.ay (bq 1 (bp 1 (.dS [.n .i64 cc.1,.b cc.2]) true) 5),.ay (bq 2 (bp 2 (.isl 1 (cZ.map eI)) false) 1),.aN [] [] (a6 [4])]) (.bg h1 h2 h2 h2 h2 ab (M3 bh aA) (DK (oV (b7.n .i64 bh.1) (oV (b7.b bh.2) uF))) (.bO (M3 cc bb) (DK (oV (b7.n .i64 cc.1) (oV (b7.b cc.2) uF))) (VZ cZ cj)))))
  (fun ab =>
  .ar fun bh aA =>
  .ret (bf (t1.append [.U false,.ay (bq 2 (bp 2 (.dS [.isl 1 (bh.1.map eI),.isl 1 (bh.2.map eI)]) false) 5),(I 2),(I 2),.aN [] [] (a6 [5,6])]) (.eE h1 h2 h2 h2 h2 ab (CR bh aA))))))
  (fun h2 =>
  .ar fun bd au =>
  .ret (bf [(I 3),.U true,.ay (ai 4 (ck 3 (al (.U false) []))),.U false,.ay (bq 2 (bp 2 (.dS [.isl 1 (bd.1.map eI),.isl 1 (bd.2.map eI)]) false) 5),(I 2),(I 2),.aN [] [] (a6 [5,6])] (.eE h1 h2 h2 h2 h2 cL (CR bd au)))))
  (fun h1 =>
  .ret (bf [(I 3),.U false,.aN [] [] (a6 [5])] (.e1 h1)))
theorem MZ {c3 et:List Int}{r} (h:IV c3 et=some r):dQ a7 52 0 100 [1,1,1,0,0,0] (Hl) (Cy) (c3,et) r:=dR (fun _=>Uo) h
def xf (ag aB:List Int):Option (List Int) :=
 if (([]:List Int)++ag).length*8≤140737488355328 then
 if (([]:List Int)++aB).length*8≤140737488355328 then
 IV (([]:List Int)++ag) (([]:List Int)++aB) >>= fun bd =>
 match bd with
 | .inl fP=>(some fP)
 | .inr fP=>(some fP)
 else none
 else none
theorem Nj {ag aB:List Int}:bx (xf ag aB) (fun r=>Con a7 100 [.isl 1 (ag.map eI),.isl 1 (aB.map eI)] [] (.isl 1 (r.map eI)) []):=by
 unfold xf
 exact .aY fun h1 =>
  .aY fun h2 =>
  .ar fun bd au =>
  (let q1:=(([]:List Int)++ag);let q2:=(([]:List Int)++aB);let t1:List bY:=[(I 1),.ay (bq 2 (.aG (q1.length)) 1),.ay (bq 2 (.aG (q2.length)) 1),.aN [] [] [(5,.br (.dh (.ek (q1.map eI)))),(6,.br (.dh (.ek (q2.map eI))))]];
  have aS:=((.bg (m1 (show []=(([]:List Int)).map eI from rfl) (eY Int)) (lD (eY Int) (cR eI ag):q1.length=0+(ag.map eI).length) h1 (m1 (show []=(([]:List Int)).map eI from rfl) (eY Int)) (lD (eY Int) (cR eI aB):q2.length=0+(aB.map eI).length) h2 (kO (hZ (show []=(([]:List Int)).map eI from rfl) (eY Int) (cR eI ag)) (dF q1)) (kZ (hZ (show []=(([]:List Int)).map eI from rfl) (eY Int) (cR eI ag)) (dF q1)) (.c5 (du aO q1) (kO (hZ (show []=(([]:List Int)).map eI from rfl) (eY Int) (cR eI aB)) (dF q2)) (kZ (hZ (show []=(([]:List Int)).map eI from rfl) (eY Int) (cR eI aB)) (dF q2)) (du aO q2))):cp _);
  (by
  rcases bd with fP|fP
  ·exact (.ret (bs (t1.append [(Cy (.inl fP)).e8,(I 2)]) (aS.aG (.e1 (MZ au)))))
  ·exact (.ret (bs (t1.append [(Cy (.inr fP)).e8]) (aS.aG (.e1 (MZ au)))))))
def nO (nW:Bool)(ag aB:List Int):Option aL :=
 pH ag >>= fun r1 =>
 pH aB >>= fun bd =>
 if ((len_ eI bd) == (0:Int))=true then
  some (⟨(⟨false,([]:List Int)⟩:bm),([]:List Int)⟩:aL)
 else
  qh bd >>= fun cc =>
  if cc=true then
   if (decide ((24:Int)<(len_ eI r1)))=true then
    some (⟨(⟨false,([]:List Int)⟩:bm),([]:List Int)⟩:aL)
   else
    if (decide ((24:Int)<(len_ eI bd)))=true then
     some (⟨(⟨false,([]:List Int)⟩:bm),([]:List Int)⟩:aL)
    else
     hI nW r1 >>= fun c0 =>
     if (([]:List Int)++bd).length*8≤140737488355328 then
     some (⟨c0,([]:List Int)++bd⟩:aL)
     else none
  else
   xf r1 bd >>= fun b5 =>
   qh b5 >>= fun c0 =>
   if c0=true then
    if (decide ((24:Int)<(len_ eI r1)))=true then
     some (⟨(⟨false,([]:List Int)⟩:bm),([]:List Int)⟩:aL)
    else
     if (decide ((24:Int)<(len_ eI bd)))=true then
      some (⟨(⟨false,([]:List Int)⟩:bm),([]:List Int)⟩:aL)
     else
      hI nW r1 >>= fun ey =>
      if (([]:List Int)++bd).length*8≤140737488355328 then
      some (⟨ey,([]:List Int)++bd⟩:aL)
      else none
   else
    sK r1 b5 >>= fun f7 =>
    sK bd b5 >>= fun ey =>
    if (decide ((24:Int)<(len_ eI f7.1)))=true then
     some (⟨(⟨false,([]:List Int)⟩:bm),([]:List Int)⟩:aL)
    else
     if (decide ((24:Int)<(len_ eI ey.1)))=true then
      some (⟨(⟨false,([]:List Int)⟩:bm),([]:List Int)⟩:aL)
     else
      hI nW f7.1 >>= fun km =>
      if (([]:List Int)++ey.1).length*8≤140737488355328 then
      some (⟨km,([]:List Int)++ey.1⟩:aL)
      else none
theorem zj {nW:Bool}{ag aB:List Int}:bx (nO nW ag aB) (fun r=>Con a7 92 [.b nW,.isl 1 (ag.map eI),.isl 1 (aB.map eI)] [] (.agg (aM r)) []):=by
 unfold nO
 exact .ar fun r1 h2 =>
  .ar fun bd au =>
  (let t1:List bY:=[(I 1),.ay (bq 1 (bp 1 (.isl 1 (r1.map eI)) false) 1),.ay (bq 1 (bp 1 (.isl 1 (bd.map eI)) false) 1),(I 3)];
  have aS:=((.e2 (rE r1 h2) (rE bd au)):cp _);
  .ite (fun aA =>
  .ret (bs (t1.append [.U true,(I 2)]) (aS.aG (.e1 aA)) (.br (.agg [.id,.jE 1,.jE 1]))))
  (fun aA =>
  .ar fun cc bb =>
  (let t3:List bY:=t1.append [.U false,.ay (bq 1 (bp 1 (.b cc) true) 1)];
  have eO:=aS.aG (.bO aA (zh cc bb) (b7.b cc));
  .ite (fun bi =>
  .ite (fun cj =>
  .ret (bs (t3.append [.U false,.ay (ai 4 (ck 3 (al (.U true) []))),.U true,(I 2)]) (eO.aG (.dU (cV bi) cj cj cj cj cv)) (.br (.agg [.id,.jE 1,.jE 1]))))
  (fun cj =>
  (let t5:List bY:=t3.append [.U false,.ay (ai 7 (al (.U false) []))];
  .ite (fun cM =>
  .ret (bs (t5.append [.U true,(I 2)]) (eO.aG (.dU (cV bi) cj cj cj cj cM)) (.br (.agg [.id,.jE 1,.jE 1]))))
  (fun cM =>
  .ar fun c0 eR =>
  .aY fun el =>
  .ret (let q1:=(([]:List Int)++bd);bs (t5.append [.U false,.ay (ai 2 (al (bp 2 (.agg (aU c0)) false) (bq 2 (.aG (q1.length)) 2)))]) (eO.aG (.bg (cV bi) cj cj cj cj cM (nN c0 eR) (m1 (show []=(([]:List Int)).map eI from rfl) (eY Int)) (.dg (lD (eY Int) (cR eI bd):q1.length=0+(bd.map eI).length) el (kO (hZ (show []=(([]:List Int)).map eI from rfl) (eY Int) (cR eI bd)) (dF q1)) (kZ (hZ (show []=(([]:List Int)).map eI from rfl) (eY Int) (cR eI bd)) (dF q1)) (du aO q1)))) (.br (.agg [.id,.id,.ek (q1.map eI)])))))))
  (fun bi =>
  .ar fun b5 cM =>
  .ar fun c0 eR =>
  (let t5:List bY:=t3.append [.U true,.ay (bq 2 (bp 2 (.isl 1 (b5.map eI)) false) 1),.ay (bq 1 (bp 1 (.b c0) true) 1)];
  have kF:=eO.aG (.c5 (cT bi) (Nj b5 cM) (zh c0 eR) (b7.b c0));
  .ite (fun el =>
  .ite (fun ew =>
  .ret (bs (t5.append [.U false,.ay (ai 4 (ck 3 (al (.U true) []))),.U true,(I 2)]) (kF.aG (.dU (cV el) ew ew ew ew cv)) (.br (.agg [.id,.jE 1,.jE 1]))))
  (fun ew =>
  (let t7:List bY:=t5.append [.U false,.ay (ai 7 (al (.U false) []))];
  have mu:=kF.aG (.dg (cV el) ew ew ew ew);
  .ite (fun fO =>
  .ret (bs (t7.append [.U true,(I 2)]) (mu.aG (.e1 fO)) (.br (.agg [.id,.jE 1,.jE 1]))))
  (fun fO =>
  .ar fun ey hn =>
  .aY fun ho =>
  .ret (let q2:=(([]:List Int)++bd);bs (t7.append [.U false,.ay (ai 2 (al (bp 2 (.agg (aU ey)) false) (bq 2 (.aG (q2.length)) 2)))]) (mu.aG (.gJ fO (nN ey hn) (m1 (show []=(([]:List Int)).map eI from rfl) (eY Int)) (lD (eY Int) (cR eI bd):q2.length=0+(bd.map eI).length) ho (kO (hZ (show []=(([]:List Int)).map eI from rfl) (eY Int) (cR eI bd)) (dF q2)) (kZ (hZ (show []=(([]:List Int)).map eI from rfl) (eY Int) (cR eI bd)) (dF q2)) (du aO q2))) (.br (.agg [.id,.id,.ek (q2.map eI)])))))))
  (fun el =>
  .ar fun f7 fO =>
  .ar fun ey hn =>
  (let t7:List bY:=t5.append [.U true,.ay (bq 2 (bp 2 (.dS [.isl 1 (f7.1.map eI),.isl 1 (f7.2.map eI)]) false) 4),.ay (bq 2 (bp 2 (.dS [.isl 1 (ey.1.map eI),.isl 1 (ey.2.map eI)]) false) 4)];
  have mu:=kF.aG (.bO (cT el) (CR f7 fO) (CR ey hn));
  .ite (fun ho =>
  .ret (bs (t7.append [.ay (ai 4 (ck 3 (al (.U true) []))),.U true,(I 2)]) (mu.aG (.dg ho ho ho ho cv)) (.br (.agg [.id,.jE 1,.jE 1]))))
  (fun ho =>
  (let t9:List bY:=t7.append [.ay (ai 7 (al (.U false) []))];
  .ite (fun gr =>
  .ret (bs (t9.append [.U true,(I 2)]) (mu.aG (.dg ho ho ho ho gr)) (.br (.agg [.id,.jE 1,.jE 1]))))
  (fun gr =>
  .ar fun km gS =>
  .aY fun jq =>
  .ret (let bK:=(([]:List Int)++ey.1);let bW:=cR eI ey.1;bs (t9.append [.U false,.ay (ai 2 (al (bp 2 (.agg (aU km)) false) (bq 2 (.aG (bK.length)) 2)))]) (mu.aG (.bg ho ho ho ho gr (nN km gS) (m1 (show []=(([]:List Int)).map eI from rfl) (eY Int)) (lD (eY Int) bW:bK.length=0+(ey.1.map eI).length) (.c5 jq (kO (hZ (show []=(([]:List Int)).map eI from rfl) (eY Int) bW) (dF bK)) (kZ (hZ (show []=(([]:List Int)).map eI from rfl) (eY Int) bW) (dF bK)) (du aO bK)))) (.br (.agg [.id,.id,.ek (bK.map eI)])))))))))))))
def q5 (bR aJ:aL):Option aL :=
 qh bR.hl >>= fun r1 =>
 if r1=true then
  qh aJ.hl >>= fun bh =>
  if bh=true then
   pK bR.fk aJ.fk >>= fun b4 =>
   nO b4.cJ b4.cw ([1]:List Int) >>= fun b5 =>
   some b5
  else
   hE bR.fk.cw aJ.hl >>= fun b4 =>
   hI bR.fk.cJ b4 >>= fun b5 =>
   hE aJ.fk.cw bR.hl >>= fun c0 =>
   hI aJ.fk.cJ c0 >>= fun ex =>
   pK b5 ex >>= fun gu =>
   hE bR.hl aJ.hl >>= fun gi =>
   nO gu.cJ gu.cw gi >>= fun oL =>
   some oL
 else
  hE bR.fk.cw aJ.hl >>= fun bh =>
  hI bR.fk.cJ bh >>= fun cc =>
  hE aJ.fk.cw bR.hl >>= fun cZ =>
  hI aJ.fk.cJ cZ >>= fun ec =>
  pK cc ec >>= fun d8 =>
  hE bR.hl aJ.hl >>= fun f7 =>
  nO d8.cJ d8.cw f7 >>= fun ey =>
  some ey
theorem CS {bR aJ:aL}:bx (q5 bR aJ) (fun r=>Con a7 70 [.agg (aM bR),.agg (aM aJ)] [] (.agg (aM r)) []):=by
 unfold q5
 exact .ar fun r1 h2 =>
  (have ae:=((.e2 (zh r1 h2) (b7.b r1)):cp _);
  .ite (fun ab =>
  .ar fun bh aA =>
  (let t2:List bY:=[(I 3),.ay (ai 2 (al (bp 1 (.b r1) true) (ai 3 (al (bp 1 (.b bh) true) (al (.U true) [])))))];
  have fA:=ae.aG (.dU ab ab ab (zh bh aA) (b7.b bh) ab);
  .ite (fun aX =>
  .ar fun b4 bi =>
  .ar fun b5 cM =>
  .ret (bs (t2.append [.U true,.ay (bq 4 (bp 2 (.agg (aU b4)) false) 2),.ay (bq 5 (.ss 22 (.call {ac:=[ii,ii,.br (.dh (.ek (([1]:List Int).map eI)))],r:= .agg (aM b5),fz:=false,fH:=[22]})) 1)]) (fA.aG (.dU aX (IQ b4 bi) (kO (show [[.n .i64 (1:Int)]]=(([1]:List Int)).map eI from rfl) (show 1=([1]:List Int).length from rfl)) (gx eI 1) (du aO ([1]:List Int)) (zj b5 cM)))))
  (fun aX =>
  .ar fun b4 bi =>
  .ar fun b5 cM =>
  .ar fun c0 eR =>
  .ar fun ex ew =>
  .ar fun gu hO =>
  .ar fun gi ho =>
  .ar fun oL fh =>
  .ret (bs (t2.append [.U false,.ay (ai 8 (al (bp 2 (.isl 1 (b4.map eI)) false) (al (bp 2 (.agg (aU b5)) false) (ai 2 [])))),.ay (ai 8 (al (bp 2 (.isl 1 (c0.map eI)) false) (al (bp 2 (.agg (aU ex)) false) (ai 2 [])))),.ay (bq 2 (bp 2 (.agg (aU gu)) false) 2),.ay (ai 8 (al (bp 2 (.isl 1 (gi.map eI)) false) (al (bp 3 (.agg (aM oL)) false) (ai 1 []))))]) (fA.aG (.gJ aX (oT b4 bi) (nN b5 cM) (oT c0 eR) (nN ex ew) (IQ gu hO) (oT gi ho) (zj oL fh)))))))
  (fun ab =>
  .ar fun bh aA =>
  .ar fun cc bb =>
  .ar fun cZ cj =>
  .ar fun ec e6 =>
  .ar fun d8 el =>
  .ar fun f7 fO =>
  .ar fun ey hn =>
  .ret (bs [(I 3),.ay (ai 2 (al (bp 1 (.b r1) true) (ai 1 (ck 3 (al (.U false) []))))),.U false,.ay (ai 8 (al (bp 2 (.isl 1 (bh.map eI)) false) (al (bp 2 (.agg (aU cc)) false) (ai 2 [])))),.ay (ai 8 (al (bp 2 (.isl 1 (cZ.map eI)) false) (al (bp 2 (.agg (aU ec)) false) (ai 2 [])))),.ay (bq 2 (bp 2 (.agg (aU d8)) false) 2),.ay (ai 8 (al (bp 2 (.isl 1 (f7.map eI)) false) (al (bp 3 (.agg (aM ey)) false) (ai 1 []))))] (ae.aG (.bg ab ab ab ab cL (oT bh aA) (nN cc bb) (oT cZ cj) (.c5 (nN ec e6) (IQ d8 el) (oT f7 fO) (zj ey hn)))))))
end Go.Proofs.YtdkjpcaalflfhaaGreat
namespace Go.Proofs.YtdkjpcaalflfhaaGreat
set_option linter.unusedVariables false
set_option linter.unusedSimpArgs false
open Go Go.VL
def FU (aI aH:Int)(bn c1 c4:List Int)(bF:Int):(Int×(List aL))→S:=fun (bN,ax)=>dl [(1,.ref 0 0 0 0),(3,.ref 1 0 0 0),(4,.n .i64 bN)] [[ad.mk 5 [[.n .i64 aI,.n .i64 aH,.isl 1 (bn.map eI),.isl 1 (c1.map eI),.isl 1 (c4.map eI)]] .live],[ad.mk 4 [[.n .i64 bF,.ei,.ei,.bk 2 0 0 ax.length]] .live],(ae 3 aM ax)]
def Gd (aI aH:Int)(bn c1 c4:List Int)(bF:Int):(List aL)→dq
 | a=>⟨some 0,[(1,.ref 0 0 0 0),(3,.ref 1 0 0 0)],[[ad.mk 5 [[.n .i64 aI,.n .i64 aH,.isl 1 (bn.map eI),.isl 1 (c1.map eI),.isl 1 (c4.map eI)]] .live],[ad.mk 4 [[.n .i64 bF,.ei,.ei,.bk 2 0 0 a.length]] .live],(ae 3 aM a)]⟩
def v5 (aI aH:Int)(bn c1 c4:List Int)(bF bN:Int)(ax:List aL):Option ((Int×(List aL))⊕((List aL))) :=
 if (decide (bN≤bF))=true then
  oS 0 >>= fun r2 =>
  if (ax++([r2]:List aL)).length*56≤140737488355328 then
  some (.inl (J (bN+(1:Int)),ax++([r2]:List aL)))
  else none
 else
  some (.inr ax)
def HO (aI aH:Int)(bn c1 c4:List Int)(bF bN:Int)(ax:List aL):Option ((List aL)):=iter (fun w:Int×(List aL)=>v5 aI aH bn c1 c4 bF w.1 w.2) (bN,ax)
theorem Tj {aI aH:Int}{bn c1 c4:List Int}{bF bN:Int}{ax:List aL}:bx (v5 aI aH bn c1 c4 bF bN ax) (dP a7 152 0 42 [1,1,0,1,0,0] (FU aI aH bn c1 c4 bF (bN,ax)) (FU aI aH bn c1 c4 bF) (Gd aI aH bn c1 c4 bF)):=by
 unfold v5
 exact .ite (fun h1 =>
  .ar fun r2 ab =>
  .aY fun au =>
  .ret (let q1:=(ax++([r2]:List aL));bf [(I 6),.U true,.ay (ai 5 (al (bp 1 (.agg (aM r2)) false) (bq 1 (.aG (q1.length)) 3))),(I 3),.aN [0,1,16] [.box [.id,.id,.id,.id,.id],.box [.id,.id,.id,.id],.cu (ae 3 aM q1)] (a6 [1,3,4])] (.gJ h1 (rD r2 ab) (gx aM r2) (gV aM ax) (gy aM ax r2) au (cU 3 .live (ha aM ax r2)) (aF 3 .live eL q1))))
  (fun h1 =>
  .ret (bf [(I 6),.U false,.aN [0,1,2] [.box [.id,.id,.id,.id,.id],.box [.id,.id,.id,.id],.pure] (a6 [1,3])] (.e2 h1 (aF 3 .live eL ax))))
theorem UH {aI aH:Int}{bn c1 c4:List Int}{bF bN:Int}{ax:List aL}{r} (h:HO aI aH bn c1 c4 bF bN ax=some r):dQ a7 152 0 42 [1,1,0,1,0,0] (FU aI aH bn c1 c4 bF) (Gd aI aH bn c1 c4 bF) (bN,ax) r:=dR (fun _=>Tj) h
def FV (af:Int)(dW:List Int)(fg aI aH:Int)(bn c1 c4:List Int)(bF:Int)(ah:List bt)(eM:List (List aL))(bz:List Int)(eT:List aL):(Int×(List aL))→S:=fun (gq,ax)=>dl [(1,.ref 0 0 0 0),(3,.ref 1 0 0 0),(5,.n .i64 af),(6,.n .i64 (-1:Int)),(7,.bk 2 0 0 ax.length),(53,.isl 1 (dW.map eI)),(54,.n .i64 fg),(55,.n .i64 gq)] [[ad.mk 5 [[.n .i64 aI,.n .i64 aH,.isl 1 (bn.map eI),.isl 1 (c1.map eI),.isl 1 (c4.map eI)]] .live],[ad.mk 4 [(gn bF 3 0 0 ah.length 5 0 0 bz.length 6 0 0 eT.length)] .live],(ae 3 aM ax),(ae 1 (bj 4 0 3) ah),(b3 3 aM eM),(ae 1 eI bz),(ae 3 aM eT)]
def Ge (af:Int)(dW:List Int)(fg aI aH:Int)(bn c1 c4:List Int)(bF:Int)(ah:List bt)(eM:List (List aL))(bz:List Int)(eT:List aL):(List aL)→dq
 | a=>⟨some 4,[(1,.ref 0 0 0 0),(3,.ref 1 0 0 0),(5,.n .i64 af),(6,.n .i64 (-1:Int)),(7,.bk 2 0 0 a.length)],[[ad.mk 5 [[.n .i64 aI,.n .i64 aH,.isl 1 (bn.map eI),.isl 1 (c1.map eI),.isl 1 (c4.map eI)]] .live],[ad.mk 4 [(gn bF 3 0 0 ah.length 5 0 0 bz.length 6 0 0 eT.length)] .live],(ae 3 aM a),(ae 1 (bj 4 0 3) ah),(b3 3 aM eM),(ae 1 eI bz),(ae 3 aM eT)]⟩
def v7 (af:Int)(dW:List Int)(fg aI aH:Int)(bn c1 c4:List Int)(bF:Int)(ah:List bt)(eM:List (List aL))(bz:List Int)(eT:List aL)(gq:Int)(ax:List aL):Option ((Int×(List aL))⊕((List aL))) :=
 if (decide (gq<fg))=true then
  if 0≤gq∧gq<dW.length then
  dW[gq.toNat]? >>= fun aE =>
  oS (J ((-1:Int)*aE)) >>= fun aK =>
  if (ax++([aK]:List aL)).length*56≤140737488355328 then
  some (.inl (J (gq+(1:Int)),ax++([aK]:List aL)))
  else none
  else none
 else
  some (.inr ax)
def Cz (af:Int)(dW:List Int)(fg aI aH:Int)(bn c1 c4:List Int)(bF:Int)(ah:List bt)(eM:List (List aL))(bz:List Int)(eT:List aL)(gq:Int)(ax:List aL):Option ((List aL)):=iter (fun w:Int×(List aL)=>v7 af dW fg aI aH bn c1 c4 bF ah eM bz eT w.1 w.2) (gq,ax)
theorem Tk {af:Int}{dW:List Int}{fg aI aH:Int}{bn c1 c4:List Int}{bF:Int}{ah:List bt}{eM:List (List aL)}{bz:List Int}{eT:List aL}{gq:Int}{ax:List aL}:bx (v7 af dW fg aI aH bn c1 c4 bF ah eM bz eT gq ax) (dP a7 152 0 42 [1,1,1,0,1,0,0,1,0,0,1,1,1,0,1,0,0] (FV af dW fg aI aH bn c1 c4 bF ah eM bz eT (gq,ax)) (FV af dW fg aI aH bn c1 c4 bF ah eM bz eT) (Ge af dW fg aI aH bn c1 c4 bF ah eM bz eT)):=by
 unfold v7
 exact .ite (fun h1 =>
  .aY fun h2 =>
  .ar fun aE au =>
  .ar fun aK aX =>
  .aY fun bb =>
  .ret (let q1:=(ax++([aK]:List aL));let q2:=cB [0,1,17,3,4,5,6];bf [(I 1),.U true,.ay (bq 1 (.b2 (eI aE)) 1),.ay (ai 4 (al (bp 1 (.agg (aM aK)) false) (bq 1 (.aG (q1.length)) 1))),(I 2),.aN [0,1,17,3,4,5,6] [.box [.id,.id,.id,.id,.id],.box [.id,.id,.id,.id],.cu (ae 3 aM q1),.bB (ae 1 (bj 4 0 3) ah),.bB (b3 3 aM eM),.pure,.pure] (a6 [1,3,5,6,7,53,54,55])] (.bg h1 h2.1 (cO eI h2.2) (bU eI au) (rD aK aX) (gx aM aK) (gV aM ax) (gy aM ax aK) (.eE bb (cU 3 .live (ha aM ax aK)) (aF 3 .live eL q1) (eu q2 4 4 0 3 rfl ah) (dz q2 3 fe eM) (aF 1 .live aO bz) (aF 3 .live eL eT)))))
  (fun h1 =>
  .ret (let bK:=cB [0,1,2,3,4,5,6];bf [(I 1),.U false,.aN [0,1,2,3,4,5,6] [.box [.id,.id,.id,.id,.id],.box [.id,.id,.id,.id],.pure,.bB (ae 1 (bj 4 0 3) ah),.bB (b3 3 aM eM),.pure,.pure] (a6 [1,3,5,6,7])] (.dU h1 (aF 3 .live eL ax) (eu bK 4 4 0 3 rfl ah) (dz bK 3 fe eM) (aF 1 .live aO bz) (aF 3 .live eL eT))))
theorem UI {af:Int}{dW:List Int}{fg aI aH:Int}{bn c1 c4:List Int}{bF:Int}{ah:List bt}{eM:List (List aL)}{bz:List Int}{eT:List aL}{gq:Int}{ax:List aL}{r} (h:Cz af dW fg aI aH bn c1 c4 bF ah eM bz eT gq ax=some r):dQ a7 152 0 42 [1,1,1,0,1,0,0,1,0,0,1,1,1,0,1,0,0] (FV af dW fg aI aH bn c1 c4 bF ah eM bz eT) (Ge af dW fg aI aH bn c1 c4 bF ah eM bz eT) (gq,ax) r:=dR (fun _=>Tk) h
def FW (af aI aH:Int)(bn c1 c4:List Int)(bF:Int)(ah:List bt)(eM:List (List aL))(bz:List Int)(eT:List aL):(Int×(List aL))→S:=fun (bo,ax)=>dl [(1,.ref 0 0 0 0),(3,.ref 1 0 0 0),(5,.n .i64 af),(6,.n .i64 (-1:Int)),(7,.bk 2 0 0 ax.length),(10,.n .i64 bo)] [[ad.mk 5 [[.n .i64 aI,.n .i64 aH,.isl 1 (bn.map eI),.isl 1 (c1.map eI),.isl 1 (c4.map eI)]] .live],[ad.mk 4 [(gn bF 3 0 0 ah.length 5 0 0 bz.length 6 0 0 eT.length)] .live],(ae 3 aM ax),(ae 1 (bj 4 0 3) ah),(b3 3 aM eM),(ae 1 eI bz),(ae 3 aM eT)]
def Gf (af aI aH:Int)(bn c1 c4:List Int)(bF:Int)(ah:List bt)(eM:List (List aL))(bz:List Int)(eT:List aL):(List aL)→dq
 | a=>⟨some 6,[(1,.ref 0 0 0 0),(3,.ref 1 0 0 0),(5,.n .i64 af),(6,.n .i64 (-1:Int)),(7,.bk 2 0 0 a.length)],[[ad.mk 5 [[.n .i64 aI,.n .i64 aH,.isl 1 (bn.map eI),.isl 1 (c1.map eI),.isl 1 (c4.map eI)]] .live],[ad.mk 4 [(gn bF 3 0 0 ah.length 5 0 0 bz.length 6 0 0 eT.length)] .live],(ae 3 aM a),(ae 1 (bj 4 0 3) ah),(b3 3 aM eM),(ae 1 eI bz),(ae 3 aM eT)]⟩
def v8 (af aI aH:Int)(bn c1 c4:List Int)(bF:Int)(ah:List bt)(eM:List (List aL))(bz:List Int)(eT:List aL)(bo:Int)(ax:List aL):Option ((Int×(List aL))⊕((List aL))) :=
 if (decide (bo<aI))=true then
  if (bo == af)=true then
   oS 1 >>= fun bd =>
   if (ax++([bd]:List aL)).length*56≤140737488355328 then
   some (.inl (J (bo+(1:Int)),ax++([bd]:List aL)))
   else none
  else
   oS 0 >>= fun bd =>
   if (ax++([bd]:List aL)).length*56≤140737488355328 then
   some (.inl (J (bo+(1:Int)),ax++([bd]:List aL)))
   else none
 else
  some (.inr ax)
def CA (af aI aH:Int)(bn c1 c4:List Int)(bF:Int)(ah:List bt)(eM:List (List aL))(bz:List Int)(eT:List aL)(bo:Int)(ax:List aL):Option ((List aL)):=iter (fun w:Int×(List aL)=>v8 af aI aH bn c1 c4 bF ah eM bz eT w.1 w.2) (bo,ax)
theorem Tl {af aI aH:Int}{bn c1 c4:List Int}{bF:Int}{ah:List bt}{eM:List (List aL)}{bz:List Int}{eT:List aL}{bo:Int}{ax:List aL}:bx (v8 af aI aH bn c1 c4 bF ah eM bz eT bo ax) (dP a7 152 0 42 [1,1,1,0,1,0,0,1,0,0,1,1,1,1,0,1,0,0] (FW af aI aH bn c1 c4 bF ah eM bz eT (bo,ax)) (FW af aI aH bn c1 c4 bF ah eM bz eT) (Gf af aI aH bn c1 c4 bF ah eM bz eT)):=by
 unfold v8
 exact .ite (fun h1 =>
  (let t1:List bY:=[(I 4),.U true,(I 1),(I 3)];
  .ite (fun h2 =>
  .ar fun bd au =>
  .aY fun aA =>
  .ret (let q1:=(ax++([bd]:List aL));let q2:=cB [0,1,20,3,4,5,6];bf (t1.append [.U true,(I 1),.ay (ai 2 (al (bp 1 (.agg (aM bd)) false) (bq 1 (.aG (q1.length)) 1))),(I 3),.aN [0,1,20,3,4,5,6] [.box [.id,.id,.id,.id,.id],.box [.id,.id,.id,.id],.cu (ae 3 aM q1),.bB (ae 1 (bj 4 0 3) ah),.bB (b3 3 aM eM),.pure,.pure] (a6 [1,3,5,6,7,10])]) (.bg h1 h2 (rD bd au) (gx aM bd) (gV aM ax) (gy aM ax bd) aA (cU 3 .live (ha aM ax bd)) (.dg (aF 3 .live eL q1) (eu q2 4 4 0 3 rfl ah) (dz q2 3 fe eM) (aF 1 .live aO bz) (aF 3 .live eL eT)))))
  (fun h2 =>
  .ar fun bd au =>
  .aY fun aA =>
  .ret (let bK:=(ax++([bd]:List aL));let bW:=cB [0,1,19,3,4,5,6];bf (t1.append [.U false,.ay (ai 2 (al (bp 1 (.agg (aM bd)) false) (bq 1 (.aG (bK.length)) 1))),(I 3),.aN [0,1,19,3,4,5,6] [.box [.id,.id,.id,.id,.id],.box [.id,.id,.id,.id],.cu (ae 3 aM bK),.bB (ae 1 (bj 4 0 3) ah),.bB (b3 3 aM eM),.pure,.pure] (a6 [1,3,5,6,7,10])]) (.bg h1 h2 (rD bd au) (gx aM bd) (gV aM ax) (gy aM ax bd) aA (cU 3 .live (ha aM ax bd)) (.dg (aF 3 .live eL bK) (eu bW 4 4 0 3 rfl ah) (dz bW 3 fe eM) (aF 1 .live aO bz) (aF 3 .live eL eT)))))))
  (fun h1 =>
  .ret (let cD:=cB [0,1,2,3,4,5,6];bf [(I 4),.U false,.aN [0,1,2,3,4,5,6] [.box [.id,.id,.id,.id,.id],.box [.id,.id,.id,.id],.pure,.bB (ae 1 (bj 4 0 3) ah),.bB (b3 3 aM eM),.pure,.pure] (a6 [1,3,5,6,7])] (.dU h1 (aF 3 .live eL ax) (eu cD 4 4 0 3 rfl ah) (dz cD 3 fe eM) (aF 1 .live aO bz) (aF 3 .live eL eT))))
theorem UJ {af aI aH:Int}{bn c1 c4:List Int}{bF:Int}{ah:List bt}{eM:List (List aL)}{bz:List Int}{eT:List aL}{bo:Int}{ax:List aL}{r} (h:CA af aI aH bn c1 c4 bF ah eM bz eT bo ax=some r):dQ a7 152 0 42 [1,1,1,0,1,0,0,1,0,0,1,1,1,1,0,1,0,0] (FW af aI aH bn c1 c4 bF ah eM bz eT) (Gf af aI aH bn c1 c4 bF ah eM bz eT) (bo,ax) r:=dR (fun _=>Tl) h
def FX (af:Int)(f5 ee:Nat)(ox aI aH:Int)(bn c1 c4:List Int)(bF:Int)(a3:List (List aL))(ah:List bt)(aD:List Int):(Int×(List aL))→S:=fun (hF,bz)=>dl [(1,.ref 0 0 0 0),(3,.ref 1 0 0 0),(5,.n .i64 af),(7,.bk 2 (f5+0) 0 ee),(93,.n .i64 ox),(94,.n .i64 hF)] [[ad.mk 5 [[.n .i64 aI,.n .i64 aH,.isl 1 (bn.map eI),.isl 1 (c1.map eI),.isl 1 (c4.map eI)]] .live],[ad.mk 4 [(gn bF 3 0 0 ah.length 4 0 0 aD.length 5 0 0 bz.length)] .live],(b3 3 aM a3),(ae 1 (bj 2 0 3) ah),(ae 1 eI aD),(ae 3 aM bz)]
def Cr (af:Int)(f5 ee:Nat)(ox aI aH:Int)(bn c1 c4:List Int)(bF:Int)(a3:List (List aL))(ah:List bt)(aD:List Int):(List aL)→dq
 | a=>⟨some 8,[(1,.ref 0 0 0 0),(3,.ref 1 0 0 0),(5,.n .i64 af),(7,.bk 2 (f5+0) 0 ee)],[[ad.mk 5 [[.n .i64 aI,.n .i64 aH,.isl 1 (bn.map eI),.isl 1 (c1.map eI),.isl 1 (c4.map eI)]] .live],[ad.mk 4 [(gn bF 3 0 0 ah.length 4 0 0 aD.length 5 0 0 a.length)] .live],(b3 3 aM a3),(ae 1 (bj 2 0 3) ah),(ae 1 eI aD),(ae 3 aM a)]⟩
def v9 (af:Int)(f5 ee:Nat)(ox aI aH:Int)(bn c1 c4:List Int)(bF:Int)(a3:List (List aL))(ah:List bt)(aD:List Int)(hF:Int)(bz:List aL):Option ((Int×(List aL))⊕((List aL))) :=
 if (decide (hF<ox))=true then
  if (decide (hF<aH))=true then
   if 0≤hF∧hF<(bz.length:Nat) then
   bz[(0+hF.toNat)]? >>= fun f8 =>
   a3[f5]? >>= fun mV =>
   if 0≤hF∧hF<(ee:Nat) then
   mV[(0+hF.toNat)]? >>= fun ep =>
   q5 f8 ep >>= fun c0 =>
   if (0+hF.toNat)<bz.length then
   some (.inl (J (hF+(1:Int)),bz.set (0+hF.toNat) c0))
   else none
   else none
   else none
  else
   if (hF == bF)=true then
    if 0≤hF∧hF<(bz.length:Nat) then
    bz[(0+hF.toNat)]? >>= fun kq =>
    a3[f5]? >>= fun ix =>
    if 0≤hF∧hF<(ee:Nat) then
    ix[(0+hF.toNat)]? >>= fun iL =>
    q5 kq iL >>= fun d8 =>
    if (0+hF.toNat)<bz.length then
    some (.inl (J (hF+(1:Int)),bz.set (0+hF.toNat) d8))
    else none
    else none
    else none
   else
    some (.inl (J (hF+(1:Int)),bz))
 else
  some (.inr bz)
def y3 (af:Int)(f5 ee:Nat)(ox aI aH:Int)(bn c1 c4:List Int)(bF:Int)(a3:List (List aL))(ah:List bt)(aD:List Int)(hF:Int)(bz:List aL):Option ((List aL)):=iter (fun w:Int×(List aL)=>v9 af f5 ee ox aI aH bn c1 c4 bF a3 ah aD w.1 w.2) (hF,bz)
theorem Tm {af:Int}{f5 ee:Nat}{ox aI aH:Int}{bn c1 c4:List Int}{bF:Int}{a3:List (List aL)}{ah:List bt}{aD:List Int}{hF:Int}{bz:List aL}:bx (v9 af f5 ee ox aI aH bn c1 c4 bF a3 ah aD hF bz) (dP a7 152 0 42 [1,1,1,0,1,0,0,1,0,0,1,1,1,1,1,1,0,1,0,0] (FX af f5 ee ox aI aH bn c1 c4 bF a3 ah aD (hF,bz)) (FX af f5 ee ox aI aH bn c1 c4 bF a3 ah aD) (Cr af f5 ee ox aI aH bn c1 c4 bF a3 ah aD)):=by
 unfold v9
 exact .ite (fun h1 =>
  (let t1:List bY:=[(I 1),.U true,(I 2)];
  .ite (fun h2 =>
  .aY fun ab =>
  .ar fun f8 aA =>
  .ar fun mV bb =>
  .aY fun bi =>
  .ar fun ep cM =>
  .ar fun c0 eR =>
  .aY fun el =>
  .ret (let q1:=jU (f9 .live 3 aM a3) iZ bb;let q2:=cB [0,1,2,3,4,5];bf (t1.append [.ay (ai 5 (ck 6 (al (.U true) []))),.U true,.ay (ai 11 (al (.b2 (aM f8)) (ai 2 (al (.gb (ad.mk 3 (mV.map aM) .live) []) (al (.gb (ad.mk 3 (mV.map aM) .live) (aM ep)) (al (bp 2 (.agg (aM c0)) false) (ai 1 (al .fM [])))))))),(I 2),.aN [0,1,2,3,4,5] [.box [.id,.id,.id,.id,.id],.box [.id,.id,.id,.len ((bz.set (0+hF.toNat) c0).length)],.bB (b3 3 aM a3),.bB (ae 1 (bj 2 0 3) ah),.pure,.cu (ae 3 aM (bz.set (0+hF.toNat) c0))] (a6 [1,3,5,7,93,94])]) (.bg h1 h2 h2 h2 h2 h2 h2 h2 (.bg cv ab.1 ab.2 (bU aM aA) q1 bi.1 bi.2 q1 (.bg (bU aM cM) (CS c0 eR) ab.1 ab.2 (hz aM el) (ht 3) (hP (dF bz) (0+hF.toNat) c0) (dz q2 3 fe a3) (.c5 (eu q2 2 2 0 3 rfl ah) (aF 1 .live aO aD) (cU 3 .live (gD (cR aM bz) (0+hF.toNat) c0)) (aF 3 .live eL (bz.set (0+hF.toNat) c0))))))))
  (fun h2 =>
  (let t2:List bY:=t1.append [.ay (ai 11 (al (.U false) []))];
  .ite (fun ab =>
  .aY fun au =>
  .ar fun kq aX =>
  .ar fun ix bi =>
  .aY fun cj =>
  .ar fun iL e6 =>
  .ar fun d8 el =>
  .aY fun ew =>
  .ret (let bK:=jU (f9 .live 3 aM a3) iZ bi;let bW:=cB [0,1,2,3,4,5];bf (t2.append [.U true,.ay (ai 11 (al (.b2 (aM kq)) (ai 2 (al (.gb (ad.mk 3 (ix.map aM) .live) []) (al (.gb (ad.mk 3 (ix.map aM) .live) (aM iL)) (al (bp 2 (.agg (aM d8)) false) (ai 1 (al .fM [])))))))),(I 2),.aN [0,1,2,3,4,5] [.box [.id,.id,.id,.id,.id],.box [.id,.id,.id,.len ((bz.set (0+hF.toNat) d8).length)],.bB (b3 3 aM a3),.bB (ae 1 (bj 2 0 3) ah),.pure,.cu (ae 3 aM (bz.set (0+hF.toNat) d8))] (a6 [1,3,5,7,93,94])]) (.bg h1 h2 h2 h2 h2 h2 h2 h2 (.bg ab au.1 au.2 (bU aM aX) bK cj.1 cj.2 bK (.bg (bU aM e6) (CS d8 el) au.1 au.2 (hz aM ew) (ht 3) (hP (dF bz) (0+hF.toNat) d8) (dz bW 3 fe a3) (.c5 (eu bW 2 2 0 3 rfl ah) (aF 1 .live aO aD) (cU 3 .live (gD (cR aM bz) (0+hF.toNat) d8)) (aF 3 .live eL (bz.set (0+hF.toNat) d8))))))))
  (fun ab =>
  .ret (let cD:=cB [0,1,2,3,4,5];bf (t2.append [.U false,(I 2),.aN [0,1,2,3,4,5] [.box [.id,.id,.id,.id,.id],.box [.id,.id,.id,.id],.bB (b3 3 aM a3),.bB (ae 1 (bj 2 0 3) ah),.pure,.pure] (a6 [1,3,5,7,93,94])]) (.bg h1 h2 h2 h2 h2 h2 h2 h2 (.dg ab (dz cD 3 fe a3) (eu cD 2 2 0 3 rfl ah) (aF 1 .live aO aD) (aF 3 .live eL bz)))))))))
  (fun h1 =>
  .ret (let d5:=cB [0,1,2,3,4,5];bf [(I 1),.U false,.aN [0,1,2,3,4,5] [.box [.id,.id,.id,.id,.id],.box [.id,.id,.id,.id],.bB (b3 3 aM a3),.bB (ae 1 (bj 2 0 3) ah),.pure,.pure] (a6 [1,3,5,7])] (.dg h1 (dz d5 3 fe a3) (eu d5 2 2 0 3 rfl ah) (aF 1 .live aO aD) (aF 3 .live eL bz))))
theorem Mt {af:Int}{f5 ee:Nat}{ox aI aH:Int}{bn c1 c4:List Int}{bF:Int}{a3:List (List aL)}{ah:List bt}{aD:List Int}{hF:Int}{bz:List aL}{r} (h:y3 af f5 ee ox aI aH bn c1 c4 bF a3 ah aD hF bz=some r):dQ a7 152 0 42 [1,1,1,0,1,0,0,1,0,0,1,1,1,1,1,1,0,1,0,0] (FX af f5 ee ox aI aH bn c1 c4 bF a3 ah aD) (Cr af f5 ee ox aI aH bn c1 c4 bF a3 ah aD) (hF,bz) r:=dR (fun _=>Tm) h
def FH (af:Int)(dW:List Int)(fg aI aH:Int)(bn c1 c4:List Int)(bF:Int)(ah:List bt)(eM:List (List aL))(bz:List Int)(eT:List aL):(Int×(List aL))→S:=fun (gq,ax)=>dl [(1,.ref 0 0 0 0),(3,.ref 1 0 0 0),(5,.n .i64 af),(6,.n .i64 (1:Int)),(7,.bk 2 0 0 ax.length),(53,.isl 1 (dW.map eI)),(54,.n .i64 fg),(55,.n .i64 gq)] [[ad.mk 5 [[.n .i64 aI,.n .i64 aH,.isl 1 (bn.map eI),.isl 1 (c1.map eI),.isl 1 (c4.map eI)]] .live],[ad.mk 4 [(gn bF 3 0 0 ah.length 5 0 0 bz.length 6 0 0 eT.length)] .live],(ae 3 aM ax),(ae 1 (bj 4 0 3) ah),(b3 3 aM eM),(ae 1 eI bz),(ae 3 aM eT)]
def FY (af:Int)(dW:List Int)(fg aI aH:Int)(bn c1 c4:List Int)(bF:Int)(ah:List bt)(eM:List (List aL))(bz:List Int)(eT:List aL):(List aL)→dq
 | a=>⟨some 4,[(1,.ref 0 0 0 0),(3,.ref 1 0 0 0),(5,.n .i64 af),(6,.n .i64 (1:Int)),(7,.bk 2 0 0 a.length)],[[ad.mk 5 [[.n .i64 aI,.n .i64 aH,.isl 1 (bn.map eI),.isl 1 (c1.map eI),.isl 1 (c4.map eI)]] .live],[ad.mk 4 [(gn bF 3 0 0 ah.length 5 0 0 bz.length 6 0 0 eT.length)] .live],(ae 3 aM a),(ae 1 (bj 4 0 3) ah),(b3 3 aM eM),(ae 1 eI bz),(ae 3 aM eT)]⟩
def vS (af:Int)(dW:List Int)(fg aI aH:Int)(bn c1 c4:List Int)(bF:Int)(ah:List bt)(eM:List (List aL))(bz:List Int)(eT:List aL)(gq:Int)(ax:List aL):Option ((Int×(List aL))⊕((List aL))) :=
 if (decide (gq<fg))=true then
  if 0≤gq∧gq<dW.length then
  dW[gq.toNat]? >>= fun aE =>
  oS (J ((1:Int)*aE)) >>= fun aK =>
  if (ax++([aK]:List aL)).length*56≤140737488355328 then
  some (.inl (J (gq+(1:Int)),ax++([aK]:List aL)))
  else none
  else none
 else
  some (.inr ax)
def Cu (af:Int)(dW:List Int)(fg aI aH:Int)(bn c1 c4:List Int)(bF:Int)(ah:List bt)(eM:List (List aL))(bz:List Int)(eT:List aL)(gq:Int)(ax:List aL):Option ((List aL)):=iter (fun w:Int×(List aL)=>vS af dW fg aI aH bn c1 c4 bF ah eM bz eT w.1 w.2) (gq,ax)
theorem S9 {af:Int}{dW:List Int}{fg aI aH:Int}{bn c1 c4:List Int}{bF:Int}{ah:List bt}{eM:List (List aL)}{bz:List Int}{eT:List aL}{gq:Int}{ax:List aL}:bx (vS af dW fg aI aH bn c1 c4 bF ah eM bz eT gq ax) (dP a7 152 0 42 [1,1,1,0,1,0,0,1,0,0,1,1,1,0,1,0,0] (FH af dW fg aI aH bn c1 c4 bF ah eM bz eT (gq,ax)) (FH af dW fg aI aH bn c1 c4 bF ah eM bz eT) (FY af dW fg aI aH bn c1 c4 bF ah eM bz eT)):=by
 unfold vS
 exact .ite (fun h1 =>
  .aY fun h2 =>
  .ar fun aE au =>
  .ar fun aK aX =>
  .aY fun bb =>
  .ret (let q1:=(ax++([aK]:List aL));let q2:=cB [0,1,17,3,4,5,6];bf [(I 1),.U true,.ay (bq 1 (.b2 (eI aE)) 1),.ay (ai 4 (al (bp 1 (.agg (aM aK)) false) (bq 1 (.aG (q1.length)) 1))),(I 2),.aN [0,1,17,3,4,5,6] [.box [.id,.id,.id,.id,.id],.box [.id,.id,.id,.id],.cu (ae 3 aM q1),.bB (ae 1 (bj 4 0 3) ah),.bB (b3 3 aM eM),.pure,.pure] (a6 [1,3,5,6,7,53,54,55])] (.bg h1 h2.1 (cO eI h2.2) (bU eI au) (rD aK aX) (gx aM aK) (gV aM ax) (gy aM ax aK) (.eE bb (cU 3 .live (ha aM ax aK)) (aF 3 .live eL q1) (eu q2 4 4 0 3 rfl ah) (dz q2 3 fe eM) (aF 1 .live aO bz) (aF 3 .live eL eT)))))
  (fun h1 =>
  .ret (let bK:=cB [0,1,2,3,4,5,6];bf [(I 1),.U false,.aN [0,1,2,3,4,5,6] [.box [.id,.id,.id,.id,.id],.box [.id,.id,.id,.id],.pure,.bB (ae 1 (bj 4 0 3) ah),.bB (b3 3 aM eM),.pure,.pure] (a6 [1,3,5,6,7])] (.dU h1 (aF 3 .live eL ax) (eu bK 4 4 0 3 rfl ah) (dz bK 3 fe eM) (aF 1 .live aO bz) (aF 3 .live eL eT))))
theorem Up {af:Int}{dW:List Int}{fg aI aH:Int}{bn c1 c4:List Int}{bF:Int}{ah:List bt}{eM:List (List aL)}{bz:List Int}{eT:List aL}{gq:Int}{ax:List aL}{r} (h:Cu af dW fg aI aH bn c1 c4 bF ah eM bz eT gq ax=some r):dQ a7 152 0 42 [1,1,1,0,1,0,0,1,0,0,1,1,1,0,1,0,0] (FH af dW fg aI aH bn c1 c4 bF ah eM bz eT) (FY af dW fg aI aH bn c1 c4 bF ah eM bz eT) (gq,ax) r:=dR (fun _=>S9) h
def FI (af aI aH:Int)(bn c1 c4:List Int)(bF:Int)(ah:List bt)(eM:List (List aL))(bz:List Int)(eT:List aL):(Int×(List aL))→S:=fun (bo,ax)=>dl [(1,.ref 0 0 0 0),(3,.ref 1 0 0 0),(5,.n .i64 af),(6,.n .i64 (1:Int)),(7,.bk 2 0 0 ax.length),(10,.n .i64 bo)] [[ad.mk 5 [[.n .i64 aI,.n .i64 aH,.isl 1 (bn.map eI),.isl 1 (c1.map eI),.isl 1 (c4.map eI)]] .live],[ad.mk 4 [(gn bF 3 0 0 ah.length 5 0 0 bz.length 6 0 0 eT.length)] .live],(ae 3 aM ax),(ae 1 (bj 4 0 3) ah),(b3 3 aM eM),(ae 1 eI bz),(ae 3 aM eT)]
def FZ (af aI aH:Int)(bn c1 c4:List Int)(bF:Int)(ah:List bt)(eM:List (List aL))(bz:List Int)(eT:List aL):(List aL)→dq
 | a=>⟨some 6,[(1,.ref 0 0 0 0),(3,.ref 1 0 0 0),(5,.n .i64 af),(6,.n .i64 (1:Int)),(7,.bk 2 0 0 a.length)],[[ad.mk 5 [[.n .i64 aI,.n .i64 aH,.isl 1 (bn.map eI),.isl 1 (c1.map eI),.isl 1 (c4.map eI)]] .live],[ad.mk 4 [(gn bF 3 0 0 ah.length 5 0 0 bz.length 6 0 0 eT.length)] .live],(ae 3 aM a),(ae 1 (bj 4 0 3) ah),(b3 3 aM eM),(ae 1 eI bz),(ae 3 aM eT)]⟩
def vT (af aI aH:Int)(bn c1 c4:List Int)(bF:Int)(ah:List bt)(eM:List (List aL))(bz:List Int)(eT:List aL)(bo:Int)(ax:List aL):Option ((Int×(List aL))⊕((List aL))) :=
 if (decide (bo<aI))=true then
  if (bo == af)=true then
   oS 1 >>= fun bd =>
   if (ax++([bd]:List aL)).length*56≤140737488355328 then
   some (.inl (J (bo+(1:Int)),ax++([bd]:List aL)))
   else none
  else
   oS 0 >>= fun bd =>
   if (ax++([bd]:List aL)).length*56≤140737488355328 then
   some (.inl (J (bo+(1:Int)),ax++([bd]:List aL)))
   else none
 else
  some (.inr ax)
def Cv (af aI aH:Int)(bn c1 c4:List Int)(bF:Int)(ah:List bt)(eM:List (List aL))(bz:List Int)(eT:List aL)(bo:Int)(ax:List aL):Option ((List aL)):=iter (fun w:Int×(List aL)=>vT af aI aH bn c1 c4 bF ah eM bz eT w.1 w.2) (bo,ax)
theorem Ta {af aI aH:Int}{bn c1 c4:List Int}{bF:Int}{ah:List bt}{eM:List (List aL)}{bz:List Int}{eT:List aL}{bo:Int}{ax:List aL}:bx (vT af aI aH bn c1 c4 bF ah eM bz eT bo ax) (dP a7 152 0 42 [1,1,1,0,1,0,0,1,0,0,1,1,1,1,0,1,0,0] (FI af aI aH bn c1 c4 bF ah eM bz eT (bo,ax)) (FI af aI aH bn c1 c4 bF ah eM bz eT) (FZ af aI aH bn c1 c4 bF ah eM bz eT)):=by
 unfold vT
 exact .ite (fun h1 =>
  (let t1:List bY:=[(I 4),.U true,(I 1),(I 3)];
  .ite (fun h2 =>
  .ar fun bd au =>
  .aY fun aA =>
  .ret (let q1:=(ax++([bd]:List aL));let q2:=cB [0,1,20,3,4,5,6];bf (t1.append [.U true,(I 1),.ay (ai 2 (al (bp 1 (.agg (aM bd)) false) (bq 1 (.aG (q1.length)) 1))),(I 3),.aN [0,1,20,3,4,5,6] [.box [.id,.id,.id,.id,.id],.box [.id,.id,.id,.id],.cu (ae 3 aM q1),.bB (ae 1 (bj 4 0 3) ah),.bB (b3 3 aM eM),.pure,.pure] (a6 [1,3,5,6,7,10])]) (.bg h1 h2 (rD bd au) (gx aM bd) (gV aM ax) (gy aM ax bd) aA (cU 3 .live (ha aM ax bd)) (.dg (aF 3 .live eL q1) (eu q2 4 4 0 3 rfl ah) (dz q2 3 fe eM) (aF 1 .live aO bz) (aF 3 .live eL eT)))))
  (fun h2 =>
  .ar fun bd au =>
  .aY fun aA =>
  .ret (let bK:=(ax++([bd]:List aL));let bW:=cB [0,1,19,3,4,5,6];bf (t1.append [.U false,.ay (ai 2 (al (bp 1 (.agg (aM bd)) false) (bq 1 (.aG (bK.length)) 1))),(I 3),.aN [0,1,19,3,4,5,6] [.box [.id,.id,.id,.id,.id],.box [.id,.id,.id,.id],.cu (ae 3 aM bK),.bB (ae 1 (bj 4 0 3) ah),.bB (b3 3 aM eM),.pure,.pure] (a6 [1,3,5,6,7,10])]) (.bg h1 h2 (rD bd au) (gx aM bd) (gV aM ax) (gy aM ax bd) aA (cU 3 .live (ha aM ax bd)) (.dg (aF 3 .live eL bK) (eu bW 4 4 0 3 rfl ah) (dz bW 3 fe eM) (aF 1 .live aO bz) (aF 3 .live eL eT)))))))
  (fun h1 =>
  .ret (let cD:=cB [0,1,2,3,4,5,6];bf [(I 4),.U false,.aN [0,1,2,3,4,5,6] [.box [.id,.id,.id,.id,.id],.box [.id,.id,.id,.id],.pure,.bB (ae 1 (bj 4 0 3) ah),.bB (b3 3 aM eM),.pure,.pure] (a6 [1,3,5,6,7])] (.dU h1 (aF 3 .live eL ax) (eu cD 4 4 0 3 rfl ah) (dz cD 3 fe eM) (aF 1 .live aO bz) (aF 3 .live eL eT))))
theorem Uq {af aI aH:Int}{bn c1 c4:List Int}{bF:Int}{ah:List bt}{eM:List (List aL)}{bz:List Int}{eT:List aL}{bo:Int}{ax:List aL}{r} (h:Cv af aI aH bn c1 c4 bF ah eM bz eT bo ax=some r):dQ a7 152 0 42 [1,1,1,0,1,0,0,1,0,0,1,1,1,1,0,1,0,0] (FI af aI aH bn c1 c4 bF ah eM bz eT) (FZ af aI aH bn c1 c4 bF ah eM bz eT) (bo,ax) r:=dR (fun _=>Ta) h
def FJ (aI aH:Int)(bn c1 c4:List Int)(bF:Int):(Int×(List bt)×(List (List aL))×(List Int)×(List aL))→S:=fun (af,ax,db,aD,bz)=>dl [(1,.ref 0 0 0 0),(3,.ref 1 0 0 0),(5,.n .i64 af)] [[ad.mk 5 [[.n .i64 aI,.n .i64 aH,.isl 1 (bn.map eI),.isl 1 (c1.map eI),.isl 1 (c4.map eI)]] .live],[ad.mk 4 [(gn bF 2 0 0 ax.length 4 0 0 aD.length 5 0 0 bz.length)] .live],(ae 1 (bj 3 0 3) ax),(b3 3 aM db),(ae 1 eI aD),(ae 3 aM bz)]
def F0 (aI aH:Int)(bn c1 c4:List Int)(bF:Int):((List bt)×(List (List aL))×(List Int)×(List aL))→dq
 | a=>⟨some 2,[(3,.ref 0 0 0 0)],[[ad.mk 4 [(gn bF 1 0 0 a.1.length 3 0 0 a.2.2.1.length 4 0 0 a.2.2.2.length)] .live],(ae 1 (bj 2 0 3) a.1),(b3 3 aM a.2.1),(ae 1 eI a.2.2.1),(ae 3 aM a.2.2.2)]⟩
def vU (aI aH:Int)(bn c1 c4:List Int)(bF af:Int)(ax:List bt)(db:List (List aL))(aD:List Int)(bz:List aL):Option ((Int×(List bt)×(List (List aL))×(List Int)×(List aL))⊕((List bt)×(List (List aL))×(List Int)×(List aL))) :=
 if (decide (af<aI))=true then
  if 0≤af∧af<c1.length then
  c1[af.toNat]? >>= fun aE =>
  if (decide (aE<(0:Int)))=true then
   ug (⟨aI,aH,bn,c1,c4⟩:hk) af >>= fun cc =>
   Cz af cc (len_ eI cc) aI aH bn c1 c4 bF ax db aD bz 0 ([]:List aL) >>= fun cZ =>
   CA af aI aH bn c1 c4 bF ax db aD bz 0 cZ >>= fun ec =>
   oS (J ((-1:Int)*aE)) >>= fun d8 =>
   if (ec++([d8]:List aL)).length*56≤140737488355328 then
   (db++[ec++([d8]:List aL)])[db.length]? >>= fun j8 =>
   y3 af db.length ((ec++([d8]:List aL)).length) (((ec++([d8]:List aL)).length:Nat):Int) aI aH bn c1 c4 bF (db++[ec++([d8]:List aL)]) ax aD 0 bz >>= fun gi =>
   if (ax++([(some (db.length,(ec++([d8]:List aL)).length))]:List bt)).length*24≤140737488355328 then
   if (aD++([J (aH+af)]:List Int)).length*8≤140737488355328 then
   some (.inl (J (af+(1:Int)),ax++([(some (db.length,(ec++([d8]:List aL)).length))]:List bt),db++[ec++([d8]:List aL)],aD++([J (aH+af)]:List Int),gi))
   else none
   else none
   else none
  else
   ug (⟨aI,aH,bn,c1,c4⟩:hk) af >>= fun cc =>
   Cu af cc (len_ eI cc) aI aH bn c1 c4 bF ax db aD bz 0 ([]:List aL) >>= fun cZ =>
   Cv af aI aH bn c1 c4 bF ax db aD bz 0 cZ >>= fun ec =>
   oS (J ((1:Int)*aE)) >>= fun d8 =>
   if (ec++([d8]:List aL)).length*56≤140737488355328 then
   (db++[ec++([d8]:List aL)])[db.length]? >>= fun j8 =>
   y3 af db.length ((ec++([d8]:List aL)).length) (((ec++([d8]:List aL)).length:Nat):Int) aI aH bn c1 c4 bF (db++[ec++([d8]:List aL)]) ax aD 0 bz >>= fun gi =>
   if (ax++([(some (db.length,(ec++([d8]:List aL)).length))]:List bt)).length*24≤140737488355328 then
   if (aD++([J (aH+af)]:List Int)).length*8≤140737488355328 then
   some (.inl (J (af+(1:Int)),ax++([(some (db.length,(ec++([d8]:List aL)).length))]:List bt),db++[ec++([d8]:List aL)],aD++([J (aH+af)]:List Int),gi))
   else none
   else none
   else none
  else none
 else
  some (.inr (ax,db,aD,bz))
def Hm (aI aH:Int)(bn c1 c4:List Int)(bF af:Int)(ax:List bt)(db:List (List aL))(aD:List Int)(bz:List aL):Option ((List bt)×(List (List aL))×(List Int)×(List aL)):=iter (fun w:Int×(List bt)×(List (List aL))×(List Int)×(List aL)=>vU aI aH bn c1 c4 bF w.1 w.2.1 w.2.2.1 w.2.2.2.1 w.2.2.2.2) (af,ax,db,aD,bz)
set_option maxHeartbeats 4000000 in
theorem Tb {aI aH:Int}{bn c1 c4:List Int}{bF af:Int}{ax:List bt}{db:List (List aL)}{aD:List Int}{bz:List aL}:bx (vU aI aH bn c1 c4 bF af ax db aD bz) (dP a7 152 0 42 [1,1,1,0,1,0,0] (FJ aI aH bn c1 c4 bF (af,ax,db,aD,bz)) (FJ aI aH bn c1 c4 bF) (F0 aI aH bn c1 c4 bF)):=by
 unfold vU
 exact .ite (fun h1 =>
  .aY fun h2 =>
  .ar fun aE au =>
  (let t1:List bY:=[(I 4),.U true,(I 1),.ay (bq 4 (.b2 (eI aE)) 1)];
  have aS:=((.c5 h1 h2.1 (cO eI h2.2) (bU eI au)):cp _);
  .ite (fun aA =>
  .ar fun cc bb =>
  .ar fun cZ cj =>
  .ar fun ec e6 =>
  .ar fun d8 el =>
  .aY fun ew =>
  .ar fun j8 hO =>
  .ar fun gi ho =>
  .aY fun gr =>
  .aY fun fh =>
  .ret (let q1:=(ec++([d8]:List aL));let q2:=(db++[ec++([d8]:List aL)]);let bK:=DL (f9 .live 3 aM db) (DU eL 17 4 (db.length+0) (ha aM ec d8) (DV 17 4 (db.length+0)));let bW:=cB [0,1,13,2,27,5];let d5:=(ax++([(some (db.length,q1.length))]:List bt));let fJ:=aF 1 .live aO aD;let eB:=aF 3 .live eL bz;let hC:=cB [0,1,18,2,3,4,5];let jr:=cB [0,1,2,3,4,5,6];let js:=J (aH+af);let cD:=(aD++([js]:List Int));let mj:=cB [0,1,4,3,5,6];bf (t1.append [.U true,(I 1),(I 2),.ay (bq 2 (bp 2 (.isl 1 (cc.map eI)) false) 2),.aN [0,1,18,2,3,4,5] [.box [.id,.id,.id,.id,.id],.box [.id,.id,.id,.id],.cu (ae 3 aM ([]:List aL)),.bB (ae 1 (bj 4 0 3) ax),.bB (b3 3 aM db),.pure,.pure] [(1,ii),(3,ii),(5,ii),(6,ii),(7,fV (([]:List aL).length)),(53,ii),(54,ii),(55,ii)],(Ge af cc (len_ eI cc) aI aH bn c1 c4 bF ax db aD bz cZ).e8,(I 1),.aN [0,1,2,3,4,5,6] [.box [.id,.id,.id,.id,.id],.box [.id,.id,.id,.id],.pure,.bB (ae 1 (bj 4 0 3) ax),.bB (b3 3 aM db),.pure,.pure] (a6 [1,3,5,6,7,10]),(Gf af aI aH bn c1 c4 bF ax db aD bz ec).e8,.ay (ai 6 (al (.b2 (eI aE)) (ai 1 (al (bp 1 (.agg (aM d8)) false) (bq 1 (.vg 4 (db.length+0) (.aG (q1.length))) 1))))),.ay (bq 1 (.gb (ad.mk 3 (j8.map aM) .live) []) 1),.aN [0,1,4,3,5,6] [.box [.id,.id,.id,.id,.id],.box [.id,.id,.id,.id],.bB (b3 3 aM q2),.bB (ae 1 (bj 2 0 3) ax),.pure,.pure] (a6 [1,3,5,7,93,94]),(Cr af db.length (q1.length) ((q1.length:Nat):Int) aI aH bn c1 c4 bF q2 ax aD gi).e8,.ay (ai 6 (al (.kc 133 (ly 2 0 3 (some (db.length,q1.length))) .none) (al (.aG (d5.length)) (ai 3 [])))),.ay (bq 10 (.aG (cD.length)) 3),(I 3),.aN [0,1,13,2,27,5] [.box [.id,.id,.id,.id,.id],.box [.id,.id,.id,.id],.bB (ae 1 (bj 3 0 3) d5),.bB (b3 3 aM q2),.cu (ae 1 eI cD),.pure] (a6 [1,3,5])]) (aS.aG (.bg aA (Ni cc bb) (cU 3 .live (show []=(([]:List aL)).map aM from rfl)) (aF 3 .live eL ([]:List aL)) (eu hC 4 3 0 3 rfl ax) (dz hC 3 fe db) fJ eB (.bg (eY aL) (UI cj) (aF 3 .live eL cZ) (eu jr 4 4 0 3 rfl ax) (dz jr 3 fe db) fJ eB (UJ e6) (.bg h2.1 (cO eI h2.2) (bU eI au) (rD d8 el) (gx aM d8) (gV aM ec) (gy aM ec d8) ew (.bg (congrArg (· + 0) (Ka (f9 .live 3 aM db) rfl)) (jU bK iZ hO) (m2 (b6:=mj) bK (mf fe)) (eu mj 2 4 0 3 rfl ax) fJ eB (Mt ho) (.s2 2 0 3 db.length (q1.length):kh (.bk 2 (db.length+0) 0 (q1.length)) (ly 2 0 3 (some (db.length,q1.length)))) (.bg (gx (bj 2 0 3) (some (db.length,q1.length))) (gV (bj 2 0 3) ax) (gy (bj 2 0 3) ax (some (db.length,q1.length))) gr (gx eI js) (gV eI aD) (gy eI aD js) fh (.dg (c2 (rv (b6:=bW) 1 .live (bj 3 0 3) (ha (bj 2 0 3) ax (some (db.length,q1.length))) (s3 (rfl:bW 2=some 3))) (oX (b6:=bW))) (dz bW 3 fe q2) (cU 1 .live (ha eI aD js)) (aF 1 .live aO cD) (aF 3 .live eL gi))))))))))
  (fun aA =>
  .ar fun cc bb =>
  .ar fun cZ cj =>
  .ar fun ec e6 =>
  .ar fun d8 el =>
  .aY fun ew =>
  .ar fun j8 hO =>
  .ar fun gi ho =>
  .aY fun gr =>
  .aY fun fh =>
  .ret (let iF:=(ec++([d8]:List aL));let qO:=(db++[ec++([d8]:List aL)]);let BD:=DL (f9 .live 3 aM db) (DU eL 17 4 (db.length+0) (ha aM ec d8) (DV 17 4 (db.length+0)));let rr:=cB [0,1,13,2,27,5];let BE:=(ax++([(some (db.length,iF.length))]:List bt));let yv:=aF 1 .live aO aD;let u7:=aF 3 .live eL bz;let yw:=cB [0,1,17,2,3,4,5];let yx:=cB [0,1,2,3,4,5,6];let tn:=J (aH+af);let tp:=(aD++([tn]:List Int));let yy:=cB [0,1,4,3,5,6];bf (t1.append [.U false,(I 2),.ay (bq 2 (bp 2 (.isl 1 (cc.map eI)) false) 2),.aN [0,1,17,2,3,4,5] [.box [.id,.id,.id,.id,.id],.box [.id,.id,.id,.id],.cu (ae 3 aM ([]:List aL)),.bB (ae 1 (bj 4 0 3) ax),.bB (b3 3 aM db),.pure,.pure] [(1,ii),(3,ii),(5,ii),(6,ii),(7,fV (([]:List aL).length)),(53,ii),(54,ii),(55,ii)],(FY af cc (len_ eI cc) aI aH bn c1 c4 bF ax db aD bz cZ).e8,(I 1),.aN [0,1,2,3,4,5,6] [.box [.id,.id,.id,.id,.id],.box [.id,.id,.id,.id],.pure,.bB (ae 1 (bj 4 0 3) ax),.bB (b3 3 aM db),.pure,.pure] (a6 [1,3,5,6,7,10]),(FZ af aI aH bn c1 c4 bF ax db aD bz ec).e8,.ay (ai 6 (al (.b2 (eI aE)) (ai 1 (al (bp 1 (.agg (aM d8)) false) (bq 1 (.vg 4 (db.length+0) (.aG (iF.length))) 1))))),.ay (bq 1 (.gb (ad.mk 3 (j8.map aM) .live) []) 1),.aN [0,1,4,3,5,6] [.box [.id,.id,.id,.id,.id],.box [.id,.id,.id,.id],.bB (b3 3 aM qO),.bB (ae 1 (bj 2 0 3) ax),.pure,.pure] (a6 [1,3,5,7,93,94]),(Cr af db.length (iF.length) ((iF.length:Nat):Int) aI aH bn c1 c4 bF qO ax aD gi).e8,.ay (ai 6 (al (.kc 133 (ly 2 0 3 (some (db.length,iF.length))) .none) (al (.aG (BE.length)) (ai 3 [])))),.ay (bq 10 (.aG (tp.length)) 3),(I 3),.aN [0,1,13,2,27,5] [.box [.id,.id,.id,.id,.id],.box [.id,.id,.id,.id],.bB (ae 1 (bj 3 0 3) BE),.bB (b3 3 aM qO),.cu (ae 1 eI tp),.pure] (a6 [1,3,5])]) (aS.aG (.bg aA (Ni cc bb) (cU 3 .live (show []=(([]:List aL)).map aM from rfl)) (aF 3 .live eL ([]:List aL)) (eu yw 4 3 0 3 rfl ax) (dz yw 3 fe db) yv u7 (.bg (eY aL) (Up cj) (aF 3 .live eL cZ) (eu yx 4 4 0 3 rfl ax) (dz yx 3 fe db) yv u7 (Uq e6) (.bg h2.1 (cO eI h2.2) (bU eI au) (rD d8 el) (gx aM d8) (gV aM ec) (gy aM ec d8) ew (.bg (congrArg (· + 0) (Ka (f9 .live 3 aM db) rfl)) (jU BD iZ hO) (m2 (b6:=yy) BD (mf fe)) (eu yy 2 4 0 3 rfl ax) yv u7 (Mt ho) (.s2 2 0 3 db.length (iF.length):kh (.bk 2 (db.length+0) 0 (iF.length)) (ly 2 0 3 (some (db.length,iF.length)))) (.bg (gx (bj 2 0 3) (some (db.length,iF.length))) (gV (bj 2 0 3) ax) (gy (bj 2 0 3) ax (some (db.length,iF.length))) gr (gx eI tn) (gV eI aD) (gy eI aD tn) fh (.dg (c2 (rv (b6:=rr) 1 .live (bj 3 0 3) (ha (bj 2 0 3) ax (some (db.length,iF.length))) (s3 (rfl:rr 2=some 3))) (oX (b6:=rr))) (dz rr 3 fe qO) (cU 1 .live (ha eI aD tn)) (aF 1 .live aO tp) (aF 3 .live eL gi))))))))))))
  (fun h1 =>
  .ret (bf [(I 4),.U false,.aN [1,2,3,4,5] [.box [.id,.id,.id,.id],.bB (ae 1 (bj 2 0 3) ax),.bB (b3 3 aM db),.pure,.pure] (a6 [3])] (.dg h1 (eu (cB [1,2,3,4,5]) 2 3 0 3 rfl ax) (dz (cB [1,2,3,4,5]) 3 fe db) (aF 1 .live aO aD) (aF 3 .live eL bz))))
theorem Ur {aI aH:Int}{bn c1 c4:List Int}{bF af:Int}{ax:List bt}{db:List (List aL)}{aD:List Int}{bz:List aL}{r} (h:Hm aI aH bn c1 c4 bF af ax db aD bz=some r):dQ a7 152 0 42 [1,1,1,0,1,0,0] (FJ aI aH bn c1 c4 bF) (F0 aI aH bn c1 c4 bF) (af,ax,db,aD,bz) r:=dR (fun _=>Tb) h
def za (b8:hk):Option (Int×(List bt)×(List Int)×(List aL)×(List (List aL))) :=
 HO b8.fp b8.d6 b8.dE b8.eg b8.hB (J (b8.d6+b8.fp)) 0 ([]:List aL) >>= fun r1 =>
 Hm b8.fp b8.d6 b8.dE b8.eg b8.hB (J (b8.d6+b8.fp)) 0 ([]:List bt) ([]:List (List aL)) ([]:List Int) r1 >>= fun bd =>
 some (J (b8.d6+b8.fp),bd.1,bd.2.2.1,bd.2.2.2,bd.2.1)
theorem Vo {b8:hk}:bx (za b8) (fun a=>Con a7 42 [.agg (nR b8)] [] (.ref 0 0 0 0) [(ad.mk 4 [(gn a.1 0 1 0 a.2.1.length 0 2 0 a.2.2.1.length 0 3 0 a.2.2.2.1.length)] .live::ad.mk 1 (a.2.1.map (bj 0 4 3)) .live::ad.mk 1 (a.2.2.1.map eI) .live::ad.mk 3 (a.2.2.2.1.map aM) .live::(b3 3 aM a.2.2.2.2))]):=by
 unfold za
 exact .ar fun r1 h2 =>
  .ar fun bd au =>
  .ret (let q1:=gn (J (b8.d6+b8.fp)) 0 1 0 bd.1.length 0 2 0 bd.2.2.1.length 0 3 0 bd.2.2.2.length;let q2:=cB [0,1,4,5,6,2];let bK:=b3 3 aM bd.2.1;let bW:=ae 1 (bj 0 4 3) bd.1;let cD:=cB [0];lQ [(I 2),(I 8),(I 1),.rq 8 3 3,.aN [0,8,11] [.box [.id,.id,.id,.id,.id],.box [.id,.id,.id,.len (([]:List aL).length)],.cu (ae 3 aM ([]:List aL))] (a6 [1,3,4]),(Gd b8.fp b8.d6 b8.dE b8.eg b8.hB (J (b8.d6+b8.fp)) r1).e8,(I 1),.rq 1 1 1,.El,.rq 1 2 1,.aN [0,1,4,5,6,2] [.box [.id,.id,.id,.id,.id],.box [.id,.len (([]:List bt).length),.len (([]:List Int).length),.id],.bB (ae 1 (bj 3 0 3) ([]:List bt)),.bB (b3 3 aM ([]:List (List aL))),.cu (ae 1 eI ([]:List Int)),.pure] (a6 [1,3,5]),(F0 b8.fp b8.d6 b8.dE b8.eg b8.hB (J (b8.d6+b8.fp)) bd).e8,(I 2),.BA [{bC:=[(0,0),(1,0),(3,0),(4,0)],iw:=some (2,0)}] [([.box [.id,.at_ 0 1 bd.1.length,.at_ 0 2 bd.2.2.1.length,.at_ 0 3 bd.2.2.2.length],.rx bW,.pure,.pure],some (.rx bK))] [(2,.br (.dh (.at_ 0 0 0)))]] [0] [.bB (ad.mk 4 [q1] .live::ad.mk 1 (bd.1.map (bj 0 4 3)) .live::ad.mk 1 (bd.2.2.1.map eI) .live::ad.mk 3 (bd.2.2.2.map aM) .live::bK)] (.bg (eY aL) (cU 3 .live (nk aM)) (aF 3 .live eL ([]:List aL)) (UH h2) (eY bt) (eY Int) (c2 (rv (b6:=q2) 1 .live (bj 3 0 3) (nk (bj 5 0 3)) (s3 (rfl:q2 5=some 3))) (oX (b6:=q2))) (m2 (b6:=q2) (P4 .live 3 aM) (mf fe)) (.bg (cU 1 .live (nk eI)) (aF 1 .live aO ([]:List Int)) (aF 3 .live eL r1) (Ur au) (rfl:(kB [{bC:=[(0,0),(1,0),(3,0),(4,0)],iw:=some (2,0)}]) 0 1=some (1,0)) (rfl:bd.1.length=bd.1.length) (rfl:(kB [{bC:=[(0,0),(1,0),(3,0),(4,0)],iw:=some (2,0)}]) 0 2=some (3,0)) (rfl:bd.2.2.1.length=bd.2.2.1.length) (.gJ (rfl:(kB [{bC:=[(0,0),(1,0),(3,0),(4,0)],iw:=some (2,0)}]) 0 3=some (4,0)) (rfl:bd.2.2.2.length=bd.2.2.2.length) (PC (Kn (jY:=(bj 0 4 3)) (cR (bj 2 0 3) bd.1) (fun _=>rfl) (fun x=>(QC (fun _=>rfl)) x)) P6:rn (kB [{bC:=[(0,0),(1,0),(3,0),(4,0)],iw:=some (2,0)}]) (ae 1 (bj 2 0 3) bd.1) bW) (aF 1 .live aO bd.2.2.1) (aF 3 .live eL bd.2.2.2) (PE (f9 .live 3 aM bd.2.1) (fun _=>rfl) fe:rn (kB [{bC:=[(0,0),(1,0),(3,0),(4,0)],iw:=some (2,0)}]) bK bK) (rfl:(kB [{bC:=[(0,0),(1,0),(3,0),(4,0)],iw:=some (2,0)}]) 0 0=some (0,0)) (c2 (show ad.mk 4 [q1] .live=gC cD (ad.mk 4 [q1] .live) from rfl) (c2 (kY cD 0 0 4 3 rfl bd.1) (c2 (fT cD 1 ky bd.2.2.1) (c2 (fT cD 3 fe bd.2.2.2) (dz cD 3 fe bd.2.1)))))))))
def Gw (bN:Int)(cW:List Int)(cX:Int):Int→S:=fun dJ=>dl [(1,.n .i64 bN),(10,.isl 1 (cW.map eI)),(11,.n .i64 cX),(12,.n .i64 dJ)] []
def Mw (bN:Int)(cW:List Int)(cX:Int):((Unit)⊕(Unit))→dq
 | .inl a=>⟨some 0,[],[]⟩
 | .inr a=>⟨none,[(4,.b true)],[]⟩
def yU (bN:Int)(cW:List Int)(cX dJ:Int):Option ((Int)⊕((Unit)⊕(Unit))) :=
 if (decide (dJ<cX))=true then
  if 0≤dJ∧dJ<cW.length then
  cW[dJ.toNat]? >>= fun aE =>
  if (aE == bN)=true then
   some (.inr (.inr ()))
  else
   some (.inl (J (dJ+(1:Int))))
  else none
 else
  some (.inr (.inl ()))
def CF (bN:Int)(cW:List Int)(cX dJ:Int):Option ((Unit)⊕(Unit)):=iter (fun w:Int=>yU bN cW cX w) dJ
theorem TN {bN:Int}{cW:List Int}{cX dJ:Int}:bx (yU bN cW cX dJ) (dP a7 20 0 71 [1,0,1,0,0] (Gw bN cW cX dJ) (Gw bN cW cX) (Mw bN cW cX)):=by
 unfold yU
 exact .ite (fun h1 =>
  .aY fun h2 =>
  .ar fun aE au =>
  (let t1:List bY:=[(I 1),.U true,.ay (bq 1 (.b2 (eI aE)) 1),(I 3)];
  have aS:=((.c5 h1 h2.1 (cO eI h2.2) (bU eI au)):cp _);
  .ite (fun aA =>
  .ret (bf (t1.append [.U true,(I 1),.aN [] [] (a6 [4])]) (aS.aG (.e1 aA))))
  (fun aA =>
  .ret (bf (t1.append [.U false,(I 2),.aN [] [] (a6 [1,10,11,12])]) (aS.aG (.e1 aA))))))
  (fun h1 =>
  .ret (bf [(I 1),.U false,.aN [] [] []] (.e1 h1)))
theorem ME {bN:Int}{cW:List Int}{cX dJ:Int}{r} (h:CF bN cW cX dJ=some r):dQ a7 20 0 71 [1,0,1,0,0] (Gw bN cW cX) (Mw bN cW cX) dJ r:=dR (fun _=>TN) h
def zs (gZ:pd)(bN:Int):Option Bool :=
 CF bN gZ.rj (len_ eI gZ.rj) 0 >>= fun r1 =>
 match r1 with
 | .inl di=>(some false)
 | .inr di=>(some true)
theorem V2 {gZ:pd}{bN:Int}:bx (zs gZ bN) (fun r=>Con a7 71 [.d7 4 [(ur gZ)] 0 0,.n .i64 bN] [] (.b r) []):=by
 unfold zs
 exact .ar fun r1 h2 =>
  (let t1:List bY:=[(I 1),(I 6),.aN [] [] (a6 [1,10,11,12])];
  (by
  rcases r1 with di|di
  ·exact (.ret (bs (t1.append [.sub (.exit 0) [] [],(I 1)]) (.e1 (ME h2))))
  ·exact (.ret (bs (t1.append [.sub (.ret) [(4,.b true)] []]) (.e1 (ME h2))))))
def zt (c3:bm):Option Bool :=
 rK c3.cw >>= fun r1 =>
 if r1=true then
  if c3.cJ=true then
   some (decide ((0:Int)<(len_ eI c3.cw)))
  else
   some true
 else
  some false
theorem V3 {c3:bm}:bx (zt c3) (fun r=>Con a7 98 [.agg (aU c3)] [] (.b r) []):=by
 unfold zt
 exact .ar fun r1 h2 =>
  (have ae:=((.e2 (I5 r1 h2) (b7.b r1)):cp _);
  .ite (fun ab =>
  .ite (fun au =>
  .ret (bs [(I 2),.ay (ai 2 (al (bp 1 (.b r1) true) (ai 9 (al (.U false) (al (.U true) (ai 1 []))))))] (ae.aG (.bg ab ab ab ab (cV au) (cV au) (cV au) (cV au) (.bO ab (cV au) ab)))))
  (fun au =>
  .ret (bs [(I 2),.ay (ai 2 (al (bp 1 (.b r1) true) (ai 5 (ck 4 (al (.U true) (al (.U true) (ai 1 [])))))))] (ae.aG (.bg ab ab ab ab (cT au) (cT au) (cT au) (cT au) (.bO ab (cT au) ab))))))
  (fun ab =>
  .ret (bs [(I 2),.ay (ai 2 (al (bp 1 (.b r1) true) (ai 1 (ck 4 (ai 4 (ck 1 (al (.U false) (ai 1 []))))))))] (ae.aG (.dU ab ab ab ab ab ab)))))
def sO (bR:aL):Option Bool :=
 zt bR.fk >>= fun r1 =>
 if r1=true then
  rK bR.hl >>= fun bh =>
  if bh=true then
   if ((len_ eI bR.hl) == (0:Int))=true then
    some false
   else
    if (decide ((24:Int)<(len_ eI bR.hl)))=true then
     some false
    else
     if (decide ((24:Int)<(len_ eI bR.fk.cw)))=true then
      some false
     else
      xf bR.fk.cw bR.hl >>= fun ec =>
      qh ec >>= fun d8 =>
      some d8
  else
   some false
 else
  some false
theorem I6 {bR:aL}:bx (sO bR) (fun r=>Con a7 75 [.agg (aM bR)] [] (.b r) []):=by
 unfold sO
 exact .ar fun r1 h2 =>
  (have ae:=((.e2 (V3 r1 h2) (b7.b r1)):cp _);
  .ite (fun ab =>
  .ar fun bh aA =>
  (have aS:=ae.aG (.eE (cV ab) (cV ab) (cV ab) (I5 bh aA) (b7.b bh) (cV ab) (cV ab));
  .ite (fun aX =>
  (have fA:=aS.aG (.dg (cV aX) (cV aX) (cV aX) (cV aX) (cV aX));
  .ite (fun bb =>
  .ret (bs [(I 2),.ay (ai 2 (al (bp 1 (.b r1) true) (ai 4 (al (bp 1 (.b bh) true) (ai 1 (al (.U false) (ai 5 (al (.U false) (ai 1 (ck 4 (al (.U true) (ai 1 (ck 5 (ai 1 [])))))))))))))),.U true,(I 1)] (fA.aG (.bg bb bb bb bb bb cv cv cv (.bO cv cv cv)))))
  (fun bb =>
  .ite (fun bi =>
  .ret (bs [(I 2),.ay (ai 2 (al (bp 1 (.b r1) true) (ai 4 (al (bp 1 (.b bh) true) (ai 1 (al (.U false) (ai 5 (al (.U false) (ai 5 (al (.U false) (ai 1 (ck 5 (al (.U true) []))))))))))))),.U true,(I 1)] (fA.aG (.bg bb bb bb bb bb bi bi bi (.c5 bi bi bi cv)))))
  (fun bi =>
  (let t4:List bY:=[(I 2),.ay (ai 2 (al (bp 1 (.b r1) true) (ai 4 (al (bp 1 (.b bh) true) (ai 1 (al (.U false) (ai 5 (al (.U false) (ai 5 (al (.U false) (ai 6 (al (.U false) []))))))))))))];
  have ma:=fA.aG (.bg bb bb bb bb bb bi bi bi (.bO bi bi bi));
  .ite (fun cj =>
  .ret (bs (t4.append [.U true,(I 1)]) (ma.aG (.e1 cj))))
  (fun cj =>
  .ar fun ec e6 =>
  .ar fun d8 el =>
  .ret (bs (t4.append [.U false,.ay (ai 5 (al (bp 2 (.isl 1 (ec.map eI)) false) (al (bp 1 (.b d8) true) (ai 1 []))))]) (ma.aG (.c5 cj (Nj ec e6) (zh d8 el) (b7.b d8))))))))))
  (fun aX =>
  .ret (bs [(I 2),.ay (ai 2 (al (bp 1 (.b r1) true) (ai 4 (al (bp 1 (.b bh) true) (ai 1 (al (.U false) (ai 1 (ck 4 (al (.U true) (ai 1 (ck 4 (ai 2 (ck 5 (ai 1 [])))))))))))))),.U true,(I 1)] (aS.aG (.bg (cT aX) (cT aX) (cT aX) (cT aX) (cT aX) cv cv cv (.eE cv cv cv cv cv cv cv)))))))
  (fun ab =>
  .ret (bs [(I 2),.ay (ai 2 (al (bp 1 (.b r1) true) (ai 2 (ck 4 (al (.U true) (ai 1 (ck 4 (ai 2 (ck 4 (ai 2 (ck 5 (ai 1 [])))))))))))),.U true,(I 1)] (ae.aG (.bg (cT ab) (cT ab) (cT ab) (cT ab) (cT ab) cv cv cv (.bg cv cv cv cv cv cv cv cv (.bO cv cv cv)))))))
def pI (bR:aL):Option Int :=
 sO bR >>= fun r1 =>
 if r1=true then
  if ((len_ eI bR.fk.cw) == (0:Int))=true then
   some 0
  else
   if bR.fk.cJ=true then
    some (-1)
   else
    some 1
 else
  some 0
theorem sG {bR:aL}:bx (pI bR) (fun r=>Con a7 44 [.agg (aM bR)] [] (.n .i64 r) []):=by
 unfold pI
 exact .ar fun r1 h2 =>
  (have ae:=((.e2 (I6 r1 h2) (b7.b r1)):cp _);
  .ite (fun ab =>
  (let t2:List bY:=[(I 2),.ay (ai 1 (al (bp 1 (.b r1) true) (bq 7 (.U false) 1)))];
  have fA:=ae.aG (.dU (cV ab) (cV ab) (cV ab) (cV ab) (cV ab) (cV ab));
  .ite (fun au =>
  .ret (bs (t2.append [.U true,(I 1)]) (fA.aG (.e1 au))))
  (fun au =>
  .ite (fun aA =>
  .ret (bs (t2.append [.U false,(I 4),.U true,(I 1)]) (fA.aG (.e2 au aA))))
  (fun aA =>
  .ret (bs (t2.append [.U false,(I 4),.U false,(I 1)]) (fA.aG (.e2 au aA)))))))
  (fun ab =>
  .ret (bs [(I 2),.ay (ai 1 (al (bp 1 (.b r1) true) (ai 2 (ck 5 (al (.U true) (ai 1 [])))))),.U true,(I 1)] (ae.aG (.eE (cT ab) (cT ab) (cT ab) (cT ab) (cT ab) (cT ab) cv)))))
def GN (eG:Int)(eP:List (List aL))(eF:List Int)(eH:List aL)(bN:Int)(eZ:Bool)(bo oy:Int):(Int×Int)→S:=fun (aJ,mD)=>dl [(0,.d7 4 [[.n .i64 eG,.isl 1 (eP.map (en 3 aM)),.isl 1 (eF.map eI),.isl 3 (eH.map aM)]] 0 0),(1,.n .i64 bN),(2,.b eZ),(7,.n .i64 aJ),(8,.n .i64 bo),(40,.isl 1 (eF.map eI)),(41,.n .i64 oy),(42,.n .i64 mD)] []
def Hn (eG:Int)(eP:List (List aL))(eF:List Int)(eH:List aL)(bN:Int)(eZ:Bool)(bo oy:Int):Int→dq
 | a=>⟨some 2,[(0,.d7 4 [[.n .i64 eG,.isl 1 (eP.map (en 3 aM)),.isl 1 (eF.map eI),.isl 3 (eH.map aM)]] 0 0),(1,.n .i64 bN),(2,.b eZ),(7,.n .i64 a),(8,.n .i64 bo)],[]⟩
def GO (eG:Int)(eP:List (List aL))(eF:List Int)(eH:List aL)(bN:Int)(eZ:Bool)(bo oy aJ mD:Int):Option ((Int×Int)⊕(Int)) :=
 if (decide (mD<oy))=true then
  if 0≤mD∧mD<eF.length then
  eF[mD.toNat]? >>= fun aE =>
  if (aE == bo)=true then
   if 0≤mD∧mD<eP.length then
   eP[mD.toNat]? >>= fun fi =>
   if 0≤bN∧bN<fi.length then
   fi[bN.toNat]? >>= fun iL =>
   pI iL >>= fun d8 =>
   some (.inl (d8,J (mD+(1:Int))))
   else none
   else none
  else
   some (.inl (aJ,J (mD+(1:Int))))
  else none
 else
  some (.inr aJ)
def M6 (eG:Int)(eP:List (List aL))(eF:List Int)(eH:List aL)(bN:Int)(eZ:Bool)(bo oy aJ mD:Int):Option (Int):=iter (fun w:Int×Int=>GO eG eP eF eH bN eZ bo oy w.1 w.2) (aJ,mD)
theorem TX {eG:Int}{eP:List (List aL)}{eF:List Int}{eH:List aL}{bN:Int}{eZ:Bool}{bo oy aJ mD:Int}:bx (GO eG eP eF eH bN eZ bo oy aJ mD) (dP a7 63 0 72 [1,1,0,1,0,0,1,0,0,1,1,0,0] (GN eG eP eF eH bN eZ bo oy (aJ,mD)) (GN eG eP eF eH bN eZ bo oy) (Hn eG eP eF eH bN eZ bo oy)):=by
 unfold GO
 exact .ite (fun h1 =>
  .aY fun h2 =>
  .ar fun aE au =>
  (let t1:List bY:=[(I 1),.U true,.ay (bq 2 (.b2 (eI aE)) 2),(I 3)];
  have aS:=((.c5 h1 h2.1 (cO eI h2.2) (bU eI au)):cp _);
  .ite (fun aA =>
  .aY fun aX =>
  .ar fun fi bi =>
  .aY fun cj =>
  .ar fun iL e6 =>
  .ar fun d8 el =>
  .ret (bf (t1.append [.U true,.ay (ai 6 (al (.b2 ((en 3 aM) fi)) (ai 2 (al (.b2 (aM iL)) (al (bp 1 (.n .i64 d8) true) (ai 1 [])))))),(I 2),.aN [] [] (a6 [0,1,2,7,8,40,41,42])]) (aS.aG (.bg aA aX.1 (cO (en 3 aM) aX.2) (bU (en 3 aM) bi) cj.1 (cO aM cj.2) (bU aM e6) (sG d8 el) (.e1 (b7.n .i64 d8))))))
  (fun aA =>
  .ret (bf (t1.append [.U false,(I 2),.aN [] [] (a6 [0,1,2,7,8,40,41,42])]) (aS.aG (.e1 aA))))))
  (fun h1 =>
  .ret (bf [(I 1),.U false,.aN [] [] (a6 [0,1,2,7,8])] (.e1 h1)))
theorem Vp {eG:Int}{eP:List (List aL)}{eF:List Int}{eH:List aL}{bN:Int}{eZ:Bool}{bo oy aJ mD:Int}{r} (h:M6 eG eP eF eH bN eZ bo oy aJ mD=some r):dQ a7 63 0 72 [1,1,0,1,0,0,1,0,0,1,1,0,0] (GN eG eP eF eH bN eZ bo oy) (Hn eG eP eF eH bN eZ bo oy) (aJ,mD) r:=dR (fun _=>TX) h
def GP (eG:Int)(eP:List (List aL))(eF:List Int)(eH:List aL)(bN:Int)(eZ:Bool):(Int×Int)→S:=fun (aJ,bo)=>dl [(0,.d7 4 [[.n .i64 eG,.isl 1 (eP.map (en 3 aM)),.isl 1 (eF.map eI),.isl 3 (eH.map aM)]] 0 0),(1,.n .i64 bN),(2,.b eZ),(7,.n .i64 aJ),(8,.n .i64 bo)] []
def MF (eG:Int)(eP:List (List aL))(eF:List Int)(eH:List aL)(bN:Int)(eZ:Bool):((Int)⊕(Unit))→dq
 | .inl a=>⟨some 0,[(7,.n .i64 a)],[]⟩
 | .inr a=>⟨none,[(6,.n .i64 (-1:Int))],[]⟩
def yX (eG:Int)(eP:List (List aL))(eF:List Int)(eH:List aL)(bN:Int)(eZ:Bool)(aJ bo:Int):Option ((Int×Int)⊕((Int)⊕(Unit))) :=
 if (aJ == (0:Int))=true then
  if eZ=true then
   if (decide (bo<eG))=true then
    if (bo == bN)=true then
     some (.inr (.inr ()))
    else
     M6 eG eP eF eH bN eZ bo (len_ eI eF) aJ 0 >>= fun aK =>
     some (.inl (aK,J (bo+(1:Int))))
   else
    some (.inr (.inl aJ))
  else
   some (.inr (.inl aJ))
 else
  some (.inr (.inl aJ))
def IB (eG:Int)(eP:List (List aL))(eF:List Int)(eH:List aL)(bN:Int)(eZ:Bool)(aJ bo:Int):Option ((Int)⊕(Unit)):=iter (fun w:Int×Int=>yX eG eP eF eH bN eZ w.1 w.2) (aJ,bo)
theorem TY {eG:Int}{eP:List (List aL)}{eF:List Int}{eH:List aL}{bN:Int}{eZ:Bool}{aJ bo:Int}:bx (yX eG eP eF eH bN eZ aJ bo) (dP a7 63 0 72 [1,1,0,1,0,0] (GP eG eP eF eH bN eZ (aJ,bo)) (GP eG eP eF eH bN eZ) (MF eG eP eF eH bN eZ)):=by
 unfold yX
 exact .ite (fun h1 =>
  .ite (fun h2 =>
  (let t1:List bY:=[.ay (ai 4 (al (.U true) (ai 7 (al (.U true) []))))];
  have aS:=((.bg h1 h1 h2 h2 h2 h2 h2 h2 (.e1 h2)):cp _);
  .ite (fun ab =>
  .ite (fun au =>
  .ret (bf (t1.append [.U true,(I 3),.U true,(I 1),.aN [] [] (a6 [6])]) (aS.aG (.e2 ab au))))
  (fun au =>
  .ar fun aK aX =>
  .ret (bf (t1.append [.U true,(I 3),.U false,(I 6),.aN [] [] (a6 [0,1,2,7,8,40,41,42]),(Hn eG eP eF eH bN eZ bo (len_ eI eF) aK).e8,(I 3),.aN [] [] (a6 [0,1,2,7,8])]) (aS.aG (.bO ab au (Vp aX))))))
  (fun ab =>
  .ret (bf (t1.append [.U false,.aN [] [] (a6 [7])]) (aS.aG (.e1 ab))))))
  (fun h2 =>
  .ret (bf [.ay (ai 4 (al (.U true) (ai 1 (ck 6 (al (.U false) []))))),.U false,.aN [] [] (a6 [7])] (.bg h1 h1 h2 h2 h2 h2 h2 h2 (.e2 h2 cL)))))
  (fun h1 =>
  .ret (bf [.ay (ai 3 (ck 1 (al (.U false) (ai 1 (ck 6 (ai 1 [])))))),.U false,.aN [] [] (a6 [7])] (.bg h1 h1 cL cL cL cL cL cL (.e1 cL))))
theorem MN {eG:Int}{eP:List (List aL)}{eF:List Int}{eH:List aL}{bN:Int}{eZ:Bool}{aJ bo:Int}{r} (h:IB eG eP eF eH bN eZ aJ bo=some r):dQ a7 63 0 72 [1,1,0,1,0,0] (GP eG eP eF eH bN eZ) (MF eG eP eF eH bN eZ) (aJ,bo) r:=dR (fun _=>TY) h
def ub (gZ:pd)(bN:Int)(eZ:Bool):Option Int :=
 if 0≤bN∧bN<gZ.AH.length then
 gZ.AH[bN.toNat]? >>= fun x2 =>
 pI x2 >>= fun bh =>
 IB gZ.LZ gZ.r7 gZ.rj gZ.AH bN eZ bh 0 >>= fun cc =>
 match cc with
 | .inl l9=>(some l9)
 | .inr l9=>(some (-1))
 else none
theorem Wq {gZ:pd}{bN:Int}{eZ:Bool}:bx (ub gZ bN eZ) (fun r=>Con a7 72 [.d7 4 [(ur gZ)] 0 0,.n .i64 bN,.b eZ] [] (.n .i64 r) []):=by
 unfold ub
 exact .aY fun h1 =>
  .ar fun x2 ab =>
  .ar fun bh aA =>
  .ar fun cc bb =>
  (let t1:List bY:=[(I 1),.ay (ai 6 (al (.b2 (aM x2)) (al (bp 1 (.n .i64 bh) true) (ai 1 [])))),(I 1),.aN [] [] (a6 [0,1,2,7,8])];
  have aS:=((.dg h1.1 (cO aM h1.2) (bU aM ab) (sG bh aA) (b7.n .i64 bh)):cp _);
  (by
  rcases cc with l9|l9
  ·exact (.ret (bs (t1.append [.sub (.exit 0) [(7,.n .i64 l9)] [],(I 2)]) (aS.aG (.e1 (MN bb)))))
  ·exact (.ret (bs (t1.append [.sub (.ret) [(6,.n .i64 (-1:Int))] []]) (aS.aG (.e1 (MN bb)))))))
def uh (bR aJ:aL):Option aL :=
 sO bR >>= fun r1 =>
 if r1=true then
  sO aJ >>= fun bh =>
  if bh=true then
   hE bR.fk.cw aJ.hl >>= fun b4 =>
   hE bR.hl aJ.fk.cw >>= fun b5 =>
   nO (!(bR.fk.cJ == aJ.fk.cJ)) b4 b5 >>= fun c0 =>
   some c0
  else
   some (⟨(⟨false,([]:List Int)⟩:bm),([]:List Int)⟩:aL)
 else
  some (⟨(⟨false,([]:List Int)⟩:bm),([]:List Int)⟩:aL)
theorem Nk {bR aJ:aL}:bx (uh bR aJ) (fun r=>Con a7 95 [.agg (aM bR),.agg (aM aJ)] [] (.agg (aM r)) []):=by
 unfold uh
 exact .ar fun r1 h2 =>
  (have ae:=((.e2 (I6 r1 h2) (b7.b r1)):cp _);
  .ite (fun ab =>
  .ar fun bh aA =>
  (let t2:List bY:=[(I 3),.ay (ai 1 (al (bp 1 (.b r1) true) (ai 3 (al (bp 1 (.b bh) true) (ai 1 (al (.U false) []))))))];
  have fA:=ae.aG (.dU (cV ab) (cV ab) (I6 bh aA) (b7.b bh) (cV ab) (cV ab));
  .ite (fun aX =>
  .ar fun b4 bi =>
  .ar fun b5 cM =>
  .ar fun c0 eR =>
  .ret (bs (t2.append [.U false,.ay (ai 12 (al (bp 2 (.isl 1 (b4.map eI)) false) (ai 5 (al (bp 2 (.isl 1 (b5.map eI)) false) (al (bp 3 (.agg (aM c0)) false) (ai 1 []))))))]) (fA.aG (.c5 (cV aX) (oT b4 bi) (oT b5 cM) (zj c0 eR)))))
  (fun aX =>
  .ret (bs (t2.append [.U true,(I 2)]) (fA.aG (.e1 (cT aX))) (.br (.agg [.id,.jE 1,.jE 1]))))))
  (fun ab =>
  .ret (bs [(I 3),.ay (ai 1 (al (bp 1 (.b r1) true) (ai 2 (ck 3 (al (.U true) []))))),.U true,(I 2)] (ae.aG (.dg (cT ab) (cT ab) (cT ab) (cT ab) cv)) (.br (.agg [.id,.jE 1,.jE 1])))))
def zM (c3 et:bm):Option Int :=
 if c3.cJ=true then
  if et.cJ=true then
   pJ et.cw c3.cw >>= fun bd =>
   some bd
  else
   some (-1)
 else
  if et.cJ=true then
   some 1
  else
   pJ c3.cw et.cw >>= fun bd =>
   some bd
theorem WN {c3 et:bm}:bx (zM c3 et) (fun r=>Con a7 115 [.agg (aU c3),.agg (aU et)] [] (.n .i64 r) []):=by
 unfold zM
 exact .ite (fun h1 =>
  (let t1:List bY:=[(I 3),.ay (bq 6 (.U true) 1)];
  .ite (fun h2 =>
  .ar fun bd au =>
  .ret (bs (t1.append [.U false,.ay (ai 4 (ck 2 (al (.U false) (ai 1 [])))),.U false,(I 3),.U true,.ay (bq 4 (bp 2 (.n .i64 bd) true) 1)]) (.bg h1 h1 h1 h1 (cV h2) (cV h1) (cV h1) (cV h1) (.c5 cL h1 (w1 bd au) (b7.n .i64 bd)))))
  (fun h2 =>
  .ret (bs (t1.append [.U true,(I 1)]) (.dg h1 h1 h1 h1 (cT h2))))))
  (fun h1 =>
  (let t1:List bY:=[(I 3),.ay (ai 3 (ck 3 (al (.U false) (ai 1 [])))),.U false,.ay (bq 6 (.U true) 1)];
  have aS:=((.gJ h1 h1 h1 h1 cL (cT h1) (cT h1) (cT h1)):cp _);
  .ite (fun h2 =>
  .ret (bs (t1.append [.U true,(I 1)]) (aS.aG (.e1 h2))))
  (fun h2 =>
  .ar fun bd au =>
  .ret (bs (t1.append [.U false,(I 3),.U false,.ay (bq 4 (bp 2 (.n .i64 bd) true) 1)]) (aS.aG (.c5 h2 h1 (w1 bd au) (b7.n .i64 bd)))))))
def ui (bR aJ:aL):Option Int :=
 hE bR.fk.cw aJ.hl >>= fun r1 =>
 hI bR.fk.cJ r1 >>= fun bd =>
 hE aJ.fk.cw bR.hl >>= fun aK =>
 hI aJ.fk.cJ aK >>= fun b4 =>
 zM bd b4 >>= fun b5 =>
 some b5
theorem Nl {bR aJ:aL}:bx (ui bR aJ) (fun r=>Con a7 96 [.agg (aM bR),.agg (aM aJ)] [] (.n .i64 r) []):=by
 unfold ui
 exact .ar fun r1 h2 =>
  .ar fun bd au =>
  .ar fun aK aX =>
  .ar fun b4 bi =>
  .ar fun b5 cM =>
  .ret (bs [(I 3),.ay (ai 8 (al (bp 2 (.isl 1 (r1.map eI)) false) (al (bp 2 (.agg (aU bd)) false) (ai 8 (al (bp 2 (.isl 1 (aK.map eI)) false) (al (bp 2 (.agg (aU b4)) false) (al (bp 2 (.n .i64 b5) true) (ai 1 []))))))))] (.dU (oT r1 h2) (nN bd au) (oT aK aX) (nN b4 bi) (WN b5 cM) (b7.n .i64 b5)))
def Gx (eG:Int)(eP:List (List aL))(eF:List Int)(eH:List aL)(bN de:Int):(Int×Int×Bool×(List Int)×(List Int))→S:=fun (hQ,dV,aI,aH,bn)=>dl [(0,.d7 4 [[.n .i64 eG,.isl 1 (eP.map (en 3 aM)),.isl 1 (eF.map eI),.isl 3 (eH.map aM)]] 0 0),(1,.n .i64 bN),(5,.n .i64 hQ),(6,.ref 0 0 0 0),(14,.isl 1 (eP.map (en 3 aM))),(15,.n .i64 de),(16,.n .i64 dV)] [[ad.mk 3 [[.b aI,.isl 1 (aH.map eI),.isl 1 (bn.map eI)]] .live]]
def Mx (eG:Int)(eP:List (List aL))(eF:List Int)(eH:List aL)(bN de:Int):Int→dq
 | a=>⟨some 0,[(5,.n .i64 a)],[]⟩
def wm (eG:Int)(eP:List (List aL))(eF:List Int)(eH:List aL)(bN de hQ dV:Int)(aI:Bool)(aH bn:List Int):Option ((Int×Int×Bool×(List Int)×(List Int))⊕(Int)) :=
 if (decide (dV<de))=true then
  if 0≤dV∧dV<eP.length then
  eP[dV.toNat]? >>= fun aE =>
  if 0≤bN∧bN<aE.length then
  aE[bN.toNat]? >>= fun cn =>
  pI cn >>= fun cZ =>
  if (decide (cZ≤(0:Int)))=true then
   some (.inl (hQ,J (dV+(1:Int)),aI,aH,bn))
  else
   if 0≤(J ((len_ aM aE)-(1:Int)))∧(J ((len_ aM aE)-(1:Int)))<aE.length then
   aE[(J ((len_ aM aE)-(1:Int))).toNat]? >>= fun Lk =>
   uh Lk cn >>= fun f7 =>
   if (decide (hQ<(0:Int)))=true then
    some (.inl (dV,J (dV+(1:Int)),f7.fk.cJ,f7.fk.cw,f7.hl))
   else
    ui f7 (⟨(⟨aI,aH⟩:bm),bn⟩:aL) >>= fun gi =>
    if (decide (gi<(0:Int)))=true then
     some (.inl (dV,J (dV+(1:Int)),f7.fk.cJ,f7.fk.cw,f7.hl))
    else
     if (gi == (0:Int))=true then
      if 0≤dV∧dV<eF.length then
      eF[dV.toNat]? >>= fun Ll =>
      if 0≤hQ∧hQ<eF.length then
      eF[hQ.toNat]? >>= fun Lm =>
      if (decide (Ll<Lm))=true then
       some (.inl (dV,J (dV+(1:Int)),f7.fk.cJ,f7.fk.cw,f7.hl))
      else
       some (.inl (hQ,J (dV+(1:Int)),aI,aH,bn))
      else none
      else none
     else
      some (.inl (hQ,J (dV+(1:Int)),aI,aH,bn))
   else none
  else none
  else none
 else
  some (.inr hQ)
def Ip (eG:Int)(eP:List (List aL))(eF:List Int)(eH:List aL)(bN de hQ dV:Int)(aI:Bool)(aH bn:List Int):Option (Int):=iter (fun w:Int×Int×Bool×(List Int)×(List Int)=>wm eG eP eF eH bN de w.1 w.2.1 w.2.2.1 w.2.2.2.1 w.2.2.2.2) (hQ,dV,aI,aH,bn)
theorem TO {eG:Int}{eP:List (List aL)}{eF:List Int}{eH:List aL}{bN de hQ dV:Int}{aI:Bool}{aH bn:List Int}:bx (wm eG eP eF eH bN de hQ dV aI aH bn) (dP a7 73 0 73 [1,1,1,0,1,0,0] (Gx eG eP eF eH bN de (hQ,dV,aI,aH,bn)) (Gx eG eP eF eH bN de) (Mx eG eP eF eH bN de)):=by
 unfold wm
 exact .ite (fun h1 =>
  .aY fun h2 =>
  .ar fun aE au =>
  .aY fun aA =>
  .ar fun cn bb =>
  .ar fun cZ cj =>
  (let t1:List bY:=[(I 1),.U true,.ay (bq 2 (.b2 ((en 3 aM) aE)) 2),.ay (ai 3 (al (.b2 (aM cn)) (al (bp 1 (.n .i64 cZ) true) (ai 1 []))))];
  have aS:=((.bg h1 h2.1 (cO (en 3 aM) h2.2) (bU (en 3 aM) au) aA.1 (cO aM aA.2) (bU aM bb) (sG cZ cj) (.e1 (b7.n .i64 cZ))):cp _);
  .ite (fun cM =>
  .ret (bf (t1.append [.U true,(I 2),.aN [0] [.box [.id,.id,.id]] (a6 [0,1,5,6,14,15,16])]) (aS.aG (.e1 cM))))
  (fun cM =>
  .aY fun e6 =>
  .ar fun Lk el =>
  .ar fun f7 fO =>
  (let t3:List bY:=t1.append [.U false,.ay (ai 5 (al (.b2 (aM Lk)) (ai 3 (al (.b2 (aM cn)) (al (bp 2 (.agg (aM f7)) false) (ai 2 []))))))];
  have eO:=aS.aG (.gJ cM e6.1 (cO aM e6.2) (bU aM el) aA.1 (cO aM aA.2) (bU aM bb) (Nk f7 fO));
  .ite (fun hO =>
  .ret (bf (t3.append [.ay (ai 3 (ck 4 (al (.U true) (ai 1 (ck 5 (ai 15 (ck 1 (ai 1 [])))))))),.U true,(I 2),(I 2),(I 2),.aN [0] [.box [.id,.id,.id]] (a6 [0,1,5,6,14,15,16])]) (eO.aG (.bg hO hO hO hO hO cv cv cv (.c5 cv cv cv cv)))))
  (fun hO =>
  .ar fun gi ho =>
  (have ma:=eO.aG (.eE hO hO hO (Nl gi ho) (b7.n .i64 gi) hO hO);
  .ite (fun gr =>
  .ret (bf (t3.append [.ay (ai 5 (al (bp 2 (.n .i64 gi) true) (ai 1 (al (.U false) (ai 1 (ck 5 (ai 15 (ck 1 (al (.U true) []))))))))),.U true,(I 2),(I 2),(I 2),.aN [0] [.box [.id,.id,.id]] (a6 [0,1,5,6,14,15,16])]) (ma.aG (.gJ gr gr gr gr gr gr gr cv))))
  (fun gr =>
  (have kF:=ma.aG (.eE gr gr gr (Nl gi ho) (b7.n .i64 gi) gr gr);
  .ite (fun fh =>
  .aY fun gS =>
  .ar fun Ll mR =>
  .aY fun yz =>
  .ar fun Lm BF =>
  (let t7:List bY:=t3.append [.ay (ai 5 (al (bp 2 (.n .i64 gi) true) (ai 1 (al (.U false) (ai 3 (al (bp 2 (.n .i64 gi) true) (ai 8 (al (.b2 (eI Ll)) (ai 6 (al (.b2 (eI Lm)) (ai 1 (al (.U true) (al (.U false) [])))))))))))))];
  have mu:=kF.aG (.bg fh fh fh fh fh fh gS.1 (cO eI gS.2) (.bg fh (bU eI mR) fh fh fh fh fh fh (.gJ yz.1 (cO eI yz.2) fh (bU eI BF) fh gr fh gr)));
  .ite (fun sk =>
  .ret (bf (t7.append [.U true,(I 2),(I 2),(I 2),.aN [0] [.box [.id,.id,.id]] (a6 [0,1,5,6,14,15,16])]) (mu.aG (.e1 sk))))
  (fun sk =>
  .ret (bf (t7.append [.U false,(I 2),.aN [0] [.box [.id,.id,.id]] (a6 [0,1,5,6,14,15,16])]) (mu.aG (.e1 sk))))))
  (fun fh =>
  .ret (bf (t3.append [.ay (ai 5 (al (bp 2 (.n .i64 gi) true) (ai 1 (al (.U false) (ai 3 (al (bp 2 (.n .i64 gi) true) (ai 2 (ck 15 (al (.U false) (al (.U false) [])))))))))),.U false,(I 2),.aN [0] [.box [.id,.id,.id]] (a6 [0,1,5,6,14,15,16])]) (kF.aG (.bg fh fh fh fh fh fh fh fh (.bg fh fh fh fh fh fh fh gr (.bO fh gr cL))))))))))))))
  (fun h1 =>
  .ret (bf [(I 1),.U false,.aN [] [] (a6 [5])] (.e1 h1)))
theorem U8 {eG:Int}{eP:List (List aL)}{eF:List Int}{eH:List aL}{bN de hQ dV:Int}{aI:Bool}{aH bn:List Int}{r} (h:Ip eG eP eF eH bN de hQ dV aI aH bn=some r):dQ a7 73 0 73 [1,1,1,0,1,0,0] (Gx eG eP eF eH bN de) (Mx eG eP eF eH bN de) (hQ,dV,aI,aH,bn) r:=dR (fun _=>TO) h
def zu (gZ:pd)(bN:Int):Option Int :=
 Ip gZ.LZ gZ.r7 gZ.rj gZ.AH bN (len_ (en 3 aM) gZ.r7) (-1) 0 false ([]:List Int) ([]:List Int) >>= fun r1 =>
 some r1
theorem V4 {gZ:pd}{bN:Int}:bx (zu gZ bN) (fun r=>Con a7 73 [.d7 4 [(ur gZ)] 0 0,.n .i64 bN] [] (.n .i64 r) []):=by
 unfold zu
 exact .ar fun r1 h2 =>
  .ret (bs [(I 1),(I 1),(I 3),(I 6),.aN [3] [.box [.id,.jE 1,.jE 1]] (a6 [0,1,5,6,14,15,16]),.sub (.exit 0) [(5,.n .i64 r1)] [],(I 2)] (.e1 (U8 h2)))
def uj (bR:aL):Option aL :=
 hI (!bR.fk.cJ) bR.fk.cw >>= fun r1 =>
 if (([]:List Int)++bR.hl).length*8≤140737488355328 then
 some (⟨r1,([]:List Int)++bR.hl⟩:aL)
 else none
theorem Nm {bR:aL}:bx (uj bR) (fun r=>Con a7 116 [.agg (aM bR)] [] (.agg (aM r)) []):=by
 unfold uj
 exact .ar fun r1 h2 =>
  .aY fun ab =>
  .ret (let q1:=(([]:List Int)++bR.hl);let q2:=cR eI bR.hl;bs [(I 2),.ay (ai 7 (al (bp 2 (.agg (aU r1)) false) (bq 3 (.aG (q1.length)) 2)))] (.eE (nN r1 h2) (m1 (show []=(([]:List Int)).map eI from rfl) (eY Int)) (lD (eY Int) q2:q1.length=0+(bR.hl.map eI).length) ab (kO (hZ (show []=(([]:List Int)).map eI from rfl) (eY Int) q2) (dF q1)) (kZ (hZ (show []=(([]:List Int)).map eI from rfl) (eY Int) q2) (dF q1)) (du aO q1)) (.br (.agg [.id,.id,.ek (q1.map eI)])))
def sL (bR aJ:aL):Option aL :=
 hE bR.fk.cw aJ.fk.cw >>= fun r1 =>
 hE bR.hl aJ.hl >>= fun bd =>
 nO (!(bR.fk.cJ == aJ.fk.cJ)) r1 bd >>= fun aK =>
 some aK
theorem Nn {bR aJ:aL}:bx (sL bR aJ) (fun r=>Con a7 117 [.agg (aM bR),.agg (aM aJ)] [] (.agg (aM r)) []):=by
 unfold sL
 exact .ar fun r1 h2 =>
  .ar fun bd au =>
  .ar fun aK aX =>
  .ret (bs [(I 3),.ay (ai 13 (al (bp 2 (.isl 1 (r1.map eI)) false) (ai 4 (al (bp 2 (.isl 1 (bd.map eI)) false) (al (bp 3 (.agg (aM aK)) false) (ai 1 []))))))] (.bO (oT r1 h2) (oT bd au) (zj aK aX)))
def F1 (kH lB hJ ee:Nat)(gP:Int)(ap:List aL)(jN:Bool)(jL jJ:List Int):(Int×(List aL))→S:=fun (fw,aa)=>dl [(0,.bk 0 0 kH lB),(1,.bk 1 0 hJ ee),(7,.ref 2 0 0 0),(19,.n .i64 gP),(20,.n .i64 fw)] [(ae 3 aM aa),(ae 3 aM ap),[ad.mk 3 [[.b jN,.isl 1 (jL.map eI),.isl 1 (jJ.map eI)]] .live]]
def Mq (kH lB hJ ee:Nat)(gP:Int)(ap:List aL)(jN:Bool)(jL jJ:List Int):(List aL)→dq
 | a=>⟨some 0,[],[(ae 3 aM a),(ae 3 aM ap)]⟩
def wa (kH lB hJ ee:Nat)(gP:Int)(ap:List aL)(jN:Bool)(jL jJ:List Int)(fw:Int)(aa:List aL):Option ((Int×(List aL))⊕((List aL))) :=
 if (decide (fw<gP))=true then
  if 0≤fw∧fw<(ee:Nat) then
  ap[(hJ+fw.toNat)]? >>= fun aE =>
  pI aE >>= fun aK =>
  if (aK != (0:Int))=true then
   if 0≤fw∧fw<(lB:Nat) then
   aa[(kH+fw.toNat)]? >>= fun ep =>
   sL (⟨(⟨jN,jL⟩:bm),jJ⟩:aL) aE >>= fun c0 =>
   q5 ep c0 >>= fun ex =>
   if (kH+fw.toNat)<aa.length then
   some (.inl (J (fw+(1:Int)),aa.set (kH+fw.toNat) ex))
   else none
   else none
  else
   some (.inl (J (fw+(1:Int)),aa))
  else none
 else
  some (.inr aa)
def HP (kH lB hJ ee:Nat)(gP:Int)(ap:List aL)(jN:Bool)(jL jJ:List Int)(fw:Int)(aa:List aL):Option ((List aL)):=iter (fun w:Int×(List aL)=>wa kH lB hJ ee gP ap jN jL jJ w.1 w.2) (fw,aa)
theorem Tn {kH lB hJ ee:Nat}{gP:Int}{ap:List aL}{jN:Bool}{jL jJ:List Int}{fw:Int}{aa:List aL}:bx (wa kH lB hJ ee gP ap jN jL jJ fw aa) (dP a7 44 2 97 [1,1,1,1,0,0] (F1 kH lB hJ ee gP ap jN jL jJ (fw,aa)) (F1 kH lB hJ ee gP ap jN jL jJ) (Mq kH lB hJ ee gP ap jN jL jJ)):=by
 unfold wa
 exact .ite (fun h1 =>
  .aY fun h2 =>
  .ar fun aE au =>
  .ar fun aK aX =>
  (let t1:List bY:=[(I 1),.U true,(I 2),.ay (ai 3 (al (.b2 (aM aE)) (al (bp 1 (.n .i64 aK) true) (ai 1 []))))];
  have aS:=((.dU h1 h2.1 h2.2 (bU aM au) (sG aK aX) (b7.n .i64 aK)):cp _);
  .ite (fun bb =>
  .aY fun bi =>
  .ar fun ep cM =>
  .ar fun c0 eR =>
  .ar fun ex ew =>
  .aY fun fO =>
  .ret (bf (t1.append [.U true,.ay (ai 5 (al (.b2 (aM ep)) (ai 4 (al (.b2 (aM aE)) (al (bp 2 (.agg (aM c0)) false) (al (bp 2 (.agg (aM ex)) false) (ai 1 (al .fM [])))))))),(I 2),.aN [0,1,2] [.cu (ae 3 aM (aa.set (kH+fw.toNat) ex)),.pure,.box [.id,.id,.id]] (a6 [0,1,7,19,20])]) (aS.aG (.bg bb bi.1 bi.2 (bU aM cM) h2.1 h2.2 (bU aM au) (Nn c0 eR) (.gJ (CS ex ew) bi.1 bi.2 (hz aM fO) (ht 3) (cU 3 .live (gD (cR aM aa) (kH+fw.toNat) ex)) (aF 3 .live eL (aa.set (kH+fw.toNat) ex)) (aF 3 .live eL ap))))))
  (fun bb =>
  .ret (bf (t1.append [.U false,(I 2),.aN [0,1,2] [.pure,.pure,.box [.id,.id,.id]] (a6 [0,1,7,19,20])]) (aS.aG (.bO bb (aF 3 .live eL aa) (aF 3 .live eL ap)))))))
  (fun h1 =>
  .ret (bf [(I 1),.U false,.aN [0,1] [.pure,.pure] []] (.bO h1 (aF 3 .live eL aa) (aF 3 .live eL ap))))
theorem UK {kH lB hJ ee:Nat}{gP:Int}{ap:List aL}{jN:Bool}{jL jJ:List Int}{fw:Int}{aa:List aL}{r} (h:HP kH lB hJ ee gP ap jN jL jJ fw aa=some r):dQ a7 44 2 97 [1,1,1,1,0,0] (F1 kH lB hJ ee gP ap jN jL jJ) (Mq kH lB hJ ee gP ap jN jL jJ) (fw,aa) r:=dR (fun _=>Tn) h
def zb (bo:Int)(kH lB hJ ee:Nat)(fy fb:List aL):Option (List aL) :=
 if 0≤bo∧bo<(lB:Nat) then
 fy[(kH+bo.toNat)]? >>= fun x2 =>
 pI x2 >>= fun bh =>
 if (bh == (0:Int))=true then
  some fy
 else
  uj x2 >>= fun b4 =>
  HP kH lB hJ ee ((lB:Nat):Int) fb b4.fk.cJ b4.fk.cw b4.hl 0 fy >>= fun b5 =>
  some b5
 else none
theorem Vq {bo:Int}{kH lB hJ ee:Nat}{fy fb:List aL}:bx (zb bo kH lB hJ ee fy fb) (fun a=>Con a7 97 (RB 0 0 kH lB 1 0 hJ ee bo) [(ae 3 aM fy),(ae 3 aM fb)] (.dS []) [(ae 3 aM a),(ae 3 aM fb)]):=by
 unfold zb
 exact .aY fun h1 =>
  .ar fun x2 ab =>
  .ar fun bh aA =>
  (let t1:List bY:=[.ay (bq 3 (.b2 (aM x2)) 2),.ay (bq 1 (bp 1 (.n .i64 bh) true) 1)];
  have aS:=((.dg h1.1 h1.2 (bU aM ab) (sG bh aA) (b7.n .i64 bh)):cp _);
  .ite (fun aX =>
  .ret (lQ (t1.append [.U true]) [0,1] [.pure,.pure] (aS.aG (.bO aX (aF 3 .live eL fy) (aF 3 .live eL fb)))))
  (fun aX =>
  .ar fun b4 bi =>
  .ar fun b5 cM =>
  .ret (lQ (t1.append [.U false,.ay (bq 1 (bp 1 (.agg (aM b4)) false) 2),(I 3),.aN [0,1,13] [.pure,.pure,.box [.id,.id,.id]] (a6 [0,1,7,19,20]),.sub (.exit 0) [] [(ae 3 aM b5),(ae 3 aM fb)]]) [0,1] [.pure,.pure] (aS.aG (.eE aX (Nm b4 bi) (aF 3 .live eL fy) (aF 3 .live eL fb) (UK cM) (aF 3 .live eL b5) (aF 3 .live eL fb))))))
def FK (hJ ee:Nat)(gP:Int)(ap:List aL)(jN:Bool)(jL jJ:List Int):(Int×(List aL))→S:=fun (fw,aa)=>dl [(0,.bk 0 0 0 aa.length),(1,.bk 1 0 hJ ee),(7,.ref 2 0 0 0),(19,.n .i64 gP),(20,.n .i64 fw)] [(ae 3 aM aa),(ae 3 aM ap),[ad.mk 3 [[.b jN,.isl 1 (jL.map eI),.isl 1 (jJ.map eI)]] .live]]
def Ml (hJ ee:Nat)(gP:Int)(ap:List aL)(jN:Bool)(jL jJ:List Int):(List aL)→dq
 | a=>⟨some 0,[],[(ae 3 aM a),(ae 3 aM ap)]⟩
def vV (hJ ee:Nat)(gP:Int)(ap:List aL)(jN:Bool)(jL jJ:List Int)(fw:Int)(aa:List aL):Option ((Int×(List aL))⊕((List aL))) :=
 if (decide (fw<gP))=true then
  if 0≤fw∧fw<(ee:Nat) then
  ap[(hJ+fw.toNat)]? >>= fun aE =>
  pI aE >>= fun aK =>
  if (aK != (0:Int))=true then
   if 0≤fw∧fw<(aa.length:Nat) then
   aa[(0+fw.toNat)]? >>= fun ep =>
   sL (⟨(⟨jN,jL⟩:bm),jJ⟩:aL) aE >>= fun c0 =>
   q5 ep c0 >>= fun ex =>
   if (0+fw.toNat)<aa.length then
   some (.inl (J (fw+(1:Int)),aa.set (0+fw.toNat) ex))
   else none
   else none
  else
   some (.inl (J (fw+(1:Int)),aa))
  else none
 else
  some (.inr aa)
def Ho (hJ ee:Nat)(gP:Int)(ap:List aL)(jN:Bool)(jL jJ:List Int)(fw:Int)(aa:List aL):Option ((List aL)):=iter (fun w:Int×(List aL)=>vV hJ ee gP ap jN jL jJ w.1 w.2) (fw,aa)
theorem Tc {hJ ee:Nat}{gP:Int}{ap:List aL}{jN:Bool}{jL jJ:List Int}{fw:Int}{aa:List aL}:bx (vV hJ ee gP ap jN jL jJ fw aa) (dP a7 44 2 97 [1,1,1,1,0,0] (FK hJ ee gP ap jN jL jJ (fw,aa)) (FK hJ ee gP ap jN jL jJ) (Ml hJ ee gP ap jN jL jJ)):=by
 unfold vV
 exact .ite (fun h1 =>
  .aY fun h2 =>
  .ar fun aE au =>
  .ar fun aK aX =>
  (let t1:List bY:=[(I 1),.U true,(I 2),.ay (ai 3 (al (.b2 (aM aE)) (al (bp 1 (.n .i64 aK) true) (ai 1 []))))];
  have aS:=((.dU h1 h2.1 h2.2 (bU aM au) (sG aK aX) (b7.n .i64 aK)):cp _);
  .ite (fun bb =>
  .aY fun bi =>
  .ar fun ep cM =>
  .ar fun c0 eR =>
  .ar fun ex ew =>
  .aY fun fO =>
  .ret (bf (t1.append [.U true,.ay (ai 5 (al (.b2 (aM ep)) (ai 4 (al (.b2 (aM aE)) (al (bp 2 (.agg (aM c0)) false) (al (bp 2 (.agg (aM ex)) false) (ai 1 (al .fM [])))))))),(I 2),.aN [0,1,2] [.cu (ae 3 aM (aa.set (0+fw.toNat) ex)),.pure,.box [.id,.id,.id]] [(0,fV ((aa.set (0+fw.toNat) ex).length)),(1,ii),(7,ii),(19,ii),(20,ii)]]) (aS.aG (.bg bb bi.1 bi.2 (bU aM cM) h2.1 h2.2 (bU aM au) (Nn c0 eR) (.bg (CS ex ew) bi.1 bi.2 (hz aM fO) (ht 3) (cU 3 .live (gD (cR aM aa) (0+fw.toNat) ex)) (aF 3 .live eL (aa.set (0+fw.toNat) ex)) (aF 3 .live eL ap) (.e1 (hP (dF aa) (0+fw.toNat) ex)))))))
  (fun bb =>
  .ret (bf (t1.append [.U false,(I 2),.aN [0,1,2] [.pure,.pure,.box [.id,.id,.id]] (a6 [0,1,7,19,20])]) (aS.aG (.bO bb (aF 3 .live eL aa) (aF 3 .live eL ap)))))))
  (fun h1 =>
  .ret (bf [(I 1),.U false,.aN [0,1] [.pure,.pure] []] (.bO h1 (aF 3 .live eL aa) (aF 3 .live eL ap))))
theorem Us {hJ ee:Nat}{gP:Int}{ap:List aL}{jN:Bool}{jL jJ:List Int}{fw:Int}{aa:List aL}{r} (h:Ho hJ ee gP ap jN jL jJ fw aa=some r):dQ a7 44 2 97 [1,1,1,1,0,0] (FK hJ ee gP ap jN jL jJ) (Ml hJ ee gP ap jN jL jJ) (fw,aa) r:=dR (fun _=>Tc) h
def y6 (bo:Int)(hJ ee:Nat)(fy fb:List aL):Option (List aL) :=
 if 0≤bo∧bo<(fy.length:Nat) then
 fy[(0+bo.toNat)]? >>= fun x2 =>
 pI x2 >>= fun bh =>
 if (bh == (0:Int))=true then
  some fy
 else
  uj x2 >>= fun b4 =>
  Ho hJ ee ((fy.length:Nat):Int) fb b4.fk.cJ b4.fk.cw b4.hl 0 fy >>= fun b5 =>
  some b5
 else none
theorem U9 {bo:Int}{hJ ee:Nat}{fy fb:List aL}:bx (y6 bo hJ ee fy fb) (fun a=>Con a7 97 (RB 0 0 0 fy.length 1 0 hJ ee bo) [(ae 3 aM fy),(ae 3 aM fb)] (.dS []) [(ae 3 aM a),(ae 3 aM fb)]):=by
 unfold y6
 exact .aY fun h1 =>
  .ar fun x2 ab =>
  .ar fun bh aA =>
  (let t1:List bY:=[.ay (bq 3 (.b2 (aM x2)) 2),.ay (bq 1 (bp 1 (.n .i64 bh) true) 1)];
  have aS:=((.dg h1.1 h1.2 (bU aM ab) (sG bh aA) (b7.n .i64 bh)):cp _);
  .ite (fun aX =>
  .ret (lQ (t1.append [.U true]) [0,1] [.pure,.pure] (aS.aG (.bO aX (aF 3 .live eL fy) (aF 3 .live eL fb)))))
  (fun aX =>
  .ar fun b4 bi =>
  .ar fun b5 cM =>
  .ret (lQ (t1.append [.U false,.ay (bq 1 (bp 1 (.agg (aM b4)) false) 2),(I 3),.aN [0,1,13] [.pure,.pure,.box [.id,.id,.id]] (a6 [0,1,7,19,20]),.sub (.exit 0) [] [(ae 3 aM b5),(ae 3 aM fb)]]) [0,1] [.pure,.pure] (aS.aG (.eE aX (Nm b4 bi) (aF 3 .live eL fy) (aF 3 .live eL fb) (Us cM) (aF 3 .live eL b5) (aF 3 .live eL fb))))))
def F2 (bR bo c8 eb:Int)(cd:List bt)(cy:List Int)(cz:List aL)(bF:Bool)(dG gK:List Int):(Int×(List (List aL)))→S:=fun (c9,c7)=>dl [(0,.ref 0 0 0 0),(1,.n .i64 bR),(2,.n .i64 bo),(6,.ref 1 0 0 0),(26,.n .i64 c8),(27,.n .i64 c9)] [(ad.mk 4 [(gn eb 0 1 0 cd.length 0 2 0 cy.length 0 3 0 cz.length)] .live::ad.mk 1 (cd.map (bj 0 4 3)) .live::ad.mk 1 (cy.map eI) .live::ad.mk 3 (cz.map aM) .live::(b3 3 aM c7)),[ad.mk 3 [[.b bF,.isl 1 (dG.map eI),.isl 1 (gK.map eI)]] .live]]
def Gg (bR bo c8 eb:Int)(cd:List bt)(cy:List Int)(cz:List aL)(bF:Bool)(dG gK:List Int):(List (List aL))→dq
 | a=>⟨some 0,[(0,.ref 0 0 0 0),(1,.n .i64 bR),(2,.n .i64 bo)],[(ad.mk 4 [(gn eb 0 1 0 cd.length 0 2 0 cy.length 0 3 0 cz.length)] .live::ad.mk 1 (cd.map (bj 0 4 3)) .live::ad.mk 1 (cy.map eI) .live::ad.mk 3 (cz.map aM) .live::(b3 3 aM a))]⟩
def wb (bR bo c8 eb:Int)(cd:List bt)(cy:List Int)(cz:List aL)(bF:Bool)(dG gK:List Int)(c9:Int)(c7:List (List aL)):Option ((Int×(List (List aL)))⊕((List (List aL)))) :=
 if (decide (c9<c8))=true then
  if 0≤bR∧bR<(cd.length:Nat) then
  cd[(0+bR.toNat)]? >>= fun aE =>
  aE >>= fun lz =>
  c7[lz.1]? >>= fun ix =>
  if 0≤c9∧c9<(lz.2:Nat) then
  ix[(0+c9.toNat)]? >>= fun iL =>
  uh iL (⟨(⟨bF,dG⟩:bm),gK⟩:aL) >>= fun d8 =>
  some (.inl (J (c9+(1:Int)),c7.set lz.1 (ix.set (0+c9.toNat) d8)))
  else none
  else none
 else
  some (.inr c7)
def HQ (bR bo c8 eb:Int)(cd:List bt)(cy:List Int)(cz:List aL)(bF:Bool)(dG gK:List Int)(c9:Int)(c7:List (List aL)):Option ((List (List aL))):=iter (fun w:Int×(List (List aL))=>wb bR bo c8 eb cd cy cz bF dG gK w.1 w.2) (c9,c7)
theorem To {bR bo c8 eb:Int}{cd:List bt}{cy:List Int}{cz:List aL}{bF:Bool}{dG gK:List Int}{c9:Int}{c7:List (List aL)}:bx (wb bR bo c8 eb cd cy cz bF dG gK c9 c7) (dP a7 100 1 74 [1,0,1,0,0] (F2 bR bo c8 eb cd cy cz bF dG gK (c9,c7)) (F2 bR bo c8 eb cd cy cz bF dG gK) (Gg bR bo c8 eb cd cy cz bF dG gK)):=by
 unfold wb
 exact .ite (fun h1 =>
  .aY fun h2 =>
  .ar fun aE au =>
  .ar fun lz aX =>
  .ar fun ix bi =>
  .aY fun cj =>
  .ar fun iL e6 =>
  .ar fun d8 el =>
  .ret (let q1:=gn eb 0 1 0 cd.length 0 2 0 cy.length 0 3 0 cz.length;let q2:=jU (f9 .live 3 aM c7) iZ bi;let bK:=cB [0,1];bf [(I 1),.U true,(I 2),.ay (ai 6 (al (.b2 ((bj 0 4 3) aE)) (ai 7 (al (.b2 ((bj 0 4 3) aE)) (ai 1 (al (.kc 44 (.bk 0 (lz.1+4) 0 lz.2) (.gb (ad.mk 3 (ix.map aM) .live) [])) (al (.gb (ad.mk 3 (ix.map aM) .live) (aM iL)) (ai 1 (al (bp 2 (.agg (aM d8)) false) (al (.kc 36 (.bk 0 (lz.1+4) 0 lz.2) (.gb (ad.mk 3 (ix.map aM) .live) [])) (al (.gb (ad.mk 3 (ix.map aM) .live) (aM iL)) []))))))))))),(I 2),.aN [0,1] [.bB (ad.mk 4 [q1] .live::ad.mk 1 (cd.map (bj 0 4 3)) .live::ad.mk 1 (cy.map eI) .live::ad.mk 3 (cz.map aM) .live::(b3 3 aM (c7.set lz.1 (ix.set (0+c9.toNat) d8)))),.box [.id,.id,.id]] (a6 [0,1,2,6,26,27])] (.bg h1 h2.1 h2.2 (bU (bj 0 4 3) au) h2.1 h2.2 (bU (bj 0 4 3) au) (lX (dL:=0) (c:=4) (sz:=3) aX) (.bg q2 cj.1 cj.2 q2 (bU aM e6) (Nk d8 el) (lX (dL:=0) (c:=4) (sz:=3) aX) q2 (.dg cj.1 cj.2 q2 (bU aM e6) (c2 (show ad.mk 4 [q1] .live=gC bK (ad.mk 4 [q1] .live) from rfl) (c2 (kY bK 0 0 4 3 rfl cd) (c2 (fT bK 1 ky cy) (c2 (fT bK 3 fe cz) (m2 (b6:=bK) (oW (f9 .live 3 aM c7) lz.1 (qk (cR aM ix) (0+c9.toNat) d8 (rfl:(setCells (aM iL) 0 (aM d8))=aM d8))) (mf fe)))))))))))
  (fun h1 =>
  .ret (let bW:=gn eb 0 1 0 cd.length 0 2 0 cy.length 0 3 0 cz.length;let cD:=cB [0];bf [(I 1),.U false,.aN [0] [.bB (ad.mk 4 [bW] .live::ad.mk 1 (cd.map (bj 0 4 3)) .live::ad.mk 1 (cy.map eI) .live::ad.mk 3 (cz.map aM) .live::(b3 3 aM c7))] (a6 [0,1,2])] (.e2 h1 (c2 (show ad.mk 4 [bW] .live=gC cD (ad.mk 4 [bW] .live) from rfl) (c2 (kY cD 0 0 4 3 rfl cd) (c2 (fT cD 1 ky cy) (c2 (fT cD 3 fe cz) (dz cD 3 fe c7))))))))
theorem UL {bR bo c8 eb:Int}{cd:List bt}{cy:List Int}{cz:List aL}{bF:Bool}{dG gK:List Int}{c9:Int}{c7:List (List aL)}{r} (h:HQ bR bo c8 eb cd cy cz bF dG gK c9 c7=some r):dQ a7 100 1 74 [1,0,1,0,0] (F2 bR bo c8 eb cd cy cz bF dG gK) (Gg bR bo c8 eb cd cy cz bF dG gK) (c9,c7) r:=dR (fun _=>To) h
def F3 (bR bo oz eb:Int)(cd:List bt)(cy:List Int)(cz:List aL):(Int×(List (List aL)))→S:=fun (nr,c7)=>dl [(0,.ref 0 0 0 0),(1,.n .i64 bR),(2,.n .i64 bo),(56,.n .i64 oz),(57,.n .i64 nr)] [(ad.mk 4 [(gn eb 0 1 0 cd.length 0 2 0 cy.length 0 3 0 cz.length)] .live::ad.mk 1 (cd.map (bj 0 4 3)) .live::ad.mk 1 (cy.map eI) .live::ad.mk 3 (cz.map aM) .live::(b3 3 aM c7))]
def Gh (bR bo oz eb:Int)(cd:List bt)(cy:List Int)(cz:List aL):(List (List aL))→dq
 | a=>⟨some 2,[(0,.ref 0 0 0 0),(1,.n .i64 bR),(2,.n .i64 bo)],[(ad.mk 4 [(gn eb 0 1 0 cd.length 0 2 0 cy.length 0 3 0 cz.length)] .live::ad.mk 1 (cd.map (bj 0 4 3)) .live::ad.mk 1 (cy.map eI) .live::ad.mk 3 (cz.map aM) .live::(b3 3 aM a))]⟩
def wc (bR bo oz eb:Int)(cd:List bt)(cy:List Int)(cz:List aL)(nr:Int)(c7:List (List aL)):Option ((Int×(List (List aL)))⊕((List (List aL)))) :=
 if (decide (nr<oz))=true then
  if (nr != bR)=true then
   if 0≤nr∧nr<(cd.length:Nat) then
   cd[(0+nr.toNat)]? >>= fun f8 =>
   if 0≤bR∧bR<(cd.length:Nat) then
   cd[(0+bR.toNat)]? >>= fun fi =>
   f8 >>= fun lT =>
   fi >>= fun n7 =>
   c7[lT.1]? >>= fun lf =>
   c7[n7.1]? >>= fun j8 =>
   if (lT.1+4)≠(n7.1+4) then
   zb bo 0 lT.2 0 n7.2 lf j8 >>= fun e7 =>
   some (.inl (J (nr+(1:Int)),(c7.set lT.1 e7).set n7.1 j8))
   else none
   else none
   else none
  else
   some (.inl (J (nr+(1:Int)),c7))
 else
  some (.inr c7)
def HR (bR bo oz eb:Int)(cd:List bt)(cy:List Int)(cz:List aL)(nr:Int)(c7:List (List aL)):Option ((List (List aL))):=iter (fun w:Int×(List (List aL))=>wc bR bo oz eb cd cy cz w.1 w.2) (nr,c7)
theorem Tp {bR bo oz eb:Int}{cd:List bt}{cy:List Int}{cz:List aL}{nr:Int}{c7:List (List aL)}:bx (wc bR bo oz eb cd cy cz nr c7) (dP a7 100 1 74 [1,1,0,1,0,0] (F3 bR bo oz eb cd cy cz (nr,c7)) (F3 bR bo oz eb cd cy cz) (Gh bR bo oz eb cd cy cz)):=by
 unfold wc
 exact .ite (fun h1 =>
  (let t1:List bY:=[(I 1),.U true,(I 2),(I 3)];
  .ite (fun h2 =>
  .aY fun ab =>
  .ar fun f8 aA =>
  .aY fun aX =>
  .ar fun fi bi =>
  .ar fun lT cM =>
  .ar fun n7 eR =>
  .ar fun lf ew =>
  .ar fun j8 hO =>
  .aY fun hn =>
  .ar fun e7 gr =>
  .ret (let q1:=gn eb 0 1 0 cd.length 0 2 0 cy.length 0 3 0 cz.length;let q2:=cB [0];bf (t1.append [.U true,.ay (ai 6 (al (.b2 ((bj 0 4 3) f8)) (ai 6 (al (.b2 ((bj 0 4 3) fi)) (ai 1 (al (.kc 69 (.bk 0 (lT.1+4) 0 lT.2) (.kc 76 (.bk 0 (n7.1+4) 0 n7.2) (.call {aZ:=[.ak 0 (lT.1+4) (ad.mk 3 (lf.map aM) .live),.ak 0 (n7.1+4) (ad.mk 3 (j8.map aM) .live)],dm:=[.pure,.pure],ac:=[.br (.dh (.at_ 0 0 lT.2)),.br (.dh (.at_ 1 0 n7.2)),ii],r:= .dS [],fv:=[(ae 3 aM e7),(ae 3 aM j8)],ic:=ii,kk:=[.pure,.pure],fH:=[0],fz:=false}))) [])))))),(I 2),.aN [0] [.bB (ad.mk 4 [q1] .live::ad.mk 1 (cd.map (bj 0 4 3)) .live::ad.mk 1 (cy.map eI) .live::ad.mk 3 (cz.map aM) .live::(b3 3 aM ((c7.set lT.1 e7).set n7.1 j8)))] (a6 [0,1,2,56,57])]) (.bg h1 h2 ab.1 ab.2 (bU (bj 0 4 3) aA) aX.1 aX.2 (bU (bj 0 4 3) bi) (.bg (lX (dL:=0) (c:=4) (sz:=3) cM) (lX (dL:=0) (c:=4) (sz:=3) eR) hn (rfl:la [.ak 0 (lT.1+4) (ad.mk 3 (lf.map aM) .live),.ak 0 (n7.1+4) (ad.mk 3 (j8.map aM) .live)] 0 0=some (0,(lT.1+4))) (rfl:lT.2=lT.2) (rfl:la [.ak 0 (lT.1+4) (ad.mk 3 (lf.map aM) .live),.ak 0 (n7.1+4) (ad.mk 3 (j8.map aM) .live)] 1 0=some (0,(n7.1+4))) (rfl:n7.2=n7.2) (jU (f9 .live 3 aM c7) iZ ew) (.eE (ij 3 eL lf) (jU (f9 .live 3 aM c7) iZ hO) (ij 3 eL j8) (ij 3 eL e7) (ij 3 eL j8) (Vq e7 gr) (c2 (show ad.mk 4 [q1] .live=gC q2 (ad.mk 4 [q1] .live) from rfl) (c2 (kY q2 0 0 4 3 rfl cd) (c2 (fT q2 1 ky cy) (c2 (fT q2 3 fe cz) (m2 (b6:=q2) (oW (oW (f9 .live 3 aM c7) lT.1 (cR aM e7)) n7.1 (cR aM j8)) (mf fe)))))))))))
  (fun h2 =>
  .ret (let bK:=gn eb 0 1 0 cd.length 0 2 0 cy.length 0 3 0 cz.length;let bW:=cB [0];bf (t1.append [.U false,(I 2),.aN [0] [.bB (ad.mk 4 [bK] .live::ad.mk 1 (cd.map (bj 0 4 3)) .live::ad.mk 1 (cy.map eI) .live::ad.mk 3 (cz.map aM) .live::(b3 3 aM c7))] (a6 [0,1,2,56,57])]) (.bO h1 h2 (c2 (show ad.mk 4 [bK] .live=gC bW (ad.mk 4 [bK] .live) from rfl) (c2 (kY bW 0 0 4 3 rfl cd) (c2 (fT bW 1 ky cy) (c2 (fT bW 3 fe cz) (dz bW 3 fe c7))))))))))
  (fun h1 =>
  .ret (let cD:=gn eb 0 1 0 cd.length 0 2 0 cy.length 0 3 0 cz.length;let d5:=cB [0];bf [(I 1),.U false,.aN [0] [.bB (ad.mk 4 [cD] .live::ad.mk 1 (cd.map (bj 0 4 3)) .live::ad.mk 1 (cy.map eI) .live::ad.mk 3 (cz.map aM) .live::(b3 3 aM c7))] (a6 [0,1,2])] (.e2 h1 (c2 (show ad.mk 4 [cD] .live=gC d5 (ad.mk 4 [cD] .live) from rfl) (c2 (kY d5 0 0 4 3 rfl cd) (c2 (fT d5 1 ky cy) (c2 (fT d5 3 fe cz) (dz d5 3 fe c7))))))))
theorem UM {bR bo oz eb:Int}{cd:List bt}{cy:List Int}{cz:List aL}{nr:Int}{c7:List (List aL)}{r} (h:HR bR bo oz eb cd cy cz nr c7=some r):dQ a7 100 1 74 [1,1,0,1,0,0] (F3 bR bo oz eb cd cy cz) (Gh bR bo oz eb cd cy cz) (nr,c7) r:=dR (fun _=>Tp) h
def zc (bR bo l1:Int)(im:List bt)(jO:List Int)(ja:List aL)(oM:List (List aL)):Option ((List Int)×(List aL)×(List (List aL))) :=
 if 0≤bR∧bR<(im.length:Nat) then
 im[(0+bR.toNat)]? >>= fun x2 =>
 x2 >>= fun jv =>
 oM[jv.1]? >>= fun mV =>
 if 0≤bo∧bo<(jv.2:Nat) then
 mV[(0+bo.toNat)]? >>= fun ep =>
 HQ bR bo ((jv.2:Nat):Int) l1 im jO ja ep.fk.cJ ep.fk.cw ep.hl 0 oM >>= fun c0 =>
 HR bR bo ((im.length:Nat):Int) l1 im jO ja 0 c0 >>= fun ex =>
 ex[jv.1]? >>= fun j8 =>
 if 3≠(jv.1+4) then
 y6 bo 0 jv.2 ja j8 >>= fun e7 =>
 if ja.length=e7.length then
 if 0≤bR∧bR<(jO.length:Nat) then
 if (0+bR.toNat)<jO.length then
 some (jO.set (0+bR.toNat) bo,e7,ex.set jv.1 j8)
 else none
 else none
 else none
 else none
 else none
 else none
theorem Vr {bR bo l1:Int}{im:List bt}{jO:List Int}{ja:List aL}{oM:List (List aL)}:bx (zc bR bo l1 im jO ja oM) (fun a=>Con a7 74 [.ref 0 0 0 0,.n .i64 bR,.n .i64 bo] [(ad.mk 4 [(gn l1 0 1 0 im.length 0 2 0 jO.length 0 3 0 ja.length)] .live::ad.mk 1 (im.map (bj 0 4 3)) .live::ad.mk 1 (jO.map eI) .live::ad.mk 3 (ja.map aM) .live::(b3 3 aM oM))] (.dS []) [(ad.mk 4 [(gn l1 0 1 0 im.length 0 2 0 a.1.length 0 3 0 a.2.1.length)] .live::ad.mk 1 (im.map (bj 0 4 3)) .live::ad.mk 1 (a.1.map eI) .live::ad.mk 3 (a.2.1.map aM) .live::(b3 3 aM a.2.2))]):=by
 unfold zc
 exact .aY fun h1 =>
  .ar fun x2 ab =>
  .ar fun jv aA =>
  .ar fun mV bb =>
  .aY fun bi =>
  .ar fun ep cM =>
  .ar fun c0 eR =>
  .ar fun ex ew =>
  .ar fun j8 hO =>
  .aY fun hn =>
  .ar fun e7 gr =>
  .aY fun fh =>
  .aY fun gS =>
  .aY fun jq =>
  .ret (let q1:=gn l1 0 1 0 im.length 0 2 0 jO.length 0 3 0 ja.length;let q2:=gn l1 0 1 0 im.length 0 2 0 ((jO.set (0+bR.toNat) bo).length) 0 3 0 e7.length;let bK:=jU (f9 .live 3 aM oM) iZ bb;let bW:=cB [0];let cD:=cB [0,11];let d5:=bU (bj 0 4 3) ab;let fJ:=kY bW 0 0 4 3 rfl im;lQ [.ay (ai 6 (al (.b2 ((bj 0 4 3) x2)) (ai 1 (al (.kc 15 (.bk 0 (jv.1+4) 0 jv.2) (.gb (ad.mk 3 (mV.map aM) .live) [])) (al (.gb (ad.mk 3 (mV.map aM) .live) (aM ep)) (ai 2 [])))))),.ay (ai 6 (al (.b2 ((bj 0 4 3) x2)) (al (.kc 25 (.bk 0 (jv.1+4) 0 jv.2) (.gb (ad.mk 3 (mV.map aM) .live) [])) (ai 1 [])))),.aN [0,11] [.bB (ad.mk 4 [q1] .live::ad.mk 1 (im.map (bj 0 4 3)) .live::ad.mk 1 (jO.map eI) .live::ad.mk 3 (ja.map aM) .live::(b3 3 aM oM)),.box [.id,.id,.id]] (a6 [0,1,2,6,26,27]),(Gg bR bo ((jv.2:Nat):Int) l1 im jO ja ep.fk.cJ ep.fk.cw ep.hl c0).e8,(I 6),.aN [0] [.bB (ad.mk 4 [q1] .live::ad.mk 1 (im.map (bj 0 4 3)) .live::ad.mk 1 (jO.map eI) .live::ad.mk 3 (ja.map aM) .live::(b3 3 aM c0))] (a6 [0,1,2,56,57]),(Gh bR bo ((im.length:Nat):Int) l1 im jO ja ex).e8,.ay (ai 10 (al (.b2 ((bj 0 4 3) x2)) (ai 1 (al (.kc 90 (.bk 0 (jv.1+4) 0 jv.2) (.call {aZ:=[.ak 0 3 (ad.mk 3 (ja.map aM) .live),.ak 0 (jv.1+4) (ad.mk 3 (j8.map aM) .live)],dm:=[.pure,.pure],ac:=[.br (.dh (.at_ 0 0 ja.length)),.br (.dh (.at_ 1 0 jv.2)),ii],r:= .dS [],fv:=[(ae 3 aM e7),(ae 3 aM j8)],ic:=ii,kk:=[.pure,.pure],fH:=[0],fz:=false})) [])))),.ay (ai 7 (al .fM []))] [0] [.bB (ad.mk 4 [q2] .live::ad.mk 1 (im.map (bj 0 4 3)) .live::ad.mk 1 ((jO.set (0+bR.toNat) bo).map eI) .live::ad.mk 3 (e7.map aM) .live::(b3 3 aM (ex.set jv.1 j8)))] (.bg h1.1 h1.2 d5 (lX (dL:=0) (c:=4) (sz:=3) aA) bK bi.1 bi.2 bK (.bg (bU aM cM) h1.1 h1.2 d5 (lX (dL:=0) (c:=4) (sz:=3) aA) bK (c2 (show ad.mk 4 [q1] .live=gC cD (ad.mk 4 [q1] .live) from rfl) (c2 (kY cD 0 0 4 3 rfl im) (c2 (fT cD 1 ky jO) (c2 (fT cD 3 fe ja) (dz cD 3 fe oM))))) (UL eR) (.bg (c2 (show ad.mk 4 [q1] .live=gC bW (ad.mk 4 [q1] .live) from rfl) (c2 fJ (c2 (fT bW 1 ky jO) (c2 (fT bW 3 fe ja) (dz bW 3 fe c0))))) (UM ew) h1.1 h1.2 d5 (lX (dL:=0) (c:=4) (sz:=3) aA) hn (rfl:la [.ak 0 3 (ad.mk 3 (ja.map aM) .live),.ak 0 (jv.1+4) (ad.mk 3 (j8.map aM) .live)] 0 0=some (0,3)) (.bg (rfl:ja.length=ja.length) (rfl:la [.ak 0 3 (ad.mk 3 (ja.map aM) .live),.ak 0 (jv.1+4) (ad.mk 3 (j8.map aM) .live)] 1 0=some (0,(jv.1+4))) (rfl:jv.2=jv.2) (rfl:dc (some (ad.mk 4 [q1] .live::ad.mk 1 (im.map (bj 0 4 3)) .live::ad.mk 1 (jO.map eI) .live::ad.mk 3 (ja.map aM) .live::(b3 3 aM ex))) 3=some (ad.mk 3 (ja.map aM) .live)) (ij 3 eL ja) (jU (f9 .live 3 aM ex) iZ hO) (ij 3 eL j8) (ij 3 eL e7) (.eE (ij 3 eL j8) (U9 e7 gr) gS.1 gS.2 (hz eI jq) (ht 1) (c2 (show ad.mk 4 [q2] .live=gC bW (ad.mk 4 [q1] .live) from (Eq.trans (congrArg (fun B5=>ad.mk 4 [(gn l1 0 1 0 im.length 0 2 0 B5 0 3 0 e7.length)] .live) (hP (dF jO) (0+bR.toNat) bo).symm) (congrArg (fun B5=>ad.mk 4 [(gn l1 0 1 0 im.length 0 2 0 jO.length 0 3 0 B5)] .live) (Eq.trans (dF ja) fh).symm))) (c2 fJ (c2 (rv (b6:=bW) 1 .live eI (gD (cR eI jO) (0+bR.toNat) bo) (mf ky)) (c2 (fT bW 3 fe e7) (m2 (b6:=bW) (oW (f9 .live 3 aM ex) jv.1 (cR aM j8)) (mf fe))))))))))))
def Gy (eZ:Bool)(eb:Int)(cd:List bt)(cy:List Int)(cz:List aL)(c7:List (List aL)):(Int×Int)→S:=fun (oi,bN)=>dl [(0,.ref 0 0 0 0),(1,.b eZ),(5,.n .i64 oi),(6,.n .i64 bN)] [(ad.mk 4 [(gn eb 0 1 0 cd.length 0 2 0 cy.length 0 3 0 cz.length)] .live::ad.mk 1 (cd.map (bj 0 4 3)) .live::ad.mk 1 (cy.map eI) .live::ad.mk 3 (cz.map aM) .live::(b3 3 aM c7))]
def GQ (eZ:Bool)(eb:Int)(cd:List bt)(cy:List Int)(cz:List aL)(c7:List (List aL)):Int→dq
 | a=>⟨some 2,[(0,.ref 0 0 0 0),(1,.b eZ),(5,.n .i64 a)],[(ad.mk 4 [(gn eb 0 1 0 cd.length 0 2 0 cy.length 0 3 0 cz.length)] .live::ad.mk 1 (cd.map (bj 0 4 3)) .live::ad.mk 1 (cy.map eI) .live::ad.mk 3 (cz.map aM) .live::(b3 3 aM c7))]⟩
def tM (eZ:Bool)(eb:Int)(cd:List bt)(cy:List Int)(cz:List aL)(c7:List (List aL))(oi bN:Int):Option ((Int×Int)⊕(Int)) :=
 if (decide (bN<eb))=true then
  if (decide (oi<(0:Int)))=true then
   if cd.all (qM c7)=true then
   zs (⟨eb,cd.map (ir c7),cy,cz⟩:pd) bN >>= fun bh =>
   if bh=true then
    some (.inl (oi,J (bN+(1:Int))))
   else
    ub (⟨eb,cd.map (ir c7),cy,cz⟩:pd) bN eZ >>= fun b4 =>
    if (decide ((0:Int)<b4))=true then
     some (.inl (bN,J (bN+(1:Int))))
    else
     some (.inl (oi,J (bN+(1:Int))))
   else none
  else
   some (.inr oi)
 else
  some (.inr oi)
def CG (eZ:Bool)(eb:Int)(cd:List bt)(cy:List Int)(cz:List aL)(c7:List (List aL))(oi bN:Int):Option (Int):=iter (fun w:Int×Int=>tM eZ eb cd cy cz c7 w.1 w.2) (oi,bN)
theorem TP {eZ:Bool}{eb:Int}{cd:List bt}{cy:List Int}{cz:List aL}{c7:List (List aL)}{oi bN:Int}:bx (tM eZ eb cd cy cz c7 oi bN) (dP a7 43 1 43 [1,0,0,0,1,0,1,0,0] (Gy eZ eb cd cy cz c7 (oi,bN)) (Gy eZ eb cd cy cz c7) (GQ eZ eb cd cy cz c7)):=by
 unfold tM
 exact .ite (fun h1 =>
  .ite (fun h2 =>
  .aY fun ab =>
  .ar fun bh aA =>
  (let iF:=gn eb 0 1 0 cd.length 0 2 0 cy.length 0 3 0 cz.length;let t1:List bY:=[.ay (ai 9 (al (.U true) [])),.U true];
  have aS:=((.bg h1 h1 h1 h2 (rfl:dc (some (ad.mk 4 [iF] .live::ad.mk 1 (cd.map (bj 0 4 3)) .live::ad.mk 1 (cy.map eI) .live::ad.mk 3 (cz.map aM) .live::(b3 3 aM c7))) 1=some (ad.mk 1 (cd.map (bj 0 4 3)) .live)) (rfl:_=true) (fF (bj 0 4 3) cd) (du (nn (sz:=3) eL) (cd.map (ir c7))) (.bg (uG (dL:=0) (jc:=[ad.mk 4 [iF] .live,ad.mk 1 (cd.map (bj 0 4 3)) .live,ad.mk 1 (cy.map eI) .live,ad.mk 3 (cz.map aM) .live]++(b3 3 aM c7)) (b1:=kw) (sz:=1) (g:=(en 3 aM)) (cR (bj 0 4 3) cd) (fun _=>rfl) (fun x R=>(yq (dL:=0) (c:=4) (b1:=kw) (qx:=[ad.mk 4 [iF] .live,ad.mk 1 (cd.map (bj 0 4 3)) .live,ad.mk 1 (cy.map eI) .live,ad.mk 3 (cz.map aM) .live]) (f9 .live 3 aM c7) eL rfl iZ rfl (xL ab x R))) (dF cd)) (ga eI cy) (fF eI cy) (du aO cy) (ga aM cz) (fF aM cz) (du eL cz) (qj (IH (⟨eb,cd.map (ir c7),cy,cz⟩:pd)):jx [[.n .i64 eb,.isl 1 ((cd.map (ir c7)).map (en 3 aM)),.isl 1 (cy.map eI),.isl 3 (cz.map aM)]]) (.e2 (V2 bh aA) (b7.b bh)))):cp _);
  .ite (fun aX =>
  .ret (let q1:=gn eb 0 1 0 cd.length 0 2 0 cy.length 0 3 0 cz.length;let q2:=cB [0];bf (t1.append [.ay (ai 2 (al (.call {ac:=[.br (.ptr [.id,.view 0 (ad.mk 1 (cd.map (bj 0 4 3)) .live) ((cd.map (ir c7)).map (en 3 aM)),.ek (cy.map eI),.ek (cz.map aM)]),ii],r:= .b bh,fz:=true,fH:=[0]}) (ai 2 (ck 5 (al (.U false) []))))),.U false,(I 3),.aN [0] [.bB (ad.mk 4 [q1] .live::ad.mk 1 (cd.map (bj 0 4 3)) .live::ad.mk 1 (cy.map eI) .live::ad.mk 3 (cz.map aM) .live::(b3 3 aM c7))] (a6 [0,1,5,6])]) (aS.aG (.gJ (cV aX) (cV aX) (cV aX) (cV aX) (cV aX) (cV aX) cL (c2 (show ad.mk 4 [q1] .live=gC q2 (ad.mk 4 [q1] .live) from rfl) (c2 (kY q2 0 0 4 3 rfl cd) (c2 (fT q2 1 ky cy) (c2 (fT q2 3 fe cz) (dz q2 3 fe c7)))))))))
  (fun aX =>
  .ar fun b4 bi =>
  (let js:=gn eb 0 1 0 cd.length 0 2 0 cy.length 0 3 0 cz.length;let mj:=en 3 aM;let t3:List bY:=t1.append [.ay (ai 2 (al (.call {ac:=[.br (.ptr [.id,.view 0 (ad.mk 1 (cd.map (bj 0 4 3)) .live) ((cd.map (ir c7)).map mj),.ek (cy.map eI),.ek (cz.map aM)]),ii],r:= .b bh,fz:=true,fH:=[0]}) (ai 5 (al (.call {ac:=[.br (.ptr [.id,.view 0 (ad.mk 1 (cd.map (bj 0 4 3)) .live) ((cd.map (ir c7)).map mj),.ek (cy.map eI),.ek (cz.map aM)]),ii,ii],r:= .n .i64 b4,fz:=true,fH:=[0]}) (ai 1 (al (.U true) []))))))];
  have eO:=aS.aG (.bg (cT aX) (cT aX) (cT aX) (cT aX) (rfl:dc (some (ad.mk 4 [js] .live::ad.mk 1 (cd.map (bj 0 4 3)) .live::ad.mk 1 (cy.map eI) .live::ad.mk 3 (cz.map aM) .live::(b3 3 aM c7))) 1=some (ad.mk 1 (cd.map (bj 0 4 3)) .live)) (rfl:_=true) (fF (bj 0 4 3) cd) (du (nn (sz:=3) eL) (cd.map (ir c7))) (.bg (uG (dL:=0) (jc:=[ad.mk 4 [js] .live,ad.mk 1 (cd.map (bj 0 4 3)) .live,ad.mk 1 (cy.map eI) .live,ad.mk 3 (cz.map aM) .live]++(b3 3 aM c7)) (b1:=kw) (sz:=1) (g:=mj) (cR (bj 0 4 3) cd) (fun _=>rfl) (fun x R=>(yq (dL:=0) (c:=4) (b1:=kw) (qx:=[ad.mk 4 [js] .live,ad.mk 1 (cd.map (bj 0 4 3)) .live,ad.mk 1 (cy.map eI) .live,ad.mk 3 (cz.map aM) .live]) (f9 .live 3 aM c7) eL rfl iZ rfl (xL ab x R))) (dF cd)) (ga eI cy) (fF eI cy) (du aO cy) (ga aM cz) (fF aM cz) (du eL cz) (qj (IH (⟨eb,cd.map (ir c7),cy,cz⟩:pd)):jx [[.n .i64 eb,.isl 1 ((cd.map (ir c7)).map mj),.isl 1 (cy.map eI),.isl 3 (cz.map aM)]]) (.c5 (Wq b4 bi) (b7.n .i64 b4) (cT aX) (cT aX))));
  .ite (fun cj =>
  .ret (let bK:=gn eb 0 1 0 cd.length 0 2 0 cy.length 0 3 0 cz.length;let bW:=cB [0];bf (t3.append [.U true,(I 2),(I 3),.aN [0] [.bB (ad.mk 4 [bK] .live::ad.mk 1 (cd.map (bj 0 4 3)) .live::ad.mk 1 (cy.map eI) .live::ad.mk 3 (cz.map aM) .live::(b3 3 aM c7))] (a6 [0,1,5,6])]) (eO.aG (.e2 cj (c2 (show ad.mk 4 [bK] .live=gC bW (ad.mk 4 [bK] .live) from rfl) (c2 (kY bW 0 0 4 3 rfl cd) (c2 (fT bW 1 ky cy) (c2 (fT bW 3 fe cz) (dz bW 3 fe c7)))))))))
  (fun cj =>
  .ret (let cD:=gn eb 0 1 0 cd.length 0 2 0 cy.length 0 3 0 cz.length;let d5:=cB [0];bf (t3.append [.U false,(I 3),.aN [0] [.bB (ad.mk 4 [cD] .live::ad.mk 1 (cd.map (bj 0 4 3)) .live::ad.mk 1 (cy.map eI) .live::ad.mk 3 (cz.map aM) .live::(b3 3 aM c7))] (a6 [0,1,5,6])]) (eO.aG (.e2 cj (c2 (show ad.mk 4 [cD] .live=gC d5 (ad.mk 4 [cD] .live) from rfl) (c2 (kY d5 0 0 4 3 rfl cd) (c2 (fT d5 1 ky cy) (c2 (fT d5 3 fe cz) (dz d5 3 fe c7)))))))))))))
  (fun h2 =>
  .ret (let fJ:=gn eb 0 1 0 cd.length 0 2 0 cy.length 0 3 0 cz.length;let eB:=cB [0];bf [.ay (ai 9 (al (.U true) [])),.U false,.aN [0] [.bB (ad.mk 4 [fJ] .live::ad.mk 1 (cd.map (bj 0 4 3)) .live::ad.mk 1 (cy.map eI) .live::ad.mk 3 (cz.map aM) .live::(b3 3 aM c7))] (a6 [0,1,5])] (.dg h1 h1 h1 h2 (c2 (show ad.mk 4 [fJ] .live=gC eB (ad.mk 4 [fJ] .live) from rfl) (c2 (kY eB 0 0 4 3 rfl cd) (c2 (fT eB 1 ky cy) (c2 (fT eB 3 fe cz) (dz eB 3 fe c7)))))))))
  (fun h1 =>
  .ret (let hC:=gn eb 0 1 0 cd.length 0 2 0 cy.length 0 3 0 cz.length;let jr:=cB [0];bf [.ay (ai 7 (ck 2 (al (.U false) []))),.U false,.aN [0] [.bB (ad.mk 4 [hC] .live::ad.mk 1 (cd.map (bj 0 4 3)) .live::ad.mk 1 (cy.map eI) .live::ad.mk 3 (cz.map aM) .live::(b3 3 aM c7))] (a6 [0,1,5])] (.dg h1 h1 h1 cL (c2 (show ad.mk 4 [hC] .live=gC jr (ad.mk 4 [hC] .live) from rfl) (c2 (kY jr 0 0 4 3 rfl cd) (c2 (fT jr 1 ky cy) (c2 (fT jr 3 fe cz) (dz jr 3 fe c7))))))))
theorem Va {eZ:Bool}{eb:Int}{cd:List bt}{cy:List Int}{cz:List aL}{c7:List (List aL)}{oi bN:Int}{r} (h:CG eZ eb cd cy cz c7 oi bN=some r):dQ a7 43 1 43 [1,0,0,0,1,0,1,0,0] (Gy eZ eb cd cy cz c7) (GQ eZ eb cd cy cz c7) (oi,bN) r:=dR (fun _=>TP) h
def Gz (eZ:Bool)(eb:Int)(cd:List bt):((List Int)×(List aL)×(List (List aL)))→S:=fun (cy,cz,c7)=>dl [(0,.ref 0 0 0 0),(1,.b eZ)] [(ad.mk 4 [(gn eb 0 1 0 cd.length 0 2 0 cy.length 0 3 0 cz.length)] .live::ad.mk 1 (cd.map (bj 0 4 3)) .live::ad.mk 1 (cy.map eI) .live::ad.mk 3 (cz.map aM) .live::(b3 3 aM c7))]
def GR (eZ:Bool)(eb:Int)(cd:List bt):(Bool×(List Int)×(List aL)×(List (List aL)))→dq
 | a=>⟨none,[(4,.b a.1)],[(ad.mk 4 [(gn eb 0 1 0 cd.length 0 2 0 a.2.1.length 0 3 0 a.2.2.1.length)] .live::ad.mk 1 (cd.map (bj 0 4 3)) .live::ad.mk 1 (a.2.1.map eI) .live::ad.mk 3 (a.2.2.1.map aM) .live::(b3 3 aM a.2.2.2))]⟩
def yV (eZ:Bool)(eb:Int)(cd:List bt)(cy:List Int)(cz:List aL)(c7:List (List aL)):Option (((List Int)×(List aL)×(List (List aL)))⊕(Bool×(List Int)×(List aL)×(List (List aL)))) :=
 CG eZ eb cd cy cz c7 (-1) 0 >>= fun r1 =>
 if (decide (r1<(0:Int)))=true then
  some (.inr (true,cy,cz,c7))
 else
  if cd.all (qM c7)=true then
  zu (⟨eb,cd.map (ir c7),cy,cz⟩:pd) r1 >>= fun aK =>
  if (decide (aK<(0:Int)))=true then
   some (.inr (false,cy,cz,c7))
  else
   zc aK r1 eb cd cy cz c7 >>= fun cZ =>
   some (.inl (cZ.1,cZ.2.1,cZ.2.2))
  else none
def Iq (eZ:Bool)(eb:Int)(cd:List bt)(cy:List Int)(cz:List aL)(c7:List (List aL)):Option (Bool×(List Int)×(List aL)×(List (List aL))):=iter (fun w:(List Int)×(List aL)×(List (List aL))=>yV eZ eb cd w.1 w.2.1 w.2.2) (cy,cz,c7)
theorem TQ {eZ:Bool}{eb:Int}{cd:List bt}{cy:List Int}{cz:List aL}{c7:List (List aL)}:bx (yV eZ eb cd cy cz c7) (dP a7 43 1 43 [1,0,0] (Gz eZ eb cd (cy,cz,c7)) (Gz eZ eb cd) (GR eZ eb cd)):=by
 unfold yV
 exact .ar fun r1 h2 =>
  (let jr:=gn eb 0 1 0 cd.length 0 2 0 cy.length 0 3 0 cz.length;let js:=cB [0];let t1:List bY:=[(I 1),(I 1),.aN [0] [.bB (ad.mk 4 [jr] .live::ad.mk 1 (cd.map (bj 0 4 3)) .live::ad.mk 1 (cy.map eI) .live::ad.mk 3 (cz.map aM) .live::(b3 3 aM c7))] (a6 [0,1,5,6]),(GQ eZ eb cd cy cz c7 r1).e8,(I 2)];
  have aS:=((.e2 (c2 (show ad.mk 4 [jr] .live=gC js (ad.mk 4 [jr] .live) from rfl) (c2 (kY js 0 0 4 3 rfl cd) (c2 (fT js 1 ky cy) (c2 (fT js 3 fe cz) (dz js 3 fe c7))))) (Va h2)):cp _);
  .ite (fun ab =>
  .ret (let q1:=gn eb 0 1 0 cd.length 0 2 0 cy.length 0 3 0 cz.length;let q2:=cB [0];bf (t1.append [.U true,(I 1),.aN [0] [.bB (ad.mk 4 [q1] .live::ad.mk 1 (cd.map (bj 0 4 3)) .live::ad.mk 1 (cy.map eI) .live::ad.mk 3 (cz.map aM) .live::(b3 3 aM c7))] (a6 [4])]) (aS.aG (.e2 ab (c2 (show ad.mk 4 [q1] .live=gC q2 (ad.mk 4 [q1] .live) from rfl) (c2 (kY q2 0 0 4 3 rfl cd) (c2 (fT q2 1 ky cy) (c2 (fT q2 3 fe cz) (dz q2 3 fe c7)))))))))
  (fun ab =>
  .aY fun au =>
  .ar fun aK aX =>
  (let hC:=gn eb 0 1 0 cd.length 0 2 0 cy.length 0 3 0 cz.length;let t3:List bY:=t1.append [.U false,.ay (bq 2 (.call {ac:=[.br (.ptr [.id,.view 0 (ad.mk 1 (cd.map (bj 0 4 3)) .live) ((cd.map (ir c7)).map (en 3 aM)),.ek (cy.map eI),.ek (cz.map aM)]),ii],r:= .n .i64 aK,fz:=true,fH:=[0]}) 1),(I 2)];
  have eO:=aS.aG (.bg ab (rfl:dc (some (ad.mk 4 [hC] .live::ad.mk 1 (cd.map (bj 0 4 3)) .live::ad.mk 1 (cy.map eI) .live::ad.mk 3 (cz.map aM) .live::(b3 3 aM c7))) 1=some (ad.mk 1 (cd.map (bj 0 4 3)) .live)) (rfl:_=true) (fF (bj 0 4 3) cd) (du (nn (sz:=3) eL) (cd.map (ir c7))) (uG (dL:=0) (jc:=[ad.mk 4 [hC] .live,ad.mk 1 (cd.map (bj 0 4 3)) .live,ad.mk 1 (cy.map eI) .live,ad.mk 3 (cz.map aM) .live]++(b3 3 aM c7)) (b1:=kw) (sz:=1) (g:=(en 3 aM)) (cR (bj 0 4 3) cd) (fun _=>rfl) (fun x R=>(yq (dL:=0) (c:=4) (b1:=kw) (qx:=[ad.mk 4 [hC] .live,ad.mk 1 (cd.map (bj 0 4 3)) .live,ad.mk 1 (cy.map eI) .live,ad.mk 3 (cz.map aM) .live]) (f9 .live 3 aM c7) eL rfl iZ rfl (xL au x R))) (dF cd)) (ga eI cy) (fF eI cy) (.eE (du aO cy) (ga aM cz) (fF aM cz) (du eL cz) (qj (IH (⟨eb,cd.map (ir c7),cy,cz⟩:pd)):jx [[.n .i64 eb,.isl 1 ((cd.map (ir c7)).map (en 3 aM)),.isl 1 (cy.map eI),.isl 3 (cz.map aM)]]) (V4 aK aX) (b7.n .i64 aK)));
  .ite (fun bb =>
  .ret (let bK:=gn eb 0 1 0 cd.length 0 2 0 cy.length 0 3 0 cz.length;let bW:=cB [0];bf (t3.append [.U true,(I 1),.aN [0] [.bB (ad.mk 4 [bK] .live::ad.mk 1 (cd.map (bj 0 4 3)) .live::ad.mk 1 (cy.map eI) .live::ad.mk 3 (cz.map aM) .live::(b3 3 aM c7))] (a6 [4])]) (eO.aG (.e2 bb (c2 (show ad.mk 4 [bK] .live=gC bW (ad.mk 4 [bK] .live) from rfl) (c2 (kY bW 0 0 4 3 rfl cd) (c2 (fT bW 1 ky cy) (c2 (fT bW 3 fe cz) (dz bW 3 fe c7)))))))))
  (fun bb =>
  .ar fun cZ cj =>
  .ret (let cD:=gn eb 0 1 0 cd.length 0 2 0 cZ.1.length 0 3 0 cZ.2.1.length;let d5:=gn eb 0 1 0 cd.length 0 2 0 cy.length 0 3 0 cz.length;let fJ:=b3 3 aM cZ.2.2;let eB:=cB [0];bf (t3.append [.U false,.ay (ai 3 (al (.call {aZ:=[.row 0],dm:=[.bB (ad.mk 4 [d5] .live::ad.mk 1 (cd.map (bj 0 4 3)) .live::ad.mk 1 (cy.map eI) .live::ad.mk 3 (cz.map aM) .live::(b3 3 aM c7))],ac:=[ii,ii,ii],r:= .dS [],fv:=[(ad.mk 4 [cD] .live::ad.mk 1 (cd.map (bj 0 4 3)) .live::ad.mk 1 (cZ.1.map eI) .live::ad.mk 3 (cZ.2.1.map aM) .live::fJ)],ic:=ii,kk:=[.bB (ad.mk 4 [cD] .live::ad.mk 1 (cd.map (bj 0 4 3)) .live::ad.mk 1 (cZ.1.map eI) .live::ad.mk 3 (cZ.2.1.map aM) .live::fJ)],fH:=[0],fz:=false}) [])),.aN [0] [.bB (ad.mk 4 [cD] .live::ad.mk 1 (cd.map (bj 0 4 3)) .live::ad.mk 1 (cZ.1.map eI) .live::ad.mk 3 (cZ.2.1.map aM) .live::fJ)] (a6 [0,1])]) (eO.aG (.eE bb (c2 (show ad.mk 4 [d5] .live=gC (o7 [0]) (ad.mk 4 [d5] .live) from rfl) (c2 (kY (o7 [0]) 0 0 4 3 rfl cd) (c2 (fT (o7 [0]) 1 ky cy) (c2 (fT (o7 [0]) 3 fe cz) (dz (o7 [0]) 3 fe c7))))) ((jI rfl (jI rfl (jI rfl (jI rfl (uq (f9 .live 3 aM c7)))))):me (ad.mk 4 [d5] .live::ad.mk 1 (cd.map (bj 0 4 3)) .live::ad.mk 1 (cy.map eI) .live::ad.mk 3 (cz.map aM) .live::(b3 3 aM c7))) (c2 (show ad.mk 4 [cD] .live=gC (jG [0]) (ad.mk 4 [cD] .live) from rfl) (c2 (kY (jG [0]) 0 0 4 3 rfl cd) (c2 (fT (jG [0]) 1 ky cZ.1) (c2 (fT (jG [0]) 3 fe cZ.2.1) (dz (jG [0]) 3 fe cZ.2.2))))) ((jI rfl (jI rfl (jI rfl (jI rfl (uq (f9 .live 3 aM cZ.2.2)))))):me (ad.mk 4 [cD] .live::ad.mk 1 (cd.map (bj 0 4 3)) .live::ad.mk 1 (cZ.1.map eI) .live::ad.mk 3 (cZ.2.1.map aM) .live::fJ)) (Vr cZ cj) (c2 (show ad.mk 4 [cD] .live=gC eB (ad.mk 4 [cD] .live) from rfl) (c2 (kY eB 0 0 4 3 rfl cd) (c2 (fT eB 1 ky cZ.1) (c2 (fT eB 3 fe cZ.2.1) (dz eB 3 fe cZ.2.2))))))))))))
theorem Vb {eZ:Bool}{eb:Int}{cd:List bt}{cy:List Int}{cz:List aL}{c7:List (List aL)}{r} (h:Iq eZ eb cd cy cz c7=some r):dQ a7 43 1 43 [1,0,0] (Gz eZ eb cd) (GR eZ eb cd) (cy,cz,c7) r:=dR (fun _=>TQ) h
def w5 (eZ:Bool)(l1:Int)(im:List bt)(jO:List Int)(ja:List aL)(oM:List (List aL)):Option (Bool×(List Int)×(List aL)×(List (List aL))) :=
 Iq eZ l1 im jO ja oM >>= fun r1 =>
 some (r1.1,r1.2.1,r1.2.2.1,r1.2.2.2)
theorem V5 {eZ:Bool}{l1:Int}{im:List bt}{jO:List Int}{ja:List aL}{oM:List (List aL)}:bx (w5 eZ l1 im jO ja oM) (fun a=>Con a7 43 [.ref 0 0 0 0,.b eZ] [(ad.mk 4 [(gn l1 0 1 0 im.length 0 2 0 jO.length 0 3 0 ja.length)] .live::ad.mk 1 (im.map (bj 0 4 3)) .live::ad.mk 1 (jO.map eI) .live::ad.mk 3 (ja.map aM) .live::(b3 3 aM oM))] (.b a.1) [(ad.mk 4 [(gn l1 0 1 0 im.length 0 2 0 a.2.1.length 0 3 0 a.2.2.1.length)] .live::ad.mk 1 (im.map (bj 0 4 3)) .live::ad.mk 1 (a.2.1.map eI) .live::ad.mk 3 (a.2.2.1.map aM) .live::(b3 3 aM a.2.2.2))]):=by
 unfold w5
 exact .ar fun r1 h2 =>
  .ret (let q1:=gn l1 0 1 0 im.length 0 2 0 r1.2.1.length 0 3 0 r1.2.2.1.length;let q2:=gn l1 0 1 0 im.length 0 2 0 jO.length 0 3 0 ja.length;let bK:=cB [0];let bW:=kY bK 0 0 4 3 rfl im;lQ [(I 1),.aN [0] [.bB (ad.mk 4 [q2] .live::ad.mk 1 (im.map (bj 0 4 3)) .live::ad.mk 1 (jO.map eI) .live::ad.mk 3 (ja.map aM) .live::(b3 3 aM oM))] (a6 [0,1]),(GR eZ l1 im r1).e8] [0] [.bB (ad.mk 4 [q1] .live::ad.mk 1 (im.map (bj 0 4 3)) .live::ad.mk 1 (r1.2.1.map eI) .live::ad.mk 3 (r1.2.2.1.map aM) .live::(b3 3 aM r1.2.2.2))] (.bO (c2 (show ad.mk 4 [q2] .live=gC bK (ad.mk 4 [q2] .live) from rfl) (c2 bW (c2 (fT bK 1 ky jO) (c2 (fT bK 3 fe ja) (dz bK 3 fe oM))))) (Vb h2) (c2 (show ad.mk 4 [q1] .live=gC bK (ad.mk 4 [q1] .live) from rfl) (c2 bW (c2 (fT bK 1 ky r1.2.1) (c2 (fT bK 3 fe r1.2.2.1) (dz bK 3 fe r1.2.2.2)))))))
def tX (b8:hk):Option Bool :=
 zg b8 >>= fun r1 =>
 if r1=true then
  za b8 >>= fun bh =>
  w5 false bh.1 bh.2.1 bh.2.2.1 bh.2.2.2.1 bh.2.2.2.2 >>= fun cc =>
  if 0≤bh.1∧bh.1<(cc.2.2.1.length:Nat) then
  cc.2.2.1[(0+bh.1.toNat)]? >>= fun ep =>
  pI ep >>= fun c0 =>
  some (c0 == (0:Int))
  else none
 else
  some false
theorem Vc {b8:hk}:bx (tX b8) (fun r=>Con a7 26 [.agg (nR b8)] [] (.b r) []):=by
 unfold tX
 exact .ar fun r1 h2 =>
  (let t1:List bY:=[(I 2),.ay (bq 1 (bp 1 (.b r1) true) 1)];
  have aS:=((.e2 (VF r1 h2) (b7.b r1)):cp _);
  .ite (fun ab =>
  .ar fun bh aA =>
  .ar fun cc bb =>
  .aY fun bi =>
  .ar fun ep cM =>
  .ar fun c0 eR =>
  .ret (let q1:=gn bh.1 0 1 0 bh.2.1.length 0 2 0 bh.2.2.1.length 0 3 0 bh.2.2.2.1.length;let q2:=gn bh.1 6 1 0 bh.2.1.length 6 2 0 bh.2.2.1.length 6 3 0 bh.2.2.2.1.length;let bK:=gn bh.1 0 1 0 bh.2.1.length 0 2 0 cc.2.1.length 0 3 0 cc.2.2.1.length;let bW:=b3 3 aM bh.2.2.2.2;let cD:=gn bh.1 6 1 0 bh.2.1.length 6 2 0 cc.2.1.length 6 3 0 cc.2.2.1.length;let d5:=b3 3 aM cc.2.2.2;let fJ:=kY (jG [6]) 6 0 4 3 rfl bh.2.1;bs (t1.append [.U false,.ay (bq 1 (.call {aZ:=[],dm:=[],ac:=[ii],r:= .ref 0 0 0 0,fv:=[(ad.mk 4 [q1] .live::ad.mk 1 (bh.2.1.map (bj 0 4 3)) .live::ad.mk 1 (bh.2.2.1.map eI) .live::ad.mk 3 (bh.2.2.2.1.map aM) .live::bW)],ic:=ii,kk:=[.bB (ad.mk 4 [q2] .live::ad.mk 1 (bh.2.1.map (bj 6 4 3)) .live::ad.mk 1 (bh.2.2.1.map eI) .live::ad.mk 3 (bh.2.2.2.1.map aM) .live::bW)],fH:=[],fz:=false}) 1),.ay (ai 1 (al (.call {aZ:=[.row 6],dm:=[.bB (ad.mk 4 [q1] .live::ad.mk 1 (bh.2.1.map (bj 0 4 3)) .live::ad.mk 1 (bh.2.2.1.map eI) .live::ad.mk 3 (bh.2.2.2.1.map aM) .live::bW)],ac:=[ii,ii],r:= .b cc.1,fv:=[(ad.mk 4 [bK] .live::ad.mk 1 (bh.2.1.map (bj 0 4 3)) .live::ad.mk 1 (cc.2.1.map eI) .live::ad.mk 3 (cc.2.2.1.map aM) .live::d5)],ic:=ii,kk:=[.bB (ad.mk 4 [cD] .live::ad.mk 1 (bh.2.1.map (bj 6 4 3)) .live::ad.mk 1 (cc.2.1.map eI) .live::ad.mk 3 (cc.2.2.1.map aM) .live::d5)],fH:=[6],fz:=false}) [])),.ay (ai 9 (al (.b2 (aM ep)) (al (bp 1 (.n .i64 c0) true) (ai 2 []))))]) (aS.aG (.bg (cV ab) (c2 (show ad.mk 4 [q2] .live=gC (jG [6]) (ad.mk 4 [q1] .live) from rfl) (c2 fJ (c2 (fT (jG [6]) 1 ky bh.2.2.1) (c2 (fT (jG [6]) 3 fe bh.2.2.2.1) (dz (jG [6]) 3 fe bh.2.2.2.2))))) ((jI rfl (jI rfl (jI rfl (jI rfl (uq (f9 .live 3 aM bh.2.2.2.2)))))):me (ad.mk 4 [q1] .live::ad.mk 1 (bh.2.1.map (bj 0 4 3)) .live::ad.mk 1 (bh.2.2.1.map eI) .live::ad.mk 3 (bh.2.2.2.1.map aM) .live::bW)) (Vo bh aA) (c2 (show ad.mk 4 [q1] .live=gC (o7 [6]) (ad.mk 4 [q2] .live) from rfl) (c2 (kY (o7 [6]) 0 6 4 3 rfl bh.2.1) (c2 (fT (o7 [6]) 1 ky bh.2.2.1) (c2 (fT (o7 [6]) 3 fe bh.2.2.2.1) (dz (o7 [6]) 3 fe bh.2.2.2.2))))) ((jI rfl (jI rfl (jI rfl (jI rfl (uq (f9 .live 3 aM bh.2.2.2.2)))))):me (ad.mk 4 [q2] .live::ad.mk 1 (bh.2.1.map (bj 6 4 3)) .live::ad.mk 1 (bh.2.2.1.map eI) .live::ad.mk 3 (bh.2.2.2.1.map aM) .live::bW)) (c2 (show ad.mk 4 [cD] .live=gC (jG [6]) (ad.mk 4 [bK] .live) from rfl) (c2 fJ (c2 (fT (jG [6]) 1 ky cc.2.1) (c2 (fT (jG [6]) 3 fe cc.2.2.1) (dz (jG [6]) 3 fe cc.2.2.2))))) ((jI rfl (jI rfl (jI rfl (jI rfl (uq (f9 .live 3 aM cc.2.2.2)))))):me (ad.mk 4 [bK] .live::ad.mk 1 (bh.2.1.map (bj 0 4 3)) .live::ad.mk 1 (cc.2.1.map eI) .live::ad.mk 3 (cc.2.2.1.map aM) .live::d5)) (.dU (V5 cc bb) bi.1 bi.2 (bU aM cM) (sG c0 eR) (b7.n .i64 c0))))))
  (fun ab =>
  .ret (bs (t1.append [.U true,(I 1)]) (aS.aG (.e1 (cT ab))))))
def zv (aJ:cI)(cH:List Int):Option Bool :=
 sJ aJ cH >>= fun r1 =>
 if r1=true then
  tZ aJ cH >>= fun bh =>
  tX bh >>= fun cc =>
  some cc
 else
  some false
theorem V6 {aJ:cI}{cH:List Int}:bx (zv aJ cH) (fun r=>Con a7 15 [.agg (hf aJ),.isl 1 (cH.map eI)] [] (.b r) []):=by
 unfold zv
 exact .ar fun r1 h2 =>
  (have ae:=((.e2 (Ng r1 h2) (b7.b r1)):cp _);
  .ite (fun ab =>
  .ar fun bh aA =>
  .ar fun cc bb =>
  .ret (bs [(I 2),.ay (ai 2 (al (bp 2 (.b r1) true) (ai 3 (al (bp 2 (.agg (nR bh)) false) (al (bp 1 (.b cc) true) (al (.U true) (ai 1 [])))))))] (ae.aG (.gJ ab ab ab (Vm bh aA) ab (Vc cc bb) (b7.b cc) ab))))
  (fun ab =>
  .ret (bs [(I 2),.ay (ai 2 (al (bp 2 (.b r1) true) (ai 1 (ck 4 (al (.U false) (ai 1 []))))))] (ae.aG (.dg ab ab ab ab ab)))))
def w6 (aJ:cI)(cH:List Int)(bo:Int):Option Bool :=
 sJ aJ cH >>= fun r1 =>
 if r1=true then
  my bo 0 (J ((len_ bS aJ.bG)-(1:Int))) >>= fun bh =>
  if bh=true then
   wG aJ ([bo]:List Int) >>= fun b4 =>
   zv b4 cH >>= fun b5 =>
   some b5
  else
   some false
 else
  some false
theorem V7 {aJ:cI}{cH:List Int}{bo:Int}:bx (w6 aJ cH bo) (fun r=>Con a7 5 [.agg (hf aJ),.isl 1 (cH.map eI),.n .i64 bo] [] (.b r) []):=by
 unfold w6
 exact .ar fun r1 h2 =>
  (have ae:=((.e2 (Ng r1 h2) (b7.b r1)):cp _);
  .ite (fun ab =>
  .ar fun bh aA =>
  (have aS:=ae.aG (.bg ab ab ab ab ab ab (pG bh aA) (b7.b bh) (.e1 ab));
  .ite (fun aX =>
  .ar fun b4 bi =>
  .ar fun b5 cM =>
  .ret (bs [(I 2),.ay (ai 2 (al (bp 2 (.b r1) true) (ai 6 (al (bp 3 (.b bh) true) (al (.U true) (ai 4 (al (.ss 16 (.call {ac:=[ii,.br (.dh (.ek (([bo]:List Int).map eI)))],r:= .agg (hf b4),fz:=false,fH:=[16]})) (ai 1 (al (bp 2 (.b b5) true) (al (.U true) (ai 1 [])))))))))))] (aS.aG (.bg aX aX aX aX (kO (show [[.n .i64 bo]]=(([bo]:List Int)).map eI from rfl) (show 1=([bo]:List Int).length from rfl)) (gx eI bo) (du aO ([bo]:List Int)) (Uh b4 bi) (.dg aX aX (V6 b5 cM) (b7.b b5) aX)))))
  (fun aX =>
  .ret (bs [(I 2),.ay (ai 2 (al (bp 2 (.b r1) true) (ai 6 (al (bp 3 (.b bh) true) (al (.U true) (ai 1 (ck 6 (al (.U false) (ai 1 [])))))))))] (aS.aG (.eE aX aX aX aX aX aX aX))))))
  (fun ab =>
  .ret (bs [(I 2),.ay (ai 2 (al (bp 2 (.b r1) true) (ai 1 (ck 6 (al (.U false) (ai 1 (ck 6 (ai 2 []))))))))] (ae.aG (.bg ab ab ab ab ab ab ab cL (.dg cL cL cL cL cL))))))
def zw (qP:Int):Option Bool :=
 if (decide ((97:Int)≤qP))=true then
  some (decide (qP≤(122:Int)))
 else
  some false
theorem V8 {qP:Int}:bx (zw qP) (fun r=>Con a7 101 [.n .u8 qP] [] (.b r) []):=by
 unfold zw
 exact .ite (fun h1 =>
  .ret (bs [(I 1),.ay (bq 5 (.U true) 1)] (.bO h1 h1 h1)))
  (fun h1 =>
  .ret (bs [(I 1),.ay (ai 3 (ck 2 (al (.U false) (ai 1 []))))] (.bO h1 h1 h1)))
def zD (qP:Int):Option Bool :=
 if (decide ((48:Int)≤qP))=true then
  some (decide (qP≤(57:Int)))
 else
  some false
theorem Wr {qP:Int}:bx (zD qP) (fun r=>Con a7 102 [.n .u8 qP] [] (.b r) []):=by
 unfold zD
 exact .ite (fun h1 =>
  .ret (bs [(I 1),.ay (bq 5 (.U true) 1)] (.bO h1 h1 h1)))
  (fun h1 =>
  .ret (bs [(I 1),.ay (ai 3 (ck 2 (al (.U false) (ai 1 []))))] (.bO h1 h1 h1)))
def Hp (aJ:ByteArray)(jz:Int):Int→S:=fun gG=>dl [(0,.s aJ),(5,.n .i64 jz),(6,.n .i64 gG)] []
def MO (aJ:ByteArray)(jz:Int):((Unit)⊕(Unit))→dq
 | .inl a=>⟨some 0,[(0,.s aJ)],[]⟩
 | .inr a=>⟨none,[(2,.b false)],[]⟩
def y1 (aJ:ByteArray)(jz gG:Int):Option ((Int)⊕((Unit)⊕(Unit))) :=
 if (decide (gG<jz))=true then
  if 0≤gG∧gG<(aJ.size:Nat) then
  zw ((aJ.data.toList.getD gG.toNat 0).toNat:Int) >>= fun bd =>
  if bd=true then
   some (.inl (J (gG+(1:Int))))
  else
   if (gG == (0:Int))=true then
    some (.inr (.inr ()))
   else
    zD ((aJ.data.toList.getD gG.toNat 0).toNat:Int) >>= fun b4 =>
    if b4=true then
     some (.inl (J (gG+(1:Int))))
    else
     some (.inr (.inr ()))
  else none
 else
  some (.inr (.inl ()))
def CT (aJ:ByteArray)(jz gG:Int):Option ((Unit)⊕(Unit)):=iter (fun w:Int=>y1 aJ jz w) gG
theorem Ut {aJ:ByteArray}{jz gG:Int}:bx (y1 aJ jz gG) (dP a7 33 0 77 [1,0,1,0,0] (Hp aJ jz gG) (Hp aJ jz) (MO aJ jz)):=by
 unfold y1
 exact .ite (fun h1 =>
  .aY fun h2 =>
  .ar fun bd au =>
  (let t1:List bY:=[(I 1),.U true,(I 2)];
  have aS:=((.dg h1 h2.1 h2.2 (V8 bd au) (b7.b bd)):cp _);
  .ite (fun aA =>
  .ret (bf (t1.append [.ay (ai 3 (al (bp 1 (.b bd) true) (ai 2 (ck 3 (ai 5 (ck 1 (al (.U false) []))))))),.U false,(I 2),.aN [] [] (a6 [0,5,6])]) (aS.aG (.dU (cV aA) (cV aA) (cV aA) (cV aA) (cV aA) cL))))
  (fun aA =>
  (have fA:=aS.aG (.bO (cT aA) (cT aA) (cT aA));
  .ite (fun aX =>
  .ret (bf (t1.append [.ay (ai 3 (al (bp 1 (.b bd) true) (ai 5 (ck 5 (al (.U true) (al (.U true) [])))))),.U true,(I 1),.aN [] [] (a6 [2])]) (fA.aG (.bg aX aX aX aX aX (cT aA) aX (cT aA) (.e1 cv)))))
  (fun aX =>
  .ar fun b4 bi =>
  (let t4:List bY:=t1.append [.ay (ai 3 (al (bp 1 (.b bd) true) (ai 8 (al (bp 1 (.b b4) true) (ai 1 (al (.U false) (al (.U true) [])))))))];
  have ma:=fA.aG (.bg aX aX aX h2.1 h2.2 aX (Wr b4 bi) (b7.b b4) (.c5 aX (cT aA) aX (cT aA)));
  .ite (fun cj =>
  .ret (bf (t4.append [.U false,(I 2),.aN [] [] (a6 [0,5,6])]) (ma.aG (.e1 (cV cj)))))
  (fun cj =>
  .ret (bf (t4.append [.U true,(I 1),.aN [] [] (a6 [2])]) (ma.aG (.e1 (cT cj)))))))))))
  (fun h1 =>
  .ret (bf [(I 1),.U false,.aN [] [] (a6 [0])] (.e1 h1)))
theorem H2 {aJ:ByteArray}{jz gG:Int}{r} (h:CT aJ jz gG=some r):dQ a7 33 0 77 [1,0,1,0,0] (Hp aJ jz) (MO aJ jz) gG r:=dR (fun _=>Ut) h
def zN (aJ:ByteArray):Option Bool :=
 CT aJ (aJ.size:Int) 0 >>= fun r1 =>
 match r1 with
 | .inl di=>(if (!(aJ.toList == (⟨#[]⟩:ByteArray).toList))=true then
  some (decide ((aJ.size:Int)≤(8:Int)))
  else
   some false)
 | .inr di=>(some false)
theorem WO {aJ:ByteArray}:bx (zN aJ) (fun r=>Con a7 77 [.s aJ] [] (.b r) []):=by
 unfold zN
 exact .ar fun r1 h2 =>
  (let t1:List bY:=[(I 1),(I 3),.aN [] [] (a6 [0,5,6])];
  (by
  rcases r1 with di|di
  ·exact ((let t2:List bY:=t1.append [.sub (.exit 0) [(0,.s aJ)] []];
  .ite (fun au =>
  .ret (bs (t2.append [.ay (bq 6 (.U true) 1)]) (.dg (H2 h2) au au au au)))
  (fun au =>
  .ret (bs (t2.append [.ay (ai 3 (ck 3 (al (.U false) (ai 1 []))))]) (.dg (H2 h2) au au au au)))))
  ·exact (.ret (bs (t1.append [.sub (.ret) [(2,.b false)] []]) (.e1 (H2 h2))))))
def xb (aW:Int):Option Bool :=
 if (decide ((-50:Int)≤aW))=true then
  some (decide (aW≤(50:Int)))
 else
  some false
theorem M7 {aW:Int}:bx (xb aW) (fun r=>Con a7 78 [.n .i64 aW] [] (.b r) []):=by
 unfold xb
 exact .ite (fun h1 =>
  .ret (bs [(I 1),.ay (bq 5 (.U true) 1)] (.bO h1 h1 h1)))
  (fun h1 =>
  .ret (bs [(I 1),.ay (ai 3 (ck 2 (al (.U false) (ai 1 []))))] (.bO h1 h1 h1)))
def zE (bN:bE):Option Bool :=
 zN bN.k6 >>= fun r1 =>
 if r1=true then
  xb bN.jZ >>= fun bh =>
  if bh=true then
   xb bN.j0 >>= fun b4 =>
   some b4
  else
   some false
 else
  some false
theorem Ws {bN:bE}:bx (zE bN) (fun r=>Con a7 49 [.agg (bI bN)] [] (.b r) []):=by
 unfold zE
 exact .ar fun r1 h2 =>
  (have ae:=((.e2 (WO r1 h2) (b7.b r1)):cp _);
  .ite (fun ab =>
  .ar fun bh aA =>
  (have aS:=ae.aG (.dU ab ab ab (M7 bh aA) (b7.b bh) ab);
  .ite (fun aX =>
  .ar fun b4 bi =>
  .ret (bs [(I 2),.ay (ai 2 (al (bp 1 (.b r1) true) (ai 3 (al (bp 1 (.b bh) true) (al (.U true) (ai 3 (al (bp 1 (.b b4) true) (al (.U true) (ai 1 [])))))))))] (aS.aG (.dU aX aX aX (M7 b4 bi) (b7.b b4) aX))))
  (fun aX =>
  .ret (bs [(I 2),.ay (ai 2 (al (bp 1 (.b r1) true) (ai 3 (al (bp 1 (.b bh) true) (al (.U true) (ai 1 (ck 3 (al (.U false) (ai 1 [])))))))))] (aS.aG (.c5 aX aX aX aX))))))
  (fun ab =>
  .ret (bs [(I 2),.ay (ai 2 (al (bp 1 (.b r1) true) (ai 1 (ck 3 (al (.U false) (ai 1 (ck 3 (ai 2 []))))))))] (ae.aG (.eE ab ab ab ab cL cL cL)))))
def H3 (bN:bE)(dh:ByteArray):Option Bool :=
 some (bN.k6.toList == dh.toList)
theorem UR {bN:bE}{dh:ByteArray}:bx (H3 bN dh) (fun r=>Con a7 80 [.agg (bI bN),.d7 1 [[.s dh]] 0 0] [] (.b r) []):=by
 unfold H3
 exact .ret (bs [(I 2),(I 5)] .nil)
def EU (aJ:List bE)(jP:ByteArray)(dn:Int):Int→S:=fun df=>dl [(0,.isl 4 (aJ.map bI)),(1,.fn 80 [.d7 1 [[.s jP]] 0 0]),(7,.n .i64 dn),(8,.n .i64 df)] []
def L7 (aJ:List bE)(jP:ByteArray)(dn:Int):((Unit)⊕(Int))→dq
 | .inl a=>⟨some 0,[],[]⟩
 | .inr a=>⟨none,[(4,.n .i64 a)],[]⟩
def EV (aJ:List bE)(jP:ByteArray)(dn df:Int):Option ((Int)⊕((Unit)⊕(Int))) :=
 if (decide (df<dn))=true then
  if 0≤df∧df<aJ.length then
  aJ[df.toNat]? >>= fun aE =>
  H3 aE jP >>= fun aK =>
  if aK=true then
   some (.inr (.inr df))
  else
   some (.inl (J (df+(1:Int))))
  else none
 else
  some (.inr (.inl ()))
def Cd (aJ:List bE)(jP:ByteArray)(dn df:Int):Option ((Unit)⊕(Int)):=iter (fun w:Int=>EV aJ jP dn w) df
theorem Su {aJ:List bE}{jP:ByteArray}{dn df:Int}:bx (EV aJ jP dn df) (dP a7 19 0 79 [1,0,1,0,0] (EU aJ jP dn df) (EU aJ jP dn) (L7 aJ jP dn)):=by
 unfold EV
 exact .ite (fun h1 =>
  .aY fun h2 =>
  .ar fun aE au =>
  .ar fun aK aX =>
  (let t1:List bY:=[(I 1),.U true,(I 2),.ay (ai 4 (al (.b2 (bI aE)) (al (bp 2 (.b aK) true) [])))];
  have aS:=((.dU h1 h2.1 (cO bI h2.2) (bU bI au) (UR aK aX) (b7.b aK)):cp _);
  .ite (fun bb =>
  .ret (bf (t1.append [.U true,(I 2),.aN [] [] (a6 [4])]) (aS.aG (.e1 bb))))
  (fun bb =>
  .ret (bf (t1.append [.U false,(I 2),.aN [] [] [(0,ii),(1,.comp [.dh .id]),(7,ii),(8,ii)]]) (aS.aG (.e1 bb))))))
  (fun h1 =>
  .ret (bf [(I 1),.U false,.aN [] [] []] (.e1 h1)))
theorem L9 {aJ:List bE}{jP:ByteArray}{dn df:Int}{r} (h:Cd aJ jP dn df=some r):dQ a7 19 0 79 [1,0,1,0,0] (EU aJ jP dn) (L7 aJ jP dn) df r:=dR (fun _=>Su) h
def Ch (aJ:List bE)(oj:ByteArray):Option Int :=
 Cd aJ oj (len_ bI aJ) 0 >>= fun r1 =>
 match r1 with
 | .inl di=>(some (-1))
 | .inr di=>(some di)
theorem SM {aJ:List bE}{oj:ByteArray}:bx (Ch aJ oj) (fun r=>Con a7 79 [.isl 4 (aJ.map bI),.fn 80 [.d7 1 [[.s oj]] 0 0]] [] (.n .i64 r) []):=by
 unfold Ch
 exact .ar fun r1 h2 =>
  (let t1:List bY:=[(I 1),(I 3),.aN [] [] [(0,ii),(1,.comp [.dh .id]),(7,ii),(8,ii)]];
  (by
  rcases r1 with di|di
  ·exact (.ret (bs (t1.append [.sub (.exit 0) [] [],(I 1)]) (.e1 (L9 h2))))
  ·exact (.ret (bs (t1.append [.sub (.ret) [(4,.n .i64 di)] []]) (.e1 (L9 h2))))))
def zd (aJ:cI)(ku:ByteArray):Option Int :=
 Ch aJ.bZ ku >>= fun r1 =>
 some r1
theorem Vs {aJ:cI}{ku:ByteArray}:bx (zd aJ ku) (fun r=>Con a7 50 [.agg (hf aJ),.s ku] [] (.n .i64 r) []):=by
 unfold zd
 exact .ar fun r1 h2 =>
  .ret (bs [(I 3),.ay (bq 3 (.call {ac:=[ii,.comp [.ptr [.id]]],r:= .n .i64 r1,fz:=true,fH:=[1]}) 1)] (.bO (qj (Pz ku):jx [[.s ku]]) (SM r1 h2) (b7.n .i64 r1)))
def yR (aJ:cI)(ml:bP):Option Bool :=
 if (decide (ml.dE<(0:Int)))=true then
  some false
 else
  if (decide ((len_ bI aJ.bZ)≤ml.dE))=true then
   some false
  else
   if (decide (ml.eg<(0:Int)))=true then
    some false
   else
    if (decide ((len_ bI aJ.bZ)≤ml.eg))=true then
     some false
    else
     if (decide (ml.iU<(1:Int)))=true then
      some false
     else
      if (decide ((3:Int)<ml.iU))=true then
       some false
      else
       if 0≤ml.dE∧ml.dE<aJ.bZ.length then
       aJ.bZ[ml.dE.toNat]? >>= fun l8 =>
       if 0≤ml.eg∧ml.eg<aJ.bZ.length then
       aJ.bZ[ml.eg.toNat]? >>= fun pw =>
       if (l8.jZ != pw.jZ)=true then
        if l8.k3=true then
         some (!pw.k3)
        else
         some true
       else
        if (l8.j0 != pw.j0)=true then
         if l8.k3=true then
          some (!pw.k3)
         else
          some true
        else
         some false
       else none
       else none
theorem Tq {aJ:cI}{ml:bP}:bx (yR aJ ml) (fun r=>Con a7 53 [.d7 2 [(hf aJ)] 0 0,.agg (bS ml)] [] (.b r) []):=by
 unfold yR
 exact .ite (fun h1 =>
  .ret (bs [(I 2),(I 6),.ay (ai 4 (ck 4 (al (.U true) (ai 1 (ck 3 (ai 2 (ck 4 (ai 2 (ck 3 (ai 2 (ck 3 (ai 1 [])))))))))))),.U true,(I 1)] (.bg h1 h1 h1 h1 h1 cv cv cv (.bg cv cv cv cv cv cv cv cv (.bO cv cv cv)))))
  (fun h1 =>
  .ite (fun h2 =>
  .ret (bs [(I 2),(I 6),.ay (ai 8 (al (.U false) (ai 1 (ck 3 (al (.U true) (ai 1 (ck 4 (ai 2 (ck 3 (ai 2 (ck 3 (ai 1 [])))))))))))),.U true,(I 1)] (.bg h1 h1 h1 h1 h1 h2 h2 h2 (.bg h2 cv cv cv cv cv cv cv (.c5 cv cv cv cv)))))
  (fun h2 =>
  (have ae:=((.bg h1 h1 h1 h1 h1 h2 h2 h2 (.e1 h2)):cp _);
  .ite (fun ab =>
  .ret (bs [(I 2),(I 6),.ay (ai 8 (al (.U false) (ai 4 (al (.U false) (ai 1 (ck 4 (al (.U true) (ai 1 (ck 3 (ai 2 (ck 3 (ai 1 [])))))))))))),.U true,(I 1)] (ae.aG (.bg ab ab ab ab ab cv cv cv (.c5 cv cv cv cv)))))
  (fun ab =>
  .ite (fun au =>
  .ret (bs [(I 2),(I 6),.ay (ai 8 (al (.U false) (ai 4 (al (.U false) (ai 5 (al (.U false) (ai 1 (ck 3 (al (.U true) (ai 1 (ck 3 (ai 1 [])))))))))))),.U true,(I 1)] (ae.aG (.bg ab ab ab ab ab au au au (.dg au cv cv cv cv)))))
  (fun au =>
  (have aS:=ae.aG (.bg ab ab ab ab ab au au au (.e1 au));
  .ite (fun aA =>
  .ret (bs [(I 2),(I 6),.ay (ai 8 (al (.U false) (ai 4 (al (.U false) (ai 5 (al (.U false) (ai 4 (al (.U false) (ai 1 (ck 3 (al (.U true) []))))))))))),.U true,(I 1)] (aS.aG (.dg aA aA aA aA cv))))
  (fun aA =>
  (let t3:List bY:=[(I 2),(I 6),.ay (ai 8 (al (.U false) (ai 4 (al (.U false) (ai 5 (al (.U false) (ai 4 (al (.U false) (ai 4 (al (.U false) []))))))))))];
  .ite (fun aX =>
  .ret (bs (t3.append [.U true,(I 1)]) (aS.aG (.dg aA aA aA aA aX))))
  (fun aX =>
  .aY fun bb =>
  .ar fun l8 cj =>
  .aY fun cM =>
  .ar fun pw eR =>
  (let t4:List bY:=t3.append [.U false,.ay (ai 7 (al (.b2 (bI l8)) (bq 7 (.b2 (bI pw)) 4)))];
  have ma:=aS.aG (.bg aA aA aA aA aX bb.1 (cO bI bb.2) (bU bI cj) (.bO cM.1 (cO bI cM.2) (bU bI eR)));
  .ite (fun el =>
  (have kF:=ma.aG (.bg el el el el el el cv cv (.e1 cv));
  .ite (fun ew =>
  .ret (bs (t4.append [.ay (ai 6 (ck 5 (al (.U true) (bq 6 (.U true) 3))))]) (kF.aG (.dg ew ew cv ew cv))))
  (fun ew =>
  .ret (bs (t4.append [.ay (ai 6 (ck 5 (al (.U true) (ai 4 (ck 2 (al (.U false) (ai 3 [])))))))]) (kF.aG (.dg ew ew cv ew cv))))))
  (fun el =>
  .ite (fun ew =>
  (have kF:=ma.aG (.bg el el el el el el ew ew (.e1 ew));
  .ite (fun fO =>
  .ret (bs (t4.append [.ay (ai 11 (al (.U false) (ai 6 (al (.U true) (bq 1 (.U true) 1)))))]) (kF.aG (.dU fO fO ew fO ew ew))))
  (fun fO =>
  .ret (bs (t4.append [.ay (ai 11 (al (.U false) (ai 4 (ck 2 (al (.U false) (bq 1 (.U true) 1))))))]) (kF.aG (.dU fO fO ew fO ew ew))))))
  (fun ew =>
  .ret (bs (t4.append [.ay (ai 11 (al (.U false) (ai 1 (ck 3 (ai 2 (ck 2 (al (.U false) (ai 1 []))))))))]) (ma.aG (.bg el el el el el el ew ew (.c5 ew ew ew ew))))))))))))))))
def tT (ml:bP)(dh:cI):Option Bool :=
 yR dh ml >>= fun r1 =>
 some (!r1)
theorem UN {ml:bP}{dh:cI}:bx (tT ml dh) (fun r=>Con a7 52 [.agg (bS ml),.d7 2 [(hf dh)] 0 0] [] (.b r) []):=by
 unfold tT
 exact .ar fun r1 h2 =>
  .ret (bs [(I 2),.ay (bq 1 (bp 2 (.b r1) true) 2)] (.e2 (Tq r1 h2) (b7.b r1)))
def ET (aJ:List bP)(jP:List bE)(ol:List bP)(dn:Int):Int→S:=fun df=>dl [(0,.isl 3 (aJ.map bS)),(1,.fn 52 [.d7 2 [[.isl 4 (jP.map bI),.isl 3 (ol.map bS)]] 0 0]),(7,.n .i64 dn),(8,.n .i64 df)] []
def L6 (aJ:List bP)(jP:List bE)(ol:List bP)(dn:Int):((Unit)⊕(Int))→dq
 | .inl a=>⟨some 0,[],[]⟩
 | .inr a=>⟨none,[(4,.n .i64 a)],[]⟩
def nM (aJ:List bP)(jP:List bE)(ol:List bP)(dn df:Int):Option ((Int)⊕((Unit)⊕(Int))) :=
 if (decide (df<dn))=true then
  if 0≤df∧df<aJ.length then
  aJ[df.toNat]? >>= fun aE =>
  tT aE (⟨jP,ol⟩:cI) >>= fun aK =>
  if aK=true then
   some (.inr (.inr df))
  else
   some (.inl (J (df+(1:Int))))
  else none
 else
  some (.inr (.inl ()))
def tE (aJ:List bP)(jP:List bE)(ol:List bP)(dn df:Int):Option ((Unit)⊕(Int)):=iter (fun w:Int=>nM aJ jP ol dn w) df
theorem St {aJ:List bP}{jP:List bE}{ol:List bP}{dn df:Int}:bx (nM aJ jP ol dn df) (dP a7 19 0 81 [1,0,1,0,0] (ET aJ jP ol dn df) (ET aJ jP ol dn) (L6 aJ jP ol dn)):=by
 unfold nM
 exact .ite (fun h1 =>
  .aY fun h2 =>
  .ar fun aE au =>
  .ar fun aK aX =>
  (let t1:List bY:=[(I 1),.U true,(I 2),.ay (ai 4 (al (.b2 (bS aE)) (al (bp 2 (.b aK) true) [])))];
  have aS:=((.dU h1 h2.1 (cO bS h2.2) (bU bS au) (UN aK aX) (b7.b aK)):cp _);
  .ite (fun bb =>
  .ret (bf (t1.append [.U true,(I 2),.aN [] [] (a6 [4])]) (aS.aG (.e1 bb))))
  (fun bb =>
  .ret (bf (t1.append [.U false,(I 2),.aN [] [] [(0,ii),(1,.comp [.dh .id]),(7,ii),(8,ii)]]) (aS.aG (.e1 bb))))))
  (fun h1 =>
  .ret (bf [(I 1),.U false,.aN [] [] []] (.e1 h1)))
theorem L8 {aJ:List bP}{jP:List bE}{ol:List bP}{dn df:Int}{r} (h:tE aJ jP ol dn df=some r):dQ a7 19 0 81 [1,0,1,0,0] (ET aJ jP ol dn) (L6 aJ jP ol dn) df r:=dR (fun _=>St) h
def yM (aJ:List bP)(oj:cI):Option Int :=
 tE aJ oj.bZ oj.bG (len_ bS aJ) 0 >>= fun r1 =>
 match r1 with
 | .inl di=>(some (-1))
 | .inr di=>(some di)
theorem SG {aJ:List bP}{oj:cI}:bx (yM aJ oj) (fun r=>Con a7 81 [.isl 3 (aJ.map bS),.fn 52 [.d7 2 [(hf oj)] 0 0]] [] (.n .i64 r) []):=by
 unfold yM
 exact .ar fun r1 h2 =>
  (let t1:List bY:=[(I 1),(I 3),.aN [] [] [(0,ii),(1,.comp [.dh .id]),(7,ii),(8,ii)]];
  (by
  rcases r1 with di|di
  ·exact (.ret (bs (t1.append [.sub (.exit 0) [] [],(I 1)]) (.e1 (L8 h2))))
  ·exact (.ret (bs (t1.append [.sub (.ret) [(4,.n .i64 di)] []]) (.e1 (L8 h2))))))
def yK (aJ:List bP)(oj:cI):Option Bool :=
 yM aJ oj >>= fun r1 =>
 some (decide ((0:Int)≤r1))
theorem SB {aJ:List bP}{oj:cI}:bx (yK aJ oj) (fun r=>Con a7 51 [.isl 3 (aJ.map bS),.fn 52 [.d7 2 [(hf oj)] 0 0]] [] (.b r) []):=by
 unfold yK
 exact .ar fun r1 h2 =>
  .ret (bs [(I 1),.ay (bq 2 (bp 2 (.n .i64 r1) true) 2)] (.e2 (SG r1 h2) (b7.n .i64 r1)))
def FL (dV:List bE)(oA:Int)(aH:List bP):Int→S:=fun nX=>dl [(1,.ref 0 0 0 0),(16,.isl 4 (dV.map bI)),(17,.n .i64 oA),(18,.n .i64 nX)] [[ad.mk 2 [[.isl 4 (dV.map bI),.isl 3 (aH.map bS)]] .live]]
def F4 (dV:List bE)(oA:Int)(aH:List bP):((Unit)⊕(Unit))→dq
 | .inl a=>⟨some 0,[(1,.ref 0 0 0 0)],[[ad.mk 2 [[.isl 4 (dV.map bI),.isl 3 (aH.map bS)]] .live]]⟩
 | .inr a=>⟨none,[(2,.b false)],[]⟩
def Cm (dV:List bE)(oA:Int)(aH:List bP)(nX:Int):Option ((Int)⊕((Unit)⊕(Unit))) :=
 if (decide (nX<oA))=true then
  if 0≤nX∧nX<dV.length then
  dV[nX.toNat]? >>= fun aE =>
  zE aE >>= fun aK =>
  if aK=true then
   zd (⟨dV,aH⟩:cI) aE.k6 >>= fun cZ =>
   if (cZ != nX)=true then
    some (.inr (.inr ()))
   else
    some (.inl (J (nX+(1:Int))))
  else
   some (.inr (.inr ()))
  else none
 else
  some (.inr (.inl ()))
def Cw (dV:List bE)(oA:Int)(aH:List bP)(nX:Int):Option ((Unit)⊕(Unit)):=iter (fun w:Int=>Cm dV oA aH w) nX
theorem Td {dV:List bE}{oA:Int}{aH:List bP}{nX:Int}:bx (Cm dV oA aH nX) (dP a7 40 0 31 [1,1,0,1,0,0] (FL dV oA aH nX) (FL dV oA aH) (F4 dV oA aH)):=by
 unfold Cm
 exact .ite (fun h1 =>
  .aY fun h2 =>
  .ar fun aE au =>
  .ar fun aK aX =>
  (let t1:List bY:=[(I 1),.U true,.ay (bq 2 (.b2 (bI aE)) 3)];
  have aS:=((.dU h1 h2.1 (cO bI h2.2) (bU bI au) (Ws aK aX) (b7.b aK)):cp _);
  .ite (fun bb =>
  .ar fun cZ cj =>
  (let t3:List bY:=t1.append [.ay (ai 1 (al (bp 1 (.b aK) true) (ai 5 (al (bp 2 (.n .i64 cZ) true) (ai 2 (al (.U false) []))))))];
  have eO:=aS.aG (.bg (cV bb) (cV bb) (cV bb) (cV bb) (Vs cZ cj) (b7.n .i64 cZ) (cV bb) (cV bb) (.e1 (cV bb)));
  .ite (fun cM =>
  .ret (bf (t3.append [.U true,(I 1),.aN [] [] (a6 [2])]) (eO.aG (.e1 cM))))
  (fun cM =>
  .ret (bf (t3.append [.U false,(I 2),.aN [0] [.box [.id,.id]] (a6 [1,16,17,18])]) (eO.aG (.e1 cM))))))
  (fun bb =>
  .ret (bf (t1.append [.ay (ai 1 (al (bp 1 (.b aK) true) (ai 2 (ck 6 (al (.U true) []))))),.U true,(I 1),.aN [] [] (a6 [2])]) (aS.aG (.gJ (cT bb) (cT bb) (cT bb) (cT bb) (cT bb) (cT bb) (cT bb) cv))))))
  (fun h1 =>
  .ret (bf [(I 1),.U false,.aN [0] [.box [.id,.id]] (a6 [1])] (.e1 h1)))
theorem Mr {dV:List bE}{oA:Int}{aH:List bP}{nX:Int}{r} (h:Cw dV oA aH nX=some r):dQ a7 40 0 31 [1,1,0,1,0,0] (FL dV oA aH) (F4 dV oA aH) nX r:=dR (fun _=>Td) h
def wW (aJ:cI):Option Bool :=
 if (decide ((6:Int)<(len_ bI aJ.bZ)))=true then
  some false
 else
  if (decide ((8:Int)<(len_ bS aJ.bG)))=true then
   some false
  else
   Cw aJ.bZ (len_ bI aJ.bZ) aJ.bG 0 >>= fun bd =>
   match bd with
   | .inl fP=>(yK aJ.bG aJ >>= fun cc =>
    some (!cc))
   | .inr fP=>(some false)
theorem Vd {aJ:cI}:bx (wW aJ) (fun r=>Con a7 31 [.agg (hf aJ)] [] (.b r) []):=by
 unfold wW
 exact .ite (fun h1 =>
  .ret (bs [(I 2),.ay (ai 5 (ck 4 (al (.U true) []))),.U true,(I 1)] (.dU h1 h1 h1 h1 h1 cv)))
  (fun h1 =>
  (let t1:List bY:=[(I 2),.ay (ai 9 (al (.U false) []))];
  .ite (fun h2 =>
  .ret (bs (t1.append [.U true,(I 1)]) (.dU h1 h1 h1 h1 h1 h2)))
  (fun h2 =>
  .ar fun bd au =>
  (let t2:List bY:=t1.append [.U false,(I 4),.aN [0] [.box [.id,.id]] (a6 [1,16,17,18])];
  (by
  rcases bd with fP|fP
  ·exact (.ar fun cc bb =>
  .ret (bs (t2.append [(F4 aJ.bZ (len_ bI aJ.bZ) aJ.bG (.inl fP)).e8,.ay (bq 3 (.call {ac:=[ii,.comp [.ptr [.id,.id]]],r:= .b cc,fz:=true,fH:=[0]}) 2)]) (.bg h1 h1 h1 h1 h1 h2 (Mr au) (qj (CC aJ):jx [(hf aJ)]) (.e2 (SB cc bb) (b7.b cc)))))
  ·exact (.ret (bs (t2.append [.sub (.ret) [(2,.b false)] []]) (.eE h1 h1 h1 h1 h1 h2 (Mr au)))))))))
def zF (aW:Int):Option Bool :=
 if (decide ((-100:Int)≤aW))=true then
  some (decide (aW≤(100:Int)))
 else
  some false
theorem Wt {aW:Int}:bx (zF aW) (fun r=>Con a7 56 [.n .i64 aW] [] (.b r) []):=by
 unfold zF
 exact .ite (fun h1 =>
  .ret (bs [(I 1),.ay (bq 5 (.U true) 1)] (.bO h1 h1 h1)))
  (fun h1 =>
  .ret (bs [(I 1),.ay (ai 3 (ck 2 (al (.U false) (ai 1 []))))] (.bO h1 h1 h1)))
def CJ (aW:Int):Option Bool :=
 zF aW >>= fun r1 =>
 some (!r1)
theorem Vt {aW:Int}:bx (CJ aW) (fun r=>Con a7 55 [.n .i64 aW] [] (.b r) []):=by
 unfold CJ
 exact .ar fun r1 h2 =>
  .ret (bs [(I 1),.ay (bq 1 (bp 1 (.b r1) true) 2)] (.e2 (Wt r1 h2) (b7.b r1)))
def EW (aJ:List Int)(dn:Int):Int→S:=fun df=>dl [(0,.isl 1 (aJ.map eI)),(1,.fn 55 []),(7,.n .i64 dn),(8,.n .i64 df)] []
def Ma (aJ:List Int)(dn:Int):((Unit)⊕(Int))→dq
 | .inl a=>⟨some 0,[],[]⟩
 | .inr a=>⟨none,[(4,.n .i64 a)],[]⟩
def vy (aJ:List Int)(dn df:Int):Option ((Int)⊕((Unit)⊕(Int))) :=
 if (decide (df<dn))=true then
  if 0≤df∧df<aJ.length then
  aJ[df.toNat]? >>= fun aE =>
  CJ aE >>= fun aK =>
  if aK=true then
   some (.inr (.inr df))
  else
   some (.inl (J (df+(1:Int))))
  else none
 else
  some (.inr (.inl ()))
def Fa (aJ:List Int)(dn df:Int):Option ((Unit)⊕(Int)):=iter (fun w:Int=>vy aJ dn w) df
theorem Sv {aJ:List Int}{dn df:Int}:bx (vy aJ dn df) (dP a7 19 0 82 [1,0,1,0,0] (EW aJ dn df) (EW aJ dn) (Ma aJ dn)):=by
 unfold vy
 exact .ite (fun h1 =>
  .aY fun h2 =>
  .ar fun aE au =>
  .ar fun aK aX =>
  (let t1:List bY:=[(I 1),.U true,(I 2),.ay (ai 4 (al (.b2 (eI aE)) (al (bp 1 (.b aK) true) [])))];
  have aS:=((.dU h1 h2.1 (cO eI h2.2) (bU eI au) (Vt aK aX) (b7.b aK)):cp _);
  .ite (fun bb =>
  .ret (bf (t1.append [.U true,(I 2),.aN [] [] (a6 [4])]) (aS.aG (.e1 bb))))
  (fun bb =>
  .ret (bf (t1.append [.U false,(I 2),.aN [] [] (a6 [0,1,7,8])]) (aS.aG (.e1 bb))))))
  (fun h1 =>
  .ret (bf [(I 1),.U false,.aN [] [] []] (.e1 h1)))
theorem Mb {aJ:List Int}{dn df:Int}{r} (h:Fa aJ dn df=some r):dQ a7 19 0 82 [1,0,1,0,0] (EW aJ dn) (Ma aJ dn) df r:=dR (fun _=>Sv) h
def Cj (aJ:List Int):Option Int :=
 Fa aJ (len_ eI aJ) 0 >>= fun r1 =>
 match r1 with
 | .inl di=>(some (-1))
 | .inr di=>(some di)
theorem SZ {aJ:List Int}:bx (Cj aJ) (fun r=>Con a7 82 [.isl 1 (aJ.map eI),.fn 55 []] [] (.n .i64 r) []):=by
 unfold Cj
 exact .ar fun r1 h2 =>
  (let t1:List bY:=[(I 1),(I 3),.aN [] [] (a6 [0,1,7,8])];
  (by
  rcases r1 with di|di
  ·exact (.ret (bs (t1.append [.sub (.exit 0) [] [],(I 1)]) (.e1 (Mb h2))))
  ·exact (.ret (bs (t1.append [.sub (.ret) [(4,.n .i64 di)] []]) (.e1 (Mb h2))))))
def Ce (aJ:List Int):Option Bool :=
 Cj aJ >>= fun r1 =>
 some (decide ((0:Int)≤r1))
theorem SH {aJ:List Int}:bx (Ce aJ) (fun r=>Con a7 54 [.isl 1 (aJ.map eI),.fn 55 []] [] (.b r) []):=by
 unfold Ce
 exact .ar fun r1 h2 =>
  .ret (bs [(I 1),.ay (bq 2 (bp 2 (.n .i64 r1) true) 2)] (.e2 (SZ r1 h2) (b7.n .i64 r1)))
def zx (aJ:cI)(cH:List Int):Option Bool :=
 if ((len_ eI cH) == (J ((2:Int)*(len_ bI aJ.bZ))))=true then
  Ce cH >>= fun r2 =>
  some (!r2)
 else
  some false
theorem V9 {aJ:cI}{cH:List Int}:bx (zx aJ cH) (fun r=>Con a7 32 [.d7 2 [(hf aJ)] 0 0,.isl 1 (cH.map eI)] [] (.b r) []):=by
 unfold zx
 exact .ite (fun h1 =>
  .ar fun r2 ab =>
  .ret (bs [(I 1),.ay (ai 11 (al (bp 2 (.b r2) true) (bq 1 (.U true) 1)))] (.dU h1 h1 (SH r2 ab) (b7.b r2) h1 h1)))
  (fun h1 =>
  .ret (bs [(I 1),.ay (ai 10 (ck 3 (al (.U false) (ai 1 []))))] (.c5 h1 h1 h1 h1)))
def xg (aJ:cI)(cH:List Int):Option Bool :=
 wW aJ >>= fun r1 =>
 if r1=true then
  zx aJ cH >>= fun bh =>
  some bh
 else
  some false
theorem WQ {aJ:cI}{cH:List Int}:bx (xg aJ cH) (fun r=>Con a7 19 [.agg (hf aJ),.isl 1 (cH.map eI)] [] (.b r) []):=by
 unfold xg
 exact .ar fun r1 h2 =>
  (have ae:=((.e2 (Vd r1 h2) (b7.b r1)):cp _);
  .ite (fun ab =>
  .ar fun bh aA =>
  .ret (bs [(I 2),.ay (ai 1 (al (bp 1 (.b r1) true) (ai 2 (al (.call {ac:=[.br (.ptr [.id,.id]),ii],r:= .b bh,fz:=true,fH:=[0]}) (al (.U true) (ai 1 []))))))] (ae.aG (.dU ab ab (qj (CC aJ):jx [(hf aJ)]) (V9 bh aA) (b7.b bh) ab))))
  (fun ab =>
  .ret (bs [(I 2),.ay (ai 1 (al (bp 1 (.b r1) true) (ai 1 (ck 2 (al (.U false) (ai 1 []))))))] (ae.aG (.bO ab ab ab)))))
def CW (aJ:List bE):Option (List bE) :=
 if aJ.length*40≤140737488355328 then some aJ else none
theorem Wu:Con a7 33 [.ei] [] (.isl 4 (([]:List bE).map bI)) []:=bs [(I 1),(I 2),.U true,(I 1)] (.e1 cv) (.br (.dh (.jE 4)))
theorem Wv:Con a7 33 [.h7] [] (.isl 4 (([]:List bE).map bI)) []:=(by
 have h:=fun (h1:(([]:List bE)++([]:List bE)).length*40≤140737488355328)=>(bs [(I 1),(I 2),.U false,.ay (bq 2 (.aG ((([]:List bE)++([]:List bE)).length)) 1)] (.eE cL (m1 (show []=(([]:List bE)).map bI from rfl) (eY bE)) (lD (eY bE) (nk bI):(([]:List bE)++([]:List bE)).length=0+([]:List (List az)).length) h1 (kO (hZ (show []=(([]:List bE)).map bI from rfl) (eY bE) (nk bI)) (dF (([]:List bE)++([]:List bE)))) (kZ (hZ (show []=(([]:List bE)).map bI from rfl) (eY bE) (nk bI)) (dF (([]:List bE)++([]:List bE)))) (du mx (([]:List bE)++([]:List bE)))) (.br (.dh (.ek ((([]:List bE)++([]:List bE)).map bI)))):Con a7 33 [.h7] [] (.isl 4 ((([]:List bE)++([]:List bE)).map bI)) [])
 exact h (by decide))
theorem Ww (x:bE)(l:List bE)(h1:(([]:List bE)++(x::l)).length*40≤140737488355328):Con a7 33 [.isl 4 ((x::l).map bI)] [] (.isl 4 ((([]:List bE)++(x::l)).map bI)) []:=bs [(I 1),.ay (ai 1 (al .fM [])),.U false,.ay (bq 2 (.aG ((([]:List bE)++(x::l)).length)) 1)] (.gJ (by simp:(x::l).map bI≠[]) cL (m1 (show []=(([]:List bE)).map bI from rfl) (eY bE)) (lD (eY bE) (cR bI (x::l)):(([]:List bE)++(x::l)).length=0+((x::l).map bI).length) h1 (kO (hZ (show []=(([]:List bE)).map bI from rfl) (eY bE) (cR bI (x::l))) (dF (([]:List bE)++(x::l)))) (kZ (hZ (show []=(([]:List bE)).map bI from rfl) (eY bE) (cR bI (x::l))) (dF (([]:List bE)++(x::l)))) (du mx (([]:List bE)++(x::l)))) (.br (.dh (.ek ((([]:List bE)++(x::l)).map bI))))
theorem Wa {aJ:List bE}:bx (CW aJ) (fun r=>Con a7 33 [.isl 4 (aJ.map bI)] [] (.isl 4 (r.map bI)) []):=by
 unfold CW
 refine .aY fun h=> .ret ?_
 cases aJ with
 | nil=>exact .jV Wu Wv
 | cons x l =>
  have h2:=Ww x l (by simpa using h)
  simpa using h2
def IC (aJ:List Int)(ej dn:Int):Int→S:=fun df=>dl [(0,.isl 1 (aJ.map eI)),(1,.n .i64 ej),(7,.n .i64 dn),(8,.n .i64 df)] []
def Np (aJ:List Int)(ej dn:Int):((Unit)⊕(Int))→dq
 | .inl a=>⟨some 0,[],[]⟩
 | .inr a=>⟨none,[(4,.n .i64 a)],[]⟩
def rF (aJ:List Int)(ej dn df:Int):Option ((Int)⊕((Unit)⊕(Int))) :=
 if (decide (df<dn))=true then
  if 0≤df∧df<aJ.length then
  aJ[df.toNat]? >>= fun aE =>
  if (ej == aE)=true then
   some (.inr (.inr df))
  else
   some (.inl (J (df+(1:Int))))
  else none
 else
  some (.inr (.inl ()))
def Dc (aJ:List Int)(ej dn df:Int):Option ((Unit)⊕(Int)):=iter (fun w:Int=>rF aJ ej dn w) df
theorem Vu {aJ:List Int}{ej dn df:Int}:bx (rF aJ ej dn df) (dP a7 19 0 57 [1,0,1,0,0] (IC aJ ej dn df) (IC aJ ej dn) (Np aJ ej dn)):=by
 unfold rF
 exact .ite (fun h1 =>
  .aY fun h2 =>
  .ar fun aE au =>
  (let t1:List bY:=[(I 1),.U true,(I 2),.ay (bq 4 (.b2 (eI aE)) 1)];
  have aS:=((.c5 h1 h2.1 (cO eI h2.2) (bU eI au)):cp _);
  .ite (fun aA =>
  .ret (bf (t1.append [.U true,(I 2),.aN [] [] (a6 [4])]) (aS.aG (.e1 aA))))
  (fun aA =>
  .ret (bf (t1.append [.U false,(I 2),.aN [] [] (a6 [0,1,7,8])]) (aS.aG (.e1 aA))))))
  (fun h1 =>
  .ret (bf [(I 1),.U false,.aN [] [] []] (.e1 h1)))
theorem Nu {aJ:List Int}{ej dn df:Int}{r} (h:Dc aJ ej dn df=some r):dQ a7 19 0 57 [1,0,1,0,0] (IC aJ ej dn) (Np aJ ej dn) df r:=dR (fun _=>Vu) h
def Ae (aJ:List Int)(ej:Int):Option Int :=
 Dc aJ ej (len_ eI aJ) 0 >>= fun r1 =>
 match r1 with
 | .inl di=>(some (-1))
 | .inr di=>(some di)
theorem Yf {aJ:List Int}{ej:Int}:bx (Ae aJ ej) (fun r=>Con a7 57 [.isl 1 (aJ.map eI),.n .i64 ej] [] (.n .i64 r) []):=by
 unfold Ae
 exact .ar fun r1 h2 =>
  (let t1:List bY:=[(I 1),(I 3),.aN [] [] (a6 [0,1,7,8])];
  (by
  rcases r1 with di|di
  ·exact (.ret (bs (t1.append [.sub (.exit 0) [] [],(I 1)]) (.e1 (Nu h2))))
  ·exact (.ret (bs (t1.append [.sub (.ret) [(4,.n .i64 di)] []]) (.e1 (Nu h2))))))
def rL (aJ:List Int)(ej:Int):Option Bool :=
 Ae aJ ej >>= fun r1 =>
 some (decide ((0:Int)≤r1))
theorem I7 {aJ:List Int}{ej:Int}:bx (rL aJ ej) (fun r=>Con a7 34 [.isl 1 (aJ.map eI),.n .i64 ej] [] (.b r) []):=by
 unfold rL
 exact .ar fun r1 h2 =>
  .ret (bs [(I 1),.ay (bq 2 (bp 2 (.n .i64 r1) true) 2)] (.e2 (Yf r1 h2) (b7.n .i64 r1)))
def Ft (hv:List Int)(b9:List bP)(bT:Int)(bF:List bE):(Int×(List bP))→S:=fun (de,ax)=>dl [(1,.isl 1 (hv.map eI)),(4,.ref 0 0 0 0),(5,.ref 1 0 0 0),(13,.isl 3 (b9.map bS)),(14,.n .i64 bT),(15,.n .i64 de)] [[ad.mk 2 [[.ei,.ei]] .live],[ad.mk 2 [[.isl 4 (bF.map bI),.bk 2 0 0 ax.length]] .live],(ae 3 bS ax)]
def FB (hv:List Int)(b9:List bP)(bT:Int)(bF:List bE):(List bP)→dq
 | a=>⟨some 0,[(4,.ref 0 0 0 0),(5,.ref 1 0 0 0)],[[ad.mk 2 [[.ei,.ei]] .live],[ad.mk 2 [[.isl 4 (bF.map bI),.bk 2 0 0 a.length]] .live],(ae 3 bS a)]⟩
def vO (hv:List Int)(b9:List bP)(bT:Int)(bF:List bE)(de:Int)(ax:List bP):Option ((Int×(List bP))⊕((List bP))) :=
 if (decide (de<bT))=true then
  if 0≤de∧de<b9.length then
  b9[de.toNat]? >>= fun aE =>
  rL hv de >>= fun aK =>
  if aK=true then
   some (.inl (J (de+(1:Int)),ax))
  else
   if (ax++([aE]:List bP)).length*24≤140737488355328 then
   some (.inl (J (de+(1:Int)),ax++([aE]:List bP)))
   else none
  else none
 else
  some (.inr ax)
def Gi (hv:List Int)(b9:List bP)(bT:Int)(bF:List bE)(de:Int)(ax:List bP):Option ((List bP)):=iter (fun w:Int×(List bP)=>vO hv b9 bT bF w.1 w.2) (de,ax)
theorem S0 {hv:List Int}{b9:List bP}{bT:Int}{bF:List bE}{de:Int}{ax:List bP}:bx (vO hv b9 bT bF de ax) (dP a7 32 0 20 [1,1,0,1,0,0] (Ft hv b9 bT bF (de,ax)) (Ft hv b9 bT bF) (FB hv b9 bT bF)):=by
 unfold vO
 exact .ite (fun h1 =>
  .aY fun h2 =>
  .ar fun aE au =>
  .ar fun aK aX =>
  (let t1:List bY:=[(I 1),.U true,.ay (bq 2 (.b2 (bS aE)) 3),.ay (bq 2 (bp 2 (.b aK) true) 1)];
  have aS:=((.dU h1 h2.1 (cO bS h2.2) (bU bS au) (I7 aK aX) (b7.b aK)):cp _);
  .ite (fun bb =>
  .ret (bf (t1.append [.U false,(I 2),.aN [0,1,2] [.box [.id,.id],.box [.id,.id],.pure] (a6 [1,4,5,13,14,15])]) (aS.aG (.e2 (cV bb) (aF 3 .live lA ax)))))
  (fun bb =>
  .aY fun bi =>
  .ret (let q1:=(ax++([aE]:List bP));bf (t1.append [.U true,.ay (bq 4 (.aG (q1.length)) 2),(I 2),.aN [0,1,18] [.box [.id,.id],.box [.id,.id],.cu (ae 3 bS q1)] (a6 [1,4,5,13,14,15])]) (aS.aG (.eE (cT bb) (gx bS aE) (gV bS ax) (gy bS ax aE) bi (cU 3 .live (ha bS ax aE)) (aF 3 .live lA q1)))))))
  (fun h1 =>
  .ret (bf [(I 1),.U false,.aN [0,1,2] [.box [.id,.id],.box [.id,.id],.pure] (a6 [4,5])] (.e2 h1 (aF 3 .live lA ax))))
theorem TA {hv:List Int}{b9:List bP}{bT:Int}{bF:List bE}{de:Int}{ax:List bP}{r} (h:Gi hv b9 bT bF de ax=some r):dQ a7 32 0 20 [1,1,0,1,0,0] (Ft hv b9 bT bF) (FB hv b9 bT bF) (de,ax) r:=dR (fun _=>S0) h
def wK (aJ:cI)(hv:List Int):Option cI :=
 CW aJ.bZ >>= fun r1 =>
 Gi hv aJ.bG (len_ bS aJ.bG) r1 0 ([]:List bP) >>= fun bd =>
 some (⟨r1,bd⟩:cI)
theorem Uu {aJ:cI}{hv:List Int}:bx (wK aJ hv) (fun r=>Con a7 20 [.agg (hf aJ),.isl 1 (hv.map eI)] [] (.agg (hf r)) []):=by
 unfold wK
 exact .ar fun r1 h2 =>
  .ar fun bd au =>
  .ret (bs [(I 2),.ay (bq 2 (bp 1 (.isl 4 (r1.map bI)) false) 3),(I 4),.rq 6 1 3,.aN [1,6,12] [.box [.id,.id],.box [.id,.len (([]:List bP).length)],.cu (ae 3 bS ([]:List bP))] (a6 [1,4,5,13,14,15]),(FB hv aJ.bG (len_ bS aJ.bG) r1 bd).e8,(I 2)] (.gJ (Wa r1 h2) (eY bP) (cU 3 .live (nk bS)) (aF 3 .live lA ([]:List bP)) (TA au) (ga bS bd) (fF bS bd) (du lA bd)) (.br (.agg [.id,.ek (bd.map bS)])))
def E5 (dZ:List bE)(cW:Int):(Int×(List Int))→S:=fun (cX,aa)=>dl [(3,.bk 0 0 0 aa.length),(9,.isl 4 (dZ.map bI)),(10,.n .i64 cW),(11,.n .i64 cX)] [(ae 1 eI aa)]
def Md (dZ:List bE)(cW:Int):(List Int)→dq
 | a=>⟨some 0,[(3,.bk 0 0 0 a.length)],[(ae 1 eI a)]⟩
def yL (dZ:List bE)(cW cX:Int)(aa:List Int):Option ((Int×(List Int))⊕((List Int))) :=
 if (decide (cX<cW))=true then
  if 0≤cX∧cX<dZ.length then
  dZ[cX.toNat]? >>= fun aE =>
  if aE.k3=true then
   some (.inl (J (cX+(1:Int)),aa))
  else
   if (aa++([cX]:List Int)).length*8≤140737488355328 then
   some (.inl (J (cX+(1:Int)),aa++([cX]:List Int)))
   else none
  else none
 else
  some (.inr aa)
def Fi (dZ:List bE)(cW cX:Int)(aa:List Int):Option ((List Int)):=iter (fun w:Int×(List Int)=>yL dZ cW w.1 w.2) (cX,aa)
theorem SC {dZ:List bE}{cW cX:Int}{aa:List Int}:bx (yL dZ cW cX aa) (dP a7 25 0 60 [1,1,0,1,0,0] (E5 dZ cW (cX,aa)) (E5 dZ cW) (Md dZ cW)):=by
 unfold yL
 exact .ite (fun h1 =>
  .aY fun h2 =>
  .ar fun aE au =>
  (let t1:List bY:=[(I 1),.U true,.ay (bq 2 (.b2 (bI aE)) 3),(I 3)];
  have aS:=((.c5 h1 h2.1 (cO bI h2.2) (bU bI au)):cp _);
  .ite (fun aA =>
  .ret (bf (t1.append [.U false,(I 2),.aN [0] [.pure] (a6 [3,9,10,11])]) (aS.aG (.e2 (cV aA) (aF 1 .live aO aa)))))
  (fun aA =>
  .aY fun aX =>
  .ret (let q1:=(aa++([cX]:List Int));bf (t1.append [.U true,.ay (bq 3 (.aG (q1.length)) 1),(I 2),.aN [14] [.cu (ae 1 eI q1)] (a6 [3,9,10,11])]) (aS.aG (.eE (cT aA) (gx eI cX) (gV eI aa) (gy eI aa cX) aX (cU 1 .live (ha eI aa cX)) (aF 1 .live aO q1)))))))
  (fun h1 =>
  .ret (bf [(I 1),.U false,.aN [0] [.pure] (a6 [3])] (.e2 h1 (aF 1 .live aO aa))))
theorem SP {dZ:List bE}{cW cX:Int}{aa:List Int}{r} (h:Fi dZ cW cX aa=some r):dQ a7 25 0 60 [1,1,0,1,0,0] (E5 dZ cW) (Md dZ cW) (cX,aa) r:=dR (fun _=>SC) h
def vQ (aJ:cI):Option (List Int) :=
 Fi aJ.bZ (len_ bI aJ.bZ) 0 ([]:List Int) >>= fun r1 =>
 some r1
theorem Mh {aJ:cI}:bx (vQ aJ) (fun r=>Con a7 60 [.d7 2 [(hf aJ)] 0 0] [] (.isl 1 (r.map eI)) []):=by
 unfold vQ
 exact .ar fun r1 h2 =>
  .ret (bs [(I 1),(I 1),(I 6),.s7 3 1,.aN [8] [.cu (ae 1 eI ([]:List Int))] [(3,fV (([]:List Int).length)),(9,ii),(10,ii),(11,ii)],.sub (.exit 0) [(3,.bk 0 0 0 r1.length)] [(ae 1 eI r1)],(I 2)] (.eE (cU 1 .live (nk eI)) (aF 1 .live aO ([]:List Int)) (eY Int) (SP h2) (ga eI r1) (fF eI r1) (du aO r1)) (.br (.dh (.ek (r1.map eI)))))
def tN (aJ:cI)(bo:Int):Option (Int×Int) :=
 if 0≤bo∧bo<aJ.bG.length then
 aJ.bG[bo.toNat]? >>= fun x2 =>
 if 0≤x2.eg∧x2.eg<aJ.bZ.length then
 aJ.bZ[x2.eg.toNat]? >>= fun kq =>
 if 0≤x2.dE∧x2.dE<aJ.bZ.length then
 aJ.bZ[x2.dE.toNat]? >>= fun l8 =>
 some (J (kq.jZ-l8.jZ),J (kq.j0-l8.j0))
 else none
 else none
 else none
theorem TR {aJ:cI}{bo:Int}:bx (tN aJ bo) (fun r=>Con a7 83 [.d7 2 [(hf aJ)] 0 0,.n .i64 bo] [] (.dS [.n .i64 r.1,.n .i64 r.2]) []):=by
 unfold tN
 exact .aY fun h1 =>
  .ar fun x2 ab =>
  .aY fun au =>
  .ar fun kq aX =>
  .aY fun bb =>
  .ar fun l8 cj =>
  .ret (bs [(I 2),.ay (bq 6 (.b2 (bS x2)) 2),.ay (ai 8 (al (.b2 (bI kq)) (ai 8 (al (.b2 (bI l8)) (ai 9 (al (.b2 (bI kq)) (bq 8 (.b2 (bI l8)) 3)))))))] (.bg h1.1 (cO bS h1.2) (bU bS ab) au.1 (cO bI au.2) (bU bI aX) bb.1 (cO bI bb.2) (.eE (bU bI cj) au.1 (cO bI au.2) (bU bI aX) bb.1 (cO bI bb.2) (bU bI cj))))
def E0 (fx:List bE)(e4:List bP)(bN:Int)(b9:List Int)(bT de da:Int)(aa:List (List Int)):(Int×(List Int)×(List Int))→S:=fun (gl,ap,ax)=>dl [(0,.d7 2 [[.isl 4 (fx.map bI),.isl 3 (e4.map bS)]] 0 0),(3,.bk 0 0 0 aa.length),(5,.n .i64 bN),(6,.bk 1 0 0 ap.length),(7,.bk 2 0 0 ax.length),(13,.isl 1 (b9.map eI)),(14,.n .i64 bT),(15,.n .i64 de),(34,.isl 3 (e4.map bS)),(35,.n .i64 da),(36,.n .i64 gl)] [(ae 1 (en 1 eI) aa),(ae 1 eI ap),(ae 1 eI ax)]
def E6 (fx:List bE)(e4:List bP)(bN:Int)(b9:List Int)(bT de da:Int)(aa:List (List Int)):((List Int)×(List Int))→dq
 | a=>⟨some 2,[(0,.d7 2 [[.isl 4 (fx.map bI),.isl 3 (e4.map bS)]] 0 0),(3,.bk 0 0 0 aa.length),(6,.bk 1 0 0 a.1.length),(7,.bk 2 0 0 a.2.length),(13,.isl 1 (b9.map eI)),(14,.n .i64 bT),(15,.n .i64 de)],[(ae 1 (en 1 eI) aa),(ae 1 eI a.1),(ae 1 eI a.2)]⟩
def vC (fx:List bE)(e4:List bP)(bN:Int)(b9:List Int)(bT de da:Int)(aa:List (List Int))(gl:Int)(ap ax:List Int):Option ((Int×(List Int)×(List Int))⊕((List Int)×(List Int))) :=
 if (decide (gl<da))=true then
  if 0≤gl∧gl<e4.length then
  e4[gl.toNat]? >>= fun aE =>
  tN (⟨fx,e4⟩:cI) gl >>= fun aK =>
  if (bN == aE.dE)=true then
   if 0≤gl∧gl<(ap.length:Nat) then
   if (0+gl.toNat)<ap.length then
   if 0≤gl∧gl<(ax.length:Nat) then
   if (0+gl.toNat)<ax.length then
   some (.inl (J (gl+(1:Int)),ap.set (0+gl.toNat) aK.1,ax.set (0+gl.toNat) aK.2))
   else none
   else none
   else none
   else none
  else
   if (bN == aE.eg)=true then
    if 0≤gl∧gl<(ap.length:Nat) then
    if (0+gl.toNat)<ap.length then
    if 0≤gl∧gl<(ax.length:Nat) then
    if (0+gl.toNat)<ax.length then
    some (.inl (J (gl+(1:Int)),ap.set (0+gl.toNat) (J (0-aK.1)),ax.set (0+gl.toNat) (J (0-aK.2))))
    else none
    else none
    else none
    else none
   else
    some (.inl (J (gl+(1:Int)),ap,ax))
  else none
 else
  some (.inr (ap,ax))
def Ci (fx:List bE)(e4:List bP)(bN:Int)(b9:List Int)(bT de da:Int)(aa:List (List Int))(gl:Int)(ap ax:List Int):Option ((List Int)×(List Int)):=iter (fun w:Int×(List Int)×(List Int)=>vC fx e4 bN b9 bT de da aa w.1 w.2.1 w.2.2) (gl,ap,ax)
theorem Sz {fx:List bE}{e4:List bP}{bN:Int}{b9:List Int}{bT de da:Int}{aa:List (List Int)}{gl:Int}{ap ax:List Int}:bx (vC fx e4 bN b9 bT de da aa gl ap ax) (dP a7 82 0 58 [1,1,0,1,0,0,1,1,0,0,1,1,0,1,0,0] (E0 fx e4 bN b9 bT de da aa (gl,ap,ax)) (E0 fx e4 bN b9 bT de da aa) (E6 fx e4 bN b9 bT de da aa)):=by
 unfold vC
 exact .ite (fun h1 =>
  .aY fun h2 =>
  .ar fun aE au =>
  .ar fun aK aX =>
  (let t1:List bY:=[(I 1),.U true,.ay (bq 2 (.b2 (bS aE)) 3),.ay (bq 2 (bp 2 (.dS [.n .i64 aK.1,.n .i64 aK.2]) true) 5),(I 1),(I 4)];
  have aS:=((.dU h1 h2.1 (cO bS h2.2) (bU bS au) (TR aK aX) (DK (oV (b7.n .i64 aK.1) (oV (b7.n .i64 aK.2) uF)))):cp _);
  .ite (fun bb =>
  .aY fun bi =>
  .aY fun cj =>
  .aY fun cM =>
  .aY fun e6 =>
  .ret (bf (t1.append [.U true,.ay (ai 7 (al .fM (ai 1 (al .fM [])))),(I 2),.aN [0,1,2] [.pure,.cu (ae 1 eI (ap.set (0+gl.toNat) aK.1)),.cu (ae 1 eI (ax.set (0+gl.toNat) aK.2))] [(0,ii),(3,ii),(5,ii),(6,fV ((ap.set (0+gl.toNat) aK.1).length)),(7,fV ((ax.set (0+gl.toNat) aK.2).length)),(13,ii),(14,ii),(15,ii),(34,ii),(35,ii),(36,ii)]]) (aS.aG (.bg bb bi.1 bi.2 (hz eI cj) (ht 1) cM.1 cM.2 (hz eI e6) (.gJ (ht 1) (aF 1 .live (nn (sz:=1) aO) aa) (cU 1 .live (gD (cR eI ap) (0+gl.toNat) aK.1)) (aF 1 .live aO (ap.set (0+gl.toNat) aK.1)) (cU 1 .live (gD (cR eI ax) (0+gl.toNat) aK.2)) (aF 1 .live aO (ax.set (0+gl.toNat) aK.2)) (hP (dF ap) (0+gl.toNat) aK.1) (hP (dF ax) (0+gl.toNat) aK.2))))))
  (fun bb =>
  .ite (fun bi =>
  .aY fun cj =>
  .aY fun cM =>
  .aY fun e6 =>
  .aY fun eR =>
  .ret (let q1:=J (0-aK.1);let q2:=J (0-aK.2);bf (t1.append [.U false,(I 4),.U true,.ay (ai 9 (al .fM (ai 1 (al .fM [])))),(I 2),.aN [0,1,2] [.pure,.cu (ae 1 eI (ap.set (0+gl.toNat) q1)),.cu (ae 1 eI (ax.set (0+gl.toNat) q2))] [(0,ii),(3,ii),(5,ii),(6,fV ((ap.set (0+gl.toNat) q1).length)),(7,fV ((ax.set (0+gl.toNat) q2).length)),(13,ii),(14,ii),(15,ii),(34,ii),(35,ii),(36,ii)]]) (aS.aG (.bg bb bi cj.1 cj.2 (hz eI cM) (ht 1) e6.1 e6.2 (.bg (hz eI eR) (ht 1) (aF 1 .live (nn (sz:=1) aO) aa) (cU 1 .live (gD (cR eI ap) (0+gl.toNat) q1)) (aF 1 .live aO (ap.set (0+gl.toNat) q1)) (cU 1 .live (gD (cR eI ax) (0+gl.toNat) q2)) (aF 1 .live aO (ax.set (0+gl.toNat) q2)) (hP (dF ap) (0+gl.toNat) q1) (.e1 (hP (dF ax) (0+gl.toNat) q2)))))))
  (fun bi =>
  .ret (bf (t1.append [.U false,(I 4),.U false,(I 2),.aN [0,1,2] [.pure,.pure,.pure] (a6 [0,3,5,6,7,13,14,15,34,35,36])]) (aS.aG (.dg bb bi (aF 1 .live (nn (sz:=1) aO) aa) (aF 1 .live aO ap) (aF 1 .live aO ax))))))))
  (fun h1 =>
  .ret (bf [(I 1),.U false,.aN [0,1,2] [.pure,.pure,.pure] (a6 [0,3,6,7,13,14,15])] (.c5 h1 (aF 1 .live (nn (sz:=1) aO) aa) (aF 1 .live aO ap) (aF 1 .live aO ax))))
theorem SN {fx:List bE}{e4:List bP}{bN:Int}{b9:List Int}{bT de da:Int}{aa:List (List Int)}{gl:Int}{ap ax:List Int}{r} (h:Ci fx e4 bN b9 bT de da aa gl ap ax=some r):dQ a7 82 0 58 [1,1,0,1,0,0,1,1,0,0,1,1,0,1,0,0] (E0 fx e4 bN b9 bT de da aa) (E6 fx e4 bN b9 bT de da aa) (gl,ap,ax) r:=dR (fun _=>Sz) h
def E1 (fx:List bE)(e4:List bP)(b9:List Int)(bT:Int):(Int×(List (List Int)))→S:=fun (de,aa)=>dl [(0,.d7 2 [[.isl 4 (fx.map bI),.isl 3 (e4.map bS)]] 0 0),(3,.bk 0 0 0 aa.length),(13,.isl 1 (b9.map eI)),(14,.n .i64 bT),(15,.n .i64 de)] [(ae 1 (en 1 eI) aa)]
def Mc (fx:List bE)(e4:List bP)(b9:List Int)(bT:Int):(List (List Int))→dq
 | a=>⟨some 0,[(3,.bk 0 0 0 a.length)],[(ae 1 (en 1 eI) a)]⟩
def vD (fx:List bE)(e4:List bP)(b9:List Int)(bT de:Int)(aa:List (List Int)):Option ((Int×(List (List Int)))⊕((List (List Int)))) :=
 if (decide (de<bT))=true then
  if 0≤de∧de<b9.length then
  b9[de.toNat]? >>= fun aE =>
  if 0≤(len_ bS e4)∧(8:Int)*(len_ bS e4)≤281474976710656∧(len_ bS e4)<9223372036854775808 then
  Ci fx e4 aE b9 bT de (len_ bS e4) aa 0 (List.replicate (len_ bS e4).toNat 0:List Int) (List.replicate (len_ bS e4).toNat 0:List Int) >>= fun cc =>
  if (aa++([cc.1,cc.2]:List (List Int))).length*24≤140737488355328 then
  some (.inl (J (de+(1:Int)),aa++([cc.1,cc.2]:List (List Int))))
  else none
  else none
  else none
 else
  some (.inr aa)
def Fh (fx:List bE)(e4:List bP)(b9:List Int)(bT de:Int)(aa:List (List Int)):Option ((List (List Int))):=iter (fun w:Int×(List (List Int))=>vD fx e4 b9 bT w.1 w.2) (de,aa)
theorem SA {fx:List bE}{e4:List bP}{b9:List Int}{bT de:Int}{aa:List (List Int)}:bx (vD fx e4 b9 bT de aa) (dP a7 82 0 58 [1,1,0,1,0,0] (E1 fx e4 b9 bT (de,aa)) (E1 fx e4 b9 bT) (Mc fx e4 b9 bT)):=by
 unfold vD
 exact .ite (fun h1 =>
  .aY fun h2 =>
  .ar fun aE au =>
  .aY fun aA =>
  .ar fun cc bb =>
  .aY fun bi =>
  .ret (let q2:=(aa++([cc.1,cc.2]:List (List Int)));let bK:=len_ bS e4;let q1:=(List.replicate bK.toNat 0:List Int);let bW:=nn (sz:=1) aO;let cD:=cU 1 .live (lC eI bK.toNat 0);bf [(I 1),.U true,.ay (bq 1 (.b2 (eI aE)) 1),(I 14),(I 6),.aN [0,10,16] [.pure,.cu (ae 1 eI q1),.cu (ae 1 eI q1)] [(0,ii),(3,ii),(5,ii),(6,fV (q1.length)),(7,fV (q1.length)),(13,ii),(14,ii),(15,ii),(34,ii),(35,ii),(36,ii)],(E6 fx e4 aE b9 bT de bK aa cc).e8,.aN [0] [.pure] [(0,ii),(3,ii),(6,.br (.dh (.ek (cc.1.map eI)))),(7,.br (.dh (.ek (cc.2.map eI)))),(13,ii),(14,ii),(15,ii)],.ay (bq 4 (.aG (q2.length)) 1),(I 2),.aN [5] [.cu (ae 1 (en 1 eI) q2)] (a6 [0,3,13,14,15])] (.bg h1 h2.1 (cO eI h2.2) (bU eI au) aA.1 (Int.le_refl bK) aA.2.1 aA.2.2 (.bg aA.1 (Int.le_refl bK) aA.2.1 aA.2.2 (aF 1 .live bW aa) cD (aF 1 .live aO q1) cD (.bg (aF 1 .live aO q1) (lW bK.toNat (0:Int)) (lW bK.toNat (0:Int)) (SN bb) (aF 1 .live bW aa) (ga eI cc.1) (fF eI cc.1) (du aO cc.1) (.bg (ga eI cc.2) (fF eI cc.2) (du aO cc.2) (kZ (show [[.isl 1 (cc.1.map eI)],[.isl 1 (cc.2.map eI)]]=(([cc.1,cc.2]:List (List Int))).map (en 1 eI) from rfl) (show 2=([cc.1,cc.2]:List (List Int)).length from rfl)) (gV (en 1 eI) aa) (lD (dF aa) (nS (show [[.isl 1 (cc.1.map eI)],[.isl 1 (cc.2.map eI)]]=(([cc.1,cc.2]:List (List Int))).map (en 1 eI) from rfl) (show 2=([cc.1,cc.2]:List (List Int)).length from rfl)):q2.length=aa.length+(([[.isl 1 (cc.1.map eI)],[.isl 1 (cc.2.map eI)]].drop 0).take 2).length) bi (cU 1 .live (hZ (cR (en 1 eI) aa) (dF aa) (nS (show [[.isl 1 (cc.1.map eI)],[.isl 1 (cc.2.map eI)]]=(([cc.1,cc.2]:List (List Int))).map (en 1 eI) from rfl) (show 2=([cc.1,cc.2]:List (List Int)).length from rfl)))) (.e1 (aF 1 .live bW q2))))))))
  (fun h1 =>
  .ret (bf [(I 1),.U false,.aN [0] [.pure] (a6 [3])] (.e2 h1 (aF 1 .live (nn (sz:=1) aO) aa))))
theorem SO {fx:List bE}{e4:List bP}{b9:List Int}{bT de:Int}{aa:List (List Int)}{r} (h:Fh fx e4 b9 bT de aa=some r):dQ a7 82 0 58 [1,1,0,1,0,0] (E1 fx e4 b9 bT) (Mc fx e4 b9 bT) (de,aa) r:=dR (fun _=>SA) h
def yP (aJ:cI):Option (List (List Int)) :=
 vQ aJ >>= fun r1 =>
 Fh aJ.bZ aJ.bG r1 (len_ eI r1) 0 ([]:List (List Int)) >>= fun bd =>
 some bd
theorem S2 {aJ:cI}:bx (yP aJ) (fun r=>Con a7 58 [.d7 2 [(hf aJ)] 0 0] [] (.isl 1 (r.map (en 1 eI))) []):=by
 unfold yP
 exact .ar fun r1 h2 =>
  .ar fun bd au =>
  .ret (bs [(I 1),(I 1),.ay (bq 1 (bp 1 (.isl 1 (r1.map eI)) false) 2),.s7 3 1,.aN [6] [.cu (ae 1 (en 1 eI) ([]:List (List Int)))] [(0,ii),(3,fV (([]:List (List Int)).length)),(13,ii),(14,ii),(15,ii)],.sub (.exit 0) [(3,.bk 0 0 0 bd.length)] [(ae 1 (en 1 eI) bd)],(I 2)] (.gJ (Mh r1 h2) (cU 1 .live (nk (en 1 eI))) (aF 1 .live (nn (sz:=1) aO) ([]:List (List Int))) (eY (List Int)) (SO au) (ga (en 1 eI) bd) (fF (en 1 eI) bd) (du (nn (sz:=1) aO) bd)) (.br (.dh (.ek (bd.map (en 1 eI))))))
def Fb (dZ:List bP)(cW:Int):(Int×(List ev))→S:=fun (cX,aa)=>dl [(3,.bk 0 0 0 aa.length),(9,.isl 3 (dZ.map bS)),(10,.n .i64 cW),(11,.n .i64 cX)] [(ae 2 gj aa)]
def Me (dZ:List bP)(cW:Int):(List ev)→dq
 | a=>⟨some 0,[(3,.bk 0 0 0 a.length)],[(ae 2 gj a)]⟩
def vG (dZ:List bP)(cW cX:Int)(aa:List ev):Option ((Int×(List ev))⊕((List ev))) :=
 if (decide (cX<cW))=true then
  if 0≤cX∧cX<dZ.length then
  dZ[cX.toNat]? >>= fun aE =>
  if (aE.iU != (2:Int))=true then
   if (aa++([(⟨cX,1⟩:ev)]:List ev)).length*16≤140737488355328 then
   if (aE.iU != (1:Int))=true then
    if ((aa++([(⟨cX,1⟩:ev)]:List ev))++([(⟨cX,(-1)⟩:ev)]:List ev)).length*16≤140737488355328 then
    some (.inl (J (cX+(1:Int)),(aa++([(⟨cX,1⟩:ev)]:List ev))++([(⟨cX,(-1)⟩:ev)]:List ev)))
    else none
   else
    some (.inl (J (cX+(1:Int)),aa++([(⟨cX,1⟩:ev)]:List ev)))
   else none
  else
   if (aE.iU != (1:Int))=true then
    if (aa++([(⟨cX,(-1)⟩:ev)]:List ev)).length*16≤140737488355328 then
    some (.inl (J (cX+(1:Int)),aa++([(⟨cX,(-1)⟩:ev)]:List ev)))
    else none
   else
    some (.inl (J (cX+(1:Int)),aa))
  else none
 else
  some (.inr aa)
def FC (dZ:List bP)(cW cX:Int)(aa:List ev):Option ((List ev)):=iter (fun w:Int×(List ev)=>vG dZ cW w.1 w.2) (cX,aa)
theorem SI {dZ:List bP}{cW cX:Int}{aa:List ev}:bx (vG dZ cW cX aa) (dP a7 34 0 59 [1,1,0,1,0,0] (Fb dZ cW (cX,aa)) (Fb dZ cW) (Me dZ cW)):=by
 unfold vG
 exact .ite (fun h1 =>
  .aY fun h2 =>
  .ar fun aE au =>
  (let t1:List bY:=[(I 1),.U true,.ay (bq 2 (.b2 (bS aE)) 3),(I 3)];
  have aS:=((.c5 h1 h2.1 (cO bS h2.2) (bU bS au)):cp _);
  .ite (fun aA =>
  .aY fun aX =>
  (let t3:List bY:=t1.append [.U true,.ay (bq 4 (.aG ((aa++([(⟨cX,1⟩:ev)]:List ev)).length)) 1),(I 3)];
  have eO:=aS.aG (.dg aA (gx gj (⟨cX,1⟩:ev)) (gV gj aa) (gy gj aa (⟨cX,1⟩:ev)) aX);
  .ite (fun bb =>
  .aY fun bi =>
  .ret (let q1:=(aa++([(⟨cX,1⟩:ev)]:List ev));let q2:=(q1++([(⟨cX,(-1)⟩:ev)]:List ev));let bK:=(ha gj aa (⟨cX,1⟩:ev));bf (t3.append [.U true,.ay (bq 4 (.aG (q2.length)) 1),(I 2),.aN [24] [.cu (ae 2 gj q2)] (a6 [3,9,10,11])]) (eO.aG (.eE bb (gx gj (⟨cX,(-1)⟩:ev)) (m1 bK (dF q1)) (gy gj q1 (⟨cX,(-1)⟩:ev)) bi (cU 2 .live (hZ bK (dF q1) (vn gj (⟨cX,(-1)⟩:ev)))) (aF 2 .live t0 q2)))))
  (fun bb =>
  .ret (let bW:=(aa++([(⟨cX,1⟩:ev)]:List ev));bf (t3.append [.U false,(I 2),.aN [15] [.cu (ae 2 gj bW)] (a6 [3,9,10,11])]) (eO.aG (.bO bb (cU 2 .live (ha gj aa (⟨cX,1⟩:ev))) (aF 2 .live t0 bW)))))))
  (fun aA =>
  .ite (fun aX =>
  .aY fun bb =>
  .ret (let cD:=(aa++([(⟨cX,(-1)⟩:ev)]:List ev));bf (t1.append [.U false,(I 3),.U true,.ay (bq 4 (.aG (cD.length)) 1),(I 2),.aN [18] [.cu (ae 2 gj cD)] (a6 [3,9,10,11])]) (aS.aG (.gJ aA aX (gx gj (⟨cX,(-1)⟩:ev)) (gV gj aa) (gy gj aa (⟨cX,(-1)⟩:ev)) bb (cU 2 .live (ha gj aa (⟨cX,(-1)⟩:ev))) (aF 2 .live t0 cD)))))
  (fun aX =>
  .ret (bf (t1.append [.U false,(I 3),.U false,(I 2),.aN [0] [.pure] (a6 [3,9,10,11])]) (aS.aG (.bO aA aX (aF 2 .live t0 aa))))))))
  (fun h1 =>
  .ret (bf [(I 1),.U false,.aN [0] [.pure] (a6 [3])] (.e2 h1 (aF 2 .live t0 aa))))
theorem S4 {dZ:List bP}{cW cX:Int}{aa:List ev}{r} (h:FC dZ cW cX aa=some r):dQ a7 34 0 59 [1,1,0,1,0,0] (Fb dZ cW) (Me dZ cW) (cX,aa) r:=dR (fun _=>SI) h
def yT (aJ:cI):Option (List ev) :=
 FC aJ.bG (len_ bS aJ.bG) 0 ([]:List ev) >>= fun r1 =>
 some r1
theorem TB {aJ:cI}:bx (yT aJ) (fun r=>Con a7 59 [.d7 2 [(hf aJ)] 0 0] [] (.isl 2 (r.map gj)) []):=by
 unfold yT
 exact .ar fun r1 h2 =>
  .ret (bs [(I 1),(I 1),(I 6),.s7 3 2,.aN [8] [.cu (ae 2 gj ([]:List ev))] [(3,fV (([]:List ev).length)),(9,ii),(10,ii),(11,ii)],.sub (.exit 0) [(3,.bk 0 0 0 r1.length)] [(ae 2 gj r1)],(I 2)] (.eE (cU 2 .live (nk gj)) (aF 2 .live t0 ([]:List ev)) (eY ev) (S4 h2) (ga gj r1) (fF gj r1) (du t0 r1)) (.br (.dh (.ek (r1.map gj)))))
end Go.Proofs.YtdkjpcaalflfhaaGreat
