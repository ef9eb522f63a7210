/- Lemmas, plain functions of the program, and what they answer. No condition. -/
import Derived.Test.YtmeimpeaagmneaaGreatMB
namespace Go.Proofs.YtmeimpeaagmneaaGreat
set_option linter.unusedVariables false
set_option linter.unusedSimpArgs false
open Go Go.VL
def As (ag:bq)(ji:Int):Option Int :=
 if (decide ((R (ji-(ag.hh.size:Int)))<(0:Int)))=true then
  some (-1)
 else
  some (R (ji-(ag.hh.size:Int)))
theorem Yi {ag:bq}{ji:Int}:bB (As ag ji) (fun r=>Con a5 26 [.agg (bu ag),.n .i64 ji] [] (.n .i64 r) []):=by
 unfold As
 exact (let t1:List b3:=[(J 2),(J 6),(J 2)];
  .ite (fun h1 =>
  .ret (bz (t1.append [.aa true,(J 1)]) (.e1 h1)))
  (fun h1 =>
  .ret (bz (t1.append [.aa false,(J 2)]) (.e1 h1))))
def Hu (ag:List bq):(Int×Int)→S:=fun (ji,ad)=>dr [(0,.isl 4 (ag.map bu)),(1,.n .i64 ji),(5,.n .i64 ad)] []
def HL (ag:List bq):((Int)⊕(Unit))→dy
 | .inl a=>⟨some 0,[(1,.n .i64 a)],[]⟩
 | .inr a=>⟨none,[(4,.n .i64 (-1:Int))],[]⟩
def uj (ag:List bq)(ji ad:Int):Option ((Int×Int)⊕((Int)⊕(Unit))) :=
 if (decide (ad<(len_ bu ag)))=true then
  if 0≤ad∧ad<ag.length then
  ag[ad.toNat]? >>= fun aB =>
  As aB ji >>= fun ax =>
  if (decide (ax<(0:Int)))=true then
   some (.inr (.inr ()))
  else
   some (.inl (ax,R (ad+(1:Int))))
  else none
 else
  some (.inr (.inl ji))
def Jy (ag:List bq)(ji ad:Int):Option ((Int)⊕(Unit)):=iter (fun w:Int×Int=>uj ag w.1 w.2) (ji,ad)
theorem Vn {ag:List bq}{ji ad:Int}:bB (uj ag ji ad) (dL a5 27 0 14 [1,1,1,0,1,0,0] (Hu ag (ji,ad)) (Hu ag) (HL ag)):=by
 unfold uj
 exact .ite (fun h1 =>
  .aY fun o =>
  .ar fun aB au =>
  .ar fun ax a0 =>
  (let t1:List b3:=[(J 4),.aa true,.aw (ah 3 (ai (.b5 (bu aB)) (bo 1 (bw 2 (.n .i64 ax) true) 1))),(J 2)];
  have aT:=((.d6 h1 o.1 (cW bu o.2) (b2 bu au) (Yi ax a0) (bX.n .i64 ax)):cA _);
  .ite (fun bm =>
  .ret (bg (t1.append [.aa true,(J 1),.aP [] [] (a8 [4])]) (aT.aH (.e1 bm))))
  (fun bm =>
  .ret (bg (t1.append [.aa false,(J 3),.aP [] [] (a8 [0,1,5])]) (aT.aH (.e1 bm))))))
  (fun h1 =>
  .ret (bg [(J 4),.aa false,.aP [] [] (a8 [1])] (.e1 h1)))
theorem N3 {ag:List bq}{ji ad:Int}{r} (h:Jy ag ji ad=some r):dM a5 27 0 14 [1,1,1,0,1,0,0] (Hu ag) (HL ag) (ji,ad) r:=dO (fun _=>Vn) h
def Aa (ag:List bq)(ji:Int):Option Int :=
 if (decide ((R (ji-(len_ bu ag)))<(0:Int)))=true then
  some (-1)
 else
  Jy ag (R (ji-(len_ bu ag))) 0 >>= fun bT =>
  match bT with
  | .inl fZ=>(some fZ)
  | .inr fZ=>(some (-1))
theorem XP {ag:List bq}{ji:Int}:bB (Aa ag ji) (fun r=>Con a5 14 [.isl 4 (ag.map bu),.n .i64 ji] [] (.n .i64 r) []):=by
 unfold Aa
 exact (let t1:List b3:=[(J 1),(J 5),(J 2)];
  .ite (fun h1 =>
  .ret (bz (t1.append [.aa true,(J 1)]) (.e1 h1)))
  (fun h1 =>
  .ar fun bT af =>
  (let t2:List b3:=t1.append [.aa false,(J 1),.aP [] [] (a8 [0,1,5])];
  (by
  rcases bT with fZ|fZ
  ·exact (.ret (bz (t2.append [.sub (.exit 0) [(1,.n .i64 fZ)] [],(J 2)]) (.aE h1 (N3 af))))
  ·exact (.ret (bz (t2.append [(HL ag (.inr fZ)).e6]) (.aE h1 (N3 af))))))))
def z3 (ag:List bC)(ji:Int):Option Int :=
 if (decide ((R (ji-(len_ bA ag)))<(0:Int)))=true then
  some (-1)
 else
  some (R (ji-(len_ bA ag)))
theorem Xy {ag:List bC}{ji:Int}:bB (z3 ag ji) (fun r=>Con a5 15 [.isl 3 (ag.map bA),.n .i64 ji] [] (.n .i64 r) []):=by
 unfold z3
 exact (let t1:List b3:=[(J 1),(J 5),(J 2)];
  .ite (fun h1 =>
  .ret (bz (t1.append [.aa true,(J 1)]) (.e1 h1)))
  (fun h1 =>
  .ret (bz (t1.append [.aa false,(J 2)]) (.e1 h1))))
def zU (ag:cF)(ji:Int):Option Int :=
 Aa ag.b7 ji >>= fun r1 =>
 if (decide (r1<(0:Int)))=true then
  some (-1)
 else
  z3 ag.bE r1 >>= fun ba =>
  if (decide (ba<(0:Int)))=true then
   some (-1)
  else
   some ba
theorem WT {ag:cF}{ji:Int}:bB (zU ag ji) (fun r=>Con a5 4 [.agg (hf ag),.n .i64 ji] [] (.n .i64 r) []):=by
 unfold zU
 exact .ar fun r1 o =>
  (let t1:List b3:=[(J 2),.aw (bo 3 (bw 2 (.n .i64 r1) true) 1),(J 2)];
  have aT:=((.aE (XP r1 o) (bX.n .i64 r1)):cA _);
  .ite (fun af =>
  .ret (bz (t1.append [.aa true,(J 1)]) (aT.aH (.e1 af))))
  (fun af =>
  .ar fun ba aA =>
  (let t3:List b3:=t1.append [.aa false,.aw (bo 3 (bw 2 (.n .i64 ba) true) 1),(J 2)];
  have e3:=aT.aH (.bP af (Xy ba aA) (bX.n .i64 ba));
  .ite (fun a0 =>
  .ret (bz (t3.append [.aa true,(J 1)]) (e3.aH (.e1 a0))))
  (fun a0 =>
  .ret (bz (t3.append [.aa false,(J 2)]) (e3.aH (.e1 a0)))))))
def DV (ag:bq):Option bq :=
 some ag
theorem Yj {ag:bq}:bB (DV ag) (fun r=>Con a5 31 [.agg (bu ag)] [] (.agg (bu r)) []):=by
 unfold DV
 exact .ret (bz [(J 2),(J 1),(J 4),(J 4),(J 4),(J 4),(J 2)] .nil)
def GQ (ag:List bq):(Int×(List bq))→S:=fun (ad,ab)=>dr [(0,.isl 4 (ag.map bu)),(3,.bf 0 0 0 ab.length),(4,.n .i64 ad)] [(av 4 bu ab)]
def He (ag:List bq):(List bq)→dy
 | a=>⟨some 0,[(3,.bf 0 0 0 a.length)],[(av 4 bu a)]⟩
def uh (ag:List bq)(ad:Int)(ab:List bq):Option ((Int×(List bq))⊕((List bq))) :=
 if (decide (ad<(len_ bu ag)))=true then
  if 0≤ad∧ad<ag.length then
  ag[ad.toNat]? >>= fun aB =>
  DV aB >>= fun ax =>
  if 0≤ad∧ad<(ab.length:Nat) then
  if (0+ad.toNat)<ab.length then
  some (.inl (R (ad+(1:Int)),ab.set (0+ad.toNat) ax))
  else none
  else none
  else none
 else
  some (.inr ab)
def IV (ag:List bq)(ad:Int)(ab:List bq):Option ((List bq)):=iter (fun w:Int×(List bq)=>uh ag w.1 w.2) (ad,ab)
theorem UT {ag:List bq}{ad:Int}{ab:List bq}:bB (uh ag ad ab) (dL a5 23 0 18 [1,1,0,1,0,0] (GQ ag (ad,ab)) (GQ ag) (He ag)):=by
 unfold uh
 exact .ite (fun h1 =>
  .aY fun o =>
  .ar fun aB au =>
  .ar fun ax a0 =>
  .aY fun bm =>
  .aY fun bn =>
  .ret (bg [(J 4),.aa true,.aw (ah 5 (ai (.b5 (bu aB)) (ai (bw 1 (.agg (bu ax)) false) (ah 1 (ai .fX []))))),(J 3),.aP [0] [.cE (av 4 bu (ab.set (0+ad.toNat) ax))] [(0,ii),(3,fU ((ab.set (0+ad.toNat) ax).length)),(4,ii)]] (.bi h1 o.1 (cW bu o.2) (b2 bu au) (Yj ax a0) bm.1 bm.2 (hQ bu bn) (.c3 (hJ 4) (cZ 4 .live (gM (cR bu ab) (0+ad.toNat) ax)) (aI 4 .live ju (ab.set (0+ad.toNat) ax)) (hg (dQ ab) (0+ad.toNat) ax)))))
  (fun h1 =>
  .ret (bg [(J 4),.aa false,.aP [0] [.pure] (a8 [3])] (.aE h1 (aI 4 .live ju ab))))
theorem Wn {ag:List bq}{ad:Int}{ab:List bq}{r} (h:IV ag ad ab=some r):dM a5 23 0 18 [1,1,0,1,0,0] (GQ ag) (He ag) (ad,ab) r:=dO (fun _=>UT) h
def zX (ag:List bq):Option (List bq) :=
 if 0≤(len_ bu ag)∧(40:Int)*(len_ bu ag)≤281474976710656∧(len_ bu ag)<9223372036854775808 then
 IV ag 0 (List.replicate (len_ bu ag).toNat (⟨ByteArray.empty,0,0,false⟩:bq):List bq) >>= fun bT =>
 some bT
 else none
theorem Xa {ag:List bq}:bB (zX ag) (fun a=>Con a5 18 [.isl 4 (ag.map bu)] [] (.bf 0 0 0 a.length) [(av 4 bu a)]):=by
 unfold zX
 exact .aY fun h1 =>
  .ar fun bT af =>
  .ret (let q1:=(List.replicate (len_ bu ag).toNat (⟨ByteArray.empty,0,0,false⟩:bq):List bq);kH [(J 1),(J 4),(J 1),.aP [3] [.cE (av 4 bu q1)] [(0,ii),(3,fU (q1.length)),(4,ii)],(He ag bT).e6,(J 2)] [0] [.pure] (.bi h1.1 (Int.le_refl (len_ bu ag)) h1.2.1 h1.2.2 (cZ 4 .live (lU bu (len_ bu ag).toNat (⟨ByteArray.empty,0,0,false⟩:bq))) (aI 4 .live ju q1) (me (len_ bu ag).toNat ((⟨ByteArray.empty,0,0,false⟩:bq):bq)) (Wn af) (.e1 (aI 4 .live ju bT))))
def DQ (ag:bC):Option bC :=
 some ag
theorem XQ {ag:bC}:bB (DQ ag) (fun r=>Con a5 32 [.agg (bA ag)] [] (.agg (bA r)) []):=by
 unfold DQ
 exact .ret (bz [(J 2),(J 1),(J 4),(J 4),(J 4),(J 2)] .nil)
def GH (ag:List bC):(Int×(List bC))→S:=fun (ad,ab)=>dr [(0,.isl 3 (ag.map bA)),(3,.bf 0 0 0 ab.length),(4,.n .i64 ad)] [(av 3 bA ab)]
def GR (ag:List bC):(List bC)→dy
 | a=>⟨some 0,[(3,.bf 0 0 0 a.length)],[(av 3 bA a)]⟩
def ug (ag:List bC)(ad:Int)(ab:List bC):Option ((Int×(List bC))⊕((List bC))) :=
 if (decide (ad<(len_ bA ag)))=true then
  if 0≤ad∧ad<ag.length then
  ag[ad.toNat]? >>= fun aB =>
  DQ aB >>= fun ax =>
  if 0≤ad∧ad<(ab.length:Nat) then
  if (0+ad.toNat)<ab.length then
  some (.inl (R (ad+(1:Int)),ab.set (0+ad.toNat) ax))
  else none
  else none
  else none
 else
  some (.inr ab)
def Ik (ag:List bC)(ad:Int)(ab:List bC):Option ((List bC)):=iter (fun w:Int×(List bC)=>ug ag w.1 w.2) (ad,ab)
theorem UL {ag:List bC}{ad:Int}{ab:List bC}:bB (ug ag ad ab) (dL a5 23 0 19 [1,1,0,1,0,0] (GH ag (ad,ab)) (GH ag) (GR ag)):=by
 unfold ug
 exact .ite (fun h1 =>
  .aY fun o =>
  .ar fun aB au =>
  .ar fun ax a0 =>
  .aY fun bm =>
  .aY fun bn =>
  .ret (bg [(J 4),.aa true,.aw (ah 5 (ai (.b5 (bA aB)) (ai (bw 1 (.agg (bA ax)) false) (ah 1 (ai .fX []))))),(J 3),.aP [0] [.cE (av 3 bA (ab.set (0+ad.toNat) ax))] [(0,ii),(3,fU ((ab.set (0+ad.toNat) ax).length)),(4,ii)]] (.bi h1 o.1 (cW bA o.2) (b2 bA au) (XQ ax a0) bm.1 bm.2 (hQ bA bn) (.c3 (hJ 3) (cZ 3 .live (gM (cR bA ab) (0+ad.toNat) ax)) (aI 3 .live iT (ab.set (0+ad.toNat) ax)) (hg (dQ ab) (0+ad.toNat) ax)))))
  (fun h1 =>
  .ret (bg [(J 4),.aa false,.aP [0] [.pure] (a8 [3])] (.aE h1 (aI 3 .live iT ab))))
theorem V0 {ag:List bC}{ad:Int}{ab:List bC}{r} (h:Ik ag ad ab=some r):dM a5 23 0 19 [1,1,0,1,0,0] (GH ag) (GR ag) (ad,ab) r:=dO (fun _=>UL) h
def zV (ag:List bC):Option (List bC) :=
 if 0≤(len_ bA ag)∧(24:Int)*(len_ bA ag)≤281474976710656∧(len_ bA ag)<9223372036854775808 then
 Ik ag 0 (List.replicate (len_ bA ag).toNat (⟨0,0,0⟩:bC):List bC) >>= fun bT =>
 some bT
 else none
theorem WU {ag:List bC}:bB (zV ag) (fun a=>Con a5 19 [.isl 3 (ag.map bA)] [] (.bf 0 0 0 a.length) [(av 3 bA a)]):=by
 unfold zV
 exact .aY fun h1 =>
  .ar fun bT af =>
  .ret (let q1:=(List.replicate (len_ bA ag).toNat (⟨0,0,0⟩:bC):List bC);kH [(J 1),(J 4),(J 1),.aP [3] [.cE (av 3 bA q1)] [(0,ii),(3,fU (q1.length)),(4,ii)],(GR ag bT).e6,(J 2)] [0] [.pure] (.bi h1.1 (Int.le_refl (len_ bA ag)) h1.2.1 h1.2.2 (cZ 3 .live (lU bA (len_ bA ag).toNat (⟨0,0,0⟩:bC))) (aI 3 .live iT q1) (me (len_ bA ag).toNat ((⟨0,0,0⟩:bC):bC)) (V0 af) (.e1 (aI 3 .live iT bT))))
def zQ (ag:cF):Option ((List bq)×(List bC)) :=
 zX ag.b7 >>= fun r1 =>
 zV ag.bE >>= fun bl =>
 some (r1,bl)
theorem xa {ag:cF}:bB (zQ ag) (fun a=>Con a5 6 [.agg (hf ag)] [] (.agg [.bf 0 0 0 a.1.length,.bf 0 1 0 a.2.length]) [[ae.mk 4 (a.1.map bu) .live,ae.mk 3 (a.2.map bA) .live]]):=by
 unfold zQ
 exact .ar fun r1 o =>
  .ar fun bl au =>
  .ret (kH [(J 2),(J 1),.aw (bo 2 (.call {a2:=[],da:=[],ac:=[ii],r:= .bf 0 0 0 r1.length,eV:=[(av 4 bu r1)],gr:=ii,hD:=[.pure],eN:=[],er:=true}) 2),.aw (bo 2 (.call {a2:=[],da:=[],ac:=[ii],r:= .bf 0 0 0 bl.length,eV:=[(av 3 bA bl)],gr:=ii,hD:=[.pure],eN:=[],er:=true}) 2),(J 2),.Cp [{bL:=[(5,0),(10,0)],iP:=none},{bL:=[(1,0)]}] [([.pure,.pure],none),([.box [.at_ 0 0 r1.length,.at_ 0 1 bl.length]],none)] [(2,.bs (.c9 (.at_ 1 0 0)))]] [0] [.bK [ae.mk 4 (r1.map bu) .live,ae.mk 3 (bl.map bA) .live]] (.bi (f8 4 ju r1) (Xa r1 o) (bX.bf 0 0 0 r1.length) ((nl (lk (k7 uY) nr) nq):lN [(av 4 bu r1)]) (f8 3 iT bl) (WU bl au) (bX.bf 0 0 0 bl.length) ((nl (lk (k7 uP) nr) nq):lN [(av 3 bA bl)]) (.gu (aI 4 .live ju r1) (aI 3 .live iT bl) (rfl:(kT [{bL:=[(5,0),(10,0)],iP:=none},{bL:=[(1,0)]}]) 0 0=some (5,0)) (rfl:r1.length=r1.length) (rfl:(kT [{bL:=[(5,0),(10,0)],iP:=none},{bL:=[(1,0)]}]) 0 1=some (10,0)) (rfl:bl.length=bl.length) (rfl:(kT [{bL:=[(5,0),(10,0)],iP:=none},{bL:=[(1,0)]}]) 1 0=some (1,0)) (c8 (fN (bZ [0]) 4 uX r1) (c8 (fN (bZ [0]) 3 uO bl) (nN (cd:=(bZ [0]))))))) (.bs (.agg [.id,.id])))
def Hv (ag:List Int):(Int×(List Int))→S:=fun (ad,ab)=>dr [(0,.isl 1 (ag.map eI)),(3,.bf 0 0 0 ab.length),(4,.n .i64 ad)] [(av 1 eI ab)]
def HM (ag:List Int):(List Int)→dy
 | a=>⟨some 0,[(3,.bf 0 0 0 a.length)],[(av 1 eI a)]⟩
def uk (ag:List Int)(ad:Int)(ab:List Int):Option ((Int×(List Int))⊕((List Int))) :=
 if (decide (ad<(len_ eI ag)))=true then
  if 0≤ad∧ad<ag.length then
  ag[ad.toNat]? >>= fun aB =>
  if 0≤ad∧ad<(ab.length:Nat) then
  if (0+ad.toNat)<ab.length then
  some (.inl (R (ad+(1:Int)),ab.set (0+ad.toNat) aB))
  else none
  else none
  else none
 else
  some (.inr ab)
def Jz (ag:List Int)(ad:Int)(ab:List Int):Option ((List Int)):=iter (fun w:Int×(List Int)=>uk ag w.1 w.2) (ad,ab)
theorem Vo {ag:List Int}{ad:Int}{ab:List Int}:bB (uk ag ad ab) (dL a5 22 0 7 [1,1,0,1,0,0] (Hv ag (ad,ab)) (Hv ag) (HM ag)):=by
 unfold uk
 exact .ite (fun h1 =>
  .aY fun o =>
  .ar fun aB au =>
  .aY fun aA =>
  .aY fun a0 =>
  .ret (bg [(J 4),.aa true,.aw (ah 5 (ai (.b5 (eI aB)) (ah 1 (ai .fX [])))),(J 3),.aP [0] [.cE (av 1 eI (ab.set (0+ad.toNat) aB))] [(0,ii),(3,fU ((ab.set (0+ad.toNat) aB).length)),(4,ii)]] (.bi h1 o.1 (cW eI o.2) (b2 eI au) aA.1 aA.2 (hQ eI a0) (hJ 1) (.bP (cZ 1 .live (gM (cR eI ab) (0+ad.toNat) aB)) (aI 1 .live aN (ab.set (0+ad.toNat) aB)) (hg (dQ ab) (0+ad.toNat) aB)))))
  (fun h1 =>
  .ret (bg [(J 4),.aa false,.aP [0] [.pure] (a8 [3])] (.aE h1 (aI 1 .live aN ab))))
theorem WV {ag:List Int}{ad:Int}{ab:List Int}{r} (h:Jz ag ad ab=some r):dM a5 22 0 7 [1,1,0,1,0,0] (Hv ag) (HM ag) (ad,ab) r:=dO (fun _=>Vo) h
def Ab (ag:List Int):Option (List Int) :=
 if 0≤(len_ eI ag)∧(8:Int)*(len_ eI ag)≤281474976710656∧(len_ eI ag)<9223372036854775808 then
 Jz ag 0 (List.replicate (len_ eI ag).toNat 0:List Int) >>= fun bT =>
 some bT
 else none
theorem xO {ag:List Int}:bB (Ab ag) (fun a=>Con a5 7 [.isl 1 (ag.map eI)] [] (.bf 0 0 0 a.length) [(av 1 eI a)]):=by
 unfold Ab
 exact .aY fun h1 =>
  .ar fun bT af =>
  .ret (let q1:=(List.replicate (len_ eI ag).toNat 0:List Int);kH [(J 1),(J 4),(J 1),.aP [3] [.cE (av 1 eI q1)] [(0,ii),(3,fU (q1.length)),(4,ii)],(HM ag bT).e6,(J 2)] [0] [.pure] (.bi h1.1 (Int.le_refl (len_ eI ag)) h1.2.1 h1.2.2 (cZ 1 .live (lU eI (len_ eI ag).toNat 0)) (aI 1 .live aN q1) (me (len_ eI ag).toNat (0:Int)) (WV af) (.e1 (aI 1 .live aN bT))))
def mR (a3 mj mC:Int):Option Bool :=
 if (decide (mj≤a3))=true then
  some (decide (a3≤mC))
 else
  some false
theorem p5 {a3 mj mC:Int}:bB (mR a3 mj mC) (fun r=>Con a5 28 [.n .i64 a3,.n .i64 mj,.n .i64 mC] [] (.b r) []):=by
 unfold mR
 exact .ite (fun h1 =>
  .ret (bz [(J 1),.aw (bo 7 (.aa true) 1)] (.c3 h1 h1 h1 h1)))
  (fun h1 =>
  .ret (bz [(J 1),.aw (ah 4 (cw 3 (ai (.aa false) (ah 1 []))))] (.c3 h1 h1 h1 h1)))
def Il (aM:ByteArray):Int→S:=fun ad=>dr [(0,.s aM),(3,.n .i64 ad)] []
def Oc (aM:ByteArray):((Unit)⊕(Unit))→dy
 | .inl a=>⟨some 0,[(0,.s aM)],[]⟩
 | .inr a=>⟨none,[(2,.b false)],[]⟩
def s9 (aM:ByteArray)(ad:Int):Option ((Int)⊕((Unit)⊕(Unit))) :=
 if (decide (ad<(aM.size:Int)))=true then
  if 0≤ad∧ad<(aM.size:Nat) then
  if (decide ((97:Int)≤((aM.data.toList.getD ad.toNat 0).toNat:Int)))=true then
   if (decide (((aM.data.toList.getD ad.toNat 0).toNat:Int)≤(122:Int)))=true then
    some (.inl (R (ad+(1:Int))))
   else
    if (ad == (0:Int))=true then
     some (.inr (.inr ()))
    else
     if (decide (((aM.data.toList.getD ad.toNat 0).toNat:Int)<(48:Int)))=true then
      some (.inr (.inr ()))
     else
      if (decide ((57:Int)<((aM.data.toList.getD ad.toNat 0).toNat:Int)))=true then
       some (.inr (.inr ()))
      else
       some (.inl (R (ad+(1:Int))))
  else
   if (ad == (0:Int))=true then
    some (.inr (.inr ()))
   else
    if (decide (((aM.data.toList.getD ad.toNat 0).toNat:Int)<(48:Int)))=true then
     some (.inr (.inr ()))
    else
     if (decide ((57:Int)<((aM.data.toList.getD ad.toNat 0).toNat:Int)))=true then
      some (.inr (.inr ()))
     else
      some (.inl (R (ad+(1:Int))))
  else none
 else
  some (.inr (.inl ()))
def z4 (aM:ByteArray)(ad:Int):Option ((Unit)⊕(Unit)):=iter (fun w:Int=>s9 aM w) ad
theorem V1 {aM:ByteArray}{ad:Int}:bB (s9 aM ad) (dL a5 42 0 57 [1,0,1,0,0] (Il aM ad) (Il aM) (Oc aM)):=by
 unfold s9
 exact .ite (fun h1 =>
  .aY fun o =>
  .ite (fun af =>
  (let t1:List b3:=[(J 4),.aa true,.aw (bo 9 (.aa true) 1)];
  have aT:=((.bi h1 o.1 o.2 af af af o.1 o.2 (.aE af af)):cA _);
  .ite (fun au =>
  .ret (bg (t1.append [.aw (ah 3 (cw 3 (ah 4 (cw 2 (ah 4 (cw 1 (ai (.aa false) []))))))),.aa false,(J 3),.aP [] [] (a8 [0,3])]) (aT.aH (.gu (cV au) (cV au) (cV au) (cV au) (cV au) (cV au) (cV au) cU))))
  (fun au =>
  (have fO:=aT.aH (.bP (cT au) (cT au) (cT au));
  .ite (fun aA =>
  .ret (bg (t1.append [.aw (ah 6 (cw 4 (ai (.aa true) (ah 1 (cw 4 (ah 1 (ai (.aa true) []))))))),.aa true,(J 1),.aP [] [] (a8 [2])]) (fO.aH (.bi aA aA aA aA (cT au) aA (cT au) cI (.d6 cI cI cI (cT au) (cT au) cI)))))
  (fun aA =>
  (have e3:=fO.aH (.bi aA aA aA o.1 o.2 aA (cT au) aA (.e1 (cT au)));
  .ite (fun a0 =>
  .ret (bg (t1.append [.aw (ah 10 (ai (.aa false) (ah 1 (cw 4 (ai (.aa true) (ai (.aa true) [])))))),.aa true,(J 1),.aP [] [] (a8 [2])]) (e3.aH (.gu a0 a0 a0 a0 (cT au) a0 (cT au) cI))))
  (fun a0 =>
  (let t5:List b3:=t1.append [.aw (ah 10 (ai (.aa false) (ah 5 (ai (.aa false) (ai (.aa true) [])))))];
  have kj:=e3.aH (.bi a0 a0 a0 o.1 o.2 a0 (cT au) a0 (.e1 (cT au)));
  .ite (fun bm =>
  .ret (bg (t5.append [.aa true,(J 1),.aP [] [] (a8 [2])]) (kj.aH (.e1 bm))))
  (fun bm =>
  .ret (bg (t5.append [.aa false,(J 3),.aP [] [] (a8 [0,3])]) (kj.aH (.e1 bm))))))))))))
  (fun af =>
  (let t1:List b3:=[(J 4),.aa true,.aw (ah 5 (cw 4 (ai (.aa false) (ah 1 []))))];
  have aT:=((.bi h1 o.1 o.2 af af af af af (.bP cI cI cI)):cA _);
  .ite (fun au =>
  .ret (bg (t1.append [.aw (ah 6 (cw 4 (ai (.aa true) (ah 1 (cw 4 (ah 2 [])))))),.aa true,(J 1),.aP [] [] (a8 [2])]) (aT.aH (.bi au au au au cI au cI cI (.dg cI cI cI cI cI)))))
  (fun au =>
  (have fO:=aT.aH (.bi au au au o.1 o.2 au cI au (.e1 cI));
  .ite (fun aA =>
  .ret (bg (t1.append [.aw (ah 10 (ai (.aa false) (ah 1 (cw 4 (ai (.aa true) (ah 1 [])))))),.aa true,(J 1),.aP [] [] (a8 [2])]) (fO.aH (.eB aA aA aA aA cI aA cI))))
  (fun aA =>
  (let t4:List b3:=t1.append [.aw (ah 10 (ai (.aa false) (bo 5 (.aa false) 1)))];
  have mw:=fO.aH (.gu aA aA aA o.1 o.2 aA cI aA);
  .ite (fun a0 =>
  .ret (bg (t4.append [.aa true,(J 1),.aP [] [] (a8 [2])]) (mw.aH (.e1 a0))))
  (fun a0 =>
  .ret (bg (t4.append [.aa false,(J 3),.aP [] [] (a8 [0,3])]) (mw.aH (.e1 a0)))))))))))
  (fun h1 =>
  .ret (bg [(J 4),.aa false,.aP [] [] (a8 [0])] (.e1 h1)))
theorem Om {aM:ByteArray}{ad:Int}{r} (h:z4 aM ad=some r):dM a5 42 0 57 [1,0,1,0,0] (Il aM) (Oc aM) ad r:=dO (fun _=>V1) h
def tg (aM:ByteArray):Option Bool :=
 z4 aM 0 >>= fun r1 =>
 match r1 with
 | .inl dt=>(mR (aM.size:Int) 1 8 >>= fun ba =>
  some ba)
 | .inr dt=>(some false)
theorem YF {aM:ByteArray}:bB (tg aM) (fun r=>Con a5 57 [.s aM] [] (.b r) []):=by
 unfold tg
 exact .ar fun r1 o =>
  (let t1:List b3:=[(J 1),(J 1),.aP [] [] (a8 [0,3])];
  (by
  rcases r1 with dt|dt
  ·exact (.ar fun ba aA =>
  .ret (bz (t1.append [.sub (.exit 0) [(0,.s aM)] [],.aw (bo 2 (bw 3 (.b ba) true) 1)]) (.bP (Om o) (p5 ba aA) (bX.b ba))))
  ·exact (.ret (bz (t1.append [.sub (.ret) [(2,.b false)] []]) (.e1 (Om o))))))
def pw (bW:bq):Option Bool :=
 tg bW.hh >>= fun r1 =>
 if r1=true then
  mR bW.gx (-50) 50 >>= fun ba =>
  if ba=true then
   mR bW.gw (-50) 50 >>= fun bQ =>
   some bQ
  else
   some false
 else
  some false
theorem Yk {bW:bq}:bB (pw bW) (fun r=>Con a5 40 [.agg (bu bW)] [] (.b r) []):=by
 unfold pw
 exact .ar fun r1 o =>
  (have b8:=((.aE (YF r1 o) (bX.b r1)):cA _);
  .ite (fun af =>
  .ar fun ba aA =>
  (have aT:=b8.aH (.d6 af af af (p5 ba aA) (bX.b ba) af);
  .ite (fun a0 =>
  .ar fun bQ bn =>
  .ret (bz [(J 2),.aw (ah 2 (ai (bw 1 (.b r1) true) (ah 3 (ai (bw 3 (.b ba) true) (ai (.aa true) (ah 3 (ai (bw 3 (.b bQ) true) (ai (.aa true) (ah 1 [])))))))))] (aT.aH (.d6 a0 a0 a0 (p5 bQ bn) (bX.b bQ) a0))))
  (fun a0 =>
  .ret (bz [(J 2),.aw (ah 2 (ai (bw 1 (.b r1) true) (ah 3 (ai (bw 3 (.b ba) true) (ai (.aa true) (ah 1 (cw 3 (ai (.aa false) (ah 1 [])))))))))] (aT.aH (.c3 a0 a0 a0 a0))))))
  (fun af =>
  .ret (bz [(J 2),.aw (ah 2 (ai (bw 1 (.b r1) true) (ah 1 (cw 3 (ai (.aa false) (ah 1 (cw 3 (ah 2 []))))))))] (b8.aH (.eB af af af af cU cU cU)))))
def GS (kN:ByteArray)(dA:List bq)(eh:Int):Int→S:=fun db=>dr [(1,.s kN),(8,.isl 4 (dA.map bu)),(9,.n .i64 eh),(10,.n .i64 db)] []
def NN (kN:ByteArray)(dA:List bq)(eh:Int):((Unit)⊕(Int))→dy
 | .inl a=>⟨some 0,[],[]⟩
 | .inr a=>⟨none,[(4,.n .i64 a)],[]⟩
def wV (kN:ByteArray)(dA:List bq)(eh db:Int):Option ((Int)⊕((Unit)⊕(Int))) :=
 if (decide (db<eh))=true then
  if 0≤db∧db<dA.length then
  dA[db.toNat]? >>= fun aB =>
  if (aB.hh.toList == kN.toList)=true then
   some (.inr (.inr db))
  else
   some (.inl (R (db+(1:Int))))
  else none
 else
  some (.inr (.inl ()))
def xG (kN:ByteArray)(dA:List bq)(eh db:Int):Option ((Unit)⊕(Int)):=iter (fun w:Int=>wV kN dA eh w) db
theorem UU {kN:ByteArray}{dA:List bq}{eh db:Int}:bB (wV kN dA eh db) (dL a5 21 0 41 [1,0,1,0,0] (GS kN dA eh db) (GS kN dA eh) (NN kN dA eh)):=by
 unfold wV
 exact .ite (fun h1 =>
  .aY fun o =>
  .ar fun aB au =>
  (let t1:List b3:=[(J 1),.aa true,.aw (bo 2 (.b5 (bu aB)) 3),(J 4)];
  have aT:=((.c3 h1 o.1 (cW bu o.2) (b2 bu au)):cA _);
  .ite (fun aA =>
  .ret (bg (t1.append [.aa true,(J 2),.aP [] [] (a8 [4])]) (aT.aH (.e1 aA))))
  (fun aA =>
  .ret (bg (t1.append [.aa false,(J 2),.aP [] [] (a8 [1,8,9,10])]) (aT.aH (.e1 aA))))))
  (fun h1 =>
  .ret (bg [(J 1),.aa false,.aP [] [] []] (.e1 h1)))
theorem NS {kN:ByteArray}{dA:List bq}{eh db:Int}{r} (h:xG kN dA eh db=some r):dM a5 21 0 41 [1,0,1,0,0] (GS kN dA eh) (NN kN dA eh) db r:=dO (fun _=>UU) h
def uB (aM:cF)(kN:ByteArray):Option Int :=
 xG kN aM.b7 (len_ bu aM.b7) 0 >>= fun r1 =>
 match r1 with
 | .inl dt=>(some (-1))
 | .inr dt=>(some dt)
theorem Xb {aM:cF}{kN:ByteArray}:bB (uB aM kN) (fun r=>Con a5 41 [.agg (hf aM),.s kN] [] (.n .i64 r) []):=by
 unfold uB
 exact .ar fun r1 o =>
  (let t1:List b3:=[(J 2),(J 4),.aP [] [] (a8 [1,8,9,10])];
  (by
  rcases r1 with dt|dt
  ·exact (.ret (bz (t1.append [.sub (.exit 0) [] [],(J 1)]) (.e1 (NS o))))
  ·exact (.ret (bz (t1.append [.sub (.ret) [(4,.n .i64 dt)] []]) (.e1 (NS o))))))
def GI (gO:List bq)(gz:Int)(aJ:List bC):Int→S:=fun i5=>dr [(1,.ref 0 0 0 0),(21,.isl 4 (gO.map bu)),(22,.n .i64 gz),(23,.n .i64 i5)] [[ae.mk 2 [[.isl 4 (gO.map bu),.isl 3 (aJ.map bA)]] .live]]
def GU (gO:List bq)(gz:Int)(aJ:List bC):((Unit)⊕(Unit))→dy
 | .inl a=>⟨some 0,[(1,.ref 0 0 0 0)],[[ae.mk 2 [[.isl 4 (gO.map bu),.isl 3 (aJ.map bA)]] .live]]⟩
 | .inr a=>⟨none,[(2,.b false)],[]⟩
def ry (gO:List bq)(gz:Int)(aJ:List bC)(i5:Int):Option ((Int)⊕((Unit)⊕(Unit))) :=
 if (decide (i5<gz))=true then
  if 0≤i5∧i5<gO.length then
  gO[i5.toNat]? >>= fun aB =>
  pw aB >>= fun ax =>
  if ax=true then
   uB (⟨gO,aJ⟩:cF) aB.hh >>= fun c2 =>
   if (c2 != i5)=true then
    some (.inr (.inr ()))
   else
    some (.inl (R (i5+(1:Int))))
  else
   some (.inr (.inr ()))
  else none
 else
  some (.inr (.inl ()))
def rz (gO:List bq)(gz:Int)(aJ:List bC)(i5:Int):Option ((Unit)⊕(Unit)):=iter (fun w:Int=>ry gO gz aJ w) i5
theorem UM {gO:List bq}{gz:Int}{aJ:List bC}{i5:Int}:bB (ry gO gz aJ i5) (dL a5 102 0 27 [1,1,0,1,0,0] (GI gO gz aJ i5) (GI gO gz aJ) (GU gO gz aJ)):=by
 unfold ry
 exact .ite (fun h1 =>
  .aY fun o =>
  .ar fun aB au =>
  .ar fun ax a0 =>
  (let t1:List b3:=[(J 1),.aa true,.aw (bo 2 (.b5 (bu aB)) 3)];
  have aT:=((.d6 h1 o.1 (cW bu o.2) (b2 bu au) (Yk ax a0) (bX.b ax)):cA _);
  .ite (fun bm =>
  .ar fun c2 cx =>
  (let t3:List b3:=t1.append [.aw (ah 1 (ai (bw 1 (.b ax) true) (ah 5 (ai (bw 2 (.n .i64 c2) true) (ah 2 (ai (.aa false) []))))))];
  have e3:=aT.aH (.bi (cV bm) (cV bm) (cV bm) (cV bm) (Xb c2 cx) (bX.n .i64 c2) (cV bm) (cV bm) (.e1 (cV bm)));
  .ite (fun cQ =>
  .ret (bg (t3.append [.aa true,(J 1),.aP [] [] (a8 [2])]) (e3.aH (.e1 cQ))))
  (fun cQ =>
  .ret (bg (t3.append [.aa false,(J 2),.aP [0] [.box [.id,.id]] (a8 [1,21,22,23])]) (e3.aH (.e1 cQ))))))
  (fun bm =>
  .ret (bg (t1.append [.aw (ah 1 (ai (bw 1 (.b ax) true) (ah 2 (cw 6 (ai (.aa true) []))))),.aa true,(J 1),.aP [] [] (a8 [2])]) (aT.aH (.gu (cT bm) (cT bm) (cT bm) (cT bm) (cT bm) (cT bm) (cT bm) cI))))))
  (fun h1 =>
  .ret (bg [(J 1),.aa false,.aP [0] [.box [.id,.id]] (a8 [1])] (.e1 h1)))
theorem NO {gO:List bq}{gz:Int}{aJ:List bC}{i5:Int}{r} (h:rz gO gz aJ i5=some r):dM a5 102 0 27 [1,1,0,1,0,0] (GI gO gz aJ) (GU gO gz aJ) i5 r:=dO (fun _=>UM) h
def GJ (oi:Int)(jL:List bC)(ff:Int)(aK:List bq):Int→S:=fun gH=>dr [(1,.ref 0 0 0 0),(5,.n .i64 oi),(45,.isl 3 (jL.map bA)),(46,.n .i64 ff),(47,.n .i64 gH)] [[ae.mk 2 [[.isl 4 (aK.map bu),.isl 3 (jL.map bA)]] .live]]
def NJ (oi:Int)(jL:List bC)(ff:Int)(aK:List bq):((Unit)⊕(Unit))→dy
 | .inl a=>⟨some 2,[],[]⟩
 | .inr a=>⟨none,[(2,.b false)],[]⟩
def zD (oi:Int)(jL:List bC)(ff:Int)(aK:List bq)(gH:Int):Option ((Int)⊕((Unit)⊕(Unit))) :=
 if (decide (gH<ff))=true then
  if 0≤gH∧gH<jL.length then
  jL[gH.toNat]? >>= fun aB =>
  mR aB.dp 0 oi >>= fun ax =>
  if ax=true then
   mR aB.dN 0 oi >>= fun c2 =>
   if c2=true then
    mR aB.gG 1 3 >>= fun dh =>
    if dh=true then
     if 0≤aB.dp∧aB.dp<aK.length then
     aK[aB.dp.toNat]? >>= fun zi =>
     if 0≤aB.dN∧aB.dN<aK.length then
     aK[aB.dN.toNat]? >>= fun zj =>
     if (zi.gx == zj.gx)=true then
      if (zi.gw == zj.gw)=true then
       some (.inr (.inr ()))
      else
       if zi.gN=true then
        if zj.gN=true then
         some (.inr (.inr ()))
        else
         some (.inl (R (gH+(1:Int))))
       else
        some (.inl (R (gH+(1:Int))))
     else
      if zi.gN=true then
       if zj.gN=true then
        some (.inr (.inr ()))
       else
        some (.inl (R (gH+(1:Int))))
      else
       some (.inl (R (gH+(1:Int))))
     else none
     else none
    else
     some (.inr (.inr ()))
   else
    some (.inr (.inr ()))
  else
   some (.inr (.inr ()))
  else none
 else
  some (.inr (.inl ()))
def Dl (oi:Int)(jL:List bC)(ff:Int)(aK:List bq)(gH:Int):Option ((Unit)⊕(Unit)):=iter (fun w:Int=>zD oi jL ff aK w) gH
theorem UN {oi:Int}{jL:List bC}{ff:Int}{aK:List bq}{gH:Int}:bB (zD oi jL ff aK gH) (dL a5 102 0 27 [1,1,1,1,0,1,0,0] (GJ oi jL ff aK gH) (GJ oi jL ff aK) (NJ oi jL ff aK)):=by
 unfold zD
 exact .ite (fun h1 =>
  .aY fun o =>
  .ar fun aB au =>
  .ar fun ax a0 =>
  (let t1:List b3:=[(J 1),.aa true,.aw (bo 1 (.b5 (bA aB)) 2)];
  have aT:=((.d6 h1 o.1 (cW bA o.2) (b2 bA au) (p5 ax a0) (bX.b ax)):cA _);
  .ite (fun bm =>
  .ar fun c2 cx =>
  (have fO:=aT.aH (.gu (cV bm) (cV bm) (cV bm) (cV bm) (p5 c2 cx) (bX.b c2) (cV bm) (cV bm));
  .ite (fun cQ =>
  .ar fun dh eH =>
  (let t4:List b3:=t1.append [.aw (ah 3 (ai (bw 3 (.b ax) true) (ah 5 (ai (bw 3 (.b c2) true) (ah 1 (ai (.aa false) (ah 3 (ai (bw 3 (.b dh) true) (ah 1 (ai (.aa false) []))))))))))];
  have mw:=fO.aH (.eB (cV cQ) (cV cQ) (cV cQ) (p5 dh eH) (bX.b dh) (cV cQ) (cV cQ));
  .ite (fun eS =>
  .aY fun eJ =>
  .ar fun zi ha =>
  .aY fun hN =>
  .ar fun zj gq =>
  (let t6:List b3:=t4.append [.aa false,.aw (bo 5 (.b5 (bu zi)) 2),.aw (bo 5 (.b5 (bu zj)) 2)];
  have Nn:=mw.aH (.eB (cV eS) eJ.1 (cW bu eJ.2) (b2 bu ha) hN.1 (cW bu hN.2) (b2 bu gq));
  .ite (fun ft =>
  .ite (fun gJ =>
  .ret (bg (t6.append [.aw (ah 11 (ai (.aa true) (ah 1 (cw 3 (ah 2 (cw 1 (ai (.aa true) []))))))),.aa true,(J 1),.aP [] [] (a8 [2])]) (Nn.aH (.bi ft ft ft ft ft ft gJ gJ (.c3 gJ gJ gJ cI)))))
  (fun gJ =>
  (have lR:=Nn.aH (.bi ft ft ft ft ft ft gJ gJ (.e1 gJ));
  .ite (fun ib =>
  (let t9:List b3:=t6.append [.aw (ah 11 (ai (.aa true) (ah 6 (ai (.aa true) (ai (.aa false) [])))))];
  .ite (fun na =>
  .ret (bg (t9.append [.aa true,(J 1),.aP [] [] (a8 [2])]) (lR.aH (.d6 ib ib gJ ib gJ na))))
  (fun na =>
  .ret (bg (t9.append [.aa false,(J 2),.aP [0] [.box [.id,.id]] (a8 [1,5,45,46,47])]) (lR.aH (.d6 ib ib gJ ib gJ na))))))
  (fun ib =>
  .ret (bg (t6.append [.aw (ah 11 (ai (.aa true) (ah 4 (cw 2 (ai (.aa false) (ai (.aa false) [])))))),.aa false,(J 2),.aP [0] [.box [.id,.id]] (a8 [1,5,45,46,47])]) (lR.aH (.d6 ib ib gJ ib gJ cU)))))))
  (fun ft =>
  (have lR:=Nn.aH (.bi ft ft ft ft ft ft cU cU (.e1 cU));
  .ite (fun gJ =>
  (let t9:List b3:=t6.append [.aw (ah 6 (cw 5 (ai (.aa false) (bo 6 (.aa true) 1))))];
  .ite (fun ib =>
  .ret (bg (t9.append [.aa true,(J 1),.aP [] [] (a8 [2])]) (lR.aH (.dg gJ gJ cU gJ ib))))
  (fun ib =>
  .ret (bg (t9.append [.aa false,(J 2),.aP [0] [.box [.id,.id]] (a8 [1,5,45,46,47])]) (lR.aH (.dg gJ gJ cU gJ ib))))))
  (fun gJ =>
  .ret (bg (t6.append [.aw (ah 6 (cw 5 (ai (.aa false) (ah 4 (cw 2 (ai (.aa false) (ah 1 []))))))),.aa false,(J 2),.aP [0] [.box [.id,.id]] (a8 [1,5,45,46,47])]) (lR.aH (.dg gJ gJ cU gJ cU))))))))
  (fun eS =>
  .ret (bg (t4.append [.aa true,(J 1),.aP [] [] (a8 [2])]) (mw.aH (.e1 (cT eS)))))))
  (fun cQ =>
  .ret (bg (t1.append [.aw (ah 3 (ai (bw 3 (.b ax) true) (ah 5 (ai (bw 3 (.b c2) true) (ah 1 (ai (.aa false) (ah 1 (cw 4 (ai (.aa true) []))))))))),.aa true,(J 1),.aP [] [] (a8 [2])]) (fO.aH (.d6 (cT cQ) (cT cQ) (cT cQ) (cT cQ) (cT cQ) cI))))))
  (fun bm =>
  .ret (bg (t1.append [.aw (ah 3 (ai (bw 3 (.b ax) true) (ah 2 (cw 5 (ai (.aa true) (ah 1 (cw 4 (ah 1 [])))))))),.aa true,(J 1),.aP [] [] (a8 [2])]) (aT.aH (.bi (cT bm) (cT bm) (cT bm) (cT bm) (cT bm) (cT bm) cI cI (.bP cI cI cI)))))))
  (fun h1 =>
  .ret (bg [(J 1),.aa false,.aP [] [] []] (.e1 h1)))
theorem NP {oi:Int}{jL:List bC}{ff:Int}{aK:List bq}{gH:Int}{r} (h:Dl oi jL ff aK gH=some r):dM a5 102 0 27 [1,1,1,1,0,1,0,0] (GJ oi jL ff aK) (NJ oi jL ff aK) gH r:=dO (fun _=>UN) h
def kl (aM:cF):Option Bool :=
 if (decide ((6:Int)<(len_ bu aM.b7)))=true then
  some false
 else
  if (decide ((8:Int)<(len_ bA aM.bE)))=true then
   some false
  else
   rz aM.b7 (len_ bu aM.b7) aM.bE 0 >>= fun bl =>
   match bl with
   | .inl fu=>(Dl (R ((len_ bu aM.b7)-(1:Int))) aM.bE (len_ bA aM.bE) aM.b7 0 >>= fun cl =>
    match cl with
    | .inl mv=>(some true)
    | .inr mv=>(some false))
   | .inr fu=>(some false)
theorem WW {aM:cF}:bB (kl aM) (fun r=>Con a5 27 [.agg (hf aM)] [] (.b r) []):=by
 unfold kl
 exact .ite (fun h1 =>
  .ret (bz [(J 2),.aw (ah 5 (cw 4 (ai (.aa true) []))),.aa true,(J 1)] (.d6 h1 h1 h1 h1 h1 cI)))
  (fun h1 =>
  (let t1:List b3:=[(J 2),.aw (ah 9 (ai (.aa false) []))];
  .ite (fun o =>
  .ret (bz (t1.append [.aa true,(J 1)]) (.d6 h1 h1 h1 h1 h1 o)))
  (fun o =>
  .ar fun bl au =>
  (let t2:List b3:=t1.append [.aa false,(J 4),.aP [0] [.box [.id,.id]] (a8 [1,21,22,23])];
  (by
  rcases bl with fu|fu
  ·exact (.ar fun cl bm =>
  (let t3:List b3:=t2.append [(GU aM.b7 (len_ bu aM.b7) aM.bE (.inl fu)).e6,(J 5),(J 4),.aP [0] [.box [.id,.id]] (a8 [1,5,45,46,47])];
  have e3:=((.eB h1 h1 h1 h1 h1 o (NO au)):cA _);
  (by
  rcases cl with mv|mv
  ·exact (.ret (bz (t3.append [.sub (.exit 2) [] [],(J 1)]) (e3.aH (.e1 (NP bm)))))
  ·exact (.ret (bz (t3.append [.sub (.ret) [(2,.b false)] []]) (e3.aH (.e1 (NP bm))))))))
  ·exact (.ret (bz (t2.append [.sub (.ret) [(2,.b false)] []]) (.eB h1 h1 h1 h1 h1 o (NO au)))))))))
def Im (hi:List Int)(fK:Int):Int→S:=fun gO=>dr [(19,.isl 1 (hi.map eI)),(20,.n .i64 fK),(21,.n .i64 gO)] []
def Od (hi:List Int)(fK:Int):((Unit)⊕(Unit))→dy
 | .inl a=>⟨some 0,[],[]⟩
 | .inr a=>⟨none,[(4,.b false)],[]⟩
def xw (hi:List Int)(fK gO:Int):Option ((Int)⊕((Unit)⊕(Unit))) :=
 if (decide (gO<fK))=true then
  if 0≤gO∧gO<hi.length then
  hi[gO.toNat]? >>= fun aB =>
  mR aB (-100) 100 >>= fun ax =>
  if ax=true then
   some (.inl (R (gO+(1:Int))))
  else
   some (.inr (.inr ()))
  else none
 else
  some (.inr (.inl ()))
def JZ (hi:List Int)(fK gO:Int):Option ((Unit)⊕(Unit)):=iter (fun w:Int=>xw hi fK w) gO
theorem V2 {hi:List Int}{fK gO:Int}:bB (xw hi fK gO) (dL a5 29 0 16 [1,1,0,1,0,0] (Im hi fK gO) (Im hi fK) (Od hi fK)):=by
 unfold xw
 exact .ite (fun h1 =>
  .aY fun o =>
  .ar fun aB au =>
  .ar fun ax a0 =>
  (let t1:List b3:=[(J 1),.aa true,.aw (bo 1 (.b5 (eI aB)) 1),.aw (bo 1 (bw 3 (.b ax) true) 1)];
  have aT:=((.d6 h1 o.1 (cW eI o.2) (b2 eI au) (p5 ax a0) (bX.b ax)):cA _);
  .ite (fun bm =>
  .ret (bg (t1.append [.aa false,(J 2),.aP [] [] (a8 [19,20,21])]) (aT.aH (.e1 (cV bm)))))
  (fun bm =>
  .ret (bg (t1.append [.aa true,(J 1),.aP [] [] (a8 [4])]) (aT.aH (.e1 (cT bm)))))))
  (fun h1 =>
  .ret (bg [(J 1),.aa false,.aP [] [] []] (.e1 h1)))
theorem On {hi:List Int}{fK gO:Int}{r} (h:JZ hi fK gO=some r):dM a5 29 0 16 [1,1,0,1,0,0] (Im hi fK) (Od hi fK) gO r:=dO (fun _=>V2) h
def sc (aM:cF)(cj:List Int):Option Bool :=
 kl aM >>= fun r1 =>
 if r1=true then
  if ((len_ eI cj) != (R ((2:Int)*(len_ bu aM.b7))))=true then
   some false
  else
   JZ cj (len_ eI cj) 0 >>= fun ax =>
   match ax with
   | .inl pb=>(some true)
   | .inr pb=>(some false)
 else
  some false
theorem J0 {aM:cF}{cj:List Int}:bB (sc aM cj) (fun r=>Con a5 16 [.agg (hf aM),.isl 1 (cj.map eI)] [] (.b r) []):=by
 unfold sc
 exact .ar fun r1 o =>
  (have b8:=((.aE (WW r1 o) (bX.b r1)):cA _);
  .ite (fun af =>
  (let t2:List b3:=[(J 2),.aw (ah 1 (ai (bw 1 (.b r1) true) (ah 9 (ai (.aa false) []))))];
  have fO:=b8.aH (.gu (cV af) (cV af) (cV af) (cV af) (cV af) (cV af) (cV af) (cV af));
  .ite (fun au =>
  .ret (bz (t2.append [.aa true,(J 1)]) (fO.aH (.e1 au))))
  (fun au =>
  .ar fun ax a0 =>
  (let t4:List b3:=t2.append [.aa false,(J 3),.aP [] [] (a8 [19,20,21])];
  (by
  rcases ax with pb|pb
  ·exact (.ret (bz (t4.append [.sub (.exit 0) [] [],(J 1)]) (fO.aH (.aE au (On a0)))))
  ·exact (.ret (bz (t4.append [.sub (.ret) [(4,.b false)] []]) (fO.aH (.aE au (On a0))))))))))
  (fun af =>
  .ret (bz [(J 2),.aw (ah 1 (ai (bw 1 (.b r1) true) (ah 2 (cw 7 (ai (.aa true) []))))),.aa true,(J 1)] (b8.aH (.bi (cT af) (cT af) (cT af) (cT af) (cT af) (cT af) (cT af) (cT af) (.e1 cI))))))
def Io (a3:Int)(dD:List Int)(dA:Int):Int→S:=fun eh=>dr [(1,.n .i64 a3),(7,.isl 1 (dD.map eI)),(8,.n .i64 dA),(9,.n .i64 eh)] []
def Oe (a3:Int)(dD:List Int)(dA:Int):((Unit)⊕(Unit))→dy
 | .inl a=>⟨some 0,[],[]⟩
 | .inr a=>⟨none,[(4,.b true)],[]⟩
def xx (a3:Int)(dD:List Int)(dA eh:Int):Option ((Int)⊕((Unit)⊕(Unit))) :=
 if (decide (eh<dA))=true then
  if 0≤eh∧eh<dD.length then
  dD[eh.toNat]? >>= fun aB =>
  if (aB == a3)=true then
   some (.inr (.inr ()))
  else
   some (.inl (R (eh+(1:Int))))
  else none
 else
  some (.inr (.inl ()))
def J1 (a3:Int)(dD:List Int)(dA eh:Int):Option ((Unit)⊕(Unit)):=iter (fun w:Int=>xx a3 dD dA w) eh
theorem V3 {a3:Int}{dD:List Int}{dA eh:Int}:bB (xx a3 dD dA eh) (dL a5 17 0 44 [1,0,1,0,0] (Io a3 dD dA eh) (Io a3 dD dA) (Oe a3 dD dA)):=by
 unfold xx
 exact .ite (fun h1 =>
  .aY fun o =>
  .ar fun aB au =>
  (let t1:List b3:=[(J 1),.aa true,.aw (bo 1 (.b5 (eI aB)) 1),(J 3)];
  have aT:=((.c3 h1 o.1 (cW eI o.2) (b2 eI au)):cA _);
  .ite (fun aA =>
  .ret (bg (t1.append [.aa true,(J 1),.aP [] [] (a8 [4])]) (aT.aH (.e1 aA))))
  (fun aA =>
  .ret (bg (t1.append [.aa false,(J 2),.aP [] [] (a8 [1,7,8,9])]) (aT.aH (.e1 aA))))))
  (fun h1 =>
  .ret (bg [(J 1),.aa false,.aP [] [] []] (.e1 h1)))
theorem Oo {a3:Int}{dD:List Int}{dA eh:Int}{r} (h:J1 a3 dD dA eh=some r):dM a5 17 0 44 [1,0,1,0,0] (Io a3 dD dA) (Oe a3 dD dA) eh r:=dO (fun _=>V3) h
def AD (cj:List Int)(a3:Int):Option Bool :=
 J1 a3 cj (len_ eI cj) 0 >>= fun r1 =>
 match r1 with
 | .inl dt=>(some false)
 | .inr dt=>(some true)
theorem YG {cj:List Int}{a3:Int}:bB (AD cj a3) (fun r=>Con a5 44 [.isl 1 (cj.map eI),.n .i64 a3] [] (.b r) []):=by
 unfold AD
 exact .ar fun r1 o =>
  (let t1:List b3:=[(J 1),(J 3),.aP [] [] (a8 [1,7,8,9])];
  (by
  rcases r1 with dt|dt
  ·exact (.ret (bz (t1.append [.sub (.exit 0) [] [],(J 1)]) (.e1 (Oo o))))
  ·exact (.ret (bz (t1.append [.sub (.ret) [(4,.b true)] []]) (.e1 (Oo o))))))
def Gq (hR:List Int)(bM:List bC)(cY:Int)(aC:List bq):(Int×(List bC))→S:=fun (ee,al)=>dr [(1,.isl 1 (hR.map eI)),(4,.ref 0 0 0 0),(5,.ref 1 0 0 0),(14,.isl 3 (bM.map bA)),(15,.n .i64 cY),(16,.n .i64 ee)] [[ae.mk 2 [[.ei,.ei]] .live],[ae.mk 2 [[.bf 2 0 0 aC.length,.bf 3 0 0 al.length]] .live],(av 4 bu aC),(av 3 bA al)]
def Gy (hR:List Int)(bM:List bC)(cY:Int)(aC:List bq):(List bC)→dy
 | a=>⟨some 0,[(4,.ref 0 0 0 0),(5,.ref 1 0 0 0)],[[ae.mk 2 [[.ei,.ei]] .live],[ae.mk 2 [[.bf 2 0 0 aC.length,.bf 3 0 0 a.length]] .live],(av 4 bu aC),(av 3 bA a)]⟩
def wM (hR:List Int)(bM:List bC)(cY:Int)(aC:List bq)(ee:Int)(al:List bC):Option ((Int×(List bC))⊕((List bC))) :=
 if (decide (ee<cY))=true then
  if 0≤ee∧ee<bM.length then
  bM[ee.toNat]? >>= fun aB =>
  AD hR ee >>= fun ax =>
  if ax=true then
   some (.inl (R (ee+(1:Int)),al))
  else
   if (al++([aB]:List bC)).length*24≤140737488355328 then
   some (.inl (R (ee+(1:Int)),al++([aB]:List bC)))
   else none
  else none
 else
  some (.inr al)
def Hf (hR:List Int)(bM:List bC)(cY:Int)(aC:List bq)(ee:Int)(al:List bC):Option ((List bC)):=iter (fun w:Int×(List bC)=>wM hR bM cY aC w.1 w.2) (ee,al)
theorem Uz {hR:List Int}{bM:List bC}{cY:Int}{aC:List bq}{ee:Int}{al:List bC}:bB (wM hR bM cY aC ee al) (dL a5 33 0 30 [1,1,0,1,0,0] (Gq hR bM cY aC (ee,al)) (Gq hR bM cY aC) (Gy hR bM cY aC)):=by
 unfold wM
 exact .ite (fun h1 =>
  .aY fun o =>
  .ar fun aB au =>
  .ar fun ax a0 =>
  (let t1:List b3:=[(J 1),.aa true,.aw (bo 2 (.b5 (bA aB)) 3),.aw (bo 2 (bw 2 (.b ax) true) 1)];
  have aT:=((.d6 h1 o.1 (cW bA o.2) (b2 bA au) (YG ax a0) (bX.b ax)):cA _);
  .ite (fun bm =>
  .ret (bg (t1.append [.aa false,(J 2),.aP [0,1,2,3] [.box [.id,.id],.box [.id,.id],.pure,.pure] (a8 [1,4,5,14,15,16])]) (aT.aH (.bP (cV bm) (aI 4 .live ju aC) (aI 3 .live iT al)))))
  (fun bm =>
  .aY fun bn =>
  .ret (let q1:=(al++([aB]:List bC));bg (t1.append [.aa true,.aw (bo 4 (.aH (q1.length)) 2),(J 2),.aP [0,1,2,19] [.box [.id,.id],.box [.id,.id],.pure,.cE (av 3 bA q1)] (a8 [1,4,5,14,15,16])]) (aT.aH (.gu (cT bm) (gC bA aB) (gW bA al) (gD bA al aB) bn (aI 4 .live ju aC) (cZ 3 .live (hb bA al aB)) (aI 3 .live iT q1)))))))
  (fun h1 =>
  .ret (bg [(J 1),.aa false,.aP [0,1,2,3] [.box [.id,.id],.box [.id,.id],.pure,.pure] (a8 [4,5])] (.bP h1 (aI 4 .live ju aC) (aI 3 .live iT al))))
theorem Vh {hR:List Int}{bM:List bC}{cY:Int}{aC:List bq}{ee:Int}{al:List bC}{r} (h:Hf hR bM cY aC ee al=some r):dM a5 33 0 30 [1,1,0,1,0,0] (Gq hR bM cY aC) (Gy hR bM cY aC) (ee,al) r:=dO (fun _=>Uz) h
def xy (aM:cF)(hR:List Int):Option cF :=
 if (([]:List bq)++aM.b7).length*40≤140737488355328 then
 Hf hR aM.bE (len_ bA aM.bE) (([]:List bq)++aM.b7) 0 ([]:List bC) >>= fun bT =>
 some (⟨([]:List bq)++aM.b7,bT⟩:cF)
 else none
theorem V4 {aM:cF}{hR:List Int}:bB (xy aM hR) (fun r=>Con a5 30 [.agg (hf aM),.isl 1 (hR.map eI)] [] (.agg (hf r)) []):=by
 unfold xy
 exact .aY fun h1 =>
  .ar fun bT af =>
  .ret (let q1:=(([]:List bq)++aM.b7);bz [(J 2),.aw (bo 3 (.aH (q1.length)) 3),(J 4),.rS 7 1 3,.aP [1,7,5,13] [.box [.id,.id],.box [.id,.len (([]:List bC).length)],.cE (av 4 bu q1),.cE (av 3 bA ([]:List bC))] (a8 [1,4,5,14,15,16]),(Gy hR aM.bE (len_ bA aM.bE) q1 bT).e6,(J 2)] (.bi (nn (show []=(([]:List bq)).map bu from rfl) (fc bq)) (lV (fc bq) (cR bu aM.b7):q1.length=0+(aM.b7.map bu).length) h1 (fc bC) (cZ 4 .live (iv (show []=(([]:List bq)).map bu from rfl) (fc bq) (cR bu aM.b7))) (aI 4 .live ju q1) (cZ 3 .live (nd bA)) (aI 3 .live iT ([]:List bC)) (.eB (Vh af) (fv bu q1) (fb bu q1) (dd ju q1) (fv bA bT) (fb bA bT) (dd iT bT))) (.bs (.agg [.dF (q1.map bu),.dF (bT.map bA)])))
def GV (dc:List bC)(d3:Int):(Int×(List Int)×(List Int))→S:=fun (b9,ab,an)=>dr [(4,.bf 0 0 0 ab.length),(5,.bf 1 0 0 an.length),(11,.isl 3 (dc.map bA)),(12,.n .i64 d3),(13,.n .i64 b9)] [(av 1 eI ab),(av 1 eI an)]
def Hg (dc:List bC)(d3:Int):((List Int)×(List Int))→dy
 | a=>⟨some 0,[(4,.bf 0 0 0 a.1.length),(5,.bf 1 0 0 a.2.length)],[(av 1 eI a.1),(av 1 eI a.2)]⟩
def wW (dc:List bC)(d3 b9:Int)(ab an:List Int):Option ((Int×(List Int)×(List Int))⊕((List Int)×(List Int))) :=
 if (decide (b9<d3))=true then
  if 0≤b9∧b9<dc.length then
  dc[b9.toNat]? >>= fun aB =>
  if (aB.gG != (2:Int))=true then
   if (ab++([b9]:List Int)).length*8≤140737488355328 then
   if (an++([1]:List Int)).length*8≤140737488355328 then
   if (aB.gG != (1:Int))=true then
    if ((ab++([b9]:List Int))++([b9]:List Int)).length*8≤140737488355328 then
    if ((an++([1]:List Int))++([(-1)]:List Int)).length*8≤140737488355328 then
    some (.inl (R (b9+(1:Int)),(ab++([b9]:List Int))++([b9]:List Int),(an++([1]:List Int))++([(-1)]:List Int)))
    else none
    else none
   else
    some (.inl (R (b9+(1:Int)),ab++([b9]:List Int),an++([1]:List Int)))
   else none
   else none
  else
   if (aB.gG != (1:Int))=true then
    if (ab++([b9]:List Int)).length*8≤140737488355328 then
    if (an++([(-1)]:List Int)).length*8≤140737488355328 then
    some (.inl (R (b9+(1:Int)),ab++([b9]:List Int),an++([(-1)]:List Int)))
    else none
    else none
   else
    some (.inl (R (b9+(1:Int)),ab,an))
  else none
 else
  some (.inr (ab,an))
def IW (dc:List bC)(d3 b9:Int)(ab an:List Int):Option ((List Int)×(List Int)):=iter (fun w:Int×(List Int)×(List Int)=>wW dc d3 w.1 w.2.1 w.2.2) (b9,ab,an)
theorem UW {dc:List bC}{d3 b9:Int}{ab an:List Int}:bB (wW dc d3 b9 ab an) (dL a5 41 0 62 [1,1,1,0,1,0,0] (GV dc d3 (b9,ab,an)) (GV dc d3) (Hg dc d3)):=by
 unfold wW
 exact .ite (fun h1 =>
  .aY fun o =>
  .ar fun aB au =>
  (let t1:List b3:=[(J 1),.aa true,.aw (bo 2 (.b5 (bA aB)) 3),(J 3)];
  have aT:=((.c3 h1 o.1 (cW bA o.2) (b2 bA au)):cA _);
  .ite (fun aA =>
  .aY fun a0 =>
  .aY fun bm =>
  (let t3:List b3:=t1.append [.aa true,.aw (bo 3 (.aH ((ab++([b9]:List Int)).length)) 1),.aw (bo 2 (.aH ((an++([1]:List Int)).length)) 1),(J 3)];
  have e3:=aT.aH (.bi aA (gC eI b9) (gW eI ab) (gD eI ab b9) a0 (gC eI 1) (gW eI an) (gD eI an 1) (.e1 bm));
  .ite (fun bn =>
  .aY fun cx =>
  .aY fun cQ =>
  .ret (let q1:=(ab++([b9]:List Int));let a6:=(an++([1]:List Int));let bY:=(a6++([(-1)]:List Int));let cz:=(q1++([b9]:List Int));bg (t3.append [.aa true,.aw (bo 3 (.aH (cz.length)) 1),.aw (bo 2 (.aH (bY.length)) 1),(J 2),.aP [27,31] [.cE (av 1 eI cz),.cE (av 1 eI bY)] (a8 [4,5,11,12,13])]) (e3.aH (.bi bn (gC eI b9) (nn (hb eI ab b9) (dQ q1)) (gD eI q1 b9) cx (gC eI (-1)) (nn (hb eI an 1) (dQ a6)) (gD eI a6 (-1)) (.dg cQ (cZ 1 .live (iv (hb eI ab b9) (dQ q1) (wc eI b9))) (aI 1 .live aN cz) (cZ 1 .live (iv (hb eI an 1) (dQ a6) (wc eI (-1)))) (aI 1 .live aN bY))))))
  (fun bn =>
  .ret (let dj:=(ab++([b9]:List Int));let f6:=(an++([1]:List Int));bg (t3.append [.aa false,(J 2),.aP [15,19] [.cE (av 1 eI dj),.cE (av 1 eI f6)] (a8 [4,5,11,12,13])]) (e3.aH (.dg bn (cZ 1 .live (hb eI ab b9)) (aI 1 .live aN dj) (cZ 1 .live (hb eI an 1)) (aI 1 .live aN f6)))))))
  (fun aA =>
  .ite (fun a0 =>
  .aY fun bm =>
  .aY fun bn =>
  .ret (let h4:=(an++([(-1)]:List Int));let fw:=(ab++([b9]:List Int));bg (t1.append [.aa false,(J 3),.aa true,.aw (bo 3 (.aH (fw.length)) 1),.aw (bo 2 (.aH (h4.length)) 1),(J 2),.aP [18,22] [.cE (av 1 eI fw),.cE (av 1 eI h4)] (a8 [4,5,11,12,13])]) (aT.aH (.bi aA a0 (gC eI b9) (gW eI ab) (gD eI ab b9) bm (gC eI (-1)) (gW eI an) (.d6 (gD eI an (-1)) bn (cZ 1 .live (hb eI ab b9)) (aI 1 .live aN fw) (cZ 1 .live (hb eI an (-1))) (aI 1 .live aN h4))))))
  (fun a0 =>
  .ret (bg (t1.append [.aa false,(J 3),.aa false,(J 2),.aP [0,1] [.pure,.pure] (a8 [4,5,11,12,13])]) (aT.aH (.c3 aA a0 (aI 1 .live aN ab) (aI 1 .live aN an))))))))
  (fun h1 =>
  .ret (bg [(J 1),.aa false,.aP [0,1] [.pure,.pure] (a8 [4,5])] (.bP h1 (aI 1 .live aN ab) (aI 1 .live aN an))))
theorem Wo {dc:List bC}{d3 b9:Int}{ab an:List Int}{r} (h:IW dc d3 b9 ab an=some r):dM a5 41 0 62 [1,1,1,0,1,0,0] (GV dc d3) (Hg dc d3) (b9,ab,an) r:=dO (fun _=>UW) h
def zY (aM:cF):Option ((List Int)×(List Int)) :=
 IW aM.bE (len_ bA aM.bE) 0 ([]:List Int) ([]:List Int) >>= fun r1 =>
 some (r1.1,r1.2)
theorem Xc {aM:cF}:bB (zY aM) (fun r=>Con a5 62 [.agg (hf aM)] [] (.ea [.isl 1 (r.1.map eI),.isl 1 (r.2.map eI)]) []):=by
 unfold zY
 exact .ar fun r1 o =>
  .ret (let q1:=(cZ 1 .live (show []=(([]:List Int)).map eI from rfl));let a6:=(aI 1 .live aN ([]:List Int));let bY:=(av 1 eI ([]:List Int));bz [(J 3),(J 2),(J 2),(J 4),.aP [3,5] [.cE bY,.cE bY] [(4,fU (([]:List Int).length)),(5,fU (([]:List Int).length)),(11,ii),(12,ii),(13,ii)],(Hg aM.bE (len_ bA aM.bE) r1).e6,(J 4)] (.bi q1 a6 q1 a6 (fc Int) (fc Int) (Wo o) (fv eI r1.1) (.dg (fb eI r1.1) (dd aN r1.1) (fv eI r1.2) (fb eI r1.2) (dd aN r1.2))) (.comp [.c9 (.dF (r1.1.map eI)),.c9 (.dF (r1.2.map eI))]))
def HN (dA:List bq)(eh:Int):(Int×(List Int))→S:=fun (db,ab)=>dr [(3,.bf 0 0 0 ab.length),(8,.isl 4 (dA.map bu)),(9,.n .i64 eh),(10,.n .i64 db)] [(av 1 eI ab)]
def Ip (dA:List bq)(eh:Int):(List Int)→dy
 | a=>⟨some 0,[(3,.bf 0 0 0 a.length)],[(av 1 eI a)]⟩
def zJ (dA:List bq)(eh db:Int)(ab:List Int):Option ((Int×(List Int))⊕((List Int))) :=
 if (decide (db<eh))=true then
  if 0≤db∧db<dA.length then
  dA[db.toNat]? >>= fun aB =>
  if aB.gN=true then
   some (.inl (R (db+(1:Int)),ab))
  else
   if (ab++([db]:List Int)).length*8≤140737488355328 then
   some (.inl (R (db+(1:Int)),ab++([db]:List Int)))
   else none
  else none
 else
  some (.inr ab)
def JO (dA:List bq)(eh db:Int)(ab:List Int):Option ((List Int)):=iter (fun w:Int×(List Int)=>zJ dA eh w.1 w.2) (db,ab)
theorem VE {dA:List bq}{eh db:Int}{ab:List Int}:bB (zJ dA eh db ab) (dL a5 24 0 64 [1,1,0,1,0,0] (HN dA eh (db,ab)) (HN dA eh) (Ip dA eh)):=by
 unfold zJ
 exact .ite (fun h1 =>
  .aY fun o =>
  .ar fun aB au =>
  (let t1:List b3:=[(J 1),.aa true,.aw (bo 2 (.b5 (bu aB)) 3),(J 3)];
  have aT:=((.c3 h1 o.1 (cW bu o.2) (b2 bu au)):cA _);
  .ite (fun aA =>
  .ret (bg (t1.append [.aa false,(J 2),.aP [0] [.pure] (a8 [3,8,9,10])]) (aT.aH (.aE (cV aA) (aI 1 .live aN ab)))))
  (fun aA =>
  .aY fun a0 =>
  .ret (let q1:=(ab++([db]:List Int));bg (t1.append [.aa true,.aw (bo 3 (.aH (q1.length)) 1),(J 2),.aP [14] [.cE (av 1 eI q1)] (a8 [3,8,9,10])]) (aT.aH (.eB (cT aA) (gC eI db) (gW eI ab) (gD eI ab db) a0 (cZ 1 .live (hb eI ab db)) (aI 1 .live aN q1)))))))
  (fun h1 =>
  .ret (bg [(J 1),.aa false,.aP [0] [.pure] (a8 [3])] (.aE h1 (aI 1 .live aN ab))))
theorem Xd {dA:List bq}{eh db:Int}{ab:List Int}{r} (h:JO dA eh db ab=some r):dM a5 24 0 64 [1,1,0,1,0,0] (HN dA eh) (Ip dA eh) (db,ab) r:=dO (fun _=>VE) h
def uI (aM:cF):Option (List Int) :=
 JO aM.b7 (len_ bu aM.b7) 0 ([]:List Int) >>= fun r1 =>
 some r1
theorem JP {aM:cF}:bB (uI aM) (fun r=>Con a5 64 [.agg (hf aM)] [] (.isl 1 (r.map eI)) []):=by
 unfold uI
 exact .ar fun r1 o =>
  .ret (bz [(J 2),(J 2),(J 4),.aP [2] [.cE (av 1 eI ([]:List Int))] [(3,fU (([]:List Int).length)),(8,ii),(9,ii),(10,ii)],(Ip aM.b7 (len_ bu aM.b7) r1).e6,(J 2)] (.eB (cZ 1 .live (show []=(([]:List Int)).map eI from rfl)) (aI 1 .live aN ([]:List Int)) (fc Int) (Xd o) (fv eI r1) (fb eI r1) (dd aN r1)) (.bs (.c9 (.dF (r1.map eI)))))
def xU (aM:cF)(aO:Int):Option (Int×Int) :=
 if 0≤aO∧aO<aM.bE.length then
 aM.bE[aO.toNat]? >>= fun eb =>
 if 0≤eb.dp∧eb.dp<aM.b7.length then
 aM.b7[eb.dp.toNat]? >>= fun eX =>
 if 0≤eb.dN∧eb.dN<aM.b7.length then
 aM.b7[eb.dN.toNat]? >>= fun ms =>
 some (R (ms.gx-eX.gx),R (ms.gw-eX.gw))
 else none
 else none
 else none
theorem Xz {aM:cF}{aO:Int}:bB (xU aM aO) (fun r=>Con a5 90 [.agg (hf aM),.n .i64 aO] [] (.ea [.n .i64 r.1,.n .i64 r.2]) []):=by
 unfold xU
 exact .aY fun h1 =>
  .ar fun eb af =>
  .aY fun au =>
  .ar fun eX a0 =>
  .aY fun bm =>
  .ar fun ms cx =>
  .ret (bz [(J 3),.aw (ah 7 (ai (.b5 (bA eb)) (bo 1 (.b5 (bu eX)) 2))),.aw (ah 7 (ai (.b5 (bA eb)) (bo 1 (.b5 (bu ms)) 2))),(J 12)] (.bi h1.1 (cW bA h1.2) (b2 bA af) au.1 (cW bu au.2) (b2 bu a0) h1.1 (cW bA h1.2) (.c3 (b2 bA af) bm.1 (cW bu bm.2) (b2 bu cx))))
def HO (ad:Int)(bM:List Int)(cY ee:Int)(i5:List bC)(j6:Int)(aK:List bq)(an:List Int):(Int×(List Int)×(List Int))→S:=fun (ix,aC,al)=>dr [(1,.ref 0 0 0 0),(3,.bf 1 0 0 an.length),(5,.n .i64 ad),(6,.bf 2 0 0 aC.length),(7,.bf 3 0 0 al.length),(14,.isl 1 (bM.map eI)),(15,.n .i64 cY),(16,.n .i64 ee),(23,.isl 3 (i5.map bA)),(24,.n .i64 j6),(25,.n .i64 ix)] [[ae.mk 2 [[.isl 4 (aK.map bu),.isl 3 (i5.map bA)]] .live],(av 1 eI an),(av 1 eI aC),(av 1 eI al)]
def Iq (ad:Int)(bM:List Int)(cY ee:Int)(i5:List bC)(j6:Int)(aK:List bq)(an:List Int):((List Int)×(List Int))→dy
 | a=>⟨some 2,[(1,.ref 0 0 0 0),(3,.bf 1 0 0 an.length),(6,.bf 2 0 0 a.1.length),(7,.bf 3 0 0 a.2.length),(14,.isl 1 (bM.map eI)),(15,.n .i64 cY),(16,.n .i64 ee)],[[ae.mk 2 [[.isl 4 (aK.map bu),.isl 3 (i5.map bA)]] .live],(av 1 eI an),(av 1 eI a.1),(av 1 eI a.2)]⟩
def xj (ad:Int)(bM:List Int)(cY ee:Int)(i5:List bC)(j6:Int)(aK:List bq)(an:List Int)(ix:Int)(aC al:List Int):Option ((Int×(List Int)×(List Int))⊕((List Int)×(List Int))) :=
 if (decide (ix<j6))=true then
  if 0≤ix∧ix<i5.length then
  i5[ix.toNat]? >>= fun aB =>
  xU (⟨aK,i5⟩:cF) ix >>= fun ax =>
  if (ad == aB.dp)=true then
   if (aC++([ax.1]:List Int)).length*8≤140737488355328 then
   if (al++([ax.2]:List Int)).length*8≤140737488355328 then
   some (.inl (R (ix+(1:Int)),aC++([ax.1]:List Int),al++([ax.2]:List Int)))
   else none
   else none
  else
   if (ad == aB.dN)=true then
    if (aC++([R (0-ax.1)]:List Int)).length*8≤140737488355328 then
    if (al++([R (0-ax.2)]:List Int)).length*8≤140737488355328 then
    some (.inl (R (ix+(1:Int)),aC++([R (0-ax.1)]:List Int),al++([R (0-ax.2)]:List Int)))
    else none
    else none
   else
    if (aC++([0]:List Int)).length*8≤140737488355328 then
    if (al++([0]:List Int)).length*8≤140737488355328 then
    some (.inl (R (ix+(1:Int)),aC++([0]:List Int),al++([0]:List Int)))
    else none
    else none
  else none
 else
  some (.inr (aC,al))
def DD (ad:Int)(bM:List Int)(cY ee:Int)(i5:List bC)(j6:Int)(aK:List bq)(an:List Int)(ix:Int)(aC al:List Int):Option ((List Int)×(List Int)):=iter (fun w:Int×(List Int)×(List Int)=>xj ad bM cY ee i5 j6 aK an w.1 w.2.1 w.2.2) (ix,aC,al)
theorem VF {ad:Int}{bM:List Int}{cY ee:Int}{i5:List bC}{j6:Int}{aK:List bq}{an:List Int}{ix:Int}{aC al:List Int}:bB (xj ad bM cY ee i5 j6 aK an ix aC al) (dL a5 78 0 63 [1,1,0,1,0,0,1,1,0,0,1,1,1,0,1,0,0] (HO ad bM cY ee i5 j6 aK an (ix,aC,al)) (HO ad bM cY ee i5 j6 aK an) (Iq ad bM cY ee i5 j6 aK an)):=by
 unfold xj
 exact .ite (fun h1 =>
  .aY fun o =>
  .ar fun aB au =>
  .ar fun ax a0 =>
  (let t1:List b3:=[(J 1),.aa true,.aw (bo 2 (.b5 (bA aB)) 3),.aw (bo 2 (bw 2 (.ea [.n .i64 ax.1,.n .i64 ax.2]) true) 5),(J 1),(J 4)];
  have aT:=((.d6 h1 o.1 (cW bA o.2) (b2 bA au) (Xz ax a0) (EE (mA (bX.n .i64 ax.1) (mA (bX.n .i64 ax.2) rJ)))):cA _);
  .ite (fun bm =>
  .aY fun bn =>
  .aY fun cx =>
  .ret (let q1:=(aC++([ax.1]:List Int));let a6:=(al++([ax.2]:List Int));bg (t1.append [.aa true,.aw (bo 3 (.aH (q1.length)) 1),.aw (bo 3 (.aH (a6.length)) 1),(J 2),.aP [0,1,27,32] [.box [.id,.id],.pure,.cE (av 1 eI q1),.cE (av 1 eI a6)] (a8 [1,3,5,6,7,14,15,16,23,24,25])]) (aT.aH (.bi bm (gC eI ax.1) (gW eI aC) (gD eI aC ax.1) bn (gC eI ax.2) (gW eI al) (gD eI al ax.2) (.d6 cx (aI 1 .live aN an) (cZ 1 .live (hb eI aC ax.1)) (aI 1 .live aN q1) (cZ 1 .live (hb eI al ax.2)) (aI 1 .live aN a6))))))
  (fun bm =>
  .ite (fun bn =>
  .aY fun cx =>
  .aY fun cQ =>
  .ret (let dj:=R (0-ax.1);let bY:=(aC++([dj]:List Int));let f6:=R (0-ax.2);let cz:=(al++([f6]:List Int));bg (t1.append [.aa false,(J 4),.aa true,.aw (bo 4 (.aH (bY.length)) 1),.aw (bo 4 (.aH (cz.length)) 1),(J 2),.aP [0,1,32,38] [.box [.id,.id],.pure,.cE (av 1 eI bY),.cE (av 1 eI cz)] (a8 [1,3,5,6,7,14,15,16,23,24,25])]) (aT.aH (.bi bm bn (gC eI dj) (gW eI aC) (gD eI aC dj) cx (gC eI f6) (gW eI al) (.eB (gD eI al f6) cQ (aI 1 .live aN an) (cZ 1 .live (hb eI aC dj)) (aI 1 .live aN bY) (cZ 1 .live (hb eI al f6)) (aI 1 .live aN cz))))))
  (fun bn =>
  .aY fun cx =>
  .aY fun cQ =>
  .ret (let h4:=(aC++([0]:List Int));let fw:=(al++([0]:List Int));bg (t1.append [.aa false,(J 4),.aa false,.aw (bo 2 (.aH (h4.length)) 1),.aw (bo 2 (.aH (fw.length)) 1),(J 2),.aP [0,1,30,34] [.box [.id,.id],.pure,.cE (av 1 eI h4),.cE (av 1 eI fw)] (a8 [1,3,5,6,7,14,15,16,23,24,25])]) (aT.aH (.bi bm bn (gC eI 0) (gW eI aC) (gD eI aC 0) cx (gC eI 0) (gW eI al) (.eB (gD eI al 0) cQ (aI 1 .live aN an) (cZ 1 .live (hb eI aC 0)) (aI 1 .live aN h4) (cZ 1 .live (hb eI al 0)) (aI 1 .live aN fw)))))))))
  (fun h1 =>
  .ret (bg [(J 1),.aa false,.aP [0,1,2,3] [.box [.id,.id],.pure,.pure,.pure] (a8 [1,3,6,7,14,15,16])] (.c3 h1 (aI 1 .live aN an) (aI 1 .live aN aC) (aI 1 .live aN al))))
theorem Xe {ad:Int}{bM:List Int}{cY ee:Int}{i5:List bC}{j6:Int}{aK:List bq}{an:List Int}{ix:Int}{aC al:List Int}{r} (h:DD ad bM cY ee i5 j6 aK an ix aC al=some r):dM a5 78 0 63 [1,1,0,1,0,0,1,1,0,0,1,1,1,0,1,0,0] (HO ad bM cY ee i5 j6 aK an) (Iq ad bM cY ee i5 j6 aK an) (ix,aC,al) r:=dO (fun _=>VF) h
def HP (bM:List Int)(cY:Int)(aK:List bq)(aJ:List bC):(Int×(List Int))→S:=fun (ee,an)=>dr [(1,.ref 0 0 0 0),(3,.bf 1 0 0 an.length),(14,.isl 1 (bM.map eI)),(15,.n .i64 cY),(16,.n .i64 ee)] [[ae.mk 2 [[.isl 4 (aK.map bu),.isl 3 (aJ.map bA)]] .live],(av 1 eI an)]
def Ir (bM:List Int)(cY:Int)(aK:List bq)(aJ:List bC):(List Int)→dy
 | a=>⟨some 0,[(3,.bf 0 0 0 a.length)],[(av 1 eI a)]⟩
def xk (bM:List Int)(cY:Int)(aK:List bq)(aJ:List bC)(ee:Int)(an:List Int):Option ((Int×(List Int))⊕((List Int))) :=
 if (decide (ee<cY))=true then
  if 0≤ee∧ee<bM.length then
  bM[ee.toNat]? >>= fun aB =>
  DD aB bM cY ee aJ (len_ bA aJ) aK an 0 ([]:List Int) ([]:List Int) >>= fun ax =>
  if (an++ax.1).length*8≤140737488355328 then
  if ((an++ax.1)++ax.2).length*8≤140737488355328 then
  some (.inl (R (ee+(1:Int)),(an++ax.1)++ax.2))
  else none
  else none
  else none
 else
  some (.inr an)
def JQ (bM:List Int)(cY:Int)(aK:List bq)(aJ:List bC)(ee:Int)(an:List Int):Option ((List Int)):=iter (fun w:Int×(List Int)=>xk bM cY aK aJ w.1 w.2) (ee,an)
theorem VG {bM:List Int}{cY:Int}{aK:List bq}{aJ:List bC}{ee:Int}{an:List Int}:bB (xk bM cY aK aJ ee an) (dL a5 78 0 63 [1,1,0,1,0,0] (HP bM cY aK aJ (ee,an)) (HP bM cY aK aJ) (Ir bM cY aK aJ)):=by
 unfold xk
 exact .ite (fun h1 =>
  .aY fun o =>
  .ar fun aB au =>
  .ar fun ax a0 =>
  .aY fun bm =>
  .aY fun bn =>
  .ret (let q1:=(cZ 1 .live (show []=(([]:List Int)).map eI from rfl));let a6:=dQ (an++ax.1);let bY:=(aI 1 .live aN ([]:List Int));let cz:=cR eI ax.1;let dj:=(av 1 eI ([]:List Int));bg [(J 1),.aa true,.aw (bo 1 (.b5 (eI aB)) 1),(J 2),(J 2),(J 4),.aP [0,1,6,8] [.box [.id,.id],.pure,.cE dj,.cE dj] [(1,ii),(3,ii),(5,ii),(6,fU (([]:List Int).length)),(7,fU (([]:List Int).length)),(14,ii),(15,ii),(16,ii),(23,ii),(24,ii),(25,ii)],(Iq aB bM cY ee aJ (len_ bA aJ) aK an ax).e6,.aw (bo 2 (.aH ((an++ax.1).length)) 1),.aw (bo 2 (.aH (((an++ax.1)++ax.2).length)) 1),(J 2),.aP [0,10] [.box [.id,.id],.cE (av 1 eI ((an++ax.1)++ax.2))] (a8 [1,3,14,15,16])] (.bi h1 o.1 (cW eI o.2) (b2 eI au) (aI 1 .live aN an) q1 bY q1 (.bi bY (fc Int) (fc Int) (Xe a0) (fb eI ax.1) (gW eI an) (lV (dQ an) (oh cz (dQ ax.1)):(an++ax.1).length=an.length+(((ax.1.map eI).drop 0).take ax.1.length).length) bm (.d6 (fb eI ax.2) (nn (iv (cR eI an) (dQ an) (oh cz (dQ ax.1))) a6) (lV a6 (oh (cR eI ax.2) (dQ ax.2)):((an++ax.1)++ax.2).length=((an++ax.1).length)+(((ax.2.map eI).drop 0).take ax.2.length).length) bn (cZ 1 .live (iv (iv (cR eI an) (dQ an) (oh cz (dQ ax.1))) a6 (oh (cR eI ax.2) (dQ ax.2)))) (aI 1 .live aN ((an++ax.1)++ax.2)))))))
  (fun h1 =>
  .ret (bg [(J 1),.aa false,.aP [1] [.pure] (a8 [3])] (.aE h1 (aI 1 .live aN an))))
theorem Xf {bM:List Int}{cY:Int}{aK:List bq}{aJ:List bC}{ee:Int}{an:List Int}{r} (h:JQ bM cY aK aJ ee an=some r):dM a5 78 0 63 [1,1,0,1,0,0] (HP bM cY aK aJ) (Ir bM cY aK aJ) (ee,an) r:=dO (fun _=>VG) h
def At (aM:cF):Option (List Int) :=
 uI aM >>= fun r1 =>
 JQ r1 (len_ eI r1) aM.b7 aM.bE 0 ([]:List Int) >>= fun bl =>
 some bl
theorem Yl {aM:cF}:bB (At aM) (fun r=>Con a5 63 [.agg (hf aM)] [] (.isl 1 (r.map eI)) []):=by
 unfold At
 exact .ar fun r1 o =>
  .ar fun bl au =>
  .ret (bz [(J 2),(J 2),.aw (bo 1 (bw 1 (.isl 1 (r1.map eI)) false) 2),.aP [0,2] [.box [.id,.id],.cE (av 1 eI ([]:List Int))] [(1,ii),(3,fU (([]:List Int).length)),(14,ii),(15,ii),(16,ii)],(Ir r1 (len_ eI r1) aM.b7 aM.bE bl).e6,(J 2)] (.gu (JP r1 o) (cZ 1 .live (show []=(([]:List Int)).map eI from rfl)) (aI 1 .live aN ([]:List Int)) (fc Int) (Xf au) (fv eI bl) (fb eI bl) (dd aN bl)) (.bs (.c9 (.dF (bl.map eI)))))
def Hw (cj db:List Int)(dc:Int):(Int×(List Int))→S:=fun (d3,ab)=>dr [(1,.isl 1 (cj.map eI)),(5,.bf 0 0 0 ab.length),(10,.isl 1 (db.map eI)),(11,.n .i64 dc),(12,.n .i64 d3)] [(av 1 eI ab)]
def HQ (cj db:List Int)(dc:Int):(List Int)→dy
 | a=>⟨some 0,[(5,.bf 0 0 0 a.length)],[(av 1 eI a)]⟩
def xb (cj db:List Int)(dc d3:Int)(ab:List Int):Option ((Int×(List Int))⊕((List Int))) :=
 if (decide (d3<dc))=true then
  if 0≤d3∧d3<db.length then
  db[d3.toNat]? >>= fun aB =>
  if 0≤(R ((2:Int)*aB))∧(R ((2:Int)*aB))<cj.length then
  cj[(R ((2:Int)*aB)).toNat]? >>= fun cu =>
  if 0≤(R ((R ((2:Int)*aB))+(1:Int)))∧(R ((R ((2:Int)*aB))+(1:Int)))<cj.length then
  cj[(R ((R ((2:Int)*aB))+(1:Int))).toNat]? >>= fun dl =>
  if (ab++([R (0-cu),R (0-dl)]:List Int)).length*8≤140737488355328 then
  some (.inl (R (d3+(1:Int)),ab++([R (0-cu),R (0-dl)]:List Int)))
  else none
  else none
  else none
  else none
 else
  some (.inr ab)
def JA (cj db:List Int)(dc d3:Int)(ab:List Int):Option ((List Int)):=iter (fun w:Int×(List Int)=>xb cj db dc w.1 w.2) (d3,ab)
theorem Vp {cj db:List Int}{dc d3:Int}{ab:List Int}:bB (xb cj db dc d3 ab) (dL a5 34 0 65 [1,1,0,1,0,0] (Hw cj db dc (d3,ab)) (Hw cj db dc) (HQ cj db dc)):=by
 unfold xb
 exact .ite (fun h1 =>
  .aY fun o =>
  .ar fun aB au =>
  .aY fun aA =>
  .ar fun cu bm =>
  .aY fun bn =>
  .ar fun dl cQ =>
  .aY fun fm =>
  .ret (let q1:=(ab++([R (0-cu),R (0-dl)]:List Int));bg [(J 1),.aa true,.aw (bo 1 (.b5 (eI aB)) 1),.aw (ah 5 (ai (.b5 (eI cu)) (ah 6 (ai (.b5 (eI dl)) (bo 2 (.aH (q1.length)) 1))))),(J 2),.aP [20] [.cE (av 1 eI q1)] (a8 [1,5,10,11,12])] (.bi h1 o.1 (cW eI o.2) (b2 eI au) aA.1 (cW eI aA.2) (b2 eI bm) bn.1 (.gu (cW eI bn.2) (b2 eI cQ) (lj (show [[.n .i64 (R (0-cu))],[.n .i64 (R (0-dl))]]=(([R (0-cu),R (0-dl)]:List Int)).map eI from rfl) (show 2=([R (0-cu),R (0-dl)]:List Int).length from rfl)) (gW eI ab) (lV (dQ ab) (oh (show [[.n .i64 (R (0-cu))],[.n .i64 (R (0-dl))]]=(([R (0-cu),R (0-dl)]:List Int)).map eI from rfl) (show 2=([R (0-cu),R (0-dl)]:List Int).length from rfl)):q1.length=ab.length+(([[.n .i64 (R (0-cu))],[.n .i64 (R (0-dl))]].drop 0).take 2).length) fm (cZ 1 .live (iv (cR eI ab) (dQ ab) (oh (show [[.n .i64 (R (0-cu))],[.n .i64 (R (0-dl))]]=(([R (0-cu),R (0-dl)]:List Int)).map eI from rfl) (show 2=([R (0-cu),R (0-dl)]:List Int).length from rfl)))) (aI 1 .live aN q1)))))
  (fun h1 =>
  .ret (bg [(J 1),.aa false,.aP [0] [.pure] (a8 [5])] (.aE h1 (aI 1 .live aN ab))))
theorem WX {cj db:List Int}{dc d3:Int}{ab:List Int}{r} (h:JA cj db dc d3 ab=some r):dM a5 34 0 65 [1,1,0,1,0,0] (Hw cj db dc) (HQ cj db dc) (d3,ab) r:=dO (fun _=>Vp) h
def Ac (aM:cF)(cj:List Int):Option (List Int) :=
 uI aM >>= fun r1 =>
 JA cj r1 (len_ eI r1) 0 ([]:List Int) >>= fun bl =>
 some bl
theorem XR {aM:cF}{cj:List Int}:bB (Ac aM cj) (fun r=>Con a5 65 [.agg (hf aM),.isl 1 (cj.map eI)] [] (.isl 1 (r.map eI)) []):=by
 unfold Ac
 exact .ar fun r1 o =>
  .ar fun bl au =>
  .ret (bz [(J 2),(J 2),.aw (bo 1 (bw 1 (.isl 1 (r1.map eI)) false) 2),.aP [2] [.cE (av 1 eI ([]:List Int))] [(1,ii),(5,fU (([]:List Int).length)),(10,ii),(11,ii),(12,ii)],(HQ cj r1 (len_ eI r1) bl).e6,(J 2)] (.gu (JP r1 o) (cZ 1 .live (show []=(([]:List Int)).map eI from rfl)) (aI 1 .live aN ([]:List Int)) (fc Int) (WX au) (fv eI bl) (fb eI bl) (dd aN bl)) (.bs (.c9 (.dF (bl.map eI)))))
def GW (iX jv:List Int)(a3:Int)(jw:List Int)(ad oT bN dV:Int)(gX al:List Int):(Int×(List Int))→S:=fun (nt,aC)=>dr [(4,.ref 0 0 0 0),(5,.isl 1 (iX.map eI)),(6,.isl 1 (jv.map eI)),(7,.n .i64 a3),(8,.isl 1 (jw.map eI)),(9,.ref 1 0 0 0),(10,.n .i64 ad),(42,.isl 1 (iX.map eI)),(43,.n .i64 oT),(44,.n .i64 nt)] [[ae.mk 5 [[.n .i64 (0:Int),.n .i64 (0:Int),.ei,.ei,.ei]] .live],[ae.mk 5 [(Fm bN dV 2 0 0 aC.length gX 3 0 0 al.length)] .live],(av 1 eI aC),(av 1 eI al)]
def Hh (iX jv:List Int)(a3:Int)(jw:List Int)(ad oT bN dV:Int)(gX al:List Int):(List Int)→dy
 | a=>⟨some 2,[(4,.ref 0 0 0 0),(5,.isl 1 (iX.map eI)),(6,.isl 1 (jv.map eI)),(7,.n .i64 a3),(8,.isl 1 (jw.map eI)),(9,.ref 1 0 0 0),(10,.n .i64 ad)],[[ae.mk 5 [[.n .i64 (0:Int),.n .i64 (0:Int),.ei,.ei,.ei]] .live],[ae.mk 5 [(Fm bN dV 2 0 0 a.length gX 3 0 0 al.length)] .live],(av 1 eI a),(av 1 eI al)]⟩
def wX (iX jv:List Int)(a3:Int)(jw:List Int)(ad oT bN dV:Int)(gX al:List Int)(nt:Int)(aC:List Int):Option ((Int×(List Int))⊕((List Int))) :=
 if (decide (nt<oT))=true then
  if 0≤nt∧nt<iX.length then
  iX[nt.toNat]? >>= fun aB =>
  if 0≤nt∧nt<jv.length then
  jv[nt.toNat]? >>= fun cu =>
  if 0≤(R ((R (ad*a3))+aB))∧(R ((R (ad*a3))+aB))<jw.length then
  jw[(R ((R (ad*a3))+aB)).toNat]? >>= fun dl =>
  if (aC++([R (cu*dl)]:List Int)).length*8≤140737488355328 then
  some (.inl (R (nt+(1:Int)),aC++([R (cu*dl)]:List Int)))
  else none
  else none
  else none
  else none
 else
  some (.inr aC)
def IX (iX jv:List Int)(a3:Int)(jw:List Int)(ad oT bN dV:Int)(gX al:List Int)(nt:Int)(aC:List Int):Option ((List Int)):=iter (fun w:Int×(List Int)=>wX iX jv a3 jw ad oT bN dV gX al w.1 w.2) (nt,aC)
theorem UX {iX jv:List Int}{a3:Int}{jw:List Int}{ad oT bN dV:Int}{gX al:List Int}{nt:Int}{aC:List Int}:bB (wX iX jv a3 jw ad oT bN dV gX al nt aC) (dL a5 69 0 43 [1,1,1,1,1,0,1,0,0,1,0,0,1,0,0] (GW iX jv a3 jw ad oT bN dV gX al (nt,aC)) (GW iX jv a3 jw ad oT bN dV gX al) (Hh iX jv a3 jw ad oT bN dV gX al)):=by
 unfold wX
 exact .ite (fun h1 =>
  .aY fun o =>
  .ar fun aB au =>
  .aY fun aA =>
  .ar fun cu bm =>
  .aY fun bn =>
  .ar fun dl cQ =>
  .aY fun fm =>
  .ret (let a6:=R (cu*dl);let q1:=(aC++([a6]:List Int));bg [(J 1),.aa true,.aw (bo 2 (.b5 (eI aB)) 2),.aw (ah 5 (ai (.b5 (eI cu)) (ah 7 (ai (.b5 (eI dl)) (bo 2 (.aH (q1.length)) 2))))),(J 2),.aP [0,1,26,3] [.box [.id,.id,.id,.id,.id],.box [.id,.id,.id,.id,.id],.cE (av 1 eI q1),.pure] (a8 [4,5,6,7,8,9,10,42,43,44])] (.bi h1 o.1 (cW eI o.2) (b2 eI au) aA.1 (cW eI aA.2) (b2 eI bm) bn.1 (.bi (cW eI bn.2) (b2 eI cQ) (gC eI a6) (gW eI aC) (gD eI aC a6) fm (cZ 1 .live (hb eI aC a6)) (aI 1 .live aN q1) (.e1 (aI 1 .live aN al))))))
  (fun h1 =>
  .ret (bg [(J 1),.aa false,.aP [0,1,2,3] [.box [.id,.id,.id,.id,.id],.box [.id,.id,.id,.id,.id],.pure,.pure] (a8 [4,5,6,7,8,9,10])] (.bP h1 (aI 1 .live aN aC) (aI 1 .live aN al))))
theorem Wp {iX jv:List Int}{a3:Int}{jw:List Int}{ad oT bN dV:Int}{gX al:List Int}{nt:Int}{aC:List Int}{r} (h:IX iX jv a3 jw ad oT bN dV gX al nt aC=some r):dM a5 69 0 43 [1,1,1,1,1,0,1,0,0,1,0,0,1,0,0] (GW iX jv a3 jw ad oT bN dV gX al) (Hh iX jv a3 jw ad oT bN dV gX al) (nt,aC) r:=dO (fun _=>UX) h
def GX (iX jv:List Int)(a3:Int)(jw:List Int)(bN dV:Int)(gX al:List Int):(Int×(List Int))→S:=fun (ad,aC)=>dr [(4,.ref 0 0 0 0),(5,.isl 1 (iX.map eI)),(6,.isl 1 (jv.map eI)),(7,.n .i64 a3),(8,.isl 1 (jw.map eI)),(9,.ref 1 0 0 0),(10,.n .i64 ad)] [[ae.mk 5 [[.n .i64 (0:Int),.n .i64 (0:Int),.ei,.ei,.ei]] .live],[ae.mk 5 [(Fm bN dV 2 0 0 aC.length gX 3 0 0 al.length)] .live],(av 1 eI aC),(av 1 eI al)]
def Hi (iX jv:List Int)(a3:Int)(jw:List Int)(bN dV:Int)(gX al:List Int):(List Int)→dy
 | a=>⟨some 0,[(4,.ref 0 0 0 0),(9,.ref 1 0 0 0)],[[ae.mk 5 [[.n .i64 (0:Int),.n .i64 (0:Int),.ei,.ei,.ei]] .live],[ae.mk 5 [(Fm bN dV 2 0 0 a.length gX 3 0 0 al.length)] .live],(av 1 eI a),(av 1 eI al)]⟩
def wY (iX jv:List Int)(a3:Int)(jw:List Int)(bN dV:Int)(gX al:List Int)(ad:Int)(aC:List Int):Option ((Int×(List Int))⊕((List Int))) :=
 if (decide (ad<bN))=true then
  IX iX jv a3 jw ad (len_ eI iX) bN dV gX al 0 aC >>= fun bT =>
  some (.inl (R (ad+(1:Int)),bT))
 else
  some (.inr aC)
def Dq (iX jv:List Int)(a3:Int)(jw:List Int)(bN dV:Int)(gX al:List Int)(ad:Int)(aC:List Int):Option ((List Int)):=iter (fun w:Int×(List Int)=>wY iX jv a3 jw bN dV gX al w.1 w.2) (ad,aC)
theorem UY {iX jv:List Int}{a3:Int}{jw:List Int}{bN dV:Int}{gX al:List Int}{ad:Int}{aC:List Int}:bB (wY iX jv a3 jw bN dV gX al ad aC) (dL a5 69 0 43 [1,1,1,1,1,0,1,0,0] (GX iX jv a3 jw bN dV gX al (ad,aC)) (GX iX jv a3 jw bN dV gX al) (Hi iX jv a3 jw bN dV gX al)):=by
 unfold wY
 exact .ite (fun h1 =>
  .ar fun bT af =>
  .ret (bg [(J 4),.aa true,(J 3),.aP [0,1,2,3] [.box [.id,.id,.id,.id,.id],.box [.id,.id,.id,.id,.id],.pure,.pure] (a8 [4,5,6,7,8,9,10,42,43,44]),(Hh iX jv a3 jw ad (len_ eI iX) bN dV gX al bT).e6,(J 3),.aP [0,1,2,3] [.box [.id,.id,.id,.id,.id],.box [.id,.id,.id,.id,.id],.pure,.pure] (a8 [4,5,6,7,8,9,10])] (.d6 h1 (aI 1 .live aN aC) (aI 1 .live aN al) (Wp af) (aI 1 .live aN bT) (aI 1 .live aN al))))
  (fun h1 =>
  .ret (bg [(J 4),.aa false,.aP [0,1,2,3] [.box [.id,.id,.id,.id,.id],.box [.id,.id,.id,.id,.id],.pure,.pure] (a8 [4,9])] (.bP h1 (aI 1 .live aN aC) (aI 1 .live aN al))))
theorem Wq {iX jv:List Int}{a3:Int}{jw:List Int}{bN dV:Int}{gX al:List Int}{ad:Int}{aC:List Int}{r} (h:Dq iX jv a3 jw bN dV gX al ad aC=some r):dM a5 69 0 43 [1,1,1,1,1,0,1,0,0] (GX iX jv a3 jw bN dV gX al) (Hi iX jv a3 jw bN dV gX al) (ad,aC) r:=dO (fun _=>UY) h
def uC (aM:cF)(cj:List Int):Option hK :=
 zY aM >>= fun r1 =>
 At aM >>= fun bl =>
 uI aM >>= fun ax =>
 Ac aM cj >>= fun bQ =>
 if 0≤(len_ eI r1.1)∧(8:Int)*(len_ eI r1.1)≤281474976710656∧(len_ eI r1.1)<9223372036854775808 then
 Dq r1.1 r1.2 (len_ bA aM.bE) bl (R ((2:Int)*(len_ eI ax))) (len_ eI r1.1) bQ (List.replicate (len_ eI r1.1).toNat 0:List Int) 0 ([]:List Int) >>= fun et =>
 some (⟨R ((2:Int)*(len_ eI ax)),(len_ eI r1.1),et,bQ,(List.replicate (len_ eI r1.1).toNat 0:List Int)⟩:hK)
 else none
theorem Xg {aM:cF}{cj:List Int}:bB (uC aM cj) (fun r=>Con a5 43 [.agg (hf aM),.isl 1 (cj.map eI)] [] (.agg (og r)) []):=by
 unfold uC
 exact .ar fun r1 o =>
  .ar fun bl au =>
  .ar fun ax a0 =>
  .ar fun bQ bn =>
  .aY fun cx =>
  .ar fun et fm =>
  .ret (let a6:=len_ eI r1.1;let q1:=(List.replicate a6.toNat 0:List Int);bz [(J 2),.aw (bo 1 (bw 1 (.ea [.isl 1 (r1.1.map eI),.isl 1 (r1.2.map eI)]) false) 5),(J 4),.aw (bo 1 (bw 1 (.isl 1 (bl.map eI)) false) 1),.aw (ah 1 (ai (bw 1 (.isl 1 (ax.map eI)) false) (bo 6 (bw 2 (.isl 1 (bQ.map eI)) false) 6))),(J 1),.rS 29 2 1,.aP [1,29,32,27] [.box [.id,.id,.id,.id,.id],.box [.id,.id,.len (([]:List Int).length),.id,.len (q1.length)],.cE (av 1 eI ([]:List Int)),.cE (av 1 eI q1)] (a8 [4,5,6,7,8,9,10]),(Hi r1.1 r1.2 (len_ bA aM.bE) bl (R ((2:Int)*(len_ eI ax))) a6 bQ q1 et).e6,(J 2)] (.bi (Xc r1 o) (Yl bl au) (JP ax a0) (XR bQ bn) cx.1 (Int.le_refl a6) cx.2.1 cx.2.2 (.bi (fc Int) (me a6.toNat (0:Int)) (cZ 1 .live (nd eI)) (aI 1 .live aN ([]:List Int)) (cZ 1 .live (lU eI a6.toNat 0)) (aI 1 .live aN q1) (Wq fm) (fv eI et) (.dg (fb eI et) (dd aN et) (fv eI q1) (fb eI q1) (dd aN q1)))) (.bs (.agg [.id,.id,.dF (et.map eI),.id,.dF (q1.map eI)])))
def IY (jV:List Int)(gT:Int):Int→S:=fun dD=>dr [(5,.isl 1 (jV.map eI)),(6,.n .i64 gT),(7,.n .i64 dD)] []
def Oq (jV:List Int)(gT:Int):((Unit)⊕(Unit))→dy
 | .inl a=>⟨some 0,[],[]⟩
 | .inr a=>⟨none,[(2,.b false)],[]⟩
def xH (jV:List Int)(gT dD:Int):Option ((Int)⊕((Unit)⊕(Unit))) :=
 if (decide (dD<gT))=true then
  if 0≤dD∧dD<jV.length then
  jV[dD.toNat]? >>= fun aB =>
  mR aB (-100) 100 >>= fun ax =>
  if ax=true then
   some (.inl (R (dD+(1:Int))))
  else
   some (.inr (.inr ()))
  else none
 else
  some (.inr (.inl ()))
def Kg (jV:List Int)(gT dD:Int):Option ((Unit)⊕(Unit)):=iter (fun w:Int=>xH jV gT w) dD
theorem Wr {jV:List Int}{gT dD:Int}:bB (xH jV gT dD) (dL a5 15 0 81 [1,0,1,0,0] (IY jV gT dD) (IY jV gT) (Oq jV gT)):=by
 unfold xH
 exact .ite (fun h1 =>
  .aY fun o =>
  .ar fun aB au =>
  .ar fun ax a0 =>
  (let t1:List b3:=[(J 1),.aa true,.aw (bo 1 (.b5 (eI aB)) 1),.aw (bo 1 (bw 3 (.b ax) true) 1)];
  have aT:=((.d6 h1 o.1 (cW eI o.2) (b2 eI au) (p5 ax a0) (bX.b ax)):cA _);
  .ite (fun bm =>
  .ret (bg (t1.append [.aa false,(J 2),.aP [] [] (a8 [5,6,7])]) (aT.aH (.e1 (cV bm)))))
  (fun bm =>
  .ret (bg (t1.append [.aa true,(J 1),.aP [] [] (a8 [2])]) (aT.aH (.e1 (cT bm)))))))
  (fun h1 =>
  .ret (bg [(J 1),.aa false,.aP [] [] []] (.e1 h1)))
theorem Oy {jV:List Int}{gT dD:Int}{r} (h:Kg jV gT dD=some r):dM a5 15 0 81 [1,0,1,0,0] (IY jV gT) (Oq jV gT) dD r:=dO (fun _=>Wr) h
def uZ (cj:List Int):Option Bool :=
 Kg cj (len_ eI cj) 0 >>= fun r1 =>
 match r1 with
 | .inl dt=>(some true)
 | .inr dt=>(some false)
theorem Kh {cj:List Int}:bB (uZ cj) (fun r=>Con a5 81 [.isl 1 (cj.map eI)] [] (.b r) []):=by
 unfold uZ
 exact .ar fun r1 o =>
  (let t1:List b3:=[(J 1),(J 3),.aP [] [] (a8 [5,6,7])];
  (by
  rcases r1 with dt|dt
  ·exact (.ret (bz (t1.append [.sub (.exit 0) [] [],(J 1)]) (.e1 (Oy o))))
  ·exact (.ret (bz (t1.append [.sub (.ret) [(2,.b false)] []]) (.e1 (Oy o))))))
def z5 (ch:hK):Option Bool :=
 mR ch.fy 0 20 >>= fun r1 =>
 if r1=true then
  mR ch.ed 0 40 >>= fun ba =>
  if ba=true then
   if ((len_ eI ch.dp) == (R (ch.fy*ch.ed)))=true then
    if ((len_ eI ch.dN) == ch.fy)=true then
     if ((len_ eI ch.hU) == ch.ed)=true then
      uZ ch.dp >>= fun et =>
      if et=true then
       uZ ch.dN >>= fun eK =>
       if eK=true then
        uZ ch.hU >>= fun ek =>
        some ek
       else
        some false
      else
       some false
     else
      some false
    else
     some false
   else
    some false
  else
   some false
 else
  some false
theorem XA {ch:hK}:bB (z5 ch) (fun r=>Con a5 58 [.agg (og ch)] [] (.b r) []):=by
 unfold z5
 exact .ar fun r1 o =>
  (have b8:=((.aE (p5 r1 o) (bX.b r1)):cA _);
  .ite (fun af =>
  .ar fun ba aA =>
  (have aT:=b8.aH (.d6 af af af (p5 ba aA) (bX.b ba) af);
  .ite (fun a0 =>
  (have fO:=aT.aH (.bi a0 a0 a0 a0 a0 a0 a0 a0 (.aE a0 a0));
  .ite (fun bm =>
  .ite (fun bn =>
  (have e3:=fO.aH (.bi bm bm bm bm bm bm bm bn (.d6 bn bn bn bn bn bn));
  .ite (fun cx =>
  .ar fun et fm =>
  (have mw:=e3.aH (.d6 cx cx cx (Kh et fm) (bX.b et) cx);
  .ite (fun eH =>
  .ar fun eK eJ =>
  (have kj:=mw.aH (.d6 eH eH eH (Kh eK eJ) (bX.b eK) eH);
  .ite (fun fJ =>
  .ar fun ek hN =>
  .ret (bz [(J 2),.aw (ah 2 (ai (bw 3 (.b r1) true) (ah 3 (ai (bw 3 (.b ba) true) (ai (.aa true) (ah 10 (ai (.aa true) (ah 7 (ai (.aa true) (ah 7 (ai (.aa true) (ah 3 (ai (bw 1 (.b et) true) (ai (.aa true) (ah 3 (ai (bw 1 (.b eK) true) (ai (.aa true) (ah 3 (ai (bw 1 (.b ek) true) (ai (.aa true) (ah 1 [])))))))))))))))))))))] (kj.aH (.d6 fJ fJ fJ (Kh ek hN) (bX.b ek) fJ))))
  (fun fJ =>
  .ret (bz [(J 2),.aw (ah 2 (ai (bw 3 (.b r1) true) (ah 3 (ai (bw 3 (.b ba) true) (ai (.aa true) (ah 10 (ai (.aa true) (ah 7 (ai (.aa true) (ah 7 (ai (.aa true) (ah 3 (ai (bw 1 (.b et) true) (ai (.aa true) (ah 3 (ai (bw 1 (.b eK) true) (ai (.aa true) (ah 1 (cw 3 (ai (.aa false) (ah 1 [])))))))))))))))))))))] (kj.aH (.c3 fJ fJ fJ fJ))))))
  (fun eH =>
  .ret (bz [(J 2),.aw (ah 2 (ai (bw 3 (.b r1) true) (ah 3 (ai (bw 3 (.b ba) true) (ai (.aa true) (ah 10 (ai (.aa true) (ah 7 (ai (.aa true) (ah 7 (ai (.aa true) (ah 3 (ai (bw 1 (.b et) true) (ai (.aa true) (ah 1 (cw 3 (ai (.aa false) (ah 1 (cw 3 (ah 2 []))))))))))))))))))))] (mw.aH (.eB eH eH eH eH cU cU cU))))))
  (fun cx =>
  .ret (bz [(J 2),.aw (ah 2 (ai (bw 3 (.b r1) true) (ah 3 (ai (bw 3 (.b ba) true) (ai (.aa true) (ah 10 (ai (.aa true) (ah 7 (ai (.aa true) (ah 7 (ai (.aa true) (ah 1 (cw 3 (ai (.aa false) (ah 1 (cw 3 (ah 2 (cw 3 (ah 2 [])))))))))))))))))))] (e3.aH (.bi cx cx cx cx cU cU cU cU (.aE cU cU)))))))
  (fun bn =>
  .ret (bz [(J 2),.aw (ah 2 (ai (bw 3 (.b r1) true) (ah 3 (ai (bw 3 (.b ba) true) (ai (.aa true) (ah 10 (ai (.aa true) (ah 7 (ai (.aa true) (ah 1 (cw 6 (ai (.aa false) (ah 1 (cw 3 (ah 2 (cw 3 (ah 2 (cw 3 (ah 2 [])))))))))))))))))))] (fO.aH (.bi bm bm bm bm bm bm bm bn (.bi bn bn bn bn bn bn cU cU (.eB cU cU cU cU cU cU cU)))))))
  (fun bm =>
  .ret (bz [(J 2),.aw (ah 2 (ai (bw 3 (.b r1) true) (ah 3 (ai (bw 3 (.b ba) true) (ai (.aa true) (ah 10 (ai (.aa true) (ah 1 (cw 6 (ai (.aa false) (ah 1 (cw 6 (ah 2 (cw 3 (ah 2 (cw 3 (ah 2 (cw 3 (ah 2 [])))))))))))))))))))] (fO.aH (.bi bm bm bm bm bm bm bm cU (.bi cU cU cU cU cU cU cU cU (.d6 cU cU cU cU cU cU))))))))
  (fun a0 =>
  .ret (bz [(J 2),.aw (ah 2 (ai (bw 3 (.b r1) true) (ah 3 (ai (bw 3 (.b ba) true) (ai (.aa true) (ah 1 (cw 9 (ai (.aa false) (ah 1 (cw 6 (ah 2 (cw 6 (ah 2 (cw 3 (ah 2 (cw 3 (ah 2 (cw 3 (ah 2 [])))))))))))))))))))] (aT.aH (.bi a0 a0 a0 a0 a0 a0 a0 a0 (.bi a0 a0 cU cU cU cU cU cU (.bi cU cU cU cU cU cU cU cU (.eB cU cU cU cU cU cU cU)))))))))
  (fun af =>
  .ret (bz [(J 2),.aw (ah 2 (ai (bw 3 (.b r1) true) (ah 1 (cw 3 (ai (.aa false) (ah 1 (cw 9 (ah 2 (cw 6 (ah 2 (cw 6 (ah 2 (cw 3 (ah 2 (cw 3 (ah 2 (cw 3 (ah 2 []))))))))))))))))))] (b8.aH (.bi af af af af cU cU cU cU (.bi cU cU cU cU cU cU cU cU (.bi cU cU cU cU cU cU cU cU (.bi cU cU cU cU cU cU cU cU (.aE cU cU)))))))))
def HR (ag:List Int):Int→S:=fun a3=>dr [(0,.isl 1 (ag.map eI)),(3,.n .i64 a3)] []
def Is (ag:List Int):Int→dy
 | a=>⟨some 0,[(0,.isl 1 (ag.map eI)),(3,.n .i64 a)],[]⟩
def uq (ag:List Int)(a3:Int):Option ((Int)⊕(Int)) :=
 if (decide ((0:Int)<a3))=true then
  if 0≤(R (a3-(1:Int)))∧(R (a3-(1:Int)))<ag.length then
  ag[(R (a3-(1:Int))).toNat]? >>= fun aB =>
  if (aB == (0:Int))=true then
   some (.inl (R (a3-(1:Int))))
  else
   some (.inr a3)
  else none
 else
  some (.inr a3)
def JR (ag:List Int)(a3:Int):Option (Int):=iter (fun w:Int=>uq ag w) a3
theorem VH {ag:List Int}{a3:Int}:bB (uq ag a3) (dL a5 21 0 120 [1,1,0,0,0] (HR ag a3) (HR ag) (Is ag)):=by
 unfold uq
 exact .ite (fun h1 =>
  .aY fun o =>
  .ar fun aB au =>
  (let t1:List b3:=[.aw (ah 7 (ai (.b5 (eI aB)) (ah 1 (ai (.aa true) []))))];
  have aT:=((.bi h1 h1 h1 h1 o.1 (cW eI o.2) h1 (b2 eI au) (.aE h1 h1)):cA _);
  .ite (fun aA =>
  .ret (bg (t1.append [.aa true,(J 3),.aP [] [] (a8 [0,3])]) (aT.aH (.e1 aA))))
  (fun aA =>
  .ret (bg (t1.append [.aa false,.aP [] [] (a8 [0,3])]) (aT.aH (.e1 aA))))))
  (fun h1 =>
  .ret (bg [.aw (ah 3 (cw 6 (ai (.aa false) []))),.aa false,.aP [] [] (a8 [0,3])] (.gu h1 h1 h1 h1 h1 h1 h1 cU)))
theorem Xh {ag:List Int}{a3:Int}{r} (h:JR ag a3=some r):dM a5 21 0 120 [1,1,0,0,0] (HR ag) (Is ag) a3 r:=dO (fun _=>VH) h
def p6 (ag:List Int):Option (List Int) :=
 JR ag (len_ eI ag) >>= fun r1 =>
 if 0≤r1 then
 if 0≤r1.toNat∧r1.toNat≤ag.length then
 some ((ag.drop 0).take (r1.toNat-0))
 else none
 else none
theorem r6 {ag:List Int}:bB (p6 ag) (fun r=>Con a5 120 [.isl 1 (ag.map eI)] [] (.isl 1 (r.map eI)) []):=by
 unfold p6
 exact .ar fun r1 o =>
  .aY fun af =>
  .aY fun au =>
  .ret (bz [(J 1),(J 3),.aP [] [] (a8 [0,3]),(Is ag r1).e6,(J 4)] (.dg (Xh o) af au.1 (qc (cR eI ag) au.2) (congrArg (aD.isl 1) (oI (cR eI ag) 0 (r1.toNat-0)):(.isl 1 (((ag.map eI).drop 0).take (r1.toNat-0)):aD) = .isl 1 (((ag.drop 0).take (r1.toNat-0)).map eI))) (.bs (.c9 (.cE (.isl 1 (((ag.drop 0).take (r1.toNat-0)).map eI))))))
def x6 (ag:List Int):Option (List Int) :=
 p6 ag >>= fun r1 =>
 if (decide ((60:Int)<(len_ eI r1)))=true then
  some ([]:List Int)
 else
  some r1
theorem ON {ag:List Int}:bB (x6 ag) (fun r=>Con a5 122 [.isl 1 (ag.map eI)] [] (.isl 1 (r.map eI)) []):=by
 unfold x6
 exact .ar fun r1 o =>
  (let t1:List b3:=[(J 1),.aw (bo 1 (bw 1 (.isl 1 (r1.map eI)) false) 1),(J 3)];
  .ite (fun af =>
  .ret (bz (t1.append [.aa true,(J 1)]) (.aE (r6 r1 o) af) (.bs (.c9 (.iF 1)))))
  (fun af =>
  .ret (bz (t1.append [.aa false,(J 2)]) (.aE (r6 r1 o) af))))
def h5 (om:Bool)(ag:List Int):Option bt :=
 x6 ag >>= fun r1 =>
 if om=true then
  if (([]:List Int)++r1).length*8≤140737488355328 then
  some (⟨(decide ((0:Int)<(len_ eI r1))),([]:List Int)++r1⟩:bt)
  else none
 else
  if (([]:List Int)++r1).length*8≤140737488355328 then
  some (⟨false,([]:List Int)++r1⟩:bt)
  else none
theorem oc {om:Bool}{ag:List Int}:bB (h5 om ag) (fun r=>Con a5 103 [.b om,.isl 1 (ag.map eI)] [] (.agg (aZ r)) []):=by
 unfold h5
 exact .ar fun r1 o =>
  (let t1:List b3:=[(J 1),.aw (bo 1 (bw 1 (.isl 1 (r1.map eI)) false) 1)];
  .ite (fun af =>
  .aY fun au =>
  .ret (let q1:=(([]:List Int)++r1);bz (t1.append [.aw (ah 5 (ai (.aa true) (bo 2 (.aH (q1.length)) 2)))]) (.bi (ON r1 o) af af af af (nn (show []=(([]:List Int)).map eI from rfl) (fc Int)) (lV (fc Int) (cR eI r1):q1.length=0+(r1.map eI).length) au (.bP (k4 (iv (show []=(([]:List Int)).map eI from rfl) (fc Int) (cR eI r1)) (dQ q1)) (lj (iv (show []=(([]:List Int)).map eI from rfl) (fc Int) (cR eI r1)) (dQ q1)) (dd aN q1))) (.bs (.agg [.id,.dF (q1.map eI)]))))
  (fun af =>
  .aY fun au =>
  .ret (let a6:=(([]:List Int)++r1);bz (t1.append [.aw (ah 2 (cw 3 (ai (.aa false) (bo 2 (.aH (a6.length)) 2))))]) (.bi (ON r1 o) af af af af (nn (show []=(([]:List Int)).map eI from rfl) (fc Int)) (lV (fc Int) (cR eI r1):a6.length=0+(r1.map eI).length) au (.bP (k4 (iv (show []=(([]:List Int)).map eI from rfl) (fc Int) (cR eI r1)) (dQ a6)) (lj (iv (show []=(([]:List Int)).map eI from rfl) (fc Int) (cR eI r1)) (dQ a6)) (dd aN a6))) (.bs (.agg [.id,.dF (a6.map eI)])))))
def IZ:(Int×(List Int))→S:=fun (a3,ab)=>dr [(0,.n .i64 a3),(3,.bf 0 0 0 ab.length)] [(av 1 eI ab)]
def Jk:(List Int)→dy
 | a=>⟨some 0,[(3,.bf 0 0 0 a.length)],[(av 1 eI a)]⟩
def xI (a3:Int)(ab:List Int):Option ((Int×(List Int))⊕((List Int))) :=
 if (decide ((0:Int)<a3))=true then
  if (ab++([a3.tmod (1000000000:Int)]:List Int)).length*8≤140737488355328 then
  some (.inl (R (a3.tdiv (1000000000:Int)),ab++([a3.tmod (1000000000:Int)]:List Int)))
  else none
 else
  some (.inr ab)
def Ki (a3:Int)(ab:List Int):Option ((List Int)):=iter (fun w:Int×(List Int)=>xI w.1 w.2) (a3,ab)
theorem Ws {a3:Int}{ab:List Int}:bB (xI a3 ab) (dL a5 15 0 116 [1,1,0,0,0] (IZ (a3,ab)) (IZ) (Jk)):=by
 unfold xI
 exact .ite (fun h1 =>
  .aY fun o =>
  .ret (let q1:=(ab++([(a3.tmod (1000000000:Int))]:List Int));bg [(J 2),.aa true,.aw (bo 4 (.aH (q1.length)) 1),(J 3),.aP [7] [.cE (av 1 eI q1)] (a8 [0,3])] (.bi h1 (by decide:(1000000000:Int)≠0) (gC eI (a3.tmod (1000000000:Int))) (gW eI ab) (gD eI ab (a3.tmod (1000000000:Int))) o (by decide:(1000000000:Int)≠0) (cZ 1 .live (hb eI ab (a3.tmod (1000000000:Int)))) (.e1 (aI 1 .live aN q1)))))
  (fun h1 =>
  .ret (bg [(J 2),.aa false,.aP [0] [.pure] (a8 [3])] (.aE h1 (aI 1 .live aN ab))))
theorem XS {a3:Int}{ab:List Int}{r} (h:Ki a3 ab=some r):dM a5 15 0 116 [1,1,0,0,0] (IZ) (Jk) (a3,ab) r:=dO (fun _=>Ws) h
def rC (a3:Int):Option (List Int) :=
 Ki a3 ([]:List Int) >>= fun r1 =>
 some r1
theorem xX {a3:Int}:bB (rC a3) (fun r=>Con a5 116 [.n .i64 a3] [] (.isl 1 (r.map eI)) []):=by
 unfold rC
 exact .ar fun r1 o =>
  .ret (bz [(J 1),(J 2),.aP [1] [.cE (av 1 eI ([]:List Int))] [(0,ii),(3,fU (([]:List Int).length))],(Jk r1).e6,(J 2)] (.eB (cZ 1 .live (show []=(([]:List Int)).map eI from rfl)) (aI 1 .live aN ([]:List Int)) (fc Int) (XS o) (fv eI r1) (fb eI r1) (dd aN r1)) (.bs (.c9 (.dF (r1.map eI)))))
def Ad (a3:Int):Option bt :=
 if (a3 == (-9223372036854775808:Int))=true then
  h5 true ([854775808,223372036,9]:List Int) >>= fun bT =>
  some bT
 else
  if (decide (a3<(0:Int)))=true then
   rC (R (0-a3)) >>= fun bl =>
   h5 true bl >>= fun ax =>
   some ax
  else
   rC a3 >>= fun bl =>
   h5 false bl >>= fun ax =>
   some ax
theorem XT {a3:Int}:bB (Ad a3) (fun r=>Con a5 99 [.n .i64 a3] [] (.agg (aZ r)) []):=by
 unfold Ad
 exact .ite (fun h1 =>
  .ar fun bT af =>
  .ret (bz [(J 1),(J 2),.aa true,.aw (bo 1 (.rn 3 (.call {ac:=[ii,.bs (.c9 (.dF (([854775808,223372036,9]:List Int).map eI)))],r:= .agg (aZ bT),er:=false,eN:=[3]})) 1)] (.dg h1 (k4 (show [[.n .i64 (854775808:Int)],[.n .i64 (223372036:Int)],[.n .i64 (9:Int)]]=(([854775808,223372036,9]:List Int)).map eI from rfl) (show 3=([854775808,223372036,9]:List Int).length from rfl)) (lj (show [[.n .i64 (854775808:Int)],[.n .i64 (223372036:Int)],[.n .i64 (9:Int)]]=(([854775808,223372036,9]:List Int)).map eI from rfl) (show 3=([854775808,223372036,9]:List Int).length from rfl)) (dd aN ([854775808,223372036,9]:List Int)) (oc bT af))))
  (fun h1 =>
  (let t1:List b3:=[(J 1),(J 2),.aa false,(J 2)];
  .ite (fun o =>
  .ar fun bl au =>
  .ar fun ax a0 =>
  .ret (bz (t1.append [.aa true,.aw (ah 2 (ai (bw 1 (.isl 1 (bl.map eI)) false) (ai (bw 2 (.agg (aZ ax)) false) (ah 1 []))))]) (.c3 h1 o (xX bl au) (oc ax a0))))
  (fun o =>
  .ar fun bl au =>
  .ar fun ax a0 =>
  .ret (bz (t1.append [.aa false,.aw (ah 1 (ai (bw 1 (.isl 1 (bl.map eI)) false) (ai (bw 2 (.agg (aZ ax)) false) (ah 1 []))))]) (.c3 h1 o (xX bl au) (oc ax a0))))))
def pd (a3:Int):Option aQ :=
 Ad a3 >>= fun r1 =>
 some (⟨r1,([1]:List Int)⟩:aQ)
theorem r5 {a3:Int}:bB (pd a3) (fun r=>Con a5 82 [.n .i64 a3] [] (.agg (aR r)) []):=by
 unfold pd
 exact .ar fun r1 o =>
  .ret (bz [(J 1),.aw (bo 1 (bw 1 (.agg (aZ r1)) false) 3)] (.c3 (XT r1 o) (k4 (show [[.n .i64 (1:Int)]]=(([1]:List Int)).map eI from rfl) (show 1=([1]:List Int).length from rfl)) (gC eI 1) (dd aN ([1]:List Int))) (.bs (.agg [.id,.id,.dF (([1]:List Int).map eI)])))
def uQ (ch:hK)(ad:Int):Option (List Int) :=
 if 0≤(R (ad*ch.ed)) then
 if 0≤(R ((R (ad+(1:Int)))*ch.ed)) then
 if (R (ad*ch.ed)).toNat≤(R ((R (ad+(1:Int)))*ch.ed)).toNat∧(R ((R (ad+(1:Int)))*ch.ed)).toNat≤ch.dp.length then
 some ((ch.dp.drop ((R (ad*ch.ed)).toNat)).take ((R ((R (ad+(1:Int)))*ch.ed)).toNat-(R (ad*ch.ed)).toNat))
 else none
 else none
 else none
theorem OO {ch:hK}{ad:Int}:bB (uQ ch ad) (fun r=>Con a5 83 [.agg (og ch),.n .i64 ad] [] (.isl 1 (r.map eI)) []):=by
 unfold uQ
 exact .aY fun h1 =>
  .aY fun o =>
  .aY fun af =>
  .ret (let q1:=R (ad*ch.ed);let a6:=(R ((R (ad+(1:Int)))*ch.ed));bz [(J 2),(J 13)] (.dg h1 o af.1 (qc (cR eI ch.dp) af.2) (congrArg (aD.isl 1) (oI (cR eI ch.dp) (q1.toNat) (a6.toNat-q1.toNat)):(.isl 1 (((ch.dp.map eI).drop (q1.toNat)).take (a6.toNat-q1.toNat)):aD) = .isl 1 (((ch.dp.drop (q1.toNat)).take (a6.toNat-q1.toNat)).map eI))) (.bs (.c9 (.cE (.isl 1 (((ch.dp.drop (q1.toNat)).take (a6.toNat-q1.toNat)).map eI))))))
def qH (ag:List Int):Option Bool :=
 if ((len_ eI ag) == (1:Int))=true then
  if 0≤(0:Int)∧(0:Int)<ag.length then
  ag[0]? >>= fun aB =>
  some (aB == (1:Int))
  else none
 else
  some false
theorem z6 {ag:List Int}:bB (qH ag) (fun r=>Con a5 100 [.isl 1 (ag.map eI)] [] (.b r) []):=by
 unfold qH
 exact .ite (fun h1 =>
  .aY fun o =>
  .ar fun aB au =>
  .ret (bz [(J 1),.aw (ah 6 (ai (.b5 (eI aB)) (bo 1 (.aa true) 1)))] (.gu h1 h1 o.1 (cW eI o.2) h1 (b2 eI au) h1 h1)))
  (fun h1 =>
  .ret (bz [(J 1),.aw (ah 4 (cw 4 (ai (.aa false) (ah 1 []))))] (.dg h1 h1 h1 h1 h1)))
def It (ag aF:List Int):(Int×Int×(List Int))→S:=fun (cC,ad,ab)=>dr [(0,.isl 1 (ag.map eI)),(1,.isl 1 (aF.map eI)),(5,.bf 0 0 0 ab.length),(6,.n .i64 cC),(7,.n .i64 ad)] [(av 1 eI ab)]
def I0 (ag aF:List Int):(List Int)→dy
 | a=>⟨some 0,[(5,.bf 0 0 0 a.length)],[(av 1 eI a)]⟩
def ur (ag aF:List Int)(cC ad:Int)(ab:List Int):Option ((Int×Int×(List Int))⊕((List Int))) :=
 if (decide (ad<(len_ eI ag)))=true then
  if 0≤ad∧ad<ag.length then
  ag[ad.toNat]? >>= fun aB =>
  if (decide (ad<(len_ eI aF)))=true then
   if 0≤ad∧ad<aF.length then
   aF[ad.toNat]? >>= fun c7 =>
   if (ab++([(R ((R (cC+aB))+c7)).tmod (1000000000:Int)]:List Int)).length*8≤140737488355328 then
   some (.inl (R ((R ((R (cC+aB))+c7)).tdiv (1000000000:Int)),R (ad+(1:Int)),ab++([(R ((R (cC+aB))+c7)).tmod (1000000000:Int)]:List Int)))
   else none
   else none
  else
   if (ab++([(R (cC+aB)).tmod (1000000000:Int)]:List Int)).length*8≤140737488355328 then
   some (.inl (R ((R (cC+aB)).tdiv (1000000000:Int)),R (ad+(1:Int)),ab++([(R (cC+aB)).tmod (1000000000:Int)]:List Int)))
   else none
  else none
 else
  if (decide (ad<(len_ eI aF)))=true then
   if 0≤ad∧ad<aF.length then
   aF[ad.toNat]? >>= fun fM =>
   if (ab++([(R (cC+fM)).tmod (1000000000:Int)]:List Int)).length*8≤140737488355328 then
   some (.inl (R ((R (cC+fM)).tdiv (1000000000:Int)),R (ad+(1:Int)),ab++([(R (cC+fM)).tmod (1000000000:Int)]:List Int)))
   else none
   else none
  else
   if (decide ((0:Int)<cC))=true then
    if (ab++([cC.tmod (1000000000:Int)]:List Int)).length*8≤140737488355328 then
    some (.inl (R (cC.tdiv (1000000000:Int)),R (ad+(1:Int)),ab++([cC.tmod (1000000000:Int)]:List Int)))
    else none
   else
    some (.inr ab)
def J2 (ag aF:List Int)(cC ad:Int)(ab:List Int):Option ((List Int)):=iter (fun w:Int×Int×(List Int)=>ur ag aF w.1 w.2.1 w.2.2) (cC,ad,ab)
theorem V5 {ag aF:List Int}{cC ad:Int}{ab:List Int}:bB (ur ag aF cC ad ab) (dL a5 55 0 117 [1,1,1,0,1,0,0] (It ag aF (cC,ad,ab)) (It ag aF) (I0 ag aF)):=by
 unfold ur
 exact .ite (fun h1 =>
  .aY fun o =>
  .ar fun aB au =>
  (let t1:List b3:=[.aw (ah 5 (cw 4 (ai (.aa true) (ah 1 (cw 2 (ah 1 [])))))),.aa true,(J 2),(J 4),.aa true,.aw (bo 4 (.b5 (eI aB)) 2),(J 4)];
  have aT:=((.bi h1 h1 h1 h1 h1 cI cI cI (.c3 h1 o.1 (cW eI o.2) (b2 eI au))):cA _);
  .ite (fun aA =>
  .aY fun a0 =>
  .ar fun c7 bn =>
  .aY fun cx =>
  .ret (let q1:=(ab++([(R ((R (cC+aB))+c7)).tmod (1000000000:Int)]:List Int));bg (t1.append [.aa true,.aw (bo 4 (.b5 (eI c7)) 2),.aw (bo 4 (.aH (q1.length)) 1),(J 3),(J 3),.aP [43] [.cE (av 1 eI q1)] (a8 [0,1,5,6,7])]) (aT.aH (.bi aA a0.1 (cW eI a0.2) (b2 eI bn) (by decide:(1000000000:Int)≠0) (lj (show [[.n .i64 ((R ((R (cC+aB))+c7)).tmod (1000000000:Int))]]=(([(R ((R (cC+aB))+c7)).tmod (1000000000:Int)]:List Int)).map eI from rfl) (show 1=([(R ((R (cC+aB))+c7)).tmod (1000000000:Int)]:List Int).length from rfl)) (gW eI ab) (lV (dQ ab) (oh (show [[.n .i64 ((R ((R (cC+aB))+c7)).tmod (1000000000:Int))]]=(([(R ((R (cC+aB))+c7)).tmod (1000000000:Int)]:List Int)).map eI from rfl) (show 1=([(R ((R (cC+aB))+c7)).tmod (1000000000:Int)]:List Int).length from rfl)):q1.length=ab.length+(([[.n .i64 ((R ((R (cC+aB))+c7)).tmod (1000000000:Int))]].drop 0).take 1).length) (.c3 cx (by decide:(1000000000:Int)≠0) (cZ 1 .live (iv (cR eI ab) (dQ ab) (oh (show [[.n .i64 ((R ((R (cC+aB))+c7)).tmod (1000000000:Int))]]=(([(R ((R (cC+aB))+c7)).tmod (1000000000:Int)]:List Int)).map eI from rfl) (show 1=([(R ((R (cC+aB))+c7)).tmod (1000000000:Int)]:List Int).length from rfl)))) (aI 1 .live aN q1))))))
  (fun aA =>
  .aY fun a0 =>
  .ret (let a6:=(ab++([(R (cC+aB)).tmod (1000000000:Int)]:List Int));bg (t1.append [.aa false,.aw (bo 4 (.aH (a6.length)) 1),(J 3),(J 3),.aP [36] [.cE (av 1 eI a6)] (a8 [0,1,5,6,7])]) (aT.aH (.bi aA (by decide:(1000000000:Int)≠0) (lj (show [[.n .i64 ((R (cC+aB)).tmod (1000000000:Int))]]=(([(R (cC+aB)).tmod (1000000000:Int)]:List Int)).map eI from rfl) (show 1=([(R (cC+aB)).tmod (1000000000:Int)]:List Int).length from rfl)) (gW eI ab) (lV (dQ ab) (oh (show [[.n .i64 ((R (cC+aB)).tmod (1000000000:Int))]]=(([(R (cC+aB)).tmod (1000000000:Int)]:List Int)).map eI from rfl) (show 1=([(R (cC+aB)).tmod (1000000000:Int)]:List Int).length from rfl)):a6.length=ab.length+(([[.n .i64 ((R (cC+aB)).tmod (1000000000:Int))]].drop 0).take 1).length) a0 (by decide:(1000000000:Int)≠0) (cZ 1 .live (iv (cR eI ab) (dQ ab) (oh (show [[.n .i64 ((R (cC+aB)).tmod (1000000000:Int))]]=(([(R (cC+aB)).tmod (1000000000:Int)]:List Int)).map eI from rfl) (show 1=([(R (cC+aB)).tmod (1000000000:Int)]:List Int).length from rfl)))) (.e1 (aI 1 .live aN a6))))))))
  (fun h1 =>
  .ite (fun o =>
  .aY fun af =>
  .ar fun fM aA =>
  .aY fun a0 =>
  .ret (let bY:=(ab++([(R (cC+fM)).tmod (1000000000:Int)]:List Int));bg [.aw (ah 9 (ai (.aa false) (ah 1 (cw 2 (ai (.aa true) []))))),.aa true,(J 2),(J 4),.aa false,(J 4),.aa true,.aw (bo 4 (.b5 (eI fM)) 2),.aw (bo 4 (.aH (bY.length)) 1),(J 3),(J 3),.aP [36] [.cE (av 1 eI bY)] (a8 [0,1,5,6,7])] (.bi h1 h1 h1 h1 h1 o o o (.bi cI h1 o af.1 (cW eI af.2) (b2 eI aA) (by decide:(1000000000:Int)≠0) (lj (show [[.n .i64 ((R (cC+fM)).tmod (1000000000:Int))]]=(([(R (cC+fM)).tmod (1000000000:Int)]:List Int)).map eI from rfl) (show 1=([(R (cC+fM)).tmod (1000000000:Int)]:List Int).length from rfl)) (.d6 (gW eI ab) (lV (dQ ab) (oh (show [[.n .i64 ((R (cC+fM)).tmod (1000000000:Int))]]=(([(R (cC+fM)).tmod (1000000000:Int)]:List Int)).map eI from rfl) (show 1=([(R (cC+fM)).tmod (1000000000:Int)]:List Int).length from rfl)):bY.length=ab.length+(([[.n .i64 ((R (cC+fM)).tmod (1000000000:Int))]].drop 0).take 1).length) a0 (by decide:(1000000000:Int)≠0) (cZ 1 .live (iv (cR eI ab) (dQ ab) (oh (show [[.n .i64 ((R (cC+fM)).tmod (1000000000:Int))]]=(([(R (cC+fM)).tmod (1000000000:Int)]:List Int)).map eI from rfl) (show 1=([(R (cC+fM)).tmod (1000000000:Int)]:List Int).length from rfl)))) (aI 1 .live aN bY))))))
  (fun o =>
  (let t1:List b3:=[.aw (ah 9 (ai (.aa false) (ah 3 (ai (.aa false) []))))];
  .ite (fun af =>
  .aY fun au =>
  .ret (let cz:=(ab++([(cC.tmod (1000000000:Int))]:List Int));bg (t1.append [.aa true,(J 2),(J 4),.aa false,(J 4),.aa false,.aw (bo 4 (.aH (cz.length)) 1),(J 3),(J 3),.aP [29] [.cE (av 1 eI cz)] (a8 [0,1,5,6,7])]) (.bi h1 h1 h1 h1 h1 o o o (.bi af h1 o (by decide:(1000000000:Int)≠0) (gC eI (cC.tmod (1000000000:Int))) (gW eI ab) (gD eI ab (cC.tmod (1000000000:Int))) au (.bP (by decide:(1000000000:Int)≠0) (cZ 1 .live (hb eI ab (cC.tmod (1000000000:Int)))) (aI 1 .live aN cz))))))
  (fun af =>
  .ret (bg (t1.append [.aa false,.aP [0] [.pure] (a8 [5])]) (.bi h1 h1 h1 h1 h1 o o o (.aE af (aI 1 .live aN ab))))))))
theorem XB {ag aF:List Int}{cC ad:Int}{ab:List Int}{r} (h:J2 ag aF cC ad ab=some r):dM a5 55 0 117 [1,1,1,0,1,0,0] (It ag aF) (I0 ag aF) (cC,ad,ab) r:=dO (fun _=>V5) h
def x7 (ag aF:List Int):Option (List Int) :=
 J2 ag aF 0 0 ([]:List Int) >>= fun r1 =>
 some r1
theorem YH {ag aF:List Int}:bB (x7 ag aF) (fun r=>Con a5 117 [.isl 1 (ag.map eI),.isl 1 (aF.map eI)] [] (.isl 1 (r.map eI)) []):=by
 unfold x7
 exact .ar fun r1 o =>
  .ret (bz [(J 1),(J 2),(J 1),(J 1),.aP [1] [.cE (av 1 eI ([]:List Int))] [(0,ii),(1,ii),(5,fU (([]:List Int).length)),(6,ii),(7,ii)],(I0 ag aF r1).e6,(J 2)] (.eB (cZ 1 .live (show []=(([]:List Int)).map eI from rfl)) (aI 1 .live aN ([]:List Int)) (fc Int) (XB o) (fv eI r1) (fb eI r1) (dd aN r1)) (.bs (.c9 (.dF (r1.map eI)))))
def Iu (ag aF:List Int):Int→S:=fun ad=>dr [(0,.isl 1 (ag.map eI)),(1,.isl 1 (aF.map eI)),(5,.n .i64 ad)] []
def Of (ag aF:List Int):((Unit)⊕(Int))→dy
 | .inl a=>⟨some 0,[],[]⟩
 | .inr a=>⟨none,[(4,.n .i64 a)],[]⟩
def xz (ag aF:List Int)(ad:Int):Option ((Int)⊕((Unit)⊕(Int))) :=
 if (decide ((0:Int)≤ad))=true then
  if 0≤ad∧ad<ag.length then
  ag[ad.toNat]? >>= fun aB =>
  if 0≤ad∧ad<aF.length then
  aF[ad.toNat]? >>= fun cu =>
  if (decide (aB<cu))=true then
   some (.inr (.inr (-1)))
  else
   if (decide (cu<aB))=true then
    some (.inr (.inr 1))
   else
    some (.inl (R (ad-(1:Int))))
  else none
  else none
 else
  some (.inr (.inl ()))
def J3 (ag aF:List Int)(ad:Int):Option ((Unit)⊕(Int)):=iter (fun w:Int=>xz ag aF w) ad
theorem V6 {ag aF:List Int}{ad:Int}:bB (xz ag aF ad) (dL a5 41 0 118 [1,1,0,1,0,0] (Iu ag aF ad) (Iu ag aF) (Of ag aF)):=by
 unfold xz
 exact .ite (fun h1 =>
  .aY fun o =>
  .ar fun aB au =>
  .aY fun aA =>
  .ar fun cu bm =>
  (let t1:List b3:=[(J 2),.aa true,.aw (ah 3 (ai (.b5 (eI aB)) (bo 3 (.b5 (eI cu)) 1)))];
  have aT:=((.eB h1 o.1 (cW eI o.2) (b2 eI au) aA.1 (cW eI aA.2) (b2 eI bm)):cA _);
  .ite (fun bn =>
  .ret (bg (t1.append [.aa true,(J 1),.aP [] [] (a8 [4])]) (aT.aH (.e1 bn))))
  (fun bn =>
  (let t3:List b3:=t1.append [.aa false,.aw (ah 3 (ai (.b5 (eI aB)) (bo 3 (.b5 (eI cu)) 1)))];
  have e3:=aT.aH (.eB bn o.1 (cW eI o.2) (b2 eI au) aA.1 (cW eI aA.2) (b2 eI bm));
  .ite (fun cx =>
  .ret (bg (t3.append [.aa true,(J 1),.aP [] [] (a8 [4])]) (e3.aH (.e1 cx))))
  (fun cx =>
  .ret (bg (t3.append [.aa false,(J 3),.aP [] [] (a8 [0,1,5])]) (e3.aH (.e1 cx))))))))
  (fun h1 =>
  .ret (bg [(J 2),.aa false,.aP [] [] []] (.e1 h1)))
theorem Ot {ag aF:List Int}{ad:Int}{r} (h:J3 ag aF ad=some r):dM a5 41 0 118 [1,1,0,1,0,0] (Iu ag aF) (Of ag aF) ad r:=dO (fun _=>V6) h
def p8 (ag aF:List Int):Option Int :=
 if ((len_ eI ag) != (len_ eI aF))=true then
  if (decide ((len_ eI ag)<(len_ eI aF)))=true then
   some (-1)
  else
   some 1
 else
  J3 ag aF (R ((len_ eI ag)-(1:Int))) >>= fun bT =>
  match bT with
  | .inl fZ=>(some 0)
  | .inr fZ=>(some fZ)
theorem xV {ag aF:List Int}:bB (p8 ag aF) (fun r=>Con a5 118 [.isl 1 (ag.map eI),.isl 1 (aF.map eI)] [] (.n .i64 r) []):=by
 unfold p8
 exact .ite (fun h1 =>
  (let t1:List b3:=[(J 1),(J 5),.aa true,(J 5)];
  .ite (fun o =>
  .ret (bz (t1.append [.aa true,(J 1)]) (.aE h1 o)))
  (fun o =>
  .ret (bz (t1.append [.aa false,(J 1)]) (.aE h1 o)))))
  (fun h1 =>
  .ar fun bT af =>
  (let t1:List b3:=[(J 1),(J 5),.aa false,(J 4),.aP [] [] (a8 [0,1,5])];
  (by
  rcases bT with fZ|fZ
  ·exact (.ret (bz (t1.append [.sub (.exit 0) [] [],(J 1)]) (.aE h1 (Ot af))))
  ·exact (.ret (bz (t1.append [.sub (.ret) [(4,.n .i64 fZ)] []]) (.aE h1 (Ot af)))))))
def Iv (ag aF:List Int)(dc:Int):(Int×Int×(List Int))→S:=fun (lo,d3,ab)=>dr [(0,.isl 1 (ag.map eI)),(1,.isl 1 (aF.map eI)),(5,.bf 0 0 0 ab.length),(6,.n .i64 lo),(11,.n .i64 dc),(12,.n .i64 d3)] [(av 1 eI ab)]
def I1 (ag aF:List Int)(dc:Int):(List Int)→dy
 | a=>⟨some 0,[(5,.bf 0 0 0 a.length)],[(av 1 eI a)]⟩
def us (ag aF:List Int)(dc lo d3:Int)(ab:List Int):Option ((Int×Int×(List Int))⊕((List Int))) :=
 if (decide (d3<dc))=true then
  if 0≤d3∧d3<ag.length then
  ag[d3.toNat]? >>= fun aB =>
  if (decide (d3<(len_ eI aF)))=true then
   if 0≤d3∧d3<aF.length then
   aF[d3.toNat]? >>= fun c7 =>
   if (decide ((R ((R (aB-lo))-c7))<(0:Int)))=true then
    if (ab++([R ((R ((R (aB-lo))-c7))+(1000000000:Int))]:List Int)).length*8≤140737488355328 then
    some (.inl (1,R (d3+(1:Int)),ab++([R ((R ((R (aB-lo))-c7))+(1000000000:Int))]:List Int)))
    else none
   else
    if (ab++([R ((R (aB-lo))-c7)]:List Int)).length*8≤140737488355328 then
    some (.inl (0,R (d3+(1:Int)),ab++([R ((R (aB-lo))-c7)]:List Int)))
    else none
   else none
  else
   if (decide ((R (aB-lo))<(0:Int)))=true then
    if (ab++([R ((R (aB-lo))+(1000000000:Int))]:List Int)).length*8≤140737488355328 then
    some (.inl (1,R (d3+(1:Int)),ab++([R ((R (aB-lo))+(1000000000:Int))]:List Int)))
    else none
   else
    if (ab++([R (aB-lo)]:List Int)).length*8≤140737488355328 then
    some (.inl (0,R (d3+(1:Int)),ab++([R (aB-lo)]:List Int)))
    else none
  else none
 else
  some (.inr ab)
def J4 (ag aF:List Int)(dc lo d3:Int)(ab:List Int):Option ((List Int)):=iter (fun w:Int×Int×(List Int)=>us ag aF dc w.1 w.2.1 w.2.2) (lo,d3,ab)
theorem V7 {ag aF:List Int}{dc lo d3:Int}{ab:List Int}:bB (us ag aF dc lo d3 ab) (dL a5 42 0 119 [1,1,1,0,1,0,0] (Iv ag aF dc (lo,d3,ab)) (Iv ag aF dc) (I1 ag aF dc)):=by
 unfold us
 exact .ite (fun h1 =>
  .aY fun o =>
  .ar fun aB au =>
  (let t1:List b3:=[(J 1),.aa true,(J 2),.aw (bo 3 (.b5 (eI aB)) 3),(J 4)];
  have aT:=((.c3 h1 o.1 (cW eI o.2) (b2 eI au)):cA _);
  .ite (fun aA =>
  .aY fun a0 =>
  .ar fun c7 bn =>
  (let t3:List b3:=t1.append [.aa true,.aw (bo 4 (.b5 (eI c7)) 2),(J 1),(J 2)];
  have e3:=aT.aH (.c3 aA a0.1 (cW eI a0.2) (b2 eI bn));
  .ite (fun cx =>
  .aY fun cQ =>
  .ret (let q1:=(R ((R ((R (aB-lo))-c7))+(1000000000:Int)));let a6:=(ab++([q1]:List Int));bg (t3.append [.aa true,(J 3),(J 1),.aw (bo 3 (.aH (a6.length)) 1),(J 2),.aP [32] [.cE (av 1 eI a6)] (a8 [0,1,5,6,11,12])]) (e3.aH (.eB cx (gC eI q1) (gW eI ab) (gD eI ab q1) cQ (cZ 1 .live (hb eI ab q1)) (aI 1 .live aN a6)))))
  (fun cx =>
  .aY fun cQ =>
  .ret (let bY:=R ((R (aB-lo))-c7);let cz:=(ab++([bY]:List Int));bg (t3.append [.aa false,.aw (bo 3 (.aH (cz.length)) 1),(J 2),.aP [28] [.cE (av 1 eI cz)] (a8 [0,1,5,6,11,12])]) (e3.aH (.eB cx (gC eI bY) (gW eI ab) (gD eI ab bY) cQ (cZ 1 .live (hb eI ab bY)) (aI 1 .live aN cz)))))))
  (fun aA =>
  (let t3:List b3:=t1.append [.aa false,(J 1),(J 2)];
  .ite (fun a0 =>
  .aY fun bm =>
  .ret (let dj:=(R ((R (aB-lo))+(1000000000:Int)));let f6:=(ab++([dj]:List Int));bg (t3.append [.aa true,(J 3),(J 1),.aw (bo 3 (.aH (f6.length)) 1),(J 2),.aP [25] [.cE (av 1 eI f6)] (a8 [0,1,5,6,11,12])]) (aT.aH (.gu aA a0 (gC eI dj) (gW eI ab) (gD eI ab dj) bm (cZ 1 .live (hb eI ab dj)) (aI 1 .live aN f6)))))
  (fun a0 =>
  .aY fun bm =>
  .ret (let fw:=R (aB-lo);let h4:=(ab++([fw]:List Int));bg (t3.append [.aa false,.aw (bo 3 (.aH (h4.length)) 1),(J 2),.aP [21] [.cE (av 1 eI h4)] (a8 [0,1,5,6,11,12])]) (aT.aH (.gu aA a0 (gC eI fw) (gW eI ab) (gD eI ab fw) bm (cZ 1 .live (hb eI ab fw)) (aI 1 .live aN h4)))))))))
  (fun h1 =>
  .ret (bg [(J 1),.aa false,.aP [0] [.pure] (a8 [5])] (.aE h1 (aI 1 .live aN ab))))
theorem XC {ag aF:List Int}{dc lo d3:Int}{ab:List Int}{r} (h:J4 ag aF dc lo d3 ab=some r):dM a5 42 0 119 [1,1,1,0,1,0,0] (Iv ag aF dc) (I1 ag aF dc) (lo,d3,ab) r:=dO (fun _=>V7) h
def sd (ag aF:List Int):Option (List Int) :=
 J4 ag aF (len_ eI ag) 0 0 ([]:List Int) >>= fun r1 =>
 p6 r1 >>= fun bl =>
 some bl
theorem J5 {ag aF:List Int}:bB (sd ag aF) (fun r=>Con a5 119 [.isl 1 (ag.map eI),.isl 1 (aF.map eI)] [] (.isl 1 (r.map eI)) []):=by
 unfold sd
 exact .ar fun r1 o =>
  .ar fun bl au =>
  .ret (bz [(J 1),(J 2),(J 1),(J 3),.aP [1] [.cE (av 1 eI ([]:List Int))] [(0,ii),(1,ii),(5,fU (([]:List Int).length)),(6,ii),(11,ii),(12,ii)],(I1 ag aF (len_ eI ag) r1).e6,.i9 0,.aw (bo 1 (.call {ac:=[.bs (.c9 (.dF (r1.map eI)))],r:= .isl 1 (bl.map eI),er:=false,eN:=[0]}) 1)] (.gu (cZ 1 .live (show []=(([]:List Int)).map eI from rfl)) (aI 1 .live aN ([]:List Int)) (fc Int) (XC o) (fv eI r1) (fb eI r1) (dd aN r1) (r6 bl au)))
def p9 (di eE:bt):Option bt :=
 if (di.cS == eE.cS)=true then
  x7 di.cJ eE.cJ >>= fun bT =>
  h5 di.cS bT >>= fun ba =>
  some ba
 else
  p8 di.cJ eE.cJ >>= fun bT =>
  if (decide ((0:Int)≤bT))=true then
   sd di.cJ eE.cJ >>= fun ax =>
   h5 di.cS ax >>= fun bQ =>
   some bQ
  else
   sd eE.cJ di.cJ >>= fun ax =>
   h5 eE.cS ax >>= fun bQ =>
   some bQ
theorem J6 {di eE:bt}:bB (p9 di eE) (fun r=>Con a5 101 [.agg (aZ di),.agg (aZ eE)] [] (.agg (aZ r)) []):=by
 unfold p9
 exact .ite (fun h1 =>
  .ar fun bT af =>
  .ar fun ba aA =>
  .ret (bz [(J 3),(J 5),.aa true,.aw (ah 6 (ai (bw 2 (.isl 1 (bT.map eI)) false) (ai (bw 2 (.agg (aZ ba)) false) (ah 1 []))))] (.bP h1 (YH bT af) (oc ba aA))))
  (fun h1 =>
  .ar fun bT af =>
  (let t1:List b3:=[(J 3),(J 5),.aa false,.aw (bo 4 (bw 2 (.n .i64 bT) true) 1)];
  have aT:=((.bP h1 (xV bT af) (bX.n .i64 bT)):cA _);
  .ite (fun au =>
  .ar fun ax a0 =>
  .ar fun bQ bn =>
  .ret (bz (t1.append [.aa true,.aw (ah 6 (ai (bw 2 (.isl 1 (ax.map eI)) false) (ai (bw 2 (.agg (aZ bQ)) false) (ah 1 []))))]) (aT.aH (.bP au (J5 ax a0) (oc bQ bn)))))
  (fun au =>
  .ar fun ax a0 =>
  .ar fun bQ bn =>
  .ret (bz (t1.append [.aa false,.aw (ah 6 (ai (bw 2 (.isl 1 (ax.map eI)) false) (ai (bw 2 (.agg (aZ bQ)) false) (ah 1 []))))]) (aT.aH (.bP au (J5 ax a0) (oc bQ bn)))))))
def I2 (ag:List Int)(gT:Int):Int→S:=fun dD=>dr [(0,.isl 1 (ag.map eI)),(5,.isl 1 (ag.map eI)),(6,.n .i64 gT),(7,.n .i64 dD)] []
def Ou (ag:List Int)(gT:Int):((Unit)⊕(Unit))→dy
 | .inl a=>⟨some 0,[(0,.isl 1 (ag.map eI))],[]⟩
 | .inr a=>⟨none,[(2,.b false)],[]⟩
def xJ (ag:List Int)(gT dD:Int):Option ((Int)⊕((Unit)⊕(Unit))) :=
 if (decide (dD<gT))=true then
  if 0≤dD∧dD<ag.length then
  ag[dD.toNat]? >>= fun aB =>
  mR aB 0 999999999 >>= fun ax =>
  if ax=true then
   some (.inl (R (dD+(1:Int))))
  else
   some (.inr (.inr ()))
  else none
 else
  some (.inr (.inl ()))
def Kj (ag:List Int)(gT dD:Int):Option ((Unit)⊕(Unit)):=iter (fun w:Int=>xJ ag gT w) dD
theorem Wt {ag:List Int}{gT dD:Int}:bB (xJ ag gT dD) (dL a5 32 0 109 [1,0,1,0,0] (I2 ag gT dD) (I2 ag gT) (Ou ag gT)):=by
 unfold xJ
 exact .ite (fun h1 =>
  .aY fun o =>
  .ar fun aB au =>
  .ar fun ax a0 =>
  (let t1:List b3:=[(J 1),.aa true,.aw (bo 1 (.b5 (eI aB)) 1),.aw (bo 1 (bw 3 (.b ax) true) 1)];
  have aT:=((.d6 h1 o.1 (cW eI o.2) (b2 eI au) (p5 ax a0) (bX.b ax)):cA _);
  .ite (fun bm =>
  .ret (bg (t1.append [.aa false,(J 2),.aP [] [] (a8 [0,5,6,7])]) (aT.aH (.e1 (cV bm)))))
  (fun bm =>
  .ret (bg (t1.append [.aa true,(J 1),.aP [] [] (a8 [2])]) (aT.aH (.e1 (cT bm)))))))
  (fun h1 =>
  .ret (bg [(J 1),.aa false,.aP [] [] (a8 [0])] (.e1 h1)))
theorem JB {ag:List Int}{gT dD:Int}{r} (h:Kj ag gT dD=some r):dM a5 32 0 109 [1,0,1,0,0] (I2 ag gT) (Ou ag gT) dD r:=dO (fun _=>Wt) h
def se (ag:List Int):Option Bool :=
 Kj ag (len_ eI ag) 0 >>= fun r1 =>
 match r1 with
 | .inl dt=>(if (decide ((len_ eI ag)≤(60:Int)))=true then
  if ((len_ eI ag) == (0:Int))=true then
   some true
  else
   if 0≤(R ((len_ eI ag)-(1:Int)))∧(R ((len_ eI ag)-(1:Int)))<ag.length then
   ag[(R ((len_ eI ag)-(1:Int))).toNat]? >>= fun c7 =>
   some (c7 != (0:Int))
   else none
  else
   some false)
 | .inr dt=>(some false)
theorem Kk {ag:List Int}:bB (se ag) (fun r=>Con a5 109 [.isl 1 (ag.map eI)] [] (.b r) []):=by
 unfold se
 exact .ar fun r1 o =>
  (let t1:List b3:=[(J 1),(J 3),.aP [] [] (a8 [0,5,6,7])];
  (by
  rcases r1 with dt|dt
  ·exact ((let t2:List b3:=t1.append [.sub (.exit 0) [(0,.isl 1 (ag.map eI))] []];
  .ite (fun au =>
  (have fO:=((.dg (JB o) au au au au):cA _);
  .ite (fun aA =>
  .ret (bz (t2.append [.aw (ah 8 (cw 7 (ai (.aa true) (ai (.aa true) (ah 1 [])))))]) (fO.aH (.bi aA aA aA aA aA aA aA au (.aE aA au)))))
  (fun aA =>
  .aY fun a0 =>
  .ar fun c7 bn =>
  .ret (bz (t2.append [.aw (ah 13 (ai (.b5 (eI c7)) (ah 1 (ai (.aa false) (ai (.aa true) (ah 1 []))))))]) (fO.aH (.bi aA aA aA aA aA a0.1 (cW eI a0.2) aA (.dg (b2 eI bn) aA au aA au)))))))
  (fun au =>
  .ret (bz (t2.append [.aw (ah 4 (cw 4 (ah 7 (cw 1 (ai (.aa false) (ah 1 []))))))]) (.eB (JB o) au au au au au au)))))
  ·exact (.ret (bz (t1.append [.sub (.ret) [(2,.b false)] []]) (.e1 (JB o))))))
def Hx (ag:List Int):(Int×Int)→S:=fun (a3,ad)=>dr [(0,.isl 1 (ag.map eI)),(4,.n .i64 a3),(5,.n .i64 ad)] []
def HS (ag:List Int):Int→dy
 | a=>⟨some 0,[(4,.n .i64 a)],[]⟩
def xc (ag:List Int)(a3 ad:Int):Option ((Int×Int)⊕(Int)) :=
 if (decide ((0:Int)≤ad))=true then
  if 0≤ad∧ad<ag.length then
  ag[ad.toNat]? >>= fun aB =>
  some (.inl (R ((R (a3*(1000000000:Int)))+aB),R (ad-(1:Int))))
  else none
 else
  some (.inr a3)
def JC (ag:List Int)(a3 ad:Int):Option (Int):=iter (fun w:Int×Int=>xc ag w.1 w.2) (a3,ad)
theorem Vq {ag:List Int}{a3 ad:Int}:bB (xc ag a3 ad) (dL a5 30 0 126 [1,1,1,0,1,0,0] (Hx ag (a3,ad)) (Hx ag) (HS ag)):=by
 unfold xc
 exact .ite (fun h1 =>
  .aY fun o =>
  .ar fun aB au =>
  .ret (bg [(J 2),.aa true,.aw (bo 5 (.b5 (eI aB)) 2),(J 3),.aP [] [] (a8 [0,4,5])] (.c3 h1 o.1 (cW eI o.2) (b2 eI au))))
  (fun h1 =>
  .ret (bg [(J 2),.aa false,.aP [] [] (a8 [4])] (.e1 h1)))
theorem WY {ag:List Int}{a3 ad:Int}{r} (h:JC ag a3 ad=some r):dM a5 30 0 126 [1,1,1,0,1,0,0] (Hx ag) (HS ag) (a3,ad) r:=dO (fun _=>Vq) h
def xY (ag:List Int):Option (Int×Bool) :=
 se ag >>= fun r1 =>
 if r1=true then
  p8 ag ([854775807,223372036,9]:List Int) >>= fun ba =>
  if (decide ((0:Int)<ba))=true then
   some (0,false)
  else
   JC ag 0 (R ((len_ eI ag)-(1:Int))) >>= fun bQ =>
   some (bQ,true)
 else
  some (0,false)
theorem Oz {ag:List Int}:bB (xY ag) (fun r=>Con a5 126 [.isl 1 (ag.map eI)] [] (.ea [.n .i64 r.1,.b r.2]) []):=by
 unfold xY
 exact .ar fun r1 o =>
  (have b8:=((.aE (Kk r1 o) (bX.b r1)):cA _);
  .ite (fun af =>
  .ar fun ba aA =>
  (let t2:List b3:=[(J 2),.aw (ah 1 (ai (bw 1 (.b r1) true) (ah 4 (ai (.call {ac:=[ii,.bs (.c9 (.dF (([854775807,223372036,9]:List Int).map eI)))],r:= .n .i64 ba,er:=true,eN:=[7]}) (ah 1 (ai (.aa false) []))))))];
  have fO:=b8.aH (.bi (cV af) (cV af) (cV af) (k4 (show [[.n .i64 (854775807:Int)],[.n .i64 (223372036:Int)],[.n .i64 (9:Int)]]=(([854775807,223372036,9]:List Int)).map eI from rfl) (show 3=([854775807,223372036,9]:List Int).length from rfl)) (lj (show [[.n .i64 (854775807:Int)],[.n .i64 (223372036:Int)],[.n .i64 (9:Int)]]=(([854775807,223372036,9]:List Int)).map eI from rfl) (show 3=([854775807,223372036,9]:List Int).length from rfl)) (dd aN ([854775807,223372036,9]:List Int)) (xV ba aA) (bX.n .i64 ba) (.aE (cV af) (cV af)));
  .ite (fun a0 =>
  .ret (bz (t2.append [.aa true,(J 2)]) (fO.aH (.e1 a0))))
  (fun a0 =>
  .ar fun bQ bn =>
  .ret (bz (t2.append [.aa false,(J 1),(J 4),.aP [] [] (a8 [0,4,5]),(HS ag bQ).e6,(J 3)]) (fO.aH (.aE a0 (WY bn)))))))
  (fun af =>
  .ret (bz [(J 2),.aw (ah 1 (ai (bw 1 (.b r1) true) (ah 2 (cw 4 (ai (.aa true) []))))),.aa true,(J 2)] (b8.aH (.d6 (cT af) (cT af) (cT af) (cT af) (cT af) cI)))))
def Hy:(Int×Int)→S:=fun (di,eE)=>dr [(0,.n .i64 di),(1,.n .i64 eE)] []
def HT:Int→dy
 | a=>⟨some 0,[(0,.n .i64 a)],[]⟩
def xd (di eE:Int):Option ((Int×Int)⊕(Int)) :=
 if (decide ((0:Int)<eE))=true then
  if eE≠0 then
  some (.inl (eE,di.tmod eE))
  else none
 else
  some (.inr di)
def JD (di eE:Int):Option (Int):=iter (fun w:Int×Int=>xd w.1 w.2) (di,eE)
theorem Vr {di eE:Int}:bB (xd di eE) (dL a5 15 0 127 [1,0,0,0] (Hy (di,eE)) (Hy) (HT)):=by
 unfold xd
 exact .ite (fun h1 =>
  .aY fun o =>
  .ret (bg [(J 2),.aa true,(J 4),(J 2),(J 2),.aP [] [] (a8 [0,1])] (.aE h1 o)))
  (fun h1 =>
  .ret (bg [(J 2),.aa false,.aP [] [] (a8 [0])] (.e1 h1)))
theorem WZ {di eE:Int}{r} (h:JD di eE=some r):dM a5 15 0 127 [1,0,0,0] (Hy) (HT) (di,eE) r:=dO (fun _=>Vr) h
def Ae (di eE:Int):Option (List Int) :=
 JD di eE >>= fun r1 =>
 rC r1 >>= fun bl =>
 some bl
theorem XU {di eE:Int}:bB (Ae di eE) (fun r=>Con a5 127 [.n .i64 di,.n .i64 eE] [] (.isl 1 (r.map eI)) []):=by
 unfold Ae
 exact .ar fun r1 o =>
  .ar fun bl au =>
  .ret (bz [(J 1),.aP [] [] (a8 [0,1]),(HT r1).e6,.aw (bo 1 (bw 1 (.isl 1 (bl.map eI)) false) 1)] (.aE (WZ o) (xX bl au)))
def Hz (ag:List Int)(lx:Int):(Int×Int×(List Int))→S:=fun (fT,ad,ab)=>dr [(0,.isl 1 (ag.map eI)),(1,.n .i64 lx),(6,.bf 0 0 0 ab.length),(7,.n .i64 fT),(8,.n .i64 ad)] [(av 1 eI ab)]
def HU (ag:List Int)(lx:Int):(Int×(List Int))→dy
 | a=>⟨some 0,[(6,.bf 0 0 0 a.2.length),(7,.n .i64 a.1)],[(av 1 eI a.2)]⟩
def xe (ag:List Int)(lx fT ad:Int)(ab:List Int):Option ((Int×Int×(List Int))⊕(Int×(List Int))) :=
 if (decide ((0:Int)≤ad))=true then
  if 0≤ad∧ad<ag.length then
  ag[ad.toNat]? >>= fun aB =>
  if lx≠0 then
  if 0≤ad∧ad<(ab.length:Nat) then
  if (0+ad.toNat)<ab.length then
  some (.inl ((R ((R (fT*(1000000000:Int)))+aB)).tmod lx,R (ad-(1:Int)),ab.set (0+ad.toNat) (R ((R ((R (fT*(1000000000:Int)))+aB)).tdiv lx))))
  else none
  else none
  else none
  else none
 else
  some (.inr (fT,ab))
def Dw (ag:List Int)(lx fT ad:Int)(ab:List Int):Option (Int×(List Int)):=iter (fun w:Int×Int×(List Int)=>xe ag lx w.1 w.2.1 w.2.2) (fT,ad,ab)
theorem Vs {ag:List Int}{lx fT ad:Int}{ab:List Int}:bB (xe ag lx fT ad ab) (dL a5 39 0 132 [1,1,1,0,1,0,0] (Hz ag lx (fT,ad,ab)) (Hz ag lx) (HU ag lx)):=by
 unfold xe
 exact .ite (fun h1 =>
  .aY fun o =>
  .ar fun aB au =>
  .aY fun aA =>
  .aY fun a0 =>
  .aY fun bm =>
  .ret (let q1:=(R ((R ((R (fT*(1000000000:Int)))+aB)).tdiv lx));bg [(J 2),.aa true,.aw (bo 5 (.b5 (eI aB)) 2),.aw (ah 6 (ai .fX [])),(J 4),(J 3),.aP [0] [.cE (av 1 eI (ab.set (0+ad.toNat) q1))] [(0,ii),(1,ii),(6,fU ((ab.set (0+ad.toNat) q1).length)),(7,ii),(8,ii)]] (.bi h1 o.1 (cW eI o.2) (b2 eI au) aA a0.1 a0.2 (hQ eI bm) (.dg (hJ 1) aA (cZ 1 .live (gM (cR eI ab) (0+ad.toNat) q1)) (aI 1 .live aN (ab.set (0+ad.toNat) q1)) (hg (dQ ab) (0+ad.toNat) q1)))))
  (fun h1 =>
  .ret (bg [(J 2),.aa false,.aP [0] [.pure] (a8 [6,7])] (.aE h1 (aI 1 .live aN ab))))
theorem W0 {ag:List Int}{lx fT ad:Int}{ab:List Int}{r} (h:Dw ag lx fT ad ab=some r):dM a5 39 0 132 [1,1,1,0,1,0,0] (Hz ag lx) (HU ag lx) (fT,ad,ab) r:=dO (fun _=>Vs) h
def Af (ag:List Int)(lx:Int):Option ((List Int)×Int) :=
 if 0≤(len_ eI ag)∧(8:Int)*(len_ eI ag)≤281474976710656∧(len_ eI ag)<9223372036854775808 then
 Dw ag lx 0 (R ((len_ eI ag)-(1:Int))) (List.replicate (len_ eI ag).toNat 0:List Int) >>= fun bT =>
 p6 bT.2 >>= fun ba =>
 some (ba,bT.1)
 else none
theorem XV {ag:List Int}{lx:Int}:bB (Af ag lx) (fun r=>Con a5 132 [.isl 1 (ag.map eI),.n .i64 lx] [] (.ea [.isl 1 (r.1.map eI),.n .i64 r.2]) []):=by
 unfold Af
 exact .aY fun h1 =>
  .ar fun bT af =>
  .ar fun ba aA =>
  .ret (let q1:=(List.replicate (len_ eI ag).toNat 0:List Int);bz [(J 2),(J 4),(J 1),(J 4),.aP [4] [.cE (av 1 eI q1)] [(0,ii),(1,ii),(6,fU (q1.length)),(7,ii),(8,ii)],(HU ag lx bT).e6,.i9 0,.aw (bo 1 (.call {ac:=[.bs (.c9 (.dF (bT.2.map eI)))],r:= .isl 1 (ba.map eI),er:=false,eN:=[0]}) 3)] (.bi h1.1 (Int.le_refl (len_ eI ag)) h1.2.1 h1.2.2 (cZ 1 .live (lU eI (len_ eI ag).toNat 0)) (aI 1 .live aN q1) (me (len_ eI ag).toNat (0:Int)) (W0 af) (.c3 (fv eI bT.2) (fb eI bT.2) (dd aN bT.2) (r6 ba aA))))
def Iw (aF:List Int)(ad di:Int)(du:List Int)(dv hq:Int):(Int×Int×(List Int))→S:=fun (cC,dw,ab)=>dr [(1,.isl 1 (aF.map eI)),(5,.bf 0 0 0 ab.length),(6,.n .i64 ad),(7,.n .i64 di),(8,.n .i64 cC),(26,.isl 1 (du.map eI)),(27,.n .i64 dv),(28,.n .i64 ad),(33,.isl 1 (aF.map eI)),(34,.n .i64 hq),(35,.n .i64 dw)] [(av 1 eI ab)]
def I3 (aF:List Int)(ad di:Int)(du:List Int)(dv hq:Int):(Int×(List Int))→dy
 | a=>⟨some 2,[(1,.isl 1 (aF.map eI)),(5,.bf 0 0 0 a.2.length),(6,.n .i64 ad),(8,.n .i64 a.1),(26,.isl 1 (du.map eI)),(27,.n .i64 dv),(28,.n .i64 ad)],[(av 1 eI a.2)]⟩
def xA (aF:List Int)(ad di:Int)(du:List Int)(dv hq cC dw:Int)(ab:List Int):Option ((Int×Int×(List Int))⊕(Int×(List Int))) :=
 if (decide (dw<hq))=true then
  if 0≤dw∧dw<aF.length then
  aF[dw.toNat]? >>= fun aB =>
  if 0≤(R (ad+dw))∧(R (ad+dw))<(ab.length:Nat) then
  ab[(0+(R (ad+dw)).toNat)]? >>= fun cu =>
  if (0+(R (ad+dw)).toNat)<ab.length then
  some (.inl (R ((R ((R (cu+(R (di*aB))))+cC)).tdiv (1000000000:Int)),R (dw+(1:Int)),ab.set (0+(R (ad+dw)).toNat) ((R ((R (cu+(R (di*aB))))+cC)).tmod (1000000000:Int))))
  else none
  else none
  else none
 else
  some (.inr (cC,ab))
def J7 (aF:List Int)(ad di:Int)(du:List Int)(dv hq cC dw:Int)(ab:List Int):Option (Int×(List Int)):=iter (fun w:Int×Int×(List Int)=>xA aF ad di du dv hq w.1 w.2.1 w.2.2) (cC,dw,ab)
theorem V8 {aF:List Int}{ad di:Int}{du:List Int}{dv hq cC dw:Int}{ab:List Int}:bB (xA aF ad di du dv hq cC dw ab) (dL a5 72 0 104 [1,1,1,0,1,0,0,1,1,0,0,1,1,0,1,0,0] (Iw aF ad di du dv hq (cC,dw,ab)) (Iw aF ad di du dv hq) (I3 aF ad di du dv hq)):=by
 unfold xA
 exact .ite (fun h1 =>
  .aY fun o =>
  .ar fun aB au =>
  .aY fun aA =>
  .ar fun cu bm =>
  .aY fun bn =>
  .ret (let q1:=R ((R (cu+(R (di*aB))))+cC);let a6:=R (ad+dw);bg [(J 1),.aa true,.aw (bo 2 (.b5 (eI aB)) 2),.aw (bo 5 (.b5 (eI cu)) 7),.aw (ah 7 (ai .fX [])),(J 3),(J 2),.aP [0] [.cE (av 1 eI (ab.set (0+a6.toNat) (q1.tmod (1000000000:Int))))] [(1,ii),(5,fU ((ab.set (0+a6.toNat) (q1.tmod (1000000000:Int))).length)),(6,ii),(7,ii),(8,ii),(26,ii),(27,ii),(28,ii),(33,ii),(34,ii),(35,ii)]] (.bi h1 o.1 (cW eI o.2) (b2 eI au) aA.1 aA.2 (b2 eI bm) (by decide:(1000000000:Int)≠0) (.gu aA.1 aA.2 (hQ eI bn) (hJ 1) (by decide:(1000000000:Int)≠0) (cZ 1 .live (gM (cR eI ab) (0+a6.toNat) (q1.tmod (1000000000:Int)))) (aI 1 .live aN (ab.set (0+a6.toNat) (q1.tmod (1000000000:Int)))) (hg (dQ ab) (0+a6.toNat) (q1.tmod (1000000000:Int)))))))
  (fun h1 =>
  .ret (bg [(J 1),.aa false,.aP [0] [.pure] (a8 [1,5,6,8,26,27,28])] (.aE h1 (aI 1 .live aN ab))))
theorem XD {aF:List Int}{ad di:Int}{du:List Int}{dv hq cC dw:Int}{ab:List Int}{r} (h:J7 aF ad di du dv hq cC dw ab=some r):dM a5 72 0 104 [1,1,1,0,1,0,0,1,1,0,0,1,1,0,1,0,0] (Iw aF ad di du dv hq) (I3 aF ad di du dv hq) (cC,dw,ab) r:=dO (fun _=>V8) h
def Ix (aF du:List Int)(dv:Int):(Int×(List Int))→S:=fun (fG,ab)=>dr [(1,.isl 1 (aF.map eI)),(5,.bf 0 0 0 ab.length),(26,.isl 1 (du.map eI)),(27,.n .i64 dv),(28,.n .i64 fG)] [(av 1 eI ab)]
def I4 (aF du:List Int)(dv:Int):(List Int)→dy
 | a=>⟨some 0,[(5,.bf 0 0 0 a.length)],[(av 1 eI a)]⟩
def zO (aF du:List Int)(dv fG:Int)(ab:List Int):Option ((Int×(List Int))⊕((List Int))) :=
 if (decide (fG<dv))=true then
  if 0≤fG∧fG<du.length then
  du[fG.toNat]? >>= fun aB =>
  J7 aF fG aB du dv (len_ eI aF) 0 0 ab >>= fun ax =>
  if 0≤(R (fG+(len_ eI aF)))∧(R (fG+(len_ eI aF)))<(ax.2.length:Nat) then
  if (0+(R (fG+(len_ eI aF))).toNat)<ax.2.length then
  some (.inl (R (fG+(1:Int)),ax.2.set (0+(R (fG+(len_ eI aF))).toNat) ax.1))
  else none
  else none
  else none
 else
  some (.inr ab)
def z7 (aF du:List Int)(dv fG:Int)(ab:List Int):Option ((List Int)):=iter (fun w:Int×(List Int)=>zO aF du dv w.1 w.2) (fG,ab)
theorem V9 {aF du:List Int}{dv fG:Int}{ab:List Int}:bB (zO aF du dv fG ab) (dL a5 72 0 104 [1,1,1,0,1,0,0] (Ix aF du dv (fG,ab)) (Ix aF du dv) (I4 aF du dv)):=by
 unfold zO
 exact .ite (fun h1 =>
  .aY fun o =>
  .ar fun aB au =>
  .ar fun ax a0 =>
  .aY fun bm =>
  .aY fun bn =>
  .ret (let q1:=R (fG+(len_ eI aF));bg [(J 1),.aa true,.aw (bo 2 (.b5 (eI aB)) 2),(J 1),(J 3),.aP [0] [.pure] (a8 [1,5,6,7,8,26,27,28,33,34,35]),(I3 aF fG aB du dv (len_ eI aF) ax).e6,.aw (ah 7 (ai .fX [])),(J 2),.aP [0] [.cE (av 1 eI (ax.2.set (0+q1.toNat) ax.1))] [(1,ii),(5,fU ((ax.2.set (0+q1.toNat) ax.1).length)),(26,ii),(27,ii),(28,ii)]] (.bi h1 o.1 (cW eI o.2) (b2 eI au) (aI 1 .live aN ab) (XD a0) bm.1 bm.2 (.dg (hQ eI bn) (hJ 1) (cZ 1 .live (gM (cR eI ax.2) (0+q1.toNat) ax.1)) (aI 1 .live aN (ax.2.set (0+q1.toNat) ax.1)) (hg (dQ ax.2) (0+q1.toNat) ax.1)))))
  (fun h1 =>
  .ret (bg [(J 1),.aa false,.aP [0] [.pure] (a8 [5])] (.aE h1 (aI 1 .live aN ab))))
theorem XE {aF du:List Int}{dv fG:Int}{ab:List Int}{r} (h:z7 aF du dv fG ab=some r):dM a5 72 0 104 [1,1,1,0,1,0,0] (Ix aF du dv) (I4 aF du dv) (fG,ab) r:=dO (fun _=>V9) h
def hY (ag aF:List Int):Option (List Int) :=
 if ((len_ eI ag) == (0:Int))=true then
  some ([]:List Int)
 else
  if ((len_ eI aF) == (0:Int))=true then
   some ([]:List Int)
  else
   if 0≤(R ((len_ eI ag)+(len_ eI aF)))∧(8:Int)*(R ((len_ eI ag)+(len_ eI aF)))≤281474976710656∧(R ((len_ eI ag)+(len_ eI aF)))<9223372036854775808 then
   z7 aF ag (len_ eI ag) 0 (List.replicate (R ((len_ eI ag)+(len_ eI aF))).toNat 0:List Int) >>= fun ba =>
   p6 ba >>= fun cl =>
   some cl
   else none
theorem pe {ag aF:List Int}:bB (hY ag aF) (fun r=>Con a5 104 [.isl 1 (ag.map eI),.isl 1 (aF.map eI)] [] (.isl 1 (r.map eI)) []):=by
 unfold hY
 exact .ite (fun h1 =>
  .ret (bz [(J 1),.aw (ah 4 (cw 3 (ai (.aa true) []))),.aa true,(J 1)] (.dg h1 h1 h1 h1 cI) (.bs (.c9 (.iF 1)))))
  (fun h1 =>
  (let t1:List b3:=[(J 1),.aw (ah 7 (ai (.aa false) []))];
  .ite (fun o =>
  .ret (bz (t1.append [.aa true,(J 1)]) (.dg h1 h1 h1 h1 o) (.bs (.c9 (.iF 1)))))
  (fun o =>
  .aY fun af =>
  .ar fun ba aA =>
  .ar fun cl bm =>
  .ret (let q1:=R ((len_ eI ag)+(len_ eI aF));let a6:=(List.replicate q1.toNat 0:List Int);bz (t1.append [.aa false,(J 7),(J 3),.aP [14] [.cE (av 1 eI a6)] [(1,ii),(5,fU (a6.length)),(26,ii),(27,ii),(28,ii)],(I4 aF ag (len_ eI ag) ba).e6,.i9 0,.aw (bo 1 (.call {ac:=[.bs (.c9 (.dF (ba.map eI)))],r:= .isl 1 (cl.map eI),er:=false,eN:=[0]}) 1)]) (.bi h1 h1 h1 h1 o af.1 (Int.le_refl q1) af.2.1 (.bi af.2.2 (cZ 1 .live (lU eI q1.toNat 0)) (aI 1 .live aN a6) (me q1.toNat (0:Int)) (XE aA) (fv eI ba) (fb eI ba) (dd aN ba) (.e1 (r6 cl bm))))))))
def HA (b1 aF:List Int):(Int×Int)→S:=fun (mj,mC)=>dr [(0,.isl 1 (b1.map eI)),(1,.isl 1 (aF.map eI)),(7,.n .i64 mj),(8,.n .i64 mC)] []
def NV (b1 aF:List Int):Int→dy
 | a=>⟨some 0,[(7,.n .i64 a)],[]⟩
def ul (b1 aF:List Int)(mj mC:Int):Option ((Int×Int)⊕(Int)) :=
 if (decide (mj<mC))=true then
  rC (R ((R ((R (mj+mC))+(1:Int))).tdiv (2:Int))) >>= fun bT =>
  hY aF bT >>= fun ba =>
  p8 ba b1 >>= fun cl =>
  if (decide (cl≤(0:Int)))=true then
   some (.inl (R ((R ((R (mj+mC))+(1:Int))).tdiv (2:Int)),mC))
  else
   some (.inl (mj,R ((R ((R ((R (mj+mC))+(1:Int))).tdiv (2:Int)))-(1:Int))))
 else
  some (.inr mj)
def Dx (b1 aF:List Int)(mj mC:Int):Option (Int):=iter (fun w:Int×Int=>ul b1 aF w.1 w.2) (mj,mC)
theorem Vt {b1 aF:List Int}{mj mC:Int}:bB (ul b1 aF mj mC) (dL a5 63 0 133 [1,1,1,1,1,1,0,0,0] (HA b1 aF (mj,mC)) (HA b1 aF) (NV b1 aF)):=by
 unfold ul
 exact .ite (fun h1 =>
  .ar fun bT af =>
  .ar fun ba aA =>
  .ar fun cl bm =>
  (let t1:List b3:=[(J 3),.aa true,(J 6),.aw (ah 2 (ai (bw 1 (.isl 1 (bT.map eI)) false) (ai (bw 2 (.isl 1 (ba.map eI)) false) (bo 1 (bw 2 (.n .i64 cl) true) 1))))];
  have aT:=((.d6 h1 (by decide:(2:Int)≠0) (xX bT af) (pe ba aA) (xV cl bm) (bX.n .i64 cl)):cA _);
  .ite (fun bn =>
  .ret (bg (t1.append [.aa true,(J 2),.aP [] [] (a8 [0,1,7,8])]) (aT.aH (.e1 bn))))
  (fun bn =>
  .ret (bg (t1.append [.aa false,(J 3),.aP [] [] (a8 [0,1,7,8])]) (aT.aH (.e1 bn))))))
  (fun h1 =>
  .ret (bg [(J 3),.aa false,.aP [] [] (a8 [7])] (.e1 h1)))
theorem N4 {b1 aF:List Int}{mj mC:Int}{r} (h:Dx b1 aF mj mC=some r):dM a5 63 0 133 [1,1,1,1,1,1,0,0,0] (HA b1 aF) (NV b1 aF) (mj,mC) r:=dO (fun _=>Vt) h
def Ag (b1 aF:List Int):Option Int :=
 if 0≤(R ((len_ eI aF)-(1:Int)))∧(R ((len_ eI aF)-(1:Int)))<b1.length then
 b1[(R ((len_ eI aF)-(1:Int))).toNat]? >>= fun eb =>
 if (decide ((len_ eI aF)<(len_ eI b1)))=true then
  if 0≤(len_ eI aF)∧(len_ eI aF)<b1.length then
  b1[(len_ eI aF).toNat]? >>= fun cu =>
  if 0≤(R ((len_ eI aF)-(1:Int)))∧(R ((len_ eI aF)-(1:Int)))<aF.length then
  aF[(R ((len_ eI aF)-(1:Int))).toNat]? >>= fun dl =>
  if (R (dl+(1:Int)))≠0 then
  if dl≠0 then
  Dx b1 aF (R ((R (eb+(R (cu*(1000000000:Int))))).tdiv (R (dl+(1:Int))))) (if (R ((R (eb+(R (cu*(1000000000:Int))))).tdiv dl))<(999999999:Int) then (R ((R (eb+(R (cu*(1000000000:Int))))).tdiv dl)) else (999999999:Int)) >>= fun eK =>
  some eK
  else none
  else none
  else none
  else none
 else
  if 0≤(R ((len_ eI aF)-(1:Int)))∧(R ((len_ eI aF)-(1:Int)))<aF.length then
  aF[(R ((len_ eI aF)-(1:Int))).toNat]? >>= fun cu =>
  if (R (cu+(1:Int)))≠0 then
  if cu≠0 then
  Dx b1 aF (R (eb.tdiv (R (cu+(1:Int))))) (if (R (eb.tdiv cu))<(999999999:Int) then (R (eb.tdiv cu)) else (999999999:Int)) >>= fun et =>
  some et
  else none
  else none
  else none
 else none
theorem XW {b1 aF:List Int}:bB (Ag b1 aF) (fun r=>Con a5 133 [.isl 1 (b1.map eI),.isl 1 (aF.map eI)] [] (.n .i64 r) []):=by
 unfold Ag
 exact .aY fun h1 =>
  .ar fun eb af =>
  (let t1:List b3:=[(J 1),(J 3),.aw (bo 4 (.b5 (eI eb)) 1),(J 4)];
  have aT:=((.bP h1.1 (cW eI h1.2) (b2 eI af)):cA _);
  .ite (fun au =>
  .aY fun aA =>
  .ar fun cu bm =>
  .aY fun bn =>
  .ar fun dl cQ =>
  .aY fun fm =>
  .aY fun eH =>
  .ar fun eK eJ =>
  .ret (bz (t1.append [.aa true,.aw (bo 4 (.b5 (eI cu)) 3),.aw (bo 5 (.b5 (eI dl)) 3),.aw (bo 5 (.b5 (eI dl)) 3),.aP [] [] (a8 [0,1,7,8]),.sub (.exit 0) [(7,.n .i64 eK)] [],(J 2)]) (aT.aH (.bi au aA.1 (cW eI aA.2) (b2 eI bm) bn.1 (cW eI bn.2) (b2 eI cQ) fm (.dg bn.1 (cW eI bn.2) (b2 eI cQ) eH (N4 eJ))))))
  (fun au =>
  .aY fun aA =>
  .ar fun cu bm =>
  .aY fun bn =>
  .aY fun cx =>
  .ar fun et fm =>
  .ret (bz (t1.append [.aa false,.aw (bo 5 (.b5 (eI cu)) 3),.aw (bo 5 (.b5 (eI cu)) 3),.aP [] [] (a8 [0,1,7,8]),.sub (.exit 0) [(7,.n .i64 et)] [],(J 2)]) (aT.aH (.bi au aA.1 (cW eI aA.2) (b2 eI bm) bn aA.1 (cW eI aA.2) (b2 eI bm) (.aE cx (N4 fm)))))))
def Iy (ag aF:List Int):((List Int)×Int×(List Int))→S:=fun (fT,ad,ab)=>dr [(0,.isl 1 (ag.map eI)),(1,.isl 1 (aF.map eI)),(8,.bf 0 0 0 ab.length),(9,.isl 1 (fT.map eI)),(10,.n .i64 ad)] [(av 1 eI ab)]
def I5 (ag aF:List Int):((List Int)×(List Int))→dy
 | a=>⟨some 0,[(8,.bf 0 0 0 a.2.length),(9,.isl 1 (a.1.map eI))],[(av 1 eI a.2)]⟩
def xB (ag aF fT:List Int)(ad:Int)(ab:List Int):Option (((List Int)×Int×(List Int))⊕((List Int)×(List Int))) :=
 if (decide ((0:Int)≤ad))=true then
  if 0≤ad∧ad<ag.length then
  ag[ad.toNat]? >>= fun aB =>
  if (([aB]:List Int)++fT).length*8≤140737488355328 then
  p6 (([aB]:List Int)++fT) >>= fun cl =>
  p8 cl aF >>= fun c2 =>
  if (decide (c2<(0:Int)))=true then
   some (.inl (cl,R (ad-(1:Int)),ab))
  else
   Ag cl aF >>= fun dh =>
   if 0≤ad∧ad<(ab.length:Nat) then
   if (0+ad.toNat)<ab.length then
   rC dh >>= fun gK =>
   hY aF gK >>= fun gb =>
   sd cl gb >>= fun o6 =>
   some (.inl (o6,R (ad-(1:Int)),ab.set (0+ad.toNat) dh))
   else none
   else none
  else none
  else none
 else
  some (.inr (fT,ab))
def J8 (ag aF fT:List Int)(ad:Int)(ab:List Int):Option ((List Int)×(List Int)):=iter (fun w:(List Int)×Int×(List Int)=>xB ag aF w.1 w.2.1 w.2.2) (fT,ad,ab)
theorem Wa {ag aF fT:List Int}{ad:Int}{ab:List Int}:bB (xB ag aF fT ad ab) (dL a5 65 0 121 [1,1,1,1,0,1,0,0] (Iy ag aF (fT,ad,ab)) (Iy ag aF) (I5 ag aF)):=by
 unfold xB
 exact .ite (fun h1 =>
  .aY fun o =>
  .ar fun aB au =>
  .aY fun aA =>
  .ar fun cl bm =>
  .ar fun c2 cx =>
  (let q1:=(([aB]:List Int)++fT);let t1:List b3:=[(J 2),.aa true,.aw (ah 3 (ai (.b5 (eI aB)) (ah 2 (ai (.aH (q1.length)) (ai (.rn 9 (.call {ac:=[.bs (.c9 (.dF (q1.map eI)))],r:= .isl 1 (cl.map eI),er:=false,eN:=[9]})) (ah 1 [])))))),.aw (bo 2 (bw 2 (.n .i64 c2) true) 1)];
  have aT:=((.bi h1 o.1 (cW eI o.2) (b2 eI au) (afE eI aB) (lV (show 1=([aB]:List Int).length from rfl) (cR eI fT):q1.length=1+(fT.map eI).length) aA (k4 (iv (show [[.n .i64 aB]]=(([aB]:List Int)).map eI from rfl) (show 1=([aB]:List Int).length from rfl) (cR eI fT)) (dQ q1)) (.dg (lj (iv (show [[.n .i64 aB]]=(([aB]:List Int)).map eI from rfl) (show 1=([aB]:List Int).length from rfl) (cR eI fT)) (dQ q1)) (dd aN q1) (r6 cl bm) (xV c2 cx) (bX.n .i64 c2))):cA _);
  .ite (fun cQ =>
  .ret (bg (t1.append [.aa true,(J 3),.aP [0] [.pure] (a8 [0,1,8,9,10])]) (aT.aH (.aE cQ (aI 1 .live aN ab)))))
  (fun cQ =>
  .ar fun dh eH =>
  .aY fun eS =>
  .aY fun eJ =>
  .ar fun gK ha =>
  .ar fun gb hy =>
  .ar fun o6 ft =>
  .ret (bg (t1.append [.aa false,.aw (bo 2 (bw 2 (.n .i64 dh) true) 1),.aw (ah 4 (ai .fX [])),.aw (ah 3 (ai (bw 1 (.isl 1 (gK.map eI)) false) (ai (bw 2 (.isl 1 (gb.map eI)) false) (ai (bw 2 (.isl 1 (o6.map eI)) false) (ah 1 []))))),(J 3),.aP [0] [.cE (av 1 eI (ab.set (0+ad.toNat) dh))] [(0,ii),(1,ii),(8,fU ((ab.set (0+ad.toNat) dh).length)),(9,ii),(10,ii)]]) (aT.aH (.bi cQ (XW dh eH) (bX.n .i64 dh) eS.1 eS.2 (hQ eI eJ) (hJ 1) (xX gK ha) (.dg (pe gb hy) (J5 o6 ft) (cZ 1 .live (gM (cR eI ab) (0+ad.toNat) dh)) (aI 1 .live aN (ab.set (0+ad.toNat) dh)) (hg (dQ ab) (0+ad.toNat) dh))))))))
  (fun h1 =>
  .ret (bg [(J 2),.aa false,.aP [0] [.pure] (a8 [8,9])] (.aE h1 (aI 1 .live aN ab))))
theorem XF {ag aF fT:List Int}{ad:Int}{ab:List Int}{r} (h:J8 ag aF fT ad ab=some r):dM a5 65 0 121 [1,1,1,1,0,1,0,0] (Iy ag aF) (I5 ag aF) (fT,ad,ab) r:=dO (fun _=>Wa) h
def th (ag aF:List Int):Option ((List Int)×(List Int)) :=
 if ((len_ eI aF) == (1:Int))=true then
  if 0≤(0:Int)∧(0:Int)<aF.length then
  aF[0]? >>= fun aB =>
  Af ag aB >>= fun ax =>
  rC ax.2 >>= fun bQ =>
  some (ax.1,bQ)
  else none
 else
  if 0≤(len_ eI ag)∧(8:Int)*(len_ eI ag)≤281474976710656∧(len_ eI ag)<9223372036854775808 then
  J8 ag aF ([]:List Int) (R ((len_ eI ag)-(1:Int))) (List.replicate (len_ eI ag).toNat 0:List Int) >>= fun bl =>
  p6 bl.2 >>= fun ax =>
  some (ax,bl.1)
  else none
theorem DM {ag aF:List Int}:bB (th ag aF) (fun r=>Con a5 121 [.isl 1 (ag.map eI),.isl 1 (aF.map eI)] [] (.ea [.isl 1 (r.1.map eI),.isl 1 (r.2.map eI)]) []):=by
 unfold th
 exact .ite (fun h1 =>
  .aY fun o =>
  .ar fun aB au =>
  .ar fun ax a0 =>
  .ar fun bQ bn =>
  .ret (bz [(J 2),(J 3),.aa true,.aw (ah 3 (ai (.b5 (eI aB)) (ai (bw 2 (.ea [.isl 1 (ax.1.map eI),.n .i64 ax.2]) false) (ah 5 [])))),.aw (bo 2 (bw 1 (.isl 1 (bQ.map eI)) false) 2)] (.d6 h1 o.1 (cW eI o.2) (b2 eI au) (XV ax a0) (xX bQ bn))))
  (fun h1 =>
  .aY fun o =>
  .ar fun bl au =>
  .ar fun ax a0 =>
  .ret (let q1:=(List.replicate (len_ eI ag).toNat 0:List Int);bz [(J 2),(J 3),.aa false,(J 4),(J 2),(J 4),.aP [7] [.cE (av 1 eI q1)] [(0,ii),(1,ii),(8,fU (q1.length)),(9,.bs (.c9 (.dF (([]:List Int).map eI)))),(10,ii)],(I5 ag aF bl).e6,.i9 0,.aw (bo 1 (.call {ac:=[.bs (.c9 (.dF (bl.2.map eI)))],r:= .isl 1 (ax.map eI),er:=false,eN:=[0]}) 3)] (.bi h1 o.1 (Int.le_refl (len_ eI ag)) o.2.1 o.2.2 (cZ 1 .live (lU eI (len_ eI ag).toNat 0)) (aI 1 .live aN q1) (me (len_ eI ag).toNat (0:Int)) (.gu (k4 (show []=(([]:List Int)).map eI from rfl) (fc Int)) (lj (show []=(([]:List Int)).map eI from rfl) (fc Int)) (dd aN ([]:List Int)) (XF au) (fv eI bl.2) (fb eI bl.2) (dd aN bl.2) (r6 ax a0)))))
def Iz:((List Int)×(List Int))→S:=fun (di,eE)=>dr [(5,.isl 1 (di.map eI)),(6,.isl 1 (eE.map eI))] []
def Dr:(((List Int))⊕((List Int)))→dy
 | .inl a=>⟨some 0,[(5,.isl 1 (a.map eI))],[]⟩
 | .inr a=>⟨none,[(4,.isl 1 (a.map eI))],[]⟩
def uu (di eE:List Int):Option (((List Int)×(List Int))⊕(((List Int))⊕((List Int)))) :=
 if (decide ((0:Int)<(len_ eI eE)))=true then
  if (decide ((len_ eI di)<(3:Int)))=true then
   if (decide ((len_ eI eE)<(3:Int)))=true then
    xY di >>= fun ba =>
    xY eE >>= fun cl =>
    Ae ba.1 cl.1 >>= fun c2 =>
    some (.inr (.inr c2))
   else
    th di eE >>= fun ba =>
    some (.inl (eE,ba.2))
  else
   th di eE >>= fun bl =>
   some (.inl (eE,bl.2))
 else
  some (.inr (.inl di))
def J9 (di eE:List Int):Option (((List Int))⊕((List Int))):=iter (fun w:(List Int)×(List Int)=>uu w.1 w.2) (di,eE)
theorem Wb {di eE:List Int}:bB (uu di eE) (dL a5 52 0 110 [1,1,1,0,0,0] (Iz (di,eE)) (Iz) (Dr)):=by
 unfold uu
 exact .ite (fun h1 =>
  .ite (fun o =>
  (let t1:List b3:=[(J 3),.aa true,.aw (ah 7 (ai (.aa true) []))];
  .ite (fun af =>
  .ar fun ba aA =>
  .ar fun cl bm =>
  .ar fun c2 cx =>
  .ret (bg (t1.append [.aa true,.aw (bo 1 (bw 1 (.ea [.n .i64 ba.1,.b ba.2]) true) 5),.aw (bo 1 (bw 1 (.ea [.n .i64 cl.1,.b cl.2]) true) 5),.aw (bo 2 (bw 2 (.isl 1 (c2.map eI)) false) 1),.aP [] [] (a8 [4])]) (.bi h1 o o o o af (Oz ba aA) (EE (mA (bX.n .i64 ba.1) (mA (bX.b ba.2) rJ))) (.bP (Oz cl bm) (EE (mA (bX.n .i64 cl.1) (mA (bX.b cl.2) rJ))) (XU c2 cx)))))
  (fun af =>
  .ar fun ba aA =>
  .ret (bg (t1.append [.aa false,.aw (bo 2 (bw 2 (.ea [.isl 1 (ba.1.map eI),.isl 1 (ba.2.map eI)]) false) 5),(J 2),(J 2),.aP [] [] (a8 [5,6])]) (.eB h1 o o o o af (DM ba aA))))))
  (fun o =>
  .ar fun bl au =>
  .ret (bg [(J 3),.aa true,.aw (ah 4 (cw 3 (ai (.aa false) []))),.aa false,.aw (bo 2 (bw 2 (.ea [.isl 1 (bl.1.map eI),.isl 1 (bl.2.map eI)]) false) 5),(J 2),(J 2),.aP [] [] (a8 [5,6])] (.eB h1 o o o o cU (DM bl au)))))
  (fun h1 =>
  .ret (bg [(J 3),.aa false,.aP [] [] (a8 [5])] (.e1 h1)))
theorem Ov {di eE:List Int}{r} (h:J9 di eE=some r):dM a5 52 0 110 [1,1,1,0,0,0] (Iz) (Dr) (di,eE) r:=dO (fun _=>Wb) h
def x8 (ag aF:List Int):Option (List Int) :=
 if (([]:List Int)++ag).length*8≤140737488355328 then
 if (([]:List Int)++aF).length*8≤140737488355328 then
 J9 (([]:List Int)++ag) (([]:List Int)++aF) >>= fun bl =>
 match bl with
 | .inl fu=>(some fu)
 | .inr fu=>(some fu)
 else none
 else none
theorem OP {ag aF:List Int}:bB (x8 ag aF) (fun r=>Con a5 110 [.isl 1 (ag.map eI),.isl 1 (aF.map eI)] [] (.isl 1 (r.map eI)) []):=by
 unfold x8
 exact .aY fun h1 =>
  .aY fun o =>
  .ar fun bl au =>
  (let q1:=(([]:List Int)++ag);let a6:=(([]:List Int)++aF);let t1:List b3:=[(J 1),.aw (bo 2 (.aH (q1.length)) 1),.aw (bo 2 (.aH (a6.length)) 1),.aP [] [] [(5,.bs (.c9 (.dF (q1.map eI)))),(6,.bs (.c9 (.dF (a6.map eI))))]];
  have aT:=((.bi (nn (show []=(([]:List Int)).map eI from rfl) (fc Int)) (lV (fc Int) (cR eI ag):q1.length=0+(ag.map eI).length) h1 (nn (show []=(([]:List Int)).map eI from rfl) (fc Int)) (lV (fc Int) (cR eI aF):a6.length=0+(aF.map eI).length) o (k4 (iv (show []=(([]:List Int)).map eI from rfl) (fc Int) (cR eI ag)) (dQ q1)) (lj (iv (show []=(([]:List Int)).map eI from rfl) (fc Int) (cR eI ag)) (dQ q1)) (.c3 (dd aN q1) (k4 (iv (show []=(([]:List Int)).map eI from rfl) (fc Int) (cR eI aF)) (dQ a6)) (lj (iv (show []=(([]:List Int)).map eI from rfl) (fc Int) (cR eI aF)) (dQ a6)) (dd aN a6))):cA _);
  (by
  rcases bl with fu|fu
  ·exact (.ret (bz (t1.append [(Dr (.inl fu)).e6,(J 2)]) (aT.aH (.e1 (Ov au)))))
  ·exact (.ret (bz (t1.append [(Dr (.inr fu)).e6]) (aT.aH (.e1 (Ov au)))))))
def od (om:Bool)(ag aF:List Int):Option aQ :=
 p6 ag >>= fun r1 =>
 p6 aF >>= fun bl =>
 if ((len_ eI bl) == (0:Int))=true then
  some (⟨(⟨false,([]:List Int)⟩:bt),([]:List Int)⟩:aQ)
 else
  qH bl >>= fun cl =>
  if cl=true then
   if (decide ((24:Int)<(len_ eI r1)))=true then
    some (⟨(⟨false,([]:List Int)⟩:bt),([]:List Int)⟩:aQ)
   else
    if (decide ((24:Int)<(len_ eI bl)))=true then
     some (⟨(⟨false,([]:List Int)⟩:bt),([]:List Int)⟩:aQ)
    else
     h5 om r1 >>= fun dh =>
     if (([]:List Int)++bl).length*8≤140737488355328 then
     some (⟨dh,([]:List Int)++bl⟩:aQ)
     else none
  else
   x8 r1 bl >>= fun cg =>
   qH cg >>= fun dh =>
   if dh=true then
    if (decide ((24:Int)<(len_ eI r1)))=true then
     some (⟨(⟨false,([]:List Int)⟩:bt),([]:List Int)⟩:aQ)
    else
     if (decide ((24:Int)<(len_ eI bl)))=true then
      some (⟨(⟨false,([]:List Int)⟩:bt),([]:List Int)⟩:aQ)
     else
      h5 om r1 >>= fun ek =>
      if (([]:List Int)++bl).length*8≤140737488355328 then
      some (⟨ek,([]:List Int)++bl⟩:aQ)
      else none
   else
    th r1 cg >>= fun fo =>
    th bl cg >>= fun ek =>
    if (decide ((24:Int)<(len_ eI fo.1)))=true then
     some (⟨(⟨false,([]:List Int)⟩:bt),([]:List Int)⟩:aQ)
    else
     if (decide ((24:Int)<(len_ eI ek.1)))=true then
      some (⟨(⟨false,([]:List Int)⟩:bt),([]:List Int)⟩:aQ)
     else
      h5 om fo.1 >>= fun iq =>
      if (([]:List Int)++ek.1).length*8≤140737488355328 then
      some (⟨iq,([]:List Int)++ek.1⟩:aQ)
      else none
theorem z8 {om:Bool}{ag aF:List Int}:bB (od om ag aF) (fun r=>Con a5 102 [.b om,.isl 1 (ag.map eI),.isl 1 (aF.map eI)] [] (.agg (aR r)) []):=by
 unfold od
 exact .ar fun r1 o =>
  .ar fun bl au =>
  (let t1:List b3:=[(J 1),.aw (bo 1 (bw 1 (.isl 1 (r1.map eI)) false) 1),.aw (bo 1 (bw 1 (.isl 1 (bl.map eI)) false) 1),(J 3)];
  have aT:=((.aE (r6 r1 o) (r6 bl au)):cA _);
  .ite (fun aA =>
  .ret (bz (t1.append [.aa true,(J 2)]) (aT.aH (.e1 aA)) (.bs (.agg [.id,.iF 1,.iF 1]))))
  (fun aA =>
  .ar fun cl bm =>
  (let t3:List b3:=t1.append [.aa false,.aw (bo 1 (bw 1 (.b cl) true) 1)];
  have e3:=aT.aH (.bP aA (z6 cl bm) (bX.b cl));
  .ite (fun bn =>
  .ite (fun cx =>
  .ret (bz (t3.append [.aa false,.aw (ah 4 (cw 3 (ai (.aa true) []))),.aa true,(J 2)]) (e3.aH (.d6 (cV bn) cx cx cx cx cI)) (.bs (.agg [.id,.iF 1,.iF 1]))))
  (fun cx =>
  (let t5:List b3:=t3.append [.aa false,.aw (ah 7 (ai (.aa false) []))];
  .ite (fun cQ =>
  .ret (bz (t5.append [.aa true,(J 2)]) (e3.aH (.d6 (cV bn) cx cx cx cx cQ)) (.bs (.agg [.id,.iF 1,.iF 1]))))
  (fun cQ =>
  .ar fun dh eH =>
  .aY fun eS =>
  .ret (let q1:=(([]:List Int)++bl);bz (t5.append [.aa false,.aw (ah 2 (ai (bw 2 (.agg (aZ dh)) false) (bo 2 (.aH (q1.length)) 2)))]) (e3.aH (.bi (cV bn) cx cx cx cx cQ (oc dh eH) (nn (show []=(([]:List Int)).map eI from rfl) (fc Int)) (.dg (lV (fc Int) (cR eI bl):q1.length=0+(bl.map eI).length) eS (k4 (iv (show []=(([]:List Int)).map eI from rfl) (fc Int) (cR eI bl)) (dQ q1)) (lj (iv (show []=(([]:List Int)).map eI from rfl) (fc Int) (cR eI bl)) (dQ q1)) (dd aN q1)))) (.bs (.agg [.id,.id,.dF (q1.map eI)])))))))
  (fun bn =>
  .ar fun cg cQ =>
  .ar fun dh eH =>
  (let t5:List b3:=t3.append [.aa true,.aw (bo 2 (bw 2 (.isl 1 (cg.map eI)) false) 1),.aw (bo 1 (bw 1 (.b dh) true) 1)];
  have kj:=e3.aH (.c3 (cT bn) (OP cg cQ) (z6 dh eH) (bX.b dh));
  .ite (fun eS =>
  .ite (fun eJ =>
  .ret (bz (t5.append [.aa false,.aw (ah 4 (cw 3 (ai (.aa true) []))),.aa true,(J 2)]) (kj.aH (.d6 (cV eS) eJ eJ eJ eJ cI)) (.bs (.agg [.id,.iF 1,.iF 1]))))
  (fun eJ =>
  (let t7:List b3:=t5.append [.aa false,.aw (ah 7 (ai (.aa false) []))];
  have lR:=kj.aH (.dg (cV eS) eJ eJ eJ eJ);
  .ite (fun fJ =>
  .ret (bz (t7.append [.aa true,(J 2)]) (lR.aH (.e1 fJ)) (.bs (.agg [.id,.iF 1,.iF 1]))))
  (fun fJ =>
  .ar fun ek hN =>
  .aY fun hy =>
  .ret (let a6:=(([]:List Int)++bl);bz (t7.append [.aa false,.aw (ah 2 (ai (bw 2 (.agg (aZ ek)) false) (bo 2 (.aH (a6.length)) 2)))]) (lR.aH (.gu fJ (oc ek hN) (nn (show []=(([]:List Int)).map eI from rfl) (fc Int)) (lV (fc Int) (cR eI bl):a6.length=0+(bl.map eI).length) hy (k4 (iv (show []=(([]:List Int)).map eI from rfl) (fc Int) (cR eI bl)) (dQ a6)) (lj (iv (show []=(([]:List Int)).map eI from rfl) (fc Int) (cR eI bl)) (dQ a6)) (dd aN a6))) (.bs (.agg [.id,.id,.dF (a6.map eI)])))))))
  (fun eS =>
  .ar fun fo fJ =>
  .ar fun ek hN =>
  (let t7:List b3:=t5.append [.aa true,.aw (bo 2 (bw 2 (.ea [.isl 1 (fo.1.map eI),.isl 1 (fo.2.map eI)]) false) 4),.aw (bo 2 (bw 2 (.ea [.isl 1 (ek.1.map eI),.isl 1 (ek.2.map eI)]) false) 4)];
  have lR:=kj.aH (.bP (cT eS) (DM fo fJ) (DM ek hN));
  .ite (fun hy =>
  .ret (bz (t7.append [.aw (ah 4 (cw 3 (ai (.aa true) []))),.aa true,(J 2)]) (lR.aH (.dg hy hy hy hy cI)) (.bs (.agg [.id,.iF 1,.iF 1]))))
  (fun hy =>
  (let t9:List b3:=t7.append [.aw (ah 7 (ai (.aa false) []))];
  .ite (fun gq =>
  .ret (bz (t9.append [.aa true,(J 2)]) (lR.aH (.dg hy hy hy hy gq)) (.bs (.agg [.id,.iF 1,.iF 1]))))
  (fun gq =>
  .ar fun iq gJ =>
  .aY fun ib =>
  .ret (let bY:=(([]:List Int)++ek.1);let cz:=cR eI ek.1;bz (t9.append [.aa false,.aw (ah 2 (ai (bw 2 (.agg (aZ iq)) false) (bo 2 (.aH (bY.length)) 2)))]) (lR.aH (.bi hy hy hy hy gq (oc iq gJ) (nn (show []=(([]:List Int)).map eI from rfl) (fc Int)) (lV (fc Int) cz:bY.length=0+(ek.1.map eI).length) (.c3 ib (k4 (iv (show []=(([]:List Int)).map eI from rfl) (fc Int) cz) (dQ bY)) (lj (iv (show []=(([]:List Int)).map eI from rfl) (fc Int) cz) (dQ bY)) (dd aN bY)))) (.bs (.agg [.id,.id,.dF (bY.map eI)])))))))))))))
def rB (b1 aM:aQ):Option aQ :=
 qH b1.hM >>= fun r1 =>
 if r1=true then
  qH aM.hM >>= fun ba =>
  if ba=true then
   p9 b1.fA aM.fA >>= fun bQ =>
   od bQ.cS bQ.cJ ([1]:List Int) >>= fun cg =>
   some cg
  else
   hY b1.fA.cJ aM.hM >>= fun bQ =>
   h5 b1.fA.cS bQ >>= fun cg =>
   hY aM.fA.cJ b1.hM >>= fun dh =>
   h5 aM.fA.cS dh >>= fun eK =>
   p9 cg eK >>= fun gK =>
   hY b1.hM aM.hM >>= fun gb =>
   od gK.cS gK.cJ gb >>= fun o6 =>
   some o6
 else
  hY b1.fA.cJ aM.hM >>= fun ba =>
  h5 b1.fA.cS ba >>= fun cl =>
  hY aM.fA.cJ b1.hM >>= fun c2 =>
  h5 aM.fA.cS c2 >>= fun et =>
  p9 cl et >>= fun el =>
  hY b1.hM aM.hM >>= fun fo =>
  od el.cS el.cJ fo >>= fun ek =>
  some ek
theorem DN {b1 aM:aQ}:bB (rB b1 aM) (fun r=>Con a5 84 [.agg (aR b1),.agg (aR aM)] [] (.agg (aR r)) []):=by
 unfold rB
 exact .ar fun r1 o =>
  (have b8:=((.aE (z6 r1 o) (bX.b r1)):cA _);
  .ite (fun af =>
  .ar fun ba aA =>
  (let t2:List b3:=[(J 3),.aw (ah 2 (ai (bw 1 (.b r1) true) (ah 3 (ai (bw 1 (.b ba) true) (ai (.aa true) [])))))];
  have fO:=b8.aH (.d6 af af af (z6 ba aA) (bX.b ba) af);
  .ite (fun a0 =>
  .ar fun bQ bn =>
  .ar fun cg cQ =>
  .ret (bz (t2.append [.aa true,.aw (bo 4 (bw 2 (.agg (aZ bQ)) false) 2),.aw (bo 5 (.rn 22 (.call {ac:=[ii,ii,.bs (.c9 (.dF (([1]:List Int).map eI)))],r:= .agg (aR cg),er:=false,eN:=[22]})) 1)]) (fO.aH (.d6 a0 (J6 bQ bn) (k4 (show [[.n .i64 (1:Int)]]=(([1]:List Int)).map eI from rfl) (show 1=([1]:List Int).length from rfl)) (gC eI 1) (dd aN ([1]:List Int)) (z8 cg cQ)))))
  (fun a0 =>
  .ar fun bQ bn =>
  .ar fun cg cQ =>
  .ar fun dh eH =>
  .ar fun eK eJ =>
  .ar fun gK ha =>
  .ar fun gb hy =>
  .ar fun o6 ft =>
  .ret (bz (t2.append [.aa false,.aw (ah 8 (ai (bw 2 (.isl 1 (bQ.map eI)) false) (ai (bw 2 (.agg (aZ cg)) false) (ah 2 [])))),.aw (ah 8 (ai (bw 2 (.isl 1 (dh.map eI)) false) (ai (bw 2 (.agg (aZ eK)) false) (ah 2 [])))),.aw (bo 2 (bw 2 (.agg (aZ gK)) false) 2),.aw (ah 8 (ai (bw 2 (.isl 1 (gb.map eI)) false) (ai (bw 3 (.agg (aR o6)) false) (ah 1 []))))]) (fO.aH (.gu a0 (pe bQ bn) (oc cg cQ) (pe dh eH) (oc eK eJ) (J6 gK ha) (pe gb hy) (z8 o6 ft)))))))
  (fun af =>
  .ar fun ba aA =>
  .ar fun cl bm =>
  .ar fun c2 cx =>
  .ar fun et fm =>
  .ar fun el eS =>
  .ar fun fo fJ =>
  .ar fun ek hN =>
  .ret (bz [(J 3),.aw (ah 2 (ai (bw 1 (.b r1) true) (ah 1 (cw 3 (ai (.aa false) []))))),.aa false,.aw (ah 8 (ai (bw 2 (.isl 1 (ba.map eI)) false) (ai (bw 2 (.agg (aZ cl)) false) (ah 2 [])))),.aw (ah 8 (ai (bw 2 (.isl 1 (c2.map eI)) false) (ai (bw 2 (.agg (aZ et)) false) (ah 2 [])))),.aw (bo 2 (bw 2 (.agg (aZ el)) false) 2),.aw (ah 8 (ai (bw 2 (.isl 1 (fo.map eI)) false) (ai (bw 3 (.agg (aR ek)) false) (ah 1 []))))] (b8.aH (.bi af af af af cU (pe ba aA) (oc cl bm) (pe c2 cx) (.c3 (oc et fm) (J6 el eS) (pe fo fJ) (z8 ek hN)))))))
end Go.Proofs.YtmeimpeaagmneaaGreat
namespace Go.Proofs.YtmeimpeaagmneaaGreat
set_option linter.unusedVariables false
set_option linter.unusedSimpArgs false
open Go Go.VL
def GY (aK aJ:Int)(bx de dk:List Int)(bN:Int):(Int×(List aQ))→S:=fun (bW,aC)=>dr [(1,.ref 0 0 0 0),(3,.ref 1 0 0 0),(4,.n .i64 bW)] [[ae.mk 5 [[.n .i64 aK,.n .i64 aJ,.isl 1 (bx.map eI),.isl 1 (de.map eI),.isl 1 (dk.map eI)]] .live],[ae.mk 4 [[.n .i64 bN,.ei,.ei,.bf 2 0 0 aC.length]] .live],(av 3 aR aC)]
def Hj (aK aJ:Int)(bx de dk:List Int)(bN:Int):(List aQ)→dy
 | a=>⟨some 0,[(1,.ref 0 0 0 0),(3,.ref 1 0 0 0)],[[ae.mk 5 [[.n .i64 aK,.n .i64 aJ,.isl 1 (bx.map eI),.isl 1 (de.map eI),.isl 1 (dk.map eI)]] .live],[ae.mk 4 [[.n .i64 bN,.ei,.ei,.bf 2 0 0 a.length]] .live],(av 3 aR a)]⟩
def wZ (aK aJ:Int)(bx de dk:List Int)(bN bW:Int)(aC:List aQ):Option ((Int×(List aQ))⊕((List aQ))) :=
 if (decide (bW≤bN))=true then
  pd 0 >>= fun bT =>
  if (aC++([bT]:List aQ)).length*56≤140737488355328 then
  some (.inl (R (bW+(1:Int)),aC++([bT]:List aQ)))
  else none
 else
  some (.inr aC)
def I6 (aK aJ:Int)(bx de dk:List Int)(bN bW:Int)(aC:List aQ):Option ((List aQ)):=iter (fun w:Int×(List aQ)=>wZ aK aJ bx de dk bN w.1 w.2) (bW,aC)
theorem UZ {aK aJ:Int}{bx de dk:List Int}{bN bW:Int}{aC:List aQ}:bB (wZ aK aJ bx de dk bN bW aC) (dL a5 152 0 59 [1,1,0,1,0,0] (GY aK aJ bx de dk bN (bW,aC)) (GY aK aJ bx de dk bN) (Hj aK aJ bx de dk bN)):=by
 unfold wZ
 exact .ite (fun h1 =>
  .ar fun bT af =>
  .aY fun au =>
  .ret (let q1:=(aC++([bT]:List aQ));bg [(J 6),.aa true,.aw (ah 5 (ai (bw 1 (.agg (aR bT)) false) (bo 1 (.aH (q1.length)) 3))),(J 3),.aP [0,1,16] [.box [.id,.id,.id,.id,.id],.box [.id,.id,.id,.id],.cE (av 3 aR q1)] (a8 [1,3,4])] (.gu h1 (r5 bT af) (gC aR bT) (gW aR aC) (gD aR aC bT) au (cZ 3 .live (hb aR aC bT)) (aI 3 .live eY q1))))
  (fun h1 =>
  .ret (bg [(J 6),.aa false,.aP [0,1,2] [.box [.id,.id,.id,.id,.id],.box [.id,.id,.id,.id],.pure] (a8 [1,3])] (.aE h1 (aI 3 .live eY aC))))
theorem Wu {aK aJ:Int}{bx de dk:List Int}{bN bW:Int}{aC:List aQ}{r} (h:I6 aK aJ bx de dk bN bW aC=some r):dM a5 152 0 59 [1,1,0,1,0,0] (GY aK aJ bx de dk bN) (Hj aK aJ bx de dk bN) (bW,aC) r:=dO (fun _=>UZ) h
def GZ (ad:Int)(ef:List Int)(fs aK aJ:Int)(bx de dk:List Int)(bN:Int)(al:List bD)(eZ:List (List aQ))(bI:List Int)(e9:List aQ):(Int×(List aQ))→S:=fun (gI,aC)=>dr [(1,.ref 0 0 0 0),(3,.ref 1 0 0 0),(5,.n .i64 ad),(6,.n .i64 (-1:Int)),(7,.bf 2 0 0 aC.length),(53,.isl 1 (ef.map eI)),(54,.n .i64 fs),(55,.n .i64 gI)] [[ae.mk 5 [[.n .i64 aK,.n .i64 aJ,.isl 1 (bx.map eI),.isl 1 (de.map eI),.isl 1 (dk.map eI)]] .live],[ae.mk 4 [(dW bN 3 0 0 al.length 5 0 0 bI.length 6 0 0 e9.length)] .live],(av 3 aR aC),(av 1 (bp 4 0 3) al),(cf 3 aR eZ),(av 1 eI bI),(av 3 aR e9)]
def Hk (ad:Int)(ef:List Int)(fs aK aJ:Int)(bx de dk:List Int)(bN:Int)(al:List bD)(eZ:List (List aQ))(bI:List Int)(e9:List aQ):(List aQ)→dy
 | a=>⟨some 4,[(1,.ref 0 0 0 0),(3,.ref 1 0 0 0),(5,.n .i64 ad),(6,.n .i64 (-1:Int)),(7,.bf 2 0 0 a.length)],[[ae.mk 5 [[.n .i64 aK,.n .i64 aJ,.isl 1 (bx.map eI),.isl 1 (de.map eI),.isl 1 (dk.map eI)]] .live],[ae.mk 4 [(dW bN 3 0 0 al.length 5 0 0 bI.length 6 0 0 e9.length)] .live],(av 3 aR a),(av 1 (bp 4 0 3) al),(cf 3 aR eZ),(av 1 eI bI),(av 3 aR e9)]⟩
def w0 (ad:Int)(ef:List Int)(fs aK aJ:Int)(bx de dk:List Int)(bN:Int)(al:List bD)(eZ:List (List aQ))(bI:List Int)(e9:List aQ)(gI:Int)(aC:List aQ):Option ((Int×(List aQ))⊕((List aQ))) :=
 if (decide (gI<fs))=true then
  if 0≤gI∧gI<ef.length then
  ef[gI.toNat]? >>= fun aB =>
  pd (R ((-1:Int)*aB)) >>= fun ax =>
  if (aC++([ax]:List aQ)).length*56≤140737488355328 then
  some (.inl (R (gI+(1:Int)),aC++([ax]:List aQ)))
  else none
  else none
 else
  some (.inr aC)
def Ds (ad:Int)(ef:List Int)(fs aK aJ:Int)(bx de dk:List Int)(bN:Int)(al:List bD)(eZ:List (List aQ))(bI:List Int)(e9:List aQ)(gI:Int)(aC:List aQ):Option ((List aQ)):=iter (fun w:Int×(List aQ)=>w0 ad ef fs aK aJ bx de dk bN al eZ bI e9 w.1 w.2) (gI,aC)
theorem U0 {ad:Int}{ef:List Int}{fs aK aJ:Int}{bx de dk:List Int}{bN:Int}{al:List bD}{eZ:List (List aQ)}{bI:List Int}{e9:List aQ}{gI:Int}{aC:List aQ}:bB (w0 ad ef fs aK aJ bx de dk bN al eZ bI e9 gI aC) (dL a5 152 0 59 [1,1,1,0,1,0,0,1,0,0,1,1,1,0,1,0,0] (GZ ad ef fs aK aJ bx de dk bN al eZ bI e9 (gI,aC)) (GZ ad ef fs aK aJ bx de dk bN al eZ bI e9) (Hk ad ef fs aK aJ bx de dk bN al eZ bI e9)):=by
 unfold w0
 exact .ite (fun h1 =>
  .aY fun o =>
  .ar fun aB au =>
  .ar fun ax a0 =>
  .aY fun bm =>
  .ret (let q1:=(aC++([ax]:List aQ));let a6:=bZ [0,1,17,3,4,5,6];bg [(J 1),.aa true,.aw (bo 1 (.b5 (eI aB)) 1),.aw (ah 4 (ai (bw 1 (.agg (aR ax)) false) (bo 1 (.aH (q1.length)) 1))),(J 2),.aP [0,1,17,3,4,5,6] [.box [.id,.id,.id,.id,.id],.box [.id,.id,.id,.id],.cE (av 3 aR q1),.bK (av 1 (bp 4 0 3) al),.bK (cf 3 aR eZ),.pure,.pure] (a8 [1,3,5,6,7,53,54,55])] (.bi h1 o.1 (cW eI o.2) (b2 eI au) (r5 ax a0) (gC aR ax) (gW aR aC) (gD aR aC ax) (.eB bm (cZ 3 .live (hb aR aC ax)) (aI 3 .live eY q1) (eF a6 4 4 0 3 rfl al) (dR a6 3 fq eZ) (aI 1 .live aN bI) (aI 3 .live eY e9)))))
  (fun h1 =>
  .ret (let bY:=bZ [0,1,2,3,4,5,6];bg [(J 1),.aa false,.aP [0,1,2,3,4,5,6] [.box [.id,.id,.id,.id,.id],.box [.id,.id,.id,.id],.pure,.bK (av 1 (bp 4 0 3) al),.bK (cf 3 aR eZ),.pure,.pure] (a8 [1,3,5,6,7])] (.d6 h1 (aI 3 .live eY aC) (eF bY 4 4 0 3 rfl al) (dR bY 3 fq eZ) (aI 1 .live aN bI) (aI 3 .live eY e9))))
theorem Wv {ad:Int}{ef:List Int}{fs aK aJ:Int}{bx de dk:List Int}{bN:Int}{al:List bD}{eZ:List (List aQ)}{bI:List Int}{e9:List aQ}{gI:Int}{aC:List aQ}{r} (h:Ds ad ef fs aK aJ bx de dk bN al eZ bI e9 gI aC=some r):dM a5 152 0 59 [1,1,1,0,1,0,0,1,0,0,1,1,1,0,1,0,0] (GZ ad ef fs aK aJ bx de dk bN al eZ bI e9) (Hk ad ef fs aK aJ bx de dk bN al eZ bI e9) (gI,aC) r:=dO (fun _=>U0) h
def G0 (ad aK aJ:Int)(bx de dk:List Int)(bN:Int)(al:List bD)(eZ:List (List aQ))(bI:List Int)(e9:List aQ):(Int×(List aQ))→S:=fun (aO,aC)=>dr [(1,.ref 0 0 0 0),(3,.ref 1 0 0 0),(5,.n .i64 ad),(6,.n .i64 (-1:Int)),(7,.bf 2 0 0 aC.length),(10,.n .i64 aO)] [[ae.mk 5 [[.n .i64 aK,.n .i64 aJ,.isl 1 (bx.map eI),.isl 1 (de.map eI),.isl 1 (dk.map eI)]] .live],[ae.mk 4 [(dW bN 3 0 0 al.length 5 0 0 bI.length 6 0 0 e9.length)] .live],(av 3 aR aC),(av 1 (bp 4 0 3) al),(cf 3 aR eZ),(av 1 eI bI),(av 3 aR e9)]
def Hl (ad aK aJ:Int)(bx de dk:List Int)(bN:Int)(al:List bD)(eZ:List (List aQ))(bI:List Int)(e9:List aQ):(List aQ)→dy
 | a=>⟨some 6,[(1,.ref 0 0 0 0),(3,.ref 1 0 0 0),(5,.n .i64 ad),(6,.n .i64 (-1:Int)),(7,.bf 2 0 0 a.length)],[[ae.mk 5 [[.n .i64 aK,.n .i64 aJ,.isl 1 (bx.map eI),.isl 1 (de.map eI),.isl 1 (dk.map eI)]] .live],[ae.mk 4 [(dW bN 3 0 0 al.length 5 0 0 bI.length 6 0 0 e9.length)] .live],(av 3 aR a),(av 1 (bp 4 0 3) al),(cf 3 aR eZ),(av 1 eI bI),(av 3 aR e9)]⟩
def w1 (ad aK aJ:Int)(bx de dk:List Int)(bN:Int)(al:List bD)(eZ:List (List aQ))(bI:List Int)(e9:List aQ)(aO:Int)(aC:List aQ):Option ((Int×(List aQ))⊕((List aQ))) :=
 if (decide (aO<aK))=true then
  if (aO == ad)=true then
   pd 1 >>= fun bl =>
   if (aC++([bl]:List aQ)).length*56≤140737488355328 then
   some (.inl (R (aO+(1:Int)),aC++([bl]:List aQ)))
   else none
  else
   pd 0 >>= fun bl =>
   if (aC++([bl]:List aQ)).length*56≤140737488355328 then
   some (.inl (R (aO+(1:Int)),aC++([bl]:List aQ)))
   else none
 else
  some (.inr aC)
def Dt (ad aK aJ:Int)(bx de dk:List Int)(bN:Int)(al:List bD)(eZ:List (List aQ))(bI:List Int)(e9:List aQ)(aO:Int)(aC:List aQ):Option ((List aQ)):=iter (fun w:Int×(List aQ)=>w1 ad aK aJ bx de dk bN al eZ bI e9 w.1 w.2) (aO,aC)
theorem U1 {ad aK aJ:Int}{bx de dk:List Int}{bN:Int}{al:List bD}{eZ:List (List aQ)}{bI:List Int}{e9:List aQ}{aO:Int}{aC:List aQ}:bB (w1 ad aK aJ bx de dk bN al eZ bI e9 aO aC) (dL a5 152 0 59 [1,1,1,0,1,0,0,1,0,0,1,1,1,1,0,1,0,0] (G0 ad aK aJ bx de dk bN al eZ bI e9 (aO,aC)) (G0 ad aK aJ bx de dk bN al eZ bI e9) (Hl ad aK aJ bx de dk bN al eZ bI e9)):=by
 unfold w1
 exact .ite (fun h1 =>
  (let t1:List b3:=[(J 4),.aa true,(J 1),(J 3)];
  .ite (fun o =>
  .ar fun bl au =>
  .aY fun aA =>
  .ret (let q1:=(aC++([bl]:List aQ));let a6:=bZ [0,1,20,3,4,5,6];bg (t1.append [.aa true,(J 1),.aw (ah 2 (ai (bw 1 (.agg (aR bl)) false) (bo 1 (.aH (q1.length)) 1))),(J 3),.aP [0,1,20,3,4,5,6] [.box [.id,.id,.id,.id,.id],.box [.id,.id,.id,.id],.cE (av 3 aR q1),.bK (av 1 (bp 4 0 3) al),.bK (cf 3 aR eZ),.pure,.pure] (a8 [1,3,5,6,7,10])]) (.bi h1 o (r5 bl au) (gC aR bl) (gW aR aC) (gD aR aC bl) aA (cZ 3 .live (hb aR aC bl)) (.dg (aI 3 .live eY q1) (eF a6 4 4 0 3 rfl al) (dR a6 3 fq eZ) (aI 1 .live aN bI) (aI 3 .live eY e9)))))
  (fun o =>
  .ar fun bl au =>
  .aY fun aA =>
  .ret (let bY:=(aC++([bl]:List aQ));let cz:=bZ [0,1,19,3,4,5,6];bg (t1.append [.aa false,.aw (ah 2 (ai (bw 1 (.agg (aR bl)) false) (bo 1 (.aH (bY.length)) 1))),(J 3),.aP [0,1,19,3,4,5,6] [.box [.id,.id,.id,.id,.id],.box [.id,.id,.id,.id],.cE (av 3 aR bY),.bK (av 1 (bp 4 0 3) al),.bK (cf 3 aR eZ),.pure,.pure] (a8 [1,3,5,6,7,10])]) (.bi h1 o (r5 bl au) (gC aR bl) (gW aR aC) (gD aR aC bl) aA (cZ 3 .live (hb aR aC bl)) (.dg (aI 3 .live eY bY) (eF cz 4 4 0 3 rfl al) (dR cz 3 fq eZ) (aI 1 .live aN bI) (aI 3 .live eY e9)))))))
  (fun h1 =>
  .ret (let dj:=bZ [0,1,2,3,4,5,6];bg [(J 4),.aa false,.aP [0,1,2,3,4,5,6] [.box [.id,.id,.id,.id,.id],.box [.id,.id,.id,.id],.pure,.bK (av 1 (bp 4 0 3) al),.bK (cf 3 aR eZ),.pure,.pure] (a8 [1,3,5,6,7])] (.d6 h1 (aI 3 .live eY aC) (eF dj 4 4 0 3 rfl al) (dR dj 3 fq eZ) (aI 1 .live aN bI) (aI 3 .live eY e9))))
theorem Ww {ad aK aJ:Int}{bx de dk:List Int}{bN:Int}{al:List bD}{eZ:List (List aQ)}{bI:List Int}{e9:List aQ}{aO:Int}{aC:List aQ}{r} (h:Dt ad aK aJ bx de dk bN al eZ bI e9 aO aC=some r):dM a5 152 0 59 [1,1,1,0,1,0,0,1,0,0,1,1,1,1,0,1,0,0] (G0 ad aK aJ bx de dk bN al eZ bI e9) (Hl ad aK aJ bx de dk bN al eZ bI e9) (aO,aC) r:=dO (fun _=>U1) h
def G1 (ad:Int)(gj ev:Nat)(oU aK aJ:Int)(bx de dk:List Int)(bN:Int)(bb:List (List aQ))(al:List bD)(aL:List Int):(Int×(List aQ))→S:=fun (hZ,bI)=>dr [(1,.ref 0 0 0 0),(3,.ref 1 0 0 0),(5,.n .i64 ad),(7,.bf 2 (gj+0) 0 ev),(93,.n .i64 oU),(94,.n .i64 hZ)] [[ae.mk 5 [[.n .i64 aK,.n .i64 aJ,.isl 1 (bx.map eI),.isl 1 (de.map eI),.isl 1 (dk.map eI)]] .live],[ae.mk 4 [(dW bN 3 0 0 al.length 4 0 0 aL.length 5 0 0 bI.length)] .live],(cf 3 aR bb),(av 1 (bp 2 0 3) al),(av 1 eI aL),(av 3 aR bI)]
def Dj (ad:Int)(gj ev:Nat)(oU aK aJ:Int)(bx de dk:List Int)(bN:Int)(bb:List (List aQ))(al:List bD)(aL:List Int):(List aQ)→dy
 | a=>⟨some 8,[(1,.ref 0 0 0 0),(3,.ref 1 0 0 0),(5,.n .i64 ad),(7,.bf 2 (gj+0) 0 ev)],[[ae.mk 5 [[.n .i64 aK,.n .i64 aJ,.isl 1 (bx.map eI),.isl 1 (de.map eI),.isl 1 (dk.map eI)]] .live],[ae.mk 4 [(dW bN 3 0 0 al.length 4 0 0 aL.length 5 0 0 a.length)] .live],(cf 3 aR bb),(av 1 (bp 2 0 3) al),(av 1 eI aL),(av 3 aR a)]⟩
def w2 (ad:Int)(gj ev:Nat)(oU aK aJ:Int)(bx de dk:List Int)(bN:Int)(bb:List (List aQ))(al:List bD)(aL:List Int)(hZ:Int)(bI:List aQ):Option ((Int×(List aQ))⊕((List aQ))) :=
 if (decide (hZ<oU))=true then
  if (decide (hZ<aJ))=true then
   if 0≤hZ∧hZ<(bI.length:Nat) then
   bI[(0+hZ.toNat)]? >>= fun fM =>
   bb[gj]? >>= fun nf =>
   if 0≤hZ∧hZ<(ev:Nat) then
   nf[(0+hZ.toNat)]? >>= fun dl =>
   rB fM dl >>= fun dh =>
   if (0+hZ.toNat)<bI.length then
   some (.inl (R (hZ+(1:Int)),bI.set (0+hZ.toNat) dh))
   else none
   else none
   else none
  else
   if (hZ == bN)=true then
    if 0≤hZ∧hZ<(bI.length:Nat) then
    bI[(0+hZ.toNat)]? >>= fun eX =>
    bb[gj]? >>= fun iR =>
    if 0≤hZ∧hZ<(ev:Nat) then
    iR[(0+hZ.toNat)]? >>= fun ja =>
    rB eX ja >>= fun el =>
    if (0+hZ.toNat)<bI.length then
    some (.inl (R (hZ+(1:Int)),bI.set (0+hZ.toNat) el))
    else none
    else none
    else none
   else
    some (.inl (R (hZ+(1:Int)),bI))
 else
  some (.inr bI)
def zR (ad:Int)(gj ev:Nat)(oU aK aJ:Int)(bx de dk:List Int)(bN:Int)(bb:List (List aQ))(al:List bD)(aL:List Int)(hZ:Int)(bI:List aQ):Option ((List aQ)):=iter (fun w:Int×(List aQ)=>w2 ad gj ev oU aK aJ bx de dk bN bb al aL w.1 w.2) (hZ,bI)
theorem U2 {ad:Int}{gj ev:Nat}{oU aK aJ:Int}{bx de dk:List Int}{bN:Int}{bb:List (List aQ)}{al:List bD}{aL:List Int}{hZ:Int}{bI:List aQ}:bB (w2 ad gj ev oU aK aJ bx de dk bN bb al aL hZ bI) (dL a5 152 0 59 [1,1,1,0,1,0,0,1,0,0,1,1,1,1,1,1,0,1,0,0] (G1 ad gj ev oU aK aJ bx de dk bN bb al aL (hZ,bI)) (G1 ad gj ev oU aK aJ bx de dk bN bb al aL) (Dj ad gj ev oU aK aJ bx de dk bN bb al aL)):=by
 unfold w2
 exact .ite (fun h1 =>
  (let t1:List b3:=[(J 1),.aa true,(J 2)];
  .ite (fun o =>
  .aY fun af =>
  .ar fun fM aA =>
  .ar fun nf bm =>
  .aY fun bn =>
  .ar fun dl cQ =>
  .ar fun dh eH =>
  .aY fun eS =>
  .ret (let q1:=ke (gl .live 3 aR bb) jr bm;let a6:=bZ [0,1,2,3,4,5];bg (t1.append [.aw (ah 5 (cw 6 (ai (.aa true) []))),.aa true,.aw (ah 11 (ai (.b5 (aR fM)) (ah 2 (ai (.gm (ae.mk 3 (nf.map aR) .live) []) (ai (.gm (ae.mk 3 (nf.map aR) .live) (aR dl)) (ai (bw 2 (.agg (aR dh)) false) (ah 1 (ai .fX [])))))))),(J 2),.aP [0,1,2,3,4,5] [.box [.id,.id,.id,.id,.id],.box [.id,.id,.id,.len ((bI.set (0+hZ.toNat) dh).length)],.bK (cf 3 aR bb),.bK (av 1 (bp 2 0 3) al),.pure,.cE (av 3 aR (bI.set (0+hZ.toNat) dh))] (a8 [1,3,5,7,93,94])]) (.bi h1 o o o o o o o (.bi cI af.1 af.2 (b2 aR aA) q1 bn.1 bn.2 q1 (.bi (b2 aR cQ) (DN dh eH) af.1 af.2 (hQ aR eS) (hJ 3) (hg (dQ bI) (0+hZ.toNat) dh) (dR a6 3 fq bb) (.c3 (eF a6 2 2 0 3 rfl al) (aI 1 .live aN aL) (cZ 3 .live (gM (cR aR bI) (0+hZ.toNat) dh)) (aI 3 .live eY (bI.set (0+hZ.toNat) dh))))))))
  (fun o =>
  (let t2:List b3:=t1.append [.aw (ah 11 (ai (.aa false) []))];
  .ite (fun af =>
  .aY fun au =>
  .ar fun eX a0 =>
  .ar fun iR bn =>
  .aY fun cx =>
  .ar fun ja fm =>
  .ar fun el eS =>
  .aY fun eJ =>
  .ret (let bY:=ke (gl .live 3 aR bb) jr bn;let cz:=bZ [0,1,2,3,4,5];bg (t2.append [.aa true,.aw (ah 11 (ai (.b5 (aR eX)) (ah 2 (ai (.gm (ae.mk 3 (iR.map aR) .live) []) (ai (.gm (ae.mk 3 (iR.map aR) .live) (aR ja)) (ai (bw 2 (.agg (aR el)) false) (ah 1 (ai .fX [])))))))),(J 2),.aP [0,1,2,3,4,5] [.box [.id,.id,.id,.id,.id],.box [.id,.id,.id,.len ((bI.set (0+hZ.toNat) el).length)],.bK (cf 3 aR bb),.bK (av 1 (bp 2 0 3) al),.pure,.cE (av 3 aR (bI.set (0+hZ.toNat) el))] (a8 [1,3,5,7,93,94])]) (.bi h1 o o o o o o o (.bi af au.1 au.2 (b2 aR a0) bY cx.1 cx.2 bY (.bi (b2 aR fm) (DN el eS) au.1 au.2 (hQ aR eJ) (hJ 3) (hg (dQ bI) (0+hZ.toNat) el) (dR cz 3 fq bb) (.c3 (eF cz 2 2 0 3 rfl al) (aI 1 .live aN aL) (cZ 3 .live (gM (cR aR bI) (0+hZ.toNat) el)) (aI 3 .live eY (bI.set (0+hZ.toNat) el))))))))
  (fun af =>
  .ret (let dj:=bZ [0,1,2,3,4,5];bg (t2.append [.aa false,(J 2),.aP [0,1,2,3,4,5] [.box [.id,.id,.id,.id,.id],.box [.id,.id,.id,.id],.bK (cf 3 aR bb),.bK (av 1 (bp 2 0 3) al),.pure,.pure] (a8 [1,3,5,7,93,94])]) (.bi h1 o o o o o o o (.dg af (dR dj 3 fq bb) (eF dj 2 2 0 3 rfl al) (aI 1 .live aN aL) (aI 3 .live eY bI)))))))))
  (fun h1 =>
  .ret (let f6:=bZ [0,1,2,3,4,5];bg [(J 1),.aa false,.aP [0,1,2,3,4,5] [.box [.id,.id,.id,.id,.id],.box [.id,.id,.id,.id],.bK (cf 3 aR bb),.bK (av 1 (bp 2 0 3) al),.pure,.pure] (a8 [1,3,5,7])] (.dg h1 (dR f6 3 fq bb) (eF f6 2 2 0 3 rfl al) (aI 1 .live aN aL) (aI 3 .live eY bI))))
theorem NT {ad:Int}{gj ev:Nat}{oU aK aJ:Int}{bx de dk:List Int}{bN:Int}{bb:List (List aQ)}{al:List bD}{aL:List Int}{hZ:Int}{bI:List aQ}{r} (h:zR ad gj ev oU aK aJ bx de dk bN bb al aL hZ bI=some r):dM a5 152 0 59 [1,1,1,0,1,0,0,1,0,0,1,1,1,1,1,1,0,1,0,0] (G1 ad gj ev oU aK aJ bx de dk bN bb al aL) (Dj ad gj ev oU aK aJ bx de dk bN bb al aL) (hZ,bI) r:=dO (fun _=>U2) h
def GK (ad:Int)(ef:List Int)(fs aK aJ:Int)(bx de dk:List Int)(bN:Int)(al:List bD)(eZ:List (List aQ))(bI:List Int)(e9:List aQ):(Int×(List aQ))→S:=fun (gI,aC)=>dr [(1,.ref 0 0 0 0),(3,.ref 1 0 0 0),(5,.n .i64 ad),(6,.n .i64 (1:Int)),(7,.bf 2 0 0 aC.length),(53,.isl 1 (ef.map eI)),(54,.n .i64 fs),(55,.n .i64 gI)] [[ae.mk 5 [[.n .i64 aK,.n .i64 aJ,.isl 1 (bx.map eI),.isl 1 (de.map eI),.isl 1 (dk.map eI)]] .live],[ae.mk 4 [(dW bN 3 0 0 al.length 5 0 0 bI.length 6 0 0 e9.length)] .live],(av 3 aR aC),(av 1 (bp 4 0 3) al),(cf 3 aR eZ),(av 1 eI bI),(av 3 aR e9)]
def G2 (ad:Int)(ef:List Int)(fs aK aJ:Int)(bx de dk:List Int)(bN:Int)(al:List bD)(eZ:List (List aQ))(bI:List Int)(e9:List aQ):(List aQ)→dy
 | a=>⟨some 4,[(1,.ref 0 0 0 0),(3,.ref 1 0 0 0),(5,.n .i64 ad),(6,.n .i64 (1:Int)),(7,.bf 2 0 0 a.length)],[[ae.mk 5 [[.n .i64 aK,.n .i64 aJ,.isl 1 (bx.map eI),.isl 1 (de.map eI),.isl 1 (dk.map eI)]] .live],[ae.mk 4 [(dW bN 3 0 0 al.length 5 0 0 bI.length 6 0 0 e9.length)] .live],(av 3 aR a),(av 1 (bp 4 0 3) al),(cf 3 aR eZ),(av 1 eI bI),(av 3 aR e9)]⟩
def wR (ad:Int)(ef:List Int)(fs aK aJ:Int)(bx de dk:List Int)(bN:Int)(al:List bD)(eZ:List (List aQ))(bI:List Int)(e9:List aQ)(gI:Int)(aC:List aQ):Option ((Int×(List aQ))⊕((List aQ))) :=
 if (decide (gI<fs))=true then
  if 0≤gI∧gI<ef.length then
  ef[gI.toNat]? >>= fun aB =>
  pd (R ((1:Int)*aB)) >>= fun ax =>
  if (aC++([ax]:List aQ)).length*56≤140737488355328 then
  some (.inl (R (gI+(1:Int)),aC++([ax]:List aQ)))
  else none
  else none
 else
  some (.inr aC)
def Dm (ad:Int)(ef:List Int)(fs aK aJ:Int)(bx de dk:List Int)(bN:Int)(al:List bD)(eZ:List (List aQ))(bI:List Int)(e9:List aQ)(gI:Int)(aC:List aQ):Option ((List aQ)):=iter (fun w:Int×(List aQ)=>wR ad ef fs aK aJ bx de dk bN al eZ bI e9 w.1 w.2) (gI,aC)
theorem UO {ad:Int}{ef:List Int}{fs aK aJ:Int}{bx de dk:List Int}{bN:Int}{al:List bD}{eZ:List (List aQ)}{bI:List Int}{e9:List aQ}{gI:Int}{aC:List aQ}:bB (wR ad ef fs aK aJ bx de dk bN al eZ bI e9 gI aC) (dL a5 152 0 59 [1,1,1,0,1,0,0,1,0,0,1,1,1,0,1,0,0] (GK ad ef fs aK aJ bx de dk bN al eZ bI e9 (gI,aC)) (GK ad ef fs aK aJ bx de dk bN al eZ bI e9) (G2 ad ef fs aK aJ bx de dk bN al eZ bI e9)):=by
 unfold wR
 exact .ite (fun h1 =>
  .aY fun o =>
  .ar fun aB au =>
  .ar fun ax a0 =>
  .aY fun bm =>
  .ret (let q1:=(aC++([ax]:List aQ));let a6:=bZ [0,1,17,3,4,5,6];bg [(J 1),.aa true,.aw (bo 1 (.b5 (eI aB)) 1),.aw (ah 4 (ai (bw 1 (.agg (aR ax)) false) (bo 1 (.aH (q1.length)) 1))),(J 2),.aP [0,1,17,3,4,5,6] [.box [.id,.id,.id,.id,.id],.box [.id,.id,.id,.id],.cE (av 3 aR q1),.bK (av 1 (bp 4 0 3) al),.bK (cf 3 aR eZ),.pure,.pure] (a8 [1,3,5,6,7,53,54,55])] (.bi h1 o.1 (cW eI o.2) (b2 eI au) (r5 ax a0) (gC aR ax) (gW aR aC) (gD aR aC ax) (.eB bm (cZ 3 .live (hb aR aC ax)) (aI 3 .live eY q1) (eF a6 4 4 0 3 rfl al) (dR a6 3 fq eZ) (aI 1 .live aN bI) (aI 3 .live eY e9)))))
  (fun h1 =>
  .ret (let bY:=bZ [0,1,2,3,4,5,6];bg [(J 1),.aa false,.aP [0,1,2,3,4,5,6] [.box [.id,.id,.id,.id,.id],.box [.id,.id,.id,.id],.pure,.bK (av 1 (bp 4 0 3) al),.bK (cf 3 aR eZ),.pure,.pure] (a8 [1,3,5,6,7])] (.d6 h1 (aI 3 .live eY aC) (eF bY 4 4 0 3 rfl al) (dR bY 3 fq eZ) (aI 1 .live aN bI) (aI 3 .live eY e9))))
theorem Wc {ad:Int}{ef:List Int}{fs aK aJ:Int}{bx de dk:List Int}{bN:Int}{al:List bD}{eZ:List (List aQ)}{bI:List Int}{e9:List aQ}{gI:Int}{aC:List aQ}{r} (h:Dm ad ef fs aK aJ bx de dk bN al eZ bI e9 gI aC=some r):dM a5 152 0 59 [1,1,1,0,1,0,0,1,0,0,1,1,1,0,1,0,0] (GK ad ef fs aK aJ bx de dk bN al eZ bI e9) (G2 ad ef fs aK aJ bx de dk bN al eZ bI e9) (gI,aC) r:=dO (fun _=>UO) h
def GL (ad aK aJ:Int)(bx de dk:List Int)(bN:Int)(al:List bD)(eZ:List (List aQ))(bI:List Int)(e9:List aQ):(Int×(List aQ))→S:=fun (aO,aC)=>dr [(1,.ref 0 0 0 0),(3,.ref 1 0 0 0),(5,.n .i64 ad),(6,.n .i64 (1:Int)),(7,.bf 2 0 0 aC.length),(10,.n .i64 aO)] [[ae.mk 5 [[.n .i64 aK,.n .i64 aJ,.isl 1 (bx.map eI),.isl 1 (de.map eI),.isl 1 (dk.map eI)]] .live],[ae.mk 4 [(dW bN 3 0 0 al.length 5 0 0 bI.length 6 0 0 e9.length)] .live],(av 3 aR aC),(av 1 (bp 4 0 3) al),(cf 3 aR eZ),(av 1 eI bI),(av 3 aR e9)]
def G3 (ad aK aJ:Int)(bx de dk:List Int)(bN:Int)(al:List bD)(eZ:List (List aQ))(bI:List Int)(e9:List aQ):(List aQ)→dy
 | a=>⟨some 6,[(1,.ref 0 0 0 0),(3,.ref 1 0 0 0),(5,.n .i64 ad),(6,.n .i64 (1:Int)),(7,.bf 2 0 0 a.length)],[[ae.mk 5 [[.n .i64 aK,.n .i64 aJ,.isl 1 (bx.map eI),.isl 1 (de.map eI),.isl 1 (dk.map eI)]] .live],[ae.mk 4 [(dW bN 3 0 0 al.length 5 0 0 bI.length 6 0 0 e9.length)] .live],(av 3 aR a),(av 1 (bp 4 0 3) al),(cf 3 aR eZ),(av 1 eI bI),(av 3 aR e9)]⟩
def wS (ad aK aJ:Int)(bx de dk:List Int)(bN:Int)(al:List bD)(eZ:List (List aQ))(bI:List Int)(e9:List aQ)(aO:Int)(aC:List aQ):Option ((Int×(List aQ))⊕((List aQ))) :=
 if (decide (aO<aK))=true then
  if (aO == ad)=true then
   pd 1 >>= fun bl =>
   if (aC++([bl]:List aQ)).length*56≤140737488355328 then
   some (.inl (R (aO+(1:Int)),aC++([bl]:List aQ)))
   else none
  else
   pd 0 >>= fun bl =>
   if (aC++([bl]:List aQ)).length*56≤140737488355328 then
   some (.inl (R (aO+(1:Int)),aC++([bl]:List aQ)))
   else none
 else
  some (.inr aC)
def Dn (ad aK aJ:Int)(bx de dk:List Int)(bN:Int)(al:List bD)(eZ:List (List aQ))(bI:List Int)(e9:List aQ)(aO:Int)(aC:List aQ):Option ((List aQ)):=iter (fun w:Int×(List aQ)=>wS ad aK aJ bx de dk bN al eZ bI e9 w.1 w.2) (aO,aC)
theorem UP {ad aK aJ:Int}{bx de dk:List Int}{bN:Int}{al:List bD}{eZ:List (List aQ)}{bI:List Int}{e9:List aQ}{aO:Int}{aC:List aQ}:bB (wS ad aK aJ bx de dk bN al eZ bI e9 aO aC) (dL a5 152 0 59 [1,1,1,0,1,0,0,1,0,0,1,1,1,1,0,1,0,0] (GL ad aK aJ bx de dk bN al eZ bI e9 (aO,aC)) (GL ad aK aJ bx de dk bN al eZ bI e9) (G3 ad aK aJ bx de dk bN al eZ bI e9)):=by
 unfold wS
 exact .ite (fun h1 =>
  (let t1:List b3:=[(J 4),.aa true,(J 1),(J 3)];
  .ite (fun o =>
  .ar fun bl au =>
  .aY fun aA =>
  .ret (let q1:=(aC++([bl]:List aQ));let a6:=bZ [0,1,20,3,4,5,6];bg (t1.append [.aa true,(J 1),.aw (ah 2 (ai (bw 1 (.agg (aR bl)) false) (bo 1 (.aH (q1.length)) 1))),(J 3),.aP [0,1,20,3,4,5,6] [.box [.id,.id,.id,.id,.id],.box [.id,.id,.id,.id],.cE (av 3 aR q1),.bK (av 1 (bp 4 0 3) al),.bK (cf 3 aR eZ),.pure,.pure] (a8 [1,3,5,6,7,10])]) (.bi h1 o (r5 bl au) (gC aR bl) (gW aR aC) (gD aR aC bl) aA (cZ 3 .live (hb aR aC bl)) (.dg (aI 3 .live eY q1) (eF a6 4 4 0 3 rfl al) (dR a6 3 fq eZ) (aI 1 .live aN bI) (aI 3 .live eY e9)))))
  (fun o =>
  .ar fun bl au =>
  .aY fun aA =>
  .ret (let bY:=(aC++([bl]:List aQ));let cz:=bZ [0,1,19,3,4,5,6];bg (t1.append [.aa false,.aw (ah 2 (ai (bw 1 (.agg (aR bl)) false) (bo 1 (.aH (bY.length)) 1))),(J 3),.aP [0,1,19,3,4,5,6] [.box [.id,.id,.id,.id,.id],.box [.id,.id,.id,.id],.cE (av 3 aR bY),.bK (av 1 (bp 4 0 3) al),.bK (cf 3 aR eZ),.pure,.pure] (a8 [1,3,5,6,7,10])]) (.bi h1 o (r5 bl au) (gC aR bl) (gW aR aC) (gD aR aC bl) aA (cZ 3 .live (hb aR aC bl)) (.dg (aI 3 .live eY bY) (eF cz 4 4 0 3 rfl al) (dR cz 3 fq eZ) (aI 1 .live aN bI) (aI 3 .live eY e9)))))))
  (fun h1 =>
  .ret (let dj:=bZ [0,1,2,3,4,5,6];bg [(J 4),.aa false,.aP [0,1,2,3,4,5,6] [.box [.id,.id,.id,.id,.id],.box [.id,.id,.id,.id],.pure,.bK (av 1 (bp 4 0 3) al),.bK (cf 3 aR eZ),.pure,.pure] (a8 [1,3,5,6,7])] (.d6 h1 (aI 3 .live eY aC) (eF dj 4 4 0 3 rfl al) (dR dj 3 fq eZ) (aI 1 .live aN bI) (aI 3 .live eY e9))))
theorem Wd {ad aK aJ:Int}{bx de dk:List Int}{bN:Int}{al:List bD}{eZ:List (List aQ)}{bI:List Int}{e9:List aQ}{aO:Int}{aC:List aQ}{r} (h:Dn ad aK aJ bx de dk bN al eZ bI e9 aO aC=some r):dM a5 152 0 59 [1,1,1,0,1,0,0,1,0,0,1,1,1,1,0,1,0,0] (GL ad aK aJ bx de dk bN al eZ bI e9) (G3 ad aK aJ bx de dk bN al eZ bI e9) (aO,aC) r:=dO (fun _=>UP) h
def GM (aK aJ:Int)(bx de dk:List Int)(bN:Int):(Int×(List bD)×(List (List aQ))×(List Int)×(List aQ))→S:=fun (ad,aC,dz,aL,bI)=>dr [(1,.ref 0 0 0 0),(3,.ref 1 0 0 0),(5,.n .i64 ad)] [[ae.mk 5 [[.n .i64 aK,.n .i64 aJ,.isl 1 (bx.map eI),.isl 1 (de.map eI),.isl 1 (dk.map eI)]] .live],[ae.mk 4 [(dW bN 2 0 0 aC.length 4 0 0 aL.length 5 0 0 bI.length)] .live],(av 1 (bp 3 0 3) aC),(cf 3 aR dz),(av 1 eI aL),(av 3 aR bI)]
def G4 (aK aJ:Int)(bx de dk:List Int)(bN:Int):((List bD)×(List (List aQ))×(List Int)×(List aQ))→dy
 | a=>⟨some 2,[(3,.ref 0 0 0 0)],[[ae.mk 4 [(dW bN 1 0 0 a.1.length 3 0 0 a.2.2.1.length 4 0 0 a.2.2.2.length)] .live],(av 1 (bp 2 0 3) a.1),(cf 3 aR a.2.1),(av 1 eI a.2.2.1),(av 3 aR a.2.2.2)]⟩
def wT (aK aJ:Int)(bx de dk:List Int)(bN ad:Int)(aC:List bD)(dz:List (List aQ))(aL:List Int)(bI:List aQ):Option ((Int×(List bD)×(List (List aQ))×(List Int)×(List aQ))⊕((List bD)×(List (List aQ))×(List Int)×(List aQ))) :=
 if (decide (ad<aK))=true then
  if 0≤ad∧ad<de.length then
  de[ad.toNat]? >>= fun aB =>
  if (decide (aB<(0:Int)))=true then
   uQ (⟨aK,aJ,bx,de,dk⟩:hK) ad >>= fun cl =>
   Ds ad cl (len_ eI cl) aK aJ bx de dk bN aC dz aL bI 0 ([]:List aQ) >>= fun c2 =>
   Dt ad aK aJ bx de dk bN aC dz aL bI 0 c2 >>= fun et =>
   pd (R ((-1:Int)*aB)) >>= fun el =>
   if (et++([el]:List aQ)).length*56≤140737488355328 then
   (dz++[et++([el]:List aQ)])[dz.length]? >>= fun kr =>
   zR ad dz.length ((et++([el]:List aQ)).length) (((et++([el]:List aQ)).length:Nat):Int) aK aJ bx de dk bN (dz++[et++([el]:List aQ)]) aC aL 0 bI >>= fun gb =>
   if (aC++([(some (dz.length,(et++([el]:List aQ)).length))]:List bD)).length*24≤140737488355328 then
   if (aL++([R (aJ+ad)]:List Int)).length*8≤140737488355328 then
   some (.inl (R (ad+(1:Int)),aC++([(some (dz.length,(et++([el]:List aQ)).length))]:List bD),dz++[et++([el]:List aQ)],aL++([R (aJ+ad)]:List Int),gb))
   else none
   else none
   else none
  else
   uQ (⟨aK,aJ,bx,de,dk⟩:hK) ad >>= fun cl =>
   Dm ad cl (len_ eI cl) aK aJ bx de dk bN aC dz aL bI 0 ([]:List aQ) >>= fun c2 =>
   Dn ad aK aJ bx de dk bN aC dz aL bI 0 c2 >>= fun et =>
   pd (R ((1:Int)*aB)) >>= fun el =>
   if (et++([el]:List aQ)).length*56≤140737488355328 then
   (dz++[et++([el]:List aQ)])[dz.length]? >>= fun kr =>
   zR ad dz.length ((et++([el]:List aQ)).length) (((et++([el]:List aQ)).length:Nat):Int) aK aJ bx de dk bN (dz++[et++([el]:List aQ)]) aC aL 0 bI >>= fun gb =>
   if (aC++([(some (dz.length,(et++([el]:List aQ)).length))]:List bD)).length*24≤140737488355328 then
   if (aL++([R (aJ+ad)]:List Int)).length*8≤140737488355328 then
   some (.inl (R (ad+(1:Int)),aC++([(some (dz.length,(et++([el]:List aQ)).length))]:List bD),dz++[et++([el]:List aQ)],aL++([R (aJ+ad)]:List Int),gb))
   else none
   else none
   else none
  else none
 else
  some (.inr (aC,dz,aL,bI))
def IA (aK aJ:Int)(bx de dk:List Int)(bN ad:Int)(aC:List bD)(dz:List (List aQ))(aL:List Int)(bI:List aQ):Option ((List bD)×(List (List aQ))×(List Int)×(List aQ)):=iter (fun w:Int×(List bD)×(List (List aQ))×(List Int)×(List aQ)=>wT aK aJ bx de dk bN w.1 w.2.1 w.2.2.1 w.2.2.2.1 w.2.2.2.2) (ad,aC,dz,aL,bI)
set_option maxHeartbeats 4000000 in
theorem UQ {aK aJ:Int}{bx de dk:List Int}{bN ad:Int}{aC:List bD}{dz:List (List aQ)}{aL:List Int}{bI:List aQ}:bB (wT aK aJ bx de dk bN ad aC dz aL bI) (dL a5 152 0 59 [1,1,1,0,1,0,0] (GM aK aJ bx de dk bN (ad,aC,dz,aL,bI)) (GM aK aJ bx de dk bN) (G4 aK aJ bx de dk bN)):=by
 unfold wT
 exact .ite (fun h1 =>
  .aY fun o =>
  .ar fun aB au =>
  (let t1:List b3:=[(J 4),.aa true,(J 1),.aw (bo 4 (.b5 (eI aB)) 1)];
  have aT:=((.c3 h1 o.1 (cW eI o.2) (b2 eI au)):cA _);
  .ite (fun aA =>
  .ar fun cl bm =>
  .ar fun c2 cx =>
  .ar fun et fm =>
  .ar fun el eS =>
  .aY fun eJ =>
  .ar fun kr ha =>
  .ar fun gb hy =>
  .aY fun gq =>
  .aY fun ft =>
  .ret (let q1:=(et++([el]:List aQ));let a6:=(dz++[et++([el]:List aQ)]);let bY:=EF (gl .live 3 aR dz) (EO eY 17 4 (dz.length+0) (hb aR et el) (EP 17 4 (dz.length+0)));let cz:=bZ [0,1,13,2,27,5];let f6:=(aC++([(some (dz.length,q1.length))]:List bD));let h4:=aI 1 .live aN aL;let fw:=aI 3 .live eY bI;let js:=bZ [0,1,18,2,3,4,5];let lO:=bZ [0,1,2,3,4,5,6];let jb:=R (aJ+ad);let dj:=(aL++([jb]:List Int));let pP:=bZ [0,1,4,3,5,6];bg (t1.append [.aa true,(J 1),(J 2),.aw (bo 2 (bw 2 (.isl 1 (cl.map eI)) false) 2),.aP [0,1,18,2,3,4,5] [.box [.id,.id,.id,.id,.id],.box [.id,.id,.id,.id],.cE (av 3 aR ([]:List aQ)),.bK (av 1 (bp 4 0 3) aC),.bK (cf 3 aR dz),.pure,.pure] [(1,ii),(3,ii),(5,ii),(6,ii),(7,fU (([]:List aQ).length)),(53,ii),(54,ii),(55,ii)],(Hk ad cl (len_ eI cl) aK aJ bx de dk bN aC dz aL bI c2).e6,(J 1),.aP [0,1,2,3,4,5,6] [.box [.id,.id,.id,.id,.id],.box [.id,.id,.id,.id],.pure,.bK (av 1 (bp 4 0 3) aC),.bK (cf 3 aR dz),.pure,.pure] (a8 [1,3,5,6,7,10]),(Hl ad aK aJ bx de dk bN aC dz aL bI et).e6,.aw (ah 6 (ai (.b5 (eI aB)) (ah 1 (ai (bw 1 (.agg (aR el)) false) (bo 1 (.vZ 4 (dz.length+0) (.aH (q1.length))) 1))))),.aw (bo 1 (.gm (ae.mk 3 (kr.map aR) .live) []) 1),.aP [0,1,4,3,5,6] [.box [.id,.id,.id,.id,.id],.box [.id,.id,.id,.id],.bK (cf 3 aR a6),.bK (av 1 (bp 2 0 3) aC),.pure,.pure] (a8 [1,3,5,7,93,94]),(Dj ad dz.length (q1.length) ((q1.length:Nat):Int) aK aJ bx de dk bN a6 aC aL gb).e6,.aw (ah 6 (ai (.kw 133 (lQ 2 0 3 (some (dz.length,q1.length))) .none) (ai (.aH (f6.length)) (ah 3 [])))),.aw (bo 10 (.aH (dj.length)) 3),(J 3),.aP [0,1,13,2,27,5] [.box [.id,.id,.id,.id,.id],.box [.id,.id,.id,.id],.bK (av 1 (bp 3 0 3) f6),.bK (cf 3 aR a6),.cE (av 1 eI dj),.pure] (a8 [1,3,5])]) (aT.aH (.bi aA (OO cl bm) (cZ 3 .live (show []=(([]:List aQ)).map aR from rfl)) (aI 3 .live eY ([]:List aQ)) (eF js 4 3 0 3 rfl aC) (dR js 3 fq dz) h4 fw (.bi (fc aQ) (Wv cx) (aI 3 .live eY c2) (eF lO 4 4 0 3 rfl aC) (dR lO 3 fq dz) h4 fw (Ww fm) (.bi o.1 (cW eI o.2) (b2 eI au) (r5 el eS) (gC aR el) (gW aR et) (gD aR et el) eJ (.bi (congrArg (· + 0) (Lq (gl .live 3 aR dz) rfl)) (ke bY jr ha) (np (cd:=pP) bY (mB fq)) (eF pP 2 4 0 3 rfl aC) h4 fw (NT hy) (.s2 2 0 3 dz.length (q1.length):kC (.bf 2 (dz.length+0) 0 (q1.length)) (lQ 2 0 3 (some (dz.length,q1.length)))) (.bi (gC (bp 2 0 3) (some (dz.length,q1.length))) (gW (bp 2 0 3) aC) (gD (bp 2 0 3) aC (some (dz.length,q1.length))) gq (gC eI jb) (gW eI aL) (gD eI aL jb) ft (.dg (c8 (rY (cd:=cz) 1 .live (bp 3 0 3) (hb (bp 2 0 3) aC (some (dz.length,q1.length))) (ty (rfl:cz 2=some 3))) (nN (cd:=cz))) (dR cz 3 fq a6) (cZ 1 .live (hb eI aL jb)) (aI 1 .live aN dj) (aI 3 .live eY gb))))))))))
  (fun aA =>
  .ar fun cl bm =>
  .ar fun c2 cx =>
  .ar fun et fm =>
  .ar fun el eS =>
  .aY fun eJ =>
  .ar fun kr ha =>
  .ar fun gb hy =>
  .aY fun gq =>
  .aY fun ft =>
  .ret (let mG:=(et++([el]:List aQ));let pQ:=(dz++[et++([el]:List aQ)]);let vL:=EF (gl .live 3 aR dz) (EO eY 17 4 (dz.length+0) (hb aR et el) (EP 17 4 (dz.length+0)));let vM:=bZ [0,1,13,2,27,5];let zk:=(aC++([(some (dz.length,mG.length))]:List bD));let vN:=aI 1 .live aN aL;let vO:=aI 3 .live eY bI;let zl:=bZ [0,1,17,2,3,4,5];let zm:=bZ [0,1,2,3,4,5,6];let vP:=R (aJ+ad);let zn:=(aL++([vP]:List Int));let Cu:=bZ [0,1,4,3,5,6];bg (t1.append [.aa false,(J 2),.aw (bo 2 (bw 2 (.isl 1 (cl.map eI)) false) 2),.aP [0,1,17,2,3,4,5] [.box [.id,.id,.id,.id,.id],.box [.id,.id,.id,.id],.cE (av 3 aR ([]:List aQ)),.bK (av 1 (bp 4 0 3) aC),.bK (cf 3 aR dz),.pure,.pure] [(1,ii),(3,ii),(5,ii),(6,ii),(7,fU (([]:List aQ).length)),(53,ii),(54,ii),(55,ii)],(G2 ad cl (len_ eI cl) aK aJ bx de dk bN aC dz aL bI c2).e6,(J 1),.aP [0,1,2,3,4,5,6] [.box [.id,.id,.id,.id,.id],.box [.id,.id,.id,.id],.pure,.bK (av 1 (bp 4 0 3) aC),.bK (cf 3 aR dz),.pure,.pure] (a8 [1,3,5,6,7,10]),(G3 ad aK aJ bx de dk bN aC dz aL bI et).e6,.aw (ah 6 (ai (.b5 (eI aB)) (ah 1 (ai (bw 1 (.agg (aR el)) false) (bo 1 (.vZ 4 (dz.length+0) (.aH (mG.length))) 1))))),.aw (bo 1 (.gm (ae.mk 3 (kr.map aR) .live) []) 1),.aP [0,1,4,3,5,6] [.box [.id,.id,.id,.id,.id],.box [.id,.id,.id,.id],.bK (cf 3 aR pQ),.bK (av 1 (bp 2 0 3) aC),.pure,.pure] (a8 [1,3,5,7,93,94]),(Dj ad dz.length (mG.length) ((mG.length:Nat):Int) aK aJ bx de dk bN pQ aC aL gb).e6,.aw (ah 6 (ai (.kw 133 (lQ 2 0 3 (some (dz.length,mG.length))) .none) (ai (.aH (zk.length)) (ah 3 [])))),.aw (bo 10 (.aH (zn.length)) 3),(J 3),.aP [0,1,13,2,27,5] [.box [.id,.id,.id,.id,.id],.box [.id,.id,.id,.id],.bK (av 1 (bp 3 0 3) zk),.bK (cf 3 aR pQ),.cE (av 1 eI zn),.pure] (a8 [1,3,5])]) (aT.aH (.bi aA (OO cl bm) (cZ 3 .live (show []=(([]:List aQ)).map aR from rfl)) (aI 3 .live eY ([]:List aQ)) (eF zl 4 3 0 3 rfl aC) (dR zl 3 fq dz) vN vO (.bi (fc aQ) (Wc cx) (aI 3 .live eY c2) (eF zm 4 4 0 3 rfl aC) (dR zm 3 fq dz) vN vO (Wd fm) (.bi o.1 (cW eI o.2) (b2 eI au) (r5 el eS) (gC aR el) (gW aR et) (gD aR et el) eJ (.bi (congrArg (· + 0) (Lq (gl .live 3 aR dz) rfl)) (ke vL jr ha) (np (cd:=Cu) vL (mB fq)) (eF Cu 2 4 0 3 rfl aC) vN vO (NT hy) (.s2 2 0 3 dz.length (mG.length):kC (.bf 2 (dz.length+0) 0 (mG.length)) (lQ 2 0 3 (some (dz.length,mG.length)))) (.bi (gC (bp 2 0 3) (some (dz.length,mG.length))) (gW (bp 2 0 3) aC) (gD (bp 2 0 3) aC (some (dz.length,mG.length))) gq (gC eI vP) (gW eI aL) (gD eI aL vP) ft (.dg (c8 (rY (cd:=vM) 1 .live (bp 3 0 3) (hb (bp 2 0 3) aC (some (dz.length,mG.length))) (ty (rfl:vM 2=some 3))) (nN (cd:=vM))) (dR vM 3 fq pQ) (cZ 1 .live (hb eI aL vP)) (aI 1 .live aN zn) (aI 3 .live eY gb))))))))))))
  (fun h1 =>
  .ret (bg [(J 4),.aa false,.aP [1,2,3,4,5] [.box [.id,.id,.id,.id],.bK (av 1 (bp 2 0 3) aC),.bK (cf 3 aR dz),.pure,.pure] (a8 [3])] (.dg h1 (eF (bZ [1,2,3,4,5]) 2 3 0 3 rfl aC) (dR (bZ [1,2,3,4,5]) 3 fq dz) (aI 1 .live aN aL) (aI 3 .live eY bI))))
theorem We {aK aJ:Int}{bx de dk:List Int}{bN ad:Int}{aC:List bD}{dz:List (List aQ)}{aL:List Int}{bI:List aQ}{r} (h:IA aK aJ bx de dk bN ad aC dz aL bI=some r):dM a5 152 0 59 [1,1,1,0,1,0,0] (GM aK aJ bx de dk bN) (G4 aK aJ bx de dk bN) (ad,aC,dz,aL,bI) r:=dO (fun _=>UQ) h
def zZ (ch:hK):Option (Int×(List bD)×(List Int)×(List aQ)×(List (List aQ))) :=
 I6 ch.fy ch.ed ch.dp ch.dN ch.hU (R (ch.ed+ch.fy)) 0 ([]:List aQ) >>= fun r1 =>
 IA ch.fy ch.ed ch.dp ch.dN ch.hU (R (ch.ed+ch.fy)) 0 ([]:List bD) ([]:List (List aQ)) ([]:List Int) r1 >>= fun bl =>
 some (R (ch.ed+ch.fy),bl.1,bl.2.2.1,bl.2.2.2,bl.2.1)
theorem Xi {ch:hK}:bB (zZ ch) (fun a=>Con a5 59 [.agg (og ch)] [] (.ref 0 0 0 0) [(ae.mk 4 [(dW a.1 0 1 0 a.2.1.length 0 2 0 a.2.2.1.length 0 3 0 a.2.2.2.1.length)] .live::ae.mk 1 (a.2.1.map (bp 0 4 3)) .live::ae.mk 1 (a.2.2.1.map eI) .live::ae.mk 3 (a.2.2.2.1.map aR) .live::(cf 3 aR a.2.2.2.2))]):=by
 unfold zZ
 exact .ar fun r1 o =>
  .ar fun bl au =>
  .ret (let q1:=bZ [0,1,4,5,6,2];let a6:=cf 3 aR bl.2.1;let bY:=R (ch.ed+ch.fy);let cz:=av 1 (bp 0 4 3) bl.1;kH [(J 2),(J 8),(J 1),.rS 8 3 3,.aP [0,8,11] [.box [.id,.id,.id,.id,.id],.box [.id,.id,.id,.len (([]:List aQ).length)],.cE (av 3 aR ([]:List aQ))] (a8 [1,3,4]),(Hj ch.fy ch.ed ch.dp ch.dN ch.hU bY r1).e6,(J 1),.rS 1 1 1,.Fg,.rS 1 2 1,.aP [0,1,4,5,6,2] [.box [.id,.id,.id,.id,.id],.box [.id,.len (([]:List bD).length),.len (([]:List Int).length),.id],.bK (av 1 (bp 3 0 3) ([]:List bD)),.bK (cf 3 aR ([]:List (List aQ))),.cE (av 1 eI ([]:List Int)),.pure] (a8 [1,3,5]),(G4 ch.fy ch.ed ch.dp ch.dN ch.hU bY bl).e6,(J 2),.Cp [{bL:=[(0,0),(1,0),(3,0),(4,0)],iP:=some (2,0)}] [([.box [.id,.at_ 0 1 bl.1.length,.at_ 0 2 bl.2.2.1.length,.at_ 0 3 bl.2.2.2.length],.rx cz,.pure,.pure],some (.rx a6))] [(2,.bs (.c9 (.at_ 0 0 0)))]] [0] [.bK (ae.mk 4 [(dW bY 0 1 0 bl.1.length 0 2 0 bl.2.2.1.length 0 3 0 bl.2.2.2.length)] .live::ae.mk 1 (bl.1.map (bp 0 4 3)) .live::ae.mk 1 (bl.2.2.1.map eI) .live::ae.mk 3 (bl.2.2.2.map aR) .live::a6)] (.bi (fc aQ) (cZ 3 .live (nd aR)) (aI 3 .live eY ([]:List aQ)) (Wu o) (fc bD) (fc Int) (c8 (rY (cd:=q1) 1 .live (bp 3 0 3) (nd (bp 5 0 3)) (ty (rfl:q1 5=some 3))) (nN (cd:=q1))) (np (cd:=q1) (Rz .live 3 aR) (mB fq)) (.bi (cZ 1 .live (nd eI)) (aI 1 .live aN ([]:List Int)) (aI 3 .live eY r1) (We au) (rfl:(kT [{bL:=[(0,0),(1,0),(3,0),(4,0)],iP:=some (2,0)}]) 0 1=some (1,0)) (rfl:bl.1.length=bl.1.length) (rfl:(kT [{bL:=[(0,0),(1,0),(3,0),(4,0)],iP:=some (2,0)}]) 0 2=some (3,0)) (rfl:bl.2.2.1.length=bl.2.2.1.length) (.gu (rfl:(kT [{bL:=[(0,0),(1,0),(3,0),(4,0)],iP:=some (2,0)}]) 0 3=some (4,0)) (rfl:bl.2.2.2.length=bl.2.2.2.length) (Q7 (LF (ki:=(bp 0 4 3)) (cR (bp 2 0 3) bl.1) (fun _=>rfl) (fun x=>(R7 (fun _=>rfl)) x)) RB:rQ (kT [{bL:=[(0,0),(1,0),(3,0),(4,0)],iP:=some (2,0)}]) (av 1 (bp 2 0 3) bl.1) cz) (aI 1 .live aN bl.2.2.1) (aI 3 .live eY bl.2.2.2) (Q9 (gl .live 3 aR bl.2.1) (fun _=>rfl) fq:rQ (kT [{bL:=[(0,0),(1,0),(3,0),(4,0)],iP:=some (2,0)}]) a6 a6) (rfl:(kT [{bL:=[(0,0),(1,0),(3,0),(4,0)],iP:=some (2,0)}]) 0 0=some (0,0)) (c8 (show ae.mk 4 [(dW (R (ch.ed+ch.fy)) 0 1 0 bl.1.length 0 2 0 bl.2.2.1.length 0 3 0 bl.2.2.2.length)] .live=gQ (bZ [0]) (ae.mk 4 [(dW (R (ch.ed+ch.fy)) 0 1 0 bl.1.length 0 2 0 bl.2.2.1.length 0 3 0 bl.2.2.2.length)] .live) from rfl) (c8 (li (bZ [0]) 0 0 4 3 rfl bl.1) (c8 (fN (bZ [0]) 1 kR bl.2.2.1) (c8 (fN (bZ [0]) 3 fq bl.2.2.2) (dR (bZ [0]) 3 fq bl.2.1)))))))))
def HB (bW:Int)(db:List Int)(dc:Int):Int→S:=fun d3=>dr [(1,.n .i64 bW),(10,.isl 1 (db.map eI)),(11,.n .i64 dc),(12,.n .i64 d3)] []
def NW (bW:Int)(db:List Int)(dc:Int):((Unit)⊕(Unit))→dy
 | .inl a=>⟨some 0,[],[]⟩
 | .inr a=>⟨none,[(4,.b true)],[]⟩
def zH (bW:Int)(db:List Int)(dc d3:Int):Option ((Int)⊕((Unit)⊕(Unit))) :=
 if (decide (d3<dc))=true then
  if 0≤d3∧d3<db.length then
  db[d3.toNat]? >>= fun aB =>
  if (aB == bW)=true then
   some (.inr (.inr ()))
  else
   some (.inl (R (d3+(1:Int))))
  else none
 else
  some (.inr (.inl ()))
def Dy (bW:Int)(db:List Int)(dc d3:Int):Option ((Unit)⊕(Unit)):=iter (fun w:Int=>zH bW db dc w) d3
theorem Vu {bW:Int}{db:List Int}{dc d3:Int}:bB (zH bW db dc d3) (dL a5 20 0 85 [1,0,1,0,0] (HB bW db dc d3) (HB bW db dc) (NW bW db dc)):=by
 unfold zH
 exact .ite (fun h1 =>
  .aY fun o =>
  .ar fun aB au =>
  (let t1:List b3:=[(J 1),.aa true,.aw (bo 1 (.b5 (eI aB)) 1),(J 3)];
  have aT:=((.c3 h1 o.1 (cW eI o.2) (b2 eI au)):cA _);
  .ite (fun aA =>
  .ret (bg (t1.append [.aa true,(J 1),.aP [] [] (a8 [4])]) (aT.aH (.e1 aA))))
  (fun aA =>
  .ret (bg (t1.append [.aa false,(J 2),.aP [] [] (a8 [1,10,11,12])]) (aT.aH (.e1 aA))))))
  (fun h1 =>
  .ret (bg [(J 1),.aa false,.aP [] [] []] (.e1 h1)))
theorem N5 {bW:Int}{db:List Int}{dc d3:Int}{r} (h:Dy bW db dc d3=some r):dM a5 20 0 85 [1,0,1,0,0] (HB bW db dc) (NW bW db dc) d3 r:=dO (fun _=>Vu) h
def Ah (hs:py)(bW:Int):Option Bool :=
 Dy bW hs.rK (len_ eI hs.rK) 0 >>= fun r1 =>
 match r1 with
 | .inl dt=>(some false)
 | .inr dt=>(some true)
theorem XX {hs:py}{bW:Int}:bB (Ah hs bW) (fun r=>Con a5 85 [.ej 4 [(u2 hs)] 0 0,.n .i64 bW] [] (.b r) []):=by
 unfold Ah
 exact .ar fun r1 o =>
  (let t1:List b3:=[(J 1),(J 6),.aP [] [] (a8 [1,10,11,12])];
  (by
  rcases r1 with dt|dt
  ·exact (.ret (bz (t1.append [.sub (.exit 0) [] [],(J 1)]) (.e1 (N5 o))))
  ·exact (.ret (bz (t1.append [.sub (.ret) [(4,.b true)] []]) (.e1 (N5 o))))))
def Ai (di:bt):Option Bool :=
 se di.cJ >>= fun r1 =>
 if r1=true then
  if di.cS=true then
   some (decide ((0:Int)<(len_ eI di.cJ)))
  else
   some true
 else
  some false
theorem XY {di:bt}:bB (Ai di) (fun r=>Con a5 108 [.agg (aZ di)] [] (.b r) []):=by
 unfold Ai
 exact .ar fun r1 o =>
  (have b8:=((.aE (Kk r1 o) (bX.b r1)):cA _);
  .ite (fun af =>
  .ite (fun au =>
  .ret (bz [(J 2),.aw (ah 2 (ai (bw 1 (.b r1) true) (ah 9 (ai (.aa false) (ai (.aa true) (ah 1 []))))))] (b8.aH (.bi af af af af (cV au) (cV au) (cV au) (cV au) (.bP af (cV au) af)))))
  (fun au =>
  .ret (bz [(J 2),.aw (ah 2 (ai (bw 1 (.b r1) true) (ah 5 (cw 4 (ai (.aa true) (ai (.aa true) (ah 1 [])))))))] (b8.aH (.bi af af af af (cT au) (cT au) (cT au) (cT au) (.bP af (cT au) af))))))
  (fun af =>
  .ret (bz [(J 2),.aw (ah 2 (ai (bw 1 (.b r1) true) (ah 1 (cw 4 (ah 4 (cw 1 (ai (.aa false) (ah 1 []))))))))] (b8.aH (.d6 af af af af af af)))))
def tl (b1:aQ):Option Bool :=
 Ai b1.fA >>= fun r1 =>
 if r1=true then
  se b1.hM >>= fun ba =>
  if ba=true then
   if ((len_ eI b1.hM) == (0:Int))=true then
    some false
   else
    if (decide ((24:Int)<(len_ eI b1.hM)))=true then
     some false
    else
     if (decide ((24:Int)<(len_ eI b1.fA.cJ)))=true then
      some false
     else
      x8 b1.fA.cJ b1.hM >>= fun et =>
      qH et >>= fun el =>
      some el
  else
   some false
 else
  some false
theorem Kl {b1:aQ}:bB (tl b1) (fun r=>Con a5 89 [.agg (aR b1)] [] (.b r) []):=by
 unfold tl
 exact .ar fun r1 o =>
  (have b8:=((.aE (XY r1 o) (bX.b r1)):cA _);
  .ite (fun af =>
  .ar fun ba aA =>
  (have aT:=b8.aH (.eB (cV af) (cV af) (cV af) (Kk ba aA) (bX.b ba) (cV af) (cV af));
  .ite (fun a0 =>
  (have fO:=aT.aH (.dg (cV a0) (cV a0) (cV a0) (cV a0) (cV a0));
  .ite (fun bm =>
  .ret (bz [(J 2),.aw (ah 2 (ai (bw 1 (.b r1) true) (ah 4 (ai (bw 1 (.b ba) true) (ah 1 (ai (.aa false) (ah 5 (ai (.aa false) (ah 1 (cw 4 (ai (.aa true) (ah 1 (cw 5 (ah 1 [])))))))))))))),.aa true,(J 1)] (fO.aH (.bi bm bm bm bm bm cI cI cI (.bP cI cI cI)))))
  (fun bm =>
  .ite (fun bn =>
  .ret (bz [(J 2),.aw (ah 2 (ai (bw 1 (.b r1) true) (ah 4 (ai (bw 1 (.b ba) true) (ah 1 (ai (.aa false) (ah 5 (ai (.aa false) (ah 5 (ai (.aa false) (ah 1 (cw 5 (ai (.aa true) []))))))))))))),.aa true,(J 1)] (fO.aH (.bi bm bm bm bm bm bn bn bn (.c3 bn bn bn cI)))))
  (fun bn =>
  (let t4:List b3:=[(J 2),.aw (ah 2 (ai (bw 1 (.b r1) true) (ah 4 (ai (bw 1 (.b ba) true) (ah 1 (ai (.aa false) (ah 5 (ai (.aa false) (ah 5 (ai (.aa false) (ah 6 (ai (.aa false) []))))))))))))];
  have mw:=fO.aH (.bi bm bm bm bm bm bn bn bn (.bP bn bn bn));
  .ite (fun cx =>
  .ret (bz (t4.append [.aa true,(J 1)]) (mw.aH (.e1 cx))))
  (fun cx =>
  .ar fun et fm =>
  .ar fun el eS =>
  .ret (bz (t4.append [.aa false,.aw (ah 5 (ai (bw 2 (.isl 1 (et.map eI)) false) (ai (bw 1 (.b el) true) (ah 1 []))))]) (mw.aH (.c3 cx (OP et fm) (z6 el eS) (bX.b el))))))))))
  (fun a0 =>
  .ret (bz [(J 2),.aw (ah 2 (ai (bw 1 (.b r1) true) (ah 4 (ai (bw 1 (.b ba) true) (ah 1 (ai (.aa false) (ah 1 (cw 4 (ai (.aa true) (ah 1 (cw 4 (ah 2 (cw 5 (ah 1 [])))))))))))))),.aa true,(J 1)] (aT.aH (.bi (cT a0) (cT a0) (cT a0) (cT a0) (cT a0) cI cI cI (.eB cI cI cI cI cI cI cI)))))))
  (fun af =>
  .ret (bz [(J 2),.aw (ah 2 (ai (bw 1 (.b r1) true) (ah 2 (cw 4 (ai (.aa true) (ah 1 (cw 4 (ah 2 (cw 4 (ah 2 (cw 5 (ah 1 [])))))))))))),.aa true,(J 1)] (b8.aH (.bi (cT af) (cT af) (cT af) (cT af) (cT af) cI cI cI (.bi cI cI cI cI cI cI cI cI (.bP cI cI cI)))))))
def p7 (b1:aQ):Option Int :=
 tl b1 >>= fun r1 =>
 if r1=true then
  if ((len_ eI b1.fA.cJ) == (0:Int))=true then
   some 0
  else
   if b1.fA.cS=true then
    some (-1)
   else
    some 1
 else
  some 0
theorem tc {b1:aQ}:bB (p7 b1) (fun r=>Con a5 61 [.agg (aR b1)] [] (.n .i64 r) []):=by
 unfold p7
 exact .ar fun r1 o =>
  (have b8:=((.aE (Kl r1 o) (bX.b r1)):cA _);
  .ite (fun af =>
  (let t2:List b3:=[(J 2),.aw (ah 1 (ai (bw 1 (.b r1) true) (bo 7 (.aa false) 1)))];
  have fO:=b8.aH (.d6 (cV af) (cV af) (cV af) (cV af) (cV af) (cV af));
  .ite (fun au =>
  .ret (bz (t2.append [.aa true,(J 1)]) (fO.aH (.e1 au))))
  (fun au =>
  .ite (fun aA =>
  .ret (bz (t2.append [.aa false,(J 4),.aa true,(J 1)]) (fO.aH (.aE au aA))))
  (fun aA =>
  .ret (bz (t2.append [.aa false,(J 4),.aa false,(J 1)]) (fO.aH (.aE au aA)))))))
  (fun af =>
  .ret (bz [(J 2),.aw (ah 1 (ai (bw 1 (.b r1) true) (ah 2 (cw 5 (ai (.aa true) (ah 1 [])))))),.aa true,(J 1)] (b8.aH (.eB (cT af) (cT af) (cT af) (cT af) (cT af) (cT af) cI)))))
def HV (eT:Int)(e4:List (List aQ))(eR:List Int)(eW:List aQ)(bW:Int)(fh:Bool)(aO oV:Int):(Int×Int)→S:=fun (aM,mV)=>dr [(0,.ej 4 [[.n .i64 eT,.isl 1 (e4.map (eA 3 aR)),.isl 1 (eR.map eI),.isl 3 (eW.map aR)]] 0 0),(1,.n .i64 bW),(2,.b fh),(7,.n .i64 aM),(8,.n .i64 aO),(40,.isl 1 (eR.map eI)),(41,.n .i64 oV),(42,.n .i64 mV)] []
def IB (eT:Int)(e4:List (List aQ))(eR:List Int)(eW:List aQ)(bW:Int)(fh:Bool)(aO oV:Int):Int→dy
 | a=>⟨some 2,[(0,.ej 4 [[.n .i64 eT,.isl 1 (e4.map (eA 3 aR)),.isl 1 (eR.map eI),.isl 3 (eW.map aR)]] 0 0),(1,.n .i64 bW),(2,.b fh),(7,.n .i64 a),(8,.n .i64 aO)],[]⟩
def HW (eT:Int)(e4:List (List aQ))(eR:List Int)(eW:List aQ)(bW:Int)(fh:Bool)(aO oV aM mV:Int):Option ((Int×Int)⊕(Int)) :=
 if (decide (mV<oV))=true then
  if 0≤mV∧mV<eR.length then
  eR[mV.toNat]? >>= fun aB =>
  if (aB == aO)=true then
   if 0≤mV∧mV<e4.length then
   e4[mV.toNat]? >>= fun c7 =>
   if 0≤bW∧bW<c7.length then
   c7[bW.toNat]? >>= fun ja =>
   p7 ja >>= fun el =>
   some (.inl (el,R (mV+(1:Int))))
   else none
   else none
  else
   some (.inl (aM,R (mV+(1:Int))))
  else none
 else
  some (.inr aM)
def OD (eT:Int)(e4:List (List aQ))(eR:List Int)(eW:List aQ)(bW:Int)(fh:Bool)(aO oV aM mV:Int):Option (Int):=iter (fun w:Int×Int=>HW eT e4 eR eW bW fh aO oV w.1 w.2) (aM,mV)
theorem VI {eT:Int}{e4:List (List aQ)}{eR:List Int}{eW:List aQ}{bW:Int}{fh:Bool}{aO oV aM mV:Int}:bB (HW eT e4 eR eW bW fh aO oV aM mV) (dL a5 63 0 86 [1,1,0,1,0,0,1,0,0,1,1,0,0] (HV eT e4 eR eW bW fh aO oV (aM,mV)) (HV eT e4 eR eW bW fh aO oV) (IB eT e4 eR eW bW fh aO oV)):=by
 unfold HW
 exact .ite (fun h1 =>
  .aY fun o =>
  .ar fun aB au =>
  (let t1:List b3:=[(J 1),.aa true,.aw (bo 2 (.b5 (eI aB)) 2),(J 3)];
  have aT:=((.c3 h1 o.1 (cW eI o.2) (b2 eI au)):cA _);
  .ite (fun aA =>
  .aY fun a0 =>
  .ar fun c7 bn =>
  .aY fun cx =>
  .ar fun ja fm =>
  .ar fun el eS =>
  .ret (bg (t1.append [.aa true,.aw (ah 6 (ai (.b5 ((eA 3 aR) c7)) (ah 2 (ai (.b5 (aR ja)) (ai (bw 1 (.n .i64 el) true) (ah 1 [])))))),(J 2),.aP [] [] (a8 [0,1,2,7,8,40,41,42])]) (aT.aH (.bi aA a0.1 (cW (eA 3 aR) a0.2) (b2 (eA 3 aR) bn) cx.1 (cW aR cx.2) (b2 aR fm) (tc el eS) (.e1 (bX.n .i64 el))))))
  (fun aA =>
  .ret (bg (t1.append [.aa false,(J 2),.aP [] [] (a8 [0,1,2,7,8,40,41,42])]) (aT.aH (.e1 aA))))))
  (fun h1 =>
  .ret (bg [(J 1),.aa false,.aP [] [] (a8 [0,1,2,7,8])] (.e1 h1)))
theorem Xj {eT:Int}{e4:List (List aQ)}{eR:List Int}{eW:List aQ}{bW:Int}{fh:Bool}{aO oV aM mV:Int}{r} (h:OD eT e4 eR eW bW fh aO oV aM mV=some r):dM a5 63 0 86 [1,1,0,1,0,0,1,0,0,1,1,0,0] (HV eT e4 eR eW bW fh aO oV) (IB eT e4 eR eW bW fh aO oV) (aM,mV) r:=dO (fun _=>VI) h
def HX (eT:Int)(e4:List (List aQ))(eR:List Int)(eW:List aQ)(bW:Int)(fh:Bool):(Int×Int)→S:=fun (aM,aO)=>dr [(0,.ej 4 [[.n .i64 eT,.isl 1 (e4.map (eA 3 aR)),.isl 1 (eR.map eI),.isl 3 (eW.map aR)]] 0 0),(1,.n .i64 bW),(2,.b fh),(7,.n .i64 aM),(8,.n .i64 aO)] []
def N6 (eT:Int)(e4:List (List aQ))(eR:List Int)(eW:List aQ)(bW:Int)(fh:Bool):((Int)⊕(Unit))→dy
 | .inl a=>⟨some 0,[(7,.n .i64 a)],[]⟩
 | .inr a=>⟨none,[(6,.n .i64 (-1:Int))],[]⟩
def zK (eT:Int)(e4:List (List aQ))(eR:List Int)(eW:List aQ)(bW:Int)(fh:Bool)(aM aO:Int):Option ((Int×Int)⊕((Int)⊕(Unit))) :=
 if (aM == (0:Int))=true then
  if fh=true then
   if (decide (aO<eT))=true then
    if (aO == bW)=true then
     some (.inr (.inr ()))
    else
     OD eT e4 eR eW bW fh aO (len_ eI eR) aM 0 >>= fun ax =>
     some (.inl (ax,R (aO+(1:Int))))
   else
    some (.inr (.inl aM))
  else
   some (.inr (.inl aM))
 else
  some (.inr (.inl aM))
def JS (eT:Int)(e4:List (List aQ))(eR:List Int)(eW:List aQ)(bW:Int)(fh:Bool)(aM aO:Int):Option ((Int)⊕(Unit)):=iter (fun w:Int×Int=>zK eT e4 eR eW bW fh w.1 w.2) (aM,aO)
theorem VJ {eT:Int}{e4:List (List aQ)}{eR:List Int}{eW:List aQ}{bW:Int}{fh:Bool}{aM aO:Int}:bB (zK eT e4 eR eW bW fh aM aO) (dL a5 63 0 86 [1,1,0,1,0,0] (HX eT e4 eR eW bW fh (aM,aO)) (HX eT e4 eR eW bW fh) (N6 eT e4 eR eW bW fh)):=by
 unfold zK
 exact .ite (fun h1 =>
  .ite (fun o =>
  (let t1:List b3:=[.aw (ah 4 (ai (.aa true) (ah 7 (ai (.aa true) []))))];
  have aT:=((.bi h1 h1 o o o o o o (.e1 o)):cA _);
  .ite (fun af =>
  .ite (fun au =>
  .ret (bg (t1.append [.aa true,(J 3),.aa true,(J 1),.aP [] [] (a8 [6])]) (aT.aH (.aE af au))))
  (fun au =>
  .ar fun ax a0 =>
  .ret (bg (t1.append [.aa true,(J 3),.aa false,(J 6),.aP [] [] (a8 [0,1,2,7,8,40,41,42]),(IB eT e4 eR eW bW fh aO (len_ eI eR) ax).e6,(J 3),.aP [] [] (a8 [0,1,2,7,8])]) (aT.aH (.bP af au (Xj a0))))))
  (fun af =>
  .ret (bg (t1.append [.aa false,.aP [] [] (a8 [7])]) (aT.aH (.e1 af))))))
  (fun o =>
  .ret (bg [.aw (ah 4 (ai (.aa true) (ah 1 (cw 6 (ai (.aa false) []))))),.aa false,.aP [] [] (a8 [7])] (.bi h1 h1 o o o o o o (.aE o cU)))))
  (fun h1 =>
  .ret (bg [.aw (ah 3 (cw 1 (ai (.aa false) (ah 1 (cw 6 (ah 1 [])))))),.aa false,.aP [] [] (a8 [7])] (.bi h1 h1 cU cU cU cU cU cU (.e1 cU))))
theorem Og {eT:Int}{e4:List (List aQ)}{eR:List Int}{eW:List aQ}{bW:Int}{fh:Bool}{aM aO:Int}{r} (h:JS eT e4 eR eW bW fh aM aO=some r):dM a5 63 0 86 [1,1,0,1,0,0] (HX eT e4 eR eW bW fh) (N6 eT e4 eR eW bW fh) (aM,aO) r:=dO (fun _=>VJ) h
def uJ (hs:py)(bW:Int)(fh:Bool):Option Int :=
 if 0≤bW∧bW<hs.Bz.length then
 hs.Bz[bW.toNat]? >>= fun eb =>
 p7 eb >>= fun ba =>
 JS hs.Nl hs.sB hs.rK hs.Bz bW fh ba 0 >>= fun cl =>
 match cl with
 | .inl mv=>(some mv)
 | .inr mv=>(some (-1))
 else none
theorem Ym {hs:py}{bW:Int}{fh:Bool}:bB (uJ hs bW fh) (fun r=>Con a5 86 [.ej 4 [(u2 hs)] 0 0,.n .i64 bW,.b fh] [] (.n .i64 r) []):=by
 unfold uJ
 exact .aY fun h1 =>
  .ar fun eb af =>
  .ar fun ba aA =>
  .ar fun cl bm =>
  (let t1:List b3:=[(J 1),.aw (ah 6 (ai (.b5 (aR eb)) (ai (bw 1 (.n .i64 ba) true) (ah 1 [])))),(J 1),.aP [] [] (a8 [0,1,2,7,8])];
  have aT:=((.dg h1.1 (cW aR h1.2) (b2 aR af) (tc ba aA) (bX.n .i64 ba)):cA _);
  (by
  rcases cl with mv|mv
  ·exact (.ret (bz (t1.append [.sub (.exit 0) [(7,.n .i64 mv)] [],(J 2)]) (aT.aH (.e1 (Og bm)))))
  ·exact (.ret (bz (t1.append [.sub (.ret) [(6,.n .i64 (-1:Int))] []]) (aT.aH (.e1 (Og bm)))))))
def uR (b1 aM:aQ):Option aQ :=
 tl b1 >>= fun r1 =>
 if r1=true then
  tl aM >>= fun ba =>
  if ba=true then
   hY b1.fA.cJ aM.hM >>= fun bQ =>
   hY b1.hM aM.fA.cJ >>= fun cg =>
   od (!(b1.fA.cS == aM.fA.cS)) bQ cg >>= fun dh =>
   some dh
  else
   some (⟨(⟨false,([]:List Int)⟩:bt),([]:List Int)⟩:aQ)
 else
  some (⟨(⟨false,([]:List Int)⟩:bt),([]:List Int)⟩:aQ)
theorem OQ {b1 aM:aQ}:bB (uR b1 aM) (fun r=>Con a5 105 [.agg (aR b1),.agg (aR aM)] [] (.agg (aR r)) []):=by
 unfold uR
 exact .ar fun r1 o =>
  (have b8:=((.aE (Kl r1 o) (bX.b r1)):cA _);
  .ite (fun af =>
  .ar fun ba aA =>
  (let t2:List b3:=[(J 3),.aw (ah 1 (ai (bw 1 (.b r1) true) (ah 3 (ai (bw 1 (.b ba) true) (ah 1 (ai (.aa false) []))))))];
  have fO:=b8.aH (.d6 (cV af) (cV af) (Kl ba aA) (bX.b ba) (cV af) (cV af));
  .ite (fun a0 =>
  .ar fun bQ bn =>
  .ar fun cg cQ =>
  .ar fun dh eH =>
  .ret (bz (t2.append [.aa false,.aw (ah 12 (ai (bw 2 (.isl 1 (bQ.map eI)) false) (ah 5 (ai (bw 2 (.isl 1 (cg.map eI)) false) (ai (bw 3 (.agg (aR dh)) false) (ah 1 []))))))]) (fO.aH (.c3 (cV a0) (pe bQ bn) (pe cg cQ) (z8 dh eH)))))
  (fun a0 =>
  .ret (bz (t2.append [.aa true,(J 2)]) (fO.aH (.e1 (cT a0))) (.bs (.agg [.id,.iF 1,.iF 1]))))))
  (fun af =>
  .ret (bz [(J 3),.aw (ah 1 (ai (bw 1 (.b r1) true) (ah 2 (cw 3 (ai (.aa true) []))))),.aa true,(J 2)] (b8.aH (.dg (cT af) (cT af) (cT af) (cT af) cI)) (.bs (.agg [.id,.iF 1,.iF 1])))))
def AE (di eE:bt):Option Int :=
 if di.cS=true then
  if eE.cS=true then
   p8 eE.cJ di.cJ >>= fun bl =>
   some bl
  else
   some (-1)
 else
  if eE.cS=true then
   some 1
  else
   p8 di.cJ eE.cJ >>= fun bl =>
   some bl
theorem YI {di eE:bt}:bB (AE di eE) (fun r=>Con a5 123 [.agg (aZ di),.agg (aZ eE)] [] (.n .i64 r) []):=by
 unfold AE
 exact .ite (fun h1 =>
  (let t1:List b3:=[(J 3),.aw (bo 6 (.aa true) 1)];
  .ite (fun o =>
  .ar fun bl au =>
  .ret (bz (t1.append [.aa false,.aw (ah 4 (cw 2 (ai (.aa false) (ah 1 [])))),.aa false,(J 3),.aa true,.aw (bo 4 (bw 2 (.n .i64 bl) true) 1)]) (.bi h1 h1 h1 h1 (cV o) (cV h1) (cV h1) (cV h1) (.c3 cU h1 (xV bl au) (bX.n .i64 bl)))))
  (fun o =>
  .ret (bz (t1.append [.aa true,(J 1)]) (.dg h1 h1 h1 h1 (cT o))))))
  (fun h1 =>
  (let t1:List b3:=[(J 3),.aw (ah 3 (cw 3 (ai (.aa false) (ah 1 [])))),.aa false,.aw (bo 6 (.aa true) 1)];
  have aT:=((.gu h1 h1 h1 h1 cU (cT h1) (cT h1) (cT h1)):cA _);
  .ite (fun o =>
  .ret (bz (t1.append [.aa true,(J 1)]) (aT.aH (.e1 o))))
  (fun o =>
  .ar fun bl au =>
  .ret (bz (t1.append [.aa false,(J 3),.aa false,.aw (bo 4 (bw 2 (.n .i64 bl) true) 1)]) (aT.aH (.c3 o h1 (xV bl au) (bX.n .i64 bl)))))))
def uS (b1 aM:aQ):Option Int :=
 hY b1.fA.cJ aM.hM >>= fun r1 =>
 h5 b1.fA.cS r1 >>= fun bl =>
 hY aM.fA.cJ b1.hM >>= fun ax =>
 h5 aM.fA.cS ax >>= fun bQ =>
 AE bl bQ >>= fun cg =>
 some cg
theorem OR {b1 aM:aQ}:bB (uS b1 aM) (fun r=>Con a5 106 [.agg (aR b1),.agg (aR aM)] [] (.n .i64 r) []):=by
 unfold uS
 exact .ar fun r1 o =>
  .ar fun bl au =>
  .ar fun ax a0 =>
  .ar fun bQ bn =>
  .ar fun cg cQ =>
  .ret (bz [(J 3),.aw (ah 8 (ai (bw 2 (.isl 1 (r1.map eI)) false) (ai (bw 2 (.agg (aZ bl)) false) (ah 8 (ai (bw 2 (.isl 1 (ax.map eI)) false) (ai (bw 2 (.agg (aZ bQ)) false) (ai (bw 2 (.n .i64 cg) true) (ah 1 []))))))))] (.d6 (pe r1 o) (oc bl au) (pe ax a0) (oc bQ bn) (YI cg cQ) (bX.n .i64 cg)))
def HC (eT:Int)(e4:List (List aQ))(eR:List Int)(eW:List aQ)(bW cY:Int):(Int×Int×Bool×(List Int)×(List Int))→S:=fun (ig,ee,aK,aJ,bx)=>dr [(0,.ej 4 [[.n .i64 eT,.isl 1 (e4.map (eA 3 aR)),.isl 1 (eR.map eI),.isl 3 (eW.map aR)]] 0 0),(1,.n .i64 bW),(5,.n .i64 ig),(6,.ref 0 0 0 0),(14,.isl 1 (e4.map (eA 3 aR))),(15,.n .i64 cY),(16,.n .i64 ee)] [[ae.mk 3 [[.b aK,.isl 1 (aJ.map eI),.isl 1 (bx.map eI)]] .live]]
def NX (eT:Int)(e4:List (List aQ))(eR:List Int)(eW:List aQ)(bW cY:Int):Int→dy
 | a=>⟨some 0,[(5,.n .i64 a)],[]⟩
def xf (eT:Int)(e4:List (List aQ))(eR:List Int)(eW:List aQ)(bW cY ig ee:Int)(aK:Bool)(aJ bx:List Int):Option ((Int×Int×Bool×(List Int)×(List Int))⊕(Int)) :=
 if (decide (ee<cY))=true then
  if 0≤ee∧ee<e4.length then
  e4[ee.toNat]? >>= fun aB =>
  if 0≤bW∧bW<aB.length then
  aB[bW.toNat]? >>= fun cu =>
  p7 cu >>= fun c2 =>
  if (decide (c2≤(0:Int)))=true then
   some (.inl (ig,R (ee+(1:Int)),aK,aJ,bx))
  else
   if 0≤(R ((len_ aR aB)-(1:Int)))∧(R ((len_ aR aB)-(1:Int)))<aB.length then
   aB[(R ((len_ aR aB)-(1:Int))).toNat]? >>= fun MF =>
   uR MF cu >>= fun fo =>
   if (decide (ig<(0:Int)))=true then
    some (.inl (ee,R (ee+(1:Int)),fo.fA.cS,fo.fA.cJ,fo.hM))
   else
    uS fo (⟨(⟨aK,aJ⟩:bt),bx⟩:aQ) >>= fun gb =>
    if (decide (gb<(0:Int)))=true then
     some (.inl (ee,R (ee+(1:Int)),fo.fA.cS,fo.fA.cJ,fo.hM))
    else
     if (gb == (0:Int))=true then
      if 0≤ee∧ee<eR.length then
      eR[ee.toNat]? >>= fun MG =>
      if 0≤ig∧ig<eR.length then
      eR[ig.toNat]? >>= fun MH =>
      if (decide (MG<MH))=true then
       some (.inl (ee,R (ee+(1:Int)),fo.fA.cS,fo.fA.cJ,fo.hM))
      else
       some (.inl (ig,R (ee+(1:Int)),aK,aJ,bx))
      else none
      else none
     else
      some (.inl (ig,R (ee+(1:Int)),aK,aJ,bx))
   else none
  else none
  else none
 else
  some (.inr ig)
def JE (eT:Int)(e4:List (List aQ))(eR:List Int)(eW:List aQ)(bW cY ig ee:Int)(aK:Bool)(aJ bx:List Int):Option (Int):=iter (fun w:Int×Int×Bool×(List Int)×(List Int)=>xf eT e4 eR eW bW cY w.1 w.2.1 w.2.2.1 w.2.2.2.1 w.2.2.2.2) (ig,ee,aK,aJ,bx)
theorem Vv {eT:Int}{e4:List (List aQ)}{eR:List Int}{eW:List aQ}{bW cY ig ee:Int}{aK:Bool}{aJ bx:List Int}:bB (xf eT e4 eR eW bW cY ig ee aK aJ bx) (dL a5 73 0 87 [1,1,1,0,1,0,0] (HC eT e4 eR eW bW cY (ig,ee,aK,aJ,bx)) (HC eT e4 eR eW bW cY) (NX eT e4 eR eW bW cY)):=by
 unfold xf
 exact .ite (fun h1 =>
  .aY fun o =>
  .ar fun aB au =>
  .aY fun aA =>
  .ar fun cu bm =>
  .ar fun c2 cx =>
  (let t1:List b3:=[(J 1),.aa true,.aw (bo 2 (.b5 ((eA 3 aR) aB)) 2),.aw (ah 3 (ai (.b5 (aR cu)) (ai (bw 1 (.n .i64 c2) true) (ah 1 []))))];
  have aT:=((.bi h1 o.1 (cW (eA 3 aR) o.2) (b2 (eA 3 aR) au) aA.1 (cW aR aA.2) (b2 aR bm) (tc c2 cx) (.e1 (bX.n .i64 c2))):cA _);
  .ite (fun cQ =>
  .ret (bg (t1.append [.aa true,(J 2),.aP [0] [.box [.id,.id,.id]] (a8 [0,1,5,6,14,15,16])]) (aT.aH (.e1 cQ))))
  (fun cQ =>
  .aY fun fm =>
  .ar fun MF eS =>
  .ar fun fo fJ =>
  (let t3:List b3:=t1.append [.aa false,.aw (ah 5 (ai (.b5 (aR MF)) (ah 3 (ai (.b5 (aR cu)) (ai (bw 2 (.agg (aR fo)) false) (ah 2 []))))))];
  have e3:=aT.aH (.gu cQ fm.1 (cW aR fm.2) (b2 aR eS) aA.1 (cW aR aA.2) (b2 aR bm) (OQ fo fJ));
  .ite (fun ha =>
  .ret (bg (t3.append [.aw (ah 3 (cw 4 (ai (.aa true) (ah 1 (cw 5 (ah 15 (cw 1 (ah 1 [])))))))),.aa true,(J 2),(J 2),(J 2),.aP [0] [.box [.id,.id,.id]] (a8 [0,1,5,6,14,15,16])]) (e3.aH (.bi ha ha ha ha ha cI cI cI (.c3 cI cI cI cI)))))
  (fun ha =>
  .ar fun gb hy =>
  (have mw:=e3.aH (.eB ha ha ha (OR gb hy) (bX.n .i64 gb) ha ha);
  .ite (fun gq =>
  .ret (bg (t3.append [.aw (ah 5 (ai (bw 2 (.n .i64 gb) true) (ah 1 (ai (.aa false) (ah 1 (cw 5 (ah 15 (cw 1 (ai (.aa true) []))))))))),.aa true,(J 2),(J 2),(J 2),.aP [0] [.box [.id,.id,.id]] (a8 [0,1,5,6,14,15,16])]) (mw.aH (.gu gq gq gq gq gq gq gq cI))))
  (fun gq =>
  (have kj:=mw.aH (.eB gq gq gq (OR gb hy) (bX.n .i64 gb) gq gq);
  .ite (fun ft =>
  .aY fun gJ =>
  .ar fun MG na =>
  .aY fun rU =>
  .ar fun MH vQ =>
  (let t7:List b3:=t3.append [.aw (ah 5 (ai (bw 2 (.n .i64 gb) true) (ah 1 (ai (.aa false) (ah 3 (ai (bw 2 (.n .i64 gb) true) (ah 8 (ai (.b5 (eI MG)) (ah 6 (ai (.b5 (eI MH)) (ah 1 (ai (.aa true) (ai (.aa false) [])))))))))))))];
  have lR:=kj.aH (.bi ft ft ft ft ft ft gJ.1 (cW eI gJ.2) (.bi ft (b2 eI na) ft ft ft ft ft ft (.gu rU.1 (cW eI rU.2) ft (b2 eI vQ) ft gq ft gq)));
  .ite (fun sP =>
  .ret (bg (t7.append [.aa true,(J 2),(J 2),(J 2),.aP [0] [.box [.id,.id,.id]] (a8 [0,1,5,6,14,15,16])]) (lR.aH (.e1 sP))))
  (fun sP =>
  .ret (bg (t7.append [.aa false,(J 2),.aP [0] [.box [.id,.id,.id]] (a8 [0,1,5,6,14,15,16])]) (lR.aH (.e1 sP))))))
  (fun ft =>
  .ret (bg (t3.append [.aw (ah 5 (ai (bw 2 (.n .i64 gb) true) (ah 1 (ai (.aa false) (ah 3 (ai (bw 2 (.n .i64 gb) true) (ah 2 (cw 15 (ai (.aa false) (ai (.aa false) [])))))))))),.aa false,(J 2),.aP [0] [.box [.id,.id,.id]] (a8 [0,1,5,6,14,15,16])]) (kj.aH (.bi ft ft ft ft ft ft ft ft (.bi ft ft ft ft ft ft ft gq (.bP ft gq cU))))))))))))))
  (fun h1 =>
  .ret (bg [(J 1),.aa false,.aP [] [] (a8 [5])] (.e1 h1)))
theorem W1 {eT:Int}{e4:List (List aQ)}{eR:List Int}{eW:List aQ}{bW cY ig ee:Int}{aK:Bool}{aJ bx:List Int}{r} (h:JE eT e4 eR eW bW cY ig ee aK aJ bx=some r):dM a5 73 0 87 [1,1,1,0,1,0,0] (HC eT e4 eR eW bW cY) (NX eT e4 eR eW bW cY) (ig,ee,aK,aJ,bx) r:=dO (fun _=>Vv) h
def Aj (hs:py)(bW:Int):Option Int :=
 JE hs.Nl hs.sB hs.rK hs.Bz bW (len_ (eA 3 aR) hs.sB) (-1) 0 false ([]:List Int) ([]:List Int) >>= fun r1 =>
 some r1
theorem XZ {hs:py}{bW:Int}:bB (Aj hs bW) (fun r=>Con a5 87 [.ej 4 [(u2 hs)] 0 0,.n .i64 bW] [] (.n .i64 r) []):=by
 unfold Aj
 exact .ar fun r1 o =>
  .ret (bz [(J 1),(J 1),(J 3),(J 6),.aP [3] [.box [.id,.iF 1,.iF 1]] (a8 [0,1,5,6,14,15,16]),.sub (.exit 0) [(5,.n .i64 r1)] [],(J 2)] (.e1 (W1 o)))
def uT (b1:aQ):Option aQ :=
 h5 (!b1.fA.cS) b1.fA.cJ >>= fun r1 =>
 if (([]:List Int)++b1.hM).length*8≤140737488355328 then
 some (⟨r1,([]:List Int)++b1.hM⟩:aQ)
 else none
theorem OS {b1:aQ}:bB (uT b1) (fun r=>Con a5 124 [.agg (aR b1)] [] (.agg (aR r)) []):=by
 unfold uT
 exact .ar fun r1 o =>
  .aY fun af =>
  .ret (let q1:=(([]:List Int)++b1.hM);let a6:=cR eI b1.hM;bz [(J 2),.aw (ah 7 (ai (bw 2 (.agg (aZ r1)) false) (bo 3 (.aH (q1.length)) 2)))] (.eB (oc r1 o) (nn (show []=(([]:List Int)).map eI from rfl) (fc Int)) (lV (fc Int) a6:q1.length=0+(b1.hM.map eI).length) af (k4 (iv (show []=(([]:List Int)).map eI from rfl) (fc Int) a6) (dQ q1)) (lj (iv (show []=(([]:List Int)).map eI from rfl) (fc Int) a6) (dQ q1)) (dd aN q1)) (.bs (.agg [.id,.id,.dF (q1.map eI)])))
def ti (b1 aM:aQ):Option aQ :=
 hY b1.fA.cJ aM.fA.cJ >>= fun r1 =>
 hY b1.hM aM.hM >>= fun bl =>
 od (!(b1.fA.cS == aM.fA.cS)) r1 bl >>= fun ax =>
 some ax
theorem OT {b1 aM:aQ}:bB (ti b1 aM) (fun r=>Con a5 125 [.agg (aR b1),.agg (aR aM)] [] (.agg (aR r)) []):=by
 unfold ti
 exact .ar fun r1 o =>
  .ar fun bl au =>
  .ar fun ax a0 =>
  .ret (bz [(J 3),.aw (ah 13 (ai (bw 2 (.isl 1 (r1.map eI)) false) (ah 4 (ai (bw 2 (.isl 1 (bl.map eI)) false) (ai (bw 3 (.agg (aR ax)) false) (ah 1 []))))))] (.bP (pe r1 o) (pe bl au) (z8 ax a0)))
def G5 (kX lT h6 ev:Nat)(hi:Int)(an:List aQ)(j7:Bool)(j4 j2:List Int):(Int×(List aQ))→S:=fun (fK,ab)=>dr [(0,.bf 0 0 kX lT),(1,.bf 1 0 h6 ev),(7,.ref 2 0 0 0),(19,.n .i64 hi),(20,.n .i64 fK)] [(av 3 aR ab),(av 3 aR an),[ae.mk 3 [[.b j7,.isl 1 (j4.map eI),.isl 1 (j2.map eI)]] .live]]
def NQ (kX lT h6 ev:Nat)(hi:Int)(an:List aQ)(j7:Bool)(j4 j2:List Int):(List aQ)→dy
 | a=>⟨some 0,[],[(av 3 aR a),(av 3 aR an)]⟩
def w3 (kX lT h6 ev:Nat)(hi:Int)(an:List aQ)(j7:Bool)(j4 j2:List Int)(fK:Int)(ab:List aQ):Option ((Int×(List aQ))⊕((List aQ))) :=
 if (decide (fK<hi))=true then
  if 0≤fK∧fK<(ev:Nat) then
  an[(h6+fK.toNat)]? >>= fun aB =>
  p7 aB >>= fun ax =>
  if (ax != (0:Int))=true then
   if 0≤fK∧fK<(lT:Nat) then
   ab[(kX+fK.toNat)]? >>= fun dl =>
   ti (⟨(⟨j7,j4⟩:bt),j2⟩:aQ) aB >>= fun dh =>
   rB dl dh >>= fun eK =>
   if (kX+fK.toNat)<ab.length then
   some (.inl (R (fK+(1:Int)),ab.set (kX+fK.toNat) eK))
   else none
   else none
  else
   some (.inl (R (fK+(1:Int)),ab))
  else none
 else
  some (.inr ab)
def I7 (kX lT h6 ev:Nat)(hi:Int)(an:List aQ)(j7:Bool)(j4 j2:List Int)(fK:Int)(ab:List aQ):Option ((List aQ)):=iter (fun w:Int×(List aQ)=>w3 kX lT h6 ev hi an j7 j4 j2 w.1 w.2) (fK,ab)
theorem U3 {kX lT h6 ev:Nat}{hi:Int}{an:List aQ}{j7:Bool}{j4 j2:List Int}{fK:Int}{ab:List aQ}:bB (w3 kX lT h6 ev hi an j7 j4 j2 fK ab) (dL a5 44 2 107 [1,1,1,1,0,0] (G5 kX lT h6 ev hi an j7 j4 j2 (fK,ab)) (G5 kX lT h6 ev hi an j7 j4 j2) (NQ kX lT h6 ev hi an j7 j4 j2)):=by
 unfold w3
 exact .ite (fun h1 =>
  .aY fun o =>
  .ar fun aB au =>
  .ar fun ax a0 =>
  (let t1:List b3:=[(J 1),.aa true,(J 2),.aw (ah 3 (ai (.b5 (aR aB)) (ai (bw 1 (.n .i64 ax) true) (ah 1 []))))];
  have aT:=((.d6 h1 o.1 o.2 (b2 aR au) (tc ax a0) (bX.n .i64 ax)):cA _);
  .ite (fun bm =>
  .aY fun bn =>
  .ar fun dl cQ =>
  .ar fun dh eH =>
  .ar fun eK eJ =>
  .aY fun fJ =>
  .ret (bg (t1.append [.aa true,.aw (ah 5 (ai (.b5 (aR dl)) (ah 4 (ai (.b5 (aR aB)) (ai (bw 2 (.agg (aR dh)) false) (ai (bw 2 (.agg (aR eK)) false) (ah 1 (ai .fX [])))))))),(J 2),.aP [0,1,2] [.cE (av 3 aR (ab.set (kX+fK.toNat) eK)),.pure,.box [.id,.id,.id]] (a8 [0,1,7,19,20])]) (aT.aH (.bi bm bn.1 bn.2 (b2 aR cQ) o.1 o.2 (b2 aR au) (OT dh eH) (.gu (DN eK eJ) bn.1 bn.2 (hQ aR fJ) (hJ 3) (cZ 3 .live (gM (cR aR ab) (kX+fK.toNat) eK)) (aI 3 .live eY (ab.set (kX+fK.toNat) eK)) (aI 3 .live eY an))))))
  (fun bm =>
  .ret (bg (t1.append [.aa false,(J 2),.aP [0,1,2] [.pure,.pure,.box [.id,.id,.id]] (a8 [0,1,7,19,20])]) (aT.aH (.bP bm (aI 3 .live eY ab) (aI 3 .live eY an)))))))
  (fun h1 =>
  .ret (bg [(J 1),.aa false,.aP [0,1] [.pure,.pure] []] (.bP h1 (aI 3 .live eY ab) (aI 3 .live eY an))))
theorem Wx {kX lT h6 ev:Nat}{hi:Int}{an:List aQ}{j7:Bool}{j4 j2:List Int}{fK:Int}{ab:List aQ}{r} (h:I7 kX lT h6 ev hi an j7 j4 j2 fK ab=some r):dM a5 44 2 107 [1,1,1,1,0,0] (G5 kX lT h6 ev hi an j7 j4 j2) (NQ kX lT h6 ev hi an j7 j4 j2) (fK,ab) r:=dO (fun _=>U3) h
def z0 (aO:Int)(kX lT h6 ev:Nat)(ep eU:List aQ):Option (List aQ) :=
 if 0≤aO∧aO<(lT:Nat) then
 ep[(kX+aO.toNat)]? >>= fun eb =>
 p7 eb >>= fun ba =>
 if (ba == (0:Int))=true then
  some ep
 else
  uT eb >>= fun bQ =>
  I7 kX lT h6 ev ((lT:Nat):Int) eU bQ.fA.cS bQ.fA.cJ bQ.hM 0 ep >>= fun cg =>
  some cg
 else none
theorem Xk {aO:Int}{kX lT h6 ev:Nat}{ep eU:List aQ}:bB (z0 aO kX lT h6 ev ep eU) (fun a=>Con a5 107 (Tb 0 0 kX lT 1 0 h6 ev aO) [(av 3 aR ep),(av 3 aR eU)] (.ea []) [(av 3 aR a),(av 3 aR eU)]):=by
 unfold z0
 exact .aY fun h1 =>
  .ar fun eb af =>
  .ar fun ba aA =>
  (let t1:List b3:=[.aw (bo 3 (.b5 (aR eb)) 2),.aw (bo 1 (bw 1 (.n .i64 ba) true) 1)];
  have aT:=((.dg h1.1 h1.2 (b2 aR af) (tc ba aA) (bX.n .i64 ba)):cA _);
  .ite (fun a0 =>
  .ret (kH (t1.append [.aa true]) [0,1] [.pure,.pure] (aT.aH (.bP a0 (aI 3 .live eY ep) (aI 3 .live eY eU)))))
  (fun a0 =>
  .ar fun bQ bn =>
  .ar fun cg cQ =>
  .ret (kH (t1.append [.aa false,.aw (bo 1 (bw 1 (.agg (aR bQ)) false) 2),(J 3),.aP [0,1,13] [.pure,.pure,.box [.id,.id,.id]] (a8 [0,1,7,19,20]),.sub (.exit 0) [] [(av 3 aR cg),(av 3 aR eU)]]) [0,1] [.pure,.pure] (aT.aH (.eB a0 (OS bQ bn) (aI 3 .live eY ep) (aI 3 .live eY eU) (Wx cQ) (aI 3 .live eY cg) (aI 3 .live eY eU))))))
def GN (h6 ev:Nat)(hi:Int)(an:List aQ)(j7:Bool)(j4 j2:List Int):(Int×(List aQ))→S:=fun (fK,ab)=>dr [(0,.bf 0 0 0 ab.length),(1,.bf 1 0 h6 ev),(7,.ref 2 0 0 0),(19,.n .i64 hi),(20,.n .i64 fK)] [(av 3 aR ab),(av 3 aR an),[ae.mk 3 [[.b j7,.isl 1 (j4.map eI),.isl 1 (j2.map eI)]] .live]]
def NK (h6 ev:Nat)(hi:Int)(an:List aQ)(j7:Bool)(j4 j2:List Int):(List aQ)→dy
 | a=>⟨some 0,[],[(av 3 aR a),(av 3 aR an)]⟩
def wU (h6 ev:Nat)(hi:Int)(an:List aQ)(j7:Bool)(j4 j2:List Int)(fK:Int)(ab:List aQ):Option ((Int×(List aQ))⊕((List aQ))) :=
 if (decide (fK<hi))=true then
  if 0≤fK∧fK<(ev:Nat) then
  an[(h6+fK.toNat)]? >>= fun aB =>
  p7 aB >>= fun ax =>
  if (ax != (0:Int))=true then
   if 0≤fK∧fK<(ab.length:Nat) then
   ab[(0+fK.toNat)]? >>= fun dl =>
   ti (⟨(⟨j7,j4⟩:bt),j2⟩:aQ) aB >>= fun dh =>
   rB dl dh >>= fun eK =>
   if (0+fK.toNat)<ab.length then
   some (.inl (R (fK+(1:Int)),ab.set (0+fK.toNat) eK))
   else none
   else none
  else
   some (.inl (R (fK+(1:Int)),ab))
  else none
 else
  some (.inr ab)
def IC (h6 ev:Nat)(hi:Int)(an:List aQ)(j7:Bool)(j4 j2:List Int)(fK:Int)(ab:List aQ):Option ((List aQ)):=iter (fun w:Int×(List aQ)=>wU h6 ev hi an j7 j4 j2 w.1 w.2) (fK,ab)
theorem UR {h6 ev:Nat}{hi:Int}{an:List aQ}{j7:Bool}{j4 j2:List Int}{fK:Int}{ab:List aQ}:bB (wU h6 ev hi an j7 j4 j2 fK ab) (dL a5 44 2 107 [1,1,1,1,0,0] (GN h6 ev hi an j7 j4 j2 (fK,ab)) (GN h6 ev hi an j7 j4 j2) (NK h6 ev hi an j7 j4 j2)):=by
 unfold wU
 exact .ite (fun h1 =>
  .aY fun o =>
  .ar fun aB au =>
  .ar fun ax a0 =>
  (let t1:List b3:=[(J 1),.aa true,(J 2),.aw (ah 3 (ai (.b5 (aR aB)) (ai (bw 1 (.n .i64 ax) true) (ah 1 []))))];
  have aT:=((.d6 h1 o.1 o.2 (b2 aR au) (tc ax a0) (bX.n .i64 ax)):cA _);
  .ite (fun bm =>
  .aY fun bn =>
  .ar fun dl cQ =>
  .ar fun dh eH =>
  .ar fun eK eJ =>
  .aY fun fJ =>
  .ret (bg (t1.append [.aa true,.aw (ah 5 (ai (.b5 (aR dl)) (ah 4 (ai (.b5 (aR aB)) (ai (bw 2 (.agg (aR dh)) false) (ai (bw 2 (.agg (aR eK)) false) (ah 1 (ai .fX [])))))))),(J 2),.aP [0,1,2] [.cE (av 3 aR (ab.set (0+fK.toNat) eK)),.pure,.box [.id,.id,.id]] [(0,fU ((ab.set (0+fK.toNat) eK).length)),(1,ii),(7,ii),(19,ii),(20,ii)]]) (aT.aH (.bi bm bn.1 bn.2 (b2 aR cQ) o.1 o.2 (b2 aR au) (OT dh eH) (.bi (DN eK eJ) bn.1 bn.2 (hQ aR fJ) (hJ 3) (cZ 3 .live (gM (cR aR ab) (0+fK.toNat) eK)) (aI 3 .live eY (ab.set (0+fK.toNat) eK)) (aI 3 .live eY an) (.e1 (hg (dQ ab) (0+fK.toNat) eK)))))))
  (fun bm =>
  .ret (bg (t1.append [.aa false,(J 2),.aP [0,1,2] [.pure,.pure,.box [.id,.id,.id]] (a8 [0,1,7,19,20])]) (aT.aH (.bP bm (aI 3 .live eY ab) (aI 3 .live eY an)))))))
  (fun h1 =>
  .ret (bg [(J 1),.aa false,.aP [0,1] [.pure,.pure] []] (.bP h1 (aI 3 .live eY ab) (aI 3 .live eY an))))
theorem Wf {h6 ev:Nat}{hi:Int}{an:List aQ}{j7:Bool}{j4 j2:List Int}{fK:Int}{ab:List aQ}{r} (h:IC h6 ev hi an j7 j4 j2 fK ab=some r):dM a5 44 2 107 [1,1,1,1,0,0] (GN h6 ev hi an j7 j4 j2) (NK h6 ev hi an j7 j4 j2) (fK,ab) r:=dO (fun _=>UR) h
def zW (aO:Int)(h6 ev:Nat)(ep eU:List aQ):Option (List aQ) :=
 if 0≤aO∧aO<(ep.length:Nat) then
 ep[(0+aO.toNat)]? >>= fun eb =>
 p7 eb >>= fun ba =>
 if (ba == (0:Int))=true then
  some ep
 else
  uT eb >>= fun bQ =>
  IC h6 ev ((ep.length:Nat):Int) eU bQ.fA.cS bQ.fA.cJ bQ.hM 0 ep >>= fun cg =>
  some cg
 else none
theorem W2 {aO:Int}{h6 ev:Nat}{ep eU:List aQ}:bB (zW aO h6 ev ep eU) (fun a=>Con a5 107 (Tb 0 0 0 ep.length 1 0 h6 ev aO) [(av 3 aR ep),(av 3 aR eU)] (.ea []) [(av 3 aR a),(av 3 aR eU)]):=by
 unfold zW
 exact .aY fun h1 =>
  .ar fun eb af =>
  .ar fun ba aA =>
  (let t1:List b3:=[.aw (bo 3 (.b5 (aR eb)) 2),.aw (bo 1 (bw 1 (.n .i64 ba) true) 1)];
  have aT:=((.dg h1.1 h1.2 (b2 aR af) (tc ba aA) (bX.n .i64 ba)):cA _);
  .ite (fun a0 =>
  .ret (kH (t1.append [.aa true]) [0,1] [.pure,.pure] (aT.aH (.bP a0 (aI 3 .live eY ep) (aI 3 .live eY eU)))))
  (fun a0 =>
  .ar fun bQ bn =>
  .ar fun cg cQ =>
  .ret (kH (t1.append [.aa false,.aw (bo 1 (bw 1 (.agg (aR bQ)) false) 2),(J 3),.aP [0,1,13] [.pure,.pure,.box [.id,.id,.id]] (a8 [0,1,7,19,20]),.sub (.exit 0) [] [(av 3 aR cg),(av 3 aR eU)]]) [0,1] [.pure,.pure] (aT.aH (.eB a0 (OS bQ bn) (aI 3 .live eY ep) (aI 3 .live eY eU) (Wf cQ) (aI 3 .live eY cg) (aI 3 .live eY eU))))))
def G6 (b1 aO du df:Int)(b4:List bD)(cp:List Int)(cq:List aQ)(bN:Bool)(dV gX:List Int):(Int×(List (List aQ)))→S:=fun (dv,dq)=>dr [(0,.ref 0 0 0 0),(1,.n .i64 b1),(2,.n .i64 aO),(6,.ref 1 0 0 0),(26,.n .i64 du),(27,.n .i64 dv)] [(ae.mk 4 [(dW df 0 1 0 b4.length 0 2 0 cp.length 0 3 0 cq.length)] .live::ae.mk 1 (b4.map (bp 0 4 3)) .live::ae.mk 1 (cp.map eI) .live::ae.mk 3 (cq.map aR) .live::(cf 3 aR dq)),[ae.mk 3 [[.b bN,.isl 1 (dV.map eI),.isl 1 (gX.map eI)]] .live]]
def Hm (b1 aO du df:Int)(b4:List bD)(cp:List Int)(cq:List aQ)(bN:Bool)(dV gX:List Int):(List (List aQ))→dy
 | a=>⟨some 0,[(0,.ref 0 0 0 0),(1,.n .i64 b1),(2,.n .i64 aO)],[(ae.mk 4 [(dW df 0 1 0 b4.length 0 2 0 cp.length 0 3 0 cq.length)] .live::ae.mk 1 (b4.map (bp 0 4 3)) .live::ae.mk 1 (cp.map eI) .live::ae.mk 3 (cq.map aR) .live::(cf 3 aR a))]⟩
def w4 (b1 aO du df:Int)(b4:List bD)(cp:List Int)(cq:List aQ)(bN:Bool)(dV gX:List Int)(dv:Int)(dq:List (List aQ)):Option ((Int×(List (List aQ)))⊕((List (List aQ)))) :=
 if (decide (dv<du))=true then
  if 0≤b1∧b1<(b4.length:Nat) then
  b4[(0+b1.toNat)]? >>= fun aB =>
  aB >>= fun lS =>
  dq[lS.1]? >>= fun iR =>
  if 0≤dv∧dv<(lS.2:Nat) then
  iR[(0+dv.toNat)]? >>= fun ja =>
  uR ja (⟨(⟨bN,dV⟩:bt),gX⟩:aQ) >>= fun el =>
  some (.inl (R (dv+(1:Int)),dq.set lS.1 (iR.set (0+dv.toNat) el)))
  else none
  else none
 else
  some (.inr dq)
def I8 (b1 aO du df:Int)(b4:List bD)(cp:List Int)(cq:List aQ)(bN:Bool)(dV gX:List Int)(dv:Int)(dq:List (List aQ)):Option ((List (List aQ))):=iter (fun w:Int×(List (List aQ))=>w4 b1 aO du df b4 cp cq bN dV gX w.1 w.2) (dv,dq)
theorem U4 {b1 aO du df:Int}{b4:List bD}{cp:List Int}{cq:List aQ}{bN:Bool}{dV gX:List Int}{dv:Int}{dq:List (List aQ)}:bB (w4 b1 aO du df b4 cp cq bN dV gX dv dq) (dL a5 100 1 88 [1,0,1,0,0] (G6 b1 aO du df b4 cp cq bN dV gX (dv,dq)) (G6 b1 aO du df b4 cp cq bN dV gX) (Hm b1 aO du df b4 cp cq bN dV gX)):=by
 unfold w4
 exact .ite (fun h1 =>
  .aY fun o =>
  .ar fun aB au =>
  .ar fun lS a0 =>
  .ar fun iR bn =>
  .aY fun cx =>
  .ar fun ja fm =>
  .ar fun el eS =>
  .ret (let q1:=ke (gl .live 3 aR dq) jr bn;let a6:=bZ [0,1];bg [(J 1),.aa true,(J 2),.aw (ah 6 (ai (.b5 ((bp 0 4 3) aB)) (ah 7 (ai (.b5 ((bp 0 4 3) aB)) (ah 1 (ai (.kw 44 (.bf 0 (lS.1+4) 0 lS.2) (.gm (ae.mk 3 (iR.map aR) .live) [])) (ai (.gm (ae.mk 3 (iR.map aR) .live) (aR ja)) (ah 1 (ai (bw 2 (.agg (aR el)) false) (ai (.kw 36 (.bf 0 (lS.1+4) 0 lS.2) (.gm (ae.mk 3 (iR.map aR) .live) [])) (ai (.gm (ae.mk 3 (iR.map aR) .live) (aR ja)) []))))))))))),(J 2),.aP [0,1] [.bK (ae.mk 4 [(dW df 0 1 0 b4.length 0 2 0 cp.length 0 3 0 cq.length)] .live::ae.mk 1 (b4.map (bp 0 4 3)) .live::ae.mk 1 (cp.map eI) .live::ae.mk 3 (cq.map aR) .live::(cf 3 aR (dq.set lS.1 (iR.set (0+dv.toNat) el)))),.box [.id,.id,.id]] (a8 [0,1,2,6,26,27])] (.bi h1 o.1 o.2 (b2 (bp 0 4 3) au) o.1 o.2 (b2 (bp 0 4 3) au) (mf (d5:=0) (c:=4) (sz:=3) a0) (.bi q1 cx.1 cx.2 q1 (b2 aR fm) (OQ el eS) (mf (d5:=0) (c:=4) (sz:=3) a0) q1 (.dg cx.1 cx.2 q1 (b2 aR fm) (c8 (show ae.mk 4 [(dW df 0 1 0 b4.length 0 2 0 cp.length 0 3 0 cq.length)] .live=gQ (bZ [0,1]) (ae.mk 4 [(dW df 0 1 0 b4.length 0 2 0 cp.length 0 3 0 cq.length)] .live) from rfl) (c8 (li a6 0 0 4 3 rfl b4) (c8 (fN a6 1 kR cp) (c8 (fN a6 3 fq cq) (np (cd:=a6) (ph (gl .live 3 aR dq) lS.1 (nk (cR aR iR) (0+dv.toNat) el (rfl:(setCells (aR ja) 0 (aR el))=aR el))) (mB fq)))))))))))
  (fun h1 =>
  .ret (bg [(J 1),.aa false,.aP [0] [.bK (ae.mk 4 [(dW df 0 1 0 b4.length 0 2 0 cp.length 0 3 0 cq.length)] .live::ae.mk 1 (b4.map (bp 0 4 3)) .live::ae.mk 1 (cp.map eI) .live::ae.mk 3 (cq.map aR) .live::(cf 3 aR dq))] (a8 [0,1,2])] (.aE h1 (c8 (show ae.mk 4 [(dW df 0 1 0 b4.length 0 2 0 cp.length 0 3 0 cq.length)] .live=gQ (bZ [0]) (ae.mk 4 [(dW df 0 1 0 b4.length 0 2 0 cp.length 0 3 0 cq.length)] .live) from rfl) (c8 (li (bZ [0]) 0 0 4 3 rfl b4) (c8 (fN (bZ [0]) 1 kR cp) (c8 (fN (bZ [0]) 3 fq cq) (dR (bZ [0]) 3 fq dq))))))))
theorem Wy {b1 aO du df:Int}{b4:List bD}{cp:List Int}{cq:List aQ}{bN:Bool}{dV gX:List Int}{dv:Int}{dq:List (List aQ)}{r} (h:I8 b1 aO du df b4 cp cq bN dV gX dv dq=some r):dM a5 100 1 88 [1,0,1,0,0] (G6 b1 aO du df b4 cp cq bN dV gX) (Hm b1 aO du df b4 cp cq bN dV gX) (dv,dq) r:=dO (fun _=>U4) h
def G7 (b1 aO oW df:Int)(b4:List bD)(cp:List Int)(cq:List aQ):(Int×(List (List aQ)))→S:=fun (nP,dq)=>dr [(0,.ref 0 0 0 0),(1,.n .i64 b1),(2,.n .i64 aO),(56,.n .i64 oW),(57,.n .i64 nP)] [(ae.mk 4 [(dW df 0 1 0 b4.length 0 2 0 cp.length 0 3 0 cq.length)] .live::ae.mk 1 (b4.map (bp 0 4 3)) .live::ae.mk 1 (cp.map eI) .live::ae.mk 3 (cq.map aR) .live::(cf 3 aR dq))]
def Hn (b1 aO oW df:Int)(b4:List bD)(cp:List Int)(cq:List aQ):(List (List aQ))→dy
 | a=>⟨some 2,[(0,.ref 0 0 0 0),(1,.n .i64 b1),(2,.n .i64 aO)],[(ae.mk 4 [(dW df 0 1 0 b4.length 0 2 0 cp.length 0 3 0 cq.length)] .live::ae.mk 1 (b4.map (bp 0 4 3)) .live::ae.mk 1 (cp.map eI) .live::ae.mk 3 (cq.map aR) .live::(cf 3 aR a))]⟩
def w5 (b1 aO oW df:Int)(b4:List bD)(cp:List Int)(cq:List aQ)(nP:Int)(dq:List (List aQ)):Option ((Int×(List (List aQ)))⊕((List (List aQ)))) :=
 if (decide (nP<oW))=true then
  if (nP != b1)=true then
   if 0≤nP∧nP<(b4.length:Nat) then
   b4[(0+nP.toNat)]? >>= fun fM =>
   if 0≤b1∧b1<(b4.length:Nat) then
   b4[(0+b1.toNat)]? >>= fun c7 =>
   fM >>= fun ma =>
   c7 >>= fun oA =>
   dq[ma.1]? >>= fun ly =>
   dq[oA.1]? >>= fun kr =>
   if (ma.1+4)≠(oA.1+4) then
   z0 aO 0 ma.2 0 oA.2 ly kr >>= fun fi =>
   some (.inl (R (nP+(1:Int)),(dq.set ma.1 fi).set oA.1 kr))
   else none
   else none
   else none
  else
   some (.inl (R (nP+(1:Int)),dq))
 else
  some (.inr dq)
def I9 (b1 aO oW df:Int)(b4:List bD)(cp:List Int)(cq:List aQ)(nP:Int)(dq:List (List aQ)):Option ((List (List aQ))):=iter (fun w:Int×(List (List aQ))=>w5 b1 aO oW df b4 cp cq w.1 w.2) (nP,dq)
theorem U5 {b1 aO oW df:Int}{b4:List bD}{cp:List Int}{cq:List aQ}{nP:Int}{dq:List (List aQ)}:bB (w5 b1 aO oW df b4 cp cq nP dq) (dL a5 100 1 88 [1,1,0,1,0,0] (G7 b1 aO oW df b4 cp cq (nP,dq)) (G7 b1 aO oW df b4 cp cq) (Hn b1 aO oW df b4 cp cq)):=by
 unfold w5
 exact .ite (fun h1 =>
  (let t1:List b3:=[(J 1),.aa true,(J 2),(J 3)];
  .ite (fun o =>
  .aY fun af =>
  .ar fun fM aA =>
  .aY fun a0 =>
  .ar fun c7 bn =>
  .ar fun ma cQ =>
  .ar fun oA eH =>
  .ar fun ly eJ =>
  .ar fun kr ha =>
  .aY fun hN =>
  .ar fun fi gq =>
  .ret (bg (t1.append [.aa true,.aw (ah 6 (ai (.b5 ((bp 0 4 3) fM)) (ah 6 (ai (.b5 ((bp 0 4 3) c7)) (ah 1 (ai (.kw 69 (.bf 0 (ma.1+4) 0 ma.2) (.kw 76 (.bf 0 (oA.1+4) 0 oA.2) (.call {a2:=[.ao 0 (ma.1+4) (ae.mk 3 (ly.map aR) .live),.ao 0 (oA.1+4) (ae.mk 3 (kr.map aR) .live)],da:=[.pure,.pure],ac:=[.bs (.c9 (.at_ 0 0 ma.2)),.bs (.c9 (.at_ 1 0 oA.2)),ii],r:= .ea [],eV:=[(av 3 aR fi),(av 3 aR kr)],gr:=ii,hD:=[.pure,.pure],eN:=[0],er:=false}))) [])))))),(J 2),.aP [0] [.bK (ae.mk 4 [(dW df 0 1 0 b4.length 0 2 0 cp.length 0 3 0 cq.length)] .live::ae.mk 1 (b4.map (bp 0 4 3)) .live::ae.mk 1 (cp.map eI) .live::ae.mk 3 (cq.map aR) .live::(cf 3 aR ((dq.set ma.1 fi).set oA.1 kr)))] (a8 [0,1,2,56,57])]) (.bi h1 o af.1 af.2 (b2 (bp 0 4 3) aA) a0.1 a0.2 (b2 (bp 0 4 3) bn) (.bi (mf (d5:=0) (c:=4) (sz:=3) cQ) (mf (d5:=0) (c:=4) (sz:=3) eH) hN (rfl:kG [.ao 0 (ma.1+4) (ae.mk 3 (ly.map aR) .live),.ao 0 (oA.1+4) (ae.mk 3 (kr.map aR) .live)] 0 0=some (0,(ma.1+4))) (rfl:ma.2=ma.2) (rfl:kG [.ao 0 (ma.1+4) (ae.mk 3 (ly.map aR) .live),.ao 0 (oA.1+4) (ae.mk 3 (kr.map aR) .live)] 1 0=some (0,(oA.1+4))) (rfl:oA.2=oA.2) (ke (gl .live 3 aR dq) jr eJ) (.eB (f8 3 eY ly) (ke (gl .live 3 aR dq) jr ha) (f8 3 eY kr) (f8 3 eY fi) (f8 3 eY kr) (Xk fi gq) (c8 (show ae.mk 4 [(dW df 0 1 0 b4.length 0 2 0 cp.length 0 3 0 cq.length)] .live=gQ (bZ [0]) (ae.mk 4 [(dW df 0 1 0 b4.length 0 2 0 cp.length 0 3 0 cq.length)] .live) from rfl) (c8 (li (bZ [0]) 0 0 4 3 rfl b4) (c8 (fN (bZ [0]) 1 kR cp) (c8 (fN (bZ [0]) 3 fq cq) (np (cd:=(bZ [0])) (ph (ph (gl .live 3 aR dq) ma.1 (cR aR fi)) oA.1 (cR aR kr)) (mB fq)))))))))))
  (fun o =>
  .ret (bg (t1.append [.aa false,(J 2),.aP [0] [.bK (ae.mk 4 [(dW df 0 1 0 b4.length 0 2 0 cp.length 0 3 0 cq.length)] .live::ae.mk 1 (b4.map (bp 0 4 3)) .live::ae.mk 1 (cp.map eI) .live::ae.mk 3 (cq.map aR) .live::(cf 3 aR dq))] (a8 [0,1,2,56,57])]) (.bP h1 o (c8 (show ae.mk 4 [(dW df 0 1 0 b4.length 0 2 0 cp.length 0 3 0 cq.length)] .live=gQ (bZ [0]) (ae.mk 4 [(dW df 0 1 0 b4.length 0 2 0 cp.length 0 3 0 cq.length)] .live) from rfl) (c8 (li (bZ [0]) 0 0 4 3 rfl b4) (c8 (fN (bZ [0]) 1 kR cp) (c8 (fN (bZ [0]) 3 fq cq) (dR (bZ [0]) 3 fq dq))))))))))
  (fun h1 =>
  .ret (bg [(J 1),.aa false,.aP [0] [.bK (ae.mk 4 [(dW df 0 1 0 b4.length 0 2 0 cp.length 0 3 0 cq.length)] .live::ae.mk 1 (b4.map (bp 0 4 3)) .live::ae.mk 1 (cp.map eI) .live::ae.mk 3 (cq.map aR) .live::(cf 3 aR dq))] (a8 [0,1,2])] (.aE h1 (c8 (show ae.mk 4 [(dW df 0 1 0 b4.length 0 2 0 cp.length 0 3 0 cq.length)] .live=gQ (bZ [0]) (ae.mk 4 [(dW df 0 1 0 b4.length 0 2 0 cp.length 0 3 0 cq.length)] .live) from rfl) (c8 (li (bZ [0]) 0 0 4 3 rfl b4) (c8 (fN (bZ [0]) 1 kR cp) (c8 (fN (bZ [0]) 3 fq cq) (dR (bZ [0]) 3 fq dq))))))))
theorem Wz {b1 aO oW df:Int}{b4:List bD}{cp:List Int}{cq:List aQ}{nP:Int}{dq:List (List aQ)}{r} (h:I9 b1 aO oW df b4 cp cq nP dq=some r):dM a5 100 1 88 [1,1,0,1,0,0] (G7 b1 aO oW df b4 cp cq) (Hn b1 aO oW df b4 cp cq) (nP,dq) r:=dO (fun _=>U5) h
def z1 (b1 aO j5:Int)(hj:List bD)(iy:List Int)(h8:List aQ)(o7:List (List aQ)):Option ((List Int)×(List aQ)×(List (List aQ))) :=
 if 0≤b1∧b1<(hj.length:Nat) then
 hj[(0+b1.toNat)]? >>= fun eb =>
 eb >>= fun jR =>
 o7[jR.1]? >>= fun nf =>
 if 0≤aO∧aO<(jR.2:Nat) then
 nf[(0+aO.toNat)]? >>= fun dl =>
 I8 b1 aO ((jR.2:Nat):Int) j5 hj iy h8 dl.fA.cS dl.fA.cJ dl.hM 0 o7 >>= fun dh =>
 I9 b1 aO ((hj.length:Nat):Int) j5 hj iy h8 0 dh >>= fun eK =>
 eK[jR.1]? >>= fun kr =>
 if 3≠(jR.1+4) then
 zW aO 0 jR.2 h8 kr >>= fun fi =>
 if h8.length=fi.length then
 if 0≤b1∧b1<(iy.length:Nat) then
 if (0+b1.toNat)<iy.length then
 some (iy.set (0+b1.toNat) aO,fi,eK.set jR.1 kr)
 else none
 else none
 else none
 else none
 else none
 else none
theorem Xl {b1 aO j5:Int}{hj:List bD}{iy:List Int}{h8:List aQ}{o7:List (List aQ)}:bB (z1 b1 aO j5 hj iy h8 o7) (fun a=>Con a5 88 [.ref 0 0 0 0,.n .i64 b1,.n .i64 aO] [(ae.mk 4 [(dW j5 0 1 0 hj.length 0 2 0 iy.length 0 3 0 h8.length)] .live::ae.mk 1 (hj.map (bp 0 4 3)) .live::ae.mk 1 (iy.map eI) .live::ae.mk 3 (h8.map aR) .live::(cf 3 aR o7))] (.ea []) [(ae.mk 4 [(dW j5 0 1 0 hj.length 0 2 0 a.1.length 0 3 0 a.2.1.length)] .live::ae.mk 1 (hj.map (bp 0 4 3)) .live::ae.mk 1 (a.1.map eI) .live::ae.mk 3 (a.2.1.map aR) .live::(cf 3 aR a.2.2))]):=by
 unfold z1
 exact .aY fun h1 =>
  .ar fun eb af =>
  .ar fun jR aA =>
  .ar fun nf bm =>
  .aY fun bn =>
  .ar fun dl cQ =>
  .ar fun dh eH =>
  .ar fun eK eJ =>
  .ar fun kr ha =>
  .aY fun hN =>
  .ar fun fi gq =>
  .aY fun ft =>
  .aY fun gJ =>
  .aY fun ib =>
  .ret (let q1:=dW j5 0 1 0 hj.length 0 2 0 iy.length 0 3 0 h8.length;let a6:=ke (gl .live 3 aR o7) jr bm;let bY:=bZ [0];let cz:=b2 (bp 0 4 3) af;let dj:=bZ [0,11];let f6:=li bY 0 0 4 3 rfl hj;kH [.aw (ah 6 (ai (.b5 ((bp 0 4 3) eb)) (ah 1 (ai (.kw 15 (.bf 0 (jR.1+4) 0 jR.2) (.gm (ae.mk 3 (nf.map aR) .live) [])) (ai (.gm (ae.mk 3 (nf.map aR) .live) (aR dl)) (ah 2 [])))))),.aw (ah 6 (ai (.b5 ((bp 0 4 3) eb)) (ai (.kw 25 (.bf 0 (jR.1+4) 0 jR.2) (.gm (ae.mk 3 (nf.map aR) .live) [])) (ah 1 [])))),.aP [0,11] [.bK (ae.mk 4 [q1] .live::ae.mk 1 (hj.map (bp 0 4 3)) .live::ae.mk 1 (iy.map eI) .live::ae.mk 3 (h8.map aR) .live::(cf 3 aR o7)),.box [.id,.id,.id]] (a8 [0,1,2,6,26,27]),(Hm b1 aO ((jR.2:Nat):Int) j5 hj iy h8 dl.fA.cS dl.fA.cJ dl.hM dh).e6,(J 6),.aP [0] [.bK (ae.mk 4 [q1] .live::ae.mk 1 (hj.map (bp 0 4 3)) .live::ae.mk 1 (iy.map eI) .live::ae.mk 3 (h8.map aR) .live::(cf 3 aR dh))] (a8 [0,1,2,56,57]),(Hn b1 aO ((hj.length:Nat):Int) j5 hj iy h8 eK).e6,.aw (ah 10 (ai (.b5 ((bp 0 4 3) eb)) (ah 1 (ai (.kw 90 (.bf 0 (jR.1+4) 0 jR.2) (.call {a2:=[.ao 0 3 (ae.mk 3 (h8.map aR) .live),.ao 0 (jR.1+4) (ae.mk 3 (kr.map aR) .live)],da:=[.pure,.pure],ac:=[.bs (.c9 (.at_ 0 0 h8.length)),.bs (.c9 (.at_ 1 0 jR.2)),ii],r:= .ea [],eV:=[(av 3 aR fi),(av 3 aR kr)],gr:=ii,hD:=[.pure,.pure],eN:=[0],er:=false})) [])))),.aw (ah 7 (ai .fX []))] [0] [.bK (ae.mk 4 [(dW j5 0 1 0 hj.length 0 2 0 ((iy.set (0+b1.toNat) aO).length) 0 3 0 fi.length)] .live::ae.mk 1 (hj.map (bp 0 4 3)) .live::ae.mk 1 ((iy.set (0+b1.toNat) aO).map eI) .live::ae.mk 3 (fi.map aR) .live::(cf 3 aR (eK.set jR.1 kr)))] (.bi h1.1 h1.2 cz (mf (d5:=0) (c:=4) (sz:=3) aA) a6 bn.1 bn.2 a6 (.bi (b2 aR cQ) h1.1 h1.2 cz (mf (d5:=0) (c:=4) (sz:=3) aA) a6 (c8 (show ae.mk 4 [(dW j5 0 1 0 hj.length 0 2 0 iy.length 0 3 0 h8.length)] .live=gQ (bZ [0,11]) (ae.mk 4 [(dW j5 0 1 0 hj.length 0 2 0 iy.length 0 3 0 h8.length)] .live) from rfl) (c8 (li dj 0 0 4 3 rfl hj) (c8 (fN dj 1 kR iy) (c8 (fN dj 3 fq h8) (dR dj 3 fq o7))))) (Wy eH) (.bi (c8 (show ae.mk 4 [(dW j5 0 1 0 hj.length 0 2 0 iy.length 0 3 0 h8.length)] .live=gQ (bZ [0]) (ae.mk 4 [(dW j5 0 1 0 hj.length 0 2 0 iy.length 0 3 0 h8.length)] .live) from rfl) (c8 f6 (c8 (fN bY 1 kR iy) (c8 (fN bY 3 fq h8) (dR bY 3 fq dh))))) (Wz eJ) h1.1 h1.2 cz (mf (d5:=0) (c:=4) (sz:=3) aA) hN (rfl:kG [.ao 0 3 (ae.mk 3 (h8.map aR) .live),.ao 0 (jR.1+4) (ae.mk 3 (kr.map aR) .live)] 0 0=some (0,3)) (.bi (rfl:h8.length=h8.length) (rfl:kG [.ao 0 3 (ae.mk 3 (h8.map aR) .live),.ao 0 (jR.1+4) (ae.mk 3 (kr.map aR) .live)] 1 0=some (0,(jR.1+4))) (rfl:jR.2=jR.2) (rfl:dn (some (ae.mk 4 [q1] .live::ae.mk 1 (hj.map (bp 0 4 3)) .live::ae.mk 1 (iy.map eI) .live::ae.mk 3 (h8.map aR) .live::(cf 3 aR eK))) 3=some (ae.mk 3 (h8.map aR) .live)) (f8 3 eY h8) (ke (gl .live 3 aR eK) jr ha) (f8 3 eY kr) (f8 3 eY fi) (.eB (f8 3 eY kr) (W2 fi gq) gJ.1 gJ.2 (hQ eI ib) (hJ 1) (c8 (show ae.mk 4 [(dW j5 0 1 0 hj.length 0 2 0 ((iy.set (0+b1.toNat) aO).length) 0 3 0 fi.length)] .live=gQ (bZ [0]) (ae.mk 4 [(dW j5 0 1 0 hj.length 0 2 0 iy.length 0 3 0 h8.length)] .live) from (Eq.trans (congrArg (fun CV=>ae.mk 4 [(dW j5 0 1 0 hj.length 0 2 0 CV 0 3 0 fi.length)] .live) (hg (dQ iy) (0+b1.toNat) aO).symm) (congrArg (fun CV=>ae.mk 4 [(dW j5 0 1 0 hj.length 0 2 0 iy.length 0 3 0 CV)] .live) (Eq.trans (dQ h8) ft).symm))) (c8 f6 (c8 (rY (cd:=bY) 1 .live eI (gM (cR eI iy) (0+b1.toNat) aO) (mB kR)) (c8 (fN bY 3 fq fi) (np (cd:=bY) (ph (gl .live 3 aR eK) jR.1 (cR aR kr)) (mB fq))))))))))))
def HD (fh:Bool)(df:Int)(b4:List bD)(cp:List Int)(cq:List aQ)(dq:List (List aQ)):(Int×Int)→S:=fun (oK,bW)=>dr [(0,.ref 0 0 0 0),(1,.b fh),(5,.n .i64 oK),(6,.n .i64 bW)] [(ae.mk 4 [(dW df 0 1 0 b4.length 0 2 0 cp.length 0 3 0 cq.length)] .live::ae.mk 1 (b4.map (bp 0 4 3)) .live::ae.mk 1 (cp.map eI) .live::ae.mk 3 (cq.map aR) .live::(cf 3 aR dq))]
def HY (fh:Bool)(df:Int)(b4:List bD)(cp:List Int)(cq:List aQ)(dq:List (List aQ)):Int→dy
 | a=>⟨some 2,[(0,.ref 0 0 0 0),(1,.b fh),(5,.n .i64 a)],[(ae.mk 4 [(dW df 0 1 0 b4.length 0 2 0 cp.length 0 3 0 cq.length)] .live::ae.mk 1 (b4.map (bp 0 4 3)) .live::ae.mk 1 (cp.map eI) .live::ae.mk 3 (cq.map aR) .live::(cf 3 aR dq))]⟩
def um (fh:Bool)(df:Int)(b4:List bD)(cp:List Int)(cq:List aQ)(dq:List (List aQ))(oK bW:Int):Option ((Int×Int)⊕(Int)) :=
 if (decide (bW<df))=true then
  if (decide (oK<(0:Int)))=true then
   if b4.all (rh dq)=true then
   Ah (⟨df,b4.map (iM dq),cp,cq⟩:py) bW >>= fun ba =>
   if ba=true then
    some (.inl (oK,R (bW+(1:Int))))
   else
    uJ (⟨df,b4.map (iM dq),cp,cq⟩:py) bW fh >>= fun bQ =>
    if (decide ((0:Int)<bQ))=true then
     some (.inl (bW,R (bW+(1:Int))))
    else
     some (.inl (oK,R (bW+(1:Int))))
   else none
  else
   some (.inr oK)
 else
  some (.inr oK)
def Dz (fh:Bool)(df:Int)(b4:List bD)(cp:List Int)(cq:List aQ)(dq:List (List aQ))(oK bW:Int):Option (Int):=iter (fun w:Int×Int=>um fh df b4 cp cq dq w.1 w.2) (oK,bW)
theorem Vw {fh:Bool}{df:Int}{b4:List bD}{cp:List Int}{cq:List aQ}{dq:List (List aQ)}{oK bW:Int}:bB (um fh df b4 cp cq dq oK bW) (dL a5 43 1 60 [1,0,0,0,1,0,1,0,0] (HD fh df b4 cp cq dq (oK,bW)) (HD fh df b4 cp cq dq) (HY fh df b4 cp cq dq)):=by
 unfold um
 exact .ite (fun h1 =>
  .ite (fun o =>
  .aY fun af =>
  .ar fun ba aA =>
  (let bY:=dW df 0 1 0 b4.length 0 2 0 cp.length 0 3 0 cq.length;let t1:List b3:=[.aw (ah 9 (ai (.aa true) [])),.aa true];
  have aT:=((.bi h1 h1 h1 o (rfl:dn (some (ae.mk 4 [bY] .live::ae.mk 1 (b4.map (bp 0 4 3)) .live::ae.mk 1 (cp.map eI) .live::ae.mk 3 (cq.map aR) .live::(cf 3 aR dq))) 1=some (ae.mk 1 (b4.map (bp 0 4 3)) .live)) (rfl:_=true) (fb (bp 0 4 3) b4) (dd (nL (sz:=3) eY) (b4.map (iM dq))) (.bi (vh (d5:=0) (jB:=[ae.mk 4 [bY] .live,ae.mk 1 (b4.map (bp 0 4 3)) .live,ae.mk 1 (cp.map eI) .live,ae.mk 3 (cq.map aR) .live]++(cf 3 aR dq)) (cc:=kP) (sz:=1) (g:=(eA 3 aR)) (cR (bp 0 4 3) b4) (fun _=>rfl) (fun x U=>(zf (d5:=0) (c:=4) (cc:=kP) (qY:=[ae.mk 4 [bY] .live,ae.mk 1 (b4.map (bp 0 4 3)) .live,ae.mk 1 (cp.map eI) .live,ae.mk 3 (cq.map aR) .live]) (gl .live 3 aR dq) eY rfl jr rfl (yE af x U))) (dQ b4)) (fv eI cp) (fb eI cp) (dd aN cp) (fv aR cq) (fb aR cq) (dd eY cq) (qL (JY (⟨df,b4.map (iM dq),cp,cq⟩:py)):jU [[.n .i64 df,.isl 1 ((b4.map (iM dq)).map (eA 3 aR)),.isl 1 (cp.map eI),.isl 3 (cq.map aR)]]) (.aE (XX ba aA) (bX.b ba)))):cA _);
  .ite (fun a0 =>
  .ret (bg (t1.append [.aw (ah 2 (ai (.call {ac:=[.bs (.ptr [.id,.view 0 (ae.mk 1 (b4.map (bp 0 4 3)) .live) ((b4.map (iM dq)).map (eA 3 aR)),.dF (cp.map eI),.dF (cq.map aR)]),ii],r:= .b ba,er:=true,eN:=[0]}) (ah 2 (cw 5 (ai (.aa false) []))))),.aa false,(J 3),.aP [0] [.bK (ae.mk 4 [(dW df 0 1 0 b4.length 0 2 0 cp.length 0 3 0 cq.length)] .live::ae.mk 1 (b4.map (bp 0 4 3)) .live::ae.mk 1 (cp.map eI) .live::ae.mk 3 (cq.map aR) .live::(cf 3 aR dq))] (a8 [0,1,5,6])]) (aT.aH (.gu (cV a0) (cV a0) (cV a0) (cV a0) (cV a0) (cV a0) cU (c8 (show ae.mk 4 [(dW df 0 1 0 b4.length 0 2 0 cp.length 0 3 0 cq.length)] .live=gQ (bZ [0]) (ae.mk 4 [(dW df 0 1 0 b4.length 0 2 0 cp.length 0 3 0 cq.length)] .live) from rfl) (c8 (li (bZ [0]) 0 0 4 3 rfl b4) (c8 (fN (bZ [0]) 1 kR cp) (c8 (fN (bZ [0]) 3 fq cq) (dR (bZ [0]) 3 fq dq)))))))))
  (fun a0 =>
  .ar fun bQ bn =>
  (let q1:=dW df 0 1 0 b4.length 0 2 0 cp.length 0 3 0 cq.length;let a6:=eA 3 aR;let t3:List b3:=t1.append [.aw (ah 2 (ai (.call {ac:=[.bs (.ptr [.id,.view 0 (ae.mk 1 (b4.map (bp 0 4 3)) .live) ((b4.map (iM dq)).map a6),.dF (cp.map eI),.dF (cq.map aR)]),ii],r:= .b ba,er:=true,eN:=[0]}) (ah 5 (ai (.call {ac:=[.bs (.ptr [.id,.view 0 (ae.mk 1 (b4.map (bp 0 4 3)) .live) ((b4.map (iM dq)).map a6),.dF (cp.map eI),.dF (cq.map aR)]),ii,ii],r:= .n .i64 bQ,er:=true,eN:=[0]}) (ah 1 (ai (.aa true) []))))))];
  have e3:=aT.aH (.bi (cT a0) (cT a0) (cT a0) (cT a0) (rfl:dn (some (ae.mk 4 [q1] .live::ae.mk 1 (b4.map (bp 0 4 3)) .live::ae.mk 1 (cp.map eI) .live::ae.mk 3 (cq.map aR) .live::(cf 3 aR dq))) 1=some (ae.mk 1 (b4.map (bp 0 4 3)) .live)) (rfl:_=true) (fb (bp 0 4 3) b4) (dd (nL (sz:=3) eY) (b4.map (iM dq))) (.bi (vh (d5:=0) (jB:=[ae.mk 4 [q1] .live,ae.mk 1 (b4.map (bp 0 4 3)) .live,ae.mk 1 (cp.map eI) .live,ae.mk 3 (cq.map aR) .live]++(cf 3 aR dq)) (cc:=kP) (sz:=1) (g:=a6) (cR (bp 0 4 3) b4) (fun _=>rfl) (fun x U=>(zf (d5:=0) (c:=4) (cc:=kP) (qY:=[ae.mk 4 [q1] .live,ae.mk 1 (b4.map (bp 0 4 3)) .live,ae.mk 1 (cp.map eI) .live,ae.mk 3 (cq.map aR) .live]) (gl .live 3 aR dq) eY rfl jr rfl (yE af x U))) (dQ b4)) (fv eI cp) (fb eI cp) (dd aN cp) (fv aR cq) (fb aR cq) (dd eY cq) (qL (JY (⟨df,b4.map (iM dq),cp,cq⟩:py)):jU [[.n .i64 df,.isl 1 ((b4.map (iM dq)).map a6),.isl 1 (cp.map eI),.isl 3 (cq.map aR)]]) (.c3 (Ym bQ bn) (bX.n .i64 bQ) (cT a0) (cT a0))));
  .ite (fun cx =>
  .ret (bg (t3.append [.aa true,(J 2),(J 3),.aP [0] [.bK (ae.mk 4 [(dW df 0 1 0 b4.length 0 2 0 cp.length 0 3 0 cq.length)] .live::ae.mk 1 (b4.map (bp 0 4 3)) .live::ae.mk 1 (cp.map eI) .live::ae.mk 3 (cq.map aR) .live::(cf 3 aR dq))] (a8 [0,1,5,6])]) (e3.aH (.aE cx (c8 (show ae.mk 4 [(dW df 0 1 0 b4.length 0 2 0 cp.length 0 3 0 cq.length)] .live=gQ (bZ [0]) (ae.mk 4 [(dW df 0 1 0 b4.length 0 2 0 cp.length 0 3 0 cq.length)] .live) from rfl) (c8 (li (bZ [0]) 0 0 4 3 rfl b4) (c8 (fN (bZ [0]) 1 kR cp) (c8 (fN (bZ [0]) 3 fq cq) (dR (bZ [0]) 3 fq dq)))))))))
  (fun cx =>
  .ret (bg (t3.append [.aa false,(J 3),.aP [0] [.bK (ae.mk 4 [(dW df 0 1 0 b4.length 0 2 0 cp.length 0 3 0 cq.length)] .live::ae.mk 1 (b4.map (bp 0 4 3)) .live::ae.mk 1 (cp.map eI) .live::ae.mk 3 (cq.map aR) .live::(cf 3 aR dq))] (a8 [0,1,5,6])]) (e3.aH (.aE cx (c8 (show ae.mk 4 [(dW df 0 1 0 b4.length 0 2 0 cp.length 0 3 0 cq.length)] .live=gQ (bZ [0]) (ae.mk 4 [(dW df 0 1 0 b4.length 0 2 0 cp.length 0 3 0 cq.length)] .live) from rfl) (c8 (li (bZ [0]) 0 0 4 3 rfl b4) (c8 (fN (bZ [0]) 1 kR cp) (c8 (fN (bZ [0]) 3 fq cq) (dR (bZ [0]) 3 fq dq)))))))))))))
  (fun o =>
  .ret (bg [.aw (ah 9 (ai (.aa true) [])),.aa false,.aP [0] [.bK (ae.mk 4 [(dW df 0 1 0 b4.length 0 2 0 cp.length 0 3 0 cq.length)] .live::ae.mk 1 (b4.map (bp 0 4 3)) .live::ae.mk 1 (cp.map eI) .live::ae.mk 3 (cq.map aR) .live::(cf 3 aR dq))] (a8 [0,1,5])] (.dg h1 h1 h1 o (c8 (show ae.mk 4 [(dW df 0 1 0 b4.length 0 2 0 cp.length 0 3 0 cq.length)] .live=gQ (bZ [0]) (ae.mk 4 [(dW df 0 1 0 b4.length 0 2 0 cp.length 0 3 0 cq.length)] .live) from rfl) (c8 (li (bZ [0]) 0 0 4 3 rfl b4) (c8 (fN (bZ [0]) 1 kR cp) (c8 (fN (bZ [0]) 3 fq cq) (dR (bZ [0]) 3 fq dq)))))))))
  (fun h1 =>
  .ret (bg [.aw (ah 7 (cw 2 (ai (.aa false) []))),.aa false,.aP [0] [.bK (ae.mk 4 [(dW df 0 1 0 b4.length 0 2 0 cp.length 0 3 0 cq.length)] .live::ae.mk 1 (b4.map (bp 0 4 3)) .live::ae.mk 1 (cp.map eI) .live::ae.mk 3 (cq.map aR) .live::(cf 3 aR dq))] (a8 [0,1,5])] (.dg h1 h1 h1 cU (c8 (show ae.mk 4 [(dW df 0 1 0 b4.length 0 2 0 cp.length 0 3 0 cq.length)] .live=gQ (bZ [0]) (ae.mk 4 [(dW df 0 1 0 b4.length 0 2 0 cp.length 0 3 0 cq.length)] .live) from rfl) (c8 (li (bZ [0]) 0 0 4 3 rfl b4) (c8 (fN (bZ [0]) 1 kR cp) (c8 (fN (bZ [0]) 3 fq cq) (dR (bZ [0]) 3 fq dq))))))))
theorem W3 {fh:Bool}{df:Int}{b4:List bD}{cp:List Int}{cq:List aQ}{dq:List (List aQ)}{oK bW:Int}{r} (h:Dz fh df b4 cp cq dq oK bW=some r):dM a5 43 1 60 [1,0,0,0,1,0,1,0,0] (HD fh df b4 cp cq dq) (HY fh df b4 cp cq dq) (oK,bW) r:=dO (fun _=>Vw) h
def HE (fh:Bool)(df:Int)(b4:List bD):((List Int)×(List aQ)×(List (List aQ)))→S:=fun (cp,cq,dq)=>dr [(0,.ref 0 0 0 0),(1,.b fh)] [(ae.mk 4 [(dW df 0 1 0 b4.length 0 2 0 cp.length 0 3 0 cq.length)] .live::ae.mk 1 (b4.map (bp 0 4 3)) .live::ae.mk 1 (cp.map eI) .live::ae.mk 3 (cq.map aR) .live::(cf 3 aR dq))]
def HZ (fh:Bool)(df:Int)(b4:List bD):(Bool×(List Int)×(List aQ)×(List (List aQ)))→dy
 | a=>⟨none,[(4,.b a.1)],[(ae.mk 4 [(dW df 0 1 0 b4.length 0 2 0 a.2.1.length 0 3 0 a.2.2.1.length)] .live::ae.mk 1 (b4.map (bp 0 4 3)) .live::ae.mk 1 (a.2.1.map eI) .live::ae.mk 3 (a.2.2.1.map aR) .live::(cf 3 aR a.2.2.2))]⟩
def zI (fh:Bool)(df:Int)(b4:List bD)(cp:List Int)(cq:List aQ)(dq:List (List aQ)):Option (((List Int)×(List aQ)×(List (List aQ)))⊕(Bool×(List Int)×(List aQ)×(List (List aQ)))) :=
 Dz fh df b4 cp cq dq (-1) 0 >>= fun r1 =>
 if (decide (r1<(0:Int)))=true then
  some (.inr (true,cp,cq,dq))
 else
  if b4.all (rh dq)=true then
  Aj (⟨df,b4.map (iM dq),cp,cq⟩:py) r1 >>= fun ax =>
  if (decide (ax<(0:Int)))=true then
   some (.inr (false,cp,cq,dq))
  else
   z1 ax r1 df b4 cp cq dq >>= fun c2 =>
   some (.inl (c2.1,c2.2.1,c2.2.2))
  else none
def JF (fh:Bool)(df:Int)(b4:List bD)(cp:List Int)(cq:List aQ)(dq:List (List aQ)):Option (Bool×(List Int)×(List aQ)×(List (List aQ))):=iter (fun w:(List Int)×(List aQ)×(List (List aQ))=>zI fh df b4 w.1 w.2.1 w.2.2) (cp,cq,dq)
theorem Vx {fh:Bool}{df:Int}{b4:List bD}{cp:List Int}{cq:List aQ}{dq:List (List aQ)}:bB (zI fh df b4 cp cq dq) (dL a5 43 1 60 [1,0,0] (HE fh df b4 (cp,cq,dq)) (HE fh df b4) (HZ fh df b4)):=by
 unfold zI
 exact .ar fun r1 o =>
  (let t1:List b3:=[(J 1),(J 1),.aP [0] [.bK (ae.mk 4 [(dW df 0 1 0 b4.length 0 2 0 cp.length 0 3 0 cq.length)] .live::ae.mk 1 (b4.map (bp 0 4 3)) .live::ae.mk 1 (cp.map eI) .live::ae.mk 3 (cq.map aR) .live::(cf 3 aR dq))] (a8 [0,1,5,6]),(HY fh df b4 cp cq dq r1).e6,(J 2)];
  have aT:=((.aE (c8 (show ae.mk 4 [(dW df 0 1 0 b4.length 0 2 0 cp.length 0 3 0 cq.length)] .live=gQ (bZ [0]) (ae.mk 4 [(dW df 0 1 0 b4.length 0 2 0 cp.length 0 3 0 cq.length)] .live) from rfl) (c8 (li (bZ [0]) 0 0 4 3 rfl b4) (c8 (fN (bZ [0]) 1 kR cp) (c8 (fN (bZ [0]) 3 fq cq) (dR (bZ [0]) 3 fq dq))))) (W3 o)):cA _);
  .ite (fun af =>
  .ret (bg (t1.append [.aa true,(J 1),.aP [0] [.bK (ae.mk 4 [(dW df 0 1 0 b4.length 0 2 0 cp.length 0 3 0 cq.length)] .live::ae.mk 1 (b4.map (bp 0 4 3)) .live::ae.mk 1 (cp.map eI) .live::ae.mk 3 (cq.map aR) .live::(cf 3 aR dq))] (a8 [4])]) (aT.aH (.aE af (c8 (show ae.mk 4 [(dW df 0 1 0 b4.length 0 2 0 cp.length 0 3 0 cq.length)] .live=gQ (bZ [0]) (ae.mk 4 [(dW df 0 1 0 b4.length 0 2 0 cp.length 0 3 0 cq.length)] .live) from rfl) (c8 (li (bZ [0]) 0 0 4 3 rfl b4) (c8 (fN (bZ [0]) 1 kR cp) (c8 (fN (bZ [0]) 3 fq cq) (dR (bZ [0]) 3 fq dq)))))))))
  (fun af =>
  .aY fun au =>
  .ar fun ax a0 =>
  (let cz:=dW df 0 1 0 b4.length 0 2 0 cp.length 0 3 0 cq.length;let t3:List b3:=t1.append [.aa false,.aw (bo 2 (.call {ac:=[.bs (.ptr [.id,.view 0 (ae.mk 1 (b4.map (bp 0 4 3)) .live) ((b4.map (iM dq)).map (eA 3 aR)),.dF (cp.map eI),.dF (cq.map aR)]),ii],r:= .n .i64 ax,er:=true,eN:=[0]}) 1),(J 2)];
  have e3:=aT.aH (.bi af (rfl:dn (some (ae.mk 4 [cz] .live::ae.mk 1 (b4.map (bp 0 4 3)) .live::ae.mk 1 (cp.map eI) .live::ae.mk 3 (cq.map aR) .live::(cf 3 aR dq))) 1=some (ae.mk 1 (b4.map (bp 0 4 3)) .live)) (rfl:_=true) (fb (bp 0 4 3) b4) (dd (nL (sz:=3) eY) (b4.map (iM dq))) (vh (d5:=0) (jB:=[ae.mk 4 [cz] .live,ae.mk 1 (b4.map (bp 0 4 3)) .live,ae.mk 1 (cp.map eI) .live,ae.mk 3 (cq.map aR) .live]++(cf 3 aR dq)) (cc:=kP) (sz:=1) (g:=(eA 3 aR)) (cR (bp 0 4 3) b4) (fun _=>rfl) (fun x U=>(zf (d5:=0) (c:=4) (cc:=kP) (qY:=[ae.mk 4 [cz] .live,ae.mk 1 (b4.map (bp 0 4 3)) .live,ae.mk 1 (cp.map eI) .live,ae.mk 3 (cq.map aR) .live]) (gl .live 3 aR dq) eY rfl jr rfl (yE au x U))) (dQ b4)) (fv eI cp) (fb eI cp) (.eB (dd aN cp) (fv aR cq) (fb aR cq) (dd eY cq) (qL (JY (⟨df,b4.map (iM dq),cp,cq⟩:py)):jU [[.n .i64 df,.isl 1 ((b4.map (iM dq)).map (eA 3 aR)),.isl 1 (cp.map eI),.isl 3 (cq.map aR)]]) (XZ ax a0) (bX.n .i64 ax)));
  .ite (fun bm =>
  .ret (bg (t3.append [.aa true,(J 1),.aP [0] [.bK (ae.mk 4 [(dW df 0 1 0 b4.length 0 2 0 cp.length 0 3 0 cq.length)] .live::ae.mk 1 (b4.map (bp 0 4 3)) .live::ae.mk 1 (cp.map eI) .live::ae.mk 3 (cq.map aR) .live::(cf 3 aR dq))] (a8 [4])]) (e3.aH (.aE bm (c8 (show ae.mk 4 [(dW df 0 1 0 b4.length 0 2 0 cp.length 0 3 0 cq.length)] .live=gQ (bZ [0]) (ae.mk 4 [(dW df 0 1 0 b4.length 0 2 0 cp.length 0 3 0 cq.length)] .live) from rfl) (c8 (li (bZ [0]) 0 0 4 3 rfl b4) (c8 (fN (bZ [0]) 1 kR cp) (c8 (fN (bZ [0]) 3 fq cq) (dR (bZ [0]) 3 fq dq)))))))))
  (fun bm =>
  .ar fun c2 cx =>
  .ret (let q1:=dW df 0 1 0 b4.length 0 2 0 c2.1.length 0 3 0 c2.2.1.length;let a6:=cf 3 aR c2.2.2;let bY:=dW df 0 1 0 b4.length 0 2 0 cp.length 0 3 0 cq.length;bg (t3.append [.aa false,.aw (ah 3 (ai (.call {a2:=[.row 0],da:=[.bK (ae.mk 4 [bY] .live::ae.mk 1 (b4.map (bp 0 4 3)) .live::ae.mk 1 (cp.map eI) .live::ae.mk 3 (cq.map aR) .live::(cf 3 aR dq))],ac:=[ii,ii,ii],r:= .ea [],eV:=[(ae.mk 4 [q1] .live::ae.mk 1 (b4.map (bp 0 4 3)) .live::ae.mk 1 (c2.1.map eI) .live::ae.mk 3 (c2.2.1.map aR) .live::a6)],gr:=ii,hD:=[.bK (ae.mk 4 [q1] .live::ae.mk 1 (b4.map (bp 0 4 3)) .live::ae.mk 1 (c2.1.map eI) .live::ae.mk 3 (c2.2.1.map aR) .live::a6)],eN:=[0],er:=false}) [])),.aP [0] [.bK (ae.mk 4 [q1] .live::ae.mk 1 (b4.map (bp 0 4 3)) .live::ae.mk 1 (c2.1.map eI) .live::ae.mk 3 (c2.2.1.map aR) .live::a6)] (a8 [0,1])]) (e3.aH (.eB bm (c8 (show ae.mk 4 [(dW df 0 1 0 b4.length 0 2 0 cp.length 0 3 0 cq.length)] .live=gQ (pt [0]) (ae.mk 4 [(dW df 0 1 0 b4.length 0 2 0 cp.length 0 3 0 cq.length)] .live) from rfl) (c8 (li (pt [0]) 0 0 4 3 rfl b4) (c8 (fN (pt [0]) 1 kR cp) (c8 (fN (pt [0]) 3 fq cq) (dR (pt [0]) 3 fq dq))))) ((iU rfl (iU rfl (iU rfl (iU rfl (u0 (gl .live 3 aR dq)))))):lJ (ae.mk 4 [bY] .live::ae.mk 1 (b4.map (bp 0 4 3)) .live::ae.mk 1 (cp.map eI) .live::ae.mk 3 (cq.map aR) .live::(cf 3 aR dq))) (c8 (show ae.mk 4 [(dW df 0 1 0 b4.length 0 2 0 c2.1.length 0 3 0 c2.2.1.length)] .live=gQ (ic [0]) (ae.mk 4 [(dW df 0 1 0 b4.length 0 2 0 c2.1.length 0 3 0 c2.2.1.length)] .live) from rfl) (c8 (li (ic [0]) 0 0 4 3 rfl b4) (c8 (fN (ic [0]) 1 kR c2.1) (c8 (fN (ic [0]) 3 fq c2.2.1) (dR (ic [0]) 3 fq c2.2.2))))) ((iU rfl (iU rfl (iU rfl (iU rfl (u0 (gl .live 3 aR c2.2.2)))))):lJ (ae.mk 4 [q1] .live::ae.mk 1 (b4.map (bp 0 4 3)) .live::ae.mk 1 (c2.1.map eI) .live::ae.mk 3 (c2.2.1.map aR) .live::a6)) (Xl c2 cx) (c8 (show ae.mk 4 [(dW df 0 1 0 b4.length 0 2 0 c2.1.length 0 3 0 c2.2.1.length)] .live=gQ (bZ [0]) (ae.mk 4 [(dW df 0 1 0 b4.length 0 2 0 c2.1.length 0 3 0 c2.2.1.length)] .live) from rfl) (c8 (li (bZ [0]) 0 0 4 3 rfl b4) (c8 (fN (bZ [0]) 1 kR c2.1) (c8 (fN (bZ [0]) 3 fq c2.2.1) (dR (bZ [0]) 3 fq c2.2.2))))))))))))
theorem W4 {fh:Bool}{df:Int}{b4:List bD}{cp:List Int}{cq:List aQ}{dq:List (List aQ)}{r} (h:JF fh df b4 cp cq dq=some r):dM a5 43 1 60 [1,0,0] (HE fh df b4) (HZ fh df b4) (cp,cq,dq) r:=dO (fun _=>Vx) h
def xZ (fh:Bool)(j5:Int)(hj:List bD)(iy:List Int)(h8:List aQ)(o7:List (List aQ)):Option (Bool×(List Int)×(List aQ)×(List (List aQ))) :=
 JF fh j5 hj iy h8 o7 >>= fun r1 =>
 some (r1.1,r1.2.1,r1.2.2.1,r1.2.2.2)
theorem X0 {fh:Bool}{j5:Int}{hj:List bD}{iy:List Int}{h8:List aQ}{o7:List (List aQ)}:bB (xZ fh j5 hj iy h8 o7) (fun a=>Con a5 60 [.ref 0 0 0 0,.b fh] [(ae.mk 4 [(dW j5 0 1 0 hj.length 0 2 0 iy.length 0 3 0 h8.length)] .live::ae.mk 1 (hj.map (bp 0 4 3)) .live::ae.mk 1 (iy.map eI) .live::ae.mk 3 (h8.map aR) .live::(cf 3 aR o7))] (.b a.1) [(ae.mk 4 [(dW j5 0 1 0 hj.length 0 2 0 a.2.1.length 0 3 0 a.2.2.1.length)] .live::ae.mk 1 (hj.map (bp 0 4 3)) .live::ae.mk 1 (a.2.1.map eI) .live::ae.mk 3 (a.2.2.1.map aR) .live::(cf 3 aR a.2.2.2))]):=by
 unfold xZ
 exact .ar fun r1 o =>
  .ret (let q1:=bZ [0];let a6:=li q1 0 0 4 3 rfl hj;kH [(J 1),.aP [0] [.bK (ae.mk 4 [(dW j5 0 1 0 hj.length 0 2 0 iy.length 0 3 0 h8.length)] .live::ae.mk 1 (hj.map (bp 0 4 3)) .live::ae.mk 1 (iy.map eI) .live::ae.mk 3 (h8.map aR) .live::(cf 3 aR o7))] (a8 [0,1]),(HZ fh j5 hj r1).e6] [0] [.bK (ae.mk 4 [(dW j5 0 1 0 hj.length 0 2 0 r1.2.1.length 0 3 0 r1.2.2.1.length)] .live::ae.mk 1 (hj.map (bp 0 4 3)) .live::ae.mk 1 (r1.2.1.map eI) .live::ae.mk 3 (r1.2.2.1.map aR) .live::(cf 3 aR r1.2.2.2))] (.bP (c8 (show ae.mk 4 [(dW j5 0 1 0 hj.length 0 2 0 iy.length 0 3 0 h8.length)] .live=gQ (bZ [0]) (ae.mk 4 [(dW j5 0 1 0 hj.length 0 2 0 iy.length 0 3 0 h8.length)] .live) from rfl) (c8 a6 (c8 (fN q1 1 kR iy) (c8 (fN q1 3 fq h8) (dR q1 3 fq o7))))) (W4 o) (c8 (show ae.mk 4 [(dW j5 0 1 0 hj.length 0 2 0 r1.2.1.length 0 3 0 r1.2.2.1.length)] .live=gQ (bZ [0]) (ae.mk 4 [(dW j5 0 1 0 hj.length 0 2 0 r1.2.1.length 0 3 0 r1.2.2.1.length)] .live) from rfl) (c8 a6 (c8 (fN q1 1 kR r1.2.1) (c8 (fN q1 3 fq r1.2.2.1) (dR q1 3 fq r1.2.2.2)))))))
def uA (ch:hK):Option Bool :=
 z5 ch >>= fun r1 =>
 if r1=true then
  zZ ch >>= fun ba =>
  xZ false ba.1 ba.2.1 ba.2.2.1 ba.2.2.2.1 ba.2.2.2.2 >>= fun cl =>
  if 0≤ba.1∧ba.1<(cl.2.2.1.length:Nat) then
  cl.2.2.1[(0+ba.1.toNat)]? >>= fun dl =>
  p7 dl >>= fun dh =>
  some (dh == (0:Int))
  else none
 else
  some false
theorem W5 {ch:hK}:bB (uA ch) (fun r=>Con a5 42 [.agg (og ch)] [] (.b r) []):=by
 unfold uA
 exact .ar fun r1 o =>
  (let t1:List b3:=[(J 2),.aw (bo 1 (bw 1 (.b r1) true) 1)];
  have aT:=((.aE (XA r1 o) (bX.b r1)):cA _);
  .ite (fun af =>
  .ar fun ba aA =>
  .ar fun cl bm =>
  .aY fun bn =>
  .ar fun dl cQ =>
  .ar fun dh eH =>
  .ret (let q1:=dW ba.1 0 1 0 ba.2.1.length 0 2 0 ba.2.2.1.length 0 3 0 ba.2.2.2.1.length;let a6:=cf 3 aR ba.2.2.2.2;let bY:=dW ba.1 6 1 0 ba.2.1.length 6 2 0 ba.2.2.1.length 6 3 0 ba.2.2.2.1.length;let cz:=dW ba.1 0 1 0 ba.2.1.length 0 2 0 cl.2.1.length 0 3 0 cl.2.2.1.length;let dj:=cf 3 aR cl.2.2.2;let f6:=li (ic [6]) 6 0 4 3 rfl ba.2.1;bz (t1.append [.aa false,.aw (bo 1 (.call {a2:=[],da:=[],ac:=[ii],r:= .ref 0 0 0 0,eV:=[(ae.mk 4 [q1] .live::ae.mk 1 (ba.2.1.map (bp 0 4 3)) .live::ae.mk 1 (ba.2.2.1.map eI) .live::ae.mk 3 (ba.2.2.2.1.map aR) .live::a6)],gr:=ii,hD:=[.bK (ae.mk 4 [bY] .live::ae.mk 1 (ba.2.1.map (bp 6 4 3)) .live::ae.mk 1 (ba.2.2.1.map eI) .live::ae.mk 3 (ba.2.2.2.1.map aR) .live::a6)],eN:=[],er:=false}) 1),.aw (ah 1 (ai (.call {a2:=[.row 6],da:=[.bK (ae.mk 4 [q1] .live::ae.mk 1 (ba.2.1.map (bp 0 4 3)) .live::ae.mk 1 (ba.2.2.1.map eI) .live::ae.mk 3 (ba.2.2.2.1.map aR) .live::a6)],ac:=[ii,ii],r:= .b cl.1,eV:=[(ae.mk 4 [cz] .live::ae.mk 1 (ba.2.1.map (bp 0 4 3)) .live::ae.mk 1 (cl.2.1.map eI) .live::ae.mk 3 (cl.2.2.1.map aR) .live::dj)],gr:=ii,hD:=[.bK (ae.mk 4 [(dW ba.1 6 1 0 ba.2.1.length 6 2 0 cl.2.1.length 6 3 0 cl.2.2.1.length)] .live::ae.mk 1 (ba.2.1.map (bp 6 4 3)) .live::ae.mk 1 (cl.2.1.map eI) .live::ae.mk 3 (cl.2.2.1.map aR) .live::dj)],eN:=[6],er:=false}) [])),.aw (ah 9 (ai (.b5 (aR dl)) (ai (bw 1 (.n .i64 dh) true) (ah 2 []))))]) (aT.aH (.bi (cV af) (c8 (show ae.mk 4 [(dW ba.1 6 1 0 ba.2.1.length 6 2 0 ba.2.2.1.length 6 3 0 ba.2.2.2.1.length)] .live=gQ (ic [6]) (ae.mk 4 [(dW ba.1 0 1 0 ba.2.1.length 0 2 0 ba.2.2.1.length 0 3 0 ba.2.2.2.1.length)] .live) from rfl) (c8 f6 (c8 (fN (ic [6]) 1 kR ba.2.2.1) (c8 (fN (ic [6]) 3 fq ba.2.2.2.1) (dR (ic [6]) 3 fq ba.2.2.2.2))))) ((iU rfl (iU rfl (iU rfl (iU rfl (u0 (gl .live 3 aR ba.2.2.2.2)))))):lJ (ae.mk 4 [q1] .live::ae.mk 1 (ba.2.1.map (bp 0 4 3)) .live::ae.mk 1 (ba.2.2.1.map eI) .live::ae.mk 3 (ba.2.2.2.1.map aR) .live::a6)) (Xi ba aA) (c8 (show ae.mk 4 [(dW ba.1 0 1 0 ba.2.1.length 0 2 0 ba.2.2.1.length 0 3 0 ba.2.2.2.1.length)] .live=gQ (pt [6]) (ae.mk 4 [(dW ba.1 6 1 0 ba.2.1.length 6 2 0 ba.2.2.1.length 6 3 0 ba.2.2.2.1.length)] .live) from rfl) (c8 (li (pt [6]) 0 6 4 3 rfl ba.2.1) (c8 (fN (pt [6]) 1 kR ba.2.2.1) (c8 (fN (pt [6]) 3 fq ba.2.2.2.1) (dR (pt [6]) 3 fq ba.2.2.2.2))))) ((iU rfl (iU rfl (iU rfl (iU rfl (u0 (gl .live 3 aR ba.2.2.2.2)))))):lJ (ae.mk 4 [bY] .live::ae.mk 1 (ba.2.1.map (bp 6 4 3)) .live::ae.mk 1 (ba.2.2.1.map eI) .live::ae.mk 3 (ba.2.2.2.1.map aR) .live::a6)) (c8 (show ae.mk 4 [(dW ba.1 6 1 0 ba.2.1.length 6 2 0 cl.2.1.length 6 3 0 cl.2.2.1.length)] .live=gQ (ic [6]) (ae.mk 4 [(dW ba.1 0 1 0 ba.2.1.length 0 2 0 cl.2.1.length 0 3 0 cl.2.2.1.length)] .live) from rfl) (c8 f6 (c8 (fN (ic [6]) 1 kR cl.2.1) (c8 (fN (ic [6]) 3 fq cl.2.2.1) (dR (ic [6]) 3 fq cl.2.2.2))))) ((iU rfl (iU rfl (iU rfl (iU rfl (u0 (gl .live 3 aR cl.2.2.2)))))):lJ (ae.mk 4 [cz] .live::ae.mk 1 (ba.2.1.map (bp 0 4 3)) .live::ae.mk 1 (cl.2.1.map eI) .live::ae.mk 3 (cl.2.2.1.map aR) .live::dj)) (.d6 (X0 cl bm) bn.1 bn.2 (b2 aR cQ) (tc dh eH) (bX.n .i64 dh))))))
  (fun af =>
  .ret (bz (t1.append [.aa true,(J 1)]) (aT.aH (.e1 (cT af))))))
def Ak (aM:cF)(cj:List Int):Option Bool :=
 sc aM cj >>= fun r1 =>
 if r1=true then
  uC aM cj >>= fun ba =>
  uA ba >>= fun cl =>
  some cl
 else
  some false
theorem X1 {aM:cF}{cj:List Int}:bB (Ak aM cj) (fun r=>Con a5 29 [.agg (hf aM),.isl 1 (cj.map eI)] [] (.b r) []):=by
 unfold Ak
 exact .ar fun r1 o =>
  (have b8:=((.aE (J0 r1 o) (bX.b r1)):cA _);
  .ite (fun af =>
  .ar fun ba aA =>
  .ar fun cl bm =>
  .ret (bz [(J 2),.aw (ah 2 (ai (bw 2 (.b r1) true) (ah 3 (ai (bw 2 (.agg (og ba)) false) (ai (bw 1 (.b cl) true) (ai (.aa true) (ah 1 [])))))))] (b8.aH (.gu af af af (Xg ba aA) af (W5 cl bm) (bX.b cl) af))))
  (fun af =>
  .ret (bz [(J 2),.aw (ah 2 (ai (bw 2 (.b r1) true) (ah 1 (cw 4 (ai (.aa false) (ah 1 []))))))] (b8.aH (.dg af af af af af)))))
def tf (aM:cF)(cj:List Int)(aO:Int):Option Bool :=
 sc aM cj >>= fun r1 =>
 if r1=true then
  mR aO 0 (R ((len_ bA aM.bE)-(1:Int))) >>= fun ba =>
  if ba=true then
   xy aM ([aO]:List Int) >>= fun bQ =>
   Ak bQ cj >>= fun cg =>
   some cg
  else
   some false
 else
  some false
theorem X2 {aM:cF}{cj:List Int}{aO:Int}:bB (tf aM cj aO) (fun r=>Con a5 17 [.agg (hf aM),.isl 1 (cj.map eI),.n .i64 aO] [] (.b r) []):=by
 unfold tf
 exact .ar fun r1 o =>
  (have b8:=((.aE (J0 r1 o) (bX.b r1)):cA _);
  .ite (fun af =>
  .ar fun ba aA =>
  (have aT:=b8.aH (.bi af af af af af af (p5 ba aA) (bX.b ba) (.e1 af));
  .ite (fun a0 =>
  .ar fun bQ bn =>
  .ar fun cg cQ =>
  .ret (bz [(J 2),.aw (ah 2 (ai (bw 2 (.b r1) true) (ah 6 (ai (bw 3 (.b ba) true) (ai (.aa true) (ah 4 (ai (.rn 16 (.call {ac:=[ii,.bs (.c9 (.dF (([aO]:List Int).map eI)))],r:= .agg (hf bQ),er:=false,eN:=[16]})) (ah 1 (ai (bw 2 (.b cg) true) (ai (.aa true) (ah 1 [])))))))))))] (aT.aH (.bi a0 a0 a0 a0 (k4 (show [[.n .i64 aO]]=(([aO]:List Int)).map eI from rfl) (show 1=([aO]:List Int).length from rfl)) (gC eI aO) (dd aN ([aO]:List Int)) (V4 bQ bn) (.dg a0 a0 (X1 cg cQ) (bX.b cg) a0)))))
  (fun a0 =>
  .ret (bz [(J 2),.aw (ah 2 (ai (bw 2 (.b r1) true) (ah 6 (ai (bw 3 (.b ba) true) (ai (.aa true) (ah 1 (cw 6 (ai (.aa false) (ah 1 [])))))))))] (aT.aH (.eB a0 a0 a0 a0 a0 a0 a0))))))
  (fun af =>
  .ret (bz [(J 2),.aw (ah 2 (ai (bw 2 (.b r1) true) (ah 1 (cw 6 (ai (.aa false) (ah 1 (cw 6 (ah 2 []))))))))] (b8.aH (.bi af af af af af af af cU (.dg cU cU cU cU cU))))))
def Gg (cj:List Int)(bM:Int)(aK:List bq)(aJ:List bC):(Int×(List Int))→S:=fun (cY,an)=>dr [(1,.isl 1 (cj.map eI)),(2,.ref 0 0 0 0),(5,.bf 1 0 0 an.length),(14,.n .i64 bM),(15,.n .i64 cY)] [[ae.mk 2 [[.isl 4 (aK.map bu),.isl 3 (aJ.map bA)]] .live],(av 1 eI an)]
def NG (cj:List Int)(bM:Int)(aK:List bq)(aJ:List bC):(List Int)→dy
 | a=>⟨some 0,[(5,.bf 0 0 0 a.length)],[(av 1 eI a)]⟩
def wF (cj:List Int)(bM:Int)(aK:List bq)(aJ:List bC)(cY:Int)(an:List Int):Option ((Int×(List Int))⊕((List Int))) :=
 if (decide (cY<bM))=true then
  tf (⟨aK,aJ⟩:cF) cj cY >>= fun bT =>
  if bT=true then
   some (.inl (R (cY+(1:Int)),an))
  else
   if (an++([cY]:List Int)).length*8≤140737488355328 then
   some (.inl (R (cY+(1:Int)),an++([cY]:List Int)))
   else none
 else
  some (.inr an)
def G8 (cj:List Int)(bM:Int)(aK:List bq)(aJ:List bC)(cY:Int)(an:List Int):Option ((List Int)):=iter (fun w:Int×(List Int)=>wF cj bM aK aJ w.1 w.2) (cY,an)
theorem Uq {cj:List Int}{bM:Int}{aK:List bq}{aJ:List bC}{cY:Int}{an:List Int}:bB (wF cj bM aK aJ cY an) (dL a5 29 0 5 [1,1,1,0,1,0,0] (Gg cj bM aK aJ (cY,an)) (Gg cj bM aK aJ) (NG cj bM aK aJ)):=by
 unfold wF
 exact .ite (fun h1 =>
  .ar fun bT af =>
  (let t1:List b3:=[(J 1),.aa true,(J 2),.aw (bo 3 (bw 3 (.b bT) true) 1)];
  have aT:=((.bP h1 (X2 bT af) (bX.b bT)):cA _);
  .ite (fun au =>
  .ret (bg (t1.append [.aa false,(J 2),.aP [0,1] [.box [.id,.id],.pure] (a8 [1,2,5,14,15])]) (aT.aH (.aE (cV au) (aI 1 .live aN an)))))
  (fun au =>
  .aY fun aA =>
  .ret (let q1:=(an++([cY]:List Int));bg (t1.append [.aa true,.aw (bo 3 (.aH (q1.length)) 1),(J 2),.aP [0,13] [.box [.id,.id],.cE (av 1 eI q1)] (a8 [1,2,5,14,15])]) (aT.aH (.eB (cT au) (gC eI cY) (gW eI an) (gD eI an cY) aA (cZ 1 .live (hb eI an cY)) (aI 1 .live aN q1)))))))
  (fun h1 =>
  .ret (bg [(J 1),.aa false,.aP [1] [.pure] (a8 [5])] (.aE h1 (aI 1 .live aN an))))
theorem U6 {cj:List Int}{bM:Int}{aK:List bq}{aJ:List bC}{cY:Int}{an:List Int}{r} (h:G8 cj bM aK aJ cY an=some r):dM a5 29 0 5 [1,1,1,0,1,0,0] (Gg cj bM aK aJ) (NG cj bM aK aJ) (cY,an) r:=dO (fun _=>Uq) h
def zL (aM:cF)(cj:List Int):Option (List Int) :=
 sc aM cj >>= fun r1 =>
 if r1=true then
  G8 cj (len_ bA aM.bE) aM.b7 aM.bE 0 ([]:List Int) >>= fun ba =>
  some ba
 else
  some ([]:List Int)
theorem VK {aM:cF}{cj:List Int}:bB (zL aM cj) (fun r=>Con a5 5 [.agg (hf aM),.isl 1 (cj.map eI)] [] (.isl 1 (r.map eI)) []):=by
 unfold zL
 exact .ar fun r1 o =>
  (let t1:List b3:=[(J 2),.aw (bo 2 (bw 2 (.b r1) true) 1)];
  have aT:=((.aE (J0 r1 o) (bX.b r1)):cA _);
  .ite (fun af =>
  .ar fun ba aA =>
  .ret (bz (t1.append [.aa false,(J 2),(J 4),.aP [0,6] [.box [.id,.id],.cE (av 1 eI ([]:List Int))] [(1,ii),(2,ii),(5,fU (([]:List Int).length)),(14,ii),(15,ii)],.sub (.exit 0) [(5,.bf 0 0 0 ba.length)] [(av 1 eI ba)],(J 2)]) (aT.aH (.gu (cV af) (cZ 1 .live (show []=(([]:List Int)).map eI from rfl)) (aI 1 .live aN ([]:List Int)) (fc Int) (U6 aA) (fv eI ba) (fb eI ba) (dd aN ba))) (.bs (.c9 (.dF (ba.map eI))))))
  (fun af =>
  .ret (bz (t1.append [.aa true,(J 1)]) (aT.aH (.e1 (cT af))) (.bs (.c9 (.iF 1))))))
def Al (rk:Int):Option Bool :=
 if (decide ((97:Int)≤rk))=true then
  some (decide (rk≤(122:Int)))
 else
  some false
theorem X3 {rk:Int}:bB (Al rk) (fun r=>Con a5 91 [.n .u8 rk] [] (.b r) []):=by
 unfold Al
 exact .ite (fun h1 =>
  .ret (bz [(J 1),.aw (bo 5 (.aa true) 1)] (.bP h1 h1 h1)))
  (fun h1 =>
  .ret (bz [(J 1),.aw (ah 3 (cw 2 (ai (.aa false) (ah 1 []))))] (.bP h1 h1 h1)))
def Au (rk:Int):Option Bool :=
 if (decide ((48:Int)≤rk))=true then
  some (decide (rk≤(57:Int)))
 else
  some false
theorem Yn {rk:Int}:bB (Au rk) (fun r=>Con a5 92 [.n .u8 rk] [] (.b r) []):=by
 unfold Au
 exact .ite (fun h1 =>
  .ret (bz [(J 1),.aw (bo 5 (.aa true) 1)] (.bP h1 h1 h1)))
  (fun h1 =>
  .ret (bz [(J 1),.aw (ah 3 (cw 2 (ai (.aa false) (ah 1 []))))] (.bP h1 h1 h1)))
def ID (aM:ByteArray)(jV:Int):Int→S:=fun gT=>dr [(0,.s aM),(5,.n .i64 jV),(6,.n .i64 gT)] []
def Oh (aM:ByteArray)(jV:Int):((Unit)⊕(Unit))→dy
 | .inl a=>⟨some 0,[(0,.s aM)],[]⟩
 | .inr a=>⟨none,[(2,.b false)],[]⟩
def zP (aM:ByteArray)(jV gT:Int):Option ((Int)⊕((Unit)⊕(Unit))) :=
 if (decide (gT<jV))=true then
  if 0≤gT∧gT<(aM.size:Nat) then
  Al ((aM.data.toList.getD gT.toNat 0).toNat:Int) >>= fun bl =>
  if bl=true then
   some (.inl (R (gT+(1:Int))))
  else
   if (gT == (0:Int))=true then
    some (.inr (.inr ()))
   else
    Au ((aM.data.toList.getD gT.toNat 0).toNat:Int) >>= fun bQ =>
    if bQ=true then
     some (.inl (R (gT+(1:Int))))
    else
     some (.inr (.inr ()))
  else none
 else
  some (.inr (.inl ()))
def DO (aM:ByteArray)(jV gT:Int):Option ((Unit)⊕(Unit)):=iter (fun w:Int=>zP aM jV w) gT
theorem Wg {aM:ByteArray}{jV gT:Int}:bB (zP aM jV gT) (dL a5 33 0 66 [1,0,1,0,0] (ID aM jV gT) (ID aM jV) (Oh aM jV)):=by
 unfold zP
 exact .ite (fun h1 =>
  .aY fun o =>
  .ar fun bl au =>
  (let t1:List b3:=[(J 1),.aa true,(J 2)];
  have aT:=((.dg h1 o.1 o.2 (X3 bl au) (bX.b bl)):cA _);
  .ite (fun aA =>
  .ret (bg (t1.append [.aw (ah 3 (ai (bw 1 (.b bl) true) (ah 2 (cw 3 (ah 5 (cw 1 (ai (.aa false) []))))))),.aa false,(J 2),.aP [] [] (a8 [0,5,6])]) (aT.aH (.d6 (cV aA) (cV aA) (cV aA) (cV aA) (cV aA) cU))))
  (fun aA =>
  (have fO:=aT.aH (.bP (cT aA) (cT aA) (cT aA));
  .ite (fun a0 =>
  .ret (bg (t1.append [.aw (ah 3 (ai (bw 1 (.b bl) true) (ah 5 (cw 5 (ai (.aa true) (ai (.aa true) [])))))),.aa true,(J 1),.aP [] [] (a8 [2])]) (fO.aH (.bi a0 a0 a0 a0 a0 (cT aA) a0 (cT aA) (.e1 cI)))))
  (fun a0 =>
  .ar fun bQ bn =>
  (let t4:List b3:=t1.append [.aw (ah 3 (ai (bw 1 (.b bl) true) (ah 8 (ai (bw 1 (.b bQ) true) (ah 1 (ai (.aa false) (ai (.aa true) [])))))))];
  have mw:=fO.aH (.bi a0 a0 a0 o.1 o.2 a0 (Yn bQ bn) (bX.b bQ) (.c3 a0 (cT aA) a0 (cT aA)));
  .ite (fun cx =>
  .ret (bg (t4.append [.aa false,(J 2),.aP [] [] (a8 [0,5,6])]) (mw.aH (.e1 (cV cx)))))
  (fun cx =>
  .ret (bg (t4.append [.aa true,(J 1),.aP [] [] (a8 [2])]) (mw.aH (.e1 (cT cx)))))))))))
  (fun h1 =>
  .ret (bg [(J 1),.aa false,.aP [] [] (a8 [0])] (.e1 h1)))
theorem Jl {aM:ByteArray}{jV gT:Int}{r} (h:DO aM jV gT=some r):dM a5 33 0 66 [1,0,1,0,0] (ID aM jV) (Oh aM jV) gT r:=dO (fun _=>Wg) h
def AF (aM:ByteArray):Option Bool :=
 DO aM (aM.size:Int) 0 >>= fun r1 =>
 match r1 with
 | .inl dt=>(if (!(aM.toList == (⟨#[]⟩:ByteArray).toList))=true then
  some (decide ((aM.size:Int)≤(8:Int)))
  else
   some false)
 | .inr dt=>(some false)
theorem YJ {aM:ByteArray}:bB (AF aM) (fun r=>Con a5 66 [.s aM] [] (.b r) []):=by
 unfold AF
 exact .ar fun r1 o =>
  (let t1:List b3:=[(J 1),(J 3),.aP [] [] (a8 [0,5,6])];
  (by
  rcases r1 with dt|dt
  ·exact ((let t2:List b3:=t1.append [.sub (.exit 0) [(0,.s aM)] []];
  .ite (fun au =>
  .ret (bz (t2.append [.aw (bo 6 (.aa true) 1)]) (.dg (Jl o) au au au au)))
  (fun au =>
  .ret (bz (t2.append [.aw (ah 3 (cw 3 (ai (.aa false) (ah 1 []))))]) (.dg (Jl o) au au au au)))))
  ·exact (.ret (bz (t1.append [.sub (.ret) [(2,.b false)] []]) (.e1 (Jl o))))))
def x4 (a3:Int):Option Bool :=
 if (decide ((-50:Int)≤a3))=true then
  some (decide (a3≤(50:Int)))
 else
  some false
theorem OE {a3:Int}:bB (x4 a3) (fun r=>Con a5 67 [.n .i64 a3] [] (.b r) []):=by
 unfold x4
 exact .ite (fun h1 =>
  .ret (bz [(J 1),.aw (bo 5 (.aa true) 1)] (.bP h1 h1 h1)))
  (fun h1 =>
  .ret (bz [(J 1),.aw (ah 3 (cw 2 (ai (.aa false) (ah 1 []))))] (.bP h1 h1 h1)))
def Av (bW:bq):Option Bool :=
 AF bW.hh >>= fun r1 =>
 if r1=true then
  x4 bW.gx >>= fun ba =>
  if ba=true then
   x4 bW.gw >>= fun bQ =>
   some bQ
  else
   some false
 else
  some false
theorem Yo {bW:bq}:bB (Av bW) (fun r=>Con a5 45 [.agg (bu bW)] [] (.b r) []):=by
 unfold Av
 exact .ar fun r1 o =>
  (have b8:=((.aE (YJ r1 o) (bX.b r1)):cA _);
  .ite (fun af =>
  .ar fun ba aA =>
  (have aT:=b8.aH (.d6 af af af (OE ba aA) (bX.b ba) af);
  .ite (fun a0 =>
  .ar fun bQ bn =>
  .ret (bz [(J 2),.aw (ah 2 (ai (bw 1 (.b r1) true) (ah 3 (ai (bw 1 (.b ba) true) (ai (.aa true) (ah 3 (ai (bw 1 (.b bQ) true) (ai (.aa true) (ah 1 [])))))))))] (aT.aH (.d6 a0 a0 a0 (OE bQ bn) (bX.b bQ) a0))))
  (fun a0 =>
  .ret (bz [(J 2),.aw (ah 2 (ai (bw 1 (.b r1) true) (ah 3 (ai (bw 1 (.b ba) true) (ai (.aa true) (ah 1 (cw 3 (ai (.aa false) (ah 1 [])))))))))] (aT.aH (.c3 a0 a0 a0 a0))))))
  (fun af =>
  .ret (bz [(J 2),.aw (ah 2 (ai (bw 1 (.b r1) true) (ah 1 (cw 3 (ai (.aa false) (ah 1 (cw 3 (ah 2 []))))))))] (b8.aH (.eB af af af af cU cU cU)))))
def Jm (bW:bq)(c9:ByteArray):Option Bool :=
 some (bW.hh.toList == c9.toList)
theorem WI {bW:bq}{c9:ByteArray}:bB (Jm bW c9) (fun r=>Con a5 69 [.agg (bu bW),.ej 1 [[.s c9]] 0 0] [] (.b r) []):=by
 unfold Jm
 exact .ret (bz [(J 2),(J 5)] .nil)
def FR (aM:List bq)(j8:ByteArray)(dD:Int):Int→S:=fun dA=>dr [(0,.isl 4 (aM.map bu)),(1,.fn 69 [.ej 1 [[.s j8]] 0 0]),(7,.n .i64 dD),(8,.n .i64 dA)] []
def Nu (aM:List bq)(j8:ByteArray)(dD:Int):((Unit)⊕(Int))→dy
 | .inl a=>⟨some 0,[],[]⟩
 | .inr a=>⟨none,[(4,.n .i64 a)],[]⟩
def FT (aM:List bq)(j8:ByteArray)(dD dA:Int):Option ((Int)⊕((Unit)⊕(Int))) :=
 if (decide (dA<dD))=true then
  if 0≤dA∧dA<aM.length then
  aM[dA.toNat]? >>= fun aB =>
  Jm aB j8 >>= fun ax =>
  if ax=true then
   some (.inr (.inr dA))
  else
   some (.inl (R (dA+(1:Int))))
  else none
 else
  some (.inr (.inl ()))
def C3 (aM:List bq)(j8:ByteArray)(dD dA:Int):Option ((Unit)⊕(Int)):=iter (fun w:Int=>FT aM j8 dD w) dA
theorem T3 {aM:List bq}{j8:ByteArray}{dD dA:Int}:bB (FT aM j8 dD dA) (dL a5 19 0 68 [1,0,1,0,0] (FR aM j8 dD dA) (FR aM j8 dD) (Nu aM j8 dD)):=by
 unfold FT
 exact .ite (fun h1 =>
  .aY fun o =>
  .ar fun aB au =>
  .ar fun ax a0 =>
  (let t1:List b3:=[(J 1),.aa true,(J 2),.aw (ah 4 (ai (.b5 (bu aB)) (ai (bw 2 (.b ax) true) [])))];
  have aT:=((.d6 h1 o.1 (cW bu o.2) (b2 bu au) (WI ax a0) (bX.b ax)):cA _);
  .ite (fun bm =>
  .ret (bg (t1.append [.aa true,(J 2),.aP [] [] (a8 [4])]) (aT.aH (.e1 bm))))
  (fun bm =>
  .ret (bg (t1.append [.aa false,(J 2),.aP [] [] [(0,ii),(1,.comp [.c9 .id]),(7,ii),(8,ii)]]) (aT.aH (.e1 bm))))))
  (fun h1 =>
  .ret (bg [(J 1),.aa false,.aP [] [] []] (.e1 h1)))
theorem Nw {aM:List bq}{j8:ByteArray}{dD dA:Int}{r} (h:C3 aM j8 dD dA=some r):dM a5 19 0 68 [1,0,1,0,0] (FR aM j8 dD) (Nu aM j8 dD) dA r:=dO (fun _=>T3) h
def C7 (aM:List bq)(oL:ByteArray):Option Int :=
 C3 aM oL (len_ bu aM) 0 >>= fun r1 =>
 match r1 with
 | .inl dt=>(some (-1))
 | .inr dt=>(some dt)
theorem Um {aM:List bq}{oL:ByteArray}:bB (C7 aM oL) (fun r=>Con a5 68 [.isl 4 (aM.map bu),.fn 69 [.ej 1 [[.s oL]] 0 0]] [] (.n .i64 r) []):=by
 unfold C7
 exact .ar fun r1 o =>
  (let t1:List b3:=[(J 1),(J 3),.aP [] [] [(0,ii),(1,.comp [.c9 .id]),(7,ii),(8,ii)]];
  (by
  rcases r1 with dt|dt
  ·exact (.ret (bz (t1.append [.sub (.exit 0) [] [],(J 1)]) (.e1 (Nw o))))
  ·exact (.ret (bz (t1.append [.sub (.ret) [(4,.n .i64 dt)] []]) (.e1 (Nw o))))))
def z2 (aM:cF)(kN:ByteArray):Option Int :=
 C7 aM.b7 kN >>= fun r1 =>
 some r1
theorem Xm {aM:cF}{kN:ByteArray}:bB (z2 aM kN) (fun r=>Con a5 46 [.agg (hf aM),.s kN] [] (.n .i64 r) []):=by
 unfold z2
 exact .ar fun r1 o =>
  .ret (bz [(J 3),.aw (bo 3 (.call {ac:=[ii,.comp [.ptr [.id]]],r:= .n .i64 r1,er:=true,eN:=[1]}) 1)] (.bP (qL (Q4 kN):jU [[.s kN]]) (Um r1 o) (bX.n .i64 r1)))
def zE (aM:cF)(mH:bC):Option Bool :=
 if (decide (mH.dp<(0:Int)))=true then
  some false
 else
  if (decide ((len_ bu aM.b7)≤mH.dp))=true then
   some false
  else
   if (decide (mH.dN<(0:Int)))=true then
    some false
   else
    if (decide ((len_ bu aM.b7)≤mH.dN))=true then
     some false
    else
     if (decide (mH.gG<(1:Int)))=true then
      some false
     else
      if (decide ((3:Int)<mH.gG))=true then
       some false
      else
       if 0≤mH.dp∧mH.dp<aM.b7.length then
       aM.b7[mH.dp.toNat]? >>= fun ms =>
       if 0≤mH.dN∧mH.dN<aM.b7.length then
       aM.b7[mH.dN.toNat]? >>= fun iD =>
       if (ms.gx != iD.gx)=true then
        if ms.gN=true then
         some (!iD.gN)
        else
         some true
       else
        if (ms.gw != iD.gw)=true then
         if ms.gN=true then
          some (!iD.gN)
         else
          some true
        else
         some false
       else none
       else none
theorem U7 {aM:cF}{mH:bC}:bB (zE aM mH) (fun r=>Con a5 49 [.ej 2 [(hf aM)] 0 0,.agg (bA mH)] [] (.b r) []):=by
 unfold zE
 exact .ite (fun h1 =>
  .ret (bz [(J 2),(J 6),.aw (ah 4 (cw 4 (ai (.aa true) (ah 1 (cw 3 (ah 2 (cw 4 (ah 2 (cw 3 (ah 2 (cw 3 (ah 1 [])))))))))))),.aa true,(J 1)] (.bi h1 h1 h1 h1 h1 cI cI cI (.bi cI cI cI cI cI cI cI cI (.bP cI cI cI)))))
  (fun h1 =>
  .ite (fun o =>
  .ret (bz [(J 2),(J 6),.aw (ah 8 (ai (.aa false) (ah 1 (cw 3 (ai (.aa true) (ah 1 (cw 4 (ah 2 (cw 3 (ah 2 (cw 3 (ah 1 [])))))))))))),.aa true,(J 1)] (.bi h1 h1 h1 h1 h1 o o o (.bi o cI cI cI cI cI cI cI (.c3 cI cI cI cI)))))
  (fun o =>
  (have b8:=((.bi h1 h1 h1 h1 h1 o o o (.e1 o)):cA _);
  .ite (fun af =>
  .ret (bz [(J 2),(J 6),.aw (ah 8 (ai (.aa false) (ah 4 (ai (.aa false) (ah 1 (cw 4 (ai (.aa true) (ah 1 (cw 3 (ah 2 (cw 3 (ah 1 [])))))))))))),.aa true,(J 1)] (b8.aH (.bi af af af af af cI cI cI (.c3 cI cI cI cI)))))
  (fun af =>
  .ite (fun au =>
  .ret (bz [(J 2),(J 6),.aw (ah 8 (ai (.aa false) (ah 4 (ai (.aa false) (ah 5 (ai (.aa false) (ah 1 (cw 3 (ai (.aa true) (ah 1 (cw 3 (ah 1 [])))))))))))),.aa true,(J 1)] (b8.aH (.bi af af af af af au au au (.dg au cI cI cI cI)))))
  (fun au =>
  (have aT:=b8.aH (.bi af af af af af au au au (.e1 au));
  .ite (fun aA =>
  .ret (bz [(J 2),(J 6),.aw (ah 8 (ai (.aa false) (ah 4 (ai (.aa false) (ah 5 (ai (.aa false) (ah 4 (ai (.aa false) (ah 1 (cw 3 (ai (.aa true) []))))))))))),.aa true,(J 1)] (aT.aH (.dg aA aA aA aA cI))))
  (fun aA =>
  (let t3:List b3:=[(J 2),(J 6),.aw (ah 8 (ai (.aa false) (ah 4 (ai (.aa false) (ah 5 (ai (.aa false) (ah 4 (ai (.aa false) (ah 4 (ai (.aa false) []))))))))))];
  .ite (fun a0 =>
  .ret (bz (t3.append [.aa true,(J 1)]) (aT.aH (.dg aA aA aA aA a0))))
  (fun a0 =>
  .aY fun bm =>
  .ar fun ms cx =>
  .aY fun cQ =>
  .ar fun iD eH =>
  (let t4:List b3:=t3.append [.aa false,.aw (ah 7 (ai (.b5 (bu ms)) (bo 7 (.b5 (bu iD)) 4)))];
  have mw:=aT.aH (.bi aA aA aA aA a0 bm.1 (cW bu bm.2) (b2 bu cx) (.bP cQ.1 (cW bu cQ.2) (b2 bu eH)));
  .ite (fun eS =>
  (have kj:=mw.aH (.bi eS eS eS eS eS eS cI cI (.e1 cI));
  .ite (fun eJ =>
  .ret (bz (t4.append [.aw (ah 6 (cw 5 (ai (.aa true) (bo 6 (.aa true) 3))))]) (kj.aH (.dg eJ eJ cI eJ cI))))
  (fun eJ =>
  .ret (bz (t4.append [.aw (ah 6 (cw 5 (ai (.aa true) (ah 4 (cw 2 (ai (.aa false) (ah 3 [])))))))]) (kj.aH (.dg eJ eJ cI eJ cI))))))
  (fun eS =>
  .ite (fun eJ =>
  (have kj:=mw.aH (.bi eS eS eS eS eS eS eJ eJ (.e1 eJ));
  .ite (fun fJ =>
  .ret (bz (t4.append [.aw (ah 11 (ai (.aa false) (ah 6 (ai (.aa true) (bo 1 (.aa true) 1)))))]) (kj.aH (.d6 fJ fJ eJ fJ eJ eJ))))
  (fun fJ =>
  .ret (bz (t4.append [.aw (ah 11 (ai (.aa false) (ah 4 (cw 2 (ai (.aa false) (bo 1 (.aa true) 1))))))]) (kj.aH (.d6 fJ fJ eJ fJ eJ eJ))))))
  (fun eJ =>
  .ret (bz (t4.append [.aw (ah 11 (ai (.aa false) (ah 1 (cw 3 (ah 2 (cw 2 (ai (.aa false) (ah 1 []))))))))]) (mw.aH (.bi eS eS eS eS eS eS eJ eJ (.c3 eJ eJ eJ eJ))))))))))))))))
def uw (mH:bC)(c9:cF):Option Bool :=
 zE c9 mH >>= fun r1 =>
 some (!r1)
theorem WA {mH:bC}{c9:cF}:bB (uw mH c9) (fun r=>Con a5 48 [.agg (bA mH),.ej 2 [(hf c9)] 0 0] [] (.b r) []):=by
 unfold uw
 exact .ar fun r1 o =>
  .ret (bz [(J 2),.aw (bo 1 (bw 2 (.b r1) true) 2)] (.aE (U7 r1 o) (bX.b r1)))
def FQ (aM:List bC)(j8:List bq)(oM:List bC)(dD:Int):Int→S:=fun dA=>dr [(0,.isl 3 (aM.map bA)),(1,.fn 48 [.ej 2 [[.isl 4 (j8.map bu),.isl 3 (oM.map bA)]] 0 0]),(7,.n .i64 dD),(8,.n .i64 dA)] []
def Nt (aM:List bC)(j8:List bq)(oM:List bC)(dD:Int):((Unit)⊕(Int))→dy
 | .inl a=>⟨some 0,[],[]⟩
 | .inr a=>⟨none,[(4,.n .i64 a)],[]⟩
def oa (aM:List bC)(j8:List bq)(oM:List bC)(dD dA:Int):Option ((Int)⊕((Unit)⊕(Int))) :=
 if (decide (dA<dD))=true then
  if 0≤dA∧dA<aM.length then
  aM[dA.toNat]? >>= fun aB =>
  uw aB (⟨j8,oM⟩:cF) >>= fun ax =>
  if ax=true then
   some (.inr (.inr dA))
  else
   some (.inl (R (dA+(1:Int))))
  else none
 else
  some (.inr (.inl ()))
def uc (aM:List bC)(j8:List bq)(oM:List bC)(dD dA:Int):Option ((Unit)⊕(Int)):=iter (fun w:Int=>oa aM j8 oM dD w) dA
theorem T2 {aM:List bC}{j8:List bq}{oM:List bC}{dD dA:Int}:bB (oa aM j8 oM dD dA) (dL a5 19 0 70 [1,0,1,0,0] (FQ aM j8 oM dD dA) (FQ aM j8 oM dD) (Nt aM j8 oM dD)):=by
 unfold oa
 exact .ite (fun h1 =>
  .aY fun o =>
  .ar fun aB au =>
  .ar fun ax a0 =>
  (let t1:List b3:=[(J 1),.aa true,(J 2),.aw (ah 4 (ai (.b5 (bA aB)) (ai (bw 2 (.b ax) true) [])))];
  have aT:=((.d6 h1 o.1 (cW bA o.2) (b2 bA au) (WA ax a0) (bX.b ax)):cA _);
  .ite (fun bm =>
  .ret (bg (t1.append [.aa true,(J 2),.aP [] [] (a8 [4])]) (aT.aH (.e1 bm))))
  (fun bm =>
  .ret (bg (t1.append [.aa false,(J 2),.aP [] [] [(0,ii),(1,.comp [.c9 .id]),(7,ii),(8,ii)]]) (aT.aH (.e1 bm))))))
  (fun h1 =>
  .ret (bg [(J 1),.aa false,.aP [] [] []] (.e1 h1)))
theorem Nv {aM:List bC}{j8:List bq}{oM:List bC}{dD dA:Int}{r} (h:uc aM j8 oM dD dA=some r):dM a5 19 0 70 [1,0,1,0,0] (FQ aM j8 oM dD) (Nt aM j8 oM dD) dA r:=dO (fun _=>T2) h
def zz (aM:List bC)(oL:cF):Option Int :=
 uc aM oL.b7 oL.bE (len_ bA aM) 0 >>= fun r1 =>
 match r1 with
 | .inl dt=>(some (-1))
 | .inr dt=>(some dt)
theorem Uf {aM:List bC}{oL:cF}:bB (zz aM oL) (fun r=>Con a5 70 [.isl 3 (aM.map bA),.fn 48 [.ej 2 [(hf oL)] 0 0]] [] (.n .i64 r) []):=by
 unfold zz
 exact .ar fun r1 o =>
  (let t1:List b3:=[(J 1),(J 3),.aP [] [] [(0,ii),(1,.comp [.c9 .id]),(7,ii),(8,ii)]];
  (by
  rcases r1 with dt|dt
  ·exact (.ret (bz (t1.append [.sub (.exit 0) [] [],(J 1)]) (.e1 (Nv o))))
  ·exact (.ret (bz (t1.append [.sub (.ret) [(4,.n .i64 dt)] []]) (.e1 (Nv o))))))
def zx (aM:List bC)(oL:cF):Option Bool :=
 zz aM oL >>= fun r1 =>
 some (decide ((0:Int)≤r1))
theorem Ua {aM:List bC}{oL:cF}:bB (zx aM oL) (fun r=>Con a5 47 [.isl 3 (aM.map bA),.fn 48 [.ej 2 [(hf oL)] 0 0]] [] (.b r) []):=by
 unfold zx
 exact .ar fun r1 o =>
  .ret (bz [(J 1),.aw (bo 2 (bw 2 (.n .i64 r1) true) 2)] (.aE (Uf r1 o) (bX.n .i64 r1)))
def GO (ee:List bq)(oX:Int)(aJ:List bC):Int→S:=fun oo=>dr [(1,.ref 0 0 0 0),(16,.isl 4 (ee.map bu)),(17,.n .i64 oX),(18,.n .i64 oo)] [[ae.mk 2 [[.isl 4 (ee.map bu),.isl 3 (aJ.map bA)]] .live]]
def G9 (ee:List bq)(oX:Int)(aJ:List bC):((Unit)⊕(Unit))→dy
 | .inl a=>⟨some 0,[(1,.ref 0 0 0 0)],[[ae.mk 2 [[.isl 4 (ee.map bu),.isl 3 (aJ.map bA)]] .live]]⟩
 | .inr a=>⟨none,[(2,.b false)],[]⟩
def De (ee:List bq)(oX:Int)(aJ:List bC)(oo:Int):Option ((Int)⊕((Unit)⊕(Unit))) :=
 if (decide (oo<oX))=true then
  if 0≤oo∧oo<ee.length then
  ee[oo.toNat]? >>= fun aB =>
  Av aB >>= fun ax =>
  if ax=true then
   z2 (⟨ee,aJ⟩:cF) aB.hh >>= fun c2 =>
   if (c2 != oo)=true then
    some (.inr (.inr ()))
   else
    some (.inl (R (oo+(1:Int))))
  else
   some (.inr (.inr ()))
  else none
 else
  some (.inr (.inl ()))
def Dp (ee:List bq)(oX:Int)(aJ:List bC)(oo:Int):Option ((Unit)⊕(Unit)):=iter (fun w:Int=>De ee oX aJ w) oo
theorem US {ee:List bq}{oX:Int}{aJ:List bC}{oo:Int}:bB (De ee oX aJ oo) (dL a5 40 0 33 [1,1,0,1,0,0] (GO ee oX aJ oo) (GO ee oX aJ) (G9 ee oX aJ)):=by
 unfold De
 exact .ite (fun h1 =>
  .aY fun o =>
  .ar fun aB au =>
  .ar fun ax a0 =>
  (let t1:List b3:=[(J 1),.aa true,.aw (bo 2 (.b5 (bu aB)) 3)];
  have aT:=((.d6 h1 o.1 (cW bu o.2) (b2 bu au) (Yo ax a0) (bX.b ax)):cA _);
  .ite (fun bm =>
  .ar fun c2 cx =>
  (let t3:List b3:=t1.append [.aw (ah 1 (ai (bw 1 (.b ax) true) (ah 5 (ai (bw 2 (.n .i64 c2) true) (ah 2 (ai (.aa false) []))))))];
  have e3:=aT.aH (.bi (cV bm) (cV bm) (cV bm) (cV bm) (Xm c2 cx) (bX.n .i64 c2) (cV bm) (cV bm) (.e1 (cV bm)));
  .ite (fun cQ =>
  .ret (bg (t3.append [.aa true,(J 1),.aP [] [] (a8 [2])]) (e3.aH (.e1 cQ))))
  (fun cQ =>
  .ret (bg (t3.append [.aa false,(J 2),.aP [0] [.box [.id,.id]] (a8 [1,16,17,18])]) (e3.aH (.e1 cQ))))))
  (fun bm =>
  .ret (bg (t1.append [.aw (ah 1 (ai (bw 1 (.b ax) true) (ah 2 (cw 6 (ai (.aa true) []))))),.aa true,(J 1),.aP [] [] (a8 [2])]) (aT.aH (.gu (cT bm) (cT bm) (cT bm) (cT bm) (cT bm) (cT bm) (cT bm) cI))))))
  (fun h1 =>
  .ret (bg [(J 1),.aa false,.aP [0] [.box [.id,.id]] (a8 [1])] (.e1 h1)))
theorem NR {ee:List bq}{oX:Int}{aJ:List bC}{oo:Int}{r} (h:Dp ee oX aJ oo=some r):dM a5 40 0 33 [1,1,0,1,0,0] (GO ee oX aJ) (G9 ee oX aJ) oo r:=dO (fun _=>US) h
def xP (aM:cF):Option Bool :=
 if (decide ((6:Int)<(len_ bu aM.b7)))=true then
  some false
 else
  if (decide ((8:Int)<(len_ bA aM.bE)))=true then
   some false
  else
   Dp aM.b7 (len_ bu aM.b7) aM.bE 0 >>= fun bl =>
   match bl with
   | .inl fu=>(zx aM.bE aM >>= fun cl =>
    some (!cl))
   | .inr fu=>(some false)
theorem W6 {aM:cF}:bB (xP aM) (fun r=>Con a5 33 [.agg (hf aM)] [] (.b r) []):=by
 unfold xP
 exact .ite (fun h1 =>
  .ret (bz [(J 2),.aw (ah 5 (cw 4 (ai (.aa true) []))),.aa true,(J 1)] (.d6 h1 h1 h1 h1 h1 cI)))
  (fun h1 =>
  (let t1:List b3:=[(J 2),.aw (ah 9 (ai (.aa false) []))];
  .ite (fun o =>
  .ret (bz (t1.append [.aa true,(J 1)]) (.d6 h1 h1 h1 h1 h1 o)))
  (fun o =>
  .ar fun bl au =>
  (let t2:List b3:=t1.append [.aa false,(J 4),.aP [0] [.box [.id,.id]] (a8 [1,16,17,18])];
  (by
  rcases bl with fu|fu
  ·exact (.ar fun cl bm =>
  .ret (bz (t2.append [(G9 aM.b7 (len_ bu aM.b7) aM.bE (.inl fu)).e6,.aw (bo 3 (.call {ac:=[ii,.comp [.ptr [.id,.id]]],r:= .b cl,er:=true,eN:=[0]}) 2)]) (.bi h1 h1 h1 h1 h1 o (NR au) (qL (Dv aM):jU [(hf aM)]) (.aE (Ua cl bm) (bX.b cl)))))
  ·exact (.ret (bz (t2.append [.sub (.ret) [(2,.b false)] []]) (.eB h1 h1 h1 h1 h1 o (NR au)))))))))
def Aw (a3:Int):Option Bool :=
 if (decide ((-100:Int)≤a3))=true then
  some (decide (a3≤(100:Int)))
 else
  some false
theorem Yp {a3:Int}:bB (Aw a3) (fun r=>Con a5 52 [.n .i64 a3] [] (.b r) []):=by
 unfold Aw
 exact .ite (fun h1 =>
  .ret (bz [(J 1),.aw (bo 5 (.aa true) 1)] (.bP h1 h1 h1)))
  (fun h1 =>
  .ret (bz [(J 1),.aw (ah 3 (cw 2 (ai (.aa false) (ah 1 []))))] (.bP h1 h1 h1)))
def DE (a3:Int):Option Bool :=
 Aw a3 >>= fun r1 =>
 some (!r1)
theorem Xn {a3:Int}:bB (DE a3) (fun r=>Con a5 51 [.n .i64 a3] [] (.b r) []):=by
 unfold DE
 exact .ar fun r1 o =>
  .ret (bz [(J 1),.aw (bo 1 (bw 1 (.b r1) true) 2)] (.aE (Yp r1 o) (bX.b r1)))
def FU (aM:List Int)(dD:Int):Int→S:=fun dA=>dr [(0,.isl 1 (aM.map eI)),(1,.fn 51 []),(7,.n .i64 dD),(8,.n .i64 dA)] []
def Nx (aM:List Int)(dD:Int):((Unit)⊕(Int))→dy
 | .inl a=>⟨some 0,[],[]⟩
 | .inr a=>⟨none,[(4,.n .i64 a)],[]⟩
def wu (aM:List Int)(dD dA:Int):Option ((Int)⊕((Unit)⊕(Int))) :=
 if (decide (dA<dD))=true then
  if 0≤dA∧dA<aM.length then
  aM[dA.toNat]? >>= fun aB =>
  DE aB >>= fun ax =>
  if ax=true then
   some (.inr (.inr dA))
  else
   some (.inl (R (dA+(1:Int))))
  else none
 else
  some (.inr (.inl ()))
def F8 (aM:List Int)(dD dA:Int):Option ((Unit)⊕(Int)):=iter (fun w:Int=>wu aM dD w) dA
theorem T4 {aM:List Int}{dD dA:Int}:bB (wu aM dD dA) (dL a5 19 0 71 [1,0,1,0,0] (FU aM dD dA) (FU aM dD) (Nx aM dD)):=by
 unfold wu
 exact .ite (fun h1 =>
  .aY fun o =>
  .ar fun aB au =>
  .ar fun ax a0 =>
  (let t1:List b3:=[(J 1),.aa true,(J 2),.aw (ah 4 (ai (.b5 (eI aB)) (ai (bw 1 (.b ax) true) [])))];
  have aT:=((.d6 h1 o.1 (cW eI o.2) (b2 eI au) (Xn ax a0) (bX.b ax)):cA _);
  .ite (fun bm =>
  .ret (bg (t1.append [.aa true,(J 2),.aP [] [] (a8 [4])]) (aT.aH (.e1 bm))))
  (fun bm =>
  .ret (bg (t1.append [.aa false,(J 2),.aP [] [] (a8 [0,1,7,8])]) (aT.aH (.e1 bm))))))
  (fun h1 =>
  .ret (bg [(J 1),.aa false,.aP [] [] []] (.e1 h1)))
theorem Ny {aM:List Int}{dD dA:Int}{r} (h:F8 aM dD dA=some r):dM a5 19 0 71 [1,0,1,0,0] (FU aM dD) (Nx aM dD) dA r:=dO (fun _=>T4) h
def C9 (aM:List Int):Option Int :=
 F8 aM (len_ eI aM) 0 >>= fun r1 =>
 match r1 with
 | .inl dt=>(some (-1))
 | .inr dt=>(some dt)
theorem UA {aM:List Int}:bB (C9 aM) (fun r=>Con a5 71 [.isl 1 (aM.map eI),.fn 51 []] [] (.n .i64 r) []):=by
 unfold C9
 exact .ar fun r1 o =>
  (let t1:List b3:=[(J 1),(J 3),.aP [] [] (a8 [0,1,7,8])];
  (by
  rcases r1 with dt|dt
  ·exact (.ret (bz (t1.append [.sub (.exit 0) [] [],(J 1)]) (.e1 (Ny o))))
  ·exact (.ret (bz (t1.append [.sub (.ret) [(4,.n .i64 dt)] []]) (.e1 (Ny o))))))
def C4 (aM:List Int):Option Bool :=
 C9 aM >>= fun r1 =>
 some (decide ((0:Int)≤r1))
theorem Ug {aM:List Int}:bB (C4 aM) (fun r=>Con a5 50 [.isl 1 (aM.map eI),.fn 51 []] [] (.b r) []):=by
 unfold C4
 exact .ar fun r1 o =>
  .ret (bz [(J 1),.aw (bo 2 (bw 2 (.n .i64 r1) true) 2)] (.aE (UA r1 o) (bX.n .i64 r1)))
def Am (aM:cF)(cj:List Int):Option Bool :=
 if ((len_ eI cj) == (R ((2:Int)*(len_ bu aM.b7))))=true then
  C4 cj >>= fun bT =>
  some (!bT)
 else
  some false
theorem X4 {aM:cF}{cj:List Int}:bB (Am aM cj) (fun r=>Con a5 34 [.ej 2 [(hf aM)] 0 0,.isl 1 (cj.map eI)] [] (.b r) []):=by
 unfold Am
 exact .ite (fun h1 =>
  .ar fun bT af =>
  .ret (bz [(J 1),.aw (ah 11 (ai (bw 2 (.b bT) true) (bo 1 (.aa true) 1)))] (.d6 h1 h1 (Ug bT af) (bX.b bT) h1 h1)))
  (fun h1 =>
  .ret (bz [(J 1),.aw (ah 10 (cw 3 (ai (.aa false) (ah 1 []))))] (.c3 h1 h1 h1 h1)))
def uU (aM:cF)(cj:List Int):Option Bool :=
 xP aM >>= fun r1 =>
 if r1=true then
  Am aM cj >>= fun ba =>
  some ba
 else
  some false
theorem OU {aM:cF}{cj:List Int}:bB (uU aM cj) (fun r=>Con a5 20 [.agg (hf aM),.isl 1 (cj.map eI)] [] (.b r) []):=by
 unfold uU
 exact .ar fun r1 o =>
  (have b8:=((.aE (W6 r1 o) (bX.b r1)):cA _);
  .ite (fun af =>
  .ar fun ba aA =>
  .ret (bz [(J 2),.aw (ah 1 (ai (bw 1 (.b r1) true) (ah 2 (ai (.call {ac:=[.bs (.ptr [.id,.id]),ii],r:= .b ba,er:=true,eN:=[0]}) (ai (.aa true) (ah 1 []))))))] (b8.aH (.d6 af af (qL (Dv aM):jU [(hf aM)]) (X4 ba aA) (bX.b ba) af))))
  (fun af =>
  .ret (bz [(J 2),.aw (ah 1 (ai (bw 1 (.b r1) true) (ah 1 (cw 2 (ai (.aa false) (ah 1 []))))))] (b8.aH (.bP af af af)))))
def DR (aM:List bq):Option (List bq) :=
 if aM.length*40≤140737488355328 then some aM else none
theorem Yq:Con a5 53 [.ei] [] (.isl 4 (([]:List bq).map bu)) []:=bz [(J 1),(J 2),.aa true,(J 1)] (.e1 cI) (.bs (.c9 (.iF 4)))
theorem Yr:Con a5 53 [.iB] [] (.isl 4 (([]:List bq).map bu)) []:=(by
 have h:=fun (h1:(([]:List bq)++([]:List bq)).length*40≤140737488355328)=>(bz [(J 1),(J 2),.aa false,.aw (bo 2 (.aH ((([]:List bq)++([]:List bq)).length)) 1)] (.eB cU (nn (show []=(([]:List bq)).map bu from rfl) (fc bq)) (lV (fc bq) (nd bu):(([]:List bq)++([]:List bq)).length=0+([]:List (List aD)).length) h1 (k4 (iv (show []=(([]:List bq)).map bu from rfl) (fc bq) (nd bu)) (dQ (([]:List bq)++([]:List bq)))) (lj (iv (show []=(([]:List bq)).map bu from rfl) (fc bq) (nd bu)) (dQ (([]:List bq)++([]:List bq)))) (dd ju (([]:List bq)++([]:List bq)))) (.bs (.c9 (.dF ((([]:List bq)++([]:List bq)).map bu)))):Con a5 53 [.iB] [] (.isl 4 ((([]:List bq)++([]:List bq)).map bu)) [])
 exact h (by decide))
theorem Ys (x:bq)(l:List bq)(h1:(([]:List bq)++(x::l)).length*40≤140737488355328):Con a5 53 [.isl 4 ((x::l).map bu)] [] (.isl 4 ((([]:List bq)++(x::l)).map bu)) []:=bz [(J 1),.aw (ah 1 (ai .fX [])),.aa false,.aw (bo 2 (.aH ((([]:List bq)++(x::l)).length)) 1)] (.gu (by simp:(x::l).map bu≠[]) cU (nn (show []=(([]:List bq)).map bu from rfl) (fc bq)) (lV (fc bq) (cR bu (x::l)):(([]:List bq)++(x::l)).length=0+((x::l).map bu).length) h1 (k4 (iv (show []=(([]:List bq)).map bu from rfl) (fc bq) (cR bu (x::l))) (dQ (([]:List bq)++(x::l)))) (lj (iv (show []=(([]:List bq)).map bu from rfl) (fc bq) (cR bu (x::l))) (dQ (([]:List bq)++(x::l)))) (dd ju (([]:List bq)++(x::l)))) (.bs (.c9 (.dF ((([]:List bq)++(x::l)).map bu))))
theorem X5 {aM:List bq}:bB (DR aM) (fun r=>Con a5 53 [.isl 4 (aM.map bu)] [] (.isl 4 (r.map bu)) []):=by
 unfold DR
 refine .aY fun h=> .ret ?_
 cases aM with
 | nil=>exact .kf Yq Yr
 | cons x l =>
  have o:=Ys x l (by simpa using h)
  simpa using o
def JT (aM:List Int)(ez dD:Int):Int→S:=fun dA=>dr [(0,.isl 1 (aM.map eI)),(1,.n .i64 ez),(7,.n .i64 dD),(8,.n .i64 dA)] []
def OV (aM:List Int)(ez dD:Int):((Unit)⊕(Int))→dy
 | .inl a=>⟨some 0,[],[]⟩
 | .inr a=>⟨none,[(4,.n .i64 a)],[]⟩
def r7 (aM:List Int)(ez dD dA:Int):Option ((Int)⊕((Unit)⊕(Int))) :=
 if (decide (dA<dD))=true then
  if 0≤dA∧dA<aM.length then
  aM[dA.toNat]? >>= fun aB =>
  if (ez == aB)=true then
   some (.inr (.inr dA))
  else
   some (.inl (R (dA+(1:Int))))
  else none
 else
  some (.inr (.inl ()))
def D4 (aM:List Int)(ez dD dA:Int):Option ((Unit)⊕(Int)):=iter (fun w:Int=>r7 aM ez dD w) dA
theorem Xo {aM:List Int}{ez dD dA:Int}:bB (r7 aM ez dD dA) (dL a5 19 0 72 [1,0,1,0,0] (JT aM ez dD dA) (JT aM ez dD) (OV aM ez dD)):=by
 unfold r7
 exact .ite (fun h1 =>
  .aY fun o =>
  .ar fun aB au =>
  (let t1:List b3:=[(J 1),.aa true,(J 2),.aw (bo 4 (.b5 (eI aB)) 1)];
  have aT:=((.c3 h1 o.1 (cW eI o.2) (b2 eI au)):cA _);
  .ite (fun aA =>
  .ret (bg (t1.append [.aa true,(J 2),.aP [] [] (a8 [4])]) (aT.aH (.e1 aA))))
  (fun aA =>
  .ret (bg (t1.append [.aa false,(J 2),.aP [] [] (a8 [0,1,7,8])]) (aT.aH (.e1 aA))))))
  (fun h1 =>
  .ret (bg [(J 1),.aa false,.aP [] [] []] (.e1 h1)))
theorem O0 {aM:List Int}{ez dD dA:Int}{r} (h:D4 aM ez dD dA=some r):dM a5 19 0 72 [1,0,1,0,0] (JT aM ez dD) (OV aM ez dD) dA r:=dO (fun _=>Xo) h
def A7 (aM:List Int)(ez:Int):Option Int :=
 D4 aM ez (len_ eI aM) 0 >>= fun r1 =>
 match r1 with
 | .inl dt=>(some (-1))
 | .inr dt=>(some dt)
theorem aaa {aM:List Int}{ez:Int}:bB (A7 aM ez) (fun r=>Con a5 72 [.isl 1 (aM.map eI),.n .i64 ez] [] (.n .i64 r) []):=by
 unfold A7
 exact .ar fun r1 o =>
  (let t1:List b3:=[(J 1),(J 3),.aP [] [] (a8 [0,1,7,8])];
  (by
  rcases r1 with dt|dt
  ·exact (.ret (bz (t1.append [.sub (.exit 0) [] [],(J 1)]) (.e1 (O0 o))))
  ·exact (.ret (bz (t1.append [.sub (.ret) [(4,.n .i64 dt)] []]) (.e1 (O0 o))))))
def sf (aM:List Int)(ez:Int):Option Bool :=
 A7 aM ez >>= fun r1 =>
 some (decide ((0:Int)≤r1))
theorem Km {aM:List Int}{ez:Int}:bB (sf aM ez) (fun r=>Con a5 54 [.isl 1 (aM.map eI),.n .i64 ez] [] (.b r) []):=by
 unfold sf
 exact .ar fun r1 o =>
  .ret (bz [(J 1),.aw (bo 2 (bw 2 (.n .i64 r1) true) 2)] (.aE (aaa r1 o) (bX.n .i64 r1)))
def Gr (hR:List Int)(b9:List bC)(bM:Int)(bN:List bq):(Int×(List bC))→S:=fun (cY,aC)=>dr [(1,.isl 1 (hR.map eI)),(4,.ref 0 0 0 0),(5,.ref 1 0 0 0),(13,.isl 3 (b9.map bA)),(14,.n .i64 bM),(15,.n .i64 cY)] [[ae.mk 2 [[.ei,.ei]] .live],[ae.mk 2 [[.isl 4 (bN.map bu),.bf 2 0 0 aC.length]] .live],(av 3 bA aC)]
def Gz (hR:List Int)(b9:List bC)(bM:Int)(bN:List bq):(List bC)→dy
 | a=>⟨some 0,[(4,.ref 0 0 0 0),(5,.ref 1 0 0 0)],[[ae.mk 2 [[.ei,.ei]] .live],[ae.mk 2 [[.isl 4 (bN.map bu),.bf 2 0 0 a.length]] .live],(av 3 bA a)]⟩
def wN (hR:List Int)(b9:List bC)(bM:Int)(bN:List bq)(cY:Int)(aC:List bC):Option ((Int×(List bC))⊕((List bC))) :=
 if (decide (cY<bM))=true then
  if 0≤cY∧cY<b9.length then
  b9[cY.toNat]? >>= fun aB =>
  sf hR cY >>= fun ax =>
  if ax=true then
   some (.inl (R (cY+(1:Int)),aC))
  else
   if (aC++([aB]:List bC)).length*24≤140737488355328 then
   some (.inl (R (cY+(1:Int)),aC++([aB]:List bC)))
   else none
  else none
 else
  some (.inr aC)
def Ho (hR:List Int)(b9:List bC)(bM:Int)(bN:List bq)(cY:Int)(aC:List bC):Option ((List bC)):=iter (fun w:Int×(List bC)=>wN hR b9 bM bN w.1 w.2) (cY,aC)
theorem UB {hR:List Int}{b9:List bC}{bM:Int}{bN:List bq}{cY:Int}{aC:List bC}:bB (wN hR b9 bM bN cY aC) (dL a5 32 0 35 [1,1,0,1,0,0] (Gr hR b9 bM bN (cY,aC)) (Gr hR b9 bM bN) (Gz hR b9 bM bN)):=by
 unfold wN
 exact .ite (fun h1 =>
  .aY fun o =>
  .ar fun aB au =>
  .ar fun ax a0 =>
  (let t1:List b3:=[(J 1),.aa true,.aw (bo 2 (.b5 (bA aB)) 3),.aw (bo 2 (bw 2 (.b ax) true) 1)];
  have aT:=((.d6 h1 o.1 (cW bA o.2) (b2 bA au) (Km ax a0) (bX.b ax)):cA _);
  .ite (fun bm =>
  .ret (bg (t1.append [.aa false,(J 2),.aP [0,1,2] [.box [.id,.id],.box [.id,.id],.pure] (a8 [1,4,5,13,14,15])]) (aT.aH (.aE (cV bm) (aI 3 .live iT aC)))))
  (fun bm =>
  .aY fun bn =>
  .ret (let q1:=(aC++([aB]:List bC));bg (t1.append [.aa true,.aw (bo 4 (.aH (q1.length)) 2),(J 2),.aP [0,1,18] [.box [.id,.id],.box [.id,.id],.cE (av 3 bA q1)] (a8 [1,4,5,13,14,15])]) (aT.aH (.eB (cT bm) (gC bA aB) (gW bA aC) (gD bA aC aB) bn (cZ 3 .live (hb bA aC aB)) (aI 3 .live iT q1)))))))
  (fun h1 =>
  .ret (bg [(J 1),.aa false,.aP [0,1,2] [.box [.id,.id],.box [.id,.id],.pure] (a8 [4,5])] (.aE h1 (aI 3 .live iT aC))))
theorem Vi {hR:List Int}{b9:List bC}{bM:Int}{bN:List bq}{cY:Int}{aC:List bC}{r} (h:Ho hR b9 bM bN cY aC=some r):dM a5 32 0 35 [1,1,0,1,0,0] (Gr hR b9 bM bN) (Gz hR b9 bM bN) (cY,aC) r:=dO (fun _=>UB) h
def xC (aM:cF)(hR:List Int):Option cF :=
 DR aM.b7 >>= fun r1 =>
 Ho hR aM.bE (len_ bA aM.bE) r1 0 ([]:List bC) >>= fun bl =>
 some (⟨r1,bl⟩:cF)
theorem Wh {aM:cF}{hR:List Int}:bB (xC aM hR) (fun r=>Con a5 35 [.agg (hf aM),.isl 1 (hR.map eI)] [] (.agg (hf r)) []):=by
 unfold xC
 exact .ar fun r1 o =>
  .ar fun bl au =>
  .ret (bz [(J 2),.aw (bo 2 (bw 1 (.isl 4 (r1.map bu)) false) 3),(J 4),.rS 6 1 3,.aP [1,6,12] [.box [.id,.id],.box [.id,.len (([]:List bC).length)],.cE (av 3 bA ([]:List bC))] (a8 [1,4,5,13,14,15]),(Gz hR aM.bE (len_ bA aM.bE) r1 bl).e6,(J 2)] (.gu (X5 r1 o) (fc bC) (cZ 3 .live (nd bA)) (aI 3 .live iT ([]:List bC)) (Vi au) (fv bA bl) (fb bA bl) (dd iT bl)) (.bs (.agg [.id,.dF (bl.map bA)])))
def F3 (eh:List bq)(db:Int):(Int×(List Int))→S:=fun (dc,ab)=>dr [(3,.bf 0 0 0 ab.length),(9,.isl 4 (eh.map bu)),(10,.n .i64 db),(11,.n .i64 dc)] [(av 1 eI ab)]
def NA (eh:List bq)(db:Int):(List Int)→dy
 | a=>⟨some 0,[(3,.bf 0 0 0 a.length)],[(av 1 eI a)]⟩
def zy (eh:List bq)(db dc:Int)(ab:List Int):Option ((Int×(List Int))⊕((List Int))) :=
 if (decide (dc<db))=true then
  if 0≤dc∧dc<eh.length then
  eh[dc.toNat]? >>= fun aB =>
  if aB.gN=true then
   some (.inl (R (dc+(1:Int)),ab))
  else
   if (ab++([dc]:List Int)).length*8≤140737488355328 then
   some (.inl (R (dc+(1:Int)),ab++([dc]:List Int)))
   else none
  else none
 else
  some (.inr ab)
def Gh (eh:List bq)(db dc:Int)(ab:List Int):Option ((List Int)):=iter (fun w:Int×(List Int)=>zy eh db w.1 w.2) (dc,ab)
theorem Ub {eh:List bq}{db dc:Int}{ab:List Int}:bB (zy eh db dc ab) (dL a5 25 0 75 [1,1,0,1,0,0] (F3 eh db (dc,ab)) (F3 eh db) (NA eh db)):=by
 unfold zy
 exact .ite (fun h1 =>
  .aY fun o =>
  .ar fun aB au =>
  (let t1:List b3:=[(J 1),.aa true,.aw (bo 2 (.b5 (bu aB)) 3),(J 3)];
  have aT:=((.c3 h1 o.1 (cW bu o.2) (b2 bu au)):cA _);
  .ite (fun aA =>
  .ret (bg (t1.append [.aa false,(J 2),.aP [0] [.pure] (a8 [3,9,10,11])]) (aT.aH (.aE (cV aA) (aI 1 .live aN ab)))))
  (fun aA =>
  .aY fun a0 =>
  .ret (let q1:=(ab++([dc]:List Int));bg (t1.append [.aa true,.aw (bo 3 (.aH (q1.length)) 1),(J 2),.aP [14] [.cE (av 1 eI q1)] (a8 [3,9,10,11])]) (aT.aH (.eB (cT aA) (gC eI dc) (gW eI ab) (gD eI ab dc) a0 (cZ 1 .live (hb eI ab dc)) (aI 1 .live aN q1)))))))
  (fun h1 =>
  .ret (bg [(J 1),.aa false,.aP [0] [.pure] (a8 [3])] (.aE h1 (aI 1 .live aN ab))))
theorem Ur {eh:List bq}{db dc:Int}{ab:List Int}{r} (h:Gh eh db dc ab=some r):dM a5 25 0 75 [1,1,0,1,0,0] (F3 eh db) (NA eh db) (dc,ab) r:=dO (fun _=>Ub) h
def wP (aM:cF):Option (List Int) :=
 Gh aM.b7 (len_ bu aM.b7) 0 ([]:List Int) >>= fun r1 =>
 some r1
theorem NF {aM:cF}:bB (wP aM) (fun r=>Con a5 75 [.ej 2 [(hf aM)] 0 0] [] (.isl 1 (r.map eI)) []):=by
 unfold wP
 exact .ar fun r1 o =>
  .ret (bz [(J 1),(J 1),(J 6),.sE 3 1,.aP [8] [.cE (av 1 eI ([]:List Int))] [(3,fU (([]:List Int).length)),(9,ii),(10,ii),(11,ii)],.sub (.exit 0) [(3,.bf 0 0 0 r1.length)] [(av 1 eI r1)],(J 2)] (.eB (cZ 1 .live (nd eI)) (aI 1 .live aN ([]:List Int)) (fc Int) (Ur o) (fv eI r1) (fb eI r1) (dd aN r1)) (.bs (.c9 (.dF (r1.map eI)))))
def uo (aM:cF)(aO:Int):Option (Int×Int) :=
 if 0≤aO∧aO<aM.bE.length then
 aM.bE[aO.toNat]? >>= fun eb =>
 if 0≤eb.dN∧eb.dN<aM.b7.length then
 aM.b7[eb.dN.toNat]? >>= fun eX =>
 if 0≤eb.dp∧eb.dp<aM.b7.length then
 aM.b7[eb.dp.toNat]? >>= fun ms =>
 some (R (eX.gx-ms.gx),R (eX.gw-ms.gw))
 else none
 else none
 else none
theorem Vy {aM:cF}{aO:Int}:bB (uo aM aO) (fun r=>Con a5 93 [.ej 2 [(hf aM)] 0 0,.n .i64 aO] [] (.ea [.n .i64 r.1,.n .i64 r.2]) []):=by
 unfold uo
 exact .aY fun h1 =>
  .ar fun eb af =>
  .aY fun au =>
  .ar fun eX a0 =>
  .aY fun bm =>
  .ar fun ms cx =>
  .ret (bz [(J 2),.aw (bo 6 (.b5 (bA eb)) 2),.aw (ah 8 (ai (.b5 (bu eX)) (ah 8 (ai (.b5 (bu ms)) (ah 9 (ai (.b5 (bu eX)) (bo 8 (.b5 (bu ms)) 3)))))))] (.bi h1.1 (cW bA h1.2) (b2 bA af) au.1 (cW bu au.2) (b2 bu a0) bm.1 (cW bu bm.2) (.eB (b2 bu cx) au.1 (cW bu au.2) (b2 bu a0) bm.1 (cW bu bm.2) (b2 bu cx))))
def FY (fL:List bq)(fk:List bC)(bW:Int)(b9:List Int)(bM cY dw:Int)(ab:List (List Int)):(Int×(List Int)×(List Int))→S:=fun (gA,an,aC)=>dr [(0,.ej 2 [[.isl 4 (fL.map bu),.isl 3 (fk.map bA)]] 0 0),(3,.bf 0 0 0 ab.length),(5,.n .i64 bW),(6,.bf 1 0 0 an.length),(7,.bf 2 0 0 aC.length),(13,.isl 1 (b9.map eI)),(14,.n .i64 bM),(15,.n .i64 cY),(34,.isl 3 (fk.map bA)),(35,.n .i64 dw),(36,.n .i64 gA)] [(av 1 (eA 1 eI) ab),(av 1 eI an),(av 1 eI aC)]
def F4 (fL:List bq)(fk:List bC)(bW:Int)(b9:List Int)(bM cY dw:Int)(ab:List (List Int)):((List Int)×(List Int))→dy
 | a=>⟨some 2,[(0,.ej 2 [[.isl 4 (fL.map bu),.isl 3 (fk.map bA)]] 0 0),(3,.bf 0 0 0 ab.length),(6,.bf 1 0 0 a.1.length),(7,.bf 2 0 0 a.2.length),(13,.isl 1 (b9.map eI)),(14,.n .i64 bM),(15,.n .i64 cY)],[(av 1 (eA 1 eI) ab),(av 1 eI a.1),(av 1 eI a.2)]⟩
def wz (fL:List bq)(fk:List bC)(bW:Int)(b9:List Int)(bM cY dw:Int)(ab:List (List Int))(gA:Int)(an aC:List Int):Option ((Int×(List Int)×(List Int))⊕((List Int)×(List Int))) :=
 if (decide (gA<dw))=true then
  if 0≤gA∧gA<fk.length then
  fk[gA.toNat]? >>= fun aB =>
  uo (⟨fL,fk⟩:cF) gA >>= fun ax =>
  if (bW == aB.dp)=true then
   if 0≤gA∧gA<(an.length:Nat) then
   if (0+gA.toNat)<an.length then
   if 0≤gA∧gA<(aC.length:Nat) then
   if (0+gA.toNat)<aC.length then
   some (.inl (R (gA+(1:Int)),an.set (0+gA.toNat) ax.1,aC.set (0+gA.toNat) ax.2))
   else none
   else none
   else none
   else none
  else
   if (bW == aB.dN)=true then
    if 0≤gA∧gA<(an.length:Nat) then
    if (0+gA.toNat)<an.length then
    if 0≤gA∧gA<(aC.length:Nat) then
    if (0+gA.toNat)<aC.length then
    some (.inl (R (gA+(1:Int)),an.set (0+gA.toNat) (R (0-ax.1)),aC.set (0+gA.toNat) (R (0-ax.2))))
    else none
    else none
    else none
    else none
   else
    some (.inl (R (gA+(1:Int)),an,aC))
  else none
 else
  some (.inr (an,aC))
def C8 (fL:List bq)(fk:List bC)(bW:Int)(b9:List Int)(bM cY dw:Int)(ab:List (List Int))(gA:Int)(an aC:List Int):Option ((List Int)×(List Int)):=iter (fun w:Int×(List Int)×(List Int)=>wz fL fk bW b9 bM cY dw ab w.1 w.2.1 w.2.2) (gA,an,aC)
theorem T8 {fL:List bq}{fk:List bC}{bW:Int}{b9:List Int}{bM cY dw:Int}{ab:List (List Int)}{gA:Int}{an aC:List Int}:bB (wz fL fk bW b9 bM cY dw ab gA an aC) (dL a5 82 0 73 [1,1,0,1,0,0,1,1,0,0,1,1,0,1,0,0] (FY fL fk bW b9 bM cY dw ab (gA,an,aC)) (FY fL fk bW b9 bM cY dw ab) (F4 fL fk bW b9 bM cY dw ab)):=by
 unfold wz
 exact .ite (fun h1 =>
  .aY fun o =>
  .ar fun aB au =>
  .ar fun ax a0 =>
  (let t1:List b3:=[(J 1),.aa true,.aw (bo 2 (.b5 (bA aB)) 3),.aw (bo 2 (bw 2 (.ea [.n .i64 ax.1,.n .i64 ax.2]) true) 5),(J 1),(J 4)];
  have aT:=((.d6 h1 o.1 (cW bA o.2) (b2 bA au) (Vy ax a0) (EE (mA (bX.n .i64 ax.1) (mA (bX.n .i64 ax.2) rJ)))):cA _);
  .ite (fun bm =>
  .aY fun bn =>
  .aY fun cx =>
  .aY fun cQ =>
  .aY fun fm =>
  .ret (bg (t1.append [.aa true,.aw (ah 7 (ai .fX (ah 1 (ai .fX [])))),(J 2),.aP [0,1,2] [.pure,.cE (av 1 eI (an.set (0+gA.toNat) ax.1)),.cE (av 1 eI (aC.set (0+gA.toNat) ax.2))] [(0,ii),(3,ii),(5,ii),(6,fU ((an.set (0+gA.toNat) ax.1).length)),(7,fU ((aC.set (0+gA.toNat) ax.2).length)),(13,ii),(14,ii),(15,ii),(34,ii),(35,ii),(36,ii)]]) (aT.aH (.bi bm bn.1 bn.2 (hQ eI cx) (hJ 1) cQ.1 cQ.2 (hQ eI fm) (.gu (hJ 1) (aI 1 .live (nL (sz:=1) aN) ab) (cZ 1 .live (gM (cR eI an) (0+gA.toNat) ax.1)) (aI 1 .live aN (an.set (0+gA.toNat) ax.1)) (cZ 1 .live (gM (cR eI aC) (0+gA.toNat) ax.2)) (aI 1 .live aN (aC.set (0+gA.toNat) ax.2)) (hg (dQ an) (0+gA.toNat) ax.1) (hg (dQ aC) (0+gA.toNat) ax.2))))))
  (fun bm =>
  .ite (fun bn =>
  .aY fun cx =>
  .aY fun cQ =>
  .aY fun fm =>
  .aY fun eH =>
  .ret (let q1:=R (0-ax.1);let a6:=R (0-ax.2);bg (t1.append [.aa false,(J 4),.aa true,.aw (ah 9 (ai .fX (ah 1 (ai .fX [])))),(J 2),.aP [0,1,2] [.pure,.cE (av 1 eI (an.set (0+gA.toNat) q1)),.cE (av 1 eI (aC.set (0+gA.toNat) a6))] [(0,ii),(3,ii),(5,ii),(6,fU ((an.set (0+gA.toNat) q1).length)),(7,fU ((aC.set (0+gA.toNat) a6).length)),(13,ii),(14,ii),(15,ii),(34,ii),(35,ii),(36,ii)]]) (aT.aH (.bi bm bn cx.1 cx.2 (hQ eI cQ) (hJ 1) fm.1 fm.2 (.bi (hQ eI eH) (hJ 1) (aI 1 .live (nL (sz:=1) aN) ab) (cZ 1 .live (gM (cR eI an) (0+gA.toNat) q1)) (aI 1 .live aN (an.set (0+gA.toNat) q1)) (cZ 1 .live (gM (cR eI aC) (0+gA.toNat) a6)) (aI 1 .live aN (aC.set (0+gA.toNat) a6)) (hg (dQ an) (0+gA.toNat) q1) (.e1 (hg (dQ aC) (0+gA.toNat) a6)))))))
  (fun bn =>
  .ret (bg (t1.append [.aa false,(J 4),.aa false,(J 2),.aP [0,1,2] [.pure,.pure,.pure] (a8 [0,3,5,6,7,13,14,15,34,35,36])]) (aT.aH (.dg bm bn (aI 1 .live (nL (sz:=1) aN) ab) (aI 1 .live aN an) (aI 1 .live aN aC))))))))
  (fun h1 =>
  .ret (bg [(J 1),.aa false,.aP [0,1,2] [.pure,.pure,.pure] (a8 [0,3,6,7,13,14,15])] (.c3 h1 (aI 1 .live (nL (sz:=1) aN) ab) (aI 1 .live aN an) (aI 1 .live aN aC))))
theorem Un {fL:List bq}{fk:List bC}{bW:Int}{b9:List Int}{bM cY dw:Int}{ab:List (List Int)}{gA:Int}{an aC:List Int}{r} (h:C8 fL fk bW b9 bM cY dw ab gA an aC=some r):dM a5 82 0 73 [1,1,0,1,0,0,1,1,0,0,1,1,0,1,0,0] (FY fL fk bW b9 bM cY dw ab) (F4 fL fk bW b9 bM cY dw ab) (gA,an,aC) r:=dO (fun _=>T8) h
def FZ (fL:List bq)(fk:List bC)(b9:List Int)(bM:Int):(Int×(List (List Int)))→S:=fun (cY,ab)=>dr [(0,.ej 2 [[.isl 4 (fL.map bu),.isl 3 (fk.map bA)]] 0 0),(3,.bf 0 0 0 ab.length),(13,.isl 1 (b9.map eI)),(14,.n .i64 bM),(15,.n .i64 cY)] [(av 1 (eA 1 eI) ab)]
def Nz (fL:List bq)(fk:List bC)(b9:List Int)(bM:Int):(List (List Int))→dy
 | a=>⟨some 0,[(3,.bf 0 0 0 a.length)],[(av 1 (eA 1 eI) a)]⟩
def wA (fL:List bq)(fk:List bC)(b9:List Int)(bM cY:Int)(ab:List (List Int)):Option ((Int×(List (List Int)))⊕((List (List Int)))) :=
 if (decide (cY<bM))=true then
  if 0≤cY∧cY<b9.length then
  b9[cY.toNat]? >>= fun aB =>
  if 0≤(len_ bA fk)∧(8:Int)*(len_ bA fk)≤281474976710656∧(len_ bA fk)<9223372036854775808 then
  C8 fL fk aB b9 bM cY (len_ bA fk) ab 0 (List.replicate (len_ bA fk).toNat 0:List Int) (List.replicate (len_ bA fk).toNat 0:List Int) >>= fun cl =>
  if (ab++([cl.1,cl.2]:List (List Int))).length*24≤140737488355328 then
  some (.inl (R (cY+(1:Int)),ab++([cl.1,cl.2]:List (List Int))))
  else none
  else none
  else none
 else
  some (.inr ab)
def Gf (fL:List bq)(fk:List bC)(b9:List Int)(bM cY:Int)(ab:List (List Int)):Option ((List (List Int))):=iter (fun w:Int×(List (List Int))=>wA fL fk b9 bM w.1 w.2) (cY,ab)
theorem T9 {fL:List bq}{fk:List bC}{b9:List Int}{bM cY:Int}{ab:List (List Int)}:bB (wA fL fk b9 bM cY ab) (dL a5 82 0 73 [1,1,0,1,0,0] (FZ fL fk b9 bM (cY,ab)) (FZ fL fk b9 bM) (Nz fL fk b9 bM)):=by
 unfold wA
 exact .ite (fun h1 =>
  .aY fun o =>
  .ar fun aB au =>
  .aY fun aA =>
  .ar fun cl bm =>
  .aY fun bn =>
  .ret (let a6:=(ab++([cl.1,cl.2]:List (List Int)));let bY:=len_ bA fk;let q1:=(List.replicate bY.toNat 0:List Int);let cz:=nL (sz:=1) aN;let dj:=cZ 1 .live (lU eI bY.toNat 0);bg [(J 1),.aa true,.aw (bo 1 (.b5 (eI aB)) 1),(J 14),(J 6),.aP [0,10,16] [.pure,.cE (av 1 eI q1),.cE (av 1 eI q1)] [(0,ii),(3,ii),(5,ii),(6,fU (q1.length)),(7,fU (q1.length)),(13,ii),(14,ii),(15,ii),(34,ii),(35,ii),(36,ii)],(F4 fL fk aB b9 bM cY bY ab cl).e6,.aP [0] [.pure] [(0,ii),(3,ii),(6,.bs (.c9 (.dF (cl.1.map eI)))),(7,.bs (.c9 (.dF (cl.2.map eI)))),(13,ii),(14,ii),(15,ii)],.aw (bo 4 (.aH (a6.length)) 1),(J 2),.aP [5] [.cE (av 1 (eA 1 eI) a6)] (a8 [0,3,13,14,15])] (.bi h1 o.1 (cW eI o.2) (b2 eI au) aA.1 (Int.le_refl bY) aA.2.1 aA.2.2 (.bi aA.1 (Int.le_refl bY) aA.2.1 aA.2.2 (aI 1 .live cz ab) dj (aI 1 .live aN q1) dj (.bi (aI 1 .live aN q1) (me bY.toNat (0:Int)) (me bY.toNat (0:Int)) (Un bm) (aI 1 .live cz ab) (fv eI cl.1) (fb eI cl.1) (dd aN cl.1) (.bi (fv eI cl.2) (fb eI cl.2) (dd aN cl.2) (lj (show [[.isl 1 (cl.1.map eI)],[.isl 1 (cl.2.map eI)]]=(([cl.1,cl.2]:List (List Int))).map (eA 1 eI) from rfl) (show 2=([cl.1,cl.2]:List (List Int)).length from rfl)) (gW (eA 1 eI) ab) (lV (dQ ab) (oh (show [[.isl 1 (cl.1.map eI)],[.isl 1 (cl.2.map eI)]]=(([cl.1,cl.2]:List (List Int))).map (eA 1 eI) from rfl) (show 2=([cl.1,cl.2]:List (List Int)).length from rfl)):a6.length=ab.length+(([[.isl 1 (cl.1.map eI)],[.isl 1 (cl.2.map eI)]].drop 0).take 2).length) bn (cZ 1 .live (iv (cR (eA 1 eI) ab) (dQ ab) (oh (show [[.isl 1 (cl.1.map eI)],[.isl 1 (cl.2.map eI)]]=(([cl.1,cl.2]:List (List Int))).map (eA 1 eI) from rfl) (show 2=([cl.1,cl.2]:List (List Int)).length from rfl)))) (.e1 (aI 1 .live cz a6))))))))
  (fun h1 =>
  .ret (bg [(J 1),.aa false,.aP [0] [.pure] (a8 [3])] (.aE h1 (aI 1 .live (nL (sz:=1) aN) ab))))
theorem Uo {fL:List bq}{fk:List bC}{b9:List Int}{bM cY:Int}{ab:List (List Int)}{r} (h:Gf fL fk b9 bM cY ab=some r):dM a5 82 0 73 [1,1,0,1,0,0] (FZ fL fk b9 bM) (Nz fL fk b9 bM) (cY,ab) r:=dO (fun _=>T9) h
def zC (aM:cF):Option (List (List Int)) :=
 wP aM >>= fun r1 =>
 Gf aM.b7 aM.bE r1 (len_ eI r1) 0 ([]:List (List Int)) >>= fun bl =>
 some bl
theorem UE {aM:cF}:bB (zC aM) (fun r=>Con a5 73 [.ej 2 [(hf aM)] 0 0] [] (.isl 1 (r.map (eA 1 eI))) []):=by
 unfold zC
 exact .ar fun r1 o =>
  .ar fun bl au =>
  .ret (bz [(J 1),(J 1),.aw (bo 1 (bw 1 (.isl 1 (r1.map eI)) false) 2),.sE 3 1,.aP [6] [.cE (av 1 (eA 1 eI) ([]:List (List Int)))] [(0,ii),(3,fU (([]:List (List Int)).length)),(13,ii),(14,ii),(15,ii)],.sub (.exit 0) [(3,.bf 0 0 0 bl.length)] [(av 1 (eA 1 eI) bl)],(J 2)] (.gu (NF r1 o) (cZ 1 .live (nd (eA 1 eI))) (aI 1 .live (nL (sz:=1) aN) ([]:List (List Int))) (fc (List Int)) (Uo au) (fv (eA 1 eI) bl) (fb (eA 1 eI) bl) (dd (nL (sz:=1) aN) bl)) (.bs (.c9 (.dF (bl.map (eA 1 eI))))))
def F9 (eh:List bC)(db:Int):(Int×(List eG))→S:=fun (dc,ab)=>dr [(3,.bf 0 0 0 ab.length),(9,.isl 3 (eh.map bA)),(10,.n .i64 db),(11,.n .i64 dc)] [(av 2 gy ab)]
def NB (eh:List bC)(db:Int):(List eG)→dy
 | a=>⟨some 0,[(3,.bf 0 0 0 a.length)],[(av 2 gy a)]⟩
def wD (eh:List bC)(db dc:Int)(ab:List eG):Option ((Int×(List eG))⊕((List eG))) :=
 if (decide (dc<db))=true then
  if 0≤dc∧dc<eh.length then
  eh[dc.toNat]? >>= fun aB =>
  if (aB.gG != (2:Int))=true then
   if (ab++([(⟨dc,1⟩:eG)]:List eG)).length*16≤140737488355328 then
   if (aB.gG != (1:Int))=true then
    if ((ab++([(⟨dc,1⟩:eG)]:List eG))++([(⟨dc,(-1)⟩:eG)]:List eG)).length*16≤140737488355328 then
    some (.inl (R (dc+(1:Int)),(ab++([(⟨dc,1⟩:eG)]:List eG))++([(⟨dc,(-1)⟩:eG)]:List eG)))
    else none
   else
    some (.inl (R (dc+(1:Int)),ab++([(⟨dc,1⟩:eG)]:List eG)))
   else none
  else
   if (aB.gG != (1:Int))=true then
    if (ab++([(⟨dc,(-1)⟩:eG)]:List eG)).length*16≤140737488355328 then
    some (.inl (R (dc+(1:Int)),ab++([(⟨dc,(-1)⟩:eG)]:List eG)))
    else none
   else
    some (.inl (R (dc+(1:Int)),ab))
  else none
 else
  some (.inr ab)
def GB (eh:List bC)(db dc:Int)(ab:List eG):Option ((List eG)):=iter (fun w:Int×(List eG)=>wD eh db w.1 w.2) (dc,ab)
theorem Uh {eh:List bC}{db dc:Int}{ab:List eG}:bB (wD eh db dc ab) (dL a5 34 0 74 [1,1,0,1,0,0] (F9 eh db (dc,ab)) (F9 eh db) (NB eh db)):=by
 unfold wD
 exact .ite (fun h1 =>
  .aY fun o =>
  .ar fun aB au =>
  (let t1:List b3:=[(J 1),.aa true,.aw (bo 2 (.b5 (bA aB)) 3),(J 3)];
  have aT:=((.c3 h1 o.1 (cW bA o.2) (b2 bA au)):cA _);
  .ite (fun aA =>
  .aY fun a0 =>
  (let t3:List b3:=t1.append [.aa true,.aw (bo 4 (.aH ((ab++([(⟨dc,1⟩:eG)]:List eG)).length)) 1),(J 3)];
  have e3:=aT.aH (.dg aA (gC gy (⟨dc,1⟩:eG)) (gW gy ab) (gD gy ab (⟨dc,1⟩:eG)) a0);
  .ite (fun bm =>
  .aY fun bn =>
  .ret (let q1:=(ab++([(⟨dc,1⟩:eG)]:List eG));let a6:=(q1++([(⟨dc,(-1)⟩:eG)]:List eG));let bY:=(hb gy ab (⟨dc,1⟩:eG));bg (t3.append [.aa true,.aw (bo 4 (.aH (a6.length)) 1),(J 2),.aP [24] [.cE (av 2 gy a6)] (a8 [3,9,10,11])]) (e3.aH (.eB bm (gC gy (⟨dc,(-1)⟩:eG)) (nn bY (dQ q1)) (gD gy q1 (⟨dc,(-1)⟩:eG)) bn (cZ 2 .live (iv bY (dQ q1) (wc gy (⟨dc,(-1)⟩:eG)))) (aI 2 .live uE a6)))))
  (fun bm =>
  .ret (let cz:=(ab++([(⟨dc,1⟩:eG)]:List eG));bg (t3.append [.aa false,(J 2),.aP [15] [.cE (av 2 gy cz)] (a8 [3,9,10,11])]) (e3.aH (.bP bm (cZ 2 .live (hb gy ab (⟨dc,1⟩:eG))) (aI 2 .live uE cz)))))))
  (fun aA =>
  .ite (fun a0 =>
  .aY fun bm =>
  .ret (let dj:=(ab++([(⟨dc,(-1)⟩:eG)]:List eG));bg (t1.append [.aa false,(J 3),.aa true,.aw (bo 4 (.aH (dj.length)) 1),(J 2),.aP [18] [.cE (av 2 gy dj)] (a8 [3,9,10,11])]) (aT.aH (.gu aA a0 (gC gy (⟨dc,(-1)⟩:eG)) (gW gy ab) (gD gy ab (⟨dc,(-1)⟩:eG)) bm (cZ 2 .live (hb gy ab (⟨dc,(-1)⟩:eG))) (aI 2 .live uE dj)))))
  (fun a0 =>
  .ret (bg (t1.append [.aa false,(J 3),.aa false,(J 2),.aP [0] [.pure] (a8 [3,9,10,11])]) (aT.aH (.bP aA a0 (aI 2 .live uE ab))))))))
  (fun h1 =>
  .ret (bg [(J 1),.aa false,.aP [0] [.pure] (a8 [3])] (.aE h1 (aI 2 .live uE ab))))
theorem UH {eh:List bC}{db dc:Int}{ab:List eG}{r} (h:GB eh db dc ab=some r):dM a5 34 0 74 [1,1,0,1,0,0] (F9 eh db) (NB eh db) (dc,ab) r:=dO (fun _=>Uh) h
def zG (aM:cF):Option (List eG) :=
 GB aM.bE (len_ bA aM.bE) 0 ([]:List eG) >>= fun r1 =>
 some r1
theorem Vj {aM:cF}:bB (zG aM) (fun r=>Con a5 74 [.ej 2 [(hf aM)] 0 0] [] (.isl 2 (r.map gy)) []):=by
 unfold zG
 exact .ar fun r1 o =>
  .ret (bz [(J 1),(J 1),(J 6),.sE 3 2,.aP [8] [.cE (av 2 gy ([]:List eG))] [(3,fU (([]:List eG).length)),(9,ii),(10,ii),(11,ii)],.sub (.exit 0) [(3,.bf 0 0 0 r1.length)] [(av 2 gy r1)],(J 2)] (.eB (cZ 2 .live (nd gy)) (aI 2 .live uE ([]:List eG)) (fc eG) (UH o) (fv gy r1) (fb gy r1) (dd uE r1)) (.bs (.c9 (.dF (r1.map gy)))))
end Go.Proofs.YtmeimpeaagmneaaGreat
