/- Lemmas, plain functions of the program, and what they answer. No condition. -/
import Derived.Test.YtamedijmgkdlgabGreatMB
namespace Go.Proofs.YtamedijmgkdlgabGreat
set_option linter.unusedVariables false
set_option linter.unusedSimpArgs false
open Go Go.VL
def zJ (ai:bD)(iV:Int):Option Int :=
 if (decide ((R (iV-(ai.k9.size:Int)))<(0:Int)))=true then
  some (-1)
 else
  some (R (iV-(ai.k9.size:Int)))
theorem WS {ai:bD}{iV:Int}:bz (zJ ai iV) (fun r=>Con a9 21 [.agg (bL ai),.n .i64 iV] [] (.n .i64 r) []):=by
 unfold zJ
 exact (let t1:List b2:=[(J 2),(J 6),(J 2)];
  .ite (fun h1 =>
  .ret (bw (t1.append [.aa true,(J 1)]) (.e1 h1)))
  (fun h1 =>
  .ret (bw (t1.append [.aa false,(J 2)]) (.e1 h1))))
def GB (ai:List bD):(Int×Int)→S:=fun (iV,ag)=>dm [(0,.isl 4 (ai.map bL)),(1,.n .i64 iV),(5,.n .i64 ag)] []
def GQ (ai:List bD):((Int)⊕(Unit))→dp
 | .inl a=>⟨some 0,[(1,.n .i64 a)],[]⟩
 | .inr a=>⟨none,[(4,.n .i64 (-1:Int))],[]⟩
def tN (ai:List bD)(iV ag:Int):Option ((Int×Int)⊕((Int)⊕(Unit))) :=
 if (decide (ag<(len_ bL ai)))=true then
  if 0≤ag∧ag<ai.length then
  ai[ag.toNat]? >>= fun aI =>
  zJ aI iV >>= fun aM =>
  if (decide (aM<(0:Int)))=true then
   some (.inr (.inr ()))
  else
   some (.inl (aM,R (ag+(1:Int))))
  else none
 else
  some (.inr (.inl iV))
def Iv (ai:List bD)(iV ag:Int):Option ((Int)⊕(Unit)):=iter (fun w:Int×Int=>tN ai w.1 w.2) (iV,ag)
theorem T5 {ai:List bD}{iV ag:Int}:bz (tN ai iV ag) (dQ a9 27 0 11 [1,1,1,0,1,0,0] (GB ai (iV,ag)) (GB ai) (GQ ai)):=by
 unfold tN
 exact .ite (fun h1 =>
  .a0 fun o =>
  .au fun aI av =>
  .au fun aM aZ =>
  (let t1:List b2:=[(J 4),.aa true,.ax (ah 3 (an (.b9 (bL aI)) (bt 1 (bp 2 (.n .i64 aM) true) 1))),(J 2)];
  have aU:=((.dT h1 o.1 (cU bL o.2) (bX bL av) (WS aM aZ) (b7.n .i64 aM)):cr _);
  .ite (fun bg =>
  .ret (bi (t1.append [.aa true,(J 1),.aO [] [] (ba [4])]) (aU.aJ (.e1 bg))))
  (fun bg =>
  .ret (bi (t1.append [.aa false,(J 3),.aO [] [] (ba [0,1,5])]) (aU.aJ (.e1 bg))))))
  (fun h1 =>
  .ret (bi [(J 4),.aa false,.aO [] [] (ba [1])] (.e1 h1)))
theorem MV {ai:List bD}{iV ag:Int}{r} (h:Iv ai iV ag=some r):dR a9 27 0 11 [1,1,1,0,1,0,0] (GB ai) (GQ ai) (iV,ag) r:=dS (fun _=>T5) h
def zs (ai:List bD)(iV:Int):Option Int :=
 if (decide ((R (iV-(len_ bL ai)))<(0:Int)))=true then
  some (-1)
 else
  Iv ai (R (iV-(len_ bL ai))) 0 >>= fun b1 =>
  match b1 with
  | .inl fN=>(some fN)
  | .inr fN=>(some (-1))
theorem Wm {ai:List bD}{iV:Int}:bz (zs ai iV) (fun r=>Con a9 11 [.isl 4 (ai.map bL),.n .i64 iV] [] (.n .i64 r) []):=by
 unfold zs
 exact (let t1:List b2:=[(J 1),(J 5),(J 2)];
  .ite (fun h1 =>
  .ret (bw (t1.append [.aa true,(J 1)]) (.e1 h1)))
  (fun h1 =>
  .au fun b1 ab =>
  (let t2:List b2:=t1.append [.aa false,(J 1),.aO [] [] (ba [0,1,5])];
  (by
  rcases b1 with fN|fN
  ·exact (.ret (bw (t2.append [.sub (.exit 0) [(1,.n .i64 fN)] [],(J 2)]) (.aD h1 (MV ab))))
  ·exact (.ret (bw (t2.append [(GQ ai (.inr fN)).fc]) (.aD h1 (MV ab))))))))
def zl (ai:List bP)(iV:Int):Option Int :=
 if (decide ((R (iV-(len_ bU ai)))<(0:Int)))=true then
  some (-1)
 else
  some (R (iV-(len_ bU ai)))
theorem V6 {ai:List bP}{iV:Int}:bz (zl ai iV) (fun r=>Con a9 12 [.isl 3 (ai.map bU),.n .i64 iV] [] (.n .i64 r) []):=by
 unfold zl
 exact (let t1:List b2:=[(J 1),(J 5),(J 2)];
  .ite (fun h1 =>
  .ret (bw (t1.append [.aa true,(J 1)]) (.e1 h1)))
  (fun h1 =>
  .ret (bw (t1.append [.aa false,(J 2)]) (.e1 h1))))
def zb (ai:ct)(iV:Int):Option Int :=
 zs ai.bZ iV >>= fun r1 =>
 if (decide (r1<(0:Int)))=true then
  some (-1)
 else
  zl ai.bB r1 >>= fun bb =>
  if (decide (bb<(0:Int)))=true then
   some (-1)
  else
   some bb
theorem Vs {ai:ct}{iV:Int}:bz (zb ai iV) (fun r=>Con a9 4 [.agg (gE ai),.n .i64 iV] [] (.n .i64 r) []):=by
 unfold zb
 exact .au fun r1 o =>
  (let t1:List b2:=[(J 2),.ax (bt 3 (bp 2 (.n .i64 r1) true) 1),(J 2)];
  have aU:=((.aD (Wm r1 o) (b7.n .i64 r1)):cr _);
  .ite (fun ab =>
  .ret (bw (t1.append [.aa true,(J 1)]) (aU.aJ (.e1 ab))))
  (fun ab =>
  .au fun bb az =>
  (let t3:List b2:=t1.append [.aa false,.ax (bt 3 (bp 2 (.n .i64 bb) true) 1),(J 2)];
  have eS:=aU.aJ (.bS ab (V6 bb az) (b7.n .i64 bb));
  .ite (fun aZ =>
  .ret (bw (t3.append [.aa true,(J 1)]) (eS.aJ (.e1 aZ))))
  (fun aZ =>
  .ret (bw (t3.append [.aa false,(J 2)]) (eS.aJ (.e1 aZ)))))))
def C8 (ai:bD):Option bD :=
 some ai
theorem WT {ai:bD}:bz (C8 ai) (fun r=>Con a9 26 [.agg (bL ai)] [] (.agg (bL r)) []):=by
 unfold C8
 exact .ret (bw [(J 2),(J 1),(J 4),(J 4),(J 4),(J 4),(J 2)] .nil)
def FY (ai:List bD):(Int×(List bD))→S:=fun (ag,ad)=>dm [(0,.isl 4 (ai.map bL)),(3,.bm 0 0 0 ad.length),(4,.n .i64 ag)] [(af 4 bL ad)]
def Gl (ai:List bD):(List bD)→dp
 | a=>⟨some 0,[(3,.bm 0 0 0 a.length)],[(af 4 bL a)]⟩
def tM (ai:List bD)(ag:Int)(ad:List bD):Option ((Int×(List bD))⊕((List bD))) :=
 if (decide (ag<(len_ bL ai)))=true then
  if 0≤ag∧ag<ai.length then
  ai[ag.toNat]? >>= fun aI =>
  C8 aI >>= fun aM =>
  if 0≤ag∧ag<(ad.length:Nat) then
  if (0+ag.toNat)<ad.length then
  some (.inl (R (ag+(1:Int)),ad.set (0+ag.toNat) aM))
  else none
  else none
  else none
 else
  some (.inr ad)
def HQ (ai:List bD)(ag:Int)(ad:List bD):Option ((List bD)):=iter (fun w:Int×(List bD)=>tM ai w.1 w.2) (ag,ad)
theorem TC {ai:List bD}{ag:Int}{ad:List bD}:bz (tM ai ag ad) (dQ a9 23 0 15 [1,1,0,1,0,0] (FY ai (ag,ad)) (FY ai) (Gl ai)):=by
 unfold tM
 exact .ite (fun h1 =>
  .a0 fun o =>
  .au fun aI av =>
  .au fun aM aZ =>
  .a0 fun bg =>
  .a0 fun bl =>
  .ret (bi [(J 4),.aa true,.ax (ah 5 (an (.b9 (bL aI)) (an (bp 1 (.agg (bL aM)) false) (ah 1 (an .fP []))))),(J 3),.aO [0] [.cA (af 4 bL (ad.set (0+ag.toNat) aM))] [(0,ii),(3,fV ((ad.set (0+ag.toNat) aM).length)),(4,ii)]] (.bk h1 o.1 (cU bL o.2) (bX bL av) (WT aM aZ) bg.1 bg.2 (hE bL bl) (.da (hz 4) (cY 4 .live (gI (cX bL ad) (0+ag.toNat) aM)) (aK 4 .live mD (ad.set (0+ag.toNat) aM)) (hU (dJ ad) (0+ag.toNat) aM)))))
  (fun h1 =>
  .ret (bi [(J 4),.aa false,.aO [0] [.pure] (ba [3])] (.aD h1 (aK 4 .live mD ad))))
theorem U2 {ai:List bD}{ag:Int}{ad:List bD}{r} (h:HQ ai ag ad=some r):dR a9 23 0 15 [1,1,0,1,0,0] (FY ai) (Gl ai) (ag,ad) r:=dS (fun _=>TC) h
def zf (ai:List bD):Option (List bD) :=
 if 0≤(len_ bL ai)∧(40:Int)*(len_ bL ai)≤281474976710656∧(len_ bL ai)<9223372036854775808 then
 HQ ai 0 (List.replicate (len_ bL ai).toNat (⟨ByteArray.empty,0,0,false⟩:bD):List bD) >>= fun b1 =>
 some b1
 else none
theorem VI {ai:List bD}:bz (zf ai) (fun a=>Con a9 15 [.isl 4 (ai.map bL)] [] (.bm 0 0 0 a.length) [(af 4 bL a)]):=by
 unfold zf
 exact .a0 fun h1 =>
  .au fun b1 ab =>
  .ret (let q1:=(List.replicate (len_ bL ai).toNat (⟨ByteArray.empty,0,0,false⟩:bD):List bD);lT [(J 1),(J 4),(J 1),.aO [3] [.cA (af 4 bL q1)] [(0,ii),(3,fV (q1.length)),(4,ii)],(Gl ai b1).fc,(J 2)] [0] [.pure] (.bk h1.1 (Int.le_refl (len_ bL ai)) h1.2.1 h1.2.2 (cY 4 .live (lF bL (len_ bL ai).toNat (⟨ByteArray.empty,0,0,false⟩:bD))) (aK 4 .live mD q1) (lZ (len_ bL ai).toNat ((⟨ByteArray.empty,0,0,false⟩:bD):bD)) (U2 ab) (.e1 (aK 4 .live mD b1))))
def C2 (ai:bP):Option bP :=
 some ai
theorem Wn {ai:bP}:bz (C2 ai) (fun r=>Con a9 27 [.agg (bU ai)] [] (.agg (bU r)) []):=by
 unfold C2
 exact .ret (bw [(J 2),(J 1),(J 4),(J 4),(J 4),(J 2)] .nil)
def FP (ai:List bP):(Int×(List bP))→S:=fun (ag,ad)=>dm [(0,.isl 3 (ai.map bU)),(3,.bm 0 0 0 ad.length),(4,.n .i64 ag)] [(af 3 bU ad)]
def FZ (ai:List bP):(List bP)→dp
 | a=>⟨some 0,[(3,.bm 0 0 0 a.length)],[(af 3 bU a)]⟩
def tL (ai:List bP)(ag:Int)(ad:List bP):Option ((Int×(List bP))⊕((List bP))) :=
 if (decide (ag<(len_ bU ai)))=true then
  if 0≤ag∧ag<ai.length then
  ai[ag.toNat]? >>= fun aI =>
  C2 aI >>= fun aM =>
  if 0≤ag∧ag<(ad.length:Nat) then
  if (0+ag.toNat)<ad.length then
  some (.inl (R (ag+(1:Int)),ad.set (0+ag.toNat) aM))
  else none
  else none
  else none
 else
  some (.inr ad)
def Hk (ai:List bP)(ag:Int)(ad:List bP):Option ((List bP)):=iter (fun w:Int×(List bP)=>tL ai w.1 w.2) (ag,ad)
theorem Tu {ai:List bP}{ag:Int}{ad:List bP}:bz (tL ai ag ad) (dQ a9 23 0 16 [1,1,0,1,0,0] (FP ai (ag,ad)) (FP ai) (FZ ai)):=by
 unfold tL
 exact .ite (fun h1 =>
  .a0 fun o =>
  .au fun aI av =>
  .au fun aM aZ =>
  .a0 fun bg =>
  .a0 fun bl =>
  .ret (bi [(J 4),.aa true,.ax (ah 5 (an (.b9 (bU aI)) (an (bp 1 (.agg (bU aM)) false) (ah 1 (an .fP []))))),(J 3),.aO [0] [.cA (af 3 bU (ad.set (0+ag.toNat) aM))] [(0,ii),(3,fV ((ad.set (0+ag.toNat) aM).length)),(4,ii)]] (.bk h1 o.1 (cU bU o.2) (bX bU av) (Wn aM aZ) bg.1 bg.2 (hE bU bl) (.da (hz 3) (cY 3 .live (gI (cX bU ad) (0+ag.toNat) aM)) (aK 3 .live lD (ad.set (0+ag.toNat) aM)) (hU (dJ ad) (0+ag.toNat) aM)))))
  (fun h1 =>
  .ret (bi [(J 4),.aa false,.aO [0] [.pure] (ba [3])] (.aD h1 (aK 3 .live lD ad))))
theorem UE {ai:List bP}{ag:Int}{ad:List bP}{r} (h:Hk ai ag ad=some r):dR a9 23 0 16 [1,1,0,1,0,0] (FP ai) (FZ ai) (ag,ad) r:=dS (fun _=>Tu) h
def zc (ai:List bP):Option (List bP) :=
 if 0≤(len_ bU ai)∧(24:Int)*(len_ bU ai)≤281474976710656∧(len_ bU ai)<9223372036854775808 then
 Hk ai 0 (List.replicate (len_ bU ai).toNat (⟨0,0,0⟩:bP):List bP) >>= fun b1 =>
 some b1
 else none
theorem Vt {ai:List bP}:bz (zc ai) (fun a=>Con a9 16 [.isl 3 (ai.map bU)] [] (.bm 0 0 0 a.length) [(af 3 bU a)]):=by
 unfold zc
 exact .a0 fun h1 =>
  .au fun b1 ab =>
  .ret (let q1:=(List.replicate (len_ bU ai).toNat (⟨0,0,0⟩:bP):List bP);lT [(J 1),(J 4),(J 1),.aO [3] [.cA (af 3 bU q1)] [(0,ii),(3,fV (q1.length)),(4,ii)],(FZ ai b1).fc,(J 2)] [0] [.pure] (.bk h1.1 (Int.le_refl (len_ bU ai)) h1.2.1 h1.2.2 (cY 3 .live (lF bU (len_ bU ai).toNat (⟨0,0,0⟩:bP))) (aK 3 .live lD q1) (lZ (len_ bU ai).toNat ((⟨0,0,0⟩:bP):bP)) (UE ab) (.e1 (aK 3 .live lD b1))))
def y8 (ai:ct):Option ((List bD)×(List bP)) :=
 zf ai.bZ >>= fun r1 =>
 zc ai.bB >>= fun bj =>
 some (r1,bj)
theorem GC {ai:ct}:bz (y8 ai) (fun a=>Con a9 6 [.agg (gE ai)] [] (.agg [.bm 0 0 0 a.1.length,.bm 0 1 0 a.2.length]) [[ae.mk 4 (a.1.map bL) .live,ae.mk 3 (a.2.map bU) .live]]):=by
 unfold y8
 exact .au fun r1 o =>
  .au fun bj av =>
  .ret (lT [(J 2),(J 1),.ax (bt 2 (.call {a1:=[],dt:=[],ac:=[ii],r:= .bm 0 0 0 r1.length,fy:=[(af 4 bL r1)],ik:=ii,kn:=[.pure],fI:=[],fB:=true}) 2),.ax (bt 2 (.call {a1:=[],dt:=[],ac:=[ii],r:= .bm 0 0 0 bj.length,fy:=[(af 3 bU bj)],ik:=ii,kn:=[.pure],fI:=[],fB:=true}) 2),(J 2),.BH [{bJ:=[(5,0),(10,0)],iA:=none},{bJ:=[(1,0)]}] [([.pure,.pure],none),([.box [.at_ 0 0 r1.length,.at_ 0 1 bj.length]],none)] [(2,.bu (.di (.at_ 1 0 0)))]] [0] [.bG [ae.mk 4 (r1.map bL) .live,ae.mk 3 (bj.map bU) .live]] (.bk (iq 4 mD r1) (VI r1 o) (b7.bm 0 0 0 r1.length) ((rh (ph (o2 Dj) rl) rk):oO [(af 4 bL r1)]) (iq 3 lD bj) (Vt bj av) (b7.bm 0 0 0 bj.length) ((rh (ph (o2 De) rl) rk):oO [(af 3 bU bj)]) (.gD (aK 4 .live mD r1) (aK 3 .live lD bj) (rfl:(kD [{bJ:=[(5,0),(10,0)],iA:=none},{bJ:=[(1,0)]}]) 0 0=some (5,0)) (rfl:r1.length=r1.length) (rfl:(kD [{bJ:=[(5,0),(10,0)],iA:=none},{bJ:=[(1,0)]}]) 0 1=some (10,0)) (rfl:bj.length=bj.length) (rfl:(kD [{bJ:=[(5,0),(10,0)],iA:=none},{bJ:=[(1,0)]}]) 1 0=some (1,0)) (c7 (fX (cH [0]) 4 Di r1) (c7 (fX (cH [0]) 3 Dd bj) (o1 (cd:=(cH [0]))))))) (.bu (.agg [.id,.id])))
def GD (ai:List Int):(Int×(List Int))→S:=fun (ag,ad)=>dm [(0,.isl 1 (ai.map eI)),(3,.bm 0 0 0 ad.length),(4,.n .i64 ag)] [(af 1 eI ad)]
def GR (ai:List Int):(List Int)→dp
 | a=>⟨some 0,[(3,.bm 0 0 0 a.length)],[(af 1 eI a)]⟩
def tO (ai:List Int)(ag:Int)(ad:List Int):Option ((Int×(List Int))⊕((List Int))) :=
 if (decide (ag<(len_ eI ai)))=true then
  if 0≤ag∧ag<ai.length then
  ai[ag.toNat]? >>= fun aI =>
  if 0≤ag∧ag<(ad.length:Nat) then
  if (0+ag.toNat)<ad.length then
  some (.inl (R (ag+(1:Int)),ad.set (0+ag.toNat) aI))
  else none
  else none
  else none
 else
  some (.inr ad)
def Iw (ai:List Int)(ag:Int)(ad:List Int):Option ((List Int)):=iter (fun w:Int×(List Int)=>tO ai w.1 w.2) (ag,ad)
theorem T6 {ai:List Int}{ag:Int}{ad:List Int}:bz (tO ai ag ad) (dQ a9 22 0 7 [1,1,0,1,0,0] (GD ai (ag,ad)) (GD ai) (GR ai)):=by
 unfold tO
 exact .ite (fun h1 =>
  .a0 fun o =>
  .au fun aI av =>
  .a0 fun az =>
  .a0 fun aZ =>
  .ret (bi [(J 4),.aa true,.ax (ah 5 (an (.b9 (eI aI)) (ah 1 (an .fP [])))),(J 3),.aO [0] [.cA (af 1 eI (ad.set (0+ag.toNat) aI))] [(0,ii),(3,fV ((ad.set (0+ag.toNat) aI).length)),(4,ii)]] (.bk h1 o.1 (cU eI o.2) (bX eI av) az.1 az.2 (hE eI aZ) (hz 1) (.bS (cY 1 .live (gI (cX eI ad) (0+ag.toNat) aI)) (aK 1 .live aQ (ad.set (0+ag.toNat) aI)) (hU (dJ ad) (0+ag.toNat) aI)))))
  (fun h1 =>
  .ret (bi [(J 4),.aa false,.aO [0] [.pure] (ba [3])] (.aD h1 (aK 1 .live aQ ad))))
theorem Vu {ai:List Int}{ag:Int}{ad:List Int}{r} (h:Iw ai ag ad=some r):dR a9 22 0 7 [1,1,0,1,0,0] (GD ai) (GR ai) (ag,ad) r:=dS (fun _=>T6) h
def zt (ai:List Int):Option (List Int) :=
 if 0≤(len_ eI ai)∧(8:Int)*(len_ eI ai)≤281474976710656∧(len_ eI ai)<9223372036854775808 then
 Iw ai 0 (List.replicate (len_ eI ai).toNat 0:List Int) >>= fun b1 =>
 some b1
 else none
theorem Ix {ai:List Int}:bz (zt ai) (fun a=>Con a9 7 [.isl 1 (ai.map eI)] [] (.bm 0 0 0 a.length) [(af 1 eI a)]):=by
 unfold zt
 exact .a0 fun h1 =>
  .au fun b1 ab =>
  .ret (let q1:=(List.replicate (len_ eI ai).toNat 0:List Int);lT [(J 1),(J 4),(J 1),.aO [3] [.cA (af 1 eI q1)] [(0,ii),(3,fV (q1.length)),(4,ii)],(GR ai b1).fc,(J 2)] [0] [.pure] (.bk h1.1 (Int.le_refl (len_ eI ai)) h1.2.1 h1.2.2 (cY 1 .live (lF eI (len_ eI ai).toNat 0)) (aK 1 .live aQ q1) (lZ (len_ eI ai).toNat (0:Int)) (Vu ab) (.e1 (aK 1 .live aQ b1))))
def mE (aY l5 ml:Int):Option Bool :=
 if (decide (l5≤aY))=true then
  some (decide (aY≤ml))
 else
  some false
theorem pL {aY l5 ml:Int}:bz (mE aY l5 ml) (fun r=>Con a9 34 [.n .i64 aY,.n .i64 l5,.n .i64 ml] [] (.b r) []):=by
 unfold mE
 exact .ite (fun h1 =>
  .ret (bw [(J 1),.ax (bt 7 (.aa true) 1)] (.da h1 h1 h1 h1)))
  (fun h1 =>
  .ret (bw [(J 1),.ax (ah 4 (cn 3 (an (.aa false) (ah 1 []))))] (.da h1 h1 h1 h1)))
def Hl (aL:ByteArray):Int→S:=fun ag=>dm [(0,.s aL),(3,.n .i64 ag)] []
def M2 (aL:ByteArray):((Unit)⊕(Unit))→dp
 | .inl a=>⟨some 0,[(0,.s aL)],[]⟩
 | .inr a=>⟨none,[(2,.b false)],[]⟩
def sI (aL:ByteArray)(ag:Int):Option ((Int)⊕((Unit)⊕(Unit))) :=
 if (decide (ag<(aL.size:Int)))=true then
  if 0≤ag∧ag<(aL.size:Nat) then
  if (decide ((97:Int)≤((aL.data.toList.getD ag.toNat 0).toNat:Int)))=true then
   if (decide (((aL.data.toList.getD ag.toNat 0).toNat:Int)≤(122:Int)))=true then
    some (.inl (R (ag+(1:Int))))
   else
    if (ag == (0:Int))=true then
     some (.inr (.inr ()))
    else
     if (decide (((aL.data.toList.getD ag.toNat 0).toNat:Int)<(48:Int)))=true then
      some (.inr (.inr ()))
     else
      if (decide ((57:Int)<((aL.data.toList.getD ag.toNat 0).toNat:Int)))=true then
       some (.inr (.inr ()))
      else
       some (.inl (R (ag+(1:Int))))
  else
   if (ag == (0:Int))=true then
    some (.inr (.inr ()))
   else
    if (decide (((aL.data.toList.getD ag.toNat 0).toNat:Int)<(48:Int)))=true then
     some (.inr (.inr ()))
    else
     if (decide ((57:Int)<((aL.data.toList.getD ag.toNat 0).toNat:Int)))=true then
      some (.inr (.inr ()))
     else
      some (.inl (R (ag+(1:Int))))
  else none
 else
  some (.inr (.inl ()))
def zm (aL:ByteArray)(ag:Int):Option ((Unit)⊕(Unit)):=iter (fun w:Int=>sI aL w) ag
theorem UF {aL:ByteArray}{ag:Int}:bz (sI aL ag) (dQ a9 42 0 80 [1,0,1,0,0] (Hl aL ag) (Hl aL) (M2 aL)):=by
 unfold sI
 exact .ite (fun h1 =>
  .a0 fun o =>
  .ite (fun ab =>
  (let t1:List b2:=[(J 4),.aa true,.ax (bt 9 (.aa true) 1)];
  have aU:=((.bk h1 o.1 o.2 ab ab ab o.1 o.2 (.aD ab ab)):cr _);
  .ite (fun av =>
  .ret (bi (t1.append [.ax (ah 3 (cn 3 (ah 4 (cn 2 (ah 4 (cn 1 (an (.aa false) []))))))),.aa false,(J 3),.aO [] [] (ba [0,3])]) (aU.aJ (.gD (c0 av) (c0 av) (c0 av) (c0 av) (c0 av) (c0 av) (c0 av) cP))))
  (fun av =>
  (have fE:=aU.aJ (.bS (cS av) (cS av) (cS av));
  .ite (fun az =>
  .ret (bi (t1.append [.ax (ah 6 (cn 4 (an (.aa true) (ah 1 (cn 4 (ah 1 (an (.aa true) []))))))),.aa true,(J 1),.aO [] [] (ba [2])]) (fE.aJ (.bk az az az az (cS av) az (cS av) cB (.dT cB cB cB (cS av) (cS av) cB)))))
  (fun az =>
  (have eS:=fE.aJ (.bk az az az o.1 o.2 az (cS av) az (.e1 (cS av)));
  .ite (fun aZ =>
  .ret (bi (t1.append [.ax (ah 10 (an (.aa false) (ah 1 (cn 4 (an (.aa true) (an (.aa true) [])))))),.aa true,(J 1),.aO [] [] (ba [2])]) (eS.aJ (.gD aZ aZ aZ aZ (cS av) aZ (cS av) cB))))
  (fun aZ =>
  (let t5:List b2:=t1.append [.ax (ah 10 (an (.aa false) (ah 5 (an (.aa false) (an (.aa true) [])))))];
  have kH:=eS.aJ (.bk aZ aZ aZ o.1 o.2 aZ (cS av) aZ (.e1 (cS av)));
  .ite (fun bg =>
  .ret (bi (t5.append [.aa true,(J 1),.aO [] [] (ba [2])]) (kH.aJ (.e1 bg))))
  (fun bg =>
  .ret (bi (t5.append [.aa false,(J 3),.aO [] [] (ba [0,3])]) (kH.aJ (.e1 bg))))))))))))
  (fun ab =>
  (let t1:List b2:=[(J 4),.aa true,.ax (ah 5 (cn 4 (an (.aa false) (ah 1 []))))];
  have aU:=((.bk h1 o.1 o.2 ab ab ab ab ab (.bS cB cB cB)):cr _);
  .ite (fun av =>
  .ret (bi (t1.append [.ax (ah 6 (cn 4 (an (.aa true) (ah 1 (cn 4 (ah 2 [])))))),.aa true,(J 1),.aO [] [] (ba [2])]) (aU.aJ (.bk av av av av cB av cB cB (.dl cB cB cB cB cB)))))
  (fun av =>
  (have fE:=aU.aJ (.bk av av av o.1 o.2 av cB av (.e1 cB));
  .ite (fun az =>
  .ret (bi (t1.append [.ax (ah 10 (an (.aa false) (ah 1 (cn 4 (an (.aa true) (ah 1 [])))))),.aa true,(J 1),.aO [] [] (ba [2])]) (fE.aJ (.er az az az az cB az cB))))
  (fun az =>
  (let t4:List b2:=t1.append [.ax (ah 10 (an (.aa false) (bt 5 (.aa false) 1)))];
  have me:=fE.aJ (.gD az az az o.1 o.2 az cB az);
  .ite (fun aZ =>
  .ret (bi (t4.append [.aa true,(J 1),.aO [] [] (ba [2])]) (me.aJ (.e1 aZ))))
  (fun aZ =>
  .ret (bi (t4.append [.aa false,(J 3),.aO [] [] (ba [0,3])]) (me.aJ (.e1 aZ)))))))))))
  (fun h1 =>
  .ret (bi [(J 4),.aa false,.aO [] [] (ba [0])] (.e1 h1)))
theorem Nc {aL:ByteArray}{ag:Int}{r} (h:zm aL ag=some r):dR a9 42 0 80 [1,0,1,0,0] (Hl aL) (M2 aL) ag r:=dS (fun _=>UF) h
def sO (aL:ByteArray):Option Bool :=
 zm aL 0 >>= fun r1 =>
 match r1 with
 | .inl dn=>(mE (aL.size:Int) 1 8 >>= fun bb =>
  some bb)
 | .inr dn=>(some false)
theorem Xf {aL:ByteArray}:bz (sO aL) (fun r=>Con a9 80 [.s aL] [] (.b r) []):=by
 unfold sO
 exact .au fun r1 o =>
  (let t1:List b2:=[(J 1),(J 1),.aO [] [] (ba [0,3])];
  (by
  rcases r1 with dn|dn
  ·exact (.au fun bb az =>
  .ret (bw (t1.append [.sub (.exit 0) [(0,.s aL)] [],.ax (bt 2 (bp 3 (.b bb) true) 1)]) (.bS (Nc o) (pL bb az) (b7.b bb))))
  ·exact (.ret (bw (t1.append [.sub (.ret) [(2,.b false)] []]) (.e1 (Nc o))))))
def pe (bT:bD):Option Bool :=
 sO bT.k9 >>= fun r1 =>
 if r1=true then
  mE bT.j2 (-50) 50 >>= fun bb =>
  if bb=true then
   mE bT.j3 (-50) 50 >>= fun cb =>
   some cb
  else
   some false
 else
  some false
theorem WU {bT:bD}:bz (pe bT) (fun r=>Con a9 49 [.agg (bL bT)] [] (.b r) []):=by
 unfold pe
 exact .au fun r1 o =>
  (have af:=((.aD (Xf r1 o) (b7.b r1)):cr _);
  .ite (fun ab =>
  .au fun bb az =>
  (have aU:=af.aJ (.dT ab ab ab (pL bb az) (b7.b bb) ab);
  .ite (fun aZ =>
  .au fun cb bl =>
  .ret (bw [(J 2),.ax (ah 2 (an (bp 1 (.b r1) true) (ah 3 (an (bp 3 (.b bb) true) (an (.aa true) (ah 3 (an (bp 3 (.b cb) true) (an (.aa true) (ah 1 [])))))))))] (aU.aJ (.dT aZ aZ aZ (pL cb bl) (b7.b cb) aZ))))
  (fun aZ =>
  .ret (bw [(J 2),.ax (ah 2 (an (bp 1 (.b r1) true) (ah 3 (an (bp 3 (.b bb) true) (an (.aa true) (ah 1 (cn 3 (an (.aa false) (ah 1 [])))))))))] (aU.aJ (.da aZ aZ aZ aZ))))))
  (fun ab =>
  .ret (bw [(J 2),.ax (ah 2 (an (bp 1 (.b r1) true) (ah 1 (cn 3 (an (.aa false) (ah 1 (cn 3 (ah 2 []))))))))] (af.aJ (.er ab ab ab ab cP cP cP)))))
def F0 (kw:ByteArray)(dk:List bD)(d7:Int):Int→S:=fun c1=>dm [(1,.s kw),(8,.isl 4 (dk.map bL)),(9,.n .i64 d7),(10,.n .i64 c1)] []
def MG (kw:ByteArray)(dk:List bD)(d7:Int):((Unit)⊕(Int))→dp
 | .inl a=>⟨some 0,[],[]⟩
 | .inr a=>⟨none,[(4,.n .i64 a)],[]⟩
def v9 (kw:ByteArray)(dk:List bD)(d7 c1:Int):Option ((Int)⊕((Unit)⊕(Int))) :=
 if (decide (c1<d7))=true then
  if 0≤c1∧c1<dk.length then
  dk[c1.toNat]? >>= fun aI =>
  if (aI.k9.toList == kw.toList)=true then
   some (.inr (.inr c1))
  else
   some (.inl (R (c1+(1:Int))))
  else none
 else
  some (.inr (.inl ()))
def wV (kw:ByteArray)(dk:List bD)(d7 c1:Int):Option ((Unit)⊕(Int)):=iter (fun w:Int=>v9 kw dk d7 w) c1
theorem TD {kw:ByteArray}{dk:List bD}{d7 c1:Int}:bz (v9 kw dk d7 c1) (dQ a9 21 0 50 [1,0,1,0,0] (F0 kw dk d7 c1) (F0 kw dk d7) (MG kw dk d7)):=by
 unfold v9
 exact .ite (fun h1 =>
  .a0 fun o =>
  .au fun aI av =>
  (let t1:List b2:=[(J 1),.aa true,.ax (bt 2 (.b9 (bL aI)) 3),(J 4)];
  have aU:=((.da h1 o.1 (cU bL o.2) (bX bL av)):cr _);
  .ite (fun az =>
  .ret (bi (t1.append [.aa true,(J 2),.aO [] [] (ba [4])]) (aU.aJ (.e1 az))))
  (fun az =>
  .ret (bi (t1.append [.aa false,(J 2),.aO [] [] (ba [1,8,9,10])]) (aU.aJ (.e1 az))))))
  (fun h1 =>
  .ret (bi [(J 1),.aa false,.aO [] [] []] (.e1 h1)))
theorem ML {kw:ByteArray}{dk:List bD}{d7 c1:Int}{r} (h:wV kw dk d7 c1=some r):dR a9 21 0 50 [1,0,1,0,0] (F0 kw dk d7) (MG kw dk d7) c1 r:=dS (fun _=>TD) h
def ua (aL:ct)(kw:ByteArray):Option Int :=
 wV kw aL.bZ (len_ bL aL.bZ) 0 >>= fun r1 =>
 match r1 with
 | .inl dn=>(some (-1))
 | .inr dn=>(some dn)
theorem VJ {aL:ct}{kw:ByteArray}:bz (ua aL kw) (fun r=>Con a9 50 [.agg (gE aL),.s kw] [] (.n .i64 r) []):=by
 unfold ua
 exact .au fun r1 o =>
  (let t1:List b2:=[(J 2),(J 4),.aO [] [] (ba [1,8,9,10])];
  (by
  rcases r1 with dn|dn
  ·exact (.ret (bw (t1.append [.sub (.exit 0) [] [],(J 1)]) (.e1 (ML o))))
  ·exact (.ret (bw (t1.append [.sub (.ret) [(4,.n .i64 dn)] []]) (.e1 (ML o))))))
def FQ (gF:List bD)(gp:Int)(aE:List bP):Int→S:=fun iL=>dm [(1,.ref 0 0 0 0),(21,.isl 4 (gF.map bL)),(22,.n .i64 gp),(23,.n .i64 iL)] [[ae.mk 2 [[.isl 4 (gF.map bL),.isl 3 (aE.map bU)]] .live]]
def F1 (gF:List bD)(gp:Int)(aE:List bP):((Unit)⊕(Unit))→dp
 | .inl a=>⟨some 0,[(1,.ref 0 0 0 0)],[[ae.mk 2 [[.isl 4 (gF.map bL),.isl 3 (aE.map bU)]] .live]]⟩
 | .inr a=>⟨none,[(2,.b false)],[]⟩
def q5 (gF:List bD)(gp:Int)(aE:List bP)(iL:Int):Option ((Int)⊕((Unit)⊕(Unit))) :=
 if (decide (iL<gp))=true then
  if 0≤iL∧iL<gF.length then
  gF[iL.toNat]? >>= fun aI =>
  pe aI >>= fun aM =>
  if aM=true then
   ua (⟨gF,aE⟩:ct) aI.k9 >>= fun c4 =>
   if (c4 != iL)=true then
    some (.inr (.inr ()))
   else
    some (.inl (R (iL+(1:Int))))
  else
   some (.inr (.inr ()))
  else none
 else
  some (.inr (.inl ()))
def q6 (gF:List bD)(gp:Int)(aE:List bP)(iL:Int):Option ((Unit)⊕(Unit)):=iter (fun w:Int=>q5 gF gp aE w) iL
theorem Tv {gF:List bD}{gp:Int}{aE:List bP}{iL:Int}:bz (q5 gF gp aE iL) (dQ a9 102 0 33 [1,1,0,1,0,0] (FQ gF gp aE iL) (FQ gF gp aE) (F1 gF gp aE)):=by
 unfold q5
 exact .ite (fun h1 =>
  .a0 fun o =>
  .au fun aI av =>
  .au fun aM aZ =>
  (let t1:List b2:=[(J 1),.aa true,.ax (bt 2 (.b9 (bL aI)) 3)];
  have aU:=((.dT h1 o.1 (cU bL o.2) (bX bL av) (WU aM aZ) (b7.b aM)):cr _);
  .ite (fun bg =>
  .au fun c4 cq =>
  (let t3:List b2:=t1.append [.ax (ah 1 (an (bp 1 (.b aM) true) (ah 5 (an (bp 2 (.n .i64 c4) true) (ah 2 (an (.aa false) []))))))];
  have eS:=aU.aJ (.bk (c0 bg) (c0 bg) (c0 bg) (c0 bg) (VJ c4 cq) (b7.n .i64 c4) (c0 bg) (c0 bg) (.e1 (c0 bg)));
  .ite (fun cQ =>
  .ret (bi (t3.append [.aa true,(J 1),.aO [] [] (ba [2])]) (eS.aJ (.e1 cQ))))
  (fun cQ =>
  .ret (bi (t3.append [.aa false,(J 2),.aO [0] [.box [.id,.id]] (ba [1,21,22,23])]) (eS.aJ (.e1 cQ))))))
  (fun bg =>
  .ret (bi (t1.append [.ax (ah 1 (an (bp 1 (.b aM) true) (ah 2 (cn 6 (an (.aa true) []))))),.aa true,(J 1),.aO [] [] (ba [2])]) (aU.aJ (.gD (cS bg) (cS bg) (cS bg) (cS bg) (cS bg) (cS bg) (cS bg) cB))))))
  (fun h1 =>
  .ret (bi [(J 1),.aa false,.aO [0] [.box [.id,.id]] (ba [1])] (.e1 h1)))
theorem MH {gF:List bD}{gp:Int}{aE:List bP}{iL:Int}{r} (h:q6 gF gp aE iL=some r):dR a9 102 0 33 [1,1,0,1,0,0] (FQ gF gp aE) (F1 gF gp aE) iL r:=dS (fun _=>Tv) h
def FR (nY:Int)(js:List bP)(e3:Int)(aG:List bD):Int→S:=fun gx=>dm [(1,.ref 0 0 0 0),(5,.n .i64 nY),(45,.isl 3 (js.map bU)),(46,.n .i64 e3),(47,.n .i64 gx)] [[ae.mk 2 [[.isl 4 (aG.map bL),.isl 3 (js.map bU)]] .live]]
def MD (nY:Int)(js:List bP)(e3:Int)(aG:List bD):((Unit)⊕(Unit))→dp
 | .inl a=>⟨some 2,[],[]⟩
 | .inr a=>⟨none,[(2,.b false)],[]⟩
def yU (nY:Int)(js:List bP)(e3:Int)(aG:List bD)(gx:Int):Option ((Int)⊕((Unit)⊕(Unit))) :=
 if (decide (gx<e3))=true then
  if 0≤gx∧gx<js.length then
  js[gx.toNat]? >>= fun aI =>
  mE aI.dI 0 nY >>= fun aM =>
  if aM=true then
   mE aI.el 0 nY >>= fun c4 =>
   if c4=true then
    mE aI.iY 1 3 >>= fun c5 =>
    if c5=true then
     if 0≤aI.dI∧aI.dI<aG.length then
     aG[aI.dI.toNat]? >>= fun yx =>
     if 0≤aI.el∧aI.el<aG.length then
     aG[aI.el.toNat]? >>= fun yy =>
     if (yx.j2 == yy.j2)=true then
      if (yx.j3 == yy.j3)=true then
       some (.inr (.inr ()))
      else
       if yx.k6=true then
        if yy.k6=true then
         some (.inr (.inr ()))
        else
         some (.inl (R (gx+(1:Int))))
       else
        some (.inl (R (gx+(1:Int))))
     else
      if yx.k6=true then
       if yy.k6=true then
        some (.inr (.inr ()))
       else
        some (.inl (R (gx+(1:Int))))
      else
       some (.inl (R (gx+(1:Int))))
     else none
     else none
    else
     some (.inr (.inr ()))
   else
    some (.inr (.inr ()))
  else
   some (.inr (.inr ()))
  else none
 else
  some (.inr (.inl ()))
def CB (nY:Int)(js:List bP)(e3:Int)(aG:List bD)(gx:Int):Option ((Unit)⊕(Unit)):=iter (fun w:Int=>yU nY js e3 aG w) gx
theorem Tw {nY:Int}{js:List bP}{e3:Int}{aG:List bD}{gx:Int}:bz (yU nY js e3 aG gx) (dQ a9 102 0 33 [1,1,1,1,0,1,0,0] (FR nY js e3 aG gx) (FR nY js e3 aG) (MD nY js e3 aG)):=by
 unfold yU
 exact .ite (fun h1 =>
  .a0 fun o =>
  .au fun aI av =>
  .au fun aM aZ =>
  (let t1:List b2:=[(J 1),.aa true,.ax (bt 1 (.b9 (bU aI)) 2)];
  have aU:=((.dT h1 o.1 (cU bU o.2) (bX bU av) (pL aM aZ) (b7.b aM)):cr _);
  .ite (fun bg =>
  .au fun c4 cq =>
  (have fE:=aU.aJ (.gD (c0 bg) (c0 bg) (c0 bg) (c0 bg) (pL c4 cq) (b7.b c4) (c0 bg) (c0 bg));
  .ite (fun cQ =>
  .au fun c5 eV =>
  (let t4:List b2:=t1.append [.ax (ah 3 (an (bp 3 (.b aM) true) (ah 5 (an (bp 3 (.b c4) true) (ah 1 (an (.aa false) (ah 3 (an (bp 3 (.b c5) true) (ah 1 (an (.aa false) []))))))))))];
  have me:=fE.aJ (.er (c0 cQ) (c0 cQ) (c0 cQ) (pL c5 eV) (b7.b c5) (c0 cQ) (c0 cQ));
  .ite (fun et =>
  .a0 fun eB =>
  .au fun yx hS =>
  .a0 fun hr =>
  .au fun yy gz =>
  (let t6:List b2:=t4.append [.aa false,.ax (bt 5 (.b9 (bL yx)) 2),.ax (bt 5 (.b9 (bL yy)) 2)];
  have Mh:=me.aJ (.er (c0 et) eB.1 (cU bL eB.2) (bX bL hS) hr.1 (cU bL hr.2) (bX bL gz));
  .ite (fun fk =>
  .ite (fun gY =>
  .ret (bi (t6.append [.ax (ah 11 (an (.aa true) (ah 1 (cn 3 (ah 2 (cn 1 (an (.aa true) []))))))),.aa true,(J 1),.aO [] [] (ba [2])]) (Mh.aJ (.bk fk fk fk fk fk fk gY gY (.da gY gY gY cB)))))
  (fun gY =>
  (have mA:=Mh.aJ (.bk fk fk fk fk fk fk gY gY (.e1 gY));
  .ite (fun jw =>
  (let t9:List b2:=t6.append [.ax (ah 11 (an (.aa true) (ah 6 (an (.aa true) (an (.aa false) [])))))];
  .ite (fun mW =>
  .ret (bi (t9.append [.aa true,(J 1),.aO [] [] (ba [2])]) (mA.aJ (.dT jw jw gY jw gY mW))))
  (fun mW =>
  .ret (bi (t9.append [.aa false,(J 2),.aO [0] [.box [.id,.id]] (ba [1,5,45,46,47])]) (mA.aJ (.dT jw jw gY jw gY mW))))))
  (fun jw =>
  .ret (bi (t6.append [.ax (ah 11 (an (.aa true) (ah 4 (cn 2 (an (.aa false) (an (.aa false) [])))))),.aa false,(J 2),.aO [0] [.box [.id,.id]] (ba [1,5,45,46,47])]) (mA.aJ (.dT jw jw gY jw gY cP)))))))
  (fun fk =>
  (have mA:=Mh.aJ (.bk fk fk fk fk fk fk cP cP (.e1 cP));
  .ite (fun gY =>
  (let t9:List b2:=t6.append [.ax (ah 6 (cn 5 (an (.aa false) (bt 6 (.aa true) 1))))];
  .ite (fun jw =>
  .ret (bi (t9.append [.aa true,(J 1),.aO [] [] (ba [2])]) (mA.aJ (.dl gY gY cP gY jw))))
  (fun jw =>
  .ret (bi (t9.append [.aa false,(J 2),.aO [0] [.box [.id,.id]] (ba [1,5,45,46,47])]) (mA.aJ (.dl gY gY cP gY jw))))))
  (fun gY =>
  .ret (bi (t6.append [.ax (ah 6 (cn 5 (an (.aa false) (ah 4 (cn 2 (an (.aa false) (ah 1 []))))))),.aa false,(J 2),.aO [0] [.box [.id,.id]] (ba [1,5,45,46,47])]) (mA.aJ (.dl gY gY cP gY cP))))))))
  (fun et =>
  .ret (bi (t4.append [.aa true,(J 1),.aO [] [] (ba [2])]) (me.aJ (.e1 (cS et)))))))
  (fun cQ =>
  .ret (bi (t1.append [.ax (ah 3 (an (bp 3 (.b aM) true) (ah 5 (an (bp 3 (.b c4) true) (ah 1 (an (.aa false) (ah 1 (cn 4 (an (.aa true) []))))))))),.aa true,(J 1),.aO [] [] (ba [2])]) (fE.aJ (.dT (cS cQ) (cS cQ) (cS cQ) (cS cQ) (cS cQ) cB))))))
  (fun bg =>
  .ret (bi (t1.append [.ax (ah 3 (an (bp 3 (.b aM) true) (ah 2 (cn 5 (an (.aa true) (ah 1 (cn 4 (ah 1 [])))))))),.aa true,(J 1),.aO [] [] (ba [2])]) (aU.aJ (.bk (cS bg) (cS bg) (cS bg) (cS bg) (cS bg) (cS bg) cB cB (.bS cB cB cB)))))))
  (fun h1 =>
  .ret (bi [(J 1),.aa false,.aO [] [] []] (.e1 h1)))
theorem MI {nY:Int}{js:List bP}{e3:Int}{aG:List bD}{gx:Int}{r} (h:CB nY js e3 aG gx=some r):dR a9 102 0 33 [1,1,1,1,0,1,0,0] (FR nY js e3 aG) (MD nY js e3 aG) gx r:=dS (fun _=>Tw) h
def j5 (aL:ct):Option Bool :=
 if (decide ((6:Int)<(len_ bL aL.bZ)))=true then
  some false
 else
  if (decide ((8:Int)<(len_ bU aL.bB)))=true then
   some false
  else
   q6 aL.bZ (len_ bL aL.bZ) aL.bB 0 >>= fun bj =>
   match bj with
   | .inl fS=>(CB (R ((len_ bL aL.bZ)-(1:Int))) aL.bB (len_ bU aL.bB) aL.bZ 0 >>= fun cj =>
    match cj with
    | .inl mc=>(some true)
    | .inr mc=>(some false))
   | .inr fS=>(some false)
theorem Vv {aL:ct}:bz (j5 aL) (fun r=>Con a9 33 [.agg (gE aL)] [] (.b r) []):=by
 unfold j5
 exact .ite (fun h1 =>
  .ret (bw [(J 2),.ax (ah 5 (cn 4 (an (.aa true) []))),.aa true,(J 1)] (.dT h1 h1 h1 h1 h1 cB)))
  (fun h1 =>
  (let t1:List b2:=[(J 2),.ax (ah 9 (an (.aa false) []))];
  .ite (fun o =>
  .ret (bw (t1.append [.aa true,(J 1)]) (.dT h1 h1 h1 h1 h1 o)))
  (fun o =>
  .au fun bj av =>
  (let t2:List b2:=t1.append [.aa false,(J 4),.aO [0] [.box [.id,.id]] (ba [1,21,22,23])];
  (by
  rcases bj with fS|fS
  ·exact (.au fun cj bg =>
  (let t3:List b2:=t2.append [(F1 aL.bZ (len_ bL aL.bZ) aL.bB (.inl fS)).fc,(J 5),(J 4),.aO [0] [.box [.id,.id]] (ba [1,5,45,46,47])];
  have eS:=((.er h1 h1 h1 h1 h1 o (MH av)):cr _);
  (by
  rcases cj with mc|mc
  ·exact (.ret (bw (t3.append [.sub (.exit 2) [] [],(J 1)]) (eS.aJ (.e1 (MI bg)))))
  ·exact (.ret (bw (t3.append [.sub (.ret) [(2,.b false)] []]) (eS.aJ (.e1 (MI bg))))))))
  ·exact (.ret (bw (t2.append [.sub (.ret) [(2,.b false)] []]) (.er h1 h1 h1 h1 h1 o (MH av)))))))))
def Hm (gV:List Int)(fz:Int):Int→S:=fun gF=>dm [(19,.isl 1 (gV.map eI)),(20,.n .i64 fz),(21,.n .i64 gF)] []
def M3 (gV:List Int)(fz:Int):((Unit)⊕(Unit))→dp
 | .inl a=>⟨some 0,[],[]⟩
 | .inr a=>⟨none,[(4,.b false)],[]⟩
def wL (gV:List Int)(fz gF:Int):Option ((Int)⊕((Unit)⊕(Unit))) :=
 if (decide (gF<fz))=true then
  if 0≤gF∧gF<gV.length then
  gV[gF.toNat]? >>= fun aI =>
  mE aI (-100) 100 >>= fun aM =>
  if aM=true then
   some (.inl (R (gF+(1:Int))))
  else
   some (.inr (.inr ()))
  else none
 else
  some (.inr (.inl ()))
def IZ (gV:List Int)(fz gF:Int):Option ((Unit)⊕(Unit)):=iter (fun w:Int=>wL gV fz w) gF
theorem UG {gV:List Int}{fz gF:Int}:bz (wL gV fz gF) (dQ a9 29 0 22 [1,1,0,1,0,0] (Hm gV fz gF) (Hm gV fz) (M3 gV fz)):=by
 unfold wL
 exact .ite (fun h1 =>
  .a0 fun o =>
  .au fun aI av =>
  .au fun aM aZ =>
  (let t1:List b2:=[(J 1),.aa true,.ax (bt 1 (.b9 (eI aI)) 1),.ax (bt 1 (bp 3 (.b aM) true) 1)];
  have aU:=((.dT h1 o.1 (cU eI o.2) (bX eI av) (pL aM aZ) (b7.b aM)):cr _);
  .ite (fun bg =>
  .ret (bi (t1.append [.aa false,(J 2),.aO [] [] (ba [19,20,21])]) (aU.aJ (.e1 (c0 bg)))))
  (fun bg =>
  .ret (bi (t1.append [.aa true,(J 1),.aO [] [] (ba [4])]) (aU.aJ (.e1 (cS bg)))))))
  (fun h1 =>
  .ret (bi [(J 1),.aa false,.aO [] [] []] (.e1 h1)))
theorem Nd {gV:List Int}{fz gF:Int}{r} (h:IZ gV fz gF=some r):dR a9 29 0 22 [1,1,0,1,0,0] (Hm gV fz) (M3 gV fz) gF r:=dS (fun _=>UG) h
def rM (aL:ct)(bY:List Int):Option Bool :=
 j5 aL >>= fun r1 =>
 if r1=true then
  if ((len_ eI bY) != (R ((2:Int)*(len_ bL aL.bZ))))=true then
   some false
  else
   IZ bY (len_ eI bY) 0 >>= fun aM =>
   match aM with
   | .inl oU=>(some true)
   | .inr oU=>(some false)
 else
  some false
theorem I0 {aL:ct}{bY:List Int}:bz (rM aL bY) (fun r=>Con a9 22 [.agg (gE aL),.isl 1 (bY.map eI)] [] (.b r) []):=by
 unfold rM
 exact .au fun r1 o =>
  (have af:=((.aD (Vv r1 o) (b7.b r1)):cr _);
  .ite (fun ab =>
  (let t2:List b2:=[(J 2),.ax (ah 1 (an (bp 1 (.b r1) true) (ah 9 (an (.aa false) []))))];
  have fE:=af.aJ (.gD (c0 ab) (c0 ab) (c0 ab) (c0 ab) (c0 ab) (c0 ab) (c0 ab) (c0 ab));
  .ite (fun av =>
  .ret (bw (t2.append [.aa true,(J 1)]) (fE.aJ (.e1 av))))
  (fun av =>
  .au fun aM aZ =>
  (let t4:List b2:=t2.append [.aa false,(J 3),.aO [] [] (ba [19,20,21])];
  (by
  rcases aM with oU|oU
  ·exact (.ret (bw (t4.append [.sub (.exit 0) [] [],(J 1)]) (fE.aJ (.aD av (Nd aZ)))))
  ·exact (.ret (bw (t4.append [.sub (.ret) [(4,.b false)] []]) (fE.aJ (.aD av (Nd aZ))))))))))
  (fun ab =>
  .ret (bw [(J 2),.ax (ah 1 (an (bp 1 (.b r1) true) (ah 2 (cn 7 (an (.aa true) []))))),.aa true,(J 1)] (af.aJ (.bk (cS ab) (cS ab) (cS ab) (cS ab) (cS ab) (cS ab) (cS ab) (cS ab) (.e1 cB))))))
def F2 (c2:List bP)(dN:Int):(Int×(List Int)×(List Int))→S:=fun (b3,ad,al)=>dm [(4,.bm 0 0 0 ad.length),(5,.bm 1 0 0 al.length),(11,.isl 3 (c2.map bU)),(12,.n .i64 dN),(13,.n .i64 b3)] [(af 1 eI ad),(af 1 eI al)]
def Gm (c2:List bP)(dN:Int):((List Int)×(List Int))→dp
 | a=>⟨some 0,[(4,.bm 0 0 0 a.1.length),(5,.bm 1 0 0 a.2.length)],[(af 1 eI a.1),(af 1 eI a.2)]⟩
def wa (c2:List bP)(dN b3:Int)(ad al:List Int):Option ((Int×(List Int)×(List Int))⊕((List Int)×(List Int))) :=
 if (decide (b3<dN))=true then
  if 0≤b3∧b3<c2.length then
  c2[b3.toNat]? >>= fun aI =>
  if (aI.iY != (2:Int))=true then
   if (ad++([b3]:List Int)).length*8≤140737488355328 then
   if (al++([1]:List Int)).length*8≤140737488355328 then
   if (aI.iY != (1:Int))=true then
    if ((ad++([b3]:List Int))++([b3]:List Int)).length*8≤140737488355328 then
    if ((al++([1]:List Int))++([(-1)]:List Int)).length*8≤140737488355328 then
    some (.inl (R (b3+(1:Int)),(ad++([b3]:List Int))++([b3]:List Int),(al++([1]:List Int))++([(-1)]:List Int)))
    else none
    else none
   else
    some (.inl (R (b3+(1:Int)),ad++([b3]:List Int),al++([1]:List Int)))
   else none
   else none
  else
   if (aI.iY != (1:Int))=true then
    if (ad++([b3]:List Int)).length*8≤140737488355328 then
    if (al++([(-1)]:List Int)).length*8≤140737488355328 then
    some (.inl (R (b3+(1:Int)),ad++([b3]:List Int),al++([(-1)]:List Int)))
    else none
    else none
   else
    some (.inl (R (b3+(1:Int)),ad,al))
  else none
 else
  some (.inr (ad,al))
def HR (c2:List bP)(dN b3:Int)(ad al:List Int):Option ((List Int)×(List Int)):=iter (fun w:Int×(List Int)×(List Int)=>wa c2 dN w.1 w.2.1 w.2.2) (b3,ad,al)
theorem TE {c2:List bP}{dN b3:Int}{ad al:List Int}:bz (wa c2 dN b3 ad al) (dQ a9 41 0 39 [1,1,1,0,1,0,0] (F2 c2 dN (b3,ad,al)) (F2 c2 dN) (Gm c2 dN)):=by
 unfold wa
 exact .ite (fun h1 =>
  .a0 fun o =>
  .au fun aI av =>
  (let t1:List b2:=[(J 1),.aa true,.ax (bt 2 (.b9 (bU aI)) 3),(J 3)];
  have aU:=((.da h1 o.1 (cU bU o.2) (bX bU av)):cr _);
  .ite (fun az =>
  .a0 fun aZ =>
  .a0 fun bg =>
  (let t3:List b2:=t1.append [.aa true,.ax (bt 3 (.aJ ((ad++([b3]:List Int)).length)) 1),.ax (bt 2 (.aJ ((al++([1]:List Int)).length)) 1),(J 3)];
  have eS:=aU.aJ (.bk az (gv eI b3) (gO eI ad) (gw eI ad b3) aZ (gv eI 1) (gO eI al) (gw eI al 1) (.e1 bg));
  .ite (fun bl =>
  .a0 fun cq =>
  .a0 fun cQ =>
  .ret (let q1:=(ad++([b3]:List Int));let a2:=(al++([1]:List Int));let bO:=(a2++([(-1)]:List Int));let b4:=(q1++([b3]:List Int));bi (t3.append [.aa true,.ax (bt 3 (.aJ (b4.length)) 1),.ax (bt 2 (.aJ (bO.length)) 1),(J 2),.aO [27,31] [.cA (af 1 eI b4),.cA (af 1 eI bO)] (ba [4,5,11,12,13])]) (eS.aJ (.bk bl (gv eI b3) (m7 (gS eI ad b3) (dJ q1)) (gw eI q1 b3) cq (gv eI (-1)) (m7 (gS eI al 1) (dJ a2)) (gw eI a2 (-1)) (.dl cQ (cY 1 .live (h6 (gS eI ad b3) (dJ q1) (vt eI b3))) (aK 1 .live aQ b4) (cY 1 .live (h6 (gS eI al 1) (dJ a2) (vt eI (-1)))) (aK 1 .live aQ bO))))))
  (fun bl =>
  .ret (let cJ:=(ad++([b3]:List Int));let d9:=(al++([1]:List Int));bi (t3.append [.aa false,(J 2),.aO [15,19] [.cA (af 1 eI cJ),.cA (af 1 eI d9)] (ba [4,5,11,12,13])]) (eS.aJ (.dl bl (cY 1 .live (gS eI ad b3)) (aK 1 .live aQ cJ) (cY 1 .live (gS eI al 1)) (aK 1 .live aQ d9)))))))
  (fun az =>
  .ite (fun aZ =>
  .a0 fun bg =>
  .a0 fun bl =>
  .ret (let fM:=(al++([(-1)]:List Int));let eG:=(ad++([b3]:List Int));bi (t1.append [.aa false,(J 3),.aa true,.ax (bt 3 (.aJ (eG.length)) 1),.ax (bt 2 (.aJ (fM.length)) 1),(J 2),.aO [18,22] [.cA (af 1 eI eG),.cA (af 1 eI fM)] (ba [4,5,11,12,13])]) (aU.aJ (.bk az aZ (gv eI b3) (gO eI ad) (gw eI ad b3) bg (gv eI (-1)) (gO eI al) (.dT (gw eI al (-1)) bl (cY 1 .live (gS eI ad b3)) (aK 1 .live aQ eG) (cY 1 .live (gS eI al (-1))) (aK 1 .live aQ fM))))))
  (fun aZ =>
  .ret (bi (t1.append [.aa false,(J 3),.aa false,(J 2),.aO [0,1] [.pure,.pure] (ba [4,5,11,12,13])]) (aU.aJ (.da az aZ (aK 1 .live aQ ad) (aK 1 .live aQ al))))))))
  (fun h1 =>
  .ret (bi [(J 1),.aa false,.aO [0,1] [.pure,.pure] (ba [4,5])] (.bS h1 (aK 1 .live aQ ad) (aK 1 .live aQ al))))
theorem U3 {c2:List bP}{dN b3:Int}{ad al:List Int}{r} (h:HR c2 dN b3 ad al=some r):dR a9 41 0 39 [1,1,1,0,1,0,0] (F2 c2 dN) (Gm c2 dN) (b3,ad,al) r:=dS (fun _=>TE) h
def zg (aL:ct):Option ((List Int)×(List Int)) :=
 HR aL.bB (len_ bU aL.bB) 0 ([]:List Int) ([]:List Int) >>= fun r1 =>
 some (r1.1,r1.2)
theorem VK {aL:ct}:bz (zg aL) (fun r=>Con a9 39 [.agg (gE aL)] [] (.dX [.isl 1 (r.1.map eI),.isl 1 (r.2.map eI)]) []):=by
 unfold zg
 exact .au fun r1 o =>
  .ret (let q1:=(cY 1 .live (show []=(([]:List Int)).map eI from rfl));let a2:=(aK 1 .live aQ ([]:List Int));let bO:=(af 1 eI ([]:List Int));bw [(J 3),(J 2),(J 2),(J 4),.aO [3,5] [.cA bO,.cA bO] [(4,fV (([]:List Int).length)),(5,fV (([]:List Int).length)),(11,ii),(12,ii),(13,ii)],(Gm aL.bB (len_ bU aL.bB) r1).fc,(J 4)] (.bk q1 a2 q1 a2 (eZ Int) (eZ Int) (U3 o) (f6 eI r1.1) (.dl (fC eI r1.1) (dw aQ r1.1) (f6 eI r1.2) (fC eI r1.2) (dw aQ r1.2))) (.comp [.di (.ek (r1.1.map eI)),.di (.ek (r1.2.map eI))]))
def GS (dk:List bD)(d7:Int):(Int×(List Int))→S:=fun (c1,ad)=>dm [(3,.bm 0 0 0 ad.length),(8,.isl 4 (dk.map bL)),(9,.n .i64 d7),(10,.n .i64 c1)] [(af 1 eI ad)]
def Hn (dk:List bD)(d7:Int):(List Int)→dp
 | a=>⟨some 0,[(3,.bm 0 0 0 a.length)],[(af 1 eI a)]⟩
def y0 (dk:List bD)(d7 c1:Int)(ad:List Int):Option ((Int×(List Int))⊕((List Int))) :=
 if (decide (c1<d7))=true then
  if 0≤c1∧c1<dk.length then
  dk[c1.toNat]? >>= fun aI =>
  if aI.k6=true then
   some (.inl (R (c1+(1:Int)),ad))
  else
   if (ad++([c1]:List Int)).length*8≤140737488355328 then
   some (.inl (R (c1+(1:Int)),ad++([c1]:List Int)))
   else none
  else none
 else
  some (.inr ad)
def IK (dk:List bD)(d7 c1:Int)(ad:List Int):Option ((List Int)):=iter (fun w:Int×(List Int)=>y0 dk d7 w.1 w.2) (c1,ad)
theorem Ui {dk:List bD}{d7 c1:Int}{ad:List Int}:bz (y0 dk d7 c1 ad) (dQ a9 24 0 41 [1,1,0,1,0,0] (GS dk d7 (c1,ad)) (GS dk d7) (Hn dk d7)):=by
 unfold y0
 exact .ite (fun h1 =>
  .a0 fun o =>
  .au fun aI av =>
  (let t1:List b2:=[(J 1),.aa true,.ax (bt 2 (.b9 (bL aI)) 3),(J 3)];
  have aU:=((.da h1 o.1 (cU bL o.2) (bX bL av)):cr _);
  .ite (fun az =>
  .ret (bi (t1.append [.aa false,(J 2),.aO [0] [.pure] (ba [3,8,9,10])]) (aU.aJ (.aD (c0 az) (aK 1 .live aQ ad)))))
  (fun az =>
  .a0 fun aZ =>
  .ret (let q1:=(ad++([c1]:List Int));bi (t1.append [.aa true,.ax (bt 3 (.aJ (q1.length)) 1),(J 2),.aO [14] [.cA (af 1 eI q1)] (ba [3,8,9,10])]) (aU.aJ (.er (cS az) (gv eI c1) (gO eI ad) (gw eI ad c1) aZ (cY 1 .live (gS eI ad c1)) (aK 1 .live aQ q1)))))))
  (fun h1 =>
  .ret (bi [(J 1),.aa false,.aO [0] [.pure] (ba [3])] (.aD h1 (aK 1 .live aQ ad))))
theorem VM {dk:List bD}{d7 c1:Int}{ad:List Int}{r} (h:IK dk d7 c1 ad=some r):dR a9 24 0 41 [1,1,0,1,0,0] (GS dk d7) (Hn dk d7) (c1,ad) r:=dS (fun _=>Ui) h
def ug (aL:ct):Option (List Int) :=
 IK aL.bZ (len_ bL aL.bZ) 0 ([]:List Int) >>= fun r1 =>
 some r1
theorem IL {aL:ct}:bz (ug aL) (fun r=>Con a9 41 [.agg (gE aL)] [] (.isl 1 (r.map eI)) []):=by
 unfold ug
 exact .au fun r1 o =>
  .ret (bw [(J 2),(J 2),(J 4),.aO [2] [.cA (af 1 eI ([]:List Int))] [(3,fV (([]:List Int).length)),(8,ii),(9,ii),(10,ii)],(Hn aL.bZ (len_ bL aL.bZ) r1).fc,(J 2)] (.er (cY 1 .live (show []=(([]:List Int)).map eI from rfl)) (aK 1 .live aQ ([]:List Int)) (eZ Int) (VM o) (f6 eI r1) (fC eI r1) (dw aQ r1)) (.bu (.di (.ek (r1.map eI)))))
def w7 (aL:ct)(bs:Int):Option (Int×Int) :=
 if 0≤bs∧bs<aL.bB.length then
 aL.bB[bs.toNat]? >>= fun dY =>
 if 0≤dY.dI∧dY.dI<aL.bZ.length then
 aL.bZ[dY.dI.toNat]? >>= fun kt =>
 if 0≤dY.el∧dY.el<aL.bZ.length then
 aL.bZ[dY.el.toNat]? >>= fun mb =>
 some (R (mb.j2-kt.j2),R (mb.j3-kt.j3))
 else none
 else none
 else none
theorem V7 {aL:ct}{bs:Int}:bz (w7 aL bs) (fun r=>Con a9 60 [.agg (gE aL),.n .i64 bs] [] (.dX [.n .i64 r.1,.n .i64 r.2]) []):=by
 unfold w7
 exact .a0 fun h1 =>
  .au fun dY ab =>
  .a0 fun av =>
  .au fun kt aZ =>
  .a0 fun bg =>
  .au fun mb cq =>
  .ret (bw [(J 3),.ax (ah 7 (an (.b9 (bU dY)) (bt 1 (.b9 (bL kt)) 2))),.ax (ah 7 (an (.b9 (bU dY)) (bt 1 (.b9 (bL mb)) 2))),(J 12)] (.bk h1.1 (cU bU h1.2) (bX bU ab) av.1 (cU bL av.2) (bX bL aZ) h1.1 (cU bU h1.2) (.da (bX bU ab) bg.1 (cU bL bg.2) (bX bL cq))))
def GU (ag:Int)(bI:List Int)(cT d4:Int)(iL:List bP)(jP:Int)(aG:List bD)(al:List Int):(Int×(List Int)×(List Int))→S:=fun (h8,aA,aj)=>dm [(1,.ref 0 0 0 0),(3,.bm 1 0 0 al.length),(5,.n .i64 ag),(6,.bm 2 0 0 aA.length),(7,.bm 3 0 0 aj.length),(14,.isl 1 (bI.map eI)),(15,.n .i64 cT),(16,.n .i64 d4),(23,.isl 3 (iL.map bU)),(24,.n .i64 jP),(25,.n .i64 h8)] [[ae.mk 2 [[.isl 4 (aG.map bL),.isl 3 (iL.map bU)]] .live],(af 1 eI al),(af 1 eI aA),(af 1 eI aj)]
def Ho (ag:Int)(bI:List Int)(cT d4:Int)(iL:List bP)(jP:Int)(aG:List bD)(al:List Int):((List Int)×(List Int))→dp
 | a=>⟨some 2,[(1,.ref 0 0 0 0),(3,.bm 1 0 0 al.length),(6,.bm 2 0 0 a.1.length),(7,.bm 3 0 0 a.2.length),(14,.isl 1 (bI.map eI)),(15,.n .i64 cT),(16,.n .i64 d4)],[[ae.mk 2 [[.isl 4 (aG.map bL),.isl 3 (iL.map bU)]] .live],(af 1 eI al),(af 1 eI a.1),(af 1 eI a.2)]⟩
def wA (ag:Int)(bI:List Int)(cT d4:Int)(iL:List bP)(jP:Int)(aG:List bD)(al:List Int)(h8:Int)(aA aj:List Int):Option ((Int×(List Int)×(List Int))⊕((List Int)×(List Int))) :=
 if (decide (h8<jP))=true then
  if 0≤h8∧h8<iL.length then
  iL[h8.toNat]? >>= fun aI =>
  w7 (⟨aG,iL⟩:ct) h8 >>= fun aM =>
  if (ag == aI.dI)=true then
   if (aA++([aM.1]:List Int)).length*8≤140737488355328 then
   if (aj++([aM.2]:List Int)).length*8≤140737488355328 then
   some (.inl (R (h8+(1:Int)),aA++([aM.1]:List Int),aj++([aM.2]:List Int)))
   else none
   else none
  else
   if (ag == aI.el)=true then
    if (aA++([R (0-aM.1)]:List Int)).length*8≤140737488355328 then
    if (aj++([R (0-aM.2)]:List Int)).length*8≤140737488355328 then
    some (.inl (R (h8+(1:Int)),aA++([R (0-aM.1)]:List Int),aj++([R (0-aM.2)]:List Int)))
    else none
    else none
   else
    if (aA++([0]:List Int)).length*8≤140737488355328 then
    if (aj++([0]:List Int)).length*8≤140737488355328 then
    some (.inl (R (h8+(1:Int)),aA++([0]:List Int),aj++([0]:List Int)))
    else none
    else none
  else none
 else
  some (.inr (aA,aj))
def CP (ag:Int)(bI:List Int)(cT d4:Int)(iL:List bP)(jP:Int)(aG:List bD)(al:List Int)(h8:Int)(aA aj:List Int):Option ((List Int)×(List Int)):=iter (fun w:Int×(List Int)×(List Int)=>wA ag bI cT d4 iL jP aG al w.1 w.2.1 w.2.2) (h8,aA,aj)
theorem Uj {ag:Int}{bI:List Int}{cT d4:Int}{iL:List bP}{jP:Int}{aG:List bD}{al:List Int}{h8:Int}{aA aj:List Int}:bz (wA ag bI cT d4 iL jP aG al h8 aA aj) (dQ a9 78 0 40 [1,1,0,1,0,0,1,1,0,0,1,1,1,0,1,0,0] (GU ag bI cT d4 iL jP aG al (h8,aA,aj)) (GU ag bI cT d4 iL jP aG al) (Ho ag bI cT d4 iL jP aG al)):=by
 unfold wA
 exact .ite (fun h1 =>
  .a0 fun o =>
  .au fun aI av =>
  .au fun aM aZ =>
  (let t1:List b2:=[(J 1),.aa true,.ax (bt 2 (.b9 (bU aI)) 3),.ax (bt 2 (bp 2 (.dX [.n .i64 aM.1,.n .i64 aM.2]) true) 5),(J 1),(J 4)];
  have aU:=((.dT h1 o.1 (cU bU o.2) (bX bU av) (V7 aM aZ) (DT (oZ (b7.n .i64 aM.1) (oZ (b7.n .i64 aM.2) uK)))):cr _);
  .ite (fun bg =>
  .a0 fun bl =>
  .a0 fun cq =>
  .ret (let q1:=(aA++([aM.1]:List Int));let a2:=(aj++([aM.2]:List Int));bi (t1.append [.aa true,.ax (bt 3 (.aJ (q1.length)) 1),.ax (bt 3 (.aJ (a2.length)) 1),(J 2),.aO [0,1,27,32] [.box [.id,.id],.pure,.cA (af 1 eI q1),.cA (af 1 eI a2)] (ba [1,3,5,6,7,14,15,16,23,24,25])]) (aU.aJ (.bk bg (gv eI aM.1) (gO eI aA) (gw eI aA aM.1) bl (gv eI aM.2) (gO eI aj) (gw eI aj aM.2) (.dT cq (aK 1 .live aQ al) (cY 1 .live (gS eI aA aM.1)) (aK 1 .live aQ q1) (cY 1 .live (gS eI aj aM.2)) (aK 1 .live aQ a2))))))
  (fun bg =>
  .ite (fun bl =>
  .a0 fun cq =>
  .a0 fun cQ =>
  .ret (let cJ:=R (0-aM.1);let bO:=(aA++([cJ]:List Int));let d9:=R (0-aM.2);let b4:=(aj++([d9]:List Int));bi (t1.append [.aa false,(J 4),.aa true,.ax (bt 4 (.aJ (bO.length)) 1),.ax (bt 4 (.aJ (b4.length)) 1),(J 2),.aO [0,1,32,38] [.box [.id,.id],.pure,.cA (af 1 eI bO),.cA (af 1 eI b4)] (ba [1,3,5,6,7,14,15,16,23,24,25])]) (aU.aJ (.bk bg bl (gv eI cJ) (gO eI aA) (gw eI aA cJ) cq (gv eI d9) (gO eI aj) (.er (gw eI aj d9) cQ (aK 1 .live aQ al) (cY 1 .live (gS eI aA cJ)) (aK 1 .live aQ bO) (cY 1 .live (gS eI aj d9)) (aK 1 .live aQ b4))))))
  (fun bl =>
  .a0 fun cq =>
  .a0 fun cQ =>
  .ret (let fM:=(aA++([0]:List Int));let eG:=(aj++([0]:List Int));bi (t1.append [.aa false,(J 4),.aa false,.ax (bt 2 (.aJ (fM.length)) 1),.ax (bt 2 (.aJ (eG.length)) 1),(J 2),.aO [0,1,30,34] [.box [.id,.id],.pure,.cA (af 1 eI fM),.cA (af 1 eI eG)] (ba [1,3,5,6,7,14,15,16,23,24,25])]) (aU.aJ (.bk bg bl (gv eI 0) (gO eI aA) (gw eI aA 0) cq (gv eI 0) (gO eI aj) (.er (gw eI aj 0) cQ (aK 1 .live aQ al) (cY 1 .live (gS eI aA 0)) (aK 1 .live aQ fM) (cY 1 .live (gS eI aj 0)) (aK 1 .live aQ eG)))))))))
  (fun h1 =>
  .ret (bi [(J 1),.aa false,.aO [0,1,2,3] [.box [.id,.id],.pure,.pure,.pure] (ba [1,3,6,7,14,15,16])] (.da h1 (aK 1 .live aQ al) (aK 1 .live aQ aA) (aK 1 .live aQ aj))))
theorem VN {ag:Int}{bI:List Int}{cT d4:Int}{iL:List bP}{jP:Int}{aG:List bD}{al:List Int}{h8:Int}{aA aj:List Int}{r} (h:CP ag bI cT d4 iL jP aG al h8 aA aj=some r):dR a9 78 0 40 [1,1,0,1,0,0,1,1,0,0,1,1,1,0,1,0,0] (GU ag bI cT d4 iL jP aG al) (Ho ag bI cT d4 iL jP aG al) (h8,aA,aj) r:=dS (fun _=>Uj) h
def GV (bI:List Int)(cT:Int)(aG:List bD)(aE:List bP):(Int×(List Int))→S:=fun (d4,al)=>dm [(1,.ref 0 0 0 0),(3,.bm 1 0 0 al.length),(14,.isl 1 (bI.map eI)),(15,.n .i64 cT),(16,.n .i64 d4)] [[ae.mk 2 [[.isl 4 (aG.map bL),.isl 3 (aE.map bU)]] .live],(af 1 eI al)]
def Hp (bI:List Int)(cT:Int)(aG:List bD)(aE:List bP):(List Int)→dp
 | a=>⟨some 0,[(3,.bm 0 0 0 a.length)],[(af 1 eI a)]⟩
def wB (bI:List Int)(cT:Int)(aG:List bD)(aE:List bP)(d4:Int)(al:List Int):Option ((Int×(List Int))⊕((List Int))) :=
 if (decide (d4<cT))=true then
  if 0≤d4∧d4<bI.length then
  bI[d4.toNat]? >>= fun aI =>
  CP aI bI cT d4 aE (len_ bU aE) aG al 0 ([]:List Int) ([]:List Int) >>= fun aM =>
  if (al++aM.1).length*8≤140737488355328 then
  if ((al++aM.1)++aM.2).length*8≤140737488355328 then
  some (.inl (R (d4+(1:Int)),(al++aM.1)++aM.2))
  else none
  else none
  else none
 else
  some (.inr al)
def IM (bI:List Int)(cT:Int)(aG:List bD)(aE:List bP)(d4:Int)(al:List Int):Option ((List Int)):=iter (fun w:Int×(List Int)=>wB bI cT aG aE w.1 w.2) (d4,al)
theorem Uk {bI:List Int}{cT:Int}{aG:List bD}{aE:List bP}{d4:Int}{al:List Int}:bz (wB bI cT aG aE d4 al) (dQ a9 78 0 40 [1,1,0,1,0,0] (GV bI cT aG aE (d4,al)) (GV bI cT aG aE) (Hp bI cT aG aE)):=by
 unfold wB
 exact .ite (fun h1 =>
  .a0 fun o =>
  .au fun aI av =>
  .au fun aM aZ =>
  .a0 fun bg =>
  .a0 fun bl =>
  .ret (let q1:=(cY 1 .live (show []=(([]:List Int)).map eI from rfl));let a2:=dJ (al++aM.1);let bO:=(aK 1 .live aQ ([]:List Int));let b4:=cX eI aM.1;let cJ:=(af 1 eI ([]:List Int));bi [(J 1),.aa true,.ax (bt 1 (.b9 (eI aI)) 1),(J 2),(J 2),(J 4),.aO [0,1,6,8] [.box [.id,.id],.pure,.cA cJ,.cA cJ] [(1,ii),(3,ii),(5,ii),(6,fV (([]:List Int).length)),(7,fV (([]:List Int).length)),(14,ii),(15,ii),(16,ii),(23,ii),(24,ii),(25,ii)],(Ho aI bI cT d4 aE (len_ bU aE) aG al aM).fc,.ax (bt 2 (.aJ ((al++aM.1).length)) 1),.ax (bt 2 (.aJ (((al++aM.1)++aM.2).length)) 1),(J 2),.aO [0,10] [.box [.id,.id],.cA (af 1 eI ((al++aM.1)++aM.2))] (ba [1,3,14,15,16])] (.bk h1 o.1 (cU eI o.2) (bX eI av) (aK 1 .live aQ al) q1 bO q1 (.bk bO (eZ Int) (eZ Int) (VN aZ) (fC eI aM.1) (gO eI al) (lG (dJ al) (nX b4 (dJ aM.1)):(al++aM.1).length=al.length+(((aM.1.map eI).drop 0).take aM.1.length).length) bg (.dT (fC eI aM.2) (m7 (h6 (cX eI al) (dJ al) (nX b4 (dJ aM.1))) a2) (lG a2 (nX (cX eI aM.2) (dJ aM.2)):((al++aM.1)++aM.2).length=((al++aM.1).length)+(((aM.2.map eI).drop 0).take aM.2.length).length) bl (cY 1 .live (h6 (h6 (cX eI al) (dJ al) (nX b4 (dJ aM.1))) a2 (nX (cX eI aM.2) (dJ aM.2)))) (aK 1 .live aQ ((al++aM.1)++aM.2)))))))
  (fun h1 =>
  .ret (bi [(J 1),.aa false,.aO [1] [.pure] (ba [3])] (.aD h1 (aK 1 .live aQ al))))
theorem VO {bI:List Int}{cT:Int}{aG:List bD}{aE:List bP}{d4:Int}{al:List Int}{r} (h:IM bI cT aG aE d4 al=some r):dR a9 78 0 40 [1,1,0,1,0,0] (GV bI cT aG aE) (Hp bI cT aG aE) (d4,al) r:=dS (fun _=>Uk) h
def zK (aL:ct):Option (List Int) :=
 ug aL >>= fun r1 =>
 IM r1 (len_ eI r1) aL.bZ aL.bB 0 ([]:List Int) >>= fun bj =>
 some bj
theorem WV {aL:ct}:bz (zK aL) (fun r=>Con a9 40 [.agg (gE aL)] [] (.isl 1 (r.map eI)) []):=by
 unfold zK
 exact .au fun r1 o =>
  .au fun bj av =>
  .ret (bw [(J 2),(J 2),.ax (bt 1 (bp 1 (.isl 1 (r1.map eI)) false) 2),.aO [0,2] [.box [.id,.id],.cA (af 1 eI ([]:List Int))] [(1,ii),(3,fV (([]:List Int).length)),(14,ii),(15,ii),(16,ii)],(Hp r1 (len_ eI r1) aL.bZ aL.bB bj).fc,(J 2)] (.gD (IL r1 o) (cY 1 .live (show []=(([]:List Int)).map eI from rfl)) (aK 1 .live aQ ([]:List Int)) (eZ Int) (VO av) (f6 eI bj) (fC eI bj) (dw aQ bj)) (.bu (.di (.ek (bj.map eI)))))
def GF (bY c1:List Int)(c2:Int):(Int×(List Int))→S:=fun (dN,ad)=>dm [(1,.isl 1 (bY.map eI)),(5,.bm 0 0 0 ad.length),(10,.isl 1 (c1.map eI)),(11,.n .i64 c2),(12,.n .i64 dN)] [(af 1 eI ad)]
def GW (bY c1:List Int)(c2:Int):(List Int)→dp
 | a=>⟨some 0,[(5,.bm 0 0 0 a.length)],[(af 1 eI a)]⟩
def wt (bY c1:List Int)(c2 dN:Int)(ad:List Int):Option ((Int×(List Int))⊕((List Int))) :=
 if (decide (dN<c2))=true then
  if 0≤dN∧dN<c1.length then
  c1[dN.toNat]? >>= fun aI =>
  if 0≤(R ((2:Int)*aI))∧(R ((2:Int)*aI))<bY.length then
  bY[(R ((2:Int)*aI)).toNat]? >>= fun cw =>
  if 0≤(R ((R ((2:Int)*aI))+(1:Int)))∧(R ((R ((2:Int)*aI))+(1:Int)))<bY.length then
  bY[(R ((R ((2:Int)*aI))+(1:Int))).toNat]? >>= fun ew =>
  if (ad++([R (0-cw),R (0-ew)]:List Int)).length*8≤140737488355328 then
  some (.inl (R (dN+(1:Int)),ad++([R (0-cw),R (0-ew)]:List Int)))
  else none
  else none
  else none
  else none
 else
  some (.inr ad)
def Iy (bY c1:List Int)(c2 dN:Int)(ad:List Int):Option ((List Int)):=iter (fun w:Int×(List Int)=>wt bY c1 c2 w.1 w.2) (dN,ad)
theorem T7 {bY c1:List Int}{c2 dN:Int}{ad:List Int}:bz (wt bY c1 c2 dN ad) (dQ a9 34 0 42 [1,1,0,1,0,0] (GF bY c1 c2 (dN,ad)) (GF bY c1 c2) (GW bY c1 c2)):=by
 unfold wt
 exact .ite (fun h1 =>
  .a0 fun o =>
  .au fun aI av =>
  .a0 fun az =>
  .au fun cw bg =>
  .a0 fun bl =>
  .au fun ew cQ =>
  .a0 fun fa =>
  .ret (let q1:=(ad++([R (0-cw),R (0-ew)]:List Int));let a2:=R (0-cw);let bO:=R (0-ew);bi [(J 1),.aa true,.ax (bt 1 (.b9 (eI aI)) 1),.ax (ah 5 (an (.b9 (eI cw)) (ah 6 (an (.b9 (eI ew)) (bt 2 (.aJ (q1.length)) 1))))),(J 2),.aO [20] [.cA (af 1 eI q1)] (ba [1,5,10,11,12])] (.bk h1 o.1 (cU eI o.2) (bX eI av) az.1 (cU eI az.2) (bX eI bg) bl.1 (.gD (cU eI bl.2) (bX eI cQ) (k2 (show [[.n .i64 a2],[.n .i64 bO]]=(([R (0-cw),R (0-ew)]:List Int)).map eI from rfl) (show 2=([R (0-cw),R (0-ew)]:List Int).length from rfl)) (gO eI ad) (lG (dJ ad) (nX (show [[.n .i64 a2],[.n .i64 bO]]=(([R (0-cw),R (0-ew)]:List Int)).map eI from rfl) (show 2=([R (0-cw),R (0-ew)]:List Int).length from rfl)):q1.length=ad.length+(([[.n .i64 a2],[.n .i64 bO]].drop 0).take 2).length) fa (cY 1 .live (h6 (cX eI ad) (dJ ad) (nX (show [[.n .i64 a2],[.n .i64 bO]]=(([R (0-cw),R (0-ew)]:List Int)).map eI from rfl) (show 2=([R (0-cw),R (0-ew)]:List Int).length from rfl)))) (aK 1 .live aQ q1)))))
  (fun h1 =>
  .ret (bi [(J 1),.aa false,.aO [0] [.pure] (ba [5])] (.aD h1 (aK 1 .live aQ ad))))
theorem Vw {bY c1:List Int}{c2 dN:Int}{ad:List Int}{r} (h:Iy bY c1 c2 dN ad=some r):dR a9 34 0 42 [1,1,0,1,0,0] (GF bY c1 c2) (GW bY c1 c2) (dN,ad) r:=dS (fun _=>T7) h
def zu (aL:ct)(bY:List Int):Option (List Int) :=
 ug aL >>= fun r1 =>
 Iy bY r1 (len_ eI r1) 0 ([]:List Int) >>= fun bj =>
 some bj
theorem Wo {aL:ct}{bY:List Int}:bz (zu aL bY) (fun r=>Con a9 42 [.agg (gE aL),.isl 1 (bY.map eI)] [] (.isl 1 (r.map eI)) []):=by
 unfold zu
 exact .au fun r1 o =>
  .au fun bj av =>
  .ret (bw [(J 2),(J 2),.ax (bt 1 (bp 1 (.isl 1 (r1.map eI)) false) 2),.aO [2] [.cA (af 1 eI ([]:List Int))] [(1,ii),(5,fV (([]:List Int).length)),(10,ii),(11,ii),(12,ii)],(GW bY r1 (len_ eI r1) bj).fc,(J 2)] (.gD (IL r1 o) (cY 1 .live (show []=(([]:List Int)).map eI from rfl)) (aK 1 .live aQ ([]:List Int)) (eZ Int) (Vw av) (f6 eI bj) (fC eI bj) (dw aQ bj)) (.bu (.di (.ek (bj.map eI)))))
def F3 (iF i7:List Int)(aY:Int)(i9:List Int)(ag oA bK dK:Int)(gP aj:List Int):(Int×(List Int))→S:=fun (na,aA)=>dm [(4,.ref 0 0 0 0),(5,.isl 1 (iF.map eI)),(6,.isl 1 (i7.map eI)),(7,.n .i64 aY),(8,.isl 1 (i9.map eI)),(9,.ref 1 0 0 0),(10,.n .i64 ag),(42,.isl 1 (iF.map eI)),(43,.n .i64 oA),(44,.n .i64 na)] [[ae.mk 5 [[.n .i64 (0:Int),.n .i64 (0:Int),.eo,.eo,.eo]] .live],[ae.mk 5 [(EC bK dK 2 0 0 aA.length gP 3 0 0 aj.length)] .live],(af 1 eI aA),(af 1 eI aj)]
def Gn (iF i7:List Int)(aY:Int)(i9:List Int)(ag oA bK dK:Int)(gP aj:List Int):(List Int)→dp
 | a=>⟨some 2,[(4,.ref 0 0 0 0),(5,.isl 1 (iF.map eI)),(6,.isl 1 (i7.map eI)),(7,.n .i64 aY),(8,.isl 1 (i9.map eI)),(9,.ref 1 0 0 0),(10,.n .i64 ag)],[[ae.mk 5 [[.n .i64 (0:Int),.n .i64 (0:Int),.eo,.eo,.eo]] .live],[ae.mk 5 [(EC bK dK 2 0 0 a.length gP 3 0 0 aj.length)] .live],(af 1 eI a),(af 1 eI aj)]⟩
def wb (iF i7:List Int)(aY:Int)(i9:List Int)(ag oA bK dK:Int)(gP aj:List Int)(na:Int)(aA:List Int):Option ((Int×(List Int))⊕((List Int))) :=
 if (decide (na<oA))=true then
  if 0≤na∧na<iF.length then
  iF[na.toNat]? >>= fun aI =>
  if 0≤na∧na<i7.length then
  i7[na.toNat]? >>= fun cw =>
  if 0≤(R ((R (ag*aY))+aI))∧(R ((R (ag*aY))+aI))<i9.length then
  i9[(R ((R (ag*aY))+aI)).toNat]? >>= fun ew =>
  if (aA++([R (cw*ew)]:List Int)).length*8≤140737488355328 then
  some (.inl (R (na+(1:Int)),aA++([R (cw*ew)]:List Int)))
  else none
  else none
  else none
  else none
 else
  some (.inr aA)
def HS (iF i7:List Int)(aY:Int)(i9:List Int)(ag oA bK dK:Int)(gP aj:List Int)(na:Int)(aA:List Int):Option ((List Int)):=iter (fun w:Int×(List Int)=>wb iF i7 aY i9 ag oA bK dK gP aj w.1 w.2) (na,aA)
theorem TF {iF i7:List Int}{aY:Int}{i9:List Int}{ag oA bK dK:Int}{gP aj:List Int}{na:Int}{aA:List Int}:bz (wb iF i7 aY i9 ag oA bK dK gP aj na aA) (dQ a9 69 0 24 [1,1,1,1,1,0,1,0,0,1,0,0,1,0,0] (F3 iF i7 aY i9 ag oA bK dK gP aj (na,aA)) (F3 iF i7 aY i9 ag oA bK dK gP aj) (Gn iF i7 aY i9 ag oA bK dK gP aj)):=by
 unfold wb
 exact .ite (fun h1 =>
  .a0 fun o =>
  .au fun aI av =>
  .a0 fun az =>
  .au fun cw bg =>
  .a0 fun bl =>
  .au fun ew cQ =>
  .a0 fun fa =>
  .ret (let a2:=R (cw*ew);let q1:=(aA++([a2]:List Int));bi [(J 1),.aa true,.ax (bt 2 (.b9 (eI aI)) 2),.ax (ah 5 (an (.b9 (eI cw)) (ah 7 (an (.b9 (eI ew)) (bt 2 (.aJ (q1.length)) 2))))),(J 2),.aO [0,1,26,3] [.box [.id,.id,.id,.id,.id],.box [.id,.id,.id,.id,.id],.cA (af 1 eI q1),.pure] (ba [4,5,6,7,8,9,10,42,43,44])] (.bk h1 o.1 (cU eI o.2) (bX eI av) az.1 (cU eI az.2) (bX eI bg) bl.1 (.bk (cU eI bl.2) (bX eI cQ) (gv eI a2) (gO eI aA) (gw eI aA a2) fa (cY 1 .live (gS eI aA a2)) (aK 1 .live aQ q1) (.e1 (aK 1 .live aQ aj))))))
  (fun h1 =>
  .ret (bi [(J 1),.aa false,.aO [0,1,2,3] [.box [.id,.id,.id,.id,.id],.box [.id,.id,.id,.id,.id],.pure,.pure] (ba [4,5,6,7,8,9,10])] (.bS h1 (aK 1 .live aQ aA) (aK 1 .live aQ aj))))
theorem U4 {iF i7:List Int}{aY:Int}{i9:List Int}{ag oA bK dK:Int}{gP aj:List Int}{na:Int}{aA:List Int}{r} (h:HS iF i7 aY i9 ag oA bK dK gP aj na aA=some r):dR a9 69 0 24 [1,1,1,1,1,0,1,0,0,1,0,0,1,0,0] (F3 iF i7 aY i9 ag oA bK dK gP aj) (Gn iF i7 aY i9 ag oA bK dK gP aj) (na,aA) r:=dS (fun _=>TF) h
def F4 (iF i7:List Int)(aY:Int)(i9:List Int)(bK dK:Int)(gP aj:List Int):(Int×(List Int))→S:=fun (ag,aA)=>dm [(4,.ref 0 0 0 0),(5,.isl 1 (iF.map eI)),(6,.isl 1 (i7.map eI)),(7,.n .i64 aY),(8,.isl 1 (i9.map eI)),(9,.ref 1 0 0 0),(10,.n .i64 ag)] [[ae.mk 5 [[.n .i64 (0:Int),.n .i64 (0:Int),.eo,.eo,.eo]] .live],[ae.mk 5 [(EC bK dK 2 0 0 aA.length gP 3 0 0 aj.length)] .live],(af 1 eI aA),(af 1 eI aj)]
def Gp (iF i7:List Int)(aY:Int)(i9:List Int)(bK dK:Int)(gP aj:List Int):(List Int)→dp
 | a=>⟨some 0,[(4,.ref 0 0 0 0),(9,.ref 1 0 0 0)],[[ae.mk 5 [[.n .i64 (0:Int),.n .i64 (0:Int),.eo,.eo,.eo]] .live],[ae.mk 5 [(EC bK dK 2 0 0 a.length gP 3 0 0 aj.length)] .live],(af 1 eI a),(af 1 eI aj)]⟩
def wc (iF i7:List Int)(aY:Int)(i9:List Int)(bK dK:Int)(gP aj:List Int)(ag:Int)(aA:List Int):Option ((Int×(List Int))⊕((List Int))) :=
 if (decide (ag<bK))=true then
  HS iF i7 aY i9 ag (len_ eI iF) bK dK gP aj 0 aA >>= fun b1 =>
  some (.inl (R (ag+(1:Int)),b1))
 else
  some (.inr aA)
def CF (iF i7:List Int)(aY:Int)(i9:List Int)(bK dK:Int)(gP aj:List Int)(ag:Int)(aA:List Int):Option ((List Int)):=iter (fun w:Int×(List Int)=>wc iF i7 aY i9 bK dK gP aj w.1 w.2) (ag,aA)
theorem TG {iF i7:List Int}{aY:Int}{i9:List Int}{bK dK:Int}{gP aj:List Int}{ag:Int}{aA:List Int}:bz (wc iF i7 aY i9 bK dK gP aj ag aA) (dQ a9 69 0 24 [1,1,1,1,1,0,1,0,0] (F4 iF i7 aY i9 bK dK gP aj (ag,aA)) (F4 iF i7 aY i9 bK dK gP aj) (Gp iF i7 aY i9 bK dK gP aj)):=by
 unfold wc
 exact .ite (fun h1 =>
  .au fun b1 ab =>
  .ret (bi [(J 4),.aa true,(J 3),.aO [0,1,2,3] [.box [.id,.id,.id,.id,.id],.box [.id,.id,.id,.id,.id],.pure,.pure] (ba [4,5,6,7,8,9,10,42,43,44]),(Gn iF i7 aY i9 ag (len_ eI iF) bK dK gP aj b1).fc,(J 3),.aO [0,1,2,3] [.box [.id,.id,.id,.id,.id],.box [.id,.id,.id,.id,.id],.pure,.pure] (ba [4,5,6,7,8,9,10])] (.dT h1 (aK 1 .live aQ aA) (aK 1 .live aQ aj) (U4 ab) (aK 1 .live aQ b1) (aK 1 .live aQ aj))))
  (fun h1 =>
  .ret (bi [(J 4),.aa false,.aO [0,1,2,3] [.box [.id,.id,.id,.id,.id],.box [.id,.id,.id,.id,.id],.pure,.pure] (ba [4,9])] (.bS h1 (aK 1 .live aQ aA) (aK 1 .live aQ aj))))
theorem U5 {iF i7:List Int}{aY:Int}{i9:List Int}{bK dK:Int}{gP aj:List Int}{ag:Int}{aA:List Int}{r} (h:CF iF i7 aY i9 bK dK gP aj ag aA=some r):dR a9 69 0 24 [1,1,1,1,1,0,1,0,0] (F4 iF i7 aY i9 bK dK gP aj) (Gp iF i7 aY i9 bK dK gP aj) (ag,aA) r:=dS (fun _=>TG) h
def ub (aL:ct)(bY:List Int):Option hp :=
 zg aL >>= fun r1 =>
 zK aL >>= fun bj =>
 ug aL >>= fun aM =>
 zu aL bY >>= fun cb =>
 if 0≤(len_ eI r1.1)∧(8:Int)*(len_ eI r1.1)≤281474976710656∧(len_ eI r1.1)<9223372036854775808 then
 CF r1.1 r1.2 (len_ bU aL.bB) bj (R ((2:Int)*(len_ eI aM))) (len_ eI r1.1) cb (List.replicate (len_ eI r1.1).toNat 0:List Int) 0 ([]:List Int) >>= fun eg =>
 some (⟨R ((2:Int)*(len_ eI aM)),(len_ eI r1.1),eg,cb,(List.replicate (len_ eI r1.1).toNat 0:List Int)⟩:hp)
 else none
theorem VP {aL:ct}{bY:List Int}:bz (ub aL bY) (fun r=>Con a9 24 [.agg (gE aL),.isl 1 (bY.map eI)] [] (.agg (nW r)) []):=by
 unfold ub
 exact .au fun r1 o =>
  .au fun bj av =>
  .au fun aM aZ =>
  .au fun cb bl =>
  .a0 fun cq =>
  .au fun eg fa =>
  .ret (let a2:=len_ eI r1.1;let q1:=(List.replicate a2.toNat 0:List Int);bw [(J 2),.ax (bt 1 (bp 1 (.dX [.isl 1 (r1.1.map eI),.isl 1 (r1.2.map eI)]) false) 5),(J 4),.ax (bt 1 (bp 1 (.isl 1 (bj.map eI)) false) 1),.ax (ah 1 (an (bp 1 (.isl 1 (aM.map eI)) false) (bt 6 (bp 2 (.isl 1 (cb.map eI)) false) 6))),(J 1),.ru 29 2 1,.aO [1,29,32,27] [.box [.id,.id,.id,.id,.id],.box [.id,.id,.len (([]:List Int).length),.id,.len (q1.length)],.cA (af 1 eI ([]:List Int)),.cA (af 1 eI q1)] (ba [4,5,6,7,8,9,10]),(Gp r1.1 r1.2 (len_ bU aL.bB) bj (R ((2:Int)*(len_ eI aM))) a2 cb q1 eg).fc,(J 2)] (.bk (VK r1 o) (WV bj av) (IL aM aZ) (Wo cb bl) cq.1 (Int.le_refl a2) cq.2.1 cq.2.2 (.bk (eZ Int) (lZ a2.toNat (0:Int)) (cY 1 .live (m0 eI)) (aK 1 .live aQ ([]:List Int)) (cY 1 .live (lF eI a2.toNat 0)) (aK 1 .live aQ q1) (U5 fa) (f6 eI eg) (.dl (fC eI eg) (dw aQ eg) (f6 eI q1) (fC eI q1) (dw aQ q1)))) (.bu (.agg [.id,.id,.ek (eg.map eI),.id,.ek (q1.map eI)])))
def HT (jE:List Int)(gL:Int):Int→S:=fun du=>dm [(5,.isl 1 (jE.map eI)),(6,.n .i64 gL),(7,.n .i64 du)] []
def Nf (jE:List Int)(gL:Int):((Unit)⊕(Unit))→dp
 | .inl a=>⟨some 0,[],[]⟩
 | .inr a=>⟨none,[(2,.b false)],[]⟩
def wW (jE:List Int)(gL du:Int):Option ((Int)⊕((Unit)⊕(Unit))) :=
 if (decide (du<gL))=true then
  if 0≤du∧du<jE.length then
  jE[du.toNat]? >>= fun aI =>
  mE aI (-100) 100 >>= fun aM =>
  if aM=true then
   some (.inl (R (du+(1:Int))))
  else
   some (.inr (.inr ()))
  else none
 else
  some (.inr (.inl ()))
def Jg (jE:List Int)(gL du:Int):Option ((Unit)⊕(Unit)):=iter (fun w:Int=>wW jE gL w) du
theorem U6 {jE:List Int}{gL du:Int}:bz (wW jE gL du) (dQ a9 15 0 51 [1,0,1,0,0] (HT jE gL du) (HT jE gL) (Nf jE gL)):=by
 unfold wW
 exact .ite (fun h1 =>
  .a0 fun o =>
  .au fun aI av =>
  .au fun aM aZ =>
  (let t1:List b2:=[(J 1),.aa true,.ax (bt 1 (.b9 (eI aI)) 1),.ax (bt 1 (bp 3 (.b aM) true) 1)];
  have aU:=((.dT h1 o.1 (cU eI o.2) (bX eI av) (pL aM aZ) (b7.b aM)):cr _);
  .ite (fun bg =>
  .ret (bi (t1.append [.aa false,(J 2),.aO [] [] (ba [5,6,7])]) (aU.aJ (.e1 (c0 bg)))))
  (fun bg =>
  .ret (bi (t1.append [.aa true,(J 1),.aO [] [] (ba [2])]) (aU.aJ (.e1 (cS bg)))))))
  (fun h1 =>
  .ret (bi [(J 1),.aa false,.aO [] [] []] (.e1 h1)))
theorem Nm {jE:List Int}{gL du:Int}{r} (h:Jg jE gL du=some r):dR a9 15 0 51 [1,0,1,0,0] (HT jE gL) (Nf jE gL) du r:=dS (fun _=>U6) h
def uv (bY:List Int):Option Bool :=
 Jg bY (len_ eI bY) 0 >>= fun r1 =>
 match r1 with
 | .inl dn=>(some true)
 | .inr dn=>(some false)
theorem Jh {bY:List Int}:bz (uv bY) (fun r=>Con a9 51 [.isl 1 (bY.map eI)] [] (.b r) []):=by
 unfold uv
 exact .au fun r1 o =>
  (let t1:List b2:=[(J 1),(J 3),.aO [] [] (ba [5,6,7])];
  (by
  rcases r1 with dn|dn
  ·exact (.ret (bw (t1.append [.sub (.exit 0) [] [],(J 1)]) (.e1 (Nm o))))
  ·exact (.ret (bw (t1.append [.sub (.ret) [(2,.b false)] []]) (.e1 (Nm o))))))
def zn (cf:hp):Option Bool :=
 mE cf.ft 0 20 >>= fun r1 =>
 if r1=true then
  mE cf.ea 0 40 >>= fun bb =>
  if bb=true then
   if ((len_ eI cf.dI) == (R (cf.ft*cf.ea)))=true then
    if ((len_ eI cf.el) == cf.ft)=true then
     if ((len_ eI cf.hF) == cf.ea)=true then
      uv cf.dI >>= fun eg =>
      if eg=true then
       uv cf.el >>= fun eC =>
       if eC=true then
        uv cf.hF >>= fun eD =>
        some eD
       else
        some false
      else
       some false
     else
      some false
    else
     some false
   else
    some false
  else
   some false
 else
  some false
theorem V8 {cf:hp}:bz (zn cf) (fun r=>Con a9 35 [.agg (nW cf)] [] (.b r) []):=by
 unfold zn
 exact .au fun r1 o =>
  (have af:=((.aD (pL r1 o) (b7.b r1)):cr _);
  .ite (fun ab =>
  .au fun bb az =>
  (have aU:=af.aJ (.dT ab ab ab (pL bb az) (b7.b bb) ab);
  .ite (fun aZ =>
  (have fE:=aU.aJ (.bk aZ aZ aZ aZ aZ aZ aZ aZ (.aD aZ aZ));
  .ite (fun bg =>
  .ite (fun bl =>
  (have eS:=fE.aJ (.bk bg bg bg bg bg bg bg bl (.dT bl bl bl bl bl bl));
  .ite (fun cq =>
  .au fun eg fa =>
  (have me:=eS.aJ (.dT cq cq cq (Jh eg fa) (b7.b eg) cq);
  .ite (fun eV =>
  .au fun eC eB =>
  (have kH:=me.aJ (.dT eV eV eV (Jh eC eB) (b7.b eC) eV);
  .ite (fun fR =>
  .au fun eD hr =>
  .ret (bw [(J 2),.ax (ah 2 (an (bp 3 (.b r1) true) (ah 3 (an (bp 3 (.b bb) true) (an (.aa true) (ah 10 (an (.aa true) (ah 7 (an (.aa true) (ah 7 (an (.aa true) (ah 3 (an (bp 1 (.b eg) true) (an (.aa true) (ah 3 (an (bp 1 (.b eC) true) (an (.aa true) (ah 3 (an (bp 1 (.b eD) true) (an (.aa true) (ah 1 [])))))))))))))))))))))] (kH.aJ (.dT fR fR fR (Jh eD hr) (b7.b eD) fR))))
  (fun fR =>
  .ret (bw [(J 2),.ax (ah 2 (an (bp 3 (.b r1) true) (ah 3 (an (bp 3 (.b bb) true) (an (.aa true) (ah 10 (an (.aa true) (ah 7 (an (.aa true) (ah 7 (an (.aa true) (ah 3 (an (bp 1 (.b eg) true) (an (.aa true) (ah 3 (an (bp 1 (.b eC) true) (an (.aa true) (ah 1 (cn 3 (an (.aa false) (ah 1 [])))))))))))))))))))))] (kH.aJ (.da fR fR fR fR))))))
  (fun eV =>
  .ret (bw [(J 2),.ax (ah 2 (an (bp 3 (.b r1) true) (ah 3 (an (bp 3 (.b bb) true) (an (.aa true) (ah 10 (an (.aa true) (ah 7 (an (.aa true) (ah 7 (an (.aa true) (ah 3 (an (bp 1 (.b eg) true) (an (.aa true) (ah 1 (cn 3 (an (.aa false) (ah 1 (cn 3 (ah 2 []))))))))))))))))))))] (me.aJ (.er eV eV eV eV cP cP cP))))))
  (fun cq =>
  .ret (bw [(J 2),.ax (ah 2 (an (bp 3 (.b r1) true) (ah 3 (an (bp 3 (.b bb) true) (an (.aa true) (ah 10 (an (.aa true) (ah 7 (an (.aa true) (ah 7 (an (.aa true) (ah 1 (cn 3 (an (.aa false) (ah 1 (cn 3 (ah 2 (cn 3 (ah 2 [])))))))))))))))))))] (eS.aJ (.bk cq cq cq cq cP cP cP cP (.aD cP cP)))))))
  (fun bl =>
  .ret (bw [(J 2),.ax (ah 2 (an (bp 3 (.b r1) true) (ah 3 (an (bp 3 (.b bb) true) (an (.aa true) (ah 10 (an (.aa true) (ah 7 (an (.aa true) (ah 1 (cn 6 (an (.aa false) (ah 1 (cn 3 (ah 2 (cn 3 (ah 2 (cn 3 (ah 2 [])))))))))))))))))))] (fE.aJ (.bk bg bg bg bg bg bg bg bl (.bk bl bl bl bl bl bl cP cP (.er cP cP cP cP cP cP cP)))))))
  (fun bg =>
  .ret (bw [(J 2),.ax (ah 2 (an (bp 3 (.b r1) true) (ah 3 (an (bp 3 (.b bb) true) (an (.aa true) (ah 10 (an (.aa true) (ah 1 (cn 6 (an (.aa false) (ah 1 (cn 6 (ah 2 (cn 3 (ah 2 (cn 3 (ah 2 (cn 3 (ah 2 [])))))))))))))))))))] (fE.aJ (.bk bg bg bg bg bg bg bg cP (.bk cP cP cP cP cP cP cP cP (.dT cP cP cP cP cP cP))))))))
  (fun aZ =>
  .ret (bw [(J 2),.ax (ah 2 (an (bp 3 (.b r1) true) (ah 3 (an (bp 3 (.b bb) true) (an (.aa true) (ah 1 (cn 9 (an (.aa false) (ah 1 (cn 6 (ah 2 (cn 6 (ah 2 (cn 3 (ah 2 (cn 3 (ah 2 (cn 3 (ah 2 [])))))))))))))))))))] (aU.aJ (.bk aZ aZ aZ aZ aZ aZ aZ aZ (.bk aZ aZ cP cP cP cP cP cP (.bk cP cP cP cP cP cP cP cP (.er cP cP cP cP cP cP cP)))))))))
  (fun ab =>
  .ret (bw [(J 2),.ax (ah 2 (an (bp 3 (.b r1) true) (ah 1 (cn 3 (an (.aa false) (ah 1 (cn 9 (ah 2 (cn 6 (ah 2 (cn 6 (ah 2 (cn 3 (ah 2 (cn 3 (ah 2 (cn 3 (ah 2 []))))))))))))))))))] (af.aJ (.bk ab ab ab ab cP cP cP cP (.bk cP cP cP cP cP cP cP cP (.bk cP cP cP cP cP cP cP cP (.bk cP cP cP cP cP cP cP cP (.aD cP cP)))))))))
def GX (ai:List Int):Int→S:=fun aY=>dm [(0,.isl 1 (ai.map eI)),(3,.n .i64 aY)] []
def Hq (ai:List Int):Int→dp
 | a=>⟨some 0,[(0,.isl 1 (ai.map eI)),(3,.n .i64 a)],[]⟩
def tS (ai:List Int)(aY:Int):Option ((Int)⊕(Int)) :=
 if (decide ((0:Int)<aY))=true then
  if 0≤(R (aY-(1:Int)))∧(R (aY-(1:Int)))<ai.length then
  ai[(R (aY-(1:Int))).toNat]? >>= fun aI =>
  if (aI == (0:Int))=true then
   some (.inl (R (aY-(1:Int))))
  else
   some (.inr aY)
  else none
 else
  some (.inr aY)
def IP (ai:List Int)(aY:Int):Option (Int):=iter (fun w:Int=>tS ai w) aY
theorem Ul {ai:List Int}{aY:Int}:bz (tS ai aY) (dQ a9 21 0 110 [1,1,0,0,0] (GX ai aY) (GX ai) (Hq ai)):=by
 unfold tS
 exact .ite (fun h1 =>
  .a0 fun o =>
  .au fun aI av =>
  (let t1:List b2:=[.ax (ah 7 (an (.b9 (eI aI)) (ah 1 (an (.aa true) []))))];
  have aU:=((.bk h1 h1 h1 h1 o.1 (cU eI o.2) h1 (bX eI av) (.aD h1 h1)):cr _);
  .ite (fun az =>
  .ret (bi (t1.append [.aa true,(J 3),.aO [] [] (ba [0,3])]) (aU.aJ (.e1 az))))
  (fun az =>
  .ret (bi (t1.append [.aa false,.aO [] [] (ba [0,3])]) (aU.aJ (.e1 az))))))
  (fun h1 =>
  .ret (bi [.ax (ah 3 (cn 6 (an (.aa false) []))),.aa false,.aO [] [] (ba [0,3])] (.gD h1 h1 h1 h1 h1 h1 h1 cP)))
theorem VQ {ai:List Int}{aY:Int}{r} (h:IP ai aY=some r):dR a9 21 0 110 [1,1,0,0,0] (GX ai) (Hq ai) aY r:=dS (fun _=>Ul) h
def pM (ai:List Int):Option (List Int) :=
 IP ai (len_ eI ai) >>= fun r1 =>
 if 0≤r1 then
 if 0≤r1.toNat∧r1.toNat≤ai.length then
 some ((ai.drop 0).take (r1.toNat-0))
 else none
 else none
theorem rH {ai:List Int}:bz (pM ai) (fun r=>Con a9 110 [.isl 1 (ai.map eI)] [] (.isl 1 (r.map eI)) []):=by
 unfold pM
 exact .au fun r1 o =>
  .a0 fun ab =>
  .a0 fun av =>
  .ret (bw [(J 1),(J 3),.aO [] [] (ba [0,3]),(Hq ai r1).fc,(J 4)] (.dl (VQ o) ab av.1 (rj (cX eI ai) av.2) (congrArg (aB.isl 1) (ol (cX eI ai) 0 (r1.toNat-0)):(.isl 1 (((ai.map eI).drop 0).take (r1.toNat-0)):aB) = .isl 1 (((ai.drop 0).take (r1.toNat-0)).map eI))) (.bu (.di (.cA (.isl 1 (((ai.drop 0).take (r1.toNat-0)).map eI))))))
def xi (ai:List Int):Option (List Int) :=
 pM ai >>= fun r1 =>
 if (decide ((60:Int)<(len_ eI r1)))=true then
  some ([]:List Int)
 else
  some r1
theorem NB {ai:List Int}:bz (xi ai) (fun r=>Con a9 112 [.isl 1 (ai.map eI)] [] (.isl 1 (r.map eI)) []):=by
 unfold xi
 exact .au fun r1 o =>
  (let t1:List b2:=[(J 1),.ax (bt 1 (bp 1 (.isl 1 (r1.map eI)) false) 1),(J 3)];
  .ite (fun ab =>
  .ret (bw (t1.append [.aa true,(J 1)]) (.aD (rH r1 o) ab) (.bu (.di (.jj 1)))))
  (fun ab =>
  .ret (bw (t1.append [.aa false,(J 2)]) (.aD (rH r1 o) ab))))
def hM (n2:Bool)(ai:List Int):Option bq :=
 xi ai >>= fun r1 =>
 if n2=true then
  if (([]:List Int)++r1).length*8≤140737488355328 then
  some (⟨(decide ((0:Int)<(len_ eI r1))),([]:List Int)++r1⟩:bq)
  else none
 else
  if (([]:List Int)++r1).length*8≤140737488355328 then
  some (⟨false,([]:List Int)++r1⟩:bq)
  else none
theorem nS {n2:Bool}{ai:List Int}:bz (hM n2 ai) (fun r=>Con a9 85 [.b n2,.isl 1 (ai.map eI)] [] (.agg (aX r)) []):=by
 unfold hM
 exact .au fun r1 o =>
  (let t1:List b2:=[(J 1),.ax (bt 1 (bp 1 (.isl 1 (r1.map eI)) false) 1)];
  .ite (fun ab =>
  .a0 fun av =>
  .ret (let q1:=(([]:List Int)++r1);bw (t1.append [.ax (ah 5 (an (.aa true) (bt 2 (.aJ (q1.length)) 2)))]) (.bk (NB r1 o) ab ab ab ab (m7 (show []=(([]:List Int)).map eI from rfl) (eZ Int)) (lG (eZ Int) (cX eI r1):q1.length=0+(r1.map eI).length) av (.bS (kR (h6 (show []=(([]:List Int)).map eI from rfl) (eZ Int) (cX eI r1)) (dJ q1)) (k2 (h6 (show []=(([]:List Int)).map eI from rfl) (eZ Int) (cX eI r1)) (dJ q1)) (dw aQ q1))) (.bu (.agg [.id,.ek (q1.map eI)]))))
  (fun ab =>
  .a0 fun av =>
  .ret (let a2:=(([]:List Int)++r1);bw (t1.append [.ax (ah 2 (cn 3 (an (.aa false) (bt 2 (.aJ (a2.length)) 2))))]) (.bk (NB r1 o) ab ab ab ab (m7 (show []=(([]:List Int)).map eI from rfl) (eZ Int)) (lG (eZ Int) (cX eI r1):a2.length=0+(r1.map eI).length) av (.bS (kR (h6 (show []=(([]:List Int)).map eI from rfl) (eZ Int) (cX eI r1)) (dJ a2)) (k2 (h6 (show []=(([]:List Int)).map eI from rfl) (eZ Int) (cX eI r1)) (dJ a2)) (dw aQ a2))) (.bu (.agg [.id,.ek (a2.map eI)])))))
def HU:(Int×(List Int))→S:=fun (aY,ad)=>dm [(0,.n .i64 aY),(3,.bm 0 0 0 ad.length)] [(af 1 eI ad)]
def Ig:(List Int)→dp
 | a=>⟨some 0,[(3,.bm 0 0 0 a.length)],[(af 1 eI a)]⟩
def wX (aY:Int)(ad:List Int):Option ((Int×(List Int))⊕((List Int))) :=
 if (decide ((0:Int)<aY))=true then
  if (ad++([aY.tmod (1000000000:Int)]:List Int)).length*8≤140737488355328 then
  some (.inl (R (aY.tdiv (1000000000:Int)),ad++([aY.tmod (1000000000:Int)]:List Int)))
  else none
 else
  some (.inr ad)
def Ji (aY:Int)(ad:List Int):Option ((List Int)):=iter (fun w:Int×(List Int)=>wX w.1 w.2) (aY,ad)
theorem U7 {aY:Int}{ad:List Int}:bz (wX aY ad) (dQ a9 15 0 106 [1,1,0,0,0] (HU (aY,ad)) (HU) (Ig)):=by
 unfold wX
 exact .ite (fun h1 =>
  .a0 fun o =>
  .ret (let q1:=(ad++([(aY.tmod (1000000000:Int))]:List Int));bi [(J 2),.aa true,.ax (bt 4 (.aJ (q1.length)) 1),(J 3),.aO [7] [.cA (af 1 eI q1)] (ba [0,3])] (.bk h1 (by decide:(1000000000:Int)≠0) (gv eI (aY.tmod (1000000000:Int))) (gO eI ad) (gw eI ad (aY.tmod (1000000000:Int))) o (by decide:(1000000000:Int)≠0) (cY 1 .live (gS eI ad (aY.tmod (1000000000:Int)))) (.e1 (aK 1 .live aQ q1)))))
  (fun h1 =>
  .ret (bi [(J 2),.aa false,.aO [0] [.pure] (ba [3])] (.aD h1 (aK 1 .live aQ ad))))
theorem Wp {aY:Int}{ad:List Int}{r} (h:Ji aY ad=some r):dR a9 15 0 106 [1,1,0,0,0] (HU) (Ig) (aY,ad) r:=dS (fun _=>U7) h
def q9 (aY:Int):Option (List Int) :=
 Ji aY ([]:List Int) >>= fun r1 =>
 some r1
theorem xa {aY:Int}:bz (q9 aY) (fun r=>Con a9 106 [.n .i64 aY] [] (.isl 1 (r.map eI)) []):=by
 unfold q9
 exact .au fun r1 o =>
  .ret (bw [(J 1),(J 2),.aO [1] [.cA (af 1 eI ([]:List Int))] [(0,ii),(3,fV (([]:List Int).length))],(Ig r1).fc,(J 2)] (.er (cY 1 .live (show []=(([]:List Int)).map eI from rfl)) (aK 1 .live aQ ([]:List Int)) (eZ Int) (Wp o) (f6 eI r1) (fC eI r1) (dw aQ r1)) (.bu (.di (.ek (r1.map eI)))))
def zv (aY:Int):Option bq :=
 if (aY == (-9223372036854775808:Int))=true then
  hM true ([854775808,223372036,9]:List Int) >>= fun b1 =>
  some b1
 else
  if (decide (aY<(0:Int)))=true then
   q9 (R (0-aY)) >>= fun bj =>
   hM true bj >>= fun aM =>
   some aM
  else
   q9 aY >>= fun bj =>
   hM false bj >>= fun aM =>
   some aM
theorem Wq {aY:Int}:bz (zv aY) (fun r=>Con a9 81 [.n .i64 aY] [] (.agg (aX r)) []):=by
 unfold zv
 exact .ite (fun h1 =>
  .au fun b1 ab =>
  .ret (bw [(J 1),(J 2),.aa true,.ax (bt 1 (.sw 3 (.call {ac:=[ii,.bu (.di (.ek (([854775808,223372036,9]:List Int).map eI)))],r:= .agg (aX b1),fB:=false,fI:=[3]})) 1)] (.dl h1 (kR (show [[.n .i64 (854775808:Int)],[.n .i64 (223372036:Int)],[.n .i64 (9:Int)]]=(([854775808,223372036,9]:List Int)).map eI from rfl) (show 3=([854775808,223372036,9]:List Int).length from rfl)) (k2 (show [[.n .i64 (854775808:Int)],[.n .i64 (223372036:Int)],[.n .i64 (9:Int)]]=(([854775808,223372036,9]:List Int)).map eI from rfl) (show 3=([854775808,223372036,9]:List Int).length from rfl)) (dw aQ ([854775808,223372036,9]:List Int)) (nS b1 ab))))
  (fun h1 =>
  (let t1:List b2:=[(J 1),(J 2),.aa false,(J 2)];
  .ite (fun o =>
  .au fun bj av =>
  .au fun aM aZ =>
  .ret (bw (t1.append [.aa true,.ax (ah 2 (an (bp 1 (.isl 1 (bj.map eI)) false) (an (bp 2 (.agg (aX aM)) false) (ah 1 []))))]) (.da h1 o (xa bj av) (nS aM aZ))))
  (fun o =>
  .au fun bj av =>
  .au fun aM aZ =>
  .ret (bw (t1.append [.aa false,.ax (ah 1 (an (bp 1 (.isl 1 (bj.map eI)) false) (an (bp 2 (.agg (aX aM)) false) (ah 1 []))))]) (.da h1 o (xa bj av) (nS aM aZ))))))
def oW (aY:Int):Option aN :=
 zv aY >>= fun r1 =>
 some (⟨r1,([1]:List Int)⟩:aN)
theorem rG {aY:Int}:bz (oW aY) (fun r=>Con a9 52 [.n .i64 aY] [] (.agg (aP r)) []):=by
 unfold oW
 exact .au fun r1 o =>
  .ret (bw [(J 1),.ax (bt 1 (bp 1 (.agg (aX r1)) false) 3)] (.da (Wq r1 o) (kR (show [[.n .i64 (1:Int)]]=(([1]:List Int)).map eI from rfl) (show 1=([1]:List Int).length from rfl)) (gv eI 1) (dw aQ ([1]:List Int))) (.bu (.agg [.id,.id,.ek (([1]:List Int).map eI)])))
def um (cf:hp)(ag:Int):Option (List Int) :=
 if 0≤(R (ag*cf.ea)) then
 if 0≤(R ((R (ag+(1:Int)))*cf.ea)) then
 if (R (ag*cf.ea)).toNat≤(R ((R (ag+(1:Int)))*cf.ea)).toNat∧(R ((R (ag+(1:Int)))*cf.ea)).toNat≤cf.dI.length then
 some ((cf.dI.drop ((R (ag*cf.ea)).toNat)).take ((R ((R (ag+(1:Int)))*cf.ea)).toNat-(R (ag*cf.ea)).toNat))
 else none
 else none
 else none
theorem NC {cf:hp}{ag:Int}:bz (um cf ag) (fun r=>Con a9 53 [.agg (nW cf),.n .i64 ag] [] (.isl 1 (r.map eI)) []):=by
 unfold um
 exact .a0 fun h1 =>
  .a0 fun o =>
  .a0 fun ab =>
  .ret (let q1:=R (ag*cf.ea);let a2:=(R ((R (ag+(1:Int)))*cf.ea));bw [(J 2),(J 13)] (.dl h1 o ab.1 (rj (cX eI cf.dI) ab.2) (congrArg (aB.isl 1) (ol (cX eI cf.dI) (q1.toNat) (a2.toNat-q1.toNat)):(.isl 1 (((cf.dI.map eI).drop (q1.toNat)).take (a2.toNat-q1.toNat)):aB) = .isl 1 (((cf.dI.drop (q1.toNat)).take (a2.toNat-q1.toNat)).map eI))) (.bu (.di (.cA (.isl 1 (((cf.dI.drop (q1.toNat)).take (a2.toNat-q1.toNat)).map eI))))))
def qm (ai:List Int):Option Bool :=
 if ((len_ eI ai) == (1:Int))=true then
  if 0≤(0:Int)∧(0:Int)<ai.length then
  ai[0]? >>= fun aI =>
  some (aI == (1:Int))
  else none
 else
  some false
theorem zo {ai:List Int}:bz (qm ai) (fun r=>Con a9 82 [.isl 1 (ai.map eI)] [] (.b r) []):=by
 unfold qm
 exact .ite (fun h1 =>
  .a0 fun o =>
  .au fun aI av =>
  .ret (bw [(J 1),.ax (ah 6 (an (.b9 (eI aI)) (bt 1 (.aa true) 1)))] (.gD h1 h1 o.1 (cU eI o.2) h1 (bX eI av) h1 h1)))
  (fun h1 =>
  .ret (bw [(J 1),.ax (ah 4 (cn 4 (an (.aa false) (ah 1 []))))] (.dl h1 h1 h1 h1 h1)))
def Hr (ai aC:List Int):(Int×Int×(List Int))→S:=fun (c3,ag,ad)=>dm [(0,.isl 1 (ai.map eI)),(1,.isl 1 (aC.map eI)),(5,.bm 0 0 0 ad.length),(6,.n .i64 c3),(7,.n .i64 ag)] [(af 1 eI ad)]
def HV (ai aC:List Int):(List Int)→dp
 | a=>⟨some 0,[(5,.bm 0 0 0 a.length)],[(af 1 eI a)]⟩
def tT (ai aC:List Int)(c3 ag:Int)(ad:List Int):Option ((Int×Int×(List Int))⊕((List Int))) :=
 if (decide (ag<(len_ eI ai)))=true then
  if 0≤ag∧ag<ai.length then
  ai[ag.toNat]? >>= fun aI =>
  if (decide (ag<(len_ eI aC)))=true then
   if 0≤ag∧ag<aC.length then
   aC[ag.toNat]? >>= fun fl =>
   if (ad++([(R ((R (c3+aI))+fl)).tmod (1000000000:Int)]:List Int)).length*8≤140737488355328 then
   some (.inl (R ((R ((R (c3+aI))+fl)).tdiv (1000000000:Int)),R (ag+(1:Int)),ad++([(R ((R (c3+aI))+fl)).tmod (1000000000:Int)]:List Int)))
   else none
   else none
  else
   if (ad++([(R (c3+aI)).tmod (1000000000:Int)]:List Int)).length*8≤140737488355328 then
   some (.inl (R ((R (c3+aI)).tdiv (1000000000:Int)),R (ag+(1:Int)),ad++([(R (c3+aI)).tmod (1000000000:Int)]:List Int)))
   else none
  else none
 else
  if (decide (ag<(len_ eI aC)))=true then
   if 0≤ag∧ag<aC.length then
   aC[ag.toNat]? >>= fun gf =>
   if (ad++([(R (c3+gf)).tmod (1000000000:Int)]:List Int)).length*8≤140737488355328 then
   some (.inl (R ((R (c3+gf)).tdiv (1000000000:Int)),R (ag+(1:Int)),ad++([(R (c3+gf)).tmod (1000000000:Int)]:List Int)))
   else none
   else none
  else
   if (decide ((0:Int)<c3))=true then
    if (ad++([c3.tmod (1000000000:Int)]:List Int)).length*8≤140737488355328 then
    some (.inl (R (c3.tdiv (1000000000:Int)),R (ag+(1:Int)),ad++([c3.tmod (1000000000:Int)]:List Int)))
    else none
   else
    some (.inr ad)
def I1 (ai aC:List Int)(c3 ag:Int)(ad:List Int):Option ((List Int)):=iter (fun w:Int×Int×(List Int)=>tT ai aC w.1 w.2.1 w.2.2) (c3,ag,ad)
theorem UH {ai aC:List Int}{c3 ag:Int}{ad:List Int}:bz (tT ai aC c3 ag ad) (dQ a9 55 0 107 [1,1,1,0,1,0,0] (Hr ai aC (c3,ag,ad)) (Hr ai aC) (HV ai aC)):=by
 unfold tT
 exact .ite (fun h1 =>
  .a0 fun o =>
  .au fun aI av =>
  (let t1:List b2:=[.ax (ah 5 (cn 4 (an (.aa true) (ah 1 (cn 2 (ah 1 [])))))),.aa true,(J 2),(J 4),.aa true,.ax (bt 4 (.b9 (eI aI)) 2),(J 4)];
  have aU:=((.bk h1 h1 h1 h1 h1 cB cB cB (.da h1 o.1 (cU eI o.2) (bX eI av))):cr _);
  .ite (fun az =>
  .a0 fun aZ =>
  .au fun fl bl =>
  .a0 fun cq =>
  .ret (let q1:=R ((R (c3+aI))+fl);let a2:=(ad++([q1.tmod (1000000000:Int)]:List Int));bi (t1.append [.aa true,.ax (bt 4 (.b9 (eI fl)) 2),.ax (bt 4 (.aJ (a2.length)) 1),(J 3),(J 3),.aO [43] [.cA (af 1 eI a2)] (ba [0,1,5,6,7])]) (aU.aJ (.bk az aZ.1 (cU eI aZ.2) (bX eI bl) (by decide:(1000000000:Int)≠0) (k2 (show [[.n .i64 (q1.tmod (1000000000:Int))]]=(([q1.tmod (1000000000:Int)]:List Int)).map eI from rfl) (show 1=([q1.tmod (1000000000:Int)]:List Int).length from rfl)) (gO eI ad) (lG (dJ ad) (nX (show [[.n .i64 (q1.tmod (1000000000:Int))]]=(([q1.tmod (1000000000:Int)]:List Int)).map eI from rfl) (show 1=([q1.tmod (1000000000:Int)]:List Int).length from rfl)):a2.length=ad.length+(([[.n .i64 (q1.tmod (1000000000:Int))]].drop 0).take 1).length) (.da cq (by decide:(1000000000:Int)≠0) (cY 1 .live (h6 (cX eI ad) (dJ ad) (nX (show [[.n .i64 (q1.tmod (1000000000:Int))]]=(([q1.tmod (1000000000:Int)]:List Int)).map eI from rfl) (show 1=([q1.tmod (1000000000:Int)]:List Int).length from rfl)))) (aK 1 .live aQ a2))))))
  (fun az =>
  .a0 fun aZ =>
  .ret (let b4:=R (c3+aI);let bO:=(ad++([b4.tmod (1000000000:Int)]:List Int));bi (t1.append [.aa false,.ax (bt 4 (.aJ (bO.length)) 1),(J 3),(J 3),.aO [36] [.cA (af 1 eI bO)] (ba [0,1,5,6,7])]) (aU.aJ (.bk az (by decide:(1000000000:Int)≠0) (k2 (show [[.n .i64 (b4.tmod (1000000000:Int))]]=(([b4.tmod (1000000000:Int)]:List Int)).map eI from rfl) (show 1=([b4.tmod (1000000000:Int)]:List Int).length from rfl)) (gO eI ad) (lG (dJ ad) (nX (show [[.n .i64 (b4.tmod (1000000000:Int))]]=(([b4.tmod (1000000000:Int)]:List Int)).map eI from rfl) (show 1=([b4.tmod (1000000000:Int)]:List Int).length from rfl)):bO.length=ad.length+(([[.n .i64 (b4.tmod (1000000000:Int))]].drop 0).take 1).length) aZ (by decide:(1000000000:Int)≠0) (cY 1 .live (h6 (cX eI ad) (dJ ad) (nX (show [[.n .i64 (b4.tmod (1000000000:Int))]]=(([b4.tmod (1000000000:Int)]:List Int)).map eI from rfl) (show 1=([b4.tmod (1000000000:Int)]:List Int).length from rfl)))) (.e1 (aK 1 .live aQ bO))))))))
  (fun h1 =>
  .ite (fun o =>
  .a0 fun ab =>
  .au fun gf az =>
  .a0 fun aZ =>
  .ret (let d9:=R (c3+gf);let cJ:=(ad++([d9.tmod (1000000000:Int)]:List Int));bi [.ax (ah 9 (an (.aa false) (ah 1 (cn 2 (an (.aa true) []))))),.aa true,(J 2),(J 4),.aa false,(J 4),.aa true,.ax (bt 4 (.b9 (eI gf)) 2),.ax (bt 4 (.aJ (cJ.length)) 1),(J 3),(J 3),.aO [36] [.cA (af 1 eI cJ)] (ba [0,1,5,6,7])] (.bk h1 h1 h1 h1 h1 o o o (.bk cB h1 o ab.1 (cU eI ab.2) (bX eI az) (by decide:(1000000000:Int)≠0) (k2 (show [[.n .i64 (d9.tmod (1000000000:Int))]]=(([d9.tmod (1000000000:Int)]:List Int)).map eI from rfl) (show 1=([d9.tmod (1000000000:Int)]:List Int).length from rfl)) (.dT (gO eI ad) (lG (dJ ad) (nX (show [[.n .i64 (d9.tmod (1000000000:Int))]]=(([d9.tmod (1000000000:Int)]:List Int)).map eI from rfl) (show 1=([d9.tmod (1000000000:Int)]:List Int).length from rfl)):cJ.length=ad.length+(([[.n .i64 (d9.tmod (1000000000:Int))]].drop 0).take 1).length) aZ (by decide:(1000000000:Int)≠0) (cY 1 .live (h6 (cX eI ad) (dJ ad) (nX (show [[.n .i64 (d9.tmod (1000000000:Int))]]=(([d9.tmod (1000000000:Int)]:List Int)).map eI from rfl) (show 1=([d9.tmod (1000000000:Int)]:List Int).length from rfl)))) (aK 1 .live aQ cJ))))))
  (fun o =>
  (let t1:List b2:=[.ax (ah 9 (an (.aa false) (ah 3 (an (.aa false) []))))];
  .ite (fun ab =>
  .a0 fun av =>
  .ret (let fM:=(ad++([(c3.tmod (1000000000:Int))]:List Int));bi (t1.append [.aa true,(J 2),(J 4),.aa false,(J 4),.aa false,.ax (bt 4 (.aJ (fM.length)) 1),(J 3),(J 3),.aO [29] [.cA (af 1 eI fM)] (ba [0,1,5,6,7])]) (.bk h1 h1 h1 h1 h1 o o o (.bk ab h1 o (by decide:(1000000000:Int)≠0) (gv eI (c3.tmod (1000000000:Int))) (gO eI ad) (gw eI ad (c3.tmod (1000000000:Int))) av (.bS (by decide:(1000000000:Int)≠0) (cY 1 .live (gS eI ad (c3.tmod (1000000000:Int)))) (aK 1 .live aQ fM))))))
  (fun ab =>
  .ret (bi (t1.append [.aa false,.aO [0] [.pure] (ba [5])]) (.bk h1 h1 h1 h1 h1 o o o (.aD ab (aK 1 .live aQ ad))))))))
theorem V9 {ai aC:List Int}{c3 ag:Int}{ad:List Int}{r} (h:I1 ai aC c3 ag ad=some r):dR a9 55 0 107 [1,1,1,0,1,0,0] (Hr ai aC) (HV ai aC) (c3,ag,ad) r:=dS (fun _=>UH) h
def xj (ai aC:List Int):Option (List Int) :=
 I1 ai aC 0 0 ([]:List Int) >>= fun r1 =>
 some r1
theorem Xg {ai aC:List Int}:bz (xj ai aC) (fun r=>Con a9 107 [.isl 1 (ai.map eI),.isl 1 (aC.map eI)] [] (.isl 1 (r.map eI)) []):=by
 unfold xj
 exact .au fun r1 o =>
  .ret (bw [(J 1),(J 2),(J 1),(J 1),.aO [1] [.cA (af 1 eI ([]:List Int))] [(0,ii),(1,ii),(5,fV (([]:List Int).length)),(6,ii),(7,ii)],(HV ai aC r1).fc,(J 2)] (.er (cY 1 .live (show []=(([]:List Int)).map eI from rfl)) (aK 1 .live aQ ([]:List Int)) (eZ Int) (V9 o) (f6 eI r1) (fC eI r1) (dw aQ r1)) (.bu (.di (.ek (r1.map eI)))))
def Hs (ai aC:List Int):Int→S:=fun ag=>dm [(0,.isl 1 (ai.map eI)),(1,.isl 1 (aC.map eI)),(5,.n .i64 ag)] []
def M4 (ai aC:List Int):((Unit)⊕(Int))→dp
 | .inl a=>⟨some 0,[],[]⟩
 | .inr a=>⟨none,[(4,.n .i64 a)],[]⟩
def wM (ai aC:List Int)(ag:Int):Option ((Int)⊕((Unit)⊕(Int))) :=
 if (decide ((0:Int)≤ag))=true then
  if 0≤ag∧ag<ai.length then
  ai[ag.toNat]? >>= fun aI =>
  if 0≤ag∧ag<aC.length then
  aC[ag.toNat]? >>= fun cw =>
  if (decide (aI<cw))=true then
   some (.inr (.inr (-1)))
  else
   if (decide (cw<aI))=true then
    some (.inr (.inr 1))
   else
    some (.inl (R (ag-(1:Int))))
  else none
  else none
 else
  some (.inr (.inl ()))
def I2 (ai aC:List Int)(ag:Int):Option ((Unit)⊕(Int)):=iter (fun w:Int=>wM ai aC w) ag
theorem UI {ai aC:List Int}{ag:Int}:bz (wM ai aC ag) (dQ a9 41 0 108 [1,1,0,1,0,0] (Hs ai aC ag) (Hs ai aC) (M4 ai aC)):=by
 unfold wM
 exact .ite (fun h1 =>
  .a0 fun o =>
  .au fun aI av =>
  .a0 fun az =>
  .au fun cw bg =>
  (let t1:List b2:=[(J 2),.aa true,.ax (ah 3 (an (.b9 (eI aI)) (bt 3 (.b9 (eI cw)) 1)))];
  have aU:=((.er h1 o.1 (cU eI o.2) (bX eI av) az.1 (cU eI az.2) (bX eI bg)):cr _);
  .ite (fun bl =>
  .ret (bi (t1.append [.aa true,(J 1),.aO [] [] (ba [4])]) (aU.aJ (.e1 bl))))
  (fun bl =>
  (let t3:List b2:=t1.append [.aa false,.ax (ah 3 (an (.b9 (eI aI)) (bt 3 (.b9 (eI cw)) 1)))];
  have eS:=aU.aJ (.er bl o.1 (cU eI o.2) (bX eI av) az.1 (cU eI az.2) (bX eI bg));
  .ite (fun cq =>
  .ret (bi (t3.append [.aa true,(J 1),.aO [] [] (ba [4])]) (eS.aJ (.e1 cq))))
  (fun cq =>
  .ret (bi (t3.append [.aa false,(J 3),.aO [] [] (ba [0,1,5])]) (eS.aJ (.e1 cq))))))))
  (fun h1 =>
  .ret (bi [(J 2),.aa false,.aO [] [] []] (.e1 h1)))
theorem Ng {ai aC:List Int}{ag:Int}{r} (h:I2 ai aC ag=some r):dR a9 41 0 108 [1,1,0,1,0,0] (Hs ai aC) (M4 ai aC) ag r:=dS (fun _=>UI) h
def pO (ai aC:List Int):Option Int :=
 if ((len_ eI ai) != (len_ eI aC))=true then
  if (decide ((len_ eI ai)<(len_ eI aC)))=true then
   some (-1)
  else
   some 1
 else
  I2 ai aC (R ((len_ eI ai)-(1:Int))) >>= fun b1 =>
  match b1 with
  | .inl fN=>(some 0)
  | .inr fN=>(some fN)
theorem w8 {ai aC:List Int}:bz (pO ai aC) (fun r=>Con a9 108 [.isl 1 (ai.map eI),.isl 1 (aC.map eI)] [] (.n .i64 r) []):=by
 unfold pO
 exact .ite (fun h1 =>
  (let t1:List b2:=[(J 1),(J 5),.aa true,(J 5)];
  .ite (fun o =>
  .ret (bw (t1.append [.aa true,(J 1)]) (.aD h1 o)))
  (fun o =>
  .ret (bw (t1.append [.aa false,(J 1)]) (.aD h1 o)))))
  (fun h1 =>
  .au fun b1 ab =>
  (let t1:List b2:=[(J 1),(J 5),.aa false,(J 4),.aO [] [] (ba [0,1,5])];
  (by
  rcases b1 with fN|fN
  ·exact (.ret (bw (t1.append [.sub (.exit 0) [] [],(J 1)]) (.aD h1 (Ng ab))))
  ·exact (.ret (bw (t1.append [.sub (.ret) [(4,.n .i64 fN)] []]) (.aD h1 (Ng ab)))))))
def Ht (ai aC:List Int)(c2:Int):(Int×Int×(List Int))→S:=fun (k7,dN,ad)=>dm [(0,.isl 1 (ai.map eI)),(1,.isl 1 (aC.map eI)),(5,.bm 0 0 0 ad.length),(6,.n .i64 k7),(11,.n .i64 c2),(12,.n .i64 dN)] [(af 1 eI ad)]
def HW (ai aC:List Int)(c2:Int):(List Int)→dp
 | a=>⟨some 0,[(5,.bm 0 0 0 a.length)],[(af 1 eI a)]⟩
def tU (ai aC:List Int)(c2 k7 dN:Int)(ad:List Int):Option ((Int×Int×(List Int))⊕((List Int))) :=
 if (decide (dN<c2))=true then
  if 0≤dN∧dN<ai.length then
  ai[dN.toNat]? >>= fun aI =>
  if (decide (dN<(len_ eI aC)))=true then
   if 0≤dN∧dN<aC.length then
   aC[dN.toNat]? >>= fun fl =>
   if (decide ((R ((R (aI-k7))-fl))<(0:Int)))=true then
    if (ad++([R ((R ((R (aI-k7))-fl))+(1000000000:Int))]:List Int)).length*8≤140737488355328 then
    some (.inl (1,R (dN+(1:Int)),ad++([R ((R ((R (aI-k7))-fl))+(1000000000:Int))]:List Int)))
    else none
   else
    if (ad++([R ((R (aI-k7))-fl)]:List Int)).length*8≤140737488355328 then
    some (.inl (0,R (dN+(1:Int)),ad++([R ((R (aI-k7))-fl)]:List Int)))
    else none
   else none
  else
   if (decide ((R (aI-k7))<(0:Int)))=true then
    if (ad++([R ((R (aI-k7))+(1000000000:Int))]:List Int)).length*8≤140737488355328 then
    some (.inl (1,R (dN+(1:Int)),ad++([R ((R (aI-k7))+(1000000000:Int))]:List Int)))
    else none
   else
    if (ad++([R (aI-k7)]:List Int)).length*8≤140737488355328 then
    some (.inl (0,R (dN+(1:Int)),ad++([R (aI-k7)]:List Int)))
    else none
  else none
 else
  some (.inr ad)
def I3 (ai aC:List Int)(c2 k7 dN:Int)(ad:List Int):Option ((List Int)):=iter (fun w:Int×Int×(List Int)=>tU ai aC c2 w.1 w.2.1 w.2.2) (k7,dN,ad)
theorem UJ {ai aC:List Int}{c2 k7 dN:Int}{ad:List Int}:bz (tU ai aC c2 k7 dN ad) (dQ a9 42 0 109 [1,1,1,0,1,0,0] (Ht ai aC c2 (k7,dN,ad)) (Ht ai aC c2) (HW ai aC c2)):=by
 unfold tU
 exact .ite (fun h1 =>
  .a0 fun o =>
  .au fun aI av =>
  (let t1:List b2:=[(J 1),.aa true,(J 2),.ax (bt 3 (.b9 (eI aI)) 3),(J 4)];
  have aU:=((.da h1 o.1 (cU eI o.2) (bX eI av)):cr _);
  .ite (fun az =>
  .a0 fun aZ =>
  .au fun fl bl =>
  (let t3:List b2:=t1.append [.aa true,.ax (bt 4 (.b9 (eI fl)) 2),(J 1),(J 2)];
  have eS:=aU.aJ (.da az aZ.1 (cU eI aZ.2) (bX eI bl));
  .ite (fun cq =>
  .a0 fun cQ =>
  .ret (let q1:=(R ((R ((R (aI-k7))-fl))+(1000000000:Int)));let a2:=(ad++([q1]:List Int));bi (t3.append [.aa true,(J 3),(J 1),.ax (bt 3 (.aJ (a2.length)) 1),(J 2),.aO [32] [.cA (af 1 eI a2)] (ba [0,1,5,6,11,12])]) (eS.aJ (.er cq (gv eI q1) (gO eI ad) (gw eI ad q1) cQ (cY 1 .live (gS eI ad q1)) (aK 1 .live aQ a2)))))
  (fun cq =>
  .a0 fun cQ =>
  .ret (let bO:=R ((R (aI-k7))-fl);let b4:=(ad++([bO]:List Int));bi (t3.append [.aa false,.ax (bt 3 (.aJ (b4.length)) 1),(J 2),.aO [28] [.cA (af 1 eI b4)] (ba [0,1,5,6,11,12])]) (eS.aJ (.er cq (gv eI bO) (gO eI ad) (gw eI ad bO) cQ (cY 1 .live (gS eI ad bO)) (aK 1 .live aQ b4)))))))
  (fun az =>
  (let t3:List b2:=t1.append [.aa false,(J 1),(J 2)];
  .ite (fun aZ =>
  .a0 fun bg =>
  .ret (let cJ:=(R ((R (aI-k7))+(1000000000:Int)));let d9:=(ad++([cJ]:List Int));bi (t3.append [.aa true,(J 3),(J 1),.ax (bt 3 (.aJ (d9.length)) 1),(J 2),.aO [25] [.cA (af 1 eI d9)] (ba [0,1,5,6,11,12])]) (aU.aJ (.gD az aZ (gv eI cJ) (gO eI ad) (gw eI ad cJ) bg (cY 1 .live (gS eI ad cJ)) (aK 1 .live aQ d9)))))
  (fun aZ =>
  .a0 fun bg =>
  .ret (let eG:=R (aI-k7);let fM:=(ad++([eG]:List Int));bi (t3.append [.aa false,.ax (bt 3 (.aJ (fM.length)) 1),(J 2),.aO [21] [.cA (af 1 eI fM)] (ba [0,1,5,6,11,12])]) (aU.aJ (.gD az aZ (gv eI eG) (gO eI ad) (gw eI ad eG) bg (cY 1 .live (gS eI ad eG)) (aK 1 .live aQ fM)))))))))
  (fun h1 =>
  .ret (bi [(J 1),.aa false,.aO [0] [.pure] (ba [5])] (.aD h1 (aK 1 .live aQ ad))))
theorem Wa {ai aC:List Int}{c2 k7 dN:Int}{ad:List Int}{r} (h:I3 ai aC c2 k7 dN ad=some r):dR a9 42 0 109 [1,1,1,0,1,0,0] (Ht ai aC c2) (HW ai aC c2) (k7,dN,ad) r:=dS (fun _=>UJ) h
def rN (ai aC:List Int):Option (List Int) :=
 I3 ai aC (len_ eI ai) 0 0 ([]:List Int) >>= fun r1 =>
 pM r1 >>= fun bj =>
 some bj
theorem I4 {ai aC:List Int}:bz (rN ai aC) (fun r=>Con a9 109 [.isl 1 (ai.map eI),.isl 1 (aC.map eI)] [] (.isl 1 (r.map eI)) []):=by
 unfold rN
 exact .au fun r1 o =>
  .au fun bj av =>
  .ret (bw [(J 1),(J 2),(J 1),(J 3),.aO [1] [.cA (af 1 eI ([]:List Int))] [(0,ii),(1,ii),(5,fV (([]:List Int).length)),(6,ii),(11,ii),(12,ii)],(HW ai aC (len_ eI ai) r1).fc,.iO 0,.ax (bt 1 (.call {ac:=[.bu (.di (.ek (r1.map eI)))],r:= .isl 1 (bj.map eI),fB:=false,fI:=[0]}) 1)] (.gD (cY 1 .live (show []=(([]:List Int)).map eI from rfl)) (aK 1 .live aQ ([]:List Int)) (eZ Int) (Wa o) (f6 eI r1) (fC eI r1) (dw aQ r1) (rH bj av)))
def pP (c8 ey:bq):Option bq :=
 if (c8.cN == ey.cN)=true then
  xj c8.cC ey.cC >>= fun b1 =>
  hM c8.cN b1 >>= fun bb =>
  some bb
 else
  pO c8.cC ey.cC >>= fun b1 =>
  if (decide ((0:Int)≤b1))=true then
   rN c8.cC ey.cC >>= fun aM =>
   hM c8.cN aM >>= fun cb =>
   some cb
  else
   rN ey.cC c8.cC >>= fun aM =>
   hM ey.cN aM >>= fun cb =>
   some cb
theorem I5 {c8 ey:bq}:bz (pP c8 ey) (fun r=>Con a9 83 [.agg (aX c8),.agg (aX ey)] [] (.agg (aX r)) []):=by
 unfold pP
 exact .ite (fun h1 =>
  .au fun b1 ab =>
  .au fun bb az =>
  .ret (bw [(J 3),(J 5),.aa true,.ax (ah 6 (an (bp 2 (.isl 1 (b1.map eI)) false) (an (bp 2 (.agg (aX bb)) false) (ah 1 []))))] (.bS h1 (Xg b1 ab) (nS bb az))))
  (fun h1 =>
  .au fun b1 ab =>
  (let t1:List b2:=[(J 3),(J 5),.aa false,.ax (bt 4 (bp 2 (.n .i64 b1) true) 1)];
  have aU:=((.bS h1 (w8 b1 ab) (b7.n .i64 b1)):cr _);
  .ite (fun av =>
  .au fun aM aZ =>
  .au fun cb bl =>
  .ret (bw (t1.append [.aa true,.ax (ah 6 (an (bp 2 (.isl 1 (aM.map eI)) false) (an (bp 2 (.agg (aX cb)) false) (ah 1 []))))]) (aU.aJ (.bS av (I4 aM aZ) (nS cb bl)))))
  (fun av =>
  .au fun aM aZ =>
  .au fun cb bl =>
  .ret (bw (t1.append [.aa false,.ax (ah 6 (an (bp 2 (.isl 1 (aM.map eI)) false) (an (bp 2 (.agg (aX cb)) false) (ah 1 []))))]) (aU.aJ (.bS av (I4 aM aZ) (nS cb bl)))))))
def HX (ai:List Int)(gL:Int):Int→S:=fun du=>dm [(0,.isl 1 (ai.map eI)),(5,.isl 1 (ai.map eI)),(6,.n .i64 gL),(7,.n .i64 du)] []
def Nh (ai:List Int)(gL:Int):((Unit)⊕(Unit))→dp
 | .inl a=>⟨some 0,[(0,.isl 1 (ai.map eI))],[]⟩
 | .inr a=>⟨none,[(2,.b false)],[]⟩
def wY (ai:List Int)(gL du:Int):Option ((Int)⊕((Unit)⊕(Unit))) :=
 if (decide (du<gL))=true then
  if 0≤du∧du<ai.length then
  ai[du.toNat]? >>= fun aI =>
  mE aI 0 999999999 >>= fun aM =>
  if aM=true then
   some (.inl (R (du+(1:Int))))
  else
   some (.inr (.inr ()))
  else none
 else
  some (.inr (.inl ()))
def Jj (ai:List Int)(gL du:Int):Option ((Unit)⊕(Unit)):=iter (fun w:Int=>wY ai gL w) du
theorem U8 {ai:List Int}{gL du:Int}:bz (wY ai gL du) (dQ a9 32 0 91 [1,0,1,0,0] (HX ai gL du) (HX ai gL) (Nh ai gL)):=by
 unfold wY
 exact .ite (fun h1 =>
  .a0 fun o =>
  .au fun aI av =>
  .au fun aM aZ =>
  (let t1:List b2:=[(J 1),.aa true,.ax (bt 1 (.b9 (eI aI)) 1),.ax (bt 1 (bp 3 (.b aM) true) 1)];
  have aU:=((.dT h1 o.1 (cU eI o.2) (bX eI av) (pL aM aZ) (b7.b aM)):cr _);
  .ite (fun bg =>
  .ret (bi (t1.append [.aa false,(J 2),.aO [] [] (ba [0,5,6,7])]) (aU.aJ (.e1 (c0 bg)))))
  (fun bg =>
  .ret (bi (t1.append [.aa true,(J 1),.aO [] [] (ba [2])]) (aU.aJ (.e1 (cS bg)))))))
  (fun h1 =>
  .ret (bi [(J 1),.aa false,.aO [] [] (ba [0])] (.e1 h1)))
theorem Iz {ai:List Int}{gL du:Int}{r} (h:Jj ai gL du=some r):dR a9 32 0 91 [1,0,1,0,0] (HX ai gL) (Nh ai gL) du r:=dS (fun _=>U8) h
def rO (ai:List Int):Option Bool :=
 Jj ai (len_ eI ai) 0 >>= fun r1 =>
 match r1 with
 | .inl dn=>(if (decide ((len_ eI ai)≤(60:Int)))=true then
  if ((len_ eI ai) == (0:Int))=true then
   some true
  else
   if 0≤(R ((len_ eI ai)-(1:Int)))∧(R ((len_ eI ai)-(1:Int)))<ai.length then
   ai[(R ((len_ eI ai)-(1:Int))).toNat]? >>= fun fl =>
   some (fl != (0:Int))
   else none
  else
   some false)
 | .inr dn=>(some false)
theorem Jk {ai:List Int}:bz (rO ai) (fun r=>Con a9 91 [.isl 1 (ai.map eI)] [] (.b r) []):=by
 unfold rO
 exact .au fun r1 o =>
  (let t1:List b2:=[(J 1),(J 3),.aO [] [] (ba [0,5,6,7])];
  (by
  rcases r1 with dn|dn
  ·exact ((let t2:List b2:=t1.append [.sub (.exit 0) [(0,.isl 1 (ai.map eI))] []];
  .ite (fun av =>
  (have fE:=((.dl (Iz o) av av av av):cr _);
  .ite (fun az =>
  .ret (bw (t2.append [.ax (ah 8 (cn 7 (an (.aa true) (an (.aa true) (ah 1 [])))))]) (fE.aJ (.bk az az az az az az az av (.aD az av)))))
  (fun az =>
  .a0 fun aZ =>
  .au fun fl bl =>
  .ret (bw (t2.append [.ax (ah 13 (an (.b9 (eI fl)) (ah 1 (an (.aa false) (an (.aa true) (ah 1 []))))))]) (fE.aJ (.bk az az az az az aZ.1 (cU eI aZ.2) az (.dl (bX eI bl) az av az av)))))))
  (fun av =>
  .ret (bw (t2.append [.ax (ah 4 (cn 4 (ah 7 (cn 1 (an (.aa false) (ah 1 []))))))]) (.er (Iz o) av av av av av av)))))
  ·exact (.ret (bw (t1.append [.sub (.ret) [(2,.b false)] []]) (.e1 (Iz o))))))
def GG (ai:List Int):(Int×Int)→S:=fun (aY,ag)=>dm [(0,.isl 1 (ai.map eI)),(4,.n .i64 aY),(5,.n .i64 ag)] []
def GY (ai:List Int):Int→dp
 | a=>⟨some 0,[(4,.n .i64 a)],[]⟩
def wu (ai:List Int)(aY ag:Int):Option ((Int×Int)⊕(Int)) :=
 if (decide ((0:Int)≤ag))=true then
  if 0≤ag∧ag<ai.length then
  ai[ag.toNat]? >>= fun aI =>
  some (.inl (R ((R (aY*(1000000000:Int)))+aI),R (ag-(1:Int))))
  else none
 else
  some (.inr aY)
def IA (ai:List Int)(aY ag:Int):Option (Int):=iter (fun w:Int×Int=>wu ai w.1 w.2) (aY,ag)
theorem T8 {ai:List Int}{aY ag:Int}:bz (wu ai aY ag) (dQ a9 30 0 116 [1,1,1,0,1,0,0] (GG ai (aY,ag)) (GG ai) (GY ai)):=by
 unfold wu
 exact .ite (fun h1 =>
  .a0 fun o =>
  .au fun aI av =>
  .ret (bi [(J 2),.aa true,.ax (bt 5 (.b9 (eI aI)) 2),(J 3),.aO [] [] (ba [0,4,5])] (.da h1 o.1 (cU eI o.2) (bX eI av))))
  (fun h1 =>
  .ret (bi [(J 2),.aa false,.aO [] [] (ba [4])] (.e1 h1)))
theorem Vx {ai:List Int}{aY ag:Int}{r} (h:IA ai aY ag=some r):dR a9 30 0 116 [1,1,1,0,1,0,0] (GG ai) (GY ai) (aY,ag) r:=dS (fun _=>T8) h
def xb (ai:List Int):Option (Int×Bool) :=
 rO ai >>= fun r1 =>
 if r1=true then
  pO ai ([854775807,223372036,9]:List Int) >>= fun bb =>
  if (decide ((0:Int)<bb))=true then
   some (0,false)
  else
   IA ai 0 (R ((len_ eI ai)-(1:Int))) >>= fun cb =>
   some (cb,true)
 else
  some (0,false)
theorem Nn {ai:List Int}:bz (xb ai) (fun r=>Con a9 116 [.isl 1 (ai.map eI)] [] (.dX [.n .i64 r.1,.b r.2]) []):=by
 unfold xb
 exact .au fun r1 o =>
  (have af:=((.aD (Jk r1 o) (b7.b r1)):cr _);
  .ite (fun ab =>
  .au fun bb az =>
  (let t2:List b2:=[(J 2),.ax (ah 1 (an (bp 1 (.b r1) true) (ah 4 (an (.call {ac:=[ii,.bu (.di (.ek (([854775807,223372036,9]:List Int).map eI)))],r:= .n .i64 bb,fB:=true,fI:=[7]}) (ah 1 (an (.aa false) []))))))];
  have fE:=af.aJ (.bk (c0 ab) (c0 ab) (c0 ab) (kR (show [[.n .i64 (854775807:Int)],[.n .i64 (223372036:Int)],[.n .i64 (9:Int)]]=(([854775807,223372036,9]:List Int)).map eI from rfl) (show 3=([854775807,223372036,9]:List Int).length from rfl)) (k2 (show [[.n .i64 (854775807:Int)],[.n .i64 (223372036:Int)],[.n .i64 (9:Int)]]=(([854775807,223372036,9]:List Int)).map eI from rfl) (show 3=([854775807,223372036,9]:List Int).length from rfl)) (dw aQ ([854775807,223372036,9]:List Int)) (w8 bb az) (b7.n .i64 bb) (.aD (c0 ab) (c0 ab)));
  .ite (fun aZ =>
  .ret (bw (t2.append [.aa true,(J 2)]) (fE.aJ (.e1 aZ))))
  (fun aZ =>
  .au fun cb bl =>
  .ret (bw (t2.append [.aa false,(J 1),(J 4),.aO [] [] (ba [0,4,5]),(GY ai cb).fc,(J 3)]) (fE.aJ (.aD aZ (Vx bl)))))))
  (fun ab =>
  .ret (bw [(J 2),.ax (ah 1 (an (bp 1 (.b r1) true) (ah 2 (cn 4 (an (.aa true) []))))),.aa true,(J 2)] (af.aJ (.dT (cS ab) (cS ab) (cS ab) (cS ab) (cS ab) cB)))))
def GH:(Int×Int)→S:=fun (c8,ey)=>dm [(0,.n .i64 c8),(1,.n .i64 ey)] []
def GZ:Int→dp
 | a=>⟨some 0,[(0,.n .i64 a)],[]⟩
def wv (c8 ey:Int):Option ((Int×Int)⊕(Int)) :=
 if (decide ((0:Int)<ey))=true then
  if ey≠0 then
  some (.inl (ey,c8.tmod ey))
  else none
 else
  some (.inr c8)
def IB (c8 ey:Int):Option (Int):=iter (fun w:Int×Int=>wv w.1 w.2) (c8,ey)
theorem T9 {c8 ey:Int}:bz (wv c8 ey) (dQ a9 15 0 117 [1,0,0,0] (GH (c8,ey)) (GH) (GZ)):=by
 unfold wv
 exact .ite (fun h1 =>
  .a0 fun o =>
  .ret (bi [(J 2),.aa true,(J 4),(J 2),(J 2),.aO [] [] (ba [0,1])] (.aD h1 o)))
  (fun h1 =>
  .ret (bi [(J 2),.aa false,.aO [] [] (ba [0])] (.e1 h1)))
theorem Vy {c8 ey:Int}{r} (h:IB c8 ey=some r):dR a9 15 0 117 [1,0,0,0] (GH) (GZ) (c8,ey) r:=dS (fun _=>T9) h
def zw (c8 ey:Int):Option (List Int) :=
 IB c8 ey >>= fun r1 =>
 q9 r1 >>= fun bj =>
 some bj
theorem Wr {c8 ey:Int}:bz (zw c8 ey) (fun r=>Con a9 117 [.n .i64 c8,.n .i64 ey] [] (.isl 1 (r.map eI)) []):=by
 unfold zw
 exact .au fun r1 o =>
  .au fun bj av =>
  .ret (bw [(J 1),.aO [] [] (ba [0,1]),(GZ r1).fc,.ax (bt 1 (bp 1 (.isl 1 (bj.map eI)) false) 1)] (.aD (Vy o) (xa bj av)))
def GI (ai:List Int)(lh:Int):(Int×Int×(List Int))→S:=fun (fK,ag,ad)=>dm [(0,.isl 1 (ai.map eI)),(1,.n .i64 lh),(6,.bm 0 0 0 ad.length),(7,.n .i64 fK),(8,.n .i64 ag)] [(af 1 eI ad)]
def G0 (ai:List Int)(lh:Int):(Int×(List Int))→dp
 | a=>⟨some 0,[(6,.bm 0 0 0 a.2.length),(7,.n .i64 a.1)],[(af 1 eI a.2)]⟩
def wx (ai:List Int)(lh fK ag:Int)(ad:List Int):Option ((Int×Int×(List Int))⊕(Int×(List Int))) :=
 if (decide ((0:Int)≤ag))=true then
  if 0≤ag∧ag<ai.length then
  ai[ag.toNat]? >>= fun aI =>
  if lh≠0 then
  if 0≤ag∧ag<(ad.length:Nat) then
  if (0+ag.toNat)<ad.length then
  some (.inl ((R ((R (fK*(1000000000:Int)))+aI)).tmod lh,R (ag-(1:Int)),ad.set (0+ag.toNat) (R ((R ((R (fK*(1000000000:Int)))+aI)).tdiv lh))))
  else none
  else none
  else none
  else none
 else
  some (.inr (fK,ad))
def CK (ai:List Int)(lh fK ag:Int)(ad:List Int):Option (Int×(List Int)):=iter (fun w:Int×Int×(List Int)=>wx ai lh w.1 w.2.1 w.2.2) (fK,ag,ad)
theorem Ua {ai:List Int}{lh fK ag:Int}{ad:List Int}:bz (wx ai lh fK ag ad) (dQ a9 39 0 125 [1,1,1,0,1,0,0] (GI ai lh (fK,ag,ad)) (GI ai lh) (G0 ai lh)):=by
 unfold wx
 exact .ite (fun h1 =>
  .a0 fun o =>
  .au fun aI av =>
  .a0 fun az =>
  .a0 fun aZ =>
  .a0 fun bg =>
  .ret (let q1:=(R ((R ((R (fK*(1000000000:Int)))+aI)).tdiv lh));bi [(J 2),.aa true,.ax (bt 5 (.b9 (eI aI)) 2),.ax (ah 6 (an .fP [])),(J 4),(J 3),.aO [0] [.cA (af 1 eI (ad.set (0+ag.toNat) q1))] [(0,ii),(1,ii),(6,fV ((ad.set (0+ag.toNat) q1).length)),(7,ii),(8,ii)]] (.bk h1 o.1 (cU eI o.2) (bX eI av) az aZ.1 aZ.2 (hE eI bg) (.dl (hz 1) az (cY 1 .live (gI (cX eI ad) (0+ag.toNat) q1)) (aK 1 .live aQ (ad.set (0+ag.toNat) q1)) (hU (dJ ad) (0+ag.toNat) q1)))))
  (fun h1 =>
  .ret (bi [(J 2),.aa false,.aO [0] [.pure] (ba [6,7])] (.aD h1 (aK 1 .live aQ ad))))
theorem Vz {ai:List Int}{lh fK ag:Int}{ad:List Int}{r} (h:CK ai lh fK ag ad=some r):dR a9 39 0 125 [1,1,1,0,1,0,0] (GI ai lh) (G0 ai lh) (fK,ag,ad) r:=dS (fun _=>Ua) h
def zx (ai:List Int)(lh:Int):Option ((List Int)×Int) :=
 if 0≤(len_ eI ai)∧(8:Int)*(len_ eI ai)≤281474976710656∧(len_ eI ai)<9223372036854775808 then
 CK ai lh 0 (R ((len_ eI ai)-(1:Int))) (List.replicate (len_ eI ai).toNat 0:List Int) >>= fun b1 =>
 pM b1.2 >>= fun bb =>
 some (bb,b1.1)
 else none
theorem Ws {ai:List Int}{lh:Int}:bz (zx ai lh) (fun r=>Con a9 125 [.isl 1 (ai.map eI),.n .i64 lh] [] (.dX [.isl 1 (r.1.map eI),.n .i64 r.2]) []):=by
 unfold zx
 exact .a0 fun h1 =>
  .au fun b1 ab =>
  .au fun bb az =>
  .ret (let q1:=(List.replicate (len_ eI ai).toNat 0:List Int);bw [(J 2),(J 4),(J 1),(J 4),.aO [4] [.cA (af 1 eI q1)] [(0,ii),(1,ii),(6,fV (q1.length)),(7,ii),(8,ii)],(G0 ai lh b1).fc,.iO 0,.ax (bt 1 (.call {ac:=[.bu (.di (.ek (b1.2.map eI)))],r:= .isl 1 (bb.map eI),fB:=false,fI:=[0]}) 3)] (.bk h1.1 (Int.le_refl (len_ eI ai)) h1.2.1 h1.2.2 (cY 1 .live (lF eI (len_ eI ai).toNat 0)) (aK 1 .live aQ q1) (lZ (len_ eI ai).toNat (0:Int)) (Vz ab) (.da (f6 eI b1.2) (fC eI b1.2) (dw aQ b1.2) (rH bb az))))
def Hu (aC:List Int)(ag c8:Int)(dd:List Int)(de hb:Int):(Int×Int×(List Int))→S:=fun (c3,df,ad)=>dm [(1,.isl 1 (aC.map eI)),(5,.bm 0 0 0 ad.length),(6,.n .i64 ag),(7,.n .i64 c8),(8,.n .i64 c3),(26,.isl 1 (dd.map eI)),(27,.n .i64 de),(28,.n .i64 ag),(33,.isl 1 (aC.map eI)),(34,.n .i64 hb),(35,.n .i64 df)] [(af 1 eI ad)]
def HY (aC:List Int)(ag c8:Int)(dd:List Int)(de hb:Int):(Int×(List Int))→dp
 | a=>⟨some 2,[(1,.isl 1 (aC.map eI)),(5,.bm 0 0 0 a.2.length),(6,.n .i64 ag),(8,.n .i64 a.1),(26,.isl 1 (dd.map eI)),(27,.n .i64 de),(28,.n .i64 ag)],[(af 1 eI a.2)]⟩
def wN (aC:List Int)(ag c8:Int)(dd:List Int)(de hb c3 df:Int)(ad:List Int):Option ((Int×Int×(List Int))⊕(Int×(List Int))) :=
 if (decide (df<hb))=true then
  if 0≤df∧df<aC.length then
  aC[df.toNat]? >>= fun aI =>
  if 0≤(R (ag+df))∧(R (ag+df))<(ad.length:Nat) then
  ad[(0+(R (ag+df)).toNat)]? >>= fun cw =>
  if (0+(R (ag+df)).toNat)<ad.length then
  some (.inl (R ((R ((R (cw+(R (c8*aI))))+c3)).tdiv (1000000000:Int)),R (df+(1:Int)),ad.set (0+(R (ag+df)).toNat) ((R ((R (cw+(R (c8*aI))))+c3)).tmod (1000000000:Int))))
  else none
  else none
  else none
 else
  some (.inr (c3,ad))
def I6 (aC:List Int)(ag c8:Int)(dd:List Int)(de hb c3 df:Int)(ad:List Int):Option (Int×(List Int)):=iter (fun w:Int×Int×(List Int)=>wN aC ag c8 dd de hb w.1 w.2.1 w.2.2) (c3,df,ad)
theorem UK {aC:List Int}{ag c8:Int}{dd:List Int}{de hb c3 df:Int}{ad:List Int}:bz (wN aC ag c8 dd de hb c3 df ad) (dQ a9 72 0 86 [1,1,1,0,1,0,0,1,1,0,0,1,1,0,1,0,0] (Hu aC ag c8 dd de hb (c3,df,ad)) (Hu aC ag c8 dd de hb) (HY aC ag c8 dd de hb)):=by
 unfold wN
 exact .ite (fun h1 =>
  .a0 fun o =>
  .au fun aI av =>
  .a0 fun az =>
  .au fun cw bg =>
  .a0 fun bl =>
  .ret (let q1:=R ((R (cw+(R (c8*aI))))+c3);let a2:=R (ag+df);bi [(J 1),.aa true,.ax (bt 2 (.b9 (eI aI)) 2),.ax (bt 5 (.b9 (eI cw)) 7),.ax (ah 7 (an .fP [])),(J 3),(J 2),.aO [0] [.cA (af 1 eI (ad.set (0+a2.toNat) (q1.tmod (1000000000:Int))))] [(1,ii),(5,fV ((ad.set (0+a2.toNat) (q1.tmod (1000000000:Int))).length)),(6,ii),(7,ii),(8,ii),(26,ii),(27,ii),(28,ii),(33,ii),(34,ii),(35,ii)]] (.bk h1 o.1 (cU eI o.2) (bX eI av) az.1 az.2 (bX eI bg) (by decide:(1000000000:Int)≠0) (.gD az.1 az.2 (hE eI bl) (hz 1) (by decide:(1000000000:Int)≠0) (cY 1 .live (gI (cX eI ad) (0+a2.toNat) (q1.tmod (1000000000:Int)))) (aK 1 .live aQ (ad.set (0+a2.toNat) (q1.tmod (1000000000:Int)))) (hU (dJ ad) (0+a2.toNat) (q1.tmod (1000000000:Int)))))))
  (fun h1 =>
  .ret (bi [(J 1),.aa false,.aO [0] [.pure] (ba [1,5,6,8,26,27,28])] (.aD h1 (aK 1 .live aQ ad))))
theorem Wb {aC:List Int}{ag c8:Int}{dd:List Int}{de hb c3 df:Int}{ad:List Int}{r} (h:I6 aC ag c8 dd de hb c3 df ad=some r):dR a9 72 0 86 [1,1,1,0,1,0,0,1,1,0,0,1,1,0,1,0,0] (Hu aC ag c8 dd de hb) (HY aC ag c8 dd de hb) (c3,df,ad) r:=dS (fun _=>UK) h
def Hv (aC dd:List Int)(de:Int):(Int×(List Int))→S:=fun (fv,ad)=>dm [(1,.isl 1 (aC.map eI)),(5,.bm 0 0 0 ad.length),(26,.isl 1 (dd.map eI)),(27,.n .i64 de),(28,.n .i64 fv)] [(af 1 eI ad)]
def HZ (aC dd:List Int)(de:Int):(List Int)→dp
 | a=>⟨some 0,[(5,.bm 0 0 0 a.length)],[(af 1 eI a)]⟩
def y6 (aC dd:List Int)(de fv:Int)(ad:List Int):Option ((Int×(List Int))⊕((List Int))) :=
 if (decide (fv<de))=true then
  if 0≤fv∧fv<dd.length then
  dd[fv.toNat]? >>= fun aI =>
  I6 aC fv aI dd de (len_ eI aC) 0 0 ad >>= fun aM =>
  if 0≤(R (fv+(len_ eI aC)))∧(R (fv+(len_ eI aC)))<(aM.2.length:Nat) then
  if (0+(R (fv+(len_ eI aC))).toNat)<aM.2.length then
  some (.inl (R (fv+(1:Int)),aM.2.set (0+(R (fv+(len_ eI aC))).toNat) aM.1))
  else none
  else none
  else none
 else
  some (.inr ad)
def zp (aC dd:List Int)(de fv:Int)(ad:List Int):Option ((List Int)):=iter (fun w:Int×(List Int)=>y6 aC dd de w.1 w.2) (fv,ad)
theorem UL {aC dd:List Int}{de fv:Int}{ad:List Int}:bz (y6 aC dd de fv ad) (dQ a9 72 0 86 [1,1,1,0,1,0,0] (Hv aC dd de (fv,ad)) (Hv aC dd de) (HZ aC dd de)):=by
 unfold y6
 exact .ite (fun h1 =>
  .a0 fun o =>
  .au fun aI av =>
  .au fun aM aZ =>
  .a0 fun bg =>
  .a0 fun bl =>
  .ret (let q1:=R (fv+(len_ eI aC));bi [(J 1),.aa true,.ax (bt 2 (.b9 (eI aI)) 2),(J 1),(J 3),.aO [0] [.pure] (ba [1,5,6,7,8,26,27,28,33,34,35]),(HY aC fv aI dd de (len_ eI aC) aM).fc,.ax (ah 7 (an .fP [])),(J 2),.aO [0] [.cA (af 1 eI (aM.2.set (0+q1.toNat) aM.1))] [(1,ii),(5,fV ((aM.2.set (0+q1.toNat) aM.1).length)),(26,ii),(27,ii),(28,ii)]] (.bk h1 o.1 (cU eI o.2) (bX eI av) (aK 1 .live aQ ad) (Wb aZ) bg.1 bg.2 (.dl (hE eI bl) (hz 1) (cY 1 .live (gI (cX eI aM.2) (0+q1.toNat) aM.1)) (aK 1 .live aQ (aM.2.set (0+q1.toNat) aM.1)) (hU (dJ aM.2) (0+q1.toNat) aM.1)))))
  (fun h1 =>
  .ret (bi [(J 1),.aa false,.aO [0] [.pure] (ba [5])] (.aD h1 (aK 1 .live aQ ad))))
theorem Wc {aC dd:List Int}{de fv:Int}{ad:List Int}{r} (h:zp aC dd de fv ad=some r):dR a9 72 0 86 [1,1,1,0,1,0,0] (Hv aC dd de) (HZ aC dd de) (fv,ad) r:=dS (fun _=>UL) h
def hI (ai aC:List Int):Option (List Int) :=
 if ((len_ eI ai) == (0:Int))=true then
  some ([]:List Int)
 else
  if ((len_ eI aC) == (0:Int))=true then
   some ([]:List Int)
  else
   if 0≤(R ((len_ eI ai)+(len_ eI aC)))∧(8:Int)*(R ((len_ eI ai)+(len_ eI aC)))≤281474976710656∧(R ((len_ eI ai)+(len_ eI aC)))<9223372036854775808 then
   zp aC ai (len_ eI ai) 0 (List.replicate (R ((len_ eI ai)+(len_ eI aC))).toNat 0:List Int) >>= fun bb =>
   pM bb >>= fun cj =>
   some cj
   else none
theorem oX {ai aC:List Int}:bz (hI ai aC) (fun r=>Con a9 86 [.isl 1 (ai.map eI),.isl 1 (aC.map eI)] [] (.isl 1 (r.map eI)) []):=by
 unfold hI
 exact .ite (fun h1 =>
  .ret (bw [(J 1),.ax (ah 4 (cn 3 (an (.aa true) []))),.aa true,(J 1)] (.dl h1 h1 h1 h1 cB) (.bu (.di (.jj 1)))))
  (fun h1 =>
  (let t1:List b2:=[(J 1),.ax (ah 7 (an (.aa false) []))];
  .ite (fun o =>
  .ret (bw (t1.append [.aa true,(J 1)]) (.dl h1 h1 h1 h1 o) (.bu (.di (.jj 1)))))
  (fun o =>
  .a0 fun ab =>
  .au fun bb az =>
  .au fun cj bg =>
  .ret (let q1:=R ((len_ eI ai)+(len_ eI aC));let a2:=(List.replicate q1.toNat 0:List Int);bw (t1.append [.aa false,(J 7),(J 3),.aO [14] [.cA (af 1 eI a2)] [(1,ii),(5,fV (a2.length)),(26,ii),(27,ii),(28,ii)],(HZ aC ai (len_ eI ai) bb).fc,.iO 0,.ax (bt 1 (.call {ac:=[.bu (.di (.ek (bb.map eI)))],r:= .isl 1 (cj.map eI),fB:=false,fI:=[0]}) 1)]) (.bk h1 h1 h1 h1 o ab.1 (Int.le_refl q1) ab.2.1 (.bk ab.2.2 (cY 1 .live (lF eI q1.toNat 0)) (aK 1 .live aQ a2) (lZ q1.toNat (0:Int)) (Wc az) (f6 eI bb) (fC eI bb) (dw aQ bb) (.e1 (rH cj bg))))))))
def GJ (bW aC:List Int):(Int×Int)→S:=fun (l5,ml)=>dm [(0,.isl 1 (bW.map eI)),(1,.isl 1 (aC.map eI)),(7,.n .i64 l5),(8,.n .i64 ml)] []
def MO (bW aC:List Int):Int→dp
 | a=>⟨some 0,[(7,.n .i64 a)],[]⟩
def tP (bW aC:List Int)(l5 ml:Int):Option ((Int×Int)⊕(Int)) :=
 if (decide (l5<ml))=true then
  q9 (R ((R ((R (l5+ml))+(1:Int))).tdiv (2:Int))) >>= fun b1 =>
  hI aC b1 >>= fun bb =>
  pO bb bW >>= fun cj =>
  if (decide (cj≤(0:Int)))=true then
   some (.inl (R ((R ((R (l5+ml))+(1:Int))).tdiv (2:Int)),ml))
  else
   some (.inl (l5,R ((R ((R ((R (l5+ml))+(1:Int))).tdiv (2:Int)))-(1:Int))))
 else
  some (.inr l5)
def CL (bW aC:List Int)(l5 ml:Int):Option (Int):=iter (fun w:Int×Int=>tP bW aC w.1 w.2) (l5,ml)
theorem Ub {bW aC:List Int}{l5 ml:Int}:bz (tP bW aC l5 ml) (dQ a9 63 0 126 [1,1,1,1,1,1,0,0,0] (GJ bW aC (l5,ml)) (GJ bW aC) (MO bW aC)):=by
 unfold tP
 exact .ite (fun h1 =>
  .au fun b1 ab =>
  .au fun bb az =>
  .au fun cj bg =>
  (let t1:List b2:=[(J 3),.aa true,(J 6),.ax (ah 2 (an (bp 1 (.isl 1 (b1.map eI)) false) (an (bp 2 (.isl 1 (bb.map eI)) false) (bt 1 (bp 2 (.n .i64 cj) true) 1))))];
  have aU:=((.dT h1 (by decide:(2:Int)≠0) (xa b1 ab) (oX bb az) (w8 cj bg) (b7.n .i64 cj)):cr _);
  .ite (fun bl =>
  .ret (bi (t1.append [.aa true,(J 2),.aO [] [] (ba [0,1,7,8])]) (aU.aJ (.e1 bl))))
  (fun bl =>
  .ret (bi (t1.append [.aa false,(J 3),.aO [] [] (ba [0,1,7,8])]) (aU.aJ (.e1 bl))))))
  (fun h1 =>
  .ret (bi [(J 3),.aa false,.aO [] [] (ba [7])] (.e1 h1)))
theorem MW {bW aC:List Int}{l5 ml:Int}{r} (h:CL bW aC l5 ml=some r):dR a9 63 0 126 [1,1,1,1,1,1,0,0,0] (GJ bW aC) (MO bW aC) (l5,ml) r:=dS (fun _=>Ub) h
def zy (bW aC:List Int):Option Int :=
 if 0≤(R ((len_ eI aC)-(1:Int)))∧(R ((len_ eI aC)-(1:Int)))<bW.length then
 bW[(R ((len_ eI aC)-(1:Int))).toNat]? >>= fun dY =>
 if (decide ((len_ eI aC)<(len_ eI bW)))=true then
  if 0≤(len_ eI aC)∧(len_ eI aC)<bW.length then
  bW[(len_ eI aC).toNat]? >>= fun cw =>
  if 0≤(R ((len_ eI aC)-(1:Int)))∧(R ((len_ eI aC)-(1:Int)))<aC.length then
  aC[(R ((len_ eI aC)-(1:Int))).toNat]? >>= fun ew =>
  if (R (ew+(1:Int)))≠0 then
  if ew≠0 then
  CL bW aC (R ((R (dY+(R (cw*(1000000000:Int))))).tdiv (R (ew+(1:Int))))) (if (R ((R (dY+(R (cw*(1000000000:Int))))).tdiv ew))<(999999999:Int) then (R ((R (dY+(R (cw*(1000000000:Int))))).tdiv ew)) else (999999999:Int)) >>= fun eC =>
  some eC
  else none
  else none
  else none
  else none
 else
  if 0≤(R ((len_ eI aC)-(1:Int)))∧(R ((len_ eI aC)-(1:Int)))<aC.length then
  aC[(R ((len_ eI aC)-(1:Int))).toNat]? >>= fun cw =>
  if (R (cw+(1:Int)))≠0 then
  if cw≠0 then
  CL bW aC (R (dY.tdiv (R (cw+(1:Int))))) (if (R (dY.tdiv cw))<(999999999:Int) then (R (dY.tdiv cw)) else (999999999:Int)) >>= fun eg =>
  some eg
  else none
  else none
  else none
 else none
theorem Wt {bW aC:List Int}:bz (zy bW aC) (fun r=>Con a9 126 [.isl 1 (bW.map eI),.isl 1 (aC.map eI)] [] (.n .i64 r) []):=by
 unfold zy
 exact .a0 fun h1 =>
  .au fun dY ab =>
  (let t1:List b2:=[(J 1),(J 3),.ax (bt 4 (.b9 (eI dY)) 1),(J 4)];
  have aU:=((.bS h1.1 (cU eI h1.2) (bX eI ab)):cr _);
  .ite (fun av =>
  .a0 fun az =>
  .au fun cw bg =>
  .a0 fun bl =>
  .au fun ew cQ =>
  .a0 fun fa =>
  .a0 fun eV =>
  .au fun eC eB =>
  .ret (bw (t1.append [.aa true,.ax (bt 4 (.b9 (eI cw)) 3),.ax (bt 5 (.b9 (eI ew)) 3),.ax (bt 5 (.b9 (eI ew)) 3),.aO [] [] (ba [0,1,7,8]),.sub (.exit 0) [(7,.n .i64 eC)] [],(J 2)]) (aU.aJ (.bk av az.1 (cU eI az.2) (bX eI bg) bl.1 (cU eI bl.2) (bX eI cQ) fa (.dl bl.1 (cU eI bl.2) (bX eI cQ) eV (MW eB))))))
  (fun av =>
  .a0 fun az =>
  .au fun cw bg =>
  .a0 fun bl =>
  .a0 fun cq =>
  .au fun eg fa =>
  .ret (bw (t1.append [.aa false,.ax (bt 5 (.b9 (eI cw)) 3),.ax (bt 5 (.b9 (eI cw)) 3),.aO [] [] (ba [0,1,7,8]),.sub (.exit 0) [(7,.n .i64 eg)] [],(J 2)]) (aU.aJ (.bk av az.1 (cU eI az.2) (bX eI bg) bl az.1 (cU eI az.2) (bX eI bg) (.aD cq (MW fa)))))))
def Hw (ai aC:List Int):((List Int)×Int×(List Int))→S:=fun (fK,ag,ad)=>dm [(0,.isl 1 (ai.map eI)),(1,.isl 1 (aC.map eI)),(8,.bm 0 0 0 ad.length),(9,.isl 1 (fK.map eI)),(10,.n .i64 ag)] [(af 1 eI ad)]
def H0 (ai aC:List Int):((List Int)×(List Int))→dp
 | a=>⟨some 0,[(8,.bm 0 0 0 a.2.length),(9,.isl 1 (a.1.map eI))],[(af 1 eI a.2)]⟩
def wO (ai aC fK:List Int)(ag:Int)(ad:List Int):Option (((List Int)×Int×(List Int))⊕((List Int)×(List Int))) :=
 if (decide ((0:Int)≤ag))=true then
  if 0≤ag∧ag<ai.length then
  ai[ag.toNat]? >>= fun aI =>
  if (([aI]:List Int)++fK).length*8≤140737488355328 then
  pM (([aI]:List Int)++fK) >>= fun cj =>
  pO cj aC >>= fun c4 =>
  if (decide (c4<(0:Int)))=true then
   some (.inl (cj,R (ag-(1:Int)),ad))
  else
   zy cj aC >>= fun c5 =>
   if 0≤ag∧ag<(ad.length:Nat) then
   if (0+ag.toNat)<ad.length then
   q9 c5 >>= fun gA =>
   hI aC gA >>= fun gm =>
   rN cj gm >>= fun oP =>
   some (.inl (oP,R (ag-(1:Int)),ad.set (0+ag.toNat) c5))
   else none
   else none
  else none
  else none
 else
  some (.inr (fK,ad))
def I7 (ai aC fK:List Int)(ag:Int)(ad:List Int):Option ((List Int)×(List Int)):=iter (fun w:(List Int)×Int×(List Int)=>wO ai aC w.1 w.2.1 w.2.2) (fK,ag,ad)
theorem UM {ai aC fK:List Int}{ag:Int}{ad:List Int}:bz (wO ai aC fK ag ad) (dQ a9 65 0 111 [1,1,1,1,0,1,0,0] (Hw ai aC (fK,ag,ad)) (Hw ai aC) (H0 ai aC)):=by
 unfold wO
 exact .ite (fun h1 =>
  .a0 fun o =>
  .au fun aI av =>
  .a0 fun az =>
  .au fun cj bg =>
  .au fun c4 cq =>
  (let q1:=(([aI]:List Int)++fK);let t1:List b2:=[(J 2),.aa true,.ax (ah 3 (an (.b9 (eI aI)) (ah 2 (an (.aJ (q1.length)) (an (.sw 9 (.call {ac:=[.bu (.di (.ek (q1.map eI)))],r:= .isl 1 (cj.map eI),fB:=false,fI:=[9]})) (ah 1 [])))))),.ax (bt 2 (bp 2 (.n .i64 c4) true) 1)];
  have aU:=((.bk h1 o.1 (cU eI o.2) (bX eI av) (aeg eI aI) (lG (show 1=([aI]:List Int).length from rfl) (cX eI fK):q1.length=1+(fK.map eI).length) az (kR (h6 (show [[.n .i64 aI]]=(([aI]:List Int)).map eI from rfl) (show 1=([aI]:List Int).length from rfl) (cX eI fK)) (dJ q1)) (.dl (k2 (h6 (show [[.n .i64 aI]]=(([aI]:List Int)).map eI from rfl) (show 1=([aI]:List Int).length from rfl) (cX eI fK)) (dJ q1)) (dw aQ q1) (rH cj bg) (w8 c4 cq) (b7.n .i64 c4))):cr _);
  .ite (fun cQ =>
  .ret (bi (t1.append [.aa true,(J 3),.aO [0] [.pure] (ba [0,1,8,9,10])]) (aU.aJ (.aD cQ (aK 1 .live aQ ad)))))
  (fun cQ =>
  .au fun c5 eV =>
  .a0 fun et =>
  .a0 fun eB =>
  .au fun gA hS =>
  .au fun gm hs =>
  .au fun oP fk =>
  .ret (bi (t1.append [.aa false,.ax (bt 2 (bp 2 (.n .i64 c5) true) 1),.ax (ah 4 (an .fP [])),.ax (ah 3 (an (bp 1 (.isl 1 (gA.map eI)) false) (an (bp 2 (.isl 1 (gm.map eI)) false) (an (bp 2 (.isl 1 (oP.map eI)) false) (ah 1 []))))),(J 3),.aO [0] [.cA (af 1 eI (ad.set (0+ag.toNat) c5))] [(0,ii),(1,ii),(8,fV ((ad.set (0+ag.toNat) c5).length)),(9,ii),(10,ii)]]) (aU.aJ (.bk cQ (Wt c5 eV) (b7.n .i64 c5) et.1 et.2 (hE eI eB) (hz 1) (xa gA hS) (.dl (oX gm hs) (I4 oP fk) (cY 1 .live (gI (cX eI ad) (0+ag.toNat) c5)) (aK 1 .live aQ (ad.set (0+ag.toNat) c5)) (hU (dJ ad) (0+ag.toNat) c5))))))))
  (fun h1 =>
  .ret (bi [(J 2),.aa false,.aO [0] [.pure] (ba [8,9])] (.aD h1 (aK 1 .live aQ ad))))
theorem Wd {ai aC fK:List Int}{ag:Int}{ad:List Int}{r} (h:I7 ai aC fK ag ad=some r):dR a9 65 0 111 [1,1,1,1,0,1,0,0] (Hw ai aC) (H0 ai aC) (fK,ag,ad) r:=dS (fun _=>UM) h
def sP (ai aC:List Int):Option ((List Int)×(List Int)) :=
 if ((len_ eI aC) == (1:Int))=true then
  if 0≤(0:Int)∧(0:Int)<aC.length then
  aC[0]? >>= fun aI =>
  zx ai aI >>= fun aM =>
  q9 aM.2 >>= fun cb =>
  some (aM.1,cb)
  else none
 else
  if 0≤(len_ eI ai)∧(8:Int)*(len_ eI ai)≤281474976710656∧(len_ eI ai)<9223372036854775808 then
  I7 ai aC ([]:List Int) (R ((len_ eI ai)-(1:Int))) (List.replicate (len_ eI ai).toNat 0:List Int) >>= fun bj =>
  pM bj.2 >>= fun aM =>
  some (aM,bj.1)
  else none
theorem CY {ai aC:List Int}:bz (sP ai aC) (fun r=>Con a9 111 [.isl 1 (ai.map eI),.isl 1 (aC.map eI)] [] (.dX [.isl 1 (r.1.map eI),.isl 1 (r.2.map eI)]) []):=by
 unfold sP
 exact .ite (fun h1 =>
  .a0 fun o =>
  .au fun aI av =>
  .au fun aM aZ =>
  .au fun cb bl =>
  .ret (bw [(J 2),(J 3),.aa true,.ax (ah 3 (an (.b9 (eI aI)) (an (bp 2 (.dX [.isl 1 (aM.1.map eI),.n .i64 aM.2]) false) (ah 5 [])))),.ax (bt 2 (bp 1 (.isl 1 (cb.map eI)) false) 2)] (.dT h1 o.1 (cU eI o.2) (bX eI av) (Ws aM aZ) (xa cb bl))))
  (fun h1 =>
  .a0 fun o =>
  .au fun bj av =>
  .au fun aM aZ =>
  .ret (let q1:=(List.replicate (len_ eI ai).toNat 0:List Int);bw [(J 2),(J 3),.aa false,(J 4),(J 2),(J 4),.aO [7] [.cA (af 1 eI q1)] [(0,ii),(1,ii),(8,fV (q1.length)),(9,.bu (.di (.ek (([]:List Int).map eI)))),(10,ii)],(H0 ai aC bj).fc,.iO 0,.ax (bt 1 (.call {ac:=[.bu (.di (.ek (bj.2.map eI)))],r:= .isl 1 (aM.map eI),fB:=false,fI:=[0]}) 3)] (.bk h1 o.1 (Int.le_refl (len_ eI ai)) o.2.1 o.2.2 (cY 1 .live (lF eI (len_ eI ai).toNat 0)) (aK 1 .live aQ q1) (lZ (len_ eI ai).toNat (0:Int)) (.gD (kR (show []=(([]:List Int)).map eI from rfl) (eZ Int)) (k2 (show []=(([]:List Int)).map eI from rfl) (eZ Int)) (dw aQ ([]:List Int)) (Wd av) (f6 eI bj.2) (fC eI bj.2) (dw aQ bj.2) (rH aM aZ)))))
def Hx:((List Int)×(List Int))→S:=fun (c8,ey)=>dm [(5,.isl 1 (c8.map eI)),(6,.isl 1 (ey.map eI))] []
def CG:(((List Int))⊕((List Int)))→dp
 | .inl a=>⟨some 0,[(5,.isl 1 (a.map eI))],[]⟩
 | .inr a=>⟨none,[(4,.isl 1 (a.map eI))],[]⟩
def tV (c8 ey:List Int):Option (((List Int)×(List Int))⊕(((List Int))⊕((List Int)))) :=
 if (decide ((0:Int)<(len_ eI ey)))=true then
  if (decide ((len_ eI c8)<(3:Int)))=true then
   if (decide ((len_ eI ey)<(3:Int)))=true then
    xb c8 >>= fun bb =>
    xb ey >>= fun cj =>
    zw bb.1 cj.1 >>= fun c4 =>
    some (.inr (.inr c4))
   else
    sP c8 ey >>= fun bb =>
    some (.inl (ey,bb.2))
  else
   sP c8 ey >>= fun bj =>
   some (.inl (ey,bj.2))
 else
  some (.inr (.inl c8))
def I8 (c8 ey:List Int):Option (((List Int))⊕((List Int))):=iter (fun w:(List Int)×(List Int)=>tV w.1 w.2) (c8,ey)
theorem UN {c8 ey:List Int}:bz (tV c8 ey) (dQ a9 52 0 92 [1,1,1,0,0,0] (Hx (c8,ey)) (Hx) (CG)):=by
 unfold tV
 exact .ite (fun h1 =>
  .ite (fun o =>
  (let t1:List b2:=[(J 3),.aa true,.ax (ah 7 (an (.aa true) []))];
  .ite (fun ab =>
  .au fun bb az =>
  .au fun cj bg =>
  .au fun c4 cq =>
  .ret (bi (t1.append [.aa true,.ax (bt 1 (bp 1 (.dX [.n .i64 bb.1,.b bb.2]) true) 5),.ax (bt 1 (bp 1 (.dX [.n .i64 cj.1,.b cj.2]) true) 5),.ax (bt 2 (bp 2 (.isl 1 (c4.map eI)) false) 1),.aO [] [] (ba [4])]) (.bk h1 o o o o ab (Nn bb az) (DT (oZ (b7.n .i64 bb.1) (oZ (b7.b bb.2) uK))) (.bS (Nn cj bg) (DT (oZ (b7.n .i64 cj.1) (oZ (b7.b cj.2) uK))) (Wr c4 cq)))))
  (fun ab =>
  .au fun bb az =>
  .ret (bi (t1.append [.aa false,.ax (bt 2 (bp 2 (.dX [.isl 1 (bb.1.map eI),.isl 1 (bb.2.map eI)]) false) 5),(J 2),(J 2),.aO [] [] (ba [5,6])]) (.er h1 o o o o ab (CY bb az))))))
  (fun o =>
  .au fun bj av =>
  .ret (bi [(J 3),.aa true,.ax (ah 4 (cn 3 (an (.aa false) []))),.aa false,.ax (bt 2 (bp 2 (.dX [.isl 1 (bj.1.map eI),.isl 1 (bj.2.map eI)]) false) 5),(J 2),(J 2),.aO [] [] (ba [5,6])] (.er h1 o o o o cP (CY bj av)))))
  (fun h1 =>
  .ret (bi [(J 3),.aa false,.aO [] [] (ba [5])] (.e1 h1)))
theorem Ni {c8 ey:List Int}{r} (h:I8 c8 ey=some r):dR a9 52 0 92 [1,1,1,0,0,0] (Hx) (CG) (c8,ey) r:=dS (fun _=>UN) h
def xk (ai aC:List Int):Option (List Int) :=
 if (([]:List Int)++ai).length*8≤140737488355328 then
 if (([]:List Int)++aC).length*8≤140737488355328 then
 I8 (([]:List Int)++ai) (([]:List Int)++aC) >>= fun bj =>
 match bj with
 | .inl fS=>(some fS)
 | .inr fS=>(some fS)
 else none
 else none
theorem ND {ai aC:List Int}:bz (xk ai aC) (fun r=>Con a9 92 [.isl 1 (ai.map eI),.isl 1 (aC.map eI)] [] (.isl 1 (r.map eI)) []):=by
 unfold xk
 exact .a0 fun h1 =>
  .a0 fun o =>
  .au fun bj av =>
  (let q1:=(([]:List Int)++ai);let a2:=(([]:List Int)++aC);let t1:List b2:=[(J 1),.ax (bt 2 (.aJ (q1.length)) 1),.ax (bt 2 (.aJ (a2.length)) 1),.aO [] [] [(5,.bu (.di (.ek (q1.map eI)))),(6,.bu (.di (.ek (a2.map eI))))]];
  have aU:=((.bk (m7 (show []=(([]:List Int)).map eI from rfl) (eZ Int)) (lG (eZ Int) (cX eI ai):q1.length=0+(ai.map eI).length) h1 (m7 (show []=(([]:List Int)).map eI from rfl) (eZ Int)) (lG (eZ Int) (cX eI aC):a2.length=0+(aC.map eI).length) o (kR (h6 (show []=(([]:List Int)).map eI from rfl) (eZ Int) (cX eI ai)) (dJ q1)) (k2 (h6 (show []=(([]:List Int)).map eI from rfl) (eZ Int) (cX eI ai)) (dJ q1)) (.da (dw aQ q1) (kR (h6 (show []=(([]:List Int)).map eI from rfl) (eZ Int) (cX eI aC)) (dJ a2)) (k2 (h6 (show []=(([]:List Int)).map eI from rfl) (eZ Int) (cX eI aC)) (dJ a2)) (dw aQ a2))):cr _);
  (by
  rcases bj with fS|fS
  ·exact (.ret (bw (t1.append [(CG (.inl fS)).fc,(J 2)]) (aU.aJ (.e1 (Ni av)))))
  ·exact (.ret (bw (t1.append [(CG (.inr fS)).fc]) (aU.aJ (.e1 (Ni av)))))))
def nT (n2:Bool)(ai aC:List Int):Option aN :=
 pM ai >>= fun r1 =>
 pM aC >>= fun bj =>
 if ((len_ eI bj) == (0:Int))=true then
  some (⟨(⟨false,([]:List Int)⟩:bq),([]:List Int)⟩:aN)
 else
  qm bj >>= fun cj =>
  if cj=true then
   if (decide ((24:Int)<(len_ eI r1)))=true then
    some (⟨(⟨false,([]:List Int)⟩:bq),([]:List Int)⟩:aN)
   else
    if (decide ((24:Int)<(len_ eI bj)))=true then
     some (⟨(⟨false,([]:List Int)⟩:bq),([]:List Int)⟩:aN)
    else
     hM n2 r1 >>= fun c5 =>
     if (([]:List Int)++bj).length*8≤140737488355328 then
     some (⟨c5,([]:List Int)++bj⟩:aN)
     else none
  else
   xk r1 bj >>= fun cc =>
   qm cc >>= fun c5 =>
   if c5=true then
    if (decide ((24:Int)<(len_ eI r1)))=true then
     some (⟨(⟨false,([]:List Int)⟩:bq),([]:List Int)⟩:aN)
    else
     if (decide ((24:Int)<(len_ eI bj)))=true then
      some (⟨(⟨false,([]:List Int)⟩:bq),([]:List Int)⟩:aN)
     else
      hM n2 r1 >>= fun eD =>
      if (([]:List Int)++bj).length*8≤140737488355328 then
      some (⟨eD,([]:List Int)++bj⟩:aN)
      else none
   else
    sP r1 cc >>= fun gd =>
    sP bj cc >>= fun eD =>
    if (decide ((24:Int)<(len_ eI gd.1)))=true then
     some (⟨(⟨false,([]:List Int)⟩:bq),([]:List Int)⟩:aN)
    else
     if (decide ((24:Int)<(len_ eI eD.1)))=true then
      some (⟨(⟨false,([]:List Int)⟩:bq),([]:List Int)⟩:aN)
     else
      hM n2 gd.1 >>= fun kp =>
      if (([]:List Int)++eD.1).length*8≤140737488355328 then
      some (⟨kp,([]:List Int)++eD.1⟩:aN)
      else none
theorem zq {n2:Bool}{ai aC:List Int}:bz (nT n2 ai aC) (fun r=>Con a9 84 [.b n2,.isl 1 (ai.map eI),.isl 1 (aC.map eI)] [] (.agg (aP r)) []):=by
 unfold nT
 exact .au fun r1 o =>
  .au fun bj av =>
  (let t1:List b2:=[(J 1),.ax (bt 1 (bp 1 (.isl 1 (r1.map eI)) false) 1),.ax (bt 1 (bp 1 (.isl 1 (bj.map eI)) false) 1),(J 3)];
  have aU:=((.aD (rH r1 o) (rH bj av)):cr _);
  .ite (fun az =>
  .ret (bw (t1.append [.aa true,(J 2)]) (aU.aJ (.e1 az)) (.bu (.agg [.id,.jj 1,.jj 1]))))
  (fun az =>
  .au fun cj bg =>
  (let t3:List b2:=t1.append [.aa false,.ax (bt 1 (bp 1 (.b cj) true) 1)];
  have eS:=aU.aJ (.bS az (zo cj bg) (b7.b cj));
  .ite (fun bl =>
  .ite (fun cq =>
  .ret (bw (t3.append [.aa false,.ax (ah 4 (cn 3 (an (.aa true) []))),.aa true,(J 2)]) (eS.aJ (.dT (c0 bl) cq cq cq cq cB)) (.bu (.agg [.id,.jj 1,.jj 1]))))
  (fun cq =>
  (let t5:List b2:=t3.append [.aa false,.ax (ah 7 (an (.aa false) []))];
  .ite (fun cQ =>
  .ret (bw (t5.append [.aa true,(J 2)]) (eS.aJ (.dT (c0 bl) cq cq cq cq cQ)) (.bu (.agg [.id,.jj 1,.jj 1]))))
  (fun cQ =>
  .au fun c5 eV =>
  .a0 fun et =>
  .ret (let q1:=(([]:List Int)++bj);bw (t5.append [.aa false,.ax (ah 2 (an (bp 2 (.agg (aX c5)) false) (bt 2 (.aJ (q1.length)) 2)))]) (eS.aJ (.bk (c0 bl) cq cq cq cq cQ (nS c5 eV) (m7 (show []=(([]:List Int)).map eI from rfl) (eZ Int)) (.dl (lG (eZ Int) (cX eI bj):q1.length=0+(bj.map eI).length) et (kR (h6 (show []=(([]:List Int)).map eI from rfl) (eZ Int) (cX eI bj)) (dJ q1)) (k2 (h6 (show []=(([]:List Int)).map eI from rfl) (eZ Int) (cX eI bj)) (dJ q1)) (dw aQ q1)))) (.bu (.agg [.id,.id,.ek (q1.map eI)])))))))
  (fun bl =>
  .au fun cc cQ =>
  .au fun c5 eV =>
  (let t5:List b2:=t3.append [.aa true,.ax (bt 2 (bp 2 (.isl 1 (cc.map eI)) false) 1),.ax (bt 1 (bp 1 (.b c5) true) 1)];
  have kH:=eS.aJ (.da (cS bl) (ND cc cQ) (zo c5 eV) (b7.b c5));
  .ite (fun et =>
  .ite (fun eB =>
  .ret (bw (t5.append [.aa false,.ax (ah 4 (cn 3 (an (.aa true) []))),.aa true,(J 2)]) (kH.aJ (.dT (c0 et) eB eB eB eB cB)) (.bu (.agg [.id,.jj 1,.jj 1]))))
  (fun eB =>
  (let t7:List b2:=t5.append [.aa false,.ax (ah 7 (an (.aa false) []))];
  have mA:=kH.aJ (.dl (c0 et) eB eB eB eB);
  .ite (fun fR =>
  .ret (bw (t7.append [.aa true,(J 2)]) (mA.aJ (.e1 fR)) (.bu (.agg [.id,.jj 1,.jj 1]))))
  (fun fR =>
  .au fun eD hr =>
  .a0 fun hs =>
  .ret (let a2:=(([]:List Int)++bj);bw (t7.append [.aa false,.ax (ah 2 (an (bp 2 (.agg (aX eD)) false) (bt 2 (.aJ (a2.length)) 2)))]) (mA.aJ (.gD fR (nS eD hr) (m7 (show []=(([]:List Int)).map eI from rfl) (eZ Int)) (lG (eZ Int) (cX eI bj):a2.length=0+(bj.map eI).length) hs (kR (h6 (show []=(([]:List Int)).map eI from rfl) (eZ Int) (cX eI bj)) (dJ a2)) (k2 (h6 (show []=(([]:List Int)).map eI from rfl) (eZ Int) (cX eI bj)) (dJ a2)) (dw aQ a2))) (.bu (.agg [.id,.id,.ek (a2.map eI)])))))))
  (fun et =>
  .au fun gd fR =>
  .au fun eD hr =>
  (let t7:List b2:=t5.append [.aa true,.ax (bt 2 (bp 2 (.dX [.isl 1 (gd.1.map eI),.isl 1 (gd.2.map eI)]) false) 4),.ax (bt 2 (bp 2 (.dX [.isl 1 (eD.1.map eI),.isl 1 (eD.2.map eI)]) false) 4)];
  have mA:=kH.aJ (.bS (cS et) (CY gd fR) (CY eD hr));
  .ite (fun hs =>
  .ret (bw (t7.append [.ax (ah 4 (cn 3 (an (.aa true) []))),.aa true,(J 2)]) (mA.aJ (.dl hs hs hs hs cB)) (.bu (.agg [.id,.jj 1,.jj 1]))))
  (fun hs =>
  (let t9:List b2:=t7.append [.ax (ah 7 (an (.aa false) []))];
  .ite (fun gz =>
  .ret (bw (t9.append [.aa true,(J 2)]) (mA.aJ (.dl hs hs hs hs gz)) (.bu (.agg [.id,.jj 1,.jj 1]))))
  (fun gz =>
  .au fun kp gY =>
  .a0 fun jw =>
  .ret (let bO:=(([]:List Int)++eD.1);let b4:=cX eI eD.1;bw (t9.append [.aa false,.ax (ah 2 (an (bp 2 (.agg (aX kp)) false) (bt 2 (.aJ (bO.length)) 2)))]) (mA.aJ (.bk hs hs hs hs gz (nS kp gY) (m7 (show []=(([]:List Int)).map eI from rfl) (eZ Int)) (lG (eZ Int) b4:bO.length=0+(eD.1.map eI).length) (.da jw (kR (h6 (show []=(([]:List Int)).map eI from rfl) (eZ Int) b4) (dJ bO)) (k2 (h6 (show []=(([]:List Int)).map eI from rfl) (eZ Int) b4) (dJ bO)) (dw aQ bO)))) (.bu (.agg [.id,.id,.ek (bO.map eI)])))))))))))))
def q8 (bW aL:aN):Option aN :=
 qm bW.hq >>= fun r1 =>
 if r1=true then
  qm aL.hq >>= fun bb =>
  if bb=true then
   pP bW.fp aL.fp >>= fun cb =>
   nT cb.cN cb.cC ([1]:List Int) >>= fun cc =>
   some cc
  else
   hI bW.fp.cC aL.hq >>= fun cb =>
   hM bW.fp.cN cb >>= fun cc =>
   hI aL.fp.cC bW.hq >>= fun c5 =>
   hM aL.fp.cN c5 >>= fun eC =>
   pP cc eC >>= fun gA =>
   hI bW.hq aL.hq >>= fun gm =>
   nT gA.cN gA.cC gm >>= fun oP =>
   some oP
 else
  hI bW.fp.cC aL.hq >>= fun bb =>
  hM bW.fp.cN bb >>= fun cj =>
  hI aL.fp.cC bW.hq >>= fun c4 =>
  hM aL.fp.cN c4 >>= fun eg =>
  pP cj eg >>= fun ec =>
  hI bW.hq aL.hq >>= fun gd =>
  nT ec.cN ec.cC gd >>= fun eD =>
  some eD
theorem CZ {bW aL:aN}:bz (q8 bW aL) (fun r=>Con a9 54 [.agg (aP bW),.agg (aP aL)] [] (.agg (aP r)) []):=by
 unfold q8
 exact .au fun r1 o =>
  (have af:=((.aD (zo r1 o) (b7.b r1)):cr _);
  .ite (fun ab =>
  .au fun bb az =>
  (let t2:List b2:=[(J 3),.ax (ah 2 (an (bp 1 (.b r1) true) (ah 3 (an (bp 1 (.b bb) true) (an (.aa true) [])))))];
  have fE:=af.aJ (.dT ab ab ab (zo bb az) (b7.b bb) ab);
  .ite (fun aZ =>
  .au fun cb bl =>
  .au fun cc cQ =>
  .ret (bw (t2.append [.aa true,.ax (bt 4 (bp 2 (.agg (aX cb)) false) 2),.ax (bt 5 (.sw 22 (.call {ac:=[ii,ii,.bu (.di (.ek (([1]:List Int).map eI)))],r:= .agg (aP cc),fB:=false,fI:=[22]})) 1)]) (fE.aJ (.dT aZ (I5 cb bl) (kR (show [[.n .i64 (1:Int)]]=(([1]:List Int)).map eI from rfl) (show 1=([1]:List Int).length from rfl)) (gv eI 1) (dw aQ ([1]:List Int)) (zq cc cQ)))))
  (fun aZ =>
  .au fun cb bl =>
  .au fun cc cQ =>
  .au fun c5 eV =>
  .au fun eC eB =>
  .au fun gA hS =>
  .au fun gm hs =>
  .au fun oP fk =>
  .ret (bw (t2.append [.aa false,.ax (ah 8 (an (bp 2 (.isl 1 (cb.map eI)) false) (an (bp 2 (.agg (aX cc)) false) (ah 2 [])))),.ax (ah 8 (an (bp 2 (.isl 1 (c5.map eI)) false) (an (bp 2 (.agg (aX eC)) false) (ah 2 [])))),.ax (bt 2 (bp 2 (.agg (aX gA)) false) 2),.ax (ah 8 (an (bp 2 (.isl 1 (gm.map eI)) false) (an (bp 3 (.agg (aP oP)) false) (ah 1 []))))]) (fE.aJ (.gD aZ (oX cb bl) (nS cc cQ) (oX c5 eV) (nS eC eB) (I5 gA hS) (oX gm hs) (zq oP fk)))))))
  (fun ab =>
  .au fun bb az =>
  .au fun cj bg =>
  .au fun c4 cq =>
  .au fun eg fa =>
  .au fun ec et =>
  .au fun gd fR =>
  .au fun eD hr =>
  .ret (bw [(J 3),.ax (ah 2 (an (bp 1 (.b r1) true) (ah 1 (cn 3 (an (.aa false) []))))),.aa false,.ax (ah 8 (an (bp 2 (.isl 1 (bb.map eI)) false) (an (bp 2 (.agg (aX cj)) false) (ah 2 [])))),.ax (ah 8 (an (bp 2 (.isl 1 (c4.map eI)) false) (an (bp 2 (.agg (aX eg)) false) (ah 2 [])))),.ax (bt 2 (bp 2 (.agg (aX ec)) false) 2),.ax (ah 8 (an (bp 2 (.isl 1 (gd.map eI)) false) (an (bp 3 (.agg (aP eD)) false) (ah 1 []))))] (af.aJ (.bk ab ab ab ab cP (oX bb az) (nS cj bg) (oX c4 cq) (.da (nS eg fa) (I5 ec et) (oX gd fR) (zq eD hr)))))))
end Go.Proofs.YtamedijmgkdlgabGreat
namespace Go.Proofs.YtamedijmgkdlgabGreat
set_option linter.unusedVariables false
set_option linter.unusedSimpArgs false
open Go Go.VL
def F5 (aG aE:Int)(br c6 c9:List Int)(bK:Int):(Int×(List aN))→S:=fun (bT,aA)=>dm [(1,.ref 0 0 0 0),(3,.ref 1 0 0 0),(4,.n .i64 bT)] [[ae.mk 5 [[.n .i64 aG,.n .i64 aE,.isl 1 (br.map eI),.isl 1 (c6.map eI),.isl 1 (c9.map eI)]] .live],[ae.mk 4 [[.n .i64 bK,.eo,.eo,.bm 2 0 0 aA.length]] .live],(af 3 aP aA)]
def Gq (aG aE:Int)(br c6 c9:List Int)(bK:Int):(List aN)→dp
 | a=>⟨some 0,[(1,.ref 0 0 0 0),(3,.ref 1 0 0 0)],[[ae.mk 5 [[.n .i64 aG,.n .i64 aE,.isl 1 (br.map eI),.isl 1 (c6.map eI),.isl 1 (c9.map eI)]] .live],[ae.mk 4 [[.n .i64 bK,.eo,.eo,.bm 2 0 0 a.length]] .live],(af 3 aP a)]⟩
def we (aG aE:Int)(br c6 c9:List Int)(bK bT:Int)(aA:List aN):Option ((Int×(List aN))⊕((List aN))) :=
 if (decide (bT≤bK))=true then
  oW 0 >>= fun b1 =>
  if (aA++([b1]:List aN)).length*56≤140737488355328 then
  some (.inl (R (bT+(1:Int)),aA++([b1]:List aN)))
  else none
 else
  some (.inr aA)
def H2 (aG aE:Int)(br c6 c9:List Int)(bK bT:Int)(aA:List aN):Option ((List aN)):=iter (fun w:Int×(List aN)=>we aG aE br c6 c9 bK w.1 w.2) (bT,aA)
theorem TH {aG aE:Int}{br c6 c9:List Int}{bK bT:Int}{aA:List aN}:bz (we aG aE br c6 c9 bK bT aA) (dQ a9 152 0 36 [1,1,0,1,0,0] (F5 aG aE br c6 c9 bK (bT,aA)) (F5 aG aE br c6 c9 bK) (Gq aG aE br c6 c9 bK)):=by
 unfold we
 exact .ite (fun h1 =>
  .au fun b1 ab =>
  .a0 fun av =>
  .ret (let q1:=(aA++([b1]:List aN));bi [(J 6),.aa true,.ax (ah 5 (an (bp 1 (.agg (aP b1)) false) (bt 1 (.aJ (q1.length)) 3))),(J 3),.aO [0,1,16] [.box [.id,.id,.id,.id,.id],.box [.id,.id,.id,.id],.cA (af 3 aP q1)] (ba [1,3,4])] (.gD h1 (rG b1 ab) (gv aP b1) (gO aP aA) (gw aP aA b1) av (cY 3 .live (gS aP aA b1)) (aK 3 .live eP q1))))
  (fun h1 =>
  .ret (bi [(J 6),.aa false,.aO [0,1,2] [.box [.id,.id,.id,.id,.id],.box [.id,.id,.id,.id],.pure] (ba [1,3])] (.aD h1 (aK 3 .live eP aA))))
theorem U9 {aG aE:Int}{br c6 c9:List Int}{bK bT:Int}{aA:List aN}{r} (h:H2 aG aE br c6 c9 bK bT aA=some r):dR a9 152 0 36 [1,1,0,1,0,0] (F5 aG aE br c6 c9 bK) (Gq aG aE br c6 c9 bK) (bT,aA) r:=dS (fun _=>TH) h
def F6 (ag:Int)(d5:List Int)(fj aG aE:Int)(br c6 c9:List Int)(bK:Int)(aj:List bx)(eQ:List (List aN))(bE:List Int)(eX:List aN):(Int×(List aN))→S:=fun (gy,aA)=>dm [(1,.ref 0 0 0 0),(3,.ref 1 0 0 0),(5,.n .i64 ag),(6,.n .i64 (-1:Int)),(7,.bm 2 0 0 aA.length),(53,.isl 1 (d5.map eI)),(54,.n .i64 fj),(55,.n .i64 gy)] [[ae.mk 5 [[.n .i64 aG,.n .i64 aE,.isl 1 (br.map eI),.isl 1 (c6.map eI),.isl 1 (c9.map eI)]] .live],[ae.mk 4 [(gu bK 3 0 0 aj.length 5 0 0 bE.length 6 0 0 eX.length)] .live],(af 3 aP aA),(af 1 (bn 4 0 3) aj),(ca 3 aP eQ),(af 1 eI bE),(af 3 aP eX)]
def Gr (ag:Int)(d5:List Int)(fj aG aE:Int)(br c6 c9:List Int)(bK:Int)(aj:List bx)(eQ:List (List aN))(bE:List Int)(eX:List aN):(List aN)→dp
 | a=>⟨some 4,[(1,.ref 0 0 0 0),(3,.ref 1 0 0 0),(5,.n .i64 ag),(6,.n .i64 (-1:Int)),(7,.bm 2 0 0 a.length)],[[ae.mk 5 [[.n .i64 aG,.n .i64 aE,.isl 1 (br.map eI),.isl 1 (c6.map eI),.isl 1 (c9.map eI)]] .live],[ae.mk 4 [(gu bK 3 0 0 aj.length 5 0 0 bE.length 6 0 0 eX.length)] .live],(af 3 aP a),(af 1 (bn 4 0 3) aj),(ca 3 aP eQ),(af 1 eI bE),(af 3 aP eX)]⟩
def wg (ag:Int)(d5:List Int)(fj aG aE:Int)(br c6 c9:List Int)(bK:Int)(aj:List bx)(eQ:List (List aN))(bE:List Int)(eX:List aN)(gy:Int)(aA:List aN):Option ((Int×(List aN))⊕((List aN))) :=
 if (decide (gy<fj))=true then
  if 0≤gy∧gy<d5.length then
  d5[gy.toNat]? >>= fun aI =>
  oW (R ((-1:Int)*aI)) >>= fun aM =>
  if (aA++([aM]:List aN)).length*56≤140737488355328 then
  some (.inl (R (gy+(1:Int)),aA++([aM]:List aN)))
  else none
  else none
 else
  some (.inr aA)
def CH (ag:Int)(d5:List Int)(fj aG aE:Int)(br c6 c9:List Int)(bK:Int)(aj:List bx)(eQ:List (List aN))(bE:List Int)(eX:List aN)(gy:Int)(aA:List aN):Option ((List aN)):=iter (fun w:Int×(List aN)=>wg ag d5 fj aG aE br c6 c9 bK aj eQ bE eX w.1 w.2) (gy,aA)
theorem TI {ag:Int}{d5:List Int}{fj aG aE:Int}{br c6 c9:List Int}{bK:Int}{aj:List bx}{eQ:List (List aN)}{bE:List Int}{eX:List aN}{gy:Int}{aA:List aN}:bz (wg ag d5 fj aG aE br c6 c9 bK aj eQ bE eX gy aA) (dQ a9 152 0 36 [1,1,1,0,1,0,0,1,0,0,1,1,1,0,1,0,0] (F6 ag d5 fj aG aE br c6 c9 bK aj eQ bE eX (gy,aA)) (F6 ag d5 fj aG aE br c6 c9 bK aj eQ bE eX) (Gr ag d5 fj aG aE br c6 c9 bK aj eQ bE eX)):=by
 unfold wg
 exact .ite (fun h1 =>
  .a0 fun o =>
  .au fun aI av =>
  .au fun aM aZ =>
  .a0 fun bg =>
  .ret (let q1:=(aA++([aM]:List aN));let a2:=cH [0,1,17,3,4,5,6];bi [(J 1),.aa true,.ax (bt 1 (.b9 (eI aI)) 1),.ax (ah 4 (an (bp 1 (.agg (aP aM)) false) (bt 1 (.aJ (q1.length)) 1))),(J 2),.aO [0,1,17,3,4,5,6] [.box [.id,.id,.id,.id,.id],.box [.id,.id,.id,.id],.cA (af 3 aP q1),.bG (af 1 (bn 4 0 3) aj),.bG (ca 3 aP eQ),.pure,.pure] (ba [1,3,5,6,7,53,54,55])] (.bk h1 o.1 (cU eI o.2) (bX eI av) (rG aM aZ) (gv aP aM) (gO aP aA) (gw aP aA aM) (.er bg (cY 3 .live (gS aP aA aM)) (aK 3 .live eP q1) (ez a2 4 4 0 3 rfl aj) (dD a2 3 fh eQ) (aK 1 .live aQ bE) (aK 3 .live eP eX)))))
  (fun h1 =>
  .ret (let bO:=cH [0,1,2,3,4,5,6];bi [(J 1),.aa false,.aO [0,1,2,3,4,5,6] [.box [.id,.id,.id,.id,.id],.box [.id,.id,.id,.id],.pure,.bG (af 1 (bn 4 0 3) aj),.bG (ca 3 aP eQ),.pure,.pure] (ba [1,3,5,6,7])] (.dT h1 (aK 3 .live eP aA) (ez bO 4 4 0 3 rfl aj) (dD bO 3 fh eQ) (aK 1 .live aQ bE) (aK 3 .live eP eX))))
theorem Va {ag:Int}{d5:List Int}{fj aG aE:Int}{br c6 c9:List Int}{bK:Int}{aj:List bx}{eQ:List (List aN)}{bE:List Int}{eX:List aN}{gy:Int}{aA:List aN}{r} (h:CH ag d5 fj aG aE br c6 c9 bK aj eQ bE eX gy aA=some r):dR a9 152 0 36 [1,1,1,0,1,0,0,1,0,0,1,1,1,0,1,0,0] (F6 ag d5 fj aG aE br c6 c9 bK aj eQ bE eX) (Gr ag d5 fj aG aE br c6 c9 bK aj eQ bE eX) (gy,aA) r:=dS (fun _=>TI) h
def F7 (ag aG aE:Int)(br c6 c9:List Int)(bK:Int)(aj:List bx)(eQ:List (List aN))(bE:List Int)(eX:List aN):(Int×(List aN))→S:=fun (bs,aA)=>dm [(1,.ref 0 0 0 0),(3,.ref 1 0 0 0),(5,.n .i64 ag),(6,.n .i64 (-1:Int)),(7,.bm 2 0 0 aA.length),(10,.n .i64 bs)] [[ae.mk 5 [[.n .i64 aG,.n .i64 aE,.isl 1 (br.map eI),.isl 1 (c6.map eI),.isl 1 (c9.map eI)]] .live],[ae.mk 4 [(gu bK 3 0 0 aj.length 5 0 0 bE.length 6 0 0 eX.length)] .live],(af 3 aP aA),(af 1 (bn 4 0 3) aj),(ca 3 aP eQ),(af 1 eI bE),(af 3 aP eX)]
def Gs (ag aG aE:Int)(br c6 c9:List Int)(bK:Int)(aj:List bx)(eQ:List (List aN))(bE:List Int)(eX:List aN):(List aN)→dp
 | a=>⟨some 6,[(1,.ref 0 0 0 0),(3,.ref 1 0 0 0),(5,.n .i64 ag),(6,.n .i64 (-1:Int)),(7,.bm 2 0 0 a.length)],[[ae.mk 5 [[.n .i64 aG,.n .i64 aE,.isl 1 (br.map eI),.isl 1 (c6.map eI),.isl 1 (c9.map eI)]] .live],[ae.mk 4 [(gu bK 3 0 0 aj.length 5 0 0 bE.length 6 0 0 eX.length)] .live],(af 3 aP a),(af 1 (bn 4 0 3) aj),(ca 3 aP eQ),(af 1 eI bE),(af 3 aP eX)]⟩
def wh (ag aG aE:Int)(br c6 c9:List Int)(bK:Int)(aj:List bx)(eQ:List (List aN))(bE:List Int)(eX:List aN)(bs:Int)(aA:List aN):Option ((Int×(List aN))⊕((List aN))) :=
 if (decide (bs<aG))=true then
  if (bs == ag)=true then
   oW 1 >>= fun bj =>
   if (aA++([bj]:List aN)).length*56≤140737488355328 then
   some (.inl (R (bs+(1:Int)),aA++([bj]:List aN)))
   else none
  else
   oW 0 >>= fun bj =>
   if (aA++([bj]:List aN)).length*56≤140737488355328 then
   some (.inl (R (bs+(1:Int)),aA++([bj]:List aN)))
   else none
 else
  some (.inr aA)
def CI (ag aG aE:Int)(br c6 c9:List Int)(bK:Int)(aj:List bx)(eQ:List (List aN))(bE:List Int)(eX:List aN)(bs:Int)(aA:List aN):Option ((List aN)):=iter (fun w:Int×(List aN)=>wh ag aG aE br c6 c9 bK aj eQ bE eX w.1 w.2) (bs,aA)
theorem TJ {ag aG aE:Int}{br c6 c9:List Int}{bK:Int}{aj:List bx}{eQ:List (List aN)}{bE:List Int}{eX:List aN}{bs:Int}{aA:List aN}:bz (wh ag aG aE br c6 c9 bK aj eQ bE eX bs aA) (dQ a9 152 0 36 [1,1,1,0,1,0,0,1,0,0,1,1,1,1,0,1,0,0] (F7 ag aG aE br c6 c9 bK aj eQ bE eX (bs,aA)) (F7 ag aG aE br c6 c9 bK aj eQ bE eX) (Gs ag aG aE br c6 c9 bK aj eQ bE eX)):=by
 unfold wh
 exact .ite (fun h1 =>
  (let t1:List b2:=[(J 4),.aa true,(J 1),(J 3)];
  .ite (fun o =>
  .au fun bj av =>
  .a0 fun az =>
  .ret (let q1:=(aA++([bj]:List aN));let a2:=cH [0,1,20,3,4,5,6];bi (t1.append [.aa true,(J 1),.ax (ah 2 (an (bp 1 (.agg (aP bj)) false) (bt 1 (.aJ (q1.length)) 1))),(J 3),.aO [0,1,20,3,4,5,6] [.box [.id,.id,.id,.id,.id],.box [.id,.id,.id,.id],.cA (af 3 aP q1),.bG (af 1 (bn 4 0 3) aj),.bG (ca 3 aP eQ),.pure,.pure] (ba [1,3,5,6,7,10])]) (.bk h1 o (rG bj av) (gv aP bj) (gO aP aA) (gw aP aA bj) az (cY 3 .live (gS aP aA bj)) (.dl (aK 3 .live eP q1) (ez a2 4 4 0 3 rfl aj) (dD a2 3 fh eQ) (aK 1 .live aQ bE) (aK 3 .live eP eX)))))
  (fun o =>
  .au fun bj av =>
  .a0 fun az =>
  .ret (let bO:=(aA++([bj]:List aN));let b4:=cH [0,1,19,3,4,5,6];bi (t1.append [.aa false,.ax (ah 2 (an (bp 1 (.agg (aP bj)) false) (bt 1 (.aJ (bO.length)) 1))),(J 3),.aO [0,1,19,3,4,5,6] [.box [.id,.id,.id,.id,.id],.box [.id,.id,.id,.id],.cA (af 3 aP bO),.bG (af 1 (bn 4 0 3) aj),.bG (ca 3 aP eQ),.pure,.pure] (ba [1,3,5,6,7,10])]) (.bk h1 o (rG bj av) (gv aP bj) (gO aP aA) (gw aP aA bj) az (cY 3 .live (gS aP aA bj)) (.dl (aK 3 .live eP bO) (ez b4 4 4 0 3 rfl aj) (dD b4 3 fh eQ) (aK 1 .live aQ bE) (aK 3 .live eP eX)))))))
  (fun h1 =>
  .ret (let cJ:=cH [0,1,2,3,4,5,6];bi [(J 4),.aa false,.aO [0,1,2,3,4,5,6] [.box [.id,.id,.id,.id,.id],.box [.id,.id,.id,.id],.pure,.bG (af 1 (bn 4 0 3) aj),.bG (ca 3 aP eQ),.pure,.pure] (ba [1,3,5,6,7])] (.dT h1 (aK 3 .live eP aA) (ez cJ 4 4 0 3 rfl aj) (dD cJ 3 fh eQ) (aK 1 .live aQ bE) (aK 3 .live eP eX))))
theorem Vb {ag aG aE:Int}{br c6 c9:List Int}{bK:Int}{aj:List bx}{eQ:List (List aN)}{bE:List Int}{eX:List aN}{bs:Int}{aA:List aN}{r} (h:CI ag aG aE br c6 c9 bK aj eQ bE eX bs aA=some r):dR a9 152 0 36 [1,1,1,0,1,0,0,1,0,0,1,1,1,1,0,1,0,0] (F7 ag aG aE br c6 c9 bK aj eQ bE eX) (Gs ag aG aE br c6 c9 bK aj eQ bE eX) (bs,aA) r:=dS (fun _=>TJ) h
def F8 (ag:Int)(ga ei:Nat)(oB aG aE:Int)(br c6 c9:List Int)(bK:Int)(a6:List (List aN))(aj:List bx)(aH:List Int):(Int×(List aN))→S:=fun (hJ,bE)=>dm [(1,.ref 0 0 0 0),(3,.ref 1 0 0 0),(5,.n .i64 ag),(7,.bm 2 (ga+0) 0 ei),(93,.n .i64 oB),(94,.n .i64 hJ)] [[ae.mk 5 [[.n .i64 aG,.n .i64 aE,.isl 1 (br.map eI),.isl 1 (c6.map eI),.isl 1 (c9.map eI)]] .live],[ae.mk 4 [(gu bK 3 0 0 aj.length 4 0 0 aH.length 5 0 0 bE.length)] .live],(ca 3 aP a6),(af 1 (bn 2 0 3) aj),(af 1 eI aH),(af 3 aP bE)]
def Cz (ag:Int)(ga ei:Nat)(oB aG aE:Int)(br c6 c9:List Int)(bK:Int)(a6:List (List aN))(aj:List bx)(aH:List Int):(List aN)→dp
 | a=>⟨some 8,[(1,.ref 0 0 0 0),(3,.ref 1 0 0 0),(5,.n .i64 ag),(7,.bm 2 (ga+0) 0 ei)],[[ae.mk 5 [[.n .i64 aG,.n .i64 aE,.isl 1 (br.map eI),.isl 1 (c6.map eI),.isl 1 (c9.map eI)]] .live],[ae.mk 4 [(gu bK 3 0 0 aj.length 4 0 0 aH.length 5 0 0 a.length)] .live],(ca 3 aP a6),(af 1 (bn 2 0 3) aj),(af 1 eI aH),(af 3 aP a)]⟩
def wi (ag:Int)(ga ei:Nat)(oB aG aE:Int)(br c6 c9:List Int)(bK:Int)(a6:List (List aN))(aj:List bx)(aH:List Int)(hJ:Int)(bE:List aN):Option ((Int×(List aN))⊕((List aN))) :=
 if (decide (hJ<oB))=true then
  if (decide (hJ<aE))=true then
   if 0≤hJ∧hJ<(bE.length:Nat) then
   bE[(0+hJ.toNat)]? >>= fun gf =>
   a6[ga]? >>= fun m1 =>
   if 0≤hJ∧hJ<(ei:Nat) then
   m1[(0+hJ.toNat)]? >>= fun ew =>
   q8 gf ew >>= fun c5 =>
   if (0+hJ.toNat)<bE.length then
   some (.inl (R (hJ+(1:Int)),bE.set (0+hJ.toNat) c5))
   else none
   else none
   else none
  else
   if (hJ == bK)=true then
    if 0≤hJ∧hJ<(bE.length:Nat) then
    bE[(0+hJ.toNat)]? >>= fun kt =>
    a6[ga]? >>= fun iB =>
    if 0≤hJ∧hJ<(ei:Nat) then
    iB[(0+hJ.toNat)]? >>= fun iP =>
    q8 kt iP >>= fun ec =>
    if (0+hJ.toNat)<bE.length then
    some (.inl (R (hJ+(1:Int)),bE.set (0+hJ.toNat) ec))
    else none
    else none
    else none
   else
    some (.inl (R (hJ+(1:Int)),bE))
 else
  some (.inr bE)
def y9 (ag:Int)(ga ei:Nat)(oB aG aE:Int)(br c6 c9:List Int)(bK:Int)(a6:List (List aN))(aj:List bx)(aH:List Int)(hJ:Int)(bE:List aN):Option ((List aN)):=iter (fun w:Int×(List aN)=>wi ag ga ei oB aG aE br c6 c9 bK a6 aj aH w.1 w.2) (hJ,bE)
theorem TK {ag:Int}{ga ei:Nat}{oB aG aE:Int}{br c6 c9:List Int}{bK:Int}{a6:List (List aN)}{aj:List bx}{aH:List Int}{hJ:Int}{bE:List aN}:bz (wi ag ga ei oB aG aE br c6 c9 bK a6 aj aH hJ bE) (dQ a9 152 0 36 [1,1,1,0,1,0,0,1,0,0,1,1,1,1,1,1,0,1,0,0] (F8 ag ga ei oB aG aE br c6 c9 bK a6 aj aH (hJ,bE)) (F8 ag ga ei oB aG aE br c6 c9 bK a6 aj aH) (Cz ag ga ei oB aG aE br c6 c9 bK a6 aj aH)):=by
 unfold wi
 exact .ite (fun h1 =>
  (let t1:List b2:=[(J 1),.aa true,(J 2)];
  .ite (fun o =>
  .a0 fun ab =>
  .au fun gf az =>
  .au fun m1 bg =>
  .a0 fun bl =>
  .au fun ew cQ =>
  .au fun c5 eV =>
  .a0 fun et =>
  .ret (let q1:=jX (gg .live 3 aP a6) i5 bg;let a2:=cH [0,1,2,3,4,5];bi (t1.append [.ax (ah 5 (cn 6 (an (.aa true) []))),.aa true,.ax (ah 11 (an (.b9 (aP gf)) (ah 2 (an (.gh (ae.mk 3 (m1.map aP) .live) []) (an (.gh (ae.mk 3 (m1.map aP) .live) (aP ew)) (an (bp 2 (.agg (aP c5)) false) (ah 1 (an .fP [])))))))),(J 2),.aO [0,1,2,3,4,5] [.box [.id,.id,.id,.id,.id],.box [.id,.id,.id,.len ((bE.set (0+hJ.toNat) c5).length)],.bG (ca 3 aP a6),.bG (af 1 (bn 2 0 3) aj),.pure,.cA (af 3 aP (bE.set (0+hJ.toNat) c5))] (ba [1,3,5,7,93,94])]) (.bk h1 o o o o o o o (.bk cB ab.1 ab.2 (bX aP az) q1 bl.1 bl.2 q1 (.bk (bX aP cQ) (CZ c5 eV) ab.1 ab.2 (hE aP et) (hz 3) (hU (dJ bE) (0+hJ.toNat) c5) (dD a2 3 fh a6) (.da (ez a2 2 2 0 3 rfl aj) (aK 1 .live aQ aH) (cY 3 .live (gI (cX aP bE) (0+hJ.toNat) c5)) (aK 3 .live eP (bE.set (0+hJ.toNat) c5))))))))
  (fun o =>
  (let t2:List b2:=t1.append [.ax (ah 11 (an (.aa false) []))];
  .ite (fun ab =>
  .a0 fun av =>
  .au fun kt aZ =>
  .au fun iB bl =>
  .a0 fun cq =>
  .au fun iP fa =>
  .au fun ec et =>
  .a0 fun eB =>
  .ret (let bO:=jX (gg .live 3 aP a6) i5 bl;let b4:=cH [0,1,2,3,4,5];bi (t2.append [.aa true,.ax (ah 11 (an (.b9 (aP kt)) (ah 2 (an (.gh (ae.mk 3 (iB.map aP) .live) []) (an (.gh (ae.mk 3 (iB.map aP) .live) (aP iP)) (an (bp 2 (.agg (aP ec)) false) (ah 1 (an .fP [])))))))),(J 2),.aO [0,1,2,3,4,5] [.box [.id,.id,.id,.id,.id],.box [.id,.id,.id,.len ((bE.set (0+hJ.toNat) ec).length)],.bG (ca 3 aP a6),.bG (af 1 (bn 2 0 3) aj),.pure,.cA (af 3 aP (bE.set (0+hJ.toNat) ec))] (ba [1,3,5,7,93,94])]) (.bk h1 o o o o o o o (.bk ab av.1 av.2 (bX aP aZ) bO cq.1 cq.2 bO (.bk (bX aP fa) (CZ ec et) av.1 av.2 (hE aP eB) (hz 3) (hU (dJ bE) (0+hJ.toNat) ec) (dD b4 3 fh a6) (.da (ez b4 2 2 0 3 rfl aj) (aK 1 .live aQ aH) (cY 3 .live (gI (cX aP bE) (0+hJ.toNat) ec)) (aK 3 .live eP (bE.set (0+hJ.toNat) ec))))))))
  (fun ab =>
  .ret (let cJ:=cH [0,1,2,3,4,5];bi (t2.append [.aa false,(J 2),.aO [0,1,2,3,4,5] [.box [.id,.id,.id,.id,.id],.box [.id,.id,.id,.id],.bG (ca 3 aP a6),.bG (af 1 (bn 2 0 3) aj),.pure,.pure] (ba [1,3,5,7,93,94])]) (.bk h1 o o o o o o o (.dl ab (dD cJ 3 fh a6) (ez cJ 2 2 0 3 rfl aj) (aK 1 .live aQ aH) (aK 3 .live eP bE)))))))))
  (fun h1 =>
  .ret (let d9:=cH [0,1,2,3,4,5];bi [(J 1),.aa false,.aO [0,1,2,3,4,5] [.box [.id,.id,.id,.id,.id],.box [.id,.id,.id,.id],.bG (ca 3 aP a6),.bG (af 1 (bn 2 0 3) aj),.pure,.pure] (ba [1,3,5,7])] (.dl h1 (dD d9 3 fh a6) (ez d9 2 2 0 3 rfl aj) (aK 1 .live aQ aH) (aK 3 .live eP bE))))
theorem MM {ag:Int}{ga ei:Nat}{oB aG aE:Int}{br c6 c9:List Int}{bK:Int}{a6:List (List aN)}{aj:List bx}{aH:List Int}{hJ:Int}{bE:List aN}{r} (h:y9 ag ga ei oB aG aE br c6 c9 bK a6 aj aH hJ bE=some r):dR a9 152 0 36 [1,1,1,0,1,0,0,1,0,0,1,1,1,1,1,1,0,1,0,0] (F8 ag ga ei oB aG aE br c6 c9 bK a6 aj aH) (Cz ag ga ei oB aG aE br c6 c9 bK a6 aj aH) (hJ,bE) r:=dS (fun _=>TK) h
def FT (ag:Int)(d5:List Int)(fj aG aE:Int)(br c6 c9:List Int)(bK:Int)(aj:List bx)(eQ:List (List aN))(bE:List Int)(eX:List aN):(Int×(List aN))→S:=fun (gy,aA)=>dm [(1,.ref 0 0 0 0),(3,.ref 1 0 0 0),(5,.n .i64 ag),(6,.n .i64 (1:Int)),(7,.bm 2 0 0 aA.length),(53,.isl 1 (d5.map eI)),(54,.n .i64 fj),(55,.n .i64 gy)] [[ae.mk 5 [[.n .i64 aG,.n .i64 aE,.isl 1 (br.map eI),.isl 1 (c6.map eI),.isl 1 (c9.map eI)]] .live],[ae.mk 4 [(gu bK 3 0 0 aj.length 5 0 0 bE.length 6 0 0 eX.length)] .live],(af 3 aP aA),(af 1 (bn 4 0 3) aj),(ca 3 aP eQ),(af 1 eI bE),(af 3 aP eX)]
def F9 (ag:Int)(d5:List Int)(fj aG aE:Int)(br c6 c9:List Int)(bK:Int)(aj:List bx)(eQ:List (List aN))(bE:List Int)(eX:List aN):(List aN)→dp
 | a=>⟨some 4,[(1,.ref 0 0 0 0),(3,.ref 1 0 0 0),(5,.n .i64 ag),(6,.n .i64 (1:Int)),(7,.bm 2 0 0 a.length)],[[ae.mk 5 [[.n .i64 aG,.n .i64 aE,.isl 1 (br.map eI),.isl 1 (c6.map eI),.isl 1 (c9.map eI)]] .live],[ae.mk 4 [(gu bK 3 0 0 aj.length 5 0 0 bE.length 6 0 0 eX.length)] .live],(af 3 aP a),(af 1 (bn 4 0 3) aj),(ca 3 aP eQ),(af 1 eI bE),(af 3 aP eX)]⟩
def vZ (ag:Int)(d5:List Int)(fj aG aE:Int)(br c6 c9:List Int)(bK:Int)(aj:List bx)(eQ:List (List aN))(bE:List Int)(eX:List aN)(gy:Int)(aA:List aN):Option ((Int×(List aN))⊕((List aN))) :=
 if (decide (gy<fj))=true then
  if 0≤gy∧gy<d5.length then
  d5[gy.toNat]? >>= fun aI =>
  oW (R ((1:Int)*aI)) >>= fun aM =>
  if (aA++([aM]:List aN)).length*56≤140737488355328 then
  some (.inl (R (gy+(1:Int)),aA++([aM]:List aN)))
  else none
  else none
 else
  some (.inr aA)
def CC (ag:Int)(d5:List Int)(fj aG aE:Int)(br c6 c9:List Int)(bK:Int)(aj:List bx)(eQ:List (List aN))(bE:List Int)(eX:List aN)(gy:Int)(aA:List aN):Option ((List aN)):=iter (fun w:Int×(List aN)=>vZ ag d5 fj aG aE br c6 c9 bK aj eQ bE eX w.1 w.2) (gy,aA)
theorem Tx {ag:Int}{d5:List Int}{fj aG aE:Int}{br c6 c9:List Int}{bK:Int}{aj:List bx}{eQ:List (List aN)}{bE:List Int}{eX:List aN}{gy:Int}{aA:List aN}:bz (vZ ag d5 fj aG aE br c6 c9 bK aj eQ bE eX gy aA) (dQ a9 152 0 36 [1,1,1,0,1,0,0,1,0,0,1,1,1,0,1,0,0] (FT ag d5 fj aG aE br c6 c9 bK aj eQ bE eX (gy,aA)) (FT ag d5 fj aG aE br c6 c9 bK aj eQ bE eX) (F9 ag d5 fj aG aE br c6 c9 bK aj eQ bE eX)):=by
 unfold vZ
 exact .ite (fun h1 =>
  .a0 fun o =>
  .au fun aI av =>
  .au fun aM aZ =>
  .a0 fun bg =>
  .ret (let q1:=(aA++([aM]:List aN));let a2:=cH [0,1,17,3,4,5,6];bi [(J 1),.aa true,.ax (bt 1 (.b9 (eI aI)) 1),.ax (ah 4 (an (bp 1 (.agg (aP aM)) false) (bt 1 (.aJ (q1.length)) 1))),(J 2),.aO [0,1,17,3,4,5,6] [.box [.id,.id,.id,.id,.id],.box [.id,.id,.id,.id],.cA (af 3 aP q1),.bG (af 1 (bn 4 0 3) aj),.bG (ca 3 aP eQ),.pure,.pure] (ba [1,3,5,6,7,53,54,55])] (.bk h1 o.1 (cU eI o.2) (bX eI av) (rG aM aZ) (gv aP aM) (gO aP aA) (gw aP aA aM) (.er bg (cY 3 .live (gS aP aA aM)) (aK 3 .live eP q1) (ez a2 4 4 0 3 rfl aj) (dD a2 3 fh eQ) (aK 1 .live aQ bE) (aK 3 .live eP eX)))))
  (fun h1 =>
  .ret (let bO:=cH [0,1,2,3,4,5,6];bi [(J 1),.aa false,.aO [0,1,2,3,4,5,6] [.box [.id,.id,.id,.id,.id],.box [.id,.id,.id,.id],.pure,.bG (af 1 (bn 4 0 3) aj),.bG (ca 3 aP eQ),.pure,.pure] (ba [1,3,5,6,7])] (.dT h1 (aK 3 .live eP aA) (ez bO 4 4 0 3 rfl aj) (dD bO 3 fh eQ) (aK 1 .live aQ bE) (aK 3 .live eP eX))))
theorem UO {ag:Int}{d5:List Int}{fj aG aE:Int}{br c6 c9:List Int}{bK:Int}{aj:List bx}{eQ:List (List aN)}{bE:List Int}{eX:List aN}{gy:Int}{aA:List aN}{r} (h:CC ag d5 fj aG aE br c6 c9 bK aj eQ bE eX gy aA=some r):dR a9 152 0 36 [1,1,1,0,1,0,0,1,0,0,1,1,1,0,1,0,0] (FT ag d5 fj aG aE br c6 c9 bK aj eQ bE eX) (F9 ag d5 fj aG aE br c6 c9 bK aj eQ bE eX) (gy,aA) r:=dS (fun _=>Tx) h
def FU (ag aG aE:Int)(br c6 c9:List Int)(bK:Int)(aj:List bx)(eQ:List (List aN))(bE:List Int)(eX:List aN):(Int×(List aN))→S:=fun (bs,aA)=>dm [(1,.ref 0 0 0 0),(3,.ref 1 0 0 0),(5,.n .i64 ag),(6,.n .i64 (1:Int)),(7,.bm 2 0 0 aA.length),(10,.n .i64 bs)] [[ae.mk 5 [[.n .i64 aG,.n .i64 aE,.isl 1 (br.map eI),.isl 1 (c6.map eI),.isl 1 (c9.map eI)]] .live],[ae.mk 4 [(gu bK 3 0 0 aj.length 5 0 0 bE.length 6 0 0 eX.length)] .live],(af 3 aP aA),(af 1 (bn 4 0 3) aj),(ca 3 aP eQ),(af 1 eI bE),(af 3 aP eX)]
def Ga (ag aG aE:Int)(br c6 c9:List Int)(bK:Int)(aj:List bx)(eQ:List (List aN))(bE:List Int)(eX:List aN):(List aN)→dp
 | a=>⟨some 6,[(1,.ref 0 0 0 0),(3,.ref 1 0 0 0),(5,.n .i64 ag),(6,.n .i64 (1:Int)),(7,.bm 2 0 0 a.length)],[[ae.mk 5 [[.n .i64 aG,.n .i64 aE,.isl 1 (br.map eI),.isl 1 (c6.map eI),.isl 1 (c9.map eI)]] .live],[ae.mk 4 [(gu bK 3 0 0 aj.length 5 0 0 bE.length 6 0 0 eX.length)] .live],(af 3 aP a),(af 1 (bn 4 0 3) aj),(ca 3 aP eQ),(af 1 eI bE),(af 3 aP eX)]⟩
def v5 (ag aG aE:Int)(br c6 c9:List Int)(bK:Int)(aj:List bx)(eQ:List (List aN))(bE:List Int)(eX:List aN)(bs:Int)(aA:List aN):Option ((Int×(List aN))⊕((List aN))) :=
 if (decide (bs<aG))=true then
  if (bs == ag)=true then
   oW 1 >>= fun bj =>
   if (aA++([bj]:List aN)).length*56≤140737488355328 then
   some (.inl (R (bs+(1:Int)),aA++([bj]:List aN)))
   else none
  else
   oW 0 >>= fun bj =>
   if (aA++([bj]:List aN)).length*56≤140737488355328 then
   some (.inl (R (bs+(1:Int)),aA++([bj]:List aN)))
   else none
 else
  some (.inr aA)
def CD (ag aG aE:Int)(br c6 c9:List Int)(bK:Int)(aj:List bx)(eQ:List (List aN))(bE:List Int)(eX:List aN)(bs:Int)(aA:List aN):Option ((List aN)):=iter (fun w:Int×(List aN)=>v5 ag aG aE br c6 c9 bK aj eQ bE eX w.1 w.2) (bs,aA)
theorem Ty {ag aG aE:Int}{br c6 c9:List Int}{bK:Int}{aj:List bx}{eQ:List (List aN)}{bE:List Int}{eX:List aN}{bs:Int}{aA:List aN}:bz (v5 ag aG aE br c6 c9 bK aj eQ bE eX bs aA) (dQ a9 152 0 36 [1,1,1,0,1,0,0,1,0,0,1,1,1,1,0,1,0,0] (FU ag aG aE br c6 c9 bK aj eQ bE eX (bs,aA)) (FU ag aG aE br c6 c9 bK aj eQ bE eX) (Ga ag aG aE br c6 c9 bK aj eQ bE eX)):=by
 unfold v5
 exact .ite (fun h1 =>
  (let t1:List b2:=[(J 4),.aa true,(J 1),(J 3)];
  .ite (fun o =>
  .au fun bj av =>
  .a0 fun az =>
  .ret (let q1:=(aA++([bj]:List aN));let a2:=cH [0,1,20,3,4,5,6];bi (t1.append [.aa true,(J 1),.ax (ah 2 (an (bp 1 (.agg (aP bj)) false) (bt 1 (.aJ (q1.length)) 1))),(J 3),.aO [0,1,20,3,4,5,6] [.box [.id,.id,.id,.id,.id],.box [.id,.id,.id,.id],.cA (af 3 aP q1),.bG (af 1 (bn 4 0 3) aj),.bG (ca 3 aP eQ),.pure,.pure] (ba [1,3,5,6,7,10])]) (.bk h1 o (rG bj av) (gv aP bj) (gO aP aA) (gw aP aA bj) az (cY 3 .live (gS aP aA bj)) (.dl (aK 3 .live eP q1) (ez a2 4 4 0 3 rfl aj) (dD a2 3 fh eQ) (aK 1 .live aQ bE) (aK 3 .live eP eX)))))
  (fun o =>
  .au fun bj av =>
  .a0 fun az =>
  .ret (let bO:=(aA++([bj]:List aN));let b4:=cH [0,1,19,3,4,5,6];bi (t1.append [.aa false,.ax (ah 2 (an (bp 1 (.agg (aP bj)) false) (bt 1 (.aJ (bO.length)) 1))),(J 3),.aO [0,1,19,3,4,5,6] [.box [.id,.id,.id,.id,.id],.box [.id,.id,.id,.id],.cA (af 3 aP bO),.bG (af 1 (bn 4 0 3) aj),.bG (ca 3 aP eQ),.pure,.pure] (ba [1,3,5,6,7,10])]) (.bk h1 o (rG bj av) (gv aP bj) (gO aP aA) (gw aP aA bj) az (cY 3 .live (gS aP aA bj)) (.dl (aK 3 .live eP bO) (ez b4 4 4 0 3 rfl aj) (dD b4 3 fh eQ) (aK 1 .live aQ bE) (aK 3 .live eP eX)))))))
  (fun h1 =>
  .ret (let cJ:=cH [0,1,2,3,4,5,6];bi [(J 4),.aa false,.aO [0,1,2,3,4,5,6] [.box [.id,.id,.id,.id,.id],.box [.id,.id,.id,.id],.pure,.bG (af 1 (bn 4 0 3) aj),.bG (ca 3 aP eQ),.pure,.pure] (ba [1,3,5,6,7])] (.dT h1 (aK 3 .live eP aA) (ez cJ 4 4 0 3 rfl aj) (dD cJ 3 fh eQ) (aK 1 .live aQ bE) (aK 3 .live eP eX))))
theorem UP {ag aG aE:Int}{br c6 c9:List Int}{bK:Int}{aj:List bx}{eQ:List (List aN)}{bE:List Int}{eX:List aN}{bs:Int}{aA:List aN}{r} (h:CD ag aG aE br c6 c9 bK aj eQ bE eX bs aA=some r):dR a9 152 0 36 [1,1,1,0,1,0,0,1,0,0,1,1,1,1,0,1,0,0] (FU ag aG aE br c6 c9 bK aj eQ bE eX) (Ga ag aG aE br c6 c9 bK aj eQ bE eX) (bs,aA) r:=dS (fun _=>Ty) h
def FV (aG aE:Int)(br c6 c9:List Int)(bK:Int):(Int×(List bx)×(List (List aN))×(List Int)×(List aN))→S:=fun (ag,aA,dg,aH,bE)=>dm [(1,.ref 0 0 0 0),(3,.ref 1 0 0 0),(5,.n .i64 ag)] [[ae.mk 5 [[.n .i64 aG,.n .i64 aE,.isl 1 (br.map eI),.isl 1 (c6.map eI),.isl 1 (c9.map eI)]] .live],[ae.mk 4 [(gu bK 2 0 0 aA.length 4 0 0 aH.length 5 0 0 bE.length)] .live],(af 1 (bn 3 0 3) aA),(ca 3 aP dg),(af 1 eI aH),(af 3 aP bE)]
def Gb (aG aE:Int)(br c6 c9:List Int)(bK:Int):((List bx)×(List (List aN))×(List Int)×(List aN))→dp
 | a=>⟨some 2,[(3,.ref 0 0 0 0)],[[ae.mk 4 [(gu bK 1 0 0 a.1.length 3 0 0 a.2.2.1.length 4 0 0 a.2.2.2.length)] .live],(af 1 (bn 2 0 3) a.1),(ca 3 aP a.2.1),(af 1 eI a.2.2.1),(af 3 aP a.2.2.2)]⟩
def v7 (aG aE:Int)(br c6 c9:List Int)(bK ag:Int)(aA:List bx)(dg:List (List aN))(aH:List Int)(bE:List aN):Option ((Int×(List bx)×(List (List aN))×(List Int)×(List aN))⊕((List bx)×(List (List aN))×(List Int)×(List aN))) :=
 if (decide (ag<aG))=true then
  if 0≤ag∧ag<c6.length then
  c6[ag.toNat]? >>= fun aI =>
  if (decide (aI<(0:Int)))=true then
   um (⟨aG,aE,br,c6,c9⟩:hp) ag >>= fun cj =>
   CH ag cj (len_ eI cj) aG aE br c6 c9 bK aA dg aH bE 0 ([]:List aN) >>= fun c4 =>
   CI ag aG aE br c6 c9 bK aA dg aH bE 0 c4 >>= fun eg =>
   oW (R ((-1:Int)*aI)) >>= fun ec =>
   if (eg++([ec]:List aN)).length*56≤140737488355328 then
   (dg++[eg++([ec]:List aN)])[dg.length]? >>= fun kb =>
   y9 ag dg.length ((eg++([ec]:List aN)).length) (((eg++([ec]:List aN)).length:Nat):Int) aG aE br c6 c9 bK (dg++[eg++([ec]:List aN)]) aA aH 0 bE >>= fun gm =>
   if (aA++([(some (dg.length,(eg++([ec]:List aN)).length))]:List bx)).length*24≤140737488355328 then
   if (aH++([R (aE+ag)]:List Int)).length*8≤140737488355328 then
   some (.inl (R (ag+(1:Int)),aA++([(some (dg.length,(eg++([ec]:List aN)).length))]:List bx),dg++[eg++([ec]:List aN)],aH++([R (aE+ag)]:List Int),gm))
   else none
   else none
   else none
  else
   um (⟨aG,aE,br,c6,c9⟩:hp) ag >>= fun cj =>
   CC ag cj (len_ eI cj) aG aE br c6 c9 bK aA dg aH bE 0 ([]:List aN) >>= fun c4 =>
   CD ag aG aE br c6 c9 bK aA dg aH bE 0 c4 >>= fun eg =>
   oW (R ((1:Int)*aI)) >>= fun ec =>
   if (eg++([ec]:List aN)).length*56≤140737488355328 then
   (dg++[eg++([ec]:List aN)])[dg.length]? >>= fun kb =>
   y9 ag dg.length ((eg++([ec]:List aN)).length) (((eg++([ec]:List aN)).length:Nat):Int) aG aE br c6 c9 bK (dg++[eg++([ec]:List aN)]) aA aH 0 bE >>= fun gm =>
   if (aA++([(some (dg.length,(eg++([ec]:List aN)).length))]:List bx)).length*24≤140737488355328 then
   if (aH++([R (aE+ag)]:List Int)).length*8≤140737488355328 then
   some (.inl (R (ag+(1:Int)),aA++([(some (dg.length,(eg++([ec]:List aN)).length))]:List bx),dg++[eg++([ec]:List aN)],aH++([R (aE+ag)]:List Int),gm))
   else none
   else none
   else none
  else none
 else
  some (.inr (aA,dg,aH,bE))
def Hy (aG aE:Int)(br c6 c9:List Int)(bK ag:Int)(aA:List bx)(dg:List (List aN))(aH:List Int)(bE:List aN):Option ((List bx)×(List (List aN))×(List Int)×(List aN)):=iter (fun w:Int×(List bx)×(List (List aN))×(List Int)×(List aN)=>v7 aG aE br c6 c9 bK w.1 w.2.1 w.2.2.1 w.2.2.2.1 w.2.2.2.2) (ag,aA,dg,aH,bE)
set_option maxHeartbeats 4000000 in
theorem Tz {aG aE:Int}{br c6 c9:List Int}{bK ag:Int}{aA:List bx}{dg:List (List aN)}{aH:List Int}{bE:List aN}:bz (v7 aG aE br c6 c9 bK ag aA dg aH bE) (dQ a9 152 0 36 [1,1,1,0,1,0,0] (FV aG aE br c6 c9 bK (ag,aA,dg,aH,bE)) (FV aG aE br c6 c9 bK) (Gb aG aE br c6 c9 bK)):=by
 unfold v7
 exact .ite (fun h1 =>
  .a0 fun o =>
  .au fun aI av =>
  (let t1:List b2:=[(J 4),.aa true,(J 1),.ax (bt 4 (.b9 (eI aI)) 1)];
  have aU:=((.da h1 o.1 (cU eI o.2) (bX eI av)):cr _);
  .ite (fun az =>
  .au fun cj bg =>
  .au fun c4 cq =>
  .au fun eg fa =>
  .au fun ec et =>
  .a0 fun eB =>
  .au fun kb hS =>
  .au fun gm hs =>
  .a0 fun gz =>
  .a0 fun fk =>
  .ret (let q1:=(eg++([ec]:List aN));let a2:=(dg++[eg++([ec]:List aN)]);let bO:=DU (gg .live 3 aP dg) (D3 eP 17 4 (dg.length+0) (gS aP eg ec) (D4 17 4 (dg.length+0)));let b4:=cH [0,1,13,2,27,5];let d9:=(aA++([(some (dg.length,q1.length))]:List bx));let fM:=aK 1 .live aQ aH;let eG:=aK 3 .live eP bE;let hG:=cH [0,1,18,2,3,4,5];let jx:=cH [0,1,2,3,4,5,6];let jy:=R (aE+ag);let cJ:=(aH++([jy]:List Int));let mq:=cH [0,1,4,3,5,6];bi (t1.append [.aa true,(J 1),(J 2),.ax (bt 2 (bp 2 (.isl 1 (cj.map eI)) false) 2),.aO [0,1,18,2,3,4,5] [.box [.id,.id,.id,.id,.id],.box [.id,.id,.id,.id],.cA (af 3 aP ([]:List aN)),.bG (af 1 (bn 4 0 3) aA),.bG (ca 3 aP dg),.pure,.pure] [(1,ii),(3,ii),(5,ii),(6,ii),(7,fV (([]:List aN).length)),(53,ii),(54,ii),(55,ii)],(Gr ag cj (len_ eI cj) aG aE br c6 c9 bK aA dg aH bE c4).fc,(J 1),.aO [0,1,2,3,4,5,6] [.box [.id,.id,.id,.id,.id],.box [.id,.id,.id,.id],.pure,.bG (af 1 (bn 4 0 3) aA),.bG (ca 3 aP dg),.pure,.pure] (ba [1,3,5,6,7,10]),(Gs ag aG aE br c6 c9 bK aA dg aH bE eg).fc,.ax (ah 6 (an (.b9 (eI aI)) (ah 1 (an (bp 1 (.agg (aP ec)) false) (bt 1 (.vl 4 (dg.length+0) (.aJ (q1.length))) 1))))),.ax (bt 1 (.gh (ae.mk 3 (kb.map aP) .live) []) 1),.aO [0,1,4,3,5,6] [.box [.id,.id,.id,.id,.id],.box [.id,.id,.id,.id],.bG (ca 3 aP a2),.bG (af 1 (bn 2 0 3) aA),.pure,.pure] (ba [1,3,5,7,93,94]),(Cz ag dg.length (q1.length) ((q1.length:Nat):Int) aG aE br c6 c9 bK a2 aA aH gm).fc,.ax (ah 6 (an (.kf 133 (lB 2 0 3 (some (dg.length,q1.length))) .none) (an (.aJ (d9.length)) (ah 3 [])))),.ax (bt 10 (.aJ (cJ.length)) 3),(J 3),.aO [0,1,13,2,27,5] [.box [.id,.id,.id,.id,.id],.box [.id,.id,.id,.id],.bG (af 1 (bn 3 0 3) d9),.bG (ca 3 aP a2),.cA (af 1 eI cJ),.pure] (ba [1,3,5])]) (aU.aJ (.bk az (NC cj bg) (cY 3 .live (show []=(([]:List aN)).map aP from rfl)) (aK 3 .live eP ([]:List aN)) (ez hG 4 3 0 3 rfl aA) (dD hG 3 fh dg) fM eG (.bk (eZ aN) (Va cq) (aK 3 .live eP c4) (ez jx 4 4 0 3 rfl aA) (dD jx 3 fh dg) fM eG (Vb fa) (.bk o.1 (cU eI o.2) (bX eI av) (rG ec et) (gv aP ec) (gO aP eg) (gw aP eg ec) eB (.bk (congrArg (· + 0) (Kq (gg .live 3 aP dg) rfl)) (jX bO i5 hS) (m8 (cd:=mq) bO (mj fh)) (ez mq 2 4 0 3 rfl aA) fM eG (MM hs) (.s2 2 0 3 dg.length (q1.length):kk (.bm 2 (dg.length+0) 0 (q1.length)) (lB 2 0 3 (some (dg.length,q1.length)))) (.bk (gv (bn 2 0 3) (some (dg.length,q1.length))) (gO (bn 2 0 3) aA) (gw (bn 2 0 3) aA (some (dg.length,q1.length))) gz (gv eI jy) (gO eI aH) (gw eI aH jy) fk (.dl (c7 (rA (cd:=b4) 1 .live (bn 3 0 3) (gS (bn 2 0 3) aA (some (dg.length,q1.length))) (s9 (rfl:b4 2=some 3))) (o1 (cd:=b4))) (dD b4 3 fh a2) (cY 1 .live (gS eI aH jy)) (aK 1 .live aQ cJ) (aK 3 .live eP gm))))))))))
  (fun az =>
  .au fun cj bg =>
  .au fun c4 cq =>
  .au fun eg fa =>
  .au fun ec et =>
  .a0 fun eB =>
  .au fun kb hS =>
  .au fun gm hs =>
  .a0 fun gz =>
  .a0 fun fk =>
  .ret (let iJ:=(eg++([ec]:List aN));let qS:=(dg++[eg++([ec]:List aN)]);let BK:=DU (gg .live 3 aP dg) (D3 eP 17 4 (dg.length+0) (gS aP eg ec) (D4 17 4 (dg.length+0)));let rv:=cH [0,1,13,2,27,5];let BL:=(aA++([(some (dg.length,iJ.length))]:List bx));let yz:=aK 1 .live aQ aH;let vd:=aK 3 .live eP bE;let yA:=cH [0,1,17,2,3,4,5];let yB:=cH [0,1,2,3,4,5,6];let tt:=R (aE+ag);let tu:=(aH++([tt]:List Int));let yC:=cH [0,1,4,3,5,6];bi (t1.append [.aa false,(J 2),.ax (bt 2 (bp 2 (.isl 1 (cj.map eI)) false) 2),.aO [0,1,17,2,3,4,5] [.box [.id,.id,.id,.id,.id],.box [.id,.id,.id,.id],.cA (af 3 aP ([]:List aN)),.bG (af 1 (bn 4 0 3) aA),.bG (ca 3 aP dg),.pure,.pure] [(1,ii),(3,ii),(5,ii),(6,ii),(7,fV (([]:List aN).length)),(53,ii),(54,ii),(55,ii)],(F9 ag cj (len_ eI cj) aG aE br c6 c9 bK aA dg aH bE c4).fc,(J 1),.aO [0,1,2,3,4,5,6] [.box [.id,.id,.id,.id,.id],.box [.id,.id,.id,.id],.pure,.bG (af 1 (bn 4 0 3) aA),.bG (ca 3 aP dg),.pure,.pure] (ba [1,3,5,6,7,10]),(Ga ag aG aE br c6 c9 bK aA dg aH bE eg).fc,.ax (ah 6 (an (.b9 (eI aI)) (ah 1 (an (bp 1 (.agg (aP ec)) false) (bt 1 (.vl 4 (dg.length+0) (.aJ (iJ.length))) 1))))),.ax (bt 1 (.gh (ae.mk 3 (kb.map aP) .live) []) 1),.aO [0,1,4,3,5,6] [.box [.id,.id,.id,.id,.id],.box [.id,.id,.id,.id],.bG (ca 3 aP qS),.bG (af 1 (bn 2 0 3) aA),.pure,.pure] (ba [1,3,5,7,93,94]),(Cz ag dg.length (iJ.length) ((iJ.length:Nat):Int) aG aE br c6 c9 bK qS aA aH gm).fc,.ax (ah 6 (an (.kf 133 (lB 2 0 3 (some (dg.length,iJ.length))) .none) (an (.aJ (BL.length)) (ah 3 [])))),.ax (bt 10 (.aJ (tu.length)) 3),(J 3),.aO [0,1,13,2,27,5] [.box [.id,.id,.id,.id,.id],.box [.id,.id,.id,.id],.bG (af 1 (bn 3 0 3) BL),.bG (ca 3 aP qS),.cA (af 1 eI tu),.pure] (ba [1,3,5])]) (aU.aJ (.bk az (NC cj bg) (cY 3 .live (show []=(([]:List aN)).map aP from rfl)) (aK 3 .live eP ([]:List aN)) (ez yA 4 3 0 3 rfl aA) (dD yA 3 fh dg) yz vd (.bk (eZ aN) (UO cq) (aK 3 .live eP c4) (ez yB 4 4 0 3 rfl aA) (dD yB 3 fh dg) yz vd (UP fa) (.bk o.1 (cU eI o.2) (bX eI av) (rG ec et) (gv aP ec) (gO aP eg) (gw aP eg ec) eB (.bk (congrArg (· + 0) (Kq (gg .live 3 aP dg) rfl)) (jX BK i5 hS) (m8 (cd:=yC) BK (mj fh)) (ez yC 2 4 0 3 rfl aA) yz vd (MM hs) (.s2 2 0 3 dg.length (iJ.length):kk (.bm 2 (dg.length+0) 0 (iJ.length)) (lB 2 0 3 (some (dg.length,iJ.length)))) (.bk (gv (bn 2 0 3) (some (dg.length,iJ.length))) (gO (bn 2 0 3) aA) (gw (bn 2 0 3) aA (some (dg.length,iJ.length))) gz (gv eI tt) (gO eI aH) (gw eI aH tt) fk (.dl (c7 (rA (cd:=rv) 1 .live (bn 3 0 3) (gS (bn 2 0 3) aA (some (dg.length,iJ.length))) (s9 (rfl:rv 2=some 3))) (o1 (cd:=rv))) (dD rv 3 fh qS) (cY 1 .live (gS eI aH tt)) (aK 1 .live aQ tu) (aK 3 .live eP gm))))))))))))
  (fun h1 =>
  .ret (bi [(J 4),.aa false,.aO [1,2,3,4,5] [.box [.id,.id,.id,.id],.bG (af 1 (bn 2 0 3) aA),.bG (ca 3 aP dg),.pure,.pure] (ba [3])] (.dl h1 (ez (cH [1,2,3,4,5]) 2 3 0 3 rfl aA) (dD (cH [1,2,3,4,5]) 3 fh dg) (aK 1 .live aQ aH) (aK 3 .live eP bE))))
theorem UQ {aG aE:Int}{br c6 c9:List Int}{bK ag:Int}{aA:List bx}{dg:List (List aN)}{aH:List Int}{bE:List aN}{r} (h:Hy aG aE br c6 c9 bK ag aA dg aH bE=some r):dR a9 152 0 36 [1,1,1,0,1,0,0] (FV aG aE br c6 c9 bK) (Gb aG aE br c6 c9 bK) (ag,aA,dg,aH,bE) r:=dS (fun _=>Tz) h
def zh (cf:hp):Option (Int×(List bx)×(List Int)×(List aN)×(List (List aN))) :=
 H2 cf.ft cf.ea cf.dI cf.el cf.hF (R (cf.ea+cf.ft)) 0 ([]:List aN) >>= fun r1 =>
 Hy cf.ft cf.ea cf.dI cf.el cf.hF (R (cf.ea+cf.ft)) 0 ([]:List bx) ([]:List (List aN)) ([]:List Int) r1 >>= fun bj =>
 some (R (cf.ea+cf.ft),bj.1,bj.2.2.1,bj.2.2.2,bj.2.1)
theorem VR {cf:hp}:bz (zh cf) (fun a=>Con a9 36 [.agg (nW cf)] [] (.ref 0 0 0 0) [(ae.mk 4 [(gu a.1 0 1 0 a.2.1.length 0 2 0 a.2.2.1.length 0 3 0 a.2.2.2.1.length)] .live::ae.mk 1 (a.2.1.map (bn 0 4 3)) .live::ae.mk 1 (a.2.2.1.map eI) .live::ae.mk 3 (a.2.2.2.1.map aP) .live::(ca 3 aP a.2.2.2.2))]):=by
 unfold zh
 exact .au fun r1 o =>
  .au fun bj av =>
  .ret (let q1:=gu (R (cf.ea+cf.ft)) 0 1 0 bj.1.length 0 2 0 bj.2.2.1.length 0 3 0 bj.2.2.2.length;let a2:=cH [0,1,4,5,6,2];let bO:=ca 3 aP bj.2.1;let b4:=af 1 (bn 0 4 3) bj.1;let cJ:=cH [0];lT [(J 2),(J 8),(J 1),.ru 8 3 3,.aO [0,8,11] [.box [.id,.id,.id,.id,.id],.box [.id,.id,.id,.len (([]:List aN).length)],.cA (af 3 aP ([]:List aN))] (ba [1,3,4]),(Gq cf.ft cf.ea cf.dI cf.el cf.hF (R (cf.ea+cf.ft)) r1).fc,(J 1),.ru 1 1 1,.Ev,.ru 1 2 1,.aO [0,1,4,5,6,2] [.box [.id,.id,.id,.id,.id],.box [.id,.len (([]:List bx).length),.len (([]:List Int).length),.id],.bG (af 1 (bn 3 0 3) ([]:List bx)),.bG (ca 3 aP ([]:List (List aN))),.cA (af 1 eI ([]:List Int)),.pure] (ba [1,3,5]),(Gb cf.ft cf.ea cf.dI cf.el cf.hF (R (cf.ea+cf.ft)) bj).fc,(J 2),.BH [{bJ:=[(0,0),(1,0),(3,0),(4,0)],iA:=some (2,0)}] [([.box [.id,.at_ 0 1 bj.1.length,.at_ 0 2 bj.2.2.1.length,.at_ 0 3 bj.2.2.2.length],.rx b4,.pure,.pure],some (.rx bO))] [(2,.bu (.di (.at_ 0 0 0)))]] [0] [.bG (ae.mk 4 [q1] .live::ae.mk 1 (bj.1.map (bn 0 4 3)) .live::ae.mk 1 (bj.2.2.1.map eI) .live::ae.mk 3 (bj.2.2.2.map aP) .live::bO)] (.bk (eZ aN) (cY 3 .live (m0 aP)) (aK 3 .live eP ([]:List aN)) (U9 o) (eZ bx) (eZ Int) (c7 (rA (cd:=a2) 1 .live (bn 3 0 3) (m0 (bn 5 0 3)) (s9 (rfl:a2 5=some 3))) (o1 (cd:=a2))) (m8 (cd:=a2) (Qp .live 3 aP) (mj fh)) (.bk (cY 1 .live (m0 eI)) (aK 1 .live aQ ([]:List Int)) (aK 3 .live eP r1) (UQ av) (rfl:(kD [{bJ:=[(0,0),(1,0),(3,0),(4,0)],iA:=some (2,0)}]) 0 1=some (1,0)) (rfl:bj.1.length=bj.1.length) (rfl:(kD [{bJ:=[(0,0),(1,0),(3,0),(4,0)],iA:=some (2,0)}]) 0 2=some (3,0)) (rfl:bj.2.2.1.length=bj.2.2.1.length) (.gD (rfl:(kD [{bJ:=[(0,0),(1,0),(3,0),(4,0)],iA:=some (2,0)}]) 0 3=some (4,0)) (rfl:bj.2.2.2.length=bj.2.2.2.length) (PX (KD (j1:=(bn 0 4 3)) (cX (bn 2 0 3) bj.1) (fun _=>rfl) (fun x=>(QY (fun _=>rfl)) x)) Qr:rr (kD [{bJ:=[(0,0),(1,0),(3,0),(4,0)],iA:=some (2,0)}]) (af 1 (bn 2 0 3) bj.1) b4) (aK 1 .live aQ bj.2.2.1) (aK 3 .live eP bj.2.2.2) (PZ (gg .live 3 aP bj.2.1) (fun _=>rfl) fh:rr (kD [{bJ:=[(0,0),(1,0),(3,0),(4,0)],iA:=some (2,0)}]) bO bO) (rfl:(kD [{bJ:=[(0,0),(1,0),(3,0),(4,0)],iA:=some (2,0)}]) 0 0=some (0,0)) (c7 (show ae.mk 4 [q1] .live=gH cJ (ae.mk 4 [q1] .live) from rfl) (c7 (k1 cJ 0 0 4 3 rfl bj.1) (c7 (fX cJ 1 kA bj.2.2.1) (c7 (fX cJ 3 fh bj.2.2.2) (dD cJ 3 fh bj.2.1)))))))))
def GK (bT:Int)(c1:List Int)(c2:Int):Int→S:=fun dN=>dm [(1,.n .i64 bT),(10,.isl 1 (c1.map eI)),(11,.n .i64 c2),(12,.n .i64 dN)] []
def MP (bT:Int)(c1:List Int)(c2:Int):((Unit)⊕(Unit))→dp
 | .inl a=>⟨some 0,[],[]⟩
 | .inr a=>⟨none,[(4,.b true)],[]⟩
def yY (bT:Int)(c1:List Int)(c2 dN:Int):Option ((Int)⊕((Unit)⊕(Unit))) :=
 if (decide (dN<c2))=true then
  if 0≤dN∧dN<c1.length then
  c1[dN.toNat]? >>= fun aI =>
  if (aI == bT)=true then
   some (.inr (.inr ()))
  else
   some (.inl (R (dN+(1:Int))))
  else none
 else
  some (.inr (.inl ()))
def CM (bT:Int)(c1:List Int)(c2 dN:Int):Option ((Unit)⊕(Unit)):=iter (fun w:Int=>yY bT c1 c2 w) dN
theorem Uc {bT:Int}{c1:List Int}{c2 dN:Int}:bz (yY bT c1 c2 dN) (dQ a9 20 0 55 [1,0,1,0,0] (GK bT c1 c2 dN) (GK bT c1 c2) (MP bT c1 c2)):=by
 unfold yY
 exact .ite (fun h1 =>
  .a0 fun o =>
  .au fun aI av =>
  (let t1:List b2:=[(J 1),.aa true,.ax (bt 1 (.b9 (eI aI)) 1),(J 3)];
  have aU:=((.da h1 o.1 (cU eI o.2) (bX eI av)):cr _);
  .ite (fun az =>
  .ret (bi (t1.append [.aa true,(J 1),.aO [] [] (ba [4])]) (aU.aJ (.e1 az))))
  (fun az =>
  .ret (bi (t1.append [.aa false,(J 2),.aO [] [] (ba [1,10,11,12])]) (aU.aJ (.e1 az))))))
  (fun h1 =>
  .ret (bi [(J 1),.aa false,.aO [] [] []] (.e1 h1)))
theorem MX {bT:Int}{c1:List Int}{c2 dN:Int}{r} (h:CM bT c1 c2 dN=some r):dR a9 20 0 55 [1,0,1,0,0] (GK bT c1 c2) (MP bT c1 c2) dN r:=dS (fun _=>Uc) h
def zz (hd:pi)(bT:Int):Option Bool :=
 CM bT hd.rm (len_ eI hd.rm) 0 >>= fun r1 =>
 match r1 with
 | .inl dn=>(some false)
 | .inr dn=>(some true)
theorem Wu {hd:pi}{bT:Int}:bz (zz hd bT) (fun r=>Con a9 55 [.eb 4 [(ux hd)] 0 0,.n .i64 bT] [] (.b r) []):=by
 unfold zz
 exact .au fun r1 o =>
  (let t1:List b2:=[(J 1),(J 6),.aO [] [] (ba [1,10,11,12])];
  (by
  rcases r1 with dn|dn
  ·exact (.ret (bw (t1.append [.sub (.exit 0) [] [],(J 1)]) (.e1 (MX o))))
  ·exact (.ret (bw (t1.append [.sub (.ret) [(4,.b true)] []]) (.e1 (MX o))))))
def zA (c8:bq):Option Bool :=
 rO c8.cC >>= fun r1 =>
 if r1=true then
  if c8.cN=true then
   some (decide ((0:Int)<(len_ eI c8.cC)))
  else
   some true
 else
  some false
theorem Wv {c8:bq}:bz (zA c8) (fun r=>Con a9 90 [.agg (aX c8)] [] (.b r) []):=by
 unfold zA
 exact .au fun r1 o =>
  (have af:=((.aD (Jk r1 o) (b7.b r1)):cr _);
  .ite (fun ab =>
  .ite (fun av =>
  .ret (bw [(J 2),.ax (ah 2 (an (bp 1 (.b r1) true) (ah 9 (an (.aa false) (an (.aa true) (ah 1 []))))))] (af.aJ (.bk ab ab ab ab (c0 av) (c0 av) (c0 av) (c0 av) (.bS ab (c0 av) ab)))))
  (fun av =>
  .ret (bw [(J 2),.ax (ah 2 (an (bp 1 (.b r1) true) (ah 5 (cn 4 (an (.aa true) (an (.aa true) (ah 1 [])))))))] (af.aJ (.bk ab ab ab ab (cS av) (cS av) (cS av) (cS av) (.bS ab (cS av) ab))))))
  (fun ab =>
  .ret (bw [(J 2),.ax (ah 2 (an (bp 1 (.b r1) true) (ah 1 (cn 4 (ah 4 (cn 1 (an (.aa false) (ah 1 []))))))))] (af.aJ (.dT ab ab ab ab ab ab)))))
def sU (bW:aN):Option Bool :=
 zA bW.fp >>= fun r1 =>
 if r1=true then
  rO bW.hq >>= fun bb =>
  if bb=true then
   if ((len_ eI bW.hq) == (0:Int))=true then
    some false
   else
    if (decide ((24:Int)<(len_ eI bW.hq)))=true then
     some false
    else
     if (decide ((24:Int)<(len_ eI bW.fp.cC)))=true then
      some false
     else
      xk bW.fp.cC bW.hq >>= fun eg =>
      qm eg >>= fun ec =>
      some ec
  else
   some false
 else
  some false
theorem Jl {bW:aN}:bz (sU bW) (fun r=>Con a9 59 [.agg (aP bW)] [] (.b r) []):=by
 unfold sU
 exact .au fun r1 o =>
  (have af:=((.aD (Wv r1 o) (b7.b r1)):cr _);
  .ite (fun ab =>
  .au fun bb az =>
  (have aU:=af.aJ (.er (c0 ab) (c0 ab) (c0 ab) (Jk bb az) (b7.b bb) (c0 ab) (c0 ab));
  .ite (fun aZ =>
  (have fE:=aU.aJ (.dl (c0 aZ) (c0 aZ) (c0 aZ) (c0 aZ) (c0 aZ));
  .ite (fun bg =>
  .ret (bw [(J 2),.ax (ah 2 (an (bp 1 (.b r1) true) (ah 4 (an (bp 1 (.b bb) true) (ah 1 (an (.aa false) (ah 5 (an (.aa false) (ah 1 (cn 4 (an (.aa true) (ah 1 (cn 5 (ah 1 [])))))))))))))),.aa true,(J 1)] (fE.aJ (.bk bg bg bg bg bg cB cB cB (.bS cB cB cB)))))
  (fun bg =>
  .ite (fun bl =>
  .ret (bw [(J 2),.ax (ah 2 (an (bp 1 (.b r1) true) (ah 4 (an (bp 1 (.b bb) true) (ah 1 (an (.aa false) (ah 5 (an (.aa false) (ah 5 (an (.aa false) (ah 1 (cn 5 (an (.aa true) []))))))))))))),.aa true,(J 1)] (fE.aJ (.bk bg bg bg bg bg bl bl bl (.da bl bl bl cB)))))
  (fun bl =>
  (let t4:List b2:=[(J 2),.ax (ah 2 (an (bp 1 (.b r1) true) (ah 4 (an (bp 1 (.b bb) true) (ah 1 (an (.aa false) (ah 5 (an (.aa false) (ah 5 (an (.aa false) (ah 6 (an (.aa false) []))))))))))))];
  have me:=fE.aJ (.bk bg bg bg bg bg bl bl bl (.bS bl bl bl));
  .ite (fun cq =>
  .ret (bw (t4.append [.aa true,(J 1)]) (me.aJ (.e1 cq))))
  (fun cq =>
  .au fun eg fa =>
  .au fun ec et =>
  .ret (bw (t4.append [.aa false,.ax (ah 5 (an (bp 2 (.isl 1 (eg.map eI)) false) (an (bp 1 (.b ec) true) (ah 1 []))))]) (me.aJ (.da cq (ND eg fa) (zo ec et) (b7.b ec))))))))))
  (fun aZ =>
  .ret (bw [(J 2),.ax (ah 2 (an (bp 1 (.b r1) true) (ah 4 (an (bp 1 (.b bb) true) (ah 1 (an (.aa false) (ah 1 (cn 4 (an (.aa true) (ah 1 (cn 4 (ah 2 (cn 5 (ah 1 [])))))))))))))),.aa true,(J 1)] (aU.aJ (.bk (cS aZ) (cS aZ) (cS aZ) (cS aZ) (cS aZ) cB cB cB (.er cB cB cB cB cB cB cB)))))))
  (fun ab =>
  .ret (bw [(J 2),.ax (ah 2 (an (bp 1 (.b r1) true) (ah 2 (cn 4 (an (.aa true) (ah 1 (cn 4 (ah 2 (cn 4 (ah 2 (cn 5 (ah 1 [])))))))))))),.aa true,(J 1)] (af.aJ (.bk (cS ab) (cS ab) (cS ab) (cS ab) (cS ab) cB cB cB (.bk cB cB cB cB cB cB cB cB (.bS cB cB cB)))))))
def pN (bW:aN):Option Int :=
 sU bW >>= fun r1 =>
 if r1=true then
  if ((len_ eI bW.fp.cC) == (0:Int))=true then
   some 0
  else
   if bW.fp.cN=true then
    some (-1)
   else
    some 1
 else
  some 0
theorem sL {bW:aN}:bz (pN bW) (fun r=>Con a9 38 [.agg (aP bW)] [] (.n .i64 r) []):=by
 unfold pN
 exact .au fun r1 o =>
  (have af:=((.aD (Jl r1 o) (b7.b r1)):cr _);
  .ite (fun ab =>
  (let t2:List b2:=[(J 2),.ax (ah 1 (an (bp 1 (.b r1) true) (bt 7 (.aa false) 1)))];
  have fE:=af.aJ (.dT (c0 ab) (c0 ab) (c0 ab) (c0 ab) (c0 ab) (c0 ab));
  .ite (fun av =>
  .ret (bw (t2.append [.aa true,(J 1)]) (fE.aJ (.e1 av))))
  (fun av =>
  .ite (fun az =>
  .ret (bw (t2.append [.aa false,(J 4),.aa true,(J 1)]) (fE.aJ (.aD av az))))
  (fun az =>
  .ret (bw (t2.append [.aa false,(J 4),.aa false,(J 1)]) (fE.aJ (.aD av az)))))))
  (fun ab =>
  .ret (bw [(J 2),.ax (ah 1 (an (bp 1 (.b r1) true) (ah 2 (cn 5 (an (.aa true) (ah 1 [])))))),.aa true,(J 1)] (af.aJ (.er (cS ab) (cS ab) (cS ab) (cS ab) (cS ab) (cS ab) cB)))))
def G1 (eL:Int)(eT:List (List aN))(eK:List Int)(eM:List aN)(bT:Int)(e6:Bool)(bs oC:Int):(Int×Int)→S:=fun (aL,mI)=>dm [(0,.eb 4 [[.n .i64 eL,.isl 1 (eT.map (eu 3 aP)),.isl 1 (eK.map eI),.isl 3 (eM.map aP)]] 0 0),(1,.n .i64 bT),(2,.b e6),(7,.n .i64 aL),(8,.n .i64 bs),(40,.isl 1 (eK.map eI)),(41,.n .i64 oC),(42,.n .i64 mI)] []
def Hz (eL:Int)(eT:List (List aN))(eK:List Int)(eM:List aN)(bT:Int)(e6:Bool)(bs oC:Int):Int→dp
 | a=>⟨some 2,[(0,.eb 4 [[.n .i64 eL,.isl 1 (eT.map (eu 3 aP)),.isl 1 (eK.map eI),.isl 3 (eM.map aP)]] 0 0),(1,.n .i64 bT),(2,.b e6),(7,.n .i64 a),(8,.n .i64 bs)],[]⟩
def G2 (eL:Int)(eT:List (List aN))(eK:List Int)(eM:List aN)(bT:Int)(e6:Bool)(bs oC aL mI:Int):Option ((Int×Int)⊕(Int)) :=
 if (decide (mI<oC))=true then
  if 0≤mI∧mI<eK.length then
  eK[mI.toNat]? >>= fun aI =>
  if (aI == bs)=true then
   if 0≤mI∧mI<eT.length then
   eT[mI.toNat]? >>= fun fl =>
   if 0≤bT∧bT<fl.length then
   fl[bT.toNat]? >>= fun iP =>
   pN iP >>= fun ec =>
   some (.inl (ec,R (mI+(1:Int))))
   else none
   else none
  else
   some (.inl (aL,R (mI+(1:Int))))
  else none
 else
  some (.inr aL)
def Ns (eL:Int)(eT:List (List aN))(eK:List Int)(eM:List aN)(bT:Int)(e6:Bool)(bs oC aL mI:Int):Option (Int):=iter (fun w:Int×Int=>G2 eL eT eK eM bT e6 bs oC w.1 w.2) (aL,mI)
theorem Um {eL:Int}{eT:List (List aN)}{eK:List Int}{eM:List aN}{bT:Int}{e6:Bool}{bs oC aL mI:Int}:bz (G2 eL eT eK eM bT e6 bs oC aL mI) (dQ a9 63 0 56 [1,1,0,1,0,0,1,0,0,1,1,0,0] (G1 eL eT eK eM bT e6 bs oC (aL,mI)) (G1 eL eT eK eM bT e6 bs oC) (Hz eL eT eK eM bT e6 bs oC)):=by
 unfold G2
 exact .ite (fun h1 =>
  .a0 fun o =>
  .au fun aI av =>
  (let t1:List b2:=[(J 1),.aa true,.ax (bt 2 (.b9 (eI aI)) 2),(J 3)];
  have aU:=((.da h1 o.1 (cU eI o.2) (bX eI av)):cr _);
  .ite (fun az =>
  .a0 fun aZ =>
  .au fun fl bl =>
  .a0 fun cq =>
  .au fun iP fa =>
  .au fun ec et =>
  .ret (bi (t1.append [.aa true,.ax (ah 6 (an (.b9 ((eu 3 aP) fl)) (ah 2 (an (.b9 (aP iP)) (an (bp 1 (.n .i64 ec) true) (ah 1 [])))))),(J 2),.aO [] [] (ba [0,1,2,7,8,40,41,42])]) (aU.aJ (.bk az aZ.1 (cU (eu 3 aP) aZ.2) (bX (eu 3 aP) bl) cq.1 (cU aP cq.2) (bX aP fa) (sL ec et) (.e1 (b7.n .i64 ec))))))
  (fun az =>
  .ret (bi (t1.append [.aa false,(J 2),.aO [] [] (ba [0,1,2,7,8,40,41,42])]) (aU.aJ (.e1 az))))))
  (fun h1 =>
  .ret (bi [(J 1),.aa false,.aO [] [] (ba [0,1,2,7,8])] (.e1 h1)))
theorem VS {eL:Int}{eT:List (List aN)}{eK:List Int}{eM:List aN}{bT:Int}{e6:Bool}{bs oC aL mI:Int}{r} (h:Ns eL eT eK eM bT e6 bs oC aL mI=some r):dR a9 63 0 56 [1,1,0,1,0,0,1,0,0,1,1,0,0] (G1 eL eT eK eM bT e6 bs oC) (Hz eL eT eK eM bT e6 bs oC) (aL,mI) r:=dS (fun _=>Um) h
def G3 (eL:Int)(eT:List (List aN))(eK:List Int)(eM:List aN)(bT:Int)(e6:Bool):(Int×Int)→S:=fun (aL,bs)=>dm [(0,.eb 4 [[.n .i64 eL,.isl 1 (eT.map (eu 3 aP)),.isl 1 (eK.map eI),.isl 3 (eM.map aP)]] 0 0),(1,.n .i64 bT),(2,.b e6),(7,.n .i64 aL),(8,.n .i64 bs)] []
def MY (eL:Int)(eT:List (List aN))(eK:List Int)(eM:List aN)(bT:Int)(e6:Bool):((Int)⊕(Unit))→dp
 | .inl a=>⟨some 0,[(7,.n .i64 a)],[]⟩
 | .inr a=>⟨none,[(6,.n .i64 (-1:Int))],[]⟩
def y1 (eL:Int)(eT:List (List aN))(eK:List Int)(eM:List aN)(bT:Int)(e6:Bool)(aL bs:Int):Option ((Int×Int)⊕((Int)⊕(Unit))) :=
 if (aL == (0:Int))=true then
  if e6=true then
   if (decide (bs<eL))=true then
    if (bs == bT)=true then
     some (.inr (.inr ()))
    else
     Ns eL eT eK eM bT e6 bs (len_ eI eK) aL 0 >>= fun aM =>
     some (.inl (aM,R (bs+(1:Int))))
   else
    some (.inr (.inl aL))
  else
   some (.inr (.inl aL))
 else
  some (.inr (.inl aL))
def IQ (eL:Int)(eT:List (List aN))(eK:List Int)(eM:List aN)(bT:Int)(e6:Bool)(aL bs:Int):Option ((Int)⊕(Unit)):=iter (fun w:Int×Int=>y1 eL eT eK eM bT e6 w.1 w.2) (aL,bs)
theorem Un {eL:Int}{eT:List (List aN)}{eK:List Int}{eM:List aN}{bT:Int}{e6:Bool}{aL bs:Int}:bz (y1 eL eT eK eM bT e6 aL bs) (dQ a9 63 0 56 [1,1,0,1,0,0] (G3 eL eT eK eM bT e6 (aL,bs)) (G3 eL eT eK eM bT e6) (MY eL eT eK eM bT e6)):=by
 unfold y1
 exact .ite (fun h1 =>
  .ite (fun o =>
  (let t1:List b2:=[.ax (ah 4 (an (.aa true) (ah 7 (an (.aa true) []))))];
  have aU:=((.bk h1 h1 o o o o o o (.e1 o)):cr _);
  .ite (fun ab =>
  .ite (fun av =>
  .ret (bi (t1.append [.aa true,(J 3),.aa true,(J 1),.aO [] [] (ba [6])]) (aU.aJ (.aD ab av))))
  (fun av =>
  .au fun aM aZ =>
  .ret (bi (t1.append [.aa true,(J 3),.aa false,(J 6),.aO [] [] (ba [0,1,2,7,8,40,41,42]),(Hz eL eT eK eM bT e6 bs (len_ eI eK) aM).fc,(J 3),.aO [] [] (ba [0,1,2,7,8])]) (aU.aJ (.bS ab av (VS aZ))))))
  (fun ab =>
  .ret (bi (t1.append [.aa false,.aO [] [] (ba [7])]) (aU.aJ (.e1 ab))))))
  (fun o =>
  .ret (bi [.ax (ah 4 (an (.aa true) (ah 1 (cn 6 (an (.aa false) []))))),.aa false,.aO [] [] (ba [7])] (.bk h1 h1 o o o o o o (.aD o cP)))))
  (fun h1 =>
  .ret (bi [.ax (ah 3 (cn 1 (an (.aa false) (ah 1 (cn 6 (ah 1 [])))))),.aa false,.aO [] [] (ba [7])] (.bk h1 h1 cP cP cP cP cP cP (.e1 cP))))
theorem M5 {eL:Int}{eT:List (List aN)}{eK:List Int}{eM:List aN}{bT:Int}{e6:Bool}{aL bs:Int}{r} (h:IQ eL eT eK eM bT e6 aL bs=some r):dR a9 63 0 56 [1,1,0,1,0,0] (G3 eL eT eK eM bT e6) (MY eL eT eK eM bT e6) (aL,bs) r:=dS (fun _=>Un) h
def uh (hd:pi)(bT:Int)(e6:Bool):Option Int :=
 if 0≤bT∧bT<hd.AQ.length then
 hd.AQ[bT.toNat]? >>= fun dY =>
 pN dY >>= fun bb =>
 IQ hd.Mf hd.sa hd.rm hd.AQ bT e6 bb 0 >>= fun cj =>
 match cj with
 | .inl mc=>(some mc)
 | .inr mc=>(some (-1))
 else none
theorem WW {hd:pi}{bT:Int}{e6:Bool}:bz (uh hd bT e6) (fun r=>Con a9 56 [.eb 4 [(ux hd)] 0 0,.n .i64 bT,.b e6] [] (.n .i64 r) []):=by
 unfold uh
 exact .a0 fun h1 =>
  .au fun dY ab =>
  .au fun bb az =>
  .au fun cj bg =>
  (let t1:List b2:=[(J 1),.ax (ah 6 (an (.b9 (aP dY)) (an (bp 1 (.n .i64 bb) true) (ah 1 [])))),(J 1),.aO [] [] (ba [0,1,2,7,8])];
  have aU:=((.dl h1.1 (cU aP h1.2) (bX aP ab) (sL bb az) (b7.n .i64 bb)):cr _);
  (by
  rcases cj with mc|mc
  ·exact (.ret (bw (t1.append [.sub (.exit 0) [(7,.n .i64 mc)] [],(J 2)]) (aU.aJ (.e1 (M5 bg)))))
  ·exact (.ret (bw (t1.append [.sub (.ret) [(6,.n .i64 (-1:Int))] []]) (aU.aJ (.e1 (M5 bg)))))))
def uo (bW aL:aN):Option aN :=
 sU bW >>= fun r1 =>
 if r1=true then
  sU aL >>= fun bb =>
  if bb=true then
   hI bW.fp.cC aL.hq >>= fun cb =>
   hI bW.hq aL.fp.cC >>= fun cc =>
   nT (!(bW.fp.cN == aL.fp.cN)) cb cc >>= fun c5 =>
   some c5
  else
   some (⟨(⟨false,([]:List Int)⟩:bq),([]:List Int)⟩:aN)
 else
  some (⟨(⟨false,([]:List Int)⟩:bq),([]:List Int)⟩:aN)
theorem NE {bW aL:aN}:bz (uo bW aL) (fun r=>Con a9 87 [.agg (aP bW),.agg (aP aL)] [] (.agg (aP r)) []):=by
 unfold uo
 exact .au fun r1 o =>
  (have af:=((.aD (Jl r1 o) (b7.b r1)):cr _);
  .ite (fun ab =>
  .au fun bb az =>
  (let t2:List b2:=[(J 3),.ax (ah 1 (an (bp 1 (.b r1) true) (ah 3 (an (bp 1 (.b bb) true) (ah 1 (an (.aa false) []))))))];
  have fE:=af.aJ (.dT (c0 ab) (c0 ab) (Jl bb az) (b7.b bb) (c0 ab) (c0 ab));
  .ite (fun aZ =>
  .au fun cb bl =>
  .au fun cc cQ =>
  .au fun c5 eV =>
  .ret (bw (t2.append [.aa false,.ax (ah 12 (an (bp 2 (.isl 1 (cb.map eI)) false) (ah 5 (an (bp 2 (.isl 1 (cc.map eI)) false) (an (bp 3 (.agg (aP c5)) false) (ah 1 []))))))]) (fE.aJ (.da (c0 aZ) (oX cb bl) (oX cc cQ) (zq c5 eV)))))
  (fun aZ =>
  .ret (bw (t2.append [.aa true,(J 2)]) (fE.aJ (.e1 (cS aZ))) (.bu (.agg [.id,.jj 1,.jj 1]))))))
  (fun ab =>
  .ret (bw [(J 3),.ax (ah 1 (an (bp 1 (.b r1) true) (ah 2 (cn 3 (an (.aa true) []))))),.aa true,(J 2)] (af.aJ (.dl (cS ab) (cS ab) (cS ab) (cS ab) cB)) (.bu (.agg [.id,.jj 1,.jj 1])))))
def zT (c8 ey:bq):Option Int :=
 if c8.cN=true then
  if ey.cN=true then
   pO ey.cC c8.cC >>= fun bj =>
   some bj
  else
   some (-1)
 else
  if ey.cN=true then
   some 1
  else
   pO c8.cC ey.cC >>= fun bj =>
   some bj
theorem Xh {c8 ey:bq}:bz (zT c8 ey) (fun r=>Con a9 113 [.agg (aX c8),.agg (aX ey)] [] (.n .i64 r) []):=by
 unfold zT
 exact .ite (fun h1 =>
  (let t1:List b2:=[(J 3),.ax (bt 6 (.aa true) 1)];
  .ite (fun o =>
  .au fun bj av =>
  .ret (bw (t1.append [.aa false,.ax (ah 4 (cn 2 (an (.aa false) (ah 1 [])))),.aa false,(J 3),.aa true,.ax (bt 4 (bp 2 (.n .i64 bj) true) 1)]) (.bk h1 h1 h1 h1 (c0 o) (c0 h1) (c0 h1) (c0 h1) (.da cP h1 (w8 bj av) (b7.n .i64 bj)))))
  (fun o =>
  .ret (bw (t1.append [.aa true,(J 1)]) (.dl h1 h1 h1 h1 (cS o))))))
  (fun h1 =>
  (let t1:List b2:=[(J 3),.ax (ah 3 (cn 3 (an (.aa false) (ah 1 [])))),.aa false,.ax (bt 6 (.aa true) 1)];
  have aU:=((.gD h1 h1 h1 h1 cP (cS h1) (cS h1) (cS h1)):cr _);
  .ite (fun o =>
  .ret (bw (t1.append [.aa true,(J 1)]) (aU.aJ (.e1 o))))
  (fun o =>
  .au fun bj av =>
  .ret (bw (t1.append [.aa false,(J 3),.aa false,.ax (bt 4 (bp 2 (.n .i64 bj) true) 1)]) (aU.aJ (.da o h1 (w8 bj av) (b7.n .i64 bj)))))))
def uq (bW aL:aN):Option Int :=
 hI bW.fp.cC aL.hq >>= fun r1 =>
 hM bW.fp.cN r1 >>= fun bj =>
 hI aL.fp.cC bW.hq >>= fun aM =>
 hM aL.fp.cN aM >>= fun cb =>
 zT bj cb >>= fun cc =>
 some cc
theorem NF {bW aL:aN}:bz (uq bW aL) (fun r=>Con a9 88 [.agg (aP bW),.agg (aP aL)] [] (.n .i64 r) []):=by
 unfold uq
 exact .au fun r1 o =>
  .au fun bj av =>
  .au fun aM aZ =>
  .au fun cb bl =>
  .au fun cc cQ =>
  .ret (bw [(J 3),.ax (ah 8 (an (bp 2 (.isl 1 (r1.map eI)) false) (an (bp 2 (.agg (aX bj)) false) (ah 8 (an (bp 2 (.isl 1 (aM.map eI)) false) (an (bp 2 (.agg (aX cb)) false) (an (bp 2 (.n .i64 cc) true) (ah 1 []))))))))] (.dT (oX r1 o) (nS bj av) (oX aM aZ) (nS cb bl) (Xh cc cQ) (b7.n .i64 cc)))
def GL (eL:Int)(eT:List (List aN))(eK:List Int)(eM:List aN)(bT cT:Int):(Int×Int×Bool×(List Int)×(List Int))→S:=fun (hX,d4,aG,aE,br)=>dm [(0,.eb 4 [[.n .i64 eL,.isl 1 (eT.map (eu 3 aP)),.isl 1 (eK.map eI),.isl 3 (eM.map aP)]] 0 0),(1,.n .i64 bT),(5,.n .i64 hX),(6,.ref 0 0 0 0),(14,.isl 1 (eT.map (eu 3 aP))),(15,.n .i64 cT),(16,.n .i64 d4)] [[ae.mk 3 [[.b aG,.isl 1 (aE.map eI),.isl 1 (br.map eI)]] .live]]
def MQ (eL:Int)(eT:List (List aN))(eK:List Int)(eM:List aN)(bT cT:Int):Int→dp
 | a=>⟨some 0,[(5,.n .i64 a)],[]⟩
def wy (eL:Int)(eT:List (List aN))(eK:List Int)(eM:List aN)(bT cT hX d4:Int)(aG:Bool)(aE br:List Int):Option ((Int×Int×Bool×(List Int)×(List Int))⊕(Int)) :=
 if (decide (d4<cT))=true then
  if 0≤d4∧d4<eT.length then
  eT[d4.toNat]? >>= fun aI =>
  if 0≤bT∧bT<aI.length then
  aI[bT.toNat]? >>= fun cw =>
  pN cw >>= fun c4 =>
  if (decide (c4≤(0:Int)))=true then
   some (.inl (hX,R (d4+(1:Int)),aG,aE,br))
  else
   if 0≤(R ((len_ aP aI)-(1:Int)))∧(R ((len_ aP aI)-(1:Int)))<aI.length then
   aI[(R ((len_ aP aI)-(1:Int))).toNat]? >>= fun LA =>
   uo LA cw >>= fun gd =>
   if (decide (hX<(0:Int)))=true then
    some (.inl (d4,R (d4+(1:Int)),gd.fp.cN,gd.fp.cC,gd.hq))
   else
    uq gd (⟨(⟨aG,aE⟩:bq),br⟩:aN) >>= fun gm =>
    if (decide (gm<(0:Int)))=true then
     some (.inl (d4,R (d4+(1:Int)),gd.fp.cN,gd.fp.cC,gd.hq))
    else
     if (gm == (0:Int))=true then
      if 0≤d4∧d4<eK.length then
      eK[d4.toNat]? >>= fun LB =>
      if 0≤hX∧hX<eK.length then
      eK[hX.toNat]? >>= fun LC =>
      if (decide (LB<LC))=true then
       some (.inl (d4,R (d4+(1:Int)),gd.fp.cN,gd.fp.cC,gd.hq))
      else
       some (.inl (hX,R (d4+(1:Int)),aG,aE,br))
      else none
      else none
     else
      some (.inl (hX,R (d4+(1:Int)),aG,aE,br))
   else none
  else none
  else none
 else
  some (.inr hX)
def IC (eL:Int)(eT:List (List aN))(eK:List Int)(eM:List aN)(bT cT hX d4:Int)(aG:Bool)(aE br:List Int):Option (Int):=iter (fun w:Int×Int×Bool×(List Int)×(List Int)=>wy eL eT eK eM bT cT w.1 w.2.1 w.2.2.1 w.2.2.2.1 w.2.2.2.2) (hX,d4,aG,aE,br)
theorem Ud {eL:Int}{eT:List (List aN)}{eK:List Int}{eM:List aN}{bT cT hX d4:Int}{aG:Bool}{aE br:List Int}:bz (wy eL eT eK eM bT cT hX d4 aG aE br) (dQ a9 73 0 57 [1,1,1,0,1,0,0] (GL eL eT eK eM bT cT (hX,d4,aG,aE,br)) (GL eL eT eK eM bT cT) (MQ eL eT eK eM bT cT)):=by
 unfold wy
 exact .ite (fun h1 =>
  .a0 fun o =>
  .au fun aI av =>
  .a0 fun az =>
  .au fun cw bg =>
  .au fun c4 cq =>
  (let t1:List b2:=[(J 1),.aa true,.ax (bt 2 (.b9 ((eu 3 aP) aI)) 2),.ax (ah 3 (an (.b9 (aP cw)) (an (bp 1 (.n .i64 c4) true) (ah 1 []))))];
  have aU:=((.bk h1 o.1 (cU (eu 3 aP) o.2) (bX (eu 3 aP) av) az.1 (cU aP az.2) (bX aP bg) (sL c4 cq) (.e1 (b7.n .i64 c4))):cr _);
  .ite (fun cQ =>
  .ret (bi (t1.append [.aa true,(J 2),.aO [0] [.box [.id,.id,.id]] (ba [0,1,5,6,14,15,16])]) (aU.aJ (.e1 cQ))))
  (fun cQ =>
  .a0 fun fa =>
  .au fun LA et =>
  .au fun gd fR =>
  (let t3:List b2:=t1.append [.aa false,.ax (ah 5 (an (.b9 (aP LA)) (ah 3 (an (.b9 (aP cw)) (an (bp 2 (.agg (aP gd)) false) (ah 2 []))))))];
  have eS:=aU.aJ (.gD cQ fa.1 (cU aP fa.2) (bX aP et) az.1 (cU aP az.2) (bX aP bg) (NE gd fR));
  .ite (fun hS =>
  .ret (bi (t3.append [.ax (ah 3 (cn 4 (an (.aa true) (ah 1 (cn 5 (ah 15 (cn 1 (ah 1 [])))))))),.aa true,(J 2),(J 2),(J 2),.aO [0] [.box [.id,.id,.id]] (ba [0,1,5,6,14,15,16])]) (eS.aJ (.bk hS hS hS hS hS cB cB cB (.da cB cB cB cB)))))
  (fun hS =>
  .au fun gm hs =>
  (have me:=eS.aJ (.er hS hS hS (NF gm hs) (b7.n .i64 gm) hS hS);
  .ite (fun gz =>
  .ret (bi (t3.append [.ax (ah 5 (an (bp 2 (.n .i64 gm) true) (ah 1 (an (.aa false) (ah 1 (cn 5 (ah 15 (cn 1 (an (.aa true) []))))))))),.aa true,(J 2),(J 2),(J 2),.aO [0] [.box [.id,.id,.id]] (ba [0,1,5,6,14,15,16])]) (me.aJ (.gD gz gz gz gz gz gz gz cB))))
  (fun gz =>
  (have kH:=me.aJ (.er gz gz gz (NF gm hs) (b7.n .i64 gm) gz gz);
  .ite (fun fk =>
  .a0 fun gY =>
  .au fun LB mW =>
  .a0 fun yD =>
  .au fun LC BM =>
  (let t7:List b2:=t3.append [.ax (ah 5 (an (bp 2 (.n .i64 gm) true) (ah 1 (an (.aa false) (ah 3 (an (bp 2 (.n .i64 gm) true) (ah 8 (an (.b9 (eI LB)) (ah 6 (an (.b9 (eI LC)) (ah 1 (an (.aa true) (an (.aa false) [])))))))))))))];
  have mA:=kH.aJ (.bk fk fk fk fk fk fk gY.1 (cU eI gY.2) (.bk fk (bX eI mW) fk fk fk fk fk fk (.gD yD.1 (cU eI yD.2) fk (bX eI BM) fk gz fk gz)));
  .ite (fun so =>
  .ret (bi (t7.append [.aa true,(J 2),(J 2),(J 2),.aO [0] [.box [.id,.id,.id]] (ba [0,1,5,6,14,15,16])]) (mA.aJ (.e1 so))))
  (fun so =>
  .ret (bi (t7.append [.aa false,(J 2),.aO [0] [.box [.id,.id,.id]] (ba [0,1,5,6,14,15,16])]) (mA.aJ (.e1 so))))))
  (fun fk =>
  .ret (bi (t3.append [.ax (ah 5 (an (bp 2 (.n .i64 gm) true) (ah 1 (an (.aa false) (ah 3 (an (bp 2 (.n .i64 gm) true) (ah 2 (cn 15 (an (.aa false) (an (.aa false) [])))))))))),.aa false,(J 2),.aO [0] [.box [.id,.id,.id]] (ba [0,1,5,6,14,15,16])]) (kH.aJ (.bk fk fk fk fk fk fk fk fk (.bk fk fk fk fk fk fk fk gz (.bS fk gz cP))))))))))))))
  (fun h1 =>
  .ret (bi [(J 1),.aa false,.aO [] [] (ba [5])] (.e1 h1)))
theorem VA {eL:Int}{eT:List (List aN)}{eK:List Int}{eM:List aN}{bT cT hX d4:Int}{aG:Bool}{aE br:List Int}{r} (h:IC eL eT eK eM bT cT hX d4 aG aE br=some r):dR a9 73 0 57 [1,1,1,0,1,0,0] (GL eL eT eK eM bT cT) (MQ eL eT eK eM bT cT) (hX,d4,aG,aE,br) r:=dS (fun _=>Ud) h
def zB (hd:pi)(bT:Int):Option Int :=
 IC hd.Mf hd.sa hd.rm hd.AQ bT (len_ (eu 3 aP) hd.sa) (-1) 0 false ([]:List Int) ([]:List Int) >>= fun r1 =>
 some r1
theorem Ww {hd:pi}{bT:Int}:bz (zB hd bT) (fun r=>Con a9 57 [.eb 4 [(ux hd)] 0 0,.n .i64 bT] [] (.n .i64 r) []):=by
 unfold zB
 exact .au fun r1 o =>
  .ret (bw [(J 1),(J 1),(J 3),(J 6),.aO [3] [.box [.id,.jj 1,.jj 1]] (ba [0,1,5,6,14,15,16]),.sub (.exit 0) [(5,.n .i64 r1)] [],(J 2)] (.e1 (VA o)))
def ur (bW:aN):Option aN :=
 hM (!bW.fp.cN) bW.fp.cC >>= fun r1 =>
 if (([]:List Int)++bW.hq).length*8≤140737488355328 then
 some (⟨r1,([]:List Int)++bW.hq⟩:aN)
 else none
theorem NG {bW:aN}:bz (ur bW) (fun r=>Con a9 114 [.agg (aP bW)] [] (.agg (aP r)) []):=by
 unfold ur
 exact .au fun r1 o =>
  .a0 fun ab =>
  .ret (let q1:=(([]:List Int)++bW.hq);let a2:=cX eI bW.hq;bw [(J 2),.ax (ah 7 (an (bp 2 (.agg (aX r1)) false) (bt 3 (.aJ (q1.length)) 2)))] (.er (nS r1 o) (m7 (show []=(([]:List Int)).map eI from rfl) (eZ Int)) (lG (eZ Int) a2:q1.length=0+(bW.hq.map eI).length) ab (kR (h6 (show []=(([]:List Int)).map eI from rfl) (eZ Int) a2) (dJ q1)) (k2 (h6 (show []=(([]:List Int)).map eI from rfl) (eZ Int) a2) (dJ q1)) (dw aQ q1)) (.bu (.agg [.id,.id,.ek (q1.map eI)])))
def sQ (bW aL:aN):Option aN :=
 hI bW.fp.cC aL.fp.cC >>= fun r1 =>
 hI bW.hq aL.hq >>= fun bj =>
 nT (!(bW.fp.cN == aL.fp.cN)) r1 bj >>= fun aM =>
 some aM
theorem NH {bW aL:aN}:bz (sQ bW aL) (fun r=>Con a9 115 [.agg (aP bW),.agg (aP aL)] [] (.agg (aP r)) []):=by
 unfold sQ
 exact .au fun r1 o =>
  .au fun bj av =>
  .au fun aM aZ =>
  .ret (bw [(J 3),.ax (ah 13 (an (bp 2 (.isl 1 (r1.map eI)) false) (ah 4 (an (bp 2 (.isl 1 (bj.map eI)) false) (an (bp 3 (.agg (aP aM)) false) (ah 1 []))))))] (.bS (oX r1 o) (oX bj av) (zq aM aZ)))
def Gc (kJ lE hN ei:Nat)(gV:Int)(al:List aN)(jQ:Bool)(jO jM:List Int):(Int×(List aN))→S:=fun (fz,ad)=>dm [(0,.bm 0 0 kJ lE),(1,.bm 1 0 hN ei),(7,.ref 2 0 0 0),(19,.n .i64 gV),(20,.n .i64 fz)] [(af 3 aP ad),(af 3 aP al),[ae.mk 3 [[.b jQ,.isl 1 (jO.map eI),.isl 1 (jM.map eI)]] .live]]
def MJ (kJ lE hN ei:Nat)(gV:Int)(al:List aN)(jQ:Bool)(jO jM:List Int):(List aN)→dp
 | a=>⟨some 0,[],[(af 3 aP a),(af 3 aP al)]⟩
def wj (kJ lE hN ei:Nat)(gV:Int)(al:List aN)(jQ:Bool)(jO jM:List Int)(fz:Int)(ad:List aN):Option ((Int×(List aN))⊕((List aN))) :=
 if (decide (fz<gV))=true then
  if 0≤fz∧fz<(ei:Nat) then
  al[(hN+fz.toNat)]? >>= fun aI =>
  pN aI >>= fun aM =>
  if (aM != (0:Int))=true then
   if 0≤fz∧fz<(lE:Nat) then
   ad[(kJ+fz.toNat)]? >>= fun ew =>
   sQ (⟨(⟨jQ,jO⟩:bq),jM⟩:aN) aI >>= fun c5 =>
   q8 ew c5 >>= fun eC =>
   if (kJ+fz.toNat)<ad.length then
   some (.inl (R (fz+(1:Int)),ad.set (kJ+fz.toNat) eC))
   else none
   else none
  else
   some (.inl (R (fz+(1:Int)),ad))
  else none
 else
  some (.inr ad)
def H3 (kJ lE hN ei:Nat)(gV:Int)(al:List aN)(jQ:Bool)(jO jM:List Int)(fz:Int)(ad:List aN):Option ((List aN)):=iter (fun w:Int×(List aN)=>wj kJ lE hN ei gV al jQ jO jM w.1 w.2) (fz,ad)
theorem TL {kJ lE hN ei:Nat}{gV:Int}{al:List aN}{jQ:Bool}{jO jM:List Int}{fz:Int}{ad:List aN}:bz (wj kJ lE hN ei gV al jQ jO jM fz ad) (dQ a9 44 2 89 [1,1,1,1,0,0] (Gc kJ lE hN ei gV al jQ jO jM (fz,ad)) (Gc kJ lE hN ei gV al jQ jO jM) (MJ kJ lE hN ei gV al jQ jO jM)):=by
 unfold wj
 exact .ite (fun h1 =>
  .a0 fun o =>
  .au fun aI av =>
  .au fun aM aZ =>
  (let t1:List b2:=[(J 1),.aa true,(J 2),.ax (ah 3 (an (.b9 (aP aI)) (an (bp 1 (.n .i64 aM) true) (ah 1 []))))];
  have aU:=((.dT h1 o.1 o.2 (bX aP av) (sL aM aZ) (b7.n .i64 aM)):cr _);
  .ite (fun bg =>
  .a0 fun bl =>
  .au fun ew cQ =>
  .au fun c5 eV =>
  .au fun eC eB =>
  .a0 fun fR =>
  .ret (bi (t1.append [.aa true,.ax (ah 5 (an (.b9 (aP ew)) (ah 4 (an (.b9 (aP aI)) (an (bp 2 (.agg (aP c5)) false) (an (bp 2 (.agg (aP eC)) false) (ah 1 (an .fP [])))))))),(J 2),.aO [0,1,2] [.cA (af 3 aP (ad.set (kJ+fz.toNat) eC)),.pure,.box [.id,.id,.id]] (ba [0,1,7,19,20])]) (aU.aJ (.bk bg bl.1 bl.2 (bX aP cQ) o.1 o.2 (bX aP av) (NH c5 eV) (.gD (CZ eC eB) bl.1 bl.2 (hE aP fR) (hz 3) (cY 3 .live (gI (cX aP ad) (kJ+fz.toNat) eC)) (aK 3 .live eP (ad.set (kJ+fz.toNat) eC)) (aK 3 .live eP al))))))
  (fun bg =>
  .ret (bi (t1.append [.aa false,(J 2),.aO [0,1,2] [.pure,.pure,.box [.id,.id,.id]] (ba [0,1,7,19,20])]) (aU.aJ (.bS bg (aK 3 .live eP ad) (aK 3 .live eP al)))))))
  (fun h1 =>
  .ret (bi [(J 1),.aa false,.aO [0,1] [.pure,.pure] []] (.bS h1 (aK 3 .live eP ad) (aK 3 .live eP al))))
theorem Vc {kJ lE hN ei:Nat}{gV:Int}{al:List aN}{jQ:Bool}{jO jM:List Int}{fz:Int}{ad:List aN}{r} (h:H3 kJ lE hN ei gV al jQ jO jM fz ad=some r):dR a9 44 2 89 [1,1,1,1,0,0] (Gc kJ lE hN ei gV al jQ jO jM) (MJ kJ lE hN ei gV al jQ jO jM) (fz,ad) r:=dS (fun _=>TL) h
def zi (bs:Int)(kJ lE hN ei:Nat)(fD ff:List aN):Option (List aN) :=
 if 0≤bs∧bs<(lE:Nat) then
 fD[(kJ+bs.toNat)]? >>= fun dY =>
 pN dY >>= fun bb =>
 if (bb == (0:Int))=true then
  some fD
 else
  ur dY >>= fun cb =>
  H3 kJ lE hN ei ((lE:Nat):Int) ff cb.fp.cN cb.fp.cC cb.hq 0 fD >>= fun cc =>
  some cc
 else none
theorem VT {bs:Int}{kJ lE hN ei:Nat}{fD ff:List aN}:bz (zi bs kJ lE hN ei fD ff) (fun a=>Con a9 89 (RX 0 0 kJ lE 1 0 hN ei bs) [(af 3 aP fD),(af 3 aP ff)] (.dX []) [(af 3 aP a),(af 3 aP ff)]):=by
 unfold zi
 exact .a0 fun h1 =>
  .au fun dY ab =>
  .au fun bb az =>
  (let t1:List b2:=[.ax (bt 3 (.b9 (aP dY)) 2),.ax (bt 1 (bp 1 (.n .i64 bb) true) 1)];
  have aU:=((.dl h1.1 h1.2 (bX aP ab) (sL bb az) (b7.n .i64 bb)):cr _);
  .ite (fun aZ =>
  .ret (lT (t1.append [.aa true]) [0,1] [.pure,.pure] (aU.aJ (.bS aZ (aK 3 .live eP fD) (aK 3 .live eP ff)))))
  (fun aZ =>
  .au fun cb bl =>
  .au fun cc cQ =>
  .ret (lT (t1.append [.aa false,.ax (bt 1 (bp 1 (.agg (aP cb)) false) 2),(J 3),.aO [0,1,13] [.pure,.pure,.box [.id,.id,.id]] (ba [0,1,7,19,20]),.sub (.exit 0) [] [(af 3 aP cc),(af 3 aP ff)]]) [0,1] [.pure,.pure] (aU.aJ (.er aZ (NG cb bl) (aK 3 .live eP fD) (aK 3 .live eP ff) (Vc cQ) (aK 3 .live eP cc) (aK 3 .live eP ff))))))
def FW (hN ei:Nat)(gV:Int)(al:List aN)(jQ:Bool)(jO jM:List Int):(Int×(List aN))→S:=fun (fz,ad)=>dm [(0,.bm 0 0 0 ad.length),(1,.bm 1 0 hN ei),(7,.ref 2 0 0 0),(19,.n .i64 gV),(20,.n .i64 fz)] [(af 3 aP ad),(af 3 aP al),[ae.mk 3 [[.b jQ,.isl 1 (jO.map eI),.isl 1 (jM.map eI)]] .live]]
def ME (hN ei:Nat)(gV:Int)(al:List aN)(jQ:Bool)(jO jM:List Int):(List aN)→dp
 | a=>⟨some 0,[],[(af 3 aP a),(af 3 aP al)]⟩
def v8 (hN ei:Nat)(gV:Int)(al:List aN)(jQ:Bool)(jO jM:List Int)(fz:Int)(ad:List aN):Option ((Int×(List aN))⊕((List aN))) :=
 if (decide (fz<gV))=true then
  if 0≤fz∧fz<(ei:Nat) then
  al[(hN+fz.toNat)]? >>= fun aI =>
  pN aI >>= fun aM =>
  if (aM != (0:Int))=true then
   if 0≤fz∧fz<(ad.length:Nat) then
   ad[(0+fz.toNat)]? >>= fun ew =>
   sQ (⟨(⟨jQ,jO⟩:bq),jM⟩:aN) aI >>= fun c5 =>
   q8 ew c5 >>= fun eC =>
   if (0+fz.toNat)<ad.length then
   some (.inl (R (fz+(1:Int)),ad.set (0+fz.toNat) eC))
   else none
   else none
  else
   some (.inl (R (fz+(1:Int)),ad))
  else none
 else
  some (.inr ad)
def HA (hN ei:Nat)(gV:Int)(al:List aN)(jQ:Bool)(jO jM:List Int)(fz:Int)(ad:List aN):Option ((List aN)):=iter (fun w:Int×(List aN)=>v8 hN ei gV al jQ jO jM w.1 w.2) (fz,ad)
theorem TA {hN ei:Nat}{gV:Int}{al:List aN}{jQ:Bool}{jO jM:List Int}{fz:Int}{ad:List aN}:bz (v8 hN ei gV al jQ jO jM fz ad) (dQ a9 44 2 89 [1,1,1,1,0,0] (FW hN ei gV al jQ jO jM (fz,ad)) (FW hN ei gV al jQ jO jM) (ME hN ei gV al jQ jO jM)):=by
 unfold v8
 exact .ite (fun h1 =>
  .a0 fun o =>
  .au fun aI av =>
  .au fun aM aZ =>
  (let t1:List b2:=[(J 1),.aa true,(J 2),.ax (ah 3 (an (.b9 (aP aI)) (an (bp 1 (.n .i64 aM) true) (ah 1 []))))];
  have aU:=((.dT h1 o.1 o.2 (bX aP av) (sL aM aZ) (b7.n .i64 aM)):cr _);
  .ite (fun bg =>
  .a0 fun bl =>
  .au fun ew cQ =>
  .au fun c5 eV =>
  .au fun eC eB =>
  .a0 fun fR =>
  .ret (bi (t1.append [.aa true,.ax (ah 5 (an (.b9 (aP ew)) (ah 4 (an (.b9 (aP aI)) (an (bp 2 (.agg (aP c5)) false) (an (bp 2 (.agg (aP eC)) false) (ah 1 (an .fP [])))))))),(J 2),.aO [0,1,2] [.cA (af 3 aP (ad.set (0+fz.toNat) eC)),.pure,.box [.id,.id,.id]] [(0,fV ((ad.set (0+fz.toNat) eC).length)),(1,ii),(7,ii),(19,ii),(20,ii)]]) (aU.aJ (.bk bg bl.1 bl.2 (bX aP cQ) o.1 o.2 (bX aP av) (NH c5 eV) (.bk (CZ eC eB) bl.1 bl.2 (hE aP fR) (hz 3) (cY 3 .live (gI (cX aP ad) (0+fz.toNat) eC)) (aK 3 .live eP (ad.set (0+fz.toNat) eC)) (aK 3 .live eP al) (.e1 (hU (dJ ad) (0+fz.toNat) eC)))))))
  (fun bg =>
  .ret (bi (t1.append [.aa false,(J 2),.aO [0,1,2] [.pure,.pure,.box [.id,.id,.id]] (ba [0,1,7,19,20])]) (aU.aJ (.bS bg (aK 3 .live eP ad) (aK 3 .live eP al)))))))
  (fun h1 =>
  .ret (bi [(J 1),.aa false,.aO [0,1] [.pure,.pure] []] (.bS h1 (aK 3 .live eP ad) (aK 3 .live eP al))))
theorem UR {hN ei:Nat}{gV:Int}{al:List aN}{jQ:Bool}{jO jM:List Int}{fz:Int}{ad:List aN}{r} (h:HA hN ei gV al jQ jO jM fz ad=some r):dR a9 44 2 89 [1,1,1,1,0,0] (FW hN ei gV al jQ jO jM) (ME hN ei gV al jQ jO jM) (fz,ad) r:=dS (fun _=>TA) h
def zd (bs:Int)(hN ei:Nat)(fD ff:List aN):Option (List aN) :=
 if 0≤bs∧bs<(fD.length:Nat) then
 fD[(0+bs.toNat)]? >>= fun dY =>
 pN dY >>= fun bb =>
 if (bb == (0:Int))=true then
  some fD
 else
  ur dY >>= fun cb =>
  HA hN ei ((fD.length:Nat):Int) ff cb.fp.cN cb.fp.cC cb.hq 0 fD >>= fun cc =>
  some cc
 else none
theorem VB {bs:Int}{hN ei:Nat}{fD ff:List aN}:bz (zd bs hN ei fD ff) (fun a=>Con a9 89 (RX 0 0 0 fD.length 1 0 hN ei bs) [(af 3 aP fD),(af 3 aP ff)] (.dX []) [(af 3 aP a),(af 3 aP ff)]):=by
 unfold zd
 exact .a0 fun h1 =>
  .au fun dY ab =>
  .au fun bb az =>
  (let t1:List b2:=[.ax (bt 3 (.b9 (aP dY)) 2),.ax (bt 1 (bp 1 (.n .i64 bb) true) 1)];
  have aU:=((.dl h1.1 h1.2 (bX aP ab) (sL bb az) (b7.n .i64 bb)):cr _);
  .ite (fun aZ =>
  .ret (lT (t1.append [.aa true]) [0,1] [.pure,.pure] (aU.aJ (.bS aZ (aK 3 .live eP fD) (aK 3 .live eP ff)))))
  (fun aZ =>
  .au fun cb bl =>
  .au fun cc cQ =>
  .ret (lT (t1.append [.aa false,.ax (bt 1 (bp 1 (.agg (aP cb)) false) 2),(J 3),.aO [0,1,13] [.pure,.pure,.box [.id,.id,.id]] (ba [0,1,7,19,20]),.sub (.exit 0) [] [(af 3 aP cc),(af 3 aP ff)]]) [0,1] [.pure,.pure] (aU.aJ (.er aZ (NG cb bl) (aK 3 .live eP fD) (aK 3 .live eP ff) (UR cQ) (aK 3 .live eP cc) (aK 3 .live eP ff))))))
def Gd (bW bs dd ef:Int)(ck:List bx)(cE:List Int)(cF:List aN)(bK:Bool)(dK gP:List Int):(Int×(List (List aN)))→S:=fun (de,dc)=>dm [(0,.ref 0 0 0 0),(1,.n .i64 bW),(2,.n .i64 bs),(6,.ref 1 0 0 0),(26,.n .i64 dd),(27,.n .i64 de)] [(ae.mk 4 [(gu ef 0 1 0 ck.length 0 2 0 cE.length 0 3 0 cF.length)] .live::ae.mk 1 (ck.map (bn 0 4 3)) .live::ae.mk 1 (cE.map eI) .live::ae.mk 3 (cF.map aP) .live::(ca 3 aP dc)),[ae.mk 3 [[.b bK,.isl 1 (dK.map eI),.isl 1 (gP.map eI)]] .live]]
def Gt (bW bs dd ef:Int)(ck:List bx)(cE:List Int)(cF:List aN)(bK:Bool)(dK gP:List Int):(List (List aN))→dp
 | a=>⟨some 0,[(0,.ref 0 0 0 0),(1,.n .i64 bW),(2,.n .i64 bs)],[(ae.mk 4 [(gu ef 0 1 0 ck.length 0 2 0 cE.length 0 3 0 cF.length)] .live::ae.mk 1 (ck.map (bn 0 4 3)) .live::ae.mk 1 (cE.map eI) .live::ae.mk 3 (cF.map aP) .live::(ca 3 aP a))]⟩
def wk (bW bs dd ef:Int)(ck:List bx)(cE:List Int)(cF:List aN)(bK:Bool)(dK gP:List Int)(de:Int)(dc:List (List aN)):Option ((Int×(List (List aN)))⊕((List (List aN)))) :=
 if (decide (de<dd))=true then
  if 0≤bW∧bW<(ck.length:Nat) then
  ck[(0+bW.toNat)]? >>= fun aI =>
  aI >>= fun lC =>
  dc[lC.1]? >>= fun iB =>
  if 0≤de∧de<(lC.2:Nat) then
  iB[(0+de.toNat)]? >>= fun iP =>
  uo iP (⟨(⟨bK,dK⟩:bq),gP⟩:aN) >>= fun ec =>
  some (.inl (R (de+(1:Int)),dc.set lC.1 (iB.set (0+de.toNat) ec)))
  else none
  else none
 else
  some (.inr dc)
def H4 (bW bs dd ef:Int)(ck:List bx)(cE:List Int)(cF:List aN)(bK:Bool)(dK gP:List Int)(de:Int)(dc:List (List aN)):Option ((List (List aN))):=iter (fun w:Int×(List (List aN))=>wk bW bs dd ef ck cE cF bK dK gP w.1 w.2) (de,dc)
theorem TM {bW bs dd ef:Int}{ck:List bx}{cE:List Int}{cF:List aN}{bK:Bool}{dK gP:List Int}{de:Int}{dc:List (List aN)}:bz (wk bW bs dd ef ck cE cF bK dK gP de dc) (dQ a9 100 1 58 [1,0,1,0,0] (Gd bW bs dd ef ck cE cF bK dK gP (de,dc)) (Gd bW bs dd ef ck cE cF bK dK gP) (Gt bW bs dd ef ck cE cF bK dK gP)):=by
 unfold wk
 exact .ite (fun h1 =>
  .a0 fun o =>
  .au fun aI av =>
  .au fun lC aZ =>
  .au fun iB bl =>
  .a0 fun cq =>
  .au fun iP fa =>
  .au fun ec et =>
  .ret (let q1:=gu ef 0 1 0 ck.length 0 2 0 cE.length 0 3 0 cF.length;let a2:=jX (gg .live 3 aP dc) i5 bl;let bO:=cH [0,1];bi [(J 1),.aa true,(J 2),.ax (ah 6 (an (.b9 ((bn 0 4 3) aI)) (ah 7 (an (.b9 ((bn 0 4 3) aI)) (ah 1 (an (.kf 44 (.bm 0 (lC.1+4) 0 lC.2) (.gh (ae.mk 3 (iB.map aP) .live) [])) (an (.gh (ae.mk 3 (iB.map aP) .live) (aP iP)) (ah 1 (an (bp 2 (.agg (aP ec)) false) (an (.kf 36 (.bm 0 (lC.1+4) 0 lC.2) (.gh (ae.mk 3 (iB.map aP) .live) [])) (an (.gh (ae.mk 3 (iB.map aP) .live) (aP iP)) []))))))))))),(J 2),.aO [0,1] [.bG (ae.mk 4 [q1] .live::ae.mk 1 (ck.map (bn 0 4 3)) .live::ae.mk 1 (cE.map eI) .live::ae.mk 3 (cF.map aP) .live::(ca 3 aP (dc.set lC.1 (iB.set (0+de.toNat) ec)))),.box [.id,.id,.id]] (ba [0,1,2,6,26,27])] (.bk h1 o.1 o.2 (bX (bn 0 4 3) av) o.1 o.2 (bX (bn 0 4 3) av) (l0 (dP:=0) (c:=4) (sz:=3) aZ) (.bk a2 cq.1 cq.2 a2 (bX aP fa) (NE ec et) (l0 (dP:=0) (c:=4) (sz:=3) aZ) a2 (.dl cq.1 cq.2 a2 (bX aP fa) (c7 (show ae.mk 4 [q1] .live=gH bO (ae.mk 4 [q1] .live) from rfl) (c7 (k1 bO 0 0 4 3 rfl ck) (c7 (fX bO 1 kA cE) (c7 (fX bO 3 fh cF) (m8 (cd:=bO) (o0 (gg .live 3 aP dc) lC.1 (qo (cX aP iB) (0+de.toNat) ec (rfl:(setCells (aP iP) 0 (aP ec))=aP ec))) (mj fh)))))))))))
  (fun h1 =>
  .ret (let b4:=gu ef 0 1 0 ck.length 0 2 0 cE.length 0 3 0 cF.length;let cJ:=cH [0];bi [(J 1),.aa false,.aO [0] [.bG (ae.mk 4 [b4] .live::ae.mk 1 (ck.map (bn 0 4 3)) .live::ae.mk 1 (cE.map eI) .live::ae.mk 3 (cF.map aP) .live::(ca 3 aP dc))] (ba [0,1,2])] (.aD h1 (c7 (show ae.mk 4 [b4] .live=gH cJ (ae.mk 4 [b4] .live) from rfl) (c7 (k1 cJ 0 0 4 3 rfl ck) (c7 (fX cJ 1 kA cE) (c7 (fX cJ 3 fh cF) (dD cJ 3 fh dc))))))))
theorem Vd {bW bs dd ef:Int}{ck:List bx}{cE:List Int}{cF:List aN}{bK:Bool}{dK gP:List Int}{de:Int}{dc:List (List aN)}{r} (h:H4 bW bs dd ef ck cE cF bK dK gP de dc=some r):dR a9 100 1 58 [1,0,1,0,0] (Gd bW bs dd ef ck cE cF bK dK gP) (Gt bW bs dd ef ck cE cF bK dK gP) (de,dc) r:=dS (fun _=>TM) h
def Ge (bW bs oD ef:Int)(ck:List bx)(cE:List Int)(cF:List aN):(Int×(List (List aN)))→S:=fun (nw,dc)=>dm [(0,.ref 0 0 0 0),(1,.n .i64 bW),(2,.n .i64 bs),(56,.n .i64 oD),(57,.n .i64 nw)] [(ae.mk 4 [(gu ef 0 1 0 ck.length 0 2 0 cE.length 0 3 0 cF.length)] .live::ae.mk 1 (ck.map (bn 0 4 3)) .live::ae.mk 1 (cE.map eI) .live::ae.mk 3 (cF.map aP) .live::(ca 3 aP dc))]
def Gu (bW bs oD ef:Int)(ck:List bx)(cE:List Int)(cF:List aN):(List (List aN))→dp
 | a=>⟨some 2,[(0,.ref 0 0 0 0),(1,.n .i64 bW),(2,.n .i64 bs)],[(ae.mk 4 [(gu ef 0 1 0 ck.length 0 2 0 cE.length 0 3 0 cF.length)] .live::ae.mk 1 (ck.map (bn 0 4 3)) .live::ae.mk 1 (cE.map eI) .live::ae.mk 3 (cF.map aP) .live::(ca 3 aP a))]⟩
def wm (bW bs oD ef:Int)(ck:List bx)(cE:List Int)(cF:List aN)(nw:Int)(dc:List (List aN)):Option ((Int×(List (List aN)))⊕((List (List aN)))) :=
 if (decide (nw<oD))=true then
  if (nw != bW)=true then
   if 0≤nw∧nw<(ck.length:Nat) then
   ck[(0+nw.toNat)]? >>= fun gf =>
   if 0≤bW∧bW<(ck.length:Nat) then
   ck[(0+bW.toNat)]? >>= fun fl =>
   gf >>= fun lW =>
   fl >>= fun oc =>
   dc[lW.1]? >>= fun li =>
   dc[oc.1]? >>= fun kb =>
   if (lW.1+4)≠(oc.1+4) then
   zi bs 0 lW.2 0 oc.2 li kb >>= fun fb =>
   some (.inl (R (nw+(1:Int)),(dc.set lW.1 fb).set oc.1 kb))
   else none
   else none
   else none
  else
   some (.inl (R (nw+(1:Int)),dc))
 else
  some (.inr dc)
def H5 (bW bs oD ef:Int)(ck:List bx)(cE:List Int)(cF:List aN)(nw:Int)(dc:List (List aN)):Option ((List (List aN))):=iter (fun w:Int×(List (List aN))=>wm bW bs oD ef ck cE cF w.1 w.2) (nw,dc)
theorem TN {bW bs oD ef:Int}{ck:List bx}{cE:List Int}{cF:List aN}{nw:Int}{dc:List (List aN)}:bz (wm bW bs oD ef ck cE cF nw dc) (dQ a9 100 1 58 [1,1,0,1,0,0] (Ge bW bs oD ef ck cE cF (nw,dc)) (Ge bW bs oD ef ck cE cF) (Gu bW bs oD ef ck cE cF)):=by
 unfold wm
 exact .ite (fun h1 =>
  (let t1:List b2:=[(J 1),.aa true,(J 2),(J 3)];
  .ite (fun o =>
  .a0 fun ab =>
  .au fun gf az =>
  .a0 fun aZ =>
  .au fun fl bl =>
  .au fun lW cQ =>
  .au fun oc eV =>
  .au fun li eB =>
  .au fun kb hS =>
  .a0 fun hr =>
  .au fun fb gz =>
  .ret (let q1:=gu ef 0 1 0 ck.length 0 2 0 cE.length 0 3 0 cF.length;let a2:=cH [0];bi (t1.append [.aa true,.ax (ah 6 (an (.b9 ((bn 0 4 3) gf)) (ah 6 (an (.b9 ((bn 0 4 3) fl)) (ah 1 (an (.kf 69 (.bm 0 (lW.1+4) 0 lW.2) (.kf 76 (.bm 0 (oc.1+4) 0 oc.2) (.call {a1:=[.ao 0 (lW.1+4) (ae.mk 3 (li.map aP) .live),.ao 0 (oc.1+4) (ae.mk 3 (kb.map aP) .live)],dt:=[.pure,.pure],ac:=[.bu (.di (.at_ 0 0 lW.2)),.bu (.di (.at_ 1 0 oc.2)),ii],r:= .dX [],fy:=[(af 3 aP fb),(af 3 aP kb)],ik:=ii,kn:=[.pure,.pure],fI:=[0],fB:=false}))) [])))))),(J 2),.aO [0] [.bG (ae.mk 4 [q1] .live::ae.mk 1 (ck.map (bn 0 4 3)) .live::ae.mk 1 (cE.map eI) .live::ae.mk 3 (cF.map aP) .live::(ca 3 aP ((dc.set lW.1 fb).set oc.1 kb)))] (ba [0,1,2,56,57])]) (.bk h1 o ab.1 ab.2 (bX (bn 0 4 3) az) aZ.1 aZ.2 (bX (bn 0 4 3) bl) (.bk (l0 (dP:=0) (c:=4) (sz:=3) cQ) (l0 (dP:=0) (c:=4) (sz:=3) eV) hr (rfl:ld [.ao 0 (lW.1+4) (ae.mk 3 (li.map aP) .live),.ao 0 (oc.1+4) (ae.mk 3 (kb.map aP) .live)] 0 0=some (0,(lW.1+4))) (rfl:lW.2=lW.2) (rfl:ld [.ao 0 (lW.1+4) (ae.mk 3 (li.map aP) .live),.ao 0 (oc.1+4) (ae.mk 3 (kb.map aP) .live)] 1 0=some (0,(oc.1+4))) (rfl:oc.2=oc.2) (jX (gg .live 3 aP dc) i5 eB) (.er (iq 3 eP li) (jX (gg .live 3 aP dc) i5 hS) (iq 3 eP kb) (iq 3 eP fb) (iq 3 eP kb) (VT fb gz) (c7 (show ae.mk 4 [q1] .live=gH a2 (ae.mk 4 [q1] .live) from rfl) (c7 (k1 a2 0 0 4 3 rfl ck) (c7 (fX a2 1 kA cE) (c7 (fX a2 3 fh cF) (m8 (cd:=a2) (o0 (o0 (gg .live 3 aP dc) lW.1 (cX aP fb)) oc.1 (cX aP kb)) (mj fh)))))))))))
  (fun o =>
  .ret (let bO:=gu ef 0 1 0 ck.length 0 2 0 cE.length 0 3 0 cF.length;let b4:=cH [0];bi (t1.append [.aa false,(J 2),.aO [0] [.bG (ae.mk 4 [bO] .live::ae.mk 1 (ck.map (bn 0 4 3)) .live::ae.mk 1 (cE.map eI) .live::ae.mk 3 (cF.map aP) .live::(ca 3 aP dc))] (ba [0,1,2,56,57])]) (.bS h1 o (c7 (show ae.mk 4 [bO] .live=gH b4 (ae.mk 4 [bO] .live) from rfl) (c7 (k1 b4 0 0 4 3 rfl ck) (c7 (fX b4 1 kA cE) (c7 (fX b4 3 fh cF) (dD b4 3 fh dc))))))))))
  (fun h1 =>
  .ret (let cJ:=gu ef 0 1 0 ck.length 0 2 0 cE.length 0 3 0 cF.length;let d9:=cH [0];bi [(J 1),.aa false,.aO [0] [.bG (ae.mk 4 [cJ] .live::ae.mk 1 (ck.map (bn 0 4 3)) .live::ae.mk 1 (cE.map eI) .live::ae.mk 3 (cF.map aP) .live::(ca 3 aP dc))] (ba [0,1,2])] (.aD h1 (c7 (show ae.mk 4 [cJ] .live=gH d9 (ae.mk 4 [cJ] .live) from rfl) (c7 (k1 d9 0 0 4 3 rfl ck) (c7 (fX d9 1 kA cE) (c7 (fX d9 3 fh cF) (dD d9 3 fh dc))))))))
theorem Ve {bW bs oD ef:Int}{ck:List bx}{cE:List Int}{cF:List aN}{nw:Int}{dc:List (List aN)}{r} (h:H5 bW bs oD ef ck cE cF nw dc=some r):dR a9 100 1 58 [1,1,0,1,0,0] (Ge bW bs oD ef ck cE cF) (Gu bW bs oD ef ck cE cF) (nw,dc) r:=dS (fun _=>TN) h
def zj (bW bs l4:Int)(iv:List bx)(jR:List Int)(jd:List aN)(oQ:List (List aN)):Option ((List Int)×(List aN)×(List (List aN))) :=
 if 0≤bW∧bW<(iv.length:Nat) then
 iv[(0+bW.toNat)]? >>= fun dY =>
 dY >>= fun jB =>
 oQ[jB.1]? >>= fun m1 =>
 if 0≤bs∧bs<(jB.2:Nat) then
 m1[(0+bs.toNat)]? >>= fun ew =>
 H4 bW bs ((jB.2:Nat):Int) l4 iv jR jd ew.fp.cN ew.fp.cC ew.hq 0 oQ >>= fun c5 =>
 H5 bW bs ((iv.length:Nat):Int) l4 iv jR jd 0 c5 >>= fun eC =>
 eC[jB.1]? >>= fun kb =>
 if 3≠(jB.1+4) then
 zd bs 0 jB.2 jd kb >>= fun fb =>
 if jd.length=fb.length then
 if 0≤bW∧bW<(jR.length:Nat) then
 if (0+bW.toNat)<jR.length then
 some (jR.set (0+bW.toNat) bs,fb,eC.set jB.1 kb)
 else none
 else none
 else none
 else none
 else none
 else none
theorem VU {bW bs l4:Int}{iv:List bx}{jR:List Int}{jd:List aN}{oQ:List (List aN)}:bz (zj bW bs l4 iv jR jd oQ) (fun a=>Con a9 58 [.ref 0 0 0 0,.n .i64 bW,.n .i64 bs] [(ae.mk 4 [(gu l4 0 1 0 iv.length 0 2 0 jR.length 0 3 0 jd.length)] .live::ae.mk 1 (iv.map (bn 0 4 3)) .live::ae.mk 1 (jR.map eI) .live::ae.mk 3 (jd.map aP) .live::(ca 3 aP oQ))] (.dX []) [(ae.mk 4 [(gu l4 0 1 0 iv.length 0 2 0 a.1.length 0 3 0 a.2.1.length)] .live::ae.mk 1 (iv.map (bn 0 4 3)) .live::ae.mk 1 (a.1.map eI) .live::ae.mk 3 (a.2.1.map aP) .live::(ca 3 aP a.2.2))]):=by
 unfold zj
 exact .a0 fun h1 =>
  .au fun dY ab =>
  .au fun jB az =>
  .au fun m1 bg =>
  .a0 fun bl =>
  .au fun ew cQ =>
  .au fun c5 eV =>
  .au fun eC eB =>
  .au fun kb hS =>
  .a0 fun hr =>
  .au fun fb gz =>
  .a0 fun fk =>
  .a0 fun gY =>
  .a0 fun jw =>
  .ret (let q1:=gu l4 0 1 0 iv.length 0 2 0 jR.length 0 3 0 jd.length;let a2:=gu l4 0 1 0 iv.length 0 2 0 ((jR.set (0+bW.toNat) bs).length) 0 3 0 fb.length;let bO:=jX (gg .live 3 aP oQ) i5 bg;let b4:=cH [0];let cJ:=cH [0,11];let d9:=bX (bn 0 4 3) ab;let fM:=k1 b4 0 0 4 3 rfl iv;lT [.ax (ah 6 (an (.b9 ((bn 0 4 3) dY)) (ah 1 (an (.kf 15 (.bm 0 (jB.1+4) 0 jB.2) (.gh (ae.mk 3 (m1.map aP) .live) [])) (an (.gh (ae.mk 3 (m1.map aP) .live) (aP ew)) (ah 2 [])))))),.ax (ah 6 (an (.b9 ((bn 0 4 3) dY)) (an (.kf 25 (.bm 0 (jB.1+4) 0 jB.2) (.gh (ae.mk 3 (m1.map aP) .live) [])) (ah 1 [])))),.aO [0,11] [.bG (ae.mk 4 [q1] .live::ae.mk 1 (iv.map (bn 0 4 3)) .live::ae.mk 1 (jR.map eI) .live::ae.mk 3 (jd.map aP) .live::(ca 3 aP oQ)),.box [.id,.id,.id]] (ba [0,1,2,6,26,27]),(Gt bW bs ((jB.2:Nat):Int) l4 iv jR jd ew.fp.cN ew.fp.cC ew.hq c5).fc,(J 6),.aO [0] [.bG (ae.mk 4 [q1] .live::ae.mk 1 (iv.map (bn 0 4 3)) .live::ae.mk 1 (jR.map eI) .live::ae.mk 3 (jd.map aP) .live::(ca 3 aP c5))] (ba [0,1,2,56,57]),(Gu bW bs ((iv.length:Nat):Int) l4 iv jR jd eC).fc,.ax (ah 10 (an (.b9 ((bn 0 4 3) dY)) (ah 1 (an (.kf 90 (.bm 0 (jB.1+4) 0 jB.2) (.call {a1:=[.ao 0 3 (ae.mk 3 (jd.map aP) .live),.ao 0 (jB.1+4) (ae.mk 3 (kb.map aP) .live)],dt:=[.pure,.pure],ac:=[.bu (.di (.at_ 0 0 jd.length)),.bu (.di (.at_ 1 0 jB.2)),ii],r:= .dX [],fy:=[(af 3 aP fb),(af 3 aP kb)],ik:=ii,kn:=[.pure,.pure],fI:=[0],fB:=false})) [])))),.ax (ah 7 (an .fP []))] [0] [.bG (ae.mk 4 [a2] .live::ae.mk 1 (iv.map (bn 0 4 3)) .live::ae.mk 1 ((jR.set (0+bW.toNat) bs).map eI) .live::ae.mk 3 (fb.map aP) .live::(ca 3 aP (eC.set jB.1 kb)))] (.bk h1.1 h1.2 d9 (l0 (dP:=0) (c:=4) (sz:=3) az) bO bl.1 bl.2 bO (.bk (bX aP cQ) h1.1 h1.2 d9 (l0 (dP:=0) (c:=4) (sz:=3) az) bO (c7 (show ae.mk 4 [q1] .live=gH cJ (ae.mk 4 [q1] .live) from rfl) (c7 (k1 cJ 0 0 4 3 rfl iv) (c7 (fX cJ 1 kA jR) (c7 (fX cJ 3 fh jd) (dD cJ 3 fh oQ))))) (Vd eV) (.bk (c7 (show ae.mk 4 [q1] .live=gH b4 (ae.mk 4 [q1] .live) from rfl) (c7 fM (c7 (fX b4 1 kA jR) (c7 (fX b4 3 fh jd) (dD b4 3 fh c5))))) (Ve eB) h1.1 h1.2 d9 (l0 (dP:=0) (c:=4) (sz:=3) az) hr (rfl:ld [.ao 0 3 (ae.mk 3 (jd.map aP) .live),.ao 0 (jB.1+4) (ae.mk 3 (kb.map aP) .live)] 0 0=some (0,3)) (.bk (rfl:jd.length=jd.length) (rfl:ld [.ao 0 3 (ae.mk 3 (jd.map aP) .live),.ao 0 (jB.1+4) (ae.mk 3 (kb.map aP) .live)] 1 0=some (0,(jB.1+4))) (rfl:jB.2=jB.2) (rfl:dh (some (ae.mk 4 [q1] .live::ae.mk 1 (iv.map (bn 0 4 3)) .live::ae.mk 1 (jR.map eI) .live::ae.mk 3 (jd.map aP) .live::(ca 3 aP eC))) 3=some (ae.mk 3 (jd.map aP) .live)) (iq 3 eP jd) (jX (gg .live 3 aP eC) i5 hS) (iq 3 eP kb) (iq 3 eP fb) (.er (iq 3 eP kb) (VB fb gz) gY.1 gY.2 (hE eI jw) (hz 1) (c7 (show ae.mk 4 [a2] .live=gH b4 (ae.mk 4 [q1] .live) from (Eq.trans (congrArg (fun Cd=>ae.mk 4 [(gu l4 0 1 0 iv.length 0 2 0 Cd 0 3 0 fb.length)] .live) (hU (dJ jR) (0+bW.toNat) bs).symm) (congrArg (fun Cd=>ae.mk 4 [(gu l4 0 1 0 iv.length 0 2 0 jR.length 0 3 0 Cd)] .live) (Eq.trans (dJ jd) fk).symm))) (c7 fM (c7 (rA (cd:=b4) 1 .live eI (gI (cX eI jR) (0+bW.toNat) bs) (mj kA)) (c7 (fX b4 3 fh fb) (m8 (cd:=b4) (o0 (gg .live 3 aP eC) jB.1 (cX aP kb)) (mj fh))))))))))))
def GM (e6:Bool)(ef:Int)(ck:List bx)(cE:List Int)(cF:List aN)(dc:List (List aN)):(Int×Int)→S:=fun (oo,bT)=>dm [(0,.ref 0 0 0 0),(1,.b e6),(5,.n .i64 oo),(6,.n .i64 bT)] [(ae.mk 4 [(gu ef 0 1 0 ck.length 0 2 0 cE.length 0 3 0 cF.length)] .live::ae.mk 1 (ck.map (bn 0 4 3)) .live::ae.mk 1 (cE.map eI) .live::ae.mk 3 (cF.map aP) .live::(ca 3 aP dc))]
def G4 (e6:Bool)(ef:Int)(ck:List bx)(cE:List Int)(cF:List aN)(dc:List (List aN)):Int→dp
 | a=>⟨some 2,[(0,.ref 0 0 0 0),(1,.b e6),(5,.n .i64 a)],[(ae.mk 4 [(gu ef 0 1 0 ck.length 0 2 0 cE.length 0 3 0 cF.length)] .live::ae.mk 1 (ck.map (bn 0 4 3)) .live::ae.mk 1 (cE.map eI) .live::ae.mk 3 (cF.map aP) .live::(ca 3 aP dc))]⟩
def tQ (e6:Bool)(ef:Int)(ck:List bx)(cE:List Int)(cF:List aN)(dc:List (List aN))(oo bT:Int):Option ((Int×Int)⊕(Int)) :=
 if (decide (bT<ef))=true then
  if (decide (oo<(0:Int)))=true then
   if ck.all (qQ dc)=true then
   zz (⟨ef,ck.map (ix dc),cE,cF⟩:pi) bT >>= fun bb =>
   if bb=true then
    some (.inl (oo,R (bT+(1:Int))))
   else
    uh (⟨ef,ck.map (ix dc),cE,cF⟩:pi) bT e6 >>= fun cb =>
    if (decide ((0:Int)<cb))=true then
     some (.inl (bT,R (bT+(1:Int))))
    else
     some (.inl (oo,R (bT+(1:Int))))
   else none
  else
   some (.inr oo)
 else
  some (.inr oo)
def CN (e6:Bool)(ef:Int)(ck:List bx)(cE:List Int)(cF:List aN)(dc:List (List aN))(oo bT:Int):Option (Int):=iter (fun w:Int×Int=>tQ e6 ef ck cE cF dc w.1 w.2) (oo,bT)
theorem Ue {e6:Bool}{ef:Int}{ck:List bx}{cE:List Int}{cF:List aN}{dc:List (List aN)}{oo bT:Int}:bz (tQ e6 ef ck cE cF dc oo bT) (dQ a9 43 1 37 [1,0,0,0,1,0,1,0,0] (GM e6 ef ck cE cF dc (oo,bT)) (GM e6 ef ck cE cF dc) (G4 e6 ef ck cE cF dc)):=by
 unfold tQ
 exact .ite (fun h1 =>
  .ite (fun o =>
  .a0 fun ab =>
  .au fun bb az =>
  (let iJ:=gu ef 0 1 0 ck.length 0 2 0 cE.length 0 3 0 cF.length;let t1:List b2:=[.ax (ah 9 (an (.aa true) [])),.aa true];
  have aU:=((.bk h1 h1 h1 o (rfl:dh (some (ae.mk 4 [iJ] .live::ae.mk 1 (ck.map (bn 0 4 3)) .live::ae.mk 1 (cE.map eI) .live::ae.mk 3 (cF.map aP) .live::(ca 3 aP dc))) 1=some (ae.mk 1 (ck.map (bn 0 4 3)) .live)) (rfl:_=true) (fC (bn 0 4 3) ck) (dw (nt (sz:=3) eP) (ck.map (ix dc))) (.bk (uL (dP:=0) (jf:=[ae.mk 4 [iJ] .live,ae.mk 1 (ck.map (bn 0 4 3)) .live,ae.mk 1 (cE.map eI) .live,ae.mk 3 (cF.map aP) .live]++(ca 3 aP dc)) (b8:=ky) (sz:=1) (g:=(eu 3 aP)) (cX (bn 0 4 3) ck) (fun _=>rfl) (fun x U=>(yu (dP:=0) (c:=4) (b8:=ky) (qB:=[ae.mk 4 [iJ] .live,ae.mk 1 (ck.map (bn 0 4 3)) .live,ae.mk 1 (cE.map eI) .live,ae.mk 3 (cF.map aP) .live]) (gg .live 3 aP dc) eP rfl i5 rfl (xQ ab x U))) (dJ ck)) (f6 eI cE) (fC eI cE) (dw aQ cE) (f6 aP cF) (fC aP cF) (dw eP cF) (pR (IY (⟨ef,ck.map (ix dc),cE,cF⟩:pi)):jo [[.n .i64 ef,.isl 1 ((ck.map (ix dc)).map (eu 3 aP)),.isl 1 (cE.map eI),.isl 3 (cF.map aP)]]) (.aD (Wu bb az) (b7.b bb)))):cr _);
  .ite (fun aZ =>
  .ret (let q1:=gu ef 0 1 0 ck.length 0 2 0 cE.length 0 3 0 cF.length;let a2:=cH [0];bi (t1.append [.ax (ah 2 (an (.call {ac:=[.bu (.ptr [.id,.view 0 (ae.mk 1 (ck.map (bn 0 4 3)) .live) ((ck.map (ix dc)).map (eu 3 aP)),.ek (cE.map eI),.ek (cF.map aP)]),ii],r:= .b bb,fB:=true,fI:=[0]}) (ah 2 (cn 5 (an (.aa false) []))))),.aa false,(J 3),.aO [0] [.bG (ae.mk 4 [q1] .live::ae.mk 1 (ck.map (bn 0 4 3)) .live::ae.mk 1 (cE.map eI) .live::ae.mk 3 (cF.map aP) .live::(ca 3 aP dc))] (ba [0,1,5,6])]) (aU.aJ (.gD (c0 aZ) (c0 aZ) (c0 aZ) (c0 aZ) (c0 aZ) (c0 aZ) cP (c7 (show ae.mk 4 [q1] .live=gH a2 (ae.mk 4 [q1] .live) from rfl) (c7 (k1 a2 0 0 4 3 rfl ck) (c7 (fX a2 1 kA cE) (c7 (fX a2 3 fh cF) (dD a2 3 fh dc)))))))))
  (fun aZ =>
  .au fun cb bl =>
  (let jy:=gu ef 0 1 0 ck.length 0 2 0 cE.length 0 3 0 cF.length;let mq:=eu 3 aP;let t3:List b2:=t1.append [.ax (ah 2 (an (.call {ac:=[.bu (.ptr [.id,.view 0 (ae.mk 1 (ck.map (bn 0 4 3)) .live) ((ck.map (ix dc)).map mq),.ek (cE.map eI),.ek (cF.map aP)]),ii],r:= .b bb,fB:=true,fI:=[0]}) (ah 5 (an (.call {ac:=[.bu (.ptr [.id,.view 0 (ae.mk 1 (ck.map (bn 0 4 3)) .live) ((ck.map (ix dc)).map mq),.ek (cE.map eI),.ek (cF.map aP)]),ii,ii],r:= .n .i64 cb,fB:=true,fI:=[0]}) (ah 1 (an (.aa true) []))))))];
  have eS:=aU.aJ (.bk (cS aZ) (cS aZ) (cS aZ) (cS aZ) (rfl:dh (some (ae.mk 4 [jy] .live::ae.mk 1 (ck.map (bn 0 4 3)) .live::ae.mk 1 (cE.map eI) .live::ae.mk 3 (cF.map aP) .live::(ca 3 aP dc))) 1=some (ae.mk 1 (ck.map (bn 0 4 3)) .live)) (rfl:_=true) (fC (bn 0 4 3) ck) (dw (nt (sz:=3) eP) (ck.map (ix dc))) (.bk (uL (dP:=0) (jf:=[ae.mk 4 [jy] .live,ae.mk 1 (ck.map (bn 0 4 3)) .live,ae.mk 1 (cE.map eI) .live,ae.mk 3 (cF.map aP) .live]++(ca 3 aP dc)) (b8:=ky) (sz:=1) (g:=mq) (cX (bn 0 4 3) ck) (fun _=>rfl) (fun x U=>(yu (dP:=0) (c:=4) (b8:=ky) (qB:=[ae.mk 4 [jy] .live,ae.mk 1 (ck.map (bn 0 4 3)) .live,ae.mk 1 (cE.map eI) .live,ae.mk 3 (cF.map aP) .live]) (gg .live 3 aP dc) eP rfl i5 rfl (xQ ab x U))) (dJ ck)) (f6 eI cE) (fC eI cE) (dw aQ cE) (f6 aP cF) (fC aP cF) (dw eP cF) (pR (IY (⟨ef,ck.map (ix dc),cE,cF⟩:pi)):jo [[.n .i64 ef,.isl 1 ((ck.map (ix dc)).map mq),.isl 1 (cE.map eI),.isl 3 (cF.map aP)]]) (.da (WW cb bl) (b7.n .i64 cb) (cS aZ) (cS aZ))));
  .ite (fun cq =>
  .ret (let bO:=gu ef 0 1 0 ck.length 0 2 0 cE.length 0 3 0 cF.length;let b4:=cH [0];bi (t3.append [.aa true,(J 2),(J 3),.aO [0] [.bG (ae.mk 4 [bO] .live::ae.mk 1 (ck.map (bn 0 4 3)) .live::ae.mk 1 (cE.map eI) .live::ae.mk 3 (cF.map aP) .live::(ca 3 aP dc))] (ba [0,1,5,6])]) (eS.aJ (.aD cq (c7 (show ae.mk 4 [bO] .live=gH b4 (ae.mk 4 [bO] .live) from rfl) (c7 (k1 b4 0 0 4 3 rfl ck) (c7 (fX b4 1 kA cE) (c7 (fX b4 3 fh cF) (dD b4 3 fh dc)))))))))
  (fun cq =>
  .ret (let cJ:=gu ef 0 1 0 ck.length 0 2 0 cE.length 0 3 0 cF.length;let d9:=cH [0];bi (t3.append [.aa false,(J 3),.aO [0] [.bG (ae.mk 4 [cJ] .live::ae.mk 1 (ck.map (bn 0 4 3)) .live::ae.mk 1 (cE.map eI) .live::ae.mk 3 (cF.map aP) .live::(ca 3 aP dc))] (ba [0,1,5,6])]) (eS.aJ (.aD cq (c7 (show ae.mk 4 [cJ] .live=gH d9 (ae.mk 4 [cJ] .live) from rfl) (c7 (k1 d9 0 0 4 3 rfl ck) (c7 (fX d9 1 kA cE) (c7 (fX d9 3 fh cF) (dD d9 3 fh dc)))))))))))))
  (fun o =>
  .ret (let fM:=gu ef 0 1 0 ck.length 0 2 0 cE.length 0 3 0 cF.length;let eG:=cH [0];bi [.ax (ah 9 (an (.aa true) [])),.aa false,.aO [0] [.bG (ae.mk 4 [fM] .live::ae.mk 1 (ck.map (bn 0 4 3)) .live::ae.mk 1 (cE.map eI) .live::ae.mk 3 (cF.map aP) .live::(ca 3 aP dc))] (ba [0,1,5])] (.dl h1 h1 h1 o (c7 (show ae.mk 4 [fM] .live=gH eG (ae.mk 4 [fM] .live) from rfl) (c7 (k1 eG 0 0 4 3 rfl ck) (c7 (fX eG 1 kA cE) (c7 (fX eG 3 fh cF) (dD eG 3 fh dc)))))))))
  (fun h1 =>
  .ret (let hG:=gu ef 0 1 0 ck.length 0 2 0 cE.length 0 3 0 cF.length;let jx:=cH [0];bi [.ax (ah 7 (cn 2 (an (.aa false) []))),.aa false,.aO [0] [.bG (ae.mk 4 [hG] .live::ae.mk 1 (ck.map (bn 0 4 3)) .live::ae.mk 1 (cE.map eI) .live::ae.mk 3 (cF.map aP) .live::(ca 3 aP dc))] (ba [0,1,5])] (.dl h1 h1 h1 cP (c7 (show ae.mk 4 [hG] .live=gH jx (ae.mk 4 [hG] .live) from rfl) (c7 (k1 jx 0 0 4 3 rfl ck) (c7 (fX jx 1 kA cE) (c7 (fX jx 3 fh cF) (dD jx 3 fh dc))))))))
theorem VC {e6:Bool}{ef:Int}{ck:List bx}{cE:List Int}{cF:List aN}{dc:List (List aN)}{oo bT:Int}{r} (h:CN e6 ef ck cE cF dc oo bT=some r):dR a9 43 1 37 [1,0,0,0,1,0,1,0,0] (GM e6 ef ck cE cF dc) (G4 e6 ef ck cE cF dc) (oo,bT) r:=dS (fun _=>Ue) h
def GN (e6:Bool)(ef:Int)(ck:List bx):((List Int)×(List aN)×(List (List aN)))→S:=fun (cE,cF,dc)=>dm [(0,.ref 0 0 0 0),(1,.b e6)] [(ae.mk 4 [(gu ef 0 1 0 ck.length 0 2 0 cE.length 0 3 0 cF.length)] .live::ae.mk 1 (ck.map (bn 0 4 3)) .live::ae.mk 1 (cE.map eI) .live::ae.mk 3 (cF.map aP) .live::(ca 3 aP dc))]
def G5 (e6:Bool)(ef:Int)(ck:List bx):(Bool×(List Int)×(List aN)×(List (List aN)))→dp
 | a=>⟨none,[(4,.b a.1)],[(ae.mk 4 [(gu ef 0 1 0 ck.length 0 2 0 a.2.1.length 0 3 0 a.2.2.1.length)] .live::ae.mk 1 (ck.map (bn 0 4 3)) .live::ae.mk 1 (a.2.1.map eI) .live::ae.mk 3 (a.2.2.1.map aP) .live::(ca 3 aP a.2.2.2))]⟩
def yZ (e6:Bool)(ef:Int)(ck:List bx)(cE:List Int)(cF:List aN)(dc:List (List aN)):Option (((List Int)×(List aN)×(List (List aN)))⊕(Bool×(List Int)×(List aN)×(List (List aN)))) :=
 CN e6 ef ck cE cF dc (-1) 0 >>= fun r1 =>
 if (decide (r1<(0:Int)))=true then
  some (.inr (true,cE,cF,dc))
 else
  if ck.all (qQ dc)=true then
  zB (⟨ef,ck.map (ix dc),cE,cF⟩:pi) r1 >>= fun aM =>
  if (decide (aM<(0:Int)))=true then
   some (.inr (false,cE,cF,dc))
  else
   zj aM r1 ef ck cE cF dc >>= fun c4 =>
   some (.inl (c4.1,c4.2.1,c4.2.2))
  else none
def ID (e6:Bool)(ef:Int)(ck:List bx)(cE:List Int)(cF:List aN)(dc:List (List aN)):Option (Bool×(List Int)×(List aN)×(List (List aN))):=iter (fun w:(List Int)×(List aN)×(List (List aN))=>yZ e6 ef ck w.1 w.2.1 w.2.2) (cE,cF,dc)
theorem Uf {e6:Bool}{ef:Int}{ck:List bx}{cE:List Int}{cF:List aN}{dc:List (List aN)}:bz (yZ e6 ef ck cE cF dc) (dQ a9 43 1 37 [1,0,0] (GN e6 ef ck (cE,cF,dc)) (GN e6 ef ck) (G5 e6 ef ck)):=by
 unfold yZ
 exact .au fun r1 o =>
  (let jx:=gu ef 0 1 0 ck.length 0 2 0 cE.length 0 3 0 cF.length;let jy:=cH [0];let t1:List b2:=[(J 1),(J 1),.aO [0] [.bG (ae.mk 4 [jx] .live::ae.mk 1 (ck.map (bn 0 4 3)) .live::ae.mk 1 (cE.map eI) .live::ae.mk 3 (cF.map aP) .live::(ca 3 aP dc))] (ba [0,1,5,6]),(G4 e6 ef ck cE cF dc r1).fc,(J 2)];
  have aU:=((.aD (c7 (show ae.mk 4 [jx] .live=gH jy (ae.mk 4 [jx] .live) from rfl) (c7 (k1 jy 0 0 4 3 rfl ck) (c7 (fX jy 1 kA cE) (c7 (fX jy 3 fh cF) (dD jy 3 fh dc))))) (VC o)):cr _);
  .ite (fun ab =>
  .ret (let q1:=gu ef 0 1 0 ck.length 0 2 0 cE.length 0 3 0 cF.length;let a2:=cH [0];bi (t1.append [.aa true,(J 1),.aO [0] [.bG (ae.mk 4 [q1] .live::ae.mk 1 (ck.map (bn 0 4 3)) .live::ae.mk 1 (cE.map eI) .live::ae.mk 3 (cF.map aP) .live::(ca 3 aP dc))] (ba [4])]) (aU.aJ (.aD ab (c7 (show ae.mk 4 [q1] .live=gH a2 (ae.mk 4 [q1] .live) from rfl) (c7 (k1 a2 0 0 4 3 rfl ck) (c7 (fX a2 1 kA cE) (c7 (fX a2 3 fh cF) (dD a2 3 fh dc)))))))))
  (fun ab =>
  .a0 fun av =>
  .au fun aM aZ =>
  (let hG:=gu ef 0 1 0 ck.length 0 2 0 cE.length 0 3 0 cF.length;let t3:List b2:=t1.append [.aa false,.ax (bt 2 (.call {ac:=[.bu (.ptr [.id,.view 0 (ae.mk 1 (ck.map (bn 0 4 3)) .live) ((ck.map (ix dc)).map (eu 3 aP)),.ek (cE.map eI),.ek (cF.map aP)]),ii],r:= .n .i64 aM,fB:=true,fI:=[0]}) 1),(J 2)];
  have eS:=aU.aJ (.bk ab (rfl:dh (some (ae.mk 4 [hG] .live::ae.mk 1 (ck.map (bn 0 4 3)) .live::ae.mk 1 (cE.map eI) .live::ae.mk 3 (cF.map aP) .live::(ca 3 aP dc))) 1=some (ae.mk 1 (ck.map (bn 0 4 3)) .live)) (rfl:_=true) (fC (bn 0 4 3) ck) (dw (nt (sz:=3) eP) (ck.map (ix dc))) (uL (dP:=0) (jf:=[ae.mk 4 [hG] .live,ae.mk 1 (ck.map (bn 0 4 3)) .live,ae.mk 1 (cE.map eI) .live,ae.mk 3 (cF.map aP) .live]++(ca 3 aP dc)) (b8:=ky) (sz:=1) (g:=(eu 3 aP)) (cX (bn 0 4 3) ck) (fun _=>rfl) (fun x U=>(yu (dP:=0) (c:=4) (b8:=ky) (qB:=[ae.mk 4 [hG] .live,ae.mk 1 (ck.map (bn 0 4 3)) .live,ae.mk 1 (cE.map eI) .live,ae.mk 3 (cF.map aP) .live]) (gg .live 3 aP dc) eP rfl i5 rfl (xQ av x U))) (dJ ck)) (f6 eI cE) (fC eI cE) (.er (dw aQ cE) (f6 aP cF) (fC aP cF) (dw eP cF) (pR (IY (⟨ef,ck.map (ix dc),cE,cF⟩:pi)):jo [[.n .i64 ef,.isl 1 ((ck.map (ix dc)).map (eu 3 aP)),.isl 1 (cE.map eI),.isl 3 (cF.map aP)]]) (Ww aM aZ) (b7.n .i64 aM)));
  .ite (fun bg =>
  .ret (let bO:=gu ef 0 1 0 ck.length 0 2 0 cE.length 0 3 0 cF.length;let b4:=cH [0];bi (t3.append [.aa true,(J 1),.aO [0] [.bG (ae.mk 4 [bO] .live::ae.mk 1 (ck.map (bn 0 4 3)) .live::ae.mk 1 (cE.map eI) .live::ae.mk 3 (cF.map aP) .live::(ca 3 aP dc))] (ba [4])]) (eS.aJ (.aD bg (c7 (show ae.mk 4 [bO] .live=gH b4 (ae.mk 4 [bO] .live) from rfl) (c7 (k1 b4 0 0 4 3 rfl ck) (c7 (fX b4 1 kA cE) (c7 (fX b4 3 fh cF) (dD b4 3 fh dc)))))))))
  (fun bg =>
  .au fun c4 cq =>
  .ret (let cJ:=gu ef 0 1 0 ck.length 0 2 0 c4.1.length 0 3 0 c4.2.1.length;let d9:=gu ef 0 1 0 ck.length 0 2 0 cE.length 0 3 0 cF.length;let fM:=ca 3 aP c4.2.2;let eG:=cH [0];bi (t3.append [.aa false,.ax (ah 3 (an (.call {a1:=[.row 0],dt:=[.bG (ae.mk 4 [d9] .live::ae.mk 1 (ck.map (bn 0 4 3)) .live::ae.mk 1 (cE.map eI) .live::ae.mk 3 (cF.map aP) .live::(ca 3 aP dc))],ac:=[ii,ii,ii],r:= .dX [],fy:=[(ae.mk 4 [cJ] .live::ae.mk 1 (ck.map (bn 0 4 3)) .live::ae.mk 1 (c4.1.map eI) .live::ae.mk 3 (c4.2.1.map aP) .live::fM)],ik:=ii,kn:=[.bG (ae.mk 4 [cJ] .live::ae.mk 1 (ck.map (bn 0 4 3)) .live::ae.mk 1 (c4.1.map eI) .live::ae.mk 3 (c4.2.1.map aP) .live::fM)],fI:=[0],fB:=false}) [])),.aO [0] [.bG (ae.mk 4 [cJ] .live::ae.mk 1 (ck.map (bn 0 4 3)) .live::ae.mk 1 (c4.1.map eI) .live::ae.mk 3 (c4.2.1.map aP) .live::fM)] (ba [0,1])]) (eS.aJ (.er bg (c7 (show ae.mk 4 [d9] .live=gH (pc [0]) (ae.mk 4 [d9] .live) from rfl) (c7 (k1 (pc [0]) 0 0 4 3 rfl ck) (c7 (fX (pc [0]) 1 kA cE) (c7 (fX (pc [0]) 3 fh cF) (dD (pc [0]) 3 fh dc))))) ((jL rfl (jL rfl (jL rfl (jL rfl (uw (gg .live 3 aP dc)))))):mi (ae.mk 4 [d9] .live::ae.mk 1 (ck.map (bn 0 4 3)) .live::ae.mk 1 (cE.map eI) .live::ae.mk 3 (cF.map aP) .live::(ca 3 aP dc))) (c7 (show ae.mk 4 [cJ] .live=gH (jK [0]) (ae.mk 4 [cJ] .live) from rfl) (c7 (k1 (jK [0]) 0 0 4 3 rfl ck) (c7 (fX (jK [0]) 1 kA c4.1) (c7 (fX (jK [0]) 3 fh c4.2.1) (dD (jK [0]) 3 fh c4.2.2))))) ((jL rfl (jL rfl (jL rfl (jL rfl (uw (gg .live 3 aP c4.2.2)))))):mi (ae.mk 4 [cJ] .live::ae.mk 1 (ck.map (bn 0 4 3)) .live::ae.mk 1 (c4.1.map eI) .live::ae.mk 3 (c4.2.1.map aP) .live::fM)) (VU c4 cq) (c7 (show ae.mk 4 [cJ] .live=gH eG (ae.mk 4 [cJ] .live) from rfl) (c7 (k1 eG 0 0 4 3 rfl ck) (c7 (fX eG 1 kA c4.1) (c7 (fX eG 3 fh c4.2.1) (dD eG 3 fh c4.2.2))))))))))))
theorem VD {e6:Bool}{ef:Int}{ck:List bx}{cE:List Int}{cF:List aN}{dc:List (List aN)}{r} (h:ID e6 ef ck cE cF dc=some r):dR a9 43 1 37 [1,0,0] (GN e6 ef ck) (G5 e6 ef ck) (cE,cF,dc) r:=dS (fun _=>Uf) h
def xc (e6:Bool)(l4:Int)(iv:List bx)(jR:List Int)(jd:List aN)(oQ:List (List aN)):Option (Bool×(List Int)×(List aN)×(List (List aN))) :=
 ID e6 l4 iv jR jd oQ >>= fun r1 =>
 some (r1.1,r1.2.1,r1.2.2.1,r1.2.2.2)
theorem Wx {e6:Bool}{l4:Int}{iv:List bx}{jR:List Int}{jd:List aN}{oQ:List (List aN)}:bz (xc e6 l4 iv jR jd oQ) (fun a=>Con a9 37 [.ref 0 0 0 0,.b e6] [(ae.mk 4 [(gu l4 0 1 0 iv.length 0 2 0 jR.length 0 3 0 jd.length)] .live::ae.mk 1 (iv.map (bn 0 4 3)) .live::ae.mk 1 (jR.map eI) .live::ae.mk 3 (jd.map aP) .live::(ca 3 aP oQ))] (.b a.1) [(ae.mk 4 [(gu l4 0 1 0 iv.length 0 2 0 a.2.1.length 0 3 0 a.2.2.1.length)] .live::ae.mk 1 (iv.map (bn 0 4 3)) .live::ae.mk 1 (a.2.1.map eI) .live::ae.mk 3 (a.2.2.1.map aP) .live::(ca 3 aP a.2.2.2))]):=by
 unfold xc
 exact .au fun r1 o =>
  .ret (let q1:=gu l4 0 1 0 iv.length 0 2 0 r1.2.1.length 0 3 0 r1.2.2.1.length;let a2:=gu l4 0 1 0 iv.length 0 2 0 jR.length 0 3 0 jd.length;let bO:=cH [0];let b4:=k1 bO 0 0 4 3 rfl iv;lT [(J 1),.aO [0] [.bG (ae.mk 4 [a2] .live::ae.mk 1 (iv.map (bn 0 4 3)) .live::ae.mk 1 (jR.map eI) .live::ae.mk 3 (jd.map aP) .live::(ca 3 aP oQ))] (ba [0,1]),(G5 e6 l4 iv r1).fc] [0] [.bG (ae.mk 4 [q1] .live::ae.mk 1 (iv.map (bn 0 4 3)) .live::ae.mk 1 (r1.2.1.map eI) .live::ae.mk 3 (r1.2.2.1.map aP) .live::(ca 3 aP r1.2.2.2))] (.bS (c7 (show ae.mk 4 [a2] .live=gH bO (ae.mk 4 [a2] .live) from rfl) (c7 b4 (c7 (fX bO 1 kA jR) (c7 (fX bO 3 fh jd) (dD bO 3 fh oQ))))) (VD o) (c7 (show ae.mk 4 [q1] .live=gH bO (ae.mk 4 [q1] .live) from rfl) (c7 b4 (c7 (fX bO 1 kA r1.2.1) (c7 (fX bO 3 fh r1.2.2.1) (dD bO 3 fh r1.2.2.2)))))))
def t8 (cf:hp):Option Bool :=
 zn cf >>= fun r1 =>
 if r1=true then
  zh cf >>= fun bb =>
  xc false bb.1 bb.2.1 bb.2.2.1 bb.2.2.2.1 bb.2.2.2.2 >>= fun cj =>
  if 0≤bb.1∧bb.1<(cj.2.2.1.length:Nat) then
  cj.2.2.1[(0+bb.1.toNat)]? >>= fun ew =>
  pN ew >>= fun c5 =>
  some (c5 == (0:Int))
  else none
 else
  some false
theorem VE {cf:hp}:bz (t8 cf) (fun r=>Con a9 23 [.agg (nW cf)] [] (.b r) []):=by
 unfold t8
 exact .au fun r1 o =>
  (let t1:List b2:=[(J 2),.ax (bt 1 (bp 1 (.b r1) true) 1)];
  have aU:=((.aD (V8 r1 o) (b7.b r1)):cr _);
  .ite (fun ab =>
  .au fun bb az =>
  .au fun cj bg =>
  .a0 fun bl =>
  .au fun ew cQ =>
  .au fun c5 eV =>
  .ret (let q1:=gu bb.1 0 1 0 bb.2.1.length 0 2 0 bb.2.2.1.length 0 3 0 bb.2.2.2.1.length;let a2:=gu bb.1 6 1 0 bb.2.1.length 6 2 0 bb.2.2.1.length 6 3 0 bb.2.2.2.1.length;let bO:=gu bb.1 0 1 0 bb.2.1.length 0 2 0 cj.2.1.length 0 3 0 cj.2.2.1.length;let b4:=ca 3 aP bb.2.2.2.2;let cJ:=gu bb.1 6 1 0 bb.2.1.length 6 2 0 cj.2.1.length 6 3 0 cj.2.2.1.length;let d9:=ca 3 aP cj.2.2.2;let fM:=k1 (jK [6]) 6 0 4 3 rfl bb.2.1;bw (t1.append [.aa false,.ax (bt 1 (.call {a1:=[],dt:=[],ac:=[ii],r:= .ref 0 0 0 0,fy:=[(ae.mk 4 [q1] .live::ae.mk 1 (bb.2.1.map (bn 0 4 3)) .live::ae.mk 1 (bb.2.2.1.map eI) .live::ae.mk 3 (bb.2.2.2.1.map aP) .live::b4)],ik:=ii,kn:=[.bG (ae.mk 4 [a2] .live::ae.mk 1 (bb.2.1.map (bn 6 4 3)) .live::ae.mk 1 (bb.2.2.1.map eI) .live::ae.mk 3 (bb.2.2.2.1.map aP) .live::b4)],fI:=[],fB:=false}) 1),.ax (ah 1 (an (.call {a1:=[.row 6],dt:=[.bG (ae.mk 4 [q1] .live::ae.mk 1 (bb.2.1.map (bn 0 4 3)) .live::ae.mk 1 (bb.2.2.1.map eI) .live::ae.mk 3 (bb.2.2.2.1.map aP) .live::b4)],ac:=[ii,ii],r:= .b cj.1,fy:=[(ae.mk 4 [bO] .live::ae.mk 1 (bb.2.1.map (bn 0 4 3)) .live::ae.mk 1 (cj.2.1.map eI) .live::ae.mk 3 (cj.2.2.1.map aP) .live::d9)],ik:=ii,kn:=[.bG (ae.mk 4 [cJ] .live::ae.mk 1 (bb.2.1.map (bn 6 4 3)) .live::ae.mk 1 (cj.2.1.map eI) .live::ae.mk 3 (cj.2.2.1.map aP) .live::d9)],fI:=[6],fB:=false}) [])),.ax (ah 9 (an (.b9 (aP ew)) (an (bp 1 (.n .i64 c5) true) (ah 2 []))))]) (aU.aJ (.bk (c0 ab) (c7 (show ae.mk 4 [a2] .live=gH (jK [6]) (ae.mk 4 [q1] .live) from rfl) (c7 fM (c7 (fX (jK [6]) 1 kA bb.2.2.1) (c7 (fX (jK [6]) 3 fh bb.2.2.2.1) (dD (jK [6]) 3 fh bb.2.2.2.2))))) ((jL rfl (jL rfl (jL rfl (jL rfl (uw (gg .live 3 aP bb.2.2.2.2)))))):mi (ae.mk 4 [q1] .live::ae.mk 1 (bb.2.1.map (bn 0 4 3)) .live::ae.mk 1 (bb.2.2.1.map eI) .live::ae.mk 3 (bb.2.2.2.1.map aP) .live::b4)) (VR bb az) (c7 (show ae.mk 4 [q1] .live=gH (pc [6]) (ae.mk 4 [a2] .live) from rfl) (c7 (k1 (pc [6]) 0 6 4 3 rfl bb.2.1) (c7 (fX (pc [6]) 1 kA bb.2.2.1) (c7 (fX (pc [6]) 3 fh bb.2.2.2.1) (dD (pc [6]) 3 fh bb.2.2.2.2))))) ((jL rfl (jL rfl (jL rfl (jL rfl (uw (gg .live 3 aP bb.2.2.2.2)))))):mi (ae.mk 4 [a2] .live::ae.mk 1 (bb.2.1.map (bn 6 4 3)) .live::ae.mk 1 (bb.2.2.1.map eI) .live::ae.mk 3 (bb.2.2.2.1.map aP) .live::b4)) (c7 (show ae.mk 4 [cJ] .live=gH (jK [6]) (ae.mk 4 [bO] .live) from rfl) (c7 fM (c7 (fX (jK [6]) 1 kA cj.2.1) (c7 (fX (jK [6]) 3 fh cj.2.2.1) (dD (jK [6]) 3 fh cj.2.2.2))))) ((jL rfl (jL rfl (jL rfl (jL rfl (uw (gg .live 3 aP cj.2.2.2)))))):mi (ae.mk 4 [bO] .live::ae.mk 1 (bb.2.1.map (bn 0 4 3)) .live::ae.mk 1 (cj.2.1.map eI) .live::ae.mk 3 (cj.2.2.1.map aP) .live::d9)) (.dT (Wx cj bg) bl.1 bl.2 (bX aP cQ) (sL c5 eV) (b7.n .i64 c5))))))
  (fun ab =>
  .ret (bw (t1.append [.aa true,(J 1)]) (aU.aJ (.e1 (cS ab))))))
def ud (aL:ct)(bY:List Int):Option Bool :=
 rM aL bY >>= fun r1 =>
 if r1=true then
  ub aL bY >>= fun bb =>
  t8 bb >>= fun cj =>
  some cj
 else
  some false
theorem Np {aL:ct}{bY:List Int}:bz (ud aL bY) (fun r=>Con a9 13 [.agg (gE aL),.isl 1 (bY.map eI)] [] (.b r) []):=by
 unfold ud
 exact .au fun r1 o =>
  (have af:=((.aD (I0 r1 o) (b7.b r1)):cr _);
  .ite (fun ab =>
  .au fun bb az =>
  .au fun cj bg =>
  .ret (bw [(J 2),.ax (ah 2 (an (bp 2 (.b r1) true) (ah 3 (an (bp 2 (.agg (nW bb)) false) (an (bp 1 (.b cj) true) (an (.aa true) (ah 1 [])))))))] (af.aJ (.gD ab ab ab (VP bb az) ab (VE cj bg) (b7.b cj) ab))))
  (fun ab =>
  .ret (bw [(J 2),.ax (ah 2 (an (bp 2 (.b r1) true) (ah 1 (cn 4 (an (.aa false) (ah 1 []))))))] (af.aJ (.dl ab ab ab ab ab)))))
def HB (aY:Int)(du:List Int)(dk:Int):Int→S:=fun d7=>dm [(1,.n .i64 aY),(7,.isl 1 (du.map eI)),(8,.n .i64 dk),(9,.n .i64 d7)] []
def M6 (aY:Int)(du:List Int)(dk:Int):((Unit)⊕(Unit))→dp
 | .inl a=>⟨some 0,[],[]⟩
 | .inr a=>⟨none,[(4,.b true)],[]⟩
def wP (aY:Int)(du:List Int)(dk d7:Int):Option ((Int)⊕((Unit)⊕(Unit))) :=
 if (decide (d7<dk))=true then
  if 0≤d7∧d7<du.length then
  du[d7.toNat]? >>= fun aI =>
  if (aI == aY)=true then
   some (.inr (.inr ()))
  else
   some (.inl (R (d7+(1:Int))))
  else none
 else
  some (.inr (.inl ()))
def I9 (aY:Int)(du:List Int)(dk d7:Int):Option ((Unit)⊕(Unit)):=iter (fun w:Int=>wP aY du dk w) d7
theorem US {aY:Int}{du:List Int}{dk d7:Int}:bz (wP aY du dk d7) (dQ a9 17 0 61 [1,0,1,0,0] (HB aY du dk d7) (HB aY du dk) (M6 aY du dk)):=by
 unfold wP
 exact .ite (fun h1 =>
  .a0 fun o =>
  .au fun aI av =>
  (let t1:List b2:=[(J 1),.aa true,.ax (bt 1 (.b9 (eI aI)) 1),(J 3)];
  have aU:=((.da h1 o.1 (cU eI o.2) (bX eI av)):cr _);
  .ite (fun az =>
  .ret (bi (t1.append [.aa true,(J 1),.aO [] [] (ba [4])]) (aU.aJ (.e1 az))))
  (fun az =>
  .ret (bi (t1.append [.aa false,(J 2),.aO [] [] (ba [1,7,8,9])]) (aU.aJ (.e1 az))))))
  (fun h1 =>
  .ret (bi [(J 1),.aa false,.aO [] [] []] (.e1 h1)))
theorem Nj {aY:Int}{du:List Int}{dk d7:Int}{r} (h:I9 aY du dk d7=some r):dR a9 17 0 61 [1,0,1,0,0] (HB aY du dk) (M6 aY du dk) d7 r:=dS (fun _=>US) h
def zU (bY:List Int)(aY:Int):Option Bool :=
 I9 aY bY (len_ eI bY) 0 >>= fun r1 =>
 match r1 with
 | .inl dn=>(some false)
 | .inr dn=>(some true)
theorem Xi {bY:List Int}{aY:Int}:bz (zU bY aY) (fun r=>Con a9 61 [.isl 1 (bY.map eI),.n .i64 aY] [] (.b r) []):=by
 unfold zU
 exact .au fun r1 o =>
  (let t1:List b2:=[(J 1),(J 3),.aO [] [] (ba [1,7,8,9])];
  (by
  rcases r1 with dn|dn
  ·exact (.ret (bw (t1.append [.sub (.exit 0) [] [],(J 1)]) (.e1 (Nj o))))
  ·exact (.ret (bw (t1.append [.sub (.ret) [(4,.b true)] []]) (.e1 (Nj o))))))
def FD (hB:List Int)(bI:List bP)(cT:Int)(aA:List bD):(Int×(List bP))→S:=fun (d4,aj)=>dm [(1,.isl 1 (hB.map eI)),(4,.ref 0 0 0 0),(5,.ref 1 0 0 0),(14,.isl 3 (bI.map bU)),(15,.n .i64 cT),(16,.n .i64 d4)] [[ae.mk 2 [[.eo,.eo]] .live],[ae.mk 2 [[.bm 2 0 0 aA.length,.bm 3 0 0 aj.length]] .live],(af 4 bL aA),(af 3 bU aj)]
def FL (hB:List Int)(bI:List bP)(cT:Int)(aA:List bD):(List bP)→dp
 | a=>⟨some 0,[(4,.ref 0 0 0 0),(5,.ref 1 0 0 0)],[[ae.mk 2 [[.eo,.eo]] .live],[ae.mk 2 [[.bm 2 0 0 aA.length,.bm 3 0 0 a.length]] .live],(af 4 bL aA),(af 3 bU a)]⟩
def vU (hB:List Int)(bI:List bP)(cT:Int)(aA:List bD)(d4:Int)(aj:List bP):Option ((Int×(List bP))⊕((List bP))) :=
 if (decide (d4<cT))=true then
  if 0≤d4∧d4<bI.length then
  bI[d4.toNat]? >>= fun aI =>
  zU hB d4 >>= fun aM =>
  if aM=true then
   some (.inl (R (d4+(1:Int)),aj))
  else
   if (aj++([aI]:List bP)).length*24≤140737488355328 then
   some (.inl (R (d4+(1:Int)),aj++([aI]:List bP)))
   else none
  else none
 else
  some (.inr aj)
def Gv (hB:List Int)(bI:List bP)(cT:Int)(aA:List bD)(d4:Int)(aj:List bP):Option ((List bP)):=iter (fun w:Int×(List bP)=>vU hB bI cT aA w.1 w.2) (d4,aj)
theorem Tm {hB:List Int}{bI:List bP}{cT:Int}{aA:List bD}{d4:Int}{aj:List bP}:bz (vU hB bI cT aA d4 aj) (dQ a9 33 0 43 [1,1,0,1,0,0] (FD hB bI cT aA (d4,aj)) (FD hB bI cT aA) (FL hB bI cT aA)):=by
 unfold vU
 exact .ite (fun h1 =>
  .a0 fun o =>
  .au fun aI av =>
  .au fun aM aZ =>
  (let t1:List b2:=[(J 1),.aa true,.ax (bt 2 (.b9 (bU aI)) 3),.ax (bt 2 (bp 2 (.b aM) true) 1)];
  have aU:=((.dT h1 o.1 (cU bU o.2) (bX bU av) (Xi aM aZ) (b7.b aM)):cr _);
  .ite (fun bg =>
  .ret (bi (t1.append [.aa false,(J 2),.aO [0,1,2,3] [.box [.id,.id],.box [.id,.id],.pure,.pure] (ba [1,4,5,14,15,16])]) (aU.aJ (.bS (c0 bg) (aK 4 .live mD aA) (aK 3 .live lD aj)))))
  (fun bg =>
  .a0 fun bl =>
  .ret (let q1:=(aj++([aI]:List bP));bi (t1.append [.aa true,.ax (bt 4 (.aJ (q1.length)) 2),(J 2),.aO [0,1,2,19] [.box [.id,.id],.box [.id,.id],.pure,.cA (af 3 bU q1)] (ba [1,4,5,14,15,16])]) (aU.aJ (.gD (cS bg) (gv bU aI) (gO bU aj) (gw bU aj aI) bl (aK 4 .live mD aA) (cY 3 .live (gS bU aj aI)) (aK 3 .live lD q1)))))))
  (fun h1 =>
  .ret (bi [(J 1),.aa false,.aO [0,1,2,3] [.box [.id,.id],.box [.id,.id],.pure,.pure] (ba [4,5])] (.bS h1 (aK 4 .live mD aA) (aK 3 .live lD aj))))
theorem TZ {hB:List Int}{bI:List bP}{cT:Int}{aA:List bD}{d4:Int}{aj:List bP}{r} (h:Gv hB bI cT aA d4 aj=some r):dR a9 33 0 43 [1,1,0,1,0,0] (FD hB bI cT aA) (FL hB bI cT aA) (d4,aj) r:=dS (fun _=>Tm) h
def wQ (aL:ct)(hB:List Int):Option ct :=
 if (([]:List bD)++aL.bZ).length*40≤140737488355328 then
 Gv hB aL.bB (len_ bU aL.bB) (([]:List bD)++aL.bZ) 0 ([]:List bP) >>= fun b1 =>
 some (⟨([]:List bD)++aL.bZ,b1⟩:ct)
 else none
theorem UT {aL:ct}{hB:List Int}:bz (wQ aL hB) (fun r=>Con a9 43 [.agg (gE aL),.isl 1 (hB.map eI)] [] (.agg (gE r)) []):=by
 unfold wQ
 exact .a0 fun h1 =>
  .au fun b1 ab =>
  .ret (let q1:=(([]:List bD)++aL.bZ);bw [(J 2),.ax (bt 3 (.aJ (q1.length)) 3),(J 4),.ru 7 1 3,.aO [1,7,5,13] [.box [.id,.id],.box [.id,.len (([]:List bP).length)],.cA (af 4 bL q1),.cA (af 3 bU ([]:List bP))] (ba [1,4,5,14,15,16]),(FL hB aL.bB (len_ bU aL.bB) q1 b1).fc,(J 2)] (.bk (m7 (show []=(([]:List bD)).map bL from rfl) (eZ bD)) (lG (eZ bD) (cX bL aL.bZ):q1.length=0+(aL.bZ.map bL).length) h1 (eZ bP) (cY 4 .live (h6 (show []=(([]:List bD)).map bL from rfl) (eZ bD) (cX bL aL.bZ))) (aK 4 .live mD q1) (cY 3 .live (m0 bU)) (aK 3 .live lD ([]:List bP)) (.er (TZ ab) (f6 bL q1) (fC bL q1) (dw mD q1) (f6 bU b1) (fC bU b1) (dw lD b1))) (.bu (.agg [.ek (q1.map bL),.ek (b1.map bU)])))
def sN (aL:ct)(bY:List Int)(bs:Int):Option Bool :=
 rM aL bY >>= fun r1 =>
 if r1=true then
  mE bs 0 (R ((len_ bU aL.bB)-(1:Int))) >>= fun bb =>
  if bb=true then
   wQ aL ([bs]:List Int) >>= fun cb =>
   ud cb bY >>= fun cc =>
   some cc
  else
   some false
 else
  some false
theorem Wy {aL:ct}{bY:List Int}{bs:Int}:bz (sN aL bY bs) (fun r=>Con a9 25 [.agg (gE aL),.isl 1 (bY.map eI),.n .i64 bs] [] (.b r) []):=by
 unfold sN
 exact .au fun r1 o =>
  (have af:=((.aD (I0 r1 o) (b7.b r1)):cr _);
  .ite (fun ab =>
  .au fun bb az =>
  (have aU:=af.aJ (.bk ab ab ab ab ab ab (pL bb az) (b7.b bb) (.e1 ab));
  .ite (fun aZ =>
  .au fun cb bl =>
  .au fun cc cQ =>
  .ret (bw [(J 2),.ax (ah 2 (an (bp 2 (.b r1) true) (ah 6 (an (bp 3 (.b bb) true) (an (.aa true) (ah 4 (an (.sw 16 (.call {ac:=[ii,.bu (.di (.ek (([bs]:List Int).map eI)))],r:= .agg (gE cb),fB:=false,fI:=[16]})) (ah 1 (an (bp 2 (.b cc) true) (an (.aa true) (ah 1 [])))))))))))] (aU.aJ (.bk aZ aZ aZ aZ (kR (show [[.n .i64 bs]]=(([bs]:List Int)).map eI from rfl) (show 1=([bs]:List Int).length from rfl)) (gv eI bs) (dw aQ ([bs]:List Int)) (UT cb bl) (.dl aZ aZ (Np cc cQ) (b7.b cc) aZ)))))
  (fun aZ =>
  .ret (bw [(J 2),.ax (ah 2 (an (bp 2 (.b r1) true) (ah 6 (an (bp 3 (.b bb) true) (an (.aa true) (ah 1 (cn 6 (an (.aa false) (ah 1 [])))))))))] (aU.aJ (.er aZ aZ aZ aZ aZ aZ aZ))))))
  (fun ab =>
  .ret (bw [(J 2),.ax (ah 2 (an (bp 2 (.b r1) true) (ah 1 (cn 6 (an (.aa false) (ah 1 (cn 6 (ah 2 []))))))))] (af.aJ (.bk ab ab ab ab ab ab ab cP (.dl cP cP cP cP cP))))))
def Ft (bY:List Int)(bI:Int)(aG:List bD)(aE:List bP):(Int×(List Int))→S:=fun (cT,al)=>dm [(1,.isl 1 (bY.map eI)),(2,.ref 0 0 0 0),(5,.bm 1 0 0 al.length),(14,.n .i64 bI),(15,.n .i64 cT)] [[ae.mk 2 [[.isl 4 (aG.map bL),.isl 3 (aE.map bU)]] .live],(af 1 eI al)]
def My (bY:List Int)(bI:Int)(aG:List bD)(aE:List bP):(List Int)→dp
 | a=>⟨some 0,[(5,.bm 0 0 0 a.length)],[(af 1 eI a)]⟩
def vM (bY:List Int)(bI:Int)(aG:List bD)(aE:List bP)(cT:Int)(al:List Int):Option ((Int×(List Int))⊕((List Int))) :=
 if (decide (cT<bI))=true then
  sN (⟨aG,aE⟩:ct) bY cT >>= fun b1 =>
  if b1=true then
   some (.inl (R (cT+(1:Int)),al))
  else
   if (al++([cT]:List Int)).length*8≤140737488355328 then
   some (.inl (R (cT+(1:Int)),al++([cT]:List Int)))
   else none
 else
  some (.inr al)
def Gf (bY:List Int)(bI:Int)(aG:List bD)(aE:List bP)(cT:Int)(al:List Int):Option ((List Int)):=iter (fun w:Int×(List Int)=>vM bY bI aG aE w.1 w.2) (cT,al)
theorem Tc {bY:List Int}{bI:Int}{aG:List bD}{aE:List bP}{cT:Int}{al:List Int}:bz (vM bY bI aG aE cT al) (dQ a9 29 0 14 [1,1,1,0,1,0,0] (Ft bY bI aG aE (cT,al)) (Ft bY bI aG aE) (My bY bI aG aE)):=by
 unfold vM
 exact .ite (fun h1 =>
  .au fun b1 ab =>
  (let t1:List b2:=[(J 1),.aa true,(J 2),.ax (bt 3 (bp 3 (.b b1) true) 1)];
  have aU:=((.bS h1 (Wy b1 ab) (b7.b b1)):cr _);
  .ite (fun av =>
  .ret (bi (t1.append [.aa false,(J 2),.aO [0,1] [.box [.id,.id],.pure] (ba [1,2,5,14,15])]) (aU.aJ (.aD (c0 av) (aK 1 .live aQ al)))))
  (fun av =>
  .a0 fun az =>
  .ret (let q1:=(al++([cT]:List Int));bi (t1.append [.aa true,.ax (bt 3 (.aJ (q1.length)) 1),(J 2),.aO [0,13] [.box [.id,.id],.cA (af 1 eI q1)] (ba [1,2,5,14,15])]) (aU.aJ (.er (cS av) (gv eI cT) (gO eI al) (gw eI al cT) az (cY 1 .live (gS eI al cT)) (aK 1 .live aQ q1)))))))
  (fun h1 =>
  .ret (bi [(J 1),.aa false,.aO [1] [.pure] (ba [5])] (.aD h1 (aK 1 .live aQ al))))
theorem TO {bY:List Int}{bI:Int}{aG:List bD}{aE:List bP}{cT:Int}{al:List Int}{r} (h:Gf bY bI aG aE cT al=some r):dR a9 29 0 14 [1,1,1,0,1,0,0] (Ft bY bI aG aE) (My bY bI aG aE) (cT,al) r:=dS (fun _=>Tc) h
def y2 (aL:ct)(bY:List Int):Option (List Int) :=
 rM aL bY >>= fun r1 =>
 if r1=true then
  Gf bY (len_ bU aL.bB) aL.bZ aL.bB 0 ([]:List Int) >>= fun bb =>
  some bb
 else
  some ([]:List Int)
theorem Uo {aL:ct}{bY:List Int}:bz (y2 aL bY) (fun r=>Con a9 14 [.agg (gE aL),.isl 1 (bY.map eI)] [] (.isl 1 (r.map eI)) []):=by
 unfold y2
 exact .au fun r1 o =>
  (let t1:List b2:=[(J 2),.ax (bt 2 (bp 2 (.b r1) true) 1)];
  have aU:=((.aD (I0 r1 o) (b7.b r1)):cr _);
  .ite (fun ab =>
  .au fun bb az =>
  .ret (bw (t1.append [.aa false,(J 2),(J 4),.aO [0,6] [.box [.id,.id],.cA (af 1 eI ([]:List Int))] [(1,ii),(2,ii),(5,fV (([]:List Int).length)),(14,ii),(15,ii)],.sub (.exit 0) [(5,.bm 0 0 0 bb.length)] [(af 1 eI bb)],(J 2)]) (aU.aJ (.gD (c0 ab) (cY 1 .live (show []=(([]:List Int)).map eI from rfl)) (aK 1 .live aQ ([]:List Int)) (eZ Int) (TO az) (f6 eI bb) (fC eI bb) (dw aQ bb))) (.bu (.di (.ek (bb.map eI))))))
  (fun ab =>
  .ret (bw (t1.append [.aa true,(J 1)]) (aU.aJ (.e1 (cS ab))) (.bu (.di (.jj 1))))))
def zC (aL:ct)(bY:List Int):Option Bool :=
 ud aL bY >>= fun r1 =>
 if r1=true then
  y2 aL bY >>= fun bb =>
  some ((len_ eI bb) == (0:Int))
 else
  some false
theorem Wz {aL:ct}{bY:List Int}:bz (zC aL bY) (fun r=>Con a9 5 [.agg (gE aL),.isl 1 (bY.map eI)] [] (.b r) []):=by
 unfold zC
 exact .au fun r1 o =>
  (have af:=((.aD (Np r1 o) (b7.b r1)):cr _);
  .ite (fun ab =>
  .au fun bb az =>
  .ret (bw [(J 2),.ax (ah 2 (an (bp 2 (.b r1) true) (ah 3 (an (bp 2 (.isl 1 (bb.map eI)) false) (bt 2 (.aa true) 1)))))] (af.aJ (.er ab ab ab (Uo bb az) ab ab ab))))
  (fun ab =>
  .ret (bw [(J 2),.ax (ah 2 (an (bp 2 (.b r1) true) (ah 1 (cn 5 (an (.aa false) (ah 1 []))))))] (af.aJ (.dT ab ab ab ab ab ab)))))
def zD (qT:Int):Option Bool :=
 if (decide ((97:Int)≤qT))=true then
  some (decide (qT≤(122:Int)))
 else
  some false
theorem WA {qT:Int}:bz (zD qT) (fun r=>Con a9 118 [.n .u8 qT] [] (.b r) []):=by
 unfold zD
 exact .ite (fun h1 =>
  .ret (bw [(J 1),.ax (bt 5 (.aa true) 1)] (.bS h1 h1 h1)))
  (fun h1 =>
  .ret (bw [(J 1),.ax (ah 3 (cn 2 (an (.aa false) (ah 1 []))))] (.bS h1 h1 h1)))
def zL (qT:Int):Option Bool :=
 if (decide ((48:Int)≤qT))=true then
  some (decide (qT≤(57:Int)))
 else
  some false
theorem WX {qT:Int}:bz (zL qT) (fun r=>Con a9 119 [.n .u8 qT] [] (.b r) []):=by
 unfold zL
 exact .ite (fun h1 =>
  .ret (bw [(J 1),.ax (bt 5 (.aa true) 1)] (.bS h1 h1 h1)))
  (fun h1 =>
  .ret (bw [(J 1),.ax (ah 3 (cn 2 (an (.aa false) (ah 1 []))))] (.bS h1 h1 h1)))
def HC (aL:ByteArray)(jE:Int):Int→S:=fun gL=>dm [(0,.s aL),(5,.n .i64 jE),(6,.n .i64 gL)] []
def M7 (aL:ByteArray)(jE:Int):((Unit)⊕(Unit))→dp
 | .inl a=>⟨some 0,[(0,.s aL)],[]⟩
 | .inr a=>⟨none,[(2,.b false)],[]⟩
def y7 (aL:ByteArray)(jE gL:Int):Option ((Int)⊕((Unit)⊕(Unit))) :=
 if (decide (gL<jE))=true then
  if 0≤gL∧gL<(aL.size:Nat) then
  zD ((aL.data.toList.getD gL.toNat 0).toNat:Int) >>= fun bj =>
  if bj=true then
   some (.inl (R (gL+(1:Int))))
  else
   if (gL == (0:Int))=true then
    some (.inr (.inr ()))
   else
    zL ((aL.data.toList.getD gL.toNat 0).toNat:Int) >>= fun cb =>
    if cb=true then
     some (.inl (R (gL+(1:Int))))
    else
     some (.inr (.inr ()))
  else none
 else
  some (.inr (.inl ()))
def C0 (aL:ByteArray)(jE gL:Int):Option ((Unit)⊕(Unit)):=iter (fun w:Int=>y7 aL jE w) gL
theorem UU {aL:ByteArray}{jE gL:Int}:bz (y7 aL jE gL) (dQ a9 33 0 93 [1,0,1,0,0] (HC aL jE gL) (HC aL jE) (M7 aL jE)):=by
 unfold y7
 exact .ite (fun h1 =>
  .a0 fun o =>
  .au fun bj av =>
  (let t1:List b2:=[(J 1),.aa true,(J 2)];
  have aU:=((.dl h1 o.1 o.2 (WA bj av) (b7.b bj)):cr _);
  .ite (fun az =>
  .ret (bi (t1.append [.ax (ah 3 (an (bp 1 (.b bj) true) (ah 2 (cn 3 (ah 5 (cn 1 (an (.aa false) []))))))),.aa false,(J 2),.aO [] [] (ba [0,5,6])]) (aU.aJ (.dT (c0 az) (c0 az) (c0 az) (c0 az) (c0 az) cP))))
  (fun az =>
  (have fE:=aU.aJ (.bS (cS az) (cS az) (cS az));
  .ite (fun aZ =>
  .ret (bi (t1.append [.ax (ah 3 (an (bp 1 (.b bj) true) (ah 5 (cn 5 (an (.aa true) (an (.aa true) [])))))),.aa true,(J 1),.aO [] [] (ba [2])]) (fE.aJ (.bk aZ aZ aZ aZ aZ (cS az) aZ (cS az) (.e1 cB)))))
  (fun aZ =>
  .au fun cb bl =>
  (let t4:List b2:=t1.append [.ax (ah 3 (an (bp 1 (.b bj) true) (ah 8 (an (bp 1 (.b cb) true) (ah 1 (an (.aa false) (an (.aa true) [])))))))];
  have me:=fE.aJ (.bk aZ aZ aZ o.1 o.2 aZ (WX cb bl) (b7.b cb) (.da aZ (cS az) aZ (cS az)));
  .ite (fun cq =>
  .ret (bi (t4.append [.aa false,(J 2),.aO [] [] (ba [0,5,6])]) (me.aJ (.e1 (c0 cq)))))
  (fun cq =>
  .ret (bi (t4.append [.aa true,(J 1),.aO [] [] (ba [2])]) (me.aJ (.e1 (cS cq)))))))))))
  (fun h1 =>
  .ret (bi [(J 1),.aa false,.aO [] [] (ba [0])] (.e1 h1)))
theorem Ih {aL:ByteArray}{jE gL:Int}{r} (h:C0 aL jE gL=some r):dR a9 33 0 93 [1,0,1,0,0] (HC aL jE) (M7 aL jE) gL r:=dS (fun _=>UU) h
def zV (aL:ByteArray):Option Bool :=
 C0 aL (aL.size:Int) 0 >>= fun r1 =>
 match r1 with
 | .inl dn=>(if (!(aL.toList == (⟨#[]⟩:ByteArray).toList))=true then
  some (decide ((aL.size:Int)≤(8:Int)))
  else
   some false)
 | .inr dn=>(some false)
theorem Xj {aL:ByteArray}:bz (zV aL) (fun r=>Con a9 93 [.s aL] [] (.b r) []):=by
 unfold zV
 exact .au fun r1 o =>
  (let t1:List b2:=[(J 1),(J 3),.aO [] [] (ba [0,5,6])];
  (by
  rcases r1 with dn|dn
  ·exact ((let t2:List b2:=t1.append [.sub (.exit 0) [(0,.s aL)] []];
  .ite (fun av =>
  .ret (bw (t2.append [.ax (bt 6 (.aa true) 1)]) (.dl (Ih o) av av av av)))
  (fun av =>
  .ret (bw (t2.append [.ax (ah 3 (cn 3 (an (.aa false) (ah 1 []))))]) (.dl (Ih o) av av av av)))))
  ·exact (.ret (bw (t1.append [.sub (.ret) [(2,.b false)] []]) (.e1 (Ih o))))))
def xg (aY:Int):Option Bool :=
 if (decide ((-50:Int)≤aY))=true then
  some (decide (aY≤(50:Int)))
 else
  some false
theorem Nt {aY:Int}:bz (xg aY) (fun r=>Con a9 94 [.n .i64 aY] [] (.b r) []):=by
 unfold xg
 exact .ite (fun h1 =>
  .ret (bw [(J 1),.ax (bt 5 (.aa true) 1)] (.bS h1 h1 h1)))
  (fun h1 =>
  .ret (bw [(J 1),.ax (ah 3 (cn 2 (an (.aa false) (ah 1 []))))] (.bS h1 h1 h1)))
def zM (bT:bD):Option Bool :=
 zV bT.k9 >>= fun r1 =>
 if r1=true then
  xg bT.j2 >>= fun bb =>
  if bb=true then
   xg bT.j3 >>= fun cb =>
   some cb
  else
   some false
 else
  some false
theorem WY {bT:bD}:bz (zM bT) (fun r=>Con a9 62 [.agg (bL bT)] [] (.b r) []):=by
 unfold zM
 exact .au fun r1 o =>
  (have af:=((.aD (Xj r1 o) (b7.b r1)):cr _);
  .ite (fun ab =>
  .au fun bb az =>
  (have aU:=af.aJ (.dT ab ab ab (Nt bb az) (b7.b bb) ab);
  .ite (fun aZ =>
  .au fun cb bl =>
  .ret (bw [(J 2),.ax (ah 2 (an (bp 1 (.b r1) true) (ah 3 (an (bp 1 (.b bb) true) (an (.aa true) (ah 3 (an (bp 1 (.b cb) true) (an (.aa true) (ah 1 [])))))))))] (aU.aJ (.dT aZ aZ aZ (Nt cb bl) (b7.b cb) aZ))))
  (fun aZ =>
  .ret (bw [(J 2),.ax (ah 2 (an (bp 1 (.b r1) true) (ah 3 (an (bp 1 (.b bb) true) (an (.aa true) (ah 1 (cn 3 (an (.aa false) (ah 1 [])))))))))] (aU.aJ (.da aZ aZ aZ aZ))))))
  (fun ab =>
  .ret (bw [(J 2),.ax (ah 2 (an (bp 1 (.b r1) true) (ah 1 (cn 3 (an (.aa false) (ah 1 (cn 3 (ah 2 []))))))))] (af.aJ (.er ab ab ab ab cP cP cP)))))
def Ii (bT:bD)(di:ByteArray):Option Bool :=
 some (bT.k9.toList == di.toList)
theorem Vj {bT:bD}{di:ByteArray}:bz (Ii bT di) (fun r=>Con a9 96 [.agg (bL bT),.eb 1 [[.s di]] 0 0] [] (.b r) []):=by
 unfold Ii
 exact .ret (bw [(J 2),(J 5)] .nil)
def E3 (aL:List bD)(jS:ByteArray)(du:Int):Int→S:=fun dk=>dm [(0,.isl 4 (aL.map bL)),(1,.fn 96 [.eb 1 [[.s jS]] 0 0]),(7,.n .i64 du),(8,.n .i64 dk)] []
def Mn (aL:List bD)(jS:ByteArray)(du:Int):((Unit)⊕(Int))→dp
 | .inl a=>⟨some 0,[],[]⟩
 | .inr a=>⟨none,[(4,.n .i64 a)],[]⟩
def E4 (aL:List bD)(jS:ByteArray)(du dk:Int):Option ((Int)⊕((Unit)⊕(Int))) :=
 if (decide (dk<du))=true then
  if 0≤dk∧dk<aL.length then
  aL[dk.toNat]? >>= fun aI =>
  Ii aI jS >>= fun aM =>
  if aM=true then
   some (.inr (.inr dk))
  else
   some (.inl (R (dk+(1:Int))))
  else none
 else
  some (.inr (.inl ()))
def Cl (aL:List bD)(jS:ByteArray)(du dk:Int):Option ((Unit)⊕(Int)):=iter (fun w:Int=>E4 aL jS du w) dk
theorem SQ {aL:List bD}{jS:ByteArray}{du dk:Int}:bz (E4 aL jS du dk) (dQ a9 19 0 95 [1,0,1,0,0] (E3 aL jS du dk) (E3 aL jS du) (Mn aL jS du)):=by
 unfold E4
 exact .ite (fun h1 =>
  .a0 fun o =>
  .au fun aI av =>
  .au fun aM aZ =>
  (let t1:List b2:=[(J 1),.aa true,(J 2),.ax (ah 4 (an (.b9 (bL aI)) (an (bp 2 (.b aM) true) [])))];
  have aU:=((.dT h1 o.1 (cU bL o.2) (bX bL av) (Vj aM aZ) (b7.b aM)):cr _);
  .ite (fun bg =>
  .ret (bi (t1.append [.aa true,(J 2),.aO [] [] (ba [4])]) (aU.aJ (.e1 bg))))
  (fun bg =>
  .ret (bi (t1.append [.aa false,(J 2),.aO [] [] [(0,ii),(1,.comp [.di .id]),(7,ii),(8,ii)]]) (aU.aJ (.e1 bg))))))
  (fun h1 =>
  .ret (bi [(J 1),.aa false,.aO [] [] []] (.e1 h1)))
theorem Mp {aL:List bD}{jS:ByteArray}{du dk:Int}{r} (h:Cl aL jS du dk=some r):dR a9 19 0 95 [1,0,1,0,0] (E3 aL jS du) (Mn aL jS du) dk r:=dS (fun _=>SQ) h
def Cp (aL:List bD)(oq:ByteArray):Option Int :=
 Cl aL oq (len_ bL aL) 0 >>= fun r1 =>
 match r1 with
 | .inl dn=>(some (-1))
 | .inr dn=>(some dn)
theorem S9 {aL:List bD}{oq:ByteArray}:bz (Cp aL oq) (fun r=>Con a9 95 [.isl 4 (aL.map bL),.fn 96 [.eb 1 [[.s oq]] 0 0]] [] (.n .i64 r) []):=by
 unfold Cp
 exact .au fun r1 o =>
  (let t1:List b2:=[(J 1),(J 3),.aO [] [] [(0,ii),(1,.comp [.di .id]),(7,ii),(8,ii)]];
  (by
  rcases r1 with dn|dn
  ·exact (.ret (bw (t1.append [.sub (.exit 0) [] [],(J 1)]) (.e1 (Mp o))))
  ·exact (.ret (bw (t1.append [.sub (.ret) [(4,.n .i64 dn)] []]) (.e1 (Mp o))))))
def zk (aL:ct)(kw:ByteArray):Option Int :=
 Cp aL.bZ kw >>= fun r1 =>
 some r1
theorem VV {aL:ct}{kw:ByteArray}:bz (zk aL kw) (fun r=>Con a9 63 [.agg (gE aL),.s kw] [] (.n .i64 r) []):=by
 unfold zk
 exact .au fun r1 o =>
  .ret (bw [(J 3),.ax (bt 3 (.call {ac:=[ii,.comp [.ptr [.id]]],r:= .n .i64 r1,fB:=true,fI:=[1]}) 1)] (.bS (pR (PU kw):jo [[.s kw]]) (S9 r1 o) (b7.n .i64 r1)))
def yV (aL:ct)(mr:bP):Option Bool :=
 if (decide (mr.dI<(0:Int)))=true then
  some false
 else
  if (decide ((len_ bL aL.bZ)≤mr.dI))=true then
   some false
  else
   if (decide (mr.el<(0:Int)))=true then
    some false
   else
    if (decide ((len_ bL aL.bZ)≤mr.el))=true then
     some false
    else
     if (decide (mr.iY<(1:Int)))=true then
      some false
     else
      if (decide ((3:Int)<mr.iY))=true then
       some false
      else
       if 0≤mr.dI∧mr.dI<aL.bZ.length then
       aL.bZ[mr.dI.toNat]? >>= fun mb =>
       if 0≤mr.el∧mr.el<aL.bZ.length then
       aL.bZ[mr.el.toNat]? >>= fun pB =>
       if (mb.j2 != pB.j2)=true then
        if mb.k6=true then
         some (!pB.k6)
        else
         some true
       else
        if (mb.j3 != pB.j3)=true then
         if mb.k6=true then
          some (!pB.k6)
         else
          some true
        else
         some false
       else none
       else none
theorem TP {aL:ct}{mr:bP}:bz (yV aL mr) (fun r=>Con a9 66 [.eb 2 [(gE aL)] 0 0,.agg (bU mr)] [] (.b r) []):=by
 unfold yV
 exact .ite (fun h1 =>
  .ret (bw [(J 2),(J 6),.ax (ah 4 (cn 4 (an (.aa true) (ah 1 (cn 3 (ah 2 (cn 4 (ah 2 (cn 3 (ah 2 (cn 3 (ah 1 [])))))))))))),.aa true,(J 1)] (.bk h1 h1 h1 h1 h1 cB cB cB (.bk cB cB cB cB cB cB cB cB (.bS cB cB cB)))))
  (fun h1 =>
  .ite (fun o =>
  .ret (bw [(J 2),(J 6),.ax (ah 8 (an (.aa false) (ah 1 (cn 3 (an (.aa true) (ah 1 (cn 4 (ah 2 (cn 3 (ah 2 (cn 3 (ah 1 [])))))))))))),.aa true,(J 1)] (.bk h1 h1 h1 h1 h1 o o o (.bk o cB cB cB cB cB cB cB (.da cB cB cB cB)))))
  (fun o =>
  (have af:=((.bk h1 h1 h1 h1 h1 o o o (.e1 o)):cr _);
  .ite (fun ab =>
  .ret (bw [(J 2),(J 6),.ax (ah 8 (an (.aa false) (ah 4 (an (.aa false) (ah 1 (cn 4 (an (.aa true) (ah 1 (cn 3 (ah 2 (cn 3 (ah 1 [])))))))))))),.aa true,(J 1)] (af.aJ (.bk ab ab ab ab ab cB cB cB (.da cB cB cB cB)))))
  (fun ab =>
  .ite (fun av =>
  .ret (bw [(J 2),(J 6),.ax (ah 8 (an (.aa false) (ah 4 (an (.aa false) (ah 5 (an (.aa false) (ah 1 (cn 3 (an (.aa true) (ah 1 (cn 3 (ah 1 [])))))))))))),.aa true,(J 1)] (af.aJ (.bk ab ab ab ab ab av av av (.dl av cB cB cB cB)))))
  (fun av =>
  (have aU:=af.aJ (.bk ab ab ab ab ab av av av (.e1 av));
  .ite (fun az =>
  .ret (bw [(J 2),(J 6),.ax (ah 8 (an (.aa false) (ah 4 (an (.aa false) (ah 5 (an (.aa false) (ah 4 (an (.aa false) (ah 1 (cn 3 (an (.aa true) []))))))))))),.aa true,(J 1)] (aU.aJ (.dl az az az az cB))))
  (fun az =>
  (let t3:List b2:=[(J 2),(J 6),.ax (ah 8 (an (.aa false) (ah 4 (an (.aa false) (ah 5 (an (.aa false) (ah 4 (an (.aa false) (ah 4 (an (.aa false) []))))))))))];
  .ite (fun aZ =>
  .ret (bw (t3.append [.aa true,(J 1)]) (aU.aJ (.dl az az az az aZ))))
  (fun aZ =>
  .a0 fun bg =>
  .au fun mb cq =>
  .a0 fun cQ =>
  .au fun pB eV =>
  (let t4:List b2:=t3.append [.aa false,.ax (ah 7 (an (.b9 (bL mb)) (bt 7 (.b9 (bL pB)) 4)))];
  have me:=aU.aJ (.bk az az az az aZ bg.1 (cU bL bg.2) (bX bL cq) (.bS cQ.1 (cU bL cQ.2) (bX bL eV)));
  .ite (fun et =>
  (have kH:=me.aJ (.bk et et et et et et cB cB (.e1 cB));
  .ite (fun eB =>
  .ret (bw (t4.append [.ax (ah 6 (cn 5 (an (.aa true) (bt 6 (.aa true) 3))))]) (kH.aJ (.dl eB eB cB eB cB))))
  (fun eB =>
  .ret (bw (t4.append [.ax (ah 6 (cn 5 (an (.aa true) (ah 4 (cn 2 (an (.aa false) (ah 3 [])))))))]) (kH.aJ (.dl eB eB cB eB cB))))))
  (fun et =>
  .ite (fun eB =>
  (have kH:=me.aJ (.bk et et et et et et eB eB (.e1 eB));
  .ite (fun fR =>
  .ret (bw (t4.append [.ax (ah 11 (an (.aa false) (ah 6 (an (.aa true) (bt 1 (.aa true) 1)))))]) (kH.aJ (.dT fR fR eB fR eB eB))))
  (fun fR =>
  .ret (bw (t4.append [.ax (ah 11 (an (.aa false) (ah 4 (cn 2 (an (.aa false) (bt 1 (.aa true) 1))))))]) (kH.aJ (.dT fR fR eB fR eB eB))))))
  (fun eB =>
  .ret (bw (t4.append [.ax (ah 11 (an (.aa false) (ah 1 (cn 3 (ah 2 (cn 2 (an (.aa false) (ah 1 []))))))))]) (me.aJ (.bk et et et et et et eB eB (.da eB eB eB eB))))))))))))))))
def tX (mr:bP)(di:ct):Option Bool :=
 yV di mr >>= fun r1 =>
 some (!r1)
theorem Vf {mr:bP}{di:ct}:bz (tX mr di) (fun r=>Con a9 65 [.agg (bU mr),.eb 2 [(gE di)] 0 0] [] (.b r) []):=by
 unfold tX
 exact .au fun r1 o =>
  .ret (bw [(J 2),.ax (bt 1 (bp 2 (.b r1) true) 2)] (.aD (TP r1 o) (b7.b r1)))
def E2 (aL:List bP)(jS:List bD)(ot:List bP)(du:Int):Int→S:=fun dk=>dm [(0,.isl 3 (aL.map bU)),(1,.fn 65 [.eb 2 [[.isl 4 (jS.map bL),.isl 3 (ot.map bU)]] 0 0]),(7,.n .i64 du),(8,.n .i64 dk)] []
def Mm (aL:List bP)(jS:List bD)(ot:List bP)(du:Int):((Unit)⊕(Int))→dp
 | .inl a=>⟨some 0,[],[]⟩
 | .inr a=>⟨none,[(4,.n .i64 a)],[]⟩
def nQ (aL:List bP)(jS:List bD)(ot:List bP)(du dk:Int):Option ((Int)⊕((Unit)⊕(Int))) :=
 if (decide (dk<du))=true then
  if 0≤dk∧dk<aL.length then
  aL[dk.toNat]? >>= fun aI =>
  tX aI (⟨jS,ot⟩:ct) >>= fun aM =>
  if aM=true then
   some (.inr (.inr dk))
  else
   some (.inl (R (dk+(1:Int))))
  else none
 else
  some (.inr (.inl ()))
def tJ (aL:List bP)(jS:List bD)(ot:List bP)(du dk:Int):Option ((Unit)⊕(Int)):=iter (fun w:Int=>nQ aL jS ot du w) dk
theorem SP {aL:List bP}{jS:List bD}{ot:List bP}{du dk:Int}:bz (nQ aL jS ot du dk) (dQ a9 19 0 97 [1,0,1,0,0] (E2 aL jS ot du dk) (E2 aL jS ot du) (Mm aL jS ot du)):=by
 unfold nQ
 exact .ite (fun h1 =>
  .a0 fun o =>
  .au fun aI av =>
  .au fun aM aZ =>
  (let t1:List b2:=[(J 1),.aa true,(J 2),.ax (ah 4 (an (.b9 (bU aI)) (an (bp 2 (.b aM) true) [])))];
  have aU:=((.dT h1 o.1 (cU bU o.2) (bX bU av) (Vf aM aZ) (b7.b aM)):cr _);
  .ite (fun bg =>
  .ret (bi (t1.append [.aa true,(J 2),.aO [] [] (ba [4])]) (aU.aJ (.e1 bg))))
  (fun bg =>
  .ret (bi (t1.append [.aa false,(J 2),.aO [] [] [(0,ii),(1,.comp [.di .id]),(7,ii),(8,ii)]]) (aU.aJ (.e1 bg))))))
  (fun h1 =>
  .ret (bi [(J 1),.aa false,.aO [] [] []] (.e1 h1)))
theorem Mo {aL:List bP}{jS:List bD}{ot:List bP}{du dk:Int}{r} (h:tJ aL jS ot du dk=some r):dR a9 19 0 97 [1,0,1,0,0] (E2 aL jS ot du) (Mm aL jS ot du) dk r:=dS (fun _=>SP) h
def yQ (aL:List bP)(oq:ct):Option Int :=
 tJ aL oq.bZ oq.bB (len_ bU aL) 0 >>= fun r1 =>
 match r1 with
 | .inl dn=>(some (-1))
 | .inr dn=>(some dn)
theorem S3 {aL:List bP}{oq:ct}:bz (yQ aL oq) (fun r=>Con a9 97 [.isl 3 (aL.map bU),.fn 65 [.eb 2 [(gE oq)] 0 0]] [] (.n .i64 r) []):=by
 unfold yQ
 exact .au fun r1 o =>
  (let t1:List b2:=[(J 1),(J 3),.aO [] [] [(0,ii),(1,.comp [.di .id]),(7,ii),(8,ii)]];
  (by
  rcases r1 with dn|dn
  ·exact (.ret (bw (t1.append [.sub (.exit 0) [] [],(J 1)]) (.e1 (Mo o))))
  ·exact (.ret (bw (t1.append [.sub (.ret) [(4,.n .i64 dn)] []]) (.e1 (Mo o))))))
def yO (aL:List bP)(oq:ct):Option Bool :=
 yQ aL oq >>= fun r1 =>
 some (decide ((0:Int)≤r1))
theorem SY {aL:List bP}{oq:ct}:bz (yO aL oq) (fun r=>Con a9 64 [.isl 3 (aL.map bU),.fn 65 [.eb 2 [(gE oq)] 0 0]] [] (.b r) []):=by
 unfold yO
 exact .au fun r1 o =>
  .ret (bw [(J 1),.ax (bt 2 (bp 2 (.n .i64 r1) true) 2)] (.aD (S3 r1 o) (b7.n .i64 r1)))
def FX (d4:List bD)(oE:Int)(aE:List bP):Int→S:=fun n3=>dm [(1,.ref 0 0 0 0),(16,.isl 4 (d4.map bL)),(17,.n .i64 oE),(18,.n .i64 n3)] [[ae.mk 2 [[.isl 4 (d4.map bL),.isl 3 (aE.map bU)]] .live]]
def Gg (d4:List bD)(oE:Int)(aE:List bP):((Unit)⊕(Unit))→dp
 | .inl a=>⟨some 0,[(1,.ref 0 0 0 0)],[[ae.mk 2 [[.isl 4 (d4.map bL),.isl 3 (aE.map bU)]] .live]]⟩
 | .inr a=>⟨none,[(2,.b false)],[]⟩
def Cu (d4:List bD)(oE:Int)(aE:List bP)(n3:Int):Option ((Int)⊕((Unit)⊕(Unit))) :=
 if (decide (n3<oE))=true then
  if 0≤n3∧n3<d4.length then
  d4[n3.toNat]? >>= fun aI =>
  zM aI >>= fun aM =>
  if aM=true then
   zk (⟨d4,aE⟩:ct) aI.k9 >>= fun c4 =>
   if (c4 != n3)=true then
    some (.inr (.inr ()))
   else
    some (.inl (R (n3+(1:Int))))
  else
   some (.inr (.inr ()))
  else none
 else
  some (.inr (.inl ()))
def CE (d4:List bD)(oE:Int)(aE:List bP)(n3:Int):Option ((Unit)⊕(Unit)):=iter (fun w:Int=>Cu d4 oE aE w) n3
theorem TB {d4:List bD}{oE:Int}{aE:List bP}{n3:Int}:bz (Cu d4 oE aE n3) (dQ a9 40 0 44 [1,1,0,1,0,0] (FX d4 oE aE n3) (FX d4 oE aE) (Gg d4 oE aE)):=by
 unfold Cu
 exact .ite (fun h1 =>
  .a0 fun o =>
  .au fun aI av =>
  .au fun aM aZ =>
  (let t1:List b2:=[(J 1),.aa true,.ax (bt 2 (.b9 (bL aI)) 3)];
  have aU:=((.dT h1 o.1 (cU bL o.2) (bX bL av) (WY aM aZ) (b7.b aM)):cr _);
  .ite (fun bg =>
  .au fun c4 cq =>
  (let t3:List b2:=t1.append [.ax (ah 1 (an (bp 1 (.b aM) true) (ah 5 (an (bp 2 (.n .i64 c4) true) (ah 2 (an (.aa false) []))))))];
  have eS:=aU.aJ (.bk (c0 bg) (c0 bg) (c0 bg) (c0 bg) (VV c4 cq) (b7.n .i64 c4) (c0 bg) (c0 bg) (.e1 (c0 bg)));
  .ite (fun cQ =>
  .ret (bi (t3.append [.aa true,(J 1),.aO [] [] (ba [2])]) (eS.aJ (.e1 cQ))))
  (fun cQ =>
  .ret (bi (t3.append [.aa false,(J 2),.aO [0] [.box [.id,.id]] (ba [1,16,17,18])]) (eS.aJ (.e1 cQ))))))
  (fun bg =>
  .ret (bi (t1.append [.ax (ah 1 (an (bp 1 (.b aM) true) (ah 2 (cn 6 (an (.aa true) []))))),.aa true,(J 1),.aO [] [] (ba [2])]) (aU.aJ (.gD (cS bg) (cS bg) (cS bg) (cS bg) (cS bg) (cS bg) (cS bg) cB))))))
  (fun h1 =>
  .ret (bi [(J 1),.aa false,.aO [0] [.box [.id,.id]] (ba [1])] (.e1 h1)))
theorem MK {d4:List bD}{oE:Int}{aE:List bP}{n3:Int}{r} (h:CE d4 oE aE n3=some r):dR a9 40 0 44 [1,1,0,1,0,0] (FX d4 oE aE) (Gg d4 oE aE) n3 r:=dS (fun _=>TB) h
def w3 (aL:ct):Option Bool :=
 if (decide ((6:Int)<(len_ bL aL.bZ)))=true then
  some false
 else
  if (decide ((8:Int)<(len_ bU aL.bB)))=true then
   some false
  else
   CE aL.bZ (len_ bL aL.bZ) aL.bB 0 >>= fun bj =>
   match bj with
   | .inl fS=>(yO aL.bB aL >>= fun cj =>
    some (!cj))
   | .inr fS=>(some false)
theorem VF {aL:ct}:bz (w3 aL) (fun r=>Con a9 44 [.agg (gE aL)] [] (.b r) []):=by
 unfold w3
 exact .ite (fun h1 =>
  .ret (bw [(J 2),.ax (ah 5 (cn 4 (an (.aa true) []))),.aa true,(J 1)] (.dT h1 h1 h1 h1 h1 cB)))
  (fun h1 =>
  (let t1:List b2:=[(J 2),.ax (ah 9 (an (.aa false) []))];
  .ite (fun o =>
  .ret (bw (t1.append [.aa true,(J 1)]) (.dT h1 h1 h1 h1 h1 o)))
  (fun o =>
  .au fun bj av =>
  (let t2:List b2:=t1.append [.aa false,(J 4),.aO [0] [.box [.id,.id]] (ba [1,16,17,18])];
  (by
  rcases bj with fS|fS
  ·exact (.au fun cj bg =>
  .ret (bw (t2.append [(Gg aL.bZ (len_ bL aL.bZ) aL.bB (.inl fS)).fc,.ax (bt 3 (.call {ac:=[ii,.comp [.ptr [.id,.id]]],r:= .b cj,fB:=true,fI:=[0]}) 2)]) (.bk h1 h1 h1 h1 h1 o (MK av) (pR (za aL):jo [(gE aL)]) (.aD (SY cj bg) (b7.b cj)))))
  ·exact (.ret (bw (t2.append [.sub (.ret) [(2,.b false)] []]) (.er h1 h1 h1 h1 h1 o (MK av)))))))))
def zN (aY:Int):Option Bool :=
 if (decide ((-100:Int)≤aY))=true then
  some (decide (aY≤(100:Int)))
 else
  some false
theorem WZ {aY:Int}:bz (zN aY) (fun r=>Con a9 69 [.n .i64 aY] [] (.b r) []):=by
 unfold zN
 exact .ite (fun h1 =>
  .ret (bw [(J 1),.ax (bt 5 (.aa true) 1)] (.bS h1 h1 h1)))
  (fun h1 =>
  .ret (bw [(J 1),.ax (ah 3 (cn 2 (an (.aa false) (ah 1 []))))] (.bS h1 h1 h1)))
def CQ (aY:Int):Option Bool :=
 zN aY >>= fun r1 =>
 some (!r1)
theorem VW {aY:Int}:bz (CQ aY) (fun r=>Con a9 68 [.n .i64 aY] [] (.b r) []):=by
 unfold CQ
 exact .au fun r1 o =>
  .ret (bw [(J 1),.ax (bt 1 (bp 1 (.b r1) true) 2)] (.aD (WZ r1 o) (b7.b r1)))
def E5 (aL:List Int)(du:Int):Int→S:=fun dk=>dm [(0,.isl 1 (aL.map eI)),(1,.fn 68 []),(7,.n .i64 du),(8,.n .i64 dk)] []
def Mq (aL:List Int)(du:Int):((Unit)⊕(Int))→dp
 | .inl a=>⟨some 0,[],[]⟩
 | .inr a=>⟨none,[(4,.n .i64 a)],[]⟩
def vD (aL:List Int)(du dk:Int):Option ((Int)⊕((Unit)⊕(Int))) :=
 if (decide (dk<du))=true then
  if 0≤dk∧dk<aL.length then
  aL[dk.toNat]? >>= fun aI =>
  CQ aI >>= fun aM =>
  if aM=true then
   some (.inr (.inr dk))
  else
   some (.inl (R (dk+(1:Int))))
  else none
 else
  some (.inr (.inl ()))
def Fk (aL:List Int)(du dk:Int):Option ((Unit)⊕(Int)):=iter (fun w:Int=>vD aL du w) dk
theorem SR {aL:List Int}{du dk:Int}:bz (vD aL du dk) (dQ a9 19 0 98 [1,0,1,0,0] (E5 aL du dk) (E5 aL du) (Mq aL du)):=by
 unfold vD
 exact .ite (fun h1 =>
  .a0 fun o =>
  .au fun aI av =>
  .au fun aM aZ =>
  (let t1:List b2:=[(J 1),.aa true,(J 2),.ax (ah 4 (an (.b9 (eI aI)) (an (bp 1 (.b aM) true) [])))];
  have aU:=((.dT h1 o.1 (cU eI o.2) (bX eI av) (VW aM aZ) (b7.b aM)):cr _);
  .ite (fun bg =>
  .ret (bi (t1.append [.aa true,(J 2),.aO [] [] (ba [4])]) (aU.aJ (.e1 bg))))
  (fun bg =>
  .ret (bi (t1.append [.aa false,(J 2),.aO [] [] (ba [0,1,7,8])]) (aU.aJ (.e1 bg))))))
  (fun h1 =>
  .ret (bi [(J 1),.aa false,.aO [] [] []] (.e1 h1)))
theorem Mr {aL:List Int}{du dk:Int}{r} (h:Fk aL du dk=some r):dR a9 19 0 98 [1,0,1,0,0] (E5 aL du) (Mq aL du) dk r:=dS (fun _=>SR) h
def Cr (aL:List Int):Option Int :=
 Fk aL (len_ eI aL) 0 >>= fun r1 =>
 match r1 with
 | .inl dn=>(some (-1))
 | .inr dn=>(some dn)
theorem Tn {aL:List Int}:bz (Cr aL) (fun r=>Con a9 98 [.isl 1 (aL.map eI),.fn 68 []] [] (.n .i64 r) []):=by
 unfold Cr
 exact .au fun r1 o =>
  (let t1:List b2:=[(J 1),(J 3),.aO [] [] (ba [0,1,7,8])];
  (by
  rcases r1 with dn|dn
  ·exact (.ret (bw (t1.append [.sub (.exit 0) [] [],(J 1)]) (.e1 (Mr o))))
  ·exact (.ret (bw (t1.append [.sub (.ret) [(4,.n .i64 dn)] []]) (.e1 (Mr o))))))
def Cm (aL:List Int):Option Bool :=
 Cr aL >>= fun r1 =>
 some (decide ((0:Int)≤r1))
theorem S4 {aL:List Int}:bz (Cm aL) (fun r=>Con a9 67 [.isl 1 (aL.map eI),.fn 68 []] [] (.b r) []):=by
 unfold Cm
 exact .au fun r1 o =>
  .ret (bw [(J 1),.ax (bt 2 (bp 2 (.n .i64 r1) true) 2)] (.aD (Tn r1 o) (b7.n .i64 r1)))
def zE (aL:ct)(bY:List Int):Option Bool :=
 if ((len_ eI bY) == (R ((2:Int)*(len_ bL aL.bZ))))=true then
  Cm bY >>= fun b1 =>
  some (!b1)
 else
  some false
theorem WB {aL:ct}{bY:List Int}:bz (zE aL bY) (fun r=>Con a9 45 [.eb 2 [(gE aL)] 0 0,.isl 1 (bY.map eI)] [] (.b r) []):=by
 unfold zE
 exact .ite (fun h1 =>
  .au fun b1 ab =>
  .ret (bw [(J 1),.ax (ah 11 (an (bp 2 (.b b1) true) (bt 1 (.aa true) 1)))] (.dT h1 h1 (S4 b1 ab) (b7.b b1) h1 h1)))
  (fun h1 =>
  .ret (bw [(J 1),.ax (ah 10 (cn 3 (an (.aa false) (ah 1 []))))] (.da h1 h1 h1 h1)))
def sR (aL:ct)(bY:List Int):Option Bool :=
 w3 aL >>= fun r1 =>
 if r1=true then
  zE aL bY >>= fun bb =>
  some bb
 else
  some false
theorem Ja {aL:ct}{bY:List Int}:bz (sR aL bY) (fun r=>Con a9 28 [.agg (gE aL),.isl 1 (bY.map eI)] [] (.b r) []):=by
 unfold sR
 exact .au fun r1 o =>
  (have af:=((.aD (VF r1 o) (b7.b r1)):cr _);
  .ite (fun ab =>
  .au fun bb az =>
  .ret (bw [(J 2),.ax (ah 1 (an (bp 1 (.b r1) true) (ah 2 (an (.call {ac:=[.bu (.ptr [.id,.id]),ii],r:= .b bb,fB:=true,fI:=[0]}) (an (.aa true) (ah 1 []))))))] (af.aJ (.dT ab ab (pR (za aL):jo [(gE aL)]) (WB bb az) (b7.b bb) ab))))
  (fun ab =>
  .ret (bw [(J 2),.ax (ah 1 (an (bp 1 (.b r1) true) (ah 1 (cn 2 (an (.aa false) (ah 1 []))))))] (af.aJ (.bS ab ab ab)))))
def Ff (d7:List bD)(c1:Int):(Int×(List Int))→S:=fun (c2,ad)=>dm [(3,.bm 0 0 0 ad.length),(9,.isl 4 (d7.map bL)),(10,.n .i64 c1),(11,.n .i64 c2)] [(af 1 eI ad)]
def Mt (d7:List bD)(c1:Int):(List Int)→dp
 | a=>⟨some 0,[(3,.bm 0 0 0 a.length)],[(af 1 eI a)]⟩
def yP (d7:List bD)(c1 c2:Int)(ad:List Int):Option ((Int×(List Int))⊕((List Int))) :=
 if (decide (c2<c1))=true then
  if 0≤c2∧c2<d7.length then
  d7[c2.toNat]? >>= fun aI =>
  if aI.k6=true then
   some (.inl (R (c2+(1:Int)),ad))
  else
   if (ad++([c2]:List Int)).length*8≤140737488355328 then
   some (.inl (R (c2+(1:Int)),ad++([c2]:List Int)))
   else none
  else none
 else
  some (.inr ad)
def Fu (d7:List bD)(c1 c2:Int)(ad:List Int):Option ((List Int)):=iter (fun w:Int×(List Int)=>yP d7 c1 w.1 w.2) (c2,ad)
theorem SZ {d7:List bD}{c1 c2:Int}{ad:List Int}:bz (yP d7 c1 c2 ad) (dQ a9 25 0 72 [1,1,0,1,0,0] (Ff d7 c1 (c2,ad)) (Ff d7 c1) (Mt d7 c1)):=by
 unfold yP
 exact .ite (fun h1 =>
  .a0 fun o =>
  .au fun aI av =>
  (let t1:List b2:=[(J 1),.aa true,.ax (bt 2 (.b9 (bL aI)) 3),(J 3)];
  have aU:=((.da h1 o.1 (cU bL o.2) (bX bL av)):cr _);
  .ite (fun az =>
  .ret (bi (t1.append [.aa false,(J 2),.aO [0] [.pure] (ba [3,9,10,11])]) (aU.aJ (.aD (c0 az) (aK 1 .live aQ ad)))))
  (fun az =>
  .a0 fun aZ =>
  .ret (let q1:=(ad++([c2]:List Int));bi (t1.append [.aa true,.ax (bt 3 (.aJ (q1.length)) 1),(J 2),.aO [14] [.cA (af 1 eI q1)] (ba [3,9,10,11])]) (aU.aJ (.er (cS az) (gv eI c2) (gO eI ad) (gw eI ad c2) aZ (cY 1 .live (gS eI ad c2)) (aK 1 .live aQ q1)))))))
  (fun h1 =>
  .ret (bi [(J 1),.aa false,.aO [0] [.pure] (ba [3])] (.aD h1 (aK 1 .live aQ ad))))
theorem Td {d7:List bD}{c1 c2:Int}{ad:List Int}{r} (h:Fu d7 c1 c2 ad=some r):dR a9 25 0 72 [1,1,0,1,0,0] (Ff d7 c1) (Mt d7 c1) (c2,ad) r:=dS (fun _=>SZ) h
def vX (aL:ct):Option (List Int) :=
 Fu aL.bZ (len_ bL aL.bZ) 0 ([]:List Int) >>= fun r1 =>
 some r1
theorem Mx {aL:ct}:bz (vX aL) (fun r=>Con a9 72 [.eb 2 [(gE aL)] 0 0] [] (.isl 1 (r.map eI)) []):=by
 unfold vX
 exact .au fun r1 o =>
  .ret (bw [(J 1),(J 1),(J 6),.sd 3 1,.aO [8] [.cA (af 1 eI ([]:List Int))] [(3,fV (([]:List Int).length)),(9,ii),(10,ii),(11,ii)],.sub (.exit 0) [(3,.bm 0 0 0 r1.length)] [(af 1 eI r1)],(J 2)] (.er (cY 1 .live (m0 eI)) (aK 1 .live aQ ([]:List Int)) (eZ Int) (Td o) (f6 eI r1) (fC eI r1) (dw aQ r1)) (.bu (.di (.ek (r1.map eI)))))
def tR (aL:ct)(bs:Int):Option (Int×Int) :=
 if 0≤bs∧bs<aL.bB.length then
 aL.bB[bs.toNat]? >>= fun dY =>
 if 0≤dY.el∧dY.el<aL.bZ.length then
 aL.bZ[dY.el.toNat]? >>= fun kt =>
 if 0≤dY.dI∧dY.dI<aL.bZ.length then
 aL.bZ[dY.dI.toNat]? >>= fun mb =>
 some (R (kt.j2-mb.j2),R (kt.j3-mb.j3))
 else none
 else none
 else none
theorem Ug {aL:ct}{bs:Int}:bz (tR aL bs) (fun r=>Con a9 99 [.eb 2 [(gE aL)] 0 0,.n .i64 bs] [] (.dX [.n .i64 r.1,.n .i64 r.2]) []):=by
 unfold tR
 exact .a0 fun h1 =>
  .au fun dY ab =>
  .a0 fun av =>
  .au fun kt aZ =>
  .a0 fun bg =>
  .au fun mb cq =>
  .ret (bw [(J 2),.ax (bt 6 (.b9 (bU dY)) 2),.ax (ah 8 (an (.b9 (bL kt)) (ah 8 (an (.b9 (bL mb)) (ah 9 (an (.b9 (bL kt)) (bt 8 (.b9 (bL mb)) 3)))))))] (.bk h1.1 (cU bU h1.2) (bX bU ab) av.1 (cU bL av.2) (bX bL aZ) bg.1 (cU bL bg.2) (.er (bX bL cq) av.1 (cU bL av.2) (bX bL aZ) bg.1 (cU bL bg.2) (bX bL cq))))
def E9 (fA:List bD)(e8:List bP)(bT:Int)(b3:List Int)(bI cT df:Int)(ad:List (List Int)):(Int×(List Int)×(List Int))→S:=fun (gq,al,aA)=>dm [(0,.eb 2 [[.isl 4 (fA.map bL),.isl 3 (e8.map bU)]] 0 0),(3,.bm 0 0 0 ad.length),(5,.n .i64 bT),(6,.bm 1 0 0 al.length),(7,.bm 2 0 0 aA.length),(13,.isl 1 (b3.map eI)),(14,.n .i64 bI),(15,.n .i64 cT),(34,.isl 3 (e8.map bU)),(35,.n .i64 df),(36,.n .i64 gq)] [(af 1 (eu 1 eI) ad),(af 1 eI al),(af 1 eI aA)]
def Fg (fA:List bD)(e8:List bP)(bT:Int)(b3:List Int)(bI cT df:Int)(ad:List (List Int)):((List Int)×(List Int))→dp
 | a=>⟨some 2,[(0,.eb 2 [[.isl 4 (fA.map bL),.isl 3 (e8.map bU)]] 0 0),(3,.bm 0 0 0 ad.length),(6,.bm 1 0 0 a.1.length),(7,.bm 2 0 0 a.2.length),(13,.isl 1 (b3.map eI)),(14,.n .i64 bI),(15,.n .i64 cT)],[(af 1 (eu 1 eI) ad),(af 1 eI a.1),(af 1 eI a.2)]⟩
def vH (fA:List bD)(e8:List bP)(bT:Int)(b3:List Int)(bI cT df:Int)(ad:List (List Int))(gq:Int)(al aA:List Int):Option ((Int×(List Int)×(List Int))⊕((List Int)×(List Int))) :=
 if (decide (gq<df))=true then
  if 0≤gq∧gq<e8.length then
  e8[gq.toNat]? >>= fun aI =>
  tR (⟨fA,e8⟩:ct) gq >>= fun aM =>
  if (bT == aI.dI)=true then
   if 0≤gq∧gq<(al.length:Nat) then
   if (0+gq.toNat)<al.length then
   if 0≤gq∧gq<(aA.length:Nat) then
   if (0+gq.toNat)<aA.length then
   some (.inl (R (gq+(1:Int)),al.set (0+gq.toNat) aM.1,aA.set (0+gq.toNat) aM.2))
   else none
   else none
   else none
   else none
  else
   if (bT == aI.el)=true then
    if 0≤gq∧gq<(al.length:Nat) then
    if (0+gq.toNat)<al.length then
    if 0≤gq∧gq<(aA.length:Nat) then
    if (0+gq.toNat)<aA.length then
    some (.inl (R (gq+(1:Int)),al.set (0+gq.toNat) (R (0-aM.1)),aA.set (0+gq.toNat) (R (0-aM.2))))
    else none
    else none
    else none
    else none
   else
    some (.inl (R (gq+(1:Int)),al,aA))
  else none
 else
  some (.inr (al,aA))
def Cq (fA:List bD)(e8:List bP)(bT:Int)(b3:List Int)(bI cT df:Int)(ad:List (List Int))(gq:Int)(al aA:List Int):Option ((List Int)×(List Int)):=iter (fun w:Int×(List Int)×(List Int)=>vH fA e8 bT b3 bI cT df ad w.1 w.2.1 w.2.2) (gq,al,aA)
theorem SW {fA:List bD}{e8:List bP}{bT:Int}{b3:List Int}{bI cT df:Int}{ad:List (List Int)}{gq:Int}{al aA:List Int}:bz (vH fA e8 bT b3 bI cT df ad gq al aA) (dQ a9 82 0 70 [1,1,0,1,0,0,1,1,0,0,1,1,0,1,0,0] (E9 fA e8 bT b3 bI cT df ad (gq,al,aA)) (E9 fA e8 bT b3 bI cT df ad) (Fg fA e8 bT b3 bI cT df ad)):=by
 unfold vH
 exact .ite (fun h1 =>
  .a0 fun o =>
  .au fun aI av =>
  .au fun aM aZ =>
  (let t1:List b2:=[(J 1),.aa true,.ax (bt 2 (.b9 (bU aI)) 3),.ax (bt 2 (bp 2 (.dX [.n .i64 aM.1,.n .i64 aM.2]) true) 5),(J 1),(J 4)];
  have aU:=((.dT h1 o.1 (cU bU o.2) (bX bU av) (Ug aM aZ) (DT (oZ (b7.n .i64 aM.1) (oZ (b7.n .i64 aM.2) uK)))):cr _);
  .ite (fun bg =>
  .a0 fun bl =>
  .a0 fun cq =>
  .a0 fun cQ =>
  .a0 fun fa =>
  .ret (bi (t1.append [.aa true,.ax (ah 7 (an .fP (ah 1 (an .fP [])))),(J 2),.aO [0,1,2] [.pure,.cA (af 1 eI (al.set (0+gq.toNat) aM.1)),.cA (af 1 eI (aA.set (0+gq.toNat) aM.2))] [(0,ii),(3,ii),(5,ii),(6,fV ((al.set (0+gq.toNat) aM.1).length)),(7,fV ((aA.set (0+gq.toNat) aM.2).length)),(13,ii),(14,ii),(15,ii),(34,ii),(35,ii),(36,ii)]]) (aU.aJ (.bk bg bl.1 bl.2 (hE eI cq) (hz 1) cQ.1 cQ.2 (hE eI fa) (.gD (hz 1) (aK 1 .live (nt (sz:=1) aQ) ad) (cY 1 .live (gI (cX eI al) (0+gq.toNat) aM.1)) (aK 1 .live aQ (al.set (0+gq.toNat) aM.1)) (cY 1 .live (gI (cX eI aA) (0+gq.toNat) aM.2)) (aK 1 .live aQ (aA.set (0+gq.toNat) aM.2)) (hU (dJ al) (0+gq.toNat) aM.1) (hU (dJ aA) (0+gq.toNat) aM.2))))))
  (fun bg =>
  .ite (fun bl =>
  .a0 fun cq =>
  .a0 fun cQ =>
  .a0 fun fa =>
  .a0 fun eV =>
  .ret (let q1:=R (0-aM.1);let a2:=R (0-aM.2);bi (t1.append [.aa false,(J 4),.aa true,.ax (ah 9 (an .fP (ah 1 (an .fP [])))),(J 2),.aO [0,1,2] [.pure,.cA (af 1 eI (al.set (0+gq.toNat) q1)),.cA (af 1 eI (aA.set (0+gq.toNat) a2))] [(0,ii),(3,ii),(5,ii),(6,fV ((al.set (0+gq.toNat) q1).length)),(7,fV ((aA.set (0+gq.toNat) a2).length)),(13,ii),(14,ii),(15,ii),(34,ii),(35,ii),(36,ii)]]) (aU.aJ (.bk bg bl cq.1 cq.2 (hE eI cQ) (hz 1) fa.1 fa.2 (.bk (hE eI eV) (hz 1) (aK 1 .live (nt (sz:=1) aQ) ad) (cY 1 .live (gI (cX eI al) (0+gq.toNat) q1)) (aK 1 .live aQ (al.set (0+gq.toNat) q1)) (cY 1 .live (gI (cX eI aA) (0+gq.toNat) a2)) (aK 1 .live aQ (aA.set (0+gq.toNat) a2)) (hU (dJ al) (0+gq.toNat) q1) (.e1 (hU (dJ aA) (0+gq.toNat) a2)))))))
  (fun bl =>
  .ret (bi (t1.append [.aa false,(J 4),.aa false,(J 2),.aO [0,1,2] [.pure,.pure,.pure] (ba [0,3,5,6,7,13,14,15,34,35,36])]) (aU.aJ (.dl bg bl (aK 1 .live (nt (sz:=1) aQ) ad) (aK 1 .live aQ al) (aK 1 .live aQ aA))))))))
  (fun h1 =>
  .ret (bi [(J 1),.aa false,.aO [0,1,2] [.pure,.pure,.pure] (ba [0,3,6,7,13,14,15])] (.da h1 (aK 1 .live (nt (sz:=1) aQ) ad) (aK 1 .live aQ al) (aK 1 .live aQ aA))))
theorem Ta {fA:List bD}{e8:List bP}{bT:Int}{b3:List Int}{bI cT df:Int}{ad:List (List Int)}{gq:Int}{al aA:List Int}{r} (h:Cq fA e8 bT b3 bI cT df ad gq al aA=some r):dR a9 82 0 70 [1,1,0,1,0,0,1,1,0,0,1,1,0,1,0,0] (E9 fA e8 bT b3 bI cT df ad) (Fg fA e8 bT b3 bI cT df ad) (gq,al,aA) r:=dS (fun _=>SW) h
def Fa (fA:List bD)(e8:List bP)(b3:List Int)(bI:Int):(Int×(List (List Int)))→S:=fun (cT,ad)=>dm [(0,.eb 2 [[.isl 4 (fA.map bL),.isl 3 (e8.map bU)]] 0 0),(3,.bm 0 0 0 ad.length),(13,.isl 1 (b3.map eI)),(14,.n .i64 bI),(15,.n .i64 cT)] [(af 1 (eu 1 eI) ad)]
def Ms (fA:List bD)(e8:List bP)(b3:List Int)(bI:Int):(List (List Int))→dp
 | a=>⟨some 0,[(3,.bm 0 0 0 a.length)],[(af 1 (eu 1 eI) a)]⟩
def vI (fA:List bD)(e8:List bP)(b3:List Int)(bI cT:Int)(ad:List (List Int)):Option ((Int×(List (List Int)))⊕((List (List Int)))) :=
 if (decide (cT<bI))=true then
  if 0≤cT∧cT<b3.length then
  b3[cT.toNat]? >>= fun aI =>
  if 0≤(len_ bU e8)∧(8:Int)*(len_ bU e8)≤281474976710656∧(len_ bU e8)<9223372036854775808 then
  Cq fA e8 aI b3 bI cT (len_ bU e8) ad 0 (List.replicate (len_ bU e8).toNat 0:List Int) (List.replicate (len_ bU e8).toNat 0:List Int) >>= fun cj =>
  if (ad++([cj.1,cj.2]:List (List Int))).length*24≤140737488355328 then
  some (.inl (R (cT+(1:Int)),ad++([cj.1,cj.2]:List (List Int))))
  else none
  else none
  else none
 else
  some (.inr ad)
def Fs (fA:List bD)(e8:List bP)(b3:List Int)(bI cT:Int)(ad:List (List Int)):Option ((List (List Int))):=iter (fun w:Int×(List (List Int))=>vI fA e8 b3 bI w.1 w.2) (cT,ad)
theorem SX {fA:List bD}{e8:List bP}{b3:List Int}{bI cT:Int}{ad:List (List Int)}:bz (vI fA e8 b3 bI cT ad) (dQ a9 82 0 70 [1,1,0,1,0,0] (Fa fA e8 b3 bI (cT,ad)) (Fa fA e8 b3 bI) (Ms fA e8 b3 bI)):=by
 unfold vI
 exact .ite (fun h1 =>
  .a0 fun o =>
  .au fun aI av =>
  .a0 fun az =>
  .au fun cj bg =>
  .a0 fun bl =>
  .ret (let a2:=(ad++([cj.1,cj.2]:List (List Int)));let bO:=len_ bU e8;let q1:=(List.replicate bO.toNat 0:List Int);let b4:=nt (sz:=1) aQ;let cJ:=cY 1 .live (lF eI bO.toNat 0);bi [(J 1),.aa true,.ax (bt 1 (.b9 (eI aI)) 1),(J 14),(J 6),.aO [0,10,16] [.pure,.cA (af 1 eI q1),.cA (af 1 eI q1)] [(0,ii),(3,ii),(5,ii),(6,fV (q1.length)),(7,fV (q1.length)),(13,ii),(14,ii),(15,ii),(34,ii),(35,ii),(36,ii)],(Fg fA e8 aI b3 bI cT bO ad cj).fc,.aO [0] [.pure] [(0,ii),(3,ii),(6,.bu (.di (.ek (cj.1.map eI)))),(7,.bu (.di (.ek (cj.2.map eI)))),(13,ii),(14,ii),(15,ii)],.ax (bt 4 (.aJ (a2.length)) 1),(J 2),.aO [5] [.cA (af 1 (eu 1 eI) a2)] (ba [0,3,13,14,15])] (.bk h1 o.1 (cU eI o.2) (bX eI av) az.1 (Int.le_refl bO) az.2.1 az.2.2 (.bk az.1 (Int.le_refl bO) az.2.1 az.2.2 (aK 1 .live b4 ad) cJ (aK 1 .live aQ q1) cJ (.bk (aK 1 .live aQ q1) (lZ bO.toNat (0:Int)) (lZ bO.toNat (0:Int)) (Ta bg) (aK 1 .live b4 ad) (f6 eI cj.1) (fC eI cj.1) (dw aQ cj.1) (.bk (f6 eI cj.2) (fC eI cj.2) (dw aQ cj.2) (k2 (show [[.isl 1 (cj.1.map eI)],[.isl 1 (cj.2.map eI)]]=(([cj.1,cj.2]:List (List Int))).map (eu 1 eI) from rfl) (show 2=([cj.1,cj.2]:List (List Int)).length from rfl)) (gO (eu 1 eI) ad) (lG (dJ ad) (nX (show [[.isl 1 (cj.1.map eI)],[.isl 1 (cj.2.map eI)]]=(([cj.1,cj.2]:List (List Int))).map (eu 1 eI) from rfl) (show 2=([cj.1,cj.2]:List (List Int)).length from rfl)):a2.length=ad.length+(([[.isl 1 (cj.1.map eI)],[.isl 1 (cj.2.map eI)]].drop 0).take 2).length) bl (cY 1 .live (h6 (cX (eu 1 eI) ad) (dJ ad) (nX (show [[.isl 1 (cj.1.map eI)],[.isl 1 (cj.2.map eI)]]=(([cj.1,cj.2]:List (List Int))).map (eu 1 eI) from rfl) (show 2=([cj.1,cj.2]:List (List Int)).length from rfl)))) (.e1 (aK 1 .live b4 a2))))))))
  (fun h1 =>
  .ret (bi [(J 1),.aa false,.aO [0] [.pure] (ba [3])] (.aD h1 (aK 1 .live (nt (sz:=1) aQ) ad))))
theorem Tb {fA:List bD}{e8:List bP}{b3:List Int}{bI cT:Int}{ad:List (List Int)}{r} (h:Fs fA e8 b3 bI cT ad=some r):dR a9 82 0 70 [1,1,0,1,0,0] (Fa fA e8 b3 bI) (Ms fA e8 b3 bI) (cT,ad) r:=dS (fun _=>SX) h
def yT (aL:ct):Option (List (List Int)) :=
 vX aL >>= fun r1 =>
 Fs aL.bZ aL.bB r1 (len_ eI r1) 0 ([]:List (List Int)) >>= fun bj =>
 some bj
theorem Tq {aL:ct}:bz (yT aL) (fun r=>Con a9 70 [.eb 2 [(gE aL)] 0 0] [] (.isl 1 (r.map (eu 1 eI))) []):=by
 unfold yT
 exact .au fun r1 o =>
  .au fun bj av =>
  .ret (bw [(J 1),(J 1),.ax (bt 1 (bp 1 (.isl 1 (r1.map eI)) false) 2),.sd 3 1,.aO [6] [.cA (af 1 (eu 1 eI) ([]:List (List Int)))] [(0,ii),(3,fV (([]:List (List Int)).length)),(13,ii),(14,ii),(15,ii)],.sub (.exit 0) [(3,.bm 0 0 0 bj.length)] [(af 1 (eu 1 eI) bj)],(J 2)] (.gD (Mx r1 o) (cY 1 .live (m0 (eu 1 eI))) (aK 1 .live (nt (sz:=1) aQ) ([]:List (List Int))) (eZ (List Int)) (Tb av) (f6 (eu 1 eI) bj) (fC (eu 1 eI) bj) (dw (nt (sz:=1) aQ) bj)) (.bu (.di (.ek (bj.map (eu 1 eI))))))
def Fl (d7:List bP)(c1:Int):(Int×(List eA))→S:=fun (c2,ad)=>dm [(3,.bm 0 0 0 ad.length),(9,.isl 3 (d7.map bU)),(10,.n .i64 c1),(11,.n .i64 c2)] [(af 2 gn ad)]
def Mu (d7:List bP)(c1:Int):(List eA)→dp
 | a=>⟨some 0,[(3,.bm 0 0 0 a.length)],[(af 2 gn a)]⟩
def vL (d7:List bP)(c1 c2:Int)(ad:List eA):Option ((Int×(List eA))⊕((List eA))) :=
 if (decide (c2<c1))=true then
  if 0≤c2∧c2<d7.length then
  d7[c2.toNat]? >>= fun aI =>
  if (aI.iY != (2:Int))=true then
   if (ad++([(⟨c2,1⟩:eA)]:List eA)).length*16≤140737488355328 then
   if (aI.iY != (1:Int))=true then
    if ((ad++([(⟨c2,1⟩:eA)]:List eA))++([(⟨c2,(-1)⟩:eA)]:List eA)).length*16≤140737488355328 then
    some (.inl (R (c2+(1:Int)),(ad++([(⟨c2,1⟩:eA)]:List eA))++([(⟨c2,(-1)⟩:eA)]:List eA)))
    else none
   else
    some (.inl (R (c2+(1:Int)),ad++([(⟨c2,1⟩:eA)]:List eA)))
   else none
  else
   if (aI.iY != (1:Int))=true then
    if (ad++([(⟨c2,(-1)⟩:eA)]:List eA)).length*16≤140737488355328 then
    some (.inl (R (c2+(1:Int)),ad++([(⟨c2,(-1)⟩:eA)]:List eA)))
    else none
   else
    some (.inl (R (c2+(1:Int)),ad))
  else none
 else
  some (.inr ad)
def FN (d7:List bP)(c1 c2:Int)(ad:List eA):Option ((List eA)):=iter (fun w:Int×(List eA)=>vL d7 c1 w.1 w.2) (c2,ad)
theorem S5 {d7:List bP}{c1 c2:Int}{ad:List eA}:bz (vL d7 c1 c2 ad) (dQ a9 34 0 71 [1,1,0,1,0,0] (Fl d7 c1 (c2,ad)) (Fl d7 c1) (Mu d7 c1)):=by
 unfold vL
 exact .ite (fun h1 =>
  .a0 fun o =>
  .au fun aI av =>
  (let t1:List b2:=[(J 1),.aa true,.ax (bt 2 (.b9 (bU aI)) 3),(J 3)];
  have aU:=((.da h1 o.1 (cU bU o.2) (bX bU av)):cr _);
  .ite (fun az =>
  .a0 fun aZ =>
  (let t3:List b2:=t1.append [.aa true,.ax (bt 4 (.aJ ((ad++([(⟨c2,1⟩:eA)]:List eA)).length)) 1),(J 3)];
  have eS:=aU.aJ (.dl az (gv gn (⟨c2,1⟩:eA)) (gO gn ad) (gw gn ad (⟨c2,1⟩:eA)) aZ);
  .ite (fun bg =>
  .a0 fun bl =>
  .ret (let q1:=(ad++([(⟨c2,1⟩:eA)]:List eA));let a2:=(q1++([(⟨c2,(-1)⟩:eA)]:List eA));let bO:=(gS gn ad (⟨c2,1⟩:eA));bi (t3.append [.aa true,.ax (bt 4 (.aJ (a2.length)) 1),(J 2),.aO [24] [.cA (af 2 gn a2)] (ba [3,9,10,11])]) (eS.aJ (.er bg (gv gn (⟨c2,(-1)⟩:eA)) (m7 bO (dJ q1)) (gw gn q1 (⟨c2,(-1)⟩:eA)) bl (cY 2 .live (h6 bO (dJ q1) (vt gn (⟨c2,(-1)⟩:eA)))) (aK 2 .live uc a2)))))
  (fun bg =>
  .ret (let b4:=(ad++([(⟨c2,1⟩:eA)]:List eA));bi (t3.append [.aa false,(J 2),.aO [15] [.cA (af 2 gn b4)] (ba [3,9,10,11])]) (eS.aJ (.bS bg (cY 2 .live (gS gn ad (⟨c2,1⟩:eA))) (aK 2 .live uc b4)))))))
  (fun az =>
  .ite (fun aZ =>
  .a0 fun bg =>
  .ret (let cJ:=(ad++([(⟨c2,(-1)⟩:eA)]:List eA));bi (t1.append [.aa false,(J 3),.aa true,.ax (bt 4 (.aJ (cJ.length)) 1),(J 2),.aO [18] [.cA (af 2 gn cJ)] (ba [3,9,10,11])]) (aU.aJ (.gD az aZ (gv gn (⟨c2,(-1)⟩:eA)) (gO gn ad) (gw gn ad (⟨c2,(-1)⟩:eA)) bg (cY 2 .live (gS gn ad (⟨c2,(-1)⟩:eA))) (aK 2 .live uc cJ)))))
  (fun aZ =>
  .ret (bi (t1.append [.aa false,(J 3),.aa false,(J 2),.aO [0] [.pure] (ba [3,9,10,11])]) (aU.aJ (.bS az aZ (aK 2 .live uc ad))))))))
  (fun h1 =>
  .ret (bi [(J 1),.aa false,.aO [0] [.pure] (ba [3])] (.aD h1 (aK 2 .live uc ad))))
theorem Ts {d7:List bP}{c1 c2:Int}{ad:List eA}{r} (h:FN d7 c1 c2 ad=some r):dR a9 34 0 71 [1,1,0,1,0,0] (Fl d7 c1) (Mu d7 c1) (c2,ad) r:=dS (fun _=>S5) h
def yX (aL:ct):Option (List eA) :=
 FN aL.bB (len_ bU aL.bB) 0 ([]:List eA) >>= fun r1 =>
 some r1
theorem T0 {aL:ct}:bz (yX aL) (fun r=>Con a9 71 [.eb 2 [(gE aL)] 0 0] [] (.isl 2 (r.map gn)) []):=by
 unfold yX
 exact .au fun r1 o =>
  .ret (bw [(J 1),(J 1),(J 6),.sd 3 2,.aO [8] [.cA (af 2 gn ([]:List eA))] [(3,fV (([]:List eA).length)),(9,ii),(10,ii),(11,ii)],.sub (.exit 0) [(3,.bm 0 0 0 r1.length)] [(af 2 gn r1)],(J 2)] (.er (cY 2 .live (m0 gn)) (aK 2 .live uc ([]:List eA)) (eZ eA) (Ts o) (f6 gn r1) (fC gn r1) (dw uc r1)) (.bu (.di (.ek (r1.map gn)))))
end Go.Proofs.YtamedijmgkdlgabGreat
