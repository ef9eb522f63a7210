/- Lemmas, plain functions of the program, and what they answer. No condition. -/
import Derived.Test.YtamedijmgkdlgadGreatMB
namespace Go.Proofs.YtamedijmgkdlgadGreat
set_option linter.unusedVariables false
set_option linter.unusedSimpArgs false
open Go Go.VL
def zY (af:b3)(f8:Int):Option Int :=
 if (decide ((R (f8-(af.ld.size:Int)))<(0:Int)))=true then
  some (-1)
 else
  some (R (f8-(af.ld.size:Int)))
theorem Xb {af:b3}{f8:Int}:bB (zY af f8) (fun r=>Con bc 25 [.agg (b9 af),.n .i64 f8] [] (.n .i64 r) []):=by
 unfold zY
 exact (let t1:List bY:=[(J 2),(J 6),(J 2)];
  .ite (fun h1 =>
  .ret (bu (t1.append [.aa true,(J 1)]) (.e1 h1)))
  (fun h1 =>
  .ret (bu (t1.append [.aa false,(J 2)]) (.e1 h1))))
def GN (af:List b3):(Int×Int)→S:=fun (f8,ag)=>dr [(0,.isl 4 (af.map b9)),(1,.n .i64 f8),(5,.n .i64 ag)] []
def G3 (af:List b3):((Int)⊕(Unit))→du
 | .inl a=>⟨some 0,[(1,.n .i64 a)],[]⟩
 | .inr a=>⟨none,[(4,.n .i64 (-1:Int))],[]⟩
def tR (af:List b3)(f8 ag:Int):Option ((Int×Int)⊕((Int)⊕(Unit))) :=
 if (decide (ag<(len_ b9 af)))=true then
  if 0≤ag∧ag<af.length then
  af[ag.toNat]? >>= fun aD =>
  zY aD f8 >>= fun aU =>
  if (decide (aU<(0:Int)))=true then
   some (.inr (.inr ()))
  else
   some (.inl (aU,R (ag+(1:Int))))
  else none
 else
  some (.inr (.inl f8))
def IR (af:List b3)(f8 ag:Int):Option ((Int)⊕(Unit)):=iter (fun w:Int×Int=>tR af w.1 w.2) (f8,ag)
theorem Ur {af:List b3}{f8 ag:Int}:bB (tR af f8 ag) (dP bc 27 0 12 [1,1,1,0,1,0,0] (GN af (f8,ag)) (GN af) (G3 af)):=by
 unfold tR
 exact .ite (fun h1 =>
  .aZ fun o =>
  .ar fun aD au =>
  .ar fun aU a2 =>
  (let t1:List bY:=[(J 4),.aa true,.az (aj 3 (an (.b7 (b9 aD)) (br 1 (bt 2 (.n .i64 aU) true) 1))),(J 2)];
  have aQ:=((.d9 h1 o.1 (cQ b9 o.2) (bX b9 au) (Xb aU a2) (cc.n .i64 aU)):cz _);
  .ite (fun bd =>
  .ret (bj (t1.append [.aa true,(J 1),.aL [] [] (ba [4])]) (aQ.aJ (.e1 bd))))
  (fun bd =>
  .ret (bj (t1.append [.aa false,(J 3),.aL [] [] (ba [0,1,5])]) (aQ.aJ (.e1 bd))))))
  (fun h1 =>
  .ret (bj [(J 4),.aa false,.aL [] [] (ba [1])] (.e1 h1)))
theorem Nh {af:List b3}{f8 ag:Int}{r} (h:IR af f8 ag=some r):dQ bc 27 0 12 [1,1,1,0,1,0,0] (GN af) (G3 af) (f8,ag) r:=dR (fun _=>Ur) h
def zJ (af:List b3)(f8:Int):Option Int :=
 if (decide ((R (f8-(len_ b9 af)))<(0:Int)))=true then
  some (-1)
 else
  IR af (R (f8-(len_ b9 af))) 0 >>= fun b5 =>
  match b5 with
  | .inl fh=>(some fh)
  | .inr fh=>(some (-1))
theorem WK {af:List b3}{f8:Int}:bB (zJ af f8) (fun r=>Con bc 12 [.isl 4 (af.map b9),.n .i64 f8] [] (.n .i64 r) []):=by
 unfold zJ
 exact (let t1:List bY:=[(J 1),(J 5),(J 2)];
  .ite (fun h1 =>
  .ret (bu (t1.append [.aa true,(J 1)]) (.e1 h1)))
  (fun h1 =>
  .ar fun b5 ae =>
  (let t2:List bY:=t1.append [.aa false,(J 1),.aL [] [] (ba [0,1,5])];
  (by
  rcases b5 with fh|fh
  ·exact (.ret (bu (t2.append [.sub (.exit 0) [(1,.n .i64 fh)] [],(J 2)]) (.aE h1 (Nh ae))))
  ·exact (.ret (bu (t2.append [(G3 af (.inr fh)).ff]) (.aE h1 (Nh ae))))))))
def zA (af:List cj)(f8:Int):Option Int :=
 if (decide ((R (f8-(len_ cv af)))<(0:Int)))=true then
  some (-1)
 else
  some (R (f8-(len_ cv af)))
theorem Ws {af:List cj}{f8:Int}:bB (zA af f8) (fun r=>Con bc 13 [.isl 3 (af.map cv),.n .i64 f8] [] (.n .i64 r) []):=by
 unfold zA
 exact (let t1:List bY:=[(J 1),(J 5),(J 2)];
  .ite (fun h1 =>
  .ret (bu (t1.append [.aa true,(J 1)]) (.e1 h1)))
  (fun h1 =>
  .ret (bu (t1.append [.aa false,(J 2)]) (.e1 h1))))
def uc (af:cS)(f8:Int):Option Int :=
 zJ af.b1 f8 >>= fun r1 =>
 if (decide (r1<(0:Int)))=true then
  some (-1)
 else
  zA af.bO r1 >>= fun bg =>
  if (decide (bg<(0:Int)))=true then
   some (-1)
  else
   some bg
theorem VP {af:cS}{f8:Int}:bB (uc af f8) (fun r=>Con bc 4 [.agg (hT af),.n .i64 f8] [] (.n .i64 r) []):=by
 unfold uc
 exact .ar fun r1 o =>
  (let t1:List bY:=[(J 2),.az (br 3 (bt 2 (.n .i64 r1) true) 1),(J 2)];
  have aQ:=((.aE (WK r1 o) (cc.n .i64 r1)):cz _);
  .ite (fun ae =>
  .ret (bu (t1.append [.aa true,(J 1)]) (aQ.aJ (.e1 ae))))
  (fun ae =>
  .ar fun bg aA =>
  (let t3:List bY:=t1.append [.aa false,.az (br 3 (bt 2 (.n .i64 bg) true) 1),(J 2)];
  have eR:=aQ.aJ (.bT ae (Ws bg aA) (cc.n .i64 bg));
  .ite (fun a2 =>
  .ret (bu (t3.append [.aa true,(J 1)]) (eR.aJ (.e1 a2))))
  (fun a2 =>
  .ret (bu (t3.append [.aa false,(J 2)]) (eR.aJ (.e1 a2)))))))
def Aa (af:List Int)(f8:Int):Option Int :=
 if (decide ((R (f8-(len_ eI af)))<(0:Int)))=true then
  some (-1)
 else
  some (R (f8-(len_ eI af)))
theorem XA {af:List Int}{f8:Int}:bB (Aa af f8) (fun r=>Con bc 14 [.isl 1 (af.map eI),.n .i64 f8] [] (.n .i64 r) []):=by
 unfold Aa
 exact (let t1:List bY:=[(J 1),(J 5),(J 2)];
  .ite (fun h1 =>
  .ret (bu (t1.append [.aa true,(J 1)]) (.e1 h1)))
  (fun h1 =>
  .ret (bu (t1.append [.aa false,(J 2)]) (.e1 h1))))
def G4 (af:List (List Int)):(Int×Int)→S:=fun (f8,ag)=>dr [(0,.isl 1 (af.map (eL 1 eI))),(1,.n .i64 f8),(5,.n .i64 ag)] []
def HB (af:List (List Int)):((Int)⊕(Unit))→du
 | .inl a=>⟨some 0,[(1,.n .i64 a)],[]⟩
 | .inr a=>⟨none,[(4,.n .i64 (-1:Int))],[]⟩
def wO (af:List (List Int))(f8 ag:Int):Option ((Int×Int)⊕((Int)⊕(Unit))) :=
 if (decide (ag<(len_ (eL 1 eI) af)))=true then
  if 0≤ag∧ag<af.length then
  af[ag.toNat]? >>= fun aD =>
  Aa aD f8 >>= fun aU =>
  if (decide (aU<(0:Int)))=true then
   some (.inr (.inr ()))
  else
   some (.inl (aU,R (ag+(1:Int))))
  else none
 else
  some (.inr (.inl f8))
def I7 (af:List (List Int))(f8 ag:Int):Option ((Int)⊕(Unit)):=iter (fun w:Int×Int=>wO af w.1 w.2) (f8,ag)
theorem UE {af:List (List Int)}{f8 ag:Int}:bB (wO af f8 ag) (dP bc 27 0 5 [1,1,1,0,1,0,0] (G4 af (f8,ag)) (G4 af) (HB af)):=by
 unfold wO
 exact .ite (fun h1 =>
  .aZ fun o =>
  .ar fun aD au =>
  .ar fun aU a2 =>
  (let t1:List bY:=[(J 4),.aa true,.az (aj 3 (an (.b7 ((eL 1 eI) aD)) (br 1 (bt 2 (.n .i64 aU) true) 1))),(J 2)];
  have aQ:=((.d9 h1 o.1 (cQ (eL 1 eI) o.2) (bX (eL 1 eI) au) (XA aU a2) (cc.n .i64 aU)):cz _);
  .ite (fun bd =>
  .ret (bj (t1.append [.aa true,(J 1),.aL [] [] (ba [4])]) (aQ.aJ (.e1 bd))))
  (fun bd =>
  .ret (bj (t1.append [.aa false,(J 3),.aL [] [] (ba [0,1,5])]) (aQ.aJ (.e1 bd))))))
  (fun h1 =>
  .ret (bj [(J 4),.aa false,.aL [] [] (ba [1])] (.e1 h1)))
theorem Ns {af:List (List Int)}{f8 ag:Int}{r} (h:I7 af f8 ag=some r):dQ bc 27 0 5 [1,1,1,0,1,0,0] (G4 af) (HB af) (f8,ag) r:=dR (fun _=>UE) h
def zZ (af:List (List Int))(f8:Int):Option Int :=
 if (decide ((R (f8-(len_ (eL 1 eI) af)))<(0:Int)))=true then
  some (-1)
 else
  I7 af (R (f8-(len_ (eL 1 eI) af))) 0 >>= fun b5 =>
  match b5 with
  | .inl fh=>(some fh)
  | .inr fh=>(some (-1))
theorem Xc {af:List (List Int)}{f8:Int}:bB (zZ af f8) (fun r=>Con bc 5 [.isl 1 (af.map (eL 1 eI)),.n .i64 f8] [] (.n .i64 r) []):=by
 unfold zZ
 exact (let t1:List bY:=[(J 1),(J 5),(J 2)];
  .ite (fun h1 =>
  .ret (bu (t1.append [.aa true,(J 1)]) (.e1 h1)))
  (fun h1 =>
  .ar fun b5 ae =>
  (let t2:List bY:=t1.append [.aa false,(J 1),.aL [] [] (ba [0,1,5])];
  (by
  rcases b5 with fh|fh
  ·exact (.ret (bu (t2.append [.sub (.exit 0) [(1,.n .i64 fh)] [],(J 2)]) (.aE h1 (Ns ae))))
  ·exact (.ret (bu (t2.append [(HB af (.inr fh)).ff]) (.aE h1 (Ns ae))))))))
def Ds (af:b3):Option b3 :=
 some af
theorem Xd {af:b3}:bB (Ds af) (fun r=>Con bc 30 [.agg (b9 af)] [] (.agg (b9 r)) []):=by
 unfold Ds
 exact .ret (bu [(J 2),(J 1),(J 4),(J 4),(J 4),(J 4),(J 2)] .nil)
def Gc (af:List b3):(Int×(List b3))→S:=fun (ag,ad)=>dr [(0,.isl 4 (af.map b9)),(3,.bm 0 0 0 ad.length),(4,.n .i64 ag)] [(av 4 b9 ad)]
def Gy (af:List b3):(List b3)→du
 | a=>⟨some 0,[(3,.bm 0 0 0 a.length)],[(av 4 b9 a)]⟩
def tQ (af:List b3)(ag:Int)(ad:List b3):Option ((Int×(List b3))⊕((List b3))) :=
 if (decide (ag<(len_ b9 af)))=true then
  if 0≤ag∧ag<af.length then
  af[ag.toNat]? >>= fun aD =>
  Ds aD >>= fun aU =>
  if 0≤ag∧ag<(ad.length:Nat) then
  if (0+ag.toNat)<ad.length then
  some (.inl (R (ag+(1:Int)),ad.set (0+ag.toNat) aU))
  else none
  else none
  else none
 else
  some (.inr ad)
def H9 (af:List b3)(ag:Int)(ad:List b3):Option ((List b3)):=iter (fun w:Int×(List b3)=>tQ af w.1 w.2) (ag,ad)
theorem T0 {af:List b3}{ag:Int}{ad:List b3}:bB (tQ af ag ad) (dP bc 23 0 17 [1,1,0,1,0,0] (Gc af (ag,ad)) (Gc af) (Gy af)):=by
 unfold tQ
 exact .ite (fun h1 =>
  .aZ fun o =>
  .ar fun aD au =>
  .ar fun aU a2 =>
  .aZ fun bd =>
  .aZ fun bn =>
  .ret (bj [(J 4),.aa true,.az (aj 5 (an (.b7 (b9 aD)) (an (bt 1 (.agg (b9 aU)) false) (aj 1 (an .fV []))))),(J 3),.aL [0] [.cO (av 4 b9 (ad.set (0+ag.toNat) aU))] [(0,ii),(3,f5 ((ad.set (0+ag.toNat) aU).length)),(4,ii)]] (.bl h1 o.1 (cQ b9 o.2) (bX b9 au) (Xd aU a2) bd.1 bd.2 (hH b9 bn) (.de (hx 4) (db 4 .live (gD (cY b9 ad) (0+ag.toNat) aU)) (aK 4 .live pY (ad.set (0+ag.toNat) aU)) (hX (dO ad) (0+ag.toNat) aU)))))
  (fun h1 =>
  .ret (bj [(J 4),.aa false,.aL [0] [.pure] (ba [3])] (.aE h1 (aK 4 .live pY ad))))
theorem Vm {af:List b3}{ag:Int}{ad:List b3}{r} (h:H9 af ag ad=some r):dQ bc 23 0 17 [1,1,0,1,0,0] (Gc af) (Gy af) (ag,ad) r:=dR (fun _=>T0) h
def zu (af:List b3):Option (List b3) :=
 if 0≤(len_ b9 af)∧(40:Int)*(len_ b9 af)≤281474976710656∧(len_ b9 af)<9223372036854775808 then
 H9 af 0 (List.replicate (len_ b9 af).toNat (⟨ByteArray.empty,0,0,false⟩:b3):List b3) >>= fun b5 =>
 some b5
 else none
theorem V5 {af:List b3}:bB (zu af) (fun a=>Con bc 17 [.isl 4 (af.map b9)] [] (.bm 0 0 0 a.length) [(av 4 b9 a)]):=by
 unfold zu
 exact .aZ fun h1 =>
  .ar fun b5 ae =>
  .ret (let q1:=(List.replicate (len_ b9 af).toNat (⟨ByteArray.empty,0,0,false⟩:b3):List b3);lE [(J 1),(J 4),(J 1),.aL [3] [.cO (av 4 b9 q1)] [(0,ii),(3,f5 (q1.length)),(4,ii)],(Gy af b5).ff,(J 2)] [0] [.pure] (.bl h1.1 (Int.le_refl (len_ b9 af)) h1.2.1 h1.2.2 (db 4 .live (lx b9 (len_ b9 af).toNat (⟨ByteArray.empty,0,0,false⟩:b3))) (aK 4 .live pY q1) (lL (len_ b9 af).toNat ((⟨ByteArray.empty,0,0,false⟩:b3):b3)) (Vm ae) (.e1 (aK 4 .live pY b5))))
def Dm (af:cj):Option cj :=
 some af
theorem WL {af:cj}:bB (Dm af) (fun r=>Con bc 31 [.agg (cv af)] [] (.agg (cv r)) []):=by
 unfold Dm
 exact .ret (bu [(J 2),(J 1),(J 4),(J 4),(J 4),(J 2)] .nil)
def F4 (af:List cj):(Int×(List cj))→S:=fun (ag,ad)=>dr [(0,.isl 3 (af.map cv)),(3,.bm 0 0 0 ad.length),(4,.n .i64 ag)] [(av 3 cv ad)]
def Gd (af:List cj):(List cj)→du
 | a=>⟨some 0,[(3,.bm 0 0 0 a.length)],[(av 3 cv a)]⟩
def tP (af:List cj)(ag:Int)(ad:List cj):Option ((Int×(List cj))⊕((List cj))) :=
 if (decide (ag<(len_ cv af)))=true then
  if 0≤ag∧ag<af.length then
  af[ag.toNat]? >>= fun aD =>
  Dm aD >>= fun aU =>
  if 0≤ag∧ag<(ad.length:Nat) then
  if (0+ag.toNat)<ad.length then
  some (.inl (R (ag+(1:Int)),ad.set (0+ag.toNat) aU))
  else none
  else none
  else none
 else
  some (.inr ad)
def HC (af:List cj)(ag:Int)(ad:List cj):Option ((List cj)):=iter (fun w:Int×(List cj)=>tP af w.1 w.2) (ag,ad)
theorem TR {af:List cj}{ag:Int}{ad:List cj}:bB (tP af ag ad) (dP bc 23 0 18 [1,1,0,1,0,0] (F4 af (ag,ad)) (F4 af) (Gd af)):=by
 unfold tP
 exact .ite (fun h1 =>
  .aZ fun o =>
  .ar fun aD au =>
  .ar fun aU a2 =>
  .aZ fun bd =>
  .aZ fun bn =>
  .ret (bj [(J 4),.aa true,.az (aj 5 (an (.b7 (cv aD)) (an (bt 1 (.agg (cv aU)) false) (aj 1 (an .fV []))))),(J 3),.aL [0] [.cO (av 3 cv (ad.set (0+ag.toNat) aU))] [(0,ii),(3,f5 ((ad.set (0+ag.toNat) aU).length)),(4,ii)]] (.bl h1 o.1 (cQ cv o.2) (bX cv au) (WL aU a2) bd.1 bd.2 (hH cv bn) (.de (hx 3) (db 3 .live (gD (cY cv ad) (0+ag.toNat) aU)) (aK 3 .live pW (ad.set (0+ag.toNat) aU)) (hX (dO ad) (0+ag.toNat) aU)))))
  (fun h1 =>
  .ret (bj [(J 4),.aa false,.aL [0] [.pure] (ba [3])] (.aE h1 (aK 3 .live pW ad))))
theorem U2 {af:List cj}{ag:Int}{ad:List cj}{r} (h:HC af ag ad=some r):dQ bc 23 0 18 [1,1,0,1,0,0] (F4 af) (Gd af) (ag,ad) r:=dR (fun _=>TR) h
def zr (af:List cj):Option (List cj) :=
 if 0≤(len_ cv af)∧(24:Int)*(len_ cv af)≤281474976710656∧(len_ cv af)<9223372036854775808 then
 HC af 0 (List.replicate (len_ cv af).toNat (⟨0,0,0⟩:cj):List cj) >>= fun b5 =>
 some b5
 else none
theorem VQ {af:List cj}:bB (zr af) (fun a=>Con bc 18 [.isl 3 (af.map cv)] [] (.bm 0 0 0 a.length) [(av 3 cv a)]):=by
 unfold zr
 exact .aZ fun h1 =>
  .ar fun b5 ae =>
  .ret (let q1:=(List.replicate (len_ cv af).toNat (⟨0,0,0⟩:cj):List cj);lE [(J 1),(J 4),(J 1),.aL [3] [.cO (av 3 cv q1)] [(0,ii),(3,f5 (q1.length)),(4,ii)],(Gd af b5).ff,(J 2)] [0] [.pure] (.bl h1.1 (Int.le_refl (len_ cv af)) h1.2.1 h1.2.2 (db 3 .live (lx cv (len_ cv af).toNat (⟨0,0,0⟩:cj))) (aK 3 .live pW q1) (lL (len_ cv af).toNat ((⟨0,0,0⟩:cj):cj)) (U2 ae) (.e1 (aK 3 .live pW b5))))
def zo (af:cS):Option ((List b3)×(List cj)) :=
 zu af.b1 >>= fun r1 =>
 zr af.bO >>= fun bk =>
 some (r1,bk)
theorem GO {af:cS}:bB (zo af) (fun a=>Con bc 7 [.agg (hT af)] [] (.agg [.bm 0 0 0 a.1.length,.bm 0 1 0 a.2.length]) [[ab.mk 4 (a.1.map b9) .live,ab.mk 3 (a.2.map cv) .live]]):=by
 unfold zo
 exact .ar fun r1 o =>
  .ar fun bk au =>
  .ret (lE [(J 2),(J 1),.az (br 2 (.call {a0:=[],dv:=[],ac:=[ii],r:= .bm 0 0 0 r1.length,fy:=[(av 4 b9 r1)],ib:=ii,kj:=[.pure],fU:=[],fP:=true}) 2),.az (br 2 (.call {a0:=[],dv:=[],ac:=[ii],r:= .bm 0 0 0 bk.length,fy:=[(av 3 cv bk)],ib:=ii,kj:=[.pure],fU:=[],fP:=true}) 2),(J 2),.B0 [{bE:=[(5,0),(10,0)],iE:=none},{bE:=[(1,0)]}] [([.pure,.pure],none),([.box [.at_ 0 0 r1.length,.at_ 0 1 bk.length]],none)] [(2,.bx (.dM (.at_ 1 0 0)))]] [0] [.bG [ab.mk 4 (r1.map b9) .live,ab.mk 3 (bk.map cv) .live]] (.bl (iU 4 pY r1) (V5 r1 o) (cc.bm 0 0 0 r1.length) ((qH (o5 (oo DD) s7) qJ):n7 [(av 4 b9 r1)]) (iU 3 pW bk) (VQ bk au) (cc.bm 0 0 0 bk.length) ((qH (o5 (oo Dz) s7) qJ):n7 [(av 3 cv bk)]) (.gU (aK 4 .live pY r1) (aK 3 .live pW bk) (rfl:(kG [{bE:=[(5,0),(10,0)],iE:=none},{bE:=[(1,0)]}]) 0 0=some (5,0)) (rfl:r1.length=r1.length) (rfl:(kG [{bE:=[(5,0),(10,0)],iE:=none},{bE:=[(1,0)]}]) 0 1=some (10,0)) (rfl:bk.length=bk.length) (rfl:(kG [{bE:=[(5,0),(10,0)],iE:=none},{bE:=[(1,0)]}]) 1 0=some (1,0)) (c5 (f6 (bP [0]) 4 DC r1) (c5 (f6 (bP [0]) 3 Dy bk) (o8 (ca:=(bP [0]))))))) (.bx (.agg [.id,.id])))
def GP (af:List Int):(Int×(List Int))→S:=fun (ag,ad)=>dr [(0,.isl 1 (af.map eI)),(3,.bm 0 0 0 ad.length),(4,.n .i64 ag)] [(av 1 eI ad)]
def G5 (af:List Int):(List Int)→du
 | a=>⟨some 0,[(3,.bm 0 0 0 a.length)],[(av 1 eI a)]⟩
def tS (af:List Int)(ag:Int)(ad:List Int):Option ((Int×(List Int))⊕((List Int))) :=
 if (decide (ag<(len_ eI af)))=true then
  if 0≤ag∧ag<af.length then
  af[ag.toNat]? >>= fun aD =>
  if 0≤ag∧ag<(ad.length:Nat) then
  if (0+ag.toNat)<ad.length then
  some (.inl (R (ag+(1:Int)),ad.set (0+ag.toNat) aD))
  else none
  else none
  else none
 else
  some (.inr ad)
def IU (af:List Int)(ag:Int)(ad:List Int):Option ((List Int)):=iter (fun w:Int×(List Int)=>tS af w.1 w.2) (ag,ad)
theorem Us {af:List Int}{ag:Int}{ad:List Int}:bB (tS af ag ad) (dP bc 22 0 19 [1,1,0,1,0,0] (GP af (ag,ad)) (GP af) (G5 af)):=by
 unfold tS
 exact .ite (fun h1 =>
  .aZ fun o =>
  .ar fun aD au =>
  .aZ fun aA =>
  .aZ fun a2 =>
  .ret (bj [(J 4),.aa true,.az (aj 5 (an (.b7 (eI aD)) (aj 1 (an .fV [])))),(J 3),.aL [0] [.cO (av 1 eI (ad.set (0+ag.toNat) aD))] [(0,ii),(3,f5 ((ad.set (0+ag.toNat) aD).length)),(4,ii)]] (.bl h1 o.1 (cQ eI o.2) (bX eI au) aA.1 aA.2 (hH eI a2) (hx 1) (.bT (db 1 .live (gD (cY eI ad) (0+ag.toNat) aD)) (aK 1 .live aP (ad.set (0+ag.toNat) aD)) (hX (dO ad) (0+ag.toNat) aD)))))
  (fun h1 =>
  .ret (bj [(J 4),.aa false,.aL [0] [.pure] (ba [3])] (.aE h1 (aK 1 .live aP ad))))
theorem VR {af:List Int}{ag:Int}{ad:List Int}{r} (h:IU af ag ad=some r):dQ bc 22 0 19 [1,1,0,1,0,0] (GP af) (G5 af) (ag,ad) r:=dR (fun _=>Us) h
def zK (af:List Int):Option (List Int) :=
 if 0≤(len_ eI af)∧(8:Int)*(len_ eI af)≤281474976710656∧(len_ eI af)<9223372036854775808 then
 IU af 0 (List.replicate (len_ eI af).toNat 0:List Int) >>= fun b5 =>
 some b5
 else none
theorem WM {af:List Int}:bB (zK af) (fun a=>Con bc 19 [.isl 1 (af.map eI)] [] (.bm 0 0 0 a.length) [(av 1 eI a)]):=by
 unfold zK
 exact .aZ fun h1 =>
  .ar fun b5 ae =>
  .ret (let q1:=(List.replicate (len_ eI af).toNat 0:List Int);lE [(J 1),(J 4),(J 1),.aL [3] [.cO (av 1 eI q1)] [(0,ii),(3,f5 (q1.length)),(4,ii)],(G5 af b5).ff,(J 2)] [0] [.pure] (.bl h1.1 (Int.le_refl (len_ eI af)) h1.2.1 h1.2.2 (db 1 .live (lx eI (len_ eI af).toNat 0)) (aK 1 .live aP q1) (lL (len_ eI af).toNat (0:Int)) (VR ae) (.e1 (aK 1 .live aP b5))))
def Gz (af:List (List Int)):(Int×(List bs)×(List (List Int)))→S:=fun (ag,l9,cG)=>dr [(0,.isl 1 (af.map (eL 1 eI))),(3,.bm 0 0 0 l9.length),(4,.n .i64 ag)] [(ab.mk 1 (l9.map (bb 0 1 1)) .live::(b2 1 eI cG))]
def GQ (af:List (List Int)):((List bs)×(List (List Int)))→du
 | a=>⟨some 0,[(3,.bm 0 0 0 a.1.length)],[(ab.mk 1 (a.1.map (bb 0 1 1)) .live::(b2 1 eI a.2))]⟩
def wF (af:List (List Int))(ag:Int)(l9:List bs)(cG:List (List Int)):Option ((Int×(List bs)×(List (List Int)))⊕((List bs)×(List (List Int)))) :=
 if (decide (ag<(len_ (eL 1 eI) af)))=true then
  if 0≤ag∧ag<af.length then
  af[ag.toNat]? >>= fun aD =>
  zK aD >>= fun aU =>
  if 0≤ag∧ag<(l9.length:Nat) then
  if (0+ag.toNat)<l9.length then
  some (.inl (R (ag+(1:Int)),l9.set (0+ag.toNat) (some (cG.length,aU.length)),cG++[aU]))
  else none
  else none
  else none
 else
  some (.inr (l9,cG))
def Iz (af:List (List Int))(ag:Int)(l9:List bs)(cG:List (List Int)):Option ((List bs)×(List (List Int))):=iter (fun w:Int×(List bs)×(List (List Int))=>wF af w.1 w.2.1 w.2.2) (ag,l9,cG)
theorem Ul {af:List (List Int)}{ag:Int}{l9:List bs}{cG:List (List Int)}:bB (wF af ag l9 cG) (dP bc 23 0 8 [1,1,0,1,0,0] (Gz af (ag,l9,cG)) (Gz af) (GQ af)):=by
 unfold wF
 exact .ite (fun h1 =>
  .aZ fun o =>
  .ar fun aD au =>
  .ar fun aU a2 =>
  .aZ fun bd =>
  .aZ fun bn =>
  .ret (bj [(J 4),.aa true,.az (aj 5 (an (.b7 ((eL 1 eI) aD)) (an (.tE 0 (cG.length+1) (.call {a0:=[],dv:=[],ac:=[ii],r:= .bm 0 0 0 aU.length,fy:=[(av 1 eI aU)],ib:=ii,kj:=[.pure],fU:=[],fP:=true})) (aj 1 (an (.j8 20 (kT 0 1 1 (some (cG.length,aU.length))) .fV) []))))),(J 3),.aL [0] [.bG (ab.mk 1 ((l9.set (0+ag.toNat) (some (cG.length,aU.length))).map (bb 0 1 1)) .live::(b2 1 eI (cG++[aU])))] [(0,ii),(3,f5 ((l9.set (0+ag.toNat) (some (cG.length,aU.length))).length)),(4,ii)]] (.bl h1 o.1 (cQ (eL 1 eI) o.2) (bX (eL 1 eI) au) (iU 1 aP aU) (WM aU a2) (cc.bm 0 0 0 aU.length) ((qH (o5 (oo yi) s7) qJ):n7 [(av 1 eI aU)]) (.gU (congrArg (· + 1) (Ef (fJ .live 1 eI cG) rfl)) bd.1 bd.2 (.s2 0 1 1 cG.length aU.length:ki (.bm 0 (cG.length+1) 0 aU.length) (kT 0 1 1 (some (cG.length,aU.length)))) (hH (bb 0 1 1) bn) (hx 1) (c5 (qv (ca:=(bP [0])) 1 .live (bb 0 1 1) (gD (cY (bb 0 1 1) l9) (0+ag.toNat) (some (cG.length,aU.length))) (rF (rfl:(bP [0]) 0=some 0))) (mn (ca:=(bP [0])) (AU (fJ .live 1 eI cG) (A5 aP 11 0 (cG.length+1) (cY eI aU) (A6 11 0 (cG.length+1)))) (lP jq))) (hX (dO l9) (0+ag.toNat) (some (cG.length,aU.length)))))))
  (fun h1 =>
  .ret (bj [(J 4),.aa false,.aL [0] [.bG (ab.mk 1 (l9.map (bb 0 1 1)) .live::(b2 1 eI cG))] (ba [3])] (.aE h1 (c5 (ka (bP [0]) 0 0 1 1 rfl l9) (dz (bP [0]) 1 jq cG)))))
theorem VD {af:List (List Int)}{ag:Int}{l9:List bs}{cG:List (List Int)}{r} (h:Iz af ag l9 cG=some r):dQ bc 23 0 8 [1,1,0,1,0,0] (Gz af) (GQ af) (ag,l9,cG) r:=dR (fun _=>Ul) h
def zB (af:List (List Int)):Option ((List bs)×(List (List Int))) :=
 if 0≤(len_ (eL 1 eI) af)∧(24:Int)*(len_ (eL 1 eI) af)≤281474976710656∧(len_ (eL 1 eI) af)<9223372036854775808 then
 Iz af 0 (List.replicate (len_ (eL 1 eI) af).toNat (none:bs):List bs) ([]:List (List Int)) >>= fun b5 =>
 some (b5.1,b5.2)
 else none
theorem IA {af:List (List Int)}:bB (zB af) (fun a=>Con bc 8 [.isl 1 (af.map (eL 1 eI))] [] (.bm 0 0 0 a.1.length) [(ab.mk 1 (a.1.map (bb 0 1 1)) .live::(b2 1 eI a.2))]):=by
 unfold zB
 exact .aZ fun h1 =>
  .ar fun b5 ae =>
  .ret (let q1:=len_ (eL 1 eI) af;let a1:=(List.replicate q1.toNat (none:bs):List bs);lE [(J 1),.az (br 2 (.b7 [(kT 3 1 1 (none:bs))]) 1),(J 1),.aL [3] [.bG (ab.mk 1 (a1.map (bb 0 1 1)) .live::(b2 1 eI ([]:List (List Int))))] [(0,ii),(3,f5 (a1.length)),(4,ii)],(GQ af b5).ff,(J 2)] [0] [.bG (ab.mk 1 (b5.1.map (bb 0 1 1)) .live::(b2 1 eI b5.2))] (.gU h1.1 (Int.le_refl q1) h1.2.1 h1.2.2 (c5 (qv (ca:=(bP [3])) 1 .live (bb 0 1 1) (lx (bb 3 1 1) q1.toNat (none:bs)) (rF (rfl:(bP [3]) 3=some 0))) (mn (ca:=(bP [3])) (KJ .live 1 eI) (lP jq))) (lL q1.toNat ((none:bs):bs)) (VD ae) (c5 (ka (bP [0]) 0 0 1 1 rfl b5.1) (dz (bP [0]) 1 jq b5.2))))
def mE (a4 mb mo:Int):Option Bool :=
 if (decide (mb≤a4))=true then
  some (decide (a4≤mo))
 else
  some false
theorem pX {a4 mb mo:Int}:bB (mE a4 mb mo) (fun r=>Con bc 26 [.n .i64 a4,.n .i64 mb,.n .i64 mo] [] (.b r) []):=by
 unfold mE
 exact .ite (fun h1 =>
  .ret (bu [(J 1),.az (br 7 (.aa true) 1)] (.de h1 h1 h1 h1)))
  (fun h1 =>
  .ret (bu [(J 1),.az (aj 4 (cD 3 (an (.aa false) (aj 1 []))))] (.de h1 h1 h1 h1)))
def HD (aN:ByteArray):Int→S:=fun ag=>dr [(0,.s aN),(3,.n .i64 ag)] []
def Nt (aN:ByteArray):((Unit)⊕(Unit))→du
 | .inl a=>⟨some 0,[(0,.s aN)],[]⟩
 | .inr a=>⟨none,[(2,.b false)],[]⟩
def sQ (aN:ByteArray)(ag:Int):Option ((Int)⊕((Unit)⊕(Unit))) :=
 if (decide (ag<(aN.size:Int)))=true then
  if 0≤ag∧ag<(aN.size:Nat) then
  if (decide ((97:Int)≤((aN.data.toList.getD ag.toNat 0).toNat:Int)))=true then
   if (decide (((aN.data.toList.getD ag.toNat 0).toNat:Int)≤(122:Int)))=true then
    some (.inl (R (ag+(1:Int))))
   else
    if (ag == (0:Int))=true then
     some (.inr (.inr ()))
    else
     if (decide (((aN.data.toList.getD ag.toNat 0).toNat:Int)<(48:Int)))=true then
      some (.inr (.inr ()))
     else
      if (decide ((57:Int)<((aN.data.toList.getD ag.toNat 0).toNat:Int)))=true then
       some (.inr (.inr ()))
      else
       some (.inl (R (ag+(1:Int))))
  else
   if (ag == (0:Int))=true then
    some (.inr (.inr ()))
   else
    if (decide (((aN.data.toList.getD ag.toNat 0).toNat:Int)<(48:Int)))=true then
     some (.inr (.inr ()))
    else
     if (decide ((57:Int)<((aN.data.toList.getD ag.toNat 0).toNat:Int)))=true then
      some (.inr (.inr ()))
     else
      some (.inl (R (ag+(1:Int))))
  else none
 else
  some (.inr (.inl ()))
def zC (aN:ByteArray)(ag:Int):Option ((Unit)⊕(Unit)):=iter (fun w:Int=>sQ aN w) ag
theorem U3 {aN:ByteArray}{ag:Int}:bB (sQ aN ag) (dP bc 42 0 82 [1,0,1,0,0] (HD aN ag) (HD aN) (Nt aN)):=by
 unfold sQ
 exact .ite (fun h1 =>
  .aZ fun o =>
  .ite (fun ae =>
  (let t1:List bY:=[(J 4),.aa true,.az (br 9 (.aa true) 1)];
  have aQ:=((.bl h1 o.1 o.2 ae ae ae o.1 o.2 (.aE ae ae)):cz _);
  .ite (fun au =>
  .ret (bj (t1.append [.az (aj 3 (cD 3 (aj 4 (cD 2 (aj 4 (cD 1 (an (.aa false) []))))))),.aa false,(J 3),.aL [] [] (ba [0,3])]) (aQ.aJ (.gU (c1 au) (c1 au) (c1 au) (c1 au) (c1 au) (c1 au) (c1 au) c6))))
  (fun au =>
  (have fH:=aQ.aJ (.bT (cW au) (cW au) (cW au));
  .ite (fun aA =>
  .ret (bj (t1.append [.az (aj 6 (cD 4 (an (.aa true) (aj 1 (cD 4 (aj 1 (an (.aa true) []))))))),.aa true,(J 1),.aL [] [] (ba [2])]) (fH.aJ (.bl aA aA aA aA (cW au) aA (cW au) cJ (.d9 cJ cJ cJ (cW au) (cW au) cJ)))))
  (fun aA =>
  (have eR:=fH.aJ (.bl aA aA aA o.1 o.2 aA (cW au) aA (.e1 (cW au)));
  .ite (fun a2 =>
  .ret (bj (t1.append [.az (aj 10 (an (.aa false) (aj 1 (cD 4 (an (.aa true) (an (.aa true) [])))))),.aa true,(J 1),.aL [] [] (ba [2])]) (eR.aJ (.gU a2 a2 a2 a2 (cW au) a2 (cW au) cJ))))
  (fun a2 =>
  (let t5:List bY:=t1.append [.az (aj 10 (an (.aa false) (aj 5 (an (.aa false) (an (.aa true) [])))))];
  have kK:=eR.aJ (.bl a2 a2 a2 o.1 o.2 a2 (cW au) a2 (.e1 (cW au)));
  .ite (fun bd =>
  .ret (bj (t5.append [.aa true,(J 1),.aL [] [] (ba [2])]) (kK.aJ (.e1 bd))))
  (fun bd =>
  .ret (bj (t5.append [.aa false,(J 3),.aL [] [] (ba [0,3])]) (kK.aJ (.e1 bd))))))))))))
  (fun ae =>
  (let t1:List bY:=[(J 4),.aa true,.az (aj 5 (cD 4 (an (.aa false) (aj 1 []))))];
  have aQ:=((.bl h1 o.1 o.2 ae ae ae ae ae (.bT cJ cJ cJ)):cz _);
  .ite (fun au =>
  .ret (bj (t1.append [.az (aj 6 (cD 4 (an (.aa true) (aj 1 (cD 4 (aj 2 [])))))),.aa true,(J 1),.aL [] [] (ba [2])]) (aQ.aJ (.bl au au au au cJ au cJ cJ (.dw cJ cJ cJ cJ cJ)))))
  (fun au =>
  (have fH:=aQ.aJ (.bl au au au o.1 o.2 au cJ au (.e1 cJ));
  .ite (fun aA =>
  .ret (bj (t1.append [.az (aj 10 (an (.aa false) (aj 1 (cD 4 (an (.aa true) (aj 1 [])))))),.aa true,(J 1),.aL [] [] (ba [2])]) (fH.aJ (.eX aA aA aA aA cJ aA cJ))))
  (fun aA =>
  (let t4:List bY:=t1.append [.az (aj 10 (an (.aa false) (br 5 (.aa false) 1)))];
  have mj:=fH.aJ (.gU aA aA aA o.1 o.2 aA cJ aA);
  .ite (fun a2 =>
  .ret (bj (t4.append [.aa true,(J 1),.aL [] [] (ba [2])]) (mj.aJ (.e1 a2))))
  (fun a2 =>
  .ret (bj (t4.append [.aa false,(J 3),.aL [] [] (ba [0,3])]) (mj.aJ (.e1 a2)))))))))))
  (fun h1 =>
  .ret (bj [(J 4),.aa false,.aL [] [] (ba [0])] (.e1 h1)))
theorem NF {aN:ByteArray}{ag:Int}{r} (h:zC aN ag=some r):dQ bc 42 0 82 [1,0,1,0,0] (HD aN) (Nt aN) ag r:=dR (fun _=>U3) h
def sV (aN:ByteArray):Option Bool :=
 zC aN 0 >>= fun r1 =>
 match r1 with
 | .inl dp=>(mE (aN.size:Int) 1 8 >>= fun bg =>
  some bg)
 | .inr dp=>(some false)
theorem XB {aN:ByteArray}:bB (sV aN) (fun r=>Con bc 82 [.s aN] [] (.b r) []):=by
 unfold sV
 exact .ar fun r1 o =>
  (let t1:List bY:=[(J 1),(J 1),.aL [] [] (ba [0,3])];
  (by
  rcases r1 with dp|dp
  ·exact (.ar fun bg aA =>
  .ret (bu (t1.append [.sub (.exit 0) [(0,.s aN)] [],.az (br 2 (bt 3 (.b bg) true) 1)]) (.bT (NF o) (pX bg aA) (cc.b bg))))
  ·exact (.ret (bu (t1.append [.sub (.ret) [(2,.b false)] []]) (.e1 (NF o))))))
def pr (bR:b3):Option Bool :=
 sV bR.ld >>= fun r1 =>
 if r1=true then
  mE bR.iG (-50) 50 >>= fun bg =>
  if bg=true then
   mE bR.iH (-50) 50 >>= fun bJ =>
   some bJ
  else
   some false
 else
  some false
theorem Xe {bR:b3}:bB (pr bR) (fun r=>Con bc 56 [.agg (b9 bR)] [] (.b r) []):=by
 unfold pr
 exact .ar fun r1 o =>
  (have cb:=((.aE (XB r1 o) (cc.b r1)):cz _);
  .ite (fun ae =>
  .ar fun bg aA =>
  (have aQ:=cb.aJ (.d9 ae ae ae (pX bg aA) (cc.b bg) ae);
  .ite (fun a2 =>
  .ar fun bJ bn =>
  .ret (bu [(J 2),.az (aj 2 (an (bt 1 (.b r1) true) (aj 3 (an (bt 3 (.b bg) true) (an (.aa true) (aj 3 (an (bt 3 (.b bJ) true) (an (.aa true) (aj 1 [])))))))))] (aQ.aJ (.d9 a2 a2 a2 (pX bJ bn) (cc.b bJ) a2))))
  (fun a2 =>
  .ret (bu [(J 2),.az (aj 2 (an (bt 1 (.b r1) true) (aj 3 (an (bt 3 (.b bg) true) (an (.aa true) (aj 1 (cD 3 (an (.aa false) (aj 1 [])))))))))] (aQ.aJ (.de a2 a2 a2 a2))))))
  (fun ae =>
  .ret (bu [(J 2),.az (aj 2 (an (bt 1 (.b r1) true) (aj 1 (cD 3 (an (.aa false) (aj 1 (cD 3 (aj 2 []))))))))] (cb.aJ (.eX ae ae ae ae c6 c6 c6)))))
def Ge (kB:ByteArray)(dq:List b3)(ee:Int):Int→S:=fun c7=>dr [(1,.s kB),(8,.isl 4 (dq.map b9)),(9,.n .i64 ee),(10,.n .i64 c7)] []
def M1 (kB:ByteArray)(dq:List b3)(ee:Int):((Unit)⊕(Int))→du
 | .inl a=>⟨some 0,[],[]⟩
 | .inr a=>⟨none,[(4,.n .i64 a)],[]⟩
def wq (kB:ByteArray)(dq:List b3)(ee c7:Int):Option ((Int)⊕((Unit)⊕(Int))) :=
 if (decide (c7<ee))=true then
  if 0≤c7∧c7<dq.length then
  dq[c7.toNat]? >>= fun aD =>
  if (aD.ld.toList == kB.toList)=true then
   some (.inr (.inr c7))
  else
   some (.inl (R (c7+(1:Int))))
  else none
 else
  some (.inr (.inl ()))
def xa (kB:ByteArray)(dq:List b3)(ee c7:Int):Option ((Unit)⊕(Int)):=iter (fun w:Int=>wq kB dq ee w) c7
theorem T1 {kB:ByteArray}{dq:List b3}{ee c7:Int}:bB (wq kB dq ee c7) (dP bc 21 0 57 [1,0,1,0,0] (Ge kB dq ee c7) (Ge kB dq ee) (M1 kB dq ee)):=by
 unfold wq
 exact .ite (fun h1 =>
  .aZ fun o =>
  .ar fun aD au =>
  (let t1:List bY:=[(J 1),.aa true,.az (br 2 (.b7 (b9 aD)) 3),(J 4)];
  have aQ:=((.de h1 o.1 (cQ b9 o.2) (bX b9 au)):cz _);
  .ite (fun aA =>
  .ret (bj (t1.append [.aa true,(J 2),.aL [] [] (ba [4])]) (aQ.aJ (.e1 aA))))
  (fun aA =>
  .ret (bj (t1.append [.aa false,(J 2),.aL [] [] (ba [1,8,9,10])]) (aQ.aJ (.e1 aA))))))
  (fun h1 =>
  .ret (bj [(J 1),.aa false,.aL [] [] []] (.e1 h1)))
theorem M6 {kB:ByteArray}{dq:List b3}{ee c7:Int}{r} (h:xa kB dq ee c7=some r):dQ bc 21 0 57 [1,0,1,0,0] (Ge kB dq ee) (M1 kB dq ee) c7 r:=dR (fun _=>T1) h
def ue (aN:cS)(kB:ByteArray):Option Int :=
 xa kB aN.b1 (len_ b9 aN.b1) 0 >>= fun r1 =>
 match r1 with
 | .inl dp=>(some (-1))
 | .inr dp=>(some dp)
theorem V6 {aN:cS}{kB:ByteArray}:bB (ue aN kB) (fun r=>Con bc 57 [.agg (hT aN),.s kB] [] (.n .i64 r) []):=by
 unfold ue
 exact .ar fun r1 o =>
  (let t1:List bY:=[(J 2),(J 4),.aL [] [] (ba [1,8,9,10])];
  (by
  rcases r1 with dp|dp
  ·exact (.ret (bu (t1.append [.sub (.exit 0) [] [],(J 1)]) (.e1 (M6 o))))
  ·exact (.ret (bu (t1.append [.sub (.ret) [(4,.n .i64 dp)] []]) (.e1 (M6 o))))))
def F5 (gE:List b3)(fr:Int)(aF:List cj):Int→S:=fun gw=>dr [(1,.ref 0 0 0 0),(21,.isl 4 (gE.map b9)),(22,.n .i64 fr),(23,.n .i64 gw)] [[ab.mk 2 [[.isl 4 (gE.map b9),.isl 3 (aF.map cv)]] .live]]
def Gf (gE:List b3)(fr:Int)(aF:List cj):((Unit)⊕(Unit))→du
 | .inl a=>⟨some 0,[(1,.ref 0 0 0 0)],[[ab.mk 2 [[.isl 4 (gE.map b9),.isl 3 (aF.map cv)]] .live]]⟩
 | .inr a=>⟨none,[(2,.b false)],[]⟩
def rl (gE:List b3)(fr:Int)(aF:List cj)(gw:Int):Option ((Int)⊕((Unit)⊕(Unit))) :=
 if (decide (gw<fr))=true then
  if 0≤gw∧gw<gE.length then
  gE[gw.toNat]? >>= fun aD =>
  pr aD >>= fun aU =>
  if aU=true then
   ue (⟨gE,aF⟩:cS) aD.ld >>= fun c0 =>
   if (c0 != gw)=true then
    some (.inr (.inr ()))
   else
    some (.inl (R (gw+(1:Int))))
  else
   some (.inr (.inr ()))
  else none
 else
  some (.inr (.inl ()))
def tW (gE:List b3)(fr:Int)(aF:List cj)(gw:Int):Option ((Unit)⊕(Unit)):=iter (fun w:Int=>rl gE fr aF w) gw
theorem TS {gE:List b3}{fr:Int}{aF:List cj}{gw:Int}:bB (rl gE fr aF gw) (dP bc 102 0 37 [1,1,0,1,0,0] (F5 gE fr aF gw) (F5 gE fr aF) (Gf gE fr aF)):=by
 unfold rl
 exact .ite (fun h1 =>
  .aZ fun o =>
  .ar fun aD au =>
  .ar fun aU a2 =>
  (let t1:List bY:=[(J 1),.aa true,.az (br 2 (.b7 (b9 aD)) 3)];
  have aQ:=((.d9 h1 o.1 (cQ b9 o.2) (bX b9 au) (Xe aU a2) (cc.b aU)):cz _);
  .ite (fun bd =>
  .ar fun c0 cy =>
  (let t3:List bY:=t1.append [.az (aj 1 (an (bt 1 (.b aU) true) (aj 5 (an (bt 2 (.n .i64 c0) true) (aj 2 (an (.aa false) []))))))];
  have eR:=aQ.aJ (.bl (c1 bd) (c1 bd) (c1 bd) (c1 bd) (V6 c0 cy) (cc.n .i64 c0) (c1 bd) (c1 bd) (.e1 (c1 bd)));
  .ite (fun cN =>
  .ret (bj (t3.append [.aa true,(J 1),.aL [] [] (ba [2])]) (eR.aJ (.e1 cN))))
  (fun cN =>
  .ret (bj (t3.append [.aa false,(J 2),.aL [0] [.box [.id,.id]] (ba [1,21,22,23])]) (eR.aJ (.e1 cN))))))
  (fun bd =>
  .ret (bj (t1.append [.az (aj 1 (an (bt 1 (.b aU) true) (aj 2 (cD 6 (an (.aa true) []))))),.aa true,(J 1),.aL [] [] (ba [2])]) (aQ.aJ (.gU (cW bd) (cW bd) (cW bd) (cW bd) (cW bd) (cW bd) (cW bd) cJ))))))
  (fun h1 =>
  .ret (bj [(J 1),.aa false,.aL [0] [.box [.id,.id]] (ba [1])] (.e1 h1)))
theorem M2 {gE:List b3}{fr:Int}{aF:List cj}{gw:Int}{r} (h:tW gE fr aF gw=some r):dQ bc 102 0 37 [1,1,0,1,0,0] (F5 gE fr aF) (Gf gE fr aF) gw r:=dR (fun _=>TS) h
def F6 (nT:Int)(jF:List cj)(e4:Int)(aG:List b3):Int→S:=fun gx=>dr [(1,.ref 0 0 0 0),(5,.n .i64 nT),(45,.isl 3 (jF.map cv)),(46,.n .i64 e4),(47,.n .i64 gx)] [[ab.mk 2 [[.isl 4 (aG.map b9),.isl 3 (jF.map cv)]] .live]]
def MX (nT:Int)(jF:List cj)(e4:Int)(aG:List b3):((Unit)⊕(Unit))→du
 | .inl a=>⟨some 2,[],[]⟩
 | .inr a=>⟨none,[(2,.b false)],[]⟩
def zb (nT:Int)(jF:List cj)(e4:Int)(aG:List b3)(gx:Int):Option ((Int)⊕((Unit)⊕(Unit))) :=
 if (decide (gx<e4))=true then
  if 0≤gx∧gx<jF.length then
  jF[gx.toNat]? >>= fun aD =>
  mE aD.dF 0 nT >>= fun aU =>
  if aU=true then
   mE aD.ei 0 nT >>= fun c0 =>
   if c0=true then
    mE aD.jc 1 3 >>= fun di =>
    if di=true then
     if 0≤aD.dF∧aD.dF<aG.length then
     aG[aD.dF.toNat]? >>= fun yL =>
     if 0≤aD.ei∧aD.ei<aG.length then
     aG[aD.ei.toNat]? >>= fun yM =>
     if (yL.iG == yM.iG)=true then
      if (yL.iH == yM.iH)=true then
       some (.inr (.inr ()))
      else
       if yL.la=true then
        if yM.la=true then
         some (.inr (.inr ()))
        else
         some (.inl (R (gx+(1:Int))))
       else
        some (.inl (R (gx+(1:Int))))
     else
      if yL.la=true then
       if yM.la=true then
        some (.inr (.inr ()))
       else
        some (.inl (R (gx+(1:Int))))
      else
       some (.inl (R (gx+(1:Int))))
     else none
     else none
    else
     some (.inr (.inr ()))
   else
    some (.inr (.inr ()))
  else
   some (.inr (.inr ()))
  else none
 else
  some (.inr (.inl ()))
def HE (nT:Int)(jF:List cj)(e4:Int)(aG:List b3)(gx:Int):Option ((Unit)⊕(Unit)):=iter (fun w:Int=>zb nT jF e4 aG w) gx
theorem TT {nT:Int}{jF:List cj}{e4:Int}{aG:List b3}{gx:Int}:bB (zb nT jF e4 aG gx) (dP bc 102 0 37 [1,1,1,1,0,1,0,0] (F6 nT jF e4 aG gx) (F6 nT jF e4 aG) (MX nT jF e4 aG)):=by
 unfold zb
 exact .ite (fun h1 =>
  .aZ fun o =>
  .ar fun aD au =>
  .ar fun aU a2 =>
  (let t1:List bY:=[(J 1),.aa true,.az (br 1 (.b7 (cv aD)) 2)];
  have aQ:=((.d9 h1 o.1 (cQ cv o.2) (bX cv au) (pX aU a2) (cc.b aU)):cz _);
  .ite (fun bd =>
  .ar fun c0 cy =>
  (have fH:=aQ.aJ (.gU (c1 bd) (c1 bd) (c1 bd) (c1 bd) (pX c0 cy) (cc.b c0) (c1 bd) (c1 bd));
  .ite (fun cN =>
  .ar fun di e6 =>
  (let t4:List bY:=t1.append [.az (aj 3 (an (bt 3 (.b aU) true) (aj 5 (an (bt 3 (.b c0) true) (aj 1 (an (.aa false) (aj 3 (an (bt 3 (.b di) true) (aj 1 (an (.aa false) []))))))))))];
  have mj:=fH.aJ (.eX (c1 cN) (c1 cN) (c1 cN) (pX di e6) (cc.b di) (c1 cN) (c1 cN));
  .ite (fun ez =>
  .aZ fun eA =>
  .ar fun yL h4 =>
  .aZ fun hD =>
  .ar fun yM gA =>
  (let t6:List bY:=t4.append [.aa false,.az (br 5 (.b7 (b9 yL)) 2),.az (br 5 (.b7 (b9 yM)) 2)];
  have MB:=mj.aJ (.eX (c1 ez) eA.1 (cQ b9 eA.2) (bX b9 h4) hD.1 (cQ b9 hD.2) (bX b9 gA));
  .ite (fun fl =>
  .ite (fun gO =>
  .ret (bj (t6.append [.az (aj 11 (an (.aa true) (aj 1 (cD 3 (aj 2 (cD 1 (an (.aa true) []))))))),.aa true,(J 1),.aL [] [] (ba [2])]) (MB.aJ (.bl fl fl fl fl fl fl gO gO (.de gO gO gO cJ)))))
  (fun gO =>
  (have mB:=MB.aJ (.bl fl fl fl fl fl fl gO gO (.e1 gO));
  .ite (fun iT =>
  (let t9:List bY:=t6.append [.az (aj 11 (an (.aa true) (aj 6 (an (.aa true) (an (.aa false) [])))))];
  .ite (fun mZ =>
  .ret (bj (t9.append [.aa true,(J 1),.aL [] [] (ba [2])]) (mB.aJ (.d9 iT iT gO iT gO mZ))))
  (fun mZ =>
  .ret (bj (t9.append [.aa false,(J 2),.aL [0] [.box [.id,.id]] (ba [1,5,45,46,47])]) (mB.aJ (.d9 iT iT gO iT gO mZ))))))
  (fun iT =>
  .ret (bj (t6.append [.az (aj 11 (an (.aa true) (aj 4 (cD 2 (an (.aa false) (an (.aa false) [])))))),.aa false,(J 2),.aL [0] [.box [.id,.id]] (ba [1,5,45,46,47])]) (mB.aJ (.d9 iT iT gO iT gO c6)))))))
  (fun fl =>
  (have mB:=MB.aJ (.bl fl fl fl fl fl fl c6 c6 (.e1 c6));
  .ite (fun gO =>
  (let t9:List bY:=t6.append [.az (aj 6 (cD 5 (an (.aa false) (br 6 (.aa true) 1))))];
  .ite (fun iT =>
  .ret (bj (t9.append [.aa true,(J 1),.aL [] [] (ba [2])]) (mB.aJ (.dw gO gO c6 gO iT))))
  (fun iT =>
  .ret (bj (t9.append [.aa false,(J 2),.aL [0] [.box [.id,.id]] (ba [1,5,45,46,47])]) (mB.aJ (.dw gO gO c6 gO iT))))))
  (fun gO =>
  .ret (bj (t6.append [.az (aj 6 (cD 5 (an (.aa false) (aj 4 (cD 2 (an (.aa false) (aj 1 []))))))),.aa false,(J 2),.aL [0] [.box [.id,.id]] (ba [1,5,45,46,47])]) (mB.aJ (.dw gO gO c6 gO c6))))))))
  (fun ez =>
  .ret (bj (t4.append [.aa true,(J 1),.aL [] [] (ba [2])]) (mj.aJ (.e1 (cW ez)))))))
  (fun cN =>
  .ret (bj (t1.append [.az (aj 3 (an (bt 3 (.b aU) true) (aj 5 (an (bt 3 (.b c0) true) (aj 1 (an (.aa false) (aj 1 (cD 4 (an (.aa true) []))))))))),.aa true,(J 1),.aL [] [] (ba [2])]) (fH.aJ (.d9 (cW cN) (cW cN) (cW cN) (cW cN) (cW cN) cJ))))))
  (fun bd =>
  .ret (bj (t1.append [.az (aj 3 (an (bt 3 (.b aU) true) (aj 2 (cD 5 (an (.aa true) (aj 1 (cD 4 (aj 1 [])))))))),.aa true,(J 1),.aL [] [] (ba [2])]) (aQ.aJ (.bl (cW bd) (cW bd) (cW bd) (cW bd) (cW bd) (cW bd) cJ cJ (.bT cJ cJ cJ)))))))
  (fun h1 =>
  .ret (bj [(J 1),.aa false,.aL [] [] []] (.e1 h1)))
theorem M3 {nT:Int}{jF:List cj}{e4:Int}{aG:List b3}{gx:Int}{r} (h:HE nT jF e4 aG gx=some r):dQ bc 102 0 37 [1,1,1,1,0,1,0,0] (F6 nT jF e4 aG) (MX nT jF e4 aG) gx r:=dR (fun _=>TT) h
def pq (aN:cS):Option Bool :=
 if (decide ((6:Int)<(len_ b9 aN.b1)))=true then
  some false
 else
  if (decide ((8:Int)<(len_ cv aN.bO)))=true then
   some false
  else
   tW aN.b1 (len_ b9 aN.b1) aN.bO 0 >>= fun bk =>
   match bk with
   | .inl fm=>(HE (R ((len_ b9 aN.b1)-(1:Int))) aN.bO (len_ cv aN.bO) aN.b1 0 >>= fun ck =>
    match ck with
    | .inl k6=>(some true)
    | .inr k6=>(some false))
   | .inr fm=>(some false)
theorem VS {aN:cS}:bB (pq aN) (fun r=>Con bc 37 [.agg (hT aN)] [] (.b r) []):=by
 unfold pq
 exact .ite (fun h1 =>
  .ret (bu [(J 2),.az (aj 5 (cD 4 (an (.aa true) []))),.aa true,(J 1)] (.d9 h1 h1 h1 h1 h1 cJ)))
  (fun h1 =>
  (let t1:List bY:=[(J 2),.az (aj 9 (an (.aa false) []))];
  .ite (fun o =>
  .ret (bu (t1.append [.aa true,(J 1)]) (.d9 h1 h1 h1 h1 h1 o)))
  (fun o =>
  .ar fun bk au =>
  (let t2:List bY:=t1.append [.aa false,(J 4),.aL [0] [.box [.id,.id]] (ba [1,21,22,23])];
  (by
  rcases bk with fm|fm
  ·exact (.ar fun ck bd =>
  (let t3:List bY:=t2.append [(Gf aN.b1 (len_ b9 aN.b1) aN.bO (.inl fm)).ff,(J 5),(J 4),.aL [0] [.box [.id,.id]] (ba [1,5,45,46,47])];
  have eR:=((.eX h1 h1 h1 h1 h1 o (M2 au)):cz _);
  (by
  rcases ck with k6|k6
  ·exact (.ret (bu (t3.append [.sub (.exit 2) [] [],(J 1)]) (eR.aJ (.e1 (M3 bd)))))
  ·exact (.ret (bu (t3.append [.sub (.ret) [(2,.b false)] []]) (eR.aJ (.e1 (M3 bd))))))))
  ·exact (.ret (bu (t2.append [.sub (.ret) [(2,.b false)] []]) (.eX h1 h1 h1 h1 h1 o (M2 au)))))))))
def HF (gW:List Int)(fC:Int):Int→S:=fun gE=>dr [(19,.isl 1 (gW.map eI)),(20,.n .i64 fC),(21,.n .i64 gE)] []
def Nu (gW:List Int)(fC:Int):((Unit)⊕(Unit))→du
 | .inl a=>⟨some 0,[],[]⟩
 | .inr a=>⟨none,[(4,.b false)],[]⟩
def w3 (gW:List Int)(fC gE:Int):Option ((Int)⊕((Unit)⊕(Unit))) :=
 if (decide (gE<fC))=true then
  if 0≤gE∧gE<gW.length then
  gW[gE.toNat]? >>= fun aD =>
  mE aD (-100) 100 >>= fun aU =>
  if aU=true then
   some (.inl (R (gE+(1:Int))))
  else
   some (.inr (.inr ()))
  else none
 else
  some (.inr (.inl ()))
def Jm (gW:List Int)(fC gE:Int):Option ((Unit)⊕(Unit)):=iter (fun w:Int=>w3 gW fC w) gE
theorem U4 {gW:List Int}{fC gE:Int}:bB (w3 gW fC gE) (dP bc 29 0 27 [1,1,0,1,0,0] (HF gW fC gE) (HF gW fC) (Nu gW fC)):=by
 unfold w3
 exact .ite (fun h1 =>
  .aZ fun o =>
  .ar fun aD au =>
  .ar fun aU a2 =>
  (let t1:List bY:=[(J 1),.aa true,.az (br 1 (.b7 (eI aD)) 1),.az (br 1 (bt 3 (.b aU) true) 1)];
  have aQ:=((.d9 h1 o.1 (cQ eI o.2) (bX eI au) (pX aU a2) (cc.b aU)):cz _);
  .ite (fun bd =>
  .ret (bj (t1.append [.aa false,(J 2),.aL [] [] (ba [19,20,21])]) (aQ.aJ (.e1 (c1 bd)))))
  (fun bd =>
  .ret (bj (t1.append [.aa true,(J 1),.aL [] [] (ba [4])]) (aQ.aJ (.e1 (cW bd)))))))
  (fun h1 =>
  .ret (bj [(J 1),.aa false,.aL [] [] []] (.e1 h1)))
theorem NG {gW:List Int}{fC gE:Int}{r} (h:Jm gW fC gE=some r):dQ bc 29 0 27 [1,1,0,1,0,0] (HF gW fC) (Nu gW fC) gE r:=dR (fun _=>U4) h
def xA (aN:cS)(dm:List Int):Option Bool :=
 pq aN >>= fun r1 =>
 if r1=true then
  if ((len_ eI dm) != (R ((2:Int)*(len_ b9 aN.b1))))=true then
   some false
  else
   Jm dm (len_ eI dm) 0 >>= fun aU =>
   match aU with
   | .inl oZ=>(some true)
   | .inr oZ=>(some false)
 else
  some false
theorem N1 {aN:cS}{dm:List Int}:bB (xA aN dm) (fun r=>Con bc 27 [.agg (hT aN),.isl 1 (dm.map eI)] [] (.b r) []):=by
 unfold xA
 exact .ar fun r1 o =>
  (have cb:=((.aE (VS r1 o) (cc.b r1)):cz _);
  .ite (fun ae =>
  (let t2:List bY:=[(J 2),.az (aj 1 (an (bt 1 (.b r1) true) (aj 9 (an (.aa false) []))))];
  have fH:=cb.aJ (.gU (c1 ae) (c1 ae) (c1 ae) (c1 ae) (c1 ae) (c1 ae) (c1 ae) (c1 ae));
  .ite (fun au =>
  .ret (bu (t2.append [.aa true,(J 1)]) (fH.aJ (.e1 au))))
  (fun au =>
  .ar fun aU a2 =>
  (let t4:List bY:=t2.append [.aa false,(J 3),.aL [] [] (ba [19,20,21])];
  (by
  rcases aU with oZ|oZ
  ·exact (.ret (bu (t4.append [.sub (.exit 0) [] [],(J 1)]) (fH.aJ (.aE au (NG a2)))))
  ·exact (.ret (bu (t4.append [.sub (.ret) [(4,.b false)] []]) (fH.aJ (.aE au (NG a2))))))))))
  (fun ae =>
  .ret (bu [(J 2),.az (aj 1 (an (bt 1 (.b r1) true) (aj 2 (cD 7 (an (.aa true) []))))),.aa true,(J 1)] (cb.aJ (.bl (cW ae) (cW ae) (cW ae) (cW ae) (cW ae) (cW ae) (cW ae) (cW ae) (.e1 cJ))))))
def G6 (cx:List (List Int))(c2:Int)(aG:List b3)(aF:List cj):Int→S:=fun b4=>dr [(2,.ref 0 0 0 0),(11,.isl 1 (cx.map (eL 1 eI))),(12,.n .i64 c2),(13,.n .i64 b4)] [[ab.mk 2 [[.isl 4 (aG.map b9),.isl 3 (aF.map cv)]] .live]]
def Ni (cx:List (List Int))(c2:Int)(aG:List b3)(aF:List cj):((Unit)⊕(Unit))→du
 | .inl a=>⟨some 0,[],[]⟩
 | .inr a=>⟨none,[(4,.b false)],[]⟩
def wP (cx:List (List Int))(c2:Int)(aG:List b3)(aF:List cj)(b4:Int):Option ((Int)⊕((Unit)⊕(Unit))) :=
 if (decide (b4<c2))=true then
  if 0≤b4∧b4<cx.length then
  cx[b4.toNat]? >>= fun aD =>
  xA (⟨aG,aF⟩:cS) aD >>= fun aU =>
  if aU=true then
   some (.inl (R (b4+(1:Int))))
  else
   some (.inr (.inr ()))
  else none
 else
  some (.inr (.inl ()))
def I8 (cx:List (List Int))(c2:Int)(aG:List b3)(aF:List cj)(b4:Int):Option ((Unit)⊕(Unit)):=iter (fun w:Int=>wP cx c2 aG aF w) b4
theorem UF {cx:List (List Int)}{c2:Int}{aG:List b3}{aF:List cj}{b4:Int}:bB (wP cx c2 aG aF b4) (dP bc 22 0 15 [1,1,0,1,0,0] (G6 cx c2 aG aF b4) (G6 cx c2 aG aF) (Ni cx c2 aG aF)):=by
 unfold wP
 exact .ite (fun h1 =>
  .aZ fun o =>
  .ar fun aD au =>
  .ar fun aU a2 =>
  (let t1:List bY:=[(J 1),.aa true,.az (br 1 (.b7 ((eL 1 eI) aD)) 1),.az (br 2 (bt 2 (.b aU) true) 1)];
  have aQ:=((.d9 h1 o.1 (cQ (eL 1 eI) o.2) (bX (eL 1 eI) au) (N1 aU a2) (cc.b aU)):cz _);
  .ite (fun bd =>
  .ret (bj (t1.append [.aa false,(J 2),.aL [0] [.box [.id,.id]] (ba [2,11,12,13])]) (aQ.aJ (.e1 (c1 bd)))))
  (fun bd =>
  .ret (bj (t1.append [.aa true,(J 1),.aL [] [] (ba [4])]) (aQ.aJ (.e1 (cW bd)))))))
  (fun h1 =>
  .ret (bj [(J 1),.aa false,.aL [] [] []] (.e1 h1)))
theorem Nv {cx:List (List Int)}{c2:Int}{aG:List b3}{aF:List cj}{b4:Int}{r} (h:I8 cx c2 aG aF b4=some r):dQ bc 22 0 15 [1,1,0,1,0,0] (G6 cx c2 aG aF) (Ni cx c2 aG aF) b4 r:=dR (fun _=>UF) h
def ui (aN:cS)(jB:List (List Int)):Option Bool :=
 mE (len_ (eL 1 eI) jB) 1 6 >>= fun r1 =>
 if r1=true then
  I8 jB (len_ (eL 1 eI) jB) aN.b1 aN.bO 0 >>= fun bg =>
  match bg with
  | .inl m2=>(some true)
  | .inr m2=>(some false)
 else
  some false
theorem Xf {aN:cS}{jB:List (List Int)}:bB (ui aN jB) (fun r=>Con bc 15 [.agg (hT aN),.isl 1 (jB.map (eL 1 eI))] [] (.b r) []):=by
 unfold ui
 exact .ar fun r1 o =>
  (let t1:List bY:=[(J 2),.az (br 2 (bt 3 (.b r1) true) 1)];
  have aQ:=((.aE (pX r1 o) (cc.b r1)):cz _);
  .ite (fun ae =>
  .ar fun bg aA =>
  (let t3:List bY:=t1.append [.aa false,(J 3),.aL [0] [.box [.id,.id]] (ba [2,11,12,13])];
  (by
  rcases bg with m2|m2
  ·exact (.ret (bu (t3.append [.sub (.exit 0) [] [],(J 1)]) (aQ.aJ (.aE (c1 ae) (Nv aA)))))
  ·exact (.ret (bu (t3.append [.sub (.ret) [(4,.b false)] []]) (aQ.aJ (.aE (c1 ae) (Nv aA))))))))
  (fun ae =>
  .ret (bu (t1.append [.aa true,(J 1)]) (aQ.aJ (.e1 (cW ae))))))
def Gg (cx:List cj)(c2:Int):(Int×(List Int)×(List Int))→S:=fun (b4,ad,aq)=>dr [(4,.bm 0 0 0 ad.length),(5,.bm 1 0 0 aq.length),(11,.isl 3 (cx.map cv)),(12,.n .i64 c2),(13,.n .i64 b4)] [(av 1 eI ad),(av 1 eI aq)]
def GA (cx:List cj)(c2:Int):((List Int)×(List Int))→du
 | a=>⟨some 0,[(4,.bm 0 0 0 a.1.length),(5,.bm 1 0 0 a.2.length)],[(av 1 eI a.1),(av 1 eI a.2)]⟩
def wt (cx:List cj)(c2 b4:Int)(ad aq:List Int):Option ((Int×(List Int)×(List Int))⊕((List Int)×(List Int))) :=
 if (decide (b4<c2))=true then
  if 0≤b4∧b4<cx.length then
  cx[b4.toNat]? >>= fun aD =>
  if (aD.jc != (2:Int))=true then
   if (ad++([b4]:List Int)).length*8≤140737488355328 then
   if (aq++([1]:List Int)).length*8≤140737488355328 then
   if (aD.jc != (1:Int))=true then
    if ((ad++([b4]:List Int))++([b4]:List Int)).length*8≤140737488355328 then
    if ((aq++([1]:List Int))++([(-1)]:List Int)).length*8≤140737488355328 then
    some (.inl (R (b4+(1:Int)),(ad++([b4]:List Int))++([b4]:List Int),(aq++([1]:List Int))++([(-1)]:List Int)))
    else none
    else none
   else
    some (.inl (R (b4+(1:Int)),ad++([b4]:List Int),aq++([1]:List Int)))
   else none
   else none
  else
   if (aD.jc != (1:Int))=true then
    if (ad++([b4]:List Int)).length*8≤140737488355328 then
    if (aq++([(-1)]:List Int)).length*8≤140737488355328 then
    some (.inl (R (b4+(1:Int)),ad++([b4]:List Int),aq++([(-1)]:List Int)))
    else none
    else none
   else
    some (.inl (R (b4+(1:Int)),ad,aq))
  else none
 else
  some (.inr (ad,aq))
def Ia (cx:List cj)(c2 b4:Int)(ad aq:List Int):Option ((List Int)×(List Int)):=iter (fun w:Int×(List Int)×(List Int)=>wt cx c2 w.1 w.2.1 w.2.2) (b4,ad,aq)
theorem T2 {cx:List cj}{c2 b4:Int}{ad aq:List Int}:bB (wt cx c2 b4 ad aq) (dP bc 41 0 42 [1,1,1,0,1,0,0] (Gg cx c2 (b4,ad,aq)) (Gg cx c2) (GA cx c2)):=by
 unfold wt
 exact .ite (fun h1 =>
  .aZ fun o =>
  .ar fun aD au =>
  (let t1:List bY:=[(J 1),.aa true,.az (br 2 (.b7 (cv aD)) 3),(J 3)];
  have aQ:=((.de h1 o.1 (cQ cv o.2) (bX cv au)):cz _);
  .ite (fun aA =>
  .aZ fun a2 =>
  .aZ fun bd =>
  (let t3:List bY:=t1.append [.aa true,.az (br 3 (.aJ ((ad++([b4]:List Int)).length)) 1),.az (br 2 (.aJ ((aq++([1]:List Int)).length)) 1),(J 3)];
  have eR:=aQ.aJ (.bl aA (ha eI b4) (ho eI ad) (gR eI ad b4) a2 (ha eI 1) (ho eI aq) (gR eI aq 1) (.e1 bd));
  .ite (fun bn =>
  .aZ fun cy =>
  .aZ fun cN =>
  .ret (let q1:=(ad++([b4]:List Int));let a1:=(aq++([1]:List Int));let b0:=(a1++([(-1)]:List Int));let ct:=(q1++([b4]:List Int));bj (t3.append [.aa true,.az (br 3 (.aJ (ct.length)) 1),.az (br 2 (.aJ (b0.length)) 1),(J 2),.aL [27,31] [.cO (av 1 eI ct),.cO (av 1 eI b0)] (ba [4,5,11,12,13])]) (eR.aJ (.bl bn (ha eI b4) (oj (hy eI ad b4) (dO q1)) (gR eI q1 b4) cy (ha eI (-1)) (oj (hy eI aq 1) (dO a1)) (gR eI a1 (-1)) (.dw cN (db 1 .live (jk (hy eI ad b4) (dO q1) (vH eI b4))) (aK 1 .live aP ct) (db 1 .live (jk (hy eI aq 1) (dO a1) (vH eI (-1)))) (aK 1 .live aP b0))))))
  (fun bn =>
  .ret (let dh:=(ad++([b4]:List Int));let fI:=(aq++([1]:List Int));bj (t3.append [.aa false,(J 2),.aL [15,19] [.cO (av 1 eI dh),.cO (av 1 eI fI)] (ba [4,5,11,12,13])]) (eR.aJ (.dw bn (db 1 .live (hy eI ad b4)) (aK 1 .live aP dh) (db 1 .live (hy eI aq 1)) (aK 1 .live aP fI)))))))
  (fun aA =>
  .ite (fun a2 =>
  .aZ fun bd =>
  .aZ fun bn =>
  .ret (let hR:=(aq++([(-1)]:List Int));let fp:=(ad++([b4]:List Int));bj (t1.append [.aa false,(J 3),.aa true,.az (br 3 (.aJ (fp.length)) 1),.az (br 2 (.aJ (hR.length)) 1),(J 2),.aL [18,22] [.cO (av 1 eI fp),.cO (av 1 eI hR)] (ba [4,5,11,12,13])]) (aQ.aJ (.bl aA a2 (ha eI b4) (ho eI ad) (gR eI ad b4) bd (ha eI (-1)) (ho eI aq) (.d9 (gR eI aq (-1)) bn (db 1 .live (hy eI ad b4)) (aK 1 .live aP fp) (db 1 .live (hy eI aq (-1))) (aK 1 .live aP hR))))))
  (fun a2 =>
  .ret (bj (t1.append [.aa false,(J 3),.aa false,(J 2),.aL [0,1] [.pure,.pure] (ba [4,5,11,12,13])]) (aQ.aJ (.de aA a2 (aK 1 .live aP ad) (aK 1 .live aP aq))))))))
  (fun h1 =>
  .ret (bj [(J 1),.aa false,.aL [0,1] [.pure,.pure] (ba [4,5])] (.bT h1 (aK 1 .live aP ad) (aK 1 .live aP aq))))
theorem Vn {cx:List cj}{c2 b4:Int}{ad aq:List Int}{r} (h:Ia cx c2 b4 ad aq=some r):dQ bc 41 0 42 [1,1,1,0,1,0,0] (Gg cx c2) (GA cx c2) (b4,ad,aq) r:=dR (fun _=>T2) h
def zv (aN:cS):Option ((List Int)×(List Int)) :=
 Ia aN.bO (len_ cv aN.bO) 0 ([]:List Int) ([]:List Int) >>= fun r1 =>
 some (r1.1,r1.2)
theorem V7 {aN:cS}:bB (zv aN) (fun r=>Con bc 42 [.agg (hT aN)] [] (.d7 [.isl 1 (r.1.map eI),.isl 1 (r.2.map eI)]) []):=by
 unfold zv
 exact .ar fun r1 o =>
  .ret (let q1:=(db 1 .live (show []=(([]:List Int)).map eI from rfl));let a1:=(aK 1 .live aP ([]:List Int));let b0:=(av 1 eI ([]:List Int));bu [(J 3),(J 2),(J 2),(J 4),.aL [3,5] [.cO b0,.cO b0] [(4,f5 (([]:List Int).length)),(5,f5 (([]:List Int).length)),(11,ii),(12,ii),(13,ii)],(GA aN.bO (len_ cv aN.bO) r1).ff,(J 4)] (.bl q1 a1 q1 a1 (fK Int) (fK Int) (Vn o) (gQ eI r1.1) (.dw (fY eI r1.1) (dX aP r1.1) (gQ eI r1.2) (fY eI r1.2) (dX aP r1.2))) (.comp [.dM (.e7 (r1.1.map eI)),.dM (.e7 (r1.2.map eI))]))
def G7 (dq:List b3)(ee:Int):(Int×(List Int))→S:=fun (c7,ad)=>dr [(3,.bm 0 0 0 ad.length),(8,.isl 4 (dq.map b9)),(9,.n .i64 ee),(10,.n .i64 c7)] [(av 1 eI ad)]
def HG (dq:List b3)(ee:Int):(List Int)→du
 | a=>⟨some 0,[(3,.bm 0 0 0 a.length)],[(av 1 eI a)]⟩
def zi (dq:List b3)(ee c7:Int)(ad:List Int):Option ((Int×(List Int))⊕((List Int))) :=
 if (decide (c7<ee))=true then
  if 0≤c7∧c7<dq.length then
  dq[c7.toNat]? >>= fun aD =>
  if aD.la=true then
   some (.inl (R (c7+(1:Int)),ad))
  else
   if (ad++([c7]:List Int)).length*8≤140737488355328 then
   some (.inl (R (c7+(1:Int)),ad++([c7]:List Int)))
   else none
  else none
 else
  some (.inr ad)
def I9 (dq:List b3)(ee c7:Int)(ad:List Int):Option ((List Int)):=iter (fun w:Int×(List Int)=>zi dq ee w.1 w.2) (c7,ad)
theorem UG {dq:List b3}{ee c7:Int}{ad:List Int}:bB (zi dq ee c7 ad) (dP bc 24 0 44 [1,1,0,1,0,0] (G7 dq ee (c7,ad)) (G7 dq ee) (HG dq ee)):=by
 unfold zi
 exact .ite (fun h1 =>
  .aZ fun o =>
  .ar fun aD au =>
  (let t1:List bY:=[(J 1),.aa true,.az (br 2 (.b7 (b9 aD)) 3),(J 3)];
  have aQ:=((.de h1 o.1 (cQ b9 o.2) (bX b9 au)):cz _);
  .ite (fun aA =>
  .ret (bj (t1.append [.aa false,(J 2),.aL [0] [.pure] (ba [3,8,9,10])]) (aQ.aJ (.aE (c1 aA) (aK 1 .live aP ad)))))
  (fun aA =>
  .aZ fun a2 =>
  .ret (let q1:=(ad++([c7]:List Int));bj (t1.append [.aa true,.az (br 3 (.aJ (q1.length)) 1),(J 2),.aL [14] [.cO (av 1 eI q1)] (ba [3,8,9,10])]) (aQ.aJ (.eX (cW aA) (ha eI c7) (ho eI ad) (gR eI ad c7) a2 (db 1 .live (hy eI ad c7)) (aK 1 .live aP q1)))))))
  (fun h1 =>
  .ret (bj [(J 1),.aa false,.aL [0] [.pure] (ba [3])] (.aE h1 (aK 1 .live aP ad))))
theorem V8 {dq:List b3}{ee c7:Int}{ad:List Int}{r} (h:I9 dq ee c7 ad=some r):dQ bc 24 0 44 [1,1,0,1,0,0] (G7 dq ee) (HG dq ee) (c7,ad) r:=dR (fun _=>UG) h
def uj (aN:cS):Option (List Int) :=
 I9 aN.b1 (len_ b9 aN.b1) 0 ([]:List Int) >>= fun r1 =>
 some r1
theorem Ja {aN:cS}:bB (uj aN) (fun r=>Con bc 44 [.agg (hT aN)] [] (.isl 1 (r.map eI)) []):=by
 unfold uj
 exact .ar fun r1 o =>
  .ret (bu [(J 2),(J 2),(J 4),.aL [2] [.cO (av 1 eI ([]:List Int))] [(3,f5 (([]:List Int).length)),(8,ii),(9,ii),(10,ii)],(HG aN.b1 (len_ b9 aN.b1) r1).ff,(J 2)] (.eX (db 1 .live (show []=(([]:List Int)).map eI from rfl)) (aK 1 .live aP ([]:List Int)) (fK Int) (V8 o) (gQ eI r1) (fY eI r1) (dX aP r1)) (.bx (.dM (.e7 (r1.map eI)))))
def zD (aN:cS)(bw:Int):Option (Int×Int) :=
 if 0≤bw∧bw<aN.bO.length then
 aN.bO[bw.toNat]? >>= fun d8 =>
 if 0≤d8.dF∧d8.dF<aN.b1.length then
 aN.b1[d8.dF.toNat]? >>= fun ky =>
 if 0≤d8.ei∧d8.ei<aN.b1.length then
 aN.b1[d8.ei.toNat]? >>= fun mi =>
 some (R (mi.iG-ky.iG),R (mi.iH-ky.iH))
 else none
 else none
 else none
theorem Wt {aN:cS}{bw:Int}:bB (zD aN bw) (fun r=>Con bc 67 [.agg (hT aN),.n .i64 bw] [] (.d7 [.n .i64 r.1,.n .i64 r.2]) []):=by
 unfold zD
 exact .aZ fun h1 =>
  .ar fun d8 ae =>
  .aZ fun au =>
  .ar fun ky a2 =>
  .aZ fun bd =>
  .ar fun mi cy =>
  .ret (bu [(J 3),.az (aj 7 (an (.b7 (cv d8)) (br 1 (.b7 (b9 ky)) 2))),.az (aj 7 (an (.b7 (cv d8)) (br 1 (.b7 (b9 mi)) 2))),(J 12)] (.bl h1.1 (cQ cv h1.2) (bX cv ae) au.1 (cQ b9 au.2) (bX b9 a2) h1.1 (cQ cv h1.2) (.de (bX cv ae) bd.1 (cQ b9 bd.2) (bX b9 cy))))
def G8 (ag:Int)(cn:List Int)(eN e5:Int)(gw:List cj)(hc:Int)(aG:List b3)(aq:List Int):(Int×(List Int)×(List Int))→S:=fun (ig,aH,al)=>dr [(1,.ref 0 0 0 0),(3,.bm 1 0 0 aq.length),(5,.n .i64 ag),(6,.bm 2 0 0 aH.length),(7,.bm 3 0 0 al.length),(14,.isl 1 (cn.map eI)),(15,.n .i64 eN),(16,.n .i64 e5),(23,.isl 3 (gw.map cv)),(24,.n .i64 hc),(25,.n .i64 ig)] [[ab.mk 2 [[.isl 4 (aG.map b9),.isl 3 (gw.map cv)]] .live],(av 1 eI aq),(av 1 eI aH),(av 1 eI al)]
def HH (ag:Int)(cn:List Int)(eN e5:Int)(gw:List cj)(hc:Int)(aG:List b3)(aq:List Int):((List Int)×(List Int))→du
 | a=>⟨some 2,[(1,.ref 0 0 0 0),(3,.bm 1 0 0 aq.length),(6,.bm 2 0 0 a.1.length),(7,.bm 3 0 0 a.2.length),(14,.isl 1 (cn.map eI)),(15,.n .i64 eN),(16,.n .i64 e5)],[[ab.mk 2 [[.isl 4 (aG.map b9),.isl 3 (gw.map cv)]] .live],(av 1 eI aq),(av 1 eI a.1),(av 1 eI a.2)]⟩
def wQ (ag:Int)(cn:List Int)(eN e5:Int)(gw:List cj)(hc:Int)(aG:List b3)(aq:List Int)(ig:Int)(aH al:List Int):Option ((Int×(List Int)×(List Int))⊕((List Int)×(List Int))) :=
 if (decide (ig<hc))=true then
  if 0≤ig∧ig<gw.length then
  gw[ig.toNat]? >>= fun aD =>
  zD (⟨aG,gw⟩:cS) ig >>= fun aU =>
  if (ag == aD.dF)=true then
   if (aH++([aU.1]:List Int)).length*8≤140737488355328 then
   if (al++([aU.2]:List Int)).length*8≤140737488355328 then
   some (.inl (R (ig+(1:Int)),aH++([aU.1]:List Int),al++([aU.2]:List Int)))
   else none
   else none
  else
   if (ag == aD.ei)=true then
    if (aH++([R (0-aU.1)]:List Int)).length*8≤140737488355328 then
    if (al++([R (0-aU.2)]:List Int)).length*8≤140737488355328 then
    some (.inl (R (ig+(1:Int)),aH++([R (0-aU.1)]:List Int),al++([R (0-aU.2)]:List Int)))
    else none
    else none
   else
    if (aH++([0]:List Int)).length*8≤140737488355328 then
    if (al++([0]:List Int)).length*8≤140737488355328 then
    some (.inl (R (ig+(1:Int)),aH++([0]:List Int),al++([0]:List Int)))
    else none
    else none
  else none
 else
  some (.inr (aH,al))
def C9 (ag:Int)(cn:List Int)(eN e5:Int)(gw:List cj)(hc:Int)(aG:List b3)(aq:List Int)(ig:Int)(aH al:List Int):Option ((List Int)×(List Int)):=iter (fun w:Int×(List Int)×(List Int)=>wQ ag cn eN e5 gw hc aG aq w.1 w.2.1 w.2.2) (ig,aH,al)
theorem UH {ag:Int}{cn:List Int}{eN e5:Int}{gw:List cj}{hc:Int}{aG:List b3}{aq:List Int}{ig:Int}{aH al:List Int}:bB (wQ ag cn eN e5 gw hc aG aq ig aH al) (dP bc 78 0 43 [1,1,0,1,0,0,1,1,0,0,1,1,1,0,1,0,0] (G8 ag cn eN e5 gw hc aG aq (ig,aH,al)) (G8 ag cn eN e5 gw hc aG aq) (HH ag cn eN e5 gw hc aG aq)):=by
 unfold wQ
 exact .ite (fun h1 =>
  .aZ fun o =>
  .ar fun aD au =>
  .ar fun aU a2 =>
  (let t1:List bY:=[(J 1),.aa true,.az (br 2 (.b7 (cv aD)) 3),.az (br 2 (bt 2 (.d7 [.n .i64 aU.1,.n .i64 aU.2]) true) 5),(J 1),(J 4)];
  have aQ:=((.d9 h1 o.1 (cQ cv o.2) (bX cv au) (Wt aU a2) (Ee (o6 (cc.n .i64 aU.1) (o6 (cc.n .i64 aU.2) uN)))):cz _);
  .ite (fun bd =>
  .aZ fun bn =>
  .aZ fun cy =>
  .ret (let q1:=(aH++([aU.1]:List Int));let a1:=(al++([aU.2]:List Int));bj (t1.append [.aa true,.az (br 3 (.aJ (q1.length)) 1),.az (br 3 (.aJ (a1.length)) 1),(J 2),.aL [0,1,27,32] [.box [.id,.id],.pure,.cO (av 1 eI q1),.cO (av 1 eI a1)] (ba [1,3,5,6,7,14,15,16,23,24,25])]) (aQ.aJ (.bl bd (ha eI aU.1) (ho eI aH) (gR eI aH aU.1) bn (ha eI aU.2) (ho eI al) (gR eI al aU.2) (.d9 cy (aK 1 .live aP aq) (db 1 .live (hy eI aH aU.1)) (aK 1 .live aP q1) (db 1 .live (hy eI al aU.2)) (aK 1 .live aP a1))))))
  (fun bd =>
  .ite (fun bn =>
  .aZ fun cy =>
  .aZ fun cN =>
  .ret (let dh:=R (0-aU.1);let b0:=(aH++([dh]:List Int));let fI:=R (0-aU.2);let ct:=(al++([fI]:List Int));bj (t1.append [.aa false,(J 4),.aa true,.az (br 4 (.aJ (b0.length)) 1),.az (br 4 (.aJ (ct.length)) 1),(J 2),.aL [0,1,32,38] [.box [.id,.id],.pure,.cO (av 1 eI b0),.cO (av 1 eI ct)] (ba [1,3,5,6,7,14,15,16,23,24,25])]) (aQ.aJ (.bl bd bn (ha eI dh) (ho eI aH) (gR eI aH dh) cy (ha eI fI) (ho eI al) (.eX (gR eI al fI) cN (aK 1 .live aP aq) (db 1 .live (hy eI aH dh)) (aK 1 .live aP b0) (db 1 .live (hy eI al fI)) (aK 1 .live aP ct))))))
  (fun bn =>
  .aZ fun cy =>
  .aZ fun cN =>
  .ret (let hR:=(aH++([0]:List Int));let fp:=(al++([0]:List Int));bj (t1.append [.aa false,(J 4),.aa false,.az (br 2 (.aJ (hR.length)) 1),.az (br 2 (.aJ (fp.length)) 1),(J 2),.aL [0,1,30,34] [.box [.id,.id],.pure,.cO (av 1 eI hR),.cO (av 1 eI fp)] (ba [1,3,5,6,7,14,15,16,23,24,25])]) (aQ.aJ (.bl bd bn (ha eI 0) (ho eI aH) (gR eI aH 0) cy (ha eI 0) (ho eI al) (.eX (gR eI al 0) cN (aK 1 .live aP aq) (db 1 .live (hy eI aH 0)) (aK 1 .live aP hR) (db 1 .live (hy eI al 0)) (aK 1 .live aP fp)))))))))
  (fun h1 =>
  .ret (bj [(J 1),.aa false,.aL [0,1,2,3] [.box [.id,.id],.pure,.pure,.pure] (ba [1,3,6,7,14,15,16])] (.de h1 (aK 1 .live aP aq) (aK 1 .live aP aH) (aK 1 .live aP al))))
theorem V9 {ag:Int}{cn:List Int}{eN e5:Int}{gw:List cj}{hc:Int}{aG:List b3}{aq:List Int}{ig:Int}{aH al:List Int}{r} (h:C9 ag cn eN e5 gw hc aG aq ig aH al=some r):dQ bc 78 0 43 [1,1,0,1,0,0,1,1,0,0,1,1,1,0,1,0,0] (G8 ag cn eN e5 gw hc aG aq) (HH ag cn eN e5 gw hc aG aq) (ig,aH,al) r:=dR (fun _=>UH) h
def G9 (cn:List Int)(eN:Int)(aG:List b3)(aF:List cj):(Int×(List Int))→S:=fun (e5,aq)=>dr [(1,.ref 0 0 0 0),(3,.bm 1 0 0 aq.length),(14,.isl 1 (cn.map eI)),(15,.n .i64 eN),(16,.n .i64 e5)] [[ab.mk 2 [[.isl 4 (aG.map b9),.isl 3 (aF.map cv)]] .live],(av 1 eI aq)]
def HI (cn:List Int)(eN:Int)(aG:List b3)(aF:List cj):(List Int)→du
 | a=>⟨some 0,[(3,.bm 0 0 0 a.length)],[(av 1 eI a)]⟩
def wR (cn:List Int)(eN:Int)(aG:List b3)(aF:List cj)(e5:Int)(aq:List Int):Option ((Int×(List Int))⊕((List Int))) :=
 if (decide (e5<eN))=true then
  if 0≤e5∧e5<cn.length then
  cn[e5.toNat]? >>= fun aD =>
  C9 aD cn eN e5 aF (len_ cv aF) aG aq 0 ([]:List Int) ([]:List Int) >>= fun aU =>
  if (aq++aU.1).length*8≤140737488355328 then
  if ((aq++aU.1)++aU.2).length*8≤140737488355328 then
  some (.inl (R (e5+(1:Int)),(aq++aU.1)++aU.2))
  else none
  else none
  else none
 else
  some (.inr aq)
def Jb (cn:List Int)(eN:Int)(aG:List b3)(aF:List cj)(e5:Int)(aq:List Int):Option ((List Int)):=iter (fun w:Int×(List Int)=>wR cn eN aG aF w.1 w.2) (e5,aq)
theorem UI {cn:List Int}{eN:Int}{aG:List b3}{aF:List cj}{e5:Int}{aq:List Int}:bB (wR cn eN aG aF e5 aq) (dP bc 78 0 43 [1,1,0,1,0,0] (G9 cn eN aG aF (e5,aq)) (G9 cn eN aG aF) (HI cn eN aG aF)):=by
 unfold wR
 exact .ite (fun h1 =>
  .aZ fun o =>
  .ar fun aD au =>
  .ar fun aU a2 =>
  .aZ fun bd =>
  .aZ fun bn =>
  .ret (let q1:=(db 1 .live (show []=(([]:List Int)).map eI from rfl));let a1:=dO (aq++aU.1);let b0:=(aK 1 .live aP ([]:List Int));let ct:=cY eI aU.1;let dh:=(av 1 eI ([]:List Int));bj [(J 1),.aa true,.az (br 1 (.b7 (eI aD)) 1),(J 2),(J 2),(J 4),.aL [0,1,6,8] [.box [.id,.id],.pure,.cO dh,.cO dh] [(1,ii),(3,ii),(5,ii),(6,f5 (([]:List Int).length)),(7,f5 (([]:List Int).length)),(14,ii),(15,ii),(16,ii),(23,ii),(24,ii),(25,ii)],(HH aD cn eN e5 aF (len_ cv aF) aG aq aU).ff,.az (br 2 (.aJ ((aq++aU.1).length)) 1),.az (br 2 (.aJ (((aq++aU.1)++aU.2).length)) 1),(J 2),.aL [0,10] [.box [.id,.id],.cO (av 1 eI ((aq++aU.1)++aU.2))] (ba [1,3,14,15,16])] (.bl h1 o.1 (cQ eI o.2) (bX eI au) (aK 1 .live aP aq) q1 b0 q1 (.bl b0 (fK Int) (fK Int) (V9 a2) (fY eI aU.1) (ho eI aq) (mH (dO aq) (nS ct (dO aU.1)):(aq++aU.1).length=aq.length+(((aU.1.map eI).drop 0).take aU.1.length).length) bd (.d9 (fY eI aU.2) (oj (jk (cY eI aq) (dO aq) (nS ct (dO aU.1))) a1) (mH a1 (nS (cY eI aU.2) (dO aU.2)):((aq++aU.1)++aU.2).length=((aq++aU.1).length)+(((aU.2.map eI).drop 0).take aU.2.length).length) bn (db 1 .live (jk (jk (cY eI aq) (dO aq) (nS ct (dO aU.1))) a1 (nS (cY eI aU.2) (dO aU.2)))) (aK 1 .live aP ((aq++aU.1)++aU.2)))))))
  (fun h1 =>
  .ret (bj [(J 1),.aa false,.aL [1] [.pure] (ba [3])] (.aE h1 (aK 1 .live aP aq))))
theorem Wa {cn:List Int}{eN:Int}{aG:List b3}{aF:List cj}{e5:Int}{aq:List Int}{r} (h:Jb cn eN aG aF e5 aq=some r):dQ bc 78 0 43 [1,1,0,1,0,0] (G9 cn eN aG aF) (HI cn eN aG aF) (e5,aq) r:=dR (fun _=>UI) h
def z0 (aN:cS):Option (List Int) :=
 uj aN >>= fun r1 =>
 Jb r1 (len_ eI r1) aN.b1 aN.bO 0 ([]:List Int) >>= fun bk =>
 some bk
theorem Xg {aN:cS}:bB (z0 aN) (fun r=>Con bc 43 [.agg (hT aN)] [] (.isl 1 (r.map eI)) []):=by
 unfold z0
 exact .ar fun r1 o =>
  .ar fun bk au =>
  .ret (bu [(J 2),(J 2),.az (br 1 (bt 1 (.isl 1 (r1.map eI)) false) 2),.aL [0,2] [.box [.id,.id],.cO (av 1 eI ([]:List Int))] [(1,ii),(3,f5 (([]:List Int).length)),(14,ii),(15,ii),(16,ii)],(HI r1 (len_ eI r1) aN.b1 aN.bO bk).ff,(J 2)] (.gU (Ja r1 o) (db 1 .live (show []=(([]:List Int)).map eI from rfl)) (aK 1 .live aP ([]:List Int)) (fK Int) (Wa au) (gQ eI bk) (fY eI bk) (dX aP bk)) (.bx (.dM (.e7 (bk.map eI)))))
def GR (dm c7:List Int)(cx:Int):(Int×(List Int))→S:=fun (c2,ad)=>dr [(1,.isl 1 (dm.map eI)),(5,.bm 0 0 0 ad.length),(10,.isl 1 (c7.map eI)),(11,.n .i64 cx),(12,.n .i64 c2)] [(av 1 eI ad)]
def Ha (dm c7:List Int)(cx:Int):(List Int)→du
 | a=>⟨some 0,[(5,.bm 0 0 0 a.length)],[(av 1 eI a)]⟩
def wI (dm c7:List Int)(cx c2:Int)(ad:List Int):Option ((Int×(List Int))⊕((List Int))) :=
 if (decide (c2<cx))=true then
  if 0≤c2∧c2<c7.length then
  c7[c2.toNat]? >>= fun aD =>
  if 0≤(R ((2:Int)*aD))∧(R ((2:Int)*aD))<dm.length then
  dm[(R ((2:Int)*aD)).toNat]? >>= fun cu =>
  if 0≤(R ((R ((2:Int)*aD))+(1:Int)))∧(R ((R ((2:Int)*aD))+(1:Int)))<dm.length then
  dm[(R ((R ((2:Int)*aD))+(1:Int))).toNat]? >>= fun ej =>
  if (ad++([R (0-cu),R (0-ej)]:List Int)).length*8≤140737488355328 then
  some (.inl (R (c2+(1:Int)),ad++([R (0-cu),R (0-ej)]:List Int)))
  else none
  else none
  else none
  else none
 else
  some (.inr ad)
def IV (dm c7:List Int)(cx c2:Int)(ad:List Int):Option ((List Int)):=iter (fun w:Int×(List Int)=>wI dm c7 cx w.1 w.2) (c2,ad)
theorem Ut {dm c7:List Int}{cx c2:Int}{ad:List Int}:bB (wI dm c7 cx c2 ad) (dP bc 34 0 45 [1,1,0,1,0,0] (GR dm c7 cx (c2,ad)) (GR dm c7 cx) (Ha dm c7 cx)):=by
 unfold wI
 exact .ite (fun h1 =>
  .aZ fun o =>
  .ar fun aD au =>
  .aZ fun aA =>
  .ar fun cu bd =>
  .aZ fun bn =>
  .ar fun ej cN =>
  .aZ fun eW =>
  .ret (let q1:=(ad++([R (0-cu),R (0-ej)]:List Int));bj [(J 1),.aa true,.az (br 1 (.b7 (eI aD)) 1),.az (aj 5 (an (.b7 (eI cu)) (aj 6 (an (.b7 (eI ej)) (br 2 (.aJ (q1.length)) 1))))),(J 2),.aL [20] [.cO (av 1 eI q1)] (ba [1,5,10,11,12])] (.bl h1 o.1 (cQ eI o.2) (bX eI au) aA.1 (cQ eI aA.2) (bX eI bd) bn.1 (.gU (cQ eI bn.2) (bX eI cN) (lK (show [[.n .i64 (R (0-cu))],[.n .i64 (R (0-ej))]]=(([R (0-cu),R (0-ej)]:List Int)).map eI from rfl) (show 2=([R (0-cu),R (0-ej)]:List Int).length from rfl)) (ho eI ad) (mH (dO ad) (nS (show [[.n .i64 (R (0-cu))],[.n .i64 (R (0-ej))]]=(([R (0-cu),R (0-ej)]:List Int)).map eI from rfl) (show 2=([R (0-cu),R (0-ej)]:List Int).length from rfl)):q1.length=ad.length+(([[.n .i64 (R (0-cu))],[.n .i64 (R (0-ej))]].drop 0).take 2).length) eW (db 1 .live (jk (cY eI ad) (dO ad) (nS (show [[.n .i64 (R (0-cu))],[.n .i64 (R (0-ej))]]=(([R (0-cu),R (0-ej)]:List Int)).map eI from rfl) (show 2=([R (0-cu),R (0-ej)]:List Int).length from rfl)))) (aK 1 .live aP q1)))))
  (fun h1 =>
  .ret (bj [(J 1),.aa false,.aL [0] [.pure] (ba [5])] (.aE h1 (aK 1 .live aP ad))))
theorem VT {dm c7:List Int}{cx c2:Int}{ad:List Int}{r} (h:IV dm c7 cx c2 ad=some r):dQ bc 34 0 45 [1,1,0,1,0,0] (GR dm c7 cx) (Ha dm c7 cx) (c2,ad) r:=dR (fun _=>Ut) h
def zL (aN:cS)(dm:List Int):Option (List Int) :=
 uj aN >>= fun r1 =>
 IV dm r1 (len_ eI r1) 0 ([]:List Int) >>= fun bk =>
 some bk
theorem WN {aN:cS}{dm:List Int}:bB (zL aN dm) (fun r=>Con bc 45 [.agg (hT aN),.isl 1 (dm.map eI)] [] (.isl 1 (r.map eI)) []):=by
 unfold zL
 exact .ar fun r1 o =>
  .ar fun bk au =>
  .ret (bu [(J 2),(J 2),.az (br 1 (bt 1 (.isl 1 (r1.map eI)) false) 2),.aL [2] [.cO (av 1 eI ([]:List Int))] [(1,ii),(5,f5 (([]:List Int).length)),(10,ii),(11,ii),(12,ii)],(Ha dm r1 (len_ eI r1) bk).ff,(J 2)] (.gU (Ja r1 o) (db 1 .live (show []=(([]:List Int)).map eI from rfl)) (aK 1 .live aP ([]:List Int)) (fK Int) (VT au) (gQ eI bk) (fY eI bk) (dX aP bk)) (.bx (.dM (.e7 (bk.map eI)))))
def Gh (iN jl:List Int)(a4:Int)(jm:List Int)(ag oB bM dS:Int)(gS al:List Int):(Int×(List Int))→S:=fun (na,aH)=>dr [(4,.ref 0 0 0 0),(5,.isl 1 (iN.map eI)),(6,.isl 1 (jl.map eI)),(7,.n .i64 a4),(8,.isl 1 (jm.map eI)),(9,.ref 1 0 0 0),(10,.n .i64 ag),(42,.isl 1 (iN.map eI)),(43,.n .i64 oB),(44,.n .i64 na)] [[ab.mk 5 [[.n .i64 (0:Int),.n .i64 (0:Int),.eU,.eU,.eU]] .live],[ab.mk 5 [(EU bM dS 2 0 0 aH.length gS 3 0 0 al.length)] .live],(av 1 eI aH),(av 1 eI al)]
def GB (iN jl:List Int)(a4:Int)(jm:List Int)(ag oB bM dS:Int)(gS al:List Int):(List Int)→du
 | a=>⟨some 2,[(4,.ref 0 0 0 0),(5,.isl 1 (iN.map eI)),(6,.isl 1 (jl.map eI)),(7,.n .i64 a4),(8,.isl 1 (jm.map eI)),(9,.ref 1 0 0 0),(10,.n .i64 ag)],[[ab.mk 5 [[.n .i64 (0:Int),.n .i64 (0:Int),.eU,.eU,.eU]] .live],[ab.mk 5 [(EU bM dS 2 0 0 a.length gS 3 0 0 al.length)] .live],(av 1 eI a),(av 1 eI al)]⟩
def wu (iN jl:List Int)(a4:Int)(jm:List Int)(ag oB bM dS:Int)(gS al:List Int)(na:Int)(aH:List Int):Option ((Int×(List Int))⊕((List Int))) :=
 if (decide (na<oB))=true then
  if 0≤na∧na<iN.length then
  iN[na.toNat]? >>= fun aD =>
  if 0≤na∧na<jl.length then
  jl[na.toNat]? >>= fun cu =>
  if 0≤(R ((R (ag*a4))+aD))∧(R ((R (ag*a4))+aD))<jm.length then
  jm[(R ((R (ag*a4))+aD)).toNat]? >>= fun ej =>
  if (aH++([R (cu*ej)]:List Int)).length*8≤140737488355328 then
  some (.inl (R (na+(1:Int)),aH++([R (cu*ej)]:List Int)))
  else none
  else none
  else none
  else none
 else
  some (.inr aH)
def Ib (iN jl:List Int)(a4:Int)(jm:List Int)(ag oB bM dS:Int)(gS al:List Int)(na:Int)(aH:List Int):Option ((List Int)):=iter (fun w:Int×(List Int)=>wu iN jl a4 jm ag oB bM dS gS al w.1 w.2) (na,aH)
theorem T3 {iN jl:List Int}{a4:Int}{jm:List Int}{ag oB bM dS:Int}{gS al:List Int}{na:Int}{aH:List Int}:bB (wu iN jl a4 jm ag oB bM dS gS al na aH) (dP bc 69 0 29 [1,1,1,1,1,0,1,0,0,1,0,0,1,0,0] (Gh iN jl a4 jm ag oB bM dS gS al (na,aH)) (Gh iN jl a4 jm ag oB bM dS gS al) (GB iN jl a4 jm ag oB bM dS gS al)):=by
 unfold wu
 exact .ite (fun h1 =>
  .aZ fun o =>
  .ar fun aD au =>
  .aZ fun aA =>
  .ar fun cu bd =>
  .aZ fun bn =>
  .ar fun ej cN =>
  .aZ fun eW =>
  .ret (let a1:=R (cu*ej);let q1:=(aH++([a1]:List Int));bj [(J 1),.aa true,.az (br 2 (.b7 (eI aD)) 2),.az (aj 5 (an (.b7 (eI cu)) (aj 7 (an (.b7 (eI ej)) (br 2 (.aJ (q1.length)) 2))))),(J 2),.aL [0,1,26,3] [.box [.id,.id,.id,.id,.id],.box [.id,.id,.id,.id,.id],.cO (av 1 eI q1),.pure] (ba [4,5,6,7,8,9,10,42,43,44])] (.bl h1 o.1 (cQ eI o.2) (bX eI au) aA.1 (cQ eI aA.2) (bX eI bd) bn.1 (.bl (cQ eI bn.2) (bX eI cN) (ha eI a1) (ho eI aH) (gR eI aH a1) eW (db 1 .live (hy eI aH a1)) (aK 1 .live aP q1) (.e1 (aK 1 .live aP al))))))
  (fun h1 =>
  .ret (bj [(J 1),.aa false,.aL [0,1,2,3] [.box [.id,.id,.id,.id,.id],.box [.id,.id,.id,.id,.id],.pure,.pure] (ba [4,5,6,7,8,9,10])] (.bT h1 (aK 1 .live aP aH) (aK 1 .live aP al))))
theorem Vo {iN jl:List Int}{a4:Int}{jm:List Int}{ag oB bM dS:Int}{gS al:List Int}{na:Int}{aH:List Int}{r} (h:Ib iN jl a4 jm ag oB bM dS gS al na aH=some r):dQ bc 69 0 29 [1,1,1,1,1,0,1,0,0,1,0,0,1,0,0] (Gh iN jl a4 jm ag oB bM dS gS al) (GB iN jl a4 jm ag oB bM dS gS al) (na,aH) r:=dR (fun _=>T3) h
def Gi (iN jl:List Int)(a4:Int)(jm:List Int)(bM dS:Int)(gS al:List Int):(Int×(List Int))→S:=fun (ag,aH)=>dr [(4,.ref 0 0 0 0),(5,.isl 1 (iN.map eI)),(6,.isl 1 (jl.map eI)),(7,.n .i64 a4),(8,.isl 1 (jm.map eI)),(9,.ref 1 0 0 0),(10,.n .i64 ag)] [[ab.mk 5 [[.n .i64 (0:Int),.n .i64 (0:Int),.eU,.eU,.eU]] .live],[ab.mk 5 [(EU bM dS 2 0 0 aH.length gS 3 0 0 al.length)] .live],(av 1 eI aH),(av 1 eI al)]
def GC (iN jl:List Int)(a4:Int)(jm:List Int)(bM dS:Int)(gS al:List Int):(List Int)→du
 | a=>⟨some 0,[(4,.ref 0 0 0 0),(9,.ref 1 0 0 0)],[[ab.mk 5 [[.n .i64 (0:Int),.n .i64 (0:Int),.eU,.eU,.eU]] .live],[ab.mk 5 [(EU bM dS 2 0 0 a.length gS 3 0 0 al.length)] .live],(av 1 eI a),(av 1 eI al)]⟩
def wv (iN jl:List Int)(a4:Int)(jm:List Int)(bM dS:Int)(gS al:List Int)(ag:Int)(aH:List Int):Option ((Int×(List Int))⊕((List Int))) :=
 if (decide (ag<bM))=true then
  Ib iN jl a4 jm ag (len_ eI iN) bM dS gS al 0 aH >>= fun b5 =>
  some (.inl (R (ag+(1:Int)),b5))
 else
  some (.inr aH)
def CY (iN jl:List Int)(a4:Int)(jm:List Int)(bM dS:Int)(gS al:List Int)(ag:Int)(aH:List Int):Option ((List Int)):=iter (fun w:Int×(List Int)=>wv iN jl a4 jm bM dS gS al w.1 w.2) (ag,aH)
theorem T4 {iN jl:List Int}{a4:Int}{jm:List Int}{bM dS:Int}{gS al:List Int}{ag:Int}{aH:List Int}:bB (wv iN jl a4 jm bM dS gS al ag aH) (dP bc 69 0 29 [1,1,1,1,1,0,1,0,0] (Gi iN jl a4 jm bM dS gS al (ag,aH)) (Gi iN jl a4 jm bM dS gS al) (GC iN jl a4 jm bM dS gS al)):=by
 unfold wv
 exact .ite (fun h1 =>
  .ar fun b5 ae =>
  .ret (bj [(J 4),.aa true,(J 3),.aL [0,1,2,3] [.box [.id,.id,.id,.id,.id],.box [.id,.id,.id,.id,.id],.pure,.pure] (ba [4,5,6,7,8,9,10,42,43,44]),(GB iN jl a4 jm ag (len_ eI iN) bM dS gS al b5).ff,(J 3),.aL [0,1,2,3] [.box [.id,.id,.id,.id,.id],.box [.id,.id,.id,.id,.id],.pure,.pure] (ba [4,5,6,7,8,9,10])] (.d9 h1 (aK 1 .live aP aH) (aK 1 .live aP al) (Vo ae) (aK 1 .live aP b5) (aK 1 .live aP al))))
  (fun h1 =>
  .ret (bj [(J 4),.aa false,.aL [0,1,2,3] [.box [.id,.id,.id,.id,.id],.box [.id,.id,.id,.id,.id],.pure,.pure] (ba [4,9])] (.bT h1 (aK 1 .live aP aH) (aK 1 .live aP al))))
theorem Vp {iN jl:List Int}{a4:Int}{jm:List Int}{bM dS:Int}{gS al:List Int}{ag:Int}{aH:List Int}{r} (h:CY iN jl a4 jm bM dS gS al ag aH=some r):dQ bc 69 0 29 [1,1,1,1,1,0,1,0,0] (Gi iN jl a4 jm bM dS gS al) (GC iN jl a4 jm bM dS gS al) (ag,aH) r:=dR (fun _=>T4) h
def uf (aN:cS)(dm:List Int):Option hz :=
 zv aN >>= fun r1 =>
 z0 aN >>= fun bk =>
 uj aN >>= fun aU =>
 zL aN dm >>= fun bJ =>
 if 0≤(len_ eI r1.1)∧(8:Int)*(len_ eI r1.1)≤281474976710656∧(len_ eI r1.1)<9223372036854775808 then
 CY r1.1 r1.2 (len_ cv aN.bO) bk (R ((2:Int)*(len_ eI aU))) (len_ eI r1.1) bJ (List.replicate (len_ eI r1.1).toNat 0:List Int) 0 ([]:List Int) >>= fun ek =>
 some (⟨R ((2:Int)*(len_ eI aU)),(len_ eI r1.1),ek,bJ,(List.replicate (len_ eI r1.1).toNat 0:List Int)⟩:hz)
 else none
theorem Wb {aN:cS}{dm:List Int}:bB (uf aN dm) (fun r=>Con bc 29 [.agg (hT aN),.isl 1 (dm.map eI)] [] (.agg (nR r)) []):=by
 unfold uf
 exact .ar fun r1 o =>
  .ar fun bk au =>
  .ar fun aU a2 =>
  .ar fun bJ bn =>
  .aZ fun cy =>
  .ar fun ek eW =>
  .ret (let a1:=len_ eI r1.1;let q1:=(List.replicate a1.toNat 0:List Int);bu [(J 2),.az (br 1 (bt 1 (.d7 [.isl 1 (r1.1.map eI),.isl 1 (r1.2.map eI)]) false) 5),(J 4),.az (br 1 (bt 1 (.isl 1 (bk.map eI)) false) 1),.az (aj 1 (an (bt 1 (.isl 1 (aU.map eI)) false) (br 6 (bt 2 (.isl 1 (bJ.map eI)) false) 6))),(J 1),.tx 29 2 1,.aL [1,29,32,27] [.box [.id,.id,.id,.id,.id],.box [.id,.id,.len (([]:List Int).length),.id,.len (q1.length)],.cO (av 1 eI ([]:List Int)),.cO (av 1 eI q1)] (ba [4,5,6,7,8,9,10]),(GC r1.1 r1.2 (len_ cv aN.bO) bk (R ((2:Int)*(len_ eI aU))) a1 bJ q1 ek).ff,(J 2)] (.bl (V7 r1 o) (Xg bk au) (Ja aU a2) (WN bJ bn) cy.1 (Int.le_refl a1) cy.2.1 cy.2.2 (.bl (fK Int) (lL a1.toNat (0:Int)) (db 1 .live (pP eI)) (aK 1 .live aP ([]:List Int)) (db 1 .live (lx eI a1.toNat 0)) (aK 1 .live aP q1) (Vp eW) (gQ eI ek) (.dw (fY eI ek) (dX aP ek) (gQ eI q1) (fY eI q1) (dX aP q1)))) (.bx (.agg [.id,.id,.e7 (ek.map eI),.id,.e7 (q1.map eI)])))
def Ic (jN:List Int)(gM:Int):Int→S:=fun dA=>dr [(5,.isl 1 (jN.map eI)),(6,.n .i64 gM),(7,.n .i64 dA)] []
def NH (jN:List Int)(gM:Int):((Unit)⊕(Unit))→du
 | .inl a=>⟨some 0,[],[]⟩
 | .inr a=>⟨none,[(2,.b false)],[]⟩
def xb (jN:List Int)(gM dA:Int):Option ((Int)⊕((Unit)⊕(Unit))) :=
 if (decide (dA<gM))=true then
  if 0≤dA∧dA<jN.length then
  jN[dA.toNat]? >>= fun aD =>
  mE aD (-100) 100 >>= fun aU =>
  if aU=true then
   some (.inl (R (dA+(1:Int))))
  else
   some (.inr (.inr ()))
  else none
 else
  some (.inr (.inl ()))
def JB (jN:List Int)(gM dA:Int):Option ((Unit)⊕(Unit)):=iter (fun w:Int=>xb jN gM w) dA
theorem Vq {jN:List Int}{gM dA:Int}:bB (xb jN gM dA) (dP bc 15 0 58 [1,0,1,0,0] (Ic jN gM dA) (Ic jN gM) (NH jN gM)):=by
 unfold xb
 exact .ite (fun h1 =>
  .aZ fun o =>
  .ar fun aD au =>
  .ar fun aU a2 =>
  (let t1:List bY:=[(J 1),.aa true,.az (br 1 (.b7 (eI aD)) 1),.az (br 1 (bt 3 (.b aU) true) 1)];
  have aQ:=((.d9 h1 o.1 (cQ eI o.2) (bX eI au) (pX aU a2) (cc.b aU)):cz _);
  .ite (fun bd =>
  .ret (bj (t1.append [.aa false,(J 2),.aL [] [] (ba [5,6,7])]) (aQ.aJ (.e1 (c1 bd)))))
  (fun bd =>
  .ret (bj (t1.append [.aa true,(J 1),.aL [] [] (ba [2])]) (aQ.aJ (.e1 (cW bd)))))))
  (fun h1 =>
  .ret (bj [(J 1),.aa false,.aL [] [] []] (.e1 h1)))
theorem NO {jN:List Int}{gM dA:Int}{r} (h:JB jN gM dA=some r):dQ bc 15 0 58 [1,0,1,0,0] (Ic jN gM) (NH jN gM) dA r:=dR (fun _=>Vq) h
def uy (dm:List Int):Option Bool :=
 JB dm (len_ eI dm) 0 >>= fun r1 =>
 match r1 with
 | .inl dp=>(some true)
 | .inr dp=>(some false)
theorem JC {dm:List Int}:bB (uy dm) (fun r=>Con bc 58 [.isl 1 (dm.map eI)] [] (.b r) []):=by
 unfold uy
 exact .ar fun r1 o =>
  (let t1:List bY:=[(J 1),(J 3),.aL [] [] (ba [5,6,7])];
  (by
  rcases r1 with dp|dp
  ·exact (.ret (bu (t1.append [.sub (.exit 0) [] [],(J 1)]) (.e1 (NO o))))
  ·exact (.ret (bu (t1.append [.sub (.ret) [(2,.b false)] []]) (.e1 (NO o))))))
def zE (cd:hz):Option Bool :=
 mE cd.fq 0 20 >>= fun r1 =>
 if r1=true then
  mE cd.ec 0 40 >>= fun bg =>
  if bg=true then
   if ((len_ eI cd.dF) == (R (cd.fq*cd.ec)))=true then
    if ((len_ eI cd.ei) == cd.fq)=true then
     if ((len_ eI cd.hL) == cd.ec)=true then
      uy cd.dF >>= fun ek =>
      if ek=true then
       uy cd.ei >>= fun eB =>
       if eB=true then
        uy cd.hL >>= fun ef =>
        some ef
       else
        some false
      else
       some false
     else
      some false
    else
     some false
   else
    some false
  else
   some false
 else
  some false
theorem Wu {cd:hz}:bB (zE cd) (fun r=>Con bc 38 [.agg (nR cd)] [] (.b r) []):=by
 unfold zE
 exact .ar fun r1 o =>
  (have cb:=((.aE (pX r1 o) (cc.b r1)):cz _);
  .ite (fun ae =>
  .ar fun bg aA =>
  (have aQ:=cb.aJ (.d9 ae ae ae (pX bg aA) (cc.b bg) ae);
  .ite (fun a2 =>
  (have fH:=aQ.aJ (.bl a2 a2 a2 a2 a2 a2 a2 a2 (.aE a2 a2));
  .ite (fun bd =>
  .ite (fun bn =>
  (have eR:=fH.aJ (.bl bd bd bd bd bd bd bd bn (.d9 bn bn bn bn bn bn));
  .ite (fun cy =>
  .ar fun ek eW =>
  (have mj:=eR.aJ (.d9 cy cy cy (JC ek eW) (cc.b ek) cy);
  .ite (fun e6 =>
  .ar fun eB eA =>
  (have kK:=mj.aJ (.d9 e6 e6 e6 (JC eB eA) (cc.b eB) e6);
  .ite (fun fW =>
  .ar fun ef hD =>
  .ret (bu [(J 2),.az (aj 2 (an (bt 3 (.b r1) true) (aj 3 (an (bt 3 (.b bg) true) (an (.aa true) (aj 10 (an (.aa true) (aj 7 (an (.aa true) (aj 7 (an (.aa true) (aj 3 (an (bt 1 (.b ek) true) (an (.aa true) (aj 3 (an (bt 1 (.b eB) true) (an (.aa true) (aj 3 (an (bt 1 (.b ef) true) (an (.aa true) (aj 1 [])))))))))))))))))))))] (kK.aJ (.d9 fW fW fW (JC ef hD) (cc.b ef) fW))))
  (fun fW =>
  .ret (bu [(J 2),.az (aj 2 (an (bt 3 (.b r1) true) (aj 3 (an (bt 3 (.b bg) true) (an (.aa true) (aj 10 (an (.aa true) (aj 7 (an (.aa true) (aj 7 (an (.aa true) (aj 3 (an (bt 1 (.b ek) true) (an (.aa true) (aj 3 (an (bt 1 (.b eB) true) (an (.aa true) (aj 1 (cD 3 (an (.aa false) (aj 1 [])))))))))))))))))))))] (kK.aJ (.de fW fW fW fW))))))
  (fun e6 =>
  .ret (bu [(J 2),.az (aj 2 (an (bt 3 (.b r1) true) (aj 3 (an (bt 3 (.b bg) true) (an (.aa true) (aj 10 (an (.aa true) (aj 7 (an (.aa true) (aj 7 (an (.aa true) (aj 3 (an (bt 1 (.b ek) true) (an (.aa true) (aj 1 (cD 3 (an (.aa false) (aj 1 (cD 3 (aj 2 []))))))))))))))))))))] (mj.aJ (.eX e6 e6 e6 e6 c6 c6 c6))))))
  (fun cy =>
  .ret (bu [(J 2),.az (aj 2 (an (bt 3 (.b r1) true) (aj 3 (an (bt 3 (.b bg) true) (an (.aa true) (aj 10 (an (.aa true) (aj 7 (an (.aa true) (aj 7 (an (.aa true) (aj 1 (cD 3 (an (.aa false) (aj 1 (cD 3 (aj 2 (cD 3 (aj 2 [])))))))))))))))))))] (eR.aJ (.bl cy cy cy cy c6 c6 c6 c6 (.aE c6 c6)))))))
  (fun bn =>
  .ret (bu [(J 2),.az (aj 2 (an (bt 3 (.b r1) true) (aj 3 (an (bt 3 (.b bg) true) (an (.aa true) (aj 10 (an (.aa true) (aj 7 (an (.aa true) (aj 1 (cD 6 (an (.aa false) (aj 1 (cD 3 (aj 2 (cD 3 (aj 2 (cD 3 (aj 2 [])))))))))))))))))))] (fH.aJ (.bl bd bd bd bd bd bd bd bn (.bl bn bn bn bn bn bn c6 c6 (.eX c6 c6 c6 c6 c6 c6 c6)))))))
  (fun bd =>
  .ret (bu [(J 2),.az (aj 2 (an (bt 3 (.b r1) true) (aj 3 (an (bt 3 (.b bg) true) (an (.aa true) (aj 10 (an (.aa true) (aj 1 (cD 6 (an (.aa false) (aj 1 (cD 6 (aj 2 (cD 3 (aj 2 (cD 3 (aj 2 (cD 3 (aj 2 [])))))))))))))))))))] (fH.aJ (.bl bd bd bd bd bd bd bd c6 (.bl c6 c6 c6 c6 c6 c6 c6 c6 (.d9 c6 c6 c6 c6 c6 c6))))))))
  (fun a2 =>
  .ret (bu [(J 2),.az (aj 2 (an (bt 3 (.b r1) true) (aj 3 (an (bt 3 (.b bg) true) (an (.aa true) (aj 1 (cD 9 (an (.aa false) (aj 1 (cD 6 (aj 2 (cD 6 (aj 2 (cD 3 (aj 2 (cD 3 (aj 2 (cD 3 (aj 2 [])))))))))))))))))))] (aQ.aJ (.bl a2 a2 a2 a2 a2 a2 a2 a2 (.bl a2 a2 c6 c6 c6 c6 c6 c6 (.bl c6 c6 c6 c6 c6 c6 c6 c6 (.eX c6 c6 c6 c6 c6 c6 c6)))))))))
  (fun ae =>
  .ret (bu [(J 2),.az (aj 2 (an (bt 3 (.b r1) true) (aj 1 (cD 3 (an (.aa false) (aj 1 (cD 9 (aj 2 (cD 6 (aj 2 (cD 6 (aj 2 (cD 3 (aj 2 (cD 3 (aj 2 (cD 3 (aj 2 []))))))))))))))))))] (cb.aJ (.bl ae ae ae ae c6 c6 c6 c6 (.bl c6 c6 c6 c6 c6 c6 c6 c6 (.bl c6 c6 c6 c6 c6 c6 c6 c6 (.bl c6 c6 c6 c6 c6 c6 c6 c6 (.aE c6 c6)))))))))
def Hb (af:List Int):Int→S:=fun a4=>dr [(0,.isl 1 (af.map eI)),(3,.n .i64 a4)] []
def HJ (af:List Int):Int→du
 | a=>⟨some 0,[(0,.isl 1 (af.map eI)),(3,.n .i64 a)],[]⟩
def tV (af:List Int)(a4:Int):Option ((Int)⊕(Int)) :=
 if (decide ((0:Int)<a4))=true then
  if 0≤(R (a4-(1:Int)))∧(R (a4-(1:Int)))<af.length then
  af[(R (a4-(1:Int))).toNat]? >>= fun aD =>
  if (aD == (0:Int))=true then
   some (.inl (R (a4-(1:Int))))
  else
   some (.inr a4)
  else none
 else
  some (.inr a4)
def Jc (af:List Int)(a4:Int):Option (Int):=iter (fun w:Int=>tV af w) a4
theorem UJ {af:List Int}{a4:Int}:bB (tV af a4) (dP bc 21 0 108 [1,1,0,0,0] (Hb af a4) (Hb af) (HJ af)):=by
 unfold tV
 exact .ite (fun h1 =>
  .aZ fun o =>
  .ar fun aD au =>
  (let t1:List bY:=[.az (aj 7 (an (.b7 (eI aD)) (aj 1 (an (.aa true) []))))];
  have aQ:=((.bl h1 h1 h1 h1 o.1 (cQ eI o.2) h1 (bX eI au) (.aE h1 h1)):cz _);
  .ite (fun aA =>
  .ret (bj (t1.append [.aa true,(J 3),.aL [] [] (ba [0,3])]) (aQ.aJ (.e1 aA))))
  (fun aA =>
  .ret (bj (t1.append [.aa false,.aL [] [] (ba [0,3])]) (aQ.aJ (.e1 aA))))))
  (fun h1 =>
  .ret (bj [.az (aj 3 (cD 6 (an (.aa false) []))),.aa false,.aL [] [] (ba [0,3])] (.gU h1 h1 h1 h1 h1 h1 h1 c6)))
theorem Wc {af:List Int}{a4:Int}{r} (h:Jc af a4=some r):dQ bc 21 0 108 [1,1,0,0,0] (Hb af) (HJ af) a4 r:=dR (fun _=>UJ) h
def pZ (af:List Int):Option (List Int) :=
 Jc af (len_ eI af) >>= fun r1 =>
 if 0≤r1 then
 if 0≤r1.toNat∧r1.toNat≤af.length then
 some ((af.drop 0).take (r1.toNat-0))
 else none
 else none
theorem rV {af:List Int}:bB (pZ af) (fun r=>Con bc 108 [.isl 1 (af.map eI)] [] (.isl 1 (r.map eI)) []):=by
 unfold pZ
 exact .ar fun r1 o =>
  .aZ fun ae =>
  .aZ fun au =>
  .ret (bu [(J 1),(J 3),.aL [] [] (ba [0,3]),(HJ af r1).ff,(J 4)] (.dw (Wc o) ae au.1 (rB (cY eI af) au.2) (congrArg (aB.isl 1) (oi (cY eI af) 0 (r1.toNat-0)):(.isl 1 (((af.map eI).drop 0).take (r1.toNat-0)):aB) = .isl 1 (((af.drop 0).take (r1.toNat-0)).map eI))) (.bx (.dM (.cO (.isl 1 (((af.drop 0).take (r1.toNat-0)).map eI))))))
def xB (af:List Int):Option (List Int) :=
 pZ af >>= fun r1 =>
 if (decide ((60:Int)<(len_ eI r1)))=true then
  some ([]:List Int)
 else
  some r1
theorem N2 {af:List Int}:bB (xB af) (fun r=>Con bc 110 [.isl 1 (af.map eI)] [] (.isl 1 (r.map eI)) []):=by
 unfold xB
 exact .ar fun r1 o =>
  (let t1:List bY:=[(J 1),.az (br 1 (bt 1 (.isl 1 (r1.map eI)) false) 1),(J 3)];
  .ite (fun ae =>
  .ret (bu (t1.append [.aa true,(J 1)]) (.aE (rV r1 o) ae) (.bx (.dM (.j2 1)))))
  (fun ae =>
  .ret (bu (t1.append [.aa false,(J 2)]) (.aE (rV r1 o) ae))))
def hS (nX:Bool)(af:List Int):Option bp :=
 xB af >>= fun r1 =>
 if nX=true then
  if (([]:List Int)++r1).length*8≤140737488355328 then
  some (⟨(decide ((0:Int)<(len_ eI r1))),([]:List Int)++r1⟩:bp)
  else none
 else
  if (([]:List Int)++r1).length*8≤140737488355328 then
  some (⟨false,([]:List Int)++r1⟩:bp)
  else none
theorem nO {nX:Bool}{af:List Int}:bB (hS nX af) (fun r=>Con bc 87 [.b nX,.isl 1 (af.map eI)] [] (.agg (aY r)) []):=by
 unfold hS
 exact .ar fun r1 o =>
  (let t1:List bY:=[(J 1),.az (br 1 (bt 1 (.isl 1 (r1.map eI)) false) 1)];
  .ite (fun ae =>
  .aZ fun au =>
  .ret (let q1:=(([]:List Int)++r1);bu (t1.append [.az (aj 5 (an (.aa true) (br 2 (.aJ (q1.length)) 2)))]) (.bl (N2 r1 o) ae ae ae ae (oj (show []=(([]:List Int)).map eI from rfl) (fK Int)) (mH (fK Int) (cY eI r1):q1.length=0+(r1.map eI).length) au (.bT (l2 (jk (show []=(([]:List Int)).map eI from rfl) (fK Int) (cY eI r1)) (dO q1)) (lK (jk (show []=(([]:List Int)).map eI from rfl) (fK Int) (cY eI r1)) (dO q1)) (dX aP q1))) (.bx (.agg [.id,.e7 (q1.map eI)]))))
  (fun ae =>
  .aZ fun au =>
  .ret (let a1:=(([]:List Int)++r1);bu (t1.append [.az (aj 2 (cD 3 (an (.aa false) (br 2 (.aJ (a1.length)) 2))))]) (.bl (N2 r1 o) ae ae ae ae (oj (show []=(([]:List Int)).map eI from rfl) (fK Int)) (mH (fK Int) (cY eI r1):a1.length=0+(r1.map eI).length) au (.bT (l2 (jk (show []=(([]:List Int)).map eI from rfl) (fK Int) (cY eI r1)) (dO a1)) (lK (jk (show []=(([]:List Int)).map eI from rfl) (fK Int) (cY eI r1)) (dO a1)) (dX aP a1))) (.bx (.agg [.id,.e7 (a1.map eI)])))))
def Ie:(Int×(List Int))→S:=fun (a4,ad)=>dr [(0,.n .i64 a4),(3,.bm 0 0 0 ad.length)] [(av 1 eI ad)]
def IB:(List Int)→du
 | a=>⟨some 0,[(3,.bm 0 0 0 a.length)],[(av 1 eI a)]⟩
def xc (a4:Int)(ad:List Int):Option ((Int×(List Int))⊕((List Int))) :=
 if (decide ((0:Int)<a4))=true then
  if (ad++([a4.tmod (1000000000:Int)]:List Int)).length*8≤140737488355328 then
  some (.inl (R (a4.tdiv (1000000000:Int)),ad++([a4.tmod (1000000000:Int)]:List Int)))
  else none
 else
  some (.inr ad)
def JD (a4:Int)(ad:List Int):Option ((List Int)):=iter (fun w:Int×(List Int)=>xc w.1 w.2) (a4,ad)
theorem Vr {a4:Int}{ad:List Int}:bB (xc a4 ad) (dP bc 15 0 104 [1,1,0,0,0] (Ie (a4,ad)) (Ie) (IB)):=by
 unfold xc
 exact .ite (fun h1 =>
  .aZ fun o =>
  .ret (let q1:=(ad++([(a4.tmod (1000000000:Int))]:List Int));bj [(J 2),.aa true,.az (br 4 (.aJ (q1.length)) 1),(J 3),.aL [7] [.cO (av 1 eI q1)] (ba [0,3])] (.bl h1 (by decide:(1000000000:Int)≠0) (ha eI (a4.tmod (1000000000:Int))) (ho eI ad) (gR eI ad (a4.tmod (1000000000:Int))) o (by decide:(1000000000:Int)≠0) (db 1 .live (hy eI ad (a4.tmod (1000000000:Int)))) (.e1 (aK 1 .live aP q1)))))
  (fun h1 =>
  .ret (bj [(J 2),.aa false,.aL [0] [.pure] (ba [3])] (.aE h1 (aK 1 .live aP ad))))
theorem WO {a4:Int}{ad:List Int}{r} (h:JD a4 ad=some r):dQ bc 15 0 104 [1,1,0,0,0] (Ie) (IB) (a4,ad) r:=dR (fun _=>Vr) h
def rq (a4:Int):Option (List Int) :=
 JD a4 ([]:List Int) >>= fun r1 =>
 some r1
theorem xr {a4:Int}:bB (rq a4) (fun r=>Con bc 104 [.n .i64 a4] [] (.isl 1 (r.map eI)) []):=by
 unfold rq
 exact .ar fun r1 o =>
  .ret (bu [(J 1),(J 2),.aL [1] [.cO (av 1 eI ([]:List Int))] [(0,ii),(3,f5 (([]:List Int).length))],(IB r1).ff,(J 2)] (.eX (db 1 .live (show []=(([]:List Int)).map eI from rfl)) (aK 1 .live aP ([]:List Int)) (fK Int) (WO o) (gQ eI r1) (fY eI r1) (dX aP r1)) (.bx (.dM (.e7 (r1.map eI)))))
def zM (a4:Int):Option bp :=
 if (a4 == (-9223372036854775808:Int))=true then
  hS true ([854775808,223372036,9]:List Int) >>= fun b5 =>
  some b5
 else
  if (decide (a4<(0:Int)))=true then
   rq (R (0-a4)) >>= fun bk =>
   hS true bk >>= fun aU =>
   some aU
  else
   rq a4 >>= fun bk =>
   hS false bk >>= fun aU =>
   some aU
theorem WQ {a4:Int}:bB (zM a4) (fun r=>Con bc 83 [.n .i64 a4] [] (.agg (aY r)) []):=by
 unfold zM
 exact .ite (fun h1 =>
  .ar fun b5 ae =>
  .ret (bu [(J 1),(J 2),.aa true,.az (br 1 (.vA 3 (.call {ac:=[ii,.bx (.dM (.e7 (([854775808,223372036,9]:List Int).map eI)))],r:= .agg (aY b5),fP:=false,fU:=[3]})) 1)] (.dw h1 (l2 (show [[.n .i64 (854775808:Int)],[.n .i64 (223372036:Int)],[.n .i64 (9:Int)]]=(([854775808,223372036,9]:List Int)).map eI from rfl) (show 3=([854775808,223372036,9]:List Int).length from rfl)) (lK (show [[.n .i64 (854775808:Int)],[.n .i64 (223372036:Int)],[.n .i64 (9:Int)]]=(([854775808,223372036,9]:List Int)).map eI from rfl) (show 3=([854775808,223372036,9]:List Int).length from rfl)) (dX aP ([854775808,223372036,9]:List Int)) (nO b5 ae))))
  (fun h1 =>
  (let t1:List bY:=[(J 1),(J 2),.aa false,(J 2)];
  .ite (fun o =>
  .ar fun bk au =>
  .ar fun aU a2 =>
  .ret (bu (t1.append [.aa true,.az (aj 2 (an (bt 1 (.isl 1 (bk.map eI)) false) (an (bt 2 (.agg (aY aU)) false) (aj 1 []))))]) (.de h1 o (xr bk au) (nO aU a2))))
  (fun o =>
  .ar fun bk au =>
  .ar fun aU a2 =>
  .ret (bu (t1.append [.aa false,.az (aj 1 (an (bt 1 (.isl 1 (bk.map eI)) false) (an (bt 2 (.agg (aY aU)) false) (aj 1 []))))]) (.de h1 o (xr bk au) (nO aU a2))))))
def o1 (a4:Int):Option aM :=
 zM a4 >>= fun r1 =>
 some (⟨r1,([1]:List Int)⟩:aM)
theorem rU {a4:Int}:bB (o1 a4) (fun r=>Con bc 59 [.n .i64 a4] [] (.agg (aO r)) []):=by
 unfold o1
 exact .ar fun r1 o =>
  .ret (bu [(J 1),.az (br 1 (bt 1 (.agg (aY r1)) false) 3)] (.de (WQ r1 o) (l2 (show [[.n .i64 (1:Int)]]=(([1]:List Int)).map eI from rfl) (show 1=([1]:List Int).length from rfl)) (ha eI 1) (dX aP ([1]:List Int))) (.bx (.agg [.id,.id,.e7 (([1]:List Int).map eI)])))
def ur (cd:hz)(ag:Int):Option (List Int) :=
 if 0≤(R (ag*cd.ec)) then
 if 0≤(R ((R (ag+(1:Int)))*cd.ec)) then
 if (R (ag*cd.ec)).toNat≤(R ((R (ag+(1:Int)))*cd.ec)).toNat∧(R ((R (ag+(1:Int)))*cd.ec)).toNat≤cd.dF.length then
 some ((cd.dF.drop ((R (ag*cd.ec)).toNat)).take ((R ((R (ag+(1:Int)))*cd.ec)).toNat-(R (ag*cd.ec)).toNat))
 else none
 else none
 else none
theorem N3 {cd:hz}{ag:Int}:bB (ur cd ag) (fun r=>Con bc 60 [.agg (nR cd),.n .i64 ag] [] (.isl 1 (r.map eI)) []):=by
 unfold ur
 exact .aZ fun h1 =>
  .aZ fun o =>
  .aZ fun ae =>
  .ret (let q1:=R (ag*cd.ec);let a1:=(R ((R (ag+(1:Int)))*cd.ec));bu [(J 2),(J 13)] (.dw h1 o ae.1 (rB (cY eI cd.dF) ae.2) (congrArg (aB.isl 1) (oi (cY eI cd.dF) (q1.toNat) (a1.toNat-q1.toNat)):(.isl 1 (((cd.dF.map eI).drop (q1.toNat)).take (a1.toNat-q1.toNat)):aB) = .isl 1 (((cd.dF.drop (q1.toNat)).take (a1.toNat-q1.toNat)).map eI))) (.bx (.dM (.cO (.isl 1 (((cd.dF.drop (q1.toNat)).take (a1.toNat-q1.toNat)).map eI))))))
def qB (af:List Int):Option Bool :=
 if ((len_ eI af) == (1:Int))=true then
  if 0≤(0:Int)∧(0:Int)<af.length then
  af[0]? >>= fun aD =>
  some (aD == (1:Int))
  else none
 else
  some false
theorem zF {af:List Int}:bB (qB af) (fun r=>Con bc 84 [.isl 1 (af.map eI)] [] (.b r) []):=by
 unfold qB
 exact .ite (fun h1 =>
  .aZ fun o =>
  .ar fun aD au =>
  .ret (bu [(J 1),.az (aj 6 (an (.b7 (eI aD)) (br 1 (.aa true) 1)))] (.gU h1 h1 o.1 (cQ eI o.2) h1 (bX eI au) h1 h1)))
  (fun h1 =>
  .ret (bu [(J 1),.az (aj 4 (cD 4 (an (.aa false) (aj 1 []))))] (.dw h1 h1 h1 h1 h1)))
def HK (af ax:List Int):(Int×Int×(List Int))→S:=fun (cB,ag,ad)=>dr [(0,.isl 1 (af.map eI)),(1,.isl 1 (ax.map eI)),(5,.bm 0 0 0 ad.length),(6,.n .i64 cB),(7,.n .i64 ag)] [(av 1 eI ad)]
def Ig (af ax:List Int):(List Int)→du
 | a=>⟨some 0,[(5,.bm 0 0 0 a.length)],[(av 1 eI a)]⟩
def tX (af ax:List Int)(cB ag:Int)(ad:List Int):Option ((Int×Int×(List Int))⊕((List Int))) :=
 if (decide (ag<(len_ eI af)))=true then
  if 0≤ag∧ag<af.length then
  af[ag.toNat]? >>= fun aD =>
  if (decide (ag<(len_ eI ax)))=true then
   if 0≤ag∧ag<ax.length then
   ax[ag.toNat]? >>= fun eS =>
   if (ad++([(R ((R (cB+aD))+eS)).tmod (1000000000:Int)]:List Int)).length*8≤140737488355328 then
   some (.inl (R ((R ((R (cB+aD))+eS)).tdiv (1000000000:Int)),R (ag+(1:Int)),ad++([(R ((R (cB+aD))+eS)).tmod (1000000000:Int)]:List Int)))
   else none
   else none
  else
   if (ad++([(R (cB+aD)).tmod (1000000000:Int)]:List Int)).length*8≤140737488355328 then
   some (.inl (R ((R (cB+aD)).tdiv (1000000000:Int)),R (ag+(1:Int)),ad++([(R (cB+aD)).tmod (1000000000:Int)]:List Int)))
   else none
  else none
 else
  if (decide (ag<(len_ eI ax)))=true then
   if 0≤ag∧ag<ax.length then
   ax[ag.toNat]? >>= fun fD =>
   if (ad++([(R (cB+fD)).tmod (1000000000:Int)]:List Int)).length*8≤140737488355328 then
   some (.inl (R ((R (cB+fD)).tdiv (1000000000:Int)),R (ag+(1:Int)),ad++([(R (cB+fD)).tmod (1000000000:Int)]:List Int)))
   else none
   else none
  else
   if (decide ((0:Int)<cB))=true then
    if (ad++([cB.tmod (1000000000:Int)]:List Int)).length*8≤140737488355328 then
    some (.inl (R (cB.tdiv (1000000000:Int)),R (ag+(1:Int)),ad++([cB.tmod (1000000000:Int)]:List Int)))
    else none
   else
    some (.inr ad)
def Jn (af ax:List Int)(cB ag:Int)(ad:List Int):Option ((List Int)):=iter (fun w:Int×Int×(List Int)=>tX af ax w.1 w.2.1 w.2.2) (cB,ag,ad)
theorem U5 {af ax:List Int}{cB ag:Int}{ad:List Int}:bB (tX af ax cB ag ad) (dP bc 55 0 105 [1,1,1,0,1,0,0] (HK af ax (cB,ag,ad)) (HK af ax) (Ig af ax)):=by
 unfold tX
 exact .ite (fun h1 =>
  .aZ fun o =>
  .ar fun aD au =>
  (let t1:List bY:=[.az (aj 5 (cD 4 (an (.aa true) (aj 1 (cD 2 (aj 1 [])))))),.aa true,(J 2),(J 4),.aa true,.az (br 4 (.b7 (eI aD)) 2),(J 4)];
  have aQ:=((.bl h1 h1 h1 h1 h1 cJ cJ cJ (.de h1 o.1 (cQ eI o.2) (bX eI au))):cz _);
  .ite (fun aA =>
  .aZ fun a2 =>
  .ar fun eS bn =>
  .aZ fun cy =>
  .ret (let q1:=(ad++([(R ((R (cB+aD))+eS)).tmod (1000000000:Int)]:List Int));bj (t1.append [.aa true,.az (br 4 (.b7 (eI eS)) 2),.az (br 4 (.aJ (q1.length)) 1),(J 3),(J 3),.aL [43] [.cO (av 1 eI q1)] (ba [0,1,5,6,7])]) (aQ.aJ (.bl aA a2.1 (cQ eI a2.2) (bX eI bn) (by decide:(1000000000:Int)≠0) (lK (show [[.n .i64 ((R ((R (cB+aD))+eS)).tmod (1000000000:Int))]]=(([(R ((R (cB+aD))+eS)).tmod (1000000000:Int)]:List Int)).map eI from rfl) (show 1=([(R ((R (cB+aD))+eS)).tmod (1000000000:Int)]:List Int).length from rfl)) (ho eI ad) (mH (dO ad) (nS (show [[.n .i64 ((R ((R (cB+aD))+eS)).tmod (1000000000:Int))]]=(([(R ((R (cB+aD))+eS)).tmod (1000000000:Int)]:List Int)).map eI from rfl) (show 1=([(R ((R (cB+aD))+eS)).tmod (1000000000:Int)]:List Int).length from rfl)):q1.length=ad.length+(([[.n .i64 ((R ((R (cB+aD))+eS)).tmod (1000000000:Int))]].drop 0).take 1).length) (.de cy (by decide:(1000000000:Int)≠0) (db 1 .live (jk (cY eI ad) (dO ad) (nS (show [[.n .i64 ((R ((R (cB+aD))+eS)).tmod (1000000000:Int))]]=(([(R ((R (cB+aD))+eS)).tmod (1000000000:Int)]:List Int)).map eI from rfl) (show 1=([(R ((R (cB+aD))+eS)).tmod (1000000000:Int)]:List Int).length from rfl)))) (aK 1 .live aP q1))))))
  (fun aA =>
  .aZ fun a2 =>
  .ret (let a1:=(ad++([(R (cB+aD)).tmod (1000000000:Int)]:List Int));bj (t1.append [.aa false,.az (br 4 (.aJ (a1.length)) 1),(J 3),(J 3),.aL [36] [.cO (av 1 eI a1)] (ba [0,1,5,6,7])]) (aQ.aJ (.bl aA (by decide:(1000000000:Int)≠0) (lK (show [[.n .i64 ((R (cB+aD)).tmod (1000000000:Int))]]=(([(R (cB+aD)).tmod (1000000000:Int)]:List Int)).map eI from rfl) (show 1=([(R (cB+aD)).tmod (1000000000:Int)]:List Int).length from rfl)) (ho eI ad) (mH (dO ad) (nS (show [[.n .i64 ((R (cB+aD)).tmod (1000000000:Int))]]=(([(R (cB+aD)).tmod (1000000000:Int)]:List Int)).map eI from rfl) (show 1=([(R (cB+aD)).tmod (1000000000:Int)]:List Int).length from rfl)):a1.length=ad.length+(([[.n .i64 ((R (cB+aD)).tmod (1000000000:Int))]].drop 0).take 1).length) a2 (by decide:(1000000000:Int)≠0) (db 1 .live (jk (cY eI ad) (dO ad) (nS (show [[.n .i64 ((R (cB+aD)).tmod (1000000000:Int))]]=(([(R (cB+aD)).tmod (1000000000:Int)]:List Int)).map eI from rfl) (show 1=([(R (cB+aD)).tmod (1000000000:Int)]:List Int).length from rfl)))) (.e1 (aK 1 .live aP a1))))))))
  (fun h1 =>
  .ite (fun o =>
  .aZ fun ae =>
  .ar fun fD aA =>
  .aZ fun a2 =>
  .ret (let b0:=(ad++([(R (cB+fD)).tmod (1000000000:Int)]:List Int));bj [.az (aj 9 (an (.aa false) (aj 1 (cD 2 (an (.aa true) []))))),.aa true,(J 2),(J 4),.aa false,(J 4),.aa true,.az (br 4 (.b7 (eI fD)) 2),.az (br 4 (.aJ (b0.length)) 1),(J 3),(J 3),.aL [36] [.cO (av 1 eI b0)] (ba [0,1,5,6,7])] (.bl h1 h1 h1 h1 h1 o o o (.bl cJ h1 o ae.1 (cQ eI ae.2) (bX eI aA) (by decide:(1000000000:Int)≠0) (lK (show [[.n .i64 ((R (cB+fD)).tmod (1000000000:Int))]]=(([(R (cB+fD)).tmod (1000000000:Int)]:List Int)).map eI from rfl) (show 1=([(R (cB+fD)).tmod (1000000000:Int)]:List Int).length from rfl)) (.d9 (ho eI ad) (mH (dO ad) (nS (show [[.n .i64 ((R (cB+fD)).tmod (1000000000:Int))]]=(([(R (cB+fD)).tmod (1000000000:Int)]:List Int)).map eI from rfl) (show 1=([(R (cB+fD)).tmod (1000000000:Int)]:List Int).length from rfl)):b0.length=ad.length+(([[.n .i64 ((R (cB+fD)).tmod (1000000000:Int))]].drop 0).take 1).length) a2 (by decide:(1000000000:Int)≠0) (db 1 .live (jk (cY eI ad) (dO ad) (nS (show [[.n .i64 ((R (cB+fD)).tmod (1000000000:Int))]]=(([(R (cB+fD)).tmod (1000000000:Int)]:List Int)).map eI from rfl) (show 1=([(R (cB+fD)).tmod (1000000000:Int)]:List Int).length from rfl)))) (aK 1 .live aP b0))))))
  (fun o =>
  (let t1:List bY:=[.az (aj 9 (an (.aa false) (aj 3 (an (.aa false) []))))];
  .ite (fun ae =>
  .aZ fun au =>
  .ret (let ct:=(ad++([(cB.tmod (1000000000:Int))]:List Int));bj (t1.append [.aa true,(J 2),(J 4),.aa false,(J 4),.aa false,.az (br 4 (.aJ (ct.length)) 1),(J 3),(J 3),.aL [29] [.cO (av 1 eI ct)] (ba [0,1,5,6,7])]) (.bl h1 h1 h1 h1 h1 o o o (.bl ae h1 o (by decide:(1000000000:Int)≠0) (ha eI (cB.tmod (1000000000:Int))) (ho eI ad) (gR eI ad (cB.tmod (1000000000:Int))) au (.bT (by decide:(1000000000:Int)≠0) (db 1 .live (hy eI ad (cB.tmod (1000000000:Int)))) (aK 1 .live aP ct))))))
  (fun ae =>
  .ret (bj (t1.append [.aa false,.aL [0] [.pure] (ba [5])]) (.bl h1 h1 h1 h1 h1 o o o (.aE ae (aK 1 .live aP ad))))))))
theorem Wv {af ax:List Int}{cB ag:Int}{ad:List Int}{r} (h:Jn af ax cB ag ad=some r):dQ bc 55 0 105 [1,1,1,0,1,0,0] (HK af ax) (Ig af ax) (cB,ag,ad) r:=dR (fun _=>U5) h
def xC (af ax:List Int):Option (List Int) :=
 Jn af ax 0 0 ([]:List Int) >>= fun r1 =>
 some r1
theorem XC {af ax:List Int}:bB (xC af ax) (fun r=>Con bc 105 [.isl 1 (af.map eI),.isl 1 (ax.map eI)] [] (.isl 1 (r.map eI)) []):=by
 unfold xC
 exact .ar fun r1 o =>
  .ret (bu [(J 1),(J 2),(J 1),(J 1),.aL [1] [.cO (av 1 eI ([]:List Int))] [(0,ii),(1,ii),(5,f5 (([]:List Int).length)),(6,ii),(7,ii)],(Ig af ax r1).ff,(J 2)] (.eX (db 1 .live (show []=(([]:List Int)).map eI from rfl)) (aK 1 .live aP ([]:List Int)) (fK Int) (Wv o) (gQ eI r1) (fY eI r1) (dX aP r1)) (.bx (.dM (.e7 (r1.map eI)))))
def HL (af ax:List Int):Int→S:=fun ag=>dr [(0,.isl 1 (af.map eI)),(1,.isl 1 (ax.map eI)),(5,.n .i64 ag)] []
def Nw (af ax:List Int):((Unit)⊕(Int))→du
 | .inl a=>⟨some 0,[],[]⟩
 | .inr a=>⟨none,[(4,.n .i64 a)],[]⟩
def w4 (af ax:List Int)(ag:Int):Option ((Int)⊕((Unit)⊕(Int))) :=
 if (decide ((0:Int)≤ag))=true then
  if 0≤ag∧ag<af.length then
  af[ag.toNat]? >>= fun aD =>
  if 0≤ag∧ag<ax.length then
  ax[ag.toNat]? >>= fun cu =>
  if (decide (aD<cu))=true then
   some (.inr (.inr (-1)))
  else
   if (decide (cu<aD))=true then
    some (.inr (.inr 1))
   else
    some (.inl (R (ag-(1:Int))))
  else none
  else none
 else
  some (.inr (.inl ()))
def Jo (af ax:List Int)(ag:Int):Option ((Unit)⊕(Int)):=iter (fun w:Int=>w4 af ax w) ag
theorem U6 {af ax:List Int}{ag:Int}:bB (w4 af ax ag) (dP bc 41 0 106 [1,1,0,1,0,0] (HL af ax ag) (HL af ax) (Nw af ax)):=by
 unfold w4
 exact .ite (fun h1 =>
  .aZ fun o =>
  .ar fun aD au =>
  .aZ fun aA =>
  .ar fun cu bd =>
  (let t1:List bY:=[(J 2),.aa true,.az (aj 3 (an (.b7 (eI aD)) (br 3 (.b7 (eI cu)) 1)))];
  have aQ:=((.eX h1 o.1 (cQ eI o.2) (bX eI au) aA.1 (cQ eI aA.2) (bX eI bd)):cz _);
  .ite (fun bn =>
  .ret (bj (t1.append [.aa true,(J 1),.aL [] [] (ba [4])]) (aQ.aJ (.e1 bn))))
  (fun bn =>
  (let t3:List bY:=t1.append [.aa false,.az (aj 3 (an (.b7 (eI aD)) (br 3 (.b7 (eI cu)) 1)))];
  have eR:=aQ.aJ (.eX bn o.1 (cQ eI o.2) (bX eI au) aA.1 (cQ eI aA.2) (bX eI bd));
  .ite (fun cy =>
  .ret (bj (t3.append [.aa true,(J 1),.aL [] [] (ba [4])]) (eR.aJ (.e1 cy))))
  (fun cy =>
  .ret (bj (t3.append [.aa false,(J 3),.aL [] [] (ba [0,1,5])]) (eR.aJ (.e1 cy))))))))
  (fun h1 =>
  .ret (bj [(J 2),.aa false,.aL [] [] []] (.e1 h1)))
theorem NI {af ax:List Int}{ag:Int}{r} (h:Jo af ax ag=some r):dQ bc 41 0 106 [1,1,0,1,0,0] (HL af ax) (Nw af ax) ag r:=dR (fun _=>U6) h
def p3 (af ax:List Int):Option Int :=
 if ((len_ eI af) != (len_ eI ax))=true then
  if (decide ((len_ eI af)<(len_ eI ax)))=true then
   some (-1)
  else
   some 1
 else
  Jo af ax (R ((len_ eI af)-(1:Int))) >>= fun b5 =>
  match b5 with
  | .inl fh=>(some 0)
  | .inr fh=>(some fh)
theorem xp {af ax:List Int}:bB (p3 af ax) (fun r=>Con bc 106 [.isl 1 (af.map eI),.isl 1 (ax.map eI)] [] (.n .i64 r) []):=by
 unfold p3
 exact .ite (fun h1 =>
  (let t1:List bY:=[(J 1),(J 5),.aa true,(J 5)];
  .ite (fun o =>
  .ret (bu (t1.append [.aa true,(J 1)]) (.aE h1 o)))
  (fun o =>
  .ret (bu (t1.append [.aa false,(J 1)]) (.aE h1 o)))))
  (fun h1 =>
  .ar fun b5 ae =>
  (let t1:List bY:=[(J 1),(J 5),.aa false,(J 4),.aL [] [] (ba [0,1,5])];
  (by
  rcases b5 with fh|fh
  ·exact (.ret (bu (t1.append [.sub (.exit 0) [] [],(J 1)]) (.aE h1 (NI ae))))
  ·exact (.ret (bu (t1.append [.sub (.ret) [(4,.n .i64 fh)] []]) (.aE h1 (NI ae)))))))
def HM (af ax:List Int)(cx:Int):(Int×Int×(List Int))→S:=fun (lb,c2,ad)=>dr [(0,.isl 1 (af.map eI)),(1,.isl 1 (ax.map eI)),(5,.bm 0 0 0 ad.length),(6,.n .i64 lb),(11,.n .i64 cx),(12,.n .i64 c2)] [(av 1 eI ad)]
def Ih (af ax:List Int)(cx:Int):(List Int)→du
 | a=>⟨some 0,[(5,.bm 0 0 0 a.length)],[(av 1 eI a)]⟩
def tY (af ax:List Int)(cx lb c2:Int)(ad:List Int):Option ((Int×Int×(List Int))⊕((List Int))) :=
 if (decide (c2<cx))=true then
  if 0≤c2∧c2<af.length then
  af[c2.toNat]? >>= fun aD =>
  if (decide (c2<(len_ eI ax)))=true then
   if 0≤c2∧c2<ax.length then
   ax[c2.toNat]? >>= fun eS =>
   if (decide ((R ((R (aD-lb))-eS))<(0:Int)))=true then
    if (ad++([R ((R ((R (aD-lb))-eS))+(1000000000:Int))]:List Int)).length*8≤140737488355328 then
    some (.inl (1,R (c2+(1:Int)),ad++([R ((R ((R (aD-lb))-eS))+(1000000000:Int))]:List Int)))
    else none
   else
    if (ad++([R ((R (aD-lb))-eS)]:List Int)).length*8≤140737488355328 then
    some (.inl (0,R (c2+(1:Int)),ad++([R ((R (aD-lb))-eS)]:List Int)))
    else none
   else none
  else
   if (decide ((R (aD-lb))<(0:Int)))=true then
    if (ad++([R ((R (aD-lb))+(1000000000:Int))]:List Int)).length*8≤140737488355328 then
    some (.inl (1,R (c2+(1:Int)),ad++([R ((R (aD-lb))+(1000000000:Int))]:List Int)))
    else none
   else
    if (ad++([R (aD-lb)]:List Int)).length*8≤140737488355328 then
    some (.inl (0,R (c2+(1:Int)),ad++([R (aD-lb)]:List Int)))
    else none
  else none
 else
  some (.inr ad)
def Jp (af ax:List Int)(cx lb c2:Int)(ad:List Int):Option ((List Int)):=iter (fun w:Int×Int×(List Int)=>tY af ax cx w.1 w.2.1 w.2.2) (lb,c2,ad)
theorem U7 {af ax:List Int}{cx lb c2:Int}{ad:List Int}:bB (tY af ax cx lb c2 ad) (dP bc 42 0 107 [1,1,1,0,1,0,0] (HM af ax cx (lb,c2,ad)) (HM af ax cx) (Ih af ax cx)):=by
 unfold tY
 exact .ite (fun h1 =>
  .aZ fun o =>
  .ar fun aD au =>
  (let t1:List bY:=[(J 1),.aa true,(J 2),.az (br 3 (.b7 (eI aD)) 3),(J 4)];
  have aQ:=((.de h1 o.1 (cQ eI o.2) (bX eI au)):cz _);
  .ite (fun aA =>
  .aZ fun a2 =>
  .ar fun eS bn =>
  (let t3:List bY:=t1.append [.aa true,.az (br 4 (.b7 (eI eS)) 2),(J 1),(J 2)];
  have eR:=aQ.aJ (.de aA a2.1 (cQ eI a2.2) (bX eI bn));
  .ite (fun cy =>
  .aZ fun cN =>
  .ret (let q1:=(R ((R ((R (aD-lb))-eS))+(1000000000:Int)));let a1:=(ad++([q1]:List Int));bj (t3.append [.aa true,(J 3),(J 1),.az (br 3 (.aJ (a1.length)) 1),(J 2),.aL [32] [.cO (av 1 eI a1)] (ba [0,1,5,6,11,12])]) (eR.aJ (.eX cy (ha eI q1) (ho eI ad) (gR eI ad q1) cN (db 1 .live (hy eI ad q1)) (aK 1 .live aP a1)))))
  (fun cy =>
  .aZ fun cN =>
  .ret (let b0:=R ((R (aD-lb))-eS);let ct:=(ad++([b0]:List Int));bj (t3.append [.aa false,.az (br 3 (.aJ (ct.length)) 1),(J 2),.aL [28] [.cO (av 1 eI ct)] (ba [0,1,5,6,11,12])]) (eR.aJ (.eX cy (ha eI b0) (ho eI ad) (gR eI ad b0) cN (db 1 .live (hy eI ad b0)) (aK 1 .live aP ct)))))))
  (fun aA =>
  (let t3:List bY:=t1.append [.aa false,(J 1),(J 2)];
  .ite (fun a2 =>
  .aZ fun bd =>
  .ret (let dh:=(R ((R (aD-lb))+(1000000000:Int)));let fI:=(ad++([dh]:List Int));bj (t3.append [.aa true,(J 3),(J 1),.az (br 3 (.aJ (fI.length)) 1),(J 2),.aL [25] [.cO (av 1 eI fI)] (ba [0,1,5,6,11,12])]) (aQ.aJ (.gU aA a2 (ha eI dh) (ho eI ad) (gR eI ad dh) bd (db 1 .live (hy eI ad dh)) (aK 1 .live aP fI)))))
  (fun a2 =>
  .aZ fun bd =>
  .ret (let fp:=R (aD-lb);let hR:=(ad++([fp]:List Int));bj (t3.append [.aa false,.az (br 3 (.aJ (hR.length)) 1),(J 2),.aL [21] [.cO (av 1 eI hR)] (ba [0,1,5,6,11,12])]) (aQ.aJ (.gU aA a2 (ha eI fp) (ho eI ad) (gR eI ad fp) bd (db 1 .live (hy eI ad fp)) (aK 1 .live aP hR)))))))))
  (fun h1 =>
  .ret (bj [(J 1),.aa false,.aL [0] [.pure] (ba [5])] (.aE h1 (aK 1 .live aP ad))))
theorem Ww {af ax:List Int}{cx lb c2:Int}{ad:List Int}{r} (h:Jp af ax cx lb c2 ad=some r):dQ bc 42 0 107 [1,1,1,0,1,0,0] (HM af ax cx) (Ih af ax cx) (lb,c2,ad) r:=dR (fun _=>U7) h
def r2 (af ax:List Int):Option (List Int) :=
 Jp af ax (len_ eI af) 0 0 ([]:List Int) >>= fun r1 =>
 pZ r1 >>= fun bk =>
 some bk
theorem Jq {af ax:List Int}:bB (r2 af ax) (fun r=>Con bc 107 [.isl 1 (af.map eI),.isl 1 (ax.map eI)] [] (.isl 1 (r.map eI)) []):=by
 unfold r2
 exact .ar fun r1 o =>
  .ar fun bk au =>
  .ret (bu [(J 1),(J 2),(J 1),(J 3),.aL [1] [.cO (av 1 eI ([]:List Int))] [(0,ii),(1,ii),(5,f5 (([]:List Int).length)),(6,ii),(11,ii),(12,ii)],(Ih af ax (len_ eI af) r1).ff,.iY 0,.az (br 1 (.call {ac:=[.bx (.dM (.e7 (r1.map eI)))],r:= .isl 1 (bk.map eI),fP:=false,fU:=[0]}) 1)] (.gU (db 1 .live (show []=(([]:List Int)).map eI from rfl)) (aK 1 .live aP ([]:List Int)) (fK Int) (Ww o) (gQ eI r1) (fY eI r1) (dX aP r1) (rV bk au)))
def p4 (dc ew:bp):Option bp :=
 if (dc.cR == ew.cR)=true then
  xC dc.cH ew.cH >>= fun b5 =>
  hS dc.cR b5 >>= fun bg =>
  some bg
 else
  p3 dc.cH ew.cH >>= fun b5 =>
  if (decide ((0:Int)≤b5))=true then
   r2 dc.cH ew.cH >>= fun aU =>
   hS dc.cR aU >>= fun bJ =>
   some bJ
  else
   r2 ew.cH dc.cH >>= fun aU =>
   hS ew.cR aU >>= fun bJ =>
   some bJ
theorem Jr {dc ew:bp}:bB (p4 dc ew) (fun r=>Con bc 85 [.agg (aY dc),.agg (aY ew)] [] (.agg (aY r)) []):=by
 unfold p4
 exact .ite (fun h1 =>
  .ar fun b5 ae =>
  .ar fun bg aA =>
  .ret (bu [(J 3),(J 5),.aa true,.az (aj 6 (an (bt 2 (.isl 1 (b5.map eI)) false) (an (bt 2 (.agg (aY bg)) false) (aj 1 []))))] (.bT h1 (XC b5 ae) (nO bg aA))))
  (fun h1 =>
  .ar fun b5 ae =>
  (let t1:List bY:=[(J 3),(J 5),.aa false,.az (br 4 (bt 2 (.n .i64 b5) true) 1)];
  have aQ:=((.bT h1 (xp b5 ae) (cc.n .i64 b5)):cz _);
  .ite (fun au =>
  .ar fun aU a2 =>
  .ar fun bJ bn =>
  .ret (bu (t1.append [.aa true,.az (aj 6 (an (bt 2 (.isl 1 (aU.map eI)) false) (an (bt 2 (.agg (aY bJ)) false) (aj 1 []))))]) (aQ.aJ (.bT au (Jq aU a2) (nO bJ bn)))))
  (fun au =>
  .ar fun aU a2 =>
  .ar fun bJ bn =>
  .ret (bu (t1.append [.aa false,.az (aj 6 (an (bt 2 (.isl 1 (aU.map eI)) false) (an (bt 2 (.agg (aY bJ)) false) (aj 1 []))))]) (aQ.aJ (.bT au (Jq aU a2) (nO bJ bn)))))))
def Ii (af:List Int)(gM:Int):Int→S:=fun dA=>dr [(0,.isl 1 (af.map eI)),(5,.isl 1 (af.map eI)),(6,.n .i64 gM),(7,.n .i64 dA)] []
def NJ (af:List Int)(gM:Int):((Unit)⊕(Unit))→du
 | .inl a=>⟨some 0,[(0,.isl 1 (af.map eI))],[]⟩
 | .inr a=>⟨none,[(2,.b false)],[]⟩
def xd (af:List Int)(gM dA:Int):Option ((Int)⊕((Unit)⊕(Unit))) :=
 if (decide (dA<gM))=true then
  if 0≤dA∧dA<af.length then
  af[dA.toNat]? >>= fun aD =>
  mE aD 0 999999999 >>= fun aU =>
  if aU=true then
   some (.inl (R (dA+(1:Int))))
  else
   some (.inr (.inr ()))
  else none
 else
  some (.inr (.inl ()))
def JE (af:List Int)(gM dA:Int):Option ((Unit)⊕(Unit)):=iter (fun w:Int=>xd af gM w) dA
theorem Vs {af:List Int}{gM dA:Int}:bB (xd af gM dA) (dP bc 32 0 93 [1,0,1,0,0] (Ii af gM dA) (Ii af gM) (NJ af gM)):=by
 unfold xd
 exact .ite (fun h1 =>
  .aZ fun o =>
  .ar fun aD au =>
  .ar fun aU a2 =>
  (let t1:List bY:=[(J 1),.aa true,.az (br 1 (.b7 (eI aD)) 1),.az (br 1 (bt 3 (.b aU) true) 1)];
  have aQ:=((.d9 h1 o.1 (cQ eI o.2) (bX eI au) (pX aU a2) (cc.b aU)):cz _);
  .ite (fun bd =>
  .ret (bj (t1.append [.aa false,(J 2),.aL [] [] (ba [0,5,6,7])]) (aQ.aJ (.e1 (c1 bd)))))
  (fun bd =>
  .ret (bj (t1.append [.aa true,(J 1),.aL [] [] (ba [2])]) (aQ.aJ (.e1 (cW bd)))))))
  (fun h1 =>
  .ret (bj [(J 1),.aa false,.aL [] [] (ba [0])] (.e1 h1)))
theorem IW {af:List Int}{gM dA:Int}{r} (h:JE af gM dA=some r):dQ bc 32 0 93 [1,0,1,0,0] (Ii af gM) (NJ af gM) dA r:=dR (fun _=>Vs) h
def r3 (af:List Int):Option Bool :=
 JE af (len_ eI af) 0 >>= fun r1 =>
 match r1 with
 | .inl dp=>(if (decide ((len_ eI af)≤(60:Int)))=true then
  if ((len_ eI af) == (0:Int))=true then
   some true
  else
   if 0≤(R ((len_ eI af)-(1:Int)))∧(R ((len_ eI af)-(1:Int)))<af.length then
   af[(R ((len_ eI af)-(1:Int))).toNat]? >>= fun eS =>
   some (eS != (0:Int))
   else none
  else
   some false)
 | .inr dp=>(some false)
theorem JF {af:List Int}:bB (r3 af) (fun r=>Con bc 93 [.isl 1 (af.map eI)] [] (.b r) []):=by
 unfold r3
 exact .ar fun r1 o =>
  (let t1:List bY:=[(J 1),(J 3),.aL [] [] (ba [0,5,6,7])];
  (by
  rcases r1 with dp|dp
  ·exact ((let t2:List bY:=t1.append [.sub (.exit 0) [(0,.isl 1 (af.map eI))] []];
  .ite (fun au =>
  (have fH:=((.dw (IW o) au au au au):cz _);
  .ite (fun aA =>
  .ret (bu (t2.append [.az (aj 8 (cD 7 (an (.aa true) (an (.aa true) (aj 1 [])))))]) (fH.aJ (.bl aA aA aA aA aA aA aA au (.aE aA au)))))
  (fun aA =>
  .aZ fun a2 =>
  .ar fun eS bn =>
  .ret (bu (t2.append [.az (aj 13 (an (.b7 (eI eS)) (aj 1 (an (.aa false) (an (.aa true) (aj 1 []))))))]) (fH.aJ (.bl aA aA aA aA aA a2.1 (cQ eI a2.2) aA (.dw (bX eI bn) aA au aA au)))))))
  (fun au =>
  .ret (bu (t2.append [.az (aj 4 (cD 4 (aj 7 (cD 1 (an (.aa false) (aj 1 []))))))]) (.eX (IW o) au au au au au au)))))
  ·exact (.ret (bu (t1.append [.sub (.ret) [(2,.b false)] []]) (.e1 (IW o))))))
def GS (af:List Int):(Int×Int)→S:=fun (a4,ag)=>dr [(0,.isl 1 (af.map eI)),(4,.n .i64 a4),(5,.n .i64 ag)] []
def Hc (af:List Int):Int→du
 | a=>⟨some 0,[(4,.n .i64 a)],[]⟩
def wJ (af:List Int)(a4 ag:Int):Option ((Int×Int)⊕(Int)) :=
 if (decide ((0:Int)≤ag))=true then
  if 0≤ag∧ag<af.length then
  af[ag.toNat]? >>= fun aD =>
  some (.inl (R ((R (a4*(1000000000:Int)))+aD),R (ag-(1:Int))))
  else none
 else
  some (.inr a4)
def IX (af:List Int)(a4 ag:Int):Option (Int):=iter (fun w:Int×Int=>wJ af w.1 w.2) (a4,ag)
theorem Uu {af:List Int}{a4 ag:Int}:bB (wJ af a4 ag) (dP bc 30 0 114 [1,1,1,0,1,0,0] (GS af (a4,ag)) (GS af) (Hc af)):=by
 unfold wJ
 exact .ite (fun h1 =>
  .aZ fun o =>
  .ar fun aD au =>
  .ret (bj [(J 2),.aa true,.az (br 5 (.b7 (eI aD)) 2),(J 3),.aL [] [] (ba [0,4,5])] (.de h1 o.1 (cQ eI o.2) (bX eI au))))
  (fun h1 =>
  .ret (bj [(J 2),.aa false,.aL [] [] (ba [4])] (.e1 h1)))
theorem VU {af:List Int}{a4 ag:Int}{r} (h:IX af a4 ag=some r):dQ bc 30 0 114 [1,1,1,0,1,0,0] (GS af) (Hc af) (a4,ag) r:=dR (fun _=>Uu) h
def xt (af:List Int):Option (Int×Bool) :=
 r3 af >>= fun r1 =>
 if r1=true then
  p3 af ([854775807,223372036,9]:List Int) >>= fun bg =>
  if (decide ((0:Int)<bg))=true then
   some (0,false)
  else
   IX af 0 (R ((len_ eI af)-(1:Int))) >>= fun bJ =>
   some (bJ,true)
 else
  some (0,false)
theorem NP {af:List Int}:bB (xt af) (fun r=>Con bc 114 [.isl 1 (af.map eI)] [] (.d7 [.n .i64 r.1,.b r.2]) []):=by
 unfold xt
 exact .ar fun r1 o =>
  (have cb:=((.aE (JF r1 o) (cc.b r1)):cz _);
  .ite (fun ae =>
  .ar fun bg aA =>
  (let t2:List bY:=[(J 2),.az (aj 1 (an (bt 1 (.b r1) true) (aj 4 (an (.call {ac:=[ii,.bx (.dM (.e7 (([854775807,223372036,9]:List Int).map eI)))],r:= .n .i64 bg,fP:=true,fU:=[7]}) (aj 1 (an (.aa false) []))))))];
  have fH:=cb.aJ (.bl (c1 ae) (c1 ae) (c1 ae) (l2 (show [[.n .i64 (854775807:Int)],[.n .i64 (223372036:Int)],[.n .i64 (9:Int)]]=(([854775807,223372036,9]:List Int)).map eI from rfl) (show 3=([854775807,223372036,9]:List Int).length from rfl)) (lK (show [[.n .i64 (854775807:Int)],[.n .i64 (223372036:Int)],[.n .i64 (9:Int)]]=(([854775807,223372036,9]:List Int)).map eI from rfl) (show 3=([854775807,223372036,9]:List Int).length from rfl)) (dX aP ([854775807,223372036,9]:List Int)) (xp bg aA) (cc.n .i64 bg) (.aE (c1 ae) (c1 ae)));
  .ite (fun a2 =>
  .ret (bu (t2.append [.aa true,(J 2)]) (fH.aJ (.e1 a2))))
  (fun a2 =>
  .ar fun bJ bn =>
  .ret (bu (t2.append [.aa false,(J 1),(J 4),.aL [] [] (ba [0,4,5]),(Hc af bJ).ff,(J 3)]) (fH.aJ (.aE a2 (VU bn)))))))
  (fun ae =>
  .ret (bu [(J 2),.az (aj 1 (an (bt 1 (.b r1) true) (aj 2 (cD 4 (an (.aa true) []))))),.aa true,(J 2)] (cb.aJ (.d9 (cW ae) (cW ae) (cW ae) (cW ae) (cW ae) cJ)))))
def GU:(Int×Int)→S:=fun (dc,ew)=>dr [(0,.n .i64 dc),(1,.n .i64 ew)] []
def Hd:Int→du
 | a=>⟨some 0,[(0,.n .i64 a)],[]⟩
def wK (dc ew:Int):Option ((Int×Int)⊕(Int)) :=
 if (decide ((0:Int)<ew))=true then
  if ew≠0 then
  some (.inl (ew,dc.tmod ew))
  else none
 else
  some (.inr dc)
def IY (dc ew:Int):Option (Int):=iter (fun w:Int×Int=>wK w.1 w.2) (dc,ew)
theorem Uv {dc ew:Int}:bB (wK dc ew) (dP bc 15 0 115 [1,0,0,0] (GU (dc,ew)) (GU) (Hd)):=by
 unfold wK
 exact .ite (fun h1 =>
  .aZ fun o =>
  .ret (bj [(J 2),.aa true,(J 4),(J 2),(J 2),.aL [] [] (ba [0,1])] (.aE h1 o)))
  (fun h1 =>
  .ret (bj [(J 2),.aa false,.aL [] [] (ba [0])] (.e1 h1)))
theorem VV {dc ew:Int}{r} (h:IY dc ew=some r):dQ bc 15 0 115 [1,0,0,0] (GU) (Hd) (dc,ew) r:=dR (fun _=>Uv) h
def zN (dc ew:Int):Option (List Int) :=
 IY dc ew >>= fun r1 =>
 rq r1 >>= fun bk =>
 some bk
theorem WR {dc ew:Int}:bB (zN dc ew) (fun r=>Con bc 115 [.n .i64 dc,.n .i64 ew] [] (.isl 1 (r.map eI)) []):=by
 unfold zN
 exact .ar fun r1 o =>
  .ar fun bk au =>
  .ret (bu [(J 1),.aL [] [] (ba [0,1]),(Hd r1).ff,.az (br 1 (bt 1 (.isl 1 (bk.map eI)) false) 1)] (.aE (VV o) (xr bk au)))
def GV (af:List Int)(lk:Int):(Int×Int×(List Int))→S:=fun (fQ,ag,ad)=>dr [(0,.isl 1 (af.map eI)),(1,.n .i64 lk),(6,.bm 0 0 0 ad.length),(7,.n .i64 fQ),(8,.n .i64 ag)] [(av 1 eI ad)]
def He (af:List Int)(lk:Int):(Int×(List Int))→du
 | a=>⟨some 0,[(6,.bm 0 0 0 a.2.length),(7,.n .i64 a.1)],[(av 1 eI a.2)]⟩
def wL (af:List Int)(lk fQ ag:Int)(ad:List Int):Option ((Int×Int×(List Int))⊕(Int×(List Int))) :=
 if (decide ((0:Int)≤ag))=true then
  if 0≤ag∧ag<af.length then
  af[ag.toNat]? >>= fun aD =>
  if lk≠0 then
  if 0≤ag∧ag<(ad.length:Nat) then
  if (0+ag.toNat)<ad.length then
  some (.inl ((R ((R (fQ*(1000000000:Int)))+aD)).tmod lk,R (ag-(1:Int)),ad.set (0+ag.toNat) (R ((R ((R (fQ*(1000000000:Int)))+aD)).tdiv lk))))
  else none
  else none
  else none
  else none
 else
  some (.inr (fQ,ad))
def C4 (af:List Int)(lk fQ ag:Int)(ad:List Int):Option (Int×(List Int)):=iter (fun w:Int×Int×(List Int)=>wL af lk w.1 w.2.1 w.2.2) (fQ,ag,ad)
theorem Uw {af:List Int}{lk fQ ag:Int}{ad:List Int}:bB (wL af lk fQ ag ad) (dP bc 39 0 122 [1,1,1,0,1,0,0] (GV af lk (fQ,ag,ad)) (GV af lk) (He af lk)):=by
 unfold wL
 exact .ite (fun h1 =>
  .aZ fun o =>
  .ar fun aD au =>
  .aZ fun aA =>
  .aZ fun a2 =>
  .aZ fun bd =>
  .ret (let q1:=(R ((R ((R (fQ*(1000000000:Int)))+aD)).tdiv lk));bj [(J 2),.aa true,.az (br 5 (.b7 (eI aD)) 2),.az (aj 6 (an .fV [])),(J 4),(J 3),.aL [0] [.cO (av 1 eI (ad.set (0+ag.toNat) q1))] [(0,ii),(1,ii),(6,f5 ((ad.set (0+ag.toNat) q1).length)),(7,ii),(8,ii)]] (.bl h1 o.1 (cQ eI o.2) (bX eI au) aA a2.1 a2.2 (hH eI bd) (.dw (hx 1) aA (db 1 .live (gD (cY eI ad) (0+ag.toNat) q1)) (aK 1 .live aP (ad.set (0+ag.toNat) q1)) (hX (dO ad) (0+ag.toNat) q1)))))
  (fun h1 =>
  .ret (bj [(J 2),.aa false,.aL [0] [.pure] (ba [6,7])] (.aE h1 (aK 1 .live aP ad))))
theorem VW {af:List Int}{lk fQ ag:Int}{ad:List Int}{r} (h:C4 af lk fQ ag ad=some r):dQ bc 39 0 122 [1,1,1,0,1,0,0] (GV af lk) (He af lk) (fQ,ag,ad) r:=dR (fun _=>Uw) h
def zO (af:List Int)(lk:Int):Option ((List Int)×Int) :=
 if 0≤(len_ eI af)∧(8:Int)*(len_ eI af)≤281474976710656∧(len_ eI af)<9223372036854775808 then
 C4 af lk 0 (R ((len_ eI af)-(1:Int))) (List.replicate (len_ eI af).toNat 0:List Int) >>= fun b5 =>
 pZ b5.2 >>= fun bg =>
 some (bg,b5.1)
 else none
theorem WS {af:List Int}{lk:Int}:bB (zO af lk) (fun r=>Con bc 122 [.isl 1 (af.map eI),.n .i64 lk] [] (.d7 [.isl 1 (r.1.map eI),.n .i64 r.2]) []):=by
 unfold zO
 exact .aZ fun h1 =>
  .ar fun b5 ae =>
  .ar fun bg aA =>
  .ret (let q1:=(List.replicate (len_ eI af).toNat 0:List Int);bu [(J 2),(J 4),(J 1),(J 4),.aL [4] [.cO (av 1 eI q1)] [(0,ii),(1,ii),(6,f5 (q1.length)),(7,ii),(8,ii)],(He af lk b5).ff,.iY 0,.az (br 1 (.call {ac:=[.bx (.dM (.e7 (b5.2.map eI)))],r:= .isl 1 (bg.map eI),fP:=false,fU:=[0]}) 3)] (.bl h1.1 (Int.le_refl (len_ eI af)) h1.2.1 h1.2.2 (db 1 .live (lx eI (len_ eI af).toNat 0)) (aK 1 .live aP q1) (lL (len_ eI af).toNat (0:Int)) (VW ae) (.de (gQ eI b5.2) (fY eI b5.2) (dX aP b5.2) (rV bg aA))))
def HN (ax:List Int)(ag dc:Int)(dj:List Int)(dk hd:Int):(Int×Int×(List Int))→S:=fun (cB,dl,ad)=>dr [(1,.isl 1 (ax.map eI)),(5,.bm 0 0 0 ad.length),(6,.n .i64 ag),(7,.n .i64 dc),(8,.n .i64 cB),(26,.isl 1 (dj.map eI)),(27,.n .i64 dk),(28,.n .i64 ag),(33,.isl 1 (ax.map eI)),(34,.n .i64 hd),(35,.n .i64 dl)] [(av 1 eI ad)]
def Ij (ax:List Int)(ag dc:Int)(dj:List Int)(dk hd:Int):(Int×(List Int))→du
 | a=>⟨some 2,[(1,.isl 1 (ax.map eI)),(5,.bm 0 0 0 a.2.length),(6,.n .i64 ag),(8,.n .i64 a.1),(26,.isl 1 (dj.map eI)),(27,.n .i64 dk),(28,.n .i64 ag)],[(av 1 eI a.2)]⟩
def w5 (ax:List Int)(ag dc:Int)(dj:List Int)(dk hd cB dl:Int)(ad:List Int):Option ((Int×Int×(List Int))⊕(Int×(List Int))) :=
 if (decide (dl<hd))=true then
  if 0≤dl∧dl<ax.length then
  ax[dl.toNat]? >>= fun aD =>
  if 0≤(R (ag+dl))∧(R (ag+dl))<(ad.length:Nat) then
  ad[(0+(R (ag+dl)).toNat)]? >>= fun cu =>
  if (0+(R (ag+dl)).toNat)<ad.length then
  some (.inl (R ((R ((R (cu+(R (dc*aD))))+cB)).tdiv (1000000000:Int)),R (dl+(1:Int)),ad.set (0+(R (ag+dl)).toNat) ((R ((R (cu+(R (dc*aD))))+cB)).tmod (1000000000:Int))))
  else none
  else none
  else none
 else
  some (.inr (cB,ad))
def Js (ax:List Int)(ag dc:Int)(dj:List Int)(dk hd cB dl:Int)(ad:List Int):Option (Int×(List Int)):=iter (fun w:Int×Int×(List Int)=>w5 ax ag dc dj dk hd w.1 w.2.1 w.2.2) (cB,dl,ad)
theorem U8 {ax:List Int}{ag dc:Int}{dj:List Int}{dk hd cB dl:Int}{ad:List Int}:bB (w5 ax ag dc dj dk hd cB dl ad) (dP bc 72 0 88 [1,1,1,0,1,0,0,1,1,0,0,1,1,0,1,0,0] (HN ax ag dc dj dk hd (cB,dl,ad)) (HN ax ag dc dj dk hd) (Ij ax ag dc dj dk hd)):=by
 unfold w5
 exact .ite (fun h1 =>
  .aZ fun o =>
  .ar fun aD au =>
  .aZ fun aA =>
  .ar fun cu bd =>
  .aZ fun bn =>
  .ret (let q1:=R ((R (cu+(R (dc*aD))))+cB);let a1:=R (ag+dl);bj [(J 1),.aa true,.az (br 2 (.b7 (eI aD)) 2),.az (br 5 (.b7 (eI cu)) 7),.az (aj 7 (an .fV [])),(J 3),(J 2),.aL [0] [.cO (av 1 eI (ad.set (0+a1.toNat) (q1.tmod (1000000000:Int))))] [(1,ii),(5,f5 ((ad.set (0+a1.toNat) (q1.tmod (1000000000:Int))).length)),(6,ii),(7,ii),(8,ii),(26,ii),(27,ii),(28,ii),(33,ii),(34,ii),(35,ii)]] (.bl h1 o.1 (cQ eI o.2) (bX eI au) aA.1 aA.2 (bX eI bd) (by decide:(1000000000:Int)≠0) (.gU aA.1 aA.2 (hH eI bn) (hx 1) (by decide:(1000000000:Int)≠0) (db 1 .live (gD (cY eI ad) (0+a1.toNat) (q1.tmod (1000000000:Int)))) (aK 1 .live aP (ad.set (0+a1.toNat) (q1.tmod (1000000000:Int)))) (hX (dO ad) (0+a1.toNat) (q1.tmod (1000000000:Int)))))))
  (fun h1 =>
  .ret (bj [(J 1),.aa false,.aL [0] [.pure] (ba [1,5,6,8,26,27,28])] (.aE h1 (aK 1 .live aP ad))))
theorem Wx {ax:List Int}{ag dc:Int}{dj:List Int}{dk hd cB dl:Int}{ad:List Int}{r} (h:Js ax ag dc dj dk hd cB dl ad=some r):dQ bc 72 0 88 [1,1,1,0,1,0,0,1,1,0,0,1,1,0,1,0,0] (HN ax ag dc dj dk hd) (Ij ax ag dc dj dk hd) (cB,dl,ad) r:=dR (fun _=>U8) h
def HO (ax dj:List Int)(dk:Int):(Int×(List Int))→S:=fun (fz,ad)=>dr [(1,.isl 1 (ax.map eI)),(5,.bm 0 0 0 ad.length),(26,.isl 1 (dj.map eI)),(27,.n .i64 dk),(28,.n .i64 fz)] [(av 1 eI ad)]
def Ik (ax dj:List Int)(dk:Int):(List Int)→du
 | a=>⟨some 0,[(5,.bm 0 0 0 a.length)],[(av 1 eI a)]⟩
def zm (ax dj:List Int)(dk fz:Int)(ad:List Int):Option ((Int×(List Int))⊕((List Int))) :=
 if (decide (fz<dk))=true then
  if 0≤fz∧fz<dj.length then
  dj[fz.toNat]? >>= fun aD =>
  Js ax fz aD dj dk (len_ eI ax) 0 0 ad >>= fun aU =>
  if 0≤(R (fz+(len_ eI ax)))∧(R (fz+(len_ eI ax)))<(aU.2.length:Nat) then
  if (0+(R (fz+(len_ eI ax))).toNat)<aU.2.length then
  some (.inl (R (fz+(1:Int)),aU.2.set (0+(R (fz+(len_ eI ax))).toNat) aU.1))
  else none
  else none
  else none
 else
  some (.inr ad)
def zG (ax dj:List Int)(dk fz:Int)(ad:List Int):Option ((List Int)):=iter (fun w:Int×(List Int)=>zm ax dj dk w.1 w.2) (fz,ad)
theorem U9 {ax dj:List Int}{dk fz:Int}{ad:List Int}:bB (zm ax dj dk fz ad) (dP bc 72 0 88 [1,1,1,0,1,0,0] (HO ax dj dk (fz,ad)) (HO ax dj dk) (Ik ax dj dk)):=by
 unfold zm
 exact .ite (fun h1 =>
  .aZ fun o =>
  .ar fun aD au =>
  .ar fun aU a2 =>
  .aZ fun bd =>
  .aZ fun bn =>
  .ret (let q1:=R (fz+(len_ eI ax));bj [(J 1),.aa true,.az (br 2 (.b7 (eI aD)) 2),(J 1),(J 3),.aL [0] [.pure] (ba [1,5,6,7,8,26,27,28,33,34,35]),(Ij ax fz aD dj dk (len_ eI ax) aU).ff,.az (aj 7 (an .fV [])),(J 2),.aL [0] [.cO (av 1 eI (aU.2.set (0+q1.toNat) aU.1))] [(1,ii),(5,f5 ((aU.2.set (0+q1.toNat) aU.1).length)),(26,ii),(27,ii),(28,ii)]] (.bl h1 o.1 (cQ eI o.2) (bX eI au) (aK 1 .live aP ad) (Wx a2) bd.1 bd.2 (.dw (hH eI bn) (hx 1) (db 1 .live (gD (cY eI aU.2) (0+q1.toNat) aU.1)) (aK 1 .live aP (aU.2.set (0+q1.toNat) aU.1)) (hX (dO aU.2) (0+q1.toNat) aU.1)))))
  (fun h1 =>
  .ret (bj [(J 1),.aa false,.aL [0] [.pure] (ba [5])] (.aE h1 (aK 1 .live aP ad))))
theorem Wy {ax dj:List Int}{dk fz:Int}{ad:List Int}{r} (h:zG ax dj dk fz ad=some r):dQ bc 72 0 88 [1,1,1,0,1,0,0] (HO ax dj dk) (Ik ax dj dk) (fz,ad) r:=dR (fun _=>U9) h
def hN (af ax:List Int):Option (List Int) :=
 if ((len_ eI af) == (0:Int))=true then
  some ([]:List Int)
 else
  if ((len_ eI ax) == (0:Int))=true then
   some ([]:List Int)
  else
   if 0≤(R ((len_ eI af)+(len_ eI ax)))∧(8:Int)*(R ((len_ eI af)+(len_ eI ax)))≤281474976710656∧(R ((len_ eI af)+(len_ eI ax)))<9223372036854775808 then
   zG ax af (len_ eI af) 0 (List.replicate (R ((len_ eI af)+(len_ eI ax))).toNat 0:List Int) >>= fun bg =>
   pZ bg >>= fun ck =>
   some ck
   else none
theorem o2 {af ax:List Int}:bB (hN af ax) (fun r=>Con bc 88 [.isl 1 (af.map eI),.isl 1 (ax.map eI)] [] (.isl 1 (r.map eI)) []):=by
 unfold hN
 exact .ite (fun h1 =>
  .ret (bu [(J 1),.az (aj 4 (cD 3 (an (.aa true) []))),.aa true,(J 1)] (.dw h1 h1 h1 h1 cJ) (.bx (.dM (.j2 1)))))
  (fun h1 =>
  (let t1:List bY:=[(J 1),.az (aj 7 (an (.aa false) []))];
  .ite (fun o =>
  .ret (bu (t1.append [.aa true,(J 1)]) (.dw h1 h1 h1 h1 o) (.bx (.dM (.j2 1)))))
  (fun o =>
  .aZ fun ae =>
  .ar fun bg aA =>
  .ar fun ck bd =>
  .ret (let q1:=R ((len_ eI af)+(len_ eI ax));let a1:=(List.replicate q1.toNat 0:List Int);bu (t1.append [.aa false,(J 7),(J 3),.aL [14] [.cO (av 1 eI a1)] [(1,ii),(5,f5 (a1.length)),(26,ii),(27,ii),(28,ii)],(Ik ax af (len_ eI af) bg).ff,.iY 0,.az (br 1 (.call {ac:=[.bx (.dM (.e7 (bg.map eI)))],r:= .isl 1 (ck.map eI),fP:=false,fU:=[0]}) 1)]) (.bl h1 h1 h1 h1 o ae.1 (Int.le_refl q1) ae.2.1 (.bl ae.2.2 (db 1 .live (lx eI q1.toNat 0)) (aK 1 .live aP a1) (lL q1.toNat (0:Int)) (Wy aA) (gQ eI bg) (fY eI bg) (dX aP bg) (.e1 (rV ck bd))))))))
def GW (bV ax:List Int):(Int×Int)→S:=fun (mb,mo)=>dr [(0,.isl 1 (bV.map eI)),(1,.isl 1 (ax.map eI)),(7,.n .i64 mb),(8,.n .i64 mo)] []
def M9 (bV ax:List Int):Int→du
 | a=>⟨some 0,[(7,.n .i64 a)],[]⟩
def tT (bV ax:List Int)(mb mo:Int):Option ((Int×Int)⊕(Int)) :=
 if (decide (mb<mo))=true then
  rq (R ((R ((R (mb+mo))+(1:Int))).tdiv (2:Int))) >>= fun b5 =>
  hN ax b5 >>= fun bg =>
  p3 bg bV >>= fun ck =>
  if (decide (ck≤(0:Int)))=true then
   some (.inl (R ((R ((R (mb+mo))+(1:Int))).tdiv (2:Int)),mo))
  else
   some (.inl (mb,R ((R ((R ((R (mb+mo))+(1:Int))).tdiv (2:Int)))-(1:Int))))
 else
  some (.inr mb)
def C5 (bV ax:List Int)(mb mo:Int):Option (Int):=iter (fun w:Int×Int=>tT bV ax w.1 w.2) (mb,mo)
theorem Ux {bV ax:List Int}{mb mo:Int}:bB (tT bV ax mb mo) (dP bc 63 0 123 [1,1,1,1,1,1,0,0,0] (GW bV ax (mb,mo)) (GW bV ax) (M9 bV ax)):=by
 unfold tT
 exact .ite (fun h1 =>
  .ar fun b5 ae =>
  .ar fun bg aA =>
  .ar fun ck bd =>
  (let t1:List bY:=[(J 3),.aa true,(J 6),.az (aj 2 (an (bt 1 (.isl 1 (b5.map eI)) false) (an (bt 2 (.isl 1 (bg.map eI)) false) (br 1 (bt 2 (.n .i64 ck) true) 1))))];
  have aQ:=((.d9 h1 (by decide:(2:Int)≠0) (xr b5 ae) (o2 bg aA) (xp ck bd) (cc.n .i64 ck)):cz _);
  .ite (fun bn =>
  .ret (bj (t1.append [.aa true,(J 2),.aL [] [] (ba [0,1,7,8])]) (aQ.aJ (.e1 bn))))
  (fun bn =>
  .ret (bj (t1.append [.aa false,(J 3),.aL [] [] (ba [0,1,7,8])]) (aQ.aJ (.e1 bn))))))
  (fun h1 =>
  .ret (bj [(J 3),.aa false,.aL [] [] (ba [7])] (.e1 h1)))
theorem Nj {bV ax:List Int}{mb mo:Int}{r} (h:C5 bV ax mb mo=some r):dQ bc 63 0 123 [1,1,1,1,1,1,0,0,0] (GW bV ax) (M9 bV ax) (mb,mo) r:=dR (fun _=>Ux) h
def zP (bV ax:List Int):Option Int :=
 if 0≤(R ((len_ eI ax)-(1:Int)))∧(R ((len_ eI ax)-(1:Int)))<bV.length then
 bV[(R ((len_ eI ax)-(1:Int))).toNat]? >>= fun d8 =>
 if (decide ((len_ eI ax)<(len_ eI bV)))=true then
  if 0≤(len_ eI ax)∧(len_ eI ax)<bV.length then
  bV[(len_ eI ax).toNat]? >>= fun cu =>
  if 0≤(R ((len_ eI ax)-(1:Int)))∧(R ((len_ eI ax)-(1:Int)))<ax.length then
  ax[(R ((len_ eI ax)-(1:Int))).toNat]? >>= fun ej =>
  if (R (ej+(1:Int)))≠0 then
  if ej≠0 then
  C5 bV ax (R ((R (d8+(R (cu*(1000000000:Int))))).tdiv (R (ej+(1:Int))))) (if (R ((R (d8+(R (cu*(1000000000:Int))))).tdiv ej))<(999999999:Int) then (R ((R (d8+(R (cu*(1000000000:Int))))).tdiv ej)) else (999999999:Int)) >>= fun eB =>
  some eB
  else none
  else none
  else none
  else none
 else
  if 0≤(R ((len_ eI ax)-(1:Int)))∧(R ((len_ eI ax)-(1:Int)))<ax.length then
  ax[(R ((len_ eI ax)-(1:Int))).toNat]? >>= fun cu =>
  if (R (cu+(1:Int)))≠0 then
  if cu≠0 then
  C5 bV ax (R (d8.tdiv (R (cu+(1:Int))))) (if (R (d8.tdiv cu))<(999999999:Int) then (R (d8.tdiv cu)) else (999999999:Int)) >>= fun ek =>
  some ek
  else none
  else none
  else none
 else none
theorem WT {bV ax:List Int}:bB (zP bV ax) (fun r=>Con bc 123 [.isl 1 (bV.map eI),.isl 1 (ax.map eI)] [] (.n .i64 r) []):=by
 unfold zP
 exact .aZ fun h1 =>
  .ar fun d8 ae =>
  (let t1:List bY:=[(J 1),(J 3),.az (br 4 (.b7 (eI d8)) 1),(J 4)];
  have aQ:=((.bT h1.1 (cQ eI h1.2) (bX eI ae)):cz _);
  .ite (fun au =>
  .aZ fun aA =>
  .ar fun cu bd =>
  .aZ fun bn =>
  .ar fun ej cN =>
  .aZ fun eW =>
  .aZ fun e6 =>
  .ar fun eB eA =>
  .ret (bu (t1.append [.aa true,.az (br 4 (.b7 (eI cu)) 3),.az (br 5 (.b7 (eI ej)) 3),.az (br 5 (.b7 (eI ej)) 3),.aL [] [] (ba [0,1,7,8]),.sub (.exit 0) [(7,.n .i64 eB)] [],(J 2)]) (aQ.aJ (.bl au aA.1 (cQ eI aA.2) (bX eI bd) bn.1 (cQ eI bn.2) (bX eI cN) eW (.dw bn.1 (cQ eI bn.2) (bX eI cN) e6 (Nj eA))))))
  (fun au =>
  .aZ fun aA =>
  .ar fun cu bd =>
  .aZ fun bn =>
  .aZ fun cy =>
  .ar fun ek eW =>
  .ret (bu (t1.append [.aa false,.az (br 5 (.b7 (eI cu)) 3),.az (br 5 (.b7 (eI cu)) 3),.aL [] [] (ba [0,1,7,8]),.sub (.exit 0) [(7,.n .i64 ek)] [],(J 2)]) (aQ.aJ (.bl au aA.1 (cQ eI aA.2) (bX eI bd) bn aA.1 (cQ eI aA.2) (bX eI bd) (.aE cy (Nj eW)))))))
def HP (af ax:List Int):((List Int)×Int×(List Int))→S:=fun (fQ,ag,ad)=>dr [(0,.isl 1 (af.map eI)),(1,.isl 1 (ax.map eI)),(8,.bm 0 0 0 ad.length),(9,.isl 1 (fQ.map eI)),(10,.n .i64 ag)] [(av 1 eI ad)]
def Il (af ax:List Int):((List Int)×(List Int))→du
 | a=>⟨some 0,[(8,.bm 0 0 0 a.2.length),(9,.isl 1 (a.1.map eI))],[(av 1 eI a.2)]⟩
def w6 (af ax fQ:List Int)(ag:Int)(ad:List Int):Option (((List Int)×Int×(List Int))⊕((List Int)×(List Int))) :=
 if (decide ((0:Int)≤ag))=true then
  if 0≤ag∧ag<af.length then
  af[ag.toNat]? >>= fun aD =>
  if (([aD]:List Int)++fQ).length*8≤140737488355328 then
  pZ (([aD]:List Int)++fQ) >>= fun ck =>
  p3 ck ax >>= fun c0 =>
  if (decide (c0<(0:Int)))=true then
   some (.inl (ck,R (ag-(1:Int)),ad))
  else
   zP ck ax >>= fun di =>
   if 0≤ag∧ag<(ad.length:Nat) then
   if (0+ag.toNat)<ad.length then
   rq di >>= fun gB =>
   hN ax gB >>= fun gp =>
   r2 ck gp >>= fun oT =>
   some (.inl (oT,R (ag-(1:Int)),ad.set (0+ag.toNat) di))
   else none
   else none
  else none
  else none
 else
  some (.inr (fQ,ad))
def Jt (af ax fQ:List Int)(ag:Int)(ad:List Int):Option ((List Int)×(List Int)):=iter (fun w:(List Int)×Int×(List Int)=>w6 af ax w.1 w.2.1 w.2.2) (fQ,ag,ad)
theorem Va {af ax fQ:List Int}{ag:Int}{ad:List Int}:bB (w6 af ax fQ ag ad) (dP bc 65 0 109 [1,1,1,1,0,1,0,0] (HP af ax (fQ,ag,ad)) (HP af ax) (Il af ax)):=by
 unfold w6
 exact .ite (fun h1 =>
  .aZ fun o =>
  .ar fun aD au =>
  .aZ fun aA =>
  .ar fun ck bd =>
  .ar fun c0 cy =>
  (let q1:=(([aD]:List Int)++fQ);let t1:List bY:=[(J 2),.aa true,.az (aj 3 (an (.b7 (eI aD)) (aj 2 (an (.aJ (q1.length)) (an (.vA 9 (.call {ac:=[.bx (.dM (.e7 (q1.map eI)))],r:= .isl 1 (ck.map eI),fP:=false,fU:=[9]})) (aj 1 [])))))),.az (br 2 (bt 2 (.n .i64 c0) true) 1)];
  have aQ:=((.bl h1 o.1 (cQ eI o.2) (bX eI au) (aeI eI aD) (mH (show 1=([aD]:List Int).length from rfl) (cY eI fQ):q1.length=1+(fQ.map eI).length) aA (l2 (jk (show [[.n .i64 aD]]=(([aD]:List Int)).map eI from rfl) (show 1=([aD]:List Int).length from rfl) (cY eI fQ)) (dO q1)) (.dw (lK (jk (show [[.n .i64 aD]]=(([aD]:List Int)).map eI from rfl) (show 1=([aD]:List Int).length from rfl) (cY eI fQ)) (dO q1)) (dX aP q1) (rV ck bd) (xp c0 cy) (cc.n .i64 c0))):cz _);
  .ite (fun cN =>
  .ret (bj (t1.append [.aa true,(J 3),.aL [0] [.pure] (ba [0,1,8,9,10])]) (aQ.aJ (.aE cN (aK 1 .live aP ad)))))
  (fun cN =>
  .ar fun di e6 =>
  .aZ fun ez =>
  .aZ fun eA =>
  .ar fun gB h4 =>
  .ar fun gp hE =>
  .ar fun oT fl =>
  .ret (bj (t1.append [.aa false,.az (br 2 (bt 2 (.n .i64 di) true) 1),.az (aj 4 (an .fV [])),.az (aj 3 (an (bt 1 (.isl 1 (gB.map eI)) false) (an (bt 2 (.isl 1 (gp.map eI)) false) (an (bt 2 (.isl 1 (oT.map eI)) false) (aj 1 []))))),(J 3),.aL [0] [.cO (av 1 eI (ad.set (0+ag.toNat) di))] [(0,ii),(1,ii),(8,f5 ((ad.set (0+ag.toNat) di).length)),(9,ii),(10,ii)]]) (aQ.aJ (.bl cN (WT di e6) (cc.n .i64 di) ez.1 ez.2 (hH eI eA) (hx 1) (xr gB h4) (.dw (o2 gp hE) (Jq oT fl) (db 1 .live (gD (cY eI ad) (0+ag.toNat) di)) (aK 1 .live aP (ad.set (0+ag.toNat) di)) (hX (dO ad) (0+ag.toNat) di))))))))
  (fun h1 =>
  .ret (bj [(J 2),.aa false,.aL [0] [.pure] (ba [8,9])] (.aE h1 (aK 1 .live aP ad))))
theorem Wz {af ax fQ:List Int}{ag:Int}{ad:List Int}{r} (h:Jt af ax fQ ag ad=some r):dQ bc 65 0 109 [1,1,1,1,0,1,0,0] (HP af ax) (Il af ax) (fQ,ag,ad) r:=dR (fun _=>Va) h
def sW (af ax:List Int):Option ((List Int)×(List Int)) :=
 if ((len_ eI ax) == (1:Int))=true then
  if 0≤(0:Int)∧(0:Int)<ax.length then
  ax[0]? >>= fun aD =>
  zO af aD >>= fun aU =>
  rq aU.2 >>= fun bJ =>
  some (aU.1,bJ)
  else none
 else
  if 0≤(len_ eI af)∧(8:Int)*(len_ eI af)≤281474976710656∧(len_ eI af)<9223372036854775808 then
  Jt af ax ([]:List Int) (R ((len_ eI af)-(1:Int))) (List.replicate (len_ eI af).toNat 0:List Int) >>= fun bk =>
  pZ bk.2 >>= fun aU =>
  some (aU,bk.1)
  else none
theorem Di {af ax:List Int}:bB (sW af ax) (fun r=>Con bc 109 [.isl 1 (af.map eI),.isl 1 (ax.map eI)] [] (.d7 [.isl 1 (r.1.map eI),.isl 1 (r.2.map eI)]) []):=by
 unfold sW
 exact .ite (fun h1 =>
  .aZ fun o =>
  .ar fun aD au =>
  .ar fun aU a2 =>
  .ar fun bJ bn =>
  .ret (bu [(J 2),(J 3),.aa true,.az (aj 3 (an (.b7 (eI aD)) (an (bt 2 (.d7 [.isl 1 (aU.1.map eI),.n .i64 aU.2]) false) (aj 5 [])))),.az (br 2 (bt 1 (.isl 1 (bJ.map eI)) false) 2)] (.d9 h1 o.1 (cQ eI o.2) (bX eI au) (WS aU a2) (xr bJ bn))))
  (fun h1 =>
  .aZ fun o =>
  .ar fun bk au =>
  .ar fun aU a2 =>
  .ret (let q1:=(List.replicate (len_ eI af).toNat 0:List Int);bu [(J 2),(J 3),.aa false,(J 4),(J 2),(J 4),.aL [7] [.cO (av 1 eI q1)] [(0,ii),(1,ii),(8,f5 (q1.length)),(9,.bx (.dM (.e7 (([]:List Int).map eI)))),(10,ii)],(Il af ax bk).ff,.iY 0,.az (br 1 (.call {ac:=[.bx (.dM (.e7 (bk.2.map eI)))],r:= .isl 1 (aU.map eI),fP:=false,fU:=[0]}) 3)] (.bl h1 o.1 (Int.le_refl (len_ eI af)) o.2.1 o.2.2 (db 1 .live (lx eI (len_ eI af).toNat 0)) (aK 1 .live aP q1) (lL (len_ eI af).toNat (0:Int)) (.gU (l2 (show []=(([]:List Int)).map eI from rfl) (fK Int)) (lK (show []=(([]:List Int)).map eI from rfl) (fK Int)) (dX aP ([]:List Int)) (Wz au) (gQ eI bk.2) (fY eI bk.2) (dX aP bk.2) (rV aU a2)))))
def HQ:((List Int)×(List Int))→S:=fun (dc,ew)=>dr [(5,.isl 1 (dc.map eI)),(6,.isl 1 (ew.map eI))] []
def CZ:(((List Int))⊕((List Int)))→du
 | .inl a=>⟨some 0,[(5,.isl 1 (a.map eI))],[]⟩
 | .inr a=>⟨none,[(4,.isl 1 (a.map eI))],[]⟩
def tZ (dc ew:List Int):Option (((List Int)×(List Int))⊕(((List Int))⊕((List Int)))) :=
 if (decide ((0:Int)<(len_ eI ew)))=true then
  if (decide ((len_ eI dc)<(3:Int)))=true then
   if (decide ((len_ eI ew)<(3:Int)))=true then
    xt dc >>= fun bg =>
    xt ew >>= fun ck =>
    zN bg.1 ck.1 >>= fun c0 =>
    some (.inr (.inr c0))
   else
    sW dc ew >>= fun bg =>
    some (.inl (ew,bg.2))
  else
   sW dc ew >>= fun bk =>
   some (.inl (ew,bk.2))
 else
  some (.inr (.inl dc))
def Ju (dc ew:List Int):Option (((List Int))⊕((List Int))):=iter (fun w:(List Int)×(List Int)=>tZ w.1 w.2) (dc,ew)
theorem Vb {dc ew:List Int}:bB (tZ dc ew) (dP bc 52 0 94 [1,1,1,0,0,0] (HQ (dc,ew)) (HQ) (CZ)):=by
 unfold tZ
 exact .ite (fun h1 =>
  .ite (fun o =>
  (let t1:List bY:=[(J 3),.aa true,.az (aj 7 (an (.aa true) []))];
  .ite (fun ae =>
  .ar fun bg aA =>
  .ar fun ck bd =>
  .ar fun c0 cy =>
  .ret (bj (t1.append [.aa true,.az (br 1 (bt 1 (.d7 [.n .i64 bg.1,.b bg.2]) true) 5),.az (br 1 (bt 1 (.d7 [.n .i64 ck.1,.b ck.2]) true) 5),.az (br 2 (bt 2 (.isl 1 (c0.map eI)) false) 1),.aL [] [] (ba [4])]) (.bl h1 o o o o ae (NP bg aA) (Ee (o6 (cc.n .i64 bg.1) (o6 (cc.b bg.2) uN))) (.bT (NP ck bd) (Ee (o6 (cc.n .i64 ck.1) (o6 (cc.b ck.2) uN))) (WR c0 cy)))))
  (fun ae =>
  .ar fun bg aA =>
  .ret (bj (t1.append [.aa false,.az (br 2 (bt 2 (.d7 [.isl 1 (bg.1.map eI),.isl 1 (bg.2.map eI)]) false) 5),(J 2),(J 2),.aL [] [] (ba [5,6])]) (.eX h1 o o o o ae (Di bg aA))))))
  (fun o =>
  .ar fun bk au =>
  .ret (bj [(J 3),.aa true,.az (aj 4 (cD 3 (an (.aa false) []))),.aa false,.az (br 2 (bt 2 (.d7 [.isl 1 (bk.1.map eI),.isl 1 (bk.2.map eI)]) false) 5),(J 2),(J 2),.aL [] [] (ba [5,6])] (.eX h1 o o o o c6 (Di bk au)))))
  (fun h1 =>
  .ret (bj [(J 3),.aa false,.aL [] [] (ba [5])] (.e1 h1)))
theorem NK {dc ew:List Int}{r} (h:Ju dc ew=some r):dQ bc 52 0 94 [1,1,1,0,0,0] (HQ) (CZ) (dc,ew) r:=dR (fun _=>Vb) h
def xD (af ax:List Int):Option (List Int) :=
 if (([]:List Int)++af).length*8≤140737488355328 then
 if (([]:List Int)++ax).length*8≤140737488355328 then
 Ju (([]:List Int)++af) (([]:List Int)++ax) >>= fun bk =>
 match bk with
 | .inl fm=>(some fm)
 | .inr fm=>(some fm)
 else none
 else none
theorem N4 {af ax:List Int}:bB (xD af ax) (fun r=>Con bc 94 [.isl 1 (af.map eI),.isl 1 (ax.map eI)] [] (.isl 1 (r.map eI)) []):=by
 unfold xD
 exact .aZ fun h1 =>
  .aZ fun o =>
  .ar fun bk au =>
  (let q1:=(([]:List Int)++af);let a1:=(([]:List Int)++ax);let t1:List bY:=[(J 1),.az (br 2 (.aJ (q1.length)) 1),.az (br 2 (.aJ (a1.length)) 1),.aL [] [] [(5,.bx (.dM (.e7 (q1.map eI)))),(6,.bx (.dM (.e7 (a1.map eI))))]];
  have aQ:=((.bl (oj (show []=(([]:List Int)).map eI from rfl) (fK Int)) (mH (fK Int) (cY eI af):q1.length=0+(af.map eI).length) h1 (oj (show []=(([]:List Int)).map eI from rfl) (fK Int)) (mH (fK Int) (cY eI ax):a1.length=0+(ax.map eI).length) o (l2 (jk (show []=(([]:List Int)).map eI from rfl) (fK Int) (cY eI af)) (dO q1)) (lK (jk (show []=(([]:List Int)).map eI from rfl) (fK Int) (cY eI af)) (dO q1)) (.de (dX aP q1) (l2 (jk (show []=(([]:List Int)).map eI from rfl) (fK Int) (cY eI ax)) (dO a1)) (lK (jk (show []=(([]:List Int)).map eI from rfl) (fK Int) (cY eI ax)) (dO a1)) (dX aP a1))):cz _);
  (by
  rcases bk with fm|fm
  ·exact (.ret (bu (t1.append [(CZ (.inl fm)).ff,(J 2)]) (aQ.aJ (.e1 (NK au)))))
  ·exact (.ret (bu (t1.append [(CZ (.inr fm)).ff]) (aQ.aJ (.e1 (NK au)))))))
def nP (nX:Bool)(af ax:List Int):Option aM :=
 pZ af >>= fun r1 =>
 pZ ax >>= fun bk =>
 if ((len_ eI bk) == (0:Int))=true then
  some (⟨(⟨false,([]:List Int)⟩:bp),([]:List Int)⟩:aM)
 else
  qB bk >>= fun ck =>
  if ck=true then
   if (decide ((24:Int)<(len_ eI r1)))=true then
    some (⟨(⟨false,([]:List Int)⟩:bp),([]:List Int)⟩:aM)
   else
    if (decide ((24:Int)<(len_ eI bk)))=true then
     some (⟨(⟨false,([]:List Int)⟩:bp),([]:List Int)⟩:aM)
    else
     hS nX r1 >>= fun di =>
     if (([]:List Int)++bk).length*8≤140737488355328 then
     some (⟨di,([]:List Int)++bk⟩:aM)
     else none
  else
   xD r1 bk >>= fun bz =>
   qB bz >>= fun di =>
   if di=true then
    if (decide ((24:Int)<(len_ eI r1)))=true then
     some (⟨(⟨false,([]:List Int)⟩:bp),([]:List Int)⟩:aM)
    else
     if (decide ((24:Int)<(len_ eI bk)))=true then
      some (⟨(⟨false,([]:List Int)⟩:bp),([]:List Int)⟩:aM)
     else
      hS nX r1 >>= fun ef =>
      if (([]:List Int)++bk).length*8≤140737488355328 then
      some (⟨ef,([]:List Int)++bk⟩:aM)
      else none
   else
    sW r1 bz >>= fun gd =>
    sW bk bz >>= fun ef =>
    if (decide ((24:Int)<(len_ eI gd.1)))=true then
     some (⟨(⟨false,([]:List Int)⟩:bp),([]:List Int)⟩:aM)
    else
     if (decide ((24:Int)<(len_ eI ef.1)))=true then
      some (⟨(⟨false,([]:List Int)⟩:bp),([]:List Int)⟩:aM)
     else
      hS nX gd.1 >>= fun jw =>
      if (([]:List Int)++ef.1).length*8≤140737488355328 then
      some (⟨jw,([]:List Int)++ef.1⟩:aM)
      else none
theorem zH {nX:Bool}{af ax:List Int}:bB (nP nX af ax) (fun r=>Con bc 86 [.b nX,.isl 1 (af.map eI),.isl 1 (ax.map eI)] [] (.agg (aO r)) []):=by
 unfold nP
 exact .ar fun r1 o =>
  .ar fun bk au =>
  (let t1:List bY:=[(J 1),.az (br 1 (bt 1 (.isl 1 (r1.map eI)) false) 1),.az (br 1 (bt 1 (.isl 1 (bk.map eI)) false) 1),(J 3)];
  have aQ:=((.aE (rV r1 o) (rV bk au)):cz _);
  .ite (fun aA =>
  .ret (bu (t1.append [.aa true,(J 2)]) (aQ.aJ (.e1 aA)) (.bx (.agg [.id,.j2 1,.j2 1]))))
  (fun aA =>
  .ar fun ck bd =>
  (let t3:List bY:=t1.append [.aa false,.az (br 1 (bt 1 (.b ck) true) 1)];
  have eR:=aQ.aJ (.bT aA (zF ck bd) (cc.b ck));
  .ite (fun bn =>
  .ite (fun cy =>
  .ret (bu (t3.append [.aa false,.az (aj 4 (cD 3 (an (.aa true) []))),.aa true,(J 2)]) (eR.aJ (.d9 (c1 bn) cy cy cy cy cJ)) (.bx (.agg [.id,.j2 1,.j2 1]))))
  (fun cy =>
  (let t5:List bY:=t3.append [.aa false,.az (aj 7 (an (.aa false) []))];
  .ite (fun cN =>
  .ret (bu (t5.append [.aa true,(J 2)]) (eR.aJ (.d9 (c1 bn) cy cy cy cy cN)) (.bx (.agg [.id,.j2 1,.j2 1]))))
  (fun cN =>
  .ar fun di e6 =>
  .aZ fun ez =>
  .ret (let q1:=(([]:List Int)++bk);bu (t5.append [.aa false,.az (aj 2 (an (bt 2 (.agg (aY di)) false) (br 2 (.aJ (q1.length)) 2)))]) (eR.aJ (.bl (c1 bn) cy cy cy cy cN (nO di e6) (oj (show []=(([]:List Int)).map eI from rfl) (fK Int)) (.dw (mH (fK Int) (cY eI bk):q1.length=0+(bk.map eI).length) ez (l2 (jk (show []=(([]:List Int)).map eI from rfl) (fK Int) (cY eI bk)) (dO q1)) (lK (jk (show []=(([]:List Int)).map eI from rfl) (fK Int) (cY eI bk)) (dO q1)) (dX aP q1)))) (.bx (.agg [.id,.id,.e7 (q1.map eI)])))))))
  (fun bn =>
  .ar fun bz cN =>
  .ar fun di e6 =>
  (let t5:List bY:=t3.append [.aa true,.az (br 2 (bt 2 (.isl 1 (bz.map eI)) false) 1),.az (br 1 (bt 1 (.b di) true) 1)];
  have kK:=eR.aJ (.de (cW bn) (N4 bz cN) (zF di e6) (cc.b di));
  .ite (fun ez =>
  .ite (fun eA =>
  .ret (bu (t5.append [.aa false,.az (aj 4 (cD 3 (an (.aa true) []))),.aa true,(J 2)]) (kK.aJ (.d9 (c1 ez) eA eA eA eA cJ)) (.bx (.agg [.id,.j2 1,.j2 1]))))
  (fun eA =>
  (let t7:List bY:=t5.append [.aa false,.az (aj 7 (an (.aa false) []))];
  have mB:=kK.aJ (.dw (c1 ez) eA eA eA eA);
  .ite (fun fW =>
  .ret (bu (t7.append [.aa true,(J 2)]) (mB.aJ (.e1 fW)) (.bx (.agg [.id,.j2 1,.j2 1]))))
  (fun fW =>
  .ar fun ef hD =>
  .aZ fun hE =>
  .ret (let a1:=(([]:List Int)++bk);bu (t7.append [.aa false,.az (aj 2 (an (bt 2 (.agg (aY ef)) false) (br 2 (.aJ (a1.length)) 2)))]) (mB.aJ (.gU fW (nO ef hD) (oj (show []=(([]:List Int)).map eI from rfl) (fK Int)) (mH (fK Int) (cY eI bk):a1.length=0+(bk.map eI).length) hE (l2 (jk (show []=(([]:List Int)).map eI from rfl) (fK Int) (cY eI bk)) (dO a1)) (lK (jk (show []=(([]:List Int)).map eI from rfl) (fK Int) (cY eI bk)) (dO a1)) (dX aP a1))) (.bx (.agg [.id,.id,.e7 (a1.map eI)])))))))
  (fun ez =>
  .ar fun gd fW =>
  .ar fun ef hD =>
  (let t7:List bY:=t5.append [.aa true,.az (br 2 (bt 2 (.d7 [.isl 1 (gd.1.map eI),.isl 1 (gd.2.map eI)]) false) 4),.az (br 2 (bt 2 (.d7 [.isl 1 (ef.1.map eI),.isl 1 (ef.2.map eI)]) false) 4)];
  have mB:=kK.aJ (.bT (cW ez) (Di gd fW) (Di ef hD));
  .ite (fun hE =>
  .ret (bu (t7.append [.az (aj 4 (cD 3 (an (.aa true) []))),.aa true,(J 2)]) (mB.aJ (.dw hE hE hE hE cJ)) (.bx (.agg [.id,.j2 1,.j2 1]))))
  (fun hE =>
  (let t9:List bY:=t7.append [.az (aj 7 (an (.aa false) []))];
  .ite (fun gA =>
  .ret (bu (t9.append [.aa true,(J 2)]) (mB.aJ (.dw hE hE hE hE gA)) (.bx (.agg [.id,.j2 1,.j2 1]))))
  (fun gA =>
  .ar fun jw gO =>
  .aZ fun iT =>
  .ret (let b0:=(([]:List Int)++ef.1);let ct:=cY eI ef.1;bu (t9.append [.aa false,.az (aj 2 (an (bt 2 (.agg (aY jw)) false) (br 2 (.aJ (b0.length)) 2)))]) (mB.aJ (.bl hE hE hE hE gA (nO jw gO) (oj (show []=(([]:List Int)).map eI from rfl) (fK Int)) (mH (fK Int) ct:b0.length=0+(ef.1.map eI).length) (.de iT (l2 (jk (show []=(([]:List Int)).map eI from rfl) (fK Int) ct) (dO b0)) (lK (jk (show []=(([]:List Int)).map eI from rfl) (fK Int) ct) (dO b0)) (dX aP b0)))) (.bx (.agg [.id,.id,.e7 (b0.map eI)])))))))))))))
def rp (bV aN:aM):Option aM :=
 qB bV.hC >>= fun r1 =>
 if r1=true then
  qB aN.hC >>= fun bg =>
  if bg=true then
   p4 bV.fs aN.fs >>= fun bJ =>
   nP bJ.cR bJ.cH ([1]:List Int) >>= fun bz =>
   some bz
  else
   hN bV.fs.cH aN.hC >>= fun bJ =>
   hS bV.fs.cR bJ >>= fun bz =>
   hN aN.fs.cH bV.hC >>= fun di =>
   hS aN.fs.cR di >>= fun eB =>
   p4 bz eB >>= fun gB =>
   hN bV.hC aN.hC >>= fun gp =>
   nP gB.cR gB.cH gp >>= fun oT =>
   some oT
 else
  hN bV.fs.cH aN.hC >>= fun bg =>
  hS bV.fs.cR bg >>= fun ck =>
  hN aN.fs.cH bV.hC >>= fun c0 =>
  hS aN.fs.cR c0 >>= fun ek =>
  p4 ck ek >>= fun dY =>
  hN bV.hC aN.hC >>= fun gd =>
  nP dY.cR dY.cH gd >>= fun ef =>
  some ef
theorem Dj {bV aN:aM}:bB (rp bV aN) (fun r=>Con bc 61 [.agg (aO bV),.agg (aO aN)] [] (.agg (aO r)) []):=by
 unfold rp
 exact .ar fun r1 o =>
  (have cb:=((.aE (zF r1 o) (cc.b r1)):cz _);
  .ite (fun ae =>
  .ar fun bg aA =>
  (let t2:List bY:=[(J 3),.az (aj 2 (an (bt 1 (.b r1) true) (aj 3 (an (bt 1 (.b bg) true) (an (.aa true) [])))))];
  have fH:=cb.aJ (.d9 ae ae ae (zF bg aA) (cc.b bg) ae);
  .ite (fun a2 =>
  .ar fun bJ bn =>
  .ar fun bz cN =>
  .ret (bu (t2.append [.aa true,.az (br 4 (bt 2 (.agg (aY bJ)) false) 2),.az (br 5 (.vA 22 (.call {ac:=[ii,ii,.bx (.dM (.e7 (([1]:List Int).map eI)))],r:= .agg (aO bz),fP:=false,fU:=[22]})) 1)]) (fH.aJ (.d9 a2 (Jr bJ bn) (l2 (show [[.n .i64 (1:Int)]]=(([1]:List Int)).map eI from rfl) (show 1=([1]:List Int).length from rfl)) (ha eI 1) (dX aP ([1]:List Int)) (zH bz cN)))))
  (fun a2 =>
  .ar fun bJ bn =>
  .ar fun bz cN =>
  .ar fun di e6 =>
  .ar fun eB eA =>
  .ar fun gB h4 =>
  .ar fun gp hE =>
  .ar fun oT fl =>
  .ret (bu (t2.append [.aa false,.az (aj 8 (an (bt 2 (.isl 1 (bJ.map eI)) false) (an (bt 2 (.agg (aY bz)) false) (aj 2 [])))),.az (aj 8 (an (bt 2 (.isl 1 (di.map eI)) false) (an (bt 2 (.agg (aY eB)) false) (aj 2 [])))),.az (br 2 (bt 2 (.agg (aY gB)) false) 2),.az (aj 8 (an (bt 2 (.isl 1 (gp.map eI)) false) (an (bt 3 (.agg (aO oT)) false) (aj 1 []))))]) (fH.aJ (.gU a2 (o2 bJ bn) (nO bz cN) (o2 di e6) (nO eB eA) (Jr gB h4) (o2 gp hE) (zH oT fl)))))))
  (fun ae =>
  .ar fun bg aA =>
  .ar fun ck bd =>
  .ar fun c0 cy =>
  .ar fun ek eW =>
  .ar fun dY ez =>
  .ar fun gd fW =>
  .ar fun ef hD =>
  .ret (bu [(J 3),.az (aj 2 (an (bt 1 (.b r1) true) (aj 1 (cD 3 (an (.aa false) []))))),.aa false,.az (aj 8 (an (bt 2 (.isl 1 (bg.map eI)) false) (an (bt 2 (.agg (aY ck)) false) (aj 2 [])))),.az (aj 8 (an (bt 2 (.isl 1 (c0.map eI)) false) (an (bt 2 (.agg (aY ek)) false) (aj 2 [])))),.az (br 2 (bt 2 (.agg (aY dY)) false) 2),.az (aj 8 (an (bt 2 (.isl 1 (gd.map eI)) false) (an (bt 3 (.agg (aO ef)) false) (aj 1 []))))] (cb.aJ (.bl ae ae ae ae c6 (o2 bg aA) (nO ck bd) (o2 c0 cy) (.de (nO ek eW) (Jr dY ez) (o2 gd fW) (zH ef hD)))))))
end Go.Proofs.YtamedijmgkdlgadGreat
namespace Go.Proofs.YtamedijmgkdlgadGreat
set_option linter.unusedVariables false
set_option linter.unusedSimpArgs false
open Go Go.VL
def Gj (aG aF:Int)(bq c9 dd:List Int)(bM:Int):(Int×(List aM))→S:=fun (bR,aH)=>dr [(1,.ref 0 0 0 0),(3,.ref 1 0 0 0),(4,.n .i64 bR)] [[ab.mk 5 [[.n .i64 aG,.n .i64 aF,.isl 1 (bq.map eI),.isl 1 (c9.map eI),.isl 1 (dd.map eI)]] .live],[ab.mk 4 [[.n .i64 bM,.eU,.eU,.bm 2 0 0 aH.length]] .live],(av 3 aO aH)]
def GD (aG aF:Int)(bq c9 dd:List Int)(bM:Int):(List aM)→du
 | a=>⟨some 0,[(1,.ref 0 0 0 0),(3,.ref 1 0 0 0)],[[ab.mk 5 [[.n .i64 aG,.n .i64 aF,.isl 1 (bq.map eI),.isl 1 (c9.map eI),.isl 1 (dd.map eI)]] .live],[ab.mk 4 [[.n .i64 bM,.eU,.eU,.bm 2 0 0 a.length]] .live],(av 3 aO a)]⟩
def wx (aG aF:Int)(bq c9 dd:List Int)(bM bR:Int)(aH:List aM):Option ((Int×(List aM))⊕((List aM))) :=
 if (decide (bR≤bM))=true then
  o1 0 >>= fun b5 =>
  if (aH++([b5]:List aM)).length*56≤140737488355328 then
  some (.inl (R (bR+(1:Int)),aH++([b5]:List aM)))
  else none
 else
  some (.inr aH)
def Im (aG aF:Int)(bq c9 dd:List Int)(bM bR:Int)(aH:List aM):Option ((List aM)):=iter (fun w:Int×(List aM)=>wx aG aF bq c9 dd bM w.1 w.2) (bR,aH)
theorem T5 {aG aF:Int}{bq c9 dd:List Int}{bM bR:Int}{aH:List aM}:bB (wx aG aF bq c9 dd bM bR aH) (dP bc 152 0 39 [1,1,0,1,0,0] (Gj aG aF bq c9 dd bM (bR,aH)) (Gj aG aF bq c9 dd bM) (GD aG aF bq c9 dd bM)):=by
 unfold wx
 exact .ite (fun h1 =>
  .ar fun b5 ae =>
  .aZ fun au =>
  .ret (let q1:=(aH++([b5]:List aM));bj [(J 6),.aa true,.az (aj 5 (an (bt 1 (.agg (aO b5)) false) (br 1 (.aJ (q1.length)) 3))),(J 3),.aL [0,1,16] [.box [.id,.id,.id,.id,.id],.box [.id,.id,.id,.id],.cO (av 3 aO q1)] (ba [1,3,4])] (.gU h1 (rU b5 ae) (ha aO b5) (ho aO aH) (gR aO aH b5) au (db 3 .live (hy aO aH b5)) (aK 3 .live eM q1))))
  (fun h1 =>
  .ret (bj [(J 6),.aa false,.aL [0,1,2] [.box [.id,.id,.id,.id,.id],.box [.id,.id,.id,.id],.pure] (ba [1,3])] (.aE h1 (aK 3 .live eM aH))))
theorem Vt {aG aF:Int}{bq c9 dd:List Int}{bM bR:Int}{aH:List aM}{r} (h:Im aG aF bq c9 dd bM bR aH=some r):dQ bc 152 0 39 [1,1,0,1,0,0] (Gj aG aF bq c9 dd bM) (GD aG aF bq c9 dd bM) (bR,aH) r:=dR (fun _=>T5) h
def Gk (ag:Int)(ed:List Int)(fk aG aF:Int)(bq c9 dd:List Int)(bM:Int)(al:List bs)(eO:List (List aM))(bH:List Int)(e2:List aM):(Int×(List aM))→S:=fun (gy,aH)=>dr [(1,.ref 0 0 0 0),(3,.ref 1 0 0 0),(5,.n .i64 ag),(6,.n .i64 (-1:Int)),(7,.bm 2 0 0 aH.length),(53,.isl 1 (ed.map eI)),(54,.n .i64 fk),(55,.n .i64 gy)] [[ab.mk 5 [[.n .i64 aG,.n .i64 aF,.isl 1 (bq.map eI),.isl 1 (c9.map eI),.isl 1 (dd.map eI)]] .live],[ab.mk 4 [(dT bM 3 0 0 al.length 5 0 0 bH.length 6 0 0 e2.length)] .live],(av 3 aO aH),(av 1 (bb 4 0 3) al),(b2 3 aO eO),(av 1 eI bH),(av 3 aO e2)]
def GF (ag:Int)(ed:List Int)(fk aG aF:Int)(bq c9 dd:List Int)(bM:Int)(al:List bs)(eO:List (List aM))(bH:List Int)(e2:List aM):(List aM)→du
 | a=>⟨some 4,[(1,.ref 0 0 0 0),(3,.ref 1 0 0 0),(5,.n .i64 ag),(6,.n .i64 (-1:Int)),(7,.bm 2 0 0 a.length)],[[ab.mk 5 [[.n .i64 aG,.n .i64 aF,.isl 1 (bq.map eI),.isl 1 (c9.map eI),.isl 1 (dd.map eI)]] .live],[ab.mk 4 [(dT bM 3 0 0 al.length 5 0 0 bH.length 6 0 0 e2.length)] .live],(av 3 aO a),(av 1 (bb 4 0 3) al),(b2 3 aO eO),(av 1 eI bH),(av 3 aO e2)]⟩
def wy (ag:Int)(ed:List Int)(fk aG aF:Int)(bq c9 dd:List Int)(bM:Int)(al:List bs)(eO:List (List aM))(bH:List Int)(e2:List aM)(gy:Int)(aH:List aM):Option ((Int×(List aM))⊕((List aM))) :=
 if (decide (gy<fk))=true then
  if 0≤gy∧gy<ed.length then
  ed[gy.toNat]? >>= fun aD =>
  o1 (R ((-1:Int)*aD)) >>= fun aU =>
  if (aH++([aU]:List aM)).length*56≤140737488355328 then
  some (.inl (R (gy+(1:Int)),aH++([aU]:List aM)))
  else none
  else none
 else
  some (.inr aH)
def C0 (ag:Int)(ed:List Int)(fk aG aF:Int)(bq c9 dd:List Int)(bM:Int)(al:List bs)(eO:List (List aM))(bH:List Int)(e2:List aM)(gy:Int)(aH:List aM):Option ((List aM)):=iter (fun w:Int×(List aM)=>wy ag ed fk aG aF bq c9 dd bM al eO bH e2 w.1 w.2) (gy,aH)
theorem T6 {ag:Int}{ed:List Int}{fk aG aF:Int}{bq c9 dd:List Int}{bM:Int}{al:List bs}{eO:List (List aM)}{bH:List Int}{e2:List aM}{gy:Int}{aH:List aM}:bB (wy ag ed fk aG aF bq c9 dd bM al eO bH e2 gy aH) (dP bc 152 0 39 [1,1,1,0,1,0,0,1,0,0,1,1,1,0,1,0,0] (Gk ag ed fk aG aF bq c9 dd bM al eO bH e2 (gy,aH)) (Gk ag ed fk aG aF bq c9 dd bM al eO bH e2) (GF ag ed fk aG aF bq c9 dd bM al eO bH e2)):=by
 unfold wy
 exact .ite (fun h1 =>
  .aZ fun o =>
  .ar fun aD au =>
  .ar fun aU a2 =>
  .aZ fun bd =>
  .ret (let q1:=(aH++([aU]:List aM));let a1:=bP [0,1,17,3,4,5,6];bj [(J 1),.aa true,.az (br 1 (.b7 (eI aD)) 1),.az (aj 4 (an (bt 1 (.agg (aO aU)) false) (br 1 (.aJ (q1.length)) 1))),(J 2),.aL [0,1,17,3,4,5,6] [.box [.id,.id,.id,.id,.id],.box [.id,.id,.id,.id],.cO (av 3 aO q1),.bG (av 1 (bb 4 0 3) al),.bG (b2 3 aO eO),.pure,.pure] (ba [1,3,5,6,7,53,54,55])] (.bl h1 o.1 (cQ eI o.2) (bX eI au) (rU aU a2) (ha aO aU) (ho aO aH) (gR aO aH aU) (.eX bd (db 3 .live (hy aO aH aU)) (aK 3 .live eM q1) (ex a1 4 4 0 3 rfl al) (dz a1 3 fi eO) (aK 1 .live aP bH) (aK 3 .live eM e2)))))
  (fun h1 =>
  .ret (let b0:=bP [0,1,2,3,4,5,6];bj [(J 1),.aa false,.aL [0,1,2,3,4,5,6] [.box [.id,.id,.id,.id,.id],.box [.id,.id,.id,.id],.pure,.bG (av 1 (bb 4 0 3) al),.bG (b2 3 aO eO),.pure,.pure] (ba [1,3,5,6,7])] (.d9 h1 (aK 3 .live eM aH) (ex b0 4 4 0 3 rfl al) (dz b0 3 fi eO) (aK 1 .live aP bH) (aK 3 .live eM e2))))
theorem Vu {ag:Int}{ed:List Int}{fk aG aF:Int}{bq c9 dd:List Int}{bM:Int}{al:List bs}{eO:List (List aM)}{bH:List Int}{e2:List aM}{gy:Int}{aH:List aM}{r} (h:C0 ag ed fk aG aF bq c9 dd bM al eO bH e2 gy aH=some r):dQ bc 152 0 39 [1,1,1,0,1,0,0,1,0,0,1,1,1,0,1,0,0] (Gk ag ed fk aG aF bq c9 dd bM al eO bH e2) (GF ag ed fk aG aF bq c9 dd bM al eO bH e2) (gy,aH) r:=dR (fun _=>T6) h
def Gl (ag aG aF:Int)(bq c9 dd:List Int)(bM:Int)(al:List bs)(eO:List (List aM))(bH:List Int)(e2:List aM):(Int×(List aM))→S:=fun (bw,aH)=>dr [(1,.ref 0 0 0 0),(3,.ref 1 0 0 0),(5,.n .i64 ag),(6,.n .i64 (-1:Int)),(7,.bm 2 0 0 aH.length),(10,.n .i64 bw)] [[ab.mk 5 [[.n .i64 aG,.n .i64 aF,.isl 1 (bq.map eI),.isl 1 (c9.map eI),.isl 1 (dd.map eI)]] .live],[ab.mk 4 [(dT bM 3 0 0 al.length 5 0 0 bH.length 6 0 0 e2.length)] .live],(av 3 aO aH),(av 1 (bb 4 0 3) al),(b2 3 aO eO),(av 1 eI bH),(av 3 aO e2)]
def GG (ag aG aF:Int)(bq c9 dd:List Int)(bM:Int)(al:List bs)(eO:List (List aM))(bH:List Int)(e2:List aM):(List aM)→du
 | a=>⟨some 6,[(1,.ref 0 0 0 0),(3,.ref 1 0 0 0),(5,.n .i64 ag),(6,.n .i64 (-1:Int)),(7,.bm 2 0 0 a.length)],[[ab.mk 5 [[.n .i64 aG,.n .i64 aF,.isl 1 (bq.map eI),.isl 1 (c9.map eI),.isl 1 (dd.map eI)]] .live],[ab.mk 4 [(dT bM 3 0 0 al.length 5 0 0 bH.length 6 0 0 e2.length)] .live],(av 3 aO a),(av 1 (bb 4 0 3) al),(b2 3 aO eO),(av 1 eI bH),(av 3 aO e2)]⟩
def wz (ag aG aF:Int)(bq c9 dd:List Int)(bM:Int)(al:List bs)(eO:List (List aM))(bH:List Int)(e2:List aM)(bw:Int)(aH:List aM):Option ((Int×(List aM))⊕((List aM))) :=
 if (decide (bw<aG))=true then
  if (bw == ag)=true then
   o1 1 >>= fun bk =>
   if (aH++([bk]:List aM)).length*56≤140737488355328 then
   some (.inl (R (bw+(1:Int)),aH++([bk]:List aM)))
   else none
  else
   o1 0 >>= fun bk =>
   if (aH++([bk]:List aM)).length*56≤140737488355328 then
   some (.inl (R (bw+(1:Int)),aH++([bk]:List aM)))
   else none
 else
  some (.inr aH)
def C1 (ag aG aF:Int)(bq c9 dd:List Int)(bM:Int)(al:List bs)(eO:List (List aM))(bH:List Int)(e2:List aM)(bw:Int)(aH:List aM):Option ((List aM)):=iter (fun w:Int×(List aM)=>wz ag aG aF bq c9 dd bM al eO bH e2 w.1 w.2) (bw,aH)
theorem T7 {ag aG aF:Int}{bq c9 dd:List Int}{bM:Int}{al:List bs}{eO:List (List aM)}{bH:List Int}{e2:List aM}{bw:Int}{aH:List aM}:bB (wz ag aG aF bq c9 dd bM al eO bH e2 bw aH) (dP bc 152 0 39 [1,1,1,0,1,0,0,1,0,0,1,1,1,1,0,1,0,0] (Gl ag aG aF bq c9 dd bM al eO bH e2 (bw,aH)) (Gl ag aG aF bq c9 dd bM al eO bH e2) (GG ag aG aF bq c9 dd bM al eO bH e2)):=by
 unfold wz
 exact .ite (fun h1 =>
  (let t1:List bY:=[(J 4),.aa true,(J 1),(J 3)];
  .ite (fun o =>
  .ar fun bk au =>
  .aZ fun aA =>
  .ret (let q1:=(aH++([bk]:List aM));let a1:=bP [0,1,20,3,4,5,6];bj (t1.append [.aa true,(J 1),.az (aj 2 (an (bt 1 (.agg (aO bk)) false) (br 1 (.aJ (q1.length)) 1))),(J 3),.aL [0,1,20,3,4,5,6] [.box [.id,.id,.id,.id,.id],.box [.id,.id,.id,.id],.cO (av 3 aO q1),.bG (av 1 (bb 4 0 3) al),.bG (b2 3 aO eO),.pure,.pure] (ba [1,3,5,6,7,10])]) (.bl h1 o (rU bk au) (ha aO bk) (ho aO aH) (gR aO aH bk) aA (db 3 .live (hy aO aH bk)) (.dw (aK 3 .live eM q1) (ex a1 4 4 0 3 rfl al) (dz a1 3 fi eO) (aK 1 .live aP bH) (aK 3 .live eM e2)))))
  (fun o =>
  .ar fun bk au =>
  .aZ fun aA =>
  .ret (let b0:=(aH++([bk]:List aM));let ct:=bP [0,1,19,3,4,5,6];bj (t1.append [.aa false,.az (aj 2 (an (bt 1 (.agg (aO bk)) false) (br 1 (.aJ (b0.length)) 1))),(J 3),.aL [0,1,19,3,4,5,6] [.box [.id,.id,.id,.id,.id],.box [.id,.id,.id,.id],.cO (av 3 aO b0),.bG (av 1 (bb 4 0 3) al),.bG (b2 3 aO eO),.pure,.pure] (ba [1,3,5,6,7,10])]) (.bl h1 o (rU bk au) (ha aO bk) (ho aO aH) (gR aO aH bk) aA (db 3 .live (hy aO aH bk)) (.dw (aK 3 .live eM b0) (ex ct 4 4 0 3 rfl al) (dz ct 3 fi eO) (aK 1 .live aP bH) (aK 3 .live eM e2)))))))
  (fun h1 =>
  .ret (let dh:=bP [0,1,2,3,4,5,6];bj [(J 4),.aa false,.aL [0,1,2,3,4,5,6] [.box [.id,.id,.id,.id,.id],.box [.id,.id,.id,.id],.pure,.bG (av 1 (bb 4 0 3) al),.bG (b2 3 aO eO),.pure,.pure] (ba [1,3,5,6,7])] (.d9 h1 (aK 3 .live eM aH) (ex dh 4 4 0 3 rfl al) (dz dh 3 fi eO) (aK 1 .live aP bH) (aK 3 .live eM e2))))
theorem Vv {ag aG aF:Int}{bq c9 dd:List Int}{bM:Int}{al:List bs}{eO:List (List aM)}{bH:List Int}{e2:List aM}{bw:Int}{aH:List aM}{r} (h:C1 ag aG aF bq c9 dd bM al eO bH e2 bw aH=some r):dQ bc 152 0 39 [1,1,1,0,1,0,0,1,0,0,1,1,1,1,0,1,0,0] (Gl ag aG aF bq c9 dd bM al eO bH e2) (GG ag aG aF bq c9 dd bM al eO bH e2) (bw,aH) r:=dR (fun _=>T7) h
def Gm (ag:Int)(gg en:Nat)(oC aG aF:Int)(bq c9 dd:List Int)(bM:Int)(a9:List (List aM))(al:List bs)(aI:List Int):(Int×(List aM))→S:=fun (hO,bH)=>dr [(1,.ref 0 0 0 0),(3,.ref 1 0 0 0),(5,.n .i64 ag),(7,.bm 2 (gg+0) 0 en),(93,.n .i64 oC),(94,.n .i64 hO)] [[ab.mk 5 [[.n .i64 aG,.n .i64 aF,.isl 1 (bq.map eI),.isl 1 (c9.map eI),.isl 1 (dd.map eI)]] .live],[ab.mk 4 [(dT bM 3 0 0 al.length 4 0 0 aI.length 5 0 0 bH.length)] .live],(b2 3 aO a9),(av 1 (bb 2 0 3) al),(av 1 eI aI),(av 3 aO bH)]
def CU (ag:Int)(gg en:Nat)(oC aG aF:Int)(bq c9 dd:List Int)(bM:Int)(a9:List (List aM))(al:List bs)(aI:List Int):(List aM)→du
 | a=>⟨some 8,[(1,.ref 0 0 0 0),(3,.ref 1 0 0 0),(5,.n .i64 ag),(7,.bm 2 (gg+0) 0 en)],[[ab.mk 5 [[.n .i64 aG,.n .i64 aF,.isl 1 (bq.map eI),.isl 1 (c9.map eI),.isl 1 (dd.map eI)]] .live],[ab.mk 4 [(dT bM 3 0 0 al.length 4 0 0 aI.length 5 0 0 a.length)] .live],(b2 3 aO a9),(av 1 (bb 2 0 3) al),(av 1 eI aI),(av 3 aO a)]⟩
def wA (ag:Int)(gg en:Nat)(oC aG aF:Int)(bq c9 dd:List Int)(bM:Int)(a9:List (List aM))(al:List bs)(aI:List Int)(hO:Int)(bH:List aM):Option ((Int×(List aM))⊕((List aM))) :=
 if (decide (hO<oC))=true then
  if (decide (hO<aF))=true then
   if 0≤hO∧hO<(bH.length:Nat) then
   bH[(0+hO.toNat)]? >>= fun fD =>
   a9[gg]? >>= fun m3 =>
   if 0≤hO∧hO<(en:Nat) then
   m3[(0+hO.toNat)]? >>= fun ej =>
   rp fD ej >>= fun di =>
   if (0+hO.toNat)<bH.length then
   some (.inl (R (hO+(1:Int)),bH.set (0+hO.toNat) di))
   else none
   else none
   else none
  else
   if (hO == bM)=true then
    if 0≤hO∧hO<(bH.length:Nat) then
    bH[(0+hO.toNat)]? >>= fun ky =>
    a9[gg]? >>= fun iI =>
    if 0≤hO∧hO<(en:Nat) then
    iI[(0+hO.toNat)]? >>= fun iZ =>
    rp ky iZ >>= fun dY =>
    if (0+hO.toNat)<bH.length then
    some (.inl (R (hO+(1:Int)),bH.set (0+hO.toNat) dY))
    else none
    else none
    else none
   else
    some (.inl (R (hO+(1:Int)),bH))
 else
  some (.inr bH)
def zp (ag:Int)(gg en:Nat)(oC aG aF:Int)(bq c9 dd:List Int)(bM:Int)(a9:List (List aM))(al:List bs)(aI:List Int)(hO:Int)(bH:List aM):Option ((List aM)):=iter (fun w:Int×(List aM)=>wA ag gg en oC aG aF bq c9 dd bM a9 al aI w.1 w.2) (hO,bH)
theorem T8 {ag:Int}{gg en:Nat}{oC aG aF:Int}{bq c9 dd:List Int}{bM:Int}{a9:List (List aM)}{al:List bs}{aI:List Int}{hO:Int}{bH:List aM}:bB (wA ag gg en oC aG aF bq c9 dd bM a9 al aI hO bH) (dP bc 152 0 39 [1,1,1,0,1,0,0,1,0,0,1,1,1,1,1,1,0,1,0,0] (Gm ag gg en oC aG aF bq c9 dd bM a9 al aI (hO,bH)) (Gm ag gg en oC aG aF bq c9 dd bM a9 al aI) (CU ag gg en oC aG aF bq c9 dd bM a9 al aI)):=by
 unfold wA
 exact .ite (fun h1 =>
  (let t1:List bY:=[(J 1),.aa true,(J 2)];
  .ite (fun o =>
  .aZ fun ae =>
  .ar fun fD aA =>
  .ar fun m3 bd =>
  .aZ fun bn =>
  .ar fun ej cN =>
  .ar fun di e6 =>
  .aZ fun ez =>
  .ret (let q1:=j5 (fJ .live 3 aO a9) ix bd;let a1:=bP [0,1,2,3,4,5];bj (t1.append [.az (aj 5 (cD 6 (an (.aa true) []))),.aa true,.az (aj 11 (an (.b7 (aO fD)) (aj 2 (an (.gj (ab.mk 3 (m3.map aO) .live) []) (an (.gj (ab.mk 3 (m3.map aO) .live) (aO ej)) (an (bt 2 (.agg (aO di)) false) (aj 1 (an .fV [])))))))),(J 2),.aL [0,1,2,3,4,5] [.box [.id,.id,.id,.id,.id],.box [.id,.id,.id,.len ((bH.set (0+hO.toNat) di).length)],.bG (b2 3 aO a9),.bG (av 1 (bb 2 0 3) al),.pure,.cO (av 3 aO (bH.set (0+hO.toNat) di))] (ba [1,3,5,7,93,94])]) (.bl h1 o o o o o o o (.bl cJ ae.1 ae.2 (bX aO aA) q1 bn.1 bn.2 q1 (.bl (bX aO cN) (Dj di e6) ae.1 ae.2 (hH aO ez) (hx 3) (hX (dO bH) (0+hO.toNat) di) (dz a1 3 fi a9) (.de (ex a1 2 2 0 3 rfl al) (aK 1 .live aP aI) (db 3 .live (gD (cY aO bH) (0+hO.toNat) di)) (aK 3 .live eM (bH.set (0+hO.toNat) di))))))))
  (fun o =>
  (let t2:List bY:=t1.append [.az (aj 11 (an (.aa false) []))];
  .ite (fun ae =>
  .aZ fun au =>
  .ar fun ky a2 =>
  .ar fun iI bn =>
  .aZ fun cy =>
  .ar fun iZ eW =>
  .ar fun dY ez =>
  .aZ fun eA =>
  .ret (let b0:=j5 (fJ .live 3 aO a9) ix bn;let ct:=bP [0,1,2,3,4,5];bj (t2.append [.aa true,.az (aj 11 (an (.b7 (aO ky)) (aj 2 (an (.gj (ab.mk 3 (iI.map aO) .live) []) (an (.gj (ab.mk 3 (iI.map aO) .live) (aO iZ)) (an (bt 2 (.agg (aO dY)) false) (aj 1 (an .fV [])))))))),(J 2),.aL [0,1,2,3,4,5] [.box [.id,.id,.id,.id,.id],.box [.id,.id,.id,.len ((bH.set (0+hO.toNat) dY).length)],.bG (b2 3 aO a9),.bG (av 1 (bb 2 0 3) al),.pure,.cO (av 3 aO (bH.set (0+hO.toNat) dY))] (ba [1,3,5,7,93,94])]) (.bl h1 o o o o o o o (.bl ae au.1 au.2 (bX aO a2) b0 cy.1 cy.2 b0 (.bl (bX aO eW) (Dj dY ez) au.1 au.2 (hH aO eA) (hx 3) (hX (dO bH) (0+hO.toNat) dY) (dz ct 3 fi a9) (.de (ex ct 2 2 0 3 rfl al) (aK 1 .live aP aI) (db 3 .live (gD (cY aO bH) (0+hO.toNat) dY)) (aK 3 .live eM (bH.set (0+hO.toNat) dY))))))))
  (fun ae =>
  .ret (let dh:=bP [0,1,2,3,4,5];bj (t2.append [.aa false,(J 2),.aL [0,1,2,3,4,5] [.box [.id,.id,.id,.id,.id],.box [.id,.id,.id,.id],.bG (b2 3 aO a9),.bG (av 1 (bb 2 0 3) al),.pure,.pure] (ba [1,3,5,7,93,94])]) (.bl h1 o o o o o o o (.dw ae (dz dh 3 fi a9) (ex dh 2 2 0 3 rfl al) (aK 1 .live aP aI) (aK 3 .live eM bH)))))))))
  (fun h1 =>
  .ret (let fI:=bP [0,1,2,3,4,5];bj [(J 1),.aa false,.aL [0,1,2,3,4,5] [.box [.id,.id,.id,.id,.id],.box [.id,.id,.id,.id],.bG (b2 3 aO a9),.bG (av 1 (bb 2 0 3) al),.pure,.pure] (ba [1,3,5,7])] (.dw h1 (dz fI 3 fi a9) (ex fI 2 2 0 3 rfl al) (aK 1 .live aP aI) (aK 3 .live eM bH))))
theorem M7 {ag:Int}{gg en:Nat}{oC aG aF:Int}{bq c9 dd:List Int}{bM:Int}{a9:List (List aM)}{al:List bs}{aI:List Int}{hO:Int}{bH:List aM}{r} (h:zp ag gg en oC aG aF bq c9 dd bM a9 al aI hO bH=some r):dQ bc 152 0 39 [1,1,1,0,1,0,0,1,0,0,1,1,1,1,1,1,0,1,0,0] (Gm ag gg en oC aG aF bq c9 dd bM a9 al aI) (CU ag gg en oC aG aF bq c9 dd bM a9 al aI) (hO,bH) r:=dR (fun _=>T8) h
def F7 (ag:Int)(ed:List Int)(fk aG aF:Int)(bq c9 dd:List Int)(bM:Int)(al:List bs)(eO:List (List aM))(bH:List Int)(e2:List aM):(Int×(List aM))→S:=fun (gy,aH)=>dr [(1,.ref 0 0 0 0),(3,.ref 1 0 0 0),(5,.n .i64 ag),(6,.n .i64 (1:Int)),(7,.bm 2 0 0 aH.length),(53,.isl 1 (ed.map eI)),(54,.n .i64 fk),(55,.n .i64 gy)] [[ab.mk 5 [[.n .i64 aG,.n .i64 aF,.isl 1 (bq.map eI),.isl 1 (c9.map eI),.isl 1 (dd.map eI)]] .live],[ab.mk 4 [(dT bM 3 0 0 al.length 5 0 0 bH.length 6 0 0 e2.length)] .live],(av 3 aO aH),(av 1 (bb 4 0 3) al),(b2 3 aO eO),(av 1 eI bH),(av 3 aO e2)]
def Gn (ag:Int)(ed:List Int)(fk aG aF:Int)(bq c9 dd:List Int)(bM:Int)(al:List bs)(eO:List (List aM))(bH:List Int)(e2:List aM):(List aM)→du
 | a=>⟨some 4,[(1,.ref 0 0 0 0),(3,.ref 1 0 0 0),(5,.n .i64 ag),(6,.n .i64 (1:Int)),(7,.bm 2 0 0 a.length)],[[ab.mk 5 [[.n .i64 aG,.n .i64 aF,.isl 1 (bq.map eI),.isl 1 (c9.map eI),.isl 1 (dd.map eI)]] .live],[ab.mk 4 [(dT bM 3 0 0 al.length 5 0 0 bH.length 6 0 0 e2.length)] .live],(av 3 aO a),(av 1 (bb 4 0 3) al),(b2 3 aO eO),(av 1 eI bH),(av 3 aO e2)]⟩
def wj (ag:Int)(ed:List Int)(fk aG aF:Int)(bq c9 dd:List Int)(bM:Int)(al:List bs)(eO:List (List aM))(bH:List Int)(e2:List aM)(gy:Int)(aH:List aM):Option ((Int×(List aM))⊕((List aM))) :=
 if (decide (gy<fk))=true then
  if 0≤gy∧gy<ed.length then
  ed[gy.toNat]? >>= fun aD =>
  o1 (R ((1:Int)*aD)) >>= fun aU =>
  if (aH++([aU]:List aM)).length*56≤140737488355328 then
  some (.inl (R (gy+(1:Int)),aH++([aU]:List aM)))
  else none
  else none
 else
  some (.inr aH)
def CV (ag:Int)(ed:List Int)(fk aG aF:Int)(bq c9 dd:List Int)(bM:Int)(al:List bs)(eO:List (List aM))(bH:List Int)(e2:List aM)(gy:Int)(aH:List aM):Option ((List aM)):=iter (fun w:Int×(List aM)=>wj ag ed fk aG aF bq c9 dd bM al eO bH e2 w.1 w.2) (gy,aH)
theorem TU {ag:Int}{ed:List Int}{fk aG aF:Int}{bq c9 dd:List Int}{bM:Int}{al:List bs}{eO:List (List aM)}{bH:List Int}{e2:List aM}{gy:Int}{aH:List aM}:bB (wj ag ed fk aG aF bq c9 dd bM al eO bH e2 gy aH) (dP bc 152 0 39 [1,1,1,0,1,0,0,1,0,0,1,1,1,0,1,0,0] (F7 ag ed fk aG aF bq c9 dd bM al eO bH e2 (gy,aH)) (F7 ag ed fk aG aF bq c9 dd bM al eO bH e2) (Gn ag ed fk aG aF bq c9 dd bM al eO bH e2)):=by
 unfold wj
 exact .ite (fun h1 =>
  .aZ fun o =>
  .ar fun aD au =>
  .ar fun aU a2 =>
  .aZ fun bd =>
  .ret (let q1:=(aH++([aU]:List aM));let a1:=bP [0,1,17,3,4,5,6];bj [(J 1),.aa true,.az (br 1 (.b7 (eI aD)) 1),.az (aj 4 (an (bt 1 (.agg (aO aU)) false) (br 1 (.aJ (q1.length)) 1))),(J 2),.aL [0,1,17,3,4,5,6] [.box [.id,.id,.id,.id,.id],.box [.id,.id,.id,.id],.cO (av 3 aO q1),.bG (av 1 (bb 4 0 3) al),.bG (b2 3 aO eO),.pure,.pure] (ba [1,3,5,6,7,53,54,55])] (.bl h1 o.1 (cQ eI o.2) (bX eI au) (rU aU a2) (ha aO aU) (ho aO aH) (gR aO aH aU) (.eX bd (db 3 .live (hy aO aH aU)) (aK 3 .live eM q1) (ex a1 4 4 0 3 rfl al) (dz a1 3 fi eO) (aK 1 .live aP bH) (aK 3 .live eM e2)))))
  (fun h1 =>
  .ret (let b0:=bP [0,1,2,3,4,5,6];bj [(J 1),.aa false,.aL [0,1,2,3,4,5,6] [.box [.id,.id,.id,.id,.id],.box [.id,.id,.id,.id],.pure,.bG (av 1 (bb 4 0 3) al),.bG (b2 3 aO eO),.pure,.pure] (ba [1,3,5,6,7])] (.d9 h1 (aK 3 .live eM aH) (ex b0 4 4 0 3 rfl al) (dz b0 3 fi eO) (aK 1 .live aP bH) (aK 3 .live eM e2))))
theorem Vc {ag:Int}{ed:List Int}{fk aG aF:Int}{bq c9 dd:List Int}{bM:Int}{al:List bs}{eO:List (List aM)}{bH:List Int}{e2:List aM}{gy:Int}{aH:List aM}{r} (h:CV ag ed fk aG aF bq c9 dd bM al eO bH e2 gy aH=some r):dQ bc 152 0 39 [1,1,1,0,1,0,0,1,0,0,1,1,1,0,1,0,0] (F7 ag ed fk aG aF bq c9 dd bM al eO bH e2) (Gn ag ed fk aG aF bq c9 dd bM al eO bH e2) (gy,aH) r:=dR (fun _=>TU) h
def F8 (ag aG aF:Int)(bq c9 dd:List Int)(bM:Int)(al:List bs)(eO:List (List aM))(bH:List Int)(e2:List aM):(Int×(List aM))→S:=fun (bw,aH)=>dr [(1,.ref 0 0 0 0),(3,.ref 1 0 0 0),(5,.n .i64 ag),(6,.n .i64 (1:Int)),(7,.bm 2 0 0 aH.length),(10,.n .i64 bw)] [[ab.mk 5 [[.n .i64 aG,.n .i64 aF,.isl 1 (bq.map eI),.isl 1 (c9.map eI),.isl 1 (dd.map eI)]] .live],[ab.mk 4 [(dT bM 3 0 0 al.length 5 0 0 bH.length 6 0 0 e2.length)] .live],(av 3 aO aH),(av 1 (bb 4 0 3) al),(b2 3 aO eO),(av 1 eI bH),(av 3 aO e2)]
def Gp (ag aG aF:Int)(bq c9 dd:List Int)(bM:Int)(al:List bs)(eO:List (List aM))(bH:List Int)(e2:List aM):(List aM)→du
 | a=>⟨some 6,[(1,.ref 0 0 0 0),(3,.ref 1 0 0 0),(5,.n .i64 ag),(6,.n .i64 (1:Int)),(7,.bm 2 0 0 a.length)],[[ab.mk 5 [[.n .i64 aG,.n .i64 aF,.isl 1 (bq.map eI),.isl 1 (c9.map eI),.isl 1 (dd.map eI)]] .live],[ab.mk 4 [(dT bM 3 0 0 al.length 5 0 0 bH.length 6 0 0 e2.length)] .live],(av 3 aO a),(av 1 (bb 4 0 3) al),(b2 3 aO eO),(av 1 eI bH),(av 3 aO e2)]⟩
def wk (ag aG aF:Int)(bq c9 dd:List Int)(bM:Int)(al:List bs)(eO:List (List aM))(bH:List Int)(e2:List aM)(bw:Int)(aH:List aM):Option ((Int×(List aM))⊕((List aM))) :=
 if (decide (bw<aG))=true then
  if (bw == ag)=true then
   o1 1 >>= fun bk =>
   if (aH++([bk]:List aM)).length*56≤140737488355328 then
   some (.inl (R (bw+(1:Int)),aH++([bk]:List aM)))
   else none
  else
   o1 0 >>= fun bk =>
   if (aH++([bk]:List aM)).length*56≤140737488355328 then
   some (.inl (R (bw+(1:Int)),aH++([bk]:List aM)))
   else none
 else
  some (.inr aH)
def CW (ag aG aF:Int)(bq c9 dd:List Int)(bM:Int)(al:List bs)(eO:List (List aM))(bH:List Int)(e2:List aM)(bw:Int)(aH:List aM):Option ((List aM)):=iter (fun w:Int×(List aM)=>wk ag aG aF bq c9 dd bM al eO bH e2 w.1 w.2) (bw,aH)
theorem TV {ag aG aF:Int}{bq c9 dd:List Int}{bM:Int}{al:List bs}{eO:List (List aM)}{bH:List Int}{e2:List aM}{bw:Int}{aH:List aM}:bB (wk ag aG aF bq c9 dd bM al eO bH e2 bw aH) (dP bc 152 0 39 [1,1,1,0,1,0,0,1,0,0,1,1,1,1,0,1,0,0] (F8 ag aG aF bq c9 dd bM al eO bH e2 (bw,aH)) (F8 ag aG aF bq c9 dd bM al eO bH e2) (Gp ag aG aF bq c9 dd bM al eO bH e2)):=by
 unfold wk
 exact .ite (fun h1 =>
  (let t1:List bY:=[(J 4),.aa true,(J 1),(J 3)];
  .ite (fun o =>
  .ar fun bk au =>
  .aZ fun aA =>
  .ret (let q1:=(aH++([bk]:List aM));let a1:=bP [0,1,20,3,4,5,6];bj (t1.append [.aa true,(J 1),.az (aj 2 (an (bt 1 (.agg (aO bk)) false) (br 1 (.aJ (q1.length)) 1))),(J 3),.aL [0,1,20,3,4,5,6] [.box [.id,.id,.id,.id,.id],.box [.id,.id,.id,.id],.cO (av 3 aO q1),.bG (av 1 (bb 4 0 3) al),.bG (b2 3 aO eO),.pure,.pure] (ba [1,3,5,6,7,10])]) (.bl h1 o (rU bk au) (ha aO bk) (ho aO aH) (gR aO aH bk) aA (db 3 .live (hy aO aH bk)) (.dw (aK 3 .live eM q1) (ex a1 4 4 0 3 rfl al) (dz a1 3 fi eO) (aK 1 .live aP bH) (aK 3 .live eM e2)))))
  (fun o =>
  .ar fun bk au =>
  .aZ fun aA =>
  .ret (let b0:=(aH++([bk]:List aM));let ct:=bP [0,1,19,3,4,5,6];bj (t1.append [.aa false,.az (aj 2 (an (bt 1 (.agg (aO bk)) false) (br 1 (.aJ (b0.length)) 1))),(J 3),.aL [0,1,19,3,4,5,6] [.box [.id,.id,.id,.id,.id],.box [.id,.id,.id,.id],.cO (av 3 aO b0),.bG (av 1 (bb 4 0 3) al),.bG (b2 3 aO eO),.pure,.pure] (ba [1,3,5,6,7,10])]) (.bl h1 o (rU bk au) (ha aO bk) (ho aO aH) (gR aO aH bk) aA (db 3 .live (hy aO aH bk)) (.dw (aK 3 .live eM b0) (ex ct 4 4 0 3 rfl al) (dz ct 3 fi eO) (aK 1 .live aP bH) (aK 3 .live eM e2)))))))
  (fun h1 =>
  .ret (let dh:=bP [0,1,2,3,4,5,6];bj [(J 4),.aa false,.aL [0,1,2,3,4,5,6] [.box [.id,.id,.id,.id,.id],.box [.id,.id,.id,.id],.pure,.bG (av 1 (bb 4 0 3) al),.bG (b2 3 aO eO),.pure,.pure] (ba [1,3,5,6,7])] (.d9 h1 (aK 3 .live eM aH) (ex dh 4 4 0 3 rfl al) (dz dh 3 fi eO) (aK 1 .live aP bH) (aK 3 .live eM e2))))
theorem Vd {ag aG aF:Int}{bq c9 dd:List Int}{bM:Int}{al:List bs}{eO:List (List aM)}{bH:List Int}{e2:List aM}{bw:Int}{aH:List aM}{r} (h:CW ag aG aF bq c9 dd bM al eO bH e2 bw aH=some r):dQ bc 152 0 39 [1,1,1,0,1,0,0,1,0,0,1,1,1,1,0,1,0,0] (F8 ag aG aF bq c9 dd bM al eO bH e2) (Gp ag aG aF bq c9 dd bM al eO bH e2) (bw,aH) r:=dR (fun _=>TV) h
def F9 (aG aF:Int)(bq c9 dd:List Int)(bM:Int):(Int×(List bs)×(List (List aM))×(List Int)×(List aM))→S:=fun (ag,aH,dn,aI,bH)=>dr [(1,.ref 0 0 0 0),(3,.ref 1 0 0 0),(5,.n .i64 ag)] [[ab.mk 5 [[.n .i64 aG,.n .i64 aF,.isl 1 (bq.map eI),.isl 1 (c9.map eI),.isl 1 (dd.map eI)]] .live],[ab.mk 4 [(dT bM 2 0 0 aH.length 4 0 0 aI.length 5 0 0 bH.length)] .live],(av 1 (bb 3 0 3) aH),(b2 3 aO dn),(av 1 eI aI),(av 3 aO bH)]
def Gq (aG aF:Int)(bq c9 dd:List Int)(bM:Int):((List bs)×(List (List aM))×(List Int)×(List aM))→du
 | a=>⟨some 2,[(3,.ref 0 0 0 0)],[[ab.mk 4 [(dT bM 1 0 0 a.1.length 3 0 0 a.2.2.1.length 4 0 0 a.2.2.2.length)] .live],(av 1 (bb 2 0 3) a.1),(b2 3 aO a.2.1),(av 1 eI a.2.2.1),(av 3 aO a.2.2.2)]⟩
def wm (aG aF:Int)(bq c9 dd:List Int)(bM ag:Int)(aH:List bs)(dn:List (List aM))(aI:List Int)(bH:List aM):Option ((Int×(List bs)×(List (List aM))×(List Int)×(List aM))⊕((List bs)×(List (List aM))×(List Int)×(List aM))) :=
 if (decide (ag<aG))=true then
  if 0≤ag∧ag<c9.length then
  c9[ag.toNat]? >>= fun aD =>
  if (decide (aD<(0:Int)))=true then
   ur (⟨aG,aF,bq,c9,dd⟩:hz) ag >>= fun ck =>
   C0 ag ck (len_ eI ck) aG aF bq c9 dd bM aH dn aI bH 0 ([]:List aM) >>= fun c0 =>
   C1 ag aG aF bq c9 dd bM aH dn aI bH 0 c0 >>= fun ek =>
   o1 (R ((-1:Int)*aD)) >>= fun dY =>
   if (ek++([dY]:List aM)).length*56≤140737488355328 then
   (dn++[ek++([dY]:List aM)])[dn.length]? >>= fun kl =>
   zp ag dn.length ((ek++([dY]:List aM)).length) (((ek++([dY]:List aM)).length:Nat):Int) aG aF bq c9 dd bM (dn++[ek++([dY]:List aM)]) aH aI 0 bH >>= fun gp =>
   if (aH++([(some (dn.length,(ek++([dY]:List aM)).length))]:List bs)).length*24≤140737488355328 then
   if (aI++([R (aF+ag)]:List Int)).length*8≤140737488355328 then
   some (.inl (R (ag+(1:Int)),aH++([(some (dn.length,(ek++([dY]:List aM)).length))]:List bs),dn++[ek++([dY]:List aM)],aI++([R (aF+ag)]:List Int),gp))
   else none
   else none
   else none
  else
   ur (⟨aG,aF,bq,c9,dd⟩:hz) ag >>= fun ck =>
   CV ag ck (len_ eI ck) aG aF bq c9 dd bM aH dn aI bH 0 ([]:List aM) >>= fun c0 =>
   CW ag aG aF bq c9 dd bM aH dn aI bH 0 c0 >>= fun ek =>
   o1 (R ((1:Int)*aD)) >>= fun dY =>
   if (ek++([dY]:List aM)).length*56≤140737488355328 then
   (dn++[ek++([dY]:List aM)])[dn.length]? >>= fun kl =>
   zp ag dn.length ((ek++([dY]:List aM)).length) (((ek++([dY]:List aM)).length:Nat):Int) aG aF bq c9 dd bM (dn++[ek++([dY]:List aM)]) aH aI 0 bH >>= fun gp =>
   if (aH++([(some (dn.length,(ek++([dY]:List aM)).length))]:List bs)).length*24≤140737488355328 then
   if (aI++([R (aF+ag)]:List Int)).length*8≤140737488355328 then
   some (.inl (R (ag+(1:Int)),aH++([(some (dn.length,(ek++([dY]:List aM)).length))]:List bs),dn++[ek++([dY]:List aM)],aI++([R (aF+ag)]:List Int),gp))
   else none
   else none
   else none
  else none
 else
  some (.inr (aH,dn,aI,bH))
def HR (aG aF:Int)(bq c9 dd:List Int)(bM ag:Int)(aH:List bs)(dn:List (List aM))(aI:List Int)(bH:List aM):Option ((List bs)×(List (List aM))×(List Int)×(List aM)):=iter (fun w:Int×(List bs)×(List (List aM))×(List Int)×(List aM)=>wm aG aF bq c9 dd bM w.1 w.2.1 w.2.2.1 w.2.2.2.1 w.2.2.2.2) (ag,aH,dn,aI,bH)
set_option maxHeartbeats 4000000 in
theorem TW {aG aF:Int}{bq c9 dd:List Int}{bM ag:Int}{aH:List bs}{dn:List (List aM)}{aI:List Int}{bH:List aM}:bB (wm aG aF bq c9 dd bM ag aH dn aI bH) (dP bc 152 0 39 [1,1,1,0,1,0,0] (F9 aG aF bq c9 dd bM (ag,aH,dn,aI,bH)) (F9 aG aF bq c9 dd bM) (Gq aG aF bq c9 dd bM)):=by
 unfold wm
 exact .ite (fun h1 =>
  .aZ fun o =>
  .ar fun aD au =>
  (let t1:List bY:=[(J 4),.aa true,(J 1),.az (br 4 (.b7 (eI aD)) 1)];
  have aQ:=((.de h1 o.1 (cQ eI o.2) (bX eI au)):cz _);
  .ite (fun aA =>
  .ar fun ck bd =>
  .ar fun c0 cy =>
  .ar fun ek eW =>
  .ar fun dY ez =>
  .aZ fun eA =>
  .ar fun kl h4 =>
  .ar fun gp hE =>
  .aZ fun gA =>
  .aZ fun fl =>
  .ret (let q1:=(ek++([dY]:List aM));let a1:=(dn++[ek++([dY]:List aM)]);let b0:=AU (fJ .live 3 aO dn) (A5 eM 17 4 (dn.length+0) (hy aO ek dY) (A6 17 4 (dn.length+0)));let ct:=bP [0,1,13,2,27,5];let fI:=(aH++([(some (dn.length,q1.length))]:List bs));let hR:=aK 1 .live aP aI;let fp:=aK 3 .live eM bH;let jh:=bP [0,1,18,2,3,4,5];let lF:=bP [0,1,2,3,4,5,6];let i2:=R (aF+ag);let dh:=(aI++([i2]:List Int));let pH:=bP [0,1,4,3,5,6];bj (t1.append [.aa true,(J 1),(J 2),.az (br 2 (bt 2 (.isl 1 (ck.map eI)) false) 2),.aL [0,1,18,2,3,4,5] [.box [.id,.id,.id,.id,.id],.box [.id,.id,.id,.id],.cO (av 3 aO ([]:List aM)),.bG (av 1 (bb 4 0 3) aH),.bG (b2 3 aO dn),.pure,.pure] [(1,ii),(3,ii),(5,ii),(6,ii),(7,f5 (([]:List aM).length)),(53,ii),(54,ii),(55,ii)],(GF ag ck (len_ eI ck) aG aF bq c9 dd bM aH dn aI bH c0).ff,(J 1),.aL [0,1,2,3,4,5,6] [.box [.id,.id,.id,.id,.id],.box [.id,.id,.id,.id],.pure,.bG (av 1 (bb 4 0 3) aH),.bG (b2 3 aO dn),.pure,.pure] (ba [1,3,5,6,7,10]),(GG ag aG aF bq c9 dd bM aH dn aI bH ek).ff,.az (aj 6 (an (.b7 (eI aD)) (aj 1 (an (bt 1 (.agg (aO dY)) false) (br 1 (.tE 4 (dn.length+0) (.aJ (q1.length))) 1))))),.az (br 1 (.gj (ab.mk 3 (kl.map aO) .live) []) 1),.aL [0,1,4,3,5,6] [.box [.id,.id,.id,.id,.id],.box [.id,.id,.id,.id],.bG (b2 3 aO a1),.bG (av 1 (bb 2 0 3) aH),.pure,.pure] (ba [1,3,5,7,93,94]),(CU ag dn.length (q1.length) ((q1.length:Nat):Int) aG aF bq c9 dd bM a1 aH aI gp).ff,.az (aj 6 (an (.j8 133 (kT 2 0 3 (some (dn.length,q1.length))) .none) (an (.aJ (fI.length)) (aj 3 [])))),.az (br 10 (.aJ (dh.length)) 3),(J 3),.aL [0,1,13,2,27,5] [.box [.id,.id,.id,.id,.id],.box [.id,.id,.id,.id],.bG (av 1 (bb 3 0 3) fI),.bG (b2 3 aO a1),.cO (av 1 eI dh),.pure] (ba [1,3,5])]) (aQ.aJ (.bl aA (N3 ck bd) (db 3 .live (show []=(([]:List aM)).map aO from rfl)) (aK 3 .live eM ([]:List aM)) (ex jh 4 3 0 3 rfl aH) (dz jh 3 fi dn) hR fp (.bl (fK aM) (Vu cy) (aK 3 .live eM c0) (ex lF 4 4 0 3 rfl aH) (dz lF 3 fi dn) hR fp (Vv eW) (.bl o.1 (cQ eI o.2) (bX eI au) (rU dY ez) (ha aO dY) (ho aO ek) (gR aO ek dY) eA (.bl (congrArg (· + 0) (Ef (fJ .live 3 aO dn) rfl)) (j5 b0 ix h4) (mn (ca:=pH) b0 (lP fi)) (ex pH 2 4 0 3 rfl aH) hR fp (M7 hE) (.s2 2 0 3 dn.length (q1.length):ki (.bm 2 (dn.length+0) 0 (q1.length)) (kT 2 0 3 (some (dn.length,q1.length)))) (.bl (ha (bb 2 0 3) (some (dn.length,q1.length))) (ho (bb 2 0 3) aH) (gR (bb 2 0 3) aH (some (dn.length,q1.length))) gA (ha eI i2) (ho eI aI) (gR eI aI i2) fl (.dw (c5 (qv (ca:=ct) 1 .live (bb 3 0 3) (hy (bb 2 0 3) aH (some (dn.length,q1.length))) (rF (rfl:ct 2=some 3))) (o8 (ca:=ct))) (dz ct 3 fi a1) (db 1 .live (hy eI aI i2)) (aK 1 .live aP dh) (aK 3 .live eM gp))))))))))
  (fun aA =>
  .ar fun ck bd =>
  .ar fun c0 cy =>
  .ar fun ek eW =>
  .ar fun dY ez =>
  .aZ fun eA =>
  .ar fun kl h4 =>
  .ar fun gp hE =>
  .aZ fun gA =>
  .aZ fun fl =>
  .ret (let ms:=(ek++([dY]:List aM));let pI:=(dn++[ek++([dY]:List aM)]);let vk:=AU (fJ .live 3 aO dn) (A5 eM 17 4 (dn.length+0) (hy aO ek dY) (A6 17 4 (dn.length+0)));let vl:=bP [0,1,13,2,27,5];let yN:=(aH++([(some (dn.length,ms.length))]:List bs));let vm:=aK 1 .live aP aI;let vn:=aK 3 .live eM bH;let yO:=bP [0,1,17,2,3,4,5];let yP:=bP [0,1,2,3,4,5,6];let vo:=R (aF+ag);let yQ:=(aI++([vo]:List Int));let B7:=bP [0,1,4,3,5,6];bj (t1.append [.aa false,(J 2),.az (br 2 (bt 2 (.isl 1 (ck.map eI)) false) 2),.aL [0,1,17,2,3,4,5] [.box [.id,.id,.id,.id,.id],.box [.id,.id,.id,.id],.cO (av 3 aO ([]:List aM)),.bG (av 1 (bb 4 0 3) aH),.bG (b2 3 aO dn),.pure,.pure] [(1,ii),(3,ii),(5,ii),(6,ii),(7,f5 (([]:List aM).length)),(53,ii),(54,ii),(55,ii)],(Gn ag ck (len_ eI ck) aG aF bq c9 dd bM aH dn aI bH c0).ff,(J 1),.aL [0,1,2,3,4,5,6] [.box [.id,.id,.id,.id,.id],.box [.id,.id,.id,.id],.pure,.bG (av 1 (bb 4 0 3) aH),.bG (b2 3 aO dn),.pure,.pure] (ba [1,3,5,6,7,10]),(Gp ag aG aF bq c9 dd bM aH dn aI bH ek).ff,.az (aj 6 (an (.b7 (eI aD)) (aj 1 (an (bt 1 (.agg (aO dY)) false) (br 1 (.tE 4 (dn.length+0) (.aJ (ms.length))) 1))))),.az (br 1 (.gj (ab.mk 3 (kl.map aO) .live) []) 1),.aL [0,1,4,3,5,6] [.box [.id,.id,.id,.id,.id],.box [.id,.id,.id,.id],.bG (b2 3 aO pI),.bG (av 1 (bb 2 0 3) aH),.pure,.pure] (ba [1,3,5,7,93,94]),(CU ag dn.length (ms.length) ((ms.length:Nat):Int) aG aF bq c9 dd bM pI aH aI gp).ff,.az (aj 6 (an (.j8 133 (kT 2 0 3 (some (dn.length,ms.length))) .none) (an (.aJ (yN.length)) (aj 3 [])))),.az (br 10 (.aJ (yQ.length)) 3),(J 3),.aL [0,1,13,2,27,5] [.box [.id,.id,.id,.id,.id],.box [.id,.id,.id,.id],.bG (av 1 (bb 3 0 3) yN),.bG (b2 3 aO pI),.cO (av 1 eI yQ),.pure] (ba [1,3,5])]) (aQ.aJ (.bl aA (N3 ck bd) (db 3 .live (show []=(([]:List aM)).map aO from rfl)) (aK 3 .live eM ([]:List aM)) (ex yO 4 3 0 3 rfl aH) (dz yO 3 fi dn) vm vn (.bl (fK aM) (Vc cy) (aK 3 .live eM c0) (ex yP 4 4 0 3 rfl aH) (dz yP 3 fi dn) vm vn (Vd eW) (.bl o.1 (cQ eI o.2) (bX eI au) (rU dY ez) (ha aO dY) (ho aO ek) (gR aO ek dY) eA (.bl (congrArg (· + 0) (Ef (fJ .live 3 aO dn) rfl)) (j5 vk ix h4) (mn (ca:=B7) vk (lP fi)) (ex B7 2 4 0 3 rfl aH) vm vn (M7 hE) (.s2 2 0 3 dn.length (ms.length):ki (.bm 2 (dn.length+0) 0 (ms.length)) (kT 2 0 3 (some (dn.length,ms.length)))) (.bl (ha (bb 2 0 3) (some (dn.length,ms.length))) (ho (bb 2 0 3) aH) (gR (bb 2 0 3) aH (some (dn.length,ms.length))) gA (ha eI vo) (ho eI aI) (gR eI aI vo) fl (.dw (c5 (qv (ca:=vl) 1 .live (bb 3 0 3) (hy (bb 2 0 3) aH (some (dn.length,ms.length))) (rF (rfl:vl 2=some 3))) (o8 (ca:=vl))) (dz vl 3 fi pI) (db 1 .live (hy eI aI vo)) (aK 1 .live aP yQ) (aK 3 .live eM gp))))))))))))
  (fun h1 =>
  .ret (bj [(J 4),.aa false,.aL [1,2,3,4,5] [.box [.id,.id,.id,.id],.bG (av 1 (bb 2 0 3) aH),.bG (b2 3 aO dn),.pure,.pure] (ba [3])] (.dw h1 (ex (bP [1,2,3,4,5]) 2 3 0 3 rfl aH) (dz (bP [1,2,3,4,5]) 3 fi dn) (aK 1 .live aP aI) (aK 3 .live eM bH))))
theorem Ve {aG aF:Int}{bq c9 dd:List Int}{bM ag:Int}{aH:List bs}{dn:List (List aM)}{aI:List Int}{bH:List aM}{r} (h:HR aG aF bq c9 dd bM ag aH dn aI bH=some r):dQ bc 152 0 39 [1,1,1,0,1,0,0] (F9 aG aF bq c9 dd bM) (Gq aG aF bq c9 dd bM) (ag,aH,dn,aI,bH) r:=dR (fun _=>TW) h
def zw (cd:hz):Option (Int×(List bs)×(List Int)×(List aM)×(List (List aM))) :=
 Im cd.fq cd.ec cd.dF cd.ei cd.hL (R (cd.ec+cd.fq)) 0 ([]:List aM) >>= fun r1 =>
 HR cd.fq cd.ec cd.dF cd.ei cd.hL (R (cd.ec+cd.fq)) 0 ([]:List bs) ([]:List (List aM)) ([]:List Int) r1 >>= fun bk =>
 some (R (cd.ec+cd.fq),bk.1,bk.2.2.1,bk.2.2.2,bk.2.1)
theorem Wd {cd:hz}:bB (zw cd) (fun a=>Con bc 39 [.agg (nR cd)] [] (.ref 0 0 0 0) [(ab.mk 4 [(dT a.1 0 1 0 a.2.1.length 0 2 0 a.2.2.1.length 0 3 0 a.2.2.2.1.length)] .live::ab.mk 1 (a.2.1.map (bb 0 4 3)) .live::ab.mk 1 (a.2.2.1.map eI) .live::ab.mk 3 (a.2.2.2.1.map aO) .live::(b2 3 aO a.2.2.2.2))]):=by
 unfold zw
 exact .ar fun r1 o =>
  .ar fun bk au =>
  .ret (let q1:=bP [0,1,4,5,6,2];let a1:=b2 3 aO bk.2.1;let b0:=R (cd.ec+cd.fq);let ct:=av 1 (bb 0 4 3) bk.1;lE [(J 2),(J 8),(J 1),.tx 8 3 3,.aL [0,8,11] [.box [.id,.id,.id,.id,.id],.box [.id,.id,.id,.len (([]:List aM).length)],.cO (av 3 aO ([]:List aM))] (ba [1,3,4]),(GD cd.fq cd.ec cd.dF cd.ei cd.hL b0 r1).ff,(J 1),.tx 1 1 1,.EN,.tx 1 2 1,.aL [0,1,4,5,6,2] [.box [.id,.id,.id,.id,.id],.box [.id,.len (([]:List bs).length),.len (([]:List Int).length),.id],.bG (av 1 (bb 3 0 3) ([]:List bs)),.bG (b2 3 aO ([]:List (List aM))),.cO (av 1 eI ([]:List Int)),.pure] (ba [1,3,5]),(Gq cd.fq cd.ec cd.dF cd.ei cd.hL b0 bk).ff,(J 2),.B0 [{bE:=[(0,0),(1,0),(3,0),(4,0)],iE:=some (2,0)}] [([.box [.id,.at_ 0 1 bk.1.length,.at_ 0 2 bk.2.2.1.length,.at_ 0 3 bk.2.2.2.length],.rx ct,.pure,.pure],some (.rx a1))] [(2,.bx (.dM (.at_ 0 0 0)))]] [0] [.bG (ab.mk 4 [(dT b0 0 1 0 bk.1.length 0 2 0 bk.2.2.1.length 0 3 0 bk.2.2.2.length)] .live::ab.mk 1 (bk.1.map (bb 0 4 3)) .live::ab.mk 1 (bk.2.2.1.map eI) .live::ab.mk 3 (bk.2.2.2.map aO) .live::a1)] (.bl (fK aM) (db 3 .live (pP aO)) (aK 3 .live eM ([]:List aM)) (Vt o) (fK bs) (fK Int) (c5 (qv (ca:=q1) 1 .live (bb 3 0 3) (pP (bb 5 0 3)) (rF (rfl:q1 5=some 3))) (o8 (ca:=q1))) (mn (ca:=q1) (KJ .live 3 aO) (lP fi)) (.bl (db 1 .live (pP eI)) (aK 1 .live aP ([]:List Int)) (aK 3 .live eM r1) (Ve au) (rfl:(kG [{bE:=[(0,0),(1,0),(3,0),(4,0)],iE:=some (2,0)}]) 0 1=some (1,0)) (rfl:bk.1.length=bk.1.length) (rfl:(kG [{bE:=[(0,0),(1,0),(3,0),(4,0)],iE:=some (2,0)}]) 0 2=some (3,0)) (rfl:bk.2.2.1.length=bk.2.2.1.length) (.gU (rfl:(kG [{bE:=[(0,0),(1,0),(3,0),(4,0)],iE:=some (2,0)}]) 0 3=some (4,0)) (rfl:bk.2.2.2.length=bk.2.2.2.length) (Qk (KZ (j9:=(bb 0 4 3)) (cY (bb 2 0 3) bk.1) (fun _=>rfl) (fun x=>(Rh (fun _=>rfl)) x)) QM:rK (kG [{bE:=[(0,0),(1,0),(3,0),(4,0)],iE:=some (2,0)}]) (av 1 (bb 2 0 3) bk.1) ct) (aK 1 .live aP bk.2.2.1) (aK 3 .live eM bk.2.2.2) (Qm (fJ .live 3 aO bk.2.1) (fun _=>rfl) fi:rK (kG [{bE:=[(0,0),(1,0),(3,0),(4,0)],iE:=some (2,0)}]) a1 a1) (rfl:(kG [{bE:=[(0,0),(1,0),(3,0),(4,0)],iE:=some (2,0)}]) 0 0=some (0,0)) (c5 (show ab.mk 4 [(dT (R (cd.ec+cd.fq)) 0 1 0 bk.1.length 0 2 0 bk.2.2.1.length 0 3 0 bk.2.2.2.length)] .live=gG (bP [0]) (ab.mk 4 [(dT (R (cd.ec+cd.fq)) 0 1 0 bk.1.length 0 2 0 bk.2.2.1.length 0 3 0 bk.2.2.2.length)] .live) from rfl) (c5 (ka (bP [0]) 0 0 4 3 rfl bk.1) (c5 (f6 (bP [0]) 1 jq bk.2.2.1) (c5 (f6 (bP [0]) 3 fi bk.2.2.2) (dz (bP [0]) 3 fi bk.2.1)))))))))
def GX (bR:Int)(c7:List Int)(cx:Int):Int→S:=fun c2=>dr [(1,.n .i64 bR),(10,.isl 1 (c7.map eI)),(11,.n .i64 cx),(12,.n .i64 c2)] []
def Na (bR:Int)(c7:List Int)(cx:Int):((Unit)⊕(Unit))→du
 | .inl a=>⟨some 0,[],[]⟩
 | .inr a=>⟨none,[(4,.b true)],[]⟩
def zg (bR:Int)(c7:List Int)(cx c2:Int):Option ((Int)⊕((Unit)⊕(Unit))) :=
 if (decide (c2<cx))=true then
  if 0≤c2∧c2<c7.length then
  c7[c2.toNat]? >>= fun aD =>
  if (aD == bR)=true then
   some (.inr (.inr ()))
  else
   some (.inl (R (c2+(1:Int))))
  else none
 else
  some (.inr (.inl ()))
def C6 (bR:Int)(c7:List Int)(cx c2:Int):Option ((Unit)⊕(Unit)):=iter (fun w:Int=>zg bR c7 cx w) c2
theorem Uy {bR:Int}{c7:List Int}{cx c2:Int}:bB (zg bR c7 cx c2) (dP bc 20 0 62 [1,0,1,0,0] (GX bR c7 cx c2) (GX bR c7 cx) (Na bR c7 cx)):=by
 unfold zg
 exact .ite (fun h1 =>
  .aZ fun o =>
  .ar fun aD au =>
  (let t1:List bY:=[(J 1),.aa true,.az (br 1 (.b7 (eI aD)) 1),(J 3)];
  have aQ:=((.de h1 o.1 (cQ eI o.2) (bX eI au)):cz _);
  .ite (fun aA =>
  .ret (bj (t1.append [.aa true,(J 1),.aL [] [] (ba [4])]) (aQ.aJ (.e1 aA))))
  (fun aA =>
  .ret (bj (t1.append [.aa false,(J 2),.aL [] [] (ba [1,10,11,12])]) (aQ.aJ (.e1 aA))))))
  (fun h1 =>
  .ret (bj [(J 1),.aa false,.aL [] [] []] (.e1 h1)))
theorem Nk {bR:Int}{c7:List Int}{cx c2:Int}{r} (h:C6 bR c7 cx c2=some r):dQ bc 20 0 62 [1,0,1,0,0] (GX bR c7 cx) (Na bR c7 cx) c2 r:=dR (fun _=>Uy) h
def zQ (hg:pt)(bR:Int):Option Bool :=
 C6 bR hg.rD (len_ eI hg.rD) 0 >>= fun r1 =>
 match r1 with
 | .inl dp=>(some false)
 | .inr dp=>(some true)
theorem WU {hg:pt}{bR:Int}:bB (zQ hg bR) (fun r=>Con bc 62 [.d6 4 [(uA hg)] 0 0,.n .i64 bR] [] (.b r) []):=by
 unfold zQ
 exact .ar fun r1 o =>
  (let t1:List bY:=[(J 1),(J 6),.aL [] [] (ba [1,10,11,12])];
  (by
  rcases r1 with dp|dp
  ·exact (.ret (bu (t1.append [.sub (.exit 0) [] [],(J 1)]) (.e1 (Nk o))))
  ·exact (.ret (bu (t1.append [.sub (.ret) [(4,.b true)] []]) (.e1 (Nk o))))))
def zR (dc:bp):Option Bool :=
 r3 dc.cH >>= fun r1 =>
 if r1=true then
  if dc.cR=true then
   some (decide ((0:Int)<(len_ eI dc.cH)))
  else
   some true
 else
  some false
theorem WV {dc:bp}:bB (zR dc) (fun r=>Con bc 92 [.agg (aY dc)] [] (.b r) []):=by
 unfold zR
 exact .ar fun r1 o =>
  (have cb:=((.aE (JF r1 o) (cc.b r1)):cz _);
  .ite (fun ae =>
  .ite (fun au =>
  .ret (bu [(J 2),.az (aj 2 (an (bt 1 (.b r1) true) (aj 9 (an (.aa false) (an (.aa true) (aj 1 []))))))] (cb.aJ (.bl ae ae ae ae (c1 au) (c1 au) (c1 au) (c1 au) (.bT ae (c1 au) ae)))))
  (fun au =>
  .ret (bu [(J 2),.az (aj 2 (an (bt 1 (.b r1) true) (aj 5 (cD 4 (an (.aa true) (an (.aa true) (aj 1 [])))))))] (cb.aJ (.bl ae ae ae ae (cW au) (cW au) (cW au) (cW au) (.bT ae (cW au) ae))))))
  (fun ae =>
  .ret (bu [(J 2),.az (aj 2 (an (bt 1 (.b r1) true) (aj 1 (cD 4 (aj 4 (cD 1 (an (.aa false) (aj 1 []))))))))] (cb.aJ (.d9 ae ae ae ae ae ae)))))
def sZ (bV:aM):Option Bool :=
 zR bV.fs >>= fun r1 =>
 if r1=true then
  r3 bV.hC >>= fun bg =>
  if bg=true then
   if ((len_ eI bV.hC) == (0:Int))=true then
    some false
   else
    if (decide ((24:Int)<(len_ eI bV.hC)))=true then
     some false
    else
     if (decide ((24:Int)<(len_ eI bV.fs.cH)))=true then
      some false
     else
      xD bV.fs.cH bV.hC >>= fun ek =>
      qB ek >>= fun dY =>
      some dY
  else
   some false
 else
  some false
theorem JG {bV:aM}:bB (sZ bV) (fun r=>Con bc 66 [.agg (aO bV)] [] (.b r) []):=by
 unfold sZ
 exact .ar fun r1 o =>
  (have cb:=((.aE (WV r1 o) (cc.b r1)):cz _);
  .ite (fun ae =>
  .ar fun bg aA =>
  (have aQ:=cb.aJ (.eX (c1 ae) (c1 ae) (c1 ae) (JF bg aA) (cc.b bg) (c1 ae) (c1 ae));
  .ite (fun a2 =>
  (have fH:=aQ.aJ (.dw (c1 a2) (c1 a2) (c1 a2) (c1 a2) (c1 a2));
  .ite (fun bd =>
  .ret (bu [(J 2),.az (aj 2 (an (bt 1 (.b r1) true) (aj 4 (an (bt 1 (.b bg) true) (aj 1 (an (.aa false) (aj 5 (an (.aa false) (aj 1 (cD 4 (an (.aa true) (aj 1 (cD 5 (aj 1 [])))))))))))))),.aa true,(J 1)] (fH.aJ (.bl bd bd bd bd bd cJ cJ cJ (.bT cJ cJ cJ)))))
  (fun bd =>
  .ite (fun bn =>
  .ret (bu [(J 2),.az (aj 2 (an (bt 1 (.b r1) true) (aj 4 (an (bt 1 (.b bg) true) (aj 1 (an (.aa false) (aj 5 (an (.aa false) (aj 5 (an (.aa false) (aj 1 (cD 5 (an (.aa true) []))))))))))))),.aa true,(J 1)] (fH.aJ (.bl bd bd bd bd bd bn bn bn (.de bn bn bn cJ)))))
  (fun bn =>
  (let t4:List bY:=[(J 2),.az (aj 2 (an (bt 1 (.b r1) true) (aj 4 (an (bt 1 (.b bg) true) (aj 1 (an (.aa false) (aj 5 (an (.aa false) (aj 5 (an (.aa false) (aj 6 (an (.aa false) []))))))))))))];
  have mj:=fH.aJ (.bl bd bd bd bd bd bn bn bn (.bT bn bn bn));
  .ite (fun cy =>
  .ret (bu (t4.append [.aa true,(J 1)]) (mj.aJ (.e1 cy))))
  (fun cy =>
  .ar fun ek eW =>
  .ar fun dY ez =>
  .ret (bu (t4.append [.aa false,.az (aj 5 (an (bt 2 (.isl 1 (ek.map eI)) false) (an (bt 1 (.b dY) true) (aj 1 []))))]) (mj.aJ (.de cy (N4 ek eW) (zF dY ez) (cc.b dY))))))))))
  (fun a2 =>
  .ret (bu [(J 2),.az (aj 2 (an (bt 1 (.b r1) true) (aj 4 (an (bt 1 (.b bg) true) (aj 1 (an (.aa false) (aj 1 (cD 4 (an (.aa true) (aj 1 (cD 4 (aj 2 (cD 5 (aj 1 [])))))))))))))),.aa true,(J 1)] (aQ.aJ (.bl (cW a2) (cW a2) (cW a2) (cW a2) (cW a2) cJ cJ cJ (.eX cJ cJ cJ cJ cJ cJ cJ)))))))
  (fun ae =>
  .ret (bu [(J 2),.az (aj 2 (an (bt 1 (.b r1) true) (aj 2 (cD 4 (an (.aa true) (aj 1 (cD 4 (aj 2 (cD 4 (aj 2 (cD 5 (aj 1 [])))))))))))),.aa true,(J 1)] (cb.aJ (.bl (cW ae) (cW ae) (cW ae) (cW ae) (cW ae) cJ cJ cJ (.bl cJ cJ cJ cJ cJ cJ cJ cJ (.bT cJ cJ cJ)))))))
def p2 (bV:aM):Option Int :=
 sZ bV >>= fun r1 =>
 if r1=true then
  if ((len_ eI bV.fs.cH) == (0:Int))=true then
   some 0
  else
   if bV.fs.cR=true then
    some (-1)
   else
    some 1
 else
  some 0
theorem sT {bV:aM}:bB (p2 bV) (fun r=>Con bc 41 [.agg (aO bV)] [] (.n .i64 r) []):=by
 unfold p2
 exact .ar fun r1 o =>
  (have cb:=((.aE (JG r1 o) (cc.b r1)):cz _);
  .ite (fun ae =>
  (let t2:List bY:=[(J 2),.az (aj 1 (an (bt 1 (.b r1) true) (br 7 (.aa false) 1)))];
  have fH:=cb.aJ (.d9 (c1 ae) (c1 ae) (c1 ae) (c1 ae) (c1 ae) (c1 ae));
  .ite (fun au =>
  .ret (bu (t2.append [.aa true,(J 1)]) (fH.aJ (.e1 au))))
  (fun au =>
  .ite (fun aA =>
  .ret (bu (t2.append [.aa false,(J 4),.aa true,(J 1)]) (fH.aJ (.aE au aA))))
  (fun aA =>
  .ret (bu (t2.append [.aa false,(J 4),.aa false,(J 1)]) (fH.aJ (.aE au aA)))))))
  (fun ae =>
  .ret (bu [(J 2),.az (aj 1 (an (bt 1 (.b r1) true) (aj 2 (cD 5 (an (.aa true) (aj 1 [])))))),.aa true,(J 1)] (cb.aJ (.eX (cW ae) (cW ae) (cW ae) (cW ae) (cW ae) (cW ae) cJ)))))
def Hf (eH:Int)(eT:List (List aM))(eG:List Int)(eJ:List aM)(bR:Int)(e9:Bool)(bw oD:Int):(Int×Int)→S:=fun (aN,mK)=>dr [(0,.d6 4 [[.n .i64 eH,.isl 1 (eT.map (eL 3 aO)),.isl 1 (eG.map eI),.isl 3 (eJ.map aO)]] 0 0),(1,.n .i64 bR),(2,.b e9),(7,.n .i64 aN),(8,.n .i64 bw),(40,.isl 1 (eG.map eI)),(41,.n .i64 oD),(42,.n .i64 mK)] []
def HS (eH:Int)(eT:List (List aM))(eG:List Int)(eJ:List aM)(bR:Int)(e9:Bool)(bw oD:Int):Int→du
 | a=>⟨some 2,[(0,.d6 4 [[.n .i64 eH,.isl 1 (eT.map (eL 3 aO)),.isl 1 (eG.map eI),.isl 3 (eJ.map aO)]] 0 0),(1,.n .i64 bR),(2,.b e9),(7,.n .i64 a),(8,.n .i64 bw)],[]⟩
def Hg (eH:Int)(eT:List (List aM))(eG:List Int)(eJ:List aM)(bR:Int)(e9:Bool)(bw oD aN mK:Int):Option ((Int×Int)⊕(Int)) :=
 if (decide (mK<oD))=true then
  if 0≤mK∧mK<eG.length then
  eG[mK.toNat]? >>= fun aD =>
  if (aD == bw)=true then
   if 0≤mK∧mK<eT.length then
   eT[mK.toNat]? >>= fun eS =>
   if 0≤bR∧bR<eS.length then
   eS[bR.toNat]? >>= fun iZ =>
   p2 iZ >>= fun dY =>
   some (.inl (dY,R (mK+(1:Int))))
   else none
   else none
  else
   some (.inl (aN,R (mK+(1:Int))))
  else none
 else
  some (.inr aN)
def NS (eH:Int)(eT:List (List aM))(eG:List Int)(eJ:List aM)(bR:Int)(e9:Bool)(bw oD aN mK:Int):Option (Int):=iter (fun w:Int×Int=>Hg eH eT eG eJ bR e9 bw oD w.1 w.2) (aN,mK)
theorem UK {eH:Int}{eT:List (List aM)}{eG:List Int}{eJ:List aM}{bR:Int}{e9:Bool}{bw oD aN mK:Int}:bB (Hg eH eT eG eJ bR e9 bw oD aN mK) (dP bc 63 0 63 [1,1,0,1,0,0,1,0,0,1,1,0,0] (Hf eH eT eG eJ bR e9 bw oD (aN,mK)) (Hf eH eT eG eJ bR e9 bw oD) (HS eH eT eG eJ bR e9 bw oD)):=by
 unfold Hg
 exact .ite (fun h1 =>
  .aZ fun o =>
  .ar fun aD au =>
  (let t1:List bY:=[(J 1),.aa true,.az (br 2 (.b7 (eI aD)) 2),(J 3)];
  have aQ:=((.de h1 o.1 (cQ eI o.2) (bX eI au)):cz _);
  .ite (fun aA =>
  .aZ fun a2 =>
  .ar fun eS bn =>
  .aZ fun cy =>
  .ar fun iZ eW =>
  .ar fun dY ez =>
  .ret (bj (t1.append [.aa true,.az (aj 6 (an (.b7 ((eL 3 aO) eS)) (aj 2 (an (.b7 (aO iZ)) (an (bt 1 (.n .i64 dY) true) (aj 1 [])))))),(J 2),.aL [] [] (ba [0,1,2,7,8,40,41,42])]) (aQ.aJ (.bl aA a2.1 (cQ (eL 3 aO) a2.2) (bX (eL 3 aO) bn) cy.1 (cQ aO cy.2) (bX aO eW) (sT dY ez) (.e1 (cc.n .i64 dY))))))
  (fun aA =>
  .ret (bj (t1.append [.aa false,(J 2),.aL [] [] (ba [0,1,2,7,8,40,41,42])]) (aQ.aJ (.e1 aA))))))
  (fun h1 =>
  .ret (bj [(J 1),.aa false,.aL [] [] (ba [0,1,2,7,8])] (.e1 h1)))
theorem We {eH:Int}{eT:List (List aM)}{eG:List Int}{eJ:List aM}{bR:Int}{e9:Bool}{bw oD aN mK:Int}{r} (h:NS eH eT eG eJ bR e9 bw oD aN mK=some r):dQ bc 63 0 63 [1,1,0,1,0,0,1,0,0,1,1,0,0] (Hf eH eT eG eJ bR e9 bw oD) (HS eH eT eG eJ bR e9 bw oD) (aN,mK) r:=dR (fun _=>UK) h
def Hh (eH:Int)(eT:List (List aM))(eG:List Int)(eJ:List aM)(bR:Int)(e9:Bool):(Int×Int)→S:=fun (aN,bw)=>dr [(0,.d6 4 [[.n .i64 eH,.isl 1 (eT.map (eL 3 aO)),.isl 1 (eG.map eI),.isl 3 (eJ.map aO)]] 0 0),(1,.n .i64 bR),(2,.b e9),(7,.n .i64 aN),(8,.n .i64 bw)] []
def Nl (eH:Int)(eT:List (List aM))(eG:List Int)(eJ:List aM)(bR:Int)(e9:Bool):((Int)⊕(Unit))→du
 | .inl a=>⟨some 0,[(7,.n .i64 a)],[]⟩
 | .inr a=>⟨none,[(6,.n .i64 (-1:Int))],[]⟩
def zj (eH:Int)(eT:List (List aM))(eG:List Int)(eJ:List aM)(bR:Int)(e9:Bool)(aN bw:Int):Option ((Int×Int)⊕((Int)⊕(Unit))) :=
 if (aN == (0:Int))=true then
  if e9=true then
   if (decide (bw<eH))=true then
    if (bw == bR)=true then
     some (.inr (.inr ()))
    else
     NS eH eT eG eJ bR e9 bw (len_ eI eG) aN 0 >>= fun aU =>
     some (.inl (aU,R (bw+(1:Int))))
   else
    some (.inr (.inl aN))
  else
   some (.inr (.inl aN))
 else
  some (.inr (.inl aN))
def Jd (eH:Int)(eT:List (List aM))(eG:List Int)(eJ:List aM)(bR:Int)(e9:Bool)(aN bw:Int):Option ((Int)⊕(Unit)):=iter (fun w:Int×Int=>zj eH eT eG eJ bR e9 w.1 w.2) (aN,bw)
theorem UL {eH:Int}{eT:List (List aM)}{eG:List Int}{eJ:List aM}{bR:Int}{e9:Bool}{aN bw:Int}:bB (zj eH eT eG eJ bR e9 aN bw) (dP bc 63 0 63 [1,1,0,1,0,0] (Hh eH eT eG eJ bR e9 (aN,bw)) (Hh eH eT eG eJ bR e9) (Nl eH eT eG eJ bR e9)):=by
 unfold zj
 exact .ite (fun h1 =>
  .ite (fun o =>
  (let t1:List bY:=[.az (aj 4 (an (.aa true) (aj 7 (an (.aa true) []))))];
  have aQ:=((.bl h1 h1 o o o o o o (.e1 o)):cz _);
  .ite (fun ae =>
  .ite (fun au =>
  .ret (bj (t1.append [.aa true,(J 3),.aa true,(J 1),.aL [] [] (ba [6])]) (aQ.aJ (.aE ae au))))
  (fun au =>
  .ar fun aU a2 =>
  .ret (bj (t1.append [.aa true,(J 3),.aa false,(J 6),.aL [] [] (ba [0,1,2,7,8,40,41,42]),(HS eH eT eG eJ bR e9 bw (len_ eI eG) aU).ff,(J 3),.aL [] [] (ba [0,1,2,7,8])]) (aQ.aJ (.bT ae au (We a2))))))
  (fun ae =>
  .ret (bj (t1.append [.aa false,.aL [] [] (ba [7])]) (aQ.aJ (.e1 ae))))))
  (fun o =>
  .ret (bj [.az (aj 4 (an (.aa true) (aj 1 (cD 6 (an (.aa false) []))))),.aa false,.aL [] [] (ba [7])] (.bl h1 h1 o o o o o o (.aE o c6)))))
  (fun h1 =>
  .ret (bj [.az (aj 3 (cD 1 (an (.aa false) (aj 1 (cD 6 (aj 1 [])))))),.aa false,.aL [] [] (ba [7])] (.bl h1 h1 c6 c6 c6 c6 c6 c6 (.e1 c6))))
theorem Nx {eH:Int}{eT:List (List aM)}{eG:List Int}{eJ:List aM}{bR:Int}{e9:Bool}{aN bw:Int}{r} (h:Jd eH eT eG eJ bR e9 aN bw=some r):dQ bc 63 0 63 [1,1,0,1,0,0] (Hh eH eT eG eJ bR e9) (Nl eH eT eG eJ bR e9) (aN,bw) r:=dR (fun _=>UL) h
def uk (hg:pt)(bR:Int)(e9:Bool):Option Int :=
 if 0≤bR∧bR<hg.Ba.length then
 hg.Ba[bR.toNat]? >>= fun d8 =>
 p2 d8 >>= fun bg =>
 Jd hg.Mz hg.so hg.rD hg.Ba bR e9 bg 0 >>= fun ck =>
 match ck with
 | .inl k6=>(some k6)
 | .inr k6=>(some (-1))
 else none
theorem Xh {hg:pt}{bR:Int}{e9:Bool}:bB (uk hg bR e9) (fun r=>Con bc 63 [.d6 4 [(uA hg)] 0 0,.n .i64 bR,.b e9] [] (.n .i64 r) []):=by
 unfold uk
 exact .aZ fun h1 =>
  .ar fun d8 ae =>
  .ar fun bg aA =>
  .ar fun ck bd =>
  (let t1:List bY:=[(J 1),.az (aj 6 (an (.b7 (aO d8)) (an (bt 1 (.n .i64 bg) true) (aj 1 [])))),(J 1),.aL [] [] (ba [0,1,2,7,8])];
  have aQ:=((.dw h1.1 (cQ aO h1.2) (bX aO ae) (sT bg aA) (cc.n .i64 bg)):cz _);
  (by
  rcases ck with k6|k6
  ·exact (.ret (bu (t1.append [.sub (.exit 0) [(7,.n .i64 k6)] [],(J 2)]) (aQ.aJ (.e1 (Nx bd)))))
  ·exact (.ret (bu (t1.append [.sub (.ret) [(6,.n .i64 (-1:Int))] []]) (aQ.aJ (.e1 (Nx bd)))))))
def us (bV aN:aM):Option aM :=
 sZ bV >>= fun r1 =>
 if r1=true then
  sZ aN >>= fun bg =>
  if bg=true then
   hN bV.fs.cH aN.hC >>= fun bJ =>
   hN bV.hC aN.fs.cH >>= fun bz =>
   nP (!(bV.fs.cR == aN.fs.cR)) bJ bz >>= fun di =>
   some di
  else
   some (⟨(⟨false,([]:List Int)⟩:bp),([]:List Int)⟩:aM)
 else
  some (⟨(⟨false,([]:List Int)⟩:bp),([]:List Int)⟩:aM)
theorem N5 {bV aN:aM}:bB (us bV aN) (fun r=>Con bc 89 [.agg (aO bV),.agg (aO aN)] [] (.agg (aO r)) []):=by
 unfold us
 exact .ar fun r1 o =>
  (have cb:=((.aE (JG r1 o) (cc.b r1)):cz _);
  .ite (fun ae =>
  .ar fun bg aA =>
  (let t2:List bY:=[(J 3),.az (aj 1 (an (bt 1 (.b r1) true) (aj 3 (an (bt 1 (.b bg) true) (aj 1 (an (.aa false) []))))))];
  have fH:=cb.aJ (.d9 (c1 ae) (c1 ae) (JG bg aA) (cc.b bg) (c1 ae) (c1 ae));
  .ite (fun a2 =>
  .ar fun bJ bn =>
  .ar fun bz cN =>
  .ar fun di e6 =>
  .ret (bu (t2.append [.aa false,.az (aj 12 (an (bt 2 (.isl 1 (bJ.map eI)) false) (aj 5 (an (bt 2 (.isl 1 (bz.map eI)) false) (an (bt 3 (.agg (aO di)) false) (aj 1 []))))))]) (fH.aJ (.de (c1 a2) (o2 bJ bn) (o2 bz cN) (zH di e6)))))
  (fun a2 =>
  .ret (bu (t2.append [.aa true,(J 2)]) (fH.aJ (.e1 (cW a2))) (.bx (.agg [.id,.j2 1,.j2 1]))))))
  (fun ae =>
  .ret (bu [(J 3),.az (aj 1 (an (bt 1 (.b r1) true) (aj 2 (cD 3 (an (.aa true) []))))),.aa true,(J 2)] (cb.aJ (.dw (cW ae) (cW ae) (cW ae) (cW ae) cJ)) (.bx (.agg [.id,.j2 1,.j2 1])))))
def Ab (dc ew:bp):Option Int :=
 if dc.cR=true then
  if ew.cR=true then
   p3 ew.cH dc.cH >>= fun bk =>
   some bk
  else
   some (-1)
 else
  if ew.cR=true then
   some 1
  else
   p3 dc.cH ew.cH >>= fun bk =>
   some bk
theorem XD {dc ew:bp}:bB (Ab dc ew) (fun r=>Con bc 111 [.agg (aY dc),.agg (aY ew)] [] (.n .i64 r) []):=by
 unfold Ab
 exact .ite (fun h1 =>
  (let t1:List bY:=[(J 3),.az (br 6 (.aa true) 1)];
  .ite (fun o =>
  .ar fun bk au =>
  .ret (bu (t1.append [.aa false,.az (aj 4 (cD 2 (an (.aa false) (aj 1 [])))),.aa false,(J 3),.aa true,.az (br 4 (bt 2 (.n .i64 bk) true) 1)]) (.bl h1 h1 h1 h1 (c1 o) (c1 h1) (c1 h1) (c1 h1) (.de c6 h1 (xp bk au) (cc.n .i64 bk)))))
  (fun o =>
  .ret (bu (t1.append [.aa true,(J 1)]) (.dw h1 h1 h1 h1 (cW o))))))
  (fun h1 =>
  (let t1:List bY:=[(J 3),.az (aj 3 (cD 3 (an (.aa false) (aj 1 [])))),.aa false,.az (br 6 (.aa true) 1)];
  have aQ:=((.gU h1 h1 h1 h1 c6 (cW h1) (cW h1) (cW h1)):cz _);
  .ite (fun o =>
  .ret (bu (t1.append [.aa true,(J 1)]) (aQ.aJ (.e1 o))))
  (fun o =>
  .ar fun bk au =>
  .ret (bu (t1.append [.aa false,(J 3),.aa false,.az (br 4 (bt 2 (.n .i64 bk) true) 1)]) (aQ.aJ (.de o h1 (xp bk au) (cc.n .i64 bk)))))))
def uu (bV aN:aM):Option Int :=
 hN bV.fs.cH aN.hC >>= fun r1 =>
 hS bV.fs.cR r1 >>= fun bk =>
 hN aN.fs.cH bV.hC >>= fun aU =>
 hS aN.fs.cR aU >>= fun bJ =>
 Ab bk bJ >>= fun bz =>
 some bz
theorem N6 {bV aN:aM}:bB (uu bV aN) (fun r=>Con bc 90 [.agg (aO bV),.agg (aO aN)] [] (.n .i64 r) []):=by
 unfold uu
 exact .ar fun r1 o =>
  .ar fun bk au =>
  .ar fun aU a2 =>
  .ar fun bJ bn =>
  .ar fun bz cN =>
  .ret (bu [(J 3),.az (aj 8 (an (bt 2 (.isl 1 (r1.map eI)) false) (an (bt 2 (.agg (aY bk)) false) (aj 8 (an (bt 2 (.isl 1 (aU.map eI)) false) (an (bt 2 (.agg (aY bJ)) false) (an (bt 2 (.n .i64 bz) true) (aj 1 []))))))))] (.d9 (o2 r1 o) (nO bk au) (o2 aU a2) (nO bJ bn) (XD bz cN) (cc.n .i64 bz)))
def GY (eH:Int)(eT:List (List aM))(eG:List Int)(eJ:List aM)(bR eN:Int):(Int×Int×Bool×(List Int)×(List Int))→S:=fun (h5,e5,aG,aF,bq)=>dr [(0,.d6 4 [[.n .i64 eH,.isl 1 (eT.map (eL 3 aO)),.isl 1 (eG.map eI),.isl 3 (eJ.map aO)]] 0 0),(1,.n .i64 bR),(5,.n .i64 h5),(6,.ref 0 0 0 0),(14,.isl 1 (eT.map (eL 3 aO))),(15,.n .i64 eN),(16,.n .i64 e5)] [[ab.mk 3 [[.b aG,.isl 1 (aF.map eI),.isl 1 (bq.map eI)]] .live]]
def Nb (eH:Int)(eT:List (List aM))(eG:List Int)(eJ:List aM)(bR eN:Int):Int→du
 | a=>⟨some 0,[(5,.n .i64 a)],[]⟩
def wM (eH:Int)(eT:List (List aM))(eG:List Int)(eJ:List aM)(bR eN h5 e5:Int)(aG:Bool)(aF bq:List Int):Option ((Int×Int×Bool×(List Int)×(List Int))⊕(Int)) :=
 if (decide (e5<eN))=true then
  if 0≤e5∧e5<eT.length then
  eT[e5.toNat]? >>= fun aD =>
  if 0≤bR∧bR<aD.length then
  aD[bR.toNat]? >>= fun cu =>
  p2 cu >>= fun c0 =>
  if (decide (c0≤(0:Int)))=true then
   some (.inl (h5,R (e5+(1:Int)),aG,aF,bq))
  else
   if 0≤(R ((len_ aO aD)-(1:Int)))∧(R ((len_ aO aD)-(1:Int)))<aD.length then
   aD[(R ((len_ aO aD)-(1:Int))).toNat]? >>= fun LY =>
   us LY cu >>= fun gd =>
   if (decide (h5<(0:Int)))=true then
    some (.inl (e5,R (e5+(1:Int)),gd.fs.cR,gd.fs.cH,gd.hC))
   else
    uu gd (⟨(⟨aG,aF⟩:bp),bq⟩:aM) >>= fun gp =>
    if (decide (gp<(0:Int)))=true then
     some (.inl (e5,R (e5+(1:Int)),gd.fs.cR,gd.fs.cH,gd.hC))
    else
     if (gp == (0:Int))=true then
      if 0≤e5∧e5<eG.length then
      eG[e5.toNat]? >>= fun LZ =>
      if 0≤h5∧h5<eG.length then
      eG[h5.toNat]? >>= fun L0 =>
      if (decide (LZ<L0))=true then
       some (.inl (e5,R (e5+(1:Int)),gd.fs.cR,gd.fs.cH,gd.hC))
      else
       some (.inl (h5,R (e5+(1:Int)),aG,aF,bq))
      else none
      else none
     else
      some (.inl (h5,R (e5+(1:Int)),aG,aF,bq))
   else none
  else none
  else none
 else
  some (.inr h5)
def IZ (eH:Int)(eT:List (List aM))(eG:List Int)(eJ:List aM)(bR eN h5 e5:Int)(aG:Bool)(aF bq:List Int):Option (Int):=iter (fun w:Int×Int×Bool×(List Int)×(List Int)=>wM eH eT eG eJ bR eN w.1 w.2.1 w.2.2.1 w.2.2.2.1 w.2.2.2.2) (h5,e5,aG,aF,bq)
theorem Uz {eH:Int}{eT:List (List aM)}{eG:List Int}{eJ:List aM}{bR eN h5 e5:Int}{aG:Bool}{aF bq:List Int}:bB (wM eH eT eG eJ bR eN h5 e5 aG aF bq) (dP bc 73 0 64 [1,1,1,0,1,0,0] (GY eH eT eG eJ bR eN (h5,e5,aG,aF,bq)) (GY eH eT eG eJ bR eN) (Nb eH eT eG eJ bR eN)):=by
 unfold wM
 exact .ite (fun h1 =>
  .aZ fun o =>
  .ar fun aD au =>
  .aZ fun aA =>
  .ar fun cu bd =>
  .ar fun c0 cy =>
  (let t1:List bY:=[(J 1),.aa true,.az (br 2 (.b7 ((eL 3 aO) aD)) 2),.az (aj 3 (an (.b7 (aO cu)) (an (bt 1 (.n .i64 c0) true) (aj 1 []))))];
  have aQ:=((.bl h1 o.1 (cQ (eL 3 aO) o.2) (bX (eL 3 aO) au) aA.1 (cQ aO aA.2) (bX aO bd) (sT c0 cy) (.e1 (cc.n .i64 c0))):cz _);
  .ite (fun cN =>
  .ret (bj (t1.append [.aa true,(J 2),.aL [0] [.box [.id,.id,.id]] (ba [0,1,5,6,14,15,16])]) (aQ.aJ (.e1 cN))))
  (fun cN =>
  .aZ fun eW =>
  .ar fun LY ez =>
  .ar fun gd fW =>
  (let t3:List bY:=t1.append [.aa false,.az (aj 5 (an (.b7 (aO LY)) (aj 3 (an (.b7 (aO cu)) (an (bt 2 (.agg (aO gd)) false) (aj 2 []))))))];
  have eR:=aQ.aJ (.gU cN eW.1 (cQ aO eW.2) (bX aO ez) aA.1 (cQ aO aA.2) (bX aO bd) (N5 gd fW));
  .ite (fun h4 =>
  .ret (bj (t3.append [.az (aj 3 (cD 4 (an (.aa true) (aj 1 (cD 5 (aj 15 (cD 1 (aj 1 [])))))))),.aa true,(J 2),(J 2),(J 2),.aL [0] [.box [.id,.id,.id]] (ba [0,1,5,6,14,15,16])]) (eR.aJ (.bl h4 h4 h4 h4 h4 cJ cJ cJ (.de cJ cJ cJ cJ)))))
  (fun h4 =>
  .ar fun gp hE =>
  (have mj:=eR.aJ (.eX h4 h4 h4 (N6 gp hE) (cc.n .i64 gp) h4 h4);
  .ite (fun gA =>
  .ret (bj (t3.append [.az (aj 5 (an (bt 2 (.n .i64 gp) true) (aj 1 (an (.aa false) (aj 1 (cD 5 (aj 15 (cD 1 (an (.aa true) []))))))))),.aa true,(J 2),(J 2),(J 2),.aL [0] [.box [.id,.id,.id]] (ba [0,1,5,6,14,15,16])]) (mj.aJ (.gU gA gA gA gA gA gA gA cJ))))
  (fun gA =>
  (have kK:=mj.aJ (.eX gA gA gA (N6 gp hE) (cc.n .i64 gp) gA gA);
  .ite (fun fl =>
  .aZ fun gO =>
  .ar fun LZ mZ =>
  .aZ fun yR =>
  .ar fun L0 B8 =>
  (let t7:List bY:=t3.append [.az (aj 5 (an (bt 2 (.n .i64 gp) true) (aj 1 (an (.aa false) (aj 3 (an (bt 2 (.n .i64 gp) true) (aj 8 (an (.b7 (eI LZ)) (aj 6 (an (.b7 (eI L0)) (aj 1 (an (.aa true) (an (.aa false) [])))))))))))))];
  have mB:=kK.aJ (.bl fl fl fl fl fl fl gO.1 (cQ eI gO.2) (.bl fl (bX eI mZ) fl fl fl fl fl fl (.gU yR.1 (cQ eI yR.2) fl (bX eI B8) fl gA fl gA)));
  .ite (fun sE =>
  .ret (bj (t7.append [.aa true,(J 2),(J 2),(J 2),.aL [0] [.box [.id,.id,.id]] (ba [0,1,5,6,14,15,16])]) (mB.aJ (.e1 sE))))
  (fun sE =>
  .ret (bj (t7.append [.aa false,(J 2),.aL [0] [.box [.id,.id,.id]] (ba [0,1,5,6,14,15,16])]) (mB.aJ (.e1 sE))))))
  (fun fl =>
  .ret (bj (t3.append [.az (aj 5 (an (bt 2 (.n .i64 gp) true) (aj 1 (an (.aa false) (aj 3 (an (bt 2 (.n .i64 gp) true) (aj 2 (cD 15 (an (.aa false) (an (.aa false) [])))))))))),.aa false,(J 2),.aL [0] [.box [.id,.id,.id]] (ba [0,1,5,6,14,15,16])]) (kK.aJ (.bl fl fl fl fl fl fl fl fl (.bl fl fl fl fl fl fl fl gA (.bT fl gA c6))))))))))))))
  (fun h1 =>
  .ret (bj [(J 1),.aa false,.aL [] [] (ba [5])] (.e1 h1)))
theorem VX {eH:Int}{eT:List (List aM)}{eG:List Int}{eJ:List aM}{bR eN h5 e5:Int}{aG:Bool}{aF bq:List Int}{r} (h:IZ eH eT eG eJ bR eN h5 e5 aG aF bq=some r):dQ bc 73 0 64 [1,1,1,0,1,0,0] (GY eH eT eG eJ bR eN) (Nb eH eT eG eJ bR eN) (h5,e5,aG,aF,bq) r:=dR (fun _=>Uz) h
def zS (hg:pt)(bR:Int):Option Int :=
 IZ hg.Mz hg.so hg.rD hg.Ba bR (len_ (eL 3 aO) hg.so) (-1) 0 false ([]:List Int) ([]:List Int) >>= fun r1 =>
 some r1
theorem WW {hg:pt}{bR:Int}:bB (zS hg bR) (fun r=>Con bc 64 [.d6 4 [(uA hg)] 0 0,.n .i64 bR] [] (.n .i64 r) []):=by
 unfold zS
 exact .ar fun r1 o =>
  .ret (bu [(J 1),(J 1),(J 3),(J 6),.aL [3] [.box [.id,.j2 1,.j2 1]] (ba [0,1,5,6,14,15,16]),.sub (.exit 0) [(5,.n .i64 r1)] [],(J 2)] (.e1 (VX o)))
def uv (bV:aM):Option aM :=
 hS (!bV.fs.cR) bV.fs.cH >>= fun r1 =>
 if (([]:List Int)++bV.hC).length*8≤140737488355328 then
 some (⟨r1,([]:List Int)++bV.hC⟩:aM)
 else none
theorem N7 {bV:aM}:bB (uv bV) (fun r=>Con bc 112 [.agg (aO bV)] [] (.agg (aO r)) []):=by
 unfold uv
 exact .ar fun r1 o =>
  .aZ fun ae =>
  .ret (let q1:=(([]:List Int)++bV.hC);let a1:=cY eI bV.hC;bu [(J 2),.az (aj 7 (an (bt 2 (.agg (aY r1)) false) (br 3 (.aJ (q1.length)) 2)))] (.eX (nO r1 o) (oj (show []=(([]:List Int)).map eI from rfl) (fK Int)) (mH (fK Int) a1:q1.length=0+(bV.hC.map eI).length) ae (l2 (jk (show []=(([]:List Int)).map eI from rfl) (fK Int) a1) (dO q1)) (lK (jk (show []=(([]:List Int)).map eI from rfl) (fK Int) a1) (dO q1)) (dX aP q1)) (.bx (.agg [.id,.id,.e7 (q1.map eI)])))
def sX (bV aN:aM):Option aM :=
 hN bV.fs.cH aN.fs.cH >>= fun r1 =>
 hN bV.hC aN.hC >>= fun bk =>
 nP (!(bV.fs.cR == aN.fs.cR)) r1 bk >>= fun aU =>
 some aU
theorem N8 {bV aN:aM}:bB (sX bV aN) (fun r=>Con bc 113 [.agg (aO bV),.agg (aO aN)] [] (.agg (aO r)) []):=by
 unfold sX
 exact .ar fun r1 o =>
  .ar fun bk au =>
  .ar fun aU a2 =>
  .ret (bu [(J 3),.az (aj 13 (an (bt 2 (.isl 1 (r1.map eI)) false) (aj 4 (an (bt 2 (.isl 1 (bk.map eI)) false) (an (bt 3 (.agg (aO aU)) false) (aj 1 []))))))] (.bT (o2 r1 o) (o2 bk au) (zH aU a2)))
def Gr (kM lJ hU en:Nat)(gW:Int)(aq:List aM)(jY:Bool)(jW jU:List Int):(Int×(List aM))→S:=fun (fC,ad)=>dr [(0,.bm 0 0 kM lJ),(1,.bm 1 0 hU en),(7,.ref 2 0 0 0),(19,.n .i64 gW),(20,.n .i64 fC)] [(av 3 aO ad),(av 3 aO aq),[ab.mk 3 [[.b jY,.isl 1 (jW.map eI),.isl 1 (jU.map eI)]] .live]]
def M4 (kM lJ hU en:Nat)(gW:Int)(aq:List aM)(jY:Bool)(jW jU:List Int):(List aM)→du
 | a=>⟨some 0,[],[(av 3 aO a),(av 3 aO aq)]⟩
def wB (kM lJ hU en:Nat)(gW:Int)(aq:List aM)(jY:Bool)(jW jU:List Int)(fC:Int)(ad:List aM):Option ((Int×(List aM))⊕((List aM))) :=
 if (decide (fC<gW))=true then
  if 0≤fC∧fC<(en:Nat) then
  aq[(hU+fC.toNat)]? >>= fun aD =>
  p2 aD >>= fun aU =>
  if (aU != (0:Int))=true then
   if 0≤fC∧fC<(lJ:Nat) then
   ad[(kM+fC.toNat)]? >>= fun ej =>
   sX (⟨(⟨jY,jW⟩:bp),jU⟩:aM) aD >>= fun di =>
   rp ej di >>= fun eB =>
   if (kM+fC.toNat)<ad.length then
   some (.inl (R (fC+(1:Int)),ad.set (kM+fC.toNat) eB))
   else none
   else none
  else
   some (.inl (R (fC+(1:Int)),ad))
  else none
 else
  some (.inr ad)
def Io (kM lJ hU en:Nat)(gW:Int)(aq:List aM)(jY:Bool)(jW jU:List Int)(fC:Int)(ad:List aM):Option ((List aM)):=iter (fun w:Int×(List aM)=>wB kM lJ hU en gW aq jY jW jU w.1 w.2) (fC,ad)
theorem T9 {kM lJ hU en:Nat}{gW:Int}{aq:List aM}{jY:Bool}{jW jU:List Int}{fC:Int}{ad:List aM}:bB (wB kM lJ hU en gW aq jY jW jU fC ad) (dP bc 44 2 91 [1,1,1,1,0,0] (Gr kM lJ hU en gW aq jY jW jU (fC,ad)) (Gr kM lJ hU en gW aq jY jW jU) (M4 kM lJ hU en gW aq jY jW jU)):=by
 unfold wB
 exact .ite (fun h1 =>
  .aZ fun o =>
  .ar fun aD au =>
  .ar fun aU a2 =>
  (let t1:List bY:=[(J 1),.aa true,(J 2),.az (aj 3 (an (.b7 (aO aD)) (an (bt 1 (.n .i64 aU) true) (aj 1 []))))];
  have aQ:=((.d9 h1 o.1 o.2 (bX aO au) (sT aU a2) (cc.n .i64 aU)):cz _);
  .ite (fun bd =>
  .aZ fun bn =>
  .ar fun ej cN =>
  .ar fun di e6 =>
  .ar fun eB eA =>
  .aZ fun fW =>
  .ret (bj (t1.append [.aa true,.az (aj 5 (an (.b7 (aO ej)) (aj 4 (an (.b7 (aO aD)) (an (bt 2 (.agg (aO di)) false) (an (bt 2 (.agg (aO eB)) false) (aj 1 (an .fV [])))))))),(J 2),.aL [0,1,2] [.cO (av 3 aO (ad.set (kM+fC.toNat) eB)),.pure,.box [.id,.id,.id]] (ba [0,1,7,19,20])]) (aQ.aJ (.bl bd bn.1 bn.2 (bX aO cN) o.1 o.2 (bX aO au) (N8 di e6) (.gU (Dj eB eA) bn.1 bn.2 (hH aO fW) (hx 3) (db 3 .live (gD (cY aO ad) (kM+fC.toNat) eB)) (aK 3 .live eM (ad.set (kM+fC.toNat) eB)) (aK 3 .live eM aq))))))
  (fun bd =>
  .ret (bj (t1.append [.aa false,(J 2),.aL [0,1,2] [.pure,.pure,.box [.id,.id,.id]] (ba [0,1,7,19,20])]) (aQ.aJ (.bT bd (aK 3 .live eM ad) (aK 3 .live eM aq)))))))
  (fun h1 =>
  .ret (bj [(J 1),.aa false,.aL [0,1] [.pure,.pure] []] (.bT h1 (aK 3 .live eM ad) (aK 3 .live eM aq))))
theorem Vw {kM lJ hU en:Nat}{gW:Int}{aq:List aM}{jY:Bool}{jW jU:List Int}{fC:Int}{ad:List aM}{r} (h:Io kM lJ hU en gW aq jY jW jU fC ad=some r):dQ bc 44 2 91 [1,1,1,1,0,0] (Gr kM lJ hU en gW aq jY jW jU) (M4 kM lJ hU en gW aq jY jW jU) (fC,ad) r:=dR (fun _=>T9) h
def zx (bw:Int)(kM lJ hU en:Nat)(fG fe:List aM):Option (List aM) :=
 if 0≤bw∧bw<(lJ:Nat) then
 fG[(kM+bw.toNat)]? >>= fun d8 =>
 p2 d8 >>= fun bg =>
 if (bg == (0:Int))=true then
  some fG
 else
  uv d8 >>= fun bJ =>
  Io kM lJ hU en ((lJ:Nat):Int) fe bJ.fs.cR bJ.fs.cH bJ.hC 0 fG >>= fun bz =>
  some bz
 else none
theorem Wf {bw:Int}{kM lJ hU en:Nat}{fG fe:List aM}:bB (zx bw kM lJ hU en fG fe) (fun a=>Con bc 91 (Sk 0 0 kM lJ 1 0 hU en bw) [(av 3 aO fG),(av 3 aO fe)] (.d7 []) [(av 3 aO a),(av 3 aO fe)]):=by
 unfold zx
 exact .aZ fun h1 =>
  .ar fun d8 ae =>
  .ar fun bg aA =>
  (let t1:List bY:=[.az (br 3 (.b7 (aO d8)) 2),.az (br 1 (bt 1 (.n .i64 bg) true) 1)];
  have aQ:=((.dw h1.1 h1.2 (bX aO ae) (sT bg aA) (cc.n .i64 bg)):cz _);
  .ite (fun a2 =>
  .ret (lE (t1.append [.aa true]) [0,1] [.pure,.pure] (aQ.aJ (.bT a2 (aK 3 .live eM fG) (aK 3 .live eM fe)))))
  (fun a2 =>
  .ar fun bJ bn =>
  .ar fun bz cN =>
  .ret (lE (t1.append [.aa false,.az (br 1 (bt 1 (.agg (aO bJ)) false) 2),(J 3),.aL [0,1,13] [.pure,.pure,.box [.id,.id,.id]] (ba [0,1,7,19,20]),.sub (.exit 0) [] [(av 3 aO bz),(av 3 aO fe)]]) [0,1] [.pure,.pure] (aQ.aJ (.eX a2 (N7 bJ bn) (aK 3 .live eM fG) (aK 3 .live eM fe) (Vw cN) (aK 3 .live eM bz) (aK 3 .live eM fe))))))
def Ga (hU en:Nat)(gW:Int)(aq:List aM)(jY:Bool)(jW jU:List Int):(Int×(List aM))→S:=fun (fC,ad)=>dr [(0,.bm 0 0 0 ad.length),(1,.bm 1 0 hU en),(7,.ref 2 0 0 0),(19,.n .i64 gW),(20,.n .i64 fC)] [(av 3 aO ad),(av 3 aO aq),[ab.mk 3 [[.b jY,.isl 1 (jW.map eI),.isl 1 (jU.map eI)]] .live]]
def MY (hU en:Nat)(gW:Int)(aq:List aM)(jY:Bool)(jW jU:List Int):(List aM)→du
 | a=>⟨some 0,[],[(av 3 aO a),(av 3 aO aq)]⟩
def wo (hU en:Nat)(gW:Int)(aq:List aM)(jY:Bool)(jW jU:List Int)(fC:Int)(ad:List aM):Option ((Int×(List aM))⊕((List aM))) :=
 if (decide (fC<gW))=true then
  if 0≤fC∧fC<(en:Nat) then
  aq[(hU+fC.toNat)]? >>= fun aD =>
  p2 aD >>= fun aU =>
  if (aU != (0:Int))=true then
   if 0≤fC∧fC<(ad.length:Nat) then
   ad[(0+fC.toNat)]? >>= fun ej =>
   sX (⟨(⟨jY,jW⟩:bp),jU⟩:aM) aD >>= fun di =>
   rp ej di >>= fun eB =>
   if (0+fC.toNat)<ad.length then
   some (.inl (R (fC+(1:Int)),ad.set (0+fC.toNat) eB))
   else none
   else none
  else
   some (.inl (R (fC+(1:Int)),ad))
  else none
 else
  some (.inr ad)
def HT (hU en:Nat)(gW:Int)(aq:List aM)(jY:Bool)(jW jU:List Int)(fC:Int)(ad:List aM):Option ((List aM)):=iter (fun w:Int×(List aM)=>wo hU en gW aq jY jW jU w.1 w.2) (fC,ad)
theorem TX {hU en:Nat}{gW:Int}{aq:List aM}{jY:Bool}{jW jU:List Int}{fC:Int}{ad:List aM}:bB (wo hU en gW aq jY jW jU fC ad) (dP bc 44 2 91 [1,1,1,1,0,0] (Ga hU en gW aq jY jW jU (fC,ad)) (Ga hU en gW aq jY jW jU) (MY hU en gW aq jY jW jU)):=by
 unfold wo
 exact .ite (fun h1 =>
  .aZ fun o =>
  .ar fun aD au =>
  .ar fun aU a2 =>
  (let t1:List bY:=[(J 1),.aa true,(J 2),.az (aj 3 (an (.b7 (aO aD)) (an (bt 1 (.n .i64 aU) true) (aj 1 []))))];
  have aQ:=((.d9 h1 o.1 o.2 (bX aO au) (sT aU a2) (cc.n .i64 aU)):cz _);
  .ite (fun bd =>
  .aZ fun bn =>
  .ar fun ej cN =>
  .ar fun di e6 =>
  .ar fun eB eA =>
  .aZ fun fW =>
  .ret (bj (t1.append [.aa true,.az (aj 5 (an (.b7 (aO ej)) (aj 4 (an (.b7 (aO aD)) (an (bt 2 (.agg (aO di)) false) (an (bt 2 (.agg (aO eB)) false) (aj 1 (an .fV [])))))))),(J 2),.aL [0,1,2] [.cO (av 3 aO (ad.set (0+fC.toNat) eB)),.pure,.box [.id,.id,.id]] [(0,f5 ((ad.set (0+fC.toNat) eB).length)),(1,ii),(7,ii),(19,ii),(20,ii)]]) (aQ.aJ (.bl bd bn.1 bn.2 (bX aO cN) o.1 o.2 (bX aO au) (N8 di e6) (.bl (Dj eB eA) bn.1 bn.2 (hH aO fW) (hx 3) (db 3 .live (gD (cY aO ad) (0+fC.toNat) eB)) (aK 3 .live eM (ad.set (0+fC.toNat) eB)) (aK 3 .live eM aq) (.e1 (hX (dO ad) (0+fC.toNat) eB)))))))
  (fun bd =>
  .ret (bj (t1.append [.aa false,(J 2),.aL [0,1,2] [.pure,.pure,.box [.id,.id,.id]] (ba [0,1,7,19,20])]) (aQ.aJ (.bT bd (aK 3 .live eM ad) (aK 3 .live eM aq)))))))
  (fun h1 =>
  .ret (bj [(J 1),.aa false,.aL [0,1] [.pure,.pure] []] (.bT h1 (aK 3 .live eM ad) (aK 3 .live eM aq))))
theorem Vf {hU en:Nat}{gW:Int}{aq:List aM}{jY:Bool}{jW jU:List Int}{fC:Int}{ad:List aM}{r} (h:HT hU en gW aq jY jW jU fC ad=some r):dQ bc 44 2 91 [1,1,1,1,0,0] (Ga hU en gW aq jY jW jU) (MY hU en gW aq jY jW jU) (fC,ad) r:=dR (fun _=>TX) h
def zs (bw:Int)(hU en:Nat)(fG fe:List aM):Option (List aM) :=
 if 0≤bw∧bw<(fG.length:Nat) then
 fG[(0+bw.toNat)]? >>= fun d8 =>
 p2 d8 >>= fun bg =>
 if (bg == (0:Int))=true then
  some fG
 else
  uv d8 >>= fun bJ =>
  HT hU en ((fG.length:Nat):Int) fe bJ.fs.cR bJ.fs.cH bJ.hC 0 fG >>= fun bz =>
  some bz
 else none
theorem VY {bw:Int}{hU en:Nat}{fG fe:List aM}:bB (zs bw hU en fG fe) (fun a=>Con bc 91 (Sk 0 0 0 fG.length 1 0 hU en bw) [(av 3 aO fG),(av 3 aO fe)] (.d7 []) [(av 3 aO a),(av 3 aO fe)]):=by
 unfold zs
 exact .aZ fun h1 =>
  .ar fun d8 ae =>
  .ar fun bg aA =>
  (let t1:List bY:=[.az (br 3 (.b7 (aO d8)) 2),.az (br 1 (bt 1 (.n .i64 bg) true) 1)];
  have aQ:=((.dw h1.1 h1.2 (bX aO ae) (sT bg aA) (cc.n .i64 bg)):cz _);
  .ite (fun a2 =>
  .ret (lE (t1.append [.aa true]) [0,1] [.pure,.pure] (aQ.aJ (.bT a2 (aK 3 .live eM fG) (aK 3 .live eM fe)))))
  (fun a2 =>
  .ar fun bJ bn =>
  .ar fun bz cN =>
  .ret (lE (t1.append [.aa false,.az (br 1 (bt 1 (.agg (aO bJ)) false) 2),(J 3),.aL [0,1,13] [.pure,.pure,.box [.id,.id,.id]] (ba [0,1,7,19,20]),.sub (.exit 0) [] [(av 3 aO bz),(av 3 aO fe)]]) [0,1] [.pure,.pure] (aQ.aJ (.eX a2 (N7 bJ bn) (aK 3 .live eM fG) (aK 3 .live eM fe) (Vf cN) (aK 3 .live eM bz) (aK 3 .live eM fe))))))
def Gs (bV bw dj da:Int)(bZ:List bs)(cp:List Int)(cq:List aM)(bM:Bool)(dS gS:List Int):(Int×(List (List aM)))→S:=fun (dk,cG)=>dr [(0,.ref 0 0 0 0),(1,.n .i64 bV),(2,.n .i64 bw),(6,.ref 1 0 0 0),(26,.n .i64 dj),(27,.n .i64 dk)] [(ab.mk 4 [(dT da 0 1 0 bZ.length 0 2 0 cp.length 0 3 0 cq.length)] .live::ab.mk 1 (bZ.map (bb 0 4 3)) .live::ab.mk 1 (cp.map eI) .live::ab.mk 3 (cq.map aO) .live::(b2 3 aO cG)),[ab.mk 3 [[.b bM,.isl 1 (dS.map eI),.isl 1 (gS.map eI)]] .live]]
def GH (bV bw dj da:Int)(bZ:List bs)(cp:List Int)(cq:List aM)(bM:Bool)(dS gS:List Int):(List (List aM))→du
 | a=>⟨some 0,[(0,.ref 0 0 0 0),(1,.n .i64 bV),(2,.n .i64 bw)],[(ab.mk 4 [(dT da 0 1 0 bZ.length 0 2 0 cp.length 0 3 0 cq.length)] .live::ab.mk 1 (bZ.map (bb 0 4 3)) .live::ab.mk 1 (cp.map eI) .live::ab.mk 3 (cq.map aO) .live::(b2 3 aO a))]⟩
def wC (bV bw dj da:Int)(bZ:List bs)(cp:List Int)(cq:List aM)(bM:Bool)(dS gS:List Int)(dk:Int)(cG:List (List aM)):Option ((Int×(List (List aM)))⊕((List (List aM)))) :=
 if (decide (dk<dj))=true then
  if 0≤bV∧bV<(bZ.length:Nat) then
  bZ[(0+bV.toNat)]? >>= fun aD =>
  aD >>= fun lI =>
  cG[lI.1]? >>= fun iI =>
  if 0≤dk∧dk<(lI.2:Nat) then
  iI[(0+dk.toNat)]? >>= fun iZ =>
  us iZ (⟨(⟨bM,dS⟩:bp),gS⟩:aM) >>= fun dY =>
  some (.inl (R (dk+(1:Int)),cG.set lI.1 (iI.set (0+dk.toNat) dY)))
  else none
  else none
 else
  some (.inr cG)
def Ip (bV bw dj da:Int)(bZ:List bs)(cp:List Int)(cq:List aM)(bM:Bool)(dS gS:List Int)(dk:Int)(cG:List (List aM)):Option ((List (List aM))):=iter (fun w:Int×(List (List aM))=>wC bV bw dj da bZ cp cq bM dS gS w.1 w.2) (dk,cG)
theorem Ua {bV bw dj da:Int}{bZ:List bs}{cp:List Int}{cq:List aM}{bM:Bool}{dS gS:List Int}{dk:Int}{cG:List (List aM)}:bB (wC bV bw dj da bZ cp cq bM dS gS dk cG) (dP bc 100 1 65 [1,0,1,0,0] (Gs bV bw dj da bZ cp cq bM dS gS (dk,cG)) (Gs bV bw dj da bZ cp cq bM dS gS) (GH bV bw dj da bZ cp cq bM dS gS)):=by
 unfold wC
 exact .ite (fun h1 =>
  .aZ fun o =>
  .ar fun aD au =>
  .ar fun lI a2 =>
  .ar fun iI bn =>
  .aZ fun cy =>
  .ar fun iZ eW =>
  .ar fun dY ez =>
  .ret (let q1:=j5 (fJ .live 3 aO cG) ix bn;let a1:=bP [0,1];bj [(J 1),.aa true,(J 2),.az (aj 6 (an (.b7 ((bb 0 4 3) aD)) (aj 7 (an (.b7 ((bb 0 4 3) aD)) (aj 1 (an (.j8 44 (.bm 0 (lI.1+4) 0 lI.2) (.gj (ab.mk 3 (iI.map aO) .live) [])) (an (.gj (ab.mk 3 (iI.map aO) .live) (aO iZ)) (aj 1 (an (bt 2 (.agg (aO dY)) false) (an (.j8 36 (.bm 0 (lI.1+4) 0 lI.2) (.gj (ab.mk 3 (iI.map aO) .live) [])) (an (.gj (ab.mk 3 (iI.map aO) .live) (aO iZ)) []))))))))))),(J 2),.aL [0,1] [.bG (ab.mk 4 [(dT da 0 1 0 bZ.length 0 2 0 cp.length 0 3 0 cq.length)] .live::ab.mk 1 (bZ.map (bb 0 4 3)) .live::ab.mk 1 (cp.map eI) .live::ab.mk 3 (cq.map aO) .live::(b2 3 aO (cG.set lI.1 (iI.set (0+dk.toNat) dY)))),.box [.id,.id,.id]] (ba [0,1,2,6,26,27])] (.bl h1 o.1 o.2 (bX (bb 0 4 3) au) o.1 o.2 (bX (bb 0 4 3) au) (l5 (dD:=0) (c:=4) (sz:=3) a2) (.bl q1 cy.1 cy.2 q1 (bX aO eW) (N5 dY ez) (l5 (dD:=0) (c:=4) (sz:=3) a2) q1 (.dw cy.1 cy.2 q1 (bX aO eW) (c5 (show ab.mk 4 [(dT da 0 1 0 bZ.length 0 2 0 cp.length 0 3 0 cq.length)] .live=gG (bP [0,1]) (ab.mk 4 [(dT da 0 1 0 bZ.length 0 2 0 cp.length 0 3 0 cq.length)] .live) from rfl) (c5 (ka a1 0 0 4 3 rfl bZ) (c5 (f6 a1 1 jq cp) (c5 (f6 a1 3 fi cq) (mn (ca:=a1) (o7 (fJ .live 3 aO cG) lI.1 (qG (cY aO iI) (0+dk.toNat) dY (rfl:(setCells (aO iZ) 0 (aO dY))=aO dY))) (lP fi)))))))))))
  (fun h1 =>
  .ret (bj [(J 1),.aa false,.aL [0] [.bG (ab.mk 4 [(dT da 0 1 0 bZ.length 0 2 0 cp.length 0 3 0 cq.length)] .live::ab.mk 1 (bZ.map (bb 0 4 3)) .live::ab.mk 1 (cp.map eI) .live::ab.mk 3 (cq.map aO) .live::(b2 3 aO cG))] (ba [0,1,2])] (.aE h1 (c5 (show ab.mk 4 [(dT da 0 1 0 bZ.length 0 2 0 cp.length 0 3 0 cq.length)] .live=gG (bP [0]) (ab.mk 4 [(dT da 0 1 0 bZ.length 0 2 0 cp.length 0 3 0 cq.length)] .live) from rfl) (c5 (ka (bP [0]) 0 0 4 3 rfl bZ) (c5 (f6 (bP [0]) 1 jq cp) (c5 (f6 (bP [0]) 3 fi cq) (dz (bP [0]) 3 fi cG))))))))
theorem Vx {bV bw dj da:Int}{bZ:List bs}{cp:List Int}{cq:List aM}{bM:Bool}{dS gS:List Int}{dk:Int}{cG:List (List aM)}{r} (h:Ip bV bw dj da bZ cp cq bM dS gS dk cG=some r):dQ bc 100 1 65 [1,0,1,0,0] (Gs bV bw dj da bZ cp cq bM dS gS) (GH bV bw dj da bZ cp cq bM dS gS) (dk,cG) r:=dR (fun _=>Ua) h
def Gt (bV bw oE da:Int)(bZ:List bs)(cp:List Int)(cq:List aM):(Int×(List (List aM)))→S:=fun (nu,cG)=>dr [(0,.ref 0 0 0 0),(1,.n .i64 bV),(2,.n .i64 bw),(56,.n .i64 oE),(57,.n .i64 nu)] [(ab.mk 4 [(dT da 0 1 0 bZ.length 0 2 0 cp.length 0 3 0 cq.length)] .live::ab.mk 1 (bZ.map (bb 0 4 3)) .live::ab.mk 1 (cp.map eI) .live::ab.mk 3 (cq.map aO) .live::(b2 3 aO cG))]
def GI (bV bw oE da:Int)(bZ:List bs)(cp:List Int)(cq:List aM):(List (List aM))→du
 | a=>⟨some 2,[(0,.ref 0 0 0 0),(1,.n .i64 bV),(2,.n .i64 bw)],[(ab.mk 4 [(dT da 0 1 0 bZ.length 0 2 0 cp.length 0 3 0 cq.length)] .live::ab.mk 1 (bZ.map (bb 0 4 3)) .live::ab.mk 1 (cp.map eI) .live::ab.mk 3 (cq.map aO) .live::(b2 3 aO a))]⟩
def wD (bV bw oE da:Int)(bZ:List bs)(cp:List Int)(cq:List aM)(nu:Int)(cG:List (List aM)):Option ((Int×(List (List aM)))⊕((List (List aM)))) :=
 if (decide (nu<oE))=true then
  if (nu != bV)=true then
   if 0≤nu∧nu<(bZ.length:Nat) then
   bZ[(0+nu.toNat)]? >>= fun fD =>
   if 0≤bV∧bV<(bZ.length:Nat) then
   bZ[(0+bV.toNat)]? >>= fun eS =>
   fD >>= fun l0 =>
   eS >>= fun n9 =>
   cG[l0.1]? >>= fun ll =>
   cG[n9.1]? >>= fun kl =>
   if (l0.1+4)≠(n9.1+4) then
   zx bw 0 l0.2 0 n9.2 ll kl >>= fun fa =>
   some (.inl (R (nu+(1:Int)),(cG.set l0.1 fa).set n9.1 kl))
   else none
   else none
   else none
  else
   some (.inl (R (nu+(1:Int)),cG))
 else
  some (.inr cG)
def Iq (bV bw oE da:Int)(bZ:List bs)(cp:List Int)(cq:List aM)(nu:Int)(cG:List (List aM)):Option ((List (List aM))):=iter (fun w:Int×(List (List aM))=>wD bV bw oE da bZ cp cq w.1 w.2) (nu,cG)
theorem Ub {bV bw oE da:Int}{bZ:List bs}{cp:List Int}{cq:List aM}{nu:Int}{cG:List (List aM)}:bB (wD bV bw oE da bZ cp cq nu cG) (dP bc 100 1 65 [1,1,0,1,0,0] (Gt bV bw oE da bZ cp cq (nu,cG)) (Gt bV bw oE da bZ cp cq) (GI bV bw oE da bZ cp cq)):=by
 unfold wD
 exact .ite (fun h1 =>
  (let t1:List bY:=[(J 1),.aa true,(J 2),(J 3)];
  .ite (fun o =>
  .aZ fun ae =>
  .ar fun fD aA =>
  .aZ fun a2 =>
  .ar fun eS bn =>
  .ar fun l0 cN =>
  .ar fun n9 e6 =>
  .ar fun ll eA =>
  .ar fun kl h4 =>
  .aZ fun hD =>
  .ar fun fa gA =>
  .ret (bj (t1.append [.aa true,.az (aj 6 (an (.b7 ((bb 0 4 3) fD)) (aj 6 (an (.b7 ((bb 0 4 3) eS)) (aj 1 (an (.j8 69 (.bm 0 (l0.1+4) 0 l0.2) (.j8 76 (.bm 0 (n9.1+4) 0 n9.2) (.call {a0:=[.ak 0 (l0.1+4) (ab.mk 3 (ll.map aO) .live),.ak 0 (n9.1+4) (ab.mk 3 (kl.map aO) .live)],dv:=[.pure,.pure],ac:=[.bx (.dM (.at_ 0 0 l0.2)),.bx (.dM (.at_ 1 0 n9.2)),ii],r:= .d7 [],fy:=[(av 3 aO fa),(av 3 aO kl)],ib:=ii,kj:=[.pure,.pure],fU:=[0],fP:=false}))) [])))))),(J 2),.aL [0] [.bG (ab.mk 4 [(dT da 0 1 0 bZ.length 0 2 0 cp.length 0 3 0 cq.length)] .live::ab.mk 1 (bZ.map (bb 0 4 3)) .live::ab.mk 1 (cp.map eI) .live::ab.mk 3 (cq.map aO) .live::(b2 3 aO ((cG.set l0.1 fa).set n9.1 kl)))] (ba [0,1,2,56,57])]) (.bl h1 o ae.1 ae.2 (bX (bb 0 4 3) aA) a2.1 a2.2 (bX (bb 0 4 3) bn) (.bl (l5 (dD:=0) (c:=4) (sz:=3) cN) (l5 (dD:=0) (c:=4) (sz:=3) e6) hD (rfl:li [.ak 0 (l0.1+4) (ab.mk 3 (ll.map aO) .live),.ak 0 (n9.1+4) (ab.mk 3 (kl.map aO) .live)] 0 0=some (0,(l0.1+4))) (rfl:l0.2=l0.2) (rfl:li [.ak 0 (l0.1+4) (ab.mk 3 (ll.map aO) .live),.ak 0 (n9.1+4) (ab.mk 3 (kl.map aO) .live)] 1 0=some (0,(n9.1+4))) (rfl:n9.2=n9.2) (j5 (fJ .live 3 aO cG) ix eA) (.eX (iU 3 eM ll) (j5 (fJ .live 3 aO cG) ix h4) (iU 3 eM kl) (iU 3 eM fa) (iU 3 eM kl) (Wf fa gA) (c5 (show ab.mk 4 [(dT da 0 1 0 bZ.length 0 2 0 cp.length 0 3 0 cq.length)] .live=gG (bP [0]) (ab.mk 4 [(dT da 0 1 0 bZ.length 0 2 0 cp.length 0 3 0 cq.length)] .live) from rfl) (c5 (ka (bP [0]) 0 0 4 3 rfl bZ) (c5 (f6 (bP [0]) 1 jq cp) (c5 (f6 (bP [0]) 3 fi cq) (mn (ca:=(bP [0])) (o7 (o7 (fJ .live 3 aO cG) l0.1 (cY aO fa)) n9.1 (cY aO kl)) (lP fi)))))))))))
  (fun o =>
  .ret (bj (t1.append [.aa false,(J 2),.aL [0] [.bG (ab.mk 4 [(dT da 0 1 0 bZ.length 0 2 0 cp.length 0 3 0 cq.length)] .live::ab.mk 1 (bZ.map (bb 0 4 3)) .live::ab.mk 1 (cp.map eI) .live::ab.mk 3 (cq.map aO) .live::(b2 3 aO cG))] (ba [0,1,2,56,57])]) (.bT h1 o (c5 (show ab.mk 4 [(dT da 0 1 0 bZ.length 0 2 0 cp.length 0 3 0 cq.length)] .live=gG (bP [0]) (ab.mk 4 [(dT da 0 1 0 bZ.length 0 2 0 cp.length 0 3 0 cq.length)] .live) from rfl) (c5 (ka (bP [0]) 0 0 4 3 rfl bZ) (c5 (f6 (bP [0]) 1 jq cp) (c5 (f6 (bP [0]) 3 fi cq) (dz (bP [0]) 3 fi cG))))))))))
  (fun h1 =>
  .ret (bj [(J 1),.aa false,.aL [0] [.bG (ab.mk 4 [(dT da 0 1 0 bZ.length 0 2 0 cp.length 0 3 0 cq.length)] .live::ab.mk 1 (bZ.map (bb 0 4 3)) .live::ab.mk 1 (cp.map eI) .live::ab.mk 3 (cq.map aO) .live::(b2 3 aO cG))] (ba [0,1,2])] (.aE h1 (c5 (show ab.mk 4 [(dT da 0 1 0 bZ.length 0 2 0 cp.length 0 3 0 cq.length)] .live=gG (bP [0]) (ab.mk 4 [(dT da 0 1 0 bZ.length 0 2 0 cp.length 0 3 0 cq.length)] .live) from rfl) (c5 (ka (bP [0]) 0 0 4 3 rfl bZ) (c5 (f6 (bP [0]) 1 jq cp) (c5 (f6 (bP [0]) 3 fi cq) (dz (bP [0]) 3 fi cG))))))))
theorem Vy {bV bw oE da:Int}{bZ:List bs}{cp:List Int}{cq:List aM}{nu:Int}{cG:List (List aM)}{r} (h:Iq bV bw oE da bZ cp cq nu cG=some r):dQ bc 100 1 65 [1,1,0,1,0,0] (Gt bV bw oE da bZ cp cq) (GI bV bw oE da bZ cp cq) (nu,cG) r:=dR (fun _=>Ub) h
def zy (bV bw jX:Int)(gX:List bs)(ij:List Int)(hZ:List aM)(oU:List (List aM)):Option ((List Int)×(List aM)×(List (List aM))) :=
 if 0≤bV∧bV<(gX.length:Nat) then
 gX[(0+bV.toNat)]? >>= fun d8 =>
 d8 >>= fun jK =>
 oU[jK.1]? >>= fun m3 =>
 if 0≤bw∧bw<(jK.2:Nat) then
 m3[(0+bw.toNat)]? >>= fun ej =>
 Ip bV bw ((jK.2:Nat):Int) jX gX ij hZ ej.fs.cR ej.fs.cH ej.hC 0 oU >>= fun di =>
 Iq bV bw ((gX.length:Nat):Int) jX gX ij hZ 0 di >>= fun eB =>
 eB[jK.1]? >>= fun kl =>
 if 3≠(jK.1+4) then
 zs bw 0 jK.2 hZ kl >>= fun fa =>
 if hZ.length=fa.length then
 if 0≤bV∧bV<(ij.length:Nat) then
 if (0+bV.toNat)<ij.length then
 some (ij.set (0+bV.toNat) bw,fa,eB.set jK.1 kl)
 else none
 else none
 else none
 else none
 else none
 else none
theorem Wg {bV bw jX:Int}{gX:List bs}{ij:List Int}{hZ:List aM}{oU:List (List aM)}:bB (zy bV bw jX gX ij hZ oU) (fun a=>Con bc 65 [.ref 0 0 0 0,.n .i64 bV,.n .i64 bw] [(ab.mk 4 [(dT jX 0 1 0 gX.length 0 2 0 ij.length 0 3 0 hZ.length)] .live::ab.mk 1 (gX.map (bb 0 4 3)) .live::ab.mk 1 (ij.map eI) .live::ab.mk 3 (hZ.map aO) .live::(b2 3 aO oU))] (.d7 []) [(ab.mk 4 [(dT jX 0 1 0 gX.length 0 2 0 a.1.length 0 3 0 a.2.1.length)] .live::ab.mk 1 (gX.map (bb 0 4 3)) .live::ab.mk 1 (a.1.map eI) .live::ab.mk 3 (a.2.1.map aO) .live::(b2 3 aO a.2.2))]):=by
 unfold zy
 exact .aZ fun h1 =>
  .ar fun d8 ae =>
  .ar fun jK aA =>
  .ar fun m3 bd =>
  .aZ fun bn =>
  .ar fun ej cN =>
  .ar fun di e6 =>
  .ar fun eB eA =>
  .ar fun kl h4 =>
  .aZ fun hD =>
  .ar fun fa gA =>
  .aZ fun fl =>
  .aZ fun gO =>
  .aZ fun iT =>
  .ret (let q1:=dT jX 0 1 0 gX.length 0 2 0 ij.length 0 3 0 hZ.length;let a1:=j5 (fJ .live 3 aO oU) ix bd;let b0:=bP [0];let ct:=bX (bb 0 4 3) ae;let dh:=bP [0,11];let fI:=ka b0 0 0 4 3 rfl gX;lE [.az (aj 6 (an (.b7 ((bb 0 4 3) d8)) (aj 1 (an (.j8 15 (.bm 0 (jK.1+4) 0 jK.2) (.gj (ab.mk 3 (m3.map aO) .live) [])) (an (.gj (ab.mk 3 (m3.map aO) .live) (aO ej)) (aj 2 [])))))),.az (aj 6 (an (.b7 ((bb 0 4 3) d8)) (an (.j8 25 (.bm 0 (jK.1+4) 0 jK.2) (.gj (ab.mk 3 (m3.map aO) .live) [])) (aj 1 [])))),.aL [0,11] [.bG (ab.mk 4 [q1] .live::ab.mk 1 (gX.map (bb 0 4 3)) .live::ab.mk 1 (ij.map eI) .live::ab.mk 3 (hZ.map aO) .live::(b2 3 aO oU)),.box [.id,.id,.id]] (ba [0,1,2,6,26,27]),(GH bV bw ((jK.2:Nat):Int) jX gX ij hZ ej.fs.cR ej.fs.cH ej.hC di).ff,(J 6),.aL [0] [.bG (ab.mk 4 [q1] .live::ab.mk 1 (gX.map (bb 0 4 3)) .live::ab.mk 1 (ij.map eI) .live::ab.mk 3 (hZ.map aO) .live::(b2 3 aO di))] (ba [0,1,2,56,57]),(GI bV bw ((gX.length:Nat):Int) jX gX ij hZ eB).ff,.az (aj 10 (an (.b7 ((bb 0 4 3) d8)) (aj 1 (an (.j8 90 (.bm 0 (jK.1+4) 0 jK.2) (.call {a0:=[.ak 0 3 (ab.mk 3 (hZ.map aO) .live),.ak 0 (jK.1+4) (ab.mk 3 (kl.map aO) .live)],dv:=[.pure,.pure],ac:=[.bx (.dM (.at_ 0 0 hZ.length)),.bx (.dM (.at_ 1 0 jK.2)),ii],r:= .d7 [],fy:=[(av 3 aO fa),(av 3 aO kl)],ib:=ii,kj:=[.pure,.pure],fU:=[0],fP:=false})) [])))),.az (aj 7 (an .fV []))] [0] [.bG (ab.mk 4 [(dT jX 0 1 0 gX.length 0 2 0 ((ij.set (0+bV.toNat) bw).length) 0 3 0 fa.length)] .live::ab.mk 1 (gX.map (bb 0 4 3)) .live::ab.mk 1 ((ij.set (0+bV.toNat) bw).map eI) .live::ab.mk 3 (fa.map aO) .live::(b2 3 aO (eB.set jK.1 kl)))] (.bl h1.1 h1.2 ct (l5 (dD:=0) (c:=4) (sz:=3) aA) a1 bn.1 bn.2 a1 (.bl (bX aO cN) h1.1 h1.2 ct (l5 (dD:=0) (c:=4) (sz:=3) aA) a1 (c5 (show ab.mk 4 [(dT jX 0 1 0 gX.length 0 2 0 ij.length 0 3 0 hZ.length)] .live=gG (bP [0,11]) (ab.mk 4 [(dT jX 0 1 0 gX.length 0 2 0 ij.length 0 3 0 hZ.length)] .live) from rfl) (c5 (ka dh 0 0 4 3 rfl gX) (c5 (f6 dh 1 jq ij) (c5 (f6 dh 3 fi hZ) (dz dh 3 fi oU))))) (Vx e6) (.bl (c5 (show ab.mk 4 [(dT jX 0 1 0 gX.length 0 2 0 ij.length 0 3 0 hZ.length)] .live=gG (bP [0]) (ab.mk 4 [(dT jX 0 1 0 gX.length 0 2 0 ij.length 0 3 0 hZ.length)] .live) from rfl) (c5 fI (c5 (f6 b0 1 jq ij) (c5 (f6 b0 3 fi hZ) (dz b0 3 fi di))))) (Vy eA) h1.1 h1.2 ct (l5 (dD:=0) (c:=4) (sz:=3) aA) hD (rfl:li [.ak 0 3 (ab.mk 3 (hZ.map aO) .live),.ak 0 (jK.1+4) (ab.mk 3 (kl.map aO) .live)] 0 0=some (0,3)) (.bl (rfl:hZ.length=hZ.length) (rfl:li [.ak 0 3 (ab.mk 3 (hZ.map aO) .live),.ak 0 (jK.1+4) (ab.mk 3 (kl.map aO) .live)] 1 0=some (0,(jK.1+4))) (rfl:jK.2=jK.2) (rfl:dg (some (ab.mk 4 [q1] .live::ab.mk 1 (gX.map (bb 0 4 3)) .live::ab.mk 1 (ij.map eI) .live::ab.mk 3 (hZ.map aO) .live::(b2 3 aO eB))) 3=some (ab.mk 3 (hZ.map aO) .live)) (iU 3 eM hZ) (j5 (fJ .live 3 aO eB) ix h4) (iU 3 eM kl) (iU 3 eM fa) (.eX (iU 3 eM kl) (VY fa gA) gO.1 gO.2 (hH eI iT) (hx 1) (c5 (show ab.mk 4 [(dT jX 0 1 0 gX.length 0 2 0 ((ij.set (0+bV.toNat) bw).length) 0 3 0 fa.length)] .live=gG (bP [0]) (ab.mk 4 [(dT jX 0 1 0 gX.length 0 2 0 ij.length 0 3 0 hZ.length)] .live) from (Eq.trans (congrArg (fun Cx=>ab.mk 4 [(dT jX 0 1 0 gX.length 0 2 0 Cx 0 3 0 fa.length)] .live) (hX (dO ij) (0+bV.toNat) bw).symm) (congrArg (fun Cx=>ab.mk 4 [(dT jX 0 1 0 gX.length 0 2 0 ij.length 0 3 0 Cx)] .live) (Eq.trans (dO hZ) fl).symm))) (c5 fI (c5 (qv (ca:=b0) 1 .live eI (gD (cY eI ij) (0+bV.toNat) bw) (lP jq)) (c5 (f6 b0 3 fi fa) (mn (ca:=b0) (o7 (fJ .live 3 aO eB) jK.1 (cY aO kl)) (lP fi))))))))))))
def GZ (e9:Bool)(da:Int)(bZ:List bs)(cp:List Int)(cq:List aM)(cG:List (List aM)):(Int×Int)→S:=fun (om,bR)=>dr [(0,.ref 0 0 0 0),(1,.b e9),(5,.n .i64 om),(6,.n .i64 bR)] [(ab.mk 4 [(dT da 0 1 0 bZ.length 0 2 0 cp.length 0 3 0 cq.length)] .live::ab.mk 1 (bZ.map (bb 0 4 3)) .live::ab.mk 1 (cp.map eI) .live::ab.mk 3 (cq.map aO) .live::(b2 3 aO cG))]
def Hi (e9:Bool)(da:Int)(bZ:List bs)(cp:List Int)(cq:List aM)(cG:List (List aM)):Int→du
 | a=>⟨some 2,[(0,.ref 0 0 0 0),(1,.b e9),(5,.n .i64 a)],[(ab.mk 4 [(dT da 0 1 0 bZ.length 0 2 0 cp.length 0 3 0 cq.length)] .live::ab.mk 1 (bZ.map (bb 0 4 3)) .live::ab.mk 1 (cp.map eI) .live::ab.mk 3 (cq.map aO) .live::(b2 3 aO cG))]⟩
def tU (e9:Bool)(da:Int)(bZ:List bs)(cp:List Int)(cq:List aM)(cG:List (List aM))(om bR:Int):Option ((Int×Int)⊕(Int)) :=
 if (decide (bR<da))=true then
  if (decide (om<(0:Int)))=true then
   if bZ.all (oR cG)=true then
   zQ (⟨da,bZ.map (gz cG),cp,cq⟩:pt) bR >>= fun bg =>
   if bg=true then
    some (.inl (om,R (bR+(1:Int))))
   else
    uk (⟨da,bZ.map (gz cG),cp,cq⟩:pt) bR e9 >>= fun bJ =>
    if (decide ((0:Int)<bJ))=true then
     some (.inl (bR,R (bR+(1:Int))))
    else
     some (.inl (om,R (bR+(1:Int))))
   else none
  else
   some (.inr om)
 else
  some (.inr om)
def C7 (e9:Bool)(da:Int)(bZ:List bs)(cp:List Int)(cq:List aM)(cG:List (List aM))(om bR:Int):Option (Int):=iter (fun w:Int×Int=>tU e9 da bZ cp cq cG w.1 w.2) (om,bR)
theorem UA {e9:Bool}{da:Int}{bZ:List bs}{cp:List Int}{cq:List aM}{cG:List (List aM)}{om bR:Int}:bB (tU e9 da bZ cp cq cG om bR) (dP bc 43 1 40 [1,0,0,0,1,0,1,0,0] (GZ e9 da bZ cp cq cG (om,bR)) (GZ e9 da bZ cp cq cG) (Hi e9 da bZ cp cq cG)):=by
 unfold tU
 exact .ite (fun h1 =>
  .ite (fun o =>
  .aZ fun ae =>
  .ar fun bg aA =>
  (let b0:=dT da 0 1 0 bZ.length 0 2 0 cp.length 0 3 0 cq.length;let t1:List bY:=[.az (aj 9 (an (.aa true) [])),.aa true];
  have aQ:=((.bl h1 h1 h1 o (rfl:dg (some (ab.mk 4 [b0] .live::ab.mk 1 (bZ.map (bb 0 4 3)) .live::ab.mk 1 (cp.map eI) .live::ab.mk 3 (cq.map aO) .live::(b2 3 aO cG))) 1=some (ab.mk 1 (bZ.map (bb 0 4 3)) .live)) (rfl:_=true) (fY (bb 0 4 3) bZ) (dX (l4 (sz:=3) eM) (bZ.map (gz cG))) (.bl (qO (dD:=0) (iA:=[ab.mk 4 [b0] .live,ab.mk 1 (bZ.map (bb 0 4 3)) .live,ab.mk 1 (cp.map eI) .live,ab.mk 3 (cq.map aO) .live]++(b2 3 aO cG)) (bW:=ja) (sz:=1) (g:=(eL 3 aO)) (cY (bb 0 4 3) bZ) (fun _=>rfl) (fun x U=>(rM (dD:=0) (c:=4) (bW:=ja) (oz:=[ab.mk 4 [b0] .live,ab.mk 1 (bZ.map (bb 0 4 3)) .live,ab.mk 1 (cp.map eI) .live,ab.mk 3 (cq.map aO) .live]) (fJ .live 3 aO cG) eM rfl ix rfl (rC ae x U))) (dO bZ)) (gQ eI cp) (fY eI cp) (dX aP cp) (gQ aO cq) (fY aO cq) (dX eM cq) (qF (Jl (⟨da,bZ.map (gz cG),cp,cq⟩:pt)):jM [[.n .i64 da,.isl 1 ((bZ.map (gz cG)).map (eL 3 aO)),.isl 1 (cp.map eI),.isl 3 (cq.map aO)]]) (.aE (WU bg aA) (cc.b bg)))):cz _);
  .ite (fun a2 =>
  .ret (bj (t1.append [.az (aj 2 (an (.call {ac:=[.bx (.ptr [.id,.view 0 (ab.mk 1 (bZ.map (bb 0 4 3)) .live) ((bZ.map (gz cG)).map (eL 3 aO)),.e7 (cp.map eI),.e7 (cq.map aO)]),ii],r:= .b bg,fP:=true,fU:=[0]}) (aj 2 (cD 5 (an (.aa false) []))))),.aa false,(J 3),.aL [0] [.bG (ab.mk 4 [(dT da 0 1 0 bZ.length 0 2 0 cp.length 0 3 0 cq.length)] .live::ab.mk 1 (bZ.map (bb 0 4 3)) .live::ab.mk 1 (cp.map eI) .live::ab.mk 3 (cq.map aO) .live::(b2 3 aO cG))] (ba [0,1,5,6])]) (aQ.aJ (.gU (c1 a2) (c1 a2) (c1 a2) (c1 a2) (c1 a2) (c1 a2) c6 (c5 (show ab.mk 4 [(dT da 0 1 0 bZ.length 0 2 0 cp.length 0 3 0 cq.length)] .live=gG (bP [0]) (ab.mk 4 [(dT da 0 1 0 bZ.length 0 2 0 cp.length 0 3 0 cq.length)] .live) from rfl) (c5 (ka (bP [0]) 0 0 4 3 rfl bZ) (c5 (f6 (bP [0]) 1 jq cp) (c5 (f6 (bP [0]) 3 fi cq) (dz (bP [0]) 3 fi cG)))))))))
  (fun a2 =>
  .ar fun bJ bn =>
  (let q1:=dT da 0 1 0 bZ.length 0 2 0 cp.length 0 3 0 cq.length;let a1:=eL 3 aO;let t3:List bY:=t1.append [.az (aj 2 (an (.call {ac:=[.bx (.ptr [.id,.view 0 (ab.mk 1 (bZ.map (bb 0 4 3)) .live) ((bZ.map (gz cG)).map a1),.e7 (cp.map eI),.e7 (cq.map aO)]),ii],r:= .b bg,fP:=true,fU:=[0]}) (aj 5 (an (.call {ac:=[.bx (.ptr [.id,.view 0 (ab.mk 1 (bZ.map (bb 0 4 3)) .live) ((bZ.map (gz cG)).map a1),.e7 (cp.map eI),.e7 (cq.map aO)]),ii,ii],r:= .n .i64 bJ,fP:=true,fU:=[0]}) (aj 1 (an (.aa true) []))))))];
  have eR:=aQ.aJ (.bl (cW a2) (cW a2) (cW a2) (cW a2) (rfl:dg (some (ab.mk 4 [q1] .live::ab.mk 1 (bZ.map (bb 0 4 3)) .live::ab.mk 1 (cp.map eI) .live::ab.mk 3 (cq.map aO) .live::(b2 3 aO cG))) 1=some (ab.mk 1 (bZ.map (bb 0 4 3)) .live)) (rfl:_=true) (fY (bb 0 4 3) bZ) (dX (l4 (sz:=3) eM) (bZ.map (gz cG))) (.bl (qO (dD:=0) (iA:=[ab.mk 4 [q1] .live,ab.mk 1 (bZ.map (bb 0 4 3)) .live,ab.mk 1 (cp.map eI) .live,ab.mk 3 (cq.map aO) .live]++(b2 3 aO cG)) (bW:=ja) (sz:=1) (g:=a1) (cY (bb 0 4 3) bZ) (fun _=>rfl) (fun x U=>(rM (dD:=0) (c:=4) (bW:=ja) (oz:=[ab.mk 4 [q1] .live,ab.mk 1 (bZ.map (bb 0 4 3)) .live,ab.mk 1 (cp.map eI) .live,ab.mk 3 (cq.map aO) .live]) (fJ .live 3 aO cG) eM rfl ix rfl (rC ae x U))) (dO bZ)) (gQ eI cp) (fY eI cp) (dX aP cp) (gQ aO cq) (fY aO cq) (dX eM cq) (qF (Jl (⟨da,bZ.map (gz cG),cp,cq⟩:pt)):jM [[.n .i64 da,.isl 1 ((bZ.map (gz cG)).map a1),.isl 1 (cp.map eI),.isl 3 (cq.map aO)]]) (.de (Xh bJ bn) (cc.n .i64 bJ) (cW a2) (cW a2))));
  .ite (fun cy =>
  .ret (bj (t3.append [.aa true,(J 2),(J 3),.aL [0] [.bG (ab.mk 4 [(dT da 0 1 0 bZ.length 0 2 0 cp.length 0 3 0 cq.length)] .live::ab.mk 1 (bZ.map (bb 0 4 3)) .live::ab.mk 1 (cp.map eI) .live::ab.mk 3 (cq.map aO) .live::(b2 3 aO cG))] (ba [0,1,5,6])]) (eR.aJ (.aE cy (c5 (show ab.mk 4 [(dT da 0 1 0 bZ.length 0 2 0 cp.length 0 3 0 cq.length)] .live=gG (bP [0]) (ab.mk 4 [(dT da 0 1 0 bZ.length 0 2 0 cp.length 0 3 0 cq.length)] .live) from rfl) (c5 (ka (bP [0]) 0 0 4 3 rfl bZ) (c5 (f6 (bP [0]) 1 jq cp) (c5 (f6 (bP [0]) 3 fi cq) (dz (bP [0]) 3 fi cG)))))))))
  (fun cy =>
  .ret (bj (t3.append [.aa false,(J 3),.aL [0] [.bG (ab.mk 4 [(dT da 0 1 0 bZ.length 0 2 0 cp.length 0 3 0 cq.length)] .live::ab.mk 1 (bZ.map (bb 0 4 3)) .live::ab.mk 1 (cp.map eI) .live::ab.mk 3 (cq.map aO) .live::(b2 3 aO cG))] (ba [0,1,5,6])]) (eR.aJ (.aE cy (c5 (show ab.mk 4 [(dT da 0 1 0 bZ.length 0 2 0 cp.length 0 3 0 cq.length)] .live=gG (bP [0]) (ab.mk 4 [(dT da 0 1 0 bZ.length 0 2 0 cp.length 0 3 0 cq.length)] .live) from rfl) (c5 (ka (bP [0]) 0 0 4 3 rfl bZ) (c5 (f6 (bP [0]) 1 jq cp) (c5 (f6 (bP [0]) 3 fi cq) (dz (bP [0]) 3 fi cG)))))))))))))
  (fun o =>
  .ret (bj [.az (aj 9 (an (.aa true) [])),.aa false,.aL [0] [.bG (ab.mk 4 [(dT da 0 1 0 bZ.length 0 2 0 cp.length 0 3 0 cq.length)] .live::ab.mk 1 (bZ.map (bb 0 4 3)) .live::ab.mk 1 (cp.map eI) .live::ab.mk 3 (cq.map aO) .live::(b2 3 aO cG))] (ba [0,1,5])] (.dw h1 h1 h1 o (c5 (show ab.mk 4 [(dT da 0 1 0 bZ.length 0 2 0 cp.length 0 3 0 cq.length)] .live=gG (bP [0]) (ab.mk 4 [(dT da 0 1 0 bZ.length 0 2 0 cp.length 0 3 0 cq.length)] .live) from rfl) (c5 (ka (bP [0]) 0 0 4 3 rfl bZ) (c5 (f6 (bP [0]) 1 jq cp) (c5 (f6 (bP [0]) 3 fi cq) (dz (bP [0]) 3 fi cG)))))))))
  (fun h1 =>
  .ret (bj [.az (aj 7 (cD 2 (an (.aa false) []))),.aa false,.aL [0] [.bG (ab.mk 4 [(dT da 0 1 0 bZ.length 0 2 0 cp.length 0 3 0 cq.length)] .live::ab.mk 1 (bZ.map (bb 0 4 3)) .live::ab.mk 1 (cp.map eI) .live::ab.mk 3 (cq.map aO) .live::(b2 3 aO cG))] (ba [0,1,5])] (.dw h1 h1 h1 c6 (c5 (show ab.mk 4 [(dT da 0 1 0 bZ.length 0 2 0 cp.length 0 3 0 cq.length)] .live=gG (bP [0]) (ab.mk 4 [(dT da 0 1 0 bZ.length 0 2 0 cp.length 0 3 0 cq.length)] .live) from rfl) (c5 (ka (bP [0]) 0 0 4 3 rfl bZ) (c5 (f6 (bP [0]) 1 jq cp) (c5 (f6 (bP [0]) 3 fi cq) (dz (bP [0]) 3 fi cG))))))))
theorem VZ {e9:Bool}{da:Int}{bZ:List bs}{cp:List Int}{cq:List aM}{cG:List (List aM)}{om bR:Int}{r} (h:C7 e9 da bZ cp cq cG om bR=some r):dQ bc 43 1 40 [1,0,0,0,1,0,1,0,0] (GZ e9 da bZ cp cq cG) (Hi e9 da bZ cp cq cG) (om,bR) r:=dR (fun _=>UA) h
def G0 (e9:Bool)(da:Int)(bZ:List bs):((List Int)×(List aM)×(List (List aM)))→S:=fun (cp,cq,cG)=>dr [(0,.ref 0 0 0 0),(1,.b e9)] [(ab.mk 4 [(dT da 0 1 0 bZ.length 0 2 0 cp.length 0 3 0 cq.length)] .live::ab.mk 1 (bZ.map (bb 0 4 3)) .live::ab.mk 1 (cp.map eI) .live::ab.mk 3 (cq.map aO) .live::(b2 3 aO cG))]
def Hj (e9:Bool)(da:Int)(bZ:List bs):(Bool×(List Int)×(List aM)×(List (List aM)))→du
 | a=>⟨none,[(4,.b a.1)],[(ab.mk 4 [(dT da 0 1 0 bZ.length 0 2 0 a.2.1.length 0 3 0 a.2.2.1.length)] .live::ab.mk 1 (bZ.map (bb 0 4 3)) .live::ab.mk 1 (a.2.1.map eI) .live::ab.mk 3 (a.2.2.1.map aO) .live::(b2 3 aO a.2.2.2))]⟩
def zh (e9:Bool)(da:Int)(bZ:List bs)(cp:List Int)(cq:List aM)(cG:List (List aM)):Option (((List Int)×(List aM)×(List (List aM)))⊕(Bool×(List Int)×(List aM)×(List (List aM)))) :=
 C7 e9 da bZ cp cq cG (-1) 0 >>= fun r1 =>
 if (decide (r1<(0:Int)))=true then
  some (.inr (true,cp,cq,cG))
 else
  if bZ.all (oR cG)=true then
  zS (⟨da,bZ.map (gz cG),cp,cq⟩:pt) r1 >>= fun aU =>
  if (decide (aU<(0:Int)))=true then
   some (.inr (false,cp,cq,cG))
  else
   zy aU r1 da bZ cp cq cG >>= fun c0 =>
   some (.inl (c0.1,c0.2.1,c0.2.2))
  else none
def I0 (e9:Bool)(da:Int)(bZ:List bs)(cp:List Int)(cq:List aM)(cG:List (List aM)):Option (Bool×(List Int)×(List aM)×(List (List aM))):=iter (fun w:(List Int)×(List aM)×(List (List aM))=>zh e9 da bZ w.1 w.2.1 w.2.2) (cp,cq,cG)
theorem UB {e9:Bool}{da:Int}{bZ:List bs}{cp:List Int}{cq:List aM}{cG:List (List aM)}:bB (zh e9 da bZ cp cq cG) (dP bc 43 1 40 [1,0,0] (G0 e9 da bZ (cp,cq,cG)) (G0 e9 da bZ) (Hj e9 da bZ)):=by
 unfold zh
 exact .ar fun r1 o =>
  (let t1:List bY:=[(J 1),(J 1),.aL [0] [.bG (ab.mk 4 [(dT da 0 1 0 bZ.length 0 2 0 cp.length 0 3 0 cq.length)] .live::ab.mk 1 (bZ.map (bb 0 4 3)) .live::ab.mk 1 (cp.map eI) .live::ab.mk 3 (cq.map aO) .live::(b2 3 aO cG))] (ba [0,1,5,6]),(Hi e9 da bZ cp cq cG r1).ff,(J 2)];
  have aQ:=((.aE (c5 (show ab.mk 4 [(dT da 0 1 0 bZ.length 0 2 0 cp.length 0 3 0 cq.length)] .live=gG (bP [0]) (ab.mk 4 [(dT da 0 1 0 bZ.length 0 2 0 cp.length 0 3 0 cq.length)] .live) from rfl) (c5 (ka (bP [0]) 0 0 4 3 rfl bZ) (c5 (f6 (bP [0]) 1 jq cp) (c5 (f6 (bP [0]) 3 fi cq) (dz (bP [0]) 3 fi cG))))) (VZ o)):cz _);
  .ite (fun ae =>
  .ret (bj (t1.append [.aa true,(J 1),.aL [0] [.bG (ab.mk 4 [(dT da 0 1 0 bZ.length 0 2 0 cp.length 0 3 0 cq.length)] .live::ab.mk 1 (bZ.map (bb 0 4 3)) .live::ab.mk 1 (cp.map eI) .live::ab.mk 3 (cq.map aO) .live::(b2 3 aO cG))] (ba [4])]) (aQ.aJ (.aE ae (c5 (show ab.mk 4 [(dT da 0 1 0 bZ.length 0 2 0 cp.length 0 3 0 cq.length)] .live=gG (bP [0]) (ab.mk 4 [(dT da 0 1 0 bZ.length 0 2 0 cp.length 0 3 0 cq.length)] .live) from rfl) (c5 (ka (bP [0]) 0 0 4 3 rfl bZ) (c5 (f6 (bP [0]) 1 jq cp) (c5 (f6 (bP [0]) 3 fi cq) (dz (bP [0]) 3 fi cG)))))))))
  (fun ae =>
  .aZ fun au =>
  .ar fun aU a2 =>
  (let ct:=dT da 0 1 0 bZ.length 0 2 0 cp.length 0 3 0 cq.length;let t3:List bY:=t1.append [.aa false,.az (br 2 (.call {ac:=[.bx (.ptr [.id,.view 0 (ab.mk 1 (bZ.map (bb 0 4 3)) .live) ((bZ.map (gz cG)).map (eL 3 aO)),.e7 (cp.map eI),.e7 (cq.map aO)]),ii],r:= .n .i64 aU,fP:=true,fU:=[0]}) 1),(J 2)];
  have eR:=aQ.aJ (.bl ae (rfl:dg (some (ab.mk 4 [ct] .live::ab.mk 1 (bZ.map (bb 0 4 3)) .live::ab.mk 1 (cp.map eI) .live::ab.mk 3 (cq.map aO) .live::(b2 3 aO cG))) 1=some (ab.mk 1 (bZ.map (bb 0 4 3)) .live)) (rfl:_=true) (fY (bb 0 4 3) bZ) (dX (l4 (sz:=3) eM) (bZ.map (gz cG))) (qO (dD:=0) (iA:=[ab.mk 4 [ct] .live,ab.mk 1 (bZ.map (bb 0 4 3)) .live,ab.mk 1 (cp.map eI) .live,ab.mk 3 (cq.map aO) .live]++(b2 3 aO cG)) (bW:=ja) (sz:=1) (g:=(eL 3 aO)) (cY (bb 0 4 3) bZ) (fun _=>rfl) (fun x U=>(rM (dD:=0) (c:=4) (bW:=ja) (oz:=[ab.mk 4 [ct] .live,ab.mk 1 (bZ.map (bb 0 4 3)) .live,ab.mk 1 (cp.map eI) .live,ab.mk 3 (cq.map aO) .live]) (fJ .live 3 aO cG) eM rfl ix rfl (rC au x U))) (dO bZ)) (gQ eI cp) (fY eI cp) (.eX (dX aP cp) (gQ aO cq) (fY aO cq) (dX eM cq) (qF (Jl (⟨da,bZ.map (gz cG),cp,cq⟩:pt)):jM [[.n .i64 da,.isl 1 ((bZ.map (gz cG)).map (eL 3 aO)),.isl 1 (cp.map eI),.isl 3 (cq.map aO)]]) (WW aU a2) (cc.n .i64 aU)));
  .ite (fun bd =>
  .ret (bj (t3.append [.aa true,(J 1),.aL [0] [.bG (ab.mk 4 [(dT da 0 1 0 bZ.length 0 2 0 cp.length 0 3 0 cq.length)] .live::ab.mk 1 (bZ.map (bb 0 4 3)) .live::ab.mk 1 (cp.map eI) .live::ab.mk 3 (cq.map aO) .live::(b2 3 aO cG))] (ba [4])]) (eR.aJ (.aE bd (c5 (show ab.mk 4 [(dT da 0 1 0 bZ.length 0 2 0 cp.length 0 3 0 cq.length)] .live=gG (bP [0]) (ab.mk 4 [(dT da 0 1 0 bZ.length 0 2 0 cp.length 0 3 0 cq.length)] .live) from rfl) (c5 (ka (bP [0]) 0 0 4 3 rfl bZ) (c5 (f6 (bP [0]) 1 jq cp) (c5 (f6 (bP [0]) 3 fi cq) (dz (bP [0]) 3 fi cG)))))))))
  (fun bd =>
  .ar fun c0 cy =>
  .ret (let q1:=dT da 0 1 0 bZ.length 0 2 0 c0.1.length 0 3 0 c0.2.1.length;let a1:=b2 3 aO c0.2.2;let b0:=dT da 0 1 0 bZ.length 0 2 0 cp.length 0 3 0 cq.length;bj (t3.append [.aa false,.az (aj 3 (an (.call {a0:=[.row 0],dv:=[.bG (ab.mk 4 [b0] .live::ab.mk 1 (bZ.map (bb 0 4 3)) .live::ab.mk 1 (cp.map eI) .live::ab.mk 3 (cq.map aO) .live::(b2 3 aO cG))],ac:=[ii,ii,ii],r:= .d7 [],fy:=[(ab.mk 4 [q1] .live::ab.mk 1 (bZ.map (bb 0 4 3)) .live::ab.mk 1 (c0.1.map eI) .live::ab.mk 3 (c0.2.1.map aO) .live::a1)],ib:=ii,kj:=[.bG (ab.mk 4 [q1] .live::ab.mk 1 (bZ.map (bb 0 4 3)) .live::ab.mk 1 (c0.1.map eI) .live::ab.mk 3 (c0.2.1.map aO) .live::a1)],fU:=[0],fP:=false}) [])),.aL [0] [.bG (ab.mk 4 [q1] .live::ab.mk 1 (bZ.map (bb 0 4 3)) .live::ab.mk 1 (c0.1.map eI) .live::ab.mk 3 (c0.2.1.map aO) .live::a1)] (ba [0,1])]) (eR.aJ (.eX bd (c5 (show ab.mk 4 [(dT da 0 1 0 bZ.length 0 2 0 cp.length 0 3 0 cq.length)] .live=gG (pn [0]) (ab.mk 4 [(dT da 0 1 0 bZ.length 0 2 0 cp.length 0 3 0 cq.length)] .live) from rfl) (c5 (ka (pn [0]) 0 0 4 3 rfl bZ) (c5 (f6 (pn [0]) 1 jq cp) (c5 (f6 (pn [0]) 3 fi cq) (dz (pn [0]) 3 fi cG))))) ((jj rfl (jj rfl (jj rfl (jj rfl (ru (fJ .live 3 aO cG)))))):lA (ab.mk 4 [b0] .live::ab.mk 1 (bZ.map (bb 0 4 3)) .live::ab.mk 1 (cp.map eI) .live::ab.mk 3 (cq.map aO) .live::(b2 3 aO cG))) (c5 (show ab.mk 4 [(dT da 0 1 0 bZ.length 0 2 0 c0.1.length 0 3 0 c0.2.1.length)] .live=gG (iF [0]) (ab.mk 4 [(dT da 0 1 0 bZ.length 0 2 0 c0.1.length 0 3 0 c0.2.1.length)] .live) from rfl) (c5 (ka (iF [0]) 0 0 4 3 rfl bZ) (c5 (f6 (iF [0]) 1 jq c0.1) (c5 (f6 (iF [0]) 3 fi c0.2.1) (dz (iF [0]) 3 fi c0.2.2))))) ((jj rfl (jj rfl (jj rfl (jj rfl (ru (fJ .live 3 aO c0.2.2)))))):lA (ab.mk 4 [q1] .live::ab.mk 1 (bZ.map (bb 0 4 3)) .live::ab.mk 1 (c0.1.map eI) .live::ab.mk 3 (c0.2.1.map aO) .live::a1)) (Wg c0 cy) (c5 (show ab.mk 4 [(dT da 0 1 0 bZ.length 0 2 0 c0.1.length 0 3 0 c0.2.1.length)] .live=gG (bP [0]) (ab.mk 4 [(dT da 0 1 0 bZ.length 0 2 0 c0.1.length 0 3 0 c0.2.1.length)] .live) from rfl) (c5 (ka (bP [0]) 0 0 4 3 rfl bZ) (c5 (f6 (bP [0]) 1 jq c0.1) (c5 (f6 (bP [0]) 3 fi c0.2.1) (dz (bP [0]) 3 fi c0.2.2))))))))))))
theorem V0 {e9:Bool}{da:Int}{bZ:List bs}{cp:List Int}{cq:List aM}{cG:List (List aM)}{r} (h:I0 e9 da bZ cp cq cG=some r):dQ bc 43 1 40 [1,0,0] (G0 e9 da bZ) (Hj e9 da bZ) (cp,cq,cG) r:=dR (fun _=>UB) h
def xu (e9:Bool)(jX:Int)(gX:List bs)(ij:List Int)(hZ:List aM)(oU:List (List aM)):Option (Bool×(List Int)×(List aM)×(List (List aM))) :=
 I0 e9 jX gX ij hZ oU >>= fun r1 =>
 some (r1.1,r1.2.1,r1.2.2.1,r1.2.2.2)
theorem WX {e9:Bool}{jX:Int}{gX:List bs}{ij:List Int}{hZ:List aM}{oU:List (List aM)}:bB (xu e9 jX gX ij hZ oU) (fun a=>Con bc 40 [.ref 0 0 0 0,.b e9] [(ab.mk 4 [(dT jX 0 1 0 gX.length 0 2 0 ij.length 0 3 0 hZ.length)] .live::ab.mk 1 (gX.map (bb 0 4 3)) .live::ab.mk 1 (ij.map eI) .live::ab.mk 3 (hZ.map aO) .live::(b2 3 aO oU))] (.b a.1) [(ab.mk 4 [(dT jX 0 1 0 gX.length 0 2 0 a.2.1.length 0 3 0 a.2.2.1.length)] .live::ab.mk 1 (gX.map (bb 0 4 3)) .live::ab.mk 1 (a.2.1.map eI) .live::ab.mk 3 (a.2.2.1.map aO) .live::(b2 3 aO a.2.2.2))]):=by
 unfold xu
 exact .ar fun r1 o =>
  .ret (let q1:=bP [0];let a1:=ka q1 0 0 4 3 rfl gX;lE [(J 1),.aL [0] [.bG (ab.mk 4 [(dT jX 0 1 0 gX.length 0 2 0 ij.length 0 3 0 hZ.length)] .live::ab.mk 1 (gX.map (bb 0 4 3)) .live::ab.mk 1 (ij.map eI) .live::ab.mk 3 (hZ.map aO) .live::(b2 3 aO oU))] (ba [0,1]),(Hj e9 jX gX r1).ff] [0] [.bG (ab.mk 4 [(dT jX 0 1 0 gX.length 0 2 0 r1.2.1.length 0 3 0 r1.2.2.1.length)] .live::ab.mk 1 (gX.map (bb 0 4 3)) .live::ab.mk 1 (r1.2.1.map eI) .live::ab.mk 3 (r1.2.2.1.map aO) .live::(b2 3 aO r1.2.2.2))] (.bT (c5 (show ab.mk 4 [(dT jX 0 1 0 gX.length 0 2 0 ij.length 0 3 0 hZ.length)] .live=gG (bP [0]) (ab.mk 4 [(dT jX 0 1 0 gX.length 0 2 0 ij.length 0 3 0 hZ.length)] .live) from rfl) (c5 a1 (c5 (f6 q1 1 jq ij) (c5 (f6 q1 3 fi hZ) (dz q1 3 fi oU))))) (V0 o) (c5 (show ab.mk 4 [(dT jX 0 1 0 gX.length 0 2 0 r1.2.1.length 0 3 0 r1.2.2.1.length)] .live=gG (bP [0]) (ab.mk 4 [(dT jX 0 1 0 gX.length 0 2 0 r1.2.1.length 0 3 0 r1.2.2.1.length)] .live) from rfl) (c5 a1 (c5 (f6 q1 1 jq r1.2.1) (c5 (f6 q1 3 fi r1.2.2.1) (dz q1 3 fi r1.2.2.2)))))))
def ud (cd:hz):Option Bool :=
 zE cd >>= fun r1 =>
 if r1=true then
  zw cd >>= fun bg =>
  xu false bg.1 bg.2.1 bg.2.2.1 bg.2.2.2.1 bg.2.2.2.2 >>= fun ck =>
  if 0≤bg.1∧bg.1<(ck.2.2.1.length:Nat) then
  ck.2.2.1[(0+bg.1.toNat)]? >>= fun ej =>
  p2 ej >>= fun di =>
  some (di == (0:Int))
  else none
 else
  some false
theorem V1 {cd:hz}:bB (ud cd) (fun r=>Con bc 28 [.agg (nR cd)] [] (.b r) []):=by
 unfold ud
 exact .ar fun r1 o =>
  (let t1:List bY:=[(J 2),.az (br 1 (bt 1 (.b r1) true) 1)];
  have aQ:=((.aE (Wu r1 o) (cc.b r1)):cz _);
  .ite (fun ae =>
  .ar fun bg aA =>
  .ar fun ck bd =>
  .aZ fun bn =>
  .ar fun ej cN =>
  .ar fun di e6 =>
  .ret (let q1:=dT bg.1 0 1 0 bg.2.1.length 0 2 0 bg.2.2.1.length 0 3 0 bg.2.2.2.1.length;let a1:=b2 3 aO bg.2.2.2.2;let b0:=dT bg.1 6 1 0 bg.2.1.length 6 2 0 bg.2.2.1.length 6 3 0 bg.2.2.2.1.length;let ct:=dT bg.1 0 1 0 bg.2.1.length 0 2 0 ck.2.1.length 0 3 0 ck.2.2.1.length;let dh:=b2 3 aO ck.2.2.2;let fI:=ka (iF [6]) 6 0 4 3 rfl bg.2.1;bu (t1.append [.aa false,.az (br 1 (.call {a0:=[],dv:=[],ac:=[ii],r:= .ref 0 0 0 0,fy:=[(ab.mk 4 [q1] .live::ab.mk 1 (bg.2.1.map (bb 0 4 3)) .live::ab.mk 1 (bg.2.2.1.map eI) .live::ab.mk 3 (bg.2.2.2.1.map aO) .live::a1)],ib:=ii,kj:=[.bG (ab.mk 4 [b0] .live::ab.mk 1 (bg.2.1.map (bb 6 4 3)) .live::ab.mk 1 (bg.2.2.1.map eI) .live::ab.mk 3 (bg.2.2.2.1.map aO) .live::a1)],fU:=[],fP:=false}) 1),.az (aj 1 (an (.call {a0:=[.row 6],dv:=[.bG (ab.mk 4 [q1] .live::ab.mk 1 (bg.2.1.map (bb 0 4 3)) .live::ab.mk 1 (bg.2.2.1.map eI) .live::ab.mk 3 (bg.2.2.2.1.map aO) .live::a1)],ac:=[ii,ii],r:= .b ck.1,fy:=[(ab.mk 4 [ct] .live::ab.mk 1 (bg.2.1.map (bb 0 4 3)) .live::ab.mk 1 (ck.2.1.map eI) .live::ab.mk 3 (ck.2.2.1.map aO) .live::dh)],ib:=ii,kj:=[.bG (ab.mk 4 [(dT bg.1 6 1 0 bg.2.1.length 6 2 0 ck.2.1.length 6 3 0 ck.2.2.1.length)] .live::ab.mk 1 (bg.2.1.map (bb 6 4 3)) .live::ab.mk 1 (ck.2.1.map eI) .live::ab.mk 3 (ck.2.2.1.map aO) .live::dh)],fU:=[6],fP:=false}) [])),.az (aj 9 (an (.b7 (aO ej)) (an (bt 1 (.n .i64 di) true) (aj 2 []))))]) (aQ.aJ (.bl (c1 ae) (c5 (show ab.mk 4 [(dT bg.1 6 1 0 bg.2.1.length 6 2 0 bg.2.2.1.length 6 3 0 bg.2.2.2.1.length)] .live=gG (iF [6]) (ab.mk 4 [(dT bg.1 0 1 0 bg.2.1.length 0 2 0 bg.2.2.1.length 0 3 0 bg.2.2.2.1.length)] .live) from rfl) (c5 fI (c5 (f6 (iF [6]) 1 jq bg.2.2.1) (c5 (f6 (iF [6]) 3 fi bg.2.2.2.1) (dz (iF [6]) 3 fi bg.2.2.2.2))))) ((jj rfl (jj rfl (jj rfl (jj rfl (ru (fJ .live 3 aO bg.2.2.2.2)))))):lA (ab.mk 4 [q1] .live::ab.mk 1 (bg.2.1.map (bb 0 4 3)) .live::ab.mk 1 (bg.2.2.1.map eI) .live::ab.mk 3 (bg.2.2.2.1.map aO) .live::a1)) (Wd bg aA) (c5 (show ab.mk 4 [(dT bg.1 0 1 0 bg.2.1.length 0 2 0 bg.2.2.1.length 0 3 0 bg.2.2.2.1.length)] .live=gG (pn [6]) (ab.mk 4 [(dT bg.1 6 1 0 bg.2.1.length 6 2 0 bg.2.2.1.length 6 3 0 bg.2.2.2.1.length)] .live) from rfl) (c5 (ka (pn [6]) 0 6 4 3 rfl bg.2.1) (c5 (f6 (pn [6]) 1 jq bg.2.2.1) (c5 (f6 (pn [6]) 3 fi bg.2.2.2.1) (dz (pn [6]) 3 fi bg.2.2.2.2))))) ((jj rfl (jj rfl (jj rfl (jj rfl (ru (fJ .live 3 aO bg.2.2.2.2)))))):lA (ab.mk 4 [b0] .live::ab.mk 1 (bg.2.1.map (bb 6 4 3)) .live::ab.mk 1 (bg.2.2.1.map eI) .live::ab.mk 3 (bg.2.2.2.1.map aO) .live::a1)) (c5 (show ab.mk 4 [(dT bg.1 6 1 0 bg.2.1.length 6 2 0 ck.2.1.length 6 3 0 ck.2.2.1.length)] .live=gG (iF [6]) (ab.mk 4 [(dT bg.1 0 1 0 bg.2.1.length 0 2 0 ck.2.1.length 0 3 0 ck.2.2.1.length)] .live) from rfl) (c5 fI (c5 (f6 (iF [6]) 1 jq ck.2.1) (c5 (f6 (iF [6]) 3 fi ck.2.2.1) (dz (iF [6]) 3 fi ck.2.2.2))))) ((jj rfl (jj rfl (jj rfl (jj rfl (ru (fJ .live 3 aO ck.2.2.2)))))):lA (ab.mk 4 [ct] .live::ab.mk 1 (bg.2.1.map (bb 0 4 3)) .live::ab.mk 1 (ck.2.1.map eI) .live::ab.mk 3 (ck.2.2.1.map aO) .live::dh)) (.d9 (WX ck bd) bn.1 bn.2 (bX aO cN) (sT di e6) (cc.n .i64 di))))))
  (fun ae =>
  .ret (bu (t1.append [.aa true,(J 1)]) (aQ.aJ (.e1 (cW ae))))))
def Dn (aN:cS)(dm:List Int):Option Bool :=
 xA aN dm >>= fun r1 =>
 if r1=true then
  uf aN dm >>= fun bg =>
  ud bg >>= fun ck =>
  some ck
 else
  some false
theorem WY {aN:cS}{dm:List Int}:bB (Dn aN dm) (fun r=>Con bc 16 [.agg (hT aN),.isl 1 (dm.map eI)] [] (.b r) []):=by
 unfold Dn
 exact .ar fun r1 o =>
  (have cb:=((.aE (N1 r1 o) (cc.b r1)):cz _);
  .ite (fun ae =>
  .ar fun bg aA =>
  .ar fun ck bd =>
  .ret (bu [(J 2),.az (aj 2 (an (bt 2 (.b r1) true) (aj 3 (an (bt 2 (.agg (nR bg)) false) (an (bt 1 (.b ck) true) (an (.aa true) (aj 1 [])))))))] (cb.aJ (.gU ae ae ae (Wb bg aA) ae (V1 ck bd) (cc.b ck) ae))))
  (fun ae =>
  .ret (bu [(J 2),.az (aj 2 (an (bt 2 (.b r1) true) (aj 1 (cD 4 (an (.aa false) (aj 1 []))))))] (cb.aJ (.dw ae ae ae ae ae)))))
def F0 (cx:List (List Int))(c2:Int)(aG:List b3)(aF:List cj):Int→S:=fun b4=>dr [(2,.ref 0 0 0 0),(11,.isl 1 (cx.map (eL 1 eI))),(12,.n .i64 c2),(13,.n .i64 b4)] [[ab.mk 2 [[.isl 4 (aG.map b9),.isl 3 (aF.map cv)]] .live]]
def MV (cx:List (List Int))(c2:Int)(aG:List b3)(aF:List cj):((Unit)⊕(Int))→du
 | .inl a=>⟨some 0,[],[]⟩
 | .inr a=>⟨none,[(4,.n .i64 a)],[]⟩
def qy (cx:List (List Int))(c2:Int)(aG:List b3)(aF:List cj)(b4:Int):Option ((Int)⊕((Unit)⊕(Int))) :=
 if (decide (b4<c2))=true then
  if 0≤b4∧b4<cx.length then
  cx[b4.toNat]? >>= fun aD =>
  Dn (⟨aG,aF⟩:cS) aD >>= fun aU =>
  if aU=true then
   some (.inl (R (b4+(1:Int))))
  else
   some (.inr (.inr b4))
  else none
 else
  some (.inr (.inl ()))
def Hk (cx:List (List Int))(c2:Int)(aG:List b3)(aF:List cj)(b4:Int):Option ((Unit)⊕(Int)):=iter (fun w:Int=>qy cx c2 aG aF w) b4
theorem TO {cx:List (List Int)}{c2:Int}{aG:List b3}{aF:List cj}{b4:Int}:bB (qy cx c2 aG aF b4) (dP bc 24 0 6 [1,1,0,1,0,0] (F0 cx c2 aG aF b4) (F0 cx c2 aG aF) (MV cx c2 aG aF)):=by
 unfold qy
 exact .ite (fun h1 =>
  .aZ fun o =>
  .ar fun aD au =>
  .ar fun aU a2 =>
  (let t1:List bY:=[(J 1),.aa true,.az (br 2 (.b7 ((eL 1 eI) aD)) 2),.az (br 2 (bt 2 (.b aU) true) 1)];
  have aQ:=((.d9 h1 o.1 (cQ (eL 1 eI) o.2) (bX (eL 1 eI) au) (WY aU a2) (cc.b aU)):cz _);
  .ite (fun bd =>
  .ret (bj (t1.append [.aa false,(J 2),.aL [0] [.box [.id,.id]] (ba [2,11,12,13])]) (aQ.aJ (.e1 (c1 bd)))))
  (fun bd =>
  .ret (bj (t1.append [.aa true,(J 2),.aL [] [] (ba [4])]) (aQ.aJ (.e1 (cW bd)))))))
  (fun h1 =>
  .ret (bj [(J 1),.aa false,.aL [] [] []] (.e1 h1)))
theorem MZ {cx:List (List Int)}{c2:Int}{aG:List b3}{aF:List cj}{b4:Int}{r} (h:Hk cx c2 aG aF b4=some r):dQ bc 24 0 6 [1,1,0,1,0,0] (F0 cx c2 aG aF) (MV cx c2 aG aF) b4 r:=dR (fun _=>TO) h
def xg (aN:cS)(jB:List (List Int)):Option Int :=
 ui aN jB >>= fun r1 =>
 if r1=true then
  Hk jB (len_ (eL 1 eI) jB) aN.b1 aN.bO 0 >>= fun bg =>
  match bg with
  | .inl m2=>(some (-1))
  | .inr m2=>(some m2)
 else
  some (-1)
theorem VE {aN:cS}{jB:List (List Int)}:bB (xg aN jB) (fun r=>Con bc 6 [.agg (hT aN),.isl 1 (jB.map (eL 1 eI))] [] (.n .i64 r) []):=by
 unfold xg
 exact .ar fun r1 o =>
  (let t1:List bY:=[(J 2),.az (br 2 (bt 2 (.b r1) true) 1)];
  have aQ:=((.aE (Xf r1 o) (cc.b r1)):cz _);
  .ite (fun ae =>
  .ar fun bg aA =>
  (let t3:List bY:=t1.append [.aa false,(J 3),.aL [0] [.box [.id,.id]] (ba [2,11,12,13])];
  (by
  rcases bg with m2|m2
  ·exact (.ret (bu (t3.append [.sub (.exit 0) [] [],(J 1)]) (aQ.aJ (.aE (c1 ae) (MZ aA)))))
  ·exact (.ret (bu (t3.append [.sub (.ret) [(4,.n .i64 m2)] []]) (aQ.aJ (.aE (c1 ae) (MZ aA))))))))
  (fun ae =>
  .ret (bu (t1.append [.aa true,(J 1)]) (aQ.aJ (.e1 (cW ae))))))
def zT (q7:Int):Option Bool :=
 if (decide ((97:Int)≤q7))=true then
  some (decide (q7≤(122:Int)))
 else
  some false
theorem WZ {q7:Int}:bB (zT q7) (fun r=>Con bc 95 [.n .u8 q7] [] (.b r) []):=by
 unfold zT
 exact .ite (fun h1 =>
  .ret (bu [(J 1),.az (br 5 (.aa true) 1)] (.bT h1 h1 h1)))
  (fun h1 =>
  .ret (bu [(J 1),.az (aj 3 (cD 2 (an (.aa false) (aj 1 []))))] (.bT h1 h1 h1)))
def z1 (q7:Int):Option Bool :=
 if (decide ((48:Int)≤q7))=true then
  some (decide (q7≤(57:Int)))
 else
  some false
theorem Xi {q7:Int}:bB (z1 q7) (fun r=>Con bc 96 [.n .u8 q7] [] (.b r) []):=by
 unfold z1
 exact .ite (fun h1 =>
  .ret (bu [(J 1),.az (br 5 (.aa true) 1)] (.bT h1 h1 h1)))
  (fun h1 =>
  .ret (bu [(J 1),.az (aj 3 (cD 2 (an (.aa false) (aj 1 []))))] (.bT h1 h1 h1)))
def HU (aN:ByteArray)(jN:Int):Int→S:=fun gM=>dr [(0,.s aN),(5,.n .i64 jN),(6,.n .i64 gM)] []
def Ny (aN:ByteArray)(jN:Int):((Unit)⊕(Unit))→du
 | .inl a=>⟨some 0,[(0,.s aN)],[]⟩
 | .inr a=>⟨none,[(2,.b false)],[]⟩
def zn (aN:ByteArray)(jN gM:Int):Option ((Int)⊕((Unit)⊕(Unit))) :=
 if (decide (gM<jN))=true then
  if 0≤gM∧gM<(aN.size:Nat) then
  zT ((aN.data.toList.getD gM.toNat 0).toNat:Int) >>= fun bk =>
  if bk=true then
   some (.inl (R (gM+(1:Int))))
  else
   if (gM == (0:Int))=true then
    some (.inr (.inr ()))
   else
    z1 ((aN.data.toList.getD gM.toNat 0).toNat:Int) >>= fun bJ =>
    if bJ=true then
     some (.inl (R (gM+(1:Int))))
    else
     some (.inr (.inr ()))
  else none
 else
  some (.inr (.inl ()))
def Dk (aN:ByteArray)(jN gM:Int):Option ((Unit)⊕(Unit)):=iter (fun w:Int=>zn aN jN w) gM
theorem Vg {aN:ByteArray}{jN gM:Int}:bB (zn aN jN gM) (dP bc 33 0 68 [1,0,1,0,0] (HU aN jN gM) (HU aN jN) (Ny aN jN)):=by
 unfold zn
 exact .ite (fun h1 =>
  .aZ fun o =>
  .ar fun bk au =>
  (let t1:List bY:=[(J 1),.aa true,(J 2)];
  have aQ:=((.dw h1 o.1 o.2 (WZ bk au) (cc.b bk)):cz _);
  .ite (fun aA =>
  .ret (bj (t1.append [.az (aj 3 (an (bt 1 (.b bk) true) (aj 2 (cD 3 (aj 5 (cD 1 (an (.aa false) []))))))),.aa false,(J 2),.aL [] [] (ba [0,5,6])]) (aQ.aJ (.d9 (c1 aA) (c1 aA) (c1 aA) (c1 aA) (c1 aA) c6))))
  (fun aA =>
  (have fH:=aQ.aJ (.bT (cW aA) (cW aA) (cW aA));
  .ite (fun a2 =>
  .ret (bj (t1.append [.az (aj 3 (an (bt 1 (.b bk) true) (aj 5 (cD 5 (an (.aa true) (an (.aa true) [])))))),.aa true,(J 1),.aL [] [] (ba [2])]) (fH.aJ (.bl a2 a2 a2 a2 a2 (cW aA) a2 (cW aA) (.e1 cJ)))))
  (fun a2 =>
  .ar fun bJ bn =>
  (let t4:List bY:=t1.append [.az (aj 3 (an (bt 1 (.b bk) true) (aj 8 (an (bt 1 (.b bJ) true) (aj 1 (an (.aa false) (an (.aa true) [])))))))];
  have mj:=fH.aJ (.bl a2 a2 a2 o.1 o.2 a2 (Xi bJ bn) (cc.b bJ) (.de a2 (cW aA) a2 (cW aA)));
  .ite (fun cy =>
  .ret (bj (t4.append [.aa false,(J 2),.aL [] [] (ba [0,5,6])]) (mj.aJ (.e1 (c1 cy)))))
  (fun cy =>
  .ret (bj (t4.append [.aa true,(J 1),.aL [] [] (ba [2])]) (mj.aJ (.e1 (cW cy)))))))))))
  (fun h1 =>
  .ret (bj [(J 1),.aa false,.aL [] [] (ba [0])] (.e1 h1)))
theorem IC {aN:ByteArray}{jN gM:Int}{r} (h:Dk aN jN gM=some r):dQ bc 33 0 68 [1,0,1,0,0] (HU aN jN) (Ny aN jN) gM r:=dR (fun _=>Vg) h
def Ac (aN:ByteArray):Option Bool :=
 Dk aN (aN.size:Int) 0 >>= fun r1 =>
 match r1 with
 | .inl dp=>(if (!(aN.toList == (⟨#[]⟩:ByteArray).toList))=true then
  some (decide ((aN.size:Int)≤(8:Int)))
  else
   some false)
 | .inr dp=>(some false)
theorem XE {aN:ByteArray}:bB (Ac aN) (fun r=>Con bc 68 [.s aN] [] (.b r) []):=by
 unfold Ac
 exact .ar fun r1 o =>
  (let t1:List bY:=[(J 1),(J 3),.aL [] [] (ba [0,5,6])];
  (by
  rcases r1 with dp|dp
  ·exact ((let t2:List bY:=t1.append [.sub (.exit 0) [(0,.s aN)] []];
  .ite (fun au =>
  .ret (bu (t2.append [.az (br 6 (.aa true) 1)]) (.dw (IC o) au au au au)))
  (fun au =>
  .ret (bu (t2.append [.az (aj 3 (cD 3 (an (.aa false) (aj 1 []))))]) (.dw (IC o) au au au au)))))
  ·exact (.ret (bu (t1.append [.sub (.ret) [(2,.b false)] []]) (.e1 (IC o))))))
def xx (a4:Int):Option Bool :=
 if (decide ((-50:Int)≤a4))=true then
  some (decide (a4≤(50:Int)))
 else
  some false
theorem NT {a4:Int}:bB (xx a4) (fun r=>Con bc 69 [.n .i64 a4] [] (.b r) []):=by
 unfold xx
 exact .ite (fun h1 =>
  .ret (bu [(J 1),.az (br 5 (.aa true) 1)] (.bT h1 h1 h1)))
  (fun h1 =>
  .ret (bu [(J 1),.az (aj 3 (cD 2 (an (.aa false) (aj 1 []))))] (.bT h1 h1 h1)))
def z2 (bR:b3):Option Bool :=
 Ac bR.ld >>= fun r1 =>
 if r1=true then
  xx bR.iG >>= fun bg =>
  if bg=true then
   xx bR.iH >>= fun bJ =>
   some bJ
  else
   some false
 else
  some false
theorem Xj {bR:b3}:bB (z2 bR) (fun r=>Con bc 46 [.agg (b9 bR)] [] (.b r) []):=by
 unfold z2
 exact .ar fun r1 o =>
  (have cb:=((.aE (XE r1 o) (cc.b r1)):cz _);
  .ite (fun ae =>
  .ar fun bg aA =>
  (have aQ:=cb.aJ (.d9 ae ae ae (NT bg aA) (cc.b bg) ae);
  .ite (fun a2 =>
  .ar fun bJ bn =>
  .ret (bu [(J 2),.az (aj 2 (an (bt 1 (.b r1) true) (aj 3 (an (bt 1 (.b bg) true) (an (.aa true) (aj 3 (an (bt 1 (.b bJ) true) (an (.aa true) (aj 1 [])))))))))] (aQ.aJ (.d9 a2 a2 a2 (NT bJ bn) (cc.b bJ) a2))))
  (fun a2 =>
  .ret (bu [(J 2),.az (aj 2 (an (bt 1 (.b r1) true) (aj 3 (an (bt 1 (.b bg) true) (an (.aa true) (aj 1 (cD 3 (an (.aa false) (aj 1 [])))))))))] (aQ.aJ (.de a2 a2 a2 a2))))))
  (fun ae =>
  .ret (bu [(J 2),.az (aj 2 (an (bt 1 (.b r1) true) (aj 1 (cD 3 (an (.aa false) (aj 1 (cD 3 (aj 2 []))))))))] (cb.aJ (.eX ae ae ae ae c6 c6 c6)))))
def ID (bR:b3)(dM:ByteArray):Option Bool :=
 some (bR.ld.toList == dM.toList)
theorem VF {bR:b3}{dM:ByteArray}:bB (ID bR dM) (fun r=>Con bc 71 [.agg (b9 bR),.d6 1 [[.s dM]] 0 0] [] (.b r) []):=by
 unfold ID
 exact .ret (bu [(J 2),(J 5)] .nil)
def Fl (aN:List b3)(jZ:ByteArray)(dA:Int):Int→S:=fun dq=>dr [(0,.isl 4 (aN.map b9)),(1,.fn 71 [.d6 1 [[.s jZ]] 0 0]),(7,.n .i64 dA),(8,.n .i64 dq)] []
def MH (aN:List b3)(jZ:ByteArray)(dA:Int):((Unit)⊕(Int))→du
 | .inl a=>⟨some 0,[],[]⟩
 | .inr a=>⟨none,[(4,.n .i64 a)],[]⟩
def Fm (aN:List b3)(jZ:ByteArray)(dA dq:Int):Option ((Int)⊕((Unit)⊕(Int))) :=
 if (decide (dq<dA))=true then
  if 0≤dq∧dq<aN.length then
  aN[dq.toNat]? >>= fun aD =>
  ID aD jZ >>= fun aU =>
  if aU=true then
   some (.inr (.inr dq))
  else
   some (.inl (R (dq+(1:Int))))
  else none
 else
  some (.inr (.inl ()))
def CF (aN:List b3)(jZ:ByteArray)(dA dq:Int):Option ((Unit)⊕(Int)):=iter (fun w:Int=>Fm aN jZ dA w) dq
theorem Tf {aN:List b3}{jZ:ByteArray}{dA dq:Int}:bB (Fm aN jZ dA dq) (dP bc 19 0 70 [1,0,1,0,0] (Fl aN jZ dA dq) (Fl aN jZ dA) (MH aN jZ dA)):=by
 unfold Fm
 exact .ite (fun h1 =>
  .aZ fun o =>
  .ar fun aD au =>
  .ar fun aU a2 =>
  (let t1:List bY:=[(J 1),.aa true,(J 2),.az (aj 4 (an (.b7 (b9 aD)) (an (bt 2 (.b aU) true) [])))];
  have aQ:=((.d9 h1 o.1 (cQ b9 o.2) (bX b9 au) (VF aU a2) (cc.b aU)):cz _);
  .ite (fun bd =>
  .ret (bj (t1.append [.aa true,(J 2),.aL [] [] (ba [4])]) (aQ.aJ (.e1 bd))))
  (fun bd =>
  .ret (bj (t1.append [.aa false,(J 2),.aL [] [] [(0,ii),(1,.comp [.dM .id]),(7,ii),(8,ii)]]) (aQ.aJ (.e1 bd))))))
  (fun h1 =>
  .ret (bj [(J 1),.aa false,.aL [] [] []] (.e1 h1)))
theorem MJ {aN:List b3}{jZ:ByteArray}{dA dq:Int}{r} (h:CF aN jZ dA dq=some r):dQ bc 19 0 70 [1,0,1,0,0] (Fl aN jZ dA) (MH aN jZ dA) dq r:=dR (fun _=>Tf) h
def CJ (aN:List b3)(oq:ByteArray):Option Int :=
 CF aN oq (len_ b9 aN) 0 >>= fun r1 =>
 match r1 with
 | .inl dp=>(some (-1))
 | .inr dp=>(some dp)
theorem Ty {aN:List b3}{oq:ByteArray}:bB (CJ aN oq) (fun r=>Con bc 70 [.isl 4 (aN.map b9),.fn 71 [.d6 1 [[.s oq]] 0 0]] [] (.n .i64 r) []):=by
 unfold CJ
 exact .ar fun r1 o =>
  (let t1:List bY:=[(J 1),(J 3),.aL [] [] [(0,ii),(1,.comp [.dM .id]),(7,ii),(8,ii)]];
  (by
  rcases r1 with dp|dp
  ·exact (.ret (bu (t1.append [.sub (.exit 0) [] [],(J 1)]) (.e1 (MJ o))))
  ·exact (.ret (bu (t1.append [.sub (.ret) [(4,.n .i64 dp)] []]) (.e1 (MJ o))))))
def zz (aN:cS)(kB:ByteArray):Option Int :=
 CJ aN.b1 kB >>= fun r1 =>
 some r1
theorem Wh {aN:cS}{kB:ByteArray}:bB (zz aN kB) (fun r=>Con bc 47 [.agg (hT aN),.s kB] [] (.n .i64 r) []):=by
 unfold zz
 exact .ar fun r1 o =>
  .ret (bu [(J 3),.az (br 3 (.call {ac:=[ii,.comp [.ptr [.id]]],r:= .n .i64 r1,fP:=true,fU:=[1]}) 1)] (.bT (qF (Qh kB):jM [[.s kB]]) (Ty r1 o) (cc.n .i64 r1)))
def zc (aN:cS)(mu:cj):Option Bool :=
 if (decide (mu.dF<(0:Int)))=true then
  some false
 else
  if (decide ((len_ b9 aN.b1)≤mu.dF))=true then
   some false
  else
   if (decide (mu.ei<(0:Int)))=true then
    some false
   else
    if (decide ((len_ b9 aN.b1)≤mu.ei))=true then
     some false
    else
     if (decide (mu.jc<(1:Int)))=true then
      some false
     else
      if (decide ((3:Int)<mu.jc))=true then
       some false
      else
       if 0≤mu.dF∧mu.dF<aN.b1.length then
       aN.b1[mu.dF.toNat]? >>= fun mi =>
       if 0≤mu.ei∧mu.ei<aN.b1.length then
       aN.b1[mu.ei.toNat]? >>= fun pJ =>
       if (mi.iG != pJ.iG)=true then
        if mi.la=true then
         some (!pJ.la)
        else
         some true
       else
        if (mi.iH != pJ.iH)=true then
         if mi.la=true then
          some (!pJ.la)
         else
          some true
        else
         some false
       else none
       else none
theorem Uc {aN:cS}{mu:cj}:bB (zc aN mu) (fun r=>Con bc 50 [.d6 2 [(hT aN)] 0 0,.agg (cv mu)] [] (.b r) []):=by
 unfold zc
 exact .ite (fun h1 =>
  .ret (bu [(J 2),(J 6),.az (aj 4 (cD 4 (an (.aa true) (aj 1 (cD 3 (aj 2 (cD 4 (aj 2 (cD 3 (aj 2 (cD 3 (aj 1 [])))))))))))),.aa true,(J 1)] (.bl h1 h1 h1 h1 h1 cJ cJ cJ (.bl cJ cJ cJ cJ cJ cJ cJ cJ (.bT cJ cJ cJ)))))
  (fun h1 =>
  .ite (fun o =>
  .ret (bu [(J 2),(J 6),.az (aj 8 (an (.aa false) (aj 1 (cD 3 (an (.aa true) (aj 1 (cD 4 (aj 2 (cD 3 (aj 2 (cD 3 (aj 1 [])))))))))))),.aa true,(J 1)] (.bl h1 h1 h1 h1 h1 o o o (.bl o cJ cJ cJ cJ cJ cJ cJ (.de cJ cJ cJ cJ)))))
  (fun o =>
  (have cb:=((.bl h1 h1 h1 h1 h1 o o o (.e1 o)):cz _);
  .ite (fun ae =>
  .ret (bu [(J 2),(J 6),.az (aj 8 (an (.aa false) (aj 4 (an (.aa false) (aj 1 (cD 4 (an (.aa true) (aj 1 (cD 3 (aj 2 (cD 3 (aj 1 [])))))))))))),.aa true,(J 1)] (cb.aJ (.bl ae ae ae ae ae cJ cJ cJ (.de cJ cJ cJ cJ)))))
  (fun ae =>
  .ite (fun au =>
  .ret (bu [(J 2),(J 6),.az (aj 8 (an (.aa false) (aj 4 (an (.aa false) (aj 5 (an (.aa false) (aj 1 (cD 3 (an (.aa true) (aj 1 (cD 3 (aj 1 [])))))))))))),.aa true,(J 1)] (cb.aJ (.bl ae ae ae ae ae au au au (.dw au cJ cJ cJ cJ)))))
  (fun au =>
  (have aQ:=cb.aJ (.bl ae ae ae ae ae au au au (.e1 au));
  .ite (fun aA =>
  .ret (bu [(J 2),(J 6),.az (aj 8 (an (.aa false) (aj 4 (an (.aa false) (aj 5 (an (.aa false) (aj 4 (an (.aa false) (aj 1 (cD 3 (an (.aa true) []))))))))))),.aa true,(J 1)] (aQ.aJ (.dw aA aA aA aA cJ))))
  (fun aA =>
  (let t3:List bY:=[(J 2),(J 6),.az (aj 8 (an (.aa false) (aj 4 (an (.aa false) (aj 5 (an (.aa false) (aj 4 (an (.aa false) (aj 4 (an (.aa false) []))))))))))];
  .ite (fun a2 =>
  .ret (bu (t3.append [.aa true,(J 1)]) (aQ.aJ (.dw aA aA aA aA a2))))
  (fun a2 =>
  .aZ fun bd =>
  .ar fun mi cy =>
  .aZ fun cN =>
  .ar fun pJ e6 =>
  (let t4:List bY:=t3.append [.aa false,.az (aj 7 (an (.b7 (b9 mi)) (br 7 (.b7 (b9 pJ)) 4)))];
  have mj:=aQ.aJ (.bl aA aA aA aA a2 bd.1 (cQ b9 bd.2) (bX b9 cy) (.bT cN.1 (cQ b9 cN.2) (bX b9 e6)));
  .ite (fun ez =>
  (have kK:=mj.aJ (.bl ez ez ez ez ez ez cJ cJ (.e1 cJ));
  .ite (fun eA =>
  .ret (bu (t4.append [.az (aj 6 (cD 5 (an (.aa true) (br 6 (.aa true) 3))))]) (kK.aJ (.dw eA eA cJ eA cJ))))
  (fun eA =>
  .ret (bu (t4.append [.az (aj 6 (cD 5 (an (.aa true) (aj 4 (cD 2 (an (.aa false) (aj 3 [])))))))]) (kK.aJ (.dw eA eA cJ eA cJ))))))
  (fun ez =>
  .ite (fun eA =>
  (have kK:=mj.aJ (.bl ez ez ez ez ez ez eA eA (.e1 eA));
  .ite (fun fW =>
  .ret (bu (t4.append [.az (aj 11 (an (.aa false) (aj 6 (an (.aa true) (br 1 (.aa true) 1)))))]) (kK.aJ (.d9 fW fW eA fW eA eA))))
  (fun fW =>
  .ret (bu (t4.append [.az (aj 11 (an (.aa false) (aj 4 (cD 2 (an (.aa false) (br 1 (.aa true) 1))))))]) (kK.aJ (.d9 fW fW eA fW eA eA))))))
  (fun eA =>
  .ret (bu (t4.append [.az (aj 11 (an (.aa false) (aj 1 (cD 3 (aj 2 (cD 2 (an (.aa false) (aj 1 []))))))))]) (mj.aJ (.bl ez ez ez ez ez ez eA eA (.de eA eA eA eA))))))))))))))))
def xe (mu:cj)(dM:cS):Option Bool :=
 zc dM mu >>= fun r1 =>
 some (!r1)
theorem Vz {mu:cj}{dM:cS}:bB (xe mu dM) (fun r=>Con bc 49 [.agg (cv mu),.d6 2 [(hT dM)] 0 0] [] (.b r) []):=by
 unfold xe
 exact .ar fun r1 o =>
  .ret (bu [(J 2),.az (br 1 (bt 2 (.b r1) true) 2)] (.aE (Uc r1 o) (cc.b r1)))
def Fk (aN:List cj)(jZ:List b3)(ot:List cj)(dA:Int):Int→S:=fun dq=>dr [(0,.isl 3 (aN.map cv)),(1,.fn 49 [.d6 2 [[.isl 4 (jZ.map b9),.isl 3 (ot.map cv)]] 0 0]),(7,.n .i64 dA),(8,.n .i64 dq)] []
def MG (aN:List cj)(jZ:List b3)(ot:List cj)(dA:Int):((Unit)⊕(Int))→du
 | .inl a=>⟨some 0,[],[]⟩
 | .inr a=>⟨none,[(4,.n .i64 a)],[]⟩
def pV (aN:List cj)(jZ:List b3)(ot:List cj)(dA dq:Int):Option ((Int)⊕((Unit)⊕(Int))) :=
 if (decide (dq<dA))=true then
  if 0≤dq∧dq<aN.length then
  aN[dq.toNat]? >>= fun aD =>
  xe aD (⟨jZ,ot⟩:cS) >>= fun aU =>
  if aU=true then
   some (.inr (.inr dq))
  else
   some (.inl (R (dq+(1:Int))))
  else none
 else
  some (.inr (.inl ()))
def y4 (aN:List cj)(jZ:List b3)(ot:List cj)(dA dq:Int):Option ((Unit)⊕(Int)):=iter (fun w:Int=>pV aN jZ ot dA w) dq
theorem Te {aN:List cj}{jZ:List b3}{ot:List cj}{dA dq:Int}:bB (pV aN jZ ot dA dq) (dP bc 19 0 72 [1,0,1,0,0] (Fk aN jZ ot dA dq) (Fk aN jZ ot dA) (MG aN jZ ot dA)):=by
 unfold pV
 exact .ite (fun h1 =>
  .aZ fun o =>
  .ar fun aD au =>
  .ar fun aU a2 =>
  (let t1:List bY:=[(J 1),.aa true,(J 2),.az (aj 4 (an (.b7 (cv aD)) (an (bt 2 (.b aU) true) [])))];
  have aQ:=((.d9 h1 o.1 (cQ cv o.2) (bX cv au) (Vz aU a2) (cc.b aU)):cz _);
  .ite (fun bd =>
  .ret (bj (t1.append [.aa true,(J 2),.aL [] [] (ba [4])]) (aQ.aJ (.e1 bd))))
  (fun bd =>
  .ret (bj (t1.append [.aa false,(J 2),.aL [] [] [(0,ii),(1,.comp [.dM .id]),(7,ii),(8,ii)]]) (aQ.aJ (.e1 bd))))))
  (fun h1 =>
  .ret (bj [(J 1),.aa false,.aL [] [] []] (.e1 h1)))
theorem MI {aN:List cj}{jZ:List b3}{ot:List cj}{dA dq:Int}{r} (h:y4 aN jZ ot dA dq=some r):dQ bc 19 0 72 [1,0,1,0,0] (Fk aN jZ ot dA) (MG aN jZ ot dA) dq r:=dR (fun _=>Te) h
def y7 (aN:List cj)(oq:cS):Option Int :=
 y4 aN oq.b1 oq.bO (len_ cv aN) 0 >>= fun r1 =>
 match r1 with
 | .inl dp=>(some (-1))
 | .inr dp=>(some dp)
theorem Tr {aN:List cj}{oq:cS}:bB (y7 aN oq) (fun r=>Con bc 72 [.isl 3 (aN.map cv),.fn 49 [.d6 2 [(hT oq)] 0 0]] [] (.n .i64 r) []):=by
 unfold y7
 exact .ar fun r1 o =>
  (let t1:List bY:=[(J 1),(J 3),.aL [] [] [(0,ii),(1,.comp [.dM .id]),(7,ii),(8,ii)]];
  (by
  rcases r1 with dp|dp
  ·exact (.ret (bu (t1.append [.sub (.exit 0) [] [],(J 1)]) (.e1 (MI o))))
  ·exact (.ret (bu (t1.append [.sub (.ret) [(4,.n .i64 dp)] []]) (.e1 (MI o))))))
def y5 (aN:List cj)(oq:cS):Option Bool :=
 y7 aN oq >>= fun r1 =>
 some (decide ((0:Int)≤r1))
theorem Tm {aN:List cj}{oq:cS}:bB (y5 aN oq) (fun r=>Con bc 48 [.isl 3 (aN.map cv),.fn 49 [.d6 2 [(hT oq)] 0 0]] [] (.b r) []):=by
 unfold y5
 exact .ar fun r1 o =>
  .ret (bu [(J 1),.az (br 2 (bt 2 (.n .i64 r1) true) 2)] (.aE (Tr r1 o) (cc.n .i64 r1)))
def Gb (e5:List b3)(oF:Int)(aF:List cj):Int→S:=fun nY=>dr [(1,.ref 0 0 0 0),(16,.isl 4 (e5.map b9)),(17,.n .i64 oF),(18,.n .i64 nY)] [[ab.mk 2 [[.isl 4 (e5.map b9),.isl 3 (aF.map cv)]] .live]]
def Gu (e5:List b3)(oF:Int)(aF:List cj):((Unit)⊕(Unit))→du
 | .inl a=>⟨some 0,[(1,.ref 0 0 0 0)],[[ab.mk 2 [[.isl 4 (e5.map b9),.isl 3 (aF.map cv)]] .live]]⟩
 | .inr a=>⟨none,[(2,.b false)],[]⟩
def CO (e5:List b3)(oF:Int)(aF:List cj)(nY:Int):Option ((Int)⊕((Unit)⊕(Unit))) :=
 if (decide (nY<oF))=true then
  if 0≤nY∧nY<e5.length then
  e5[nY.toNat]? >>= fun aD =>
  z2 aD >>= fun aU =>
  if aU=true then
   zz (⟨e5,aF⟩:cS) aD.ld >>= fun c0 =>
   if (c0 != nY)=true then
    some (.inr (.inr ()))
   else
    some (.inl (R (nY+(1:Int))))
  else
   some (.inr (.inr ()))
  else none
 else
  some (.inr (.inl ()))
def CX (e5:List b3)(oF:Int)(aF:List cj)(nY:Int):Option ((Unit)⊕(Unit)):=iter (fun w:Int=>CO e5 oF aF w) nY
theorem TY {e5:List b3}{oF:Int}{aF:List cj}{nY:Int}:bB (CO e5 oF aF nY) (dP bc 40 0 32 [1,1,0,1,0,0] (Gb e5 oF aF nY) (Gb e5 oF aF) (Gu e5 oF aF)):=by
 unfold CO
 exact .ite (fun h1 =>
  .aZ fun o =>
  .ar fun aD au =>
  .ar fun aU a2 =>
  (let t1:List bY:=[(J 1),.aa true,.az (br 2 (.b7 (b9 aD)) 3)];
  have aQ:=((.d9 h1 o.1 (cQ b9 o.2) (bX b9 au) (Xj aU a2) (cc.b aU)):cz _);
  .ite (fun bd =>
  .ar fun c0 cy =>
  (let t3:List bY:=t1.append [.az (aj 1 (an (bt 1 (.b aU) true) (aj 5 (an (bt 2 (.n .i64 c0) true) (aj 2 (an (.aa false) []))))))];
  have eR:=aQ.aJ (.bl (c1 bd) (c1 bd) (c1 bd) (c1 bd) (Wh c0 cy) (cc.n .i64 c0) (c1 bd) (c1 bd) (.e1 (c1 bd)));
  .ite (fun cN =>
  .ret (bj (t3.append [.aa true,(J 1),.aL [] [] (ba [2])]) (eR.aJ (.e1 cN))))
  (fun cN =>
  .ret (bj (t3.append [.aa false,(J 2),.aL [0] [.box [.id,.id]] (ba [1,16,17,18])]) (eR.aJ (.e1 cN))))))
  (fun bd =>
  .ret (bj (t1.append [.az (aj 1 (an (bt 1 (.b aU) true) (aj 2 (cD 6 (an (.aa true) []))))),.aa true,(J 1),.aL [] [] (ba [2])]) (aQ.aJ (.gU (cW bd) (cW bd) (cW bd) (cW bd) (cW bd) (cW bd) (cW bd) cJ))))))
  (fun h1 =>
  .ret (bj [(J 1),.aa false,.aL [0] [.box [.id,.id]] (ba [1])] (.e1 h1)))
theorem M5 {e5:List b3}{oF:Int}{aF:List cj}{nY:Int}{r} (h:CX e5 oF aF nY=some r):dQ bc 40 0 32 [1,1,0,1,0,0] (Gb e5 oF aF) (Gu e5 oF aF) nY r:=dR (fun _=>TY) h
def xk (aN:cS):Option Bool :=
 if (decide ((6:Int)<(len_ b9 aN.b1)))=true then
  some false
 else
  if (decide ((8:Int)<(len_ cv aN.bO)))=true then
   some false
  else
   CX aN.b1 (len_ b9 aN.b1) aN.bO 0 >>= fun bk =>
   match bk with
   | .inl fm=>(y5 aN.bO aN >>= fun ck =>
    some (!ck))
   | .inr fm=>(some false)
theorem V2 {aN:cS}:bB (xk aN) (fun r=>Con bc 32 [.agg (hT aN)] [] (.b r) []):=by
 unfold xk
 exact .ite (fun h1 =>
  .ret (bu [(J 2),.az (aj 5 (cD 4 (an (.aa true) []))),.aa true,(J 1)] (.d9 h1 h1 h1 h1 h1 cJ)))
  (fun h1 =>
  (let t1:List bY:=[(J 2),.az (aj 9 (an (.aa false) []))];
  .ite (fun o =>
  .ret (bu (t1.append [.aa true,(J 1)]) (.d9 h1 h1 h1 h1 h1 o)))
  (fun o =>
  .ar fun bk au =>
  (let t2:List bY:=t1.append [.aa false,(J 4),.aL [0] [.box [.id,.id]] (ba [1,16,17,18])];
  (by
  rcases bk with fm|fm
  ·exact (.ar fun ck bd =>
  .ret (bu (t2.append [(Gu aN.b1 (len_ b9 aN.b1) aN.bO (.inl fm)).ff,.az (br 3 (.call {ac:=[ii,.comp [.ptr [.id,.id]]],r:= .b ck,fP:=true,fU:=[0]}) 2)]) (.bl h1 h1 h1 h1 h1 o (M5 au) (qF (C3 aN):jM [(hT aN)]) (.aE (Tm ck bd) (cc.b ck)))))
  ·exact (.ret (bu (t2.append [.sub (.ret) [(2,.b false)] []]) (.eX h1 h1 h1 h1 h1 o (M5 au)))))))))
def z3 (a4:Int):Option Bool :=
 if (decide ((-100:Int)≤a4))=true then
  some (decide (a4≤(100:Int)))
 else
  some false
theorem Xk {a4:Int}:bB (z3 a4) (fun r=>Con bc 53 [.n .i64 a4] [] (.b r) []):=by
 unfold z3
 exact .ite (fun h1 =>
  .ret (bu [(J 1),.az (br 5 (.aa true) 1)] (.bT h1 h1 h1)))
  (fun h1 =>
  .ret (bu [(J 1),.az (aj 3 (cD 2 (an (.aa false) (aj 1 []))))] (.bT h1 h1 h1)))
def Da (a4:Int):Option Bool :=
 z3 a4 >>= fun r1 =>
 some (!r1)
theorem Wi {a4:Int}:bB (Da a4) (fun r=>Con bc 52 [.n .i64 a4] [] (.b r) []):=by
 unfold Da
 exact .ar fun r1 o =>
  .ret (bu [(J 1),.az (br 1 (bt 1 (.b r1) true) 2)] (.aE (Xk r1 o) (cc.b r1)))
def Fo (aN:List Int)(dA:Int):Int→S:=fun dq=>dr [(0,.isl 1 (aN.map eI)),(1,.fn 52 []),(7,.n .i64 dA),(8,.n .i64 dq)] []
def MK (aN:List Int)(dA:Int):((Unit)⊕(Int))→du
 | .inl a=>⟨some 0,[],[]⟩
 | .inr a=>⟨none,[(4,.n .i64 a)],[]⟩
def vT (aN:List Int)(dA dq:Int):Option ((Int)⊕((Unit)⊕(Int))) :=
 if (decide (dq<dA))=true then
  if 0≤dq∧dq<aN.length then
  aN[dq.toNat]? >>= fun aD =>
  Da aD >>= fun aU =>
  if aU=true then
   some (.inr (.inr dq))
  else
   some (.inl (R (dq+(1:Int))))
  else none
 else
  some (.inr (.inl ()))
def FD (aN:List Int)(dA dq:Int):Option ((Unit)⊕(Int)):=iter (fun w:Int=>vT aN dA w) dq
theorem Tg {aN:List Int}{dA dq:Int}:bB (vT aN dA dq) (dP bc 19 0 73 [1,0,1,0,0] (Fo aN dA dq) (Fo aN dA) (MK aN dA)):=by
 unfold vT
 exact .ite (fun h1 =>
  .aZ fun o =>
  .ar fun aD au =>
  .ar fun aU a2 =>
  (let t1:List bY:=[(J 1),.aa true,(J 2),.az (aj 4 (an (.b7 (eI aD)) (an (bt 1 (.b aU) true) [])))];
  have aQ:=((.d9 h1 o.1 (cQ eI o.2) (bX eI au) (Wi aU a2) (cc.b aU)):cz _);
  .ite (fun bd =>
  .ret (bj (t1.append [.aa true,(J 2),.aL [] [] (ba [4])]) (aQ.aJ (.e1 bd))))
  (fun bd =>
  .ret (bj (t1.append [.aa false,(J 2),.aL [] [] (ba [0,1,7,8])]) (aQ.aJ (.e1 bd))))))
  (fun h1 =>
  .ret (bj [(J 1),.aa false,.aL [] [] []] (.e1 h1)))
theorem ML {aN:List Int}{dA dq:Int}{r} (h:FD aN dA dq=some r):dQ bc 19 0 73 [1,0,1,0,0] (Fo aN dA) (MK aN dA) dq r:=dR (fun _=>Tg) h
def CL (aN:List Int):Option Int :=
 FD aN (len_ eI aN) 0 >>= fun r1 =>
 match r1 with
 | .inl dp=>(some (-1))
 | .inr dp=>(some dp)
theorem TJ {aN:List Int}:bB (CL aN) (fun r=>Con bc 73 [.isl 1 (aN.map eI),.fn 52 []] [] (.n .i64 r) []):=by
 unfold CL
 exact .ar fun r1 o =>
  (let t1:List bY:=[(J 1),(J 3),.aL [] [] (ba [0,1,7,8])];
  (by
  rcases r1 with dp|dp
  ·exact (.ret (bu (t1.append [.sub (.exit 0) [] [],(J 1)]) (.e1 (ML o))))
  ·exact (.ret (bu (t1.append [.sub (.ret) [(4,.n .i64 dp)] []]) (.e1 (ML o))))))
def CG (aN:List Int):Option Bool :=
 CL aN >>= fun r1 =>
 some (decide ((0:Int)≤r1))
theorem Ts {aN:List Int}:bB (CG aN) (fun r=>Con bc 51 [.isl 1 (aN.map eI),.fn 52 []] [] (.b r) []):=by
 unfold CG
 exact .ar fun r1 o =>
  .ret (bu [(J 1),.az (br 2 (bt 2 (.n .i64 r1) true) 2)] (.aE (TJ r1 o) (cc.n .i64 r1)))
def zU (aN:cS)(dm:List Int):Option Bool :=
 if ((len_ eI dm) == (R ((2:Int)*(len_ b9 aN.b1))))=true then
  CG dm >>= fun b5 =>
  some (!b5)
 else
  some false
theorem W0 {aN:cS}{dm:List Int}:bB (zU aN dm) (fun r=>Con bc 33 [.d6 2 [(hT aN)] 0 0,.isl 1 (dm.map eI)] [] (.b r) []):=by
 unfold zU
 exact .ite (fun h1 =>
  .ar fun b5 ae =>
  .ret (bu [(J 1),.az (aj 11 (an (bt 2 (.b b5) true) (br 1 (.aa true) 1)))] (.d9 h1 h1 (Ts b5 ae) (cc.b b5) h1 h1)))
  (fun h1 =>
  .ret (bu [(J 1),.az (aj 10 (cD 3 (an (.aa false) (aj 1 []))))] (.de h1 h1 h1 h1)))
def Hl (ea:List b3)(dG:List cj)(fr:List (List Int))(gw:Int):Int→S:=fun hc=>dr [(0,.d6 2 [[.isl 4 (ea.map b9),.isl 3 (dG.map cv)]] 0 0),(22,.isl 1 (fr.map (eL 1 eI))),(23,.n .i64 gw),(24,.n .i64 hc)] []
def Nm (ea:List b3)(dG:List cj)(fr:List (List Int))(gw:Int):((Unit)⊕(Unit))→du
 | .inl a=>⟨some 0,[],[]⟩
 | .inr a=>⟨none,[(4,.b false)],[]⟩
def wS (ea:List b3)(dG:List cj)(fr:List (List Int))(gw hc:Int):Option ((Int)⊕((Unit)⊕(Unit))) :=
 if (decide (hc<gw))=true then
  if 0≤hc∧hc<fr.length then
  fr[hc.toNat]? >>= fun aD =>
  zU (⟨ea,dG⟩:cS) aD >>= fun aU =>
  if aU=true then
   some (.inl (R (hc+(1:Int))))
  else
   some (.inr (.inr ()))
  else none
 else
  some (.inr (.inl ()))
def Je (ea:List b3)(dG:List cj)(fr:List (List Int))(gw hc:Int):Option ((Unit)⊕(Unit)):=iter (fun w:Int=>wS ea dG fr gw w) hc
theorem UM {ea:List b3}{dG:List cj}{fr:List (List Int)}{gw hc:Int}:bB (wS ea dG fr gw hc) (dP bc 33 0 20 [1,1,0,1,0,0] (Hl ea dG fr gw hc) (Hl ea dG fr gw) (Nm ea dG fr gw)):=by
 unfold wS
 exact .ite (fun h1 =>
  .aZ fun o =>
  .ar fun aD au =>
  .ar fun aU a2 =>
  (let t1:List bY:=[(J 1),.aa true,.az (br 1 (.b7 ((eL 1 eI) aD)) 1),.az (br 2 (bt 2 (.b aU) true) 1)];
  have aQ:=((.d9 h1 o.1 (cQ (eL 1 eI) o.2) (bX (eL 1 eI) au) (W0 aU a2) (cc.b aU)):cz _);
  .ite (fun bd =>
  .ret (bj (t1.append [.aa false,(J 2),.aL [] [] (ba [0,22,23,24])]) (aQ.aJ (.e1 (c1 bd)))))
  (fun bd =>
  .ret (bj (t1.append [.aa true,(J 1),.aL [] [] (ba [4])]) (aQ.aJ (.e1 (cW bd)))))))
  (fun h1 =>
  .ret (bj [(J 1),.aa false,.aL [] [] []] (.e1 h1)))
theorem Nz {ea:List b3}{dG:List cj}{fr:List (List Int)}{gw hc:Int}{r} (h:Je ea dG fr gw hc=some r):dQ bc 33 0 20 [1,1,0,1,0,0] (Hl ea dG fr gw) (Nm ea dG fr gw) hc r:=dR (fun _=>UM) h
def xy (aN:cS)(jB:List (List Int)):Option Bool :=
 if (decide ((len_ (eL 1 eI) jB)<(1:Int)))=true then
  some false
 else
  if (decide ((6:Int)<(len_ (eL 1 eI) jB)))=true then
   some false
  else
   xk aN >>= fun bk =>
   if bk=true then
    Je aN.b1 aN.bO jB (len_ (eL 1 eI) jB) 0 >>= fun ck =>
    match ck with
    | .inl k6=>(some true)
    | .inr k6=>(some false)
   else
    some false
theorem Xl {aN:cS}{jB:List (List Int)}:bB (xy aN jB) (fun r=>Con bc 20 [.d6 2 [(hT aN)] 0 0,.isl 1 (jB.map (eL 1 eI))] [] (.b r) []):=by
 unfold xy
 exact .ite (fun h1 =>
  .ret (bu [(J 1),.az (aj 4 (cD 3 (an (.aa true) (aj 1 (cD 5 (aj 1 [])))))),.aa true,(J 1)] (.bl h1 h1 h1 h1 cJ cJ cJ cJ (.aE cJ cJ))))
  (fun h1 =>
  .ite (fun o =>
  .ret (bu [(J 1),.az (aj 7 (an (.aa false) (aj 1 (cD 5 (an (.aa true) []))))),.aa true,(J 1)] (.bl h1 h1 h1 h1 o o o o (.bT o o cJ))))
  (fun o =>
  .ar fun bk au =>
  (let t1:List bY:=[(J 1),.az (aj 7 (an (.aa false) (aj 4 (an (bt 1 (.b bk) true) (aj 1 (an (.aa false) []))))))];
  have aQ:=((.bl h1 h1 h1 h1 o o o o (.de (V2 bk au) (cc.b bk) o o)):cz _);
  .ite (fun aA =>
  .ar fun ck bd =>
  (let t3:List bY:=t1.append [.aa false,(J 3),.aL [] [] (ba [0,22,23,24])];
  (by
  rcases ck with k6|k6
  ·exact (.ret (bu (t3.append [.sub (.exit 0) [] [],(J 1)]) (aQ.aJ (.aE (c1 aA) (Nz bd)))))
  ·exact (.ret (bu (t3.append [.sub (.ret) [(4,.b false)] []]) (aQ.aJ (.aE (c1 aA) (Nz bd))))))))
  (fun aA =>
  .ret (bu (t1.append [.aa true,(J 1)]) (aQ.aJ (.e1 (cW aA))))))))
def Fy (ee:List b3)(c7:Int):(Int×(List Int))→S:=fun (cx,ad)=>dr [(3,.bm 0 0 0 ad.length),(9,.isl 4 (ee.map b9)),(10,.n .i64 c7),(11,.n .i64 cx)] [(av 1 eI ad)]
def MN (ee:List b3)(c7:Int):(List Int)→du
 | a=>⟨some 0,[(3,.bm 0 0 0 a.length)],[(av 1 eI a)]⟩
def y6 (ee:List b3)(c7 cx:Int)(ad:List Int):Option ((Int×(List Int))⊕((List Int))) :=
 if (decide (cx<c7))=true then
  if 0≤cx∧cx<ee.length then
  ee[cx.toNat]? >>= fun aD =>
  if aD.la=true then
   some (.inl (R (cx+(1:Int)),ad))
  else
   if (ad++([cx]:List Int)).length*8≤140737488355328 then
   some (.inl (R (cx+(1:Int)),ad++([cx]:List Int)))
   else none
  else none
 else
  some (.inr ad)
def FL (ee:List b3)(c7 cx:Int)(ad:List Int):Option ((List Int)):=iter (fun w:Int×(List Int)=>y6 ee c7 w.1 w.2) (cx,ad)
theorem Tn {ee:List b3}{c7 cx:Int}{ad:List Int}:bB (y6 ee c7 cx ad) (dP bc 25 0 76 [1,1,0,1,0,0] (Fy ee c7 (cx,ad)) (Fy ee c7) (MN ee c7)):=by
 unfold y6
 exact .ite (fun h1 =>
  .aZ fun o =>
  .ar fun aD au =>
  (let t1:List bY:=[(J 1),.aa true,.az (br 2 (.b7 (b9 aD)) 3),(J 3)];
  have aQ:=((.de h1 o.1 (cQ b9 o.2) (bX b9 au)):cz _);
  .ite (fun aA =>
  .ret (bj (t1.append [.aa false,(J 2),.aL [0] [.pure] (ba [3,9,10,11])]) (aQ.aJ (.aE (c1 aA) (aK 1 .live aP ad)))))
  (fun aA =>
  .aZ fun a2 =>
  .ret (let q1:=(ad++([cx]:List Int));bj (t1.append [.aa true,.az (br 3 (.aJ (q1.length)) 1),(J 2),.aL [14] [.cO (av 1 eI q1)] (ba [3,9,10,11])]) (aQ.aJ (.eX (cW aA) (ha eI cx) (ho eI ad) (gR eI ad cx) a2 (db 1 .live (hy eI ad cx)) (aK 1 .live aP q1)))))))
  (fun h1 =>
  .ret (bj [(J 1),.aa false,.aL [0] [.pure] (ba [3])] (.aE h1 (aK 1 .live aP ad))))
theorem TB {ee:List b3}{c7 cx:Int}{ad:List Int}{r} (h:FL ee c7 cx ad=some r):dQ bc 25 0 76 [1,1,0,1,0,0] (Fy ee c7) (MN ee c7) (cx,ad) r:=dR (fun _=>Tn) h
def wh (aN:cS):Option (List Int) :=
 FL aN.b1 (len_ b9 aN.b1) 0 ([]:List Int) >>= fun r1 =>
 some r1
theorem MS {aN:cS}:bB (wh aN) (fun r=>Con bc 76 [.d6 2 [(hT aN)] 0 0] [] (.isl 1 (r.map eI)) []):=by
 unfold wh
 exact .ar fun r1 o =>
  .ret (bu [(J 1),(J 1),(J 6),.ti 3 1,.aL [8] [.cO (av 1 eI ([]:List Int))] [(3,f5 (([]:List Int).length)),(9,ii),(10,ii),(11,ii)],.sub (.exit 0) [(3,.bm 0 0 0 r1.length)] [(av 1 eI r1)],(J 2)] (.eX (db 1 .live (pP eI)) (aK 1 .live aP ([]:List Int)) (fK Int) (TB o) (gQ eI r1) (fY eI r1) (dX aP r1)) (.bx (.dM (.e7 (r1.map eI)))))
def rm (aN:cS)(bw:Int):Option (Int×Int) :=
 if 0≤bw∧bw<aN.bO.length then
 aN.bO[bw.toNat]? >>= fun d8 =>
 if 0≤d8.ei∧d8.ei<aN.b1.length then
 aN.b1[d8.ei.toNat]? >>= fun ky =>
 if 0≤d8.dF∧d8.dF<aN.b1.length then
 aN.b1[d8.dF.toNat]? >>= fun mi =>
 some (R (ky.iG-mi.iG),R (ky.iH-mi.iH))
 else none
 else none
 else none
theorem UC {aN:cS}{bw:Int}:bB (rm aN bw) (fun r=>Con bc 97 [.d6 2 [(hT aN)] 0 0,.n .i64 bw] [] (.d7 [.n .i64 r.1,.n .i64 r.2]) []):=by
 unfold rm
 exact .aZ fun h1 =>
  .ar fun d8 ae =>
  .aZ fun au =>
  .ar fun ky a2 =>
  .aZ fun bd =>
  .ar fun mi cy =>
  .ret (bu [(J 2),.az (br 6 (.b7 (cv d8)) 2),.az (aj 8 (an (.b7 (b9 ky)) (aj 8 (an (.b7 (b9 mi)) (aj 9 (an (.b7 (b9 ky)) (br 8 (.b7 (b9 mi)) 3)))))))] (.bl h1.1 (cQ cv h1.2) (bX cv ae) au.1 (cQ b9 au.2) (bX b9 a2) bd.1 (cQ b9 bd.2) (.eX (bX b9 cy) au.1 (cQ b9 au.2) (bX b9 a2) bd.1 (cQ b9 bd.2) (bX b9 cy))))
def Ft (ea:List b3)(dG:List cj)(bR:Int)(b4:List Int)(cn eN dl:Int)(ad:List (List Int)):(Int×(List Int)×(List Int))→S:=fun (gr,aq,aH)=>dr [(0,.d6 2 [[.isl 4 (ea.map b9),.isl 3 (dG.map cv)]] 0 0),(3,.bm 0 0 0 ad.length),(5,.n .i64 bR),(6,.bm 1 0 0 aq.length),(7,.bm 2 0 0 aH.length),(13,.isl 1 (b4.map eI)),(14,.n .i64 cn),(15,.n .i64 eN),(34,.isl 3 (dG.map cv)),(35,.n .i64 dl),(36,.n .i64 gr)] [(av 1 (eL 1 eI) ad),(av 1 eI aq),(av 1 eI aH)]
def Fz (ea:List b3)(dG:List cj)(bR:Int)(b4:List Int)(cn eN dl:Int)(ad:List (List Int)):((List Int)×(List Int))→du
 | a=>⟨some 2,[(0,.d6 2 [[.isl 4 (ea.map b9),.isl 3 (dG.map cv)]] 0 0),(3,.bm 0 0 0 ad.length),(6,.bm 1 0 0 a.1.length),(7,.bm 2 0 0 a.2.length),(13,.isl 1 (b4.map eI)),(14,.n .i64 cn),(15,.n .i64 eN)],[(av 1 (eL 1 eI) ad),(av 1 eI a.1),(av 1 eI a.2)]⟩
def vX (ea:List b3)(dG:List cj)(bR:Int)(b4:List Int)(cn eN dl:Int)(ad:List (List Int))(gr:Int)(aq aH:List Int):Option ((Int×(List Int)×(List Int))⊕((List Int)×(List Int))) :=
 if (decide (gr<dl))=true then
  if 0≤gr∧gr<dG.length then
  dG[gr.toNat]? >>= fun aD =>
  rm (⟨ea,dG⟩:cS) gr >>= fun aU =>
  if (bR == aD.dF)=true then
   if 0≤gr∧gr<(aq.length:Nat) then
   if (0+gr.toNat)<aq.length then
   if 0≤gr∧gr<(aH.length:Nat) then
   if (0+gr.toNat)<aH.length then
   some (.inl (R (gr+(1:Int)),aq.set (0+gr.toNat) aU.1,aH.set (0+gr.toNat) aU.2))
   else none
   else none
   else none
   else none
  else
   if (bR == aD.ei)=true then
    if 0≤gr∧gr<(aq.length:Nat) then
    if (0+gr.toNat)<aq.length then
    if 0≤gr∧gr<(aH.length:Nat) then
    if (0+gr.toNat)<aH.length then
    some (.inl (R (gr+(1:Int)),aq.set (0+gr.toNat) (R (0-aU.1)),aH.set (0+gr.toNat) (R (0-aU.2))))
    else none
    else none
    else none
    else none
   else
    some (.inl (R (gr+(1:Int)),aq,aH))
  else none
 else
  some (.inr (aq,aH))
def CK (ea:List b3)(dG:List cj)(bR:Int)(b4:List Int)(cn eN dl:Int)(ad:List (List Int))(gr:Int)(aq aH:List Int):Option ((List Int)×(List Int)):=iter (fun w:Int×(List Int)×(List Int)=>vX ea dG bR b4 cn eN dl ad w.1 w.2.1 w.2.2) (gr,aq,aH)
theorem Tk {ea:List b3}{dG:List cj}{bR:Int}{b4:List Int}{cn eN dl:Int}{ad:List (List Int)}{gr:Int}{aq aH:List Int}:bB (vX ea dG bR b4 cn eN dl ad gr aq aH) (dP bc 82 0 74 [1,1,0,1,0,0,1,1,0,0,1,1,0,1,0,0] (Ft ea dG bR b4 cn eN dl ad (gr,aq,aH)) (Ft ea dG bR b4 cn eN dl ad) (Fz ea dG bR b4 cn eN dl ad)):=by
 unfold vX
 exact .ite (fun h1 =>
  .aZ fun o =>
  .ar fun aD au =>
  .ar fun aU a2 =>
  (let t1:List bY:=[(J 1),.aa true,.az (br 2 (.b7 (cv aD)) 3),.az (br 2 (bt 2 (.d7 [.n .i64 aU.1,.n .i64 aU.2]) true) 5),(J 1),(J 4)];
  have aQ:=((.d9 h1 o.1 (cQ cv o.2) (bX cv au) (UC aU a2) (Ee (o6 (cc.n .i64 aU.1) (o6 (cc.n .i64 aU.2) uN)))):cz _);
  .ite (fun bd =>
  .aZ fun bn =>
  .aZ fun cy =>
  .aZ fun cN =>
  .aZ fun eW =>
  .ret (bj (t1.append [.aa true,.az (aj 7 (an .fV (aj 1 (an .fV [])))),(J 2),.aL [0,1,2] [.pure,.cO (av 1 eI (aq.set (0+gr.toNat) aU.1)),.cO (av 1 eI (aH.set (0+gr.toNat) aU.2))] [(0,ii),(3,ii),(5,ii),(6,f5 ((aq.set (0+gr.toNat) aU.1).length)),(7,f5 ((aH.set (0+gr.toNat) aU.2).length)),(13,ii),(14,ii),(15,ii),(34,ii),(35,ii),(36,ii)]]) (aQ.aJ (.bl bd bn.1 bn.2 (hH eI cy) (hx 1) cN.1 cN.2 (hH eI eW) (.gU (hx 1) (aK 1 .live (l4 (sz:=1) aP) ad) (db 1 .live (gD (cY eI aq) (0+gr.toNat) aU.1)) (aK 1 .live aP (aq.set (0+gr.toNat) aU.1)) (db 1 .live (gD (cY eI aH) (0+gr.toNat) aU.2)) (aK 1 .live aP (aH.set (0+gr.toNat) aU.2)) (hX (dO aq) (0+gr.toNat) aU.1) (hX (dO aH) (0+gr.toNat) aU.2))))))
  (fun bd =>
  .ite (fun bn =>
  .aZ fun cy =>
  .aZ fun cN =>
  .aZ fun eW =>
  .aZ fun e6 =>
  .ret (let q1:=R (0-aU.1);let a1:=R (0-aU.2);bj (t1.append [.aa false,(J 4),.aa true,.az (aj 9 (an .fV (aj 1 (an .fV [])))),(J 2),.aL [0,1,2] [.pure,.cO (av 1 eI (aq.set (0+gr.toNat) q1)),.cO (av 1 eI (aH.set (0+gr.toNat) a1))] [(0,ii),(3,ii),(5,ii),(6,f5 ((aq.set (0+gr.toNat) q1).length)),(7,f5 ((aH.set (0+gr.toNat) a1).length)),(13,ii),(14,ii),(15,ii),(34,ii),(35,ii),(36,ii)]]) (aQ.aJ (.bl bd bn cy.1 cy.2 (hH eI cN) (hx 1) eW.1 eW.2 (.bl (hH eI e6) (hx 1) (aK 1 .live (l4 (sz:=1) aP) ad) (db 1 .live (gD (cY eI aq) (0+gr.toNat) q1)) (aK 1 .live aP (aq.set (0+gr.toNat) q1)) (db 1 .live (gD (cY eI aH) (0+gr.toNat) a1)) (aK 1 .live aP (aH.set (0+gr.toNat) a1)) (hX (dO aq) (0+gr.toNat) q1) (.e1 (hX (dO aH) (0+gr.toNat) a1)))))))
  (fun bn =>
  .ret (bj (t1.append [.aa false,(J 4),.aa false,(J 2),.aL [0,1,2] [.pure,.pure,.pure] (ba [0,3,5,6,7,13,14,15,34,35,36])]) (aQ.aJ (.dw bd bn (aK 1 .live (l4 (sz:=1) aP) ad) (aK 1 .live aP aq) (aK 1 .live aP aH))))))))
  (fun h1 =>
  .ret (bj [(J 1),.aa false,.aL [0,1,2] [.pure,.pure,.pure] (ba [0,3,6,7,13,14,15])] (.de h1 (aK 1 .live (l4 (sz:=1) aP) ad) (aK 1 .live aP aq) (aK 1 .live aP aH))))
theorem Tz {ea:List b3}{dG:List cj}{bR:Int}{b4:List Int}{cn eN dl:Int}{ad:List (List Int)}{gr:Int}{aq aH:List Int}{r} (h:CK ea dG bR b4 cn eN dl ad gr aq aH=some r):dQ bc 82 0 74 [1,1,0,1,0,0,1,1,0,0,1,1,0,1,0,0] (Ft ea dG bR b4 cn eN dl ad) (Fz ea dG bR b4 cn eN dl ad) (gr,aq,aH) r:=dR (fun _=>Tk) h
def Fu (ea:List b3)(dG:List cj)(b4:List Int)(cn:Int):(Int×(List (List Int)))→S:=fun (eN,ad)=>dr [(0,.d6 2 [[.isl 4 (ea.map b9),.isl 3 (dG.map cv)]] 0 0),(3,.bm 0 0 0 ad.length),(13,.isl 1 (b4.map eI)),(14,.n .i64 cn),(15,.n .i64 eN)] [(av 1 (eL 1 eI) ad)]
def MM (ea:List b3)(dG:List cj)(b4:List Int)(cn:Int):(List (List Int))→du
 | a=>⟨some 0,[(3,.bm 0 0 0 a.length)],[(av 1 (eL 1 eI) a)]⟩
def vY (ea:List b3)(dG:List cj)(b4:List Int)(cn eN:Int)(ad:List (List Int)):Option ((Int×(List (List Int)))⊕((List (List Int)))) :=
 if (decide (eN<cn))=true then
  if 0≤eN∧eN<b4.length then
  b4[eN.toNat]? >>= fun aD =>
  if 0≤(len_ cv dG)∧(8:Int)*(len_ cv dG)≤281474976710656∧(len_ cv dG)<9223372036854775808 then
  CK ea dG aD b4 cn eN (len_ cv dG) ad 0 (List.replicate (len_ cv dG).toNat 0:List Int) (List.replicate (len_ cv dG).toNat 0:List Int) >>= fun ck =>
  if (ad++([ck.1,ck.2]:List (List Int))).length*24≤140737488355328 then
  some (.inl (R (eN+(1:Int)),ad++([ck.1,ck.2]:List (List Int))))
  else none
  else none
  else none
 else
  some (.inr ad)
def FK (ea:List b3)(dG:List cj)(b4:List Int)(cn eN:Int)(ad:List (List Int)):Option ((List (List Int))):=iter (fun w:Int×(List (List Int))=>vY ea dG b4 cn w.1 w.2) (eN,ad)
theorem Tl {ea:List b3}{dG:List cj}{b4:List Int}{cn eN:Int}{ad:List (List Int)}:bB (vY ea dG b4 cn eN ad) (dP bc 82 0 74 [1,1,0,1,0,0] (Fu ea dG b4 cn (eN,ad)) (Fu ea dG b4 cn) (MM ea dG b4 cn)):=by
 unfold vY
 exact .ite (fun h1 =>
  .aZ fun o =>
  .ar fun aD au =>
  .aZ fun aA =>
  .ar fun ck bd =>
  .aZ fun bn =>
  .ret (let a1:=(ad++([ck.1,ck.2]:List (List Int)));let b0:=len_ cv dG;let q1:=(List.replicate b0.toNat 0:List Int);let ct:=l4 (sz:=1) aP;let dh:=db 1 .live (lx eI b0.toNat 0);bj [(J 1),.aa true,.az (br 1 (.b7 (eI aD)) 1),(J 14),(J 6),.aL [0,10,16] [.pure,.cO (av 1 eI q1),.cO (av 1 eI q1)] [(0,ii),(3,ii),(5,ii),(6,f5 (q1.length)),(7,f5 (q1.length)),(13,ii),(14,ii),(15,ii),(34,ii),(35,ii),(36,ii)],(Fz ea dG aD b4 cn eN b0 ad ck).ff,.aL [0] [.pure] [(0,ii),(3,ii),(6,.bx (.dM (.e7 (ck.1.map eI)))),(7,.bx (.dM (.e7 (ck.2.map eI)))),(13,ii),(14,ii),(15,ii)],.az (br 4 (.aJ (a1.length)) 1),(J 2),.aL [5] [.cO (av 1 (eL 1 eI) a1)] (ba [0,3,13,14,15])] (.bl h1 o.1 (cQ eI o.2) (bX eI au) aA.1 (Int.le_refl b0) aA.2.1 aA.2.2 (.bl aA.1 (Int.le_refl b0) aA.2.1 aA.2.2 (aK 1 .live ct ad) dh (aK 1 .live aP q1) dh (.bl (aK 1 .live aP q1) (lL b0.toNat (0:Int)) (lL b0.toNat (0:Int)) (Tz bd) (aK 1 .live ct ad) (gQ eI ck.1) (fY eI ck.1) (dX aP ck.1) (.bl (gQ eI ck.2) (fY eI ck.2) (dX aP ck.2) (lK (show [[.isl 1 (ck.1.map eI)],[.isl 1 (ck.2.map eI)]]=(([ck.1,ck.2]:List (List Int))).map (eL 1 eI) from rfl) (show 2=([ck.1,ck.2]:List (List Int)).length from rfl)) (ho (eL 1 eI) ad) (mH (dO ad) (nS (show [[.isl 1 (ck.1.map eI)],[.isl 1 (ck.2.map eI)]]=(([ck.1,ck.2]:List (List Int))).map (eL 1 eI) from rfl) (show 2=([ck.1,ck.2]:List (List Int)).length from rfl)):a1.length=ad.length+(([[.isl 1 (ck.1.map eI)],[.isl 1 (ck.2.map eI)]].drop 0).take 2).length) bn (db 1 .live (jk (cY (eL 1 eI) ad) (dO ad) (nS (show [[.isl 1 (ck.1.map eI)],[.isl 1 (ck.2.map eI)]]=(([ck.1,ck.2]:List (List Int))).map (eL 1 eI) from rfl) (show 2=([ck.1,ck.2]:List (List Int)).length from rfl)))) (.e1 (aK 1 .live ct a1))))))))
  (fun h1 =>
  .ret (bj [(J 1),.aa false,.aL [0] [.pure] (ba [3])] (.aE h1 (aK 1 .live (l4 (sz:=1) aP) ad))))
theorem TA {ea:List b3}{dG:List cj}{b4:List Int}{cn eN:Int}{ad:List (List Int)}{r} (h:FK ea dG b4 cn eN ad=some r):dQ bc 82 0 74 [1,1,0,1,0,0] (Fu ea dG b4 cn) (MM ea dG b4 cn) (eN,ad) r:=dR (fun _=>Tl) h
def za (aN:cS):Option (List (List Int)) :=
 wh aN >>= fun r1 =>
 FK aN.b1 aN.bO r1 (len_ eI r1) 0 ([]:List (List Int)) >>= fun bk =>
 some bk
theorem TL {aN:cS}:bB (za aN) (fun r=>Con bc 74 [.d6 2 [(hT aN)] 0 0] [] (.isl 1 (r.map (eL 1 eI))) []):=by
 unfold za
 exact .ar fun r1 o =>
  .ar fun bk au =>
  .ret (bu [(J 1),(J 1),.az (br 1 (bt 1 (.isl 1 (r1.map eI)) false) 2),.ti 3 1,.aL [6] [.cO (av 1 (eL 1 eI) ([]:List (List Int)))] [(0,ii),(3,f5 (([]:List (List Int)).length)),(13,ii),(14,ii),(15,ii)],.sub (.exit 0) [(3,.bm 0 0 0 bk.length)] [(av 1 (eL 1 eI) bk)],(J 2)] (.gU (MS r1 o) (db 1 .live (pP (eL 1 eI))) (aK 1 .live (l4 (sz:=1) aP) ([]:List (List Int))) (fK (List Int)) (TA au) (gQ (eL 1 eI) bk) (fY (eL 1 eI) bk) (dX (l4 (sz:=1) aP) bk)) (.bx (.dM (.e7 (bk.map (eL 1 eI))))))
def FE (ee:List cj)(c7:Int):(Int×(List ey))→S:=fun (cx,ad)=>dr [(3,.bm 0 0 0 ad.length),(9,.isl 3 (ee.map cv)),(10,.n .i64 c7),(11,.n .i64 cx)] [(av 2 gq ad)]
def MO (ee:List cj)(c7:Int):(List ey)→du
 | a=>⟨some 0,[(3,.bm 0 0 0 a.length)],[(av 2 gq a)]⟩
def v7 (ee:List cj)(c7 cx:Int)(ad:List ey):Option ((Int×(List ey))⊕((List ey))) :=
 if (decide (cx<c7))=true then
  if 0≤cx∧cx<ee.length then
  ee[cx.toNat]? >>= fun aD =>
  if (aD.jc != (2:Int))=true then
   if (ad++([(⟨cx,1⟩:ey)]:List ey)).length*16≤140737488355328 then
   if (aD.jc != (1:Int))=true then
    if ((ad++([(⟨cx,1⟩:ey)]:List ey))++([(⟨cx,(-1)⟩:ey)]:List ey)).length*16≤140737488355328 then
    some (.inl (R (cx+(1:Int)),(ad++([(⟨cx,1⟩:ey)]:List ey))++([(⟨cx,(-1)⟩:ey)]:List ey)))
    else none
   else
    some (.inl (R (cx+(1:Int)),ad++([(⟨cx,1⟩:ey)]:List ey)))
   else none
  else
   if (aD.jc != (1:Int))=true then
    if (ad++([(⟨cx,(-1)⟩:ey)]:List ey)).length*16≤140737488355328 then
    some (.inl (R (cx+(1:Int)),ad++([(⟨cx,(-1)⟩:ey)]:List ey)))
    else none
   else
    some (.inl (R (cx+(1:Int)),ad))
  else none
 else
  some (.inr ad)
def F1 (ee:List cj)(c7 cx:Int)(ad:List ey):Option ((List ey)):=iter (fun w:Int×(List ey)=>v7 ee c7 w.1 w.2) (cx,ad)
theorem Tt {ee:List cj}{c7 cx:Int}{ad:List ey}:bB (v7 ee c7 cx ad) (dP bc 34 0 75 [1,1,0,1,0,0] (FE ee c7 (cx,ad)) (FE ee c7) (MO ee c7)):=by
 unfold v7
 exact .ite (fun h1 =>
  .aZ fun o =>
  .ar fun aD au =>
  (let t1:List bY:=[(J 1),.aa true,.az (br 2 (.b7 (cv aD)) 3),(J 3)];
  have aQ:=((.de h1 o.1 (cQ cv o.2) (bX cv au)):cz _);
  .ite (fun aA =>
  .aZ fun a2 =>
  (let t3:List bY:=t1.append [.aa true,.az (br 4 (.aJ ((ad++([(⟨cx,1⟩:ey)]:List ey)).length)) 1),(J 3)];
  have eR:=aQ.aJ (.dw aA (ha gq (⟨cx,1⟩:ey)) (ho gq ad) (gR gq ad (⟨cx,1⟩:ey)) a2);
  .ite (fun bd =>
  .aZ fun bn =>
  .ret (let q1:=(ad++([(⟨cx,1⟩:ey)]:List ey));let a1:=(q1++([(⟨cx,(-1)⟩:ey)]:List ey));let b0:=(hy gq ad (⟨cx,1⟩:ey));bj (t3.append [.aa true,.az (br 4 (.aJ (a1.length)) 1),(J 2),.aL [24] [.cO (av 2 gq a1)] (ba [3,9,10,11])]) (eR.aJ (.eX bd (ha gq (⟨cx,(-1)⟩:ey)) (oj b0 (dO q1)) (gR gq q1 (⟨cx,(-1)⟩:ey)) bn (db 2 .live (jk b0 (dO q1) (vH gq (⟨cx,(-1)⟩:ey)))) (aK 2 .live ug a1)))))
  (fun bd =>
  .ret (let ct:=(ad++([(⟨cx,1⟩:ey)]:List ey));bj (t3.append [.aa false,(J 2),.aL [15] [.cO (av 2 gq ct)] (ba [3,9,10,11])]) (eR.aJ (.bT bd (db 2 .live (hy gq ad (⟨cx,1⟩:ey))) (aK 2 .live ug ct)))))))
  (fun aA =>
  .ite (fun a2 =>
  .aZ fun bd =>
  .ret (let dh:=(ad++([(⟨cx,(-1)⟩:ey)]:List ey));bj (t1.append [.aa false,(J 3),.aa true,.az (br 4 (.aJ (dh.length)) 1),(J 2),.aL [18] [.cO (av 2 gq dh)] (ba [3,9,10,11])]) (aQ.aJ (.gU aA a2 (ha gq (⟨cx,(-1)⟩:ey)) (ho gq ad) (gR gq ad (⟨cx,(-1)⟩:ey)) bd (db 2 .live (hy gq ad (⟨cx,(-1)⟩:ey))) (aK 2 .live ug dh)))))
  (fun a2 =>
  .ret (bj (t1.append [.aa false,(J 3),.aa false,(J 2),.aL [0] [.pure] (ba [3,9,10,11])]) (aQ.aJ (.bT aA a2 (aK 2 .live ug ad))))))))
  (fun h1 =>
  .ret (bj [(J 1),.aa false,.aL [0] [.pure] (ba [3])] (.aE h1 (aK 2 .live ug ad))))
theorem TP {ee:List cj}{c7 cx:Int}{ad:List ey}{r} (h:F1 ee c7 cx ad=some r):dQ bc 34 0 75 [1,1,0,1,0,0] (FE ee c7) (MO ee c7) (cx,ad) r:=dR (fun _=>Tt) h
def ze (aN:cS):Option (List ey) :=
 F1 aN.bO (len_ cv aN.bO) 0 ([]:List ey) >>= fun r1 =>
 some r1
theorem Um {aN:cS}:bB (ze aN) (fun r=>Con bc 75 [.d6 2 [(hT aN)] 0 0] [] (.isl 2 (r.map gq)) []):=by
 unfold ze
 exact .ar fun r1 o =>
  .ret (bu [(J 1),(J 1),(J 6),.ti 3 2,.aL [8] [.cO (av 2 gq ([]:List ey))] [(3,f5 (([]:List ey).length)),(9,ii),(10,ii),(11,ii)],.sub (.exit 0) [(3,.bm 0 0 0 r1.length)] [(av 2 gq r1)],(J 2)] (.eX (db 2 .live (pP gq)) (aK 2 .live ug ([]:List ey)) (fK ey) (TP o) (gQ gq r1) (fY gq r1) (dX ug r1)) (.bx (.dM (.e7 (r1.map gq)))))
end Go.Proofs.YtamedijmgkdlgadGreat
