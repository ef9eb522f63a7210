/- Lemmas, plain functions of the program, and what they answer. No condition. -/
import Derived.Test.YtamedijmgkdlgaaGreatMB
namespace Go.Proofs.YtamedijmgkdlgaaGreat
set_option linter.unusedVariables false
set_option linter.unusedSimpArgs false
open Go Go.VL
def zP (ah:bB)(iV:Int):Option Int :=
 if (decide ((R (iV-(ah.k6.size:Int)))<(0:Int)))=true then
  some (-1)
 else
  some (R (iV-(ah.k6.size:Int)))
theorem WU {ah:bB}{iV:Int}:bw (zP ah iV) (fun r=>Con a6 27 [.agg (bI ah),.n .i64 iV] [] (.n .i64 r) []):=by
 unfold zP
 exact (let t1:List bW:=[(I 2),(I 6),(I 2)];
  .ite (fun h1 =>
  .ret (bs (t1.append [.U true,(I 1)]) (.e1 h1)))
  (fun h1 =>
  .ret (bs (t1.append [.U false,(I 2)]) (.e1 h1))))
def GG (ah:List bB):(Int×Int)→S:=fun (iV,af)=>dm [(0,.isl 4 (ah.map bI)),(1,.n .i64 iV),(5,.n .i64 af)] []
def GW (ah:List bB):((Int)⊕(Unit))→dp
 | .inl a=>⟨some 0,[(1,.n .i64 a)],[]⟩
 | .inr a=>⟨none,[(4,.n .i64 (-1:Int))],[]⟩
def tO (ah:List bB)(iV af:Int):Option ((Int×Int)⊕((Int)⊕(Unit))) :=
 if (decide (af<(len_ bI ah)))=true then
  if 0≤af∧af<ah.length then
  ah[af.toNat]? >>= fun aC =>
  zP aC iV >>= fun aZ =>
  if (decide (aZ<(0:Int)))=true then
   some (.inr (.inr ()))
  else
   some (.inl (aZ,R (af+(1:Int))))
  else none
 else
  some (.inr (.inl iV))
def IA (ah:List bB)(iV af:Int):Option ((Int)⊕(Unit)):=iter (fun w:Int×Int=>tO ah w.1 w.2) (iV,af)
theorem T9 {ah:List bB}{iV af:Int}:bw (tO ah iV af) (dO a6 27 0 11 [1,1,1,0,1,0,0] (GG ah (iV,af)) (GG ah) (GW ah)):=by
 unfold tO
 exact .ite (fun h1 =>
  .aX fun h2 =>
  .ar fun aC au =>
  .ar fun aZ aW =>
  (let t1:List bW:=[(I 4),.U true,.aw (ag 3 (ak (.b2 (bI aC)) (bp 1 (bn 2 (.n .i64 aZ) true) 1))),(I 2)];
  have aS:=((.dS h1 h2.1 (cP bI h2.2) (bT bI au) (WU aZ aW) (b3.n .i64 aZ)):cn _);
  .ite (fun a7 =>
  .ret (bf (t1.append [.U true,(I 1),.aL [] [] (a8 [4])]) (aS.aH (.e1 a7))))
  (fun a7 =>
  .ret (bf (t1.append [.U false,(I 3),.aL [] [] (a8 [0,1,5])]) (aS.aH (.e1 a7))))))
  (fun h1 =>
  .ret (bf [(I 4),.U false,.aL [] [] (a8 [1])] (.e1 h1)))
theorem MV {ah:List bB}{iV af:Int}{r} (h:IA ah iV af=some r):dP a6 27 0 11 [1,1,1,0,1,0,0] (GG ah) (GW ah) (iV,af) r:=dQ (fun _=>T9) h
def zz (ah:List bB)(iV:Int):Option Int :=
 if (decide ((R (iV-(len_ bI ah)))<(0:Int)))=true then
  some (-1)
 else
  IA ah (R (iV-(len_ bI ah))) 0 >>= fun r2 =>
  match r2 with
  | .inl fL=>(some fL)
  | .inr fL=>(some (-1))
theorem Wr {ah:List bB}{iV:Int}:bw (zz ah iV) (fun r=>Con a6 11 [.isl 4 (ah.map bI),.n .i64 iV] [] (.n .i64 r) []):=by
 unfold zz
 exact (let t1:List bW:=[(I 1),(I 5),(I 2)];
  .ite (fun h1 =>
  .ret (bs (t1.append [.U true,(I 1)]) (.e1 h1)))
  (fun h1 =>
  .ar fun r2 ab =>
  (let t2:List bW:=t1.append [.U false,(I 1),.aL [] [] (a8 [0,1,5])];
  (by
  rcases r2 with fL|fL
  ·exact (.ret (bs (t2.append [.sub (.exit 0) [(1,.n .i64 fL)] [],(I 2)]) (.e2 h1 (MV ab))))
  ·exact (.ret (bs (t2.append [(GW ah (.inr fL)).e8]) (.e2 h1 (MV ab))))))))
def zs (ah:List bM)(iV:Int):Option Int :=
 if (decide ((R (iV-(len_ bQ ah)))<(0:Int)))=true then
  some (-1)
 else
  some (R (iV-(len_ bQ ah)))
theorem Wb {ah:List bM}{iV:Int}:bw (zs ah iV) (fun r=>Con a6 12 [.isl 3 (ah.map bQ),.n .i64 iV] [] (.n .i64 r) []):=by
 unfold zs
 exact (let t1:List bW:=[(I 1),(I 5),(I 2)];
  .ite (fun h1 =>
  .ret (bs (t1.append [.U true,(I 1)]) (.e1 h1)))
  (fun h1 =>
  .ret (bs (t1.append [.U false,(I 2)]) (.e1 h1))))
def zg (ah:ct)(iV:Int):Option Int :=
 zz ah.bY iV >>= fun r1 =>
 if (decide (r1<(0:Int)))=true then
  some (-1)
 else
  zs ah.bt r1 >>= fun bh =>
  if (decide (bh<(0:Int)))=true then
   some (-1)
  else
   some bh
theorem Vv {ah:ct}{iV:Int}:bw (zg ah iV) (fun r=>Con a6 4 [.agg (gA ah),.n .i64 iV] [] (.n .i64 r) []):=by
 unfold zg
 exact .ar fun r1 h2 =>
  (let t1:List bW:=[(I 2),.aw (bp 3 (bn 2 (.n .i64 r1) true) 1),(I 2)];
  have aS:=((.e2 (Wr r1 h2) (b3.n .i64 r1)):cn _);
  .ite (fun ab =>
  .ret (bs (t1.append [.U true,(I 1)]) (aS.aH (.e1 ab))))
  (fun ab =>
  .ar fun bh aA =>
  (let t3:List bW:=t1.append [.U false,.aw (bp 3 (bn 2 (.n .i64 bh) true) 1),(I 2)];
  have eP:=aS.aH (.bR ab (Wb bh aA) (b3.n .i64 bh));
  .ite (fun aW =>
  .ret (bs (t3.append [.U true,(I 1)]) (eP.aH (.e1 aW))))
  (fun aW =>
  .ret (bs (t3.append [.U false,(I 2)]) (eP.aH (.e1 aW)))))))
def De (ah:bB):Option bB :=
 some ah
theorem WV {ah:bB}:bw (De ah) (fun r=>Con a6 33 [.agg (bI ah)] [] (.agg (bI r)) []):=by
 unfold De
 exact .ret (bs [(I 2),(I 1),(I 4),(I 4),(I 4),(I 4),(I 2)] .nil)
def F4 (ah:List bB):(Int×(List bB))→S:=fun (af,aa)=>dm [(0,.isl 4 (ah.map bI)),(3,.bj 0 0 0 aa.length),(4,.n .i64 af)] [(ae 4 bI aa)]
def Gq (ah:List bB):(List bB)→dp
 | a=>⟨some 0,[(3,.bj 0 0 0 a.length)],[(ae 4 bI a)]⟩
def tM (ah:List bB)(af:Int)(aa:List bB):Option ((Int×(List bB))⊕((List bB))) :=
 if (decide (af<(len_ bI ah)))=true then
  if 0≤af∧af<ah.length then
  ah[af.toNat]? >>= fun aC =>
  De aC >>= fun aZ =>
  if 0≤af∧af<(aa.length:Nat) then
  if (0+af.toNat)<aa.length then
  some (.inl (R (af+(1:Int)),aa.set (0+af.toNat) aZ))
  else none
  else none
  else none
 else
  some (.inr aa)
def HV (ah:List bB)(af:Int)(aa:List bB):Option ((List bB)):=iter (fun w:Int×(List bB)=>tM ah w.1 w.2) (af,aa)
theorem TH {ah:List bB}{af:Int}{aa:List bB}:bw (tM ah af aa) (dO a6 23 0 17 [1,1,0,1,0,0] (F4 ah (af,aa)) (F4 ah) (Gq ah)):=by
 unfold tM
 exact .ite (fun h1 =>
  .aX fun h2 =>
  .ar fun aC au =>
  .ar fun aZ aW =>
  .aX fun a7 =>
  .aX fun bi =>
  .ret (bf [(I 4),.U true,.aw (ag 5 (ak (.b2 (bI aC)) (ak (bn 1 (.agg (bI aZ)) false) (ag 1 (ak .fM []))))),(I 3),.aL [0] [.cy (ae 4 bI (aa.set (0+af.toNat) aZ))] [(0,ii),(3,fY ((aa.set (0+af.toNat) aZ).length)),(4,ii)]] (.bg h1 h2.1 (cP bI h2.2) (bT bI au) (WV aZ aW) a7.1 a7.2 (hB bI bi) (.c7 (hx 4) (cZ 4 .live (gF (cW bI aa) (0+af.toNat) aZ)) (aI 4 .live mA (aa.set (0+af.toNat) aZ)) (hS (dH aa) (0+af.toNat) aZ)))))
  (fun h1 =>
  .ret (bf [(I 4),.U false,.aL [0] [.pure] (a8 [3])] (.e2 h1 (aI 4 .live mA aa))))
theorem U5 {ah:List bB}{af:Int}{aa:List bB}{r} (h:HV ah af aa=some r):dP a6 23 0 17 [1,1,0,1,0,0] (F4 ah) (Gq ah) (af,aa) r:=dQ (fun _=>TH) h
def zk (ah:List bB):Option (List bB) :=
 if 0≤(len_ bI ah)∧(40:Int)*(len_ bI ah)≤281474976710656∧(len_ bI ah)<9223372036854775808 then
 HV ah 0 (List.replicate (len_ bI ah).toNat (⟨ByteArray.empty,0,0,false⟩:bB):List bB) >>= fun r2 =>
 some r2
 else none
theorem VM {ah:List bB}:bw (zk ah) (fun a=>Con a6 17 [.isl 4 (ah.map bI)] [] (.bj 0 0 0 a.length) [(ae 4 bI a)]):=by
 unfold zk
 exact .aX fun h1 =>
  .ar fun r2 ab =>
  .ret (let q1:=(List.replicate (len_ bI ah).toNat (⟨ByteArray.empty,0,0,false⟩:bB):List bB);lU [(I 1),(I 4),(I 1),.aL [3] [.cy (ae 4 bI q1)] [(0,ii),(3,fY (q1.length)),(4,ii)],(Gq ah r2).e8,(I 2)] [0] [.pure] (.bg h1.1 (Int.le_refl (len_ bI ah)) h1.2.1 h1.2.2 (cZ 4 .live (lF bI (len_ bI ah).toNat (⟨ByteArray.empty,0,0,false⟩:bB))) (aI 4 .live mA q1) (l0 (len_ bI ah).toNat ((⟨ByteArray.empty,0,0,false⟩:bB):bB)) (U5 ab) (.e1 (aI 4 .live mA r2))))
def C9 (ah:bM):Option bM :=
 some ah
theorem Ws {ah:bM}:bw (C9 ah) (fun r=>Con a6 34 [.agg (bQ ah)] [] (.agg (bQ r)) []):=by
 unfold C9
 exact .ret (bs [(I 2),(I 1),(I 4),(I 4),(I 4),(I 2)] .nil)
def FW (ah:List bM):(Int×(List bM))→S:=fun (af,aa)=>dm [(0,.isl 3 (ah.map bQ)),(3,.bj 0 0 0 aa.length),(4,.n .i64 af)] [(ae 3 bQ aa)]
def F5 (ah:List bM):(List bM)→dp
 | a=>⟨some 0,[(3,.bj 0 0 0 a.length)],[(ae 3 bQ a)]⟩
def tL (ah:List bM)(af:Int)(aa:List bM):Option ((Int×(List bM))⊕((List bM))) :=
 if (decide (af<(len_ bQ ah)))=true then
  if 0≤af∧af<ah.length then
  ah[af.toNat]? >>= fun aC =>
  C9 aC >>= fun aZ =>
  if 0≤af∧af<(aa.length:Nat) then
  if (0+af.toNat)<aa.length then
  some (.inl (R (af+(1:Int)),aa.set (0+af.toNat) aZ))
  else none
  else none
  else none
 else
  some (.inr aa)
def Hp (ah:List bM)(af:Int)(aa:List bM):Option ((List bM)):=iter (fun w:Int×(List bM)=>tL ah w.1 w.2) (af,aa)
theorem Ty {ah:List bM}{af:Int}{aa:List bM}:bw (tL ah af aa) (dO a6 23 0 18 [1,1,0,1,0,0] (FW ah (af,aa)) (FW ah) (F5 ah)):=by
 unfold tL
 exact .ite (fun h1 =>
  .aX fun h2 =>
  .ar fun aC au =>
  .ar fun aZ aW =>
  .aX fun a7 =>
  .aX fun bi =>
  .ret (bf [(I 4),.U true,.aw (ag 5 (ak (.b2 (bQ aC)) (ak (bn 1 (.agg (bQ aZ)) false) (ag 1 (ak .fM []))))),(I 3),.aL [0] [.cy (ae 3 bQ (aa.set (0+af.toNat) aZ))] [(0,ii),(3,fY ((aa.set (0+af.toNat) aZ).length)),(4,ii)]] (.bg h1 h2.1 (cP bQ h2.2) (bT bQ au) (Ws aZ aW) a7.1 a7.2 (hB bQ bi) (.c7 (hx 3) (cZ 3 .live (gF (cW bQ aa) (0+af.toNat) aZ)) (aI 3 .live lD (aa.set (0+af.toNat) aZ)) (hS (dH aa) (0+af.toNat) aZ)))))
  (fun h1 =>
  .ret (bf [(I 4),.U false,.aL [0] [.pure] (a8 [3])] (.e2 h1 (aI 3 .live lD aa))))
theorem UH {ah:List bM}{af:Int}{aa:List bM}{r} (h:Hp ah af aa=some r):dP a6 23 0 18 [1,1,0,1,0,0] (FW ah) (F5 ah) (af,aa) r:=dQ (fun _=>Ty) h
def zh (ah:List bM):Option (List bM) :=
 if 0≤(len_ bQ ah)∧(24:Int)*(len_ bQ ah)≤281474976710656∧(len_ bQ ah)<9223372036854775808 then
 Hp ah 0 (List.replicate (len_ bQ ah).toNat (⟨0,0,0⟩:bM):List bM) >>= fun r2 =>
 some r2
 else none
theorem Vw {ah:List bM}:bw (zh ah) (fun a=>Con a6 18 [.isl 3 (ah.map bQ)] [] (.bj 0 0 0 a.length) [(ae 3 bQ a)]):=by
 unfold zh
 exact .aX fun h1 =>
  .ar fun r2 ab =>
  .ret (let q1:=(List.replicate (len_ bQ ah).toNat (⟨0,0,0⟩:bM):List bM);lU [(I 1),(I 4),(I 1),.aL [3] [.cy (ae 3 bQ q1)] [(0,ii),(3,fY (q1.length)),(4,ii)],(F5 ah r2).e8,(I 2)] [0] [.pure] (.bg h1.1 (Int.le_refl (len_ bQ ah)) h1.2.1 h1.2.2 (cZ 3 .live (lF bQ (len_ bQ ah).toNat (⟨0,0,0⟩:bM))) (aI 3 .live lD q1) (l0 (len_ bQ ah).toNat ((⟨0,0,0⟩:bM):bM)) (UH ab) (.e1 (aI 3 .live lD r2))))
def zd (ah:ct):Option ((List bB)×(List bM)) :=
 zk ah.bY >>= fun r1 =>
 zh ah.bt >>= fun bc =>
 some (r1,bc)
theorem GH {ah:ct}:bw (zd ah) (fun a=>Con a6 6 [.agg (gA ah)] [] (.agg [.bj 0 0 0 a.1.length,.bj 0 1 0 a.2.length]) [[ad.mk 4 (a.1.map bI) .live,ad.mk 3 (a.2.map bQ) .live]]):=by
 unfold zd
 exact .ar fun r1 h2 =>
  .ar fun bc au =>
  .ret (lU [(I 2),(I 1),.aw (bp 2 (.call {aY:=[],dl:=[],ac:=[ii],r:= .bj 0 0 0 r1.length,fm:=[(ae 4 bI r1)],hI:=ii,jU:=[.pure],fB:=[],fu:=true}) 2),.aw (bp 2 (.call {aY:=[],dl:=[],ac:=[ii],r:= .bj 0 0 0 bc.length,fm:=[(ae 3 bQ bc)],hI:=ii,jU:=[.pure],fB:=[],fu:=true}) 2),(I 2),.BM [{bG:=[(5,0),(10,0)],iy:=none},{bG:=[(1,0)]}] [([.pure,.pure],none),([.box [.at_ 0 0 r1.length,.at_ 0 1 bc.length]],none)] [(2,.br (.da (.at_ 1 0 0)))]] [0] [.bF [ad.mk 4 (r1.map bI) .live,ad.mk 3 (bc.map bQ) .live]] (.bg (hK 4 mA r1) (VM r1 h2) (b3.bj 0 0 0 r1.length) ((pf (nW (nt Dr) pn) pk):nh [(ae 4 bI r1)]) (hK 3 lD bc) (Vw bc au) (b3.bj 0 0 0 bc.length) ((pf (nW (nt Dl) pn) pk):nh [(ae 3 bQ bc)]) (.gM (aI 4 .live mA r1) (aI 3 .live lD bc) (rfl:(kC [{bG:=[(5,0),(10,0)],iy:=none},{bG:=[(1,0)]}]) 0 0=some (5,0)) (rfl:r1.length=r1.length) (rfl:(kC [{bG:=[(5,0),(10,0)],iy:=none},{bG:=[(1,0)]}]) 0 1=some (10,0)) (rfl:bc.length=bc.length) (rfl:(kC [{bG:=[(5,0),(10,0)],iy:=none},{bG:=[(1,0)]}]) 1 0=some (1,0)) (c4 (fV (cF [0]) 4 Dq r1) (c4 (fV (cF [0]) 3 Dk bc) (o1 (b7:=(cF [0]))))))) (.br (.agg [.id,.id])))
def GI (ah:List Int):(Int×(List Int))→S:=fun (af,aa)=>dm [(0,.isl 1 (ah.map eI)),(3,.bj 0 0 0 aa.length),(4,.n .i64 af)] [(ae 1 eI aa)]
def GX (ah:List Int):(List Int)→dp
 | a=>⟨some 0,[(3,.bj 0 0 0 a.length)],[(ae 1 eI a)]⟩
def tP (ah:List Int)(af:Int)(aa:List Int):Option ((Int×(List Int))⊕((List Int))) :=
 if (decide (af<(len_ eI ah)))=true then
  if 0≤af∧af<ah.length then
  ah[af.toNat]? >>= fun aC =>
  if 0≤af∧af<(aa.length:Nat) then
  if (0+af.toNat)<aa.length then
  some (.inl (R (af+(1:Int)),aa.set (0+af.toNat) aC))
  else none
  else none
  else none
 else
  some (.inr aa)
def IB (ah:List Int)(af:Int)(aa:List Int):Option ((List Int)):=iter (fun w:Int×(List Int)=>tP ah w.1 w.2) (af,aa)
theorem Ua {ah:List Int}{af:Int}{aa:List Int}:bw (tP ah af aa) (dO a6 22 0 7 [1,1,0,1,0,0] (GI ah (af,aa)) (GI ah) (GX ah)):=by
 unfold tP
 exact .ite (fun h1 =>
  .aX fun h2 =>
  .ar fun aC au =>
  .aX fun aA =>
  .aX fun aW =>
  .ret (bf [(I 4),.U true,.aw (ag 5 (ak (.b2 (eI aC)) (ag 1 (ak .fM [])))),(I 3),.aL [0] [.cy (ae 1 eI (aa.set (0+af.toNat) aC))] [(0,ii),(3,fY ((aa.set (0+af.toNat) aC).length)),(4,ii)]] (.bg h1 h2.1 (cP eI h2.2) (bT eI au) aA.1 aA.2 (hB eI aW) (hx 1) (.bR (cZ 1 .live (gF (cW eI aa) (0+af.toNat) aC)) (aI 1 .live aO (aa.set (0+af.toNat) aC)) (hS (dH aa) (0+af.toNat) aC)))))
  (fun h1 =>
  .ret (bf [(I 4),.U false,.aL [0] [.pure] (a8 [3])] (.e2 h1 (aI 1 .live aO aa))))
theorem Vx {ah:List Int}{af:Int}{aa:List Int}{r} (h:IB ah af aa=some r):dP a6 22 0 7 [1,1,0,1,0,0] (GI ah) (GX ah) (af,aa) r:=dQ (fun _=>Ua) h
def xd (ah:List Int):Option (List Int) :=
 if 0≤(len_ eI ah)∧(8:Int)*(len_ eI ah)≤281474976710656∧(len_ eI ah)<9223372036854775808 then
 IB ah 0 (List.replicate (len_ eI ah).toNat 0:List Int) >>= fun r2 =>
 some r2
 else none
theorem w5 {ah:List Int}:bw (xd ah) (fun a=>Con a6 7 [.isl 1 (ah.map eI)] [] (.bj 0 0 0 a.length) [(ae 1 eI a)]):=by
 unfold xd
 exact .aX fun h1 =>
  .ar fun r2 ab =>
  .ret (let q1:=(List.replicate (len_ eI ah).toNat 0:List Int);lU [(I 1),(I 4),(I 1),.aL [3] [.cy (ae 1 eI q1)] [(0,ii),(3,fY (q1.length)),(4,ii)],(GX ah r2).e8,(I 2)] [0] [.pure] (.bg h1.1 (Int.le_refl (len_ eI ah)) h1.2.1 h1.2.2 (cZ 1 .live (lF eI (len_ eI ah).toNat 0)) (aI 1 .live aO q1) (l0 (len_ eI ah).toNat (0:Int)) (Vx ab) (.e1 (aI 1 .live aO r2))))
def mg (aV l6 ml:Int):Option Bool :=
 if (decide (l6≤aV))=true then
  some (decide (aV≤ml))
 else
  some false
theorem pM {aV l6 ml:Int}:bw (mg aV l6 ml) (fun r=>Con a6 29 [.n .i64 aV,.n .i64 l6,.n .i64 ml] [] (.b r) []):=by
 unfold mg
 exact .ite (fun h1 =>
  .ret (bs [(I 1),.aw (bp 7 (.U true) 1)] (.c7 h1 h1 h1 h1)))
  (fun h1 =>
  .ret (bs [(I 1),.aw (ag 4 (cj 3 (ak (.U false) (ag 1 []))))] (.c7 h1 h1 h1 h1)))
def Hq (aF:ByteArray):Int→S:=fun af=>dm [(0,.s aF),(3,.n .i64 af)] []
def M3 (aF:ByteArray):((Unit)⊕(Unit))→dp
 | .inl a=>⟨some 0,[(0,.s aF)],[]⟩
 | .inr a=>⟨none,[(2,.b false)],[]⟩
def sE (aF:ByteArray)(af:Int):Option ((Int)⊕((Unit)⊕(Unit))) :=
 if (decide (af<(aF.size:Int)))=true then
  if 0≤af∧af<(aF.size:Nat) then
  if (decide ((97:Int)≤((aF.data.toList.getD af.toNat 0).toNat:Int)))=true then
   if (decide (((aF.data.toList.getD af.toNat 0).toNat:Int)≤(122:Int)))=true then
    some (.inl (R (af+(1:Int))))
   else
    if (af == (0:Int))=true then
     some (.inr (.inr ()))
    else
     if (decide (((aF.data.toList.getD af.toNat 0).toNat:Int)<(48:Int)))=true then
      some (.inr (.inr ()))
     else
      if (decide ((57:Int)<((aF.data.toList.getD af.toNat 0).toNat:Int)))=true then
       some (.inr (.inr ()))
      else
       some (.inl (R (af+(1:Int))))
  else
   if (af == (0:Int))=true then
    some (.inr (.inr ()))
   else
    if (decide (((aF.data.toList.getD af.toNat 0).toNat:Int)<(48:Int)))=true then
     some (.inr (.inr ()))
    else
     if (decide ((57:Int)<((aF.data.toList.getD af.toNat 0).toNat:Int)))=true then
      some (.inr (.inr ()))
     else
      some (.inl (R (af+(1:Int))))
  else none
 else
  some (.inr (.inl ()))
def zt (aF:ByteArray)(af:Int):Option ((Unit)⊕(Unit)):=iter (fun w:Int=>sE aF w) af
theorem UI {aF:ByteArray}{af:Int}:bw (sE aF af) (dO a6 42 0 70 [1,0,1,0,0] (Hq aF af) (Hq aF) (M3 aF)):=by
 unfold sE
 exact .ite (fun h1 =>
  .aX fun h2 =>
  .ite (fun ab =>
  (let t1:List bW:=[(I 4),.U true,.aw (bp 9 (.U true) 1)];
  have aS:=((.bg h1 h2.1 h2.2 ab ab ab h2.1 h2.2 (.e2 ab ab)):cn _);
  .ite (fun au =>
  .ret (bf (t1.append [.aw (ag 3 (cj 3 (ag 4 (cj 2 (ag 4 (cj 1 (ak (.U false) []))))))),.U false,(I 3),.aL [] [] (a8 [0,3])]) (aS.aH (.gM (cS au) (cS au) (cS au) (cS au) (cS au) (cS au) (cS au) cz))))
  (fun au =>
  (have fk:=aS.aH (.bR (cJ au) (cJ au) (cJ au));
  .ite (fun aA =>
  .ret (bf (t1.append [.aw (ag 6 (cj 4 (ak (.U true) (ag 1 (cj 4 (ag 1 (ak (.U true) []))))))),.U true,(I 1),.aL [] [] (a8 [2])]) (fk.aH (.bg aA aA aA aA (cJ au) aA (cJ au) cL (.dS cL cL cL (cJ au) (cJ au) cL)))))
  (fun aA =>
  (have eP:=fk.aH (.bg aA aA aA h2.1 h2.2 aA (cJ au) aA (.e1 (cJ au)));
  .ite (fun aW =>
  .ret (bf (t1.append [.aw (ag 10 (ak (.U false) (ag 1 (cj 4 (ak (.U true) (ak (.U true) [])))))),.U true,(I 1),.aL [] [] (a8 [2])]) (eP.aH (.gM aW aW aW aW (cJ au) aW (cJ au) cL))))
  (fun aW =>
  (let t5:List bW:=t1.append [.aw (ag 10 (ak (.U false) (ag 5 (ak (.U false) (ak (.U true) [])))))];
  have ln:=eP.aH (.bg aW aW aW h2.1 h2.2 aW (cJ au) aW (.e1 (cJ au)));
  .ite (fun a7 =>
  .ret (bf (t5.append [.U true,(I 1),.aL [] [] (a8 [2])]) (ln.aH (.e1 a7))))
  (fun a7 =>
  .ret (bf (t5.append [.U false,(I 3),.aL [] [] (a8 [0,3])]) (ln.aH (.e1 a7))))))))))))
  (fun ab =>
  (let t1:List bW:=[(I 4),.U true,.aw (ag 5 (cj 4 (ak (.U false) (ag 1 []))))];
  have aS:=((.bg h1 h2.1 h2.2 ab ab ab ab ab (.bR cL cL cL)):cn _);
  .ite (fun au =>
  .ret (bf (t1.append [.aw (ag 6 (cj 4 (ak (.U true) (ag 1 (cj 4 (ag 2 [])))))),.U true,(I 1),.aL [] [] (a8 [2])]) (aS.aH (.bg au au au au cL au cL cL (.dh cL cL cL cL cL)))))
  (fun au =>
  (have fk:=aS.aH (.bg au au au h2.1 h2.2 au cL au (.e1 cL));
  .ite (fun aA =>
  .ret (bf (t1.append [.aw (ag 10 (ak (.U false) (ag 1 (cj 4 (ak (.U true) (ag 1 [])))))),.U true,(I 1),.aL [] [] (a8 [2])]) (fk.aH (.eF aA aA aA aA cL aA cL))))
  (fun aA =>
  (let t4:List bW:=t1.append [.aw (ag 10 (ak (.U false) (bp 5 (.U false) 1)))];
  have lo:=fk.aH (.gM aA aA aA h2.1 h2.2 aA cL aA);
  .ite (fun aW =>
  .ret (bf (t4.append [.U true,(I 1),.aL [] [] (a8 [2])]) (lo.aH (.e1 aW))))
  (fun aW =>
  .ret (bf (t4.append [.U false,(I 3),.aL [] [] (a8 [0,3])]) (lo.aH (.e1 aW)))))))))))
  (fun h1 =>
  .ret (bf [(I 4),.U false,.aL [] [] (a8 [0])] (.e1 h1)))
theorem Nd {aF:ByteArray}{af:Int}{r} (h:zt aF af=some r):dP a6 42 0 70 [1,0,1,0,0] (Hq aF) (M3 aF) af r:=dQ (fun _=>UI) h
def sJ (aF:ByteArray):Option Bool :=
 zt aF 0 >>= fun r1 =>
 match r1 with
 | .inl c8=>(mg (aF.size:Int) 1 8 >>= fun bh =>
  some bh)
 | .inr c8=>(some false)
theorem Xi {aF:ByteArray}:bw (sJ aF) (fun r=>Con a6 70 [.s aF] [] (.b r) []):=by
 unfold sJ
 exact .ar fun r1 h2 =>
  (let t1:List bW:=[(I 1),(I 1),.aL [] [] (a8 [0,3])];
  (by
  rcases r1 with c8|c8
  ·exact (.ar fun bh aA =>
  .ret (bs (t1.append [.sub (.exit 0) [(0,.s aF)] [],.aw (bp 2 (bn 3 (.b bh) true) 1)]) (.bR (Nd h2) (pM bh aA) (b3.b bh))))
  ·exact (.ret (bs (t1.append [.sub (.ret) [(2,.b false)] []]) (.e1 (Nd h2))))))
def pc (bP:bB):Option Bool :=
 sJ bP.k6 >>= fun r1 =>
 if r1=true then
  mg bP.j2 (-50) 50 >>= fun bh =>
  if bh=true then
   mg bP.j3 (-50) 50 >>= fun ck =>
   some ck
  else
   some false
 else
  some false
theorem WW {bP:bB}:bw (pc bP) (fun r=>Con a6 44 [.agg (bI bP)] [] (.b r) []):=by
 unfold pc
 exact .ar fun r1 h2 =>
  (have ae:=((.e2 (Xi r1 h2) (b3.b r1)):cn _);
  .ite (fun ab =>
  .ar fun bh aA =>
  (have aS:=ae.aH (.dS ab ab ab (pM bh aA) (b3.b bh) ab);
  .ite (fun aW =>
  .ar fun ck bi =>
  .ret (bs [(I 2),.aw (ag 2 (ak (bn 1 (.b r1) true) (ag 3 (ak (bn 3 (.b bh) true) (ak (.U true) (ag 3 (ak (bn 3 (.b ck) true) (ak (.U true) (ag 1 [])))))))))] (aS.aH (.dS aW aW aW (pM ck bi) (b3.b ck) aW))))
  (fun aW =>
  .ret (bs [(I 2),.aw (ag 2 (ak (bn 1 (.b r1) true) (ag 3 (ak (bn 3 (.b bh) true) (ak (.U true) (ag 1 (cj 3 (ak (.U false) (ag 1 [])))))))))] (aS.aH (.c7 aW aW aW aW))))))
  (fun ab =>
  .ret (bs [(I 2),.aw (ag 2 (ak (bn 1 (.b r1) true) (ag 1 (cj 3 (ak (.U false) (ag 1 (cj 3 (ag 2 []))))))))] (ae.aH (.eF ab ab ab ab cz cz cz)))))
def F6 (kv:ByteArray)(cx:List bB)(dr:Int):Int→S:=fun c0=>dm [(1,.s kv),(8,.isl 4 (cx.map bI)),(9,.n .i64 dr),(10,.n .i64 c0)] []
def MF (kv:ByteArray)(cx:List bB)(dr:Int):((Unit)⊕(Int))→dp
 | .inl a=>⟨some 0,[],[]⟩
 | .inr a=>⟨none,[(4,.n .i64 a)],[]⟩
def wa (kv:ByteArray)(cx:List bB)(dr c0:Int):Option ((Int)⊕((Unit)⊕(Int))) :=
 if (decide (c0<dr))=true then
  if 0≤c0∧c0<cx.length then
  cx[c0.toNat]? >>= fun aC =>
  if (aC.k6.toList == kv.toList)=true then
   some (.inr (.inr c0))
  else
   some (.inl (R (c0+(1:Int))))
  else none
 else
  some (.inr (.inl ()))
def wX (kv:ByteArray)(cx:List bB)(dr c0:Int):Option ((Unit)⊕(Int)):=iter (fun w:Int=>wa kv cx dr w) c0
theorem TI {kv:ByteArray}{cx:List bB}{dr c0:Int}:bw (wa kv cx dr c0) (dO a6 21 0 45 [1,0,1,0,0] (F6 kv cx dr c0) (F6 kv cx dr) (MF kv cx dr)):=by
 unfold wa
 exact .ite (fun h1 =>
  .aX fun h2 =>
  .ar fun aC au =>
  (let t1:List bW:=[(I 1),.U true,.aw (bp 2 (.b2 (bI aC)) 3),(I 4)];
  have aS:=((.c7 h1 h2.1 (cP bI h2.2) (bT bI au)):cn _);
  .ite (fun aA =>
  .ret (bf (t1.append [.U true,(I 2),.aL [] [] (a8 [4])]) (aS.aH (.e1 aA))))
  (fun aA =>
  .ret (bf (t1.append [.U false,(I 2),.aL [] [] (a8 [1,8,9,10])]) (aS.aH (.e1 aA))))))
  (fun h1 =>
  .ret (bf [(I 1),.U false,.aL [] [] []] (.e1 h1)))
theorem MK {kv:ByteArray}{cx:List bB}{dr c0:Int}{r} (h:wX kv cx dr c0=some r):dP a6 21 0 45 [1,0,1,0,0] (F6 kv cx dr) (MF kv cx dr) c0 r:=dQ (fun _=>TI) h
def uc (aF:ct)(kv:ByteArray):Option Int :=
 wX kv aF.bY (len_ bI aF.bY) 0 >>= fun r1 =>
 match r1 with
 | .inl c8=>(some (-1))
 | .inr c8=>(some c8)
theorem VN {aF:ct}{kv:ByteArray}:bw (uc aF kv) (fun r=>Con a6 45 [.agg (gA aF),.s kv] [] (.n .i64 r) []):=by
 unfold uc
 exact .ar fun r1 h2 =>
  (let t1:List bW:=[(I 2),(I 4),.aL [] [] (a8 [1,8,9,10])];
  (by
  rcases r1 with c8|c8
  ·exact (.ret (bs (t1.append [.sub (.exit 0) [] [],(I 1)]) (.e1 (MK h2))))
  ·exact (.ret (bs (t1.append [.sub (.ret) [(4,.n .i64 c8)] []]) (.e1 (MK h2))))))
def FX (gB:List bB)(gm:Int)(aG:List bM):Int→S:=fun iK=>dm [(1,.ref 0 0 0 0),(21,.isl 4 (gB.map bI)),(22,.n .i64 gm),(23,.n .i64 iK)] [[ad.mk 2 [[.isl 4 (gB.map bI),.isl 3 (aG.map bQ)]] .live]]
def F7 (gB:List bB)(gm:Int)(aG:List bM):((Unit)⊕(Unit))→dp
 | .inl a=>⟨some 0,[(1,.ref 0 0 0 0)],[[ad.mk 2 [[.isl 4 (gB.map bI),.isl 3 (aG.map bQ)]] .live]]⟩
 | .inr a=>⟨none,[(2,.b false)],[]⟩
def q6 (gB:List bB)(gm:Int)(aG:List bM)(iK:Int):Option ((Int)⊕((Unit)⊕(Unit))) :=
 if (decide (iK<gm))=true then
  if 0≤iK∧iK<gB.length then
  gB[iK.toNat]? >>= fun aC =>
  pc aC >>= fun aZ =>
  if aZ=true then
   uc (⟨gB,aG⟩:ct) aC.k6 >>= fun cm =>
   if (cm != iK)=true then
    some (.inr (.inr ()))
   else
    some (.inl (R (iK+(1:Int))))
  else
   some (.inr (.inr ()))
  else none
 else
  some (.inr (.inl ()))
def q7 (gB:List bB)(gm:Int)(aG:List bM)(iK:Int):Option ((Unit)⊕(Unit)):=iter (fun w:Int=>q6 gB gm aG w) iK
theorem Tz {gB:List bB}{gm:Int}{aG:List bM}{iK:Int}:bw (q6 gB gm aG iK) (dO a6 102 0 28 [1,1,0,1,0,0] (FX gB gm aG iK) (FX gB gm aG) (F7 gB gm aG)):=by
 unfold q6
 exact .ite (fun h1 =>
  .aX fun h2 =>
  .ar fun aC au =>
  .ar fun aZ aW =>
  (let t1:List bW:=[(I 1),.U true,.aw (bp 2 (.b2 (bI aC)) 3)];
  have aS:=((.dS h1 h2.1 (cP bI h2.2) (bT bI au) (WW aZ aW) (b3.b aZ)):cn _);
  .ite (fun a7 =>
  .ar fun cm cg =>
  (let t3:List bW:=t1.append [.aw (ag 1 (ak (bn 1 (.b aZ) true) (ag 5 (ak (bn 2 (.n .i64 cm) true) (ag 2 (ak (.U false) []))))))];
  have eP:=aS.aH (.bg (cS a7) (cS a7) (cS a7) (cS a7) (VN cm cg) (b3.n .i64 cm) (cS a7) (cS a7) (.e1 (cS a7)));
  .ite (fun cO =>
  .ret (bf (t3.append [.U true,(I 1),.aL [] [] (a8 [2])]) (eP.aH (.e1 cO))))
  (fun cO =>
  .ret (bf (t3.append [.U false,(I 2),.aL [0] [.box [.id,.id]] (a8 [1,21,22,23])]) (eP.aH (.e1 cO))))))
  (fun a7 =>
  .ret (bf (t1.append [.aw (ag 1 (ak (bn 1 (.b aZ) true) (ag 2 (cj 6 (ak (.U true) []))))),.U true,(I 1),.aL [] [] (a8 [2])]) (aS.aH (.gM (cJ a7) (cJ a7) (cJ a7) (cJ a7) (cJ a7) (cJ a7) (cJ a7) cL))))))
  (fun h1 =>
  .ret (bf [(I 1),.U false,.aL [0] [.box [.id,.id]] (a8 [1])] (.e1 h1)))
theorem MG {gB:List bB}{gm:Int}{aG:List bM}{iK:Int}{r} (h:q7 gB gm aG iK=some r):dP a6 102 0 28 [1,1,0,1,0,0] (FX gB gm aG) (F7 gB gm aG) iK r:=dQ (fun _=>Tz) h
def FY (nY:Int)(jr:List bM)(eW:Int)(aJ:List bB):Int→S:=fun gr=>dm [(1,.ref 0 0 0 0),(5,.n .i64 nY),(45,.isl 3 (jr.map bQ)),(46,.n .i64 eW),(47,.n .i64 gr)] [[ad.mk 2 [[.isl 4 (aJ.map bI),.isl 3 (jr.map bQ)]] .live]]
def MC (nY:Int)(jr:List bM)(eW:Int)(aJ:List bB):((Unit)⊕(Unit))→dp
 | .inl a=>⟨some 2,[],[]⟩
 | .inr a=>⟨none,[(2,.b false)],[]⟩
def y0 (nY:Int)(jr:List bM)(eW:Int)(aJ:List bB)(gr:Int):Option ((Int)⊕((Unit)⊕(Unit))) :=
 if (decide (gr<eW))=true then
  if 0≤gr∧gr<jr.length then
  jr[gr.toNat]? >>= fun aC =>
  mg aC.dG 0 nY >>= fun aZ =>
  if aZ=true then
   mg aC.ei 0 nY >>= fun cm =>
   if cm=true then
    mg aC.hU 1 3 >>= fun dc =>
    if dc=true then
     if 0≤aC.dG∧aC.dG<aJ.length then
     aJ[aC.dG.toNat]? >>= fun yC =>
     if 0≤aC.ei∧aC.ei<aJ.length then
     aJ[aC.ei.toNat]? >>= fun yD =>
     if (yC.j2 == yD.j2)=true then
      if (yC.j3 == yD.j3)=true then
       some (.inr (.inr ()))
      else
       if yC.k3=true then
        if yD.k3=true then
         some (.inr (.inr ()))
        else
         some (.inl (R (gr+(1:Int))))
       else
        some (.inl (R (gr+(1:Int))))
     else
      if yC.k3=true then
       if yD.k3=true then
        some (.inr (.inr ()))
       else
        some (.inl (R (gr+(1:Int))))
      else
       some (.inl (R (gr+(1:Int))))
     else none
     else none
    else
     some (.inr (.inr ()))
   else
    some (.inr (.inr ()))
  else
   some (.inr (.inr ()))
  else none
 else
  some (.inr (.inl ()))
def CH (nY:Int)(jr:List bM)(eW:Int)(aJ:List bB)(gr:Int):Option ((Unit)⊕(Unit)):=iter (fun w:Int=>y0 nY jr eW aJ w) gr
theorem TA {nY:Int}{jr:List bM}{eW:Int}{aJ:List bB}{gr:Int}:bw (y0 nY jr eW aJ gr) (dO a6 102 0 28 [1,1,1,1,0,1,0,0] (FY nY jr eW aJ gr) (FY nY jr eW aJ) (MC nY jr eW aJ)):=by
 unfold y0
 exact .ite (fun h1 =>
  .aX fun h2 =>
  .ar fun aC au =>
  .ar fun aZ aW =>
  (let t1:List bW:=[(I 1),.U true,.aw (bp 1 (.b2 (bQ aC)) 2)];
  have aS:=((.dS h1 h2.1 (cP bQ h2.2) (bT bQ au) (pM aZ aW) (b3.b aZ)):cn _);
  .ite (fun a7 =>
  .ar fun cm cg =>
  (have fk:=aS.aH (.gM (cS a7) (cS a7) (cS a7) (cS a7) (pM cm cg) (b3.b cm) (cS a7) (cS a7));
  .ite (fun cO =>
  .ar fun dc eX =>
  (let t4:List bW:=t1.append [.aw (ag 3 (ak (bn 3 (.b aZ) true) (ag 5 (ak (bn 3 (.b cm) true) (ag 1 (ak (.U false) (ag 3 (ak (bn 3 (.b dc) true) (ag 1 (ak (.U false) []))))))))))];
  have lo:=fk.aH (.eF (cS cO) (cS cO) (cS cO) (pM dc eX) (b3.b dc) (cS cO) (cS cO));
  .ite (fun ev =>
  .aX fun ew =>
  .ar fun yC hR =>
  .aX fun hp =>
  .ar fun yD gv =>
  (let t6:List bW:=t4.append [.U false,.aw (bp 5 (.b2 (bI yC)) 2),.aw (bp 5 (.b2 (bI yD)) 2)];
  have yQ:=lo.aH (.eF (cS ev) ew.1 (cP bI ew.2) (bT bI hR) hp.1 (cP bI hp.2) (bT bI gv));
  .ite (fun fh =>
  .ite (fun gK =>
  .ret (bf (t6.append [.aw (ag 11 (ak (.U true) (ag 1 (cj 3 (ag 2 (cj 1 (ak (.U true) []))))))),.U true,(I 1),.aL [] [] (a8 [2])]) (yQ.aH (.bg fh fh fh fh fh fh gK gK (.c7 gK gK gK cL)))))
  (fun gK =>
  (have nO:=yQ.aH (.bg fh fh fh fh fh fh gK gK (.e1 gK));
  .ite (fun iH =>
  (let t9:List bW:=t6.append [.aw (ag 11 (ak (.U true) (ag 6 (ak (.U true) (ak (.U false) [])))))];
  .ite (fun mT =>
  .ret (bf (t9.append [.U true,(I 1),.aL [] [] (a8 [2])]) (nO.aH (.dS iH iH gK iH gK mT))))
  (fun mT =>
  .ret (bf (t9.append [.U false,(I 2),.aL [0] [.box [.id,.id]] (a8 [1,5,45,46,47])]) (nO.aH (.dS iH iH gK iH gK mT))))))
  (fun iH =>
  .ret (bf (t6.append [.aw (ag 11 (ak (.U true) (ag 4 (cj 2 (ak (.U false) (ak (.U false) [])))))),.U false,(I 2),.aL [0] [.box [.id,.id]] (a8 [1,5,45,46,47])]) (nO.aH (.dS iH iH gK iH gK cz)))))))
  (fun fh =>
  (have nO:=yQ.aH (.bg fh fh fh fh fh fh cz cz (.e1 cz));
  .ite (fun gK =>
  (let t9:List bW:=t6.append [.aw (ag 6 (cj 5 (ak (.U false) (bp 6 (.U true) 1))))];
  .ite (fun iH =>
  .ret (bf (t9.append [.U true,(I 1),.aL [] [] (a8 [2])]) (nO.aH (.dh gK gK cz gK iH))))
  (fun iH =>
  .ret (bf (t9.append [.U false,(I 2),.aL [0] [.box [.id,.id]] (a8 [1,5,45,46,47])]) (nO.aH (.dh gK gK cz gK iH))))))
  (fun gK =>
  .ret (bf (t6.append [.aw (ag 6 (cj 5 (ak (.U false) (ag 4 (cj 2 (ak (.U false) (ag 1 []))))))),.U false,(I 2),.aL [0] [.box [.id,.id]] (a8 [1,5,45,46,47])]) (nO.aH (.dh gK gK cz gK cz))))))))
  (fun ev =>
  .ret (bf (t4.append [.U true,(I 1),.aL [] [] (a8 [2])]) (lo.aH (.e1 (cJ ev)))))))
  (fun cO =>
  .ret (bf (t1.append [.aw (ag 3 (ak (bn 3 (.b aZ) true) (ag 5 (ak (bn 3 (.b cm) true) (ag 1 (ak (.U false) (ag 1 (cj 4 (ak (.U true) []))))))))),.U true,(I 1),.aL [] [] (a8 [2])]) (fk.aH (.dS (cJ cO) (cJ cO) (cJ cO) (cJ cO) (cJ cO) cL))))))
  (fun a7 =>
  .ret (bf (t1.append [.aw (ag 3 (ak (bn 3 (.b aZ) true) (ag 2 (cj 5 (ak (.U true) (ag 1 (cj 4 (ag 1 [])))))))),.U true,(I 1),.aL [] [] (a8 [2])]) (aS.aH (.bg (cJ a7) (cJ a7) (cJ a7) (cJ a7) (cJ a7) (cJ a7) cL cL (.bR cL cL cL)))))))
  (fun h1 =>
  .ret (bf [(I 1),.U false,.aL [] [] []] (.e1 h1)))
theorem MH {nY:Int}{jr:List bM}{eW:Int}{aJ:List bB}{gr:Int}{r} (h:CH nY jr eW aJ gr=some r):dP a6 102 0 28 [1,1,1,1,0,1,0,0] (FY nY jr eW aJ) (MC nY jr eW aJ) gr r:=dQ (fun _=>TA) h
def j5 (aF:ct):Option Bool :=
 if (decide ((6:Int)<(len_ bI aF.bY)))=true then
  some false
 else
  if (decide ((8:Int)<(len_ bQ aF.bt)))=true then
   some false
  else
   q7 aF.bY (len_ bI aF.bY) aF.bt 0 >>= fun bc =>
   match bc with
   | .inl fQ=>(CH (R ((len_ bI aF.bY)-(1:Int))) aF.bt (len_ bQ aF.bt) aF.bY 0 >>= fun bA =>
    match bA with
    | .inl me=>(some true)
    | .inr me=>(some false))
   | .inr fQ=>(some false)
theorem Vy {aF:ct}:bw (j5 aF) (fun r=>Con a6 28 [.agg (gA aF)] [] (.b r) []):=by
 unfold j5
 exact .ite (fun h1 =>
  .ret (bs [(I 2),.aw (ag 5 (cj 4 (ak (.U true) []))),.U true,(I 1)] (.dS h1 h1 h1 h1 h1 cL)))
  (fun h1 =>
  (let t1:List bW:=[(I 2),.aw (ag 9 (ak (.U false) []))];
  .ite (fun h2 =>
  .ret (bs (t1.append [.U true,(I 1)]) (.dS h1 h1 h1 h1 h1 h2)))
  (fun h2 =>
  .ar fun bc au =>
  (let t2:List bW:=t1.append [.U false,(I 4),.aL [0] [.box [.id,.id]] (a8 [1,21,22,23])];
  (by
  rcases bc with fQ|fQ
  ·exact (.ar fun bA a7 =>
  (let t3:List bW:=t2.append [(F7 aF.bY (len_ bI aF.bY) aF.bt (.inl fQ)).e8,(I 5),(I 4),.aL [0] [.box [.id,.id]] (a8 [1,5,45,46,47])];
  have eP:=((.eF h1 h1 h1 h1 h1 h2 (MG au)):cn _);
  (by
  rcases bA with me|me
  ·exact (.ret (bs (t3.append [.sub (.exit 2) [] [],(I 1)]) (eP.aH (.e1 (MH a7)))))
  ·exact (.ret (bs (t3.append [.sub (.ret) [(2,.b false)] []]) (eP.aH (.e1 (MH a7))))))))
  ·exact (.ret (bs (t2.append [.sub (.ret) [(2,.b false)] []]) (.eF h1 h1 h1 h1 h1 h2 (MG au)))))))))
def Hr (gS:List Int)(fz:Int):Int→S:=fun gB=>dm [(19,.isl 1 (gS.map eI)),(20,.n .i64 fz),(21,.n .i64 gB)] []
def M4 (gS:List Int)(fz:Int):((Unit)⊕(Unit))→dp
 | .inl a=>⟨some 0,[],[]⟩
 | .inr a=>⟨none,[(4,.b false)],[]⟩
def wN (gS:List Int)(fz gB:Int):Option ((Int)⊕((Unit)⊕(Unit))) :=
 if (decide (gB<fz))=true then
  if 0≤gB∧gB<gS.length then
  gS[gB.toNat]? >>= fun aC =>
  mg aC (-100) 100 >>= fun aZ =>
  if aZ=true then
   some (.inl (R (gB+(1:Int))))
  else
   some (.inr (.inr ()))
  else none
 else
  some (.inr (.inl ()))
def I4 (gS:List Int)(fz gB:Int):Option ((Unit)⊕(Unit)):=iter (fun w:Int=>wN gS fz w) gB
theorem UJ {gS:List Int}{fz gB:Int}:bw (wN gS fz gB) (dO a6 29 0 13 [1,1,0,1,0,0] (Hr gS fz gB) (Hr gS fz) (M4 gS fz)):=by
 unfold wN
 exact .ite (fun h1 =>
  .aX fun h2 =>
  .ar fun aC au =>
  .ar fun aZ aW =>
  (let t1:List bW:=[(I 1),.U true,.aw (bp 1 (.b2 (eI aC)) 1),.aw (bp 1 (bn 3 (.b aZ) true) 1)];
  have aS:=((.dS h1 h2.1 (cP eI h2.2) (bT eI au) (pM aZ aW) (b3.b aZ)):cn _);
  .ite (fun a7 =>
  .ret (bf (t1.append [.U false,(I 2),.aL [] [] (a8 [19,20,21])]) (aS.aH (.e1 (cS a7)))))
  (fun a7 =>
  .ret (bf (t1.append [.U true,(I 1),.aL [] [] (a8 [4])]) (aS.aH (.e1 (cJ a7)))))))
  (fun h1 =>
  .ret (bf [(I 1),.U false,.aL [] [] []] (.e1 h1)))
theorem Nf {gS:List Int}{fz gB:Int}{r} (h:I4 gS fz gB=some r):dP a6 29 0 13 [1,1,0,1,0,0] (Hr gS fz) (M4 gS fz) gB r:=dQ (fun _=>UJ) h
def sK (aF:ct)(cN:List Int):Option Bool :=
 j5 aF >>= fun r1 =>
 if r1=true then
  if ((len_ eI cN) != (R ((2:Int)*(len_ bI aF.bY))))=true then
   some false
  else
   I4 cN (len_ eI cN) 0 >>= fun aZ =>
   match aZ with
   | .inl oU=>(some true)
   | .inr oU=>(some false)
 else
  some false
theorem NB {aF:ct}{cN:List Int}:bw (sK aF cN) (fun r=>Con a6 13 [.agg (gA aF),.isl 1 (cN.map eI)] [] (.b r) []):=by
 unfold sK
 exact .ar fun r1 h2 =>
  (have ae:=((.e2 (Vy r1 h2) (b3.b r1)):cn _);
  .ite (fun ab =>
  (let t2:List bW:=[(I 2),.aw (ag 1 (ak (bn 1 (.b r1) true) (ag 9 (ak (.U false) []))))];
  have fk:=ae.aH (.gM (cS ab) (cS ab) (cS ab) (cS ab) (cS ab) (cS ab) (cS ab) (cS ab));
  .ite (fun au =>
  .ret (bs (t2.append [.U true,(I 1)]) (fk.aH (.e1 au))))
  (fun au =>
  .ar fun aZ aW =>
  (let t4:List bW:=t2.append [.U false,(I 3),.aL [] [] (a8 [19,20,21])];
  (by
  rcases aZ with oU|oU
  ·exact (.ret (bs (t4.append [.sub (.exit 0) [] [],(I 1)]) (fk.aH (.e2 au (Nf aW)))))
  ·exact (.ret (bs (t4.append [.sub (.ret) [(4,.b false)] []]) (fk.aH (.e2 au (Nf aW))))))))))
  (fun ab =>
  .ret (bs [(I 2),.aw (ag 1 (ak (bn 1 (.b r1) true) (ag 2 (cj 7 (ak (.U true) []))))),.U true,(I 1)] (ae.aH (.bg (cJ ab) (cJ ab) (cJ ab) (cJ ab) (cJ ab) (cJ ab) (cJ ab) (cJ ab) (.e1 cL))))))
def GJ (cI:List Int)(cx:Int)(aJ:List bB)(aG:List bM):Int→S:=fun dr=>dm [(2,.ref 0 0 0 0),(7,.isl 1 (cI.map eI)),(8,.n .i64 cx),(9,.n .i64 dr)] [[ad.mk 2 [[.isl 4 (aJ.map bI),.isl 3 (aG.map bQ)]] .live]]
def MN (cI:List Int)(cx:Int)(aJ:List bB)(aG:List bM):((Unit)⊕(Unit))→dp
 | .inl a=>⟨some 0,[],[]⟩
 | .inr a=>⟨none,[(4,.b false)],[]⟩
def wu (cI:List Int)(cx:Int)(aJ:List bB)(aG:List bM)(dr:Int):Option ((Int)⊕((Unit)⊕(Unit))) :=
 if (decide (dr<cx))=true then
  if 0≤dr∧dr<cI.length then
  cI[dr.toNat]? >>= fun aC =>
  mg aC 0 (R ((len_ bQ aG)-(1:Int))) >>= fun aZ =>
  if aZ=true then
   if 0≤aC∧aC<aG.length then
   aG[aC.toNat]? >>= fun ee =>
   if (ee.hU != (1:Int))=true then
    some (.inr (.inr ()))
   else
    some (.inl (R (dr+(1:Int))))
   else none
  else
   some (.inr (.inr ()))
  else none
 else
  some (.inr (.inl ()))
def IC (cI:List Int)(cx:Int)(aJ:List bB)(aG:List bM)(dr:Int):Option ((Unit)⊕(Unit)):=iter (fun w:Int=>wu cI cx aJ aG w) dr
theorem Ub {cI:List Int}{cx:Int}{aJ:List bB}{aG:List bM}{dr:Int}:bw (wu cI cx aJ aG dr) (dO a6 30 0 14 [1,0,1,0,0] (GJ cI cx aJ aG dr) (GJ cI cx aJ aG) (MN cI cx aJ aG)):=by
 unfold wu
 exact .ite (fun h1 =>
  .aX fun h2 =>
  .ar fun aC au =>
  .ar fun aZ aW =>
  (let t1:List bW:=[(I 1),.U true,.aw (bp 1 (.b2 (eI aC)) 1)];
  have aS:=((.dS h1 h2.1 (cP eI h2.2) (bT eI au) (pM aZ aW) (b3.b aZ)):cn _);
  .ite (fun a7 =>
  .aX fun bi =>
  .ar fun ee cO =>
  (let t3:List bW:=t1.append [.aw (ag 5 (ak (bn 3 (.b aZ) true) (ag 7 (ak (.b2 (bQ ee)) (ag 1 (ak (.U false) []))))))];
  have eP:=aS.aH (.bg (cS a7) (cS a7) (cS a7) (cS a7) bi.1 (cP bQ bi.2) (cS a7) (cS a7) (.bR (bT bQ cO) (cS a7) (cS a7)));
  .ite (fun eH =>
  .ret (bf (t3.append [.U true,(I 1),.aL [] [] (a8 [4])]) (eP.aH (.e1 eH))))
  (fun eH =>
  .ret (bf (t3.append [.U false,(I 2),.aL [0] [.box [.id,.id]] (a8 [2,7,8,9])]) (eP.aH (.e1 eH))))))
  (fun a7 =>
  .ret (bf (t1.append [.aw (ag 5 (ak (bn 3 (.b aZ) true) (ag 2 (cj 7 (ak (.U true) []))))),.U true,(I 1),.aL [] [] (a8 [4])]) (aS.aH (.bg (cJ a7) (cJ a7) (cJ a7) (cJ a7) (cJ a7) (cJ a7) (cJ a7) (cJ a7) (.e1 cL)))))))
  (fun h1 =>
  .ret (bf [(I 1),.U false,.aL [] [] []] (.e1 h1)))
theorem MW {cI:List Int}{cx:Int}{aJ:List bB}{aG:List bM}{dr:Int}{r} (h:IC cI cx aJ aG dr=some r):dP a6 30 0 14 [1,0,1,0,0] (GJ cI cx aJ aG) (MN cI cx aJ aG) dr r:=dQ (fun _=>Ub) h
def zA (aF:ct)(fS:List Int):Option Bool :=
 IC fS (len_ eI fS) aF.bY aF.bt 0 >>= fun r1 =>
 match r1 with
 | .inl c8=>(some true)
 | .inr c8=>(some false)
theorem Wt {aF:ct}{fS:List Int}:bw (zA aF fS) (fun r=>Con a6 14 [.agg (gA aF),.isl 1 (fS.map eI)] [] (.b r) []):=by
 unfold zA
 exact .ar fun r1 h2 =>
  (let t1:List bW:=[(I 2),(I 3),.aL [0] [.box [.id,.id]] (a8 [2,7,8,9])];
  (by
  rcases r1 with c8|c8
  ·exact (.ret (bs (t1.append [.sub (.exit 0) [] [],(I 1)]) (.e1 (MW h2))))
  ·exact (.ret (bs (t1.append [.sub (.ret) [(4,.b false)] []]) (.e1 (MW h2))))))
def Hs (aV:Int)(cI:List Int)(cx:Int):Int→S:=fun dr=>dm [(1,.n .i64 aV),(7,.isl 1 (cI.map eI)),(8,.n .i64 cx),(9,.n .i64 dr)] []
def M5 (aV:Int)(cI:List Int)(cx:Int):((Unit)⊕(Unit))→dp
 | .inl a=>⟨some 0,[],[]⟩
 | .inr a=>⟨none,[(4,.b true)],[]⟩
def wO (aV:Int)(cI:List Int)(cx dr:Int):Option ((Int)⊕((Unit)⊕(Unit))) :=
 if (decide (dr<cx))=true then
  if 0≤dr∧dr<cI.length then
  cI[dr.toNat]? >>= fun aC =>
  if (aC == aV)=true then
   some (.inr (.inr ()))
  else
   some (.inl (R (dr+(1:Int))))
  else none
 else
  some (.inr (.inl ()))
def I5 (aV:Int)(cI:List Int)(cx dr:Int):Option ((Unit)⊕(Unit)):=iter (fun w:Int=>wO aV cI cx w) dr
theorem UK {aV:Int}{cI:List Int}{cx dr:Int}:bw (wO aV cI cx dr) (dO a6 17 0 32 [1,0,1,0,0] (Hs aV cI cx dr) (Hs aV cI cx) (M5 aV cI cx)):=by
 unfold wO
 exact .ite (fun h1 =>
  .aX fun h2 =>
  .ar fun aC au =>
  (let t1:List bW:=[(I 1),.U true,.aw (bp 1 (.b2 (eI aC)) 1),(I 3)];
  have aS:=((.c7 h1 h2.1 (cP eI h2.2) (bT eI au)):cn _);
  .ite (fun aA =>
  .ret (bf (t1.append [.U true,(I 1),.aL [] [] (a8 [4])]) (aS.aH (.e1 aA))))
  (fun aA =>
  .ret (bf (t1.append [.U false,(I 2),.aL [] [] (a8 [1,7,8,9])]) (aS.aH (.e1 aA))))))
  (fun h1 =>
  .ret (bf [(I 1),.U false,.aL [] [] []] (.e1 h1)))
theorem Ng {aV:Int}{cI:List Int}{cx dr:Int}{r} (h:I5 aV cI cx dr=some r):dP a6 17 0 32 [1,0,1,0,0] (Hs aV cI cx) (M5 aV cI cx) dr r:=dQ (fun _=>UK) h
def zZ (cN:List Int)(aV:Int):Option Bool :=
 I5 aV cN (len_ eI cN) 0 >>= fun r1 =>
 match r1 with
 | .inl c8=>(some false)
 | .inr c8=>(some true)
theorem Xj {cN:List Int}{aV:Int}:bw (zZ cN aV) (fun r=>Con a6 32 [.isl 1 (cN.map eI),.n .i64 aV] [] (.b r) []):=by
 unfold zZ
 exact .ar fun r1 h2 =>
  (let t1:List bW:=[(I 1),(I 3),.aL [] [] (a8 [1,7,8,9])];
  (by
  rcases r1 with c8|c8
  ·exact (.ret (bs (t1.append [.sub (.exit 0) [] [],(I 1)]) (.e1 (Ng h2))))
  ·exact (.ret (bs (t1.append [.sub (.ret) [(4,.b true)] []]) (.e1 (Ng h2))))))
def FJ (fS:List Int)(bV:List bM)(dk:Int)(ay:List bB):(Int×(List bM))→S:=fun (d5,ai)=>dm [(1,.isl 1 (fS.map eI)),(4,.ref 0 0 0 0),(5,.ref 1 0 0 0),(14,.isl 3 (bV.map bQ)),(15,.n .i64 dk),(16,.n .i64 d5)] [[ad.mk 2 [[.ek,.ek]] .live],[ad.mk 2 [[.bj 2 0 0 ay.length,.bj 3 0 0 ai.length]] .live],(ae 4 bI ay),(ae 3 bQ ai)]
def FR (fS:List Int)(bV:List bM)(dk:Int)(ay:List bB):(List bM)→dp
 | a=>⟨some 0,[(4,.ref 0 0 0 0),(5,.ref 1 0 0 0)],[[ad.mk 2 [[.ek,.ek]] .live],[ad.mk 2 [[.bj 2 0 0 ay.length,.bj 3 0 0 a.length]] .live],(ae 4 bI ay),(ae 3 bQ a)]⟩
def vV (fS:List Int)(bV:List bM)(dk:Int)(ay:List bB)(d5:Int)(ai:List bM):Option ((Int×(List bM))⊕((List bM))) :=
 if (decide (d5<dk))=true then
  if 0≤d5∧d5<bV.length then
  bV[d5.toNat]? >>= fun aC =>
  zZ fS d5 >>= fun aZ =>
  if aZ=true then
   some (.inl (R (d5+(1:Int)),ai))
  else
   if (ai++([aC]:List bM)).length*24≤140737488355328 then
   some (.inl (R (d5+(1:Int)),ai++([aC]:List bM)))
   else none
  else none
 else
  some (.inr ai)
def Gr (fS:List Int)(bV:List bM)(dk:Int)(ay:List bB)(d5:Int)(ai:List bM):Option ((List bM)):=iter (fun w:Int×(List bM)=>vV fS bV dk ay w.1 w.2) (d5,ai)
theorem Tq {fS:List Int}{bV:List bM}{dk:Int}{ay:List bB}{d5:Int}{ai:List bM}:bw (vV fS bV dk ay d5 ai) (dO a6 33 0 16 [1,1,0,1,0,0] (FJ fS bV dk ay (d5,ai)) (FJ fS bV dk ay) (FR fS bV dk ay)):=by
 unfold vV
 exact .ite (fun h1 =>
  .aX fun h2 =>
  .ar fun aC au =>
  .ar fun aZ aW =>
  (let t1:List bW:=[(I 1),.U true,.aw (bp 2 (.b2 (bQ aC)) 3),.aw (bp 2 (bn 2 (.b aZ) true) 1)];
  have aS:=((.dS h1 h2.1 (cP bQ h2.2) (bT bQ au) (Xj aZ aW) (b3.b aZ)):cn _);
  .ite (fun a7 =>
  .ret (bf (t1.append [.U false,(I 2),.aL [0,1,2,3] [.box [.id,.id],.box [.id,.id],.pure,.pure] (a8 [1,4,5,14,15,16])]) (aS.aH (.bR (cS a7) (aI 4 .live mA ay) (aI 3 .live lD ai)))))
  (fun a7 =>
  .aX fun bi =>
  .ret (let q1:=(ai++([aC]:List bM));bf (t1.append [.U true,.aw (bp 4 (.aH (q1.length)) 2),(I 2),.aL [0,1,2,19] [.box [.id,.id],.box [.id,.id],.pure,.cy (ae 3 bQ q1)] (a8 [1,4,5,14,15,16])]) (aS.aH (.gM (cJ a7) (gN bQ aC) (gX bQ ai) (gz bQ ai aC) bi (aI 4 .live mA ay) (cZ 3 .live (hd bQ ai aC)) (aI 3 .live lD q1)))))))
  (fun h1 =>
  .ret (bf [(I 1),.U false,.aL [0,1,2,3] [.box [.id,.id],.box [.id,.id],.pure,.pure] (a8 [4,5])] (.bR h1 (aI 4 .live mA ay) (aI 3 .live lD ai))))
theorem T2 {fS:List Int}{bV:List bM}{dk:Int}{ay:List bB}{d5:Int}{ai:List bM}{r} (h:Gr fS bV dk ay d5 ai=some r):dP a6 33 0 16 [1,1,0,1,0,0] (FJ fS bV dk ay) (FR fS bV dk ay) (d5,ai) r:=dQ (fun _=>Tq) h
def wP (aF:ct)(fS:List Int):Option ct :=
 if (([]:List bB)++aF.bY).length*40≤140737488355328 then
 Gr fS aF.bt (len_ bQ aF.bt) (([]:List bB)++aF.bY) 0 ([]:List bM) >>= fun r2 =>
 some (⟨([]:List bB)++aF.bY,r2⟩:ct)
 else none
theorem UL {aF:ct}{fS:List Int}:bw (wP aF fS) (fun r=>Con a6 16 [.agg (gA aF),.isl 1 (fS.map eI)] [] (.agg (gA r)) []):=by
 unfold wP
 exact .aX fun h1 =>
  .ar fun r2 ab =>
  .ret (let q1:=(([]:List bB)++aF.bY);bs [(I 2),.aw (bp 3 (.aH (q1.length)) 3),(I 4),.rr 7 1 3,.aL [1,7,5,13] [.box [.id,.id],.box [.id,.len (([]:List bM).length)],.cy (ae 4 bI q1),.cy (ae 3 bQ ([]:List bM))] (a8 [1,4,5,14,15,16]),(FR fS aF.bt (len_ bQ aF.bt) q1 r2).e8,(I 2)] (.bg (m3 (show []=(([]:List bB)).map bI from rfl) (eZ bB)) (lG (eZ bB) (cW bI aF.bY):q1.length=0+(aF.bY.map bI).length) h1 (eZ bM) (cZ 4 .live (h6 (show []=(([]:List bB)).map bI from rfl) (eZ bB) (cW bI aF.bY))) (aI 4 .live mA q1) (cZ 3 .live (nn bQ)) (aI 3 .live lD ([]:List bM)) (.eF (T2 ab) (fW bI q1) (fv bI q1) (dv mA q1) (fW bQ r2) (fv bQ r2) (dv lD r2))) (.br (.agg [.eh (q1.map bI),.eh (r2.map bQ)])))
def F8 (c1:List bM)(dL:Int):(Int×(List Int)×(List Int))→S:=fun (b9,aa,ap)=>dm [(4,.bj 0 0 0 aa.length),(5,.bj 1 0 0 ap.length),(11,.isl 3 (c1.map bQ)),(12,.n .i64 dL),(13,.n .i64 b9)] [(ae 1 eI aa),(ae 1 eI ap)]
def Gs (c1:List bM)(dL:Int):((List Int)×(List Int))→dp
 | a=>⟨some 0,[(4,.bj 0 0 0 a.1.length),(5,.bj 1 0 0 a.2.length)],[(ae 1 eI a.1),(ae 1 eI a.2)]⟩
def wb (c1:List bM)(dL b9:Int)(aa ap:List Int):Option ((Int×(List Int)×(List Int))⊕((List Int)×(List Int))) :=
 if (decide (b9<dL))=true then
  if 0≤b9∧b9<c1.length then
  c1[b9.toNat]? >>= fun aC =>
  if (aC.hU != (2:Int))=true then
   if (aa++([b9]:List Int)).length*8≤140737488355328 then
   if (ap++([1]:List Int)).length*8≤140737488355328 then
   if (aC.hU != (1:Int))=true then
    if ((aa++([b9]:List Int))++([b9]:List Int)).length*8≤140737488355328 then
    if ((ap++([1]:List Int))++([(-1)]:List Int)).length*8≤140737488355328 then
    some (.inl (R (b9+(1:Int)),(aa++([b9]:List Int))++([b9]:List Int),(ap++([1]:List Int))++([(-1)]:List Int)))
    else none
    else none
   else
    some (.inl (R (b9+(1:Int)),aa++([b9]:List Int),ap++([1]:List Int)))
   else none
   else none
  else
   if (aC.hU != (1:Int))=true then
    if (aa++([b9]:List Int)).length*8≤140737488355328 then
    if (ap++([(-1)]:List Int)).length*8≤140737488355328 then
    some (.inl (R (b9+(1:Int)),aa++([b9]:List Int),ap++([(-1)]:List Int)))
    else none
    else none
   else
    some (.inl (R (b9+(1:Int)),aa,ap))
  else none
 else
  some (.inr (aa,ap))
def HW (c1:List bM)(dL b9:Int)(aa ap:List Int):Option ((List Int)×(List Int)):=iter (fun w:Int×(List Int)×(List Int)=>wb c1 dL w.1 w.2.1 w.2.2) (b9,aa,ap)
theorem TJ {c1:List bM}{dL b9:Int}{aa ap:List Int}:bw (wb c1 dL b9 aa ap) (dO a6 41 0 50 [1,1,1,0,1,0,0] (F8 c1 dL (b9,aa,ap)) (F8 c1 dL) (Gs c1 dL)):=by
 unfold wb
 exact .ite (fun h1 =>
  .aX fun h2 =>
  .ar fun aC au =>
  (let t1:List bW:=[(I 1),.U true,.aw (bp 2 (.b2 (bQ aC)) 3),(I 3)];
  have aS:=((.c7 h1 h2.1 (cP bQ h2.2) (bT bQ au)):cn _);
  .ite (fun aA =>
  .aX fun aW =>
  .aX fun a7 =>
  (let t3:List bW:=t1.append [.U true,.aw (bp 3 (.aH ((aa++([b9]:List Int)).length)) 1),.aw (bp 2 (.aH ((ap++([1]:List Int)).length)) 1),(I 3)];
  have eP:=aS.aH (.bg aA (gN eI b9) (gX eI aa) (gz eI aa b9) aW (gN eI 1) (gX eI ap) (gz eI ap 1) (.e1 a7));
  .ite (fun bi =>
  .aX fun cg =>
  .aX fun cO =>
  .ret (let q1:=(aa++([b9]:List Int));let q2:=(ap++([1]:List Int));let bL:=(q2++([(-1)]:List Int));let bZ:=(q1++([b9]:List Int));bf (t3.append [.U true,.aw (bp 3 (.aH (bZ.length)) 1),.aw (bp 2 (.aH (bL.length)) 1),(I 2),.aL [27,31] [.cy (ae 1 eI bZ),.cy (ae 1 eI bL)] (a8 [4,5,11,12,13])]) (eP.aH (.bg bi (gN eI b9) (m3 (hd eI aa b9) (dH q1)) (gz eI q1 b9) cg (gN eI (-1)) (m3 (hd eI ap 1) (dH q2)) (gz eI q2 (-1)) (.dh cO (cZ 1 .live (h6 (hd eI aa b9) (dH q1) (vv eI b9))) (aI 1 .live aO bZ) (cZ 1 .live (h6 (hd eI ap 1) (dH q2) (vv eI (-1)))) (aI 1 .live aO bL))))))
  (fun bi =>
  .ret (let cH:=(aa++([b9]:List Int));let d8:=(ap++([1]:List Int));bf (t3.append [.U false,(I 2),.aL [15,19] [.cy (ae 1 eI cH),.cy (ae 1 eI d8)] (a8 [4,5,11,12,13])]) (eP.aH (.dh bi (cZ 1 .live (hd eI aa b9)) (aI 1 .live aO cH) (cZ 1 .live (hd eI ap 1)) (aI 1 .live aO d8)))))))
  (fun aA =>
  .ite (fun aW =>
  .aX fun a7 =>
  .aX fun bi =>
  .ret (let fK:=(ap++([(-1)]:List Int));let eB:=(aa++([b9]:List Int));bf (t1.append [.U false,(I 3),.U true,.aw (bp 3 (.aH (eB.length)) 1),.aw (bp 2 (.aH (fK.length)) 1),(I 2),.aL [18,22] [.cy (ae 1 eI eB),.cy (ae 1 eI fK)] (a8 [4,5,11,12,13])]) (aS.aH (.bg aA aW (gN eI b9) (gX eI aa) (gz eI aa b9) a7 (gN eI (-1)) (gX eI ap) (.dS (gz eI ap (-1)) bi (cZ 1 .live (hd eI aa b9)) (aI 1 .live aO eB) (cZ 1 .live (hd eI ap (-1))) (aI 1 .live aO fK))))))
  (fun aW =>
  .ret (bf (t1.append [.U false,(I 3),.U false,(I 2),.aL [0,1] [.pure,.pure] (a8 [4,5,11,12,13])]) (aS.aH (.c7 aA aW (aI 1 .live aO aa) (aI 1 .live aO ap))))))))
  (fun h1 =>
  .ret (bf [(I 1),.U false,.aL [0,1] [.pure,.pure] (a8 [4,5])] (.bR h1 (aI 1 .live aO aa) (aI 1 .live aO ap))))
theorem U6 {c1:List bM}{dL b9:Int}{aa ap:List Int}{r} (h:HW c1 dL b9 aa ap=some r):dP a6 41 0 50 [1,1,1,0,1,0,0] (F8 c1 dL) (Gs c1 dL) (b9,aa,ap) r:=dQ (fun _=>TJ) h
def zl (aF:ct):Option ((List Int)×(List Int)) :=
 HW aF.bt (len_ bQ aF.bt) 0 ([]:List Int) ([]:List Int) >>= fun r1 =>
 some (r1.1,r1.2)
theorem VO {aF:ct}:bw (zl aF) (fun r=>Con a6 50 [.agg (gA aF)] [] (.dX [.isl 1 (r.1.map eI),.isl 1 (r.2.map eI)]) []):=by
 unfold zl
 exact .ar fun r1 h2 =>
  .ret (let q1:=(cZ 1 .live (show []=(([]:List Int)).map eI from rfl));let q2:=(aI 1 .live aO ([]:List Int));let bL:=(ae 1 eI ([]:List Int));bs [(I 3),(I 2),(I 2),(I 4),.aL [3,5] [.cy bL,.cy bL] [(4,fY (([]:List Int).length)),(5,fY (([]:List Int).length)),(11,ii),(12,ii),(13,ii)],(Gs aF.bt (len_ bQ aF.bt) r1).e8,(I 4)] (.bg q1 q2 q1 q2 (eZ Int) (eZ Int) (U6 h2) (fW eI r1.1) (.dh (fv eI r1.1) (dv aO r1.1) (fW eI r1.2) (fv eI r1.2) (dv aO r1.2))) (.comp [.da (.eh (r1.1.map eI)),.da (.eh (r1.2.map eI))]))
def GY (cx:List bB)(dr:Int):(Int×(List Int))→S:=fun (c0,aa)=>dm [(3,.bj 0 0 0 aa.length),(8,.isl 4 (cx.map bI)),(9,.n .i64 dr),(10,.n .i64 c0)] [(ae 1 eI aa)]
def Ht (cx:List bB)(dr:Int):(List Int)→dp
 | a=>⟨some 0,[(3,.bj 0 0 0 a.length)],[(ae 1 eI a)]⟩
def y7 (cx:List bB)(dr c0:Int)(aa:List Int):Option ((Int×(List Int))⊕((List Int))) :=
 if (decide (c0<dr))=true then
  if 0≤c0∧c0<cx.length then
  cx[c0.toNat]? >>= fun aC =>
  if aC.k3=true then
   some (.inl (R (c0+(1:Int)),aa))
  else
   if (aa++([c0]:List Int)).length*8≤140737488355328 then
   some (.inl (R (c0+(1:Int)),aa++([c0]:List Int)))
   else none
  else none
 else
  some (.inr aa)
def IR (cx:List bB)(dr c0:Int)(aa:List Int):Option ((List Int)):=iter (fun w:Int×(List Int)=>y7 cx dr w.1 w.2) (c0,aa)
theorem Uo {cx:List bB}{dr c0:Int}{aa:List Int}:bw (y7 cx dr c0 aa) (dO a6 24 0 52 [1,1,0,1,0,0] (GY cx dr (c0,aa)) (GY cx dr) (Ht cx dr)):=by
 unfold y7
 exact .ite (fun h1 =>
  .aX fun h2 =>
  .ar fun aC au =>
  (let t1:List bW:=[(I 1),.U true,.aw (bp 2 (.b2 (bI aC)) 3),(I 3)];
  have aS:=((.c7 h1 h2.1 (cP bI h2.2) (bT bI au)):cn _);
  .ite (fun aA =>
  .ret (bf (t1.append [.U false,(I 2),.aL [0] [.pure] (a8 [3,8,9,10])]) (aS.aH (.e2 (cS aA) (aI 1 .live aO aa)))))
  (fun aA =>
  .aX fun aW =>
  .ret (let q1:=(aa++([c0]:List Int));bf (t1.append [.U true,.aw (bp 3 (.aH (q1.length)) 1),(I 2),.aL [14] [.cy (ae 1 eI q1)] (a8 [3,8,9,10])]) (aS.aH (.eF (cJ aA) (gN eI c0) (gX eI aa) (gz eI aa c0) aW (cZ 1 .live (hd eI aa c0)) (aI 1 .live aO q1)))))))
  (fun h1 =>
  .ret (bf [(I 1),.U false,.aL [0] [.pure] (a8 [3])] (.e2 h1 (aI 1 .live aO aa))))
theorem VP {cx:List bB}{dr c0:Int}{aa:List Int}{r} (h:IR cx dr c0 aa=some r):dP a6 24 0 52 [1,1,0,1,0,0] (GY cx dr) (Ht cx dr) (c0,aa) r:=dQ (fun _=>Uo) h
def ug (aF:ct):Option (List Int) :=
 IR aF.bY (len_ bI aF.bY) 0 ([]:List Int) >>= fun r1 =>
 some r1
theorem IU {aF:ct}:bw (ug aF) (fun r=>Con a6 52 [.agg (gA aF)] [] (.isl 1 (r.map eI)) []):=by
 unfold ug
 exact .ar fun r1 h2 =>
  .ret (bs [(I 2),(I 2),(I 4),.aL [2] [.cy (ae 1 eI ([]:List Int))] [(3,fY (([]:List Int).length)),(8,ii),(9,ii),(10,ii)],(Ht aF.bY (len_ bI aF.bY) r1).e8,(I 2)] (.eF (cZ 1 .live (show []=(([]:List Int)).map eI from rfl)) (aI 1 .live aO ([]:List Int)) (eZ Int) (VP h2) (fW eI r1) (fv eI r1) (dv aO r1)) (.br (.da (.eh (r1.map eI)))))
def xa (aF:ct)(bq:Int):Option (Int×Int) :=
 if 0≤bq∧bq<aF.bt.length then
 aF.bt[bq.toNat]? >>= fun x2 =>
 if 0≤x2.dG∧x2.dG<aF.bY.length then
 aF.bY[x2.dG.toNat]? >>= fun kr =>
 if 0≤x2.ei∧x2.ei<aF.bY.length then
 aF.bY[x2.ei.toNat]? >>= fun mc =>
 some (R (mc.j2-kr.j2),R (mc.j3-kr.j3))
 else none
 else none
 else none
theorem Wc {aF:ct}{bq:Int}:bw (xa aF bq) (fun r=>Con a6 80 [.agg (gA aF),.n .i64 bq] [] (.dX [.n .i64 r.1,.n .i64 r.2]) []):=by
 unfold xa
 exact .aX fun h1 =>
  .ar fun x2 ab =>
  .aX fun au =>
  .ar fun kr aW =>
  .aX fun a7 =>
  .ar fun mc cg =>
  .ret (bs [(I 3),.aw (ag 7 (ak (.b2 (bQ x2)) (bp 1 (.b2 (bI kr)) 2))),.aw (ag 7 (ak (.b2 (bQ x2)) (bp 1 (.b2 (bI mc)) 2))),(I 12)] (.bg h1.1 (cP bQ h1.2) (bT bQ ab) au.1 (cP bI au.2) (bT bI aW) h1.1 (cP bQ h1.2) (.c7 (bT bQ ab) a7.1 (cP bI a7.2) (bT bI cg))))
def GZ (af:Int)(bV:List Int)(dk d5:Int)(iK:List bM)(jP:Int)(aJ:List bB)(ap:List Int):(Int×(List Int)×(List Int))→S:=fun (h8,ay,ai)=>dm [(1,.ref 0 0 0 0),(3,.bj 1 0 0 ap.length),(5,.n .i64 af),(6,.bj 2 0 0 ay.length),(7,.bj 3 0 0 ai.length),(14,.isl 1 (bV.map eI)),(15,.n .i64 dk),(16,.n .i64 d5),(23,.isl 3 (iK.map bQ)),(24,.n .i64 jP),(25,.n .i64 h8)] [[ad.mk 2 [[.isl 4 (aJ.map bI),.isl 3 (iK.map bQ)]] .live],(ae 1 eI ap),(ae 1 eI ay),(ae 1 eI ai)]
def Hu (af:Int)(bV:List Int)(dk d5:Int)(iK:List bM)(jP:Int)(aJ:List bB)(ap:List Int):((List Int)×(List Int))→dp
 | a=>⟨some 2,[(1,.ref 0 0 0 0),(3,.bj 1 0 0 ap.length),(6,.bj 2 0 0 a.1.length),(7,.bj 3 0 0 a.2.length),(14,.isl 1 (bV.map eI)),(15,.n .i64 dk),(16,.n .i64 d5)],[[ad.mk 2 [[.isl 4 (aJ.map bI),.isl 3 (iK.map bQ)]] .live],(ae 1 eI ap),(ae 1 eI a.1),(ae 1 eI a.2)]⟩
def wC (af:Int)(bV:List Int)(dk d5:Int)(iK:List bM)(jP:Int)(aJ:List bB)(ap:List Int)(h8:Int)(ay ai:List Int):Option ((Int×(List Int)×(List Int))⊕((List Int)×(List Int))) :=
 if (decide (h8<jP))=true then
  if 0≤h8∧h8<iK.length then
  iK[h8.toNat]? >>= fun aC =>
  xa (⟨aJ,iK⟩:ct) h8 >>= fun aZ =>
  if (af == aC.dG)=true then
   if (ay++([aZ.1]:List Int)).length*8≤140737488355328 then
   if (ai++([aZ.2]:List Int)).length*8≤140737488355328 then
   some (.inl (R (h8+(1:Int)),ay++([aZ.1]:List Int),ai++([aZ.2]:List Int)))
   else none
   else none
  else
   if (af == aC.ei)=true then
    if (ay++([R (0-aZ.1)]:List Int)).length*8≤140737488355328 then
    if (ai++([R (0-aZ.2)]:List Int)).length*8≤140737488355328 then
    some (.inl (R (h8+(1:Int)),ay++([R (0-aZ.1)]:List Int),ai++([R (0-aZ.2)]:List Int)))
    else none
    else none
   else
    if (ay++([0]:List Int)).length*8≤140737488355328 then
    if (ai++([0]:List Int)).length*8≤140737488355328 then
    some (.inl (R (h8+(1:Int)),ay++([0]:List Int),ai++([0]:List Int)))
    else none
    else none
  else none
 else
  some (.inr (ay,ai))
def CW (af:Int)(bV:List Int)(dk d5:Int)(iK:List bM)(jP:Int)(aJ:List bB)(ap:List Int)(h8:Int)(ay ai:List Int):Option ((List Int)×(List Int)):=iter (fun w:Int×(List Int)×(List Int)=>wC af bV dk d5 iK jP aJ ap w.1 w.2.1 w.2.2) (h8,ay,ai)
theorem Up {af:Int}{bV:List Int}{dk d5:Int}{iK:List bM}{jP:Int}{aJ:List bB}{ap:List Int}{h8:Int}{ay ai:List Int}:bw (wC af bV dk d5 iK jP aJ ap h8 ay ai) (dO a6 78 0 51 [1,1,0,1,0,0,1,1,0,0,1,1,1,0,1,0,0] (GZ af bV dk d5 iK jP aJ ap (h8,ay,ai)) (GZ af bV dk d5 iK jP aJ ap) (Hu af bV dk d5 iK jP aJ ap)):=by
 unfold wC
 exact .ite (fun h1 =>
  .aX fun h2 =>
  .ar fun aC au =>
  .ar fun aZ aW =>
  (let t1:List bW:=[(I 1),.U true,.aw (bp 2 (.b2 (bQ aC)) 3),.aw (bp 2 (bn 2 (.dX [.n .i64 aZ.1,.n .i64 aZ.2]) true) 5),(I 1),(I 4)];
  have aS:=((.dS h1 h2.1 (cP bQ h2.2) (bT bQ au) (Wc aZ aW) (DZ (oZ (b3.n .i64 aZ.1) (oZ (b3.n .i64 aZ.2) uL)))):cn _);
  .ite (fun a7 =>
  .aX fun bi =>
  .aX fun cg =>
  .ret (let q1:=(ay++([aZ.1]:List Int));let q2:=(ai++([aZ.2]:List Int));bf (t1.append [.U true,.aw (bp 3 (.aH (q1.length)) 1),.aw (bp 3 (.aH (q2.length)) 1),(I 2),.aL [0,1,27,32] [.box [.id,.id],.pure,.cy (ae 1 eI q1),.cy (ae 1 eI q2)] (a8 [1,3,5,6,7,14,15,16,23,24,25])]) (aS.aH (.bg a7 (gN eI aZ.1) (gX eI ay) (gz eI ay aZ.1) bi (gN eI aZ.2) (gX eI ai) (gz eI ai aZ.2) (.dS cg (aI 1 .live aO ap) (cZ 1 .live (hd eI ay aZ.1)) (aI 1 .live aO q1) (cZ 1 .live (hd eI ai aZ.2)) (aI 1 .live aO q2))))))
  (fun a7 =>
  .ite (fun bi =>
  .aX fun cg =>
  .aX fun cO =>
  .ret (let cH:=R (0-aZ.1);let bL:=(ay++([cH]:List Int));let d8:=R (0-aZ.2);let bZ:=(ai++([d8]:List Int));bf (t1.append [.U false,(I 4),.U true,.aw (bp 4 (.aH (bL.length)) 1),.aw (bp 4 (.aH (bZ.length)) 1),(I 2),.aL [0,1,32,38] [.box [.id,.id],.pure,.cy (ae 1 eI bL),.cy (ae 1 eI bZ)] (a8 [1,3,5,6,7,14,15,16,23,24,25])]) (aS.aH (.bg a7 bi (gN eI cH) (gX eI ay) (gz eI ay cH) cg (gN eI d8) (gX eI ai) (.eF (gz eI ai d8) cO (aI 1 .live aO ap) (cZ 1 .live (hd eI ay cH)) (aI 1 .live aO bL) (cZ 1 .live (hd eI ai d8)) (aI 1 .live aO bZ))))))
  (fun bi =>
  .aX fun cg =>
  .aX fun cO =>
  .ret (let fK:=(ay++([0]:List Int));let eB:=(ai++([0]:List Int));bf (t1.append [.U false,(I 4),.U false,.aw (bp 2 (.aH (fK.length)) 1),.aw (bp 2 (.aH (eB.length)) 1),(I 2),.aL [0,1,30,34] [.box [.id,.id],.pure,.cy (ae 1 eI fK),.cy (ae 1 eI eB)] (a8 [1,3,5,6,7,14,15,16,23,24,25])]) (aS.aH (.bg a7 bi (gN eI 0) (gX eI ay) (gz eI ay 0) cg (gN eI 0) (gX eI ai) (.eF (gz eI ai 0) cO (aI 1 .live aO ap) (cZ 1 .live (hd eI ay 0)) (aI 1 .live aO fK) (cZ 1 .live (hd eI ai 0)) (aI 1 .live aO eB)))))))))
  (fun h1 =>
  .ret (bf [(I 1),.U false,.aL [0,1,2,3] [.box [.id,.id],.pure,.pure,.pure] (a8 [1,3,6,7,14,15,16])] (.c7 h1 (aI 1 .live aO ap) (aI 1 .live aO ay) (aI 1 .live aO ai))))
theorem VQ {af:Int}{bV:List Int}{dk d5:Int}{iK:List bM}{jP:Int}{aJ:List bB}{ap:List Int}{h8:Int}{ay ai:List Int}{r} (h:CW af bV dk d5 iK jP aJ ap h8 ay ai=some r):dP a6 78 0 51 [1,1,0,1,0,0,1,1,0,0,1,1,1,0,1,0,0] (GZ af bV dk d5 iK jP aJ ap) (Hu af bV dk d5 iK jP aJ ap) (h8,ay,ai) r:=dQ (fun _=>Up) h
def G0 (bV:List Int)(dk:Int)(aJ:List bB)(aG:List bM):(Int×(List Int))→S:=fun (d5,ap)=>dm [(1,.ref 0 0 0 0),(3,.bj 1 0 0 ap.length),(14,.isl 1 (bV.map eI)),(15,.n .i64 dk),(16,.n .i64 d5)] [[ad.mk 2 [[.isl 4 (aJ.map bI),.isl 3 (aG.map bQ)]] .live],(ae 1 eI ap)]
def Hv (bV:List Int)(dk:Int)(aJ:List bB)(aG:List bM):(List Int)→dp
 | a=>⟨some 0,[(3,.bj 0 0 0 a.length)],[(ae 1 eI a)]⟩
def wD (bV:List Int)(dk:Int)(aJ:List bB)(aG:List bM)(d5:Int)(ap:List Int):Option ((Int×(List Int))⊕((List Int))) :=
 if (decide (d5<dk))=true then
  if 0≤d5∧d5<bV.length then
  bV[d5.toNat]? >>= fun aC =>
  CW aC bV dk d5 aG (len_ bQ aG) aJ ap 0 ([]:List Int) ([]:List Int) >>= fun aZ =>
  if (ap++aZ.1).length*8≤140737488355328 then
  if ((ap++aZ.1)++aZ.2).length*8≤140737488355328 then
  some (.inl (R (d5+(1:Int)),(ap++aZ.1)++aZ.2))
  else none
  else none
  else none
 else
  some (.inr ap)
def IV (bV:List Int)(dk:Int)(aJ:List bB)(aG:List bM)(d5:Int)(ap:List Int):Option ((List Int)):=iter (fun w:Int×(List Int)=>wD bV dk aJ aG w.1 w.2) (d5,ap)
theorem Uq {bV:List Int}{dk:Int}{aJ:List bB}{aG:List bM}{d5:Int}{ap:List Int}:bw (wD bV dk aJ aG d5 ap) (dO a6 78 0 51 [1,1,0,1,0,0] (G0 bV dk aJ aG (d5,ap)) (G0 bV dk aJ aG) (Hv bV dk aJ aG)):=by
 unfold wD
 exact .ite (fun h1 =>
  .aX fun h2 =>
  .ar fun aC au =>
  .ar fun aZ aW =>
  .aX fun a7 =>
  .aX fun bi =>
  .ret (let q1:=(cZ 1 .live (show []=(([]:List Int)).map eI from rfl));let q2:=dH (ap++aZ.1);let bL:=(aI 1 .live aO ([]:List Int));let bZ:=cW eI aZ.1;let cH:=(ae 1 eI ([]:List Int));bf [(I 1),.U true,.aw (bp 1 (.b2 (eI aC)) 1),(I 2),(I 2),(I 4),.aL [0,1,6,8] [.box [.id,.id],.pure,.cy cH,.cy cH] [(1,ii),(3,ii),(5,ii),(6,fY (([]:List Int).length)),(7,fY (([]:List Int).length)),(14,ii),(15,ii),(16,ii),(23,ii),(24,ii),(25,ii)],(Hu aC bV dk d5 aG (len_ bQ aG) aJ ap aZ).e8,.aw (bp 2 (.aH ((ap++aZ.1).length)) 1),.aw (bp 2 (.aH (((ap++aZ.1)++aZ.2).length)) 1),(I 2),.aL [0,10] [.box [.id,.id],.cy (ae 1 eI ((ap++aZ.1)++aZ.2))] (a8 [1,3,14,15,16])] (.bg h1 h2.1 (cP eI h2.2) (bT eI au) (aI 1 .live aO ap) q1 bL q1 (.bg bL (eZ Int) (eZ Int) (VQ aW) (fv eI aZ.1) (gX eI ap) (lG (dH ap) (nX bZ (dH aZ.1)):(ap++aZ.1).length=ap.length+(((aZ.1.map eI).drop 0).take aZ.1.length).length) a7 (.dS (fv eI aZ.2) (m3 (h6 (cW eI ap) (dH ap) (nX bZ (dH aZ.1))) q2) (lG q2 (nX (cW eI aZ.2) (dH aZ.2)):((ap++aZ.1)++aZ.2).length=((ap++aZ.1).length)+(((aZ.2.map eI).drop 0).take aZ.2.length).length) bi (cZ 1 .live (h6 (h6 (cW eI ap) (dH ap) (nX bZ (dH aZ.1))) q2 (nX (cW eI aZ.2) (dH aZ.2)))) (aI 1 .live aO ((ap++aZ.1)++aZ.2)))))))
  (fun h1 =>
  .ret (bf [(I 1),.U false,.aL [1] [.pure] (a8 [3])] (.e2 h1 (aI 1 .live aO ap))))
theorem VR {bV:List Int}{dk:Int}{aJ:List bB}{aG:List bM}{d5:Int}{ap:List Int}{r} (h:IV bV dk aJ aG d5 ap=some r):dP a6 78 0 51 [1,1,0,1,0,0] (G0 bV dk aJ aG) (Hv bV dk aJ aG) (d5,ap) r:=dQ (fun _=>Uq) h
def zQ (aF:ct):Option (List Int) :=
 ug aF >>= fun r1 =>
 IV r1 (len_ eI r1) aF.bY aF.bt 0 ([]:List Int) >>= fun bc =>
 some bc
theorem WX {aF:ct}:bw (zQ aF) (fun r=>Con a6 51 [.agg (gA aF)] [] (.isl 1 (r.map eI)) []):=by
 unfold zQ
 exact .ar fun r1 h2 =>
  .ar fun bc au =>
  .ret (bs [(I 2),(I 2),.aw (bp 1 (bn 1 (.isl 1 (r1.map eI)) false) 2),.aL [0,2] [.box [.id,.id],.cy (ae 1 eI ([]:List Int))] [(1,ii),(3,fY (([]:List Int).length)),(14,ii),(15,ii),(16,ii)],(Hv r1 (len_ eI r1) aF.bY aF.bt bc).e8,(I 2)] (.gM (IU r1 h2) (cZ 1 .live (show []=(([]:List Int)).map eI from rfl)) (aI 1 .live aO ([]:List Int)) (eZ Int) (VR au) (fW eI bc) (fv eI bc) (dv aO bc)) (.br (.da (.eh (bc.map eI)))))
def GK (cN c0:List Int)(c1:Int):(Int×(List Int))→S:=fun (dL,aa)=>dm [(1,.isl 1 (cN.map eI)),(5,.bj 0 0 0 aa.length),(10,.isl 1 (c0.map eI)),(11,.n .i64 c1),(12,.n .i64 dL)] [(ae 1 eI aa)]
def G1 (cN c0:List Int)(c1:Int):(List Int)→dp
 | a=>⟨some 0,[(5,.bj 0 0 0 a.length)],[(ae 1 eI a)]⟩
def wv (cN c0:List Int)(c1 dL:Int)(aa:List Int):Option ((Int×(List Int))⊕((List Int))) :=
 if (decide (dL<c1))=true then
  if 0≤dL∧dL<c0.length then
  c0[dL.toNat]? >>= fun aC =>
  if 0≤(R ((2:Int)*aC))∧(R ((2:Int)*aC))<cN.length then
  cN[(R ((2:Int)*aC)).toNat]? >>= fun cq =>
  if 0≤(R ((R ((2:Int)*aC))+(1:Int)))∧(R ((R ((2:Int)*aC))+(1:Int)))<cN.length then
  cN[(R ((R ((2:Int)*aC))+(1:Int))).toNat]? >>= fun ee =>
  if (aa++([R (0-cq),R (0-ee)]:List Int)).length*8≤140737488355328 then
  some (.inl (R (dL+(1:Int)),aa++([R (0-cq),R (0-ee)]:List Int)))
  else none
  else none
  else none
  else none
 else
  some (.inr aa)
def ID (cN c0:List Int)(c1 dL:Int)(aa:List Int):Option ((List Int)):=iter (fun w:Int×(List Int)=>wv cN c0 c1 w.1 w.2) (dL,aa)
theorem Uc {cN c0:List Int}{c1 dL:Int}{aa:List Int}:bw (wv cN c0 c1 dL aa) (dO a6 34 0 53 [1,1,0,1,0,0] (GK cN c0 c1 (dL,aa)) (GK cN c0 c1) (G1 cN c0 c1)):=by
 unfold wv
 exact .ite (fun h1 =>
  .aX fun h2 =>
  .ar fun aC au =>
  .aX fun aA =>
  .ar fun cq a7 =>
  .aX fun bi =>
  .ar fun ee cO =>
  .aX fun eH =>
  .ret (let q1:=(aa++([R (0-cq),R (0-ee)]:List Int));let q2:=R (0-cq);let bL:=R (0-ee);bf [(I 1),.U true,.aw (bp 1 (.b2 (eI aC)) 1),.aw (ag 5 (ak (.b2 (eI cq)) (ag 6 (ak (.b2 (eI ee)) (bp 2 (.aH (q1.length)) 1))))),(I 2),.aL [20] [.cy (ae 1 eI q1)] (a8 [1,5,10,11,12])] (.bg h1 h2.1 (cP eI h2.2) (bT eI au) aA.1 (cP eI aA.2) (bT eI a7) bi.1 (.gM (cP eI bi.2) (bT eI cO) (kZ (show [[.n .i64 q2],[.n .i64 bL]]=(([R (0-cq),R (0-ee)]:List Int)).map eI from rfl) (show 2=([R (0-cq),R (0-ee)]:List Int).length from rfl)) (gX eI aa) (lG (dH aa) (nX (show [[.n .i64 q2],[.n .i64 bL]]=(([R (0-cq),R (0-ee)]:List Int)).map eI from rfl) (show 2=([R (0-cq),R (0-ee)]:List Int).length from rfl)):q1.length=aa.length+(([[.n .i64 q2],[.n .i64 bL]].drop 0).take 2).length) eH (cZ 1 .live (h6 (cW eI aa) (dH aa) (nX (show [[.n .i64 q2],[.n .i64 bL]]=(([R (0-cq),R (0-ee)]:List Int)).map eI from rfl) (show 2=([R (0-cq),R (0-ee)]:List Int).length from rfl)))) (aI 1 .live aO q1)))))
  (fun h1 =>
  .ret (bf [(I 1),.U false,.aL [0] [.pure] (a8 [5])] (.e2 h1 (aI 1 .live aO aa))))
theorem Vz {cN c0:List Int}{c1 dL:Int}{aa:List Int}{r} (h:ID cN c0 c1 dL aa=some r):dP a6 34 0 53 [1,1,0,1,0,0] (GK cN c0 c1) (G1 cN c0 c1) (dL,aa) r:=dQ (fun _=>Uc) h
def zB (aF:ct)(cN:List Int):Option (List Int) :=
 ug aF >>= fun r1 =>
 ID cN r1 (len_ eI r1) 0 ([]:List Int) >>= fun bc =>
 some bc
theorem Wu {aF:ct}{cN:List Int}:bw (zB aF cN) (fun r=>Con a6 53 [.agg (gA aF),.isl 1 (cN.map eI)] [] (.isl 1 (r.map eI)) []):=by
 unfold zB
 exact .ar fun r1 h2 =>
  .ar fun bc au =>
  .ret (bs [(I 2),(I 2),.aw (bp 1 (bn 1 (.isl 1 (r1.map eI)) false) 2),.aL [2] [.cy (ae 1 eI ([]:List Int))] [(1,ii),(5,fY (([]:List Int).length)),(10,ii),(11,ii),(12,ii)],(G1 cN r1 (len_ eI r1) bc).e8,(I 2)] (.gM (IU r1 h2) (cZ 1 .live (show []=(([]:List Int)).map eI from rfl)) (aI 1 .live aO ([]:List Int)) (eZ Int) (Vz au) (fW eI bc) (fv eI bc) (dv aO bc)) (.br (.da (.eh (bc.map eI)))))
def F9 (iD i7:List Int)(aV:Int)(i9:List Int)(af oA bH dI:Int)(gO ai:List Int):(Int×(List Int))→S:=fun (m6,ay)=>dm [(4,.ref 0 0 0 0),(5,.isl 1 (iD.map eI)),(6,.isl 1 (i7.map eI)),(7,.n .i64 aV),(8,.isl 1 (i9.map eI)),(9,.ref 1 0 0 0),(10,.n .i64 af),(42,.isl 1 (iD.map eI)),(43,.n .i64 oA),(44,.n .i64 m6)] [[ad.mk 5 [[.n .i64 (0:Int),.n .i64 (0:Int),.ek,.ek,.ek]] .live],[ad.mk 5 [(EI bH dI 2 0 0 ay.length gO 3 0 0 ai.length)] .live],(ae 1 eI ay),(ae 1 eI ai)]
def Gt (iD i7:List Int)(aV:Int)(i9:List Int)(af oA bH dI:Int)(gO ai:List Int):(List Int)→dp
 | a=>⟨some 2,[(4,.ref 0 0 0 0),(5,.isl 1 (iD.map eI)),(6,.isl 1 (i7.map eI)),(7,.n .i64 aV),(8,.isl 1 (i9.map eI)),(9,.ref 1 0 0 0),(10,.n .i64 af)],[[ad.mk 5 [[.n .i64 (0:Int),.n .i64 (0:Int),.ek,.ek,.ek]] .live],[ad.mk 5 [(EI bH dI 2 0 0 a.length gO 3 0 0 ai.length)] .live],(ae 1 eI a),(ae 1 eI ai)]⟩
def wc (iD i7:List Int)(aV:Int)(i9:List Int)(af oA bH dI:Int)(gO ai:List Int)(m6:Int)(ay:List Int):Option ((Int×(List Int))⊕((List Int))) :=
 if (decide (m6<oA))=true then
  if 0≤m6∧m6<iD.length then
  iD[m6.toNat]? >>= fun aC =>
  if 0≤m6∧m6<i7.length then
  i7[m6.toNat]? >>= fun cq =>
  if 0≤(R ((R (af*aV))+aC))∧(R ((R (af*aV))+aC))<i9.length then
  i9[(R ((R (af*aV))+aC)).toNat]? >>= fun ee =>
  if (ay++([R (cq*ee)]:List Int)).length*8≤140737488355328 then
  some (.inl (R (m6+(1:Int)),ay++([R (cq*ee)]:List Int)))
  else none
  else none
  else none
  else none
 else
  some (.inr ay)
def HX (iD i7:List Int)(aV:Int)(i9:List Int)(af oA bH dI:Int)(gO ai:List Int)(m6:Int)(ay:List Int):Option ((List Int)):=iter (fun w:Int×(List Int)=>wc iD i7 aV i9 af oA bH dI gO ai w.1 w.2) (m6,ay)
theorem TK {iD i7:List Int}{aV:Int}{i9:List Int}{af oA bH dI:Int}{gO ai:List Int}{m6:Int}{ay:List Int}:bw (wc iD i7 aV i9 af oA bH dI gO ai m6 ay) (dO a6 69 0 31 [1,1,1,1,1,0,1,0,0,1,0,0,1,0,0] (F9 iD i7 aV i9 af oA bH dI gO ai (m6,ay)) (F9 iD i7 aV i9 af oA bH dI gO ai) (Gt iD i7 aV i9 af oA bH dI gO ai)):=by
 unfold wc
 exact .ite (fun h1 =>
  .aX fun h2 =>
  .ar fun aC au =>
  .aX fun aA =>
  .ar fun cq a7 =>
  .aX fun bi =>
  .ar fun ee cO =>
  .aX fun eH =>
  .ret (let q2:=R (cq*ee);let q1:=(ay++([q2]:List Int));bf [(I 1),.U true,.aw (bp 2 (.b2 (eI aC)) 2),.aw (ag 5 (ak (.b2 (eI cq)) (ag 7 (ak (.b2 (eI ee)) (bp 2 (.aH (q1.length)) 2))))),(I 2),.aL [0,1,26,3] [.box [.id,.id,.id,.id,.id],.box [.id,.id,.id,.id,.id],.cy (ae 1 eI q1),.pure] (a8 [4,5,6,7,8,9,10,42,43,44])] (.bg h1 h2.1 (cP eI h2.2) (bT eI au) aA.1 (cP eI aA.2) (bT eI a7) bi.1 (.bg (cP eI bi.2) (bT eI cO) (gN eI q2) (gX eI ay) (gz eI ay q2) eH (cZ 1 .live (hd eI ay q2)) (aI 1 .live aO q1) (.e1 (aI 1 .live aO ai))))))
  (fun h1 =>
  .ret (bf [(I 1),.U false,.aL [0,1,2,3] [.box [.id,.id,.id,.id,.id],.box [.id,.id,.id,.id,.id],.pure,.pure] (a8 [4,5,6,7,8,9,10])] (.bR h1 (aI 1 .live aO ay) (aI 1 .live aO ai))))
theorem U7 {iD i7:List Int}{aV:Int}{i9:List Int}{af oA bH dI:Int}{gO ai:List Int}{m6:Int}{ay:List Int}{r} (h:HX iD i7 aV i9 af oA bH dI gO ai m6 ay=some r):dP a6 69 0 31 [1,1,1,1,1,0,1,0,0,1,0,0,1,0,0] (F9 iD i7 aV i9 af oA bH dI gO ai) (Gt iD i7 aV i9 af oA bH dI gO ai) (m6,ay) r:=dQ (fun _=>TK) h
def Ga (iD i7:List Int)(aV:Int)(i9:List Int)(bH dI:Int)(gO ai:List Int):(Int×(List Int))→S:=fun (af,ay)=>dm [(4,.ref 0 0 0 0),(5,.isl 1 (iD.map eI)),(6,.isl 1 (i7.map eI)),(7,.n .i64 aV),(8,.isl 1 (i9.map eI)),(9,.ref 1 0 0 0),(10,.n .i64 af)] [[ad.mk 5 [[.n .i64 (0:Int),.n .i64 (0:Int),.ek,.ek,.ek]] .live],[ad.mk 5 [(EI bH dI 2 0 0 ay.length gO 3 0 0 ai.length)] .live],(ae 1 eI ay),(ae 1 eI ai)]
def Gu (iD i7:List Int)(aV:Int)(i9:List Int)(bH dI:Int)(gO ai:List Int):(List Int)→dp
 | a=>⟨some 0,[(4,.ref 0 0 0 0),(9,.ref 1 0 0 0)],[[ad.mk 5 [[.n .i64 (0:Int),.n .i64 (0:Int),.ek,.ek,.ek]] .live],[ad.mk 5 [(EI bH dI 2 0 0 a.length gO 3 0 0 ai.length)] .live],(ae 1 eI a),(ae 1 eI ai)]⟩
def we (iD i7:List Int)(aV:Int)(i9:List Int)(bH dI:Int)(gO ai:List Int)(af:Int)(ay:List Int):Option ((Int×(List Int))⊕((List Int))) :=
 if (decide (af<bH))=true then
  HX iD i7 aV i9 af (len_ eI iD) bH dI gO ai 0 ay >>= fun r2 =>
  some (.inl (R (af+(1:Int)),r2))
 else
  some (.inr ay)
def CL (iD i7:List Int)(aV:Int)(i9:List Int)(bH dI:Int)(gO ai:List Int)(af:Int)(ay:List Int):Option ((List Int)):=iter (fun w:Int×(List Int)=>we iD i7 aV i9 bH dI gO ai w.1 w.2) (af,ay)
theorem TL {iD i7:List Int}{aV:Int}{i9:List Int}{bH dI:Int}{gO ai:List Int}{af:Int}{ay:List Int}:bw (we iD i7 aV i9 bH dI gO ai af ay) (dO a6 69 0 31 [1,1,1,1,1,0,1,0,0] (Ga iD i7 aV i9 bH dI gO ai (af,ay)) (Ga iD i7 aV i9 bH dI gO ai) (Gu iD i7 aV i9 bH dI gO ai)):=by
 unfold we
 exact .ite (fun h1 =>
  .ar fun r2 ab =>
  .ret (bf [(I 4),.U true,(I 3),.aL [0,1,2,3] [.box [.id,.id,.id,.id,.id],.box [.id,.id,.id,.id,.id],.pure,.pure] (a8 [4,5,6,7,8,9,10,42,43,44]),(Gt iD i7 aV i9 af (len_ eI iD) bH dI gO ai r2).e8,(I 3),.aL [0,1,2,3] [.box [.id,.id,.id,.id,.id],.box [.id,.id,.id,.id,.id],.pure,.pure] (a8 [4,5,6,7,8,9,10])] (.dS h1 (aI 1 .live aO ay) (aI 1 .live aO ai) (U7 ab) (aI 1 .live aO r2) (aI 1 .live aO ai))))
  (fun h1 =>
  .ret (bf [(I 4),.U false,.aL [0,1,2,3] [.box [.id,.id,.id,.id,.id],.box [.id,.id,.id,.id,.id],.pure,.pure] (a8 [4,9])] (.bR h1 (aI 1 .live aO ay) (aI 1 .live aO ai))))
theorem U8 {iD i7:List Int}{aV:Int}{i9:List Int}{bH dI:Int}{gO ai:List Int}{af:Int}{ay:List Int}{r} (h:CL iD i7 aV i9 bH dI gO ai af ay=some r):dP a6 69 0 31 [1,1,1,1,1,0,1,0,0] (Ga iD i7 aV i9 bH dI gO ai) (Gu iD i7 aV i9 bH dI gO ai) (af,ay) r:=dQ (fun _=>TL) h
def ud (aF:ct)(cN:List Int):Option hn :=
 zl aF >>= fun r1 =>
 zQ aF >>= fun bc =>
 ug aF >>= fun aZ =>
 zB aF cN >>= fun ck =>
 if 0≤(len_ eI r1.1)∧(8:Int)*(len_ eI r1.1)≤281474976710656∧(len_ eI r1.1)<9223372036854775808 then
 CL r1.1 r1.2 (len_ bQ aF.bt) bc (R ((2:Int)*(len_ eI aZ))) (len_ eI r1.1) ck (List.replicate (len_ eI r1.1).toNat 0:List Int) 0 ([]:List Int) >>= fun cY =>
 some (⟨R ((2:Int)*(len_ eI aZ)),(len_ eI r1.1),cY,ck,(List.replicate (len_ eI r1.1).toNat 0:List Int)⟩:hn)
 else none
theorem VS {aF:ct}{cN:List Int}:bw (ud aF cN) (fun r=>Con a6 31 [.agg (gA aF),.isl 1 (cN.map eI)] [] (.agg (nV r)) []):=by
 unfold ud
 exact .ar fun r1 h2 =>
  .ar fun bc au =>
  .ar fun aZ aW =>
  .ar fun ck bi =>
  .aX fun cg =>
  .ar fun cY eH =>
  .ret (let q2:=len_ eI r1.1;let q1:=(List.replicate q2.toNat 0:List Int);bs [(I 2),.aw (bp 1 (bn 1 (.dX [.isl 1 (r1.1.map eI),.isl 1 (r1.2.map eI)]) false) 5),(I 4),.aw (bp 1 (bn 1 (.isl 1 (bc.map eI)) false) 1),.aw (ag 1 (ak (bn 1 (.isl 1 (aZ.map eI)) false) (bp 6 (bn 2 (.isl 1 (ck.map eI)) false) 6))),(I 1),.rr 29 2 1,.aL [1,29,32,27] [.box [.id,.id,.id,.id,.id],.box [.id,.id,.len (([]:List Int).length),.id,.len (q1.length)],.cy (ae 1 eI ([]:List Int)),.cy (ae 1 eI q1)] (a8 [4,5,6,7,8,9,10]),(Gu r1.1 r1.2 (len_ bQ aF.bt) bc (R ((2:Int)*(len_ eI aZ))) q2 ck q1 cY).e8,(I 2)] (.bg (VO r1 h2) (WX bc au) (IU aZ aW) (Wu ck bi) cg.1 (Int.le_refl q2) cg.2.1 cg.2.2 (.bg (eZ Int) (l0 q2.toNat (0:Int)) (cZ 1 .live (nn eI)) (aI 1 .live aO ([]:List Int)) (cZ 1 .live (lF eI q2.toNat 0)) (aI 1 .live aO q1) (U8 eH) (fW eI cY) (.dh (fv eI cY) (dv aO cY) (fW eI q1) (fv eI q1) (dv aO q1)))) (.br (.agg [.id,.id,.eh (cY.map eI),.id,.eh (q1.map eI)])))
def HY (jC:List Int)(gI:Int):Int→S:=fun cI=>dm [(5,.isl 1 (jC.map eI)),(6,.n .i64 gI),(7,.n .i64 cI)] []
def Nh (jC:List Int)(gI:Int):((Unit)⊕(Unit))→dp
 | .inl a=>⟨some 0,[],[]⟩
 | .inr a=>⟨none,[(2,.b false)],[]⟩
def wY (jC:List Int)(gI cI:Int):Option ((Int)⊕((Unit)⊕(Unit))) :=
 if (decide (cI<gI))=true then
  if 0≤cI∧cI<jC.length then
  jC[cI.toNat]? >>= fun aC =>
  mg aC (-100) 100 >>= fun aZ =>
  if aZ=true then
   some (.inl (R (cI+(1:Int))))
  else
   some (.inr (.inr ()))
  else none
 else
  some (.inr (.inl ()))
def Jj (jC:List Int)(gI cI:Int):Option ((Unit)⊕(Unit)):=iter (fun w:Int=>wY jC gI w) cI
theorem U9 {jC:List Int}{gI cI:Int}:bw (wY jC gI cI) (dO a6 15 0 71 [1,0,1,0,0] (HY jC gI cI) (HY jC gI) (Nh jC gI)):=by
 unfold wY
 exact .ite (fun h1 =>
  .aX fun h2 =>
  .ar fun aC au =>
  .ar fun aZ aW =>
  (let t1:List bW:=[(I 1),.U true,.aw (bp 1 (.b2 (eI aC)) 1),.aw (bp 1 (bn 3 (.b aZ) true) 1)];
  have aS:=((.dS h1 h2.1 (cP eI h2.2) (bT eI au) (pM aZ aW) (b3.b aZ)):cn _);
  .ite (fun a7 =>
  .ret (bf (t1.append [.U false,(I 2),.aL [] [] (a8 [5,6,7])]) (aS.aH (.e1 (cS a7)))))
  (fun a7 =>
  .ret (bf (t1.append [.U true,(I 1),.aL [] [] (a8 [2])]) (aS.aH (.e1 (cJ a7)))))))
  (fun h1 =>
  .ret (bf [(I 1),.U false,.aL [] [] []] (.e1 h1)))
theorem Nn {jC:List Int}{gI cI:Int}{r} (h:Jj jC gI cI=some r):dP a6 15 0 71 [1,0,1,0,0] (HY jC gI) (Nh jC gI) cI r:=dQ (fun _=>U9) h
def uv (cN:List Int):Option Bool :=
 Jj cN (len_ eI cN) 0 >>= fun r1 =>
 match r1 with
 | .inl c8=>(some true)
 | .inr c8=>(some false)
theorem Jk {cN:List Int}:bw (uv cN) (fun r=>Con a6 71 [.isl 1 (cN.map eI)] [] (.b r) []):=by
 unfold uv
 exact .ar fun r1 h2 =>
  (let t1:List bW:=[(I 1),(I 3),.aL [] [] (a8 [5,6,7])];
  (by
  rcases r1 with c8|c8
  ·exact (.ret (bs (t1.append [.sub (.exit 0) [] [],(I 1)]) (.e1 (Nn h2))))
  ·exact (.ret (bs (t1.append [.sub (.ret) [(2,.b false)] []]) (.e1 (Nn h2))))))
def zu (b8:hn):Option Bool :=
 mg b8.fr 0 20 >>= fun r1 =>
 if r1=true then
  mg b8.d9 0 40 >>= fun bh =>
  if bh=true then
   if ((len_ eI b8.dG) == (R (b8.fr*b8.d9)))=true then
    if ((len_ eI b8.ei) == b8.fr)=true then
     if ((len_ eI b8.hC) == b8.d9)=true then
      uv b8.dG >>= fun cY =>
      if cY=true then
       uv b8.ei >>= fun ex =>
       if ex=true then
        uv b8.hC >>= fun ey =>
        some ey
       else
        some false
      else
       some false
     else
      some false
    else
     some false
   else
    some false
  else
   some false
 else
  some false
theorem Wd {b8:hn}:bw (zu b8) (fun r=>Con a6 46 [.agg (nV b8)] [] (.b r) []):=by
 unfold zu
 exact .ar fun r1 h2 =>
  (have ae:=((.e2 (pM r1 h2) (b3.b r1)):cn _);
  .ite (fun ab =>
  .ar fun bh aA =>
  (have aS:=ae.aH (.dS ab ab ab (pM bh aA) (b3.b bh) ab);
  .ite (fun aW =>
  (have fk:=aS.aH (.bg aW aW aW aW aW aW aW aW (.e2 aW aW));
  .ite (fun a7 =>
  .ite (fun bi =>
  (have eP:=fk.aH (.bg a7 a7 a7 a7 a7 a7 a7 bi (.dS bi bi bi bi bi bi));
  .ite (fun cg =>
  .ar fun cY eH =>
  (have lo:=eP.aH (.dS cg cg cg (Jk cY eH) (b3.b cY) cg);
  .ite (fun eX =>
  .ar fun ex ew =>
  (have ln:=lo.aH (.dS eX eX eX (Jk ex ew) (b3.b ex) eX);
  .ite (fun fP =>
  .ar fun ey hp =>
  .ret (bs [(I 2),.aw (ag 2 (ak (bn 3 (.b r1) true) (ag 3 (ak (bn 3 (.b bh) true) (ak (.U true) (ag 10 (ak (.U true) (ag 7 (ak (.U true) (ag 7 (ak (.U true) (ag 3 (ak (bn 1 (.b cY) true) (ak (.U true) (ag 3 (ak (bn 1 (.b ex) true) (ak (.U true) (ag 3 (ak (bn 1 (.b ey) true) (ak (.U true) (ag 1 [])))))))))))))))))))))] (ln.aH (.dS fP fP fP (Jk ey hp) (b3.b ey) fP))))
  (fun fP =>
  .ret (bs [(I 2),.aw (ag 2 (ak (bn 3 (.b r1) true) (ag 3 (ak (bn 3 (.b bh) true) (ak (.U true) (ag 10 (ak (.U true) (ag 7 (ak (.U true) (ag 7 (ak (.U true) (ag 3 (ak (bn 1 (.b cY) true) (ak (.U true) (ag 3 (ak (bn 1 (.b ex) true) (ak (.U true) (ag 1 (cj 3 (ak (.U false) (ag 1 [])))))))))))))))))))))] (ln.aH (.c7 fP fP fP fP))))))
  (fun eX =>
  .ret (bs [(I 2),.aw (ag 2 (ak (bn 3 (.b r1) true) (ag 3 (ak (bn 3 (.b bh) true) (ak (.U true) (ag 10 (ak (.U true) (ag 7 (ak (.U true) (ag 7 (ak (.U true) (ag 3 (ak (bn 1 (.b cY) true) (ak (.U true) (ag 1 (cj 3 (ak (.U false) (ag 1 (cj 3 (ag 2 []))))))))))))))))))))] (lo.aH (.eF eX eX eX eX cz cz cz))))))
  (fun cg =>
  .ret (bs [(I 2),.aw (ag 2 (ak (bn 3 (.b r1) true) (ag 3 (ak (bn 3 (.b bh) true) (ak (.U true) (ag 10 (ak (.U true) (ag 7 (ak (.U true) (ag 7 (ak (.U true) (ag 1 (cj 3 (ak (.U false) (ag 1 (cj 3 (ag 2 (cj 3 (ag 2 [])))))))))))))))))))] (eP.aH (.bg cg cg cg cg cz cz cz cz (.e2 cz cz)))))))
  (fun bi =>
  .ret (bs [(I 2),.aw (ag 2 (ak (bn 3 (.b r1) true) (ag 3 (ak (bn 3 (.b bh) true) (ak (.U true) (ag 10 (ak (.U true) (ag 7 (ak (.U true) (ag 1 (cj 6 (ak (.U false) (ag 1 (cj 3 (ag 2 (cj 3 (ag 2 (cj 3 (ag 2 [])))))))))))))))))))] (fk.aH (.bg a7 a7 a7 a7 a7 a7 a7 bi (.bg bi bi bi bi bi bi cz cz (.eF cz cz cz cz cz cz cz)))))))
  (fun a7 =>
  .ret (bs [(I 2),.aw (ag 2 (ak (bn 3 (.b r1) true) (ag 3 (ak (bn 3 (.b bh) true) (ak (.U true) (ag 10 (ak (.U true) (ag 1 (cj 6 (ak (.U false) (ag 1 (cj 6 (ag 2 (cj 3 (ag 2 (cj 3 (ag 2 (cj 3 (ag 2 [])))))))))))))))))))] (fk.aH (.bg a7 a7 a7 a7 a7 a7 a7 cz (.bg cz cz cz cz cz cz cz cz (.dS cz cz cz cz cz cz))))))))
  (fun aW =>
  .ret (bs [(I 2),.aw (ag 2 (ak (bn 3 (.b r1) true) (ag 3 (ak (bn 3 (.b bh) true) (ak (.U true) (ag 1 (cj 9 (ak (.U false) (ag 1 (cj 6 (ag 2 (cj 6 (ag 2 (cj 3 (ag 2 (cj 3 (ag 2 (cj 3 (ag 2 [])))))))))))))))))))] (aS.aH (.bg aW aW aW aW aW aW aW aW (.bg aW aW cz cz cz cz cz cz (.bg cz cz cz cz cz cz cz cz (.eF cz cz cz cz cz cz cz)))))))))
  (fun ab =>
  .ret (bs [(I 2),.aw (ag 2 (ak (bn 3 (.b r1) true) (ag 1 (cj 3 (ak (.U false) (ag 1 (cj 9 (ag 2 (cj 6 (ag 2 (cj 6 (ag 2 (cj 3 (ag 2 (cj 3 (ag 2 (cj 3 (ag 2 []))))))))))))))))))] (ae.aH (.bg ab ab ab ab cz cz cz cz (.bg cz cz cz cz cz cz cz cz (.bg cz cz cz cz cz cz cz cz (.bg cz cz cz cz cz cz cz cz (.e2 cz cz)))))))))
def G2 (ah:List Int):Int→S:=fun aV=>dm [(0,.isl 1 (ah.map eI)),(3,.n .i64 aV)] []
def Hw (ah:List Int):Int→dp
 | a=>⟨some 0,[(0,.isl 1 (ah.map eI)),(3,.n .i64 a)],[]⟩
def tT (ah:List Int)(aV:Int):Option ((Int)⊕(Int)) :=
 if (decide ((0:Int)<aV))=true then
  if 0≤(R (aV-(1:Int)))∧(R (aV-(1:Int)))<ah.length then
  ah[(R (aV-(1:Int))).toNat]? >>= fun aC =>
  if (aC == (0:Int))=true then
   some (.inl (R (aV-(1:Int))))
  else
   some (.inr aV)
  else none
 else
  some (.inr aV)
def IW (ah:List Int)(aV:Int):Option (Int):=iter (fun w:Int=>tT ah w) aV
theorem Ur {ah:List Int}{aV:Int}:bw (tT ah aV) (dO a6 21 0 115 [1,1,0,0,0] (G2 ah aV) (G2 ah) (Hw ah)):=by
 unfold tT
 exact .ite (fun h1 =>
  .aX fun h2 =>
  .ar fun aC au =>
  (let t1:List bW:=[.aw (ag 7 (ak (.b2 (eI aC)) (ag 1 (ak (.U true) []))))];
  have aS:=((.bg h1 h1 h1 h1 h2.1 (cP eI h2.2) h1 (bT eI au) (.e2 h1 h1)):cn _);
  .ite (fun aA =>
  .ret (bf (t1.append [.U true,(I 3),.aL [] [] (a8 [0,3])]) (aS.aH (.e1 aA))))
  (fun aA =>
  .ret (bf (t1.append [.U false,.aL [] [] (a8 [0,3])]) (aS.aH (.e1 aA))))))
  (fun h1 =>
  .ret (bf [.aw (ag 3 (cj 6 (ak (.U false) []))),.U false,.aL [] [] (a8 [0,3])] (.gM h1 h1 h1 h1 h1 h1 h1 cz)))
theorem VT {ah:List Int}{aV:Int}{r} (h:IW ah aV=some r):dP a6 21 0 115 [1,1,0,0,0] (G2 ah) (Hw ah) aV r:=dQ (fun _=>Ur) h
def pN (ah:List Int):Option (List Int) :=
 IW ah (len_ eI ah) >>= fun r1 =>
 if 0≤r1 then
 if 0≤r1.toNat∧r1.toNat≤ah.length then
 some ((ah.drop 0).take (r1.toNat-0))
 else none
 else none
theorem rF {ah:List Int}:bw (pN ah) (fun r=>Con a6 115 [.isl 1 (ah.map eI)] [] (.isl 1 (r.map eI)) []):=by
 unfold pN
 exact .ar fun r1 h2 =>
  .aX fun ab =>
  .aX fun au =>
  .ret (bs [(I 1),(I 3),.aL [] [] (a8 [0,3]),(Hw ah r1).e8,(I 4)] (.dh (VT h2) ab au.1 (rj (cW eI ah) au.2) (congrArg (az.isl 1) (oo (cW eI ah) 0 (r1.toNat-0)):(.isl 1 (((ah.map eI).drop 0).take (r1.toNat-0)):az) = .isl 1 (((ah.drop 0).take (r1.toNat-0)).map eI))) (.br (.da (.cy (.isl 1 (((ah.drop 0).take (r1.toNat-0)).map eI))))))
def xm (ah:List Int):Option (List Int) :=
 pN ah >>= fun r1 =>
 if (decide ((60:Int)<(len_ eI r1)))=true then
  some ([]:List Int)
 else
  some r1
theorem NC {ah:List Int}:bw (xm ah) (fun r=>Con a6 117 [.isl 1 (ah.map eI)] [] (.isl 1 (r.map eI)) []):=by
 unfold xm
 exact .ar fun r1 h2 =>
  (let t1:List bW:=[(I 1),.aw (bp 1 (bn 1 (.isl 1 (r1.map eI)) false) 1),(I 3)];
  .ite (fun ab =>
  .ret (bs (t1.append [.U true,(I 1)]) (.e2 (rF r1 h2) ab) (.br (.da (.jH 1)))))
  (fun ab =>
  .ret (bs (t1.append [.U false,(I 2)]) (.e2 (rF r1 h2) ab))))
def hL (n3:Bool)(ah:List Int):Option bm :=
 xm ah >>= fun r1 =>
 if n3=true then
  if (([]:List Int)++r1).length*8≤140737488355328 then
  some (⟨(decide ((0:Int)<(len_ eI r1))),([]:List Int)++r1⟩:bm)
  else none
 else
  if (([]:List Int)++r1).length*8≤140737488355328 then
  some (⟨false,([]:List Int)++r1⟩:bm)
  else none
theorem nR {n3:Bool}{ah:List Int}:bw (hL n3 ah) (fun r=>Con a6 96 [.b n3,.isl 1 (ah.map eI)] [] (.agg (aT r)) []):=by
 unfold hL
 exact .ar fun r1 h2 =>
  (let t1:List bW:=[(I 1),.aw (bp 1 (bn 1 (.isl 1 (r1.map eI)) false) 1)];
  .ite (fun ab =>
  .aX fun au =>
  .ret (let q1:=(([]:List Int)++r1);bs (t1.append [.aw (ag 5 (ak (.U true) (bp 2 (.aH (q1.length)) 2)))]) (.bg (NC r1 h2) ab ab ab ab (m3 (show []=(([]:List Int)).map eI from rfl) (eZ Int)) (lG (eZ Int) (cW eI r1):q1.length=0+(r1.map eI).length) au (.bR (lr (h6 (show []=(([]:List Int)).map eI from rfl) (eZ Int) (cW eI r1)) (dH q1)) (kZ (h6 (show []=(([]:List Int)).map eI from rfl) (eZ Int) (cW eI r1)) (dH q1)) (dv aO q1))) (.br (.agg [.id,.eh (q1.map eI)]))))
  (fun ab =>
  .aX fun au =>
  .ret (let q2:=(([]:List Int)++r1);bs (t1.append [.aw (ag 2 (cj 3 (ak (.U false) (bp 2 (.aH (q2.length)) 2))))]) (.bg (NC r1 h2) ab ab ab ab (m3 (show []=(([]:List Int)).map eI from rfl) (eZ Int)) (lG (eZ Int) (cW eI r1):q2.length=0+(r1.map eI).length) au (.bR (lr (h6 (show []=(([]:List Int)).map eI from rfl) (eZ Int) (cW eI r1)) (dH q2)) (kZ (h6 (show []=(([]:List Int)).map eI from rfl) (eZ Int) (cW eI r1)) (dH q2)) (dv aO q2))) (.br (.agg [.id,.eh (q2.map eI)])))))
def HZ:(Int×(List Int))→S:=fun (aV,aa)=>dm [(0,.n .i64 aV),(3,.bj 0 0 0 aa.length)] [(ae 1 eI aa)]
def Il:(List Int)→dp
 | a=>⟨some 0,[(3,.bj 0 0 0 a.length)],[(ae 1 eI a)]⟩
def wZ (aV:Int)(aa:List Int):Option ((Int×(List Int))⊕((List Int))) :=
 if (decide ((0:Int)<aV))=true then
  if (aa++([aV.tmod (1000000000:Int)]:List Int)).length*8≤140737488355328 then
  some (.inl (R (aV.tdiv (1000000000:Int)),aa++([aV.tmod (1000000000:Int)]:List Int)))
  else none
 else
  some (.inr aa)
def Jl (aV:Int)(aa:List Int):Option ((List Int)):=iter (fun w:Int×(List Int)=>wZ w.1 w.2) (aV,aa)
theorem Va {aV:Int}{aa:List Int}:bw (wZ aV aa) (dO a6 15 0 111 [1,1,0,0,0] (HZ (aV,aa)) (HZ) (Il)):=by
 unfold wZ
 exact .ite (fun h1 =>
  .aX fun h2 =>
  .ret (let q1:=(aa++([(aV.tmod (1000000000:Int))]:List Int));bf [(I 2),.U true,.aw (bp 4 (.aH (q1.length)) 1),(I 3),.aL [7] [.cy (ae 1 eI q1)] (a8 [0,3])] (.bg h1 (by decide:(1000000000:Int)≠0) (gN eI (aV.tmod (1000000000:Int))) (gX eI aa) (gz eI aa (aV.tmod (1000000000:Int))) h2 (by decide:(1000000000:Int)≠0) (cZ 1 .live (hd eI aa (aV.tmod (1000000000:Int)))) (.e1 (aI 1 .live aO q1)))))
  (fun h1 =>
  .ret (bf [(I 2),.U false,.aL [0] [.pure] (a8 [3])] (.e2 h1 (aI 1 .live aO aa))))
theorem Wv {aV:Int}{aa:List Int}{r} (h:Jl aV aa=some r):dP a6 15 0 111 [1,1,0,0,0] (HZ) (Il) (aV,aa) r:=dQ (fun _=>Va) h
def ra (aV:Int):Option (List Int) :=
 Jl aV ([]:List Int) >>= fun r1 =>
 some r1
theorem xe {aV:Int}:bw (ra aV) (fun r=>Con a6 111 [.n .i64 aV] [] (.isl 1 (r.map eI)) []):=by
 unfold ra
 exact .ar fun r1 h2 =>
  .ret (bs [(I 1),(I 2),.aL [1] [.cy (ae 1 eI ([]:List Int))] [(0,ii),(3,fY (([]:List Int).length))],(Il r1).e8,(I 2)] (.eF (cZ 1 .live (show []=(([]:List Int)).map eI from rfl)) (aI 1 .live aO ([]:List Int)) (eZ Int) (Wv h2) (fW eI r1) (fv eI r1) (dv aO r1)) (.br (.da (.eh (r1.map eI)))))
def zC (aV:Int):Option bm :=
 if (aV == (-9223372036854775808:Int))=true then
  hL true ([854775808,223372036,9]:List Int) >>= fun r2 =>
  some r2
 else
  if (decide (aV<(0:Int)))=true then
   ra (R (0-aV)) >>= fun bc =>
   hL true bc >>= fun aZ =>
   some aZ
  else
   ra aV >>= fun bc =>
   hL false bc >>= fun aZ =>
   some aZ
theorem Ww {aV:Int}:bw (zC aV) (fun r=>Con a6 92 [.n .i64 aV] [] (.agg (aT r)) []):=by
 unfold zC
 exact .ite (fun h1 =>
  .ar fun r2 ab =>
  .ret (bs [(I 1),(I 2),.U true,.aw (bp 1 (.vm 3 (.call {ac:=[ii,.br (.da (.eh (([854775808,223372036,9]:List Int).map eI)))],r:= .agg (aT r2),fu:=false,fB:=[3]})) 1)] (.dh h1 (lr (show [[.n .i64 (854775808:Int)],[.n .i64 (223372036:Int)],[.n .i64 (9:Int)]]=(([854775808,223372036,9]:List Int)).map eI from rfl) (show 3=([854775808,223372036,9]:List Int).length from rfl)) (kZ (show [[.n .i64 (854775808:Int)],[.n .i64 (223372036:Int)],[.n .i64 (9:Int)]]=(([854775808,223372036,9]:List Int)).map eI from rfl) (show 3=([854775808,223372036,9]:List Int).length from rfl)) (dv aO ([854775808,223372036,9]:List Int)) (nR r2 ab))))
  (fun h1 =>
  (let t1:List bW:=[(I 1),(I 2),.U false,(I 2)];
  .ite (fun h2 =>
  .ar fun bc au =>
  .ar fun aZ aW =>
  .ret (bs (t1.append [.U true,.aw (ag 2 (ak (bn 1 (.isl 1 (bc.map eI)) false) (ak (bn 2 (.agg (aT aZ)) false) (ag 1 []))))]) (.c7 h1 h2 (xe bc au) (nR aZ aW))))
  (fun h2 =>
  .ar fun bc au =>
  .ar fun aZ aW =>
  .ret (bs (t1.append [.U false,.aw (ag 1 (ak (bn 1 (.isl 1 (bc.map eI)) false) (ak (bn 2 (.agg (aT aZ)) false) (ag 1 []))))]) (.c7 h1 h2 (xe bc au) (nR aZ aW))))))
def oW (aV:Int):Option aK :=
 zC aV >>= fun r1 =>
 some (⟨r1,([1]:List Int)⟩:aK)
theorem rE {aV:Int}:bw (oW aV) (fun r=>Con a6 72 [.n .i64 aV] [] (.agg (aM r)) []):=by
 unfold oW
 exact .ar fun r1 h2 =>
  .ret (bs [(I 1),.aw (bp 1 (bn 1 (.agg (aT r1)) false) 3)] (.c7 (Ww r1 h2) (lr (show [[.n .i64 (1:Int)]]=(([1]:List Int)).map eI from rfl) (show 1=([1]:List Int).length from rfl)) (gN eI 1) (dv aO ([1]:List Int))) (.br (.agg [.id,.id,.eh (([1]:List Int).map eI)])))
def um (b8:hn)(af:Int):Option (List Int) :=
 if 0≤(R (af*b8.d9)) then
 if 0≤(R ((R (af+(1:Int)))*b8.d9)) then
 if (R (af*b8.d9)).toNat≤(R ((R (af+(1:Int)))*b8.d9)).toNat∧(R ((R (af+(1:Int)))*b8.d9)).toNat≤b8.dG.length then
 some ((b8.dG.drop ((R (af*b8.d9)).toNat)).take ((R ((R (af+(1:Int)))*b8.d9)).toNat-(R (af*b8.d9)).toNat))
 else none
 else none
 else none
theorem ND {b8:hn}{af:Int}:bw (um b8 af) (fun r=>Con a6 73 [.agg (nV b8),.n .i64 af] [] (.isl 1 (r.map eI)) []):=by
 unfold um
 exact .aX fun h1 =>
  .aX fun h2 =>
  .aX fun ab =>
  .ret (let q1:=R (af*b8.d9);let q2:=(R ((R (af+(1:Int)))*b8.d9));bs [(I 2),(I 13)] (.dh h1 h2 ab.1 (rj (cW eI b8.dG) ab.2) (congrArg (az.isl 1) (oo (cW eI b8.dG) (q1.toNat) (q2.toNat-q1.toNat)):(.isl 1 (((b8.dG.map eI).drop (q1.toNat)).take (q2.toNat-q1.toNat)):az) = .isl 1 (((b8.dG.drop (q1.toNat)).take (q2.toNat-q1.toNat)).map eI))) (.br (.da (.cy (.isl 1 (((b8.dG.drop (q1.toNat)).take (q2.toNat-q1.toNat)).map eI))))))
def qn (ah:List Int):Option Bool :=
 if ((len_ eI ah) == (1:Int))=true then
  if 0≤(0:Int)∧(0:Int)<ah.length then
  ah[0]? >>= fun aC =>
  some (aC == (1:Int))
  else none
 else
  some false
theorem zv {ah:List Int}:bw (qn ah) (fun r=>Con a6 93 [.isl 1 (ah.map eI)] [] (.b r) []):=by
 unfold qn
 exact .ite (fun h1 =>
  .aX fun h2 =>
  .ar fun aC au =>
  .ret (bs [(I 1),.aw (ag 6 (ak (.b2 (eI aC)) (bp 1 (.U true) 1)))] (.gM h1 h1 h2.1 (cP eI h2.2) h1 (bT eI au) h1 h1)))
  (fun h1 =>
  .ret (bs [(I 1),.aw (ag 4 (cj 4 (ak (.U false) (ag 1 []))))] (.dh h1 h1 h1 h1 h1)))
def Hx (ah aB:List Int):(Int×Int×(List Int))→S:=fun (c2,af,aa)=>dm [(0,.isl 1 (ah.map eI)),(1,.isl 1 (aB.map eI)),(5,.bj 0 0 0 aa.length),(6,.n .i64 c2),(7,.n .i64 af)] [(ae 1 eI aa)]
def H0 (ah aB:List Int):(List Int)→dp
 | a=>⟨some 0,[(5,.bj 0 0 0 a.length)],[(ae 1 eI a)]⟩
def tU (ah aB:List Int)(c2 af:Int)(aa:List Int):Option ((Int×Int×(List Int))⊕((List Int))) :=
 if (decide (af<(len_ eI ah)))=true then
  if 0≤af∧af<ah.length then
  ah[af.toNat]? >>= fun aC =>
  if (decide (af<(len_ eI aB)))=true then
   if 0≤af∧af<aB.length then
   aB[af.toNat]? >>= fun fi =>
   if (aa++([(R ((R (c2+aC))+fi)).tmod (1000000000:Int)]:List Int)).length*8≤140737488355328 then
   some (.inl (R ((R ((R (c2+aC))+fi)).tdiv (1000000000:Int)),R (af+(1:Int)),aa++([(R ((R (c2+aC))+fi)).tmod (1000000000:Int)]:List Int)))
   else none
   else none
  else
   if (aa++([(R (c2+aC)).tmod (1000000000:Int)]:List Int)).length*8≤140737488355328 then
   some (.inl (R ((R (c2+aC)).tdiv (1000000000:Int)),R (af+(1:Int)),aa++([(R (c2+aC)).tmod (1000000000:Int)]:List Int)))
   else none
  else none
 else
  if (decide (af<(len_ eI aB)))=true then
   if 0≤af∧af<aB.length then
   aB[af.toNat]? >>= fun fT =>
   if (aa++([(R (c2+fT)).tmod (1000000000:Int)]:List Int)).length*8≤140737488355328 then
   some (.inl (R ((R (c2+fT)).tdiv (1000000000:Int)),R (af+(1:Int)),aa++([(R (c2+fT)).tmod (1000000000:Int)]:List Int)))
   else none
   else none
  else
   if (decide ((0:Int)<c2))=true then
    if (aa++([c2.tmod (1000000000:Int)]:List Int)).length*8≤140737488355328 then
    some (.inl (R (c2.tdiv (1000000000:Int)),R (af+(1:Int)),aa++([c2.tmod (1000000000:Int)]:List Int)))
    else none
   else
    some (.inr aa)
def I6 (ah aB:List Int)(c2 af:Int)(aa:List Int):Option ((List Int)):=iter (fun w:Int×Int×(List Int)=>tU ah aB w.1 w.2.1 w.2.2) (c2,af,aa)
theorem UM {ah aB:List Int}{c2 af:Int}{aa:List Int}:bw (tU ah aB c2 af aa) (dO a6 55 0 112 [1,1,1,0,1,0,0] (Hx ah aB (c2,af,aa)) (Hx ah aB) (H0 ah aB)):=by
 unfold tU
 exact .ite (fun h1 =>
  .aX fun h2 =>
  .ar fun aC au =>
  (let t1:List bW:=[.aw (ag 5 (cj 4 (ak (.U true) (ag 1 (cj 2 (ag 1 [])))))),.U true,(I 2),(I 4),.U true,.aw (bp 4 (.b2 (eI aC)) 2),(I 4)];
  have aS:=((.bg h1 h1 h1 h1 h1 cL cL cL (.c7 h1 h2.1 (cP eI h2.2) (bT eI au))):cn _);
  .ite (fun aA =>
  .aX fun aW =>
  .ar fun fi bi =>
  .aX fun cg =>
  .ret (let q1:=R ((R (c2+aC))+fi);let q2:=(aa++([q1.tmod (1000000000:Int)]:List Int));bf (t1.append [.U true,.aw (bp 4 (.b2 (eI fi)) 2),.aw (bp 4 (.aH (q2.length)) 1),(I 3),(I 3),.aL [43] [.cy (ae 1 eI q2)] (a8 [0,1,5,6,7])]) (aS.aH (.bg aA aW.1 (cP eI aW.2) (bT eI bi) (by decide:(1000000000:Int)≠0) (kZ (show [[.n .i64 (q1.tmod (1000000000:Int))]]=(([q1.tmod (1000000000:Int)]:List Int)).map eI from rfl) (show 1=([q1.tmod (1000000000:Int)]:List Int).length from rfl)) (gX eI aa) (lG (dH aa) (nX (show [[.n .i64 (q1.tmod (1000000000:Int))]]=(([q1.tmod (1000000000:Int)]:List Int)).map eI from rfl) (show 1=([q1.tmod (1000000000:Int)]:List Int).length from rfl)):q2.length=aa.length+(([[.n .i64 (q1.tmod (1000000000:Int))]].drop 0).take 1).length) (.c7 cg (by decide:(1000000000:Int)≠0) (cZ 1 .live (h6 (cW eI aa) (dH aa) (nX (show [[.n .i64 (q1.tmod (1000000000:Int))]]=(([q1.tmod (1000000000:Int)]:List Int)).map eI from rfl) (show 1=([q1.tmod (1000000000:Int)]:List Int).length from rfl)))) (aI 1 .live aO q2))))))
  (fun aA =>
  .aX fun aW =>
  .ret (let bZ:=R (c2+aC);let bL:=(aa++([bZ.tmod (1000000000:Int)]:List Int));bf (t1.append [.U false,.aw (bp 4 (.aH (bL.length)) 1),(I 3),(I 3),.aL [36] [.cy (ae 1 eI bL)] (a8 [0,1,5,6,7])]) (aS.aH (.bg aA (by decide:(1000000000:Int)≠0) (kZ (show [[.n .i64 (bZ.tmod (1000000000:Int))]]=(([bZ.tmod (1000000000:Int)]:List Int)).map eI from rfl) (show 1=([bZ.tmod (1000000000:Int)]:List Int).length from rfl)) (gX eI aa) (lG (dH aa) (nX (show [[.n .i64 (bZ.tmod (1000000000:Int))]]=(([bZ.tmod (1000000000:Int)]:List Int)).map eI from rfl) (show 1=([bZ.tmod (1000000000:Int)]:List Int).length from rfl)):bL.length=aa.length+(([[.n .i64 (bZ.tmod (1000000000:Int))]].drop 0).take 1).length) aW (by decide:(1000000000:Int)≠0) (cZ 1 .live (h6 (cW eI aa) (dH aa) (nX (show [[.n .i64 (bZ.tmod (1000000000:Int))]]=(([bZ.tmod (1000000000:Int)]:List Int)).map eI from rfl) (show 1=([bZ.tmod (1000000000:Int)]:List Int).length from rfl)))) (.e1 (aI 1 .live aO bL))))))))
  (fun h1 =>
  .ite (fun h2 =>
  .aX fun ab =>
  .ar fun fT aA =>
  .aX fun aW =>
  .ret (let d8:=R (c2+fT);let cH:=(aa++([d8.tmod (1000000000:Int)]:List Int));bf [.aw (ag 9 (ak (.U false) (ag 1 (cj 2 (ak (.U true) []))))),.U true,(I 2),(I 4),.U false,(I 4),.U true,.aw (bp 4 (.b2 (eI fT)) 2),.aw (bp 4 (.aH (cH.length)) 1),(I 3),(I 3),.aL [36] [.cy (ae 1 eI cH)] (a8 [0,1,5,6,7])] (.bg h1 h1 h1 h1 h1 h2 h2 h2 (.bg cL h1 h2 ab.1 (cP eI ab.2) (bT eI aA) (by decide:(1000000000:Int)≠0) (kZ (show [[.n .i64 (d8.tmod (1000000000:Int))]]=(([d8.tmod (1000000000:Int)]:List Int)).map eI from rfl) (show 1=([d8.tmod (1000000000:Int)]:List Int).length from rfl)) (.dS (gX eI aa) (lG (dH aa) (nX (show [[.n .i64 (d8.tmod (1000000000:Int))]]=(([d8.tmod (1000000000:Int)]:List Int)).map eI from rfl) (show 1=([d8.tmod (1000000000:Int)]:List Int).length from rfl)):cH.length=aa.length+(([[.n .i64 (d8.tmod (1000000000:Int))]].drop 0).take 1).length) aW (by decide:(1000000000:Int)≠0) (cZ 1 .live (h6 (cW eI aa) (dH aa) (nX (show [[.n .i64 (d8.tmod (1000000000:Int))]]=(([d8.tmod (1000000000:Int)]:List Int)).map eI from rfl) (show 1=([d8.tmod (1000000000:Int)]:List Int).length from rfl)))) (aI 1 .live aO cH))))))
  (fun h2 =>
  (let t1:List bW:=[.aw (ag 9 (ak (.U false) (ag 3 (ak (.U false) []))))];
  .ite (fun ab =>
  .aX fun au =>
  .ret (let fK:=(aa++([(c2.tmod (1000000000:Int))]:List Int));bf (t1.append [.U true,(I 2),(I 4),.U false,(I 4),.U false,.aw (bp 4 (.aH (fK.length)) 1),(I 3),(I 3),.aL [29] [.cy (ae 1 eI fK)] (a8 [0,1,5,6,7])]) (.bg h1 h1 h1 h1 h1 h2 h2 h2 (.bg ab h1 h2 (by decide:(1000000000:Int)≠0) (gN eI (c2.tmod (1000000000:Int))) (gX eI aa) (gz eI aa (c2.tmod (1000000000:Int))) au (.bR (by decide:(1000000000:Int)≠0) (cZ 1 .live (hd eI aa (c2.tmod (1000000000:Int)))) (aI 1 .live aO fK))))))
  (fun ab =>
  .ret (bf (t1.append [.U false,.aL [0] [.pure] (a8 [5])]) (.bg h1 h1 h1 h1 h1 h2 h2 h2 (.e2 ab (aI 1 .live aO aa))))))))
theorem We {ah aB:List Int}{c2 af:Int}{aa:List Int}{r} (h:I6 ah aB c2 af aa=some r):dP a6 55 0 112 [1,1,1,0,1,0,0] (Hx ah aB) (H0 ah aB) (c2,af,aa) r:=dQ (fun _=>UM) h
def xn (ah aB:List Int):Option (List Int) :=
 I6 ah aB 0 0 ([]:List Int) >>= fun r1 =>
 some r1
theorem Xk {ah aB:List Int}:bw (xn ah aB) (fun r=>Con a6 112 [.isl 1 (ah.map eI),.isl 1 (aB.map eI)] [] (.isl 1 (r.map eI)) []):=by
 unfold xn
 exact .ar fun r1 h2 =>
  .ret (bs [(I 1),(I 2),(I 1),(I 1),.aL [1] [.cy (ae 1 eI ([]:List Int))] [(0,ii),(1,ii),(5,fY (([]:List Int).length)),(6,ii),(7,ii)],(H0 ah aB r1).e8,(I 2)] (.eF (cZ 1 .live (show []=(([]:List Int)).map eI from rfl)) (aI 1 .live aO ([]:List Int)) (eZ Int) (We h2) (fW eI r1) (fv eI r1) (dv aO r1)) (.br (.da (.eh (r1.map eI)))))
def Hy (ah aB:List Int):Int→S:=fun af=>dm [(0,.isl 1 (ah.map eI)),(1,.isl 1 (aB.map eI)),(5,.n .i64 af)] []
def M6 (ah aB:List Int):((Unit)⊕(Int))→dp
 | .inl a=>⟨some 0,[],[]⟩
 | .inr a=>⟨none,[(4,.n .i64 a)],[]⟩
def wQ (ah aB:List Int)(af:Int):Option ((Int)⊕((Unit)⊕(Int))) :=
 if (decide ((0:Int)≤af))=true then
  if 0≤af∧af<ah.length then
  ah[af.toNat]? >>= fun aC =>
  if 0≤af∧af<aB.length then
  aB[af.toNat]? >>= fun cq =>
  if (decide (aC<cq))=true then
   some (.inr (.inr (-1)))
  else
   if (decide (cq<aC))=true then
    some (.inr (.inr 1))
   else
    some (.inl (R (af-(1:Int))))
  else none
  else none
 else
  some (.inr (.inl ()))
def I7 (ah aB:List Int)(af:Int):Option ((Unit)⊕(Int)):=iter (fun w:Int=>wQ ah aB w) af
theorem UN {ah aB:List Int}{af:Int}:bw (wQ ah aB af) (dO a6 41 0 113 [1,1,0,1,0,0] (Hy ah aB af) (Hy ah aB) (M6 ah aB)):=by
 unfold wQ
 exact .ite (fun h1 =>
  .aX fun h2 =>
  .ar fun aC au =>
  .aX fun aA =>
  .ar fun cq a7 =>
  (let t1:List bW:=[(I 2),.U true,.aw (ag 3 (ak (.b2 (eI aC)) (bp 3 (.b2 (eI cq)) 1)))];
  have aS:=((.eF h1 h2.1 (cP eI h2.2) (bT eI au) aA.1 (cP eI aA.2) (bT eI a7)):cn _);
  .ite (fun bi =>
  .ret (bf (t1.append [.U true,(I 1),.aL [] [] (a8 [4])]) (aS.aH (.e1 bi))))
  (fun bi =>
  (let t3:List bW:=t1.append [.U false,.aw (ag 3 (ak (.b2 (eI aC)) (bp 3 (.b2 (eI cq)) 1)))];
  have eP:=aS.aH (.eF bi h2.1 (cP eI h2.2) (bT eI au) aA.1 (cP eI aA.2) (bT eI a7));
  .ite (fun cg =>
  .ret (bf (t3.append [.U true,(I 1),.aL [] [] (a8 [4])]) (eP.aH (.e1 cg))))
  (fun cg =>
  .ret (bf (t3.append [.U false,(I 3),.aL [] [] (a8 [0,1,5])]) (eP.aH (.e1 cg))))))))
  (fun h1 =>
  .ret (bf [(I 2),.U false,.aL [] [] []] (.e1 h1)))
theorem Ni {ah aB:List Int}{af:Int}{r} (h:I7 ah aB af=some r):dP a6 41 0 113 [1,1,0,1,0,0] (Hy ah aB) (M6 ah aB) af r:=dQ (fun _=>UN) h
def pP (ah aB:List Int):Option Int :=
 if ((len_ eI ah) != (len_ eI aB))=true then
  if (decide ((len_ eI ah)<(len_ eI aB)))=true then
   some (-1)
  else
   some 1
 else
  I7 ah aB (R ((len_ eI ah)-(1:Int))) >>= fun r2 =>
  match r2 with
  | .inl fL=>(some 0)
  | .inr fL=>(some fL)
theorem xb {ah aB:List Int}:bw (pP ah aB) (fun r=>Con a6 113 [.isl 1 (ah.map eI),.isl 1 (aB.map eI)] [] (.n .i64 r) []):=by
 unfold pP
 exact .ite (fun h1 =>
  (let t1:List bW:=[(I 1),(I 5),.U true,(I 5)];
  .ite (fun h2 =>
  .ret (bs (t1.append [.U true,(I 1)]) (.e2 h1 h2)))
  (fun h2 =>
  .ret (bs (t1.append [.U false,(I 1)]) (.e2 h1 h2)))))
  (fun h1 =>
  .ar fun r2 ab =>
  (let t1:List bW:=[(I 1),(I 5),.U false,(I 4),.aL [] [] (a8 [0,1,5])];
  (by
  rcases r2 with fL|fL
  ·exact (.ret (bs (t1.append [.sub (.exit 0) [] [],(I 1)]) (.e2 h1 (Ni ab))))
  ·exact (.ret (bs (t1.append [.sub (.ret) [(4,.n .i64 fL)] []]) (.e2 h1 (Ni ab)))))))
def Hz (ah aB:List Int)(c1:Int):(Int×Int×(List Int))→S:=fun (k4,dL,aa)=>dm [(0,.isl 1 (ah.map eI)),(1,.isl 1 (aB.map eI)),(5,.bj 0 0 0 aa.length),(6,.n .i64 k4),(11,.n .i64 c1),(12,.n .i64 dL)] [(ae 1 eI aa)]
def H2 (ah aB:List Int)(c1:Int):(List Int)→dp
 | a=>⟨some 0,[(5,.bj 0 0 0 a.length)],[(ae 1 eI a)]⟩
def tV (ah aB:List Int)(c1 k4 dL:Int)(aa:List Int):Option ((Int×Int×(List Int))⊕((List Int))) :=
 if (decide (dL<c1))=true then
  if 0≤dL∧dL<ah.length then
  ah[dL.toNat]? >>= fun aC =>
  if (decide (dL<(len_ eI aB)))=true then
   if 0≤dL∧dL<aB.length then
   aB[dL.toNat]? >>= fun fi =>
   if (decide ((R ((R (aC-k4))-fi))<(0:Int)))=true then
    if (aa++([R ((R ((R (aC-k4))-fi))+(1000000000:Int))]:List Int)).length*8≤140737488355328 then
    some (.inl (1,R (dL+(1:Int)),aa++([R ((R ((R (aC-k4))-fi))+(1000000000:Int))]:List Int)))
    else none
   else
    if (aa++([R ((R (aC-k4))-fi)]:List Int)).length*8≤140737488355328 then
    some (.inl (0,R (dL+(1:Int)),aa++([R ((R (aC-k4))-fi)]:List Int)))
    else none
   else none
  else
   if (decide ((R (aC-k4))<(0:Int)))=true then
    if (aa++([R ((R (aC-k4))+(1000000000:Int))]:List Int)).length*8≤140737488355328 then
    some (.inl (1,R (dL+(1:Int)),aa++([R ((R (aC-k4))+(1000000000:Int))]:List Int)))
    else none
   else
    if (aa++([R (aC-k4)]:List Int)).length*8≤140737488355328 then
    some (.inl (0,R (dL+(1:Int)),aa++([R (aC-k4)]:List Int)))
    else none
  else none
 else
  some (.inr aa)
def I8 (ah aB:List Int)(c1 k4 dL:Int)(aa:List Int):Option ((List Int)):=iter (fun w:Int×Int×(List Int)=>tV ah aB c1 w.1 w.2.1 w.2.2) (k4,dL,aa)
theorem UO {ah aB:List Int}{c1 k4 dL:Int}{aa:List Int}:bw (tV ah aB c1 k4 dL aa) (dO a6 42 0 114 [1,1,1,0,1,0,0] (Hz ah aB c1 (k4,dL,aa)) (Hz ah aB c1) (H2 ah aB c1)):=by
 unfold tV
 exact .ite (fun h1 =>
  .aX fun h2 =>
  .ar fun aC au =>
  (let t1:List bW:=[(I 1),.U true,(I 2),.aw (bp 3 (.b2 (eI aC)) 3),(I 4)];
  have aS:=((.c7 h1 h2.1 (cP eI h2.2) (bT eI au)):cn _);
  .ite (fun aA =>
  .aX fun aW =>
  .ar fun fi bi =>
  (let t3:List bW:=t1.append [.U true,.aw (bp 4 (.b2 (eI fi)) 2),(I 1),(I 2)];
  have eP:=aS.aH (.c7 aA aW.1 (cP eI aW.2) (bT eI bi));
  .ite (fun cg =>
  .aX fun cO =>
  .ret (let q1:=(R ((R ((R (aC-k4))-fi))+(1000000000:Int)));let q2:=(aa++([q1]:List Int));bf (t3.append [.U true,(I 3),(I 1),.aw (bp 3 (.aH (q2.length)) 1),(I 2),.aL [32] [.cy (ae 1 eI q2)] (a8 [0,1,5,6,11,12])]) (eP.aH (.eF cg (gN eI q1) (gX eI aa) (gz eI aa q1) cO (cZ 1 .live (hd eI aa q1)) (aI 1 .live aO q2)))))
  (fun cg =>
  .aX fun cO =>
  .ret (let bL:=R ((R (aC-k4))-fi);let bZ:=(aa++([bL]:List Int));bf (t3.append [.U false,.aw (bp 3 (.aH (bZ.length)) 1),(I 2),.aL [28] [.cy (ae 1 eI bZ)] (a8 [0,1,5,6,11,12])]) (eP.aH (.eF cg (gN eI bL) (gX eI aa) (gz eI aa bL) cO (cZ 1 .live (hd eI aa bL)) (aI 1 .live aO bZ)))))))
  (fun aA =>
  (let t3:List bW:=t1.append [.U false,(I 1),(I 2)];
  .ite (fun aW =>
  .aX fun a7 =>
  .ret (let cH:=(R ((R (aC-k4))+(1000000000:Int)));let d8:=(aa++([cH]:List Int));bf (t3.append [.U true,(I 3),(I 1),.aw (bp 3 (.aH (d8.length)) 1),(I 2),.aL [25] [.cy (ae 1 eI d8)] (a8 [0,1,5,6,11,12])]) (aS.aH (.gM aA aW (gN eI cH) (gX eI aa) (gz eI aa cH) a7 (cZ 1 .live (hd eI aa cH)) (aI 1 .live aO d8)))))
  (fun aW =>
  .aX fun a7 =>
  .ret (let eB:=R (aC-k4);let fK:=(aa++([eB]:List Int));bf (t3.append [.U false,.aw (bp 3 (.aH (fK.length)) 1),(I 2),.aL [21] [.cy (ae 1 eI fK)] (a8 [0,1,5,6,11,12])]) (aS.aH (.gM aA aW (gN eI eB) (gX eI aa) (gz eI aa eB) a7 (cZ 1 .live (hd eI aa eB)) (aI 1 .live aO fK)))))))))
  (fun h1 =>
  .ret (bf [(I 1),.U false,.aL [0] [.pure] (a8 [5])] (.e2 h1 (aI 1 .live aO aa))))
theorem Wf {ah aB:List Int}{c1 k4 dL:Int}{aa:List Int}{r} (h:I8 ah aB c1 k4 dL aa=some r):dP a6 42 0 114 [1,1,1,0,1,0,0] (Hz ah aB c1) (H2 ah aB c1) (k4,dL,aa) r:=dQ (fun _=>UO) h
def rK (ah aB:List Int):Option (List Int) :=
 I8 ah aB (len_ eI ah) 0 0 ([]:List Int) >>= fun r1 =>
 pN r1 >>= fun bc =>
 some bc
theorem I9 {ah aB:List Int}:bw (rK ah aB) (fun r=>Con a6 114 [.isl 1 (ah.map eI),.isl 1 (aB.map eI)] [] (.isl 1 (r.map eI)) []):=by
 unfold rK
 exact .ar fun r1 h2 =>
  .ar fun bc au =>
  .ret (bs [(I 1),(I 2),(I 1),(I 3),.aL [1] [.cy (ae 1 eI ([]:List Int))] [(0,ii),(1,ii),(5,fY (([]:List Int).length)),(6,ii),(11,ii),(12,ii)],(H2 ah aB (len_ eI ah) r1).e8,.iN 0,.aw (bp 1 (.call {ac:=[.br (.da (.eh (r1.map eI)))],r:= .isl 1 (bc.map eI),fu:=false,fB:=[0]}) 1)] (.gM (cZ 1 .live (show []=(([]:List Int)).map eI from rfl)) (aI 1 .live aO ([]:List Int)) (eZ Int) (Wf h2) (fW eI r1) (fv eI r1) (dv aO r1) (rF bc au)))
def pQ (c5 er:bm):Option bm :=
 if (c5.cQ == er.cQ)=true then
  xn c5.cA er.cA >>= fun r2 =>
  hL c5.cQ r2 >>= fun bh =>
  some bh
 else
  pP c5.cA er.cA >>= fun r2 =>
  if (decide ((0:Int)≤r2))=true then
   rK c5.cA er.cA >>= fun aZ =>
   hL c5.cQ aZ >>= fun ck =>
   some ck
  else
   rK er.cA c5.cA >>= fun aZ =>
   hL er.cQ aZ >>= fun ck =>
   some ck
theorem Ja {c5 er:bm}:bw (pQ c5 er) (fun r=>Con a6 94 [.agg (aT c5),.agg (aT er)] [] (.agg (aT r)) []):=by
 unfold pQ
 exact .ite (fun h1 =>
  .ar fun r2 ab =>
  .ar fun bh aA =>
  .ret (bs [(I 3),(I 5),.U true,.aw (ag 6 (ak (bn 2 (.isl 1 (r2.map eI)) false) (ak (bn 2 (.agg (aT bh)) false) (ag 1 []))))] (.bR h1 (Xk r2 ab) (nR bh aA))))
  (fun h1 =>
  .ar fun r2 ab =>
  (let t1:List bW:=[(I 3),(I 5),.U false,.aw (bp 4 (bn 2 (.n .i64 r2) true) 1)];
  have aS:=((.bR h1 (xb r2 ab) (b3.n .i64 r2)):cn _);
  .ite (fun au =>
  .ar fun aZ aW =>
  .ar fun ck bi =>
  .ret (bs (t1.append [.U true,.aw (ag 6 (ak (bn 2 (.isl 1 (aZ.map eI)) false) (ak (bn 2 (.agg (aT ck)) false) (ag 1 []))))]) (aS.aH (.bR au (I9 aZ aW) (nR ck bi)))))
  (fun au =>
  .ar fun aZ aW =>
  .ar fun ck bi =>
  .ret (bs (t1.append [.U false,.aw (ag 6 (ak (bn 2 (.isl 1 (aZ.map eI)) false) (ak (bn 2 (.agg (aT ck)) false) (ag 1 []))))]) (aS.aH (.bR au (I9 aZ aW) (nR ck bi)))))))
def H3 (ah:List Int)(gI:Int):Int→S:=fun cI=>dm [(0,.isl 1 (ah.map eI)),(5,.isl 1 (ah.map eI)),(6,.n .i64 gI),(7,.n .i64 cI)] []
def Nj (ah:List Int)(gI:Int):((Unit)⊕(Unit))→dp
 | .inl a=>⟨some 0,[(0,.isl 1 (ah.map eI))],[]⟩
 | .inr a=>⟨none,[(2,.b false)],[]⟩
def w0 (ah:List Int)(gI cI:Int):Option ((Int)⊕((Unit)⊕(Unit))) :=
 if (decide (cI<gI))=true then
  if 0≤cI∧cI<ah.length then
  ah[cI.toNat]? >>= fun aC =>
  mg aC 0 999999999 >>= fun aZ =>
  if aZ=true then
   some (.inl (R (cI+(1:Int))))
  else
   some (.inr (.inr ()))
  else none
 else
  some (.inr (.inl ()))
def Jm (ah:List Int)(gI cI:Int):Option ((Unit)⊕(Unit)):=iter (fun w:Int=>w0 ah gI w) cI
theorem Vb {ah:List Int}{gI cI:Int}:bw (w0 ah gI cI) (dO a6 32 0 102 [1,0,1,0,0] (H3 ah gI cI) (H3 ah gI) (Nj ah gI)):=by
 unfold w0
 exact .ite (fun h1 =>
  .aX fun h2 =>
  .ar fun aC au =>
  .ar fun aZ aW =>
  (let t1:List bW:=[(I 1),.U true,.aw (bp 1 (.b2 (eI aC)) 1),.aw (bp 1 (bn 3 (.b aZ) true) 1)];
  have aS:=((.dS h1 h2.1 (cP eI h2.2) (bT eI au) (pM aZ aW) (b3.b aZ)):cn _);
  .ite (fun a7 =>
  .ret (bf (t1.append [.U false,(I 2),.aL [] [] (a8 [0,5,6,7])]) (aS.aH (.e1 (cS a7)))))
  (fun a7 =>
  .ret (bf (t1.append [.U true,(I 1),.aL [] [] (a8 [2])]) (aS.aH (.e1 (cJ a7)))))))
  (fun h1 =>
  .ret (bf [(I 1),.U false,.aL [] [] (a8 [0])] (.e1 h1)))
theorem IE {ah:List Int}{gI cI:Int}{r} (h:Jm ah gI cI=some r):dP a6 32 0 102 [1,0,1,0,0] (H3 ah gI) (Nj ah gI) cI r:=dQ (fun _=>Vb) h
def rL (ah:List Int):Option Bool :=
 Jm ah (len_ eI ah) 0 >>= fun r1 =>
 match r1 with
 | .inl c8=>(if (decide ((len_ eI ah)≤(60:Int)))=true then
  if ((len_ eI ah) == (0:Int))=true then
   some true
  else
   if 0≤(R ((len_ eI ah)-(1:Int)))∧(R ((len_ eI ah)-(1:Int)))<ah.length then
   ah[(R ((len_ eI ah)-(1:Int))).toNat]? >>= fun fi =>
   some (fi != (0:Int))
   else none
  else
   some false)
 | .inr c8=>(some false)
theorem Jn {ah:List Int}:bw (rL ah) (fun r=>Con a6 102 [.isl 1 (ah.map eI)] [] (.b r) []):=by
 unfold rL
 exact .ar fun r1 h2 =>
  (let t1:List bW:=[(I 1),(I 3),.aL [] [] (a8 [0,5,6,7])];
  (by
  rcases r1 with c8|c8
  ·exact ((let t2:List bW:=t1.append [.sub (.exit 0) [(0,.isl 1 (ah.map eI))] []];
  .ite (fun au =>
  (have fk:=((.dh (IE h2) au au au au):cn _);
  .ite (fun aA =>
  .ret (bs (t2.append [.aw (ag 8 (cj 7 (ak (.U true) (ak (.U true) (ag 1 [])))))]) (fk.aH (.bg aA aA aA aA aA aA aA au (.e2 aA au)))))
  (fun aA =>
  .aX fun aW =>
  .ar fun fi bi =>
  .ret (bs (t2.append [.aw (ag 13 (ak (.b2 (eI fi)) (ag 1 (ak (.U false) (ak (.U true) (ag 1 []))))))]) (fk.aH (.bg aA aA aA aA aA aW.1 (cP eI aW.2) aA (.dh (bT eI bi) aA au aA au)))))))
  (fun au =>
  .ret (bs (t2.append [.aw (ag 4 (cj 4 (ag 7 (cj 1 (ak (.U false) (ag 1 []))))))]) (.eF (IE h2) au au au au au au)))))
  ·exact (.ret (bs (t1.append [.sub (.ret) [(2,.b false)] []]) (.e1 (IE h2))))))
def GL (ah:List Int):(Int×Int)→S:=fun (aV,af)=>dm [(0,.isl 1 (ah.map eI)),(4,.n .i64 aV),(5,.n .i64 af)] []
def G3 (ah:List Int):Int→dp
 | a=>⟨some 0,[(4,.n .i64 a)],[]⟩
def wx (ah:List Int)(aV af:Int):Option ((Int×Int)⊕(Int)) :=
 if (decide ((0:Int)≤af))=true then
  if 0≤af∧af<ah.length then
  ah[af.toNat]? >>= fun aC =>
  some (.inl (R ((R (aV*(1000000000:Int)))+aC),R (af-(1:Int))))
  else none
 else
  some (.inr aV)
def IF (ah:List Int)(aV af:Int):Option (Int):=iter (fun w:Int×Int=>wx ah w.1 w.2) (aV,af)
theorem Ud {ah:List Int}{aV af:Int}:bw (wx ah aV af) (dO a6 30 0 121 [1,1,1,0,1,0,0] (GL ah (aV,af)) (GL ah) (G3 ah)):=by
 unfold wx
 exact .ite (fun h1 =>
  .aX fun h2 =>
  .ar fun aC au =>
  .ret (bf [(I 2),.U true,.aw (bp 5 (.b2 (eI aC)) 2),(I 3),.aL [] [] (a8 [0,4,5])] (.c7 h1 h2.1 (cP eI h2.2) (bT eI au))))
  (fun h1 =>
  .ret (bf [(I 2),.U false,.aL [] [] (a8 [4])] (.e1 h1)))
theorem VA {ah:List Int}{aV af:Int}{r} (h:IF ah aV af=some r):dP a6 30 0 121 [1,1,1,0,1,0,0] (GL ah) (G3 ah) (aV,af) r:=dQ (fun _=>Ud) h
def xf (ah:List Int):Option (Int×Bool) :=
 rL ah >>= fun r1 =>
 if r1=true then
  pP ah ([854775807,223372036,9]:List Int) >>= fun bh =>
  if (decide ((0:Int)<bh))=true then
   some (0,false)
  else
   IF ah 0 (R ((len_ eI ah)-(1:Int))) >>= fun ck =>
   some (ck,true)
 else
  some (0,false)
theorem Np {ah:List Int}:bw (xf ah) (fun r=>Con a6 121 [.isl 1 (ah.map eI)] [] (.dX [.n .i64 r.1,.b r.2]) []):=by
 unfold xf
 exact .ar fun r1 h2 =>
  (have ae:=((.e2 (Jn r1 h2) (b3.b r1)):cn _);
  .ite (fun ab =>
  .ar fun bh aA =>
  (let t2:List bW:=[(I 2),.aw (ag 1 (ak (bn 1 (.b r1) true) (ag 4 (ak (.call {ac:=[ii,.br (.da (.eh (([854775807,223372036,9]:List Int).map eI)))],r:= .n .i64 bh,fu:=true,fB:=[7]}) (ag 1 (ak (.U false) []))))))];
  have fk:=ae.aH (.bg (cS ab) (cS ab) (cS ab) (lr (show [[.n .i64 (854775807:Int)],[.n .i64 (223372036:Int)],[.n .i64 (9:Int)]]=(([854775807,223372036,9]:List Int)).map eI from rfl) (show 3=([854775807,223372036,9]:List Int).length from rfl)) (kZ (show [[.n .i64 (854775807:Int)],[.n .i64 (223372036:Int)],[.n .i64 (9:Int)]]=(([854775807,223372036,9]:List Int)).map eI from rfl) (show 3=([854775807,223372036,9]:List Int).length from rfl)) (dv aO ([854775807,223372036,9]:List Int)) (xb bh aA) (b3.n .i64 bh) (.e2 (cS ab) (cS ab)));
  .ite (fun aW =>
  .ret (bs (t2.append [.U true,(I 2)]) (fk.aH (.e1 aW))))
  (fun aW =>
  .ar fun ck bi =>
  .ret (bs (t2.append [.U false,(I 1),(I 4),.aL [] [] (a8 [0,4,5]),(G3 ah ck).e8,(I 3)]) (fk.aH (.e2 aW (VA bi)))))))
  (fun ab =>
  .ret (bs [(I 2),.aw (ag 1 (ak (bn 1 (.b r1) true) (ag 2 (cj 4 (ak (.U true) []))))),.U true,(I 2)] (ae.aH (.dS (cJ ab) (cJ ab) (cJ ab) (cJ ab) (cJ ab) cL)))))
def GM:(Int×Int)→S:=fun (c5,er)=>dm [(0,.n .i64 c5),(1,.n .i64 er)] []
def G4:Int→dp
 | a=>⟨some 0,[(0,.n .i64 a)],[]⟩
def wy (c5 er:Int):Option ((Int×Int)⊕(Int)) :=
 if (decide ((0:Int)<er))=true then
  if er≠0 then
  some (.inl (er,c5.tmod er))
  else none
 else
  some (.inr c5)
def IG (c5 er:Int):Option (Int):=iter (fun w:Int×Int=>wy w.1 w.2) (c5,er)
theorem Ue {c5 er:Int}:bw (wy c5 er) (dO a6 15 0 122 [1,0,0,0] (GM (c5,er)) (GM) (G4)):=by
 unfold wy
 exact .ite (fun h1 =>
  .aX fun h2 =>
  .ret (bf [(I 2),.U true,(I 4),(I 2),(I 2),.aL [] [] (a8 [0,1])] (.e2 h1 h2)))
  (fun h1 =>
  .ret (bf [(I 2),.U false,.aL [] [] (a8 [0])] (.e1 h1)))
theorem VB {c5 er:Int}{r} (h:IG c5 er=some r):dP a6 15 0 122 [1,0,0,0] (GM) (G4) (c5,er) r:=dQ (fun _=>Ue) h
def zD (c5 er:Int):Option (List Int) :=
 IG c5 er >>= fun r1 =>
 ra r1 >>= fun bc =>
 some bc
theorem Wx {c5 er:Int}:bw (zD c5 er) (fun r=>Con a6 122 [.n .i64 c5,.n .i64 er] [] (.isl 1 (r.map eI)) []):=by
 unfold zD
 exact .ar fun r1 h2 =>
  .ar fun bc au =>
  .ret (bs [(I 1),.aL [] [] (a8 [0,1]),(G4 r1).e8,.aw (bp 1 (bn 1 (.isl 1 (bc.map eI)) false) 1)] (.e2 (VB h2) (xe bc au)))
def GN (ah:List Int)(ld:Int):(Int×Int×(List Int))→S:=fun (fI,af,aa)=>dm [(0,.isl 1 (ah.map eI)),(1,.n .i64 ld),(6,.bj 0 0 0 aa.length),(7,.n .i64 fI),(8,.n .i64 af)] [(ae 1 eI aa)]
def G5 (ah:List Int)(ld:Int):(Int×(List Int))→dp
 | a=>⟨some 0,[(6,.bj 0 0 0 a.2.length),(7,.n .i64 a.1)],[(ae 1 eI a.2)]⟩
def wz (ah:List Int)(ld fI af:Int)(aa:List Int):Option ((Int×Int×(List Int))⊕(Int×(List Int))) :=
 if (decide ((0:Int)≤af))=true then
  if 0≤af∧af<ah.length then
  ah[af.toNat]? >>= fun aC =>
  if ld≠0 then
  if 0≤af∧af<(aa.length:Nat) then
  if (0+af.toNat)<aa.length then
  some (.inl ((R ((R (fI*(1000000000:Int)))+aC)).tmod ld,R (af-(1:Int)),aa.set (0+af.toNat) (R ((R ((R (fI*(1000000000:Int)))+aC)).tdiv ld))))
  else none
  else none
  else none
  else none
 else
  some (.inr (fI,aa))
def CR (ah:List Int)(ld fI af:Int)(aa:List Int):Option (Int×(List Int)):=iter (fun w:Int×Int×(List Int)=>wz ah ld w.1 w.2.1 w.2.2) (fI,af,aa)
theorem Uf {ah:List Int}{ld fI af:Int}{aa:List Int}:bw (wz ah ld fI af aa) (dO a6 39 0 127 [1,1,1,0,1,0,0] (GN ah ld (fI,af,aa)) (GN ah ld) (G5 ah ld)):=by
 unfold wz
 exact .ite (fun h1 =>
  .aX fun h2 =>
  .ar fun aC au =>
  .aX fun aA =>
  .aX fun aW =>
  .aX fun a7 =>
  .ret (let q1:=(R ((R ((R (fI*(1000000000:Int)))+aC)).tdiv ld));bf [(I 2),.U true,.aw (bp 5 (.b2 (eI aC)) 2),.aw (ag 6 (ak .fM [])),(I 4),(I 3),.aL [0] [.cy (ae 1 eI (aa.set (0+af.toNat) q1))] [(0,ii),(1,ii),(6,fY ((aa.set (0+af.toNat) q1).length)),(7,ii),(8,ii)]] (.bg h1 h2.1 (cP eI h2.2) (bT eI au) aA aW.1 aW.2 (hB eI a7) (.dh (hx 1) aA (cZ 1 .live (gF (cW eI aa) (0+af.toNat) q1)) (aI 1 .live aO (aa.set (0+af.toNat) q1)) (hS (dH aa) (0+af.toNat) q1)))))
  (fun h1 =>
  .ret (bf [(I 2),.U false,.aL [0] [.pure] (a8 [6,7])] (.e2 h1 (aI 1 .live aO aa))))
theorem VC {ah:List Int}{ld fI af:Int}{aa:List Int}{r} (h:CR ah ld fI af aa=some r):dP a6 39 0 127 [1,1,1,0,1,0,0] (GN ah ld) (G5 ah ld) (fI,af,aa) r:=dQ (fun _=>Uf) h
def zE (ah:List Int)(ld:Int):Option ((List Int)×Int) :=
 if 0≤(len_ eI ah)∧(8:Int)*(len_ eI ah)≤281474976710656∧(len_ eI ah)<9223372036854775808 then
 CR ah ld 0 (R ((len_ eI ah)-(1:Int))) (List.replicate (len_ eI ah).toNat 0:List Int) >>= fun r2 =>
 pN r2.2 >>= fun bh =>
 some (bh,r2.1)
 else none
theorem Wy {ah:List Int}{ld:Int}:bw (zE ah ld) (fun r=>Con a6 127 [.isl 1 (ah.map eI),.n .i64 ld] [] (.dX [.isl 1 (r.1.map eI),.n .i64 r.2]) []):=by
 unfold zE
 exact .aX fun h1 =>
  .ar fun r2 ab =>
  .ar fun bh aA =>
  .ret (let q1:=(List.replicate (len_ eI ah).toNat 0:List Int);bs [(I 2),(I 4),(I 1),(I 4),.aL [4] [.cy (ae 1 eI q1)] [(0,ii),(1,ii),(6,fY (q1.length)),(7,ii),(8,ii)],(G5 ah ld r2).e8,.iN 0,.aw (bp 1 (.call {ac:=[.br (.da (.eh (r2.2.map eI)))],r:= .isl 1 (bh.map eI),fu:=false,fB:=[0]}) 3)] (.bg h1.1 (Int.le_refl (len_ eI ah)) h1.2.1 h1.2.2 (cZ 1 .live (lF eI (len_ eI ah).toNat 0)) (aI 1 .live aO q1) (l0 (len_ eI ah).toNat (0:Int)) (VC ab) (.c7 (fW eI r2.2) (fv eI r2.2) (dv aO r2.2) (rF bh aA))))
def HA (aB:List Int)(af c5:Int)(dd:List Int)(de gZ:Int):(Int×Int×(List Int))→S:=fun (c2,df,aa)=>dm [(1,.isl 1 (aB.map eI)),(5,.bj 0 0 0 aa.length),(6,.n .i64 af),(7,.n .i64 c5),(8,.n .i64 c2),(26,.isl 1 (dd.map eI)),(27,.n .i64 de),(28,.n .i64 af),(33,.isl 1 (aB.map eI)),(34,.n .i64 gZ),(35,.n .i64 df)] [(ae 1 eI aa)]
def H4 (aB:List Int)(af c5:Int)(dd:List Int)(de gZ:Int):(Int×(List Int))→dp
 | a=>⟨some 2,[(1,.isl 1 (aB.map eI)),(5,.bj 0 0 0 a.2.length),(6,.n .i64 af),(8,.n .i64 a.1),(26,.isl 1 (dd.map eI)),(27,.n .i64 de),(28,.n .i64 af)],[(ae 1 eI a.2)]⟩
def wR (aB:List Int)(af c5:Int)(dd:List Int)(de gZ c2 df:Int)(aa:List Int):Option ((Int×Int×(List Int))⊕(Int×(List Int))) :=
 if (decide (df<gZ))=true then
  if 0≤df∧df<aB.length then
  aB[df.toNat]? >>= fun aC =>
  if 0≤(R (af+df))∧(R (af+df))<(aa.length:Nat) then
  aa[(0+(R (af+df)).toNat)]? >>= fun cq =>
  if (0+(R (af+df)).toNat)<aa.length then
  some (.inl (R ((R ((R (cq+(R (c5*aC))))+c2)).tdiv (1000000000:Int)),R (df+(1:Int)),aa.set (0+(R (af+df)).toNat) ((R ((R (cq+(R (c5*aC))))+c2)).tmod (1000000000:Int))))
  else none
  else none
  else none
 else
  some (.inr (c2,aa))
def Jb (aB:List Int)(af c5:Int)(dd:List Int)(de gZ c2 df:Int)(aa:List Int):Option (Int×(List Int)):=iter (fun w:Int×Int×(List Int)=>wR aB af c5 dd de gZ w.1 w.2.1 w.2.2) (c2,df,aa)
theorem UP {aB:List Int}{af c5:Int}{dd:List Int}{de gZ c2 df:Int}{aa:List Int}:bw (wR aB af c5 dd de gZ c2 df aa) (dO a6 72 0 97 [1,1,1,0,1,0,0,1,1,0,0,1,1,0,1,0,0] (HA aB af c5 dd de gZ (c2,df,aa)) (HA aB af c5 dd de gZ) (H4 aB af c5 dd de gZ)):=by
 unfold wR
 exact .ite (fun h1 =>
  .aX fun h2 =>
  .ar fun aC au =>
  .aX fun aA =>
  .ar fun cq a7 =>
  .aX fun bi =>
  .ret (let q1:=R ((R (cq+(R (c5*aC))))+c2);let q2:=R (af+df);bf [(I 1),.U true,.aw (bp 2 (.b2 (eI aC)) 2),.aw (bp 5 (.b2 (eI cq)) 7),.aw (ag 7 (ak .fM [])),(I 3),(I 2),.aL [0] [.cy (ae 1 eI (aa.set (0+q2.toNat) (q1.tmod (1000000000:Int))))] [(1,ii),(5,fY ((aa.set (0+q2.toNat) (q1.tmod (1000000000:Int))).length)),(6,ii),(7,ii),(8,ii),(26,ii),(27,ii),(28,ii),(33,ii),(34,ii),(35,ii)]] (.bg h1 h2.1 (cP eI h2.2) (bT eI au) aA.1 aA.2 (bT eI a7) (by decide:(1000000000:Int)≠0) (.gM aA.1 aA.2 (hB eI bi) (hx 1) (by decide:(1000000000:Int)≠0) (cZ 1 .live (gF (cW eI aa) (0+q2.toNat) (q1.tmod (1000000000:Int)))) (aI 1 .live aO (aa.set (0+q2.toNat) (q1.tmod (1000000000:Int)))) (hS (dH aa) (0+q2.toNat) (q1.tmod (1000000000:Int)))))))
  (fun h1 =>
  .ret (bf [(I 1),.U false,.aL [0] [.pure] (a8 [1,5,6,8,26,27,28])] (.e2 h1 (aI 1 .live aO aa))))
theorem Wg {aB:List Int}{af c5:Int}{dd:List Int}{de gZ c2 df:Int}{aa:List Int}{r} (h:Jb aB af c5 dd de gZ c2 df aa=some r):dP a6 72 0 97 [1,1,1,0,1,0,0,1,1,0,0,1,1,0,1,0,0] (HA aB af c5 dd de gZ) (H4 aB af c5 dd de gZ) (c2,df,aa) r:=dQ (fun _=>UP) h
def HB (aB dd:List Int)(de:Int):(Int×(List Int))→S:=fun (fw,aa)=>dm [(1,.isl 1 (aB.map eI)),(5,.bj 0 0 0 aa.length),(26,.isl 1 (dd.map eI)),(27,.n .i64 de),(28,.n .i64 fw)] [(ae 1 eI aa)]
def H5 (aB dd:List Int)(de:Int):(List Int)→dp
 | a=>⟨some 0,[(5,.bj 0 0 0 a.length)],[(ae 1 eI a)]⟩
def zb (aB dd:List Int)(de fw:Int)(aa:List Int):Option ((Int×(List Int))⊕((List Int))) :=
 if (decide (fw<de))=true then
  if 0≤fw∧fw<dd.length then
  dd[fw.toNat]? >>= fun aC =>
  Jb aB fw aC dd de (len_ eI aB) 0 0 aa >>= fun aZ =>
  if 0≤(R (fw+(len_ eI aB)))∧(R (fw+(len_ eI aB)))<(aZ.2.length:Nat) then
  if (0+(R (fw+(len_ eI aB))).toNat)<aZ.2.length then
  some (.inl (R (fw+(1:Int)),aZ.2.set (0+(R (fw+(len_ eI aB))).toNat) aZ.1))
  else none
  else none
  else none
 else
  some (.inr aa)
def zw (aB dd:List Int)(de fw:Int)(aa:List Int):Option ((List Int)):=iter (fun w:Int×(List Int)=>zb aB dd de w.1 w.2) (fw,aa)
theorem UQ {aB dd:List Int}{de fw:Int}{aa:List Int}:bw (zb aB dd de fw aa) (dO a6 72 0 97 [1,1,1,0,1,0,0] (HB aB dd de (fw,aa)) (HB aB dd de) (H5 aB dd de)):=by
 unfold zb
 exact .ite (fun h1 =>
  .aX fun h2 =>
  .ar fun aC au =>
  .ar fun aZ aW =>
  .aX fun a7 =>
  .aX fun bi =>
  .ret (let q1:=R (fw+(len_ eI aB));bf [(I 1),.U true,.aw (bp 2 (.b2 (eI aC)) 2),(I 1),(I 3),.aL [0] [.pure] (a8 [1,5,6,7,8,26,27,28,33,34,35]),(H4 aB fw aC dd de (len_ eI aB) aZ).e8,.aw (ag 7 (ak .fM [])),(I 2),.aL [0] [.cy (ae 1 eI (aZ.2.set (0+q1.toNat) aZ.1))] [(1,ii),(5,fY ((aZ.2.set (0+q1.toNat) aZ.1).length)),(26,ii),(27,ii),(28,ii)]] (.bg h1 h2.1 (cP eI h2.2) (bT eI au) (aI 1 .live aO aa) (Wg aW) a7.1 a7.2 (.dh (hB eI bi) (hx 1) (cZ 1 .live (gF (cW eI aZ.2) (0+q1.toNat) aZ.1)) (aI 1 .live aO (aZ.2.set (0+q1.toNat) aZ.1)) (hS (dH aZ.2) (0+q1.toNat) aZ.1)))))
  (fun h1 =>
  .ret (bf [(I 1),.U false,.aL [0] [.pure] (a8 [5])] (.e2 h1 (aI 1 .live aO aa))))
theorem Wh {aB dd:List Int}{de fw:Int}{aa:List Int}{r} (h:zw aB dd de fw aa=some r):dP a6 72 0 97 [1,1,1,0,1,0,0] (HB aB dd de) (H5 aB dd de) (fw,aa) r:=dQ (fun _=>UQ) h
def hF (ah aB:List Int):Option (List Int) :=
 if ((len_ eI ah) == (0:Int))=true then
  some ([]:List Int)
 else
  if ((len_ eI aB) == (0:Int))=true then
   some ([]:List Int)
  else
   if 0≤(R ((len_ eI ah)+(len_ eI aB)))∧(8:Int)*(R ((len_ eI ah)+(len_ eI aB)))≤281474976710656∧(R ((len_ eI ah)+(len_ eI aB)))<9223372036854775808 then
   zw aB ah (len_ eI ah) 0 (List.replicate (R ((len_ eI ah)+(len_ eI aB))).toNat 0:List Int) >>= fun bh =>
   pN bh >>= fun bA =>
   some bA
   else none
theorem oX {ah aB:List Int}:bw (hF ah aB) (fun r=>Con a6 97 [.isl 1 (ah.map eI),.isl 1 (aB.map eI)] [] (.isl 1 (r.map eI)) []):=by
 unfold hF
 exact .ite (fun h1 =>
  .ret (bs [(I 1),.aw (ag 4 (cj 3 (ak (.U true) []))),.U true,(I 1)] (.dh h1 h1 h1 h1 cL) (.br (.da (.jH 1)))))
  (fun h1 =>
  (let t1:List bW:=[(I 1),.aw (ag 7 (ak (.U false) []))];
  .ite (fun h2 =>
  .ret (bs (t1.append [.U true,(I 1)]) (.dh h1 h1 h1 h1 h2) (.br (.da (.jH 1)))))
  (fun h2 =>
  .aX fun ab =>
  .ar fun bh aA =>
  .ar fun bA a7 =>
  .ret (let q1:=R ((len_ eI ah)+(len_ eI aB));let q2:=(List.replicate q1.toNat 0:List Int);bs (t1.append [.U false,(I 7),(I 3),.aL [14] [.cy (ae 1 eI q2)] [(1,ii),(5,fY (q2.length)),(26,ii),(27,ii),(28,ii)],(H5 aB ah (len_ eI ah) bh).e8,.iN 0,.aw (bp 1 (.call {ac:=[.br (.da (.eh (bh.map eI)))],r:= .isl 1 (bA.map eI),fu:=false,fB:=[0]}) 1)]) (.bg h1 h1 h1 h1 h2 ab.1 (Int.le_refl q1) ab.2.1 (.bg ab.2.2 (cZ 1 .live (lF eI q1.toNat 0)) (aI 1 .live aO q2) (l0 q1.toNat (0:Int)) (Wh aA) (fW eI bh) (fv eI bh) (dv aO bh) (.e1 (rF bA a7))))))))
def GO (bU aB:List Int):(Int×Int)→S:=fun (l6,ml)=>dm [(0,.isl 1 (bU.map eI)),(1,.isl 1 (aB.map eI)),(7,.n .i64 l6),(8,.n .i64 ml)] []
def MO (bU aB:List Int):Int→dp
 | a=>⟨some 0,[(7,.n .i64 a)],[]⟩
def tQ (bU aB:List Int)(l6 ml:Int):Option ((Int×Int)⊕(Int)) :=
 if (decide (l6<ml))=true then
  ra (R ((R ((R (l6+ml))+(1:Int))).tdiv (2:Int))) >>= fun r2 =>
  hF aB r2 >>= fun bh =>
  pP bh bU >>= fun bA =>
  if (decide (bA≤(0:Int)))=true then
   some (.inl (R ((R ((R (l6+ml))+(1:Int))).tdiv (2:Int)),ml))
  else
   some (.inl (l6,R ((R ((R ((R (l6+ml))+(1:Int))).tdiv (2:Int)))-(1:Int))))
 else
  some (.inr l6)
def CS (bU aB:List Int)(l6 ml:Int):Option (Int):=iter (fun w:Int×Int=>tQ bU aB w.1 w.2) (l6,ml)
theorem Ug {bU aB:List Int}{l6 ml:Int}:bw (tQ bU aB l6 ml) (dO a6 63 0 128 [1,1,1,1,1,1,0,0,0] (GO bU aB (l6,ml)) (GO bU aB) (MO bU aB)):=by
 unfold tQ
 exact .ite (fun h1 =>
  .ar fun r2 ab =>
  .ar fun bh aA =>
  .ar fun bA a7 =>
  (let t1:List bW:=[(I 3),.U true,(I 6),.aw (ag 2 (ak (bn 1 (.isl 1 (r2.map eI)) false) (ak (bn 2 (.isl 1 (bh.map eI)) false) (bp 1 (bn 2 (.n .i64 bA) true) 1))))];
  have aS:=((.dS h1 (by decide:(2:Int)≠0) (xe r2 ab) (oX bh aA) (xb bA a7) (b3.n .i64 bA)):cn _);
  .ite (fun bi =>
  .ret (bf (t1.append [.U true,(I 2),.aL [] [] (a8 [0,1,7,8])]) (aS.aH (.e1 bi))))
  (fun bi =>
  .ret (bf (t1.append [.U false,(I 3),.aL [] [] (a8 [0,1,7,8])]) (aS.aH (.e1 bi))))))
  (fun h1 =>
  .ret (bf [(I 3),.U false,.aL [] [] (a8 [7])] (.e1 h1)))
theorem MX {bU aB:List Int}{l6 ml:Int}{r} (h:CS bU aB l6 ml=some r):dP a6 63 0 128 [1,1,1,1,1,1,0,0,0] (GO bU aB) (MO bU aB) (l6,ml) r:=dQ (fun _=>Ug) h
def zF (bU aB:List Int):Option Int :=
 if 0≤(R ((len_ eI aB)-(1:Int)))∧(R ((len_ eI aB)-(1:Int)))<bU.length then
 bU[(R ((len_ eI aB)-(1:Int))).toNat]? >>= fun x2 =>
 if (decide ((len_ eI aB)<(len_ eI bU)))=true then
  if 0≤(len_ eI aB)∧(len_ eI aB)<bU.length then
  bU[(len_ eI aB).toNat]? >>= fun cq =>
  if 0≤(R ((len_ eI aB)-(1:Int)))∧(R ((len_ eI aB)-(1:Int)))<aB.length then
  aB[(R ((len_ eI aB)-(1:Int))).toNat]? >>= fun ee =>
  if (R (ee+(1:Int)))≠0 then
  if ee≠0 then
  CS bU aB (R ((R (x2+(R (cq*(1000000000:Int))))).tdiv (R (ee+(1:Int))))) (if (R ((R (x2+(R (cq*(1000000000:Int))))).tdiv ee))<(999999999:Int) then (R ((R (x2+(R (cq*(1000000000:Int))))).tdiv ee)) else (999999999:Int)) >>= fun ex =>
  some ex
  else none
  else none
  else none
  else none
 else
  if 0≤(R ((len_ eI aB)-(1:Int)))∧(R ((len_ eI aB)-(1:Int)))<aB.length then
  aB[(R ((len_ eI aB)-(1:Int))).toNat]? >>= fun cq =>
  if (R (cq+(1:Int)))≠0 then
  if cq≠0 then
  CS bU aB (R (x2.tdiv (R (cq+(1:Int))))) (if (R (x2.tdiv cq))<(999999999:Int) then (R (x2.tdiv cq)) else (999999999:Int)) >>= fun cY =>
  some cY
  else none
  else none
  else none
 else none
theorem Wz {bU aB:List Int}:bw (zF bU aB) (fun r=>Con a6 128 [.isl 1 (bU.map eI),.isl 1 (aB.map eI)] [] (.n .i64 r) []):=by
 unfold zF
 exact .aX fun h1 =>
  .ar fun x2 ab =>
  (let t1:List bW:=[(I 1),(I 3),.aw (bp 4 (.b2 (eI x2)) 1),(I 4)];
  have aS:=((.bR h1.1 (cP eI h1.2) (bT eI ab)):cn _);
  .ite (fun au =>
  .aX fun aA =>
  .ar fun cq a7 =>
  .aX fun bi =>
  .ar fun ee cO =>
  .aX fun eH =>
  .aX fun eX =>
  .ar fun ex ew =>
  .ret (bs (t1.append [.U true,.aw (bp 4 (.b2 (eI cq)) 3),.aw (bp 5 (.b2 (eI ee)) 3),.aw (bp 5 (.b2 (eI ee)) 3),.aL [] [] (a8 [0,1,7,8]),.sub (.exit 0) [(7,.n .i64 ex)] [],(I 2)]) (aS.aH (.bg au aA.1 (cP eI aA.2) (bT eI a7) bi.1 (cP eI bi.2) (bT eI cO) eH (.dh bi.1 (cP eI bi.2) (bT eI cO) eX (MX ew))))))
  (fun au =>
  .aX fun aA =>
  .ar fun cq a7 =>
  .aX fun bi =>
  .aX fun cg =>
  .ar fun cY eH =>
  .ret (bs (t1.append [.U false,.aw (bp 5 (.b2 (eI cq)) 3),.aw (bp 5 (.b2 (eI cq)) 3),.aL [] [] (a8 [0,1,7,8]),.sub (.exit 0) [(7,.n .i64 cY)] [],(I 2)]) (aS.aH (.bg au aA.1 (cP eI aA.2) (bT eI a7) bi aA.1 (cP eI aA.2) (bT eI a7) (.e2 cg (MX eH)))))))
def HC (ah aB:List Int):((List Int)×Int×(List Int))→S:=fun (fI,af,aa)=>dm [(0,.isl 1 (ah.map eI)),(1,.isl 1 (aB.map eI)),(8,.bj 0 0 0 aa.length),(9,.isl 1 (fI.map eI)),(10,.n .i64 af)] [(ae 1 eI aa)]
def H6 (ah aB:List Int):((List Int)×(List Int))→dp
 | a=>⟨some 0,[(8,.bj 0 0 0 a.2.length),(9,.isl 1 (a.1.map eI))],[(ae 1 eI a.2)]⟩
def wS (ah aB fI:List Int)(af:Int)(aa:List Int):Option (((List Int)×Int×(List Int))⊕((List Int)×(List Int))) :=
 if (decide ((0:Int)≤af))=true then
  if 0≤af∧af<ah.length then
  ah[af.toNat]? >>= fun aC =>
  if (([aC]:List Int)++fI).length*8≤140737488355328 then
  pN (([aC]:List Int)++fI) >>= fun bA =>
  pP bA aB >>= fun cm =>
  if (decide (cm<(0:Int)))=true then
   some (.inl (bA,R (af-(1:Int)),aa))
  else
   zF bA aB >>= fun dc =>
   if 0≤af∧af<(aa.length:Nat) then
   if (0+af.toNat)<aa.length then
   ra dc >>= fun gw =>
   hF aB gw >>= fun gk =>
   rK bA gk >>= fun oO =>
   some (.inl (oO,R (af-(1:Int)),aa.set (0+af.toNat) dc))
   else none
   else none
  else none
  else none
 else
  some (.inr (fI,aa))
def Jc (ah aB fI:List Int)(af:Int)(aa:List Int):Option ((List Int)×(List Int)):=iter (fun w:(List Int)×Int×(List Int)=>wS ah aB w.1 w.2.1 w.2.2) (fI,af,aa)
theorem UR {ah aB fI:List Int}{af:Int}{aa:List Int}:bw (wS ah aB fI af aa) (dO a6 65 0 116 [1,1,1,1,0,1,0,0] (HC ah aB (fI,af,aa)) (HC ah aB) (H6 ah aB)):=by
 unfold wS
 exact .ite (fun h1 =>
  .aX fun h2 =>
  .ar fun aC au =>
  .aX fun aA =>
  .ar fun bA a7 =>
  .ar fun cm cg =>
  (let q1:=(([aC]:List Int)++fI);let t1:List bW:=[(I 2),.U true,.aw (ag 3 (ak (.b2 (eI aC)) (ag 2 (ak (.aH (q1.length)) (ak (.vm 9 (.call {ac:=[.br (.da (.eh (q1.map eI)))],r:= .isl 1 (bA.map eI),fu:=false,fB:=[9]})) (ag 1 [])))))),.aw (bp 2 (bn 2 (.n .i64 cm) true) 1)];
  have aS:=((.bg h1 h2.1 (cP eI h2.2) (bT eI au) (aee eI aC) (lG (show 1=([aC]:List Int).length from rfl) (cW eI fI):q1.length=1+(fI.map eI).length) aA (lr (h6 (show [[.n .i64 aC]]=(([aC]:List Int)).map eI from rfl) (show 1=([aC]:List Int).length from rfl) (cW eI fI)) (dH q1)) (.dh (kZ (h6 (show [[.n .i64 aC]]=(([aC]:List Int)).map eI from rfl) (show 1=([aC]:List Int).length from rfl) (cW eI fI)) (dH q1)) (dv aO q1) (rF bA a7) (xb cm cg) (b3.n .i64 cm))):cn _);
  .ite (fun cO =>
  .ret (bf (t1.append [.U true,(I 3),.aL [0] [.pure] (a8 [0,1,8,9,10])]) (aS.aH (.e2 cO (aI 1 .live aO aa)))))
  (fun cO =>
  .ar fun dc eX =>
  .aX fun ev =>
  .aX fun ew =>
  .ar fun gw hR =>
  .ar fun gk hq =>
  .ar fun oO fh =>
  .ret (bf (t1.append [.U false,.aw (bp 2 (bn 2 (.n .i64 dc) true) 1),.aw (ag 4 (ak .fM [])),.aw (ag 3 (ak (bn 1 (.isl 1 (gw.map eI)) false) (ak (bn 2 (.isl 1 (gk.map eI)) false) (ak (bn 2 (.isl 1 (oO.map eI)) false) (ag 1 []))))),(I 3),.aL [0] [.cy (ae 1 eI (aa.set (0+af.toNat) dc))] [(0,ii),(1,ii),(8,fY ((aa.set (0+af.toNat) dc).length)),(9,ii),(10,ii)]]) (aS.aH (.bg cO (Wz dc eX) (b3.n .i64 dc) ev.1 ev.2 (hB eI ew) (hx 1) (xe gw hR) (.dh (oX gk hq) (I9 oO fh) (cZ 1 .live (gF (cW eI aa) (0+af.toNat) dc)) (aI 1 .live aO (aa.set (0+af.toNat) dc)) (hS (dH aa) (0+af.toNat) dc))))))))
  (fun h1 =>
  .ret (bf [(I 2),.U false,.aL [0] [.pure] (a8 [8,9])] (.e2 h1 (aI 1 .live aO aa))))
theorem Wi {ah aB fI:List Int}{af:Int}{aa:List Int}{r} (h:Jc ah aB fI af aa=some r):dP a6 65 0 116 [1,1,1,1,0,1,0,0] (HC ah aB) (H6 ah aB) (fI,af,aa) r:=dQ (fun _=>UR) h
def sL (ah aB:List Int):Option ((List Int)×(List Int)) :=
 if ((len_ eI aB) == (1:Int))=true then
  if 0≤(0:Int)∧(0:Int)<aB.length then
  aB[0]? >>= fun aC =>
  zE ah aC >>= fun aZ =>
  ra aZ.2 >>= fun ck =>
  some (aZ.1,ck)
  else none
 else
  if 0≤(len_ eI ah)∧(8:Int)*(len_ eI ah)≤281474976710656∧(len_ eI ah)<9223372036854775808 then
  Jc ah aB ([]:List Int) (R ((len_ eI ah)-(1:Int))) (List.replicate (len_ eI ah).toNat 0:List Int) >>= fun bc =>
  pN bc.2 >>= fun aZ =>
  some (aZ,bc.1)
  else none
theorem C5 {ah aB:List Int}:bw (sL ah aB) (fun r=>Con a6 116 [.isl 1 (ah.map eI),.isl 1 (aB.map eI)] [] (.dX [.isl 1 (r.1.map eI),.isl 1 (r.2.map eI)]) []):=by
 unfold sL
 exact .ite (fun h1 =>
  .aX fun h2 =>
  .ar fun aC au =>
  .ar fun aZ aW =>
  .ar fun ck bi =>
  .ret (bs [(I 2),(I 3),.U true,.aw (ag 3 (ak (.b2 (eI aC)) (ak (bn 2 (.dX [.isl 1 (aZ.1.map eI),.n .i64 aZ.2]) false) (ag 5 [])))),.aw (bp 2 (bn 1 (.isl 1 (ck.map eI)) false) 2)] (.dS h1 h2.1 (cP eI h2.2) (bT eI au) (Wy aZ aW) (xe ck bi))))
  (fun h1 =>
  .aX fun h2 =>
  .ar fun bc au =>
  .ar fun aZ aW =>
  .ret (let q1:=(List.replicate (len_ eI ah).toNat 0:List Int);bs [(I 2),(I 3),.U false,(I 4),(I 2),(I 4),.aL [7] [.cy (ae 1 eI q1)] [(0,ii),(1,ii),(8,fY (q1.length)),(9,.br (.da (.eh (([]:List Int).map eI)))),(10,ii)],(H6 ah aB bc).e8,.iN 0,.aw (bp 1 (.call {ac:=[.br (.da (.eh (bc.2.map eI)))],r:= .isl 1 (aZ.map eI),fu:=false,fB:=[0]}) 3)] (.bg h1 h2.1 (Int.le_refl (len_ eI ah)) h2.2.1 h2.2.2 (cZ 1 .live (lF eI (len_ eI ah).toNat 0)) (aI 1 .live aO q1) (l0 (len_ eI ah).toNat (0:Int)) (.gM (lr (show []=(([]:List Int)).map eI from rfl) (eZ Int)) (kZ (show []=(([]:List Int)).map eI from rfl) (eZ Int)) (dv aO ([]:List Int)) (Wi au) (fW eI bc.2) (fv eI bc.2) (dv aO bc.2) (rF aZ aW)))))
def HD:((List Int)×(List Int))→S:=fun (c5,er)=>dm [(5,.isl 1 (c5.map eI)),(6,.isl 1 (er.map eI))] []
def CM:(((List Int))⊕((List Int)))→dp
 | .inl a=>⟨some 0,[(5,.isl 1 (a.map eI))],[]⟩
 | .inr a=>⟨none,[(4,.isl 1 (a.map eI))],[]⟩
def tW (c5 er:List Int):Option (((List Int)×(List Int))⊕(((List Int))⊕((List Int)))) :=
 if (decide ((0:Int)<(len_ eI er)))=true then
  if (decide ((len_ eI c5)<(3:Int)))=true then
   if (decide ((len_ eI er)<(3:Int)))=true then
    xf c5 >>= fun bh =>
    xf er >>= fun bA =>
    zD bh.1 bA.1 >>= fun cm =>
    some (.inr (.inr cm))
   else
    sL c5 er >>= fun bh =>
    some (.inl (er,bh.2))
  else
   sL c5 er >>= fun bc =>
   some (.inl (er,bc.2))
 else
  some (.inr (.inl c5))
def Jd (c5 er:List Int):Option (((List Int))⊕((List Int))):=iter (fun w:(List Int)×(List Int)=>tW w.1 w.2) (c5,er)
theorem US {c5 er:List Int}:bw (tW c5 er) (dO a6 52 0 103 [1,1,1,0,0,0] (HD (c5,er)) (HD) (CM)):=by
 unfold tW
 exact .ite (fun h1 =>
  .ite (fun h2 =>
  (let t1:List bW:=[(I 3),.U true,.aw (ag 7 (ak (.U true) []))];
  .ite (fun ab =>
  .ar fun bh aA =>
  .ar fun bA a7 =>
  .ar fun cm cg =>
  .ret (bf (t1.append [.U true,.aw (bp 1 (bn 1 (.dX [.n .i64 bh.1,.b bh.2]) true) 5),.aw (bp 1 (bn 1 (.dX [.n .i64 bA.1,.b bA.2]) true) 5),.aw (bp 2 (bn 2 (.isl 1 (cm.map eI)) false) 1),.aL [] [] (a8 [4])]) (.bg h1 h2 h2 h2 h2 ab (Np bh aA) (DZ (oZ (b3.n .i64 bh.1) (oZ (b3.b bh.2) uL))) (.bR (Np bA a7) (DZ (oZ (b3.n .i64 bA.1) (oZ (b3.b bA.2) uL))) (Wx cm cg)))))
  (fun ab =>
  .ar fun bh aA =>
  .ret (bf (t1.append [.U false,.aw (bp 2 (bn 2 (.dX [.isl 1 (bh.1.map eI),.isl 1 (bh.2.map eI)]) false) 5),(I 2),(I 2),.aL [] [] (a8 [5,6])]) (.eF h1 h2 h2 h2 h2 ab (C5 bh aA))))))
  (fun h2 =>
  .ar fun bc au =>
  .ret (bf [(I 3),.U true,.aw (ag 4 (cj 3 (ak (.U false) []))),.U false,.aw (bp 2 (bn 2 (.dX [.isl 1 (bc.1.map eI),.isl 1 (bc.2.map eI)]) false) 5),(I 2),(I 2),.aL [] [] (a8 [5,6])] (.eF h1 h2 h2 h2 h2 cz (C5 bc au)))))
  (fun h1 =>
  .ret (bf [(I 3),.U false,.aL [] [] (a8 [5])] (.e1 h1)))
theorem Nk {c5 er:List Int}{r} (h:Jd c5 er=some r):dP a6 52 0 103 [1,1,1,0,0,0] (HD) (CM) (c5,er) r:=dQ (fun _=>US) h
def xo (ah aB:List Int):Option (List Int) :=
 if (([]:List Int)++ah).length*8≤140737488355328 then
 if (([]:List Int)++aB).length*8≤140737488355328 then
 Jd (([]:List Int)++ah) (([]:List Int)++aB) >>= fun bc =>
 match bc with
 | .inl fQ=>(some fQ)
 | .inr fQ=>(some fQ)
 else none
 else none
theorem NE {ah aB:List Int}:bw (xo ah aB) (fun r=>Con a6 103 [.isl 1 (ah.map eI),.isl 1 (aB.map eI)] [] (.isl 1 (r.map eI)) []):=by
 unfold xo
 exact .aX fun h1 =>
  .aX fun h2 =>
  .ar fun bc au =>
  (let q1:=(([]:List Int)++ah);let q2:=(([]:List Int)++aB);let t1:List bW:=[(I 1),.aw (bp 2 (.aH (q1.length)) 1),.aw (bp 2 (.aH (q2.length)) 1),.aL [] [] [(5,.br (.da (.eh (q1.map eI)))),(6,.br (.da (.eh (q2.map eI))))]];
  have aS:=((.bg (m3 (show []=(([]:List Int)).map eI from rfl) (eZ Int)) (lG (eZ Int) (cW eI ah):q1.length=0+(ah.map eI).length) h1 (m3 (show []=(([]:List Int)).map eI from rfl) (eZ Int)) (lG (eZ Int) (cW eI aB):q2.length=0+(aB.map eI).length) h2 (lr (h6 (show []=(([]:List Int)).map eI from rfl) (eZ Int) (cW eI ah)) (dH q1)) (kZ (h6 (show []=(([]:List Int)).map eI from rfl) (eZ Int) (cW eI ah)) (dH q1)) (.c7 (dv aO q1) (lr (h6 (show []=(([]:List Int)).map eI from rfl) (eZ Int) (cW eI aB)) (dH q2)) (kZ (h6 (show []=(([]:List Int)).map eI from rfl) (eZ Int) (cW eI aB)) (dH q2)) (dv aO q2))):cn _);
  (by
  rcases bc with fQ|fQ
  ·exact (.ret (bs (t1.append [(CM (.inl fQ)).e8,(I 2)]) (aS.aH (.e1 (Nk au)))))
  ·exact (.ret (bs (t1.append [(CM (.inr fQ)).e8]) (aS.aH (.e1 (Nk au)))))))
def nS (n3:Bool)(ah aB:List Int):Option aK :=
 pN ah >>= fun r1 =>
 pN aB >>= fun bc =>
 if ((len_ eI bc) == (0:Int))=true then
  some (⟨(⟨false,([]:List Int)⟩:bm),([]:List Int)⟩:aK)
 else
  qn bc >>= fun bA =>
  if bA=true then
   if (decide ((24:Int)<(len_ eI r1)))=true then
    some (⟨(⟨false,([]:List Int)⟩:bm),([]:List Int)⟩:aK)
   else
    if (decide ((24:Int)<(len_ eI bc)))=true then
     some (⟨(⟨false,([]:List Int)⟩:bm),([]:List Int)⟩:aK)
    else
     hL n3 r1 >>= fun dc =>
     if (([]:List Int)++bc).length*8≤140737488355328 then
     some (⟨dc,([]:List Int)++bc⟩:aK)
     else none
  else
   xo r1 bc >>= fun b6 =>
   qn b6 >>= fun dc =>
   if dc=true then
    if (decide ((24:Int)<(len_ eI r1)))=true then
     some (⟨(⟨false,([]:List Int)⟩:bm),([]:List Int)⟩:aK)
    else
     if (decide ((24:Int)<(len_ eI bc)))=true then
      some (⟨(⟨false,([]:List Int)⟩:bm),([]:List Int)⟩:aK)
     else
      hL n3 r1 >>= fun ey =>
      if (([]:List Int)++bc).length*8≤140737488355328 then
      some (⟨ey,([]:List Int)++bc⟩:aK)
      else none
   else
    sL r1 b6 >>= fun gb =>
    sL bc b6 >>= fun ey =>
    if (decide ((24:Int)<(len_ eI gb.1)))=true then
     some (⟨(⟨false,([]:List Int)⟩:bm),([]:List Int)⟩:aK)
    else
     if (decide ((24:Int)<(len_ eI ey.1)))=true then
      some (⟨(⟨false,([]:List Int)⟩:bm),([]:List Int)⟩:aK)
     else
      hL n3 gb.1 >>= fun jj =>
      if (([]:List Int)++ey.1).length*8≤140737488355328 then
      some (⟨jj,([]:List Int)++ey.1⟩:aK)
      else none
theorem zx {n3:Bool}{ah aB:List Int}:bw (nS n3 ah aB) (fun r=>Con a6 95 [.b n3,.isl 1 (ah.map eI),.isl 1 (aB.map eI)] [] (.agg (aM r)) []):=by
 unfold nS
 exact .ar fun r1 h2 =>
  .ar fun bc au =>
  (let t1:List bW:=[(I 1),.aw (bp 1 (bn 1 (.isl 1 (r1.map eI)) false) 1),.aw (bp 1 (bn 1 (.isl 1 (bc.map eI)) false) 1),(I 3)];
  have aS:=((.e2 (rF r1 h2) (rF bc au)):cn _);
  .ite (fun aA =>
  .ret (bs (t1.append [.U true,(I 2)]) (aS.aH (.e1 aA)) (.br (.agg [.id,.jH 1,.jH 1]))))
  (fun aA =>
  .ar fun bA a7 =>
  (let t3:List bW:=t1.append [.U false,.aw (bp 1 (bn 1 (.b bA) true) 1)];
  have eP:=aS.aH (.bR aA (zv bA a7) (b3.b bA));
  .ite (fun bi =>
  .ite (fun cg =>
  .ret (bs (t3.append [.U false,.aw (ag 4 (cj 3 (ak (.U true) []))),.U true,(I 2)]) (eP.aH (.dS (cS bi) cg cg cg cg cL)) (.br (.agg [.id,.jH 1,.jH 1]))))
  (fun cg =>
  (let t5:List bW:=t3.append [.U false,.aw (ag 7 (ak (.U false) []))];
  .ite (fun cO =>
  .ret (bs (t5.append [.U true,(I 2)]) (eP.aH (.dS (cS bi) cg cg cg cg cO)) (.br (.agg [.id,.jH 1,.jH 1]))))
  (fun cO =>
  .ar fun dc eX =>
  .aX fun ev =>
  .ret (let q1:=(([]:List Int)++bc);bs (t5.append [.U false,.aw (ag 2 (ak (bn 2 (.agg (aT dc)) false) (bp 2 (.aH (q1.length)) 2)))]) (eP.aH (.bg (cS bi) cg cg cg cg cO (nR dc eX) (m3 (show []=(([]:List Int)).map eI from rfl) (eZ Int)) (.dh (lG (eZ Int) (cW eI bc):q1.length=0+(bc.map eI).length) ev (lr (h6 (show []=(([]:List Int)).map eI from rfl) (eZ Int) (cW eI bc)) (dH q1)) (kZ (h6 (show []=(([]:List Int)).map eI from rfl) (eZ Int) (cW eI bc)) (dH q1)) (dv aO q1)))) (.br (.agg [.id,.id,.eh (q1.map eI)])))))))
  (fun bi =>
  .ar fun b6 cO =>
  .ar fun dc eX =>
  (let t5:List bW:=t3.append [.U true,.aw (bp 2 (bn 2 (.isl 1 (b6.map eI)) false) 1),.aw (bp 1 (bn 1 (.b dc) true) 1)];
  have ln:=eP.aH (.c7 (cJ bi) (NE b6 cO) (zv dc eX) (b3.b dc));
  .ite (fun ev =>
  .ite (fun ew =>
  .ret (bs (t5.append [.U false,.aw (ag 4 (cj 3 (ak (.U true) []))),.U true,(I 2)]) (ln.aH (.dS (cS ev) ew ew ew ew cL)) (.br (.agg [.id,.jH 1,.jH 1]))))
  (fun ew =>
  (let t7:List bW:=t5.append [.U false,.aw (ag 7 (ak (.U false) []))];
  have nO:=ln.aH (.dh (cS ev) ew ew ew ew);
  .ite (fun fP =>
  .ret (bs (t7.append [.U true,(I 2)]) (nO.aH (.e1 fP)) (.br (.agg [.id,.jH 1,.jH 1]))))
  (fun fP =>
  .ar fun ey hp =>
  .aX fun hq =>
  .ret (let q2:=(([]:List Int)++bc);bs (t7.append [.U false,.aw (ag 2 (ak (bn 2 (.agg (aT ey)) false) (bp 2 (.aH (q2.length)) 2)))]) (nO.aH (.gM fP (nR ey hp) (m3 (show []=(([]:List Int)).map eI from rfl) (eZ Int)) (lG (eZ Int) (cW eI bc):q2.length=0+(bc.map eI).length) hq (lr (h6 (show []=(([]:List Int)).map eI from rfl) (eZ Int) (cW eI bc)) (dH q2)) (kZ (h6 (show []=(([]:List Int)).map eI from rfl) (eZ Int) (cW eI bc)) (dH q2)) (dv aO q2))) (.br (.agg [.id,.id,.eh (q2.map eI)])))))))
  (fun ev =>
  .ar fun gb fP =>
  .ar fun ey hp =>
  (let t7:List bW:=t5.append [.U true,.aw (bp 2 (bn 2 (.dX [.isl 1 (gb.1.map eI),.isl 1 (gb.2.map eI)]) false) 4),.aw (bp 2 (bn 2 (.dX [.isl 1 (ey.1.map eI),.isl 1 (ey.2.map eI)]) false) 4)];
  have nO:=ln.aH (.bR (cJ ev) (C5 gb fP) (C5 ey hp));
  .ite (fun hq =>
  .ret (bs (t7.append [.aw (ag 4 (cj 3 (ak (.U true) []))),.U true,(I 2)]) (nO.aH (.dh hq hq hq hq cL)) (.br (.agg [.id,.jH 1,.jH 1]))))
  (fun hq =>
  (let t9:List bW:=t7.append [.aw (ag 7 (ak (.U false) []))];
  .ite (fun gv =>
  .ret (bs (t9.append [.U true,(I 2)]) (nO.aH (.dh hq hq hq hq gv)) (.br (.agg [.id,.jH 1,.jH 1]))))
  (fun gv =>
  .ar fun jj gK =>
  .aX fun iH =>
  .ret (let bL:=(([]:List Int)++ey.1);let bZ:=cW eI ey.1;bs (t9.append [.U false,.aw (ag 2 (ak (bn 2 (.agg (aT jj)) false) (bp 2 (.aH (bL.length)) 2)))]) (nO.aH (.bg hq hq hq hq gv (nR jj gK) (m3 (show []=(([]:List Int)).map eI from rfl) (eZ Int)) (lG (eZ Int) bZ:bL.length=0+(ey.1.map eI).length) (.c7 iH (lr (h6 (show []=(([]:List Int)).map eI from rfl) (eZ Int) bZ) (dH bL)) (kZ (h6 (show []=(([]:List Int)).map eI from rfl) (eZ Int) bZ) (dH bL)) (dv aO bL)))) (.br (.agg [.id,.id,.eh (bL.map eI)])))))))))))))
def q9 (bU aF:aK):Option aK :=
 qn bU.ho >>= fun r1 =>
 if r1=true then
  qn aF.ho >>= fun bh =>
  if bh=true then
   pQ bU.fl aF.fl >>= fun ck =>
   nS ck.cQ ck.cA ([1]:List Int) >>= fun b6 =>
   some b6
  else
   hF bU.fl.cA aF.ho >>= fun ck =>
   hL bU.fl.cQ ck >>= fun b6 =>
   hF aF.fl.cA bU.ho >>= fun dc =>
   hL aF.fl.cQ dc >>= fun ex =>
   pQ b6 ex >>= fun gw =>
   hF bU.ho aF.ho >>= fun gk =>
   nS gw.cQ gw.cA gk >>= fun oO =>
   some oO
 else
  hF bU.fl.cA aF.ho >>= fun bh =>
  hL bU.fl.cQ bh >>= fun bA =>
  hF aF.fl.cA bU.ho >>= fun cm =>
  hL aF.fl.cQ cm >>= fun cY =>
  pQ bA cY >>= fun dR =>
  hF bU.ho aF.ho >>= fun gb =>
  nS dR.cQ dR.cA gb >>= fun ey =>
  some ey
theorem C6 {bU aF:aK}:bw (q9 bU aF) (fun r=>Con a6 74 [.agg (aM bU),.agg (aM aF)] [] (.agg (aM r)) []):=by
 unfold q9
 exact .ar fun r1 h2 =>
  (have ae:=((.e2 (zv r1 h2) (b3.b r1)):cn _);
  .ite (fun ab =>
  .ar fun bh aA =>
  (let t2:List bW:=[(I 3),.aw (ag 2 (ak (bn 1 (.b r1) true) (ag 3 (ak (bn 1 (.b bh) true) (ak (.U true) [])))))];
  have fk:=ae.aH (.dS ab ab ab (zv bh aA) (b3.b bh) ab);
  .ite (fun aW =>
  .ar fun ck bi =>
  .ar fun b6 cO =>
  .ret (bs (t2.append [.U true,.aw (bp 4 (bn 2 (.agg (aT ck)) false) 2),.aw (bp 5 (.vm 22 (.call {ac:=[ii,ii,.br (.da (.eh (([1]:List Int).map eI)))],r:= .agg (aM b6),fu:=false,fB:=[22]})) 1)]) (fk.aH (.dS aW (Ja ck bi) (lr (show [[.n .i64 (1:Int)]]=(([1]:List Int)).map eI from rfl) (show 1=([1]:List Int).length from rfl)) (gN eI 1) (dv aO ([1]:List Int)) (zx b6 cO)))))
  (fun aW =>
  .ar fun ck bi =>
  .ar fun b6 cO =>
  .ar fun dc eX =>
  .ar fun ex ew =>
  .ar fun gw hR =>
  .ar fun gk hq =>
  .ar fun oO fh =>
  .ret (bs (t2.append [.U false,.aw (ag 8 (ak (bn 2 (.isl 1 (ck.map eI)) false) (ak (bn 2 (.agg (aT b6)) false) (ag 2 [])))),.aw (ag 8 (ak (bn 2 (.isl 1 (dc.map eI)) false) (ak (bn 2 (.agg (aT ex)) false) (ag 2 [])))),.aw (bp 2 (bn 2 (.agg (aT gw)) false) 2),.aw (ag 8 (ak (bn 2 (.isl 1 (gk.map eI)) false) (ak (bn 3 (.agg (aM oO)) false) (ag 1 []))))]) (fk.aH (.gM aW (oX ck bi) (nR b6 cO) (oX dc eX) (nR ex ew) (Ja gw hR) (oX gk hq) (zx oO fh)))))))
  (fun ab =>
  .ar fun bh aA =>
  .ar fun bA a7 =>
  .ar fun cm cg =>
  .ar fun cY eH =>
  .ar fun dR ev =>
  .ar fun gb fP =>
  .ar fun ey hp =>
  .ret (bs [(I 3),.aw (ag 2 (ak (bn 1 (.b r1) true) (ag 1 (cj 3 (ak (.U false) []))))),.U false,.aw (ag 8 (ak (bn 2 (.isl 1 (bh.map eI)) false) (ak (bn 2 (.agg (aT bA)) false) (ag 2 [])))),.aw (ag 8 (ak (bn 2 (.isl 1 (cm.map eI)) false) (ak (bn 2 (.agg (aT cY)) false) (ag 2 [])))),.aw (bp 2 (bn 2 (.agg (aT dR)) false) 2),.aw (ag 8 (ak (bn 2 (.isl 1 (gb.map eI)) false) (ak (bn 3 (.agg (aM ey)) false) (ag 1 []))))] (ae.aH (.bg ab ab ab ab cz (oX bh aA) (nR bA a7) (oX cm cg) (.c7 (nR cY eH) (Ja dR ev) (oX gb fP) (zx ey hp)))))))
end Go.Proofs.YtamedijmgkdlgaaGreat
namespace Go.Proofs.YtamedijmgkdlgaaGreat
set_option linter.unusedVariables false
set_option linter.unusedSimpArgs false
open Go Go.VL
def Gb (aJ aG:Int)(bo c3 c6:List Int)(bH:Int):(Int×(List aK))→S:=fun (bP,ay)=>dm [(1,.ref 0 0 0 0),(3,.ref 1 0 0 0),(4,.n .i64 bP)] [[ad.mk 5 [[.n .i64 aJ,.n .i64 aG,.isl 1 (bo.map eI),.isl 1 (c3.map eI),.isl 1 (c6.map eI)]] .live],[ad.mk 4 [[.n .i64 bH,.ek,.ek,.bj 2 0 0 ay.length]] .live],(ae 3 aM ay)]
def Gv (aJ aG:Int)(bo c3 c6:List Int)(bH:Int):(List aK)→dp
 | a=>⟨some 0,[(1,.ref 0 0 0 0),(3,.ref 1 0 0 0)],[[ad.mk 5 [[.n .i64 aJ,.n .i64 aG,.isl 1 (bo.map eI),.isl 1 (c3.map eI),.isl 1 (c6.map eI)]] .live],[ad.mk 4 [[.n .i64 bH,.ek,.ek,.bj 2 0 0 a.length]] .live],(ae 3 aM a)]⟩
def wg (aJ aG:Int)(bo c3 c6:List Int)(bH bP:Int)(ay:List aK):Option ((Int×(List aK))⊕((List aK))) :=
 if (decide (bP≤bH))=true then
  oW 0 >>= fun r2 =>
  if (ay++([r2]:List aK)).length*56≤140737488355328 then
  some (.inl (R (bP+(1:Int)),ay++([r2]:List aK)))
  else none
 else
  some (.inr ay)
def H7 (aJ aG:Int)(bo c3 c6:List Int)(bH bP:Int)(ay:List aK):Option ((List aK)):=iter (fun w:Int×(List aK)=>wg aJ aG bo c3 c6 bH w.1 w.2) (bP,ay)
theorem TM {aJ aG:Int}{bo c3 c6:List Int}{bH bP:Int}{ay:List aK}:bw (wg aJ aG bo c3 c6 bH bP ay) (dO a6 152 0 47 [1,1,0,1,0,0] (Gb aJ aG bo c3 c6 bH (bP,ay)) (Gb aJ aG bo c3 c6 bH) (Gv aJ aG bo c3 c6 bH)):=by
 unfold wg
 exact .ite (fun h1 =>
  .ar fun r2 ab =>
  .aX fun au =>
  .ret (let q1:=(ay++([r2]:List aK));bf [(I 6),.U true,.aw (ag 5 (ak (bn 1 (.agg (aM r2)) false) (bp 1 (.aH (q1.length)) 3))),(I 3),.aL [0,1,16] [.box [.id,.id,.id,.id,.id],.box [.id,.id,.id,.id],.cy (ae 3 aM q1)] (a8 [1,3,4])] (.gM h1 (rE r2 ab) (gN aM r2) (gX aM ay) (gz aM ay r2) au (cZ 3 .live (hd aM ay r2)) (aI 3 .live eM q1))))
  (fun h1 =>
  .ret (bf [(I 6),.U false,.aL [0,1,2] [.box [.id,.id,.id,.id,.id],.box [.id,.id,.id,.id],.pure] (a8 [1,3])] (.e2 h1 (aI 3 .live eM ay))))
theorem Vc {aJ aG:Int}{bo c3 c6:List Int}{bH bP:Int}{ay:List aK}{r} (h:H7 aJ aG bo c3 c6 bH bP ay=some r):dP a6 152 0 47 [1,1,0,1,0,0] (Gb aJ aG bo c3 c6 bH) (Gv aJ aG bo c3 c6 bH) (bP,ay) r:=dQ (fun _=>TM) h
def Gc (af:Int)(d6:List Int)(fg aJ aG:Int)(bo c3 c6:List Int)(bH:Int)(ai:List bu)(eN:List (List aK))(bD:List Int)(eT:List aK):(Int×(List aK))→S:=fun (gu,ay)=>dm [(1,.ref 0 0 0 0),(3,.ref 1 0 0 0),(5,.n .i64 af),(6,.n .i64 (-1:Int)),(7,.bj 2 0 0 ay.length),(53,.isl 1 (d6.map eI)),(54,.n .i64 fg),(55,.n .i64 gu)] [[ad.mk 5 [[.n .i64 aJ,.n .i64 aG,.isl 1 (bo.map eI),.isl 1 (c3.map eI),.isl 1 (c6.map eI)]] .live],[ad.mk 4 [(gq bH 3 0 0 ai.length 5 0 0 bD.length 6 0 0 eT.length)] .live],(ae 3 aM ay),(ae 1 (bk 4 0 3) ai),(b5 3 aM eN),(ae 1 eI bD),(ae 3 aM eT)]
def Gw (af:Int)(d6:List Int)(fg aJ aG:Int)(bo c3 c6:List Int)(bH:Int)(ai:List bu)(eN:List (List aK))(bD:List Int)(eT:List aK):(List aK)→dp
 | a=>⟨some 4,[(1,.ref 0 0 0 0),(3,.ref 1 0 0 0),(5,.n .i64 af),(6,.n .i64 (-1:Int)),(7,.bj 2 0 0 a.length)],[[ad.mk 5 [[.n .i64 aJ,.n .i64 aG,.isl 1 (bo.map eI),.isl 1 (c3.map eI),.isl 1 (c6.map eI)]] .live],[ad.mk 4 [(gq bH 3 0 0 ai.length 5 0 0 bD.length 6 0 0 eT.length)] .live],(ae 3 aM a),(ae 1 (bk 4 0 3) ai),(b5 3 aM eN),(ae 1 eI bD),(ae 3 aM eT)]⟩
def wh (af:Int)(d6:List Int)(fg aJ aG:Int)(bo c3 c6:List Int)(bH:Int)(ai:List bu)(eN:List (List aK))(bD:List Int)(eT:List aK)(gu:Int)(ay:List aK):Option ((Int×(List aK))⊕((List aK))) :=
 if (decide (gu<fg))=true then
  if 0≤gu∧gu<d6.length then
  d6[gu.toNat]? >>= fun aC =>
  oW (R ((-1:Int)*aC)) >>= fun aZ =>
  if (ay++([aZ]:List aK)).length*56≤140737488355328 then
  some (.inl (R (gu+(1:Int)),ay++([aZ]:List aK)))
  else none
  else none
 else
  some (.inr ay)
def CN (af:Int)(d6:List Int)(fg aJ aG:Int)(bo c3 c6:List Int)(bH:Int)(ai:List bu)(eN:List (List aK))(bD:List Int)(eT:List aK)(gu:Int)(ay:List aK):Option ((List aK)):=iter (fun w:Int×(List aK)=>wh af d6 fg aJ aG bo c3 c6 bH ai eN bD eT w.1 w.2) (gu,ay)
theorem TN {af:Int}{d6:List Int}{fg aJ aG:Int}{bo c3 c6:List Int}{bH:Int}{ai:List bu}{eN:List (List aK)}{bD:List Int}{eT:List aK}{gu:Int}{ay:List aK}:bw (wh af d6 fg aJ aG bo c3 c6 bH ai eN bD eT gu ay) (dO a6 152 0 47 [1,1,1,0,1,0,0,1,0,0,1,1,1,0,1,0,0] (Gc af d6 fg aJ aG bo c3 c6 bH ai eN bD eT (gu,ay)) (Gc af d6 fg aJ aG bo c3 c6 bH ai eN bD eT) (Gw af d6 fg aJ aG bo c3 c6 bH ai eN bD eT)):=by
 unfold wh
 exact .ite (fun h1 =>
  .aX fun h2 =>
  .ar fun aC au =>
  .ar fun aZ aW =>
  .aX fun a7 =>
  .ret (let q1:=(ay++([aZ]:List aK));let q2:=cF [0,1,17,3,4,5,6];bf [(I 1),.U true,.aw (bp 1 (.b2 (eI aC)) 1),.aw (ag 4 (ak (bn 1 (.agg (aM aZ)) false) (bp 1 (.aH (q1.length)) 1))),(I 2),.aL [0,1,17,3,4,5,6] [.box [.id,.id,.id,.id,.id],.box [.id,.id,.id,.id],.cy (ae 3 aM q1),.bF (ae 1 (bk 4 0 3) ai),.bF (b5 3 aM eN),.pure,.pure] (a8 [1,3,5,6,7,53,54,55])] (.bg h1 h2.1 (cP eI h2.2) (bT eI au) (rE aZ aW) (gN aM aZ) (gX aM ay) (gz aM ay aZ) (.eF a7 (cZ 3 .live (hd aM ay aZ)) (aI 3 .live eM q1) (et q2 4 4 0 3 rfl ai) (dB q2 3 fe eN) (aI 1 .live aO bD) (aI 3 .live eM eT)))))
  (fun h1 =>
  .ret (let bL:=cF [0,1,2,3,4,5,6];bf [(I 1),.U false,.aL [0,1,2,3,4,5,6] [.box [.id,.id,.id,.id,.id],.box [.id,.id,.id,.id],.pure,.bF (ae 1 (bk 4 0 3) ai),.bF (b5 3 aM eN),.pure,.pure] (a8 [1,3,5,6,7])] (.dS h1 (aI 3 .live eM ay) (et bL 4 4 0 3 rfl ai) (dB bL 3 fe eN) (aI 1 .live aO bD) (aI 3 .live eM eT))))
theorem Vd {af:Int}{d6:List Int}{fg aJ aG:Int}{bo c3 c6:List Int}{bH:Int}{ai:List bu}{eN:List (List aK)}{bD:List Int}{eT:List aK}{gu:Int}{ay:List aK}{r} (h:CN af d6 fg aJ aG bo c3 c6 bH ai eN bD eT gu ay=some r):dP a6 152 0 47 [1,1,1,0,1,0,0,1,0,0,1,1,1,0,1,0,0] (Gc af d6 fg aJ aG bo c3 c6 bH ai eN bD eT) (Gw af d6 fg aJ aG bo c3 c6 bH ai eN bD eT) (gu,ay) r:=dQ (fun _=>TN) h
def Gd (af aJ aG:Int)(bo c3 c6:List Int)(bH:Int)(ai:List bu)(eN:List (List aK))(bD:List Int)(eT:List aK):(Int×(List aK))→S:=fun (bq,ay)=>dm [(1,.ref 0 0 0 0),(3,.ref 1 0 0 0),(5,.n .i64 af),(6,.n .i64 (-1:Int)),(7,.bj 2 0 0 ay.length),(10,.n .i64 bq)] [[ad.mk 5 [[.n .i64 aJ,.n .i64 aG,.isl 1 (bo.map eI),.isl 1 (c3.map eI),.isl 1 (c6.map eI)]] .live],[ad.mk 4 [(gq bH 3 0 0 ai.length 5 0 0 bD.length 6 0 0 eT.length)] .live],(ae 3 aM ay),(ae 1 (bk 4 0 3) ai),(b5 3 aM eN),(ae 1 eI bD),(ae 3 aM eT)]
def Gx (af aJ aG:Int)(bo c3 c6:List Int)(bH:Int)(ai:List bu)(eN:List (List aK))(bD:List Int)(eT:List aK):(List aK)→dp
 | a=>⟨some 6,[(1,.ref 0 0 0 0),(3,.ref 1 0 0 0),(5,.n .i64 af),(6,.n .i64 (-1:Int)),(7,.bj 2 0 0 a.length)],[[ad.mk 5 [[.n .i64 aJ,.n .i64 aG,.isl 1 (bo.map eI),.isl 1 (c3.map eI),.isl 1 (c6.map eI)]] .live],[ad.mk 4 [(gq bH 3 0 0 ai.length 5 0 0 bD.length 6 0 0 eT.length)] .live],(ae 3 aM a),(ae 1 (bk 4 0 3) ai),(b5 3 aM eN),(ae 1 eI bD),(ae 3 aM eT)]⟩
def wi (af aJ aG:Int)(bo c3 c6:List Int)(bH:Int)(ai:List bu)(eN:List (List aK))(bD:List Int)(eT:List aK)(bq:Int)(ay:List aK):Option ((Int×(List aK))⊕((List aK))) :=
 if (decide (bq<aJ))=true then
  if (bq == af)=true then
   oW 1 >>= fun bc =>
   if (ay++([bc]:List aK)).length*56≤140737488355328 then
   some (.inl (R (bq+(1:Int)),ay++([bc]:List aK)))
   else none
  else
   oW 0 >>= fun bc =>
   if (ay++([bc]:List aK)).length*56≤140737488355328 then
   some (.inl (R (bq+(1:Int)),ay++([bc]:List aK)))
   else none
 else
  some (.inr ay)
def CO (af aJ aG:Int)(bo c3 c6:List Int)(bH:Int)(ai:List bu)(eN:List (List aK))(bD:List Int)(eT:List aK)(bq:Int)(ay:List aK):Option ((List aK)):=iter (fun w:Int×(List aK)=>wi af aJ aG bo c3 c6 bH ai eN bD eT w.1 w.2) (bq,ay)
theorem TO {af aJ aG:Int}{bo c3 c6:List Int}{bH:Int}{ai:List bu}{eN:List (List aK)}{bD:List Int}{eT:List aK}{bq:Int}{ay:List aK}:bw (wi af aJ aG bo c3 c6 bH ai eN bD eT bq ay) (dO a6 152 0 47 [1,1,1,0,1,0,0,1,0,0,1,1,1,1,0,1,0,0] (Gd af aJ aG bo c3 c6 bH ai eN bD eT (bq,ay)) (Gd af aJ aG bo c3 c6 bH ai eN bD eT) (Gx af aJ aG bo c3 c6 bH ai eN bD eT)):=by
 unfold wi
 exact .ite (fun h1 =>
  (let t1:List bW:=[(I 4),.U true,(I 1),(I 3)];
  .ite (fun h2 =>
  .ar fun bc au =>
  .aX fun aA =>
  .ret (let q1:=(ay++([bc]:List aK));let q2:=cF [0,1,20,3,4,5,6];bf (t1.append [.U true,(I 1),.aw (ag 2 (ak (bn 1 (.agg (aM bc)) false) (bp 1 (.aH (q1.length)) 1))),(I 3),.aL [0,1,20,3,4,5,6] [.box [.id,.id,.id,.id,.id],.box [.id,.id,.id,.id],.cy (ae 3 aM q1),.bF (ae 1 (bk 4 0 3) ai),.bF (b5 3 aM eN),.pure,.pure] (a8 [1,3,5,6,7,10])]) (.bg h1 h2 (rE bc au) (gN aM bc) (gX aM ay) (gz aM ay bc) aA (cZ 3 .live (hd aM ay bc)) (.dh (aI 3 .live eM q1) (et q2 4 4 0 3 rfl ai) (dB q2 3 fe eN) (aI 1 .live aO bD) (aI 3 .live eM eT)))))
  (fun h2 =>
  .ar fun bc au =>
  .aX fun aA =>
  .ret (let bL:=(ay++([bc]:List aK));let bZ:=cF [0,1,19,3,4,5,6];bf (t1.append [.U false,.aw (ag 2 (ak (bn 1 (.agg (aM bc)) false) (bp 1 (.aH (bL.length)) 1))),(I 3),.aL [0,1,19,3,4,5,6] [.box [.id,.id,.id,.id,.id],.box [.id,.id,.id,.id],.cy (ae 3 aM bL),.bF (ae 1 (bk 4 0 3) ai),.bF (b5 3 aM eN),.pure,.pure] (a8 [1,3,5,6,7,10])]) (.bg h1 h2 (rE bc au) (gN aM bc) (gX aM ay) (gz aM ay bc) aA (cZ 3 .live (hd aM ay bc)) (.dh (aI 3 .live eM bL) (et bZ 4 4 0 3 rfl ai) (dB bZ 3 fe eN) (aI 1 .live aO bD) (aI 3 .live eM eT)))))))
  (fun h1 =>
  .ret (let cH:=cF [0,1,2,3,4,5,6];bf [(I 4),.U false,.aL [0,1,2,3,4,5,6] [.box [.id,.id,.id,.id,.id],.box [.id,.id,.id,.id],.pure,.bF (ae 1 (bk 4 0 3) ai),.bF (b5 3 aM eN),.pure,.pure] (a8 [1,3,5,6,7])] (.dS h1 (aI 3 .live eM ay) (et cH 4 4 0 3 rfl ai) (dB cH 3 fe eN) (aI 1 .live aO bD) (aI 3 .live eM eT))))
theorem Ve {af aJ aG:Int}{bo c3 c6:List Int}{bH:Int}{ai:List bu}{eN:List (List aK)}{bD:List Int}{eT:List aK}{bq:Int}{ay:List aK}{r} (h:CO af aJ aG bo c3 c6 bH ai eN bD eT bq ay=some r):dP a6 152 0 47 [1,1,1,0,1,0,0,1,0,0,1,1,1,1,0,1,0,0] (Gd af aJ aG bo c3 c6 bH ai eN bD eT) (Gx af aJ aG bo c3 c6 bH ai eN bD eT) (bq,ay) r:=dQ (fun _=>TO) h
def Ge (af:Int)(f9 ef:Nat)(oB aJ aG:Int)(bo c3 c6:List Int)(bH:Int)(a3:List (List aK))(ai:List bu)(aE:List Int):(Int×(List aK))→S:=fun (hG,bD)=>dm [(1,.ref 0 0 0 0),(3,.ref 1 0 0 0),(5,.n .i64 af),(7,.bj 2 (f9+0) 0 ef),(93,.n .i64 oB),(94,.n .i64 hG)] [[ad.mk 5 [[.n .i64 aJ,.n .i64 aG,.isl 1 (bo.map eI),.isl 1 (c3.map eI),.isl 1 (c6.map eI)]] .live],[ad.mk 4 [(gq bH 3 0 0 ai.length 4 0 0 aE.length 5 0 0 bD.length)] .live],(b5 3 aM a3),(ae 1 (bk 2 0 3) ai),(ae 1 eI aE),(ae 3 aM bD)]
def CF (af:Int)(f9 ef:Nat)(oB aJ aG:Int)(bo c3 c6:List Int)(bH:Int)(a3:List (List aK))(ai:List bu)(aE:List Int):(List aK)→dp
 | a=>⟨some 8,[(1,.ref 0 0 0 0),(3,.ref 1 0 0 0),(5,.n .i64 af),(7,.bj 2 (f9+0) 0 ef)],[[ad.mk 5 [[.n .i64 aJ,.n .i64 aG,.isl 1 (bo.map eI),.isl 1 (c3.map eI),.isl 1 (c6.map eI)]] .live],[ad.mk 4 [(gq bH 3 0 0 ai.length 4 0 0 aE.length 5 0 0 a.length)] .live],(b5 3 aM a3),(ae 1 (bk 2 0 3) ai),(ae 1 eI aE),(ae 3 aM a)]⟩
def wj (af:Int)(f9 ef:Nat)(oB aJ aG:Int)(bo c3 c6:List Int)(bH:Int)(a3:List (List aK))(ai:List bu)(aE:List Int)(hG:Int)(bD:List aK):Option ((Int×(List aK))⊕((List aK))) :=
 if (decide (hG<oB))=true then
  if (decide (hG<aG))=true then
   if 0≤hG∧hG<(bD.length:Nat) then
   bD[(0+hG.toNat)]? >>= fun fT =>
   a3[f9]? >>= fun mX =>
   if 0≤hG∧hG<(ef:Nat) then
   mX[(0+hG.toNat)]? >>= fun ee =>
   q9 fT ee >>= fun dc =>
   if (0+hG.toNat)<bD.length then
   some (.inl (R (hG+(1:Int)),bD.set (0+hG.toNat) dc))
   else none
   else none
   else none
  else
   if (hG == bH)=true then
    if 0≤hG∧hG<(bD.length:Nat) then
    bD[(0+hG.toNat)]? >>= fun kr =>
    a3[f9]? >>= fun iz =>
    if 0≤hG∧hG<(ef:Nat) then
    iz[(0+hG.toNat)]? >>= fun iO =>
    q9 kr iO >>= fun dR =>
    if (0+hG.toNat)<bD.length then
    some (.inl (R (hG+(1:Int)),bD.set (0+hG.toNat) dR))
    else none
    else none
    else none
   else
    some (.inl (R (hG+(1:Int)),bD))
 else
  some (.inr bD)
def ze (af:Int)(f9 ef:Nat)(oB aJ aG:Int)(bo c3 c6:List Int)(bH:Int)(a3:List (List aK))(ai:List bu)(aE:List Int)(hG:Int)(bD:List aK):Option ((List aK)):=iter (fun w:Int×(List aK)=>wj af f9 ef oB aJ aG bo c3 c6 bH a3 ai aE w.1 w.2) (hG,bD)
theorem TP {af:Int}{f9 ef:Nat}{oB aJ aG:Int}{bo c3 c6:List Int}{bH:Int}{a3:List (List aK)}{ai:List bu}{aE:List Int}{hG:Int}{bD:List aK}:bw (wj af f9 ef oB aJ aG bo c3 c6 bH a3 ai aE hG bD) (dO a6 152 0 47 [1,1,1,0,1,0,0,1,0,0,1,1,1,1,1,1,0,1,0,0] (Ge af f9 ef oB aJ aG bo c3 c6 bH a3 ai aE (hG,bD)) (Ge af f9 ef oB aJ aG bo c3 c6 bH a3 ai aE) (CF af f9 ef oB aJ aG bo c3 c6 bH a3 ai aE)):=by
 unfold wj
 exact .ite (fun h1 =>
  (let t1:List bW:=[(I 1),.U true,(I 2)];
  .ite (fun h2 =>
  .aX fun ab =>
  .ar fun fT aA =>
  .ar fun mX a7 =>
  .aX fun bi =>
  .ar fun ee cO =>
  .ar fun dc eX =>
  .aX fun ev =>
  .ret (let q1:=jX (gd .live 3 aM a3) i5 a7;let q2:=cF [0,1,2,3,4,5];bf (t1.append [.aw (ag 5 (cj 6 (ak (.U true) []))),.U true,.aw (ag 11 (ak (.b2 (aM fT)) (ag 2 (ak (.gf (ad.mk 3 (mX.map aM) .live) []) (ak (.gf (ad.mk 3 (mX.map aM) .live) (aM ee)) (ak (bn 2 (.agg (aM dc)) false) (ag 1 (ak .fM [])))))))),(I 2),.aL [0,1,2,3,4,5] [.box [.id,.id,.id,.id,.id],.box [.id,.id,.id,.len ((bD.set (0+hG.toNat) dc).length)],.bF (b5 3 aM a3),.bF (ae 1 (bk 2 0 3) ai),.pure,.cy (ae 3 aM (bD.set (0+hG.toNat) dc))] (a8 [1,3,5,7,93,94])]) (.bg h1 h2 h2 h2 h2 h2 h2 h2 (.bg cL ab.1 ab.2 (bT aM aA) q1 bi.1 bi.2 q1 (.bg (bT aM cO) (C6 dc eX) ab.1 ab.2 (hB aM ev) (hx 3) (hS (dH bD) (0+hG.toNat) dc) (dB q2 3 fe a3) (.c7 (et q2 2 2 0 3 rfl ai) (aI 1 .live aO aE) (cZ 3 .live (gF (cW aM bD) (0+hG.toNat) dc)) (aI 3 .live eM (bD.set (0+hG.toNat) dc))))))))
  (fun h2 =>
  (let t2:List bW:=t1.append [.aw (ag 11 (ak (.U false) []))];
  .ite (fun ab =>
  .aX fun au =>
  .ar fun kr aW =>
  .ar fun iz bi =>
  .aX fun cg =>
  .ar fun iO eH =>
  .ar fun dR ev =>
  .aX fun ew =>
  .ret (let bL:=jX (gd .live 3 aM a3) i5 bi;let bZ:=cF [0,1,2,3,4,5];bf (t2.append [.U true,.aw (ag 11 (ak (.b2 (aM kr)) (ag 2 (ak (.gf (ad.mk 3 (iz.map aM) .live) []) (ak (.gf (ad.mk 3 (iz.map aM) .live) (aM iO)) (ak (bn 2 (.agg (aM dR)) false) (ag 1 (ak .fM [])))))))),(I 2),.aL [0,1,2,3,4,5] [.box [.id,.id,.id,.id,.id],.box [.id,.id,.id,.len ((bD.set (0+hG.toNat) dR).length)],.bF (b5 3 aM a3),.bF (ae 1 (bk 2 0 3) ai),.pure,.cy (ae 3 aM (bD.set (0+hG.toNat) dR))] (a8 [1,3,5,7,93,94])]) (.bg h1 h2 h2 h2 h2 h2 h2 h2 (.bg ab au.1 au.2 (bT aM aW) bL cg.1 cg.2 bL (.bg (bT aM eH) (C6 dR ev) au.1 au.2 (hB aM ew) (hx 3) (hS (dH bD) (0+hG.toNat) dR) (dB bZ 3 fe a3) (.c7 (et bZ 2 2 0 3 rfl ai) (aI 1 .live aO aE) (cZ 3 .live (gF (cW aM bD) (0+hG.toNat) dR)) (aI 3 .live eM (bD.set (0+hG.toNat) dR))))))))
  (fun ab =>
  .ret (let cH:=cF [0,1,2,3,4,5];bf (t2.append [.U false,(I 2),.aL [0,1,2,3,4,5] [.box [.id,.id,.id,.id,.id],.box [.id,.id,.id,.id],.bF (b5 3 aM a3),.bF (ae 1 (bk 2 0 3) ai),.pure,.pure] (a8 [1,3,5,7,93,94])]) (.bg h1 h2 h2 h2 h2 h2 h2 h2 (.dh ab (dB cH 3 fe a3) (et cH 2 2 0 3 rfl ai) (aI 1 .live aO aE) (aI 3 .live eM bD)))))))))
  (fun h1 =>
  .ret (let d8:=cF [0,1,2,3,4,5];bf [(I 1),.U false,.aL [0,1,2,3,4,5] [.box [.id,.id,.id,.id,.id],.box [.id,.id,.id,.id],.bF (b5 3 aM a3),.bF (ae 1 (bk 2 0 3) ai),.pure,.pure] (a8 [1,3,5,7])] (.dh h1 (dB d8 3 fe a3) (et d8 2 2 0 3 rfl ai) (aI 1 .live aO aE) (aI 3 .live eM bD))))
theorem ML {af:Int}{f9 ef:Nat}{oB aJ aG:Int}{bo c3 c6:List Int}{bH:Int}{a3:List (List aK)}{ai:List bu}{aE:List Int}{hG:Int}{bD:List aK}{r} (h:ze af f9 ef oB aJ aG bo c3 c6 bH a3 ai aE hG bD=some r):dP a6 152 0 47 [1,1,1,0,1,0,0,1,0,0,1,1,1,1,1,1,0,1,0,0] (Ge af f9 ef oB aJ aG bo c3 c6 bH a3 ai aE) (CF af f9 ef oB aJ aG bo c3 c6 bH a3 ai aE) (hG,bD) r:=dQ (fun _=>TP) h
def FZ (af:Int)(d6:List Int)(fg aJ aG:Int)(bo c3 c6:List Int)(bH:Int)(ai:List bu)(eN:List (List aK))(bD:List Int)(eT:List aK):(Int×(List aK))→S:=fun (gu,ay)=>dm [(1,.ref 0 0 0 0),(3,.ref 1 0 0 0),(5,.n .i64 af),(6,.n .i64 (1:Int)),(7,.bj 2 0 0 ay.length),(53,.isl 1 (d6.map eI)),(54,.n .i64 fg),(55,.n .i64 gu)] [[ad.mk 5 [[.n .i64 aJ,.n .i64 aG,.isl 1 (bo.map eI),.isl 1 (c3.map eI),.isl 1 (c6.map eI)]] .live],[ad.mk 4 [(gq bH 3 0 0 ai.length 5 0 0 bD.length 6 0 0 eT.length)] .live],(ae 3 aM ay),(ae 1 (bk 4 0 3) ai),(b5 3 aM eN),(ae 1 eI bD),(ae 3 aM eT)]
def Gf (af:Int)(d6:List Int)(fg aJ aG:Int)(bo c3 c6:List Int)(bH:Int)(ai:List bu)(eN:List (List aK))(bD:List Int)(eT:List aK):(List aK)→dp
 | a=>⟨some 4,[(1,.ref 0 0 0 0),(3,.ref 1 0 0 0),(5,.n .i64 af),(6,.n .i64 (1:Int)),(7,.bj 2 0 0 a.length)],[[ad.mk 5 [[.n .i64 aJ,.n .i64 aG,.isl 1 (bo.map eI),.isl 1 (c3.map eI),.isl 1 (c6.map eI)]] .live],[ad.mk 4 [(gq bH 3 0 0 ai.length 5 0 0 bD.length 6 0 0 eT.length)] .live],(ae 3 aM a),(ae 1 (bk 4 0 3) ai),(b5 3 aM eN),(ae 1 eI bD),(ae 3 aM eT)]⟩
def v5 (af:Int)(d6:List Int)(fg aJ aG:Int)(bo c3 c6:List Int)(bH:Int)(ai:List bu)(eN:List (List aK))(bD:List Int)(eT:List aK)(gu:Int)(ay:List aK):Option ((Int×(List aK))⊕((List aK))) :=
 if (decide (gu<fg))=true then
  if 0≤gu∧gu<d6.length then
  d6[gu.toNat]? >>= fun aC =>
  oW (R ((1:Int)*aC)) >>= fun aZ =>
  if (ay++([aZ]:List aK)).length*56≤140737488355328 then
  some (.inl (R (gu+(1:Int)),ay++([aZ]:List aK)))
  else none
  else none
 else
  some (.inr ay)
def CI (af:Int)(d6:List Int)(fg aJ aG:Int)(bo c3 c6:List Int)(bH:Int)(ai:List bu)(eN:List (List aK))(bD:List Int)(eT:List aK)(gu:Int)(ay:List aK):Option ((List aK)):=iter (fun w:Int×(List aK)=>v5 af d6 fg aJ aG bo c3 c6 bH ai eN bD eT w.1 w.2) (gu,ay)
theorem TB {af:Int}{d6:List Int}{fg aJ aG:Int}{bo c3 c6:List Int}{bH:Int}{ai:List bu}{eN:List (List aK)}{bD:List Int}{eT:List aK}{gu:Int}{ay:List aK}:bw (v5 af d6 fg aJ aG bo c3 c6 bH ai eN bD eT gu ay) (dO a6 152 0 47 [1,1,1,0,1,0,0,1,0,0,1,1,1,0,1,0,0] (FZ af d6 fg aJ aG bo c3 c6 bH ai eN bD eT (gu,ay)) (FZ af d6 fg aJ aG bo c3 c6 bH ai eN bD eT) (Gf af d6 fg aJ aG bo c3 c6 bH ai eN bD eT)):=by
 unfold v5
 exact .ite (fun h1 =>
  .aX fun h2 =>
  .ar fun aC au =>
  .ar fun aZ aW =>
  .aX fun a7 =>
  .ret (let q1:=(ay++([aZ]:List aK));let q2:=cF [0,1,17,3,4,5,6];bf [(I 1),.U true,.aw (bp 1 (.b2 (eI aC)) 1),.aw (ag 4 (ak (bn 1 (.agg (aM aZ)) false) (bp 1 (.aH (q1.length)) 1))),(I 2),.aL [0,1,17,3,4,5,6] [.box [.id,.id,.id,.id,.id],.box [.id,.id,.id,.id],.cy (ae 3 aM q1),.bF (ae 1 (bk 4 0 3) ai),.bF (b5 3 aM eN),.pure,.pure] (a8 [1,3,5,6,7,53,54,55])] (.bg h1 h2.1 (cP eI h2.2) (bT eI au) (rE aZ aW) (gN aM aZ) (gX aM ay) (gz aM ay aZ) (.eF a7 (cZ 3 .live (hd aM ay aZ)) (aI 3 .live eM q1) (et q2 4 4 0 3 rfl ai) (dB q2 3 fe eN) (aI 1 .live aO bD) (aI 3 .live eM eT)))))
  (fun h1 =>
  .ret (let bL:=cF [0,1,2,3,4,5,6];bf [(I 1),.U false,.aL [0,1,2,3,4,5,6] [.box [.id,.id,.id,.id,.id],.box [.id,.id,.id,.id],.pure,.bF (ae 1 (bk 4 0 3) ai),.bF (b5 3 aM eN),.pure,.pure] (a8 [1,3,5,6,7])] (.dS h1 (aI 3 .live eM ay) (et bL 4 4 0 3 rfl ai) (dB bL 3 fe eN) (aI 1 .live aO bD) (aI 3 .live eM eT))))
theorem UT {af:Int}{d6:List Int}{fg aJ aG:Int}{bo c3 c6:List Int}{bH:Int}{ai:List bu}{eN:List (List aK)}{bD:List Int}{eT:List aK}{gu:Int}{ay:List aK}{r} (h:CI af d6 fg aJ aG bo c3 c6 bH ai eN bD eT gu ay=some r):dP a6 152 0 47 [1,1,1,0,1,0,0,1,0,0,1,1,1,0,1,0,0] (FZ af d6 fg aJ aG bo c3 c6 bH ai eN bD eT) (Gf af d6 fg aJ aG bo c3 c6 bH ai eN bD eT) (gu,ay) r:=dQ (fun _=>TB) h
def F0 (af aJ aG:Int)(bo c3 c6:List Int)(bH:Int)(ai:List bu)(eN:List (List aK))(bD:List Int)(eT:List aK):(Int×(List aK))→S:=fun (bq,ay)=>dm [(1,.ref 0 0 0 0),(3,.ref 1 0 0 0),(5,.n .i64 af),(6,.n .i64 (1:Int)),(7,.bj 2 0 0 ay.length),(10,.n .i64 bq)] [[ad.mk 5 [[.n .i64 aJ,.n .i64 aG,.isl 1 (bo.map eI),.isl 1 (c3.map eI),.isl 1 (c6.map eI)]] .live],[ad.mk 4 [(gq bH 3 0 0 ai.length 5 0 0 bD.length 6 0 0 eT.length)] .live],(ae 3 aM ay),(ae 1 (bk 4 0 3) ai),(b5 3 aM eN),(ae 1 eI bD),(ae 3 aM eT)]
def Gg (af aJ aG:Int)(bo c3 c6:List Int)(bH:Int)(ai:List bu)(eN:List (List aK))(bD:List Int)(eT:List aK):(List aK)→dp
 | a=>⟨some 6,[(1,.ref 0 0 0 0),(3,.ref 1 0 0 0),(5,.n .i64 af),(6,.n .i64 (1:Int)),(7,.bj 2 0 0 a.length)],[[ad.mk 5 [[.n .i64 aJ,.n .i64 aG,.isl 1 (bo.map eI),.isl 1 (c3.map eI),.isl 1 (c6.map eI)]] .live],[ad.mk 4 [(gq bH 3 0 0 ai.length 5 0 0 bD.length 6 0 0 eT.length)] .live],(ae 3 aM a),(ae 1 (bk 4 0 3) ai),(b5 3 aM eN),(ae 1 eI bD),(ae 3 aM eT)]⟩
def v7 (af aJ aG:Int)(bo c3 c6:List Int)(bH:Int)(ai:List bu)(eN:List (List aK))(bD:List Int)(eT:List aK)(bq:Int)(ay:List aK):Option ((Int×(List aK))⊕((List aK))) :=
 if (decide (bq<aJ))=true then
  if (bq == af)=true then
   oW 1 >>= fun bc =>
   if (ay++([bc]:List aK)).length*56≤140737488355328 then
   some (.inl (R (bq+(1:Int)),ay++([bc]:List aK)))
   else none
  else
   oW 0 >>= fun bc =>
   if (ay++([bc]:List aK)).length*56≤140737488355328 then
   some (.inl (R (bq+(1:Int)),ay++([bc]:List aK)))
   else none
 else
  some (.inr ay)
def CJ (af aJ aG:Int)(bo c3 c6:List Int)(bH:Int)(ai:List bu)(eN:List (List aK))(bD:List Int)(eT:List aK)(bq:Int)(ay:List aK):Option ((List aK)):=iter (fun w:Int×(List aK)=>v7 af aJ aG bo c3 c6 bH ai eN bD eT w.1 w.2) (bq,ay)
theorem TC {af aJ aG:Int}{bo c3 c6:List Int}{bH:Int}{ai:List bu}{eN:List (List aK)}{bD:List Int}{eT:List aK}{bq:Int}{ay:List aK}:bw (v7 af aJ aG bo c3 c6 bH ai eN bD eT bq ay) (dO a6 152 0 47 [1,1,1,0,1,0,0,1,0,0,1,1,1,1,0,1,0,0] (F0 af aJ aG bo c3 c6 bH ai eN bD eT (bq,ay)) (F0 af aJ aG bo c3 c6 bH ai eN bD eT) (Gg af aJ aG bo c3 c6 bH ai eN bD eT)):=by
 unfold v7
 exact .ite (fun h1 =>
  (let t1:List bW:=[(I 4),.U true,(I 1),(I 3)];
  .ite (fun h2 =>
  .ar fun bc au =>
  .aX fun aA =>
  .ret (let q1:=(ay++([bc]:List aK));let q2:=cF [0,1,20,3,4,5,6];bf (t1.append [.U true,(I 1),.aw (ag 2 (ak (bn 1 (.agg (aM bc)) false) (bp 1 (.aH (q1.length)) 1))),(I 3),.aL [0,1,20,3,4,5,6] [.box [.id,.id,.id,.id,.id],.box [.id,.id,.id,.id],.cy (ae 3 aM q1),.bF (ae 1 (bk 4 0 3) ai),.bF (b5 3 aM eN),.pure,.pure] (a8 [1,3,5,6,7,10])]) (.bg h1 h2 (rE bc au) (gN aM bc) (gX aM ay) (gz aM ay bc) aA (cZ 3 .live (hd aM ay bc)) (.dh (aI 3 .live eM q1) (et q2 4 4 0 3 rfl ai) (dB q2 3 fe eN) (aI 1 .live aO bD) (aI 3 .live eM eT)))))
  (fun h2 =>
  .ar fun bc au =>
  .aX fun aA =>
  .ret (let bL:=(ay++([bc]:List aK));let bZ:=cF [0,1,19,3,4,5,6];bf (t1.append [.U false,.aw (ag 2 (ak (bn 1 (.agg (aM bc)) false) (bp 1 (.aH (bL.length)) 1))),(I 3),.aL [0,1,19,3,4,5,6] [.box [.id,.id,.id,.id,.id],.box [.id,.id,.id,.id],.cy (ae 3 aM bL),.bF (ae 1 (bk 4 0 3) ai),.bF (b5 3 aM eN),.pure,.pure] (a8 [1,3,5,6,7,10])]) (.bg h1 h2 (rE bc au) (gN aM bc) (gX aM ay) (gz aM ay bc) aA (cZ 3 .live (hd aM ay bc)) (.dh (aI 3 .live eM bL) (et bZ 4 4 0 3 rfl ai) (dB bZ 3 fe eN) (aI 1 .live aO bD) (aI 3 .live eM eT)))))))
  (fun h1 =>
  .ret (let cH:=cF [0,1,2,3,4,5,6];bf [(I 4),.U false,.aL [0,1,2,3,4,5,6] [.box [.id,.id,.id,.id,.id],.box [.id,.id,.id,.id],.pure,.bF (ae 1 (bk 4 0 3) ai),.bF (b5 3 aM eN),.pure,.pure] (a8 [1,3,5,6,7])] (.dS h1 (aI 3 .live eM ay) (et cH 4 4 0 3 rfl ai) (dB cH 3 fe eN) (aI 1 .live aO bD) (aI 3 .live eM eT))))
theorem UU {af aJ aG:Int}{bo c3 c6:List Int}{bH:Int}{ai:List bu}{eN:List (List aK)}{bD:List Int}{eT:List aK}{bq:Int}{ay:List aK}{r} (h:CJ af aJ aG bo c3 c6 bH ai eN bD eT bq ay=some r):dP a6 152 0 47 [1,1,1,0,1,0,0,1,0,0,1,1,1,1,0,1,0,0] (F0 af aJ aG bo c3 c6 bH ai eN bD eT) (Gg af aJ aG bo c3 c6 bH ai eN bD eT) (bq,ay) r:=dQ (fun _=>TC) h
def F1 (aJ aG:Int)(bo c3 c6:List Int)(bH:Int):(Int×(List bu)×(List (List aK))×(List Int)×(List aK))→S:=fun (af,ay,dg,aE,bD)=>dm [(1,.ref 0 0 0 0),(3,.ref 1 0 0 0),(5,.n .i64 af)] [[ad.mk 5 [[.n .i64 aJ,.n .i64 aG,.isl 1 (bo.map eI),.isl 1 (c3.map eI),.isl 1 (c6.map eI)]] .live],[ad.mk 4 [(gq bH 2 0 0 ay.length 4 0 0 aE.length 5 0 0 bD.length)] .live],(ae 1 (bk 3 0 3) ay),(b5 3 aM dg),(ae 1 eI aE),(ae 3 aM bD)]
def Gh (aJ aG:Int)(bo c3 c6:List Int)(bH:Int):((List bu)×(List (List aK))×(List Int)×(List aK))→dp
 | a=>⟨some 2,[(3,.ref 0 0 0 0)],[[ad.mk 4 [(gq bH 1 0 0 a.1.length 3 0 0 a.2.2.1.length 4 0 0 a.2.2.2.length)] .live],(ae 1 (bk 2 0 3) a.1),(b5 3 aM a.2.1),(ae 1 eI a.2.2.1),(ae 3 aM a.2.2.2)]⟩
def v8 (aJ aG:Int)(bo c3 c6:List Int)(bH af:Int)(ay:List bu)(dg:List (List aK))(aE:List Int)(bD:List aK):Option ((Int×(List bu)×(List (List aK))×(List Int)×(List aK))⊕((List bu)×(List (List aK))×(List Int)×(List aK))) :=
 if (decide (af<aJ))=true then
  if 0≤af∧af<c3.length then
  c3[af.toNat]? >>= fun aC =>
  if (decide (aC<(0:Int)))=true then
   um (⟨aJ,aG,bo,c3,c6⟩:hn) af >>= fun bA =>
   CN af bA (len_ eI bA) aJ aG bo c3 c6 bH ay dg aE bD 0 ([]:List aK) >>= fun cm =>
   CO af aJ aG bo c3 c6 bH ay dg aE bD 0 cm >>= fun cY =>
   oW (R ((-1:Int)*aC)) >>= fun dR =>
   if (cY++([dR]:List aK)).length*56≤140737488355328 then
   (dg++[cY++([dR]:List aK)])[dg.length]? >>= fun kb =>
   ze af dg.length ((cY++([dR]:List aK)).length) (((cY++([dR]:List aK)).length:Nat):Int) aJ aG bo c3 c6 bH (dg++[cY++([dR]:List aK)]) ay aE 0 bD >>= fun gk =>
   if (ay++([(some (dg.length,(cY++([dR]:List aK)).length))]:List bu)).length*24≤140737488355328 then
   if (aE++([R (aG+af)]:List Int)).length*8≤140737488355328 then
   some (.inl (R (af+(1:Int)),ay++([(some (dg.length,(cY++([dR]:List aK)).length))]:List bu),dg++[cY++([dR]:List aK)],aE++([R (aG+af)]:List Int),gk))
   else none
   else none
   else none
  else
   um (⟨aJ,aG,bo,c3,c6⟩:hn) af >>= fun bA =>
   CI af bA (len_ eI bA) aJ aG bo c3 c6 bH ay dg aE bD 0 ([]:List aK) >>= fun cm =>
   CJ af aJ aG bo c3 c6 bH ay dg aE bD 0 cm >>= fun cY =>
   oW (R ((1:Int)*aC)) >>= fun dR =>
   if (cY++([dR]:List aK)).length*56≤140737488355328 then
   (dg++[cY++([dR]:List aK)])[dg.length]? >>= fun kb =>
   ze af dg.length ((cY++([dR]:List aK)).length) (((cY++([dR]:List aK)).length:Nat):Int) aJ aG bo c3 c6 bH (dg++[cY++([dR]:List aK)]) ay aE 0 bD >>= fun gk =>
   if (ay++([(some (dg.length,(cY++([dR]:List aK)).length))]:List bu)).length*24≤140737488355328 then
   if (aE++([R (aG+af)]:List Int)).length*8≤140737488355328 then
   some (.inl (R (af+(1:Int)),ay++([(some (dg.length,(cY++([dR]:List aK)).length))]:List bu),dg++[cY++([dR]:List aK)],aE++([R (aG+af)]:List Int),gk))
   else none
   else none
   else none
  else none
 else
  some (.inr (ay,dg,aE,bD))
def HE (aJ aG:Int)(bo c3 c6:List Int)(bH af:Int)(ay:List bu)(dg:List (List aK))(aE:List Int)(bD:List aK):Option ((List bu)×(List (List aK))×(List Int)×(List aK)):=iter (fun w:Int×(List bu)×(List (List aK))×(List Int)×(List aK)=>v8 aJ aG bo c3 c6 bH w.1 w.2.1 w.2.2.1 w.2.2.2.1 w.2.2.2.2) (af,ay,dg,aE,bD)
set_option maxHeartbeats 4000000 in
theorem TD {aJ aG:Int}{bo c3 c6:List Int}{bH af:Int}{ay:List bu}{dg:List (List aK)}{aE:List Int}{bD:List aK}:bw (v8 aJ aG bo c3 c6 bH af ay dg aE bD) (dO a6 152 0 47 [1,1,1,0,1,0,0] (F1 aJ aG bo c3 c6 bH (af,ay,dg,aE,bD)) (F1 aJ aG bo c3 c6 bH) (Gh aJ aG bo c3 c6 bH)):=by
 unfold v8
 exact .ite (fun h1 =>
  .aX fun h2 =>
  .ar fun aC au =>
  (let t1:List bW:=[(I 4),.U true,(I 1),.aw (bp 4 (.b2 (eI aC)) 1)];
  have aS:=((.c7 h1 h2.1 (cP eI h2.2) (bT eI au)):cn _);
  .ite (fun aA =>
  .ar fun bA a7 =>
  .ar fun cm cg =>
  .ar fun cY eH =>
  .ar fun dR ev =>
  .aX fun ew =>
  .ar fun kb hR =>
  .ar fun gk hq =>
  .aX fun gv =>
  .aX fun fh =>
  .ret (let q1:=(cY++([dR]:List aK));let q2:=(dg++[cY++([dR]:List aK)]);let bL:=D0 (gd .live 3 aM dg) (D9 eM 17 4 (dg.length+0) (hd aM cY dR) (Ea 17 4 (dg.length+0)));let bZ:=cF [0,1,13,2,27,5];let d8:=(ay++([(some (dg.length,q1.length))]:List bu));let fK:=aI 1 .live aO aE;let eB:=aI 3 .live eM bD;let hD:=cF [0,1,18,2,3,4,5];let jv:=cF [0,1,2,3,4,5,6];let jw:=R (aG+af);let cH:=(aE++([jw]:List Int));let mo:=cF [0,1,4,3,5,6];bf (t1.append [.U true,(I 1),(I 2),.aw (bp 2 (bn 2 (.isl 1 (bA.map eI)) false) 2),.aL [0,1,18,2,3,4,5] [.box [.id,.id,.id,.id,.id],.box [.id,.id,.id,.id],.cy (ae 3 aM ([]:List aK)),.bF (ae 1 (bk 4 0 3) ay),.bF (b5 3 aM dg),.pure,.pure] [(1,ii),(3,ii),(5,ii),(6,ii),(7,fY (([]:List aK).length)),(53,ii),(54,ii),(55,ii)],(Gw af bA (len_ eI bA) aJ aG bo c3 c6 bH ay dg aE bD cm).e8,(I 1),.aL [0,1,2,3,4,5,6] [.box [.id,.id,.id,.id,.id],.box [.id,.id,.id,.id],.pure,.bF (ae 1 (bk 4 0 3) ay),.bF (b5 3 aM dg),.pure,.pure] (a8 [1,3,5,6,7,10]),(Gx af aJ aG bo c3 c6 bH ay dg aE bD cY).e8,.aw (ag 6 (ak (.b2 (eI aC)) (ag 1 (ak (bn 1 (.agg (aM dR)) false) (bp 1 (.vn 4 (dg.length+0) (.aH (q1.length))) 1))))),.aw (bp 1 (.gf (ad.mk 3 (kb.map aM) .live) []) 1),.aL [0,1,4,3,5,6] [.box [.id,.id,.id,.id,.id],.box [.id,.id,.id,.id],.bF (b5 3 aM q2),.bF (ae 1 (bk 2 0 3) ay),.pure,.pure] (a8 [1,3,5,7,93,94]),(CF af dg.length (q1.length) ((q1.length:Nat):Int) aJ aG bo c3 c6 bH q2 ay aE gk).e8,.aw (ag 6 (ak (.kf 133 (lB 2 0 3 (some (dg.length,q1.length))) .none) (ak (.aH (d8.length)) (ag 3 [])))),.aw (bp 10 (.aH (cH.length)) 3),(I 3),.aL [0,1,13,2,27,5] [.box [.id,.id,.id,.id,.id],.box [.id,.id,.id,.id],.bF (ae 1 (bk 3 0 3) d8),.bF (b5 3 aM q2),.cy (ae 1 eI cH),.pure] (a8 [1,3,5])]) (aS.aH (.bg aA (ND bA a7) (cZ 3 .live (show []=(([]:List aK)).map aM from rfl)) (aI 3 .live eM ([]:List aK)) (et hD 4 3 0 3 rfl ay) (dB hD 3 fe dg) fK eB (.bg (eZ aK) (Vd cg) (aI 3 .live eM cm) (et jv 4 4 0 3 rfl ay) (dB jv 3 fe dg) fK eB (Ve eH) (.bg h2.1 (cP eI h2.2) (bT eI au) (rE dR ev) (gN aM dR) (gX aM cY) (gz aM cY dR) ew (.bg (congrArg (· + 0) (Kr (gd .live 3 aM dg) rfl)) (jX bL i5 hR) (m4 (b7:=mo) bL (mj fe)) (et mo 2 4 0 3 rfl ay) fK eB (ML hq) (.s2 2 0 3 dg.length (q1.length):kk (.bj 2 (dg.length+0) 0 (q1.length)) (lB 2 0 3 (some (dg.length,q1.length)))) (.bg (gN (bk 2 0 3) (some (dg.length,q1.length))) (gX (bk 2 0 3) ay) (gz (bk 2 0 3) ay (some (dg.length,q1.length))) gv (gN eI jw) (gX eI aE) (gz eI aE jw) fh (.dh (c4 (ry (b7:=bZ) 1 .live (bk 3 0 3) (hd (bk 2 0 3) ay (some (dg.length,q1.length))) (s5 (rfl:bZ 2=some 3))) (o1 (b7:=bZ))) (dB bZ 3 fe q2) (cZ 1 .live (hd eI aE jw)) (aI 1 .live aO cH) (aI 3 .live eM gk))))))))))
  (fun aA =>
  .ar fun bA a7 =>
  .ar fun cm cg =>
  .ar fun cY eH =>
  .ar fun dR ev =>
  .aX fun ew =>
  .ar fun kb hR =>
  .ar fun gk hq =>
  .aX fun gv =>
  .aX fun fh =>
  .ret (let iI:=(cY++([dR]:List aK));let qT:=(dg++[cY++([dR]:List aK)]);let BQ:=D0 (gd .live 3 aM dg) (D9 eM 17 4 (dg.length+0) (hd aM cY dR) (Ea 17 4 (dg.length+0)));let rs:=cF [0,1,13,2,27,5];let BR:=(ay++([(some (dg.length,iI.length))]:List bu));let yE:=aI 1 .live aO aE;let ve:=aI 3 .live eM bD;let yF:=cF [0,1,17,2,3,4,5];let yG:=cF [0,1,2,3,4,5,6];let tr:=R (aG+af);let ts:=(aE++([tr]:List Int));let yH:=cF [0,1,4,3,5,6];bf (t1.append [.U false,(I 2),.aw (bp 2 (bn 2 (.isl 1 (bA.map eI)) false) 2),.aL [0,1,17,2,3,4,5] [.box [.id,.id,.id,.id,.id],.box [.id,.id,.id,.id],.cy (ae 3 aM ([]:List aK)),.bF (ae 1 (bk 4 0 3) ay),.bF (b5 3 aM dg),.pure,.pure] [(1,ii),(3,ii),(5,ii),(6,ii),(7,fY (([]:List aK).length)),(53,ii),(54,ii),(55,ii)],(Gf af bA (len_ eI bA) aJ aG bo c3 c6 bH ay dg aE bD cm).e8,(I 1),.aL [0,1,2,3,4,5,6] [.box [.id,.id,.id,.id,.id],.box [.id,.id,.id,.id],.pure,.bF (ae 1 (bk 4 0 3) ay),.bF (b5 3 aM dg),.pure,.pure] (a8 [1,3,5,6,7,10]),(Gg af aJ aG bo c3 c6 bH ay dg aE bD cY).e8,.aw (ag 6 (ak (.b2 (eI aC)) (ag 1 (ak (bn 1 (.agg (aM dR)) false) (bp 1 (.vn 4 (dg.length+0) (.aH (iI.length))) 1))))),.aw (bp 1 (.gf (ad.mk 3 (kb.map aM) .live) []) 1),.aL [0,1,4,3,5,6] [.box [.id,.id,.id,.id,.id],.box [.id,.id,.id,.id],.bF (b5 3 aM qT),.bF (ae 1 (bk 2 0 3) ay),.pure,.pure] (a8 [1,3,5,7,93,94]),(CF af dg.length (iI.length) ((iI.length:Nat):Int) aJ aG bo c3 c6 bH qT ay aE gk).e8,.aw (ag 6 (ak (.kf 133 (lB 2 0 3 (some (dg.length,iI.length))) .none) (ak (.aH (BR.length)) (ag 3 [])))),.aw (bp 10 (.aH (ts.length)) 3),(I 3),.aL [0,1,13,2,27,5] [.box [.id,.id,.id,.id,.id],.box [.id,.id,.id,.id],.bF (ae 1 (bk 3 0 3) BR),.bF (b5 3 aM qT),.cy (ae 1 eI ts),.pure] (a8 [1,3,5])]) (aS.aH (.bg aA (ND bA a7) (cZ 3 .live (show []=(([]:List aK)).map aM from rfl)) (aI 3 .live eM ([]:List aK)) (et yF 4 3 0 3 rfl ay) (dB yF 3 fe dg) yE ve (.bg (eZ aK) (UT cg) (aI 3 .live eM cm) (et yG 4 4 0 3 rfl ay) (dB yG 3 fe dg) yE ve (UU eH) (.bg h2.1 (cP eI h2.2) (bT eI au) (rE dR ev) (gN aM dR) (gX aM cY) (gz aM cY dR) ew (.bg (congrArg (· + 0) (Kr (gd .live 3 aM dg) rfl)) (jX BQ i5 hR) (m4 (b7:=yH) BQ (mj fe)) (et yH 2 4 0 3 rfl ay) yE ve (ML hq) (.s2 2 0 3 dg.length (iI.length):kk (.bj 2 (dg.length+0) 0 (iI.length)) (lB 2 0 3 (some (dg.length,iI.length)))) (.bg (gN (bk 2 0 3) (some (dg.length,iI.length))) (gX (bk 2 0 3) ay) (gz (bk 2 0 3) ay (some (dg.length,iI.length))) gv (gN eI tr) (gX eI aE) (gz eI aE tr) fh (.dh (c4 (ry (b7:=rs) 1 .live (bk 3 0 3) (hd (bk 2 0 3) ay (some (dg.length,iI.length))) (s5 (rfl:rs 2=some 3))) (o1 (b7:=rs))) (dB rs 3 fe qT) (cZ 1 .live (hd eI aE tr)) (aI 1 .live aO ts) (aI 3 .live eM gk))))))))))))
  (fun h1 =>
  .ret (bf [(I 4),.U false,.aL [1,2,3,4,5] [.box [.id,.id,.id,.id],.bF (ae 1 (bk 2 0 3) ay),.bF (b5 3 aM dg),.pure,.pure] (a8 [3])] (.dh h1 (et (cF [1,2,3,4,5]) 2 3 0 3 rfl ay) (dB (cF [1,2,3,4,5]) 3 fe dg) (aI 1 .live aO aE) (aI 3 .live eM bD))))
theorem UW {aJ aG:Int}{bo c3 c6:List Int}{bH af:Int}{ay:List bu}{dg:List (List aK)}{aE:List Int}{bD:List aK}{r} (h:HE aJ aG bo c3 c6 bH af ay dg aE bD=some r):dP a6 152 0 47 [1,1,1,0,1,0,0] (F1 aJ aG bo c3 c6 bH) (Gh aJ aG bo c3 c6 bH) (af,ay,dg,aE,bD) r:=dQ (fun _=>TD) h
def zm (b8:hn):Option (Int×(List bu)×(List Int)×(List aK)×(List (List aK))) :=
 H7 b8.fr b8.d9 b8.dG b8.ei b8.hC (R (b8.d9+b8.fr)) 0 ([]:List aK) >>= fun r1 =>
 HE b8.fr b8.d9 b8.dG b8.ei b8.hC (R (b8.d9+b8.fr)) 0 ([]:List bu) ([]:List (List aK)) ([]:List Int) r1 >>= fun bc =>
 some (R (b8.d9+b8.fr),bc.1,bc.2.2.1,bc.2.2.2,bc.2.1)
theorem VU {b8:hn}:bw (zm b8) (fun a=>Con a6 47 [.agg (nV b8)] [] (.ref 0 0 0 0) [(ad.mk 4 [(gq a.1 0 1 0 a.2.1.length 0 2 0 a.2.2.1.length 0 3 0 a.2.2.2.1.length)] .live::ad.mk 1 (a.2.1.map (bk 0 4 3)) .live::ad.mk 1 (a.2.2.1.map eI) .live::ad.mk 3 (a.2.2.2.1.map aM) .live::(b5 3 aM a.2.2.2.2))]):=by
 unfold zm
 exact .ar fun r1 h2 =>
  .ar fun bc au =>
  .ret (let q1:=gq (R (b8.d9+b8.fr)) 0 1 0 bc.1.length 0 2 0 bc.2.2.1.length 0 3 0 bc.2.2.2.length;let q2:=cF [0,1,4,5,6,2];let bL:=b5 3 aM bc.2.1;let bZ:=ae 1 (bk 0 4 3) bc.1;let cH:=cF [0];lU [(I 2),(I 8),(I 1),.rr 8 3 3,.aL [0,8,11] [.box [.id,.id,.id,.id,.id],.box [.id,.id,.id,.len (([]:List aK).length)],.cy (ae 3 aM ([]:List aK))] (a8 [1,3,4]),(Gv b8.fr b8.d9 b8.dG b8.ei b8.hC (R (b8.d9+b8.fr)) r1).e8,(I 1),.rr 1 1 1,.EC,.rr 1 2 1,.aL [0,1,4,5,6,2] [.box [.id,.id,.id,.id,.id],.box [.id,.len (([]:List bu).length),.len (([]:List Int).length),.id],.bF (ae 1 (bk 3 0 3) ([]:List bu)),.bF (b5 3 aM ([]:List (List aK))),.cy (ae 1 eI ([]:List Int)),.pure] (a8 [1,3,5]),(Gh b8.fr b8.d9 b8.dG b8.ei b8.hC (R (b8.d9+b8.fr)) bc).e8,(I 2),.BM [{bG:=[(0,0),(1,0),(3,0),(4,0)],iy:=some (2,0)}] [([.box [.id,.at_ 0 1 bc.1.length,.at_ 0 2 bc.2.2.1.length,.at_ 0 3 bc.2.2.2.length],.rx bZ,.pure,.pure],some (.rx bL))] [(2,.br (.da (.at_ 0 0 0)))]] [0] [.bF (ad.mk 4 [q1] .live::ad.mk 1 (bc.1.map (bk 0 4 3)) .live::ad.mk 1 (bc.2.2.1.map eI) .live::ad.mk 3 (bc.2.2.2.map aM) .live::bL)] (.bg (eZ aK) (cZ 3 .live (nn aM)) (aI 3 .live eM ([]:List aK)) (Vc h2) (eZ bu) (eZ Int) (c4 (ry (b7:=q2) 1 .live (bk 3 0 3) (nn (bk 5 0 3)) (s5 (rfl:q2 5=some 3))) (o1 (b7:=q2))) (m4 (b7:=q2) (Qs .live 3 aM) (mj fe)) (.bg (cZ 1 .live (nn eI)) (aI 1 .live aO ([]:List Int)) (aI 3 .live eM r1) (UW au) (rfl:(kC [{bG:=[(0,0),(1,0),(3,0),(4,0)],iy:=some (2,0)}]) 0 1=some (1,0)) (rfl:bc.1.length=bc.1.length) (rfl:(kC [{bG:=[(0,0),(1,0),(3,0),(4,0)],iy:=some (2,0)}]) 0 2=some (3,0)) (rfl:bc.2.2.1.length=bc.2.2.1.length) (.gM (rfl:(kC [{bG:=[(0,0),(1,0),(3,0),(4,0)],iy:=some (2,0)}]) 0 3=some (4,0)) (rfl:bc.2.2.2.length=bc.2.2.2.length) (P0 (KE (j1:=(bk 0 4 3)) (cW (bk 2 0 3) bc.1) (fun _=>rfl) (fun x=>(Q0 (fun _=>rfl)) x)) Qu:rp (kC [{bG:=[(0,0),(1,0),(3,0),(4,0)],iy:=some (2,0)}]) (ae 1 (bk 2 0 3) bc.1) bZ) (aI 1 .live aO bc.2.2.1) (aI 3 .live eM bc.2.2.2) (P2 (gd .live 3 aM bc.2.1) (fun _=>rfl) fe:rp (kC [{bG:=[(0,0),(1,0),(3,0),(4,0)],iy:=some (2,0)}]) bL bL) (rfl:(kC [{bG:=[(0,0),(1,0),(3,0),(4,0)],iy:=some (2,0)}]) 0 0=some (0,0)) (c4 (show ad.mk 4 [q1] .live=gE cH (ad.mk 4 [q1] .live) from rfl) (c4 (kY cH 0 0 4 3 rfl bc.1) (c4 (fV cH 1 kz bc.2.2.1) (c4 (fV cH 3 fe bc.2.2.2) (dB cH 3 fe bc.2.1)))))))))
def GP (bP:Int)(c0:List Int)(c1:Int):Int→S:=fun dL=>dm [(1,.n .i64 bP),(10,.isl 1 (c0.map eI)),(11,.n .i64 c1),(12,.n .i64 dL)] []
def MP (bP:Int)(c0:List Int)(c1:Int):((Unit)⊕(Unit))→dp
 | .inl a=>⟨some 0,[],[]⟩
 | .inr a=>⟨none,[(4,.b true)],[]⟩
def y4 (bP:Int)(c0:List Int)(c1 dL:Int):Option ((Int)⊕((Unit)⊕(Unit))) :=
 if (decide (dL<c1))=true then
  if 0≤dL∧dL<c0.length then
  c0[dL.toNat]? >>= fun aC =>
  if (aC == bP)=true then
   some (.inr (.inr ()))
  else
   some (.inl (R (dL+(1:Int))))
  else none
 else
  some (.inr (.inl ()))
def CT (bP:Int)(c0:List Int)(c1 dL:Int):Option ((Unit)⊕(Unit)):=iter (fun w:Int=>y4 bP c0 c1 w) dL
theorem Uh {bP:Int}{c0:List Int}{c1 dL:Int}:bw (y4 bP c0 c1 dL) (dO a6 20 0 75 [1,0,1,0,0] (GP bP c0 c1 dL) (GP bP c0 c1) (MP bP c0 c1)):=by
 unfold y4
 exact .ite (fun h1 =>
  .aX fun h2 =>
  .ar fun aC au =>
  (let t1:List bW:=[(I 1),.U true,.aw (bp 1 (.b2 (eI aC)) 1),(I 3)];
  have aS:=((.c7 h1 h2.1 (cP eI h2.2) (bT eI au)):cn _);
  .ite (fun aA =>
  .ret (bf (t1.append [.U true,(I 1),.aL [] [] (a8 [4])]) (aS.aH (.e1 aA))))
  (fun aA =>
  .ret (bf (t1.append [.U false,(I 2),.aL [] [] (a8 [1,10,11,12])]) (aS.aH (.e1 aA))))))
  (fun h1 =>
  .ret (bf [(I 1),.U false,.aL [] [] []] (.e1 h1)))
theorem MY {bP:Int}{c0:List Int}{c1 dL:Int}{r} (h:CT bP c0 c1 dL=some r):dP a6 20 0 75 [1,0,1,0,0] (GP bP c0 c1) (MP bP c0 c1) dL r:=dQ (fun _=>Uh) h
def zG (hb:ph)(bP:Int):Option Bool :=
 CT bP hb.rk (len_ eI hb.rk) 0 >>= fun r1 =>
 match r1 with
 | .inl c8=>(some false)
 | .inr c8=>(some true)
theorem WA {hb:ph}{bP:Int}:bw (zG hb bP) (fun r=>Con a6 75 [.dW 4 [(uy hb)] 0 0,.n .i64 bP] [] (.b r) []):=by
 unfold zG
 exact .ar fun r1 h2 =>
  (let t1:List bW:=[(I 1),(I 6),.aL [] [] (a8 [1,10,11,12])];
  (by
  rcases r1 with c8|c8
  ·exact (.ret (bs (t1.append [.sub (.exit 0) [] [],(I 1)]) (.e1 (MY h2))))
  ·exact (.ret (bs (t1.append [.sub (.ret) [(4,.b true)] []]) (.e1 (MY h2))))))
def zH (c5:bm):Option Bool :=
 rL c5.cA >>= fun r1 =>
 if r1=true then
  if c5.cQ=true then
   some (decide ((0:Int)<(len_ eI c5.cA)))
  else
   some true
 else
  some false
theorem WB {c5:bm}:bw (zH c5) (fun r=>Con a6 101 [.agg (aT c5)] [] (.b r) []):=by
 unfold zH
 exact .ar fun r1 h2 =>
  (have ae:=((.e2 (Jn r1 h2) (b3.b r1)):cn _);
  .ite (fun ab =>
  .ite (fun au =>
  .ret (bs [(I 2),.aw (ag 2 (ak (bn 1 (.b r1) true) (ag 9 (ak (.U false) (ak (.U true) (ag 1 []))))))] (ae.aH (.bg ab ab ab ab (cS au) (cS au) (cS au) (cS au) (.bR ab (cS au) ab)))))
  (fun au =>
  .ret (bs [(I 2),.aw (ag 2 (ak (bn 1 (.b r1) true) (ag 5 (cj 4 (ak (.U true) (ak (.U true) (ag 1 [])))))))] (ae.aH (.bg ab ab ab ab (cJ au) (cJ au) (cJ au) (cJ au) (.bR ab (cJ au) ab))))))
  (fun ab =>
  .ret (bs [(I 2),.aw (ag 2 (ak (bn 1 (.b r1) true) (ag 1 (cj 4 (ag 4 (cj 1 (ak (.U false) (ag 1 []))))))))] (ae.aH (.dS ab ab ab ab ab ab)))))
def sP (bU:aK):Option Bool :=
 zH bU.fl >>= fun r1 =>
 if r1=true then
  rL bU.ho >>= fun bh =>
  if bh=true then
   if ((len_ eI bU.ho) == (0:Int))=true then
    some false
   else
    if (decide ((24:Int)<(len_ eI bU.ho)))=true then
     some false
    else
     if (decide ((24:Int)<(len_ eI bU.fl.cA)))=true then
      some false
     else
      xo bU.fl.cA bU.ho >>= fun cY =>
      qn cY >>= fun dR =>
      some dR
  else
   some false
 else
  some false
theorem Jo {bU:aK}:bw (sP bU) (fun r=>Con a6 79 [.agg (aM bU)] [] (.b r) []):=by
 unfold sP
 exact .ar fun r1 h2 =>
  (have ae:=((.e2 (WB r1 h2) (b3.b r1)):cn _);
  .ite (fun ab =>
  .ar fun bh aA =>
  (have aS:=ae.aH (.eF (cS ab) (cS ab) (cS ab) (Jn bh aA) (b3.b bh) (cS ab) (cS ab));
  .ite (fun aW =>
  (have fk:=aS.aH (.dh (cS aW) (cS aW) (cS aW) (cS aW) (cS aW));
  .ite (fun a7 =>
  .ret (bs [(I 2),.aw (ag 2 (ak (bn 1 (.b r1) true) (ag 4 (ak (bn 1 (.b bh) true) (ag 1 (ak (.U false) (ag 5 (ak (.U false) (ag 1 (cj 4 (ak (.U true) (ag 1 (cj 5 (ag 1 [])))))))))))))),.U true,(I 1)] (fk.aH (.bg a7 a7 a7 a7 a7 cL cL cL (.bR cL cL cL)))))
  (fun a7 =>
  .ite (fun bi =>
  .ret (bs [(I 2),.aw (ag 2 (ak (bn 1 (.b r1) true) (ag 4 (ak (bn 1 (.b bh) true) (ag 1 (ak (.U false) (ag 5 (ak (.U false) (ag 5 (ak (.U false) (ag 1 (cj 5 (ak (.U true) []))))))))))))),.U true,(I 1)] (fk.aH (.bg a7 a7 a7 a7 a7 bi bi bi (.c7 bi bi bi cL)))))
  (fun bi =>
  (let t4:List bW:=[(I 2),.aw (ag 2 (ak (bn 1 (.b r1) true) (ag 4 (ak (bn 1 (.b bh) true) (ag 1 (ak (.U false) (ag 5 (ak (.U false) (ag 5 (ak (.U false) (ag 6 (ak (.U false) []))))))))))))];
  have lo:=fk.aH (.bg a7 a7 a7 a7 a7 bi bi bi (.bR bi bi bi));
  .ite (fun cg =>
  .ret (bs (t4.append [.U true,(I 1)]) (lo.aH (.e1 cg))))
  (fun cg =>
  .ar fun cY eH =>
  .ar fun dR ev =>
  .ret (bs (t4.append [.U false,.aw (ag 5 (ak (bn 2 (.isl 1 (cY.map eI)) false) (ak (bn 1 (.b dR) true) (ag 1 []))))]) (lo.aH (.c7 cg (NE cY eH) (zv dR ev) (b3.b dR))))))))))
  (fun aW =>
  .ret (bs [(I 2),.aw (ag 2 (ak (bn 1 (.b r1) true) (ag 4 (ak (bn 1 (.b bh) true) (ag 1 (ak (.U false) (ag 1 (cj 4 (ak (.U true) (ag 1 (cj 4 (ag 2 (cj 5 (ag 1 [])))))))))))))),.U true,(I 1)] (aS.aH (.bg (cJ aW) (cJ aW) (cJ aW) (cJ aW) (cJ aW) cL cL cL (.eF cL cL cL cL cL cL cL)))))))
  (fun ab =>
  .ret (bs [(I 2),.aw (ag 2 (ak (bn 1 (.b r1) true) (ag 2 (cj 4 (ak (.U true) (ag 1 (cj 4 (ag 2 (cj 4 (ag 2 (cj 5 (ag 1 [])))))))))))),.U true,(I 1)] (ae.aH (.bg (cJ ab) (cJ ab) (cJ ab) (cJ ab) (cJ ab) cL cL cL (.bg cL cL cL cL cL cL cL cL (.bR cL cL cL)))))))
def pO (bU:aK):Option Int :=
 sP bU >>= fun r1 =>
 if r1=true then
  if ((len_ eI bU.fl.cA) == (0:Int))=true then
   some 0
  else
   if bU.fl.cQ=true then
    some (-1)
   else
    some 1
 else
  some 0
theorem sH {bU:aK}:bw (pO bU) (fun r=>Con a6 49 [.agg (aM bU)] [] (.n .i64 r) []):=by
 unfold pO
 exact .ar fun r1 h2 =>
  (have ae:=((.e2 (Jo r1 h2) (b3.b r1)):cn _);
  .ite (fun ab =>
  (let t2:List bW:=[(I 2),.aw (ag 1 (ak (bn 1 (.b r1) true) (bp 7 (.U false) 1)))];
  have fk:=ae.aH (.dS (cS ab) (cS ab) (cS ab) (cS ab) (cS ab) (cS ab));
  .ite (fun au =>
  .ret (bs (t2.append [.U true,(I 1)]) (fk.aH (.e1 au))))
  (fun au =>
  .ite (fun aA =>
  .ret (bs (t2.append [.U false,(I 4),.U true,(I 1)]) (fk.aH (.e2 au aA))))
  (fun aA =>
  .ret (bs (t2.append [.U false,(I 4),.U false,(I 1)]) (fk.aH (.e2 au aA)))))))
  (fun ab =>
  .ret (bs [(I 2),.aw (ag 1 (ak (bn 1 (.b r1) true) (ag 2 (cj 5 (ak (.U true) (ag 1 [])))))),.U true,(I 1)] (ae.aH (.eF (cJ ab) (cJ ab) (cJ ab) (cJ ab) (cJ ab) (cJ ab) cL)))))
def G6 (eG:Int)(eQ:List (List aK))(eE:List Int)(eJ:List aK)(bP:Int)(e3:Bool)(bq oC:Int):(Int×Int)→S:=fun (aF,mF)=>dm [(0,.dW 4 [[.n .i64 eG,.isl 1 (eQ.map (en 3 aM)),.isl 1 (eE.map eI),.isl 3 (eJ.map aM)]] 0 0),(1,.n .i64 bP),(2,.b e3),(7,.n .i64 aF),(8,.n .i64 bq),(40,.isl 1 (eE.map eI)),(41,.n .i64 oC),(42,.n .i64 mF)] []
def HF (eG:Int)(eQ:List (List aK))(eE:List Int)(eJ:List aK)(bP:Int)(e3:Bool)(bq oC:Int):Int→dp
 | a=>⟨some 2,[(0,.dW 4 [[.n .i64 eG,.isl 1 (eQ.map (en 3 aM)),.isl 1 (eE.map eI),.isl 3 (eJ.map aM)]] 0 0),(1,.n .i64 bP),(2,.b e3),(7,.n .i64 a),(8,.n .i64 bq)],[]⟩
def G7 (eG:Int)(eQ:List (List aK))(eE:List Int)(eJ:List aK)(bP:Int)(e3:Bool)(bq oC aF mF:Int):Option ((Int×Int)⊕(Int)) :=
 if (decide (mF<oC))=true then
  if 0≤mF∧mF<eE.length then
  eE[mF.toNat]? >>= fun aC =>
  if (aC == bq)=true then
   if 0≤mF∧mF<eQ.length then
   eQ[mF.toNat]? >>= fun fi =>
   if 0≤bP∧bP<fi.length then
   fi[bP.toNat]? >>= fun iO =>
   pO iO >>= fun dR =>
   some (.inl (dR,R (mF+(1:Int))))
   else none
   else none
  else
   some (.inl (aF,R (mF+(1:Int))))
  else none
 else
  some (.inr aF)
def Ns (eG:Int)(eQ:List (List aK))(eE:List Int)(eJ:List aK)(bP:Int)(e3:Bool)(bq oC aF mF:Int):Option (Int):=iter (fun w:Int×Int=>G7 eG eQ eE eJ bP e3 bq oC w.1 w.2) (aF,mF)
theorem Us {eG:Int}{eQ:List (List aK)}{eE:List Int}{eJ:List aK}{bP:Int}{e3:Bool}{bq oC aF mF:Int}:bw (G7 eG eQ eE eJ bP e3 bq oC aF mF) (dO a6 63 0 76 [1,1,0,1,0,0,1,0,0,1,1,0,0] (G6 eG eQ eE eJ bP e3 bq oC (aF,mF)) (G6 eG eQ eE eJ bP e3 bq oC) (HF eG eQ eE eJ bP e3 bq oC)):=by
 unfold G7
 exact .ite (fun h1 =>
  .aX fun h2 =>
  .ar fun aC au =>
  (let t1:List bW:=[(I 1),.U true,.aw (bp 2 (.b2 (eI aC)) 2),(I 3)];
  have aS:=((.c7 h1 h2.1 (cP eI h2.2) (bT eI au)):cn _);
  .ite (fun aA =>
  .aX fun aW =>
  .ar fun fi bi =>
  .aX fun cg =>
  .ar fun iO eH =>
  .ar fun dR ev =>
  .ret (bf (t1.append [.U true,.aw (ag 6 (ak (.b2 ((en 3 aM) fi)) (ag 2 (ak (.b2 (aM iO)) (ak (bn 1 (.n .i64 dR) true) (ag 1 [])))))),(I 2),.aL [] [] (a8 [0,1,2,7,8,40,41,42])]) (aS.aH (.bg aA aW.1 (cP (en 3 aM) aW.2) (bT (en 3 aM) bi) cg.1 (cP aM cg.2) (bT aM eH) (sH dR ev) (.e1 (b3.n .i64 dR))))))
  (fun aA =>
  .ret (bf (t1.append [.U false,(I 2),.aL [] [] (a8 [0,1,2,7,8,40,41,42])]) (aS.aH (.e1 aA))))))
  (fun h1 =>
  .ret (bf [(I 1),.U false,.aL [] [] (a8 [0,1,2,7,8])] (.e1 h1)))
theorem VV {eG:Int}{eQ:List (List aK)}{eE:List Int}{eJ:List aK}{bP:Int}{e3:Bool}{bq oC aF mF:Int}{r} (h:Ns eG eQ eE eJ bP e3 bq oC aF mF=some r):dP a6 63 0 76 [1,1,0,1,0,0,1,0,0,1,1,0,0] (G6 eG eQ eE eJ bP e3 bq oC) (HF eG eQ eE eJ bP e3 bq oC) (aF,mF) r:=dQ (fun _=>Us) h
def G8 (eG:Int)(eQ:List (List aK))(eE:List Int)(eJ:List aK)(bP:Int)(e3:Bool):(Int×Int)→S:=fun (aF,bq)=>dm [(0,.dW 4 [[.n .i64 eG,.isl 1 (eQ.map (en 3 aM)),.isl 1 (eE.map eI),.isl 3 (eJ.map aM)]] 0 0),(1,.n .i64 bP),(2,.b e3),(7,.n .i64 aF),(8,.n .i64 bq)] []
def MZ (eG:Int)(eQ:List (List aK))(eE:List Int)(eJ:List aK)(bP:Int)(e3:Bool):((Int)⊕(Unit))→dp
 | .inl a=>⟨some 0,[(7,.n .i64 a)],[]⟩
 | .inr a=>⟨none,[(6,.n .i64 (-1:Int))],[]⟩
def y8 (eG:Int)(eQ:List (List aK))(eE:List Int)(eJ:List aK)(bP:Int)(e3:Bool)(aF bq:Int):Option ((Int×Int)⊕((Int)⊕(Unit))) :=
 if (aF == (0:Int))=true then
  if e3=true then
   if (decide (bq<eG))=true then
    if (bq == bP)=true then
     some (.inr (.inr ()))
    else
     Ns eG eQ eE eJ bP e3 bq (len_ eI eE) aF 0 >>= fun aZ =>
     some (.inl (aZ,R (bq+(1:Int))))
   else
    some (.inr (.inl aF))
  else
   some (.inr (.inl aF))
 else
  some (.inr (.inl aF))
def IX (eG:Int)(eQ:List (List aK))(eE:List Int)(eJ:List aK)(bP:Int)(e3:Bool)(aF bq:Int):Option ((Int)⊕(Unit)):=iter (fun w:Int×Int=>y8 eG eQ eE eJ bP e3 w.1 w.2) (aF,bq)
theorem Ut {eG:Int}{eQ:List (List aK)}{eE:List Int}{eJ:List aK}{bP:Int}{e3:Bool}{aF bq:Int}:bw (y8 eG eQ eE eJ bP e3 aF bq) (dO a6 63 0 76 [1,1,0,1,0,0] (G8 eG eQ eE eJ bP e3 (aF,bq)) (G8 eG eQ eE eJ bP e3) (MZ eG eQ eE eJ bP e3)):=by
 unfold y8
 exact .ite (fun h1 =>
  .ite (fun h2 =>
  (let t1:List bW:=[.aw (ag 4 (ak (.U true) (ag 7 (ak (.U true) []))))];
  have aS:=((.bg h1 h1 h2 h2 h2 h2 h2 h2 (.e1 h2)):cn _);
  .ite (fun ab =>
  .ite (fun au =>
  .ret (bf (t1.append [.U true,(I 3),.U true,(I 1),.aL [] [] (a8 [6])]) (aS.aH (.e2 ab au))))
  (fun au =>
  .ar fun aZ aW =>
  .ret (bf (t1.append [.U true,(I 3),.U false,(I 6),.aL [] [] (a8 [0,1,2,7,8,40,41,42]),(HF eG eQ eE eJ bP e3 bq (len_ eI eE) aZ).e8,(I 3),.aL [] [] (a8 [0,1,2,7,8])]) (aS.aH (.bR ab au (VV aW))))))
  (fun ab =>
  .ret (bf (t1.append [.U false,.aL [] [] (a8 [7])]) (aS.aH (.e1 ab))))))
  (fun h2 =>
  .ret (bf [.aw (ag 4 (ak (.U true) (ag 1 (cj 6 (ak (.U false) []))))),.U false,.aL [] [] (a8 [7])] (.bg h1 h1 h2 h2 h2 h2 h2 h2 (.e2 h2 cz)))))
  (fun h1 =>
  .ret (bf [.aw (ag 3 (cj 1 (ak (.U false) (ag 1 (cj 6 (ag 1 [])))))),.U false,.aL [] [] (a8 [7])] (.bg h1 h1 cz cz cz cz cz cz (.e1 cz))))
theorem M7 {eG:Int}{eQ:List (List aK)}{eE:List Int}{eJ:List aK}{bP:Int}{e3:Bool}{aF bq:Int}{r} (h:IX eG eQ eE eJ bP e3 aF bq=some r):dP a6 63 0 76 [1,1,0,1,0,0] (G8 eG eQ eE eJ bP e3) (MZ eG eQ eE eJ bP e3) (aF,bq) r:=dQ (fun _=>Ut) h
def uh (hb:ph)(bP:Int)(e3:Bool):Option Int :=
 if 0≤bP∧bP<hb.AW.length then
 hb.AW[bP.toNat]? >>= fun x2 =>
 pO x2 >>= fun bh =>
 IX hb.Mg hb.r8 hb.rk hb.AW bP e3 bh 0 >>= fun bA =>
 match bA with
 | .inl me=>(some me)
 | .inr me=>(some (-1))
 else none
theorem WY {hb:ph}{bP:Int}{e3:Bool}:bw (uh hb bP e3) (fun r=>Con a6 76 [.dW 4 [(uy hb)] 0 0,.n .i64 bP,.b e3] [] (.n .i64 r) []):=by
 unfold uh
 exact .aX fun h1 =>
  .ar fun x2 ab =>
  .ar fun bh aA =>
  .ar fun bA a7 =>
  (let t1:List bW:=[(I 1),.aw (ag 6 (ak (.b2 (aM x2)) (ak (bn 1 (.n .i64 bh) true) (ag 1 [])))),(I 1),.aL [] [] (a8 [0,1,2,7,8])];
  have aS:=((.dh h1.1 (cP aM h1.2) (bT aM ab) (sH bh aA) (b3.n .i64 bh)):cn _);
  (by
  rcases bA with me|me
  ·exact (.ret (bs (t1.append [.sub (.exit 0) [(7,.n .i64 me)] [],(I 2)]) (aS.aH (.e1 (M7 a7)))))
  ·exact (.ret (bs (t1.append [.sub (.ret) [(6,.n .i64 (-1:Int))] []]) (aS.aH (.e1 (M7 a7)))))))
def uo (bU aF:aK):Option aK :=
 sP bU >>= fun r1 =>
 if r1=true then
  sP aF >>= fun bh =>
  if bh=true then
   hF bU.fl.cA aF.ho >>= fun ck =>
   hF bU.ho aF.fl.cA >>= fun b6 =>
   nS (!(bU.fl.cQ == aF.fl.cQ)) ck b6 >>= fun dc =>
   some dc
  else
   some (⟨(⟨false,([]:List Int)⟩:bm),([]:List Int)⟩:aK)
 else
  some (⟨(⟨false,([]:List Int)⟩:bm),([]:List Int)⟩:aK)
theorem NF {bU aF:aK}:bw (uo bU aF) (fun r=>Con a6 98 [.agg (aM bU),.agg (aM aF)] [] (.agg (aM r)) []):=by
 unfold uo
 exact .ar fun r1 h2 =>
  (have ae:=((.e2 (Jo r1 h2) (b3.b r1)):cn _);
  .ite (fun ab =>
  .ar fun bh aA =>
  (let t2:List bW:=[(I 3),.aw (ag 1 (ak (bn 1 (.b r1) true) (ag 3 (ak (bn 1 (.b bh) true) (ag 1 (ak (.U false) []))))))];
  have fk:=ae.aH (.dS (cS ab) (cS ab) (Jo bh aA) (b3.b bh) (cS ab) (cS ab));
  .ite (fun aW =>
  .ar fun ck bi =>
  .ar fun b6 cO =>
  .ar fun dc eX =>
  .ret (bs (t2.append [.U false,.aw (ag 12 (ak (bn 2 (.isl 1 (ck.map eI)) false) (ag 5 (ak (bn 2 (.isl 1 (b6.map eI)) false) (ak (bn 3 (.agg (aM dc)) false) (ag 1 []))))))]) (fk.aH (.c7 (cS aW) (oX ck bi) (oX b6 cO) (zx dc eX)))))
  (fun aW =>
  .ret (bs (t2.append [.U true,(I 2)]) (fk.aH (.e1 (cJ aW))) (.br (.agg [.id,.jH 1,.jH 1]))))))
  (fun ab =>
  .ret (bs [(I 3),.aw (ag 1 (ak (bn 1 (.b r1) true) (ag 2 (cj 3 (ak (.U true) []))))),.U true,(I 2)] (ae.aH (.dh (cJ ab) (cJ ab) (cJ ab) (cJ ab) cL)) (.br (.agg [.id,.jH 1,.jH 1])))))
def z0 (c5 er:bm):Option Int :=
 if c5.cQ=true then
  if er.cQ=true then
   pP er.cA c5.cA >>= fun bc =>
   some bc
  else
   some (-1)
 else
  if er.cQ=true then
   some 1
  else
   pP c5.cA er.cA >>= fun bc =>
   some bc
theorem Xl {c5 er:bm}:bw (z0 c5 er) (fun r=>Con a6 118 [.agg (aT c5),.agg (aT er)] [] (.n .i64 r) []):=by
 unfold z0
 exact .ite (fun h1 =>
  (let t1:List bW:=[(I 3),.aw (bp 6 (.U true) 1)];
  .ite (fun h2 =>
  .ar fun bc au =>
  .ret (bs (t1.append [.U false,.aw (ag 4 (cj 2 (ak (.U false) (ag 1 [])))),.U false,(I 3),.U true,.aw (bp 4 (bn 2 (.n .i64 bc) true) 1)]) (.bg h1 h1 h1 h1 (cS h2) (cS h1) (cS h1) (cS h1) (.c7 cz h1 (xb bc au) (b3.n .i64 bc)))))
  (fun h2 =>
  .ret (bs (t1.append [.U true,(I 1)]) (.dh h1 h1 h1 h1 (cJ h2))))))
  (fun h1 =>
  (let t1:List bW:=[(I 3),.aw (ag 3 (cj 3 (ak (.U false) (ag 1 [])))),.U false,.aw (bp 6 (.U true) 1)];
  have aS:=((.gM h1 h1 h1 h1 cz (cJ h1) (cJ h1) (cJ h1)):cn _);
  .ite (fun h2 =>
  .ret (bs (t1.append [.U true,(I 1)]) (aS.aH (.e1 h2))))
  (fun h2 =>
  .ar fun bc au =>
  .ret (bs (t1.append [.U false,(I 3),.U false,.aw (bp 4 (bn 2 (.n .i64 bc) true) 1)]) (aS.aH (.c7 h2 h1 (xb bc au) (b3.n .i64 bc)))))))
def uq (bU aF:aK):Option Int :=
 hF bU.fl.cA aF.ho >>= fun r1 =>
 hL bU.fl.cQ r1 >>= fun bc =>
 hF aF.fl.cA bU.ho >>= fun aZ =>
 hL aF.fl.cQ aZ >>= fun ck =>
 z0 bc ck >>= fun b6 =>
 some b6
theorem NG {bU aF:aK}:bw (uq bU aF) (fun r=>Con a6 99 [.agg (aM bU),.agg (aM aF)] [] (.n .i64 r) []):=by
 unfold uq
 exact .ar fun r1 h2 =>
  .ar fun bc au =>
  .ar fun aZ aW =>
  .ar fun ck bi =>
  .ar fun b6 cO =>
  .ret (bs [(I 3),.aw (ag 8 (ak (bn 2 (.isl 1 (r1.map eI)) false) (ak (bn 2 (.agg (aT bc)) false) (ag 8 (ak (bn 2 (.isl 1 (aZ.map eI)) false) (ak (bn 2 (.agg (aT ck)) false) (ak (bn 2 (.n .i64 b6) true) (ag 1 []))))))))] (.dS (oX r1 h2) (nR bc au) (oX aZ aW) (nR ck bi) (Xl b6 cO) (b3.n .i64 b6)))
def GQ (eG:Int)(eQ:List (List aK))(eE:List Int)(eJ:List aK)(bP dk:Int):(Int×Int×Bool×(List Int)×(List Int))→S:=fun (hT,d5,aJ,aG,bo)=>dm [(0,.dW 4 [[.n .i64 eG,.isl 1 (eQ.map (en 3 aM)),.isl 1 (eE.map eI),.isl 3 (eJ.map aM)]] 0 0),(1,.n .i64 bP),(5,.n .i64 hT),(6,.ref 0 0 0 0),(14,.isl 1 (eQ.map (en 3 aM))),(15,.n .i64 dk),(16,.n .i64 d5)] [[ad.mk 3 [[.b aJ,.isl 1 (aG.map eI),.isl 1 (bo.map eI)]] .live]]
def MQ (eG:Int)(eQ:List (List aK))(eE:List Int)(eJ:List aK)(bP dk:Int):Int→dp
 | a=>⟨some 0,[(5,.n .i64 a)],[]⟩
def wA (eG:Int)(eQ:List (List aK))(eE:List Int)(eJ:List aK)(bP dk hT d5:Int)(aJ:Bool)(aG bo:List Int):Option ((Int×Int×Bool×(List Int)×(List Int))⊕(Int)) :=
 if (decide (d5<dk))=true then
  if 0≤d5∧d5<eQ.length then
  eQ[d5.toNat]? >>= fun aC =>
  if 0≤bP∧bP<aC.length then
  aC[bP.toNat]? >>= fun cq =>
  pO cq >>= fun cm =>
  if (decide (cm≤(0:Int)))=true then
   some (.inl (hT,R (d5+(1:Int)),aJ,aG,bo))
  else
   if 0≤(R ((len_ aM aC)-(1:Int)))∧(R ((len_ aM aC)-(1:Int)))<aC.length then
   aC[(R ((len_ aM aC)-(1:Int))).toNat]? >>= fun LB =>
   uo LB cq >>= fun gb =>
   if (decide (hT<(0:Int)))=true then
    some (.inl (d5,R (d5+(1:Int)),gb.fl.cQ,gb.fl.cA,gb.ho))
   else
    uq gb (⟨(⟨aJ,aG⟩:bm),bo⟩:aK) >>= fun gk =>
    if (decide (gk<(0:Int)))=true then
     some (.inl (d5,R (d5+(1:Int)),gb.fl.cQ,gb.fl.cA,gb.ho))
    else
     if (gk == (0:Int))=true then
      if 0≤d5∧d5<eE.length then
      eE[d5.toNat]? >>= fun LC =>
      if 0≤hT∧hT<eE.length then
      eE[hT.toNat]? >>= fun LD =>
      if (decide (LC<LD))=true then
       some (.inl (d5,R (d5+(1:Int)),gb.fl.cQ,gb.fl.cA,gb.ho))
      else
       some (.inl (hT,R (d5+(1:Int)),aJ,aG,bo))
      else none
      else none
     else
      some (.inl (hT,R (d5+(1:Int)),aJ,aG,bo))
   else none
  else none
  else none
 else
  some (.inr hT)
def IH (eG:Int)(eQ:List (List aK))(eE:List Int)(eJ:List aK)(bP dk hT d5:Int)(aJ:Bool)(aG bo:List Int):Option (Int):=iter (fun w:Int×Int×Bool×(List Int)×(List Int)=>wA eG eQ eE eJ bP dk w.1 w.2.1 w.2.2.1 w.2.2.2.1 w.2.2.2.2) (hT,d5,aJ,aG,bo)
theorem Ui {eG:Int}{eQ:List (List aK)}{eE:List Int}{eJ:List aK}{bP dk hT d5:Int}{aJ:Bool}{aG bo:List Int}:bw (wA eG eQ eE eJ bP dk hT d5 aJ aG bo) (dO a6 73 0 77 [1,1,1,0,1,0,0] (GQ eG eQ eE eJ bP dk (hT,d5,aJ,aG,bo)) (GQ eG eQ eE eJ bP dk) (MQ eG eQ eE eJ bP dk)):=by
 unfold wA
 exact .ite (fun h1 =>
  .aX fun h2 =>
  .ar fun aC au =>
  .aX fun aA =>
  .ar fun cq a7 =>
  .ar fun cm cg =>
  (let t1:List bW:=[(I 1),.U true,.aw (bp 2 (.b2 ((en 3 aM) aC)) 2),.aw (ag 3 (ak (.b2 (aM cq)) (ak (bn 1 (.n .i64 cm) true) (ag 1 []))))];
  have aS:=((.bg h1 h2.1 (cP (en 3 aM) h2.2) (bT (en 3 aM) au) aA.1 (cP aM aA.2) (bT aM a7) (sH cm cg) (.e1 (b3.n .i64 cm))):cn _);
  .ite (fun cO =>
  .ret (bf (t1.append [.U true,(I 2),.aL [0] [.box [.id,.id,.id]] (a8 [0,1,5,6,14,15,16])]) (aS.aH (.e1 cO))))
  (fun cO =>
  .aX fun eH =>
  .ar fun LB ev =>
  .ar fun gb fP =>
  (let t3:List bW:=t1.append [.U false,.aw (ag 5 (ak (.b2 (aM LB)) (ag 3 (ak (.b2 (aM cq)) (ak (bn 2 (.agg (aM gb)) false) (ag 2 []))))))];
  have eP:=aS.aH (.gM cO eH.1 (cP aM eH.2) (bT aM ev) aA.1 (cP aM aA.2) (bT aM a7) (NF gb fP));
  .ite (fun hR =>
  .ret (bf (t3.append [.aw (ag 3 (cj 4 (ak (.U true) (ag 1 (cj 5 (ag 15 (cj 1 (ag 1 [])))))))),.U true,(I 2),(I 2),(I 2),.aL [0] [.box [.id,.id,.id]] (a8 [0,1,5,6,14,15,16])]) (eP.aH (.bg hR hR hR hR hR cL cL cL (.c7 cL cL cL cL)))))
  (fun hR =>
  .ar fun gk hq =>
  (have lo:=eP.aH (.eF hR hR hR (NG gk hq) (b3.n .i64 gk) hR hR);
  .ite (fun gv =>
  .ret (bf (t3.append [.aw (ag 5 (ak (bn 2 (.n .i64 gk) true) (ag 1 (ak (.U false) (ag 1 (cj 5 (ag 15 (cj 1 (ak (.U true) []))))))))),.U true,(I 2),(I 2),(I 2),.aL [0] [.box [.id,.id,.id]] (a8 [0,1,5,6,14,15,16])]) (lo.aH (.gM gv gv gv gv gv gv gv cL))))
  (fun gv =>
  (have ln:=lo.aH (.eF gv gv gv (NG gk hq) (b3.n .i64 gk) gv gv);
  .ite (fun fh =>
  .aX fun gK =>
  .ar fun LC mT =>
  .aX fun tt =>
  .ar fun LD BS =>
  (let t7:List bW:=t3.append [.aw (ag 5 (ak (bn 2 (.n .i64 gk) true) (ag 1 (ak (.U false) (ag 3 (ak (bn 2 (.n .i64 gk) true) (ag 8 (ak (.b2 (eI LC)) (ag 6 (ak (.b2 (eI LD)) (ag 1 (ak (.U true) (ak (.U false) [])))))))))))))];
  have nO:=ln.aH (.bg fh fh fh fh fh fh gK.1 (cP eI gK.2) (.bg fh (bT eI mT) fh fh fh fh fh fh (.gM tt.1 (cP eI tt.2) fh (bT eI BS) fh gv fh gv)));
  .ite (fun sm =>
  .ret (bf (t7.append [.U true,(I 2),(I 2),(I 2),.aL [0] [.box [.id,.id,.id]] (a8 [0,1,5,6,14,15,16])]) (nO.aH (.e1 sm))))
  (fun sm =>
  .ret (bf (t7.append [.U false,(I 2),.aL [0] [.box [.id,.id,.id]] (a8 [0,1,5,6,14,15,16])]) (nO.aH (.e1 sm))))))
  (fun fh =>
  .ret (bf (t3.append [.aw (ag 5 (ak (bn 2 (.n .i64 gk) true) (ag 1 (ak (.U false) (ag 3 (ak (bn 2 (.n .i64 gk) true) (ag 2 (cj 15 (ak (.U false) (ak (.U false) [])))))))))),.U false,(I 2),.aL [0] [.box [.id,.id,.id]] (a8 [0,1,5,6,14,15,16])]) (ln.aH (.bg fh fh fh fh fh fh fh fh (.bg fh fh fh fh fh fh fh gv (.bR fh gv cz))))))))))))))
  (fun h1 =>
  .ret (bf [(I 1),.U false,.aL [] [] (a8 [5])] (.e1 h1)))
theorem VD {eG:Int}{eQ:List (List aK)}{eE:List Int}{eJ:List aK}{bP dk hT d5:Int}{aJ:Bool}{aG bo:List Int}{r} (h:IH eG eQ eE eJ bP dk hT d5 aJ aG bo=some r):dP a6 73 0 77 [1,1,1,0,1,0,0] (GQ eG eQ eE eJ bP dk) (MQ eG eQ eE eJ bP dk) (hT,d5,aJ,aG,bo) r:=dQ (fun _=>Ui) h
def zI (hb:ph)(bP:Int):Option Int :=
 IH hb.Mg hb.r8 hb.rk hb.AW bP (len_ (en 3 aM) hb.r8) (-1) 0 false ([]:List Int) ([]:List Int) >>= fun r1 =>
 some r1
theorem WC {hb:ph}{bP:Int}:bw (zI hb bP) (fun r=>Con a6 77 [.dW 4 [(uy hb)] 0 0,.n .i64 bP] [] (.n .i64 r) []):=by
 unfold zI
 exact .ar fun r1 h2 =>
  .ret (bs [(I 1),(I 1),(I 3),(I 6),.aL [3] [.box [.id,.jH 1,.jH 1]] (a8 [0,1,5,6,14,15,16]),.sub (.exit 0) [(5,.n .i64 r1)] [],(I 2)] (.e1 (VD h2)))
def ur (bU:aK):Option aK :=
 hL (!bU.fl.cQ) bU.fl.cA >>= fun r1 =>
 if (([]:List Int)++bU.ho).length*8≤140737488355328 then
 some (⟨r1,([]:List Int)++bU.ho⟩:aK)
 else none
theorem NH {bU:aK}:bw (ur bU) (fun r=>Con a6 119 [.agg (aM bU)] [] (.agg (aM r)) []):=by
 unfold ur
 exact .ar fun r1 h2 =>
  .aX fun ab =>
  .ret (let q1:=(([]:List Int)++bU.ho);let q2:=cW eI bU.ho;bs [(I 2),.aw (ag 7 (ak (bn 2 (.agg (aT r1)) false) (bp 3 (.aH (q1.length)) 2)))] (.eF (nR r1 h2) (m3 (show []=(([]:List Int)).map eI from rfl) (eZ Int)) (lG (eZ Int) q2:q1.length=0+(bU.ho.map eI).length) ab (lr (h6 (show []=(([]:List Int)).map eI from rfl) (eZ Int) q2) (dH q1)) (kZ (h6 (show []=(([]:List Int)).map eI from rfl) (eZ Int) q2) (dH q1)) (dv aO q1)) (.br (.agg [.id,.id,.eh (q1.map eI)])))
def sM (bU aF:aK):Option aK :=
 hF bU.fl.cA aF.fl.cA >>= fun r1 =>
 hF bU.ho aF.ho >>= fun bc =>
 nS (!(bU.fl.cQ == aF.fl.cQ)) r1 bc >>= fun aZ =>
 some aZ
theorem NI {bU aF:aK}:bw (sM bU aF) (fun r=>Con a6 120 [.agg (aM bU),.agg (aM aF)] [] (.agg (aM r)) []):=by
 unfold sM
 exact .ar fun r1 h2 =>
  .ar fun bc au =>
  .ar fun aZ aW =>
  .ret (bs [(I 3),.aw (ag 13 (ak (bn 2 (.isl 1 (r1.map eI)) false) (ag 4 (ak (bn 2 (.isl 1 (bc.map eI)) false) (ak (bn 3 (.agg (aM aZ)) false) (ag 1 []))))))] (.bR (oX r1 h2) (oX bc au) (zx aZ aW)))
def Gi (kH lE hM ef:Nat)(gS:Int)(ap:List aK)(jQ:Bool)(jN jL:List Int):(Int×(List aK))→S:=fun (fz,aa)=>dm [(0,.bj 0 0 kH lE),(1,.bj 1 0 hM ef),(7,.ref 2 0 0 0),(19,.n .i64 gS),(20,.n .i64 fz)] [(ae 3 aM aa),(ae 3 aM ap),[ad.mk 3 [[.b jQ,.isl 1 (jN.map eI),.isl 1 (jL.map eI)]] .live]]
def MI (kH lE hM ef:Nat)(gS:Int)(ap:List aK)(jQ:Bool)(jN jL:List Int):(List aK)→dp
 | a=>⟨some 0,[],[(ae 3 aM a),(ae 3 aM ap)]⟩
def wk (kH lE hM ef:Nat)(gS:Int)(ap:List aK)(jQ:Bool)(jN jL:List Int)(fz:Int)(aa:List aK):Option ((Int×(List aK))⊕((List aK))) :=
 if (decide (fz<gS))=true then
  if 0≤fz∧fz<(ef:Nat) then
  ap[(hM+fz.toNat)]? >>= fun aC =>
  pO aC >>= fun aZ =>
  if (aZ != (0:Int))=true then
   if 0≤fz∧fz<(lE:Nat) then
   aa[(kH+fz.toNat)]? >>= fun ee =>
   sM (⟨(⟨jQ,jN⟩:bm),jL⟩:aK) aC >>= fun dc =>
   q9 ee dc >>= fun ex =>
   if (kH+fz.toNat)<aa.length then
   some (.inl (R (fz+(1:Int)),aa.set (kH+fz.toNat) ex))
   else none
   else none
  else
   some (.inl (R (fz+(1:Int)),aa))
  else none
 else
  some (.inr aa)
def H8 (kH lE hM ef:Nat)(gS:Int)(ap:List aK)(jQ:Bool)(jN jL:List Int)(fz:Int)(aa:List aK):Option ((List aK)):=iter (fun w:Int×(List aK)=>wk kH lE hM ef gS ap jQ jN jL w.1 w.2) (fz,aa)
theorem TQ {kH lE hM ef:Nat}{gS:Int}{ap:List aK}{jQ:Bool}{jN jL:List Int}{fz:Int}{aa:List aK}:bw (wk kH lE hM ef gS ap jQ jN jL fz aa) (dO a6 44 2 100 [1,1,1,1,0,0] (Gi kH lE hM ef gS ap jQ jN jL (fz,aa)) (Gi kH lE hM ef gS ap jQ jN jL) (MI kH lE hM ef gS ap jQ jN jL)):=by
 unfold wk
 exact .ite (fun h1 =>
  .aX fun h2 =>
  .ar fun aC au =>
  .ar fun aZ aW =>
  (let t1:List bW:=[(I 1),.U true,(I 2),.aw (ag 3 (ak (.b2 (aM aC)) (ak (bn 1 (.n .i64 aZ) true) (ag 1 []))))];
  have aS:=((.dS h1 h2.1 h2.2 (bT aM au) (sH aZ aW) (b3.n .i64 aZ)):cn _);
  .ite (fun a7 =>
  .aX fun bi =>
  .ar fun ee cO =>
  .ar fun dc eX =>
  .ar fun ex ew =>
  .aX fun fP =>
  .ret (bf (t1.append [.U true,.aw (ag 5 (ak (.b2 (aM ee)) (ag 4 (ak (.b2 (aM aC)) (ak (bn 2 (.agg (aM dc)) false) (ak (bn 2 (.agg (aM ex)) false) (ag 1 (ak .fM [])))))))),(I 2),.aL [0,1,2] [.cy (ae 3 aM (aa.set (kH+fz.toNat) ex)),.pure,.box [.id,.id,.id]] (a8 [0,1,7,19,20])]) (aS.aH (.bg a7 bi.1 bi.2 (bT aM cO) h2.1 h2.2 (bT aM au) (NI dc eX) (.gM (C6 ex ew) bi.1 bi.2 (hB aM fP) (hx 3) (cZ 3 .live (gF (cW aM aa) (kH+fz.toNat) ex)) (aI 3 .live eM (aa.set (kH+fz.toNat) ex)) (aI 3 .live eM ap))))))
  (fun a7 =>
  .ret (bf (t1.append [.U false,(I 2),.aL [0,1,2] [.pure,.pure,.box [.id,.id,.id]] (a8 [0,1,7,19,20])]) (aS.aH (.bR a7 (aI 3 .live eM aa) (aI 3 .live eM ap)))))))
  (fun h1 =>
  .ret (bf [(I 1),.U false,.aL [0,1] [.pure,.pure] []] (.bR h1 (aI 3 .live eM aa) (aI 3 .live eM ap))))
theorem Vf {kH lE hM ef:Nat}{gS:Int}{ap:List aK}{jQ:Bool}{jN jL:List Int}{fz:Int}{aa:List aK}{r} (h:H8 kH lE hM ef gS ap jQ jN jL fz aa=some r):dP a6 44 2 100 [1,1,1,1,0,0] (Gi kH lE hM ef gS ap jQ jN jL) (MI kH lE hM ef gS ap jQ jN jL) (fz,aa) r:=dQ (fun _=>TQ) h
def zn (bq:Int)(kH lE hM ef:Nat)(fD fb:List aK):Option (List aK) :=
 if 0≤bq∧bq<(lE:Nat) then
 fD[(kH+bq.toNat)]? >>= fun x2 =>
 pO x2 >>= fun bh =>
 if (bh == (0:Int))=true then
  some fD
 else
  ur x2 >>= fun ck =>
  H8 kH lE hM ef ((lE:Nat):Int) fb ck.fl.cQ ck.fl.cA ck.ho 0 fD >>= fun b6 =>
  some b6
 else none
theorem VW {bq:Int}{kH lE hM ef:Nat}{fD fb:List aK}:bw (zn bq kH lE hM ef fD fb) (fun a=>Con a6 100 (RY 0 0 kH lE 1 0 hM ef bq) [(ae 3 aM fD),(ae 3 aM fb)] (.dX []) [(ae 3 aM a),(ae 3 aM fb)]):=by
 unfold zn
 exact .aX fun h1 =>
  .ar fun x2 ab =>
  .ar fun bh aA =>
  (let t1:List bW:=[.aw (bp 3 (.b2 (aM x2)) 2),.aw (bp 1 (bn 1 (.n .i64 bh) true) 1)];
  have aS:=((.dh h1.1 h1.2 (bT aM ab) (sH bh aA) (b3.n .i64 bh)):cn _);
  .ite (fun aW =>
  .ret (lU (t1.append [.U true]) [0,1] [.pure,.pure] (aS.aH (.bR aW (aI 3 .live eM fD) (aI 3 .live eM fb)))))
  (fun aW =>
  .ar fun ck bi =>
  .ar fun b6 cO =>
  .ret (lU (t1.append [.U false,.aw (bp 1 (bn 1 (.agg (aM ck)) false) 2),(I 3),.aL [0,1,13] [.pure,.pure,.box [.id,.id,.id]] (a8 [0,1,7,19,20]),.sub (.exit 0) [] [(ae 3 aM b6),(ae 3 aM fb)]]) [0,1] [.pure,.pure] (aS.aH (.eF aW (NH ck bi) (aI 3 .live eM fD) (aI 3 .live eM fb) (Vf cO) (aI 3 .live eM b6) (aI 3 .live eM fb))))))
def F2 (hM ef:Nat)(gS:Int)(ap:List aK)(jQ:Bool)(jN jL:List Int):(Int×(List aK))→S:=fun (fz,aa)=>dm [(0,.bj 0 0 0 aa.length),(1,.bj 1 0 hM ef),(7,.ref 2 0 0 0),(19,.n .i64 gS),(20,.n .i64 fz)] [(ae 3 aM aa),(ae 3 aM ap),[ad.mk 3 [[.b jQ,.isl 1 (jN.map eI),.isl 1 (jL.map eI)]] .live]]
def MD (hM ef:Nat)(gS:Int)(ap:List aK)(jQ:Bool)(jN jL:List Int):(List aK)→dp
 | a=>⟨some 0,[],[(ae 3 aM a),(ae 3 aM ap)]⟩
def v9 (hM ef:Nat)(gS:Int)(ap:List aK)(jQ:Bool)(jN jL:List Int)(fz:Int)(aa:List aK):Option ((Int×(List aK))⊕((List aK))) :=
 if (decide (fz<gS))=true then
  if 0≤fz∧fz<(ef:Nat) then
  ap[(hM+fz.toNat)]? >>= fun aC =>
  pO aC >>= fun aZ =>
  if (aZ != (0:Int))=true then
   if 0≤fz∧fz<(aa.length:Nat) then
   aa[(0+fz.toNat)]? >>= fun ee =>
   sM (⟨(⟨jQ,jN⟩:bm),jL⟩:aK) aC >>= fun dc =>
   q9 ee dc >>= fun ex =>
   if (0+fz.toNat)<aa.length then
   some (.inl (R (fz+(1:Int)),aa.set (0+fz.toNat) ex))
   else none
   else none
  else
   some (.inl (R (fz+(1:Int)),aa))
  else none
 else
  some (.inr aa)
def HG (hM ef:Nat)(gS:Int)(ap:List aK)(jQ:Bool)(jN jL:List Int)(fz:Int)(aa:List aK):Option ((List aK)):=iter (fun w:Int×(List aK)=>v9 hM ef gS ap jQ jN jL w.1 w.2) (fz,aa)
theorem TE {hM ef:Nat}{gS:Int}{ap:List aK}{jQ:Bool}{jN jL:List Int}{fz:Int}{aa:List aK}:bw (v9 hM ef gS ap jQ jN jL fz aa) (dO a6 44 2 100 [1,1,1,1,0,0] (F2 hM ef gS ap jQ jN jL (fz,aa)) (F2 hM ef gS ap jQ jN jL) (MD hM ef gS ap jQ jN jL)):=by
 unfold v9
 exact .ite (fun h1 =>
  .aX fun h2 =>
  .ar fun aC au =>
  .ar fun aZ aW =>
  (let t1:List bW:=[(I 1),.U true,(I 2),.aw (ag 3 (ak (.b2 (aM aC)) (ak (bn 1 (.n .i64 aZ) true) (ag 1 []))))];
  have aS:=((.dS h1 h2.1 h2.2 (bT aM au) (sH aZ aW) (b3.n .i64 aZ)):cn _);
  .ite (fun a7 =>
  .aX fun bi =>
  .ar fun ee cO =>
  .ar fun dc eX =>
  .ar fun ex ew =>
  .aX fun fP =>
  .ret (bf (t1.append [.U true,.aw (ag 5 (ak (.b2 (aM ee)) (ag 4 (ak (.b2 (aM aC)) (ak (bn 2 (.agg (aM dc)) false) (ak (bn 2 (.agg (aM ex)) false) (ag 1 (ak .fM [])))))))),(I 2),.aL [0,1,2] [.cy (ae 3 aM (aa.set (0+fz.toNat) ex)),.pure,.box [.id,.id,.id]] [(0,fY ((aa.set (0+fz.toNat) ex).length)),(1,ii),(7,ii),(19,ii),(20,ii)]]) (aS.aH (.bg a7 bi.1 bi.2 (bT aM cO) h2.1 h2.2 (bT aM au) (NI dc eX) (.bg (C6 ex ew) bi.1 bi.2 (hB aM fP) (hx 3) (cZ 3 .live (gF (cW aM aa) (0+fz.toNat) ex)) (aI 3 .live eM (aa.set (0+fz.toNat) ex)) (aI 3 .live eM ap) (.e1 (hS (dH aa) (0+fz.toNat) ex)))))))
  (fun a7 =>
  .ret (bf (t1.append [.U false,(I 2),.aL [0,1,2] [.pure,.pure,.box [.id,.id,.id]] (a8 [0,1,7,19,20])]) (aS.aH (.bR a7 (aI 3 .live eM aa) (aI 3 .live eM ap)))))))
  (fun h1 =>
  .ret (bf [(I 1),.U false,.aL [0,1] [.pure,.pure] []] (.bR h1 (aI 3 .live eM aa) (aI 3 .live eM ap))))
theorem UX {hM ef:Nat}{gS:Int}{ap:List aK}{jQ:Bool}{jN jL:List Int}{fz:Int}{aa:List aK}{r} (h:HG hM ef gS ap jQ jN jL fz aa=some r):dP a6 44 2 100 [1,1,1,1,0,0] (F2 hM ef gS ap jQ jN jL) (MD hM ef gS ap jQ jN jL) (fz,aa) r:=dQ (fun _=>TE) h
def zi (bq:Int)(hM ef:Nat)(fD fb:List aK):Option (List aK) :=
 if 0≤bq∧bq<(fD.length:Nat) then
 fD[(0+bq.toNat)]? >>= fun x2 =>
 pO x2 >>= fun bh =>
 if (bh == (0:Int))=true then
  some fD
 else
  ur x2 >>= fun ck =>
  HG hM ef ((fD.length:Nat):Int) fb ck.fl.cQ ck.fl.cA ck.ho 0 fD >>= fun b6 =>
  some b6
 else none
theorem VE {bq:Int}{hM ef:Nat}{fD fb:List aK}:bw (zi bq hM ef fD fb) (fun a=>Con a6 100 (RY 0 0 0 fD.length 1 0 hM ef bq) [(ae 3 aM fD),(ae 3 aM fb)] (.dX []) [(ae 3 aM a),(ae 3 aM fb)]):=by
 unfold zi
 exact .aX fun h1 =>
  .ar fun x2 ab =>
  .ar fun bh aA =>
  (let t1:List bW:=[.aw (bp 3 (.b2 (aM x2)) 2),.aw (bp 1 (bn 1 (.n .i64 bh) true) 1)];
  have aS:=((.dh h1.1 h1.2 (bT aM ab) (sH bh aA) (b3.n .i64 bh)):cn _);
  .ite (fun aW =>
  .ret (lU (t1.append [.U true]) [0,1] [.pure,.pure] (aS.aH (.bR aW (aI 3 .live eM fD) (aI 3 .live eM fb)))))
  (fun aW =>
  .ar fun ck bi =>
  .ar fun b6 cO =>
  .ret (lU (t1.append [.U false,.aw (bp 1 (bn 1 (.agg (aM ck)) false) 2),(I 3),.aL [0,1,13] [.pure,.pure,.box [.id,.id,.id]] (a8 [0,1,7,19,20]),.sub (.exit 0) [] [(ae 3 aM b6),(ae 3 aM fb)]]) [0,1] [.pure,.pure] (aS.aH (.eF aW (NH ck bi) (aI 3 .live eM fD) (aI 3 .live eM fb) (UX cO) (aI 3 .live eM b6) (aI 3 .live eM fb))))))
def Gj (bU bq dd ec:Int)(cc:List bu)(cC:List Int)(cD:List aK)(bH:Bool)(dI gO:List Int):(Int×(List (List aK)))→S:=fun (de,db)=>dm [(0,.ref 0 0 0 0),(1,.n .i64 bU),(2,.n .i64 bq),(6,.ref 1 0 0 0),(26,.n .i64 dd),(27,.n .i64 de)] [(ad.mk 4 [(gq ec 0 1 0 cc.length 0 2 0 cC.length 0 3 0 cD.length)] .live::ad.mk 1 (cc.map (bk 0 4 3)) .live::ad.mk 1 (cC.map eI) .live::ad.mk 3 (cD.map aM) .live::(b5 3 aM db)),[ad.mk 3 [[.b bH,.isl 1 (dI.map eI),.isl 1 (gO.map eI)]] .live]]
def Gy (bU bq dd ec:Int)(cc:List bu)(cC:List Int)(cD:List aK)(bH:Bool)(dI gO:List Int):(List (List aK))→dp
 | a=>⟨some 0,[(0,.ref 0 0 0 0),(1,.n .i64 bU),(2,.n .i64 bq)],[(ad.mk 4 [(gq ec 0 1 0 cc.length 0 2 0 cC.length 0 3 0 cD.length)] .live::ad.mk 1 (cc.map (bk 0 4 3)) .live::ad.mk 1 (cC.map eI) .live::ad.mk 3 (cD.map aM) .live::(b5 3 aM a))]⟩
def wm (bU bq dd ec:Int)(cc:List bu)(cC:List Int)(cD:List aK)(bH:Bool)(dI gO:List Int)(de:Int)(db:List (List aK)):Option ((Int×(List (List aK)))⊕((List (List aK)))) :=
 if (decide (de<dd))=true then
  if 0≤bU∧bU<(cc.length:Nat) then
  cc[(0+bU.toNat)]? >>= fun aC =>
  aC >>= fun lC =>
  db[lC.1]? >>= fun iz =>
  if 0≤de∧de<(lC.2:Nat) then
  iz[(0+de.toNat)]? >>= fun iO =>
  uo iO (⟨(⟨bH,dI⟩:bm),gO⟩:aK) >>= fun dR =>
  some (.inl (R (de+(1:Int)),db.set lC.1 (iz.set (0+de.toNat) dR)))
  else none
  else none
 else
  some (.inr db)
def H9 (bU bq dd ec:Int)(cc:List bu)(cC:List Int)(cD:List aK)(bH:Bool)(dI gO:List Int)(de:Int)(db:List (List aK)):Option ((List (List aK))):=iter (fun w:Int×(List (List aK))=>wm bU bq dd ec cc cC cD bH dI gO w.1 w.2) (de,db)
theorem TR {bU bq dd ec:Int}{cc:List bu}{cC:List Int}{cD:List aK}{bH:Bool}{dI gO:List Int}{de:Int}{db:List (List aK)}:bw (wm bU bq dd ec cc cC cD bH dI gO de db) (dO a6 100 1 78 [1,0,1,0,0] (Gj bU bq dd ec cc cC cD bH dI gO (de,db)) (Gj bU bq dd ec cc cC cD bH dI gO) (Gy bU bq dd ec cc cC cD bH dI gO)):=by
 unfold wm
 exact .ite (fun h1 =>
  .aX fun h2 =>
  .ar fun aC au =>
  .ar fun lC aW =>
  .ar fun iz bi =>
  .aX fun cg =>
  .ar fun iO eH =>
  .ar fun dR ev =>
  .ret (let q1:=gq ec 0 1 0 cc.length 0 2 0 cC.length 0 3 0 cD.length;let q2:=jX (gd .live 3 aM db) i5 bi;let bL:=cF [0,1];bf [(I 1),.U true,(I 2),.aw (ag 6 (ak (.b2 ((bk 0 4 3) aC)) (ag 7 (ak (.b2 ((bk 0 4 3) aC)) (ag 1 (ak (.kf 44 (.bj 0 (lC.1+4) 0 lC.2) (.gf (ad.mk 3 (iz.map aM) .live) [])) (ak (.gf (ad.mk 3 (iz.map aM) .live) (aM iO)) (ag 1 (ak (bn 2 (.agg (aM dR)) false) (ak (.kf 36 (.bj 0 (lC.1+4) 0 lC.2) (.gf (ad.mk 3 (iz.map aM) .live) [])) (ak (.gf (ad.mk 3 (iz.map aM) .live) (aM iO)) []))))))))))),(I 2),.aL [0,1] [.bF (ad.mk 4 [q1] .live::ad.mk 1 (cc.map (bk 0 4 3)) .live::ad.mk 1 (cC.map eI) .live::ad.mk 3 (cD.map aM) .live::(b5 3 aM (db.set lC.1 (iz.set (0+de.toNat) dR)))),.box [.id,.id,.id]] (a8 [0,1,2,6,26,27])] (.bg h1 h2.1 h2.2 (bT (bk 0 4 3) au) h2.1 h2.2 (bT (bk 0 4 3) au) (l1 (dN:=0) (c:=4) (sz:=3) aW) (.bg q2 cg.1 cg.2 q2 (bT aM eH) (NF dR ev) (l1 (dN:=0) (c:=4) (sz:=3) aW) q2 (.dh cg.1 cg.2 q2 (bT aM eH) (c4 (show ad.mk 4 [q1] .live=gE bL (ad.mk 4 [q1] .live) from rfl) (c4 (kY bL 0 0 4 3 rfl cc) (c4 (fV bL 1 kz cC) (c4 (fV bL 3 fe cD) (m4 (b7:=bL) (o0 (gd .live 3 aM db) lC.1 (qp (cW aM iz) (0+de.toNat) dR (rfl:(setCells (aM iO) 0 (aM dR))=aM dR))) (mj fe)))))))))))
  (fun h1 =>
  .ret (let bZ:=gq ec 0 1 0 cc.length 0 2 0 cC.length 0 3 0 cD.length;let cH:=cF [0];bf [(I 1),.U false,.aL [0] [.bF (ad.mk 4 [bZ] .live::ad.mk 1 (cc.map (bk 0 4 3)) .live::ad.mk 1 (cC.map eI) .live::ad.mk 3 (cD.map aM) .live::(b5 3 aM db))] (a8 [0,1,2])] (.e2 h1 (c4 (show ad.mk 4 [bZ] .live=gE cH (ad.mk 4 [bZ] .live) from rfl) (c4 (kY cH 0 0 4 3 rfl cc) (c4 (fV cH 1 kz cC) (c4 (fV cH 3 fe cD) (dB cH 3 fe db))))))))
theorem Vg {bU bq dd ec:Int}{cc:List bu}{cC:List Int}{cD:List aK}{bH:Bool}{dI gO:List Int}{de:Int}{db:List (List aK)}{r} (h:H9 bU bq dd ec cc cC cD bH dI gO de db=some r):dP a6 100 1 78 [1,0,1,0,0] (Gj bU bq dd ec cc cC cD bH dI gO) (Gy bU bq dd ec cc cC cD bH dI gO) (de,db) r:=dQ (fun _=>TR) h
def Gk (bU bq oD ec:Int)(cc:List bu)(cC:List Int)(cD:List aK):(Int×(List (List aK)))→S:=fun (nv,db)=>dm [(0,.ref 0 0 0 0),(1,.n .i64 bU),(2,.n .i64 bq),(56,.n .i64 oD),(57,.n .i64 nv)] [(ad.mk 4 [(gq ec 0 1 0 cc.length 0 2 0 cC.length 0 3 0 cD.length)] .live::ad.mk 1 (cc.map (bk 0 4 3)) .live::ad.mk 1 (cC.map eI) .live::ad.mk 3 (cD.map aM) .live::(b5 3 aM db))]
def Gz (bU bq oD ec:Int)(cc:List bu)(cC:List Int)(cD:List aK):(List (List aK))→dp
 | a=>⟨some 2,[(0,.ref 0 0 0 0),(1,.n .i64 bU),(2,.n .i64 bq)],[(ad.mk 4 [(gq ec 0 1 0 cc.length 0 2 0 cC.length 0 3 0 cD.length)] .live::ad.mk 1 (cc.map (bk 0 4 3)) .live::ad.mk 1 (cC.map eI) .live::ad.mk 3 (cD.map aM) .live::(b5 3 aM a))]⟩
def wo (bU bq oD ec:Int)(cc:List bu)(cC:List Int)(cD:List aK)(nv:Int)(db:List (List aK)):Option ((Int×(List (List aK)))⊕((List (List aK)))) :=
 if (decide (nv<oD))=true then
  if (nv != bU)=true then
   if 0≤nv∧nv<(cc.length:Nat) then
   cc[(0+nv.toNat)]? >>= fun fT =>
   if 0≤bU∧bU<(cc.length:Nat) then
   cc[(0+bU.toNat)]? >>= fun fi =>
   fT >>= fun lX =>
   fi >>= fun od =>
   db[lX.1]? >>= fun lf =>
   db[od.1]? >>= fun kb =>
   if (lX.1+4)≠(od.1+4) then
   zn bq 0 lX.2 0 od.2 lf kb >>= fun e7 =>
   some (.inl (R (nv+(1:Int)),(db.set lX.1 e7).set od.1 kb))
   else none
   else none
   else none
  else
   some (.inl (R (nv+(1:Int)),db))
 else
  some (.inr db)
def Ia (bU bq oD ec:Int)(cc:List bu)(cC:List Int)(cD:List aK)(nv:Int)(db:List (List aK)):Option ((List (List aK))):=iter (fun w:Int×(List (List aK))=>wo bU bq oD ec cc cC cD w.1 w.2) (nv,db)
theorem TS {bU bq oD ec:Int}{cc:List bu}{cC:List Int}{cD:List aK}{nv:Int}{db:List (List aK)}:bw (wo bU bq oD ec cc cC cD nv db) (dO a6 100 1 78 [1,1,0,1,0,0] (Gk bU bq oD ec cc cC cD (nv,db)) (Gk bU bq oD ec cc cC cD) (Gz bU bq oD ec cc cC cD)):=by
 unfold wo
 exact .ite (fun h1 =>
  (let t1:List bW:=[(I 1),.U true,(I 2),(I 3)];
  .ite (fun h2 =>
  .aX fun ab =>
  .ar fun fT aA =>
  .aX fun aW =>
  .ar fun fi bi =>
  .ar fun lX cO =>
  .ar fun od eX =>
  .ar fun lf ew =>
  .ar fun kb hR =>
  .aX fun hp =>
  .ar fun e7 gv =>
  .ret (let q1:=gq ec 0 1 0 cc.length 0 2 0 cC.length 0 3 0 cD.length;let q2:=cF [0];bf (t1.append [.U true,.aw (ag 6 (ak (.b2 ((bk 0 4 3) fT)) (ag 6 (ak (.b2 ((bk 0 4 3) fi)) (ag 1 (ak (.kf 69 (.bj 0 (lX.1+4) 0 lX.2) (.kf 76 (.bj 0 (od.1+4) 0 od.2) (.call {aY:=[.al 0 (lX.1+4) (ad.mk 3 (lf.map aM) .live),.al 0 (od.1+4) (ad.mk 3 (kb.map aM) .live)],dl:=[.pure,.pure],ac:=[.br (.da (.at_ 0 0 lX.2)),.br (.da (.at_ 1 0 od.2)),ii],r:= .dX [],fm:=[(ae 3 aM e7),(ae 3 aM kb)],hI:=ii,jU:=[.pure,.pure],fB:=[0],fu:=false}))) [])))))),(I 2),.aL [0] [.bF (ad.mk 4 [q1] .live::ad.mk 1 (cc.map (bk 0 4 3)) .live::ad.mk 1 (cC.map eI) .live::ad.mk 3 (cD.map aM) .live::(b5 3 aM ((db.set lX.1 e7).set od.1 kb)))] (a8 [0,1,2,56,57])]) (.bg h1 h2 ab.1 ab.2 (bT (bk 0 4 3) aA) aW.1 aW.2 (bT (bk 0 4 3) bi) (.bg (l1 (dN:=0) (c:=4) (sz:=3) cO) (l1 (dN:=0) (c:=4) (sz:=3) eX) hp (rfl:la [.al 0 (lX.1+4) (ad.mk 3 (lf.map aM) .live),.al 0 (od.1+4) (ad.mk 3 (kb.map aM) .live)] 0 0=some (0,(lX.1+4))) (rfl:lX.2=lX.2) (rfl:la [.al 0 (lX.1+4) (ad.mk 3 (lf.map aM) .live),.al 0 (od.1+4) (ad.mk 3 (kb.map aM) .live)] 1 0=some (0,(od.1+4))) (rfl:od.2=od.2) (jX (gd .live 3 aM db) i5 ew) (.eF (hK 3 eM lf) (jX (gd .live 3 aM db) i5 hR) (hK 3 eM kb) (hK 3 eM e7) (hK 3 eM kb) (VW e7 gv) (c4 (show ad.mk 4 [q1] .live=gE q2 (ad.mk 4 [q1] .live) from rfl) (c4 (kY q2 0 0 4 3 rfl cc) (c4 (fV q2 1 kz cC) (c4 (fV q2 3 fe cD) (m4 (b7:=q2) (o0 (o0 (gd .live 3 aM db) lX.1 (cW aM e7)) od.1 (cW aM kb)) (mj fe)))))))))))
  (fun h2 =>
  .ret (let bL:=gq ec 0 1 0 cc.length 0 2 0 cC.length 0 3 0 cD.length;let bZ:=cF [0];bf (t1.append [.U false,(I 2),.aL [0] [.bF (ad.mk 4 [bL] .live::ad.mk 1 (cc.map (bk 0 4 3)) .live::ad.mk 1 (cC.map eI) .live::ad.mk 3 (cD.map aM) .live::(b5 3 aM db))] (a8 [0,1,2,56,57])]) (.bR h1 h2 (c4 (show ad.mk 4 [bL] .live=gE bZ (ad.mk 4 [bL] .live) from rfl) (c4 (kY bZ 0 0 4 3 rfl cc) (c4 (fV bZ 1 kz cC) (c4 (fV bZ 3 fe cD) (dB bZ 3 fe db))))))))))
  (fun h1 =>
  .ret (let cH:=gq ec 0 1 0 cc.length 0 2 0 cC.length 0 3 0 cD.length;let d8:=cF [0];bf [(I 1),.U false,.aL [0] [.bF (ad.mk 4 [cH] .live::ad.mk 1 (cc.map (bk 0 4 3)) .live::ad.mk 1 (cC.map eI) .live::ad.mk 3 (cD.map aM) .live::(b5 3 aM db))] (a8 [0,1,2])] (.e2 h1 (c4 (show ad.mk 4 [cH] .live=gE d8 (ad.mk 4 [cH] .live) from rfl) (c4 (kY d8 0 0 4 3 rfl cc) (c4 (fV d8 1 kz cC) (c4 (fV d8 3 fe cD) (dB d8 3 fe db))))))))
theorem Vh {bU bq oD ec:Int}{cc:List bu}{cC:List Int}{cD:List aK}{nv:Int}{db:List (List aK)}{r} (h:Ia bU bq oD ec cc cC cD nv db=some r):dP a6 100 1 78 [1,1,0,1,0,0] (Gk bU bq oD ec cc cC cD) (Gz bU bq oD ec cc cC cD) (nv,db) r:=dQ (fun _=>TS) h
def zo (bU bq l5:Int)(ir:List bu)(jR:List Int)(jd:List aK)(oP:List (List aK)):Option ((List Int)×(List aK)×(List (List aK))) :=
 if 0≤bU∧bU<(ir.length:Nat) then
 ir[(0+bU.toNat)]? >>= fun x2 =>
 x2 >>= fun jz =>
 oP[jz.1]? >>= fun mX =>
 if 0≤bq∧bq<(jz.2:Nat) then
 mX[(0+bq.toNat)]? >>= fun ee =>
 H9 bU bq ((jz.2:Nat):Int) l5 ir jR jd ee.fl.cQ ee.fl.cA ee.ho 0 oP >>= fun dc =>
 Ia bU bq ((ir.length:Nat):Int) l5 ir jR jd 0 dc >>= fun ex =>
 ex[jz.1]? >>= fun kb =>
 if 3≠(jz.1+4) then
 zi bq 0 jz.2 jd kb >>= fun e7 =>
 if jd.length=e7.length then
 if 0≤bU∧bU<(jR.length:Nat) then
 if (0+bU.toNat)<jR.length then
 some (jR.set (0+bU.toNat) bq,e7,ex.set jz.1 kb)
 else none
 else none
 else none
 else none
 else none
 else none
theorem VX {bU bq l5:Int}{ir:List bu}{jR:List Int}{jd:List aK}{oP:List (List aK)}:bw (zo bU bq l5 ir jR jd oP) (fun a=>Con a6 78 [.ref 0 0 0 0,.n .i64 bU,.n .i64 bq] [(ad.mk 4 [(gq l5 0 1 0 ir.length 0 2 0 jR.length 0 3 0 jd.length)] .live::ad.mk 1 (ir.map (bk 0 4 3)) .live::ad.mk 1 (jR.map eI) .live::ad.mk 3 (jd.map aM) .live::(b5 3 aM oP))] (.dX []) [(ad.mk 4 [(gq l5 0 1 0 ir.length 0 2 0 a.1.length 0 3 0 a.2.1.length)] .live::ad.mk 1 (ir.map (bk 0 4 3)) .live::ad.mk 1 (a.1.map eI) .live::ad.mk 3 (a.2.1.map aM) .live::(b5 3 aM a.2.2))]):=by
 unfold zo
 exact .aX fun h1 =>
  .ar fun x2 ab =>
  .ar fun jz aA =>
  .ar fun mX a7 =>
  .aX fun bi =>
  .ar fun ee cO =>
  .ar fun dc eX =>
  .ar fun ex ew =>
  .ar fun kb hR =>
  .aX fun hp =>
  .ar fun e7 gv =>
  .aX fun fh =>
  .aX fun gK =>
  .aX fun iH =>
  .ret (let q1:=gq l5 0 1 0 ir.length 0 2 0 jR.length 0 3 0 jd.length;let q2:=gq l5 0 1 0 ir.length 0 2 0 ((jR.set (0+bU.toNat) bq).length) 0 3 0 e7.length;let bL:=jX (gd .live 3 aM oP) i5 a7;let bZ:=cF [0];let cH:=cF [0,11];let d8:=bT (bk 0 4 3) ab;let fK:=kY bZ 0 0 4 3 rfl ir;lU [.aw (ag 6 (ak (.b2 ((bk 0 4 3) x2)) (ag 1 (ak (.kf 15 (.bj 0 (jz.1+4) 0 jz.2) (.gf (ad.mk 3 (mX.map aM) .live) [])) (ak (.gf (ad.mk 3 (mX.map aM) .live) (aM ee)) (ag 2 [])))))),.aw (ag 6 (ak (.b2 ((bk 0 4 3) x2)) (ak (.kf 25 (.bj 0 (jz.1+4) 0 jz.2) (.gf (ad.mk 3 (mX.map aM) .live) [])) (ag 1 [])))),.aL [0,11] [.bF (ad.mk 4 [q1] .live::ad.mk 1 (ir.map (bk 0 4 3)) .live::ad.mk 1 (jR.map eI) .live::ad.mk 3 (jd.map aM) .live::(b5 3 aM oP)),.box [.id,.id,.id]] (a8 [0,1,2,6,26,27]),(Gy bU bq ((jz.2:Nat):Int) l5 ir jR jd ee.fl.cQ ee.fl.cA ee.ho dc).e8,(I 6),.aL [0] [.bF (ad.mk 4 [q1] .live::ad.mk 1 (ir.map (bk 0 4 3)) .live::ad.mk 1 (jR.map eI) .live::ad.mk 3 (jd.map aM) .live::(b5 3 aM dc))] (a8 [0,1,2,56,57]),(Gz bU bq ((ir.length:Nat):Int) l5 ir jR jd ex).e8,.aw (ag 10 (ak (.b2 ((bk 0 4 3) x2)) (ag 1 (ak (.kf 90 (.bj 0 (jz.1+4) 0 jz.2) (.call {aY:=[.al 0 3 (ad.mk 3 (jd.map aM) .live),.al 0 (jz.1+4) (ad.mk 3 (kb.map aM) .live)],dl:=[.pure,.pure],ac:=[.br (.da (.at_ 0 0 jd.length)),.br (.da (.at_ 1 0 jz.2)),ii],r:= .dX [],fm:=[(ae 3 aM e7),(ae 3 aM kb)],hI:=ii,jU:=[.pure,.pure],fB:=[0],fu:=false})) [])))),.aw (ag 7 (ak .fM []))] [0] [.bF (ad.mk 4 [q2] .live::ad.mk 1 (ir.map (bk 0 4 3)) .live::ad.mk 1 ((jR.set (0+bU.toNat) bq).map eI) .live::ad.mk 3 (e7.map aM) .live::(b5 3 aM (ex.set jz.1 kb)))] (.bg h1.1 h1.2 d8 (l1 (dN:=0) (c:=4) (sz:=3) aA) bL bi.1 bi.2 bL (.bg (bT aM cO) h1.1 h1.2 d8 (l1 (dN:=0) (c:=4) (sz:=3) aA) bL (c4 (show ad.mk 4 [q1] .live=gE cH (ad.mk 4 [q1] .live) from rfl) (c4 (kY cH 0 0 4 3 rfl ir) (c4 (fV cH 1 kz jR) (c4 (fV cH 3 fe jd) (dB cH 3 fe oP))))) (Vg eX) (.bg (c4 (show ad.mk 4 [q1] .live=gE bZ (ad.mk 4 [q1] .live) from rfl) (c4 fK (c4 (fV bZ 1 kz jR) (c4 (fV bZ 3 fe jd) (dB bZ 3 fe dc))))) (Vh ew) h1.1 h1.2 d8 (l1 (dN:=0) (c:=4) (sz:=3) aA) hp (rfl:la [.al 0 3 (ad.mk 3 (jd.map aM) .live),.al 0 (jz.1+4) (ad.mk 3 (kb.map aM) .live)] 0 0=some (0,3)) (.bg (rfl:jd.length=jd.length) (rfl:la [.al 0 3 (ad.mk 3 (jd.map aM) .live),.al 0 (jz.1+4) (ad.mk 3 (kb.map aM) .live)] 1 0=some (0,(jz.1+4))) (rfl:jz.2=jz.2) (rfl:di (some (ad.mk 4 [q1] .live::ad.mk 1 (ir.map (bk 0 4 3)) .live::ad.mk 1 (jR.map eI) .live::ad.mk 3 (jd.map aM) .live::(b5 3 aM ex))) 3=some (ad.mk 3 (jd.map aM) .live)) (hK 3 eM jd) (jX (gd .live 3 aM ex) i5 hR) (hK 3 eM kb) (hK 3 eM e7) (.eF (hK 3 eM kb) (VE e7 gv) gK.1 gK.2 (hB eI iH) (hx 1) (c4 (show ad.mk 4 [q2] .live=gE bZ (ad.mk 4 [q1] .live) from (Eq.trans (congrArg (fun Ci=>ad.mk 4 [(gq l5 0 1 0 ir.length 0 2 0 Ci 0 3 0 e7.length)] .live) (hS (dH jR) (0+bU.toNat) bq).symm) (congrArg (fun Ci=>ad.mk 4 [(gq l5 0 1 0 ir.length 0 2 0 jR.length 0 3 0 Ci)] .live) (Eq.trans (dH jd) fh).symm))) (c4 fK (c4 (ry (b7:=bZ) 1 .live eI (gF (cW eI jR) (0+bU.toNat) bq) (mj kz)) (c4 (fV bZ 3 fe e7) (m4 (b7:=bZ) (o0 (gd .live 3 aM ex) jz.1 (cW aM kb)) (mj fe))))))))))))
def GR (e3:Bool)(ec:Int)(cc:List bu)(cC:List Int)(cD:List aK)(db:List (List aK)):(Int×Int)→S:=fun (ot,bP)=>dm [(0,.ref 0 0 0 0),(1,.b e3),(5,.n .i64 ot),(6,.n .i64 bP)] [(ad.mk 4 [(gq ec 0 1 0 cc.length 0 2 0 cC.length 0 3 0 cD.length)] .live::ad.mk 1 (cc.map (bk 0 4 3)) .live::ad.mk 1 (cC.map eI) .live::ad.mk 3 (cD.map aM) .live::(b5 3 aM db))]
def G9 (e3:Bool)(ec:Int)(cc:List bu)(cC:List Int)(cD:List aK)(db:List (List aK)):Int→dp
 | a=>⟨some 2,[(0,.ref 0 0 0 0),(1,.b e3),(5,.n .i64 a)],[(ad.mk 4 [(gq ec 0 1 0 cc.length 0 2 0 cC.length 0 3 0 cD.length)] .live::ad.mk 1 (cc.map (bk 0 4 3)) .live::ad.mk 1 (cC.map eI) .live::ad.mk 3 (cD.map aM) .live::(b5 3 aM db))]⟩
def tR (e3:Bool)(ec:Int)(cc:List bu)(cC:List Int)(cD:List aK)(db:List (List aK))(ot bP:Int):Option ((Int×Int)⊕(Int)) :=
 if (decide (bP<ec))=true then
  if (decide (ot<(0:Int)))=true then
   if cc.all (qR db)=true then
   zG (⟨ec,cc.map (iv db),cC,cD⟩:ph) bP >>= fun bh =>
   if bh=true then
    some (.inl (ot,R (bP+(1:Int))))
   else
    uh (⟨ec,cc.map (iv db),cC,cD⟩:ph) bP e3 >>= fun ck =>
    if (decide ((0:Int)<ck))=true then
     some (.inl (bP,R (bP+(1:Int))))
    else
     some (.inl (ot,R (bP+(1:Int))))
   else none
  else
   some (.inr ot)
 else
  some (.inr ot)
def CU (e3:Bool)(ec:Int)(cc:List bu)(cC:List Int)(cD:List aK)(db:List (List aK))(ot bP:Int):Option (Int):=iter (fun w:Int×Int=>tR e3 ec cc cC cD db w.1 w.2) (ot,bP)
theorem Uj {e3:Bool}{ec:Int}{cc:List bu}{cC:List Int}{cD:List aK}{db:List (List aK)}{ot bP:Int}:bw (tR e3 ec cc cC cD db ot bP) (dO a6 43 1 48 [1,0,0,0,1,0,1,0,0] (GR e3 ec cc cC cD db (ot,bP)) (GR e3 ec cc cC cD db) (G9 e3 ec cc cC cD db)):=by
 unfold tR
 exact .ite (fun h1 =>
  .ite (fun h2 =>
  .aX fun ab =>
  .ar fun bh aA =>
  (let iI:=gq ec 0 1 0 cc.length 0 2 0 cC.length 0 3 0 cD.length;let t1:List bW:=[.aw (ag 9 (ak (.U true) [])),.U true];
  have aS:=((.bg h1 h1 h1 h2 (rfl:di (some (ad.mk 4 [iI] .live::ad.mk 1 (cc.map (bk 0 4 3)) .live::ad.mk 1 (cC.map eI) .live::ad.mk 3 (cD.map aM) .live::(b5 3 aM db))) 1=some (ad.mk 1 (cc.map (bk 0 4 3)) .live)) (rfl:_=true) (fv (bk 0 4 3) cc) (dv (nr (sz:=3) eM) (cc.map (iv db))) (.bg (uM (dN:=0) (jf:=[ad.mk 4 [iI] .live,ad.mk 1 (cc.map (bk 0 4 3)) .live,ad.mk 1 (cC.map eI) .live,ad.mk 3 (cD.map aM) .live]++(b5 3 aM db)) (b4:=kx) (sz:=1) (g:=(en 3 aM)) (cW (bk 0 4 3) cc) (fun _=>rfl) (fun x J=>(yA (dN:=0) (c:=4) (b4:=kx) (qC:=[ad.mk 4 [iI] .live,ad.mk 1 (cc.map (bk 0 4 3)) .live,ad.mk 1 (cC.map eI) .live,ad.mk 3 (cD.map aM) .live]) (gd .live 3 aM db) eM rfl i5 rfl (xV ab x J))) (dH cc)) (fW eI cC) (fv eI cC) (dv aO cC) (fW aM cD) (fv aM cD) (dv eM cD) (pS (I3 (⟨ec,cc.map (iv db),cC,cD⟩:ph)):jn [[.n .i64 ec,.isl 1 ((cc.map (iv db)).map (en 3 aM)),.isl 1 (cC.map eI),.isl 3 (cD.map aM)]]) (.e2 (WA bh aA) (b3.b bh)))):cn _);
  .ite (fun aW =>
  .ret (let q1:=gq ec 0 1 0 cc.length 0 2 0 cC.length 0 3 0 cD.length;let q2:=cF [0];bf (t1.append [.aw (ag 2 (ak (.call {ac:=[.br (.ptr [.id,.view 0 (ad.mk 1 (cc.map (bk 0 4 3)) .live) ((cc.map (iv db)).map (en 3 aM)),.eh (cC.map eI),.eh (cD.map aM)]),ii],r:= .b bh,fu:=true,fB:=[0]}) (ag 2 (cj 5 (ak (.U false) []))))),.U false,(I 3),.aL [0] [.bF (ad.mk 4 [q1] .live::ad.mk 1 (cc.map (bk 0 4 3)) .live::ad.mk 1 (cC.map eI) .live::ad.mk 3 (cD.map aM) .live::(b5 3 aM db))] (a8 [0,1,5,6])]) (aS.aH (.gM (cS aW) (cS aW) (cS aW) (cS aW) (cS aW) (cS aW) cz (c4 (show ad.mk 4 [q1] .live=gE q2 (ad.mk 4 [q1] .live) from rfl) (c4 (kY q2 0 0 4 3 rfl cc) (c4 (fV q2 1 kz cC) (c4 (fV q2 3 fe cD) (dB q2 3 fe db)))))))))
  (fun aW =>
  .ar fun ck bi =>
  (let jw:=gq ec 0 1 0 cc.length 0 2 0 cC.length 0 3 0 cD.length;let mo:=en 3 aM;let t3:List bW:=t1.append [.aw (ag 2 (ak (.call {ac:=[.br (.ptr [.id,.view 0 (ad.mk 1 (cc.map (bk 0 4 3)) .live) ((cc.map (iv db)).map mo),.eh (cC.map eI),.eh (cD.map aM)]),ii],r:= .b bh,fu:=true,fB:=[0]}) (ag 5 (ak (.call {ac:=[.br (.ptr [.id,.view 0 (ad.mk 1 (cc.map (bk 0 4 3)) .live) ((cc.map (iv db)).map mo),.eh (cC.map eI),.eh (cD.map aM)]),ii,ii],r:= .n .i64 ck,fu:=true,fB:=[0]}) (ag 1 (ak (.U true) []))))))];
  have eP:=aS.aH (.bg (cJ aW) (cJ aW) (cJ aW) (cJ aW) (rfl:di (some (ad.mk 4 [jw] .live::ad.mk 1 (cc.map (bk 0 4 3)) .live::ad.mk 1 (cC.map eI) .live::ad.mk 3 (cD.map aM) .live::(b5 3 aM db))) 1=some (ad.mk 1 (cc.map (bk 0 4 3)) .live)) (rfl:_=true) (fv (bk 0 4 3) cc) (dv (nr (sz:=3) eM) (cc.map (iv db))) (.bg (uM (dN:=0) (jf:=[ad.mk 4 [jw] .live,ad.mk 1 (cc.map (bk 0 4 3)) .live,ad.mk 1 (cC.map eI) .live,ad.mk 3 (cD.map aM) .live]++(b5 3 aM db)) (b4:=kx) (sz:=1) (g:=mo) (cW (bk 0 4 3) cc) (fun _=>rfl) (fun x J=>(yA (dN:=0) (c:=4) (b4:=kx) (qC:=[ad.mk 4 [jw] .live,ad.mk 1 (cc.map (bk 0 4 3)) .live,ad.mk 1 (cC.map eI) .live,ad.mk 3 (cD.map aM) .live]) (gd .live 3 aM db) eM rfl i5 rfl (xV ab x J))) (dH cc)) (fW eI cC) (fv eI cC) (dv aO cC) (fW aM cD) (fv aM cD) (dv eM cD) (pS (I3 (⟨ec,cc.map (iv db),cC,cD⟩:ph)):jn [[.n .i64 ec,.isl 1 ((cc.map (iv db)).map mo),.isl 1 (cC.map eI),.isl 3 (cD.map aM)]]) (.c7 (WY ck bi) (b3.n .i64 ck) (cJ aW) (cJ aW))));
  .ite (fun cg =>
  .ret (let bL:=gq ec 0 1 0 cc.length 0 2 0 cC.length 0 3 0 cD.length;let bZ:=cF [0];bf (t3.append [.U true,(I 2),(I 3),.aL [0] [.bF (ad.mk 4 [bL] .live::ad.mk 1 (cc.map (bk 0 4 3)) .live::ad.mk 1 (cC.map eI) .live::ad.mk 3 (cD.map aM) .live::(b5 3 aM db))] (a8 [0,1,5,6])]) (eP.aH (.e2 cg (c4 (show ad.mk 4 [bL] .live=gE bZ (ad.mk 4 [bL] .live) from rfl) (c4 (kY bZ 0 0 4 3 rfl cc) (c4 (fV bZ 1 kz cC) (c4 (fV bZ 3 fe cD) (dB bZ 3 fe db)))))))))
  (fun cg =>
  .ret (let cH:=gq ec 0 1 0 cc.length 0 2 0 cC.length 0 3 0 cD.length;let d8:=cF [0];bf (t3.append [.U false,(I 3),.aL [0] [.bF (ad.mk 4 [cH] .live::ad.mk 1 (cc.map (bk 0 4 3)) .live::ad.mk 1 (cC.map eI) .live::ad.mk 3 (cD.map aM) .live::(b5 3 aM db))] (a8 [0,1,5,6])]) (eP.aH (.e2 cg (c4 (show ad.mk 4 [cH] .live=gE d8 (ad.mk 4 [cH] .live) from rfl) (c4 (kY d8 0 0 4 3 rfl cc) (c4 (fV d8 1 kz cC) (c4 (fV d8 3 fe cD) (dB d8 3 fe db)))))))))))))
  (fun h2 =>
  .ret (let fK:=gq ec 0 1 0 cc.length 0 2 0 cC.length 0 3 0 cD.length;let eB:=cF [0];bf [.aw (ag 9 (ak (.U true) [])),.U false,.aL [0] [.bF (ad.mk 4 [fK] .live::ad.mk 1 (cc.map (bk 0 4 3)) .live::ad.mk 1 (cC.map eI) .live::ad.mk 3 (cD.map aM) .live::(b5 3 aM db))] (a8 [0,1,5])] (.dh h1 h1 h1 h2 (c4 (show ad.mk 4 [fK] .live=gE eB (ad.mk 4 [fK] .live) from rfl) (c4 (kY eB 0 0 4 3 rfl cc) (c4 (fV eB 1 kz cC) (c4 (fV eB 3 fe cD) (dB eB 3 fe db)))))))))
  (fun h1 =>
  .ret (let hD:=gq ec 0 1 0 cc.length 0 2 0 cC.length 0 3 0 cD.length;let jv:=cF [0];bf [.aw (ag 7 (cj 2 (ak (.U false) []))),.U false,.aL [0] [.bF (ad.mk 4 [hD] .live::ad.mk 1 (cc.map (bk 0 4 3)) .live::ad.mk 1 (cC.map eI) .live::ad.mk 3 (cD.map aM) .live::(b5 3 aM db))] (a8 [0,1,5])] (.dh h1 h1 h1 cz (c4 (show ad.mk 4 [hD] .live=gE jv (ad.mk 4 [hD] .live) from rfl) (c4 (kY jv 0 0 4 3 rfl cc) (c4 (fV jv 1 kz cC) (c4 (fV jv 3 fe cD) (dB jv 3 fe db))))))))
theorem VF {e3:Bool}{ec:Int}{cc:List bu}{cC:List Int}{cD:List aK}{db:List (List aK)}{ot bP:Int}{r} (h:CU e3 ec cc cC cD db ot bP=some r):dP a6 43 1 48 [1,0,0,0,1,0,1,0,0] (GR e3 ec cc cC cD db) (G9 e3 ec cc cC cD db) (ot,bP) r:=dQ (fun _=>Uj) h
def GS (e3:Bool)(ec:Int)(cc:List bu):((List Int)×(List aK)×(List (List aK)))→S:=fun (cC,cD,db)=>dm [(0,.ref 0 0 0 0),(1,.b e3)] [(ad.mk 4 [(gq ec 0 1 0 cc.length 0 2 0 cC.length 0 3 0 cD.length)] .live::ad.mk 1 (cc.map (bk 0 4 3)) .live::ad.mk 1 (cC.map eI) .live::ad.mk 3 (cD.map aM) .live::(b5 3 aM db))]
def Ha (e3:Bool)(ec:Int)(cc:List bu):(Bool×(List Int)×(List aK)×(List (List aK)))→dp
 | a=>⟨none,[(4,.b a.1)],[(ad.mk 4 [(gq ec 0 1 0 cc.length 0 2 0 a.2.1.length 0 3 0 a.2.2.1.length)] .live::ad.mk 1 (cc.map (bk 0 4 3)) .live::ad.mk 1 (a.2.1.map eI) .live::ad.mk 3 (a.2.2.1.map aM) .live::(b5 3 aM a.2.2.2))]⟩
def y5 (e3:Bool)(ec:Int)(cc:List bu)(cC:List Int)(cD:List aK)(db:List (List aK)):Option (((List Int)×(List aK)×(List (List aK)))⊕(Bool×(List Int)×(List aK)×(List (List aK)))) :=
 CU e3 ec cc cC cD db (-1) 0 >>= fun r1 =>
 if (decide (r1<(0:Int)))=true then
  some (.inr (true,cC,cD,db))
 else
  if cc.all (qR db)=true then
  zI (⟨ec,cc.map (iv db),cC,cD⟩:ph) r1 >>= fun aZ =>
  if (decide (aZ<(0:Int)))=true then
   some (.inr (false,cC,cD,db))
  else
   zo aZ r1 ec cc cC cD db >>= fun cm =>
   some (.inl (cm.1,cm.2.1,cm.2.2))
  else none
def II (e3:Bool)(ec:Int)(cc:List bu)(cC:List Int)(cD:List aK)(db:List (List aK)):Option (Bool×(List Int)×(List aK)×(List (List aK))):=iter (fun w:(List Int)×(List aK)×(List (List aK))=>y5 e3 ec cc w.1 w.2.1 w.2.2) (cC,cD,db)
theorem Uk {e3:Bool}{ec:Int}{cc:List bu}{cC:List Int}{cD:List aK}{db:List (List aK)}:bw (y5 e3 ec cc cC cD db) (dO a6 43 1 48 [1,0,0] (GS e3 ec cc (cC,cD,db)) (GS e3 ec cc) (Ha e3 ec cc)):=by
 unfold y5
 exact .ar fun r1 h2 =>
  (let jv:=gq ec 0 1 0 cc.length 0 2 0 cC.length 0 3 0 cD.length;let jw:=cF [0];let t1:List bW:=[(I 1),(I 1),.aL [0] [.bF (ad.mk 4 [jv] .live::ad.mk 1 (cc.map (bk 0 4 3)) .live::ad.mk 1 (cC.map eI) .live::ad.mk 3 (cD.map aM) .live::(b5 3 aM db))] (a8 [0,1,5,6]),(G9 e3 ec cc cC cD db r1).e8,(I 2)];
  have aS:=((.e2 (c4 (show ad.mk 4 [jv] .live=gE jw (ad.mk 4 [jv] .live) from rfl) (c4 (kY jw 0 0 4 3 rfl cc) (c4 (fV jw 1 kz cC) (c4 (fV jw 3 fe cD) (dB jw 3 fe db))))) (VF h2)):cn _);
  .ite (fun ab =>
  .ret (let q1:=gq ec 0 1 0 cc.length 0 2 0 cC.length 0 3 0 cD.length;let q2:=cF [0];bf (t1.append [.U true,(I 1),.aL [0] [.bF (ad.mk 4 [q1] .live::ad.mk 1 (cc.map (bk 0 4 3)) .live::ad.mk 1 (cC.map eI) .live::ad.mk 3 (cD.map aM) .live::(b5 3 aM db))] (a8 [4])]) (aS.aH (.e2 ab (c4 (show ad.mk 4 [q1] .live=gE q2 (ad.mk 4 [q1] .live) from rfl) (c4 (kY q2 0 0 4 3 rfl cc) (c4 (fV q2 1 kz cC) (c4 (fV q2 3 fe cD) (dB q2 3 fe db)))))))))
  (fun ab =>
  .aX fun au =>
  .ar fun aZ aW =>
  (let hD:=gq ec 0 1 0 cc.length 0 2 0 cC.length 0 3 0 cD.length;let t3:List bW:=t1.append [.U false,.aw (bp 2 (.call {ac:=[.br (.ptr [.id,.view 0 (ad.mk 1 (cc.map (bk 0 4 3)) .live) ((cc.map (iv db)).map (en 3 aM)),.eh (cC.map eI),.eh (cD.map aM)]),ii],r:= .n .i64 aZ,fu:=true,fB:=[0]}) 1),(I 2)];
  have eP:=aS.aH (.bg ab (rfl:di (some (ad.mk 4 [hD] .live::ad.mk 1 (cc.map (bk 0 4 3)) .live::ad.mk 1 (cC.map eI) .live::ad.mk 3 (cD.map aM) .live::(b5 3 aM db))) 1=some (ad.mk 1 (cc.map (bk 0 4 3)) .live)) (rfl:_=true) (fv (bk 0 4 3) cc) (dv (nr (sz:=3) eM) (cc.map (iv db))) (uM (dN:=0) (jf:=[ad.mk 4 [hD] .live,ad.mk 1 (cc.map (bk 0 4 3)) .live,ad.mk 1 (cC.map eI) .live,ad.mk 3 (cD.map aM) .live]++(b5 3 aM db)) (b4:=kx) (sz:=1) (g:=(en 3 aM)) (cW (bk 0 4 3) cc) (fun _=>rfl) (fun x J=>(yA (dN:=0) (c:=4) (b4:=kx) (qC:=[ad.mk 4 [hD] .live,ad.mk 1 (cc.map (bk 0 4 3)) .live,ad.mk 1 (cC.map eI) .live,ad.mk 3 (cD.map aM) .live]) (gd .live 3 aM db) eM rfl i5 rfl (xV au x J))) (dH cc)) (fW eI cC) (fv eI cC) (.eF (dv aO cC) (fW aM cD) (fv aM cD) (dv eM cD) (pS (I3 (⟨ec,cc.map (iv db),cC,cD⟩:ph)):jn [[.n .i64 ec,.isl 1 ((cc.map (iv db)).map (en 3 aM)),.isl 1 (cC.map eI),.isl 3 (cD.map aM)]]) (WC aZ aW) (b3.n .i64 aZ)));
  .ite (fun a7 =>
  .ret (let bL:=gq ec 0 1 0 cc.length 0 2 0 cC.length 0 3 0 cD.length;let bZ:=cF [0];bf (t3.append [.U true,(I 1),.aL [0] [.bF (ad.mk 4 [bL] .live::ad.mk 1 (cc.map (bk 0 4 3)) .live::ad.mk 1 (cC.map eI) .live::ad.mk 3 (cD.map aM) .live::(b5 3 aM db))] (a8 [4])]) (eP.aH (.e2 a7 (c4 (show ad.mk 4 [bL] .live=gE bZ (ad.mk 4 [bL] .live) from rfl) (c4 (kY bZ 0 0 4 3 rfl cc) (c4 (fV bZ 1 kz cC) (c4 (fV bZ 3 fe cD) (dB bZ 3 fe db)))))))))
  (fun a7 =>
  .ar fun cm cg =>
  .ret (let cH:=gq ec 0 1 0 cc.length 0 2 0 cm.1.length 0 3 0 cm.2.1.length;let d8:=gq ec 0 1 0 cc.length 0 2 0 cC.length 0 3 0 cD.length;let fK:=b5 3 aM cm.2.2;let eB:=cF [0];bf (t3.append [.U false,.aw (ag 3 (ak (.call {aY:=[.row 0],dl:=[.bF (ad.mk 4 [d8] .live::ad.mk 1 (cc.map (bk 0 4 3)) .live::ad.mk 1 (cC.map eI) .live::ad.mk 3 (cD.map aM) .live::(b5 3 aM db))],ac:=[ii,ii,ii],r:= .dX [],fm:=[(ad.mk 4 [cH] .live::ad.mk 1 (cc.map (bk 0 4 3)) .live::ad.mk 1 (cm.1.map eI) .live::ad.mk 3 (cm.2.1.map aM) .live::fK)],hI:=ii,jU:=[.bF (ad.mk 4 [cH] .live::ad.mk 1 (cc.map (bk 0 4 3)) .live::ad.mk 1 (cm.1.map eI) .live::ad.mk 3 (cm.2.1.map aM) .live::fK)],fB:=[0],fu:=false}) [])),.aL [0] [.bF (ad.mk 4 [cH] .live::ad.mk 1 (cc.map (bk 0 4 3)) .live::ad.mk 1 (cm.1.map eI) .live::ad.mk 3 (cm.2.1.map aM) .live::fK)] (a8 [0,1])]) (eP.aH (.eF a7 (c4 (show ad.mk 4 [d8] .live=gE (pa [0]) (ad.mk 4 [d8] .live) from rfl) (c4 (kY (pa [0]) 0 0 4 3 rfl cc) (c4 (fV (pa [0]) 1 kz cC) (c4 (fV (pa [0]) 3 fe cD) (dB (pa [0]) 3 fe db))))) ((jK rfl (jK rfl (jK rfl (jK rfl (ux (gd .live 3 aM db)))))):mi (ad.mk 4 [d8] .live::ad.mk 1 (cc.map (bk 0 4 3)) .live::ad.mk 1 (cC.map eI) .live::ad.mk 3 (cD.map aM) .live::(b5 3 aM db))) (c4 (show ad.mk 4 [cH] .live=gE (jJ [0]) (ad.mk 4 [cH] .live) from rfl) (c4 (kY (jJ [0]) 0 0 4 3 rfl cc) (c4 (fV (jJ [0]) 1 kz cm.1) (c4 (fV (jJ [0]) 3 fe cm.2.1) (dB (jJ [0]) 3 fe cm.2.2))))) ((jK rfl (jK rfl (jK rfl (jK rfl (ux (gd .live 3 aM cm.2.2)))))):mi (ad.mk 4 [cH] .live::ad.mk 1 (cc.map (bk 0 4 3)) .live::ad.mk 1 (cm.1.map eI) .live::ad.mk 3 (cm.2.1.map aM) .live::fK)) (VX cm cg) (c4 (show ad.mk 4 [cH] .live=gE eB (ad.mk 4 [cH] .live) from rfl) (c4 (kY eB 0 0 4 3 rfl cc) (c4 (fV eB 1 kz cm.1) (c4 (fV eB 3 fe cm.2.1) (dB eB 3 fe cm.2.2))))))))))))
theorem VG {e3:Bool}{ec:Int}{cc:List bu}{cC:List Int}{cD:List aK}{db:List (List aK)}{r} (h:II e3 ec cc cC cD db=some r):dP a6 43 1 48 [1,0,0] (GS e3 ec cc) (Ha e3 ec cc) (cC,cD,db) r:=dQ (fun _=>Uk) h
def xg (e3:Bool)(l5:Int)(ir:List bu)(jR:List Int)(jd:List aK)(oP:List (List aK)):Option (Bool×(List Int)×(List aK)×(List (List aK))) :=
 II e3 l5 ir jR jd oP >>= fun r1 =>
 some (r1.1,r1.2.1,r1.2.2.1,r1.2.2.2)
theorem WD {e3:Bool}{l5:Int}{ir:List bu}{jR:List Int}{jd:List aK}{oP:List (List aK)}:bw (xg e3 l5 ir jR jd oP) (fun a=>Con a6 48 [.ref 0 0 0 0,.b e3] [(ad.mk 4 [(gq l5 0 1 0 ir.length 0 2 0 jR.length 0 3 0 jd.length)] .live::ad.mk 1 (ir.map (bk 0 4 3)) .live::ad.mk 1 (jR.map eI) .live::ad.mk 3 (jd.map aM) .live::(b5 3 aM oP))] (.b a.1) [(ad.mk 4 [(gq l5 0 1 0 ir.length 0 2 0 a.2.1.length 0 3 0 a.2.2.1.length)] .live::ad.mk 1 (ir.map (bk 0 4 3)) .live::ad.mk 1 (a.2.1.map eI) .live::ad.mk 3 (a.2.2.1.map aM) .live::(b5 3 aM a.2.2.2))]):=by
 unfold xg
 exact .ar fun r1 h2 =>
  .ret (let q1:=gq l5 0 1 0 ir.length 0 2 0 r1.2.1.length 0 3 0 r1.2.2.1.length;let q2:=gq l5 0 1 0 ir.length 0 2 0 jR.length 0 3 0 jd.length;let bL:=cF [0];let bZ:=kY bL 0 0 4 3 rfl ir;lU [(I 1),.aL [0] [.bF (ad.mk 4 [q2] .live::ad.mk 1 (ir.map (bk 0 4 3)) .live::ad.mk 1 (jR.map eI) .live::ad.mk 3 (jd.map aM) .live::(b5 3 aM oP))] (a8 [0,1]),(Ha e3 l5 ir r1).e8] [0] [.bF (ad.mk 4 [q1] .live::ad.mk 1 (ir.map (bk 0 4 3)) .live::ad.mk 1 (r1.2.1.map eI) .live::ad.mk 3 (r1.2.2.1.map aM) .live::(b5 3 aM r1.2.2.2))] (.bR (c4 (show ad.mk 4 [q2] .live=gE bL (ad.mk 4 [q2] .live) from rfl) (c4 bZ (c4 (fV bL 1 kz jR) (c4 (fV bL 3 fe jd) (dB bL 3 fe oP))))) (VG h2) (c4 (show ad.mk 4 [q1] .live=gE bL (ad.mk 4 [q1] .live) from rfl) (c4 bZ (c4 (fV bL 1 kz r1.2.1) (c4 (fV bL 3 fe r1.2.2.1) (dB bL 3 fe r1.2.2.2)))))))
def ub (b8:hn):Option Bool :=
 zu b8 >>= fun r1 =>
 if r1=true then
  zm b8 >>= fun bh =>
  xg false bh.1 bh.2.1 bh.2.2.1 bh.2.2.2.1 bh.2.2.2.2 >>= fun bA =>
  if 0≤bh.1∧bh.1<(bA.2.2.1.length:Nat) then
  bA.2.2.1[(0+bh.1.toNat)]? >>= fun ee =>
  pO ee >>= fun dc =>
  some (dc == (0:Int))
  else none
 else
  some false
theorem VH {b8:hn}:bw (ub b8) (fun r=>Con a6 30 [.agg (nV b8)] [] (.b r) []):=by
 unfold ub
 exact .ar fun r1 h2 =>
  (let t1:List bW:=[(I 2),.aw (bp 1 (bn 1 (.b r1) true) 1)];
  have aS:=((.e2 (Wd r1 h2) (b3.b r1)):cn _);
  .ite (fun ab =>
  .ar fun bh aA =>
  .ar fun bA a7 =>
  .aX fun bi =>
  .ar fun ee cO =>
  .ar fun dc eX =>
  .ret (let q1:=gq bh.1 0 1 0 bh.2.1.length 0 2 0 bh.2.2.1.length 0 3 0 bh.2.2.2.1.length;let q2:=gq bh.1 6 1 0 bh.2.1.length 6 2 0 bh.2.2.1.length 6 3 0 bh.2.2.2.1.length;let bL:=gq bh.1 0 1 0 bh.2.1.length 0 2 0 bA.2.1.length 0 3 0 bA.2.2.1.length;let bZ:=b5 3 aM bh.2.2.2.2;let cH:=gq bh.1 6 1 0 bh.2.1.length 6 2 0 bA.2.1.length 6 3 0 bA.2.2.1.length;let d8:=b5 3 aM bA.2.2.2;let fK:=kY (jJ [6]) 6 0 4 3 rfl bh.2.1;bs (t1.append [.U false,.aw (bp 1 (.call {aY:=[],dl:=[],ac:=[ii],r:= .ref 0 0 0 0,fm:=[(ad.mk 4 [q1] .live::ad.mk 1 (bh.2.1.map (bk 0 4 3)) .live::ad.mk 1 (bh.2.2.1.map eI) .live::ad.mk 3 (bh.2.2.2.1.map aM) .live::bZ)],hI:=ii,jU:=[.bF (ad.mk 4 [q2] .live::ad.mk 1 (bh.2.1.map (bk 6 4 3)) .live::ad.mk 1 (bh.2.2.1.map eI) .live::ad.mk 3 (bh.2.2.2.1.map aM) .live::bZ)],fB:=[],fu:=false}) 1),.aw (ag 1 (ak (.call {aY:=[.row 6],dl:=[.bF (ad.mk 4 [q1] .live::ad.mk 1 (bh.2.1.map (bk 0 4 3)) .live::ad.mk 1 (bh.2.2.1.map eI) .live::ad.mk 3 (bh.2.2.2.1.map aM) .live::bZ)],ac:=[ii,ii],r:= .b bA.1,fm:=[(ad.mk 4 [bL] .live::ad.mk 1 (bh.2.1.map (bk 0 4 3)) .live::ad.mk 1 (bA.2.1.map eI) .live::ad.mk 3 (bA.2.2.1.map aM) .live::d8)],hI:=ii,jU:=[.bF (ad.mk 4 [cH] .live::ad.mk 1 (bh.2.1.map (bk 6 4 3)) .live::ad.mk 1 (bA.2.1.map eI) .live::ad.mk 3 (bA.2.2.1.map aM) .live::d8)],fB:=[6],fu:=false}) [])),.aw (ag 9 (ak (.b2 (aM ee)) (ak (bn 1 (.n .i64 dc) true) (ag 2 []))))]) (aS.aH (.bg (cS ab) (c4 (show ad.mk 4 [q2] .live=gE (jJ [6]) (ad.mk 4 [q1] .live) from rfl) (c4 fK (c4 (fV (jJ [6]) 1 kz bh.2.2.1) (c4 (fV (jJ [6]) 3 fe bh.2.2.2.1) (dB (jJ [6]) 3 fe bh.2.2.2.2))))) ((jK rfl (jK rfl (jK rfl (jK rfl (ux (gd .live 3 aM bh.2.2.2.2)))))):mi (ad.mk 4 [q1] .live::ad.mk 1 (bh.2.1.map (bk 0 4 3)) .live::ad.mk 1 (bh.2.2.1.map eI) .live::ad.mk 3 (bh.2.2.2.1.map aM) .live::bZ)) (VU bh aA) (c4 (show ad.mk 4 [q1] .live=gE (pa [6]) (ad.mk 4 [q2] .live) from rfl) (c4 (kY (pa [6]) 0 6 4 3 rfl bh.2.1) (c4 (fV (pa [6]) 1 kz bh.2.2.1) (c4 (fV (pa [6]) 3 fe bh.2.2.2.1) (dB (pa [6]) 3 fe bh.2.2.2.2))))) ((jK rfl (jK rfl (jK rfl (jK rfl (ux (gd .live 3 aM bh.2.2.2.2)))))):mi (ad.mk 4 [q2] .live::ad.mk 1 (bh.2.1.map (bk 6 4 3)) .live::ad.mk 1 (bh.2.2.1.map eI) .live::ad.mk 3 (bh.2.2.2.1.map aM) .live::bZ)) (c4 (show ad.mk 4 [cH] .live=gE (jJ [6]) (ad.mk 4 [bL] .live) from rfl) (c4 fK (c4 (fV (jJ [6]) 1 kz bA.2.1) (c4 (fV (jJ [6]) 3 fe bA.2.2.1) (dB (jJ [6]) 3 fe bA.2.2.2))))) ((jK rfl (jK rfl (jK rfl (jK rfl (ux (gd .live 3 aM bA.2.2.2)))))):mi (ad.mk 4 [bL] .live::ad.mk 1 (bh.2.1.map (bk 0 4 3)) .live::ad.mk 1 (bA.2.1.map eI) .live::ad.mk 3 (bA.2.2.1.map aM) .live::d8)) (.dS (WD bA a7) bi.1 bi.2 (bT aM cO) (sH dc eX) (b3.n .i64 dc))))))
  (fun ab =>
  .ret (bs (t1.append [.U true,(I 1)]) (aS.aH (.e1 (cJ ab))))))
def zJ (aF:ct)(cN:List Int):Option Bool :=
 sK aF cN >>= fun r1 =>
 if r1=true then
  ud aF cN >>= fun bh =>
  ub bh >>= fun bA =>
  some bA
 else
  some false
theorem WE {aF:ct}{cN:List Int}:bw (zJ aF cN) (fun r=>Con a6 15 [.agg (gA aF),.isl 1 (cN.map eI)] [] (.b r) []):=by
 unfold zJ
 exact .ar fun r1 h2 =>
  (have ae:=((.e2 (NB r1 h2) (b3.b r1)):cn _);
  .ite (fun ab =>
  .ar fun bh aA =>
  .ar fun bA a7 =>
  .ret (bs [(I 2),.aw (ag 2 (ak (bn 2 (.b r1) true) (ag 3 (ak (bn 2 (.agg (nV bh)) false) (ak (bn 1 (.b bA) true) (ak (.U true) (ag 1 [])))))))] (ae.aH (.gM ab ab ab (VS bh aA) ab (VH bA a7) (b3.b bA) ab))))
  (fun ab =>
  .ret (bs [(I 2),.aw (ag 2 (ak (bn 2 (.b r1) true) (ag 1 (cj 4 (ak (.U false) (ag 1 []))))))] (ae.aH (.dh ab ab ab ab ab)))))
def zp (aF:ct)(cN fS:List Int):Option Bool :=
 sK aF cN >>= fun r1 =>
 if r1=true then
  zA aF fS >>= fun bh =>
  if bh=true then
   wP aF fS >>= fun ck =>
   zJ ck cN >>= fun b6 =>
   some b6
  else
   some false
 else
  some false
theorem VY {aF:ct}{cN fS:List Int}:bw (zp aF cN fS) (fun r=>Con a6 5 [.agg (gA aF),.isl 1 (cN.map eI),.isl 1 (fS.map eI)] [] (.b r) []):=by
 unfold zp
 exact .ar fun r1 h2 =>
  (have ae:=((.e2 (NB r1 h2) (b3.b r1)):cn _);
  .ite (fun ab =>
  .ar fun bh aA =>
  (have aS:=ae.aH (.dS ab ab ab (Wt bh aA) (b3.b bh) ab);
  .ite (fun aW =>
  .ar fun ck bi =>
  .ar fun b6 cO =>
  .ret (bs [(I 2),.aw (ag 2 (ak (bn 2 (.b r1) true) (ag 3 (ak (bn 2 (.b bh) true) (ak (.U true) (ag 3 (ak (bn 2 (.agg (gA ck)) false) (ag 1 (ak (bn 2 (.b b6) true) (ak (.U true) (ag 1 [])))))))))))] (aS.aH (.bg aW aW aW (UL ck bi) aW aW (WE b6 cO) (b3.b b6) (.e1 aW)))))
  (fun aW =>
  .ret (bs [(I 2),.aw (ag 2 (ak (bn 2 (.b r1) true) (ag 3 (ak (bn 2 (.b bh) true) (ak (.U true) (ag 1 (cj 5 (ak (.U false) (ag 1 [])))))))))] (aS.aH (.dS aW aW aW aW aW aW))))))
  (fun ab =>
  .ret (bs [(I 2),.aw (ag 2 (ak (bn 2 (.b r1) true) (ag 1 (cj 3 (ak (.U false) (ag 1 (cj 5 (ag 2 []))))))))] (ae.aH (.bg ab ab ab ab cz cz cz cz (.e1 cz))))))
def zK (qU:Int):Option Bool :=
 if (decide ((97:Int)≤qU))=true then
  some (decide (qU≤(122:Int)))
 else
  some false
theorem WG {qU:Int}:bw (zK qU) (fun r=>Con a6 104 [.n .u8 qU] [] (.b r) []):=by
 unfold zK
 exact .ite (fun h1 =>
  .ret (bs [(I 1),.aw (bp 5 (.U true) 1)] (.bR h1 h1 h1)))
  (fun h1 =>
  .ret (bs [(I 1),.aw (ag 3 (cj 2 (ak (.U false) (ag 1 []))))] (.bR h1 h1 h1)))
def zR (qU:Int):Option Bool :=
 if (decide ((48:Int)≤qU))=true then
  some (decide (qU≤(57:Int)))
 else
  some false
theorem WZ {qU:Int}:bw (zR qU) (fun r=>Con a6 105 [.n .u8 qU] [] (.b r) []):=by
 unfold zR
 exact .ite (fun h1 =>
  .ret (bs [(I 1),.aw (bp 5 (.U true) 1)] (.bR h1 h1 h1)))
  (fun h1 =>
  .ret (bs [(I 1),.aw (ag 3 (cj 2 (ak (.U false) (ag 1 []))))] (.bR h1 h1 h1)))
def HH (aF:ByteArray)(jC:Int):Int→S:=fun gI=>dm [(0,.s aF),(5,.n .i64 jC),(6,.n .i64 gI)] []
def M8 (aF:ByteArray)(jC:Int):((Unit)⊕(Unit))→dp
 | .inl a=>⟨some 0,[(0,.s aF)],[]⟩
 | .inr a=>⟨none,[(2,.b false)],[]⟩
def zc (aF:ByteArray)(jC gI:Int):Option ((Int)⊕((Unit)⊕(Unit))) :=
 if (decide (gI<jC))=true then
  if 0≤gI∧gI<(aF.size:Nat) then
  zK ((aF.data.toList.getD gI.toNat 0).toNat:Int) >>= fun bc =>
  if bc=true then
   some (.inl (R (gI+(1:Int))))
  else
   if (gI == (0:Int))=true then
    some (.inr (.inr ()))
   else
    zR ((aF.data.toList.getD gI.toNat 0).toNat:Int) >>= fun ck =>
    if ck=true then
     some (.inl (R (gI+(1:Int))))
    else
     some (.inr (.inr ()))
  else none
 else
  some (.inr (.inl ()))
def C7 (aF:ByteArray)(jC gI:Int):Option ((Unit)⊕(Unit)):=iter (fun w:Int=>zc aF jC w) gI
theorem UY {aF:ByteArray}{jC gI:Int}:bw (zc aF jC gI) (dO a6 33 0 81 [1,0,1,0,0] (HH aF jC gI) (HH aF jC) (M8 aF jC)):=by
 unfold zc
 exact .ite (fun h1 =>
  .aX fun h2 =>
  .ar fun bc au =>
  (let t1:List bW:=[(I 1),.U true,(I 2)];
  have aS:=((.dh h1 h2.1 h2.2 (WG bc au) (b3.b bc)):cn _);
  .ite (fun aA =>
  .ret (bf (t1.append [.aw (ag 3 (ak (bn 1 (.b bc) true) (ag 2 (cj 3 (ag 5 (cj 1 (ak (.U false) []))))))),.U false,(I 2),.aL [] [] (a8 [0,5,6])]) (aS.aH (.dS (cS aA) (cS aA) (cS aA) (cS aA) (cS aA) cz))))
  (fun aA =>
  (have fk:=aS.aH (.bR (cJ aA) (cJ aA) (cJ aA));
  .ite (fun aW =>
  .ret (bf (t1.append [.aw (ag 3 (ak (bn 1 (.b bc) true) (ag 5 (cj 5 (ak (.U true) (ak (.U true) [])))))),.U true,(I 1),.aL [] [] (a8 [2])]) (fk.aH (.bg aW aW aW aW aW (cJ aA) aW (cJ aA) (.e1 cL)))))
  (fun aW =>
  .ar fun ck bi =>
  (let t4:List bW:=t1.append [.aw (ag 3 (ak (bn 1 (.b bc) true) (ag 8 (ak (bn 1 (.b ck) true) (ag 1 (ak (.U false) (ak (.U true) [])))))))];
  have lo:=fk.aH (.bg aW aW aW h2.1 h2.2 aW (WZ ck bi) (b3.b ck) (.c7 aW (cJ aA) aW (cJ aA)));
  .ite (fun cg =>
  .ret (bf (t4.append [.U false,(I 2),.aL [] [] (a8 [0,5,6])]) (lo.aH (.e1 (cS cg)))))
  (fun cg =>
  .ret (bf (t4.append [.U true,(I 1),.aL [] [] (a8 [2])]) (lo.aH (.e1 (cJ cg)))))))))))
  (fun h1 =>
  .ret (bf [(I 1),.U false,.aL [] [] (a8 [0])] (.e1 h1)))
theorem Im {aF:ByteArray}{jC gI:Int}{r} (h:C7 aF jC gI=some r):dP a6 33 0 81 [1,0,1,0,0] (HH aF jC) (M8 aF jC) gI r:=dQ (fun _=>UY) h
def z1 (aF:ByteArray):Option Bool :=
 C7 aF (aF.size:Int) 0 >>= fun r1 =>
 match r1 with
 | .inl c8=>(if (!(aF.toList == (⟨#[]⟩:ByteArray).toList))=true then
  some (decide ((aF.size:Int)≤(8:Int)))
  else
   some false)
 | .inr c8=>(some false)
theorem Xm {aF:ByteArray}:bw (z1 aF) (fun r=>Con a6 81 [.s aF] [] (.b r) []):=by
 unfold z1
 exact .ar fun r1 h2 =>
  (let t1:List bW:=[(I 1),(I 3),.aL [] [] (a8 [0,5,6])];
  (by
  rcases r1 with c8|c8
  ·exact ((let t2:List bW:=t1.append [.sub (.exit 0) [(0,.s aF)] []];
  .ite (fun au =>
  .ret (bs (t2.append [.aw (bp 6 (.U true) 1)]) (.dh (Im h2) au au au au)))
  (fun au =>
  .ret (bs (t2.append [.aw (ag 3 (cj 3 (ak (.U false) (ag 1 []))))]) (.dh (Im h2) au au au au)))))
  ·exact (.ret (bs (t1.append [.sub (.ret) [(2,.b false)] []]) (.e1 (Im h2))))))
def xk (aV:Int):Option Bool :=
 if (decide ((-50:Int)≤aV))=true then
  some (decide (aV≤(50:Int)))
 else
  some false
theorem Nt {aV:Int}:bw (xk aV) (fun r=>Con a6 82 [.n .i64 aV] [] (.b r) []):=by
 unfold xk
 exact .ite (fun h1 =>
  .ret (bs [(I 1),.aw (bp 5 (.U true) 1)] (.bR h1 h1 h1)))
  (fun h1 =>
  .ret (bs [(I 1),.aw (ag 3 (cj 2 (ak (.U false) (ag 1 []))))] (.bR h1 h1 h1)))
def zS (bP:bB):Option Bool :=
 z1 bP.k6 >>= fun r1 =>
 if r1=true then
  xk bP.j2 >>= fun bh =>
  if bh=true then
   xk bP.j3 >>= fun ck =>
   some ck
  else
   some false
 else
  some false
theorem W0 {bP:bB}:bw (zS bP) (fun r=>Con a6 54 [.agg (bI bP)] [] (.b r) []):=by
 unfold zS
 exact .ar fun r1 h2 =>
  (have ae:=((.e2 (Xm r1 h2) (b3.b r1)):cn _);
  .ite (fun ab =>
  .ar fun bh aA =>
  (have aS:=ae.aH (.dS ab ab ab (Nt bh aA) (b3.b bh) ab);
  .ite (fun aW =>
  .ar fun ck bi =>
  .ret (bs [(I 2),.aw (ag 2 (ak (bn 1 (.b r1) true) (ag 3 (ak (bn 1 (.b bh) true) (ak (.U true) (ag 3 (ak (bn 1 (.b ck) true) (ak (.U true) (ag 1 [])))))))))] (aS.aH (.dS aW aW aW (Nt ck bi) (b3.b ck) aW))))
  (fun aW =>
  .ret (bs [(I 2),.aw (ag 2 (ak (bn 1 (.b r1) true) (ag 3 (ak (bn 1 (.b bh) true) (ak (.U true) (ag 1 (cj 3 (ak (.U false) (ag 1 [])))))))))] (aS.aH (.c7 aW aW aW aW))))))
  (fun ab =>
  .ret (bs [(I 2),.aw (ag 2 (ak (bn 1 (.b r1) true) (ag 1 (cj 3 (ak (.U false) (ag 1 (cj 3 (ag 2 []))))))))] (ae.aH (.eF ab ab ab ab cz cz cz)))))
def Io (bP:bB)(da:ByteArray):Option Bool :=
 some (bP.k6.toList == da.toList)
theorem Vm {bP:bB}{da:ByteArray}:bw (Io bP da) (fun r=>Con a6 84 [.agg (bI bP),.dW 1 [[.s da]] 0 0] [] (.b r) []):=by
 unfold Io
 exact .ret (bs [(I 2),(I 5)] .nil)
def E9 (aF:List bB)(g9:ByteArray)(cI:Int):Int→S:=fun cx=>dm [(0,.isl 4 (aF.map bI)),(1,.fn 84 [.dW 1 [[.s g9]] 0 0]),(7,.n .i64 cI),(8,.n .i64 cx)] []
def Mn (aF:List bB)(g9:ByteArray)(cI:Int):((Unit)⊕(Int))→dp
 | .inl a=>⟨some 0,[],[]⟩
 | .inr a=>⟨none,[(4,.n .i64 a)],[]⟩
def Fa (aF:List bB)(g9:ByteArray)(cI cx:Int):Option ((Int)⊕((Unit)⊕(Int))) :=
 if (decide (cx<cI))=true then
  if 0≤cx∧cx<aF.length then
  aF[cx.toNat]? >>= fun aC =>
  Io aC g9 >>= fun aZ =>
  if aZ=true then
   some (.inr (.inr cx))
  else
   some (.inl (R (cx+(1:Int))))
  else none
 else
  some (.inr (.inl ()))
def Cq (aF:List bB)(g9:ByteArray)(cI cx:Int):Option ((Unit)⊕(Int)):=iter (fun w:Int=>Fa aF g9 cI w) cx
theorem SU {aF:List bB}{g9:ByteArray}{cI cx:Int}:bw (Fa aF g9 cI cx) (dO a6 19 0 83 [1,0,1,0,0] (E9 aF g9 cI cx) (E9 aF g9 cI) (Mn aF g9 cI)):=by
 unfold Fa
 exact .ite (fun h1 =>
  .aX fun h2 =>
  .ar fun aC au =>
  .ar fun aZ aW =>
  (let t1:List bW:=[(I 1),.U true,(I 2),.aw (ag 4 (ak (.b2 (bI aC)) (ak (bn 2 (.b aZ) true) [])))];
  have aS:=((.dS h1 h2.1 (cP bI h2.2) (bT bI au) (Vm aZ aW) (b3.b aZ)):cn _);
  .ite (fun a7 =>
  .ret (bf (t1.append [.U true,(I 2),.aL [] [] (a8 [4])]) (aS.aH (.e1 a7))))
  (fun a7 =>
  .ret (bf (t1.append [.U false,(I 2),.aL [] [] [(0,ii),(1,.comp [.da .id]),(7,ii),(8,ii)]]) (aS.aH (.e1 a7))))))
  (fun h1 =>
  .ret (bf [(I 1),.U false,.aL [] [] []] (.e1 h1)))
theorem Mq {aF:List bB}{g9:ByteArray}{cI cx:Int}{r} (h:Cq aF g9 cI cx=some r):dP a6 19 0 83 [1,0,1,0,0] (E9 aF g9 cI) (Mn aF g9 cI) cx r:=dQ (fun _=>SU) h
def Cu (aF:List bB)(kI:ByteArray):Option Int :=
 Cq aF kI (len_ bI aF) 0 >>= fun r1 =>
 match r1 with
 | .inl c8=>(some (-1))
 | .inr c8=>(some c8)
theorem Te {aF:List bB}{kI:ByteArray}:bw (Cu aF kI) (fun r=>Con a6 83 [.isl 4 (aF.map bI),.fn 84 [.dW 1 [[.s kI]] 0 0]] [] (.n .i64 r) []):=by
 unfold Cu
 exact .ar fun r1 h2 =>
  (let t1:List bW:=[(I 1),(I 3),.aL [] [] [(0,ii),(1,.comp [.da .id]),(7,ii),(8,ii)]];
  (by
  rcases r1 with c8|c8
  ·exact (.ret (bs (t1.append [.sub (.exit 0) [] [],(I 1)]) (.e1 (Mq h2))))
  ·exact (.ret (bs (t1.append [.sub (.ret) [(4,.n .i64 c8)] []]) (.e1 (Mq h2))))))
def zq (aF:ct)(kv:ByteArray):Option Int :=
 Cu aF.bY kv >>= fun r1 =>
 some r1
theorem VZ {aF:ct}{kv:ByteArray}:bw (zq aF kv) (fun r=>Con a6 55 [.agg (gA aF),.s kv] [] (.n .i64 r) []):=by
 unfold zq
 exact .ar fun r1 h2 =>
  .ret (bs [(I 3),.aw (bp 3 (.call {ac:=[ii,.comp [.ptr [.id]]],r:= .n .i64 r1,fu:=true,fB:=[1]}) 1)] (.bR (pS (PX kv):jn [[.s kv]]) (Te r1 h2) (b3.n .i64 r1)))
def y1 (aF:ct)(mq:bM):Option Bool :=
 if (decide (mq.dG<(0:Int)))=true then
  some false
 else
  if (decide ((len_ bI aF.bY)≤mq.dG))=true then
   some false
  else
   if (decide (mq.ei<(0:Int)))=true then
    some false
   else
    if (decide ((len_ bI aF.bY)≤mq.ei))=true then
     some false
    else
     if (decide (mq.hU<(1:Int)))=true then
      some false
     else
      if (decide ((3:Int)<mq.hU))=true then
       some false
      else
       if 0≤mq.dG∧mq.dG<aF.bY.length then
       aF.bY[mq.dG.toNat]? >>= fun mc =>
       if 0≤mq.ei∧mq.ei<aF.bY.length then
       aF.bY[mq.ei.toNat]? >>= fun pC =>
       if (mc.j2 != pC.j2)=true then
        if mc.k3=true then
         some (!pC.k3)
        else
         some true
       else
        if (mc.j3 != pC.j3)=true then
         if mc.k3=true then
          some (!pC.k3)
         else
          some true
        else
         some false
       else none
       else none
theorem TT {aF:ct}{mq:bM}:bw (y1 aF mq) (fun r=>Con a6 58 [.dW 2 [(gA aF)] 0 0,.agg (bQ mq)] [] (.b r) []):=by
 unfold y1
 exact .ite (fun h1 =>
  .ret (bs [(I 2),(I 6),.aw (ag 4 (cj 4 (ak (.U true) (ag 1 (cj 3 (ag 2 (cj 4 (ag 2 (cj 3 (ag 2 (cj 3 (ag 1 [])))))))))))),.U true,(I 1)] (.bg h1 h1 h1 h1 h1 cL cL cL (.bg cL cL cL cL cL cL cL cL (.bR cL cL cL)))))
  (fun h1 =>
  .ite (fun h2 =>
  .ret (bs [(I 2),(I 6),.aw (ag 8 (ak (.U false) (ag 1 (cj 3 (ak (.U true) (ag 1 (cj 4 (ag 2 (cj 3 (ag 2 (cj 3 (ag 1 [])))))))))))),.U true,(I 1)] (.bg h1 h1 h1 h1 h1 h2 h2 h2 (.bg h2 cL cL cL cL cL cL cL (.c7 cL cL cL cL)))))
  (fun h2 =>
  (have ae:=((.bg h1 h1 h1 h1 h1 h2 h2 h2 (.e1 h2)):cn _);
  .ite (fun ab =>
  .ret (bs [(I 2),(I 6),.aw (ag 8 (ak (.U false) (ag 4 (ak (.U false) (ag 1 (cj 4 (ak (.U true) (ag 1 (cj 3 (ag 2 (cj 3 (ag 1 [])))))))))))),.U true,(I 1)] (ae.aH (.bg ab ab ab ab ab cL cL cL (.c7 cL cL cL cL)))))
  (fun ab =>
  .ite (fun au =>
  .ret (bs [(I 2),(I 6),.aw (ag 8 (ak (.U false) (ag 4 (ak (.U false) (ag 5 (ak (.U false) (ag 1 (cj 3 (ak (.U true) (ag 1 (cj 3 (ag 1 [])))))))))))),.U true,(I 1)] (ae.aH (.bg ab ab ab ab ab au au au (.dh au cL cL cL cL)))))
  (fun au =>
  (have aS:=ae.aH (.bg ab ab ab ab ab au au au (.e1 au));
  .ite (fun aA =>
  .ret (bs [(I 2),(I 6),.aw (ag 8 (ak (.U false) (ag 4 (ak (.U false) (ag 5 (ak (.U false) (ag 4 (ak (.U false) (ag 1 (cj 3 (ak (.U true) []))))))))))),.U true,(I 1)] (aS.aH (.dh aA aA aA aA cL))))
  (fun aA =>
  (let t3:List bW:=[(I 2),(I 6),.aw (ag 8 (ak (.U false) (ag 4 (ak (.U false) (ag 5 (ak (.U false) (ag 4 (ak (.U false) (ag 4 (ak (.U false) []))))))))))];
  .ite (fun aW =>
  .ret (bs (t3.append [.U true,(I 1)]) (aS.aH (.dh aA aA aA aA aW))))
  (fun aW =>
  .aX fun a7 =>
  .ar fun mc cg =>
  .aX fun cO =>
  .ar fun pC eX =>
  (let t4:List bW:=t3.append [.U false,.aw (ag 7 (ak (.b2 (bI mc)) (bp 7 (.b2 (bI pC)) 4)))];
  have lo:=aS.aH (.bg aA aA aA aA aW a7.1 (cP bI a7.2) (bT bI cg) (.bR cO.1 (cP bI cO.2) (bT bI eX)));
  .ite (fun ev =>
  (have ln:=lo.aH (.bg ev ev ev ev ev ev cL cL (.e1 cL));
  .ite (fun ew =>
  .ret (bs (t4.append [.aw (ag 6 (cj 5 (ak (.U true) (bp 6 (.U true) 3))))]) (ln.aH (.dh ew ew cL ew cL))))
  (fun ew =>
  .ret (bs (t4.append [.aw (ag 6 (cj 5 (ak (.U true) (ag 4 (cj 2 (ak (.U false) (ag 3 [])))))))]) (ln.aH (.dh ew ew cL ew cL))))))
  (fun ev =>
  .ite (fun ew =>
  (have ln:=lo.aH (.bg ev ev ev ev ev ev ew ew (.e1 ew));
  .ite (fun fP =>
  .ret (bs (t4.append [.aw (ag 11 (ak (.U false) (ag 6 (ak (.U true) (bp 1 (.U true) 1)))))]) (ln.aH (.dS fP fP ew fP ew ew))))
  (fun fP =>
  .ret (bs (t4.append [.aw (ag 11 (ak (.U false) (ag 4 (cj 2 (ak (.U false) (bp 1 (.U true) 1))))))]) (ln.aH (.dS fP fP ew fP ew ew))))))
  (fun ew =>
  .ret (bs (t4.append [.aw (ag 11 (ak (.U false) (ag 1 (cj 3 (ag 2 (cj 2 (ak (.U false) (ag 1 []))))))))]) (lo.aH (.bg ev ev ev ev ev ev ew ew (.c7 ew ew ew ew))))))))))))))))
def tY (mq:bM)(da:ct):Option Bool :=
 y1 da mq >>= fun r1 =>
 some (!r1)
theorem Vi {mq:bM}{da:ct}:bw (tY mq da) (fun r=>Con a6 57 [.agg (bQ mq),.dW 2 [(gA da)] 0 0] [] (.b r) []):=by
 unfold tY
 exact .ar fun r1 h2 =>
  .ret (bs [(I 2),.aw (bp 1 (bn 2 (.b r1) true) 2)] (.e2 (TT r1 h2) (b3.b r1)))
def E8 (aF:List bM)(g9:List bB)(jO:List bM)(cI:Int):Int→S:=fun cx=>dm [(0,.isl 3 (aF.map bQ)),(1,.fn 57 [.dW 2 [[.isl 4 (g9.map bI),.isl 3 (jO.map bQ)]] 0 0]),(7,.n .i64 cI),(8,.n .i64 cx)] []
def Mm (aF:List bM)(g9:List bB)(jO:List bM)(cI:Int):((Unit)⊕(Int))→dp
 | .inl a=>⟨some 0,[],[]⟩
 | .inr a=>⟨none,[(4,.n .i64 a)],[]⟩
def nQ (aF:List bM)(g9:List bB)(jO:List bM)(cI cx:Int):Option ((Int)⊕((Unit)⊕(Int))) :=
 if (decide (cx<cI))=true then
  if 0≤cx∧cx<aF.length then
  aF[cx.toNat]? >>= fun aC =>
  tY aC (⟨g9,jO⟩:ct) >>= fun aZ =>
  if aZ=true then
   some (.inr (.inr cx))
  else
   some (.inl (R (cx+(1:Int))))
  else none
 else
  some (.inr (.inl ()))
def tJ (aF:List bM)(g9:List bB)(jO:List bM)(cI cx:Int):Option ((Unit)⊕(Int)):=iter (fun w:Int=>nQ aF g9 jO cI w) cx
theorem SS {aF:List bM}{g9:List bB}{jO:List bM}{cI cx:Int}:bw (nQ aF g9 jO cI cx) (dO a6 19 0 85 [1,0,1,0,0] (E8 aF g9 jO cI cx) (E8 aF g9 jO cI) (Mm aF g9 jO cI)):=by
 unfold nQ
 exact .ite (fun h1 =>
  .aX fun h2 =>
  .ar fun aC au =>
  .ar fun aZ aW =>
  (let t1:List bW:=[(I 1),.U true,(I 2),.aw (ag 4 (ak (.b2 (bQ aC)) (ak (bn 2 (.b aZ) true) [])))];
  have aS:=((.dS h1 h2.1 (cP bQ h2.2) (bT bQ au) (Vi aZ aW) (b3.b aZ)):cn _);
  .ite (fun a7 =>
  .ret (bf (t1.append [.U true,(I 2),.aL [] [] (a8 [4])]) (aS.aH (.e1 a7))))
  (fun a7 =>
  .ret (bf (t1.append [.U false,(I 2),.aL [] [] [(0,ii),(1,.comp [.da .id]),(7,ii),(8,ii)]]) (aS.aH (.e1 a7))))))
  (fun h1 =>
  .ret (bf [(I 1),.U false,.aL [] [] []] (.e1 h1)))
theorem Mo {aF:List bM}{g9:List bB}{jO:List bM}{cI cx:Int}{r} (h:tJ aF g9 jO cI cx=some r):dP a6 19 0 85 [1,0,1,0,0] (E8 aF g9 jO cI) (Mm aF g9 jO cI) cx r:=dQ (fun _=>SS) h
def yW (aF:List bM)(kI:ct):Option Int :=
 tJ aF kI.bY kI.bt (len_ bQ aF) 0 >>= fun r1 =>
 match r1 with
 | .inl c8=>(some (-1))
 | .inr c8=>(some c8)
theorem S8 {aF:List bM}{kI:ct}:bw (yW aF kI) (fun r=>Con a6 85 [.isl 3 (aF.map bQ),.fn 57 [.dW 2 [(gA kI)] 0 0]] [] (.n .i64 r) []):=by
 unfold yW
 exact .ar fun r1 h2 =>
  (let t1:List bW:=[(I 1),(I 3),.aL [] [] [(0,ii),(1,.comp [.da .id]),(7,ii),(8,ii)]];
  (by
  rcases r1 with c8|c8
  ·exact (.ret (bs (t1.append [.sub (.exit 0) [] [],(I 1)]) (.e1 (Mo h2))))
  ·exact (.ret (bs (t1.append [.sub (.ret) [(4,.n .i64 c8)] []]) (.e1 (Mo h2))))))
def yT (aF:List bM)(kI:ct):Option Bool :=
 yW aF kI >>= fun r1 =>
 some (decide ((0:Int)≤r1))
theorem S2 {aF:List bM}{kI:ct}:bw (yT aF kI) (fun r=>Con a6 56 [.isl 3 (aF.map bQ),.fn 57 [.dW 2 [(gA kI)] 0 0]] [] (.b r) []):=by
 unfold yT
 exact .ar fun r1 h2 =>
  .ret (bs [(I 1),.aw (bp 2 (bn 2 (.n .i64 r1) true) 2)] (.e2 (S8 r1 h2) (b3.n .i64 r1)))
def F3 (d5:List bB)(oE:Int)(aG:List bM):Int→S:=fun n4=>dm [(1,.ref 0 0 0 0),(16,.isl 4 (d5.map bI)),(17,.n .i64 oE),(18,.n .i64 n4)] [[ad.mk 2 [[.isl 4 (d5.map bI),.isl 3 (aG.map bQ)]] .live]]
def Gl (d5:List bB)(oE:Int)(aG:List bM):((Unit)⊕(Unit))→dp
 | .inl a=>⟨some 0,[(1,.ref 0 0 0 0)],[[ad.mk 2 [[.isl 4 (d5.map bI),.isl 3 (aG.map bQ)]] .live]]⟩
 | .inr a=>⟨none,[(2,.b false)],[]⟩
def CA (d5:List bB)(oE:Int)(aG:List bM)(n4:Int):Option ((Int)⊕((Unit)⊕(Unit))) :=
 if (decide (n4<oE))=true then
  if 0≤n4∧n4<d5.length then
  d5[n4.toNat]? >>= fun aC =>
  zS aC >>= fun aZ =>
  if aZ=true then
   zq (⟨d5,aG⟩:ct) aC.k6 >>= fun cm =>
   if (cm != n4)=true then
    some (.inr (.inr ()))
   else
    some (.inl (R (n4+(1:Int))))
  else
   some (.inr (.inr ()))
  else none
 else
  some (.inr (.inl ()))
def CK (d5:List bB)(oE:Int)(aG:List bM)(n4:Int):Option ((Unit)⊕(Unit)):=iter (fun w:Int=>CA d5 oE aG w) n4
theorem TF {d5:List bB}{oE:Int}{aG:List bM}{n4:Int}:bw (CA d5 oE aG n4) (dO a6 40 0 35 [1,1,0,1,0,0] (F3 d5 oE aG n4) (F3 d5 oE aG) (Gl d5 oE aG)):=by
 unfold CA
 exact .ite (fun h1 =>
  .aX fun h2 =>
  .ar fun aC au =>
  .ar fun aZ aW =>
  (let t1:List bW:=[(I 1),.U true,.aw (bp 2 (.b2 (bI aC)) 3)];
  have aS:=((.dS h1 h2.1 (cP bI h2.2) (bT bI au) (W0 aZ aW) (b3.b aZ)):cn _);
  .ite (fun a7 =>
  .ar fun cm cg =>
  (let t3:List bW:=t1.append [.aw (ag 1 (ak (bn 1 (.b aZ) true) (ag 5 (ak (bn 2 (.n .i64 cm) true) (ag 2 (ak (.U false) []))))))];
  have eP:=aS.aH (.bg (cS a7) (cS a7) (cS a7) (cS a7) (VZ cm cg) (b3.n .i64 cm) (cS a7) (cS a7) (.e1 (cS a7)));
  .ite (fun cO =>
  .ret (bf (t3.append [.U true,(I 1),.aL [] [] (a8 [2])]) (eP.aH (.e1 cO))))
  (fun cO =>
  .ret (bf (t3.append [.U false,(I 2),.aL [0] [.box [.id,.id]] (a8 [1,16,17,18])]) (eP.aH (.e1 cO))))))
  (fun a7 =>
  .ret (bf (t1.append [.aw (ag 1 (ak (bn 1 (.b aZ) true) (ag 2 (cj 6 (ak (.U true) []))))),.U true,(I 1),.aL [] [] (a8 [2])]) (aS.aH (.gM (cJ a7) (cJ a7) (cJ a7) (cJ a7) (cJ a7) (cJ a7) (cJ a7) cL))))))
  (fun h1 =>
  .ret (bf [(I 1),.U false,.aL [0] [.box [.id,.id]] (a8 [1])] (.e1 h1)))
theorem MJ {d5:List bB}{oE:Int}{aG:List bM}{n4:Int}{r} (h:CK d5 oE aG n4=some r):dP a6 40 0 35 [1,1,0,1,0,0] (F3 d5 oE aG) (Gl d5 oE aG) n4 r:=dQ (fun _=>TF) h
def w6 (aF:ct):Option Bool :=
 if (decide ((6:Int)<(len_ bI aF.bY)))=true then
  some false
 else
  if (decide ((8:Int)<(len_ bQ aF.bt)))=true then
   some false
  else
   CK aF.bY (len_ bI aF.bY) aF.bt 0 >>= fun bc =>
   match bc with
   | .inl fQ=>(yT aF.bt aF >>= fun bA =>
    some (!bA))
   | .inr fQ=>(some false)
theorem VI {aF:ct}:bw (w6 aF) (fun r=>Con a6 35 [.agg (gA aF)] [] (.b r) []):=by
 unfold w6
 exact .ite (fun h1 =>
  .ret (bs [(I 2),.aw (ag 5 (cj 4 (ak (.U true) []))),.U true,(I 1)] (.dS h1 h1 h1 h1 h1 cL)))
  (fun h1 =>
  (let t1:List bW:=[(I 2),.aw (ag 9 (ak (.U false) []))];
  .ite (fun h2 =>
  .ret (bs (t1.append [.U true,(I 1)]) (.dS h1 h1 h1 h1 h1 h2)))
  (fun h2 =>
  .ar fun bc au =>
  (let t2:List bW:=t1.append [.U false,(I 4),.aL [0] [.box [.id,.id]] (a8 [1,16,17,18])];
  (by
  rcases bc with fQ|fQ
  ·exact (.ar fun bA a7 =>
  .ret (bs (t2.append [(Gl aF.bY (len_ bI aF.bY) aF.bt (.inl fQ)).e8,.aw (bp 3 (.call {ac:=[ii,.comp [.ptr [.id,.id]]],r:= .b bA,fu:=true,fB:=[0]}) 2)]) (.bg h1 h1 h1 h1 h1 h2 (MJ au) (pS (zf aF):jn [(gA aF)]) (.e2 (S2 bA a7) (b3.b bA)))))
  ·exact (.ret (bs (t2.append [.sub (.ret) [(2,.b false)] []]) (.eF h1 h1 h1 h1 h1 h2 (MJ au)))))))))
def zT (aV:Int):Option Bool :=
 if (decide ((-100:Int)≤aV))=true then
  some (decide (aV≤(100:Int)))
 else
  some false
theorem W1 {aV:Int}:bw (zT aV) (fun r=>Con a6 60 [.n .i64 aV] [] (.b r) []):=by
 unfold zT
 exact .ite (fun h1 =>
  .ret (bs [(I 1),.aw (bp 5 (.U true) 1)] (.bR h1 h1 h1)))
  (fun h1 =>
  .ret (bs [(I 1),.aw (ag 3 (cj 2 (ak (.U false) (ag 1 []))))] (.bR h1 h1 h1)))
def CX (aV:Int):Option Bool :=
 zT aV >>= fun r1 =>
 some (!r1)
theorem V0 {aV:Int}:bw (CX aV) (fun r=>Con a6 59 [.n .i64 aV] [] (.b r) []):=by
 unfold CX
 exact .ar fun r1 h2 =>
  .ret (bs [(I 1),.aw (bp 1 (bn 1 (.b r1) true) 2)] (.e2 (W1 r1 h2) (b3.b r1)))
def Fc (aF:List Int)(cI:Int):Int→S:=fun cx=>dm [(0,.isl 1 (aF.map eI)),(1,.fn 59 []),(7,.n .i64 cI),(8,.n .i64 cx)] []
def Ms (aF:List Int)(cI:Int):((Unit)⊕(Int))→dp
 | .inl a=>⟨some 0,[],[]⟩
 | .inr a=>⟨none,[(4,.n .i64 a)],[]⟩
def vG (aF:List Int)(cI cx:Int):Option ((Int)⊕((Unit)⊕(Int))) :=
 if (decide (cx<cI))=true then
  if 0≤cx∧cx<aF.length then
  aF[cx.toNat]? >>= fun aC =>
  CX aC >>= fun aZ =>
  if aZ=true then
   some (.inr (.inr cx))
  else
   some (.inl (R (cx+(1:Int))))
  else none
 else
  some (.inr (.inl ()))
def Fu (aF:List Int)(cI cx:Int):Option ((Unit)⊕(Int)):=iter (fun w:Int=>vG aF cI w) cx
theorem SW {aF:List Int}{cI cx:Int}:bw (vG aF cI cx) (dO a6 19 0 37 [1,0,1,0,0] (Fc aF cI cx) (Fc aF cI) (Ms aF cI)):=by
 unfold vG
 exact .ite (fun h1 =>
  .aX fun h2 =>
  .ar fun aC au =>
  .ar fun aZ aW =>
  (let t1:List bW:=[(I 1),.U true,(I 2),.aw (ag 4 (ak (.b2 (eI aC)) (ak (bn 1 (.b aZ) true) [])))];
  have aS:=((.dS h1 h2.1 (cP eI h2.2) (bT eI au) (V0 aZ aW) (b3.b aZ)):cn _);
  .ite (fun a7 =>
  .ret (bf (t1.append [.U true,(I 2),.aL [] [] (a8 [4])]) (aS.aH (.e1 a7))))
  (fun a7 =>
  .ret (bf (t1.append [.U false,(I 2),.aL [] [] (a8 [0,1,7,8])]) (aS.aH (.e1 a7))))))
  (fun h1 =>
  .ret (bf [(I 1),.U false,.aL [] [] []] (.e1 h1)))
theorem Mt {aF:List Int}{cI cx:Int}{r} (h:Fu aF cI cx=some r):dP a6 19 0 37 [1,0,1,0,0] (Fc aF cI) (Ms aF cI) cx r:=dQ (fun _=>SW) h
def Cx (aF:List Int):Option Int :=
 Fu aF (len_ eI aF) 0 >>= fun r1 =>
 match r1 with
 | .inl c8=>(some (-1))
 | .inr c8=>(some c8)
theorem Tr {aF:List Int}:bw (Cx aF) (fun r=>Con a6 37 [.isl 1 (aF.map eI),.fn 59 []] [] (.n .i64 r) []):=by
 unfold Cx
 exact .ar fun r1 h2 =>
  (let t1:List bW:=[(I 1),(I 3),.aL [] [] (a8 [0,1,7,8])];
  (by
  rcases r1 with c8|c8
  ·exact (.ret (bs (t1.append [.sub (.exit 0) [] [],(I 1)]) (.e1 (Mt h2))))
  ·exact (.ret (bs (t1.append [.sub (.ret) [(4,.n .i64 c8)] []]) (.e1 (Mt h2))))))
def Cr (aF:List Int):Option Bool :=
 Cx aF >>= fun r1 =>
 some (decide ((0:Int)≤r1))
theorem S9 {aF:List Int}:bw (Cr aF) (fun r=>Con a6 20 [.isl 1 (aF.map eI),.fn 59 []] [] (.b r) []):=by
 unfold Cr
 exact .ar fun r1 h2 =>
  .ret (bs [(I 1),.aw (bp 2 (bn 2 (.n .i64 r1) true) 2)] (.e2 (Tr r1 h2) (b3.n .i64 r1)))
def zL (aF:ct)(cN:List Int):Option Bool :=
 if ((len_ eI cN) == (R ((2:Int)*(len_ bI aF.bY))))=true then
  Cr cN >>= fun r2 =>
  some (!r2)
 else
  some false
theorem WH {aF:ct}{cN:List Int}:bw (zL aF cN) (fun r=>Con a6 36 [.dW 2 [(gA aF)] 0 0,.isl 1 (cN.map eI)] [] (.b r) []):=by
 unfold zL
 exact .ite (fun h1 =>
  .ar fun r2 ab =>
  .ret (bs [(I 1),.aw (ag 11 (ak (bn 2 (.b r2) true) (bp 1 (.U true) 1)))] (.dS h1 h1 (S9 r2 ab) (b3.b r2) h1 h1)))
  (fun h1 =>
  .ret (bs [(I 1),.aw (ag 10 (cj 3 (ak (.U false) (ag 1 []))))] (.c7 h1 h1 h1 h1)))
def xp (aF:ct)(cN:List Int):Option Bool :=
 w6 aF >>= fun r1 =>
 if r1=true then
  zL aF cN >>= fun bh =>
  some bh
 else
  some false
theorem Xn {aF:ct}{cN:List Int}:bw (xp aF cN) (fun r=>Con a6 19 [.agg (gA aF),.isl 1 (cN.map eI)] [] (.b r) []):=by
 unfold xp
 exact .ar fun r1 h2 =>
  (have ae:=((.e2 (VI r1 h2) (b3.b r1)):cn _);
  .ite (fun ab =>
  .ar fun bh aA =>
  .ret (bs [(I 2),.aw (ag 1 (ak (bn 1 (.b r1) true) (ag 2 (ak (.call {ac:=[.br (.ptr [.id,.id]),ii],r:= .b bh,fu:=true,fB:=[0]}) (ak (.U true) (ag 1 []))))))] (ae.aH (.dS ab ab (pS (zf aF):jn [(gA aF)]) (WH bh aA) (b3.b bh) ab))))
  (fun ab =>
  .ret (bs [(I 2),.aw (ag 1 (ak (bn 1 (.b r1) true) (ag 1 (cj 2 (ak (.U false) (ag 1 []))))))] (ae.aH (.bR ab ab ab)))))
def y6 (aF:ct)(bq:Int):Option Bool :=
 if (decide ((0:Int)≤bq))=true then
  if (decide (bq<(len_ bQ aF.bt)))=true then
   if 0≤bq∧bq<aF.bt.length then
   aF.bt[bq.toNat]? >>= fun fT =>
   some (fT.hU == (1:Int))
   else none
  else
   some false
 else
  some false
theorem Ul {aF:ct}{bq:Int}:bw (y6 aF bq) (fun r=>Con a6 22 [.dW 2 [(gA aF)] 0 0,.n .i64 bq] [] (.b r) []):=by
 unfold y6
 exact .ite (fun h1 =>
  .ite (fun h2 =>
  .aX fun ab =>
  .ar fun fT aA =>
  .ret (bs [(I 1),.aw (ag 10 (ak (.U true) (ag 8 (ak (.b2 (bQ fT)) (bp 1 (.U true) 1)))))] (.bg h1 h1 h1 h1 h1 h1 h1 h1 (.bg h2 h2 h2 h2 h2 h2 ab.1 (cP bQ ab.2) (.dh h2 h2 (bT bQ aA) h2 h2)))))
  (fun h2 =>
  .ret (bs [(I 1),.aw (ag 10 (ak (.U true) (ag 1 (cj 9 (ak (.U false) (ag 1 []))))))] (.bg h1 h1 h1 h1 h1 h1 h1 h1 (.bg h2 h2 h2 h2 h2 h2 h2 h2 (.e2 h2 h2))))))
  (fun h1 =>
  .ret (bs [(I 1),.aw (ag 3 (cj 7 (ak (.U false) (ag 1 (cj 9 (ag 2 []))))))] (.bg h1 h1 h1 h1 h1 h1 h1 h1 (.bg cz cz cz cz cz cz cz cz (.e1 cz)))))
def CP (bq:Int)(da:ct):Option Bool :=
 y6 da bq >>= fun r1 =>
 some (!r1)
theorem Vn {bq:Int}{da:ct}:bw (CP bq da) (fun r=>Con a6 21 [.n .i64 bq,.dW 2 [(gA da)] 0 0] [] (.b r) []):=by
 unfold CP
 exact .ar fun r1 h2 =>
  .ret (bs [(I 1),.aw (bp 1 (bn 2 (.b r1) true) 2)] (.e2 (Ul r1 h2) (b3.b r1)))
def Fb (aF:List Int)(g9:List bB)(jO:List bM)(cI:Int):Int→S:=fun cx=>dm [(0,.isl 1 (aF.map eI)),(1,.fn 21 [.dW 2 [[.isl 4 (g9.map bI),.isl 3 (jO.map bQ)]] 0 0]),(7,.n .i64 cI),(8,.n .i64 cx)] []
def Mp (aF:List Int)(g9:List bB)(jO:List bM)(cI:Int):((Unit)⊕(Int))→dp
 | .inl a=>⟨some 0,[],[]⟩
 | .inr a=>⟨none,[(4,.n .i64 a)],[]⟩
def vF (aF:List Int)(g9:List bB)(jO:List bM)(cI cx:Int):Option ((Int)⊕((Unit)⊕(Int))) :=
 if (decide (cx<cI))=true then
  if 0≤cx∧cx<aF.length then
  aF[cx.toNat]? >>= fun aC =>
  CP aC (⟨g9,jO⟩:ct) >>= fun aZ =>
  if aZ=true then
   some (.inr (.inr cx))
  else
   some (.inl (R (cx+(1:Int))))
  else none
 else
  some (.inr (.inl ()))
def Fp (aF:List Int)(g9:List bB)(jO:List bM)(cI cx:Int):Option ((Unit)⊕(Int)):=iter (fun w:Int=>vF aF g9 jO cI w) cx
theorem SV {aF:List Int}{g9:List bB}{jO:List bM}{cI cx:Int}:bw (vF aF g9 jO cI cx) (dO a6 19 0 37 [1,0,1,0,0] (Fb aF g9 jO cI cx) (Fb aF g9 jO cI) (Mp aF g9 jO cI)):=by
 unfold vF
 exact .ite (fun h1 =>
  .aX fun h2 =>
  .ar fun aC au =>
  .ar fun aZ aW =>
  (let t1:List bW:=[(I 1),.U true,(I 2),.aw (ag 4 (ak (.b2 (eI aC)) (ak (bn 2 (.b aZ) true) [])))];
  have aS:=((.dS h1 h2.1 (cP eI h2.2) (bT eI au) (Vn aZ aW) (b3.b aZ)):cn _);
  .ite (fun a7 =>
  .ret (bf (t1.append [.U true,(I 2),.aL [] [] (a8 [4])]) (aS.aH (.e1 a7))))
  (fun a7 =>
  .ret (bf (t1.append [.U false,(I 2),.aL [] [] [(0,ii),(1,.comp [.da .id]),(7,ii),(8,ii)]]) (aS.aH (.e1 a7))))))
  (fun h1 =>
  .ret (bf [(I 1),.U false,.aL [] [] []] (.e1 h1)))
theorem Mr {aF:List Int}{g9:List bB}{jO:List bM}{cI cx:Int}{r} (h:Fp aF g9 jO cI cx=some r):dP a6 19 0 37 [1,0,1,0,0] (Fb aF g9 jO cI) (Mp aF g9 jO cI) cx r:=dQ (fun _=>SV) h
def Cv (aF:List Int)(kI:ct):Option Int :=
 Fp aF kI.bY kI.bt (len_ eI aF) 0 >>= fun r1 =>
 match r1 with
 | .inl c8=>(some (-1))
 | .inr c8=>(some c8)
theorem Tf {aF:List Int}{kI:ct}:bw (Cv aF kI) (fun r=>Con a6 37 [.isl 1 (aF.map eI),.fn 21 [.dW 2 [(gA kI)] 0 0]] [] (.n .i64 r) []):=by
 unfold Cv
 exact .ar fun r1 h2 =>
  (let t1:List bW:=[(I 1),(I 3),.aL [] [] [(0,ii),(1,.comp [.da .id]),(7,ii),(8,ii)]];
  (by
  rcases r1 with c8|c8
  ·exact (.ret (bs (t1.append [.sub (.exit 0) [] [],(I 1)]) (.e1 (Mr h2))))
  ·exact (.ret (bs (t1.append [.sub (.ret) [(4,.n .i64 c8)] []]) (.e1 (Mr h2))))))
def yV (aF:List Int)(kI:ct):Option Bool :=
 Cv aF kI >>= fun r1 =>
 some (decide ((0:Int)≤r1))
theorem S4 {aF:List Int}{kI:ct}:bw (yV aF kI) (fun r=>Con a6 20 [.isl 1 (aF.map eI),.fn 21 [.dW 2 [(gA kI)] 0 0]] [] (.b r) []):=by
 unfold yV
 exact .ar fun r1 h2 =>
  .ret (bs [(I 1),.aw (bp 2 (bn 2 (.n .i64 r1) true) 2)] (.e2 (Tf r1 h2) (b3.n .i64 r1)))
def Da (aF:List bB):Option (List bB) :=
 if aF.length*40≤140737488355328 then some aF else none
theorem W2:Con a6 38 [.ek] [] (.isl 4 (([]:List bB).map bI)) []:=bs [(I 1),(I 2),.U true,(I 1)] (.e1 cL) (.br (.da (.jH 4)))
theorem W3:Con a6 38 [.ib] [] (.isl 4 (([]:List bB).map bI)) []:=(by
 have h:=fun (h1:(([]:List bB)++([]:List bB)).length*40≤140737488355328)=>(bs [(I 1),(I 2),.U false,.aw (bp 2 (.aH ((([]:List bB)++([]:List bB)).length)) 1)] (.eF cz (m3 (show []=(([]:List bB)).map bI from rfl) (eZ bB)) (lG (eZ bB) (nn bI):(([]:List bB)++([]:List bB)).length=0+([]:List (List az)).length) h1 (lr (h6 (show []=(([]:List bB)).map bI from rfl) (eZ bB) (nn bI)) (dH (([]:List bB)++([]:List bB)))) (kZ (h6 (show []=(([]:List bB)).map bI from rfl) (eZ bB) (nn bI)) (dH (([]:List bB)++([]:List bB)))) (dv mA (([]:List bB)++([]:List bB)))) (.br (.da (.eh ((([]:List bB)++([]:List bB)).map bI)))):Con a6 38 [.ib] [] (.isl 4 ((([]:List bB)++([]:List bB)).map bI)) [])
 exact h (by decide))
theorem W4 (x:bB)(l:List bB)(h1:(([]:List bB)++(x::l)).length*40≤140737488355328):Con a6 38 [.isl 4 ((x::l).map bI)] [] (.isl 4 ((([]:List bB)++(x::l)).map bI)) []:=bs [(I 1),.aw (ag 1 (ak .fM [])),.U false,.aw (bp 2 (.aH ((([]:List bB)++(x::l)).length)) 1)] (.gM (by simp:(x::l).map bI≠[]) cz (m3 (show []=(([]:List bB)).map bI from rfl) (eZ bB)) (lG (eZ bB) (cW bI (x::l)):(([]:List bB)++(x::l)).length=0+((x::l).map bI).length) h1 (lr (h6 (show []=(([]:List bB)).map bI from rfl) (eZ bB) (cW bI (x::l))) (dH (([]:List bB)++(x::l)))) (kZ (h6 (show []=(([]:List bB)).map bI from rfl) (eZ bB) (cW bI (x::l))) (dH (([]:List bB)++(x::l)))) (dv mA (([]:List bB)++(x::l)))) (.br (.da (.eh ((([]:List bB)++(x::l)).map bI))))
theorem WI {aF:List bB}:bw (Da aF) (fun r=>Con a6 38 [.isl 4 (aF.map bI)] [] (.isl 4 (r.map bI)) []):=by
 unfold Da
 refine .aX fun h=> .ret ?_
 cases aF with
 | nil=>exact .jY W2 W3
 | cons x l =>
  have h2:=W4 x l (by simpa using h)
  simpa using h2
def IY (aF:List Int)(el cI:Int):Int→S:=fun cx=>dm [(0,.isl 1 (aF.map eI)),(1,.n .i64 el),(7,.n .i64 cI),(8,.n .i64 cx)] []
def NJ (aF:List Int)(el cI:Int):((Unit)⊕(Int))→dp
 | .inl a=>⟨some 0,[],[]⟩
 | .inr a=>⟨none,[(4,.n .i64 a)],[]⟩
def rG (aF:List Int)(el cI cx:Int):Option ((Int)⊕((Unit)⊕(Int))) :=
 if (decide (cx<cI))=true then
  if 0≤cx∧cx<aF.length then
  aF[cx.toNat]? >>= fun aC =>
  if (el == aC)=true then
   some (.inr (.inr cx))
  else
   some (.inl (R (cx+(1:Int))))
  else none
 else
  some (.inr (.inl ()))
def Ds (aF:List Int)(el cI cx:Int):Option ((Unit)⊕(Int)):=iter (fun w:Int=>rG aF el cI w) cx
theorem V1 {aF:List Int}{el cI cx:Int}:bw (rG aF el cI cx) (dO a6 19 0 61 [1,0,1,0,0] (IY aF el cI cx) (IY aF el cI) (NJ aF el cI)):=by
 unfold rG
 exact .ite (fun h1 =>
  .aX fun h2 =>
  .ar fun aC au =>
  (let t1:List bW:=[(I 1),.U true,(I 2),.aw (bp 4 (.b2 (eI aC)) 1)];
  have aS:=((.c7 h1 h2.1 (cP eI h2.2) (bT eI au)):cn _);
  .ite (fun aA =>
  .ret (bf (t1.append [.U true,(I 2),.aL [] [] (a8 [4])]) (aS.aH (.e1 aA))))
  (fun aA =>
  .ret (bf (t1.append [.U false,(I 2),.aL [] [] (a8 [0,1,7,8])]) (aS.aH (.e1 aA))))))
  (fun h1 =>
  .ret (bf [(I 1),.U false,.aL [] [] []] (.e1 h1)))
theorem NP {aF:List Int}{el cI cx:Int}{r} (h:Ds aF el cI cx=some r):dP a6 19 0 61 [1,0,1,0,0] (IY aF el cI) (NJ aF el cI) cx r:=dQ (fun _=>V1) h
def Ar (aF:List Int)(el:Int):Option Int :=
 Ds aF el (len_ eI aF) 0 >>= fun r1 =>
 match r1 with
 | .inl c8=>(some (-1))
 | .inr c8=>(some c8)
theorem YI {aF:List Int}{el:Int}:bw (Ar aF el) (fun r=>Con a6 61 [.isl 1 (aF.map eI),.n .i64 el] [] (.n .i64 r) []):=by
 unfold Ar
 exact .ar fun r1 h2 =>
  (let t1:List bW:=[(I 1),(I 3),.aL [] [] (a8 [0,1,7,8])];
  (by
  rcases r1 with c8|c8
  ·exact (.ret (bs (t1.append [.sub (.exit 0) [] [],(I 1)]) (.e1 (NP h2))))
  ·exact (.ret (bs (t1.append [.sub (.ret) [(4,.n .i64 c8)] []]) (.e1 (NP h2))))))
def rM (aF:List Int)(el:Int):Option Bool :=
 Ar aF el >>= fun r1 =>
 some (decide ((0:Int)≤r1))
theorem Jp {aF:List Int}{el:Int}:bw (rM aF el) (fun r=>Con a6 39 [.isl 1 (aF.map eI),.n .i64 el] [] (.b r) []):=by
 unfold rM
 exact .ar fun r1 h2 =>
  .ret (bs [(I 1),.aw (bp 2 (bn 2 (.n .i64 r1) true) 2)] (.e2 (YI r1 h2) (b3.n .i64 r1)))
def FK (fS:List Int)(b9:List bM)(bV:Int)(bH:List bB):(Int×(List bM))→S:=fun (dk,ay)=>dm [(1,.isl 1 (fS.map eI)),(4,.ref 0 0 0 0),(5,.ref 1 0 0 0),(13,.isl 3 (b9.map bQ)),(14,.n .i64 bV),(15,.n .i64 dk)] [[ad.mk 2 [[.ek,.ek]] .live],[ad.mk 2 [[.isl 4 (bH.map bI),.bj 2 0 0 ay.length]] .live],(ae 3 bQ ay)]
def FT (fS:List Int)(b9:List bM)(bV:Int)(bH:List bB):(List bM)→dp
 | a=>⟨some 0,[(4,.ref 0 0 0 0),(5,.ref 1 0 0 0)],[[ad.mk 2 [[.ek,.ek]] .live],[ad.mk 2 [[.isl 4 (bH.map bI),.bj 2 0 0 a.length]] .live],(ae 3 bQ a)]⟩
def vW (fS:List Int)(b9:List bM)(bV:Int)(bH:List bB)(dk:Int)(ay:List bM):Option ((Int×(List bM))⊕((List bM))) :=
 if (decide (dk<bV))=true then
  if 0≤dk∧dk<b9.length then
  b9[dk.toNat]? >>= fun aC =>
  rM fS dk >>= fun aZ =>
  if aZ=true then
   some (.inl (R (dk+(1:Int)),ay))
  else
   if (ay++([aC]:List bM)).length*24≤140737488355328 then
   some (.inl (R (dk+(1:Int)),ay++([aC]:List bM)))
   else none
  else none
 else
  some (.inr ay)
def GA (fS:List Int)(b9:List bM)(bV:Int)(bH:List bB)(dk:Int)(ay:List bM):Option ((List bM)):=iter (fun w:Int×(List bM)=>vW fS b9 bV bH w.1 w.2) (dk,ay)
theorem Ts {fS:List Int}{b9:List bM}{bV:Int}{bH:List bB}{dk:Int}{ay:List bM}:bw (vW fS b9 bV bH dk ay) (dO a6 32 0 23 [1,1,0,1,0,0] (FK fS b9 bV bH (dk,ay)) (FK fS b9 bV bH) (FT fS b9 bV bH)):=by
 unfold vW
 exact .ite (fun h1 =>
  .aX fun h2 =>
  .ar fun aC au =>
  .ar fun aZ aW =>
  (let t1:List bW:=[(I 1),.U true,.aw (bp 2 (.b2 (bQ aC)) 3),.aw (bp 2 (bn 2 (.b aZ) true) 1)];
  have aS:=((.dS h1 h2.1 (cP bQ h2.2) (bT bQ au) (Jp aZ aW) (b3.b aZ)):cn _);
  .ite (fun a7 =>
  .ret (bf (t1.append [.U false,(I 2),.aL [0,1,2] [.box [.id,.id],.box [.id,.id],.pure] (a8 [1,4,5,13,14,15])]) (aS.aH (.e2 (cS a7) (aI 3 .live lD ay)))))
  (fun a7 =>
  .aX fun bi =>
  .ret (let q1:=(ay++([aC]:List bM));bf (t1.append [.U true,.aw (bp 4 (.aH (q1.length)) 2),(I 2),.aL [0,1,18] [.box [.id,.id],.box [.id,.id],.cy (ae 3 bQ q1)] (a8 [1,4,5,13,14,15])]) (aS.aH (.eF (cJ a7) (gN bQ aC) (gX bQ ay) (gz bQ ay aC) bi (cZ 3 .live (hd bQ ay aC)) (aI 3 .live lD q1)))))))
  (fun h1 =>
  .ret (bf [(I 1),.U false,.aL [0,1,2] [.box [.id,.id],.box [.id,.id],.pure] (a8 [4,5])] (.e2 h1 (aI 3 .live lD ay))))
theorem T3 {fS:List Int}{b9:List bM}{bV:Int}{bH:List bB}{dk:Int}{ay:List bM}{r} (h:GA fS b9 bV bH dk ay=some r):dP a6 32 0 23 [1,1,0,1,0,0] (FK fS b9 bV bH) (FT fS b9 bV bH) (dk,ay) r:=dQ (fun _=>Ts) h
def wT (aF:ct)(fS:List Int):Option ct :=
 Da aF.bY >>= fun r1 =>
 GA fS aF.bt (len_ bQ aF.bt) r1 0 ([]:List bM) >>= fun bc =>
 some (⟨r1,bc⟩:ct)
theorem UZ {aF:ct}{fS:List Int}:bw (wT aF fS) (fun r=>Con a6 23 [.agg (gA aF),.isl 1 (fS.map eI)] [] (.agg (gA r)) []):=by
 unfold wT
 exact .ar fun r1 h2 =>
  .ar fun bc au =>
  .ret (bs [(I 2),.aw (bp 2 (bn 1 (.isl 4 (r1.map bI)) false) 3),(I 4),.rr 6 1 3,.aL [1,6,12] [.box [.id,.id],.box [.id,.len (([]:List bM).length)],.cy (ae 3 bQ ([]:List bM))] (a8 [1,4,5,13,14,15]),(FT fS aF.bt (len_ bQ aF.bt) r1 bc).e8,(I 2)] (.gM (WI r1 h2) (eZ bM) (cZ 3 .live (nn bQ)) (aI 3 .live lD ([]:List bM)) (T3 au) (fW bQ bc) (fv bQ bc) (dv lD bc)) (.br (.agg [.id,.eh (bc.map bQ)])))
def Fm (dr:List bB)(c0:Int):(Int×(List Int))→S:=fun (c1,aa)=>dm [(3,.bj 0 0 0 aa.length),(9,.isl 4 (dr.map bI)),(10,.n .i64 c0),(11,.n .i64 c1)] [(ae 1 eI aa)]
def Mv (dr:List bB)(c0:Int):(List Int)→dp
 | a=>⟨some 0,[(3,.bj 0 0 0 a.length)],[(ae 1 eI a)]⟩
def yU (dr:List bB)(c0 c1:Int)(aa:List Int):Option ((Int×(List Int))⊕((List Int))) :=
 if (decide (c1<c0))=true then
  if 0≤c1∧c1<dr.length then
  dr[c1.toNat]? >>= fun aC =>
  if aC.k3=true then
   some (.inl (R (c1+(1:Int)),aa))
  else
   if (aa++([c1]:List Int)).length*8≤140737488355328 then
   some (.inl (R (c1+(1:Int)),aa++([c1]:List Int)))
   else none
  else none
 else
  some (.inr aa)
def FB (dr:List bB)(c0 c1:Int)(aa:List Int):Option ((List Int)):=iter (fun w:Int×(List Int)=>yU dr c0 w.1 w.2) (c1,aa)
theorem S3 {dr:List bB}{c0 c1:Int}{aa:List Int}:bw (yU dr c0 c1 aa) (dO a6 25 0 64 [1,1,0,1,0,0] (Fm dr c0 (c1,aa)) (Fm dr c0) (Mv dr c0)):=by
 unfold yU
 exact .ite (fun h1 =>
  .aX fun h2 =>
  .ar fun aC au =>
  (let t1:List bW:=[(I 1),.U true,.aw (bp 2 (.b2 (bI aC)) 3),(I 3)];
  have aS:=((.c7 h1 h2.1 (cP bI h2.2) (bT bI au)):cn _);
  .ite (fun aA =>
  .ret (bf (t1.append [.U false,(I 2),.aL [0] [.pure] (a8 [3,9,10,11])]) (aS.aH (.e2 (cS aA) (aI 1 .live aO aa)))))
  (fun aA =>
  .aX fun aW =>
  .ret (let q1:=(aa++([c1]:List Int));bf (t1.append [.U true,.aw (bp 3 (.aH (q1.length)) 1),(I 2),.aL [14] [.cy (ae 1 eI q1)] (a8 [3,9,10,11])]) (aS.aH (.eF (cJ aA) (gN eI c1) (gX eI aa) (gz eI aa c1) aW (cZ 1 .live (hd eI aa c1)) (aI 1 .live aO q1)))))))
  (fun h1 =>
  .ret (bf [(I 1),.U false,.aL [0] [.pure] (a8 [3])] (.e2 h1 (aI 1 .live aO aa))))
theorem Ti {dr:List bB}{c0 c1:Int}{aa:List Int}{r} (h:FB dr c0 c1 aa=some r):dP a6 25 0 64 [1,1,0,1,0,0] (Fm dr c0) (Mv dr c0) (c1,aa) r:=dQ (fun _=>S3) h
def vY (aF:ct):Option (List Int) :=
 FB aF.bY (len_ bI aF.bY) 0 ([]:List Int) >>= fun r1 =>
 some r1
theorem Mz {aF:ct}:bw (vY aF) (fun r=>Con a6 64 [.dW 2 [(gA aF)] 0 0] [] (.isl 1 (r.map eI)) []):=by
 unfold vY
 exact .ar fun r1 h2 =>
  .ret (bs [(I 1),(I 1),(I 6),.s9 3 1,.aL [8] [.cy (ae 1 eI ([]:List Int))] [(3,fY (([]:List Int).length)),(9,ii),(10,ii),(11,ii)],.sub (.exit 0) [(3,.bj 0 0 0 r1.length)] [(ae 1 eI r1)],(I 2)] (.eF (cZ 1 .live (nn eI)) (aI 1 .live aO ([]:List Int)) (eZ Int) (Ti h2) (fW eI r1) (fv eI r1) (dv aO r1)) (.br (.da (.eh (r1.map eI)))))
def tS (aF:ct)(bq:Int):Option (Int×Int) :=
 if 0≤bq∧bq<aF.bt.length then
 aF.bt[bq.toNat]? >>= fun x2 =>
 if 0≤x2.ei∧x2.ei<aF.bY.length then
 aF.bY[x2.ei.toNat]? >>= fun kr =>
 if 0≤x2.dG∧x2.dG<aF.bY.length then
 aF.bY[x2.dG.toNat]? >>= fun mc =>
 some (R (kr.j2-mc.j2),R (kr.j3-mc.j3))
 else none
 else none
 else none
theorem Um {aF:ct}{bq:Int}:bw (tS aF bq) (fun r=>Con a6 86 [.dW 2 [(gA aF)] 0 0,.n .i64 bq] [] (.dX [.n .i64 r.1,.n .i64 r.2]) []):=by
 unfold tS
 exact .aX fun h1 =>
  .ar fun x2 ab =>
  .aX fun au =>
  .ar fun kr aW =>
  .aX fun a7 =>
  .ar fun mc cg =>
  .ret (bs [(I 2),.aw (bp 6 (.b2 (bQ x2)) 2),.aw (ag 8 (ak (.b2 (bI kr)) (ag 8 (ak (.b2 (bI mc)) (ag 9 (ak (.b2 (bI kr)) (bp 8 (.b2 (bI mc)) 3)))))))] (.bg h1.1 (cP bQ h1.2) (bT bQ ab) au.1 (cP bI au.2) (bT bI aW) a7.1 (cP bI a7.2) (.eF (bT bI cg) au.1 (cP bI au.2) (bT bI aW) a7.1 (cP bI a7.2) (bT bI cg))))
def Fh (fA:List bB)(e5:List bM)(bP:Int)(b9:List Int)(bV dk df:Int)(aa:List (List Int)):(Int×(List Int)×(List Int))→S:=fun (gn,ap,ay)=>dm [(0,.dW 2 [[.isl 4 (fA.map bI),.isl 3 (e5.map bQ)]] 0 0),(3,.bj 0 0 0 aa.length),(5,.n .i64 bP),(6,.bj 1 0 0 ap.length),(7,.bj 2 0 0 ay.length),(13,.isl 1 (b9.map eI)),(14,.n .i64 bV),(15,.n .i64 dk),(34,.isl 3 (e5.map bQ)),(35,.n .i64 df),(36,.n .i64 gn)] [(ae 1 (en 1 eI) aa),(ae 1 eI ap),(ae 1 eI ay)]
def Fo (fA:List bB)(e5:List bM)(bP:Int)(b9:List Int)(bV dk df:Int)(aa:List (List Int)):((List Int)×(List Int))→dp
 | a=>⟨some 2,[(0,.dW 2 [[.isl 4 (fA.map bI),.isl 3 (e5.map bQ)]] 0 0),(3,.bj 0 0 0 aa.length),(6,.bj 1 0 0 a.1.length),(7,.bj 2 0 0 a.2.length),(13,.isl 1 (b9.map eI)),(14,.n .i64 bV),(15,.n .i64 dk)],[(ae 1 (en 1 eI) aa),(ae 1 eI a.1),(ae 1 eI a.2)]⟩
def vK (fA:List bB)(e5:List bM)(bP:Int)(b9:List Int)(bV dk df:Int)(aa:List (List Int))(gn:Int)(ap ay:List Int):Option ((Int×(List Int)×(List Int))⊕((List Int)×(List Int))) :=
 if (decide (gn<df))=true then
  if 0≤gn∧gn<e5.length then
  e5[gn.toNat]? >>= fun aC =>
  tS (⟨fA,e5⟩:ct) gn >>= fun aZ =>
  if (bP == aC.dG)=true then
   if 0≤gn∧gn<(ap.length:Nat) then
   if (0+gn.toNat)<ap.length then
   if 0≤gn∧gn<(ay.length:Nat) then
   if (0+gn.toNat)<ay.length then
   some (.inl (R (gn+(1:Int)),ap.set (0+gn.toNat) aZ.1,ay.set (0+gn.toNat) aZ.2))
   else none
   else none
   else none
   else none
  else
   if (bP == aC.ei)=true then
    if 0≤gn∧gn<(ap.length:Nat) then
    if (0+gn.toNat)<ap.length then
    if 0≤gn∧gn<(ay.length:Nat) then
    if (0+gn.toNat)<ay.length then
    some (.inl (R (gn+(1:Int)),ap.set (0+gn.toNat) (R (0-aZ.1)),ay.set (0+gn.toNat) (R (0-aZ.2))))
    else none
    else none
    else none
    else none
   else
    some (.inl (R (gn+(1:Int)),ap,ay))
  else none
 else
  some (.inr (ap,ay))
def Cw (fA:List bB)(e5:List bM)(bP:Int)(b9:List Int)(bV dk df:Int)(aa:List (List Int))(gn:Int)(ap ay:List Int):Option ((List Int)×(List Int)):=iter (fun w:Int×(List Int)×(List Int)=>vK fA e5 bP b9 bV dk df aa w.1 w.2.1 w.2.2) (gn,ap,ay)
theorem S0 {fA:List bB}{e5:List bM}{bP:Int}{b9:List Int}{bV dk df:Int}{aa:List (List Int)}{gn:Int}{ap ay:List Int}:bw (vK fA e5 bP b9 bV dk df aa gn ap ay) (dO a6 82 0 62 [1,1,0,1,0,0,1,1,0,0,1,1,0,1,0,0] (Fh fA e5 bP b9 bV dk df aa (gn,ap,ay)) (Fh fA e5 bP b9 bV dk df aa) (Fo fA e5 bP b9 bV dk df aa)):=by
 unfold vK
 exact .ite (fun h1 =>
  .aX fun h2 =>
  .ar fun aC au =>
  .ar fun aZ aW =>
  (let t1:List bW:=[(I 1),.U true,.aw (bp 2 (.b2 (bQ aC)) 3),.aw (bp 2 (bn 2 (.dX [.n .i64 aZ.1,.n .i64 aZ.2]) true) 5),(I 1),(I 4)];
  have aS:=((.dS h1 h2.1 (cP bQ h2.2) (bT bQ au) (Um aZ aW) (DZ (oZ (b3.n .i64 aZ.1) (oZ (b3.n .i64 aZ.2) uL)))):cn _);
  .ite (fun a7 =>
  .aX fun bi =>
  .aX fun cg =>
  .aX fun cO =>
  .aX fun eH =>
  .ret (bf (t1.append [.U true,.aw (ag 7 (ak .fM (ag 1 (ak .fM [])))),(I 2),.aL [0,1,2] [.pure,.cy (ae 1 eI (ap.set (0+gn.toNat) aZ.1)),.cy (ae 1 eI (ay.set (0+gn.toNat) aZ.2))] [(0,ii),(3,ii),(5,ii),(6,fY ((ap.set (0+gn.toNat) aZ.1).length)),(7,fY ((ay.set (0+gn.toNat) aZ.2).length)),(13,ii),(14,ii),(15,ii),(34,ii),(35,ii),(36,ii)]]) (aS.aH (.bg a7 bi.1 bi.2 (hB eI cg) (hx 1) cO.1 cO.2 (hB eI eH) (.gM (hx 1) (aI 1 .live (nr (sz:=1) aO) aa) (cZ 1 .live (gF (cW eI ap) (0+gn.toNat) aZ.1)) (aI 1 .live aO (ap.set (0+gn.toNat) aZ.1)) (cZ 1 .live (gF (cW eI ay) (0+gn.toNat) aZ.2)) (aI 1 .live aO (ay.set (0+gn.toNat) aZ.2)) (hS (dH ap) (0+gn.toNat) aZ.1) (hS (dH ay) (0+gn.toNat) aZ.2))))))
  (fun a7 =>
  .ite (fun bi =>
  .aX fun cg =>
  .aX fun cO =>
  .aX fun eH =>
  .aX fun eX =>
  .ret (let q1:=R (0-aZ.1);let q2:=R (0-aZ.2);bf (t1.append [.U false,(I 4),.U true,.aw (ag 9 (ak .fM (ag 1 (ak .fM [])))),(I 2),.aL [0,1,2] [.pure,.cy (ae 1 eI (ap.set (0+gn.toNat) q1)),.cy (ae 1 eI (ay.set (0+gn.toNat) q2))] [(0,ii),(3,ii),(5,ii),(6,fY ((ap.set (0+gn.toNat) q1).length)),(7,fY ((ay.set (0+gn.toNat) q2).length)),(13,ii),(14,ii),(15,ii),(34,ii),(35,ii),(36,ii)]]) (aS.aH (.bg a7 bi cg.1 cg.2 (hB eI cO) (hx 1) eH.1 eH.2 (.bg (hB eI eX) (hx 1) (aI 1 .live (nr (sz:=1) aO) aa) (cZ 1 .live (gF (cW eI ap) (0+gn.toNat) q1)) (aI 1 .live aO (ap.set (0+gn.toNat) q1)) (cZ 1 .live (gF (cW eI ay) (0+gn.toNat) q2)) (aI 1 .live aO (ay.set (0+gn.toNat) q2)) (hS (dH ap) (0+gn.toNat) q1) (.e1 (hS (dH ay) (0+gn.toNat) q2)))))))
  (fun bi =>
  .ret (bf (t1.append [.U false,(I 4),.U false,(I 2),.aL [0,1,2] [.pure,.pure,.pure] (a8 [0,3,5,6,7,13,14,15,34,35,36])]) (aS.aH (.dh a7 bi (aI 1 .live (nr (sz:=1) aO) aa) (aI 1 .live aO ap) (aI 1 .live aO ay))))))))
  (fun h1 =>
  .ret (bf [(I 1),.U false,.aL [0,1,2] [.pure,.pure,.pure] (a8 [0,3,6,7,13,14,15])] (.c7 h1 (aI 1 .live (nr (sz:=1) aO) aa) (aI 1 .live aO ap) (aI 1 .live aO ay))))
theorem Tg {fA:List bB}{e5:List bM}{bP:Int}{b9:List Int}{bV dk df:Int}{aa:List (List Int)}{gn:Int}{ap ay:List Int}{r} (h:Cw fA e5 bP b9 bV dk df aa gn ap ay=some r):dP a6 82 0 62 [1,1,0,1,0,0,1,1,0,0,1,1,0,1,0,0] (Fh fA e5 bP b9 bV dk df aa) (Fo fA e5 bP b9 bV dk df aa) (gn,ap,ay) r:=dQ (fun _=>S0) h
def Fi (fA:List bB)(e5:List bM)(b9:List Int)(bV:Int):(Int×(List (List Int)))→S:=fun (dk,aa)=>dm [(0,.dW 2 [[.isl 4 (fA.map bI),.isl 3 (e5.map bQ)]] 0 0),(3,.bj 0 0 0 aa.length),(13,.isl 1 (b9.map eI)),(14,.n .i64 bV),(15,.n .i64 dk)] [(ae 1 (en 1 eI) aa)]
def Mu (fA:List bB)(e5:List bM)(b9:List Int)(bV:Int):(List (List Int))→dp
 | a=>⟨some 0,[(3,.bj 0 0 0 a.length)],[(ae 1 (en 1 eI) a)]⟩
def vL (fA:List bB)(e5:List bM)(b9:List Int)(bV dk:Int)(aa:List (List Int)):Option ((Int×(List (List Int)))⊕((List (List Int)))) :=
 if (decide (dk<bV))=true then
  if 0≤dk∧dk<b9.length then
  b9[dk.toNat]? >>= fun aC =>
  if 0≤(len_ bQ e5)∧(8:Int)*(len_ bQ e5)≤281474976710656∧(len_ bQ e5)<9223372036854775808 then
  Cw fA e5 aC b9 bV dk (len_ bQ e5) aa 0 (List.replicate (len_ bQ e5).toNat 0:List Int) (List.replicate (len_ bQ e5).toNat 0:List Int) >>= fun bA =>
  if (aa++([bA.1,bA.2]:List (List Int))).length*24≤140737488355328 then
  some (.inl (R (dk+(1:Int)),aa++([bA.1,bA.2]:List (List Int))))
  else none
  else none
  else none
 else
  some (.inr aa)
def FA (fA:List bB)(e5:List bM)(b9:List Int)(bV dk:Int)(aa:List (List Int)):Option ((List (List Int))):=iter (fun w:Int×(List (List Int))=>vL fA e5 b9 bV w.1 w.2) (dk,aa)
theorem S1 {fA:List bB}{e5:List bM}{b9:List Int}{bV dk:Int}{aa:List (List Int)}:bw (vL fA e5 b9 bV dk aa) (dO a6 82 0 62 [1,1,0,1,0,0] (Fi fA e5 b9 bV (dk,aa)) (Fi fA e5 b9 bV) (Mu fA e5 b9 bV)):=by
 unfold vL
 exact .ite (fun h1 =>
  .aX fun h2 =>
  .ar fun aC au =>
  .aX fun aA =>
  .ar fun bA a7 =>
  .aX fun bi =>
  .ret (let q2:=(aa++([bA.1,bA.2]:List (List Int)));let bL:=len_ bQ e5;let q1:=(List.replicate bL.toNat 0:List Int);let bZ:=nr (sz:=1) aO;let cH:=cZ 1 .live (lF eI bL.toNat 0);bf [(I 1),.U true,.aw (bp 1 (.b2 (eI aC)) 1),(I 14),(I 6),.aL [0,10,16] [.pure,.cy (ae 1 eI q1),.cy (ae 1 eI q1)] [(0,ii),(3,ii),(5,ii),(6,fY (q1.length)),(7,fY (q1.length)),(13,ii),(14,ii),(15,ii),(34,ii),(35,ii),(36,ii)],(Fo fA e5 aC b9 bV dk bL aa bA).e8,.aL [0] [.pure] [(0,ii),(3,ii),(6,.br (.da (.eh (bA.1.map eI)))),(7,.br (.da (.eh (bA.2.map eI)))),(13,ii),(14,ii),(15,ii)],.aw (bp 4 (.aH (q2.length)) 1),(I 2),.aL [5] [.cy (ae 1 (en 1 eI) q2)] (a8 [0,3,13,14,15])] (.bg h1 h2.1 (cP eI h2.2) (bT eI au) aA.1 (Int.le_refl bL) aA.2.1 aA.2.2 (.bg aA.1 (Int.le_refl bL) aA.2.1 aA.2.2 (aI 1 .live bZ aa) cH (aI 1 .live aO q1) cH (.bg (aI 1 .live aO q1) (l0 bL.toNat (0:Int)) (l0 bL.toNat (0:Int)) (Tg a7) (aI 1 .live bZ aa) (fW eI bA.1) (fv eI bA.1) (dv aO bA.1) (.bg (fW eI bA.2) (fv eI bA.2) (dv aO bA.2) (kZ (show [[.isl 1 (bA.1.map eI)],[.isl 1 (bA.2.map eI)]]=(([bA.1,bA.2]:List (List Int))).map (en 1 eI) from rfl) (show 2=([bA.1,bA.2]:List (List Int)).length from rfl)) (gX (en 1 eI) aa) (lG (dH aa) (nX (show [[.isl 1 (bA.1.map eI)],[.isl 1 (bA.2.map eI)]]=(([bA.1,bA.2]:List (List Int))).map (en 1 eI) from rfl) (show 2=([bA.1,bA.2]:List (List Int)).length from rfl)):q2.length=aa.length+(([[.isl 1 (bA.1.map eI)],[.isl 1 (bA.2.map eI)]].drop 0).take 2).length) bi (cZ 1 .live (h6 (cW (en 1 eI) aa) (dH aa) (nX (show [[.isl 1 (bA.1.map eI)],[.isl 1 (bA.2.map eI)]]=(([bA.1,bA.2]:List (List Int))).map (en 1 eI) from rfl) (show 2=([bA.1,bA.2]:List (List Int)).length from rfl)))) (.e1 (aI 1 .live bZ q2))))))))
  (fun h1 =>
  .ret (bf [(I 1),.U false,.aL [0] [.pure] (a8 [3])] (.e2 h1 (aI 1 .live (nr (sz:=1) aO) aa))))
theorem Th {fA:List bB}{e5:List bM}{b9:List Int}{bV dk:Int}{aa:List (List Int)}{r} (h:FA fA e5 b9 bV dk aa=some r):dP a6 82 0 62 [1,1,0,1,0,0] (Fi fA e5 b9 bV) (Mu fA e5 b9 bV) (dk,aa) r:=dQ (fun _=>S1) h
def yZ (aF:ct):Option (List (List Int)) :=
 vY aF >>= fun r1 =>
 FA aF.bY aF.bt r1 (len_ eI r1) 0 ([]:List (List Int)) >>= fun bc =>
 some bc
theorem Tu {aF:ct}:bw (yZ aF) (fun r=>Con a6 62 [.dW 2 [(gA aF)] 0 0] [] (.isl 1 (r.map (en 1 eI))) []):=by
 unfold yZ
 exact .ar fun r1 h2 =>
  .ar fun bc au =>
  .ret (bs [(I 1),(I 1),.aw (bp 1 (bn 1 (.isl 1 (r1.map eI)) false) 2),.s9 3 1,.aL [6] [.cy (ae 1 (en 1 eI) ([]:List (List Int)))] [(0,ii),(3,fY (([]:List (List Int)).length)),(13,ii),(14,ii),(15,ii)],.sub (.exit 0) [(3,.bj 0 0 0 bc.length)] [(ae 1 (en 1 eI) bc)],(I 2)] (.gM (Mz r1 h2) (cZ 1 .live (nn (en 1 eI))) (aI 1 .live (nr (sz:=1) aO) ([]:List (List Int))) (eZ (List Int)) (Th au) (fW (en 1 eI) bc) (fv (en 1 eI) bc) (dv (nr (sz:=1) aO) bc)) (.br (.da (.eh (bc.map (en 1 eI))))))
def Fv (dr:List bM)(c0:Int):(Int×(List eu))→S:=fun (c1,aa)=>dm [(3,.bj 0 0 0 aa.length),(9,.isl 3 (dr.map bQ)),(10,.n .i64 c0),(11,.n .i64 c1)] [(ae 2 gl aa)]
def Mw (dr:List bM)(c0:Int):(List eu)→dp
 | a=>⟨some 0,[(3,.bj 0 0 0 a.length)],[(ae 2 gl a)]⟩
def vO (dr:List bM)(c0 c1:Int)(aa:List eu):Option ((Int×(List eu))⊕((List eu))) :=
 if (decide (c1<c0))=true then
  if 0≤c1∧c1<dr.length then
  dr[c1.toNat]? >>= fun aC =>
  if (aC.hU != (2:Int))=true then
   if (aa++([(⟨c1,1⟩:eu)]:List eu)).length*16≤140737488355328 then
   if (aC.hU != (1:Int))=true then
    if ((aa++([(⟨c1,1⟩:eu)]:List eu))++([(⟨c1,(-1)⟩:eu)]:List eu)).length*16≤140737488355328 then
    some (.inl (R (c1+(1:Int)),(aa++([(⟨c1,1⟩:eu)]:List eu))++([(⟨c1,(-1)⟩:eu)]:List eu)))
    else none
   else
    some (.inl (R (c1+(1:Int)),aa++([(⟨c1,1⟩:eu)]:List eu)))
   else none
  else
   if (aC.hU != (1:Int))=true then
    if (aa++([(⟨c1,(-1)⟩:eu)]:List eu)).length*16≤140737488355328 then
    some (.inl (R (c1+(1:Int)),aa++([(⟨c1,(-1)⟩:eu)]:List eu)))
    else none
   else
    some (.inl (R (c1+(1:Int)),aa))
  else none
 else
  some (.inr aa)
def FU (dr:List bM)(c0 c1:Int)(aa:List eu):Option ((List eu)):=iter (fun w:Int×(List eu)=>vO dr c0 w.1 w.2) (c1,aa)
theorem Ta {dr:List bM}{c0 c1:Int}{aa:List eu}:bw (vO dr c0 c1 aa) (dO a6 34 0 63 [1,1,0,1,0,0] (Fv dr c0 (c1,aa)) (Fv dr c0) (Mw dr c0)):=by
 unfold vO
 exact .ite (fun h1 =>
  .aX fun h2 =>
  .ar fun aC au =>
  (let t1:List bW:=[(I 1),.U true,.aw (bp 2 (.b2 (bQ aC)) 3),(I 3)];
  have aS:=((.c7 h1 h2.1 (cP bQ h2.2) (bT bQ au)):cn _);
  .ite (fun aA =>
  .aX fun aW =>
  (let t3:List bW:=t1.append [.U true,.aw (bp 4 (.aH ((aa++([(⟨c1,1⟩:eu)]:List eu)).length)) 1),(I 3)];
  have eP:=aS.aH (.dh aA (gN gl (⟨c1,1⟩:eu)) (gX gl aa) (gz gl aa (⟨c1,1⟩:eu)) aW);
  .ite (fun a7 =>
  .aX fun bi =>
  .ret (let q1:=(aa++([(⟨c1,1⟩:eu)]:List eu));let q2:=(q1++([(⟨c1,(-1)⟩:eu)]:List eu));let bL:=(hd gl aa (⟨c1,1⟩:eu));bf (t3.append [.U true,.aw (bp 4 (.aH (q2.length)) 1),(I 2),.aL [24] [.cy (ae 2 gl q2)] (a8 [3,9,10,11])]) (eP.aH (.eF a7 (gN gl (⟨c1,(-1)⟩:eu)) (m3 bL (dH q1)) (gz gl q1 (⟨c1,(-1)⟩:eu)) bi (cZ 2 .live (h6 bL (dH q1) (vv gl (⟨c1,(-1)⟩:eu)))) (aI 2 .live ue q2)))))
  (fun a7 =>
  .ret (let bZ:=(aa++([(⟨c1,1⟩:eu)]:List eu));bf (t3.append [.U false,(I 2),.aL [15] [.cy (ae 2 gl bZ)] (a8 [3,9,10,11])]) (eP.aH (.bR a7 (cZ 2 .live (hd gl aa (⟨c1,1⟩:eu))) (aI 2 .live ue bZ)))))))
  (fun aA =>
  .ite (fun aW =>
  .aX fun a7 =>
  .ret (let cH:=(aa++([(⟨c1,(-1)⟩:eu)]:List eu));bf (t1.append [.U false,(I 3),.U true,.aw (bp 4 (.aH (cH.length)) 1),(I 2),.aL [18] [.cy (ae 2 gl cH)] (a8 [3,9,10,11])]) (aS.aH (.gM aA aW (gN gl (⟨c1,(-1)⟩:eu)) (gX gl aa) (gz gl aa (⟨c1,(-1)⟩:eu)) a7 (cZ 2 .live (hd gl aa (⟨c1,(-1)⟩:eu))) (aI 2 .live ue cH)))))
  (fun aW =>
  .ret (bf (t1.append [.U false,(I 3),.U false,(I 2),.aL [0] [.pure] (a8 [3,9,10,11])]) (aS.aH (.bR aA aW (aI 2 .live ue aa))))))))
  (fun h1 =>
  .ret (bf [(I 1),.U false,.aL [0] [.pure] (a8 [3])] (.e2 h1 (aI 2 .live ue aa))))
theorem Tw {dr:List bM}{c0 c1:Int}{aa:List eu}{r} (h:FU dr c0 c1 aa=some r):dP a6 34 0 63 [1,1,0,1,0,0] (Fv dr c0) (Mw dr c0) (c1,aa) r:=dQ (fun _=>Ta) h
def y3 (aF:ct):Option (List eu) :=
 FU aF.bt (len_ bQ aF.bt) 0 ([]:List eu) >>= fun r1 =>
 some r1
theorem T4 {aF:ct}:bw (y3 aF) (fun r=>Con a6 63 [.dW 2 [(gA aF)] 0 0] [] (.isl 2 (r.map gl)) []):=by
 unfold y3
 exact .ar fun r1 h2 =>
  .ret (bs [(I 1),(I 1),(I 6),.s9 3 2,.aL [8] [.cy (ae 2 gl ([]:List eu))] [(3,fY (([]:List eu).length)),(9,ii),(10,ii),(11,ii)],.sub (.exit 0) [(3,.bj 0 0 0 r1.length)] [(ae 2 gl r1)],(I 2)] (.eF (cZ 2 .live (nn gl)) (aI 2 .live ue ([]:List eu)) (eZ eu) (Tw h2) (fW gl r1) (fv gl r1) (dv ue r1)) (.br (.da (.eh (r1.map gl)))))
end Go.Proofs.YtamedijmgkdlgaaGreat
