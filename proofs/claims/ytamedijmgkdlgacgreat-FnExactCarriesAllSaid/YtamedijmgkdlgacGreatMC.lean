/- Lemmas, plain functions of the program, and what they answer. No condition. -/
import Derived.Test.YtamedijmgkdlgacGreatMB
namespace Go.Proofs.YtamedijmgkdlgacGreat
set_option linter.unusedVariables false
set_option linter.unusedSimpArgs false
open Go Go.VL
def zI (af:b0)(f5:Int):Option Int :=
 if (decide ((U (f5-(af.k9.size:Int)))<(0:Int)))=true then
  some (-1)
 else
  some (U (f5-(af.k9.size:Int)))
theorem WN {af:b0}{f5:Int}:bA (zI af f5) (fun r=>Con bb 25 [.agg (b7 af),.n .i64 f5] [] (.n .i64 r) []):=by
 unfold zI
 exact (let t1:List bX:=[(J 2),(J 6),(J 2)];
  .ite (fun h1 =>
  .ret (bu (t1.append [.aa true,(J 1)]) (.e1 h1)))
  (fun h1 =>
  .ret (bu (t1.append [.aa false,(J 2)]) (.e1 h1))))
def Gr (af:List b0):(Int×Int)→S:=fun (f5,ag)=>dl [(0,.isl 4 (af.map b7)),(1,.n .i64 f5),(5,.n .i64 ag)] []
def GH (af:List b0):((Int)⊕(Unit))→dm
 | .inl a=>⟨some 0,[(1,.n .i64 a)],[]⟩
 | .inr a=>⟨none,[(4,.n .i64 (-1:Int))],[]⟩
def tI (af:List b0)(f5 ag:Int):Option ((Int×Int)⊕((Int)⊕(Unit))) :=
 if (decide (ag<(len_ b7 af)))=true then
  if 0≤ag∧ag<af.length then
  af[ag.toNat]? >>= fun aE =>
  zI aE f5 >>= fun aT =>
  if (decide (aT<(0:Int)))=true then
   some (.inr (.inr ()))
  else
   some (.inl (aT,U (ag+(1:Int))))
  else none
 else
  some (.inr (.inl f5))
def It (af:List b0)(f5 ag:Int):Option ((Int)⊕(Unit)):=iter (fun w:Int×Int=>tI af w.1 w.2) (f5,ag)
theorem T4 {af:List b0}{f5 ag:Int}:bA (tI af f5 ag) (dM bb 27 0 12 [1,1,1,0,1,0,0] (Gr af (f5,ag)) (Gr af) (GH af)):=by
 unfold tI
 exact .ite (fun h1 =>
  .aZ fun o =>
  .au fun aE av =>
  .au fun aT a2 =>
  (let t1:List bX:=[(J 4),.aa true,.az (aj 3 (an (.b4 (b7 aE)) (bs 1 (br 2 (.n .i64 aT) true) 1))),(J 2)];
  have aQ:=((.d5 h1 o.1 (cN b7 o.2) (bU b7 av) (WN aT a2) (b9.n .i64 aT)):cq _);
  .ite (fun bd =>
  .ret (bh (t1.append [.aa true,(J 1),.aL [] [] (a8 [4])]) (aQ.aJ (.e1 bd))))
  (fun bd =>
  .ret (bh (t1.append [.aa false,(J 3),.aL [] [] (a8 [0,1,5])]) (aQ.aJ (.e1 bd))))))
  (fun h1 =>
  .ret (bh [(J 4),.aa false,.aL [] [] (a8 [1])] (.e1 h1)))
theorem MU {af:List b0}{f5 ag:Int}{r} (h:It af f5 ag=some r):dN bb 27 0 12 [1,1,1,0,1,0,0] (Gr af) (GH af) (f5,ag) r:=dO (fun _=>T4) h
def zt (af:List b0)(f5:Int):Option Int :=
 if (decide ((U (f5-(len_ b7 af)))<(0:Int)))=true then
  some (-1)
 else
  It af (U (f5-(len_ b7 af))) 0 >>= fun b5 =>
  match b5 with
  | .inl ff=>(some ff)
  | .inr ff=>(some (-1))
theorem Wm {af:List b0}{f5:Int}:bA (zt af f5) (fun r=>Con bb 12 [.isl 4 (af.map b7),.n .i64 f5] [] (.n .i64 r) []):=by
 unfold zt
 exact (let t1:List bX:=[(J 1),(J 5),(J 2)];
  .ite (fun h1 =>
  .ret (bu (t1.append [.aa true,(J 1)]) (.e1 h1)))
  (fun h1 =>
  .au fun b5 ae =>
  (let t2:List bX:=t1.append [.aa false,(J 1),.aL [] [] (a8 [0,1,5])];
  (by
  rcases b5 with ff|ff
  ·exact (.ret (bu (t2.append [.sub (.exit 0) [(1,.n .i64 ff)] [],(J 2)]) (.aC h1 (MU ae))))
  ·exact (.ret (bu (t2.append [(GH af (.inr ff)).fb]) (.aC h1 (MU ae))))))))
def zl (af:List cc)(f5:Int):Option Int :=
 if (decide ((U (f5-(len_ cl af)))<(0:Int)))=true then
  some (-1)
 else
  some (U (f5-(len_ cl af)))
theorem V6 {af:List cc}{f5:Int}:bA (zl af f5) (fun r=>Con bb 13 [.isl 3 (af.map cl),.n .i64 f5] [] (.n .i64 r) []):=by
 unfold zl
 exact (let t1:List bX:=[(J 1),(J 5),(J 2)];
  .ite (fun h1 =>
  .ret (bu (t1.append [.aa true,(J 1)]) (.e1 h1)))
  (fun h1 =>
  .ret (bu (t1.append [.aa false,(J 2)]) (.e1 h1))))
def tW (af:cR)(f5:Int):Option Int :=
 zt af.b3 f5 >>= fun r1 =>
 if (decide (r1<(0:Int)))=true then
  some (-1)
 else
  zl af.bQ r1 >>= fun bi =>
  if (decide (bi<(0:Int)))=true then
   some (-1)
  else
   some bi
theorem Vq {af:cR}{f5:Int}:bA (tW af f5) (fun r=>Con bb 4 [.agg (hK af),.n .i64 f5] [] (.n .i64 r) []):=by
 unfold tW
 exact .au fun r1 o =>
  (let t1:List bX:=[(J 2),.az (bs 3 (br 2 (.n .i64 r1) true) 1),(J 2)];
  have aQ:=((.aC (Wm r1 o) (b9.n .i64 r1)):cq _);
  .ite (fun ae =>
  .ret (bu (t1.append [.aa true,(J 1)]) (aQ.aJ (.e1 ae))))
  (fun ae =>
  .au fun bi aA =>
  (let t3:List bX:=t1.append [.aa false,.az (bs 3 (br 2 (.n .i64 bi) true) 1),(J 2)];
  have eR:=aQ.aJ (.bR ae (V6 bi aA) (b9.n .i64 bi));
  .ite (fun a2 =>
  .ret (bu (t3.append [.aa true,(J 1)]) (eR.aJ (.e1 a2))))
  (fun a2 =>
  .ret (bu (t3.append [.aa false,(J 2)]) (eR.aJ (.e1 a2)))))))
def zU (af:List Int)(f5:Int):Option Int :=
 if (decide ((U (f5-(len_ eI af)))<(0:Int)))=true then
  some (-1)
 else
  some (U (f5-(len_ eI af)))
theorem Xc {af:List Int}{f5:Int}:bA (zU af f5) (fun r=>Con bb 14 [.isl 1 (af.map eI),.n .i64 f5] [] (.n .i64 r) []):=by
 unfold zU
 exact (let t1:List bX:=[(J 1),(J 5),(J 2)];
  .ite (fun h1 =>
  .ret (bu (t1.append [.aa true,(J 1)]) (.e1 h1)))
  (fun h1 =>
  .ret (bu (t1.append [.aa false,(J 2)]) (.e1 h1))))
def GI (af:List (List Int)):(Int×Int)→S:=fun (f5,ag)=>dl [(0,.isl 1 (af.map (eL 1 eI))),(1,.n .i64 f5),(5,.n .i64 ag)] []
def Hg (af:List (List Int)):((Int)⊕(Unit))→dm
 | .inl a=>⟨some 0,[(1,.n .i64 a)],[]⟩
 | .inr a=>⟨none,[(4,.n .i64 (-1:Int))],[]⟩
def wo (af:List (List Int))(f5 ag:Int):Option ((Int×Int)⊕((Int)⊕(Unit))) :=
 if (decide (ag<(len_ (eL 1 eI) af)))=true then
  if 0≤ag∧ag<af.length then
  af[ag.toNat]? >>= fun aE =>
  zU aE f5 >>= fun aT =>
  if (decide (aT<(0:Int)))=true then
   some (.inr (.inr ()))
  else
   some (.inl (aT,U (ag+(1:Int))))
  else none
 else
  some (.inr (.inl f5))
def IH (af:List (List Int))(f5 ag:Int):Option ((Int)⊕(Unit)):=iter (fun w:Int×Int=>wo af w.1 w.2) (f5,ag)
theorem Uh {af:List (List Int)}{f5 ag:Int}:bA (wo af f5 ag) (dM bb 27 0 5 [1,1,1,0,1,0,0] (GI af (f5,ag)) (GI af) (Hg af)):=by
 unfold wo
 exact .ite (fun h1 =>
  .aZ fun o =>
  .au fun aE av =>
  .au fun aT a2 =>
  (let t1:List bX:=[(J 4),.aa true,.az (aj 3 (an (.b4 ((eL 1 eI) aE)) (bs 1 (br 2 (.n .i64 aT) true) 1))),(J 2)];
  have aQ:=((.d5 h1 o.1 (cN (eL 1 eI) o.2) (bU (eL 1 eI) av) (Xc aT a2) (b9.n .i64 aT)):cq _);
  .ite (fun bd =>
  .ret (bh (t1.append [.aa true,(J 1),.aL [] [] (a8 [4])]) (aQ.aJ (.e1 bd))))
  (fun bd =>
  .ret (bh (t1.append [.aa false,(J 3),.aL [] [] (a8 [0,1,5])]) (aQ.aJ (.e1 bd))))))
  (fun h1 =>
  .ret (bh [(J 4),.aa false,.aL [] [] (a8 [1])] (.e1 h1)))
theorem M4 {af:List (List Int)}{f5 ag:Int}{r} (h:IH af f5 ag=some r):dN bb 27 0 5 [1,1,1,0,1,0,0] (GI af) (Hg af) (f5,ag) r:=dO (fun _=>Uh) h
def zJ (af:List (List Int))(f5:Int):Option Int :=
 if (decide ((U (f5-(len_ (eL 1 eI) af)))<(0:Int)))=true then
  some (-1)
 else
  IH af (U (f5-(len_ (eL 1 eI) af))) 0 >>= fun b5 =>
  match b5 with
  | .inl ff=>(some ff)
  | .inr ff=>(some (-1))
theorem WO {af:List (List Int)}{f5:Int}:bA (zJ af f5) (fun r=>Con bb 5 [.isl 1 (af.map (eL 1 eI)),.n .i64 f5] [] (.n .i64 r) []):=by
 unfold zJ
 exact (let t1:List bX:=[(J 1),(J 5),(J 2)];
  .ite (fun h1 =>
  .ret (bu (t1.append [.aa true,(J 1)]) (.e1 h1)))
  (fun h1 =>
  .au fun b5 ae =>
  (let t2:List bX:=t1.append [.aa false,(J 1),.aL [] [] (a8 [0,1,5])];
  (by
  rcases b5 with ff|ff
  ·exact (.ret (bu (t2.append [.sub (.exit 0) [(1,.n .i64 ff)] [],(J 2)]) (.aC h1 (M4 ae))))
  ·exact (.ret (bu (t2.append [(Hg af (.inr ff)).fb]) (.aC h1 (M4 ae))))))))
def C7 (af:b0):Option b0 :=
 some af
theorem WQ {af:b0}:bA (C7 af) (fun r=>Con bb 29 [.agg (b7 af)] [] (.agg (b7 r)) []):=by
 unfold C7
 exact .ret (bu [(J 2),(J 1),(J 4),(J 4),(J 4),(J 4),(J 2)] .nil)
def FQ (af:List b0):(Int×(List b0))→S:=fun (ag,ad)=>dl [(0,.isl 4 (af.map b7)),(3,.bm 0 0 0 ad.length),(4,.n .i64 ag)] [(ah 4 b7 ad)]
def Gc (af:List b0):(List b0)→dm
 | a=>⟨some 0,[(3,.bm 0 0 0 a.length)],[(ah 4 b7 a)]⟩
def tH (af:List b0)(ag:Int)(ad:List b0):Option ((Int×(List b0))⊕((List b0))) :=
 if (decide (ag<(len_ b7 af)))=true then
  if 0≤ag∧ag<af.length then
  af[ag.toNat]? >>= fun aE =>
  C7 aE >>= fun aT =>
  if 0≤ag∧ag<(ad.length:Nat) then
  if (0+ag.toNat)<ad.length then
  some (.inl (U (ag+(1:Int)),ad.set (0+ag.toNat) aT))
  else none
  else none
  else none
 else
  some (.inr ad)
def HN (af:List b0)(ag:Int)(ad:List b0):Option ((List b0)):=iter (fun w:Int×(List b0)=>tH af w.1 w.2) (ag,ad)
theorem TC {af:List b0}{ag:Int}{ad:List b0}:bA (tH af ag ad) (dM bb 23 0 17 [1,1,0,1,0,0] (FQ af (ag,ad)) (FQ af) (Gc af)):=by
 unfold tH
 exact .ite (fun h1 =>
  .aZ fun o =>
  .au fun aE av =>
  .au fun aT a2 =>
  .aZ fun bd =>
  .aZ fun bn =>
  .ret (bh [(J 4),.aa true,.az (aj 5 (an (.b4 (b7 aE)) (an (br 1 (.agg (b7 aT)) false) (aj 1 (an .fQ []))))),(J 3),.aL [0] [.cL (ah 4 b7 (ad.set (0+ag.toNat) aT))] [(0,ii),(3,fW ((ad.set (0+ag.toNat) aT).length)),(4,ii)]] (.bl h1 o.1 (cN b7 o.2) (bU b7 av) (WQ aT a2) bd.1 bd.2 (hE b7 bn) (.c9 (hs 4) (c6 4 .live (gD (cW b7 ad) (0+ag.toNat) aT)) (aK 4 .live pM (ad.set (0+ag.toNat) aT)) (hR (dL ad) (0+ag.toNat) aT)))))
  (fun h1 =>
  .ret (bh [(J 4),.aa false,.aL [0] [.pure] (a8 [3])] (.aC h1 (aK 4 .live pM ad))))
theorem UZ {af:List b0}{ag:Int}{ad:List b0}{r} (h:HN af ag ad=some r):dN bb 23 0 17 [1,1,0,1,0,0] (FQ af) (Gc af) (ag,ad) r:=dO (fun _=>TC) h
def zd (af:List b0):Option (List b0) :=
 if 0≤(len_ b7 af)∧(40:Int)*(len_ b7 af)≤281474976710656∧(len_ b7 af)<9223372036854775808 then
 HN af 0 (List.replicate (len_ b7 af).toNat (⟨ByteArray.empty,0,0,false⟩:b0):List b0) >>= fun b5 =>
 some b5
 else none
theorem VG {af:List b0}:bA (zd af) (fun a=>Con bb 17 [.isl 4 (af.map b7)] [] (.bm 0 0 0 a.length) [(ah 4 b7 a)]):=by
 unfold zd
 exact .aZ fun h1 =>
  .au fun b5 ae =>
  .ret (let q1:=(List.replicate (len_ b7 af).toNat (⟨ByteArray.empty,0,0,false⟩:b0):List b0);lC [(J 1),(J 4),(J 1),.aL [3] [.cL (ah 4 b7 q1)] [(0,ii),(3,fW (q1.length)),(4,ii)],(Gc af b5).fb,(J 2)] [0] [.pure] (.bl h1.1 (Int.le_refl (len_ b7 af)) h1.2.1 h1.2.2 (c6 4 .live (lu b7 (len_ b7 af).toNat (⟨ByteArray.empty,0,0,false⟩:b0))) (aK 4 .live pM q1) (lH (len_ b7 af).toNat ((⟨ByteArray.empty,0,0,false⟩:b0):b0)) (UZ ae) (.e1 (aK 4 .live pM b5))))
def C2 (af:cc):Option cc :=
 some af
theorem Wn {af:cc}:bA (C2 af) (fun r=>Con bb 30 [.agg (cl af)] [] (.agg (cl r)) []):=by
 unfold C2
 exact .ret (bu [(J 2),(J 1),(J 4),(J 4),(J 4),(J 2)] .nil)
def FI (af:List cc):(Int×(List cc))→S:=fun (ag,ad)=>dl [(0,.isl 3 (af.map cl)),(3,.bm 0 0 0 ad.length),(4,.n .i64 ag)] [(ah 3 cl ad)]
def FR (af:List cc):(List cc)→dm
 | a=>⟨some 0,[(3,.bm 0 0 0 a.length)],[(ah 3 cl a)]⟩
def tG (af:List cc)(ag:Int)(ad:List cc):Option ((Int×(List cc))⊕((List cc))) :=
 if (decide (ag<(len_ cl af)))=true then
  if 0≤ag∧ag<af.length then
  af[ag.toNat]? >>= fun aE =>
  C2 aE >>= fun aT =>
  if 0≤ag∧ag<(ad.length:Nat) then
  if (0+ag.toNat)<ad.length then
  some (.inl (U (ag+(1:Int)),ad.set (0+ag.toNat) aT))
  else none
  else none
  else none
 else
  some (.inr ad)
def Hh (af:List cc)(ag:Int)(ad:List cc):Option ((List cc)):=iter (fun w:Int×(List cc)=>tG af w.1 w.2) (ag,ad)
theorem Tt {af:List cc}{ag:Int}{ad:List cc}:bA (tG af ag ad) (dM bb 23 0 18 [1,1,0,1,0,0] (FI af (ag,ad)) (FI af) (FR af)):=by
 unfold tG
 exact .ite (fun h1 =>
  .aZ fun o =>
  .au fun aE av =>
  .au fun aT a2 =>
  .aZ fun bd =>
  .aZ fun bn =>
  .ret (bh [(J 4),.aa true,.az (aj 5 (an (.b4 (cl aE)) (an (br 1 (.agg (cl aT)) false) (aj 1 (an .fQ []))))),(J 3),.aL [0] [.cL (ah 3 cl (ad.set (0+ag.toNat) aT))] [(0,ii),(3,fW ((ad.set (0+ag.toNat) aT).length)),(4,ii)]] (.bl h1 o.1 (cN cl o.2) (bU cl av) (Wn aT a2) bd.1 bd.2 (hE cl bn) (.c9 (hs 3) (c6 3 .live (gD (cW cl ad) (0+ag.toNat) aT)) (aK 3 .live pK (ad.set (0+ag.toNat) aT)) (hR (dL ad) (0+ag.toNat) aT)))))
  (fun h1 =>
  .ret (bh [(J 4),.aa false,.aL [0] [.pure] (a8 [3])] (.aC h1 (aK 3 .live pK ad))))
theorem UE {af:List cc}{ag:Int}{ad:List cc}{r} (h:Hh af ag ad=some r):dN bb 23 0 18 [1,1,0,1,0,0] (FI af) (FR af) (ag,ad) r:=dO (fun _=>Tt) h
def za (af:List cc):Option (List cc) :=
 if 0≤(len_ cl af)∧(24:Int)*(len_ cl af)≤281474976710656∧(len_ cl af)<9223372036854775808 then
 Hh af 0 (List.replicate (len_ cl af).toNat (⟨0,0,0⟩:cc):List cc) >>= fun b5 =>
 some b5
 else none
theorem Vr {af:List cc}:bA (za af) (fun a=>Con bb 18 [.isl 3 (af.map cl)] [] (.bm 0 0 0 a.length) [(ah 3 cl a)]):=by
 unfold za
 exact .aZ fun h1 =>
  .au fun b5 ae =>
  .ret (let q1:=(List.replicate (len_ cl af).toNat (⟨0,0,0⟩:cc):List cc);lC [(J 1),(J 4),(J 1),.aL [3] [.cL (ah 3 cl q1)] [(0,ii),(3,fW (q1.length)),(4,ii)],(FR af b5).fb,(J 2)] [0] [.pure] (.bl h1.1 (Int.le_refl (len_ cl af)) h1.2.1 h1.2.2 (c6 3 .live (lu cl (len_ cl af).toNat (⟨0,0,0⟩:cc))) (aK 3 .live pK q1) (lH (len_ cl af).toNat ((⟨0,0,0⟩:cc):cc)) (UE ae) (.e1 (aK 3 .live pK b5))))
def y7 (af:cR):Option ((List b0)×(List cc)) :=
 zd af.b3 >>= fun r1 =>
 za af.bQ >>= fun bk =>
 some (r1,bk)
theorem Gs {af:cR}:bA (y7 af) (fun a=>Con bb 7 [.agg (hK af)] [] (.agg [.bm 0 0 0 a.1.length,.bm 0 1 0 a.2.length]) [[ab.mk 4 (a.1.map b7) .live,ab.mk 3 (a.2.map cl) .live]]):=by
 unfold y7
 exact .au fun r1 o =>
  .au fun bk av =>
  .ret (lC [(J 2),(J 1),.az (bs 2 (.call {a0:=[],dp:=[],ac:=[ii],r:= .bm 0 0 0 r1.length,fw:=[(ah 4 b7 r1)],h6:=ii,ke:=[.pure],fN:=[],fE:=true}) 2),.az (bs 2 (.call {a0:=[],dp:=[],ac:=[ii],r:= .bm 0 0 0 bk.length,fw:=[(ah 3 cl bk)],h6:=ii,ke:=[.pure],fN:=[],fE:=true}) 2),(J 2),.BI [{bG:=[(5,0),(10,0)],iB:=none},{bG:=[(1,0)]}] [([.pure,.pure],none),([.box [.at_ 0 0 r1.length,.at_ 0 1 bk.length]],none)] [(2,.bw (.dK (.at_ 1 0 0)))]] [0] [.bD [ab.mk 4 (r1.map b7) .live,ab.mk 3 (bk.map cl) .live]] (.bl (iQ 4 pM r1) (VG r1 o) (b9.bm 0 0 0 r1.length) ((qs (oX (oi Di) sU) qu):n4 [(ah 4 b7 r1)]) (iQ 3 pK bk) (Vr bk av) (b9.bm 0 0 0 bk.length) ((qs (oX (oi De) sU) qu):n4 [(ah 3 cl bk)]) (.gS (aK 4 .live pM r1) (aK 3 .live pK bk) (rfl:(kB [{bG:=[(5,0),(10,0)],iB:=none},{bG:=[(1,0)]}]) 0 0=some (5,0)) (rfl:r1.length=r1.length) (rfl:(kB [{bG:=[(5,0),(10,0)],iB:=none},{bG:=[(1,0)]}]) 0 1=some (10,0)) (rfl:bk.length=bk.length) (rfl:(kB [{bG:=[(5,0),(10,0)],iB:=none},{bG:=[(1,0)]}]) 1 0=some (1,0)) (c0 (fY (cv [0]) 4 Dh r1) (c0 (fY (cv [0]) 3 Dd bk) (o0 (b8:=(cv [0]))))))) (.bw (.agg [.id,.id])))
def Gt (af:List Int):(Int×(List Int))→S:=fun (ag,ad)=>dl [(0,.isl 1 (af.map eI)),(3,.bm 0 0 0 ad.length),(4,.n .i64 ag)] [(ah 1 eI ad)]
def GJ (af:List Int):(List Int)→dm
 | a=>⟨some 0,[(3,.bm 0 0 0 a.length)],[(ah 1 eI a)]⟩
def tJ (af:List Int)(ag:Int)(ad:List Int):Option ((Int×(List Int))⊕((List Int))) :=
 if (decide (ag<(len_ eI af)))=true then
  if 0≤ag∧ag<af.length then
  af[ag.toNat]? >>= fun aE =>
  if 0≤ag∧ag<(ad.length:Nat) then
  if (0+ag.toNat)<ad.length then
  some (.inl (U (ag+(1:Int)),ad.set (0+ag.toNat) aE))
  else none
  else none
  else none
 else
  some (.inr ad)
def Iu (af:List Int)(ag:Int)(ad:List Int):Option ((List Int)):=iter (fun w:Int×(List Int)=>tJ af w.1 w.2) (ag,ad)
theorem T5 {af:List Int}{ag:Int}{ad:List Int}:bA (tJ af ag ad) (dM bb 22 0 19 [1,1,0,1,0,0] (Gt af (ag,ad)) (Gt af) (GJ af)):=by
 unfold tJ
 exact .ite (fun h1 =>
  .aZ fun o =>
  .au fun aE av =>
  .aZ fun aA =>
  .aZ fun a2 =>
  .ret (bh [(J 4),.aa true,.az (aj 5 (an (.b4 (eI aE)) (aj 1 (an .fQ [])))),(J 3),.aL [0] [.cL (ah 1 eI (ad.set (0+ag.toNat) aE))] [(0,ii),(3,fW ((ad.set (0+ag.toNat) aE).length)),(4,ii)]] (.bl h1 o.1 (cN eI o.2) (bU eI av) aA.1 aA.2 (hE eI a2) (hs 1) (.bR (c6 1 .live (gD (cW eI ad) (0+ag.toNat) aE)) (aK 1 .live aP (ad.set (0+ag.toNat) aE)) (hR (dL ad) (0+ag.toNat) aE)))))
  (fun h1 =>
  .ret (bh [(J 4),.aa false,.aL [0] [.pure] (a8 [3])] (.aC h1 (aK 1 .live aP ad))))
theorem Vs {af:List Int}{ag:Int}{ad:List Int}{r} (h:Iu af ag ad=some r):dN bb 22 0 19 [1,1,0,1,0,0] (Gt af) (GJ af) (ag,ad) r:=dO (fun _=>T5) h
def zu (af:List Int):Option (List Int) :=
 if 0≤(len_ eI af)∧(8:Int)*(len_ eI af)≤281474976710656∧(len_ eI af)<9223372036854775808 then
 Iu af 0 (List.replicate (len_ eI af).toNat 0:List Int) >>= fun b5 =>
 some b5
 else none
theorem Wo {af:List Int}:bA (zu af) (fun a=>Con bb 19 [.isl 1 (af.map eI)] [] (.bm 0 0 0 a.length) [(ah 1 eI a)]):=by
 unfold zu
 exact .aZ fun h1 =>
  .au fun b5 ae =>
  .ret (let q1:=(List.replicate (len_ eI af).toNat 0:List Int);lC [(J 1),(J 4),(J 1),.aL [3] [.cL (ah 1 eI q1)] [(0,ii),(3,fW (q1.length)),(4,ii)],(GJ af b5).fb,(J 2)] [0] [.pure] (.bl h1.1 (Int.le_refl (len_ eI af)) h1.2.1 h1.2.2 (c6 1 .live (lu eI (len_ eI af).toNat 0)) (aK 1 .live aP q1) (lH (len_ eI af).toNat (0:Int)) (Vs ae) (.e1 (aK 1 .live aP b5))))
def Gd (af:List (List Int)):(Int×(List bt)×(List (List Int)))→S:=fun (ag,l6,cB)=>dl [(0,.isl 1 (af.map (eL 1 eI))),(3,.bm 0 0 0 l6.length),(4,.n .i64 ag)] [(ab.mk 1 (l6.map (a9 0 1 1)) .live::(bZ 1 eI cB))]
def Gu (af:List (List Int)):((List bt)×(List (List Int)))→dm
 | a=>⟨some 0,[(3,.bm 0 0 0 a.1.length)],[(ab.mk 1 (a.1.map (a9 0 1 1)) .live::(bZ 1 eI a.2))]⟩
def wb (af:List (List Int))(ag:Int)(l6:List bt)(cB:List (List Int)):Option ((Int×(List bt)×(List (List Int)))⊕((List bt)×(List (List Int)))) :=
 if (decide (ag<(len_ (eL 1 eI) af)))=true then
  if 0≤ag∧ag<af.length then
  af[ag.toNat]? >>= fun aE =>
  zu aE >>= fun aT =>
  if 0≤ag∧ag<(l6.length:Nat) then
  if (0+ag.toNat)<l6.length then
  some (.inl (U (ag+(1:Int)),l6.set (0+ag.toNat) (some (cB.length,aT.length)),cB++[aT]))
  else none
  else none
  else none
 else
  some (.inr (l6,cB))
def Ib (af:List (List Int))(ag:Int)(l6:List bt)(cB:List (List Int)):Option ((List bt)×(List (List Int))):=iter (fun w:Int×(List bt)×(List (List Int))=>wb af w.1 w.2.1 w.2.2) (ag,l6,cB)
theorem TX {af:List (List Int)}{ag:Int}{l6:List bt}{cB:List (List Int)}:bA (wb af ag l6 cB) (dM bb 23 0 8 [1,1,0,1,0,0] (Gd af (ag,l6,cB)) (Gd af) (Gu af)):=by
 unfold wb
 exact .ite (fun h1 =>
  .aZ fun o =>
  .au fun aE av =>
  .au fun aT a2 =>
  .aZ fun bd =>
  .aZ fun bn =>
  .ret (bh [(J 4),.aa true,.az (aj 5 (an (.b4 ((eL 1 eI) aE)) (an (.tv 0 (cB.length+1) (.call {a0:=[],dp:=[],ac:=[ii],r:= .bm 0 0 0 aT.length,fw:=[(ah 1 eI aT)],h6:=ii,ke:=[.pure],fN:=[],fE:=true})) (aj 1 (an (.j2 20 (kQ 0 1 1 (some (cB.length,aT.length))) .fQ) []))))),(J 3),.aL [0] [.bD (ab.mk 1 ((l6.set (0+ag.toNat) (some (cB.length,aT.length))).map (a9 0 1 1)) .live::(bZ 1 eI (cB++[aT])))] [(0,ii),(3,fW ((l6.set (0+ag.toNat) (some (cB.length,aT.length))).length)),(4,ii)]] (.bl h1 o.1 (cN (eL 1 eI) o.2) (bU (eL 1 eI) av) (iQ 1 aP aT) (Wo aT a2) (b9.bm 0 0 0 aT.length) ((qs (oX (oi xV) sU) qu):n4 [(ah 1 eI aT)]) (.gS (congrArg (· + 1) (DT (fG .live 1 eI cB) rfl)) bd.1 bd.2 (.s2 0 1 1 cB.length aT.length:kd (.bm 0 (cB.length+1) 0 aT.length) (kQ 0 1 1 (some (cB.length,aT.length)))) (hE (a9 0 1 1) bn) (hs 1) (c0 (qg (b8:=(cv [0])) 1 .live (a9 0 1 1) (gD (cW (a9 0 1 1) l6) (0+ag.toNat) (some (cB.length,aT.length))) (rq (rfl:(cv [0]) 0=some 0))) (mj (b8:=(cv [0])) (AB (fG .live 1 eI cB) (AO aP 11 0 (cB.length+1) (cW eI aT) (AP 11 0 (cB.length+1)))) (lL jh))) (hR (dL l6) (0+ag.toNat) (some (cB.length,aT.length)))))))
  (fun h1 =>
  .ret (bh [(J 4),.aa false,.aL [0] [.bD (ab.mk 1 (l6.map (a9 0 1 1)) .live::(bZ 1 eI cB))] (a8 [3])] (.aC h1 (c0 (j4 (cv [0]) 0 0 1 1 rfl l6) (dt (cv [0]) 1 jh cB)))))
theorem Vg {af:List (List Int)}{ag:Int}{l6:List bt}{cB:List (List Int)}{r} (h:Ib af ag l6 cB=some r):dN bb 23 0 8 [1,1,0,1,0,0] (Gd af) (Gu af) (ag,l6,cB) r:=dO (fun _=>TX) h
def zm (af:List (List Int)):Option ((List bt)×(List (List Int))) :=
 if 0≤(len_ (eL 1 eI) af)∧(24:Int)*(len_ (eL 1 eI) af)≤281474976710656∧(len_ (eL 1 eI) af)<9223372036854775808 then
 Ib af 0 (List.replicate (len_ (eL 1 eI) af).toNat (none:bt):List bt) ([]:List (List Int)) >>= fun b5 =>
 some (b5.1,b5.2)
 else none
theorem Ic {af:List (List Int)}:bA (zm af) (fun a=>Con bb 8 [.isl 1 (af.map (eL 1 eI))] [] (.bm 0 0 0 a.1.length) [(ab.mk 1 (a.1.map (a9 0 1 1)) .live::(bZ 1 eI a.2))]):=by
 unfold zm
 exact .aZ fun h1 =>
  .au fun b5 ae =>
  .ret (let q1:=len_ (eL 1 eI) af;let aY:=(List.replicate q1.toNat (none:bt):List bt);lC [(J 1),.az (bs 2 (.b4 [(kQ 3 1 1 (none:bt))]) 1),(J 1),.aL [3] [.bD (ab.mk 1 (aY.map (a9 0 1 1)) .live::(bZ 1 eI ([]:List (List Int))))] [(0,ii),(3,fW (aY.length)),(4,ii)],(Gu af b5).fb,(J 2)] [0] [.bD (ab.mk 1 (b5.1.map (a9 0 1 1)) .live::(bZ 1 eI b5.2))] (.gS h1.1 (Int.le_refl q1) h1.2.1 h1.2.2 (c0 (qg (b8:=(cv [3])) 1 .live (a9 0 1 1) (lu (a9 3 1 1) q1.toNat (none:bt)) (rq (rfl:(cv [3]) 3=some 0))) (mj (b8:=(cv [3])) (Kn .live 1 eI) (lL jh))) (lH q1.toNat ((none:bt):bt)) (Vg ae) (c0 (j4 (cv [0]) 0 0 1 1 rfl b5.1) (dt (cv [0]) 1 jh b5.2))))
def mB (a3 l8 ml:Int):Option Bool :=
 if (decide (l8≤a3))=true then
  some (decide (a3≤ml))
 else
  some false
theorem pL {a3 l8 ml:Int}:bA (mB a3 l8 ml) (fun r=>Con bb 26 [.n .i64 a3,.n .i64 l8,.n .i64 ml] [] (.b r) []):=by
 unfold mB
 exact .ite (fun h1 =>
  .ret (bu [(J 1),.az (bs 7 (.aa true) 1)] (.c9 h1 h1 h1 h1)))
  (fun h1 =>
  .ret (bu [(J 1),.az (aj 4 (cr 3 (an (.aa false) (aj 1 []))))] (.c9 h1 h1 h1 h1)))
def Hi (aN:ByteArray):Int→S:=fun ag=>dl [(0,.s aN),(3,.n .i64 ag)] []
def M5 (aN:ByteArray):((Unit)⊕(Unit))→dm
 | .inl a=>⟨some 0,[(0,.s aN)],[]⟩
 | .inr a=>⟨none,[(2,.b false)],[]⟩
def sC (aN:ByteArray)(ag:Int):Option ((Int)⊕((Unit)⊕(Unit))) :=
 if (decide (ag<(aN.size:Int)))=true then
  if 0≤ag∧ag<(aN.size:Nat) then
  if (decide ((97:Int)≤((aN.data.toList.getD ag.toNat 0).toNat:Int)))=true then
   if (decide (((aN.data.toList.getD ag.toNat 0).toNat:Int)≤(122:Int)))=true then
    some (.inl (U (ag+(1:Int))))
   else
    if (ag == (0:Int))=true then
     some (.inr (.inr ()))
    else
     if (decide (((aN.data.toList.getD ag.toNat 0).toNat:Int)<(48:Int)))=true then
      some (.inr (.inr ()))
     else
      if (decide ((57:Int)<((aN.data.toList.getD ag.toNat 0).toNat:Int)))=true then
       some (.inr (.inr ()))
      else
       some (.inl (U (ag+(1:Int))))
  else
   if (ag == (0:Int))=true then
    some (.inr (.inr ()))
   else
    if (decide (((aN.data.toList.getD ag.toNat 0).toNat:Int)<(48:Int)))=true then
     some (.inr (.inr ()))
    else
     if (decide ((57:Int)<((aN.data.toList.getD ag.toNat 0).toNat:Int)))=true then
      some (.inr (.inr ()))
     else
      some (.inl (U (ag+(1:Int))))
  else none
 else
  some (.inr (.inl ()))
def zn (aN:ByteArray)(ag:Int):Option ((Unit)⊕(Unit)):=iter (fun w:Int=>sC aN w) ag
theorem UF {aN:ByteArray}{ag:Int}:bA (sC aN ag) (dM bb 42 0 73 [1,0,1,0,0] (Hi aN ag) (Hi aN) (M5 aN)):=by
 unfold sC
 exact .ite (fun h1 =>
  .aZ fun o =>
  .ite (fun ae =>
  (let t1:List bX:=[(J 4),.aa true,.az (bs 9 (.aa true) 1)];
  have aQ:=((.bl h1 o.1 o.2 ae ae ae o.1 o.2 (.aC ae ae)):cq _);
  .ite (fun av =>
  .ret (bh (t1.append [.az (aj 3 (cr 3 (aj 4 (cr 2 (aj 4 (cr 1 (an (.aa false) []))))))),.aa false,(J 3),.aL [] [] (a8 [0,3])]) (aQ.aJ (.gS (cY av) (cY av) (cY av) (cY av) (cY av) (cY av) (cY av) c1))))
  (fun av =>
  (have fF:=aQ.aJ (.bR (cU av) (cU av) (cU av));
  .ite (fun aA =>
  .ret (bh (t1.append [.az (aj 6 (cr 4 (an (.aa true) (aj 1 (cr 4 (aj 1 (an (.aa true) []))))))),.aa true,(J 1),.aL [] [] (a8 [2])]) (fF.aJ (.bl aA aA aA aA (cU av) aA (cU av) cE (.d5 cE cE cE (cU av) (cU av) cE)))))
  (fun aA =>
  (have eR:=fF.aJ (.bl aA aA aA o.1 o.2 aA (cU av) aA (.e1 (cU av)));
  .ite (fun a2 =>
  .ret (bh (t1.append [.az (aj 10 (an (.aa false) (aj 1 (cr 4 (an (.aa true) (an (.aa true) [])))))),.aa true,(J 1),.aL [] [] (a8 [2])]) (eR.aJ (.gS a2 a2 a2 a2 (cU av) a2 (cU av) cE))))
  (fun a2 =>
  (let t5:List bX:=t1.append [.az (aj 10 (an (.aa false) (aj 5 (an (.aa false) (an (.aa true) [])))))];
  have kF:=eR.aJ (.bl a2 a2 a2 o.1 o.2 a2 (cU av) a2 (.e1 (cU av)));
  .ite (fun bd =>
  .ret (bh (t5.append [.aa true,(J 1),.aL [] [] (a8 [2])]) (kF.aJ (.e1 bd))))
  (fun bd =>
  .ret (bh (t5.append [.aa false,(J 3),.aL [] [] (a8 [0,3])]) (kF.aJ (.e1 bd))))))))))))
  (fun ae =>
  (let t1:List bX:=[(J 4),.aa true,.az (aj 5 (cr 4 (an (.aa false) (aj 1 []))))];
  have aQ:=((.bl h1 o.1 o.2 ae ae ae ae ae (.bR cE cE cE)):cq _);
  .ite (fun av =>
  .ret (bh (t1.append [.az (aj 6 (cr 4 (an (.aa true) (aj 1 (cr 4 (aj 2 [])))))),.aa true,(J 1),.aL [] [] (a8 [2])]) (aQ.aJ (.bl av av av av cE av cE cE (.dn cE cE cE cE cE)))))
  (fun av =>
  (have fF:=aQ.aJ (.bl av av av o.1 o.2 av cE av (.e1 cE));
  .ite (fun aA =>
  .ret (bh (t1.append [.az (aj 10 (an (.aa false) (aj 1 (cr 4 (an (.aa true) (aj 1 [])))))),.aa true,(J 1),.aL [] [] (a8 [2])]) (fF.aJ (.eJ aA aA aA aA cE aA cE))))
  (fun aA =>
  (let t4:List bX:=t1.append [.az (aj 10 (an (.aa false) (bs 5 (.aa false) 1)))];
  have mg:=fF.aJ (.gS aA aA aA o.1 o.2 aA cE aA);
  .ite (fun a2 =>
  .ret (bh (t4.append [.aa true,(J 1),.aL [] [] (a8 [2])]) (mg.aJ (.e1 a2))))
  (fun a2 =>
  .ret (bh (t4.append [.aa false,(J 3),.aL [] [] (a8 [0,3])]) (mg.aJ (.e1 a2)))))))))))
  (fun h1 =>
  .ret (bh [(J 4),.aa false,.aL [] [] (a8 [0])] (.e1 h1)))
theorem Ni {aN:ByteArray}{ag:Int}{r} (h:zn aN ag=some r):dN bb 42 0 73 [1,0,1,0,0] (Hi aN) (M5 aN) ag r:=dO (fun _=>UF) h
def sI (aN:ByteArray):Option Bool :=
 zn aN 0 >>= fun r1 =>
 match r1 with
 | .inl di=>(mB (aN.size:Int) 1 8 >>= fun bi =>
  some bi)
 | .inr di=>(some false)
theorem Xd {aN:ByteArray}:bA (sI aN) (fun r=>Con bb 73 [.s aN] [] (.b r) []):=by
 unfold sI
 exact .au fun r1 o =>
  (let t1:List bX:=[(J 1),(J 1),.aL [] [] (a8 [0,3])];
  (by
  rcases r1 with di|di
  ·exact (.au fun bi aA =>
  .ret (bu (t1.append [.sub (.exit 0) [(0,.s aN)] [],.az (bs 2 (br 3 (.b bi) true) 1)]) (.bR (Ni o) (pL bi aA) (b9.b bi))))
  ·exact (.ret (bu (t1.append [.sub (.ret) [(2,.b false)] []]) (.e1 (Ni o))))))
def pc (bP:b0):Option Bool :=
 sI bP.k9 >>= fun r1 =>
 if r1=true then
  mB bP.j5 (-50) 50 >>= fun bi =>
  if bi=true then
   mB bP.j6 (-50) 50 >>= fun bI =>
   some bI
  else
   some false
 else
  some false
theorem WR {bP:b0}:bA (pc bP) (fun r=>Con bb 49 [.agg (b7 bP)] [] (.b r) []):=by
 unfold pc
 exact .au fun r1 o =>
  (have ah:=((.aC (Xd r1 o) (b9.b r1)):cq _);
  .ite (fun ae =>
  .au fun bi aA =>
  (have aQ:=ah.aJ (.d5 ae ae ae (pL bi aA) (b9.b bi) ae);
  .ite (fun a2 =>
  .au fun bI bn =>
  .ret (bu [(J 2),.az (aj 2 (an (br 1 (.b r1) true) (aj 3 (an (br 3 (.b bi) true) (an (.aa true) (aj 3 (an (br 3 (.b bI) true) (an (.aa true) (aj 1 [])))))))))] (aQ.aJ (.d5 a2 a2 a2 (pL bI bn) (b9.b bI) a2))))
  (fun a2 =>
  .ret (bu [(J 2),.az (aj 2 (an (br 1 (.b r1) true) (aj 3 (an (br 3 (.b bi) true) (an (.aa true) (aj 1 (cr 3 (an (.aa false) (aj 1 [])))))))))] (aQ.aJ (.c9 a2 a2 a2 a2))))))
  (fun ae =>
  .ret (bu [(J 2),.az (aj 2 (an (br 1 (.b r1) true) (aj 1 (cr 3 (an (.aa false) (aj 1 (cr 3 (aj 2 []))))))))] (ah.aJ (.eJ ae ae ae ae c1 c1 c1)))))
def FT (kw:ByteArray)(dk:List b0)(d9:Int):Int→S:=fun c2=>dl [(1,.s kw),(8,.isl 4 (dk.map b7)),(9,.n .i64 d9),(10,.n .i64 c2)] []
def MF (kw:ByteArray)(dk:List b0)(d9:Int):((Unit)⊕(Int))→dm
 | .inl a=>⟨some 0,[],[]⟩
 | .inr a=>⟨none,[(4,.n .i64 a)],[]⟩
def vT (kw:ByteArray)(dk:List b0)(d9 c2:Int):Option ((Int)⊕((Unit)⊕(Int))) :=
 if (decide (c2<d9))=true then
  if 0≤c2∧c2<dk.length then
  dk[c2.toNat]? >>= fun aE =>
  if (aE.k9.toList == kw.toList)=true then
   some (.inr (.inr c2))
  else
   some (.inl (U (c2+(1:Int))))
  else none
 else
  some (.inr (.inl ()))
def wO (kw:ByteArray)(dk:List b0)(d9 c2:Int):Option ((Unit)⊕(Int)):=iter (fun w:Int=>vT kw dk d9 w) c2
theorem TD {kw:ByteArray}{dk:List b0}{d9 c2:Int}:bA (vT kw dk d9 c2) (dM bb 21 0 50 [1,0,1,0,0] (FT kw dk d9 c2) (FT kw dk d9) (MF kw dk d9)):=by
 unfold vT
 exact .ite (fun h1 =>
  .aZ fun o =>
  .au fun aE av =>
  (let t1:List bX:=[(J 1),.aa true,.az (bs 2 (.b4 (b7 aE)) 3),(J 4)];
  have aQ:=((.c9 h1 o.1 (cN b7 o.2) (bU b7 av)):cq _);
  .ite (fun aA =>
  .ret (bh (t1.append [.aa true,(J 2),.aL [] [] (a8 [4])]) (aQ.aJ (.e1 aA))))
  (fun aA =>
  .ret (bh (t1.append [.aa false,(J 2),.aL [] [] (a8 [1,8,9,10])]) (aQ.aJ (.e1 aA))))))
  (fun h1 =>
  .ret (bh [(J 1),.aa false,.aL [] [] []] (.e1 h1)))
theorem MK {kw:ByteArray}{dk:List b0}{d9 c2:Int}{r} (h:wO kw dk d9 c2=some r):dN bb 21 0 50 [1,0,1,0,0] (FT kw dk d9) (MF kw dk d9) c2 r:=dO (fun _=>TD) h
def tY (aN:cR)(kw:ByteArray):Option Int :=
 wO kw aN.b3 (len_ b7 aN.b3) 0 >>= fun r1 =>
 match r1 with
 | .inl di=>(some (-1))
 | .inr di=>(some di)
theorem VH {aN:cR}{kw:ByteArray}:bA (tY aN kw) (fun r=>Con bb 50 [.agg (hK aN),.s kw] [] (.n .i64 r) []):=by
 unfold tY
 exact .au fun r1 o =>
  (let t1:List bX:=[(J 2),(J 4),.aL [] [] (a8 [1,8,9,10])];
  (by
  rcases r1 with di|di
  ·exact (.ret (bu (t1.append [.sub (.exit 0) [] [],(J 1)]) (.e1 (MK o))))
  ·exact (.ret (bu (t1.append [.sub (.ret) [(4,.n .i64 di)] []]) (.e1 (MK o))))))
def FJ (gE:List b0)(fo:Int)(aD:List cc):Int→S:=fun gw=>dl [(1,.ref 0 0 0 0),(21,.isl 4 (gE.map b7)),(22,.n .i64 fo),(23,.n .i64 gw)] [[ab.mk 2 [[.isl 4 (gE.map b7),.isl 3 (aD.map cl)]] .live]]
def FU (gE:List b0)(fo:Int)(aD:List cc):((Unit)⊕(Unit))→dm
 | .inl a=>⟨some 0,[(1,.ref 0 0 0 0)],[[ab.mk 2 [[.isl 4 (gE.map b7),.isl 3 (aD.map cl)]] .live]]⟩
 | .inr a=>⟨none,[(2,.b false)],[]⟩
def q7 (gE:List b0)(fo:Int)(aD:List cc)(gw:Int):Option ((Int)⊕((Unit)⊕(Unit))) :=
 if (decide (gw<fo))=true then
  if 0≤gw∧gw<gE.length then
  gE[gw.toNat]? >>= fun aE =>
  pc aE >>= fun aT =>
  if aT=true then
   tY (⟨gE,aD⟩:cR) aE.k9 >>= fun c4 =>
   if (c4 != gw)=true then
    some (.inr (.inr ()))
   else
    some (.inl (U (gw+(1:Int))))
  else
   some (.inr (.inr ()))
  else none
 else
  some (.inr (.inl ()))
def tO (gE:List b0)(fo:Int)(aD:List cc)(gw:Int):Option ((Unit)⊕(Unit)):=iter (fun w:Int=>q7 gE fo aD w) gw
theorem Tu {gE:List b0}{fo:Int}{aD:List cc}{gw:Int}:bA (q7 gE fo aD gw) (dM bb 102 0 36 [1,1,0,1,0,0] (FJ gE fo aD gw) (FJ gE fo aD) (FU gE fo aD)):=by
 unfold q7
 exact .ite (fun h1 =>
  .aZ fun o =>
  .au fun aE av =>
  .au fun aT a2 =>
  (let t1:List bX:=[(J 1),.aa true,.az (bs 2 (.b4 (b7 aE)) 3)];
  have aQ:=((.d5 h1 o.1 (cN b7 o.2) (bU b7 av) (WR aT a2) (b9.b aT)):cq _);
  .ite (fun bd =>
  .au fun c4 cp =>
  (let t3:List bX:=t1.append [.az (aj 1 (an (br 1 (.b aT) true) (aj 5 (an (br 2 (.n .i64 c4) true) (aj 2 (an (.aa false) []))))))];
  have eR:=aQ.aJ (.bl (cY bd) (cY bd) (cY bd) (cY bd) (VH c4 cp) (b9.n .i64 c4) (cY bd) (cY bd) (.e1 (cY bd)));
  .ite (fun cK =>
  .ret (bh (t3.append [.aa true,(J 1),.aL [] [] (a8 [2])]) (eR.aJ (.e1 cK))))
  (fun cK =>
  .ret (bh (t3.append [.aa false,(J 2),.aL [0] [.box [.id,.id]] (a8 [1,21,22,23])]) (eR.aJ (.e1 cK))))))
  (fun bd =>
  .ret (bh (t1.append [.az (aj 1 (an (br 1 (.b aT) true) (aj 2 (cr 6 (an (.aa true) []))))),.aa true,(J 1),.aL [] [] (a8 [2])]) (aQ.aJ (.gS (cU bd) (cU bd) (cU bd) (cU bd) (cU bd) (cU bd) (cU bd) cE))))))
  (fun h1 =>
  .ret (bh [(J 1),.aa false,.aL [0] [.box [.id,.id]] (a8 [1])] (.e1 h1)))
theorem MG {gE:List b0}{fo:Int}{aD:List cc}{gw:Int}{r} (h:tO gE fo aD gw=some r):dN bb 102 0 36 [1,1,0,1,0,0] (FJ gE fo aD) (FU gE fo aD) gw r:=dO (fun _=>Tu) h
def FK (nR:Int)(jw:List cc)(e2:Int)(aF:List b0):Int→S:=fun gx=>dl [(1,.ref 0 0 0 0),(5,.n .i64 nR),(45,.isl 3 (jw.map cl)),(46,.n .i64 e2),(47,.n .i64 gx)] [[ab.mk 2 [[.isl 4 (aF.map b7),.isl 3 (jw.map cl)]] .live]]
def MB (nR:Int)(jw:List cc)(e2:Int)(aF:List b0):((Unit)⊕(Unit))→dm
 | .inl a=>⟨some 2,[],[]⟩
 | .inr a=>⟨none,[(2,.b false)],[]⟩
def yU (nR:Int)(jw:List cc)(e2:Int)(aF:List b0)(gx:Int):Option ((Int)⊕((Unit)⊕(Unit))) :=
 if (decide (gx<e2))=true then
  if 0≤gx∧gx<jw.length then
  jw[gx.toNat]? >>= fun aE =>
  mB aE.dJ 0 nR >>= fun aT =>
  if aT=true then
   mB aE.ej 0 nR >>= fun c4 =>
   if c4=true then
    mB aE.i5 1 3 >>= fun dc =>
    if dc=true then
     if 0≤aE.dJ∧aE.dJ<aF.length then
     aF[aE.dJ.toNat]? >>= fun yt =>
     if 0≤aE.ej∧aE.ej<aF.length then
     aF[aE.ej.toNat]? >>= fun yu =>
     if (yt.j5 == yu.j5)=true then
      if (yt.j6 == yu.j6)=true then
       some (.inr (.inr ()))
      else
       if yt.k6=true then
        if yu.k6=true then
         some (.inr (.inr ()))
        else
         some (.inl (U (gx+(1:Int))))
       else
        some (.inl (U (gx+(1:Int))))
     else
      if yt.k6=true then
       if yu.k6=true then
        some (.inr (.inr ()))
       else
        some (.inl (U (gx+(1:Int))))
      else
       some (.inl (U (gx+(1:Int))))
     else none
     else none
    else
     some (.inr (.inr ()))
   else
    some (.inr (.inr ()))
  else
   some (.inr (.inr ()))
  else none
 else
  some (.inr (.inl ()))
def Hj (nR:Int)(jw:List cc)(e2:Int)(aF:List b0)(gx:Int):Option ((Unit)⊕(Unit)):=iter (fun w:Int=>yU nR jw e2 aF w) gx
theorem Tv {nR:Int}{jw:List cc}{e2:Int}{aF:List b0}{gx:Int}:bA (yU nR jw e2 aF gx) (dM bb 102 0 36 [1,1,1,1,0,1,0,0] (FK nR jw e2 aF gx) (FK nR jw e2 aF) (MB nR jw e2 aF)):=by
 unfold yU
 exact .ite (fun h1 =>
  .aZ fun o =>
  .au fun aE av =>
  .au fun aT a2 =>
  (let t1:List bX:=[(J 1),.aa true,.az (bs 1 (.b4 (cl aE)) 2)];
  have aQ:=((.d5 h1 o.1 (cN cl o.2) (bU cl av) (pL aT a2) (b9.b aT)):cq _);
  .ite (fun bd =>
  .au fun c4 cp =>
  (have fF:=aQ.aJ (.gS (cY bd) (cY bd) (cY bd) (cY bd) (pL c4 cp) (b9.b c4) (cY bd) (cY bd));
  .ite (fun cK =>
  .au fun dc e4 =>
  (let t4:List bX:=t1.append [.az (aj 3 (an (br 3 (.b aT) true) (aj 5 (an (br 3 (.b c4) true) (aj 1 (an (.aa false) (aj 3 (an (br 3 (.b dc) true) (aj 1 (an (.aa false) []))))))))))];
  have mg:=fF.aJ (.eJ (cY cK) (cY cK) (cY cK) (pL dc e4) (b9.b dc) (cY cK) (cY cK));
  .ite (fun ev =>
  .aZ fun ew =>
  .au fun yt hY =>
  .aZ fun hy =>
  .au fun yu gA =>
  (let t6:List bX:=t4.append [.aa false,.az (bs 5 (.b4 (b7 yt)) 2),.az (bs 5 (.b4 (b7 yu)) 2)];
  have Mf:=mg.aJ (.eJ (cY ev) ew.1 (cN b7 ew.2) (bU b7 hY) hy.1 (cN b7 hy.2) (bU b7 gA));
  .ite (fun fk =>
  .ite (fun gL =>
  .ret (bh (t6.append [.az (aj 11 (an (.aa true) (aj 1 (cr 3 (aj 2 (cr 1 (an (.aa true) []))))))),.aa true,(J 1),.aL [] [] (a8 [2])]) (Mf.aJ (.bl fk fk fk fk fk fk gL gL (.c9 gL gL gL cE)))))
  (fun gL =>
  (have my:=Mf.aJ (.bl fk fk fk fk fk fk gL gL (.e1 gL));
  .ite (fun iN =>
  (let t9:List bX:=t6.append [.az (aj 11 (an (.aa true) (aj 6 (an (.aa true) (an (.aa false) [])))))];
  .ite (fun mV =>
  .ret (bh (t9.append [.aa true,(J 1),.aL [] [] (a8 [2])]) (my.aJ (.d5 iN iN gL iN gL mV))))
  (fun mV =>
  .ret (bh (t9.append [.aa false,(J 2),.aL [0] [.box [.id,.id]] (a8 [1,5,45,46,47])]) (my.aJ (.d5 iN iN gL iN gL mV))))))
  (fun iN =>
  .ret (bh (t6.append [.az (aj 11 (an (.aa true) (aj 4 (cr 2 (an (.aa false) (an (.aa false) [])))))),.aa false,(J 2),.aL [0] [.box [.id,.id]] (a8 [1,5,45,46,47])]) (my.aJ (.d5 iN iN gL iN gL c1)))))))
  (fun fk =>
  (have my:=Mf.aJ (.bl fk fk fk fk fk fk c1 c1 (.e1 c1));
  .ite (fun gL =>
  (let t9:List bX:=t6.append [.az (aj 6 (cr 5 (an (.aa false) (bs 6 (.aa true) 1))))];
  .ite (fun iN =>
  .ret (bh (t9.append [.aa true,(J 1),.aL [] [] (a8 [2])]) (my.aJ (.dn gL gL c1 gL iN))))
  (fun iN =>
  .ret (bh (t9.append [.aa false,(J 2),.aL [0] [.box [.id,.id]] (a8 [1,5,45,46,47])]) (my.aJ (.dn gL gL c1 gL iN))))))
  (fun gL =>
  .ret (bh (t6.append [.az (aj 6 (cr 5 (an (.aa false) (aj 4 (cr 2 (an (.aa false) (aj 1 []))))))),.aa false,(J 2),.aL [0] [.box [.id,.id]] (a8 [1,5,45,46,47])]) (my.aJ (.dn gL gL c1 gL c1))))))))
  (fun ev =>
  .ret (bh (t4.append [.aa true,(J 1),.aL [] [] (a8 [2])]) (mg.aJ (.e1 (cU ev)))))))
  (fun cK =>
  .ret (bh (t1.append [.az (aj 3 (an (br 3 (.b aT) true) (aj 5 (an (br 3 (.b c4) true) (aj 1 (an (.aa false) (aj 1 (cr 4 (an (.aa true) []))))))))),.aa true,(J 1),.aL [] [] (a8 [2])]) (fF.aJ (.d5 (cU cK) (cU cK) (cU cK) (cU cK) (cU cK) cE))))))
  (fun bd =>
  .ret (bh (t1.append [.az (aj 3 (an (br 3 (.b aT) true) (aj 2 (cr 5 (an (.aa true) (aj 1 (cr 4 (aj 1 [])))))))),.aa true,(J 1),.aL [] [] (a8 [2])]) (aQ.aJ (.bl (cU bd) (cU bd) (cU bd) (cU bd) (cU bd) (cU bd) cE cE (.bR cE cE cE)))))))
  (fun h1 =>
  .ret (bh [(J 1),.aa false,.aL [] [] []] (.e1 h1)))
theorem MH {nR:Int}{jw:List cc}{e2:Int}{aF:List b0}{gx:Int}{r} (h:Hj nR jw e2 aF gx=some r):dN bb 102 0 36 [1,1,1,1,0,1,0,0] (FK nR jw e2 aF) (MB nR jw e2 aF) gx r:=dO (fun _=>Tv) h
def k3 (aN:cR):Option Bool :=
 if (decide ((6:Int)<(len_ b7 aN.b3)))=true then
  some false
 else
  if (decide ((8:Int)<(len_ cl aN.bQ)))=true then
   some false
  else
   tO aN.b3 (len_ b7 aN.b3) aN.bQ 0 >>= fun bk =>
   match bk with
   | .inl fU=>(Hj (U ((len_ b7 aN.b3)-(1:Int))) aN.bQ (len_ cl aN.bQ) aN.b3 0 >>= fun cf =>
    match cf with
    | .inl k1=>(some true)
    | .inr k1=>(some false))
   | .inr fU=>(some false)
theorem Vt {aN:cR}:bA (k3 aN) (fun r=>Con bb 36 [.agg (hK aN)] [] (.b r) []):=by
 unfold k3
 exact .ite (fun h1 =>
  .ret (bu [(J 2),.az (aj 5 (cr 4 (an (.aa true) []))),.aa true,(J 1)] (.d5 h1 h1 h1 h1 h1 cE)))
  (fun h1 =>
  (let t1:List bX:=[(J 2),.az (aj 9 (an (.aa false) []))];
  .ite (fun o =>
  .ret (bu (t1.append [.aa true,(J 1)]) (.d5 h1 h1 h1 h1 h1 o)))
  (fun o =>
  .au fun bk av =>
  (let t2:List bX:=t1.append [.aa false,(J 4),.aL [0] [.box [.id,.id]] (a8 [1,21,22,23])];
  (by
  rcases bk with fU|fU
  ·exact (.au fun cf bd =>
  (let t3:List bX:=t2.append [(FU aN.b3 (len_ b7 aN.b3) aN.bQ (.inl fU)).fb,(J 5),(J 4),.aL [0] [.box [.id,.id]] (a8 [1,5,45,46,47])];
  have eR:=((.eJ h1 h1 h1 h1 h1 o (MG av)):cq _);
  (by
  rcases cf with k1|k1
  ·exact (.ret (bu (t3.append [.sub (.exit 2) [] [],(J 1)]) (eR.aJ (.e1 (MH bd)))))
  ·exact (.ret (bu (t3.append [.sub (.ret) [(2,.b false)] []]) (eR.aJ (.e1 (MH bd))))))))
  ·exact (.ret (bu (t2.append [.sub (.ret) [(2,.b false)] []]) (.eJ h1 h1 h1 h1 h1 o (MG av)))))))))
def Hk (gU:List Int)(fA:Int):Int→S:=fun gE=>dl [(19,.isl 1 (gU.map eI)),(20,.n .i64 fA),(21,.n .i64 gE)] []
def M6 (gU:List Int)(fA:Int):((Unit)⊕(Unit))→dm
 | .inl a=>⟨some 0,[],[]⟩
 | .inr a=>⟨none,[(4,.b false)],[]⟩
def wH (gU:List Int)(fA gE:Int):Option ((Int)⊕((Unit)⊕(Unit))) :=
 if (decide (gE<fA))=true then
  if 0≤gE∧gE<gU.length then
  gU[gE.toNat]? >>= fun aE =>
  mB aE (-100) 100 >>= fun aT =>
  if aT=true then
   some (.inl (U (gE+(1:Int))))
  else
   some (.inr (.inr ()))
  else none
 else
  some (.inr (.inl ()))
def I0 (gU:List Int)(fA gE:Int):Option ((Unit)⊕(Unit)):=iter (fun w:Int=>wH gU fA w) gE
theorem UG {gU:List Int}{fA gE:Int}:bA (wH gU fA gE) (dM bb 29 0 27 [1,1,0,1,0,0] (Hk gU fA gE) (Hk gU fA) (M6 gU fA)):=by
 unfold wH
 exact .ite (fun h1 =>
  .aZ fun o =>
  .au fun aE av =>
  .au fun aT a2 =>
  (let t1:List bX:=[(J 1),.aa true,.az (bs 1 (.b4 (eI aE)) 1),.az (bs 1 (br 3 (.b aT) true) 1)];
  have aQ:=((.d5 h1 o.1 (cN eI o.2) (bU eI av) (pL aT a2) (b9.b aT)):cq _);
  .ite (fun bd =>
  .ret (bh (t1.append [.aa false,(J 2),.aL [] [] (a8 [19,20,21])]) (aQ.aJ (.e1 (cY bd)))))
  (fun bd =>
  .ret (bh (t1.append [.aa true,(J 1),.aL [] [] (a8 [4])]) (aQ.aJ (.e1 (cU bd)))))))
  (fun h1 =>
  .ret (bh [(J 1),.aa false,.aL [] [] []] (.e1 h1)))
theorem Nj {gU:List Int}{fA gE:Int}{r} (h:I0 gU fA gE=some r):dN bb 29 0 27 [1,1,0,1,0,0] (Hk gU fA) (M6 gU fA) gE r:=dO (fun _=>UG) h
def xe (aN:cR)(dg:List Int):Option Bool :=
 k3 aN >>= fun r1 =>
 if r1=true then
  if ((len_ eI dg) != (U ((2:Int)*(len_ b7 aN.b3))))=true then
   some false
  else
   I0 dg (len_ eI dg) 0 >>= fun aT =>
   match aT with
   | .inl oS=>(some true)
   | .inr oS=>(some false)
 else
  some false
theorem NG {aN:cR}{dg:List Int}:bA (xe aN dg) (fun r=>Con bb 27 [.agg (hK aN),.isl 1 (dg.map eI)] [] (.b r) []):=by
 unfold xe
 exact .au fun r1 o =>
  (have ah:=((.aC (Vt r1 o) (b9.b r1)):cq _);
  .ite (fun ae =>
  (let t2:List bX:=[(J 2),.az (aj 1 (an (br 1 (.b r1) true) (aj 9 (an (.aa false) []))))];
  have fF:=ah.aJ (.gS (cY ae) (cY ae) (cY ae) (cY ae) (cY ae) (cY ae) (cY ae) (cY ae));
  .ite (fun av =>
  .ret (bu (t2.append [.aa true,(J 1)]) (fF.aJ (.e1 av))))
  (fun av =>
  .au fun aT a2 =>
  (let t4:List bX:=t2.append [.aa false,(J 3),.aL [] [] (a8 [19,20,21])];
  (by
  rcases aT with oS|oS
  ·exact (.ret (bu (t4.append [.sub (.exit 0) [] [],(J 1)]) (fF.aJ (.aC av (Nj a2)))))
  ·exact (.ret (bu (t4.append [.sub (.ret) [(4,.b false)] []]) (fF.aJ (.aC av (Nj a2))))))))))
  (fun ae =>
  .ret (bu [(J 2),.az (aj 1 (an (br 1 (.b r1) true) (aj 2 (cr 7 (an (.aa true) []))))),.aa true,(J 1)] (ah.aJ (.bl (cU ae) (cU ae) (cU ae) (cU ae) (cU ae) (cU ae) (cU ae) (cU ae) (.e1 cE))))))
def GK (cn:List (List Int))(cZ:Int)(aF:List b0)(aD:List cc):Int→S:=fun b1=>dl [(2,.ref 0 0 0 0),(11,.isl 1 (cn.map (eL 1 eI))),(12,.n .i64 cZ),(13,.n .i64 b1)] [[ab.mk 2 [[.isl 4 (aF.map b7),.isl 3 (aD.map cl)]] .live]]
def MV (cn:List (List Int))(cZ:Int)(aF:List b0)(aD:List cc):((Unit)⊕(Unit))→dm
 | .inl a=>⟨some 0,[],[]⟩
 | .inr a=>⟨none,[(4,.b false)],[]⟩
def wq (cn:List (List Int))(cZ:Int)(aF:List b0)(aD:List cc)(b1:Int):Option ((Int)⊕((Unit)⊕(Unit))) :=
 if (decide (b1<cZ))=true then
  if 0≤b1∧b1<cn.length then
  cn[b1.toNat]? >>= fun aE =>
  xe (⟨aF,aD⟩:cR) aE >>= fun aT =>
  if aT=true then
   some (.inl (U (b1+(1:Int))))
  else
   some (.inr (.inr ()))
  else none
 else
  some (.inr (.inl ()))
def II (cn:List (List Int))(cZ:Int)(aF:List b0)(aD:List cc)(b1:Int):Option ((Unit)⊕(Unit)):=iter (fun w:Int=>wq cn cZ aF aD w) b1
theorem Ui {cn:List (List Int)}{cZ:Int}{aF:List b0}{aD:List cc}{b1:Int}:bA (wq cn cZ aF aD b1) (dM bb 22 0 15 [1,1,0,1,0,0] (GK cn cZ aF aD b1) (GK cn cZ aF aD) (MV cn cZ aF aD)):=by
 unfold wq
 exact .ite (fun h1 =>
  .aZ fun o =>
  .au fun aE av =>
  .au fun aT a2 =>
  (let t1:List bX:=[(J 1),.aa true,.az (bs 1 (.b4 ((eL 1 eI) aE)) 1),.az (bs 2 (br 2 (.b aT) true) 1)];
  have aQ:=((.d5 h1 o.1 (cN (eL 1 eI) o.2) (bU (eL 1 eI) av) (NG aT a2) (b9.b aT)):cq _);
  .ite (fun bd =>
  .ret (bh (t1.append [.aa false,(J 2),.aL [0] [.box [.id,.id]] (a8 [2,11,12,13])]) (aQ.aJ (.e1 (cY bd)))))
  (fun bd =>
  .ret (bh (t1.append [.aa true,(J 1),.aL [] [] (a8 [4])]) (aQ.aJ (.e1 (cU bd)))))))
  (fun h1 =>
  .ret (bh [(J 1),.aa false,.aL [] [] []] (.e1 h1)))
theorem M7 {cn:List (List Int)}{cZ:Int}{aF:List b0}{aD:List cc}{b1:Int}{r} (h:II cn cZ aF aD b1=some r):dN bb 22 0 15 [1,1,0,1,0,0] (GK cn cZ aF aD) (MV cn cZ aF aD) b1 r:=dO (fun _=>Ui) h
def sH (aN:cR)(h9:List (List Int)):Option Bool :=
 mB (len_ (eL 1 eI) h9) 1 6 >>= fun r1 =>
 if r1=true then
  II h9 (len_ (eL 1 eI) h9) aN.b3 aN.bQ 0 >>= fun bi =>
  match bi with
  | .inl mZ=>(some true)
  | .inr mZ=>(some false)
 else
  some false
theorem Nw {aN:cR}{h9:List (List Int)}:bA (sH aN h9) (fun r=>Con bb 15 [.agg (hK aN),.isl 1 (h9.map (eL 1 eI))] [] (.b r) []):=by
 unfold sH
 exact .au fun r1 o =>
  (let t1:List bX:=[(J 2),.az (bs 2 (br 3 (.b r1) true) 1)];
  have aQ:=((.aC (pL r1 o) (b9.b r1)):cq _);
  .ite (fun ae =>
  .au fun bi aA =>
  (let t3:List bX:=t1.append [.aa false,(J 3),.aL [0] [.box [.id,.id]] (a8 [2,11,12,13])];
  (by
  rcases bi with mZ|mZ
  ·exact (.ret (bu (t3.append [.sub (.exit 0) [] [],(J 1)]) (aQ.aJ (.aC (cY ae) (M7 aA)))))
  ·exact (.ret (bu (t3.append [.sub (.ret) [(4,.b false)] []]) (aQ.aJ (.aC (cY ae) (M7 aA))))))))
  (fun ae =>
  .ret (bu (t1.append [.aa true,(J 1)]) (aQ.aJ (.e1 (cU ae))))))
def FV (cn:List cc)(cZ:Int):(Int×(List Int)×(List Int))→S:=fun (b1,ad,ap)=>dl [(4,.bm 0 0 0 ad.length),(5,.bm 1 0 0 ap.length),(11,.isl 3 (cn.map cl)),(12,.n .i64 cZ),(13,.n .i64 b1)] [(ah 1 eI ad),(ah 1 eI ap)]
def Ge (cn:List cc)(cZ:Int):((List Int)×(List Int))→dm
 | a=>⟨some 0,[(4,.bm 0 0 0 a.1.length),(5,.bm 1 0 0 a.2.length)],[(ah 1 eI a.1),(ah 1 eI a.2)]⟩
def vU (cn:List cc)(cZ b1:Int)(ad ap:List Int):Option ((Int×(List Int)×(List Int))⊕((List Int)×(List Int))) :=
 if (decide (b1<cZ))=true then
  if 0≤b1∧b1<cn.length then
  cn[b1.toNat]? >>= fun aE =>
  if (aE.i5 != (2:Int))=true then
   if (ad++([b1]:List Int)).length*8≤140737488355328 then
   if (ap++([1]:List Int)).length*8≤140737488355328 then
   if (aE.i5 != (1:Int))=true then
    if ((ad++([b1]:List Int))++([b1]:List Int)).length*8≤140737488355328 then
    if ((ap++([1]:List Int))++([(-1)]:List Int)).length*8≤140737488355328 then
    some (.inl (U (b1+(1:Int)),(ad++([b1]:List Int))++([b1]:List Int),(ap++([1]:List Int))++([(-1)]:List Int)))
    else none
    else none
   else
    some (.inl (U (b1+(1:Int)),ad++([b1]:List Int),ap++([1]:List Int)))
   else none
   else none
  else
   if (aE.i5 != (1:Int))=true then
    if (ad++([b1]:List Int)).length*8≤140737488355328 then
    if (ap++([(-1)]:List Int)).length*8≤140737488355328 then
    some (.inl (U (b1+(1:Int)),ad++([b1]:List Int),ap++([(-1)]:List Int)))
    else none
    else none
   else
    some (.inl (U (b1+(1:Int)),ad,ap))
  else none
 else
  some (.inr (ad,ap))
def HO (cn:List cc)(cZ b1:Int)(ad ap:List Int):Option ((List Int)×(List Int)):=iter (fun w:Int×(List Int)×(List Int)=>vU cn cZ w.1 w.2.1 w.2.2) (b1,ad,ap)
theorem TE {cn:List cc}{cZ b1:Int}{ad ap:List Int}:bA (vU cn cZ b1 ad ap) (dM bb 41 0 55 [1,1,1,0,1,0,0] (FV cn cZ (b1,ad,ap)) (FV cn cZ) (Ge cn cZ)):=by
 unfold vU
 exact .ite (fun h1 =>
  .aZ fun o =>
  .au fun aE av =>
  (let t1:List bX:=[(J 1),.aa true,.az (bs 2 (.b4 (cl aE)) 3),(J 3)];
  have aQ:=((.c9 h1 o.1 (cN cl o.2) (bU cl av)):cq _);
  .ite (fun aA =>
  .aZ fun a2 =>
  .aZ fun bd =>
  (let t3:List bX:=t1.append [.aa true,.az (bs 3 (.aJ ((ad++([b1]:List Int)).length)) 1),.az (bs 2 (.aJ ((ap++([1]:List Int)).length)) 1),(J 3)];
  have eR:=aQ.aJ (.bl aA (gZ eI b1) (hk eI ad) (gO eI ad b1) a2 (gZ eI 1) (hk eI ap) (gO eI ap 1) (.e1 bd));
  .ite (fun bn =>
  .aZ fun cp =>
  .aZ fun cK =>
  .ret (let q1:=(ad++([b1]:List Int));let aY:=(ap++([1]:List Int));let bJ:=(aY++([(-1)]:List Int));let bS:=(q1++([b1]:List Int));bh (t3.append [.aa true,.az (bs 3 (.aJ (bS.length)) 1),.az (bs 2 (.aJ (bJ.length)) 1),(J 2),.aL [27,31] [.cL (ah 1 eI bS),.cL (ah 1 eI bJ)] (a8 [4,5,11,12,13])]) (eR.aJ (.bl bn (gZ eI b1) (oe (ht eI ad b1) (dL q1)) (gO eI q1 b1) cp (gZ eI (-1)) (oe (ht eI ap 1) (dL aY)) (gO eI aY (-1)) (.dn cK (c6 1 .live (jc (ht eI ad b1) (dL q1) (vm eI b1))) (aK 1 .live aP bS) (c6 1 .live (jc (ht eI ap 1) (dL aY) (vm eI (-1)))) (aK 1 .live aP bJ))))))
  (fun bn =>
  .ret (let cA:=(ad++([b1]:List Int));let d4:=(ap++([1]:List Int));bh (t3.append [.aa false,(J 2),.aL [15,19] [.cL (ah 1 eI cA),.cL (ah 1 eI d4)] (a8 [4,5,11,12,13])]) (eR.aJ (.dn bn (c6 1 .live (ht eI ad b1)) (aK 1 .live aP cA) (c6 1 .live (ht eI ap 1)) (aK 1 .live aP d4)))))))
  (fun aA =>
  .ite (fun a2 =>
  .aZ fun bd =>
  .aZ fun bn =>
  .ret (let fP:=(ap++([(-1)]:List Int));let eB:=(ad++([b1]:List Int));bh (t1.append [.aa false,(J 3),.aa true,.az (bs 3 (.aJ (eB.length)) 1),.az (bs 2 (.aJ (fP.length)) 1),(J 2),.aL [18,22] [.cL (ah 1 eI eB),.cL (ah 1 eI fP)] (a8 [4,5,11,12,13])]) (aQ.aJ (.bl aA a2 (gZ eI b1) (hk eI ad) (gO eI ad b1) bd (gZ eI (-1)) (hk eI ap) (.d5 (gO eI ap (-1)) bn (c6 1 .live (ht eI ad b1)) (aK 1 .live aP eB) (c6 1 .live (ht eI ap (-1))) (aK 1 .live aP fP))))))
  (fun a2 =>
  .ret (bh (t1.append [.aa false,(J 3),.aa false,(J 2),.aL [0,1] [.pure,.pure] (a8 [4,5,11,12,13])]) (aQ.aJ (.c9 aA a2 (aK 1 .live aP ad) (aK 1 .live aP ap))))))))
  (fun h1 =>
  .ret (bh [(J 1),.aa false,.aL [0,1] [.pure,.pure] (a8 [4,5])] (.bR h1 (aK 1 .live aP ad) (aK 1 .live aP ap))))
theorem U0 {cn:List cc}{cZ b1:Int}{ad ap:List Int}{r} (h:HO cn cZ b1 ad ap=some r):dN bb 41 0 55 [1,1,1,0,1,0,0] (FV cn cZ) (Ge cn cZ) (b1,ad,ap) r:=dO (fun _=>TE) h
def ze (aN:cR):Option ((List Int)×(List Int)) :=
 HO aN.bQ (len_ cl aN.bQ) 0 ([]:List Int) ([]:List Int) >>= fun r1 =>
 some (r1.1,r1.2)
theorem VI {aN:cR}:bA (ze aN) (fun r=>Con bb 55 [.agg (hK aN)] [] (.dZ [.isl 1 (r.1.map eI),.isl 1 (r.2.map eI)]) []):=by
 unfold ze
 exact .au fun r1 o =>
  .ret (let q1:=(c6 1 .live (show []=(([]:List Int)).map eI from rfl));let aY:=(aK 1 .live aP ([]:List Int));let bJ:=(ah 1 eI ([]:List Int));bu [(J 3),(J 2),(J 2),(J 4),.aL [3,5] [.cL bJ,.cL bJ] [(4,fW (([]:List Int).length)),(5,fW (([]:List Int).length)),(11,ii),(12,ii),(13,ii)],(Ge aN.bQ (len_ cl aN.bQ) r1).fb,(J 4)] (.bl q1 aY q1 aY (fH Int) (fH Int) (U0 o) (gN eI r1.1) (.dn (fT eI r1.1) (dS aP r1.1) (gN eI r1.2) (fT eI r1.2) (dS aP r1.2))) (.comp [.dK (.e5 (r1.1.map eI)),.dK (.e5 (r1.2.map eI))]))
def GL (dk:List b0)(d9:Int):(Int×(List Int))→S:=fun (c2,ad)=>dl [(3,.bm 0 0 0 ad.length),(8,.isl 4 (dk.map b7)),(9,.n .i64 d9),(10,.n .i64 c2)] [(ah 1 eI ad)]
def Hl (dk:List b0)(d9:Int):(List Int)→dm
 | a=>⟨some 0,[(3,.bm 0 0 0 a.length)],[(ah 1 eI a)]⟩
def y1 (dk:List b0)(d9 c2:Int)(ad:List Int):Option ((Int×(List Int))⊕((List Int))) :=
 if (decide (c2<d9))=true then
  if 0≤c2∧c2<dk.length then
  dk[c2.toNat]? >>= fun aE =>
  if aE.k6=true then
   some (.inl (U (c2+(1:Int)),ad))
  else
   if (ad++([c2]:List Int)).length*8≤140737488355328 then
   some (.inl (U (c2+(1:Int)),ad++([c2]:List Int)))
   else none
  else none
 else
  some (.inr ad)
def IJ (dk:List b0)(d9 c2:Int)(ad:List Int):Option ((List Int)):=iter (fun w:Int×(List Int)=>y1 dk d9 w.1 w.2) (c2,ad)
theorem Uj {dk:List b0}{d9 c2:Int}{ad:List Int}:bA (y1 dk d9 c2 ad) (dM bb 24 0 57 [1,1,0,1,0,0] (GL dk d9 (c2,ad)) (GL dk d9) (Hl dk d9)):=by
 unfold y1
 exact .ite (fun h1 =>
  .aZ fun o =>
  .au fun aE av =>
  (let t1:List bX:=[(J 1),.aa true,.az (bs 2 (.b4 (b7 aE)) 3),(J 3)];
  have aQ:=((.c9 h1 o.1 (cN b7 o.2) (bU b7 av)):cq _);
  .ite (fun aA =>
  .ret (bh (t1.append [.aa false,(J 2),.aL [0] [.pure] (a8 [3,8,9,10])]) (aQ.aJ (.aC (cY aA) (aK 1 .live aP ad)))))
  (fun aA =>
  .aZ fun a2 =>
  .ret (let q1:=(ad++([c2]:List Int));bh (t1.append [.aa true,.az (bs 3 (.aJ (q1.length)) 1),(J 2),.aL [14] [.cL (ah 1 eI q1)] (a8 [3,8,9,10])]) (aQ.aJ (.eJ (cU aA) (gZ eI c2) (hk eI ad) (gO eI ad c2) a2 (c6 1 .live (ht eI ad c2)) (aK 1 .live aP q1)))))))
  (fun h1 =>
  .ret (bh [(J 1),.aa false,.aL [0] [.pure] (a8 [3])] (.aC h1 (aK 1 .live aP ad))))
theorem VJ {dk:List b0}{d9 c2:Int}{ad:List Int}{r} (h:IJ dk d9 c2 ad=some r):dN bb 24 0 57 [1,1,0,1,0,0] (GL dk d9) (Hl dk d9) (c2,ad) r:=dO (fun _=>Uj) h
def ua (aN:cR):Option (List Int) :=
 IJ aN.b3 (len_ b7 aN.b3) 0 ([]:List Int) >>= fun r1 =>
 some r1
theorem IK {aN:cR}:bA (ua aN) (fun r=>Con bb 57 [.agg (hK aN)] [] (.isl 1 (r.map eI)) []):=by
 unfold ua
 exact .au fun r1 o =>
  .ret (bu [(J 2),(J 2),(J 4),.aL [2] [.cL (ah 1 eI ([]:List Int))] [(3,fW (([]:List Int).length)),(8,ii),(9,ii),(10,ii)],(Hl aN.b3 (len_ b7 aN.b3) r1).fb,(J 2)] (.eJ (c6 1 .live (show []=(([]:List Int)).map eI from rfl)) (aK 1 .live aP ([]:List Int)) (fH Int) (VJ o) (gN eI r1) (fT eI r1) (dS aP r1)) (.bw (.dK (.e5 (r1.map eI)))))
def w2 (aN:cR)(bz:Int):Option (Int×Int) :=
 if 0≤bz∧bz<aN.bQ.length then
 aN.bQ[bz.toNat]? >>= fun d3 =>
 if 0≤d3.dJ∧d3.dJ<aN.b3.length then
 aN.b3[d3.dJ.toNat]? >>= fun kt =>
 if 0≤d3.ej∧d3.ej<aN.b3.length then
 aN.b3[d3.ej.toNat]? >>= fun mf =>
 some (U (mf.j5-kt.j5),U (mf.j6-kt.j6))
 else none
 else none
 else none
theorem V7 {aN:cR}{bz:Int}:bA (w2 aN bz) (fun r=>Con bb 83 [.agg (hK aN),.n .i64 bz] [] (.dZ [.n .i64 r.1,.n .i64 r.2]) []):=by
 unfold w2
 exact .aZ fun h1 =>
  .au fun d3 ae =>
  .aZ fun av =>
  .au fun kt a2 =>
  .aZ fun bd =>
  .au fun mf cp =>
  .ret (bu [(J 3),.az (aj 7 (an (.b4 (cl d3)) (bs 1 (.b4 (b7 kt)) 2))),.az (aj 7 (an (.b4 (cl d3)) (bs 1 (.b4 (b7 mf)) 2))),(J 12)] (.bl h1.1 (cN cl h1.2) (bU cl ae) av.1 (cN b7 av.2) (bU b7 a2) h1.1 (cN cl h1.2) (.c9 (bU cl ae) bd.1 (cN b7 bd.2) (bU b7 cp))))
def GM (ag:Int)(ch:List Int)(eN e3:Int)(gw:List cc)(ha:Int)(aF:List b0)(ap:List Int):(Int×(List Int)×(List Int))→S:=fun (ia,aG,al)=>dl [(1,.ref 0 0 0 0),(3,.bm 1 0 0 ap.length),(5,.n .i64 ag),(6,.bm 2 0 0 aG.length),(7,.bm 3 0 0 al.length),(14,.isl 1 (ch.map eI)),(15,.n .i64 eN),(16,.n .i64 e3),(23,.isl 3 (gw.map cl)),(24,.n .i64 ha),(25,.n .i64 ia)] [[ab.mk 2 [[.isl 4 (aF.map b7),.isl 3 (gw.map cl)]] .live],(ah 1 eI ap),(ah 1 eI aG),(ah 1 eI al)]
def Hm (ag:Int)(ch:List Int)(eN e3:Int)(gw:List cc)(ha:Int)(aF:List b0)(ap:List Int):((List Int)×(List Int))→dm
 | a=>⟨some 2,[(1,.ref 0 0 0 0),(3,.bm 1 0 0 ap.length),(6,.bm 2 0 0 a.1.length),(7,.bm 3 0 0 a.2.length),(14,.isl 1 (ch.map eI)),(15,.n .i64 eN),(16,.n .i64 e3)],[[ab.mk 2 [[.isl 4 (aF.map b7),.isl 3 (gw.map cl)]] .live],(ah 1 eI ap),(ah 1 eI a.1),(ah 1 eI a.2)]⟩
def wt (ag:Int)(ch:List Int)(eN e3:Int)(gw:List cc)(ha:Int)(aF:List b0)(ap:List Int)(ia:Int)(aG al:List Int):Option ((Int×(List Int)×(List Int))⊕((List Int)×(List Int))) :=
 if (decide (ia<ha))=true then
  if 0≤ia∧ia<gw.length then
  gw[ia.toNat]? >>= fun aE =>
  w2 (⟨aF,gw⟩:cR) ia >>= fun aT =>
  if (ag == aE.dJ)=true then
   if (aG++([aT.1]:List Int)).length*8≤140737488355328 then
   if (al++([aT.2]:List Int)).length*8≤140737488355328 then
   some (.inl (U (ia+(1:Int)),aG++([aT.1]:List Int),al++([aT.2]:List Int)))
   else none
   else none
  else
   if (ag == aE.ej)=true then
    if (aG++([U (0-aT.1)]:List Int)).length*8≤140737488355328 then
    if (al++([U (0-aT.2)]:List Int)).length*8≤140737488355328 then
    some (.inl (U (ia+(1:Int)),aG++([U (0-aT.1)]:List Int),al++([U (0-aT.2)]:List Int)))
    else none
    else none
   else
    if (aG++([0]:List Int)).length*8≤140737488355328 then
    if (al++([0]:List Int)).length*8≤140737488355328 then
    some (.inl (U (ia+(1:Int)),aG++([0]:List Int),al++([0]:List Int)))
    else none
    else none
  else none
 else
  some (.inr (aG,al))
def CP (ag:Int)(ch:List Int)(eN e3:Int)(gw:List cc)(ha:Int)(aF:List b0)(ap:List Int)(ia:Int)(aG al:List Int):Option ((List Int)×(List Int)):=iter (fun w:Int×(List Int)×(List Int)=>wt ag ch eN e3 gw ha aF ap w.1 w.2.1 w.2.2) (ia,aG,al)
theorem Uk {ag:Int}{ch:List Int}{eN e3:Int}{gw:List cc}{ha:Int}{aF:List b0}{ap:List Int}{ia:Int}{aG al:List Int}:bA (wt ag ch eN e3 gw ha aF ap ia aG al) (dM bb 78 0 56 [1,1,0,1,0,0,1,1,0,0,1,1,1,0,1,0,0] (GM ag ch eN e3 gw ha aF ap (ia,aG,al)) (GM ag ch eN e3 gw ha aF ap) (Hm ag ch eN e3 gw ha aF ap)):=by
 unfold wt
 exact .ite (fun h1 =>
  .aZ fun o =>
  .au fun aE av =>
  .au fun aT a2 =>
  (let t1:List bX:=[(J 1),.aa true,.az (bs 2 (.b4 (cl aE)) 3),.az (bs 2 (br 2 (.dZ [.n .i64 aT.1,.n .i64 aT.2]) true) 5),(J 1),(J 4)];
  have aQ:=((.d5 h1 o.1 (cN cl o.2) (bU cl av) (V7 aT a2) (DS (oY (b9.n .i64 aT.1) (oY (b9.n .i64 aT.2) uD)))):cq _);
  .ite (fun bd =>
  .aZ fun bn =>
  .aZ fun cp =>
  .ret (let q1:=(aG++([aT.1]:List Int));let aY:=(al++([aT.2]:List Int));bh (t1.append [.aa true,.az (bs 3 (.aJ (q1.length)) 1),.az (bs 3 (.aJ (aY.length)) 1),(J 2),.aL [0,1,27,32] [.box [.id,.id],.pure,.cL (ah 1 eI q1),.cL (ah 1 eI aY)] (a8 [1,3,5,6,7,14,15,16,23,24,25])]) (aQ.aJ (.bl bd (gZ eI aT.1) (hk eI aG) (gO eI aG aT.1) bn (gZ eI aT.2) (hk eI al) (gO eI al aT.2) (.d5 cp (aK 1 .live aP ap) (c6 1 .live (ht eI aG aT.1)) (aK 1 .live aP q1) (c6 1 .live (ht eI al aT.2)) (aK 1 .live aP aY))))))
  (fun bd =>
  .ite (fun bn =>
  .aZ fun cp =>
  .aZ fun cK =>
  .ret (let cA:=U (0-aT.1);let bJ:=(aG++([cA]:List Int));let d4:=U (0-aT.2);let bS:=(al++([d4]:List Int));bh (t1.append [.aa false,(J 4),.aa true,.az (bs 4 (.aJ (bJ.length)) 1),.az (bs 4 (.aJ (bS.length)) 1),(J 2),.aL [0,1,32,38] [.box [.id,.id],.pure,.cL (ah 1 eI bJ),.cL (ah 1 eI bS)] (a8 [1,3,5,6,7,14,15,16,23,24,25])]) (aQ.aJ (.bl bd bn (gZ eI cA) (hk eI aG) (gO eI aG cA) cp (gZ eI d4) (hk eI al) (.eJ (gO eI al d4) cK (aK 1 .live aP ap) (c6 1 .live (ht eI aG cA)) (aK 1 .live aP bJ) (c6 1 .live (ht eI al d4)) (aK 1 .live aP bS))))))
  (fun bn =>
  .aZ fun cp =>
  .aZ fun cK =>
  .ret (let fP:=(aG++([0]:List Int));let eB:=(al++([0]:List Int));bh (t1.append [.aa false,(J 4),.aa false,.az (bs 2 (.aJ (fP.length)) 1),.az (bs 2 (.aJ (eB.length)) 1),(J 2),.aL [0,1,30,34] [.box [.id,.id],.pure,.cL (ah 1 eI fP),.cL (ah 1 eI eB)] (a8 [1,3,5,6,7,14,15,16,23,24,25])]) (aQ.aJ (.bl bd bn (gZ eI 0) (hk eI aG) (gO eI aG 0) cp (gZ eI 0) (hk eI al) (.eJ (gO eI al 0) cK (aK 1 .live aP ap) (c6 1 .live (ht eI aG 0)) (aK 1 .live aP fP) (c6 1 .live (ht eI al 0)) (aK 1 .live aP eB)))))))))
  (fun h1 =>
  .ret (bh [(J 1),.aa false,.aL [0,1,2,3] [.box [.id,.id],.pure,.pure,.pure] (a8 [1,3,6,7,14,15,16])] (.c9 h1 (aK 1 .live aP ap) (aK 1 .live aP aG) (aK 1 .live aP al))))
theorem VK {ag:Int}{ch:List Int}{eN e3:Int}{gw:List cc}{ha:Int}{aF:List b0}{ap:List Int}{ia:Int}{aG al:List Int}{r} (h:CP ag ch eN e3 gw ha aF ap ia aG al=some r):dN bb 78 0 56 [1,1,0,1,0,0,1,1,0,0,1,1,1,0,1,0,0] (GM ag ch eN e3 gw ha aF ap) (Hm ag ch eN e3 gw ha aF ap) (ia,aG,al) r:=dO (fun _=>Uk) h
def GN (ch:List Int)(eN:Int)(aF:List b0)(aD:List cc):(Int×(List Int))→S:=fun (e3,ap)=>dl [(1,.ref 0 0 0 0),(3,.bm 1 0 0 ap.length),(14,.isl 1 (ch.map eI)),(15,.n .i64 eN),(16,.n .i64 e3)] [[ab.mk 2 [[.isl 4 (aF.map b7),.isl 3 (aD.map cl)]] .live],(ah 1 eI ap)]
def Hn (ch:List Int)(eN:Int)(aF:List b0)(aD:List cc):(List Int)→dm
 | a=>⟨some 0,[(3,.bm 0 0 0 a.length)],[(ah 1 eI a)]⟩
def wu (ch:List Int)(eN:Int)(aF:List b0)(aD:List cc)(e3:Int)(ap:List Int):Option ((Int×(List Int))⊕((List Int))) :=
 if (decide (e3<eN))=true then
  if 0≤e3∧e3<ch.length then
  ch[e3.toNat]? >>= fun aE =>
  CP aE ch eN e3 aD (len_ cl aD) aF ap 0 ([]:List Int) ([]:List Int) >>= fun aT =>
  if (ap++aT.1).length*8≤140737488355328 then
  if ((ap++aT.1)++aT.2).length*8≤140737488355328 then
  some (.inl (U (e3+(1:Int)),(ap++aT.1)++aT.2))
  else none
  else none
  else none
 else
  some (.inr ap)
def IL (ch:List Int)(eN:Int)(aF:List b0)(aD:List cc)(e3:Int)(ap:List Int):Option ((List Int)):=iter (fun w:Int×(List Int)=>wu ch eN aF aD w.1 w.2) (e3,ap)
theorem Ul {ch:List Int}{eN:Int}{aF:List b0}{aD:List cc}{e3:Int}{ap:List Int}:bA (wu ch eN aF aD e3 ap) (dM bb 78 0 56 [1,1,0,1,0,0] (GN ch eN aF aD (e3,ap)) (GN ch eN aF aD) (Hn ch eN aF aD)):=by
 unfold wu
 exact .ite (fun h1 =>
  .aZ fun o =>
  .au fun aE av =>
  .au fun aT a2 =>
  .aZ fun bd =>
  .aZ fun bn =>
  .ret (let q1:=(c6 1 .live (show []=(([]:List Int)).map eI from rfl));let aY:=dL (ap++aT.1);let bJ:=(aK 1 .live aP ([]:List Int));let bS:=cW eI aT.1;let cA:=(ah 1 eI ([]:List Int));bh [(J 1),.aa true,.az (bs 1 (.b4 (eI aE)) 1),(J 2),(J 2),(J 4),.aL [0,1,6,8] [.box [.id,.id],.pure,.cL cA,.cL cA] [(1,ii),(3,ii),(5,ii),(6,fW (([]:List Int).length)),(7,fW (([]:List Int).length)),(14,ii),(15,ii),(16,ii),(23,ii),(24,ii),(25,ii)],(Hm aE ch eN e3 aD (len_ cl aD) aF ap aT).fb,.az (bs 2 (.aJ ((ap++aT.1).length)) 1),.az (bs 2 (.aJ (((ap++aT.1)++aT.2).length)) 1),(J 2),.aL [0,10] [.box [.id,.id],.cL (ah 1 eI ((ap++aT.1)++aT.2))] (a8 [1,3,14,15,16])] (.bl h1 o.1 (cN eI o.2) (bU eI av) (aK 1 .live aP ap) q1 bJ q1 (.bl bJ (fH Int) (fH Int) (VK a2) (fT eI aT.1) (hk eI ap) (mE (dL ap) (nQ bS (dL aT.1)):(ap++aT.1).length=ap.length+(((aT.1.map eI).drop 0).take aT.1.length).length) bd (.d5 (fT eI aT.2) (oe (jc (cW eI ap) (dL ap) (nQ bS (dL aT.1))) aY) (mE aY (nQ (cW eI aT.2) (dL aT.2)):((ap++aT.1)++aT.2).length=((ap++aT.1).length)+(((aT.2.map eI).drop 0).take aT.2.length).length) bn (c6 1 .live (jc (jc (cW eI ap) (dL ap) (nQ bS (dL aT.1))) aY (nQ (cW eI aT.2) (dL aT.2)))) (aK 1 .live aP ((ap++aT.1)++aT.2)))))))
  (fun h1 =>
  .ret (bh [(J 1),.aa false,.aL [1] [.pure] (a8 [3])] (.aC h1 (aK 1 .live aP ap))))
theorem VM {ch:List Int}{eN:Int}{aF:List b0}{aD:List cc}{e3:Int}{ap:List Int}{r} (h:IL ch eN aF aD e3 ap=some r):dN bb 78 0 56 [1,1,0,1,0,0] (GN ch eN aF aD) (Hn ch eN aF aD) (e3,ap) r:=dO (fun _=>Ul) h
def zK (aN:cR):Option (List Int) :=
 ua aN >>= fun r1 =>
 IL r1 (len_ eI r1) aN.b3 aN.bQ 0 ([]:List Int) >>= fun bk =>
 some bk
theorem WS {aN:cR}:bA (zK aN) (fun r=>Con bb 56 [.agg (hK aN)] [] (.isl 1 (r.map eI)) []):=by
 unfold zK
 exact .au fun r1 o =>
  .au fun bk av =>
  .ret (bu [(J 2),(J 2),.az (bs 1 (br 1 (.isl 1 (r1.map eI)) false) 2),.aL [0,2] [.box [.id,.id],.cL (ah 1 eI ([]:List Int))] [(1,ii),(3,fW (([]:List Int).length)),(14,ii),(15,ii),(16,ii)],(Hn r1 (len_ eI r1) aN.b3 aN.bQ bk).fb,(J 2)] (.gS (IK r1 o) (c6 1 .live (show []=(([]:List Int)).map eI from rfl)) (aK 1 .live aP ([]:List Int)) (fH Int) (VM av) (gN eI bk) (fT eI bk) (dS aP bk)) (.bw (.dK (.e5 (bk.map eI)))))
def Gv (dg c2:List Int)(cn:Int):(Int×(List Int))→S:=fun (cZ,ad)=>dl [(1,.isl 1 (dg.map eI)),(5,.bm 0 0 0 ad.length),(10,.isl 1 (c2.map eI)),(11,.n .i64 cn),(12,.n .i64 cZ)] [(ah 1 eI ad)]
def GO (dg c2:List Int)(cn:Int):(List Int)→dm
 | a=>⟨some 0,[(5,.bm 0 0 0 a.length)],[(ah 1 eI a)]⟩
def wg (dg c2:List Int)(cn cZ:Int)(ad:List Int):Option ((Int×(List Int))⊕((List Int))) :=
 if (decide (cZ<cn))=true then
  if 0≤cZ∧cZ<c2.length then
  c2[cZ.toNat]? >>= fun aE =>
  if 0≤(U ((2:Int)*aE))∧(U ((2:Int)*aE))<dg.length then
  dg[(U ((2:Int)*aE)).toNat]? >>= fun ct =>
  if 0≤(U ((U ((2:Int)*aE))+(1:Int)))∧(U ((U ((2:Int)*aE))+(1:Int)))<dg.length then
  dg[(U ((U ((2:Int)*aE))+(1:Int))).toNat]? >>= fun eo =>
  if (ad++([U (0-ct),U (0-eo)]:List Int)).length*8≤140737488355328 then
  some (.inl (U (cZ+(1:Int)),ad++([U (0-ct),U (0-eo)]:List Int)))
  else none
  else none
  else none
  else none
 else
  some (.inr ad)
def Iv (dg c2:List Int)(cn cZ:Int)(ad:List Int):Option ((List Int)):=iter (fun w:Int×(List Int)=>wg dg c2 cn w.1 w.2) (cZ,ad)
theorem T6 {dg c2:List Int}{cn cZ:Int}{ad:List Int}:bA (wg dg c2 cn cZ ad) (dM bb 34 0 58 [1,1,0,1,0,0] (Gv dg c2 cn (cZ,ad)) (Gv dg c2 cn) (GO dg c2 cn)):=by
 unfold wg
 exact .ite (fun h1 =>
  .aZ fun o =>
  .au fun aE av =>
  .aZ fun aA =>
  .au fun ct bd =>
  .aZ fun bn =>
  .au fun eo cK =>
  .aZ fun eV =>
  .ret (let q1:=(ad++([U (0-ct),U (0-eo)]:List Int));let aY:=U (0-ct);let bJ:=U (0-eo);bh [(J 1),.aa true,.az (bs 1 (.b4 (eI aE)) 1),.az (aj 5 (an (.b4 (eI ct)) (aj 6 (an (.b4 (eI eo)) (bs 2 (.aJ (q1.length)) 1))))),(J 2),.aL [20] [.cL (ah 1 eI q1)] (a8 [1,5,10,11,12])] (.bl h1 o.1 (cN eI o.2) (bU eI av) aA.1 (cN eI aA.2) (bU eI bd) bn.1 (.gS (cN eI bn.2) (bU eI cK) (lG (show [[.n .i64 aY],[.n .i64 bJ]]=(([U (0-ct),U (0-eo)]:List Int)).map eI from rfl) (show 2=([U (0-ct),U (0-eo)]:List Int).length from rfl)) (hk eI ad) (mE (dL ad) (nQ (show [[.n .i64 aY],[.n .i64 bJ]]=(([U (0-ct),U (0-eo)]:List Int)).map eI from rfl) (show 2=([U (0-ct),U (0-eo)]:List Int).length from rfl)):q1.length=ad.length+(([[.n .i64 aY],[.n .i64 bJ]].drop 0).take 2).length) eV (c6 1 .live (jc (cW eI ad) (dL ad) (nQ (show [[.n .i64 aY],[.n .i64 bJ]]=(([U (0-ct),U (0-eo)]:List Int)).map eI from rfl) (show 2=([U (0-ct),U (0-eo)]:List Int).length from rfl)))) (aK 1 .live aP q1)))))
  (fun h1 =>
  .ret (bh [(J 1),.aa false,.aL [0] [.pure] (a8 [5])] (.aC h1 (aK 1 .live aP ad))))
theorem Vu {dg c2:List Int}{cn cZ:Int}{ad:List Int}{r} (h:Iv dg c2 cn cZ ad=some r):dN bb 34 0 58 [1,1,0,1,0,0] (Gv dg c2 cn) (GO dg c2 cn) (cZ,ad) r:=dO (fun _=>T6) h
def zv (aN:cR)(dg:List Int):Option (List Int) :=
 ua aN >>= fun r1 =>
 Iv dg r1 (len_ eI r1) 0 ([]:List Int) >>= fun bk =>
 some bk
theorem Wp {aN:cR}{dg:List Int}:bA (zv aN dg) (fun r=>Con bb 58 [.agg (hK aN),.isl 1 (dg.map eI)] [] (.isl 1 (r.map eI)) []):=by
 unfold zv
 exact .au fun r1 o =>
  .au fun bk av =>
  .ret (bu [(J 2),(J 2),.az (bs 1 (br 1 (.isl 1 (r1.map eI)) false) 2),.aL [2] [.cL (ah 1 eI ([]:List Int))] [(1,ii),(5,fW (([]:List Int).length)),(10,ii),(11,ii),(12,ii)],(GO dg r1 (len_ eI r1) bk).fb,(J 2)] (.gS (IK r1 o) (c6 1 .live (show []=(([]:List Int)).map eI from rfl)) (aK 1 .live aP ([]:List Int)) (fH Int) (Vu av) (gN eI bk) (fT eI bk) (dS aP bk)) (.bw (.dK (.e5 (bk.map eI)))))
def FW (iI jd:List Int)(a3:Int)(je:List Int)(ag ox bM dP:Int)(gP al:List Int):(Int×(List Int))→S:=fun (m7,aG)=>dl [(4,.ref 0 0 0 0),(5,.isl 1 (iI.map eI)),(6,.isl 1 (jd.map eI)),(7,.n .i64 a3),(8,.isl 1 (je.map eI)),(9,.ref 1 0 0 0),(10,.n .i64 ag),(42,.isl 1 (iI.map eI)),(43,.n .i64 ox),(44,.n .i64 m7)] [[ab.mk 5 [[.n .i64 (0:Int),.n .i64 (0:Int),.eT,.eT,.eT]] .live],[ab.mk 5 [(Ez bM dP 2 0 0 aG.length gP 3 0 0 al.length)] .live],(ah 1 eI aG),(ah 1 eI al)]
def Gf (iI jd:List Int)(a3:Int)(je:List Int)(ag ox bM dP:Int)(gP al:List Int):(List Int)→dm
 | a=>⟨some 2,[(4,.ref 0 0 0 0),(5,.isl 1 (iI.map eI)),(6,.isl 1 (jd.map eI)),(7,.n .i64 a3),(8,.isl 1 (je.map eI)),(9,.ref 1 0 0 0),(10,.n .i64 ag)],[[ab.mk 5 [[.n .i64 (0:Int),.n .i64 (0:Int),.eT,.eT,.eT]] .live],[ab.mk 5 [(Ez bM dP 2 0 0 a.length gP 3 0 0 al.length)] .live],(ah 1 eI a),(ah 1 eI al)]⟩
def vV (iI jd:List Int)(a3:Int)(je:List Int)(ag ox bM dP:Int)(gP al:List Int)(m7:Int)(aG:List Int):Option ((Int×(List Int))⊕((List Int))) :=
 if (decide (m7<ox))=true then
  if 0≤m7∧m7<iI.length then
  iI[m7.toNat]? >>= fun aE =>
  if 0≤m7∧m7<jd.length then
  jd[m7.toNat]? >>= fun ct =>
  if 0≤(U ((U (ag*a3))+aE))∧(U ((U (ag*a3))+aE))<je.length then
  je[(U ((U (ag*a3))+aE)).toNat]? >>= fun eo =>
  if (aG++([U (ct*eo)]:List Int)).length*8≤140737488355328 then
  some (.inl (U (m7+(1:Int)),aG++([U (ct*eo)]:List Int)))
  else none
  else none
  else none
  else none
 else
  some (.inr aG)
def HP (iI jd:List Int)(a3:Int)(je:List Int)(ag ox bM dP:Int)(gP al:List Int)(m7:Int)(aG:List Int):Option ((List Int)):=iter (fun w:Int×(List Int)=>vV iI jd a3 je ag ox bM dP gP al w.1 w.2) (m7,aG)
theorem TF {iI jd:List Int}{a3:Int}{je:List Int}{ag ox bM dP:Int}{gP al:List Int}{m7:Int}{aG:List Int}:bA (vV iI jd a3 je ag ox bM dP gP al m7 aG) (dM bb 69 0 38 [1,1,1,1,1,0,1,0,0,1,0,0,1,0,0] (FW iI jd a3 je ag ox bM dP gP al (m7,aG)) (FW iI jd a3 je ag ox bM dP gP al) (Gf iI jd a3 je ag ox bM dP gP al)):=by
 unfold vV
 exact .ite (fun h1 =>
  .aZ fun o =>
  .au fun aE av =>
  .aZ fun aA =>
  .au fun ct bd =>
  .aZ fun bn =>
  .au fun eo cK =>
  .aZ fun eV =>
  .ret (let aY:=U (ct*eo);let q1:=(aG++([aY]:List Int));bh [(J 1),.aa true,.az (bs 2 (.b4 (eI aE)) 2),.az (aj 5 (an (.b4 (eI ct)) (aj 7 (an (.b4 (eI eo)) (bs 2 (.aJ (q1.length)) 2))))),(J 2),.aL [0,1,26,3] [.box [.id,.id,.id,.id,.id],.box [.id,.id,.id,.id,.id],.cL (ah 1 eI q1),.pure] (a8 [4,5,6,7,8,9,10,42,43,44])] (.bl h1 o.1 (cN eI o.2) (bU eI av) aA.1 (cN eI aA.2) (bU eI bd) bn.1 (.bl (cN eI bn.2) (bU eI cK) (gZ eI aY) (hk eI aG) (gO eI aG aY) eV (c6 1 .live (ht eI aG aY)) (aK 1 .live aP q1) (.e1 (aK 1 .live aP al))))))
  (fun h1 =>
  .ret (bh [(J 1),.aa false,.aL [0,1,2,3] [.box [.id,.id,.id,.id,.id],.box [.id,.id,.id,.id,.id],.pure,.pure] (a8 [4,5,6,7,8,9,10])] (.bR h1 (aK 1 .live aP aG) (aK 1 .live aP al))))
theorem U1 {iI jd:List Int}{a3:Int}{je:List Int}{ag ox bM dP:Int}{gP al:List Int}{m7:Int}{aG:List Int}{r} (h:HP iI jd a3 je ag ox bM dP gP al m7 aG=some r):dN bb 69 0 38 [1,1,1,1,1,0,1,0,0,1,0,0,1,0,0] (FW iI jd a3 je ag ox bM dP gP al) (Gf iI jd a3 je ag ox bM dP gP al) (m7,aG) r:=dO (fun _=>TF) h
def FX (iI jd:List Int)(a3:Int)(je:List Int)(bM dP:Int)(gP al:List Int):(Int×(List Int))→S:=fun (ag,aG)=>dl [(4,.ref 0 0 0 0),(5,.isl 1 (iI.map eI)),(6,.isl 1 (jd.map eI)),(7,.n .i64 a3),(8,.isl 1 (je.map eI)),(9,.ref 1 0 0 0),(10,.n .i64 ag)] [[ab.mk 5 [[.n .i64 (0:Int),.n .i64 (0:Int),.eT,.eT,.eT]] .live],[ab.mk 5 [(Ez bM dP 2 0 0 aG.length gP 3 0 0 al.length)] .live],(ah 1 eI aG),(ah 1 eI al)]
def Gg (iI jd:List Int)(a3:Int)(je:List Int)(bM dP:Int)(gP al:List Int):(List Int)→dm
 | a=>⟨some 0,[(4,.ref 0 0 0 0),(9,.ref 1 0 0 0)],[[ab.mk 5 [[.n .i64 (0:Int),.n .i64 (0:Int),.eT,.eT,.eT]] .live],[ab.mk 5 [(Ez bM dP 2 0 0 a.length gP 3 0 0 al.length)] .live],(ah 1 eI a),(ah 1 eI al)]⟩
def vW (iI jd:List Int)(a3:Int)(je:List Int)(bM dP:Int)(gP al:List Int)(ag:Int)(aG:List Int):Option ((Int×(List Int))⊕((List Int))) :=
 if (decide (ag<bM))=true then
  HP iI jd a3 je ag (len_ eI iI) bM dP gP al 0 aG >>= fun b5 =>
  some (.inl (U (ag+(1:Int)),b5))
 else
  some (.inr aG)
def CE (iI jd:List Int)(a3:Int)(je:List Int)(bM dP:Int)(gP al:List Int)(ag:Int)(aG:List Int):Option ((List Int)):=iter (fun w:Int×(List Int)=>vW iI jd a3 je bM dP gP al w.1 w.2) (ag,aG)
theorem TG {iI jd:List Int}{a3:Int}{je:List Int}{bM dP:Int}{gP al:List Int}{ag:Int}{aG:List Int}:bA (vW iI jd a3 je bM dP gP al ag aG) (dM bb 69 0 38 [1,1,1,1,1,0,1,0,0] (FX iI jd a3 je bM dP gP al (ag,aG)) (FX iI jd a3 je bM dP gP al) (Gg iI jd a3 je bM dP gP al)):=by
 unfold vW
 exact .ite (fun h1 =>
  .au fun b5 ae =>
  .ret (bh [(J 4),.aa true,(J 3),.aL [0,1,2,3] [.box [.id,.id,.id,.id,.id],.box [.id,.id,.id,.id,.id],.pure,.pure] (a8 [4,5,6,7,8,9,10,42,43,44]),(Gf iI jd a3 je ag (len_ eI iI) bM dP gP al b5).fb,(J 3),.aL [0,1,2,3] [.box [.id,.id,.id,.id,.id],.box [.id,.id,.id,.id,.id],.pure,.pure] (a8 [4,5,6,7,8,9,10])] (.d5 h1 (aK 1 .live aP aG) (aK 1 .live aP al) (U1 ae) (aK 1 .live aP b5) (aK 1 .live aP al))))
  (fun h1 =>
  .ret (bh [(J 4),.aa false,.aL [0,1,2,3] [.box [.id,.id,.id,.id,.id],.box [.id,.id,.id,.id,.id],.pure,.pure] (a8 [4,9])] (.bR h1 (aK 1 .live aP aG) (aK 1 .live aP al))))
theorem U2 {iI jd:List Int}{a3:Int}{je:List Int}{bM dP:Int}{gP al:List Int}{ag:Int}{aG:List Int}{r} (h:CE iI jd a3 je bM dP gP al ag aG=some r):dN bb 69 0 38 [1,1,1,1,1,0,1,0,0] (FX iI jd a3 je bM dP gP al) (Gg iI jd a3 je bM dP gP al) (ag,aG) r:=dO (fun _=>TG) h
def tZ (aN:cR)(dg:List Int):Option hv :=
 ze aN >>= fun r1 =>
 zK aN >>= fun bk =>
 ua aN >>= fun aT =>
 zv aN dg >>= fun bI =>
 if 0≤(len_ eI r1.1)∧(8:Int)*(len_ eI r1.1)≤281474976710656∧(len_ eI r1.1)<9223372036854775808 then
 CE r1.1 r1.2 (len_ cl aN.bQ) bk (U ((2:Int)*(len_ eI aT))) (len_ eI r1.1) bI (List.replicate (len_ eI r1.1).toNat 0:List Int) 0 ([]:List Int) >>= fun ef =>
 some (⟨U ((2:Int)*(len_ eI aT)),(len_ eI r1.1),ef,bI,(List.replicate (len_ eI r1.1).toNat 0:List Int)⟩:hv)
 else none
theorem VN {aN:cR}{dg:List Int}:bA (tZ aN dg) (fun r=>Con bb 38 [.agg (hK aN),.isl 1 (dg.map eI)] [] (.agg (nP r)) []):=by
 unfold tZ
 exact .au fun r1 o =>
  .au fun bk av =>
  .au fun aT a2 =>
  .au fun bI bn =>
  .aZ fun cp =>
  .au fun ef eV =>
  .ret (let aY:=len_ eI r1.1;let q1:=(List.replicate aY.toNat 0:List Int);bu [(J 2),.az (bs 1 (br 1 (.dZ [.isl 1 (r1.1.map eI),.isl 1 (r1.2.map eI)]) false) 5),(J 4),.az (bs 1 (br 1 (.isl 1 (bk.map eI)) false) 1),.az (aj 1 (an (br 1 (.isl 1 (aT.map eI)) false) (bs 6 (br 2 (.isl 1 (bI.map eI)) false) 6))),(J 1),.tk 29 2 1,.aL [1,29,32,27] [.box [.id,.id,.id,.id,.id],.box [.id,.id,.len (([]:List Int).length),.id,.len (q1.length)],.cL (ah 1 eI ([]:List Int)),.cL (ah 1 eI q1)] (a8 [4,5,6,7,8,9,10]),(Gg r1.1 r1.2 (len_ cl aN.bQ) bk (U ((2:Int)*(len_ eI aT))) aY bI q1 ef).fb,(J 2)] (.bl (VI r1 o) (WS bk av) (IK aT a2) (Wp bI bn) cp.1 (Int.le_refl aY) cp.2.1 cp.2.2 (.bl (fH Int) (lH aY.toNat (0:Int)) (c6 1 .live (pE eI)) (aK 1 .live aP ([]:List Int)) (c6 1 .live (lu eI aY.toNat 0)) (aK 1 .live aP q1) (U2 eV) (gN eI ef) (.dn (fT eI ef) (dS aP ef) (gN eI q1) (fT eI q1) (dS aP q1)))) (.bw (.agg [.id,.id,.e5 (ef.map eI),.id,.e5 (q1.map eI)])))
def HQ (jH:List Int)(gJ:Int):Int→S:=fun du=>dl [(5,.isl 1 (jH.map eI)),(6,.n .i64 gJ),(7,.n .i64 du)] []
def Nk (jH:List Int)(gJ:Int):((Unit)⊕(Unit))→dm
 | .inl a=>⟨some 0,[],[]⟩
 | .inr a=>⟨none,[(2,.b false)],[]⟩
def wP (jH:List Int)(gJ du:Int):Option ((Int)⊕((Unit)⊕(Unit))) :=
 if (decide (du<gJ))=true then
  if 0≤du∧du<jH.length then
  jH[du.toNat]? >>= fun aE =>
  mB aE (-100) 100 >>= fun aT =>
  if aT=true then
   some (.inl (U (du+(1:Int))))
  else
   some (.inr (.inr ()))
  else none
 else
  some (.inr (.inl ()))
def Je (jH:List Int)(gJ du:Int):Option ((Unit)⊕(Unit)):=iter (fun w:Int=>wP jH gJ w) du
theorem U3 {jH:List Int}{gJ du:Int}:bA (wP jH gJ du) (dM bb 15 0 74 [1,0,1,0,0] (HQ jH gJ du) (HQ jH gJ) (Nk jH gJ)):=by
 unfold wP
 exact .ite (fun h1 =>
  .aZ fun o =>
  .au fun aE av =>
  .au fun aT a2 =>
  (let t1:List bX:=[(J 1),.aa true,.az (bs 1 (.b4 (eI aE)) 1),.az (bs 1 (br 3 (.b aT) true) 1)];
  have aQ:=((.d5 h1 o.1 (cN eI o.2) (bU eI av) (pL aT a2) (b9.b aT)):cq _);
  .ite (fun bd =>
  .ret (bh (t1.append [.aa false,(J 2),.aL [] [] (a8 [5,6,7])]) (aQ.aJ (.e1 (cY bd)))))
  (fun bd =>
  .ret (bh (t1.append [.aa true,(J 1),.aL [] [] (a8 [2])]) (aQ.aJ (.e1 (cU bd)))))))
  (fun h1 =>
  .ret (bh [(J 1),.aa false,.aL [] [] []] (.e1 h1)))
theorem Ns {jH:List Int}{gJ du:Int}{r} (h:Je jH gJ du=some r):dN bb 15 0 74 [1,0,1,0,0] (HQ jH gJ) (Nk jH gJ) du r:=dO (fun _=>U3) h
def um (dg:List Int):Option Bool :=
 Je dg (len_ eI dg) 0 >>= fun r1 =>
 match r1 with
 | .inl di=>(some true)
 | .inr di=>(some false)
theorem Jf {dg:List Int}:bA (um dg) (fun r=>Con bb 74 [.isl 1 (dg.map eI)] [] (.b r) []):=by
 unfold um
 exact .au fun r1 o =>
  (let t1:List bX:=[(J 1),(J 3),.aL [] [] (a8 [5,6,7])];
  (by
  rcases r1 with di|di
  ·exact (.ret (bu (t1.append [.sub (.exit 0) [] [],(J 1)]) (.e1 (Ns o))))
  ·exact (.ret (bu (t1.append [.sub (.ret) [(2,.b false)] []]) (.e1 (Ns o))))))
def zo (ca:hv):Option Bool :=
 mB ca.fu 0 20 >>= fun r1 =>
 if r1=true then
  mB ca.eb 0 40 >>= fun bi =>
  if bi=true then
   if ((len_ eI ca.dJ) == (U (ca.fu*ca.eb)))=true then
    if ((len_ eI ca.ej) == ca.fu)=true then
     if ((len_ eI ca.hH) == ca.eb)=true then
      um ca.dJ >>= fun ef =>
      if ef=true then
       um ca.ej >>= fun ex =>
       if ex=true then
        um ca.hH >>= fun ey =>
        some ey
       else
        some false
      else
       some false
     else
      some false
    else
     some false
   else
    some false
  else
   some false
 else
  some false
theorem V8 {ca:hv}:bA (zo ca) (fun r=>Con bb 51 [.agg (nP ca)] [] (.b r) []):=by
 unfold zo
 exact .au fun r1 o =>
  (have ah:=((.aC (pL r1 o) (b9.b r1)):cq _);
  .ite (fun ae =>
  .au fun bi aA =>
  (have aQ:=ah.aJ (.d5 ae ae ae (pL bi aA) (b9.b bi) ae);
  .ite (fun a2 =>
  (have fF:=aQ.aJ (.bl a2 a2 a2 a2 a2 a2 a2 a2 (.aC a2 a2));
  .ite (fun bd =>
  .ite (fun bn =>
  (have eR:=fF.aJ (.bl bd bd bd bd bd bd bd bn (.d5 bn bn bn bn bn bn));
  .ite (fun cp =>
  .au fun ef eV =>
  (have mg:=eR.aJ (.d5 cp cp cp (Jf ef eV) (b9.b ef) cp);
  .ite (fun e4 =>
  .au fun ex ew =>
  (have kF:=mg.aJ (.d5 e4 e4 e4 (Jf ex ew) (b9.b ex) e4);
  .ite (fun fS =>
  .au fun ey hy =>
  .ret (bu [(J 2),.az (aj 2 (an (br 3 (.b r1) true) (aj 3 (an (br 3 (.b bi) true) (an (.aa true) (aj 10 (an (.aa true) (aj 7 (an (.aa true) (aj 7 (an (.aa true) (aj 3 (an (br 1 (.b ef) true) (an (.aa true) (aj 3 (an (br 1 (.b ex) true) (an (.aa true) (aj 3 (an (br 1 (.b ey) true) (an (.aa true) (aj 1 [])))))))))))))))))))))] (kF.aJ (.d5 fS fS fS (Jf ey hy) (b9.b ey) fS))))
  (fun fS =>
  .ret (bu [(J 2),.az (aj 2 (an (br 3 (.b r1) true) (aj 3 (an (br 3 (.b bi) true) (an (.aa true) (aj 10 (an (.aa true) (aj 7 (an (.aa true) (aj 7 (an (.aa true) (aj 3 (an (br 1 (.b ef) true) (an (.aa true) (aj 3 (an (br 1 (.b ex) true) (an (.aa true) (aj 1 (cr 3 (an (.aa false) (aj 1 [])))))))))))))))))))))] (kF.aJ (.c9 fS fS fS fS))))))
  (fun e4 =>
  .ret (bu [(J 2),.az (aj 2 (an (br 3 (.b r1) true) (aj 3 (an (br 3 (.b bi) true) (an (.aa true) (aj 10 (an (.aa true) (aj 7 (an (.aa true) (aj 7 (an (.aa true) (aj 3 (an (br 1 (.b ef) true) (an (.aa true) (aj 1 (cr 3 (an (.aa false) (aj 1 (cr 3 (aj 2 []))))))))))))))))))))] (mg.aJ (.eJ e4 e4 e4 e4 c1 c1 c1))))))
  (fun cp =>
  .ret (bu [(J 2),.az (aj 2 (an (br 3 (.b r1) true) (aj 3 (an (br 3 (.b bi) true) (an (.aa true) (aj 10 (an (.aa true) (aj 7 (an (.aa true) (aj 7 (an (.aa true) (aj 1 (cr 3 (an (.aa false) (aj 1 (cr 3 (aj 2 (cr 3 (aj 2 [])))))))))))))))))))] (eR.aJ (.bl cp cp cp cp c1 c1 c1 c1 (.aC c1 c1)))))))
  (fun bn =>
  .ret (bu [(J 2),.az (aj 2 (an (br 3 (.b r1) true) (aj 3 (an (br 3 (.b bi) true) (an (.aa true) (aj 10 (an (.aa true) (aj 7 (an (.aa true) (aj 1 (cr 6 (an (.aa false) (aj 1 (cr 3 (aj 2 (cr 3 (aj 2 (cr 3 (aj 2 [])))))))))))))))))))] (fF.aJ (.bl bd bd bd bd bd bd bd bn (.bl bn bn bn bn bn bn c1 c1 (.eJ c1 c1 c1 c1 c1 c1 c1)))))))
  (fun bd =>
  .ret (bu [(J 2),.az (aj 2 (an (br 3 (.b r1) true) (aj 3 (an (br 3 (.b bi) true) (an (.aa true) (aj 10 (an (.aa true) (aj 1 (cr 6 (an (.aa false) (aj 1 (cr 6 (aj 2 (cr 3 (aj 2 (cr 3 (aj 2 (cr 3 (aj 2 [])))))))))))))))))))] (fF.aJ (.bl bd bd bd bd bd bd bd c1 (.bl c1 c1 c1 c1 c1 c1 c1 c1 (.d5 c1 c1 c1 c1 c1 c1))))))))
  (fun a2 =>
  .ret (bu [(J 2),.az (aj 2 (an (br 3 (.b r1) true) (aj 3 (an (br 3 (.b bi) true) (an (.aa true) (aj 1 (cr 9 (an (.aa false) (aj 1 (cr 6 (aj 2 (cr 6 (aj 2 (cr 3 (aj 2 (cr 3 (aj 2 (cr 3 (aj 2 [])))))))))))))))))))] (aQ.aJ (.bl a2 a2 a2 a2 a2 a2 a2 a2 (.bl a2 a2 c1 c1 c1 c1 c1 c1 (.bl c1 c1 c1 c1 c1 c1 c1 c1 (.eJ c1 c1 c1 c1 c1 c1 c1)))))))))
  (fun ae =>
  .ret (bu [(J 2),.az (aj 2 (an (br 3 (.b r1) true) (aj 1 (cr 3 (an (.aa false) (aj 1 (cr 9 (aj 2 (cr 6 (aj 2 (cr 6 (aj 2 (cr 3 (aj 2 (cr 3 (aj 2 (cr 3 (aj 2 []))))))))))))))))))] (ah.aJ (.bl ae ae ae ae c1 c1 c1 c1 (.bl c1 c1 c1 c1 c1 c1 c1 c1 (.bl c1 c1 c1 c1 c1 c1 c1 c1 (.bl c1 c1 c1 c1 c1 c1 c1 c1 (.aC c1 c1)))))))))
def GP (af:List Int):Int→S:=fun a3=>dl [(0,.isl 1 (af.map eI)),(3,.n .i64 a3)] []
def Ho (af:List Int):Int→dm
 | a=>⟨some 0,[(0,.isl 1 (af.map eI)),(3,.n .i64 a)],[]⟩
def tN (af:List Int)(a3:Int):Option ((Int)⊕(Int)) :=
 if (decide ((0:Int)<a3))=true then
  if 0≤(U (a3-(1:Int)))∧(U (a3-(1:Int)))<af.length then
  af[(U (a3-(1:Int))).toNat]? >>= fun aE =>
  if (aE == (0:Int))=true then
   some (.inl (U (a3-(1:Int))))
  else
   some (.inr a3)
  else none
 else
  some (.inr a3)
def IM (af:List Int)(a3:Int):Option (Int):=iter (fun w:Int=>tN af w) a3
theorem Um {af:List Int}{a3:Int}:bA (tN af a3) (dM bb 21 0 115 [1,1,0,0,0] (GP af a3) (GP af) (Ho af)):=by
 unfold tN
 exact .ite (fun h1 =>
  .aZ fun o =>
  .au fun aE av =>
  (let t1:List bX:=[.az (aj 7 (an (.b4 (eI aE)) (aj 1 (an (.aa true) []))))];
  have aQ:=((.bl h1 h1 h1 h1 o.1 (cN eI o.2) h1 (bU eI av) (.aC h1 h1)):cq _);
  .ite (fun aA =>
  .ret (bh (t1.append [.aa true,(J 3),.aL [] [] (a8 [0,3])]) (aQ.aJ (.e1 aA))))
  (fun aA =>
  .ret (bh (t1.append [.aa false,.aL [] [] (a8 [0,3])]) (aQ.aJ (.e1 aA))))))
  (fun h1 =>
  .ret (bh [.az (aj 3 (cr 6 (an (.aa false) []))),.aa false,.aL [] [] (a8 [0,3])] (.gS h1 h1 h1 h1 h1 h1 h1 c1)))
theorem VO {af:List Int}{a3:Int}{r} (h:IM af a3=some r):dN bb 21 0 115 [1,1,0,0,0] (GP af) (Ho af) a3 r:=dO (fun _=>Um) h
def pN (af:List Int):Option (List Int) :=
 IM af (len_ eI af) >>= fun r1 =>
 if 0≤r1 then
 if 0≤r1.toNat∧r1.toNat≤af.length then
 some ((af.drop 0).take (r1.toNat-0))
 else none
 else none
theorem rJ {af:List Int}:bA (pN af) (fun r=>Con bb 115 [.isl 1 (af.map eI)] [] (.isl 1 (r.map eI)) []):=by
 unfold pN
 exact .au fun r1 o =>
  .aZ fun ae =>
  .aZ fun av =>
  .ret (bu [(J 1),(J 3),.aL [] [] (a8 [0,3]),(Ho af r1).fb,(J 4)] (.dn (VO o) ae av.1 (rk (cW eI af) av.2) (congrArg (aB.isl 1) (od (cW eI af) 0 (r1.toNat-0)):(.isl 1 (((af.map eI).drop 0).take (r1.toNat-0)):aB) = .isl 1 (((af.drop 0).take (r1.toNat-0)).map eI))) (.bw (.dK (.cL (.isl 1 (((af.drop 0).take (r1.toNat-0)).map eI))))))
def xf (af:List Int):Option (List Int) :=
 pN af >>= fun r1 =>
 if (decide ((60:Int)<(len_ eI r1)))=true then
  some ([]:List Int)
 else
  some r1
theorem NH {af:List Int}:bA (xf af) (fun r=>Con bb 117 [.isl 1 (af.map eI)] [] (.isl 1 (r.map eI)) []):=by
 unfold xf
 exact .au fun r1 o =>
  (let t1:List bX:=[(J 1),.az (bs 1 (br 1 (.isl 1 (r1.map eI)) false) 1),(J 3)];
  .ite (fun ae =>
  .ret (bu (t1.append [.aa true,(J 1)]) (.aC (rJ r1 o) ae) (.bw (.dK (.jW 1)))))
  (fun ae =>
  .ret (bu (t1.append [.aa false,(J 2)]) (.aC (rJ r1 o) ae))))
def hP (nU:Bool)(af:List Int):Option bp :=
 xf af >>= fun r1 =>
 if nU=true then
  if (([]:List Int)++r1).length*8≤140737488355328 then
  some (⟨(decide ((0:Int)<(len_ eI r1))),([]:List Int)++r1⟩:bp)
  else none
 else
  if (([]:List Int)++r1).length*8≤140737488355328 then
  some (⟨false,([]:List Int)++r1⟩:bp)
  else none
theorem nL {nU:Bool}{af:List Int}:bA (hP nU af) (fun r=>Con bb 97 [.b nU,.isl 1 (af.map eI)] [] (.agg (aX r)) []):=by
 unfold hP
 exact .au fun r1 o =>
  (let t1:List bX:=[(J 1),.az (bs 1 (br 1 (.isl 1 (r1.map eI)) false) 1)];
  .ite (fun ae =>
  .aZ fun av =>
  .ret (let q1:=(([]:List Int)++r1);bu (t1.append [.az (aj 5 (an (.aa true) (bs 2 (.aJ (q1.length)) 2)))]) (.bl (NH r1 o) ae ae ae ae (oe (show []=(([]:List Int)).map eI from rfl) (fH Int)) (mE (fH Int) (cW eI r1):q1.length=0+(r1.map eI).length) av (.bR (lZ (jc (show []=(([]:List Int)).map eI from rfl) (fH Int) (cW eI r1)) (dL q1)) (lG (jc (show []=(([]:List Int)).map eI from rfl) (fH Int) (cW eI r1)) (dL q1)) (dS aP q1))) (.bw (.agg [.id,.e5 (q1.map eI)]))))
  (fun ae =>
  .aZ fun av =>
  .ret (let aY:=(([]:List Int)++r1);bu (t1.append [.az (aj 2 (cr 3 (an (.aa false) (bs 2 (.aJ (aY.length)) 2))))]) (.bl (NH r1 o) ae ae ae ae (oe (show []=(([]:List Int)).map eI from rfl) (fH Int)) (mE (fH Int) (cW eI r1):aY.length=0+(r1.map eI).length) av (.bR (lZ (jc (show []=(([]:List Int)).map eI from rfl) (fH Int) (cW eI r1)) (dL aY)) (lG (jc (show []=(([]:List Int)).map eI from rfl) (fH Int) (cW eI r1)) (dL aY)) (dS aP aY))) (.bw (.agg [.id,.e5 (aY.map eI)])))))
def HR:(Int×(List Int))→S:=fun (a3,ad)=>dl [(0,.n .i64 a3),(3,.bm 0 0 0 ad.length)] [(ah 1 eI ad)]
def Ie:(List Int)→dm
 | a=>⟨some 0,[(3,.bm 0 0 0 a.length)],[(ah 1 eI a)]⟩
def wQ (a3:Int)(ad:List Int):Option ((Int×(List Int))⊕((List Int))) :=
 if (decide ((0:Int)<a3))=true then
  if (ad++([a3.tmod (1000000000:Int)]:List Int)).length*8≤140737488355328 then
  some (.inl (U (a3.tdiv (1000000000:Int)),ad++([a3.tmod (1000000000:Int)]:List Int)))
  else none
 else
  some (.inr ad)
def Jg (a3:Int)(ad:List Int):Option ((List Int)):=iter (fun w:Int×(List Int)=>wQ w.1 w.2) (a3,ad)
theorem U4 {a3:Int}{ad:List Int}:bA (wQ a3 ad) (dM bb 15 0 111 [1,1,0,0,0] (HR (a3,ad)) (HR) (Ie)):=by
 unfold wQ
 exact .ite (fun h1 =>
  .aZ fun o =>
  .ret (let q1:=(ad++([(a3.tmod (1000000000:Int))]:List Int));bh [(J 2),.aa true,.az (bs 4 (.aJ (q1.length)) 1),(J 3),.aL [7] [.cL (ah 1 eI q1)] (a8 [0,3])] (.bl h1 (by decide:(1000000000:Int)≠0) (gZ eI (a3.tmod (1000000000:Int))) (hk eI ad) (gO eI ad (a3.tmod (1000000000:Int))) o (by decide:(1000000000:Int)≠0) (c6 1 .live (ht eI ad (a3.tmod (1000000000:Int)))) (.e1 (aK 1 .live aP q1)))))
  (fun h1 =>
  .ret (bh [(J 2),.aa false,.aL [0] [.pure] (a8 [3])] (.aC h1 (aK 1 .live aP ad))))
theorem Wq {a3:Int}{ad:List Int}{r} (h:Jg a3 ad=some r):dN bb 15 0 111 [1,1,0,0,0] (HR) (Ie) (a3,ad) r:=dO (fun _=>U4) h
def ra (a3:Int):Option (List Int) :=
 Jg a3 ([]:List Int) >>= fun r1 =>
 some r1
theorem w5 {a3:Int}:bA (ra a3) (fun r=>Con bb 111 [.n .i64 a3] [] (.isl 1 (r.map eI)) []):=by
 unfold ra
 exact .au fun r1 o =>
  .ret (bu [(J 1),(J 2),.aL [1] [.cL (ah 1 eI ([]:List Int))] [(0,ii),(3,fW (([]:List Int).length))],(Ie r1).fb,(J 2)] (.eJ (c6 1 .live (show []=(([]:List Int)).map eI from rfl)) (aK 1 .live aP ([]:List Int)) (fH Int) (Wq o) (gN eI r1) (fT eI r1) (dS aP r1)) (.bw (.dK (.e5 (r1.map eI)))))
def zw (a3:Int):Option bp :=
 if (a3 == (-9223372036854775808:Int))=true then
  hP true ([854775808,223372036,9]:List Int) >>= fun b5 =>
  some b5
 else
  if (decide (a3<(0:Int)))=true then
   ra (U (0-a3)) >>= fun bk =>
   hP true bk >>= fun aT =>
   some aT
  else
   ra a3 >>= fun bk =>
   hP false bk >>= fun aT =>
   some aT
theorem Wr {a3:Int}:bA (zw a3) (fun r=>Con bb 93 [.n .i64 a3] [] (.agg (aX r)) []):=by
 unfold zw
 exact .ite (fun h1 =>
  .au fun b5 ae =>
  .ret (bu [(J 1),(J 2),.aa true,.az (bs 1 (.vf 3 (.call {ac:=[ii,.bw (.dK (.e5 (([854775808,223372036,9]:List Int).map eI)))],r:= .agg (aX b5),fE:=false,fN:=[3]})) 1)] (.dn h1 (lZ (show [[.n .i64 (854775808:Int)],[.n .i64 (223372036:Int)],[.n .i64 (9:Int)]]=(([854775808,223372036,9]:List Int)).map eI from rfl) (show 3=([854775808,223372036,9]:List Int).length from rfl)) (lG (show [[.n .i64 (854775808:Int)],[.n .i64 (223372036:Int)],[.n .i64 (9:Int)]]=(([854775808,223372036,9]:List Int)).map eI from rfl) (show 3=([854775808,223372036,9]:List Int).length from rfl)) (dS aP ([854775808,223372036,9]:List Int)) (nL b5 ae))))
  (fun h1 =>
  (let t1:List bX:=[(J 1),(J 2),.aa false,(J 2)];
  .ite (fun o =>
  .au fun bk av =>
  .au fun aT a2 =>
  .ret (bu (t1.append [.aa true,.az (aj 2 (an (br 1 (.isl 1 (bk.map eI)) false) (an (br 2 (.agg (aX aT)) false) (aj 1 []))))]) (.c9 h1 o (w5 bk av) (nL aT a2))))
  (fun o =>
  .au fun bk av =>
  .au fun aT a2 =>
  .ret (bu (t1.append [.aa false,.az (aj 1 (an (br 1 (.isl 1 (bk.map eI)) false) (an (br 2 (.agg (aX aT)) false) (aj 1 []))))]) (.c9 h1 o (w5 bk av) (nL aT a2))))))
def oU (a3:Int):Option aM :=
 zw a3 >>= fun r1 =>
 some (⟨r1,([1]:List Int)⟩:aM)
theorem rI {a3:Int}:bA (oU a3) (fun r=>Con bb 75 [.n .i64 a3] [] (.agg (aO r)) []):=by
 unfold oU
 exact .au fun r1 o =>
  .ret (bu [(J 1),.az (bs 1 (br 1 (.agg (aX r1)) false) 3)] (.c9 (Wr r1 o) (lZ (show [[.n .i64 (1:Int)]]=(([1]:List Int)).map eI from rfl) (show 1=([1]:List Int).length from rfl)) (gZ eI 1) (dS aP ([1]:List Int))) (.bw (.agg [.id,.id,.e5 (([1]:List Int).map eI)])))
def ug (ca:hv)(ag:Int):Option (List Int) :=
 if 0≤(U (ag*ca.eb)) then
 if 0≤(U ((U (ag+(1:Int)))*ca.eb)) then
 if (U (ag*ca.eb)).toNat≤(U ((U (ag+(1:Int)))*ca.eb)).toNat∧(U ((U (ag+(1:Int)))*ca.eb)).toNat≤ca.dJ.length then
 some ((ca.dJ.drop ((U (ag*ca.eb)).toNat)).take ((U ((U (ag+(1:Int)))*ca.eb)).toNat-(U (ag*ca.eb)).toNat))
 else none
 else none
 else none
theorem NI {ca:hv}{ag:Int}:bA (ug ca ag) (fun r=>Con bb 76 [.agg (nP ca),.n .i64 ag] [] (.isl 1 (r.map eI)) []):=by
 unfold ug
 exact .aZ fun h1 =>
  .aZ fun o =>
  .aZ fun ae =>
  .ret (let q1:=U (ag*ca.eb);let aY:=(U ((U (ag+(1:Int)))*ca.eb));bu [(J 2),(J 13)] (.dn h1 o ae.1 (rk (cW eI ca.dJ) ae.2) (congrArg (aB.isl 1) (od (cW eI ca.dJ) (q1.toNat) (aY.toNat-q1.toNat)):(.isl 1 (((ca.dJ.map eI).drop (q1.toNat)).take (aY.toNat-q1.toNat)):aB) = .isl 1 (((ca.dJ.drop (q1.toNat)).take (aY.toNat-q1.toNat)).map eI))) (.bw (.dK (.cL (.isl 1 (((ca.dJ.drop (q1.toNat)).take (aY.toNat-q1.toNat)).map eI))))))
def qn (af:List Int):Option Bool :=
 if ((len_ eI af) == (1:Int))=true then
  if 0≤(0:Int)∧(0:Int)<af.length then
  af[0]? >>= fun aE =>
  some (aE == (1:Int))
  else none
 else
  some false
theorem zp {af:List Int}:bA (qn af) (fun r=>Con bb 94 [.isl 1 (af.map eI)] [] (.b r) []):=by
 unfold qn
 exact .ite (fun h1 =>
  .aZ fun o =>
  .au fun aE av =>
  .ret (bu [(J 1),.az (aj 6 (an (.b4 (eI aE)) (bs 1 (.aa true) 1)))] (.gS h1 h1 o.1 (cN eI o.2) h1 (bU eI av) h1 h1)))
  (fun h1 =>
  .ret (bu [(J 1),.az (aj 4 (cr 4 (an (.aa false) (aj 1 []))))] (.dn h1 h1 h1 h1 h1)))
def Hp (af ax:List Int):(Int×Int×(List Int))→S:=fun (c3,ag,ad)=>dl [(0,.isl 1 (af.map eI)),(1,.isl 1 (ax.map eI)),(5,.bm 0 0 0 ad.length),(6,.n .i64 c3),(7,.n .i64 ag)] [(ah 1 eI ad)]
def HS (af ax:List Int):(List Int)→dm
 | a=>⟨some 0,[(5,.bm 0 0 0 a.length)],[(ah 1 eI a)]⟩
def tP (af ax:List Int)(c3 ag:Int)(ad:List Int):Option ((Int×Int×(List Int))⊕((List Int))) :=
 if (decide (ag<(len_ eI af)))=true then
  if 0≤ag∧ag<af.length then
  af[ag.toNat]? >>= fun aE =>
  if (decide (ag<(len_ eI ax)))=true then
   if 0≤ag∧ag<ax.length then
   ax[ag.toNat]? >>= fun fl =>
   if (ad++([(U ((U (c3+aE))+fl)).tmod (1000000000:Int)]:List Int)).length*8≤140737488355328 then
   some (.inl (U ((U ((U (c3+aE))+fl)).tdiv (1000000000:Int)),U (ag+(1:Int)),ad++([(U ((U (c3+aE))+fl)).tmod (1000000000:Int)]:List Int)))
   else none
   else none
  else
   if (ad++([(U (c3+aE)).tmod (1000000000:Int)]:List Int)).length*8≤140737488355328 then
   some (.inl (U ((U (c3+aE)).tdiv (1000000000:Int)),U (ag+(1:Int)),ad++([(U (c3+aE)).tmod (1000000000:Int)]:List Int)))
   else none
  else none
 else
  if (decide (ag<(len_ eI ax)))=true then
   if 0≤ag∧ag<ax.length then
   ax[ag.toNat]? >>= fun gh =>
   if (ad++([(U (c3+gh)).tmod (1000000000:Int)]:List Int)).length*8≤140737488355328 then
   some (.inl (U ((U (c3+gh)).tdiv (1000000000:Int)),U (ag+(1:Int)),ad++([(U (c3+gh)).tmod (1000000000:Int)]:List Int)))
   else none
   else none
  else
   if (decide ((0:Int)<c3))=true then
    if (ad++([c3.tmod (1000000000:Int)]:List Int)).length*8≤140737488355328 then
    some (.inl (U (c3.tdiv (1000000000:Int)),U (ag+(1:Int)),ad++([c3.tmod (1000000000:Int)]:List Int)))
    else none
   else
    some (.inr ad)
def I1 (af ax:List Int)(c3 ag:Int)(ad:List Int):Option ((List Int)):=iter (fun w:Int×Int×(List Int)=>tP af ax w.1 w.2.1 w.2.2) (c3,ag,ad)
theorem UH {af ax:List Int}{c3 ag:Int}{ad:List Int}:bA (tP af ax c3 ag ad) (dM bb 55 0 112 [1,1,1,0,1,0,0] (Hp af ax (c3,ag,ad)) (Hp af ax) (HS af ax)):=by
 unfold tP
 exact .ite (fun h1 =>
  .aZ fun o =>
  .au fun aE av =>
  (let t1:List bX:=[.az (aj 5 (cr 4 (an (.aa true) (aj 1 (cr 2 (aj 1 [])))))),.aa true,(J 2),(J 4),.aa true,.az (bs 4 (.b4 (eI aE)) 2),(J 4)];
  have aQ:=((.bl h1 h1 h1 h1 h1 cE cE cE (.c9 h1 o.1 (cN eI o.2) (bU eI av))):cq _);
  .ite (fun aA =>
  .aZ fun a2 =>
  .au fun fl bn =>
  .aZ fun cp =>
  .ret (let q1:=U ((U (c3+aE))+fl);let aY:=(ad++([q1.tmod (1000000000:Int)]:List Int));bh (t1.append [.aa true,.az (bs 4 (.b4 (eI fl)) 2),.az (bs 4 (.aJ (aY.length)) 1),(J 3),(J 3),.aL [43] [.cL (ah 1 eI aY)] (a8 [0,1,5,6,7])]) (aQ.aJ (.bl aA a2.1 (cN eI a2.2) (bU eI bn) (by decide:(1000000000:Int)≠0) (lG (show [[.n .i64 (q1.tmod (1000000000:Int))]]=(([q1.tmod (1000000000:Int)]:List Int)).map eI from rfl) (show 1=([q1.tmod (1000000000:Int)]:List Int).length from rfl)) (hk eI ad) (mE (dL ad) (nQ (show [[.n .i64 (q1.tmod (1000000000:Int))]]=(([q1.tmod (1000000000:Int)]:List Int)).map eI from rfl) (show 1=([q1.tmod (1000000000:Int)]:List Int).length from rfl)):aY.length=ad.length+(([[.n .i64 (q1.tmod (1000000000:Int))]].drop 0).take 1).length) (.c9 cp (by decide:(1000000000:Int)≠0) (c6 1 .live (jc (cW eI ad) (dL ad) (nQ (show [[.n .i64 (q1.tmod (1000000000:Int))]]=(([q1.tmod (1000000000:Int)]:List Int)).map eI from rfl) (show 1=([q1.tmod (1000000000:Int)]:List Int).length from rfl)))) (aK 1 .live aP aY))))))
  (fun aA =>
  .aZ fun a2 =>
  .ret (let bS:=U (c3+aE);let bJ:=(ad++([bS.tmod (1000000000:Int)]:List Int));bh (t1.append [.aa false,.az (bs 4 (.aJ (bJ.length)) 1),(J 3),(J 3),.aL [36] [.cL (ah 1 eI bJ)] (a8 [0,1,5,6,7])]) (aQ.aJ (.bl aA (by decide:(1000000000:Int)≠0) (lG (show [[.n .i64 (bS.tmod (1000000000:Int))]]=(([bS.tmod (1000000000:Int)]:List Int)).map eI from rfl) (show 1=([bS.tmod (1000000000:Int)]:List Int).length from rfl)) (hk eI ad) (mE (dL ad) (nQ (show [[.n .i64 (bS.tmod (1000000000:Int))]]=(([bS.tmod (1000000000:Int)]:List Int)).map eI from rfl) (show 1=([bS.tmod (1000000000:Int)]:List Int).length from rfl)):bJ.length=ad.length+(([[.n .i64 (bS.tmod (1000000000:Int))]].drop 0).take 1).length) a2 (by decide:(1000000000:Int)≠0) (c6 1 .live (jc (cW eI ad) (dL ad) (nQ (show [[.n .i64 (bS.tmod (1000000000:Int))]]=(([bS.tmod (1000000000:Int)]:List Int)).map eI from rfl) (show 1=([bS.tmod (1000000000:Int)]:List Int).length from rfl)))) (.e1 (aK 1 .live aP bJ))))))))
  (fun h1 =>
  .ite (fun o =>
  .aZ fun ae =>
  .au fun gh aA =>
  .aZ fun a2 =>
  .ret (let d4:=U (c3+gh);let cA:=(ad++([d4.tmod (1000000000:Int)]:List Int));bh [.az (aj 9 (an (.aa false) (aj 1 (cr 2 (an (.aa true) []))))),.aa true,(J 2),(J 4),.aa false,(J 4),.aa true,.az (bs 4 (.b4 (eI gh)) 2),.az (bs 4 (.aJ (cA.length)) 1),(J 3),(J 3),.aL [36] [.cL (ah 1 eI cA)] (a8 [0,1,5,6,7])] (.bl h1 h1 h1 h1 h1 o o o (.bl cE h1 o ae.1 (cN eI ae.2) (bU eI aA) (by decide:(1000000000:Int)≠0) (lG (show [[.n .i64 (d4.tmod (1000000000:Int))]]=(([d4.tmod (1000000000:Int)]:List Int)).map eI from rfl) (show 1=([d4.tmod (1000000000:Int)]:List Int).length from rfl)) (.d5 (hk eI ad) (mE (dL ad) (nQ (show [[.n .i64 (d4.tmod (1000000000:Int))]]=(([d4.tmod (1000000000:Int)]:List Int)).map eI from rfl) (show 1=([d4.tmod (1000000000:Int)]:List Int).length from rfl)):cA.length=ad.length+(([[.n .i64 (d4.tmod (1000000000:Int))]].drop 0).take 1).length) a2 (by decide:(1000000000:Int)≠0) (c6 1 .live (jc (cW eI ad) (dL ad) (nQ (show [[.n .i64 (d4.tmod (1000000000:Int))]]=(([d4.tmod (1000000000:Int)]:List Int)).map eI from rfl) (show 1=([d4.tmod (1000000000:Int)]:List Int).length from rfl)))) (aK 1 .live aP cA))))))
  (fun o =>
  (let t1:List bX:=[.az (aj 9 (an (.aa false) (aj 3 (an (.aa false) []))))];
  .ite (fun ae =>
  .aZ fun av =>
  .ret (let fP:=(ad++([(c3.tmod (1000000000:Int))]:List Int));bh (t1.append [.aa true,(J 2),(J 4),.aa false,(J 4),.aa false,.az (bs 4 (.aJ (fP.length)) 1),(J 3),(J 3),.aL [29] [.cL (ah 1 eI fP)] (a8 [0,1,5,6,7])]) (.bl h1 h1 h1 h1 h1 o o o (.bl ae h1 o (by decide:(1000000000:Int)≠0) (gZ eI (c3.tmod (1000000000:Int))) (hk eI ad) (gO eI ad (c3.tmod (1000000000:Int))) av (.bR (by decide:(1000000000:Int)≠0) (c6 1 .live (ht eI ad (c3.tmod (1000000000:Int)))) (aK 1 .live aP fP))))))
  (fun ae =>
  .ret (bh (t1.append [.aa false,.aL [0] [.pure] (a8 [5])]) (.bl h1 h1 h1 h1 h1 o o o (.aC ae (aK 1 .live aP ad))))))))
theorem V9 {af ax:List Int}{c3 ag:Int}{ad:List Int}{r} (h:I1 af ax c3 ag ad=some r):dN bb 55 0 112 [1,1,1,0,1,0,0] (Hp af ax) (HS af ax) (c3,ag,ad) r:=dO (fun _=>UH) h
def xg (af ax:List Int):Option (List Int) :=
 I1 af ax 0 0 ([]:List Int) >>= fun r1 =>
 some r1
theorem Xe {af ax:List Int}:bA (xg af ax) (fun r=>Con bb 112 [.isl 1 (af.map eI),.isl 1 (ax.map eI)] [] (.isl 1 (r.map eI)) []):=by
 unfold xg
 exact .au fun r1 o =>
  .ret (bu [(J 1),(J 2),(J 1),(J 1),.aL [1] [.cL (ah 1 eI ([]:List Int))] [(0,ii),(1,ii),(5,fW (([]:List Int).length)),(6,ii),(7,ii)],(HS af ax r1).fb,(J 2)] (.eJ (c6 1 .live (show []=(([]:List Int)).map eI from rfl)) (aK 1 .live aP ([]:List Int)) (fH Int) (V9 o) (gN eI r1) (fT eI r1) (dS aP r1)) (.bw (.dK (.e5 (r1.map eI)))))
def Hq (af ax:List Int):Int→S:=fun ag=>dl [(0,.isl 1 (af.map eI)),(1,.isl 1 (ax.map eI)),(5,.n .i64 ag)] []
def M8 (af ax:List Int):((Unit)⊕(Int))→dm
 | .inl a=>⟨some 0,[],[]⟩
 | .inr a=>⟨none,[(4,.n .i64 a)],[]⟩
def wI (af ax:List Int)(ag:Int):Option ((Int)⊕((Unit)⊕(Int))) :=
 if (decide ((0:Int)≤ag))=true then
  if 0≤ag∧ag<af.length then
  af[ag.toNat]? >>= fun aE =>
  if 0≤ag∧ag<ax.length then
  ax[ag.toNat]? >>= fun ct =>
  if (decide (aE<ct))=true then
   some (.inr (.inr (-1)))
  else
   if (decide (ct<aE))=true then
    some (.inr (.inr 1))
   else
    some (.inl (U (ag-(1:Int))))
  else none
  else none
 else
  some (.inr (.inl ()))
def I2 (af ax:List Int)(ag:Int):Option ((Unit)⊕(Int)):=iter (fun w:Int=>wI af ax w) ag
theorem UI {af ax:List Int}{ag:Int}:bA (wI af ax ag) (dM bb 41 0 113 [1,1,0,1,0,0] (Hq af ax ag) (Hq af ax) (M8 af ax)):=by
 unfold wI
 exact .ite (fun h1 =>
  .aZ fun o =>
  .au fun aE av =>
  .aZ fun aA =>
  .au fun ct bd =>
  (let t1:List bX:=[(J 2),.aa true,.az (aj 3 (an (.b4 (eI aE)) (bs 3 (.b4 (eI ct)) 1)))];
  have aQ:=((.eJ h1 o.1 (cN eI o.2) (bU eI av) aA.1 (cN eI aA.2) (bU eI bd)):cq _);
  .ite (fun bn =>
  .ret (bh (t1.append [.aa true,(J 1),.aL [] [] (a8 [4])]) (aQ.aJ (.e1 bn))))
  (fun bn =>
  (let t3:List bX:=t1.append [.aa false,.az (aj 3 (an (.b4 (eI aE)) (bs 3 (.b4 (eI ct)) 1)))];
  have eR:=aQ.aJ (.eJ bn o.1 (cN eI o.2) (bU eI av) aA.1 (cN eI aA.2) (bU eI bd));
  .ite (fun cp =>
  .ret (bh (t3.append [.aa true,(J 1),.aL [] [] (a8 [4])]) (eR.aJ (.e1 cp))))
  (fun cp =>
  .ret (bh (t3.append [.aa false,(J 3),.aL [] [] (a8 [0,1,5])]) (eR.aJ (.e1 cp))))))))
  (fun h1 =>
  .ret (bh [(J 2),.aa false,.aL [] [] []] (.e1 h1)))
theorem Nl {af ax:List Int}{ag:Int}{r} (h:I2 af ax ag=some r):dN bb 41 0 113 [1,1,0,1,0,0] (Hq af ax) (M8 af ax) ag r:=dO (fun _=>UI) h
def pP (af ax:List Int):Option Int :=
 if ((len_ eI af) != (len_ eI ax))=true then
  if (decide ((len_ eI af)<(len_ eI ax)))=true then
   some (-1)
  else
   some 1
 else
  I2 af ax (U ((len_ eI af)-(1:Int))) >>= fun b5 =>
  match b5 with
  | .inl ff=>(some 0)
  | .inr ff=>(some ff)
theorem w3 {af ax:List Int}:bA (pP af ax) (fun r=>Con bb 113 [.isl 1 (af.map eI),.isl 1 (ax.map eI)] [] (.n .i64 r) []):=by
 unfold pP
 exact .ite (fun h1 =>
  (let t1:List bX:=[(J 1),(J 5),.aa true,(J 5)];
  .ite (fun o =>
  .ret (bu (t1.append [.aa true,(J 1)]) (.aC h1 o)))
  (fun o =>
  .ret (bu (t1.append [.aa false,(J 1)]) (.aC h1 o)))))
  (fun h1 =>
  .au fun b5 ae =>
  (let t1:List bX:=[(J 1),(J 5),.aa false,(J 4),.aL [] [] (a8 [0,1,5])];
  (by
  rcases b5 with ff|ff
  ·exact (.ret (bu (t1.append [.sub (.exit 0) [] [],(J 1)]) (.aC h1 (Nl ae))))
  ·exact (.ret (bu (t1.append [.sub (.ret) [(4,.n .i64 ff)] []]) (.aC h1 (Nl ae)))))))
def Hr (af ax:List Int)(cn:Int):(Int×Int×(List Int))→S:=fun (k7,cZ,ad)=>dl [(0,.isl 1 (af.map eI)),(1,.isl 1 (ax.map eI)),(5,.bm 0 0 0 ad.length),(6,.n .i64 k7),(11,.n .i64 cn),(12,.n .i64 cZ)] [(ah 1 eI ad)]
def HT (af ax:List Int)(cn:Int):(List Int)→dm
 | a=>⟨some 0,[(5,.bm 0 0 0 a.length)],[(ah 1 eI a)]⟩
def tQ (af ax:List Int)(cn k7 cZ:Int)(ad:List Int):Option ((Int×Int×(List Int))⊕((List Int))) :=
 if (decide (cZ<cn))=true then
  if 0≤cZ∧cZ<af.length then
  af[cZ.toNat]? >>= fun aE =>
  if (decide (cZ<(len_ eI ax)))=true then
   if 0≤cZ∧cZ<ax.length then
   ax[cZ.toNat]? >>= fun fl =>
   if (decide ((U ((U (aE-k7))-fl))<(0:Int)))=true then
    if (ad++([U ((U ((U (aE-k7))-fl))+(1000000000:Int))]:List Int)).length*8≤140737488355328 then
    some (.inl (1,U (cZ+(1:Int)),ad++([U ((U ((U (aE-k7))-fl))+(1000000000:Int))]:List Int)))
    else none
   else
    if (ad++([U ((U (aE-k7))-fl)]:List Int)).length*8≤140737488355328 then
    some (.inl (0,U (cZ+(1:Int)),ad++([U ((U (aE-k7))-fl)]:List Int)))
    else none
   else none
  else
   if (decide ((U (aE-k7))<(0:Int)))=true then
    if (ad++([U ((U (aE-k7))+(1000000000:Int))]:List Int)).length*8≤140737488355328 then
    some (.inl (1,U (cZ+(1:Int)),ad++([U ((U (aE-k7))+(1000000000:Int))]:List Int)))
    else none
   else
    if (ad++([U (aE-k7)]:List Int)).length*8≤140737488355328 then
    some (.inl (0,U (cZ+(1:Int)),ad++([U (aE-k7)]:List Int)))
    else none
  else none
 else
  some (.inr ad)
def I3 (af ax:List Int)(cn k7 cZ:Int)(ad:List Int):Option ((List Int)):=iter (fun w:Int×Int×(List Int)=>tQ af ax cn w.1 w.2.1 w.2.2) (k7,cZ,ad)
theorem UJ {af ax:List Int}{cn k7 cZ:Int}{ad:List Int}:bA (tQ af ax cn k7 cZ ad) (dM bb 42 0 114 [1,1,1,0,1,0,0] (Hr af ax cn (k7,cZ,ad)) (Hr af ax cn) (HT af ax cn)):=by
 unfold tQ
 exact .ite (fun h1 =>
  .aZ fun o =>
  .au fun aE av =>
  (let t1:List bX:=[(J 1),.aa true,(J 2),.az (bs 3 (.b4 (eI aE)) 3),(J 4)];
  have aQ:=((.c9 h1 o.1 (cN eI o.2) (bU eI av)):cq _);
  .ite (fun aA =>
  .aZ fun a2 =>
  .au fun fl bn =>
  (let t3:List bX:=t1.append [.aa true,.az (bs 4 (.b4 (eI fl)) 2),(J 1),(J 2)];
  have eR:=aQ.aJ (.c9 aA a2.1 (cN eI a2.2) (bU eI bn));
  .ite (fun cp =>
  .aZ fun cK =>
  .ret (let q1:=(U ((U ((U (aE-k7))-fl))+(1000000000:Int)));let aY:=(ad++([q1]:List Int));bh (t3.append [.aa true,(J 3),(J 1),.az (bs 3 (.aJ (aY.length)) 1),(J 2),.aL [32] [.cL (ah 1 eI aY)] (a8 [0,1,5,6,11,12])]) (eR.aJ (.eJ cp (gZ eI q1) (hk eI ad) (gO eI ad q1) cK (c6 1 .live (ht eI ad q1)) (aK 1 .live aP aY)))))
  (fun cp =>
  .aZ fun cK =>
  .ret (let bJ:=U ((U (aE-k7))-fl);let bS:=(ad++([bJ]:List Int));bh (t3.append [.aa false,.az (bs 3 (.aJ (bS.length)) 1),(J 2),.aL [28] [.cL (ah 1 eI bS)] (a8 [0,1,5,6,11,12])]) (eR.aJ (.eJ cp (gZ eI bJ) (hk eI ad) (gO eI ad bJ) cK (c6 1 .live (ht eI ad bJ)) (aK 1 .live aP bS)))))))
  (fun aA =>
  (let t3:List bX:=t1.append [.aa false,(J 1),(J 2)];
  .ite (fun a2 =>
  .aZ fun bd =>
  .ret (let cA:=(U ((U (aE-k7))+(1000000000:Int)));let d4:=(ad++([cA]:List Int));bh (t3.append [.aa true,(J 3),(J 1),.az (bs 3 (.aJ (d4.length)) 1),(J 2),.aL [25] [.cL (ah 1 eI d4)] (a8 [0,1,5,6,11,12])]) (aQ.aJ (.gS aA a2 (gZ eI cA) (hk eI ad) (gO eI ad cA) bd (c6 1 .live (ht eI ad cA)) (aK 1 .live aP d4)))))
  (fun a2 =>
  .aZ fun bd =>
  .ret (let eB:=U (aE-k7);let fP:=(ad++([eB]:List Int));bh (t3.append [.aa false,.az (bs 3 (.aJ (fP.length)) 1),(J 2),.aL [21] [.cL (ah 1 eI fP)] (a8 [0,1,5,6,11,12])]) (aQ.aJ (.gS aA a2 (gZ eI eB) (hk eI ad) (gO eI ad eB) bd (c6 1 .live (ht eI ad eB)) (aK 1 .live aP fP)))))))))
  (fun h1 =>
  .ret (bh [(J 1),.aa false,.aL [0] [.pure] (a8 [5])] (.aC h1 (aK 1 .live aP ad))))
theorem Wa {af ax:List Int}{cn k7 cZ:Int}{ad:List Int}{r} (h:I3 af ax cn k7 cZ ad=some r):dN bb 42 0 114 [1,1,1,0,1,0,0] (Hr af ax cn) (HT af ax cn) (k7,cZ,ad) r:=dO (fun _=>UJ) h
def rN (af ax:List Int):Option (List Int) :=
 I3 af ax (len_ eI af) 0 0 ([]:List Int) >>= fun r1 =>
 pN r1 >>= fun bk =>
 some bk
theorem I4 {af ax:List Int}:bA (rN af ax) (fun r=>Con bb 114 [.isl 1 (af.map eI),.isl 1 (ax.map eI)] [] (.isl 1 (r.map eI)) []):=by
 unfold rN
 exact .au fun r1 o =>
  .au fun bk av =>
  .ret (bu [(J 1),(J 2),(J 1),(J 3),.aL [1] [.cL (ah 1 eI ([]:List Int))] [(0,ii),(1,ii),(5,fW (([]:List Int).length)),(6,ii),(11,ii),(12,ii)],(HT af ax (len_ eI af) r1).fb,.iT 0,.az (bs 1 (.call {ac:=[.bw (.dK (.e5 (r1.map eI)))],r:= .isl 1 (bk.map eI),fE:=false,fN:=[0]}) 1)] (.gS (c6 1 .live (show []=(([]:List Int)).map eI from rfl)) (aK 1 .live aP ([]:List Int)) (fH Int) (Wa o) (gN eI r1) (fT eI r1) (dS aP r1) (rJ bk av)))
def pQ (c7 er:bp):Option bp :=
 if (c7.cO == er.cO)=true then
  xg c7.cC er.cC >>= fun b5 =>
  hP c7.cO b5 >>= fun bi =>
  some bi
 else
  pP c7.cC er.cC >>= fun b5 =>
  if (decide ((0:Int)≤b5))=true then
   rN c7.cC er.cC >>= fun aT =>
   hP c7.cO aT >>= fun bI =>
   some bI
  else
   rN er.cC c7.cC >>= fun aT =>
   hP er.cO aT >>= fun bI =>
   some bI
theorem I5 {c7 er:bp}:bA (pQ c7 er) (fun r=>Con bb 95 [.agg (aX c7),.agg (aX er)] [] (.agg (aX r)) []):=by
 unfold pQ
 exact .ite (fun h1 =>
  .au fun b5 ae =>
  .au fun bi aA =>
  .ret (bu [(J 3),(J 5),.aa true,.az (aj 6 (an (br 2 (.isl 1 (b5.map eI)) false) (an (br 2 (.agg (aX bi)) false) (aj 1 []))))] (.bR h1 (Xe b5 ae) (nL bi aA))))
  (fun h1 =>
  .au fun b5 ae =>
  (let t1:List bX:=[(J 3),(J 5),.aa false,.az (bs 4 (br 2 (.n .i64 b5) true) 1)];
  have aQ:=((.bR h1 (w3 b5 ae) (b9.n .i64 b5)):cq _);
  .ite (fun av =>
  .au fun aT a2 =>
  .au fun bI bn =>
  .ret (bu (t1.append [.aa true,.az (aj 6 (an (br 2 (.isl 1 (aT.map eI)) false) (an (br 2 (.agg (aX bI)) false) (aj 1 []))))]) (aQ.aJ (.bR av (I4 aT a2) (nL bI bn)))))
  (fun av =>
  .au fun aT a2 =>
  .au fun bI bn =>
  .ret (bu (t1.append [.aa false,.az (aj 6 (an (br 2 (.isl 1 (aT.map eI)) false) (an (br 2 (.agg (aX bI)) false) (aj 1 []))))]) (aQ.aJ (.bR av (I4 aT a2) (nL bI bn)))))))
def HU (af:List Int)(gJ:Int):Int→S:=fun du=>dl [(0,.isl 1 (af.map eI)),(5,.isl 1 (af.map eI)),(6,.n .i64 gJ),(7,.n .i64 du)] []
def Nm (af:List Int)(gJ:Int):((Unit)⊕(Unit))→dm
 | .inl a=>⟨some 0,[(0,.isl 1 (af.map eI))],[]⟩
 | .inr a=>⟨none,[(2,.b false)],[]⟩
def wR (af:List Int)(gJ du:Int):Option ((Int)⊕((Unit)⊕(Unit))) :=
 if (decide (du<gJ))=true then
  if 0≤du∧du<af.length then
  af[du.toNat]? >>= fun aE =>
  mB aE 0 999999999 >>= fun aT =>
  if aT=true then
   some (.inl (U (du+(1:Int))))
  else
   some (.inr (.inr ()))
  else none
 else
  some (.inr (.inl ()))
def Jh (af:List Int)(gJ du:Int):Option ((Unit)⊕(Unit)):=iter (fun w:Int=>wR af gJ w) du
theorem U5 {af:List Int}{gJ du:Int}:bA (wR af gJ du) (dM bb 32 0 103 [1,0,1,0,0] (HU af gJ du) (HU af gJ) (Nm af gJ)):=by
 unfold wR
 exact .ite (fun h1 =>
  .aZ fun o =>
  .au fun aE av =>
  .au fun aT a2 =>
  (let t1:List bX:=[(J 1),.aa true,.az (bs 1 (.b4 (eI aE)) 1),.az (bs 1 (br 3 (.b aT) true) 1)];
  have aQ:=((.d5 h1 o.1 (cN eI o.2) (bU eI av) (pL aT a2) (b9.b aT)):cq _);
  .ite (fun bd =>
  .ret (bh (t1.append [.aa false,(J 2),.aL [] [] (a8 [0,5,6,7])]) (aQ.aJ (.e1 (cY bd)))))
  (fun bd =>
  .ret (bh (t1.append [.aa true,(J 1),.aL [] [] (a8 [2])]) (aQ.aJ (.e1 (cU bd)))))))
  (fun h1 =>
  .ret (bh [(J 1),.aa false,.aL [] [] (a8 [0])] (.e1 h1)))
theorem Iw {af:List Int}{gJ du:Int}{r} (h:Jh af gJ du=some r):dN bb 32 0 103 [1,0,1,0,0] (HU af gJ) (Nm af gJ) du r:=dO (fun _=>U5) h
def rO (af:List Int):Option Bool :=
 Jh af (len_ eI af) 0 >>= fun r1 =>
 match r1 with
 | .inl di=>(if (decide ((len_ eI af)≤(60:Int)))=true then
  if ((len_ eI af) == (0:Int))=true then
   some true
  else
   if 0≤(U ((len_ eI af)-(1:Int)))∧(U ((len_ eI af)-(1:Int)))<af.length then
   af[(U ((len_ eI af)-(1:Int))).toNat]? >>= fun fl =>
   some (fl != (0:Int))
   else none
  else
   some false)
 | .inr di=>(some false)
theorem Ji {af:List Int}:bA (rO af) (fun r=>Con bb 103 [.isl 1 (af.map eI)] [] (.b r) []):=by
 unfold rO
 exact .au fun r1 o =>
  (let t1:List bX:=[(J 1),(J 3),.aL [] [] (a8 [0,5,6,7])];
  (by
  rcases r1 with di|di
  ·exact ((let t2:List bX:=t1.append [.sub (.exit 0) [(0,.isl 1 (af.map eI))] []];
  .ite (fun av =>
  (have fF:=((.dn (Iw o) av av av av):cq _);
  .ite (fun aA =>
  .ret (bu (t2.append [.az (aj 8 (cr 7 (an (.aa true) (an (.aa true) (aj 1 [])))))]) (fF.aJ (.bl aA aA aA aA aA aA aA av (.aC aA av)))))
  (fun aA =>
  .aZ fun a2 =>
  .au fun fl bn =>
  .ret (bu (t2.append [.az (aj 13 (an (.b4 (eI fl)) (aj 1 (an (.aa false) (an (.aa true) (aj 1 []))))))]) (fF.aJ (.bl aA aA aA aA aA a2.1 (cN eI a2.2) aA (.dn (bU eI bn) aA av aA av)))))))
  (fun av =>
  .ret (bu (t2.append [.az (aj 4 (cr 4 (aj 7 (cr 1 (an (.aa false) (aj 1 []))))))]) (.eJ (Iw o) av av av av av av)))))
  ·exact (.ret (bu (t1.append [.sub (.ret) [(2,.b false)] []]) (.e1 (Iw o))))))
def Gw (af:List Int):(Int×Int)→S:=fun (a3,ag)=>dl [(0,.isl 1 (af.map eI)),(4,.n .i64 a3),(5,.n .i64 ag)] []
def GQ (af:List Int):Int→dm
 | a=>⟨some 0,[(4,.n .i64 a)],[]⟩
def wh (af:List Int)(a3 ag:Int):Option ((Int×Int)⊕(Int)) :=
 if (decide ((0:Int)≤ag))=true then
  if 0≤ag∧ag<af.length then
  af[ag.toNat]? >>= fun aE =>
  some (.inl (U ((U (a3*(1000000000:Int)))+aE),U (ag-(1:Int))))
  else none
 else
  some (.inr a3)
def Ix (af:List Int)(a3 ag:Int):Option (Int):=iter (fun w:Int×Int=>wh af w.1 w.2) (a3,ag)
theorem T7 {af:List Int}{a3 ag:Int}:bA (wh af a3 ag) (dM bb 30 0 121 [1,1,1,0,1,0,0] (Gw af (a3,ag)) (Gw af) (GQ af)):=by
 unfold wh
 exact .ite (fun h1 =>
  .aZ fun o =>
  .au fun aE av =>
  .ret (bh [(J 2),.aa true,.az (bs 5 (.b4 (eI aE)) 2),(J 3),.aL [] [] (a8 [0,4,5])] (.c9 h1 o.1 (cN eI o.2) (bU eI av))))
  (fun h1 =>
  .ret (bh [(J 2),.aa false,.aL [] [] (a8 [4])] (.e1 h1)))
theorem Vv {af:List Int}{a3 ag:Int}{r} (h:Ix af a3 ag=some r):dN bb 30 0 121 [1,1,1,0,1,0,0] (Gw af) (GQ af) (a3,ag) r:=dO (fun _=>T7) h
def w6 (af:List Int):Option (Int×Bool) :=
 rO af >>= fun r1 =>
 if r1=true then
  pP af ([854775807,223372036,9]:List Int) >>= fun bi =>
  if (decide ((0:Int)<bi))=true then
   some (0,false)
  else
   Ix af 0 (U ((len_ eI af)-(1:Int))) >>= fun bI =>
   some (bI,true)
 else
  some (0,false)
theorem Nt {af:List Int}:bA (w6 af) (fun r=>Con bb 121 [.isl 1 (af.map eI)] [] (.dZ [.n .i64 r.1,.b r.2]) []):=by
 unfold w6
 exact .au fun r1 o =>
  (have ah:=((.aC (Ji r1 o) (b9.b r1)):cq _);
  .ite (fun ae =>
  .au fun bi aA =>
  (let t2:List bX:=[(J 2),.az (aj 1 (an (br 1 (.b r1) true) (aj 4 (an (.call {ac:=[ii,.bw (.dK (.e5 (([854775807,223372036,9]:List Int).map eI)))],r:= .n .i64 bi,fE:=true,fN:=[7]}) (aj 1 (an (.aa false) []))))))];
  have fF:=ah.aJ (.bl (cY ae) (cY ae) (cY ae) (lZ (show [[.n .i64 (854775807:Int)],[.n .i64 (223372036:Int)],[.n .i64 (9:Int)]]=(([854775807,223372036,9]:List Int)).map eI from rfl) (show 3=([854775807,223372036,9]:List Int).length from rfl)) (lG (show [[.n .i64 (854775807:Int)],[.n .i64 (223372036:Int)],[.n .i64 (9:Int)]]=(([854775807,223372036,9]:List Int)).map eI from rfl) (show 3=([854775807,223372036,9]:List Int).length from rfl)) (dS aP ([854775807,223372036,9]:List Int)) (w3 bi aA) (b9.n .i64 bi) (.aC (cY ae) (cY ae)));
  .ite (fun a2 =>
  .ret (bu (t2.append [.aa true,(J 2)]) (fF.aJ (.e1 a2))))
  (fun a2 =>
  .au fun bI bn =>
  .ret (bu (t2.append [.aa false,(J 1),(J 4),.aL [] [] (a8 [0,4,5]),(GQ af bI).fb,(J 3)]) (fF.aJ (.aC a2 (Vv bn)))))))
  (fun ae =>
  .ret (bu [(J 2),.az (aj 1 (an (br 1 (.b r1) true) (aj 2 (cr 4 (an (.aa true) []))))),.aa true,(J 2)] (ah.aJ (.d5 (cU ae) (cU ae) (cU ae) (cU ae) (cU ae) cE)))))
def Gx:(Int×Int)→S:=fun (c7,er)=>dl [(0,.n .i64 c7),(1,.n .i64 er)] []
def GR:Int→dm
 | a=>⟨some 0,[(0,.n .i64 a)],[]⟩
def wi (c7 er:Int):Option ((Int×Int)⊕(Int)) :=
 if (decide ((0:Int)<er))=true then
  if er≠0 then
  some (.inl (er,c7.tmod er))
  else none
 else
  some (.inr c7)
def Iy (c7 er:Int):Option (Int):=iter (fun w:Int×Int=>wi w.1 w.2) (c7,er)
theorem T8 {c7 er:Int}:bA (wi c7 er) (dM bb 15 0 122 [1,0,0,0] (Gx (c7,er)) (Gx) (GR)):=by
 unfold wi
 exact .ite (fun h1 =>
  .aZ fun o =>
  .ret (bh [(J 2),.aa true,(J 4),(J 2),(J 2),.aL [] [] (a8 [0,1])] (.aC h1 o)))
  (fun h1 =>
  .ret (bh [(J 2),.aa false,.aL [] [] (a8 [0])] (.e1 h1)))
theorem Vw {c7 er:Int}{r} (h:Iy c7 er=some r):dN bb 15 0 122 [1,0,0,0] (Gx) (GR) (c7,er) r:=dO (fun _=>T8) h
def zx (c7 er:Int):Option (List Int) :=
 Iy c7 er >>= fun r1 =>
 ra r1 >>= fun bk =>
 some bk
theorem Ws {c7 er:Int}:bA (zx c7 er) (fun r=>Con bb 122 [.n .i64 c7,.n .i64 er] [] (.isl 1 (r.map eI)) []):=by
 unfold zx
 exact .au fun r1 o =>
  .au fun bk av =>
  .ret (bu [(J 1),.aL [] [] (a8 [0,1]),(GR r1).fb,.az (bs 1 (br 1 (.isl 1 (bk.map eI)) false) 1)] (.aC (Vw o) (w5 bk av)))
def Gy (af:List Int)(lh:Int):(Int×Int×(List Int))→S:=fun (fM,ag,ad)=>dl [(0,.isl 1 (af.map eI)),(1,.n .i64 lh),(6,.bm 0 0 0 ad.length),(7,.n .i64 fM),(8,.n .i64 ag)] [(ah 1 eI ad)]
def GS (af:List Int)(lh:Int):(Int×(List Int))→dm
 | a=>⟨some 0,[(6,.bm 0 0 0 a.2.length),(7,.n .i64 a.1)],[(ah 1 eI a.2)]⟩
def wj (af:List Int)(lh fM ag:Int)(ad:List Int):Option ((Int×Int×(List Int))⊕(Int×(List Int))) :=
 if (decide ((0:Int)≤ag))=true then
  if 0≤ag∧ag<af.length then
  af[ag.toNat]? >>= fun aE =>
  if lh≠0 then
  if 0≤ag∧ag<(ad.length:Nat) then
  if (0+ag.toNat)<ad.length then
  some (.inl ((U ((U (fM*(1000000000:Int)))+aE)).tmod lh,U (ag-(1:Int)),ad.set (0+ag.toNat) (U ((U ((U (fM*(1000000000:Int)))+aE)).tdiv lh))))
  else none
  else none
  else none
  else none
 else
  some (.inr (fM,ad))
def CK (af:List Int)(lh fM ag:Int)(ad:List Int):Option (Int×(List Int)):=iter (fun w:Int×Int×(List Int)=>wj af lh w.1 w.2.1 w.2.2) (fM,ag,ad)
theorem T9 {af:List Int}{lh fM ag:Int}{ad:List Int}:bA (wj af lh fM ag ad) (dM bb 39 0 127 [1,1,1,0,1,0,0] (Gy af lh (fM,ag,ad)) (Gy af lh) (GS af lh)):=by
 unfold wj
 exact .ite (fun h1 =>
  .aZ fun o =>
  .au fun aE av =>
  .aZ fun aA =>
  .aZ fun a2 =>
  .aZ fun bd =>
  .ret (let q1:=(U ((U ((U (fM*(1000000000:Int)))+aE)).tdiv lh));bh [(J 2),.aa true,.az (bs 5 (.b4 (eI aE)) 2),.az (aj 6 (an .fQ [])),(J 4),(J 3),.aL [0] [.cL (ah 1 eI (ad.set (0+ag.toNat) q1))] [(0,ii),(1,ii),(6,fW ((ad.set (0+ag.toNat) q1).length)),(7,ii),(8,ii)]] (.bl h1 o.1 (cN eI o.2) (bU eI av) aA a2.1 a2.2 (hE eI bd) (.dn (hs 1) aA (c6 1 .live (gD (cW eI ad) (0+ag.toNat) q1)) (aK 1 .live aP (ad.set (0+ag.toNat) q1)) (hR (dL ad) (0+ag.toNat) q1)))))
  (fun h1 =>
  .ret (bh [(J 2),.aa false,.aL [0] [.pure] (a8 [6,7])] (.aC h1 (aK 1 .live aP ad))))
theorem Vx {af:List Int}{lh fM ag:Int}{ad:List Int}{r} (h:CK af lh fM ag ad=some r):dN bb 39 0 127 [1,1,1,0,1,0,0] (Gy af lh) (GS af lh) (fM,ag,ad) r:=dO (fun _=>T9) h
def zy (af:List Int)(lh:Int):Option ((List Int)×Int) :=
 if 0≤(len_ eI af)∧(8:Int)*(len_ eI af)≤281474976710656∧(len_ eI af)<9223372036854775808 then
 CK af lh 0 (U ((len_ eI af)-(1:Int))) (List.replicate (len_ eI af).toNat 0:List Int) >>= fun b5 =>
 pN b5.2 >>= fun bi =>
 some (bi,b5.1)
 else none
theorem Wt {af:List Int}{lh:Int}:bA (zy af lh) (fun r=>Con bb 127 [.isl 1 (af.map eI),.n .i64 lh] [] (.dZ [.isl 1 (r.1.map eI),.n .i64 r.2]) []):=by
 unfold zy
 exact .aZ fun h1 =>
  .au fun b5 ae =>
  .au fun bi aA =>
  .ret (let q1:=(List.replicate (len_ eI af).toNat 0:List Int);bu [(J 2),(J 4),(J 1),(J 4),.aL [4] [.cL (ah 1 eI q1)] [(0,ii),(1,ii),(6,fW (q1.length)),(7,ii),(8,ii)],(GS af lh b5).fb,.iT 0,.az (bs 1 (.call {ac:=[.bw (.dK (.e5 (b5.2.map eI)))],r:= .isl 1 (bi.map eI),fE:=false,fN:=[0]}) 3)] (.bl h1.1 (Int.le_refl (len_ eI af)) h1.2.1 h1.2.2 (c6 1 .live (lu eI (len_ eI af).toNat 0)) (aK 1 .live aP q1) (lH (len_ eI af).toNat (0:Int)) (Vx ae) (.c9 (gN eI b5.2) (fT eI b5.2) (dS aP b5.2) (rJ bi aA))))
def Hs (ax:List Int)(ag c7:Int)(dd:List Int)(de hb:Int):(Int×Int×(List Int))→S:=fun (c3,df,ad)=>dl [(1,.isl 1 (ax.map eI)),(5,.bm 0 0 0 ad.length),(6,.n .i64 ag),(7,.n .i64 c7),(8,.n .i64 c3),(26,.isl 1 (dd.map eI)),(27,.n .i64 de),(28,.n .i64 ag),(33,.isl 1 (ax.map eI)),(34,.n .i64 hb),(35,.n .i64 df)] [(ah 1 eI ad)]
def HV (ax:List Int)(ag c7:Int)(dd:List Int)(de hb:Int):(Int×(List Int))→dm
 | a=>⟨some 2,[(1,.isl 1 (ax.map eI)),(5,.bm 0 0 0 a.2.length),(6,.n .i64 ag),(8,.n .i64 a.1),(26,.isl 1 (dd.map eI)),(27,.n .i64 de),(28,.n .i64 ag)],[(ah 1 eI a.2)]⟩
def wJ (ax:List Int)(ag c7:Int)(dd:List Int)(de hb c3 df:Int)(ad:List Int):Option ((Int×Int×(List Int))⊕(Int×(List Int))) :=
 if (decide (df<hb))=true then
  if 0≤df∧df<ax.length then
  ax[df.toNat]? >>= fun aE =>
  if 0≤(U (ag+df))∧(U (ag+df))<(ad.length:Nat) then
  ad[(0+(U (ag+df)).toNat)]? >>= fun ct =>
  if (0+(U (ag+df)).toNat)<ad.length then
  some (.inl (U ((U ((U (ct+(U (c7*aE))))+c3)).tdiv (1000000000:Int)),U (df+(1:Int)),ad.set (0+(U (ag+df)).toNat) ((U ((U (ct+(U (c7*aE))))+c3)).tmod (1000000000:Int))))
  else none
  else none
  else none
 else
  some (.inr (c3,ad))
def I6 (ax:List Int)(ag c7:Int)(dd:List Int)(de hb c3 df:Int)(ad:List Int):Option (Int×(List Int)):=iter (fun w:Int×Int×(List Int)=>wJ ax ag c7 dd de hb w.1 w.2.1 w.2.2) (c3,df,ad)
theorem UK {ax:List Int}{ag c7:Int}{dd:List Int}{de hb c3 df:Int}{ad:List Int}:bA (wJ ax ag c7 dd de hb c3 df ad) (dM bb 72 0 98 [1,1,1,0,1,0,0,1,1,0,0,1,1,0,1,0,0] (Hs ax ag c7 dd de hb (c3,df,ad)) (Hs ax ag c7 dd de hb) (HV ax ag c7 dd de hb)):=by
 unfold wJ
 exact .ite (fun h1 =>
  .aZ fun o =>
  .au fun aE av =>
  .aZ fun aA =>
  .au fun ct bd =>
  .aZ fun bn =>
  .ret (let q1:=U ((U (ct+(U (c7*aE))))+c3);let aY:=U (ag+df);bh [(J 1),.aa true,.az (bs 2 (.b4 (eI aE)) 2),.az (bs 5 (.b4 (eI ct)) 7),.az (aj 7 (an .fQ [])),(J 3),(J 2),.aL [0] [.cL (ah 1 eI (ad.set (0+aY.toNat) (q1.tmod (1000000000:Int))))] [(1,ii),(5,fW ((ad.set (0+aY.toNat) (q1.tmod (1000000000:Int))).length)),(6,ii),(7,ii),(8,ii),(26,ii),(27,ii),(28,ii),(33,ii),(34,ii),(35,ii)]] (.bl h1 o.1 (cN eI o.2) (bU eI av) aA.1 aA.2 (bU eI bd) (by decide:(1000000000:Int)≠0) (.gS aA.1 aA.2 (hE eI bn) (hs 1) (by decide:(1000000000:Int)≠0) (c6 1 .live (gD (cW eI ad) (0+aY.toNat) (q1.tmod (1000000000:Int)))) (aK 1 .live aP (ad.set (0+aY.toNat) (q1.tmod (1000000000:Int)))) (hR (dL ad) (0+aY.toNat) (q1.tmod (1000000000:Int)))))))
  (fun h1 =>
  .ret (bh [(J 1),.aa false,.aL [0] [.pure] (a8 [1,5,6,8,26,27,28])] (.aC h1 (aK 1 .live aP ad))))
theorem Wb {ax:List Int}{ag c7:Int}{dd:List Int}{de hb c3 df:Int}{ad:List Int}{r} (h:I6 ax ag c7 dd de hb c3 df ad=some r):dN bb 72 0 98 [1,1,1,0,1,0,0,1,1,0,0,1,1,0,1,0,0] (Hs ax ag c7 dd de hb) (HV ax ag c7 dd de hb) (c3,df,ad) r:=dO (fun _=>UK) h
def Ht (ax dd:List Int)(de:Int):(Int×(List Int))→S:=fun (fx,ad)=>dl [(1,.isl 1 (ax.map eI)),(5,.bm 0 0 0 ad.length),(26,.isl 1 (dd.map eI)),(27,.n .i64 de),(28,.n .i64 fx)] [(ah 1 eI ad)]
def HW (ax dd:List Int)(de:Int):(List Int)→dm
 | a=>⟨some 0,[(5,.bm 0 0 0 a.length)],[(ah 1 eI a)]⟩
def y5 (ax dd:List Int)(de fx:Int)(ad:List Int):Option ((Int×(List Int))⊕((List Int))) :=
 if (decide (fx<de))=true then
  if 0≤fx∧fx<dd.length then
  dd[fx.toNat]? >>= fun aE =>
  I6 ax fx aE dd de (len_ eI ax) 0 0 ad >>= fun aT =>
  if 0≤(U (fx+(len_ eI ax)))∧(U (fx+(len_ eI ax)))<(aT.2.length:Nat) then
  if (0+(U (fx+(len_ eI ax))).toNat)<aT.2.length then
  some (.inl (U (fx+(1:Int)),aT.2.set (0+(U (fx+(len_ eI ax))).toNat) aT.1))
  else none
  else none
  else none
 else
  some (.inr ad)
def zq (ax dd:List Int)(de fx:Int)(ad:List Int):Option ((List Int)):=iter (fun w:Int×(List Int)=>y5 ax dd de w.1 w.2) (fx,ad)
theorem UL {ax dd:List Int}{de fx:Int}{ad:List Int}:bA (y5 ax dd de fx ad) (dM bb 72 0 98 [1,1,1,0,1,0,0] (Ht ax dd de (fx,ad)) (Ht ax dd de) (HW ax dd de)):=by
 unfold y5
 exact .ite (fun h1 =>
  .aZ fun o =>
  .au fun aE av =>
  .au fun aT a2 =>
  .aZ fun bd =>
  .aZ fun bn =>
  .ret (let q1:=U (fx+(len_ eI ax));bh [(J 1),.aa true,.az (bs 2 (.b4 (eI aE)) 2),(J 1),(J 3),.aL [0] [.pure] (a8 [1,5,6,7,8,26,27,28,33,34,35]),(HV ax fx aE dd de (len_ eI ax) aT).fb,.az (aj 7 (an .fQ [])),(J 2),.aL [0] [.cL (ah 1 eI (aT.2.set (0+q1.toNat) aT.1))] [(1,ii),(5,fW ((aT.2.set (0+q1.toNat) aT.1).length)),(26,ii),(27,ii),(28,ii)]] (.bl h1 o.1 (cN eI o.2) (bU eI av) (aK 1 .live aP ad) (Wb a2) bd.1 bd.2 (.dn (hE eI bn) (hs 1) (c6 1 .live (gD (cW eI aT.2) (0+q1.toNat) aT.1)) (aK 1 .live aP (aT.2.set (0+q1.toNat) aT.1)) (hR (dL aT.2) (0+q1.toNat) aT.1)))))
  (fun h1 =>
  .ret (bh [(J 1),.aa false,.aL [0] [.pure] (a8 [5])] (.aC h1 (aK 1 .live aP ad))))
theorem Wc {ax dd:List Int}{de fx:Int}{ad:List Int}{r} (h:zq ax dd de fx ad=some r):dN bb 72 0 98 [1,1,1,0,1,0,0] (Ht ax dd de) (HW ax dd de) (fx,ad) r:=dO (fun _=>UL) h
def hL (af ax:List Int):Option (List Int) :=
 if ((len_ eI af) == (0:Int))=true then
  some ([]:List Int)
 else
  if ((len_ eI ax) == (0:Int))=true then
   some ([]:List Int)
  else
   if 0≤(U ((len_ eI af)+(len_ eI ax)))∧(8:Int)*(U ((len_ eI af)+(len_ eI ax)))≤281474976710656∧(U ((len_ eI af)+(len_ eI ax)))<9223372036854775808 then
   zq ax af (len_ eI af) 0 (List.replicate (U ((len_ eI af)+(len_ eI ax))).toNat 0:List Int) >>= fun bi =>
   pN bi >>= fun cf =>
   some cf
   else none
theorem oV {af ax:List Int}:bA (hL af ax) (fun r=>Con bb 98 [.isl 1 (af.map eI),.isl 1 (ax.map eI)] [] (.isl 1 (r.map eI)) []):=by
 unfold hL
 exact .ite (fun h1 =>
  .ret (bu [(J 1),.az (aj 4 (cr 3 (an (.aa true) []))),.aa true,(J 1)] (.dn h1 h1 h1 h1 cE) (.bw (.dK (.jW 1)))))
  (fun h1 =>
  (let t1:List bX:=[(J 1),.az (aj 7 (an (.aa false) []))];
  .ite (fun o =>
  .ret (bu (t1.append [.aa true,(J 1)]) (.dn h1 h1 h1 h1 o) (.bw (.dK (.jW 1)))))
  (fun o =>
  .aZ fun ae =>
  .au fun bi aA =>
  .au fun cf bd =>
  .ret (let q1:=U ((len_ eI af)+(len_ eI ax));let aY:=(List.replicate q1.toNat 0:List Int);bu (t1.append [.aa false,(J 7),(J 3),.aL [14] [.cL (ah 1 eI aY)] [(1,ii),(5,fW (aY.length)),(26,ii),(27,ii),(28,ii)],(HW ax af (len_ eI af) bi).fb,.iT 0,.az (bs 1 (.call {ac:=[.bw (.dK (.e5 (bi.map eI)))],r:= .isl 1 (cf.map eI),fE:=false,fN:=[0]}) 1)]) (.bl h1 h1 h1 h1 o ae.1 (Int.le_refl q1) ae.2.1 (.bl ae.2.2 (c6 1 .live (lu eI q1.toNat 0)) (aK 1 .live aP aY) (lH q1.toNat (0:Int)) (Wc aA) (gN eI bi) (fT eI bi) (dS aP bi) (.e1 (rJ cf bd))))))))
def Gz (bW ax:List Int):(Int×Int)→S:=fun (l8,ml)=>dl [(0,.isl 1 (bW.map eI)),(1,.isl 1 (ax.map eI)),(7,.n .i64 l8),(8,.n .i64 ml)] []
def MN (bW ax:List Int):Int→dm
 | a=>⟨some 0,[(7,.n .i64 a)],[]⟩
def tK (bW ax:List Int)(l8 ml:Int):Option ((Int×Int)⊕(Int)) :=
 if (decide (l8<ml))=true then
  ra (U ((U ((U (l8+ml))+(1:Int))).tdiv (2:Int))) >>= fun b5 =>
  hL ax b5 >>= fun bi =>
  pP bi bW >>= fun cf =>
  if (decide (cf≤(0:Int)))=true then
   some (.inl (U ((U ((U (l8+ml))+(1:Int))).tdiv (2:Int)),ml))
  else
   some (.inl (l8,U ((U ((U ((U (l8+ml))+(1:Int))).tdiv (2:Int)))-(1:Int))))
 else
  some (.inr l8)
def CL (bW ax:List Int)(l8 ml:Int):Option (Int):=iter (fun w:Int×Int=>tK bW ax w.1 w.2) (l8,ml)
theorem Ua {bW ax:List Int}{l8 ml:Int}:bA (tK bW ax l8 ml) (dM bb 63 0 128 [1,1,1,1,1,1,0,0,0] (Gz bW ax (l8,ml)) (Gz bW ax) (MN bW ax)):=by
 unfold tK
 exact .ite (fun h1 =>
  .au fun b5 ae =>
  .au fun bi aA =>
  .au fun cf bd =>
  (let t1:List bX:=[(J 3),.aa true,(J 6),.az (aj 2 (an (br 1 (.isl 1 (b5.map eI)) false) (an (br 2 (.isl 1 (bi.map eI)) false) (bs 1 (br 2 (.n .i64 cf) true) 1))))];
  have aQ:=((.d5 h1 (by decide:(2:Int)≠0) (w5 b5 ae) (oV bi aA) (w3 cf bd) (b9.n .i64 cf)):cq _);
  .ite (fun bn =>
  .ret (bh (t1.append [.aa true,(J 2),.aL [] [] (a8 [0,1,7,8])]) (aQ.aJ (.e1 bn))))
  (fun bn =>
  .ret (bh (t1.append [.aa false,(J 3),.aL [] [] (a8 [0,1,7,8])]) (aQ.aJ (.e1 bn))))))
  (fun h1 =>
  .ret (bh [(J 3),.aa false,.aL [] [] (a8 [7])] (.e1 h1)))
theorem MW {bW ax:List Int}{l8 ml:Int}{r} (h:CL bW ax l8 ml=some r):dN bb 63 0 128 [1,1,1,1,1,1,0,0,0] (Gz bW ax) (MN bW ax) (l8,ml) r:=dO (fun _=>Ua) h
def zz (bW ax:List Int):Option Int :=
 if 0≤(U ((len_ eI ax)-(1:Int)))∧(U ((len_ eI ax)-(1:Int)))<bW.length then
 bW[(U ((len_ eI ax)-(1:Int))).toNat]? >>= fun d3 =>
 if (decide ((len_ eI ax)<(len_ eI bW)))=true then
  if 0≤(len_ eI ax)∧(len_ eI ax)<bW.length then
  bW[(len_ eI ax).toNat]? >>= fun ct =>
  if 0≤(U ((len_ eI ax)-(1:Int)))∧(U ((len_ eI ax)-(1:Int)))<ax.length then
  ax[(U ((len_ eI ax)-(1:Int))).toNat]? >>= fun eo =>
  if (U (eo+(1:Int)))≠0 then
  if eo≠0 then
  CL bW ax (U ((U (d3+(U (ct*(1000000000:Int))))).tdiv (U (eo+(1:Int))))) (if (U ((U (d3+(U (ct*(1000000000:Int))))).tdiv eo))<(999999999:Int) then (U ((U (d3+(U (ct*(1000000000:Int))))).tdiv eo)) else (999999999:Int)) >>= fun ex =>
  some ex
  else none
  else none
  else none
  else none
 else
  if 0≤(U ((len_ eI ax)-(1:Int)))∧(U ((len_ eI ax)-(1:Int)))<ax.length then
  ax[(U ((len_ eI ax)-(1:Int))).toNat]? >>= fun ct =>
  if (U (ct+(1:Int)))≠0 then
  if ct≠0 then
  CL bW ax (U (d3.tdiv (U (ct+(1:Int))))) (if (U (d3.tdiv ct))<(999999999:Int) then (U (d3.tdiv ct)) else (999999999:Int)) >>= fun ef =>
  some ef
  else none
  else none
  else none
 else none
theorem Wu {bW ax:List Int}:bA (zz bW ax) (fun r=>Con bb 128 [.isl 1 (bW.map eI),.isl 1 (ax.map eI)] [] (.n .i64 r) []):=by
 unfold zz
 exact .aZ fun h1 =>
  .au fun d3 ae =>
  (let t1:List bX:=[(J 1),(J 3),.az (bs 4 (.b4 (eI d3)) 1),(J 4)];
  have aQ:=((.bR h1.1 (cN eI h1.2) (bU eI ae)):cq _);
  .ite (fun av =>
  .aZ fun aA =>
  .au fun ct bd =>
  .aZ fun bn =>
  .au fun eo cK =>
  .aZ fun eV =>
  .aZ fun e4 =>
  .au fun ex ew =>
  .ret (bu (t1.append [.aa true,.az (bs 4 (.b4 (eI ct)) 3),.az (bs 5 (.b4 (eI eo)) 3),.az (bs 5 (.b4 (eI eo)) 3),.aL [] [] (a8 [0,1,7,8]),.sub (.exit 0) [(7,.n .i64 ex)] [],(J 2)]) (aQ.aJ (.bl av aA.1 (cN eI aA.2) (bU eI bd) bn.1 (cN eI bn.2) (bU eI cK) eV (.dn bn.1 (cN eI bn.2) (bU eI cK) e4 (MW ew))))))
  (fun av =>
  .aZ fun aA =>
  .au fun ct bd =>
  .aZ fun bn =>
  .aZ fun cp =>
  .au fun ef eV =>
  .ret (bu (t1.append [.aa false,.az (bs 5 (.b4 (eI ct)) 3),.az (bs 5 (.b4 (eI ct)) 3),.aL [] [] (a8 [0,1,7,8]),.sub (.exit 0) [(7,.n .i64 ef)] [],(J 2)]) (aQ.aJ (.bl av aA.1 (cN eI aA.2) (bU eI bd) bn aA.1 (cN eI aA.2) (bU eI bd) (.aC cp (MW eV)))))))
def Hu (af ax:List Int):((List Int)×Int×(List Int))→S:=fun (fM,ag,ad)=>dl [(0,.isl 1 (af.map eI)),(1,.isl 1 (ax.map eI)),(8,.bm 0 0 0 ad.length),(9,.isl 1 (fM.map eI)),(10,.n .i64 ag)] [(ah 1 eI ad)]
def HX (af ax:List Int):((List Int)×(List Int))→dm
 | a=>⟨some 0,[(8,.bm 0 0 0 a.2.length),(9,.isl 1 (a.1.map eI))],[(ah 1 eI a.2)]⟩
def wK (af ax fM:List Int)(ag:Int)(ad:List Int):Option (((List Int)×Int×(List Int))⊕((List Int)×(List Int))) :=
 if (decide ((0:Int)≤ag))=true then
  if 0≤ag∧ag<af.length then
  af[ag.toNat]? >>= fun aE =>
  if (([aE]:List Int)++fM).length*8≤140737488355328 then
  pN (([aE]:List Int)++fM) >>= fun cf =>
  pP cf ax >>= fun c4 =>
  if (decide (c4<(0:Int)))=true then
   some (.inl (cf,U (ag-(1:Int)),ad))
  else
   zz cf ax >>= fun dc =>
   if 0≤ag∧ag<(ad.length:Nat) then
   if (0+ag.toNat)<ad.length then
   ra dc >>= fun gB =>
   hL ax gB >>= fun gn =>
   rN cf gn >>= fun oN =>
   some (.inl (oN,U (ag-(1:Int)),ad.set (0+ag.toNat) dc))
   else none
   else none
  else none
  else none
 else
  some (.inr (fM,ad))
def I7 (af ax fM:List Int)(ag:Int)(ad:List Int):Option ((List Int)×(List Int)):=iter (fun w:(List Int)×Int×(List Int)=>wK af ax w.1 w.2.1 w.2.2) (fM,ag,ad)
theorem UM {af ax fM:List Int}{ag:Int}{ad:List Int}:bA (wK af ax fM ag ad) (dM bb 65 0 116 [1,1,1,1,0,1,0,0] (Hu af ax (fM,ag,ad)) (Hu af ax) (HX af ax)):=by
 unfold wK
 exact .ite (fun h1 =>
  .aZ fun o =>
  .au fun aE av =>
  .aZ fun aA =>
  .au fun cf bd =>
  .au fun c4 cp =>
  (let q1:=(([aE]:List Int)++fM);let t1:List bX:=[(J 2),.aa true,.az (aj 3 (an (.b4 (eI aE)) (aj 2 (an (.aJ (q1.length)) (an (.vf 9 (.call {ac:=[.bw (.dK (.e5 (q1.map eI)))],r:= .isl 1 (cf.map eI),fE:=false,fN:=[9]})) (aj 1 [])))))),.az (bs 2 (br 2 (.n .i64 c4) true) 1)];
  have aQ:=((.bl h1 o.1 (cN eI o.2) (bU eI av) (aeg eI aE) (mE (show 1=([aE]:List Int).length from rfl) (cW eI fM):q1.length=1+(fM.map eI).length) aA (lZ (jc (show [[.n .i64 aE]]=(([aE]:List Int)).map eI from rfl) (show 1=([aE]:List Int).length from rfl) (cW eI fM)) (dL q1)) (.dn (lG (jc (show [[.n .i64 aE]]=(([aE]:List Int)).map eI from rfl) (show 1=([aE]:List Int).length from rfl) (cW eI fM)) (dL q1)) (dS aP q1) (rJ cf bd) (w3 c4 cp) (b9.n .i64 c4))):cq _);
  .ite (fun cK =>
  .ret (bh (t1.append [.aa true,(J 3),.aL [0] [.pure] (a8 [0,1,8,9,10])]) (aQ.aJ (.aC cK (aK 1 .live aP ad)))))
  (fun cK =>
  .au fun dc e4 =>
  .aZ fun ev =>
  .aZ fun ew =>
  .au fun gB hY =>
  .au fun gn hz =>
  .au fun oN fk =>
  .ret (bh (t1.append [.aa false,.az (bs 2 (br 2 (.n .i64 dc) true) 1),.az (aj 4 (an .fQ [])),.az (aj 3 (an (br 1 (.isl 1 (gB.map eI)) false) (an (br 2 (.isl 1 (gn.map eI)) false) (an (br 2 (.isl 1 (oN.map eI)) false) (aj 1 []))))),(J 3),.aL [0] [.cL (ah 1 eI (ad.set (0+ag.toNat) dc))] [(0,ii),(1,ii),(8,fW ((ad.set (0+ag.toNat) dc).length)),(9,ii),(10,ii)]]) (aQ.aJ (.bl cK (Wu dc e4) (b9.n .i64 dc) ev.1 ev.2 (hE eI ew) (hs 1) (w5 gB hY) (.dn (oV gn hz) (I4 oN fk) (c6 1 .live (gD (cW eI ad) (0+ag.toNat) dc)) (aK 1 .live aP (ad.set (0+ag.toNat) dc)) (hR (dL ad) (0+ag.toNat) dc))))))))
  (fun h1 =>
  .ret (bh [(J 2),.aa false,.aL [0] [.pure] (a8 [8,9])] (.aC h1 (aK 1 .live aP ad))))
theorem Wd {af ax fM:List Int}{ag:Int}{ad:List Int}{r} (h:I7 af ax fM ag ad=some r):dN bb 65 0 116 [1,1,1,1,0,1,0,0] (Hu af ax) (HX af ax) (fM,ag,ad) r:=dO (fun _=>UM) h
def sJ (af ax:List Int):Option ((List Int)×(List Int)) :=
 if ((len_ eI ax) == (1:Int))=true then
  if 0≤(0:Int)∧(0:Int)<ax.length then
  ax[0]? >>= fun aE =>
  zy af aE >>= fun aT =>
  ra aT.2 >>= fun bI =>
  some (aT.1,bI)
  else none
 else
  if 0≤(len_ eI af)∧(8:Int)*(len_ eI af)≤281474976710656∧(len_ eI af)<9223372036854775808 then
  I7 af ax ([]:List Int) (U ((len_ eI af)-(1:Int))) (List.replicate (len_ eI af).toNat 0:List Int) >>= fun bk =>
  pN bk.2 >>= fun aT =>
  some (aT,bk.1)
  else none
theorem CY {af ax:List Int}:bA (sJ af ax) (fun r=>Con bb 116 [.isl 1 (af.map eI),.isl 1 (ax.map eI)] [] (.dZ [.isl 1 (r.1.map eI),.isl 1 (r.2.map eI)]) []):=by
 unfold sJ
 exact .ite (fun h1 =>
  .aZ fun o =>
  .au fun aE av =>
  .au fun aT a2 =>
  .au fun bI bn =>
  .ret (bu [(J 2),(J 3),.aa true,.az (aj 3 (an (.b4 (eI aE)) (an (br 2 (.dZ [.isl 1 (aT.1.map eI),.n .i64 aT.2]) false) (aj 5 [])))),.az (bs 2 (br 1 (.isl 1 (bI.map eI)) false) 2)] (.d5 h1 o.1 (cN eI o.2) (bU eI av) (Wt aT a2) (w5 bI bn))))
  (fun h1 =>
  .aZ fun o =>
  .au fun bk av =>
  .au fun aT a2 =>
  .ret (let q1:=(List.replicate (len_ eI af).toNat 0:List Int);bu [(J 2),(J 3),.aa false,(J 4),(J 2),(J 4),.aL [7] [.cL (ah 1 eI q1)] [(0,ii),(1,ii),(8,fW (q1.length)),(9,.bw (.dK (.e5 (([]:List Int).map eI)))),(10,ii)],(HX af ax bk).fb,.iT 0,.az (bs 1 (.call {ac:=[.bw (.dK (.e5 (bk.2.map eI)))],r:= .isl 1 (aT.map eI),fE:=false,fN:=[0]}) 3)] (.bl h1 o.1 (Int.le_refl (len_ eI af)) o.2.1 o.2.2 (c6 1 .live (lu eI (len_ eI af).toNat 0)) (aK 1 .live aP q1) (lH (len_ eI af).toNat (0:Int)) (.gS (lZ (show []=(([]:List Int)).map eI from rfl) (fH Int)) (lG (show []=(([]:List Int)).map eI from rfl) (fH Int)) (dS aP ([]:List Int)) (Wd av) (gN eI bk.2) (fT eI bk.2) (dS aP bk.2) (rJ aT a2)))))
def Hv:((List Int)×(List Int))→S:=fun (c7,er)=>dl [(5,.isl 1 (c7.map eI)),(6,.isl 1 (er.map eI))] []
def CF:(((List Int))⊕((List Int)))→dm
 | .inl a=>⟨some 0,[(5,.isl 1 (a.map eI))],[]⟩
 | .inr a=>⟨none,[(4,.isl 1 (a.map eI))],[]⟩
def tR (c7 er:List Int):Option (((List Int)×(List Int))⊕(((List Int))⊕((List Int)))) :=
 if (decide ((0:Int)<(len_ eI er)))=true then
  if (decide ((len_ eI c7)<(3:Int)))=true then
   if (decide ((len_ eI er)<(3:Int)))=true then
    w6 c7 >>= fun bi =>
    w6 er >>= fun cf =>
    zx bi.1 cf.1 >>= fun c4 =>
    some (.inr (.inr c4))
   else
    sJ c7 er >>= fun bi =>
    some (.inl (er,bi.2))
  else
   sJ c7 er >>= fun bk =>
   some (.inl (er,bk.2))
 else
  some (.inr (.inl c7))
def I8 (c7 er:List Int):Option (((List Int))⊕((List Int))):=iter (fun w:(List Int)×(List Int)=>tR w.1 w.2) (c7,er)
theorem UN {c7 er:List Int}:bA (tR c7 er) (dM bb 52 0 104 [1,1,1,0,0,0] (Hv (c7,er)) (Hv) (CF)):=by
 unfold tR
 exact .ite (fun h1 =>
  .ite (fun o =>
  (let t1:List bX:=[(J 3),.aa true,.az (aj 7 (an (.aa true) []))];
  .ite (fun ae =>
  .au fun bi aA =>
  .au fun cf bd =>
  .au fun c4 cp =>
  .ret (bh (t1.append [.aa true,.az (bs 1 (br 1 (.dZ [.n .i64 bi.1,.b bi.2]) true) 5),.az (bs 1 (br 1 (.dZ [.n .i64 cf.1,.b cf.2]) true) 5),.az (bs 2 (br 2 (.isl 1 (c4.map eI)) false) 1),.aL [] [] (a8 [4])]) (.bl h1 o o o o ae (Nt bi aA) (DS (oY (b9.n .i64 bi.1) (oY (b9.b bi.2) uD))) (.bR (Nt cf bd) (DS (oY (b9.n .i64 cf.1) (oY (b9.b cf.2) uD))) (Ws c4 cp)))))
  (fun ae =>
  .au fun bi aA =>
  .ret (bh (t1.append [.aa false,.az (bs 2 (br 2 (.dZ [.isl 1 (bi.1.map eI),.isl 1 (bi.2.map eI)]) false) 5),(J 2),(J 2),.aL [] [] (a8 [5,6])]) (.eJ h1 o o o o ae (CY bi aA))))))
  (fun o =>
  .au fun bk av =>
  .ret (bh [(J 3),.aa true,.az (aj 4 (cr 3 (an (.aa false) []))),.aa false,.az (bs 2 (br 2 (.dZ [.isl 1 (bk.1.map eI),.isl 1 (bk.2.map eI)]) false) 5),(J 2),(J 2),.aL [] [] (a8 [5,6])] (.eJ h1 o o o o c1 (CY bk av)))))
  (fun h1 =>
  .ret (bh [(J 3),.aa false,.aL [] [] (a8 [5])] (.e1 h1)))
theorem Nn {c7 er:List Int}{r} (h:I8 c7 er=some r):dN bb 52 0 104 [1,1,1,0,0,0] (Hv) (CF) (c7,er) r:=dO (fun _=>UN) h
def xh (af ax:List Int):Option (List Int) :=
 if (([]:List Int)++af).length*8≤140737488355328 then
 if (([]:List Int)++ax).length*8≤140737488355328 then
 I8 (([]:List Int)++af) (([]:List Int)++ax) >>= fun bk =>
 match bk with
 | .inl fU=>(some fU)
 | .inr fU=>(some fU)
 else none
 else none
theorem NJ {af ax:List Int}:bA (xh af ax) (fun r=>Con bb 104 [.isl 1 (af.map eI),.isl 1 (ax.map eI)] [] (.isl 1 (r.map eI)) []):=by
 unfold xh
 exact .aZ fun h1 =>
  .aZ fun o =>
  .au fun bk av =>
  (let q1:=(([]:List Int)++af);let aY:=(([]:List Int)++ax);let t1:List bX:=[(J 1),.az (bs 2 (.aJ (q1.length)) 1),.az (bs 2 (.aJ (aY.length)) 1),.aL [] [] [(5,.bw (.dK (.e5 (q1.map eI)))),(6,.bw (.dK (.e5 (aY.map eI))))]];
  have aQ:=((.bl (oe (show []=(([]:List Int)).map eI from rfl) (fH Int)) (mE (fH Int) (cW eI af):q1.length=0+(af.map eI).length) h1 (oe (show []=(([]:List Int)).map eI from rfl) (fH Int)) (mE (fH Int) (cW eI ax):aY.length=0+(ax.map eI).length) o (lZ (jc (show []=(([]:List Int)).map eI from rfl) (fH Int) (cW eI af)) (dL q1)) (lG (jc (show []=(([]:List Int)).map eI from rfl) (fH Int) (cW eI af)) (dL q1)) (.c9 (dS aP q1) (lZ (jc (show []=(([]:List Int)).map eI from rfl) (fH Int) (cW eI ax)) (dL aY)) (lG (jc (show []=(([]:List Int)).map eI from rfl) (fH Int) (cW eI ax)) (dL aY)) (dS aP aY))):cq _);
  (by
  rcases bk with fU|fU
  ·exact (.ret (bu (t1.append [(CF (.inl fU)).fb,(J 2)]) (aQ.aJ (.e1 (Nn av)))))
  ·exact (.ret (bu (t1.append [(CF (.inr fU)).fb]) (aQ.aJ (.e1 (Nn av)))))))
def nM (nU:Bool)(af ax:List Int):Option aM :=
 pN af >>= fun r1 =>
 pN ax >>= fun bk =>
 if ((len_ eI bk) == (0:Int))=true then
  some (⟨(⟨false,([]:List Int)⟩:bp),([]:List Int)⟩:aM)
 else
  qn bk >>= fun cf =>
  if cf=true then
   if (decide ((24:Int)<(len_ eI r1)))=true then
    some (⟨(⟨false,([]:List Int)⟩:bp),([]:List Int)⟩:aM)
   else
    if (decide ((24:Int)<(len_ eI bk)))=true then
     some (⟨(⟨false,([]:List Int)⟩:bp),([]:List Int)⟩:aM)
    else
     hP nU r1 >>= fun dc =>
     if (([]:List Int)++bk).length*8≤140737488355328 then
     some (⟨dc,([]:List Int)++bk⟩:aM)
     else none
  else
   xh r1 bk >>= fun bx =>
   qn bx >>= fun dc =>
   if dc=true then
    if (decide ((24:Int)<(len_ eI r1)))=true then
     some (⟨(⟨false,([]:List Int)⟩:bp),([]:List Int)⟩:aM)
    else
     if (decide ((24:Int)<(len_ eI bk)))=true then
      some (⟨(⟨false,([]:List Int)⟩:bp),([]:List Int)⟩:aM)
     else
      hP nU r1 >>= fun ey =>
      if (([]:List Int)++bk).length*8≤140737488355328 then
      some (⟨ey,([]:List Int)++bk⟩:aM)
      else none
   else
    sJ r1 bx >>= fun gf =>
    sJ bk bx >>= fun ey =>
    if (decide ((24:Int)<(len_ eI gf.1)))=true then
     some (⟨(⟨false,([]:List Int)⟩:bp),([]:List Int)⟩:aM)
    else
     if (decide ((24:Int)<(len_ eI ey.1)))=true then
      some (⟨(⟨false,([]:List Int)⟩:bp),([]:List Int)⟩:aM)
     else
      hP nU gf.1 >>= fun jo =>
      if (([]:List Int)++ey.1).length*8≤140737488355328 then
      some (⟨jo,([]:List Int)++ey.1⟩:aM)
      else none
theorem zr {nU:Bool}{af ax:List Int}:bA (nM nU af ax) (fun r=>Con bb 96 [.b nU,.isl 1 (af.map eI),.isl 1 (ax.map eI)] [] (.agg (aO r)) []):=by
 unfold nM
 exact .au fun r1 o =>
  .au fun bk av =>
  (let t1:List bX:=[(J 1),.az (bs 1 (br 1 (.isl 1 (r1.map eI)) false) 1),.az (bs 1 (br 1 (.isl 1 (bk.map eI)) false) 1),(J 3)];
  have aQ:=((.aC (rJ r1 o) (rJ bk av)):cq _);
  .ite (fun aA =>
  .ret (bu (t1.append [.aa true,(J 2)]) (aQ.aJ (.e1 aA)) (.bw (.agg [.id,.jW 1,.jW 1]))))
  (fun aA =>
  .au fun cf bd =>
  (let t3:List bX:=t1.append [.aa false,.az (bs 1 (br 1 (.b cf) true) 1)];
  have eR:=aQ.aJ (.bR aA (zp cf bd) (b9.b cf));
  .ite (fun bn =>
  .ite (fun cp =>
  .ret (bu (t3.append [.aa false,.az (aj 4 (cr 3 (an (.aa true) []))),.aa true,(J 2)]) (eR.aJ (.d5 (cY bn) cp cp cp cp cE)) (.bw (.agg [.id,.jW 1,.jW 1]))))
  (fun cp =>
  (let t5:List bX:=t3.append [.aa false,.az (aj 7 (an (.aa false) []))];
  .ite (fun cK =>
  .ret (bu (t5.append [.aa true,(J 2)]) (eR.aJ (.d5 (cY bn) cp cp cp cp cK)) (.bw (.agg [.id,.jW 1,.jW 1]))))
  (fun cK =>
  .au fun dc e4 =>
  .aZ fun ev =>
  .ret (let q1:=(([]:List Int)++bk);bu (t5.append [.aa false,.az (aj 2 (an (br 2 (.agg (aX dc)) false) (bs 2 (.aJ (q1.length)) 2)))]) (eR.aJ (.bl (cY bn) cp cp cp cp cK (nL dc e4) (oe (show []=(([]:List Int)).map eI from rfl) (fH Int)) (.dn (mE (fH Int) (cW eI bk):q1.length=0+(bk.map eI).length) ev (lZ (jc (show []=(([]:List Int)).map eI from rfl) (fH Int) (cW eI bk)) (dL q1)) (lG (jc (show []=(([]:List Int)).map eI from rfl) (fH Int) (cW eI bk)) (dL q1)) (dS aP q1)))) (.bw (.agg [.id,.id,.e5 (q1.map eI)])))))))
  (fun bn =>
  .au fun bx cK =>
  .au fun dc e4 =>
  (let t5:List bX:=t3.append [.aa true,.az (bs 2 (br 2 (.isl 1 (bx.map eI)) false) 1),.az (bs 1 (br 1 (.b dc) true) 1)];
  have kF:=eR.aJ (.c9 (cU bn) (NJ bx cK) (zp dc e4) (b9.b dc));
  .ite (fun ev =>
  .ite (fun ew =>
  .ret (bu (t5.append [.aa false,.az (aj 4 (cr 3 (an (.aa true) []))),.aa true,(J 2)]) (kF.aJ (.d5 (cY ev) ew ew ew ew cE)) (.bw (.agg [.id,.jW 1,.jW 1]))))
  (fun ew =>
  (let t7:List bX:=t5.append [.aa false,.az (aj 7 (an (.aa false) []))];
  have my:=kF.aJ (.dn (cY ev) ew ew ew ew);
  .ite (fun fS =>
  .ret (bu (t7.append [.aa true,(J 2)]) (my.aJ (.e1 fS)) (.bw (.agg [.id,.jW 1,.jW 1]))))
  (fun fS =>
  .au fun ey hy =>
  .aZ fun hz =>
  .ret (let aY:=(([]:List Int)++bk);bu (t7.append [.aa false,.az (aj 2 (an (br 2 (.agg (aX ey)) false) (bs 2 (.aJ (aY.length)) 2)))]) (my.aJ (.gS fS (nL ey hy) (oe (show []=(([]:List Int)).map eI from rfl) (fH Int)) (mE (fH Int) (cW eI bk):aY.length=0+(bk.map eI).length) hz (lZ (jc (show []=(([]:List Int)).map eI from rfl) (fH Int) (cW eI bk)) (dL aY)) (lG (jc (show []=(([]:List Int)).map eI from rfl) (fH Int) (cW eI bk)) (dL aY)) (dS aP aY))) (.bw (.agg [.id,.id,.e5 (aY.map eI)])))))))
  (fun ev =>
  .au fun gf fS =>
  .au fun ey hy =>
  (let t7:List bX:=t5.append [.aa true,.az (bs 2 (br 2 (.dZ [.isl 1 (gf.1.map eI),.isl 1 (gf.2.map eI)]) false) 4),.az (bs 2 (br 2 (.dZ [.isl 1 (ey.1.map eI),.isl 1 (ey.2.map eI)]) false) 4)];
  have my:=kF.aJ (.bR (cU ev) (CY gf fS) (CY ey hy));
  .ite (fun hz =>
  .ret (bu (t7.append [.az (aj 4 (cr 3 (an (.aa true) []))),.aa true,(J 2)]) (my.aJ (.dn hz hz hz hz cE)) (.bw (.agg [.id,.jW 1,.jW 1]))))
  (fun hz =>
  (let t9:List bX:=t7.append [.az (aj 7 (an (.aa false) []))];
  .ite (fun gA =>
  .ret (bu (t9.append [.aa true,(J 2)]) (my.aJ (.dn hz hz hz hz gA)) (.bw (.agg [.id,.jW 1,.jW 1]))))
  (fun gA =>
  .au fun jo gL =>
  .aZ fun iN =>
  .ret (let bJ:=(([]:List Int)++ey.1);let bS:=cW eI ey.1;bu (t9.append [.aa false,.az (aj 2 (an (br 2 (.agg (aX jo)) false) (bs 2 (.aJ (bJ.length)) 2)))]) (my.aJ (.bl hz hz hz hz gA (nL jo gL) (oe (show []=(([]:List Int)).map eI from rfl) (fH Int)) (mE (fH Int) bS:bJ.length=0+(ey.1.map eI).length) (.c9 iN (lZ (jc (show []=(([]:List Int)).map eI from rfl) (fH Int) bS) (dL bJ)) (lG (jc (show []=(([]:List Int)).map eI from rfl) (fH Int) bS) (dL bJ)) (dS aP bJ)))) (.bw (.agg [.id,.id,.e5 (bJ.map eI)])))))))))))))
def q9 (bW aN:aM):Option aM :=
 qn bW.hx >>= fun r1 =>
 if r1=true then
  qn aN.hx >>= fun bi =>
  if bi=true then
   pQ bW.fp aN.fp >>= fun bI =>
   nM bI.cO bI.cC ([1]:List Int) >>= fun bx =>
   some bx
  else
   hL bW.fp.cC aN.hx >>= fun bI =>
   hP bW.fp.cO bI >>= fun bx =>
   hL aN.fp.cC bW.hx >>= fun dc =>
   hP aN.fp.cO dc >>= fun ex =>
   pQ bx ex >>= fun gB =>
   hL bW.hx aN.hx >>= fun gn =>
   nM gB.cO gB.cC gn >>= fun oN =>
   some oN
 else
  hL bW.fp.cC aN.hx >>= fun bi =>
  hP bW.fp.cO bi >>= fun cf =>
  hL aN.fp.cC bW.hx >>= fun c4 =>
  hP aN.fp.cO c4 >>= fun ef =>
  pQ cf ef >>= fun dT =>
  hL bW.hx aN.hx >>= fun gf =>
  nM dT.cO dT.cC gf >>= fun ey =>
  some ey
theorem CZ {bW aN:aM}:bA (q9 bW aN) (fun r=>Con bb 77 [.agg (aO bW),.agg (aO aN)] [] (.agg (aO r)) []):=by
 unfold q9
 exact .au fun r1 o =>
  (have ah:=((.aC (zp r1 o) (b9.b r1)):cq _);
  .ite (fun ae =>
  .au fun bi aA =>
  (let t2:List bX:=[(J 3),.az (aj 2 (an (br 1 (.b r1) true) (aj 3 (an (br 1 (.b bi) true) (an (.aa true) [])))))];
  have fF:=ah.aJ (.d5 ae ae ae (zp bi aA) (b9.b bi) ae);
  .ite (fun a2 =>
  .au fun bI bn =>
  .au fun bx cK =>
  .ret (bu (t2.append [.aa true,.az (bs 4 (br 2 (.agg (aX bI)) false) 2),.az (bs 5 (.vf 22 (.call {ac:=[ii,ii,.bw (.dK (.e5 (([1]:List Int).map eI)))],r:= .agg (aO bx),fE:=false,fN:=[22]})) 1)]) (fF.aJ (.d5 a2 (I5 bI bn) (lZ (show [[.n .i64 (1:Int)]]=(([1]:List Int)).map eI from rfl) (show 1=([1]:List Int).length from rfl)) (gZ eI 1) (dS aP ([1]:List Int)) (zr bx cK)))))
  (fun a2 =>
  .au fun bI bn =>
  .au fun bx cK =>
  .au fun dc e4 =>
  .au fun ex ew =>
  .au fun gB hY =>
  .au fun gn hz =>
  .au fun oN fk =>
  .ret (bu (t2.append [.aa false,.az (aj 8 (an (br 2 (.isl 1 (bI.map eI)) false) (an (br 2 (.agg (aX bx)) false) (aj 2 [])))),.az (aj 8 (an (br 2 (.isl 1 (dc.map eI)) false) (an (br 2 (.agg (aX ex)) false) (aj 2 [])))),.az (bs 2 (br 2 (.agg (aX gB)) false) 2),.az (aj 8 (an (br 2 (.isl 1 (gn.map eI)) false) (an (br 3 (.agg (aO oN)) false) (aj 1 []))))]) (fF.aJ (.gS a2 (oV bI bn) (nL bx cK) (oV dc e4) (nL ex ew) (I5 gB hY) (oV gn hz) (zr oN fk)))))))
  (fun ae =>
  .au fun bi aA =>
  .au fun cf bd =>
  .au fun c4 cp =>
  .au fun ef eV =>
  .au fun dT ev =>
  .au fun gf fS =>
  .au fun ey hy =>
  .ret (bu [(J 3),.az (aj 2 (an (br 1 (.b r1) true) (aj 1 (cr 3 (an (.aa false) []))))),.aa false,.az (aj 8 (an (br 2 (.isl 1 (bi.map eI)) false) (an (br 2 (.agg (aX cf)) false) (aj 2 [])))),.az (aj 8 (an (br 2 (.isl 1 (c4.map eI)) false) (an (br 2 (.agg (aX ef)) false) (aj 2 [])))),.az (bs 2 (br 2 (.agg (aX dT)) false) 2),.az (aj 8 (an (br 2 (.isl 1 (gf.map eI)) false) (an (br 3 (.agg (aO ey)) false) (aj 1 []))))] (ah.aJ (.bl ae ae ae ae c1 (oV bi aA) (nL cf bd) (oV c4 cp) (.c9 (nL ef eV) (I5 dT ev) (oV gf fS) (zr ey hy)))))))
end Go.Proofs.YtamedijmgkdlgacGreat
namespace Go.Proofs.YtamedijmgkdlgacGreat
set_option linter.unusedVariables false
set_option linter.unusedSimpArgs false
open Go Go.VL
def FY (aF aD:Int)(bq c5 c8:List Int)(bM:Int):(Int×(List aM))→S:=fun (bP,aG)=>dl [(1,.ref 0 0 0 0),(3,.ref 1 0 0 0),(4,.n .i64 bP)] [[ab.mk 5 [[.n .i64 aF,.n .i64 aD,.isl 1 (bq.map eI),.isl 1 (c5.map eI),.isl 1 (c8.map eI)]] .live],[ab.mk 4 [[.n .i64 bM,.eT,.eT,.bm 2 0 0 aG.length]] .live],(ah 3 aO aG)]
def Gh (aF aD:Int)(bq c5 c8:List Int)(bM:Int):(List aM)→dm
 | a=>⟨some 0,[(1,.ref 0 0 0 0),(3,.ref 1 0 0 0)],[[ab.mk 5 [[.n .i64 aF,.n .i64 aD,.isl 1 (bq.map eI),.isl 1 (c5.map eI),.isl 1 (c8.map eI)]] .live],[ab.mk 4 [[.n .i64 bM,.eT,.eT,.bm 2 0 0 a.length]] .live],(ah 3 aO a)]⟩
def vX (aF aD:Int)(bq c5 c8:List Int)(bM bP:Int)(aG:List aM):Option ((Int×(List aM))⊕((List aM))) :=
 if (decide (bP≤bM))=true then
  oU 0 >>= fun b5 =>
  if (aG++([b5]:List aM)).length*56≤140737488355328 then
  some (.inl (U (bP+(1:Int)),aG++([b5]:List aM)))
  else none
 else
  some (.inr aG)
def HY (aF aD:Int)(bq c5 c8:List Int)(bM bP:Int)(aG:List aM):Option ((List aM)):=iter (fun w:Int×(List aM)=>vX aF aD bq c5 c8 bM w.1 w.2) (bP,aG)
theorem TH {aF aD:Int}{bq c5 c8:List Int}{bM bP:Int}{aG:List aM}:bA (vX aF aD bq c5 c8 bM bP aG) (dM bb 152 0 52 [1,1,0,1,0,0] (FY aF aD bq c5 c8 bM (bP,aG)) (FY aF aD bq c5 c8 bM) (Gh aF aD bq c5 c8 bM)):=by
 unfold vX
 exact .ite (fun h1 =>
  .au fun b5 ae =>
  .aZ fun av =>
  .ret (let q1:=(aG++([b5]:List aM));bh [(J 6),.aa true,.az (aj 5 (an (br 1 (.agg (aO b5)) false) (bs 1 (.aJ (q1.length)) 3))),(J 3),.aL [0,1,16] [.box [.id,.id,.id,.id,.id],.box [.id,.id,.id,.id],.cL (ah 3 aO q1)] (a8 [1,3,4])] (.gS h1 (rI b5 ae) (gZ aO b5) (hk aO aG) (gO aO aG b5) av (c6 3 .live (ht aO aG b5)) (aK 3 .live eM q1))))
  (fun h1 =>
  .ret (bh [(J 6),.aa false,.aL [0,1,2] [.box [.id,.id,.id,.id,.id],.box [.id,.id,.id,.id],.pure] (a8 [1,3])] (.aC h1 (aK 3 .live eM aG))))
theorem U6 {aF aD:Int}{bq c5 c8:List Int}{bM bP:Int}{aG:List aM}{r} (h:HY aF aD bq c5 c8 bM bP aG=some r):dN bb 152 0 52 [1,1,0,1,0,0] (FY aF aD bq c5 c8 bM) (Gh aF aD bq c5 c8 bM) (bP,aG) r:=dO (fun _=>TH) h
def FZ (ag:Int)(d8:List Int)(fj aF aD:Int)(bq c5 c8:List Int)(bM:Int)(al:List bt)(eO:List (List aM))(bF:List Int)(eY:List aM):(Int×(List aM))→S:=fun (gy,aG)=>dl [(1,.ref 0 0 0 0),(3,.ref 1 0 0 0),(5,.n .i64 ag),(6,.n .i64 (-1:Int)),(7,.bm 2 0 0 aG.length),(53,.isl 1 (d8.map eI)),(54,.n .i64 fj),(55,.n .i64 gy)] [[ab.mk 5 [[.n .i64 aF,.n .i64 aD,.isl 1 (bq.map eI),.isl 1 (c5.map eI),.isl 1 (c8.map eI)]] .live],[ab.mk 4 [(gu bM 3 0 0 al.length 5 0 0 bF.length 6 0 0 eY.length)] .live],(ah 3 aO aG),(ah 1 (a9 4 0 3) al),(bZ 3 aO eO),(ah 1 eI bF),(ah 3 aO eY)]
def Gi (ag:Int)(d8:List Int)(fj aF aD:Int)(bq c5 c8:List Int)(bM:Int)(al:List bt)(eO:List (List aM))(bF:List Int)(eY:List aM):(List aM)→dm
 | a=>⟨some 4,[(1,.ref 0 0 0 0),(3,.ref 1 0 0 0),(5,.n .i64 ag),(6,.n .i64 (-1:Int)),(7,.bm 2 0 0 a.length)],[[ab.mk 5 [[.n .i64 aF,.n .i64 aD,.isl 1 (bq.map eI),.isl 1 (c5.map eI),.isl 1 (c8.map eI)]] .live],[ab.mk 4 [(gu bM 3 0 0 al.length 5 0 0 bF.length 6 0 0 eY.length)] .live],(ah 3 aO a),(ah 1 (a9 4 0 3) al),(bZ 3 aO eO),(ah 1 eI bF),(ah 3 aO eY)]⟩
def vY (ag:Int)(d8:List Int)(fj aF aD:Int)(bq c5 c8:List Int)(bM:Int)(al:List bt)(eO:List (List aM))(bF:List Int)(eY:List aM)(gy:Int)(aG:List aM):Option ((Int×(List aM))⊕((List aM))) :=
 if (decide (gy<fj))=true then
  if 0≤gy∧gy<d8.length then
  d8[gy.toNat]? >>= fun aE =>
  oU (U ((-1:Int)*aE)) >>= fun aT =>
  if (aG++([aT]:List aM)).length*56≤140737488355328 then
  some (.inl (U (gy+(1:Int)),aG++([aT]:List aM)))
  else none
  else none
 else
  some (.inr aG)
def CG (ag:Int)(d8:List Int)(fj aF aD:Int)(bq c5 c8:List Int)(bM:Int)(al:List bt)(eO:List (List aM))(bF:List Int)(eY:List aM)(gy:Int)(aG:List aM):Option ((List aM)):=iter (fun w:Int×(List aM)=>vY ag d8 fj aF aD bq c5 c8 bM al eO bF eY w.1 w.2) (gy,aG)
theorem TI {ag:Int}{d8:List Int}{fj aF aD:Int}{bq c5 c8:List Int}{bM:Int}{al:List bt}{eO:List (List aM)}{bF:List Int}{eY:List aM}{gy:Int}{aG:List aM}:bA (vY ag d8 fj aF aD bq c5 c8 bM al eO bF eY gy aG) (dM bb 152 0 52 [1,1,1,0,1,0,0,1,0,0,1,1,1,0,1,0,0] (FZ ag d8 fj aF aD bq c5 c8 bM al eO bF eY (gy,aG)) (FZ ag d8 fj aF aD bq c5 c8 bM al eO bF eY) (Gi ag d8 fj aF aD bq c5 c8 bM al eO bF eY)):=by
 unfold vY
 exact .ite (fun h1 =>
  .aZ fun o =>
  .au fun aE av =>
  .au fun aT a2 =>
  .aZ fun bd =>
  .ret (let q1:=(aG++([aT]:List aM));let aY:=cv [0,1,17,3,4,5,6];bh [(J 1),.aa true,.az (bs 1 (.b4 (eI aE)) 1),.az (aj 4 (an (br 1 (.agg (aO aT)) false) (bs 1 (.aJ (q1.length)) 1))),(J 2),.aL [0,1,17,3,4,5,6] [.box [.id,.id,.id,.id,.id],.box [.id,.id,.id,.id],.cL (ah 3 aO q1),.bD (ah 1 (a9 4 0 3) al),.bD (bZ 3 aO eO),.pure,.pure] (a8 [1,3,5,6,7,53,54,55])] (.bl h1 o.1 (cN eI o.2) (bU eI av) (rI aT a2) (gZ aO aT) (hk aO aG) (gO aO aG aT) (.eJ bd (c6 3 .live (ht aO aG aT)) (aK 3 .live eM q1) (et aY 4 4 0 3 rfl al) (dt aY 3 fh eO) (aK 1 .live aP bF) (aK 3 .live eM eY)))))
  (fun h1 =>
  .ret (let bJ:=cv [0,1,2,3,4,5,6];bh [(J 1),.aa false,.aL [0,1,2,3,4,5,6] [.box [.id,.id,.id,.id,.id],.box [.id,.id,.id,.id],.pure,.bD (ah 1 (a9 4 0 3) al),.bD (bZ 3 aO eO),.pure,.pure] (a8 [1,3,5,6,7])] (.d5 h1 (aK 3 .live eM aG) (et bJ 4 4 0 3 rfl al) (dt bJ 3 fh eO) (aK 1 .live aP bF) (aK 3 .live eM eY))))
theorem U7 {ag:Int}{d8:List Int}{fj aF aD:Int}{bq c5 c8:List Int}{bM:Int}{al:List bt}{eO:List (List aM)}{bF:List Int}{eY:List aM}{gy:Int}{aG:List aM}{r} (h:CG ag d8 fj aF aD bq c5 c8 bM al eO bF eY gy aG=some r):dN bb 152 0 52 [1,1,1,0,1,0,0,1,0,0,1,1,1,0,1,0,0] (FZ ag d8 fj aF aD bq c5 c8 bM al eO bF eY) (Gi ag d8 fj aF aD bq c5 c8 bM al eO bF eY) (gy,aG) r:=dO (fun _=>TI) h
def F0 (ag aF aD:Int)(bq c5 c8:List Int)(bM:Int)(al:List bt)(eO:List (List aM))(bF:List Int)(eY:List aM):(Int×(List aM))→S:=fun (bz,aG)=>dl [(1,.ref 0 0 0 0),(3,.ref 1 0 0 0),(5,.n .i64 ag),(6,.n .i64 (-1:Int)),(7,.bm 2 0 0 aG.length),(10,.n .i64 bz)] [[ab.mk 5 [[.n .i64 aF,.n .i64 aD,.isl 1 (bq.map eI),.isl 1 (c5.map eI),.isl 1 (c8.map eI)]] .live],[ab.mk 4 [(gu bM 3 0 0 al.length 5 0 0 bF.length 6 0 0 eY.length)] .live],(ah 3 aO aG),(ah 1 (a9 4 0 3) al),(bZ 3 aO eO),(ah 1 eI bF),(ah 3 aO eY)]
def Gj (ag aF aD:Int)(bq c5 c8:List Int)(bM:Int)(al:List bt)(eO:List (List aM))(bF:List Int)(eY:List aM):(List aM)→dm
 | a=>⟨some 6,[(1,.ref 0 0 0 0),(3,.ref 1 0 0 0),(5,.n .i64 ag),(6,.n .i64 (-1:Int)),(7,.bm 2 0 0 a.length)],[[ab.mk 5 [[.n .i64 aF,.n .i64 aD,.isl 1 (bq.map eI),.isl 1 (c5.map eI),.isl 1 (c8.map eI)]] .live],[ab.mk 4 [(gu bM 3 0 0 al.length 5 0 0 bF.length 6 0 0 eY.length)] .live],(ah 3 aO a),(ah 1 (a9 4 0 3) al),(bZ 3 aO eO),(ah 1 eI bF),(ah 3 aO eY)]⟩
def vZ (ag aF aD:Int)(bq c5 c8:List Int)(bM:Int)(al:List bt)(eO:List (List aM))(bF:List Int)(eY:List aM)(bz:Int)(aG:List aM):Option ((Int×(List aM))⊕((List aM))) :=
 if (decide (bz<aF))=true then
  if (bz == ag)=true then
   oU 1 >>= fun bk =>
   if (aG++([bk]:List aM)).length*56≤140737488355328 then
   some (.inl (U (bz+(1:Int)),aG++([bk]:List aM)))
   else none
  else
   oU 0 >>= fun bk =>
   if (aG++([bk]:List aM)).length*56≤140737488355328 then
   some (.inl (U (bz+(1:Int)),aG++([bk]:List aM)))
   else none
 else
  some (.inr aG)
def CH (ag aF aD:Int)(bq c5 c8:List Int)(bM:Int)(al:List bt)(eO:List (List aM))(bF:List Int)(eY:List aM)(bz:Int)(aG:List aM):Option ((List aM)):=iter (fun w:Int×(List aM)=>vZ ag aF aD bq c5 c8 bM al eO bF eY w.1 w.2) (bz,aG)
theorem TJ {ag aF aD:Int}{bq c5 c8:List Int}{bM:Int}{al:List bt}{eO:List (List aM)}{bF:List Int}{eY:List aM}{bz:Int}{aG:List aM}:bA (vZ ag aF aD bq c5 c8 bM al eO bF eY bz aG) (dM bb 152 0 52 [1,1,1,0,1,0,0,1,0,0,1,1,1,1,0,1,0,0] (F0 ag aF aD bq c5 c8 bM al eO bF eY (bz,aG)) (F0 ag aF aD bq c5 c8 bM al eO bF eY) (Gj ag aF aD bq c5 c8 bM al eO bF eY)):=by
 unfold vZ
 exact .ite (fun h1 =>
  (let t1:List bX:=[(J 4),.aa true,(J 1),(J 3)];
  .ite (fun o =>
  .au fun bk av =>
  .aZ fun aA =>
  .ret (let q1:=(aG++([bk]:List aM));let aY:=cv [0,1,20,3,4,5,6];bh (t1.append [.aa true,(J 1),.az (aj 2 (an (br 1 (.agg (aO bk)) false) (bs 1 (.aJ (q1.length)) 1))),(J 3),.aL [0,1,20,3,4,5,6] [.box [.id,.id,.id,.id,.id],.box [.id,.id,.id,.id],.cL (ah 3 aO q1),.bD (ah 1 (a9 4 0 3) al),.bD (bZ 3 aO eO),.pure,.pure] (a8 [1,3,5,6,7,10])]) (.bl h1 o (rI bk av) (gZ aO bk) (hk aO aG) (gO aO aG bk) aA (c6 3 .live (ht aO aG bk)) (.dn (aK 3 .live eM q1) (et aY 4 4 0 3 rfl al) (dt aY 3 fh eO) (aK 1 .live aP bF) (aK 3 .live eM eY)))))
  (fun o =>
  .au fun bk av =>
  .aZ fun aA =>
  .ret (let bJ:=(aG++([bk]:List aM));let bS:=cv [0,1,19,3,4,5,6];bh (t1.append [.aa false,.az (aj 2 (an (br 1 (.agg (aO bk)) false) (bs 1 (.aJ (bJ.length)) 1))),(J 3),.aL [0,1,19,3,4,5,6] [.box [.id,.id,.id,.id,.id],.box [.id,.id,.id,.id],.cL (ah 3 aO bJ),.bD (ah 1 (a9 4 0 3) al),.bD (bZ 3 aO eO),.pure,.pure] (a8 [1,3,5,6,7,10])]) (.bl h1 o (rI bk av) (gZ aO bk) (hk aO aG) (gO aO aG bk) aA (c6 3 .live (ht aO aG bk)) (.dn (aK 3 .live eM bJ) (et bS 4 4 0 3 rfl al) (dt bS 3 fh eO) (aK 1 .live aP bF) (aK 3 .live eM eY)))))))
  (fun h1 =>
  .ret (let cA:=cv [0,1,2,3,4,5,6];bh [(J 4),.aa false,.aL [0,1,2,3,4,5,6] [.box [.id,.id,.id,.id,.id],.box [.id,.id,.id,.id],.pure,.bD (ah 1 (a9 4 0 3) al),.bD (bZ 3 aO eO),.pure,.pure] (a8 [1,3,5,6,7])] (.d5 h1 (aK 3 .live eM aG) (et cA 4 4 0 3 rfl al) (dt cA 3 fh eO) (aK 1 .live aP bF) (aK 3 .live eM eY))))
theorem U8 {ag aF aD:Int}{bq c5 c8:List Int}{bM:Int}{al:List bt}{eO:List (List aM)}{bF:List Int}{eY:List aM}{bz:Int}{aG:List aM}{r} (h:CH ag aF aD bq c5 c8 bM al eO bF eY bz aG=some r):dN bb 152 0 52 [1,1,1,0,1,0,0,1,0,0,1,1,1,1,0,1,0,0] (F0 ag aF aD bq c5 c8 bM al eO bF eY) (Gj ag aF aD bq c5 c8 bM al eO bF eY) (bz,aG) r:=dO (fun _=>TJ) h
def F1 (ag:Int)(gb eh:Nat)(oy aF aD:Int)(bq c5 c8:List Int)(bM:Int)(a7:List (List aM))(al:List bt)(aH:List Int):(Int×(List aM))→S:=fun (hM,bF)=>dl [(1,.ref 0 0 0 0),(3,.ref 1 0 0 0),(5,.n .i64 ag),(7,.bm 2 (gb+0) 0 eh),(93,.n .i64 oy),(94,.n .i64 hM)] [[ab.mk 5 [[.n .i64 aF,.n .i64 aD,.isl 1 (bq.map eI),.isl 1 (c5.map eI),.isl 1 (c8.map eI)]] .live],[ab.mk 4 [(gu bM 3 0 0 al.length 4 0 0 aH.length 5 0 0 bF.length)] .live],(bZ 3 aO a7),(ah 1 (a9 2 0 3) al),(ah 1 eI aH),(ah 3 aO bF)]
def Cz (ag:Int)(gb eh:Nat)(oy aF aD:Int)(bq c5 c8:List Int)(bM:Int)(a7:List (List aM))(al:List bt)(aH:List Int):(List aM)→dm
 | a=>⟨some 8,[(1,.ref 0 0 0 0),(3,.ref 1 0 0 0),(5,.n .i64 ag),(7,.bm 2 (gb+0) 0 eh)],[[ab.mk 5 [[.n .i64 aF,.n .i64 aD,.isl 1 (bq.map eI),.isl 1 (c5.map eI),.isl 1 (c8.map eI)]] .live],[ab.mk 4 [(gu bM 3 0 0 al.length 4 0 0 aH.length 5 0 0 a.length)] .live],(bZ 3 aO a7),(ah 1 (a9 2 0 3) al),(ah 1 eI aH),(ah 3 aO a)]⟩
def v5 (ag:Int)(gb eh:Nat)(oy aF aD:Int)(bq c5 c8:List Int)(bM:Int)(a7:List (List aM))(al:List bt)(aH:List Int)(hM:Int)(bF:List aM):Option ((Int×(List aM))⊕((List aM))) :=
 if (decide (hM<oy))=true then
  if (decide (hM<aD))=true then
   if 0≤hM∧hM<(bF.length:Nat) then
   bF[(0+hM.toNat)]? >>= fun gh =>
   a7[gb]? >>= fun m0 =>
   if 0≤hM∧hM<(eh:Nat) then
   m0[(0+hM.toNat)]? >>= fun eo =>
   q9 gh eo >>= fun dc =>
   if (0+hM.toNat)<bF.length then
   some (.inl (U (hM+(1:Int)),bF.set (0+hM.toNat) dc))
   else none
   else none
   else none
  else
   if (hM == bM)=true then
    if 0≤hM∧hM<(bF.length:Nat) then
    bF[(0+hM.toNat)]? >>= fun kt =>
    a7[gb]? >>= fun iD =>
    if 0≤hM∧hM<(eh:Nat) then
    iD[(0+hM.toNat)]? >>= fun iU =>
    q9 kt iU >>= fun dT =>
    if (0+hM.toNat)<bF.length then
    some (.inl (U (hM+(1:Int)),bF.set (0+hM.toNat) dT))
    else none
    else none
    else none
   else
    some (.inl (U (hM+(1:Int)),bF))
 else
  some (.inr bF)
def y8 (ag:Int)(gb eh:Nat)(oy aF aD:Int)(bq c5 c8:List Int)(bM:Int)(a7:List (List aM))(al:List bt)(aH:List Int)(hM:Int)(bF:List aM):Option ((List aM)):=iter (fun w:Int×(List aM)=>v5 ag gb eh oy aF aD bq c5 c8 bM a7 al aH w.1 w.2) (hM,bF)
theorem TK {ag:Int}{gb eh:Nat}{oy aF aD:Int}{bq c5 c8:List Int}{bM:Int}{a7:List (List aM)}{al:List bt}{aH:List Int}{hM:Int}{bF:List aM}:bA (v5 ag gb eh oy aF aD bq c5 c8 bM a7 al aH hM bF) (dM bb 152 0 52 [1,1,1,0,1,0,0,1,0,0,1,1,1,1,1,1,0,1,0,0] (F1 ag gb eh oy aF aD bq c5 c8 bM a7 al aH (hM,bF)) (F1 ag gb eh oy aF aD bq c5 c8 bM a7 al aH) (Cz ag gb eh oy aF aD bq c5 c8 bM a7 al aH)):=by
 unfold v5
 exact .ite (fun h1 =>
  (let t1:List bX:=[(J 1),.aa true,(J 2)];
  .ite (fun o =>
  .aZ fun ae =>
  .au fun gh aA =>
  .au fun m0 bd =>
  .aZ fun bn =>
  .au fun eo cK =>
  .au fun dc e4 =>
  .aZ fun ev =>
  .ret (let q1:=jZ (fG .live 3 aO a7) ir bd;let aY:=cv [0,1,2,3,4,5];bh (t1.append [.az (aj 5 (cr 6 (an (.aa true) []))),.aa true,.az (aj 11 (an (.b4 (aO gh)) (aj 2 (an (.gi (ab.mk 3 (m0.map aO) .live) []) (an (.gi (ab.mk 3 (m0.map aO) .live) (aO eo)) (an (br 2 (.agg (aO dc)) false) (aj 1 (an .fQ [])))))))),(J 2),.aL [0,1,2,3,4,5] [.box [.id,.id,.id,.id,.id],.box [.id,.id,.id,.len ((bF.set (0+hM.toNat) dc).length)],.bD (bZ 3 aO a7),.bD (ah 1 (a9 2 0 3) al),.pure,.cL (ah 3 aO (bF.set (0+hM.toNat) dc))] (a8 [1,3,5,7,93,94])]) (.bl h1 o o o o o o o (.bl cE ae.1 ae.2 (bU aO aA) q1 bn.1 bn.2 q1 (.bl (bU aO cK) (CZ dc e4) ae.1 ae.2 (hE aO ev) (hs 3) (hR (dL bF) (0+hM.toNat) dc) (dt aY 3 fh a7) (.c9 (et aY 2 2 0 3 rfl al) (aK 1 .live aP aH) (c6 3 .live (gD (cW aO bF) (0+hM.toNat) dc)) (aK 3 .live eM (bF.set (0+hM.toNat) dc))))))))
  (fun o =>
  (let t2:List bX:=t1.append [.az (aj 11 (an (.aa false) []))];
  .ite (fun ae =>
  .aZ fun av =>
  .au fun kt a2 =>
  .au fun iD bn =>
  .aZ fun cp =>
  .au fun iU eV =>
  .au fun dT ev =>
  .aZ fun ew =>
  .ret (let bJ:=jZ (fG .live 3 aO a7) ir bn;let bS:=cv [0,1,2,3,4,5];bh (t2.append [.aa true,.az (aj 11 (an (.b4 (aO kt)) (aj 2 (an (.gi (ab.mk 3 (iD.map aO) .live) []) (an (.gi (ab.mk 3 (iD.map aO) .live) (aO iU)) (an (br 2 (.agg (aO dT)) false) (aj 1 (an .fQ [])))))))),(J 2),.aL [0,1,2,3,4,5] [.box [.id,.id,.id,.id,.id],.box [.id,.id,.id,.len ((bF.set (0+hM.toNat) dT).length)],.bD (bZ 3 aO a7),.bD (ah 1 (a9 2 0 3) al),.pure,.cL (ah 3 aO (bF.set (0+hM.toNat) dT))] (a8 [1,3,5,7,93,94])]) (.bl h1 o o o o o o o (.bl ae av.1 av.2 (bU aO a2) bJ cp.1 cp.2 bJ (.bl (bU aO eV) (CZ dT ev) av.1 av.2 (hE aO ew) (hs 3) (hR (dL bF) (0+hM.toNat) dT) (dt bS 3 fh a7) (.c9 (et bS 2 2 0 3 rfl al) (aK 1 .live aP aH) (c6 3 .live (gD (cW aO bF) (0+hM.toNat) dT)) (aK 3 .live eM (bF.set (0+hM.toNat) dT))))))))
  (fun ae =>
  .ret (let cA:=cv [0,1,2,3,4,5];bh (t2.append [.aa false,(J 2),.aL [0,1,2,3,4,5] [.box [.id,.id,.id,.id,.id],.box [.id,.id,.id,.id],.bD (bZ 3 aO a7),.bD (ah 1 (a9 2 0 3) al),.pure,.pure] (a8 [1,3,5,7,93,94])]) (.bl h1 o o o o o o o (.dn ae (dt cA 3 fh a7) (et cA 2 2 0 3 rfl al) (aK 1 .live aP aH) (aK 3 .live eM bF)))))))))
  (fun h1 =>
  .ret (let d4:=cv [0,1,2,3,4,5];bh [(J 1),.aa false,.aL [0,1,2,3,4,5] [.box [.id,.id,.id,.id,.id],.box [.id,.id,.id,.id],.bD (bZ 3 aO a7),.bD (ah 1 (a9 2 0 3) al),.pure,.pure] (a8 [1,3,5,7])] (.dn h1 (dt d4 3 fh a7) (et d4 2 2 0 3 rfl al) (aK 1 .live aP aH) (aK 3 .live eM bF))))
theorem ML {ag:Int}{gb eh:Nat}{oy aF aD:Int}{bq c5 c8:List Int}{bM:Int}{a7:List (List aM)}{al:List bt}{aH:List Int}{hM:Int}{bF:List aM}{r} (h:y8 ag gb eh oy aF aD bq c5 c8 bM a7 al aH hM bF=some r):dN bb 152 0 52 [1,1,1,0,1,0,0,1,0,0,1,1,1,1,1,1,0,1,0,0] (F1 ag gb eh oy aF aD bq c5 c8 bM a7 al aH) (Cz ag gb eh oy aF aD bq c5 c8 bM a7 al aH) (hM,bF) r:=dO (fun _=>TK) h
def FL (ag:Int)(d8:List Int)(fj aF aD:Int)(bq c5 c8:List Int)(bM:Int)(al:List bt)(eO:List (List aM))(bF:List Int)(eY:List aM):(Int×(List aM))→S:=fun (gy,aG)=>dl [(1,.ref 0 0 0 0),(3,.ref 1 0 0 0),(5,.n .i64 ag),(6,.n .i64 (1:Int)),(7,.bm 2 0 0 aG.length),(53,.isl 1 (d8.map eI)),(54,.n .i64 fj),(55,.n .i64 gy)] [[ab.mk 5 [[.n .i64 aF,.n .i64 aD,.isl 1 (bq.map eI),.isl 1 (c5.map eI),.isl 1 (c8.map eI)]] .live],[ab.mk 4 [(gu bM 3 0 0 al.length 5 0 0 bF.length 6 0 0 eY.length)] .live],(ah 3 aO aG),(ah 1 (a9 4 0 3) al),(bZ 3 aO eO),(ah 1 eI bF),(ah 3 aO eY)]
def F2 (ag:Int)(d8:List Int)(fj aF aD:Int)(bq c5 c8:List Int)(bM:Int)(al:List bt)(eO:List (List aM))(bF:List Int)(eY:List aM):(List aM)→dm
 | a=>⟨some 4,[(1,.ref 0 0 0 0),(3,.ref 1 0 0 0),(5,.n .i64 ag),(6,.n .i64 (1:Int)),(7,.bm 2 0 0 a.length)],[[ab.mk 5 [[.n .i64 aF,.n .i64 aD,.isl 1 (bq.map eI),.isl 1 (c5.map eI),.isl 1 (c8.map eI)]] .live],[ab.mk 4 [(gu bM 3 0 0 al.length 5 0 0 bF.length 6 0 0 eY.length)] .live],(ah 3 aO a),(ah 1 (a9 4 0 3) al),(bZ 3 aO eO),(ah 1 eI bF),(ah 3 aO eY)]⟩
def vP (ag:Int)(d8:List Int)(fj aF aD:Int)(bq c5 c8:List Int)(bM:Int)(al:List bt)(eO:List (List aM))(bF:List Int)(eY:List aM)(gy:Int)(aG:List aM):Option ((Int×(List aM))⊕((List aM))) :=
 if (decide (gy<fj))=true then
  if 0≤gy∧gy<d8.length then
  d8[gy.toNat]? >>= fun aE =>
  oU (U ((1:Int)*aE)) >>= fun aT =>
  if (aG++([aT]:List aM)).length*56≤140737488355328 then
  some (.inl (U (gy+(1:Int)),aG++([aT]:List aM)))
  else none
  else none
 else
  some (.inr aG)
def CB (ag:Int)(d8:List Int)(fj aF aD:Int)(bq c5 c8:List Int)(bM:Int)(al:List bt)(eO:List (List aM))(bF:List Int)(eY:List aM)(gy:Int)(aG:List aM):Option ((List aM)):=iter (fun w:Int×(List aM)=>vP ag d8 fj aF aD bq c5 c8 bM al eO bF eY w.1 w.2) (gy,aG)
theorem Tw {ag:Int}{d8:List Int}{fj aF aD:Int}{bq c5 c8:List Int}{bM:Int}{al:List bt}{eO:List (List aM)}{bF:List Int}{eY:List aM}{gy:Int}{aG:List aM}:bA (vP ag d8 fj aF aD bq c5 c8 bM al eO bF eY gy aG) (dM bb 152 0 52 [1,1,1,0,1,0,0,1,0,0,1,1,1,0,1,0,0] (FL ag d8 fj aF aD bq c5 c8 bM al eO bF eY (gy,aG)) (FL ag d8 fj aF aD bq c5 c8 bM al eO bF eY) (F2 ag d8 fj aF aD bq c5 c8 bM al eO bF eY)):=by
 unfold vP
 exact .ite (fun h1 =>
  .aZ fun o =>
  .au fun aE av =>
  .au fun aT a2 =>
  .aZ fun bd =>
  .ret (let q1:=(aG++([aT]:List aM));let aY:=cv [0,1,17,3,4,5,6];bh [(J 1),.aa true,.az (bs 1 (.b4 (eI aE)) 1),.az (aj 4 (an (br 1 (.agg (aO aT)) false) (bs 1 (.aJ (q1.length)) 1))),(J 2),.aL [0,1,17,3,4,5,6] [.box [.id,.id,.id,.id,.id],.box [.id,.id,.id,.id],.cL (ah 3 aO q1),.bD (ah 1 (a9 4 0 3) al),.bD (bZ 3 aO eO),.pure,.pure] (a8 [1,3,5,6,7,53,54,55])] (.bl h1 o.1 (cN eI o.2) (bU eI av) (rI aT a2) (gZ aO aT) (hk aO aG) (gO aO aG aT) (.eJ bd (c6 3 .live (ht aO aG aT)) (aK 3 .live eM q1) (et aY 4 4 0 3 rfl al) (dt aY 3 fh eO) (aK 1 .live aP bF) (aK 3 .live eM eY)))))
  (fun h1 =>
  .ret (let bJ:=cv [0,1,2,3,4,5,6];bh [(J 1),.aa false,.aL [0,1,2,3,4,5,6] [.box [.id,.id,.id,.id,.id],.box [.id,.id,.id,.id],.pure,.bD (ah 1 (a9 4 0 3) al),.bD (bZ 3 aO eO),.pure,.pure] (a8 [1,3,5,6,7])] (.d5 h1 (aK 3 .live eM aG) (et bJ 4 4 0 3 rfl al) (dt bJ 3 fh eO) (aK 1 .live aP bF) (aK 3 .live eM eY))))
theorem UO {ag:Int}{d8:List Int}{fj aF aD:Int}{bq c5 c8:List Int}{bM:Int}{al:List bt}{eO:List (List aM)}{bF:List Int}{eY:List aM}{gy:Int}{aG:List aM}{r} (h:CB ag d8 fj aF aD bq c5 c8 bM al eO bF eY gy aG=some r):dN bb 152 0 52 [1,1,1,0,1,0,0,1,0,0,1,1,1,0,1,0,0] (FL ag d8 fj aF aD bq c5 c8 bM al eO bF eY) (F2 ag d8 fj aF aD bq c5 c8 bM al eO bF eY) (gy,aG) r:=dO (fun _=>Tw) h
def FM (ag aF aD:Int)(bq c5 c8:List Int)(bM:Int)(al:List bt)(eO:List (List aM))(bF:List Int)(eY:List aM):(Int×(List aM))→S:=fun (bz,aG)=>dl [(1,.ref 0 0 0 0),(3,.ref 1 0 0 0),(5,.n .i64 ag),(6,.n .i64 (1:Int)),(7,.bm 2 0 0 aG.length),(10,.n .i64 bz)] [[ab.mk 5 [[.n .i64 aF,.n .i64 aD,.isl 1 (bq.map eI),.isl 1 (c5.map eI),.isl 1 (c8.map eI)]] .live],[ab.mk 4 [(gu bM 3 0 0 al.length 5 0 0 bF.length 6 0 0 eY.length)] .live],(ah 3 aO aG),(ah 1 (a9 4 0 3) al),(bZ 3 aO eO),(ah 1 eI bF),(ah 3 aO eY)]
def F3 (ag aF aD:Int)(bq c5 c8:List Int)(bM:Int)(al:List bt)(eO:List (List aM))(bF:List Int)(eY:List aM):(List aM)→dm
 | a=>⟨some 6,[(1,.ref 0 0 0 0),(3,.ref 1 0 0 0),(5,.n .i64 ag),(6,.n .i64 (1:Int)),(7,.bm 2 0 0 a.length)],[[ab.mk 5 [[.n .i64 aF,.n .i64 aD,.isl 1 (bq.map eI),.isl 1 (c5.map eI),.isl 1 (c8.map eI)]] .live],[ab.mk 4 [(gu bM 3 0 0 al.length 5 0 0 bF.length 6 0 0 eY.length)] .live],(ah 3 aO a),(ah 1 (a9 4 0 3) al),(bZ 3 aO eO),(ah 1 eI bF),(ah 3 aO eY)]⟩
def vQ (ag aF aD:Int)(bq c5 c8:List Int)(bM:Int)(al:List bt)(eO:List (List aM))(bF:List Int)(eY:List aM)(bz:Int)(aG:List aM):Option ((Int×(List aM))⊕((List aM))) :=
 if (decide (bz<aF))=true then
  if (bz == ag)=true then
   oU 1 >>= fun bk =>
   if (aG++([bk]:List aM)).length*56≤140737488355328 then
   some (.inl (U (bz+(1:Int)),aG++([bk]:List aM)))
   else none
  else
   oU 0 >>= fun bk =>
   if (aG++([bk]:List aM)).length*56≤140737488355328 then
   some (.inl (U (bz+(1:Int)),aG++([bk]:List aM)))
   else none
 else
  some (.inr aG)
def CC (ag aF aD:Int)(bq c5 c8:List Int)(bM:Int)(al:List bt)(eO:List (List aM))(bF:List Int)(eY:List aM)(bz:Int)(aG:List aM):Option ((List aM)):=iter (fun w:Int×(List aM)=>vQ ag aF aD bq c5 c8 bM al eO bF eY w.1 w.2) (bz,aG)
theorem Tx {ag aF aD:Int}{bq c5 c8:List Int}{bM:Int}{al:List bt}{eO:List (List aM)}{bF:List Int}{eY:List aM}{bz:Int}{aG:List aM}:bA (vQ ag aF aD bq c5 c8 bM al eO bF eY bz aG) (dM bb 152 0 52 [1,1,1,0,1,0,0,1,0,0,1,1,1,1,0,1,0,0] (FM ag aF aD bq c5 c8 bM al eO bF eY (bz,aG)) (FM ag aF aD bq c5 c8 bM al eO bF eY) (F3 ag aF aD bq c5 c8 bM al eO bF eY)):=by
 unfold vQ
 exact .ite (fun h1 =>
  (let t1:List bX:=[(J 4),.aa true,(J 1),(J 3)];
  .ite (fun o =>
  .au fun bk av =>
  .aZ fun aA =>
  .ret (let q1:=(aG++([bk]:List aM));let aY:=cv [0,1,20,3,4,5,6];bh (t1.append [.aa true,(J 1),.az (aj 2 (an (br 1 (.agg (aO bk)) false) (bs 1 (.aJ (q1.length)) 1))),(J 3),.aL [0,1,20,3,4,5,6] [.box [.id,.id,.id,.id,.id],.box [.id,.id,.id,.id],.cL (ah 3 aO q1),.bD (ah 1 (a9 4 0 3) al),.bD (bZ 3 aO eO),.pure,.pure] (a8 [1,3,5,6,7,10])]) (.bl h1 o (rI bk av) (gZ aO bk) (hk aO aG) (gO aO aG bk) aA (c6 3 .live (ht aO aG bk)) (.dn (aK 3 .live eM q1) (et aY 4 4 0 3 rfl al) (dt aY 3 fh eO) (aK 1 .live aP bF) (aK 3 .live eM eY)))))
  (fun o =>
  .au fun bk av =>
  .aZ fun aA =>
  .ret (let bJ:=(aG++([bk]:List aM));let bS:=cv [0,1,19,3,4,5,6];bh (t1.append [.aa false,.az (aj 2 (an (br 1 (.agg (aO bk)) false) (bs 1 (.aJ (bJ.length)) 1))),(J 3),.aL [0,1,19,3,4,5,6] [.box [.id,.id,.id,.id,.id],.box [.id,.id,.id,.id],.cL (ah 3 aO bJ),.bD (ah 1 (a9 4 0 3) al),.bD (bZ 3 aO eO),.pure,.pure] (a8 [1,3,5,6,7,10])]) (.bl h1 o (rI bk av) (gZ aO bk) (hk aO aG) (gO aO aG bk) aA (c6 3 .live (ht aO aG bk)) (.dn (aK 3 .live eM bJ) (et bS 4 4 0 3 rfl al) (dt bS 3 fh eO) (aK 1 .live aP bF) (aK 3 .live eM eY)))))))
  (fun h1 =>
  .ret (let cA:=cv [0,1,2,3,4,5,6];bh [(J 4),.aa false,.aL [0,1,2,3,4,5,6] [.box [.id,.id,.id,.id,.id],.box [.id,.id,.id,.id],.pure,.bD (ah 1 (a9 4 0 3) al),.bD (bZ 3 aO eO),.pure,.pure] (a8 [1,3,5,6,7])] (.d5 h1 (aK 3 .live eM aG) (et cA 4 4 0 3 rfl al) (dt cA 3 fh eO) (aK 1 .live aP bF) (aK 3 .live eM eY))))
theorem UP {ag aF aD:Int}{bq c5 c8:List Int}{bM:Int}{al:List bt}{eO:List (List aM)}{bF:List Int}{eY:List aM}{bz:Int}{aG:List aM}{r} (h:CC ag aF aD bq c5 c8 bM al eO bF eY bz aG=some r):dN bb 152 0 52 [1,1,1,0,1,0,0,1,0,0,1,1,1,1,0,1,0,0] (FM ag aF aD bq c5 c8 bM al eO bF eY) (F3 ag aF aD bq c5 c8 bM al eO bF eY) (bz,aG) r:=dO (fun _=>Tx) h
def FN (aF aD:Int)(bq c5 c8:List Int)(bM:Int):(Int×(List bt)×(List (List aM))×(List Int)×(List aM))→S:=fun (ag,aG,dh,aH,bF)=>dl [(1,.ref 0 0 0 0),(3,.ref 1 0 0 0),(5,.n .i64 ag)] [[ab.mk 5 [[.n .i64 aF,.n .i64 aD,.isl 1 (bq.map eI),.isl 1 (c5.map eI),.isl 1 (c8.map eI)]] .live],[ab.mk 4 [(gu bM 2 0 0 aG.length 4 0 0 aH.length 5 0 0 bF.length)] .live],(ah 1 (a9 3 0 3) aG),(bZ 3 aO dh),(ah 1 eI aH),(ah 3 aO bF)]
def F4 (aF aD:Int)(bq c5 c8:List Int)(bM:Int):((List bt)×(List (List aM))×(List Int)×(List aM))→dm
 | a=>⟨some 2,[(3,.ref 0 0 0 0)],[[ab.mk 4 [(gu bM 1 0 0 a.1.length 3 0 0 a.2.2.1.length 4 0 0 a.2.2.2.length)] .live],(ah 1 (a9 2 0 3) a.1),(bZ 3 aO a.2.1),(ah 1 eI a.2.2.1),(ah 3 aO a.2.2.2)]⟩
def vR (aF aD:Int)(bq c5 c8:List Int)(bM ag:Int)(aG:List bt)(dh:List (List aM))(aH:List Int)(bF:List aM):Option ((Int×(List bt)×(List (List aM))×(List Int)×(List aM))⊕((List bt)×(List (List aM))×(List Int)×(List aM))) :=
 if (decide (ag<aF))=true then
  if 0≤ag∧ag<c5.length then
  c5[ag.toNat]? >>= fun aE =>
  if (decide (aE<(0:Int)))=true then
   ug (⟨aF,aD,bq,c5,c8⟩:hv) ag >>= fun cf =>
   CG ag cf (len_ eI cf) aF aD bq c5 c8 bM aG dh aH bF 0 ([]:List aM) >>= fun c4 =>
   CH ag aF aD bq c5 c8 bM aG dh aH bF 0 c4 >>= fun ef =>
   oU (U ((-1:Int)*aE)) >>= fun dT =>
   if (ef++([dT]:List aM)).length*56≤140737488355328 then
   (dh++[ef++([dT]:List aM)])[dh.length]? >>= fun kg =>
   y8 ag dh.length ((ef++([dT]:List aM)).length) (((ef++([dT]:List aM)).length:Nat):Int) aF aD bq c5 c8 bM (dh++[ef++([dT]:List aM)]) aG aH 0 bF >>= fun gn =>
   if (aG++([(some (dh.length,(ef++([dT]:List aM)).length))]:List bt)).length*24≤140737488355328 then
   if (aH++([U (aD+ag)]:List Int)).length*8≤140737488355328 then
   some (.inl (U (ag+(1:Int)),aG++([(some (dh.length,(ef++([dT]:List aM)).length))]:List bt),dh++[ef++([dT]:List aM)],aH++([U (aD+ag)]:List Int),gn))
   else none
   else none
   else none
  else
   ug (⟨aF,aD,bq,c5,c8⟩:hv) ag >>= fun cf =>
   CB ag cf (len_ eI cf) aF aD bq c5 c8 bM aG dh aH bF 0 ([]:List aM) >>= fun c4 =>
   CC ag aF aD bq c5 c8 bM aG dh aH bF 0 c4 >>= fun ef =>
   oU (U ((1:Int)*aE)) >>= fun dT =>
   if (ef++([dT]:List aM)).length*56≤140737488355328 then
   (dh++[ef++([dT]:List aM)])[dh.length]? >>= fun kg =>
   y8 ag dh.length ((ef++([dT]:List aM)).length) (((ef++([dT]:List aM)).length:Nat):Int) aF aD bq c5 c8 bM (dh++[ef++([dT]:List aM)]) aG aH 0 bF >>= fun gn =>
   if (aG++([(some (dh.length,(ef++([dT]:List aM)).length))]:List bt)).length*24≤140737488355328 then
   if (aH++([U (aD+ag)]:List Int)).length*8≤140737488355328 then
   some (.inl (U (ag+(1:Int)),aG++([(some (dh.length,(ef++([dT]:List aM)).length))]:List bt),dh++[ef++([dT]:List aM)],aH++([U (aD+ag)]:List Int),gn))
   else none
   else none
   else none
  else none
 else
  some (.inr (aG,dh,aH,bF))
def Hw (aF aD:Int)(bq c5 c8:List Int)(bM ag:Int)(aG:List bt)(dh:List (List aM))(aH:List Int)(bF:List aM):Option ((List bt)×(List (List aM))×(List Int)×(List aM)):=iter (fun w:Int×(List bt)×(List (List aM))×(List Int)×(List aM)=>vR aF aD bq c5 c8 bM w.1 w.2.1 w.2.2.1 w.2.2.2.1 w.2.2.2.2) (ag,aG,dh,aH,bF)
set_option maxHeartbeats 4000000 in
theorem Ty {aF aD:Int}{bq c5 c8:List Int}{bM ag:Int}{aG:List bt}{dh:List (List aM)}{aH:List Int}{bF:List aM}:bA (vR aF aD bq c5 c8 bM ag aG dh aH bF) (dM bb 152 0 52 [1,1,1,0,1,0,0] (FN aF aD bq c5 c8 bM (ag,aG,dh,aH,bF)) (FN aF aD bq c5 c8 bM) (F4 aF aD bq c5 c8 bM)):=by
 unfold vR
 exact .ite (fun h1 =>
  .aZ fun o =>
  .au fun aE av =>
  (let t1:List bX:=[(J 4),.aa true,(J 1),.az (bs 4 (.b4 (eI aE)) 1)];
  have aQ:=((.c9 h1 o.1 (cN eI o.2) (bU eI av)):cq _);
  .ite (fun aA =>
  .au fun cf bd =>
  .au fun c4 cp =>
  .au fun ef eV =>
  .au fun dT ev =>
  .aZ fun ew =>
  .au fun kg hY =>
  .au fun gn hz =>
  .aZ fun gA =>
  .aZ fun fk =>
  .ret (let q1:=(ef++([dT]:List aM));let aY:=(dh++[ef++([dT]:List aM)]);let bJ:=AB (fG .live 3 aO dh) (AO eM 17 4 (dh.length+0) (ht aO ef dT) (AP 17 4 (dh.length+0)));let bS:=cv [0,1,13,2,27,5];let d4:=(aG++([(some (dh.length,q1.length))]:List bt));let fP:=aK 1 .live aP aH;let eB:=aK 3 .live eM bF;let hI:=cv [0,1,18,2,3,4,5];let jA:=cv [0,1,2,3,4,5,6];let jB:=U (aD+ag);let cA:=(aH++([jB]:List Int));let mo:=cv [0,1,4,3,5,6];bh (t1.append [.aa true,(J 1),(J 2),.az (bs 2 (br 2 (.isl 1 (cf.map eI)) false) 2),.aL [0,1,18,2,3,4,5] [.box [.id,.id,.id,.id,.id],.box [.id,.id,.id,.id],.cL (ah 3 aO ([]:List aM)),.bD (ah 1 (a9 4 0 3) aG),.bD (bZ 3 aO dh),.pure,.pure] [(1,ii),(3,ii),(5,ii),(6,ii),(7,fW (([]:List aM).length)),(53,ii),(54,ii),(55,ii)],(Gi ag cf (len_ eI cf) aF aD bq c5 c8 bM aG dh aH bF c4).fb,(J 1),.aL [0,1,2,3,4,5,6] [.box [.id,.id,.id,.id,.id],.box [.id,.id,.id,.id],.pure,.bD (ah 1 (a9 4 0 3) aG),.bD (bZ 3 aO dh),.pure,.pure] (a8 [1,3,5,6,7,10]),(Gj ag aF aD bq c5 c8 bM aG dh aH bF ef).fb,.az (aj 6 (an (.b4 (eI aE)) (aj 1 (an (br 1 (.agg (aO dT)) false) (bs 1 (.tv 4 (dh.length+0) (.aJ (q1.length))) 1))))),.az (bs 1 (.gi (ab.mk 3 (kg.map aO) .live) []) 1),.aL [0,1,4,3,5,6] [.box [.id,.id,.id,.id,.id],.box [.id,.id,.id,.id],.bD (bZ 3 aO aY),.bD (ah 1 (a9 2 0 3) aG),.pure,.pure] (a8 [1,3,5,7,93,94]),(Cz ag dh.length (q1.length) ((q1.length:Nat):Int) aF aD bq c5 c8 bM aY aG aH gn).fb,.az (aj 6 (an (.j2 133 (kQ 2 0 3 (some (dh.length,q1.length))) .none) (an (.aJ (d4.length)) (aj 3 [])))),.az (bs 10 (.aJ (cA.length)) 3),(J 3),.aL [0,1,13,2,27,5] [.box [.id,.id,.id,.id,.id],.box [.id,.id,.id,.id],.bD (ah 1 (a9 3 0 3) d4),.bD (bZ 3 aO aY),.cL (ah 1 eI cA),.pure] (a8 [1,3,5])]) (aQ.aJ (.bl aA (NI cf bd) (c6 3 .live (show []=(([]:List aM)).map aO from rfl)) (aK 3 .live eM ([]:List aM)) (et hI 4 3 0 3 rfl aG) (dt hI 3 fh dh) fP eB (.bl (fH aM) (U7 cp) (aK 3 .live eM c4) (et jA 4 4 0 3 rfl aG) (dt jA 3 fh dh) fP eB (U8 eV) (.bl o.1 (cN eI o.2) (bU eI av) (rI dT ev) (gZ aO dT) (hk aO ef) (gO aO ef dT) ew (.bl (congrArg (· + 0) (DT (fG .live 3 aO dh) rfl)) (jZ bJ ir hY) (mj (b8:=mo) bJ (lL fh)) (et mo 2 4 0 3 rfl aG) fP eB (ML hz) (.s2 2 0 3 dh.length (q1.length):kd (.bm 2 (dh.length+0) 0 (q1.length)) (kQ 2 0 3 (some (dh.length,q1.length)))) (.bl (gZ (a9 2 0 3) (some (dh.length,q1.length))) (hk (a9 2 0 3) aG) (gO (a9 2 0 3) aG (some (dh.length,q1.length))) gA (gZ eI jB) (hk eI aH) (gO eI aH jB) fk (.dn (c0 (qg (b8:=bS) 1 .live (a9 3 0 3) (ht (a9 2 0 3) aG (some (dh.length,q1.length))) (rq (rfl:bS 2=some 3))) (o0 (b8:=bS))) (dt bS 3 fh aY) (c6 1 .live (ht eI aH jB)) (aK 1 .live aP cA) (aK 3 .live eM gn))))))))))
  (fun aA =>
  .au fun cf bd =>
  .au fun c4 cp =>
  .au fun ef eV =>
  .au fun dT ev =>
  .aZ fun ew =>
  .au fun kg hY =>
  .au fun gn hz =>
  .aZ fun gA =>
  .aZ fun fk =>
  .ret (let iO:=(ef++([dT]:List aM));let qT:=(dh++[ef++([dT]:List aM)]);let BM:=AB (fG .live 3 aO dh) (AO eM 17 4 (dh.length+0) (ht aO ef dT) (AP 17 4 (dh.length+0)));let rA:=cv [0,1,13,2,27,5];let BN:=(aG++([(some (dh.length,iO.length))]:List bt));let yv:=aK 1 .live aP aH;let u4:=aK 3 .live eM bF;let yw:=cv [0,1,17,2,3,4,5];let yx:=cv [0,1,2,3,4,5,6];let tp:=U (aD+ag);let tq:=(aH++([tp]:List Int));let yy:=cv [0,1,4,3,5,6];bh (t1.append [.aa false,(J 2),.az (bs 2 (br 2 (.isl 1 (cf.map eI)) false) 2),.aL [0,1,17,2,3,4,5] [.box [.id,.id,.id,.id,.id],.box [.id,.id,.id,.id],.cL (ah 3 aO ([]:List aM)),.bD (ah 1 (a9 4 0 3) aG),.bD (bZ 3 aO dh),.pure,.pure] [(1,ii),(3,ii),(5,ii),(6,ii),(7,fW (([]:List aM).length)),(53,ii),(54,ii),(55,ii)],(F2 ag cf (len_ eI cf) aF aD bq c5 c8 bM aG dh aH bF c4).fb,(J 1),.aL [0,1,2,3,4,5,6] [.box [.id,.id,.id,.id,.id],.box [.id,.id,.id,.id],.pure,.bD (ah 1 (a9 4 0 3) aG),.bD (bZ 3 aO dh),.pure,.pure] (a8 [1,3,5,6,7,10]),(F3 ag aF aD bq c5 c8 bM aG dh aH bF ef).fb,.az (aj 6 (an (.b4 (eI aE)) (aj 1 (an (br 1 (.agg (aO dT)) false) (bs 1 (.tv 4 (dh.length+0) (.aJ (iO.length))) 1))))),.az (bs 1 (.gi (ab.mk 3 (kg.map aO) .live) []) 1),.aL [0,1,4,3,5,6] [.box [.id,.id,.id,.id,.id],.box [.id,.id,.id,.id],.bD (bZ 3 aO qT),.bD (ah 1 (a9 2 0 3) aG),.pure,.pure] (a8 [1,3,5,7,93,94]),(Cz ag dh.length (iO.length) ((iO.length:Nat):Int) aF aD bq c5 c8 bM qT aG aH gn).fb,.az (aj 6 (an (.j2 133 (kQ 2 0 3 (some (dh.length,iO.length))) .none) (an (.aJ (BN.length)) (aj 3 [])))),.az (bs 10 (.aJ (tq.length)) 3),(J 3),.aL [0,1,13,2,27,5] [.box [.id,.id,.id,.id,.id],.box [.id,.id,.id,.id],.bD (ah 1 (a9 3 0 3) BN),.bD (bZ 3 aO qT),.cL (ah 1 eI tq),.pure] (a8 [1,3,5])]) (aQ.aJ (.bl aA (NI cf bd) (c6 3 .live (show []=(([]:List aM)).map aO from rfl)) (aK 3 .live eM ([]:List aM)) (et yw 4 3 0 3 rfl aG) (dt yw 3 fh dh) yv u4 (.bl (fH aM) (UO cp) (aK 3 .live eM c4) (et yx 4 4 0 3 rfl aG) (dt yx 3 fh dh) yv u4 (UP eV) (.bl o.1 (cN eI o.2) (bU eI av) (rI dT ev) (gZ aO dT) (hk aO ef) (gO aO ef dT) ew (.bl (congrArg (· + 0) (DT (fG .live 3 aO dh) rfl)) (jZ BM ir hY) (mj (b8:=yy) BM (lL fh)) (et yy 2 4 0 3 rfl aG) yv u4 (ML hz) (.s2 2 0 3 dh.length (iO.length):kd (.bm 2 (dh.length+0) 0 (iO.length)) (kQ 2 0 3 (some (dh.length,iO.length)))) (.bl (gZ (a9 2 0 3) (some (dh.length,iO.length))) (hk (a9 2 0 3) aG) (gO (a9 2 0 3) aG (some (dh.length,iO.length))) gA (gZ eI tp) (hk eI aH) (gO eI aH tp) fk (.dn (c0 (qg (b8:=rA) 1 .live (a9 3 0 3) (ht (a9 2 0 3) aG (some (dh.length,iO.length))) (rq (rfl:rA 2=some 3))) (o0 (b8:=rA))) (dt rA 3 fh qT) (c6 1 .live (ht eI aH tp)) (aK 1 .live aP tq) (aK 3 .live eM gn))))))))))))
  (fun h1 =>
  .ret (bh [(J 4),.aa false,.aL [1,2,3,4,5] [.box [.id,.id,.id,.id],.bD (ah 1 (a9 2 0 3) aG),.bD (bZ 3 aO dh),.pure,.pure] (a8 [3])] (.dn h1 (et (cv [1,2,3,4,5]) 2 3 0 3 rfl aG) (dt (cv [1,2,3,4,5]) 3 fh dh) (aK 1 .live aP aH) (aK 3 .live eM bF))))
theorem UQ {aF aD:Int}{bq c5 c8:List Int}{bM ag:Int}{aG:List bt}{dh:List (List aM)}{aH:List Int}{bF:List aM}{r} (h:Hw aF aD bq c5 c8 bM ag aG dh aH bF=some r):dN bb 152 0 52 [1,1,1,0,1,0,0] (FN aF aD bq c5 c8 bM) (F4 aF aD bq c5 c8 bM) (ag,aG,dh,aH,bF) r:=dO (fun _=>Ty) h
def zf (ca:hv):Option (Int×(List bt)×(List Int)×(List aM)×(List (List aM))) :=
 HY ca.fu ca.eb ca.dJ ca.ej ca.hH (U (ca.eb+ca.fu)) 0 ([]:List aM) >>= fun r1 =>
 Hw ca.fu ca.eb ca.dJ ca.ej ca.hH (U (ca.eb+ca.fu)) 0 ([]:List bt) ([]:List (List aM)) ([]:List Int) r1 >>= fun bk =>
 some (U (ca.eb+ca.fu),bk.1,bk.2.2.1,bk.2.2.2,bk.2.1)
theorem VP {ca:hv}:bA (zf ca) (fun a=>Con bb 52 [.agg (nP ca)] [] (.ref 0 0 0 0) [(ab.mk 4 [(gu a.1 0 1 0 a.2.1.length 0 2 0 a.2.2.1.length 0 3 0 a.2.2.2.1.length)] .live::ab.mk 1 (a.2.1.map (a9 0 4 3)) .live::ab.mk 1 (a.2.2.1.map eI) .live::ab.mk 3 (a.2.2.2.1.map aO) .live::(bZ 3 aO a.2.2.2.2))]):=by
 unfold zf
 exact .au fun r1 o =>
  .au fun bk av =>
  .ret (let q1:=gu (U (ca.eb+ca.fu)) 0 1 0 bk.1.length 0 2 0 bk.2.2.1.length 0 3 0 bk.2.2.2.length;let aY:=cv [0,1,4,5,6,2];let bJ:=bZ 3 aO bk.2.1;let bS:=ah 1 (a9 0 4 3) bk.1;let cA:=cv [0];lC [(J 2),(J 8),(J 1),.tk 8 3 3,.aL [0,8,11] [.box [.id,.id,.id,.id,.id],.box [.id,.id,.id,.len (([]:List aM).length)],.cL (ah 3 aO ([]:List aM))] (a8 [1,3,4]),(Gh ca.fu ca.eb ca.dJ ca.ej ca.hH (U (ca.eb+ca.fu)) r1).fb,(J 1),.tk 1 1 1,.Es,.tk 1 2 1,.aL [0,1,4,5,6,2] [.box [.id,.id,.id,.id,.id],.box [.id,.len (([]:List bt).length),.len (([]:List Int).length),.id],.bD (ah 1 (a9 3 0 3) ([]:List bt)),.bD (bZ 3 aO ([]:List (List aM))),.cL (ah 1 eI ([]:List Int)),.pure] (a8 [1,3,5]),(F4 ca.fu ca.eb ca.dJ ca.ej ca.hH (U (ca.eb+ca.fu)) bk).fb,(J 2),.BI [{bG:=[(0,0),(1,0),(3,0),(4,0)],iB:=some (2,0)}] [([.box [.id,.at_ 0 1 bk.1.length,.at_ 0 2 bk.2.2.1.length,.at_ 0 3 bk.2.2.2.length],.rx bS,.pure,.pure],some (.rx bJ))] [(2,.bw (.dK (.at_ 0 0 0)))]] [0] [.bD (ab.mk 4 [q1] .live::ab.mk 1 (bk.1.map (a9 0 4 3)) .live::ab.mk 1 (bk.2.2.1.map eI) .live::ab.mk 3 (bk.2.2.2.map aO) .live::bJ)] (.bl (fH aM) (c6 3 .live (pE aO)) (aK 3 .live eM ([]:List aM)) (U6 o) (fH bt) (fH Int) (c0 (qg (b8:=aY) 1 .live (a9 3 0 3) (pE (a9 5 0 3)) (rq (rfl:aY 5=some 3))) (o0 (b8:=aY))) (mj (b8:=aY) (Kn .live 3 aO) (lL fh)) (.bl (c6 1 .live (pE eI)) (aK 1 .live aP ([]:List Int)) (aK 3 .live eM r1) (UQ av) (rfl:(kB [{bG:=[(0,0),(1,0),(3,0),(4,0)],iB:=some (2,0)}]) 0 1=some (1,0)) (rfl:bk.1.length=bk.1.length) (rfl:(kB [{bG:=[(0,0),(1,0),(3,0),(4,0)],iB:=some (2,0)}]) 0 2=some (3,0)) (rfl:bk.2.2.1.length=bk.2.2.1.length) (.gS (rfl:(kB [{bG:=[(0,0),(1,0),(3,0),(4,0)],iB:=some (2,0)}]) 0 3=some (4,0)) (rfl:bk.2.2.2.length=bk.2.2.2.length) (P1 (KB (j3:=(a9 0 4 3)) (cW (a9 2 0 3) bk.1) (fun _=>rfl) (fun x=>(QZ (fun _=>rfl)) x)) Qt:rv (kB [{bG:=[(0,0),(1,0),(3,0),(4,0)],iB:=some (2,0)}]) (ah 1 (a9 2 0 3) bk.1) bS) (aK 1 .live aP bk.2.2.1) (aK 3 .live eM bk.2.2.2) (P3 (fG .live 3 aO bk.2.1) (fun _=>rfl) fh:rv (kB [{bG:=[(0,0),(1,0),(3,0),(4,0)],iB:=some (2,0)}]) bJ bJ) (rfl:(kB [{bG:=[(0,0),(1,0),(3,0),(4,0)],iB:=some (2,0)}]) 0 0=some (0,0)) (c0 (show ab.mk 4 [q1] .live=gG cA (ab.mk 4 [q1] .live) from rfl) (c0 (j4 cA 0 0 4 3 rfl bk.1) (c0 (fY cA 1 jh bk.2.2.1) (c0 (fY cA 3 fh bk.2.2.2) (dt cA 3 fh bk.2.1)))))))))
def GA (bP:Int)(c2:List Int)(cn:Int):Int→S:=fun cZ=>dl [(1,.n .i64 bP),(10,.isl 1 (c2.map eI)),(11,.n .i64 cn),(12,.n .i64 cZ)] []
def MO (bP:Int)(c2:List Int)(cn:Int):((Unit)⊕(Unit))→dm
 | .inl a=>⟨some 0,[],[]⟩
 | .inr a=>⟨none,[(4,.b true)],[]⟩
def yZ (bP:Int)(c2:List Int)(cn cZ:Int):Option ((Int)⊕((Unit)⊕(Unit))) :=
 if (decide (cZ<cn))=true then
  if 0≤cZ∧cZ<c2.length then
  c2[cZ.toNat]? >>= fun aE =>
  if (aE == bP)=true then
   some (.inr (.inr ()))
  else
   some (.inl (U (cZ+(1:Int))))
  else none
 else
  some (.inr (.inl ()))
def CM (bP:Int)(c2:List Int)(cn cZ:Int):Option ((Unit)⊕(Unit)):=iter (fun w:Int=>yZ bP c2 cn w) cZ
theorem Ub {bP:Int}{c2:List Int}{cn cZ:Int}:bA (yZ bP c2 cn cZ) (dM bb 20 0 78 [1,0,1,0,0] (GA bP c2 cn cZ) (GA bP c2 cn) (MO bP c2 cn)):=by
 unfold yZ
 exact .ite (fun h1 =>
  .aZ fun o =>
  .au fun aE av =>
  (let t1:List bX:=[(J 1),.aa true,.az (bs 1 (.b4 (eI aE)) 1),(J 3)];
  have aQ:=((.c9 h1 o.1 (cN eI o.2) (bU eI av)):cq _);
  .ite (fun aA =>
  .ret (bh (t1.append [.aa true,(J 1),.aL [] [] (a8 [4])]) (aQ.aJ (.e1 aA))))
  (fun aA =>
  .ret (bh (t1.append [.aa false,(J 2),.aL [] [] (a8 [1,10,11,12])]) (aQ.aJ (.e1 aA))))))
  (fun h1 =>
  .ret (bh [(J 1),.aa false,.aL [] [] []] (.e1 h1)))
theorem MX {bP:Int}{c2:List Int}{cn cZ:Int}{r} (h:CM bP c2 cn cZ=some r):dN bb 20 0 78 [1,0,1,0,0] (GA bP c2 cn) (MO bP c2 cn) cZ r:=dO (fun _=>Ub) h
def zA (hd:pf)(bP:Int):Option Bool :=
 CM bP hd.rn (len_ eI hd.rn) 0 >>= fun r1 =>
 match r1 with
 | .inl di=>(some false)
 | .inr di=>(some true)
theorem Wv {hd:pf}{bP:Int}:bA (zA hd bP) (fun r=>Con bb 78 [.dY 4 [(uo hd)] 0 0,.n .i64 bP] [] (.b r) []):=by
 unfold zA
 exact .au fun r1 o =>
  (let t1:List bX:=[(J 1),(J 6),.aL [] [] (a8 [1,10,11,12])];
  (by
  rcases r1 with di|di
  ·exact (.ret (bu (t1.append [.sub (.exit 0) [] [],(J 1)]) (.e1 (MX o))))
  ·exact (.ret (bu (t1.append [.sub (.ret) [(4,.b true)] []]) (.e1 (MX o))))))
def zB (c7:bp):Option Bool :=
 rO c7.cC >>= fun r1 =>
 if r1=true then
  if c7.cO=true then
   some (decide ((0:Int)<(len_ eI c7.cC)))
  else
   some true
 else
  some false
theorem Ww {c7:bp}:bA (zB c7) (fun r=>Con bb 102 [.agg (aX c7)] [] (.b r) []):=by
 unfold zB
 exact .au fun r1 o =>
  (have ah:=((.aC (Ji r1 o) (b9.b r1)):cq _);
  .ite (fun ae =>
  .ite (fun av =>
  .ret (bu [(J 2),.az (aj 2 (an (br 1 (.b r1) true) (aj 9 (an (.aa false) (an (.aa true) (aj 1 []))))))] (ah.aJ (.bl ae ae ae ae (cY av) (cY av) (cY av) (cY av) (.bR ae (cY av) ae)))))
  (fun av =>
  .ret (bu [(J 2),.az (aj 2 (an (br 1 (.b r1) true) (aj 5 (cr 4 (an (.aa true) (an (.aa true) (aj 1 [])))))))] (ah.aJ (.bl ae ae ae ae (cU av) (cU av) (cU av) (cU av) (.bR ae (cU av) ae))))))
  (fun ae =>
  .ret (bu [(J 2),.az (aj 2 (an (br 1 (.b r1) true) (aj 1 (cr 4 (aj 4 (cr 1 (an (.aa false) (aj 1 []))))))))] (ah.aJ (.d5 ae ae ae ae ae ae)))))
def sN (bW:aM):Option Bool :=
 zB bW.fp >>= fun r1 =>
 if r1=true then
  rO bW.hx >>= fun bi =>
  if bi=true then
   if ((len_ eI bW.hx) == (0:Int))=true then
    some false
   else
    if (decide ((24:Int)<(len_ eI bW.hx)))=true then
     some false
    else
     if (decide ((24:Int)<(len_ eI bW.fp.cC)))=true then
      some false
     else
      xh bW.fp.cC bW.hx >>= fun ef =>
      qn ef >>= fun dT =>
      some dT
  else
   some false
 else
  some false
theorem Jj {bW:aM}:bA (sN bW) (fun r=>Con bb 82 [.agg (aO bW)] [] (.b r) []):=by
 unfold sN
 exact .au fun r1 o =>
  (have ah:=((.aC (Ww r1 o) (b9.b r1)):cq _);
  .ite (fun ae =>
  .au fun bi aA =>
  (have aQ:=ah.aJ (.eJ (cY ae) (cY ae) (cY ae) (Ji bi aA) (b9.b bi) (cY ae) (cY ae));
  .ite (fun a2 =>
  (have fF:=aQ.aJ (.dn (cY a2) (cY a2) (cY a2) (cY a2) (cY a2));
  .ite (fun bd =>
  .ret (bu [(J 2),.az (aj 2 (an (br 1 (.b r1) true) (aj 4 (an (br 1 (.b bi) true) (aj 1 (an (.aa false) (aj 5 (an (.aa false) (aj 1 (cr 4 (an (.aa true) (aj 1 (cr 5 (aj 1 [])))))))))))))),.aa true,(J 1)] (fF.aJ (.bl bd bd bd bd bd cE cE cE (.bR cE cE cE)))))
  (fun bd =>
  .ite (fun bn =>
  .ret (bu [(J 2),.az (aj 2 (an (br 1 (.b r1) true) (aj 4 (an (br 1 (.b bi) true) (aj 1 (an (.aa false) (aj 5 (an (.aa false) (aj 5 (an (.aa false) (aj 1 (cr 5 (an (.aa true) []))))))))))))),.aa true,(J 1)] (fF.aJ (.bl bd bd bd bd bd bn bn bn (.c9 bn bn bn cE)))))
  (fun bn =>
  (let t4:List bX:=[(J 2),.az (aj 2 (an (br 1 (.b r1) true) (aj 4 (an (br 1 (.b bi) true) (aj 1 (an (.aa false) (aj 5 (an (.aa false) (aj 5 (an (.aa false) (aj 6 (an (.aa false) []))))))))))))];
  have mg:=fF.aJ (.bl bd bd bd bd bd bn bn bn (.bR bn bn bn));
  .ite (fun cp =>
  .ret (bu (t4.append [.aa true,(J 1)]) (mg.aJ (.e1 cp))))
  (fun cp =>
  .au fun ef eV =>
  .au fun dT ev =>
  .ret (bu (t4.append [.aa false,.az (aj 5 (an (br 2 (.isl 1 (ef.map eI)) false) (an (br 1 (.b dT) true) (aj 1 []))))]) (mg.aJ (.c9 cp (NJ ef eV) (zp dT ev) (b9.b dT))))))))))
  (fun a2 =>
  .ret (bu [(J 2),.az (aj 2 (an (br 1 (.b r1) true) (aj 4 (an (br 1 (.b bi) true) (aj 1 (an (.aa false) (aj 1 (cr 4 (an (.aa true) (aj 1 (cr 4 (aj 2 (cr 5 (aj 1 [])))))))))))))),.aa true,(J 1)] (aQ.aJ (.bl (cU a2) (cU a2) (cU a2) (cU a2) (cU a2) cE cE cE (.eJ cE cE cE cE cE cE cE)))))))
  (fun ae =>
  .ret (bu [(J 2),.az (aj 2 (an (br 1 (.b r1) true) (aj 2 (cr 4 (an (.aa true) (aj 1 (cr 4 (aj 2 (cr 4 (aj 2 (cr 5 (aj 1 [])))))))))))),.aa true,(J 1)] (ah.aJ (.bl (cU ae) (cU ae) (cU ae) (cU ae) (cU ae) cE cE cE (.bl cE cE cE cE cE cE cE cE (.bR cE cE cE)))))))
def pO (bW:aM):Option Int :=
 sN bW >>= fun r1 =>
 if r1=true then
  if ((len_ eI bW.fp.cC) == (0:Int))=true then
   some 0
  else
   if bW.fp.cO=true then
    some (-1)
   else
    some 1
 else
  some 0
theorem sF {bW:aM}:bA (pO bW) (fun r=>Con bb 54 [.agg (aO bW)] [] (.n .i64 r) []):=by
 unfold pO
 exact .au fun r1 o =>
  (have ah:=((.aC (Jj r1 o) (b9.b r1)):cq _);
  .ite (fun ae =>
  (let t2:List bX:=[(J 2),.az (aj 1 (an (br 1 (.b r1) true) (bs 7 (.aa false) 1)))];
  have fF:=ah.aJ (.d5 (cY ae) (cY ae) (cY ae) (cY ae) (cY ae) (cY ae));
  .ite (fun av =>
  .ret (bu (t2.append [.aa true,(J 1)]) (fF.aJ (.e1 av))))
  (fun av =>
  .ite (fun aA =>
  .ret (bu (t2.append [.aa false,(J 4),.aa true,(J 1)]) (fF.aJ (.aC av aA))))
  (fun aA =>
  .ret (bu (t2.append [.aa false,(J 4),.aa false,(J 1)]) (fF.aJ (.aC av aA)))))))
  (fun ae =>
  .ret (bu [(J 2),.az (aj 1 (an (br 1 (.b r1) true) (aj 2 (cr 5 (an (.aa true) (aj 1 [])))))),.aa true,(J 1)] (ah.aJ (.eJ (cU ae) (cU ae) (cU ae) (cU ae) (cU ae) (cU ae) cE)))))
def GU (eF:Int)(eS:List (List aM))(eE:List Int)(eG:List aM)(bP:Int)(e7:Bool)(bz oz:Int):(Int×Int)→S:=fun (aN,mH)=>dl [(0,.dY 4 [[.n .i64 eF,.isl 1 (eS.map (eL 3 aO)),.isl 1 (eE.map eI),.isl 3 (eG.map aO)]] 0 0),(1,.n .i64 bP),(2,.b e7),(7,.n .i64 aN),(8,.n .i64 bz),(40,.isl 1 (eE.map eI)),(41,.n .i64 oz),(42,.n .i64 mH)] []
def Hx (eF:Int)(eS:List (List aM))(eE:List Int)(eG:List aM)(bP:Int)(e7:Bool)(bz oz:Int):Int→dm
 | a=>⟨some 2,[(0,.dY 4 [[.n .i64 eF,.isl 1 (eS.map (eL 3 aO)),.isl 1 (eE.map eI),.isl 3 (eG.map aO)]] 0 0),(1,.n .i64 bP),(2,.b e7),(7,.n .i64 a),(8,.n .i64 bz)],[]⟩
def GV (eF:Int)(eS:List (List aM))(eE:List Int)(eG:List aM)(bP:Int)(e7:Bool)(bz oz aN mH:Int):Option ((Int×Int)⊕(Int)) :=
 if (decide (mH<oz))=true then
  if 0≤mH∧mH<eE.length then
  eE[mH.toNat]? >>= fun aE =>
  if (aE == bz)=true then
   if 0≤mH∧mH<eS.length then
   eS[mH.toNat]? >>= fun fl =>
   if 0≤bP∧bP<fl.length then
   fl[bP.toNat]? >>= fun iU =>
   pO iU >>= fun dT =>
   some (.inl (dT,U (mH+(1:Int))))
   else none
   else none
  else
   some (.inl (aN,U (mH+(1:Int))))
  else none
 else
  some (.inr aN)
def Nx (eF:Int)(eS:List (List aM))(eE:List Int)(eG:List aM)(bP:Int)(e7:Bool)(bz oz aN mH:Int):Option (Int):=iter (fun w:Int×Int=>GV eF eS eE eG bP e7 bz oz w.1 w.2) (aN,mH)
theorem Un {eF:Int}{eS:List (List aM)}{eE:List Int}{eG:List aM}{bP:Int}{e7:Bool}{bz oz aN mH:Int}:bA (GV eF eS eE eG bP e7 bz oz aN mH) (dM bb 63 0 79 [1,1,0,1,0,0,1,0,0,1,1,0,0] (GU eF eS eE eG bP e7 bz oz (aN,mH)) (GU eF eS eE eG bP e7 bz oz) (Hx eF eS eE eG bP e7 bz oz)):=by
 unfold GV
 exact .ite (fun h1 =>
  .aZ fun o =>
  .au fun aE av =>
  (let t1:List bX:=[(J 1),.aa true,.az (bs 2 (.b4 (eI aE)) 2),(J 3)];
  have aQ:=((.c9 h1 o.1 (cN eI o.2) (bU eI av)):cq _);
  .ite (fun aA =>
  .aZ fun a2 =>
  .au fun fl bn =>
  .aZ fun cp =>
  .au fun iU eV =>
  .au fun dT ev =>
  .ret (bh (t1.append [.aa true,.az (aj 6 (an (.b4 ((eL 3 aO) fl)) (aj 2 (an (.b4 (aO iU)) (an (br 1 (.n .i64 dT) true) (aj 1 [])))))),(J 2),.aL [] [] (a8 [0,1,2,7,8,40,41,42])]) (aQ.aJ (.bl aA a2.1 (cN (eL 3 aO) a2.2) (bU (eL 3 aO) bn) cp.1 (cN aO cp.2) (bU aO eV) (sF dT ev) (.e1 (b9.n .i64 dT))))))
  (fun aA =>
  .ret (bh (t1.append [.aa false,(J 2),.aL [] [] (a8 [0,1,2,7,8,40,41,42])]) (aQ.aJ (.e1 aA))))))
  (fun h1 =>
  .ret (bh [(J 1),.aa false,.aL [] [] (a8 [0,1,2,7,8])] (.e1 h1)))
theorem VQ {eF:Int}{eS:List (List aM)}{eE:List Int}{eG:List aM}{bP:Int}{e7:Bool}{bz oz aN mH:Int}{r} (h:Nx eF eS eE eG bP e7 bz oz aN mH=some r):dN bb 63 0 79 [1,1,0,1,0,0,1,0,0,1,1,0,0] (GU eF eS eE eG bP e7 bz oz) (Hx eF eS eE eG bP e7 bz oz) (aN,mH) r:=dO (fun _=>Un) h
def GW (eF:Int)(eS:List (List aM))(eE:List Int)(eG:List aM)(bP:Int)(e7:Bool):(Int×Int)→S:=fun (aN,bz)=>dl [(0,.dY 4 [[.n .i64 eF,.isl 1 (eS.map (eL 3 aO)),.isl 1 (eE.map eI),.isl 3 (eG.map aO)]] 0 0),(1,.n .i64 bP),(2,.b e7),(7,.n .i64 aN),(8,.n .i64 bz)] []
def MY (eF:Int)(eS:List (List aM))(eE:List Int)(eG:List aM)(bP:Int)(e7:Bool):((Int)⊕(Unit))→dm
 | .inl a=>⟨some 0,[(7,.n .i64 a)],[]⟩
 | .inr a=>⟨none,[(6,.n .i64 (-1:Int))],[]⟩
def y2 (eF:Int)(eS:List (List aM))(eE:List Int)(eG:List aM)(bP:Int)(e7:Bool)(aN bz:Int):Option ((Int×Int)⊕((Int)⊕(Unit))) :=
 if (aN == (0:Int))=true then
  if e7=true then
   if (decide (bz<eF))=true then
    if (bz == bP)=true then
     some (.inr (.inr ()))
    else
     Nx eF eS eE eG bP e7 bz (len_ eI eE) aN 0 >>= fun aT =>
     some (.inl (aT,U (bz+(1:Int))))
   else
    some (.inr (.inl aN))
  else
   some (.inr (.inl aN))
 else
  some (.inr (.inl aN))
def IP (eF:Int)(eS:List (List aM))(eE:List Int)(eG:List aM)(bP:Int)(e7:Bool)(aN bz:Int):Option ((Int)⊕(Unit)):=iter (fun w:Int×Int=>y2 eF eS eE eG bP e7 w.1 w.2) (aN,bz)
theorem Uo {eF:Int}{eS:List (List aM)}{eE:List Int}{eG:List aM}{bP:Int}{e7:Bool}{aN bz:Int}:bA (y2 eF eS eE eG bP e7 aN bz) (dM bb 63 0 79 [1,1,0,1,0,0] (GW eF eS eE eG bP e7 (aN,bz)) (GW eF eS eE eG bP e7) (MY eF eS eE eG bP e7)):=by
 unfold y2
 exact .ite (fun h1 =>
  .ite (fun o =>
  (let t1:List bX:=[.az (aj 4 (an (.aa true) (aj 7 (an (.aa true) []))))];
  have aQ:=((.bl h1 h1 o o o o o o (.e1 o)):cq _);
  .ite (fun ae =>
  .ite (fun av =>
  .ret (bh (t1.append [.aa true,(J 3),.aa true,(J 1),.aL [] [] (a8 [6])]) (aQ.aJ (.aC ae av))))
  (fun av =>
  .au fun aT a2 =>
  .ret (bh (t1.append [.aa true,(J 3),.aa false,(J 6),.aL [] [] (a8 [0,1,2,7,8,40,41,42]),(Hx eF eS eE eG bP e7 bz (len_ eI eE) aT).fb,(J 3),.aL [] [] (a8 [0,1,2,7,8])]) (aQ.aJ (.bR ae av (VQ a2))))))
  (fun ae =>
  .ret (bh (t1.append [.aa false,.aL [] [] (a8 [7])]) (aQ.aJ (.e1 ae))))))
  (fun o =>
  .ret (bh [.az (aj 4 (an (.aa true) (aj 1 (cr 6 (an (.aa false) []))))),.aa false,.aL [] [] (a8 [7])] (.bl h1 h1 o o o o o o (.aC o c1)))))
  (fun h1 =>
  .ret (bh [.az (aj 3 (cr 1 (an (.aa false) (aj 1 (cr 6 (aj 1 [])))))),.aa false,.aL [] [] (a8 [7])] (.bl h1 h1 c1 c1 c1 c1 c1 c1 (.e1 c1))))
theorem M9 {eF:Int}{eS:List (List aM)}{eE:List Int}{eG:List aM}{bP:Int}{e7:Bool}{aN bz:Int}{r} (h:IP eF eS eE eG bP e7 aN bz=some r):dN bb 63 0 79 [1,1,0,1,0,0] (GW eF eS eE eG bP e7) (MY eF eS eE eG bP e7) (aN,bz) r:=dO (fun _=>Uo) h
def ub (hd:pf)(bP:Int)(e7:Bool):Option Int :=
 if 0≤bP∧bP<hd.AU.length then
 hd.AU[bP.toNat]? >>= fun d3 =>
 pO d3 >>= fun bi =>
 IP hd.Md hd.sa hd.rn hd.AU bP e7 bi 0 >>= fun cf =>
 match cf with
 | .inl k1=>(some k1)
 | .inr k1=>(some (-1))
 else none
theorem WT {hd:pf}{bP:Int}{e7:Bool}:bA (ub hd bP e7) (fun r=>Con bb 79 [.dY 4 [(uo hd)] 0 0,.n .i64 bP,.b e7] [] (.n .i64 r) []):=by
 unfold ub
 exact .aZ fun h1 =>
  .au fun d3 ae =>
  .au fun bi aA =>
  .au fun cf bd =>
  (let t1:List bX:=[(J 1),.az (aj 6 (an (.b4 (aO d3)) (an (br 1 (.n .i64 bi) true) (aj 1 [])))),(J 1),.aL [] [] (a8 [0,1,2,7,8])];
  have aQ:=((.dn h1.1 (cN aO h1.2) (bU aO ae) (sF bi aA) (b9.n .i64 bi)):cq _);
  (by
  rcases cf with k1|k1
  ·exact (.ret (bu (t1.append [.sub (.exit 0) [(7,.n .i64 k1)] [],(J 2)]) (aQ.aJ (.e1 (M9 bd)))))
  ·exact (.ret (bu (t1.append [.sub (.ret) [(6,.n .i64 (-1:Int))] []]) (aQ.aJ (.e1 (M9 bd)))))))
def uh (bW aN:aM):Option aM :=
 sN bW >>= fun r1 =>
 if r1=true then
  sN aN >>= fun bi =>
  if bi=true then
   hL bW.fp.cC aN.hx >>= fun bI =>
   hL bW.hx aN.fp.cC >>= fun bx =>
   nM (!(bW.fp.cO == aN.fp.cO)) bI bx >>= fun dc =>
   some dc
  else
   some (⟨(⟨false,([]:List Int)⟩:bp),([]:List Int)⟩:aM)
 else
  some (⟨(⟨false,([]:List Int)⟩:bp),([]:List Int)⟩:aM)
theorem NK {bW aN:aM}:bA (uh bW aN) (fun r=>Con bb 99 [.agg (aO bW),.agg (aO aN)] [] (.agg (aO r)) []):=by
 unfold uh
 exact .au fun r1 o =>
  (have ah:=((.aC (Jj r1 o) (b9.b r1)):cq _);
  .ite (fun ae =>
  .au fun bi aA =>
  (let t2:List bX:=[(J 3),.az (aj 1 (an (br 1 (.b r1) true) (aj 3 (an (br 1 (.b bi) true) (aj 1 (an (.aa false) []))))))];
  have fF:=ah.aJ (.d5 (cY ae) (cY ae) (Jj bi aA) (b9.b bi) (cY ae) (cY ae));
  .ite (fun a2 =>
  .au fun bI bn =>
  .au fun bx cK =>
  .au fun dc e4 =>
  .ret (bu (t2.append [.aa false,.az (aj 12 (an (br 2 (.isl 1 (bI.map eI)) false) (aj 5 (an (br 2 (.isl 1 (bx.map eI)) false) (an (br 3 (.agg (aO dc)) false) (aj 1 []))))))]) (fF.aJ (.c9 (cY a2) (oV bI bn) (oV bx cK) (zr dc e4)))))
  (fun a2 =>
  .ret (bu (t2.append [.aa true,(J 2)]) (fF.aJ (.e1 (cU a2))) (.bw (.agg [.id,.jW 1,.jW 1]))))))
  (fun ae =>
  .ret (bu [(J 3),.az (aj 1 (an (br 1 (.b r1) true) (aj 2 (cr 3 (an (.aa true) []))))),.aa true,(J 2)] (ah.aJ (.dn (cU ae) (cU ae) (cU ae) (cU ae) cE)) (.bw (.agg [.id,.jW 1,.jW 1])))))
def zV (c7 er:bp):Option Int :=
 if c7.cO=true then
  if er.cO=true then
   pP er.cC c7.cC >>= fun bk =>
   some bk
  else
   some (-1)
 else
  if er.cO=true then
   some 1
  else
   pP c7.cC er.cC >>= fun bk =>
   some bk
theorem Xf {c7 er:bp}:bA (zV c7 er) (fun r=>Con bb 118 [.agg (aX c7),.agg (aX er)] [] (.n .i64 r) []):=by
 unfold zV
 exact .ite (fun h1 =>
  (let t1:List bX:=[(J 3),.az (bs 6 (.aa true) 1)];
  .ite (fun o =>
  .au fun bk av =>
  .ret (bu (t1.append [.aa false,.az (aj 4 (cr 2 (an (.aa false) (aj 1 [])))),.aa false,(J 3),.aa true,.az (bs 4 (br 2 (.n .i64 bk) true) 1)]) (.bl h1 h1 h1 h1 (cY o) (cY h1) (cY h1) (cY h1) (.c9 c1 h1 (w3 bk av) (b9.n .i64 bk)))))
  (fun o =>
  .ret (bu (t1.append [.aa true,(J 1)]) (.dn h1 h1 h1 h1 (cU o))))))
  (fun h1 =>
  (let t1:List bX:=[(J 3),.az (aj 3 (cr 3 (an (.aa false) (aj 1 [])))),.aa false,.az (bs 6 (.aa true) 1)];
  have aQ:=((.gS h1 h1 h1 h1 c1 (cU h1) (cU h1) (cU h1)):cq _);
  .ite (fun o =>
  .ret (bu (t1.append [.aa true,(J 1)]) (aQ.aJ (.e1 o))))
  (fun o =>
  .au fun bk av =>
  .ret (bu (t1.append [.aa false,(J 3),.aa false,.az (bs 4 (br 2 (.n .i64 bk) true) 1)]) (aQ.aJ (.c9 o h1 (w3 bk av) (b9.n .i64 bk)))))))
def ui (bW aN:aM):Option Int :=
 hL bW.fp.cC aN.hx >>= fun r1 =>
 hP bW.fp.cO r1 >>= fun bk =>
 hL aN.fp.cC bW.hx >>= fun aT =>
 hP aN.fp.cO aT >>= fun bI =>
 zV bk bI >>= fun bx =>
 some bx
theorem NL {bW aN:aM}:bA (ui bW aN) (fun r=>Con bb 100 [.agg (aO bW),.agg (aO aN)] [] (.n .i64 r) []):=by
 unfold ui
 exact .au fun r1 o =>
  .au fun bk av =>
  .au fun aT a2 =>
  .au fun bI bn =>
  .au fun bx cK =>
  .ret (bu [(J 3),.az (aj 8 (an (br 2 (.isl 1 (r1.map eI)) false) (an (br 2 (.agg (aX bk)) false) (aj 8 (an (br 2 (.isl 1 (aT.map eI)) false) (an (br 2 (.agg (aX bI)) false) (an (br 2 (.n .i64 bx) true) (aj 1 []))))))))] (.d5 (oV r1 o) (nL bk av) (oV aT a2) (nL bI bn) (Xf bx cK) (b9.n .i64 bx)))
def GB (eF:Int)(eS:List (List aM))(eE:List Int)(eG:List aM)(bP eN:Int):(Int×Int×Bool×(List Int)×(List Int))→S:=fun (hZ,e3,aF,aD,bq)=>dl [(0,.dY 4 [[.n .i64 eF,.isl 1 (eS.map (eL 3 aO)),.isl 1 (eE.map eI),.isl 3 (eG.map aO)]] 0 0),(1,.n .i64 bP),(5,.n .i64 hZ),(6,.ref 0 0 0 0),(14,.isl 1 (eS.map (eL 3 aO))),(15,.n .i64 eN),(16,.n .i64 e3)] [[ab.mk 3 [[.b aF,.isl 1 (aD.map eI),.isl 1 (bq.map eI)]] .live]]
def MP (eF:Int)(eS:List (List aM))(eE:List Int)(eG:List aM)(bP eN:Int):Int→dm
 | a=>⟨some 0,[(5,.n .i64 a)],[]⟩
def wk (eF:Int)(eS:List (List aM))(eE:List Int)(eG:List aM)(bP eN hZ e3:Int)(aF:Bool)(aD bq:List Int):Option ((Int×Int×Bool×(List Int)×(List Int))⊕(Int)) :=
 if (decide (e3<eN))=true then
  if 0≤e3∧e3<eS.length then
  eS[e3.toNat]? >>= fun aE =>
  if 0≤bP∧bP<aE.length then
  aE[bP.toNat]? >>= fun ct =>
  pO ct >>= fun c4 =>
  if (decide (c4≤(0:Int)))=true then
   some (.inl (hZ,U (e3+(1:Int)),aF,aD,bq))
  else
   if 0≤(U ((len_ aO aE)-(1:Int)))∧(U ((len_ aO aE)-(1:Int)))<aE.length then
   aE[(U ((len_ aO aE)-(1:Int))).toNat]? >>= fun Lz =>
   uh Lz ct >>= fun gf =>
   if (decide (hZ<(0:Int)))=true then
    some (.inl (e3,U (e3+(1:Int)),gf.fp.cO,gf.fp.cC,gf.hx))
   else
    ui gf (⟨(⟨aF,aD⟩:bp),bq⟩:aM) >>= fun gn =>
    if (decide (gn<(0:Int)))=true then
     some (.inl (e3,U (e3+(1:Int)),gf.fp.cO,gf.fp.cC,gf.hx))
    else
     if (gn == (0:Int))=true then
      if 0≤e3∧e3<eE.length then
      eE[e3.toNat]? >>= fun LA =>
      if 0≤hZ∧hZ<eE.length then
      eE[hZ.toNat]? >>= fun LB =>
      if (decide (LA<LB))=true then
       some (.inl (e3,U (e3+(1:Int)),gf.fp.cO,gf.fp.cC,gf.hx))
      else
       some (.inl (hZ,U (e3+(1:Int)),aF,aD,bq))
      else none
      else none
     else
      some (.inl (hZ,U (e3+(1:Int)),aF,aD,bq))
   else none
  else none
  else none
 else
  some (.inr hZ)
def Iz (eF:Int)(eS:List (List aM))(eE:List Int)(eG:List aM)(bP eN hZ e3:Int)(aF:Bool)(aD bq:List Int):Option (Int):=iter (fun w:Int×Int×Bool×(List Int)×(List Int)=>wk eF eS eE eG bP eN w.1 w.2.1 w.2.2.1 w.2.2.2.1 w.2.2.2.2) (hZ,e3,aF,aD,bq)
theorem Uc {eF:Int}{eS:List (List aM)}{eE:List Int}{eG:List aM}{bP eN hZ e3:Int}{aF:Bool}{aD bq:List Int}:bA (wk eF eS eE eG bP eN hZ e3 aF aD bq) (dM bb 73 0 80 [1,1,1,0,1,0,0] (GB eF eS eE eG bP eN (hZ,e3,aF,aD,bq)) (GB eF eS eE eG bP eN) (MP eF eS eE eG bP eN)):=by
 unfold wk
 exact .ite (fun h1 =>
  .aZ fun o =>
  .au fun aE av =>
  .aZ fun aA =>
  .au fun ct bd =>
  .au fun c4 cp =>
  (let t1:List bX:=[(J 1),.aa true,.az (bs 2 (.b4 ((eL 3 aO) aE)) 2),.az (aj 3 (an (.b4 (aO ct)) (an (br 1 (.n .i64 c4) true) (aj 1 []))))];
  have aQ:=((.bl h1 o.1 (cN (eL 3 aO) o.2) (bU (eL 3 aO) av) aA.1 (cN aO aA.2) (bU aO bd) (sF c4 cp) (.e1 (b9.n .i64 c4))):cq _);
  .ite (fun cK =>
  .ret (bh (t1.append [.aa true,(J 2),.aL [0] [.box [.id,.id,.id]] (a8 [0,1,5,6,14,15,16])]) (aQ.aJ (.e1 cK))))
  (fun cK =>
  .aZ fun eV =>
  .au fun Lz ev =>
  .au fun gf fS =>
  (let t3:List bX:=t1.append [.aa false,.az (aj 5 (an (.b4 (aO Lz)) (aj 3 (an (.b4 (aO ct)) (an (br 2 (.agg (aO gf)) false) (aj 2 []))))))];
  have eR:=aQ.aJ (.gS cK eV.1 (cN aO eV.2) (bU aO ev) aA.1 (cN aO aA.2) (bU aO bd) (NK gf fS));
  .ite (fun hY =>
  .ret (bh (t3.append [.az (aj 3 (cr 4 (an (.aa true) (aj 1 (cr 5 (aj 15 (cr 1 (aj 1 [])))))))),.aa true,(J 2),(J 2),(J 2),.aL [0] [.box [.id,.id,.id]] (a8 [0,1,5,6,14,15,16])]) (eR.aJ (.bl hY hY hY hY hY cE cE cE (.c9 cE cE cE cE)))))
  (fun hY =>
  .au fun gn hz =>
  (have mg:=eR.aJ (.eJ hY hY hY (NL gn hz) (b9.n .i64 gn) hY hY);
  .ite (fun gA =>
  .ret (bh (t3.append [.az (aj 5 (an (br 2 (.n .i64 gn) true) (aj 1 (an (.aa false) (aj 1 (cr 5 (aj 15 (cr 1 (an (.aa true) []))))))))),.aa true,(J 2),(J 2),(J 2),.aL [0] [.box [.id,.id,.id]] (a8 [0,1,5,6,14,15,16])]) (mg.aJ (.gS gA gA gA gA gA gA gA cE))))
  (fun gA =>
  (have kF:=mg.aJ (.eJ gA gA gA (NL gn hz) (b9.n .i64 gn) gA gA);
  .ite (fun fk =>
  .aZ fun gL =>
  .au fun LA mV =>
  .aZ fun yz =>
  .au fun LB BO =>
  (let t7:List bX:=t3.append [.az (aj 5 (an (br 2 (.n .i64 gn) true) (aj 1 (an (.aa false) (aj 3 (an (br 2 (.n .i64 gn) true) (aj 8 (an (.b4 (eI LA)) (aj 6 (an (.b4 (eI LB)) (aj 1 (an (.aa true) (an (.aa false) [])))))))))))))];
  have my:=kF.aJ (.bl fk fk fk fk fk fk gL.1 (cN eI gL.2) (.bl fk (bU eI mV) fk fk fk fk fk fk (.gS yz.1 (cN eI yz.2) fk (bU eI BO) fk gA fk gA)));
  .ite (fun sn =>
  .ret (bh (t7.append [.aa true,(J 2),(J 2),(J 2),.aL [0] [.box [.id,.id,.id]] (a8 [0,1,5,6,14,15,16])]) (my.aJ (.e1 sn))))
  (fun sn =>
  .ret (bh (t7.append [.aa false,(J 2),.aL [0] [.box [.id,.id,.id]] (a8 [0,1,5,6,14,15,16])]) (my.aJ (.e1 sn))))))
  (fun fk =>
  .ret (bh (t3.append [.az (aj 5 (an (br 2 (.n .i64 gn) true) (aj 1 (an (.aa false) (aj 3 (an (br 2 (.n .i64 gn) true) (aj 2 (cr 15 (an (.aa false) (an (.aa false) [])))))))))),.aa false,(J 2),.aL [0] [.box [.id,.id,.id]] (a8 [0,1,5,6,14,15,16])]) (kF.aJ (.bl fk fk fk fk fk fk fk fk (.bl fk fk fk fk fk fk fk gA (.bR fk gA c1))))))))))))))
  (fun h1 =>
  .ret (bh [(J 1),.aa false,.aL [] [] (a8 [5])] (.e1 h1)))
theorem Vy {eF:Int}{eS:List (List aM)}{eE:List Int}{eG:List aM}{bP eN hZ e3:Int}{aF:Bool}{aD bq:List Int}{r} (h:Iz eF eS eE eG bP eN hZ e3 aF aD bq=some r):dN bb 73 0 80 [1,1,1,0,1,0,0] (GB eF eS eE eG bP eN) (MP eF eS eE eG bP eN) (hZ,e3,aF,aD,bq) r:=dO (fun _=>Uc) h
def zC (hd:pf)(bP:Int):Option Int :=
 Iz hd.Md hd.sa hd.rn hd.AU bP (len_ (eL 3 aO) hd.sa) (-1) 0 false ([]:List Int) ([]:List Int) >>= fun r1 =>
 some r1
theorem Wx {hd:pf}{bP:Int}:bA (zC hd bP) (fun r=>Con bb 80 [.dY 4 [(uo hd)] 0 0,.n .i64 bP] [] (.n .i64 r) []):=by
 unfold zC
 exact .au fun r1 o =>
  .ret (bu [(J 1),(J 1),(J 3),(J 6),.aL [3] [.box [.id,.jW 1,.jW 1]] (a8 [0,1,5,6,14,15,16]),.sub (.exit 0) [(5,.n .i64 r1)] [],(J 2)] (.e1 (Vy o)))
def uj (bW:aM):Option aM :=
 hP (!bW.fp.cO) bW.fp.cC >>= fun r1 =>
 if (([]:List Int)++bW.hx).length*8≤140737488355328 then
 some (⟨r1,([]:List Int)++bW.hx⟩:aM)
 else none
theorem NM {bW:aM}:bA (uj bW) (fun r=>Con bb 119 [.agg (aO bW)] [] (.agg (aO r)) []):=by
 unfold uj
 exact .au fun r1 o =>
  .aZ fun ae =>
  .ret (let q1:=(([]:List Int)++bW.hx);let aY:=cW eI bW.hx;bu [(J 2),.az (aj 7 (an (br 2 (.agg (aX r1)) false) (bs 3 (.aJ (q1.length)) 2)))] (.eJ (nL r1 o) (oe (show []=(([]:List Int)).map eI from rfl) (fH Int)) (mE (fH Int) aY:q1.length=0+(bW.hx.map eI).length) ae (lZ (jc (show []=(([]:List Int)).map eI from rfl) (fH Int) aY) (dL q1)) (lG (jc (show []=(([]:List Int)).map eI from rfl) (fH Int) aY) (dL q1)) (dS aP q1)) (.bw (.agg [.id,.id,.e5 (q1.map eI)])))
def sK (bW aN:aM):Option aM :=
 hL bW.fp.cC aN.fp.cC >>= fun r1 =>
 hL bW.hx aN.hx >>= fun bk =>
 nM (!(bW.fp.cO == aN.fp.cO)) r1 bk >>= fun aT =>
 some aT
theorem NN {bW aN:aM}:bA (sK bW aN) (fun r=>Con bb 120 [.agg (aO bW),.agg (aO aN)] [] (.agg (aO r)) []):=by
 unfold sK
 exact .au fun r1 o =>
  .au fun bk av =>
  .au fun aT a2 =>
  .ret (bu [(J 3),.az (aj 13 (an (br 2 (.isl 1 (r1.map eI)) false) (aj 4 (an (br 2 (.isl 1 (bk.map eI)) false) (an (br 3 (.agg (aO aT)) false) (aj 1 []))))))] (.bR (oV r1 o) (oV bk av) (zr aT a2)))
def F5 (kI lF hQ eh:Nat)(gU:Int)(ap:List aM)(jR:Bool)(jQ jO:List Int):(Int×(List aM))→S:=fun (fA,ad)=>dl [(0,.bm 0 0 kI lF),(1,.bm 1 0 hQ eh),(7,.ref 2 0 0 0),(19,.n .i64 gU),(20,.n .i64 fA)] [(ah 3 aO ad),(ah 3 aO ap),[ab.mk 3 [[.b jR,.isl 1 (jQ.map eI),.isl 1 (jO.map eI)]] .live]]
def MI (kI lF hQ eh:Nat)(gU:Int)(ap:List aM)(jR:Bool)(jQ jO:List Int):(List aM)→dm
 | a=>⟨some 0,[],[(ah 3 aO a),(ah 3 aO ap)]⟩
def v7 (kI lF hQ eh:Nat)(gU:Int)(ap:List aM)(jR:Bool)(jQ jO:List Int)(fA:Int)(ad:List aM):Option ((Int×(List aM))⊕((List aM))) :=
 if (decide (fA<gU))=true then
  if 0≤fA∧fA<(eh:Nat) then
  ap[(hQ+fA.toNat)]? >>= fun aE =>
  pO aE >>= fun aT =>
  if (aT != (0:Int))=true then
   if 0≤fA∧fA<(lF:Nat) then
   ad[(kI+fA.toNat)]? >>= fun eo =>
   sK (⟨(⟨jR,jQ⟩:bp),jO⟩:aM) aE >>= fun dc =>
   q9 eo dc >>= fun ex =>
   if (kI+fA.toNat)<ad.length then
   some (.inl (U (fA+(1:Int)),ad.set (kI+fA.toNat) ex))
   else none
   else none
  else
   some (.inl (U (fA+(1:Int)),ad))
  else none
 else
  some (.inr ad)
def HZ (kI lF hQ eh:Nat)(gU:Int)(ap:List aM)(jR:Bool)(jQ jO:List Int)(fA:Int)(ad:List aM):Option ((List aM)):=iter (fun w:Int×(List aM)=>v7 kI lF hQ eh gU ap jR jQ jO w.1 w.2) (fA,ad)
theorem TL {kI lF hQ eh:Nat}{gU:Int}{ap:List aM}{jR:Bool}{jQ jO:List Int}{fA:Int}{ad:List aM}:bA (v7 kI lF hQ eh gU ap jR jQ jO fA ad) (dM bb 44 2 101 [1,1,1,1,0,0] (F5 kI lF hQ eh gU ap jR jQ jO (fA,ad)) (F5 kI lF hQ eh gU ap jR jQ jO) (MI kI lF hQ eh gU ap jR jQ jO)):=by
 unfold v7
 exact .ite (fun h1 =>
  .aZ fun o =>
  .au fun aE av =>
  .au fun aT a2 =>
  (let t1:List bX:=[(J 1),.aa true,(J 2),.az (aj 3 (an (.b4 (aO aE)) (an (br 1 (.n .i64 aT) true) (aj 1 []))))];
  have aQ:=((.d5 h1 o.1 o.2 (bU aO av) (sF aT a2) (b9.n .i64 aT)):cq _);
  .ite (fun bd =>
  .aZ fun bn =>
  .au fun eo cK =>
  .au fun dc e4 =>
  .au fun ex ew =>
  .aZ fun fS =>
  .ret (bh (t1.append [.aa true,.az (aj 5 (an (.b4 (aO eo)) (aj 4 (an (.b4 (aO aE)) (an (br 2 (.agg (aO dc)) false) (an (br 2 (.agg (aO ex)) false) (aj 1 (an .fQ [])))))))),(J 2),.aL [0,1,2] [.cL (ah 3 aO (ad.set (kI+fA.toNat) ex)),.pure,.box [.id,.id,.id]] (a8 [0,1,7,19,20])]) (aQ.aJ (.bl bd bn.1 bn.2 (bU aO cK) o.1 o.2 (bU aO av) (NN dc e4) (.gS (CZ ex ew) bn.1 bn.2 (hE aO fS) (hs 3) (c6 3 .live (gD (cW aO ad) (kI+fA.toNat) ex)) (aK 3 .live eM (ad.set (kI+fA.toNat) ex)) (aK 3 .live eM ap))))))
  (fun bd =>
  .ret (bh (t1.append [.aa false,(J 2),.aL [0,1,2] [.pure,.pure,.box [.id,.id,.id]] (a8 [0,1,7,19,20])]) (aQ.aJ (.bR bd (aK 3 .live eM ad) (aK 3 .live eM ap)))))))
  (fun h1 =>
  .ret (bh [(J 1),.aa false,.aL [0,1] [.pure,.pure] []] (.bR h1 (aK 3 .live eM ad) (aK 3 .live eM ap))))
theorem U9 {kI lF hQ eh:Nat}{gU:Int}{ap:List aM}{jR:Bool}{jQ jO:List Int}{fA:Int}{ad:List aM}{r} (h:HZ kI lF hQ eh gU ap jR jQ jO fA ad=some r):dN bb 44 2 101 [1,1,1,1,0,0] (F5 kI lF hQ eh gU ap jR jQ jO) (MI kI lF hQ eh gU ap jR jQ jO) (fA,ad) r:=dO (fun _=>TL) h
def zg (bz:Int)(kI lF hQ eh:Nat)(fD fe:List aM):Option (List aM) :=
 if 0≤bz∧bz<(lF:Nat) then
 fD[(kI+bz.toNat)]? >>= fun d3 =>
 pO d3 >>= fun bi =>
 if (bi == (0:Int))=true then
  some fD
 else
  uj d3 >>= fun bI =>
  HZ kI lF hQ eh ((lF:Nat):Int) fe bI.fp.cO bI.fp.cC bI.hx 0 fD >>= fun bx =>
  some bx
 else none
theorem VR {bz:Int}{kI lF hQ eh:Nat}{fD fe:List aM}:bA (zg bz kI lF hQ eh fD fe) (fun a=>Con bb 101 (RX 0 0 kI lF 1 0 hQ eh bz) [(ah 3 aO fD),(ah 3 aO fe)] (.dZ []) [(ah 3 aO a),(ah 3 aO fe)]):=by
 unfold zg
 exact .aZ fun h1 =>
  .au fun d3 ae =>
  .au fun bi aA =>
  (let t1:List bX:=[.az (bs 3 (.b4 (aO d3)) 2),.az (bs 1 (br 1 (.n .i64 bi) true) 1)];
  have aQ:=((.dn h1.1 h1.2 (bU aO ae) (sF bi aA) (b9.n .i64 bi)):cq _);
  .ite (fun a2 =>
  .ret (lC (t1.append [.aa true]) [0,1] [.pure,.pure] (aQ.aJ (.bR a2 (aK 3 .live eM fD) (aK 3 .live eM fe)))))
  (fun a2 =>
  .au fun bI bn =>
  .au fun bx cK =>
  .ret (lC (t1.append [.aa false,.az (bs 1 (br 1 (.agg (aO bI)) false) 2),(J 3),.aL [0,1,13] [.pure,.pure,.box [.id,.id,.id]] (a8 [0,1,7,19,20]),.sub (.exit 0) [] [(ah 3 aO bx),(ah 3 aO fe)]]) [0,1] [.pure,.pure] (aQ.aJ (.eJ a2 (NM bI bn) (aK 3 .live eM fD) (aK 3 .live eM fe) (U9 cK) (aK 3 .live eM bx) (aK 3 .live eM fe))))))
def FO (hQ eh:Nat)(gU:Int)(ap:List aM)(jR:Bool)(jQ jO:List Int):(Int×(List aM))→S:=fun (fA,ad)=>dl [(0,.bm 0 0 0 ad.length),(1,.bm 1 0 hQ eh),(7,.ref 2 0 0 0),(19,.n .i64 gU),(20,.n .i64 fA)] [(ah 3 aO ad),(ah 3 aO ap),[ab.mk 3 [[.b jR,.isl 1 (jQ.map eI),.isl 1 (jO.map eI)]] .live]]
def MC (hQ eh:Nat)(gU:Int)(ap:List aM)(jR:Bool)(jQ jO:List Int):(List aM)→dm
 | a=>⟨some 0,[],[(ah 3 aO a),(ah 3 aO ap)]⟩
def vS (hQ eh:Nat)(gU:Int)(ap:List aM)(jR:Bool)(jQ jO:List Int)(fA:Int)(ad:List aM):Option ((Int×(List aM))⊕((List aM))) :=
 if (decide (fA<gU))=true then
  if 0≤fA∧fA<(eh:Nat) then
  ap[(hQ+fA.toNat)]? >>= fun aE =>
  pO aE >>= fun aT =>
  if (aT != (0:Int))=true then
   if 0≤fA∧fA<(ad.length:Nat) then
   ad[(0+fA.toNat)]? >>= fun eo =>
   sK (⟨(⟨jR,jQ⟩:bp),jO⟩:aM) aE >>= fun dc =>
   q9 eo dc >>= fun ex =>
   if (0+fA.toNat)<ad.length then
   some (.inl (U (fA+(1:Int)),ad.set (0+fA.toNat) ex))
   else none
   else none
  else
   some (.inl (U (fA+(1:Int)),ad))
  else none
 else
  some (.inr ad)
def Hy (hQ eh:Nat)(gU:Int)(ap:List aM)(jR:Bool)(jQ jO:List Int)(fA:Int)(ad:List aM):Option ((List aM)):=iter (fun w:Int×(List aM)=>vS hQ eh gU ap jR jQ jO w.1 w.2) (fA,ad)
theorem Tz {hQ eh:Nat}{gU:Int}{ap:List aM}{jR:Bool}{jQ jO:List Int}{fA:Int}{ad:List aM}:bA (vS hQ eh gU ap jR jQ jO fA ad) (dM bb 44 2 101 [1,1,1,1,0,0] (FO hQ eh gU ap jR jQ jO (fA,ad)) (FO hQ eh gU ap jR jQ jO) (MC hQ eh gU ap jR jQ jO)):=by
 unfold vS
 exact .ite (fun h1 =>
  .aZ fun o =>
  .au fun aE av =>
  .au fun aT a2 =>
  (let t1:List bX:=[(J 1),.aa true,(J 2),.az (aj 3 (an (.b4 (aO aE)) (an (br 1 (.n .i64 aT) true) (aj 1 []))))];
  have aQ:=((.d5 h1 o.1 o.2 (bU aO av) (sF aT a2) (b9.n .i64 aT)):cq _);
  .ite (fun bd =>
  .aZ fun bn =>
  .au fun eo cK =>
  .au fun dc e4 =>
  .au fun ex ew =>
  .aZ fun fS =>
  .ret (bh (t1.append [.aa true,.az (aj 5 (an (.b4 (aO eo)) (aj 4 (an (.b4 (aO aE)) (an (br 2 (.agg (aO dc)) false) (an (br 2 (.agg (aO ex)) false) (aj 1 (an .fQ [])))))))),(J 2),.aL [0,1,2] [.cL (ah 3 aO (ad.set (0+fA.toNat) ex)),.pure,.box [.id,.id,.id]] [(0,fW ((ad.set (0+fA.toNat) ex).length)),(1,ii),(7,ii),(19,ii),(20,ii)]]) (aQ.aJ (.bl bd bn.1 bn.2 (bU aO cK) o.1 o.2 (bU aO av) (NN dc e4) (.bl (CZ ex ew) bn.1 bn.2 (hE aO fS) (hs 3) (c6 3 .live (gD (cW aO ad) (0+fA.toNat) ex)) (aK 3 .live eM (ad.set (0+fA.toNat) ex)) (aK 3 .live eM ap) (.e1 (hR (dL ad) (0+fA.toNat) ex)))))))
  (fun bd =>
  .ret (bh (t1.append [.aa false,(J 2),.aL [0,1,2] [.pure,.pure,.box [.id,.id,.id]] (a8 [0,1,7,19,20])]) (aQ.aJ (.bR bd (aK 3 .live eM ad) (aK 3 .live eM ap)))))))
  (fun h1 =>
  .ret (bh [(J 1),.aa false,.aL [0,1] [.pure,.pure] []] (.bR h1 (aK 3 .live eM ad) (aK 3 .live eM ap))))
theorem UR {hQ eh:Nat}{gU:Int}{ap:List aM}{jR:Bool}{jQ jO:List Int}{fA:Int}{ad:List aM}{r} (h:Hy hQ eh gU ap jR jQ jO fA ad=some r):dN bb 44 2 101 [1,1,1,1,0,0] (FO hQ eh gU ap jR jQ jO) (MC hQ eh gU ap jR jQ jO) (fA,ad) r:=dO (fun _=>Tz) h
def zb (bz:Int)(hQ eh:Nat)(fD fe:List aM):Option (List aM) :=
 if 0≤bz∧bz<(fD.length:Nat) then
 fD[(0+bz.toNat)]? >>= fun d3 =>
 pO d3 >>= fun bi =>
 if (bi == (0:Int))=true then
  some fD
 else
  uj d3 >>= fun bI =>
  Hy hQ eh ((fD.length:Nat):Int) fe bI.fp.cO bI.fp.cC bI.hx 0 fD >>= fun bx =>
  some bx
 else none
theorem Vz {bz:Int}{hQ eh:Nat}{fD fe:List aM}:bA (zb bz hQ eh fD fe) (fun a=>Con bb 101 (RX 0 0 0 fD.length 1 0 hQ eh bz) [(ah 3 aO fD),(ah 3 aO fe)] (.dZ []) [(ah 3 aO a),(ah 3 aO fe)]):=by
 unfold zb
 exact .aZ fun h1 =>
  .au fun d3 ae =>
  .au fun bi aA =>
  (let t1:List bX:=[.az (bs 3 (.b4 (aO d3)) 2),.az (bs 1 (br 1 (.n .i64 bi) true) 1)];
  have aQ:=((.dn h1.1 h1.2 (bU aO ae) (sF bi aA) (b9.n .i64 bi)):cq _);
  .ite (fun a2 =>
  .ret (lC (t1.append [.aa true]) [0,1] [.pure,.pure] (aQ.aJ (.bR a2 (aK 3 .live eM fD) (aK 3 .live eM fe)))))
  (fun a2 =>
  .au fun bI bn =>
  .au fun bx cK =>
  .ret (lC (t1.append [.aa false,.az (bs 1 (br 1 (.agg (aO bI)) false) 2),(J 3),.aL [0,1,13] [.pure,.pure,.box [.id,.id,.id]] (a8 [0,1,7,19,20]),.sub (.exit 0) [] [(ah 3 aO bx),(ah 3 aO fe)]]) [0,1] [.pure,.pure] (aQ.aJ (.eJ a2 (NM bI bn) (aK 3 .live eM fD) (aK 3 .live eM fe) (UR cK) (aK 3 .live eM bx) (aK 3 .live eM fe))))))
def F6 (bW bz dd ee:Int)(cg:List bt)(cF:List Int)(cG:List aM)(bM:Bool)(dP gP:List Int):(Int×(List (List aM)))→S:=fun (de,cB)=>dl [(0,.ref 0 0 0 0),(1,.n .i64 bW),(2,.n .i64 bz),(6,.ref 1 0 0 0),(26,.n .i64 dd),(27,.n .i64 de)] [(ab.mk 4 [(gu ee 0 1 0 cg.length 0 2 0 cF.length 0 3 0 cG.length)] .live::ab.mk 1 (cg.map (a9 0 4 3)) .live::ab.mk 1 (cF.map eI) .live::ab.mk 3 (cG.map aO) .live::(bZ 3 aO cB)),[ab.mk 3 [[.b bM,.isl 1 (dP.map eI),.isl 1 (gP.map eI)]] .live]]
def Gk (bW bz dd ee:Int)(cg:List bt)(cF:List Int)(cG:List aM)(bM:Bool)(dP gP:List Int):(List (List aM))→dm
 | a=>⟨some 0,[(0,.ref 0 0 0 0),(1,.n .i64 bW),(2,.n .i64 bz)],[(ab.mk 4 [(gu ee 0 1 0 cg.length 0 2 0 cF.length 0 3 0 cG.length)] .live::ab.mk 1 (cg.map (a9 0 4 3)) .live::ab.mk 1 (cF.map eI) .live::ab.mk 3 (cG.map aO) .live::(bZ 3 aO a))]⟩
def v8 (bW bz dd ee:Int)(cg:List bt)(cF:List Int)(cG:List aM)(bM:Bool)(dP gP:List Int)(de:Int)(cB:List (List aM)):Option ((Int×(List (List aM)))⊕((List (List aM)))) :=
 if (decide (de<dd))=true then
  if 0≤bW∧bW<(cg.length:Nat) then
  cg[(0+bW.toNat)]? >>= fun aE =>
  aE >>= fun lE =>
  cB[lE.1]? >>= fun iD =>
  if 0≤de∧de<(lE.2:Nat) then
  iD[(0+de.toNat)]? >>= fun iU =>
  uh iU (⟨(⟨bM,dP⟩:bp),gP⟩:aM) >>= fun dT =>
  some (.inl (U (de+(1:Int)),cB.set lE.1 (iD.set (0+de.toNat) dT)))
  else none
  else none
 else
  some (.inr cB)
def H0 (bW bz dd ee:Int)(cg:List bt)(cF:List Int)(cG:List aM)(bM:Bool)(dP gP:List Int)(de:Int)(cB:List (List aM)):Option ((List (List aM))):=iter (fun w:Int×(List (List aM))=>v8 bW bz dd ee cg cF cG bM dP gP w.1 w.2) (de,cB)
theorem TM {bW bz dd ee:Int}{cg:List bt}{cF:List Int}{cG:List aM}{bM:Bool}{dP gP:List Int}{de:Int}{cB:List (List aM)}:bA (v8 bW bz dd ee cg cF cG bM dP gP de cB) (dM bb 100 1 81 [1,0,1,0,0] (F6 bW bz dd ee cg cF cG bM dP gP (de,cB)) (F6 bW bz dd ee cg cF cG bM dP gP) (Gk bW bz dd ee cg cF cG bM dP gP)):=by
 unfold v8
 exact .ite (fun h1 =>
  .aZ fun o =>
  .au fun aE av =>
  .au fun lE a2 =>
  .au fun iD bn =>
  .aZ fun cp =>
  .au fun iU eV =>
  .au fun dT ev =>
  .ret (let q1:=gu ee 0 1 0 cg.length 0 2 0 cF.length 0 3 0 cG.length;let aY:=jZ (fG .live 3 aO cB) ir bn;let bJ:=cv [0,1];bh [(J 1),.aa true,(J 2),.az (aj 6 (an (.b4 ((a9 0 4 3) aE)) (aj 7 (an (.b4 ((a9 0 4 3) aE)) (aj 1 (an (.j2 44 (.bm 0 (lE.1+4) 0 lE.2) (.gi (ab.mk 3 (iD.map aO) .live) [])) (an (.gi (ab.mk 3 (iD.map aO) .live) (aO iU)) (aj 1 (an (br 2 (.agg (aO dT)) false) (an (.j2 36 (.bm 0 (lE.1+4) 0 lE.2) (.gi (ab.mk 3 (iD.map aO) .live) [])) (an (.gi (ab.mk 3 (iD.map aO) .live) (aO iU)) []))))))))))),(J 2),.aL [0,1] [.bD (ab.mk 4 [q1] .live::ab.mk 1 (cg.map (a9 0 4 3)) .live::ab.mk 1 (cF.map eI) .live::ab.mk 3 (cG.map aO) .live::(bZ 3 aO (cB.set lE.1 (iD.set (0+de.toNat) dT)))),.box [.id,.id,.id]] (a8 [0,1,2,6,26,27])] (.bl h1 o.1 o.2 (bU (a9 0 4 3) av) o.1 o.2 (bU (a9 0 4 3) av) (l2 (dy:=0) (c:=4) (sz:=3) a2) (.bl aY cp.1 cp.2 aY (bU aO eV) (NK dT ev) (l2 (dy:=0) (c:=4) (sz:=3) a2) aY (.dn cp.1 cp.2 aY (bU aO eV) (c0 (show ab.mk 4 [q1] .live=gG bJ (ab.mk 4 [q1] .live) from rfl) (c0 (j4 bJ 0 0 4 3 rfl cg) (c0 (fY bJ 1 jh cF) (c0 (fY bJ 3 fh cG) (mj (b8:=bJ) (oZ (fG .live 3 aO cB) lE.1 (qq (cW aO iD) (0+de.toNat) dT (rfl:(setCells (aO iU) 0 (aO dT))=aO dT))) (lL fh)))))))))))
  (fun h1 =>
  .ret (let bS:=gu ee 0 1 0 cg.length 0 2 0 cF.length 0 3 0 cG.length;let cA:=cv [0];bh [(J 1),.aa false,.aL [0] [.bD (ab.mk 4 [bS] .live::ab.mk 1 (cg.map (a9 0 4 3)) .live::ab.mk 1 (cF.map eI) .live::ab.mk 3 (cG.map aO) .live::(bZ 3 aO cB))] (a8 [0,1,2])] (.aC h1 (c0 (show ab.mk 4 [bS] .live=gG cA (ab.mk 4 [bS] .live) from rfl) (c0 (j4 cA 0 0 4 3 rfl cg) (c0 (fY cA 1 jh cF) (c0 (fY cA 3 fh cG) (dt cA 3 fh cB))))))))
theorem Va {bW bz dd ee:Int}{cg:List bt}{cF:List Int}{cG:List aM}{bM:Bool}{dP gP:List Int}{de:Int}{cB:List (List aM)}{r} (h:H0 bW bz dd ee cg cF cG bM dP gP de cB=some r):dN bb 100 1 81 [1,0,1,0,0] (F6 bW bz dd ee cg cF cG bM dP gP) (Gk bW bz dd ee cg cF cG bM dP gP) (de,cB) r:=dO (fun _=>TM) h
def F7 (bW bz oA ee:Int)(cg:List bt)(cF:List Int)(cG:List aM):(Int×(List (List aM)))→S:=fun (nr,cB)=>dl [(0,.ref 0 0 0 0),(1,.n .i64 bW),(2,.n .i64 bz),(56,.n .i64 oA),(57,.n .i64 nr)] [(ab.mk 4 [(gu ee 0 1 0 cg.length 0 2 0 cF.length 0 3 0 cG.length)] .live::ab.mk 1 (cg.map (a9 0 4 3)) .live::ab.mk 1 (cF.map eI) .live::ab.mk 3 (cG.map aO) .live::(bZ 3 aO cB))]
def Gl (bW bz oA ee:Int)(cg:List bt)(cF:List Int)(cG:List aM):(List (List aM))→dm
 | a=>⟨some 2,[(0,.ref 0 0 0 0),(1,.n .i64 bW),(2,.n .i64 bz)],[(ab.mk 4 [(gu ee 0 1 0 cg.length 0 2 0 cF.length 0 3 0 cG.length)] .live::ab.mk 1 (cg.map (a9 0 4 3)) .live::ab.mk 1 (cF.map eI) .live::ab.mk 3 (cG.map aO) .live::(bZ 3 aO a))]⟩
def v9 (bW bz oA ee:Int)(cg:List bt)(cF:List Int)(cG:List aM)(nr:Int)(cB:List (List aM)):Option ((Int×(List (List aM)))⊕((List (List aM)))) :=
 if (decide (nr<oA))=true then
  if (nr != bW)=true then
   if 0≤nr∧nr<(cg.length:Nat) then
   cg[(0+nr.toNat)]? >>= fun gh =>
   if 0≤bW∧bW<(cg.length:Nat) then
   cg[(0+bW.toNat)]? >>= fun fl =>
   gh >>= fun lX =>
   fl >>= fun n6 =>
   cB[lX.1]? >>= fun li =>
   cB[n6.1]? >>= fun kg =>
   if (lX.1+4)≠(n6.1+4) then
   zg bz 0 lX.2 0 n6.2 li kg >>= fun fa =>
   some (.inl (U (nr+(1:Int)),(cB.set lX.1 fa).set n6.1 kg))
   else none
   else none
   else none
  else
   some (.inl (U (nr+(1:Int)),cB))
 else
  some (.inr cB)
def H2 (bW bz oA ee:Int)(cg:List bt)(cF:List Int)(cG:List aM)(nr:Int)(cB:List (List aM)):Option ((List (List aM))):=iter (fun w:Int×(List (List aM))=>v9 bW bz oA ee cg cF cG w.1 w.2) (nr,cB)
theorem TN {bW bz oA ee:Int}{cg:List bt}{cF:List Int}{cG:List aM}{nr:Int}{cB:List (List aM)}:bA (v9 bW bz oA ee cg cF cG nr cB) (dM bb 100 1 81 [1,1,0,1,0,0] (F7 bW bz oA ee cg cF cG (nr,cB)) (F7 bW bz oA ee cg cF cG) (Gl bW bz oA ee cg cF cG)):=by
 unfold v9
 exact .ite (fun h1 =>
  (let t1:List bX:=[(J 1),.aa true,(J 2),(J 3)];
  .ite (fun o =>
  .aZ fun ae =>
  .au fun gh aA =>
  .aZ fun a2 =>
  .au fun fl bn =>
  .au fun lX cK =>
  .au fun n6 e4 =>
  .au fun li ew =>
  .au fun kg hY =>
  .aZ fun hy =>
  .au fun fa gA =>
  .ret (let q1:=gu ee 0 1 0 cg.length 0 2 0 cF.length 0 3 0 cG.length;let aY:=cv [0];bh (t1.append [.aa true,.az (aj 6 (an (.b4 ((a9 0 4 3) gh)) (aj 6 (an (.b4 ((a9 0 4 3) fl)) (aj 1 (an (.j2 69 (.bm 0 (lX.1+4) 0 lX.2) (.j2 76 (.bm 0 (n6.1+4) 0 n6.2) (.call {a0:=[.ak 0 (lX.1+4) (ab.mk 3 (li.map aO) .live),.ak 0 (n6.1+4) (ab.mk 3 (kg.map aO) .live)],dp:=[.pure,.pure],ac:=[.bw (.dK (.at_ 0 0 lX.2)),.bw (.dK (.at_ 1 0 n6.2)),ii],r:= .dZ [],fw:=[(ah 3 aO fa),(ah 3 aO kg)],h6:=ii,ke:=[.pure,.pure],fN:=[0],fE:=false}))) [])))))),(J 2),.aL [0] [.bD (ab.mk 4 [q1] .live::ab.mk 1 (cg.map (a9 0 4 3)) .live::ab.mk 1 (cF.map eI) .live::ab.mk 3 (cG.map aO) .live::(bZ 3 aO ((cB.set lX.1 fa).set n6.1 kg)))] (a8 [0,1,2,56,57])]) (.bl h1 o ae.1 ae.2 (bU (a9 0 4 3) aA) a2.1 a2.2 (bU (a9 0 4 3) bn) (.bl (l2 (dy:=0) (c:=4) (sz:=3) cK) (l2 (dy:=0) (c:=4) (sz:=3) e4) hy (rfl:ld [.ak 0 (lX.1+4) (ab.mk 3 (li.map aO) .live),.ak 0 (n6.1+4) (ab.mk 3 (kg.map aO) .live)] 0 0=some (0,(lX.1+4))) (rfl:lX.2=lX.2) (rfl:ld [.ak 0 (lX.1+4) (ab.mk 3 (li.map aO) .live),.ak 0 (n6.1+4) (ab.mk 3 (kg.map aO) .live)] 1 0=some (0,(n6.1+4))) (rfl:n6.2=n6.2) (jZ (fG .live 3 aO cB) ir ew) (.eJ (iQ 3 eM li) (jZ (fG .live 3 aO cB) ir hY) (iQ 3 eM kg) (iQ 3 eM fa) (iQ 3 eM kg) (VR fa gA) (c0 (show ab.mk 4 [q1] .live=gG aY (ab.mk 4 [q1] .live) from rfl) (c0 (j4 aY 0 0 4 3 rfl cg) (c0 (fY aY 1 jh cF) (c0 (fY aY 3 fh cG) (mj (b8:=aY) (oZ (oZ (fG .live 3 aO cB) lX.1 (cW aO fa)) n6.1 (cW aO kg)) (lL fh)))))))))))
  (fun o =>
  .ret (let bJ:=gu ee 0 1 0 cg.length 0 2 0 cF.length 0 3 0 cG.length;let bS:=cv [0];bh (t1.append [.aa false,(J 2),.aL [0] [.bD (ab.mk 4 [bJ] .live::ab.mk 1 (cg.map (a9 0 4 3)) .live::ab.mk 1 (cF.map eI) .live::ab.mk 3 (cG.map aO) .live::(bZ 3 aO cB))] (a8 [0,1,2,56,57])]) (.bR h1 o (c0 (show ab.mk 4 [bJ] .live=gG bS (ab.mk 4 [bJ] .live) from rfl) (c0 (j4 bS 0 0 4 3 rfl cg) (c0 (fY bS 1 jh cF) (c0 (fY bS 3 fh cG) (dt bS 3 fh cB))))))))))
  (fun h1 =>
  .ret (let cA:=gu ee 0 1 0 cg.length 0 2 0 cF.length 0 3 0 cG.length;let d4:=cv [0];bh [(J 1),.aa false,.aL [0] [.bD (ab.mk 4 [cA] .live::ab.mk 1 (cg.map (a9 0 4 3)) .live::ab.mk 1 (cF.map eI) .live::ab.mk 3 (cG.map aO) .live::(bZ 3 aO cB))] (a8 [0,1,2])] (.aC h1 (c0 (show ab.mk 4 [cA] .live=gG d4 (ab.mk 4 [cA] .live) from rfl) (c0 (j4 d4 0 0 4 3 rfl cg) (c0 (fY d4 1 jh cF) (c0 (fY d4 3 fh cG) (dt d4 3 fh cB))))))))
theorem Vb {bW bz oA ee:Int}{cg:List bt}{cF:List Int}{cG:List aM}{nr:Int}{cB:List (List aM)}{r} (h:H2 bW bz oA ee cg cF cG nr cB=some r):dN bb 100 1 81 [1,1,0,1,0,0] (F7 bW bz oA ee cg cF cG) (Gl bW bz oA ee cg cF cG) (nr,cB) r:=dO (fun _=>TN) h
def zh (bW bz l7:Int)(iw:List bt)(jS:List Int)(jj:List aM)(oO:List (List aM)):Option ((List Int)×(List aM)×(List (List aM))) :=
 if 0≤bW∧bW<(iw.length:Nat) then
 iw[(0+bW.toNat)]? >>= fun d3 =>
 d3 >>= fun jE =>
 oO[jE.1]? >>= fun m0 =>
 if 0≤bz∧bz<(jE.2:Nat) then
 m0[(0+bz.toNat)]? >>= fun eo =>
 H0 bW bz ((jE.2:Nat):Int) l7 iw jS jj eo.fp.cO eo.fp.cC eo.hx 0 oO >>= fun dc =>
 H2 bW bz ((iw.length:Nat):Int) l7 iw jS jj 0 dc >>= fun ex =>
 ex[jE.1]? >>= fun kg =>
 if 3≠(jE.1+4) then
 zb bz 0 jE.2 jj kg >>= fun fa =>
 if jj.length=fa.length then
 if 0≤bW∧bW<(jS.length:Nat) then
 if (0+bW.toNat)<jS.length then
 some (jS.set (0+bW.toNat) bz,fa,ex.set jE.1 kg)
 else none
 else none
 else none
 else none
 else none
 else none
theorem VS {bW bz l7:Int}{iw:List bt}{jS:List Int}{jj:List aM}{oO:List (List aM)}:bA (zh bW bz l7 iw jS jj oO) (fun a=>Con bb 81 [.ref 0 0 0 0,.n .i64 bW,.n .i64 bz] [(ab.mk 4 [(gu l7 0 1 0 iw.length 0 2 0 jS.length 0 3 0 jj.length)] .live::ab.mk 1 (iw.map (a9 0 4 3)) .live::ab.mk 1 (jS.map eI) .live::ab.mk 3 (jj.map aO) .live::(bZ 3 aO oO))] (.dZ []) [(ab.mk 4 [(gu l7 0 1 0 iw.length 0 2 0 a.1.length 0 3 0 a.2.1.length)] .live::ab.mk 1 (iw.map (a9 0 4 3)) .live::ab.mk 1 (a.1.map eI) .live::ab.mk 3 (a.2.1.map aO) .live::(bZ 3 aO a.2.2))]):=by
 unfold zh
 exact .aZ fun h1 =>
  .au fun d3 ae =>
  .au fun jE aA =>
  .au fun m0 bd =>
  .aZ fun bn =>
  .au fun eo cK =>
  .au fun dc e4 =>
  .au fun ex ew =>
  .au fun kg hY =>
  .aZ fun hy =>
  .au fun fa gA =>
  .aZ fun fk =>
  .aZ fun gL =>
  .aZ fun iN =>
  .ret (let q1:=gu l7 0 1 0 iw.length 0 2 0 jS.length 0 3 0 jj.length;let aY:=gu l7 0 1 0 iw.length 0 2 0 ((jS.set (0+bW.toNat) bz).length) 0 3 0 fa.length;let bJ:=jZ (fG .live 3 aO oO) ir bd;let bS:=cv [0];let cA:=cv [0,11];let d4:=bU (a9 0 4 3) ae;let fP:=j4 bS 0 0 4 3 rfl iw;lC [.az (aj 6 (an (.b4 ((a9 0 4 3) d3)) (aj 1 (an (.j2 15 (.bm 0 (jE.1+4) 0 jE.2) (.gi (ab.mk 3 (m0.map aO) .live) [])) (an (.gi (ab.mk 3 (m0.map aO) .live) (aO eo)) (aj 2 [])))))),.az (aj 6 (an (.b4 ((a9 0 4 3) d3)) (an (.j2 25 (.bm 0 (jE.1+4) 0 jE.2) (.gi (ab.mk 3 (m0.map aO) .live) [])) (aj 1 [])))),.aL [0,11] [.bD (ab.mk 4 [q1] .live::ab.mk 1 (iw.map (a9 0 4 3)) .live::ab.mk 1 (jS.map eI) .live::ab.mk 3 (jj.map aO) .live::(bZ 3 aO oO)),.box [.id,.id,.id]] (a8 [0,1,2,6,26,27]),(Gk bW bz ((jE.2:Nat):Int) l7 iw jS jj eo.fp.cO eo.fp.cC eo.hx dc).fb,(J 6),.aL [0] [.bD (ab.mk 4 [q1] .live::ab.mk 1 (iw.map (a9 0 4 3)) .live::ab.mk 1 (jS.map eI) .live::ab.mk 3 (jj.map aO) .live::(bZ 3 aO dc))] (a8 [0,1,2,56,57]),(Gl bW bz ((iw.length:Nat):Int) l7 iw jS jj ex).fb,.az (aj 10 (an (.b4 ((a9 0 4 3) d3)) (aj 1 (an (.j2 90 (.bm 0 (jE.1+4) 0 jE.2) (.call {a0:=[.ak 0 3 (ab.mk 3 (jj.map aO) .live),.ak 0 (jE.1+4) (ab.mk 3 (kg.map aO) .live)],dp:=[.pure,.pure],ac:=[.bw (.dK (.at_ 0 0 jj.length)),.bw (.dK (.at_ 1 0 jE.2)),ii],r:= .dZ [],fw:=[(ah 3 aO fa),(ah 3 aO kg)],h6:=ii,ke:=[.pure,.pure],fN:=[0],fE:=false})) [])))),.az (aj 7 (an .fQ []))] [0] [.bD (ab.mk 4 [aY] .live::ab.mk 1 (iw.map (a9 0 4 3)) .live::ab.mk 1 ((jS.set (0+bW.toNat) bz).map eI) .live::ab.mk 3 (fa.map aO) .live::(bZ 3 aO (ex.set jE.1 kg)))] (.bl h1.1 h1.2 d4 (l2 (dy:=0) (c:=4) (sz:=3) aA) bJ bn.1 bn.2 bJ (.bl (bU aO cK) h1.1 h1.2 d4 (l2 (dy:=0) (c:=4) (sz:=3) aA) bJ (c0 (show ab.mk 4 [q1] .live=gG cA (ab.mk 4 [q1] .live) from rfl) (c0 (j4 cA 0 0 4 3 rfl iw) (c0 (fY cA 1 jh jS) (c0 (fY cA 3 fh jj) (dt cA 3 fh oO))))) (Va e4) (.bl (c0 (show ab.mk 4 [q1] .live=gG bS (ab.mk 4 [q1] .live) from rfl) (c0 fP (c0 (fY bS 1 jh jS) (c0 (fY bS 3 fh jj) (dt bS 3 fh dc))))) (Vb ew) h1.1 h1.2 d4 (l2 (dy:=0) (c:=4) (sz:=3) aA) hy (rfl:ld [.ak 0 3 (ab.mk 3 (jj.map aO) .live),.ak 0 (jE.1+4) (ab.mk 3 (kg.map aO) .live)] 0 0=some (0,3)) (.bl (rfl:jj.length=jj.length) (rfl:ld [.ak 0 3 (ab.mk 3 (jj.map aO) .live),.ak 0 (jE.1+4) (ab.mk 3 (kg.map aO) .live)] 1 0=some (0,(jE.1+4))) (rfl:jE.2=jE.2) (rfl:db (some (ab.mk 4 [q1] .live::ab.mk 1 (iw.map (a9 0 4 3)) .live::ab.mk 1 (jS.map eI) .live::ab.mk 3 (jj.map aO) .live::(bZ 3 aO ex))) 3=some (ab.mk 3 (jj.map aO) .live)) (iQ 3 eM jj) (jZ (fG .live 3 aO ex) ir hY) (iQ 3 eM kg) (iQ 3 eM fa) (.eJ (iQ 3 eM kg) (Vz fa gA) gL.1 gL.2 (hE eI iN) (hs 1) (c0 (show ab.mk 4 [aY] .live=gG bS (ab.mk 4 [q1] .live) from (Eq.trans (congrArg (fun Cd=>ab.mk 4 [(gu l7 0 1 0 iw.length 0 2 0 Cd 0 3 0 fa.length)] .live) (hR (dL jS) (0+bW.toNat) bz).symm) (congrArg (fun Cd=>ab.mk 4 [(gu l7 0 1 0 iw.length 0 2 0 jS.length 0 3 0 Cd)] .live) (Eq.trans (dL jj) fk).symm))) (c0 fP (c0 (qg (b8:=bS) 1 .live eI (gD (cW eI jS) (0+bW.toNat) bz) (lL jh)) (c0 (fY bS 3 fh fa) (mj (b8:=bS) (oZ (fG .live 3 aO ex) jE.1 (cW aO kg)) (lL fh))))))))))))
def GC (e7:Bool)(ee:Int)(cg:List bt)(cF:List Int)(cG:List aM)(cB:List (List aM)):(Int×Int)→S:=fun (oh,bP)=>dl [(0,.ref 0 0 0 0),(1,.b e7),(5,.n .i64 oh),(6,.n .i64 bP)] [(ab.mk 4 [(gu ee 0 1 0 cg.length 0 2 0 cF.length 0 3 0 cG.length)] .live::ab.mk 1 (cg.map (a9 0 4 3)) .live::ab.mk 1 (cF.map eI) .live::ab.mk 3 (cG.map aO) .live::(bZ 3 aO cB))]
def GX (e7:Bool)(ee:Int)(cg:List bt)(cF:List Int)(cG:List aM)(cB:List (List aM)):Int→dm
 | a=>⟨some 2,[(0,.ref 0 0 0 0),(1,.b e7),(5,.n .i64 a)],[(ab.mk 4 [(gu ee 0 1 0 cg.length 0 2 0 cF.length 0 3 0 cG.length)] .live::ab.mk 1 (cg.map (a9 0 4 3)) .live::ab.mk 1 (cF.map eI) .live::ab.mk 3 (cG.map aO) .live::(bZ 3 aO cB))]⟩
def tL (e7:Bool)(ee:Int)(cg:List bt)(cF:List Int)(cG:List aM)(cB:List (List aM))(oh bP:Int):Option ((Int×Int)⊕(Int)) :=
 if (decide (bP<ee))=true then
  if (decide (oh<(0:Int)))=true then
   if cg.all (oM cB)=true then
   zA (⟨ee,cg.map (gz cB),cF,cG⟩:pf) bP >>= fun bi =>
   if bi=true then
    some (.inl (oh,U (bP+(1:Int))))
   else
    ub (⟨ee,cg.map (gz cB),cF,cG⟩:pf) bP e7 >>= fun bI =>
    if (decide ((0:Int)<bI))=true then
     some (.inl (bP,U (bP+(1:Int))))
    else
     some (.inl (oh,U (bP+(1:Int))))
   else none
  else
   some (.inr oh)
 else
  some (.inr oh)
def CN (e7:Bool)(ee:Int)(cg:List bt)(cF:List Int)(cG:List aM)(cB:List (List aM))(oh bP:Int):Option (Int):=iter (fun w:Int×Int=>tL e7 ee cg cF cG cB w.1 w.2) (oh,bP)
theorem Ud {e7:Bool}{ee:Int}{cg:List bt}{cF:List Int}{cG:List aM}{cB:List (List aM)}{oh bP:Int}:bA (tL e7 ee cg cF cG cB oh bP) (dM bb 43 1 53 [1,0,0,0,1,0,1,0,0] (GC e7 ee cg cF cG cB (oh,bP)) (GC e7 ee cg cF cG cB) (GX e7 ee cg cF cG cB)):=by
 unfold tL
 exact .ite (fun h1 =>
  .ite (fun o =>
  .aZ fun ae =>
  .au fun bi aA =>
  (let iO:=gu ee 0 1 0 cg.length 0 2 0 cF.length 0 3 0 cG.length;let t1:List bX:=[.az (aj 9 (an (.aa true) [])),.aa true];
  have aQ:=((.bl h1 h1 h1 o (rfl:db (some (ab.mk 4 [iO] .live::ab.mk 1 (cg.map (a9 0 4 3)) .live::ab.mk 1 (cF.map eI) .live::ab.mk 3 (cG.map aO) .live::(bZ 3 aO cB))) 1=some (ab.mk 1 (cg.map (a9 0 4 3)) .live)) (rfl:_=true) (fT (a9 0 4 3) cg) (dS (l1 (sz:=3) eM) (cg.map (gz cB))) (.bl (qz (dy:=0) (ix:=[ab.mk 4 [iO] .live,ab.mk 1 (cg.map (a9 0 4 3)) .live,ab.mk 1 (cF.map eI) .live,ab.mk 3 (cG.map aO) .live]++(bZ 3 aO cB)) (bY:=i3) (sz:=1) (g:=(eL 3 aO)) (cW (a9 0 4 3) cg) (fun _=>rfl) (fun x R=>(rz (dy:=0) (c:=4) (bY:=i3) (ov:=[ab.mk 4 [iO] .live,ab.mk 1 (cg.map (a9 0 4 3)) .live,ab.mk 1 (cF.map eI) .live,ab.mk 3 (cG.map aO) .live]) (fG .live 3 aO cB) eM rfl ir rfl (rm ae x R))) (dL cg)) (gN eI cF) (fT eI cF) (dS aP cF) (gN aO cG) (fT aO cG) (dS eM cG) (qp (IZ (⟨ee,cg.map (gz cB),cF,cG⟩:pf)):jF [[.n .i64 ee,.isl 1 ((cg.map (gz cB)).map (eL 3 aO)),.isl 1 (cF.map eI),.isl 3 (cG.map aO)]]) (.aC (Wv bi aA) (b9.b bi)))):cq _);
  .ite (fun a2 =>
  .ret (let q1:=gu ee 0 1 0 cg.length 0 2 0 cF.length 0 3 0 cG.length;let aY:=cv [0];bh (t1.append [.az (aj 2 (an (.call {ac:=[.bw (.ptr [.id,.view 0 (ab.mk 1 (cg.map (a9 0 4 3)) .live) ((cg.map (gz cB)).map (eL 3 aO)),.e5 (cF.map eI),.e5 (cG.map aO)]),ii],r:= .b bi,fE:=true,fN:=[0]}) (aj 2 (cr 5 (an (.aa false) []))))),.aa false,(J 3),.aL [0] [.bD (ab.mk 4 [q1] .live::ab.mk 1 (cg.map (a9 0 4 3)) .live::ab.mk 1 (cF.map eI) .live::ab.mk 3 (cG.map aO) .live::(bZ 3 aO cB))] (a8 [0,1,5,6])]) (aQ.aJ (.gS (cY a2) (cY a2) (cY a2) (cY a2) (cY a2) (cY a2) c1 (c0 (show ab.mk 4 [q1] .live=gG aY (ab.mk 4 [q1] .live) from rfl) (c0 (j4 aY 0 0 4 3 rfl cg) (c0 (fY aY 1 jh cF) (c0 (fY aY 3 fh cG) (dt aY 3 fh cB)))))))))
  (fun a2 =>
  .au fun bI bn =>
  (let jB:=gu ee 0 1 0 cg.length 0 2 0 cF.length 0 3 0 cG.length;let mo:=eL 3 aO;let t3:List bX:=t1.append [.az (aj 2 (an (.call {ac:=[.bw (.ptr [.id,.view 0 (ab.mk 1 (cg.map (a9 0 4 3)) .live) ((cg.map (gz cB)).map mo),.e5 (cF.map eI),.e5 (cG.map aO)]),ii],r:= .b bi,fE:=true,fN:=[0]}) (aj 5 (an (.call {ac:=[.bw (.ptr [.id,.view 0 (ab.mk 1 (cg.map (a9 0 4 3)) .live) ((cg.map (gz cB)).map mo),.e5 (cF.map eI),.e5 (cG.map aO)]),ii,ii],r:= .n .i64 bI,fE:=true,fN:=[0]}) (aj 1 (an (.aa true) []))))))];
  have eR:=aQ.aJ (.bl (cU a2) (cU a2) (cU a2) (cU a2) (rfl:db (some (ab.mk 4 [jB] .live::ab.mk 1 (cg.map (a9 0 4 3)) .live::ab.mk 1 (cF.map eI) .live::ab.mk 3 (cG.map aO) .live::(bZ 3 aO cB))) 1=some (ab.mk 1 (cg.map (a9 0 4 3)) .live)) (rfl:_=true) (fT (a9 0 4 3) cg) (dS (l1 (sz:=3) eM) (cg.map (gz cB))) (.bl (qz (dy:=0) (ix:=[ab.mk 4 [jB] .live,ab.mk 1 (cg.map (a9 0 4 3)) .live,ab.mk 1 (cF.map eI) .live,ab.mk 3 (cG.map aO) .live]++(bZ 3 aO cB)) (bY:=i3) (sz:=1) (g:=mo) (cW (a9 0 4 3) cg) (fun _=>rfl) (fun x R=>(rz (dy:=0) (c:=4) (bY:=i3) (ov:=[ab.mk 4 [jB] .live,ab.mk 1 (cg.map (a9 0 4 3)) .live,ab.mk 1 (cF.map eI) .live,ab.mk 3 (cG.map aO) .live]) (fG .live 3 aO cB) eM rfl ir rfl (rm ae x R))) (dL cg)) (gN eI cF) (fT eI cF) (dS aP cF) (gN aO cG) (fT aO cG) (dS eM cG) (qp (IZ (⟨ee,cg.map (gz cB),cF,cG⟩:pf)):jF [[.n .i64 ee,.isl 1 ((cg.map (gz cB)).map mo),.isl 1 (cF.map eI),.isl 3 (cG.map aO)]]) (.c9 (WT bI bn) (b9.n .i64 bI) (cU a2) (cU a2))));
  .ite (fun cp =>
  .ret (let bJ:=gu ee 0 1 0 cg.length 0 2 0 cF.length 0 3 0 cG.length;let bS:=cv [0];bh (t3.append [.aa true,(J 2),(J 3),.aL [0] [.bD (ab.mk 4 [bJ] .live::ab.mk 1 (cg.map (a9 0 4 3)) .live::ab.mk 1 (cF.map eI) .live::ab.mk 3 (cG.map aO) .live::(bZ 3 aO cB))] (a8 [0,1,5,6])]) (eR.aJ (.aC cp (c0 (show ab.mk 4 [bJ] .live=gG bS (ab.mk 4 [bJ] .live) from rfl) (c0 (j4 bS 0 0 4 3 rfl cg) (c0 (fY bS 1 jh cF) (c0 (fY bS 3 fh cG) (dt bS 3 fh cB)))))))))
  (fun cp =>
  .ret (let cA:=gu ee 0 1 0 cg.length 0 2 0 cF.length 0 3 0 cG.length;let d4:=cv [0];bh (t3.append [.aa false,(J 3),.aL [0] [.bD (ab.mk 4 [cA] .live::ab.mk 1 (cg.map (a9 0 4 3)) .live::ab.mk 1 (cF.map eI) .live::ab.mk 3 (cG.map aO) .live::(bZ 3 aO cB))] (a8 [0,1,5,6])]) (eR.aJ (.aC cp (c0 (show ab.mk 4 [cA] .live=gG d4 (ab.mk 4 [cA] .live) from rfl) (c0 (j4 d4 0 0 4 3 rfl cg) (c0 (fY d4 1 jh cF) (c0 (fY d4 3 fh cG) (dt d4 3 fh cB)))))))))))))
  (fun o =>
  .ret (let fP:=gu ee 0 1 0 cg.length 0 2 0 cF.length 0 3 0 cG.length;let eB:=cv [0];bh [.az (aj 9 (an (.aa true) [])),.aa false,.aL [0] [.bD (ab.mk 4 [fP] .live::ab.mk 1 (cg.map (a9 0 4 3)) .live::ab.mk 1 (cF.map eI) .live::ab.mk 3 (cG.map aO) .live::(bZ 3 aO cB))] (a8 [0,1,5])] (.dn h1 h1 h1 o (c0 (show ab.mk 4 [fP] .live=gG eB (ab.mk 4 [fP] .live) from rfl) (c0 (j4 eB 0 0 4 3 rfl cg) (c0 (fY eB 1 jh cF) (c0 (fY eB 3 fh cG) (dt eB 3 fh cB)))))))))
  (fun h1 =>
  .ret (let hI:=gu ee 0 1 0 cg.length 0 2 0 cF.length 0 3 0 cG.length;let jA:=cv [0];bh [.az (aj 7 (cr 2 (an (.aa false) []))),.aa false,.aL [0] [.bD (ab.mk 4 [hI] .live::ab.mk 1 (cg.map (a9 0 4 3)) .live::ab.mk 1 (cF.map eI) .live::ab.mk 3 (cG.map aO) .live::(bZ 3 aO cB))] (a8 [0,1,5])] (.dn h1 h1 h1 c1 (c0 (show ab.mk 4 [hI] .live=gG jA (ab.mk 4 [hI] .live) from rfl) (c0 (j4 jA 0 0 4 3 rfl cg) (c0 (fY jA 1 jh cF) (c0 (fY jA 3 fh cG) (dt jA 3 fh cB))))))))
theorem VA {e7:Bool}{ee:Int}{cg:List bt}{cF:List Int}{cG:List aM}{cB:List (List aM)}{oh bP:Int}{r} (h:CN e7 ee cg cF cG cB oh bP=some r):dN bb 43 1 53 [1,0,0,0,1,0,1,0,0] (GC e7 ee cg cF cG cB) (GX e7 ee cg cF cG cB) (oh,bP) r:=dO (fun _=>Ud) h
def GD (e7:Bool)(ee:Int)(cg:List bt):((List Int)×(List aM)×(List (List aM)))→S:=fun (cF,cG,cB)=>dl [(0,.ref 0 0 0 0),(1,.b e7)] [(ab.mk 4 [(gu ee 0 1 0 cg.length 0 2 0 cF.length 0 3 0 cG.length)] .live::ab.mk 1 (cg.map (a9 0 4 3)) .live::ab.mk 1 (cF.map eI) .live::ab.mk 3 (cG.map aO) .live::(bZ 3 aO cB))]
def GY (e7:Bool)(ee:Int)(cg:List bt):(Bool×(List Int)×(List aM)×(List (List aM)))→dm
 | a=>⟨none,[(4,.b a.1)],[(ab.mk 4 [(gu ee 0 1 0 cg.length 0 2 0 a.2.1.length 0 3 0 a.2.2.1.length)] .live::ab.mk 1 (cg.map (a9 0 4 3)) .live::ab.mk 1 (a.2.1.map eI) .live::ab.mk 3 (a.2.2.1.map aO) .live::(bZ 3 aO a.2.2.2))]⟩
def y0 (e7:Bool)(ee:Int)(cg:List bt)(cF:List Int)(cG:List aM)(cB:List (List aM)):Option (((List Int)×(List aM)×(List (List aM)))⊕(Bool×(List Int)×(List aM)×(List (List aM)))) :=
 CN e7 ee cg cF cG cB (-1) 0 >>= fun r1 =>
 if (decide (r1<(0:Int)))=true then
  some (.inr (true,cF,cG,cB))
 else
  if cg.all (oM cB)=true then
  zC (⟨ee,cg.map (gz cB),cF,cG⟩:pf) r1 >>= fun aT =>
  if (decide (aT<(0:Int)))=true then
   some (.inr (false,cF,cG,cB))
  else
   zh aT r1 ee cg cF cG cB >>= fun c4 =>
   some (.inl (c4.1,c4.2.1,c4.2.2))
  else none
def IA (e7:Bool)(ee:Int)(cg:List bt)(cF:List Int)(cG:List aM)(cB:List (List aM)):Option (Bool×(List Int)×(List aM)×(List (List aM))):=iter (fun w:(List Int)×(List aM)×(List (List aM))=>y0 e7 ee cg w.1 w.2.1 w.2.2) (cF,cG,cB)
theorem Ue {e7:Bool}{ee:Int}{cg:List bt}{cF:List Int}{cG:List aM}{cB:List (List aM)}:bA (y0 e7 ee cg cF cG cB) (dM bb 43 1 53 [1,0,0] (GD e7 ee cg (cF,cG,cB)) (GD e7 ee cg) (GY e7 ee cg)):=by
 unfold y0
 exact .au fun r1 o =>
  (let jA:=gu ee 0 1 0 cg.length 0 2 0 cF.length 0 3 0 cG.length;let jB:=cv [0];let t1:List bX:=[(J 1),(J 1),.aL [0] [.bD (ab.mk 4 [jA] .live::ab.mk 1 (cg.map (a9 0 4 3)) .live::ab.mk 1 (cF.map eI) .live::ab.mk 3 (cG.map aO) .live::(bZ 3 aO cB))] (a8 [0,1,5,6]),(GX e7 ee cg cF cG cB r1).fb,(J 2)];
  have aQ:=((.aC (c0 (show ab.mk 4 [jA] .live=gG jB (ab.mk 4 [jA] .live) from rfl) (c0 (j4 jB 0 0 4 3 rfl cg) (c0 (fY jB 1 jh cF) (c0 (fY jB 3 fh cG) (dt jB 3 fh cB))))) (VA o)):cq _);
  .ite (fun ae =>
  .ret (let q1:=gu ee 0 1 0 cg.length 0 2 0 cF.length 0 3 0 cG.length;let aY:=cv [0];bh (t1.append [.aa true,(J 1),.aL [0] [.bD (ab.mk 4 [q1] .live::ab.mk 1 (cg.map (a9 0 4 3)) .live::ab.mk 1 (cF.map eI) .live::ab.mk 3 (cG.map aO) .live::(bZ 3 aO cB))] (a8 [4])]) (aQ.aJ (.aC ae (c0 (show ab.mk 4 [q1] .live=gG aY (ab.mk 4 [q1] .live) from rfl) (c0 (j4 aY 0 0 4 3 rfl cg) (c0 (fY aY 1 jh cF) (c0 (fY aY 3 fh cG) (dt aY 3 fh cB)))))))))
  (fun ae =>
  .aZ fun av =>
  .au fun aT a2 =>
  (let hI:=gu ee 0 1 0 cg.length 0 2 0 cF.length 0 3 0 cG.length;let t3:List bX:=t1.append [.aa false,.az (bs 2 (.call {ac:=[.bw (.ptr [.id,.view 0 (ab.mk 1 (cg.map (a9 0 4 3)) .live) ((cg.map (gz cB)).map (eL 3 aO)),.e5 (cF.map eI),.e5 (cG.map aO)]),ii],r:= .n .i64 aT,fE:=true,fN:=[0]}) 1),(J 2)];
  have eR:=aQ.aJ (.bl ae (rfl:db (some (ab.mk 4 [hI] .live::ab.mk 1 (cg.map (a9 0 4 3)) .live::ab.mk 1 (cF.map eI) .live::ab.mk 3 (cG.map aO) .live::(bZ 3 aO cB))) 1=some (ab.mk 1 (cg.map (a9 0 4 3)) .live)) (rfl:_=true) (fT (a9 0 4 3) cg) (dS (l1 (sz:=3) eM) (cg.map (gz cB))) (qz (dy:=0) (ix:=[ab.mk 4 [hI] .live,ab.mk 1 (cg.map (a9 0 4 3)) .live,ab.mk 1 (cF.map eI) .live,ab.mk 3 (cG.map aO) .live]++(bZ 3 aO cB)) (bY:=i3) (sz:=1) (g:=(eL 3 aO)) (cW (a9 0 4 3) cg) (fun _=>rfl) (fun x R=>(rz (dy:=0) (c:=4) (bY:=i3) (ov:=[ab.mk 4 [hI] .live,ab.mk 1 (cg.map (a9 0 4 3)) .live,ab.mk 1 (cF.map eI) .live,ab.mk 3 (cG.map aO) .live]) (fG .live 3 aO cB) eM rfl ir rfl (rm av x R))) (dL cg)) (gN eI cF) (fT eI cF) (.eJ (dS aP cF) (gN aO cG) (fT aO cG) (dS eM cG) (qp (IZ (⟨ee,cg.map (gz cB),cF,cG⟩:pf)):jF [[.n .i64 ee,.isl 1 ((cg.map (gz cB)).map (eL 3 aO)),.isl 1 (cF.map eI),.isl 3 (cG.map aO)]]) (Wx aT a2) (b9.n .i64 aT)));
  .ite (fun bd =>
  .ret (let bJ:=gu ee 0 1 0 cg.length 0 2 0 cF.length 0 3 0 cG.length;let bS:=cv [0];bh (t3.append [.aa true,(J 1),.aL [0] [.bD (ab.mk 4 [bJ] .live::ab.mk 1 (cg.map (a9 0 4 3)) .live::ab.mk 1 (cF.map eI) .live::ab.mk 3 (cG.map aO) .live::(bZ 3 aO cB))] (a8 [4])]) (eR.aJ (.aC bd (c0 (show ab.mk 4 [bJ] .live=gG bS (ab.mk 4 [bJ] .live) from rfl) (c0 (j4 bS 0 0 4 3 rfl cg) (c0 (fY bS 1 jh cF) (c0 (fY bS 3 fh cG) (dt bS 3 fh cB)))))))))
  (fun bd =>
  .au fun c4 cp =>
  .ret (let cA:=gu ee 0 1 0 cg.length 0 2 0 c4.1.length 0 3 0 c4.2.1.length;let d4:=gu ee 0 1 0 cg.length 0 2 0 cF.length 0 3 0 cG.length;let fP:=bZ 3 aO c4.2.2;let eB:=cv [0];bh (t3.append [.aa false,.az (aj 3 (an (.call {a0:=[.row 0],dp:=[.bD (ab.mk 4 [d4] .live::ab.mk 1 (cg.map (a9 0 4 3)) .live::ab.mk 1 (cF.map eI) .live::ab.mk 3 (cG.map aO) .live::(bZ 3 aO cB))],ac:=[ii,ii,ii],r:= .dZ [],fw:=[(ab.mk 4 [cA] .live::ab.mk 1 (cg.map (a9 0 4 3)) .live::ab.mk 1 (c4.1.map eI) .live::ab.mk 3 (c4.2.1.map aO) .live::fP)],h6:=ii,ke:=[.bD (ab.mk 4 [cA] .live::ab.mk 1 (cg.map (a9 0 4 3)) .live::ab.mk 1 (c4.1.map eI) .live::ab.mk 3 (c4.2.1.map aO) .live::fP)],fN:=[0],fE:=false}) [])),.aL [0] [.bD (ab.mk 4 [cA] .live::ab.mk 1 (cg.map (a9 0 4 3)) .live::ab.mk 1 (c4.1.map eI) .live::ab.mk 3 (c4.2.1.map aO) .live::fP)] (a8 [0,1])]) (eR.aJ (.eJ bd (c0 (show ab.mk 4 [d4] .live=gG (pa [0]) (ab.mk 4 [d4] .live) from rfl) (c0 (j4 (pa [0]) 0 0 4 3 rfl cg) (c0 (fY (pa [0]) 1 jh cF) (c0 (fY (pa [0]) 3 fh cG) (dt (pa [0]) 3 fh cB))))) ((jb rfl (jb rfl (jb rfl (jb rfl (re (fG .live 3 aO cB)))))):ly (ab.mk 4 [d4] .live::ab.mk 1 (cg.map (a9 0 4 3)) .live::ab.mk 1 (cF.map eI) .live::ab.mk 3 (cG.map aO) .live::(bZ 3 aO cB))) (c0 (show ab.mk 4 [cA] .live=gG (iC [0]) (ab.mk 4 [cA] .live) from rfl) (c0 (j4 (iC [0]) 0 0 4 3 rfl cg) (c0 (fY (iC [0]) 1 jh c4.1) (c0 (fY (iC [0]) 3 fh c4.2.1) (dt (iC [0]) 3 fh c4.2.2))))) ((jb rfl (jb rfl (jb rfl (jb rfl (re (fG .live 3 aO c4.2.2)))))):ly (ab.mk 4 [cA] .live::ab.mk 1 (cg.map (a9 0 4 3)) .live::ab.mk 1 (c4.1.map eI) .live::ab.mk 3 (c4.2.1.map aO) .live::fP)) (VS c4 cp) (c0 (show ab.mk 4 [cA] .live=gG eB (ab.mk 4 [cA] .live) from rfl) (c0 (j4 eB 0 0 4 3 rfl cg) (c0 (fY eB 1 jh c4.1) (c0 (fY eB 3 fh c4.2.1) (dt eB 3 fh c4.2.2))))))))))))
theorem VB {e7:Bool}{ee:Int}{cg:List bt}{cF:List Int}{cG:List aM}{cB:List (List aM)}{r} (h:IA e7 ee cg cF cG cB=some r):dN bb 43 1 53 [1,0,0] (GD e7 ee cg) (GY e7 ee cg) (cF,cG,cB) r:=dO (fun _=>Ue) h
def w7 (e7:Bool)(l7:Int)(iw:List bt)(jS:List Int)(jj:List aM)(oO:List (List aM)):Option (Bool×(List Int)×(List aM)×(List (List aM))) :=
 IA e7 l7 iw jS jj oO >>= fun r1 =>
 some (r1.1,r1.2.1,r1.2.2.1,r1.2.2.2)
theorem Wy {e7:Bool}{l7:Int}{iw:List bt}{jS:List Int}{jj:List aM}{oO:List (List aM)}:bA (w7 e7 l7 iw jS jj oO) (fun a=>Con bb 53 [.ref 0 0 0 0,.b e7] [(ab.mk 4 [(gu l7 0 1 0 iw.length 0 2 0 jS.length 0 3 0 jj.length)] .live::ab.mk 1 (iw.map (a9 0 4 3)) .live::ab.mk 1 (jS.map eI) .live::ab.mk 3 (jj.map aO) .live::(bZ 3 aO oO))] (.b a.1) [(ab.mk 4 [(gu l7 0 1 0 iw.length 0 2 0 a.2.1.length 0 3 0 a.2.2.1.length)] .live::ab.mk 1 (iw.map (a9 0 4 3)) .live::ab.mk 1 (a.2.1.map eI) .live::ab.mk 3 (a.2.2.1.map aO) .live::(bZ 3 aO a.2.2.2))]):=by
 unfold w7
 exact .au fun r1 o =>
  .ret (let q1:=gu l7 0 1 0 iw.length 0 2 0 r1.2.1.length 0 3 0 r1.2.2.1.length;let aY:=gu l7 0 1 0 iw.length 0 2 0 jS.length 0 3 0 jj.length;let bJ:=cv [0];let bS:=j4 bJ 0 0 4 3 rfl iw;lC [(J 1),.aL [0] [.bD (ab.mk 4 [aY] .live::ab.mk 1 (iw.map (a9 0 4 3)) .live::ab.mk 1 (jS.map eI) .live::ab.mk 3 (jj.map aO) .live::(bZ 3 aO oO))] (a8 [0,1]),(GY e7 l7 iw r1).fb] [0] [.bD (ab.mk 4 [q1] .live::ab.mk 1 (iw.map (a9 0 4 3)) .live::ab.mk 1 (r1.2.1.map eI) .live::ab.mk 3 (r1.2.2.1.map aO) .live::(bZ 3 aO r1.2.2.2))] (.bR (c0 (show ab.mk 4 [aY] .live=gG bJ (ab.mk 4 [aY] .live) from rfl) (c0 bS (c0 (fY bJ 1 jh jS) (c0 (fY bJ 3 fh jj) (dt bJ 3 fh oO))))) (VB o) (c0 (show ab.mk 4 [q1] .live=gG bJ (ab.mk 4 [q1] .live) from rfl) (c0 bS (c0 (fY bJ 1 jh r1.2.1) (c0 (fY bJ 3 fh r1.2.2.1) (dt bJ 3 fh r1.2.2.2)))))))
def tX (ca:hv):Option Bool :=
 zo ca >>= fun r1 =>
 if r1=true then
  zf ca >>= fun bi =>
  w7 false bi.1 bi.2.1 bi.2.2.1 bi.2.2.2.1 bi.2.2.2.2 >>= fun cf =>
  if 0≤bi.1∧bi.1<(cf.2.2.1.length:Nat) then
  cf.2.2.1[(0+bi.1.toNat)]? >>= fun eo =>
  pO eo >>= fun dc =>
  some (dc == (0:Int))
  else none
 else
  some false
theorem VC {ca:hv}:bA (tX ca) (fun r=>Con bb 37 [.agg (nP ca)] [] (.b r) []):=by
 unfold tX
 exact .au fun r1 o =>
  (let t1:List bX:=[(J 2),.az (bs 1 (br 1 (.b r1) true) 1)];
  have aQ:=((.aC (V8 r1 o) (b9.b r1)):cq _);
  .ite (fun ae =>
  .au fun bi aA =>
  .au fun cf bd =>
  .aZ fun bn =>
  .au fun eo cK =>
  .au fun dc e4 =>
  .ret (let q1:=gu bi.1 0 1 0 bi.2.1.length 0 2 0 bi.2.2.1.length 0 3 0 bi.2.2.2.1.length;let aY:=gu bi.1 6 1 0 bi.2.1.length 6 2 0 bi.2.2.1.length 6 3 0 bi.2.2.2.1.length;let bJ:=gu bi.1 0 1 0 bi.2.1.length 0 2 0 cf.2.1.length 0 3 0 cf.2.2.1.length;let bS:=bZ 3 aO bi.2.2.2.2;let cA:=gu bi.1 6 1 0 bi.2.1.length 6 2 0 cf.2.1.length 6 3 0 cf.2.2.1.length;let d4:=bZ 3 aO cf.2.2.2;let fP:=j4 (iC [6]) 6 0 4 3 rfl bi.2.1;bu (t1.append [.aa false,.az (bs 1 (.call {a0:=[],dp:=[],ac:=[ii],r:= .ref 0 0 0 0,fw:=[(ab.mk 4 [q1] .live::ab.mk 1 (bi.2.1.map (a9 0 4 3)) .live::ab.mk 1 (bi.2.2.1.map eI) .live::ab.mk 3 (bi.2.2.2.1.map aO) .live::bS)],h6:=ii,ke:=[.bD (ab.mk 4 [aY] .live::ab.mk 1 (bi.2.1.map (a9 6 4 3)) .live::ab.mk 1 (bi.2.2.1.map eI) .live::ab.mk 3 (bi.2.2.2.1.map aO) .live::bS)],fN:=[],fE:=false}) 1),.az (aj 1 (an (.call {a0:=[.row 6],dp:=[.bD (ab.mk 4 [q1] .live::ab.mk 1 (bi.2.1.map (a9 0 4 3)) .live::ab.mk 1 (bi.2.2.1.map eI) .live::ab.mk 3 (bi.2.2.2.1.map aO) .live::bS)],ac:=[ii,ii],r:= .b cf.1,fw:=[(ab.mk 4 [bJ] .live::ab.mk 1 (bi.2.1.map (a9 0 4 3)) .live::ab.mk 1 (cf.2.1.map eI) .live::ab.mk 3 (cf.2.2.1.map aO) .live::d4)],h6:=ii,ke:=[.bD (ab.mk 4 [cA] .live::ab.mk 1 (bi.2.1.map (a9 6 4 3)) .live::ab.mk 1 (cf.2.1.map eI) .live::ab.mk 3 (cf.2.2.1.map aO) .live::d4)],fN:=[6],fE:=false}) [])),.az (aj 9 (an (.b4 (aO eo)) (an (br 1 (.n .i64 dc) true) (aj 2 []))))]) (aQ.aJ (.bl (cY ae) (c0 (show ab.mk 4 [aY] .live=gG (iC [6]) (ab.mk 4 [q1] .live) from rfl) (c0 fP (c0 (fY (iC [6]) 1 jh bi.2.2.1) (c0 (fY (iC [6]) 3 fh bi.2.2.2.1) (dt (iC [6]) 3 fh bi.2.2.2.2))))) ((jb rfl (jb rfl (jb rfl (jb rfl (re (fG .live 3 aO bi.2.2.2.2)))))):ly (ab.mk 4 [q1] .live::ab.mk 1 (bi.2.1.map (a9 0 4 3)) .live::ab.mk 1 (bi.2.2.1.map eI) .live::ab.mk 3 (bi.2.2.2.1.map aO) .live::bS)) (VP bi aA) (c0 (show ab.mk 4 [q1] .live=gG (pa [6]) (ab.mk 4 [aY] .live) from rfl) (c0 (j4 (pa [6]) 0 6 4 3 rfl bi.2.1) (c0 (fY (pa [6]) 1 jh bi.2.2.1) (c0 (fY (pa [6]) 3 fh bi.2.2.2.1) (dt (pa [6]) 3 fh bi.2.2.2.2))))) ((jb rfl (jb rfl (jb rfl (jb rfl (re (fG .live 3 aO bi.2.2.2.2)))))):ly (ab.mk 4 [aY] .live::ab.mk 1 (bi.2.1.map (a9 6 4 3)) .live::ab.mk 1 (bi.2.2.1.map eI) .live::ab.mk 3 (bi.2.2.2.1.map aO) .live::bS)) (c0 (show ab.mk 4 [cA] .live=gG (iC [6]) (ab.mk 4 [bJ] .live) from rfl) (c0 fP (c0 (fY (iC [6]) 1 jh cf.2.1) (c0 (fY (iC [6]) 3 fh cf.2.2.1) (dt (iC [6]) 3 fh cf.2.2.2))))) ((jb rfl (jb rfl (jb rfl (jb rfl (re (fG .live 3 aO cf.2.2.2)))))):ly (ab.mk 4 [bJ] .live::ab.mk 1 (bi.2.1.map (a9 0 4 3)) .live::ab.mk 1 (cf.2.1.map eI) .live::ab.mk 3 (cf.2.2.1.map aO) .live::d4)) (.d5 (Wy cf bd) bn.1 bn.2 (bU aO cK) (sF dc e4) (b9.n .i64 dc))))))
  (fun ae =>
  .ret (bu (t1.append [.aa true,(J 1)]) (aQ.aJ (.e1 (cU ae))))))
def C3 (aN:cR)(dg:List Int):Option Bool :=
 xe aN dg >>= fun r1 =>
 if r1=true then
  tZ aN dg >>= fun bi =>
  tX bi >>= fun cf =>
  some cf
 else
  some false
theorem Wz {aN:cR}{dg:List Int}:bA (C3 aN dg) (fun r=>Con bb 28 [.agg (hK aN),.isl 1 (dg.map eI)] [] (.b r) []):=by
 unfold C3
 exact .au fun r1 o =>
  (have ah:=((.aC (NG r1 o) (b9.b r1)):cq _);
  .ite (fun ae =>
  .au fun bi aA =>
  .au fun cf bd =>
  .ret (bu [(J 2),.az (aj 2 (an (br 2 (.b r1) true) (aj 3 (an (br 2 (.agg (nP bi)) false) (an (br 1 (.b cf) true) (an (.aa true) (aj 1 [])))))))] (ah.aJ (.gS ae ae ae (VN bi aA) ae (VC cf bd) (b9.b cf) ae))))
  (fun ae =>
  .ret (bu [(J 2),.az (aj 2 (an (br 2 (.b r1) true) (aj 1 (cr 4 (an (.aa false) (aj 1 []))))))] (ah.aJ (.dn ae ae ae ae ae)))))
def FE (cn:List (List Int))(cZ:Int)(aF:List b0)(aD:List cc):Int→S:=fun b1=>dl [(2,.ref 0 0 0 0),(11,.isl 1 (cn.map (eL 1 eI))),(12,.n .i64 cZ),(13,.n .i64 b1)] [[ab.mk 2 [[.isl 4 (aF.map b7),.isl 3 (aD.map cl)]] .live]]
def Mz (cn:List (List Int))(cZ:Int)(aF:List b0)(aD:List cc):((Unit)⊕(Int))→dm
 | .inl a=>⟨some 0,[],[]⟩
 | .inr a=>⟨none,[(4,.n .i64 a)],[]⟩
def qk (cn:List (List Int))(cZ:Int)(aF:List b0)(aD:List cc)(b1:Int):Option ((Int)⊕((Unit)⊕(Int))) :=
 if (decide (b1<cZ))=true then
  if 0≤b1∧b1<cn.length then
  cn[b1.toNat]? >>= fun aE =>
  C3 (⟨aF,aD⟩:cR) aE >>= fun aT =>
  if aT=true then
   some (.inl (U (b1+(1:Int))))
  else
   some (.inr (.inr b1))
  else none
 else
  some (.inr (.inl ()))
def GZ (cn:List (List Int))(cZ:Int)(aF:List b0)(aD:List cc)(b1:Int):Option ((Unit)⊕(Int)):=iter (fun w:Int=>qk cn cZ aF aD w) b1
theorem Tq {cn:List (List Int)}{cZ:Int}{aF:List b0}{aD:List cc}{b1:Int}:bA (qk cn cZ aF aD b1) (dM bb 24 0 16 [1,1,0,1,0,0] (FE cn cZ aF aD b1) (FE cn cZ aF aD) (Mz cn cZ aF aD)):=by
 unfold qk
 exact .ite (fun h1 =>
  .aZ fun o =>
  .au fun aE av =>
  .au fun aT a2 =>
  (let t1:List bX:=[(J 1),.aa true,.az (bs 2 (.b4 ((eL 1 eI) aE)) 2),.az (bs 2 (br 2 (.b aT) true) 1)];
  have aQ:=((.d5 h1 o.1 (cN (eL 1 eI) o.2) (bU (eL 1 eI) av) (Wz aT a2) (b9.b aT)):cq _);
  .ite (fun bd =>
  .ret (bh (t1.append [.aa false,(J 2),.aL [0] [.box [.id,.id]] (a8 [2,11,12,13])]) (aQ.aJ (.e1 (cY bd)))))
  (fun bd =>
  .ret (bh (t1.append [.aa true,(J 2),.aL [] [] (a8 [4])]) (aQ.aJ (.e1 (cU bd)))))))
  (fun h1 =>
  .ret (bh [(J 1),.aa false,.aL [] [] []] (.e1 h1)))
theorem MD {cn:List (List Int)}{cZ:Int}{aF:List b0}{aD:List cc}{b1:Int}{r} (h:GZ cn cZ aF aD b1=some r):dN bb 24 0 16 [1,1,0,1,0,0] (FE cn cZ aF aD) (Mz cn cZ aF aD) b1 r:=dO (fun _=>Tq) h
def y9 (aN:cR)(h9:List (List Int)):Option Int :=
 sH aN h9 >>= fun r1 =>
 if r1=true then
  GZ h9 (len_ (eL 1 eI) h9) aN.b3 aN.bQ 0 >>= fun bi =>
  match bi with
  | .inl mZ=>(some (-1))
  | .inr mZ=>(some mZ)
 else
  some (-1)
theorem Vh {aN:cR}{h9:List (List Int)}:bA (y9 aN h9) (fun r=>Con bb 16 [.agg (hK aN),.isl 1 (h9.map (eL 1 eI))] [] (.n .i64 r) []):=by
 unfold y9
 exact .au fun r1 o =>
  (let t1:List bX:=[(J 2),.az (bs 2 (br 2 (.b r1) true) 1)];
  have aQ:=((.aC (Nw r1 o) (b9.b r1)):cq _);
  .ite (fun ae =>
  .au fun bi aA =>
  (let t3:List bX:=t1.append [.aa false,(J 3),.aL [0] [.box [.id,.id]] (a8 [2,11,12,13])];
  (by
  rcases bi with mZ|mZ
  ·exact (.ret (bu (t3.append [.sub (.exit 0) [] [],(J 1)]) (aQ.aJ (.aC (cY ae) (MD aA)))))
  ·exact (.ret (bu (t3.append [.sub (.ret) [(4,.n .i64 mZ)] []]) (aQ.aJ (.aC (cY ae) (MD aA))))))))
  (fun ae =>
  .ret (bu (t1.append [.aa true,(J 1)]) (aQ.aJ (.e1 (cU ae))))))
def zi (aN:cR)(h9:List (List Int)):Option Bool :=
 sH aN h9 >>= fun r1 =>
 if r1=true then
  y9 aN h9 >>= fun bi =>
  some (decide (bi<(0:Int)))
 else
  some false
theorem VT {aN:cR}{h9:List (List Int)}:bA (zi aN h9) (fun r=>Con bb 6 [.agg (hK aN),.isl 1 (h9.map (eL 1 eI))] [] (.b r) []):=by
 unfold zi
 exact .au fun r1 o =>
  (have ah:=((.aC (Nw r1 o) (b9.b r1)):cq _);
  .ite (fun ae =>
  .au fun bi aA =>
  .ret (bu [(J 2),.az (aj 2 (an (br 2 (.b r1) true) (aj 3 (an (br 2 (.n .i64 bi) true) (bs 1 (.aa true) 1)))))] (ah.aJ (.eJ ae ae ae (Vh bi aA) (b9.n .i64 bi) ae ae))))
  (fun ae =>
  .ret (bu [(J 2),.az (aj 2 (an (br 2 (.b r1) true) (aj 1 (cr 4 (an (.aa false) (aj 1 []))))))] (ah.aJ (.dn ae ae ae ae ae)))))
def zD (qU:Int):Option Bool :=
 if (decide ((97:Int)≤qU))=true then
  some (decide (qU≤(122:Int)))
 else
  some false
theorem WA {qU:Int}:bA (zD qU) (fun r=>Con bb 84 [.n .u8 qU] [] (.b r) []):=by
 unfold zD
 exact .ite (fun h1 =>
  .ret (bu [(J 1),.az (bs 5 (.aa true) 1)] (.bR h1 h1 h1)))
  (fun h1 =>
  .ret (bu [(J 1),.az (aj 3 (cr 2 (an (.aa false) (aj 1 []))))] (.bR h1 h1 h1)))
def zL (qU:Int):Option Bool :=
 if (decide ((48:Int)≤qU))=true then
  some (decide (qU≤(57:Int)))
 else
  some false
theorem WU {qU:Int}:bA (zL qU) (fun r=>Con bb 85 [.n .u8 qU] [] (.b r) []):=by
 unfold zL
 exact .ite (fun h1 =>
  .ret (bu [(J 1),.az (bs 5 (.aa true) 1)] (.bR h1 h1 h1)))
  (fun h1 =>
  .ret (bu [(J 1),.az (aj 3 (cr 2 (an (.aa false) (aj 1 []))))] (.bR h1 h1 h1)))
def Hz (aN:ByteArray)(jH:Int):Int→S:=fun gJ=>dl [(0,.s aN),(5,.n .i64 jH),(6,.n .i64 gJ)] []
def Na (aN:ByteArray)(jH:Int):((Unit)⊕(Unit))→dm
 | .inl a=>⟨some 0,[(0,.s aN)],[]⟩
 | .inr a=>⟨none,[(2,.b false)],[]⟩
def y6 (aN:ByteArray)(jH gJ:Int):Option ((Int)⊕((Unit)⊕(Unit))) :=
 if (decide (gJ<jH))=true then
  if 0≤gJ∧gJ<(aN.size:Nat) then
  zD ((aN.data.toList.getD gJ.toNat 0).toNat:Int) >>= fun bk =>
  if bk=true then
   some (.inl (U (gJ+(1:Int))))
  else
   if (gJ == (0:Int))=true then
    some (.inr (.inr ()))
   else
    zL ((aN.data.toList.getD gJ.toNat 0).toNat:Int) >>= fun bI =>
    if bI=true then
     some (.inl (U (gJ+(1:Int))))
    else
     some (.inr (.inr ()))
  else none
 else
  some (.inr (.inl ()))
def C0 (aN:ByteArray)(jH gJ:Int):Option ((Unit)⊕(Unit)):=iter (fun w:Int=>y6 aN jH w) gJ
theorem US {aN:ByteArray}{jH gJ:Int}:bA (y6 aN jH gJ) (dM bb 33 0 59 [1,0,1,0,0] (Hz aN jH gJ) (Hz aN jH) (Na aN jH)):=by
 unfold y6
 exact .ite (fun h1 =>
  .aZ fun o =>
  .au fun bk av =>
  (let t1:List bX:=[(J 1),.aa true,(J 2)];
  have aQ:=((.dn h1 o.1 o.2 (WA bk av) (b9.b bk)):cq _);
  .ite (fun aA =>
  .ret (bh (t1.append [.az (aj 3 (an (br 1 (.b bk) true) (aj 2 (cr 3 (aj 5 (cr 1 (an (.aa false) []))))))),.aa false,(J 2),.aL [] [] (a8 [0,5,6])]) (aQ.aJ (.d5 (cY aA) (cY aA) (cY aA) (cY aA) (cY aA) c1))))
  (fun aA =>
  (have fF:=aQ.aJ (.bR (cU aA) (cU aA) (cU aA));
  .ite (fun a2 =>
  .ret (bh (t1.append [.az (aj 3 (an (br 1 (.b bk) true) (aj 5 (cr 5 (an (.aa true) (an (.aa true) [])))))),.aa true,(J 1),.aL [] [] (a8 [2])]) (fF.aJ (.bl a2 a2 a2 a2 a2 (cU aA) a2 (cU aA) (.e1 cE)))))
  (fun a2 =>
  .au fun bI bn =>
  (let t4:List bX:=t1.append [.az (aj 3 (an (br 1 (.b bk) true) (aj 8 (an (br 1 (.b bI) true) (aj 1 (an (.aa false) (an (.aa true) [])))))))];
  have mg:=fF.aJ (.bl a2 a2 a2 o.1 o.2 a2 (WU bI bn) (b9.b bI) (.c9 a2 (cU aA) a2 (cU aA)));
  .ite (fun cp =>
  .ret (bh (t4.append [.aa false,(J 2),.aL [] [] (a8 [0,5,6])]) (mg.aJ (.e1 (cY cp)))))
  (fun cp =>
  .ret (bh (t4.append [.aa true,(J 1),.aL [] [] (a8 [2])]) (mg.aJ (.e1 (cU cp)))))))))))
  (fun h1 =>
  .ret (bh [(J 1),.aa false,.aL [] [] (a8 [0])] (.e1 h1)))
theorem Ig {aN:ByteArray}{jH gJ:Int}{r} (h:C0 aN jH gJ=some r):dN bb 33 0 59 [1,0,1,0,0] (Hz aN jH) (Na aN jH) gJ r:=dO (fun _=>US) h
def zW (aN:ByteArray):Option Bool :=
 C0 aN (aN.size:Int) 0 >>= fun r1 =>
 match r1 with
 | .inl di=>(if (!(aN.toList == (⟨#[]⟩:ByteArray).toList))=true then
  some (decide ((aN.size:Int)≤(8:Int)))
  else
   some false)
 | .inr di=>(some false)
theorem Xg {aN:ByteArray}:bA (zW aN) (fun r=>Con bb 59 [.s aN] [] (.b r) []):=by
 unfold zW
 exact .au fun r1 o =>
  (let t1:List bX:=[(J 1),(J 3),.aL [] [] (a8 [0,5,6])];
  (by
  rcases r1 with di|di
  ·exact ((let t2:List bX:=t1.append [.sub (.exit 0) [(0,.s aN)] []];
  .ite (fun av =>
  .ret (bu (t2.append [.az (bs 6 (.aa true) 1)]) (.dn (Ig o) av av av av)))
  (fun av =>
  .ret (bu (t2.append [.az (aj 3 (cr 3 (an (.aa false) (aj 1 []))))]) (.dn (Ig o) av av av av)))))
  ·exact (.ret (bu (t1.append [.sub (.ret) [(2,.b false)] []]) (.e1 (Ig o))))))
def xb (a3:Int):Option Bool :=
 if (decide ((-50:Int)≤a3))=true then
  some (decide (a3≤(50:Int)))
 else
  some false
theorem Ny {a3:Int}:bA (xb a3) (fun r=>Con bb 60 [.n .i64 a3] [] (.b r) []):=by
 unfold xb
 exact .ite (fun h1 =>
  .ret (bu [(J 1),.az (bs 5 (.aa true) 1)] (.bR h1 h1 h1)))
  (fun h1 =>
  .ret (bu [(J 1),.az (aj 3 (cr 2 (an (.aa false) (aj 1 []))))] (.bR h1 h1 h1)))
def zM (bP:b0):Option Bool :=
 zW bP.k9 >>= fun r1 =>
 if r1=true then
  xb bP.j5 >>= fun bi =>
  if bi=true then
   xb bP.j6 >>= fun bI =>
   some bI
  else
   some false
 else
  some false
theorem WV {bP:b0}:bA (zM bP) (fun r=>Con bb 39 [.agg (b7 bP)] [] (.b r) []):=by
 unfold zM
 exact .au fun r1 o =>
  (have ah:=((.aC (Xg r1 o) (b9.b r1)):cq _);
  .ite (fun ae =>
  .au fun bi aA =>
  (have aQ:=ah.aJ (.d5 ae ae ae (Ny bi aA) (b9.b bi) ae);
  .ite (fun a2 =>
  .au fun bI bn =>
  .ret (bu [(J 2),.az (aj 2 (an (br 1 (.b r1) true) (aj 3 (an (br 1 (.b bi) true) (an (.aa true) (aj 3 (an (br 1 (.b bI) true) (an (.aa true) (aj 1 [])))))))))] (aQ.aJ (.d5 a2 a2 a2 (Ny bI bn) (b9.b bI) a2))))
  (fun a2 =>
  .ret (bu [(J 2),.az (aj 2 (an (br 1 (.b r1) true) (aj 3 (an (br 1 (.b bi) true) (an (.aa true) (aj 1 (cr 3 (an (.aa false) (aj 1 [])))))))))] (aQ.aJ (.c9 a2 a2 a2 a2))))))
  (fun ae =>
  .ret (bu [(J 2),.az (aj 2 (an (br 1 (.b r1) true) (aj 1 (cr 3 (an (.aa false) (aj 1 (cr 3 (aj 2 []))))))))] (ah.aJ (.eJ ae ae ae ae c1 c1 c1)))))
def Ih (bP:b0)(dK:ByteArray):Option Bool :=
 some (bP.k9.toList == dK.toList)
theorem Vi {bP:b0}{dK:ByteArray}:bA (Ih bP dK) (fun r=>Con bb 62 [.agg (b7 bP),.dY 1 [[.s dK]] 0 0] [] (.b r) []):=by
 unfold Ih
 exact .ret (bu [(J 2),(J 5)] .nil)
def EZ (aN:List b0)(jT:ByteArray)(du:Int):Int→S:=fun dk=>dl [(0,.isl 4 (aN.map b7)),(1,.fn 62 [.dY 1 [[.s jT]] 0 0]),(7,.n .i64 du),(8,.n .i64 dk)] []
def Ml (aN:List b0)(jT:ByteArray)(du:Int):((Unit)⊕(Int))→dm
 | .inl a=>⟨some 0,[],[]⟩
 | .inr a=>⟨none,[(4,.n .i64 a)],[]⟩
def E0 (aN:List b0)(jT:ByteArray)(du dk:Int):Option ((Int)⊕((Unit)⊕(Int))) :=
 if (decide (dk<du))=true then
  if 0≤dk∧dk<aN.length then
  aN[dk.toNat]? >>= fun aE =>
  Ih aE jT >>= fun aT =>
  if aT=true then
   some (.inr (.inr dk))
  else
   some (.inl (U (dk+(1:Int))))
  else none
 else
  some (.inr (.inl ()))
def Cl (aN:List b0)(jT:ByteArray)(du dk:Int):Option ((Unit)⊕(Int)):=iter (fun w:Int=>E0 aN jT du w) dk
theorem SR {aN:List b0}{jT:ByteArray}{du dk:Int}:bA (E0 aN jT du dk) (dM bb 19 0 61 [1,0,1,0,0] (EZ aN jT du dk) (EZ aN jT du) (Ml aN jT du)):=by
 unfold E0
 exact .ite (fun h1 =>
  .aZ fun o =>
  .au fun aE av =>
  .au fun aT a2 =>
  (let t1:List bX:=[(J 1),.aa true,(J 2),.az (aj 4 (an (.b4 (b7 aE)) (an (br 2 (.b aT) true) [])))];
  have aQ:=((.d5 h1 o.1 (cN b7 o.2) (bU b7 av) (Vi aT a2) (b9.b aT)):cq _);
  .ite (fun bd =>
  .ret (bh (t1.append [.aa true,(J 2),.aL [] [] (a8 [4])]) (aQ.aJ (.e1 bd))))
  (fun bd =>
  .ret (bh (t1.append [.aa false,(J 2),.aL [] [] [(0,ii),(1,.comp [.dK .id]),(7,ii),(8,ii)]]) (aQ.aJ (.e1 bd))))))
  (fun h1 =>
  .ret (bh [(J 1),.aa false,.aL [] [] []] (.e1 h1)))
theorem Mn {aN:List b0}{jT:ByteArray}{du dk:Int}{r} (h:Cl aN jT du dk=some r):dN bb 19 0 61 [1,0,1,0,0] (EZ aN jT du) (Ml aN jT du) dk r:=dO (fun _=>SR) h
def Cp (aN:List b0)(oj:ByteArray):Option Int :=
 Cl aN oj (len_ b7 aN) 0 >>= fun r1 =>
 match r1 with
 | .inl di=>(some (-1))
 | .inr di=>(some di)
theorem Tb {aN:List b0}{oj:ByteArray}:bA (Cp aN oj) (fun r=>Con bb 61 [.isl 4 (aN.map b7),.fn 62 [.dY 1 [[.s oj]] 0 0]] [] (.n .i64 r) []):=by
 unfold Cp
 exact .au fun r1 o =>
  (let t1:List bX:=[(J 1),(J 3),.aL [] [] [(0,ii),(1,.comp [.dK .id]),(7,ii),(8,ii)]];
  (by
  rcases r1 with di|di
  ·exact (.ret (bu (t1.append [.sub (.exit 0) [] [],(J 1)]) (.e1 (Mn o))))
  ·exact (.ret (bu (t1.append [.sub (.ret) [(4,.n .i64 di)] []]) (.e1 (Mn o))))))
def zj (aN:cR)(kw:ByteArray):Option Int :=
 Cp aN.b3 kw >>= fun r1 =>
 some r1
theorem VU {aN:cR}{kw:ByteArray}:bA (zj aN kw) (fun r=>Con bb 40 [.agg (hK aN),.s kw] [] (.n .i64 r) []):=by
 unfold zj
 exact .au fun r1 o =>
  .ret (bu [(J 3),.az (bs 3 (.call {ac:=[ii,.comp [.ptr [.id]]],r:= .n .i64 r1,fE:=true,fN:=[1]}) 1)] (.bR (qp (PY kw):jF [[.s kw]]) (Tb r1 o) (b9.n .i64 r1)))
def yV (aN:cR)(mq:cc):Option Bool :=
 if (decide (mq.dJ<(0:Int)))=true then
  some false
 else
  if (decide ((len_ b7 aN.b3)≤mq.dJ))=true then
   some false
  else
   if (decide (mq.ej<(0:Int)))=true then
    some false
   else
    if (decide ((len_ b7 aN.b3)≤mq.ej))=true then
     some false
    else
     if (decide (mq.i5<(1:Int)))=true then
      some false
     else
      if (decide ((3:Int)<mq.i5))=true then
       some false
      else
       if 0≤mq.dJ∧mq.dJ<aN.b3.length then
       aN.b3[mq.dJ.toNat]? >>= fun mf =>
       if 0≤mq.ej∧mq.ej<aN.b3.length then
       aN.b3[mq.ej.toNat]? >>= fun py =>
       if (mf.j5 != py.j5)=true then
        if mf.k6=true then
         some (!py.k6)
        else
         some true
       else
        if (mf.j6 != py.j6)=true then
         if mf.k6=true then
          some (!py.k6)
         else
          some true
        else
         some false
       else none
       else none
theorem TO {aN:cR}{mq:cc}:bA (yV aN mq) (fun r=>Con bb 43 [.dY 2 [(hK aN)] 0 0,.agg (cl mq)] [] (.b r) []):=by
 unfold yV
 exact .ite (fun h1 =>
  .ret (bu [(J 2),(J 6),.az (aj 4 (cr 4 (an (.aa true) (aj 1 (cr 3 (aj 2 (cr 4 (aj 2 (cr 3 (aj 2 (cr 3 (aj 1 [])))))))))))),.aa true,(J 1)] (.bl h1 h1 h1 h1 h1 cE cE cE (.bl cE cE cE cE cE cE cE cE (.bR cE cE cE)))))
  (fun h1 =>
  .ite (fun o =>
  .ret (bu [(J 2),(J 6),.az (aj 8 (an (.aa false) (aj 1 (cr 3 (an (.aa true) (aj 1 (cr 4 (aj 2 (cr 3 (aj 2 (cr 3 (aj 1 [])))))))))))),.aa true,(J 1)] (.bl h1 h1 h1 h1 h1 o o o (.bl o cE cE cE cE cE cE cE (.c9 cE cE cE cE)))))
  (fun o =>
  (have ah:=((.bl h1 h1 h1 h1 h1 o o o (.e1 o)):cq _);
  .ite (fun ae =>
  .ret (bu [(J 2),(J 6),.az (aj 8 (an (.aa false) (aj 4 (an (.aa false) (aj 1 (cr 4 (an (.aa true) (aj 1 (cr 3 (aj 2 (cr 3 (aj 1 [])))))))))))),.aa true,(J 1)] (ah.aJ (.bl ae ae ae ae ae cE cE cE (.c9 cE cE cE cE)))))
  (fun ae =>
  .ite (fun av =>
  .ret (bu [(J 2),(J 6),.az (aj 8 (an (.aa false) (aj 4 (an (.aa false) (aj 5 (an (.aa false) (aj 1 (cr 3 (an (.aa true) (aj 1 (cr 3 (aj 1 [])))))))))))),.aa true,(J 1)] (ah.aJ (.bl ae ae ae ae ae av av av (.dn av cE cE cE cE)))))
  (fun av =>
  (have aQ:=ah.aJ (.bl ae ae ae ae ae av av av (.e1 av));
  .ite (fun aA =>
  .ret (bu [(J 2),(J 6),.az (aj 8 (an (.aa false) (aj 4 (an (.aa false) (aj 5 (an (.aa false) (aj 4 (an (.aa false) (aj 1 (cr 3 (an (.aa true) []))))))))))),.aa true,(J 1)] (aQ.aJ (.dn aA aA aA aA cE))))
  (fun aA =>
  (let t3:List bX:=[(J 2),(J 6),.az (aj 8 (an (.aa false) (aj 4 (an (.aa false) (aj 5 (an (.aa false) (aj 4 (an (.aa false) (aj 4 (an (.aa false) []))))))))))];
  .ite (fun a2 =>
  .ret (bu (t3.append [.aa true,(J 1)]) (aQ.aJ (.dn aA aA aA aA a2))))
  (fun a2 =>
  .aZ fun bd =>
  .au fun mf cp =>
  .aZ fun cK =>
  .au fun py e4 =>
  (let t4:List bX:=t3.append [.aa false,.az (aj 7 (an (.b4 (b7 mf)) (bs 7 (.b4 (b7 py)) 4)))];
  have mg:=aQ.aJ (.bl aA aA aA aA a2 bd.1 (cN b7 bd.2) (bU b7 cp) (.bR cK.1 (cN b7 cK.2) (bU b7 e4)));
  .ite (fun ev =>
  (have kF:=mg.aJ (.bl ev ev ev ev ev ev cE cE (.e1 cE));
  .ite (fun ew =>
  .ret (bu (t4.append [.az (aj 6 (cr 5 (an (.aa true) (bs 6 (.aa true) 3))))]) (kF.aJ (.dn ew ew cE ew cE))))
  (fun ew =>
  .ret (bu (t4.append [.az (aj 6 (cr 5 (an (.aa true) (aj 4 (cr 2 (an (.aa false) (aj 3 [])))))))]) (kF.aJ (.dn ew ew cE ew cE))))))
  (fun ev =>
  .ite (fun ew =>
  (have kF:=mg.aJ (.bl ev ev ev ev ev ev ew ew (.e1 ew));
  .ite (fun fS =>
  .ret (bu (t4.append [.az (aj 11 (an (.aa false) (aj 6 (an (.aa true) (bs 1 (.aa true) 1)))))]) (kF.aJ (.d5 fS fS ew fS ew ew))))
  (fun fS =>
  .ret (bu (t4.append [.az (aj 11 (an (.aa false) (aj 4 (cr 2 (an (.aa false) (bs 1 (.aa true) 1))))))]) (kF.aJ (.d5 fS fS ew fS ew ew))))))
  (fun ew =>
  .ret (bu (t4.append [.az (aj 11 (an (.aa false) (aj 1 (cr 3 (aj 2 (cr 2 (an (.aa false) (aj 1 []))))))))]) (mg.aJ (.bl ev ev ev ev ev ev ew ew (.c9 ew ew ew ew))))))))))))))))
def wS (mq:cc)(dK:cR):Option Bool :=
 yV dK mq >>= fun r1 =>
 some (!r1)
theorem Vc {mq:cc}{dK:cR}:bA (wS mq dK) (fun r=>Con bb 42 [.agg (cl mq),.dY 2 [(hK dK)] 0 0] [] (.b r) []):=by
 unfold wS
 exact .au fun r1 o =>
  .ret (bu [(J 2),.az (bs 1 (br 2 (.b r1) true) 2)] (.aC (TO r1 o) (b9.b r1)))
def EY (aN:List cc)(jT:List b0)(ol:List cc)(du:Int):Int→S:=fun dk=>dl [(0,.isl 3 (aN.map cl)),(1,.fn 42 [.dY 2 [[.isl 4 (jT.map b7),.isl 3 (ol.map cl)]] 0 0]),(7,.n .i64 du),(8,.n .i64 dk)] []
def Mk (aN:List cc)(jT:List b0)(ol:List cc)(du:Int):((Unit)⊕(Int))→dm
 | .inl a=>⟨some 0,[],[]⟩
 | .inr a=>⟨none,[(4,.n .i64 a)],[]⟩
def pI (aN:List cc)(jT:List b0)(ol:List cc)(du dk:Int):Option ((Int)⊕((Unit)⊕(Int))) :=
 if (decide (dk<du))=true then
  if 0≤dk∧dk<aN.length then
  aN[dk.toNat]? >>= fun aE =>
  wS aE (⟨jT,ol⟩:cR) >>= fun aT =>
  if aT=true then
   some (.inr (.inr dk))
  else
   some (.inl (U (dk+(1:Int))))
  else none
 else
  some (.inr (.inl ()))
def yN (aN:List cc)(jT:List b0)(ol:List cc)(du dk:Int):Option ((Unit)⊕(Int)):=iter (fun w:Int=>pI aN jT ol du w) dk
theorem SQ {aN:List cc}{jT:List b0}{ol:List cc}{du dk:Int}:bA (pI aN jT ol du dk) (dM bb 19 0 63 [1,0,1,0,0] (EY aN jT ol du dk) (EY aN jT ol du) (Mk aN jT ol du)):=by
 unfold pI
 exact .ite (fun h1 =>
  .aZ fun o =>
  .au fun aE av =>
  .au fun aT a2 =>
  (let t1:List bX:=[(J 1),.aa true,(J 2),.az (aj 4 (an (.b4 (cl aE)) (an (br 2 (.b aT) true) [])))];
  have aQ:=((.d5 h1 o.1 (cN cl o.2) (bU cl av) (Vc aT a2) (b9.b aT)):cq _);
  .ite (fun bd =>
  .ret (bh (t1.append [.aa true,(J 2),.aL [] [] (a8 [4])]) (aQ.aJ (.e1 bd))))
  (fun bd =>
  .ret (bh (t1.append [.aa false,(J 2),.aL [] [] [(0,ii),(1,.comp [.dK .id]),(7,ii),(8,ii)]]) (aQ.aJ (.e1 bd))))))
  (fun h1 =>
  .ret (bh [(J 1),.aa false,.aL [] [] []] (.e1 h1)))
theorem Mm {aN:List cc}{jT:List b0}{ol:List cc}{du dk:Int}{r} (h:yN aN jT ol du dk=some r):dN bb 19 0 63 [1,0,1,0,0] (EY aN jT ol du) (Mk aN jT ol du) dk r:=dO (fun _=>SQ) h
def yQ (aN:List cc)(oj:cR):Option Int :=
 yN aN oj.b3 oj.bQ (len_ cl aN) 0 >>= fun r1 =>
 match r1 with
 | .inl di=>(some (-1))
 | .inr di=>(some di)
theorem S4 {aN:List cc}{oj:cR}:bA (yQ aN oj) (fun r=>Con bb 63 [.isl 3 (aN.map cl),.fn 42 [.dY 2 [(hK oj)] 0 0]] [] (.n .i64 r) []):=by
 unfold yQ
 exact .au fun r1 o =>
  (let t1:List bX:=[(J 1),(J 3),.aL [] [] [(0,ii),(1,.comp [.dK .id]),(7,ii),(8,ii)]];
  (by
  rcases r1 with di|di
  ·exact (.ret (bu (t1.append [.sub (.exit 0) [] [],(J 1)]) (.e1 (Mm o))))
  ·exact (.ret (bu (t1.append [.sub (.ret) [(4,.n .i64 di)] []]) (.e1 (Mm o))))))
def yO (aN:List cc)(oj:cR):Option Bool :=
 yQ aN oj >>= fun r1 =>
 some (decide ((0:Int)≤r1))
theorem SZ {aN:List cc}{oj:cR}:bA (yO aN oj) (fun r=>Con bb 41 [.isl 3 (aN.map cl),.fn 42 [.dY 2 [(hK oj)] 0 0]] [] (.b r) []):=by
 unfold yO
 exact .au fun r1 o =>
  .ret (bu [(J 1),.az (bs 2 (br 2 (.n .i64 r1) true) 2)] (.aC (S4 r1 o) (b9.n .i64 r1)))
def FP (e3:List b0)(oB:Int)(aD:List cc):Int→S:=fun nV=>dl [(1,.ref 0 0 0 0),(16,.isl 4 (e3.map b7)),(17,.n .i64 oB),(18,.n .i64 nV)] [[ab.mk 2 [[.isl 4 (e3.map b7),.isl 3 (aD.map cl)]] .live]]
def F8 (e3:List b0)(oB:Int)(aD:List cc):((Unit)⊕(Unit))→dm
 | .inl a=>⟨some 0,[(1,.ref 0 0 0 0)],[[ab.mk 2 [[.isl 4 (e3.map b7),.isl 3 (aD.map cl)]] .live]]⟩
 | .inr a=>⟨none,[(2,.b false)],[]⟩
def Cu (e3:List b0)(oB:Int)(aD:List cc)(nV:Int):Option ((Int)⊕((Unit)⊕(Unit))) :=
 if (decide (nV<oB))=true then
  if 0≤nV∧nV<e3.length then
  e3[nV.toNat]? >>= fun aE =>
  zM aE >>= fun aT =>
  if aT=true then
   zj (⟨e3,aD⟩:cR) aE.k9 >>= fun c4 =>
   if (c4 != nV)=true then
    some (.inr (.inr ()))
   else
    some (.inl (U (nV+(1:Int))))
  else
   some (.inr (.inr ()))
  else none
 else
  some (.inr (.inl ()))
def CD (e3:List b0)(oB:Int)(aD:List cc)(nV:Int):Option ((Unit)⊕(Unit)):=iter (fun w:Int=>Cu e3 oB aD w) nV
theorem TA {e3:List b0}{oB:Int}{aD:List cc}{nV:Int}:bA (Cu e3 oB aD nV) (dM bb 40 0 31 [1,1,0,1,0,0] (FP e3 oB aD nV) (FP e3 oB aD) (F8 e3 oB aD)):=by
 unfold Cu
 exact .ite (fun h1 =>
  .aZ fun o =>
  .au fun aE av =>
  .au fun aT a2 =>
  (let t1:List bX:=[(J 1),.aa true,.az (bs 2 (.b4 (b7 aE)) 3)];
  have aQ:=((.d5 h1 o.1 (cN b7 o.2) (bU b7 av) (WV aT a2) (b9.b aT)):cq _);
  .ite (fun bd =>
  .au fun c4 cp =>
  (let t3:List bX:=t1.append [.az (aj 1 (an (br 1 (.b aT) true) (aj 5 (an (br 2 (.n .i64 c4) true) (aj 2 (an (.aa false) []))))))];
  have eR:=aQ.aJ (.bl (cY bd) (cY bd) (cY bd) (cY bd) (VU c4 cp) (b9.n .i64 c4) (cY bd) (cY bd) (.e1 (cY bd)));
  .ite (fun cK =>
  .ret (bh (t3.append [.aa true,(J 1),.aL [] [] (a8 [2])]) (eR.aJ (.e1 cK))))
  (fun cK =>
  .ret (bh (t3.append [.aa false,(J 2),.aL [0] [.box [.id,.id]] (a8 [1,16,17,18])]) (eR.aJ (.e1 cK))))))
  (fun bd =>
  .ret (bh (t1.append [.az (aj 1 (an (br 1 (.b aT) true) (aj 2 (cr 6 (an (.aa true) []))))),.aa true,(J 1),.aL [] [] (a8 [2])]) (aQ.aJ (.gS (cU bd) (cU bd) (cU bd) (cU bd) (cU bd) (cU bd) (cU bd) cE))))))
  (fun h1 =>
  .ret (bh [(J 1),.aa false,.aL [0] [.box [.id,.id]] (a8 [1])] (.e1 h1)))
theorem MJ {e3:List b0}{oB:Int}{aD:List cc}{nV:Int}{r} (h:CD e3 oB aD nV=some r):dN bb 40 0 31 [1,1,0,1,0,0] (FP e3 oB aD) (F8 e3 oB aD) nV r:=dO (fun _=>TA) h
def wX (aN:cR):Option Bool :=
 if (decide ((6:Int)<(len_ b7 aN.b3)))=true then
  some false
 else
  if (decide ((8:Int)<(len_ cl aN.bQ)))=true then
   some false
  else
   CD aN.b3 (len_ b7 aN.b3) aN.bQ 0 >>= fun bk =>
   match bk with
   | .inl fU=>(yO aN.bQ aN >>= fun cf =>
    some (!cf))
   | .inr fU=>(some false)
theorem VD {aN:cR}:bA (wX aN) (fun r=>Con bb 31 [.agg (hK aN)] [] (.b r) []):=by
 unfold wX
 exact .ite (fun h1 =>
  .ret (bu [(J 2),.az (aj 5 (cr 4 (an (.aa true) []))),.aa true,(J 1)] (.d5 h1 h1 h1 h1 h1 cE)))
  (fun h1 =>
  (let t1:List bX:=[(J 2),.az (aj 9 (an (.aa false) []))];
  .ite (fun o =>
  .ret (bu (t1.append [.aa true,(J 1)]) (.d5 h1 h1 h1 h1 h1 o)))
  (fun o =>
  .au fun bk av =>
  (let t2:List bX:=t1.append [.aa false,(J 4),.aL [0] [.box [.id,.id]] (a8 [1,16,17,18])];
  (by
  rcases bk with fU|fU
  ·exact (.au fun cf bd =>
  .ret (bu (t2.append [(F8 aN.b3 (len_ b7 aN.b3) aN.bQ (.inl fU)).fb,.az (bs 3 (.call {ac:=[ii,.comp [.ptr [.id,.id]]],r:= .b cf,fE:=true,fN:=[0]}) 2)]) (.bl h1 h1 h1 h1 h1 o (MJ av) (qp (CJ aN):jF [(hK aN)]) (.aC (SZ cf bd) (b9.b cf)))))
  ·exact (.ret (bu (t2.append [.sub (.ret) [(2,.b false)] []]) (.eJ h1 h1 h1 h1 h1 o (MJ av)))))))))
def zN (a3:Int):Option Bool :=
 if (decide ((-100:Int)≤a3))=true then
  some (decide (a3≤(100:Int)))
 else
  some false
theorem WW {a3:Int}:bA (zN a3) (fun r=>Con bb 46 [.n .i64 a3] [] (.b r) []):=by
 unfold zN
 exact .ite (fun h1 =>
  .ret (bu [(J 1),.az (bs 5 (.aa true) 1)] (.bR h1 h1 h1)))
  (fun h1 =>
  .ret (bu [(J 1),.az (aj 3 (cr 2 (an (.aa false) (aj 1 []))))] (.bR h1 h1 h1)))
def CQ (a3:Int):Option Bool :=
 zN a3 >>= fun r1 =>
 some (!r1)
theorem VV {a3:Int}:bA (CQ a3) (fun r=>Con bb 45 [.n .i64 a3] [] (.b r) []):=by
 unfold CQ
 exact .au fun r1 o =>
  .ret (bu [(J 1),.az (bs 1 (br 1 (.b r1) true) 2)] (.aC (WW r1 o) (b9.b r1)))
def E1 (aN:List Int)(du:Int):Int→S:=fun dk=>dl [(0,.isl 1 (aN.map eI)),(1,.fn 45 []),(7,.n .i64 du),(8,.n .i64 dk)] []
def Mo (aN:List Int)(du:Int):((Unit)⊕(Int))→dm
 | .inl a=>⟨some 0,[],[]⟩
 | .inr a=>⟨none,[(4,.n .i64 a)],[]⟩
def vx (aN:List Int)(du dk:Int):Option ((Int)⊕((Unit)⊕(Int))) :=
 if (decide (dk<du))=true then
  if 0≤dk∧dk<aN.length then
  aN[dk.toNat]? >>= fun aE =>
  CQ aE >>= fun aT =>
  if aT=true then
   some (.inr (.inr dk))
  else
   some (.inl (U (dk+(1:Int))))
  else none
 else
  some (.inr (.inl ()))
def Fg (aN:List Int)(du dk:Int):Option ((Unit)⊕(Int)):=iter (fun w:Int=>vx aN du w) dk
theorem SS {aN:List Int}{du dk:Int}:bA (vx aN du dk) (dM bb 19 0 64 [1,0,1,0,0] (E1 aN du dk) (E1 aN du) (Mo aN du)):=by
 unfold vx
 exact .ite (fun h1 =>
  .aZ fun o =>
  .au fun aE av =>
  .au fun aT a2 =>
  (let t1:List bX:=[(J 1),.aa true,(J 2),.az (aj 4 (an (.b4 (eI aE)) (an (br 1 (.b aT) true) [])))];
  have aQ:=((.d5 h1 o.1 (cN eI o.2) (bU eI av) (VV aT a2) (b9.b aT)):cq _);
  .ite (fun bd =>
  .ret (bh (t1.append [.aa true,(J 2),.aL [] [] (a8 [4])]) (aQ.aJ (.e1 bd))))
  (fun bd =>
  .ret (bh (t1.append [.aa false,(J 2),.aL [] [] (a8 [0,1,7,8])]) (aQ.aJ (.e1 bd))))))
  (fun h1 =>
  .ret (bh [(J 1),.aa false,.aL [] [] []] (.e1 h1)))
theorem Mp {aN:List Int}{du dk:Int}{r} (h:Fg aN du dk=some r):dN bb 19 0 64 [1,0,1,0,0] (E1 aN du) (Mo aN du) dk r:=dO (fun _=>SS) h
def Cr (aN:List Int):Option Int :=
 Fg aN (len_ eI aN) 0 >>= fun r1 =>
 match r1 with
 | .inl di=>(some (-1))
 | .inr di=>(some di)
theorem Tm {aN:List Int}:bA (Cr aN) (fun r=>Con bb 64 [.isl 1 (aN.map eI),.fn 45 []] [] (.n .i64 r) []):=by
 unfold Cr
 exact .au fun r1 o =>
  (let t1:List bX:=[(J 1),(J 3),.aL [] [] (a8 [0,1,7,8])];
  (by
  rcases r1 with di|di
  ·exact (.ret (bu (t1.append [.sub (.exit 0) [] [],(J 1)]) (.e1 (Mp o))))
  ·exact (.ret (bu (t1.append [.sub (.ret) [(4,.n .i64 di)] []]) (.e1 (Mp o))))))
def Cm (aN:List Int):Option Bool :=
 Cr aN >>= fun r1 =>
 some (decide ((0:Int)≤r1))
theorem S5 {aN:List Int}:bA (Cm aN) (fun r=>Con bb 44 [.isl 1 (aN.map eI),.fn 45 []] [] (.b r) []):=by
 unfold Cm
 exact .au fun r1 o =>
  .ret (bu [(J 1),.az (bs 2 (br 2 (.n .i64 r1) true) 2)] (.aC (Tm r1 o) (b9.n .i64 r1)))
def zE (aN:cR)(dg:List Int):Option Bool :=
 if ((len_ eI dg) == (U ((2:Int)*(len_ b7 aN.b3))))=true then
  Cm dg >>= fun b5 =>
  some (!b5)
 else
  some false
theorem WB {aN:cR}{dg:List Int}:bA (zE aN dg) (fun r=>Con bb 32 [.dY 2 [(hK aN)] 0 0,.isl 1 (dg.map eI)] [] (.b r) []):=by
 unfold zE
 exact .ite (fun h1 =>
  .au fun b5 ae =>
  .ret (bu [(J 1),.az (aj 11 (an (br 2 (.b b5) true) (bs 1 (.aa true) 1)))] (.d5 h1 h1 (S5 b5 ae) (b9.b b5) h1 h1)))
  (fun h1 =>
  .ret (bu [(J 1),.az (aj 10 (cr 3 (an (.aa false) (aj 1 []))))] (.c9 h1 h1 h1 h1)))
def G0 (d6:List b0)(dA:List cc)(fo:List (List Int))(gw:Int):Int→S:=fun ha=>dl [(0,.dY 2 [[.isl 4 (d6.map b7),.isl 3 (dA.map cl)]] 0 0),(22,.isl 1 (fo.map (eL 1 eI))),(23,.n .i64 gw),(24,.n .i64 ha)] []
def MZ (d6:List b0)(dA:List cc)(fo:List (List Int))(gw:Int):((Unit)⊕(Unit))→dm
 | .inl a=>⟨some 0,[],[]⟩
 | .inr a=>⟨none,[(4,.b false)],[]⟩
def wv (d6:List b0)(dA:List cc)(fo:List (List Int))(gw ha:Int):Option ((Int)⊕((Unit)⊕(Unit))) :=
 if (decide (ha<gw))=true then
  if 0≤ha∧ha<fo.length then
  fo[ha.toNat]? >>= fun aE =>
  zE (⟨d6,dA⟩:cR) aE >>= fun aT =>
  if aT=true then
   some (.inl (U (ha+(1:Int))))
  else
   some (.inr (.inr ()))
  else none
 else
  some (.inr (.inl ()))
def IQ (d6:List b0)(dA:List cc)(fo:List (List Int))(gw ha:Int):Option ((Unit)⊕(Unit)):=iter (fun w:Int=>wv d6 dA fo gw w) ha
theorem Up {d6:List b0}{dA:List cc}{fo:List (List Int)}{gw ha:Int}:bA (wv d6 dA fo gw ha) (dM bb 33 0 20 [1,1,0,1,0,0] (G0 d6 dA fo gw ha) (G0 d6 dA fo gw) (MZ d6 dA fo gw)):=by
 unfold wv
 exact .ite (fun h1 =>
  .aZ fun o =>
  .au fun aE av =>
  .au fun aT a2 =>
  (let t1:List bX:=[(J 1),.aa true,.az (bs 1 (.b4 ((eL 1 eI) aE)) 1),.az (bs 2 (br 2 (.b aT) true) 1)];
  have aQ:=((.d5 h1 o.1 (cN (eL 1 eI) o.2) (bU (eL 1 eI) av) (WB aT a2) (b9.b aT)):cq _);
  .ite (fun bd =>
  .ret (bh (t1.append [.aa false,(J 2),.aL [] [] (a8 [0,22,23,24])]) (aQ.aJ (.e1 (cY bd)))))
  (fun bd =>
  .ret (bh (t1.append [.aa true,(J 1),.aL [] [] (a8 [4])]) (aQ.aJ (.e1 (cU bd)))))))
  (fun h1 =>
  .ret (bh [(J 1),.aa false,.aL [] [] []] (.e1 h1)))
theorem Nb {d6:List b0}{dA:List cc}{fo:List (List Int)}{gw ha:Int}{r} (h:IQ d6 dA fo gw ha=some r):dN bb 33 0 20 [1,1,0,1,0,0] (G0 d6 dA fo gw) (MZ d6 dA fo gw) ha r:=dO (fun _=>Up) h
def xc (aN:cR)(h9:List (List Int)):Option Bool :=
 if (decide ((len_ (eL 1 eI) h9)<(1:Int)))=true then
  some false
 else
  if (decide ((6:Int)<(len_ (eL 1 eI) h9)))=true then
   some false
  else
   wX aN >>= fun bk =>
   if bk=true then
    IQ aN.b3 aN.bQ h9 (len_ (eL 1 eI) h9) 0 >>= fun cf =>
    match cf with
    | .inl k1=>(some true)
    | .inr k1=>(some false)
   else
    some false
theorem WX {aN:cR}{h9:List (List Int)}:bA (xc aN h9) (fun r=>Con bb 20 [.dY 2 [(hK aN)] 0 0,.isl 1 (h9.map (eL 1 eI))] [] (.b r) []):=by
 unfold xc
 exact .ite (fun h1 =>
  .ret (bu [(J 1),.az (aj 4 (cr 3 (an (.aa true) (aj 1 (cr 5 (aj 1 [])))))),.aa true,(J 1)] (.bl h1 h1 h1 h1 cE cE cE cE (.aC cE cE))))
  (fun h1 =>
  .ite (fun o =>
  .ret (bu [(J 1),.az (aj 7 (an (.aa false) (aj 1 (cr 5 (an (.aa true) []))))),.aa true,(J 1)] (.bl h1 h1 h1 h1 o o o o (.bR o o cE))))
  (fun o =>
  .au fun bk av =>
  (let t1:List bX:=[(J 1),.az (aj 7 (an (.aa false) (aj 4 (an (br 1 (.b bk) true) (aj 1 (an (.aa false) []))))))];
  have aQ:=((.bl h1 h1 h1 h1 o o o o (.c9 (VD bk av) (b9.b bk) o o)):cq _);
  .ite (fun aA =>
  .au fun cf bd =>
  (let t3:List bX:=t1.append [.aa false,(J 3),.aL [] [] (a8 [0,22,23,24])];
  (by
  rcases cf with k1|k1
  ·exact (.ret (bu (t3.append [.sub (.exit 0) [] [],(J 1)]) (aQ.aJ (.aC (cY aA) (Nb bd)))))
  ·exact (.ret (bu (t3.append [.sub (.ret) [(4,.b false)] []]) (aQ.aJ (.aC (cY aA) (Nb bd))))))))
  (fun aA =>
  .ret (bu (t1.append [.aa true,(J 1)]) (aQ.aJ (.e1 (cU aA))))))))
def Fa (d9:List b0)(c2:Int):(Int×(List Int))→S:=fun (cn,ad)=>dl [(3,.bm 0 0 0 ad.length),(9,.isl 4 (d9.map b7)),(10,.n .i64 c2),(11,.n .i64 cn)] [(ah 1 eI ad)]
def Mr (d9:List b0)(c2:Int):(List Int)→dm
 | a=>⟨some 0,[(3,.bm 0 0 0 a.length)],[(ah 1 eI a)]⟩
def yP (d9:List b0)(c2 cn:Int)(ad:List Int):Option ((Int×(List Int))⊕((List Int))) :=
 if (decide (cn<c2))=true then
  if 0≤cn∧cn<d9.length then
  d9[cn.toNat]? >>= fun aE =>
  if aE.k6=true then
   some (.inl (U (cn+(1:Int)),ad))
  else
   if (ad++([cn]:List Int)).length*8≤140737488355328 then
   some (.inl (U (cn+(1:Int)),ad++([cn]:List Int)))
   else none
  else none
 else
  some (.inr ad)
def Fp (d9:List b0)(c2 cn:Int)(ad:List Int):Option ((List Int)):=iter (fun w:Int×(List Int)=>yP d9 c2 w.1 w.2) (cn,ad)
theorem S0 {d9:List b0}{c2 cn:Int}{ad:List Int}:bA (yP d9 c2 cn ad) (dM bb 25 0 67 [1,1,0,1,0,0] (Fa d9 c2 (cn,ad)) (Fa d9 c2) (Mr d9 c2)):=by
 unfold yP
 exact .ite (fun h1 =>
  .aZ fun o =>
  .au fun aE av =>
  (let t1:List bX:=[(J 1),.aa true,.az (bs 2 (.b4 (b7 aE)) 3),(J 3)];
  have aQ:=((.c9 h1 o.1 (cN b7 o.2) (bU b7 av)):cq _);
  .ite (fun aA =>
  .ret (bh (t1.append [.aa false,(J 2),.aL [0] [.pure] (a8 [3,9,10,11])]) (aQ.aJ (.aC (cY aA) (aK 1 .live aP ad)))))
  (fun aA =>
  .aZ fun a2 =>
  .ret (let q1:=(ad++([cn]:List Int));bh (t1.append [.aa true,.az (bs 3 (.aJ (q1.length)) 1),(J 2),.aL [14] [.cL (ah 1 eI q1)] (a8 [3,9,10,11])]) (aQ.aJ (.eJ (cU aA) (gZ eI cn) (hk eI ad) (gO eI ad cn) a2 (c6 1 .live (ht eI ad cn)) (aK 1 .live aP q1)))))))
  (fun h1 =>
  .ret (bh [(J 1),.aa false,.aL [0] [.pure] (a8 [3])] (.aC h1 (aK 1 .live aP ad))))
theorem Te {d9:List b0}{c2 cn:Int}{ad:List Int}{r} (h:Fp d9 c2 cn ad=some r):dN bb 25 0 67 [1,1,0,1,0,0] (Fa d9 c2) (Mr d9 c2) (cn,ad) r:=dO (fun _=>S0) h
def vN (aN:cR):Option (List Int) :=
 Fp aN.b3 (len_ b7 aN.b3) 0 ([]:List Int) >>= fun r1 =>
 some r1
theorem Mw {aN:cR}:bA (vN aN) (fun r=>Con bb 67 [.dY 2 [(hK aN)] 0 0] [] (.isl 1 (r.map eI)) []):=by
 unfold vN
 exact .au fun r1 o =>
  .ret (bu [(J 1),(J 1),(J 6),.s7 3 1,.aL [8] [.cL (ah 1 eI ([]:List Int))] [(3,fW (([]:List Int).length)),(9,ii),(10,ii),(11,ii)],.sub (.exit 0) [(3,.bm 0 0 0 r1.length)] [(ah 1 eI r1)],(J 2)] (.eJ (c6 1 .live (pE eI)) (aK 1 .live aP ([]:List Int)) (fH Int) (Te o) (gN eI r1) (fT eI r1) (dS aP r1)) (.bw (.dK (.e5 (r1.map eI)))))
def tM (aN:cR)(bz:Int):Option (Int×Int) :=
 if 0≤bz∧bz<aN.bQ.length then
 aN.bQ[bz.toNat]? >>= fun d3 =>
 if 0≤d3.ej∧d3.ej<aN.b3.length then
 aN.b3[d3.ej.toNat]? >>= fun kt =>
 if 0≤d3.dJ∧d3.dJ<aN.b3.length then
 aN.b3[d3.dJ.toNat]? >>= fun mf =>
 some (U (kt.j5-mf.j5),U (kt.j6-mf.j6))
 else none
 else none
 else none
theorem Uf {aN:cR}{bz:Int}:bA (tM aN bz) (fun r=>Con bb 86 [.dY 2 [(hK aN)] 0 0,.n .i64 bz] [] (.dZ [.n .i64 r.1,.n .i64 r.2]) []):=by
 unfold tM
 exact .aZ fun h1 =>
  .au fun d3 ae =>
  .aZ fun av =>
  .au fun kt a2 =>
  .aZ fun bd =>
  .au fun mf cp =>
  .ret (bu [(J 2),.az (bs 6 (.b4 (cl d3)) 2),.az (aj 8 (an (.b4 (b7 kt)) (aj 8 (an (.b4 (b7 mf)) (aj 9 (an (.b4 (b7 kt)) (bs 8 (.b4 (b7 mf)) 3)))))))] (.bl h1.1 (cN cl h1.2) (bU cl ae) av.1 (cN b7 av.2) (bU b7 a2) bd.1 (cN b7 bd.2) (.eJ (bU b7 cp) av.1 (cN b7 av.2) (bU b7 a2) bd.1 (cN b7 bd.2) (bU b7 cp))))
def E5 (d6:List b0)(dA:List cc)(bP:Int)(b1:List Int)(ch eN df:Int)(ad:List (List Int)):(Int×(List Int)×(List Int))→S:=fun (gq,ap,aG)=>dl [(0,.dY 2 [[.isl 4 (d6.map b7),.isl 3 (dA.map cl)]] 0 0),(3,.bm 0 0 0 ad.length),(5,.n .i64 bP),(6,.bm 1 0 0 ap.length),(7,.bm 2 0 0 aG.length),(13,.isl 1 (b1.map eI)),(14,.n .i64 ch),(15,.n .i64 eN),(34,.isl 3 (dA.map cl)),(35,.n .i64 df),(36,.n .i64 gq)] [(ah 1 (eL 1 eI) ad),(ah 1 eI ap),(ah 1 eI aG)]
def Fb (d6:List b0)(dA:List cc)(bP:Int)(b1:List Int)(ch eN df:Int)(ad:List (List Int)):((List Int)×(List Int))→dm
 | a=>⟨some 2,[(0,.dY 2 [[.isl 4 (d6.map b7),.isl 3 (dA.map cl)]] 0 0),(3,.bm 0 0 0 ad.length),(6,.bm 1 0 0 a.1.length),(7,.bm 2 0 0 a.2.length),(13,.isl 1 (b1.map eI)),(14,.n .i64 ch),(15,.n .i64 eN)],[(ah 1 (eL 1 eI) ad),(ah 1 eI a.1),(ah 1 eI a.2)]⟩
def vB (d6:List b0)(dA:List cc)(bP:Int)(b1:List Int)(ch eN df:Int)(ad:List (List Int))(gq:Int)(ap aG:List Int):Option ((Int×(List Int)×(List Int))⊕((List Int)×(List Int))) :=
 if (decide (gq<df))=true then
  if 0≤gq∧gq<dA.length then
  dA[gq.toNat]? >>= fun aE =>
  tM (⟨d6,dA⟩:cR) gq >>= fun aT =>
  if (bP == aE.dJ)=true then
   if 0≤gq∧gq<(ap.length:Nat) then
   if (0+gq.toNat)<ap.length then
   if 0≤gq∧gq<(aG.length:Nat) then
   if (0+gq.toNat)<aG.length then
   some (.inl (U (gq+(1:Int)),ap.set (0+gq.toNat) aT.1,aG.set (0+gq.toNat) aT.2))
   else none
   else none
   else none
   else none
  else
   if (bP == aE.ej)=true then
    if 0≤gq∧gq<(ap.length:Nat) then
    if (0+gq.toNat)<ap.length then
    if 0≤gq∧gq<(aG.length:Nat) then
    if (0+gq.toNat)<aG.length then
    some (.inl (U (gq+(1:Int)),ap.set (0+gq.toNat) (U (0-aT.1)),aG.set (0+gq.toNat) (U (0-aT.2))))
    else none
    else none
    else none
    else none
   else
    some (.inl (U (gq+(1:Int)),ap,aG))
  else none
 else
  some (.inr (ap,aG))
def Cq (d6:List b0)(dA:List cc)(bP:Int)(b1:List Int)(ch eN df:Int)(ad:List (List Int))(gq:Int)(ap aG:List Int):Option ((List Int)×(List Int)):=iter (fun w:Int×(List Int)×(List Int)=>vB d6 dA bP b1 ch eN df ad w.1 w.2.1 w.2.2) (gq,ap,aG)
theorem SX {d6:List b0}{dA:List cc}{bP:Int}{b1:List Int}{ch eN df:Int}{ad:List (List Int)}{gq:Int}{ap aG:List Int}:bA (vB d6 dA bP b1 ch eN df ad gq ap aG) (dM bb 82 0 65 [1,1,0,1,0,0,1,1,0,0,1,1,0,1,0,0] (E5 d6 dA bP b1 ch eN df ad (gq,ap,aG)) (E5 d6 dA bP b1 ch eN df ad) (Fb d6 dA bP b1 ch eN df ad)):=by
 unfold vB
 exact .ite (fun h1 =>
  .aZ fun o =>
  .au fun aE av =>
  .au fun aT a2 =>
  (let t1:List bX:=[(J 1),.aa true,.az (bs 2 (.b4 (cl aE)) 3),.az (bs 2 (br 2 (.dZ [.n .i64 aT.1,.n .i64 aT.2]) true) 5),(J 1),(J 4)];
  have aQ:=((.d5 h1 o.1 (cN cl o.2) (bU cl av) (Uf aT a2) (DS (oY (b9.n .i64 aT.1) (oY (b9.n .i64 aT.2) uD)))):cq _);
  .ite (fun bd =>
  .aZ fun bn =>
  .aZ fun cp =>
  .aZ fun cK =>
  .aZ fun eV =>
  .ret (bh (t1.append [.aa true,.az (aj 7 (an .fQ (aj 1 (an .fQ [])))),(J 2),.aL [0,1,2] [.pure,.cL (ah 1 eI (ap.set (0+gq.toNat) aT.1)),.cL (ah 1 eI (aG.set (0+gq.toNat) aT.2))] [(0,ii),(3,ii),(5,ii),(6,fW ((ap.set (0+gq.toNat) aT.1).length)),(7,fW ((aG.set (0+gq.toNat) aT.2).length)),(13,ii),(14,ii),(15,ii),(34,ii),(35,ii),(36,ii)]]) (aQ.aJ (.bl bd bn.1 bn.2 (hE eI cp) (hs 1) cK.1 cK.2 (hE eI eV) (.gS (hs 1) (aK 1 .live (l1 (sz:=1) aP) ad) (c6 1 .live (gD (cW eI ap) (0+gq.toNat) aT.1)) (aK 1 .live aP (ap.set (0+gq.toNat) aT.1)) (c6 1 .live (gD (cW eI aG) (0+gq.toNat) aT.2)) (aK 1 .live aP (aG.set (0+gq.toNat) aT.2)) (hR (dL ap) (0+gq.toNat) aT.1) (hR (dL aG) (0+gq.toNat) aT.2))))))
  (fun bd =>
  .ite (fun bn =>
  .aZ fun cp =>
  .aZ fun cK =>
  .aZ fun eV =>
  .aZ fun e4 =>
  .ret (let q1:=U (0-aT.1);let aY:=U (0-aT.2);bh (t1.append [.aa false,(J 4),.aa true,.az (aj 9 (an .fQ (aj 1 (an .fQ [])))),(J 2),.aL [0,1,2] [.pure,.cL (ah 1 eI (ap.set (0+gq.toNat) q1)),.cL (ah 1 eI (aG.set (0+gq.toNat) aY))] [(0,ii),(3,ii),(5,ii),(6,fW ((ap.set (0+gq.toNat) q1).length)),(7,fW ((aG.set (0+gq.toNat) aY).length)),(13,ii),(14,ii),(15,ii),(34,ii),(35,ii),(36,ii)]]) (aQ.aJ (.bl bd bn cp.1 cp.2 (hE eI cK) (hs 1) eV.1 eV.2 (.bl (hE eI e4) (hs 1) (aK 1 .live (l1 (sz:=1) aP) ad) (c6 1 .live (gD (cW eI ap) (0+gq.toNat) q1)) (aK 1 .live aP (ap.set (0+gq.toNat) q1)) (c6 1 .live (gD (cW eI aG) (0+gq.toNat) aY)) (aK 1 .live aP (aG.set (0+gq.toNat) aY)) (hR (dL ap) (0+gq.toNat) q1) (.e1 (hR (dL aG) (0+gq.toNat) aY)))))))
  (fun bn =>
  .ret (bh (t1.append [.aa false,(J 4),.aa false,(J 2),.aL [0,1,2] [.pure,.pure,.pure] (a8 [0,3,5,6,7,13,14,15,34,35,36])]) (aQ.aJ (.dn bd bn (aK 1 .live (l1 (sz:=1) aP) ad) (aK 1 .live aP ap) (aK 1 .live aP aG))))))))
  (fun h1 =>
  .ret (bh [(J 1),.aa false,.aL [0,1,2] [.pure,.pure,.pure] (a8 [0,3,6,7,13,14,15])] (.c9 h1 (aK 1 .live (l1 (sz:=1) aP) ad) (aK 1 .live aP ap) (aK 1 .live aP aG))))
theorem Tc {d6:List b0}{dA:List cc}{bP:Int}{b1:List Int}{ch eN df:Int}{ad:List (List Int)}{gq:Int}{ap aG:List Int}{r} (h:Cq d6 dA bP b1 ch eN df ad gq ap aG=some r):dN bb 82 0 65 [1,1,0,1,0,0,1,1,0,0,1,1,0,1,0,0] (E5 d6 dA bP b1 ch eN df ad) (Fb d6 dA bP b1 ch eN df ad) (gq,ap,aG) r:=dO (fun _=>SX) h
def E6 (d6:List b0)(dA:List cc)(b1:List Int)(ch:Int):(Int×(List (List Int)))→S:=fun (eN,ad)=>dl [(0,.dY 2 [[.isl 4 (d6.map b7),.isl 3 (dA.map cl)]] 0 0),(3,.bm 0 0 0 ad.length),(13,.isl 1 (b1.map eI)),(14,.n .i64 ch),(15,.n .i64 eN)] [(ah 1 (eL 1 eI) ad)]
def Mq (d6:List b0)(dA:List cc)(b1:List Int)(ch:Int):(List (List Int))→dm
 | a=>⟨some 0,[(3,.bm 0 0 0 a.length)],[(ah 1 (eL 1 eI) a)]⟩
def vC (d6:List b0)(dA:List cc)(b1:List Int)(ch eN:Int)(ad:List (List Int)):Option ((Int×(List (List Int)))⊕((List (List Int)))) :=
 if (decide (eN<ch))=true then
  if 0≤eN∧eN<b1.length then
  b1[eN.toNat]? >>= fun aE =>
  if 0≤(len_ cl dA)∧(8:Int)*(len_ cl dA)≤281474976710656∧(len_ cl dA)<9223372036854775808 then
  Cq d6 dA aE b1 ch eN (len_ cl dA) ad 0 (List.replicate (len_ cl dA).toNat 0:List Int) (List.replicate (len_ cl dA).toNat 0:List Int) >>= fun cf =>
  if (ad++([cf.1,cf.2]:List (List Int))).length*24≤140737488355328 then
  some (.inl (U (eN+(1:Int)),ad++([cf.1,cf.2]:List (List Int))))
  else none
  else none
  else none
 else
  some (.inr ad)
def Fo (d6:List b0)(dA:List cc)(b1:List Int)(ch eN:Int)(ad:List (List Int)):Option ((List (List Int))):=iter (fun w:Int×(List (List Int))=>vC d6 dA b1 ch w.1 w.2) (eN,ad)
theorem SY {d6:List b0}{dA:List cc}{b1:List Int}{ch eN:Int}{ad:List (List Int)}:bA (vC d6 dA b1 ch eN ad) (dM bb 82 0 65 [1,1,0,1,0,0] (E6 d6 dA b1 ch (eN,ad)) (E6 d6 dA b1 ch) (Mq d6 dA b1 ch)):=by
 unfold vC
 exact .ite (fun h1 =>
  .aZ fun o =>
  .au fun aE av =>
  .aZ fun aA =>
  .au fun cf bd =>
  .aZ fun bn =>
  .ret (let aY:=(ad++([cf.1,cf.2]:List (List Int)));let bJ:=len_ cl dA;let q1:=(List.replicate bJ.toNat 0:List Int);let bS:=l1 (sz:=1) aP;let cA:=c6 1 .live (lu eI bJ.toNat 0);bh [(J 1),.aa true,.az (bs 1 (.b4 (eI aE)) 1),(J 14),(J 6),.aL [0,10,16] [.pure,.cL (ah 1 eI q1),.cL (ah 1 eI q1)] [(0,ii),(3,ii),(5,ii),(6,fW (q1.length)),(7,fW (q1.length)),(13,ii),(14,ii),(15,ii),(34,ii),(35,ii),(36,ii)],(Fb d6 dA aE b1 ch eN bJ ad cf).fb,.aL [0] [.pure] [(0,ii),(3,ii),(6,.bw (.dK (.e5 (cf.1.map eI)))),(7,.bw (.dK (.e5 (cf.2.map eI)))),(13,ii),(14,ii),(15,ii)],.az (bs 4 (.aJ (aY.length)) 1),(J 2),.aL [5] [.cL (ah 1 (eL 1 eI) aY)] (a8 [0,3,13,14,15])] (.bl h1 o.1 (cN eI o.2) (bU eI av) aA.1 (Int.le_refl bJ) aA.2.1 aA.2.2 (.bl aA.1 (Int.le_refl bJ) aA.2.1 aA.2.2 (aK 1 .live bS ad) cA (aK 1 .live aP q1) cA (.bl (aK 1 .live aP q1) (lH bJ.toNat (0:Int)) (lH bJ.toNat (0:Int)) (Tc bd) (aK 1 .live bS ad) (gN eI cf.1) (fT eI cf.1) (dS aP cf.1) (.bl (gN eI cf.2) (fT eI cf.2) (dS aP cf.2) (lG (show [[.isl 1 (cf.1.map eI)],[.isl 1 (cf.2.map eI)]]=(([cf.1,cf.2]:List (List Int))).map (eL 1 eI) from rfl) (show 2=([cf.1,cf.2]:List (List Int)).length from rfl)) (hk (eL 1 eI) ad) (mE (dL ad) (nQ (show [[.isl 1 (cf.1.map eI)],[.isl 1 (cf.2.map eI)]]=(([cf.1,cf.2]:List (List Int))).map (eL 1 eI) from rfl) (show 2=([cf.1,cf.2]:List (List Int)).length from rfl)):aY.length=ad.length+(([[.isl 1 (cf.1.map eI)],[.isl 1 (cf.2.map eI)]].drop 0).take 2).length) bn (c6 1 .live (jc (cW (eL 1 eI) ad) (dL ad) (nQ (show [[.isl 1 (cf.1.map eI)],[.isl 1 (cf.2.map eI)]]=(([cf.1,cf.2]:List (List Int))).map (eL 1 eI) from rfl) (show 2=([cf.1,cf.2]:List (List Int)).length from rfl)))) (.e1 (aK 1 .live bS aY))))))))
  (fun h1 =>
  .ret (bh [(J 1),.aa false,.aL [0] [.pure] (a8 [3])] (.aC h1 (aK 1 .live (l1 (sz:=1) aP) ad))))
theorem Td {d6:List b0}{dA:List cc}{b1:List Int}{ch eN:Int}{ad:List (List Int)}{r} (h:Fo d6 dA b1 ch eN ad=some r):dN bb 82 0 65 [1,1,0,1,0,0] (E6 d6 dA b1 ch) (Mq d6 dA b1 ch) (eN,ad) r:=dO (fun _=>SY) h
def yT (aN:cR):Option (List (List Int)) :=
 vN aN >>= fun r1 =>
 Fo aN.b3 aN.bQ r1 (len_ eI r1) 0 ([]:List (List Int)) >>= fun bk =>
 some bk
theorem To {aN:cR}:bA (yT aN) (fun r=>Con bb 65 [.dY 2 [(hK aN)] 0 0] [] (.isl 1 (r.map (eL 1 eI))) []):=by
 unfold yT
 exact .au fun r1 o =>
  .au fun bk av =>
  .ret (bu [(J 1),(J 1),.az (bs 1 (br 1 (.isl 1 (r1.map eI)) false) 2),.s7 3 1,.aL [6] [.cL (ah 1 (eL 1 eI) ([]:List (List Int)))] [(0,ii),(3,fW (([]:List (List Int)).length)),(13,ii),(14,ii),(15,ii)],.sub (.exit 0) [(3,.bm 0 0 0 bk.length)] [(ah 1 (eL 1 eI) bk)],(J 2)] (.gS (Mw r1 o) (c6 1 .live (pE (eL 1 eI))) (aK 1 .live (l1 (sz:=1) aP) ([]:List (List Int))) (fH (List Int)) (Td av) (gN (eL 1 eI) bk) (fT (eL 1 eI) bk) (dS (l1 (sz:=1) aP) bk)) (.bw (.dK (.e5 (bk.map (eL 1 eI))))))
def Fh (d9:List cc)(c2:Int):(Int×(List eu))→S:=fun (cn,ad)=>dl [(3,.bm 0 0 0 ad.length),(9,.isl 3 (d9.map cl)),(10,.n .i64 c2),(11,.n .i64 cn)] [(ah 2 gp ad)]
def Ms (d9:List cc)(c2:Int):(List eu)→dm
 | a=>⟨some 0,[(3,.bm 0 0 0 a.length)],[(ah 2 gp a)]⟩
def vF (d9:List cc)(c2 cn:Int)(ad:List eu):Option ((Int×(List eu))⊕((List eu))) :=
 if (decide (cn<c2))=true then
  if 0≤cn∧cn<d9.length then
  d9[cn.toNat]? >>= fun aE =>
  if (aE.i5 != (2:Int))=true then
   if (ad++([(⟨cn,1⟩:eu)]:List eu)).length*16≤140737488355328 then
   if (aE.i5 != (1:Int))=true then
    if ((ad++([(⟨cn,1⟩:eu)]:List eu))++([(⟨cn,(-1)⟩:eu)]:List eu)).length*16≤140737488355328 then
    some (.inl (U (cn+(1:Int)),(ad++([(⟨cn,1⟩:eu)]:List eu))++([(⟨cn,(-1)⟩:eu)]:List eu)))
    else none
   else
    some (.inl (U (cn+(1:Int)),ad++([(⟨cn,1⟩:eu)]:List eu)))
   else none
  else
   if (aE.i5 != (1:Int))=true then
    if (ad++([(⟨cn,(-1)⟩:eu)]:List eu)).length*16≤140737488355328 then
    some (.inl (U (cn+(1:Int)),ad++([(⟨cn,(-1)⟩:eu)]:List eu)))
    else none
   else
    some (.inl (U (cn+(1:Int)),ad))
  else none
 else
  some (.inr ad)
def FF (d9:List cc)(c2 cn:Int)(ad:List eu):Option ((List eu)):=iter (fun w:Int×(List eu)=>vF d9 c2 w.1 w.2) (cn,ad)
theorem S6 {d9:List cc}{c2 cn:Int}{ad:List eu}:bA (vF d9 c2 cn ad) (dM bb 34 0 66 [1,1,0,1,0,0] (Fh d9 c2 (cn,ad)) (Fh d9 c2) (Ms d9 c2)):=by
 unfold vF
 exact .ite (fun h1 =>
  .aZ fun o =>
  .au fun aE av =>
  (let t1:List bX:=[(J 1),.aa true,.az (bs 2 (.b4 (cl aE)) 3),(J 3)];
  have aQ:=((.c9 h1 o.1 (cN cl o.2) (bU cl av)):cq _);
  .ite (fun aA =>
  .aZ fun a2 =>
  (let t3:List bX:=t1.append [.aa true,.az (bs 4 (.aJ ((ad++([(⟨cn,1⟩:eu)]:List eu)).length)) 1),(J 3)];
  have eR:=aQ.aJ (.dn aA (gZ gp (⟨cn,1⟩:eu)) (hk gp ad) (gO gp ad (⟨cn,1⟩:eu)) a2);
  .ite (fun bd =>
  .aZ fun bn =>
  .ret (let q1:=(ad++([(⟨cn,1⟩:eu)]:List eu));let aY:=(q1++([(⟨cn,(-1)⟩:eu)]:List eu));let bJ:=(ht gp ad (⟨cn,1⟩:eu));bh (t3.append [.aa true,.az (bs 4 (.aJ (aY.length)) 1),(J 2),.aL [24] [.cL (ah 2 gp aY)] (a8 [3,9,10,11])]) (eR.aJ (.eJ bd (gZ gp (⟨cn,(-1)⟩:eu)) (oe bJ (dL q1)) (gO gp q1 (⟨cn,(-1)⟩:eu)) bn (c6 2 .live (jc bJ (dL q1) (vm gp (⟨cn,(-1)⟩:eu)))) (aK 2 .live t0 aY)))))
  (fun bd =>
  .ret (let bS:=(ad++([(⟨cn,1⟩:eu)]:List eu));bh (t3.append [.aa false,(J 2),.aL [15] [.cL (ah 2 gp bS)] (a8 [3,9,10,11])]) (eR.aJ (.bR bd (c6 2 .live (ht gp ad (⟨cn,1⟩:eu))) (aK 2 .live t0 bS)))))))
  (fun aA =>
  .ite (fun a2 =>
  .aZ fun bd =>
  .ret (let cA:=(ad++([(⟨cn,(-1)⟩:eu)]:List eu));bh (t1.append [.aa false,(J 3),.aa true,.az (bs 4 (.aJ (cA.length)) 1),(J 2),.aL [18] [.cL (ah 2 gp cA)] (a8 [3,9,10,11])]) (aQ.aJ (.gS aA a2 (gZ gp (⟨cn,(-1)⟩:eu)) (hk gp ad) (gO gp ad (⟨cn,(-1)⟩:eu)) bd (c6 2 .live (ht gp ad (⟨cn,(-1)⟩:eu))) (aK 2 .live t0 cA)))))
  (fun a2 =>
  .ret (bh (t1.append [.aa false,(J 3),.aa false,(J 2),.aL [0] [.pure] (a8 [3,9,10,11])]) (aQ.aJ (.bR aA a2 (aK 2 .live t0 ad))))))))
  (fun h1 =>
  .ret (bh [(J 1),.aa false,.aL [0] [.pure] (a8 [3])] (.aC h1 (aK 2 .live t0 ad))))
theorem Tr {d9:List cc}{c2 cn:Int}{ad:List eu}{r} (h:FF d9 c2 cn ad=some r):dN bb 34 0 66 [1,1,0,1,0,0] (Fh d9 c2) (Ms d9 c2) (cn,ad) r:=dO (fun _=>S6) h
def yX (aN:cR):Option (List eu) :=
 FF aN.bQ (len_ cl aN.bQ) 0 ([]:List eu) >>= fun r1 =>
 some r1
theorem TY {aN:cR}:bA (yX aN) (fun r=>Con bb 66 [.dY 2 [(hK aN)] 0 0] [] (.isl 2 (r.map gp)) []):=by
 unfold yX
 exact .au fun r1 o =>
  .ret (bu [(J 1),(J 1),(J 6),.s7 3 2,.aL [8] [.cL (ah 2 gp ([]:List eu))] [(3,fW (([]:List eu).length)),(9,ii),(10,ii),(11,ii)],.sub (.exit 0) [(3,.bm 0 0 0 r1.length)] [(ah 2 gp r1)],(J 2)] (.eJ (c6 2 .live (pE gp)) (aK 2 .live t0 ([]:List eu)) (fH eu) (Tr o) (gN gp r1) (fT gp r1) (dS t0 r1)) (.bw (.dK (.e5 (r1.map gp)))))
end Go.Proofs.YtamedijmgkdlgacGreat
