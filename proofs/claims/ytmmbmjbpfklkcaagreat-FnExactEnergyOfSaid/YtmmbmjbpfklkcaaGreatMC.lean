/- Lemmas, plain functions of the program, and what they answer. No condition. -/
import Derived.Test.YtmmbmjbpfklkcaaGreatMB
namespace Go.Proofs.YtmmbmjbpfklkcaaGreat
set_option linter.unusedVariables false
set_option linter.unusedSimpArgs false
open Go Go.VL
def uL (aa:bg) (dX:Int):Option Int :=
 if (decide ((U (dX-(aa.ed.size:Int)))<(0:Int)))=true then
  some (-1)
 else
  some (U (dX-(aa.ed.size:Int)))
theorem Nw {aa:bg} {dX:Int}:bk (uL aa dX) (fun r=>Con aY 48 [.agg [.s aa.ed,.n .i64 aa.eu,.n .i64 aa.dV,.b aa.cS],.n .i64 dX] [] (.n .i64 r) []):=by
 unfold uL
 exact (let t1:List bE:=[.J (o 2 []),.J (o 6 []),.J (o 2 [])];
  .ite (fun h1 =>
  .ret (aU (t1.append [.ah true,.J (o 1 [])]) (.e1 h1)))
  (fun h1 =>
  .ret (aU (t1.append [.ah false,.J (o 2 [])]) (.e1 h1))))
def z9 (aa:(List bg)):(Int×Int)→S:=fun (dX,ai)=>dy [(0,.isl 4 (aa.map aG)),(1,.n .i64 dX),(5,.n .i64 ai)] []
def Aq (aa:(List bg)):((Int)⊕(Unit))→dB
 | .inl a=>⟨some 0,[(1,.n .i64 a)],[]⟩
 | .inr a=>⟨none,[(4,.n .i64 (-1:Int))],[]⟩
def pw (aa:(List bg)) (dX:Int) (ai:Int):Option ((Int×Int)⊕((Int)⊕(Unit))) :=
 if (decide (ai<(len_ aG aa)))=true then
  if 0≤ai∧ai<aa.length then
  aa[ai.toNat]? >>= fun an =>
  uL an dX >>= fun aV =>
  if (decide (aV<(0:Int)))=true then
   some (.inr (.inr ()))
  else
   some (.inl (aV,U (ai+(1:Int))))
  else none
 else
  some (.inr (.inl dX))
def BQ (aa:(List bg)) (dX:Int) (ai:Int):Option ((Int)⊕(Unit)):=iter (fun w:Int×Int=>pw aa w.1 w.2) (dX,ai)
theorem Lb {aa:(List bg)} {dX:Int} {ai:Int}:bk (pw aa dX ai) (eg aY 27 0 17 [1,1,1,0,1,0,0] (z9 aa (dX,ai)) (z9 aa) (Aq aa)):=by
 unfold pw
 exact .ite (fun h1 =>
  .bn fun h2 =>
  .au fun an ap =>
  .au fun aV aQ =>
  (let t1:List bE:=[.J (o 4 []),.ah true,.J (o 3 (ad (.b8 (aG an)) (o 1 (ad (a7 2 (.n .i64 aV) true) (o 1 []))))),.J (o 2 [])];
  have aO:=((.d5 h1 h2.1 (dd aG h2.2) (cB aG ap) (Nw aV aQ) (aK.n .i64 aV)):cd _);
  .ite (fun bd =>
  .ret (bz (t1.append [.ah true,.J (o 1 []),.a4 [] [] (bB [4])]) (aO.az (.e1 bd))))
  (fun bd =>
  .ret (bz (t1.append [.ah false,.J (o 3 []),.a4 [] [] (bB [0,1,5])]) (aO.az (.e1 bd))))))
  (fun h1 =>
  .ret (bz [.J (o 4 []),.ah false,.a4 [] [] (bB [1])] (.e1 h1)))
theorem FB {aa:(List bg)} {dX:Int} {ai:Int} {r} (h:BQ aa dX ai=some r):eh aY 27 0 17 [1,1,1,0,1,0,0] (z9 aa) (Aq aa) (dX,ai) r:=ej (fun _=>Lb) h
def ux (aa:(List bg)) (dX:Int):Option Int :=
 if (decide ((U (dX-(len_ aG aa)))<(0:Int)))=true then
  some (-1)
 else
  BQ aa (U (dX-(len_ aG aa))) 0 >>= fun r2 =>
  match r2 with
  | .inl ei=>(some ei)
  | .inr ei=>(some (-1))
theorem M5 {aa:(List bg)} {dX:Int}:bk (ux aa dX) (fun r=>Con aY 17 [.isl 4 (aa.map aG),.n .i64 dX] [] (.n .i64 r) []):=by
 unfold ux
 exact (let t1:List bE:=[.J (o 1 []),.J (o 5 []),.J (o 2 [])];
  .ite (fun h1 =>
  .ret (aU (t1.append [.ah true,.J (o 1 [])]) (.e1 h1)))
  (fun h1 =>
  .au fun r2 ag =>
  (let t2:List bE:=t1.append [.ah false,.J (o 1 []),.a4 [] [] (bB [0,1,5])];
  (by
  rcases r2 with ei|ei
  ·exact (.ret (aU (t2.append [.sub (.exit 0) [(1,.n .i64 ei)] [],.J (o 2 [])]) (.e2 h1 (FB ag))))
  ·exact (.ret (aU (t2.append [(Aq aa (.inr ei)).fo]) (.e2 h1 (FB ag))))))))
def uq (aa:(List bR)) (dX:Int):Option Int :=
 if (decide ((U (dX-(len_ aZ aa)))<(0:Int)))=true then
  some (-1)
 else
  some (U (dX-(len_ aZ aa)))
theorem MP {aa:(List bR)} {dX:Int}:bk (uq aa dX) (fun r=>Con aY 18 [.isl 3 (aa.map aZ),.n .i64 dX] [] (.n .i64 r) []):=by
 unfold uq
 exact (let t1:List bE:=[.J (o 1 []),.J (o 5 []),.J (o 2 [])];
  .ite (fun h1 =>
  .ret (aU (t1.append [.ah true,.J (o 1 [])]) (.e1 h1)))
  (fun h1 =>
  .ret (aU (t1.append [.ah false,.J (o 2 [])]) (.e1 h1))))
def pK (aa:c4) (dX:Int):Option Int :=
 ux aa.a6 dX >>= fun r1 =>
 if (decide (r1<(0:Int)))=true then
  some (-1)
 else
  uq aa.b9 r1 >>= fun bb =>
  if (decide (bb<(0:Int)))=true then
   some (-1)
  else
   some bb
theorem Mm {aa:c4} {dX:Int}:bk (pK aa dX) (fun r=>Con aY 4 [.agg [.isl 4 (aa.a6.map aG),.isl 3 (aa.b9.map aZ)],.n .i64 dX] [] (.n .i64 r) []):=by
 unfold pK
 exact .au fun r1 h2 =>
  (let t1:List bE:=[.J (o 2 []),.J (o 3 (ad (a7 2 (.n .i64 r1) true) (o 1 []))),.J (o 2 [])];
  have aO:=((.e2 (M5 r1 h2) (aK.n .i64 r1)):cd _);
  .ite (fun ag =>
  .ret (aU (t1.append [.ah true,.J (o 1 [])]) (aO.az (.e1 ag))))
  (fun ag =>
  .au fun bb aE =>
  (let t3:List bE:=t1.append [.ah false,.J (o 3 (ad (a7 2 (.n .i64 bb) true) (o 1 []))),.J (o 2 [])];
  have d4:=aO.az (.bp ag (MP bb aE) (aK.n .i64 bb));
  .ite (fun aQ =>
  .ret (aU (t3.append [.ah true,.J (o 1 [])]) (d4.az (.e1 aQ))))
  (fun aQ =>
  .ret (aU (t3.append [.ah false,.J (o 2 [])]) (d4.az (.e1 aQ)))))))
def su (aa:(List Int)) (dX:Int):Option Int :=
 if (decide ((U (dX-(len_ I aa)))<(0:Int)))=true then
  some (-1)
 else
  some (U (dX-(len_ I aa)))
theorem Gk {aa:(List Int)} {dX:Int}:bk (su aa dX) (fun r=>Con aY 50 [.isl 1 (aa.map I),.n .i64 dX] [] (.n .i64 r) []):=by
 unfold su
 exact (let t1:List bE:=[.J (o 1 []),.J (o 5 []),.J (o 2 [])];
  .ite (fun h1 =>
  .ret (aU (t1.append [.ah true,.J (o 1 [])]) (.e1 h1)))
  (fun h1 =>
  .ret (aU (t1.append [.ah false,.J (o 2 [])]) (.e1 h1))))
def xH (aa:cZ) (dX:Int):Option Int :=
 su aa.a9 dX >>= fun r1 =>
 if (decide (r1<(0:Int)))=true then
  some (-1)
 else
  some r1
theorem M6 {aa:cZ} {dX:Int}:bk (xH aa dX) (fun r=>Con aY 49 [.agg [.b aa.bM,.isl 1 (aa.a9.map I)],.n .i64 dX] [] (.n .i64 r) []):=by
 unfold xH
 exact .au fun r1 h2 =>
  (let t1:List bE:=[.J (o 2 []),.J (o 3 (ad (a7 2 (.n .i64 r1) true) (o 1 []))),.J (o 2 [])];
  have aO:=((.e2 (Gk r1 h2) (aK.n .i64 r1)):cd _);
  .ite (fun ag =>
  .ret (aU (t1.append [.ah true,.J (o 1 [])]) (aO.az (.e1 ag))))
  (fun ag =>
  .ret (aU (t1.append [.ah false,.J (o 2 [])]) (aO.az (.e1 ag)))))
def u6 (aa:bF) (dX:Int):Option Int :=
 xH aa.bm dX >>= fun r1 =>
 if (decide (r1<(0:Int)))=true then
  some (-1)
 else
  su aa.bO r1 >>= fun bb =>
  if (decide (bb<(0:Int)))=true then
   some (-1)
  else
   some bb
theorem N5 {aa:bF} {dX:Int}:bk (u6 aa dX) (fun r=>Con aY 19 [.agg [.b aa.bm.bM,.isl 1 (aa.bm.a9.map I),.isl 1 (aa.bO.map I)],.n .i64 dX] [] (.n .i64 r) []):=by
 unfold u6
 exact .au fun r1 h2 =>
  (let t1:List bE:=[.J (o 2 []),.J (o 3 (ad (a7 2 (.n .i64 r1) true) (o 1 []))),.J (o 2 [])];
  have aO:=((.e2 (M6 r1 h2) (aK.n .i64 r1)):cd _);
  .ite (fun ag =>
  .ret (aU (t1.append [.ah true,.J (o 1 [])]) (aO.az (.e1 ag))))
  (fun ag =>
  .au fun bb aE =>
  (let t3:List bE:=t1.append [.ah false,.J (o 3 (ad (a7 2 (.n .i64 bb) true) (o 1 []))),.J (o 2 [])];
  have d4:=aO.az (.bp ag (Gk bb aE) (aK.n .i64 bb));
  .ite (fun aQ =>
  .ret (aU (t3.append [.ah true,.J (o 1 [])]) (d4.az (.e1 aQ))))
  (fun aQ =>
  .ret (aU (t3.append [.ah false,.J (o 2 [])]) (d4.az (.e1 aQ)))))))
def AN (aa:(List bF)):(Int×Int)→S:=fun (dX,ai)=>dy [(0,.isl 3 (aa.map eTRat)),(1,.n .i64 dX),(5,.n .i64 ai)] []
def Bd (aa:(List bF)):((Int)⊕(Unit))→dB
 | .inl a=>⟨some 0,[(1,.n .i64 a)],[]⟩
 | .inr a=>⟨none,[(4,.n .i64 (-1:Int))],[]⟩
def pA (aa:(List bF)) (dX:Int) (ai:Int):Option ((Int×Int)⊕((Int)⊕(Unit))) :=
 if (decide (ai<(len_ eTRat aa)))=true then
  if 0≤ai∧ai<aa.length then
  aa[ai.toNat]? >>= fun an =>
  u6 an dX >>= fun aV =>
  if (decide (aV<(0:Int)))=true then
   some (.inr (.inr ()))
  else
   some (.inl (aV,U (ai+(1:Int))))
  else none
 else
  some (.inr (.inl dX))
def Ci (aa:(List bF)) (dX:Int) (ai:Int):Option ((Int)⊕(Unit)):=iter (fun w:Int×Int=>pA aa w.1 w.2) (dX,ai)
theorem LC {aa:(List bF)} {dX:Int} {ai:Int}:bk (pA aa dX ai) (eg aY 27 0 5 [1,1,1,0,1,0,0] (AN aa (dX,ai)) (AN aa) (Bd aa)):=by
 unfold pA
 exact .ite (fun h1 =>
  .bn fun h2 =>
  .au fun an ap =>
  .au fun aV aQ =>
  (let t1:List bE:=[.J (o 4 []),.ah true,.J (o 3 (ad (.b8 (eTRat an)) (o 1 (ad (a7 2 (.n .i64 aV) true) (o 1 []))))),.J (o 2 [])];
  have aO:=((.d5 h1 h2.1 (dd eTRat h2.2) (cB eTRat ap) (N5 aV aQ) (aK.n .i64 aV)):cd _);
  .ite (fun bd =>
  .ret (bz (t1.append [.ah true,.J (o 1 []),.a4 [] [] (bB [4])]) (aO.az (.e1 bd))))
  (fun bd =>
  .ret (bz (t1.append [.ah false,.J (o 3 []),.a4 [] [] (bB [0,1,5])]) (aO.az (.e1 bd))))))
  (fun h1 =>
  .ret (bz [.J (o 4 []),.ah false,.a4 [] [] (bB [1])] (.e1 h1)))
theorem FR {aa:(List bF)} {dX:Int} {ai:Int} {r} (h:Ci aa dX ai=some r):eh aY 27 0 5 [1,1,1,0,1,0,0] (AN aa) (Bd aa) (dX,ai) r:=ej (fun _=>LC) h
def sv (aa:(List bF)) (dX:Int):Option Int :=
 if (decide ((U (dX-(len_ eTRat aa)))<(0:Int)))=true then
  some (-1)
 else
  Ci aa (U (dX-(len_ eTRat aa))) 0 >>= fun r2 =>
  match r2 with
  | .inl ei=>(some ei)
  | .inr ei=>(some (-1))
theorem Gl {aa:(List bF)} {dX:Int}:bk (sv aa dX) (fun r=>Con aY 5 [.isl 3 (aa.map eTRat),.n .i64 dX] [] (.n .i64 r) []):=by
 unfold sv
 exact (let t1:List bE:=[.J (o 1 []),.J (o 5 []),.J (o 2 [])];
  .ite (fun h1 =>
  .ret (aU (t1.append [.ah true,.J (o 1 [])]) (.e1 h1)))
  (fun h1 =>
  .au fun r2 ag =>
  (let t2:List bE:=t1.append [.ah false,.J (o 1 []),.a4 [] [] (bB [0,1,5])];
  (by
  rcases r2 with ei|ei
  ·exact (.ret (aU (t2.append [.sub (.exit 0) [(1,.n .i64 ei)] [],.J (o 2 [])]) (.e2 h1 (FR ag))))
  ·exact (.ret (aU (t2.append [(Bd aa (.inr ei)).fo]) (.e2 h1 (FR ag))))))))
def xN (aa:bg):Option bg :=
 some aa
theorem Nx {aa:bg}:bk (xN aa) (fun r=>Con aY 63 [.agg [.s aa.ed,.n .i64 aa.eu,.n .i64 aa.dV,.b aa.cS]] [] (.agg [.s r.ed,.n .i64 r.eu,.n .i64 r.dV,.b r.cS]) []):=by
 unfold xN
 exact .ret (aU [.J (o 2 []),.J (o 1 []),.J (o 4 []),.J (o 4 []),.J (o 4 []),.J (o 4 []),.J (o 2 [])] .nil)
def zT (aa:(List bg)):(Int×(List bg))→S:=fun (ai,ae)=>dy [(0,.isl 4 (aa.map aG)),(3,.aN 0 0 0 ae.length),(4,.n .i64 ai)] [[ab.mk 4 (ae.map aG) .live]]
def z2 (aa:(List bg)):(List bg)→dB
 | a=>⟨some 0,[(3,.aN 0 0 0 a.length)],[[ab.mk 4 (a.map aG) .live]]⟩
def pv (aa:(List bg)) (ai:Int) (ae:(List bg)):Option ((Int×(List bg))⊕((List bg))) :=
 if (decide (ai<(len_ aG aa)))=true then
  if 0≤ai∧ai<aa.length then
  aa[ai.toNat]? >>= fun an =>
  xN an >>= fun aV =>
  if 0≤ai∧ai<(ae.length:Nat) then
  if (0+ai.toNat)<ae.length then
  some (.inl (U (ai+(1:Int)),ae.set (0+ai.toNat) aV))
  else none
  else none
  else none
 else
  some (.inr ae)
def Be (aa:(List bg)) (ai:Int) (ae:(List bg)):Option ((List bg)):=iter (fun w:Int×(List bg)=>pv aa w.1 w.2) (ai,ae)
theorem K2 {aa:(List bg)} {ai:Int} {ae:(List bg)}:bk (pv aa ai ae) (eg aY 23 0 28 [1,1,0,1,0,0] (zT aa (ai,ae)) (zT aa) (z2 aa)):=by
 unfold pv
 exact .ite (fun h1 =>
  .bn fun h2 =>
  .au fun an ap =>
  .au fun aV aQ =>
  .bn fun bd =>
  .bn fun bL =>
  .ret (bz [.J (o 4 []),.ah true,.J (o 5 (ad (.b8 (aG an)) (ad (a7 1 (.agg [.s aV.ed,.n .i64 aV.eu,.n .i64 aV.dV,.b aV.cS]) false) (o 1 (ad .cY []))))),.J (o 3 []),.a4 [0] [.dr [ab.mk 4 ((ae.set (0+ai.toNat) aV).map aG) .live]] [(0,ii),(3,e6 ((ae.set (0+ai.toNat) aV).length)),(4,ii)]] (.bh h1 h2.1 (dd aG h2.2) (cB aG ap) (Nx aV aQ) bd.1 bd.2 (g7 aG bL) (.cp (gT 4) (eb 4 .live (fZ (aD aG ae) (0+ai.toNat) aV)) (bJ 4 .live gl (ae.set (0+ai.toNat) aV)) (fQ (ba ae) (0+ai.toNat) aV)))))
  (fun h1 =>
  .ret (bz [.J (o 4 []),.ah false,.a4 [0] [.pure] (bB [3])] (.e2 h1 (bJ 4 .live gl ae))))
theorem LV {aa:(List bg)} {ai:Int} {ae:(List bg)} {r} (h:Be aa ai ae=some r):eh aY 23 0 28 [1,1,0,1,0,0] (zT aa) (z2 aa) (ai,ae) r:=ej (fun _=>K2) h
def ul (aa:(List bg)):Option (List bg) :=
 if 0≤(len_ aG aa)∧(40:Int)*(len_ aG aa)≤281474976710656∧(len_ aG aa)<9223372036854775808 then
 Be aa 0 (List.replicate (len_ aG aa).toNat (⟨ByteArray.empty,0,0,false⟩:bg):List bg) >>= fun r2 =>
 some r2
 else none
theorem Mz {aa:(List bg)}:bk (ul aa) (fun a=>Con aY 28 [.isl 4 (aa.map aG)] [] (.aN 0 0 0 a.length) [[ab.mk 4 (a.map aG) .live]]):=by
 unfold ul
 exact .bn fun h1 =>
  .au fun r2 ag =>
  .ret (fL [.J (o 1 []),.J (o 4 []),.J (o 1 []),.a4 [3] [.dr [ab.mk 4 ((List.replicate (len_ aG aa).toNat (⟨ByteArray.empty,0,0,false⟩:bg):List bg).map aG) .live]] [(0,ii),(3,e6 ((List.replicate (len_ aG aa).toNat (⟨ByteArray.empty,0,0,false⟩:bg):List bg).length)),(4,ii)],(z2 aa r2).fo,.J (o 2 [])] [0] [.pure] (.bh h1.1 (Int.le_refl (len_ aG aa)) h1.2.1 h1.2.2 (eb 4 .live (kB aG (len_ aG aa).toNat (⟨ByteArray.empty,0,0,false⟩:bg))) (bJ 4 .live gl (List.replicate (len_ aG aa).toNat (⟨ByteArray.empty,0,0,false⟩:bg):List bg)) (kC (len_ aG aa).toNat ((⟨ByteArray.empty,0,0,false⟩:bg):bg)) (LV ag) (.e1 (bJ 4 .live gl r2))))
def xI (aa:bR):Option bR :=
 some aa
theorem M7 {aa:bR}:bk (xI aa) (fun r=>Con aY 64 [.agg [.n .i64 aa.de,.n .i64 aa.c1,.n .i64 aa.eK]] [] (.agg [.n .i64 r.de,.n .i64 r.c1,.n .i64 r.eK]) []):=by
 unfold xI
 exact .ret (aU [.J (o 2 []),.J (o 1 []),.J (o 4 []),.J (o 4 []),.J (o 4 []),.J (o 2 [])] .nil)
def zN (aa:(List bR)):(Int×(List bR))→S:=fun (ai,ae)=>dy [(0,.isl 3 (aa.map aZ)),(3,.aN 0 0 0 ae.length),(4,.n .i64 ai)] [[ab.mk 3 (ae.map aZ) .live]]
def zU (aa:(List bR)):(List bR)→dB
 | a=>⟨some 0,[(3,.aN 0 0 0 a.length)],[[ab.mk 3 (a.map aZ) .live]]⟩
def pu (aa:(List bR)) (ai:Int) (ae:(List bR)):Option ((Int×(List bR))⊕((List bR))) :=
 if (decide (ai<(len_ aZ aa)))=true then
  if 0≤ai∧ai<aa.length then
  aa[ai.toNat]? >>= fun an =>
  xI an >>= fun aV =>
  if 0≤ai∧ai<(ae.length:Nat) then
  if (0+ai.toNat)<ae.length then
  some (.inl (U (ai+(1:Int)),ae.set (0+ai.toNat) aV))
  else none
  else none
  else none
 else
  some (.inr ae)
def AO (aa:(List bR)) (ai:Int) (ae:(List bR)):Option ((List bR)):=iter (fun w:Int×(List bR)=>pu aa w.1 w.2) (ai,ae)
theorem KW {aa:(List bR)} {ai:Int} {ae:(List bR)}:bk (pu aa ai ae) (eg aY 23 0 29 [1,1,0,1,0,0] (zN aa (ai,ae)) (zN aa) (zU aa)):=by
 unfold pu
 exact .ite (fun h1 =>
  .bn fun h2 =>
  .au fun an ap =>
  .au fun aV aQ =>
  .bn fun bd =>
  .bn fun bL =>
  .ret (bz [.J (o 4 []),.ah true,.J (o 5 (ad (.b8 (aZ an)) (ad (a7 1 (.agg [.n .i64 aV.de,.n .i64 aV.c1,.n .i64 aV.eK]) false) (o 1 (ad .cY []))))),.J (o 3 []),.a4 [0] [.dr [ab.mk 3 ((ae.set (0+ai.toNat) aV).map aZ) .live]] [(0,ii),(3,e6 ((ae.set (0+ai.toNat) aV).length)),(4,ii)]] (.bh h1 h2.1 (dd aZ h2.2) (cB aZ ap) (M7 aV aQ) bd.1 bd.2 (g7 aZ bL) (.cp (gT 3) (eb 3 .live (fZ (aD aZ ae) (0+ai.toNat) aV)) (bJ 3 .live gk (ae.set (0+ai.toNat) aV)) (fQ (ba ae) (0+ai.toNat) aV)))))
  (fun h1 =>
  .ret (bz [.J (o 4 []),.ah false,.a4 [0] [.pure] (bB [3])] (.e2 h1 (bJ 3 .live gk ae))))
theorem LD {aa:(List bR)} {ai:Int} {ae:(List bR)} {r} (h:AO aa ai ae=some r):eh aY 23 0 29 [1,1,0,1,0,0] (zN aa) (zU aa) (ai,ae) r:=ej (fun _=>KW) h
def uk (aa:(List bR)):Option (List bR) :=
 if 0≤(len_ aZ aa)∧(24:Int)*(len_ aZ aa)≤281474976710656∧(len_ aZ aa)<9223372036854775808 then
 AO aa 0 (List.replicate (len_ aZ aa).toNat (⟨0,0,0⟩:bR):List bR) >>= fun r2 =>
 some r2
 else none
theorem Mn {aa:(List bR)}:bk (uk aa) (fun a=>Con aY 29 [.isl 3 (aa.map aZ)] [] (.aN 0 0 0 a.length) [[ab.mk 3 (a.map aZ) .live]]):=by
 unfold uk
 exact .bn fun h1 =>
  .au fun r2 ag =>
  .ret (fL [.J (o 1 []),.J (o 4 []),.J (o 1 []),.a4 [3] [.dr [ab.mk 3 ((List.replicate (len_ aZ aa).toNat (⟨0,0,0⟩:bR):List bR).map aZ) .live]] [(0,ii),(3,e6 ((List.replicate (len_ aZ aa).toNat (⟨0,0,0⟩:bR):List bR).length)),(4,ii)],(zU aa r2).fo,.J (o 2 [])] [0] [.pure] (.bh h1.1 (Int.le_refl (len_ aZ aa)) h1.2.1 h1.2.2 (eb 3 .live (kB aZ (len_ aZ aa).toNat (⟨0,0,0⟩:bR))) (bJ 3 .live gk (List.replicate (len_ aZ aa).toNat (⟨0,0,0⟩:bR):List bR)) (kC (len_ aZ aa).toNat ((⟨0,0,0⟩:bR):bR)) (LD ag) (.e1 (bJ 3 .live gk r2))))
def ud (aa:c4):Option ((List bg)×(List bR)) :=
 ul aa.a6 >>= fun r1 =>
 uk aa.b9 >>= fun a2 =>
 some (r1,a2)
theorem nu {aa:c4}:bk (ud aa) (fun a=>Con aY 7 [.agg [.isl 4 (aa.a6.map aG),.isl 3 (aa.b9.map aZ)]] [] (.agg [.aN 0 0 0 a.1.length,.aN 0 1 0 a.2.length]) [[ab.mk 4 (a.1.map aG) .live,ab.mk 3 (a.2.map aZ) .live]]):=by
 unfold ud
 exact .au fun r1 h2 =>
  .au fun a2 ap =>
  .ret (fL [.J (o 2 []),.J (o 1 []),.J (o 2 (ad (.call {aB:=[],bN:=[],ac:=[ii],r:= .aN 0 0 0 r1.length,cg:=[[ab.mk 4 (r1.map aG) .live]],cC:=ii,cQ:=[.pure],b6:=[],b5:=true}) (o 2 []))),.J (o 2 (ad (.call {aB:=[],bN:=[],ac:=[ii],r:= .aN 0 0 0 a2.length,cg:=[[ab.mk 3 (a2.map aZ) .live]],cC:=ii,cQ:=[.pure],b6:=[],b5:=true}) (o 2 []))),.J (o 2 []),.wG [{a0:=[(5,0),(10,0)],hi:=none},{a0:=[(1,0)]}] [([.pure,.pure],none),([.box [.at_ 0 0 r1.length,.at_ 0 1 a2.length]],none)] [(2,.bo (.bX (.at_ 1 0 0)))]] [0] [.dO [ab.mk 4 (r1.map aG) .live,ab.mk 3 (a2.map aZ) .live]] (.bh (ec 4 gl r1) (Mz r1 h2) (aK.aN 0 0 0 r1.length) ((e3 (d6 (dW mV) gJ) e4):eL [[ab.mk 4 (r1.map aG) .live]]) (ec 3 gk a2) (Mn a2 ap) (aK.aN 0 0 0 a2.length) ((e3 (d6 (dW mR) gJ) e4):eL [[ab.mk 3 (a2.map aZ) .live]]) (.gz (bJ 4 .live gl r1) (bJ 3 .live gk a2) (rfl:(ji [{a0:=[(5,0),(10,0)],hi:=none},{a0:=[(1,0)]}]) 0 0=some (5,0)) (rfl:r1.length=r1.length) (rfl:(ji [{a0:=[(5,0),(10,0)],hi:=none},{a0:=[(1,0)]}]) 0 1=some (10,0)) (rfl:a2.length=a2.length) (rfl:(ji [{a0:=[(5,0),(10,0)],hi:=none},{a0:=[(1,0)]}]) 1 0=some (1,0)) (df (dh (aW:=(eD [0])) 4 .live aG (aD aG r1) (fun x=>(dg mU) x)) (df (dh (aW:=(eD [0])) 3 .live aZ (aD aZ a2) (fun x=>(dg mQ) x)) (jo (aW:=(eD [0]))))))) (.bo (.agg [.id,.id])))
def Aa (aa:(List Int)):(Int×(List Int))→S:=fun (ai,ae)=>dy [(0,.isl 1 (aa.map I)),(3,.aN 0 0 0 ae.length),(4,.n .i64 ai)] [[ab.mk 1 (ae.map I) .live]]
def Ar (aa:(List Int)):(List Int)→dB
 | a=>⟨some 0,[(3,.aN 0 0 0 a.length)],[[ab.mk 1 (a.map I) .live]]⟩
def px (aa:(List Int)) (ai:Int) (ae:(List Int)):Option ((Int×(List Int))⊕((List Int))) :=
 if (decide (ai<(len_ I aa)))=true then
  if 0≤ai∧ai<aa.length then
  aa[ai.toNat]? >>= fun an =>
  if 0≤ai∧ai<(ae.length:Nat) then
  if (0+ai.toNat)<ae.length then
  some (.inl (U (ai+(1:Int)),ae.set (0+ai.toNat) an))
  else none
  else none
  else none
 else
  some (.inr ae)
def BR (aa:(List Int)) (ai:Int) (ae:(List Int)):Option ((List Int)):=iter (fun w:Int×(List Int)=>px aa w.1 w.2) (ai,ae)
theorem Lc {aa:(List Int)} {ai:Int} {ae:(List Int)}:bk (px aa ai ae) (eg aY 22 0 66 [1,1,0,1,0,0] (Aa aa (ai,ae)) (Aa aa) (Ar aa)):=by
 unfold px
 exact .ite (fun h1 =>
  .bn fun h2 =>
  .au fun an ap =>
  .bn fun aE =>
  .bn fun aQ =>
  .ret (bz [.J (o 4 []),.ah true,.J (o 5 (ad (.b8 (I an)) (o 1 (ad .cY [])))),.J (o 3 []),.a4 [0] [.dr [ab.mk 1 ((ae.set (0+ai.toNat) an).map I) .live]] [(0,ii),(3,e6 ((ae.set (0+ai.toNat) an).length)),(4,ii)]] (.bh h1 h2.1 (dd I h2.2) (cB I ap) aE.1 aE.2 (g7 I aQ) (gT 1) (.bp (eb 1 .live (fZ (aD I ae) (0+ai.toNat) an)) (bJ 1 .live a3 (ae.set (0+ai.toNat) an)) (fQ (ba ae) (0+ai.toNat) an)))))
  (fun h1 =>
  .ret (bz [.J (o 4 []),.ah false,.a4 [0] [.pure] (bB [3])] (.e2 h1 (bJ 1 .live a3 ae))))
theorem Mo {aa:(List Int)} {ai:Int} {ae:(List Int)} {r} (h:BR aa ai ae=some r):eh aY 22 0 66 [1,1,0,1,0,0] (Aa aa) (Ar aa) (ai,ae) r:=ej (fun _=>Lc) h
def sd (aa:(List Int)):Option (List Int) :=
 if 0≤(len_ I aa)∧(8:Int)*(len_ I aa)≤281474976710656∧(len_ I aa)<9223372036854775808 then
 BR aa 0 (List.replicate (len_ I aa).toNat 0:List Int) >>= fun r2 =>
 some r2
 else none
theorem F3 {aa:(List Int)}:bk (sd aa) (fun a=>Con aY 66 [.isl 1 (aa.map I)] [] (.aN 0 0 0 a.length) [[ab.mk 1 (a.map I) .live]]):=by
 unfold sd
 exact .bn fun h1 =>
  .au fun r2 ag =>
  .ret (fL [.J (o 1 []),.J (o 4 []),.J (o 1 []),.a4 [3] [.dr [ab.mk 1 ((List.replicate (len_ I aa).toNat 0:List Int).map I) .live]] [(0,ii),(3,e6 ((List.replicate (len_ I aa).toNat 0:List Int).length)),(4,ii)],(Ar aa r2).fo,.J (o 2 [])] [0] [.pure] (.bh h1.1 (Int.le_refl (len_ I aa)) h1.2.1 h1.2.2 (eb 1 .live (kB I (len_ I aa).toNat 0)) (bJ 1 .live a3 (List.replicate (len_ I aa).toNat 0:List Int)) (kC (len_ I aa).toNat (0:Int)) (Mo ag) (.e1 (bJ 1 .live a3 r2))))
def xx (aa:cZ):Option (Bool×(List Int)) :=
 sd aa.a9 >>= fun r1 =>
 some (aa.bM,r1)
theorem MA {aa:cZ}:bk (xx aa) (fun a=>Con aY 65 [.agg [.b aa.bM,.isl 1 (aa.a9.map I)]] [] (.agg [.b a.1,.aN 0 0 0 a.2.length]) [[ab.mk 1 (a.2.map I) .live]]):=by
 unfold xx
 exact .au fun r1 h2 =>
  .ret (fL [.J (o 2 []),.J (o 1 []),.J (o 4 []),.J (o 2 (ad (.call {aB:=[],bN:=[],ac:=[ii],r:= .aN 0 0 0 r1.length,cg:=[[ab.mk 1 (r1.map I) .live]],cC:=ii,cQ:=[.pure],b6:=[],b5:=true}) (o 2 []))),.J (o 2 [])] [9] [.pure] (.cM (ec 1 a3 r1) (F3 r1 h2) (aK.aN 0 0 0 r1.length) ((e3 (d6 (dW fu) gJ) e4):eL [[ab.mk 1 (r1.map I) .live]]) (bJ 1 .live a3 r1)) (.bo (.agg [.id,.id])))
def uM (aa:bF):Option (Bool×(List Int)×(List Int)) :=
 xx aa.bm >>= fun r1 =>
 sd aa.bO >>= fun a2 =>
 some (r1.1,r1.2,a2)
theorem Ny {aa:bF}:bk (uM aa) (fun a=>Con aY 30 [.agg [.b aa.bm.bM,.isl 1 (aa.bm.a9.map I),.isl 1 (aa.bO.map I)]] [] (.agg [.b a.1,.aN 0 0 0 a.2.1.length,.aN 0 1 0 a.2.2.length]) [[ab.mk 1 (a.2.1.map I) .live,ab.mk 1 (a.2.2.map I) .live]]):=by
 unfold uM
 exact .au fun r1 h2 =>
  .au fun a2 ap =>
  .ret (fL [.J (o 2 []),.J (o 1 []),.J (o 2 (ad (.call {aB:=[],bN:=[],ac:=[ii],r:= .agg [.b r1.1,.aN 0 0 0 r1.2.length],cg:=[[ab.mk 1 (r1.2.map I) .live]],cC:= .bo (.agg [.id,.id]),cQ:=[.pure],b6:=[],b5:=true}) (o 2 []))),.J (o 2 (ad (.call {aB:=[],bN:=[],ac:=[ii],r:= .aN 0 0 0 a2.length,cg:=[[ab.mk 1 (a2.map I) .live]],cC:=ii,cQ:=[.pure],b6:=[],b5:=true}) (o 2 []))),.J (o 2 []),.wG [{a0:=[(5,0),(10,0)],hi:=none},{a0:=[(1,0)]}] [([.pure,.pure],none),([.box [.id,.at_ 0 0 r1.2.length,.at_ 0 1 a2.length]],none)] [(2,.bo (.bX (.at_ 1 0 0)))]] [0] [.dO [ab.mk 1 (r1.2.map I) .live,ab.mk 1 (a2.map I) .live]] (.bh (ec 1 a3 r1.2) (MA r1 h2) (aK.agg (cG (aK.b r1.1) (cG (aK.aN 0 0 0 r1.2.length) fH))) ((e3 (d6 (dW fu) gJ) e4):eL [[ab.mk 1 (r1.2.map I) .live]]) (ec 1 a3 a2) (F3 a2 ap) (aK.aN 0 0 0 a2.length) ((e3 (d6 (dW fu) gJ) e4):eL [[ab.mk 1 (a2.map I) .live]]) (.gz (bJ 1 .live a3 r1.2) (bJ 1 .live a3 a2) (rfl:(ji [{a0:=[(5,0),(10,0)],hi:=none},{a0:=[(1,0)]}]) 0 0=some (5,0)) (rfl:r1.2.length=r1.2.length) (rfl:(ji [{a0:=[(5,0),(10,0)],hi:=none},{a0:=[(1,0)]}]) 0 1=some (10,0)) (rfl:a2.length=a2.length) (rfl:(ji [{a0:=[(5,0),(10,0)],hi:=none},{a0:=[(1,0)]}]) 1 0=some (1,0)) (df (dh (aW:=(eD [0])) 1 .live I (aD I r1.2) (fun x=>(dg ev) x)) (df (dh (aW:=(eD [0])) 1 .live I (aD I a2) (fun x=>(dg ev) x)) (jo (aW:=(eD [0]))))))) (.bo (.agg [.id,.id,.id])))
def Ab (aa:(List bF)):(Int×(List c7)×(List (List Int)))→S:=fun (ai,ek,dU)=>dy [(0,.isl 3 (aa.map eTRat)),(3,.aN 0 0 0 ek.length),(4,.n .i64 ai)] [(ab.mk 3 (ek.map (aw 0 1)) .live::(dU.map (bq .live 1 I)))]
def As (aa:(List bF)):((List c7)×(List (List Int)))→dB
 | a=>⟨some 0,[(3,.aN 0 0 0 a.1.length)],[(ab.mk 3 (a.1.map (aw 0 1)) .live::(a.2.map (bq .live 1 I)))]⟩
def rD (aa:(List bF)) (ai:Int) (ek:(List c7)) (dU:(List (List Int))):Option ((Int×(List c7)×(List (List Int)))⊕((List c7)×(List (List Int)))) :=
 if (decide (ai<(len_ eTRat aa)))=true then
  if 0≤ai∧ai<aa.length then
  aa[ai.toNat]? >>= fun an =>
  uM an >>= fun aV =>
  if 0≤ai∧ai<(ek.length:Nat) then
  if (0+ai.toNat)<ek.length then
  some (.inl (U (ai+(1:Int)),ek.set (0+ai.toNat) (⟨(⟨aV.1,(some (dU.length,aV.2.1.length))⟩:eU),(some ((dU.length+1),aV.2.2.length))⟩:c7),dU++[aV.2.1,aV.2.2]))
  else none
  else none
  else none
 else
  some (.inr (ek,dU))
def BS (aa:(List bF)) (ai:Int) (ek:(List c7)) (dU:(List (List Int))):Option ((List c7)×(List (List Int))):=iter (fun w:Int×(List c7)×(List (List Int))=>rD aa w.1 w.2.1 w.2.2) (ai,ek,dU)
theorem Ld {aa:(List bF)} {ai:Int} {ek:(List c7)} {dU:(List (List Int))}:bk (rD aa ai ek dU) (eg aY 23 0 8 [1,1,0,1,0,0] (Ab aa (ai,ek,dU)) (Ab aa) (As aa)):=by
 unfold rD
 exact .ite (fun h1 =>
  .bn fun h2 =>
  .au fun an ap =>
  .au fun aV aQ =>
  .bn fun bd =>
  .bn fun bL =>
  .ret (bz [.J (o 4 []),.ah true,.J (o 5 (ad (.b8 (eTRat an)) (ad (.w3 0 (dU.length+1) (.call {aB:=[],bN:=[],ac:=[ii],r:= .agg [.b aV.1,.aN 0 0 0 aV.2.1.length,.aN 0 1 0 aV.2.2.length],cg:=[[ab.mk 1 (aV.2.1.map I) .live,ab.mk 1 (aV.2.2.map I) .live]],cC:= .bo (.agg [.id,.id,.id]),cQ:=[.dO [ab.mk 1 (aV.2.1.map I) .live,ab.mk 1 (aV.2.2.map I) .live]],b6:=[],b5:=true})) (o 1 (ad (.eT 20 (.agg [.b aV.1,jV 0 1 1 (some (dU.length,aV.2.1.length)),jV 0 1 1 (some ((dU.length+1),aV.2.2.length))]) .cY) []))))),.J (o 3 []),.a4 [0] [.dO (ab.mk 3 ((ek.set (0+ai.toNat) (⟨(⟨aV.1,(some (dU.length,aV.2.1.length))⟩:eU),(some ((dU.length+1),aV.2.2.length))⟩:c7)).map (aw 0 1)) .live::((dU++[aV.2.1,aV.2.2]).map (bq .live 1 I)))] [(0,ii),(3,e6 ((ek.set (0+ai.toNat) (⟨(⟨aV.1,(some (dU.length,aV.2.1.length))⟩:eU),(some ((dU.length+1),aV.2.2.length))⟩:c7)).length)),(4,ii)]] (.bh h1 h2.1 (dd eTRat h2.2) (cB eTRat ap) (df (dh (aW:=(cj [.row 11])) 1 .live I (aD I aV.2.1) (fun x=>(dg ev) x)) (df (dh (aW:=(cj [.row 11])) 1 .live I (aD I aV.2.2) (fun x=>(dg ev) x)) (jo (aW:=(cj [.row 11]))))) ((er rfl (er rfl kW)):eF [ab.mk 1 (aV.2.1.map I) .live,ab.mk 1 (aV.2.2.map I) .live]) (Ny aV aQ) (aK.agg (cG (aK.b aV.1) (cG (aK.aN 0 0 0 aV.2.1.length) (cG (aK.aN 0 1 0 aV.2.2.length) fH)))) (.bh ((e3 (d6 (dW fu) (d6 (dW fu) gJ)) e4):eL [[ab.mk 1 (aV.2.1.map I) .live,ab.mk 1 (aV.2.2.map I) .live]]) (congrArg (· + 1) (Q9 (cA .live 1 I dU) rfl)) bd.1 bd.2 (Q7 ⟨.refl _,.s2 0 1 1 dU.length aV.2.1.length,.s2 0 1 1 (dU.length+1) aV.2.2.length,trivial⟩:iw (.agg [.b aV.1,.aN 0 (dU.length+1) 0 aV.2.1.length,.aN 0 ((dU.length+1)+1) 0 aV.2.2.length]) (.agg [.b aV.1,jV 0 1 1 (some (dU.length,aV.2.1.length)),jV 0 1 1 (some ((dU.length+1),aV.2.2.length))])) (g7 (aw 0 1) bL) (gT 3) (df (dh (aW:=(eD [0])) 3 .live (aw 0 1) (fZ (aD (aw 0 1) ek) (0+ai.toNat) (⟨(⟨aV.1,(some (dU.length,aV.2.1.length))⟩:eU),(some ((dU.length+1),aV.2.2.length))⟩:c7)) (fun x=>(fr (rfl:(eD [0]) 0=some 0)) x)) (fs (aW:=(eD [0])) (Ra (cA .live 1 I dU) (Ji a3 11 0 (dU.length+1) (aD I aV.2.1) (Ji a3 11 0 (dU.length+1) (aD I aV.2.2) (Rx 11 0 (dU.length+1))))) (fun x=>(dg ev) x))) (.e1 (fQ (ba ek) (0+ai.toNat) (⟨(⟨aV.1,(some (dU.length,aV.2.1.length))⟩:eU),(some ((dU.length+1),aV.2.2.length))⟩:c7)))))))
  (fun h1 =>
  .ret (bz [.J (o 4 []),.ah false,.a4 [0] [.dO (ab.mk 3 (ek.map (aw 0 1)) .live::(dU.map (bq .live 1 I)))] (bB [3])] (.e2 h1 (df (dh (aW:=(eD [0])) 3 .live (aw 0 1) (aD (aw 0 1) ek) (fun x=>(fr (rfl:(eD [0]) 0=some 0)) x)) (fs (aW:=(eD [0])) (cA .live 1 I dU) (fun x=>(dg ev) x))))))
theorem Mp {aa:(List bF)} {ai:Int} {ek:(List c7)} {dU:(List (List Int))} {r} (h:BS aa ai ek dU=some r):eh aY 23 0 8 [1,1,0,1,0,0] (Ab aa) (As aa) (ai,ek,dU) r:=ej (fun _=>Ld) h
def se (aa:(List bF)):Option ((List c7)×(List (List Int))) :=
 if 0≤(len_ eTRat aa)∧(56:Int)*(len_ eTRat aa)≤281474976710656∧(len_ eTRat aa)<9223372036854775808 then
 BS aa 0 (List.replicate (len_ eTRat aa).toNat (⟨(⟨false,(none:g6)⟩:eU),(none:g6)⟩:c7):List c7) ([]:List (List Int)) >>= fun r2 =>
 some (r2.1,r2.2)
 else none
theorem jl {aa:(List bF)}:bk (se aa) (fun a=>Con aY 8 [.isl 3 (aa.map eTRat)] [] (.aN 0 0 0 a.1.length) [(ab.mk 3 (a.1.map (aw 0 1)) .live::(a.2.map (bq .live 1 I)))]):=by
 unfold se
 exact .bn fun h1 =>
  .au fun r2 ag =>
  .ret (fL [.J (o 1 []),.J (o 2 (ad (.b8 [.b false,jV 3 1 1 (none:g6),jV 3 1 1 (none:g6)]) (o 1 []))),.J (o 1 []),.a4 [3] [.dO (ab.mk 3 ((List.replicate (len_ eTRat aa).toNat (⟨(⟨false,(none:g6)⟩:eU),(none:g6)⟩:c7):List c7).map (aw 0 1)) .live::(([]:List (List Int)).map (bq .live 1 I)))] [(0,ii),(3,e6 ((List.replicate (len_ eTRat aa).toNat (⟨(⟨false,(none:g6)⟩:eU),(none:g6)⟩:c7):List c7).length)),(4,ii)],(As aa r2).fo,.J (o 2 [])] [0] [.dO (ab.mk 3 (r2.1.map (aw 0 1)) .live::(r2.2.map (bq .live 1 I)))] (.gz h1.1 (Int.le_refl (len_ eTRat aa)) h1.2.1 h1.2.2 (df (dh (aW:=(eD [3])) 3 .live (aw 0 1) (kB (aw 3 1) (len_ eTRat aa).toNat (⟨(⟨false,(none:g6)⟩:eU),(none:g6)⟩:c7)) (fun x=>(fr (rfl:(eD [3]) 3=some 0)) x)) (fs (aW:=(eD [3])) (Q8 .live 1 I) (fun x=>(dg ev) x))) (kC (len_ eTRat aa).toNat ((⟨(⟨false,(none:g6)⟩:eU),(none:g6)⟩:c7):c7)) (Mp ag) (df (dh (aW:=(eD [0])) 3 .live (aw 0 1) (aD (aw 0 1) r2.1) (fun x=>(fr (rfl:(eD [0]) 0=some 0)) x)) (fs (aW:=(eD [0])) (cA .live 1 I r2.2) (fun x=>(dg ev) x)))))
def lu (bc:Int) (jc:Int) (jr:Int):Option Bool :=
 if (decide (jc≤bc))=true then
  some (decide (bc≤jr))
 else
  some false
theorem pP {bc:Int} {jc:Int} {jr:Int}:bk (lu bc jc jr) (fun r=>Con aY 82 [.n .i64 bc,.n .i64 jc,.n .i64 jr] [] (.b r) []):=by
 unfold lu
 exact .ite (fun h1 =>
  .ret (aU [.J (o 1 []),.J (o 7 (ad (.ah true) (o 1 [])))] (.cp h1 h1 h1 h1)))
  (fun h1 =>
  .ret (aU [.J (o 1 []),.J (o 4 (ch 3 (ad (.ah false) (o 1 []))))] (.cp h1 h1 h1 h1)))
def AP (aH:ByteArray):Int→S:=fun ai=>dy [(0,.s aH),(3,.n .i64 ai)] []
def FK (aH:ByteArray):((Unit)⊕(Unit))→dB
 | .inl a=>⟨some 0,[(0,.s aH)],[]⟩
 | .inr a=>⟨none,[(2,.b false)],[]⟩
def oy (aH:ByteArray) (ai:Int):Option ((Int)⊕((Unit)⊕(Unit))) :=
 if (decide (ai<(aH.size:Int)))=true then
  if 0≤ai∧ai<(aH.size:Nat) then
  if (decide ((97:Int)≤((aH.data.toList.getD ai.toNat 0).toNat:Int)))=true then
   if (decide (((aH.data.toList.getD ai.toNat 0).toNat:Int)≤(122:Int)))=true then
    some (.inl (U (ai+(1:Int))))
   else
    if (ai == (0:Int))=true then
     some (.inr (.inr ()))
    else
     if (decide (((aH.data.toList.getD ai.toNat 0).toNat:Int)<(48:Int)))=true then
      some (.inr (.inr ()))
     else
      if (decide ((57:Int)<((aH.data.toList.getD ai.toNat 0).toNat:Int)))=true then
       some (.inr (.inr ()))
      else
       some (.inl (U (ai+(1:Int))))
  else
   if (ai == (0:Int))=true then
    some (.inr (.inr ()))
   else
    if (decide (((aH.data.toList.getD ai.toNat 0).toNat:Int)<(48:Int)))=true then
     some (.inr (.inr ()))
    else
     if (decide ((57:Int)<((aH.data.toList.getD ai.toNat 0).toNat:Int)))=true then
      some (.inr (.inr ()))
     else
      some (.inl (U (ai+(1:Int))))
  else none
 else
  some (.inr (.inl ()))
def ur (aH:ByteArray) (ai:Int):Option ((Unit)⊕(Unit)):=iter (fun w:Int=>oy aH w) ai
theorem LF {aH:ByteArray} {ai:Int}:bk (oy aH ai) (eg aY 42 0 107 [1,0,1,0,0] (AP aH ai) (AP aH) (FK aH)):=by
 unfold oy
 exact .ite (fun h1 =>
  .bn fun h2 =>
  .ite (fun ag =>
  (let t1:List bE:=[.J (o 4 []),.ah true,.J (o 9 (ad (.ah true) (o 1 [])))];
  have aO:=((.bh h1 h2.1 h2.2 ag ag ag h2.1 h2.2 (.e2 ag ag)):cd _);
  .ite (fun ap =>
  .ret (bz (t1.append [.J (o 3 (ch 3 (o 4 (ch 2 (o 4 (ch 1 (ad (.ah false) []))))))),.ah false,.J (o 3 []),.a4 [] [] (bB [0,3])]) (aO.az (.gz (bK ap) (bK ap) (bK ap) (bK ap) (bK ap) (bK ap) (bK ap) fP))))
  (fun ap =>
  (have dZ:=aO.az (.bp (b3 ap) (b3 ap) (b3 ap));
  .ite (fun aE =>
  .ret (bz (t1.append [.J (o 6 (ch 4 (ad (.ah true) (o 1 (ch 4 (o 1 (ad (.ah true) []))))))),.ah true,.J (o 1 []),.a4 [] [] (bB [2])]) (dZ.az (.bh aE aE aE aE (b3 ap) aE (b3 ap) bG (.d5 bG bG bG (b3 ap) (b3 ap) bG)))))
  (fun aE =>
  (have d4:=dZ.az (.bh aE aE aE h2.1 h2.2 aE (b3 ap) aE (.e1 (b3 ap)));
  .ite (fun aQ =>
  .ret (bz (t1.append [.J (o 10 (ad (.ah false) (o 1 (ch 4 (ad (.ah true) (ad (.ah true) [])))))),.ah true,.J (o 1 []),.a4 [] [] (bB [2])]) (d4.az (.gz aQ aQ aQ aQ (b3 ap) aQ (b3 ap) bG))))
  (fun aQ =>
  (let t5:List bE:=t1.append [.J (o 10 (ad (.ah false) (o 5 (ad (.ah false) (ad (.ah true) [])))))];
  have jy:=d4.az (.bh aQ aQ aQ h2.1 h2.2 aQ (b3 ap) aQ (.e1 (b3 ap)));
  .ite (fun bd =>
  .ret (bz (t5.append [.ah true,.J (o 1 []),.a4 [] [] (bB [2])]) (jy.az (.e1 bd))))
  (fun bd =>
  .ret (bz (t5.append [.ah false,.J (o 3 []),.a4 [] [] (bB [0,3])]) (jy.az (.e1 bd))))))))))))
  (fun ag =>
  (let t1:List bE:=[.J (o 4 []),.ah true,.J (o 5 (ch 4 (ad (.ah false) (o 1 []))))];
  have aO:=((.bh h1 h2.1 h2.2 ag ag ag ag ag (.bp bG bG bG)):cd _);
  .ite (fun ap =>
  .ret (bz (t1.append [.J (o 6 (ch 4 (ad (.ah true) (o 1 (ch 4 (o 2 [])))))),.ah true,.J (o 1 []),.a4 [] [] (bB [2])]) (aO.az (.bh ap ap ap ap bG ap bG bG (.cM bG bG bG bG bG)))))
  (fun ap =>
  (have dZ:=aO.az (.bh ap ap ap h2.1 h2.2 ap bG ap (.e1 bG));
  .ite (fun aE =>
  .ret (bz (t1.append [.J (o 10 (ad (.ah false) (o 1 (ch 4 (ad (.ah true) (o 1 [])))))),.ah true,.J (o 1 []),.a4 [] [] (bB [2])]) (dZ.az (.dP aE aE aE aE bG aE bG))))
  (fun aE =>
  (let t4:List bE:=t1.append [.J (o 10 (ad (.ah false) (o 5 (ad (.ah false) (o 1 [])))))];
  have kd:=dZ.az (.gz aE aE aE h2.1 h2.2 aE bG aE);
  .ite (fun aQ =>
  .ret (bz (t4.append [.ah true,.J (o 1 []),.a4 [] [] (bB [2])]) (kd.az (.e1 aQ))))
  (fun aQ =>
  .ret (bz (t4.append [.ah false,.J (o 3 []),.a4 [] [] (bB [0,3])]) (kd.az (.e1 aQ)))))))))))
  (fun h1 =>
  .ret (bz [.J (o 4 []),.ah false,.a4 [] [] (bB [0])] (.e1 h1)))
theorem FT {aH:ByteArray} {ai:Int} {r} (h:ur aH ai=some r):eh aY 42 0 107 [1,0,1,0,0] (AP aH) (FK aH) ai r:=ej (fun _=>LF) h
def pY (aH:ByteArray):Option Bool :=
 ur aH 0 >>= fun r1 =>
 match r1 with
 | .inl dR=>(lu (aH.size:Int) 1 8 >>= fun bb =>
  some bb)
 | .inr dR=>(some false)
theorem NQ {aH:ByteArray}:bk (pY aH) (fun r=>Con aY 107 [.s aH] [] (.b r) []):=by
 unfold pY
 exact .au fun r1 h2 =>
  (let t1:List bE:=[.J (o 1 []),.J (o 1 []),.a4 [] [] (bB [0,3])];
  (by
  rcases r1 with dR|dR
  ·exact (.au fun bb aE =>
  .ret (aU (t1.append [.sub (.exit 0) [(0,.s aH)] [],.J (o 2 (ad (a7 3 (.b bb) true) (o 1 [])))]) (.bp (FT h2) (pP bb aE) (aK.b bb))))
  ·exact (.ret (aU (t1.append [.sub (.ret) [(2,.b false)] []]) (.e1 (FT h2))))))
def mP (c2:bg):Option Bool :=
 pY c2.ed >>= fun r1 =>
 if r1=true then
  lu c2.eu (-50) 50 >>= fun bb =>
  if bb=true then
   lu c2.dV (-50) 50 >>= fun bw =>
   some bw
  else
   some false
 else
  some false
theorem Nz {c2:bg}:bk (mP c2) (fun r=>Con aY 80 [.agg [.s c2.ed,.n .i64 c2.eu,.n .i64 c2.dV,.b c2.cS]] [] (.b r) []):=by
 unfold mP
 exact .au fun r1 h2 =>
  (have bt:=((.e2 (NQ r1 h2) (aK.b r1)):cd _);
  .ite (fun ag =>
  .au fun bb aE =>
  (have aO:=bt.az (.d5 ag ag ag (pP bb aE) (aK.b bb) ag);
  .ite (fun aQ =>
  .au fun bw bL =>
  .ret (aU [.J (o 2 []),.J (o 2 (ad (a7 1 (.b r1) true) (o 3 (ad (a7 3 (.b bb) true) (ad (.ah true) (o 3 (ad (a7 3 (.b bw) true) (ad (.ah true) (o 1 [])))))))))] (aO.az (.d5 aQ aQ aQ (pP bw bL) (aK.b bw) aQ))))
  (fun aQ =>
  .ret (aU [.J (o 2 []),.J (o 2 (ad (a7 1 (.b r1) true) (o 3 (ad (a7 3 (.b bb) true) (ad (.ah true) (o 1 (ch 3 (ad (.ah false) (o 1 [])))))))))] (aO.az (.cp aQ aQ aQ aQ))))))
  (fun ag =>
  .ret (aU [.J (o 2 []),.J (o 2 (ad (a7 1 (.b r1) true) (o 1 (ch 3 (ad (.ah false) (o 1 (ch 3 (o 2 []))))))))] (bt.az (.dP ag ag ag ag fP fP fP)))))
def zV (hY:ByteArray) (di:(List bg)) (du:Int):Int→S:=fun cr=>dy [(1,.s hY),(8,.isl 4 (di.map aG)),(9,.n .i64 du),(10,.n .i64 cr)] []
def Fl (hY:ByteArray) (di:(List bg)) (du:Int):((Unit)⊕(Int))→dB
 | .inl a=>⟨some 0,[],[]⟩
 | .inr a=>⟨none,[(4,.n .i64 a)],[]⟩
def ry (hY:ByteArray) (di:(List bg)) (du:Int) (cr:Int):Option ((Int)⊕((Unit)⊕(Int))) :=
 if (decide (cr<du))=true then
  if 0≤cr∧cr<di.length then
  di[cr.toNat]? >>= fun an =>
  if (an.ed.toList == hY.toList)=true then
   some (.inr (.inr cr))
  else
   some (.inl (U (cr+(1:Int))))
  else none
 else
  some (.inr (.inl ()))
def rV (hY:ByteArray) (di:(List bg)) (du:Int) (cr:Int):Option ((Unit)⊕(Int)):=iter (fun w:Int=>ry hY di du w) cr
theorem K3 {hY:ByteArray} {di:(List bg)} {du:Int} {cr:Int}:bk (ry hY di du cr) (eg aY 21 0 81 [1,0,1,0,0] (zV hY di du cr) (zV hY di du) (Fl hY di du)):=by
 unfold ry
 exact .ite (fun h1 =>
  .bn fun h2 =>
  .au fun an ap =>
  (let t1:List bE:=[.J (o 1 []),.ah true,.J (o 2 (ad (.b8 (aG an)) (o 3 []))),.J (o 4 [])];
  have aO:=((.cp h1 h2.1 (dd aG h2.2) (cB aG ap)):cd _);
  .ite (fun aE =>
  .ret (bz (t1.append [.ah true,.J (o 2 []),.a4 [] [] (bB [4])]) (aO.az (.e1 aE))))
  (fun aE =>
  .ret (bz (t1.append [.ah false,.J (o 2 []),.a4 [] [] (bB [1,8,9,10])]) (aO.az (.e1 aE))))))
  (fun h1 =>
  .ret (bz [.J (o 1 []),.ah false,.a4 [] [] []] (.e1 h1)))
theorem Fs {hY:ByteArray} {di:(List bg)} {du:Int} {cr:Int} {r} (h:rV hY di du cr=some r):eh aY 21 0 81 [1,0,1,0,0] (zV hY di du) (Fl hY di du) cr r:=ej (fun _=>K3) h
def pN (aH:c4) (hY:ByteArray):Option Int :=
 rV hY aH.a6 (len_ aG aH.a6) 0 >>= fun r1 =>
 match r1 with
 | .inl dR=>(some (-1))
 | .inr dR=>(some dR)
theorem MB {aH:c4} {hY:ByteArray}:bk (pN aH hY) (fun r=>Con aY 81 [.agg [.isl 4 (aH.a6.map aG),.isl 3 (aH.b9.map aZ)],.s hY] [] (.n .i64 r) []):=by
 unfold pN
 exact .au fun r1 h2 =>
  (let t1:List bE:=[.J (o 2 []),.J (o 4 []),.a4 [] [] (bB [1,8,9,10])];
  (by
  rcases r1 with dR|dR
  ·exact (.ret (aU (t1.append [.sub (.exit 0) [] [],.J (o 1 [])]) (.e1 (Fs h2))))
  ·exact (.ret (aU (t1.append [.sub (.ret) [(4,.n .i64 dR)] []]) (.e1 (Fs h2))))))
def zO (gC:(List bg)) (e5:Int) (ff:(List bR)):Int→S:=fun kF=>dy [(1,.ref 0 0 0 0),(21,.isl 4 (gC.map aG)),(22,.n .i64 e5),(23,.n .i64 kF)] [[ab.mk 2 [[.isl 4 (gC.map aG),.isl 3 (ff.map aZ)]] .live]]
def zW (gC:(List bg)) (e5:Int) (ff:(List bR)):((Unit)⊕(Unit))→dB
 | .inl a=>⟨some 0,[(1,.ref 0 0 0 0)],[[ab.mk 2 [[.isl 4 (gC.map aG),.isl 3 (ff.map aZ)]] .live]]⟩
 | .inr a=>⟨none,[(2,.b false)],[]⟩
def nt (gC:(List bg)) (e5:Int) (ff:(List bR)) (kF:Int):Option ((Int)⊕((Unit)⊕(Unit))) :=
 if (decide (kF<e5))=true then
  if 0≤kF∧kF<gC.length then
  gC[kF.toNat]? >>= fun an =>
  mP an >>= fun aV =>
  if aV=true then
   pN (⟨gC,ff⟩:c4) an.ed >>= fun eM =>
   if (eM != kF)=true then
    some (.inr (.inr ()))
   else
    some (.inl (U (kF+(1:Int))))
  else
   some (.inr (.inr ()))
  else none
 else
  some (.inr (.inl ()))
def pB (gC:(List bg)) (e5:Int) (ff:(List bR)) (kF:Int):Option ((Unit)⊕(Unit)):=iter (fun w:Int=>nt gC e5 ff w) kF
theorem KX {gC:(List bg)} {e5:Int} {ff:(List bR)} {kF:Int}:bk (nt gC e5 ff kF) (eg aY 102 0 51 [1,1,0,1,0,0] (zO gC e5 ff kF) (zO gC e5 ff) (zW gC e5 ff)):=by
 unfold nt
 exact .ite (fun h1 =>
  .bn fun h2 =>
  .au fun an ap =>
  .au fun aV aQ =>
  (let t1:List bE:=[.J (o 1 []),.ah true,.J (o 2 (ad (.b8 (aG an)) (o 3 [])))];
  have aO:=((.d5 h1 h2.1 (dd aG h2.2) (cB aG ap) (Nz aV aQ) (aK.b aV)):cd _);
  .ite (fun bd =>
  .au fun eM c3 =>
  (let t3:List bE:=t1.append [.J (o 1 (ad (a7 1 (.b aV) true) (o 5 (ad (a7 2 (.n .i64 eM) true) (o 2 (ad (.ah false) []))))))];
  have d4:=aO.az (.bh (bK bd) (bK bd) (bK bd) (bK bd) (MB eM c3) (aK.n .i64 eM) (bK bd) (bK bd) (.e1 (bK bd)));
  .ite (fun cR =>
  .ret (bz (t3.append [.ah true,.J (o 1 []),.a4 [] [] (bB [2])]) (d4.az (.e1 cR))))
  (fun cR =>
  .ret (bz (t3.append [.ah false,.J (o 2 []),.a4 [0] [.box [.id,.id]] (bB [1,21,22,23])]) (d4.az (.e1 cR))))))
  (fun bd =>
  .ret (bz (t1.append [.J (o 1 (ad (a7 1 (.b aV) true) (o 2 (ch 6 (ad (.ah true) []))))),.ah true,.J (o 1 []),.a4 [] [] (bB [2])]) (aO.az (.gz (b3 bd) (b3 bd) (b3 bd) (b3 bd) (b3 bd) (b3 bd) (b3 bd) bG))))))
  (fun h1 =>
  .ret (bz [.J (o 1 []),.ah false,.a4 [0] [.box [.id,.id]] (bB [1])] (.e1 h1)))
theorem Fm {gC:(List bg)} {e5:Int} {ff:(List bR)} {kF:Int} {r} (h:pB gC e5 ff kF=some r):eh aY 102 0 51 [1,1,0,1,0,0] (zO gC e5 ff) (zW gC e5 ff) kF r:=ej (fun _=>KX) h
def zP (kD:Int) (kl:(List bR)) (k3:Int) (e9:(List bg)):Int→S:=fun gD=>dy [(1,.ref 0 0 0 0),(5,.n .i64 kD),(45,.isl 3 (kl.map aZ)),(46,.n .i64 k3),(47,.n .i64 gD)] [[ab.mk 2 [[.isl 4 (e9.map aG),.isl 3 (kl.map aZ)]] .live]]
def Fk (kD:Int) (kl:(List bR)) (k3:Int) (e9:(List bg)):((Unit)⊕(Unit))→dB
 | .inl a=>⟨some 2,[],[]⟩
 | .inr a=>⟨none,[(2,.b false)],[]⟩
def tY (kD:Int) (kl:(List bR)) (k3:Int) (e9:(List bg)) (gD:Int):Option ((Int)⊕((Unit)⊕(Unit))) :=
 if (decide (gD<k3))=true then
  if 0≤gD∧gD<kl.length then
  kl[gD.toNat]? >>= fun an =>
  lu an.de 0 kD >>= fun aV =>
  if aV=true then
   lu an.c1 0 kD >>= fun eM =>
   if eM=true then
    lu an.eK 1 3 >>= fun cN =>
    if cN=true then
     if 0≤an.de∧an.de<e9.length then
     e9[an.de.toNat]? >>= fun tG =>
     if 0≤an.c1∧an.c1<e9.length then
     e9[an.c1.toNat]? >>= fun tH =>
     if (tG.eu == tH.eu)=true then
      if (tG.dV == tH.dV)=true then
       some (.inr (.inr ()))
      else
       if tG.cS=true then
        if tH.cS=true then
         some (.inr (.inr ()))
        else
         some (.inl (U (gD+(1:Int))))
       else
        some (.inl (U (gD+(1:Int))))
     else
      if tG.cS=true then
       if tH.cS=true then
        some (.inr (.inr ()))
       else
        some (.inl (U (gD+(1:Int))))
      else
       some (.inl (U (gD+(1:Int))))
     else none
     else none
    else
     some (.inr (.inr ()))
   else
    some (.inr (.inr ()))
  else
   some (.inr (.inr ()))
  else none
 else
  some (.inr (.inl ()))
def AQ (kD:Int) (kl:(List bR)) (k3:Int) (e9:(List bg)) (gD:Int):Option ((Unit)⊕(Unit)):=iter (fun w:Int=>tY kD kl k3 e9 w) gD
theorem KY {kD:Int} {kl:(List bR)} {k3:Int} {e9:(List bg)} {gD:Int}:bk (tY kD kl k3 e9 gD) (eg aY 102 0 51 [1,1,1,1,0,1,0,0] (zP kD kl k3 e9 gD) (zP kD kl k3 e9) (Fk kD kl k3 e9)):=by
 unfold tY
 exact .ite (fun h1 =>
  .bn fun h2 =>
  .au fun an ap =>
  .au fun aV aQ =>
  (let t1:List bE:=[.J (o 1 []),.ah true,.J (o 1 (ad (.b8 (aZ an)) (o 2 [])))];
  have aO:=((.d5 h1 h2.1 (dd aZ h2.2) (cB aZ ap) (pP aV aQ) (aK.b aV)):cd _);
  .ite (fun bd =>
  .au fun eM c3 =>
  (have dZ:=aO.az (.gz (bK bd) (bK bd) (bK bd) (bK bd) (pP eM c3) (aK.b eM) (bK bd) (bK bd));
  .ite (fun cR =>
  .au fun cN fB =>
  (let t4:List bE:=t1.append [.J (o 3 (ad (a7 3 (.b aV) true) (o 5 (ad (a7 3 (.b eM) true) (o 1 (ad (.ah false) (o 3 (ad (a7 3 (.b cN) true) (o 1 (ad (.ah false) []))))))))))];
  have kd:=dZ.az (.dP (bK cR) (bK cR) (bK cR) (pP cN fB) (aK.b cN) (bK cR) (bK cR));
  .ite (fun ex =>
  .bn fun ez =>
  .au fun tG gY =>
  .bn fun hq =>
  .au fun tH ks =>
  (let t6:List bE:=t4.append [.ah false,.J (o 5 (ad (.b8 (aG tG)) (o 2 []))),.J (o 5 (ad (.b8 (aG tH)) (o 2 [])))];
  have E9:=kd.az (.dP (bK ex) ez.1 (dd aG ez.2) (cB aG gY) hq.1 (dd aG hq.2) (cB aG ks));
  .ite (fun hR =>
  .ite (fun fM =>
  .ret (bz (t6.append [.J (o 11 (ad (.ah true) (o 1 (ch 3 (o 2 (ch 1 (ad (.ah true) []))))))),.ah true,.J (o 1 []),.a4 [] [] (bB [2])]) (E9.az (.bh hR hR hR hR hR hR fM fM (.cp fM fM fM bG)))))
  (fun fM =>
  (have jW:=E9.az (.bh hR hR hR hR hR hR fM fM (.e1 fM));
  .ite (fun jj =>
  (let t9:List bE:=t6.append [.J (o 11 (ad (.ah true) (o 6 (ad (.ah true) (ad (.ah false) [])))))];
  .ite (fun nQ =>
  .ret (bz (t9.append [.ah true,.J (o 1 []),.a4 [] [] (bB [2])]) (jW.az (.d5 jj jj fM jj fM nQ))))
  (fun nQ =>
  .ret (bz (t9.append [.ah false,.J (o 2 []),.a4 [0] [.box [.id,.id]] (bB [1,5,45,46,47])]) (jW.az (.d5 jj jj fM jj fM nQ))))))
  (fun jj =>
  .ret (bz (t6.append [.J (o 11 (ad (.ah true) (o 4 (ch 2 (ad (.ah false) (ad (.ah false) [])))))),.ah false,.J (o 2 []),.a4 [0] [.box [.id,.id]] (bB [1,5,45,46,47])]) (jW.az (.d5 jj jj fM jj fM fP)))))))
  (fun hR =>
  (have jW:=E9.az (.bh hR hR hR hR hR hR fP fP (.e1 fP));
  .ite (fun fM =>
  (let t9:List bE:=t6.append [.J (o 6 (ch 5 (ad (.ah false) (o 6 (ad (.ah true) (o 1 []))))))];
  .ite (fun jj =>
  .ret (bz (t9.append [.ah true,.J (o 1 []),.a4 [] [] (bB [2])]) (jW.az (.cM fM fM fP fM jj))))
  (fun jj =>
  .ret (bz (t9.append [.ah false,.J (o 2 []),.a4 [0] [.box [.id,.id]] (bB [1,5,45,46,47])]) (jW.az (.cM fM fM fP fM jj))))))
  (fun fM =>
  .ret (bz (t6.append [.J (o 6 (ch 5 (ad (.ah false) (o 4 (ch 2 (ad (.ah false) (o 1 []))))))),.ah false,.J (o 2 []),.a4 [0] [.box [.id,.id]] (bB [1,5,45,46,47])]) (jW.az (.cM fM fM fP fM fP))))))))
  (fun ex =>
  .ret (bz (t4.append [.ah true,.J (o 1 []),.a4 [] [] (bB [2])]) (kd.az (.e1 (b3 ex)))))))
  (fun cR =>
  .ret (bz (t1.append [.J (o 3 (ad (a7 3 (.b aV) true) (o 5 (ad (a7 3 (.b eM) true) (o 1 (ad (.ah false) (o 1 (ch 4 (ad (.ah true) []))))))))),.ah true,.J (o 1 []),.a4 [] [] (bB [2])]) (dZ.az (.d5 (b3 cR) (b3 cR) (b3 cR) (b3 cR) (b3 cR) bG))))))
  (fun bd =>
  .ret (bz (t1.append [.J (o 3 (ad (a7 3 (.b aV) true) (o 2 (ch 5 (ad (.ah true) (o 1 (ch 4 (o 1 [])))))))),.ah true,.J (o 1 []),.a4 [] [] (bB [2])]) (aO.az (.bh (b3 bd) (b3 bd) (b3 bd) (b3 bd) (b3 bd) (b3 bd) bG bG (.bp bG bG bG)))))))
  (fun h1 =>
  .ret (bz [.J (o 1 []),.ah false,.a4 [] [] []] (.e1 h1)))
theorem Fo {kD:Int} {kl:(List bR)} {k3:Int} {e9:(List bg)} {gD:Int} {r} (h:AQ kD kl k3 e9 gD=some r):eh aY 102 0 51 [1,1,1,1,0,1,0,0] (zP kD kl k3 e9) (Fk kD kl k3 e9) gD r:=ej (fun _=>KY) h
def nU (aH:c4):Option Bool :=
 if (decide ((6:Int)<(len_ aG aH.a6)))=true then
  some false
 else
  if (decide ((8:Int)<(len_ aZ aH.b9)))=true then
   some false
  else
   pB aH.a6 (len_ aG aH.a6) aH.b9 0 >>= fun a2 =>
   match a2 with
   | .inl cw=>(AQ (U ((len_ aG aH.a6)-(1:Int))) aH.b9 (len_ aZ aH.b9) aH.a6 0 >>= fun dk =>
    match dk with
    | .inl gU=>(some true)
    | .inr gU=>(some false))
   | .inr cw=>(some false)
theorem FC {aH:c4}:bk (nU aH) (fun r=>Con aY 51 [.agg [.isl 4 (aH.a6.map aG),.isl 3 (aH.b9.map aZ)]] [] (.b r) []):=by
 unfold nU
 exact .ite (fun h1 =>
  .ret (aU [.J (o 2 []),.J (o 5 (ch 4 (ad (.ah true) []))),.ah true,.J (o 1 [])] (.d5 h1 h1 h1 h1 h1 bG)))
  (fun h1 =>
  (let t1:List bE:=[.J (o 2 []),.J (o 9 (ad (.ah false) []))];
  .ite (fun h2 =>
  .ret (aU (t1.append [.ah true,.J (o 1 [])]) (.d5 h1 h1 h1 h1 h1 h2)))
  (fun h2 =>
  .au fun a2 ap =>
  (let t2:List bE:=t1.append [.ah false,.J (o 4 []),.a4 [0] [.box [.id,.id]] (bB [1,21,22,23])];
  (by
  rcases a2 with cw|cw
  ·exact (.au fun dk bd =>
  (let t3:List bE:=t2.append [(zW aH.a6 (len_ aG aH.a6) aH.b9 (.inl cw)).fo,.J (o 5 []),.J (o 4 []),.a4 [0] [.box [.id,.id]] (bB [1,5,45,46,47])];
  have d4:=((.dP h1 h1 h1 h1 h1 h2 (Fm ap)):cd _);
  (by
  rcases dk with gU|gU
  ·exact (.ret (aU (t3.append [.sub (.exit 2) [] [],.J (o 1 [])]) (d4.az (.e1 (Fo bd)))))
  ·exact (.ret (aU (t3.append [.sub (.ret) [(2,.b false)] []]) (d4.az (.e1 (Fo bd))))))))
  ·exact (.ret (aU (t2.append [.sub (.ret) [(2,.b false)] []]) (.dP h1 h1 h1 h1 h1 h2 (Fm ap)))))))))
def Bf (aa:(List Int)) (fl:Int):Int→S:=fun dA=>dy [(0,.isl 1 (aa.map I)),(5,.isl 1 (aa.map I)),(6,.n .i64 fl),(7,.n .i64 dA)] []
def FU (aa:(List Int)) (fl:Int):((Unit)⊕(Unit))→dB
 | .inl a=>⟨some 0,[(0,.isl 1 (aa.map I))],[]⟩
 | .inr a=>⟨none,[(2,.b false)],[]⟩
def rW (aa:(List Int)) (fl:Int) (dA:Int):Option ((Int)⊕((Unit)⊕(Unit))) :=
 if (decide (dA<fl))=true then
  if 0≤dA∧dA<aa.length then
  aa[dA.toNat]? >>= fun an =>
  lu an 0 999999999 >>= fun aV =>
  if aV=true then
   some (.inl (U (dA+(1:Int))))
  else
   some (.inr (.inr ()))
  else none
 else
  some (.inr (.inl ()))
def Cz (aa:(List Int)) (fl:Int) (dA:Int):Option ((Unit)⊕(Unit)):=iter (fun w:Int=>rW aa fl w) dA
theorem LW {aa:(List Int)} {fl:Int} {dA:Int}:bk (rW aa fl dA) (eg aY 32 0 60 [1,0,1,0,0] (Bf aa fl dA) (Bf aa fl) (FU aa fl)):=by
 unfold rW
 exact .ite (fun h1 =>
  .bn fun h2 =>
  .au fun an ap =>
  .au fun aV aQ =>
  (let t1:List bE:=[.J (o 1 []),.ah true,.J (o 1 (ad (.b8 (I an)) (o 1 []))),.J (o 1 (ad (a7 3 (.b aV) true) (o 1 [])))];
  have aO:=((.d5 h1 h2.1 (dd I h2.2) (cB I ap) (pP aV aQ) (aK.b aV)):cd _);
  .ite (fun bd =>
  .ret (bz (t1.append [.ah false,.J (o 2 []),.a4 [] [] (bB [0,5,6,7])]) (aO.az (.e1 (bK bd)))))
  (fun bd =>
  .ret (bz (t1.append [.ah true,.J (o 1 []),.a4 [] [] (bB [2])]) (aO.az (.e1 (b3 bd)))))))
  (fun h1 =>
  .ret (bz [.J (o 1 []),.ah false,.a4 [] [] (bB [0])] (.e1 h1)))
theorem BT {aa:(List Int)} {fl:Int} {dA:Int} {r} (h:Cz aa fl dA=some r):eh aY 32 0 60 [1,0,1,0,0] (Bf aa fl) (FU aa fl) dA r:=ej (fun _=>LW) h
def oM (aa:(List Int)):Option Bool :=
 Cz aa (len_ I aa) 0 >>= fun r1 =>
 match r1 with
 | .inl dR=>(if (decide ((len_ I aa)≤(60:Int)))=true then
  if ((len_ I aa) == (0:Int))=true then
   some true
  else
   if 0≤(U ((len_ I aa)-(1:Int)))∧(U ((len_ I aa)-(1:Int)))<aa.length then
   aa[(U ((len_ I aa)-(1:Int))).toNat]? >>= fun bU =>
   some (bU != (0:Int))
   else none
  else
   some false)
 | .inr dR=>(some false)
theorem CA {aa:(List Int)}:bk (oM aa) (fun r=>Con aY 60 [.isl 1 (aa.map I)] [] (.b r) []):=by
 unfold oM
 exact .au fun r1 h2 =>
  (let t1:List bE:=[.J (o 1 []),.J (o 3 []),.a4 [] [] (bB [0,5,6,7])];
  (by
  rcases r1 with dR|dR
  ·exact ((let t2:List bE:=t1.append [.sub (.exit 0) [(0,.isl 1 (aa.map I))] []];
  .ite (fun ap =>
  (have dZ:=((.cM (BT h2) ap ap ap ap):cd _);
  .ite (fun aE =>
  .ret (aU (t2.append [.J (o 8 (ch 7 (ad (.ah true) (ad (.ah true) (o 1 [])))))]) (dZ.az (.bh aE aE aE aE aE aE aE ap (.e2 aE ap)))))
  (fun aE =>
  .bn fun aQ =>
  .au fun bU bL =>
  .ret (aU (t2.append [.J (o 13 (ad (.b8 (I bU)) (o 1 (ad (.ah false) (ad (.ah true) (o 1 []))))))]) (dZ.az (.bh aE aE aE aE aE aQ.1 (dd I aQ.2) aE (.cM (cB I bL) aE ap aE ap)))))))
  (fun ap =>
  .ret (aU (t2.append [.J (o 4 (ch 4 (o 7 (ch 1 (ad (.ah false) (o 1 []))))))]) (.dP (BT h2) ap ap ap ap ap ap)))))
  ·exact (.ret (aU (t1.append [.sub (.ret) [(2,.b false)] []]) (.e1 (BT h2))))))
def uy (bS:cZ):Option Bool :=
 oM bS.a9 >>= fun r1 =>
 if r1=true then
  if bS.bM=true then
   some (decide ((0:Int)<(len_ I bS.a9)))
  else
   some true
 else
  some false
theorem M8 {bS:cZ}:bk (uy bS) (fun r=>Con aY 59 [.agg [.b bS.bM,.isl 1 (bS.a9.map I)]] [] (.b r) []):=by
 unfold uy
 exact .au fun r1 h2 =>
  (have bt:=((.e2 (CA r1 h2) (aK.b r1)):cd _);
  .ite (fun ag =>
  .ite (fun ap =>
  .ret (aU [.J (o 2 []),.J (o 2 (ad (a7 1 (.b r1) true) (o 9 (ad (.ah false) (ad (.ah true) (o 1 []))))))] (bt.az (.bh ag ag ag ag (bK ap) (bK ap) (bK ap) (bK ap) (.bp ag (bK ap) ag)))))
  (fun ap =>
  .ret (aU [.J (o 2 []),.J (o 2 (ad (a7 1 (.b r1) true) (o 5 (ch 4 (ad (.ah true) (ad (.ah true) (o 1 [])))))))] (bt.az (.bh ag ag ag ag (b3 ap) (b3 ap) (b3 ap) (b3 ap) (.bp ag (b3 ap) ag))))))
  (fun ag =>
  .ret (aU [.J (o 2 []),.J (o 2 (ad (a7 1 (.b r1) true) (o 1 (ch 4 (o 4 (ch 1 (ad (.ah false) (o 1 []))))))))] (bt.az (.d5 ag ag ag ag ag ag)))))
def AR (aa:(List Int)) (ak:(List Int)):Int→S:=fun ai=>dy [(0,.isl 1 (aa.map I)),(1,.isl 1 (ak.map I)),(5,.n .i64 ai)] []
def FL (aa:(List Int)) (ak:(List Int)):((Unit)⊕(Int))→dB
 | .inl a=>⟨some 0,[],[]⟩
 | .inr a=>⟨none,[(4,.n .i64 a)],[]⟩
def rO (aa:(List Int)) (ak:(List Int)) (ai:Int):Option ((Int)⊕((Unit)⊕(Int))) :=
 if (decide ((0:Int)≤ai))=true then
  if 0≤ai∧ai<aa.length then
  aa[ai.toNat]? >>= fun an =>
  if 0≤ai∧ai<ak.length then
  ak[ai.toNat]? >>= fun bW =>
  if (decide (an<bW))=true then
   some (.inr (.inr (-1)))
  else
   if (decide (bW<an))=true then
    some (.inr (.inr 1))
   else
    some (.inl (U (ai-(1:Int))))
  else none
  else none
 else
  some (.inr (.inl ()))
def Cj (aa:(List Int)) (ak:(List Int)) (ai:Int):Option ((Unit)⊕(Int)):=iter (fun w:Int=>rO aa ak w) ai
theorem LG {aa:(List Int)} {ak:(List Int)} {ai:Int}:bk (rO aa ak ai) (eg aY 41 0 110 [1,1,0,1,0,0] (AR aa ak ai) (AR aa ak) (FL aa ak)):=by
 unfold rO
 exact .ite (fun h1 =>
  .bn fun h2 =>
  .au fun an ap =>
  .bn fun aE =>
  .au fun bW bd =>
  (let t1:List bE:=[.J (o 2 []),.ah true,.J (o 3 (ad (.b8 (I an)) (o 3 (ad (.b8 (I bW)) (o 1 [])))))];
  have aO:=((.dP h1 h2.1 (dd I h2.2) (cB I ap) aE.1 (dd I aE.2) (cB I bd)):cd _);
  .ite (fun bL =>
  .ret (bz (t1.append [.ah true,.J (o 1 []),.a4 [] [] (bB [4])]) (aO.az (.e1 bL))))
  (fun bL =>
  (let t3:List bE:=t1.append [.ah false,.J (o 3 (ad (.b8 (I an)) (o 3 (ad (.b8 (I bW)) (o 1 [])))))];
  have d4:=aO.az (.dP bL h2.1 (dd I h2.2) (cB I ap) aE.1 (dd I aE.2) (cB I bd));
  .ite (fun c3 =>
  .ret (bz (t3.append [.ah true,.J (o 1 []),.a4 [] [] (bB [4])]) (d4.az (.e1 c3))))
  (fun c3 =>
  .ret (bz (t3.append [.ah false,.J (o 3 []),.a4 [] [] (bB [0,1,5])]) (d4.az (.e1 c3))))))))
  (fun h1 =>
  .ret (bz [.J (o 2 []),.ah false,.a4 [] [] []] (.e1 h1)))
theorem FV {aa:(List Int)} {ak:(List Int)} {ai:Int} {r} (h:Cj aa ak ai=some r):eh aY 41 0 110 [1,1,0,1,0,0] (AR aa ak) (FL aa ak) ai r:=ej (fun _=>LG) h
def nY (aa:(List Int)) (ak:(List Int)):Option Int :=
 if ((len_ I aa) != (len_ I ak))=true then
  if (decide ((len_ I aa)<(len_ I ak)))=true then
   some (-1)
  else
   some 1
 else
  Cj aa ak (U ((len_ I aa)-(1:Int))) >>= fun r2 =>
  match r2 with
  | .inl ei=>(some 0)
  | .inr ei=>(some ei)
theorem xB {aa:(List Int)} {ak:(List Int)}:bk (nY aa ak) (fun r=>Con aY 110 [.isl 1 (aa.map I),.isl 1 (ak.map I)] [] (.n .i64 r) []):=by
 unfold nY
 exact .ite (fun h1 =>
  (let t1:List bE:=[.J (o 1 []),.J (o 5 []),.ah true,.J (o 5 [])];
  .ite (fun h2 =>
  .ret (aU (t1.append [.ah true,.J (o 1 [])]) (.e2 h1 h2)))
  (fun h2 =>
  .ret (aU (t1.append [.ah false,.J (o 1 [])]) (.e2 h1 h2)))))
  (fun h1 =>
  .au fun r2 ag =>
  (let t1:List bE:=[.J (o 1 []),.J (o 5 []),.ah false,.J (o 4 []),.a4 [] [] (bB [0,1,5])];
  (by
  rcases r2 with ei|ei
  ·exact (.ret (aU (t1.append [.sub (.exit 0) [] [],.J (o 1 [])]) (.e2 h1 (FV ag))))
  ·exact (.ret (aU (t1.append [.sub (.ret) [(4,.n .i64 ei)] []]) (.e2 h1 (FV ag)))))))
def Ac (aa:(List Int)):(Int×Int)→S:=fun (bc,ai)=>dy [(0,.isl 1 (aa.map I)),(4,.n .i64 bc),(5,.n .i64 ai)] []
def At (aa:(List Int)):Int→dB
 | a=>⟨some 0,[(4,.n .i64 a)],[]⟩
def rE (aa:(List Int)) (bc:Int) (ai:Int):Option ((Int×Int)⊕(Int)) :=
 if (decide ((0:Int)≤ai))=true then
  if 0≤ai∧ai<aa.length then
  aa[ai.toNat]? >>= fun an =>
  some (.inl (U ((U (bc*(1000000000:Int)))+an),U (ai-(1:Int))))
  else none
 else
  some (.inr bc)
def BU (aa:(List Int)) (bc:Int) (ai:Int):Option (Int):=iter (fun w:Int×Int=>rE aa w.1 w.2) (bc,ai)
theorem Le {aa:(List Int)} {bc:Int} {ai:Int}:bk (rE aa bc ai) (eg aY 30 0 88 [1,1,1,0,1,0,0] (Ac aa (bc,ai)) (Ac aa) (At aa)):=by
 unfold rE
 exact .ite (fun h1 =>
  .bn fun h2 =>
  .au fun an ap =>
  .ret (bz [.J (o 2 []),.ah true,.J (o 5 (ad (.b8 (I an)) (o 2 []))),.J (o 3 []),.a4 [] [] (bB [0,4,5])] (.cp h1 h2.1 (dd I h2.2) (cB I ap))))
  (fun h1 =>
  .ret (bz [.J (o 2 []),.ah false,.a4 [] [] (bB [4])] (.e1 h1)))
theorem Mq {aa:(List Int)} {bc:Int} {ai:Int} {r} (h:BU aa bc ai=some r):eh aY 30 0 88 [1,1,1,0,1,0,0] (Ac aa) (At aa) (bc,ai) r:=ej (fun _=>Le) h
def sf (aa:(List Int)):Option (Int×Bool) :=
 oM aa >>= fun r1 =>
 if r1=true then
  nY aa ([854775807,223372036,9]:List Int) >>= fun bb =>
  if (decide ((0:Int)<bb))=true then
   some (0,false)
  else
   BU aa 0 (U ((len_ I aa)-(1:Int))) >>= fun bw =>
   some (bw,true)
 else
  some (0,false)
theorem F4 {aa:(List Int)}:bk (sf aa) (fun r=>Con aY 88 [.isl 1 (aa.map I)] [] (.cz [.n .i64 r.1,.b r.2]) []):=by
 unfold sf
 exact .au fun r1 h2 =>
  (have bt:=((.e2 (CA r1 h2) (aK.b r1)):cd _);
  .ite (fun ag =>
  .au fun bb aE =>
  (let t2:List bE:=[.J (o 2 []),.J (o 1 (ad (a7 1 (.b r1) true) (o 4 (ad (.call {ac:=[ii,.bo (.bX (.cL (([854775807,223372036,9]:List Int).map I)))],r:= .n .i64 bb,b5:=true,b6:=[7]}) (o 1 (ad (.ah false) []))))))];
  have dZ:=bt.az (.bh (bK ag) (bK ag) (bK ag) (dv (show [[.n .i64 (854775807:Int)],[.n .i64 (223372036:Int)],[.n .i64 (9:Int)]]=(([854775807,223372036,9]:List Int)).map I from rfl) (show 3=([854775807,223372036,9]:List Int).length from rfl)) (cq (show [[.n .i64 (854775807:Int)],[.n .i64 (223372036:Int)],[.n .i64 (9:Int)]]=(([854775807,223372036,9]:List Int)).map I from rfl) (show 3=([854775807,223372036,9]:List Int).length from rfl)) (cn a3 ([854775807,223372036,9]:List Int)) (xB bb aE) (aK.n .i64 bb) (.e2 (bK ag) (bK ag)));
  .ite (fun aQ =>
  .ret (aU (t2.append [.ah true,.J (o 2 [])]) (dZ.az (.e1 aQ))))
  (fun aQ =>
  .au fun bw bL =>
  .ret (aU (t2.append [.ah false,.J (o 1 []),.J (o 4 []),.a4 [] [] (bB [0,4,5]),(At aa bw).fo,.J (o 3 [])]) (dZ.az (.e2 aQ (Mq bL)))))))
  (fun ag =>
  .ret (aU [.J (o 2 []),.J (o 1 (ad (a7 1 (.b r1) true) (o 2 (ch 4 (ad (.ah true) []))))),.ah true,.J (o 2 [])] (bt.az (.d5 (b3 ag) (b3 ag) (b3 ag) (b3 ag) (b3 ag) bG)))))
def Bg:(Int×(List Int))→S:=fun (bc,ae)=>dy [(0,.n .i64 bc),(3,.aN 0 0 0 ae.length)] [[ab.mk 1 (ae.map I) .live]]
def BC:(List Int)→dB
 | a=>⟨some 0,[(3,.aN 0 0 0 a.length)],[[ab.mk 1 (a.map I) .live]]⟩
def rX (bc:Int) (ae:(List Int)):Option ((Int×(List Int))⊕((List Int))) :=
 if (decide ((0:Int)<bc))=true then
  if (ae++([bc.tmod (1000000000:Int)]:List Int)).length*8≤140737488355328 then
  some (.inl (U (bc.tdiv (1000000000:Int)),ae++([bc.tmod (1000000000:Int)]:List Int)))
  else none
 else
  some (.inr ae)
def CB (bc:Int) (ae:(List Int)):Option ((List Int)):=iter (fun w:Int×(List Int)=>rX w.1 w.2) (bc,ae)
theorem LX {bc:Int} {ae:(List Int)}:bk (rX bc ae) (eg aY 15 0 84 [1,1,0,0,0] (Bg (bc,ae)) (Bg) (BC)):=by
 unfold rX
 exact .ite (fun h1 =>
  .bn fun h2 =>
  .ret (bz [.J (o 2 []),.ah true,.J (o 4 (ad (.az ((ae++([bc.tmod (1000000000:Int)]:List Int)).length)) (o 1 []))),.J (o 3 []),.a4 [7] [.dr [ab.mk 1 ((ae++([bc.tmod (1000000000:Int)]:List Int)).map I) .live]] (bB [0,3])] (.bh h1 (by decide:(1000000000:Int)≠0) (cq (show [[.n .i64 (bc.tmod (1000000000:Int))]]=(([bc.tmod (1000000000:Int)]:List Int)).map I from rfl) (show 1=([bc.tmod (1000000000:Int)]:List Int).length from rfl)) (ia (aD I ae) (ba ae)) (ib (ba ae) (hy (show [[.n .i64 (bc.tmod (1000000000:Int))]]=(([bc.tmod (1000000000:Int)]:List Int)).map I from rfl) (show 1=([bc.tmod (1000000000:Int)]:List Int).length from rfl)):(ae++([bc.tmod (1000000000:Int)]:List Int)).length=ae.length+(([[.n .i64 (bc.tmod (1000000000:Int))]].drop 0).take 1).length) h2 (by decide:(1000000000:Int)≠0) (eb 1 .live (gf (aD I ae) (ba ae) (hy (show [[.n .i64 (bc.tmod (1000000000:Int))]]=(([bc.tmod (1000000000:Int)]:List Int)).map I from rfl) (show 1=([bc.tmod (1000000000:Int)]:List Int).length from rfl)))) (.e1 (bJ 1 .live a3 (ae++([bc.tmod (1000000000:Int)]:List Int)))))))
  (fun h1 =>
  .ret (bz [.J (o 2 []),.ah false,.a4 [0] [.pure] (bB [3])] (.e2 h1 (bJ 1 .live a3 ae))))
theorem M9 {bc:Int} {ae:(List Int)} {r} (h:CB bc ae=some r):eh aY 15 0 84 [1,1,0,0,0] (Bg) (BC) (bc,ae) r:=ej (fun _=>LX) h
def nz (bc:Int):Option (List Int) :=
 CB bc ([]:List Int) >>= fun r1 =>
 some r1
theorem sg {bc:Int}:bk (nz bc) (fun r=>Con aY 84 [.n .i64 bc] [] (.isl 1 (r.map I)) []):=by
 unfold nz
 exact .au fun r1 h2 =>
  .ret (aU [.J (o 1 []),.J (o 2 []),.a4 [1] [.dr [ab.mk 1 (([]:List Int).map I) .live]] [(0,ii),(3,e6 (([]:List Int).length))],(BC r1).fo,.J (o 2 [])] (.dP (eb 1 .live (show []=(([]:List Int)).map I from rfl)) (bJ 1 .live a3 ([]:List Int)) (show 0=([]:List Int).length from rfl) (M9 h2) (dv (aD I r1) (ba r1)) (cq (aD I r1) (ba r1)) (cn a3 r1)) (.bo (.bX (.cL (r1.map I)))))
def Ad:(Int×Int)→S:=fun (bS,da)=>dy [(0,.n .i64 bS),(1,.n .i64 da)] []
def Au:Int→dB
 | a=>⟨some 0,[(0,.n .i64 a)],[]⟩
def rF (bS:Int) (da:Int):Option ((Int×Int)⊕(Int)) :=
 if (decide ((0:Int)<da))=true then
  if da≠0 then
  some (.inl (da,bS.tmod da))
  else none
 else
  some (.inr bS)
def BV (bS:Int) (da:Int):Option (Int):=iter (fun w:Int×Int=>rF w.1 w.2) (bS,da)
theorem Lf {bS:Int} {da:Int}:bk (rF bS da) (eg aY 15 0 89 [1,0,0,0] (Ad (bS,da)) (Ad) (Au)):=by
 unfold rF
 exact .ite (fun h1 =>
  .bn fun h2 =>
  .ret (bz [.J (o 2 []),.ah true,.J (o 4 []),.J (o 2 []),.J (o 2 []),.a4 [] [] (bB [0,1])] (.e2 h1 h2)))
  (fun h1 =>
  .ret (bz [.J (o 2 []),.ah false,.a4 [] [] (bB [0])] (.e1 h1)))
theorem Mr {bS:Int} {da:Int} {r} (h:BV bS da=some r):eh aY 15 0 89 [1,0,0,0] (Ad) (Au) (bS,da) r:=ej (fun _=>Lf) h
def uz (bS:Int) (da:Int):Option (List Int) :=
 BV bS da >>= fun r1 =>
 nz r1 >>= fun a2 =>
 some a2
theorem Na {bS:Int} {da:Int}:bk (uz bS da) (fun r=>Con aY 89 [.n .i64 bS,.n .i64 da] [] (.isl 1 (r.map I)) []):=by
 unfold uz
 exact .au fun r1 h2 =>
  .au fun a2 ap =>
  .ret (aU [.J (o 1 []),.a4 [] [] (bB [0,1]),(Au r1).fo,.J (o 1 (ad (a7 1 (.isl 1 (a2.map I)) false) (o 1 [])))] (.e2 (Mr h2) (sg a2 ap)))
def Av (aa:(List Int)):Int→S:=fun bc=>dy [(0,.isl 1 (aa.map I)),(3,.n .i64 bc)] []
def AS (aa:(List Int)):Int→dB
 | a=>⟨some 0,[(0,.isl 1 (aa.map I)),(3,.n .i64 a)],[]⟩
def pz (aa:(List Int)) (bc:Int):Option ((Int)⊕(Int)) :=
 if (decide ((0:Int)<bc))=true then
  if 0≤(U (bc-(1:Int)))∧(U (bc-(1:Int)))<aa.length then
  aa[(U (bc-(1:Int))).toNat]? >>= fun an =>
  if (an == (0:Int))=true then
   some (.inl (U (bc-(1:Int))))
  else
   some (.inr bc)
  else none
 else
  some (.inr bc)
def Ca (aa:(List Int)) (bc:Int):Option (Int):=iter (fun w:Int=>pz aa w) bc
theorem Lr {aa:(List Int)} {bc:Int}:bk (pz aa bc) (eg aY 21 0 112 [1,1,0,0,0] (Av aa bc) (Av aa) (AS aa)):=by
 unfold pz
 exact .ite (fun h1 =>
  .bn fun h2 =>
  .au fun an ap =>
  (let t1:List bE:=[.J (o 7 (ad (.b8 (I an)) (o 1 (ad (.ah true) []))))];
  have aO:=((.bh h1 h1 h1 h1 h2.1 (dd I h2.2) h1 (cB I ap) (.e2 h1 h1)):cd _);
  .ite (fun aE =>
  .ret (bz (t1.append [.ah true,.J (o 3 []),.a4 [] [] (bB [0,3])]) (aO.az (.e1 aE))))
  (fun aE =>
  .ret (bz (t1.append [.ah false,.a4 [] [] (bB [0,3])]) (aO.az (.e1 aE))))))
  (fun h1 =>
  .ret (bz [.J (o 3 (ch 6 (ad (.ah false) []))),.ah false,.a4 [] [] (bB [0,3])] (.gz h1 h1 h1 h1 h1 h1 h1 fP)))
theorem MC {aa:(List Int)} {bc:Int} {r} (h:Ca aa bc=some r):eh aY 21 0 112 [1,1,0,0,0] (Av aa) (AS aa) bc r:=ej (fun _=>Lr) h
def mc (aa:(List Int)):Option (List Int) :=
 Ca aa (len_ I aa) >>= fun r1 =>
 if 0≤r1 then
 if 0≤r1.toNat∧r1.toNat≤aa.length then
 some ((aa.drop 0).take (r1.toNat-0))
 else none
 else none
theorem nV {aa:(List Int)}:bk (mc aa) (fun r=>Con aY 112 [.isl 1 (aa.map I)] [] (.isl 1 (r.map I)) []):=by
 unfold mc
 exact .au fun r1 h2 =>
  .bn fun ag =>
  .bn fun ap =>
  .ret (aU [.J (o 1 []),.J (o 3 []),.a4 [] [] (bB [0,3]),(AS aa r1).fo,.J (o 4 [])] (.cM (MC h2) ag ap.1 (lv (aD I aa) ap.2) (congrArg (ax.isl 1) (Dm (aD I aa) 0 (r1.toNat-0)):(.isl 1 (((aa.map I).drop 0).take (r1.toNat-0)):ax) = .isl 1 (((aa.drop 0).take (r1.toNat-0)).map I))) (.bo (.bX (.dr (.isl 1 (((aa.drop 0).take (r1.toNat-0)).map I))))))
def Ae (aa:(List Int)) (c5:Int):(Int×Int×(List Int))→S:=fun (dC,ai,ae)=>dy [(0,.isl 1 (aa.map I)),(1,.n .i64 c5),(6,.aN 0 0 0 ae.length),(7,.n .i64 dC),(8,.n .i64 ai)] [[ab.mk 1 (ae.map I) .live]]
def Aw (aa:(List Int)) (c5:Int):(Int×(List Int))→dB
 | a=>⟨some 0,[(6,.aN 0 0 0 a.2.length),(7,.n .i64 a.1)],[[ab.mk 1 (a.2.map I) .live]]⟩
def rG (aa:(List Int)) (c5:Int) (dC:Int) (ai:Int) (ae:(List Int)):Option ((Int×Int×(List Int))⊕(Int×(List Int))) :=
 if (decide ((0:Int)≤ai))=true then
  if 0≤ai∧ai<aa.length then
  aa[ai.toNat]? >>= fun an =>
  if c5≠0 then
  if 0≤ai∧ai<(ae.length:Nat) then
  if (0+ai.toNat)<ae.length then
  some (.inl ((U ((U (dC*(1000000000:Int)))+an)).tmod c5,U (ai-(1:Int)),ae.set (0+ai.toNat) (U ((U ((U (dC*(1000000000:Int)))+an)).tdiv c5))))
  else none
  else none
  else none
  else none
 else
  some (.inr (dC,ae))
def xr (aa:(List Int)) (c5:Int) (dC:Int) (ai:Int) (ae:(List Int)):Option (Int×(List Int)):=iter (fun w:Int×Int×(List Int)=>rG aa c5 w.1 w.2.1 w.2.2) (dC,ai,ae)
theorem Lg {aa:(List Int)} {c5:Int} {dC:Int} {ai:Int} {ae:(List Int)}:bk (rG aa c5 dC ai ae) (eg aY 39 0 113 [1,1,1,0,1,0,0] (Ae aa c5 (dC,ai,ae)) (Ae aa c5) (Aw aa c5)):=by
 unfold rG
 exact .ite (fun h1 =>
  .bn fun h2 =>
  .au fun an ap =>
  .bn fun aE =>
  .bn fun aQ =>
  .bn fun bd =>
  .ret (bz [.J (o 2 []),.ah true,.J (o 5 (ad (.b8 (I an)) (o 2 []))),.J (o 6 (ad .cY [])),.J (o 4 []),.J (o 3 []),.a4 [0] [.dr [ab.mk 1 ((ae.set (0+ai.toNat) (U ((U ((U (dC*(1000000000:Int)))+an)).tdiv c5))).map I) .live]] [(0,ii),(1,ii),(6,e6 ((ae.set (0+ai.toNat) (U ((U ((U (dC*(1000000000:Int)))+an)).tdiv c5))).length)),(7,ii),(8,ii)]] (.bh h1 h2.1 (dd I h2.2) (cB I ap) aE aQ.1 aQ.2 (g7 I bd) (.cM (gT 1) aE (eb 1 .live (fZ (aD I ae) (0+ai.toNat) (U ((U ((U (dC*(1000000000:Int)))+an)).tdiv c5)))) (bJ 1 .live a3 (ae.set (0+ai.toNat) (U ((U ((U (dC*(1000000000:Int)))+an)).tdiv c5)))) (fQ (ba ae) (0+ai.toNat) (U ((U ((U (dC*(1000000000:Int)))+an)).tdiv c5)))))))
  (fun h1 =>
  .ret (bz [.J (o 2 []),.ah false,.a4 [0] [.pure] (bB [6,7])] (.e2 h1 (bJ 1 .live a3 ae))))
theorem Ms {aa:(List Int)} {c5:Int} {dC:Int} {ai:Int} {ae:(List Int)} {r} (h:xr aa c5 dC ai ae=some r):eh aY 39 0 113 [1,1,1,0,1,0,0] (Ae aa c5) (Aw aa c5) (dC,ai,ae) r:=ej (fun _=>Lg) h
def uA (aa:(List Int)) (c5:Int):Option ((List Int)×Int) :=
 if 0≤(len_ I aa)∧(8:Int)*(len_ I aa)≤281474976710656∧(len_ I aa)<9223372036854775808 then
 xr aa c5 0 (U ((len_ I aa)-(1:Int))) (List.replicate (len_ I aa).toNat 0:List Int) >>= fun r2 =>
 mc r2.2 >>= fun bb =>
 some (bb,r2.1)
 else none
theorem Nb {aa:(List Int)} {c5:Int}:bk (uA aa c5) (fun r=>Con aY 113 [.isl 1 (aa.map I),.n .i64 c5] [] (.cz [.isl 1 (r.1.map I),.n .i64 r.2]) []):=by
 unfold uA
 exact .bn fun h1 =>
  .au fun r2 ag =>
  .au fun bb aE =>
  .ret (aU [.J (o 2 []),.J (o 4 []),.J (o 1 []),.J (o 4 []),.a4 [4] [.dr [ab.mk 1 ((List.replicate (len_ I aa).toNat 0:List Int).map I) .live]] [(0,ii),(1,ii),(6,e6 ((List.replicate (len_ I aa).toNat 0:List Int).length)),(7,ii),(8,ii)],(Aw aa c5 r2).fo,.fx 0,.J (o 1 (ad (.call {ac:=[.bo (.bX (.cL (r2.2.map I)))],r:= .isl 1 (bb.map I),b5:=false,b6:=[0]}) (o 3 [])))] (.bh h1.1 (Int.le_refl (len_ I aa)) h1.2.1 h1.2.2 (eb 1 .live (kB I (len_ I aa).toNat 0)) (bJ 1 .live a3 (List.replicate (len_ I aa).toNat 0:List Int)) (kC (len_ I aa).toNat (0:Int)) (Ms ag) (.cp (dv (aD I r2.2) (ba r2.2)) (cq (aD I r2.2) (ba r2.2)) (cn a3 r2.2) (nV bb aE))))
def AU (ak:(List Int)) (ai:Int) (bS:Int) (cI:(List Int)) (cO:Int) (fw:Int):(Int×Int×(List Int))→S:=fun (bx,dD,ae)=>dy [(1,.isl 1 (ak.map I)),(5,.aN 0 0 0 ae.length),(6,.n .i64 ai),(7,.n .i64 bS),(8,.n .i64 bx),(26,.isl 1 (cI.map I)),(27,.n .i64 cO),(28,.n .i64 ai),(33,.isl 1 (ak.map I)),(34,.n .i64 fw),(35,.n .i64 dD)] [[ab.mk 1 (ae.map I) .live]]
def Bh (ak:(List Int)) (ai:Int) (bS:Int) (cI:(List Int)) (cO:Int) (fw:Int):(Int×(List Int))→dB
 | a=>⟨some 2,[(1,.isl 1 (ak.map I)),(5,.aN 0 0 0 a.2.length),(6,.n .i64 ai),(8,.n .i64 a.1),(26,.isl 1 (cI.map I)),(27,.n .i64 cO),(28,.n .i64 ai)],[[ab.mk 1 (a.2.map I) .live]]⟩
def rP (ak:(List Int)) (ai:Int) (bS:Int) (cI:(List Int)) (cO:Int) (fw:Int) (bx:Int) (dD:Int) (ae:(List Int)):Option ((Int×Int×(List Int))⊕(Int×(List Int))) :=
 if (decide (dD<fw))=true then
  if 0≤dD∧dD<ak.length then
  ak[dD.toNat]? >>= fun an =>
  if 0≤(U (ai+dD))∧(U (ai+dD))<(ae.length:Nat) then
  ae[(0+(U (ai+dD)).toNat)]? >>= fun bW =>
  if (0+(U (ai+dD)).toNat)<ae.length then
  some (.inl (U ((U ((U (bW+(U (bS*an))))+bx)).tdiv (1000000000:Int)),U (dD+(1:Int)),ae.set (0+(U (ai+dD)).toNat) ((U ((U (bW+(U (bS*an))))+bx)).tmod (1000000000:Int))))
  else none
  else none
  else none
 else
  some (.inr (bx,ae))
def Ck (ak:(List Int)) (ai:Int) (bS:Int) (cI:(List Int)) (cO:Int) (fw:Int) (bx:Int) (dD:Int) (ae:(List Int)):Option (Int×(List Int)):=iter (fun w:Int×Int×(List Int)=>rP ak ai bS cI cO fw w.1 w.2.1 w.2.2) (bx,dD,ae)
theorem LH {ak:(List Int)} {ai:Int} {bS:Int} {cI:(List Int)} {cO:Int} {fw:Int} {bx:Int} {dD:Int} {ae:(List Int)}:bk (rP ak ai bS cI cO fw bx dD ae) (eg aY 72 0 87 [1,1,1,0,1,0,0,1,1,0,0,1,1,0,1,0,0] (AU ak ai bS cI cO fw (bx,dD,ae)) (AU ak ai bS cI cO fw) (Bh ak ai bS cI cO fw)):=by
 unfold rP
 exact .ite (fun h1 =>
  .bn fun h2 =>
  .au fun an ap =>
  .bn fun aE =>
  .au fun bW bd =>
  .bn fun bL =>
  .ret (bz [.J (o 1 []),.ah true,.J (o 2 (ad (.b8 (I an)) (o 2 []))),.J (o 5 (ad (.b8 (I bW)) (o 7 []))),.J (o 7 (ad .cY [])),.J (o 3 []),.J (o 2 []),.a4 [0] [.dr [ab.mk 1 ((ae.set (0+(U (ai+dD)).toNat) ((U ((U (bW+(U (bS*an))))+bx)).tmod (1000000000:Int))).map I) .live]] [(1,ii),(5,e6 ((ae.set (0+(U (ai+dD)).toNat) ((U ((U (bW+(U (bS*an))))+bx)).tmod (1000000000:Int))).length)),(6,ii),(7,ii),(8,ii),(26,ii),(27,ii),(28,ii),(33,ii),(34,ii),(35,ii)]] (.bh h1 h2.1 (dd I h2.2) (cB I ap) aE.1 aE.2 (cB I bd) (by decide:(1000000000:Int)≠0) (.gz aE.1 aE.2 (g7 I bL) (gT 1) (by decide:(1000000000:Int)≠0) (eb 1 .live (fZ (aD I ae) (0+(U (ai+dD)).toNat) ((U ((U (bW+(U (bS*an))))+bx)).tmod (1000000000:Int)))) (bJ 1 .live a3 (ae.set (0+(U (ai+dD)).toNat) ((U ((U (bW+(U (bS*an))))+bx)).tmod (1000000000:Int)))) (fQ (ba ae) (0+(U (ai+dD)).toNat) ((U ((U (bW+(U (bS*an))))+bx)).tmod (1000000000:Int)))))))
  (fun h1 =>
  .ret (bz [.J (o 1 []),.ah false,.a4 [0] [.pure] (bB [1,5,6,8,26,27,28])] (.e2 h1 (bJ 1 .live a3 ae))))
theorem MQ {ak:(List Int)} {ai:Int} {bS:Int} {cI:(List Int)} {cO:Int} {fw:Int} {bx:Int} {dD:Int} {ae:(List Int)} {r} (h:Ck ak ai bS cI cO fw bx dD ae=some r):eh aY 72 0 87 [1,1,1,0,1,0,0,1,1,0,0,1,1,0,1,0,0] (AU ak ai bS cI cO fw) (Bh ak ai bS cI cO fw) (bx,dD,ae) r:=ej (fun _=>LH) h
def AV (ak:(List Int)) (cI:(List Int)) (cO:Int):(Int×(List Int))→S:=fun (dx,ae)=>dy [(1,.isl 1 (ak.map I)),(5,.aN 0 0 0 ae.length),(26,.isl 1 (cI.map I)),(27,.n .i64 cO),(28,.n .i64 dx)] [[ab.mk 1 (ae.map I) .live]]
def Bi (ak:(List Int)) (cI:(List Int)) (cO:Int):(List Int)→dB
 | a=>⟨some 0,[(5,.aN 0 0 0 a.length)],[[ab.mk 1 (a.map I) .live]]⟩
def ua (ak:(List Int)) (cI:(List Int)) (cO:Int) (dx:Int) (ae:(List Int)):Option ((Int×(List Int))⊕((List Int))) :=
 if (decide (dx<cO))=true then
  if 0≤dx∧dx<cI.length then
  cI[dx.toNat]? >>= fun an =>
  Ck ak dx an cI cO (len_ I ak) 0 0 ae >>= fun aV =>
  if 0≤(U (dx+(len_ I ak)))∧(U (dx+(len_ I ak)))<(aV.2.length:Nat) then
  if (0+(U (dx+(len_ I ak))).toNat)<aV.2.length then
  some (.inl (U (dx+(1:Int)),aV.2.set (0+(U (dx+(len_ I ak))).toNat) aV.1))
  else none
  else none
  else none
 else
  some (.inr ae)
def us (ak:(List Int)) (cI:(List Int)) (cO:Int) (dx:Int) (ae:(List Int)):Option ((List Int)):=iter (fun w:Int×(List Int)=>ua ak cI cO w.1 w.2) (dx,ae)
theorem LI {ak:(List Int)} {cI:(List Int)} {cO:Int} {dx:Int} {ae:(List Int)}:bk (ua ak cI cO dx ae) (eg aY 72 0 87 [1,1,1,0,1,0,0] (AV ak cI cO (dx,ae)) (AV ak cI cO) (Bi ak cI cO)):=by
 unfold ua
 exact .ite (fun h1 =>
  .bn fun h2 =>
  .au fun an ap =>
  .au fun aV aQ =>
  .bn fun bd =>
  .bn fun bL =>
  .ret (bz [.J (o 1 []),.ah true,.J (o 2 (ad (.b8 (I an)) (o 2 []))),.J (o 1 []),.J (o 3 []),.a4 [0] [.pure] (bB [1,5,6,7,8,26,27,28,33,34,35]),(Bh ak dx an cI cO (len_ I ak) aV).fo,.J (o 7 (ad .cY [])),.J (o 2 []),.a4 [0] [.dr [ab.mk 1 ((aV.2.set (0+(U (dx+(len_ I ak))).toNat) aV.1).map I) .live]] [(1,ii),(5,e6 ((aV.2.set (0+(U (dx+(len_ I ak))).toNat) aV.1).length)),(26,ii),(27,ii),(28,ii)]] (.bh h1 h2.1 (dd I h2.2) (cB I ap) (bJ 1 .live a3 ae) (MQ aQ) bd.1 bd.2 (.cM (g7 I bL) (gT 1) (eb 1 .live (fZ (aD I aV.2) (0+(U (dx+(len_ I ak))).toNat) aV.1)) (bJ 1 .live a3 (aV.2.set (0+(U (dx+(len_ I ak))).toNat) aV.1)) (fQ (ba aV.2) (0+(U (dx+(len_ I ak))).toNat) aV.1)))))
  (fun h1 =>
  .ret (bz [.J (o 1 []),.ah false,.a4 [0] [.pure] (bB [5])] (.e2 h1 (bJ 1 .live a3 ae))))
theorem MR {ak:(List Int)} {cI:(List Int)} {cO:Int} {dx:Int} {ae:(List Int)} {r} (h:us ak cI cO dx ae=some r):eh aY 72 0 87 [1,1,1,0,1,0,0] (AV ak cI cO) (Bi ak cI cO) (dx,ae) r:=ej (fun _=>LI) h
def hr (aa:(List Int)) (ak:(List Int)):Option (List Int) :=
 if ((len_ I aa) == (0:Int))=true then
  some ([]:List Int)
 else
  if ((len_ I ak) == (0:Int))=true then
   some ([]:List Int)
  else
   if 0≤(U ((len_ I aa)+(len_ I ak)))∧(8:Int)*(U ((len_ I aa)+(len_ I ak)))≤281474976710656∧(U ((len_ I aa)+(len_ I ak)))<9223372036854775808 then
   us ak aa (len_ I aa) 0 (List.replicate (U ((len_ I aa)+(len_ I ak))).toNat 0:List Int) >>= fun bb =>
   mc bb >>= fun dk =>
   some dk
   else none
theorem nw {aa:(List Int)} {ak:(List Int)}:bk (hr aa ak) (fun r=>Con aY 87 [.isl 1 (aa.map I),.isl 1 (ak.map I)] [] (.isl 1 (r.map I)) []):=by
 unfold hr
 exact .ite (fun h1 =>
  .ret (aU [.J (o 1 []),.J (o 4 (ch 3 (ad (.ah true) []))),.ah true,.J (o 1 [])] (.cM h1 h1 h1 h1 bG) (.bo (.bX (.eO 1)))))
  (fun h1 =>
  (let t1:List bE:=[.J (o 1 []),.J (o 7 (ad (.ah false) []))];
  .ite (fun h2 =>
  .ret (aU (t1.append [.ah true,.J (o 1 [])]) (.cM h1 h1 h1 h1 h2) (.bo (.bX (.eO 1)))))
  (fun h2 =>
  .bn fun ag =>
  .au fun bb aE =>
  .au fun dk bd =>
  .ret (aU (t1.append [.ah false,.J (o 7 []),.J (o 3 []),.a4 [14] [.dr [ab.mk 1 ((List.replicate (U ((len_ I aa)+(len_ I ak))).toNat 0:List Int).map I) .live]] [(1,ii),(5,e6 ((List.replicate (U ((len_ I aa)+(len_ I ak))).toNat 0:List Int).length)),(26,ii),(27,ii),(28,ii)],(Bi ak aa (len_ I aa) bb).fo,.fx 0,.J (o 1 (ad (.call {ac:=[.bo (.bX (.cL (bb.map I)))],r:= .isl 1 (dk.map I),b5:=false,b6:=[0]}) (o 1 [])))]) (.bh h1 h1 h1 h1 h2 ag.1 (Int.le_refl (U ((len_ I aa)+(len_ I ak)))) ag.2.1 (.bh ag.2.2 (eb 1 .live (kB I (U ((len_ I aa)+(len_ I ak))).toNat 0)) (bJ 1 .live a3 (List.replicate (U ((len_ I aa)+(len_ I ak))).toNat 0:List Int)) (kC (U ((len_ I aa)+(len_ I ak))).toNat (0:Int)) (MR aE) (dv (aD I bb) (ba bb)) (cq (aD I bb) (ba bb)) (cn a3 bb) (.e1 (nV dk bd))))))))
def Af (cl:(List Int)) (ak:(List Int)):(Int×Int)→S:=fun (jc,jr)=>dy [(0,.isl 1 (cl.map I)),(1,.isl 1 (ak.map I)),(7,.n .i64 jc),(8,.n .i64 jr)] []
def Fv (cl:(List Int)) (ak:(List Int)):Int→dB
 | a=>⟨some 0,[(7,.n .i64 a)],[]⟩
def py (cl:(List Int)) (ak:(List Int)) (jc:Int) (jr:Int):Option ((Int×Int)⊕(Int)) :=
 if (decide (jc<jr))=true then
  nz (U ((U ((U (jc+jr))+(1:Int))).tdiv (2:Int))) >>= fun r2 =>
  hr ak r2 >>= fun bb =>
  nY bb cl >>= fun dk =>
  if (decide (dk≤(0:Int)))=true then
   some (.inl (U ((U ((U (jc+jr))+(1:Int))).tdiv (2:Int)),jr))
  else
   some (.inl (jc,U ((U ((U ((U (jc+jr))+(1:Int))).tdiv (2:Int)))-(1:Int))))
 else
  some (.inr jc)
def xt (cl:(List Int)) (ak:(List Int)) (jc:Int) (jr:Int):Option (Int):=iter (fun w:Int×Int=>py cl ak w.1 w.2) (jc,jr)
theorem Lh {cl:(List Int)} {ak:(List Int)} {jc:Int} {jr:Int}:bk (py cl ak jc jr) (eg aY 63 0 114 [1,1,1,1,1,1,0,0,0] (Af cl ak (jc,jr)) (Af cl ak) (Fv cl ak)):=by
 unfold py
 exact .ite (fun h1 =>
  .au fun r2 ag =>
  .au fun bb aE =>
  .au fun dk bd =>
  (let t1:List bE:=[.J (o 3 []),.ah true,.J (o 6 []),.J (o 2 (ad (a7 1 (.isl 1 (r2.map I)) false) (ad (a7 2 (.isl 1 (bb.map I)) false) (o 1 (ad (a7 2 (.n .i64 dk) true) (o 1 []))))))];
  have aO:=((.d5 h1 (by decide:(2:Int)≠0) (sg r2 ag) (nw bb aE) (xB dk bd) (aK.n .i64 dk)):cd _);
  .ite (fun bL =>
  .ret (bz (t1.append [.ah true,.J (o 2 []),.a4 [] [] (bB [0,1,7,8])]) (aO.az (.e1 bL))))
  (fun bL =>
  .ret (bz (t1.append [.ah false,.J (o 3 []),.a4 [] [] (bB [0,1,7,8])]) (aO.az (.e1 bL))))))
  (fun h1 =>
  .ret (bz [.J (o 3 []),.ah false,.a4 [] [] (bB [7])] (.e1 h1)))
theorem FD {cl:(List Int)} {ak:(List Int)} {jc:Int} {jr:Int} {r} (h:xt cl ak jc jr=some r):eh aY 63 0 114 [1,1,1,1,1,1,0,0,0] (Af cl ak) (Fv cl ak) (jc,jr) r:=ej (fun _=>Lh) h
def uB (cl:(List Int)) (ak:(List Int)):Option Int :=
 if 0≤(U ((len_ I ak)-(1:Int)))∧(U ((len_ I ak)-(1:Int)))<cl.length then
 cl[(U ((len_ I ak)-(1:Int))).toNat]? >>= fun x2 =>
 if (decide ((len_ I ak)<(len_ I cl)))=true then
  if 0≤(len_ I ak)∧(len_ I ak)<cl.length then
  cl[(len_ I ak).toNat]? >>= fun bW =>
  if 0≤(U ((len_ I ak)-(1:Int)))∧(U ((len_ I ak)-(1:Int)))<ak.length then
  ak[(U ((len_ I ak)-(1:Int))).toNat]? >>= fun dS =>
  if (U (dS+(1:Int)))≠0 then
  if dS≠0 then
  xt cl ak (U ((U (x2+(U (bW*(1000000000:Int))))).tdiv (U (dS+(1:Int))))) (if (U ((U (x2+(U (bW*(1000000000:Int))))).tdiv dS))<(999999999:Int) then (U ((U (x2+(U (bW*(1000000000:Int))))).tdiv dS)) else (999999999:Int)) >>= fun dN =>
  some dN
  else none
  else none
  else none
  else none
 else
  if 0≤(U ((len_ I ak)-(1:Int)))∧(U ((len_ I ak)-(1:Int)))<ak.length then
  ak[(U ((len_ I ak)-(1:Int))).toNat]? >>= fun bW =>
  if (U (bW+(1:Int)))≠0 then
  if bW≠0 then
  xt cl ak (U (x2.tdiv (U (bW+(1:Int))))) (if (U (x2.tdiv bW))<(999999999:Int) then (U (x2.tdiv bW)) else (999999999:Int)) >>= fun aA =>
  some aA
  else none
  else none
  else none
 else none
theorem Nc {cl:(List Int)} {ak:(List Int)}:bk (uB cl ak) (fun r=>Con aY 114 [.isl 1 (cl.map I),.isl 1 (ak.map I)] [] (.n .i64 r) []):=by
 unfold uB
 exact .bn fun h1 =>
  .au fun x2 ag =>
  (let t1:List bE:=[.J (o 1 []),.J (o 3 []),.J (o 4 (ad (.b8 (I x2)) (o 1 []))),.J (o 4 [])];
  have aO:=((.bp h1.1 (dd I h1.2) (cB I ag)):cd _);
  .ite (fun ap =>
  .bn fun aE =>
  .au fun bW bd =>
  .bn fun bL =>
  .au fun dS cR =>
  .bn fun fi =>
  .bn fun fB =>
  .au fun dN ez =>
  .ret (aU (t1.append [.ah true,.J (o 4 (ad (.b8 (I bW)) (o 3 []))),.J (o 5 (ad (.b8 (I dS)) (o 3 []))),.J (o 5 (ad (.b8 (I dS)) (o 3 []))),.a4 [] [] (bB [0,1,7,8]),.sub (.exit 0) [(7,.n .i64 dN)] [],.J (o 2 [])]) (aO.az (.bh ap aE.1 (dd I aE.2) (cB I bd) bL.1 (dd I bL.2) (cB I cR) fi (.cM bL.1 (dd I bL.2) (cB I cR) fB (FD ez))))))
  (fun ap =>
  .bn fun aE =>
  .au fun bW bd =>
  .bn fun bL =>
  .bn fun c3 =>
  .au fun aA fi =>
  .ret (aU (t1.append [.ah false,.J (o 5 (ad (.b8 (I bW)) (o 3 []))),.J (o 5 (ad (.b8 (I bW)) (o 3 []))),.a4 [] [] (bB [0,1,7,8]),.sub (.exit 0) [(7,.n .i64 aA)] [],.J (o 2 [])]) (aO.az (.bh ap aE.1 (dd I aE.2) (cB I bd) bL aE.1 (dd I aE.2) (cB I bd) (.e2 c3 (FD fi)))))))
def AW (aa:(List Int)) (ak:(List Int)) (dp:Int):(Int×Int×(List Int))→S:=fun (dG,dl,ae)=>dy [(0,.isl 1 (aa.map I)),(1,.isl 1 (ak.map I)),(5,.aN 0 0 0 ae.length),(6,.n .i64 dG),(11,.n .i64 dp),(12,.n .i64 dl)] [[ab.mk 1 (ae.map I) .live]]
def Bj (aa:(List Int)) (ak:(List Int)) (dp:Int):(List Int)→dB
 | a=>⟨some 0,[(5,.aN 0 0 0 a.length)],[[ab.mk 1 (a.map I) .live]]⟩
def pC (aa:(List Int)) (ak:(List Int)) (dp:Int) (dG:Int) (dl:Int) (ae:(List Int)):Option ((Int×Int×(List Int))⊕((List Int))) :=
 if (decide (dl<dp))=true then
  if 0≤dl∧dl<aa.length then
  aa[dl.toNat]? >>= fun an =>
  if (decide (dl<(len_ I ak)))=true then
   if 0≤dl∧dl<ak.length then
   ak[dl.toNat]? >>= fun bU =>
   if (decide ((U ((U (an-dG))-bU))<(0:Int)))=true then
    if (ae++([U ((U ((U (an-dG))-bU))+(1000000000:Int))]:List Int)).length*8≤140737488355328 then
    some (.inl (1,U (dl+(1:Int)),ae++([U ((U ((U (an-dG))-bU))+(1000000000:Int))]:List Int)))
    else none
   else
    if (ae++([U ((U (an-dG))-bU)]:List Int)).length*8≤140737488355328 then
    some (.inl (0,U (dl+(1:Int)),ae++([U ((U (an-dG))-bU)]:List Int)))
    else none
   else none
  else
   if (decide ((U (an-dG))<(0:Int)))=true then
    if (ae++([U ((U (an-dG))+(1000000000:Int))]:List Int)).length*8≤140737488355328 then
    some (.inl (1,U (dl+(1:Int)),ae++([U ((U (an-dG))+(1000000000:Int))]:List Int)))
    else none
   else
    if (ae++([U (an-dG)]:List Int)).length*8≤140737488355328 then
    some (.inl (0,U (dl+(1:Int)),ae++([U (an-dG)]:List Int)))
    else none
  else none
 else
  some (.inr ae)
def Cl (aa:(List Int)) (ak:(List Int)) (dp:Int) (dG:Int) (dl:Int) (ae:(List Int)):Option ((List Int)):=iter (fun w:Int×Int×(List Int)=>pC aa ak dp w.1 w.2.1 w.2.2) (dG,dl,ae)
theorem LJ {aa:(List Int)} {ak:(List Int)} {dp:Int} {dG:Int} {dl:Int} {ae:(List Int)}:bk (pC aa ak dp dG dl ae) (eg aY 42 0 111 [1,1,1,0,1,0,0] (AW aa ak dp (dG,dl,ae)) (AW aa ak dp) (Bj aa ak dp)):=by
 unfold pC
 exact .ite (fun h1 =>
  .bn fun h2 =>
  .au fun an ap =>
  (let t1:List bE:=[.J (o 1 []),.ah true,.J (o 2 []),.J (o 3 (ad (.b8 (I an)) (o 3 []))),.J (o 4 [])];
  have aO:=((.cp h1 h2.1 (dd I h2.2) (cB I ap)):cd _);
  .ite (fun aE =>
  .bn fun aQ =>
  .au fun bU bL =>
  (let t3:List bE:=t1.append [.ah true,.J (o 4 (ad (.b8 (I bU)) (o 2 []))),.J (o 1 []),.J (o 2 [])];
  have d4:=aO.az (.cp aE aQ.1 (dd I aQ.2) (cB I bL));
  .ite (fun c3 =>
  .bn fun cR =>
  .ret (bz (t3.append [.ah true,.J (o 3 []),.J (o 1 []),.J (o 3 (ad (.az ((ae++([U ((U ((U (an-dG))-bU))+(1000000000:Int))]:List Int)).length)) (o 1 []))),.J (o 2 []),.a4 [32] [.dr [ab.mk 1 ((ae++([U ((U ((U (an-dG))-bU))+(1000000000:Int))]:List Int)).map I) .live]] (bB [0,1,5,6,11,12])]) (d4.az (.dP c3 (cq (show [[.n .i64 (U ((U ((U (an-dG))-bU))+(1000000000:Int)))]]=(([U ((U ((U (an-dG))-bU))+(1000000000:Int))]:List Int)).map I from rfl) (show 1=([U ((U ((U (an-dG))-bU))+(1000000000:Int))]:List Int).length from rfl)) (ia (aD I ae) (ba ae)) (ib (ba ae) (hy (show [[.n .i64 (U ((U ((U (an-dG))-bU))+(1000000000:Int)))]]=(([U ((U ((U (an-dG))-bU))+(1000000000:Int))]:List Int)).map I from rfl) (show 1=([U ((U ((U (an-dG))-bU))+(1000000000:Int))]:List Int).length from rfl)):(ae++([U ((U ((U (an-dG))-bU))+(1000000000:Int))]:List Int)).length=ae.length+(([[.n .i64 (U ((U ((U (an-dG))-bU))+(1000000000:Int)))]].drop 0).take 1).length) cR (eb 1 .live (gf (aD I ae) (ba ae) (hy (show [[.n .i64 (U ((U ((U (an-dG))-bU))+(1000000000:Int)))]]=(([U ((U ((U (an-dG))-bU))+(1000000000:Int))]:List Int)).map I from rfl) (show 1=([U ((U ((U (an-dG))-bU))+(1000000000:Int))]:List Int).length from rfl)))) (bJ 1 .live a3 (ae++([U ((U ((U (an-dG))-bU))+(1000000000:Int))]:List Int)))))))
  (fun c3 =>
  .bn fun cR =>
  .ret (bz (t3.append [.ah false,.J (o 3 (ad (.az ((ae++([U ((U (an-dG))-bU)]:List Int)).length)) (o 1 []))),.J (o 2 []),.a4 [28] [.dr [ab.mk 1 ((ae++([U ((U (an-dG))-bU)]:List Int)).map I) .live]] (bB [0,1,5,6,11,12])]) (d4.az (.dP c3 (cq (show [[.n .i64 (U ((U (an-dG))-bU))]]=(([U ((U (an-dG))-bU)]:List Int)).map I from rfl) (show 1=([U ((U (an-dG))-bU)]:List Int).length from rfl)) (ia (aD I ae) (ba ae)) (ib (ba ae) (hy (show [[.n .i64 (U ((U (an-dG))-bU))]]=(([U ((U (an-dG))-bU)]:List Int)).map I from rfl) (show 1=([U ((U (an-dG))-bU)]:List Int).length from rfl)):(ae++([U ((U (an-dG))-bU)]:List Int)).length=ae.length+(([[.n .i64 (U ((U (an-dG))-bU))]].drop 0).take 1).length) cR (eb 1 .live (gf (aD I ae) (ba ae) (hy (show [[.n .i64 (U ((U (an-dG))-bU))]]=(([U ((U (an-dG))-bU)]:List Int)).map I from rfl) (show 1=([U ((U (an-dG))-bU)]:List Int).length from rfl)))) (bJ 1 .live a3 (ae++([U ((U (an-dG))-bU)]:List Int)))))))))
  (fun aE =>
  (let t3:List bE:=t1.append [.ah false,.J (o 1 []),.J (o 2 [])];
  .ite (fun aQ =>
  .bn fun bd =>
  .ret (bz (t3.append [.ah true,.J (o 3 []),.J (o 1 []),.J (o 3 (ad (.az ((ae++([U ((U (an-dG))+(1000000000:Int))]:List Int)).length)) (o 1 []))),.J (o 2 []),.a4 [25] [.dr [ab.mk 1 ((ae++([U ((U (an-dG))+(1000000000:Int))]:List Int)).map I) .live]] (bB [0,1,5,6,11,12])]) (aO.az (.gz aE aQ (cq (show [[.n .i64 (U ((U (an-dG))+(1000000000:Int)))]]=(([U ((U (an-dG))+(1000000000:Int))]:List Int)).map I from rfl) (show 1=([U ((U (an-dG))+(1000000000:Int))]:List Int).length from rfl)) (ia (aD I ae) (ba ae)) (ib (ba ae) (hy (show [[.n .i64 (U ((U (an-dG))+(1000000000:Int)))]]=(([U ((U (an-dG))+(1000000000:Int))]:List Int)).map I from rfl) (show 1=([U ((U (an-dG))+(1000000000:Int))]:List Int).length from rfl)):(ae++([U ((U (an-dG))+(1000000000:Int))]:List Int)).length=ae.length+(([[.n .i64 (U ((U (an-dG))+(1000000000:Int)))]].drop 0).take 1).length) bd (eb 1 .live (gf (aD I ae) (ba ae) (hy (show [[.n .i64 (U ((U (an-dG))+(1000000000:Int)))]]=(([U ((U (an-dG))+(1000000000:Int))]:List Int)).map I from rfl) (show 1=([U ((U (an-dG))+(1000000000:Int))]:List Int).length from rfl)))) (bJ 1 .live a3 (ae++([U ((U (an-dG))+(1000000000:Int))]:List Int)))))))
  (fun aQ =>
  .bn fun bd =>
  .ret (bz (t3.append [.ah false,.J (o 3 (ad (.az ((ae++([U (an-dG)]:List Int)).length)) (o 1 []))),.J (o 2 []),.a4 [21] [.dr [ab.mk 1 ((ae++([U (an-dG)]:List Int)).map I) .live]] (bB [0,1,5,6,11,12])]) (aO.az (.gz aE aQ (cq (show [[.n .i64 (U (an-dG))]]=(([U (an-dG)]:List Int)).map I from rfl) (show 1=([U (an-dG)]:List Int).length from rfl)) (ia (aD I ae) (ba ae)) (ib (ba ae) (hy (show [[.n .i64 (U (an-dG))]]=(([U (an-dG)]:List Int)).map I from rfl) (show 1=([U (an-dG)]:List Int).length from rfl)):(ae++([U (an-dG)]:List Int)).length=ae.length+(([[.n .i64 (U (an-dG))]].drop 0).take 1).length) bd (eb 1 .live (gf (aD I ae) (ba ae) (hy (show [[.n .i64 (U (an-dG))]]=(([U (an-dG)]:List Int)).map I from rfl) (show 1=([U (an-dG)]:List Int).length from rfl)))) (bJ 1 .live a3 (ae++([U (an-dG)]:List Int)))))))))))
  (fun h1 =>
  .ret (bz [.J (o 1 []),.ah false,.a4 [0] [.pure] (bB [5])] (.e2 h1 (bJ 1 .live a3 ae))))
theorem MS {aa:(List Int)} {ak:(List Int)} {dp:Int} {dG:Int} {dl:Int} {ae:(List Int)} {r} (h:Cl aa ak dp dG dl ae=some r):eh aY 42 0 111 [1,1,1,0,1,0,0] (AW aa ak dp) (Bj aa ak dp) (dG,dl,ae) r:=ej (fun _=>LJ) h
def nZ (aa:(List Int)) (ak:(List Int)):Option (List Int) :=
 Cl aa ak (len_ I aa) 0 0 ([]:List Int) >>= fun r1 =>
 mc r1 >>= fun a2 =>
 some a2
theorem Cm {aa:(List Int)} {ak:(List Int)}:bk (nZ aa ak) (fun r=>Con aY 111 [.isl 1 (aa.map I),.isl 1 (ak.map I)] [] (.isl 1 (r.map I)) []):=by
 unfold nZ
 exact .au fun r1 h2 =>
  .au fun a2 ap =>
  .ret (aU [.J (o 1 []),.J (o 2 []),.J (o 1 []),.J (o 3 []),.a4 [1] [.dr [ab.mk 1 (([]:List Int).map I) .live]] [(0,ii),(1,ii),(5,e6 (([]:List Int).length)),(6,ii),(11,ii),(12,ii)],(Bj aa ak (len_ I aa) r1).fo,.fx 0,.J (o 1 (ad (.call {ac:=[.bo (.bX (.cL (r1.map I)))],r:= .isl 1 (a2.map I),b5:=false,b6:=[0]}) (o 1 [])))] (.gz (eb 1 .live (show []=(([]:List Int)).map I from rfl)) (bJ 1 .live a3 ([]:List Int)) (show 0=([]:List Int).length from rfl) (MS h2) (dv (aD I r1) (ba r1)) (cq (aD I r1) (ba r1)) (cn a3 r1) (nV a2 ap)))
def AX (aa:(List Int)) (ak:(List Int)):((List Int)×Int×(List Int))→S:=fun (dC,ai,ae)=>dy [(0,.isl 1 (aa.map I)),(1,.isl 1 (ak.map I)),(8,.aN 0 0 0 ae.length),(9,.isl 1 (dC.map I)),(10,.n .i64 ai)] [[ab.mk 1 (ae.map I) .live]]
def Bk (aa:(List Int)) (ak:(List Int)):((List Int)×(List Int))→dB
 | a=>⟨some 0,[(8,.aN 0 0 0 a.2.length),(9,.isl 1 (a.1.map I))],[[ab.mk 1 (a.2.map I) .live]]⟩
def rQ (aa:(List Int)) (ak:(List Int)) (dC:(List Int)) (ai:Int) (ae:(List Int)):Option (((List Int)×Int×(List Int))⊕((List Int)×(List Int))) :=
 if (decide ((0:Int)≤ai))=true then
  if 0≤ai∧ai<aa.length then
  aa[ai.toNat]? >>= fun an =>
  if (([an]:List Int)++dC).length*8≤140737488355328 then
  mc (([an]:List Int)++dC) >>= fun dk =>
  nY dk ak >>= fun eM =>
  if (decide (eM<(0:Int)))=true then
   some (.inl (dk,U (ai-(1:Int)),ae))
  else
   uB dk ak >>= fun cN =>
   if 0≤ai∧ai<(ae.length:Nat) then
   if (0+ai.toNat)<ae.length then
   nz cN >>= fun et =>
   hr ak et >>= fun gy =>
   nZ dk gy >>= fun kt =>
   some (.inl (kt,U (ai-(1:Int)),ae.set (0+ai.toNat) cN))
   else none
   else none
  else none
  else none
 else
  some (.inr (dC,ae))
def Cn (aa:(List Int)) (ak:(List Int)) (dC:(List Int)) (ai:Int) (ae:(List Int)):Option ((List Int)×(List Int)):=iter (fun w:(List Int)×Int×(List Int)=>rQ aa ak w.1 w.2.1 w.2.2) (dC,ai,ae)
theorem LK {aa:(List Int)} {ak:(List Int)} {dC:(List Int)} {ai:Int} {ae:(List Int)}:bk (rQ aa ak dC ai ae) (eg aY 65 0 90 [1,1,1,1,0,1,0,0] (AX aa ak (dC,ai,ae)) (AX aa ak) (Bk aa ak)):=by
 unfold rQ
 exact .ite (fun h1 =>
  .bn fun h2 =>
  .au fun an ap =>
  .bn fun aE =>
  .au fun dk bd =>
  .au fun eM c3 =>
  (let t1:List bE:=[.J (o 2 []),.ah true,.J (o 3 (ad (.b8 (I an)) (o 2 (ad (.az ((([an]:List Int)++dC).length)) (ad (.nR 9 (.call {ac:=[.bo (.bX (.cL ((([an]:List Int)++dC).map I)))],r:= .isl 1 (dk.map I),b5:=false,b6:=[9]})) (o 1 [])))))),.J (o 2 (ad (a7 2 (.n .i64 eM) true) (o 1 [])))];
  have aO:=((.bh h1 h2.1 (dd I h2.2) (cB I ap) (ia (show [[.n .i64 an]]=(([an]:List Int)).map I from rfl) (show 1=([an]:List Int).length from rfl)) (ib (show 1=([an]:List Int).length from rfl) (aD I dC):(([an]:List Int)++dC).length=1+(dC.map I).length) aE (dv (gf (show [[.n .i64 an]]=(([an]:List Int)).map I from rfl) (show 1=([an]:List Int).length from rfl) (aD I dC)) (ba (([an]:List Int)++dC))) (.cM (cq (gf (show [[.n .i64 an]]=(([an]:List Int)).map I from rfl) (show 1=([an]:List Int).length from rfl) (aD I dC)) (ba (([an]:List Int)++dC))) (cn a3 (([an]:List Int)++dC)) (nV dk bd) (xB eM c3) (aK.n .i64 eM))):cd _);
  .ite (fun cR =>
  .ret (bz (t1.append [.ah true,.J (o 3 []),.a4 [0] [.pure] (bB [0,1,8,9,10])]) (aO.az (.e2 cR (bJ 1 .live a3 ae)))))
  (fun cR =>
  .au fun cN fB =>
  .bn fun ex =>
  .bn fun ez =>
  .au fun et gY =>
  .au fun gy iO =>
  .au fun kt hR =>
  .ret (bz (t1.append [.ah false,.J (o 2 (ad (a7 2 (.n .i64 cN) true) (o 1 []))),.J (o 4 (ad .cY [])),.J (o 3 (ad (a7 1 (.isl 1 (et.map I)) false) (ad (a7 2 (.isl 1 (gy.map I)) false) (ad (a7 2 (.isl 1 (kt.map I)) false) (o 1 []))))),.J (o 3 []),.a4 [0] [.dr [ab.mk 1 ((ae.set (0+ai.toNat) cN).map I) .live]] [(0,ii),(1,ii),(8,e6 ((ae.set (0+ai.toNat) cN).length)),(9,ii),(10,ii)]]) (aO.az (.bh cR (Nc cN fB) (aK.n .i64 cN) ex.1 ex.2 (g7 I ez) (gT 1) (sg et gY) (.cM (nw gy iO) (Cm kt hR) (eb 1 .live (fZ (aD I ae) (0+ai.toNat) cN)) (bJ 1 .live a3 (ae.set (0+ai.toNat) cN)) (fQ (ba ae) (0+ai.toNat) cN))))))))
  (fun h1 =>
  .ret (bz [.J (o 2 []),.ah false,.a4 [0] [.pure] (bB [8,9])] (.e2 h1 (bJ 1 .live a3 ae))))
theorem MT {aa:(List Int)} {ak:(List Int)} {dC:(List Int)} {ai:Int} {ae:(List Int)} {r} (h:Cn aa ak dC ai ae=some r):eh aY 65 0 90 [1,1,1,1,0,1,0,0] (AX aa ak) (Bk aa ak) (dC,ai,ae) r:=ej (fun _=>LK) h
def oJ (aa:(List Int)) (ak:(List Int)):Option ((List Int)×(List Int)) :=
 if ((len_ I ak) == (1:Int))=true then
  if 0≤(0:Int)∧(0:Int)<ak.length then
  ak[0]? >>= fun an =>
  uA aa an >>= fun aV =>
  nz aV.2 >>= fun bw =>
  some (aV.1,bw)
  else none
 else
  if 0≤(len_ I aa)∧(8:Int)*(len_ I aa)≤281474976710656∧(len_ I aa)<9223372036854775808 then
  Cn aa ak ([]:List Int) (U ((len_ I aa)-(1:Int))) (List.replicate (len_ I aa).toNat 0:List Int) >>= fun a2 =>
  mc a2.2 >>= fun aV =>
  some (aV,a2.1)
  else none
theorem xC {aa:(List Int)} {ak:(List Int)}:bk (oJ aa ak) (fun r=>Con aY 90 [.isl 1 (aa.map I),.isl 1 (ak.map I)] [] (.cz [.isl 1 (r.1.map I),.isl 1 (r.2.map I)]) []):=by
 unfold oJ
 exact .ite (fun h1 =>
  .bn fun h2 =>
  .au fun an ap =>
  .au fun aV aQ =>
  .au fun bw bL =>
  .ret (aU [.J (o 2 []),.J (o 3 []),.ah true,.J (o 3 (ad (.b8 (I an)) (ad (a7 2 (.cz [.isl 1 (aV.1.map I),.n .i64 aV.2]) false) (o 5 [])))),.J (o 2 (ad (a7 1 (.isl 1 (bw.map I)) false) (o 2 [])))] (.d5 h1 h2.1 (dd I h2.2) (cB I ap) (Nb aV aQ) (sg bw bL))))
  (fun h1 =>
  .bn fun h2 =>
  .au fun a2 ap =>
  .au fun aV aQ =>
  .ret (aU [.J (o 2 []),.J (o 3 []),.ah false,.J (o 4 []),.J (o 2 []),.J (o 4 []),.a4 [7] [.dr [ab.mk 1 ((List.replicate (len_ I aa).toNat 0:List Int).map I) .live]] [(0,ii),(1,ii),(8,e6 ((List.replicate (len_ I aa).toNat 0:List Int).length)),(9,.bo (.bX (.cL (([]:List Int).map I)))),(10,ii)],(Bk aa ak a2).fo,.fx 0,.J (o 1 (ad (.call {ac:=[.bo (.bX (.cL (a2.2.map I)))],r:= .isl 1 (aV.map I),b5:=false,b6:=[0]}) (o 3 [])))] (.bh h1 h2.1 (Int.le_refl (len_ I aa)) h2.2.1 h2.2.2 (eb 1 .live (kB I (len_ I aa).toNat 0)) (bJ 1 .live a3 (List.replicate (len_ I aa).toNat 0:List Int)) (kC (len_ I aa).toNat (0:Int)) (.gz (dv (show []=(([]:List Int)).map I from rfl) (show 0=([]:List Int).length from rfl)) (cq (show []=(([]:List Int)).map I from rfl) (show 0=([]:List Int).length from rfl)) (cn a3 ([]:List Int)) (MT ap) (dv (aD I a2.2) (ba a2.2)) (cq (aD I a2.2) (ba a2.2)) (cn a3 a2.2) (nV aV aQ)))))
def AY:((List Int)×(List Int))→S:=fun (bS,da)=>dy [(5,.isl 1 (bS.map I)),(6,.isl 1 (da.map I))] []
def xp:(((List Int))⊕((List Int)))→dB
 | .inl a=>⟨some 0,[(5,.isl 1 (a.map I))],[]⟩
 | .inr a=>⟨none,[(4,.isl 1 (a.map I))],[]⟩
def pD (bS:(List Int)) (da:(List Int)):Option (((List Int)×(List Int))⊕(((List Int))⊕((List Int)))) :=
 if (decide ((0:Int)<(len_ I da)))=true then
  if (decide ((len_ I bS)<(3:Int)))=true then
   if (decide ((len_ I da)<(3:Int)))=true then
    sf bS >>= fun bb =>
    sf da >>= fun dk =>
    uz bb.1 dk.1 >>= fun eM =>
    some (.inr (.inr eM))
   else
    oJ bS da >>= fun bb =>
    some (.inl (da,bb.2))
  else
   oJ bS da >>= fun a2 =>
   some (.inl (da,a2.2))
 else
  some (.inr (.inl bS))
def Co (bS:(List Int)) (da:(List Int)):Option (((List Int))⊕((List Int))):=iter (fun w:(List Int)×(List Int)=>pD w.1 w.2) (bS,da)
theorem LL {bS:(List Int)} {da:(List Int)}:bk (pD bS da) (eg aY 52 0 62 [1,1,1,0,0,0] (AY (bS,da)) (AY) (xp)):=by
 unfold pD
 exact .ite (fun h1 =>
  .ite (fun h2 =>
  (let t1:List bE:=[.J (o 3 []),.ah true,.J (o 7 (ad (.ah true) []))];
  .ite (fun ag =>
  .au fun bb aE =>
  .au fun dk bd =>
  .au fun eM c3 =>
  .ret (bz (t1.append [.ah true,.J (o 1 (ad (a7 1 (.cz [.n .i64 bb.1,.b bb.2]) true) (o 5 []))),.J (o 1 (ad (a7 1 (.cz [.n .i64 dk.1,.b dk.2]) true) (o 5 []))),.J (o 2 (ad (a7 2 (.isl 1 (eM.map I)) false) (o 1 []))),.a4 [] [] (bB [4])]) (.bh h1 h2 h2 h2 h2 ag (F4 bb aE) (lx (cG (aK.n .i64 bb.1) (cG (aK.b bb.2) fH))) (.bp (F4 dk bd) (lx (cG (aK.n .i64 dk.1) (cG (aK.b dk.2) fH))) (Na eM c3)))))
  (fun ag =>
  .au fun bb aE =>
  .ret (bz (t1.append [.ah false,.J (o 2 (ad (a7 2 (.cz [.isl 1 (bb.1.map I),.isl 1 (bb.2.map I)]) false) (o 5 []))),.J (o 2 []),.J (o 2 []),.a4 [] [] (bB [5,6])]) (.dP h1 h2 h2 h2 h2 ag (xC bb aE))))))
  (fun h2 =>
  .au fun a2 ap =>
  .ret (bz [.J (o 3 []),.ah true,.J (o 4 (ch 3 (ad (.ah false) []))),.ah false,.J (o 2 (ad (a7 2 (.cz [.isl 1 (a2.1.map I),.isl 1 (a2.2.map I)]) false) (o 5 []))),.J (o 2 []),.J (o 2 []),.a4 [] [] (bB [5,6])] (.dP h1 h2 h2 h2 h2 fP (xC a2 ap)))))
  (fun h1 =>
  .ret (bz [.J (o 3 []),.ah false,.a4 [] [] (bB [5])] (.e1 h1)))
theorem FW {bS:(List Int)} {da:(List Int)} {r} (h:Co bS da=some r):eh aY 52 0 62 [1,1,1,0,0,0] (AY) (xp) (bS,da) r:=ej (fun _=>LL) h
def sw (aa:(List Int)) (ak:(List Int)):Option (List Int) :=
 if (([]:List Int)++aa).length*8≤140737488355328 then
 if (([]:List Int)++ak).length*8≤140737488355328 then
 Co (([]:List Int)++aa) (([]:List Int)++ak) >>= fun a2 =>
 match a2 with
 | .inl cw=>(some cw)
 | .inr cw=>(some cw)
 else none
 else none
theorem Gm {aa:(List Int)} {ak:(List Int)}:bk (sw aa ak) (fun r=>Con aY 62 [.isl 1 (aa.map I),.isl 1 (ak.map I)] [] (.isl 1 (r.map I)) []):=by
 unfold sw
 exact .bn fun h1 =>
  .bn fun h2 =>
  .au fun a2 ap =>
  (let t1:List bE:=[.J (o 1 []),.J (o 2 (ad (.az ((([]:List Int)++aa).length)) (o 1 []))),.J (o 2 (ad (.az ((([]:List Int)++ak).length)) (o 1 []))),.a4 [] [] [(5,.bo (.bX (.cL ((([]:List Int)++aa).map I)))),(6,.bo (.bX (.cL ((([]:List Int)++ak).map I))))]];
  have aO:=((.bh (ia (show []=(([]:List Int)).map I from rfl) (show 0=([]:List Int).length from rfl)) (ib (show 0=([]:List Int).length from rfl) (aD I aa):(([]:List Int)++aa).length=0+(aa.map I).length) h1 (ia (show []=(([]:List Int)).map I from rfl) (show 0=([]:List Int).length from rfl)) (ib (show 0=([]:List Int).length from rfl) (aD I ak):(([]:List Int)++ak).length=0+(ak.map I).length) h2 (dv (gf (show []=(([]:List Int)).map I from rfl) (show 0=([]:List Int).length from rfl) (aD I aa)) (ba (([]:List Int)++aa))) (cq (gf (show []=(([]:List Int)).map I from rfl) (show 0=([]:List Int).length from rfl) (aD I aa)) (ba (([]:List Int)++aa))) (.cp (cn a3 (([]:List Int)++aa)) (dv (gf (show []=(([]:List Int)).map I from rfl) (show 0=([]:List Int).length from rfl) (aD I ak)) (ba (([]:List Int)++ak))) (cq (gf (show []=(([]:List Int)).map I from rfl) (show 0=([]:List Int).length from rfl) (aD I ak)) (ba (([]:List Int)++ak))) (cn a3 (([]:List Int)++ak)))):cd _);
  (by
  rcases a2 with cw|cw
  ·exact (.ret (aU (t1.append [(xp (.inl cw)).fo,.J (o 2 [])]) (aO.az (.e1 (FW ap)))))
  ·exact (.ret (aU (t1.append [(xp (.inr cw)).fo]) (aO.az (.e1 (FW ap)))))))
def mT (aa:(List Int)):Option Bool :=
 if ((len_ I aa) == (1:Int))=true then
  if 0≤(0:Int)∧(0:Int)<aa.length then
  aa[0]? >>= fun an =>
  some (an == (1:Int))
  else none
 else
  some false
theorem uu {aa:(List Int)}:bk (mT aa) (fun r=>Con aY 61 [.isl 1 (aa.map I)] [] (.b r) []):=by
 unfold mT
 exact .ite (fun h1 =>
  .bn fun h2 =>
  .au fun an ap =>
  .ret (aU [.J (o 1 []),.J (o 6 (ad (.b8 (I an)) (o 1 (ad (.ah true) (o 1 [])))))] (.gz h1 h1 h2.1 (dd I h2.2) h1 (cB I ap) h1 h1)))
  (fun h1 =>
  .ret (aU [.J (o 1 []),.J (o 4 (ch 4 (ad (.ah false) (o 1 []))))] (.cM h1 h1 h1 h1 h1)))
def j0 (cl:bF):Option Bool :=
 uy cl.bm >>= fun r1 =>
 if r1=true then
  oM cl.bO >>= fun bb =>
  if bb=true then
   if ((len_ I cl.bO) == (0:Int))=true then
    some false
   else
    if (decide ((24:Int)<(len_ I cl.bO)))=true then
     some false
    else
     if (decide ((24:Int)<(len_ I cl.bm.a9)))=true then
      some false
     else
      sw cl.bm.a9 cl.bO >>= fun aA =>
      mT aA >>= fun ay =>
      some ay
  else
   some false
 else
  some false
theorem oG {cl:bF}:bk (j0 cl) (fun r=>Con aY 27 [.agg [.b cl.bm.bM,.isl 1 (cl.bm.a9.map I),.isl 1 (cl.bO.map I)]] [] (.b r) []):=by
 unfold j0
 exact .au fun r1 h2 =>
  (have bt:=((.e2 (M8 r1 h2) (aK.b r1)):cd _);
  .ite (fun ag =>
  .au fun bb aE =>
  (have aO:=bt.az (.dP (bK ag) (bK ag) (bK ag) (CA bb aE) (aK.b bb) (bK ag) (bK ag));
  .ite (fun aQ =>
  (have dZ:=aO.az (.cM (bK aQ) (bK aQ) (bK aQ) (bK aQ) (bK aQ));
  .ite (fun bd =>
  .ret (aU [.J (o 2 []),.J (o 2 (ad (a7 1 (.b r1) true) (o 4 (ad (a7 1 (.b bb) true) (o 1 (ad (.ah false) (o 5 (ad (.ah false) (o 1 (ch 4 (ad (.ah true) (o 1 (ch 5 (o 1 [])))))))))))))),.ah true,.J (o 1 [])] (dZ.az (.bh bd bd bd bd bd bG bG bG (.bp bG bG bG)))))
  (fun bd =>
  .ite (fun bL =>
  .ret (aU [.J (o 2 []),.J (o 2 (ad (a7 1 (.b r1) true) (o 4 (ad (a7 1 (.b bb) true) (o 1 (ad (.ah false) (o 5 (ad (.ah false) (o 5 (ad (.ah false) (o 1 (ch 5 (ad (.ah true) []))))))))))))),.ah true,.J (o 1 [])] (dZ.az (.bh bd bd bd bd bd bL bL bL (.cp bL bL bL bG)))))
  (fun bL =>
  (let t4:List bE:=[.J (o 2 []),.J (o 2 (ad (a7 1 (.b r1) true) (o 4 (ad (a7 1 (.b bb) true) (o 1 (ad (.ah false) (o 5 (ad (.ah false) (o 5 (ad (.ah false) (o 6 (ad (.ah false) []))))))))))))];
  have kd:=dZ.az (.bh bd bd bd bd bd bL bL bL (.bp bL bL bL));
  .ite (fun c3 =>
  .ret (aU (t4.append [.ah true,.J (o 1 [])]) (kd.az (.e1 c3))))
  (fun c3 =>
  .au fun aA fi =>
  .au fun ay ex =>
  .ret (aU (t4.append [.ah false,.J (o 5 (ad (a7 2 (.isl 1 (aA.map I)) false) (ad (a7 1 (.b ay) true) (o 1 []))))]) (kd.az (.cp c3 (Gm aA fi) (uu ay ex) (aK.b ay))))))))))
  (fun aQ =>
  .ret (aU [.J (o 2 []),.J (o 2 (ad (a7 1 (.b r1) true) (o 4 (ad (a7 1 (.b bb) true) (o 1 (ad (.ah false) (o 1 (ch 4 (ad (.ah true) (o 1 (ch 4 (o 2 (ch 5 (o 1 [])))))))))))))),.ah true,.J (o 1 [])] (aO.az (.bh (b3 aQ) (b3 aQ) (b3 aQ) (b3 aQ) (b3 aQ) bG bG bG (.dP bG bG bG bG bG bG bG)))))))
  (fun ag =>
  .ret (aU [.J (o 2 []),.J (o 2 (ad (a7 1 (.b r1) true) (o 2 (ch 4 (ad (.ah true) (o 1 (ch 4 (o 2 (ch 4 (o 2 (ch 5 (o 1 [])))))))))))),.ah true,.J (o 1 [])] (bt.az (.bh (b3 ag) (b3 ag) (b3 ag) (b3 ag) (b3 ag) bG bG bG (.bh bG bG bG bG bG bG bG bG (.bp bG bG bG)))))))
def Ag (hd:(List bF)) (fl:Int):Int→S:=fun dA=>dy [(5,.isl 3 (hd.map eTRat)),(6,.n .i64 fl),(7,.n .i64 dA)] []
def Fw (hd:(List bF)) (fl:Int):((Unit)⊕(Unit))→dB
 | .inl a=>⟨some 0,[],[]⟩
 | .inr a=>⟨none,[(2,.b false)],[]⟩
def rH (hd:(List bF)) (fl:Int) (dA:Int):Option ((Int)⊕((Unit)⊕(Unit))) :=
 if (decide (dA<fl))=true then
  if 0≤dA∧dA<hd.length then
  hd[dA.toNat]? >>= fun an =>
  j0 an >>= fun aV =>
  if aV=true then
   some (.inl (U (dA+(1:Int))))
  else
   some (.inr (.inr ()))
  else none
 else
  some (.inr (.inl ()))
def BW (hd:(List bF)) (fl:Int) (dA:Int):Option ((Unit)⊕(Unit)):=iter (fun w:Int=>rH hd fl w) dA
theorem Li {hd:(List bF)} {fl:Int} {dA:Int}:bk (rH hd fl dA) (eg aY 15 0 52 [1,0,1,0,0] (Ag hd fl dA) (Ag hd fl) (Fw hd fl)):=by
 unfold rH
 exact .ite (fun h1 =>
  .bn fun h2 =>
  .au fun an ap =>
  .au fun aV aQ =>
  (let t1:List bE:=[.J (o 1 []),.ah true,.J (o 1 (ad (.b8 (eTRat an)) (o 2 []))),.J (o 1 (ad (a7 1 (.b aV) true) (o 1 [])))];
  have aO:=((.d5 h1 h2.1 (dd eTRat h2.2) (cB eTRat ap) (oG aV aQ) (aK.b aV)):cd _);
  .ite (fun bd =>
  .ret (bz (t1.append [.ah false,.J (o 2 []),.a4 [] [] (bB [5,6,7])]) (aO.az (.e1 (bK bd)))))
  (fun bd =>
  .ret (bz (t1.append [.ah true,.J (o 1 []),.a4 [] [] (bB [2])]) (aO.az (.e1 (b3 bd)))))))
  (fun h1 =>
  .ret (bz [.J (o 1 []),.ah false,.a4 [] [] []] (.e1 h1)))
theorem FE {hd:(List bF)} {fl:Int} {dA:Int} {r} (h:BW hd fl dA=some r):eh aY 15 0 52 [1,0,1,0,0] (Ag hd fl) (Fw hd fl) dA r:=ej (fun _=>Li) h
def pQ (cU:(List bF)):Option Bool :=
 BW cU (len_ eTRat cU) 0 >>= fun r1 =>
 match r1 with
 | .inl dR=>(some true)
 | .inr dR=>(some false)
theorem F5 {cU:(List bF)}:bk (pQ cU) (fun r=>Con aY 52 [.isl 3 (cU.map eTRat)] [] (.b r) []):=by
 unfold pQ
 exact .au fun r1 h2 =>
  (let t1:List bE:=[.J (o 1 []),.J (o 3 []),.a4 [] [] (bB [5,6,7])];
  (by
  rcases r1 with dR|dR
  ·exact (.ret (aU (t1.append [.sub (.exit 0) [] [],.J (o 1 [])]) (.e1 (FE h2))))
  ·exact (.ret (aU (t1.append [.sub (.ret) [(2,.b false)] []]) (.e1 (FE h2))))))
def sm (aH:c4) (fN:(List bF)):Option Bool :=
 nU aH >>= fun r1 =>
 if r1=true then
  if ((len_ eTRat fN) == (len_ aZ aH.b9))=true then
   pQ fN >>= fun aV =>
   some aV
  else
   some false
 else
  some false
theorem NA {aH:c4} {fN:(List bF)}:bk (sm aH fN) (fun r=>Con aY 20 [.agg [.isl 4 (aH.a6.map aG),.isl 3 (aH.b9.map aZ)],.isl 3 (fN.map eTRat)] [] (.b r) []):=by
 unfold sm
 exact .au fun r1 h2 =>
  (have bt:=((.e2 (FC r1 h2) (aK.b r1)):cd _);
  .ite (fun ag =>
  .ite (fun ap =>
  .au fun aV aQ =>
  .ret (aU [.J (o 2 []),.J (o 1 (ad (a7 1 (.b r1) true) (o 7 (ad (.ah true) (o 2 (ad (a7 1 (.b aV) true) (ad (.ah true) (o 1 []))))))))] (bt.az (.bh ag ag ag ag ag ag ag ap (.cp ap (F5 aV aQ) (aK.b aV) ap)))))
  (fun ap =>
  .ret (aU [.J (o 2 []),.J (o 1 (ad (a7 1 (.b r1) true) (o 7 (ad (.ah true) (o 1 (ch 2 (ad (.ah false) (o 1 []))))))))] (bt.az (.bh ag ag ag ag ag ag ag ap (.e2 ap ap))))))
  (fun ag =>
  .ret (aU [.J (o 2 []),.J (o 1 (ad (a7 1 (.b r1) true) (o 1 (ch 6 (ad (.ah false) (o 1 (ch 2 (o 2 []))))))))] (bt.az (.bh ag ag ag ag ag ag ag fP (.e1 fP))))))
def Ax (di:(List bg)) (du:Int):(Int×(List Int))→S:=fun (cr,ae)=>dy [(3,.aN 0 0 0 ae.length),(8,.isl 4 (di.map aG)),(9,.n .i64 du),(10,.n .i64 cr)] [[ab.mk 1 (ae.map I) .live]]
def AZ (di:(List bg)) (du:Int):(List Int)→dB
 | a=>⟨some 0,[(3,.aN 0 0 0 a.length)],[[ab.mk 1 (a.map I) .live]]⟩
def t0 (di:(List bg)) (du:Int) (cr:Int) (ae:(List Int)):Option ((Int×(List Int))⊕((List Int))) :=
 if (decide (cr<du))=true then
  if 0≤cr∧cr<di.length then
  di[cr.toNat]? >>= fun an =>
  if an.cS=true then
   some (.inl (U (cr+(1:Int)),ae))
  else
   if (ae++([cr]:List Int)).length*8≤140737488355328 then
   some (.inl (U (cr+(1:Int)),ae++([cr]:List Int)))
   else none
  else none
 else
  some (.inr ae)
def Cb (di:(List bg)) (du:Int) (cr:Int) (ae:(List Int)):Option ((List Int)):=iter (fun w:Int×(List Int)=>t0 di du w.1 w.2) (cr,ae)
theorem Ls {di:(List bg)} {du:Int} {cr:Int} {ae:(List Int)}:bk (t0 di du cr ae) (eg aY 24 0 53 [1,1,0,1,0,0] (Ax di du (cr,ae)) (Ax di du) (AZ di du)):=by
 unfold t0
 exact .ite (fun h1 =>
  .bn fun h2 =>
  .au fun an ap =>
  (let t1:List bE:=[.J (o 1 []),.ah true,.J (o 2 (ad (.b8 (aG an)) (o 3 []))),.J (o 3 [])];
  have aO:=((.cp h1 h2.1 (dd aG h2.2) (cB aG ap)):cd _);
  .ite (fun aE =>
  .ret (bz (t1.append [.ah false,.J (o 2 []),.a4 [0] [.pure] (bB [3,8,9,10])]) (aO.az (.e2 (bK aE) (bJ 1 .live a3 ae)))))
  (fun aE =>
  .bn fun aQ =>
  .ret (bz (t1.append [.ah true,.J (o 3 (ad (.az ((ae++([cr]:List Int)).length)) (o 1 []))),.J (o 2 []),.a4 [14] [.dr [ab.mk 1 ((ae++([cr]:List Int)).map I) .live]] (bB [3,8,9,10])]) (aO.az (.dP (b3 aE) (cq (show [[.n .i64 cr]]=(([cr]:List Int)).map I from rfl) (show 1=([cr]:List Int).length from rfl)) (ia (aD I ae) (ba ae)) (ib (ba ae) (hy (show [[.n .i64 cr]]=(([cr]:List Int)).map I from rfl) (show 1=([cr]:List Int).length from rfl)):(ae++([cr]:List Int)).length=ae.length+(([[.n .i64 cr]].drop 0).take 1).length) aQ (eb 1 .live (gf (aD I ae) (ba ae) (hy (show [[.n .i64 cr]]=(([cr]:List Int)).map I from rfl) (show 1=([cr]:List Int).length from rfl)))) (bJ 1 .live a3 (ae++([cr]:List Int)))))))))
  (fun h1 =>
  .ret (bz [.J (o 1 []),.ah false,.a4 [0] [.pure] (bB [3])] (.e2 h1 (bJ 1 .live a3 ae))))
theorem MD {di:(List bg)} {du:Int} {cr:Int} {ae:(List Int)} {r} (h:Cb di du cr ae=some r):eh aY 24 0 53 [1,1,0,1,0,0] (Ax di du) (AZ di du) (cr,ae) r:=ej (fun _=>Ls) h
def uN (aH:c4):Option (List Int) :=
 Cb aH.a6 (len_ aG aH.a6) 0 ([]:List Int) >>= fun r1 =>
 some r1
theorem NB {aH:c4}:bk (uN aH) (fun r=>Con aY 53 [.agg [.isl 4 (aH.a6.map aG),.isl 3 (aH.b9.map aZ)]] [] (.isl 1 (r.map I)) []):=by
 unfold uN
 exact .au fun r1 h2 =>
  .ret (aU [.J (o 2 []),.J (o 2 []),.J (o 4 []),.a4 [2] [.dr [ab.mk 1 (([]:List Int).map I) .live]] [(3,e6 (([]:List Int).length)),(8,ii),(9,ii),(10,ii)],(AZ aH.a6 (len_ aG aH.a6) r1).fo,.J (o 2 [])] (.dP (eb 1 .live (show []=(([]:List Int)).map I from rfl)) (bJ 1 .live a3 ([]:List Int)) (show 0=([]:List Int).length from rfl) (MD h2) (dv (aD I r1) (ba r1)) (cq (aD I r1) (ba r1)) (cn a3 r1)) (.bo (.bX (.cL (r1.map I)))))
def si (aH:c4) (c5:(List bF)):Option Bool :=
 nU aH >>= fun r1 =>
 if r1=true then
  uN aH >>= fun bb =>
  if ((len_ eTRat c5) == (U ((2:Int)*(len_ I bb))))=true then
   pQ c5 >>= fun bw =>
   some bw
  else
   some false
 else
  some false
theorem Nd {aH:c4} {c5:(List bF)}:bk (si aH c5) (fun r=>Con aY 21 [.agg [.isl 4 (aH.a6.map aG),.isl 3 (aH.b9.map aZ)],.isl 3 (c5.map eTRat)] [] (.b r) []):=by
 unfold si
 exact .au fun r1 h2 =>
  (have bt:=((.e2 (FC r1 h2) (aK.b r1)):cd _);
  .ite (fun ag =>
  .au fun bb aE =>
  (have aO:=bt.az (.bh ag ag ag ag (NB bb aE) ag ag ag (.e1 ag));
  .ite (fun aQ =>
  .au fun bw bL =>
  .ret (aU [.J (o 2 []),.J (o 1 (ad (a7 1 (.b r1) true) (o 4 (ad (a7 1 (.isl 1 (bb.map I)) false) (o 3 (ad (.ah true) (o 2 (ad (a7 1 (.b bw) true) (ad (.ah true) (o 1 []))))))))))] (aO.az (.cM aQ aQ (F5 bw bL) (aK.b bw) aQ))))
  (fun aQ =>
  .ret (aU [.J (o 2 []),.J (o 1 (ad (a7 1 (.b r1) true) (o 4 (ad (a7 1 (.isl 1 (bb.map I)) false) (o 3 (ad (.ah true) (o 1 (ch 2 (ad (.ah false) (o 1 []))))))))))] (aO.az (.bp aQ aQ aQ))))))
  (fun ag =>
  .ret (aU [.J (o 2 []),.J (o 1 (ad (a7 1 (.b r1) true) (o 1 (ch 7 (ad (.ah false) (o 1 (ch 2 (o 2 []))))))))] (bt.az (.bh ag ag ag ag ag ag ag ag (.e2 fP fP))))))
def sx (aa:(List Int)):Option (List Int) :=
 mc aa >>= fun r1 =>
 if (decide ((60:Int)<(len_ I r1)))=true then
  some ([]:List Int)
 else
  some r1
theorem Gn {aa:(List Int)}:bk (sx aa) (fun r=>Con aY 108 [.isl 1 (aa.map I)] [] (.isl 1 (r.map I)) []):=by
 unfold sx
 exact .au fun r1 h2 =>
  (let t1:List bE:=[.J (o 1 []),.J (o 1 (ad (a7 1 (.isl 1 (r1.map I)) false) (o 1 []))),.J (o 3 [])];
  .ite (fun ag =>
  .ret (aU (t1.append [.ah true,.J (o 1 [])]) (.e2 (nV r1 h2) ag) (.bo (.bX (.eO 1)))))
  (fun ag =>
  .ret (aU (t1.append [.ah false,.J (o 2 [])]) (.e2 (nV r1 h2) ag))))
def gA (kG:Bool) (aa:(List Int)):Option cZ :=
 sx aa >>= fun r1 =>
 if kG=true then
  if (([]:List Int)++r1).length*8≤140737488355328 then
  some (⟨(decide ((0:Int)<(len_ I r1))),([]:List Int)++r1⟩:cZ)
  else none
 else
  if (([]:List Int)++r1).length*8≤140737488355328 then
  some (⟨false,([]:List Int)++r1⟩:cZ)
  else none
theorem ls {kG:Bool} {aa:(List Int)}:bk (gA kG aa) (fun r=>Con aY 83 [.b kG,.isl 1 (aa.map I)] [] (.agg [.b r.bM,.isl 1 (r.a9.map I)]) []):=by
 unfold gA
 exact .au fun r1 h2 =>
  (let t1:List bE:=[.J (o 1 []),.J (o 1 (ad (a7 1 (.isl 1 (r1.map I)) false) (o 1 [])))];
  .ite (fun ag =>
  .bn fun ap =>
  .ret (aU (t1.append [.J (o 5 (ad (.ah true) (o 2 (ad (.az ((([]:List Int)++r1).length)) (o 2 [])))))]) (.bh (Gn r1 h2) ag ag ag ag (ia (show []=(([]:List Int)).map I from rfl) (show 0=([]:List Int).length from rfl)) (ib (show 0=([]:List Int).length from rfl) (aD I r1):(([]:List Int)++r1).length=0+(r1.map I).length) ap (.bp (dv (gf (show []=(([]:List Int)).map I from rfl) (show 0=([]:List Int).length from rfl) (aD I r1)) (ba (([]:List Int)++r1))) (cq (gf (show []=(([]:List Int)).map I from rfl) (show 0=([]:List Int).length from rfl) (aD I r1)) (ba (([]:List Int)++r1))) (cn a3 (([]:List Int)++r1)))) (.bo (.agg [.id,.cL ((([]:List Int)++r1).map I)]))))
  (fun ag =>
  .bn fun ap =>
  .ret (aU (t1.append [.J (o 2 (ch 3 (ad (.ah false) (o 2 (ad (.az ((([]:List Int)++r1).length)) (o 2 []))))))]) (.bh (Gn r1 h2) ag ag ag ag (ia (show []=(([]:List Int)).map I from rfl) (show 0=([]:List Int).length from rfl)) (ib (show 0=([]:List Int).length from rfl) (aD I r1):(([]:List Int)++r1).length=0+(r1.map I).length) ap (.bp (dv (gf (show []=(([]:List Int)).map I from rfl) (show 0=([]:List Int).length from rfl) (aD I r1)) (ba (([]:List Int)++r1))) (cq (gf (show []=(([]:List Int)).map I from rfl) (show 0=([]:List Int).length from rfl) (aD I r1)) (ba (([]:List Int)++r1))) (cn a3 (([]:List Int)++r1)))) (.bo (.agg [.id,.cL ((([]:List Int)++r1).map I)])))))
def uC (bc:Int):Option cZ :=
 if (bc == (-9223372036854775808:Int))=true then
  gA true ([854775808,223372036,9]:List Int) >>= fun r2 =>
  some r2
 else
  if (decide (bc<(0:Int)))=true then
   nz (U (0-bc)) >>= fun a2 =>
   gA true a2 >>= fun aV =>
   some aV
  else
   nz bc >>= fun a2 =>
   gA false a2 >>= fun aV =>
   some aV
theorem Nf {bc:Int}:bk (uC bc) (fun r=>Con aY 54 [.n .i64 bc] [] (.agg [.b r.bM,.isl 1 (r.a9.map I)]) []):=by
 unfold uC
 exact .ite (fun h1 =>
  .au fun r2 ag =>
  .ret (aU [.J (o 1 []),.J (o 2 []),.ah true,.J (o 1 (ad (.nR 3 (.call {ac:=[ii,.bo (.bX (.cL (([854775808,223372036,9]:List Int).map I)))],r:= .agg [.b r2.bM,.isl 1 (r2.a9.map I)],b5:=false,b6:=[3]})) (o 1 [])))] (.cM h1 (dv (show [[.n .i64 (854775808:Int)],[.n .i64 (223372036:Int)],[.n .i64 (9:Int)]]=(([854775808,223372036,9]:List Int)).map I from rfl) (show 3=([854775808,223372036,9]:List Int).length from rfl)) (cq (show [[.n .i64 (854775808:Int)],[.n .i64 (223372036:Int)],[.n .i64 (9:Int)]]=(([854775808,223372036,9]:List Int)).map I from rfl) (show 3=([854775808,223372036,9]:List Int).length from rfl)) (cn a3 ([854775808,223372036,9]:List Int)) (ls r2 ag))))
  (fun h1 =>
  (let t1:List bE:=[.J (o 1 []),.J (o 2 []),.ah false,.J (o 2 [])];
  .ite (fun h2 =>
  .au fun a2 ap =>
  .au fun aV aQ =>
  .ret (aU (t1.append [.ah true,.J (o 2 (ad (a7 1 (.isl 1 (a2.map I)) false) (ad (a7 2 (.agg [.b aV.bM,.isl 1 (aV.a9.map I)]) false) (o 1 []))))]) (.cp h1 h2 (sg a2 ap) (ls aV aQ))))
  (fun h2 =>
  .au fun a2 ap =>
  .au fun aV aQ =>
  .ret (aU (t1.append [.ah false,.J (o 1 (ad (a7 1 (.isl 1 (a2.map I)) false) (ad (a7 2 (.agg [.b aV.bM,.isl 1 (aV.a9.map I)]) false) (o 1 []))))]) (.cp h1 h2 (sg a2 ap) (ls aV aQ))))))
def r9 (bc:Int):Option bF :=
 uC bc >>= fun r1 =>
 some (⟨r1,([1]:List Int)⟩:bF)
theorem Bl {bc:Int}:bk (r9 bc) (fun r=>Con aY 22 [.n .i64 bc] [] (.agg [.b r.bm.bM,.isl 1 (r.bm.a9.map I),.isl 1 (r.bO.map I)]) []):=by
 unfold r9
 exact .au fun r1 h2 =>
  .ret (aU [.J (o 1 []),.J (o 1 (ad (a7 1 (.agg [.b r1.bM,.isl 1 (r1.a9.map I)]) false) (o 3 [])))] (.cp (Nf r1 h2) (dv (show [[.n .i64 (1:Int)]]=(([1]:List Int)).map I from rfl) (show 1=([1]:List Int).length from rfl)) (cq (show [[.n .i64 (1:Int)]]=(([1]:List Int)).map I from rfl) (show 1=([1]:List Int).length from rfl)) (cn a3 ([1]:List Int))) (.bo (.agg [.id,.id,.cL (([1]:List Int).map I)])))
def Bm (iu:Int) (du:(List bg)) (cr:Int):(Int×Int)→S:=fun (bc,dp)=>dy [(1,.n .i64 iu),(5,.n .i64 bc),(9,.isl 4 (du.map aG)),(10,.n .i64 cr),(11,.n .i64 dp)] []
def FX (iu:Int) (du:(List bg)) (cr:Int):((Unit)⊕(Int))→dB
 | .inl a=>⟨some 0,[],[]⟩
 | .inr a=>⟨none,[(4,.n .i64 a)],[]⟩
def pG (iu:Int) (du:(List bg)) (cr:Int) (bc:Int) (dp:Int):Option ((Int×Int)⊕((Unit)⊕(Int))) :=
 if (decide (dp<cr))=true then
  if 0≤dp∧dp<du.length then
  du[dp.toNat]? >>= fun an =>
  if (dp == iu)=true then
   if an.cS=true then
    some (.inr (.inr (-1)))
   else
    some (.inr (.inr bc))
  else
   if an.cS=true then
    some (.inl (bc,U (dp+(1:Int))))
   else
    some (.inl (U (bc+(1:Int)),U (dp+(1:Int))))
  else none
 else
  some (.inr (.inl ()))
def CC (iu:Int) (du:(List bg)) (cr:Int) (bc:Int) (dp:Int):Option ((Unit)⊕(Int)):=iter (fun w:Int×Int=>pG iu du cr w.1 w.2) (bc,dp)
theorem LY {iu:Int} {du:(List bg)} {cr:Int} {bc:Int} {dp:Int}:bk (pG iu du cr bc dp) (eg aY 28 0 55 [1,1,0,1,0,0] (Bm iu du cr (bc,dp)) (Bm iu du cr) (FX iu du cr)):=by
 unfold pG
 exact .ite (fun h1 =>
  .bn fun h2 =>
  .au fun an ap =>
  (let t1:List bE:=[.J (o 1 []),.ah true,.J (o 2 (ad (.b8 (aG an)) (o 3 []))),.J (o 3 [])];
  have aO:=((.cp h1 h2.1 (dd aG h2.2) (cB aG ap)):cd _);
  .ite (fun aE =>
  .ite (fun aQ =>
  .ret (bz (t1.append [.ah true,.J (o 2 []),.ah true,.J (o 1 []),.a4 [] [] (bB [4])]) (aO.az (.e2 aE aQ))))
  (fun aQ =>
  .ret (bz (t1.append [.ah true,.J (o 2 []),.ah false,.J (o 2 []),.a4 [] [] (bB [4])]) (aO.az (.e2 aE aQ)))))
  (fun aE =>
  .ite (fun aQ =>
  .ret (bz (t1.append [.ah false,.J (o 3 []),.ah false,.J (o 2 []),.a4 [] [] (bB [1,5,9,10,11])]) (aO.az (.e2 aE (bK aQ)))))
  (fun aQ =>
  .ret (bz (t1.append [.ah false,.J (o 3 []),.ah true,.J (o 3 []),.J (o 2 []),.a4 [] [] (bB [1,5,9,10,11])]) (aO.az (.e2 aE (b3 aQ))))))))
  (fun h1 =>
  .ret (bz [.J (o 1 []),.ah false,.a4 [] [] []] (.e1 h1)))
theorem F6 {iu:Int} {du:(List bg)} {cr:Int} {bc:Int} {dp:Int} {r} (h:CC iu du cr bc dp=some r):eh aY 28 0 55 [1,1,0,1,0,0] (Bm iu du cr) (FX iu du cr) (bc,dp) r:=ej (fun _=>LY) h
def u7 (aH:c4) (iu:Int):Option Int :=
 CC iu aH.a6 (len_ aG aH.a6) 0 0 >>= fun r1 =>
 match r1 with
 | .inl dR=>(some (-1))
 | .inr dR=>(some dR)
theorem N6 {aH:c4} {iu:Int}:bk (u7 aH iu) (fun r=>Con aY 55 [.agg [.isl 4 (aH.a6.map aG),.isl 3 (aH.b9.map aZ)],.n .i64 iu] [] (.n .i64 r) []):=by
 unfold u7
 exact .au fun r1 h2 =>
  (let t1:List bE:=[.J (o 2 []),.J (o 1 []),.J (o 4 []),.a4 [] [] (bB [1,5,9,10,11])];
  (by
  rcases r1 with dR|dR
  ·exact (.ret (aU (t1.append [.sub (.exit 0) [] [],.J (o 1 [])]) (.e1 (F6 h2))))
  ·exact (.ret (aU (t1.append [.sub (.ret) [(4,.n .i64 dR)] []]) (.e1 (F6 h2))))))
def pT (aH:c4) (c5:(List bF)) (iu:Int):Option (bF×bF) :=
 u7 aH iu >>= fun r1 =>
 if (decide (r1<(0:Int)))=true then
  r9 0 >>= fun bb =>
  some (bb,bb)
 else
  if 0≤(U ((2:Int)*r1))∧(U ((2:Int)*r1))<c5.length then
  c5[(U ((2:Int)*r1)).toNat]? >>= fun b2 =>
  if 0≤(U ((U ((2:Int)*r1))+(1:Int)))∧(U ((U ((2:Int)*r1))+(1:Int)))<c5.length then
  c5[(U ((U ((2:Int)*r1))+(1:Int))).toNat]? >>= fun kc =>
  some (b2,kc)
  else none
  else none
theorem Ga {aH:c4} {c5:(List bF)} {iu:Int}:bk (pT aH c5 iu) (fun r=>Con aY 23 [.agg [.isl 4 (aH.a6.map aG),.isl 3 (aH.b9.map aZ)],.isl 3 (c5.map eTRat),.n .i64 iu] [] (.cz [.agg [.b r.1.bm.bM,.isl 1 (r.1.bm.a9.map I),.isl 1 (r.1.bO.map I)],.agg [.b r.2.bm.bM,.isl 1 (r.2.bm.a9.map I),.isl 1 (r.2.bO.map I)]]) []):=by
 unfold pT
 exact .au fun r1 h2 =>
  (let t1:List bE:=[.J (o 3 []),.J (o 2 (ad (a7 2 (.n .i64 r1) true) (o 1 []))),.J (o 2 [])];
  have aO:=((.e2 (N6 r1 h2) (aK.n .i64 r1)):cd _);
  .ite (fun ag =>
  .au fun bb aE =>
  .ret (aU (t1.append [.ah true,.J (ad (a7 1 (.agg [.b bb.bm.bM,.isl 1 (bb.bm.a9.map I),.isl 1 (bb.bO.map I)]) false) (ad (a7 1 (.agg [.b bb.bm.bM,.isl 1 (bb.bm.a9.map I),.isl 1 (bb.bO.map I)]) false) (o 2 [])))]) (aO.az (.bp ag (Bl bb aE) (Bl bb aE)))))
  (fun ag =>
  .bn fun ap =>
  .au fun b2 aQ =>
  .bn fun bd =>
  .au fun kc c3 =>
  .ret (aU (t1.append [.ah false,.J (o 4 (ad (.b8 (eTRat b2)) (o 5 (ad (.b8 (eTRat kc)) (o 2 [])))))]) (aO.az (.dP ag ap.1 (dd eTRat ap.2) (cB eTRat aQ) bd.1 (dd eTRat bd.2) (cB eTRat c3))))))
def sy (cl:bF):Option bF :=
 gA (!cl.bm.bM) cl.bm.a9 >>= fun r1 =>
 if (([]:List Int)++cl.bO).length*8≤140737488355328 then
 some (⟨r1,([]:List Int)++cl.bO⟩:bF)
 else none
theorem NR {cl:bF}:bk (sy cl) (fun r=>Con aY 57 [.agg [.b cl.bm.bM,.isl 1 (cl.bm.a9.map I),.isl 1 (cl.bO.map I)]] [] (.agg [.b r.bm.bM,.isl 1 (r.bm.a9.map I),.isl 1 (r.bO.map I)]) []):=by
 unfold sy
 exact .au fun r1 h2 =>
  .bn fun ag =>
  .ret (aU [.J (o 2 []),.J (o 7 (ad (a7 2 (.agg [.b r1.bM,.isl 1 (r1.a9.map I)]) false) (o 3 (ad (.az ((([]:List Int)++cl.bO).length)) (o 2 [])))))] (.dP (ls r1 h2) (ia (show []=(([]:List Int)).map I from rfl) (show 0=([]:List Int).length from rfl)) (ib (show 0=([]:List Int).length from rfl) (aD I cl.bO):(([]:List Int)++cl.bO).length=0+(cl.bO.map I).length) ag (dv (gf (show []=(([]:List Int)).map I from rfl) (show 0=([]:List Int).length from rfl) (aD I cl.bO)) (ba (([]:List Int)++cl.bO))) (cq (gf (show []=(([]:List Int)).map I from rfl) (show 0=([]:List Int).length from rfl) (aD I cl.bO)) (ba (([]:List Int)++cl.bO))) (cn a3 (([]:List Int)++cl.bO))) (.bo (.agg [.id,.id,.cL ((([]:List Int)++cl.bO).map I)])))
def A0 (aa:(List Int)) (ak:(List Int)):(Int×Int×(List Int))→S:=fun (bx,ai,ae)=>dy [(0,.isl 1 (aa.map I)),(1,.isl 1 (ak.map I)),(5,.aN 0 0 0 ae.length),(6,.n .i64 bx),(7,.n .i64 ai)] [[ab.mk 1 (ae.map I) .live]]
def Bn (aa:(List Int)) (ak:(List Int)):(List Int)→dB
 | a=>⟨some 0,[(5,.aN 0 0 0 a.length)],[[ab.mk 1 (a.map I) .live]]⟩
def pE (aa:(List Int)) (ak:(List Int)) (bx:Int) (ai:Int) (ae:(List Int)):Option ((Int×Int×(List Int))⊕((List Int))) :=
 if (decide (ai<(len_ I aa)))=true then
  if 0≤ai∧ai<aa.length then
  aa[ai.toNat]? >>= fun an =>
  if (decide (ai<(len_ I ak)))=true then
   if 0≤ai∧ai<ak.length then
   ak[ai.toNat]? >>= fun bU =>
   if (ae++([(U ((U (bx+an))+bU)).tmod (1000000000:Int)]:List Int)).length*8≤140737488355328 then
   some (.inl (U ((U ((U (bx+an))+bU)).tdiv (1000000000:Int)),U (ai+(1:Int)),ae++([(U ((U (bx+an))+bU)).tmod (1000000000:Int)]:List Int)))
   else none
   else none
  else
   if (ae++([(U (bx+an)).tmod (1000000000:Int)]:List Int)).length*8≤140737488355328 then
   some (.inl (U ((U (bx+an)).tdiv (1000000000:Int)),U (ai+(1:Int)),ae++([(U (bx+an)).tmod (1000000000:Int)]:List Int)))
   else none
  else none
 else
  if (decide (ai<(len_ I ak)))=true then
   if 0≤ai∧ai<ak.length then
   ak[ai.toNat]? >>= fun eo =>
   if (ae++([(U (bx+eo)).tmod (1000000000:Int)]:List Int)).length*8≤140737488355328 then
   some (.inl (U ((U (bx+eo)).tdiv (1000000000:Int)),U (ai+(1:Int)),ae++([(U (bx+eo)).tmod (1000000000:Int)]:List Int)))
   else none
   else none
  else
   if (decide ((0:Int)<bx))=true then
    if (ae++([bx.tmod (1000000000:Int)]:List Int)).length*8≤140737488355328 then
    some (.inl (U (bx.tdiv (1000000000:Int)),U (ai+(1:Int)),ae++([bx.tmod (1000000000:Int)]:List Int)))
    else none
   else
    some (.inr ae)
def Cp (aa:(List Int)) (ak:(List Int)) (bx:Int) (ai:Int) (ae:(List Int)):Option ((List Int)):=iter (fun w:Int×Int×(List Int)=>pE aa ak w.1 w.2.1 w.2.2) (bx,ai,ae)
theorem LM {aa:(List Int)} {ak:(List Int)} {bx:Int} {ai:Int} {ae:(List Int)}:bk (pE aa ak bx ai ae) (eg aY 55 0 109 [1,1,1,0,1,0,0] (A0 aa ak (bx,ai,ae)) (A0 aa ak) (Bn aa ak)):=by
 unfold pE
 exact .ite (fun h1 =>
  .bn fun h2 =>
  .au fun an ap =>
  (let t1:List bE:=[.J (o 5 (ch 4 (ad (.ah true) (o 1 (ch 2 (o 1 [])))))),.ah true,.J (o 2 []),.J (o 4 []),.ah true,.J (o 4 (ad (.b8 (I an)) (o 2 []))),.J (o 4 [])];
  have aO:=((.bh h1 h1 h1 h1 h1 bG bG bG (.cp h1 h2.1 (dd I h2.2) (cB I ap))):cd _);
  .ite (fun aE =>
  .bn fun aQ =>
  .au fun bU bL =>
  .bn fun c3 =>
  .ret (bz (t1.append [.ah true,.J (o 4 (ad (.b8 (I bU)) (o 2 []))),.J (o 4 (ad (.az ((ae++([(U ((U (bx+an))+bU)).tmod (1000000000:Int)]:List Int)).length)) (o 1 []))),.J (o 3 []),.J (o 3 []),.a4 [43] [.dr [ab.mk 1 ((ae++([(U ((U (bx+an))+bU)).tmod (1000000000:Int)]:List Int)).map I) .live]] (bB [0,1,5,6,7])]) (aO.az (.bh aE aQ.1 (dd I aQ.2) (cB I bL) (by decide:(1000000000:Int)≠0) (cq (show [[.n .i64 ((U ((U (bx+an))+bU)).tmod (1000000000:Int))]]=(([(U ((U (bx+an))+bU)).tmod (1000000000:Int)]:List Int)).map I from rfl) (show 1=([(U ((U (bx+an))+bU)).tmod (1000000000:Int)]:List Int).length from rfl)) (ia (aD I ae) (ba ae)) (ib (ba ae) (hy (show [[.n .i64 ((U ((U (bx+an))+bU)).tmod (1000000000:Int))]]=(([(U ((U (bx+an))+bU)).tmod (1000000000:Int)]:List Int)).map I from rfl) (show 1=([(U ((U (bx+an))+bU)).tmod (1000000000:Int)]:List Int).length from rfl)):(ae++([(U ((U (bx+an))+bU)).tmod (1000000000:Int)]:List Int)).length=ae.length+(([[.n .i64 ((U ((U (bx+an))+bU)).tmod (1000000000:Int))]].drop 0).take 1).length) (.cp c3 (by decide:(1000000000:Int)≠0) (eb 1 .live (gf (aD I ae) (ba ae) (hy (show [[.n .i64 ((U ((U (bx+an))+bU)).tmod (1000000000:Int))]]=(([(U ((U (bx+an))+bU)).tmod (1000000000:Int)]:List Int)).map I from rfl) (show 1=([(U ((U (bx+an))+bU)).tmod (1000000000:Int)]:List Int).length from rfl)))) (bJ 1 .live a3 (ae++([(U ((U (bx+an))+bU)).tmod (1000000000:Int)]:List Int))))))))
  (fun aE =>
  .bn fun aQ =>
  .ret (bz (t1.append [.ah false,.J (o 4 (ad (.az ((ae++([(U (bx+an)).tmod (1000000000:Int)]:List Int)).length)) (o 1 []))),.J (o 3 []),.J (o 3 []),.a4 [36] [.dr [ab.mk 1 ((ae++([(U (bx+an)).tmod (1000000000:Int)]:List Int)).map I) .live]] (bB [0,1,5,6,7])]) (aO.az (.bh aE (by decide:(1000000000:Int)≠0) (cq (show [[.n .i64 ((U (bx+an)).tmod (1000000000:Int))]]=(([(U (bx+an)).tmod (1000000000:Int)]:List Int)).map I from rfl) (show 1=([(U (bx+an)).tmod (1000000000:Int)]:List Int).length from rfl)) (ia (aD I ae) (ba ae)) (ib (ba ae) (hy (show [[.n .i64 ((U (bx+an)).tmod (1000000000:Int))]]=(([(U (bx+an)).tmod (1000000000:Int)]:List Int)).map I from rfl) (show 1=([(U (bx+an)).tmod (1000000000:Int)]:List Int).length from rfl)):(ae++([(U (bx+an)).tmod (1000000000:Int)]:List Int)).length=ae.length+(([[.n .i64 ((U (bx+an)).tmod (1000000000:Int))]].drop 0).take 1).length) aQ (by decide:(1000000000:Int)≠0) (eb 1 .live (gf (aD I ae) (ba ae) (hy (show [[.n .i64 ((U (bx+an)).tmod (1000000000:Int))]]=(([(U (bx+an)).tmod (1000000000:Int)]:List Int)).map I from rfl) (show 1=([(U (bx+an)).tmod (1000000000:Int)]:List Int).length from rfl)))) (.e1 (bJ 1 .live a3 (ae++([(U (bx+an)).tmod (1000000000:Int)]:List Int))))))))))
  (fun h1 =>
  .ite (fun h2 =>
  .bn fun ag =>
  .au fun eo aE =>
  .bn fun aQ =>
  .ret (bz [.J (o 9 (ad (.ah false) (o 1 (ch 2 (ad (.ah true) []))))),.ah true,.J (o 2 []),.J (o 4 []),.ah false,.J (o 4 []),.ah true,.J (o 4 (ad (.b8 (I eo)) (o 2 []))),.J (o 4 (ad (.az ((ae++([(U (bx+eo)).tmod (1000000000:Int)]:List Int)).length)) (o 1 []))),.J (o 3 []),.J (o 3 []),.a4 [36] [.dr [ab.mk 1 ((ae++([(U (bx+eo)).tmod (1000000000:Int)]:List Int)).map I) .live]] (bB [0,1,5,6,7])] (.bh h1 h1 h1 h1 h1 h2 h2 h2 (.bh bG h1 h2 ag.1 (dd I ag.2) (cB I aE) (by decide:(1000000000:Int)≠0) (cq (show [[.n .i64 ((U (bx+eo)).tmod (1000000000:Int))]]=(([(U (bx+eo)).tmod (1000000000:Int)]:List Int)).map I from rfl) (show 1=([(U (bx+eo)).tmod (1000000000:Int)]:List Int).length from rfl)) (.d5 (ia (aD I ae) (ba ae)) (ib (ba ae) (hy (show [[.n .i64 ((U (bx+eo)).tmod (1000000000:Int))]]=(([(U (bx+eo)).tmod (1000000000:Int)]:List Int)).map I from rfl) (show 1=([(U (bx+eo)).tmod (1000000000:Int)]:List Int).length from rfl)):(ae++([(U (bx+eo)).tmod (1000000000:Int)]:List Int)).length=ae.length+(([[.n .i64 ((U (bx+eo)).tmod (1000000000:Int))]].drop 0).take 1).length) aQ (by decide:(1000000000:Int)≠0) (eb 1 .live (gf (aD I ae) (ba ae) (hy (show [[.n .i64 ((U (bx+eo)).tmod (1000000000:Int))]]=(([(U (bx+eo)).tmod (1000000000:Int)]:List Int)).map I from rfl) (show 1=([(U (bx+eo)).tmod (1000000000:Int)]:List Int).length from rfl)))) (bJ 1 .live a3 (ae++([(U (bx+eo)).tmod (1000000000:Int)]:List Int))))))))
  (fun h2 =>
  (let t1:List bE:=[.J (o 9 (ad (.ah false) (o 3 (ad (.ah false) []))))];
  .ite (fun ag =>
  .bn fun ap =>
  .ret (bz (t1.append [.ah true,.J (o 2 []),.J (o 4 []),.ah false,.J (o 4 []),.ah false,.J (o 4 (ad (.az ((ae++([bx.tmod (1000000000:Int)]:List Int)).length)) (o 1 []))),.J (o 3 []),.J (o 3 []),.a4 [29] [.dr [ab.mk 1 ((ae++([bx.tmod (1000000000:Int)]:List Int)).map I) .live]] (bB [0,1,5,6,7])]) (.bh h1 h1 h1 h1 h1 h2 h2 h2 (.bh ag h1 h2 (by decide:(1000000000:Int)≠0) (cq (show [[.n .i64 (bx.tmod (1000000000:Int))]]=(([bx.tmod (1000000000:Int)]:List Int)).map I from rfl) (show 1=([bx.tmod (1000000000:Int)]:List Int).length from rfl)) (ia (aD I ae) (ba ae)) (ib (ba ae) (hy (show [[.n .i64 (bx.tmod (1000000000:Int))]]=(([bx.tmod (1000000000:Int)]:List Int)).map I from rfl) (show 1=([bx.tmod (1000000000:Int)]:List Int).length from rfl)):(ae++([bx.tmod (1000000000:Int)]:List Int)).length=ae.length+(([[.n .i64 (bx.tmod (1000000000:Int))]].drop 0).take 1).length) ap (.bp (by decide:(1000000000:Int)≠0) (eb 1 .live (gf (aD I ae) (ba ae) (hy (show [[.n .i64 (bx.tmod (1000000000:Int))]]=(([bx.tmod (1000000000:Int)]:List Int)).map I from rfl) (show 1=([bx.tmod (1000000000:Int)]:List Int).length from rfl)))) (bJ 1 .live a3 (ae++([bx.tmod (1000000000:Int)]:List Int))))))))
  (fun ag =>
  .ret (bz (t1.append [.ah false,.a4 [0] [.pure] (bB [5])]) (.bh h1 h1 h1 h1 h1 h2 h2 h2 (.e2 ag (bJ 1 .live a3 ae))))))))
theorem MU {aa:(List Int)} {ak:(List Int)} {bx:Int} {ai:Int} {ae:(List Int)} {r} (h:Cp aa ak bx ai ae=some r):eh aY 55 0 109 [1,1,1,0,1,0,0] (A0 aa ak) (Bn aa ak) (bx,ai,ae) r:=ej (fun _=>LM) h
def sA (aa:(List Int)) (ak:(List Int)):Option (List Int) :=
 Cp aa ak 0 0 ([]:List Int) >>= fun r1 =>
 some r1
theorem NS {aa:(List Int)} {ak:(List Int)}:bk (sA aa ak) (fun r=>Con aY 109 [.isl 1 (aa.map I),.isl 1 (ak.map I)] [] (.isl 1 (r.map I)) []):=by
 unfold sA
 exact .au fun r1 h2 =>
  .ret (aU [.J (o 1 []),.J (o 2 []),.J (o 1 []),.J (o 1 []),.a4 [1] [.dr [ab.mk 1 (([]:List Int).map I) .live]] [(0,ii),(1,ii),(5,e6 (([]:List Int).length)),(6,ii),(7,ii)],(Bn aa ak r1).fo,.J (o 2 [])] (.dP (eb 1 .live (show []=(([]:List Int)).map I from rfl)) (bJ 1 .live a3 ([]:List Int)) (show 0=([]:List Int).length from rfl) (MU h2) (dv (aD I r1) (ba r1)) (cq (aD I r1) (ba r1)) (cn a3 r1)) (.bo (.bX (.cL (r1.map I)))))
def mf (bS:cZ) (da:cZ):Option cZ :=
 if (bS.bM == da.bM)=true then
  sA bS.a9 da.a9 >>= fun r2 =>
  gA bS.bM r2 >>= fun bb =>
  some bb
 else
  nY bS.a9 da.a9 >>= fun r2 =>
  if (decide ((0:Int)≤r2))=true then
   nZ bS.a9 da.a9 >>= fun aV =>
   gA bS.bM aV >>= fun bw =>
   some bw
  else
   nZ da.a9 bS.a9 >>= fun aV =>
   gA da.bM aV >>= fun bw =>
   some bw
theorem Cq {bS:cZ} {da:cZ}:bk (mf bS da) (fun r=>Con aY 85 [.agg [.b bS.bM,.isl 1 (bS.a9.map I)],.agg [.b da.bM,.isl 1 (da.a9.map I)]] [] (.agg [.b r.bM,.isl 1 (r.a9.map I)]) []):=by
 unfold mf
 exact .ite (fun h1 =>
  .au fun r2 ag =>
  .au fun bb aE =>
  .ret (aU [.J (o 3 []),.J (o 5 []),.ah true,.J (o 6 (ad (a7 2 (.isl 1 (r2.map I)) false) (ad (a7 2 (.agg [.b bb.bM,.isl 1 (bb.a9.map I)]) false) (o 1 []))))] (.bp h1 (NS r2 ag) (ls bb aE))))
  (fun h1 =>
  .au fun r2 ag =>
  (let t1:List bE:=[.J (o 3 []),.J (o 5 []),.ah false,.J (o 4 (ad (a7 2 (.n .i64 r2) true) (o 1 [])))];
  have aO:=((.bp h1 (xB r2 ag) (aK.n .i64 r2)):cd _);
  .ite (fun ap =>
  .au fun aV aQ =>
  .au fun bw bL =>
  .ret (aU (t1.append [.ah true,.J (o 6 (ad (a7 2 (.isl 1 (aV.map I)) false) (ad (a7 2 (.agg [.b bw.bM,.isl 1 (bw.a9.map I)]) false) (o 1 []))))]) (aO.az (.bp ap (Cm aV aQ) (ls bw bL)))))
  (fun ap =>
  .au fun aV aQ =>
  .au fun bw bL =>
  .ret (aU (t1.append [.ah false,.J (o 6 (ad (a7 2 (.isl 1 (aV.map I)) false) (ad (a7 2 (.agg [.b bw.bM,.isl 1 (bw.a9.map I)]) false) (o 1 []))))]) (aO.az (.bp ap (Cm aV aQ) (ls bw bL)))))))
def kV (kG:Bool) (aa:(List Int)) (ak:(List Int)):Option bF :=
 mc aa >>= fun r1 =>
 mc ak >>= fun a2 =>
 if ((len_ I a2) == (0:Int))=true then
  some (⟨(⟨false,([]:List Int)⟩:cZ),([]:List Int)⟩:bF)
 else
  mT a2 >>= fun dk =>
  if dk=true then
   if (decide ((24:Int)<(len_ I r1)))=true then
    some (⟨(⟨false,([]:List Int)⟩:cZ),([]:List Int)⟩:bF)
   else
    if (decide ((24:Int)<(len_ I a2)))=true then
     some (⟨(⟨false,([]:List Int)⟩:cZ),([]:List Int)⟩:bF)
    else
     gA kG r1 >>= fun cN =>
     if (([]:List Int)++a2).length*8≤140737488355328 then
     some (⟨cN,([]:List Int)++a2⟩:bF)
     else none
  else
   sw r1 a2 >>= fun cu =>
   mT cu >>= fun cN =>
   if cN=true then
    if (decide ((24:Int)<(len_ I r1)))=true then
     some (⟨(⟨false,([]:List Int)⟩:cZ),([]:List Int)⟩:bF)
    else
     if (decide ((24:Int)<(len_ I a2)))=true then
      some (⟨(⟨false,([]:List Int)⟩:cZ),([]:List Int)⟩:bF)
     else
      gA kG r1 >>= fun gp =>
      if (([]:List Int)++a2).length*8≤140737488355328 then
      some (⟨gp,([]:List Int)++a2⟩:bF)
      else none
   else
    oJ r1 cu >>= fun aC =>
    oJ a2 cu >>= fun gp =>
    if (decide ((24:Int)<(len_ I aC.1)))=true then
     some (⟨(⟨false,([]:List Int)⟩:cZ),([]:List Int)⟩:bF)
    else
     if (decide ((24:Int)<(len_ I gp.1)))=true then
      some (⟨(⟨false,([]:List Int)⟩:cZ),([]:List Int)⟩:bF)
     else
      gA kG aC.1 >>= fun iz =>
      if (([]:List Int)++gp.1).length*8≤140737488355328 then
      some (⟨iz,([]:List Int)++gp.1⟩:bF)
      else none
theorem xD {kG:Bool} {aa:(List Int)} {ak:(List Int)}:bk (kV kG aa ak) (fun r=>Con aY 86 [.b kG,.isl 1 (aa.map I),.isl 1 (ak.map I)] [] (.agg [.b r.bm.bM,.isl 1 (r.bm.a9.map I),.isl 1 (r.bO.map I)]) []):=by
 unfold kV
 exact .au fun r1 h2 =>
  .au fun a2 ap =>
  (let t1:List bE:=[.J (o 1 []),.J (o 1 (ad (a7 1 (.isl 1 (r1.map I)) false) (o 1 []))),.J (o 1 (ad (a7 1 (.isl 1 (a2.map I)) false) (o 1 []))),.J (o 3 [])];
  have aO:=((.e2 (nV r1 h2) (nV a2 ap)):cd _);
  .ite (fun aE =>
  .ret (aU (t1.append [.ah true,.J (o 2 [])]) (aO.az (.e1 aE)) (.bo (.agg [.id,.eO 1,.eO 1]))))
  (fun aE =>
  .au fun dk bd =>
  (let t3:List bE:=t1.append [.ah false,.J (o 1 (ad (a7 1 (.b dk) true) (o 1 [])))];
  have d4:=aO.az (.bp aE (uu dk bd) (aK.b dk));
  .ite (fun bL =>
  .ite (fun c3 =>
  .ret (aU (t3.append [.ah false,.J (o 4 (ch 3 (ad (.ah true) []))),.ah true,.J (o 2 [])]) (d4.az (.d5 (bK bL) c3 c3 c3 c3 bG)) (.bo (.agg [.id,.eO 1,.eO 1]))))
  (fun c3 =>
  (let t5:List bE:=t3.append [.ah false,.J (o 7 (ad (.ah false) []))];
  .ite (fun cR =>
  .ret (aU (t5.append [.ah true,.J (o 2 [])]) (d4.az (.d5 (bK bL) c3 c3 c3 c3 cR)) (.bo (.agg [.id,.eO 1,.eO 1]))))
  (fun cR =>
  .au fun cN fB =>
  .bn fun ex =>
  .ret (aU (t5.append [.ah false,.J (o 2 (ad (a7 2 (.agg [.b cN.bM,.isl 1 (cN.a9.map I)]) false) (o 2 (ad (.az ((([]:List Int)++a2).length)) (o 2 [])))))]) (d4.az (.bh (bK bL) c3 c3 c3 c3 cR (ls cN fB) (ia (show []=(([]:List Int)).map I from rfl) (show 0=([]:List Int).length from rfl)) (.cM (ib (show 0=([]:List Int).length from rfl) (aD I a2):(([]:List Int)++a2).length=0+(a2.map I).length) ex (dv (gf (show []=(([]:List Int)).map I from rfl) (show 0=([]:List Int).length from rfl) (aD I a2)) (ba (([]:List Int)++a2))) (cq (gf (show []=(([]:List Int)).map I from rfl) (show 0=([]:List Int).length from rfl) (aD I a2)) (ba (([]:List Int)++a2))) (cn a3 (([]:List Int)++a2))))) (.bo (.agg [.id,.id,.cL ((([]:List Int)++a2).map I)])))))))
  (fun bL =>
  .au fun cu cR =>
  .au fun cN fB =>
  (let t5:List bE:=t3.append [.ah true,.J (o 2 (ad (a7 2 (.isl 1 (cu.map I)) false) (o 1 []))),.J (o 1 (ad (a7 1 (.b cN) true) (o 1 [])))];
  have jy:=d4.az (.cp (b3 bL) (Gm cu cR) (uu cN fB) (aK.b cN));
  .ite (fun ex =>
  .ite (fun ez =>
  .ret (aU (t5.append [.ah false,.J (o 4 (ch 3 (ad (.ah true) []))),.ah true,.J (o 2 [])]) (jy.az (.d5 (bK ex) ez ez ez ez bG)) (.bo (.agg [.id,.eO 1,.eO 1]))))
  (fun ez =>
  (let t7:List bE:=t5.append [.ah false,.J (o 7 (ad (.ah false) []))];
  have jW:=jy.az (.cM (bK ex) ez ez ez ez);
  .ite (fun gN =>
  .ret (aU (t7.append [.ah true,.J (o 2 [])]) (jW.az (.e1 gN)) (.bo (.agg [.id,.eO 1,.eO 1]))))
  (fun gN =>
  .au fun gp hq =>
  .bn fun iO =>
  .ret (aU (t7.append [.ah false,.J (o 2 (ad (a7 2 (.agg [.b gp.bM,.isl 1 (gp.a9.map I)]) false) (o 2 (ad (.az ((([]:List Int)++a2).length)) (o 2 [])))))]) (jW.az (.gz gN (ls gp hq) (ia (show []=(([]:List Int)).map I from rfl) (show 0=([]:List Int).length from rfl)) (ib (show 0=([]:List Int).length from rfl) (aD I a2):(([]:List Int)++a2).length=0+(a2.map I).length) iO (dv (gf (show []=(([]:List Int)).map I from rfl) (show 0=([]:List Int).length from rfl) (aD I a2)) (ba (([]:List Int)++a2))) (cq (gf (show []=(([]:List Int)).map I from rfl) (show 0=([]:List Int).length from rfl) (aD I a2)) (ba (([]:List Int)++a2))) (cn a3 (([]:List Int)++a2)))) (.bo (.agg [.id,.id,.cL ((([]:List Int)++a2).map I)])))))))
  (fun ex =>
  .au fun aC gN =>
  .au fun gp hq =>
  (let t7:List bE:=t5.append [.ah true,.J (o 2 (ad (a7 2 (.cz [.isl 1 (aC.1.map I),.isl 1 (aC.2.map I)]) false) (o 4 []))),.J (o 2 (ad (a7 2 (.cz [.isl 1 (gp.1.map I),.isl 1 (gp.2.map I)]) false) (o 4 [])))];
  have jW:=jy.az (.bp (b3 ex) (xC aC gN) (xC gp hq));
  .ite (fun iO =>
  .ret (aU (t7.append [.J (o 4 (ch 3 (ad (.ah true) []))),.ah true,.J (o 2 [])]) (jW.az (.cM iO iO iO iO bG)) (.bo (.agg [.id,.eO 1,.eO 1]))))
  (fun iO =>
  (let t9:List bE:=t7.append [.J (o 7 (ad (.ah false) []))];
  .ite (fun ks =>
  .ret (aU (t9.append [.ah true,.J (o 2 [])]) (jW.az (.cM iO iO iO iO ks)) (.bo (.agg [.id,.eO 1,.eO 1]))))
  (fun ks =>
  .au fun iz fM =>
  .bn fun jj =>
  .ret (aU (t9.append [.ah false,.J (o 2 (ad (a7 2 (.agg [.b iz.bM,.isl 1 (iz.a9.map I)]) false) (o 2 (ad (.az ((([]:List Int)++gp.1).length)) (o 2 [])))))]) (jW.az (.bh iO iO iO iO ks (ls iz fM) (ia (show []=(([]:List Int)).map I from rfl) (show 0=([]:List Int).length from rfl)) (ib (show 0=([]:List Int).length from rfl) (aD I gp.1):(([]:List Int)++gp.1).length=0+(gp.1.map I).length) (.cp jj (dv (gf (show []=(([]:List Int)).map I from rfl) (show 0=([]:List Int).length from rfl) (aD I gp.1)) (ba (([]:List Int)++gp.1))) (cq (gf (show []=(([]:List Int)).map I from rfl) (show 0=([]:List Int).length from rfl) (aD I gp.1)) (ba (([]:List Int)++gp.1))) (cn a3 (([]:List Int)++gp.1))))) (.bo (.agg [.id,.id,.cL ((([]:List Int)++gp.1).map I)])))))))))))))
def oK (cl:bF) (aH:bF):Option bF :=
 mT cl.bO >>= fun r1 =>
 if r1=true then
  mT aH.bO >>= fun bb =>
  if bb=true then
   mf cl.bm aH.bm >>= fun bw =>
   kV bw.bM bw.a9 ([1]:List Int) >>= fun cu =>
   some cu
  else
   hr cl.bm.a9 aH.bO >>= fun bw =>
   gA cl.bm.bM bw >>= fun cu =>
   hr aH.bm.a9 cl.bO >>= fun cN =>
   gA aH.bm.bM cN >>= fun dN =>
   mf cu dN >>= fun et =>
   hr cl.bO aH.bO >>= fun gy =>
   kV et.bM et.a9 gy >>= fun kt =>
   some kt
 else
  hr cl.bm.a9 aH.bO >>= fun bb =>
  gA cl.bm.bM bb >>= fun dk =>
  hr aH.bm.a9 cl.bO >>= fun eM =>
  gA aH.bm.bM eM >>= fun aA =>
  mf dk aA >>= fun ay =>
  hr cl.bO aH.bO >>= fun aC =>
  kV ay.bM ay.a9 aC >>= fun gp =>
  some gp
theorem Gp {cl:bF} {aH:bF}:bk (oK cl aH) (fun r=>Con aY 56 [.agg [.b cl.bm.bM,.isl 1 (cl.bm.a9.map I),.isl 1 (cl.bO.map I)],.agg [.b aH.bm.bM,.isl 1 (aH.bm.a9.map I),.isl 1 (aH.bO.map I)]] [] (.agg [.b r.bm.bM,.isl 1 (r.bm.a9.map I),.isl 1 (r.bO.map I)]) []):=by
 unfold oK
 exact .au fun r1 h2 =>
  (have bt:=((.e2 (uu r1 h2) (aK.b r1)):cd _);
  .ite (fun ag =>
  .au fun bb aE =>
  (let t2:List bE:=[.J (o 3 []),.J (o 2 (ad (a7 1 (.b r1) true) (o 3 (ad (a7 1 (.b bb) true) (ad (.ah true) [])))))];
  have dZ:=bt.az (.d5 ag ag ag (uu bb aE) (aK.b bb) ag);
  .ite (fun aQ =>
  .au fun bw bL =>
  .au fun cu cR =>
  .ret (aU (t2.append [.ah true,.J (o 4 (ad (a7 2 (.agg [.b bw.bM,.isl 1 (bw.a9.map I)]) false) (o 2 []))),.J (o 5 (ad (.nR 22 (.call {ac:=[ii,ii,.bo (.bX (.cL (([1]:List Int).map I)))],r:= .agg [.b cu.bm.bM,.isl 1 (cu.bm.a9.map I),.isl 1 (cu.bO.map I)],b5:=false,b6:=[22]})) (o 1 [])))]) (dZ.az (.d5 aQ (Cq bw bL) (dv (show [[.n .i64 (1:Int)]]=(([1]:List Int)).map I from rfl) (show 1=([1]:List Int).length from rfl)) (cq (show [[.n .i64 (1:Int)]]=(([1]:List Int)).map I from rfl) (show 1=([1]:List Int).length from rfl)) (cn a3 ([1]:List Int)) (xD cu cR)))))
  (fun aQ =>
  .au fun bw bL =>
  .au fun cu cR =>
  .au fun cN fB =>
  .au fun dN ez =>
  .au fun et gY =>
  .au fun gy iO =>
  .au fun kt hR =>
  .ret (aU (t2.append [.ah false,.J (o 8 (ad (a7 2 (.isl 1 (bw.map I)) false) (ad (a7 2 (.agg [.b cu.bM,.isl 1 (cu.a9.map I)]) false) (o 2 [])))),.J (o 8 (ad (a7 2 (.isl 1 (cN.map I)) false) (ad (a7 2 (.agg [.b dN.bM,.isl 1 (dN.a9.map I)]) false) (o 2 [])))),.J (o 2 (ad (a7 2 (.agg [.b et.bM,.isl 1 (et.a9.map I)]) false) (o 2 []))),.J (o 8 (ad (a7 2 (.isl 1 (gy.map I)) false) (ad (a7 3 (.agg [.b kt.bm.bM,.isl 1 (kt.bm.a9.map I),.isl 1 (kt.bO.map I)]) false) (o 1 []))))]) (dZ.az (.gz aQ (nw bw bL) (ls cu cR) (nw cN fB) (ls dN ez) (Cq et gY) (nw gy iO) (xD kt hR)))))))
  (fun ag =>
  .au fun bb aE =>
  .au fun dk bd =>
  .au fun eM c3 =>
  .au fun aA fi =>
  .au fun ay ex =>
  .au fun aC gN =>
  .au fun gp hq =>
  .ret (aU [.J (o 3 []),.J (o 2 (ad (a7 1 (.b r1) true) (o 1 (ch 3 (ad (.ah false) []))))),.ah false,.J (o 8 (ad (a7 2 (.isl 1 (bb.map I)) false) (ad (a7 2 (.agg [.b dk.bM,.isl 1 (dk.a9.map I)]) false) (o 2 [])))),.J (o 8 (ad (a7 2 (.isl 1 (eM.map I)) false) (ad (a7 2 (.agg [.b aA.bM,.isl 1 (aA.a9.map I)]) false) (o 2 [])))),.J (o 2 (ad (a7 2 (.agg [.b ay.bM,.isl 1 (ay.a9.map I)]) false) (o 2 []))),.J (o 8 (ad (a7 2 (.isl 1 (aC.map I)) false) (ad (a7 3 (.agg [.b gp.bm.bM,.isl 1 (gp.bm.a9.map I),.isl 1 (gp.bO.map I)]) false) (o 1 []))))] (bt.az (.bh ag ag ag ag fP (nw bb aE) (ls dk bd) (nw eM c3) (.cp (ls aA fi) (Cq ay ex) (nw aC gN) (xD gp hq)))))))
def sB (cl:bF) (aH:bF):Option bF :=
 j0 cl >>= fun r1 =>
 if r1=true then
  j0 aH >>= fun bb =>
  if bb=true then
   sy aH >>= fun bw =>
   oK cl bw >>= fun cu =>
   some cu
  else
   some (⟨(⟨false,([]:List Int)⟩:cZ),([]:List Int)⟩:bF)
 else
  some (⟨(⟨false,([]:List Int)⟩:cZ),([]:List Int)⟩:bF)
theorem Gq {cl:bF} {aH:bF}:bk (sB cl aH) (fun r=>Con aY 24 [.agg [.b cl.bm.bM,.isl 1 (cl.bm.a9.map I),.isl 1 (cl.bO.map I)],.agg [.b aH.bm.bM,.isl 1 (aH.bm.a9.map I),.isl 1 (aH.bO.map I)]] [] (.agg [.b r.bm.bM,.isl 1 (r.bm.a9.map I),.isl 1 (r.bO.map I)]) []):=by
 unfold sB
 exact .au fun r1 h2 =>
  (have bt:=((.e2 (oG r1 h2) (aK.b r1)):cd _);
  .ite (fun ag =>
  .au fun bb aE =>
  (let t2:List bE:=[.J (o 3 []),.J (o 1 (ad (a7 1 (.b r1) true) (o 3 (ad (a7 1 (.b bb) true) (o 1 (ad (.ah false) []))))))];
  have dZ:=bt.az (.d5 (bK ag) (bK ag) (oG bb aE) (aK.b bb) (bK ag) (bK ag));
  .ite (fun aQ =>
  .au fun bw bL =>
  .au fun cu cR =>
  .ret (aU (t2.append [.ah false,.J (o 2 (ad (a7 1 (.agg [.b bw.bm.bM,.isl 1 (bw.bm.a9.map I),.isl 1 (bw.bO.map I)]) false) (ad (a7 2 (.agg [.b cu.bm.bM,.isl 1 (cu.bm.a9.map I),.isl 1 (cu.bO.map I)]) false) (o 1 []))))]) (dZ.az (.bp (bK aQ) (NR bw bL) (Gp cu cR)))))
  (fun aQ =>
  .ret (aU (t2.append [.ah true,.J (o 2 [])]) (dZ.az (.e1 (b3 aQ))) (.bo (.agg [.id,.eO 1,.eO 1]))))))
  (fun ag =>
  .ret (aU [.J (o 3 []),.J (o 1 (ad (a7 1 (.b r1) true) (o 2 (ch 3 (ad (.ah true) []))))),.ah true,.J (o 2 [])] (bt.az (.cM (b3 ag) (b3 ag) (b3 ag) (b3 ag) bG)) (.bo (.agg [.id,.eO 1,.eO 1])))))
def pZ (cl:bF) (aH:bF):Option bF :=
 hr cl.bm.a9 aH.bm.a9 >>= fun r1 =>
 hr cl.bO aH.bO >>= fun a2 =>
 kV (!(cl.bm.bM == aH.bm.bM)) r1 a2 >>= fun aV =>
 some aV
theorem NT {cl:bF} {aH:bF}:bk (pZ cl aH) (fun r=>Con aY 58 [.agg [.b cl.bm.bM,.isl 1 (cl.bm.a9.map I),.isl 1 (cl.bO.map I)],.agg [.b aH.bm.bM,.isl 1 (aH.bm.a9.map I),.isl 1 (aH.bO.map I)]] [] (.agg [.b r.bm.bM,.isl 1 (r.bm.a9.map I),.isl 1 (r.bO.map I)]) []):=by
 unfold pZ
 exact .au fun r1 h2 =>
  .au fun a2 ap =>
  .au fun aV aQ =>
  .ret (aU [.J (o 3 []),.J (o 13 (ad (a7 2 (.isl 1 (r1.map I)) false) (o 4 (ad (a7 2 (.isl 1 (a2.map I)) false) (ad (a7 3 (.agg [.b aV.bm.bM,.isl 1 (aV.bm.a9.map I),.isl 1 (aV.bO.map I)]) false) (o 1 []))))))] (.bp (nw r1 h2) (nw a2 ap) (xD aV aQ)))
def p3 (cl:bF) (aH:bF):Option bF :=
 j0 cl >>= fun r1 =>
 if r1=true then
  j0 aH >>= fun bb =>
  if bb=true then
   pZ cl aH >>= fun bw =>
   some bw
  else
   some (⟨(⟨false,([]:List Int)⟩:cZ),([]:List Int)⟩:bF)
 else
  some (⟨(⟨false,([]:List Int)⟩:cZ),([]:List Int)⟩:bF)
theorem Cr {cl:bF} {aH:bF}:bk (p3 cl aH) (fun r=>Con aY 26 [.agg [.b cl.bm.bM,.isl 1 (cl.bm.a9.map I),.isl 1 (cl.bO.map I)],.agg [.b aH.bm.bM,.isl 1 (aH.bm.a9.map I),.isl 1 (aH.bO.map I)]] [] (.agg [.b r.bm.bM,.isl 1 (r.bm.a9.map I),.isl 1 (r.bO.map I)]) []):=by
 unfold p3
 exact .au fun r1 h2 =>
  (have bt:=((.e2 (oG r1 h2) (aK.b r1)):cd _);
  .ite (fun ag =>
  .au fun bb aE =>
  (let t2:List bE:=[.J (o 3 []),.J (o 1 (ad (a7 1 (.b r1) true) (o 3 (ad (a7 1 (.b bb) true) (o 1 (ad (.ah false) []))))))];
  have dZ:=bt.az (.d5 (bK ag) (bK ag) (oG bb aE) (aK.b bb) (bK ag) (bK ag));
  .ite (fun aQ =>
  .au fun bw bL =>
  .ret (aU (t2.append [.ah false,.J (o 2 (ad (a7 2 (.agg [.b bw.bm.bM,.isl 1 (bw.bm.a9.map I),.isl 1 (bw.bO.map I)]) false) (o 1 [])))]) (dZ.az (.e2 (bK aQ) (NT bw bL)))))
  (fun aQ =>
  .ret (aU (t2.append [.ah true,.J (o 2 [])]) (dZ.az (.e1 (b3 aQ))) (.bo (.agg [.id,.eO 1,.eO 1]))))))
  (fun ag =>
  .ret (aU [.J (o 3 []),.J (o 1 (ad (a7 1 (.b r1) true) (o 2 (ch 3 (ad (.ah true) []))))),.ah true,.J (o 2 [])] (bt.az (.cM (b3 ag) (b3 ag) (b3 ag) (b3 ag) bG)) (.bo (.agg [.id,.eO 1,.eO 1])))))
def sC (cl:bF) (aH:bF):Option bF :=
 j0 cl >>= fun r1 =>
 if r1=true then
  j0 aH >>= fun bb =>
  if bb=true then
   oK cl aH >>= fun bw =>
   some bw
  else
   some (⟨(⟨false,([]:List Int)⟩:cZ),([]:List Int)⟩:bF)
 else
  some (⟨(⟨false,([]:List Int)⟩:cZ),([]:List Int)⟩:bF)
theorem Gr {cl:bF} {aH:bF}:bk (sC cl aH) (fun r=>Con aY 25 [.agg [.b cl.bm.bM,.isl 1 (cl.bm.a9.map I),.isl 1 (cl.bO.map I)],.agg [.b aH.bm.bM,.isl 1 (aH.bm.a9.map I),.isl 1 (aH.bO.map I)]] [] (.agg [.b r.bm.bM,.isl 1 (r.bm.a9.map I),.isl 1 (r.bO.map I)]) []):=by
 unfold sC
 exact .au fun r1 h2 =>
  (have bt:=((.e2 (oG r1 h2) (aK.b r1)):cd _);
  .ite (fun ag =>
  .au fun bb aE =>
  (let t2:List bE:=[.J (o 3 []),.J (o 1 (ad (a7 1 (.b r1) true) (o 3 (ad (a7 1 (.b bb) true) (o 1 (ad (.ah false) []))))))];
  have dZ:=bt.az (.d5 (bK ag) (bK ag) (oG bb aE) (aK.b bb) (bK ag) (bK ag));
  .ite (fun aQ =>
  .au fun bw bL =>
  .ret (aU (t2.append [.ah false,.J (o 2 (ad (a7 2 (.agg [.b bw.bm.bM,.isl 1 (bw.bm.a9.map I),.isl 1 (bw.bO.map I)]) false) (o 1 [])))]) (dZ.az (.e2 (bK aQ) (Gp bw bL)))))
  (fun aQ =>
  .ret (aU (t2.append [.ah true,.J (o 2 [])]) (dZ.az (.e1 (b3 aQ))) (.bo (.agg [.id,.eO 1,.eO 1]))))))
  (fun ag =>
  .ret (aU [.J (o 3 []),.J (o 1 (ad (a7 1 (.b r1) true) (o 2 (ch 3 (ad (.ah true) []))))),.ah true,.J (o 2 [])] (bt.az (.cM (b3 ag) (b3 ag) (b3 ag) (b3 ag) bG)) (.bo (.agg [.id,.eO 1,.eO 1])))))
def Ah (fN:(List bF)) (c5:(List bF)) (jC:(List bR)) (k4:Int) (e9:(List bg)):(Int×Bool×(List Int)×(List Int))→S:=fun (j2,mw,mr,mm)=>dy [(1,.isl 3 (fN.map eTRat)),(2,.isl 3 (c5.map eTRat)),(3,.ref 0 0 0 0),(6,.ref 1 0 0 0),(8,.ref 2 0 0 0),(30,.isl 3 (jC.map aZ)),(31,.n .i64 k4),(32,.n .i64 j2)] [[ab.mk 2 [[.isl 4 (e9.map aG),.isl 3 (jC.map aZ)]] .live],[ab.mk 3 [[.b false,.eQ,.eQ]] .live],[ab.mk 3 [[.b mw,.isl 1 (mr.map I),.isl 1 (mm.map I)]] .live]]
def Ay (fN:(List bF)) (c5:(List bF)) (jC:(List bR)) (k4:Int) (e9:(List bg)):(Bool×(List Int)×(List Int))→dB
 | a=>⟨some 0,[(6,.ref 0 0 0 0),(8,.ref 1 0 0 0)],[[ab.mk 3 [[.b false,.eQ,.eQ]] .live],[ab.mk 3 [[.b a.1,.isl 1 (a.2.1.map I),.isl 1 (a.2.2.map I)]] .live]]⟩
def rI (fN:(List bF)) (c5:(List bF)) (jC:(List bR)) (k4:Int) (e9:(List bg)) (j2:Int) (mw:Bool) (mr:(List Int)) (mm:(List Int)):Option ((Int×Bool×(List Int)×(List Int))⊕(Bool×(List Int)×(List Int))) :=
 if (decide (j2<k4))=true then
  if 0≤j2∧j2<jC.length then
  jC[j2.toNat]? >>= fun an =>
  pT (⟨e9,jC⟩:c4) c5 an.de >>= fun aV =>
  pT (⟨e9,jC⟩:c4) c5 an.c1 >>= fun bw =>
  sB bw.1 aV.1 >>= fun cu =>
  sB bw.2 aV.2 >>= fun cN =>
  if 0≤j2∧j2<fN.length then
  fN[j2.toNat]? >>= fun EE =>
  p3 cu cu >>= fun gp =>
  p3 cN cN >>= fun fO =>
  sC gp fO >>= fun iz =>
  p3 EE iz >>= fun tI =>
  sC (⟨(⟨mw,mr⟩:cZ),mm⟩:bF) tI >>= fun o8 =>
  some (.inl (U (j2+(1:Int)),o8.bm.bM,o8.bm.a9,o8.bO))
  else none
  else none
 else
  some (.inr (mw,mr,mm))
def BX (fN:(List bF)) (c5:(List bF)) (jC:(List bR)) (k4:Int) (e9:(List bg)) (j2:Int) (mw:Bool) (mr:(List Int)) (mm:(List Int)):Option (Bool×(List Int)×(List Int)):=iter (fun w:Int×Bool×(List Int)×(List Int)=>rI fN c5 jC k4 e9 w.1 w.2.1 w.2.2.1 w.2.2.2) (j2,mw,mr,mm)
theorem Lj {fN:(List bF)} {c5:(List bF)} {jC:(List bR)} {k4:Int} {e9:(List bg)} {j2:Int} {mw:Bool} {mr:(List Int)} {mm:(List Int)}:bk (rI fN c5 jC k4 e9 j2 mw mr mm) (eg aY 77 0 6 [1,1,1,0,1,0,0] (Ah fN c5 jC k4 e9 (j2,mw,mr,mm)) (Ah fN c5 jC k4 e9) (Ay fN c5 jC k4 e9)):=by
 unfold rI
 exact .ite (fun h1 =>
  .bn fun h2 =>
  .au fun an ap =>
  .au fun aV aQ =>
  .au fun bw bL =>
  .au fun cu cR =>
  .au fun cN fB =>
  .bn fun ex =>
  .au fun EE gN =>
  .au fun gp hq =>
  .au fun fO ks =>
  .au fun iz fM =>
  .au fun tI nQ =>
  .au fun o8 dK =>
  .ret (bz [.J (o 1 []),.ah true,.J (o 2 (ad (.b8 (aZ an)) (o 3 []))),.J (o 4 (ad (a7 3 (.cz [.agg [.b aV.1.bm.bM,.isl 1 (aV.1.bm.a9.map I),.isl 1 (aV.1.bO.map I)],.agg [.b aV.2.bm.bM,.isl 1 (aV.2.bm.a9.map I),.isl 1 (aV.2.bO.map I)]]) false) (o 7 []))),.J (o 4 (ad (a7 3 (.cz [.agg [.b bw.1.bm.bM,.isl 1 (bw.1.bm.a9.map I),.isl 1 (bw.1.bO.map I)],.agg [.b bw.2.bm.bM,.isl 1 (bw.2.bm.a9.map I),.isl 1 (bw.2.bO.map I)]]) false) (o 7 []))),.J (o 2 (ad (a7 2 (.agg [.b cu.bm.bM,.isl 1 (cu.bm.a9.map I),.isl 1 (cu.bO.map I)]) false) (o 2 []))),.J (o 2 (ad (a7 2 (.agg [.b cN.bm.bM,.isl 1 (cN.bm.a9.map I),.isl 1 (cN.bO.map I)]) false) (o 2 []))),.J (o 4 (ad (.b8 (eTRat EE)) (o 2 (ad (a7 2 (.agg [.b gp.bm.bM,.isl 1 (gp.bm.a9.map I),.isl 1 (gp.bO.map I)]) false) (o 2 (ad (a7 2 (.agg [.b fO.bm.bM,.isl 1 (fO.bm.a9.map I),.isl 1 (fO.bO.map I)]) false) (ad (a7 2 (.agg [.b iz.bm.bM,.isl 1 (iz.bm.a9.map I),.isl 1 (iz.bO.map I)]) false) (ad (a7 2 (.agg [.b tI.bm.bM,.isl 1 (tI.bm.a9.map I),.isl 1 (tI.bO.map I)]) false) (ad (a7 2 (.agg [.b o8.bm.bM,.isl 1 (o8.bm.a9.map I),.isl 1 (o8.bO.map I)]) false) (o 1 [])))))))))),.J (o 2 []),.a4 [0,1,2] [.box [.id,.id],.box [.id,.id,.id],.box [.id,.id,.id]] (bB [1,2,3,6,8,30,31,32])] (.bh h1 h2.1 (dd aZ h2.2) (cB aZ ap) (Ga aV aQ) (Ga bw bL) (Gq cu cR) (Gq cN fB) (.gz ex.1 (dd eTRat ex.2) (cB eTRat gN) (Cr gp hq) (Cr fO ks) (Gr iz fM) (Cr tI nQ) (Gr o8 dK)))))
  (fun h1 =>
  .ret (bz [.J (o 1 []),.ah false,.a4 [1,2] [.box [.id,.id,.id],.box [.id,.id,.id]] (bB [6,8])] (.e1 h1)))
theorem Mt {fN:(List bF)} {c5:(List bF)} {jC:(List bR)} {k4:Int} {e9:(List bg)} {j2:Int} {mw:Bool} {mr:(List Int)} {mm:(List Int)} {r} (h:BX fN c5 jC k4 e9 j2 mw mr mm=some r):eh aY 77 0 6 [1,1,1,0,1,0,0] (Ah fN c5 jC k4 e9) (Ay fN c5 jC k4 e9) (j2,mw,mr,mm) r:=ej (fun _=>Lj) h
def pR (aH:c4) (fN:(List bF)) (c5:(List bF)):Option (bF×Bool) :=
 sm aH fN >>= fun r1 =>
 if r1=true then
  si aH c5 >>= fun bb =>
  if bb=true then
   r9 0 >>= fun bw =>
   BX fN c5 aH.b9 (len_ aZ aH.b9) aH.a6 0 bw.bm.bM bw.bm.a9 bw.bO >>= fun cu =>
   j0 (⟨(⟨cu.1,cu.2.1⟩:cZ),cu.2.2⟩:bF) >>= fun cN =>
   some ((⟨(⟨cu.1,cu.2.1⟩:cZ),cu.2.2⟩:bF),cN)
  else
   some ((⟨(⟨false,([]:List Int)⟩:cZ),([]:List Int)⟩:bF),false)
 else
  some ((⟨(⟨false,([]:List Int)⟩:cZ),([]:List Int)⟩:bF),false)
theorem Ng {aH:c4} {fN:(List bF)} {c5:(List bF)}:bk (pR aH fN c5) (fun r=>Con aY 6 [.agg [.isl 4 (aH.a6.map aG),.isl 3 (aH.b9.map aZ)],.isl 3 (fN.map eTRat),.isl 3 (c5.map eTRat)] [] (.cz [.agg [.b r.1.bm.bM,.isl 1 (r.1.bm.a9.map I),.isl 1 (r.1.bO.map I)],.b r.2]) []):=by
 unfold pR
 exact .au fun r1 h2 =>
  (have bt:=((.e2 (NA r1 h2) (aK.b r1)):cd _);
  .ite (fun ag =>
  .au fun bb aE =>
  (let t2:List bE:=[.J (o 3 []),.J (o 2 (ad (a7 2 (.b r1) true) (o 4 (ad (a7 2 (.b bb) true) (o 1 (ad (.ah false) []))))))];
  have dZ:=bt.az (.dP (bK ag) (bK ag) (bK ag) (Nd bb aE) (aK.b bb) (bK ag) (bK ag));
  .ite (fun aQ =>
  .au fun bw bL =>
  .au fun cu cR =>
  .au fun cN fB =>
  .ret (aU (t2.append [.ah false,.J (ad (a7 1 (.agg [.b bw.bm.bM,.isl 1 (bw.bm.a9.map I),.isl 1 (bw.bO.map I)]) false) (o 2 [])),.J (o 4 []),.a4 [0,1,14] [.box [.id,.id],.box [.id,.id,.id],.box [.id,.id,.id]] (bB [1,2,3,6,8,30,31,32]),(Ay fN c5 aH.b9 (len_ aZ aH.b9) aH.a6 cu).fo,.J (o 2 (ad (a7 1 (.b cN) true) (o 2 [])))]) (dZ.az (.cM (bK aQ) (Bl bw bL) (Mt cR) (oG cN fB) (aK.b cN)))))
  (fun aQ =>
  .ret (aU (t2.append [.ah true,.J (o 3 [])]) (dZ.az (.e1 (b3 aQ))) (.comp [.agg [.id,.eO 1,.eO 1],.bX .id])))))
  (fun ag =>
  .ret (aU [.J (o 3 []),.J (o 2 (ad (a7 2 (.b r1) true) (o 2 (ch 4 (ad (.ah true) []))))),.ah true,.J (o 3 [])] (bt.az (.d5 (b3 ag) (b3 ag) (b3 ag) (b3 ag) (b3 ag) bG)) (.comp [.agg [.id,.eO 1,.eO 1],.bX .id]))))
def uD (nd:Int):Option Bool :=
 if (decide ((97:Int)≤nd))=true then
  some (decide (nd≤(122:Int)))
 else
  some false
theorem Nh {nd:Int}:bk (uD nd) (fun r=>Con aY 128 [.n .u8 nd] [] (.b r) []):=by
 unfold uD
 exact .ite (fun h1 =>
  .ret (aU [.J (o 1 []),.J (o 5 (ad (.ah true) (o 1 [])))] (.bp h1 h1 h1)))
  (fun h1 =>
  .ret (aU [.J (o 1 []),.J (o 3 (ch 2 (ad (.ah false) (o 1 []))))] (.bp h1 h1 h1)))
def uO (nd:Int):Option Bool :=
 if (decide ((48:Int)≤nd))=true then
  some (decide (nd≤(57:Int)))
 else
  some false
theorem NC {nd:Int}:bk (uO nd) (fun r=>Con aY 129 [.n .u8 nd] [] (.b r) []):=by
 unfold uO
 exact .ite (fun h1 =>
  .ret (aU [.J (o 1 []),.J (o 5 (ad (.ah true) (o 1 [])))] (.bp h1 h1 h1)))
  (fun h1 =>
  .ret (aU [.J (o 1 []),.J (o 3 (ch 2 (ad (.ah false) (o 1 []))))] (.bp h1 h1 h1)))
def A1 (aH:ByteArray) (hd:Int):Int→S:=fun fl=>dy [(0,.s aH),(5,.n .i64 hd),(6,.n .i64 fl)] []
def FM (aH:ByteArray) (hd:Int):((Unit)⊕(Unit))→dB
 | .inl a=>⟨some 0,[(0,.s aH)],[]⟩
 | .inr a=>⟨none,[(2,.b false)],[]⟩
def ub (aH:ByteArray) (hd:Int) (fl:Int):Option ((Int)⊕((Unit)⊕(Unit))) :=
 if (decide (fl<hd))=true then
  if 0≤fl∧fl<(aH.size:Nat) then
  uD ((aH.data.toList.getD fl.toNat 0).toNat:Int) >>= fun a2 =>
  if a2=true then
   some (.inl (U (fl+(1:Int))))
  else
   if (fl == (0:Int))=true then
    some (.inr (.inr ()))
   else
    uO ((aH.data.toList.getD fl.toNat 0).toNat:Int) >>= fun bw =>
    if bw=true then
     some (.inl (U (fl+(1:Int))))
    else
     some (.inr (.inr ()))
  else none
 else
  some (.inr (.inl ()))
def xE (aH:ByteArray) (hd:Int) (fl:Int):Option ((Unit)⊕(Unit)):=iter (fun w:Int=>ub aH hd w) fl
theorem LN {aH:ByteArray} {hd:Int} {fl:Int}:bk (ub aH hd fl) (eg aY 33 0 115 [1,0,1,0,0] (A1 aH hd fl) (A1 aH hd) (FM aH hd)):=by
 unfold ub
 exact .ite (fun h1 =>
  .bn fun h2 =>
  .au fun a2 ap =>
  (let t1:List bE:=[.J (o 1 []),.ah true,.J (o 2 [])];
  have aO:=((.cM h1 h2.1 h2.2 (Nh a2 ap) (aK.b a2)):cd _);
  .ite (fun aE =>
  .ret (bz (t1.append [.J (o 3 (ad (a7 1 (.b a2) true) (o 2 (ch 3 (o 5 (ch 1 (ad (.ah false) []))))))),.ah false,.J (o 2 []),.a4 [] [] (bB [0,5,6])]) (aO.az (.d5 (bK aE) (bK aE) (bK aE) (bK aE) (bK aE) fP))))
  (fun aE =>
  (have dZ:=aO.az (.bp (b3 aE) (b3 aE) (b3 aE));
  .ite (fun aQ =>
  .ret (bz (t1.append [.J (o 3 (ad (a7 1 (.b a2) true) (o 5 (ch 5 (ad (.ah true) (ad (.ah true) [])))))),.ah true,.J (o 1 []),.a4 [] [] (bB [2])]) (dZ.az (.bh aQ aQ aQ aQ aQ (b3 aE) aQ (b3 aE) (.e1 bG)))))
  (fun aQ =>
  .au fun bw bL =>
  (let t4:List bE:=t1.append [.J (o 3 (ad (a7 1 (.b a2) true) (o 8 (ad (a7 1 (.b bw) true) (o 1 (ad (.ah false) (ad (.ah true) [])))))))];
  have kd:=dZ.az (.bh aQ aQ aQ h2.1 h2.2 aQ (NC bw bL) (aK.b bw) (.cp aQ (b3 aE) aQ (b3 aE)));
  .ite (fun c3 =>
  .ret (bz (t4.append [.ah false,.J (o 2 []),.a4 [] [] (bB [0,5,6])]) (kd.az (.e1 (bK c3)))))
  (fun c3 =>
  .ret (bz (t4.append [.ah true,.J (o 1 []),.a4 [] [] (bB [2])]) (kd.az (.e1 (b3 c3)))))))))))
  (fun h1 =>
  .ret (bz [.J (o 1 []),.ah false,.a4 [] [] (bB [0])] (.e1 h1)))
theorem BD {aH:ByteArray} {hd:Int} {fl:Int} {r} (h:xE aH hd fl=some r):eh aY 33 0 115 [1,0,1,0,0] (A1 aH hd) (FM aH hd) fl r:=ej (fun _=>LN) h
def uX (aH:ByteArray):Option Bool :=
 xE aH (aH.size:Int) 0 >>= fun r1 =>
 match r1 with
 | .inl dR=>(if (!(aH.toList == (⟨#[]⟩:ByteArray).toList))=true then
  some (decide ((aH.size:Int)≤(8:Int)))
  else
   some false)
 | .inr dR=>(some false)
theorem NU {aH:ByteArray}:bk (uX aH) (fun r=>Con aY 115 [.s aH] [] (.b r) []):=by
 unfold uX
 exact .au fun r1 h2 =>
  (let t1:List bE:=[.J (o 1 []),.J (o 3 []),.a4 [] [] (bB [0,5,6])];
  (by
  rcases r1 with dR|dR
  ·exact ((let t2:List bE:=t1.append [.sub (.exit 0) [(0,.s aH)] []];
  .ite (fun ap =>
  .ret (aU (t2.append [.J (o 6 (ad (.ah true) (o 1 [])))]) (.cM (BD h2) ap ap ap ap)))
  (fun ap =>
  .ret (aU (t2.append [.J (o 3 (ch 3 (ad (.ah false) (o 1 []))))]) (.cM (BD h2) ap ap ap ap)))))
  ·exact (.ret (aU (t1.append [.sub (.ret) [(2,.b false)] []]) (.e1 (BD h2))))))
def sn (bc:Int):Option Bool :=
 if (decide ((-50:Int)≤bc))=true then
  some (decide (bc≤(50:Int)))
 else
  some false
theorem Gb {bc:Int}:bk (sn bc) (fun r=>Con aY 116 [.n .i64 bc] [] (.b r) []):=by
 unfold sn
 exact .ite (fun h1 =>
  .ret (aU [.J (o 1 []),.J (o 5 (ad (.ah true) (o 1 [])))] (.bp h1 h1 h1)))
  (fun h1 =>
  .ret (aU [.J (o 1 []),.J (o 3 (ch 2 (ad (.ah false) (o 1 []))))] (.bp h1 h1 h1)))
def uP (c2:bg):Option Bool :=
 uX c2.ed >>= fun r1 =>
 if r1=true then
  sn c2.eu >>= fun bb =>
  if bb=true then
   sn c2.dV >>= fun bw =>
   some bw
  else
   some false
 else
  some false
theorem ND {c2:bg}:bk (uP c2) (fun r=>Con aY 91 [.agg [.s c2.ed,.n .i64 c2.eu,.n .i64 c2.dV,.b c2.cS]] [] (.b r) []):=by
 unfold uP
 exact .au fun r1 h2 =>
  (have bt:=((.e2 (NU r1 h2) (aK.b r1)):cd _);
  .ite (fun ag =>
  .au fun bb aE =>
  (have aO:=bt.az (.d5 ag ag ag (Gb bb aE) (aK.b bb) ag);
  .ite (fun aQ =>
  .au fun bw bL =>
  .ret (aU [.J (o 2 []),.J (o 2 (ad (a7 1 (.b r1) true) (o 3 (ad (a7 1 (.b bb) true) (ad (.ah true) (o 3 (ad (a7 1 (.b bw) true) (ad (.ah true) (o 1 [])))))))))] (aO.az (.d5 aQ aQ aQ (Gb bw bL) (aK.b bw) aQ))))
  (fun aQ =>
  .ret (aU [.J (o 2 []),.J (o 2 (ad (a7 1 (.b r1) true) (o 3 (ad (a7 1 (.b bb) true) (ad (.ah true) (o 1 (ch 3 (ad (.ah false) (o 1 [])))))))))] (aO.az (.cp aQ aQ aQ aQ))))))
  (fun ag =>
  .ret (aU [.J (o 2 []),.J (o 2 (ad (a7 1 (.b r1) true) (o 1 (ch 3 (ad (.ah false) (o 1 (ch 3 (o 2 []))))))))] (bt.az (.dP ag ag ag ag fP fP fP)))))
def BE (c2:bg) (bX:ByteArray):Option Bool :=
 some (c2.ed.toList == bX.toList)
theorem L9 {c2:bg} {bX:ByteArray}:bk (BE c2 bX) (fun r=>Con aY 118 [.agg [.s c2.ed,.n .i64 c2.eu,.n .i64 c2.dV,.b c2.cS],.eG 1 [[.s bX]] 0 0] [] (.b r) []):=by
 unfold BE
 exact .ret (aU [.J (o 2 []),.J (o 5 [])] .nil)
def zA (aH:(List bg)) (ho:ByteArray) (dA:Int):Int→S:=fun di=>dy [(0,.isl 4 (aH.map aG)),(1,.fn 118 [.eG 1 [[.s ho]] 0 0]),(7,.n .i64 dA),(8,.n .i64 di)] []
def Fc (aH:(List bg)) (ho:ByteArray) (dA:Int):((Unit)⊕(Int))→dB
 | .inl a=>⟨some 0,[],[]⟩
 | .inr a=>⟨none,[(4,.n .i64 a)],[]⟩
def zB (aH:(List bg)) (ho:ByteArray) (dA:Int) (di:Int):Option ((Int)⊕((Unit)⊕(Int))) :=
 if (decide (di<dA))=true then
  if 0≤di∧di<aH.length then
  aH[di.toNat]? >>= fun an =>
  BE an ho >>= fun aV =>
  if aV=true then
   some (.inr (.inr di))
  else
   some (.inl (U (di+(1:Int))))
  else none
 else
  some (.inr (.inl ()))
def xf (aH:(List bg)) (ho:ByteArray) (dA:Int) (di:Int):Option ((Unit)⊕(Int)):=iter (fun w:Int=>zB aH ho dA w) di
theorem KK {aH:(List bg)} {ho:ByteArray} {dA:Int} {di:Int}:bk (zB aH ho dA di) (eg aY 19 0 117 [1,0,1,0,0] (zA aH ho dA di) (zA aH ho dA) (Fc aH ho dA)):=by
 unfold zB
 exact .ite (fun h1 =>
  .bn fun h2 =>
  .au fun an ap =>
  .au fun aV aQ =>
  (let t1:List bE:=[.J (o 1 []),.ah true,.J (o 2 []),.J (o 4 (ad (.b8 (aG an)) (ad (a7 2 (.b aV) true) [])))];
  have aO:=((.d5 h1 h2.1 (dd aG h2.2) (cB aG ap) (L9 aV aQ) (aK.b aV)):cd _);
  .ite (fun bd =>
  .ret (bz (t1.append [.ah true,.J (o 2 []),.a4 [] [] (bB [4])]) (aO.az (.e1 bd))))
  (fun bd =>
  .ret (bz (t1.append [.ah false,.J (o 2 []),.a4 [] [] [(0,ii),(1,.comp [.bX .id]),(7,ii),(8,ii)]]) (aO.az (.e1 bd))))))
  (fun h1 =>
  .ret (bz [.J (o 1 []),.ah false,.a4 [] [] []] (.e1 h1)))
theorem Ff {aH:(List bg)} {ho:ByteArray} {dA:Int} {di:Int} {r} (h:xf aH ho dA di=some r):eh aY 19 0 117 [1,0,1,0,0] (zA aH ho dA) (Fc aH ho dA) di r:=ej (fun _=>KK) h
def xg (aH:(List bg)) (ki:ByteArray):Option Int :=
 xf aH ki (len_ aG aH) 0 >>= fun r1 =>
 match r1 with
 | .inl dR=>(some (-1))
 | .inr dR=>(some dR)
theorem KP {aH:(List bg)} {ki:ByteArray}:bk (xg aH ki) (fun r=>Con aY 117 [.isl 4 (aH.map aG),.fn 118 [.eG 1 [[.s ki]] 0 0]] [] (.n .i64 r) []):=by
 unfold xg
 exact .au fun r1 h2 =>
  (let t1:List bE:=[.J (o 1 []),.J (o 3 []),.a4 [] [] [(0,ii),(1,.comp [.bX .id]),(7,ii),(8,ii)]];
  (by
  rcases r1 with dR|dR
  ·exact (.ret (aU (t1.append [.sub (.exit 0) [] [],.J (o 1 [])]) (.e1 (Ff h2))))
  ·exact (.ret (aU (t1.append [.sub (.ret) [(4,.n .i64 dR)] []]) (.e1 (Ff h2))))))
def um (aH:c4) (hY:ByteArray):Option Int :=
 xg aH.a6 hY >>= fun r1 =>
 some r1
theorem ME {aH:c4} {hY:ByteArray}:bk (um aH hY) (fun r=>Con aY 92 [.agg [.isl 4 (aH.a6.map aG),.isl 3 (aH.b9.map aZ)],.s hY] [] (.n .i64 r) []):=by
 unfold um
 exact .au fun r1 h2 =>
  .ret (aU [.J (o 3 []),.J (o 3 (ad (.call {ac:=[ii,.comp [.ptr [.id]]],r:= .n .i64 r1,b5:=true,b6:=[1]}) (o 1 [])))] (.bp (nE (Iv hY):hn [[.s hY]]) (KP r1 h2) (aK.n .i64 r1)))
def tZ (aH:c4) (iG:bR):Option Bool :=
 if (decide (iG.de<(0:Int)))=true then
  some false
 else
  if (decide ((len_ aG aH.a6)≤iG.de))=true then
   some false
  else
   if (decide (iG.c1<(0:Int)))=true then
    some false
   else
    if (decide ((len_ aG aH.a6)≤iG.c1))=true then
     some false
    else
     if (decide (iG.eK<(1:Int)))=true then
      some false
     else
      if (decide ((3:Int)<iG.eK))=true then
       some false
      else
       if 0≤iG.de∧iG.de<aH.a6.length then
       aH.a6[iG.de.toNat]? >>= fun kc =>
       if 0≤iG.c1∧iG.c1<aH.a6.length then
       aH.a6[iG.c1.toNat]? >>= fun hg =>
       if (kc.eu != hg.eu)=true then
        if kc.cS=true then
         some (!hg.cS)
        else
         some true
       else
        if (kc.dV != hg.dV)=true then
         if kc.cS=true then
          some (!hg.cS)
         else
          some true
        else
         some false
       else none
       else none
theorem K4 {aH:c4} {iG:bR}:bk (tZ aH iG) (fun r=>Con aY 95 [.eG 2 [[.isl 4 (aH.a6.map aG),.isl 3 (aH.b9.map aZ)]] 0 0,.agg [.n .i64 iG.de,.n .i64 iG.c1,.n .i64 iG.eK]] [] (.b r) []):=by
 unfold tZ
 exact .ite (fun h1 =>
  .ret (aU [.J (o 2 []),.J (o 6 []),.J (o 4 (ch 4 (ad (.ah true) (o 1 (ch 3 (o 2 (ch 4 (o 2 (ch 3 (o 2 (ch 3 (o 1 [])))))))))))),.ah true,.J (o 1 [])] (.bh h1 h1 h1 h1 h1 bG bG bG (.bh bG bG bG bG bG bG bG bG (.bp bG bG bG)))))
  (fun h1 =>
  .ite (fun h2 =>
  .ret (aU [.J (o 2 []),.J (o 6 []),.J (o 8 (ad (.ah false) (o 1 (ch 3 (ad (.ah true) (o 1 (ch 4 (o 2 (ch 3 (o 2 (ch 3 (o 1 [])))))))))))),.ah true,.J (o 1 [])] (.bh h1 h1 h1 h1 h1 h2 h2 h2 (.bh h2 bG bG bG bG bG bG bG (.cp bG bG bG bG)))))
  (fun h2 =>
  (have bt:=((.bh h1 h1 h1 h1 h1 h2 h2 h2 (.e1 h2)):cd _);
  .ite (fun ag =>
  .ret (aU [.J (o 2 []),.J (o 6 []),.J (o 8 (ad (.ah false) (o 4 (ad (.ah false) (o 1 (ch 4 (ad (.ah true) (o 1 (ch 3 (o 2 (ch 3 (o 1 [])))))))))))),.ah true,.J (o 1 [])] (bt.az (.bh ag ag ag ag ag bG bG bG (.cp bG bG bG bG)))))
  (fun ag =>
  .ite (fun ap =>
  .ret (aU [.J (o 2 []),.J (o 6 []),.J (o 8 (ad (.ah false) (o 4 (ad (.ah false) (o 5 (ad (.ah false) (o 1 (ch 3 (ad (.ah true) (o 1 (ch 3 (o 1 [])))))))))))),.ah true,.J (o 1 [])] (bt.az (.bh ag ag ag ag ag ap ap ap (.cM ap bG bG bG bG)))))
  (fun ap =>
  (have aO:=bt.az (.bh ag ag ag ag ag ap ap ap (.e1 ap));
  .ite (fun aE =>
  .ret (aU [.J (o 2 []),.J (o 6 []),.J (o 8 (ad (.ah false) (o 4 (ad (.ah false) (o 5 (ad (.ah false) (o 4 (ad (.ah false) (o 1 (ch 3 (ad (.ah true) []))))))))))),.ah true,.J (o 1 [])] (aO.az (.cM aE aE aE aE bG))))
  (fun aE =>
  (let t3:List bE:=[.J (o 2 []),.J (o 6 []),.J (o 8 (ad (.ah false) (o 4 (ad (.ah false) (o 5 (ad (.ah false) (o 4 (ad (.ah false) (o 4 (ad (.ah false) []))))))))))];
  .ite (fun aQ =>
  .ret (aU (t3.append [.ah true,.J (o 1 [])]) (aO.az (.cM aE aE aE aE aQ))))
  (fun aQ =>
  .bn fun bd =>
  .au fun kc c3 =>
  .bn fun cR =>
  .au fun hg fB =>
  (let t4:List bE:=t3.append [.ah false,.J (o 7 (ad (.b8 (aG kc)) (o 7 (ad (.b8 (aG hg)) (o 4 [])))))];
  have kd:=aO.az (.bh aE aE aE aE aQ bd.1 (dd aG bd.2) (cB aG c3) (.bp cR.1 (dd aG cR.2) (cB aG fB)));
  .ite (fun ex =>
  (have jy:=kd.az (.bh ex ex ex ex ex ex bG bG (.e1 bG));
  .ite (fun ez =>
  .ret (aU (t4.append [.J (o 6 (ch 5 (ad (.ah true) (o 6 (ad (.ah true) (o 3 []))))))]) (jy.az (.cM ez ez bG ez bG))))
  (fun ez =>
  .ret (aU (t4.append [.J (o 6 (ch 5 (ad (.ah true) (o 4 (ch 2 (ad (.ah false) (o 3 [])))))))]) (jy.az (.cM ez ez bG ez bG))))))
  (fun ex =>
  .ite (fun ez =>
  (have jy:=kd.az (.bh ex ex ex ex ex ex ez ez (.e1 ez));
  .ite (fun gN =>
  .ret (aU (t4.append [.J (o 11 (ad (.ah false) (o 6 (ad (.ah true) (o 1 (ad (.ah true) (o 1 [])))))))]) (jy.az (.d5 gN gN ez gN ez ez))))
  (fun gN =>
  .ret (aU (t4.append [.J (o 11 (ad (.ah false) (o 4 (ch 2 (ad (.ah false) (o 1 (ad (.ah true) (o 1 []))))))))]) (jy.az (.d5 gN gN ez gN ez ez))))))
  (fun ez =>
  .ret (aU (t4.append [.J (o 11 (ad (.ah false) (o 1 (ch 3 (o 2 (ch 2 (ad (.ah false) (o 1 []))))))))]) (kd.az (.bh ex ex ex ex ex ex ez ez (.cp ez ez ez ez))))))))))))))))
def rY (iG:bR) (bX:c4):Option Bool :=
 tZ bX iG >>= fun r1 =>
 some (!r1)
theorem LZ {iG:bR} {bX:c4}:bk (rY iG bX) (fun r=>Con aY 94 [.agg [.n .i64 iG.de,.n .i64 iG.c1,.n .i64 iG.eK],.eG 2 [[.isl 4 (bX.a6.map aG),.isl 3 (bX.b9.map aZ)]] 0 0] [] (.b r) []):=by
 unfold rY
 exact .au fun r1 h2 =>
  .ret (aU [.J (o 2 []),.J (o 1 (ad (a7 2 (.b r1) true) (o 2 [])))] (.e2 (K4 r1 h2) (aK.b r1)))
def zz (aH:(List bR)) (ho:(List bg)) (k0:(List bR)) (dA:Int):Int→S:=fun di=>dy [(0,.isl 3 (aH.map aZ)),(1,.fn 94 [.eG 2 [[.isl 4 (ho.map aG),.isl 3 (k0.map aZ)]] 0 0]),(7,.n .i64 dA),(8,.n .i64 di)] []
def Fb (aH:(List bR)) (ho:(List bg)) (k0:(List bR)) (dA:Int):((Unit)⊕(Int))→dB
 | .inl a=>⟨some 0,[],[]⟩
 | .inr a=>⟨none,[(4,.n .i64 a)],[]⟩
def l9 (aH:(List bR)) (ho:(List bg)) (k0:(List bR)) (dA:Int) (di:Int):Option ((Int)⊕((Unit)⊕(Int))) :=
 if (decide (di<dA))=true then
  if 0≤di∧di<aH.length then
  aH[di.toNat]? >>= fun an =>
  rY an (⟨ho,k0⟩:c4) >>= fun aV =>
  if aV=true then
   some (.inr (.inr di))
  else
   some (.inl (U (di+(1:Int))))
  else none
 else
  some (.inr (.inl ()))
def tT (aH:(List bR)) (ho:(List bg)) (k0:(List bR)) (dA:Int) (di:Int):Option ((Unit)⊕(Int)):=iter (fun w:Int=>l9 aH ho k0 dA w) di
theorem KJ {aH:(List bR)} {ho:(List bg)} {k0:(List bR)} {dA:Int} {di:Int}:bk (l9 aH ho k0 dA di) (eg aY 19 0 119 [1,0,1,0,0] (zz aH ho k0 dA di) (zz aH ho k0 dA) (Fb aH ho k0 dA)):=by
 unfold l9
 exact .ite (fun h1 =>
  .bn fun h2 =>
  .au fun an ap =>
  .au fun aV aQ =>
  (let t1:List bE:=[.J (o 1 []),.ah true,.J (o 2 []),.J (o 4 (ad (.b8 (aZ an)) (ad (a7 2 (.b aV) true) [])))];
  have aO:=((.d5 h1 h2.1 (dd aZ h2.2) (cB aZ ap) (LZ aV aQ) (aK.b aV)):cd _);
  .ite (fun bd =>
  .ret (bz (t1.append [.ah true,.J (o 2 []),.a4 [] [] (bB [4])]) (aO.az (.e1 bd))))
  (fun bd =>
  .ret (bz (t1.append [.ah false,.J (o 2 []),.a4 [] [] [(0,ii),(1,.comp [.bX .id]),(7,ii),(8,ii)]]) (aO.az (.e1 bd))))))
  (fun h1 =>
  .ret (bz [.J (o 1 []),.ah false,.a4 [] [] []] (.e1 h1)))
theorem Fe {aH:(List bR)} {ho:(List bg)} {k0:(List bR)} {dA:Int} {di:Int} {r} (h:tT aH ho k0 dA di=some r):eh aY 19 0 119 [1,0,1,0,0] (zz aH ho k0 dA) (Fb aH ho k0 dA) di r:=ej (fun _=>KJ) h
def tW (aH:(List bR)) (ki:c4):Option Int :=
 tT aH ki.a6 ki.b9 (len_ aZ aH) 0 >>= fun r1 =>
 match r1 with
 | .inl dR=>(some (-1))
 | .inr dR=>(some dR)
theorem KO {aH:(List bR)} {ki:c4}:bk (tW aH ki) (fun r=>Con aY 119 [.isl 3 (aH.map aZ),.fn 94 [.eG 2 [[.isl 4 (ki.a6.map aG),.isl 3 (ki.b9.map aZ)]] 0 0]] [] (.n .i64 r) []):=by
 unfold tW
 exact .au fun r1 h2 =>
  (let t1:List bE:=[.J (o 1 []),.J (o 3 []),.a4 [] [] [(0,ii),(1,.comp [.bX .id]),(7,ii),(8,ii)]];
  (by
  rcases r1 with dR|dR
  ·exact (.ret (aU (t1.append [.sub (.exit 0) [] [],.J (o 1 [])]) (.e1 (Fe h2))))
  ·exact (.ret (aU (t1.append [.sub (.ret) [(4,.n .i64 dR)] []]) (.e1 (Fe h2))))))
def tU (aH:(List bR)) (ki:c4):Option Bool :=
 tW aH ki >>= fun r1 =>
 some (decide ((0:Int)≤r1))
theorem KL {aH:(List bR)} {ki:c4}:bk (tU aH ki) (fun r=>Con aY 93 [.isl 3 (aH.map aZ),.fn 94 [.eG 2 [[.isl 4 (ki.a6.map aG),.isl 3 (ki.b9.map aZ)]] 0 0]] [] (.b r) []):=by
 unfold tU
 exact .au fun r1 h2 =>
  .ret (aU [.J (o 1 []),.J (o 2 (ad (a7 2 (.n .i64 r1) true) (o 2 [])))] (.e2 (KO r1 h2) (aK.n .i64 r1)))
def zQ (jD:(List bg)) (k5:Int) (ff:(List bR)):Int→S:=fun kH=>dy [(1,.ref 0 0 0 0),(16,.isl 4 (jD.map aG)),(17,.n .i64 k5),(18,.n .i64 kH)] [[ab.mk 2 [[.isl 4 (jD.map aG),.isl 3 (ff.map aZ)]] .live]]
def zX (jD:(List bg)) (k5:Int) (ff:(List bR)):((Unit)⊕(Unit))→dB
 | .inl a=>⟨some 0,[(1,.ref 0 0 0 0)],[[ab.mk 2 [[.isl 4 (jD.map aG),.isl 3 (ff.map aZ)]] .live]]⟩
 | .inr a=>⟨none,[(2,.b false)],[]⟩
def xh (jD:(List bg)) (k5:Int) (ff:(List bR)) (kH:Int):Option ((Int)⊕((Unit)⊕(Unit))) :=
 if (decide (kH<k5))=true then
  if 0≤kH∧kH<jD.length then
  jD[kH.toNat]? >>= fun an =>
  uP an >>= fun aV =>
  if aV=true then
   um (⟨jD,ff⟩:c4) an.ed >>= fun eM =>
   if (eM != kH)=true then
    some (.inr (.inr ()))
   else
    some (.inl (U (kH+(1:Int))))
  else
   some (.inr (.inr ()))
  else none
 else
  some (.inr (.inl ()))
def xn (jD:(List bg)) (k5:Int) (ff:(List bR)) (kH:Int):Option ((Unit)⊕(Unit)):=iter (fun w:Int=>xh jD k5 ff w) kH
theorem KZ {jD:(List bg)} {k5:Int} {ff:(List bR)} {kH:Int}:bk (xh jD k5 ff kH) (eg aY 40 0 67 [1,1,0,1,0,0] (zQ jD k5 ff kH) (zQ jD k5 ff) (zX jD k5 ff)):=by
 unfold xh
 exact .ite (fun h1 =>
  .bn fun h2 =>
  .au fun an ap =>
  .au fun aV aQ =>
  (let t1:List bE:=[.J (o 1 []),.ah true,.J (o 2 (ad (.b8 (aG an)) (o 3 [])))];
  have aO:=((.d5 h1 h2.1 (dd aG h2.2) (cB aG ap) (ND aV aQ) (aK.b aV)):cd _);
  .ite (fun bd =>
  .au fun eM c3 =>
  (let t3:List bE:=t1.append [.J (o 1 (ad (a7 1 (.b aV) true) (o 5 (ad (a7 2 (.n .i64 eM) true) (o 2 (ad (.ah false) []))))))];
  have d4:=aO.az (.bh (bK bd) (bK bd) (bK bd) (bK bd) (ME eM c3) (aK.n .i64 eM) (bK bd) (bK bd) (.e1 (bK bd)));
  .ite (fun cR =>
  .ret (bz (t3.append [.ah true,.J (o 1 []),.a4 [] [] (bB [2])]) (d4.az (.e1 cR))))
  (fun cR =>
  .ret (bz (t3.append [.ah false,.J (o 2 []),.a4 [0] [.box [.id,.id]] (bB [1,16,17,18])]) (d4.az (.e1 cR))))))
  (fun bd =>
  .ret (bz (t1.append [.J (o 1 (ad (a7 1 (.b aV) true) (o 2 (ch 6 (ad (.ah true) []))))),.ah true,.J (o 1 []),.a4 [] [] (bB [2])]) (aO.az (.gz (b3 bd) (b3 bd) (b3 bd) (b3 bd) (b3 bd) (b3 bd) (b3 bd) bG))))))
  (fun h1 =>
  .ret (bz [.J (o 1 []),.ah false,.a4 [0] [.box [.id,.id]] (bB [1])] (.e1 h1)))
theorem Fp {jD:(List bg)} {k5:Int} {ff:(List bR)} {kH:Int} {r} (h:xn jD k5 ff kH=some r):eh aY 40 0 67 [1,1,0,1,0,0] (zQ jD k5 ff) (zX jD k5 ff) kH r:=ej (fun _=>KZ) h
def pL (aH:c4):Option Bool :=
 if (decide ((6:Int)<(len_ aG aH.a6)))=true then
  some false
 else
  if (decide ((8:Int)<(len_ aZ aH.b9)))=true then
   some false
  else
   xn aH.a6 (len_ aG aH.a6) aH.b9 0 >>= fun a2 =>
   match a2 with
   | .inl cw=>(tU aH.b9 aH >>= fun dk =>
    some (!dk))
   | .inr cw=>(some false)
theorem FF {aH:c4}:bk (pL aH) (fun r=>Con aY 67 [.agg [.isl 4 (aH.a6.map aG),.isl 3 (aH.b9.map aZ)]] [] (.b r) []):=by
 unfold pL
 exact .ite (fun h1 =>
  .ret (aU [.J (o 2 []),.J (o 5 (ch 4 (ad (.ah true) []))),.ah true,.J (o 1 [])] (.d5 h1 h1 h1 h1 h1 bG)))
  (fun h1 =>
  (let t1:List bE:=[.J (o 2 []),.J (o 9 (ad (.ah false) []))];
  .ite (fun h2 =>
  .ret (aU (t1.append [.ah true,.J (o 1 [])]) (.d5 h1 h1 h1 h1 h1 h2)))
  (fun h2 =>
  .au fun a2 ap =>
  (let t2:List bE:=t1.append [.ah false,.J (o 4 []),.a4 [0] [.box [.id,.id]] (bB [1,16,17,18])];
  (by
  rcases a2 with cw|cw
  ·exact (.au fun dk bd =>
  .ret (aU (t2.append [(zX aH.a6 (len_ aG aH.a6) aH.b9 (.inl cw)).fo,.J (o 3 (ad (.call {ac:=[ii,.comp [.ptr [.id,.id]]],r:= .b dk,b5:=true,b6:=[0]}) (o 2 [])))]) (.bh h1 h1 h1 h1 h1 h2 (Fp ap) (nE (uj aH):hn [[.isl 4 (aH.a6.map aG),.isl 3 (aH.b9.map aZ)]]) (.e2 (KL dk bd) (aK.b dk)))))
  ·exact (.ret (aU (t2.append [.sub (.ret) [(2,.b false)] []]) (.dP h1 h1 h1 h1 h1 h2 (Fp ap)))))))))
def uQ (bc:Int):Option Bool :=
 if (decide (bc<(0:Int)))=true then
  some true
 else
  some (decide ((1000000000:Int)≤bc))
theorem NE {bc:Int}:bk (uQ bc) (fun r=>Con aY 137 [.n .i64 bc] [] (.b r) []):=by
 unfold uQ
 exact .ite (fun h1 =>
  .ret (aU [.J (o 1 []),.J (o 3 (ch 2 (ad (.ah true) (o 1 []))))] (.bp h1 h1 h1)))
  (fun h1 =>
  .ret (aU [.J (o 1 []),.J (o 5 (ad (.ah false) (o 1 [])))] (.bp h1 h1 h1)))
def zD (aH:(List Int)) (dA:Int):Int→S:=fun di=>dy [(0,.isl 1 (aH.map I)),(1,.fn 137 []),(7,.n .i64 dA),(8,.n .i64 di)] []
def Fh (aH:(List Int)) (dA:Int):((Unit)⊕(Int))→dB
 | .inl a=>⟨some 0,[],[]⟩
 | .inr a=>⟨none,[(4,.n .i64 a)],[]⟩
def rq (aH:(List Int)) (dA:Int) (di:Int):Option ((Int)⊕((Unit)⊕(Int))) :=
 if (decide (di<dA))=true then
  if 0≤di∧di<aH.length then
  aH[di.toNat]? >>= fun an =>
  uQ an >>= fun aV =>
  if aV=true then
   some (.inr (.inr di))
  else
   some (.inl (U (di+(1:Int))))
  else none
 else
  some (.inr (.inl ()))
def zF (aH:(List Int)) (dA:Int) (di:Int):Option ((Unit)⊕(Int)):=iter (fun w:Int=>rq aH dA w) di
theorem KN {aH:(List Int)} {dA:Int} {di:Int}:bk (rq aH dA di) (eg aY 19 0 138 [1,0,1,0,0] (zD aH dA di) (zD aH dA) (Fh aH dA)):=by
 unfold rq
 exact .ite (fun h1 =>
  .bn fun h2 =>
  .au fun an ap =>
  .au fun aV aQ =>
  (let t1:List bE:=[.J (o 1 []),.ah true,.J (o 2 []),.J (o 4 (ad (.b8 (I an)) (ad (a7 1 (.b aV) true) [])))];
  have aO:=((.d5 h1 h2.1 (dd I h2.2) (cB I ap) (NE aV aQ) (aK.b aV)):cd _);
  .ite (fun bd =>
  .ret (bz (t1.append [.ah true,.J (o 2 []),.a4 [] [] (bB [4])]) (aO.az (.e1 bd))))
  (fun bd =>
  .ret (bz (t1.append [.ah false,.J (o 2 []),.a4 [] [] (bB [0,1,7,8])]) (aO.az (.e1 bd))))))
  (fun h1 =>
  .ret (bz [.J (o 1 []),.ah false,.a4 [] [] []] (.e1 h1)))
theorem Fi {aH:(List Int)} {dA:Int} {di:Int} {r} (h:zF aH dA di=some r):eh aY 19 0 138 [1,0,1,0,0] (zD aH dA) (Fh aH dA) di r:=ej (fun _=>KN) h
def xi (aH:(List Int)):Option Int :=
 zF aH (len_ I aH) 0 >>= fun r1 =>
 match r1 with
 | .inl dR=>(some (-1))
 | .inr dR=>(some dR)
theorem K0 {aH:(List Int)}:bk (xi aH) (fun r=>Con aY 138 [.isl 1 (aH.map I),.fn 137 []] [] (.n .i64 r) []):=by
 unfold xi
 exact .au fun r1 h2 =>
  (let t1:List bE:=[.J (o 1 []),.J (o 3 []),.a4 [] [] (bB [0,1,7,8])];
  (by
  rcases r1 with dR|dR
  ·exact (.ret (aU (t1.append [.sub (.exit 0) [] [],.J (o 1 [])]) (.e1 (Fi h2))))
  ·exact (.ret (aU (t1.append [.sub (.ret) [(4,.n .i64 dR)] []]) (.e1 (Fi h2))))))
def rr (aH:(List Int)):Option Bool :=
 xi aH >>= fun r1 =>
 some (decide ((0:Int)≤r1))
theorem Fj {aH:(List Int)}:bk (rr aH) (fun r=>Con aY 136 [.isl 1 (aH.map I),.fn 137 []] [] (.b r) []):=by
 unfold rr
 exact .au fun r1 h2 =>
  .ret (aU [.J (o 1 []),.J (o 2 (ad (a7 2 (.n .i64 r1) true) (o 2 [])))] (.e2 (K0 r1 h2) (aK.n .i64 r1)))
def p6 (aa:(List Int)):Option Bool :=
 if (decide ((60:Int)<(len_ I aa)))=true then
  some false
 else
  if (decide ((0:Int)<(len_ I aa)))=true then
   if 0≤(U ((len_ I aa)-(1:Int)))∧(U ((len_ I aa)-(1:Int)))<aa.length then
   aa[(U ((len_ I aa)-(1:Int))).toNat]? >>= fun eo =>
   if (eo == (0:Int))=true then
    some false
   else
    rr aa >>= fun bw =>
    some (!bw)
   else none
  else
   rr aa >>= fun a2 =>
   some (!a2)
theorem Gx {aa:(List Int)}:bk (p6 aa) (fun r=>Con aY 131 [.isl 1 (aa.map I)] [] (.b r) []):=by
 unfold p6
 exact .ite (fun h1 =>
  .ret (aU [.J (o 1 []),.J (o 4 (ch 4 (o 7 (ch 1 (ad (.ah true) []))))),.ah true,.J (o 1 [])] (.dP h1 h1 h1 h1 h1 h1 bG)))
  (fun h1 =>
  .ite (fun h2 =>
  .bn fun ag =>
  .au fun eo aE =>
  (let t1:List bE:=[.J (o 1 []),.J (o 13 (ad (.b8 (I eo)) (o 1 (ad (.ah true) (ad (.ah false) [])))))];
  have aO:=((.bh h1 h1 h1 h1 h2 h2 h2 h2 (.bh h2 ag.1 (dd I ag.2) h2 (cB I aE) h2 h1 h2 (.e1 h1))):cd _);
  .ite (fun aQ =>
  .ret (aU (t1.append [.ah true,.J (o 1 [])]) (aO.az (.e1 aQ))))
  (fun aQ =>
  .au fun bw bL =>
  .ret (aU (t1.append [.ah false,.J (o 1 (ad (a7 2 (.b bw) true) (o 2 [])))]) (aO.az (.bp aQ (Fj bw bL) (aK.b bw)))))))
  (fun h2 =>
  .au fun a2 ap =>
  .ret (aU [.J (o 1 []),.J (o 8 (ch 7 (ad (.ah false) (ad (.ah false) [])))),.ah false,.J (o 1 (ad (a7 2 (.b a2) true) (o 2 [])))] (.bh h1 h1 h1 h1 h2 h2 h2 h2 (.bh h2 h2 h2 h1 h2 h1 fP (Fj a2 ap) (.e1 (aK.b a2)))))))
def uE (bS:cZ):Option Bool :=
 p6 bS.a9 >>= fun r1 =>
 if r1=true then
  if bS.bM=true then
   some (!((len_ I bS.a9) == (0:Int)))
  else
   some true
 else
  some false
theorem Ni {bS:cZ}:bk (uE bS) (fun r=>Con aY 130 [.agg [.b bS.bM,.isl 1 (bS.a9.map I)]] [] (.b r) []):=by
 unfold uE
 exact .au fun r1 h2 =>
  (have bt:=((.e2 (Gx r1 h2) (aK.b r1)):cd _);
  .ite (fun ag =>
  .ite (fun ap =>
  .ret (aU [.J (o 2 []),.J (o 2 (ad (a7 1 (.b r1) true) (o 8 (ad (.ah true) (o 1 (ad (.ah true) (o 1 [])))))))] (bt.az (.bh ag ag ag ap ap ap ap ag (.bp ap ag ag)))))
  (fun ap =>
  .ret (aU [.J (o 2 []),.J (o 2 (ad (a7 1 (.b r1) true) (o 4 (ch 4 (ad (.ah false) (o 1 (ad (.ah true) (o 1 []))))))))] (bt.az (.bh ag ag ag ap ap ap ap ag (.bp ap ag ag))))))
  (fun ag =>
  .ret (aU [.J (o 2 []),.J (o 2 (ad (a7 1 (.b r1) true) (o 1 (ch 3 (o 4 (ch 2 (ad (.ah false) (o 1 []))))))))] (bt.az (.d5 ag ag ag ag ag ag)))))
def Az (aa:(List Int)) (ak:(List Int)):Int→S:=fun ai=>dy [(0,.isl 1 (aa.map I)),(1,.isl 1 (ak.map I)),(5,.n .i64 ai)] []
def FG (aa:(List Int)) (ak:(List Int)):((Unit)⊕(Int))→dB
 | .inl a=>⟨some 0,[],[]⟩
 | .inr a=>⟨none,[(4,.n .i64 a)],[]⟩
def AA (aa:(List Int)) (ak:(List Int)) (ai:Int):Option ((Int)⊕((Unit)⊕(Int))) :=
 if (decide ((0:Int)≤ai))=true then
  if 0≤ai∧ai<aa.length then
  aa[ai.toNat]? >>= fun an =>
  if 0≤ai∧ai<ak.length then
  ak[ai.toNat]? >>= fun bW =>
  if (decide (an<bW))=true then
   some (.inr (.inr (-1)))
  else
   if (decide (bW<an))=true then
    some (.inr (.inr 1))
   else
    some (.inl (U (ai-(1:Int))))
  else none
  else none
 else
  some (.inr (.inl ()))
def Gc (aa:(List Int)) (ak:(List Int)) (ai:Int):Option ((Unit)⊕(Int)):=iter (fun w:Int=>AA aa ak w) ai
theorem Lt {aa:(List Int)} {ak:(List Int)} {ai:Int}:bk (AA aa ak ai) (eg aY 43 0 123 [1,1,0,1,0,0] (Az aa ak ai) (Az aa ak) (FG aa ak)):=by
 unfold AA
 exact .ite (fun h1 =>
  .bn fun h2 =>
  .au fun an ap =>
  .bn fun aE =>
  .au fun bW bd =>
  (let t1:List bE:=[.J (o 2 []),.ah true,.J (o 3 (ad (.b8 (I an)) (o 3 (ad (.b8 (I bW)) (o 2 [])))))];
  have aO:=((.dP h1 h2.1 (dd I h2.2) (cB I ap) aE.1 (dd I aE.2) (cB I bd)):cd _);
  .ite (fun bL =>
  .ret (bz (t1.append [.ah true,.J (o 1 []),.a4 [] [] (bB [4])]) (aO.az (.e1 bL))))
  (fun bL =>
  (let t3:List bE:=t1.append [.ah false,.J (o 3 (ad (.b8 (I an)) (o 3 (ad (.b8 (I bW)) (o 2 [])))))];
  have d4:=aO.az (.dP bL h2.1 (dd I h2.2) (cB I ap) aE.1 (dd I aE.2) (cB I bd));
  .ite (fun c3 =>
  .ret (bz (t3.append [.ah true,.J (o 1 []),.a4 [] [] (bB [4])]) (d4.az (.e1 c3))))
  (fun c3 =>
  .ret (bz (t3.append [.ah false,.J (o 3 []),.a4 [] [] (bB [0,1,5])]) (d4.az (.e1 c3))))))))
  (fun h1 =>
  .ret (bz [.J (o 2 []),.ah false,.a4 [] [] []] (.e1 h1)))
theorem FN {aa:(List Int)} {ak:(List Int)} {ai:Int} {r} (h:Gc aa ak ai=some r):eh aY 43 0 123 [1,1,0,1,0,0] (Az aa ak) (FG aa ak) ai r:=ej (fun _=>Lt) h
def oH (aa:(List Int)) (ak:(List Int)):Option Int :=
 if ((len_ I aa) != (len_ I ak))=true then
  if (decide ((len_ I aa)<(len_ I ak)))=true then
   some (-1)
  else
   some 1
 else
  Gc aa ak (U ((len_ I aa)-(1:Int))) >>= fun r2 =>
  match r2 with
  | .inl ei=>(some 0)
  | .inr ei=>(some ei)
theorem xy {aa:(List Int)} {ak:(List Int)}:bk (oH aa ak) (fun r=>Con aY 123 [.isl 1 (aa.map I),.isl 1 (ak.map I)] [] (.n .i64 r) []):=by
 unfold oH
 exact .ite (fun h1 =>
  (let t1:List bE:=[.J (o 1 []),.J (o 5 []),.ah true,.J (o 5 [])];
  .ite (fun h2 =>
  .ret (aU (t1.append [.ah true,.J (o 1 [])]) (.e2 h1 h2)))
  (fun h2 =>
  .ret (aU (t1.append [.ah false,.J (o 1 [])]) (.e2 h1 h2)))))
  (fun h1 =>
  .au fun r2 ag =>
  (let t1:List bE:=[.J (o 1 []),.J (o 5 []),.ah false,.J (o 4 []),.a4 [] [] (bB [0,1,5])];
  (by
  rcases r2 with ei|ei
  ·exact (.ret (aU (t1.append [.sub (.exit 0) [] [],.J (o 1 [])]) (.e2 h1 (FN ag))))
  ·exact (.ret (aU (t1.append [.sub (.ret) [(4,.n .i64 ei)] []]) (.e2 h1 (FN ag)))))))
def vq (aH:(List Int)):Option (List Int) :=
 if aH.length*8≤140737488355328 then some aH else none
theorem PE:Con aY 106 [.eQ] [] (.isl 1 (([]:List Int).map I)) []:=aU [.J (o 1 []),.J (o 2 []),.ah true,.J (o 1 [])] (.e1 bG) (.bo (.bX (.eO 1)))
theorem PF:Con aY 106 [.f9] [] (.isl 1 (([]:List Int).map I)) []:=(by
 have h:=fun (h1:(([]:List Int)++([]:List Int)).length*8≤140737488355328)=>(aU [.J (o 1 []),.J (o 2 []),.ah false,.J (o 2 (ad (.az ((([]:List Int)++([]:List Int)).length)) (o 1 [])))] (.dP fP (ia (show []=(([]:List Int)).map I from rfl) (show 0=([]:List Int).length from rfl)) (ib (show 0=([]:List Int).length from rfl) (show ([]:List (List ax))=([]:List Int).map I from rfl):(([]:List Int)++([]:List Int)).length=0+([]:List (List ax)).length) h1 (dv (gf (show []=(([]:List Int)).map I from rfl) (show 0=([]:List Int).length from rfl) (show ([]:List (List ax))=([]:List Int).map I from rfl)) (ba (([]:List Int)++([]:List Int)))) (cq (gf (show []=(([]:List Int)).map I from rfl) (show 0=([]:List Int).length from rfl) (show ([]:List (List ax))=([]:List Int).map I from rfl)) (ba (([]:List Int)++([]:List Int)))) (cn a3 (([]:List Int)++([]:List Int)))) (.bo (.bX (.cL ((([]:List Int)++([]:List Int)).map I)))):Con aY 106 [.f9] [] (.isl 1 ((([]:List Int)++([]:List Int)).map I)) [])
 exact h (by decide))
theorem PG (x:Int) (l:List Int) (h1:(([]:List Int)++(x::l)).length*8≤140737488355328):Con aY 106 [.isl 1 ((x::l).map I)] [] (.isl 1 ((([]:List Int)++(x::l)).map I)) []:=aU [.J (o 1 []),.J (o 1 (ad .cY [])),.ah false,.J (o 2 (ad (.az ((([]:List Int)++(x::l)).length)) (o 1 [])))] (.gz (by simp:(x::l).map I≠[]) fP (ia (show []=(([]:List Int)).map I from rfl) (show 0=([]:List Int).length from rfl)) (ib (show 0=([]:List Int).length from rfl) (aD I (x::l)):(([]:List Int)++(x::l)).length=0+((x::l).map I).length) h1 (dv (gf (show []=(([]:List Int)).map I from rfl) (show 0=([]:List Int).length from rfl) (aD I (x::l))) (ba (([]:List Int)++(x::l)))) (cq (gf (show []=(([]:List Int)).map I from rfl) (show 0=([]:List Int).length from rfl) (aD I (x::l))) (ba (([]:List Int)++(x::l)))) (cn a3 (([]:List Int)++(x::l)))) (.bo (.bX (.cL ((([]:List Int)++(x::l)).map I))))
theorem O7 {aH:(List Int)}:bk (vq aH) (fun r=>Con aY 106 [.isl 1 (aH.map I)] [] (.isl 1 (r.map I)) []):=by
 unfold vq
 refine .bn fun h=> .ret ?_
 cases aH with
 | nil=>exact .fk PE PF
 | cons x l =>
  have h2:=PG x l (by simpa using h)
  simpa using h2
def BF:(List Int)→S:=fun aa=>dy [(0,.isl 1 (aa.map I))] []
def BZ:(List Int)→dB
 | a=>⟨some 0,[(0,.isl 1 (a.map I))],[]⟩
def r4 (aa:(List Int)):Option (((List Int))⊕((List Int))) :=
 if (decide ((0:Int)<(len_ I aa)))=true then
  if 0≤(U ((len_ I aa)-(1:Int)))∧(U ((len_ I aa)-(1:Int)))<aa.length then
  aa[(U ((len_ I aa)-(1:Int))).toNat]? >>= fun an =>
  if (an == (0:Int))=true then
   if 0≤(U ((len_ I aa)-(1:Int))) then
   if 0≤(U ((len_ I aa)-(1:Int))).toNat∧(U ((len_ I aa)-(1:Int))).toNat≤aa.length then
   some (.inl ((aa.drop 0).take ((U ((len_ I aa)-(1:Int))).toNat-0)))
   else none
   else none
  else
   some (.inr aa)
  else none
 else
  some (.inr aa)
def CG (aa:(List Int)):Option ((List Int)):=iter (fun w:(List Int)=>r4 w) aa
theorem Ma {aa:(List Int)}:bk (r4 aa) (eg aY 21 0 127 [1,0,0,0] (BF aa) (BF) (BZ)):=by
 unfold r4
 exact .ite (fun h1 =>
  .bn fun h2 =>
  .au fun an ap =>
  (let t1:List bE:=[.J (o 9 (ad (.b8 (I an)) (o 1 (ad (.ah true) []))))];
  have aO:=((.bh h1 h1 h1 h1 h1 h2.1 (dd I h2.2) h1 (.bp (cB I ap) h1 h1)):cd _);
  .ite (fun aE =>
  .bn fun aQ =>
  .bn fun bd =>
  .ret (bz (t1.append [.ah true,.J (o 6 []),.a4 [] [] [(0,.bo (.bX (.dr (.isl 1 (((aa.drop 0).take ((U ((len_ I aa)-(1:Int))).toNat-0)).map I)))))]]) (aO.az (.cM aE aQ bd.1 (lv (aD I aa) bd.2) (congrArg (ax.isl 1) (Dm (aD I aa) 0 ((U ((len_ I aa)-(1:Int))).toNat-0)):(.isl 1 (((aa.map I).drop 0).take ((U ((len_ I aa)-(1:Int))).toNat-0)):ax) = .isl 1 (((aa.drop 0).take ((U ((len_ I aa)-(1:Int))).toNat-0)).map I))))))
  (fun aE =>
  .ret (bz (t1.append [.ah false,.a4 [] [] (bB [0])]) (aO.az (.e1 aE))))))
  (fun h1 =>
  .ret (bz [.J (o 4 (ch 7 (ad (.ah false) []))),.ah false,.a4 [] [] (bB [0])] (.bh h1 h1 h1 h1 h1 h1 h1 h1 (.e1 fP))))
theorem NF {aa:(List Int)} {r} (h:CG aa=some r):eh aY 21 0 127 [1,0,0,0] (BF) (BZ) aa r:=ej (fun _=>Ma) h
def mh (aa:(List Int)):Option (List Int) :=
 CG aa >>= fun r1 =>
 some r1
theorem pU {aa:(List Int)}:bk (mh aa) (fun r=>Con aY 127 [.isl 1 (aa.map I)] [] (.isl 1 (r.map I)) []):=by
 unfold mh
 exact .au fun r1 h2 =>
  .ret (aU [.J (o 1 []),.a4 [] [] (bB [0]),(BZ r1).fo,.J (o 2 [])] (.e1 (NF h2)))
def z3 (aa:(List Int)) (ak:Int):(Int×Int×(List Int))→S:=fun (dC,ai,ae)=>dy [(0,.isl 1 (aa.map I)),(1,.n .i64 ak),(6,.aN 0 0 0 ae.length),(7,.n .i64 dC),(8,.n .i64 ai)] [[ab.mk 1 (ae.map I) .live]]
def Ai (aa:(List Int)) (ak:Int):(Int×(List Int))→dB
 | a=>⟨some 0,[(6,.aN 0 0 0 a.2.length),(7,.n .i64 a.1)],[[ab.mk 1 (a.2.map I) .live]]⟩
def z4 (aa:(List Int)) (ak:Int) (dC:Int) (ai:Int) (ae:(List Int)):Option ((Int×Int×(List Int))⊕(Int×(List Int))) :=
 if (decide ((0:Int)≤ai))=true then
  if 0≤ai∧ai<aa.length then
  aa[ai.toNat]? >>= fun an =>
  if ak≠0 then
  if 0≤ai∧ai<(ae.length:Nat) then
  if (0+ai.toNat)<ae.length then
  some (.inl ((U ((U (dC*(1000000000:Int)))+an)).tmod ak,U (ai-(1:Int)),ae.set (0+ai.toNat) (U ((U ((U (dC*(1000000000:Int)))+an)).tdiv ak))))
  else none
  else none
  else none
  else none
 else
  some (.inr (dC,ae))
def BG (aa:(List Int)) (ak:Int) (dC:Int) (ai:Int) (ae:(List Int)):Option (Int×(List Int)):=iter (fun w:Int×Int×(List Int)=>z4 aa ak w.1 w.2.1 w.2.2) (dC,ai,ae)
theorem K8 {aa:(List Int)} {ak:Int} {dC:Int} {ai:Int} {ae:(List Int)}:bk (z4 aa ak dC ai ae) (eg aY 39 0 133 [1,1,1,0,1,0,0] (z3 aa ak (dC,ai,ae)) (z3 aa ak) (Ai aa ak)):=by
 unfold z4
 exact .ite (fun h1 =>
  .bn fun h2 =>
  .au fun an ap =>
  .bn fun aE =>
  .bn fun aQ =>
  .bn fun bd =>
  .ret (bz [.J (o 2 []),.ah true,.J (o 5 (ad (.b8 (I an)) (o 2 []))),.J (o 9 (ad .cY (o 1 []))),.J (o 3 []),.a4 [0] [.dr [ab.mk 1 ((ae.set (0+ai.toNat) (U ((U ((U (dC*(1000000000:Int)))+an)).tdiv ak))).map I) .live]] [(0,ii),(1,ii),(6,e6 ((ae.set (0+ai.toNat) (U ((U ((U (dC*(1000000000:Int)))+an)).tdiv ak))).length)),(7,ii),(8,ii)]] (.bh h1 h2.1 (dd I h2.2) (cB I ap) aE aE aQ.1 aQ.2 (.cM (g7 I bd) (gT 1) (eb 1 .live (fZ (aD I ae) (0+ai.toNat) (U ((U ((U (dC*(1000000000:Int)))+an)).tdiv ak)))) (bJ 1 .live a3 (ae.set (0+ai.toNat) (U ((U ((U (dC*(1000000000:Int)))+an)).tdiv ak)))) (fQ (ba ae) (0+ai.toNat) (U ((U ((U (dC*(1000000000:Int)))+an)).tdiv ak)))))))
  (fun h1 =>
  .ret (bz [.J (o 2 []),.ah false,.a4 [0] [.pure] (bB [6,7])] (.e2 h1 (bJ 1 .live a3 ae))))
theorem Mb {aa:(List Int)} {ak:Int} {dC:Int} {ai:Int} {ae:(List Int)} {r} (h:BG aa ak dC ai ae=some r):eh aY 39 0 133 [1,1,1,0,1,0,0] (z3 aa ak) (Ai aa ak) (dC,ai,ae) r:=ej (fun _=>K8) h
def sb (aa:(List Int)) (ak:Int):Option ((List Int)×Int) :=
 if 0≤(len_ I aa)∧(8:Int)*(len_ I aa)≤281474976710656∧(len_ I aa)<9223372036854775808 then
 BG aa ak 0 (U ((len_ I aa)-(1:Int))) (List.replicate (len_ I aa).toNat 0:List Int) >>= fun r2 =>
 mh r2.2 >>= fun bb =>
 some (bb,r2.1)
 else none
theorem FY {aa:(List Int)} {ak:Int}:bk (sb aa ak) (fun r=>Con aY 133 [.isl 1 (aa.map I),.n .i64 ak] [] (.cz [.isl 1 (r.1.map I),.n .i64 r.2]) []):=by
 unfold sb
 exact .bn fun h1 =>
  .au fun r2 ag =>
  .au fun bb aE =>
  .ret (aU [.J (o 2 []),.J (o 4 []),.J (o 1 []),.J (o 4 []),.a4 [4] [.dr [ab.mk 1 ((List.replicate (len_ I aa).toNat 0:List Int).map I) .live]] [(0,ii),(1,ii),(6,e6 ((List.replicate (len_ I aa).toNat 0:List Int).length)),(7,ii),(8,ii)],(Ai aa ak r2).fo,.fx 0,.J (o 1 (ad (.call {ac:=[.bo (.bX (.cL (r2.2.map I)))],r:= .isl 1 (bb.map I),b5:=false,b6:=[0]}) (o 3 [])))] (.bh h1.1 (Int.le_refl (len_ I aa)) h1.2.1 h1.2.2 (eb 1 .live (kB I (len_ I aa).toNat 0)) (bJ 1 .live a3 (List.replicate (len_ I aa).toNat 0:List Int)) (kC (len_ I aa).toNat (0:Int)) (Mb ag) (.cp (dv (aD I r2.2) (ba r2.2)) (cq (aD I r2.2) (ba r2.2)) (cn a3 r2.2) (pU bb aE))))
def AB:(Int×(List Int))→S:=fun (bc,ae)=>dy [(0,.n .u64 bc),(3,.aN 0 0 0 ae.length)] [[ab.mk 1 (ae.map I) .live]]
def A2:(List Int)→dB
 | a=>⟨some 0,[(3,.aN 0 0 0 a.length)],[[ab.mk 1 (a.map I) .live]]⟩
def rM (bc:Int) (ae:(List Int)):Option ((Int×(List Int))⊕((List Int))) :=
 if (decide ((0:Int)<bc))=true then
  if (ae++([IntKind.wrap .i64 (bc.tmod (1000000000:Int))]:List Int)).length*8≤140737488355328 then
  some (.inl (IntKind.wrap .u64 (bc.tdiv (1000000000:Int)),ae++([IntKind.wrap .i64 (bc.tmod (1000000000:Int))]:List Int)))
  else none
 else
  some (.inr ae)
def Cc (bc:Int) (ae:(List Int)):Option ((List Int)):=iter (fun w:Int×(List Int)=>rM w.1 w.2) (bc,ae)
theorem Lu {bc:Int} {ae:(List Int)}:bk (rM bc ae) (eg aY 15 0 98 [1,1,0,0,0] (AB (bc,ae)) (AB) (A2)):=by
 unfold rM
 exact .ite (fun h1 =>
  .bn fun h2 =>
  .ret (bz [.J (o 2 []),.ah true,.J (o 5 (ad (.az ((ae++([IntKind.wrap .i64 (bc.tmod (1000000000:Int))]:List Int)).length)) (o 1 []))),.J (o 3 []),.a4 [8] [.dr [ab.mk 1 ((ae++([IntKind.wrap .i64 (bc.tmod (1000000000:Int))]:List Int)).map I) .live]] (bB [0,3])] (.bh h1 (by decide:(1000000000:Int)≠0) (cq (show [[.n .i64 (IntKind.wrap .i64 (bc.tmod (1000000000:Int)))]]=(([IntKind.wrap .i64 (bc.tmod (1000000000:Int))]:List Int)).map I from rfl) (show 1=([IntKind.wrap .i64 (bc.tmod (1000000000:Int))]:List Int).length from rfl)) (ia (aD I ae) (ba ae)) (ib (ba ae) (hy (show [[.n .i64 (IntKind.wrap .i64 (bc.tmod (1000000000:Int)))]]=(([IntKind.wrap .i64 (bc.tmod (1000000000:Int))]:List Int)).map I from rfl) (show 1=([IntKind.wrap .i64 (bc.tmod (1000000000:Int))]:List Int).length from rfl)):(ae++([IntKind.wrap .i64 (bc.tmod (1000000000:Int))]:List Int)).length=ae.length+(([[.n .i64 (IntKind.wrap .i64 (bc.tmod (1000000000:Int)))]].drop 0).take 1).length) h2 (by decide:(1000000000:Int)≠0) (eb 1 .live (gf (aD I ae) (ba ae) (hy (show [[.n .i64 (IntKind.wrap .i64 (bc.tmod (1000000000:Int)))]]=(([IntKind.wrap .i64 (bc.tmod (1000000000:Int))]:List Int)).map I from rfl) (show 1=([IntKind.wrap .i64 (bc.tmod (1000000000:Int))]:List Int).length from rfl)))) (.e1 (bJ 1 .live a3 (ae++([IntKind.wrap .i64 (bc.tmod (1000000000:Int))]:List Int)))))))
  (fun h1 =>
  .ret (bz [.J (o 2 []),.ah false,.a4 [0] [.pure] (bB [3])] (.e2 h1 (bJ 1 .live a3 ae))))
theorem MF {bc:Int} {ae:(List Int)} {r} (h:Cc bc ae=some r):eh aY 15 0 98 [1,1,0,0,0] (AB) (A2) (bc,ae) r:=ej (fun _=>Lu) h
def pV (bc:Int):Option (List Int) :=
 Cc bc ([]:List Int) >>= fun r1 =>
 some r1
theorem Cd {bc:Int}:bk (pV bc) (fun r=>Con aY 98 [.n .u64 bc] [] (.isl 1 (r.map I)) []):=by
 unfold pV
 exact .au fun r1 h2 =>
  .ret (aU [.J (o 1 []),.J (o 1 []),.tj 3 1,.a4 [2] [.dr [ab.mk 1 (([]:List Int).map I) .live]] [(0,ii),(3,e6 (([]:List Int).length))],(A2 r1).fo,.J (o 2 [])] (.dP (eb 1 .live (show ([]:List (List ax))=([]:List Int).map I from rfl)) (bJ 1 .live a3 ([]:List Int)) (show 0=([]:List Int).length from rfl) (MF h2) (dv (aD I r1) (ba r1)) (cq (aD I r1) (ba r1)) (cn a3 r1)) (.bo (.bX (.cL (r1.map I)))))
def A3 (ae:(List Int)):Nat→S:=fun fD=>dy [(0,.aN 0 0 0 fD)] [[ab.mk 1 (ae.map I) .live]]
def Bo (ae:(List Int)):Nat→dB
 | a=>⟨some 0,[(0,.aN 0 0 0 a)],[[ab.mk 1 (ae.map I) .live]]⟩
def rR (ae:(List Int)) (fD:Nat):Option ((Nat)⊕(Nat)) :=
 if (decide ((0:Int)<((fD:Nat):Int)))=true then
  if 0≤(U (((fD:Nat):Int)-(1:Int)))∧(U (((fD:Nat):Int)-(1:Int)))<(fD:Nat) then
  ae[(0+(U (((fD:Nat):Int)-(1:Int))).toNat)]? >>= fun an =>
  if (an == (0:Int))=true then
   if 0≤(U (((fD:Nat):Int)-(1:Int))) then
   if 0≤(U (((fD:Nat):Int)-(1:Int))).toNat∧(U (((fD:Nat):Int)-(1:Int))).toNat≤fD then
   some (.inl ((U (((fD:Nat):Int)-(1:Int))).toNat-0))
   else none
   else none
  else
   some (.inr fD)
  else none
 else
  some (.inr fD)
def Cs (ae:(List Int)) (fD:Nat):Option (Nat):=iter (fun w:Nat=>rR ae w) fD
theorem LO {ae:(List Int)} {fD:Nat}:bk (rR ae fD) (eg aY 21 1 127 [1,0,0,0] (A3 ae fD) (A3 ae) (Bo ae)):=by
 unfold rR
 exact .ite (fun h1 =>
  .bn fun h2 =>
  .au fun an ap =>
  (let t1:List bE:=[.J (o 9 (ad (.b8 (I an)) (o 1 (ad (.ah true) []))))];
  have aO:=((.bh h1 h1 h1 h1 h1 h2.1 h2.2 h1 (.bp (cB I ap) h1 h1)):cd _);
  .ite (fun aE =>
  .bn fun aQ =>
  .bn fun bd =>
  .ret (bz (t1.append [.ah true,.J (o 6 []),.a4 [0] [.pure] (bB [0])]) (aO.az (.cM aE aQ bd.1 bd.2 (bJ 1 .live a3 ae)))))
  (fun aE =>
  .ret (bz (t1.append [.ah false,.a4 [0] [.pure] (bB [0])]) (aO.az (.e2 aE (bJ 1 .live a3 ae)))))))
  (fun h1 =>
  .ret (bz [.J (o 4 (ch 7 (ad (.ah false) []))),.ah false,.a4 [0] [.pure] (bB [0])] (.bh h1 h1 h1 h1 h1 h1 h1 h1 (.e2 fP (bJ 1 .live a3 ae)))))
theorem MV {ae:(List Int)} {fD:Nat} {r} (h:Cs ae fD=some r):eh aY 21 1 127 [1,0,0,0] (A3 ae) (Bo ae) fD r:=ej (fun _=>LO) h
def uY (cE:(List Int)):Option Nat :=
 Cs cE cE.length >>= fun r1 =>
 some r1
theorem NV {cE:(List Int)}:bk (uY cE) (fun a=>Con aY 127 [.aN 0 0 0 cE.length] [[ab.mk 1 (cE.map I) .live]] (.aN 0 0 0 a) [[ab.mk 1 (cE.map I) .live]]):=by
 unfold uY
 exact .au fun r1 h2 =>
  .ret (fL [.J (o 1 []),.a4 [0] [.pure] (bB [0]),(Bo cE r1).fo,.J (o 2 [])] [0] [.pure] (.bp (bJ 1 .live a3 cE) (MV h2) (bJ 1 .live a3 cE)))
def AD (ak:(List Int)) (ai:Int) (bc:Int) (cI:(List Int)) (cO:Int) (fw:Int):(Int×Int×(List Int))→S:=fun (bx,dD,ae)=>dy [(1,.isl 1 (ak.map I)),(5,.aN 0 0 0 ae.length),(6,.n .i64 ai),(7,.n .i64 bc),(8,.n .i64 bx),(26,.isl 1 (cI.map I)),(27,.n .i64 cO),(28,.n .i64 ai),(33,.isl 1 (ak.map I)),(34,.n .i64 fw),(35,.n .i64 dD)] [[ab.mk 1 (ae.map I) .live]]
def A4 (ak:(List Int)) (ai:Int) (bc:Int) (cI:(List Int)) (cO:Int) (fw:Int):(Int×(List Int))→dB
 | a=>⟨some 2,[(1,.isl 1 (ak.map I)),(5,.aN 0 0 0 a.2.length),(6,.n .i64 ai),(8,.n .i64 a.1),(26,.isl 1 (cI.map I)),(27,.n .i64 cO),(28,.n .i64 ai)],[[ab.mk 1 (a.2.map I) .live]]⟩
def AE (ak:(List Int)) (ai:Int) (bc:Int) (cI:(List Int)) (cO:Int) (fw:Int) (bx:Int) (dD:Int) (ae:(List Int)):Option ((Int×Int×(List Int))⊕(Int×(List Int))) :=
 if (decide (dD<fw))=true then
  if 0≤dD∧dD<ak.length then
  ak[dD.toNat]? >>= fun an =>
  if 0≤(U (ai+dD))∧(U (ai+dD))<(ae.length:Nat) then
  ae[(0+(U (ai+dD)).toNat)]? >>= fun bW =>
  if (0+(U (ai+dD)).toNat)<ae.length then
  some (.inl (U ((U ((U (bW+(U (bc*an))))+bx)).tdiv (1000000000:Int)),U (dD+(1:Int)),ae.set (0+(U (ai+dD)).toNat) ((U ((U (bW+(U (bc*an))))+bx)).tmod (1000000000:Int))))
  else none
  else none
  else none
 else
  some (.inr (bx,ae))
def Gd (ak:(List Int)) (ai:Int) (bc:Int) (cI:(List Int)) (cO:Int) (fw:Int) (bx:Int) (dD:Int) (ae:(List Int)):Option (Int×(List Int)):=iter (fun w:Int×Int×(List Int)=>AE ak ai bc cI cO fw w.1 w.2.1 w.2.2) (bx,dD,ae)
theorem Lv {ak:(List Int)} {ai:Int} {bc:Int} {cI:(List Int)} {cO:Int} {fw:Int} {bx:Int} {dD:Int} {ae:(List Int)}:bk (AE ak ai bc cI cO fw bx dD ae) (eg aY 72 0 103 [1,1,1,0,1,0,0,1,1,0,0,1,1,0,1,0,0] (AD ak ai bc cI cO fw (bx,dD,ae)) (AD ak ai bc cI cO fw) (A4 ak ai bc cI cO fw)):=by
 unfold AE
 exact .ite (fun h1 =>
  .bn fun h2 =>
  .au fun an ap =>
  .bn fun aE =>
  .au fun bW bd =>
  .bn fun bL =>
  .ret (bz [.J (o 1 []),.ah true,.J (o 2 (ad (.b8 (I an)) (o 2 []))),.J (o 5 (ad (.b8 (I bW)) (o 7 []))),.J (o 9 (ad .cY (o 1 []))),.J (o 2 []),.a4 [0] [.dr [ab.mk 1 ((ae.set (0+(U (ai+dD)).toNat) ((U ((U (bW+(U (bc*an))))+bx)).tmod (1000000000:Int))).map I) .live]] [(1,ii),(5,e6 ((ae.set (0+(U (ai+dD)).toNat) ((U ((U (bW+(U (bc*an))))+bx)).tmod (1000000000:Int))).length)),(6,ii),(7,ii),(8,ii),(26,ii),(27,ii),(28,ii),(33,ii),(34,ii),(35,ii)]] (.bh h1 h2.1 (dd I h2.2) (cB I ap) aE.1 aE.2 (cB I bd) (by decide:(1000000000:Int)≠0) (.gz (by decide:(1000000000:Int)≠0) aE.1 aE.2 (g7 I bL) (gT 1) (eb 1 .live (fZ (aD I ae) (0+(U (ai+dD)).toNat) ((U ((U (bW+(U (bc*an))))+bx)).tmod (1000000000:Int)))) (bJ 1 .live a3 (ae.set (0+(U (ai+dD)).toNat) ((U ((U (bW+(U (bc*an))))+bx)).tmod (1000000000:Int)))) (fQ (ba ae) (0+(U (ai+dD)).toNat) ((U ((U (bW+(U (bc*an))))+bx)).tmod (1000000000:Int)))))))
  (fun h1 =>
  .ret (bz [.J (o 1 []),.ah false,.a4 [0] [.pure] (bB [1,5,6,8,26,27,28])] (.e2 h1 (bJ 1 .live a3 ae))))
theorem MG {ak:(List Int)} {ai:Int} {bc:Int} {cI:(List Int)} {cO:Int} {fw:Int} {bx:Int} {dD:Int} {ae:(List Int)} {r} (h:Gd ak ai bc cI cO fw bx dD ae=some r):eh aY 72 0 103 [1,1,1,0,1,0,0,1,1,0,0,1,1,0,1,0,0] (AD ak ai bc cI cO fw) (A4 ak ai bc cI cO fw) (bx,dD,ae) r:=ej (fun _=>Lv) h
def AF (ak:(List Int)) (cI:(List Int)) (cO:Int):(Int×(List Int))→S:=fun (dx,ae)=>dy [(1,.isl 1 (ak.map I)),(5,.aN 0 0 0 ae.length),(26,.isl 1 (cI.map I)),(27,.n .i64 cO),(28,.n .i64 dx)] [[ab.mk 1 (ae.map I) .live]]
def A5 (ak:(List Int)) (cI:(List Int)) (cO:Int):(List Int)→dB
 | a=>⟨some 0,[(5,.aN 0 0 0 a.length)],[[ab.mk 1 (a.map I) .live]]⟩
def AG (ak:(List Int)) (cI:(List Int)) (cO:Int) (dx:Int) (ae:(List Int)):Option ((Int×(List Int))⊕((List Int))) :=
 if (decide (dx<cO))=true then
  if 0≤dx∧dx<cI.length then
  cI[dx.toNat]? >>= fun an =>
  Gd ak dx an cI cO (len_ I ak) 0 0 ae >>= fun aV =>
  if 0≤(U (dx+(len_ I ak)))∧(U (dx+(len_ I ak)))<(aV.2.length:Nat) then
  if (0+(U (dx+(len_ I ak))).toNat)<aV.2.length then
  some (.inl (U (dx+(1:Int)),aV.2.set (0+(U (dx+(len_ I ak))).toNat) aV.1))
  else none
  else none
  else none
 else
  some (.inr ae)
def Ce (ak:(List Int)) (cI:(List Int)) (cO:Int) (dx:Int) (ae:(List Int)):Option ((List Int)):=iter (fun w:Int×(List Int)=>AG ak cI cO w.1 w.2) (dx,ae)
theorem Lw {ak:(List Int)} {cI:(List Int)} {cO:Int} {dx:Int} {ae:(List Int)}:bk (AG ak cI cO dx ae) (eg aY 72 0 103 [1,1,1,0,1,0,0] (AF ak cI cO (dx,ae)) (AF ak cI cO) (A5 ak cI cO)):=by
 unfold AG
 exact .ite (fun h1 =>
  .bn fun h2 =>
  .au fun an ap =>
  .au fun aV aQ =>
  .bn fun bd =>
  .bn fun bL =>
  .ret (bz [.J (o 1 []),.ah true,.J (o 2 (ad (.b8 (I an)) (o 2 []))),.J (o 1 []),.J (o 3 []),.a4 [0] [.pure] (bB [1,5,6,7,8,26,27,28,33,34,35]),(A4 ak dx an cI cO (len_ I ak) aV).fo,.J (o 7 (ad .cY [])),.J (o 2 []),.a4 [0] [.dr [ab.mk 1 ((aV.2.set (0+(U (dx+(len_ I ak))).toNat) aV.1).map I) .live]] [(1,ii),(5,e6 ((aV.2.set (0+(U (dx+(len_ I ak))).toNat) aV.1).length)),(26,ii),(27,ii),(28,ii)]] (.bh h1 h2.1 (dd I h2.2) (cB I ap) (bJ 1 .live a3 ae) (MG aQ) bd.1 bd.2 (.cM (g7 I bL) (gT 1) (eb 1 .live (fZ (aD I aV.2) (0+(U (dx+(len_ I ak))).toNat) aV.1)) (bJ 1 .live a3 (aV.2.set (0+(U (dx+(len_ I ak))).toNat) aV.1)) (fQ (ba aV.2) (0+(U (dx+(len_ I ak))).toNat) aV.1)))))
  (fun h1 =>
  .ret (bz [.J (o 1 []),.ah false,.a4 [0] [.pure] (bB [5])] (.e2 h1 (bJ 1 .live a3 ae))))
theorem MH {ak:(List Int)} {cI:(List Int)} {cO:Int} {dx:Int} {ae:(List Int)} {r} (h:Ce ak cI cO dx ae=some r):eh aY 72 0 103 [1,1,1,0,1,0,0] (AF ak cI cO) (A5 ak cI cO) (dx,ae) r:=ej (fun _=>Lw) h
def so (aa:(List Int)) (ak:(List Int)):Option (Nat×(List Int)) :=
 if ((len_ I aa) == (0:Int))=true then
  none
 else
  if ((len_ I ak) == (0:Int))=true then
   none
  else
   if 0≤(U ((len_ I aa)+(len_ I ak)))∧(8:Int)*(U ((len_ I aa)+(len_ I ak)))≤281474976710656∧(U ((len_ I aa)+(len_ I ak)))<9223372036854775808 then
   Ce ak aa (len_ I aa) 0 (List.replicate (U ((len_ I aa)+(len_ I ak))).toNat 0:List Int) >>= fun bb =>
   uY bb >>= fun dk =>
   some (dk,bb)
   else none
theorem Ge {aa:(List Int)} {ak:(List Int)}:bk (so aa ak) (fun a=>Con aY 103 [.isl 1 (aa.map I),.isl 1 (ak.map I)] [] (.aN 0 0 0 a.1) [[ab.mk 1 (a.2.map I) .live]]):=by
 unfold so
 exact .ite (fun h1 =>
  .EC)
  (fun h1 =>
  .ite (fun h2 =>
  .EC)
  (fun h2 =>
  .bn fun ag =>
  .au fun bb aE =>
  .au fun dk bd =>
  .ret (fL [.J (o 1 []),.J (o 7 (ad (.ah false) [])),.ah false,.J (o 7 []),.J (o 3 []),.a4 [14] [.dr [ab.mk 1 ((List.replicate (U ((len_ I aa)+(len_ I ak))).toNat 0:List Int).map I) .live]] [(1,ii),(5,e6 ((List.replicate (U ((len_ I aa)+(len_ I ak))).toNat 0:List Int).length)),(26,ii),(27,ii),(28,ii)],(A5 ak aa (len_ I aa) bb).fo,.J (o 1 (ad (.call {aB:=[.row 0],bN:=[.pure],ac:=[ii],r:= .aN 0 0 0 dk,cg:=[[ab.mk 1 (bb.map I) .live]],cC:=ii,cQ:=[.pure],b6:=[0],b5:=false}) (o 1 [])))] [0] [.pure] (.bh h1 h1 h1 h1 h2 ag.1 (Int.le_refl (U ((len_ I aa)+(len_ I ak)))) ag.2.1 (.bh ag.2.2 (eb 1 .live (kB I (U ((len_ I aa)+(len_ I ak))).toNat 0)) (bJ 1 .live a3 (List.replicate (U ((len_ I aa)+(len_ I ak))).toNat 0:List Int)) (kC (U ((len_ I aa)+(len_ I ak))).toNat (0:Int)) (MH aE) (ec 1 a3 bb) (ec 1 a3 bb) (NV dk bd) (.e1 (bJ 1 .live a3 bb)))))))
def A6 (dJ:Nat) (c9:Nat) (cU:(List Int)) (f8:Int) (dl:Int):(Int×Int×(List Int))→S:=fun (bx,fG,ae)=>dy [(0,.aN 0 0 dJ c9),(1,.isl 1 (cU.map I)),(2,.n .i64 f8),(7,.n .i64 bx),(11,.isl 1 (cU.map I)),(12,.n .i64 dl),(13,.n .i64 fG)] [[ab.mk 1 (ae.map I) .live]]
def Bp (dJ:Nat) (c9:Nat) (cU:(List Int)) (f8:Int) (dl:Int):(Int×(List Int))→dB
 | a=>⟨some 0,[(0,.aN 0 0 dJ c9),(1,.isl 1 (cU.map I)),(7,.n .i64 a.1)],[[ab.mk 1 (a.2.map I) .live]]⟩
def pF (dJ:Nat) (c9:Nat) (cU:(List Int)) (f8:Int) (dl:Int) (bx:Int) (fG:Int) (ae:(List Int)):Option ((Int×Int×(List Int))⊕(Int×(List Int))) :=
 if (decide (fG<dl))=true then
  if 0≤fG∧fG<cU.length then
  cU[fG.toNat]? >>= fun an =>
  if 0≤fG∧fG<(c9:Nat) then
  ae[(dJ+fG.toNat)]? >>= fun bW =>
  if (decide ((U ((U (bW-(U (f8*an))))-bx))<(0:Int)))=true then
   if (dJ+fG.toNat)<ae.length then
   some (.inl (U ((U ((999999999:Int)-(U ((U (bW-(U (f8*an))))-bx)))).tdiv (1000000000:Int)),U (fG+(1:Int)),ae.set (dJ+fG.toNat) (U ((U ((U (bW-(U (f8*an))))-bx))+(U ((U ((U ((999999999:Int)-(U ((U (bW-(U (f8*an))))-bx)))).tdiv (1000000000:Int)))*(1000000000:Int)))))))
   else none
  else
   if (dJ+fG.toNat)<ae.length then
   some (.inl (0,U (fG+(1:Int)),ae.set (dJ+fG.toNat) (U ((U (bW-(U (f8*an))))-bx))))
   else none
  else none
  else none
 else
  some (.inr (bx,ae))
def Ct (dJ:Nat) (c9:Nat) (cU:(List Int)) (f8:Int) (dl:Int) (bx:Int) (fG:Int) (ae:(List Int)):Option (Int×(List Int)):=iter (fun w:Int×Int×(List Int)=>pF dJ c9 cU f8 dl w.1 w.2.1 w.2.2) (bx,fG,ae)
theorem LP {dJ:Nat} {c9:Nat} {cU:(List Int)} {f8:Int} {dl:Int} {bx:Int} {fG:Int} {ae:(List Int)}:bk (pF dJ c9 cU f8 dl bx fG ae) (eg aY 56 1 134 [1,1,0,1,0,0] (A6 dJ c9 cU f8 dl (bx,fG,ae)) (A6 dJ c9 cU f8 dl) (Bp dJ c9 cU f8 dl)):=by
 unfold pF
 exact .ite (fun h1 =>
  .bn fun h2 =>
  .au fun an ap =>
  .bn fun aE =>
  .au fun bW bd =>
  (let t1:List bE:=[.J (o 1 []),.ah true,.J (o 2 (ad (.b8 (I an)) (o 2 []))),.J (o 3 (ad (.b8 (I bW)) (o 7 []))),.J (o 1 []),.J (o 2 [])];
  have aO:=((.dP h1 h2.1 (dd I h2.2) (cB I ap) aE.1 aE.2 (cB I bd)):cd _);
  .ite (fun bL =>
  .bn fun c3 =>
  .ret (bz (t1.append [.ah true,.J (o 4 []),.J (o 5 []),.J (o 4 (ad .cY [])),.J (o 2 []),.a4 [0] [.dr [ab.mk 1 ((ae.set (dJ+fG.toNat) (U ((U ((U (bW-(U (f8*an))))-bx))+(U ((U ((U ((999999999:Int)-(U ((U (bW-(U (f8*an))))-bx)))).tdiv (1000000000:Int)))*(1000000000:Int)))))).map I) .live]] (bB [0,1,2,7,11,12,13])]) (aO.az (.gz bL (by decide:(1000000000:Int)≠0) aE.1 aE.2 (g7 I c3) (gT 1) (eb 1 .live (fZ (aD I ae) (dJ+fG.toNat) (U ((U ((U (bW-(U (f8*an))))-bx))+(U ((U ((U ((999999999:Int)-(U ((U (bW-(U (f8*an))))-bx)))).tdiv (1000000000:Int)))*(1000000000:Int))))))) (bJ 1 .live a3 (ae.set (dJ+fG.toNat) (U ((U ((U (bW-(U (f8*an))))-bx))+(U ((U ((U ((999999999:Int)-(U ((U (bW-(U (f8*an))))-bx)))).tdiv (1000000000:Int)))*(1000000000:Int)))))))))))
  (fun bL =>
  .bn fun c3 =>
  .ret (bz (t1.append [.ah false,.J (o 4 (ad .cY [])),.J (o 2 []),.a4 [0] [.dr [ab.mk 1 ((ae.set (dJ+fG.toNat) (U ((U (bW-(U (f8*an))))-bx))).map I) .live]] (bB [0,1,2,7,11,12,13])]) (aO.az (.dP bL aE.1 aE.2 (g7 I c3) (gT 1) (eb 1 .live (fZ (aD I ae) (dJ+fG.toNat) (U ((U (bW-(U (f8*an))))-bx)))) (bJ 1 .live a3 (ae.set (dJ+fG.toNat) (U ((U (bW-(U (f8*an))))-bx))))))))))
  (fun h1 =>
  .ret (bz [.J (o 1 []),.ah false,.a4 [0] [.pure] (bB [0,1,7])] (.e2 h1 (bJ 1 .live a3 ae))))
theorem MW {dJ:Nat} {c9:Nat} {cU:(List Int)} {f8:Int} {dl:Int} {bx:Int} {fG:Int} {ae:(List Int)} {r} (h:Ct dJ c9 cU f8 dl bx fG ae=some r):eh aY 56 1 134 [1,1,0,1,0,0] (A6 dJ c9 cU f8 dl) (Bp dJ c9 cU f8 dl) (bx,fG,ae) r:=ej (fun _=>LP) h
def uZ (cU:(List Int)) (f8:Int) (dJ:Nat) (c9:Nat) (cE:(List Int)):Option (Bool×(List Int)) :=
 Ct dJ c9 cU f8 (len_ I cU) 0 0 cE >>= fun r1 =>
 if 0≤(len_ I cU)∧(len_ I cU)<(c9:Nat) then
 r1.2[(dJ+(len_ I cU).toNat)]? >>= fun eo =>
 if (dJ+(len_ I cU).toNat)<r1.2.length then
 (r1.2.set (dJ+(len_ I cU).toNat) (U (eo-r1.1)))[(dJ+(len_ I cU).toNat)]? >>= fun bU =>
 some ((decide (bU<(0:Int))),r1.2.set (dJ+(len_ I cU).toNat) (U (eo-r1.1)))
 else none
 else none
theorem NW {cU:(List Int)} {f8:Int} {dJ:Nat} {c9:Nat} {cE:(List Int)}:bk (uZ cU f8 dJ c9 cE) (fun a=>Con aY 134 [.aN 0 0 dJ c9,.isl 1 (cU.map I),.n .i64 f8] [[ab.mk 1 (cE.map I) .live]] (.b a.1) [[ab.mk 1 (a.2.map I) .live]]):=by
 unfold uZ
 exact .au fun r1 h2 =>
  .bn fun ag =>
  .au fun eo aE =>
  .bn fun aQ =>
  .au fun bU bL =>
  .ret (fL [.J (o 1 []),.J (o 1 []),.J (o 3 []),.a4 [0] [.pure] (bB [0,1,2,7,11,12,13]),(Bp dJ c9 cU f8 (len_ I cU) r1).fo,.J (o 4 (ad (.b8 (I eo)) (o 3 (ad .cY [])))),.J (o 4 (ad (.b8 (I bU)) (o 2 [])))] [0] [.dr [ab.mk 1 ((r1.2.set (dJ+(len_ I cU).toNat) (U (eo-r1.1))).map I) .live]] (.bh (bJ 1 .live a3 cE) (MW h2) ag.1 ag.2 (cB I aE) ag.1 ag.2 (g7 I aQ) (.d5 (gT 1) ag.1 ag.2 (jA (fZ (aD I r1.2) (dJ+(len_ I cU).toNat) (U (eo-r1.1))) bL) (eb 1 .live (fZ (aD I r1.2) (dJ+(len_ I cU).toNat) (U (eo-r1.1)))) (bJ 1 .live a3 (r1.2.set (dJ+(len_ I cU).toNat) (U (eo-r1.1)))))))
def A7 (dJ:Nat) (c9:Nat) (cU:(List Int)) (du:Int):(Int×Int×(List Int))→S:=fun (bx,cr,ae)=>dy [(0,.aN 0 0 dJ c9),(1,.isl 1 (cU.map I)),(4,.n .i64 bx),(8,.isl 1 (cU.map I)),(9,.n .i64 du),(10,.n .i64 cr)] [[ab.mk 1 (ae.map I) .live]]
def Bq (dJ:Nat) (c9:Nat) (cU:(List Int)) (du:Int):(Int×(List Int))→dB
 | a=>⟨some 0,[(0,.aN 0 0 dJ c9),(1,.isl 1 (cU.map I)),(4,.n .i64 a.1)],[[ab.mk 1 (a.2.map I) .live]]⟩
def rS (dJ:Nat) (c9:Nat) (cU:(List Int)) (du:Int) (bx:Int) (cr:Int) (ae:(List Int)):Option ((Int×Int×(List Int))⊕(Int×(List Int))) :=
 if (decide (cr<du))=true then
  if 0≤cr∧cr<cU.length then
  cU[cr.toNat]? >>= fun an =>
  if 0≤cr∧cr<(c9:Nat) then
  ae[(dJ+cr.toNat)]? >>= fun bW =>
  if (dJ+cr.toNat)<ae.length then
  some (.inl (U ((U ((U (bW+an))+bx)).tdiv (1000000000:Int)),U (cr+(1:Int)),ae.set (dJ+cr.toNat) ((U ((U (bW+an))+bx)).tmod (1000000000:Int))))
  else none
  else none
  else none
 else
  some (.inr (bx,ae))
def Cu (dJ:Nat) (c9:Nat) (cU:(List Int)) (du:Int) (bx:Int) (cr:Int) (ae:(List Int)):Option (Int×(List Int)):=iter (fun w:Int×Int×(List Int)=>rS dJ c9 cU du w.1 w.2.1 w.2.2) (bx,cr,ae)
theorem LQ {dJ:Nat} {c9:Nat} {cU:(List Int)} {du:Int} {bx:Int} {cr:Int} {ae:(List Int)}:bk (rS dJ c9 cU du bx cr ae) (eg aY 39 1 135 [1,0,1,0,0] (A7 dJ c9 cU du (bx,cr,ae)) (A7 dJ c9 cU du) (Bq dJ c9 cU du)):=by
 unfold rS
 exact .ite (fun h1 =>
  .bn fun h2 =>
  .au fun an ap =>
  .bn fun aE =>
  .au fun bW bd =>
  .bn fun bL =>
  .ret (bz [.J (o 1 []),.ah true,.J (o 2 (ad (.b8 (I an)) (o 2 []))),.J (o 3 (ad (.b8 (I bW)) (o 5 []))),.J (o 7 (ad .cY (o 1 []))),.J (o 2 []),.a4 [0] [.dr [ab.mk 1 ((ae.set (dJ+cr.toNat) ((U ((U (bW+an))+bx)).tmod (1000000000:Int))).map I) .live]] (bB [0,1,4,8,9,10])] (.bh h1 h2.1 (dd I h2.2) (cB I ap) aE.1 aE.2 (cB I bd) (by decide:(1000000000:Int)≠0) (.dP (by decide:(1000000000:Int)≠0) aE.1 aE.2 (g7 I bL) (gT 1) (eb 1 .live (fZ (aD I ae) (dJ+cr.toNat) ((U ((U (bW+an))+bx)).tmod (1000000000:Int)))) (bJ 1 .live a3 (ae.set (dJ+cr.toNat) ((U ((U (bW+an))+bx)).tmod (1000000000:Int))))))))
  (fun h1 =>
  .ret (bz [.J (o 1 []),.ah false,.a4 [0] [.pure] (bB [0,1,4])] (.e2 h1 (bJ 1 .live a3 ae))))
theorem MX {dJ:Nat} {c9:Nat} {cU:(List Int)} {du:Int} {bx:Int} {cr:Int} {ae:(List Int)} {r} (h:Cu dJ c9 cU du bx cr ae=some r):eh aY 39 1 135 [1,0,1,0,0] (A7 dJ c9 cU du) (Bq dJ c9 cU du) (bx,cr,ae) r:=ej (fun _=>LQ) h
def sD (cU:(List Int)) (dJ:Nat) (c9:Nat) (cE:(List Int)):Option (List Int) :=
 Cu dJ c9 cU (len_ I cU) 0 0 cE >>= fun r1 =>
 if 0≤(len_ I cU)∧(len_ I cU)<(c9:Nat) then
 r1.2[(dJ+(len_ I cU).toNat)]? >>= fun eo =>
 if (dJ+(len_ I cU).toNat)<r1.2.length then
 some (r1.2.set (dJ+(len_ I cU).toNat) (U (eo+r1.1)))
 else none
 else none
theorem NX {cU:(List Int)} {dJ:Nat} {c9:Nat} {cE:(List Int)}:bk (sD cU dJ c9 cE) (fun a=>Con aY 135 [.aN 0 0 dJ c9,.isl 1 (cU.map I)] [[ab.mk 1 (cE.map I) .live]] (.cz []) [[ab.mk 1 (a.map I) .live]]):=by
 unfold sD
 exact .au fun r1 h2 =>
  .bn fun ag =>
  .au fun eo aE =>
  .bn fun aQ =>
  .ret (fL [.J (o 1 []),.J (o 3 []),.a4 [0] [.pure] (bB [0,1,4,8,9,10]),(Bq dJ c9 cU (len_ I cU) r1).fo,.J (o 4 (ad (.b8 (I eo)) (o 3 (ad .cY []))))] [0] [.dr [ab.mk 1 ((r1.2.set (dJ+(len_ I cU).toNat) (U (eo+r1.1))).map I) .live]] (.bh (bJ 1 .live a3 cE) (MX h2) ag.1 ag.2 (cB I aE) ag.1 ag.2 (g7 I aQ) (.bp (gT 1) (eb 1 .live (fZ (aD I r1.2) (dJ+(len_ I cU).toNat) (U (eo+r1.1)))) (bJ 1 .live a3 (r1.2.set (dJ+(len_ I cU).toNat) (U (eo+r1.1)))))))
end Go.Proofs.YtmmbmjbpfklkcaaGreat
