/- Lemmas, plain functions of the program, and what they answer. No condition. -/
import Derived.Test.YtmmbmjbpfklkcabGreatMB
namespace Go.Proofs.YtmmbmjbpfklkcabGreat
set_option linter.unusedVariables false
set_option linter.unusedSimpArgs false
open Go Go.VL
def sd (aa:aB) (dx:Int):Option Int :=
 if (decide ((ab (dx-(aa.cu.size:Int)))<(0:Int)))=true then
  some (-1)
 else
  some (ab (dx-(aa.cu.size:Int)))
theorem JX {aa:aB} {dx:Int}:bm (sd aa dx) (fun r=>Con a2 37 [.agg [.s aa.cu,.n .i64 aa.c5,.n .i64 aa.cJ,.b aa.cf],.n .i64 dx] [] (.n .i64 r) []):=by
 unfold sd
 exact (let t1:List bx:=[.J (o 2 []),.J (o 6 []),.J (o 2 [])];
  .ite (fun h1 =>
  .ret (a8 (t1.append [.af true,.J (o 1 [])]) (.e1 h1)))
  (fun h1 =>
  .ret (a8 (t1.append [.af false,.J (o 2 [])]) (.e1 h1))))
def x5 (aa:(List aB)):(Int×Int)→S:=fun (dx,ah)=>c6 [(0,.isl 4 (aa.map au)),(1,.n .i64 dx),(5,.n .i64 ah)] []
def yk (aa:(List aB)):((Int)⊕(Unit))→dc
 | .inl a=>⟨some 0,[(1,.n .i64 a)],[]⟩
 | .inr a=>⟨none,[(4,.n .i64 (-1:Int))],[]⟩
def nW (aa:(List aB)) (dx:Int) (ah:Int):Option ((Int×Int)⊕((Int)⊕(Unit))) :=
 if (decide (ah<(len_ au aa)))=true then
  if 0≤ah∧ah<aa.length then
  aa[ah.toNat]? >>= fun al =>
  sd al dx >>= fun aZ =>
  if (decide (aZ<(0:Int)))=true then
   some (.inr (.inr ()))
  else
   some (.inl (aZ,ab (ah+(1:Int))))
  else none
 else
  some (.inr (.inl dx))
def zu (aa:(List aB)) (dx:Int) (ah:Int):Option ((Int)⊕(Unit)):=iter (fun w:Int×Int=>nW aa w.1 w.2) (dx,ah)
theorem HQ {aa:(List aB)} {dx:Int} {ah:Int}:bm (nW aa dx ah) (dI a2 27 0 15 [1,1,1,0,1,0,0] (x5 aa (dx,ah)) (x5 aa) (yk aa)):=by
 unfold nW
 exact .ite (fun h1 =>
  .bu fun R =>
  .aJ fun al ax =>
  .aJ fun aZ ba =>
  (let t1:List bx:=[.J (o 4 []),.af true,.J (o 3 (aj (.bQ (au al)) (o 1 (aj (bM 2 (.n .i64 aZ) true) (o 1 []))))),.J (o 2 [])];
  have aO:=((.ez h1 R.1 (c9 au R.2) (cm au ax) (JX aZ ba) (a1.n .i64 aZ)):b2 _);
  .ite (fun a5 =>
  .ret (bi (t1.append [.af true,.J (o 1 []),.a0 [] [] (bf [4])]) (aO.aC (.e1 a5))))
  (fun a5 =>
  .ret (bi (t1.append [.af false,.J (o 3 []),.a0 [] [] (bf [0,1,5])]) (aO.aC (.e1 a5))))))
  (fun h1 =>
  .ret (bi [.J (o 4 []),.af false,.a0 [] [] (bf [1])] (.e1 h1)))
theorem CV {aa:(List aB)} {dx:Int} {ah:Int} {r} (h:zu aa dx ah=some r):dJ a2 27 0 15 [1,1,1,0,1,0,0] (x5 aa) (yk aa) (dx,ah) r:=dK (fun _=>HQ) h
def r2 (aa:(List aB)) (dx:Int):Option Int :=
 if (decide ((ab (dx-(len_ au aa)))<(0:Int)))=true then
  some (-1)
 else
  zu aa (ab (dx-(len_ au aa))) 0 >>= fun bj =>
  match bj with
  | .inl ei=>(some ei)
  | .inr ei=>(some (-1))
theorem JE {aa:(List aB)} {dx:Int}:bm (r2 aa dx) (fun r=>Con a2 15 [.isl 4 (aa.map au),.n .i64 dx] [] (.n .i64 r) []):=by
 unfold r2
 exact (let t1:List bx:=[.J (o 1 []),.J (o 5 []),.J (o 2 [])];
  .ite (fun h1 =>
  .ret (a8 (t1.append [.af true,.J (o 1 [])]) (.e1 h1)))
  (fun h1 =>
  .aJ fun bj ai =>
  (let t2:List bx:=t1.append [.af false,.J (o 1 []),.a0 [] [] (bf [0,1,5])];
  (by
  rcases bj with ei|ei
  ·exact (.ret (a8 (t2.append [.sub (.exit 0) [(1,.n .i64 ei)] [],.J (o 2 [])]) (.az h1 (CV ai))))
  ·exact (.ret (a8 (t2.append [(yk aa (.inr ei)).eU]) (.az h1 (CV ai))))))))
def rW (aa:(List aN)) (dx:Int):Option Int :=
 if (decide ((ab (dx-(len_ ay aa)))<(0:Int)))=true then
  some (-1)
 else
  some (ab (dx-(len_ ay aa)))
theorem Jl {aa:(List aN)} {dx:Int}:bm (rW aa dx) (fun r=>Con a2 16 [.isl 3 (aa.map ay),.n .i64 dx] [] (.n .i64 r) []):=by
 unfold rW
 exact (let t1:List bx:=[.J (o 1 []),.J (o 5 []),.J (o 2 [])];
  .ite (fun h1 =>
  .ret (a8 (t1.append [.af true,.J (o 1 [])]) (.e1 h1)))
  (fun h1 =>
  .ret (a8 (t1.append [.af false,.J (o 2 [])]) (.e1 h1))))
def oa (aa:cX) (dx:Int):Option Int :=
 r2 aa.bs dx >>= fun r1 =>
 if (decide (r1<(0:Int)))=true then
  some (-1)
 else
  rW aa.bZ r1 >>= fun bg =>
  if (decide (bg<(0:Int)))=true then
   some (-1)
  else
   some bg
theorem IX {aa:cX} {dx:Int}:bm (oa aa dx) (fun r=>Con a2 4 [.agg [.isl 4 (aa.bs.map au),.isl 3 (aa.bZ.map ay)],.n .i64 dx] [] (.n .i64 r) []):=by
 unfold oa
 exact .aJ fun r1 R =>
  (let t1:List bx:=[.J (o 2 []),.J (o 3 (aj (bM 2 (.n .i64 r1) true) (o 1 []))),.J (o 2 [])];
  have aO:=((.az (JE r1 R) (a1.n .i64 r1)):b2 _);
  .ite (fun ai =>
  .ret (a8 (t1.append [.af true,.J (o 1 [])]) (aO.aC (.e1 ai))))
  (fun ai =>
  .aJ fun bg aM =>
  (let t3:List bx:=t1.append [.af false,.J (o 3 (aj (bM 2 (.n .i64 bg) true) (o 1 []))),.J (o 2 [])];
  have c8:=aO.aC (.bp ai (Jl bg aM) (a1.n .i64 bg));
  .ite (fun ba =>
  .ret (a8 (t3.append [.af true,.J (o 1 [])]) (c8.aC (.e1 ba))))
  (fun ba =>
  .ret (a8 (t3.append [.af false,.J (o 2 [])]) (c8.aC (.e1 ba)))))))
def qk (aa:(List Int)) (dx:Int):Option Int :=
 if (decide ((ab (dx-(len_ U aa)))<(0:Int)))=true then
  some (-1)
 else
  some (ab (dx-(len_ U aa)))
theorem DD {aa:(List Int)} {dx:Int}:bm (qk aa dx) (fun r=>Con a2 39 [.isl 1 (aa.map U),.n .i64 dx] [] (.n .i64 r) []):=by
 unfold qk
 exact (let t1:List bx:=[.J (o 1 []),.J (o 5 []),.J (o 2 [])];
  .ite (fun h1 =>
  .ret (a8 (t1.append [.af true,.J (o 1 [])]) (.e1 h1)))
  (fun h1 =>
  .ret (a8 (t1.append [.af false,.J (o 2 [])]) (.e1 h1))))
def vf (aa:hi) (dx:Int):Option Int :=
 qk aa.cn dx >>= fun r1 =>
 if (decide (r1<(0:Int)))=true then
  some (-1)
 else
  some r1
theorem JF {aa:hi} {dx:Int}:bm (vf aa dx) (fun r=>Con a2 38 [.agg [.b aa.fo,.isl 1 (aa.cn.map U)],.n .i64 dx] [] (.n .i64 r) []):=by
 unfold vf
 exact .aJ fun r1 R =>
  (let t1:List bx:=[.J (o 2 []),.J (o 3 (aj (bM 2 (.n .i64 r1) true) (o 1 []))),.J (o 2 [])];
  have aO:=((.az (DD r1 R) (a1.n .i64 r1)):b2 _);
  .ite (fun ai =>
  .ret (a8 (t1.append [.af true,.J (o 1 [])]) (aO.aC (.e1 ai))))
  (fun ai =>
  .ret (a8 (t1.append [.af false,.J (o 2 [])]) (aO.aC (.e1 ai)))))
def sD (aa:cD) (dx:Int):Option Int :=
 vf aa.ch dx >>= fun r1 =>
 if (decide (r1<(0:Int)))=true then
  some (-1)
 else
  qk aa.cv r1 >>= fun bg =>
  if (decide (bg<(0:Int)))=true then
   some (-1)
  else
   some bg
theorem KA {aa:cD} {dx:Int}:bm (sD aa dx) (fun r=>Con a2 17 [.agg [.b aa.ch.fo,.isl 1 (aa.ch.cn.map U),.isl 1 (aa.cv.map U)],.n .i64 dx] [] (.n .i64 r) []):=by
 unfold sD
 exact .aJ fun r1 R =>
  (let t1:List bx:=[.J (o 2 []),.J (o 3 (aj (bM 2 (.n .i64 r1) true) (o 1 []))),.J (o 2 [])];
  have aO:=((.az (JF r1 R) (a1.n .i64 r1)):b2 _);
  .ite (fun ai =>
  .ret (a8 (t1.append [.af true,.J (o 1 [])]) (aO.aC (.e1 ai))))
  (fun ai =>
  .aJ fun bg aM =>
  (let t3:List bx:=t1.append [.af false,.J (o 3 (aj (bM 2 (.n .i64 bg) true) (o 1 []))),.J (o 2 [])];
  have c8:=aO.aC (.bp ai (DD bg aM) (a1.n .i64 bg));
  .ite (fun ba =>
  .ret (a8 (t3.append [.af true,.J (o 1 [])]) (c8.aC (.e1 ba))))
  (fun ba =>
  .ret (a8 (t3.append [.af false,.J (o 2 [])]) (c8.aC (.e1 ba)))))))
def yA (aa:(List cD)):(Int×Int)→S:=fun (dx,ah)=>c6 [(0,.isl 3 (aa.map eTRat)),(1,.n .i64 dx),(5,.n .i64 ah)] []
def y0 (aa:(List cD)):((Int)⊕(Unit))→dc
 | .inl a=>⟨some 0,[(1,.n .i64 a)],[]⟩
 | .inr a=>⟨none,[(4,.n .i64 (-1:Int))],[]⟩
def n0 (aa:(List cD)) (dx:Int) (ah:Int):Option ((Int×Int)⊕((Int)⊕(Unit))) :=
 if (decide (ah<(len_ eTRat aa)))=true then
  if 0≤ah∧ah<aa.length then
  aa[ah.toNat]? >>= fun al =>
  sD al dx >>= fun aZ =>
  if (decide (aZ<(0:Int)))=true then
   some (.inr (.inr ()))
  else
   some (.inl (aZ,ab (ah+(1:Int))))
  else none
 else
  some (.inr (.inl dx))
def zT (aa:(List cD)) (dx:Int) (ah:Int):Option ((Int)⊕(Unit)):=iter (fun w:Int×Int=>n0 aa w.1 w.2) (dx,ah)
theorem Ih {aa:(List cD)} {dx:Int} {ah:Int}:bm (n0 aa dx ah) (dI a2 27 0 5 [1,1,1,0,1,0,0] (yA aa (dx,ah)) (yA aa) (y0 aa)):=by
 unfold n0
 exact .ite (fun h1 =>
  .bu fun R =>
  .aJ fun al ax =>
  .aJ fun aZ ba =>
  (let t1:List bx:=[.J (o 4 []),.af true,.J (o 3 (aj (.bQ (eTRat al)) (o 1 (aj (bM 2 (.n .i64 aZ) true) (o 1 []))))),.J (o 2 [])];
  have aO:=((.ez h1 R.1 (c9 eTRat R.2) (cm eTRat ax) (KA aZ ba) (a1.n .i64 aZ)):b2 _);
  .ite (fun a5 =>
  .ret (bi (t1.append [.af true,.J (o 1 []),.a0 [] [] (bf [4])]) (aO.aC (.e1 a5))))
  (fun a5 =>
  .ret (bi (t1.append [.af false,.J (o 3 []),.a0 [] [] (bf [0,1,5])]) (aO.aC (.e1 a5))))))
  (fun h1 =>
  .ret (bi [.J (o 4 []),.af false,.a0 [] [] (bf [1])] (.e1 h1)))
theorem De {aa:(List cD)} {dx:Int} {ah:Int} {r} (h:zT aa dx ah=some r):dJ a2 27 0 5 [1,1,1,0,1,0,0] (yA aa) (y0 aa) (dx,ah) r:=dK (fun _=>Ih) h
def sq (aa:(List cD)) (dx:Int):Option Int :=
 if (decide ((ab (dx-(len_ eTRat aa)))<(0:Int)))=true then
  some (-1)
 else
  zT aa (ab (dx-(len_ eTRat aa))) 0 >>= fun bj =>
  match bj with
  | .inl ei=>(some ei)
  | .inr ei=>(some (-1))
theorem Kh {aa:(List cD)} {dx:Int}:bm (sq aa dx) (fun r=>Con a2 5 [.isl 3 (aa.map eTRat),.n .i64 dx] [] (.n .i64 r) []):=by
 unfold sq
 exact (let t1:List bx:=[.J (o 1 []),.J (o 5 []),.J (o 2 [])];
  .ite (fun h1 =>
  .ret (a8 (t1.append [.af true,.J (o 1 [])]) (.e1 h1)))
  (fun h1 =>
  .aJ fun bj ai =>
  (let t2:List bx:=t1.append [.af false,.J (o 1 []),.a0 [] [] (bf [0,1,5])];
  (by
  rcases bj with ei|ei
  ·exact (.ret (a8 (t2.append [.sub (.exit 0) [(1,.n .i64 ei)] [],.J (o 2 [])]) (.az h1 (De ai))))
  ·exact (.ret (a8 (t2.append [(y0 aa (.inr ei)).eU]) (.az h1 (De ai))))))))
def vm (aa:aB):Option aB :=
 some aa
theorem JY {aa:aB}:bm (vm aa) (fun r=>Con a2 47 [.agg [.s aa.cu,.n .i64 aa.c5,.n .i64 aa.cJ,.b aa.cf]] [] (.agg [.s r.cu,.n .i64 r.c5,.n .i64 r.cJ,.b r.cf]) []):=by
 unfold vm
 exact .ret (a8 [.J (o 2 []),.J (o 1 []),.J (o 4 []),.J (o 4 []),.J (o 4 []),.J (o 4 []),.J (o 2 [])] .nil)
def xN (aa:(List aB)):(Int×(List aB))→S:=fun (ah,an)=>c6 [(0,.isl 4 (aa.map au)),(3,.aV 0 0 0 an.length),(4,.n .i64 ah)] [[ae.mk 4 (an.map au) .live]]
def xX (aa:(List aB)):(List aB)→dc
 | a=>⟨some 0,[(3,.aV 0 0 0 a.length)],[[ae.mk 4 (a.map au) .live]]⟩
def nV (aa:(List aB)) (ah:Int) (an:(List aB)):Option ((Int×(List aB))⊕((List aB))) :=
 if (decide (ah<(len_ au aa)))=true then
  if 0≤ah∧ah<aa.length then
  aa[ah.toNat]? >>= fun al =>
  vm al >>= fun aZ =>
  if 0≤ah∧ah<(an.length:Nat) then
  if (0+ah.toNat)<an.length then
  some (.inl (ab (ah+(1:Int)),an.set (0+ah.toNat) aZ))
  else none
  else none
  else none
 else
  some (.inr an)
def y1 (aa:(List aB)) (ah:Int) (an:(List aB)):Option ((List aB)):=iter (fun w:Int×(List aB)=>nV aa w.1 w.2) (ah,an)
theorem HG {aa:(List aB)} {ah:Int} {an:(List aB)}:bm (nV aa ah an) (dI a2 23 0 22 [1,1,0,1,0,0] (xN aa (ah,an)) (xN aa) (xX aa)):=by
 unfold nV
 exact .ite (fun h1 =>
  .bu fun R =>
  .aJ fun al ax =>
  .aJ fun aZ ba =>
  .bu fun a5 =>
  .bu fun bV =>
  .ret (bi [.J (o 4 []),.af true,.J (o 5 (aj (.bQ (au al)) (aj (bM 1 (.agg [.s aZ.cu,.n .i64 aZ.c5,.n .i64 aZ.cJ,.b aZ.cf]) false) (o 1 (aj .fr []))))),.J (o 3 []),.a0 [0] [.dP [ae.mk 4 ((an.set (0+ah.toNat) aZ).map au) .live]] [(0,ii),(3,fV ((an.set (0+ah.toNat) aZ).length)),(4,ii)]] (.br h1 R.1 (c9 au R.2) (cm au ax) (JY aZ ba) a5.1 a5.2 (i4 au bV) (.cI (i3 4) (eA 4 .live (im (aT au an) (0+ah.toNat) aZ)) (bD 4 .live eh (an.set (0+ah.toNat) aZ)) (gU (bw an) (0+ah.toNat) aZ)))))
  (fun h1 =>
  .ret (bi [.J (o 4 []),.af false,.a0 [0] [.pure] (bf [3])] (.az h1 (bD 4 .live eh an))))
theorem IA {aa:(List aB)} {ah:Int} {an:(List aB)} {r} (h:y1 aa ah an=some r):dJ a2 23 0 22 [1,1,0,1,0,0] (xN aa) (xX aa) (ah,an) r:=dK (fun _=>HG) h
def rS (aa:(List aB)):Option (List aB) :=
 if 0≤(len_ au aa)∧(40:Int)*(len_ au aa)≤281474976710656∧(len_ au aa)<9223372036854775808 then
 y1 aa 0 (List.replicate (len_ au aa).toNat (⟨ByteArray.empty,0,0,false⟩:aB):List aB) >>= fun bj =>
 some bj
 else none
theorem I9 {aa:(List aB)}:bm (rS aa) (fun a=>Con a2 22 [.isl 4 (aa.map au)] [] (.aV 0 0 0 a.length) [[ae.mk 4 (a.map au) .live]]):=by
 unfold rS
 exact .bu fun h1 =>
  .aJ fun bj ai =>
  .ret (gQ [.J (o 1 []),.J (o 4 []),.J (o 1 []),.a0 [3] [.dP [ae.mk 4 ((List.replicate (len_ au aa).toNat (⟨ByteArray.empty,0,0,false⟩:aB):List aB).map au) .live]] [(0,ii),(3,fV ((List.replicate (len_ au aa).toNat (⟨ByteArray.empty,0,0,false⟩:aB):List aB).length)),(4,ii)],(xX aa bj).eU,.J (o 2 [])] [0] [.pure] (.br h1.1 (Int.le_refl (len_ au aa)) h1.2.1 h1.2.2 (eA 4 .live (lA au (len_ au aa).toNat (⟨ByteArray.empty,0,0,false⟩:aB))) (bD 4 .live eh (List.replicate (len_ au aa).toNat (⟨ByteArray.empty,0,0,false⟩:aB):List aB)) (lB (len_ au aa).toNat ((⟨ByteArray.empty,0,0,false⟩:aB):aB)) (IA ai) (.e1 (bD 4 .live eh bj))))
def vg (aa:aN):Option aN :=
 some aa
theorem JG {aa:aN}:bm (vg aa) (fun r=>Con a2 48 [.agg [.n .i64 aa.dg,.n .i64 aa.c0,.n .i64 aa.dq]] [] (.agg [.n .i64 r.dg,.n .i64 r.c0,.n .i64 r.dq]) []):=by
 unfold vg
 exact .ret (a8 [.J (o 2 []),.J (o 1 []),.J (o 4 []),.J (o 4 []),.J (o 4 []),.J (o 2 [])] .nil)
def xE (aa:(List aN)):(Int×(List aN))→S:=fun (ah,an)=>c6 [(0,.isl 3 (aa.map ay)),(3,.aV 0 0 0 an.length),(4,.n .i64 ah)] [[ae.mk 3 (an.map ay) .live]]
def xO (aa:(List aN)):(List aN)→dc
 | a=>⟨some 0,[(3,.aV 0 0 0 a.length)],[[ae.mk 3 (a.map ay) .live]]⟩
def nU (aa:(List aN)) (ah:Int) (an:(List aN)):Option ((Int×(List aN))⊕((List aN))) :=
 if (decide (ah<(len_ ay aa)))=true then
  if 0≤ah∧ah<aa.length then
  aa[ah.toNat]? >>= fun al =>
  vg al >>= fun aZ =>
  if 0≤ah∧ah<(an.length:Nat) then
  if (0+ah.toNat)<an.length then
  some (.inl (ab (ah+(1:Int)),an.set (0+ah.toNat) aZ))
  else none
  else none
  else none
 else
  some (.inr an)
def yB (aa:(List aN)) (ah:Int) (an:(List aN)):Option ((List aN)):=iter (fun w:Int×(List aN)=>nU aa w.1 w.2) (ah,an)
theorem Hw {aa:(List aN)} {ah:Int} {an:(List aN)}:bm (nU aa ah an) (dI a2 23 0 23 [1,1,0,1,0,0] (xE aa (ah,an)) (xE aa) (xO aa)):=by
 unfold nU
 exact .ite (fun h1 =>
  .bu fun R =>
  .aJ fun al ax =>
  .aJ fun aZ ba =>
  .bu fun a5 =>
  .bu fun bV =>
  .ret (bi [.J (o 4 []),.af true,.J (o 5 (aj (.bQ (ay al)) (aj (bM 1 (.agg [.n .i64 aZ.dg,.n .i64 aZ.c0,.n .i64 aZ.dq]) false) (o 1 (aj .fr []))))),.J (o 3 []),.a0 [0] [.dP [ae.mk 3 ((an.set (0+ah.toNat) aZ).map ay) .live]] [(0,ii),(3,fV ((an.set (0+ah.toNat) aZ).length)),(4,ii)]] (.br h1 R.1 (c9 ay R.2) (cm ay ax) (JG aZ ba) a5.1 a5.2 (i4 ay bV) (.cI (i3 3) (eA 3 .live (im (aT ay an) (0+ah.toNat) aZ)) (bD 3 .live dl (an.set (0+ah.toNat) aZ)) (gU (bw an) (0+ah.toNat) aZ)))))
  (fun h1 =>
  .ret (bi [.J (o 4 []),.af false,.a0 [0] [.pure] (bf [3])] (.az h1 (bD 3 .live dl an))))
theorem Ii {aa:(List aN)} {ah:Int} {an:(List aN)} {r} (h:yB aa ah an=some r):dJ a2 23 0 23 [1,1,0,1,0,0] (xE aa) (xO aa) (ah,an) r:=dK (fun _=>Hw) h
def rP (aa:(List aN)):Option (List aN) :=
 if 0≤(len_ ay aa)∧(24:Int)*(len_ ay aa)≤281474976710656∧(len_ ay aa)<9223372036854775808 then
 yB aa 0 (List.replicate (len_ ay aa).toNat (⟨0,0,0⟩:aN):List aN) >>= fun bj =>
 some bj
 else none
theorem IY {aa:(List aN)}:bm (rP aa) (fun a=>Con a2 23 [.isl 3 (aa.map ay)] [] (.aV 0 0 0 a.length) [[ae.mk 3 (a.map ay) .live]]):=by
 unfold rP
 exact .bu fun h1 =>
  .aJ fun bj ai =>
  .ret (gQ [.J (o 1 []),.J (o 4 []),.J (o 1 []),.a0 [3] [.dP [ae.mk 3 ((List.replicate (len_ ay aa).toNat (⟨0,0,0⟩:aN):List aN).map ay) .live]] [(0,ii),(3,fV ((List.replicate (len_ ay aa).toNat (⟨0,0,0⟩:aN):List aN).length)),(4,ii)],(xO aa bj).eU,.J (o 2 [])] [0] [.pure] (.br h1.1 (Int.le_refl (len_ ay aa)) h1.2.1 h1.2.2 (eA 3 .live (lA ay (len_ ay aa).toNat (⟨0,0,0⟩:aN))) (bD 3 .live dl (List.replicate (len_ ay aa).toNat (⟨0,0,0⟩:aN):List aN)) (lB (len_ ay aa).toNat ((⟨0,0,0⟩:aN):aN)) (Ii ai) (.e1 (bD 3 .live dl bj))))
def rO (aa:cX):Option ((List aB)×(List aN)) :=
 rS aa.bs >>= fun r1 =>
 rP aa.bZ >>= fun bY =>
 some (r1,bY)
theorem m1 {aa:cX}:bm (rO aa) (fun a=>Con a2 7 [.agg [.isl 4 (aa.bs.map au),.isl 3 (aa.bZ.map ay)]] [] (.agg [.aV 0 0 0 a.1.length,.aV 0 1 0 a.2.length]) [[ae.mk 4 (a.1.map au) .live,ae.mk 3 (a.2.map ay) .live]]):=by
 unfold rO
 exact .aJ fun r1 R =>
  .aJ fun bY ax =>
  .ret (gQ [.J (o 2 []),.J (o 1 []),.J (o 2 (aj (.call {aA:=[],bR:=[],ac:=[ii],r:= .aV 0 0 0 r1.length,cC:=[[ae.mk 4 (r1.map au) .live]],dE:=ii,d9:=[.pure],cK:=[],cH:=true}) (o 2 []))),.J (o 2 (aj (.call {aA:=[],bR:=[],ac:=[ii],r:= .aV 0 0 0 bY.length,cC:=[[ae.mk 3 (bY.map ay) .live]],dE:=ii,d9:=[.pure],cK:=[],cH:=true}) (o 2 []))),.J (o 2 []),.ri [{a9:=[(5,0),(10,0)],fM:=none},{a9:=[(1,0)]}] [([.pure,.pure],none),([.box [.at_ 0 0 r1.length,.at_ 0 1 bY.length]],none)] [(2,.bI (.cb (.at_ 1 0 0)))]] [0] [.eg [ae.mk 4 (r1.map au) .live,ae.mk 3 (bY.map ay) .live]] (.br (eR 4 eh r1) (I9 r1 R) (a1.aV 0 0 0 r1.length) ((gw (eV (eS kz) hR) gx):fE [[ae.mk 4 (r1.map au) .live]]) (eR 3 dl bY) (IY bY ax) (a1.aV 0 0 0 bY.length) ((gw (eV (eS j1) hR) gx):fE [[ae.mk 3 (bY.map ay) .live]]) (.hN (bD 4 .live eh r1) (bD 3 .live dl bY) (rfl:(hZ [{a9:=[(5,0),(10,0)],fM:=none},{a9:=[(1,0)]}]) 0 0=some (5,0)) (rfl:r1.length=r1.length) (rfl:(hZ [{a9:=[(5,0),(10,0)],fM:=none},{a9:=[(1,0)]}]) 0 1=some (10,0)) (rfl:bY.length=bY.length) (rfl:(hZ [{a9:=[(5,0),(10,0)],fM:=none},{a9:=[(1,0)]}]) 1 0=some (1,0)) (dh (dk (aY:=(cZ [0])) 4 .live au (aT au r1) (fun x=>(dj h9) x)) (dh (dk (aY:=(cZ [0])) 3 .live ay (aT ay bY) (fun x=>(dj h8) x)) (hE (aY:=(cZ [0]))))))) (.bI (.agg [.id,.id])))
def x6 (aa:(List Int)):(Int×(List Int))→S:=fun (ah,an)=>c6 [(0,.isl 1 (aa.map U)),(3,.aV 0 0 0 an.length),(4,.n .i64 ah)] [[ae.mk 1 (an.map U) .live]]
def yl (aa:(List Int)):(List Int)→dc
 | a=>⟨some 0,[(3,.aV 0 0 0 a.length)],[[ae.mk 1 (a.map U) .live]]⟩
def nX (aa:(List Int)) (ah:Int) (an:(List Int)):Option ((Int×(List Int))⊕((List Int))) :=
 if (decide (ah<(len_ U aa)))=true then
  if 0≤ah∧ah<aa.length then
  aa[ah.toNat]? >>= fun al =>
  if 0≤ah∧ah<(an.length:Nat) then
  if (0+ah.toNat)<an.length then
  some (.inl (ab (ah+(1:Int)),an.set (0+ah.toNat) al))
  else none
  else none
  else none
 else
  some (.inr an)
def zv (aa:(List Int)) (ah:Int) (an:(List Int)):Option ((List Int)):=iter (fun w:Int×(List Int)=>nX aa w.1 w.2) (ah,an)
theorem HR {aa:(List Int)} {ah:Int} {an:(List Int)}:bm (nX aa ah an) (dI a2 22 0 50 [1,1,0,1,0,0] (x6 aa (ah,an)) (x6 aa) (yl aa)):=by
 unfold nX
 exact .ite (fun h1 =>
  .bu fun R =>
  .aJ fun al ax =>
  .bu fun aM =>
  .bu fun ba =>
  .ret (bi [.J (o 4 []),.af true,.J (o 5 (aj (.bQ (U al)) (o 1 (aj .fr [])))),.J (o 3 []),.a0 [0] [.dP [ae.mk 1 ((an.set (0+ah.toNat) al).map U) .live]] [(0,ii),(3,fV ((an.set (0+ah.toNat) al).length)),(4,ii)]] (.br h1 R.1 (c9 U R.2) (cm U ax) aM.1 aM.2 (i4 U ba) (i3 1) (.bp (eA 1 .live (im (aT U an) (0+ah.toNat) al)) (bD 1 .live bG (an.set (0+ah.toNat) al)) (gU (bw an) (0+ah.toNat) al)))))
  (fun h1 =>
  .ret (bi [.J (o 4 []),.af false,.a0 [0] [.pure] (bf [3])] (.az h1 (bD 1 .live bG an))))
theorem IZ {aa:(List Int)} {ah:Int} {an:(List Int)} {r} (h:zv aa ah an=some r):dJ a2 22 0 50 [1,1,0,1,0,0] (x6 aa) (yl aa) (ah,an) r:=dK (fun _=>HR) h
def qd (aa:(List Int)):Option (List Int) :=
 if 0≤(len_ U aa)∧(8:Int)*(len_ U aa)≤281474976710656∧(len_ U aa)<9223372036854775808 then
 zv aa 0 (List.replicate (len_ U aa).toNat 0:List Int) >>= fun bj =>
 some bj
 else none
theorem Dr {aa:(List Int)}:bm (qd aa) (fun a=>Con a2 50 [.isl 1 (aa.map U)] [] (.aV 0 0 0 a.length) [[ae.mk 1 (a.map U) .live]]):=by
 unfold qd
 exact .bu fun h1 =>
  .aJ fun bj ai =>
  .ret (gQ [.J (o 1 []),.J (o 4 []),.J (o 1 []),.a0 [3] [.dP [ae.mk 1 ((List.replicate (len_ U aa).toNat 0:List Int).map U) .live]] [(0,ii),(3,fV ((List.replicate (len_ U aa).toNat 0:List Int).length)),(4,ii)],(yl aa bj).eU,.J (o 2 [])] [0] [.pure] (.br h1.1 (Int.le_refl (len_ U aa)) h1.2.1 h1.2.2 (eA 1 .live (lA U (len_ U aa).toNat 0)) (bD 1 .live bG (List.replicate (len_ U aa).toNat 0:List Int)) (lB (len_ U aa).toNat (0:Int)) (IZ ai) (.e1 (bD 1 .live bG bj))))
def u6 (aa:hi):Option (Bool×(List Int)) :=
 qd aa.cn >>= fun r1 =>
 some (aa.fo,r1)
theorem Ja {aa:hi}:bm (u6 aa) (fun a=>Con a2 49 [.agg [.b aa.fo,.isl 1 (aa.cn.map U)]] [] (.agg [.b a.1,.aV 0 0 0 a.2.length]) [[ae.mk 1 (a.2.map U) .live]]):=by
 unfold u6
 exact .aJ fun r1 R =>
  .ret (gQ [.J (o 2 []),.J (o 1 []),.J (o 4 []),.J (o 2 (aj (.call {aA:=[],bR:=[],ac:=[ii],r:= .aV 0 0 0 r1.length,cC:=[[ae.mk 1 (r1.map U) .live]],dE:=ii,d9:=[.pure],cK:=[],cH:=true}) (o 2 []))),.J (o 2 [])] [9] [.pure] (.dM (eR 1 bG r1) (Dr r1 R) (a1.aV 0 0 0 r1.length) ((gw (eV (eS km) hR) gx):fE [[ae.mk 1 (r1.map U) .live]]) (bD 1 .live bG r1)) (.bI (.agg [.id,.id])))
def se (aa:cD):Option (Bool×(List Int)×(List Int)) :=
 u6 aa.ch >>= fun r1 =>
 qd aa.cv >>= fun bY =>
 some (r1.1,r1.2,bY)
theorem JZ {aa:cD}:bm (se aa) (fun a=>Con a2 24 [.agg [.b aa.ch.fo,.isl 1 (aa.ch.cn.map U),.isl 1 (aa.cv.map U)]] [] (.agg [.b a.1,.aV 0 0 0 a.2.1.length,.aV 0 1 0 a.2.2.length]) [[ae.mk 1 (a.2.1.map U) .live,ae.mk 1 (a.2.2.map U) .live]]):=by
 unfold se
 exact .aJ fun r1 R =>
  .aJ fun bY ax =>
  .ret (gQ [.J (o 2 []),.J (o 1 []),.J (o 2 (aj (.call {aA:=[],bR:=[],ac:=[ii],r:= .agg [.b r1.1,.aV 0 0 0 r1.2.length],cC:=[[ae.mk 1 (r1.2.map U) .live]],dE:= .bI (.agg [.id,.id]),d9:=[.pure],cK:=[],cH:=true}) (o 2 []))),.J (o 2 (aj (.call {aA:=[],bR:=[],ac:=[ii],r:= .aV 0 0 0 bY.length,cC:=[[ae.mk 1 (bY.map U) .live]],dE:=ii,d9:=[.pure],cK:=[],cH:=true}) (o 2 []))),.J (o 2 []),.ri [{a9:=[(5,0),(10,0)],fM:=none},{a9:=[(1,0)]}] [([.pure,.pure],none),([.box [.id,.at_ 0 0 r1.2.length,.at_ 0 1 bY.length]],none)] [(2,.bI (.cb (.at_ 1 0 0)))]] [0] [.eg [ae.mk 1 (r1.2.map U) .live,ae.mk 1 (bY.map U) .live]] (.br (eR 1 bG r1.2) (Ja r1 R) (a1.agg (dz (a1.b r1.1) (dz (a1.aV 0 0 0 r1.2.length) f6))) ((gw (eV (eS km) hR) gx):fE [[ae.mk 1 (r1.2.map U) .live]]) (eR 1 bG bY) (Dr bY ax) (a1.aV 0 0 0 bY.length) ((gw (eV (eS km) hR) gx):fE [[ae.mk 1 (bY.map U) .live]]) (.hN (bD 1 .live bG r1.2) (bD 1 .live bG bY) (rfl:(hZ [{a9:=[(5,0),(10,0)],fM:=none},{a9:=[(1,0)]}]) 0 0=some (5,0)) (rfl:r1.2.length=r1.2.length) (rfl:(hZ [{a9:=[(5,0),(10,0)],fM:=none},{a9:=[(1,0)]}]) 0 1=some (10,0)) (rfl:bY.length=bY.length) (rfl:(hZ [{a9:=[(5,0),(10,0)],fM:=none},{a9:=[(1,0)]}]) 1 0=some (1,0)) (dh (dk (aY:=(cZ [0])) 1 .live U (aT U r1.2) (fun x=>(dj gW) x)) (dh (dk (aY:=(cZ [0])) 1 .live U (aT U bY) (fun x=>(dj gW) x)) (hE (aY:=(cZ [0]))))))) (.bI (.agg [.id,.id,.id])))
def x7 (aa:(List cD)):(Int×(List cN)×(List (List Int)))→S:=fun (ah,dF,du)=>c6 [(0,.isl 3 (aa.map eTRat)),(3,.aV 0 0 0 dF.length),(4,.n .i64 ah)] [(ae.mk 3 (dF.map (a4 0 1)) .live::(du.map (cd .live 1 U)))]
def ym (aa:(List cD)):((List cN)×(List (List Int)))→dc
 | a=>⟨some 0,[(3,.aV 0 0 0 a.1.length)],[(ae.mk 3 (a.1.map (a4 0 1)) .live::(a.2.map (cd .live 1 U)))]⟩
def pH (aa:(List cD)) (ah:Int) (dF:(List cN)) (du:(List (List Int))):Option ((Int×(List cN)×(List (List Int)))⊕((List cN)×(List (List Int)))) :=
 if (decide (ah<(len_ eTRat aa)))=true then
  if 0≤ah∧ah<aa.length then
  aa[ah.toNat]? >>= fun al =>
  se al >>= fun aZ =>
  if 0≤ah∧ah<(dF.length:Nat) then
  if (0+ah.toNat)<dF.length then
  some (.inl (ab (ah+(1:Int)),dF.set (0+ah.toNat) (⟨(⟨aZ.1,(some (du.length,aZ.2.1.length))⟩:ed),(some ((du.length+1),aZ.2.2.length))⟩:cN),du++[aZ.2.1,aZ.2.2]))
  else none
  else none
  else none
 else
  some (.inr (dF,du))
def zw (aa:(List cD)) (ah:Int) (dF:(List cN)) (du:(List (List Int))):Option ((List cN)×(List (List Int))):=iter (fun w:Int×(List cN)×(List (List Int))=>pH aa w.1 w.2.1 w.2.2) (ah,dF,du)
theorem HS {aa:(List cD)} {ah:Int} {dF:(List cN)} {du:(List (List Int))}:bm (pH aa ah dF du) (dI a2 23 0 8 [1,1,0,1,0,0] (x7 aa (ah,dF,du)) (x7 aa) (ym aa)):=by
 unfold pH
 exact .ite (fun h1 =>
  .bu fun R =>
  .aJ fun al ax =>
  .aJ fun aZ ba =>
  .bu fun a5 =>
  .bu fun bV =>
  .ret (bi [.J (o 4 []),.af true,.J (o 5 (aj (.bQ (eTRat al)) (aj (.uA 0 (du.length+1) (.call {aA:=[],bR:=[],ac:=[ii],r:= .agg [.b aZ.1,.aV 0 0 0 aZ.2.1.length,.aV 0 1 0 aZ.2.2.length],cC:=[[ae.mk 1 (aZ.2.1.map U) .live,ae.mk 1 (aZ.2.2.map U) .live]],dE:= .bI (.agg [.id,.id,.id]),d9:=[.eg [ae.mk 1 (aZ.2.1.map U) .live,ae.mk 1 (aZ.2.2.map U) .live]],cK:=[],cH:=true})) (o 1 (aj (.kf 20 (.agg [.b aZ.1,jj 0 1 1 (some (du.length,aZ.2.1.length)),jj 0 1 1 (some ((du.length+1),aZ.2.2.length))]) .fr) []))))),.J (o 3 []),.a0 [0] [.eg (ae.mk 3 ((dF.set (0+ah.toNat) (⟨(⟨aZ.1,(some (du.length,aZ.2.1.length))⟩:ed),(some ((du.length+1),aZ.2.2.length))⟩:cN)).map (a4 0 1)) .live::((du++[aZ.2.1,aZ.2.2]).map (cd .live 1 U)))] [(0,ii),(3,fV ((dF.set (0+ah.toNat) (⟨(⟨aZ.1,(some (du.length,aZ.2.1.length))⟩:ed),(some ((du.length+1),aZ.2.2.length))⟩:cN)).length)),(4,ii)]] (.br h1 R.1 (c9 eTRat R.2) (cm eTRat ax) (dh (dk (aY:=(c3 [.row 11])) 1 .live U (aT U aZ.2.1) (fun x=>(dj gW) x)) (dh (dk (aY:=(c3 [.row 11])) 1 .live U (aT U aZ.2.2) (fun x=>(dj gW) x)) (hE (aY:=(c3 [.row 11]))))) ((fi rfl (fi rfl kP)):fI [ae.mk 1 (aZ.2.1.map U) .live,ae.mk 1 (aZ.2.2.map U) .live]) (JZ aZ ba) (a1.agg (dz (a1.b aZ.1) (dz (a1.aV 0 0 0 aZ.2.1.length) (dz (a1.aV 0 1 0 aZ.2.2.length) f6)))) (.br ((gw (eV (eS km) (eV (eS km) hR)) gx):fE [[ae.mk 1 (aZ.2.1.map U) .live,ae.mk 1 (aZ.2.2.map U) .live]]) (congrArg (· + 1) (Nx (er .live 1 U du) rfl)) a5.1 a5.2 (Nu ⟨.refl _,.s2 0 1 1 du.length aZ.2.1.length,.s2 0 1 1 (du.length+1) aZ.2.2.length,trivial⟩:hG (.agg [.b aZ.1,.aV 0 (du.length+1) 0 aZ.2.1.length,.aV 0 ((du.length+1)+1) 0 aZ.2.2.length]) (.agg [.b aZ.1,jj 0 1 1 (some (du.length,aZ.2.1.length)),jj 0 1 1 (some ((du.length+1),aZ.2.2.length))])) (i4 (a4 0 1) bV) (i3 3) (dh (dk (aY:=(cZ [0])) 3 .live (a4 0 1) (im (aT (a4 0 1) dF) (0+ah.toNat) (⟨(⟨aZ.1,(some (du.length,aZ.2.1.length))⟩:ed),(some ((du.length+1),aZ.2.2.length))⟩:cN)) (fun x=>(hB (rfl:(cZ [0]) 0=some 0)) x)) (hD (aY:=(cZ [0])) (Ny (er .live 1 U du) (FY bG 11 0 (du.length+1) (aT U aZ.2.1) (FY bG 11 0 (du.length+1) (aT U aZ.2.2) (NQ 11 0 (du.length+1))))) (fun x=>(dj gW) x))) (.e1 (gU (bw dF) (0+ah.toNat) (⟨(⟨aZ.1,(some (du.length,aZ.2.1.length))⟩:ed),(some ((du.length+1),aZ.2.2.length))⟩:cN)))))))
  (fun h1 =>
  .ret (bi [.J (o 4 []),.af false,.a0 [0] [.eg (ae.mk 3 (dF.map (a4 0 1)) .live::(du.map (cd .live 1 U)))] (bf [3])] (.az h1 (dh (dk (aY:=(cZ [0])) 3 .live (a4 0 1) (aT (a4 0 1) dF) (fun x=>(hB (rfl:(cZ [0]) 0=some 0)) x)) (hD (aY:=(cZ [0])) (er .live 1 U du) (fun x=>(dj gW) x))))))
theorem I0 {aa:(List cD)} {ah:Int} {dF:(List cN)} {du:(List (List Int))} {r} (h:zw aa ah dF du=some r):dJ a2 23 0 8 [1,1,0,1,0,0] (x7 aa) (ym aa) (ah,dF,du) r:=dK (fun _=>HS) h
def r3 (aa:(List cD)):Option ((List cN)×(List (List Int))) :=
 if 0≤(len_ eTRat aa)∧(56:Int)*(len_ eTRat aa)≤281474976710656∧(len_ eTRat aa)<9223372036854775808 then
 zw aa 0 (List.replicate (len_ eTRat aa).toNat (⟨(⟨false,(none:gv)⟩:ed),(none:gv)⟩:cN):List cN) ([]:List (List Int)) >>= fun bj =>
 some (bj.1,bj.2)
 else none
theorem m6 {aa:(List cD)}:bm (r3 aa) (fun a=>Con a2 8 [.isl 3 (aa.map eTRat)] [] (.aV 0 0 0 a.1.length) [(ae.mk 3 (a.1.map (a4 0 1)) .live::(a.2.map (cd .live 1 U)))]):=by
 unfold r3
 exact .bu fun h1 =>
  .aJ fun bj ai =>
  .ret (gQ [.J (o 1 []),.J (o 2 (aj (.bQ [.b false,jj 3 1 1 (none:gv),jj 3 1 1 (none:gv)]) (o 1 []))),.J (o 1 []),.a0 [3] [.eg (ae.mk 3 ((List.replicate (len_ eTRat aa).toNat (⟨(⟨false,(none:gv)⟩:ed),(none:gv)⟩:cN):List cN).map (a4 0 1)) .live::(([]:List (List Int)).map (cd .live 1 U)))] [(0,ii),(3,fV ((List.replicate (len_ eTRat aa).toNat (⟨(⟨false,(none:gv)⟩:ed),(none:gv)⟩:cN):List cN).length)),(4,ii)],(ym aa bj).eU,.J (o 2 [])] [0] [.eg (ae.mk 3 (bj.1.map (a4 0 1)) .live::(bj.2.map (cd .live 1 U)))] (.hN h1.1 (Int.le_refl (len_ eTRat aa)) h1.2.1 h1.2.2 (dh (dk (aY:=(cZ [3])) 3 .live (a4 0 1) (lA (a4 3 1) (len_ eTRat aa).toNat (⟨(⟨false,(none:gv)⟩:ed),(none:gv)⟩:cN)) (fun x=>(hB (rfl:(cZ [3]) 3=some 0)) x)) (hD (aY:=(cZ [3])) (Nw .live 1 U) (fun x=>(dj gW) x))) (lB (len_ eTRat aa).toNat ((⟨(⟨false,(none:gv)⟩:ed),(none:gv)⟩:cN):cN)) (I0 ai) (dh (dk (aY:=(cZ [0])) 3 .live (a4 0 1) (aT (a4 0 1) bj.1) (fun x=>(hB (rfl:(cZ [0]) 0=some 0)) x)) (hD (aY:=(cZ [0])) (er .live 1 U bj.2) (fun x=>(dj gW) x)))))
def kA (bd:Int) (iH:Int) (iO:Int):Option Bool :=
 if (decide (iH≤bd))=true then
  some (decide (bd≤iO))
 else
  some false
theorem oe {bd:Int} {iH:Int} {iO:Int}:bm (kA bd iH iO) (fun r=>Con a2 46 [.n .i64 bd,.n .i64 iH,.n .i64 iO] [] (.b r) []):=by
 unfold kA
 exact .ite (fun h1 =>
  .ret (a8 [.J (o 1 []),.J (o 7 (aj (.af true) (o 1 [])))] (.cI h1 h1 h1 h1)))
  (fun h1 =>
  .ret (a8 [.J (o 1 []),.J (o 4 (cc 3 (aj (.af false) (o 1 []))))] (.cI h1 h1 h1 h1)))
def yC (aQ:ByteArray):Int→S:=fun ah=>c6 [(0,.s aQ),(3,.n .i64 ah)] []
def C4 (aQ:ByteArray):((Unit)⊕(Unit))→dc
 | .inl a=>⟨some 0,[(0,.s aQ)],[]⟩
 | .inr a=>⟨none,[(2,.b false)],[]⟩
def m3 (aQ:ByteArray) (ah:Int):Option ((Int)⊕((Unit)⊕(Unit))) :=
 if (decide (ah<(aQ.size:Int)))=true then
  if 0≤ah∧ah<(aQ.size:Nat) then
  if (decide ((97:Int)≤((aQ.data.toList.getD ah.toNat 0).toNat:Int)))=true then
   if (decide (((aQ.data.toList.getD ah.toNat 0).toNat:Int)≤(122:Int)))=true then
    some (.inl (ab (ah+(1:Int))))
   else
    if (ah == (0:Int))=true then
     some (.inr (.inr ()))
    else
     if (decide (((aQ.data.toList.getD ah.toNat 0).toNat:Int)<(48:Int)))=true then
      some (.inr (.inr ()))
     else
      if (decide ((57:Int)<((aQ.data.toList.getD ah.toNat 0).toNat:Int)))=true then
       some (.inr (.inr ()))
      else
       some (.inl (ab (ah+(1:Int))))
  else
   if (ah == (0:Int))=true then
    some (.inr (.inr ()))
   else
    if (decide (((aQ.data.toList.getD ah.toNat 0).toNat:Int)<(48:Int)))=true then
     some (.inr (.inr ()))
    else
     if (decide ((57:Int)<((aQ.data.toList.getD ah.toNat 0).toNat:Int)))=true then
      some (.inr (.inr ()))
     else
      some (.inl (ab (ah+(1:Int))))
  else none
 else
  some (.inr (.inl ()))
def rX (aQ:ByteArray) (ah:Int):Option ((Unit)⊕(Unit)):=iter (fun w:Int=>m3 aQ w) ah
theorem Ij {aQ:ByteArray} {ah:Int}:bm (m3 aQ ah) (dI a2 42 0 69 [1,0,1,0,0] (yC aQ ah) (yC aQ) (C4 aQ)):=by
 unfold m3
 exact .ite (fun h1 =>
  .bu fun R =>
  .ite (fun ai =>
  (let t1:List bx:=[.J (o 4 []),.af true,.J (o 9 (aj (.af true) (o 1 [])))];
  have aO:=((.br h1 R.1 R.2 ai ai ai R.1 R.2 (.az ai ai)):b2 _);
  .ite (fun ax =>
  .ret (bi (t1.append [.J (o 3 (cc 3 (o 4 (cc 2 (o 4 (cc 1 (aj (.af false) []))))))),.af false,.J (o 3 []),.a0 [] [] (bf [0,3])]) (aO.aC (.hN (bE ax) (bE ax) (bE ax) (bE ax) (bE ax) (bE ax) (bE ax) hg))))
  (fun ax =>
  (have eJ:=aO.aC (.bp (bS ax) (bS ax) (bS ax));
  .ite (fun aM =>
  .ret (bi (t1.append [.J (o 6 (cc 4 (aj (.af true) (o 1 (cc 4 (o 1 (aj (.af true) []))))))),.af true,.J (o 1 []),.a0 [] [] (bf [2])]) (eJ.aC (.br aM aM aM aM (bS ax) aM (bS ax) bF (.ez bF bF bF (bS ax) (bS ax) bF)))))
  (fun aM =>
  (have c8:=eJ.aC (.br aM aM aM R.1 R.2 aM (bS ax) aM (.e1 (bS ax)));
  .ite (fun ba =>
  .ret (bi (t1.append [.J (o 10 (aj (.af false) (o 1 (cc 4 (aj (.af true) (aj (.af true) [])))))),.af true,.J (o 1 []),.a0 [] [] (bf [2])]) (c8.aC (.hN ba ba ba ba (bS ax) ba (bS ax) bF))))
  (fun ba =>
  (let t5:List bx:=t1.append [.J (o 10 (aj (.af false) (o 5 (aj (.af false) (aj (.af true) [])))))];
  have gS:=c8.aC (.br ba ba ba R.1 R.2 ba (bS ax) ba (.e1 (bS ax)));
  .ite (fun a5 =>
  .ret (bi (t5.append [.af true,.J (o 1 []),.a0 [] [] (bf [2])]) (gS.aC (.e1 a5))))
  (fun a5 =>
  .ret (bi (t5.append [.af false,.J (o 3 []),.a0 [] [] (bf [0,3])]) (gS.aC (.e1 a5))))))))))))
  (fun ai =>
  (let t1:List bx:=[.J (o 4 []),.af true,.J (o 5 (cc 4 (aj (.af false) (o 1 []))))];
  have aO:=((.br h1 R.1 R.2 ai ai ai ai ai (.bp bF bF bF)):b2 _);
  .ite (fun ax =>
  .ret (bi (t1.append [.J (o 6 (cc 4 (aj (.af true) (o 1 (cc 4 (o 2 [])))))),.af true,.J (o 1 []),.a0 [] [] (bf [2])]) (aO.aC (.br ax ax ax ax bF ax bF bF (.dM bF bF bF bF bF)))))
  (fun ax =>
  (have eJ:=aO.aC (.br ax ax ax R.1 R.2 ax bF ax (.e1 bF));
  .ite (fun aM =>
  .ret (bi (t1.append [.J (o 10 (aj (.af false) (o 1 (cc 4 (aj (.af true) (o 1 [])))))),.af true,.J (o 1 []),.a0 [] [] (bf [2])]) (eJ.aC (.eQ aM aM aM aM bF aM bF))))
  (fun aM =>
  (let t4:List bx:=t1.append [.J (o 10 (aj (.af false) (o 5 (aj (.af false) (o 1 [])))))];
  have jF:=eJ.aC (.hN aM aM aM R.1 R.2 aM bF aM);
  .ite (fun ba =>
  .ret (bi (t4.append [.af true,.J (o 1 []),.a0 [] [] (bf [2])]) (jF.aC (.e1 ba))))
  (fun ba =>
  .ret (bi (t4.append [.af false,.J (o 3 []),.a0 [] [] (bf [0,3])]) (jF.aC (.e1 ba)))))))))))
  (fun h1 =>
  .ret (bi [.J (o 4 []),.af false,.a0 [] [] (bf [0])] (.e1 h1)))
theorem Df {aQ:ByteArray} {ah:Int} {r} (h:rX aQ ah=some r):dJ a2 42 0 69 [1,0,1,0,0] (yC aQ) (C4 aQ) ah r:=dK (fun _=>Ij) h
def om (aQ:ByteArray):Option Bool :=
 rX aQ 0 >>= fun r1 =>
 match r1 with
 | .inl cw=>(kA (aQ.size:Int) 1 8 >>= fun bg =>
  some bg)
 | .inr cw=>(some false)
theorem Ki {aQ:ByteArray}:bm (om aQ) (fun r=>Con a2 69 [.s aQ] [] (.b r) []):=by
 unfold om
 exact .aJ fun r1 R =>
  (let t1:List bx:=[.J (o 1 []),.J (o 1 []),.a0 [] [] (bf [0,3])];
  (by
  rcases r1 with cw|cw
  ·exact (.aJ fun bg aM =>
  .ret (a8 (t1.append [.sub (.exit 0) [(0,.s aQ)] [],.J (o 2 (aj (bM 3 (.b bg) true) (o 1 [])))]) (.bp (Df R) (oe bg aM) (a1.b bg))))
  ·exact (.ret (a8 (t1.append [.sub (.ret) [(2,.b false)] []]) (.e1 (Df R))))))
def lz (cL:aB):Option Bool :=
 om cL.cu >>= fun r1 =>
 if r1=true then
  kA cL.c5 (-50) 50 >>= fun bg =>
  if bg=true then
   kA cL.cJ (-50) 50 >>= fun aF =>
   some aF
  else
   some false
 else
  some false
theorem J0 {cL:aB}:bm (lz cL) (fun r=>Con a2 44 [.agg [.s cL.cu,.n .i64 cL.c5,.n .i64 cL.cJ,.b cL.cf]] [] (.b r) []):=by
 unfold lz
 exact .aJ fun r1 R =>
  (have bz:=((.az (Ki r1 R) (a1.b r1)):b2 _);
  .ite (fun ai =>
  .aJ fun bg aM =>
  (have aO:=bz.aC (.ez ai ai ai (oe bg aM) (a1.b bg) ai);
  .ite (fun ba =>
  .aJ fun aF bV =>
  .ret (a8 [.J (o 2 []),.J (o 2 (aj (bM 1 (.b r1) true) (o 3 (aj (bM 3 (.b bg) true) (aj (.af true) (o 3 (aj (bM 3 (.b aF) true) (aj (.af true) (o 1 [])))))))))] (aO.aC (.ez ba ba ba (oe aF bV) (a1.b aF) ba))))
  (fun ba =>
  .ret (a8 [.J (o 2 []),.J (o 2 (aj (bM 1 (.b r1) true) (o 3 (aj (bM 3 (.b bg) true) (aj (.af true) (o 1 (cc 3 (aj (.af false) (o 1 [])))))))))] (aO.aC (.cI ba ba ba ba))))))
  (fun ai =>
  .ret (a8 [.J (o 2 []),.J (o 2 (aj (bM 1 (.b r1) true) (o 1 (cc 3 (aj (.af false) (o 1 (cc 3 (o 2 []))))))))] (bz.aC (.eQ ai ai ai ai hg hg hg)))))
def xP (hj:ByteArray) (cx:(List aB)) (eN:Int):Int→S:=fun d8=>c6 [(1,.s hj),(8,.isl 4 (cx.map au)),(9,.n .i64 eN),(10,.n .i64 d8)] []
def CF (hj:ByteArray) (cx:(List aB)) (eN:Int):((Unit)⊕(Int))→dc
 | .inl a=>⟨some 0,[],[]⟩
 | .inr a=>⟨none,[(4,.n .i64 a)],[]⟩
def pC (hj:ByteArray) (cx:(List aB)) (eN:Int) (d8:Int):Option ((Int)⊕((Unit)⊕(Int))) :=
 if (decide (d8<eN))=true then
  if 0≤d8∧d8<cx.length then
  cx[d8.toNat]? >>= fun al =>
  if (al.cu.toList == hj.toList)=true then
   some (.inr (.inr d8))
  else
   some (.inl (ab (d8+(1:Int))))
  else none
 else
  some (.inr (.inl ()))
def pZ (hj:ByteArray) (cx:(List aB)) (eN:Int) (d8:Int):Option ((Unit)⊕(Int)):=iter (fun w:Int=>pC hj cx eN w) d8
theorem HH {hj:ByteArray} {cx:(List aB)} {eN:Int} {d8:Int}:bm (pC hj cx eN d8) (dI a2 21 0 45 [1,0,1,0,0] (xP hj cx eN d8) (xP hj cx eN) (CF hj cx eN)):=by
 unfold pC
 exact .ite (fun h1 =>
  .bu fun R =>
  .aJ fun al ax =>
  (let t1:List bx:=[.J (o 1 []),.af true,.J (o 2 (aj (.bQ (au al)) (o 3 []))),.J (o 4 [])];
  have aO:=((.cI h1 R.1 (c9 au R.2) (cm au ax)):b2 _);
  .ite (fun aM =>
  .ret (bi (t1.append [.af true,.J (o 2 []),.a0 [] [] (bf [4])]) (aO.aC (.e1 aM))))
  (fun aM =>
  .ret (bi (t1.append [.af false,.J (o 2 []),.a0 [] [] (bf [1,8,9,10])]) (aO.aC (.e1 aM))))))
  (fun h1 =>
  .ret (bi [.J (o 1 []),.af false,.a0 [] [] []] (.e1 h1)))
theorem CM {hj:ByteArray} {cx:(List aB)} {eN:Int} {d8:Int} {r} (h:pZ hj cx eN d8=some r):dJ a2 21 0 45 [1,0,1,0,0] (xP hj cx eN) (CF hj cx eN) d8 r:=dK (fun _=>HH) h
def oc (aQ:cX) (hj:ByteArray):Option Int :=
 pZ hj aQ.bs (len_ au aQ.bs) 0 >>= fun r1 =>
 match r1 with
 | .inl cw=>(some (-1))
 | .inr cw=>(some cw)
theorem Jb {aQ:cX} {hj:ByteArray}:bm (oc aQ hj) (fun r=>Con a2 45 [.agg [.isl 4 (aQ.bs.map au),.isl 3 (aQ.bZ.map ay)],.s hj] [] (.n .i64 r) []):=by
 unfold oc
 exact .aJ fun r1 R =>
  (let t1:List bx:=[.J (o 2 []),.J (o 4 []),.a0 [] [] (bf [1,8,9,10])];
  (by
  rcases r1 with cw|cw
  ·exact (.ret (a8 (t1.append [.sub (.exit 0) [] [],.J (o 1 [])]) (.e1 (CM R))))
  ·exact (.ret (a8 (t1.append [.sub (.ret) [(4,.n .i64 cw)] []]) (.e1 (CM R))))))
def xF (fR:(List aB)) (ev:Int) (gj:(List aN)):Int→S:=fun j6=>c6 [(1,.ref 0 0 0 0),(21,.isl 4 (fR.map au)),(22,.n .i64 ev),(23,.n .i64 j6)] [[ae.mk 2 [[.isl 4 (fR.map au),.isl 3 (gj.map ay)]] .live]]
def xQ (fR:(List aB)) (ev:Int) (gj:(List aN)):((Unit)⊕(Unit))→dc
 | .inl a=>⟨some 0,[(1,.ref 0 0 0 0)],[[ae.mk 2 [[.isl 4 (fR.map au),.isl 3 (gj.map ay)]] .live]]⟩
 | .inr a=>⟨none,[(2,.b false)],[]⟩
def l3 (fR:(List aB)) (ev:Int) (gj:(List aN)) (j6:Int):Option ((Int)⊕((Unit)⊕(Unit))) :=
 if (decide (j6<ev))=true then
  if 0≤j6∧j6<fR.length then
  fR[j6.toNat]? >>= fun al =>
  lz al >>= fun aZ =>
  if aZ=true then
   oc (⟨fR,gj⟩:cX) al.cu >>= fun en =>
   if (en != j6)=true then
    some (.inr (.inr ()))
   else
    some (.inl (ab (j6+(1:Int))))
  else
   some (.inr (.inr ()))
  else none
 else
  some (.inr (.inl ()))
def n2 (fR:(List aB)) (ev:Int) (gj:(List aN)) (j6:Int):Option ((Unit)⊕(Unit)):=iter (fun w:Int=>l3 fR ev gj w) j6
theorem Hx {fR:(List aB)} {ev:Int} {gj:(List aN)} {j6:Int}:bm (l3 fR ev gj j6) (dI a2 102 0 21 [1,1,0,1,0,0] (xF fR ev gj j6) (xF fR ev gj) (xQ fR ev gj)):=by
 unfold l3
 exact .ite (fun h1 =>
  .bu fun R =>
  .aJ fun al ax =>
  .aJ fun aZ ba =>
  (let t1:List bx:=[.J (o 1 []),.af true,.J (o 2 (aj (.bQ (au al)) (o 3 [])))];
  have aO:=((.ez h1 R.1 (c9 au R.2) (cm au ax) (J0 aZ ba) (a1.b aZ)):b2 _);
  .ite (fun a5 =>
  .aJ fun en dv =>
  (let t3:List bx:=t1.append [.J (o 1 (aj (bM 1 (.b aZ) true) (o 5 (aj (bM 2 (.n .i64 en) true) (o 2 (aj (.af false) []))))))];
  have c8:=aO.aC (.br (bE a5) (bE a5) (bE a5) (bE a5) (Jb en dv) (a1.n .i64 en) (bE a5) (bE a5) (.e1 (bE a5)));
  .ite (fun df =>
  .ret (bi (t3.append [.af true,.J (o 1 []),.a0 [] [] (bf [2])]) (c8.aC (.e1 df))))
  (fun df =>
  .ret (bi (t3.append [.af false,.J (o 2 []),.a0 [0] [.box [.id,.id]] (bf [1,21,22,23])]) (c8.aC (.e1 df))))))
  (fun a5 =>
  .ret (bi (t1.append [.J (o 1 (aj (bM 1 (.b aZ) true) (o 2 (cc 6 (aj (.af true) []))))),.af true,.J (o 1 []),.a0 [] [] (bf [2])]) (aO.aC (.hN (bS a5) (bS a5) (bS a5) (bS a5) (bS a5) (bS a5) (bS a5) bF))))))
  (fun h1 =>
  .ret (bi [.J (o 1 []),.af false,.a0 [0] [.box [.id,.id]] (bf [1])] (.e1 h1)))
theorem CG {fR:(List aB)} {ev:Int} {gj:(List aN)} {j6:Int} {r} (h:n2 fR ev gj j6=some r):dJ a2 102 0 21 [1,1,0,1,0,0] (xF fR ev gj) (xQ fR ev gj) j6 r:=dK (fun _=>Hx) h
def xG (j4:Int) (jL:(List aN)) (kn:Int) (js:(List aB)):Int→S:=fun jt=>c6 [(1,.ref 0 0 0 0),(5,.n .i64 j4),(45,.isl 3 (jL.map ay)),(46,.n .i64 kn),(47,.n .i64 jt)] [[ae.mk 2 [[.isl 4 (js.map au),.isl 3 (jL.map ay)]] .live]]
def CC (j4:Int) (jL:(List aN)) (kn:Int) (js:(List aB)):((Unit)⊕(Unit))→dc
 | .inl a=>⟨some 2,[],[]⟩
 | .inr a=>⟨none,[(2,.b false)],[]⟩
def rF (j4:Int) (jL:(List aN)) (kn:Int) (js:(List aB)) (jt:Int):Option ((Int)⊕((Unit)⊕(Unit))) :=
 if (decide (jt<kn))=true then
  if 0≤jt∧jt<jL.length then
  jL[jt.toNat]? >>= fun al =>
  kA al.dg 0 j4 >>= fun aZ =>
  if aZ=true then
   kA al.c0 0 j4 >>= fun en =>
   if en=true then
    kA al.dq 1 3 >>= fun gq =>
    if gq=true then
     if 0≤al.dg∧al.dg<js.length then
     js[al.dg.toNat]? >>= fun eT =>
     if 0≤al.c0∧al.c0<js.length then
     js[al.c0.toNat]? >>= fun rl =>
     if (eT.c5 == rl.c5)=true then
      if (eT.cJ == rl.cJ)=true then
       some (.inr (.inr ()))
      else
       if eT.cf=true then
        if rl.cf=true then
         some (.inr (.inr ()))
        else
         some (.inl (ab (jt+(1:Int))))
       else
        some (.inl (ab (jt+(1:Int))))
     else
      if eT.cf=true then
       if rl.cf=true then
        some (.inr (.inr ()))
       else
        some (.inl (ab (jt+(1:Int))))
      else
       some (.inl (ab (jt+(1:Int))))
     else none
     else none
    else
     some (.inr (.inr ()))
   else
    some (.inr (.inr ()))
  else
   some (.inr (.inr ()))
  else none
 else
  some (.inr (.inl ()))
def yD (j4:Int) (jL:(List aN)) (kn:Int) (js:(List aB)) (jt:Int):Option ((Unit)⊕(Unit)):=iter (fun w:Int=>rF j4 jL kn js w) jt
theorem Hy {j4:Int} {jL:(List aN)} {kn:Int} {js:(List aB)} {jt:Int}:bm (rF j4 jL kn js jt) (dI a2 102 0 21 [1,1,1,1,0,1,0,0] (xG j4 jL kn js jt) (xG j4 jL kn js) (CC j4 jL kn js)):=by
 unfold rF
 exact .ite (fun h1 =>
  .bu fun R =>
  .aJ fun al ax =>
  .aJ fun aZ ba =>
  (let t1:List bx:=[.J (o 1 []),.af true,.J (o 1 (aj (.bQ (ay al)) (o 2 [])))];
  have aO:=((.ez h1 R.1 (c9 ay R.2) (cm ay ax) (oe aZ ba) (a1.b aZ)):b2 _);
  .ite (fun a5 =>
  .aJ fun en dv =>
  (have eJ:=aO.aC (.hN (bE a5) (bE a5) (bE a5) (bE a5) (oe en dv) (a1.b en) (bE a5) (bE a5));
  .ite (fun df =>
  .aJ fun gq ht =>
  (let t4:List bx:=t1.append [.J (o 3 (aj (bM 3 (.b aZ) true) (o 5 (aj (bM 3 (.b en) true) (o 1 (aj (.af false) (o 3 (aj (bM 3 (.b gq) true) (o 1 (aj (.af false) []))))))))))];
  have jF:=eJ.aC (.eQ (bE df) (bE df) (bE df) (oe gq ht) (a1.b gq) (bE df) (bE df));
  .ite (fun e9 =>
  .bu fun eI =>
  .aJ fun eT jT =>
  .bu fun rm =>
  .aJ fun rl dY =>
  (let t6:List bx:=t4.append [.af false,.J (o 5 (aj (.bQ (au eT)) (o 2 []))),.J (o 5 (aj (.bQ (au rl)) (o 2 [])))];
  have Co:=jF.aC (.eQ (bE e9) eI.1 (c9 au eI.2) (cm au jT) rm.1 (c9 au rm.2) (cm au dY));
  .ite (fun e4 =>
  .ite (fun gR =>
  .ret (bi (t6.append [.J (o 11 (aj (.af true) (o 1 (cc 3 (o 2 (cc 1 (aj (.af true) []))))))),.af true,.J (o 1 []),.a0 [] [] (bf [2])]) (Co.aC (.br e4 e4 e4 e4 e4 e4 gR gR (.cI gR gR gR bF)))))
  (fun gR =>
  (have hO:=Co.aC (.br e4 e4 e4 e4 e4 e4 gR gR (.e1 gR));
  .ite (fun hJ =>
  (let t9:List bx:=t6.append [.J (o 11 (aj (.af true) (o 6 (aj (.af true) (aj (.af false) [])))))];
  .ite (fun iQ =>
  .ret (bi (t9.append [.af true,.J (o 1 []),.a0 [] [] (bf [2])]) (hO.aC (.ez hJ hJ gR hJ gR iQ))))
  (fun iQ =>
  .ret (bi (t9.append [.af false,.J (o 2 []),.a0 [0] [.box [.id,.id]] (bf [1,5,45,46,47])]) (hO.aC (.ez hJ hJ gR hJ gR iQ))))))
  (fun hJ =>
  .ret (bi (t6.append [.J (o 11 (aj (.af true) (o 4 (cc 2 (aj (.af false) (aj (.af false) [])))))),.af false,.J (o 2 []),.a0 [0] [.box [.id,.id]] (bf [1,5,45,46,47])]) (hO.aC (.ez hJ hJ gR hJ gR hg)))))))
  (fun e4 =>
  (have hO:=Co.aC (.br e4 e4 e4 e4 e4 e4 hg hg (.e1 hg));
  .ite (fun gR =>
  (let t9:List bx:=t6.append [.J (o 6 (cc 5 (aj (.af false) (o 6 (aj (.af true) (o 1 []))))))];
  .ite (fun hJ =>
  .ret (bi (t9.append [.af true,.J (o 1 []),.a0 [] [] (bf [2])]) (hO.aC (.dM gR gR hg gR hJ))))
  (fun hJ =>
  .ret (bi (t9.append [.af false,.J (o 2 []),.a0 [0] [.box [.id,.id]] (bf [1,5,45,46,47])]) (hO.aC (.dM gR gR hg gR hJ))))))
  (fun gR =>
  .ret (bi (t6.append [.J (o 6 (cc 5 (aj (.af false) (o 4 (cc 2 (aj (.af false) (o 1 []))))))),.af false,.J (o 2 []),.a0 [0] [.box [.id,.id]] (bf [1,5,45,46,47])]) (hO.aC (.dM gR gR hg gR hg))))))))
  (fun e9 =>
  .ret (bi (t4.append [.af true,.J (o 1 []),.a0 [] [] (bf [2])]) (jF.aC (.e1 (bS e9)))))))
  (fun df =>
  .ret (bi (t1.append [.J (o 3 (aj (bM 3 (.b aZ) true) (o 5 (aj (bM 3 (.b en) true) (o 1 (aj (.af false) (o 1 (cc 4 (aj (.af true) []))))))))),.af true,.J (o 1 []),.a0 [] [] (bf [2])]) (eJ.aC (.ez (bS df) (bS df) (bS df) (bS df) (bS df) bF))))))
  (fun a5 =>
  .ret (bi (t1.append [.J (o 3 (aj (bM 3 (.b aZ) true) (o 2 (cc 5 (aj (.af true) (o 1 (cc 4 (o 1 [])))))))),.af true,.J (o 1 []),.a0 [] [] (bf [2])]) (aO.aC (.br (bS a5) (bS a5) (bS a5) (bS a5) (bS a5) (bS a5) bF bF (.bp bF bF bF)))))))
  (fun h1 =>
  .ret (bi [.J (o 1 []),.af false,.a0 [] [] []] (.e1 h1)))
theorem CH {j4:Int} {jL:(List aN)} {kn:Int} {js:(List aB)} {jt:Int} {r} (h:yD j4 jL kn js jt=some r):dJ a2 102 0 21 [1,1,1,1,0,1,0,0] (xG j4 jL kn js) (CC j4 jL kn js) jt r:=dK (fun _=>Hy) h
def m7 (aQ:cX):Option Bool :=
 if (decide ((6:Int)<(len_ au aQ.bs)))=true then
  some false
 else
  if (decide ((8:Int)<(len_ ay aQ.bZ)))=true then
   some false
  else
   n2 aQ.bs (len_ au aQ.bs) aQ.bZ 0 >>= fun bY =>
   match bY with
   | .inl j0=>(yD (ab ((len_ au aQ.bs)-(1:Int))) aQ.bZ (len_ ay aQ.bZ) aQ.bs 0 >>= fun ec =>
    match ec with
    | .inl iB=>(some true)
    | .inr iB=>(some false))
   | .inr j0=>(some false)
theorem CW {aQ:cX}:bm (m7 aQ) (fun r=>Con a2 21 [.agg [.isl 4 (aQ.bs.map au),.isl 3 (aQ.bZ.map ay)]] [] (.b r) []):=by
 unfold m7
 exact .ite (fun h1 =>
  .ret (a8 [.J (o 2 []),.J (o 5 (cc 4 (aj (.af true) []))),.af true,.J (o 1 [])] (.ez h1 h1 h1 h1 h1 bF)))
  (fun h1 =>
  (let t1:List bx:=[.J (o 2 []),.J (o 9 (aj (.af false) []))];
  .ite (fun R =>
  .ret (a8 (t1.append [.af true,.J (o 1 [])]) (.ez h1 h1 h1 h1 h1 R)))
  (fun R =>
  .aJ fun bY ax =>
  (let t2:List bx:=t1.append [.af false,.J (o 4 []),.a0 [0] [.box [.id,.id]] (bf [1,21,22,23])];
  (by
  rcases bY with j0|j0
  ·exact (.aJ fun ec a5 =>
  (let t3:List bx:=t2.append [(xQ aQ.bs (len_ au aQ.bs) aQ.bZ (.inl j0)).eU,.J (o 5 []),.J (o 4 []),.a0 [0] [.box [.id,.id]] (bf [1,5,45,46,47])];
  have c8:=((.eQ h1 h1 h1 h1 h1 R (CG ax)):b2 _);
  (by
  rcases ec with iB|iB
  ·exact (.ret (a8 (t3.append [.sub (.exit 2) [] [],.J (o 1 [])]) (c8.aC (.e1 (CH a5)))))
  ·exact (.ret (a8 (t3.append [.sub (.ret) [(2,.b false)] []]) (c8.aC (.e1 (CH a5))))))))
  ·exact (.ret (a8 (t2.append [.sub (.ret) [(2,.b false)] []]) (.eQ h1 h1 h1 h1 h1 R (CG ax)))))))))
def y2 (aa:(List Int)) (eC:Int):Int→S:=fun cg=>c6 [(0,.isl 1 (aa.map U)),(5,.isl 1 (aa.map U)),(6,.n .i64 eC),(7,.n .i64 cg)] []
def Dg (aa:(List Int)) (eC:Int):((Unit)⊕(Unit))→dc
 | .inl a=>⟨some 0,[(0,.isl 1 (aa.map U))],[]⟩
 | .inr a=>⟨none,[(2,.b false)],[]⟩
def p2 (aa:(List Int)) (eC:Int) (cg:Int):Option ((Int)⊕((Unit)⊕(Unit))) :=
 if (decide (cg<eC))=true then
  if 0≤cg∧cg<aa.length then
  aa[cg.toNat]? >>= fun al =>
  kA al 0 999999999 >>= fun aZ =>
  if aZ=true then
   some (.inl (ab (cg+(1:Int))))
  else
   some (.inr (.inr ()))
  else none
 else
  some (.inr (.inl ()))
def z7 (aa:(List Int)) (eC:Int) (cg:Int):Option ((Unit)⊕(Unit)):=iter (fun w:Int=>p2 aa eC w) cg
theorem IB {aa:(List Int)} {eC:Int} {cg:Int}:bm (p2 aa eC cg) (dI a2 32 0 78 [1,0,1,0,0] (y2 aa eC cg) (y2 aa eC) (Dg aa eC)):=by
 unfold p2
 exact .ite (fun h1 =>
  .bu fun R =>
  .aJ fun al ax =>
  .aJ fun aZ ba =>
  (let t1:List bx:=[.J (o 1 []),.af true,.J (o 1 (aj (.bQ (U al)) (o 1 []))),.J (o 1 (aj (bM 3 (.b aZ) true) (o 1 [])))];
  have aO:=((.ez h1 R.1 (c9 U R.2) (cm U ax) (oe aZ ba) (a1.b aZ)):b2 _);
  .ite (fun a5 =>
  .ret (bi (t1.append [.af false,.J (o 2 []),.a0 [] [] (bf [0,5,6,7])]) (aO.aC (.e1 (bE a5)))))
  (fun a5 =>
  .ret (bi (t1.append [.af true,.J (o 1 []),.a0 [] [] (bf [2])]) (aO.aC (.e1 (bS a5)))))))
  (fun h1 =>
  .ret (bi [.J (o 1 []),.af false,.a0 [] [] (bf [0])] (.e1 h1)))
theorem zx {aa:(List Int)} {eC:Int} {cg:Int} {r} (h:z7 aa eC cg=some r):dJ a2 32 0 78 [1,0,1,0,0] (y2 aa eC) (Dg aa eC) cg r:=dK (fun _=>IB) h
def nh (aa:(List Int)):Option Bool :=
 z7 aa (len_ U aa) 0 >>= fun r1 =>
 match r1 with
 | .inl cw=>(if (decide ((len_ U aa)≤(60:Int)))=true then
  if ((len_ U aa) == (0:Int))=true then
   some true
  else
   if 0≤(ab ((len_ U aa)-(1:Int)))∧(ab ((len_ U aa)-(1:Int)))<aa.length then
   aa[(ab ((len_ U aa)-(1:Int))).toNat]? >>= fun b1 =>
   some (b1 != (0:Int))
   else none
  else
   some false)
 | .inr cw=>(some false)
theorem z8 {aa:(List Int)}:bm (nh aa) (fun r=>Con a2 78 [.isl 1 (aa.map U)] [] (.b r) []):=by
 unfold nh
 exact .aJ fun r1 R =>
  (let t1:List bx:=[.J (o 1 []),.J (o 3 []),.a0 [] [] (bf [0,5,6,7])];
  (by
  rcases r1 with cw|cw
  ·exact ((let t2:List bx:=t1.append [.sub (.exit 0) [(0,.isl 1 (aa.map U))] []];
  .ite (fun ax =>
  (have eJ:=((.dM (zx R) ax ax ax ax):b2 _);
  .ite (fun aM =>
  .ret (a8 (t2.append [.J (o 8 (cc 7 (aj (.af true) (aj (.af true) (o 1 [])))))]) (eJ.aC (.br aM aM aM aM aM aM aM ax (.az aM ax)))))
  (fun aM =>
  .bu fun ba =>
  .aJ fun b1 bV =>
  .ret (a8 (t2.append [.J (o 13 (aj (.bQ (U b1)) (o 1 (aj (.af false) (aj (.af true) (o 1 []))))))]) (eJ.aC (.br aM aM aM aM aM ba.1 (c9 U ba.2) aM (.dM (cm U bV) aM ax aM ax)))))))
  (fun ax =>
  .ret (a8 (t2.append [.J (o 4 (cc 4 (o 7 (cc 1 (aj (.af false) (o 1 []))))))]) (.eQ (zx R) ax ax ax ax ax ax)))))
  ·exact (.ret (a8 (t1.append [.sub (.ret) [(2,.b false)] []]) (.e1 (zx R))))))
def og (cO:hi):Option Bool :=
 nh cO.cn >>= fun r1 =>
 if r1=true then
  if cO.fo=true then
   some (decide ((0:Int)<(len_ U cO.cn)))
  else
   some true
 else
  some false
theorem Ds {cO:hi}:bm (og cO) (fun r=>Con a2 68 [.agg [.b cO.fo,.isl 1 (cO.cn.map U)]] [] (.b r) []):=by
 unfold og
 exact .aJ fun r1 R =>
  (have bz:=((.az (z8 r1 R) (a1.b r1)):b2 _);
  .ite (fun ai =>
  .ite (fun ax =>
  .ret (a8 [.J (o 2 []),.J (o 2 (aj (bM 1 (.b r1) true) (o 9 (aj (.af false) (aj (.af true) (o 1 []))))))] (bz.aC (.br ai ai ai ai (bE ax) (bE ax) (bE ax) (bE ax) (.bp ai (bE ax) ai)))))
  (fun ax =>
  .ret (a8 [.J (o 2 []),.J (o 2 (aj (bM 1 (.b r1) true) (o 5 (cc 4 (aj (.af true) (aj (.af true) (o 1 [])))))))] (bz.aC (.br ai ai ai ai (bS ax) (bS ax) (bS ax) (bS ax) (.bp ai (bS ax) ai))))))
  (fun ai =>
  .ret (a8 [.J (o 2 []),.J (o 2 (aj (bM 1 (.b r1) true) (o 1 (cc 4 (o 4 (cc 1 (aj (.af false) (o 1 []))))))))] (bz.aC (.ez ai ai ai ai ai ai)))))
def yE (aa:(List Int)) (aw:(List Int)):Int→S:=fun ah=>c6 [(0,.isl 1 (aa.map U)),(1,.isl 1 (aw.map U)),(5,.n .i64 ah)] []
def C5 (aa:(List Int)) (aw:(List Int)):((Unit)⊕(Int))→dc
 | .inl a=>⟨some 0,[],[]⟩
 | .inr a=>⟨none,[(4,.n .i64 a)],[]⟩
def pS (aa:(List Int)) (aw:(List Int)) (ah:Int):Option ((Int)⊕((Unit)⊕(Int))) :=
 if (decide ((0:Int)≤ah))=true then
  if 0≤ah∧ah<aa.length then
  aa[ah.toNat]? >>= fun al =>
  if 0≤ah∧ah<aw.length then
  aw[ah.toNat]? >>= fun bP =>
  if (decide (al<bP))=true then
   some (.inr (.inr (-1)))
  else
   if (decide (bP<al))=true then
    some (.inr (.inr 1))
   else
    some (.inl (ab (ah-(1:Int))))
  else none
  else none
 else
  some (.inr (.inl ()))
def zU (aa:(List Int)) (aw:(List Int)) (ah:Int):Option ((Unit)⊕(Int)):=iter (fun w:Int=>pS aa aw w) ah
theorem Ik {aa:(List Int)} {aw:(List Int)} {ah:Int}:bm (pS aa aw ah) (dI a2 41 0 80 [1,1,0,1,0,0] (yE aa aw ah) (yE aa aw) (C5 aa aw)):=by
 unfold pS
 exact .ite (fun h1 =>
  .bu fun R =>
  .aJ fun al ax =>
  .bu fun aM =>
  .aJ fun bP a5 =>
  (let t1:List bx:=[.J (o 2 []),.af true,.J (o 3 (aj (.bQ (U al)) (o 3 (aj (.bQ (U bP)) (o 1 [])))))];
  have aO:=((.eQ h1 R.1 (c9 U R.2) (cm U ax) aM.1 (c9 U aM.2) (cm U a5)):b2 _);
  .ite (fun bV =>
  .ret (bi (t1.append [.af true,.J (o 1 []),.a0 [] [] (bf [4])]) (aO.aC (.e1 bV))))
  (fun bV =>
  (let t3:List bx:=t1.append [.af false,.J (o 3 (aj (.bQ (U al)) (o 3 (aj (.bQ (U bP)) (o 1 [])))))];
  have c8:=aO.aC (.eQ bV R.1 (c9 U R.2) (cm U ax) aM.1 (c9 U aM.2) (cm U a5));
  .ite (fun dv =>
  .ret (bi (t3.append [.af true,.J (o 1 []),.a0 [] [] (bf [4])]) (c8.aC (.e1 dv))))
  (fun dv =>
  .ret (bi (t3.append [.af false,.J (o 3 []),.a0 [] [] (bf [0,1,5])]) (c8.aC (.e1 dv))))))))
  (fun h1 =>
  .ret (bi [.J (o 2 []),.af false,.a0 [] [] []] (.e1 h1)))
theorem Dh {aa:(List Int)} {aw:(List Int)} {ah:Int} {r} (h:zU aa aw ah=some r):dJ a2 41 0 80 [1,1,0,1,0,0] (yE aa aw) (C5 aa aw) ah r:=dK (fun _=>Ik) h
def oo (aa:(List Int)) (aw:(List Int)):Option Int :=
 if ((len_ U aa) != (len_ U aw))=true then
  if (decide ((len_ U aa)<(len_ U aw)))=true then
   some (-1)
  else
   some 1
 else
  zU aa aw (ab ((len_ U aa)-(1:Int))) >>= fun bj =>
  match bj with
  | .inl ei=>(some 0)
  | .inr ei=>(some ei)
theorem zV {aa:(List Int)} {aw:(List Int)}:bm (oo aa aw) (fun r=>Con a2 80 [.isl 1 (aa.map U),.isl 1 (aw.map U)] [] (.n .i64 r) []):=by
 unfold oo
 exact .ite (fun h1 =>
  (let t1:List bx:=[.J (o 1 []),.J (o 5 []),.af true,.J (o 5 [])];
  .ite (fun R =>
  .ret (a8 (t1.append [.af true,.J (o 1 [])]) (.az h1 R)))
  (fun R =>
  .ret (a8 (t1.append [.af false,.J (o 1 [])]) (.az h1 R)))))
  (fun h1 =>
  .aJ fun bj ai =>
  (let t1:List bx:=[.J (o 1 []),.J (o 5 []),.af false,.J (o 4 []),.a0 [] [] (bf [0,1,5])];
  (by
  rcases bj with ei|ei
  ·exact (.ret (a8 (t1.append [.sub (.exit 0) [] [],.J (o 1 [])]) (.az h1 (Dh ai))))
  ·exact (.ret (a8 (t1.append [.sub (.ret) [(4,.n .i64 ei)] []]) (.az h1 (Dh ai)))))))
def x8 (aa:(List Int)):(Int×Int)→S:=fun (bd,ah)=>c6 [(0,.isl 1 (aa.map U)),(4,.n .i64 bd),(5,.n .i64 ah)] []
def yn (aa:(List Int)):Int→dc
 | a=>⟨some 0,[(4,.n .i64 a)],[]⟩
def pI (aa:(List Int)) (bd:Int) (ah:Int):Option ((Int×Int)⊕(Int)) :=
 if (decide ((0:Int)≤ah))=true then
  if 0≤ah∧ah<aa.length then
  aa[ah.toNat]? >>= fun al =>
  some (.inl (ab ((ab (bd*(1000000000:Int)))+al),ab (ah-(1:Int))))
  else none
 else
  some (.inr bd)
def p7 (aa:(List Int)) (bd:Int) (ah:Int):Option (Int):=iter (fun w:Int×Int=>pI aa w.1 w.2) (bd,ah)
theorem HT {aa:(List Int)} {bd:Int} {ah:Int}:bm (pI aa bd ah) (dI a2 30 0 67 [1,1,1,0,1,0,0] (x8 aa (bd,ah)) (x8 aa) (yn aa)):=by
 unfold pI
 exact .ite (fun h1 =>
  .bu fun R =>
  .aJ fun al ax =>
  .ret (bi [.J (o 2 []),.af true,.J (o 5 (aj (.bQ (U al)) (o 2 []))),.J (o 3 []),.a0 [] [] (bf [0,4,5])] (.cI h1 R.1 (c9 U R.2) (cm U ax))))
  (fun h1 =>
  .ret (bi [.J (o 2 []),.af false,.a0 [] [] (bf [4])] (.e1 h1)))
theorem I1 {aa:(List Int)} {bd:Int} {ah:Int} {r} (h:p7 aa bd ah=some r):dJ a2 30 0 67 [1,1,1,0,1,0,0] (x8 aa) (yn aa) (bd,ah) r:=dK (fun _=>HT) h
def l6 (aa:(List Int)):Option (Int×Bool) :=
 nh aa >>= fun r1 =>
 if r1=true then
  oo aa ([854775807,223372036,9]:List Int) >>= fun bg =>
  if (decide ((0:Int)<bg))=true then
   some (0,false)
  else
   p7 aa 0 (ab ((len_ U aa)-(1:Int))) >>= fun aF =>
   some (aF,true)
 else
  some (0,false)
theorem zy {aa:(List Int)}:bm (l6 aa) (fun r=>Con a2 67 [.isl 1 (aa.map U)] [] (.cy [.n .i64 r.1,.b r.2]) []):=by
 unfold l6
 exact .aJ fun r1 R =>
  (have bz:=((.az (z8 r1 R) (a1.b r1)):b2 _);
  .ite (fun ai =>
  .aJ fun bg aM =>
  (let t2:List bx:=[.J (o 2 []),.J (o 1 (aj (bM 1 (.b r1) true) (o 4 (aj (.call {ac:=[ii,.bI (.cb (.db (([854775807,223372036,9]:List Int).map U)))],r:= .n .i64 bg,cH:=true,cK:=[7]}) (o 1 (aj (.af false) []))))))];
  have eJ:=bz.aC (.br (bE ai) (bE ai) (bE ai) (d7 (show [[.n .i64 (854775807:Int)],[.n .i64 (223372036:Int)],[.n .i64 (9:Int)]]=(([854775807,223372036,9]:List Int)).map U from rfl) (show 3=([854775807,223372036,9]:List Int).length from rfl)) (cY (show [[.n .i64 (854775807:Int)],[.n .i64 (223372036:Int)],[.n .i64 (9:Int)]]=(([854775807,223372036,9]:List Int)).map U from rfl) (show 3=([854775807,223372036,9]:List Int).length from rfl)) (cM bG ([854775807,223372036,9]:List Int)) (zV bg aM) (a1.n .i64 bg) (.az (bE ai) (bE ai)));
  .ite (fun ba =>
  .ret (a8 (t2.append [.af true,.J (o 2 [])]) (eJ.aC (.e1 ba))))
  (fun ba =>
  .aJ fun aF bV =>
  .ret (a8 (t2.append [.af false,.J (o 1 []),.J (o 4 []),.a0 [] [] (bf [0,4,5]),(yn aa aF).eU,.J (o 3 [])]) (eJ.aC (.az ba (I1 bV)))))))
  (fun ai =>
  .ret (a8 [.J (o 2 []),.J (o 1 (aj (bM 1 (.b r1) true) (o 2 (cc 4 (aj (.af true) []))))),.af true,.J (o 2 [])] (bz.aC (.ez (bS ai) (bS ai) (bS ai) (bS ai) (bS ai) bF)))))
def y3:(Int×(List Int))→S:=fun (bd,an)=>c6 [(0,.n .i64 bd),(3,.aV 0 0 0 an.length)] [[ae.mk 1 (an.map U) .live]]
def zj:(List Int)→dc
 | a=>⟨some 0,[(3,.aV 0 0 0 a.length)],[[ae.mk 1 (a.map U) .live]]⟩
def p3 (bd:Int) (an:(List Int)):Option ((Int×(List Int))⊕((List Int))) :=
 if (decide ((0:Int)<bd))=true then
  if (an++([bd.tmod (1000000000:Int)]:List Int)).length*8≤140737488355328 then
  some (.inl (ab (bd.tdiv (1000000000:Int)),an++([bd.tmod (1000000000:Int)]:List Int)))
  else none
 else
  some (.inr an)
def z9 (bd:Int) (an:(List Int)):Option ((List Int)):=iter (fun w:Int×(List Int)=>p3 w.1 w.2) (bd,an)
theorem IC {bd:Int} {an:(List Int)}:bm (p3 bd an) (dI a2 15 0 89 [1,1,0,0,0] (y3 (bd,an)) (y3) (zj)):=by
 unfold p3
 exact .ite (fun h1 =>
  .bu fun R =>
  .ret (bi [.J (o 2 []),.af true,.J (o 4 (aj (.aC ((an++([bd.tmod (1000000000:Int)]:List Int)).length)) (o 1 []))),.J (o 3 []),.a0 [7] [.dP [ae.mk 1 ((an++([bd.tmod (1000000000:Int)]:List Int)).map U) .live]] (bf [0,3])] (.br h1 (by decide:(1000000000:Int)≠0) (cY (show [[.n .i64 (bd.tmod (1000000000:Int))]]=(([bd.tmod (1000000000:Int)]:List Int)).map U from rfl) (show 1=([bd.tmod (1000000000:Int)]:List Int).length from rfl)) (jq (aT U an) (bw an)) (jr (bw an) (ia (show [[.n .i64 (bd.tmod (1000000000:Int))]]=(([bd.tmod (1000000000:Int)]:List Int)).map U from rfl) (show 1=([bd.tmod (1000000000:Int)]:List Int).length from rfl)):(an++([bd.tmod (1000000000:Int)]:List Int)).length=an.length+(([[.n .i64 (bd.tmod (1000000000:Int))]].drop 0).take 1).length) R (by decide:(1000000000:Int)≠0) (eA 1 .live (hP (aT U an) (bw an) (ia (show [[.n .i64 (bd.tmod (1000000000:Int))]]=(([bd.tmod (1000000000:Int)]:List Int)).map U from rfl) (show 1=([bd.tmod (1000000000:Int)]:List Int).length from rfl)))) (.e1 (bD 1 .live bG (an++([bd.tmod (1000000000:Int)]:List Int)))))))
  (fun h1 =>
  .ret (bi [.J (o 2 []),.af false,.a0 [0] [.pure] (bf [3])] (.az h1 (bD 1 .live bG an))))
theorem JH {bd:Int} {an:(List Int)} {r} (h:z9 bd an=some r):dJ a2 15 0 89 [1,1,0,0,0] (y3) (zj) (bd,an) r:=dK (fun _=>IC) h
def ni (bd:Int):Option (List Int) :=
 z9 bd ([]:List Int) >>= fun r1 =>
 some r1
theorem vh {bd:Int}:bm (ni bd) (fun r=>Con a2 89 [.n .i64 bd] [] (.isl 1 (r.map U)) []):=by
 unfold ni
 exact .aJ fun r1 R =>
  .ret (a8 [.J (o 1 []),.J (o 2 []),.a0 [1] [.dP [ae.mk 1 (([]:List Int).map U) .live]] [(0,ii),(3,fV (([]:List Int).length))],(zj r1).eU,.J (o 2 [])] (.eQ (eA 1 .live (show []=(([]:List Int)).map U from rfl)) (bD 1 .live bG ([]:List Int)) (show 0=([]:List Int).length from rfl) (JH R) (d7 (aT U r1) (bw r1)) (cY (aT U r1) (bw r1)) (cM bG r1)) (.bI (.cb (.db (r1.map U)))))
def x9:(Int×Int)→S:=fun (cO,fG)=>c6 [(0,.n .i64 cO),(1,.n .i64 fG)] []
def yo:Int→dc
 | a=>⟨some 0,[(0,.n .i64 a)],[]⟩
def pJ (cO:Int) (fG:Int):Option ((Int×Int)⊕(Int)) :=
 if (decide ((0:Int)<fG))=true then
  if fG≠0 then
  some (.inl (fG,cO.tmod fG))
  else none
 else
  some (.inr cO)
def zz (cO:Int) (fG:Int):Option (Int):=iter (fun w:Int×Int=>pJ w.1 w.2) (cO,fG)
theorem HU {cO:Int} {fG:Int}:bm (pJ cO fG) (dI a2 15 0 84 [1,0,0,0] (x9 (cO,fG)) (x9) (yo)):=by
 unfold pJ
 exact .ite (fun h1 =>
  .bu fun R =>
  .ret (bi [.J (o 2 []),.af true,.J (o 4 []),.J (o 2 []),.J (o 2 []),.a0 [] [] (bf [0,1])] (.az h1 R)))
  (fun h1 =>
  .ret (bi [.J (o 2 []),.af false,.a0 [] [] (bf [0])] (.e1 h1)))
theorem I2 {cO:Int} {fG:Int} {r} (h:zz cO fG=some r):dJ a2 15 0 84 [1,0,0,0] (x9) (yo) (cO,fG) r:=dK (fun _=>HU) h
def r4 (cO:Int) (fG:Int):Option (List Int) :=
 zz cO fG >>= fun r1 =>
 ni r1 >>= fun bY =>
 some bY
theorem JI {cO:Int} {fG:Int}:bm (r4 cO fG) (fun r=>Con a2 84 [.n .i64 cO,.n .i64 fG] [] (.isl 1 (r.map U)) []):=by
 unfold r4
 exact .aJ fun r1 R =>
  .aJ fun bY ax =>
  .ret (a8 [.J (o 1 []),.a0 [] [] (bf [0,1]),(yo r1).eU,.J (o 1 (aj (bM 1 (.isl 1 (bY.map U)) false) (o 1 [])))] (.az (I2 R) (vh bY ax)))
def yp (aa:(List Int)):Int→S:=fun bd=>c6 [(0,.isl 1 (aa.map U)),(3,.n .i64 bd)] []
def yF (aa:(List Int)):Int→dc
 | a=>⟨some 0,[(0,.isl 1 (aa.map U)),(3,.n .i64 a)],[]⟩
def nZ (aa:(List Int)) (bd:Int):Option ((Int)⊕(Int)) :=
 if (decide ((0:Int)<bd))=true then
  if 0≤(ab (bd-(1:Int)))∧(ab (bd-(1:Int)))<aa.length then
  aa[(ab (bd-(1:Int))).toNat]? >>= fun al =>
  if (al == (0:Int))=true then
   some (.inl (ab (bd-(1:Int))))
  else
   some (.inr bd)
  else none
 else
  some (.inr bd)
def zM (aa:(List Int)) (bd:Int):Option (Int):=iter (fun w:Int=>nZ aa w) bd
theorem H7 {aa:(List Int)} {bd:Int}:bm (nZ aa bd) (dI a2 21 0 91 [1,1,0,0,0] (yp aa bd) (yp aa) (yF aa)):=by
 unfold nZ
 exact .ite (fun h1 =>
  .bu fun R =>
  .aJ fun al ax =>
  (let t1:List bx:=[.J (o 7 (aj (.bQ (U al)) (o 1 (aj (.af true) []))))];
  have aO:=((.br h1 h1 h1 h1 R.1 (c9 U R.2) h1 (cm U ax) (.az h1 h1)):b2 _);
  .ite (fun aM =>
  .ret (bi (t1.append [.af true,.J (o 3 []),.a0 [] [] (bf [0,3])]) (aO.aC (.e1 aM))))
  (fun aM =>
  .ret (bi (t1.append [.af false,.a0 [] [] (bf [0,3])]) (aO.aC (.e1 aM))))))
  (fun h1 =>
  .ret (bi [.J (o 3 (cc 6 (aj (.af false) []))),.af false,.a0 [] [] (bf [0,3])] (.hN h1 h1 h1 h1 h1 h1 h1 hg)))
theorem Jc {aa:(List Int)} {bd:Int} {r} (h:zM aa bd=some r):dJ a2 21 0 91 [1,1,0,0,0] (yp aa) (yF aa) bd r:=dK (fun _=>H7) h
def mw (aa:(List Int)):Option (List Int) :=
 zM aa (len_ U aa) >>= fun r1 =>
 if 0≤r1 then
 if 0≤r1.toNat∧r1.toNat≤aa.length then
 some ((aa.drop 0).take (r1.toNat-0))
 else none
 else none
theorem rT {aa:(List Int)}:bm (mw aa) (fun r=>Con a2 91 [.isl 1 (aa.map U)] [] (.isl 1 (r.map U)) []):=by
 unfold mw
 exact .aJ fun r1 R =>
  .bu fun ai =>
  .bu fun ax =>
  .ret (a8 [.J (o 1 []),.J (o 3 []),.a0 [] [] (bf [0,3]),(yF aa r1).eU,.J (o 4 [])] (.dM (Jc R) ai ax.1 (lg (aT U aa) ax.2) (congrArg (av.isl 1) (AK (aT U aa) 0 (r1.toNat-0)):(.isl 1 (((aa.map U).drop 0).take (r1.toNat-0)):av) = .isl 1 (((aa.drop 0).take (r1.toNat-0)).map U))) (.bI (.cb (.dP (.isl 1 (((aa.drop 0).take (r1.toNat-0)).map U))))))
def ya (aa:(List Int)) (hb:Int):(Int×Int×(List Int))→S:=fun (dd,ah,an)=>c6 [(0,.isl 1 (aa.map U)),(1,.n .i64 hb),(6,.aV 0 0 0 an.length),(7,.n .i64 dd),(8,.n .i64 ah)] [[ae.mk 1 (an.map U) .live]]
def yq (aa:(List Int)) (hb:Int):(Int×(List Int))→dc
 | a=>⟨some 0,[(6,.aV 0 0 0 a.2.length),(7,.n .i64 a.1)],[[ae.mk 1 (a.2.map U) .live]]⟩
def pK (aa:(List Int)) (hb:Int) (dd:Int) (ah:Int) (an:(List Int)):Option ((Int×Int×(List Int))⊕(Int×(List Int))) :=
 if (decide ((0:Int)≤ah))=true then
  if 0≤ah∧ah<aa.length then
  aa[ah.toNat]? >>= fun al =>
  if hb≠0 then
  if 0≤ah∧ah<(an.length:Nat) then
  if (0+ah.toNat)<an.length then
  some (.inl ((ab ((ab (dd*(1000000000:Int)))+al)).tmod hb,ab (ah-(1:Int)),an.set (0+ah.toNat) (ab ((ab ((ab (dd*(1000000000:Int)))+al)).tdiv hb))))
  else none
  else none
  else none
  else none
 else
  some (.inr (dd,an))
def u2 (aa:(List Int)) (hb:Int) (dd:Int) (ah:Int) (an:(List Int)):Option (Int×(List Int)):=iter (fun w:Int×Int×(List Int)=>pK aa hb w.1 w.2.1 w.2.2) (dd,ah,an)
theorem HV {aa:(List Int)} {hb:Int} {dd:Int} {ah:Int} {an:(List Int)}:bm (pK aa hb dd ah an) (dI a2 39 0 90 [1,1,1,0,1,0,0] (ya aa hb (dd,ah,an)) (ya aa hb) (yq aa hb)):=by
 unfold pK
 exact .ite (fun h1 =>
  .bu fun R =>
  .aJ fun al ax =>
  .bu fun aM =>
  .bu fun ba =>
  .bu fun a5 =>
  .ret (bi [.J (o 2 []),.af true,.J (o 5 (aj (.bQ (U al)) (o 2 []))),.J (o 6 (aj .fr [])),.J (o 4 []),.J (o 3 []),.a0 [0] [.dP [ae.mk 1 ((an.set (0+ah.toNat) (ab ((ab ((ab (dd*(1000000000:Int)))+al)).tdiv hb))).map U) .live]] [(0,ii),(1,ii),(6,fV ((an.set (0+ah.toNat) (ab ((ab ((ab (dd*(1000000000:Int)))+al)).tdiv hb))).length)),(7,ii),(8,ii)]] (.br h1 R.1 (c9 U R.2) (cm U ax) aM ba.1 ba.2 (i4 U a5) (.dM (i3 1) aM (eA 1 .live (im (aT U an) (0+ah.toNat) (ab ((ab ((ab (dd*(1000000000:Int)))+al)).tdiv hb)))) (bD 1 .live bG (an.set (0+ah.toNat) (ab ((ab ((ab (dd*(1000000000:Int)))+al)).tdiv hb)))) (gU (bw an) (0+ah.toNat) (ab ((ab ((ab (dd*(1000000000:Int)))+al)).tdiv hb)))))))
  (fun h1 =>
  .ret (bi [.J (o 2 []),.af false,.a0 [0] [.pure] (bf [6,7])] (.az h1 (bD 1 .live bG an))))
theorem I3 {aa:(List Int)} {hb:Int} {dd:Int} {ah:Int} {an:(List Int)} {r} (h:u2 aa hb dd ah an=some r):dJ a2 39 0 90 [1,1,1,0,1,0,0] (ya aa hb) (yq aa hb) (dd,ah,an) r:=dK (fun _=>HV) h
def r5 (aa:(List Int)) (hb:Int):Option ((List Int)×Int) :=
 if 0≤(len_ U aa)∧(8:Int)*(len_ U aa)≤281474976710656∧(len_ U aa)<9223372036854775808 then
 u2 aa hb 0 (ab ((len_ U aa)-(1:Int))) (List.replicate (len_ U aa).toNat 0:List Int) >>= fun bj =>
 mw bj.2 >>= fun bg =>
 some (bg,bj.1)
 else none
theorem JJ {aa:(List Int)} {hb:Int}:bm (r5 aa hb) (fun r=>Con a2 90 [.isl 1 (aa.map U),.n .i64 hb] [] (.cy [.isl 1 (r.1.map U),.n .i64 r.2]) []):=by
 unfold r5
 exact .bu fun h1 =>
  .aJ fun bj ai =>
  .aJ fun bg aM =>
  .ret (a8 [.J (o 2 []),.J (o 4 []),.J (o 1 []),.J (o 4 []),.a0 [4] [.dP [ae.mk 1 ((List.replicate (len_ U aa).toNat 0:List Int).map U) .live]] [(0,ii),(1,ii),(6,fV ((List.replicate (len_ U aa).toNat 0:List Int).length)),(7,ii),(8,ii)],(yq aa hb bj).eU,.fK 0,.J (o 1 (aj (.call {ac:=[.bI (.cb (.db (bj.2.map U)))],r:= .isl 1 (bg.map U),cH:=false,cK:=[0]}) (o 3 [])))] (.br h1.1 (Int.le_refl (len_ U aa)) h1.2.1 h1.2.2 (eA 1 .live (lA U (len_ U aa).toNat 0)) (bD 1 .live bG (List.replicate (len_ U aa).toNat 0:List Int)) (lB (len_ U aa).toNat (0:Int)) (I3 ai) (.cI (d7 (aT U bj.2) (bw bj.2)) (cY (aT U bj.2) (bw bj.2)) (cM bG bj.2) (rT bg aM))))
def yG (aw:(List Int)) (ah:Int) (cO:Int) (dA:(List Int)) (dG:Int) (gG:Int):(Int×Int×(List Int))→S:=fun (c1,ew,an)=>c6 [(1,.isl 1 (aw.map U)),(5,.aV 0 0 0 an.length),(6,.n .i64 ah),(7,.n .i64 cO),(8,.n .i64 c1),(26,.isl 1 (dA.map U)),(27,.n .i64 dG),(28,.n .i64 ah),(33,.isl 1 (aw.map U)),(34,.n .i64 gG),(35,.n .i64 ew)] [[ae.mk 1 (an.map U) .live]]
def y4 (aw:(List Int)) (ah:Int) (cO:Int) (dA:(List Int)) (dG:Int) (gG:Int):(Int×(List Int))→dc
 | a=>⟨some 2,[(1,.isl 1 (aw.map U)),(5,.aV 0 0 0 a.2.length),(6,.n .i64 ah),(8,.n .i64 a.1),(26,.isl 1 (dA.map U)),(27,.n .i64 dG),(28,.n .i64 ah)],[[ae.mk 1 (a.2.map U) .live]]⟩
def pT (aw:(List Int)) (ah:Int) (cO:Int) (dA:(List Int)) (dG:Int) (gG:Int) (c1:Int) (ew:Int) (an:(List Int)):Option ((Int×Int×(List Int))⊕(Int×(List Int))) :=
 if (decide (ew<gG))=true then
  if 0≤ew∧ew<aw.length then
  aw[ew.toNat]? >>= fun al =>
  if 0≤(ab (ah+ew))∧(ab (ah+ew))<(an.length:Nat) then
  an[(0+(ab (ah+ew)).toNat)]? >>= fun bP =>
  if (0+(ab (ah+ew)).toNat)<an.length then
  some (.inl (ab ((ab ((ab (bP+(ab (cO*al))))+c1)).tdiv (1000000000:Int)),ab (ew+(1:Int)),an.set (0+(ab (ah+ew)).toNat) ((ab ((ab (bP+(ab (cO*al))))+c1)).tmod (1000000000:Int))))
  else none
  else none
  else none
 else
  some (.inr (c1,an))
def zW (aw:(List Int)) (ah:Int) (cO:Int) (dA:(List Int)) (dG:Int) (gG:Int) (c1:Int) (ew:Int) (an:(List Int)):Option (Int×(List Int)):=iter (fun w:Int×Int×(List Int)=>pT aw ah cO dA dG gG w.1 w.2.1 w.2.2) (c1,ew,an)
theorem Il {aw:(List Int)} {ah:Int} {cO:Int} {dA:(List Int)} {dG:Int} {gG:Int} {c1:Int} {ew:Int} {an:(List Int)}:bm (pT aw ah cO dA dG gG c1 ew an) (dI a2 72 0 94 [1,1,1,0,1,0,0,1,1,0,0,1,1,0,1,0,0] (yG aw ah cO dA dG gG (c1,ew,an)) (yG aw ah cO dA dG gG) (y4 aw ah cO dA dG gG)):=by
 unfold pT
 exact .ite (fun h1 =>
  .bu fun R =>
  .aJ fun al ax =>
  .bu fun aM =>
  .aJ fun bP a5 =>
  .bu fun bV =>
  .ret (bi [.J (o 1 []),.af true,.J (o 2 (aj (.bQ (U al)) (o 2 []))),.J (o 5 (aj (.bQ (U bP)) (o 7 []))),.J (o 7 (aj .fr [])),.J (o 3 []),.J (o 2 []),.a0 [0] [.dP [ae.mk 1 ((an.set (0+(ab (ah+ew)).toNat) ((ab ((ab (bP+(ab (cO*al))))+c1)).tmod (1000000000:Int))).map U) .live]] [(1,ii),(5,fV ((an.set (0+(ab (ah+ew)).toNat) ((ab ((ab (bP+(ab (cO*al))))+c1)).tmod (1000000000:Int))).length)),(6,ii),(7,ii),(8,ii),(26,ii),(27,ii),(28,ii),(33,ii),(34,ii),(35,ii)]] (.br h1 R.1 (c9 U R.2) (cm U ax) aM.1 aM.2 (cm U a5) (by decide:(1000000000:Int)≠0) (.hN aM.1 aM.2 (i4 U bV) (i3 1) (by decide:(1000000000:Int)≠0) (eA 1 .live (im (aT U an) (0+(ab (ah+ew)).toNat) ((ab ((ab (bP+(ab (cO*al))))+c1)).tmod (1000000000:Int)))) (bD 1 .live bG (an.set (0+(ab (ah+ew)).toNat) ((ab ((ab (bP+(ab (cO*al))))+c1)).tmod (1000000000:Int)))) (gU (bw an) (0+(ab (ah+ew)).toNat) ((ab ((ab (bP+(ab (cO*al))))+c1)).tmod (1000000000:Int)))))))
  (fun h1 =>
  .ret (bi [.J (o 1 []),.af false,.a0 [0] [.pure] (bf [1,5,6,8,26,27,28])] (.az h1 (bD 1 .live bG an))))
theorem Jm {aw:(List Int)} {ah:Int} {cO:Int} {dA:(List Int)} {dG:Int} {gG:Int} {c1:Int} {ew:Int} {an:(List Int)} {r} (h:zW aw ah cO dA dG gG c1 ew an=some r):dJ a2 72 0 94 [1,1,1,0,1,0,0,1,1,0,0,1,1,0,1,0,0] (yG aw ah cO dA dG gG) (y4 aw ah cO dA dG gG) (c1,ew,an) r:=dK (fun _=>Il) h
def yH (aw:(List Int)) (dA:(List Int)) (dG:Int):(Int×(List Int))→S:=fun (ep,an)=>c6 [(1,.isl 1 (aw.map U)),(5,.aV 0 0 0 an.length),(26,.isl 1 (dA.map U)),(27,.n .i64 dG),(28,.n .i64 ep)] [[ae.mk 1 (an.map U) .live]]
def y5 (aw:(List Int)) (dA:(List Int)) (dG:Int):(List Int)→dc
 | a=>⟨some 0,[(5,.aV 0 0 0 a.length)],[[ae.mk 1 (a.map U) .live]]⟩
def rM (aw:(List Int)) (dA:(List Int)) (dG:Int) (ep:Int) (an:(List Int)):Option ((Int×(List Int))⊕((List Int))) :=
 if (decide (ep<dG))=true then
  if 0≤ep∧ep<dA.length then
  dA[ep.toNat]? >>= fun al =>
  zW aw ep al dA dG (len_ U aw) 0 0 an >>= fun aZ =>
  if 0≤(ab (ep+(len_ U aw)))∧(ab (ep+(len_ U aw)))<(aZ.2.length:Nat) then
  if (0+(ab (ep+(len_ U aw))).toNat)<aZ.2.length then
  some (.inl (ab (ep+(1:Int)),aZ.2.set (0+(ab (ep+(len_ U aw))).toNat) aZ.1))
  else none
  else none
  else none
 else
  some (.inr an)
def va (aw:(List Int)) (dA:(List Int)) (dG:Int) (ep:Int) (an:(List Int)):Option ((List Int)):=iter (fun w:Int×(List Int)=>rM aw dA dG w.1 w.2) (ep,an)
theorem Im {aw:(List Int)} {dA:(List Int)} {dG:Int} {ep:Int} {an:(List Int)}:bm (rM aw dA dG ep an) (dI a2 72 0 94 [1,1,1,0,1,0,0] (yH aw dA dG (ep,an)) (yH aw dA dG) (y5 aw dA dG)):=by
 unfold rM
 exact .ite (fun h1 =>
  .bu fun R =>
  .aJ fun al ax =>
  .aJ fun aZ ba =>
  .bu fun a5 =>
  .bu fun bV =>
  .ret (bi [.J (o 1 []),.af true,.J (o 2 (aj (.bQ (U al)) (o 2 []))),.J (o 1 []),.J (o 3 []),.a0 [0] [.pure] (bf [1,5,6,7,8,26,27,28,33,34,35]),(y4 aw ep al dA dG (len_ U aw) aZ).eU,.J (o 7 (aj .fr [])),.J (o 2 []),.a0 [0] [.dP [ae.mk 1 ((aZ.2.set (0+(ab (ep+(len_ U aw))).toNat) aZ.1).map U) .live]] [(1,ii),(5,fV ((aZ.2.set (0+(ab (ep+(len_ U aw))).toNat) aZ.1).length)),(26,ii),(27,ii),(28,ii)]] (.br h1 R.1 (c9 U R.2) (cm U ax) (bD 1 .live bG an) (Jm ba) a5.1 a5.2 (.dM (i4 U bV) (i3 1) (eA 1 .live (im (aT U aZ.2) (0+(ab (ep+(len_ U aw))).toNat) aZ.1)) (bD 1 .live bG (aZ.2.set (0+(ab (ep+(len_ U aw))).toNat) aZ.1)) (gU (bw aZ.2) (0+(ab (ep+(len_ U aw))).toNat) aZ.1)))))
  (fun h1 =>
  .ret (bi [.J (o 1 []),.af false,.a0 [0] [.pure] (bf [5])] (.az h1 (bD 1 .live bG an))))
theorem Jn {aw:(List Int)} {dA:(List Int)} {dG:Int} {ep:Int} {an:(List Int)} {r} (h:va aw dA dG ep an=some r):dJ a2 72 0 94 [1,1,1,0,1,0,0] (yH aw dA dG) (y5 aw dA dG) (ep,an) r:=dK (fun _=>Im) h
def ql (aa:(List Int)) (aw:(List Int)):Option (List Int) :=
 if ((len_ U aa) == (0:Int))=true then
  some ([]:List Int)
 else
  if ((len_ U aw) == (0:Int))=true then
   some ([]:List Int)
  else
   if 0≤(ab ((len_ U aa)+(len_ U aw)))∧(8:Int)*(ab ((len_ U aa)+(len_ U aw)))≤281474976710656∧(ab ((len_ U aa)+(len_ U aw)))<9223372036854775808 then
   va aw aa (len_ U aa) 0 (List.replicate (ab ((len_ U aa)+(len_ U aw))).toNat 0:List Int) >>= fun bg =>
   mw bg >>= fun ec =>
   some ec
   else none
theorem DE {aa:(List Int)} {aw:(List Int)}:bm (ql aa aw) (fun r=>Con a2 94 [.isl 1 (aa.map U),.isl 1 (aw.map U)] [] (.isl 1 (r.map U)) []):=by
 unfold ql
 exact .ite (fun h1 =>
  .ret (a8 [.J (o 1 []),.J (o 4 (cc 3 (aj (.af true) []))),.af true,.J (o 1 [])] (.dM h1 h1 h1 h1 bF) (.bI (.cb (.gE 1)))))
  (fun h1 =>
  (let t1:List bx:=[.J (o 1 []),.J (o 7 (aj (.af false) []))];
  .ite (fun R =>
  .ret (a8 (t1.append [.af true,.J (o 1 [])]) (.dM h1 h1 h1 h1 R) (.bI (.cb (.gE 1)))))
  (fun R =>
  .bu fun ai =>
  .aJ fun bg aM =>
  .aJ fun ec a5 =>
  .ret (a8 (t1.append [.af false,.J (o 7 []),.J (o 3 []),.a0 [14] [.dP [ae.mk 1 ((List.replicate (ab ((len_ U aa)+(len_ U aw))).toNat 0:List Int).map U) .live]] [(1,ii),(5,fV ((List.replicate (ab ((len_ U aa)+(len_ U aw))).toNat 0:List Int).length)),(26,ii),(27,ii),(28,ii)],(y5 aw aa (len_ U aa) bg).eU,.fK 0,.J (o 1 (aj (.call {ac:=[.bI (.cb (.db (bg.map U)))],r:= .isl 1 (ec.map U),cH:=false,cK:=[0]}) (o 1 [])))]) (.br h1 h1 h1 h1 R ai.1 (Int.le_refl (ab ((len_ U aa)+(len_ U aw)))) ai.2.1 (.br ai.2.2 (eA 1 .live (lA U (ab ((len_ U aa)+(len_ U aw))).toNat 0)) (bD 1 .live bG (List.replicate (ab ((len_ U aa)+(len_ U aw))).toNat 0:List Int)) (lB (ab ((len_ U aa)+(len_ U aw))).toNat (0:Int)) (Jn aM) (d7 (aT U bg) (bw bg)) (cY (aT U bg) (bw bg)) (cM bG bg) (.e1 (rT ec a5))))))))
def yb (dn:(List Int)) (aw:(List Int)):(Int×Int)→S:=fun (iH,iO)=>c6 [(0,.isl 1 (dn.map U)),(1,.isl 1 (aw.map U)),(7,.n .i64 iH),(8,.n .i64 iO)] []
def CQ (dn:(List Int)) (aw:(List Int)):Int→dc
 | a=>⟨some 0,[(7,.n .i64 a)],[]⟩
def nY (dn:(List Int)) (aw:(List Int)) (iH:Int) (iO:Int):Option ((Int×Int)⊕(Int)) :=
 if (decide (iH<iO))=true then
  ni (ab ((ab ((ab (iH+iO))+(1:Int))).tdiv (2:Int))) >>= fun bj =>
  ql aw bj >>= fun bg =>
  oo bg dn >>= fun ec =>
  if (decide (ec≤(0:Int)))=true then
   some (.inl (ab ((ab ((ab (iH+iO))+(1:Int))).tdiv (2:Int)),iO))
  else
   some (.inl (iH,ab ((ab ((ab ((ab (iH+iO))+(1:Int))).tdiv (2:Int)))-(1:Int))))
 else
  some (.inr iH)
def u3 (dn:(List Int)) (aw:(List Int)) (iH:Int) (iO:Int):Option (Int):=iter (fun w:Int×Int=>nY dn aw w.1 w.2) (iH,iO)
theorem HW {dn:(List Int)} {aw:(List Int)} {iH:Int} {iO:Int}:bm (nY dn aw iH iO) (dI a2 63 0 92 [1,1,1,1,1,1,0,0,0] (yb dn aw (iH,iO)) (yb dn aw) (CQ dn aw)):=by
 unfold nY
 exact .ite (fun h1 =>
  .aJ fun bj ai =>
  .aJ fun bg aM =>
  .aJ fun ec a5 =>
  (let t1:List bx:=[.J (o 3 []),.af true,.J (o 6 []),.J (o 2 (aj (bM 1 (.isl 1 (bj.map U)) false) (aj (bM 2 (.isl 1 (bg.map U)) false) (o 1 (aj (bM 2 (.n .i64 ec) true) (o 1 []))))))];
  have aO:=((.ez h1 (by decide:(2:Int)≠0) (vh bj ai) (DE bg aM) (zV ec a5) (a1.n .i64 ec)):b2 _);
  .ite (fun bV =>
  .ret (bi (t1.append [.af true,.J (o 2 []),.a0 [] [] (bf [0,1,7,8])]) (aO.aC (.e1 bV))))
  (fun bV =>
  .ret (bi (t1.append [.af false,.J (o 3 []),.a0 [] [] (bf [0,1,7,8])]) (aO.aC (.e1 bV))))))
  (fun h1 =>
  .ret (bi [.J (o 3 []),.af false,.a0 [] [] (bf [7])] (.e1 h1)))
theorem CX {dn:(List Int)} {aw:(List Int)} {iH:Int} {iO:Int} {r} (h:u3 dn aw iH iO=some r):dJ a2 63 0 92 [1,1,1,1,1,1,0,0,0] (yb dn aw) (CQ dn aw) (iH,iO) r:=dK (fun _=>HW) h
def r6 (dn:(List Int)) (aw:(List Int)):Option Int :=
 if 0≤(ab ((len_ U aw)-(1:Int)))∧(ab ((len_ U aw)-(1:Int)))<dn.length then
 dn[(ab ((len_ U aw)-(1:Int))).toNat]? >>= fun fl =>
 if (decide ((len_ U aw)<(len_ U dn)))=true then
  if 0≤(len_ U aw)∧(len_ U aw)<dn.length then
  dn[(len_ U aw).toNat]? >>= fun bP =>
  if 0≤(ab ((len_ U aw)-(1:Int)))∧(ab ((len_ U aw)-(1:Int)))<aw.length then
  aw[(ab ((len_ U aw)-(1:Int))).toNat]? >>= fun dT =>
  if (ab (dT+(1:Int)))≠0 then
  if dT≠0 then
  u3 dn aw (ab ((ab (fl+(ab (bP*(1000000000:Int))))).tdiv (ab (dT+(1:Int))))) (if (ab ((ab (fl+(ab (bP*(1000000000:Int))))).tdiv dT))<(999999999:Int) then (ab ((ab (fl+(ab (bP*(1000000000:Int))))).tdiv dT)) else (999999999:Int)) >>= fun ek =>
  some ek
  else none
  else none
  else none
  else none
 else
  if 0≤(ab ((len_ U aw)-(1:Int)))∧(ab ((len_ U aw)-(1:Int)))<aw.length then
  aw[(ab ((len_ U aw)-(1:Int))).toNat]? >>= fun bP =>
  if (ab (bP+(1:Int)))≠0 then
  if bP≠0 then
  u3 dn aw (ab (fl.tdiv (ab (bP+(1:Int))))) (if (ab (fl.tdiv bP))<(999999999:Int) then (ab (fl.tdiv bP)) else (999999999:Int)) >>= fun ff =>
  some ff
  else none
  else none
  else none
 else none
theorem JK {dn:(List Int)} {aw:(List Int)}:bm (r6 dn aw) (fun r=>Con a2 92 [.isl 1 (dn.map U),.isl 1 (aw.map U)] [] (.n .i64 r) []):=by
 unfold r6
 exact .bu fun h1 =>
  .aJ fun fl ai =>
  (let t1:List bx:=[.J (o 1 []),.J (o 3 []),.J (o 4 (aj (.bQ (U fl)) (o 1 []))),.J (o 4 [])];
  have aO:=((.bp h1.1 (c9 U h1.2) (cm U ai)):b2 _);
  .ite (fun ax =>
  .bu fun aM =>
  .aJ fun bP a5 =>
  .bu fun bV =>
  .aJ fun dT df =>
  .bu fun eb =>
  .bu fun ht =>
  .aJ fun ek eI =>
  .ret (a8 (t1.append [.af true,.J (o 4 (aj (.bQ (U bP)) (o 3 []))),.J (o 5 (aj (.bQ (U dT)) (o 3 []))),.J (o 5 (aj (.bQ (U dT)) (o 3 []))),.a0 [] [] (bf [0,1,7,8]),.sub (.exit 0) [(7,.n .i64 ek)] [],.J (o 2 [])]) (aO.aC (.br ax aM.1 (c9 U aM.2) (cm U a5) bV.1 (c9 U bV.2) (cm U df) eb (.dM bV.1 (c9 U bV.2) (cm U df) ht (CX eI))))))
  (fun ax =>
  .bu fun aM =>
  .aJ fun bP a5 =>
  .bu fun bV =>
  .bu fun dv =>
  .aJ fun ff eb =>
  .ret (a8 (t1.append [.af false,.J (o 5 (aj (.bQ (U bP)) (o 3 []))),.J (o 5 (aj (.bQ (U bP)) (o 3 []))),.a0 [] [] (bf [0,1,7,8]),.sub (.exit 0) [(7,.n .i64 ff)] [],.J (o 2 [])]) (aO.aC (.br ax aM.1 (c9 U aM.2) (cm U a5) bV aM.1 (c9 U aM.2) (cm U a5) (.az dv (CX eb)))))))
def yI (aa:(List Int)) (aw:(List Int)) (gH:Int):(Int×Int×(List Int))→S:=fun (de,dL,an)=>c6 [(0,.isl 1 (aa.map U)),(1,.isl 1 (aw.map U)),(5,.aV 0 0 0 an.length),(6,.n .i64 de),(11,.n .i64 gH),(12,.n .i64 dL)] [[ae.mk 1 (an.map U) .live]]
def y6 (aa:(List Int)) (aw:(List Int)) (gH:Int):(List Int)→dc
 | a=>⟨some 0,[(5,.aV 0 0 0 a.length)],[[ae.mk 1 (a.map U) .live]]⟩
def n3 (aa:(List Int)) (aw:(List Int)) (gH:Int) (de:Int) (dL:Int) (an:(List Int)):Option ((Int×Int×(List Int))⊕((List Int))) :=
 if (decide (dL<gH))=true then
  if 0≤dL∧dL<aa.length then
  aa[dL.toNat]? >>= fun al =>
  if (decide (dL<(len_ U aw)))=true then
   if 0≤dL∧dL<aw.length then
   aw[dL.toNat]? >>= fun b1 =>
   if (decide ((ab ((ab (al-de))-b1))<(0:Int)))=true then
    if (an++([ab ((ab ((ab (al-de))-b1))+(1000000000:Int))]:List Int)).length*8≤140737488355328 then
    some (.inl (1,ab (dL+(1:Int)),an++([ab ((ab ((ab (al-de))-b1))+(1000000000:Int))]:List Int)))
    else none
   else
    if (an++([ab ((ab (al-de))-b1)]:List Int)).length*8≤140737488355328 then
    some (.inl (0,ab (dL+(1:Int)),an++([ab ((ab (al-de))-b1)]:List Int)))
    else none
   else none
  else
   if (decide ((ab (al-de))<(0:Int)))=true then
    if (an++([ab ((ab (al-de))+(1000000000:Int))]:List Int)).length*8≤140737488355328 then
    some (.inl (1,ab (dL+(1:Int)),an++([ab ((ab (al-de))+(1000000000:Int))]:List Int)))
    else none
   else
    if (an++([ab (al-de)]:List Int)).length*8≤140737488355328 then
    some (.inl (0,ab (dL+(1:Int)),an++([ab (al-de)]:List Int)))
    else none
  else none
 else
  some (.inr an)
def zX (aa:(List Int)) (aw:(List Int)) (gH:Int) (de:Int) (dL:Int) (an:(List Int)):Option ((List Int)):=iter (fun w:Int×Int×(List Int)=>n3 aa aw gH w.1 w.2.1 w.2.2) (de,dL,an)
theorem Io {aa:(List Int)} {aw:(List Int)} {gH:Int} {de:Int} {dL:Int} {an:(List Int)}:bm (n3 aa aw gH de dL an) (dI a2 42 0 93 [1,1,1,0,1,0,0] (yI aa aw gH (de,dL,an)) (yI aa aw gH) (y6 aa aw gH)):=by
 unfold n3
 exact .ite (fun h1 =>
  .bu fun R =>
  .aJ fun al ax =>
  (let t1:List bx:=[.J (o 1 []),.af true,.J (o 2 []),.J (o 3 (aj (.bQ (U al)) (o 3 []))),.J (o 4 [])];
  have aO:=((.cI h1 R.1 (c9 U R.2) (cm U ax)):b2 _);
  .ite (fun aM =>
  .bu fun ba =>
  .aJ fun b1 bV =>
  (let t3:List bx:=t1.append [.af true,.J (o 4 (aj (.bQ (U b1)) (o 2 []))),.J (o 1 []),.J (o 2 [])];
  have c8:=aO.aC (.cI aM ba.1 (c9 U ba.2) (cm U bV));
  .ite (fun dv =>
  .bu fun df =>
  .ret (bi (t3.append [.af true,.J (o 3 []),.J (o 1 []),.J (o 3 (aj (.aC ((an++([ab ((ab ((ab (al-de))-b1))+(1000000000:Int))]:List Int)).length)) (o 1 []))),.J (o 2 []),.a0 [32] [.dP [ae.mk 1 ((an++([ab ((ab ((ab (al-de))-b1))+(1000000000:Int))]:List Int)).map U) .live]] (bf [0,1,5,6,11,12])]) (c8.aC (.eQ dv (cY (show [[.n .i64 (ab ((ab ((ab (al-de))-b1))+(1000000000:Int)))]]=(([ab ((ab ((ab (al-de))-b1))+(1000000000:Int))]:List Int)).map U from rfl) (show 1=([ab ((ab ((ab (al-de))-b1))+(1000000000:Int))]:List Int).length from rfl)) (jq (aT U an) (bw an)) (jr (bw an) (ia (show [[.n .i64 (ab ((ab ((ab (al-de))-b1))+(1000000000:Int)))]]=(([ab ((ab ((ab (al-de))-b1))+(1000000000:Int))]:List Int)).map U from rfl) (show 1=([ab ((ab ((ab (al-de))-b1))+(1000000000:Int))]:List Int).length from rfl)):(an++([ab ((ab ((ab (al-de))-b1))+(1000000000:Int))]:List Int)).length=an.length+(([[.n .i64 (ab ((ab ((ab (al-de))-b1))+(1000000000:Int)))]].drop 0).take 1).length) df (eA 1 .live (hP (aT U an) (bw an) (ia (show [[.n .i64 (ab ((ab ((ab (al-de))-b1))+(1000000000:Int)))]]=(([ab ((ab ((ab (al-de))-b1))+(1000000000:Int))]:List Int)).map U from rfl) (show 1=([ab ((ab ((ab (al-de))-b1))+(1000000000:Int))]:List Int).length from rfl)))) (bD 1 .live bG (an++([ab ((ab ((ab (al-de))-b1))+(1000000000:Int))]:List Int)))))))
  (fun dv =>
  .bu fun df =>
  .ret (bi (t3.append [.af false,.J (o 3 (aj (.aC ((an++([ab ((ab (al-de))-b1)]:List Int)).length)) (o 1 []))),.J (o 2 []),.a0 [28] [.dP [ae.mk 1 ((an++([ab ((ab (al-de))-b1)]:List Int)).map U) .live]] (bf [0,1,5,6,11,12])]) (c8.aC (.eQ dv (cY (show [[.n .i64 (ab ((ab (al-de))-b1))]]=(([ab ((ab (al-de))-b1)]:List Int)).map U from rfl) (show 1=([ab ((ab (al-de))-b1)]:List Int).length from rfl)) (jq (aT U an) (bw an)) (jr (bw an) (ia (show [[.n .i64 (ab ((ab (al-de))-b1))]]=(([ab ((ab (al-de))-b1)]:List Int)).map U from rfl) (show 1=([ab ((ab (al-de))-b1)]:List Int).length from rfl)):(an++([ab ((ab (al-de))-b1)]:List Int)).length=an.length+(([[.n .i64 (ab ((ab (al-de))-b1))]].drop 0).take 1).length) df (eA 1 .live (hP (aT U an) (bw an) (ia (show [[.n .i64 (ab ((ab (al-de))-b1))]]=(([ab ((ab (al-de))-b1)]:List Int)).map U from rfl) (show 1=([ab ((ab (al-de))-b1)]:List Int).length from rfl)))) (bD 1 .live bG (an++([ab ((ab (al-de))-b1)]:List Int)))))))))
  (fun aM =>
  (let t3:List bx:=t1.append [.af false,.J (o 1 []),.J (o 2 [])];
  .ite (fun ba =>
  .bu fun a5 =>
  .ret (bi (t3.append [.af true,.J (o 3 []),.J (o 1 []),.J (o 3 (aj (.aC ((an++([ab ((ab (al-de))+(1000000000:Int))]:List Int)).length)) (o 1 []))),.J (o 2 []),.a0 [25] [.dP [ae.mk 1 ((an++([ab ((ab (al-de))+(1000000000:Int))]:List Int)).map U) .live]] (bf [0,1,5,6,11,12])]) (aO.aC (.hN aM ba (cY (show [[.n .i64 (ab ((ab (al-de))+(1000000000:Int)))]]=(([ab ((ab (al-de))+(1000000000:Int))]:List Int)).map U from rfl) (show 1=([ab ((ab (al-de))+(1000000000:Int))]:List Int).length from rfl)) (jq (aT U an) (bw an)) (jr (bw an) (ia (show [[.n .i64 (ab ((ab (al-de))+(1000000000:Int)))]]=(([ab ((ab (al-de))+(1000000000:Int))]:List Int)).map U from rfl) (show 1=([ab ((ab (al-de))+(1000000000:Int))]:List Int).length from rfl)):(an++([ab ((ab (al-de))+(1000000000:Int))]:List Int)).length=an.length+(([[.n .i64 (ab ((ab (al-de))+(1000000000:Int)))]].drop 0).take 1).length) a5 (eA 1 .live (hP (aT U an) (bw an) (ia (show [[.n .i64 (ab ((ab (al-de))+(1000000000:Int)))]]=(([ab ((ab (al-de))+(1000000000:Int))]:List Int)).map U from rfl) (show 1=([ab ((ab (al-de))+(1000000000:Int))]:List Int).length from rfl)))) (bD 1 .live bG (an++([ab ((ab (al-de))+(1000000000:Int))]:List Int)))))))
  (fun ba =>
  .bu fun a5 =>
  .ret (bi (t3.append [.af false,.J (o 3 (aj (.aC ((an++([ab (al-de)]:List Int)).length)) (o 1 []))),.J (o 2 []),.a0 [21] [.dP [ae.mk 1 ((an++([ab (al-de)]:List Int)).map U) .live]] (bf [0,1,5,6,11,12])]) (aO.aC (.hN aM ba (cY (show [[.n .i64 (ab (al-de))]]=(([ab (al-de)]:List Int)).map U from rfl) (show 1=([ab (al-de)]:List Int).length from rfl)) (jq (aT U an) (bw an)) (jr (bw an) (ia (show [[.n .i64 (ab (al-de))]]=(([ab (al-de)]:List Int)).map U from rfl) (show 1=([ab (al-de)]:List Int).length from rfl)):(an++([ab (al-de)]:List Int)).length=an.length+(([[.n .i64 (ab (al-de))]].drop 0).take 1).length) a5 (eA 1 .live (hP (aT U an) (bw an) (ia (show [[.n .i64 (ab (al-de))]]=(([ab (al-de)]:List Int)).map U from rfl) (show 1=([ab (al-de)]:List Int).length from rfl)))) (bD 1 .live bG (an++([ab (al-de)]:List Int)))))))))))
  (fun h1 =>
  .ret (bi [.J (o 1 []),.af false,.a0 [0] [.pure] (bf [5])] (.az h1 (bD 1 .live bG an))))
theorem Jo {aa:(List Int)} {aw:(List Int)} {gH:Int} {de:Int} {dL:Int} {an:(List Int)} {r} (h:zX aa aw gH de dL an=some r):dJ a2 42 0 93 [1,1,1,0,1,0,0] (yI aa aw gH) (y6 aa aw gH) (de,dL,an) r:=dK (fun _=>Io) h
def sr (aa:(List Int)) (aw:(List Int)):Option (List Int) :=
 zX aa aw (len_ U aa) 0 0 ([]:List Int) >>= fun r1 =>
 mw r1 >>= fun bY =>
 some bY
theorem Kj {aa:(List Int)} {aw:(List Int)}:bm (sr aa aw) (fun r=>Con a2 93 [.isl 1 (aa.map U),.isl 1 (aw.map U)] [] (.isl 1 (r.map U)) []):=by
 unfold sr
 exact .aJ fun r1 R =>
  .aJ fun bY ax =>
  .ret (a8 [.J (o 1 []),.J (o 2 []),.J (o 1 []),.J (o 3 []),.a0 [1] [.dP [ae.mk 1 (([]:List Int).map U) .live]] [(0,ii),(1,ii),(5,fV (([]:List Int).length)),(6,ii),(11,ii),(12,ii)],(y6 aa aw (len_ U aa) r1).eU,.fK 0,.J (o 1 (aj (.call {ac:=[.bI (.cb (.db (r1.map U)))],r:= .isl 1 (bY.map U),cH:=false,cK:=[0]}) (o 1 [])))] (.hN (eA 1 .live (show []=(([]:List Int)).map U from rfl)) (bD 1 .live bG ([]:List Int)) (show 0=([]:List Int).length from rfl) (Jo R) (d7 (aT U r1) (bw r1)) (cY (aT U r1) (bw r1)) (cM bG r1) (rT bY ax)))
def yJ (aa:(List Int)) (aw:(List Int)):((List Int)×Int×(List Int))→S:=fun (dd,ah,an)=>c6 [(0,.isl 1 (aa.map U)),(1,.isl 1 (aw.map U)),(8,.aV 0 0 0 an.length),(9,.isl 1 (dd.map U)),(10,.n .i64 ah)] [[ae.mk 1 (an.map U) .live]]
def y7 (aa:(List Int)) (aw:(List Int)):((List Int)×(List Int))→dc
 | a=>⟨some 0,[(8,.aV 0 0 0 a.2.length),(9,.isl 1 (a.1.map U))],[[ae.mk 1 (a.2.map U) .live]]⟩
def pU (aa:(List Int)) (aw:(List Int)) (dd:(List Int)) (ah:Int) (an:(List Int)):Option (((List Int)×Int×(List Int))⊕((List Int)×(List Int))) :=
 if (decide ((0:Int)≤ah))=true then
  if 0≤ah∧ah<aa.length then
  aa[ah.toNat]? >>= fun al =>
  if (([al]:List Int)++dd).length*8≤140737488355328 then
  mw (([al]:List Int)++dd) >>= fun ec =>
  oo ec aw >>= fun en =>
  if (decide (en<(0:Int)))=true then
   some (.inl (ec,ab (ah-(1:Int)),an))
  else
   r6 ec aw >>= fun gq =>
   if 0≤ah∧ah<(an.length:Nat) then
   if (0+ah.toNat)<an.length then
   ni gq >>= fun e2 =>
   ql aw e2 >>= fun dO =>
   sr ec dO >>= fun w3 =>
   some (.inl (w3,ab (ah-(1:Int)),an.set (0+ah.toNat) gq))
   else none
   else none
  else none
  else none
 else
  some (.inr (dd,an))
def zY (aa:(List Int)) (aw:(List Int)) (dd:(List Int)) (ah:Int) (an:(List Int)):Option ((List Int)×(List Int)):=iter (fun w:(List Int)×Int×(List Int)=>pU aa aw w.1 w.2.1 w.2.2) (dd,ah,an)
theorem Ip {aa:(List Int)} {aw:(List Int)} {dd:(List Int)} {ah:Int} {an:(List Int)}:bm (pU aa aw dd ah an) (dI a2 65 0 85 [1,1,1,1,0,1,0,0] (yJ aa aw (dd,ah,an)) (yJ aa aw) (y7 aa aw)):=by
 unfold pU
 exact .ite (fun h1 =>
  .bu fun R =>
  .aJ fun al ax =>
  .bu fun aM =>
  .aJ fun ec a5 =>
  .aJ fun en dv =>
  (let t1:List bx:=[.J (o 2 []),.af true,.J (o 3 (aj (.bQ (U al)) (o 2 (aj (.aC ((([al]:List Int)++dd).length)) (aj (.pg 9 (.call {ac:=[.bI (.cb (.db ((([al]:List Int)++dd).map U)))],r:= .isl 1 (ec.map U),cH:=false,cK:=[9]})) (o 1 [])))))),.J (o 2 (aj (bM 2 (.n .i64 en) true) (o 1 [])))];
  have aO:=((.br h1 R.1 (c9 U R.2) (cm U ax) (jq (show [[.n .i64 al]]=(([al]:List Int)).map U from rfl) (show 1=([al]:List Int).length from rfl)) (jr (show 1=([al]:List Int).length from rfl) (aT U dd):(([al]:List Int)++dd).length=1+(dd.map U).length) aM (d7 (hP (show [[.n .i64 al]]=(([al]:List Int)).map U from rfl) (show 1=([al]:List Int).length from rfl) (aT U dd)) (bw (([al]:List Int)++dd))) (.dM (cY (hP (show [[.n .i64 al]]=(([al]:List Int)).map U from rfl) (show 1=([al]:List Int).length from rfl) (aT U dd)) (bw (([al]:List Int)++dd))) (cM bG (([al]:List Int)++dd)) (rT ec a5) (zV en dv) (a1.n .i64 en))):b2 _);
  .ite (fun df =>
  .ret (bi (t1.append [.af true,.J (o 3 []),.a0 [0] [.pure] (bf [0,1,8,9,10])]) (aO.aC (.az df (bD 1 .live bG an)))))
  (fun df =>
  .aJ fun gq ht =>
  .bu fun e9 =>
  .bu fun eI =>
  .aJ fun e2 jT =>
  .aJ fun dO iR =>
  .aJ fun w3 e4 =>
  .ret (bi (t1.append [.af false,.J (o 2 (aj (bM 2 (.n .i64 gq) true) (o 1 []))),.J (o 4 (aj .fr [])),.J (o 3 (aj (bM 1 (.isl 1 (e2.map U)) false) (aj (bM 2 (.isl 1 (dO.map U)) false) (aj (bM 2 (.isl 1 (w3.map U)) false) (o 1 []))))),.J (o 3 []),.a0 [0] [.dP [ae.mk 1 ((an.set (0+ah.toNat) gq).map U) .live]] [(0,ii),(1,ii),(8,fV ((an.set (0+ah.toNat) gq).length)),(9,ii),(10,ii)]]) (aO.aC (.br df (JK gq ht) (a1.n .i64 gq) e9.1 e9.2 (i4 U eI) (i3 1) (vh e2 jT) (.dM (DE dO iR) (Kj w3 e4) (eA 1 .live (im (aT U an) (0+ah.toNat) gq)) (bD 1 .live bG (an.set (0+ah.toNat) gq)) (gU (bw an) (0+ah.toNat) gq))))))))
  (fun h1 =>
  .ret (bi [.J (o 2 []),.af false,.a0 [0] [.pure] (bf [8,9])] (.az h1 (bD 1 .live bG an))))
theorem Jp {aa:(List Int)} {aw:(List Int)} {dd:(List Int)} {ah:Int} {an:(List Int)} {r} (h:zY aa aw dd ah an=some r):dJ a2 65 0 85 [1,1,1,1,0,1,0,0] (yJ aa aw) (y7 aa aw) (dd,ah,an) r:=dK (fun _=>Ip) h
def qm (aa:(List Int)) (aw:(List Int)):Option ((List Int)×(List Int)) :=
 if ((len_ U aw) == (1:Int))=true then
  if 0≤(0:Int)∧(0:Int)<aw.length then
  aw[0]? >>= fun al =>
  r5 aa al >>= fun aZ =>
  ni aZ.2 >>= fun aF =>
  some (aZ.1,aF)
  else none
 else
  if 0≤(len_ U aa)∧(8:Int)*(len_ U aa)≤281474976710656∧(len_ U aa)<9223372036854775808 then
  zY aa aw ([]:List Int) (ab ((len_ U aa)-(1:Int))) (List.replicate (len_ U aa).toNat 0:List Int) >>= fun bY =>
  mw bY.2 >>= fun aZ =>
  some (aZ,bY.1)
  else none
theorem DF {aa:(List Int)} {aw:(List Int)}:bm (qm aa aw) (fun r=>Con a2 85 [.isl 1 (aa.map U),.isl 1 (aw.map U)] [] (.cy [.isl 1 (r.1.map U),.isl 1 (r.2.map U)]) []):=by
 unfold qm
 exact .ite (fun h1 =>
  .bu fun R =>
  .aJ fun al ax =>
  .aJ fun aZ ba =>
  .aJ fun aF bV =>
  .ret (a8 [.J (o 2 []),.J (o 3 []),.af true,.J (o 3 (aj (.bQ (U al)) (aj (bM 2 (.cy [.isl 1 (aZ.1.map U),.n .i64 aZ.2]) false) (o 5 [])))),.J (o 2 (aj (bM 1 (.isl 1 (aF.map U)) false) (o 2 [])))] (.ez h1 R.1 (c9 U R.2) (cm U ax) (JJ aZ ba) (vh aF bV))))
  (fun h1 =>
  .bu fun R =>
  .aJ fun bY ax =>
  .aJ fun aZ ba =>
  .ret (a8 [.J (o 2 []),.J (o 3 []),.af false,.J (o 4 []),.J (o 2 []),.J (o 4 []),.a0 [7] [.dP [ae.mk 1 ((List.replicate (len_ U aa).toNat 0:List Int).map U) .live]] [(0,ii),(1,ii),(8,fV ((List.replicate (len_ U aa).toNat 0:List Int).length)),(9,.bI (.cb (.db (([]:List Int).map U)))),(10,ii)],(y7 aa aw bY).eU,.fK 0,.J (o 1 (aj (.call {ac:=[.bI (.cb (.db (bY.2.map U)))],r:= .isl 1 (aZ.map U),cH:=false,cK:=[0]}) (o 3 [])))] (.br h1 R.1 (Int.le_refl (len_ U aa)) R.2.1 R.2.2 (eA 1 .live (lA U (len_ U aa).toNat 0)) (bD 1 .live bG (List.replicate (len_ U aa).toNat 0:List Int)) (lB (len_ U aa).toNat (0:Int)) (.hN (d7 (show []=(([]:List Int)).map U from rfl) (show 0=([]:List Int).length from rfl)) (cY (show []=(([]:List Int)).map U from rfl) (show 0=([]:List Int).length from rfl)) (cM bG ([]:List Int)) (Jp ax) (d7 (aT U bY.2) (bw bY.2)) (cY (aT U bY.2) (bw bY.2)) (cM bG bY.2) (rT aZ ba)))))
def yK:((List Int)×(List Int))→S:=fun (cO,fG)=>c6 [(5,.isl 1 (cO.map U)),(6,.isl 1 (fG.map U))] []
def uX:(((List Int))⊕((List Int)))→dc
 | .inl a=>⟨some 0,[(5,.isl 1 (a.map U))],[]⟩
 | .inr a=>⟨none,[(4,.isl 1 (a.map U))],[]⟩
def n4 (cO:(List Int)) (fG:(List Int)):Option (((List Int)×(List Int))⊕(((List Int))⊕((List Int)))) :=
 if (decide ((0:Int)<(len_ U fG)))=true then
  if (decide ((len_ U cO)<(3:Int)))=true then
   if (decide ((len_ U fG)<(3:Int)))=true then
    l6 cO >>= fun bg =>
    l6 fG >>= fun ec =>
    r4 bg.1 ec.1 >>= fun en =>
    some (.inr (.inr en))
   else
    qm cO fG >>= fun bg =>
    some (.inl (fG,bg.2))
  else
   qm cO fG >>= fun bY =>
   some (.inl (fG,bY.2))
 else
  some (.inr (.inl cO))
def zZ (cO:(List Int)) (fG:(List Int)):Option (((List Int))⊕((List Int))):=iter (fun w:(List Int)×(List Int)=>n4 w.1 w.2) (cO,fG)
theorem Iq {cO:(List Int)} {fG:(List Int)}:bm (n4 cO fG) (dI a2 52 0 79 [1,1,1,0,0,0] (yK (cO,fG)) (yK) (uX)):=by
 unfold n4
 exact .ite (fun h1 =>
  .ite (fun R =>
  (let t1:List bx:=[.J (o 3 []),.af true,.J (o 7 (aj (.af true) []))];
  .ite (fun ai =>
  .aJ fun bg aM =>
  .aJ fun ec a5 =>
  .aJ fun en dv =>
  .ret (bi (t1.append [.af true,.J (o 1 (aj (bM 1 (.cy [.n .i64 bg.1,.b bg.2]) true) (o 5 []))),.J (o 1 (aj (bM 1 (.cy [.n .i64 ec.1,.b ec.2]) true) (o 5 []))),.J (o 2 (aj (bM 2 (.isl 1 (en.map U)) false) (o 1 []))),.a0 [] [] (bf [4])]) (.br h1 R R R R ai (zy bg aM) (kj (dz (a1.n .i64 bg.1) (dz (a1.b bg.2) f6))) (.bp (zy ec a5) (kj (dz (a1.n .i64 ec.1) (dz (a1.b ec.2) f6))) (JI en dv)))))
  (fun ai =>
  .aJ fun bg aM =>
  .ret (bi (t1.append [.af false,.J (o 2 (aj (bM 2 (.cy [.isl 1 (bg.1.map U),.isl 1 (bg.2.map U)]) false) (o 5 []))),.J (o 2 []),.J (o 2 []),.a0 [] [] (bf [5,6])]) (.eQ h1 R R R R ai (DF bg aM))))))
  (fun R =>
  .aJ fun bY ax =>
  .ret (bi [.J (o 3 []),.af true,.J (o 4 (cc 3 (aj (.af false) []))),.af false,.J (o 2 (aj (bM 2 (.cy [.isl 1 (bY.1.map U),.isl 1 (bY.2.map U)]) false) (o 5 []))),.J (o 2 []),.J (o 2 []),.a0 [] [] (bf [5,6])] (.eQ h1 R R R R hg (DF bY ax)))))
  (fun h1 =>
  .ret (bi [.J (o 3 []),.af false,.a0 [] [] (bf [5])] (.e1 h1)))
theorem Di {cO:(List Int)} {fG:(List Int)} {r} (h:zZ cO fG=some r):dJ a2 52 0 79 [1,1,1,0,0,0] (yK) (uX) (cO,fG) r:=dK (fun _=>Iq) h
def ss (aa:(List Int)) (aw:(List Int)):Option (List Int) :=
 if (([]:List Int)++aa).length*8≤140737488355328 then
 if (([]:List Int)++aw).length*8≤140737488355328 then
 zZ (([]:List Int)++aa) (([]:List Int)++aw) >>= fun bY =>
 match bY with
 | .inl j0=>(some j0)
 | .inr j0=>(some j0)
 else none
 else none
theorem Kk {aa:(List Int)} {aw:(List Int)}:bm (ss aa aw) (fun r=>Con a2 79 [.isl 1 (aa.map U),.isl 1 (aw.map U)] [] (.isl 1 (r.map U)) []):=by
 unfold ss
 exact .bu fun h1 =>
  .bu fun R =>
  .aJ fun bY ax =>
  (let t1:List bx:=[.J (o 1 []),.J (o 2 (aj (.aC ((([]:List Int)++aa).length)) (o 1 []))),.J (o 2 (aj (.aC ((([]:List Int)++aw).length)) (o 1 []))),.a0 [] [] [(5,.bI (.cb (.db ((([]:List Int)++aa).map U)))),(6,.bI (.cb (.db ((([]:List Int)++aw).map U))))]];
  have aO:=((.br (jq (show []=(([]:List Int)).map U from rfl) (show 0=([]:List Int).length from rfl)) (jr (show 0=([]:List Int).length from rfl) (aT U aa):(([]:List Int)++aa).length=0+(aa.map U).length) h1 (jq (show []=(([]:List Int)).map U from rfl) (show 0=([]:List Int).length from rfl)) (jr (show 0=([]:List Int).length from rfl) (aT U aw):(([]:List Int)++aw).length=0+(aw.map U).length) R (d7 (hP (show []=(([]:List Int)).map U from rfl) (show 0=([]:List Int).length from rfl) (aT U aa)) (bw (([]:List Int)++aa))) (cY (hP (show []=(([]:List Int)).map U from rfl) (show 0=([]:List Int).length from rfl) (aT U aa)) (bw (([]:List Int)++aa))) (.cI (cM bG (([]:List Int)++aa)) (d7 (hP (show []=(([]:List Int)).map U from rfl) (show 0=([]:List Int).length from rfl) (aT U aw)) (bw (([]:List Int)++aw))) (cY (hP (show []=(([]:List Int)).map U from rfl) (show 0=([]:List Int).length from rfl) (aT U aw)) (bw (([]:List Int)++aw))) (cM bG (([]:List Int)++aw)))):b2 _);
  (by
  rcases bY with j0|j0
  ·exact (.ret (a8 (t1.append [(uX (.inl j0)).eU,.J (o 2 [])]) (aO.aC (.e1 (Di ax)))))
  ·exact (.ret (a8 (t1.append [(uX (.inr j0)).eU]) (aO.aC (.e1 (Di ax)))))))
def qn (aa:(List Int)):Option Bool :=
 if ((len_ U aa) == (1:Int))=true then
  if 0≤(0:Int)∧(0:Int)<aa.length then
  aa[0]? >>= fun al =>
  some (al == (1:Int))
  else none
 else
  some false
theorem DG {aa:(List Int)}:bm (qn aa) (fun r=>Con a2 42 [.isl 1 (aa.map U)] [] (.b r) []):=by
 unfold qn
 exact .ite (fun h1 =>
  .bu fun R =>
  .aJ fun al ax =>
  .ret (a8 [.J (o 1 []),.J (o 6 (aj (.bQ (U al)) (o 1 (aj (.af true) (o 1 [])))))] (.hN h1 h1 R.1 (c9 U R.2) h1 (cm U ax) h1 h1)))
  (fun h1 =>
  .ret (a8 [.J (o 1 []),.J (o 4 (cc 4 (aj (.af false) (o 1 []))))] (.dM h1 h1 h1 h1 h1)))
def mx (dn:cD):Option Bool :=
 og dn.ch >>= fun r1 =>
 if r1=true then
  nh dn.cv >>= fun bg =>
  if bg=true then
   if ((len_ U dn.cv) == (0:Int))=true then
    some false
   else
    if (decide ((24:Int)<(len_ U dn.cv)))=true then
     some false
    else
     if (decide ((24:Int)<(len_ U dn.ch.cn)))=true then
      some false
     else
      ss dn.ch.cn dn.cv >>= fun ff =>
      qn ff >>= fun fq =>
      some fq
  else
   some false
 else
  some false
theorem KB {dn:cD}:bm (mx dn) (fun r=>Con a2 66 [.agg [.b dn.ch.fo,.isl 1 (dn.ch.cn.map U),.isl 1 (dn.cv.map U)]] [] (.b r) []):=by
 unfold mx
 exact .aJ fun r1 R =>
  (have bz:=((.az (Ds r1 R) (a1.b r1)):b2 _);
  .ite (fun ai =>
  .aJ fun bg aM =>
  (have aO:=bz.aC (.eQ (bE ai) (bE ai) (bE ai) (z8 bg aM) (a1.b bg) (bE ai) (bE ai));
  .ite (fun ba =>
  (have eJ:=aO.aC (.dM (bE ba) (bE ba) (bE ba) (bE ba) (bE ba));
  .ite (fun a5 =>
  .ret (a8 [.J (o 2 []),.J (o 2 (aj (bM 1 (.b r1) true) (o 4 (aj (bM 1 (.b bg) true) (o 1 (aj (.af false) (o 5 (aj (.af false) (o 1 (cc 4 (aj (.af true) (o 1 (cc 5 (o 1 [])))))))))))))),.af true,.J (o 1 [])] (eJ.aC (.br a5 a5 a5 a5 a5 bF bF bF (.bp bF bF bF)))))
  (fun a5 =>
  .ite (fun bV =>
  .ret (a8 [.J (o 2 []),.J (o 2 (aj (bM 1 (.b r1) true) (o 4 (aj (bM 1 (.b bg) true) (o 1 (aj (.af false) (o 5 (aj (.af false) (o 5 (aj (.af false) (o 1 (cc 5 (aj (.af true) []))))))))))))),.af true,.J (o 1 [])] (eJ.aC (.br a5 a5 a5 a5 a5 bV bV bV (.cI bV bV bV bF)))))
  (fun bV =>
  (let t4:List bx:=[.J (o 2 []),.J (o 2 (aj (bM 1 (.b r1) true) (o 4 (aj (bM 1 (.b bg) true) (o 1 (aj (.af false) (o 5 (aj (.af false) (o 5 (aj (.af false) (o 6 (aj (.af false) []))))))))))))];
  have jF:=eJ.aC (.br a5 a5 a5 a5 a5 bV bV bV (.bp bV bV bV));
  .ite (fun dv =>
  .ret (a8 (t4.append [.af true,.J (o 1 [])]) (jF.aC (.e1 dv))))
  (fun dv =>
  .aJ fun ff eb =>
  .aJ fun fq e9 =>
  .ret (a8 (t4.append [.af false,.J (o 5 (aj (bM 2 (.isl 1 (ff.map U)) false) (aj (bM 1 (.b fq) true) (o 1 []))))]) (jF.aC (.cI dv (Kk ff eb) (DG fq e9) (a1.b fq))))))))))
  (fun ba =>
  .ret (a8 [.J (o 2 []),.J (o 2 (aj (bM 1 (.b r1) true) (o 4 (aj (bM 1 (.b bg) true) (o 1 (aj (.af false) (o 1 (cc 4 (aj (.af true) (o 1 (cc 4 (o 2 (cc 5 (o 1 [])))))))))))))),.af true,.J (o 1 [])] (aO.aC (.br (bS ba) (bS ba) (bS ba) (bS ba) (bS ba) bF bF bF (.eQ bF bF bF bF bF bF bF)))))))
  (fun ai =>
  .ret (a8 [.J (o 2 []),.J (o 2 (aj (bM 1 (.b r1) true) (o 2 (cc 4 (aj (.af true) (o 1 (cc 4 (o 2 (cc 4 (o 2 (cc 5 (o 1 [])))))))))))),.af true,.J (o 1 [])] (bz.aC (.br (bS ai) (bS ai) (bS ai) (bS ai) (bS ai) bF bF bF (.br bF bF bF bF bF bF bF bF (.bp bF bF bF)))))))
def yc (gA:(List cD)) (eC:Int):Int→S:=fun cg=>c6 [(5,.isl 3 (gA.map eTRat)),(6,.n .i64 eC),(7,.n .i64 cg)] []
def CR (gA:(List cD)) (eC:Int):((Unit)⊕(Unit))→dc
 | .inl a=>⟨some 0,[],[]⟩
 | .inr a=>⟨none,[(2,.b false)],[]⟩
def pL (gA:(List cD)) (eC:Int) (cg:Int):Option ((Int)⊕((Unit)⊕(Unit))) :=
 if (decide (cg<eC))=true then
  if 0≤cg∧cg<gA.length then
  gA[cg.toNat]? >>= fun al =>
  mx al >>= fun aZ =>
  if aZ=true then
   some (.inl (ab (cg+(1:Int))))
  else
   some (.inr (.inr ()))
  else none
 else
  some (.inr (.inl ()))
def zA (gA:(List cD)) (eC:Int) (cg:Int):Option ((Unit)⊕(Unit)):=iter (fun w:Int=>pL gA eC w) cg
theorem HX {gA:(List cD)} {eC:Int} {cg:Int}:bm (pL gA eC cg) (dI a2 15 0 40 [1,0,1,0,0] (yc gA eC cg) (yc gA eC) (CR gA eC)):=by
 unfold pL
 exact .ite (fun h1 =>
  .bu fun R =>
  .aJ fun al ax =>
  .aJ fun aZ ba =>
  (let t1:List bx:=[.J (o 1 []),.af true,.J (o 1 (aj (.bQ (eTRat al)) (o 2 []))),.J (o 1 (aj (bM 1 (.b aZ) true) (o 1 [])))];
  have aO:=((.ez h1 R.1 (c9 eTRat R.2) (cm eTRat ax) (KB aZ ba) (a1.b aZ)):b2 _);
  .ite (fun a5 =>
  .ret (bi (t1.append [.af false,.J (o 2 []),.a0 [] [] (bf [5,6,7])]) (aO.aC (.e1 (bE a5)))))
  (fun a5 =>
  .ret (bi (t1.append [.af true,.J (o 1 []),.a0 [] [] (bf [2])]) (aO.aC (.e1 (bS a5)))))))
  (fun h1 =>
  .ret (bi [.J (o 1 []),.af false,.a0 [] [] []] (.e1 h1)))
theorem CY {gA:(List cD)} {eC:Int} {cg:Int} {r} (h:zA gA eC cg=some r):dJ a2 15 0 40 [1,0,1,0,0] (yc gA eC) (CR gA eC) cg r:=dK (fun _=>HX) h
def oh (b7:(List cD)):Option Bool :=
 zA b7 (len_ eTRat b7) 0 >>= fun r1 =>
 match r1 with
 | .inl cw=>(some true)
 | .inr cw=>(some false)
theorem JL {b7:(List cD)}:bm (oh b7) (fun r=>Con a2 40 [.isl 3 (b7.map eTRat)] [] (.b r) []):=by
 unfold oh
 exact .aJ fun r1 R =>
  (let t1:List bx:=[.J (o 1 []),.J (o 3 []),.a0 [] [] (bf [5,6,7])];
  (by
  rcases r1 with cw|cw
  ·exact (.ret (a8 (t1.append [.sub (.exit 0) [] [],.J (o 1 [])]) (.e1 (CY R))))
  ·exact (.ret (a8 (t1.append [.sub (.ret) [(2,.b false)] []]) (.e1 (CY R))))))
def vb (aQ:cX) (fv:(List cD)):Option Bool :=
 m7 aQ >>= fun r1 =>
 if r1=true then
  if ((len_ eTRat fv) == (ab ((2:Int)*(len_ au aQ.bs))))=true then
   oh fv >>= fun aZ =>
   some aZ
  else
   some false
 else
  some false
theorem Jq {aQ:cX} {fv:(List cD)}:bm (vb aQ fv) (fun r=>Con a2 18 [.agg [.isl 4 (aQ.bs.map au),.isl 3 (aQ.bZ.map ay)],.isl 3 (fv.map eTRat)] [] (.b r) []):=by
 unfold vb
 exact .aJ fun r1 R =>
  (have bz:=((.az (CW r1 R) (a1.b r1)):b2 _);
  .ite (fun ai =>
  .ite (fun ax =>
  .aJ fun aZ ba =>
  .ret (a8 [.J (o 2 []),.J (o 1 (aj (bM 1 (.b r1) true) (o 8 (aj (.af true) (o 2 (aj (bM 1 (.b aZ) true) (aj (.af true) (o 1 []))))))))] (bz.aC (.br ai ai ai ai ai ai ai ai (.dM ax ax (JL aZ ba) (a1.b aZ) ax)))))
  (fun ax =>
  .ret (a8 [.J (o 2 []),.J (o 1 (aj (bM 1 (.b r1) true) (o 8 (aj (.af true) (o 1 (cc 2 (aj (.af false) (o 1 []))))))))] (bz.aC (.br ai ai ai ai ai ai ai ai (.bp ax ax ax))))))
  (fun ai =>
  .ret (a8 [.J (o 2 []),.J (o 1 (aj (bM 1 (.b r1) true) (o 1 (cc 7 (aj (.af false) (o 1 (cc 2 (o 2 []))))))))] (bz.aC (.br ai ai ai ai ai ai ai ai (.az hg hg))))))
def yL (bd:Int) (cg:(List Int)) (cx:Int):Int→S:=fun eN=>c6 [(1,.n .i64 bd),(7,.isl 1 (cg.map U)),(8,.n .i64 cx),(9,.n .i64 eN)] []
def C6 (bd:Int) (cg:(List Int)) (cx:Int):((Unit)⊕(Unit))→dc
 | .inl a=>⟨some 0,[],[]⟩
 | .inr a=>⟨none,[(4,.b true)],[]⟩
def yM (bd:Int) (cg:(List Int)) (cx:Int) (eN:Int):Option ((Int)⊕((Unit)⊕(Unit))) :=
 if (decide (eN<cx))=true then
  if 0≤eN∧eN<cg.length then
  cg[eN.toNat]? >>= fun al =>
  if (al == bd)=true then
   some (.inr (.inr ()))
  else
   some (.inl (ab (eN+(1:Int))))
  else none
 else
  some (.inr (.inl ()))
def vc (bd:Int) (cg:(List Int)) (cx:Int) (eN:Int):Option ((Unit)⊕(Unit)):=iter (fun w:Int=>yM bd cg cx w) eN
theorem Ir {bd:Int} {cg:(List Int)} {cx:Int} {eN:Int}:bm (yM bd cg cx eN) (dI a2 17 0 41 [1,0,1,0,0] (yL bd cg cx eN) (yL bd cg cx) (C6 bd cg cx)):=by
 unfold yM
 exact .ite (fun h1 =>
  .bu fun R =>
  .aJ fun al ax =>
  (let t1:List bx:=[.J (o 1 []),.af true,.J (o 1 (aj (.bQ (U al)) (o 1 []))),.J (o 3 [])];
  have aO:=((.cI h1 R.1 (c9 U R.2) (cm U ax)):b2 _);
  .ite (fun aM =>
  .ret (bi (t1.append [.af true,.J (o 1 []),.a0 [] [] (bf [4])]) (aO.aC (.e1 aM))))
  (fun aM =>
  .ret (bi (t1.append [.af false,.J (o 2 []),.a0 [] [] (bf [1,7,8,9])]) (aO.aC (.e1 aM))))))
  (fun h1 =>
  .ret (bi [.J (o 1 []),.af false,.a0 [] [] []] (.e1 h1)))
theorem Dj {bd:Int} {cg:(List Int)} {cx:Int} {eN:Int} {r} (h:vc bd cg cx eN=some r):dJ a2 17 0 41 [1,0,1,0,0] (yL bd cg cx) (C6 bd cg cx) eN r:=dK (fun _=>Ir) h
def st (tZ:(List Int)) (bd:Int):Option Bool :=
 vc bd tZ (len_ U tZ) 0 >>= fun r1 =>
 match r1 with
 | .inl cw=>(some false)
 | .inr cw=>(some true)
theorem Kl {tZ:(List Int)} {bd:Int}:bm (st tZ bd) (fun r=>Con a2 41 [.isl 1 (tZ.map U),.n .i64 bd] [] (.b r) []):=by
 unfold st
 exact .aJ fun r1 R =>
  (let t1:List bx:=[.J (o 1 []),.J (o 3 []),.a0 [] [] (bf [1,7,8,9])];
  (by
  rcases r1 with cw|cw
  ·exact (.ret (a8 (t1.append [.sub (.exit 0) [] [],.J (o 1 [])]) (.e1 (Dj R))))
  ·exact (.ret (a8 (t1.append [.sub (.ret) [(4,.b true)] []]) (.e1 (Dj R))))))
def xu (dU:(List Int)) (eL:(List aN)) (ex:Int) (bt:(List aB)):(Int×(List aN))→S:=fun (fC,b6)=>c6 [(1,.isl 1 (dU.map U)),(4,.ref 0 0 0 0),(5,.ref 1 0 0 0),(14,.isl 3 (eL.map ay)),(15,.n .i64 ex),(16,.n .i64 fC)] [[ae.mk 2 [[.cT,.cT]] .live],[ae.mk 2 [[.aV 2 0 0 bt.length,.aV 3 0 0 b6.length]] .live],[ae.mk 4 (bt.map au) .live],[ae.mk 3 (b6.map ay) .live]]
def xx (dU:(List Int)) (eL:(List aN)) (ex:Int) (bt:(List aB)):(List aN)→dc
 | a=>⟨some 0,[(4,.ref 0 0 0 0),(5,.ref 1 0 0 0)],[[ae.mk 2 [[.cT,.cT]] .live],[ae.mk 2 [[.aV 2 0 0 bt.length,.aV 3 0 0 a.length]] .live],[ae.mk 4 (bt.map au) .live],[ae.mk 3 (a.map ay) .live]]⟩
def pz (dU:(List Int)) (eL:(List aN)) (ex:Int) (bt:(List aB)) (fC:Int) (b6:(List aN)):Option ((Int×(List aN))⊕((List aN))) :=
 if (decide (fC<ex))=true then
  if 0≤fC∧fC<eL.length then
  eL[fC.toNat]? >>= fun al =>
  st dU fC >>= fun aZ =>
  if aZ=true then
   some (.inl (ab (fC+(1:Int)),b6))
  else
   if (b6++([al]:List aN)).length*24≤140737488355328 then
   some (.inl (ab (fC+(1:Int)),b6++([al]:List aN)))
   else none
  else none
 else
  some (.inr b6)
def xH (dU:(List Int)) (eL:(List aN)) (ex:Int) (bt:(List aB)) (fC:Int) (b6:(List aN)):Option ((List aN)):=iter (fun w:Int×(List aN)=>pz dU eL ex bt w.1 w.2) (fC,b6)
theorem Hq {dU:(List Int)} {eL:(List aN)} {ex:Int} {bt:(List aB)} {fC:Int} {b6:(List aN)}:bm (pz dU eL ex bt fC b6) (dI a2 33 0 19 [1,1,0,1,0,0] (xu dU eL ex bt (fC,b6)) (xu dU eL ex bt) (xx dU eL ex bt)):=by
 unfold pz
 exact .ite (fun h1 =>
  .bu fun R =>
  .aJ fun al ax =>
  .aJ fun aZ ba =>
  (let t1:List bx:=[.J (o 1 []),.af true,.J (o 2 (aj (.bQ (ay al)) (o 3 []))),.J (o 2 (aj (bM 2 (.b aZ) true) (o 1 [])))];
  have aO:=((.ez h1 R.1 (c9 ay R.2) (cm ay ax) (Kl aZ ba) (a1.b aZ)):b2 _);
  .ite (fun a5 =>
  .ret (bi (t1.append [.af false,.J (o 2 []),.a0 [0,1,2,3] [.box [.id,.id],.box [.id,.id],.pure,.pure] (bf [1,4,5,14,15,16])]) (aO.aC (.bp (bE a5) (bD 4 .live eh bt) (bD 3 .live dl b6)))))
  (fun a5 =>
  .bu fun bV =>
  .ret (bi (t1.append [.af true,.J (o 4 (aj (.aC ((b6++([al]:List aN)).length)) (o 2 []))),.J (o 2 []),.a0 [0,1,2,19] [.box [.id,.id],.box [.id,.id],.pure,.dP [ae.mk 3 ((b6++([al]:List aN)).map ay) .live]] (bf [1,4,5,14,15,16])]) (aO.aC (.hN (bS a5) (cY (show [[.n .i64 al.dg,.n .i64 al.c0,.n .i64 al.dq]]=(([al]:List aN)).map ay from rfl) (show 1=([al]:List aN).length from rfl)) (jq (aT ay b6) (bw b6)) (jr (bw b6) (ia (show [[.n .i64 al.dg,.n .i64 al.c0,.n .i64 al.dq]]=(([al]:List aN)).map ay from rfl) (show 1=([al]:List aN).length from rfl)):(b6++([al]:List aN)).length=b6.length+(([[.n .i64 al.dg,.n .i64 al.c0,.n .i64 al.dq]].drop 0).take 1).length) bV (bD 4 .live eh bt) (eA 3 .live (hP (aT ay b6) (bw b6) (ia (show [[.n .i64 al.dg,.n .i64 al.c0,.n .i64 al.dq]]=(([al]:List aN)).map ay from rfl) (show 1=([al]:List aN).length from rfl)))) (bD 3 .live dl (b6++([al]:List aN)))))))))
  (fun h1 =>
  .ret (bi [.J (o 1 []),.af false,.a0 [0,1,2,3] [.box [.id,.id],.box [.id,.id],.pure,.pure] (bf [4,5])] (.bp h1 (bD 4 .live eh bt) (bD 3 .live dl b6))))
theorem Hz {dU:(List Int)} {eL:(List aN)} {ex:Int} {bt:(List aB)} {fC:Int} {b6:(List aN)} {r} (h:xH dU eL ex bt fC b6=some r):dJ a2 33 0 19 [1,1,0,1,0,0] (xu dU eL ex bt) (xx dU eL ex bt) (fC,b6) r:=dK (fun _=>Hq) h
def pM (aQ:cX) (dU:(List Int)):Option (List aN) :=
 if (([]:List aB)++aQ.bs).length*40≤140737488355328 then
 xH dU aQ.bZ (len_ ay aQ.bZ) (([]:List aB)++aQ.bs) 0 ([]:List aN) >>= fun bj =>
 some bj
 else none
theorem HY {aQ:cX} {dU:(List Int)}:bm (pM aQ dU) (fun a=>Con a2 19 [.agg [.isl 4 (aQ.bs.map au),.isl 3 (aQ.bZ.map ay)],.isl 1 (dU.map U)] [] (.agg [.aV 0 0 0 ((([]:List aB)++aQ.bs).length),.aV 0 1 0 a.length]) [[ae.mk 4 ((([]:List aB)++aQ.bs).map au) .live,ae.mk 3 (a.map ay) .live]]):=by
 unfold pM
 exact .bu fun h1 =>
  .aJ fun bj ai =>
  .ret (gQ [.J (o 2 []),.J (o 3 (aj (.aC ((([]:List aB)++aQ.bs).length)) (o 3 []))),.J (o 4 []),.tY 7 1 3,.a0 [1,7,5,13] [.box [.id,.id],.box [.id,.len (([]:List aN).length)],.dP [ae.mk 4 ((([]:List aB)++aQ.bs).map au) .live],.dP [ae.mk 3 (([]:List aN).map ay) .live]] (bf [1,4,5,14,15,16]),(xx dU aQ.bZ (len_ ay aQ.bZ) (([]:List aB)++aQ.bs) bj).eU,.J (o 2 []),.ri [{a9:=[(2,0),(3,0)],fM:=none},{a9:=[(0,0)]}] [([.pure,.pure],none),([.box [.at_ 0 0 ((([]:List aB)++aQ.bs).length),.at_ 0 1 bj.length]],none)] [(4,.bI (.cb (.at_ 1 0 0)))]] [0] [.eg [ae.mk 4 ((([]:List aB)++aQ.bs).map au) .live,ae.mk 3 (bj.map ay) .live]] (.br (jq (show []=(([]:List aB)).map au from rfl) (show 0=([]:List aB).length from rfl)) (jr (show 0=([]:List aB).length from rfl) (aT au aQ.bs):(([]:List aB)++aQ.bs).length=0+(aQ.bs.map au).length) h1 (show 0=([]:List aN).length from rfl) (eA 4 .live (hP (show []=(([]:List aB)).map au from rfl) (show 0=([]:List aB).length from rfl) (aT au aQ.bs))) (bD 4 .live eh (([]:List aB)++aQ.bs)) (eA 3 .live (show ([]:List (List av))=([]:List aN).map ay from rfl)) (bD 3 .live dl ([]:List aN)) (.br (Hz ai) (bD 4 .live eh (([]:List aB)++aQ.bs)) (bD 3 .live dl bj) (rfl:(hZ [{a9:=[(2,0),(3,0)],fM:=none},{a9:=[(0,0)]}]) 0 0=some (2,0)) (rfl:(([]:List aB)++aQ.bs).length=(([]:List aB)++aQ.bs).length) (rfl:(hZ [{a9:=[(2,0),(3,0)],fM:=none},{a9:=[(0,0)]}]) 0 1=some (3,0)) (rfl:bj.length=bj.length) (rfl:(hZ [{a9:=[(2,0),(3,0)],fM:=none},{a9:=[(0,0)]}]) 1 0=some (0,0)) (.e1 (dh (dk (aY:=(cZ [0])) 4 .live au (aT au (([]:List aB)++aQ.bs)) (fun x=>(dj h9) x)) (dh (dk (aY:=(cZ [0])) 3 .live ay (aT ay bj) (fun x=>(dj h8) x)) (hE (aY:=(cZ [0])))))))) (.bI (.agg [.id,.id])))
def ob (cO:hi):Option (Int×Bool) :=
 l6 cO.cn >>= fun r1 =>
 if r1.2=true then
  og cO >>= fun bg =>
  if bg=true then
   if cO.fo=true then
    some (ab (0-r1.1),true)
   else
    some (r1.1,true)
  else
   some (0,false)
 else
  some (0,false)
theorem I4 {cO:hi}:bm (ob cO) (fun r=>Con a2 43 [.agg [.b cO.fo,.isl 1 (cO.cn.map U)]] [] (.cy [.n .i64 r.1,.b r.2]) []):=by
 unfold ob
 exact .aJ fun r1 R =>
  (let t1:List bx:=[.J (o 3 []),.J (o 2 (aj (bM 1 (.cy [.n .i64 r1.1,.b r1.2]) true) (o 5 [])))];
  have aO:=((.az (zy r1 R) (kj (dz (a1.n .i64 r1.1) (dz (a1.b r1.2) f6)))):b2 _);
  .ite (fun ai =>
  .aJ fun bg aM =>
  (let t3:List bx:=t1.append [.J (o 4 (aj (bM 1 (.b bg) true) (o 1 (aj (.af false) []))))];
  have c8:=aO.aC (.ez (bE ai) (bE ai) (Ds bg aM) (a1.b bg) (bE ai) (bE ai));
  .ite (fun ba =>
  .ite (fun a5 =>
  .ret (a8 (t3.append [.af false,.J (o 2 []),.af true,.J (o 4 [])]) (c8.aC (.az (bE ba) a5))))
  (fun a5 =>
  .ret (a8 (t3.append [.af false,.J (o 2 []),.af false,.J (o 3 [])]) (c8.aC (.az (bE ba) a5)))))
  (fun ba =>
  .ret (a8 (t3.append [.af true,.J (o 2 [])]) (c8.aC (.e1 (bS ba)))))))
  (fun ai =>
  .ret (a8 (t1.append [.J (o 3 (cc 3 (aj (.af true) []))),.af true,.J (o 2 [])]) (aO.aC (.dM (bS ai) (bS ai) (bS ai) (bS ai) bF)))))
def qo (dn:cD):Option (Int×Bool) :=
 qn dn.cv >>= fun r1 =>
 if r1=true then
  ob dn.ch >>= fun bg =>
  some (bg.1,bg.2)
 else
  some (0,false)
theorem DH {dn:cD}:bm (qo dn) (fun r=>Con a2 20 [.agg [.b dn.ch.fo,.isl 1 (dn.ch.cn.map U),.isl 1 (dn.cv.map U)]] [] (.cy [.n .i64 r.1,.b r.2]) []):=by
 unfold qo
 exact .aJ fun r1 R =>
  (let t1:List bx:=[.J (o 3 []),.J (o 2 (aj (bM 1 (.b r1) true) (o 1 [])))];
  have aO:=((.az (DG r1 R) (a1.b r1)):b2 _);
  .ite (fun ai =>
  .aJ fun bg aM =>
  .ret (a8 (t1.append [.af false,.J (o 2 (aj (bM 1 (.cy [.n .i64 bg.1,.b bg.2]) true) (o 4 [])))]) (aO.aC (.bp (bE ai) (I4 bg aM) (kj (dz (a1.n .i64 bg.1) (dz (a1.b bg.2) f6)))))))
  (fun ai =>
  .ret (a8 (t1.append [.af true,.J (o 2 [])]) (aO.aC (.e1 (bS ai))))))
def yN (fv:(List cD)) (fR:Int) (eX:(List aN)):(Int×(List aB))→S:=fun (ev,eo)=>c6 [(1,.isl 3 (fv.map eTRat)),(4,.ref 0 0 0 0),(6,.ref 1 0 0 0),(21,.n .i64 fR),(22,.n .i64 ev)] [[ae.mk 2 [[.cT,.cT]] .live],[ae.mk 2 [[.aV 2 0 0 eo.length,.aV 2 1 0 eX.length]] .live],[ae.mk 4 (eo.map au) .live,ae.mk 3 (eX.map ay) .live]]
def y8 (fv:(List cD)) (fR:Int) (eX:(List aN)):(((List aB))⊕(Unit))→dc
 | .inl a=>⟨some 0,[(4,.ref 0 0 0 0),(6,.ref 1 0 0 0)],[[ae.mk 2 [[.cT,.cT]] .live],[ae.mk 2 [[.aV 2 0 0 a.length,.aV 2 1 0 eX.length]] .live],[ae.mk 4 (a.map au) .live,ae.mk 3 (eX.map ay) .live]]⟩
 | .inr a=>⟨none,[(4,.ref 0 0 0 0),(5,.b false)],[[ae.mk 2 [[.cT,.cT]] .live]]⟩
def m4 (fv:(List cD)) (fR:Int) (eX:(List aN)) (ev:Int) (eo:(List aB)):Option ((Int×(List aB))⊕(((List aB))⊕(Unit))) :=
 if (decide (ev<fR))=true then
  if 0≤(ab ((2:Int)*ev))∧(ab ((2:Int)*ev))<fv.length then
  fv[(ab ((2:Int)*ev)).toNat]? >>= fun al =>
  qo al >>= fun aZ =>
  if 0≤(ab ((ab ((2:Int)*ev))+(1:Int)))∧(ab ((ab ((2:Int)*ev))+(1:Int)))<fv.length then
  fv[(ab ((ab ((2:Int)*ev))+(1:Int))).toNat]? >>= fun kK =>
  qo kK >>= fun ff =>
  if aZ.2=true then
   if ff.2=true then
    if 0≤ev∧ev<(eo.length:Nat) then
    eo[(0+ev.toNat)]? >>= fun eT =>
    (eo.set (0+ev.toNat) (⟨eT.cu,aZ.1,eT.cJ,eT.cf⟩:aB))[(0+ev.toNat)]? >>= fun iz =>
    some (.inl (ab (ev+(1:Int)),(eo.set (0+ev.toNat) (⟨eT.cu,aZ.1,eT.cJ,eT.cf⟩:aB)).set (0+ev.toNat) (⟨iz.cu,iz.c5,ff.1,iz.cf⟩:aB)))
    else none
   else
    some (.inr (.inr ()))
  else
   some (.inr (.inr ()))
  else none
  else none
 else
  some (.inr (.inl eo))
def z0 (fv:(List cD)) (fR:Int) (eX:(List aN)) (ev:Int) (eo:(List aB)):Option (((List aB))⊕(Unit)):=iter (fun w:Int×(List aB)=>m4 fv fR eX w.1 w.2) (ev,eo)
theorem Is {fv:(List cD)} {fR:Int} {eX:(List aN)} {ev:Int} {eo:(List aB)}:bm (m4 fv fR eX ev eo) (dI a2 69 0 6 [1,1,1,0,1,0,0] (yN fv fR eX (ev,eo)) (yN fv fR eX) (y8 fv fR eX)):=by
 unfold m4
 exact .ite (fun h1 =>
  .bu fun R =>
  .aJ fun al ax =>
  .aJ fun aZ ba =>
  .bu fun a5 =>
  .aJ fun kK dv =>
  .aJ fun ff eb =>
  (let t1:List bx:=[.J (o 1 []),.af true,.J (o 2 []),.J (o 4 (aj (.bQ (eTRat al)) (aj (bM 1 (.cy [.n .i64 aZ.1,.b aZ.2]) true) (o 5 [])))),.J (o 5 (aj (.bQ (eTRat kK)) (aj (bM 1 (.cy [.n .i64 ff.1,.b ff.2]) true) (o 5 []))))];
  have aO:=((.br h1 R.1 (c9 eTRat R.2) (cm eTRat ax) (DH aZ ba) (kj (dz (a1.n .i64 aZ.1) (dz (a1.b aZ.2) f6))) a5.1 (c9 eTRat a5.2) (.bp (cm eTRat dv) (DH ff eb) (kj (dz (a1.n .i64 ff.1) (dz (a1.b ff.2) f6))))):b2 _);
  .ite (fun ht =>
  (let t3:List bx:=t1.append [.J (o 5 (aj (.af false) []))];
  have c8:=aO.aC (.bp (bE ht) (bE ht) (bE ht));
  .ite (fun e9 =>
  .bu fun eI =>
  .aJ fun eT jT =>
  .aJ fun iz iR =>
  .ret (bi (t3.append [.af false,.J (o 5 (aj (.bQ (au eT)) (aj (.bQ (au eT)) []))),.J (o 5 (aj (.bQ (au iz)) (aj (.bQ (au iz)) []))),.J (o 2 []),.a0 [0,1,2] [.box [.id,.id],.box [.len (((eo.set (0+ev.toNat) (⟨eT.cu,aZ.1,eT.cJ,eT.cf⟩:aB)).set (0+ev.toNat) (⟨iz.cu,iz.c5,ff.1,iz.cf⟩:aB)).length),.id],.eg [ae.mk 4 (((eo.set (0+ev.toNat) (⟨eT.cu,aZ.1,eT.cJ,eT.cf⟩:aB)).set (0+ev.toNat) (⟨iz.cu,iz.c5,ff.1,iz.cf⟩:aB)).map au) .live,ae.mk 3 (eX.map ay) .live]] (bf [1,4,6,21,22])]) (c8.aC (.br (bE e9) eI.1 eI.2 (cm au jT) (cm au jT) eI.1 eI.2 (iE (e7 (aT au eo) (0+ev.toNat) (⟨eT.cu,aZ.1,eT.cJ,eT.cf⟩:aB) (rfl:(setCells (au eT) 1 [.n .i64 aZ.1])=au (⟨eT.cu,aZ.1,eT.cJ,eT.cf⟩:aB))) iR) (.bp (iE (e7 (aT au eo) (0+ev.toNat) (⟨eT.cu,aZ.1,eT.cJ,eT.cf⟩:aB) (rfl:(setCells (au eT) 1 [.n .i64 aZ.1])=au (⟨eT.cu,aZ.1,eT.cJ,eT.cf⟩:aB))) iR) (gU (gU (bw eo) (0+ev.toNat) (⟨eT.cu,aZ.1,eT.cJ,eT.cf⟩:aB)) (0+ev.toNat) (⟨iz.cu,iz.c5,ff.1,iz.cf⟩:aB)) (dh (dk (aY:=(cZ [0,1,2])) 4 .live au (e7 (e7 (aT au eo) (0+ev.toNat) (⟨eT.cu,aZ.1,eT.cJ,eT.cf⟩:aB) (rfl:(setCells (au eT) 1 [.n .i64 aZ.1])=au (⟨eT.cu,aZ.1,eT.cJ,eT.cf⟩:aB))) (0+ev.toNat) (⟨iz.cu,iz.c5,ff.1,iz.cf⟩:aB) (rfl:(setCells (au iz) 2 [.n .i64 ff.1])=au (⟨iz.cu,iz.c5,ff.1,iz.cf⟩:aB))) (fun x=>(dj h9) x)) (dh (dk (aY:=(cZ [0,1,2])) 3 .live ay (aT ay eX) (fun x=>(dj h8) x)) (hE (aY:=(cZ [0,1,2]))))))))))
  (fun e9 =>
  .ret (bi (t3.append [.af true,.J (o 3 []),.a0 [0] [.box [.id,.id]] (bf [4,5])]) (c8.aC (.e1 (bS e9)))))))
  (fun ht =>
  .ret (bi (t1.append [.J (o 3 (cc 2 (aj (.af true) []))),.af true,.J (o 3 []),.a0 [0] [.box [.id,.id]] (bf [4,5])]) (aO.aC (.cI (bS ht) (bS ht) (bS ht) bF))))))
  (fun h1 =>
  .ret (bi [.J (o 1 []),.af false,.a0 [0,1,2] [.box [.id,.id],.box [.id,.id],.eg [ae.mk 4 (eo.map au) .live,ae.mk 3 (eX.map ay) .live]] (bf [4,6])] (.az h1 (dh (dk (aY:=(cZ [0,1,2])) 4 .live au (aT au eo) (fun x=>(dj h9) x)) (dh (dk (aY:=(cZ [0,1,2])) 3 .live ay (aT ay eX) (fun x=>(dj h8) x)) (hE (aY:=(cZ [0,1,2]))))))))
theorem Dk {fv:(List cD)} {fR:Int} {eX:(List aN)} {ev:Int} {eo:(List aB)} {r} (h:z0 fv fR eX ev eo=some r):dJ a2 69 0 6 [1,1,1,0,1,0,0] (yN fv fR eX) (y8 fv fR eX) (ev,eo) r:=dK (fun _=>Is) h
def qp (aQ:cX) (fv:(List cD)):Option (cX×Bool) :=
 vb aQ fv >>= fun r1 =>
 if r1=true then
  pM aQ ([]:List Int) >>= fun bg =>
  z0 fv (((([]:List aB)++aQ.bs).length:Nat):Int) bg 0 (([]:List aB)++aQ.bs) >>= fun ec =>
  match ec with
  | .inl iB=>(m7 (⟨iB,bg⟩:cX) >>= fun aE =>
   if aE=true then
    some ((⟨iB,bg⟩:cX),true)
   else
    some ((⟨([]:List aB),([]:List aN)⟩:cX),false))
  | .inr iB=>(some ((⟨([]:List aB),([]:List aN)⟩:cX),false))
 else
  some ((⟨([]:List aB),([]:List aN)⟩:cX),false)
theorem Km {aQ:cX} {fv:(List cD)}:bm (qp aQ fv) (fun r=>Con a2 6 [.agg [.isl 4 (aQ.bs.map au),.isl 3 (aQ.bZ.map ay)],.isl 3 (fv.map eTRat)] [] (.cy [.agg [.isl 4 (r.1.bs.map au),.isl 3 (r.1.bZ.map ay)],.b r.2]) []):=by
 unfold qp
 exact .aJ fun r1 R =>
  (let t1:List bx:=[.J (o 3 []),.J (o 2 (aj (bM 2 (.b r1) true) (o 1 [])))];
  have aO:=((.az (Jq r1 R) (a1.b r1)):b2 _);
  .ite (fun ai =>
  .aJ fun bg aM =>
  .aJ fun ec a5 =>
  (let t3:List bx:=t1.append [.af false,.J (o 1 (aj (.call {aA:=[],bR:=[],ac:=[ii,.bI (.cb (.gE 1))],r:= .agg [.aV 0 0 0 ((([]:List aB)++aQ.bs).length),.aV 0 1 0 bg.length],cC:=[[ae.mk 4 ((([]:List aB)++aQ.bs).map au) .live,ae.mk 3 (bg.map ay) .live]],dE:= .bI (.agg [.id,.id]),d9:=[.eg [ae.mk 4 ((([]:List aB)++aQ.bs).map au) .live,ae.mk 3 (bg.map ay) .live]],cK:=[],cH:=true}) (o 2 []))),.J (o 4 []),.a0 [1,9,8] [.box [.id,.id],.box [.id,.id],.eg [ae.mk 4 ((([]:List aB)++aQ.bs).map au) .live,ae.mk 3 (bg.map ay) .live]] (bf [1,4,6,21,22])];
  have c8:=aO.aC (.eQ (bE ai) (dh (dk (aY:=(c3 [.row 8])) 4 .live au (aT au (([]:List aB)++aQ.bs)) (fun x=>(dj h9) x)) (dh (dk (aY:=(c3 [.row 8])) 3 .live ay (aT ay bg) (fun x=>(dj h8) x)) (hE (aY:=(c3 [.row 8]))))) ((fi rfl (fi rfl kP)):fI [ae.mk 4 ((([]:List aB)++aQ.bs).map au) .live,ae.mk 3 (bg.map ay) .live]) (HY bg aM) (a1.agg (dz (a1.aV 0 0 0 ((([]:List aB)++aQ.bs).length)) (dz (a1.aV 0 1 0 bg.length) f6))) ((gw (eV (eS kz) (eV (eS j1) hR)) gx):fE [[ae.mk 4 ((([]:List aB)++aQ.bs).map au) .live,ae.mk 3 (bg.map ay) .live]]) (dh (dk (aY:=(cZ [1,9,8])) 4 .live au (aT au (([]:List aB)++aQ.bs)) (fun x=>(dj h9) x)) (dh (dk (aY:=(cZ [1,9,8])) 3 .live ay (aT ay bg) (fun x=>(dj h8) x)) (hE (aY:=(cZ [1,9,8]))))));
  (by
  rcases ec with iB|iB
  ·exact (.aJ fun aE df =>
  (let t5:List bx:=t3.append [(y8 fv (((([]:List aB)++aQ.bs).length:Nat):Int) bg (.inl iB)).eU,.J (o 1 (aj (.call {ac:=[.bI (.agg [.db (iB.map au),.db (bg.map ay)])],r:= .b aE,cH:=true,cK:=[2]}) (o 1 [])))];
  have gS:=c8.aC (.br (Dk a5) (d7 (aT au iB) (bw iB)) (cY (aT au iB) (bw iB)) (cM eh iB) (d7 (aT ay bg) (bw bg)) (cY (aT ay bg) (bw bg)) (cM dl bg) (CW aE df) (.e1 (a1.b aE)));
  .ite (fun eb =>
  .ret (a8 (t5.append [.af false,.J (o 3 [])]) (gS.aC (.eQ (bE eb) (d7 (aT au iB) (bw iB)) (cY (aT au iB) (bw iB)) (cM eh iB) (d7 (aT ay bg) (bw bg)) (cY (aT ay bg) (bw bg)) (cM dl bg))) (.comp [.agg [.db (iB.map au),.db (bg.map ay)],.cb .id])))
  (fun eb =>
  .ret (a8 (t5.append [.af true,.J (o 3 [])]) (gS.aC (.e1 (bS eb))) (.comp [.agg [.gE 4,.gE 3],.cb .id])))))
  ·exact (.ret (a8 (t3.append [.sub (.ret) [(4,.ref 0 0 0 0),(5,.b false)] [[ae.mk 2 [[.cT,.cT]] .live]]]) (c8.aC (.e1 (Dk a5))) (.comp [.agg [.gE 4,.gE 3],.cb .id]))))))
  (fun ai =>
  .ret (a8 (t1.append [.af true,.J (o 3 [])]) (aO.aC (.e1 (bS ai))) (.comp [.agg [.gE 4,.gE 3],.cb .id]))))
def r7 (lU:Int):Option Bool :=
 if (decide ((97:Int)≤lU))=true then
  some (decide (lU≤(122:Int)))
 else
  some false
theorem JM {lU:Int}:bm (r7 lU) (fun r=>Con a2 81 [.n .u8 lU] [] (.b r) []):=by
 unfold r7
 exact .ite (fun h1 =>
  .ret (a8 [.J (o 1 []),.J (o 5 (aj (.af true) (o 1 [])))] (.bp h1 h1 h1)))
  (fun h1 =>
  .ret (a8 [.J (o 1 []),.J (o 3 (cc 2 (aj (.af false) (o 1 []))))] (.bp h1 h1 h1)))
def sf (lU:Int):Option Bool :=
 if (decide ((48:Int)≤lU))=true then
  some (decide (lU≤(57:Int)))
 else
  some false
theorem J1 {lU:Int}:bm (sf lU) (fun r=>Con a2 82 [.n .u8 lU] [] (.b r) []):=by
 unfold sf
 exact .ite (fun h1 =>
  .ret (a8 [.J (o 1 []),.J (o 5 (aj (.af true) (o 1 [])))] (.bp h1 h1 h1)))
  (fun h1 =>
  .ret (a8 [.J (o 1 []),.J (o 3 (cc 2 (aj (.af false) (o 1 []))))] (.bp h1 h1 h1)))
def yO (aQ:ByteArray) (gA:Int):Int→S:=fun eC=>c6 [(0,.s aQ),(5,.n .i64 gA),(6,.n .i64 eC)] []
def C7 (aQ:ByteArray) (gA:Int):((Unit)⊕(Unit))→dc
 | .inl a=>⟨some 0,[(0,.s aQ)],[]⟩
 | .inr a=>⟨none,[(2,.b false)],[]⟩
def rN (aQ:ByteArray) (gA:Int) (eC:Int):Option ((Int)⊕((Unit)⊕(Unit))) :=
 if (decide (eC<gA))=true then
  if 0≤eC∧eC<(aQ.size:Nat) then
  r7 ((aQ.data.toList.getD eC.toNat 0).toNat:Int) >>= fun bY =>
  if bY=true then
   some (.inl (ab (eC+(1:Int))))
  else
   if (eC == (0:Int))=true then
    some (.inr (.inr ()))
   else
    sf ((aQ.data.toList.getD eC.toNat 0).toNat:Int) >>= fun aF =>
    if aF=true then
     some (.inl (ab (eC+(1:Int))))
    else
     some (.inr (.inr ()))
  else none
 else
  some (.inr (.inl ()))
def vd (aQ:ByteArray) (gA:Int) (eC:Int):Option ((Unit)⊕(Unit)):=iter (fun w:Int=>rN aQ gA w) eC
theorem It {aQ:ByteArray} {gA:Int} {eC:Int}:bm (rN aQ gA eC) (dI a2 33 0 70 [1,0,1,0,0] (yO aQ gA eC) (yO aQ gA) (C7 aQ gA)):=by
 unfold rN
 exact .ite (fun h1 =>
  .bu fun R =>
  .aJ fun bY ax =>
  (let t1:List bx:=[.J (o 1 []),.af true,.J (o 2 [])];
  have aO:=((.dM h1 R.1 R.2 (JM bY ax) (a1.b bY)):b2 _);
  .ite (fun aM =>
  .ret (bi (t1.append [.J (o 3 (aj (bM 1 (.b bY) true) (o 2 (cc 3 (o 5 (cc 1 (aj (.af false) []))))))),.af false,.J (o 2 []),.a0 [] [] (bf [0,5,6])]) (aO.aC (.ez (bE aM) (bE aM) (bE aM) (bE aM) (bE aM) hg))))
  (fun aM =>
  (have eJ:=aO.aC (.bp (bS aM) (bS aM) (bS aM));
  .ite (fun ba =>
  .ret (bi (t1.append [.J (o 3 (aj (bM 1 (.b bY) true) (o 5 (cc 5 (aj (.af true) (aj (.af true) [])))))),.af true,.J (o 1 []),.a0 [] [] (bf [2])]) (eJ.aC (.br ba ba ba ba ba (bS aM) ba (bS aM) (.e1 bF)))))
  (fun ba =>
  .aJ fun aF bV =>
  (let t4:List bx:=t1.append [.J (o 3 (aj (bM 1 (.b bY) true) (o 8 (aj (bM 1 (.b aF) true) (o 1 (aj (.af false) (aj (.af true) [])))))))];
  have jF:=eJ.aC (.br ba ba ba R.1 R.2 ba (J1 aF bV) (a1.b aF) (.cI ba (bS aM) ba (bS aM)));
  .ite (fun dv =>
  .ret (bi (t4.append [.af false,.J (o 2 []),.a0 [] [] (bf [0,5,6])]) (jF.aC (.e1 (bE dv)))))
  (fun dv =>
  .ret (bi (t4.append [.af true,.J (o 1 []),.a0 [] [] (bf [2])]) (jF.aC (.e1 (bS dv)))))))))))
  (fun h1 =>
  .ret (bi [.J (o 1 []),.af false,.a0 [] [] (bf [0])] (.e1 h1)))
theorem zk {aQ:ByteArray} {gA:Int} {eC:Int} {r} (h:vd aQ gA eC=some r):dJ a2 33 0 70 [1,0,1,0,0] (yO aQ gA) (C7 aQ gA) eC r:=dK (fun _=>It) h
def su (aQ:ByteArray):Option Bool :=
 vd aQ (aQ.size:Int) 0 >>= fun r1 =>
 match r1 with
 | .inl cw=>(if (!(aQ.toList == (⟨#[]⟩:ByteArray).toList))=true then
  some (decide ((aQ.size:Int)≤(8:Int)))
  else
   some false)
 | .inr cw=>(some false)
theorem Kn {aQ:ByteArray}:bm (su aQ) (fun r=>Con a2 70 [.s aQ] [] (.b r) []):=by
 unfold su
 exact .aJ fun r1 R =>
  (let t1:List bx:=[.J (o 1 []),.J (o 3 []),.a0 [] [] (bf [0,5,6])];
  (by
  rcases r1 with cw|cw
  ·exact ((let t2:List bx:=t1.append [.sub (.exit 0) [(0,.s aQ)] []];
  .ite (fun ax =>
  .ret (a8 (t2.append [.J (o 6 (aj (.af true) (o 1 [])))]) (.dM (zk R) ax ax ax ax)))
  (fun ax =>
  .ret (a8 (t2.append [.J (o 3 (cc 3 (aj (.af false) (o 1 []))))]) (.dM (zk R) ax ax ax ax)))))
  ·exact (.ret (a8 (t1.append [.sub (.ret) [(2,.b false)] []]) (.e1 (zk R))))))
def qh (bd:Int):Option Bool :=
 if (decide ((-50:Int)≤bd))=true then
  some (decide (bd≤(50:Int)))
 else
  some false
theorem Dw {bd:Int}:bm (qh bd) (fun r=>Con a2 71 [.n .i64 bd] [] (.b r) []):=by
 unfold qh
 exact .ite (fun h1 =>
  .ret (a8 [.J (o 1 []),.J (o 5 (aj (.af true) (o 1 [])))] (.bp h1 h1 h1)))
  (fun h1 =>
  .ret (a8 [.J (o 1 []),.J (o 3 (cc 2 (aj (.af false) (o 1 []))))] (.bp h1 h1 h1)))
def sg (cL:aB):Option Bool :=
 su cL.cu >>= fun r1 =>
 if r1=true then
  qh cL.c5 >>= fun bg =>
  if bg=true then
   qh cL.cJ >>= fun aF =>
   some aF
  else
   some false
 else
  some false
theorem J2 {cL:aB}:bm (sg cL) (fun r=>Con a2 51 [.agg [.s cL.cu,.n .i64 cL.c5,.n .i64 cL.cJ,.b cL.cf]] [] (.b r) []):=by
 unfold sg
 exact .aJ fun r1 R =>
  (have bz:=((.az (Kn r1 R) (a1.b r1)):b2 _);
  .ite (fun ai =>
  .aJ fun bg aM =>
  (have aO:=bz.aC (.ez ai ai ai (Dw bg aM) (a1.b bg) ai);
  .ite (fun ba =>
  .aJ fun aF bV =>
  .ret (a8 [.J (o 2 []),.J (o 2 (aj (bM 1 (.b r1) true) (o 3 (aj (bM 1 (.b bg) true) (aj (.af true) (o 3 (aj (bM 1 (.b aF) true) (aj (.af true) (o 1 [])))))))))] (aO.aC (.ez ba ba ba (Dw aF bV) (a1.b aF) ba))))
  (fun ba =>
  .ret (a8 [.J (o 2 []),.J (o 2 (aj (bM 1 (.b r1) true) (o 3 (aj (bM 1 (.b bg) true) (aj (.af true) (o 1 (cc 3 (aj (.af false) (o 1 [])))))))))] (aO.aC (.cI ba ba ba ba))))))
  (fun ai =>
  .ret (a8 [.J (o 2 []),.J (o 2 (aj (bM 1 (.b r1) true) (o 1 (cc 3 (aj (.af false) (o 1 (cc 3 (o 2 []))))))))] (bz.aC (.eQ ai ai ai ai hg hg hg)))))
def zl (cL:aB) (cb:ByteArray):Option Bool :=
 some (cL.cu.toList == cb.toList)
theorem IK {cL:aB} {cb:ByteArray}:bm (zl cL cb) (fun r=>Con a2 73 [.agg [.s cL.cu,.n .i64 cL.c5,.n .i64 cL.cJ,.b cL.cf],.ee 1 [[.s cb]] 0 0] [] (.b r) []):=by
 unfold zl
 exact .ret (a8 [.J (o 2 []),.J (o 5 [])] .nil)
def xq (aQ:(List aB)) (gI:ByteArray) (cg:Int):Int→S:=fun cx=>c6 [(0,.isl 4 (aQ.map au)),(1,.fn 73 [.ee 1 [[.s gI]] 0 0]),(7,.n .i64 cg),(8,.n .i64 cx)] []
def Cv (aQ:(List aB)) (gI:ByteArray) (cg:Int):((Unit)⊕(Int))→dc
 | .inl a=>⟨some 0,[],[]⟩
 | .inr a=>⟨none,[(4,.n .i64 a)],[]⟩
def xr (aQ:(List aB)) (gI:ByteArray) (cg:Int) (cx:Int):Option ((Int)⊕((Unit)⊕(Int))) :=
 if (decide (cx<cg))=true then
  if 0≤cx∧cx<aQ.length then
  aQ[cx.toNat]? >>= fun al =>
  zl al gI >>= fun aZ =>
  if aZ=true then
   some (.inr (.inr cx))
  else
   some (.inl (ab (cx+(1:Int))))
  else none
 else
  some (.inr (.inl ()))
def uL (aQ:(List aB)) (gI:ByteArray) (cg:Int) (cx:Int):Option ((Unit)⊕(Int)):=iter (fun w:Int=>xr aQ gI cg w) cx
theorem Hm {aQ:(List aB)} {gI:ByteArray} {cg:Int} {cx:Int}:bm (xr aQ gI cg cx) (dI a2 19 0 72 [1,0,1,0,0] (xq aQ gI cg cx) (xq aQ gI cg) (Cv aQ gI cg)):=by
 unfold xr
 exact .ite (fun h1 =>
  .bu fun R =>
  .aJ fun al ax =>
  .aJ fun aZ ba =>
  (let t1:List bx:=[.J (o 1 []),.af true,.J (o 2 []),.J (o 4 (aj (.bQ (au al)) (aj (bM 2 (.b aZ) true) [])))];
  have aO:=((.ez h1 R.1 (c9 au R.2) (cm au ax) (IK aZ ba) (a1.b aZ)):b2 _);
  .ite (fun a5 =>
  .ret (bi (t1.append [.af true,.J (o 2 []),.a0 [] [] (bf [4])]) (aO.aC (.e1 a5))))
  (fun a5 =>
  .ret (bi (t1.append [.af false,.J (o 2 []),.a0 [] [] [(0,ii),(1,.comp [.cb .id]),(7,ii),(8,ii)]]) (aO.aC (.e1 a5))))))
  (fun h1 =>
  .ret (bi [.J (o 1 []),.af false,.a0 [] [] []] (.e1 h1)))
theorem Cx {aQ:(List aB)} {gI:ByteArray} {cg:Int} {cx:Int} {r} (h:uL aQ gI cg cx=some r):dJ a2 19 0 72 [1,0,1,0,0] (xq aQ gI cg) (Cv aQ gI cg) cx r:=dK (fun _=>Hm) h
def uM (aQ:(List aB)) (jJ:ByteArray):Option Int :=
 uL aQ jJ (len_ au aQ) 0 >>= fun r1 =>
 match r1 with
 | .inl cw=>(some (-1))
 | .inr cw=>(some cw)
theorem Hr {aQ:(List aB)} {jJ:ByteArray}:bm (uM aQ jJ) (fun r=>Con a2 72 [.isl 4 (aQ.map au),.fn 73 [.ee 1 [[.s jJ]] 0 0]] [] (.n .i64 r) []):=by
 unfold uM
 exact .aJ fun r1 R =>
  (let t1:List bx:=[.J (o 1 []),.J (o 3 []),.a0 [] [] [(0,ii),(1,.comp [.cb .id]),(7,ii),(8,ii)]];
  (by
  rcases r1 with cw|cw
  ·exact (.ret (a8 (t1.append [.sub (.exit 0) [] [],.J (o 1 [])]) (.e1 (Cx R))))
  ·exact (.ret (a8 (t1.append [.sub (.ret) [(4,.n .i64 cw)] []]) (.e1 (Cx R))))))
def rU (aQ:cX) (hj:ByteArray):Option Int :=
 uM aQ.bs hj >>= fun r1 =>
 some r1
theorem Jd {aQ:cX} {hj:ByteArray}:bm (rU aQ hj) (fun r=>Con a2 52 [.agg [.isl 4 (aQ.bs.map au),.isl 3 (aQ.bZ.map ay)],.s hj] [] (.n .i64 r) []):=by
 unfold rU
 exact .aJ fun r1 R =>
  .ret (a8 [.J (o 3 []),.J (o 3 (aj (.call {ac:=[ii,.comp [.ptr [.id]]],r:= .n .i64 r1,cH:=true,cK:=[1]}) (o 1 [])))] (.bp (AD (Fl hj):hS [[.s hj]]) (Hr r1 R) (a1.n .i64 r1)))
def rG (aQ:cX) (h4:aN):Option Bool :=
 if (decide (h4.dg<(0:Int)))=true then
  some false
 else
  if (decide ((len_ au aQ.bs)≤h4.dg))=true then
   some false
  else
   if (decide (h4.c0<(0:Int)))=true then
    some false
   else
    if (decide ((len_ au aQ.bs)≤h4.c0))=true then
     some false
    else
     if (decide (h4.dq<(1:Int)))=true then
      some false
     else
      if (decide ((3:Int)<h4.dq))=true then
       some false
      else
       if 0≤h4.dg∧h4.dg<aQ.bs.length then
       aQ.bs[h4.dg.toNat]? >>= fun kK =>
       if 0≤h4.c0∧h4.c0<aQ.bs.length then
       aQ.bs[h4.c0.toNat]? >>= fun gD =>
       if (kK.c5 != gD.c5)=true then
        if kK.cf=true then
         some (!gD.cf)
        else
         some true
       else
        if (kK.cJ != gD.cJ)=true then
         if kK.cf=true then
          some (!gD.cf)
         else
          some true
        else
         some false
       else none
       else none
theorem HI {aQ:cX} {h4:aN}:bm (rG aQ h4) (fun r=>Con a2 55 [.ee 2 [[.isl 4 (aQ.bs.map au),.isl 3 (aQ.bZ.map ay)]] 0 0,.agg [.n .i64 h4.dg,.n .i64 h4.c0,.n .i64 h4.dq]] [] (.b r) []):=by
 unfold rG
 exact .ite (fun h1 =>
  .ret (a8 [.J (o 2 []),.J (o 6 []),.J (o 4 (cc 4 (aj (.af true) (o 1 (cc 3 (o 2 (cc 4 (o 2 (cc 3 (o 2 (cc 3 (o 1 [])))))))))))),.af true,.J (o 1 [])] (.br h1 h1 h1 h1 h1 bF bF bF (.br bF bF bF bF bF bF bF bF (.bp bF bF bF)))))
  (fun h1 =>
  .ite (fun R =>
  .ret (a8 [.J (o 2 []),.J (o 6 []),.J (o 8 (aj (.af false) (o 1 (cc 3 (aj (.af true) (o 1 (cc 4 (o 2 (cc 3 (o 2 (cc 3 (o 1 [])))))))))))),.af true,.J (o 1 [])] (.br h1 h1 h1 h1 h1 R R R (.br R bF bF bF bF bF bF bF (.cI bF bF bF bF)))))
  (fun R =>
  (have bz:=((.br h1 h1 h1 h1 h1 R R R (.e1 R)):b2 _);
  .ite (fun ai =>
  .ret (a8 [.J (o 2 []),.J (o 6 []),.J (o 8 (aj (.af false) (o 4 (aj (.af false) (o 1 (cc 4 (aj (.af true) (o 1 (cc 3 (o 2 (cc 3 (o 1 [])))))))))))),.af true,.J (o 1 [])] (bz.aC (.br ai ai ai ai ai bF bF bF (.cI bF bF bF bF)))))
  (fun ai =>
  .ite (fun ax =>
  .ret (a8 [.J (o 2 []),.J (o 6 []),.J (o 8 (aj (.af false) (o 4 (aj (.af false) (o 5 (aj (.af false) (o 1 (cc 3 (aj (.af true) (o 1 (cc 3 (o 1 [])))))))))))),.af true,.J (o 1 [])] (bz.aC (.br ai ai ai ai ai ax ax ax (.dM ax bF bF bF bF)))))
  (fun ax =>
  (have aO:=bz.aC (.br ai ai ai ai ai ax ax ax (.e1 ax));
  .ite (fun aM =>
  .ret (a8 [.J (o 2 []),.J (o 6 []),.J (o 8 (aj (.af false) (o 4 (aj (.af false) (o 5 (aj (.af false) (o 4 (aj (.af false) (o 1 (cc 3 (aj (.af true) []))))))))))),.af true,.J (o 1 [])] (aO.aC (.dM aM aM aM aM bF))))
  (fun aM =>
  (let t3:List bx:=[.J (o 2 []),.J (o 6 []),.J (o 8 (aj (.af false) (o 4 (aj (.af false) (o 5 (aj (.af false) (o 4 (aj (.af false) (o 4 (aj (.af false) []))))))))))];
  .ite (fun ba =>
  .ret (a8 (t3.append [.af true,.J (o 1 [])]) (aO.aC (.dM aM aM aM aM ba))))
  (fun ba =>
  .bu fun a5 =>
  .aJ fun kK dv =>
  .bu fun df =>
  .aJ fun gD ht =>
  (let t4:List bx:=t3.append [.af false,.J (o 7 (aj (.bQ (au kK)) (o 7 (aj (.bQ (au gD)) (o 4 [])))))];
  have jF:=aO.aC (.br aM aM aM aM ba a5.1 (c9 au a5.2) (cm au dv) (.bp df.1 (c9 au df.2) (cm au ht)));
  .ite (fun e9 =>
  (have gS:=jF.aC (.br e9 e9 e9 e9 e9 e9 bF bF (.e1 bF));
  .ite (fun eI =>
  .ret (a8 (t4.append [.J (o 6 (cc 5 (aj (.af true) (o 6 (aj (.af true) (o 3 []))))))]) (gS.aC (.dM eI eI bF eI bF))))
  (fun eI =>
  .ret (a8 (t4.append [.J (o 6 (cc 5 (aj (.af true) (o 4 (cc 2 (aj (.af false) (o 3 [])))))))]) (gS.aC (.dM eI eI bF eI bF))))))
  (fun e9 =>
  .ite (fun eI =>
  (have gS:=jF.aC (.br e9 e9 e9 e9 e9 e9 eI eI (.e1 eI));
  .ite (fun hK =>
  .ret (a8 (t4.append [.J (o 11 (aj (.af false) (o 6 (aj (.af true) (o 1 (aj (.af true) (o 1 [])))))))]) (gS.aC (.ez hK hK eI hK eI eI))))
  (fun hK =>
  .ret (a8 (t4.append [.J (o 11 (aj (.af false) (o 4 (cc 2 (aj (.af false) (o 1 (aj (.af true) (o 1 []))))))))]) (gS.aC (.ez hK hK eI hK eI eI))))))
  (fun eI =>
  .ret (a8 (t4.append [.J (o 11 (aj (.af false) (o 1 (cc 3 (o 2 (cc 2 (aj (.af false) (o 1 []))))))))]) (jF.aC (.br e9 e9 e9 e9 e9 e9 eI eI (.cI eI eI eI eI))))))))))))))))
def p4 (h4:aN) (cb:cX):Option Bool :=
 rG cb h4 >>= fun r1 =>
 some (!r1)
theorem ID {h4:aN} {cb:cX}:bm (p4 h4 cb) (fun r=>Con a2 54 [.agg [.n .i64 h4.dg,.n .i64 h4.c0,.n .i64 h4.dq],.ee 2 [[.isl 4 (cb.bs.map au),.isl 3 (cb.bZ.map ay)]] 0 0] [] (.b r) []):=by
 unfold p4
 exact .aJ fun r1 R =>
  .ret (a8 [.J (o 2 []),.J (o 1 (aj (bM 2 (.b r1) true) (o 2 [])))] (.az (HI r1 R) (a1.b r1)))
def xp (aQ:(List aN)) (gI:(List aB)) (kk:(List aN)) (cg:Int):Int→S:=fun cx=>c6 [(0,.isl 3 (aQ.map ay)),(1,.fn 54 [.ee 2 [[.isl 4 (gI.map au),.isl 3 (kk.map ay)]] 0 0]),(7,.n .i64 cg),(8,.n .i64 cx)] []
def Cu (aQ:(List aN)) (gI:(List aB)) (kk:(List aN)) (cg:Int):((Unit)⊕(Int))→dc
 | .inl a=>⟨some 0,[],[]⟩
 | .inr a=>⟨none,[(4,.n .i64 a)],[]⟩
def la (aQ:(List aN)) (gI:(List aB)) (kk:(List aN)) (cg:Int) (cx:Int):Option ((Int)⊕((Unit)⊕(Int))) :=
 if (decide (cx<cg))=true then
  if 0≤cx∧cx<aQ.length then
  aQ[cx.toNat]? >>= fun al =>
  p4 al (⟨gI,kk⟩:cX) >>= fun aZ =>
  if aZ=true then
   some (.inr (.inr cx))
  else
   some (.inl (ab (cx+(1:Int))))
  else none
 else
  some (.inr (.inl ()))
def rA (aQ:(List aN)) (gI:(List aB)) (kk:(List aN)) (cg:Int) (cx:Int):Option ((Unit)⊕(Int)):=iter (fun w:Int=>la aQ gI kk cg w) cx
theorem Hl {aQ:(List aN)} {gI:(List aB)} {kk:(List aN)} {cg:Int} {cx:Int}:bm (la aQ gI kk cg cx) (dI a2 19 0 74 [1,0,1,0,0] (xp aQ gI kk cg cx) (xp aQ gI kk cg) (Cu aQ gI kk cg)):=by
 unfold la
 exact .ite (fun h1 =>
  .bu fun R =>
  .aJ fun al ax =>
  .aJ fun aZ ba =>
  (let t1:List bx:=[.J (o 1 []),.af true,.J (o 2 []),.J (o 4 (aj (.bQ (ay al)) (aj (bM 2 (.b aZ) true) [])))];
  have aO:=((.ez h1 R.1 (c9 ay R.2) (cm ay ax) (ID aZ ba) (a1.b aZ)):b2 _);
  .ite (fun a5 =>
  .ret (bi (t1.append [.af true,.J (o 2 []),.a0 [] [] (bf [4])]) (aO.aC (.e1 a5))))
  (fun a5 =>
  .ret (bi (t1.append [.af false,.J (o 2 []),.a0 [] [] [(0,ii),(1,.comp [.cb .id]),(7,ii),(8,ii)]]) (aO.aC (.e1 a5))))))
  (fun h1 =>
  .ret (bi [.J (o 1 []),.af false,.a0 [] [] []] (.e1 h1)))
theorem Cw {aQ:(List aN)} {gI:(List aB)} {kk:(List aN)} {cg:Int} {cx:Int} {r} (h:rA aQ gI kk cg cx=some r):dJ a2 19 0 74 [1,0,1,0,0] (xp aQ gI kk cg) (Cu aQ gI kk cg) cx r:=dK (fun _=>Hl) h
def rC (aQ:(List aN)) (jJ:cX):Option Int :=
 rA aQ jJ.bs jJ.bZ (len_ ay aQ) 0 >>= fun r1 =>
 match r1 with
 | .inl cw=>(some (-1))
 | .inr cw=>(some cw)
theorem Hp {aQ:(List aN)} {jJ:cX}:bm (rC aQ jJ) (fun r=>Con a2 74 [.isl 3 (aQ.map ay),.fn 54 [.ee 2 [[.isl 4 (jJ.bs.map au),.isl 3 (jJ.bZ.map ay)]] 0 0]] [] (.n .i64 r) []):=by
 unfold rC
 exact .aJ fun r1 R =>
  (let t1:List bx:=[.J (o 1 []),.J (o 3 []),.a0 [] [] [(0,ii),(1,.comp [.cb .id]),(7,ii),(8,ii)]];
  (by
  rcases r1 with cw|cw
  ·exact (.ret (a8 (t1.append [.sub (.exit 0) [] [],.J (o 1 [])]) (.e1 (Cw R))))
  ·exact (.ret (a8 (t1.append [.sub (.ret) [(4,.n .i64 cw)] []]) (.e1 (Cw R))))))
def rB (aQ:(List aN)) (jJ:cX):Option Bool :=
 rC aQ jJ >>= fun r1 =>
 some (decide ((0:Int)≤r1))
theorem Hn {aQ:(List aN)} {jJ:cX}:bm (rB aQ jJ) (fun r=>Con a2 53 [.isl 3 (aQ.map ay),.fn 54 [.ee 2 [[.isl 4 (jJ.bs.map au),.isl 3 (jJ.bZ.map ay)]] 0 0]] [] (.b r) []):=by
 unfold rB
 exact .aJ fun r1 R =>
  .ret (a8 [.J (o 1 []),.J (o 2 (aj (bM 2 (.n .i64 r1) true) (o 2 [])))] (.az (Hp r1 R) (a1.n .i64 r1)))
def xI (fC:(List aB)) (ko:Int) (gj:(List aN)):Int→S:=fun j7=>c6 [(1,.ref 0 0 0 0),(16,.isl 4 (fC.map au)),(17,.n .i64 ko),(18,.n .i64 j7)] [[ae.mk 2 [[.isl 4 (fC.map au),.isl 3 (gj.map ay)]] .live]]
def xR (fC:(List aB)) (ko:Int) (gj:(List aN)):((Unit)⊕(Unit))→dc
 | .inl a=>⟨some 0,[(1,.ref 0 0 0 0)],[[ae.mk 2 [[.isl 4 (fC.map au),.isl 3 (gj.map ay)]] .live]]⟩
 | .inr a=>⟨none,[(2,.b false)],[]⟩
def uN (fC:(List aB)) (ko:Int) (gj:(List aN)) (j7:Int):Option ((Int)⊕((Unit)⊕(Unit))) :=
 if (decide (j7<ko))=true then
  if 0≤j7∧j7<fC.length then
  fC[j7.toNat]? >>= fun al =>
  sg al >>= fun aZ =>
  if aZ=true then
   rU (⟨fC,gj⟩:cX) al.cu >>= fun en =>
   if (en != j7)=true then
    some (.inr (.inr ()))
   else
    some (.inl (ab (j7+(1:Int))))
  else
   some (.inr (.inr ()))
  else none
 else
  some (.inr (.inl ()))
def uV (fC:(List aB)) (ko:Int) (gj:(List aN)) (j7:Int):Option ((Unit)⊕(Unit)):=iter (fun w:Int=>uN fC ko gj w) j7
theorem HA {fC:(List aB)} {ko:Int} {gj:(List aN)} {j7:Int}:bm (uN fC ko gj j7) (dI a2 40 0 25 [1,1,0,1,0,0] (xI fC ko gj j7) (xI fC ko gj) (xR fC ko gj)):=by
 unfold uN
 exact .ite (fun h1 =>
  .bu fun R =>
  .aJ fun al ax =>
  .aJ fun aZ ba =>
  (let t1:List bx:=[.J (o 1 []),.af true,.J (o 2 (aj (.bQ (au al)) (o 3 [])))];
  have aO:=((.ez h1 R.1 (c9 au R.2) (cm au ax) (J2 aZ ba) (a1.b aZ)):b2 _);
  .ite (fun a5 =>
  .aJ fun en dv =>
  (let t3:List bx:=t1.append [.J (o 1 (aj (bM 1 (.b aZ) true) (o 5 (aj (bM 2 (.n .i64 en) true) (o 2 (aj (.af false) []))))))];
  have c8:=aO.aC (.br (bE a5) (bE a5) (bE a5) (bE a5) (Jd en dv) (a1.n .i64 en) (bE a5) (bE a5) (.e1 (bE a5)));
  .ite (fun df =>
  .ret (bi (t3.append [.af true,.J (o 1 []),.a0 [] [] (bf [2])]) (c8.aC (.e1 df))))
  (fun df =>
  .ret (bi (t3.append [.af false,.J (o 2 []),.a0 [0] [.box [.id,.id]] (bf [1,16,17,18])]) (c8.aC (.e1 df))))))
  (fun a5 =>
  .ret (bi (t1.append [.J (o 1 (aj (bM 1 (.b aZ) true) (o 2 (cc 6 (aj (.af true) []))))),.af true,.J (o 1 []),.a0 [] [] (bf [2])]) (aO.aC (.hN (bS a5) (bS a5) (bS a5) (bS a5) (bS a5) (bS a5) (bS a5) bF))))))
  (fun h1 =>
  .ret (bi [.J (o 1 []),.af false,.a0 [0] [.box [.id,.id]] (bf [1])] (.e1 h1)))
theorem CI {fC:(List aB)} {ko:Int} {gj:(List aN)} {j7:Int} {r} (h:uV fC ko gj j7=some r):dJ a2 40 0 25 [1,1,0,1,0,0] (xI fC ko gj) (xR fC ko gj) j7 r:=dK (fun _=>HA) h
def m8 (aQ:cX):Option Bool :=
 if (decide ((6:Int)<(len_ au aQ.bs)))=true then
  some false
 else
  if (decide ((8:Int)<(len_ ay aQ.bZ)))=true then
   some false
  else
   uV aQ.bs (len_ au aQ.bs) aQ.bZ 0 >>= fun bY =>
   match bY with
   | .inl j0=>(rB aQ.bZ aQ >>= fun ec =>
    some (!ec))
   | .inr j0=>(some false)
theorem yP {aQ:cX}:bm (m8 aQ) (fun r=>Con a2 25 [.agg [.isl 4 (aQ.bs.map au),.isl 3 (aQ.bZ.map ay)]] [] (.b r) []):=by
 unfold m8
 exact .ite (fun h1 =>
  .ret (a8 [.J (o 2 []),.J (o 5 (cc 4 (aj (.af true) []))),.af true,.J (o 1 [])] (.ez h1 h1 h1 h1 h1 bF)))
  (fun h1 =>
  (let t1:List bx:=[.J (o 2 []),.J (o 9 (aj (.af false) []))];
  .ite (fun R =>
  .ret (a8 (t1.append [.af true,.J (o 1 [])]) (.ez h1 h1 h1 h1 h1 R)))
  (fun R =>
  .aJ fun bY ax =>
  (let t2:List bx:=t1.append [.af false,.J (o 4 []),.a0 [0] [.box [.id,.id]] (bf [1,16,17,18])];
  (by
  rcases bY with j0|j0
  ·exact (.aJ fun ec a5 =>
  .ret (a8 (t2.append [(xR aQ.bs (len_ au aQ.bs) aQ.bZ (.inl j0)).eU,.J (o 3 (aj (.call {ac:=[ii,.comp [.ptr [.id,.id]]],r:= .b ec,cH:=true,cK:=[0]}) (o 2 [])))]) (.br h1 h1 h1 h1 h1 R (CI ax) (AD (Dq aQ):hS [[.isl 4 (aQ.bs.map au),.isl 3 (aQ.bZ.map ay)]]) (.az (Hn ec a5) (a1.b ec)))))
  ·exact (.ret (a8 (t2.append [.sub (.ret) [(2,.b false)] []]) (.eQ h1 h1 h1 h1 h1 R (CI ax)))))))))
def si (bd:Int):Option Bool :=
 if (decide (bd<(0:Int)))=true then
  some true
 else
  some (decide ((1000000000:Int)≤bd))
theorem J3 {bd:Int}:bm (si bd) (fun r=>Con a2 96 [.n .i64 bd] [] (.b r) []):=by
 unfold si
 exact .ite (fun h1 =>
  .ret (a8 [.J (o 1 []),.J (o 3 (cc 2 (aj (.af true) (o 1 []))))] (.bp h1 h1 h1)))
  (fun h1 =>
  .ret (a8 [.J (o 1 []),.J (o 5 (aj (.af false) (o 1 [])))] (.bp h1 h1 h1)))
def xt (aQ:(List Int)) (cg:Int):Int→S:=fun cx=>c6 [(0,.isl 1 (aQ.map U)),(1,.fn 96 []),(7,.n .i64 cg),(8,.n .i64 cx)] []
def Cy (aQ:(List Int)) (cg:Int):((Unit)⊕(Int))→dc
 | .inl a=>⟨some 0,[],[]⟩
 | .inr a=>⟨none,[(4,.n .i64 a)],[]⟩
def py (aQ:(List Int)) (cg:Int) (cx:Int):Option ((Int)⊕((Unit)⊕(Int))) :=
 if (decide (cx<cg))=true then
  if 0≤cx∧cx<aQ.length then
  aQ[cx.toNat]? >>= fun al =>
  si al >>= fun aZ =>
  if aZ=true then
   some (.inr (.inr cx))
  else
   some (.inl (ab (cx+(1:Int))))
  else none
 else
  some (.inr (.inl ()))
def xA (aQ:(List Int)) (cg:Int) (cx:Int):Option ((Unit)⊕(Int)):=iter (fun w:Int=>py aQ cg w) cx
theorem Ho {aQ:(List Int)} {cg:Int} {cx:Int}:bm (py aQ cg cx) (dI a2 19 0 98 [1,0,1,0,0] (xt aQ cg cx) (xt aQ cg) (Cy aQ cg)):=by
 unfold py
 exact .ite (fun h1 =>
  .bu fun R =>
  .aJ fun al ax =>
  .aJ fun aZ ba =>
  (let t1:List bx:=[.J (o 1 []),.af true,.J (o 2 []),.J (o 4 (aj (.bQ (U al)) (aj (bM 1 (.b aZ) true) [])))];
  have aO:=((.ez h1 R.1 (c9 U R.2) (cm U ax) (J3 aZ ba) (a1.b aZ)):b2 _);
  .ite (fun a5 =>
  .ret (bi (t1.append [.af true,.J (o 2 []),.a0 [] [] (bf [4])]) (aO.aC (.e1 a5))))
  (fun a5 =>
  .ret (bi (t1.append [.af false,.J (o 2 []),.a0 [] [] (bf [0,1,7,8])]) (aO.aC (.e1 a5))))))
  (fun h1 =>
  .ret (bi [.J (o 1 []),.af false,.a0 [] [] []] (.e1 h1)))
theorem Cz {aQ:(List Int)} {cg:Int} {cx:Int} {r} (h:xA aQ cg cx=some r):dJ a2 19 0 98 [1,0,1,0,0] (xt aQ cg) (Cy aQ cg) cx r:=dK (fun _=>Ho) h
def uO (aQ:(List Int)):Option Int :=
 xA aQ (len_ U aQ) 0 >>= fun r1 =>
 match r1 with
 | .inl cw=>(some (-1))
 | .inr cw=>(some cw)
theorem HB {aQ:(List Int)}:bm (uO aQ) (fun r=>Con a2 98 [.isl 1 (aQ.map U),.fn 96 []] [] (.n .i64 r) []):=by
 unfold uO
 exact .aJ fun r1 R =>
  (let t1:List bx:=[.J (o 1 []),.J (o 3 []),.a0 [] [] (bf [0,1,7,8])];
  (by
  rcases r1 with cw|cw
  ·exact (.ret (a8 (t1.append [.sub (.exit 0) [] [],.J (o 1 [])]) (.e1 (Cz R))))
  ·exact (.ret (a8 (t1.append [.sub (.ret) [(4,.n .i64 cw)] []]) (.e1 (Cz R))))))
def pA (aQ:(List Int)):Option Bool :=
 uO aQ >>= fun r1 =>
 some (decide ((0:Int)≤r1))
theorem CA {aQ:(List Int)}:bm (pA aQ) (fun r=>Con a2 95 [.isl 1 (aQ.map U),.fn 96 []] [] (.b r) []):=by
 unfold pA
 exact .aJ fun r1 R =>
  .ret (a8 [.J (o 1 []),.J (o 2 (aj (bM 2 (.n .i64 r1) true) (o 2 [])))] (.az (HB r1 R) (a1.n .i64 r1)))
def ov (aa:(List Int)):Option Bool :=
 if (decide ((60:Int)<(len_ U aa)))=true then
  some false
 else
  if (decide ((0:Int)<(len_ U aa)))=true then
   if 0≤(ab ((len_ U aa)-(1:Int)))∧(ab ((len_ U aa)-(1:Int)))<aa.length then
   aa[(ab ((len_ U aa)-(1:Int))).toNat]? >>= fun fh =>
   if (fh == (0:Int))=true then
    some false
   else
    pA aa >>= fun aF =>
    some (!aF)
   else none
  else
   pA aa >>= fun bY =>
   some (!bY)
theorem DM {aa:(List Int)}:bm (ov aa) (fun r=>Con a2 87 [.isl 1 (aa.map U)] [] (.b r) []):=by
 unfold ov
 exact .ite (fun h1 =>
  .ret (a8 [.J (o 1 []),.J (o 4 (cc 4 (o 7 (cc 1 (aj (.af true) []))))),.af true,.J (o 1 [])] (.eQ h1 h1 h1 h1 h1 h1 bF)))
  (fun h1 =>
  .ite (fun R =>
  .bu fun ai =>
  .aJ fun fh aM =>
  (let t1:List bx:=[.J (o 1 []),.J (o 13 (aj (.bQ (U fh)) (o 1 (aj (.af true) (aj (.af false) [])))))];
  have aO:=((.br h1 h1 h1 h1 R R R R (.br R ai.1 (c9 U ai.2) R (cm U aM) R h1 R (.e1 h1))):b2 _);
  .ite (fun ba =>
  .ret (a8 (t1.append [.af true,.J (o 1 [])]) (aO.aC (.e1 ba))))
  (fun ba =>
  .aJ fun aF bV =>
  .ret (a8 (t1.append [.af false,.J (o 1 (aj (bM 2 (.b aF) true) (o 2 [])))]) (aO.aC (.bp ba (CA aF bV) (a1.b aF)))))))
  (fun R =>
  .aJ fun bY ax =>
  .ret (a8 [.J (o 1 []),.J (o 8 (cc 7 (aj (.af false) (aj (.af false) [])))),.af false,.J (o 1 (aj (bM 2 (.b bY) true) (o 2 [])))] (.br h1 h1 h1 h1 R R R R (.br R R R h1 R h1 hg (CA bY ax) (.e1 (a1.b bY)))))))
def r8 (cO:hi):Option Bool :=
 ov cO.cn >>= fun r1 =>
 if r1=true then
  if cO.fo=true then
   some (!((len_ U cO.cn) == (0:Int)))
  else
   some true
 else
  some false
theorem JN {cO:hi}:bm (r8 cO) (fun r=>Con a2 86 [.agg [.b cO.fo,.isl 1 (cO.cn.map U)]] [] (.b r) []):=by
 unfold r8
 exact .aJ fun r1 R =>
  (have bz:=((.az (DM r1 R) (a1.b r1)):b2 _);
  .ite (fun ai =>
  .ite (fun ax =>
  .ret (a8 [.J (o 2 []),.J (o 2 (aj (bM 1 (.b r1) true) (o 8 (aj (.af true) (o 1 (aj (.af true) (o 1 [])))))))] (bz.aC (.br ai ai ai ax ax ax ax ai (.bp ax ai ai)))))
  (fun ax =>
  .ret (a8 [.J (o 2 []),.J (o 2 (aj (bM 1 (.b r1) true) (o 4 (cc 4 (aj (.af false) (o 1 (aj (.af true) (o 1 []))))))))] (bz.aC (.br ai ai ai ax ax ax ax ai (.bp ax ai ai))))))
  (fun ai =>
  .ret (a8 [.J (o 2 []),.J (o 2 (aj (bM 1 (.b r1) true) (o 1 (cc 3 (o 4 (cc 2 (aj (.af false) (o 1 []))))))))] (bz.aC (.ez ai ai ai ai ai ai)))))
def yr (aa:(List Int)) (aw:(List Int)):Int→S:=fun ah=>c6 [(0,.isl 1 (aa.map U)),(1,.isl 1 (aw.map U)),(5,.n .i64 ah)] []
def CZ (aa:(List Int)) (aw:(List Int)):((Unit)⊕(Int))→dc
 | .inl a=>⟨some 0,[],[]⟩
 | .inr a=>⟨none,[(4,.n .i64 a)],[]⟩
def ys (aa:(List Int)) (aw:(List Int)) (ah:Int):Option ((Int)⊕((Unit)⊕(Int))) :=
 if (decide ((0:Int)≤ah))=true then
  if 0≤ah∧ah<aa.length then
  aa[ah.toNat]? >>= fun al =>
  if 0≤ah∧ah<aw.length then
  aw[ah.toNat]? >>= fun bP =>
  if (decide (al<bP))=true then
   some (.inr (.inr (-1)))
  else
   if (decide (bP<al))=true then
    some (.inr (.inr 1))
   else
    some (.inl (ab (ah-(1:Int))))
  else none
  else none
 else
  some (.inr (.inl ()))
def Dx (aa:(List Int)) (aw:(List Int)) (ah:Int):Option ((Unit)⊕(Int)):=iter (fun w:Int=>ys aa aw w) ah
theorem H8 {aa:(List Int)} {aw:(List Int)} {ah:Int}:bm (ys aa aw ah) (dI a2 43 0 60 [1,1,0,1,0,0] (yr aa aw ah) (yr aa aw) (CZ aa aw)):=by
 unfold ys
 exact .ite (fun h1 =>
  .bu fun R =>
  .aJ fun al ax =>
  .bu fun aM =>
  .aJ fun bP a5 =>
  (let t1:List bx:=[.J (o 2 []),.af true,.J (o 3 (aj (.bQ (U al)) (o 3 (aj (.bQ (U bP)) (o 2 [])))))];
  have aO:=((.eQ h1 R.1 (c9 U R.2) (cm U ax) aM.1 (c9 U aM.2) (cm U a5)):b2 _);
  .ite (fun bV =>
  .ret (bi (t1.append [.af true,.J (o 1 []),.a0 [] [] (bf [4])]) (aO.aC (.e1 bV))))
  (fun bV =>
  (let t3:List bx:=t1.append [.af false,.J (o 3 (aj (.bQ (U al)) (o 3 (aj (.bQ (U bP)) (o 2 [])))))];
  have c8:=aO.aC (.eQ bV R.1 (c9 U R.2) (cm U ax) aM.1 (c9 U aM.2) (cm U a5));
  .ite (fun dv =>
  .ret (bi (t3.append [.af true,.J (o 1 []),.a0 [] [] (bf [4])]) (c8.aC (.e1 dv))))
  (fun dv =>
  .ret (bi (t3.append [.af false,.J (o 3 []),.a0 [] [] (bf [0,1,5])]) (c8.aC (.e1 dv))))))))
  (fun h1 =>
  .ret (bi [.J (o 2 []),.af false,.a0 [] [] []] (.e1 h1)))
theorem C8 {aa:(List Int)} {aw:(List Int)} {ah:Int} {r} (h:Dx aa aw ah=some r):dJ a2 43 0 60 [1,1,0,1,0,0] (yr aa aw) (CZ aa aw) ah r:=dK (fun _=>H8) h
def nd (aa:(List Int)) (aw:(List Int)):Option Int :=
 if ((len_ U aa) != (len_ U aw))=true then
  if (decide ((len_ U aa)<(len_ U aw)))=true then
   some (-1)
  else
   some 1
 else
  Dx aa aw (ab ((len_ U aa)-(1:Int))) >>= fun bj =>
  match bj with
  | .inl ei=>(some 0)
  | .inr ei=>(some ei)
theorem u7 {aa:(List Int)} {aw:(List Int)}:bm (nd aa aw) (fun r=>Con a2 60 [.isl 1 (aa.map U),.isl 1 (aw.map U)] [] (.n .i64 r) []):=by
 unfold nd
 exact .ite (fun h1 =>
  (let t1:List bx:=[.J (o 1 []),.J (o 5 []),.af true,.J (o 5 [])];
  .ite (fun R =>
  .ret (a8 (t1.append [.af true,.J (o 1 [])]) (.az h1 R)))
  (fun R =>
  .ret (a8 (t1.append [.af false,.J (o 1 [])]) (.az h1 R)))))
  (fun h1 =>
  .aJ fun bj ai =>
  (let t1:List bx:=[.J (o 1 []),.J (o 5 []),.af false,.J (o 4 []),.a0 [] [] (bf [0,1,5])];
  (by
  rcases bj with ei|ei
  ·exact (.ret (a8 (t1.append [.sub (.exit 0) [] [],.J (o 1 [])]) (.az h1 (C8 ai))))
  ·exact (.ret (a8 (t1.append [.sub (.ret) [(4,.n .i64 ei)] []]) (.az h1 (C8 ai)))))))
def sX (aQ:(List Int)):Option (List Int) :=
 if aQ.length*8≤140737488355328 then some aQ else none
theorem L9:Con a2 99 [.cT] [] (.isl 1 (([]:List Int).map U)) []:=a8 [.J (o 1 []),.J (o 2 []),.af true,.J (o 1 [])] (.e1 bF) (.bI (.cb (.gE 1)))
theorem Ma:Con a2 99 [.fp] [] (.isl 1 (([]:List Int).map U)) []:=(by
 have h:=fun (h1:(([]:List Int)++([]:List Int)).length*8≤140737488355328)=>(a8 [.J (o 1 []),.J (o 2 []),.af false,.J (o 2 (aj (.aC ((([]:List Int)++([]:List Int)).length)) (o 1 [])))] (.eQ hg (jq (show []=(([]:List Int)).map U from rfl) (show 0=([]:List Int).length from rfl)) (jr (show 0=([]:List Int).length from rfl) (show ([]:List (List av))=([]:List Int).map U from rfl):(([]:List Int)++([]:List Int)).length=0+([]:List (List av)).length) h1 (d7 (hP (show []=(([]:List Int)).map U from rfl) (show 0=([]:List Int).length from rfl) (show ([]:List (List av))=([]:List Int).map U from rfl)) (bw (([]:List Int)++([]:List Int)))) (cY (hP (show []=(([]:List Int)).map U from rfl) (show 0=([]:List Int).length from rfl) (show ([]:List (List av))=([]:List Int).map U from rfl)) (bw (([]:List Int)++([]:List Int)))) (cM bG (([]:List Int)++([]:List Int)))) (.bI (.cb (.db ((([]:List Int)++([]:List Int)).map U)))):Con a2 99 [.fp] [] (.isl 1 ((([]:List Int)++([]:List Int)).map U)) [])
 exact h (by decide))
theorem Mb (x:Int) (l:List Int) (h1:(([]:List Int)++(x::l)).length*8≤140737488355328):Con a2 99 [.isl 1 ((x::l).map U)] [] (.isl 1 ((([]:List Int)++(x::l)).map U)) []:=a8 [.J (o 1 []),.J (o 1 (aj .fr [])),.af false,.J (o 2 (aj (.aC ((([]:List Int)++(x::l)).length)) (o 1 [])))] (.hN (by simp:(x::l).map U≠[]) hg (jq (show []=(([]:List Int)).map U from rfl) (show 0=([]:List Int).length from rfl)) (jr (show 0=([]:List Int).length from rfl) (aT U (x::l)):(([]:List Int)++(x::l)).length=0+((x::l).map U).length) h1 (d7 (hP (show []=(([]:List Int)).map U from rfl) (show 0=([]:List Int).length from rfl) (aT U (x::l))) (bw (([]:List Int)++(x::l)))) (cY (hP (show []=(([]:List Int)).map U from rfl) (show 0=([]:List Int).length from rfl) (aT U (x::l))) (bw (([]:List Int)++(x::l)))) (cM bG (([]:List Int)++(x::l)))) (.bI (.cb (.db ((([]:List Int)++(x::l)).map U))))
theorem Lz {aQ:(List Int)}:bm (sX aQ) (fun r=>Con a2 99 [.isl 1 (aQ.map U)] [] (.isl 1 (r.map U)) []):=by
 unfold sX
 refine .bu fun h=> .ret ?_
 cases aQ with
 | nil=>exact .fx L9 Ma
 | cons x l =>
  have R:=Mb x l (by simpa using h)
  simpa using R
def zm:(List Int)→S:=fun aa=>c6 [(0,.isl 1 (aa.map U))] []
def zB:(List Int)→dc
 | a=>⟨some 0,[(0,.isl 1 (a.map U))],[]⟩
def p6 (aa:(List Int)):Option (((List Int))⊕((List Int))) :=
 if (decide ((0:Int)<(len_ U aa)))=true then
  if 0≤(ab ((len_ U aa)-(1:Int)))∧(ab ((len_ U aa)-(1:Int)))<aa.length then
  aa[(ab ((len_ U aa)-(1:Int))).toNat]? >>= fun al =>
  if (al == (0:Int))=true then
   if 0≤(ab ((len_ U aa)-(1:Int))) then
   if 0≤(ab ((len_ U aa)-(1:Int))).toNat∧(ab ((len_ U aa)-(1:Int))).toNat≤aa.length then
   some (.inl ((aa.drop 0).take ((ab ((len_ U aa)-(1:Int))).toNat-0)))
   else none
   else none
  else
   some (.inr aa)
  else none
 else
  some (.inr aa)
def Ac (aa:(List Int)):Option ((List Int)):=iter (fun w:(List Int)=>p6 w) aa
theorem IL {aa:(List Int)}:bm (p6 aa) (dI a2 21 0 104 [1,0,0,0] (zm aa) (zm) (zB)):=by
 unfold p6
 exact .ite (fun h1 =>
  .bu fun R =>
  .aJ fun al ax =>
  (let t1:List bx:=[.J (o 9 (aj (.bQ (U al)) (o 1 (aj (.af true) []))))];
  have aO:=((.br h1 h1 h1 h1 h1 R.1 (c9 U R.2) h1 (.bp (cm U ax) h1 h1)):b2 _);
  .ite (fun aM =>
  .bu fun ba =>
  .bu fun a5 =>
  .ret (bi (t1.append [.af true,.J (o 6 []),.a0 [] [] [(0,.bI (.cb (.dP (.isl 1 (((aa.drop 0).take ((ab ((len_ U aa)-(1:Int))).toNat-0)).map U)))))]]) (aO.aC (.dM aM ba a5.1 (lg (aT U aa) a5.2) (congrArg (av.isl 1) (AK (aT U aa) 0 ((ab ((len_ U aa)-(1:Int))).toNat-0)):(.isl 1 (((aa.map U).drop 0).take ((ab ((len_ U aa)-(1:Int))).toNat-0)):av) = .isl 1 (((aa.drop 0).take ((ab ((len_ U aa)-(1:Int))).toNat-0)).map U))))))
  (fun aM =>
  .ret (bi (t1.append [.af false,.a0 [] [] (bf [0])]) (aO.aC (.e1 aM))))))
  (fun h1 =>
  .ret (bi [.J (o 4 (cc 7 (aj (.af false) []))),.af false,.a0 [] [] (bf [0])] (.br h1 h1 h1 h1 h1 h1 h1 h1 (.e1 hg))))
theorem J4 {aa:(List Int)} {r} (h:Ac aa=some r):dJ a2 21 0 104 [1,0,0,0] (zm) (zB) aa r:=dK (fun _=>IL) h
def oz (aa:(List Int)):Option (List Int) :=
 Ac aa >>= fun r1 =>
 some r1
theorem Ad {aa:(List Int)}:bm (oz aa) (fun r=>Con a2 104 [.isl 1 (aa.map U)] [] (.isl 1 (r.map U)) []):=by
 unfold oz
 exact .aJ fun r1 R =>
  .ret (a8 [.J (o 1 []),.a0 [] [] (bf [0]),(zB r1).eU,.J (o 2 [])] (.e1 (J4 R)))
def xY (aa:(List Int)) (aw:Int):(Int×Int×(List Int))→S:=fun (dd,ah,an)=>c6 [(0,.isl 1 (aa.map U)),(1,.n .i64 aw),(6,.aV 0 0 0 an.length),(7,.n .i64 dd),(8,.n .i64 ah)] [[ae.mk 1 (an.map U) .live]]
def yd (aa:(List Int)) (aw:Int):(Int×(List Int))→dc
 | a=>⟨some 0,[(6,.aV 0 0 0 a.2.length),(7,.n .i64 a.1)],[[ae.mk 1 (a.2.map U) .live]]⟩
def xZ (aa:(List Int)) (aw:Int) (dd:Int) (ah:Int) (an:(List Int)):Option ((Int×Int×(List Int))⊕(Int×(List Int))) :=
 if (decide ((0:Int)≤ah))=true then
  if 0≤ah∧ah<aa.length then
  aa[ah.toNat]? >>= fun al =>
  if aw≠0 then
  if 0≤ah∧ah<(an.length:Nat) then
  if (0+ah.toNat)<an.length then
  some (.inl ((ab ((ab (dd*(1000000000:Int)))+al)).tmod aw,ab (ah-(1:Int)),an.set (0+ah.toNat) (ab ((ab ((ab (dd*(1000000000:Int)))+al)).tdiv aw))))
  else none
  else none
  else none
  else none
 else
  some (.inr (dd,an))
def zn (aa:(List Int)) (aw:Int) (dd:Int) (ah:Int) (an:(List Int)):Option (Int×(List Int)):=iter (fun w:Int×Int×(List Int)=>xZ aa aw w.1 w.2.1 w.2.2) (dd,ah,an)
theorem HN {aa:(List Int)} {aw:Int} {dd:Int} {ah:Int} {an:(List Int)}:bm (xZ aa aw dd ah an) (dI a2 39 0 100 [1,1,1,0,1,0,0] (xY aa aw (dd,ah,an)) (xY aa aw) (yd aa aw)):=by
 unfold xZ
 exact .ite (fun h1 =>
  .bu fun R =>
  .aJ fun al ax =>
  .bu fun aM =>
  .bu fun ba =>
  .bu fun a5 =>
  .ret (bi [.J (o 2 []),.af true,.J (o 5 (aj (.bQ (U al)) (o 2 []))),.J (o 9 (aj .fr (o 1 []))),.J (o 3 []),.a0 [0] [.dP [ae.mk 1 ((an.set (0+ah.toNat) (ab ((ab ((ab (dd*(1000000000:Int)))+al)).tdiv aw))).map U) .live]] [(0,ii),(1,ii),(6,fV ((an.set (0+ah.toNat) (ab ((ab ((ab (dd*(1000000000:Int)))+al)).tdiv aw))).length)),(7,ii),(8,ii)]] (.br h1 R.1 (c9 U R.2) (cm U ax) aM aM ba.1 ba.2 (.dM (i4 U a5) (i3 1) (eA 1 .live (im (aT U an) (0+ah.toNat) (ab ((ab ((ab (dd*(1000000000:Int)))+al)).tdiv aw)))) (bD 1 .live bG (an.set (0+ah.toNat) (ab ((ab ((ab (dd*(1000000000:Int)))+al)).tdiv aw)))) (gU (bw an) (0+ah.toNat) (ab ((ab ((ab (dd*(1000000000:Int)))+al)).tdiv aw)))))))
  (fun h1 =>
  .ret (bi [.J (o 2 []),.af false,.a0 [0] [.pure] (bf [6,7])] (.az h1 (bD 1 .live bG an))))
theorem IM {aa:(List Int)} {aw:Int} {dd:Int} {ah:Int} {an:(List Int)} {r} (h:zn aa aw dd ah an=some r):dJ a2 39 0 100 [1,1,1,0,1,0,0] (xY aa aw) (yd aa aw) (dd,ah,an) r:=dK (fun _=>HN) h
def qc (aa:(List Int)) (aw:Int):Option ((List Int)×Int) :=
 if 0≤(len_ U aa)∧(8:Int)*(len_ U aa)≤281474976710656∧(len_ U aa)<9223372036854775808 then
 zn aa aw 0 (ab ((len_ U aa)-(1:Int))) (List.replicate (len_ U aa).toNat 0:List Int) >>= fun bj =>
 oz bj.2 >>= fun bg =>
 some (bg,bj.1)
 else none
theorem Dl {aa:(List Int)} {aw:Int}:bm (qc aa aw) (fun r=>Con a2 100 [.isl 1 (aa.map U),.n .i64 aw] [] (.cy [.isl 1 (r.1.map U),.n .i64 r.2]) []):=by
 unfold qc
 exact .bu fun h1 =>
  .aJ fun bj ai =>
  .aJ fun bg aM =>
  .ret (a8 [.J (o 2 []),.J (o 4 []),.J (o 1 []),.J (o 4 []),.a0 [4] [.dP [ae.mk 1 ((List.replicate (len_ U aa).toNat 0:List Int).map U) .live]] [(0,ii),(1,ii),(6,fV ((List.replicate (len_ U aa).toNat 0:List Int).length)),(7,ii),(8,ii)],(yd aa aw bj).eU,.fK 0,.J (o 1 (aj (.call {ac:=[.bI (.cb (.db (bj.2.map U)))],r:= .isl 1 (bg.map U),cH:=false,cK:=[0]}) (o 3 [])))] (.br h1.1 (Int.le_refl (len_ U aa)) h1.2.1 h1.2.2 (eA 1 .live (lA U (len_ U aa).toNat 0)) (bD 1 .live bG (List.replicate (len_ U aa).toNat 0:List Int)) (lB (len_ U aa).toNat (0:Int)) (IM ai) (.cI (d7 (aT U bj.2) (bw bj.2)) (cY (aT U bj.2) (bw bj.2)) (cM bG bj.2) (Ad bg aM))))
def yt:(Int×(List Int))→S:=fun (bd,an)=>c6 [(0,.n .u64 bd),(3,.aV 0 0 0 an.length)] [[ae.mk 1 (an.map U) .live]]
def yQ:(List Int)→dc
 | a=>⟨some 0,[(3,.aV 0 0 0 a.length)],[[ae.mk 1 (a.map U) .live]]⟩
def pQ (bd:Int) (an:(List Int)):Option ((Int×(List Int))⊕((List Int))) :=
 if (decide ((0:Int)<bd))=true then
  if (an++([IntKind.wrap .i64 (bd.tmod (1000000000:Int))]:List Int)).length*8≤140737488355328 then
  some (.inl (IntKind.wrap .u64 (bd.tdiv (1000000000:Int)),an++([IntKind.wrap .i64 (bd.tmod (1000000000:Int))]:List Int)))
  else none
 else
  some (.inr an)
def zN (bd:Int) (an:(List Int)):Option ((List Int)):=iter (fun w:Int×(List Int)=>pQ w.1 w.2) (bd,an)
theorem H9 {bd:Int} {an:(List Int)}:bm (pQ bd an) (dI a2 15 0 77 [1,1,0,0,0] (yt (bd,an)) (yt) (yQ)):=by
 unfold pQ
 exact .ite (fun h1 =>
  .bu fun R =>
  .ret (bi [.J (o 2 []),.af true,.J (o 5 (aj (.aC ((an++([IntKind.wrap .i64 (bd.tmod (1000000000:Int))]:List Int)).length)) (o 1 []))),.J (o 3 []),.a0 [8] [.dP [ae.mk 1 ((an++([IntKind.wrap .i64 (bd.tmod (1000000000:Int))]:List Int)).map U) .live]] (bf [0,3])] (.br h1 (by decide:(1000000000:Int)≠0) (cY (show [[.n .i64 (IntKind.wrap .i64 (bd.tmod (1000000000:Int)))]]=(([IntKind.wrap .i64 (bd.tmod (1000000000:Int))]:List Int)).map U from rfl) (show 1=([IntKind.wrap .i64 (bd.tmod (1000000000:Int))]:List Int).length from rfl)) (jq (aT U an) (bw an)) (jr (bw an) (ia (show [[.n .i64 (IntKind.wrap .i64 (bd.tmod (1000000000:Int)))]]=(([IntKind.wrap .i64 (bd.tmod (1000000000:Int))]:List Int)).map U from rfl) (show 1=([IntKind.wrap .i64 (bd.tmod (1000000000:Int))]:List Int).length from rfl)):(an++([IntKind.wrap .i64 (bd.tmod (1000000000:Int))]:List Int)).length=an.length+(([[.n .i64 (IntKind.wrap .i64 (bd.tmod (1000000000:Int)))]].drop 0).take 1).length) R (by decide:(1000000000:Int)≠0) (eA 1 .live (hP (aT U an) (bw an) (ia (show [[.n .i64 (IntKind.wrap .i64 (bd.tmod (1000000000:Int)))]]=(([IntKind.wrap .i64 (bd.tmod (1000000000:Int))]:List Int)).map U from rfl) (show 1=([IntKind.wrap .i64 (bd.tmod (1000000000:Int))]:List Int).length from rfl)))) (.e1 (bD 1 .live bG (an++([IntKind.wrap .i64 (bd.tmod (1000000000:Int))]:List Int)))))))
  (fun h1 =>
  .ret (bi [.J (o 2 []),.af false,.a0 [0] [.pure] (bf [3])] (.az h1 (bD 1 .live bG an))))
theorem Je {bd:Int} {an:(List Int)} {r} (h:zN bd an=some r):dJ a2 15 0 77 [1,1,0,0,0] (yt) (yQ) (bd,an) r:=dK (fun _=>H9) h
def qi (bd:Int):Option (List Int) :=
 zN bd ([]:List Int) >>= fun r1 =>
 some r1
theorem Dy {bd:Int}:bm (qi bd) (fun r=>Con a2 77 [.n .u64 bd] [] (.isl 1 (r.map U)) []):=by
 unfold qi
 exact .aJ fun r1 R =>
  .ret (a8 [.J (o 1 []),.J (o 1 []),.tw 3 1,.a0 [2] [.dP [ae.mk 1 (([]:List Int).map U) .live]] [(0,ii),(3,fV (([]:List Int).length))],(yQ r1).eU,.J (o 2 [])] (.eQ (eA 1 .live (show ([]:List (List av))=([]:List Int).map U from rfl)) (bD 1 .live bG ([]:List Int)) (show 0=([]:List Int).length from rfl) (Je R) (d7 (aT U r1) (bw r1)) (cY (aT U r1) (bw r1)) (cM bG r1)) (.bI (.cb (.db (r1.map U)))))
def yR (an:(List Int)):Nat→S:=fun eW=>c6 [(0,.aV 0 0 0 eW)] [[ae.mk 1 (an.map U) .live]]
def y9 (an:(List Int)):Nat→dc
 | a=>⟨some 0,[(0,.aV 0 0 0 a)],[[ae.mk 1 (an.map U) .live]]⟩
def pV (an:(List Int)) (eW:Nat):Option ((Nat)⊕(Nat)) :=
 if (decide ((0:Int)<((eW:Nat):Int)))=true then
  if 0≤(ab (((eW:Nat):Int)-(1:Int)))∧(ab (((eW:Nat):Int)-(1:Int)))<(eW:Nat) then
  an[(0+(ab (((eW:Nat):Int)-(1:Int))).toNat)]? >>= fun al =>
  if (al == (0:Int))=true then
   if 0≤(ab (((eW:Nat):Int)-(1:Int))) then
   if 0≤(ab (((eW:Nat):Int)-(1:Int))).toNat∧(ab (((eW:Nat):Int)-(1:Int))).toNat≤eW then
   some (.inl ((ab (((eW:Nat):Int)-(1:Int))).toNat-0))
   else none
   else none
  else
   some (.inr eW)
  else none
 else
  some (.inr eW)
def z1 (an:(List Int)) (eW:Nat):Option (Nat):=iter (fun w:Nat=>pV an w) eW
theorem Iu {an:(List Int)} {eW:Nat}:bm (pV an eW) (dI a2 21 1 104 [1,0,0,0] (yR an eW) (yR an) (y9 an)):=by
 unfold pV
 exact .ite (fun h1 =>
  .bu fun R =>
  .aJ fun al ax =>
  (let t1:List bx:=[.J (o 9 (aj (.bQ (U al)) (o 1 (aj (.af true) []))))];
  have aO:=((.br h1 h1 h1 h1 h1 R.1 R.2 h1 (.bp (cm U ax) h1 h1)):b2 _);
  .ite (fun aM =>
  .bu fun ba =>
  .bu fun a5 =>
  .ret (bi (t1.append [.af true,.J (o 6 []),.a0 [0] [.pure] (bf [0])]) (aO.aC (.dM aM ba a5.1 a5.2 (bD 1 .live bG an)))))
  (fun aM =>
  .ret (bi (t1.append [.af false,.a0 [0] [.pure] (bf [0])]) (aO.aC (.az aM (bD 1 .live bG an)))))))
  (fun h1 =>
  .ret (bi [.J (o 4 (cc 7 (aj (.af false) []))),.af false,.a0 [0] [.pure] (bf [0])] (.br h1 h1 h1 h1 h1 h1 h1 h1 (.az hg (bD 1 .live bG an)))))
theorem Jr {an:(List Int)} {eW:Nat} {r} (h:z1 an eW=some r):dJ a2 21 1 104 [1,0,0,0] (yR an) (y9 an) eW r:=dK (fun _=>Iu) h
def sv (c7:(List Int)):Option Nat :=
 z1 c7 c7.length >>= fun r1 =>
 some r1
theorem Ko {c7:(List Int)}:bm (sv c7) (fun a=>Con a2 104 [.aV 0 0 0 c7.length] [[ae.mk 1 (c7.map U) .live]] (.aV 0 0 0 a) [[ae.mk 1 (c7.map U) .live]]):=by
 unfold sv
 exact .aJ fun r1 R =>
  .ret (gQ [.J (o 1 []),.a0 [0] [.pure] (bf [0]),(y9 c7 r1).eU,.J (o 2 [])] [0] [.pure] (.bp (bD 1 .live bG c7) (Jr R) (bD 1 .live bG c7)))
def yu (aw:(List Int)) (ah:Int) (bd:Int) (dA:(List Int)) (dG:Int) (gG:Int):(Int×Int×(List Int))→S:=fun (c1,ew,an)=>c6 [(1,.isl 1 (aw.map U)),(5,.aV 0 0 0 an.length),(6,.n .i64 ah),(7,.n .i64 bd),(8,.n .i64 c1),(26,.isl 1 (dA.map U)),(27,.n .i64 dG),(28,.n .i64 ah),(33,.isl 1 (aw.map U)),(34,.n .i64 gG),(35,.n .i64 ew)] [[ae.mk 1 (an.map U) .live]]
def yS (aw:(List Int)) (ah:Int) (bd:Int) (dA:(List Int)) (dG:Int) (gG:Int):(Int×(List Int))→dc
 | a=>⟨some 2,[(1,.isl 1 (aw.map U)),(5,.aV 0 0 0 a.2.length),(6,.n .i64 ah),(8,.n .i64 a.1),(26,.isl 1 (dA.map U)),(27,.n .i64 dG),(28,.n .i64 ah)],[[ae.mk 1 (a.2.map U) .live]]⟩
def yv (aw:(List Int)) (ah:Int) (bd:Int) (dA:(List Int)) (dG:Int) (gG:Int) (c1:Int) (ew:Int) (an:(List Int)):Option ((Int×Int×(List Int))⊕(Int×(List Int))) :=
 if (decide (ew<gG))=true then
  if 0≤ew∧ew<aw.length then
  aw[ew.toNat]? >>= fun al =>
  if 0≤(ab (ah+ew))∧(ab (ah+ew))<(an.length:Nat) then
  an[(0+(ab (ah+ew)).toNat)]? >>= fun bP =>
  if (0+(ab (ah+ew)).toNat)<an.length then
  some (.inl (ab ((ab ((ab (bP+(ab (bd*al))))+c1)).tdiv (1000000000:Int)),ab (ew+(1:Int)),an.set (0+(ab (ah+ew)).toNat) ((ab ((ab (bP+(ab (bd*al))))+c1)).tmod (1000000000:Int))))
  else none
  else none
  else none
 else
  some (.inr (c1,an))
def Dz (aw:(List Int)) (ah:Int) (bd:Int) (dA:(List Int)) (dG:Int) (gG:Int) (c1:Int) (ew:Int) (an:(List Int)):Option (Int×(List Int)):=iter (fun w:Int×Int×(List Int)=>yv aw ah bd dA dG gG w.1 w.2.1 w.2.2) (c1,ew,an)
theorem Ia {aw:(List Int)} {ah:Int} {bd:Int} {dA:(List Int)} {dG:Int} {gG:Int} {c1:Int} {ew:Int} {an:(List Int)}:bm (yv aw ah bd dA dG gG c1 ew an) (dI a2 72 0 101 [1,1,1,0,1,0,0,1,1,0,0,1,1,0,1,0,0] (yu aw ah bd dA dG gG (c1,ew,an)) (yu aw ah bd dA dG gG) (yS aw ah bd dA dG gG)):=by
 unfold yv
 exact .ite (fun h1 =>
  .bu fun R =>
  .aJ fun al ax =>
  .bu fun aM =>
  .aJ fun bP a5 =>
  .bu fun bV =>
  .ret (bi [.J (o 1 []),.af true,.J (o 2 (aj (.bQ (U al)) (o 2 []))),.J (o 5 (aj (.bQ (U bP)) (o 7 []))),.J (o 9 (aj .fr (o 1 []))),.J (o 2 []),.a0 [0] [.dP [ae.mk 1 ((an.set (0+(ab (ah+ew)).toNat) ((ab ((ab (bP+(ab (bd*al))))+c1)).tmod (1000000000:Int))).map U) .live]] [(1,ii),(5,fV ((an.set (0+(ab (ah+ew)).toNat) ((ab ((ab (bP+(ab (bd*al))))+c1)).tmod (1000000000:Int))).length)),(6,ii),(7,ii),(8,ii),(26,ii),(27,ii),(28,ii),(33,ii),(34,ii),(35,ii)]] (.br h1 R.1 (c9 U R.2) (cm U ax) aM.1 aM.2 (cm U a5) (by decide:(1000000000:Int)≠0) (.hN (by decide:(1000000000:Int)≠0) aM.1 aM.2 (i4 U bV) (i3 1) (eA 1 .live (im (aT U an) (0+(ab (ah+ew)).toNat) ((ab ((ab (bP+(ab (bd*al))))+c1)).tmod (1000000000:Int)))) (bD 1 .live bG (an.set (0+(ab (ah+ew)).toNat) ((ab ((ab (bP+(ab (bd*al))))+c1)).tmod (1000000000:Int)))) (gU (bw an) (0+(ab (ah+ew)).toNat) ((ab ((ab (bP+(ab (bd*al))))+c1)).tmod (1000000000:Int)))))))
  (fun h1 =>
  .ret (bi [.J (o 1 []),.af false,.a0 [0] [.pure] (bf [1,5,6,8,26,27,28])] (.az h1 (bD 1 .live bG an))))
theorem Jf {aw:(List Int)} {ah:Int} {bd:Int} {dA:(List Int)} {dG:Int} {gG:Int} {c1:Int} {ew:Int} {an:(List Int)} {r} (h:Dz aw ah bd dA dG gG c1 ew an=some r):dJ a2 72 0 101 [1,1,1,0,1,0,0,1,1,0,0,1,1,0,1,0,0] (yu aw ah bd dA dG gG) (yS aw ah bd dA dG gG) (c1,ew,an) r:=dK (fun _=>Ia) h
def yw (aw:(List Int)) (dA:(List Int)) (dG:Int):(Int×(List Int))→S:=fun (ep,an)=>c6 [(1,.isl 1 (aw.map U)),(5,.aV 0 0 0 an.length),(26,.isl 1 (dA.map U)),(27,.n .i64 dG),(28,.n .i64 ep)] [[ae.mk 1 (an.map U) .live]]
def yT (aw:(List Int)) (dA:(List Int)) (dG:Int):(List Int)→dc
 | a=>⟨some 0,[(5,.aV 0 0 0 a.length)],[[ae.mk 1 (a.map U) .live]]⟩
def yx (aw:(List Int)) (dA:(List Int)) (dG:Int) (ep:Int) (an:(List Int)):Option ((Int×(List Int))⊕((List Int))) :=
 if (decide (ep<dG))=true then
  if 0≤ep∧ep<dA.length then
  dA[ep.toNat]? >>= fun al =>
  Dz aw ep al dA dG (len_ U aw) 0 0 an >>= fun aZ =>
  if 0≤(ab (ep+(len_ U aw)))∧(ab (ep+(len_ U aw)))<(aZ.2.length:Nat) then
  if (0+(ab (ep+(len_ U aw))).toNat)<aZ.2.length then
  some (.inl (ab (ep+(1:Int)),aZ.2.set (0+(ab (ep+(len_ U aw))).toNat) aZ.1))
  else none
  else none
  else none
 else
  some (.inr an)
def zO (aw:(List Int)) (dA:(List Int)) (dG:Int) (ep:Int) (an:(List Int)):Option ((List Int)):=iter (fun w:Int×(List Int)=>yx aw dA dG w.1 w.2) (ep,an)
theorem Ib {aw:(List Int)} {dA:(List Int)} {dG:Int} {ep:Int} {an:(List Int)}:bm (yx aw dA dG ep an) (dI a2 72 0 101 [1,1,1,0,1,0,0] (yw aw dA dG (ep,an)) (yw aw dA dG) (yT aw dA dG)):=by
 unfold yx
 exact .ite (fun h1 =>
  .bu fun R =>
  .aJ fun al ax =>
  .aJ fun aZ ba =>
  .bu fun a5 =>
  .bu fun bV =>
  .ret (bi [.J (o 1 []),.af true,.J (o 2 (aj (.bQ (U al)) (o 2 []))),.J (o 1 []),.J (o 3 []),.a0 [0] [.pure] (bf [1,5,6,7,8,26,27,28,33,34,35]),(yS aw ep al dA dG (len_ U aw) aZ).eU,.J (o 7 (aj .fr [])),.J (o 2 []),.a0 [0] [.dP [ae.mk 1 ((aZ.2.set (0+(ab (ep+(len_ U aw))).toNat) aZ.1).map U) .live]] [(1,ii),(5,fV ((aZ.2.set (0+(ab (ep+(len_ U aw))).toNat) aZ.1).length)),(26,ii),(27,ii),(28,ii)]] (.br h1 R.1 (c9 U R.2) (cm U ax) (bD 1 .live bG an) (Jf ba) a5.1 a5.2 (.dM (i4 U bV) (i3 1) (eA 1 .live (im (aT U aZ.2) (0+(ab (ep+(len_ U aw))).toNat) aZ.1)) (bD 1 .live bG (aZ.2.set (0+(ab (ep+(len_ U aw))).toNat) aZ.1)) (gU (bw aZ.2) (0+(ab (ep+(len_ U aw))).toNat) aZ.1)))))
  (fun h1 =>
  .ret (bi [.J (o 1 []),.af false,.a0 [0] [.pure] (bf [5])] (.az h1 (bD 1 .live bG an))))
theorem Jg {aw:(List Int)} {dA:(List Int)} {dG:Int} {ep:Int} {an:(List Int)} {r} (h:zO aw dA dG ep an=some r):dJ a2 72 0 101 [1,1,1,0,1,0,0] (yw aw dA dG) (yT aw dA dG) (ep,an) r:=dK (fun _=>Ib) h
def qj (aa:(List Int)) (aw:(List Int)):Option (Nat×(List Int)) :=
 if ((len_ U aa) == (0:Int))=true then
  none
 else
  if ((len_ U aw) == (0:Int))=true then
   none
  else
   if 0≤(ab ((len_ U aa)+(len_ U aw)))∧(8:Int)*(ab ((len_ U aa)+(len_ U aw)))≤281474976710656∧(ab ((len_ U aa)+(len_ U aw)))<9223372036854775808 then
   zO aw aa (len_ U aa) 0 (List.replicate (ab ((len_ U aa)+(len_ U aw))).toNat 0:List Int) >>= fun bg =>
   sv bg >>= fun ec =>
   some (ec,bg)
   else none
theorem DA {aa:(List Int)} {aw:(List Int)}:bm (qj aa aw) (fun a=>Con a2 101 [.isl 1 (aa.map U),.isl 1 (aw.map U)] [] (.aV 0 0 0 a.1) [[ae.mk 1 (a.2.map U) .live]]):=by
 unfold qj
 exact .ite (fun h1 =>
  .pa)
  (fun h1 =>
  .ite (fun R =>
  .pa)
  (fun R =>
  .bu fun ai =>
  .aJ fun bg aM =>
  .aJ fun ec a5 =>
  .ret (gQ [.J (o 1 []),.J (o 7 (aj (.af false) [])),.af false,.J (o 7 []),.J (o 3 []),.a0 [14] [.dP [ae.mk 1 ((List.replicate (ab ((len_ U aa)+(len_ U aw))).toNat 0:List Int).map U) .live]] [(1,ii),(5,fV ((List.replicate (ab ((len_ U aa)+(len_ U aw))).toNat 0:List Int).length)),(26,ii),(27,ii),(28,ii)],(yT aw aa (len_ U aa) bg).eU,.J (o 1 (aj (.call {aA:=[.row 0],bR:=[.pure],ac:=[ii],r:= .aV 0 0 0 ec,cC:=[[ae.mk 1 (bg.map U) .live]],dE:=ii,d9:=[.pure],cK:=[0],cH:=false}) (o 1 [])))] [0] [.pure] (.br h1 h1 h1 h1 R ai.1 (Int.le_refl (ab ((len_ U aa)+(len_ U aw)))) ai.2.1 (.br ai.2.2 (eA 1 .live (lA U (ab ((len_ U aa)+(len_ U aw))).toNat 0)) (bD 1 .live bG (List.replicate (ab ((len_ U aa)+(len_ U aw))).toNat 0:List Int)) (lB (ab ((len_ U aa)+(len_ U aw))).toNat (0:Int)) (Jg aM) (eR 1 bG bg) (eR 1 bG bg) (Ko ec a5) (.e1 (bD 1 .live bG bg)))))))
def yU (di:Nat) (cP:Nat) (b7:(List Int)) (f8:Int) (dL:Int):(Int×Int×(List Int))→S:=fun (c1,dQ,an)=>c6 [(0,.aV 0 0 di cP),(1,.isl 1 (b7.map U)),(2,.n .i64 f8),(7,.n .i64 c1),(11,.isl 1 (b7.map U)),(12,.n .i64 dL),(13,.n .i64 dQ)] [[ae.mk 1 (an.map U) .live]]
def za (di:Nat) (cP:Nat) (b7:(List Int)) (f8:Int) (dL:Int):(Int×(List Int))→dc
 | a=>⟨some 0,[(0,.aV 0 0 di cP),(1,.isl 1 (b7.map U)),(7,.n .i64 a.1)],[[ae.mk 1 (a.2.map U) .live]]⟩
def n5 (di:Nat) (cP:Nat) (b7:(List Int)) (f8:Int) (dL:Int) (c1:Int) (dQ:Int) (an:(List Int)):Option ((Int×Int×(List Int))⊕(Int×(List Int))) :=
 if (decide (dQ<dL))=true then
  if 0≤dQ∧dQ<b7.length then
  b7[dQ.toNat]? >>= fun al =>
  if 0≤dQ∧dQ<(cP:Nat) then
  an[(di+dQ.toNat)]? >>= fun bP =>
  if (decide ((ab ((ab (bP-(ab (f8*al))))-c1))<(0:Int)))=true then
   if (di+dQ.toNat)<an.length then
   some (.inl (ab ((ab ((999999999:Int)-(ab ((ab (bP-(ab (f8*al))))-c1)))).tdiv (1000000000:Int)),ab (dQ+(1:Int)),an.set (di+dQ.toNat) (ab ((ab ((ab (bP-(ab (f8*al))))-c1))+(ab ((ab ((ab ((999999999:Int)-(ab ((ab (bP-(ab (f8*al))))-c1)))).tdiv (1000000000:Int)))*(1000000000:Int)))))))
   else none
  else
   if (di+dQ.toNat)<an.length then
   some (.inl (0,ab (dQ+(1:Int)),an.set (di+dQ.toNat) (ab ((ab (bP-(ab (f8*al))))-c1))))
   else none
  else none
  else none
 else
  some (.inr (c1,an))
def z2 (di:Nat) (cP:Nat) (b7:(List Int)) (f8:Int) (dL:Int) (c1:Int) (dQ:Int) (an:(List Int)):Option (Int×(List Int)):=iter (fun w:Int×Int×(List Int)=>n5 di cP b7 f8 dL w.1 w.2.1 w.2.2) (c1,dQ,an)
theorem Iv {di:Nat} {cP:Nat} {b7:(List Int)} {f8:Int} {dL:Int} {c1:Int} {dQ:Int} {an:(List Int)}:bm (n5 di cP b7 f8 dL c1 dQ an) (dI a2 56 1 102 [1,1,0,1,0,0] (yU di cP b7 f8 dL (c1,dQ,an)) (yU di cP b7 f8 dL) (za di cP b7 f8 dL)):=by
 unfold n5
 exact .ite (fun h1 =>
  .bu fun R =>
  .aJ fun al ax =>
  .bu fun aM =>
  .aJ fun bP a5 =>
  (let t1:List bx:=[.J (o 1 []),.af true,.J (o 2 (aj (.bQ (U al)) (o 2 []))),.J (o 3 (aj (.bQ (U bP)) (o 7 []))),.J (o 1 []),.J (o 2 [])];
  have aO:=((.eQ h1 R.1 (c9 U R.2) (cm U ax) aM.1 aM.2 (cm U a5)):b2 _);
  .ite (fun bV =>
  .bu fun dv =>
  .ret (bi (t1.append [.af true,.J (o 4 []),.J (o 5 []),.J (o 4 (aj .fr [])),.J (o 2 []),.a0 [0] [.dP [ae.mk 1 ((an.set (di+dQ.toNat) (ab ((ab ((ab (bP-(ab (f8*al))))-c1))+(ab ((ab ((ab ((999999999:Int)-(ab ((ab (bP-(ab (f8*al))))-c1)))).tdiv (1000000000:Int)))*(1000000000:Int)))))).map U) .live]] (bf [0,1,2,7,11,12,13])]) (aO.aC (.hN bV (by decide:(1000000000:Int)≠0) aM.1 aM.2 (i4 U dv) (i3 1) (eA 1 .live (im (aT U an) (di+dQ.toNat) (ab ((ab ((ab (bP-(ab (f8*al))))-c1))+(ab ((ab ((ab ((999999999:Int)-(ab ((ab (bP-(ab (f8*al))))-c1)))).tdiv (1000000000:Int)))*(1000000000:Int))))))) (bD 1 .live bG (an.set (di+dQ.toNat) (ab ((ab ((ab (bP-(ab (f8*al))))-c1))+(ab ((ab ((ab ((999999999:Int)-(ab ((ab (bP-(ab (f8*al))))-c1)))).tdiv (1000000000:Int)))*(1000000000:Int)))))))))))
  (fun bV =>
  .bu fun dv =>
  .ret (bi (t1.append [.af false,.J (o 4 (aj .fr [])),.J (o 2 []),.a0 [0] [.dP [ae.mk 1 ((an.set (di+dQ.toNat) (ab ((ab (bP-(ab (f8*al))))-c1))).map U) .live]] (bf [0,1,2,7,11,12,13])]) (aO.aC (.eQ bV aM.1 aM.2 (i4 U dv) (i3 1) (eA 1 .live (im (aT U an) (di+dQ.toNat) (ab ((ab (bP-(ab (f8*al))))-c1)))) (bD 1 .live bG (an.set (di+dQ.toNat) (ab ((ab (bP-(ab (f8*al))))-c1))))))))))
  (fun h1 =>
  .ret (bi [.J (o 1 []),.af false,.a0 [0] [.pure] (bf [0,1,7])] (.az h1 (bD 1 .live bG an))))
theorem Js {di:Nat} {cP:Nat} {b7:(List Int)} {f8:Int} {dL:Int} {c1:Int} {dQ:Int} {an:(List Int)} {r} (h:z2 di cP b7 f8 dL c1 dQ an=some r):dJ a2 56 1 102 [1,1,0,1,0,0] (yU di cP b7 f8 dL) (za di cP b7 f8 dL) (c1,dQ,an) r:=dK (fun _=>Iv) h
def sw (b7:(List Int)) (f8:Int) (di:Nat) (cP:Nat) (c7:(List Int)):Option (Bool×(List Int)) :=
 z2 di cP b7 f8 (len_ U b7) 0 0 c7 >>= fun r1 =>
 if 0≤(len_ U b7)∧(len_ U b7)<(cP:Nat) then
 r1.2[(di+(len_ U b7).toNat)]? >>= fun fh =>
 if (di+(len_ U b7).toNat)<r1.2.length then
 (r1.2.set (di+(len_ U b7).toNat) (ab (fh-r1.1)))[(di+(len_ U b7).toNat)]? >>= fun b1 =>
 some ((decide (b1<(0:Int))),r1.2.set (di+(len_ U b7).toNat) (ab (fh-r1.1)))
 else none
 else none
theorem Kp {b7:(List Int)} {f8:Int} {di:Nat} {cP:Nat} {c7:(List Int)}:bm (sw b7 f8 di cP c7) (fun a=>Con a2 102 [.aV 0 0 di cP,.isl 1 (b7.map U),.n .i64 f8] [[ae.mk 1 (c7.map U) .live]] (.b a.1) [[ae.mk 1 (a.2.map U) .live]]):=by
 unfold sw
 exact .aJ fun r1 R =>
  .bu fun ai =>
  .aJ fun fh aM =>
  .bu fun ba =>
  .aJ fun b1 bV =>
  .ret (gQ [.J (o 1 []),.J (o 1 []),.J (o 3 []),.a0 [0] [.pure] (bf [0,1,2,7,11,12,13]),(za di cP b7 f8 (len_ U b7) r1).eU,.J (o 4 (aj (.bQ (U fh)) (o 3 (aj .fr [])))),.J (o 4 (aj (.bQ (U b1)) (o 2 [])))] [0] [.dP [ae.mk 1 ((r1.2.set (di+(len_ U b7).toNat) (ab (fh-r1.1))).map U) .live]] (.br (bD 1 .live bG c7) (Js R) ai.1 ai.2 (cm U aM) ai.1 ai.2 (i4 U ba) (.ez (i3 1) ai.1 ai.2 (iE (im (aT U r1.2) (di+(len_ U b7).toNat) (ab (fh-r1.1))) bV) (eA 1 .live (im (aT U r1.2) (di+(len_ U b7).toNat) (ab (fh-r1.1)))) (bD 1 .live bG (r1.2.set (di+(len_ U b7).toNat) (ab (fh-r1.1)))))))
def yV (di:Nat) (cP:Nat) (b7:(List Int)) (eN:Int):(Int×Int×(List Int))→S:=fun (c1,d8,an)=>c6 [(0,.aV 0 0 di cP),(1,.isl 1 (b7.map U)),(4,.n .i64 c1),(8,.isl 1 (b7.map U)),(9,.n .i64 eN),(10,.n .i64 d8)] [[ae.mk 1 (an.map U) .live]]
def zb (di:Nat) (cP:Nat) (b7:(List Int)) (eN:Int):(Int×(List Int))→dc
 | a=>⟨some 0,[(0,.aV 0 0 di cP),(1,.isl 1 (b7.map U)),(4,.n .i64 a.1)],[[ae.mk 1 (a.2.map U) .live]]⟩
def pW (di:Nat) (cP:Nat) (b7:(List Int)) (eN:Int) (c1:Int) (d8:Int) (an:(List Int)):Option ((Int×Int×(List Int))⊕(Int×(List Int))) :=
 if (decide (d8<eN))=true then
  if 0≤d8∧d8<b7.length then
  b7[d8.toNat]? >>= fun al =>
  if 0≤d8∧d8<(cP:Nat) then
  an[(di+d8.toNat)]? >>= fun bP =>
  if (di+d8.toNat)<an.length then
  some (.inl (ab ((ab ((ab (bP+al))+c1)).tdiv (1000000000:Int)),ab (d8+(1:Int)),an.set (di+d8.toNat) ((ab ((ab (bP+al))+c1)).tmod (1000000000:Int))))
  else none
  else none
  else none
 else
  some (.inr (c1,an))
def z3 (di:Nat) (cP:Nat) (b7:(List Int)) (eN:Int) (c1:Int) (d8:Int) (an:(List Int)):Option (Int×(List Int)):=iter (fun w:Int×Int×(List Int)=>pW di cP b7 eN w.1 w.2.1 w.2.2) (c1,d8,an)
theorem Iw {di:Nat} {cP:Nat} {b7:(List Int)} {eN:Int} {c1:Int} {d8:Int} {an:(List Int)}:bm (pW di cP b7 eN c1 d8 an) (dI a2 39 1 103 [1,0,1,0,0] (yV di cP b7 eN (c1,d8,an)) (yV di cP b7 eN) (zb di cP b7 eN)):=by
 unfold pW
 exact .ite (fun h1 =>
  .bu fun R =>
  .aJ fun al ax =>
  .bu fun aM =>
  .aJ fun bP a5 =>
  .bu fun bV =>
  .ret (bi [.J (o 1 []),.af true,.J (o 2 (aj (.bQ (U al)) (o 2 []))),.J (o 3 (aj (.bQ (U bP)) (o 5 []))),.J (o 7 (aj .fr (o 1 []))),.J (o 2 []),.a0 [0] [.dP [ae.mk 1 ((an.set (di+d8.toNat) ((ab ((ab (bP+al))+c1)).tmod (1000000000:Int))).map U) .live]] (bf [0,1,4,8,9,10])] (.br h1 R.1 (c9 U R.2) (cm U ax) aM.1 aM.2 (cm U a5) (by decide:(1000000000:Int)≠0) (.eQ (by decide:(1000000000:Int)≠0) aM.1 aM.2 (i4 U bV) (i3 1) (eA 1 .live (im (aT U an) (di+d8.toNat) ((ab ((ab (bP+al))+c1)).tmod (1000000000:Int)))) (bD 1 .live bG (an.set (di+d8.toNat) ((ab ((ab (bP+al))+c1)).tmod (1000000000:Int))))))))
  (fun h1 =>
  .ret (bi [.J (o 1 []),.af false,.a0 [0] [.pure] (bf [0,1,4])] (.az h1 (bD 1 .live bG an))))
theorem Jt {di:Nat} {cP:Nat} {b7:(List Int)} {eN:Int} {c1:Int} {d8:Int} {an:(List Int)} {r} (h:z3 di cP b7 eN c1 d8 an=some r):dJ a2 39 1 103 [1,0,1,0,0] (yV di cP b7 eN) (zb di cP b7 eN) (c1,d8,an) r:=dK (fun _=>Iw) h
def qq (b7:(List Int)) (di:Nat) (cP:Nat) (c7:(List Int)):Option (List Int) :=
 z3 di cP b7 (len_ U b7) 0 0 c7 >>= fun r1 =>
 if 0≤(len_ U b7)∧(len_ U b7)<(cP:Nat) then
 r1.2[(di+(len_ U b7).toNat)]? >>= fun fh =>
 if (di+(len_ U b7).toNat)<r1.2.length then
 some (r1.2.set (di+(len_ U b7).toNat) (ab (fh+r1.1)))
 else none
 else none
theorem Kq {b7:(List Int)} {di:Nat} {cP:Nat} {c7:(List Int)}:bm (qq b7 di cP c7) (fun a=>Con a2 103 [.aV 0 0 di cP,.isl 1 (b7.map U)] [[ae.mk 1 (c7.map U) .live]] (.cy []) [[ae.mk 1 (a.map U) .live]]):=by
 unfold qq
 exact .aJ fun r1 R =>
  .bu fun ai =>
  .aJ fun fh aM =>
  .bu fun ba =>
  .ret (gQ [.J (o 1 []),.J (o 3 []),.a0 [0] [.pure] (bf [0,1,4,8,9,10]),(zb di cP b7 (len_ U b7) r1).eU,.J (o 4 (aj (.bQ (U fh)) (o 3 (aj .fr []))))] [0] [.dP [ae.mk 1 ((r1.2.set (di+(len_ U b7).toNat) (ab (fh+r1.1))).map U) .live]] (.br (bD 1 .live bG c7) (Jt R) ai.1 ai.2 (cm U aM) ai.1 ai.2 (i4 U ba) (.bp (i3 1) (eA 1 .live (im (aT U r1.2) (di+(len_ U b7).toNat) (ab (fh+r1.1)))) (bD 1 .live bG (r1.2.set (di+(len_ U b7).toNat) (ab (fh+r1.1)))))))
def zo (aa:(List Int)) (dW:Nat) (an:(List Int)) (bt:(List Int)):(List Int)→S:=fun dr=>c6 [(0,.isl 1 (aa.map U)),(8,.aV 0 0 0 an.length),(9,.aV 1 0 0 dr.length),(10,.aV 2 0 0 dW)] [[ae.mk 1 (an.map U) .live],[ae.mk 1 (dr.map U) .live],[ae.mk 1 (bt.map U) .live]]
def zC (aa:(List Int)) (dW:Nat) (an:(List Int)) (bt:(List Int)):(List Int)→dc
 | a=>⟨some 0,[(8,.aV 0 0 0 an.length),(9,.aV 1 0 0 a.length),(10,.aV 2 0 0 dW)],[[ae.mk 1 (an.map U) .live],[ae.mk 1 (a.map U) .live],[ae.mk 1 (bt.map U) .live]]⟩
def u1 (aa:(List Int)) (dW:Nat) (an:(List Int)) (bt:(List Int)) (dr:(List Int)):Option (((List Int))⊕((List Int))) :=
 if (decide (((dr.length:Nat):Int)≤(len_ U aa)))=true then
  if (dr++([0]:List Int)).length*8≤140737488355328 then
  some (.inl (dr++([0]:List Int)))
  else none
 else
  some (.inr dr)
def vn (aa:(List Int)) (dW:Nat) (an:(List Int)) (bt:(List Int)) (dr:(List Int)):Option ((List Int)):=iter (fun w:(List Int)=>u1 aa dW an bt w) dr
theorem IP {aa:(List Int)} {dW:Nat} {an:(List Int)} {bt:(List Int)} {dr:(List Int)}:bm (u1 aa dW an bt dr) (dI a2 172 0 97 [1,1,1,1,1,0,0,0] (zo aa dW an bt dr) (zo aa dW an bt) (zC aa dW an bt)):=by
 unfold u1
 exact .ite (fun h1 =>
  .bu fun R =>
  .ret (bi [.J (o 5 []),.af true,.J (o 2 (aj (.aC ((dr++([0]:List Int)).length)) (o 1 []))),.a0 [0,10,2] [.pure,.dP [ae.mk 1 ((dr++([0]:List Int)).map U) .live],.pure] (bf [0,8,9,10])] (.br h1 (cY (show [[.n .i64 (0:Int)]]=(([0]:List Int)).map U from rfl) (show 1=([0]:List Int).length from rfl)) (jq (aT U dr) (bw dr)) (jr (bw dr) (ia (show [[.n .i64 (0:Int)]]=(([0]:List Int)).map U from rfl) (show 1=([0]:List Int).length from rfl)):(dr++([0]:List Int)).length=dr.length+(([[.n .i64 (0:Int)]].drop 0).take 1).length) R (bD 1 .live bG an) (eA 1 .live (hP (aT U dr) (bw dr) (ia (show [[.n .i64 (0:Int)]]=(([0]:List Int)).map U from rfl) (show 1=([0]:List Int).length from rfl)))) (bD 1 .live bG (dr++([0]:List Int))) (.e1 (bD 1 .live bG bt)))))
  (fun h1 =>
  .ret (bi [.J (o 5 []),.af false,.a0 [0,1,2] [.pure,.pure,.pure] (bf [8,9,10])] (.cI h1 (bD 1 .live bG an) (bD 1 .live bG dr) (bD 1 .live bG bt))))
theorem J5 {aa:(List Int)} {dW:Nat} {an:(List Int)} {bt:(List Int)} {dr:(List Int)} {r} (h:vn aa dW an bt dr=some r):dJ a2 172 0 97 [1,1,1,1,1,0,0,0] (zo aa dW an bt) (zC aa dW an bt) dr r:=dK (fun _=>IP) h
def zp (cP:Nat) (dW:Nat) (bd:Int) (cL:Int) (an:(List Int)) (dr:(List Int)) (bt:(List Int)) (b6:(List Int)):(Int×Int)→S:=fun (jI,dd)=>c6 [(8,.aV 0 0 0 an.length),(9,.aV 1 0 0 cP),(10,.aV 2 0 0 dW),(11,.n .i64 bd),(12,.aV 3 0 0 b6.length),(13,.n .i64 cL),(15,.n .i64 jI),(16,.n .i64 dd)] [[ae.mk 1 (an.map U) .live],[ae.mk 1 (dr.map U) .live],[ae.mk 1 (bt.map U) .fK],[ae.mk 1 (b6.map U) .live]]
def zD (cP:Nat) (dW:Nat) (bd:Int) (cL:Int) (an:(List Int)) (dr:(List Int)) (bt:(List Int)) (b6:(List Int)):Int→dc
 | a=>⟨some 4,[(8,.aV 0 0 0 an.length),(9,.aV 1 0 0 cP),(10,.aV 2 0 0 dW),(11,.n .i64 bd),(12,.aV 3 0 0 b6.length),(13,.n .i64 cL),(15,.n .i64 a)],[[ae.mk 1 (an.map U) .live],[ae.mk 1 (dr.map U) .live],[ae.mk 1 (bt.map U) .fK],[ae.mk 1 (b6.map U) .live]]⟩
def n7 (cP:Nat) (dW:Nat) (bd:Int) (cL:Int) (an:(List Int)) (dr:(List Int)) (bt:(List Int)) (b6:(List Int)) (jI:Int) (dd:Int):Option ((Int×Int)⊕(Int)) :=
 if (decide ((1000000000:Int)≤jI))=true then
  if 0≤(ab (bd-(1:Int)))∧(ab (bd-(1:Int)))<(dW:Nat) then
  bt[(0+(ab (bd-(1:Int))).toNat)]? >>= fun al =>
  if (decide ((1000000000:Int)≤(ab (dd+al))))=true then
   some (.inr (ab (jI-(1:Int))))
  else
   some (.inl (ab (jI-(1:Int)),ab (dd+al)))
  else none
 else
  if 0≤(ab (bd-(2:Int)))∧(ab (bd-(2:Int)))<(dW:Nat) then
  bt[(0+(ab (bd-(2:Int))).toNat)]? >>= fun al =>
  if 0≤(ab ((ab (cL+bd))-(2:Int)))∧(ab ((ab (cL+bd))-(2:Int)))<(cP:Nat) then
  dr[(0+(ab ((ab (cL+bd))-(2:Int))).toNat)]? >>= fun bP =>
  if (decide ((ab ((ab (dd*(1000000000:Int)))+bP))<(ab (jI*al))))=true then
   if 0≤(ab (bd-(1:Int)))∧(ab (bd-(1:Int)))<(dW:Nat) then
   bt[(0+(ab (bd-(1:Int))).toNat)]? >>= fun eE =>
   if (decide ((1000000000:Int)≤(ab (dd+eE))))=true then
    some (.inr (ab (jI-(1:Int))))
   else
    some (.inl (ab (jI-(1:Int)),ab (dd+eE)))
   else none
  else
   some (.inr jI)
  else none
  else none
def Ae (cP:Nat) (dW:Nat) (bd:Int) (cL:Int) (an:(List Int)) (dr:(List Int)) (bt:(List Int)) (b6:(List Int)) (jI:Int) (dd:Int):Option (Int):=iter (fun w:Int×Int=>n7 cP dW bd cL an dr bt b6 w.1 w.2) (jI,dd)
theorem IQ {cP:Nat} {dW:Nat} {bd:Int} {cL:Int} {an:(List Int)} {dr:(List Int)} {bt:(List Int)} {b6:(List Int)} {jI:Int} {dd:Int}:bm (n7 cP dW bd cL an dr bt b6 jI dd) (dI a2 172 0 97 [1,1,1,1,1,1,1,1,0,1,0,0,1,0,0,1,1,0,0,0] (zp cP dW bd cL an dr bt b6 (jI,dd)) (zp cP dW bd cL an dr bt b6) (zD cP dW bd cL an dr bt b6)):=by
 unfold n7
 exact .ite (fun h1 =>
  .bu fun R =>
  .aJ fun al ax =>
  (let t1:List bx:=[.J (o 3 (cc 18 (aj (.af true) []))),.af true,.J (o 3 []),.J (o 5 (aj (.bQ (U al)) (o 2 []))),.J (o 2 [])];
  have aO:=((.br h1 h1 h1 h1 h1 h1 h1 h1 (.br h1 h1 h1 h1 h1 h1 h1 h1 (.eQ h1 h1 h1 bF R.1 R.2 (cm U ax)))):b2 _);
  .ite (fun aM =>
  .ret (bi (t1.append [.af true,.a0 [0,1,2,3] [.pure,.pure,.pure,.pure] (bf [8,9,10,11,12,13,15])]) (aO.aC (.dM aM (bD 1 .live bG an) (bD 1 .live bG dr) (bD 1 .fK bG bt) (bD 1 .live bG b6)))))
  (fun aM =>
  .ret (bi (t1.append [.af false,.a0 [0,1,2,3] [.pure,.pure,.pure,.pure] (bf [8,9,10,11,12,13,15,16])]) (aO.aC (.dM aM (bD 1 .live bG an) (bD 1 .live bG dr) (bD 1 .fK bG bt) (bD 1 .live bG b6)))))))
  (fun h1 =>
  .bu fun R =>
  .aJ fun al ax =>
  .bu fun aM =>
  .aJ fun bP a5 =>
  (let t1:List bx:=[.J (o 8 (aj (.bQ (U al)) (o 9 (aj (.bQ (U bP)) (o 2 (aj (.af false) []))))))];
  have aO:=((.br h1 h1 h1 h1 h1 R.1 R.2 h1 (.br (cm U ax) h1 h1 h1 h1 h1 h1 h1 (.br h1 h1 aM.1 aM.2 h1 (cm U a5) h1 h1 (.e1 h1)))):b2 _);
  .ite (fun bV =>
  .bu fun dv =>
  .aJ fun eE eb =>
  (let t3:List bx:=t1.append [.af true,.J (o 3 []),.J (o 5 (aj (.bQ (U eE)) (o 2 []))),.J (o 2 [])];
  .ite (fun ht =>
  .ret (bi (t3.append [.af true,.a0 [0,1,2,3] [.pure,.pure,.pure,.pure] (bf [8,9,10,11,12,13,15])]) (aO.aC (.br bV dv.1 dv.2 (cm U eb) ht (bD 1 .live bG an) (bD 1 .live bG dr) (bD 1 .fK bG bt) (.e1 (bD 1 .live bG b6))))))
  (fun ht =>
  .ret (bi (t3.append [.af false,.a0 [0,1,2,3] [.pure,.pure,.pure,.pure] (bf [8,9,10,11,12,13,15,16])]) (aO.aC (.br bV dv.1 dv.2 (cm U eb) ht (bD 1 .live bG an) (bD 1 .live bG dr) (bD 1 .fK bG bt) (.e1 (bD 1 .live bG b6))))))))
  (fun bV =>
  .ret (bi (t1.append [.af false,.a0 [0,1,2,3] [.pure,.pure,.pure,.pure] (bf [8,9,10,11,12,13,15])]) (aO.aC (.dM bV (bD 1 .live bG an) (bD 1 .live bG dr) (bD 1 .fK bG bt) (bD 1 .live bG b6)))))))
theorem J6 {cP:Nat} {dW:Nat} {bd:Int} {cL:Int} {an:(List Int)} {dr:(List Int)} {bt:(List Int)} {b6:(List Int)} {jI:Int} {dd:Int} {r} (h:Ae cP dW bd cL an dr bt b6 jI dd=some r):dJ a2 172 0 97 [1,1,1,1,1,1,1,1,0,1,0,0,1,0,0,1,1,0,0,0] (zp cP dW bd cL an dr bt b6) (zD cP dW bd cL an dr bt b6) (jI,dd) r:=dK (fun _=>IQ) h
def zq (cP:Nat) (dW:Nat) (bd:Int) (an:(List Int)) (bt:(List Int)):(Int×(List Int)×(List Int))→S:=fun (cL,dr,b6)=>c6 [(8,.aV 0 0 0 an.length),(9,.aV 1 0 0 cP),(10,.aV 2 0 0 dW),(11,.n .i64 bd),(12,.aV 3 0 0 b6.length),(13,.n .i64 cL)] [[ae.mk 1 (an.map U) .live],[ae.mk 1 (dr.map U) .live],[ae.mk 1 (bt.map U) .fK],[ae.mk 1 (b6.map U) .live]]
def zE (cP:Nat) (dW:Nat) (bd:Int) (an:(List Int)) (bt:(List Int)):((List Int)×(List Int))→dc
 | a=>⟨some 2,[(8,.aV 0 0 0 an.length),(9,.aV 1 0 0 cP),(12,.aV 2 0 0 a.2.length)],[[ae.mk 1 (an.map U) .live],[ae.mk 1 (a.1.map U) .live],[ae.mk 1 (a.2.map U) .live]]⟩
def n8 (cP:Nat) (dW:Nat) (bd:Int) (an:(List Int)) (bt:(List Int)) (cL:Int) (dr:(List Int)) (b6:(List Int)):Option ((Int×(List Int)×(List Int))⊕((List Int)×(List Int))) :=
 if (decide ((0:Int)≤cL))=true then
  if 0≤(ab (cL+bd))∧(ab (cL+bd))<(cP:Nat) then
  dr[(0+(ab (cL+bd)).toNat)]? >>= fun al =>
  if 0≤(ab ((ab (cL+bd))-(1:Int)))∧(ab ((ab (cL+bd))-(1:Int)))<(cP:Nat) then
  dr[(0+(ab ((ab (cL+bd))-(1:Int))).toNat)]? >>= fun bP =>
  if 0≤(ab (bd-(1:Int)))∧(ab (bd-(1:Int)))<(dW:Nat) then
  bt[(0+(ab (bd-(1:Int))).toNat)]? >>= fun dT =>
  if dT≠0 then
  Ae cP dW bd cL an dr bt b6 (ab ((ab ((ab (al*(1000000000:Int)))+bP)).tdiv dT)) ((ab ((ab (al*(1000000000:Int)))+bP)).tmod dT) >>= fun fq =>
  if 0≤cL then
  if cL.toNat≤cP then
  if 0+dW≤bt.length then
  sw ((bt.drop 0).take dW) fq (0+cL.toNat) (cP-cL.toNat) dr >>= fun dO =>
  if dO.1=true then
   qq ((bt.drop 0).take dW) (0+cL.toNat) (cP-cL.toNat) dO.2 >>= fun nz =>
   if 0≤cL∧cL<(b6.length:Nat) then
   if (0+cL.toNat)<b6.length then
   some (.inl (ab (cL-(1:Int)),nz,b6.set (0+cL.toNat) (ab (fq-(1:Int)))))
   else none
   else none
  else
   if 0≤cL∧cL<(b6.length:Nat) then
   if (0+cL.toNat)<b6.length then
   some (.inl (ab (cL-(1:Int)),dO.2,b6.set (0+cL.toNat) fq))
   else none
   else none
  else none
  else none
  else none
  else none
  else none
  else none
  else none
 else
  some (.inr (dr,b6))
def Af (cP:Nat) (dW:Nat) (bd:Int) (an:(List Int)) (bt:(List Int)) (cL:Int) (dr:(List Int)) (b6:(List Int)):Option ((List Int)×(List Int)):=iter (fun w:Int×(List Int)×(List Int)=>n8 cP dW bd an bt w.1 w.2.1 w.2.2) (cL,dr,b6)
theorem IR {cP:Nat} {dW:Nat} {bd:Int} {an:(List Int)} {bt:(List Int)} {cL:Int} {dr:(List Int)} {b6:(List Int)}:bm (n8 cP dW bd an bt cL dr b6) (dI a2 172 0 97 [1,1,1,1,1,1,1,1,0,1,0,0] (zq cP dW bd an bt (cL,dr,b6)) (zq cP dW bd an bt) (zE cP dW bd an bt)):=by
 unfold n8
 exact .ite (fun h1 =>
  .bu fun R =>
  .aJ fun al ax =>
  .bu fun aM =>
  .aJ fun bP a5 =>
  .bu fun bV =>
  .aJ fun dT df =>
  .bu fun eb =>
  .aJ fun fq e9 =>
  .bu fun eI =>
  .bu fun hK =>
  .bu fun jT =>
  .aJ fun dO iR =>
  (let t1:List bx:=[.J (o 2 []),.af true,.J (o 5 (aj (.bQ (U al)) (o 7 (aj (.bQ (U bP)) (o 2 []))))),.J (o 5 (aj (.bQ (U dT)) (o 6 (aj (.bQ (U dT)) (o 3 []))))),.a0 [0,1,2,3] [.pure,.pure,.pure,.pure] (bf [8,9,10,11,12,13,15,16]),(zD cP dW bd cL an dr bt b6 fq).eU,.J (o 5 (aj (.call {aA:=[.row 1],bR:=[.pure],ac:=[ii,.bI (.cb (.db (((bt.drop 0).take dW).map U))),ii],r:= .b dO.1,cC:=[[ae.mk 1 (dO.2.map U) .live]],dE:=ii,d9:=[.pure],cK:=[1,2],cH:=false}) []))];
  have aO:=((.br h1 R.1 R.2 (cm U ax) aM.1 aM.2 (cm U a5) bV.1 (.br bV.2 (cm U df) eb bV.1 bV.2 (cm U df) eb (bD 1 .live bG an) (.br (bD 1 .live bG dr) (bD 1 .fK bG bt) (bD 1 .live bG b6) (J6 e9) eI hK (Nat.le_refl cP) (mz (aT U bt) 0 dW) (.dM (lg (aT U bt) jT) (cM bG ((bt.drop 0).take dW)) (eR 1 bG dr) (eR 1 bG dO.2) (Kp dO iR))))):b2 _);
  .ite (fun dY =>
  .aJ fun nz gR =>
  .bu fun hJ =>
  .bu fun iQ =>
  .ret (bi (t1.append [.af true,.J (o 3 []),.J (o 4 (aj (.call {aA:=[.row 1],bR:=[.pure],ac:=[ii,.bI (.cb (.db (((bt.drop 0).take dW).map U)))],r:= .cy [],cC:=[[ae.mk 1 (nz.map U) .live]],dE:=ii,d9:=[.pure],cK:=[1,2],cH:=false}) [])),.J (o 4 (aj .fr [])),.J (o 3 []),.a0 [0,1,2,3] [.pure,.pure,.pure,.dP [ae.mk 1 ((b6.set (0+cL.toNat) (ab (fq-(1:Int)))).map U) .live]] [(8,ii),(9,ii),(10,ii),(11,ii),(12,fV ((b6.set (0+cL.toNat) (ab (fq-(1:Int)))).length)),(13,ii)]]) (aO.aC (.br dY eI hK (Nat.le_refl cP) (mz (aT U bt) 0 dW) (lg (aT U bt) jT) (cM bG ((bt.drop 0).take dW)) (eR 1 bG dO.2) (.br (eR 1 bG nz) (Kq nz gR) hJ.1 hJ.2 (i4 U iQ) (i3 1) (bD 1 .live bG an) (bD 1 .live bG nz) (.cI (bD 1 .fK bG bt) (eA 1 .live (im (aT U b6) (0+cL.toNat) (ab (fq-(1:Int))))) (bD 1 .live bG (b6.set (0+cL.toNat) (ab (fq-(1:Int))))) (gU (bw b6) (0+cL.toNat) (ab (fq-(1:Int))))))))))
  (fun dY =>
  .bu fun e4 =>
  .bu fun gR =>
  .ret (bi (t1.append [.af false,.J (o 4 (aj .fr [])),.J (o 3 []),.a0 [0,1,2,3] [.pure,.pure,.pure,.dP [ae.mk 1 ((b6.set (0+cL.toNat) fq).map U) .live]] [(8,ii),(9,ii),(10,ii),(11,ii),(12,fV ((b6.set (0+cL.toNat) fq).length)),(13,ii)]]) (aO.aC (.br dY e4.1 e4.2 (i4 U gR) (i3 1) (bD 1 .live bG an) (bD 1 .live bG dO.2) (bD 1 .fK bG bt) (.bp (eA 1 .live (im (aT U b6) (0+cL.toNat) fq)) (bD 1 .live bG (b6.set (0+cL.toNat) fq)) (gU (bw b6) (0+cL.toNat) fq))))))))
  (fun h1 =>
  .ret (bi [.J (o 2 []),.af false,.a0 [0,1,3] [.pure,.pure,.pure] (bf [8,9,12])] (.cI h1 (bD 1 .live bG an) (bD 1 .live bG dr) (bD 1 .live bG b6))))
theorem J7 {cP:Nat} {dW:Nat} {bd:Int} {an:(List Int)} {bt:(List Int)} {cL:Int} {dr:(List Int)} {b6:(List Int)} {r} (h:Af cP dW bd an bt cL dr b6=some r):dJ a2 172 0 97 [1,1,1,1,1,1,1,1,0,1,0,0] (zq cP dW bd an bt) (zE cP dW bd an bt) (cL,dr,b6) r:=dK (fun _=>IR) h
def sM (aa:(List Int)) (aw:(List Int)):Option ((List Int)×(List Int)) :=
 nd aa aw >>= fun r1 =>
 if (decide (r1<(0:Int)))=true then
  sX aa >>= fun bg =>
  some (([]:List Int),bg)
 else
  if ((len_ U aw) == (1:Int))=true then
   if 0≤(0:Int)∧(0:Int)<aw.length then
   aw[0]? >>= fun bP =>
   qc aa bP >>= fun en =>
   qi (IntKind.wrap .u64 en.2) >>= fun ff =>
   some (en.1,ff)
   else none
  else
   if 0≤(ab ((len_ U aw)-(1:Int)))∧(ab ((len_ U aw)-(1:Int)))<aw.length then
   aw[(ab ((len_ U aw)-(1:Int))).toNat]? >>= fun bP =>
   if (ab (bP+(1:Int)))≠0 then
   qj aa ([ab ((1000000000:Int).tdiv (ab (bP+(1:Int))))]:List Int) >>= fun aE =>
   if aE.1≤aE.2.length then
   if (aE.2.take aE.1++([0]:List Int)).length*8≤140737488355328 then
   qj aw ([ab ((1000000000:Int).tdiv (ab (bP+(1:Int))))]:List Int) >>= fun ek =>
   vn aa ek.1 ([ab ((1000000000:Int).tdiv (ab (bP+(1:Int))))]:List Int) ek.2 (aE.2.take aE.1++([0]:List Int)) >>= fun e2 =>
   if 0≤(ab (((e2.length:Nat):Int)-((ek.1:Nat):Int)))∧(8:Int)*(ab (((e2.length:Nat):Int)-((ek.1:Nat):Int)))≤281474976710656∧(ab (((e2.length:Nat):Int)-((ek.1:Nat):Int)))<9223372036854775808 then
   Af e2.length ek.1 ((ek.1:Nat):Int) ([ab ((1000000000:Int).tdiv (ab (bP+(1:Int))))]:List Int) ek.2 (ab ((ab (((e2.length:Nat):Int)-((ek.1:Nat):Int)))-(1:Int))) e2 (List.replicate (ab (((e2.length:Nat):Int)-((ek.1:Nat):Int))).toNat 0:List Int) >>= fun kw =>
   if 0+e2.length≤kw.1.length then
   oz ((kw.1.drop 0).take e2.length) >>= fun iA =>
   if 0≤(0:Int)∧(0:Int)<(([ab ((1000000000:Int).tdiv (ab (bP+(1:Int))))]:List Int).length:Nat) then
   ([ab ((1000000000:Int).tdiv (ab (bP+(1:Int))))]:List Int)[0]? >>= fun BV =>
   qc iA BV >>= fun t0 =>
   oz kw.2 >>= fun w4 =>
   some (w4,t0.1)
   else none
   else none
   else none
   else none
   else none
   else none
   else none
theorem KV {aa:(List Int)} {aw:(List Int)}:bm (sM aa aw) (fun r=>Con a2 97 [.isl 1 (aa.map U),.isl 1 (aw.map U)] [] (.cy [.isl 1 (r.1.map U),.isl 1 (r.2.map U)]) []):=by
 unfold sM
 exact .aJ fun r1 R =>
  (let t1:List bx:=[.J (o 2 []),.J (o 2 (aj (bM 2 (.n .i64 r1) true) (o 1 [])))];
  have aO:=((.az (u7 r1 R) (a1.n .i64 r1)):b2 _);
  .ite (fun ai =>
  .aJ fun bg aM =>
  .ret (a8 (t1.append [.af true,.J (o 1 (aj (bM 1 (.isl 1 (bg.map U)) false) (o 2 [])))]) (aO.aC (.az ai (Lz bg aM))) (.comp [.cb (.gE 1),.cb .id])))
  (fun ai =>
  .ite (fun ax =>
  .bu fun aM =>
  .aJ fun bP a5 =>
  .aJ fun en dv =>
  .aJ fun ff eb =>
  .ret (a8 (t1.append [.af false,.J (o 3 []),.af true,.J (o 3 (aj (.bQ (U bP)) (aj (bM 2 (.cy [.isl 1 (en.1.map U),.n .i64 en.2]) false) (o 5 [])))),.J (o 3 (aj (bM 1 (.isl 1 (ff.map U)) false) (o 2 [])))]) (aO.aC (.eQ ai ax aM.1 (c9 U aM.2) (cm U a5) (Dl en dv) (Dy ff eb)))))
  (fun ax =>
  .bu fun aM =>
  .aJ fun bP a5 =>
  .bu fun bV =>
  .aJ fun aE df =>
  .bu fun eb =>
  .bu fun ht =>
  .aJ fun ek eI =>
  .aJ fun e2 jT =>
  .bu fun rm =>
  .aJ fun kw dY =>
  .bu fun e4 =>
  .aJ fun iA hJ =>
  .bu fun iQ =>
  .aJ fun BV pc =>
  .aJ fun t0 O6 =>
  .aJ fun w4 O7 =>
  .ret (a8 (t1.append [.af false,.J (o 3 []),.af false,.J (o 5 (aj (.bQ (U bP)) (o 4 []))),.J (o 2 (aj (.call {aA:=[],bR:=[],ac:=[ii,.bI (.cb (.db (([ab ((1000000000:Int).tdiv (ab (bP+(1:Int))))]:List Int).map U)))],r:= .aV 0 0 0 aE.1,cC:=[[ae.mk 1 (aE.2.map U) .live]],dE:=ii,d9:=[.pure],cK:=[17],cH:=true}) (o 1 (aj (.aC ((aE.2.take aE.1++([0]:List Int)).length)) (o 2 (aj (.call {aA:=[],bR:=[],ac:=[ii,.bI (.cb (.db (([ab ((1000000000:Int).tdiv (ab (bP+(1:Int))))]:List Int).map U)))],r:= .aV 0 0 0 ek.1,cC:=[[ae.mk 1 (ek.2.map U) .live]],dE:=ii,d9:=[.pure],cK:=[17],cH:=true}) (o 2 []))))))),.a0 [17,23,26] [.dP [ae.mk 1 (([ab ((1000000000:Int).tdiv (ab (bP+(1:Int))))]:List Int).map U) .live],.dP [ae.mk 1 ((aE.2.take aE.1++([0]:List Int)).map U) .live],.pure] [(0,ii),(8,fV (([ab ((1000000000:Int).tdiv (ab (bP+(1:Int))))]:List Int).length)),(9,ii),(10,ii)],(zC aa ek.1 ([ab ((1000000000:Int).tdiv (ab (bP+(1:Int))))]:List Int) ek.2 e2).eU,.J (o 3 []),.J (o 6 []),.J (o 6 []),.a0 [0,1,2,10] [.pure,.pure,.pure,.dP [ae.mk 1 ((List.replicate (ab (((e2.length:Nat):Int)-((ek.1:Nat):Int))).toNat 0:List Int).map U) .live]] [(8,ii),(9,ii),(10,ii),(11,ii),(12,fV ((List.replicate (ab (((e2.length:Nat):Int)-((ek.1:Nat):Int))).toNat 0:List Int).length)),(13,ii)],.fK 2,.a0 [0,1,2,3] [.pure,.pure,.pure,.pure] (bf [8,9,10,11,12,13]),(zE e2.length ek.1 ((ek.1:Nat):Int) ([ab ((1000000000:Int).tdiv (ab (bP+(1:Int))))]:List Int) ek.2 kw).eU,.fK 1,.J (o 1 (aj (.call {ac:=[.bI (.cb (.db (((kw.1.drop 0).take e2.length).map U)))],r:= .isl 1 (iA.map U),cH:=false,cK:=[1]}) (o 2 (aj (.bQ (U BV)) (aj (bM 2 (.cy [.isl 1 (t0.1.map U),.n .i64 t0.2]) false) (o 5 [])))))),.fK 2,.J (o 1 (aj (.call {ac:=[.bI (.cb (.db (kw.2.map U)))],r:= .isl 1 (w4.map U),cH:=false,cK:=[2]}) (o 3 [])))]) (aO.aC (.br ai ax aM.1 (c9 U aM.2) (cm U a5) bV (d7 (show [[.n .i64 (ab ((1000000000:Int).tdiv (ab (bP+(1:Int)))))]]=(([ab ((1000000000:Int).tdiv (ab (bP+(1:Int))))]:List Int)).map U from rfl) (show 1=([ab ((1000000000:Int).tdiv (ab (bP+(1:Int))))]:List Int).length from rfl)) (cY (show [[.n .i64 (ab ((1000000000:Int).tdiv (ab (bP+(1:Int)))))]]=(([ab ((1000000000:Int).tdiv (ab (bP+(1:Int))))]:List Int)).map U from rfl) (show 1=([ab ((1000000000:Int).tdiv (ab (bP+(1:Int))))]:List Int).length from rfl)) (.br (cM bG ([ab ((1000000000:Int).tdiv (ab (bP+(1:Int))))]:List Int)) (eR 1 bG aE.2) (DA aE df) (a1.aV 0 0 0 aE.1) ((gw (eV (eS km) hR) gx):fE [[ae.mk 1 (aE.2.map U) .live]]) (cY (show [[.n .i64 (0:Int)]]=(([0]:List Int)).map U from rfl) (show 1=([0]:List Int).length from rfl)) (lg (aT U aE.2) eb) (MK eb (ia (show [[.n .i64 (0:Int)]]=(([0]:List Int)).map U from rfl) (show 1=([0]:List Int).length from rfl)):(aE.2.take aE.1++([0]:List Int)).length=aE.1+(([[.n .i64 (0:Int)]].drop 0).take 1).length) (.br ht (d7 (show [[.n .i64 (ab ((1000000000:Int).tdiv (ab (bP+(1:Int)))))]]=(([ab ((1000000000:Int).tdiv (ab (bP+(1:Int))))]:List Int)).map U from rfl) (show 1=([ab ((1000000000:Int).tdiv (ab (bP+(1:Int))))]:List Int).length from rfl)) (cY (show [[.n .i64 (ab ((1000000000:Int).tdiv (ab (bP+(1:Int)))))]]=(([ab ((1000000000:Int).tdiv (ab (bP+(1:Int))))]:List Int)).map U from rfl) (show 1=([ab ((1000000000:Int).tdiv (ab (bP+(1:Int))))]:List Int).length from rfl)) (cM bG ([ab ((1000000000:Int).tdiv (ab (bP+(1:Int))))]:List Int)) (eR 1 bG ek.2) (DA ek eI) (a1.aV 0 0 0 ek.1) ((gw (eV (eS km) hR) gx):fE [[ae.mk 1 (ek.2.map U) .live]]) (.br (eA 1 .live (show [[.n .i64 (ab ((1000000000:Int).tdiv (ab (bP+(1:Int)))))]]=(([ab ((1000000000:Int).tdiv (ab (bP+(1:Int))))]:List Int)).map U from rfl)) (bD 1 .live bG ([ab ((1000000000:Int).tdiv (ab (bP+(1:Int))))]:List Int)) (eA 1 .live (MJ (aT U aE.2) aE.1 (ia (show [[.n .i64 (0:Int)]]=(([0]:List Int)).map U from rfl) (show 1=([0]:List Int).length from rfl)))) (bD 1 .live bG (aE.2.take aE.1++([0]:List Int))) (bD 1 .live bG ek.2) (show 1=([ab ((1000000000:Int).tdiv (ab (bP+(1:Int))))]:List Int).length from rfl) (J5 jT) rm.1 (.br (Int.le_refl (ab (((e2.length:Nat):Int)-((ek.1:Nat):Int)))) rm.2.1 rm.2.2 (bD 1 .live bG ([ab ((1000000000:Int).tdiv (ab (bP+(1:Int))))]:List Int)) (bD 1 .live bG e2) (bD 1 .live bG ek.2) (eA 1 .live (lA U (ab (((e2.length:Nat):Int)-((ek.1:Nat):Int))).toNat 0)) (bD 1 .live bG (List.replicate (ab (((e2.length:Nat):Int)-((ek.1:Nat):Int))).toNat 0:List Int)) (.br (lB (ab (((e2.length:Nat):Int)-((ek.1:Nat):Int))).toNat (0:Int)) (bD 1 .live bG ([ab ((1000000000:Int).tdiv (ab (bP+(1:Int))))]:List Int)) (bD 1 .live bG e2) (bD 1 .fK bG ek.2) (bD 1 .live bG (List.replicate (ab (((e2.length:Nat):Int)-((ek.1:Nat):Int))).toNat 0:List Int)) (J7 dY) (mz (aT U kw.1) 0 e2.length) (lg (aT U kw.1) e4) (.br (cM bG ((kw.1.drop 0).take e2.length)) (Ad iA hJ) iQ.1 iQ.2 (cm U pc) (Dl t0 O6) (d7 (aT U kw.2) (bw kw.2)) (cY (aT U kw.2) (bw kw.2)) (.az (cM bG kw.2) (Ad w4 O7))))))))))))))
def yy:((List Int)×(List Int))→S:=fun (aa,aw)=>c6 [(0,.isl 1 (aa.map U)),(1,.isl 1 (aw.map U))] []
def yW:(List Int)→dc
 | a=>⟨some 0,[(0,.isl 1 (a.map U))],[]⟩
def pR (aa:(List Int)) (aw:(List Int)):Option (((List Int)×(List Int))⊕((List Int))) :=
 if (decide ((0:Int)<(len_ U aw)))=true then
  sM aa aw >>= fun bj =>
  some (.inl (aw,bj.2))
 else
  some (.inr aa)
def zP (aa:(List Int)) (aw:(List Int)):Option ((List Int)):=iter (fun w:(List Int)×(List Int)=>pR w.1 w.2) (aa,aw)
theorem Ic {aa:(List Int)} {aw:(List Int)}:bm (pR aa aw) (dI a2 19 0 88 [1,0,0,0] (yy (aa,aw)) (yy) (yW)):=by
 unfold pR
 exact .ite (fun h1 =>
  .aJ fun bj ai =>
  .ret (bi [.J (o 3 []),.af true,.J (o 2 (aj (bM 2 (.cy [.isl 1 (bj.1.map U),.isl 1 (bj.2.map U)]) false) (o 5 []))),.J (o 4 []),.a0 [] [] (bf [0,1])] (.az h1 (KV bj ai))))
  (fun h1 =>
  .ret (bi [.J (o 3 []),.af false,.a0 [] [] (bf [0])] (.e1 h1)))
theorem Jh {aa:(List Int)} {aw:(List Int)} {r} (h:zP aa aw=some r):dJ a2 19 0 88 [1,0,0,0] (yy) (yW) (aa,aw) r:=dK (fun _=>Ic) h
def sj (aa:(List Int)) (aw:(List Int)):Option (List Int) :=
 zP aa aw >>= fun r1 =>
 some r1
theorem J8 {aa:(List Int)} {aw:(List Int)}:bm (sj aa aw) (fun r=>Con a2 88 [.isl 1 (aa.map U),.isl 1 (aw.map U)] [] (.isl 1 (r.map U)) []):=by
 unfold sj
 exact .aJ fun r1 R =>
  .ret (a8 [.J (o 1 []),.a0 [] [] (bf [0,1]),(yW r1).eU,.J (o 2 [])] (.e1 (Jh R)))
def sE (dn:cD):Option Bool :=
 r8 dn.ch >>= fun r1 =>
 if r1=true then
  ov dn.cv >>= fun bg =>
  if bg=true then
   if ((len_ U dn.cv) == (0:Int))=true then
    some false
   else
    if (decide ((24:Int)<(len_ U dn.ch.cn)))=true then
     some false
    else
     if (decide ((24:Int)<(len_ U dn.cv)))=true then
      some false
     else
      sj dn.ch.cn dn.cv >>= fun ff =>
      nd ff ([1]:List Int) >>= fun fq =>
      some (fq == (0:Int))
  else
   some false
 else
  some false
theorem KC {dn:cD}:bm (sE dn) (fun r=>Con a2 83 [.agg [.b dn.ch.fo,.isl 1 (dn.ch.cn.map U),.isl 1 (dn.cv.map U)]] [] (.b r) []):=by
 unfold sE
 exact .aJ fun r1 R =>
  (have bz:=((.az (JN r1 R) (a1.b r1)):b2 _);
  .ite (fun ai =>
  .aJ fun bg aM =>
  (have aO:=bz.aC (.eQ (bE ai) (bE ai) (bE ai) (DM bg aM) (a1.b bg) (bE ai) (bE ai));
  .ite (fun ba =>
  (have eJ:=aO.aC (.dM (bE ba) (bE ba) (bE ba) (bE ba) (bE ba));
  .ite (fun a5 =>
  .ret (a8 [.J (o 2 []),.J (o 2 (aj (bM 1 (.b r1) true) (o 4 (aj (bM 1 (.b bg) true) (o 1 (aj (.af false) (o 5 (aj (.af false) (o 1 (cc 5 (aj (.af true) (o 1 (cc 4 (o 1 [])))))))))))))),.af true,.J (o 1 [])] (eJ.aC (.br a5 a5 a5 a5 a5 a5 bF bF (.bp bF bF bF)))))
  (fun a5 =>
  .ite (fun bV =>
  .ret (a8 [.J (o 2 []),.J (o 2 (aj (bM 1 (.b r1) true) (o 4 (aj (bM 1 (.b bg) true) (o 1 (aj (.af false) (o 5 (aj (.af false) (o 6 (aj (.af false) (o 1 (cc 4 (aj (.af true) []))))))))))))),.af true,.J (o 1 [])] (eJ.aC (.br a5 a5 a5 a5 a5 a5 bV bV (.cI bV bV bV bF)))))
  (fun bV =>
  (let t4:List bx:=[.J (o 2 []),.J (o 2 (aj (bM 1 (.b r1) true) (o 4 (aj (bM 1 (.b bg) true) (o 1 (aj (.af false) (o 5 (aj (.af false) (o 6 (aj (.af false) (o 5 (aj (.af false) []))))))))))))];
  have jF:=eJ.aC (.br a5 a5 a5 a5 a5 a5 bV bV (.bp bV bV bV));
  .ite (fun dv =>
  .ret (a8 (t4.append [.af true,.J (o 1 [])]) (jF.aC (.e1 dv))))
  (fun dv =>
  .aJ fun ff eb =>
  .aJ fun fq e9 =>
  .ret (a8 (t4.append [.af false,.J (o 5 (aj (bM 2 (.isl 1 (ff.map U)) false) (o 1 (aj (.call {ac:=[ii,.bI (.cb (.db (([1]:List Int).map U)))],r:= .n .i64 fq,cH:=true,cK:=[37]}) (o 2 [])))))]) (jF.aC (.eQ dv (J8 ff eb) (d7 (show [[.n .i64 (1:Int)]]=(([1]:List Int)).map U from rfl) (show 1=([1]:List Int).length from rfl)) (cY (show [[.n .i64 (1:Int)]]=(([1]:List Int)).map U from rfl) (show 1=([1]:List Int).length from rfl)) (cM bG ([1]:List Int)) (u7 fq e9) (a1.n .i64 fq))))))))))
  (fun ba =>
  .ret (a8 [.J (o 2 []),.J (o 2 (aj (bM 1 (.b r1) true) (o 4 (aj (bM 1 (.b bg) true) (o 1 (aj (.af false) (o 1 (cc 4 (aj (.af true) (o 1 (cc 5 (o 2 (cc 4 (o 1 [])))))))))))))),.af true,.J (o 1 [])] (aO.aC (.br (bS ba) (bS ba) (bS ba) (bS ba) (bS ba) bF bF bF (.eQ bF bF bF bF bF bF bF)))))))
  (fun ai =>
  .ret (a8 [.J (o 2 []),.J (o 2 (aj (bM 1 (.b r1) true) (o 2 (cc 4 (aj (.af true) (o 1 (cc 4 (o 2 (cc 5 (o 2 (cc 4 (o 1 [])))))))))))),.af true,.J (o 1 [])] (bz.aC (.br (bS ai) (bS ai) (bS ai) (bS ai) (bS ai) bF bF bF (.br bF bF bF bF bF bF bF bF (.bp bF bF bF)))))))
def my (dn:cD):Option (Option et) :=
 sE dn >>= fun r1 =>
 if r1=true then
  some (some (⟨dn.ch,dn.cv⟩:et))
 else
  some (none:(Option et))
theorem KW {dn:cD}:bm (my dn) (fun r=>Con a2 75 [.agg [.b dn.ch.fo,.isl 1 (dn.ch.cn.map U),.isl 1 (dn.cv.map U)]] [] (lx 3 eK r) []):=by
 unfold my
 exact .aJ fun r1 R =>
  (let t1:List bx:=[.J (o 2 []),.J (o 1 (aj (bM 1 (.b r1) true) (o 1 [])))];
  have aO:=((.az (KC r1 R) (a1.b r1)):b2 _);
  .ite (fun ai =>
  .ret (a8 (t1.append [.af false,.J (o 7 [])]) (aO.aC (.az (bE ai) (AD (rZ (⟨dn.ch,dn.cv⟩:et)):hS [[.b dn.ch.fo,.isl 1 (dn.ch.cn.map U),.isl 1 (dn.cv.map U)]]))) (.bI (.wt [.id,.id,.id]))))
  (fun ai =>
  .ret (a8 (t1.append [.af true,.J (o 1 [])]) (aO.aC (.e1 (bS ai))) (.bI (.cb (.xi 3))))))
def zc (d8:(List cD)) (gH:Int):(Int×(List (Option et)))→S:=fun (dL,an)=>c6 [(4,.aV 0 0 0 an.length),(10,.isl 3 (d8.map eTRat)),(11,.n .i64 gH),(12,.n .i64 dL)] [[ae.mk 1 (an.map (fZ 3 eK)) .live]]
def zr (d8:(List cD)) (gH:Int):(((List (Option et)))⊕(Unit))→dc
 | .inl a=>⟨some 0,[(4,.aV 0 0 0 a.length)],[[ae.mk 1 (a.map (fZ 3 eK)) .live]]⟩
 | .inr a=>⟨none,[(2,.cT),(3,.b false)],[]⟩
def p5 (d8:(List cD)) (gH:Int) (dL:Int) (an:(List (Option et))):Option ((Int×(List (Option et)))⊕(((List (Option et)))⊕(Unit))) :=
 if (decide (dL<gH))=true then
  if 0≤dL∧dL<d8.length then
  d8[dL.toNat]? >>= fun al =>
  my al >>= fun aZ =>
  if 0≤dL∧dL<(an.length:Nat) then
  if (0+dL.toNat)<an.length then
  (an.set (0+dL.toNat) aZ)[(0+dL.toNat)]? >>= fun dT =>
  dT.elim
  (some (.inr (.inr ())))
  fun jU =>
  some (.inl (ab (dL+(1:Int)),an.set (0+dL.toNat) aZ))
  else none
  else none
  else none
 else
  some (.inr (.inl an))
def Aa (d8:(List cD)) (gH:Int) (dL:Int) (an:(List (Option et))):Option (((List (Option et)))⊕(Unit)):=iter (fun w:Int×(List (Option et))=>p5 d8 gH w.1 w.2) (dL,an)
theorem IE {d8:(List cD)} {gH:Int} {dL:Int} {an:(List (Option et))}:bm (p5 d8 gH dL an) (dI a2 29 0 56 [1,1,0,1,0,0] (zc d8 gH (dL,an)) (zc d8 gH) (zr d8 gH)):=by
 unfold p5
 exact .ite (fun h1 =>
  .bu fun R =>
  .aJ fun al ax =>
  .aJ fun aZ ba =>
  .bu fun a5 =>
  .bu fun bV =>
  .aJ fun dT df =>
  (let t1:List bx:=[.J (o 1 []),.af true,.J (o 2 (aj (.bQ (eTRat al)) (o 3 []))),.J (o 3 (aj (bM 1 (lx 3 eK aZ) false) (o 1 (aj .fr []))))];
  have aO:=((.br h1 R.1 (c9 eTRat R.2) (cm eTRat ax) (KW aZ ba) a5.1 a5.2 (i4 (fZ 3 eK) bV) (.cI (i3 1) a5.1 a5.2 (iE (im (aT (fZ 3 eK) an) (0+dL.toNat) aZ) df))):b2 _);
  .w1 (fun eb =>
  .ret (bi (t1.append [.J (o 3 (aj (.bQ ((fZ 3 eK) dT)) (aj (.kf 25 (.fT 3 none) .fr) []))),.af true,.J (o 2 []),.a0 [] [] (bf [2,3])]) (aO.aC (.az (O3 (sz:=3) (f:=eK) eb) bF))))
  (fun jU eb =>
  .ret (bi (t1.append [.J (o 3 (aj (.bQ ((fZ 3 eK) dT)) (aj (.kf 25 (.fT 3 (some (eK jU))) .fr) []))),.af false,.J (o 2 []),.a0 [0] [.dP [ae.mk 1 ((an.set (0+dL.toNat) aZ).map (fZ 3 eK)) .live]] [(4,fV ((an.set (0+dL.toNat) aZ).length)),(10,ii),(11,ii),(12,ii)]]) (aO.aC (.dM (w2 (sz:=3) (f:=eK) eb) hg (eA 1 .live (im (aT (fZ 3 eK) an) (0+dL.toNat) aZ)) (bD 1 .live (vO (sz:=3) rZ) (an.set (0+dL.toNat) aZ)) (gU (bw an) (0+dL.toNat) aZ)))))))
  (fun h1 =>
  .ret (bi [.J (o 1 []),.af false,.a0 [0] [.pure] (bf [4])] (.az h1 (bD 1 .live (vO (sz:=3) rZ) an))))
theorem Dt {d8:(List cD)} {gH:Int} {dL:Int} {an:(List (Option et))} {r} (h:Aa d8 gH dL an=some r):dJ a2 29 0 56 [1,1,0,1,0,0] (zc d8 gH) (zr d8 gH) (dL,an) r:=dK (fun _=>IE) h
def ow (b7:(List cD)):Option ((List (Option et))×Bool) :=
 if 0≤(len_ eTRat b7)∧(8:Int)*(len_ eTRat b7)≤281474976710656∧(len_ eTRat b7)<9223372036854775808 then
 Aa b7 (len_ eTRat b7) 0 (List.replicate (len_ eTRat b7).toNat (none:(Option et)):List (Option et)) >>= fun bj =>
 match bj with
 | .inl ei=>(some (ei,true))
 | .inr ei=>(some (([]:List (Option et)),false))
 else none
theorem KD {b7:(List cD)}:bm (ow b7) (fun r=>Con a2 56 [.isl 3 (b7.map eTRat)] [] (.cy [.isl 1 (r.1.map (fZ 3 eK)),.b r.2]) []):=by
 unfold ow
 exact .bu fun h1 =>
  .aJ fun bj ai =>
  (let t1:List bx:=[.J (o 2 []),.J (o 2 (aj (.bQ [lx 3 eK (none:(Option et))]) (o 1 []))),.J (o 3 []),.a0 [4] [.dP [ae.mk 1 ((List.replicate (len_ eTRat b7).toNat (none:(Option et)):List (Option et)).map (fZ 3 eK)) .live]] [(4,fV ((List.replicate (len_ eTRat b7).toNat (none:(Option et)):List (Option et)).length)),(10,ii),(11,ii),(12,ii)]];
  have aO:=((.eQ h1.1 (Int.le_refl (len_ eTRat b7)) h1.2.1 h1.2.2 (eA 1 .live (lA (fZ 3 eK) (len_ eTRat b7).toNat (none:(Option et)))) (bD 1 .live (vO (sz:=3) rZ) (List.replicate (len_ eTRat b7).toNat (none:(Option et)):List (Option et))) (lB (len_ eTRat b7).toNat ((none:(Option et)):(Option et)))):b2 _);
  (by
  rcases bj with ei|ei
  ·exact (.ret (a8 (t1.append [(zr b7 (len_ eTRat b7) (.inl ei)).eU,.J (o 3 [])]) (aO.aC (.cI (Dt ai) (d7 (aT (fZ 3 eK) ei) (bw ei)) (cY (aT (fZ 3 eK) ei) (bw ei)) (cM (vO (sz:=3) rZ) ei))) (.comp [.cb (.db (ei.map (fZ 3 eK))),.cb .id])))
  ·exact (.ret (a8 (t1.append [.sub (.ret) [(2,.cT),(3,.b false)] []]) (aO.aC (.e1 (Dt ai))) (.comp [.cb (.gE 1),.cb .id])))))
def vo (cO:(List cD)) (bd:Int):Option ((List (Option et))×Bool) :=
 if ((len_ eTRat cO) != bd)=true then
  some (([]:List (Option et)),false)
 else
  ow cO >>= fun bj =>
  some (bj.1,bj.2)
theorem J9 {cO:(List cD)} {bd:Int}:bm (vo cO bd) (fun r=>Con a2 26 [.isl 3 (cO.map eTRat),.n .i64 bd] [] (.cy [.isl 1 (r.1.map (fZ 3 eK)),.b r.2]) []):=by
 unfold vo
 exact .ite (fun h1 =>
  .ret (a8 [.J (o 2 []),.J (o 4 []),.af true,.J (o 2 [])] (.e1 h1) (.comp [.cb (.gE 1),.cb .id])))
  (fun h1 =>
  .aJ fun bj ai =>
  .ret (a8 [.J (o 2 []),.J (o 4 []),.af false,.J (o 1 (aj (bM 1 (.cy [.isl 1 (bj.1.map (fZ 3 eK)),.b bj.2]) false) (o 4 [])))] (.az h1 (KD bj ai))))
def u9 (aQ:(List aB)):Option (Unit⊕(List aB)) :=
 if aQ.length*40≤140737488355328 then (match aQ with|[]=>some (.inl ())|x::l=>some (.inr (x::l))) else none
theorem Ju:Con a2 57 [.cT] [] (.isl 4 []) []:=a8 [.J (o 1 []),.J (o 2 []),.af true,.J (o 1 [])] (.e1 bF) (.bI (.cb (.gE 4)))
theorem Jv:Con a2 57 [.fp] [] (.isl 4 []) []:=by
 have h:=fun (h1:(([]:List aB)++([]:List aB)).length*40≤140737488355328)=>(a8 [.J (o 1 []),.J (o 2 []),.af false,.J (o 2 (aj (.aC ((([]:List aB)++([]:List aB)).length)) (o 1 [])))] (.eQ hg (jq (show []=(([]:List aB)).map au from rfl) (show 0=([]:List aB).length from rfl)) (jr (show 0=([]:List aB).length from rfl) (show ([]:List (List av))=([]:List aB).map au from rfl):(([]:List aB)++([]:List aB)).length=0+([]:List (List av)).length) h1 (d7 (hP (show []=(([]:List aB)).map au from rfl) (show 0=([]:List aB).length from rfl) (show ([]:List (List av))=([]:List aB).map au from rfl)) (bw (([]:List aB)++([]:List aB)))) (cY (hP (show []=(([]:List aB)).map au from rfl) (show 0=([]:List aB).length from rfl) (show ([]:List (List av))=([]:List aB).map au from rfl)) (bw (([]:List aB)++([]:List aB)))) (cM eh (([]:List aB)++([]:List aB)))) (.bI (.cb (.db ((([]:List aB)++([]:List aB)).map au)))):Con a2 57 [.fp] [] (.isl 4 []) [])
 exact h (by decide)
theorem Jw (x:aB) (l:List aB) (h1:(([]:List aB)++(x::l)).length*40≤140737488355328):Con a2 57 [.isl 4 ((x::l).map au)] [] (.aV 0 0 0 (([]:List aB)++(x::l)).length) [[ae.mk 4 ((([]:List aB)++(x::l)).map au) .live]]:=gQ [.J (o 1 []),.J (o 1 (aj .fr [])),.af false,.J (o 2 (aj (.aC ((([]:List aB)++(x::l)).length)) (o 1 [])))] [5] [.dP [ae.mk 4 ((([]:List aB)++(x::l)).map au) .live]] (.eQ (by simp:(x::l).map au≠[]) hg (jq (show []=(([]:List aB)).map au from rfl) (show 0=([]:List aB).length from rfl)) (jr (show 0=([]:List aB).length from rfl) (aT au (x::l)):(([]:List aB)++(x::l)).length=0+((x::l).map au).length) h1 (eA 4 .live (hP (show []=(([]:List aB)).map au from rfl) (show 0=([]:List aB).length from rfl) (aT au (x::l)))) (bD 4 .live eh (([]:List aB)++(x::l))))
theorem C9 {aQ:(List aB)}:bm (u9 aQ) (Sum.elim (fun _=>Con a2 57 [.isl 4 (aQ.map au)] [] (.isl 4 []) []) (fun a=>Con a2 57 [.isl 4 (aQ.map au)] [] (.aV 0 0 0 a.length) [[ae.mk 4 (a.map au) .live]])):=by
 unfold u9
 refine .bu fun h=> ?_
 cases aQ with
 | nil=>exact .ret (Con.fx Ju Jv)
 | cons x l =>
  have R:=Jw x l (by simpa using h)
  exact .ret (by simpa using R)
end Go.Proofs.YtmmbmjbpfklkcabGreat
