/- Lemmas, plain functions of the program, and what they answer. No condition. -/
import Derived.Test.YtmmbmjbpfklkcabGreatMC
namespace Go.Proofs.YtmmbmjbpfklkcabGreat
set_option linter.unusedVariables false
set_option linter.unusedSimpArgs false
open Go Go.VL
def zQ (aQ:(List Int)) (b7:Int) (cg:Int):Int→S:=fun cx=>c6 [(0,.isl 1 (aQ.map U)),(1,.n .i64 b7),(7,.n .i64 cg),(8,.n .i64 cx)] []
def DI (aQ:(List Int)) (b7:Int) (cg:Int):((Unit)⊕(Int))→dc
 | .inl a=>⟨some 0,[],[]⟩
 | .inr a=>⟨none,[(4,.n .i64 a)],[]⟩
def zR (aQ:(List Int)) (b7:Int) (cg:Int) (cx:Int):Option ((Int)⊕((Unit)⊕(Int))) :=
 if (decide (cx<cg))=true then
  if 0≤cx∧cx<aQ.length then
  aQ[cx.toNat]? >>= fun al =>
  if (b7 == al)=true then
   some (.inr (.inr cx))
  else
   some (.inl (ab (cx+(1:Int))))
  else none
 else
  some (.inr (.inl ()))
def vv (aQ:(List Int)) (b7:Int) (cg:Int) (cx:Int):Option ((Unit)⊕(Int)):=iter (fun w:Int=>zR aQ b7 cg w) cx
theorem Ji {aQ:(List Int)} {b7:Int} {cg:Int} {cx:Int}:bm (zR aQ b7 cg cx) (dI a2 19 0 76 [1,0,1,0,0] (zQ aQ b7 cg cx) (zQ aQ b7 cg) (DI aQ b7 cg)):=by
 unfold zR
 exact .ite (fun h1 =>
  .bu fun R =>
  .aJ fun al ax =>
  (let t1:List bx:=[.J (o 1 []),.af true,.J (o 2 []),.J (o 4 (aj (.bQ (U al)) (o 1 [])))];
  have aO:=((.cI h1 R.1 (c9 U R.2) (cm U ax)):b2 _);
  .ite (fun aM =>
  .ret (bi (t1.append [.af true,.J (o 2 []),.a0 [] [] (bf [4])]) (aO.aC (.e1 aM))))
  (fun aM =>
  .ret (bi (t1.append [.af false,.J (o 2 []),.a0 [] [] (bf [0,1,7,8])]) (aO.aC (.e1 aM))))))
  (fun h1 =>
  .ret (bi [.J (o 1 []),.af false,.a0 [] [] []] (.e1 h1)))
theorem DN {aQ:(List Int)} {b7:Int} {cg:Int} {cx:Int} {r} (h:vv aQ b7 cg cx=some r):dJ a2 19 0 76 [1,0,1,0,0] (zQ aQ b7 cg) (DI aQ b7 cg) cx r:=dK (fun _=>Ji) h
def vR (aQ:(List Int)) (b7:Int):Option Int :=
 vv aQ b7 (len_ U aQ) 0 >>= fun r1 =>
 match r1 with
 | .inl cw=>(some (-1))
 | .inr cw=>(some cw)
theorem LA {aQ:(List Int)} {b7:Int}:bm (vR aQ b7) (fun r=>Con a2 76 [.isl 1 (aQ.map U),.n .i64 b7] [] (.n .i64 r) []):=by
 unfold vR
 exact .aJ fun r1 R =>
  (let t1:List bx:=[.J (o 1 []),.J (o 3 []),.a0 [] [] (bf [0,1,7,8])];
  (by
  rcases r1 with cw|cw
  ·exact (.ret (a8 (t1.append [.sub (.exit 0) [] [],.J (o 1 [])]) (.e1 (DN R))))
  ·exact (.ret (a8 (t1.append [.sub (.ret) [(4,.n .i64 cw)] []]) (.e1 (DN R))))))
def qu (aQ:(List Int)) (b7:Int):Option Bool :=
 vR aQ b7 >>= fun r1 =>
 some (decide ((0:Int)≤r1))
theorem DO {aQ:(List Int)} {b7:Int}:bm (qu aQ b7) (fun r=>Con a2 58 [.isl 1 (aQ.map U),.n .i64 b7] [] (.b r) []):=by
 unfold qu
 exact .aJ fun r1 R =>
  .ret (a8 [.J (o 1 []),.J (o 2 (aj (bM 2 (.n .i64 r1) true) (o 2 [])))] (.az (LA r1 R) (a1.n .i64 r1)))
def xv (dU:(List Int)) (dQ:(List aN)) (eL:Int):(Int×(List aN))→S:=fun (ex,bt)=>c6 [(1,.isl 1 (dU.map U)),(4,.ref 0 0 0 0),(5,.ref 1 0 0 0),(13,.isl 3 (dQ.map ay)),(14,.n .i64 eL),(15,.n .i64 ex)] [[ae.mk 2 [[.cT,.cT]] .live],[ae.mk 2 [[.isl 4 (([]:List aB).map au),.aV 2 0 0 bt.length]] .live],[ae.mk 3 (bt.map ay) .live]]
def xy (dU:(List Int)) (dQ:(List aN)) (eL:Int):(List aN)→dc
 | a=>⟨some 0,[(4,.ref 0 0 0 0),(5,.ref 1 0 0 0)],[[ae.mk 2 [[.cT,.cT]] .live],[ae.mk 2 [[.isl 4 (([]:List aB).map au),.aV 2 0 0 a.length]] .live],[ae.mk 3 (a.map ay) .live]]⟩
def rD (dU:(List Int)) (dQ:(List aN)) (eL:Int) (ex:Int) (bt:(List aN)):Option ((Int×(List aN))⊕((List aN))) :=
 if (decide (ex<eL))=true then
  if 0≤ex∧ex<dQ.length then
  dQ[ex.toNat]? >>= fun al =>
  qu dU ex >>= fun aZ =>
  if aZ=true then
   some (.inl (ab (ex+(1:Int)),bt))
  else
   if (bt++([al]:List aN)).length*24≤140737488355328 then
   some (.inl (ab (ex+(1:Int)),bt++([al]:List aN)))
   else none
  else none
 else
  some (.inr bt)
def uP (dU:(List Int)) (dQ:(List aN)) (eL:Int) (ex:Int) (bt:(List aN)):Option ((List aN)):=iter (fun w:Int×(List aN)=>rD dU dQ eL w.1 w.2) (ex,bt)
theorem Hs {dU:(List Int)} {dQ:(List aN)} {eL:Int} {ex:Int} {bt:(List aN)}:bm (rD dU dQ eL ex bt) (dI a2 32 0 27 [1,1,0,1,0,0] (xv dU dQ eL (ex,bt)) (xv dU dQ eL) (xy dU dQ eL)):=by
 unfold rD
 exact .ite (fun h1 =>
  .bu fun R =>
  .aJ fun al ax =>
  .aJ fun aZ ba =>
  (let t1:List bx:=[.J (o 1 []),.af true,.J (o 2 (aj (.bQ (ay al)) (o 3 []))),.J (o 2 (aj (bM 2 (.b aZ) true) (o 1 [])))];
  have aO:=((.ez h1 R.1 (c9 ay R.2) (cm ay ax) (DO aZ ba) (a1.b aZ)):b2 _);
  .ite (fun a5 =>
  .ret (bi (t1.append [.af false,.J (o 2 []),.a0 [0,1,2] [.box [.id,.id],.box [.id,.id],.pure] (bf [1,4,5,13,14,15])]) (aO.aC (.az (bE a5) (bD 3 .live dl bt)))))
  (fun a5 =>
  .bu fun bV =>
  .ret (bi (t1.append [.af true,.J (o 4 (aj (.aC ((bt++([al]:List aN)).length)) (o 2 []))),.J (o 2 []),.a0 [0,1,18] [.box [.id,.id],.box [.id,.id],.dP [ae.mk 3 ((bt++([al]:List aN)).map ay) .live]] (bf [1,4,5,13,14,15])]) (aO.aC (.eQ (bS a5) (cY (show [[.n .i64 al.dg,.n .i64 al.c0,.n .i64 al.dq]]=(([al]:List aN)).map ay from rfl) (show 1=([al]:List aN).length from rfl)) (jq (aT ay bt) (bw bt)) (jr (bw bt) (ia (show [[.n .i64 al.dg,.n .i64 al.c0,.n .i64 al.dq]]=(([al]:List aN)).map ay from rfl) (show 1=([al]:List aN).length from rfl)):(bt++([al]:List aN)).length=bt.length+(([[.n .i64 al.dg,.n .i64 al.c0,.n .i64 al.dq]].drop 0).take 1).length) bV (eA 3 .live (hP (aT ay bt) (bw bt) (ia (show [[.n .i64 al.dg,.n .i64 al.c0,.n .i64 al.dq]]=(([al]:List aN)).map ay from rfl) (show 1=([al]:List aN).length from rfl)))) (bD 3 .live dl (bt++([al]:List aN)))))))))
  (fun h1 =>
  .ret (bi [.J (o 1 []),.af false,.a0 [0,1,2] [.box [.id,.id],.box [.id,.id],.pure] (bf [4,5])] (.az h1 (bD 3 .live dl bt))))
theorem HC {dU:(List Int)} {dQ:(List aN)} {eL:Int} {ex:Int} {bt:(List aN)} {r} (h:uP dU dQ eL ex bt=some r):dJ a2 32 0 27 [1,1,0,1,0,0] (xv dU dQ eL) (xy dU dQ eL) (ex,bt) r:=dK (fun _=>Hs) h
def xw (dU:(List Int)) (dQ:(List aN)) (eL:Int) (bt:(List aB)):(Int×(List aN))→S:=fun (ex,b6)=>c6 [(1,.isl 1 (dU.map U)),(4,.ref 0 0 0 0),(5,.ref 1 0 0 0),(13,.isl 3 (dQ.map ay)),(14,.n .i64 eL),(15,.n .i64 ex)] [[ae.mk 2 [[.cT,.cT]] .live],[ae.mk 2 [[.aV 2 0 0 bt.length,.aV 3 0 0 b6.length]] .live],[ae.mk 4 (bt.map au) .live],[ae.mk 3 (b6.map ay) .live]]
def xz (dU:(List Int)) (dQ:(List aN)) (eL:Int) (bt:(List aB)):(List aN)→dc
 | a=>⟨some 0,[(4,.ref 0 0 0 0),(5,.ref 1 0 0 0)],[[ae.mk 2 [[.cT,.cT]] .live],[ae.mk 2 [[.aV 2 0 0 bt.length,.aV 3 0 0 a.length]] .live],[ae.mk 4 (bt.map au) .live],[ae.mk 3 (a.map ay) .live]]⟩
def rE (dU:(List Int)) (dQ:(List aN)) (eL:Int) (bt:(List aB)) (ex:Int) (b6:(List aN)):Option ((Int×(List aN))⊕((List aN))) :=
 if (decide (ex<eL))=true then
  if 0≤ex∧ex<dQ.length then
  dQ[ex.toNat]? >>= fun al =>
  qu dU ex >>= fun aZ =>
  if aZ=true then
   some (.inl (ab (ex+(1:Int)),b6))
  else
   if (b6++([al]:List aN)).length*24≤140737488355328 then
   some (.inl (ab (ex+(1:Int)),b6++([al]:List aN)))
   else none
  else none
 else
  some (.inr b6)
def uQ (dU:(List Int)) (dQ:(List aN)) (eL:Int) (bt:(List aB)) (ex:Int) (b6:(List aN)):Option ((List aN)):=iter (fun w:Int×(List aN)=>rE dU dQ eL bt w.1 w.2) (ex,b6)
theorem Ht {dU:(List Int)} {dQ:(List aN)} {eL:Int} {bt:(List aB)} {ex:Int} {b6:(List aN)}:bm (rE dU dQ eL bt ex b6) (dI a2 32 0 27 [1,1,0,1,0,0] (xw dU dQ eL bt (ex,b6)) (xw dU dQ eL bt) (xz dU dQ eL bt)):=by
 unfold rE
 exact .ite (fun h1 =>
  .bu fun R =>
  .aJ fun al ax =>
  .aJ fun aZ ba =>
  (let t1:List bx:=[.J (o 1 []),.af true,.J (o 2 (aj (.bQ (ay al)) (o 3 []))),.J (o 2 (aj (bM 2 (.b aZ) true) (o 1 [])))];
  have aO:=((.ez h1 R.1 (c9 ay R.2) (cm ay ax) (DO aZ ba) (a1.b aZ)):b2 _);
  .ite (fun a5 =>
  .ret (bi (t1.append [.af false,.J (o 2 []),.a0 [0,1,2,3] [.box [.id,.id],.box [.id,.id],.pure,.pure] (bf [1,4,5,13,14,15])]) (aO.aC (.bp (bE a5) (bD 4 .live eh bt) (bD 3 .live dl b6)))))
  (fun a5 =>
  .bu fun bV =>
  .ret (bi (t1.append [.af true,.J (o 4 (aj (.aC ((b6++([al]:List aN)).length)) (o 2 []))),.J (o 2 []),.a0 [0,1,2,19] [.box [.id,.id],.box [.id,.id],.pure,.dP [ae.mk 3 ((b6++([al]:List aN)).map ay) .live]] (bf [1,4,5,13,14,15])]) (aO.aC (.hN (bS a5) (cY (show [[.n .i64 al.dg,.n .i64 al.c0,.n .i64 al.dq]]=(([al]:List aN)).map ay from rfl) (show 1=([al]:List aN).length from rfl)) (jq (aT ay b6) (bw b6)) (jr (bw b6) (ia (show [[.n .i64 al.dg,.n .i64 al.c0,.n .i64 al.dq]]=(([al]:List aN)).map ay from rfl) (show 1=([al]:List aN).length from rfl)):(b6++([al]:List aN)).length=b6.length+(([[.n .i64 al.dg,.n .i64 al.c0,.n .i64 al.dq]].drop 0).take 1).length) bV (bD 4 .live eh bt) (eA 3 .live (hP (aT ay b6) (bw b6) (ia (show [[.n .i64 al.dg,.n .i64 al.c0,.n .i64 al.dq]]=(([al]:List aN)).map ay from rfl) (show 1=([al]:List aN).length from rfl)))) (bD 3 .live dl (b6++([al]:List aN)))))))))
  (fun h1 =>
  .ret (bi [.J (o 1 []),.af false,.a0 [0,1,2,3] [.box [.id,.id],.box [.id,.id],.pure,.pure] (bf [4,5])] (.bp h1 (bD 4 .live eh bt) (bD 3 .live dl b6))))
theorem HD {dU:(List Int)} {dQ:(List aN)} {eL:Int} {bt:(List aB)} {ex:Int} {b6:(List aN)} {r} (h:uQ dU dQ eL bt ex b6=some r):dJ a2 32 0 27 [1,1,0,1,0,0] (xw dU dQ eL bt) (xz dU dQ eL bt) (ex,b6) r:=dK (fun _=>Ht) h
def rI (aQ:cX) (dU:(List Int)):Option (((List aN))⊕((List aB)×(List aN))) :=
 u9 aQ.bs >>= fun r1 =>
 match r1 with
 | .inl cw=>(uP dU aQ.bZ (len_ ay aQ.bZ) 0 ([]:List aN) >>= fun bg =>
  some (.inl bg))
 | .inr cw=>(uQ dU aQ.bZ (len_ ay aQ.bZ) cw 0 ([]:List aN) >>= fun bg =>
  some (.inr (cw,bg)))
theorem CB {aQ:cX} {dU:(List Int)}:bm (rI aQ dU) (Sum.elim (fun a=>Con a2 27 [.agg [.isl 4 (aQ.bs.map au),.isl 3 (aQ.bZ.map ay)],.isl 1 (dU.map U)] [] (.agg [.isl 4 (([]:List aB).map au),.aV 0 0 0 a.length]) [[ae.mk 3 (a.map ay) .live]]) (fun a=>Con a2 27 [.agg [.isl 4 (aQ.bs.map au),.isl 3 (aQ.bZ.map ay)],.isl 1 (dU.map U)] [] (.agg [.aV 0 0 0 a.1.length,.aV 0 1 0 a.2.length]) [[ae.mk 4 (a.1.map au) .live,ae.mk 3 (a.2.map ay) .live]])):=by
 unfold rI
 exact .aJ fun r1 R =>
  (by
  rcases r1 with cw|cw
  ·exact (.aJ fun bg aM =>
  .ret (gQ [.J (o 2 []),.J (o 2 (aj (.call {aA:=[],bR:=[],ac:=[ii],r:= .isl 4 (([]:List aB).map au),cC:=[],dE:=ii,d9:=[],cK:=[],cH:=true}) (o 3 []))),.J (o 4 []),.tY 6 1 3,.a0 [1,6,12] [.box [.id,.id],.box [.id,.len (([]:List aN).length)],.dP [ae.mk 3 (([]:List aN).map ay) .live]] (bf [1,4,5,13,14,15]),(xy dU aQ.bZ (len_ ay aQ.bZ) bg).eU,.J (o 2 [])] [2] [.pure] (.eQ (C9 (.inl cw) R) (a1.fx _:a1 (.isl 4 (([]:List aB).map au))) (show 0=([]:List aN).length from rfl) (eA 3 .live (show ([]:List (List av))=([]:List aN).map ay from rfl)) (bD 3 .live dl ([]:List aN)) (HC aM) (bD 3 .live dl bg)) (.bI (.agg [.id,.id]))))
  ·exact (.aJ fun bg aM =>
  .ret (gQ [.J (o 2 []),.J (o 2 (aj (.call {aA:=[],bR:=[],ac:=[ii],r:= .aV 0 0 0 cw.length,cC:=[[ae.mk 4 (cw.map au) .live]],dE:=ii,d9:=[.pure],cK:=[],cH:=true}) (o 3 []))),.J (o 4 []),.tY 6 1 3,.a0 [1,6,4,12] [.box [.id,.id],.box [.id,.len (([]:List aN).length)],.pure,.dP [ae.mk 3 (([]:List aN).map ay) .live]] (bf [1,4,5,13,14,15]),(xz dU aQ.bZ (len_ ay aQ.bZ) cw bg).eU,.J (o 2 []),.ri [{a9:=[(2,0),(3,0)],fM:=none},{a9:=[(0,0)]}] [([.pure,.pure],none),([.box [.at_ 0 0 cw.length,.at_ 0 1 bg.length]],none)] [(4,.bI (.cb (.at_ 1 0 0)))]] [0] [.eg [ae.mk 4 (cw.map au) .live,ae.mk 3 (bg.map ay) .live]] (.br (eR 4 eh cw) (C9 (.inr cw) R) (a1.aV 0 0 0 cw.length) ((gw (eV (eS kz) hR) gx):fE [[ae.mk 4 (cw.map au) .live]]) (show 0=([]:List aN).length from rfl) (bD 4 .live eh cw) (eA 3 .live (show ([]:List (List av))=([]:List aN).map ay from rfl)) (bD 3 .live dl ([]:List aN)) (.br (HD aM) (bD 4 .live eh cw) (bD 3 .live dl bg) (rfl:(hZ [{a9:=[(2,0),(3,0)],fM:=none},{a9:=[(0,0)]}]) 0 0=some (2,0)) (rfl:cw.length=cw.length) (rfl:(hZ [{a9:=[(2,0),(3,0)],fM:=none},{a9:=[(0,0)]}]) 0 1=some (3,0)) (rfl:bg.length=bg.length) (rfl:(hZ [{a9:=[(2,0),(3,0)],fM:=none},{a9:=[(0,0)]}]) 1 0=some (0,0)) (.e1 (dh (dk (aY:=(cZ [0])) 4 .live au (aT au cw) (fun x=>(dj h9) x)) (dh (dk (aY:=(cZ [0])) 3 .live ay (aT ay bg) (fun x=>(dj h8) x)) (hE (aY:=(cZ [0])))))))) (.bI (.agg [.id,.id])))))
def zd (aa:(List Int)):(Int×Int)→S:=fun (bd,ah)=>c6 [(0,.isl 1 (aa.map U)),(4,.n .i64 bd),(5,.n .i64 ah)] []
def zs (aa:(List Int)):Int→dc
 | a=>⟨some 0,[(4,.n .i64 a)],[]⟩
def ze (aa:(List Int)) (bd:Int) (ah:Int):Option ((Int×Int)⊕(Int)) :=
 if (decide ((0:Int)≤ah))=true then
  if 0≤ah∧ah<aa.length then
  aa[ah.toNat]? >>= fun al =>
  some (.inl (ab ((ab (bd*(1000000000:Int)))+al),ab (ah-(1:Int))))
  else none
 else
  some (.inr bd)
def Ab (aa:(List Int)) (bd:Int) (ah:Int):Option (Int):=iter (fun w:Int×Int=>ze aa w.1 w.2) (bd,ah)
theorem IF {aa:(List Int)} {bd:Int} {ah:Int}:bm (ze aa bd ah) (dI a2 25 0 59 [1,1,1,0,1,0,0] (zd aa (bd,ah)) (zd aa) (zs aa)):=by
 unfold ze
 exact .ite (fun h1 =>
  .bu fun R =>
  .aJ fun al ax =>
  .ret (bi [.J (o 2 []),.af true,.J (o 5 (aj (.bQ (U al)) (o 2 []))),.J (o 3 []),.a0 [] [] (bf [0,4,5])] (.cI h1 R.1 (c9 U R.2) (cm U ax))))
  (fun h1 =>
  .ret (bi [.J (o 2 []),.af false,.a0 [] [] (bf [4])] (.e1 h1)))
theorem JO {aa:(List Int)} {bd:Int} {ah:Int} {r} (h:Ab aa bd ah=some r):dJ a2 25 0 59 [1,1,1,0,1,0,0] (zd aa) (zs aa) (bd,ah) r:=dK (fun _=>IF) h
def sF (aa:(List Int)):Option (Int×Bool) :=
 qi 9223372036854775807 >>= fun r1 =>
 nd aa r1 >>= fun bY =>
 if (decide ((0:Int)<bY))=true then
  some (0,false)
 else
  Ab aa 0 (ab ((len_ U aa)-(1:Int))) >>= fun ec =>
  some (ec,true)
theorem KE {aa:(List Int)}:bm (sF aa) (fun r=>Con a2 59 [.isl 1 (aa.map U)] [] (.cy [.n .i64 r.1,.b r.2]) []):=by
 unfold sF
 exact .aJ fun r1 R =>
  .aJ fun bY ax =>
  (let t1:List bx:=[.J (o 2 []),.J (o 1 (aj (bM 1 (.isl 1 (r1.map U)) false) (aj (bM 2 (.n .i64 bY) true) (o 1 []))))];
  have aO:=((.bp (Dy r1 R) (u7 bY ax) (a1.n .i64 bY)):b2 _);
  .ite (fun aM =>
  .ret (a8 (t1.append [.af true,.J (o 2 [])]) (aO.aC (.e1 aM))))
  (fun aM =>
  .aJ fun ec a5 =>
  .ret (a8 (t1.append [.af false,.J (o 1 []),.J (o 4 []),.a0 [] [] (bf [0,4,5]),(zs aa ec).eU,.J (o 3 [])]) (aO.aC (.az aM (JO a5))))))
def p8 (cO:(Option et)):Option (Int×Bool) :=
 cO >>= fun pq =>
 sF pq.ty.cn >>= fun bY =>
 if bY.2=true then
  nd pq.Bl ([1]:List Int) >>= fun ec =>
  if (ec != (0:Int))=true then
   some (0,false)
  else
   if pq.ty.fo=true then
    some (ab (0-bY.1),true)
   else
    some (bY.1,true)
 else
  some (0,false)
theorem C0 {cO:(Option et)}:bm (p8 cO) (fun r=>Con a2 28 [lx 3 eK cO] [] (.cy [.n .i64 r.1,.b r.2]) []):=by
 unfold p8
 exact .aJ fun pq R =>
  .aJ fun bY ax =>
  (let t1:List bx:=[.J (o 2 []),.J (o 1 (aj (.kf 7 (.fT 3 (some (eK pq))) .fr) (o 3 (aj (bM 1 (.cy [.n .i64 bY.1,.b bY.2]) true) (o 5 [])))))];
  have aO:=((.bp (w2 (sz:=3) (f:=eK) R) (KE bY ax) (kj (dz (a1.n .i64 bY.1) (dz (a1.b bY.2) f6)))):b2 _);
  .ite (fun aM =>
  .aJ fun ec a5 =>
  (let t3:List bx:=t1.append [.J (o 4 (aj (.kf 18 (.fT 3 (some (eK pq))) .fr) (o 3 (aj (.call {ac:=[ii,.bI (.cb (.db (([1]:List Int).map U)))],r:= .n .i64 ec,cH:=true,cK:=[20]}) (o 1 (aj (.af false) []))))))];
  have c8:=aO.aC (.br (bE aM) (bE aM) (w2 (sz:=3) (f:=eK) R) (bE aM) (bE aM) (bE aM) (bE aM) (d7 (show [[.n .i64 (1:Int)]]=(([1]:List Int)).map U from rfl) (show 1=([1]:List Int).length from rfl)) (.ez (cY (show [[.n .i64 (1:Int)]]=(([1]:List Int)).map U from rfl) (show 1=([1]:List Int).length from rfl)) (cM bG ([1]:List Int)) (u7 ec a5) (a1.n .i64 ec) (bE aM) (bE aM)));
  .ite (fun bV =>
  .ret (a8 (t3.append [.af true,.J (o 2 [])]) (c8.aC (.e1 bV))))
  (fun bV =>
  (let t5:List bx:=t3.append [.af false,.J (o 1 (aj (.kf 26 (.fT 3 (some (eK pq))) .fr) (o 3 [])))];
  have gS:=c8.aC (.az bV (w2 (sz:=3) (f:=eK) R));
  .ite (fun dv =>
  .ret (a8 (t5.append [.af true,.J (o 3 []),.J (o 3 [])]) (gS.aC (.e1 dv))))
  (fun dv =>
  .ret (a8 (t5.append [.af false,.J (o 3 [])]) (gS.aC (.e1 dv))))))))
  (fun aM =>
  .ret (a8 (t1.append [.J (o 3 (cc 7 (aj (.af true) []))),.af true,.J (o 2 [])]) (aO.aC (.br (bS aM) (bS aM) (bS aM) (bS aM) (bS aM) (bS aM) (bS aM) (bS aM) (.e1 bF))))))
def ye (gl:(List (Option et))) (gJ:Int) (bt:(List aN)):Unit→S:=fun _=>c6 [(4,.ref 0 0 0 0),(8,.ref 1 0 0 0),(31,.isl 1 (gl.map (fZ 3 eK))),(32,.n .i64 gJ),(33,.n .i64 (0:Int))] [[ae.mk 2 [[.cT,.cT]] .live],[ae.mk 2 [[.isl 4 (([]:List aB).map au),.aV 2 0 0 bt.length]] .live],[ae.mk 3 (bt.map ay) .live]]
def uT (gl:(List (Option et))) (gJ:Int) (bt:(List aN)):((Unit)⊕(Unit))→dc
 | .inl a=>⟨some 0,[(4,.ref 0 0 0 0),(8,.ref 1 0 0 0)],[[ae.mk 2 [[.cT,.cT]] .live],[ae.mk 2 [[.isl 4 (([]:List aB).map au),.aV 2 0 0 bt.length]] .live],[ae.mk 3 (bt.map ay) .live]]⟩
 | .inr a=>⟨none,[(4,.ref 0 0 0 0),(5,.b false)],[[ae.mk 2 [[.cT,.cT]] .live]]⟩
def yf (gl:(List (Option et))) (gJ:Int) (bt:(List aN)):Option ((Unit)⊕((Unit)⊕(Unit))) :=
 if (decide ((0:Int)<gJ))=true then
  if 0≤(0:Int)∧(0:Int)<gl.length then
  gl[0]? >>= fun al =>
  p8 al >>= fun aZ =>
  if aZ.2=true then
   if (((0:Int).tmod (2:Int)) == (0:Int))=true then
    none
   else
    none
  else
   some (.inr (.inr ()))
  else none
 else
  some (.inr (.inl ()))
def p9 (gl:(List (Option et))) (gJ:Int) (bt:(List aN)):Option ((Unit)⊕(Unit)):=iter (fun w:Unit=>yf gl gJ bt) ()
theorem HZ {gl:(List (Option et))} {gJ:Int} {bt:(List aN)}:bm (yf gl gJ bt) (dI a2 69 0 9 [1,1,1,1,1,0,1,0,0] (ye gl gJ bt ()) (ye gl gJ bt) (uT gl gJ bt)):=by
 unfold yf
 exact .ite (fun h1 =>
  .bu fun R =>
  .aJ fun al ax =>
  .aJ fun aZ ba =>
  .ite (fun a5 =>
  .ite (fun bV =>
  .pa)
  (fun bV =>
  .pa))
  (fun a5 =>
  .ret (bi [.J (o 1 []),.af true,.J (o 2 (aj (.bQ ((fZ 3 eK) al)) (o 2 []))),.J (o 1 (aj (bM 1 (.cy [.n .i64 aZ.1,.b aZ.2]) true) (o 5 []))),.J (o 2 []),.af true,.J (o 3 []),.a0 [0] [.box [.id,.id]] (bf [4,5])] (.eQ h1 R.1 (c9 (fZ 3 eK) R.2) (cm (fZ 3 eK) ax) (C0 aZ ba) (kj (dz (a1.n .i64 aZ.1) (dz (a1.b aZ.2) f6))) (bS a5)))))
  (fun h1 =>
  .ret (bi [.J (o 1 []),.af false,.a0 [0,1,2] [.box [.id,.id],.box [.id,.id],.pure] (bf [4,8])] (.az h1 (bD 3 .live dl bt))))
theorem C1 {gl:(List (Option et))} {gJ:Int} {bt:(List aN)} {r} (h:p9 gl gJ bt=some r):dJ a2 69 0 9 [1,1,1,1,1,0,1,0,0] (ye gl gJ bt) (uT gl gJ bt) () r:=dK (fun _=>HZ) h
def yg (gl:(List (Option et))) (gJ:Int) (eX:(List aN)):(Int×(List aB))→S:=fun (gm,eo)=>c6 [(4,.ref 0 0 0 0),(8,.ref 1 0 0 0),(31,.isl 1 (gl.map (fZ 3 eK))),(32,.n .i64 gJ),(33,.n .i64 gm)] [[ae.mk 2 [[.cT,.cT]] .live],[ae.mk 2 [[.aV 2 0 0 eo.length,.aV 2 1 0 eX.length]] .live],[ae.mk 4 (eo.map au) .live,ae.mk 3 (eX.map ay) .live]]
def uU (gl:(List (Option et))) (gJ:Int) (eX:(List aN)):(((List aB))⊕(Unit))→dc
 | .inl a=>⟨some 0,[(4,.ref 0 0 0 0),(8,.ref 1 0 0 0)],[[ae.mk 2 [[.cT,.cT]] .live],[ae.mk 2 [[.aV 2 0 0 a.length,.aV 2 1 0 eX.length]] .live],[ae.mk 4 (a.map au) .live,ae.mk 3 (eX.map ay) .live]]⟩
 | .inr a=>⟨none,[(4,.ref 0 0 0 0),(5,.b false)],[[ae.mk 2 [[.cT,.cT]] .live]]⟩
def m2 (gl:(List (Option et))) (gJ:Int) (eX:(List aN)) (gm:Int) (eo:(List aB)):Option ((Int×(List aB))⊕(((List aB))⊕(Unit))) :=
 if (decide (gm<gJ))=true then
  if 0≤gm∧gm<gl.length then
  gl[gm.toNat]? >>= fun al =>
  p8 al >>= fun aZ =>
  if aZ.2=true then
   if ((gm.tmod (2:Int)) == (0:Int))=true then
    if 0≤(ab (gm.tdiv (2:Int)))∧(ab (gm.tdiv (2:Int)))<(eo.length:Nat) then
    eo[(0+(ab (gm.tdiv (2:Int))).toNat)]? >>= fun eE =>
    some (.inl (ab (gm+(1:Int)),eo.set (0+(ab (gm.tdiv (2:Int))).toNat) (⟨eE.cu,aZ.1,eE.cJ,eE.cf⟩:aB)))
    else none
   else
    if 0≤(ab (gm.tdiv (2:Int)))∧(ab (gm.tdiv (2:Int)))<(eo.length:Nat) then
    eo[(0+(ab (gm.tdiv (2:Int))).toNat)]? >>= fun eE =>
    some (.inl (ab (gm+(1:Int)),eo.set (0+(ab (gm.tdiv (2:Int))).toNat) (⟨eE.cu,eE.c5,aZ.1,eE.cf⟩:aB)))
    else none
  else
   some (.inr (.inr ()))
  else none
 else
  some (.inr (.inl eo))
def zF (gl:(List (Option et))) (gJ:Int) (eX:(List aN)) (gm:Int) (eo:(List aB)):Option (((List aB))⊕(Unit)):=iter (fun w:Int×(List aB)=>m2 gl gJ eX w.1 w.2) (gm,eo)
theorem H0 {gl:(List (Option et))} {gJ:Int} {eX:(List aN)} {gm:Int} {eo:(List aB)}:bm (m2 gl gJ eX gm eo) (dI a2 69 0 9 [1,1,1,1,1,0,1,0,0] (yg gl gJ eX (gm,eo)) (yg gl gJ eX) (uU gl gJ eX)):=by
 unfold m2
 exact .ite (fun h1 =>
  .bu fun R =>
  .aJ fun al ax =>
  .aJ fun aZ ba =>
  (let t1:List bx:=[.J (o 1 []),.af true,.J (o 2 (aj (.bQ ((fZ 3 eK) al)) (o 2 []))),.J (o 1 (aj (bM 1 (.cy [.n .i64 aZ.1,.b aZ.2]) true) (o 5 []))),.J (o 2 [])];
  have aO:=((.ez h1 R.1 (c9 (fZ 3 eK) R.2) (cm (fZ 3 eK) ax) (C0 aZ ba) (kj (dz (a1.n .i64 aZ.1) (dz (a1.b aZ.2) f6)))):b2 _);
  .ite (fun a5 =>
  (have eJ:=aO.aC (.az (bE a5) (by decide:(2:Int)≠0));
  .ite (fun bV =>
  .bu fun dv =>
  .aJ fun eE eb =>
  .ret (bi (t1.append [.af false,.J (o 3 []),.af true,.J (o 6 (aj (.bQ (au eE)) (aj (.bQ (au eE)) []))),.J (o 2 []),.a0 [0,1,2] [.box [.id,.id],.box [.len ((eo.set (0+(ab (gm.tdiv (2:Int))).toNat) (⟨eE.cu,aZ.1,eE.cJ,eE.cf⟩:aB)).length),.id],.eg [ae.mk 4 ((eo.set (0+(ab (gm.tdiv (2:Int))).toNat) (⟨eE.cu,aZ.1,eE.cJ,eE.cf⟩:aB)).map au) .live,ae.mk 3 (eX.map ay) .live]] (bf [4,8,31,32,33])]) (eJ.aC (.hN bV (by decide:(2:Int)≠0) dv.1 dv.2 (cm au eb) (cm au eb) (gU (bw eo) (0+(ab (gm.tdiv (2:Int))).toNat) (⟨eE.cu,aZ.1,eE.cJ,eE.cf⟩:aB)) (dh (dk (aY:=(cZ [0,1,2])) 4 .live au (e7 (aT au eo) (0+(ab (gm.tdiv (2:Int))).toNat) (⟨eE.cu,aZ.1,eE.cJ,eE.cf⟩:aB) (rfl:(setCells (au eE) 1 [.n .i64 aZ.1])=au (⟨eE.cu,aZ.1,eE.cJ,eE.cf⟩:aB))) (fun x=>(dj h9) x)) (dh (dk (aY:=(cZ [0,1,2])) 3 .live ay (aT ay eX) (fun x=>(dj h8) x)) (hE (aY:=(cZ [0,1,2])))))))))
  (fun bV =>
  .bu fun dv =>
  .aJ fun eE eb =>
  .ret (bi (t1.append [.af false,.J (o 3 []),.af false,.J (o 6 (aj (.bQ (au eE)) (aj (.bQ (au eE)) []))),.J (o 2 []),.a0 [0,1,2] [.box [.id,.id],.box [.len ((eo.set (0+(ab (gm.tdiv (2:Int))).toNat) (⟨eE.cu,eE.c5,aZ.1,eE.cf⟩:aB)).length),.id],.eg [ae.mk 4 ((eo.set (0+(ab (gm.tdiv (2:Int))).toNat) (⟨eE.cu,eE.c5,aZ.1,eE.cf⟩:aB)).map au) .live,ae.mk 3 (eX.map ay) .live]] (bf [4,8,31,32,33])]) (eJ.aC (.hN bV (by decide:(2:Int)≠0) dv.1 dv.2 (cm au eb) (cm au eb) (gU (bw eo) (0+(ab (gm.tdiv (2:Int))).toNat) (⟨eE.cu,eE.c5,aZ.1,eE.cf⟩:aB)) (dh (dk (aY:=(cZ [0,1,2])) 4 .live au (e7 (aT au eo) (0+(ab (gm.tdiv (2:Int))).toNat) (⟨eE.cu,eE.c5,aZ.1,eE.cf⟩:aB) (rfl:(setCells (au eE) 2 [.n .i64 aZ.1])=au (⟨eE.cu,eE.c5,aZ.1,eE.cf⟩:aB))) (fun x=>(dj h9) x)) (dh (dk (aY:=(cZ [0,1,2])) 3 .live ay (aT ay eX) (fun x=>(dj h8) x)) (hE (aY:=(cZ [0,1,2])))))))))))
  (fun a5 =>
  .ret (bi (t1.append [.af true,.J (o 3 []),.a0 [0] [.box [.id,.id]] (bf [4,5])]) (aO.aC (.e1 (bS a5)))))))
  (fun h1 =>
  .ret (bi [.J (o 1 []),.af false,.a0 [0,1,2] [.box [.id,.id],.box [.id,.id],.eg [ae.mk 4 (eo.map au) .live,ae.mk 3 (eX.map ay) .live]] (bf [4,8])] (.az h1 (dh (dk (aY:=(cZ [0,1,2])) 4 .live au (aT au eo) (fun x=>(dj h9) x)) (dh (dk (aY:=(cZ [0,1,2])) 3 .live ay (aT ay eX) (fun x=>(dj h8) x)) (hE (aY:=(cZ [0,1,2]))))))))
theorem C2 {gl:(List (Option et))} {gJ:Int} {eX:(List aN)} {gm:Int} {eo:(List aB)} {r} (h:zF gl gJ eX gm eo=some r):dJ a2 69 0 9 [1,1,1,1,1,0,1,0,0] (yg gl gJ eX) (uU gl gJ eX) (gm,eo) r:=dK (fun _=>H0) h
def qe (aQ:cX) (fv:(List cD)):Option (((List aN))⊕((Unit)⊕((List aB)×(List aN)))) :=
 m8 aQ >>= fun r1 =>
 if r1=true then
  vo fv (ab ((2:Int)*(len_ au aQ.bs))) >>= fun bg =>
  if bg.2=true then
   rI aQ ([]:List Int) >>= fun aF =>
   match aF with
   | .inl ej=>(p9 bg.1 (len_ (fZ 3 eK) bg.1) ej >>= fun ff =>
    match ff with
    | .inl iM=>(m8 (⟨([]:List aB),ej⟩:cX) >>= fun ek =>
     if ek=true then
      some (.inl ej)
     else
      some (.inr (.inl ())))
    | .inr iM=>(some (.inr (.inl ()))))
   | .inr ej=>(zF bg.1 (len_ (fZ 3 eK) bg.1) ej.2 0 ej.1 >>= fun ff =>
    match ff with
    | .inl iM=>(m8 (⟨iM,ej.2⟩:cX) >>= fun ek =>
     if ek=true then
      some (.inr (.inr (iM,ej.2)))
     else
      some (.inr (.inl ())))
    | .inr iM=>(some (.inr (.inl ()))))
  else
   some (.inr (.inl ()))
 else
  some (.inr (.inl ()))
theorem qa {aQ:cX} {fv:(List cD)}:bm (qe aQ fv) (Sum.elim (fun a=>Con a2 9 [.agg [.isl 4 (aQ.bs.map au),.isl 3 (aQ.bZ.map ay)],.isl 3 (fv.map eTRat)] [] (.cy [.agg [.isl 4 (([]:List aB).map au),.aV 0 0 0 a.length],.b true]) [[ae.mk 3 (a.map ay) .live]]) (Sum.elim (fun a=>Con a2 9 [.agg [.isl 4 (aQ.bs.map au),.isl 3 (aQ.bZ.map ay)],.isl 3 (fv.map eTRat)] [] (.cy [.agg [.isl 4 (([]:List aB).map au),.isl 3 (([]:List aN).map ay)],.b false]) []) (fun a=>Con a2 9 [.agg [.isl 4 (aQ.bs.map au),.isl 3 (aQ.bZ.map ay)],.isl 3 (fv.map eTRat)] [] (.cy [.agg [.aV 0 0 0 a.1.length,.aV 0 1 0 a.2.length],.b true]) [[ae.mk 4 (a.1.map au) .live,ae.mk 3 (a.2.map ay) .live]]))):=by
 unfold qe
 exact .aJ fun r1 R =>
  (let t1:List bx:=[.J (o 3 []),.J (o 1 (aj (bM 1 (.b r1) true) (o 1 [])))];
  have aO:=((.az (yP r1 R) (a1.b r1)):b2 _);
  .ite (fun ai =>
  .aJ fun bg aM =>
  (let t3:List bx:=t1.append [.af false,.J (o 5 (aj (bM 2 (.cy [.isl 1 (bg.1.map (fZ 3 eK)),.b bg.2]) false) (o 5 []))),.J (o 2 [])];
  have c8:=aO.aC (.az (bE ai) (J9 bg aM));
  .ite (fun ba =>
  .aJ fun aF bV =>
  (by
  rcases aF with ej|ej
  ·exact (.aJ fun ff eb =>
  (let t5:List bx:=t3.append [.af false,.J (o 1 (aj (.call {aA:=[],bR:=[],ac:=[ii,.bI (.cb (.gE 1))],r:= .agg [.isl 4 (([]:List aB).map au),.aV 0 0 0 ej.length],cC:=[[ae.mk 3 (ej.map ay) .live]],dE:= .bI (.agg [.id,.id]),d9:=[.pure],cK:=[],cH:=true}) (o 2 []))),.J (o 3 []),.a0 [1,21,20] [.box [.id,.id],.box [.id,.id],.pure] (bf [4,8,31,32,33])];
  have gS:=c8.aC (.ez (bE ba) (eR 3 dl ej) (CB (.inl ej) bV) (a1.agg (dz (a1.fx _:a1 (.isl 4 (([]:List aB).map au))) (dz (a1.aV 0 0 0 ej.length) f6))) ((gw (eV (eS j1) hR) gx):fE [[ae.mk 3 (ej.map ay) .live]]) (bD 3 .live dl ej));
  (by
  rcases ff with iM|iM
  ·exact (.aJ fun ek eI =>
  (let t7:List bx:=t5.append [(uT bg.1 (len_ (fZ 3 eK) bg.1) ej (.inl iM)).eU,.J (o 1 (aj (.call {ac:=[.bI (.agg [.id,.db (ej.map ay)])],r:= .b ek,cH:=true,cK:=[2]}) (o 1 [])))];
  have hO:=gS.aC (.ez (C1 eb) (d7 (aT ay ej) (bw ej)) (cY (aT ay ej) (bw ej)) (cM dl ej) (yP ek eI) (a1.b ek));
  .ite (fun hK =>
  .ret (gQ (t7.append [.af false,.J (o 3 [])]) [2] [.pure] (hO.aC (.az (bE hK) (bD 3 .live dl ej))) (.comp [.agg [.id,.id],.cb .id])))
  (fun hK =>
  .ret (gQ (t7.append [.af true,.J (o 3 [])]) [] [] (hO.aC (.e1 (bS hK))) (.comp [.agg [.gE 4,.gE 3],.cb .id])))))
  ·exact (.ret (gQ (t5.append [(uT bg.1 (len_ (fZ 3 eK) bg.1) ej (.inr iM)).eU]) [] [] (gS.aC (.e1 (C1 eb))) (.comp [.agg [.gE 4,.gE 3],.cb .id]))))))
  ·exact (.aJ fun ff eb =>
  (let t5:List bx:=t3.append [.af false,.J (o 1 (aj (.call {aA:=[],bR:=[],ac:=[ii,.bI (.cb (.gE 1))],r:= .agg [.aV 0 0 0 ej.1.length,.aV 0 1 0 ej.2.length],cC:=[[ae.mk 4 (ej.1.map au) .live,ae.mk 3 (ej.2.map ay) .live]],dE:= .bI (.agg [.id,.id]),d9:=[.eg [ae.mk 4 (ej.1.map au) .live,ae.mk 3 (ej.2.map ay) .live]],cK:=[],cH:=true}) (o 2 []))),.J (o 3 []),.a0 [1,21,20] [.box [.id,.id],.box [.id,.id],.eg [ae.mk 4 (ej.1.map au) .live,ae.mk 3 (ej.2.map ay) .live]] (bf [4,8,31,32,33])];
  have gS:=c8.aC (.eQ (bE ba) (dh (dk (aY:=(c3 [.row 20])) 4 .live au (aT au ej.1) (fun x=>(dj h9) x)) (dh (dk (aY:=(c3 [.row 20])) 3 .live ay (aT ay ej.2) (fun x=>(dj h8) x)) (hE (aY:=(c3 [.row 20]))))) ((fi rfl (fi rfl kP)):fI [ae.mk 4 (ej.1.map au) .live,ae.mk 3 (ej.2.map ay) .live]) (CB (.inr ej) bV) (a1.agg (dz (a1.aV 0 0 0 ej.1.length) (dz (a1.aV 0 1 0 ej.2.length) f6))) ((gw (eV (eS kz) (eV (eS j1) hR)) gx):fE [[ae.mk 4 (ej.1.map au) .live,ae.mk 3 (ej.2.map ay) .live]]) (dh (dk (aY:=(cZ [1,21,20])) 4 .live au (aT au ej.1) (fun x=>(dj h9) x)) (dh (dk (aY:=(cZ [1,21,20])) 3 .live ay (aT ay ej.2) (fun x=>(dj h8) x)) (hE (aY:=(cZ [1,21,20]))))));
  (by
  rcases ff with iM|iM
  ·exact (.aJ fun ek eI =>
  (let t7:List bx:=t5.append [(uU bg.1 (len_ (fZ 3 eK) bg.1) ej.2 (.inl iM)).eU,.J (o 1 (aj (.call {ac:=[.bI (.agg [.db (iM.map au),.db (ej.2.map ay)])],r:= .b ek,cH:=true,cK:=[2]}) (o 1 [])))];
  have hO:=gS.aC (.br (C2 eb) (d7 (aT au iM) (bw iM)) (cY (aT au iM) (bw iM)) (cM eh iM) (d7 (aT ay ej.2) (bw ej.2)) (cY (aT ay ej.2) (bw ej.2)) (cM dl ej.2) (yP ek eI) (.e1 (a1.b ek)));
  .ite (fun hK =>
  .ret (gQ (t7.append [.af false,.J (o 3 [])]) [2] [.eg [ae.mk 4 (iM.map au) .live,ae.mk 3 (ej.2.map ay) .live]] (hO.aC (.az (bE hK) (dh (dk (aY:=(cZ [2])) 4 .live au (aT au iM) (fun x=>(dj h9) x)) (dh (dk (aY:=(cZ [2])) 3 .live ay (aT ay ej.2) (fun x=>(dj h8) x)) (hE (aY:=(cZ [2]))))))) (.comp [.agg [.id,.id],.cb .id])))
  (fun hK =>
  .ret (gQ (t7.append [.af true,.J (o 3 [])]) [] [] (hO.aC (.e1 (bS hK))) (.comp [.agg [.gE 4,.gE 3],.cb .id])))))
  ·exact (.ret (gQ (t5.append [(uU bg.1 (len_ (fZ 3 eK) bg.1) ej.2 (.inr iM)).eU]) [] [] (gS.aC (.e1 (C2 eb))) (.comp [.agg [.gE 4,.gE 3],.cb .id]))))))))
  (fun ba =>
  .ret (gQ (t3.append [.af true,.J (o 3 [])]) [] [] (c8.aC (.e1 (bS ba))) (.comp [.agg [.gE 4,.gE 3],.cb .id])))))
  (fun ai =>
  .ret (gQ (t1.append [.af true,.J (o 3 [])]) [] [] (aO.aC (.e1 (bS ai))) (.comp [.agg [.gE 4,.gE 3],.cb .id]))))
def sk (aa:aB) (aw:aB):Option Bool :=
 if (!(aa.cu.toList == aw.cu.toList))=true then
  some false
 else
  if (aa.c5 != aw.c5)=true then
   some false
  else
   if (aa.cJ != aw.cJ)=true then
    some false
   else
    if (aa.cf == aw.cf)=true then
     some true
    else
     some false
theorem Ka {aa:aB} {aw:aB}:bm (sk aa aw) (fun r=>Con a2 61 [.agg [.s aa.cu,.n .i64 aa.c5,.n .i64 aa.cJ,.b aa.cf],.agg [.s aw.cu,.n .i64 aw.c5,.n .i64 aw.cJ,.b aw.cf]] [] (.b r) []):=by
 unfold sk
 exact .ite (fun h1 =>
  .ret (a8 [.J (o 3 []),.J (o 5 []),.af true,.J (o 1 [])] (.e1 h1)))
  (fun h1 =>
  (let t1:List bx:=[.J (o 3 []),.J (o 5 []),.af false,.J (o 5 [])];
  .ite (fun R =>
  .ret (a8 (t1.append [.af true,.J (o 1 [])]) (.az h1 R)))
  (fun R =>
  .ite (fun ai =>
  .ret (a8 (t1.append [.af false,.J (o 5 []),.af true,.J (o 1 [])]) (.bp h1 R ai)))
  (fun ai =>
  (let t2:List bx:=t1.append [.af false,.J (o 5 []),.af false,.J (o 5 [])];
  .ite (fun ax =>
  .ret (a8 (t2.append [.af false,.J (o 1 [])]) (.cI h1 R ai (bE ax))))
  (fun ax =>
  .ret (a8 (t2.append [.af true,.J (o 1 [])]) (.cI h1 R ai (bS ax)))))))))
def yh (aa:(List aB)) (aw:(List aB)):Int→S:=fun ah=>c6 [(0,.isl 4 (aa.map au)),(1,.isl 4 (aw.map au)),(5,.n .i64 ah)] []
def CS (aa:(List aB)) (aw:(List aB)):((Unit)⊕(Unit))→dc
 | .inl a=>⟨some 0,[],[]⟩
 | .inr a=>⟨none,[(4,.b false)],[]⟩
def pN (aa:(List aB)) (aw:(List aB)) (ah:Int):Option ((Int)⊕((Unit)⊕(Unit))) :=
 if (decide (ah<(len_ au aa)))=true then
  if 0≤ah∧ah<aa.length then
  aa[ah.toNat]? >>= fun al =>
  if 0≤ah∧ah<aw.length then
  aw[ah.toNat]? >>= fun bP =>
  sk al bP >>= fun en =>
  if en=true then
   some (.inl (ab (ah+(1:Int))))
  else
   some (.inr (.inr ()))
  else none
  else none
 else
  some (.inr (.inl ()))
def zG (aa:(List aB)) (aw:(List aB)) (ah:Int):Option ((Unit)⊕(Unit)):=iter (fun w:Int=>pN aa aw w) ah
theorem H2 {aa:(List aB)} {aw:(List aB)} {ah:Int}:bm (pN aa aw ah) (dI a2 27 0 29 [1,1,0,1,0,0] (yh aa aw ah) (yh aa aw) (CS aa aw)):=by
 unfold pN
 exact .ite (fun h1 =>
  .bu fun R =>
  .aJ fun al ax =>
  .bu fun aM =>
  .aJ fun bP a5 =>
  .aJ fun en dv =>
  (let t1:List bx:=[.J (o 4 []),.af true,.J (o 3 (aj (.bQ (au al)) (o 3 (aj (.bQ (au bP)) (aj (bM 2 (.b en) true) (o 1 []))))))];
  have aO:=((.br h1 R.1 (c9 au R.2) (cm au ax) aM.1 (c9 au aM.2) (cm au a5) (Ka en dv) (.e1 (a1.b en))):b2 _);
  .ite (fun df =>
  .ret (bi (t1.append [.af false,.J (o 3 []),.a0 [] [] (bf [0,1,5])]) (aO.aC (.e1 (bE df)))))
  (fun df =>
  .ret (bi (t1.append [.af true,.J (o 1 []),.a0 [] [] (bf [4])]) (aO.aC (.e1 (bS df)))))))
  (fun h1 =>
  .ret (bi [.J (o 4 []),.af false,.a0 [] [] []] (.e1 h1)))
theorem C3 {aa:(List aB)} {aw:(List aB)} {ah:Int} {r} (h:zG aa aw ah=some r):dJ a2 27 0 29 [1,1,0,1,0,0] (yh aa aw) (CS aa aw) ah r:=dK (fun _=>H2) h
def r9 (aa:(List aB)) (aw:(List aB)):Option Bool :=
 if ((len_ au aa) != (len_ au aw))=true then
  some false
 else
  zG aa aw 0 >>= fun bj =>
  match bj with
  | .inl ei=>(some true)
  | .inr ei=>(some false)
theorem JP {aa:(List aB)} {aw:(List aB)}:bm (r9 aa aw) (fun r=>Con a2 29 [.isl 4 (aa.map au),.isl 4 (aw.map au)] [] (.b r) []):=by
 unfold r9
 exact .ite (fun h1 =>
  .ret (a8 [.J (o 1 []),.J (o 5 []),.af true,.J (o 1 [])] (.e1 h1)))
  (fun h1 =>
  .aJ fun bj ai =>
  (let t1:List bx:=[.J (o 1 []),.J (o 5 []),.af false,.J (o 1 []),.a0 [] [] (bf [0,1,5])];
  (by
  rcases bj with ei|ei
  ·exact (.ret (a8 (t1.append [.sub (.exit 0) [] [],.J (o 1 [])]) (.az h1 (C3 ai))))
  ·exact (.ret (a8 (t1.append [.sub (.ret) [(4,.b false)] []]) (.az h1 (C3 ai)))))))
def sa (aa:aN) (aw:aN):Option Bool :=
 if (aa.dg != aw.dg)=true then
  some false
 else
  if (aa.c0 != aw.c0)=true then
   some false
  else
   if (aa.dq != aw.dq)=true then
    some false
   else
    some true
theorem JQ {aa:aN} {aw:aN}:bm (sa aa aw) (fun r=>Con a2 62 [.agg [.n .i64 aa.dg,.n .i64 aa.c0,.n .i64 aa.dq],.agg [.n .i64 aw.dg,.n .i64 aw.c0,.n .i64 aw.dq]] [] (.b r) []):=by
 unfold sa
 exact .ite (fun h1 =>
  .ret (a8 [.J (o 3 []),.J (o 5 []),.af true,.J (o 1 [])] (.e1 h1)))
  (fun h1 =>
  (let t1:List bx:=[.J (o 3 []),.J (o 5 []),.af false,.J (o 5 [])];
  .ite (fun R =>
  .ret (a8 (t1.append [.af true,.J (o 1 [])]) (.az h1 R)))
  (fun R =>
  .ite (fun ai =>
  .ret (a8 (t1.append [.af false,.J (o 5 []),.af true,.J (o 1 [])]) (.bp h1 R ai)))
  (fun ai =>
  .ret (a8 (t1.append [.af false,.J (o 5 []),.af false,.J (o 1 [])]) (.bp h1 R ai))))))
def x2 (aa:(List aN)) (aw:(List aN)):Int→S:=fun ah=>c6 [(0,.isl 3 (aa.map ay)),(1,.isl 3 (aw.map ay)),(5,.n .i64 ah)] []
def CN (aa:(List aN)) (aw:(List aN)):((Unit)⊕(Unit))→dc
 | .inl a=>⟨some 0,[],[]⟩
 | .inr a=>⟨none,[(4,.b false)],[]⟩
def pG (aa:(List aN)) (aw:(List aN)) (ah:Int):Option ((Int)⊕((Unit)⊕(Unit))) :=
 if (decide (ah<(len_ ay aa)))=true then
  if 0≤ah∧ah<aa.length then
  aa[ah.toNat]? >>= fun al =>
  if 0≤ah∧ah<aw.length then
  aw[ah.toNat]? >>= fun bP =>
  sa al bP >>= fun en =>
  if en=true then
   some (.inl (ab (ah+(1:Int))))
  else
   some (.inr (.inr ()))
  else none
  else none
 else
  some (.inr (.inl ()))
def zt (aa:(List aN)) (aw:(List aN)) (ah:Int):Option ((Unit)⊕(Unit)):=iter (fun w:Int=>pG aa aw w) ah
theorem HO {aa:(List aN)} {aw:(List aN)} {ah:Int}:bm (pG aa aw ah) (dI a2 27 0 30 [1,1,0,1,0,0] (x2 aa aw ah) (x2 aa aw) (CN aa aw)):=by
 unfold pG
 exact .ite (fun h1 =>
  .bu fun R =>
  .aJ fun al ax =>
  .bu fun aM =>
  .aJ fun bP a5 =>
  .aJ fun en dv =>
  (let t1:List bx:=[.J (o 4 []),.af true,.J (o 3 (aj (.bQ (ay al)) (o 3 (aj (.bQ (ay bP)) (aj (bM 2 (.b en) true) (o 1 []))))))];
  have aO:=((.br h1 R.1 (c9 ay R.2) (cm ay ax) aM.1 (c9 ay aM.2) (cm ay a5) (JQ en dv) (.e1 (a1.b en))):b2 _);
  .ite (fun df =>
  .ret (bi (t1.append [.af false,.J (o 3 []),.a0 [] [] (bf [0,1,5])]) (aO.aC (.e1 (bE df)))))
  (fun df =>
  .ret (bi (t1.append [.af true,.J (o 1 []),.a0 [] [] (bf [4])]) (aO.aC (.e1 (bS df)))))))
  (fun h1 =>
  .ret (bi [.J (o 4 []),.af false,.a0 [] [] []] (.e1 h1)))
theorem CT {aa:(List aN)} {aw:(List aN)} {ah:Int} {r} (h:zt aa aw ah=some r):dJ a2 27 0 30 [1,1,0,1,0,0] (x2 aa aw) (CN aa aw) ah r:=dK (fun _=>HO) h
def rY (aa:(List aN)) (aw:(List aN)):Option Bool :=
 if ((len_ ay aa) != (len_ ay aw))=true then
  some false
 else
  zt aa aw 0 >>= fun bj =>
  match bj with
  | .inl ei=>(some true)
  | .inr ei=>(some false)
theorem Jx {aa:(List aN)} {aw:(List aN)}:bm (rY aa aw) (fun r=>Con a2 30 [.isl 3 (aa.map ay),.isl 3 (aw.map ay)] [] (.b r) []):=by
 unfold rY
 exact .ite (fun h1 =>
  .ret (a8 [.J (o 1 []),.J (o 5 []),.af true,.J (o 1 [])] (.e1 h1)))
  (fun h1 =>
  .aJ fun bj ai =>
  (let t1:List bx:=[.J (o 1 []),.J (o 5 []),.af false,.J (o 1 []),.a0 [] [] (bf [0,1,5])];
  (by
  rcases bj with ei|ei
  ·exact (.ret (a8 (t1.append [.sub (.exit 0) [] [],.J (o 1 [])]) (.az h1 (CT ai))))
  ·exact (.ret (a8 (t1.append [.sub (.ret) [(4,.b false)] []]) (.az h1 (CT ai)))))))
def kM (aa:cX) (aw:cX):Option Bool :=
 r9 aa.bs aw.bs >>= fun r1 =>
 if r1=true then
  rY aa.bZ aw.bZ >>= fun bg =>
  if bg=true then
   some true
  else
   some false
 else
  some false
theorem lb {aa:cX} {aw:cX}:bm (kM aa aw) (fun r=>Con a2 10 [.agg [.isl 4 (aa.bs.map au),.isl 3 (aa.bZ.map ay)],.agg [.isl 4 (aw.bs.map au),.isl 3 (aw.bZ.map ay)]] [] (.b r) []):=by
 unfold kM
 exact .aJ fun r1 R =>
  (let t1:List bx:=[.J (o 3 []),.J (o 4 (aj (bM 2 (.b r1) true) (o 1 [])))];
  have aO:=((.az (JP r1 R) (a1.b r1)):b2 _);
  .ite (fun ai =>
  .aJ fun bg aM =>
  (let t3:List bx:=t1.append [.af false,.J (o 4 (aj (bM 2 (.b bg) true) (o 1 [])))];
  have c8:=aO.aC (.bp (bE ai) (Jx bg aM) (a1.b bg));
  .ite (fun ba =>
  .ret (a8 (t3.append [.af false,.J (o 1 [])]) (c8.aC (.e1 (bE ba)))))
  (fun ba =>
  .ret (a8 (t3.append [.af true,.J (o 1 [])]) (c8.aC (.e1 (bS ba)))))))
  (fun ai =>
  .ret (a8 (t1.append [.af true,.J (o 1 [])]) (aO.aC (.e1 (bS ai))))))
def yX (aa:(List Int)) (aw:(List Int)):Int→S:=fun ah=>c6 [(0,.isl 1 (aa.map U)),(1,.isl 1 (aw.map U)),(5,.n .i64 ah)] []
def Da (aa:(List Int)) (aw:(List Int)):((Unit)⊕(Unit))→dc
 | .inl a=>⟨some 0,[],[]⟩
 | .inr a=>⟨none,[(4,.b false)],[]⟩
def pX (aa:(List Int)) (aw:(List Int)) (ah:Int):Option ((Int)⊕((Unit)⊕(Unit))) :=
 if (decide (ah<(len_ U aa)))=true then
  if 0≤ah∧ah<aa.length then
  aa[ah.toNat]? >>= fun al =>
  if 0≤ah∧ah<aw.length then
  aw[ah.toNat]? >>= fun bP =>
  if (al != bP)=true then
   some (.inr (.inr ()))
  else
   some (.inl (ab (ah+(1:Int))))
  else none
  else none
 else
  some (.inr (.inl ()))
def z4 (aa:(List Int)) (aw:(List Int)) (ah:Int):Option ((Unit)⊕(Unit)):=iter (fun w:Int=>pX aa aw w) ah
theorem Ix {aa:(List Int)} {aw:(List Int)} {ah:Int}:bm (pX aa aw ah) (dI a2 26 0 64 [1,1,0,1,0,0] (yX aa aw ah) (yX aa aw) (Da aa aw)):=by
 unfold pX
 exact .ite (fun h1 =>
  .bu fun R =>
  .aJ fun al ax =>
  .bu fun aM =>
  .aJ fun bP a5 =>
  (let t1:List bx:=[.J (o 4 []),.af true,.J (o 3 (aj (.bQ (U al)) (o 3 (aj (.bQ (U bP)) (o 1 [])))))];
  have aO:=((.eQ h1 R.1 (c9 U R.2) (cm U ax) aM.1 (c9 U aM.2) (cm U a5)):b2 _);
  .ite (fun bV =>
  .ret (bi (t1.append [.af true,.J (o 1 []),.a0 [] [] (bf [4])]) (aO.aC (.e1 bV))))
  (fun bV =>
  .ret (bi (t1.append [.af false,.J (o 3 []),.a0 [] [] (bf [0,1,5])]) (aO.aC (.e1 bV))))))
  (fun h1 =>
  .ret (bi [.J (o 4 []),.af false,.a0 [] [] []] (.e1 h1)))
theorem Dm {aa:(List Int)} {aw:(List Int)} {ah:Int} {r} (h:z4 aa aw ah=some r):dJ a2 26 0 64 [1,1,0,1,0,0] (yX aa aw) (Da aa aw) ah r:=dK (fun _=>Ix) h
def qs (aa:(List Int)) (aw:(List Int)):Option Bool :=
 if ((len_ U aa) != (len_ U aw))=true then
  some false
 else
  z4 aa aw 0 >>= fun bj =>
  match bj with
  | .inl ei=>(some true)
  | .inr ei=>(some false)
theorem DJ {aa:(List Int)} {aw:(List Int)}:bm (qs aa aw) (fun r=>Con a2 64 [.isl 1 (aa.map U),.isl 1 (aw.map U)] [] (.b r) []):=by
 unfold qs
 exact .ite (fun h1 =>
  .ret (a8 [.J (o 1 []),.J (o 5 []),.af true,.J (o 1 [])] (.e1 h1)))
  (fun h1 =>
  .aJ fun bj ai =>
  (let t1:List bx:=[.J (o 1 []),.J (o 5 []),.af false,.J (o 1 []),.a0 [] [] (bf [0,1,5])];
  (by
  rcases bj with ei|ei
  ·exact (.ret (a8 (t1.append [.sub (.exit 0) [] [],.J (o 1 [])]) (.az h1 (Dm ai))))
  ·exact (.ret (a8 (t1.append [.sub (.ret) [(4,.b false)] []]) (.az h1 (Dm ai)))))))
def vi (aa:hi) (aw:hi):Option Bool :=
 if (aa.fo == aw.fo)=true then
  qs aa.cn aw.cn >>= fun bj =>
  if bj=true then
   some true
  else
   some false
 else
  some false
theorem JR {aa:hi} {aw:hi}:bm (vi aa aw) (fun r=>Con a2 63 [.agg [.b aa.fo,.isl 1 (aa.cn.map U)],.agg [.b aw.fo,.isl 1 (aw.cn.map U)]] [] (.b r) []):=by
 unfold vi
 exact .ite (fun h1 =>
  .aJ fun bj ai =>
  (let t1:List bx:=[.J (o 3 []),.J (o 5 []),.af false,.J (o 4 (aj (bM 2 (.b bj) true) (o 1 [])))];
  have aO:=((.bp (bE h1) (DJ bj ai) (a1.b bj)):b2 _);
  .ite (fun ax =>
  .ret (a8 (t1.append [.af false,.J (o 1 [])]) (aO.aC (.e1 (bE ax)))))
  (fun ax =>
  .ret (a8 (t1.append [.af true,.J (o 1 [])]) (aO.aC (.e1 (bS ax)))))))
  (fun h1 =>
  .ret (a8 [.J (o 3 []),.J (o 5 []),.af true,.J (o 1 [])] (.e1 (bS h1))))
def sG (aa:cD) (aw:cD):Option Bool :=
 vi aa.ch aw.ch >>= fun r1 =>
 if r1=true then
  qs aa.cv aw.cv >>= fun bg =>
  if bg=true then
   some true
  else
   some false
 else
  some false
theorem KF {aa:cD} {aw:cD}:bm (sG aa aw) (fun r=>Con a2 31 [.agg [.b aa.ch.fo,.isl 1 (aa.ch.cn.map U),.isl 1 (aa.cv.map U)],.agg [.b aw.ch.fo,.isl 1 (aw.ch.cn.map U),.isl 1 (aw.cv.map U)]] [] (.b r) []):=by
 unfold sG
 exact .aJ fun r1 R =>
  (let t1:List bx:=[.J (o 3 []),.J (o 4 (aj (bM 2 (.b r1) true) (o 1 [])))];
  have aO:=((.az (JR r1 R) (a1.b r1)):b2 _);
  .ite (fun ai =>
  .aJ fun bg aM =>
  (let t3:List bx:=t1.append [.af false,.J (o 4 (aj (bM 2 (.b bg) true) (o 1 [])))];
  have c8:=aO.aC (.bp (bE ai) (DJ bg aM) (a1.b bg));
  .ite (fun ba =>
  .ret (a8 (t3.append [.af false,.J (o 1 [])]) (c8.aC (.e1 (bE ba)))))
  (fun ba =>
  .ret (a8 (t3.append [.af true,.J (o 1 [])]) (c8.aC (.e1 (bS ba)))))))
  (fun ai =>
  .ret (a8 (t1.append [.af true,.J (o 1 [])]) (aO.aC (.e1 (bS ai))))))
def yY (aa:(List cD)) (aw:(List cD)):Int→S:=fun ah=>c6 [(0,.isl 3 (aa.map eTRat)),(1,.isl 3 (aw.map eTRat)),(5,.n .i64 ah)] []
def Db (aa:(List cD)) (aw:(List cD)):((Unit)⊕(Unit))→dc
 | .inl a=>⟨some 0,[],[]⟩
 | .inr a=>⟨none,[(4,.b false)],[]⟩
def pY (aa:(List cD)) (aw:(List cD)) (ah:Int):Option ((Int)⊕((Unit)⊕(Unit))) :=
 if (decide (ah<(len_ eTRat aa)))=true then
  if 0≤ah∧ah<aa.length then
  aa[ah.toNat]? >>= fun al =>
  if 0≤ah∧ah<aw.length then
  aw[ah.toNat]? >>= fun bP =>
  sG al bP >>= fun en =>
  if en=true then
   some (.inl (ab (ah+(1:Int))))
  else
   some (.inr (.inr ()))
  else none
  else none
 else
  some (.inr (.inl ()))
def z5 (aa:(List cD)) (aw:(List cD)) (ah:Int):Option ((Unit)⊕(Unit)):=iter (fun w:Int=>pY aa aw w) ah
theorem Iy {aa:(List cD)} {aw:(List cD)} {ah:Int}:bm (pY aa aw ah) (dI a2 27 0 11 [1,1,0,1,0,0] (yY aa aw ah) (yY aa aw) (Db aa aw)):=by
 unfold pY
 exact .ite (fun h1 =>
  .bu fun R =>
  .aJ fun al ax =>
  .bu fun aM =>
  .aJ fun bP a5 =>
  .aJ fun en dv =>
  (let t1:List bx:=[.J (o 4 []),.af true,.J (o 3 (aj (.bQ (eTRat al)) (o 3 (aj (.bQ (eTRat bP)) (aj (bM 2 (.b en) true) (o 1 []))))))];
  have aO:=((.br h1 R.1 (c9 eTRat R.2) (cm eTRat ax) aM.1 (c9 eTRat aM.2) (cm eTRat a5) (KF en dv) (.e1 (a1.b en))):b2 _);
  .ite (fun df =>
  .ret (bi (t1.append [.af false,.J (o 3 []),.a0 [] [] (bf [0,1,5])]) (aO.aC (.e1 (bE df)))))
  (fun df =>
  .ret (bi (t1.append [.af true,.J (o 1 []),.a0 [] [] (bf [4])]) (aO.aC (.e1 (bS df)))))))
  (fun h1 =>
  .ret (bi [.J (o 4 []),.af false,.a0 [] [] []] (.e1 h1)))
theorem Dn {aa:(List cD)} {aw:(List cD)} {ah:Int} {r} (h:z5 aa aw ah=some r):dJ a2 27 0 11 [1,1,0,1,0,0] (yY aa aw) (Db aa aw) ah r:=dK (fun _=>Iy) h
def oq (aa:(List cD)) (aw:(List cD)):Option Bool :=
 if ((len_ eTRat aa) != (len_ eTRat aw))=true then
  some false
 else
  z5 aa aw 0 >>= fun bj =>
  match bj with
  | .inl ei=>(some true)
  | .inr ei=>(some false)
theorem z6 {aa:(List cD)} {aw:(List cD)}:bm (oq aa aw) (fun r=>Con a2 11 [.isl 3 (aa.map eTRat),.isl 3 (aw.map eTRat)] [] (.b r) []):=by
 unfold oq
 exact .ite (fun h1 =>
  .ret (a8 [.J (o 1 []),.J (o 5 []),.af true,.J (o 1 [])] (.e1 h1)))
  (fun h1 =>
  .aJ fun bj ai =>
  (let t1:List bx:=[.J (o 1 []),.J (o 5 []),.af false,.J (o 1 []),.a0 [] [] (bf [0,1,5])];
  (by
  rcases bj with ei|ei
  ·exact (.ret (a8 (t1.append [.sub (.exit 0) [] [],.J (o 1 [])]) (.az h1 (Dn ai))))
  ·exact (.ret (a8 (t1.append [.sub (.ret) [(4,.b false)] []]) (.az h1 (Dn ai)))))))
def yi:(Int×ByteArray)→S:=fun (aG,kT)=>c6 [(0,.n .i64 aG),(3,.s kT)] []
def yz:ByteArray→dc
 | a=>⟨some 0,[(3,.s a)],[]⟩
def pO (aG:Int) (kT:ByteArray):Option ((Int×ByteArray)⊕(ByteArray)) :=
 if (decide ((0:Int)<aG))=true then
  if (mi [(IntKind.wrap .u8 (ab ((48:Int)+(aG.tmod (10:Int)))))]).size+kT.size<9223372036854775808 then
  some (.inl (ab (aG.tdiv (10:Int)),(mi [(IntKind.wrap .u8 (ab ((48:Int)+(aG.tmod (10:Int)))))])++kT))
  else none
 else
  some (.inr kT)
def zH (aG:Int) (kT:ByteArray):Option (ByteArray):=iter (fun w:Int×ByteArray=>pO w.1 w.2) (aG,kT)
theorem H3 {aG:Int} {kT:ByteArray}:bm (pO aG kT) (dI a2 20 0 65 [1,1,1,0,0,0] (yi (aG,kT)) (yi) (yz)):=by
 unfold pO
 exact .ite (fun h1 =>
  .bu fun R =>
  .ret (bi [.J (o 2 []),.af true,.J (o 9 []),.J (o 3 []),.a0 [] [] (bf [0,3])] (.cI h1 (by decide:(10:Int)≠0) R (by decide:(10:Int)≠0))))
  (fun h1 =>
  .ret (bi [.J (o 2 []),.af false,.a0 [] [] (bf [3])] (.e1 h1)))
theorem I5 {aG:Int} {kT:ByteArray} {r} (h:zH aG kT=some r):dJ a2 20 0 65 [1,1,1,0,0,0] (yi) (yz) (aG,kT) r:=dK (fun _=>H3) h
def nb (aG:Int):Option ByteArray :=
 if (decide (aG≤(0:Int)))=true then
  some (⟨#[109,48]⟩:ByteArray)
 else
  zH aG (⟨#[]⟩:ByteArray) >>= fun bj =>
  if (⟨#[109]⟩:ByteArray).size+bj.size<9223372036854775808 then
  some ((⟨#[109]⟩:ByteArray)++bj)
  else none
theorem Du {aG:Int}:bm (nb aG) (fun r=>Con a2 65 [.n .i64 aG] [] (.s r) []):=by
 unfold nb
 exact .ite (fun h1 =>
  .ret (a8 [.J (o 1 []),.J (o 2 []),.af true,.J (o 1 [])] (.e1 h1)))
  (fun h1 =>
  .aJ fun bj ai =>
  .bu fun ax =>
  .ret (a8 [.J (o 1 []),.J (o 2 []),.af false,.J (o 1 []),.a0 [] [] (bf [0,3]),(yz bj).eU,.J (o 3 [])] (.bp h1 (I5 ai) ax)))
def xC:(Int×Int×(List aB))→S:=fun (aG,ah,an)=>c6 [(0,.aV 0 0 0 an.length),(1,.n .i64 aG),(5,.n .i64 ah)] [[ae.mk 4 (an.map au) .live]]
def xJ:(Int×(List aB))→dc
 | a=>⟨some 0,[(1,.n .i64 a.1)],[[ae.mk 4 (a.2.map au) .live]]⟩
def l2 (aG:Int) (ah:Int) (an:(List aB)):Option ((Int×Int×(List aB))⊕(Int×(List aB))) :=
 if (decide (ah<((an.length:Nat):Int)))=true then
  nb aG >>= fun bj =>
  if 0≤ah∧ah<(an.length:Nat) then
  an[(0+ah.toNat)]? >>= fun bU =>
  (an.set (0+ah.toNat) (⟨bj,bU.c5,bU.cJ,bU.cf⟩:aB))[(0+ah.toNat)]? >>= fun b1 =>
  ((an.set (0+ah.toNat) (⟨bj,bU.c5,bU.cJ,bU.cf⟩:aB)).set (0+ah.toNat) (⟨b1.cu,ab (aG+(1:Int)),b1.cJ,b1.cf⟩:aB))[(0+ah.toNat)]? >>= fun dT =>
  (((an.set (0+ah.toNat) (⟨bj,bU.c5,bU.cJ,bU.cf⟩:aB)).set (0+ah.toNat) (⟨b1.cu,ab (aG+(1:Int)),b1.cJ,b1.cf⟩:aB)).set (0+ah.toNat) (⟨dT.cu,dT.c5,ab ((ab (aG+(1:Int)))+(1:Int)),dT.cf⟩:aB))[(0+ah.toNat)]? >>= fun gD =>
  some (.inl (ab ((ab ((ab ((ab (aG+(1:Int)))+(1:Int)))+(1:Int)))+(1:Int)),ab (ah+(1:Int)),(((an.set (0+ah.toNat) (⟨bj,bU.c5,bU.cJ,bU.cf⟩:aB)).set (0+ah.toNat) (⟨b1.cu,ab (aG+(1:Int)),b1.cJ,b1.cf⟩:aB)).set (0+ah.toNat) (⟨dT.cu,dT.c5,ab ((ab (aG+(1:Int)))+(1:Int)),dT.cf⟩:aB)).set (0+ah.toNat) (⟨gD.cu,gD.c5,gD.cJ,(((ab ((ab ((ab (aG+(1:Int)))+(1:Int)))+(1:Int))).tmod (3:Int)) == (0:Int))⟩:aB)))
  else none
 else
  some (.inr (aG,an))
def rL (aG:Int) (ah:Int) (an:(List aB)):Option (Int×(List aB)):=iter (fun w:Int×Int×(List aB)=>l2 w.1 w.2.1 w.2.2) (aG,ah,an)
theorem Hv {aG:Int} {ah:Int} {an:(List aB)}:bm (l2 aG ah an) (dI a2 44 1 32 [1,0,1,0,0] (xC (aG,ah,an)) (xC) (xJ)):=by
 unfold l2
 exact .ite (fun h1 =>
  .aJ fun bj ai =>
  .bu fun ax =>
  .aJ fun bU ba =>
  .aJ fun b1 bV =>
  .aJ fun dT df =>
  .aJ fun gD ht =>
  .ret (bi [.J (o 4 []),.af true,.J (o 3 (aj (bM 1 (.s bj) true) (o 1 (aj (.bQ (au bU)) (aj (.bQ (au bU)) []))))),.J (o 3 []),.J (o 4 (aj (.bQ (au b1)) (aj (.bQ (au b1)) []))),.J (o 3 []),.J (o 4 (aj (.bQ (au dT)) (aj (.bQ (au dT)) []))),.J (o 3 []),.J (o 6 (aj (.bQ (au gD)) (aj (.bQ (au gD)) []))),.J (o 3 []),.J (o 3 []),.a0 [0] [.dP [ae.mk 4 (((((an.set (0+ah.toNat) (⟨bj,bU.c5,bU.cJ,bU.cf⟩:aB)).set (0+ah.toNat) (⟨b1.cu,ab (aG+(1:Int)),b1.cJ,b1.cf⟩:aB)).set (0+ah.toNat) (⟨dT.cu,dT.c5,ab ((ab (aG+(1:Int)))+(1:Int)),dT.cf⟩:aB)).set (0+ah.toNat) (⟨gD.cu,gD.c5,gD.cJ,(((ab ((ab ((ab (aG+(1:Int)))+(1:Int)))+(1:Int))).tmod (3:Int)) == (0:Int))⟩:aB)).map au) .live]] [(0,fV (((((an.set (0+ah.toNat) (⟨bj,bU.c5,bU.cJ,bU.cf⟩:aB)).set (0+ah.toNat) (⟨b1.cu,ab (aG+(1:Int)),b1.cJ,b1.cf⟩:aB)).set (0+ah.toNat) (⟨dT.cu,dT.c5,ab ((ab (aG+(1:Int)))+(1:Int)),dT.cf⟩:aB)).set (0+ah.toNat) (⟨gD.cu,gD.c5,gD.cJ,(((ab ((ab ((ab (aG+(1:Int)))+(1:Int)))+(1:Int))).tmod (3:Int)) == (0:Int))⟩:aB)).length)),(1,ii),(5,ii)]] (.br h1 (Du bj ai) (a1.s bj) ax.1 ax.2 (cm au ba) (cm au ba) ax.1 (.br ax.2 (iE (e7 (aT au an) (0+ah.toNat) (⟨bj,bU.c5,bU.cJ,bU.cf⟩:aB) (rfl:(setCells (au bU) 0 [.s bj])=au (⟨bj,bU.c5,bU.cJ,bU.cf⟩:aB))) bV) (iE (e7 (aT au an) (0+ah.toNat) (⟨bj,bU.c5,bU.cJ,bU.cf⟩:aB) (rfl:(setCells (au bU) 0 [.s bj])=au (⟨bj,bU.c5,bU.cJ,bU.cf⟩:aB))) bV) ax.1 ax.2 (iE (e7 (e7 (aT au an) (0+ah.toNat) (⟨bj,bU.c5,bU.cJ,bU.cf⟩:aB) (rfl:(setCells (au bU) 0 [.s bj])=au (⟨bj,bU.c5,bU.cJ,bU.cf⟩:aB))) (0+ah.toNat) (⟨b1.cu,ab (aG+(1:Int)),b1.cJ,b1.cf⟩:aB) (rfl:(setCells (au b1) 1 [.n .i64 (ab (aG+(1:Int)))])=au (⟨b1.cu,ab (aG+(1:Int)),b1.cJ,b1.cf⟩:aB))) df) (iE (e7 (e7 (aT au an) (0+ah.toNat) (⟨bj,bU.c5,bU.cJ,bU.cf⟩:aB) (rfl:(setCells (au bU) 0 [.s bj])=au (⟨bj,bU.c5,bU.cJ,bU.cf⟩:aB))) (0+ah.toNat) (⟨b1.cu,ab (aG+(1:Int)),b1.cJ,b1.cf⟩:aB) (rfl:(setCells (au b1) 1 [.n .i64 (ab (aG+(1:Int)))])=au (⟨b1.cu,ab (aG+(1:Int)),b1.cJ,b1.cf⟩:aB))) df) (by decide:(3:Int)≠0) (.eQ ax.1 ax.2 (iE (e7 (e7 (e7 (aT au an) (0+ah.toNat) (⟨bj,bU.c5,bU.cJ,bU.cf⟩:aB) (rfl:(setCells (au bU) 0 [.s bj])=au (⟨bj,bU.c5,bU.cJ,bU.cf⟩:aB))) (0+ah.toNat) (⟨b1.cu,ab (aG+(1:Int)),b1.cJ,b1.cf⟩:aB) (rfl:(setCells (au b1) 1 [.n .i64 (ab (aG+(1:Int)))])=au (⟨b1.cu,ab (aG+(1:Int)),b1.cJ,b1.cf⟩:aB))) (0+ah.toNat) (⟨dT.cu,dT.c5,ab ((ab (aG+(1:Int)))+(1:Int)),dT.cf⟩:aB) (rfl:(setCells (au dT) 2 [.n .i64 (ab ((ab (aG+(1:Int)))+(1:Int)))])=au (⟨dT.cu,dT.c5,ab ((ab (aG+(1:Int)))+(1:Int)),dT.cf⟩:aB))) ht) (iE (e7 (e7 (e7 (aT au an) (0+ah.toNat) (⟨bj,bU.c5,bU.cJ,bU.cf⟩:aB) (rfl:(setCells (au bU) 0 [.s bj])=au (⟨bj,bU.c5,bU.cJ,bU.cf⟩:aB))) (0+ah.toNat) (⟨b1.cu,ab (aG+(1:Int)),b1.cJ,b1.cf⟩:aB) (rfl:(setCells (au b1) 1 [.n .i64 (ab (aG+(1:Int)))])=au (⟨b1.cu,ab (aG+(1:Int)),b1.cJ,b1.cf⟩:aB))) (0+ah.toNat) (⟨dT.cu,dT.c5,ab ((ab (aG+(1:Int)))+(1:Int)),dT.cf⟩:aB) (rfl:(setCells (au dT) 2 [.n .i64 (ab ((ab (aG+(1:Int)))+(1:Int)))])=au (⟨dT.cu,dT.c5,ab ((ab (aG+(1:Int)))+(1:Int)),dT.cf⟩:aB))) ht) (eA 4 .live (e7 (e7 (e7 (e7 (aT au an) (0+ah.toNat) (⟨bj,bU.c5,bU.cJ,bU.cf⟩:aB) (rfl:(setCells (au bU) 0 [.s bj])=au (⟨bj,bU.c5,bU.cJ,bU.cf⟩:aB))) (0+ah.toNat) (⟨b1.cu,ab (aG+(1:Int)),b1.cJ,b1.cf⟩:aB) (rfl:(setCells (au b1) 1 [.n .i64 (ab (aG+(1:Int)))])=au (⟨b1.cu,ab (aG+(1:Int)),b1.cJ,b1.cf⟩:aB))) (0+ah.toNat) (⟨dT.cu,dT.c5,ab ((ab (aG+(1:Int)))+(1:Int)),dT.cf⟩:aB) (rfl:(setCells (au dT) 2 [.n .i64 (ab ((ab (aG+(1:Int)))+(1:Int)))])=au (⟨dT.cu,dT.c5,ab ((ab (aG+(1:Int)))+(1:Int)),dT.cf⟩:aB))) (0+ah.toNat) (⟨gD.cu,gD.c5,gD.cJ,(((ab ((ab ((ab (aG+(1:Int)))+(1:Int)))+(1:Int))).tmod (3:Int)) == (0:Int))⟩:aB) (rfl:(setCells (au gD) 3 [.b (((ab ((ab ((ab (aG+(1:Int)))+(1:Int)))+(1:Int))).tmod (3:Int)) == (0:Int))])=au (⟨gD.cu,gD.c5,gD.cJ,(((ab ((ab ((ab (aG+(1:Int)))+(1:Int)))+(1:Int))).tmod (3:Int)) == (0:Int))⟩:aB)))) (bD 4 .live eh ((((an.set (0+ah.toNat) (⟨bj,bU.c5,bU.cJ,bU.cf⟩:aB)).set (0+ah.toNat) (⟨b1.cu,ab (aG+(1:Int)),b1.cJ,b1.cf⟩:aB)).set (0+ah.toNat) (⟨dT.cu,dT.c5,ab ((ab (aG+(1:Int)))+(1:Int)),dT.cf⟩:aB)).set (0+ah.toNat) (⟨gD.cu,gD.c5,gD.cJ,(((ab ((ab ((ab (aG+(1:Int)))+(1:Int)))+(1:Int))).tmod (3:Int)) == (0:Int))⟩:aB))) (gU (gU (gU (gU (bw an) (0+ah.toNat) (⟨bj,bU.c5,bU.cJ,bU.cf⟩:aB)) (0+ah.toNat) (⟨b1.cu,ab (aG+(1:Int)),b1.cJ,b1.cf⟩:aB)) (0+ah.toNat) (⟨dT.cu,dT.c5,ab ((ab (aG+(1:Int)))+(1:Int)),dT.cf⟩:aB)) (0+ah.toNat) (⟨gD.cu,gD.c5,gD.cJ,(((ab ((ab ((ab (aG+(1:Int)))+(1:Int)))+(1:Int))).tmod (3:Int)) == (0:Int))⟩:aB)))))))
  (fun h1 =>
  .ret (bi [.J (o 4 []),.af false,.a0 [0] [.pure] (bf [1])] (.az h1 (bD 4 .live eh an))))
theorem Ie {aG:Int} {ah:Int} {an:(List aB)} {r} (h:rL aG ah an=some r):dJ a2 44 1 32 [1,0,1,0,0] (xC) (xJ) (aG,ah,an) r:=dK (fun _=>Hv) h
def n9 (aG:Int) (c7:(List aB)):Option (Int×(List aB)) :=
 rL aG 0 c7 >>= fun r1 =>
 some (r1.1,r1.2)
theorem IU {aG:Int} {c7:(List aB)}:bm (n9 aG c7) (fun a=>Con a2 32 [.aV 0 0 0 c7.length,.n .i64 aG] [[ae.mk 4 (c7.map au) .live]] (.n .i64 a.1) [[ae.mk 4 (a.2.map au) .live]]):=by
 unfold n9
 exact .aJ fun r1 R =>
  .ret (gQ [.J (o 1 []),.J (o 1 []),.a0 [0] [.pure] (bf [0,1,5]),(xJ r1).eU,.J (o 2 [])] [0] [.pure] (.bp (bD 4 .live eh c7) (Ie R) (bD 4 .live eh r1.2)))
def xB:(Int×Int×(List aN))→S:=fun (aG,ah,an)=>c6 [(0,.aV 0 0 0 an.length),(1,.n .i64 aG),(5,.n .i64 ah)] [[ae.mk 3 (an.map ay) .live]]
def xD:(Int×(List aN))→dc
 | a=>⟨some 0,[(1,.n .i64 a.1)],[[ae.mk 3 (a.2.map ay) .live]]⟩
def l1 (aG:Int) (ah:Int) (an:(List aN)):Option ((Int×Int×(List aN))⊕(Int×(List aN))) :=
 if (decide (ah<((an.length:Nat):Int)))=true then
  if 0≤ah∧ah<(an.length:Nat) then
  an[(0+ah.toNat)]? >>= fun al =>
  (an.set (0+ah.toNat) (⟨aG,al.c0,al.dq⟩:aN))[(0+ah.toNat)]? >>= fun bU =>
  ((an.set (0+ah.toNat) (⟨aG,al.c0,al.dq⟩:aN)).set (0+ah.toNat) (⟨bU.dg,ab (aG+(1:Int)),bU.dq⟩:aN))[(0+ah.toNat)]? >>= fun b1 =>
  some (.inl (ab ((ab ((ab (aG+(1:Int)))+(1:Int)))+(1:Int)),ab (ah+(1:Int)),((an.set (0+ah.toNat) (⟨aG,al.c0,al.dq⟩:aN)).set (0+ah.toNat) (⟨bU.dg,ab (aG+(1:Int)),bU.dq⟩:aN)).set (0+ah.toNat) (⟨b1.dg,b1.c0,ab ((ab (aG+(1:Int)))+(1:Int))⟩:aN)))
  else none
 else
  some (.inr (aG,an))
def rJ (aG:Int) (ah:Int) (an:(List aN)):Option (Int×(List aN)):=iter (fun w:Int×Int×(List aN)=>l1 w.1 w.2.1 w.2.2) (aG,ah,an)
theorem Hu {aG:Int} {ah:Int} {an:(List aN)}:bm (l1 aG ah an) (dI a2 34 1 33 [1,0,1,0,0] (xB (aG,ah,an)) (xB) (xD)):=by
 unfold l1
 exact .ite (fun h1 =>
  .bu fun R =>
  .aJ fun al ax =>
  .aJ fun bU ba =>
  .aJ fun b1 bV =>
  .ret (bi [.J (o 4 []),.af true,.J (o 4 (aj (.bQ (ay al)) (aj (.bQ (ay al)) []))),.J (o 3 []),.J (o 4 (aj (.bQ (ay bU)) (aj (.bQ (ay bU)) []))),.J (o 3 []),.J (o 4 (aj (.bQ (ay b1)) (aj (.bQ (ay b1)) []))),.J (o 3 []),.J (o 3 []),.a0 [0] [.dP [ae.mk 3 ((((an.set (0+ah.toNat) (⟨aG,al.c0,al.dq⟩:aN)).set (0+ah.toNat) (⟨bU.dg,ab (aG+(1:Int)),bU.dq⟩:aN)).set (0+ah.toNat) (⟨b1.dg,b1.c0,ab ((ab (aG+(1:Int)))+(1:Int))⟩:aN)).map ay) .live]] [(0,fV ((((an.set (0+ah.toNat) (⟨aG,al.c0,al.dq⟩:aN)).set (0+ah.toNat) (⟨bU.dg,ab (aG+(1:Int)),bU.dq⟩:aN)).set (0+ah.toNat) (⟨b1.dg,b1.c0,ab ((ab (aG+(1:Int)))+(1:Int))⟩:aN)).length)),(1,ii),(5,ii)]] (.br h1 R.1 R.2 (cm ay ax) (cm ay ax) R.1 R.2 (iE (e7 (aT ay an) (0+ah.toNat) (⟨aG,al.c0,al.dq⟩:aN) (rfl:(setCells (ay al) 0 [.n .i64 aG])=ay (⟨aG,al.c0,al.dq⟩:aN))) ba) (.hN (iE (e7 (aT ay an) (0+ah.toNat) (⟨aG,al.c0,al.dq⟩:aN) (rfl:(setCells (ay al) 0 [.n .i64 aG])=ay (⟨aG,al.c0,al.dq⟩:aN))) ba) R.1 R.2 (iE (e7 (e7 (aT ay an) (0+ah.toNat) (⟨aG,al.c0,al.dq⟩:aN) (rfl:(setCells (ay al) 0 [.n .i64 aG])=ay (⟨aG,al.c0,al.dq⟩:aN))) (0+ah.toNat) (⟨bU.dg,ab (aG+(1:Int)),bU.dq⟩:aN) (rfl:(setCells (ay bU) 1 [.n .i64 (ab (aG+(1:Int)))])=ay (⟨bU.dg,ab (aG+(1:Int)),bU.dq⟩:aN))) bV) (iE (e7 (e7 (aT ay an) (0+ah.toNat) (⟨aG,al.c0,al.dq⟩:aN) (rfl:(setCells (ay al) 0 [.n .i64 aG])=ay (⟨aG,al.c0,al.dq⟩:aN))) (0+ah.toNat) (⟨bU.dg,ab (aG+(1:Int)),bU.dq⟩:aN) (rfl:(setCells (ay bU) 1 [.n .i64 (ab (aG+(1:Int)))])=ay (⟨bU.dg,ab (aG+(1:Int)),bU.dq⟩:aN))) bV) (eA 3 .live (e7 (e7 (e7 (aT ay an) (0+ah.toNat) (⟨aG,al.c0,al.dq⟩:aN) (rfl:(setCells (ay al) 0 [.n .i64 aG])=ay (⟨aG,al.c0,al.dq⟩:aN))) (0+ah.toNat) (⟨bU.dg,ab (aG+(1:Int)),bU.dq⟩:aN) (rfl:(setCells (ay bU) 1 [.n .i64 (ab (aG+(1:Int)))])=ay (⟨bU.dg,ab (aG+(1:Int)),bU.dq⟩:aN))) (0+ah.toNat) (⟨b1.dg,b1.c0,ab ((ab (aG+(1:Int)))+(1:Int))⟩:aN) (rfl:(setCells (ay b1) 2 [.n .i64 (ab ((ab (aG+(1:Int)))+(1:Int)))])=ay (⟨b1.dg,b1.c0,ab ((ab (aG+(1:Int)))+(1:Int))⟩:aN)))) (bD 3 .live dl (((an.set (0+ah.toNat) (⟨aG,al.c0,al.dq⟩:aN)).set (0+ah.toNat) (⟨bU.dg,ab (aG+(1:Int)),bU.dq⟩:aN)).set (0+ah.toNat) (⟨b1.dg,b1.c0,ab ((ab (aG+(1:Int)))+(1:Int))⟩:aN))) (gU (gU (gU (bw an) (0+ah.toNat) (⟨aG,al.c0,al.dq⟩:aN)) (0+ah.toNat) (⟨bU.dg,ab (aG+(1:Int)),bU.dq⟩:aN)) (0+ah.toNat) (⟨b1.dg,b1.c0,ab ((ab (aG+(1:Int)))+(1:Int))⟩:aN))))))
  (fun h1 =>
  .ret (bi [.J (o 4 []),.af false,.a0 [0] [.pure] (bf [1])] (.az h1 (bD 3 .live dl an))))
theorem H4 {aG:Int} {ah:Int} {an:(List aN)} {r} (h:rJ aG ah an=some r):dJ a2 34 1 33 [1,0,1,0,0] (xB) (xD) (aG,ah,an) r:=dK (fun _=>Hu) h
def m5 (aG:Int) (c7:(List aN)):Option (Int×(List aN)) :=
 rJ aG 0 c7 >>= fun r1 =>
 some (r1.1,r1.2)
theorem CO {aG:Int} {c7:(List aN)}:bm (m5 aG c7) (fun a=>Con a2 33 [.aV 0 0 0 c7.length,.n .i64 aG] [[ae.mk 3 (c7.map ay) .live]] (.n .i64 a.1) [[ae.mk 3 (a.2.map ay) .live]]):=by
 unfold m5
 exact .aJ fun r1 R =>
  .ret (gQ [.J (o 1 []),.J (o 1 []),.a0 [0] [.pure] (bf [0,1,5]),(xD r1).eU,.J (o 2 [])] [0] [.pure] (.bp (bD 3 .live dl c7) (H4 R) (bD 3 .live dl r1.2)))
def l4 (aG:Int) (c7:(List aB)) (rn:(List aN)):Option (Int×(List aB)×(List aN)) :=
 n9 aG c7 >>= fun r1 =>
 m5 r1.1 rn >>= fun bY =>
 some (bY.1,r1.2,bY.2)
theorem uR {aG:Int} {c7:(List aB)} {rn:(List aN)}:bm (l4 aG c7 rn) (fun a=>Con a2 12 [.agg [.aV 0 0 0 c7.length,.aV 1 0 0 rn.length],.n .i64 aG] [[ae.mk 4 (c7.map au) .live],[ae.mk 3 (rn.map ay) .live]] (.n .i64 a.1) [[ae.mk 4 (a.2.1.map au) .live],[ae.mk 3 (a.2.2.map ay) .live]]):=by
 unfold l4
 exact .aJ fun r1 R =>
  .aJ fun bY ax =>
  .ret (gQ [.J (o 2 []),.J (o 3 (aj (.call {aA:=[.row 0],bR:=[.pure],ac:=[ii,ii],r:= .n .i64 r1.1,cC:=[[ae.mk 4 (r1.2.map au) .live]],dE:=ii,d9:=[.pure],cK:=[0],cH:=false}) (o 1 []))),.J (o 3 (aj (.call {aA:=[.row 1],bR:=[.pure],ac:=[ii,ii],r:= .n .i64 bY.1,cC:=[[ae.mk 3 (bY.2.map ay) .live]],dE:=ii,d9:=[.pure],cK:=[1],cH:=false}) (o 1 []))),.J (o 2 [])] [0,1] [.pure,.pure] (.hN (eR 4 eh c7) (eR 4 eh r1.2) (IU r1 R) (eR 3 dl rn) (eR 3 dl bY.2) (CO bY ax) (bD 4 .live eh r1.2) (bD 3 .live dl bY.2)))
def yj (aa:(List Int)) (aG:Int):Unit→S:=fun _=>c6 [(0,.isl 1 (aa.map U)),(1,.n .i64 aG),(5,.n .i64 (0:Int))] []
def CU (aa:(List Int)) (aG:Int):Unit→dc
 | a=>⟨some 0,[(1,.n .i64 aG)],[]⟩
def uS (aa:(List Int)) (aG:Int):Option ((Unit)⊕(Unit)) :=
 if (decide ((0:Int)<(len_ U aa)))=true then
  if 0≤(0:Int)∧(0:Int)<aa.length then
  none
  else none
 else
  some (.inr ())
def u4 (aa:(List Int)) (aG:Int):Option (Unit):=iter (fun w:Unit=>uS aa aG) ()
theorem H5 {aa:(List Int)} {aG:Int}:bm (uS aa aG) (dI a2 19 0 34 [1,0,1,0,0] (yj aa aG ()) (yj aa aG) (CU aa aG)):=by
 unfold uS
 exact .ite (fun h1 =>
  .bu fun R =>
  .pa)
  (fun h1 =>
  .ret (bi [.J (o 4 []),.af false,.a0 [] [] (bf [1])] (.e1 h1)))
theorem I6 {aa:(List Int)} {aG:Int} {r} (h:u4 aa aG=some r):dJ a2 19 0 34 [1,0,1,0,0] (yj aa aG) (CU aa aG) () r:=dK (fun _=>H5) h
def nc (aa:(List Int)) (aG:Int):Option Int :=
 u4 aa aG >>= fun r1 =>
 some aG
theorem zI {aa:(List Int)} {aG:Int}:bm (nc aa aG) (fun r=>Con a2 34 [.isl 1 (aa.map U),.n .i64 aG] [] (.n .i64 r) []):=by
 unfold nc
 exact .aJ fun r1 R =>
  .ret (a8 [.J (o 1 []),.J (o 1 []),.a0 [] [] (bf [0,1,5]),.sub (.exit 0) [(1,.n .i64 aG)] [],.J (o 2 [])] (.e1 (I6 R)))
def xS (hF:Nat) (eW:Nat):(Int×Int×(List Int))→S:=fun (aG,ah,an)=>c6 [(0,.aV 0 0 hF eW),(1,.n .i64 aG),(5,.n .i64 ah)] [[ae.mk 1 (an.map U) .live]]
def x3 (hF:Nat) (eW:Nat):(Int×(List Int))→dc
 | a=>⟨some 0,[(1,.n .i64 a.1)],[[ae.mk 1 (a.2.map U) .live]]⟩
def pD (hF:Nat) (eW:Nat) (aG:Int) (ah:Int) (an:(List Int)):Option ((Int×Int×(List Int))⊕(Int×(List Int))) :=
 if (decide (ah<((eW:Nat):Int)))=true then
  if 0≤ah∧ah<(eW:Nat) then
  if (hF+ah.toNat)<an.length then
  some (.inl (ab (aG+(1:Int)),ab (ah+(1:Int)),an.set (hF+ah.toNat) aG))
  else none
  else none
 else
  some (.inr (aG,an))
def zf (hF:Nat) (eW:Nat) (aG:Int) (ah:Int) (an:(List Int)):Option (Int×(List Int)):=iter (fun w:Int×Int×(List Int)=>pD hF eW w.1 w.2.1 w.2.2) (aG,ah,an)
theorem HJ {hF:Nat} {eW:Nat} {aG:Int} {ah:Int} {an:(List Int)}:bm (pD hF eW aG ah an) (dI a2 19 1 34 [1,0,1,0,0] (xS hF eW (aG,ah,an)) (xS hF eW) (x3 hF eW)):=by
 unfold pD
 exact .ite (fun h1 =>
  .bu fun R =>
  .bu fun ai =>
  .ret (bi [.J (o 4 []),.af true,.J (o 4 (aj .fr [])),.J (o 3 []),.J (o 3 []),.a0 [0] [.dP [ae.mk 1 ((an.set (hF+ah.toNat) aG).map U) .live]] (bf [0,1,5])] (.eQ h1 R.1 R.2 (i4 U ai) (i3 1) (eA 1 .live (im (aT U an) (hF+ah.toNat) aG)) (bD 1 .live bG (an.set (hF+ah.toNat) aG)))))
  (fun h1 =>
  .ret (bi [.J (o 4 []),.af false,.a0 [0] [.pure] (bf [1])] (.az h1 (bD 1 .live bG an))))
theorem IG {hF:Nat} {eW:Nat} {aG:Int} {ah:Int} {an:(List Int)} {r} (h:zf hF eW aG ah an=some r):dJ a2 19 1 34 [1,0,1,0,0] (xS hF eW) (x3 hF eW) (aG,ah,an) r:=dK (fun _=>HJ) h
def m9 (aG:Int) (hF:Nat) (eW:Nat) (c7:(List Int)):Option (Int×(List Int)) :=
 zf hF eW aG 0 c7 >>= fun r1 =>
 some (r1.1,r1.2)
theorem zg {aG:Int} {hF:Nat} {eW:Nat} {c7:(List Int)}:bm (m9 aG hF eW c7) (fun a=>Con a2 34 [.aV 0 0 hF eW,.n .i64 aG] [[ae.mk 1 (c7.map U) .live]] (.n .i64 a.1) [[ae.mk 1 (a.2.map U) .live]]):=by
 unfold m9
 exact .aJ fun r1 R =>
  .ret (gQ [.J (o 1 []),.J (o 1 []),.a0 [0] [.pure] (bf [0,1,5]),(x3 hF eW r1).eU,.J (o 2 [])] [0] [.pure] (.bp (bD 1 .live bG c7) (IG R) (bD 1 .live bG r1.2)))
def xT:(Int×Int×(List cN)×(List (List Int)))→S:=fun (aG,ah,dF,du)=>c6 [(0,.aV 0 0 0 dF.length),(1,.n .i64 aG),(5,.n .i64 ah)] [(ae.mk 3 (dF.map (a4 0 1)) .live::(du.map (cd .live 1 U)))]
def x4:(Int×(List cN)×(List (List Int)))→dc
 | a=>⟨some 0,[(1,.n .i64 a.1)],[(ae.mk 3 (a.2.1.map (a4 0 1)) .live::(a.2.2.map (cd .live 1 U)))]⟩
def pE (aG:Int) (ah:Int) (dF:(List cN)) (du:(List (List Int))):Option ((Int×Int×(List cN)×(List (List Int)))⊕(Int×(List cN)×(List (List Int)))) :=
 if (decide (ah<((dF.length:Nat):Int)))=true then
  if 0≤ah∧ah<(dF.length:Nat) then
  dF[(0+ah.toNat)]? >>= fun al =>
  (dF.set (0+ah.toNat) (⟨(⟨((aG.tmod (3:Int)) == (0:Int)),al.ch.cn⟩:ed),al.cv⟩:cN))[(0+ah.toNat)]? >>= fun bU =>
  bU.ch.cn.elim
  (nc ([]:List Int) (ab (aG+(1:Int))) >>= fun aE =>
    bU.cv.elim
    (nc ([]:List Int) aE >>= fun ek =>
      some (.inl (ek,ab (ah+(1:Int)),dF.set (0+ah.toNat) (⟨(⟨((aG.tmod (3:Int)) == (0:Int)),al.ch.cn⟩:ed),al.cv⟩:cN),du)))
    fun jU =>
    du[jU.1]? >>= fun t8 =>
    m9 aE 0 jU.2 t8 >>= fun e2 =>
    some (.inl (e2.1,ab (ah+(1:Int)),dF.set (0+ah.toNat) (⟨(⟨((aG.tmod (3:Int)) == (0:Int)),al.ch.cn⟩:ed),al.cv⟩:cN),du.set jU.1 e2.2)))
  fun jl =>
  du[jl.1]? >>= fun uH =>
  m9 (ab (aG+(1:Int))) 0 jl.2 uH >>= fun gq =>
  bU.cv.elim
  (nc ([]:List Int) gq.1 >>= fun e2 =>
    some (.inl (e2,ab (ah+(1:Int)),dF.set (0+ah.toNat) (⟨(⟨((aG.tmod (3:Int)) == (0:Int)),al.ch.cn⟩:ed),al.cv⟩:cN),du.set jl.1 gq.2)))
  fun kH =>
  (du.set jl.1 gq.2)[kH.1]? >>= fun ua =>
  m9 gq.1 0 kH.2 ua >>= fun dO =>
  some (.inl (dO.1,ab (ah+(1:Int)),dF.set (0+ah.toNat) (⟨(⟨((aG.tmod (3:Int)) == (0:Int)),al.ch.cn⟩:ed),al.cv⟩:cN),(du.set jl.1 gq.2).set kH.1 dO.2))
  else none
 else
  some (.inr (aG,dF,du))
def zh (aG:Int) (ah:Int) (dF:(List cN)) (du:(List (List Int))):Option (Int×(List cN)×(List (List Int))):=iter (fun w:Int×Int×(List cN)×(List (List Int))=>pE w.1 w.2.1 w.2.2.1 w.2.2.2) (aG,ah,dF,du)
theorem HK {aG:Int} {ah:Int} {dF:(List cN)} {du:(List (List Int))}:bm (pE aG ah dF du) (dI a2 38 1 13 [1,0,1,0,0] (xT (aG,ah,dF,du)) (xT) (x4)):=by
 unfold pE
 exact .ite (fun h1 =>
  .bu fun R =>
  .aJ fun al ax =>
  .aJ fun bU ba =>
  (let t1:List bx:=[.J (o 4 []),.af true,.J (o 6 (aj (.bQ ((a4 0 1) al)) (aj (.bQ ((a4 0 1) al)) (aj (.bQ ((a4 0 1) al)) [])))),.J (o 3 [])];
  have aO:=((.br h1 (by decide:(3:Int)≠0) R.1 R.2 (cm (a4 0 1) ax) (cm (a4 0 1) ax) (cm (a4 0 1) ax) R.1 (.cI R.2 (iE (e7 (aT (a4 0 1) dF) (0+ah.toNat) (⟨(⟨((aG.tmod (3:Int)) == (0:Int)),al.ch.cn⟩:ed),al.cv⟩:cN) (rfl:(setCells ((a4 0 1) al) 0 [.b ((aG.tmod (3:Int)) == (0:Int))])=(a4 0 1) (⟨(⟨((aG.tmod (3:Int)) == (0:Int)),al.ch.cn⟩:ed),al.cv⟩:cN))) ba) (iE (e7 (aT (a4 0 1) dF) (0+ah.toNat) (⟨(⟨((aG.tmod (3:Int)) == (0:Int)),al.ch.cn⟩:ed),al.cv⟩:cN) (rfl:(setCells ((a4 0 1) al) 0 [.b ((aG.tmod (3:Int)) == (0:Int))])=(a4 0 1) (⟨(⟨((aG.tmod (3:Int)) == (0:Int)),al.ch.cn⟩:ed),al.cv⟩:cN))) ba) (iE (e7 (aT (a4 0 1) dF) (0+ah.toNat) (⟨(⟨((aG.tmod (3:Int)) == (0:Int)),al.ch.cn⟩:ed),al.cv⟩:cN) (rfl:(setCells ((a4 0 1) al) 0 [.b ((aG.tmod (3:Int)) == (0:Int))])=(a4 0 1) (⟨(⟨((aG.tmod (3:Int)) == (0:Int)),al.ch.cn⟩:ed),al.cv⟩:cN))) ba))):b2 _);
  .w1 (fun a5 =>
  .aJ fun aE df =>
  (let t3:List bx:=t1.append [.J (o 3 (aj (.bQ ((a4 0 1) bU)) (aj (.bQ ((a4 0 1) bU)) (aj (.bQ ((a4 0 1) bU)) (o 1 (aj (.kf 27 (.isl 1 []) (bM 2 (.n .i64 aE) true)) (o 1 [])))))))];
  have c8:=aO.aC (.eQ (AL (b8:=0) (c:=1) (sz:=1) a5) (zI aE df) (a1.n .i64 aE) R.1 R.2 (iE (e7 (aT (a4 0 1) dF) (0+ah.toNat) (⟨(⟨((aG.tmod (3:Int)) == (0:Int)),al.ch.cn⟩:ed),al.cv⟩:cN) (rfl:(setCells ((a4 0 1) al) 0 [.b ((aG.tmod (3:Int)) == (0:Int))])=(a4 0 1) (⟨(⟨((aG.tmod (3:Int)) == (0:Int)),al.ch.cn⟩:ed),al.cv⟩:cN))) ba) (iE (e7 (aT (a4 0 1) dF) (0+ah.toNat) (⟨(⟨((aG.tmod (3:Int)) == (0:Int)),al.ch.cn⟩:ed),al.cv⟩:cN) (rfl:(setCells ((a4 0 1) al) 0 [.b ((aG.tmod (3:Int)) == (0:Int))])=(a4 0 1) (⟨(⟨((aG.tmod (3:Int)) == (0:Int)),al.ch.cn⟩:ed),al.cv⟩:cN))) ba));
  .w1 (fun eb =>
  .aJ fun ek eI =>
  .ret (bi (t3.append [.J (o 3 (aj (.bQ ((a4 0 1) bU)) (aj (.bQ ((a4 0 1) bU)) (o 1 (aj (.kf 34 (.isl 1 []) (bM 2 (.n .i64 ek) true)) (o 1 [])))))),.J (o 3 []),.a0 [0] [.eg (ae.mk 3 ((dF.set (0+ah.toNat) (⟨(⟨((aG.tmod (3:Int)) == (0:Int)),al.ch.cn⟩:ed),al.cv⟩:cN)).map (a4 0 1)) .live::(du.map (cd .live 1 U)))] [(0,fV ((dF.set (0+ah.toNat) (⟨(⟨((aG.tmod (3:Int)) == (0:Int)),al.ch.cn⟩:ed),al.cv⟩:cN)).length)),(1,ii),(5,ii)]]) (c8.aC (.dM (AL (b8:=0) (c:=1) (sz:=1) eb) (zI ek eI) (a1.n .i64 ek) (dh (dk (aY:=(cZ [0])) 3 .live (a4 0 1) (e7 (aT (a4 0 1) dF) (0+ah.toNat) (⟨(⟨((aG.tmod (3:Int)) == (0:Int)),al.ch.cn⟩:ed),al.cv⟩:cN) (rfl:(setCells ((a4 0 1) al) 0 [.b ((aG.tmod (3:Int)) == (0:Int))])=(a4 0 1) (⟨(⟨((aG.tmod (3:Int)) == (0:Int)),al.ch.cn⟩:ed),al.cv⟩:cN))) (fun x=>(hB (rfl:(cZ [0]) 0=some 0)) x)) (hD (aY:=(cZ [0])) (er .live 1 U du) (fun x=>(dj gW) x))) (gU (bw dF) (0+ah.toNat) (⟨(⟨((aG.tmod (3:Int)) == (0:Int)),al.ch.cn⟩:ed),al.cv⟩:cN))))))
  (fun jU eb =>
  .aJ fun t8 eI =>
  .aJ fun e2 jT =>
  .ret (bi (t3.append [.J (o 3 (aj (.bQ ((a4 0 1) bU)) (aj (.bQ ((a4 0 1) bU)) (o 1 (aj (.kf 34 (.aV 0 (jU.1+1) 0 jU.2) (.call {aA:=[.ap 0 (jU.1+1) (ae.mk 1 (t8.map U) .live)],bR:=[.pure],ac:=[.bI (.cb (.at_ 0 0 jU.2)),ii],r:= .n .i64 e2.1,cC:=[[ae.mk 1 (e2.2.map U) .live]],dE:=ii,d9:=[.pure],cK:=[0],cH:=false})) (o 1 [])))))),.J (o 3 []),.a0 [0] [.eg (ae.mk 3 ((dF.set (0+ah.toNat) (⟨(⟨((aG.tmod (3:Int)) == (0:Int)),al.ch.cn⟩:ed),al.cv⟩:cN)).map (a4 0 1)) .live::((du.set jU.1 e2.2).map (cd .live 1 U)))] [(0,fV ((dF.set (0+ah.toNat) (⟨(⟨((aG.tmod (3:Int)) == (0:Int)),al.ch.cn⟩:ed),al.cv⟩:cN)).length)),(1,ii),(5,ii)]]) (c8.aC (.br (AM (b8:=0) (c:=1) (sz:=1) eb) (rfl:gL [.ap 0 (jU.1+1) (ae.mk 1 (t8.map U) .live)] 0 0=some (0,(jU.1+1))) (rfl:jU.2=jU.2) (wj (er .live 1 U du) k8 eI) (eR 1 bG t8) (eR 1 bG e2.2) (zg e2 jT) (dh (dk (aY:=(cZ [0])) 3 .live (a4 0 1) (e7 (aT (a4 0 1) dF) (0+ah.toNat) (⟨(⟨((aG.tmod (3:Int)) == (0:Int)),al.ch.cn⟩:ed),al.cv⟩:cN) (rfl:(setCells ((a4 0 1) al) 0 [.b ((aG.tmod (3:Int)) == (0:Int))])=(a4 0 1) (⟨(⟨((aG.tmod (3:Int)) == (0:Int)),al.ch.cn⟩:ed),al.cv⟩:cN))) (fun x=>(hB (rfl:(cZ [0]) 0=some 0)) x)) (hD (aY:=(cZ [0])) (ta (er .live 1 U du) jU.1 (aT U e2.2)) (fun x=>(dj gW) x))) (.e1 (gU (bw dF) (0+ah.toNat) (⟨(⟨((aG.tmod (3:Int)) == (0:Int)),al.ch.cn⟩:ed),al.cv⟩:cN)))))))))
  (fun jl a5 =>
  .aJ fun uH df =>
  .aJ fun gq ht =>
  (let t3:List bx:=t1.append [.J (o 3 (aj (.bQ ((a4 0 1) bU)) (aj (.bQ ((a4 0 1) bU)) (aj (.bQ ((a4 0 1) bU)) (o 1 (aj (.kf 27 (.aV 0 (jl.1+1) 0 jl.2) (.call {aA:=[.ap 0 (jl.1+1) (ae.mk 1 (uH.map U) .live)],bR:=[.pure],ac:=[.bI (.cb (.at_ 0 0 jl.2)),ii],r:= .n .i64 gq.1,cC:=[[ae.mk 1 (gq.2.map U) .live]],dE:=ii,d9:=[.pure],cK:=[0],cH:=false})) (o 1 [])))))))];
  have c8:=aO.aC (.br (AM (b8:=0) (c:=1) (sz:=1) a5) (rfl:gL [.ap 0 (jl.1+1) (ae.mk 1 (uH.map U) .live)] 0 0=some (0,(jl.1+1))) (rfl:jl.2=jl.2) (wj (er .live 1 U du) k8 df) (eR 1 bG uH) (eR 1 bG gq.2) (zg gq ht) R.1 (.bp R.2 (iE (e7 (aT (a4 0 1) dF) (0+ah.toNat) (⟨(⟨((aG.tmod (3:Int)) == (0:Int)),al.ch.cn⟩:ed),al.cv⟩:cN) (rfl:(setCells ((a4 0 1) al) 0 [.b ((aG.tmod (3:Int)) == (0:Int))])=(a4 0 1) (⟨(⟨((aG.tmod (3:Int)) == (0:Int)),al.ch.cn⟩:ed),al.cv⟩:cN))) ba) (iE (e7 (aT (a4 0 1) dF) (0+ah.toNat) (⟨(⟨((aG.tmod (3:Int)) == (0:Int)),al.ch.cn⟩:ed),al.cv⟩:cN) (rfl:(setCells ((a4 0 1) al) 0 [.b ((aG.tmod (3:Int)) == (0:Int))])=(a4 0 1) (⟨(⟨((aG.tmod (3:Int)) == (0:Int)),al.ch.cn⟩:ed),al.cv⟩:cN))) ba)));
  .w1 (fun e9 =>
  .aJ fun e2 jT =>
  .ret (bi (t3.append [.J (o 3 (aj (.bQ ((a4 0 1) bU)) (aj (.bQ ((a4 0 1) bU)) (o 1 (aj (.kf 34 (.isl 1 []) (bM 2 (.n .i64 e2) true)) (o 1 [])))))),.J (o 3 []),.a0 [0] [.eg (ae.mk 3 ((dF.set (0+ah.toNat) (⟨(⟨((aG.tmod (3:Int)) == (0:Int)),al.ch.cn⟩:ed),al.cv⟩:cN)).map (a4 0 1)) .live::((du.set jl.1 gq.2).map (cd .live 1 U)))] [(0,fV ((dF.set (0+ah.toNat) (⟨(⟨((aG.tmod (3:Int)) == (0:Int)),al.ch.cn⟩:ed),al.cv⟩:cN)).length)),(1,ii),(5,ii)]]) (c8.aC (.dM (AL (b8:=0) (c:=1) (sz:=1) e9) (zI e2 jT) (a1.n .i64 e2) (dh (dk (aY:=(cZ [0])) 3 .live (a4 0 1) (e7 (aT (a4 0 1) dF) (0+ah.toNat) (⟨(⟨((aG.tmod (3:Int)) == (0:Int)),al.ch.cn⟩:ed),al.cv⟩:cN) (rfl:(setCells ((a4 0 1) al) 0 [.b ((aG.tmod (3:Int)) == (0:Int))])=(a4 0 1) (⟨(⟨((aG.tmod (3:Int)) == (0:Int)),al.ch.cn⟩:ed),al.cv⟩:cN))) (fun x=>(hB (rfl:(cZ [0]) 0=some 0)) x)) (hD (aY:=(cZ [0])) (ta (er .live 1 U du) jl.1 (aT U gq.2)) (fun x=>(dj gW) x))) (gU (bw dF) (0+ah.toNat) (⟨(⟨((aG.tmod (3:Int)) == (0:Int)),al.ch.cn⟩:ed),al.cv⟩:cN))))))
  (fun kH e9 =>
  .aJ fun ua jT =>
  .aJ fun dO iR =>
  .ret (bi (t3.append [.J (o 3 (aj (.bQ ((a4 0 1) bU)) (aj (.bQ ((a4 0 1) bU)) (o 1 (aj (.kf 34 (.aV 0 (kH.1+1) 0 kH.2) (.call {aA:=[.ap 0 (kH.1+1) (ae.mk 1 (ua.map U) .live)],bR:=[.pure],ac:=[.bI (.cb (.at_ 0 0 kH.2)),ii],r:= .n .i64 dO.1,cC:=[[ae.mk 1 (dO.2.map U) .live]],dE:=ii,d9:=[.pure],cK:=[0],cH:=false})) (o 1 [])))))),.J (o 3 []),.a0 [0] [.eg (ae.mk 3 ((dF.set (0+ah.toNat) (⟨(⟨((aG.tmod (3:Int)) == (0:Int)),al.ch.cn⟩:ed),al.cv⟩:cN)).map (a4 0 1)) .live::(((du.set jl.1 gq.2).set kH.1 dO.2).map (cd .live 1 U)))] [(0,fV ((dF.set (0+ah.toNat) (⟨(⟨((aG.tmod (3:Int)) == (0:Int)),al.ch.cn⟩:ed),al.cv⟩:cN)).length)),(1,ii),(5,ii)]]) (c8.aC (.br (AM (b8:=0) (c:=1) (sz:=1) e9) (rfl:gL [.ap 0 (kH.1+1) (ae.mk 1 (ua.map U) .live)] 0 0=some (0,(kH.1+1))) (rfl:kH.2=kH.2) (wj (ta (er .live 1 U du) jl.1 (aT U gq.2)) k8 jT) (eR 1 bG ua) (eR 1 bG dO.2) (zg dO iR) (dh (dk (aY:=(cZ [0])) 3 .live (a4 0 1) (e7 (aT (a4 0 1) dF) (0+ah.toNat) (⟨(⟨((aG.tmod (3:Int)) == (0:Int)),al.ch.cn⟩:ed),al.cv⟩:cN) (rfl:(setCells ((a4 0 1) al) 0 [.b ((aG.tmod (3:Int)) == (0:Int))])=(a4 0 1) (⟨(⟨((aG.tmod (3:Int)) == (0:Int)),al.ch.cn⟩:ed),al.cv⟩:cN))) (fun x=>(hB (rfl:(cZ [0]) 0=some 0)) x)) (hD (aY:=(cZ [0])) (ta (ta (er .live 1 U du) jl.1 (aT U gq.2)) kH.1 (aT U dO.2)) (fun x=>(dj gW) x))) (.e1 (gU (bw dF) (0+ah.toNat) (⟨(⟨((aG.tmod (3:Int)) == (0:Int)),al.ch.cn⟩:ed),al.cv⟩:cN)))))))))))
  (fun h1 =>
  .ret (bi [.J (o 4 []),.af false,.a0 [0] [.eg (ae.mk 3 (dF.map (a4 0 1)) .live::(du.map (cd .live 1 U)))] (bf [1])] (.az h1 (dh (dk (aY:=(cZ [0])) 3 .live (a4 0 1) (aT (a4 0 1) dF) (fun x=>(hB (rfl:(cZ [0]) 0=some 0)) x)) (hD (aY:=(cZ [0])) (er .live 1 U du) (fun x=>(dj gW) x))))))
theorem IH {aG:Int} {ah:Int} {dF:(List cN)} {du:(List (List Int))} {r} (h:zh aG ah dF du=some r):dJ a2 38 1 13 [1,0,1,0,0] (xT) (x4) (aG,ah,dF,du) r:=dK (fun _=>HK) h
def od (aG:Int) (oQ:(List cN)) (rp:(List (List Int))):Option (Int×(List cN)×(List (List Int))) :=
 zh aG 0 oQ rp >>= fun r1 =>
 some (r1.1,r1.2.1,r1.2.2)
theorem zi {aG:Int} {oQ:(List cN)} {rp:(List (List Int))}:bm (od aG oQ rp) (fun a=>Con a2 13 [.aV 0 0 0 oQ.length,.n .i64 aG] [(ae.mk 3 (oQ.map (a4 0 1)) .live::(rp.map (cd .live 1 U)))] (.n .i64 a.1) [(ae.mk 3 (a.2.1.map (a4 0 1)) .live::(a.2.2.map (cd .live 1 U)))]):=by
 unfold od
 exact .aJ fun r1 R =>
  .ret (gQ [.J (o 1 []),.J (o 1 []),.a0 [0] [.eg (ae.mk 3 (oQ.map (a4 0 1)) .live::(rp.map (cd .live 1 U)))] (bf [0,1,5]),(x4 r1).eU,.J (o 2 [])] [0] [.eg (ae.mk 3 (r1.2.1.map (a4 0 1)) .live::(r1.2.2.map (cd .live 1 U)))] (.bp (dh (dk (aY:=(cZ [0])) 3 .live (a4 0 1) (aT (a4 0 1) oQ) (fun x=>(hB (rfl:(cZ [0]) 0=some 0)) x)) (hD (aY:=(cZ [0])) (er .live 1 U rp) (fun x=>(dj gW) x))) (IH R) (dh (dk (aY:=(cZ [0])) 3 .live (a4 0 1) (aT (a4 0 1) r1.2.1) (fun x=>(hB (rfl:(cZ [0]) 0=some 0)) x)) (hD (aY:=(cZ [0])) (er .live 1 U r1.2.2) (fun x=>(dj gW) x)))))
def xU (aa:(List aB)) (aG:Int):Unit→S:=fun _=>c6 [(0,.isl 4 (aa.map au)),(1,.n .i64 aG),(5,.n .i64 (0:Int))] []
def CJ (aa:(List aB)) (aG:Int):Unit→dc
 | a=>⟨some 0,[(1,.n .i64 aG)],[]⟩
def xV (aa:(List aB)) (aG:Int):Option ((Unit)⊕(Unit)) :=
 if (decide ((0:Int)<(len_ au aa)))=true then
  nb aG >>= fun bj =>
  if 0≤(0:Int)∧(0:Int)<aa.length then
  none
  else none
 else
  some (.inr ())
def uY (aa:(List aB)) (aG:Int):Option (Unit):=iter (fun w:Unit=>xV aa aG) ()
theorem HL {aa:(List aB)} {aG:Int}:bm (xV aa aG) (dI a2 44 0 32 [1,0,1,0,0] (xU aa aG ()) (xU aa aG) (CJ aa aG)):=by
 unfold xV
 exact .ite (fun h1 =>
  .aJ fun bj ai =>
  .bu fun ax =>
  .pa)
  (fun h1 =>
  .ret (bi [.J (o 4 []),.af false,.a0 [] [] (bf [1])] (.e1 h1)))
theorem II {aa:(List aB)} {aG:Int} {r} (h:uY aa aG=some r):dJ a2 44 0 32 [1,0,1,0,0] (xU aa aG) (CJ aa aG) () r:=dK (fun _=>HL) h
def na (aa:(List aB)) (aG:Int):Option Int :=
 uY aa aG >>= fun r1 =>
 some aG
theorem Dc {aa:(List aB)} {aG:Int}:bm (na aa aG) (fun r=>Con a2 32 [.isl 4 (aa.map au),.n .i64 aG] [] (.n .i64 r) []):=by
 unfold na
 exact .aJ fun r1 R =>
  .ret (a8 [.J (o 1 []),.J (o 1 []),.a0 [] [] (bf [0,1,5]),.sub (.exit 0) [(1,.n .i64 aG)] [],.J (o 2 [])] (.e1 (II R)))
def rK (aG:Int) (mL:(List aB)) (c7:(List aN)):Option (Int×(List aN)) :=
 na mL aG >>= fun r1 =>
 m5 r1 c7 >>= fun bY =>
 some (bY.1,bY.2)
theorem H6 {aG:Int} {mL:(List aB)} {c7:(List aN)}:bm (rK aG mL c7) (fun a=>Con a2 12 [.agg [.isl 4 (mL.map au),.aV 0 0 0 c7.length],.n .i64 aG] [[ae.mk 3 (c7.map ay) .live]] (.n .i64 a.1) [[ae.mk 3 (a.2.map ay) .live]]):=by
 unfold rK
 exact .aJ fun r1 R =>
  .aJ fun bY ax =>
  .ret (gQ [.J (o 2 []),.J (o 3 (aj (bM 2 (.n .i64 r1) true) (o 1 []))),.J (o 3 (aj (.call {aA:=[.row 0],bR:=[.pure],ac:=[ii,ii],r:= .n .i64 bY.1,cC:=[[ae.mk 3 (bY.2.map ay) .live]],dE:=ii,d9:=[.pure],cK:=[0],cH:=false}) (o 1 []))),.J (o 2 [])] [0] [.pure] (.ez (Dc r1 R) (a1.n .i64 r1) (eR 3 dl c7) (eR 3 dl bY.2) (CO bY ax) (bD 3 .live dl bY.2)))
def xW (aa:(List aB)):(Int×Int)→S:=fun (aG,ah)=>c6 [(0,.isl 4 (aa.map au)),(1,.n .i64 aG),(5,.n .i64 ah)] []
def CK (aa:(List aB)):((Int)⊕(Unit))→dc
 | .inl a=>⟨some 0,[(1,.n .i64 a)],[]⟩
 | .inr a=>⟨none,[(4,.n .i64 (-1:Int))],[]⟩
def pF (aa:(List aB)) (aG:Int) (ah:Int):Option ((Int×Int)⊕((Int)⊕(Unit))) :=
 if (decide (ah<(len_ au aa)))=true then
  if 0≤ah∧ah<aa.length then
  aa[ah.toNat]? >>= fun al =>
  nb aG >>= fun aZ =>
  if (!(al.cu.toList == aZ.toList))=true then
   some (.inr (.inr ()))
  else
   if (al.c5 != (ab (aG+(1:Int))))=true then
    some (.inr (.inr ()))
   else
    if (al.cJ != (ab ((ab (aG+(1:Int)))+(1:Int))))=true then
     some (.inr (.inr ()))
    else
     if (al.cf == (((ab ((ab ((ab (aG+(1:Int)))+(1:Int)))+(1:Int))).tmod (3:Int)) == (0:Int)))=true then
      some (.inl (ab ((ab ((ab ((ab (aG+(1:Int)))+(1:Int)))+(1:Int)))+(1:Int)),ab (ah+(1:Int))))
     else
      some (.inr (.inr ()))
  else none
 else
  some (.inr (.inl aG))
def uZ (aa:(List aB)) (aG:Int) (ah:Int):Option ((Int)⊕(Unit)):=iter (fun w:Int×Int=>pF aa w.1 w.2) (aG,ah)
theorem HM {aa:(List aB)} {aG:Int} {ah:Int}:bm (pF aa aG ah) (dI a2 52 0 35 [1,0,1,0,0] (xW aa (aG,ah)) (xW aa) (CK aa)):=by
 unfold pF
 exact .ite (fun h1 =>
  .bu fun R =>
  .aJ fun al ax =>
  .aJ fun aZ ba =>
  (let t1:List bx:=[.J (o 4 []),.af true,.J (o 4 (aj (.bQ (au al)) (o 1 (aj (bM 1 (.s aZ) true) (o 1 [])))))];
  have aO:=((.ez h1 R.1 (c9 au R.2) (cm au ax) (Du aZ ba) (a1.s aZ)):b2 _);
  .ite (fun a5 =>
  .ret (bi (t1.append [.af true,.J (o 1 []),.a0 [] [] (bf [4])]) (aO.aC (.e1 a5))))
  (fun a5 =>
  (let t3:List bx:=t1.append [.af false,.J (o 3 []),.J (o 4 (aj (.bQ (au al)) (o 2 [])))];
  have c8:=aO.aC (.cI a5 R.1 (c9 au R.2) (cm au ax));
  .ite (fun bV =>
  .ret (bi (t3.append [.af true,.J (o 1 []),.a0 [] [] (bf [4])]) (c8.aC (.e1 bV))))
  (fun bV =>
  (let t5:List bx:=t3.append [.af false,.J (o 3 []),.J (o 4 (aj (.bQ (au al)) (o 2 [])))];
  have gS:=c8.aC (.cI bV R.1 (c9 au R.2) (cm au ax));
  .ite (fun dv =>
  .ret (bi (t5.append [.af true,.J (o 1 []),.a0 [] [] (bf [4])]) (gS.aC (.e1 dv))))
  (fun dv =>
  (let t7:List bx:=t5.append [.af false,.J (o 3 []),.J (o 4 (aj (.bQ (au al)) (o 4 [])))];
  have hO:=gS.aC (.dM dv R.1 (c9 au R.2) (cm au ax) (by decide:(3:Int)≠0));
  .ite (fun df =>
  .ret (bi (t7.append [.af false,.J (o 3 []),.J (o 3 []),.a0 [] [] (bf [0,1,5])]) (hO.aC (.e1 (bE df)))))
  (fun df =>
  .ret (bi (t7.append [.af true,.J (o 1 []),.a0 [] [] (bf [4])]) (hO.aC (.e1 (bS df)))))))))))))
  (fun h1 =>
  .ret (bi [.J (o 4 []),.af false,.a0 [] [] (bf [1])] (.e1 h1)))
theorem CP {aa:(List aB)} {aG:Int} {ah:Int} {r} (h:uZ aa aG ah=some r):dJ a2 52 0 35 [1,0,1,0,0] (xW aa) (CK aa) (aG,ah) r:=dK (fun _=>HM) h
def rV (aa:(List aB)) (aG:Int):Option Int :=
 uZ aa aG 0 >>= fun r1 =>
 match r1 with
 | .inl cw=>(some cw)
 | .inr cw=>(some (-1))
theorem Jj {aa:(List aB)} {aG:Int}:bm (rV aa aG) (fun r=>Con a2 35 [.isl 4 (aa.map au),.n .i64 aG] [] (.n .i64 r) []):=by
 unfold rV
 exact .aJ fun r1 R =>
  (let t1:List bx:=[.J (o 1 []),.J (o 1 []),.a0 [] [] (bf [0,1,5])];
  (by
  rcases r1 with cw|cw
  ·exact (.ret (a8 (t1.append [.sub (.exit 0) [(1,.n .i64 cw)] [],.J (o 2 [])]) (.e1 (CP R))))
  ·exact (.ret (a8 (t1.append [.sub (.ret) [(4,.n .i64 (-1:Int))] []]) (.e1 (CP R))))))
def xK (aa:(List aN)):(Int×Int)→S:=fun (aG,ah)=>c6 [(0,.isl 3 (aa.map ay)),(1,.n .i64 aG),(5,.n .i64 ah)] []
def CD (aa:(List aN)):((Int)⊕(Unit))→dc
 | .inl a=>⟨some 0,[(1,.n .i64 a)],[]⟩
 | .inr a=>⟨none,[(4,.n .i64 (-1:Int))],[]⟩
def pB (aa:(List aN)) (aG:Int) (ah:Int):Option ((Int×Int)⊕((Int)⊕(Unit))) :=
 if (decide (ah<(len_ ay aa)))=true then
  if 0≤ah∧ah<aa.length then
  aa[ah.toNat]? >>= fun al =>
  if (al.dg != aG)=true then
   some (.inr (.inr ()))
  else
   if (al.c0 != (ab (aG+(1:Int))))=true then
    some (.inr (.inr ()))
   else
    if (al.dq != (ab ((ab (aG+(1:Int)))+(1:Int))))=true then
     some (.inr (.inr ()))
    else
     some (.inl (ab ((ab ((ab (aG+(1:Int)))+(1:Int)))+(1:Int)),ab (ah+(1:Int))))
  else none
 else
  some (.inr (.inl aG))
def uW (aa:(List aN)) (aG:Int) (ah:Int):Option ((Int)⊕(Unit)):=iter (fun w:Int×Int=>pB aa w.1 w.2) (aG,ah)
theorem HE {aa:(List aN)} {aG:Int} {ah:Int}:bm (pB aa aG ah) (dI a2 40 0 36 [1,0,1,0,0] (xK aa (aG,ah)) (xK aa) (CD aa)):=by
 unfold pB
 exact .ite (fun h1 =>
  .bu fun R =>
  .aJ fun al ax =>
  (let t1:List bx:=[.J (o 4 []),.af true,.J (o 4 (aj (.bQ (ay al)) (o 2 [])))];
  have aO:=((.cI h1 R.1 (c9 ay R.2) (cm ay ax)):b2 _);
  .ite (fun aM =>
  .ret (bi (t1.append [.af true,.J (o 1 []),.a0 [] [] (bf [4])]) (aO.aC (.e1 aM))))
  (fun aM =>
  (let t3:List bx:=t1.append [.af false,.J (o 3 []),.J (o 4 (aj (.bQ (ay al)) (o 2 [])))];
  have c8:=aO.aC (.cI aM R.1 (c9 ay R.2) (cm ay ax));
  .ite (fun ba =>
  .ret (bi (t3.append [.af true,.J (o 1 []),.a0 [] [] (bf [4])]) (c8.aC (.e1 ba))))
  (fun ba =>
  (let t5:List bx:=t3.append [.af false,.J (o 3 []),.J (o 4 (aj (.bQ (ay al)) (o 2 [])))];
  have gS:=c8.aC (.cI ba R.1 (c9 ay R.2) (cm ay ax));
  .ite (fun a5 =>
  .ret (bi (t5.append [.af true,.J (o 1 []),.a0 [] [] (bf [4])]) (gS.aC (.e1 a5))))
  (fun a5 =>
  .ret (bi (t5.append [.af false,.J (o 3 []),.J (o 3 []),.a0 [] [] (bf [0,1,5])]) (gS.aC (.e1 a5))))))))))
  (fun h1 =>
  .ret (bi [.J (o 4 []),.af false,.a0 [] [] (bf [1])] (.e1 h1)))
theorem CL {aa:(List aN)} {aG:Int} {ah:Int} {r} (h:uW aa aG ah=some r):dJ a2 40 0 36 [1,0,1,0,0] (xK aa) (CD aa) (aG,ah) r:=dK (fun _=>HE) h
def rQ (aa:(List aN)) (aG:Int):Option Int :=
 uW aa aG 0 >>= fun r1 =>
 match r1 with
 | .inl cw=>(some cw)
 | .inr cw=>(some (-1))
theorem I7 {aa:(List aN)} {aG:Int}:bm (rQ aa aG) (fun r=>Con a2 36 [.isl 3 (aa.map ay),.n .i64 aG] [] (.n .i64 r) []):=by
 unfold rQ
 exact .aJ fun r1 R =>
  (let t1:List bx:=[.J (o 1 []),.J (o 1 []),.a0 [] [] (bf [0,1,5])];
  (by
  rcases r1 with cw|cw
  ·exact (.ret (a8 (t1.append [.sub (.exit 0) [(1,.n .i64 cw)] [],.J (o 2 [])]) (.e1 (CL R))))
  ·exact (.ret (a8 (t1.append [.sub (.ret) [(4,.n .i64 (-1:Int))] []]) (.e1 (CL R))))))
def n6 (aa:cX) (aG:Int):Option Int :=
 rV aa.bs aG >>= fun r1 =>
 if (decide (r1<(0:Int)))=true then
  some (-1)
 else
  rQ aa.bZ r1 >>= fun bg =>
  if (decide (bg<(0:Int)))=true then
   some (-1)
  else
   some bg
theorem pP {aa:cX} {aG:Int}:bm (n6 aa aG) (fun r=>Con a2 14 [.agg [.isl 4 (aa.bs.map au),.isl 3 (aa.bZ.map ay)],.n .i64 aG] [] (.n .i64 r) []):=by
 unfold n6
 exact .aJ fun r1 R =>
  (let t1:List bx:=[.J (o 2 []),.J (o 3 (aj (bM 2 (.n .i64 r1) true) (o 1 []))),.J (o 2 [])];
  have aO:=((.az (Jj r1 R) (a1.n .i64 r1)):b2 _);
  .ite (fun ai =>
  .ret (a8 (t1.append [.af true,.J (o 1 [])]) (aO.aC (.e1 ai))))
  (fun ai =>
  .aJ fun bg aM =>
  (let t3:List bx:=t1.append [.af false,.J (o 3 (aj (bM 2 (.n .i64 bg) true) (o 1 []))),.J (o 2 [])];
  have c8:=aO.aC (.bp ai (I7 bg aM) (a1.n .i64 bg));
  .ite (fun ba =>
  .ret (a8 (t3.append [.af true,.J (o 1 [])]) (c8.aC (.e1 ba))))
  (fun ba =>
  .ret (a8 (t3.append [.af false,.J (o 2 [])]) (c8.aC (.e1 ba)))))))
def xL (aa:(List aN)) (aG:Int):Unit→S:=fun _=>c6 [(0,.isl 3 (aa.map ay)),(1,.n .i64 aG),(5,.n .i64 (0:Int))] []
def CE (aa:(List aN)) (aG:Int):Unit→dc
 | a=>⟨some 0,[(1,.n .i64 aG)],[]⟩
def xM (aa:(List aN)) (aG:Int):Option ((Unit)⊕(Unit)) :=
 if (decide ((0:Int)<(len_ ay aa)))=true then
  if 0≤(0:Int)∧(0:Int)<aa.length then
  none
  else none
 else
  some (.inr ())
def yZ (aa:(List aN)) (aG:Int):Option (Unit):=iter (fun w:Unit=>xM aa aG) ()
theorem HF {aa:(List aN)} {aG:Int}:bm (xM aa aG) (dI a2 34 0 33 [1,0,1,0,0] (xL aa aG ()) (xL aa aG) (CE aa aG)):=by
 unfold xM
 exact .ite (fun h1 =>
  .bu fun R =>
  .pa)
  (fun h1 =>
  .ret (bi [.J (o 4 []),.af false,.a0 [] [] (bf [1])] (.e1 h1)))
theorem Iz {aa:(List aN)} {aG:Int} {r} (h:yZ aa aG=some r):dJ a2 34 0 33 [1,0,1,0,0] (xL aa aG) (CE aa aG) () r:=dK (fun _=>HF) h
def rR (aa:(List aN)) (aG:Int):Option Int :=
 yZ aa aG >>= fun r1 =>
 some aG
theorem I8 {aa:(List aN)} {aG:Int}:bm (rR aa aG) (fun r=>Con a2 33 [.isl 3 (aa.map ay),.n .i64 aG] [] (.n .i64 r) []):=by
 unfold rR
 exact .aJ fun r1 R =>
  .ret (a8 [.J (o 1 []),.J (o 1 []),.a0 [] [] (bf [0,1,5]),.sub (.exit 0) [(1,.n .i64 aG)] [],.J (o 2 [])] (.e1 (Iz R)))
def rH (aG:Int) (mL:(List aB)) (wq:(List aN)):Option Int :=
 na mL aG >>= fun r1 =>
 rR wq r1 >>= fun bY =>
 some bY
theorem HP {aG:Int} {mL:(List aB)} {wq:(List aN)}:bm (rH aG mL wq) (fun a=>Con a2 12 [.agg [.isl 4 (mL.map au),.isl 3 (wq.map ay)],.n .i64 aG] [] (.n .i64 a) []):=by
 unfold rH
 exact .aJ fun r1 R =>
  .aJ fun bY ax =>
  .ret (gQ [.J (o 2 []),.J (o 3 (aj (bM 2 (.n .i64 r1) true) (o 1 []))),.J (o 3 (aj (bM 2 (.n .i64 bY) true) (o 1 []))),.J (o 2 [])] [] [] (.cI (Dc r1 R) (a1.n .i64 r1) (I8 bY ax) (a1.n .i64 bY)))
def u0 (qZ:cX) (sN:(List cD)):Option Bool :=
 oa qZ 1048576 >>= fun r1 =>
 if (decide (r1<(0:Int)))=true then
  some true
 else
  sq sN r1 >>= fun bg =>
  if (decide (bg<(0:Int)))=true then
   some true
  else
   rO qZ >>= fun aF =>
   r3 sN >>= fun aE =>
   if aE.1.all (sW aE.2)=true then
   qp (⟨aF.1,aF.2⟩:cX) (aE.1.map (fw aE.2)) >>= fun fq =>
   qe (⟨aF.1,aF.2⟩:cX) (aE.1.map (fw aE.2)) >>= fun BW =>
   match BW with
   | .inl bJ=>(kM (⟨([]:List aB),bJ⟩:cX) fq.1 >>= fun dO =>
    if dO=true then
     if (true == fq.2)=true then
      kM (⟨aF.1,aF.2⟩:cX) (⟨aF.1,aF.2⟩:cX) >>= fun iA =>
      if iA=true then
       oq (aE.1.map (fw aE.2)) (aE.1.map (fw aE.2)) >>= fun jV =>
       if jV=true then
        l4 1 aF.1 aF.2 >>= fun hv =>
        od hv.1 aE.1 aE.2 >>= fun fg =>
        if (decide (fg.1<(0:Int)))=true then
         some false
        else
         rK 1 ([]:List aB) bJ >>= fun eF =>
         if 0+bJ.length≤eF.2.length then
         n6 (⟨([]:List aB),(eF.2.drop 0).take bJ.length⟩:cX) 1 >>= fun mP =>
         if (decide (mP<(0:Int)))=true then
          some false
         else
          if (mP != eF.1)=true then
           some false
          else
           some true
         else none
       else
        some false
      else
       some false
     else
      some false
    else
     some false)
   | .inr (.inl bJ)=>(kM (⟨([]:List aB),([]:List aN)⟩:cX) fq.1 >>= fun dO =>
    if dO=true then
     if (false == fq.2)=true then
      kM (⟨aF.1,aF.2⟩:cX) (⟨aF.1,aF.2⟩:cX) >>= fun iA =>
      if iA=true then
       oq (aE.1.map (fw aE.2)) (aE.1.map (fw aE.2)) >>= fun jV =>
       if jV=true then
        l4 1 aF.1 aF.2 >>= fun hv =>
        od hv.1 aE.1 aE.2 >>= fun fg =>
        if (decide (fg.1<(0:Int)))=true then
         some false
        else
         rH 1 ([]:List aB) ([]:List aN) >>= fun eF =>
         n6 (⟨([]:List aB),([]:List aN)⟩:cX) 1 >>= fun mQ =>
         if (decide (mQ<(0:Int)))=true then
          some false
         else
          if (mQ != eF)=true then
           some false
          else
           some true
       else
        some false
      else
       some false
     else
      some false
    else
     some false)
   | .inr (.inr bJ)=>(kM (⟨bJ.1,bJ.2⟩:cX) fq.1 >>= fun dO =>
    if dO=true then
     if (true == fq.2)=true then
      kM (⟨aF.1,aF.2⟩:cX) (⟨aF.1,aF.2⟩:cX) >>= fun iA =>
      if iA=true then
       oq (aE.1.map (fw aE.2)) (aE.1.map (fw aE.2)) >>= fun jV =>
       if jV=true then
        l4 1 aF.1 aF.2 >>= fun hv =>
        od hv.1 aE.1 aE.2 >>= fun fg =>
        if (decide (fg.1<(0:Int)))=true then
         some false
        else
         l4 1 bJ.1 bJ.2 >>= fun eF =>
         if 0+bJ.1.length≤eF.2.1.length then
         if 0+bJ.2.length≤eF.2.2.length then
         n6 (⟨(eF.2.1.drop 0).take bJ.1.length,(eF.2.2.drop 0).take bJ.2.length⟩:cX) 1 >>= fun mR =>
         if (decide (mR<(0:Int)))=true then
          some false
         else
          if (mR != eF.1)=true then
           some false
          else
           some true
         else none
         else none
       else
        some false
      else
       some false
     else
      some false
    else
     some false)
   else none
set_option maxHeartbeats 4000000 in
theorem IJ {qZ:cX} {sN:(List cD)}:bm (u0 qZ sN) (fun r=>Con a2 3 [.agg [.isl 4 (qZ.bs.map au),.isl 3 (qZ.bZ.map ay)],.isl 3 (sN.map eTRat)] [] (.b r) []):=by
 unfold u0
 exact .aJ fun r1 R =>
  (let t1:List bx:=[.J (o 2 []),.J (o 1 []),.J (o 2 (aj (bM 2 (.n .i64 r1) true) (o 1 []))),.J (o 2 [])];
  have aO:=((.az (IX r1 R) (a1.n .i64 r1)):b2 _);
  .ite (fun ai =>
  .ret (a8 (t1.append [.af true,.J (o 1 [])]) (aO.aC (.e1 ai))))
  (fun ai =>
  .aJ fun bg aM =>
  (let t3:List bx:=t1.append [.af false,.J (o 2 (aj (bM 2 (.n .i64 bg) true) (o 1 []))),.J (o 2 [])];
  have c8:=aO.aC (.bp ai (Kh bg aM) (a1.n .i64 bg));
  .ite (fun ba =>
  .ret (a8 (t3.append [.af true,.J (o 1 [])]) (c8.aC (.e1 ba))))
  (fun ba =>
  .aJ fun aF bV =>
  .aJ fun aE df =>
  .bu fun eb =>
  .aJ fun fq e9 =>
  .aJ fun BW hK =>
  (let t5:List bx:=t3.append [.af false,.J (o 1 (aj (.call {aA:=[],bR:=[],ac:=[ii],r:= .agg [.aV 0 0 0 aF.1.length,.aV 0 1 0 aF.2.length],cC:=[[ae.mk 4 (aF.1.map au) .live,ae.mk 3 (aF.2.map ay) .live]],dE:= .bI (.agg [.id,.id]),d9:=[.eg [ae.mk 4 (aF.1.map au) .live,ae.mk 3 (aF.2.map ay) .live]],cK:=[],cH:=true}) (o 1 (aj (.call {aA:=[],bR:=[],ac:=[ii],r:= .aV 0 0 0 aE.1.length,cC:=[(ae.mk 3 (aE.1.map (a4 0 1)) .live::(aE.2.map (cd .live 1 U)))],dE:=ii,d9:=[.eg (ae.mk 3 (aE.1.map (a4 18 1)) .live::(aE.2.map (cd .live 1 U)))],cK:=[],cH:=true}) (aj (.pg 18 (.pg 16 (.call {ac:=[.bI (.agg [.db (aF.1.map au),.db (aF.2.map ay)]),.bI (.cb (.view 18 (ae.mk 3 (aE.1.map (a4 18 1)) .fK) ((aE.1.map (fw aE.2)).map eTRat)))],r:= .cy [.agg [.isl 4 (fq.1.bs.map au),.isl 3 (fq.1.bZ.map ay)],.b fq.2],cH:=false,cK:=[16,18]}))) (o 6 [])))))),.J (o 1 (aj (.call {aA:=[],bR:=[],ac:=[ii],r:= .agg [.aV 0 0 0 aF.1.length,.aV 0 1 0 aF.2.length],cC:=[[ae.mk 4 (aF.1.map au) .live,ae.mk 3 (aF.2.map ay) .live]],dE:= .bI (.agg [.id,.id]),d9:=[.eg [ae.mk 4 (aF.1.map au) .live,ae.mk 3 (aF.2.map ay) .live]],cK:=[],cH:=true}) (o 2 []))),.J (o 1 (aj (.call {aA:=[],bR:=[],ac:=[ii],r:= .aV 0 0 0 aE.1.length,cC:=[(ae.mk 3 (aE.1.map (a4 0 1)) .live::(aE.2.map (cd .live 1 U)))],dE:=ii,d9:=[.eg (ae.mk 3 (aE.1.map (a4 31 1)) .live::(aE.2.map (cd .live 1 U)))],cK:=[],cH:=true}) (o 1 [])))];
  have gS:=c8.aC (.br ba (dh (dk (aY:=(c3 [.row 16])) 4 .live au (aT au aF.1) (fun x=>(dj h9) x)) (dh (dk (aY:=(c3 [.row 16])) 3 .live ay (aT ay aF.2) (fun x=>(dj h8) x)) (hE (aY:=(c3 [.row 16]))))) ((fi rfl (fi rfl kP)):fI [ae.mk 4 (aF.1.map au) .live,ae.mk 3 (aF.2.map ay) .live]) (m1 aF bV) (a1.agg (dz (a1.aV 0 0 0 aF.1.length) (dz (a1.aV 0 1 0 aF.2.length) f6))) ((gw (eV (eS kz) (eV (eS j1) hR)) gx):fE [[ae.mk 4 (aF.1.map au) .live,ae.mk 3 (aF.2.map ay) .live]]) (dh (dk (aY:=(c3 [.row 18])) 3 .live (a4 18 1) (aT (a4 0 1) aE.1) (fun x=>(hB (rfl:(c3 [.row 18]) 0=some 18)) x)) (hD (aY:=(c3 [.row 18])) (er .live 1 U aE.2) (fun x=>(dj gW) x))) ((fi rfl (kB (er .live 1 U aE.2))):fI (ae.mk 3 (aE.1.map (a4 0 1)) .live::(aE.2.map (cd .live 1 U)))) (.br (m6 aE df) (a1.aV 0 0 0 aE.1.length) ((gw (eV (eS (nj _ _)) (nl km)) gx):fE [(ae.mk 3 (aE.1.map (a4 0 1)) .live::(aE.2.map (cd .live 1 U)))]) (d7 (aT au aF.1) (bw aF.1)) (cY (aT au aF.1) (bw aF.1)) (cM eh aF.1) (d7 (aT ay aF.2) (bw aF.2)) (cY (aT ay aF.2) (bw aF.2)) (.br (cM dl aF.2) (rfl:b5 (some (ae.mk 3 (aE.1.map (a4 18 1)) .fK::(hT (aE.2.map (cd .live 1 U))))) 0=some (ae.mk 3 (aE.1.map (a4 18 1)) .fK)) (rfl:_=true) (cY (aT (a4 18 1) aE.1) (bw aE.1)) (cM ld (aE.1.map (fw aE.2))) (lE (b8:=18) (f7:=[ae.mk 3 (aE.1.map (a4 18 1)) .fK]++(hT (aE.2.map (cd .live 1 U)))) (bq:=lH) (sz:=3) (g:=eTRat) (aT (a4 18 1) aE.1) (fun _=>rfl) (fun x ad=>(lC (b8:=18) (c:=1) (bq:=lH) (ir:=[ae.mk 3 (aE.1.map (a4 18 1)) .fK]) (Nv (er .live 1 U aE.2)) rfl PS rfl (lF eb x ad))) (bw aE.1)) (Km fq e9) (dh (dk (aY:=(c3 [.row 27])) 4 .live au (aT au aF.1) (fun x=>(dj h9) x)) (dh (dk (aY:=(c3 [.row 27])) 3 .live ay (aT ay aF.2) (fun x=>(dj h8) x)) (hE (aY:=(c3 [.row 27]))))) (.br ((fi rfl (fi rfl kP)):fI [ae.mk 4 (aF.1.map au) .live,ae.mk 3 (aF.2.map ay) .live]) (m1 aF bV) (a1.agg (dz (a1.aV 0 0 0 aF.1.length) (dz (a1.aV 0 1 0 aF.2.length) f6))) ((gw (eV (eS kz) (eV (eS j1) hR)) gx):fE [[ae.mk 4 (aF.1.map au) .live,ae.mk 3 (aF.2.map ay) .live]]) (dh (dk (aY:=(c3 [.row 31])) 3 .live (a4 31 1) (aT (a4 0 1) aE.1) (fun x=>(hB (rfl:(c3 [.row 31]) 0=some 31)) x)) (hD (aY:=(c3 [.row 31])) (er .live 1 U aE.2) (fun x=>(dj gW) x))) ((fi rfl (kB (er .live 1 U aE.2))):fI (ae.mk 3 (aE.1.map (a4 0 1)) .live::(aE.2.map (cd .live 1 U)))) (m6 aE df) (a1.aV 0 0 0 aE.1.length) (.br ((gw (eV (eS (nj _ _)) (nl km)) gx):fE [(ae.mk 3 (aE.1.map (a4 0 1)) .live::(aE.2.map (cd .live 1 U)))]) (d7 (aT au aF.1) (bw aF.1)) (cY (aT au aF.1) (bw aF.1)) (cM eh aF.1) (d7 (aT ay aF.2) (bw aF.2)) (cY (aT ay aF.2) (bw aF.2)) (cM dl aF.2) (rfl:b5 (some (ae.mk 3 (aE.1.map (a4 31 1)) .live::(aE.2.map (cd .live 1 U)))) 0=some (ae.mk 3 (aE.1.map (a4 31 1)) .live)) (.cI (rfl:_=true) (cY (aT (a4 31 1) aE.1) (bw aE.1)) (cM ld (aE.1.map (fw aE.2))) (lE (b8:=31) (f7:=[ae.mk 3 (aE.1.map (a4 31 1)) .live]++(aE.2.map (cd .live 1 U))) (bq:=fQ) (sz:=3) (g:=eTRat) (aT (a4 31 1) aE.1) (fun _=>rfl) (fun x ad=>(lC (b8:=31) (c:=1) (bq:=fQ) (ir:=[ae.mk 3 (aE.1.map (a4 31 1)) .live]) (er .live 1 U aE.2) rfl k8 rfl (lF eb x ad))) (bw aE.1))))))));
  (by
  rcases BW with bJ|bJ|bJ
  ·exact (.aJ fun dO iR =>
  (let t7:List bx:=t5.append [.J (o 2 (aj (.call {aA:=[],bR:=[],ac:=[.bI (.agg [.db (aF.1.map au),.db (aF.2.map ay)]),.bI (.cb (.view 31 (ae.mk 3 (aE.1.map (a4 31 1)) .live) ((aE.1.map (fw aE.2)).map eTRat)))],r:= .cy [.agg [.isl 4 (([]:List aB).map au),.aV 0 0 0 bJ.length],.b true],cC:=[[ae.mk 3 (bJ.map ay) .live]],dE:= .comp [.agg [.id,.id],.cb .id],d9:=[.pure],cK:=[27,31],cH:=true}) (o 6 [])))];
  have hO:=gS.aC (.br (eR 3 dl bJ) (qa (.inl bJ) hK) (kj (dz (a1.agg (dz (a1.fx _:a1 (.isl 4 (([]:List aB).map au))) (dz (a1.aV 0 0 0 bJ.length) f6))) (dz (a1.b true) f6))) ((gw (eV (eS j1) hR) gx):fE [[ae.mk 3 (bJ.map ay) .live]]) (d7 (aT ay bJ) (bw bJ)) (cY (aT ay bJ) (bw bJ)) (cM dl bJ) (lb dO iR) (.e1 (a1.b dO)));
  .ite (fun dY =>
  (let t9:List bx:=t7.append [.J (o 2 (aj (.call {ac:=[.bI (.agg [.id,.db (bJ.map ay)]),ii],r:= .b dO,cH:=true,cK:=[35]}) (o 5 (aj (.af false) []))))];
  have nA:=hO.aC (.cI (bE dY) (bE dY) (bE dY) (bE dY));
  .ite (fun e4 =>
  .aJ fun iA hJ =>
  (let t11:List bx:=t9.append [.af false,.J (o 2 (aj (.call {aA:=[],bR:=[],ac:=[ii],r:= .agg [.aV 0 0 0 aF.1.length,.aV 0 1 0 aF.2.length],cC:=[[ae.mk 4 (aF.1.map au) .live,ae.mk 3 (aF.2.map ay) .live]],dE:= .bI (.agg [.id,.id]),d9:=[.eg [ae.mk 4 (aF.1.map au) .live,ae.mk 3 (aF.2.map ay) .live]],cK:=[],cH:=true}) (aj (.call {ac:=[.bI (.agg [.db (aF.1.map au),.db (aF.2.map ay)]),.bI (.agg [.db (aF.1.map au),.db (aF.2.map ay)])],r:= .b iA,cH:=true,cK:=[27,53]}) (o 1 []))))];
  have nB:=nA.aC (.br (bE e4) (dh (dk (aY:=(c3 [.row 53])) 4 .live au (aT au aF.1) (fun x=>(dj h9) x)) (dh (dk (aY:=(c3 [.row 53])) 3 .live ay (aT ay aF.2) (fun x=>(dj h8) x)) (hE (aY:=(c3 [.row 53]))))) ((fi rfl (fi rfl kP)):fI [ae.mk 4 (aF.1.map au) .live,ae.mk 3 (aF.2.map ay) .live]) (m1 aF bV) (a1.agg (dz (a1.aV 0 0 0 aF.1.length) (dz (a1.aV 0 1 0 aF.2.length) f6))) ((gw (eV (eS kz) (eV (eS j1) hR)) gx):fE [[ae.mk 4 (aF.1.map au) .live,ae.mk 3 (aF.2.map ay) .live]]) (d7 (aT au aF.1) (bw aF.1)) (cY (aT au aF.1) (bw aF.1)) (.br (cM eh aF.1) (d7 (aT ay aF.2) (bw aF.2)) (cY (aT ay aF.2) (bw aF.2)) (cM dl aF.2) (d7 (aT au aF.1) (bw aF.1)) (cY (aT au aF.1) (bw aF.1)) (cM eh aF.1) (d7 (aT ay aF.2) (bw aF.2)) (.cI (cY (aT ay aF.2) (bw aF.2)) (cM dl aF.2) (lb iA hJ) (a1.b iA))));
  .ite (fun iQ =>
  .aJ fun jV pc =>
  (let t13:List bx:=t11.append [.af false,.J (o 2 (aj (.call {aA:=[],bR:=[],ac:=[ii],r:= .aV 0 0 0 aE.1.length,cC:=[(ae.mk 3 (aE.1.map (a4 0 1)) .live::(aE.2.map (cd .live 1 U)))],dE:=ii,d9:=[.eg (ae.mk 3 (aE.1.map (a4 58 1)) .live::(aE.2.map (cd .live 1 U)))],cK:=[],cH:=true}) (aj (.call {ac:=[.bI (.cb (.view 31 (ae.mk 3 (aE.1.map (a4 31 1)) .live) ((aE.1.map (fw aE.2)).map eTRat))),.bI (.cb (.view 58 (ae.mk 3 (aE.1.map (a4 58 1)) .live) ((aE.1.map (fw aE.2)).map eTRat)))],r:= .b jV,cH:=true,cK:=[31,58]}) (o 1 []))))];
  have nC:=nB.aC (.br (bE iQ) (dh (dk (aY:=(c3 [.row 58])) 3 .live (a4 58 1) (aT (a4 0 1) aE.1) (fun x=>(hB (rfl:(c3 [.row 58]) 0=some 58)) x)) (hD (aY:=(c3 [.row 58])) (er .live 1 U aE.2) (fun x=>(dj gW) x))) ((fi rfl (kB (er .live 1 U aE.2))):fI (ae.mk 3 (aE.1.map (a4 0 1)) .live::(aE.2.map (cd .live 1 U)))) (m6 aE df) (a1.aV 0 0 0 aE.1.length) ((gw (eV (eS (nj _ _)) (nl km)) gx):fE [(ae.mk 3 (aE.1.map (a4 0 1)) .live::(aE.2.map (cd .live 1 U)))]) (rfl:b5 (some (ae.mk 3 (aE.1.map (a4 31 1)) .live::(aE.2.map (cd .live 1 U)))) 0=some (ae.mk 3 (aE.1.map (a4 31 1)) .live)) (rfl:_=true) (.br (cY (aT (a4 31 1) aE.1) (bw aE.1)) (cM ld (aE.1.map (fw aE.2))) (lE (b8:=31) (f7:=[ae.mk 3 (aE.1.map (a4 31 1)) .live]++(aE.2.map (cd .live 1 U))) (bq:=fQ) (sz:=3) (g:=eTRat) (aT (a4 31 1) aE.1) (fun _=>rfl) (fun x ad=>(lC (b8:=31) (c:=1) (bq:=fQ) (ir:=[ae.mk 3 (aE.1.map (a4 31 1)) .live]) (er .live 1 U aE.2) rfl k8 rfl (lF eb x ad))) (bw aE.1)) (rfl:b5 (some (ae.mk 3 (aE.1.map (a4 58 1)) .live::(aE.2.map (cd .live 1 U)))) 0=some (ae.mk 3 (aE.1.map (a4 58 1)) .live)) (rfl:_=true) (cY (aT (a4 58 1) aE.1) (bw aE.1)) (cM ld (aE.1.map (fw aE.2))) (lE (b8:=58) (f7:=[ae.mk 3 (aE.1.map (a4 58 1)) .live]++(aE.2.map (cd .live 1 U))) (bq:=fQ) (sz:=3) (g:=eTRat) (aT (a4 58 1) aE.1) (fun _=>rfl) (fun x ad=>(lC (b8:=58) (c:=1) (bq:=fQ) (ir:=[ae.mk 3 (aE.1.map (a4 58 1)) .live]) (er .live 1 U aE.2) rfl k8 rfl (lF eb x ad))) (bw aE.1)) (.az (z6 jV pc) (a1.b jV))));
  .ite (fun lV =>
  .aJ fun hv ub =>
  .aJ fun fg uc =>
  (let t15:List bx:=t13.append [.af false,.J (o 1 []),.J (o 2 (aj (.call {aA:=[.ap 27 0 (ae.mk 4 (aF.1.map au) .live),.ap 27 1 (ae.mk 3 (aF.2.map ay) .live)],bR:=[.pure,.pure],ac:=[.bI (.agg [.at_ 0 0 aF.1.length,.at_ 1 0 aF.2.length]),ii],r:= .n .i64 hv.1,cC:=[[ae.mk 4 (hv.2.1.map au) .live],[ae.mk 3 (hv.2.2.map ay) .live]],dE:=ii,d9:=[.pure,.pure],cK:=[27],cH:=false}) (o 1 []))),.J (o 2 (aj (.call {aA:=[.row 31],bR:=[.eg (ae.mk 3 (aE.1.map (a4 0 1)) .live::(aE.2.map (cd .live 1 U)))],ac:=[ii,ii],r:= .n .i64 fg.1,cC:=[(ae.mk 3 (fg.2.1.map (a4 0 1)) .live::(fg.2.2.map (cd .live 1 U)))],dE:=ii,d9:=[.eg (ae.mk 3 (fg.2.1.map (a4 31 1)) .live::(fg.2.2.map (cd .live 1 U)))],cK:=[31],cH:=false}) (o 1 [])))];
  have nD:=nC.aC (.br (bE lV) (by decide:0≠1) (rfl:gL [.ap 27 0 (ae.mk 4 (aF.1.map au) .live),.ap 27 1 (ae.mk 3 (aF.2.map ay) .live)] 0 0=some (27,0)) (rfl:aF.1.length=aF.1.length) (rfl:gL [.ap 27 0 (ae.mk 4 (aF.1.map au) .live),.ap 27 1 (ae.mk 3 (aF.2.map ay) .live)] 1 0=some (27,1)) (rfl:aF.2.length=aF.2.length) (rfl:b5 (some [ae.mk 4 (aF.1.map au) .live,ae.mk 3 (aF.2.map ay) .live]) 0=some (ae.mk 4 (aF.1.map au) .live)) (eR 4 eh aF.1) (.br (rfl:b5 (some [ae.mk 4 (aF.1.map au) .live,ae.mk 3 (aF.2.map ay) .live]) 1=some (ae.mk 3 (aF.2.map ay) .live)) (eR 3 dl aF.2) (eR 4 eh hv.2.1) (eR 3 dl hv.2.2) (uR hv ub) (dh (dk (aY:=(ig 0 [.row 31])) 3 .live (a4 0 1) (aT (a4 31 1) aE.1) (fun x=>(hB (rfl:(ig 0 [.row 31]) 31=some 0)) x)) (hD (aY:=(ig 0 [.row 31])) (er .live 1 U aE.2) (fun x=>(dj gW) x))) ((fi rfl (kB (er .live 1 U aE.2))):fI (ae.mk 3 (aE.1.map (a4 31 1)) .live::(aE.2.map (cd .live 1 U)))) (dh (dk (aY:=(c3 [.row 31])) 3 .live (a4 31 1) (aT (a4 0 1) fg.2.1) (fun x=>(hB (rfl:(c3 [.row 31]) 0=some 31)) x)) (hD (aY:=(c3 [.row 31])) (er .live 1 U fg.2.2) (fun x=>(dj gW) x))) (.az ((fi rfl (kB (er .live 1 U fg.2.2))):fI (ae.mk 3 (fg.2.1.map (a4 0 1)) .live::(fg.2.2.map (cd .live 1 U)))) (zi fg uc))));
  .ite (fun fW =>
  .ret (a8 (t15.append [.J (o 3 (cc 4 (aj (.af true) (o 1 (cc 3 (o 1 [])))))),.af true,.J (o 1 [])]) (nD.aC (.br fW fW fW fW fW bF bF bF (.e1 bF)))))
  (fun fW =>
  .aJ fun eF ud =>
  .bu fun ue =>
  .aJ fun mP nE =>
  (let t17:List bx:=t15.append [.J (o 5 (aj (.call {ac:=[.bI (.agg [.id,.db (bJ.map ay)]),ii],r:= .b dO,cH:=true,cK:=[35]}) (o 1 (aj (.af false) (o 4 (aj (.af false) [])))))),.af false,.J (o 1 []),.J (o 2 (aj (.call {aA:=[.row 35],bR:=[.pure],ac:=[.bI (.agg [.id,.id]),ii],r:= .n .i64 eF.1,cC:=[[ae.mk 3 (eF.2.map ay) .live]],dE:=ii,d9:=[.pure],cK:=[35],cH:=false}) (o 1 []))),.J (o 1 []),.J (o 2 (aj (.call {ac:=[.bI (.agg [.id,.db (((eF.2.drop 0).take bJ.length).map ay)]),ii],r:= .n .i64 mP,cH:=true,cK:=[35]}) (o 1 []))),.J (o 2 [])];
  have lW:=nD.aC (.br fW fW fW (d7 (aT ay bJ) (bw bJ)) (cY (aT ay bJ) (bw bJ)) (cM dl bJ) (lb dO iR) (a1.b dO) (.br fW fW (bE dY) (bE dY) (bE dY) (bE dY) (bE e4) (eR 3 dl bJ) (.eQ (eR 3 dl eF.2) (H6 eF ud) (mz (aT ay eF.2) 0 bJ.length) (lg (aT ay eF.2) ue) (cM dl ((eF.2.drop 0).take bJ.length)) (pP mP nE) (a1.n .i64 mP))));
  .ite (fun k3 =>
  .ret (a8 (t17.append [.af true,.J (o 1 [])]) (lW.aC (.e1 k3))))
  (fun k3 =>
  .ite (fun ms =>
  .ret (a8 (t17.append [.af false,.J (o 3 []),.af true,.J (o 1 [])]) (lW.aC (.az k3 ms))))
  (fun ms =>
  .ret (a8 (t17.append [.af false,.J (o 3 []),.af false,.J (o 1 (aj (.call {aA:=[],bR:=[],ac:=[ii],r:= .agg [.aV 0 0 0 aF.1.length,.aV 0 1 0 aF.2.length],cC:=[[ae.mk 4 (aF.1.map au) .live,ae.mk 3 (aF.2.map ay) .live]],dE:= .bI (.agg [.id,.id]),d9:=[.eg [ae.mk 4 (aF.1.map au) .live,ae.mk 3 (aF.2.map ay) .live]],cK:=[],cH:=true}) (o 1 (aj (.call {aA:=[],bR:=[],ac:=[ii],r:= .aV 0 0 0 aE.1.length,cC:=[(ae.mk 3 (aE.1.map (a4 0 1)) .live::(aE.2.map (cd .live 1 U)))],dE:=ii,d9:=[.eg (ae.mk 3 (aE.1.map (a4 101 1)) .live::(aE.2.map (cd .live 1 U)))],cK:=[],cH:=true}) (aj (.call {aA:=[],bR:=[],ac:=[.bI (.agg [.db (aF.1.map au),.db (aF.2.map ay)]),.bI (.cb (.view 101 (ae.mk 3 (aE.1.map (a4 101 1)) .live) ((aE.1.map (fw aE.2)).map eTRat)))],r:= .cy [.agg [.isl 4 (([]:List aB).map au),.aV 0 0 0 bJ.length],.b true],cC:=[[ae.mk 3 (bJ.map ay) .live]],dE:= .comp [.agg [.id,.id],.cb .id],d9:=[.pure],cK:=[99,101],cH:=true}) (o 6 [])))))),.J (o 2 (aj (.call {ac:=[.bI (.agg [.id,.db (bJ.map ay)]),ii],r:= .b dO,cH:=true,cK:=[102]}) (o 5 (aj (.af false) [])))),.af false,.J (o 1 []),.J (o 2 (aj (.call {ac:=[.bI (.agg [.id,.db (((eF.2.drop 0).take bJ.length).map ay)]),ii],r:= .n .i64 mP,cH:=true,cK:=[35]}) (o 1 []))),.J (o 2 []),.af false,.J (o 3 []),.af false,.J (o 1 [])]) (lW.aC (.br k3 ms (dh (dk (aY:=(c3 [.row 99])) 4 .live au (aT au aF.1) (fun x=>(dj h9) x)) (dh (dk (aY:=(c3 [.row 99])) 3 .live ay (aT ay aF.2) (fun x=>(dj h8) x)) (hE (aY:=(c3 [.row 99]))))) ((fi rfl (fi rfl kP)):fI [ae.mk 4 (aF.1.map au) .live,ae.mk 3 (aF.2.map ay) .live]) (m1 aF bV) (a1.agg (dz (a1.aV 0 0 0 aF.1.length) (dz (a1.aV 0 1 0 aF.2.length) f6))) ((gw (eV (eS kz) (eV (eS j1) hR)) gx):fE [[ae.mk 4 (aF.1.map au) .live,ae.mk 3 (aF.2.map ay) .live]]) (dh (dk (aY:=(c3 [.row 101])) 3 .live (a4 101 1) (aT (a4 0 1) aE.1) (fun x=>(hB (rfl:(c3 [.row 101]) 0=some 101)) x)) (hD (aY:=(c3 [.row 101])) (er .live 1 U aE.2) (fun x=>(dj gW) x))) (.br ((fi rfl (kB (er .live 1 U aE.2))):fI (ae.mk 3 (aE.1.map (a4 0 1)) .live::(aE.2.map (cd .live 1 U)))) (m6 aE df) (a1.aV 0 0 0 aE.1.length) ((gw (eV (eS (nj _ _)) (nl km)) gx):fE [(ae.mk 3 (aE.1.map (a4 0 1)) .live::(aE.2.map (cd .live 1 U)))]) (d7 (aT au aF.1) (bw aF.1)) (cY (aT au aF.1) (bw aF.1)) (cM eh aF.1) (d7 (aT ay aF.2) (bw aF.2)) (.br (cY (aT ay aF.2) (bw aF.2)) (cM dl aF.2) (rfl:b5 (some (ae.mk 3 (aE.1.map (a4 101 1)) .live::(aE.2.map (cd .live 1 U)))) 0=some (ae.mk 3 (aE.1.map (a4 101 1)) .live)) (rfl:_=true) (cY (aT (a4 101 1) aE.1) (bw aE.1)) (cM ld (aE.1.map (fw aE.2))) (lE (b8:=101) (f7:=[ae.mk 3 (aE.1.map (a4 101 1)) .live]++(aE.2.map (cd .live 1 U))) (bq:=fQ) (sz:=3) (g:=eTRat) (aT (a4 101 1) aE.1) (fun _=>rfl) (fun x ad=>(lC (b8:=101) (c:=1) (bq:=fQ) (ir:=[ae.mk 3 (aE.1.map (a4 101 1)) .live]) (er .live 1 U aE.2) rfl k8 rfl (lF eb x ad))) (bw aE.1)) (eR 3 dl bJ) (.br (qa (.inl bJ) hK) (kj (dz (a1.agg (dz (a1.fx _:a1 (.isl 4 (([]:List aB).map au))) (dz (a1.aV 0 0 0 bJ.length) f6))) (dz (a1.b true) f6))) ((gw (eV (eS j1) hR) gx):fE [[ae.mk 3 (bJ.map ay) .live]]) (d7 (aT ay bJ) (bw bJ)) (cY (aT ay bJ) (bw bJ)) (cM dl bJ) (lb dO iR) (a1.b dO) (.br (bE dY) (bE dY) (bE dY) (bE dY) (bE e4) (mz (aT ay eF.2) 0 bJ.length) (lg (aT ay eF.2) ue) (cM dl ((eF.2.drop 0).take bJ.length)) (.cI (pP mP nE) (a1.n .i64 mP) k3 ms))))))))))))))
  (fun lV =>
  .ret (a8 (t13.append [.af true,.J (o 1 [])]) (nC.aC (.e1 (bS lV)))))))
  (fun iQ =>
  .ret (a8 (t11.append [.af true,.J (o 1 [])]) (nB.aC (.e1 (bS iQ)))))))
  (fun e4 =>
  .ret (a8 (t9.append [.af true,.J (o 1 [])]) (nA.aC (.e1 (bS e4)))))))
  (fun dY =>
  .ret (a8 (t7.append [.J (o 2 (aj (.call {ac:=[.bI (.agg [.id,.db (bJ.map ay)]),ii],r:= .b dO,cH:=true,cK:=[35]}) (o 2 (cc 3 (aj (.af true) []))))),.af true,.J (o 1 [])]) (hO.aC (.dM (bS dY) (bS dY) (bS dY) (bS dY) bF))))))
  ·exact (.aJ fun dO iR =>
  (let t7:List bx:=t5.append [.J (o 2 (aj (.call {aA:=[],bR:=[],ac:=[.bI (.agg [.db (aF.1.map au),.db (aF.2.map ay)]),.bI (.cb (.view 31 (ae.mk 3 (aE.1.map (a4 31 1)) .live) ((aE.1.map (fw aE.2)).map eTRat)))],r:= .cy [.agg [.isl 4 (([]:List aB).map au),.isl 3 (([]:List aN).map ay)],.b false],cC:=[],dE:=ii,d9:=[],cK:=[27,31],cH:=true}) (o 6 [])))];
  have hO:=gS.aC (.cI (qa (.inr (.inl bJ)) hK) (kj (dz (a1.agg (dz (a1.fx _:a1 (.isl 4 (([]:List aB).map au))) (dz (a1.fx _:a1 (.isl 3 (([]:List aN).map ay))) f6))) (dz (a1.b false) f6))) (lb dO iR) (a1.b dO));
  .ite (fun dY =>
  (let t9:List bx:=t7.append [.J (o 2 (aj (bM 2 (.b dO) true) (o 5 (aj (.af false) []))))];
  have nA:=hO.aC (.cI (bE dY) (bE dY) (bE dY) (bE dY));
  .ite (fun e4 =>
  .aJ fun iA hJ =>
  (let t11:List bx:=t9.append [.af false,.J (o 2 (aj (.call {aA:=[],bR:=[],ac:=[ii],r:= .agg [.aV 0 0 0 aF.1.length,.aV 0 1 0 aF.2.length],cC:=[[ae.mk 4 (aF.1.map au) .live,ae.mk 3 (aF.2.map ay) .live]],dE:= .bI (.agg [.id,.id]),d9:=[.eg [ae.mk 4 (aF.1.map au) .live,ae.mk 3 (aF.2.map ay) .live]],cK:=[],cH:=true}) (aj (.call {ac:=[.bI (.agg [.db (aF.1.map au),.db (aF.2.map ay)]),.bI (.agg [.db (aF.1.map au),.db (aF.2.map ay)])],r:= .b iA,cH:=true,cK:=[27,53]}) (o 1 []))))];
  have nB:=nA.aC (.br (bE e4) (dh (dk (aY:=(c3 [.row 53])) 4 .live au (aT au aF.1) (fun x=>(dj h9) x)) (dh (dk (aY:=(c3 [.row 53])) 3 .live ay (aT ay aF.2) (fun x=>(dj h8) x)) (hE (aY:=(c3 [.row 53]))))) ((fi rfl (fi rfl kP)):fI [ae.mk 4 (aF.1.map au) .live,ae.mk 3 (aF.2.map ay) .live]) (m1 aF bV) (a1.agg (dz (a1.aV 0 0 0 aF.1.length) (dz (a1.aV 0 1 0 aF.2.length) f6))) ((gw (eV (eS kz) (eV (eS j1) hR)) gx):fE [[ae.mk 4 (aF.1.map au) .live,ae.mk 3 (aF.2.map ay) .live]]) (d7 (aT au aF.1) (bw aF.1)) (cY (aT au aF.1) (bw aF.1)) (.br (cM eh aF.1) (d7 (aT ay aF.2) (bw aF.2)) (cY (aT ay aF.2) (bw aF.2)) (cM dl aF.2) (d7 (aT au aF.1) (bw aF.1)) (cY (aT au aF.1) (bw aF.1)) (cM eh aF.1) (d7 (aT ay aF.2) (bw aF.2)) (.cI (cY (aT ay aF.2) (bw aF.2)) (cM dl aF.2) (lb iA hJ) (a1.b iA))));
  .ite (fun iQ =>
  .aJ fun jV pc =>
  (let t13:List bx:=t11.append [.af false,.J (o 2 (aj (.call {aA:=[],bR:=[],ac:=[ii],r:= .aV 0 0 0 aE.1.length,cC:=[(ae.mk 3 (aE.1.map (a4 0 1)) .live::(aE.2.map (cd .live 1 U)))],dE:=ii,d9:=[.eg (ae.mk 3 (aE.1.map (a4 58 1)) .live::(aE.2.map (cd .live 1 U)))],cK:=[],cH:=true}) (aj (.call {ac:=[.bI (.cb (.view 31 (ae.mk 3 (aE.1.map (a4 31 1)) .live) ((aE.1.map (fw aE.2)).map eTRat))),.bI (.cb (.view 58 (ae.mk 3 (aE.1.map (a4 58 1)) .live) ((aE.1.map (fw aE.2)).map eTRat)))],r:= .b jV,cH:=true,cK:=[31,58]}) (o 1 []))))];
  have nC:=nB.aC (.br (bE iQ) (dh (dk (aY:=(c3 [.row 58])) 3 .live (a4 58 1) (aT (a4 0 1) aE.1) (fun x=>(hB (rfl:(c3 [.row 58]) 0=some 58)) x)) (hD (aY:=(c3 [.row 58])) (er .live 1 U aE.2) (fun x=>(dj gW) x))) ((fi rfl (kB (er .live 1 U aE.2))):fI (ae.mk 3 (aE.1.map (a4 0 1)) .live::(aE.2.map (cd .live 1 U)))) (m6 aE df) (a1.aV 0 0 0 aE.1.length) ((gw (eV (eS (nj _ _)) (nl km)) gx):fE [(ae.mk 3 (aE.1.map (a4 0 1)) .live::(aE.2.map (cd .live 1 U)))]) (rfl:b5 (some (ae.mk 3 (aE.1.map (a4 31 1)) .live::(aE.2.map (cd .live 1 U)))) 0=some (ae.mk 3 (aE.1.map (a4 31 1)) .live)) (rfl:_=true) (.br (cY (aT (a4 31 1) aE.1) (bw aE.1)) (cM ld (aE.1.map (fw aE.2))) (lE (b8:=31) (f7:=[ae.mk 3 (aE.1.map (a4 31 1)) .live]++(aE.2.map (cd .live 1 U))) (bq:=fQ) (sz:=3) (g:=eTRat) (aT (a4 31 1) aE.1) (fun _=>rfl) (fun x ad=>(lC (b8:=31) (c:=1) (bq:=fQ) (ir:=[ae.mk 3 (aE.1.map (a4 31 1)) .live]) (er .live 1 U aE.2) rfl k8 rfl (lF eb x ad))) (bw aE.1)) (rfl:b5 (some (ae.mk 3 (aE.1.map (a4 58 1)) .live::(aE.2.map (cd .live 1 U)))) 0=some (ae.mk 3 (aE.1.map (a4 58 1)) .live)) (rfl:_=true) (cY (aT (a4 58 1) aE.1) (bw aE.1)) (cM ld (aE.1.map (fw aE.2))) (lE (b8:=58) (f7:=[ae.mk 3 (aE.1.map (a4 58 1)) .live]++(aE.2.map (cd .live 1 U))) (bq:=fQ) (sz:=3) (g:=eTRat) (aT (a4 58 1) aE.1) (fun _=>rfl) (fun x ad=>(lC (b8:=58) (c:=1) (bq:=fQ) (ir:=[ae.mk 3 (aE.1.map (a4 58 1)) .live]) (er .live 1 U aE.2) rfl k8 rfl (lF eb x ad))) (bw aE.1)) (.az (z6 jV pc) (a1.b jV))));
  .ite (fun lV =>
  .aJ fun hv ub =>
  .aJ fun fg uc =>
  (let t15:List bx:=t13.append [.af false,.J (o 1 []),.J (o 2 (aj (.call {aA:=[.ap 27 0 (ae.mk 4 (aF.1.map au) .live),.ap 27 1 (ae.mk 3 (aF.2.map ay) .live)],bR:=[.pure,.pure],ac:=[.bI (.agg [.at_ 0 0 aF.1.length,.at_ 1 0 aF.2.length]),ii],r:= .n .i64 hv.1,cC:=[[ae.mk 4 (hv.2.1.map au) .live],[ae.mk 3 (hv.2.2.map ay) .live]],dE:=ii,d9:=[.pure,.pure],cK:=[27],cH:=false}) (o 1 []))),.J (o 2 (aj (.call {aA:=[.row 31],bR:=[.eg (ae.mk 3 (aE.1.map (a4 0 1)) .live::(aE.2.map (cd .live 1 U)))],ac:=[ii,ii],r:= .n .i64 fg.1,cC:=[(ae.mk 3 (fg.2.1.map (a4 0 1)) .live::(fg.2.2.map (cd .live 1 U)))],dE:=ii,d9:=[.eg (ae.mk 3 (fg.2.1.map (a4 31 1)) .live::(fg.2.2.map (cd .live 1 U)))],cK:=[31],cH:=false}) (o 1 [])))];
  have nD:=nC.aC (.br (bE lV) (by decide:0≠1) (rfl:gL [.ap 27 0 (ae.mk 4 (aF.1.map au) .live),.ap 27 1 (ae.mk 3 (aF.2.map ay) .live)] 0 0=some (27,0)) (rfl:aF.1.length=aF.1.length) (rfl:gL [.ap 27 0 (ae.mk 4 (aF.1.map au) .live),.ap 27 1 (ae.mk 3 (aF.2.map ay) .live)] 1 0=some (27,1)) (rfl:aF.2.length=aF.2.length) (rfl:b5 (some [ae.mk 4 (aF.1.map au) .live,ae.mk 3 (aF.2.map ay) .live]) 0=some (ae.mk 4 (aF.1.map au) .live)) (eR 4 eh aF.1) (.br (rfl:b5 (some [ae.mk 4 (aF.1.map au) .live,ae.mk 3 (aF.2.map ay) .live]) 1=some (ae.mk 3 (aF.2.map ay) .live)) (eR 3 dl aF.2) (eR 4 eh hv.2.1) (eR 3 dl hv.2.2) (uR hv ub) (dh (dk (aY:=(ig 0 [.row 31])) 3 .live (a4 0 1) (aT (a4 31 1) aE.1) (fun x=>(hB (rfl:(ig 0 [.row 31]) 31=some 0)) x)) (hD (aY:=(ig 0 [.row 31])) (er .live 1 U aE.2) (fun x=>(dj gW) x))) ((fi rfl (kB (er .live 1 U aE.2))):fI (ae.mk 3 (aE.1.map (a4 31 1)) .live::(aE.2.map (cd .live 1 U)))) (dh (dk (aY:=(c3 [.row 31])) 3 .live (a4 31 1) (aT (a4 0 1) fg.2.1) (fun x=>(hB (rfl:(c3 [.row 31]) 0=some 31)) x)) (hD (aY:=(c3 [.row 31])) (er .live 1 U fg.2.2) (fun x=>(dj gW) x))) (.az ((fi rfl (kB (er .live 1 U fg.2.2))):fI (ae.mk 3 (fg.2.1.map (a4 0 1)) .live::(fg.2.2.map (cd .live 1 U)))) (zi fg uc))));
  .ite (fun fW =>
  .ret (a8 (t15.append [.J (o 3 (cc 4 (aj (.af true) (o 1 (cc 3 (o 1 [])))))),.af true,.J (o 1 [])]) (nD.aC (.br fW fW fW fW fW bF bF bF (.e1 bF)))))
  (fun fW =>
  .aJ fun eF ud =>
  .aJ fun mQ uf =>
  (let t17:List bx:=t15.append [.J (o 5 (aj (bM 2 (.b dO) true) (o 1 (aj (.af false) (o 4 (aj (.af false) [])))))),.af false,.J (o 1 []),.J (o 2 (aj (.call {aA:=[],bR:=[],ac:=[.bI (.agg [.id,.id]),ii],r:= .n .i64 eF,cC:=[],dE:=ii,d9:=[],cK:=[],cH:=false}) (o 1 []))),.J (o 1 []),.J (o 2 (aj (bM 2 (.n .i64 mQ) true) (o 1 []))),.J (o 2 [])];
  have lW:=nD.aC (.br fW fW fW (lb dO iR) (a1.b dO) fW fW (bE dY) (.eQ (bE dY) (bE dY) (bE dY) (bE e4) (HP eF ud) (pP mQ uf) (a1.n .i64 mQ)));
  .ite (fun nE =>
  .ret (a8 (t17.append [.af true,.J (o 1 [])]) (lW.aC (.e1 nE))))
  (fun nE =>
  .ite (fun k3 =>
  .ret (a8 (t17.append [.af false,.J (o 3 []),.af true,.J (o 1 [])]) (lW.aC (.az nE k3))))
  (fun k3 =>
  .ret (a8 (t17.append [.af false,.J (o 3 []),.af false,.J (o 1 (aj (.call {aA:=[],bR:=[],ac:=[ii],r:= .agg [.aV 0 0 0 aF.1.length,.aV 0 1 0 aF.2.length],cC:=[[ae.mk 4 (aF.1.map au) .live,ae.mk 3 (aF.2.map ay) .live]],dE:= .bI (.agg [.id,.id]),d9:=[.eg [ae.mk 4 (aF.1.map au) .live,ae.mk 3 (aF.2.map ay) .live]],cK:=[],cH:=true}) (o 1 (aj (.call {aA:=[],bR:=[],ac:=[ii],r:= .aV 0 0 0 aE.1.length,cC:=[(ae.mk 3 (aE.1.map (a4 0 1)) .live::(aE.2.map (cd .live 1 U)))],dE:=ii,d9:=[.eg (ae.mk 3 (aE.1.map (a4 101 1)) .live::(aE.2.map (cd .live 1 U)))],cK:=[],cH:=true}) (aj (.call {aA:=[],bR:=[],ac:=[.bI (.agg [.db (aF.1.map au),.db (aF.2.map ay)]),.bI (.cb (.view 101 (ae.mk 3 (aE.1.map (a4 101 1)) .live) ((aE.1.map (fw aE.2)).map eTRat)))],r:= .cy [.agg [.isl 4 (([]:List aB).map au),.isl 3 (([]:List aN).map ay)],.b false],cC:=[],dE:=ii,d9:=[],cK:=[99,101],cH:=true}) (o 6 [])))))),.J (o 2 (aj (bM 2 (.b dO) true) (o 5 (aj (.af false) [])))),.af false,.J (o 1 []),.J (o 2 (aj (bM 2 (.n .i64 mQ) true) (o 1 []))),.J (o 2 []),.af false,.J (o 3 []),.af false,.J (o 1 [])]) (lW.aC (.br nE k3 (dh (dk (aY:=(c3 [.row 99])) 4 .live au (aT au aF.1) (fun x=>(dj h9) x)) (dh (dk (aY:=(c3 [.row 99])) 3 .live ay (aT ay aF.2) (fun x=>(dj h8) x)) (hE (aY:=(c3 [.row 99]))))) ((fi rfl (fi rfl kP)):fI [ae.mk 4 (aF.1.map au) .live,ae.mk 3 (aF.2.map ay) .live]) (m1 aF bV) (a1.agg (dz (a1.aV 0 0 0 aF.1.length) (dz (a1.aV 0 1 0 aF.2.length) f6))) ((gw (eV (eS kz) (eV (eS j1) hR)) gx):fE [[ae.mk 4 (aF.1.map au) .live,ae.mk 3 (aF.2.map ay) .live]]) (dh (dk (aY:=(c3 [.row 101])) 3 .live (a4 101 1) (aT (a4 0 1) aE.1) (fun x=>(hB (rfl:(c3 [.row 101]) 0=some 101)) x)) (hD (aY:=(c3 [.row 101])) (er .live 1 U aE.2) (fun x=>(dj gW) x))) (.br ((fi rfl (kB (er .live 1 U aE.2))):fI (ae.mk 3 (aE.1.map (a4 0 1)) .live::(aE.2.map (cd .live 1 U)))) (m6 aE df) (a1.aV 0 0 0 aE.1.length) ((gw (eV (eS (nj _ _)) (nl km)) gx):fE [(ae.mk 3 (aE.1.map (a4 0 1)) .live::(aE.2.map (cd .live 1 U)))]) (d7 (aT au aF.1) (bw aF.1)) (cY (aT au aF.1) (bw aF.1)) (cM eh aF.1) (d7 (aT ay aF.2) (bw aF.2)) (.br (cY (aT ay aF.2) (bw aF.2)) (cM dl aF.2) (rfl:b5 (some (ae.mk 3 (aE.1.map (a4 101 1)) .live::(aE.2.map (cd .live 1 U)))) 0=some (ae.mk 3 (aE.1.map (a4 101 1)) .live)) (rfl:_=true) (cY (aT (a4 101 1) aE.1) (bw aE.1)) (cM ld (aE.1.map (fw aE.2))) (lE (b8:=101) (f7:=[ae.mk 3 (aE.1.map (a4 101 1)) .live]++(aE.2.map (cd .live 1 U))) (bq:=fQ) (sz:=3) (g:=eTRat) (aT (a4 101 1) aE.1) (fun _=>rfl) (fun x ad=>(lC (b8:=101) (c:=1) (bq:=fQ) (ir:=[ae.mk 3 (aE.1.map (a4 101 1)) .live]) (er .live 1 U aE.2) rfl k8 rfl (lF eb x ad))) (bw aE.1)) (qa (.inr (.inl bJ)) hK) (.br (kj (dz (a1.agg (dz (a1.fx _:a1 (.isl 4 (([]:List aB).map au))) (dz (a1.fx _:a1 (.isl 3 (([]:List aN).map ay))) f6))) (dz (a1.b false) f6))) (lb dO iR) (a1.b dO) (bE dY) (bE dY) (bE dY) (bE dY) (bE e4) (.cI (pP mQ uf) (a1.n .i64 mQ) nE k3)))))))))))))
  (fun lV =>
  .ret (a8 (t13.append [.af true,.J (o 1 [])]) (nC.aC (.e1 (bS lV)))))))
  (fun iQ =>
  .ret (a8 (t11.append [.af true,.J (o 1 [])]) (nB.aC (.e1 (bS iQ)))))))
  (fun e4 =>
  .ret (a8 (t9.append [.af true,.J (o 1 [])]) (nA.aC (.e1 (bS e4)))))))
  (fun dY =>
  .ret (a8 (t7.append [.J (o 2 (aj (bM 2 (.b dO) true) (o 2 (cc 3 (aj (.af true) []))))),.af true,.J (o 1 [])]) (hO.aC (.dM (bS dY) (bS dY) (bS dY) (bS dY) bF))))))
  ·exact (.aJ fun dO iR =>
  (let t7:List bx:=t5.append [.J (o 2 (aj (.call {aA:=[],bR:=[],ac:=[.bI (.agg [.db (aF.1.map au),.db (aF.2.map ay)]),.bI (.cb (.view 31 (ae.mk 3 (aE.1.map (a4 31 1)) .live) ((aE.1.map (fw aE.2)).map eTRat)))],r:= .cy [.agg [.aV 0 0 0 bJ.1.length,.aV 0 1 0 bJ.2.length],.b true],cC:=[[ae.mk 4 (bJ.1.map au) .live,ae.mk 3 (bJ.2.map ay) .live]],dE:= .comp [.agg [.id,.id],.cb .id],d9:=[.eg [ae.mk 4 (bJ.1.map au) .live,ae.mk 3 (bJ.2.map ay) .live]],cK:=[27,31],cH:=true}) (o 6 [])))];
  have hO:=gS.aC (.br (dh (dk (aY:=(c3 [.row 35])) 4 .live au (aT au bJ.1) (fun x=>(dj h9) x)) (dh (dk (aY:=(c3 [.row 35])) 3 .live ay (aT ay bJ.2) (fun x=>(dj h8) x)) (hE (aY:=(c3 [.row 35]))))) ((fi rfl (fi rfl kP)):fI [ae.mk 4 (bJ.1.map au) .live,ae.mk 3 (bJ.2.map ay) .live]) (qa (.inr (.inr bJ)) hK) (kj (dz (a1.agg (dz (a1.aV 0 0 0 bJ.1.length) (dz (a1.aV 0 1 0 bJ.2.length) f6))) (dz (a1.b true) f6))) ((gw (eV (eS kz) (eV (eS j1) hR)) gx):fE [[ae.mk 4 (bJ.1.map au) .live,ae.mk 3 (bJ.2.map ay) .live]]) (d7 (aT au bJ.1) (bw bJ.1)) (cY (aT au bJ.1) (bw bJ.1)) (cM eh bJ.1) (.dM (d7 (aT ay bJ.2) (bw bJ.2)) (cY (aT ay bJ.2) (bw bJ.2)) (cM dl bJ.2) (lb dO iR) (a1.b dO)));
  .ite (fun dY =>
  (let t9:List bx:=t7.append [.J (o 2 (aj (.call {ac:=[.bI (.agg [.db (bJ.1.map au),.db (bJ.2.map ay)]),ii],r:= .b dO,cH:=true,cK:=[35]}) (o 5 (aj (.af false) []))))];
  have nA:=hO.aC (.cI (bE dY) (bE dY) (bE dY) (bE dY));
  .ite (fun e4 =>
  .aJ fun iA hJ =>
  (let t11:List bx:=t9.append [.af false,.J (o 2 (aj (.call {aA:=[],bR:=[],ac:=[ii],r:= .agg [.aV 0 0 0 aF.1.length,.aV 0 1 0 aF.2.length],cC:=[[ae.mk 4 (aF.1.map au) .live,ae.mk 3 (aF.2.map ay) .live]],dE:= .bI (.agg [.id,.id]),d9:=[.eg [ae.mk 4 (aF.1.map au) .live,ae.mk 3 (aF.2.map ay) .live]],cK:=[],cH:=true}) (aj (.call {ac:=[.bI (.agg [.db (aF.1.map au),.db (aF.2.map ay)]),.bI (.agg [.db (aF.1.map au),.db (aF.2.map ay)])],r:= .b iA,cH:=true,cK:=[27,53]}) (o 1 []))))];
  have nB:=nA.aC (.br (bE e4) (dh (dk (aY:=(c3 [.row 53])) 4 .live au (aT au aF.1) (fun x=>(dj h9) x)) (dh (dk (aY:=(c3 [.row 53])) 3 .live ay (aT ay aF.2) (fun x=>(dj h8) x)) (hE (aY:=(c3 [.row 53]))))) ((fi rfl (fi rfl kP)):fI [ae.mk 4 (aF.1.map au) .live,ae.mk 3 (aF.2.map ay) .live]) (m1 aF bV) (a1.agg (dz (a1.aV 0 0 0 aF.1.length) (dz (a1.aV 0 1 0 aF.2.length) f6))) ((gw (eV (eS kz) (eV (eS j1) hR)) gx):fE [[ae.mk 4 (aF.1.map au) .live,ae.mk 3 (aF.2.map ay) .live]]) (d7 (aT au aF.1) (bw aF.1)) (cY (aT au aF.1) (bw aF.1)) (.br (cM eh aF.1) (d7 (aT ay aF.2) (bw aF.2)) (cY (aT ay aF.2) (bw aF.2)) (cM dl aF.2) (d7 (aT au aF.1) (bw aF.1)) (cY (aT au aF.1) (bw aF.1)) (cM eh aF.1) (d7 (aT ay aF.2) (bw aF.2)) (.cI (cY (aT ay aF.2) (bw aF.2)) (cM dl aF.2) (lb iA hJ) (a1.b iA))));
  .ite (fun iQ =>
  .aJ fun jV pc =>
  (let t13:List bx:=t11.append [.af false,.J (o 2 (aj (.call {aA:=[],bR:=[],ac:=[ii],r:= .aV 0 0 0 aE.1.length,cC:=[(ae.mk 3 (aE.1.map (a4 0 1)) .live::(aE.2.map (cd .live 1 U)))],dE:=ii,d9:=[.eg (ae.mk 3 (aE.1.map (a4 58 1)) .live::(aE.2.map (cd .live 1 U)))],cK:=[],cH:=true}) (aj (.call {ac:=[.bI (.cb (.view 31 (ae.mk 3 (aE.1.map (a4 31 1)) .live) ((aE.1.map (fw aE.2)).map eTRat))),.bI (.cb (.view 58 (ae.mk 3 (aE.1.map (a4 58 1)) .live) ((aE.1.map (fw aE.2)).map eTRat)))],r:= .b jV,cH:=true,cK:=[31,58]}) (o 1 []))))];
  have nC:=nB.aC (.br (bE iQ) (dh (dk (aY:=(c3 [.row 58])) 3 .live (a4 58 1) (aT (a4 0 1) aE.1) (fun x=>(hB (rfl:(c3 [.row 58]) 0=some 58)) x)) (hD (aY:=(c3 [.row 58])) (er .live 1 U aE.2) (fun x=>(dj gW) x))) ((fi rfl (kB (er .live 1 U aE.2))):fI (ae.mk 3 (aE.1.map (a4 0 1)) .live::(aE.2.map (cd .live 1 U)))) (m6 aE df) (a1.aV 0 0 0 aE.1.length) ((gw (eV (eS (nj _ _)) (nl km)) gx):fE [(ae.mk 3 (aE.1.map (a4 0 1)) .live::(aE.2.map (cd .live 1 U)))]) (rfl:b5 (some (ae.mk 3 (aE.1.map (a4 31 1)) .live::(aE.2.map (cd .live 1 U)))) 0=some (ae.mk 3 (aE.1.map (a4 31 1)) .live)) (rfl:_=true) (.br (cY (aT (a4 31 1) aE.1) (bw aE.1)) (cM ld (aE.1.map (fw aE.2))) (lE (b8:=31) (f7:=[ae.mk 3 (aE.1.map (a4 31 1)) .live]++(aE.2.map (cd .live 1 U))) (bq:=fQ) (sz:=3) (g:=eTRat) (aT (a4 31 1) aE.1) (fun _=>rfl) (fun x ad=>(lC (b8:=31) (c:=1) (bq:=fQ) (ir:=[ae.mk 3 (aE.1.map (a4 31 1)) .live]) (er .live 1 U aE.2) rfl k8 rfl (lF eb x ad))) (bw aE.1)) (rfl:b5 (some (ae.mk 3 (aE.1.map (a4 58 1)) .live::(aE.2.map (cd .live 1 U)))) 0=some (ae.mk 3 (aE.1.map (a4 58 1)) .live)) (rfl:_=true) (cY (aT (a4 58 1) aE.1) (bw aE.1)) (cM ld (aE.1.map (fw aE.2))) (lE (b8:=58) (f7:=[ae.mk 3 (aE.1.map (a4 58 1)) .live]++(aE.2.map (cd .live 1 U))) (bq:=fQ) (sz:=3) (g:=eTRat) (aT (a4 58 1) aE.1) (fun _=>rfl) (fun x ad=>(lC (b8:=58) (c:=1) (bq:=fQ) (ir:=[ae.mk 3 (aE.1.map (a4 58 1)) .live]) (er .live 1 U aE.2) rfl k8 rfl (lF eb x ad))) (bw aE.1)) (.az (z6 jV pc) (a1.b jV))));
  .ite (fun lV =>
  .aJ fun hv ub =>
  .aJ fun fg uc =>
  (let t15:List bx:=t13.append [.af false,.J (o 1 []),.J (o 2 (aj (.call {aA:=[.ap 27 0 (ae.mk 4 (aF.1.map au) .live),.ap 27 1 (ae.mk 3 (aF.2.map ay) .live)],bR:=[.pure,.pure],ac:=[.bI (.agg [.at_ 0 0 aF.1.length,.at_ 1 0 aF.2.length]),ii],r:= .n .i64 hv.1,cC:=[[ae.mk 4 (hv.2.1.map au) .live],[ae.mk 3 (hv.2.2.map ay) .live]],dE:=ii,d9:=[.pure,.pure],cK:=[27],cH:=false}) (o 1 []))),.J (o 2 (aj (.call {aA:=[.row 31],bR:=[.eg (ae.mk 3 (aE.1.map (a4 0 1)) .live::(aE.2.map (cd .live 1 U)))],ac:=[ii,ii],r:= .n .i64 fg.1,cC:=[(ae.mk 3 (fg.2.1.map (a4 0 1)) .live::(fg.2.2.map (cd .live 1 U)))],dE:=ii,d9:=[.eg (ae.mk 3 (fg.2.1.map (a4 31 1)) .live::(fg.2.2.map (cd .live 1 U)))],cK:=[31],cH:=false}) (o 1 [])))];
  have nD:=nC.aC (.br (bE lV) (by decide:0≠1) (rfl:gL [.ap 27 0 (ae.mk 4 (aF.1.map au) .live),.ap 27 1 (ae.mk 3 (aF.2.map ay) .live)] 0 0=some (27,0)) (rfl:aF.1.length=aF.1.length) (rfl:gL [.ap 27 0 (ae.mk 4 (aF.1.map au) .live),.ap 27 1 (ae.mk 3 (aF.2.map ay) .live)] 1 0=some (27,1)) (rfl:aF.2.length=aF.2.length) (rfl:b5 (some [ae.mk 4 (aF.1.map au) .live,ae.mk 3 (aF.2.map ay) .live]) 0=some (ae.mk 4 (aF.1.map au) .live)) (eR 4 eh aF.1) (.br (rfl:b5 (some [ae.mk 4 (aF.1.map au) .live,ae.mk 3 (aF.2.map ay) .live]) 1=some (ae.mk 3 (aF.2.map ay) .live)) (eR 3 dl aF.2) (eR 4 eh hv.2.1) (eR 3 dl hv.2.2) (uR hv ub) (dh (dk (aY:=(ig 0 [.row 31])) 3 .live (a4 0 1) (aT (a4 31 1) aE.1) (fun x=>(hB (rfl:(ig 0 [.row 31]) 31=some 0)) x)) (hD (aY:=(ig 0 [.row 31])) (er .live 1 U aE.2) (fun x=>(dj gW) x))) ((fi rfl (kB (er .live 1 U aE.2))):fI (ae.mk 3 (aE.1.map (a4 31 1)) .live::(aE.2.map (cd .live 1 U)))) (dh (dk (aY:=(c3 [.row 31])) 3 .live (a4 31 1) (aT (a4 0 1) fg.2.1) (fun x=>(hB (rfl:(c3 [.row 31]) 0=some 31)) x)) (hD (aY:=(c3 [.row 31])) (er .live 1 U fg.2.2) (fun x=>(dj gW) x))) (.az ((fi rfl (kB (er .live 1 U fg.2.2))):fI (ae.mk 3 (fg.2.1.map (a4 0 1)) .live::(fg.2.2.map (cd .live 1 U)))) (zi fg uc))));
  .ite (fun fW =>
  .ret (a8 (t15.append [.J (o 3 (cc 4 (aj (.af true) (o 1 (cc 3 (o 1 [])))))),.af true,.J (o 1 [])]) (nD.aC (.br fW fW fW fW fW bF bF bF (.e1 bF)))))
  (fun fW =>
  .aJ fun eF ud =>
  .bu fun ue =>
  .bu fun uf =>
  .aJ fun mR k3 =>
  (let t17:List bx:=t15.append [.J (o 5 (aj (.call {ac:=[.bI (.agg [.db (bJ.1.map au),.db (bJ.2.map ay)]),ii],r:= .b dO,cH:=true,cK:=[35]}) (o 1 (aj (.af false) (o 4 (aj (.af false) [])))))),.af false,.J (o 1 []),.J (o 2 (aj (.call {aA:=[.ap 35 0 (ae.mk 4 (bJ.1.map au) .live),.ap 35 1 (ae.mk 3 (bJ.2.map ay) .live)],bR:=[.pure,.pure],ac:=[.bI (.agg [.at_ 0 0 bJ.1.length,.at_ 1 0 bJ.2.length]),ii],r:= .n .i64 eF.1,cC:=[[ae.mk 4 (eF.2.1.map au) .live],[ae.mk 3 (eF.2.2.map ay) .live]],dE:=ii,d9:=[.pure,.pure],cK:=[35],cH:=false}) (o 1 []))),.J (o 1 []),.J (o 2 (aj (.call {ac:=[.bI (.agg [.db (((eF.2.1.drop 0).take bJ.1.length).map au),.db (((eF.2.2.drop 0).take bJ.2.length).map ay)]),ii],r:= .n .i64 mR,cH:=true,cK:=[35]}) (o 1 []))),.J (o 2 [])];
  have lW:=nD.aC (.br fW fW fW (d7 (aT au bJ.1) (bw bJ.1)) (cY (aT au bJ.1) (bw bJ.1)) (cM eh bJ.1) (d7 (aT ay bJ.2) (bw bJ.2)) (cY (aT ay bJ.2) (bw bJ.2)) (.br (cM dl bJ.2) (lb dO iR) (a1.b dO) fW fW (bE dY) (bE dY) (bE dY) (.br (bE dY) (bE e4) (by decide:0≠1) (rfl:gL [.ap 35 0 (ae.mk 4 (bJ.1.map au) .live),.ap 35 1 (ae.mk 3 (bJ.2.map ay) .live)] 0 0=some (35,0)) (rfl:bJ.1.length=bJ.1.length) (rfl:gL [.ap 35 0 (ae.mk 4 (bJ.1.map au) .live),.ap 35 1 (ae.mk 3 (bJ.2.map ay) .live)] 1 0=some (35,1)) (rfl:bJ.2.length=bJ.2.length) (rfl:b5 (some [ae.mk 4 (bJ.1.map au) .live,ae.mk 3 (bJ.2.map ay) .live]) 0=some (ae.mk 4 (bJ.1.map au) .live)) (.br (eR 4 eh bJ.1) (rfl:b5 (some [ae.mk 4 (bJ.1.map au) .live,ae.mk 3 (bJ.2.map ay) .live]) 1=some (ae.mk 3 (bJ.2.map ay) .live)) (eR 3 dl bJ.2) (eR 4 eh eF.2.1) (eR 3 dl eF.2.2) (uR eF ud) (mz (aT au eF.2.1) 0 bJ.1.length) (lg (aT au eF.2.1) ue) (.ez (cM eh ((eF.2.1.drop 0).take bJ.1.length)) (mz (aT ay eF.2.2) 0 bJ.2.length) (lg (aT ay eF.2.2) uf) (cM dl ((eF.2.2.drop 0).take bJ.2.length)) (pP mR k3) (a1.n .i64 mR))))));
  .ite (fun ms =>
  .ret (a8 (t17.append [.af true,.J (o 1 [])]) (lW.aC (.e1 ms))))
  (fun ms =>
  .ite (fun w5 =>
  .ret (a8 (t17.append [.af false,.J (o 3 []),.af true,.J (o 1 [])]) (lW.aC (.az ms w5))))
  (fun w5 =>
  .ret (a8 (t17.append [.af false,.J (o 3 []),.af false,.J (o 1 (aj (.call {aA:=[],bR:=[],ac:=[ii],r:= .agg [.aV 0 0 0 aF.1.length,.aV 0 1 0 aF.2.length],cC:=[[ae.mk 4 (aF.1.map au) .live,ae.mk 3 (aF.2.map ay) .live]],dE:= .bI (.agg [.id,.id]),d9:=[.eg [ae.mk 4 (aF.1.map au) .live,ae.mk 3 (aF.2.map ay) .live]],cK:=[],cH:=true}) (o 1 (aj (.call {aA:=[],bR:=[],ac:=[ii],r:= .aV 0 0 0 aE.1.length,cC:=[(ae.mk 3 (aE.1.map (a4 0 1)) .live::(aE.2.map (cd .live 1 U)))],dE:=ii,d9:=[.eg (ae.mk 3 (aE.1.map (a4 101 1)) .live::(aE.2.map (cd .live 1 U)))],cK:=[],cH:=true}) (aj (.call {aA:=[],bR:=[],ac:=[.bI (.agg [.db (aF.1.map au),.db (aF.2.map ay)]),.bI (.cb (.view 101 (ae.mk 3 (aE.1.map (a4 101 1)) .live) ((aE.1.map (fw aE.2)).map eTRat)))],r:= .cy [.agg [.aV 0 0 0 bJ.1.length,.aV 0 1 0 bJ.2.length],.b true],cC:=[[ae.mk 4 (bJ.1.map au) .live,ae.mk 3 (bJ.2.map ay) .live]],dE:= .comp [.agg [.id,.id],.cb .id],d9:=[.eg [ae.mk 4 (bJ.1.map au) .live,ae.mk 3 (bJ.2.map ay) .live]],cK:=[99,101],cH:=true}) (o 6 [])))))),.J (o 2 (aj (.call {ac:=[.bI (.agg [.db (bJ.1.map au),.db (bJ.2.map ay)]),ii],r:= .b dO,cH:=true,cK:=[102]}) (o 5 (aj (.af false) [])))),.af false,.J (o 1 []),.J (o 2 (aj (.call {ac:=[.bI (.agg [.db (((eF.2.1.drop 0).take bJ.1.length).map au),.db (((eF.2.2.drop 0).take bJ.2.length).map ay)]),ii],r:= .n .i64 mR,cH:=true,cK:=[35]}) (o 1 []))),.J (o 2 []),.af false,.J (o 3 []),.af false,.J (o 1 [])]) (lW.aC (.br ms w5 (dh (dk (aY:=(c3 [.row 99])) 4 .live au (aT au aF.1) (fun x=>(dj h9) x)) (dh (dk (aY:=(c3 [.row 99])) 3 .live ay (aT ay aF.2) (fun x=>(dj h8) x)) (hE (aY:=(c3 [.row 99]))))) ((fi rfl (fi rfl kP)):fI [ae.mk 4 (aF.1.map au) .live,ae.mk 3 (aF.2.map ay) .live]) (m1 aF bV) (a1.agg (dz (a1.aV 0 0 0 aF.1.length) (dz (a1.aV 0 1 0 aF.2.length) f6))) ((gw (eV (eS kz) (eV (eS j1) hR)) gx):fE [[ae.mk 4 (aF.1.map au) .live,ae.mk 3 (aF.2.map ay) .live]]) (dh (dk (aY:=(c3 [.row 101])) 3 .live (a4 101 1) (aT (a4 0 1) aE.1) (fun x=>(hB (rfl:(c3 [.row 101]) 0=some 101)) x)) (hD (aY:=(c3 [.row 101])) (er .live 1 U aE.2) (fun x=>(dj gW) x))) (.br ((fi rfl (kB (er .live 1 U aE.2))):fI (ae.mk 3 (aE.1.map (a4 0 1)) .live::(aE.2.map (cd .live 1 U)))) (m6 aE df) (a1.aV 0 0 0 aE.1.length) ((gw (eV (eS (nj _ _)) (nl km)) gx):fE [(ae.mk 3 (aE.1.map (a4 0 1)) .live::(aE.2.map (cd .live 1 U)))]) (d7 (aT au aF.1) (bw aF.1)) (cY (aT au aF.1) (bw aF.1)) (cM eh aF.1) (d7 (aT ay aF.2) (bw aF.2)) (.br (cY (aT ay aF.2) (bw aF.2)) (cM dl aF.2) (rfl:b5 (some (ae.mk 3 (aE.1.map (a4 101 1)) .live::(aE.2.map (cd .live 1 U)))) 0=some (ae.mk 3 (aE.1.map (a4 101 1)) .live)) (rfl:_=true) (cY (aT (a4 101 1) aE.1) (bw aE.1)) (cM ld (aE.1.map (fw aE.2))) (lE (b8:=101) (f7:=[ae.mk 3 (aE.1.map (a4 101 1)) .live]++(aE.2.map (cd .live 1 U))) (bq:=fQ) (sz:=3) (g:=eTRat) (aT (a4 101 1) aE.1) (fun _=>rfl) (fun x ad=>(lC (b8:=101) (c:=1) (bq:=fQ) (ir:=[ae.mk 3 (aE.1.map (a4 101 1)) .live]) (er .live 1 U aE.2) rfl k8 rfl (lF eb x ad))) (bw aE.1)) (dh (dk (aY:=(c3 [.row 102])) 4 .live au (aT au bJ.1) (fun x=>(dj h9) x)) (dh (dk (aY:=(c3 [.row 102])) 3 .live ay (aT ay bJ.2) (fun x=>(dj h8) x)) (hE (aY:=(c3 [.row 102]))))) (.br ((fi rfl (fi rfl kP)):fI [ae.mk 4 (bJ.1.map au) .live,ae.mk 3 (bJ.2.map ay) .live]) (qa (.inr (.inr bJ)) hK) (kj (dz (a1.agg (dz (a1.aV 0 0 0 bJ.1.length) (dz (a1.aV 0 1 0 bJ.2.length) f6))) (dz (a1.b true) f6))) ((gw (eV (eS kz) (eV (eS j1) hR)) gx):fE [[ae.mk 4 (bJ.1.map au) .live,ae.mk 3 (bJ.2.map ay) .live]]) (d7 (aT au bJ.1) (bw bJ.1)) (cY (aT au bJ.1) (bw bJ.1)) (cM eh bJ.1) (d7 (aT ay bJ.2) (bw bJ.2)) (.br (cY (aT ay bJ.2) (bw bJ.2)) (cM dl bJ.2) (lb dO iR) (a1.b dO) (bE dY) (bE dY) (bE dY) (bE dY) (.br (bE e4) (mz (aT au eF.2.1) 0 bJ.1.length) (lg (aT au eF.2.1) ue) (cM eh ((eF.2.1.drop 0).take bJ.1.length)) (mz (aT ay eF.2.2) 0 bJ.2.length) (lg (aT ay eF.2.2) uf) (cM dl ((eF.2.2.drop 0).take bJ.2.length)) (pP mR k3) (.bp (a1.n .i64 mR) ms w5)))))))))))))))
  (fun lV =>
  .ret (a8 (t13.append [.af true,.J (o 1 [])]) (nC.aC (.e1 (bS lV)))))))
  (fun iQ =>
  .ret (a8 (t11.append [.af true,.J (o 1 [])]) (nB.aC (.e1 (bS iQ)))))))
  (fun e4 =>
  .ret (a8 (t9.append [.af true,.J (o 1 [])]) (nA.aC (.e1 (bS e4)))))))
  (fun dY =>
  .ret (a8 (t7.append [.J (o 2 (aj (.call {ac:=[.bI (.agg [.db (bJ.1.map au),.db (bJ.2.map ay)]),ii],r:= .b dO,cH:=true,cK:=[35]}) (o 2 (cc 3 (aj (.af true) []))))),.af true,.J (o 1 [])]) (hO.aC (.dM (bS dY) (bS dY) (bS dY) (bS dY) bF))))))))))))
end Go.Proofs.YtmmbmjbpfklkcabGreat
namespace Go.Proofs.YtmmbmjbpfklkcabGreat
set_option linter.unusedVariables false
set_option linter.unusedSimpArgs false
open Go Go.VL
theorem jM {n:Nat} (h:n≤10000000):ab ((n:Int)+1)=((n+1:Nat):Int):=by rw [b4 (by omega) (by omega)];rfl
theorem lm {n:Nat} (h:n≤10000000):ab ((n:Int)-1)=(n:Int)-1:=b4 (by omega) (by omega)
theorem A7 {n:Nat} (h:n≤10000000):ab (((n+1:Nat):Int)-1)=n:=by rw [b4 (by omega) (by omega)];omega
theorem gV (l:List Int):len_ U l=l.length:=dw _ l
theorem Mc {l:List Int} {k:Nat} {x:Int} (ad:l[k]? = some x) (bb:l.length≤5000000):nZ l ((k+1:Nat):Int)=some (if x=0 then .inl (k:Int) else .inr ((k+1:Nat):Int)):=by
 have bl:=dt ad
 unfold nZ
 rw [A7 (by omega),if_pos (by simp),if_pos (by omega),Int.toNat_natCast,ad]
 by_cases h:x=0<;>simp [h]
theorem sH {l:List Int} (aK:b3 l) (bb:l.length≤5000000):mw l=some (L (V l)):=by
 have : ∃r,iter (fun w:Int=>nZ l w) (l.length:Int)=some r∧ ∃k:Nat,r=k∧k≤l.length∧l.take k=L (V l):=by
  refine fN (cQ:=fun w:Int=> ∃k:Nat,w=k∧k≤l.length∧V (l.take k)=V l) (m:=fun w:Int=>w.toNat) _ ?_ _ ⟨l.length,rfl,by omega,by simp⟩
  rintro _ ⟨k,rfl,bl,aS⟩
  cases k with
  | zero =>
   refine .inr ⟨0,by simp [nZ],0,rfl,by omega,?_⟩
   rw [← aS]
   simp [V,oL]
  | succ k =>
   have ad:=List.getElem?_eq_getElem (show k<l.length by omega)
   rw [Mc ad bb]
   by_cases h:l[k]=0
   ·refine .inl ⟨_,by simp [h],⟨k,rfl,by omega,?_⟩,by omega⟩
    have:=mB ad
    rw [h] at this
    simp at this
    omega
   ·refine .inr ⟨_,by simp [h],k+1,rfl,bl,?_⟩
    rcases da.AN aK k (fun x h1=>by rw [ad] at h1;simp at h1;omega) with h1|h1
    ·exact oW h1 aS
    ·omega
 obtain ⟨r,ao,k,rfl,h1,R⟩:=this
 unfold mw zM
 rw [gV,ao]
 simp [h1,R]
theorem AP {l:List Int} (aK:b3 l) (bb:l.length≤5000000):oz l=some (L (V l)):=by
 have : ∃r,iter (fun w:List Int=>p6 w) l=some r∧r=L (V l):=by
  refine fN (cQ:=fun w=> ∃k:Nat,w=l.take k∧k≤l.length∧V (l.take k)=V l) (m:=fun w:List Int=>w.length) _ ?_ _ ⟨l.length,by simp,by omega,by simp⟩
  rintro _ ⟨k,rfl,bl,aS⟩
  have hlen:(l.take k).length=k:=by simp;omega
  cases k with
  | zero =>
   refine .inr ⟨[],by simp [p6,gV],?_⟩
   rw [← aS]
   simp [V,oL]
  | succ k =>
   have ad:=List.getElem?_eq_getElem (show k<l.length by omega)
   have cj:(l.take (k+1))[k]? = some l[k]:=by rw [List.getElem?_take];simp [ad]
   unfold p6
   simp only [gV,hlen]
   rw [A7 (by omega),if_pos (by simp),if_pos (by omega),Int.toNat_natCast,cj]
   by_cases h:l[k]=0
   ·refine .inl ⟨l.take k,by simp [h,List.take_take,Nat.min_eq_left],⟨k,rfl,by omega,?_⟩,by simp;omega⟩
    have:=mB ad
    rw [h] at this
    simp at this
    omega
   ·refine .inr ⟨l.take (k+1),by simp [h],?_⟩
    rcases da.AN aK k (fun x h1=>by rw [ad] at h1;simp at h1;omega) with h1|h1
    ·exact oW h1 aS
    ·omega
 obtain ⟨r,ao,rfl⟩:=this
 unfold oz Ac
 rw [ao]
 rfl
theorem Md {l:List Int} (aK:b3 l) (bb:l.length≤5000000) : ∃k,sv l=some k∧k≤l.length∧l.take k=L (V l):=by
 have : ∃r,iter (fun w:Nat=>pV l w) l.length=some r∧r≤l.length∧l.take r=L (V l):=by
  refine fN (cQ:=fun k=>k≤l.length∧V (l.take k)=V l) (m:=fun w:Nat=>w) _ ?_ _ ⟨by omega,by simp⟩
  rintro k ⟨bl,aS⟩
  cases k with
  | zero =>
   refine .inr ⟨0,by simp [pV],by omega,?_⟩
   rw [← aS]
   simp [V,oL]
  | succ k =>
   have ad:=List.getElem?_eq_getElem (show k<l.length by omega)
   unfold pV
   rw [A7 (by omega),if_pos (by simp),if_pos (by omega),Int.toNat_natCast,Nat.zero_add,ad]
   by_cases h:l[k]=0
   ·refine .inl ⟨k,by simp [h],⟨by omega,?_⟩,by omega⟩
    have:=mB ad
    rw [h] at this
    simp at this
    omega
   ·refine .inr ⟨k+1,by simp [h],bl,?_⟩
    rcases da.AN aK k (fun x h1=>by rw [ad] at h1;simp at h1;omega) with h1|h1
    ·exact oW h1 aS
    ·omega
 obtain ⟨r,ao,h1,R⟩:=this
 unfold sv z1
 rw [ao]
 exact ⟨r,rfl,h1,R⟩
theorem qN {a b:List Int} (bL:da a) (aW:da b) (bb:a.length≤5000000):oo a b=some (kX (V a) (V b)):=by
 unfold oo kX
 simp only [gV]
 by_cases h1:a.length=b.length
 ·rw [if_neg (by simp [h1])]
  have : ∃r,iter (fun w:Int=>pS a b w) ((a.length:Int)-1)=some r∧(r.elim (fun _=>V a=V b) (fun c=>(c = -1∧V a<V b)∨(c=1∧V b<V a))):=by
   refine fN (cQ:=fun w:Int=> ∃k:Nat,w=(k:Int)-1∧k≤a.length∧V (a.drop k)=V (b.drop k)) (m:=fun w:Int=>(w+1).toNat) _ ?_ _ ⟨a.length,rfl,by omega,by rw [List.drop_length,h1,List.drop_length]⟩
   rintro _ ⟨k,rfl,bl,aS⟩
   cases k with
   | zero=>exact .inr ⟨.inl (),by simp [pS],by simpa using aS⟩
   | succ k =>
    have ad:=List.getElem?_eq_getElem (show k<a.length by omega)
    have aP:=List.getElem?_eq_getElem (show k<b.length by omega)
    have e:((k+1:Nat):Int)-1=k:=by omega
    unfold pS
    rw [e,lm (by omega),if_pos (by simp),if_pos (by omega),Int.toNat_natCast,ad]
    simp only [Option.bind_eq_bind,Option.bind_some]
    rw [if_pos (by omega),aP]
    by_cases R:a[k]<b[k]
    ·exact .inr ⟨.inr (-1),by simp [R],.inl ⟨rfl,Fq bL.1 aW.1 ad aP aS R⟩⟩
    ·by_cases ai:b[k]<a[k]
     ·exact .inr ⟨.inr 1,by simp [R,ai],.inr ⟨rfl,Fq aW.1 bL.1 aP ad aS.symm ai⟩⟩
     ·refine .inl ⟨(k:Int)-1,by simp [R,ai],⟨k,rfl,by omega,?_⟩,by omega⟩
      rw [ki ad,ki aP,aS,show a[k]=b[k] by omega]
  obtain ⟨r,ao,R⟩:=this
  unfold zU
  rw [lm (by omega),ao]
  cases r with
  | inl u =>
   simp at R
   simp [R]
  | inr c =>
   rcases R with ⟨rfl,R⟩|⟨rfl,R⟩
   ·simp [R]
   ·simp [R];omega
 ·rw [if_pos (by simp;omega)]
  by_cases R:a.length<b.length
  ·have:=vQ bL aW R
   simp [R,this]
  ·have:=vQ aW bL (by omega)
   rw [if_neg (by simp;omega),if_neg (by omega),if_pos this]
theorem vw {a b:List Int} (bL:da a) (aW:da b) (bb:a.length≤5000000):nd a b=some (kX (V a) (V b)):=qN bL aW bb
theorem tb {x y:Int} (ad:0≤x∧x<1000000000) (aP:0≤y∧y<1000000000):0≤x*y∧x*y≤999999998000000001:=by
 have h1:=Int.mul_nonneg ad.1 aP.1
 have R:x*y≤999999999*999999999:=Int.mul_le_mul (by omega) (by omega) aP.1 (by omega)
 omega
theorem pr {a b:Int} (h:0≤a):a.tmod b=a % b:=Int.tmod_eq_emod_of_nonneg h
theorem k9 {a b:Int} (h:0≤a):a.tdiv b=a / b:=Int.tdiv_eq_ediv_of_nonneg h
theorem AQ (k:Nat) (x:Int) (q:List Int):(List.replicate (k+1) 0++q).set k x=List.replicate k 0++x::q:=by
 induction k with
 | zero=>rfl
 | succ k ih =>
  show (0::(List.replicate (k+1) 0++q)).set (k+1) x=_
  rw [List.set_cons_succ,ih];rfl
theorem LB {a:List Int} {d rest:Int} {row:List Int} {k:Nat} {x:Int} (ad:a[k]? = some x) (fL:0≤x∧x<1000000000) (a9:0<d∧d<1000000000) (ao:0≤rest∧rest<d) (cF:row.length=a.length) (bb:a.length≤1000000) :
 pK a d rest (k:Int) row=some (.inl ((rest*1000000000+x) % d,(k:Int)-1,row.set k ((rest*1000000000+x) / d))):=by
 have bl:=dt ad
 unfold pK
 rw [if_pos (by simp),if_pos (by omega),Int.toNat_natCast,ad]
 simp only [Option.bind_eq_bind,Option.bind_some]
 rw [if_pos (by omega),if_pos (by omega),if_pos (by omega),lm (by omega)]
 have h1:ab (ab (rest*1000000000)+x)=rest*1000000000+x:=by rw [b4 (x:=rest*1000000000) (by omega) (by omega)];exact b4 (by omega) (by omega)
 have R:0≤rest*1000000000+x:=by omega
 have ai:(rest*1000000000+x) / d≤rest*1000000000+x:=Int.ediv_le_self _ R
 have ax:0≤(rest*1000000000+x) / d:=Int.ediv_nonneg R (by omega)
 rw [h1,pr R,k9 R,b4 (by omega) (by omega),Nat.zero_add]
theorem Ep {a:List Int} {d:Int} (bL:b3 a) (a9:0<d∧d<1000000000) (bb:a.length≤1000000) :
 ∃r,u2 a d 0 ((a.length:Int)-1) (List.replicate a.length 0)=some r∧r.1=V a % d∧b3 r.2∧r.2.length=a.length∧V r.2=V a / d:=by
 refine fN (cQ:=fun w:Int×Int×List Int=> ∃(k:Nat) (q:List Int),w.2.1=(k:Int)-1∧k≤a.length∧w.2.2=List.replicate k 0++q∧q.length+k=a.length∧b3 q∧0≤w.1∧w.1<d∧V (a.drop k)=V q*d+w.1) (m:=fun w:Int×Int×List Int=>(w.2.1+1).toNat) _ ?_ _ ⟨a.length,[],rfl,by omega,by simp,by simp,b3.nil,by omega,by omega,by simp [V]⟩
 rintro ⟨rest,i,row⟩ ⟨k,q,h1,bl,R,aU,mS,hY,fF,aS⟩
 simp only at h1 R hY fF aS ⊢
 subst h1 R
 cases k with
 | zero =>
  refine .inr ⟨(rest,q),by simp [pK],?_,mS,by simpa using aU,?_⟩
  ·simp at aS
   rw [aS,Int.add_comm,Int.add_mul_emod_self_right]
   exact (Int.emod_eq_of_lt hY fF).symm
  ·simp at aS
   rw [aS,Int.add_comm,Int.add_mul_ediv_right _ _ (by omega),Int.ediv_eq_zero_of_lt hY fF]
   simp
 | succ k =>
  have ad:=List.getElem?_eq_getElem (show k<a.length by omega)
  have fL:=bL.get ad
  rw [show ((k+1:Nat):Int)-1=k by omega,LB ad fL a9 ⟨hY,fF⟩ (by simp;omega) bb]
  refine .inl ⟨_,rfl,⟨k,(rest*1000000000+a[k]) / d::q,rfl,by omega,AQ _ _ _,by simp;omega,b3.cons ⟨Int.ediv_nonneg (by omega) (by omega),?_⟩ mS,Int.emod_nonneg _ (by omega),Int.emod_lt_of_pos _ a9.1,?_⟩,by simp⟩
  ·refine Int.ediv_lt_of_lt_mul a9.1 ?_
   omega
  ·rw [ki ad,aS,ib]
   have:=Int.mul_ediv_add_emod (rest*1000000000+a[k]) d
   generalize (rest*1000000000+a[k]) / d=u at *
   generalize (rest*1000000000+a[k]) % d=t at *
   grind
theorem MQ {a:List Int} {d:Int} (bL:b3 a) (a9:0<d∧d<1000000000) (bb:a.length≤1000000):r5 a d=some (L (V a / d),V a % d):=by
 obtain ⟨r,ao,h1,R,ai,ax⟩:=Ep bL a9 bb
 unfold r5
 simp only [gV]
 rw [if_pos (by omega),lm (by omega),Int.toNat_natCast,ao]
 simp only [Option.bind_eq_bind,Option.bind_some]
 rw [sH R (by omega),h1,ax]
 rfl
theorem Kb:zn=u2:=rfl
theorem DT {a:List Int} {d:Int} (bL:b3 a) (a9:0<d∧d<1000000000) (bb:a.length≤1000000):qc a d=some (L (V a / d),V a % d):=by
 obtain ⟨r,ao,h1,R,ai,ax⟩:=Ep bL a9 bb
 unfold qc
 simp only [gV]
 rw [if_pos (by omega),lm (by omega),Int.toNat_natCast,Kb,ao]
 simp only [Option.bind_eq_bind,Option.bind_some]
 rw [AP R (by omega),h1,ax]
 rfl
theorem Me {b:List Int} {i j:Nat} {x y z carry:Int} {row:List Int} {t26:List Int} {t27:Int} (aP:b[j]? = some y) (cq:row[i+j]? = some z) (ad:0≤x∧x<1000000000) (ke:0≤y∧y<1000000000) (tF:0≤z∧z<1000000000) (a3:0≤carry∧carry<1000000000) (bb:row.length≤2000000) :
 pT b i x t26 t27 b.length carry j row=some (.inl ((z+x*y+carry) / 1000000000,((j+1:Nat):Int),row.set (i+j) ((z+x*y+carry) % 1000000000))):=by
 have aL:=dt aP
 have rc:=dt cq
 obtain ⟨fa,eG⟩:=tb ad ke
 unfold pT
 have e:ab ((i:Int)+(j:Int))=((i+j:Nat):Int):=by rw [b4 (by omega) (by omega)];rfl
 rw [if_pos (by simp;omega),if_pos (by omega),Int.toNat_natCast,aP]
 simp only [Option.bind_eq_bind,Option.bind_some,e,Int.toNat_natCast,Nat.zero_add]
 rw [if_pos (by omega),cq]
 simp only [Option.bind_some]
 rw [if_pos (by omega),jM (by omega),b4 (x:=x*y) (by omega) (by omega),b4 (x:=z+x*y) (by omega) (by omega),b4 (x:=z+x*y+carry) (by omega) (by omega),pr (by omega),k9 (by omega),b4 (by omega) (by omega)]
theorem Mf {b:List Int} {i:Nat} {x:Int} {row:List Int} {t26:List Int} {t27:Int} (aW:b3 b) (cF:b3 row) (ad:0≤x∧x<1000000000) (aK:i+b.length<row.length) (bb:row.length≤2000000) :
 ∃r,zW b i x t26 t27 b.length 0 0 row=some r∧0≤r.1∧r.1<1000000000∧b3 r.2∧r.2.length=row.length∧V r.2+r.1*B (i+b.length)=V row+x*B i*V b∧ ∀j,i+b.length≤j→r.2[j]? = row[j]? := by
 refine fN (cQ:=fun w:Int×Int×List Int=> ∃(j:Nat),w.2.1=(j:Int)∧j≤b.length∧0≤w.1∧w.1<1000000000∧b3 w.2.2∧w.2.2.length=row.length∧V w.2.2+w.1*B (i+j)=V row+x*B i*V (b.take j)∧ ∀j,i+b.length≤j→w.2.2[j]? = row[j]?) (m:=fun w:Int×Int×List Int=>b.length-w.2.1.toNat) _ ?_ _ ⟨0,rfl,by omega,by simp,by simp,cF,rfl,by simp [V],fun _ _=>rfl⟩
 rintro ⟨carry,PT,c7⟩ ⟨j,h1,aL,ku,jb,gY,hlen,aS,iu⟩
 simp only at h1 ku jb gY hlen aS iu ⊢
 subst h1
 by_cases O8:j=b.length
 ·subst O8
  refine .inr ⟨(carry,c7),by simp [pT],ku,jb,gY,hlen,by simpa using aS,iu⟩
 ·have aP:=List.getElem?_eq_getElem (show j<b.length by omega)
  have cq:=List.getElem?_eq_getElem (show i+j<c7.length by omega)
  have ke:=aW.get aP
  have tF:=gY.get cq
  obtain ⟨fa,eG⟩:=tb ad ke
  rw [Me aP cq ad ke tF ⟨ku,jb⟩ (by omega)]
  refine .inl ⟨_,rfl,⟨j+1,rfl,by omega,by simp only;omega,by simp only;omega,gY.set (by omega),by simpa using hlen,?_,fun gu wO=> ?_⟩,by simp;omega⟩
  ·simp only
   rw [qT cq,mB aP,← Nat.add_assoc,j3]
   rw [wm] at aS ⊢
   have:=Int.mul_ediv_add_emod (c7[i+j]+x*b[j]+carry) 1000000000
   generalize (c7[i+j]+x*b[j]+carry) / 1000000000=u at *
   generalize (c7[i+j]+x*b[j]+carry) % 1000000000=t at *
   grind
  ·rw [← iu gu wO]
   exact List.getElem?_set_ne (by omega)
theorem EK {a b:List Int} (bL:b3 a) (aW:b3 b) (bb:a.length≤1000000) (hm:b.length≤1000000) :
 ∃r,va b a a.length 0 (List.replicate (a.length+b.length) 0)=some r∧b3 r∧r.length=a.length+b.length∧V r=V a*V b:=by
 refine fN (cQ:=fun w:Int×List Int=> ∃(i:Nat),w.1=(i:Int)∧i≤a.length∧b3 w.2∧w.2.length=a.length+b.length∧V w.2=V (a.take i)*V b∧ ∀j,i+b.length≤j→j<a.length+b.length→w.2[j]? = some 0) (m:=fun w:Int×List Int=>a.length-w.1.toNat) _ ?_ _ ⟨0,rfl,by omega,b3.O5 _,by simp,by simp [V,NS],fun j _ h=>by simp [List.getElem?_replicate,h]⟩
 rintro ⟨ii,row⟩ ⟨i,h1,a6,gY,hlen,aS,h0⟩
 simp only at h1 gY hlen aS h0 ⊢
 subst h1
 by_cases ug:i=a.length
 ·subst ug
  refine .inr ⟨row,by simp [rM],gY,hlen,by simpa using aS⟩
 ·have ad:=List.getElem?_eq_getElem (show i<a.length by omega)
  have fL:=bL.get ad
  obtain ⟨r,ao,ku,jb,Og,QN,tD,iu⟩:=Mf (i:=i) (t26:=a) (t27:=a.length) aW gY fL (by omega) (by omega)
  have e:ab ((i:Int)+(b.length:Int))=((i+b.length:Nat):Int):=by rw [b4 (by omega) (by omega)];rfl
  have cq:r.2[i+b.length]? = some 0:=by rw [iu _ (Nat.le_refl _)];exact h0 _ (Nat.le_refl _) (by omega)
  refine .inl ⟨(((i+1:Nat):Int),r.2.set (i+b.length) r.1),?_,⟨i+1,rfl,by omega,Og.set ⟨ku,jb⟩,by simp;omega,?_,fun j Q8 O9=> ?_⟩,by simp;omega⟩
  ·unfold rM
   rw [if_pos (by simp;omega),if_pos (by omega),Int.toNat_natCast,ad]
   simp only [Option.bind_eq_bind,Option.bind_some,gV]
   rw [ao]
   simp only [Option.bind_some,e,Int.toNat_natCast,Nat.zero_add]
   rw [if_pos (by omega),if_pos (by omega),jM (n:=i) (by omega)]
  ·simp only
   rw [qT cq,mB ad]
   grind
  ·simp only
   rw [List.getElem?_set_ne (by omega),iu _ (by omega)]
   exact h0 _ (by omega) O9
theorem mul_eq {a b:List Int} (bL:b3 a) (aW:b3 b) (bb:a.length≤1000000) (hm:b.length≤1000000):ql a b=some (L (V a*V b)):=by
 unfold ql
 simp only [gV]
 by_cases h1:a=[]
 ·subst h1
  simp [V,oL]
 ·by_cases R:b=[]
  ·subst R
   simp [h1,V,oL]
  ·obtain ⟨r,ao,ai,ax,aM⟩:=EK bL aW bb hm
   have e:ab ((a.length:Int)+(b.length:Int))=((a.length+b.length:Nat):Int):=by rw [b4 (by omega) (by omega)];rfl
   rw [if_neg (by simp [h1]),if_neg (by simp [R]),e,if_pos (by omega),Int.toNat_natCast,ao]
   simp only [Option.bind_eq_bind,Option.bind_some]
   rw [sH ai (by omega),aM]
   rfl
theorem KG:zO=va:=rfl
theorem Er {a b:List Int} (bL:b3 a) (aW:b3 b) (h1:a≠[]) (R:b≠[]) (bb:a.length≤1000000) (hm:b.length≤1000000) :
 ∃k r,qj a b=some (k,r)∧k≤r.length∧r.length=a.length+b.length∧r.take k=L (V a*V b)∧b3 r:=by
 obtain ⟨r,ao,ai,ax,aM⟩:=EK bL aW bb hm
 obtain ⟨k,bl,ba,a5⟩:=Md ai (by omega)
 refine ⟨k,r,?_,ba,ax,by rw [a5,aM],ai⟩
 unfold qj
 simp only [gV]
 have e:ab ((a.length:Int)+(b.length:Int))=((a.length+b.length:Nat):Int):=by rw [b4 (by omega) (by omega)];rfl
 rw [if_neg (by simp [h1]),if_neg (by simp [R]),e,if_pos (by omega),Int.toNat_natCast,KG,ao]
 simp only [Option.bind_eq_bind,Option.bind_some]
 rw [bl]
 rfl
theorem F1 {x:Int} (h1:0≤x) (R:x<18446744073709551616):IntKind.wrap .u64 x=x:=by
 simp only [IntKind.wrap,IntKind.signed,IntKind.bits]
 have:((2:Int) ^ 64)=18446744073709551616:=by decide
 simp
 omega
theorem NU {x:Int} (h1 : -9223372036854775808≤x) (R:x<9223372036854775808):IntKind.wrap .i64 x=x:=b4 h1 R
theorem da.snoc {l:List Int} {x:Int} (h:b3 l) (ad:0<x∧x<1000000000):da (l++[x]):=⟨h.append (b3.cons (by omega) b3.nil),fun y aP=>by
 rw [List.getLast?_append] at aP
 simp at aP
 omega⟩
theorem EL {N:Int} (gO:N<18446744073709551616) {n:Int} {row:List Int} (h:0≤n∧b3 row∧V row+B row.length*n=N∧(n=0→da row)∧((row.length=0∧n<18446744073709551616)∨(row.length=1∧n<20000000000)∨(row.length=2∧n<20)∨(row.length=3∧n=0))) (bb:0<n) :
 (fun (n:Int) (row:List Int)=>0≤n∧b3 row∧V row+B row.length*n=N∧(n=0→da row)∧((row.length=0∧n<18446744073709551616)∨(row.length=1∧n<20000000000)∨(row.length=2∧n<20)∨(row.length=3∧n=0))) (n / 1000000000) (row++[n % 1000000000]):=by
 obtain ⟨h0,h1,R,ai,ax⟩:=h
 refine ⟨by omega,h1.append (b3.cons (by omega) b3.nil),?_,fun aM=>da.snoc h1 (by omega),?_⟩
 ·rw [qC,List.length_append,List.length_singleton,j3,ib,ti]
  have:=Int.mul_ediv_add_emod n 1000000000
  generalize n / 1000000000=u at *
  generalize n % 1000000000=t at *
  grind
 ·rw [List.length_append,List.length_singleton]
  omega
theorem vJ {n:Int} (h:0≤n) (bb:n<9223372036854775808):ni n=some (L n):=by
 have : ∃r,iter (fun w:Int×List Int=>p3 w.1 w.2) (n,[])=some r∧r=L n:=by
  refine fN (cQ:=fun w:Int×List Int=>w.1≤n∧0≤w.1∧b3 w.2∧V w.2+B w.2.length*w.1=n∧(w.1=0→da w.2)∧((w.2.length=0∧w.1<18446744073709551616)∨(w.2.length=1∧w.1<20000000000)∨(w.2.length=2∧w.1<20)∨(w.2.length=3∧w.1=0))) (m:=fun w:Int×List Int=>w.1.toNat) _ ?_ _ ⟨Int.le_refl _,h,b3.nil,by simp [V,B],fun _=>da.nil,.inl ⟨rfl,by simp only;omega⟩⟩
  rintro ⟨m,row⟩ ⟨hm,eB⟩
  simp only at hm eB
  obtain ⟨h0,h1,R,ai,ax⟩:=id eB
  by_cases ln:0<m
  ·have:=EL (by omega) eB ln
   refine .inl ⟨(m / 1000000000,row++[m % 1000000000]),?_,⟨by simp only;omega,this⟩,by simp only;omega⟩
   unfold p3
   rw [if_pos (by simp;omega),pr (by omega),k9 (by omega),if_pos (by simp;omega),b4 (by omega) (by omega)]
  ·refine .inr ⟨row,by simp [p3,ln],?_⟩
   have jQ:m=0:=by omega
   refine oW (ai jQ) ?_
   rw [jQ] at R
   simpa using R
 obtain ⟨r,ao,rfl⟩:=this
 unfold ni z9
 rw [ao]
 rfl
theorem Es {n:Int} (h:0≤n) (bb:n<18446744073709551616):qi n=some (L n):=by
 have : ∃r,iter (fun w:Int×List Int=>pQ w.1 w.2) (n,[])=some r∧r=L n:=by
  refine fN (cQ:=fun w:Int×List Int=>w.1≤n∧0≤w.1∧b3 w.2∧V w.2+B w.2.length*w.1=n∧(w.1=0→da w.2)∧((w.2.length=0∧w.1<18446744073709551616)∨(w.2.length=1∧w.1<20000000000)∨(w.2.length=2∧w.1<20)∨(w.2.length=3∧w.1=0))) (m:=fun w:Int×List Int=>w.1.toNat) _ ?_ _ ⟨Int.le_refl _,h,b3.nil,by simp [V,B],fun _=>da.nil,.inl ⟨rfl,by simp only;omega⟩⟩
  rintro ⟨m,row⟩ ⟨hm,eB⟩
  simp only at hm eB
  obtain ⟨h0,h1,R,ai,ax⟩:=id eB
  by_cases ln:0<m
  ·have:=EL (by omega) eB ln
   refine .inl ⟨(m / 1000000000,row++[m % 1000000000]),?_,⟨by simp only;omega,this⟩,by simp only;omega⟩
   unfold pQ
   rw [if_pos (by simp;omega),pr (by omega),k9 (by omega),NU (x:=m % 1000000000) (by omega) (by omega),if_pos (by simp;omega),F1 (by omega) (by omega)]
  ·refine .inr ⟨row,by simp [pQ,ln],?_⟩
   have jQ:m=0:=by omega
   refine oW (ai jQ) ?_
   rw [jQ] at R
   simpa using R
 obtain ⟨r,ao,rfl⟩:=this
 unfold qi zN
 rw [ao]
 rfl
def kq (x:Int):Bool:=decide (0≤x) && decide (x<1000000000)
theorem AR (l:List Int):l.all kq=true↔b3 l:=by
 simp [kq,b3]
theorem Ap {a:List Int} (h:a≠[]) : ∃x,a[a.length-1]? = some x∧(da a↔b3 a∧x≠0):=by
 have ak:=List.length_pos_iff.mpr h
 refine ⟨a[a.length-1],List.getElem?_eq_getElem (by omega),?_⟩
 have e:a.getLast? = some a[a.length-1]:=by rw [List.getLast?_eq_getElem?];exact List.getElem?_eq_getElem (by omega)
 constructor
 ·exact fun h=>⟨h.1,h.2 _ e⟩
 ·refine fun h=>⟨h.1,fun x ad=> ?_⟩
  rw [e] at ad
  rw [← Option.some.inj ad]
  exact h.2
theorem F2 {a:List Int} (h:a≠[]) (hm:(a.length:Int)<9223372036854775807):ab ((a.length:Int)-1)=((a.length-1:Nat):Int):=by
 have ak:=List.length_pos_iff.mpr h
 rw [b4 (by omega) (by omega)]
 omega
theorem LC (x:Int):kA x 0 999999999=some (kq x):=by
 unfold kA kq
 by_cases h:0≤x
 ·simp [h];omega
 ·simp [h]
theorem vx {a:List Int} (hm:(a.length:Int)<9223372036854775807) : ∃ok,nh a=some ok∧(ok=true↔da a∧a.length≤60):=by
 have h1:iter (fun w:Int=>p2 a a.length w) 0=some (if a.all kq then .inl () else .inr ()):=by
  refine AE a kq (fun n x ad=> ?_) (by simp [p2])
  have:=dt ad
  unfold p2
  rw [if_pos (by simp;omega),if_pos (by omega),Int.toNat_natCast,ad]
  simp only [Option.bind_eq_bind,Option.bind_some,LC]
  rw [i1 (by omega)]
  cases kq x<;>rfl
 unfold nh z7
 simp only [gV]
 rw [h1]
 by_cases nQ:a.all kq=true
 ·have Bm:=(AR a).1 nQ
  simp only [nQ,if_true,Option.bind_eq_bind,Option.bind_some]
  by_cases mT:a.length≤60
  ·rw [if_pos (by simp;omega)]
   by_cases h0:a=[]
   ·subst h0
    exact ⟨true,rfl,by simp [da.nil]⟩
   ·obtain ⟨x,ad,bb⟩:=Ap h0
    have ak:=List.length_pos_iff.mpr h0
    rw [if_neg (by simp [h0]),F2 h0 hm,if_pos (by omega),Int.toNat_natCast,ad]
    refine ⟨_,rfl,?_⟩
    rw [bb]
    simp [Bm,mT]
  ·rw [if_neg (by simp;omega)]
   exact ⟨false,rfl,by simp;omega⟩
 ·have Bm : ¬b3 a:=fun h=>nQ ((AR a).2 h)
  simp only [Bool.not_eq_true] at nQ
  refine ⟨false,by simp [nQ],?_⟩
  simp only [Bool.false_eq_true,false_iff]
  exact fun h=>Bm h.1.1
theorem LD (x:Int):si x=some (!kq x):=by
 unfold si kq
 by_cases h:x<0
 ·simp [h]
 ·rw [if_neg (by simp [h])]
  congr 1
  rw [Bool.eq_iff_iff]
  simp
  omega
theorem D5 {a:List Int} (hm:(a.length:Int)<9223372036854775807):pA a=some (!(a.all kq)):=by
 obtain ⟨r,ao,h⟩:=L6 (f:=fun w:Int=>py a a.length w) a (fun x=> !kq x) (fun n x ad=>by
  have:=dt ad
  unfold py
  rw [if_pos (by simp;omega),if_pos (by omega),Int.toNat_natCast,ad]
  simp only [Option.bind_eq_bind,Option.bind_some,LD]
  rw [i1 (by omega)]
  cases kq x<;>rfl) (by simp [py])
 have e:a.any (fun x=> !kq x) = !(a.all kq):=by rw [List.not_all_eq_any_not]
 rw [e] at h
 unfold pA uO xA
 simp only [gV]
 rw [ao]
 rcases h with ⟨k,rfl,bl,h⟩|⟨rfl,h⟩
 ·simp only [Option.bind_eq_bind,Option.bind_some]
  rw [h]
  simp [bl]
 ·simp only [Option.bind_eq_bind,Option.bind_some]
  rw [h]
  rfl
theorem LF {a:List Int} (hm:(a.length:Int)<9223372036854775807) : ∃ok,ov a=some ok∧(ok=true↔da a∧a.length≤60):=by
 unfold ov
 simp only [gV]
 by_cases mT:60<a.length
 ·rw [if_pos (by simp;omega)]
  exact ⟨false,rfl,by simp;omega⟩
 ·rw [if_neg (by simp;omega)]
  by_cases h0:a=[]
  ·subst h0
   exact ⟨true,by simp [D5],by simp [da.nil]⟩
  ·obtain ⟨x,ad,bb⟩:=Ap h0
   have ak:=List.length_pos_iff.mpr h0
   rw [if_pos (by simp;omega),F2 h0 hm,if_pos (by omega),Int.toNat_natCast,ad]
   simp only [Option.bind_eq_bind,Option.bind_some]
   rw [bb]
   by_cases fL:x=0
   ·exact ⟨false,by simp [fL],by simp [fL]⟩
   ·rw [if_neg (by simp [fL]),D5 hm]
    refine ⟨_,rfl,?_⟩
    rw [← AR]
    simp [fL]
    omega
theorem Et {a:List Int} (hm:(a.length:Int)<9223372036854775807) : ∃ok,nh a=some ok∧ov a=some ok∧(ok=true↔da a∧a.length≤60):=by
 obtain ⟨bz,h1,R⟩:=vx hm
 obtain ⟨aO,ai,ax⟩:=LF hm
 have:aO=bz:=Bool.eq_iff_iff.mpr (ax.trans R.symm)
 exact ⟨bz,h1,this▸ai,R⟩
theorem vq {a:List Int} (bL:da a) (mT:a.length≤60) (aS:V a<9223372036854775808):l6 a=some (V a,true):=by
 obtain ⟨ok,h1,R⟩:=vx (a:=a) (by omega)
 have hH:ok=true:=R.2 ⟨bL,mT⟩
 subst hH
 have a3:da [854775807,223372036,9]:=⟨by intro x ad;simp at ad;omega,by simp⟩
 have pd:V [854775807,223372036,9]=9223372036854775807:=by decide
 unfold l6
 rw [h1]
 simp only [Option.bind_eq_bind,Option.bind_some,if_true]
 rw [qN bL a3 (by omega),pd]
 have : ∃r,iter (fun w:Int×Int=>pI a w.1 w.2) (0,(a.length:Int)-1)=some r∧r=V a:=by
  refine fN (cQ:=fun w:Int×Int=> ∃k:Nat,w.2=(k:Int)-1∧k≤a.length∧w.1=V (a.drop k)) (m:=fun w:Int×Int=>(w.2+1).toNat) _ ?_ _ ⟨a.length,rfl,by omega,by simp [V]⟩
  rintro ⟨n,i⟩ ⟨k,ai,bl,ax⟩
  simp only at ai ax
  subst ai ax
  cases k with
  | zero=>exact .inr ⟨V a,by simp [pI],rfl⟩
  | succ k =>
   have ad:=List.getElem?_eq_getElem (show k<a.length by omega)
   have fL:=bL.1.get ad
   have aM:=ki ad
   have ba:=hQ (bL.1.drop (k+1))
   have a5:V (a.drop k)≤V a:=by
    have bV:=oI (l:=a) (n:=k) (by omega)
    have dv:=hQ (bL.1.take k)
    have df:=hQ (bL.1.drop k)
    have eb:1*V (a.drop k)≤B k*V (a.drop k):=Int.mul_le_mul_of_nonneg_right (mg k) df
    omega
   refine .inl ⟨(V (a.drop k),(k:Int)-1),?_,⟨k,rfl,by omega,rfl⟩,by simp only;omega⟩
   unfold pI
   rw [show ((k+1:Nat):Int)-1=k by omega,if_pos (by simp),if_pos (by omega),Int.toNat_natCast,ad]
   simp only [Option.bind_eq_bind,Option.bind_some]
   rw [lm (by omega),b4 (x:=V (a.drop (k+1))*1000000000) (by omega) (by omega),b4 (by omega) (by omega),aM]
   congr 3
   omega
 obtain ⟨r,ao,rfl⟩:=this
 unfold kX p7
 simp only [gV]
 rw [lm (by omega),ao]
 have ai : ¬(9223372036854775807:Int)<V a:=by omega
 by_cases ax:V a<9223372036854775807<;>simp [ai,ax]
theorem MR {a b row:List Int} {less x:Int} {i:Nat} (aW:b3 b) (ad:a[i]? = some x) (fL:0≤x∧x<1000000000) (aK:less=0∨less=1) (bb:a.length≤1000000) (hm:b.length≤1000000) (ao:row.length≤1000000) :
 ∃y,0≤y∧y<1000000000∧(∀z,b[i]? = some z→y=z)∧(b[i]? = none→y=0) ∧
 n3 a b a.length less i row=some (.inl (if x-less-y<0 then (1,((i+1:Nat):Int),row++[x-less-y+1000000000]) else (0,((i+1:Nat):Int),row++[x-less-y]))):=by
 have a6:=dt ad
 unfold n3
 rw [if_pos (by simp;omega),if_pos (by omega),Int.toNat_natCast,ad]
 simp only [Option.bind_eq_bind,Option.bind_some,gV]
 by_cases Pa:i<b.length
 ·have aP:=List.getElem?_eq_getElem Pa
  have ke:=aW.get aP
  refine ⟨b[i],ke.1,ke.2,fun z cq=>by rw [aP] at cq;exact Option.some.inj cq,fun h=>by rw [aP] at h;simp at h,?_⟩
  rw [if_pos (by simp;omega),if_pos (by omega),aP]
  simp only [Option.bind_some]
  rw [b4 (x:=x-less) (by omega) (by omega),b4 (x:=x-less-b[i]) (by omega) (by omega),jM (n:=i) (by omega),b4 (x:=x-less-b[i]+1000000000) (by omega) (by omega)]
  by_cases h:x-less-b[i]<0
  ·rw [if_pos (by simp [h]),if_pos (by simp;omega)]
   simp [h]
  ·rw [if_neg (by simp [h]),if_pos (by simp;omega)]
   simp [h]
 ·have aP:b[i]? = none:=by simp;omega
  refine ⟨0,by omega,by omega,fun z cq=>by rw [aP] at cq;simp at cq,fun _=>rfl,?_⟩
  rw [if_neg (by simp;omega),b4 (x:=x-less) (by omega) (by omega),jM (n:=i) (by omega),b4 (x:=x-less+1000000000) (by omega) (by omega),Int.sub_zero]
  by_cases h:x-less<0
  ·rw [if_pos (by simp [h]),if_pos (by simp;omega)]
   simp [h]
  ·rw [if_neg (by simp [h]),if_pos (by simp;omega)]
   simp [h]
theorem E6 {b:List Int} {i:Nat} {y:Int} (h1 : ∀z,b[i]? = some z→y=z) (R:b[i]? = none→y=0):V (b.take (i+1))=V (b.take i)+B i*y:=by
 cases h:b[i]? with
 | some z=>rw [h1 z h,mB h]
 | none =>
  rw [R h]
  have:b.length≤i:=by simpa using h
  rw [List.take_of_length_le (by omega),List.take_of_length_le (by omega)]
  simp
theorem sub_eq {a b:List Int} (bL:b3 a) (aW:b3 b) (hlen:b.length≤a.length) (Q9:V b≤V a) (bb:a.length≤1000000):sr a b=some (L (V a-V b)):=by
 have : ∃r,iter (fun w:Int×Int×List Int=>n3 a b a.length w.1 w.2.1 w.2.2) (0,0,[])=some r∧b3 r∧r.length=a.length∧V r=V a-V b:=by
  refine fN (cQ:=fun w:Int×Int×List Int=> ∃i:Nat,w.2.1=i∧i≤a.length∧(w.1=0∨w.1=1)∧b3 w.2.2∧w.2.2.length=i∧V w.2.2-w.1*B i=V (a.take i)-V (b.take i)) (m:=fun w:Int×Int×List Int=>a.length-w.2.1.toNat) _ ?_ _ ⟨0,rfl,by omega,.inl rfl,b3.nil,rfl,by simp [V]⟩
  rintro ⟨less,ii,row⟩ ⟨i,h1,a6,aK,gY,k4,aS⟩
  simp only at h1 aK gY k4 aS ⊢
  subst h1
  by_cases ug:i=a.length
  ·refine .inr ⟨row,by simp [n3,ug],gY,by omega,?_⟩
   rw [ug] at aS
   rw [List.take_length,List.take_of_length_le hlen] at aS
   have R:=jO gY
   rw [k4,ug] at R
   rcases aK with rfl|rfl<;>omega
  ·have ad:=List.getElem?_eq_getElem (show i<a.length by omega)
   have fL:=bL.get ad
   obtain ⟨y,uh,Ra,Pb,Pc,he⟩:=MR (row:=row) aW ad fL aK bb (by omega) (by omega)
   rw [he]
   refine .inl ⟨_,rfl,?_⟩
   have ai:=mB ad
   have ax:=E6 Pb Pc
   by_cases h:a[i]-less-y<0
   ·rw [if_pos h]
    refine ⟨⟨i+1,rfl,by omega,.inr rfl,gY.append (b3.cons (by omega) b3.nil),by simp [k4],?_⟩,by simp only;omega⟩
    simp only
    rw [ai,ax,qC,k4,j3,ib,ti]
    grind
   ·rw [if_neg h]
    refine ⟨⟨i+1,rfl,by omega,.inl rfl,gY.append (b3.cons (by omega) b3.nil),by simp [k4],?_⟩,by simp only;omega⟩
    simp only
    rw [ai,ax,qC,k4,ib,ti]
    grind
 obtain ⟨r,ao,h1,R,ai⟩:=this
 unfold sr zX
 simp only [gV]
 rw [ao]
 simp only [Option.bind_eq_bind,Option.bind_some]
 rw [sH h1 (by omega),ai]
 rfl
theorem l8 {l:List Int} (h:b3 l) {k:Nat} (bl:k≤l.length):B k*V (l.drop k)≤V l∧V l<B k*(V (l.drop k)+1):=by
 have h1:=oI bl
 have R:=hQ (h.take k)
 have ai:=jO (h.take k)
 rw [List.length_take,Nat.min_eq_left bl] at ai
 rw [Int.mul_add,Int.mul_one]
 omega
theorem sR {l:List Int} {k:Nat} {x:Int} (ad:l[k]? = some x) (aK:l.length=k+1):V (l.drop k)=x:=by
 rw [ki ad,List.drop_of_length_le (by omega)]
 simp [V]
theorem DU {aH W t d P:Int} (l0:1≤P) (w6:P*t≤aH) (BX:aH<P*(t+1)) (nF:P*d≤W) (w7:W<P*(d+1)) (a9:0<d) (bK:0≤t) (BZ:aH<1000000000*W):t / (d+1)≤aH / W∧aH / W≤t / d∧aH / W≤999999999:=by
 have hW:0<W:=by
  have:=Int.mul_pos (a:=P) (b:=d) (by omega) a9
  omega
 have ca:0≤aH:=by
  have:=Int.mul_nonneg (a:=P) (b:=t) (by omega) bK
  omega
 refine ⟨?_,?_,?_⟩
 ·apply (Int.le_ediv_iff_mul_le hW).2
  have h1:t / (d+1)*(d+1)≤t:=Int.ediv_mul_le _ (by omega)
  have R:0≤t / (d+1):=Int.ediv_nonneg bK (by omega)
  have ai:t / (d+1)*W≤t / (d+1)*(P*(d+1)):=Int.mul_le_mul_of_nonneg_left (by omega) R
  have ax:P*(t / (d+1)*(d+1))≤P*t:=Int.mul_le_mul_of_nonneg_left h1 (by omega)
  have aM:t / (d+1)*(P*(d+1))=P*(t / (d+1)*(d+1)):=by grind
  omega
 ·apply (Int.le_ediv_iff_mul_le a9).2
  have h1:aH / W*W≤aH:=Int.ediv_mul_le _ (by omega)
  have R:0≤aH / W:=Int.ediv_nonneg ca (by omega)
  have ai:aH / W*(P*d)≤aH / W*W:=Int.mul_le_mul_of_nonneg_left nF R
  have ax:aH / W*(P*d)=P*(aH / W*d):=by grind
  have aM:P*(aH / W*d)<P*(t+1):=by omega
  have:=Int.lt_of_mul_lt_mul_left aM (by omega)
  omega
 ·have:=Int.ediv_lt_of_lt_mul hW BZ
  omega
theorem Ft {a b:Int}:kX a b≤0↔a≤b:=by
 unfold kX
 by_cases h:a<b
 ·simp [h];omega
 ·by_cases R:b<a
  ·simp [h,R]
  ·simp [h,R];omega
theorem vS {a b:Int}:kX a b<0↔a<b:=by
 unfold kX
 by_cases h:a<b
 ·simp [h]
 ·by_cases R:b<a
  ·simp [h,R]
  ·simp [h,R]
theorem vK {a b:Int}:0<kX a b↔b<a:=by
 unfold kX
 by_cases h:a<b
 ·simp [h];omega
 ·by_cases R:b<a
  ·simp [h,R]
  ·simp [h,R]
theorem At {a b:Int}:kX a b=0↔a=b:=by
 unfold kX
 by_cases h:a<b
 ·simp [h];omega
 ·by_cases R:b<a
  ·simp [h,R];omega
  ·simp [h,R];omega
theorem Eu {r b:List Int} (ao:da r) (aW:da b) (h3:b≠[]) (bb:r.length≤1000000) (hm:b.length≤1000000) {bk a6:Int} (h0:0≤bk) (h1:bk≤V r / V b) (R:V r / V b≤a6) (ai:a6≤999999999):u3 r b bk a6=some (V r / V b):=by
 have nG:=lJ aW h3
 have : ∃q,iter (fun w:Int×Int=>nY r b w.1 w.2) (bk,a6)=some q∧q=V r / V b:=by
  refine fN (cQ:=fun w:Int×Int=>0≤w.1∧w.1≤V r / V b∧V r / V b≤w.2∧w.2≤999999999) (m:=fun w:Int×Int=>(w.2-w.1).toNat) _ ?_ _ ⟨h0,h1,R,ai⟩
  rintro ⟨l,h⟩ ⟨g0,g1,g2,g3⟩
  simp only at g0 g1 g2 g3
  by_cases cG:l<h
  ·have e1:ab ((ab ((ab (l+h))+(1:Int))).tdiv (2:Int))=(l+h+1) / 2:=by
    rw [b4 (x:=l+h) (by omega) (by omega),b4 (x:=l+h+1) (by omega) (by omega),k9 (by omega),b4 (by omega) (by omega)]
   have jQ:0≤(l+h+1) / 2:=by omega
   have lu:(l+h+1) / 2<1000000000:=by omega
   have wT:(L ((l+h+1) / 2)).length≤1:=(iN jQ).2 (by simpa [B] using lu)
   have az:nY r b l h=some (.inl (if V b*((l+h+1) / 2)≤V r then ((l+h+1) / 2,h) else (l,(l+h+1) / 2-1))):=by
    unfold nY
    rw [if_pos (by simp [cG]),e1,vJ jQ (by omega)]
    simp only [Option.bind_eq_bind,Option.bind_some]
    rw [mul_eq aW.1 (mh _) hm (by omega),e8 jQ]
    simp only [Option.bind_some]
    have ak:0≤V b*((l+h+1) / 2):=Int.mul_nonneg (by omega) jQ
    have hlen:(L (V b*((l+h+1) / 2))).length≤b.length+1:=(iN ak).2 (by
     rw [j3]
     have aM:=jO aW.1
     have:V b*((l+h+1) / 2)≤V b*1000000000:=Int.mul_le_mul_of_nonneg_left (by omega) (by omega)
     omega)
    rw [qN (hU _) ao (by omega),e8 ak]
    simp only [Option.bind_some]
    by_cases a3:V b*((l+h+1) / 2)≤V r
    ·rw [if_pos (by simpa using Ft.2 a3),if_pos a3]
    ·rw [if_neg (fun h=>a3 (Ft.1 (by simpa using h))),if_neg a3,b4 (by omega) (by omega)]
   rw [az]
   refine .inl ⟨_,rfl,?_⟩
   by_cases a3:V b*((l+h+1) / 2)≤V r
   ·rw [if_pos a3]
    have:(l+h+1) / 2≤V r / V b:=(Int.le_ediv_iff_mul_le nG).2 (by rw [Int.mul_comm];exact a3)
    exact ⟨⟨by simp only;omega,this,g2,g3⟩,by simp only;omega⟩
   ·rw [if_neg a3]
    have:V r / V b<(l+h+1) / 2:=(Int.ediv_lt_iff_lt_mul nG).2 (by rw [Int.mul_comm];omega)
    exact ⟨⟨g0,g1,by simp only;omega,by simp only;omega⟩,by simp only;omega⟩
  ·exact .inr ⟨l,by simp [nY,cG],by omega⟩
 obtain ⟨q,aU,rfl⟩:=this
 exact aU
theorem vY {b:List Int} (aW:da b) (h3:b≠[]) : ∃k d,b.length=k+1∧b[k]? = some d∧0<d∧d<1000000000∧V (b.drop k)=d:=by
 have ak:=List.length_pos_iff.mpr h3
 obtain ⟨x,ad,h⟩:=Ap h3
 have h1:=h.1 aW
 have R:=h1.1.get ad
 exact ⟨b.length-1,x,by omega,ad,by omega,R.2,sR ad (by omega)⟩
theorem MS {r b:List Int} (ao:da r) (aW:da b) (h3:b≠[]) (bb:r.length≤1000000) (hm:b.length≤1000000) (h1:V b≤V r) (R:V r<1000000000*V b):r6 r b=some (V r / V b):=by
 obtain ⟨k,d,bl,a9,lp,lv,nH⟩:=vY aW h3
 have Gr:b.length≤r.length:=Nat.le_of_not_lt fun h=>by
  have:=vQ ao aW h
  omega
 have Gs:r.length≤b.length+1:=ao.len.2 (by
  have:=jO aW.1
  rw [j3]
  omega)
 have nu:=l8 aW.1 (k:=k) (by omega)
 rw [nH] at nu
 have fF:=l8 ao.1 (k:=k) (by omega)
 have ad:=List.getElem?_eq_getElem (show k<r.length by omega)
 have fL:=ao.1.get ad
 have hw:ab ((b.length:Int)-1)=(k:Int):=by rw [b4 (by omega) (by omega)];omega
 have iS:=hQ (ao.1.drop k)
 have w8:=DU (mg k) fF.1 fF.2 nu.1 nu.2 lp iS R
 have Rb:=hQ ao.1
 have hW:=lJ aW h3
 unfold r6
 simp only [gV,hw]
 rw [if_pos (by omega),Int.toNat_natCast,ad]
 simp only [Option.bind_eq_bind,Option.bind_some]
 by_cases hlen:b.length<r.length
 ·have aP:=List.getElem?_eq_getElem hlen
  have ke:=ao.1.get aP
  have jS:V (r.drop (k+1))=r[b.length]:=by
   rw [← bl]
   exact sR aP (by omega)
  have bK:V (r.drop k)=r[k]+1000000000*r[b.length]:=by rw [ki ad,jS]
  rw [bK] at w8 iS
  have iP:0≤(r[k]+1000000000*r[b.length]) / (d+1):=Int.ediv_nonneg iS (by omega)
  have lQ:(r[k]+1000000000*r[b.length]) / (d+1)≤r[k]+1000000000*r[b.length]:=Int.ediv_le_self _ iS
  have tC:0≤(r[k]+1000000000*r[b.length]) / d:=Int.ediv_nonneg iS (by omega)
  have Pd:(r[k]+1000000000*r[b.length]) / d≤r[k]+1000000000*r[b.length]:=Int.ediv_le_self _ iS
  rw [if_pos (by simp;omega),if_pos (by omega),Int.toNat_natCast,aP]
  simp only [Option.bind_some]
  rw [if_pos (by omega),a9]
  simp only [Option.bind_some]
  have e1:ab (d+1)=d+1:=b4 (by omega) (by omega)
  have az:ab (r[k]+ab (r[b.length]*1000000000))=r[k]+1000000000*r[b.length]:=by
   rw [b4 (x:=r[b.length]*1000000000) (by omega) (by omega),b4 (by omega) (by omega),Int.mul_comm]
  rw [e1,if_pos (by omega),if_pos (by omega),az,k9 iS,k9 iS,b4 (by omega) (by omega),b4 (x:=(r[k]+1000000000*r[b.length]) / d) (by omega) (by omega)]
  rw [Eu ao aW h3 bb hm iP w8.1 (by split<;>omega) (by split<;>omega)]
  rfl
 ·have bK:V (r.drop k)=r[k]:=sR ad (by omega)
  rw [bK] at w8 iS
  have iP:0≤r[k] / (d+1):=Int.ediv_nonneg iS (by omega)
  have lQ:r[k] / (d+1)≤r[k]:=Int.ediv_le_self _ iS
  have tC:0≤r[k] / d:=Int.ediv_nonneg iS (by omega)
  have Pd:r[k] / d≤r[k]:=Int.ediv_le_self _ iS
  rw [if_neg (by simp;omega),if_pos (by omega),a9]
  simp only [Option.bind_some]
  have e1:ab (d+1)=d+1:=b4 (by omega) (by omega)
  rw [e1,if_pos (by omega),if_pos (by omega),k9 iS,k9 iS,b4 (by omega) (by omega),b4 (x:=r[k] / d) (by omega) (by omega)]
  rw [Eu ao aW h3 bb hm iP w8.1 (by split<;>omega) (by split<;>omega)]
  rfl
theorem MT {a b:List Int} (bL:da a) (aW:da b) (h3:b≠[]) (bb:a.length≤900000) (hm:b.length≤900000) :
 ∃r,zY a b [] ((a.length:Int)-1) (List.replicate a.length 0)=some r∧r.1=L (V a % V b)∧b3 r.2∧r.2.length=a.length∧V r.2=V a / V b:=by
 have nG:=lJ aW h3
 refine fN (cQ:=fun w:List Int×Int×List Int=> ∃(k:Nat) (q:List Int),w.2.1=(k:Int)-1∧k≤a.length∧w.2.2=List.replicate k 0++q∧q.length+k=a.length∧b3 q∧da w.1∧V w.1<V b∧V (a.drop k)=V q*V b+V w.1) (m:=fun w:List Int×Int×List Int=>(w.2.1+1).toNat) _ ?_ _ ⟨a.length,[],rfl,by omega,by simp,by simp,b3.nil,da.nil,by simpa [V] using nG,by simp [V]⟩
 rintro ⟨rest,i,row⟩ ⟨k,q,h1,bl,R,aU,mS,hY,fF,aS⟩
 simp only at h1 R hY fF aS ⊢
 subst h1 R
 have ui:=hQ hY.1
 cases k with
 | zero =>
  simp at aS
  refine .inr ⟨(rest,q),by simp [pU],?_,mS,by simpa using aU,?_⟩
  ·refine oW hY ?_
   rw [aS,Int.add_comm,Int.add_mul_emod_self_right]
   exact (Int.emod_eq_of_lt ui fF).symm
  ·rw [aS,Int.add_comm,Int.add_mul_ediv_right _ _ (by omega),Int.ediv_eq_zero_of_lt ui fF]
   simp
 | succ k =>
  have ad:=List.getElem?_eq_getElem (show k<a.length by omega)
  have fL:=bL.1.get ad
  have k4:rest.length≤b.length:=hY.len.2 (by have:=jO aW.1;omega)
  have fU:b3 (a[k]::rest):=b3.cons fL hY.1
  have pd:V (a[k]::rest)=a[k]+1000000000*V rest:=ib _ _
  have kx:0≤a[k]+1000000000*V rest:=by omega
  have Rc:(L (a[k]+1000000000*V rest)).length≤b.length+1:=(iN kx).2 (by
   have:=jO aW.1
   rw [j3]
   omega)
  have a9:=ki ad
  have A8:pU a b rest (k:Int) (List.replicate (k+1) 0++q)=some (.inl (if a[k]+1000000000*V rest<V b then (L (a[k]+1000000000*V rest),(k:Int)-1,List.replicate (k+1) 0++q) else (L ((a[k]+1000000000*V rest) % V b),(k:Int)-1,(List.replicate (k+1) 0++q).set k ((a[k]+1000000000*V rest) / V b)))):=by
   unfold pU
   rw [if_pos (by simp),if_pos (by omega),Int.toNat_natCast,ad]
   simp only [Option.bind_eq_bind,Option.bind_some,List.singleton_append]
   rw [if_pos (by simp;omega),sH fU (by simp;omega),pd]
   simp only [Option.bind_some]
   rw [qN (hU _) aW (by omega),e8 kx]
   simp only [Option.bind_some]
   by_cases a3:a[k]+1000000000*V rest<V b
   ·rw [if_pos (by simpa using vS.2 a3),if_pos a3,lm (by omega)]
   ·rw [if_neg (fun h=>a3 (vS.1 (by simpa using h))),if_neg a3]
    have cG:a[k]+1000000000*V rest<1000000000*V b:=by omega
    rw [MS (hU _) aW h3 (by omega) (by omega) (by rw [e8 kx];omega) (by rw [e8 kx];exact cG),e8 kx]
    simp only [Option.bind_some]
    have iP:0≤(a[k]+1000000000*V rest) / V b:=Int.ediv_nonneg kx (by omega)
    have lQ:(a[k]+1000000000*V rest) / V b<1000000000:=Int.ediv_lt_of_lt_mul nG cG
    have Rd:(L ((a[k]+1000000000*V rest) / V b)).length≤1:=(iN iP).2 (by simpa [B] using lQ)
    have lu:=Int.mul_ediv_add_emod (a[k]+1000000000*V rest) (V b)
    have uj:=Int.emod_nonneg (a[k]+1000000000*V rest) (b:=V b) (by omega)
    have B0:0≤V b*((a[k]+1000000000*V rest) / V b):=Int.mul_nonneg (by omega) iP
    rw [if_pos (by simp;omega),if_pos (by simp;omega),vJ iP (by omega)]
    simp only [Option.bind_some]
    rw [mul_eq aW.1 (mh _) (by omega) (by omega),e8 iP]
    simp only [Option.bind_some]
    rw [sub_eq (mh _) (mh _) ((iN B0).2 (by
     have:=jO (mh (a[k]+1000000000*V rest))
     rw [e8 kx] at this
     omega)) (by rw [e8 kx,e8 B0];omega) (by omega),e8 kx,e8 B0]
    simp only [Option.bind_some]
    rw [lm (by omega),Nat.zero_add]
    congr 4
    omega
  rw [show ((k+1:Nat):Int)-1=k by omega,A8]
  refine .inl ⟨_,rfl,?_⟩
  by_cases a3:a[k]+1000000000*V rest<V b
  ·rw [if_pos a3]
   refine ⟨⟨k,0::q,rfl,by omega,?_,by simp;omega,b3.cons (by omega) mS,hU _,by rw [e8 kx];exact a3,?_⟩,by simp⟩
   ·simp only
    rw [List.replicate_succ',List.append_assoc];rfl
   ·simp only
    rw [a9,aS,ib,e8 kx]
    grind
  ·rw [if_neg a3]
   have cG:a[k]+1000000000*V rest<1000000000*V b:=by omega
   have uj:=Int.emod_nonneg (a[k]+1000000000*V rest) (b:=V b) (by omega)
   refine ⟨⟨k,(a[k]+1000000000*V rest) / V b::q,rfl,by omega,AQ _ _ _,by simp;omega,b3.cons ⟨Int.ediv_nonneg kx (by omega),Int.ediv_lt_of_lt_mul nG cG⟩ mS,hU _,by rw [e8 uj];exact Int.emod_lt_of_pos _ nG,?_⟩,by simp⟩
   simp only
   rw [a9,aS,ib,e8 uj]
   have lu:=Int.mul_ediv_add_emod (a[k]+1000000000*V rest) (V b)
   generalize (a[k]+1000000000*V rest) / V b=u at *
   generalize (a[k]+1000000000*V rest) % V b=t at *
   grind
theorem div_eq {a b:List Int} (bL:da a) (aW:da b) (h3:b≠[]) (bb:a.length≤900000) (hm:b.length≤900000):qm a b=some (L (V a / V b),L (V a % V b)):=by
 unfold qm
 simp only [gV]
 by_cases h1:b.length=1
 ·obtain ⟨k,d,bl,a9,lp,lv,nH⟩:=vY aW h3
  have mN:k=0:=by omega
  subst mN
  have B1:V b=d:=by simpa using nH
  rw [if_pos (by simp [h1]),if_pos (by omega),a9]
  simp only [Option.bind_eq_bind,Option.bind_some]
  have lu:=Int.emod_nonneg (V a) (b:=d) (by omega)
  have uj:=Int.emod_lt_of_pos (V a) lp
  rw [MQ bL.1 ⟨lp,lv⟩ (by omega)]
  simp only [Option.bind_some]
  rw [vJ lu (by omega),B1]
  rfl
 ·obtain ⟨r,ao,e1,az,bp,cI⟩:=MT bL aW h3 bb hm
  rw [if_neg (by simp;omega),if_pos (by omega),lm (by omega),Int.toNat_natCast,ao]
  simp only [Option.bind_eq_bind,Option.bind_some]
  rw [sH az (by omega),cI,e1]
  rfl
theorem AG {x y:Int} (ad:0≤x):Int.gcd y (x % y)=Int.gcd x y:=by
 have:=Nat.gcd_rec y.natAbs x.natAbs
 simp only [Int.gcd]
 rw [Nat.gcd_comm x.natAbs,this,Int.natAbs_emod_of_nonneg ad,Nat.gcd_comm]
theorem AS {x:Int} (ad:0≤x):(Int.gcd x 0:Int)=x:=by
 rw [Int.gcd_zero_right];omega
theorem MU {x y:Int} (ad:0≤x) (aP:0≤y) (uk:x<9223372036854775808) (uh:y<9223372036854775808):r4 x y=some (L (Int.gcd x y)):=by
 have : ∃r,iter (fun w:Int×Int=>pJ w.1 w.2) (x,y)=some r∧(r=(Int.gcd x y:Int)∧r<9223372036854775808):=by
  refine fN (cQ:=fun w:Int×Int=>0≤w.1∧0≤w.2∧w.1<9223372036854775808∧w.2<9223372036854775808∧Int.gcd w.1 w.2=Int.gcd x y) (m:=fun w:Int×Int=>w.2.toNat) _ ?_ _ ⟨ad,aP,uk,uh,rfl⟩
  rintro ⟨u,v⟩ ⟨h1,R,ai,ax,aM⟩
  simp only at h1 R ai ax aM
  by_cases aS:0<v
  ·have ba:=Int.emod_nonneg u (b:=v) (by omega)
   have a5:=Int.emod_lt_of_pos u aS
   refine .inl ⟨(v,u % v),?_,⟨R,ba,ax,by simp only;omega,by rw [← aM];exact AG h1⟩,by simp only;omega⟩
   unfold pJ
   rw [if_pos (by simpa using aS),if_pos (by omega),pr h1]
  ·have Pe:v=0:=by omega
   subst Pe
   refine .inr ⟨u,by simp [pJ],?_,ai⟩
   rw [← aM,AS h1]
 obtain ⟨r,ao,rfl,h⟩:=this
 unfold r4 zz
 rw [ao]
 simp only [Option.bind_eq_bind,Option.bind_some]
 rw [vJ (by omega) h]
 rfl
theorem vZ {a:List Int} (bL:da a) (h:a.length<3):V a<9223372036854775808:=by
 have h1:=jO bL.1
 have R:=qM (m:=a.length) (n:=2) (by omega)
 have ai:B 2=1000000000000000000:=by decide
 omega
theorem Nz {a b:List Int} (bL:da a) (aW:da b) (bb:a.length≤900000) (hm:b.length≤900000):ss a b=some (L (Int.gcd (V a) (V b))):=by
 have : ∃r,iter (fun w:List Int×List Int=>n4 w.1 w.2) (a,b)=some r∧r.elim id id=L (Int.gcd (V a) (V b)):=by
  refine fN (cQ:=fun w:List Int×List Int=>da w.1∧da w.2∧w.1.length≤900000∧w.2.length≤900000∧Int.gcd (V w.1) (V w.2)=Int.gcd (V a) (V b)) (m:=fun w:List Int×List Int=>(V w.2).toNat) _ ?_ _ ⟨bL,aW,bb,hm,rfl⟩
  rintro ⟨x,y⟩ ⟨h1,R,ai,ax,aM⟩
  simp only at h1 R ai ax aM ⊢
  have fL:=hQ h1.1
  have ke:=hQ R.1
  by_cases aP:y=[]
  ·subst aP
   refine .inr ⟨.inl x,by simp [n4,gV],?_⟩
   rw [← aM,ti,AS fL]
   exact (mO h1).symm
  ·have B2:=lJ R aP
   have Pf:=List.length_pos_iff.mpr aP
   by_cases cB:x.length<3∧y.length<3
   ·refine .inr ⟨.inr (L (Int.gcd (V a) (V b))),?_,rfl⟩
    unfold n4
    simp only [gV]
    rw [if_pos (by simp;omega),if_pos (by simp;omega),if_pos (by simp;omega),vq h1 (by omega) (vZ h1 cB.1)]
    simp only [Option.bind_eq_bind,Option.bind_some]
    rw [vq R (by omega) (vZ R cB.2)]
    simp only [Option.bind_some]
    rw [MU fL ke (vZ h1 cB.1) (vZ R cB.2),aM]
    rfl
   ·have pe:=Int.emod_nonneg (V x) (b:=V y) (by omega)
    have Pg:=Int.emod_lt_of_pos (V x) B2
    refine .inl ⟨(y,L (V x % V y)),?_,⟨R,hU _,ax,(iN pe).2 ?_,?_⟩,?_⟩
    ·unfold n4
     simp only [gV]
     rw [if_pos (by simp;omega),div_eq h1 R aP ai ax]
     by_cases ul:x.length<3
     ·rw [if_pos (by simp;omega),if_neg (by simp;omega)]
      rfl
     ·rw [if_neg (by simp;omega)]
      rfl
    ·have:=jO R.1
     have:=qM ax
     omega
    ·simp only
     rw [e8 pe,← aM]
     exact AG fL
    ·simp only
     rw [e8 pe]
     omega
 obtain ⟨r,ao,h⟩:=this
 unfold ss zZ
 rw [List.nil_append,List.nil_append,if_pos (by omega),if_pos (by omega),ao]
 cases r with
 | inl r=>exact congrArg some h
 | inr r=>exact congrArg some h
def kr (p:Nat) (l:List Int):Prop:= ∀i z,i≠p→l[i]? = some z→0≤z∧z<1000000000
theorem kr.set {p:Nat} {l:List Int} (h:kr p l) {k:Nat} {x:Int} (ad:0≤x∧x<1000000000):kr p (l.set k x):=fun i z a6 cq=>by
 by_cases bl:k=i
 ·subst bl
  rw [List.getElem?_set] at cq
  simp only [if_true] at cq
  split at cq
  ·rw [← Option.some.inj cq];exact ad
  ·simp at cq
 ·rw [List.getElem?_set_ne bl] at cq
  exact h i z a6 cq
theorem kr.Gh {p:Nat} {l:List Int} (h:kr p l) {x:Int}:kr p (l.set p x):=fun i z a6 cq=>by
 rw [List.getElem?_set_ne (fun h=>a6 h.symm)] at cq
 exact h i z a6 cq
theorem b3.toE {l:List Int} (h:b3 l) (p:Nat):kr p l:=fun _ _ _ cq=>h.get cq
theorem Mg {v row:List Int} {bk i7 i:Nat} {gZ carry x y:Int} (ad:v[i]? = some x) (aP:row[bk+i]? = some y) (fL:0≤x∧x<1000000000) (ke:0≤y∧y<1000000000) (aW:0≤gZ∧gZ<1000000000) (a3:0≤carry∧carry<1000000000) (hu:i<i7) (bb:row.length≤5000000) :
 ∃c z,n5 bk i7 v gZ v.length carry i row=some (.inl (c,((i+1:Nat):Int),row.set (bk+i) z))∧0≤c∧c<1000000000∧0≤z∧z<1000000000∧z-1000000000*c=y-gZ*x-carry:=by
 have a6:=dt ad
 have aL:=dt aP
 obtain ⟨fa,eG⟩:=tb aW fL
 have e:ab (ab (y-ab (gZ*x))-carry)=y-gZ*x-carry:=by
  rw [b4 (x:=gZ*x) (by omega) (by omega),b4 (x:=y-gZ*x) (by omega) (by omega),b4 (by omega) (by omega)]
 by_cases bK:y-gZ*x-carry<0
 ·refine ⟨(999999999-(y-gZ*x-carry)) / 1000000000,y-gZ*x-carry+(999999999-(y-gZ*x-carry)) / 1000000000*1000000000,?_,by omega,by omega,by omega,by omega,by omega⟩
  unfold n5
  rw [if_pos (by simp;omega),if_pos (by omega),Int.toNat_natCast,ad]
  simp only [Option.bind_eq_bind,Option.bind_some]
  rw [if_pos (by omega),aP]
  simp only [Option.bind_some,e]
  rw [if_pos (by simpa using bK),if_pos (by omega),jM (n:=i) (by omega),b4 (x:=999999999-(y-gZ*x-carry)) (by omega) (by omega),k9 (by omega),b4 (x:=(999999999-(y-gZ*x-carry)) / 1000000000) (by omega) (by omega),b4 (x:=(999999999-(y-gZ*x-carry)) / 1000000000*1000000000) (by omega) (by omega),b4 (by omega) (by omega)]
 ·refine ⟨0,y-gZ*x-carry,?_,by omega,by omega,by omega,by omega,by omega⟩
  unfold n5
  rw [if_pos (by simp;omega),if_pos (by omega),Int.toNat_natCast,ad]
  simp only [Option.bind_eq_bind,Option.bind_some]
  rw [if_pos (by omega),aP]
  simp only [Option.bind_some,e]
  rw [if_neg (by simpa using bK),if_pos (by omega),jM (n:=i) (by omega)]
theorem Mh {v row:List Int} {bk i7:Nat} {gZ:Int} (aS:b3 v) (ao:b3 row) (aW:0≤gZ∧gZ<1000000000) (hu:v.length<i7) (aK:bk+v.length<row.length) (bb:row.length≤5000000) :
 ∃r,z2 bk i7 v gZ v.length 0 0 row=some r∧0≤r.1∧r.1<1000000000∧b3 r.2∧r.2.length=row.length∧V r.2=V row-gZ*B bk*V v+r.1*B (bk+v.length)∧ ∀i,i<bk∨bk+v.length≤i→r.2[i]? = row[i]? := by
 refine fN (cQ:=fun w:Int×Int×List Int=> ∃(i:Nat),w.2.1=(i:Int)∧i≤v.length∧0≤w.1∧w.1<1000000000∧b3 w.2.2∧w.2.2.length=row.length∧V w.2.2=V row-gZ*B bk*V (v.take i)+w.1*B (bk+i)∧ ∀i,i<bk∨bk+v.length≤i→w.2.2[i]? = row[i]?) (m:=fun w:Int×Int×List Int=>v.length-w.2.1.toNat) _ ?_ _ ⟨0,rfl,by omega,by simp,by simp,ao,rfl,by simp [V],fun _ _=>rfl⟩
 rintro ⟨carry,ii,c7⟩ ⟨i,h1,a6,ku,jb,gY,hlen,hV,iu⟩
 simp only at h1 ku jb gY hlen hV iu ⊢
 subst h1
 by_cases B3:i=v.length
 ·subst B3
  exact .inr ⟨(carry,c7),by simp [n5],ku,jb,gY,hlen,by simpa using hV,iu⟩
 ·have ad:=List.getElem?_eq_getElem (show i<v.length by omega)
  have aP:=List.getElem?_eq_getElem (show bk+i<c7.length by omega)
  obtain ⟨c,z,he,cb,bI,PU,ps,cq⟩:=Mg (i7:=i7) ad aP (aS.get ad) (gY.get aP) aW ⟨ku,jb⟩ (by omega) (by omega)
  rw [he]
  refine .inl ⟨_,rfl,⟨i+1,rfl,by omega,cb,bI,gY.set ⟨PU,ps⟩,by simpa using hlen,?_,fun k bl=> ?_⟩,by simp;omega⟩
  ·simp only
   rw [qT aP,mB ad,hV,← Nat.add_assoc,j3,wm]
   have o6:z=c7[bk+i]-gZ*v[i]-carry+1000000000*c:=by omega
   rw [o6]
   grind
  ·simp only
   rw [List.getElem?_set_ne (by omega)]
   exact iu k bl
theorem NA {v row:List Int} {bk i7:Nat} {gZ:Int} (aS:b3 v) (ao:b3 row) (aW:0≤gZ∧gZ<1000000000) (hu:v.length<i7) (aK:bk+v.length<row.length) (bb:row.length≤5000000) :
 ∃y cl,sw v gZ bk i7 row=some (decide (y<0),cl)∧cl.length=row.length∧kr (bk+v.length) cl∧cl[bk+v.length]? = some y∧ -1000000000<y∧y<1000000000∧V cl=V row-gZ*B bk*V v∧ ∀i,i<bk∨bk+v.length<i→cl[i]? = row[i]? := by
 obtain ⟨r,fF,cb,bI,gY,hlen,hV,iu⟩:=Mh aS ao aW hu aK bb
 have ad:=List.getElem?_eq_getElem (show bk+v.length<r.2.length by omega)
 have fL:=gY.get ad
 refine ⟨r.2[bk+v.length]-r.1,r.2.set (bk+v.length) (r.2[bk+v.length]-r.1),?_,by simpa using hlen,(b3.toE gY _).Gh,?_,by omega,by omega,?_,fun i a6=> ?_⟩
 ·unfold sw
  simp only [gV]
  rw [fF]
  simp only [Option.bind_eq_bind,Option.bind_some,Int.toNat_natCast]
  rw [if_pos (by omega),ad]
  simp only [Option.bind_some]
  rw [if_pos (by omega),b4 (by omega) (by omega),List.getElem?_set,if_pos rfl,if_pos (by omega)]
  rfl
 ·rw [List.getElem?_set,if_pos rfl,if_pos (by omega)]
 ·rw [qT ad,hV]
  grind
 ·rw [List.getElem?_set_ne (by omega)]
  exact iu i (by omega)
theorem Mi {v row:List Int} {bk i7:Nat} (aS:b3 v) (ao:kr (bk+v.length) row) (hu:v.length<i7) (aK:bk+v.length<row.length) (bb:row.length≤5000000) :
 ∃r,z3 bk i7 v v.length 0 0 row=some r∧0≤r.1∧r.1≤1∧kr (bk+v.length) r.2∧r.2.length=row.length∧V r.2=V row+B bk*V v-r.1*B (bk+v.length)∧ ∀i,i<bk∨bk+v.length≤i→r.2[i]? = row[i]? := by
 refine fN (cQ:=fun w:Int×Int×List Int=> ∃(i:Nat),w.2.1=(i:Int)∧i≤v.length∧0≤w.1∧w.1≤1∧kr (bk+v.length) w.2.2∧w.2.2.length=row.length∧V w.2.2=V row+B bk*V (v.take i)-w.1*B (bk+i)∧ ∀i,i<bk∨bk+v.length≤i→w.2.2[i]? = row[i]?) (m:=fun w:Int×Int×List Int=>v.length-w.2.1.toNat) _ ?_ _ ⟨0,rfl,by omega,by simp,by simp,ao,rfl,by simp [V],fun _ _=>rfl⟩
 rintro ⟨carry,ii,c7⟩ ⟨i,h1,a6,ku,jb,gY,hlen,hV,iu⟩
 simp only at h1 ku jb gY hlen hV iu ⊢
 subst h1
 by_cases B3:i=v.length
 ·subst B3
  exact .inr ⟨(carry,c7),by simp [pW],ku,jb,gY,hlen,by simpa using hV,iu⟩
 ·have ad:=List.getElem?_eq_getElem (show i<v.length by omega)
  have aP:=List.getElem?_eq_getElem (show bk+i<c7.length by omega)
  have fL:=aS.get ad
  have ke:=gY _ _ (by omega) aP
  have he:pW bk i7 v v.length carry i c7=some (.inl ((c7[bk+i]+v[i]+carry) / 1000000000,((i+1:Nat):Int),c7.set (bk+i) ((c7[bk+i]+v[i]+carry) % 1000000000))):=by
   unfold pW
   rw [if_pos (by simp;omega),if_pos (by omega),Int.toNat_natCast,ad]
   simp only [Option.bind_eq_bind,Option.bind_some]
   rw [if_pos (by omega),aP]
   simp only [Option.bind_some]
   rw [if_pos (by omega),b4 (x:=c7[bk+i]+v[i]) (by omega) (by omega),b4 (x:=c7[bk+i]+v[i]+carry) (by omega) (by omega),pr (by omega),k9 (by omega),b4 (by omega) (by omega),jM (n:=i) (by omega)]
  rw [he]
  refine .inl ⟨_,rfl,⟨i+1,rfl,by omega,by simp only;omega,by simp only;omega,gY.set (by omega),by simpa using hlen,?_,fun k bl=> ?_⟩,by simp;omega⟩
  ·simp only
   rw [qT aP,mB ad,hV,← Nat.add_assoc,j3,wm]
   have:=Int.mul_ediv_add_emod (c7[bk+i]+v[i]+carry) 1000000000
   generalize (c7[bk+i]+v[i]+carry) / 1000000000=q at *
   generalize (c7[bk+i]+v[i]+carry) % 1000000000=t at *
   have o6:t=c7[bk+i]+v[i]+carry-1000000000*q:=by omega
   rw [o6]
   grind
  ·simp only
   rw [List.getElem?_set_ne (by omega)]
   exact iu k bl
theorem NB {v row:List Int} {bk i7:Nat} {y:Int} (aS:b3 v) (ao:kr (bk+v.length) row) (hu:v.length<i7) (aK:bk+v.length<row.length) (bb:row.length≤5000000) (aP:row[bk+v.length]? = some y) (ke : -1000000000<y) (uh:y<1000000000) :
 ∃ik cl,qq v bk i7 row=some cl∧cl.length=row.length∧kr (bk+v.length) cl∧cl[bk+v.length]? = some ik∧V cl=V row+B bk*V v∧ ∀i,i<bk∨bk+v.length<i→cl[i]? = row[i]? := by
 obtain ⟨r,fF,cb,bI,gY,hlen,hV,iu⟩:=Mi aS ao hu aK bb
 have ad:r.2[bk+v.length]? = some y:=by rw [iu _ (by omega)];exact aP
 refine ⟨y+r.1,r.2.set (bk+v.length) (y+r.1),?_,by simpa using hlen,gY.Gh,?_,?_,fun i a6=> ?_⟩
 ·unfold qq
  simp only [gV]
  rw [fF]
  simp only [Option.bind_eq_bind,Option.bind_some,Int.toNat_natCast]
  rw [if_pos (by omega),ad]
  simp only [Option.bind_some]
  rw [if_pos (by omega),b4 (by omega) (by omega)]
 ·rw [List.getElem?_set,if_pos rfl,if_pos (by omega)]
 ·rw [qT ad,hV]
  grind
 ·rw [List.getElem?_set_ne (by omega)]
  exact iu i (by omega)
theorem MV {g q v1 v2 top eH rest aH W P:Int} (l0:1≤P) (d5:0≤g) (bK:g*v1+rest=top) (nF:P*(v1*1000000000+v2)≤W) (BX:aH<P*(top*1000000000+eH+1)) (GR:q*W≤aH) (hW:0≤W) (h:rest*1000000000+eH<g*v2):q<g:=by
 apply Int.not_le.mp
 intro nI
 have h1:g*W≤q*W:=Int.mul_le_mul_of_nonneg_right nI hW
 have R:g*(P*(v1*1000000000+v2))≤g*W:=Int.mul_le_mul_of_nonneg_left nF d5
 have ai:g*(P*(v1*1000000000+v2))=P*(g*(v1*1000000000+v2)):=by grind
 have ax:P*(g*(v1*1000000000+v2))<P*(top*1000000000+eH+1):=by omega
 have aM:=Int.lt_of_mul_lt_mul_left ax (by omega)
 have ba:g*(v1*1000000000+v2)=1000000000*(g*v1)+g*v2:=by grind
 omega
theorem EM {g v1 v2 top eH rest aH W P:Int} (l0:1≤P) (d5:0≤g) (nJ:g≤999999999) (lX:1≤v1) (um:0≤v2) (bK:g*v1+rest=top) (nF:P*(v1*1000000000+v2)≤W) (w7:W<P*(v1*1000000000+v2+1)) (w6:P*(top*1000000000+eH)≤aH) (h:g*v2≤rest*1000000000+eH):g≤aH / W+1:=by
 have uo:P*1000000000≤W:=by
  have h1:P*1000000000≤P*(v1*1000000000+v2):=Int.mul_le_mul_of_nonneg_left (by omega) (by omega)
  omega
 have h1:g*W≤g*(P*(v1*1000000000+v2+1)):=Int.mul_le_mul_of_nonneg_left (by omega) d5
 have R:g*(P*(v1*1000000000+v2+1))=P*(1000000000*(g*v1)+g*v2+g):=by grind
 have ai:P*(1000000000*(g*v1)+g*v2+g)≤P*(top*1000000000+eH+999999999):=Int.mul_le_mul_of_nonneg_left (by omega) (by omega)
 have ax:P*(top*1000000000+eH+999999999)=P*(top*1000000000+eH)+P*999999999:=by grind
 have aM:(g-1)*W=g*W-W:=by grind
 have:g-1≤aH / W:=(Int.le_ediv_iff_mul_le (by omega)).2 (by omega)
 omega
theorem LG {an u fB b6:List Int} {N n j:Nat} {v1 v2 eH top aH W P:Int} (bb:2≤n) (Re:n≤5000000) (nK:j+n<N) (gO:N≤5000000) (h1:fB[n-1]? = some v1) (R:fB[n-2]? = some v2) (ai:u[j+n-2]? = some eH)
 (lX:1≤v1∧v1<1000000000) (um:0≤v2∧v2<1000000000) (Rf:0≤eH∧eH<1000000000) (l0:1≤P) (nF:P*(v1*1000000000+v2)≤W) (w7:W<P*(v1*1000000000+v2+1)) (w6:P*(top*1000000000+eH)≤aH) (BX:aH<P*(top*1000000000+eH+1)) (ca:0≤aH) (BZ:aH<1000000000*W) (iS:0≤top) (Rg:top≤v1*1000000000+999999999) (aU:aH / W≤top / v1) :
 ∃g,Ae N n n j an u fB b6 (top / v1) (top % v1)=some g∧(aH / W=g∨aH / W+1=g)∧0≤g∧g≤999999999:=by
 have uo:0<W:=by
  have h1:P*1000000000≤P*(v1*1000000000+v2):=Int.mul_le_mul_of_nonneg_left (by omega) (by omega)
  omega
 have iP:0≤aH / W:=Int.ediv_nonneg ca (by omega)
 have lQ:aH / W<1000000000:=Int.ediv_lt_of_lt_mul uo BZ
 have GR:aH / W*W≤aH:=Int.ediv_mul_le _ (by omega)
 have Pj:=Int.mul_ediv_add_emod top v1
 have jQ:=Int.emod_nonneg top (b:=v1) (by omega)
 have lu:=Int.emod_lt_of_pos top (b:=v1) (by omega)
 have Bn:ab ((n:Int)-1)=((n-1:Nat):Int):=by rw [b4 (by omega) (by omega)];omega
 have Oh:ab ((n:Int)-2)=((n-2:Nat):Int):=by rw [b4 (by omega) (by omega)];omega
 have Oi:ab (ab ((j:Int)+(n:Int))-2)=((j+n-2:Nat):Int):=by rw [b4 (x:=(j:Int)+n) (by omega) (by omega),b4 (by omega) (by omega)];omega
 have wF:top / v1≤top:=Int.ediv_le_self _ iS
 refine fN (cQ:=fun w:Int×Int=>w.1*v1+w.2=top∧0≤w.2∧w.2<1000000000∧aH / W≤w.1∧w.1≤top) (m:=fun w:Int×Int=>w.1.toNat) _ ?_ _ ⟨by rw [Int.mul_comm];exact Pj,jQ,by simp only;omega,aU,wF⟩
 rintro ⟨g,rest⟩ ⟨i1,mW,Cn,uF,PV⟩
 simp only at i1 mW Cn uF PV ⊢
 have B4:ab (rest+v1)=rest+v1:=b4 (by omega) (by omega)
 have B5:ab (g-1)=g-1:=b4 (by omega) (by omega)
 have nJ:(g-1)*v1+(rest+v1)=top:=by grind
 have FM:aH / W≤g-1→1000000000≤rest+v1→(aH / W=g-1∨aH / W+1=g-1)∧0≤g-1∧g-1≤999999999:=by
  intro iW iX
  have Cp:(g-1)*v1<1000000000*v1:=by omega
  have Cq:g-1<1000000000:=Int.lt_of_mul_lt_mul_right Cp (by omega)
  have Hh:0≤g-1:=by omega
  have RC:=(tb ⟨Hh,Cq⟩ um).2
  have:=EM l0 Hh (by omega) lX.1 um.1 nJ nF w7 w6 (by omega)
  omega
 by_cases Bo:1000000000≤g
 ·by_cases aW:1000000000≤rest+v1
  ·refine .inr ⟨g-1,?_,FM (by omega) aW⟩
   unfold n7
   rw [if_pos (by simpa using Bo),Bn,if_pos (by omega),Nat.zero_add,Int.toNat_natCast,h1]
   simp only [Option.bind_eq_bind,Option.bind_some,B4,B5]
   rw [if_pos (by simpa using aW)]
  ·refine .inl ⟨(g-1,rest+v1),?_,⟨nJ,by simp only;omega,by simp only;omega,by simp only;omega,by simp only;omega⟩,by simp only;omega⟩
   unfold n7
   rw [if_pos (by simpa using Bo),Bn,if_pos (by omega),Nat.zero_add,Int.toNat_natCast,h1]
   simp only [Option.bind_eq_bind,Option.bind_some,B4,B5]
   rw [if_neg (by simpa using aW)]
 ·have fY:0≤g:=by omega
  obtain ⟨fa,eG⟩:=tb ⟨fY,by omega⟩ um
  have e1:ab (ab (rest*1000000000)+eH)=rest*1000000000+eH:=by rw [b4 (x:=rest*1000000000) (by omega) (by omega),b4 (by omega) (by omega)]
  have az:ab (g*v2)=g*v2:=b4 (by omega) (by omega)
  have A8:n7 N n n j an u fB b6 g rest=some (if rest*1000000000+eH<g*v2 then (if 1000000000≤rest+v1 then .inr (g-1) else .inl (g-1,rest+v1)) else .inr g):=by
   unfold n7
   rw [if_neg (by simpa using Bo),Oh,if_pos (by omega),Nat.zero_add,Int.toNat_natCast,R]
   simp only [Option.bind_eq_bind,Option.bind_some]
   rw [Oi,if_pos (by omega),Nat.zero_add,Int.toNat_natCast,ai]
   simp only [Option.bind_some,e1,az]
   by_cases a3:rest*1000000000+eH<g*v2
   ·rw [if_pos (by simpa using a3),if_pos a3,Bn,if_pos (by omega),Nat.zero_add,Int.toNat_natCast,h1]
    simp only [Option.bind_some,B4,B5]
    by_cases aW:1000000000≤rest+v1
    ·rw [if_pos (by simpa using aW),if_pos aW]
    ·rw [if_neg (by simpa using aW),if_neg aW]
   ·rw [if_neg (by simpa using a3),if_neg a3]
  rw [A8]
  by_cases a3:rest*1000000000+eH<g*v2
  ·have Rh:=MV l0 fY i1 nF BX GR (by omega) a3
   rw [if_pos a3]
   by_cases aW:1000000000≤rest+v1
   ·rw [if_pos aW]
    exact .inr ⟨g-1,rfl,FM (by omega) aW⟩
   ·rw [if_neg aW]
    exact .inl ⟨(g-1,rest+v1),rfl,⟨nJ,by simp only;omega,by simp only;omega,by simp only;omega,by simp only;omega⟩,by simp only;omega⟩
  ·rw [if_neg a3]
   have:=EM l0 fY (by omega) lX.1 um.1 i1 nF w7 w6 (by omega)
   exact .inr ⟨g,rfl,by omega,by omega,by omega⟩
theorem Mj {a b:List Int} {k:Nat} (h : ∀i,k≤i→a[i]? = b[i]?):a.drop k=b.drop k:=by
 apply List.ext_getElem?
 intro i
 rw [List.getElem?_drop,List.getElem?_drop]
 exact h _ (by omega)
theorem Mk {a b:List Int} {k:Nat} (h : ∀i,i<k→a[i]? = b[i]?):a.take k=b.take k:=by
 apply List.ext_getElem?
 intro i
 rw [List.getElem?_take,List.getElem?_take]
 by_cases a6:i<k
 ·rw [if_pos a6,if_pos a6];exact h i a6
 ·rw [if_neg a6,if_neg a6]
theorem GS {u w:List Int} {j n:Nat} {y c:Int} (hlen:w.length=u.length) (nK:j+n<u.length) (c4:kr (j+n) w) (aP:w[j+n]? = some y) (iu : ∀i,i<j∨j+n<i→w[i]? = u[i]?) (h0:V (u.drop (j+n+1))=0) (hV:V w=V u-c*B j) :
 V (w.drop j)=V (u.drop j)-c∧ ∃low,0≤low∧low<B n∧V (w.drop j)=low+B n*y:=by
 have h1:=oI (l:=u) (n:=j) (by omega)
 have R:=oI (l:=w) (n:=j) (by omega)
 rw [Mk (a:=w) (b:=u) (fun i a6=>iu i (.inl a6))] at R
 have ai:B j*V (w.drop j)=B j*(V (u.drop j)-c):=by grind
 have xo:=mg j
 have ax:V (w.drop j)=V (u.drop j)-c:=Int.eq_of_mul_eq_mul_left (by omega) ai
 refine ⟨ax,V ((w.drop j).take n),?_,?_,?_⟩
 ·refine hQ (fun x ad=> ?_)
  obtain ⟨i,a6⟩:=List.mem_iff_getElem?.mp ad
  have iK:=dt a6
  simp at iK
  rw [List.getElem?_take,if_pos (by omega),List.getElem?_drop] at a6
  exact c4 _ _ (by omega) a6
 ·have aK:b3 ((w.drop j).take n):=fun x ad=>by
   obtain ⟨i,a6⟩:=List.mem_iff_getElem?.mp ad
   have iK:=dt a6
   simp at iK
   rw [List.getElem?_take,if_pos (by omega),List.getElem?_drop] at a6
   exact c4 _ _ (by omega) a6
  have:=jO aK
  rwa [List.length_take,Nat.min_eq_left (by simp;omega)] at this
 ·have aM:=oI (l:=w.drop j) (n:=n) (by simp;omega)
  rw [List.drop_drop,ki aP,Mj (a:=w) (b:=u) (k:=j+n+1) (fun i a6=>iu i (.inr (by omega))),h0] at aM
  rw [aM]
  grind
theorem EN {w:List Int} {p:Nat} (c4:kr p w) (aP:w[p]? = some 0):b3 w:=fun x ad=>by
 obtain ⟨i,a6⟩:=List.mem_iff_getElem?.mp ad
 by_cases h:i=p
 ·subst h
  rw [aP] at a6
  have:=Option.some.inj a6
  omega
 ·exact c4 i x h a6
theorem E7 {low y X pt W:Int} (h0:0≤low) (h1:low<pt) (ly:X=low+pt*y) (R:0≤X) (ai:X<W) (ax:W≤pt):y=0:=by
 have cG:pt*y<pt*1:=by omega
 have aM:=Int.lt_of_mul_lt_mul_left cG (by omega)
 have wV:pt*(-1)<pt*y:=by omega
 have ba:=Int.lt_of_mul_lt_mul_left wV (by omega)
 omega
theorem Ml {an u fB b6:List Int} {n j:Nat} {v1 W:Int} (bb:2≤n) (w9:n≤fB.length) (aS:b3 (fB.take n)) (hW:V (fB.take n)=W) (lX:fB[n-1]? = some v1) (Bp:1≤v1) (hu:b3 u) (pf:u.length≤5000000) (nK:j+n<u.length) (cG:V (u.drop (j+1))<W) (Ri:j<b6.length) :
 ∃k7,n8 u.length n n an fB j u b6=some (.inl ((j:Int)-1,k7,b6.set j (V (u.drop j) / W)))∧b3 k7∧k7.length=u.length∧V k7=V u-(V (u.drop j) / W)*B j*W∧V (k7.drop j)<W∧0≤V (u.drop j) / W∧V (u.drop j) / W<1000000000:=by
 obtain ⟨n,rfl⟩ : ∃m,n=m+2:=⟨n-2,by omega⟩
 have kY:(fB.take (n+2)).length=n+2:=by simp;omega
 have nJ:(fB.take (n+2))[n+1]? = some v1:=by rw [List.getElem?_take,if_pos (by omega)];exact lX
 have GU:=List.getElem?_eq_getElem (show n<fB.length by omega)
 have Gi:(fB.take (n+2))[n]? = some fB[n]:=by rw [List.getElem?_take,if_pos (by omega)];exact GU
 have Oj:=aS.get nJ
 have Ok:=aS.get Gi
 have fL:=List.getElem?_eq_getElem (show j+(n+2)<u.length by omega)
 have uk:=List.getElem?_eq_getElem (show j+(n+1)<u.length by omega)
 have tQ:=List.getElem?_eq_getElem (show j+n<u.length by omega)
 have GV:=List.getElem?_eq_getElem (show j<u.length by omega)
 have h3:=hu.get fL
 have nu:=hu.get uk
 have BJ:=hu.get tQ
 have Rj:=hu.get GV
 have B6:=l8 aS (k:=n+1) (by omega)
 rw [sR nJ (by omega),hW] at B6
 have B7:=l8 aS (k:=n) (by omega)
 rw [ki Gi,sR nJ (by omega),hW] at B7
 have Bq:=jO aS
 rw [kY,hW] at Bq
 have Rk:0≤W:=by rw [← hW];exact hQ aS
 have cq:=l8 (hu.drop (j+1)) (k:=n+2) (by simp;omega)
 rw [List.drop_drop] at cq
 have Pk:=hQ (hu.drop (j+1+(n+2)))
 have Rl:=mg (n+2)
 have h0:V (u.drop (j+(n+2)+1))=0:=by
  rw [show j+(n+2)+1=j+1+(n+2) by omega]
  apply Int.le_antisymm _ Pk
  apply Int.not_lt.mp
  intro h
  have:B (n+2)*1≤B (n+2)*V (u.drop (j+1+(n+2))):=Int.mul_le_mul_of_nonneg_left (by omega) (by omega)
  omega
 have iS:V (u.drop (j+(n+2)))=u[j+(n+2)]:=by rw [ki fL,h0];omega
 have wF:V (u.drop (j+(n+1)))=u[j+(n+1)]+1000000000*u[j+(n+2)]:=by rw [ki uk,show j+(n+1)+1=j+(n+2) by omega,iS]
 have pj:V (u.drop (j+n))=u[j+n]+1000000000*(u[j+(n+1)]+1000000000*u[j+(n+2)]):=by rw [ki tQ,show j+n+1=j+(n+1) by omega,wF]
 have fF:=l8 (hu.drop j) (k:=n+1) (by simp;omega)
 rw [List.drop_drop,wF] at fF
 have B8:=l8 (hu.drop j) (k:=n) (by simp;omega)
 rw [List.drop_drop,pj] at B8
 have kx:=hQ (hu.drop j)
 have ca:V (u.drop j)<1000000000*W:=by rw [ki GV];omega
 have Pl:=mg n
 have Ol:=mg (n+1)
 have o4:u[j+(n+2)]≤v1:=by
  have h1:=l8 (hu.drop (j+1)) (k:=n+1) (by simp;omega)
  rw [List.drop_drop,show j+1+(n+1)=j+(n+2) by omega,iS] at h1
  have R:B (n+1)*u[j+(n+2)]<B (n+1)*(v1+1):=by omega
  have:=Int.lt_of_mul_lt_mul_left R (by omega)
  omega
 have Om:=DU Ol fF.1 fF.2 B6.1 B6.2 (by omega) (by omega) ca
 obtain ⟨g,d5,nI,Pm,Rm⟩:=LG (an:=an) (b6:=b6) (N:=u.length) (n:=n+2) (j:=j) (v1:=v1) (v2:=fB[n]) (eH:=u[j+n]) (top:=u[j+(n+1)]+1000000000*u[j+(n+2)]) (aH:=V (u.drop j)) (W:=W) (P:=B n) (u:=u) (fB:=fB) (by omega) (by omega) nK pf lX GU tQ ⟨Bp,Oj.2⟩ Ok BJ Pl
  (by rw [Int.mul_comm v1,Int.add_comm];exact B7.1) (by rw [Int.mul_comm v1,Int.add_comm (1000000000*v1)];exact B7.2)
  (by rw [Int.mul_comm (u[j+(n+1)]+_),Int.add_comm];exact B8.1) (by rw [Int.mul_comm (u[j+(n+1)]+_),Int.add_comm (1000000000*_) u[j+n]];exact B8.2) kx ca (by omega) (by omega) Om.2.1
 have uo:0<W:=by
  have:B (n+1)*1≤B (n+1)*v1:=Int.mul_le_mul_of_nonneg_left (by omega) (by omega)
  omega
 have iP:0≤V (u.drop j) / W:=Int.ediv_nonneg kx (by omega)
 have lQ:V (u.drop j) / W<1000000000:=Int.ediv_lt_of_lt_mul uo ca
 have hm:=Int.mul_ediv_add_emod (V (u.drop j)) W
 have jQ:=Int.emod_nonneg (V (u.drop j)) (b:=W) (by omega)
 have lu:=Int.emod_lt_of_pos (V (u.drop j)) uo
 obtain ⟨y,w,bK,GW,xa,xb,ke,uh,xc,AZ⟩:=NA (v:=fB.take (n+2)) (row:=u) (bk:=j) (i7:=u.length-j) (gZ:=g) aS hu ⟨Pm,by omega⟩ (by omega) (by omega) pf
 rw [kY] at xa xb AZ
 rw [hW] at xc
 obtain ⟨ul,low,kb,Pn,o5⟩:=GS (c:=g*W) GW nK xa xb AZ h0 (by rw [xc];grind)
 have Po:ab ((j:Int)-1)=(j:Int)-1:=lm (by omega)
 have e1:ab ((j:Int)+((n+2:Nat):Int))=((j+(n+2):Nat):Int):=by rw [b4 (by omega) (by omega)];omega
 have az:ab (((j+(n+2):Nat):Int)-1)=((j+(n+1):Nat):Int):=by rw [b4 (by omega) (by omega)];omega
 have bp:ab (((n+2:Nat):Int)-1)=((n+1:Nat):Int):=by rw [b4 (by omega) (by omega)];omega
 have cI:ab (ab (u[j+(n+2)]*1000000000)+u[j+(n+1)])=u[j+(n+1)]+1000000000*u[j+(n+2)]:=by
  rw [b4 (x:=u[j+(n+2)]*1000000000) (by omega) (by omega),b4 (by omega) (by omega)];omega
 have dM:0≤u[j+(n+1)]+1000000000*u[j+(n+2)]:=by omega
 have ez:(u[j+(n+1)]+1000000000*u[j+(n+2)]) / v1≤u[j+(n+1)]+1000000000*u[j+(n+2)]:=Int.ediv_le_self _ dM
 have eQ:0≤(u[j+(n+1)]+1000000000*u[j+(n+2)]) / v1:=Int.ediv_nonneg dM (by omega)
 have On:fB[n+1]? = some v1:=lX
 have pre:n8 u.length (n+2) ((n+2:Nat):Int) an fB j u b6 =
  (if (decide (y<0))=true then
    qq (fB.take (n+2)) j (u.length-j) w >>= fun nz=>some (.inl ((j:Int)-1,nz,b6.set j (ab (g-1))))
  else some (.inl ((j:Int)-1,w,b6.set j g))):=by
  unfold n8
  rw [if_pos (by simp)]
  simp only [e1,az,bp,Int.toNat_natCast,Nat.zero_add,Po]
  rw [if_pos (by omega),fL]
  simp only [Option.bind_eq_bind,Option.bind_some]
  rw [if_pos (by omega),uk]
  simp only [Option.bind_some]
  rw [if_pos (by omega),On]
  simp only [Option.bind_some]
  rw [if_pos (by omega),cI,k9 dM,pr dM,b4 (by omega) (by omega),d5]
  simp only [Option.bind_some]
  rw [if_pos (by omega),if_pos (by omega),if_pos (by omega),List.drop_zero,bK]
  simp only [Option.bind_some]
  by_cases aP:y<0
  ·have a9:(decide (y<0))=true:=by simpa using aP
   simp only [if_pos a9]
   congr 1
   funext r
   rw [if_pos (by omega),if_pos (by omega)]
  ·have a9 : ¬(decide (y<0))=true:=by simpa using aP
   simp only [if_neg a9]
   rw [if_pos (by omega),if_pos (by omega)]
 rcases nI with nI|nI
 ·subst nI
  have ly:V (w.drop j)=V (u.drop j) % W:=by rw [ul];grind
  have aP:y=0:=E7 (W:=W) kb Pn o5 (by rw [ly];exact jQ) (by rw [ly];exact lu) (Int.le_of_lt Bq)
  subst aP
  refine ⟨w,?_,EN xa xb,GW,xc,by omega,iP,lQ⟩
  rw [pre]
  rfl
 ·have ly:V (w.drop j)=V (u.drop j) % W-W:=by rw [ul,← nI];grind
  have aP:y<0:=by
   apply Int.not_le.mp
   intro h
   have:0≤B (n+2)*y:=Int.mul_nonneg (by omega) h
   omega
  obtain ⟨ik,bo,mM,QO,Br,Bs,Gj,Fu⟩:=NB (v:=fB.take (n+2)) (row:=w) (bk:=j) (i7:=u.length-j) (y:=y) aS (by rw [kY];exact xa) (by omega) (by omega) (by omega) (by rw [kY];exact xb) ke uh
  rw [kY] at Br Bs Fu
  rw [hW] at Gj
  have GX:V bo=V u-V (u.drop j) / W*B j*W:=by rw [Gj,xc,← nI];grind
  obtain ⟨Oo,QP,Oq,Ot,Ou⟩:=GS (c:=V (u.drop j) / W*W) (by omega) nK Br Bs (fun i a6=>by rw [Fu i a6,AZ i a6]) h0 (by rw [GX];grind)
  have GY:V (bo.drop j)=V (u.drop j) % W:=by rw [Oo];grind
  have jS:ik=0:=E7 (W:=W) Oq Ot Ou (by rw [GY];exact jQ) (by rw [GY];exact lu) (Int.le_of_lt Bq)
  subst jS
  refine ⟨bo,?_,EN Br Bs,by omega,GX,by omega,iP,lQ⟩
  rw [pre,if_pos (by simpa using aP),mM]
  simp only [Option.bind_eq_bind,Option.bind_some]
  rw [b4 (by omega) (by omega),show g-1=V (u.drop j) / W by omega]
theorem Mm {an fB u:List Int} {n m:Nat} {v1 W:Int} (bb:2≤n) (w9:n≤fB.length) (aS:b3 (fB.take n)) (hW:V (fB.take n)=W) (lX:fB[n-1]? = some v1) (Bp:1≤v1) (hu:b3 u) (pf:u.length≤5000000) (hm:m+n=u.length) (cG:V (u.drop m)<W) :
 ∃r,Af u.length n n an fB ((m:Int)-1) u (List.replicate m 0)=some r∧b3 r.1∧r.1.length=u.length∧V r.1<W∧b3 r.2∧r.2.length=m∧V u=V r.2*W+V r.1:=by
 refine fN (cQ:=fun w:Int×List Int×List Int=> ∃(k:Nat) (q:List Int),w.1=(k:Int)-1∧k≤m∧b3 w.2.1∧w.2.1.length=u.length∧w.2.2=List.replicate k 0++q∧q.length+k=m∧b3 q∧V (w.2.1.drop k)<W∧V u=V w.2.1+B k*V q*W) (m:=fun w:Int×List Int×List Int=>(w.1+1).toNat) _ ?_ _ ⟨m,[],rfl,by omega,hu,rfl,by simp,by simp,b3.nil,cG,by simp [V]⟩
 rintro ⟨PT,k7,b6⟩ ⟨k,q,h1,bl,j9,hlen,ai,aU,mS,Bt,hV⟩
 simp only at h1 j9 hlen ai Bt hV ⊢
 subst h1 ai
 cases k with
 | zero =>
  refine .inr ⟨(k7,q),by simp [n8],j9,hlen,by simpa using Bt,mS,by simpa using aU,?_⟩
  rw [hV]
  simp [B]
  omega
 | succ k =>
  obtain ⟨Rn,he,s1,s2,pk,PW,PX,PY⟩:=Ml (an:=an) (fB:=fB) (u:=k7) (b6:=List.replicate (k+1) 0++q) (j:=k) bb w9 aS hW lX Bp j9 (by omega) (by omega) Bt (by simp;omega)
  rw [hlen] at he
  rw [show ((k+1:Nat):Int)-1=k by omega,he]
  refine .inl ⟨_,rfl,⟨k,V (k7.drop k) / W::q,rfl,by omega,s1,s2.trans hlen,AQ _ _ _,by simp;omega,b3.cons ⟨PX,PY⟩ mS,PW,?_⟩,by simp only;omega⟩
  simp only
  rw [hV,pk,ib,j3]
  grind
theorem MW {a:List Int} (h:a.length≤900000):sX a=some a:=by
 unfold sX
 rw [if_pos (by omega)]
theorem LH {a b q s:Int} (h:a=q*b+s) (h0:0≤s) (h1:s<b):a / b=q∧a % b=s:=by
 subst h
 constructor
 ·rw [Int.add_comm,Int.add_mul_ediv_right _ _ (by omega),Int.ediv_eq_zero_of_lt h0 h1]
  omega
 ·rw [Int.add_comm,Int.add_mul_emod_self_right]
  exact Int.emod_eq_of_lt h0 h1
theorem Nc {a b:List Int} (bL:da a) (aW:da b) (h3:b≠[]) (bb:a.length≤900000) (hm:b.length≤900000):sM a b=some (L (V a / V b),L (V a % V b)):=by
 have nG:=lJ aW h3
 have GZ:=hQ bL.1
 unfold sM
 simp only [gV]
 rw [vw bL aW (by omega)]
 simp only [Option.bind_eq_bind,Option.bind_some]
 by_cases a3:V a<V b
 ·rw [if_pos (by simpa using vS.2 a3),MW bb,Int.ediv_eq_zero_of_lt GZ a3,Int.emod_eq_of_lt GZ a3,oL,mO bL]
  rfl
 ·rw [if_neg (fun h=>a3 (vS.1 (by simpa using h)))]
  obtain ⟨k,d,bl,a9,lp,lv,nH⟩:=vY aW h3
  by_cases h1:b.length=1
  ·have mN:k=0:=by omega
   subst mN
   have B1:V b=d:=by simpa using nH
   rw [if_pos (by simp [h1]),if_pos (by omega),a9]
   simp only [Option.bind_some]
   have lu:=Int.emod_nonneg (V a) (b:=d) (by omega)
   have uj:=Int.emod_lt_of_pos (V a) lp
   rw [DT bL.1 ⟨lp,lv⟩ (by omega)]
   simp only [Option.bind_some]
   rw [F1 lu (by omega),Es lu (by omega),B1]
   rfl
  ·have hw:ab ((b.length:Int)-1)=(k:Int):=by rw [b4 (by omega) (by omega)];omega
   have e1:ab (d+1)=d+1:=b4 (by omega) (by omega)
   have rq:1≤1000000000 / (d+1):=by
    apply (Int.le_ediv_iff_mul_le (by omega)).2
    omega
   have uq:1000000000 / (d+1)<1000000000:=by
    apply Int.ediv_lt_of_lt_mul (by omega)
    omega
   have Pp:1000000000 / (d+1)*(d+1)≤1000000000:=Int.ediv_mul_le _ (by omega)
   have az:ab ((1000000000:Int).tdiv (d+1))=1000000000 / (d+1):=by rw [k9 (by omega),b4 (by omega) (by omega)]
   rw [if_neg (by simp;omega),hw,if_pos (by omega),Int.toNat_natCast,a9]
   simp only [Option.bind_some,e1,az]
   generalize 1000000000 / (d+1)=f at *
   rw [if_pos (by omega)]
   have gK:b3 [f]:=b3.cons (by omega) b3.nil
   have Pq:V [f]=f:=by simp [V]
   have Pr:a≠[]:=by
    intro h
    subst h
    simp [V] at a3
    omega
   obtain ⟨iC,pu,Ps,Ro,Pt,xd,Rp⟩:=Er bL.1 gK Pr (by simp) (by omega) (by simp)
   obtain ⟨uI,fB,Pu,Rq,Pv,B9,Rr⟩:=Er aW.1 gK h3 (by simp) (by omega) (by simp)
   rw [Pq] at xd B9
   rw [Ps]
   simp only [Option.bind_some]
   simp only [List.length_singleton] at Pt Pv
   have Rs:=mg k
   have Pw:V b*f<B b.length:=by
    have R:=(l8 aW.1 (k:=k) (by omega)).2
    rw [nH] at R
    have ai:V b*f≤(B k*(d+1)-1)*f:=Int.mul_le_mul_of_nonneg_right (by omega) (by omega)
    have ax:(B k*(d+1)-1)*f=B k*(f*(d+1))-f:=by grind
    have aM:B k*(f*(d+1))≤B k*1000000000:=Int.mul_le_mul_of_nonneg_left Pp (by omega)
    rw [bl,j3]
    omega
   have Rt:V b≤V b*f:=by
    have:V b*1≤V b*f:=Int.mul_le_mul_of_nonneg_left rq (by omega)
    omega
   have Ru:V a≤V a*f:=by
    have:V a*1≤V a*f:=Int.mul_le_mul_of_nonneg_left rq (by omega)
    omega
   have Ca:0≤V b*f:=by omega
   have G0:0≤V a*f:=by omega
   have G1:uI=b.length:=by
    have R:(fB.take uI).length=uI:=by simp;omega
    rw [B9] at R
    have ai:=(iN Ca (k:=b.length)).2 Pw
    have ax:=wE aW h3
    have aM : ¬(L (V b*f)).length≤b.length-1:=fun h=>by
     have:=(iN Ca).1 h
     omega
    omega
   have Px:(L (V a*f)).length=iC:=by rw [← xd];simp;omega
   have Gk:=jO (mh (V a*f))
   rw [e8 G0,Px] at Gk
   have QQ:a.length≤iC:=bL.len.2 (by omega)
   have Rv:b.length≤a.length:=Nat.le_of_not_lt fun h=>by
    have:=vQ bL aW h
    omega
   rw [if_pos (by omega),if_pos (by simp;omega),Pu]
   simp only [Option.bind_some]
   have pf:(pu.take iC++[0]).length=iC+1:=by simp;omega
   have ur:vn a uI [f] fB (pu.take iC++[0])=some (pu.take iC++[0]):=by
    unfold vn
    rw [iter]
    unfold u1
    simp only [gV,pf]
    rw [if_neg (by simp;omega)]
    rfl
   rw [ur]
   simp only [Option.bind_some,pf]
   have k1:ab (((iC+1:Nat):Int)-((uI:Nat):Int))=((iC+1-b.length:Nat):Int):=by rw [b4 (by omega) (by omega)];omega
   rw [k1,if_pos (by omega),lm (by omega),Int.toNat_natCast]
   have F3:b3 (pu.take iC++[0]):=by
    rw [xd]
    exact (mh _).append (b3.cons (by omega) b3.nil)
   have G2:V (pu.take iC++[0])=V a*f:=by
    rw [qC,xd,e8 G0]
    simp [V]
   have A0:fB.take b.length=L (V b*f):=by rw [← G1];exact B9
   have Py:V (fB.take b.length)=V b*f:=by rw [A0,e8 Ca]
   obtain ⟨ck,PZ,o3,oY,QR,QS,QT⟩:=vY (hU (V b*f)) (fun h=>by have:=A6.1 h;omega)
   rw [← A0] at o3 oY
   have kY:(fB.take b.length).length=b.length:=by simp;omega
   have tW:fB[b.length-1]? = some PZ:=by
    rw [List.getElem?_take] at oY
    rw [show b.length-1=ck by omega]
    split at oY
    ·exact oY
    ·simp at oY
   have Ov:V ((pu.take iC++[0]).drop (iC+1-b.length))<V b*f:=by
    have R:=(l8 F3 (k:=iC+1-b.length) (by omega)).1
    rw [G2] at R
    have ai:=wE aW h3
    have ax:B iC=B (iC+1-b.length)*B (b.length-1):=by rw [← wm];congr 1;omega
    rw [ax] at Gk
    have aM:B (iC+1-b.length)*V ((pu.take iC++[0]).drop (iC+1-b.length))<B (iC+1-b.length)*B (b.length-1):=by omega
    have:=Int.lt_of_mul_lt_mul_left aM (by have:=mg (iC+1-b.length);omega)
    omega
   obtain ⟨r,ao,r1,bj,bY,bg,aZ,ec⟩:=Mm (an:=[f]) (m:=iC+1-b.length) (by omega) (by omega) (by rw [A0];exact mh _) Py tW (by omega) F3 (by omega) (by omega) Ov
   rw [pf] at ao bj
   rw [G1,ao]
   simp only [Option.bind_some]
   rw [if_pos (by omega),List.drop_zero,List.take_of_length_le (by omega),AP r1 (by omega)]
   simp only [Option.bind_some]
   have ui:=hQ r1
   rw [G2] at ec
   have cB:V r.1=(V a-V r.2*V b)*f:=by grind
   have us:0≤V a-V r.2*V b:=by
    apply Int.not_lt.mp
    intro h
    have:(V a-V r.2*V b)*f≤(-1)*f:=Int.mul_le_mul_of_nonneg_right (by omega) (by omega)
    omega
   have ul:V a-V r.2*V b<V b:=by
    apply Int.lt_of_mul_lt_mul_right (a:=f) _ (by omega)
    omega
   obtain ⟨q1,gF⟩:=LH (a:=V a) (b:=V b) (q:=V r.2) (s:=V a-V r.2*V b) (by omega) us ul
   rw [if_pos (by simp)]
   simp only [List.getElem?_cons_zero,Option.bind_some]
   have Rw:(L (V r.1)).length≤iC+1:=(iN ui).2 (by have:=jO r1;rwa [bj] at this)
   rw [DT (mh _) ⟨by omega,uq⟩ (by omega),e8 ui]
   simp only [Option.bind_some]
   rw [AP bg (by omega)]
   simp only [Option.bind_some]
   rw [q1,gF,cB,Int.mul_ediv_cancel _ (by omega)]
theorem LI {a b:List Int} (bL:da a) (aW:da b) (bb:a.length≤900000) (hm:b.length≤900000):sj a b=some (L (Int.gcd (V a) (V b))):=by
 have : ∃r,iter (fun w:List Int×List Int=>pR w.1 w.2) (a,b)=some r∧r=L (Int.gcd (V a) (V b)):=by
  refine fN (cQ:=fun w:List Int×List Int=>da w.1∧da w.2∧w.1.length≤900000∧w.2.length≤900000∧Int.gcd (V w.1) (V w.2)=Int.gcd (V a) (V b)) (m:=fun w:List Int×List Int=>(V w.2).toNat) _ ?_ _ ⟨bL,aW,bb,hm,rfl⟩
  rintro ⟨x,y⟩ ⟨h1,R,ai,ax,aM⟩
  simp only at h1 R ai ax aM ⊢
  have fL:=hQ h1.1
  have ke:=hQ R.1
  by_cases aP:y=[]
  ·subst aP
   refine .inr ⟨x,by simp [pR,gV],?_⟩
   rw [← aM,ti,AS fL]
   exact (mO h1).symm
  ·have B2:=lJ R aP
   have Pf:=List.length_pos_iff.mpr aP
   have pe:=Int.emod_nonneg (V x) (b:=V y) (by omega)
   have Pg:=Int.emod_lt_of_pos (V x) B2
   refine .inl ⟨(y,L (V x % V y)),?_,⟨R,hU _,ax,(iN pe).2 ?_,?_⟩,?_⟩
   ·unfold pR
    simp only [gV]
    rw [if_pos (by simp;omega),Nc h1 R aP ai ax]
    rfl
   ·have:=jO R.1
    have:=qM ax
    omega
   ·simp only
    rw [e8 pe,← aM]
    exact AG fL
   ·simp only
    rw [e8 pe]
    omega
 obtain ⟨r,ao,rfl⟩:=this
 unfold sj zP
 rw [ao]
 rfl
def ml (n:Int):hi:=⟨decide (n<0),L n.natAbs⟩
def ey (neg:Bool) (a:Int):Int:=if neg then -a else a
def mk (p:Int×Int):cD:=⟨ml p.1,L p.2⟩
def uu (p:Int×Int):et:=⟨ml p.1,L p.2⟩
def wG (x:Option (Int×Int)):Option et:=x.map uu
structure Fr (p:Int×Int):Prop where
 pos:0<p.2
 G3:Int.gcd p.1 p.2=1
 num:(p.1.natAbs:Int)<B 24
 den:p.2<B 24
theorem AH {n:Int}:(ml n).cn=L n.natAbs:=rfl
theorem E8 {n:Int}:(ml n).fo=decide (n<0):=rfl
theorem A1 {neg:Bool} {a:Int} (h:0≤a):((ey neg a).natAbs:Int)=a:=by
 unfold ey
 cases neg<;>simp<;>omega
def fits (x:Int):Prop:=x<B 24
noncomputable instance (x:Int):Decidable (fits x):=Classical.propDecidable _
noncomputable def low (n d:Int):Option (Int×Int) :=
 if fits ((n / (Int.gcd n d:Int)).natAbs:Int)∧fits (d / (Int.gcd n d:Int)) then some (n / (Int.gcd n d:Int),d / (Int.gcd n d:Int)) else none
theorem Nd {n d:Int} (h:0<d):(0:Int)<Int.gcd n d:=by
 have:Int.gcd n d≠0:=by
  rw [Ne,Int.gcd_eq_zero_iff]
  omega
 omega
theorem v5 {a:Int} (h:0≤a):qn (L a)=some (decide (a=1)):=by
 unfold qn
 simp only [gV]
 by_cases h1:(L a).length=1
 ·have R:=(iN (k:=1) h).1 (by omega)
  have ai:0<a:=by
   apply Int.not_le.mp
   intro ax
   rw [F0 ax] at h1
   simp at h1
  have aM:a<1000000000:=by simpa [B] using R
  rw [AO ⟨ai,aM⟩]
  by_cases ba:a=1<;>simp [ba]
 ·rw [if_neg (by simp;omega)]
  have:a≠1:=by
   rintro rfl
   rw [AO (by omega)] at h1
   simp at h1
  simp [this]
theorem Nf {n d:Int} (h:0≤d):Int.gcd (n.natAbs:Int) d=Int.gcd n d:=by
 simp [Int.gcd]
theorem NV {neg:Bool} {a:Int} (h:0≤a) (R:neg=true→0<a):decide (ey neg a<0)=neg:=by
 unfold ey
 cases neg
 ·simp;omega
 ·have:=R rfl
  simp;omega
theorem Fv {neg:Bool} {l:List Int} (aK:da l) (R:neg=true→l≠[]):(⟨neg,l⟩:hi)=ml (ey neg (V l)):=by
 have h:=hQ aK.1
 unfold ml
 rw [A1 h,mO aK,NV h (fun bb=>lJ aK (R bb))]
theorem DP {x:hi} (hm:(x.cn.length:Int)<9223372036854775807) : ∃ok,og x=some ok∧r8 x=some ok∧(ok=true↔ ∃n,x=ml n∧(L n.natAbs).length≤60):=by
 obtain ⟨I,h1,R,ai⟩:=Et hm
 unfold og r8
 rw [h1,R]
 simp only [Option.bind_eq_bind,Option.bind_some,gV]
 obtain ⟨neg,uv⟩:=x
 simp only at ai ⊢
 have ln:decide ((0:Int)<(uv.length:Nat)) = !((((uv.length:Nat):Int) == 0)):=by
  by_cases h:uv=[]
  ·subst h;rfl
  ·have:=List.length_pos_iff.mpr h
   rw [decide_eq_true (by omega)]
   symm
   simp
   omega
 by_cases ag:I=true
 ·obtain ⟨ax,aM⟩:=ai.1 ag
  subst ag
  cases neg
  ·refine ⟨true,rfl,rfl,?_⟩
   simp only [true_iff]
   refine ⟨_,Fv ax (fun h=>by simp at h),?_⟩
   rw [A1 (hQ ax.1),mO ax]
   exact aM
  ·refine ⟨decide ((0:Int)<(uv.length:Nat)),rfl,by rw [ln];rfl,?_⟩
   rw [decide_eq_true_iff]
   constructor
   ·intro ak
    refine ⟨_,Fv ax (fun _ h=>by subst h;simp at ak),?_⟩
    rw [A1 (hQ ax.1),mO ax]
    exact aM
   ·rintro ⟨n,bb,-⟩
    have e1:=congrArg hi.fo bb
    have az:=congrArg hi.cn bb
    simp only [E8,AH] at e1 az
    have bp:n<0:=by simpa using e1.symm
    have:uv≠[]:=by
     rw [az]
     intro h
     have:=A6.1 h
     omega
    have:=List.length_pos_iff.mpr this
    omega
 ·refine ⟨false,by simp [ag],by simp [ag],?_⟩
  simp only [Bool.false_eq_true,false_iff]
  rintro ⟨n,bb,mT⟩
  have az:=congrArg hi.cn bb
  simp only [AH] at az
  exact ag (ai.2 (az▸⟨hU _,mT⟩))
theorem LJ {r:cD} (hm:r.ch.cn.length≤2000000) (a9:r.cv.length≤2000000) : ∃ok,mx r=some ok∧sE r=some ok∧(ok=true↔ ∃p,Fr p∧r=mk p):=by
 obtain ⟨bz,fb,hd,cw⟩:=DP (x:=r.ch) (by omega)
 obtain ⟨aO,iY,jD,nR⟩:=Et (a:=r.cv) (by omega)
 unfold mx sE
 rw [fb,hd]
 simp only [Option.bind_eq_bind,Option.bind_some,gV]
 by_cases h1:bz=true
 ·rw [if_pos h1,if_pos h1,iY,jD]
  simp only [Option.bind_some]
  by_cases R:aO=true
  ·rw [if_pos R,if_pos R]
   obtain ⟨n,bb,QU⟩:=cw.1 h1
   obtain ⟨lv,QV⟩:=nR.1 R
   have nH:=hQ lv.1
   have G4:r.cv=L (V r.cv):=(mO lv).symm
   have w9:r.ch.cn=L n.natAbs:=by rw [bb];rfl
   by_cases ai:r.cv=[]
   ·rw [if_pos (by simp [ai]),if_pos (by simp [ai])]
    refine ⟨false,rfl,rfl,?_⟩
    simp only [Bool.false_eq_true,false_iff]
    rintro ⟨p,ak,ao⟩
    have e:r.cv=L p.2:=by rw [ao];rfl
    rw [ai] at e
    have:=A6.1 e.symm
    have:=ak.pos
    omega
   ·have Cb:=lJ lv ai
    have Rx:=List.length_pos_iff.mpr ai
    have lp : ¬((((r.cv.length:Nat):Int) == 0)=true):=by simp [ai]
    rw [if_neg lp,if_neg lp]
    by_cases ax:24<r.cv.length
    ·rw [if_pos (by simp;omega)]
     have jw : ¬∃p,Fr p∧r=mk p:=by
      rintro ⟨p,ak,ao⟩
      have e:r.cv=L p.2:=by rw [ao];rfl
      have:=(iN (k:=24) (by have:=ak.pos;omega)).2 ak.den
      rw [← e] at this
      omega
     refine ⟨false,rfl,?_,by simp [jw]⟩
     by_cases aM:24<r.ch.cn.length
     ·rw [if_pos (by simp;omega)]
     ·rw [if_neg (by simp;omega),if_pos (by simp;omega)]
    ·rw [if_neg (by simp;omega)]
     by_cases aM:24<r.ch.cn.length
     ·rw [if_pos (by simp;omega),if_pos (by simp;omega)]
      refine ⟨false,rfl,rfl,?_⟩
      simp only [Bool.false_eq_true,false_iff]
      rintro ⟨p,ak,ao⟩
      have e:r.ch.cn=L p.1.natAbs:=by rw [ao];rfl
      have:=(iN (k:=24) (by omega)).2 ak.num
      rw [← e] at this
      omega
     ·rw [if_neg (by simp;omega),if_neg (by simp;omega),if_neg (by simp;omega)]
      rw [w9] at aM ⊢
      rw [Nz (hU _) lv (by omega) (by omega),LI (hU _) lv (by omega) (by omega),e8 (by omega),Nf nH]
      simp only [Option.bind_some]
      have d5:=Nd (n:=n) Cb
      have Pz:da [1]:=da.one (by omega)
      have PA:(L (Int.gcd n (V r.cv))).length≤5000000:=by
       have a5:(Int.gcd n (V r.cv):Int)≤V r.cv:=Int.le_of_dvd Cb (Int.gcd_dvd_right ..)
       have:=(iN (k:=24) (by omega)).2 (show (Int.gcd n (V r.cv):Int)<B 24 by
        have:=(lv.len (k:=24)).1 (by omega)
        omega)
       omega
      rw [v5 (by omega),vw (hU _) Pz PA,e8 (by omega)]
      have lX:V [1]=1:=by decide
      rw [lX]
      simp only [Option.bind_some]
      refine ⟨decide ((Int.gcd n (V r.cv):Int)=1),rfl,?_,?_⟩
      ·congr 1
       rw [Bool.eq_iff_iff]
       simp [At]
      ·rw [decide_eq_true_iff]
       constructor
       ·intro hu
        refine ⟨(n,V r.cv),⟨Cb,by simp only;omega,(iN (by omega)).1 (by simp only;omega),(lv.len).1 (by omega)⟩,?_⟩
        obtain ⟨num,den⟩:=r
        simp only at bb G4 ⊢
        unfold mk
        simp only
        rw [← G4,← bb]
       ·rintro ⟨p,ak,ao⟩
        have e:r.cv=L p.2:=by rw [ao];rfl
        have az:r.ch=ml p.1:=by rw [ao];rfl
        have bp:V r.cv=p.2:=by rw [e,e8 (by have:=ak.pos;omega)]
        have cI:n=p.1:=by
         rw [bb] at az
         have f1:=congrArg hi.fo az
         have f2:=congrArg hi.cn az
         simp only [E8,AH] at f1 f2
         have f3:=congrArg V f2
         rw [e8 (by omega),e8 (by omega)] at f3
         have f4:n<0↔p.1<0:=by
          constructor
          ·intro h;simpa [h] using f1.symm
          ·intro h;simpa [h] using f1
         omega
        rw [bp,cI,ak.G3]
        rfl
  ·refine ⟨false,by simp [R],by simp [R],?_⟩
   simp only [Bool.false_eq_true,false_iff]
   rintro ⟨p,ak,ao⟩
   have e:r.cv=L p.2:=by rw [ao];rfl
   have:=(iN (k:=24) (by have:=ak.pos;omega)).2 ak.den
   exact R (nR.2 (e▸⟨hU _,by omega⟩))
 ·refine ⟨false,by simp [h1],by simp [h1],?_⟩
  simp only [Bool.false_eq_true,false_iff]
  rintro ⟨p,ak,ao⟩
  have az:r.ch=ml p.1:=by rw [ao];rfl
  have:=(iN (k:=24) (n:=p.1.natAbs) (by omega)).2 ak.num
  exact h1 (cw.2 ⟨p.1,az,by omega⟩)
theorem Fr.Gl {p:Int×Int} (h:Fr p):(L p.1.natAbs).length≤24:=(iN (by omega)).2 h.num
theorem Fr.Gm {p:Int×Int} (h:Fr p):(L p.2).length≤24:=(iN (by have:=h.pos;omega)).2 h.den
theorem Ng {r:cD} (hm:r.ch.cn.length≤2000000) (a9:r.cv.length≤2000000):(∃p,Fr p∧r=mk p∧mx r=some true∧my r=some (some (uu p)))∨(mx r=some false∧my r=some none):=by
 obtain ⟨I,h1,R,ai⟩:=LJ hm a9
 cases I with
 | false =>
  refine .inr ⟨h1,?_⟩
  unfold my
  rw [R]
  rfl
 | true =>
  obtain ⟨p,ak,ao⟩:=ai.1 rfl
  refine .inl ⟨p,ak,ao,h1,?_⟩
  unfold my
  rw [R]
  subst ao
  rfl
theorem NW:L 1=[1]:=AO (by omega)
theorem sS (n bk a6:Int):kA n bk a6=some (decide (bk≤n∧n≤a6)):=by
 unfold kA
 by_cases h:bk≤n<;>simp [h]
theorem vC {α β:Type} {t:Nat→α→Option β} : ∀(l:List α) (k:Nat),(∀n x,l[n]? = some x→t (k+n) x=none)→scan t k l=none
 | [],_,_=>rfl
 | x::l,k,h=>by
  have h0:=h 0 x rfl
  simp only [Nat.add_zero] at h0
  simp only [scan,h0]
  exact vC l (k+1) fun n y aP=>by rw [show k+1+n=k+(n+1) by omega];exact h (n+1) y (by simpa using aP)
theorem D6 (l:List Int) (h:l.length≤1048576):qs l l=some true:=by
 have h1:z4 l l 0=some (.inl ()):=by
  have:=vB (f:=fun w=>pX l l w) (t:=fun _ _=>none) (e:= .inl ()) l 0 (fun n x ad=>by
   have bb:=dt ad
   have hw:ab ((n:Int)+1)=((n+1:Nat):Int):=by rw [b4 (by omega) (by omega)];rfl
   simp only [pX,dw,Nat.zero_add,hw]
   simp [bb]) (by simp [pX,dw])
  rw [vC l 0 (fun _ _ _=>rfl)] at this
  exact this
 simp [qs,h1]
theorem KX (j:aB):sk j j=some true:=by simp [sk]
theorem KH (j:aN):sa j j=some true:=by simp [sa]
theorem KI (l:List aB) (h:l.length≤1048576):r9 l l=some true:=by
 have h1:zG l l 0=some (.inl ()):=by
  have:=vB (f:=fun w=>pN l l w) (t:=fun _ _=>none) (e:= .inl ()) l 0 (fun n x ad=>by
   have bb:=dt ad
   have hw:ab ((n:Int)+1)=((n+1:Nat):Int):=by rw [b4 (by omega) (by omega)];rfl
   simp only [pN,dw,Nat.zero_add,hw]
   simp [bb,KX]) (by simp [pN,dw])
  rw [vC l 0 (fun _ _ _=>rfl)] at this
  exact this
 simp [r9,h1]
theorem Kr (l:List aN) (h:l.length≤1048576):rY l l=some true:=by
 have h1:zt l l 0=some (.inl ()):=by
  have:=vB (f:=fun w=>pG l l w) (t:=fun _ _=>none) (e:= .inl ()) l 0 (fun n x ad=>by
   have bb:=dt ad
   have hw:ab ((n:Int)+1)=((n+1:Nat):Int):=by rw [b4 (by omega) (by omega)];rfl
   simp only [pG,dw,Nat.zero_add,hw]
   simp [bb,KH]) (by simp [pG,dw])
  rw [vC l 0 (fun _ _ _=>rfl)] at this
  exact this
 simp [rY,h1]
theorem u5 (s:cX) (h1:s.bs.length≤1048576) (R:s.bZ.length≤1048576):kM s s=some true:=by
 simp [kM,KI _ h1,Kr _ R]
theorem KY (j:aB) (left:Int) (aL:j.cu.size≤maxLen) (h0:0≤left) (h1:left≤1048576) : ∃r,sd j left=some r∧r≤left:=by
 have hm:j.cu.size<9223372036854775808:=by have:maxLen=9223372036854775807:=by decide
                                           omega
 have hw:ab (left-j.cu.size)=left-j.cu.size:=b4 (by omega) (by omega)
 unfold sd
 rw [hw]
 by_cases h:left-(j.cu.size:Int)<0
 ·exact ⟨-1,by simp [h],by omega⟩
 ·exact ⟨left-j.cu.size,by simp [h],by omega⟩
theorem DQ (l:List aB) (left:Int) (aK:l.length≤maxLen) (aL : ∀j∈l,j.cu.size≤maxLen) (h0:0≤left) (h1:left≤1048576) :
 ∃r,r2 l left=some r∧r≤left∧(0≤r→l.length≤1048576):=by
 have hm:maxLen=9223372036854775807:=by decide
 have hw:ab (left-(l.length:Nat))=left-(l.length:Nat):=b4 (by omega) (by omega)
 unfold r2
 simp only [dw,hw]
 by_cases h:left-(l.length:Int)<0
 ·exact ⟨-1,by simp [h],by omega,by omega⟩
 ·obtain ⟨r,r1,bj⟩:=fN (f:=fun w:Int×Int=>nW l w.1 w.2) (fun w=>0≤w.1∧w.1≤left∧0≤w.2∧w.2≤l.length) (fun w=>(l.length-w.2).toNat)
   (fun r=>match r with | .inl a=>a≤left | .inr _=>True) (fun w hw=>by
     obtain ⟨a,i⟩:=w
     simp only at hw
     obtain ⟨jm,jG,kL,rz⟩:=hw
     by_cases a6:i<l.length
     ·obtain ⟨x,ad⟩ : ∃x,l[i.toNat]? = some x:=⟨_,List.getElem?_eq_getElem (by omega)⟩
      obtain ⟨r,s1,s2⟩:=KY x a (aL x (List.mem_of_getElem? ad)) jm (by omega)
      obtain ⟨bb,rfl⟩:=List.getElem?_eq_some_iff.1 ad
      have BS:ab (i+1)=i+1:=b4 (by omega) (by omega)
      by_cases ao:r<0
      ·right
       exact ⟨.inr (),by simp [nW,dw,a6,kL,ad,s1,ao],trivial⟩
      ·left
       refine ⟨(r,i+1),by simp [nW,dw,a6,kL,ad,s1,ao,BS],?_,?_⟩
       ·simp only;omega
       ·simp only;omega
     ·right
      exact ⟨.inl a,by simp [nW,dw,a6],by simpa using jG⟩) (left-(l.length:Nat),0) (by simp only;omega)
  have PB:zu l (left-(l.length:Nat)) 0=some r:=r1
  rw [PB]
  cases r with
  | inl a=>exact ⟨a,by simp [h],bj,by omega⟩
  | inr a=>exact ⟨-1,by simp [h],by omega,by omega⟩
theorem DK (l:List aN) (left:Int) (aK:l.length≤maxLen) (h0:0≤left) (h1:left≤1048576) :
 ∃r,rW l left=some r∧r≤left∧(0≤r→l.length≤1048576):=by
 have hm:maxLen=9223372036854775807:=by decide
 have hw:ab (left-(l.length:Nat))=left-(l.length:Nat):=b4 (by omega) (by omega)
 unfold rW
 simp only [dw,hw]
 by_cases h:left-(l.length:Int)<0
 ·exact ⟨-1,by simp [h],by omega,by omega⟩
 ·exact ⟨left-(l.length:Nat),by simp [h],by omega,by omega⟩
theorem JS (s:cX) (i0:l7 s) (left:Int) (h0:0≤left) (h1:left≤1048576) :
 ∃r,oa s left=some r∧(0≤r→s.bs.length≤1048576∧s.bZ.length≤1048576):=by
 obtain ⟨⟨fb,hd⟩,cw,ei⟩:=i0
 obtain ⟨r,r1,bj,bY⟩:=DQ s.bs left fb (fun j aL=>(hd j aL).1) h0 h1
 unfold oa
 rw [r1]
 by_cases h:r<0
 ·exact ⟨-1,by simp [h],by omega⟩
 ·obtain ⟨q,q1,gF,lY⟩:=DK s.bZ r cw (by omega) (by omega)
  by_cases aU:q<0
  ·exact ⟨-1,by simp [h,q1,aU],by omega⟩
  ·exact ⟨q,by simp [h,q1,aU],fun _=>⟨bY (by omega),lY (by omega)⟩⟩
theorem qx:maxLen=9223372036854775807:=by decide
theorem LK (n:Int):qh n=kA n (-50) 50:=by
 rw [sS]
 unfold qh
 by_cases h : -50≤n<;>simp [h]
theorem Ld (c:Int):r7 c=some (decide (97≤c∧c≤122)):=by
 unfold r7
 by_cases h:97≤c<;>simp [h]
theorem LL (c:Int):sf c=some (decide (48≤c∧c≤57)):=by
 unfold sf
 by_cases h:48≤c<;>simp [h]
theorem Le (s:ByteArray) (i:Int):rN s s.size i=m3 s i:=by
 unfold rN m3
 generalize ((s.data.toList.getD i.toNat 0).toNat:Int)=c
 simp only [Ld,LL,Option.bind_eq_bind,Option.bind_some]
 by_cases h1:i<(s.size:Int)<;>by_cases h0:0≤i<;>by_cases a:(97:Int)≤c<;>by_cases b:c≤122<;>by_cases d:i=0<;>by_cases e:c<48<;>by_cases f:57<c <;>
  simp [h1,h0,a,b,d,e,f,Int.not_lt.1,Int.not_le]<;>omega
theorem Mn (s:ByteArray):su s=om s:=by
 have h:vd s s.size 0=rX s 0:=by
  unfold vd rX
  congr 1
  funext w
  exact Le s w
 unfold su om
 rw [h]
 congr 1
 funext r
 cases r with
 | inr a=>rfl
 | inl a =>
  simp only [sS,Option.bind_eq_bind,Option.bind_some]
  by_cases h0:s.size=0
  ·have:s=⟨#[]⟩:=by
    cases s with
    | mk d=>simp only [ByteArray.size] at h0;rw [Array.size_eq_zero_iff] at h0;rw [h0]
   subst this
   have e0:(ByteArray.mk #[]).size=0:=rfl
   simp [e0]
  ·have dN:s.toList≠(⟨#[]⟩:ByteArray).toList:=by
    intro e
    have aK : ∀x:ByteArray,x.toList.length=x.size:=by intro x;rw [ByteArray.toList_eq];rfl
    have:=aK s
    rw [e,aK] at this
    exact h0 this.symm
   simp only [beq_iff_eq,dN,Bool.not_eq_true',beq_eq_false_iff_ne,ne_eq,not_false_eq_true,if_true]
   congr 1
   apply decide_eq_decide.2
   omega
theorem Lf (s:ByteArray) (cB:s.size≤maxLen) : ∃r,om s=some r:=by
 have hm:=qx
 obtain ⟨r,h,-⟩:=fN (f:=fun w=>m3 s w) (fun i=>0≤i∧i≤s.size) (fun i=>(s.size-i).toNat) (fun _=>True) (fun i a6=>by
  obtain ⟨h0,h1⟩:=a6
  by_cases R:i<(s.size:Int)
  ·have hw:ab (i+1)=i+1:=b4 (by omega) (by omega)
   unfold m3
   generalize ((s.data.toList.getD i.toNat 0).toNat:Int)=c
   have NX:0≤i+1∧i+1≤(s.size:Int):=by omega
   have k1:((s.size:Int)-(i+1)).toNat<((s.size:Int)-i).toNat:=by omega
   have key : ∀x:Option (Int⊕(Unit⊕Unit)),(x=some (.inl (i+1))∨x=some (.inr (.inr ())))→(∃cE,x=some (.inl cE)∧(0≤cE∧cE≤(s.size:Int))∧((s.size:Int)-cE).toNat<((s.size:Int)-i).toNat)∨ ∃r,x=some (.inr r)∧True:=by
    intro x ad
    rcases ad with ad|ad
    ·exact .inl ⟨i+1,ad,NX,k1⟩
    ·exact .inr ⟨_,ad,trivial⟩
   apply key
   simp only [R,h0,hw,decide_true,if_true,and_self]
   by_cases a:(97:Int)≤c<;>by_cases b:c≤122<;>by_cases d:i=0<;>by_cases e:c<48<;>by_cases f:57<c<;>simp [a,b,d,e,f]
  ·exact .inr ⟨.inl (),by simp [m3,R],trivial⟩) 0 (by omega)
 have b9:rX s 0=some r:=h
 unfold om
 rw [b9]
 cases r with
 | inl a=>exact ⟨_,by simp [sS];rfl⟩
 | inr a=>exact ⟨_,rfl⟩
theorem LM (j:aB):sg j=lz j:=by
 unfold sg lz
 simp only [Mn,LK]
theorem DV (j:aB) (h:j.cu.size≤maxLen) : ∃r,lz j=some r:=by
 obtain ⟨r,ao⟩:=Lf _ h
 unfold lz
 simp only [ao,sS,Option.bind_eq_bind,Option.bind_some]
 repeat' split
 all_goals exact ⟨_,rfl⟩
theorem KJ (s:cX) (n:ByteArray):rU s n=oc s n:=by
 have h:uL s.bs n (len_ au s.bs) 0=pZ n s.bs (len_ au s.bs) 0:=by
  unfold uL pZ
  congr 1
 unfold rU oc uM
 rw [h]
 cases pZ n s.bs (len_ au s.bs) 0 with
 | none=>rfl
 | some r=>cases r<;>rfl
theorem DB (s:cX) (n:ByteArray) (h:s.bs.length≤maxLen) : ∃r,oc s n=some r:=by
 have hm:=qx
 obtain ⟨r,h1,-⟩:=fN (f:=fun w=>pC n s.bs (len_ au s.bs) w) (fun i=>0≤i∧i≤s.bs.length) (fun i=>(s.bs.length-i).toNat) (fun _=>True) (fun i a6=>by
  obtain ⟨h0,h1⟩:=a6
  by_cases R:i<(s.bs.length:Int)
  ·have hw:ab (i+1)=i+1:=b4 (by omega) (by omega)
   obtain ⟨x,ad⟩ : ∃x,s.bs[i.toNat]? = some x:=⟨_,List.getElem?_eq_getElem (by omega)⟩
   unfold pC
   simp only [dw,R,h0,hw,ad,decide_true,if_true,and_self,Option.bind_eq_bind,Option.bind_some]
   by_cases e:(x.cu.toList == n.toList)=true
   ·exact .inr ⟨_,by rw [if_pos e],trivial⟩
   ·exact .inl ⟨i+1,by rw [if_neg e],by omega,by omega⟩
  ·exact .inr ⟨.inl (),by simp [pC,dw,R],trivial⟩) 0 (by omega)
 have b9:pZ n s.bs (len_ au s.bs) 0=some r:=h1
 unfold oc
 rw [b9]
 cases r with
 | inl a=>exact ⟨_,rfl⟩
 | inr a=>exact ⟨_,rfl⟩
theorem DC (s:cX):uV s.bs (len_ au s.bs) s.bZ 0=n2 s.bs (len_ au s.bs) s.bZ 0:=by
 unfold uV n2
 congr 1
 funext w
 unfold uN l3
 simp only [LM,KJ]
theorem Dp (s:cX) (i0:l7 s) : ∃r,n2 s.bs (len_ au s.bs) s.bZ 0=some r:=by
 have hm:=qx
 obtain ⟨⟨fb,hd⟩,-⟩:=i0
 obtain ⟨r,h1,-⟩:=fN (f:=fun w=>l3 s.bs (len_ au s.bs) s.bZ w) (fun i=>0≤i∧i≤s.bs.length) (fun i=>(s.bs.length-i).toNat) (fun _=>True) (fun i a6=>by
  obtain ⟨h0,h1⟩:=a6
  by_cases R:i<(s.bs.length:Int)
  ·have hw:ab (i+1)=i+1:=b4 (by omega) (by omega)
   obtain ⟨x,ad⟩ : ∃x,s.bs[i.toNat]? = some x:=⟨_,List.getElem?_eq_getElem (by omega)⟩
   obtain ⟨p,ak⟩:=DV x (hd x (List.mem_of_getElem? ad)).1
   obtain ⟨q,aU⟩:=DB ⟨s.bs,s.bZ⟩ x.cu fb
   unfold l3
   simp only [dw,R,h0,hw,ad,ak,aU,decide_true,if_true,and_self,Option.bind_eq_bind,Option.bind_some]
   by_cases e:p=true
   ·rw [if_pos e]
    by_cases az:(q != i)=true
    ·exact .inr ⟨_,by rw [if_pos az],trivial⟩
    ·exact .inl ⟨i+1,by rw [if_neg az],by omega,by omega⟩
   ·exact .inr ⟨_,by rw [if_neg e],trivial⟩
  ·exact .inr ⟨.inl (),by simp [l3,dw,R],trivial⟩) 0 (by omega)
 exact ⟨r,h1⟩
def mC (cA:List aB) (m:aN):Bool :=
 decide (0≤m.dg∧m.dg<cA.length∧0≤m.c0∧m.c0<cA.length∧1≤m.dq∧m.dq≤3) &&
 match cA[m.dg.toNat]?,cA[m.c0.toNat]? with
 | some a,some b=> !(a.c5 == b.c5 && a.cJ == b.cJ) && !(a.cf && b.cf)
 | _,_=>false
theorem Ak (s:cX) (m:aN):rG s m=some (mC s.bs m):=by
 unfold rG mC
 simp only [dw]
 by_cases h1:m.dg<0
 ·simp [h1];omega
 by_cases R:(s.bs.length:Int)≤m.dg
 ·simp [h1,R];omega
 by_cases ai:m.c0<0
 ·simp [h1,R,ai];omega
 by_cases ax:(s.bs.length:Int)≤m.c0
 ·simp [h1,R,ai,ax];omega
 by_cases aM:m.dq<1
 ·simp [h1,R,ai,ax,aM];omega
 by_cases ba:3<m.dq
 ·simp [h1,R,ai,ax,aM,ba];omega
 obtain ⟨x,ad⟩ : ∃x,s.bs[m.dg.toNat]? = some x:=⟨_,List.getElem?_eq_getElem (by omega)⟩
 obtain ⟨y,aP⟩ : ∃y,s.bs[m.c0.toNat]? = some y:=⟨_,List.getElem?_eq_getElem (by omega)⟩
 have bI:0≤m.dg∧m.dg<s.bs.length:=by omega
 have fX:0≤m.c0∧m.c0<s.bs.length:=by omega
 have kh:0≤m.dg∧m.dg<s.bs.length∧0≤m.c0∧m.c0<s.bs.length∧1≤m.dq∧m.dq≤3:=by omega
 rw [decide_eq_false h1,decide_eq_false R,decide_eq_false ai,decide_eq_false ax,decide_eq_false aM,decide_eq_false ba,decide_eq_true kh,if_pos bI,ad]
 simp only [Bool.false_eq_true,if_false,Option.bind_eq_bind,Option.bind_some,Bool.true_and]
 rw [if_pos fX,aP]
 simp only [Option.bind_some]
 by_cases e1:x.c5=y.c5<;>by_cases az:x.cJ=y.cJ<;>by_cases rq:x.cf=true<;>by_cases uq:y.cf=true<;>simp [e1,az,rq,uq]
theorem Ks (cA:List aB) (d6:List aN) (aL:cA.length≤6) (wI:d6.length≤8) (i:Int) :
 rF (ab (len_ au cA-1)) d6 (len_ ay d6) cA i =
 (la d6 cA d6 (len_ ay d6) i).map (Sum.map id (Sum.map id fun _=>())):=by
 have hw:ab ((cA.length:Nat)-1)=(cA.length:Nat)-1:=b4 (by omega) (by omega)
 unfold rF la p4
 simp only [dw,hw,Ak,sS,Option.bind_eq_bind,Option.bind_some]
 by_cases h1:i<(d6.length:Int)
 ·by_cases h0:0≤i
  ·obtain ⟨m,hm⟩ : ∃x,d6[i.toNat]? = some x:=⟨_,List.getElem?_eq_getElem (by omega)⟩
   simp only [h1,h0,hm,decide_true,if_true,and_self,Option.bind_some]
   unfold mC
   by_cases hA:0≤m.dg∧m.dg≤(cA.length:Int)-1
   ·by_cases xo:0≤m.c0∧m.c0≤(cA.length:Int)-1
    ·by_cases ft:1≤m.dq∧m.dq≤3
     ·obtain ⟨x,ad⟩ : ∃x,cA[m.dg.toNat]? = some x:=⟨_,List.getElem?_eq_getElem (by omega)⟩
      obtain ⟨y,aP⟩ : ∃y,cA[m.c0.toNat]? = some y:=⟨_,List.getElem?_eq_getElem (by omega)⟩
      have bI:0≤m.dg∧m.dg<cA.length:=by omega
      have fX:0≤m.c0∧m.c0<cA.length:=by omega
      have kh:0≤m.dg∧m.dg<cA.length∧0≤m.c0∧m.c0<cA.length∧1≤m.dq∧m.dq≤3:=by omega
      rw [decide_eq_true hA,decide_eq_true xo,decide_eq_true ft,decide_eq_true kh]
      simp only [if_true,Option.bind_some,Bool.true_and]
      rw [if_pos bI,ad]
      simp only [Option.bind_some]
      rw [if_pos fX,aP]
      simp only [Option.bind_some]
      by_cases e1:x.c5=y.c5<;>by_cases az:x.cJ=y.cJ<;>by_cases rq:x.cf=true<;>by_cases uq:y.cf=true<;>simp [e1,az,rq,uq]
     ·have kh : ¬(0≤m.dg∧m.dg<cA.length∧0≤m.c0∧m.c0<cA.length∧1≤m.dq∧m.dq≤3):=by omega
      rw [decide_eq_true hA,decide_eq_true xo,decide_eq_false ft,decide_eq_false kh]
      simp
    ·have kh : ¬(0≤m.dg∧m.dg<cA.length∧0≤m.c0∧m.c0<cA.length∧1≤m.dq∧m.dq≤3):=by omega
     rw [decide_eq_true hA,decide_eq_false xo,decide_eq_false kh]
     simp
   ·have kh : ¬(0≤m.dg∧m.dg<cA.length∧0≤m.c0∧m.c0<cA.length∧1≤m.dq∧m.dq≤3):=by omega
    rw [decide_eq_false hA,decide_eq_false kh]
    simp
  ·simp [h1,h0]
 ·simp [h1]
theorem Dd (cA:List aB) (d6:List aN) (wI:d6.length≤8) : ∃r,rA d6 cA d6 (len_ ay d6) 0=some r∧ ∀k,r = .inr k→0≤k:=by
 exact fN (f:=fun w=>la d6 cA d6 (len_ ay d6) w) (fun i=>0≤i∧i≤d6.length) (fun i=>(d6.length-i).toNat) (fun r=> ∀k,r = .inr k→0≤k) (fun i a6=>by
  obtain ⟨h0,h1⟩:=a6
  by_cases R:i<(d6.length:Int)
  ·have hw:ab (i+1)=i+1:=b4 (by omega) (by omega)
   obtain ⟨x,ad⟩ : ∃x,d6[i.toNat]? = some x:=⟨_,List.getElem?_eq_getElem (by omega)⟩
   unfold la p4
   simp only [dw,R,h0,hw,ad,Ak,decide_true,if_true,and_self,Option.bind_eq_bind,Option.bind_some]
   by_cases e:(!mC cA x)=true
   ·exact .inr ⟨_,by rw [if_pos e],by intro k bl;simp at bl;omega⟩
   ·exact .inl ⟨i+1,by rw [if_neg e],by omega,by omega⟩
  ·exact .inr ⟨.inl (),by simp [la,dw,R],by intro k bl;simp at bl⟩) 0 (by omega)
theorem zJ (s:cX) (i0:l7 s) : ∃r,m7 s=some r∧m8 s=some r:=by
 unfold m7 m8
 by_cases h1:6<(s.bs.length:Int)
 ·exact ⟨false,by simp [dw,h1],by simp [dw,h1]⟩
 by_cases R:8<(s.bZ.length:Int)
 ·exact ⟨false,by simp [dw,h1,R],by simp [dw,h1,R]⟩
 obtain ⟨r,ao⟩:=Dp s i0
 rw [DC,ao]
 obtain ⟨q,aU,iP⟩:=Dd s.bs s.bZ (by omega)
 have PC:yD (ab (len_ au s.bs-1)) s.bZ (len_ ay s.bZ) s.bs 0=some (Sum.map id (fun _=>()) q) :=
  MO (f:=fun w=>la s.bZ s.bs s.bZ (len_ ay s.bZ) w) (Sum.map id fun _=>()) (fun _=>True) (fun _ _ _ _=>trivial)
   (fun i _=>Ks s.bs s.bZ (by omega) (by omega) i) 0 q aU trivial
 simp only [rB,rC,aU,PC,Option.bind_eq_bind,Option.bind_some]
 have d1:decide ((6:Int)<len_ au s.bs)=false:=by rw [dw];exact decide_eq_false h1
 have d2:decide ((8:Int)<len_ ay s.bZ)=false:=by rw [dw];exact decide_eq_false R
 rw [d1,d2]
 simp only [Bool.false_eq_true,if_false]
 cases r with
 | inr a=>exact ⟨false,rfl,rfl⟩
 | inl a =>
  cases q with
  | inl b=>exact ⟨true,rfl,by simp⟩
  | inr k =>
   have:=iP k rfl
   exact ⟨false,rfl,by simp [this]⟩
theorem Mo (s:cX) (i0:l7 s) (h:n2 s.bs (len_ au s.bs) s.bZ 0=some (.inl ())) : ∀(n:Nat) j,s.bs[n]? = some j→lz j=some true:=by
 have hm:=qx
 obtain ⟨⟨fb,hd⟩,-⟩:=i0
 obtain ⟨r,h1,R⟩:=fN (f:=fun w=>l3 s.bs (len_ au s.bs) s.bZ w) (fun i=>0≤i∧i≤s.bs.length∧ ∀(n:Nat) j,(n:Int)<i→s.bs[n]? = some j→lz j=some true) (fun i=>(s.bs.length-i).toNat)
  (fun r=>r = .inl ()→ ∀(n:Nat) j,s.bs[n]? = some j→lz j=some true) (fun i a6=>by
  obtain ⟨h0,h1,ai⟩:=a6
  by_cases R:i<(s.bs.length:Int)
  ·have hw:ab (i+1)=i+1:=b4 (by omega) (by omega)
   obtain ⟨x,ad⟩ : ∃x,s.bs[i.toNat]? = some x:=⟨_,List.getElem?_eq_getElem (by omega)⟩
   obtain ⟨p,ak⟩:=DV x (hd x (List.mem_of_getElem? ad)).1
   obtain ⟨q,aU⟩:=DB ⟨s.bs,s.bZ⟩ x.cu fb
   unfold l3
   simp only [dw,R,h0,hw,ad,ak,aU,decide_true,if_true,and_self,Option.bind_eq_bind,Option.bind_some]
   by_cases e:p=true
   ·rw [if_pos e]
    by_cases az:(q != i)=true
    ·exact .inr ⟨_,by rw [if_pos az],by simp⟩
    ·refine .inl ⟨i+1,by rw [if_neg az],⟨by omega,by omega,fun n j bb aL=> ?_⟩,by omega⟩
     by_cases c:(n:Int)<i
     ·exact ai n j c aL
     ·have:n=i.toNat:=by omega
      subst this
      rw [ad] at aL
      obtain rfl:=Option.some.inj aL
      rw [ak,e]
   ·exact .inr ⟨_,by rw [if_neg e],by simp⟩
  ·refine .inr ⟨.inl (),by simp [l3,dw,R],fun _ n j aL=>ai n j (by have:=dt aL;omega) aL⟩) 0 ⟨by omega,by omega,fun n j bb=>by omega⟩
 have jA:n2 s.bs (len_ au s.bs) s.bZ 0=some r:=h1
 rw [h] at jA
 exact R (Option.some.inj jA).symm
theorem LN (cA:List aB) (d6:List aN) (wI:d6.length≤8) (h:rA d6 cA d6 (len_ ay d6) 0=some (.inl ())) : ∀(n:Nat) m,d6[n]? = some m→mC cA m=true:=by
 obtain ⟨r,h1,R⟩:=fN (f:=fun w=>la d6 cA d6 (len_ ay d6) w) (fun i=>0≤i∧i≤d6.length∧ ∀(n:Nat) m,(n:Int)<i→d6[n]? = some m→mC cA m=true) (fun i=>(d6.length-i).toNat)
  (fun r=>r = .inl ()→ ∀(n:Nat) m,d6[n]? = some m→mC cA m=true) (fun i a6=>by
  obtain ⟨h0,h1,ai⟩:=a6
  by_cases R:i<(d6.length:Int)
  ·have hw:ab (i+1)=i+1:=b4 (by omega) (by omega)
   obtain ⟨x,ad⟩ : ∃x,d6[i.toNat]? = some x:=⟨_,List.getElem?_eq_getElem (by omega)⟩
   unfold la p4
   simp only [dw,R,h0,hw,ad,Ak,decide_true,if_true,and_self,Option.bind_eq_bind,Option.bind_some]
   by_cases e:(!mC cA x)=true
   ·exact .inr ⟨_,by rw [if_pos e],by simp⟩
   ·refine .inl ⟨i+1,by rw [if_neg e],⟨by omega,by omega,fun n j bb aL=> ?_⟩,by omega⟩
    by_cases c:(n:Int)<i
    ·exact ai n j c aL
    ·have:n=i.toNat:=by omega
     subst this
     rw [ad] at aL
     obtain rfl:=Option.some.inj aL
     simpa using e
  ·refine .inr ⟨.inl (),by simp [la,dw,R],fun _ n j aL=>ai n j (by have:=dt aL;omega) aL⟩) 0 ⟨by omega,by omega,fun n j bb=>by omega⟩
 have jA:rA d6 cA d6 (len_ ay d6) 0=some r:=h1
 rw [h] at jA
 exact R (Option.some.inj jA).symm
theorem Jy (s:cX) (i0:l7 s) (h:m7 s=some true) :
 (∀(n:Nat) j,s.bs[n]? = some j→lz j=some true)∧(∀(n:Nat) m,s.bZ[n]? = some m→mC s.bs m=true)∧s.bs.length≤6∧s.bZ.length≤8:=by
 obtain ⟨p,p1,fz⟩:=zJ s i0
 rw [h] at p1
 obtain rfl:=Option.some.inj p1
 unfold m8 at fz
 by_cases h1:6<(s.bs.length:Int)
 ·simp [dw,h1] at fz
 by_cases R:8<(s.bZ.length:Int)
 ·simp [dw,h1,R] at fz
 obtain ⟨r,ao⟩:=Dp s i0
 rw [DC,ao] at fz
 obtain ⟨q,aU,iP⟩:=Dd s.bs s.bZ (by omega)
 have d1:decide ((6:Int)<len_ au s.bs)=false:=by rw [dw];exact decide_eq_false h1
 have d2:decide ((8:Int)<len_ ay s.bZ)=false:=by rw [dw];exact decide_eq_false R
 rw [d1,d2] at fz
 simp only [rB,rC,aU,Bool.false_eq_true,if_false,Option.bind_eq_bind,Option.bind_some] at fz
 cases r with
 | inr a=>simp at fz
 | inl a =>
  cases q with
  | inr k =>
   have:=iP k rfl
   simp [this] at fz
  | inl b=>exact ⟨Mo s i0 ao,LN s.bs s.bZ (by omega) aU,by omega,by omega⟩
theorem EO (l:List Int) (aK:l.length≤maxLen) (left:Int) (h0:0≤left) (h1:left≤1048576):qk l left=some (if left<l.length then -1 else left-l.length):=by
 have hm:=qx
 have hw:ab (left-((l.length:Nat):Int))=left-(l.length:Nat):=b4 (by omega) (by omega)
 unfold qk
 rw [dw,hw]
 by_cases e:left<(l.length:Nat)
 ·have:left-(l.length:Nat)<0:=by omega
  simp [e,this]
 ·have : ¬left-(l.length:Nat)<0:=by omega
  simp [e,this]
theorem Kt (s:cX) (i0:l7 s) (left:Int) (h0:0≤left) (h1:left≤1048576) (q:Int) (aU:oa s left=some q):q≤1048576:=by
 obtain ⟨⟨fb,hd⟩,cw,ei⟩:=i0
 obtain ⟨r,r1,bj,bY⟩:=DQ s.bs left fb (fun j aL=>(hd j aL).1) h0 h1
 unfold oa at aU
 rw [r1] at aU
 by_cases h:r<0
 ·simp [h] at aU;omega
 ·obtain ⟨t,t1,t2,t3⟩:=DK s.bZ r cw (by omega) (by omega)
  by_cases bK:t<0
  ·simp [h,t1,bK] at aU;omega
  ·simp [h,t1,bK] at aU;omega
def mb (r:cD):Prop:=r.ch.cn.length≤1048576∧r.cv.length≤1048576
theorem LO {r:cD} (h:mb r):sG r r=some true:=by
 unfold sG vi
 simp [D6 _ h.1,D6 _ h.2]
theorem Lg (l:List cD) (h:l.length≤1048576) (ao : ∀r∈l,mb r):oq l l=some true:=by
 have h1:iter (fun w=>pY l l w) 0=some (if l.all (fun _=>true) then .inl () else .inr ()):=AE l (fun _=>true) (fun n x ad=>by
  have bb:=dt ad
  unfold pY
  rw [dw,if_pos (by simp;omega),if_pos (by omega),Int.toNat_natCast,ad]
  simp only [Option.bind_eq_bind,Option.bind_some]
  rw [if_pos (by omega),LO (ao x (List.mem_of_getElem? ad))]
  simp only [Option.bind_some,if_true]
  rw [i1 (by omega)]) (by simp [pY,dw])
 unfold oq z5
 rw [h1]
 simp
theorem LP {r:cD} (ao:wo r) (left:Int) (h0:0≤left) (h1:left≤1048576) : ∃q,sD r left=some q∧q≤left∧(0≤q→mb r):=by
 obtain ⟨⟨-,⟨fb,-⟩⟩,⟨hd,-⟩⟩:=ao
 unfold sD vf
 rw [EO _ fb left h0 h1]
 by_cases bI:left<r.ch.cn.length
 ·refine ⟨-1,by simp [bI],by omega,by omega⟩
 ·have PD : ¬left-(r.ch.cn.length:Int)<0:=by omega
  simp only [bI,if_false,Option.bind_eq_bind,Option.bind_some,PD,decide_false,Bool.false_eq_true]
  rw [EO _ hd _ (by omega) (by omega)]
  by_cases fX:left-(r.ch.cn.length:Int)<r.cv.length
  ·refine ⟨-1,by simp [fX],by omega,by omega⟩
  ·have PE : ¬left-(r.ch.cn.length:Int)-(r.cv.length:Int)<0:=by omega
   refine ⟨left-(r.ch.cn.length:Int)-(r.cv.length:Int),by simp [fX,PE],by omega,fun _=>⟨by omega,by omega⟩⟩
theorem Lh (l:List cD) (aK:l.length≤maxLen) (ao : ∀r∈l,wo r) (left:Int) (h0:0≤left) (h1:left≤1048576) :
 ∃q,sq l left=some q∧q≤left∧(0≤q→l.length≤1048576∧ ∀r∈l,mb r):=by
 have hm:=qx
 have hw:ab (left-((l.length:Nat):Int))=left-(l.length:Nat):=b4 (by omega) (by omega)
 unfold sq
 rw [dw,hw]
 by_cases c:left-(l.length:Int)<0
 ·exact ⟨-1,by simp [c],by omega,by omega⟩
 ·obtain ⟨r,r1,bj⟩:=fN (f:=fun w:Int×Int=>n0 l w.1 w.2) (cQ:=fun w=> ∃n:Nat,w.2=n∧n≤l.length∧0≤w.1∧w.1≤left∧ ∀i x,i<n→l[i]? = some x→mb x) (m:=fun w=>l.length-w.2.toNat)
   (fun r=>r.elim (fun a=>0≤a∧a≤left∧ ∀x∈l,mb x) (fun _=>True)) (by
     rintro ⟨a,ii⟩ ⟨n,e1,az,bp,cI,dM⟩
     simp only at e1 bp cI
     subst e1
     by_cases bb:n=l.length
     ·subst bb
      refine .inr ⟨.inl a,by simp [n0,dw],bp,cI,fun x ad=> ?_⟩
      obtain ⟨i,a6⟩:=List.mem_iff_getElem?.mp ad
      exact dM i x (dt a6) a6
     ·have ad:=List.getElem?_eq_getElem (show n<l.length by omega)
      obtain ⟨q,q1,gF,lY⟩:=LP (ao _ (List.mem_of_getElem? ad)) a bp (by omega)
      by_cases aU:q<0
      ·refine .inr ⟨.inr (),?_,trivial⟩
       unfold n0
       rw [dw,if_pos (by simp;omega),if_pos (by omega),Int.toNat_natCast,ad]
       simp only [Option.bind_eq_bind,Option.bind_some]
       rw [q1]
       simp [aU]
      ·refine .inl ⟨(q,((n+1:Nat):Int)),?_,⟨n+1,rfl,by omega,by simp only;omega,by simp only;omega,fun i x a6 cj=> ?_⟩,by simp;omega⟩
       ·unfold n0
        rw [dw,if_pos (by simp;omega),if_pos (by omega),Int.toNat_natCast,ad]
        simp only [Option.bind_eq_bind,Option.bind_some]
        rw [q1]
        simp only [Option.bind_some]
        rw [if_neg (by simp;omega),i1 (by omega)]
       ·by_cases ix:i=n
        ·subst ix
         rw [ad] at cj
         rw [← Option.some.inj cj]
         exact lY (by omega)
        ·exact dM i x (by omega) cj) (left-(l.length:Nat),0) ⟨0,rfl,by omega,by simp only;omega,by simp only;omega,fun i x a6=>by omega⟩
  unfold zT
  rw [if_neg (by simp;omega),r1]
  cases r with
  | inl a=>exact ⟨a,rfl,bj.2.1,fun _=>⟨by omega,bj.2.2⟩⟩
  | inr _=>exact ⟨-1,rfl,by omega,by omega⟩
def lK (p:Int×Int):Option et:=some (uu p)
theorem LQ (l:List cD) (h:l.length≤1048576) (ao : ∀r∈l,mb r) :
 (∃xs:List (Int×Int),(∀p∈xs,Fr p)∧l=xs.map mk∧oh l=some true∧ow l=some (xs.map lK,true))∨(oh l=some false∧ow l=some ([],false)):=by
 have ij : ∀r∈l,∃I:Option (Int×Int),(∀p,I=some p→Fr p∧r=mk p)∧mx r=some I.isSome∧my r=some (wG I):=by
  intro r k4
  have hlen:=ao r k4
  rcases Ng (r:=r) (by have:=hlen.1;omega) (by have:=hlen.2;omega) with ⟨p,h1,R,ai,ax⟩|⟨ai,ax⟩
  ·exact ⟨some p,fun q aU=>by rw [← Option.some.inj aU];exact ⟨h1,R⟩,ai,ax⟩
  ·exact ⟨none,fun q aU=>by simp at aU,ai,ax⟩
 obtain ⟨os,oX,q2⟩ : ∃os:List (Option (Int×Int)),os.length=l.length∧ ∀(n:Nat) r I,l[n]? = some r→os[n]? = some I→(∀p,I=some p→Fr p∧r=mk p)∧mx r=some I.isSome∧my r=some (wG I):=by
  clear h ao
  induction l with
  | nil=>exact ⟨[],rfl,fun n r I h=>by simp at h⟩
  | cons x l ih =>
   obtain ⟨os,e1,az⟩:=ih (fun r ao=>ij r (by simp [ao]))
   obtain ⟨I,ag⟩:=ij x (by simp)
   refine ⟨I::os,by simp [e1],fun n r bn h1 R=> ?_⟩
   cases n with
   | zero =>
    simp at h1 R
    subst h1 R
    exact ag
   | succ n=>exact az n r bn (by simpa using h1) (by simpa using R)
 have A9:iter (fun w:Int=>pL l l.length w) 0=some (if os.all Option.isSome then .inl () else .inr ()):=AE os Option.isSome (fun n I ag=>by
  have bb:=dt ag
  have ad:=List.getElem?_eq_getElem (show n<l.length by omega)
  obtain ⟨-,R,-⟩:=q2 n _ I ad ag
  unfold pL
  rw [if_pos (by simp;omega),if_pos (by omega),Int.toNat_natCast,ad]
  simp only [Option.bind_eq_bind,Option.bind_some]
  rw [R]
  simp only [Option.bind_some]
  rw [i1 (by omega)]
  cases I.isSome<;>rfl) (by rw [oX];simp [pL])
 have Ba:iter (fun w:Int×List (Option et)=>p5 l l.length w.1 w.2) (0,List.replicate l.length (none:Option et))=some (if os.all Option.isSome then .inl (os.map wG) else .inr ()):=L7 os Option.isSome wG _ (by simp [oX]) (fun n I row ag cF=>by
  have bb:=dt ag
  have ad:=List.getElem?_eq_getElem (show n<l.length by omega)
  obtain ⟨-,-,ai⟩:=q2 n _ I ad ag
  unfold p5
  rw [if_pos (by simp;omega),if_pos (by omega),Int.toNat_natCast,ad]
  simp only [Option.bind_eq_bind,Option.bind_some]
  rw [ai]
  simp only [Option.bind_some]
  rw [if_pos (by omega),Nat.zero_add,if_pos (by omega),List.getElem?_set,if_pos rfl,if_pos (by omega)]
  simp only [Option.bind_some]
  rw [i1 (by omega)]
  cases I<;>rfl) (fun row=>by rw [oX];simp [p5])
 unfold oh zA ow Aa
 simp only [dw,Int.toNat_natCast]
 have a3:0≤(l.length:Int)∧(8:Int)*(l.length:Int)≤281474976710656∧(l.length:Int)<9223372036854775808:=by omega
 rw [A9,Ba,if_pos a3]
 by_cases gp:os.all Option.isSome=true
 ·refine .inl ⟨os.filterMap id,?_,?_,by rw [gp];rfl,?_⟩
  ·intro p ak
   obtain ⟨I,ag,kv⟩:=List.mem_filterMap.mp ak
   obtain ⟨n,bb⟩:=List.mem_iff_getElem?.mp ag
   have cG:=dt bb
   exact ((q2 n _ I (List.getElem?_eq_getElem (show n<l.length by omega)) bb).1 p kv).1
  ·clear A9 Ba ij ao h a3
   induction l generalizing os with
   | nil =>
    have:os=[]:=List.eq_nil_of_length_eq_zero oX
    subst this
    rfl
   | cons x l ih =>
    cases os with
    | nil=>simp at oX
    | cons I os =>
     simp only [List.all_cons,Bool.and_eq_true] at gp
     obtain ⟨p,rfl⟩:=Option.isSome_iff_exists.mp gp.1
     have h1:=((q2 0 x (some p) rfl rfl).1 p rfl).2
     have R:=ih os (by simpa using oX) (fun n r I ai ax=>q2 (n+1) r I (by simpa using ai) (by simpa using ax)) gp.2
     simp only [List.filterMap_cons,id,List.map_cons]
     rw [← R,← h1]
  ·rw [gp]
   simp only [if_true,Option.bind_eq_bind,Option.bind_some]
   congr 2
   clear A9 Ba ij ao h q2 oX
   induction os with
   | nil=>rfl
   | cons I os ih =>
    simp only [List.all_cons,Bool.and_eq_true] at gp
    obtain ⟨p,rfl⟩:=Option.isSome_iff_exists.mp gp.1
    simp only [List.filterMap_cons,id,List.map_cons]
    rw [ih gp.2]
    rfl
 ·simp only [Bool.not_eq_true] at gp
  refine .inr ⟨by rw [gp];rfl,by rw [gp];rfl⟩
def Hi (l:List Int) (n:Nat) (x:Int):Prop:=0≤x∧x<1000000000∧(∀z,l[n]? = some z→x=z)∧(l[n]? = none→x=0)
theorem Hi.take {l:List Int} {n:Nat} {x:Int} (h:Hi l n x):V (l.take (n+1))=V (l.take n)+B n*x:=E6 h.2.2.1 h.2.2.2
theorem Fr.neg {q:Int×Int} (h:Fr q):Fr (-q.1,q.2):=⟨h.pos,by simp only;rw [Int.neg_gcd];exact h.G3,by simp only;have:=h.num;omega,h.den⟩
theorem jG {i:Int} {a:Nat} (h0:0≤i) (h1:i≤100) (bL:a≤1):ab (ab (2*i)+(a:Int))=(((2*i+a).toNat:Nat):Int):=by
 rw [b4 (x:=2*i) (by omega) (by omega),b4 (by omega) (by omega)]
 omega
theorem D7 (l:List Int) (h:l.length≤1048576):qd l=some l:=by
 have aW : ∀(n:Nat) x (row:List Int),l[n]? = some x→row.length=l.length→nX l n row=some (.inl (((n+1:Nat):Int),row.set n x)):=by
  intro n x row ad ao
  obtain ⟨bb,rfl⟩:=List.getElem?_eq_some_iff.1 ad
  have hw:ab ((n:Int)+1)=((n+1:Nat):Int):=by rw [b4 (by omega) (by omega)];rfl
  simp only [nX,dw,hw]
  simp [bb,ao]
 have he : ∀row:List Int,nX l l.length row=some (.inr row):=by
  intro row
  simp [nX,dw]
 have h1:zv l 0 (List.replicate (len_ U l).toNat 0)=some l :=
  As l (List.replicate (len_ U l).toNat 0) (by simp [dw]) aW he
 unfold qd
 rw [h1,if_pos (by rw [dw];omega)]
 simp [dw]
theorem KK (l:List aB) (h:l.length≤1048576):rS l=some l:=by
 have aW : ∀(n:Nat) x (row:List aB),l[n]? = some x→row.length=l.length→nV l n row=some (.inl (((n+1:Nat):Int),row.set n x)):=by
  intro n x row ad ao
  obtain ⟨bb,rfl⟩:=List.getElem?_eq_some_iff.1 ad
  have hw:ab ((n:Int)+1)=((n+1:Nat):Int):=by rw [b4 (by omega) (by omega)];rfl
  simp only [nV,dw,hw,vm]
  simp [bb,ao]
 have he : ∀row:List aB,nV l l.length row=some (.inr row):=by
  intro row
  simp [nV,dw]
 have h1:y1 l 0 (List.replicate (len_ au l).toNat (⟨ByteArray.empty,0,0,false⟩:aB))=some l :=
  As l _ (by simp [dw]) aW he
 unfold rS
 rw [h1,if_pos (by rw [dw];omega)]
 simp [dw]
theorem Ku (l:List aN) (h:l.length≤1048576):rP l=some l:=by
 have aW : ∀(n:Nat) x (row:List aN),l[n]? = some x→row.length=l.length→nU l n row=some (.inl (((n+1:Nat):Int),row.set n x)):=by
  intro n x row ad ao
  obtain ⟨bb,rfl⟩:=List.getElem?_eq_some_iff.1 ad
  have hw:ab ((n:Int)+1)=((n+1:Nat):Int):=by rw [b4 (by omega) (by omega)];rfl
  simp only [nU,dw,hw,vg]
  simp [bb,ao]
 have he : ∀row:List aN,nU l l.length row=some (.inr row):=by
  intro row
  simp [nU,dw]
 have h1:yB l 0 (List.replicate (len_ ay l).toNat (⟨0,0,0⟩:aN))=some l :=
  As l _ (by simp [dw]) aW he
 unfold rP
 rw [h1,if_pos (by rw [dw];omega)]
 simp [dw]
theorem JT (s:cX) (h1:s.bs.length≤1048576) (R:s.bZ.length≤1048576):rO s=some (s.bs,s.bZ):=by
 simp [rO,KK _ h1,Ku _ R]
def jg (P:List (List Int)):gv→Prop
 | none=>True
 | some (k,c)=> ∃x,P[k]? = some x∧x.length=c∧c≤1048576
theorem jg.xe {P:List (List Int)} {h:gv} (dy:jg P h):nx P h=true:=by
 cases h with
 | none=>rfl
 | some p =>
  obtain ⟨k,c⟩:=p
  obtain ⟨x,h1,R,-⟩:=dy
  have bl:=dt h1
  have a9:P.getD k []=x:=by rw [List.getD_eq_getElem?_getD,h1];rfl
  simp only [nx,a9,Bool.and_eq_true,decide_eq_true_eq]
  omega
theorem jg.aC {P:List (List Int)} (Q:List (List Int)) {h:gv} (dy:jg P h):jg (P++Q) h∧lT (P++Q) h=lT P h:=by
 cases h with
 | none=>exact ⟨trivial,rfl⟩
 | some p =>
  obtain ⟨k,c⟩:=p
  obtain ⟨x,h1,R,ai⟩:=dy
  have bl:=dt h1
  have e:(P++Q)[k]? = some x:=by rw [List.getElem?_append_left bl];exact h1
  refine ⟨⟨x,e,R,ai⟩,?_⟩
  simp only [lT,List.getD_eq_getElem?_getD,e,h1]
theorem jg.new {P Q:List (List Int)} {x:List Int} {n:Nat} (ad:Q[n]? = some x) (aK:x.length≤1048576):jg (P++Q) (some (P.length+n,x.length))∧lT (P++Q) (some (P.length+n,x.length))=x:=by
 have e:(P++Q)[P.length+n]? = some x:=by rw [List.getElem?_append_right (by omega),show P.length+n-P.length=n by omega];exact ad
 refine ⟨⟨x,e,rfl,aK⟩,?_⟩
 simp only [lT,List.getD_eq_getElem?_getD,e,Option.getD_some,List.take_length]
theorem jg.set {P:List (List Int)} {k:Nat} {x y:List Int} (ad:P[k]? = some x) (aP:y.length=x.length) {h:gv} (dy:jg P h):jg (P.set k y) h:=by
 cases h with
 | none=>trivial
 | some p =>
  obtain ⟨j,c⟩:=p
  obtain ⟨z,h1,R,ai⟩:=dy
  by_cases aL:k=j
  ·subst aL
   rw [ad] at h1
   obtain rfl:=Option.some.inj h1
   exact ⟨y,by rw [List.getElem?_set,if_pos rfl,if_pos (dt ad)],by omega,ai⟩
  ·exact ⟨z,by rw [List.getElem?_set,if_neg aL];exact h1,R,ai⟩
def nL (P:List (List Int)) (x:cN):Prop:=jg P x.ch.cn∧jg P x.cv
theorem nL.xe {P:List (List Int)} {x:cN} (h:nL P x):sW P x=true:=by
 simp only [sW,h.1.xe,h.2.xe,Bool.and_self]
theorem LR {r:cD} (h:mb r):se r=some (r.ch.fo,r.ch.cn,r.cv):=by
 simp [se,u6,D7 _ h.1,D7 _ h.2]
theorem Li (l:List cD) (h:l.length≤1048576) (ao : ∀r∈l,mb r) :
 ∃rw P,r3 l=some (rw,P)∧rw.map (fw P)=l∧rw.length=l.length∧ ∀x∈rw,nL P x:=by
 obtain ⟨r,r1,bj⟩:=fN (f:=fun w:Int×(List cN)×(List (List Int))=>pH l w.1 w.2.1 w.2.2)
  (cQ:=fun w=> ∃n:Nat,w.1=n∧n≤l.length∧w.2.1.length=l.length∧ ∀j x,j<n→w.2.1[j]? = some x→nL w.2.2 x∧l[j]? = some (fw w.2.2 x))
  (m:=fun w=>l.length-w.1.toNat) (fun r=>r.1.length=l.length∧ ∀j x,r.1[j]? = some x→nL r.2 x∧l[j]? = some (fw r.2 x)) (by
    rintro ⟨a,row,P⟩ ⟨n,e1,az,bp,cI⟩
    simp only at e1 bp cI
    subst e1
    by_cases bb:n=l.length
    ·subst bb
     refine .inr ⟨(row,P),by simp [pH,dw],bp,fun j x aL=>cI j x (by have:=dt aL;simp only at this;omega) aL⟩
    ·have ad:=List.getElem?_eq_getElem (show n<l.length by omega)
     generalize l[n]=r at ad
     have k4:=ao r (List.mem_of_getElem? ad)
     have hw:ab ((n:Int)+1)=((n+1:Nat):Int):=by rw [b4 (by omega) (by omega)];rfl
     refine .inl ⟨(((n+1:Nat):Int),row.set n ⟨⟨r.ch.fo,some (P.length,r.ch.cn.length)⟩,some (P.length+1,r.cv.length)⟩,P++[r.ch.cn,r.cv]),?_,⟨n+1,rfl,by omega,by simp [bp],fun j x aL cj=> ?_⟩,by simp;omega⟩
     ·have gM:n<l.length:=by omega
      have QW:n<row.length:=by omega
      unfold pH
      rw [dw,if_pos (by simp;omega),if_pos (by omega),Int.toNat_natCast,ad]
      simp only [Option.bind_eq_bind,Option.bind_some]
      rw [LR k4]
      simp only [Option.bind_some]
      rw [if_pos (by omega),if_pos (by omega),hw,Nat.zero_add]
     ·simp only at cj ⊢
      rw [List.getElem?_set] at cj
      by_cases nK:n=j
      ·subst nK
       rw [if_pos rfl,if_pos (by omega)] at cj
       obtain rfl:=Option.some.inj cj
       have q1:=jg.new (P:=P) (Q:=[r.ch.cn,r.cv]) (n:=0) rfl k4.1
       have gF:=jg.new (P:=P) (Q:=[r.ch.cn,r.cv]) (n:=1) rfl k4.2
       refine ⟨⟨q1.1,gF.1⟩,?_⟩
       rw [ad]
       simp only [fw]
       rw [show (some (P.length,r.ch.cn.length):gv)=some (P.length+0,r.ch.cn.length) from rfl,q1.2,gF.2]
      ·rw [if_neg nK] at cj
       obtain ⟨⟨f1,f2⟩,f3⟩:=cI j x (by omega) cj
       have g1:=f1.aC [r.ch.cn,r.cv]
       have g2:=f2.aC [r.ch.cn,r.cv]
       refine ⟨⟨g1.1,g2.1⟩,?_⟩
       rw [f3]
       simp only [fw,g1.2,g2.2])
  (0,List.replicate l.length ⟨⟨false,none⟩,none⟩,[]) ⟨0,rfl,by omega,by simp,fun j x aL=>by omega⟩
 obtain ⟨xf,P⟩:=r
 obtain ⟨bj,bY⟩:=bj
 simp only at bj bY
 refine ⟨xf,P,?_,?_,bj,fun x ad=> ?_⟩
 ·unfold r3 zw
  rw [dw,Int.toNat_natCast,if_pos (by omega)]
  rw [r1]
  rfl
 ·apply List.ext_getElem?
  intro j
  rw [List.getElem?_map]
  cases aL:xf[j]? with
  | none=>rw [List.getElem?_eq_none_iff] at aL;symm;rw [Option.map_none,List.getElem?_eq_none_iff];omega
  | some x=>rw [(bY j x aL).2];rfl
 ·obtain ⟨j,aL⟩:=List.mem_iff_getElem?.mp ad
  exact (bY j x aL).1
theorem F4 (x:Int):(mi [x]).size=1:=rfl
theorem DR {k:Int} (h:k≤1000000000000000000) : ∃r,nb k=some r:=by
 unfold nb
 by_cases c:k≤0
 ·exact ⟨_,by rw [if_pos (by simpa using c)]⟩
 ·rw [if_neg (by simpa using c)]
  obtain ⟨r,r1,bj⟩:=fN (f:=fun w:Int×ByteArray=>pO w.1 w.2) (cQ:=fun w=>0≤w.1∧(w.2.size:Int)+w.1≤1000000000000000000) (m:=fun w=>w.1.toNat)
   (fun r=>(r.size:Int)≤1000000000000000000) (by
     rintro ⟨a,I⟩ ⟨h1,R⟩
     simp only at h1 R
     by_cases bL:0<a
     ·have a9:a.tdiv 10=a / 10:=by rw [Int.tdiv_eq_ediv_of_nonneg h1]
      refine .inl ⟨(a / 10,mi [IntKind.wrap .u8 (ab ((48:Int)+(a.tmod (10:Int))))]++I),?_,⟨by simp only;omega,?_⟩,by simp only;omega⟩
      ·unfold pO
       simp only
       rw [if_pos (by simpa using bL),F4,if_pos (by omega),a9,b4 (by omega) (by omega)]
      ·simp only [ByteArray.size_append,F4]
       omega
     ·exact .inr ⟨I,by simp [pO,bL],by omega⟩) (k,⟨#[]⟩) ⟨by simp only;omega,by
      have:(⟨#[]⟩:ByteArray).size=0:=rfl
      simp only [this];omega⟩
  unfold zH
  rw [r1]
  refine ⟨_,by
   simp only [Option.bind_eq_bind,Option.bind_some]
   rw [if_pos ?_]
   have:(⟨#[109]⟩:ByteArray).size=1:=rfl
   rw [this]
   omega⟩
theorem Jz {k:Int} {l:List aB} (h0:0≤k) (h:k+4*l.length≤1000000000000000000) :
 ∃ck dS,n9 k l=some (ck,dS)∧dS.length=l.length∧0≤ck∧ck≤k+4*l.length:=by
 obtain ⟨r,r1,bj⟩:=fN (f:=fun w:Int×Int×(List aB)=>l2 w.1 w.2.1 w.2.2)
  (cQ:=fun w=> ∃n:Nat,w.2.1=n∧n≤l.length∧w.2.2.length=l.length∧0≤w.1∧w.1≤k+4*n)
  (m:=fun w=>l.length-w.2.1.toNat) (fun r=>r.2.length=l.length∧0≤r.1∧r.1≤k+4*l.length) (by
    rintro ⟨a,i,row⟩ ⟨n,e1,az,bp,cI,dM⟩
    simp only at e1 bp cI dM
    subst e1
    by_cases bb:n=l.length
    ·subst bb
     refine .inr ⟨(a,row),by simp [l2,bp],bp,cI,dM⟩
    ·have gM:n<row.length:=by omega
     obtain ⟨t,bK⟩:=DR (k:=a) (by omega)
     have hw:ab ((n:Int)+1)=((n+1:Nat):Int):=by rw [b4 (by omega) (by omega)];rfl
     have jm:ab (a+1)=a+1:=b4 (by omega) (by omega)
     have jG:ab (a+1+1)=a+1+1:=b4 (by omega) (by omega)
     have kL:ab (a+1+1+1)=a+1+1+1:=b4 (by omega) (by omega)
     have rz:ab (a+1+1+1+1)=a+1+1+1+1:=b4 (by omega) (by omega)
     have key : ∃cl,l2 a n row=some (.inl (a+1+1+1+1,((n+1:Nat):Int),cl))∧cl.length=row.length:=by
      unfold l2
      rw [if_pos (by simpa using gM),bK,jm,jG,kL,rz,hw]
      simp only [Option.bind_eq_bind,Option.bind_some,Nat.zero_add,Int.toNat_natCast]
      rw [if_pos (by omega),List.getElem?_eq_getElem gM]
      simp only [Option.bind_some,List.getElem?_set_self gM,List.length_set,List.getElem?_set_self (show n<(row.set n _).length by simpa using gM),List.set_set]
      exact ⟨_,rfl,by simp⟩
     obtain ⟨cl,h1,R⟩:=key
     refine .inl ⟨_,h1,⟨n+1,rfl,by omega,by simp only;omega,by simp only;omega,by simp only;omega⟩,by simp;omega⟩) (k,0,l) ⟨0,rfl,by omega,rfl,h0,by simp⟩
 obtain ⟨ck,dS⟩:=r
 exact ⟨ck,dS,by unfold n9 rL;rw [r1];rfl,bj⟩
theorem Jk {k:Int} {l:List aN} (h0:0≤k) (h:k+3*l.length≤1000000000000000000) :
 ∃ck dS,m5 k l=some (ck,dS)∧dS.length=l.length∧0≤ck∧ck≤k+3*l.length:=by
 obtain ⟨r,r1,bj⟩:=fN (f:=fun w:Int×Int×(List aN)=>l1 w.1 w.2.1 w.2.2)
  (cQ:=fun w=> ∃n:Nat,w.2.1=n∧n≤l.length∧w.2.2.length=l.length∧0≤w.1∧w.1≤k+3*n)
  (m:=fun w=>l.length-w.2.1.toNat) (fun r=>r.2.length=l.length∧0≤r.1∧r.1≤k+3*l.length) (by
    rintro ⟨a,i,row⟩ ⟨n,e1,az,bp,cI,dM⟩
    simp only at e1 bp cI dM
    subst e1
    by_cases bb:n=l.length
    ·subst bb
     refine .inr ⟨(a,row),by simp [l1,bp],bp,cI,dM⟩
    ·have gM:n<row.length:=by omega
     have hw:ab ((n:Int)+1)=((n+1:Nat):Int):=by rw [b4 (by omega) (by omega)];rfl
     have jm:ab (a+1)=a+1:=b4 (by omega) (by omega)
     have jG:ab (a+1+1)=a+1+1:=b4 (by omega) (by omega)
     have kL:ab (a+1+1+1)=a+1+1+1:=b4 (by omega) (by omega)
     have key : ∃cl,l1 a n row=some (.inl (a+1+1+1,((n+1:Nat):Int),cl))∧cl.length=row.length:=by
      unfold l1
      rw [if_pos (by simpa using gM),jm,jG,kL,hw]
      simp only [Nat.zero_add,Int.toNat_natCast]
      rw [if_pos (by omega),List.getElem?_eq_getElem gM]
      simp only [Option.bind_eq_bind,Option.bind_some,List.getElem?_set_self gM,List.length_set,List.getElem?_set_self (show n<(row.set n _).length by simpa using gM),List.set_set]
      exact ⟨_,rfl,by simp⟩
     obtain ⟨cl,h1,R⟩:=key
     refine .inl ⟨_,h1,⟨n+1,rfl,by omega,by simp only;omega,by simp only;omega,by simp only;omega⟩,by simp;omega⟩) (k,0,l) ⟨0,rfl,by omega,rfl,h0,by simp⟩
 obtain ⟨ck,dS⟩:=r
 exact ⟨ck,dS,by unfold m5 rJ;rw [r1];rfl,bj⟩
theorem IV {k:Int} {l:List aB} {m:List aN} (h0:0≤k) (h:k+4*l.length+3*m.length≤1000000000000000000) :
 ∃ck dS dp,l4 k l m=some (ck,dS,dp)∧dS.length=l.length∧dp.length=m.length∧0≤ck∧ck≤k+4*l.length+3*m.length:=by
 obtain ⟨iW,dS,e1,az,bp,cI⟩:=Jz (l:=l) h0 (by omega)
 obtain ⟨iX,dp,f1,f2,f3,f4⟩:=Jk (k:=iW) (l:=m) bp (by omega)
 refine ⟨iX,dS,dp,?_,az,f2,f3,by omega⟩
 unfold l4
 rw [e1]
 simp only [Option.bind_eq_bind,Option.bind_some]
 rw [f1]
 rfl
def marks (k:Int) (n:Nat):List Int:=(List.range n).map fun i:Nat=>k+(i:Int)
theorem EP (k:Int) (n:Nat):(marks k n).length=n:=by simp [marks]
theorem LS {k:Int} {l:List Int} {i:Nat} (h:i<l.length):(marks k i++l.drop i).set i (k+i)=marks k (i+1)++l.drop (i+1):=by
 unfold marks
 rw [List.range_succ,List.map_append,List.set_append_right _ _ (by simp)]
 rw [show i-(List.map (fun i:Nat=>k+(i:Int)) (List.range i)).length=0 by simp,List.drop_eq_getElem_cons h,List.set_cons_zero]
 simp
theorem KL {k:Int} {l:List Int} (h0:0≤k) (h:k+l.length≤1000000000000000000):m9 k 0 l.length l=some (k+l.length,marks k l.length):=by
 have:=E2 (f:=fun w:Int×Int×(List Int)=>pD 0 l.length w.1 w.2.1 w.2.2) (s:=fun n=>(k+(n:Int),(n:Int),marks k n++l.drop n)) (r:=(k+(l.length:Int),marks k l.length)) l.length 0 (fun i _ a6=> ?_) ?_
 ·unfold m9 zf
  have e:(k+((0:Nat):Int),((0:Nat):Int),marks k 0++l.drop 0)=(k,0,l):=by simp [marks]
  rw [e] at this
  rw [this]
  rfl
 ·have ix:i<l.length:=by omega
  unfold pD
  simp only
  rw [if_pos (by simpa using ix),if_pos (by omega),Nat.zero_add,Int.toNat_natCast,if_pos (by simp [EP];omega),LS ix,b4 (by omega) (by omega),b4 (by omega) (by omega)]
  simp only [Int.natCast_add,Int.add_assoc]
  rfl
 ·simp [pD]
theorem KZ (k:Int):nc [] k=some k:=by
 have h:u4 [] k=some ():=by
  unfold u4
  rw [iter]
  simp [uS,dw]
 simp [nc,h]
theorem A2 {P:List (List Int)} {k:Int} {h:gv} (dy:jg P h) (h0:0≤k) (bl:k≤500000000000000000) :
 (h=none∧nc [] k=some k)∨ ∃j c x m,h=some (j,c)∧P[j]? = some x∧c≤1048576∧m9 k 0 c x=some (k+(c:Int),m)∧ ∀b9,jg P b9→jg (P.set j m) b9:=by
 cases h with
 | none=>exact .inl ⟨rfl,KZ k⟩
 | some p =>
  obtain ⟨j,c⟩:=p
  obtain ⟨x,h1,R,ai⟩:=dy
  subst R
  exact .inr ⟨j,x.length,x,_,rfl,h1,ai,KL h0 (by omega),fun b9 PF=>PF.set h1 (EP _ _)⟩
theorem Kc {k:Int} {l:List cN} {P:List (List Int)} (aK : ∀x∈l,nL P x) (h0:0≤k) (h:k+2097153*l.length≤400000000000000000) :
 ∃ck dS pv,od k l P=some (ck,dS,pv)∧0≤ck∧ck≤k+2097153*l.length:=by
 obtain ⟨r,r1,bj⟩:=fN (f:=fun w:Int×Int×(List cN)×(List (List Int))=>pE w.1 w.2.1 w.2.2.1 w.2.2.2)
  (cQ:=fun w=> ∃n:Nat,w.2.1=n∧n≤l.length∧w.2.2.1.length=l.length∧(∀j x,w.2.2.1[j]? = some x→nL w.2.2.2 x)∧0≤w.1∧w.1≤k+2097153*n)
  (m:=fun w=>l.length-w.2.1.toNat) (fun r=>0≤r.1∧r.1≤k+2097153*l.length) (by
    rintro ⟨a,i,row,P⟩ ⟨n,e1,az,bp,ez,cI,dM⟩
    simp only at e1 bp cI dM ez
    subst e1
    by_cases bb:n=l.length
    ·subst bb
     refine .inr ⟨(a,row,P),by simp [pE,bp],cI,dM⟩
    ·have gM:n<row.length:=by omega
     have hw:ab ((n:Int)+1)=((n+1:Nat):Int):=by rw [b4 (by omega) (by omega)];rfl
     have jm:ab (a+1)=a+1:=b4 (by omega) (by omega)
     obtain ⟨x,ad⟩ : ∃x,row[n]? = some x:=⟨_,List.getElem?_eq_getElem gM⟩
     obtain ⟨⟨RD,P0⟩,P1⟩:=x
     obtain ⟨f1,f2⟩:=ez n _ ad
     simp only at f1 f2
     have mj : ∀pv:List (List Int),(∀b9,jg P b9→jg pv b9)→ ∀(b:Bool) (j:Nat) (y:cN),(row.set n (⟨⟨b,P0⟩,P1⟩:cN))[j]? = some y→nL pv y:=by
      intro pv l0 b j y aP
      rw [List.getElem?_set] at aP
      by_cases aL:n=j
      ·rw [if_pos aL,if_pos gM] at aP
       obtain rfl:=Option.some.inj aP
       exact ⟨l0 _ f1,l0 _ f2⟩
      ·rw [if_neg aL] at aP
       exact ⟨l0 _ (ez j y aP).1,l0 _ (ez j y aP).2⟩
     refine .inl ?_
     unfold pE
     simp only
     rw [if_pos (by simpa using gM),jm,hw]
     simp only [Nat.zero_add,Int.toNat_natCast]
     rw [if_pos (by omega),ad]
     simp only [Option.bind_eq_bind,Option.bind_some,List.getElem?_set_self gM]
     rcases A2 f1 (k:=a+1) (by omega) (by omega) with ⟨rfl,g1⟩|⟨j,c,y,m,rfl,g1,g2,g3,g4⟩
     ·simp only [Option.elim_none]
      rw [g1]
      simp only [Option.bind_some]
      rcases A2 f2 (k:=a+1) (by omega) (by omega) with ⟨rfl,p1⟩|⟨j,c,y,m,rfl,p1,fz,kJ,mY⟩
      ·simp only [Option.elim_none]
       rw [p1]
       exact ⟨_,rfl,⟨n+1,rfl,by omega,by simp only [List.length_set];omega,mj P (fun _ h=>h) _,by simp only;omega,by simp only;omega⟩,by simp;omega⟩
      ·simp only [Option.elim_some]
       rw [p1]
       simp only [Option.bind_some]
       rw [kJ]
       exact ⟨_,rfl,⟨n+1,rfl,by omega,by simp only [List.length_set];omega,mj _ mY _,by simp only;omega,by simp only;omega⟩,by simp;omega⟩
     ·simp only [Option.elim_some]
      rw [g1]
      simp only [Option.bind_some]
      rw [g3]
      simp only [Option.bind_some]
      rcases A2 (g4 _ f2) (k:=a+1+(c:Int)) (by omega) (by omega) with ⟨rfl,p1⟩|⟨gu,cr,ik,dp,rfl,p1,fz,kJ,mY⟩
      ·simp only [Option.elim_none]
       rw [p1]
       exact ⟨_,rfl,⟨n+1,rfl,by omega,by simp only [List.length_set];omega,mj _ g4 _,by simp only;omega,by simp only;omega⟩,by simp;omega⟩
      ·simp only [Option.elim_some]
       rw [p1]
       simp only [Option.bind_some]
       rw [kJ]
       exact ⟨_,rfl,⟨n+1,rfl,by omega,by simp only [List.length_set];omega,mj _ (fun b9 dy=>mY b9 (g4 b9 dy)) _,by simp only;omega,by simp only;omega⟩,by simp;omega⟩) (k,0,l,P) ⟨0,rfl,by omega,rfl,fun j x ad=>aK x (List.mem_of_getElem? ad),h0,by simp⟩
 obtain ⟨ck,dS,pv⟩:=r
 exact ⟨ck,dS,pv,by unfold od zh;rw [r1];rfl,bj⟩
def xg (k:Int) (n:Nat) (x:aB):Prop:=nb (k+4*n)=some x.cu∧x.c5=k+4*n+1∧x.cJ=k+4*n+2∧x.cf=((k+4*n+3).tmod 3 == 0)
def xh (k:Int) (n:Nat) (x:aN):Prop:=x.dg=k+3*n∧x.c0=k+3*n+1∧x.dq=k+3*n+2
theorem Kd {k:Int} {l:List aB} (h0:0≤k) (hlen:l.length≤1048576) (h:k+4*l.length≤1000000000000000000) :
 ∃dS,n9 k l=some (k+4*l.length,dS)∧dS.length=l.length∧ ∀(n:Nat) x,dS[n]? = some x→xg k n x:=by
 obtain ⟨row,h1,R,ai⟩:=qw (f:=fun w:Int×Int×(List aB)=>l2 w.1 w.2.1 w.2.2) (fun (n:Nat) row=>(k+4*(n:Int),(n:Int),row)) l.length
  (fun n row=>row.length=l.length∧ ∀(i:Nat) x,i<n→row[i]? = some x→xg k i x) (fun row=>(k+4*(l.length:Int),row)) (fun n bb row eB=>by
    obtain ⟨g1,g2⟩:=eB
    have gM:n<row.length:=by omega
    obtain ⟨t,bK⟩:=DR (k:=k+4*n) (by omega)
    have jm:ab (k+4*(n:Int)+1)=k+4*n+1:=b4 (by omega) (by omega)
    have jG:ab (k+4*(n:Int)+1+1)=k+4*n+2:=by rw [b4 (by omega) (by omega)];omega
    have kL:ab (k+4*(n:Int)+2+1)=k+4*n+3:=by rw [b4 (by omega) (by omega)];omega
    have rz:ab (k+4*(n:Int)+3+1)=k+4*((n+1:Nat):Int):=by rw [b4 (by omega) (by omega)];omega
    refine ⟨row.set n ⟨t,k+4*n+1,k+4*n+2,((k+4*n+3).tmod 3 == 0)⟩,?_,by rw [List.length_set];exact g1,fun i x a6 ad=> ?_⟩
    ·simp only
     unfold l2
     rw [jm,jG,kL,rz]
     refine jk (by omega) (bW bK (hr (by omega) ?_))
     rw [Int.toNat_natCast,Nat.zero_add,jM (by omega),List.getElem?_eq_getElem gM]
     simp only [Option.bind_eq_bind,Option.bind_some,List.getElem?_set_self gM,List.length_set,List.getElem?_set_self (show n<(row.set n _).length by simpa using gM),List.set_set]
    ·rw [List.getElem?_set] at ad
     by_cases c:n=i
     ·subst c
      rw [if_pos rfl,if_pos gM] at ad
      obtain rfl:=Option.some.inj ad
      exact ⟨bK,rfl,rfl,rfl⟩
     ·rw [if_neg c] at ad
      exact g2 i x (by omega) ad) (fun row eB=>by
    simp only
    unfold l2
    exact jZ (by omega) rfl) l ⟨rfl,fun i x a6=>by omega⟩
 have jA:rL k 0 l=some (k+4*(l.length:Int),row):=by
  unfold rL
  rw [← h1]
  simp
 exact ⟨row,by unfold n9;rw [jA];rfl,R,fun n x ad=>ai n x (by have:=dt ad;omega) ad⟩
theorem JU {k:Int} {l:List aN} (h0:0≤k) (hlen:l.length≤1048576) (h:k+3*l.length≤1000000000000000000) :
 ∃dS,m5 k l=some (k+3*l.length,dS)∧dS.length=l.length∧ ∀(n:Nat) x,dS[n]? = some x→xh k n x:=by
 obtain ⟨row,h1,R,ai⟩:=qw (f:=fun w:Int×Int×(List aN)=>l1 w.1 w.2.1 w.2.2) (fun (n:Nat) row=>(k+3*(n:Int),(n:Int),row)) l.length
  (fun n row=>row.length=l.length∧ ∀(i:Nat) x,i<n→row[i]? = some x→xh k i x) (fun row=>(k+3*(l.length:Int),row)) (fun n bb row eB=>by
    obtain ⟨g1,g2⟩:=eB
    have gM:n<row.length:=by omega
    have jm:ab (k+3*(n:Int)+1)=k+3*n+1:=b4 (by omega) (by omega)
    have jG:ab (k+3*(n:Int)+1+1)=k+3*n+2:=by rw [b4 (by omega) (by omega)];omega
    have kL:ab (k+3*(n:Int)+2+1)=k+3*((n+1:Nat):Int):=by rw [b4 (by omega) (by omega)];omega
    refine ⟨row.set n ⟨k+3*n,k+3*n+1,k+3*n+2⟩,?_,by rw [List.length_set];exact g1,fun i x a6 ad=> ?_⟩
    ·simp only
     unfold l1
     rw [jm,jG,kL]
     refine jk (by omega) (hr (by omega) ?_)
     rw [Int.toNat_natCast,Nat.zero_add,jM (by omega),List.getElem?_eq_getElem gM]
     simp only [Option.bind_eq_bind,Option.bind_some,List.getElem?_set_self gM,List.length_set,List.getElem?_set_self (show n<(row.set n _).length by simpa using gM),List.set_set]
    ·rw [List.getElem?_set] at ad
     by_cases c:n=i
     ·subst c
      rw [if_pos rfl,if_pos gM] at ad
      obtain rfl:=Option.some.inj ad
      exact ⟨rfl,rfl,rfl⟩
     ·rw [if_neg c] at ad
      exact g2 i x (by omega) ad) (fun row eB=>by
    simp only
    unfold l1
    exact jZ (by omega) rfl) l ⟨rfl,fun i x a6=>by omega⟩
 have jA:rJ k 0 l=some (k+3*(l.length:Int),row):=by
  unfold rJ
  rw [← h1]
  simp
 exact ⟨row,by unfold m5;rw [jA];rfl,R,fun n x ad=>ai n x (by have:=dt ad;omega) ad⟩
theorem KM {k:Int} {l:List aB} (h0:0≤k) (hlen:l.length≤1048576) (h:k+4*l.length≤1000000000000000000) (aK : ∀(n:Nat) x,l[n]? = some x→xg k n x):rV l k=some (k+4*l.length):=by
 obtain ⟨s,h1,-⟩:=qw (f:=fun w:Int×Int=>pF l w.1 w.2) (fun (n:Nat) (_:Unit)=>(k+4*(n:Int),(n:Int))) l.length (fun n _=>True) (fun _=> .inl (k+4*(l.length:Int))) (fun n bb _ _=>by
  have ad:=List.getElem?_eq_getElem bb
  obtain ⟨g1,g2,g3,g4⟩:=aK n _ ad
  have jm:ab (k+4*(n:Int)+1)=k+4*n+1:=b4 (by omega) (by omega)
  have jG:ab (k+4*(n:Int)+1+1)=k+4*n+2:=by rw [b4 (by omega) (by omega)];omega
  have kL:ab (k+4*(n:Int)+2+1)=k+4*n+3:=by rw [b4 (by omega) (by omega)];omega
  have rz:ab (k+4*(n:Int)+3+1)=k+4*((n+1:Nat):Int):=by rw [b4 (by omega) (by omega)];omega
  refine ⟨(),?_,trivial⟩
  simp only
  unfold pF
  rw [jm,jG,kL,rz,dw,jM (by omega)]
  exact jk (by omega) (hr (by omega) (bW (gt rfl ad) (bW g1 (gi (by simp) (gi (mr g2) (gi (mr g3) (e3 (by rw [g4];simp) rfl))))))))
  (fun _ _=>by
    simp only
    unfold pF
    rw [dw]
    exact jZ (by omega) rfl) () trivial
 have jA:uZ l k 0=some (.inl (k+4*(l.length:Int))):=by
  unfold uZ
  rw [← h1]
  simp
 unfold rV
 rw [jA]
 rfl
theorem Kv {k:Int} {l:List aN} (h0:0≤k) (hlen:l.length≤1048576) (h:k+3*l.length≤1000000000000000000) (aK : ∀(n:Nat) x,l[n]? = some x→xh k n x):rQ l k=some (k+3*l.length):=by
 obtain ⟨s,h1,-⟩:=qw (f:=fun w:Int×Int=>pB l w.1 w.2) (fun (n:Nat) (_:Unit)=>(k+3*(n:Int),(n:Int))) l.length (fun n _=>True) (fun _=> .inl (k+3*(l.length:Int))) (fun n bb _ _=>by
  have ad:=List.getElem?_eq_getElem bb
  obtain ⟨g1,g2,g3⟩:=aK n _ ad
  have jm:ab (k+3*(n:Int)+1)=k+3*n+1:=b4 (by omega) (by omega)
  have jG:ab (k+3*(n:Int)+1+1)=k+3*n+2:=by rw [b4 (by omega) (by omega)];omega
  have kL:ab (k+3*(n:Int)+2+1)=k+3*((n+1:Nat):Int):=by rw [b4 (by omega) (by omega)];omega
  refine ⟨(),?_,trivial⟩
  simp only
  unfold pB
  rw [jm,jG,kL,dw,jM (by omega)]
  exact jk (by omega) (hr (by omega) (bW (gt rfl ad) (gi (mr g1) (gi (mr g2) (gi (mr g3) rfl))))))
  (fun _ _=>by
    simp only
    unfold pB
    rw [dw]
    exact jZ (by omega) rfl) () trivial
 have jA:uW l k 0=some (.inl (k+3*(l.length:Int))):=by
  unfold uW
  rw [← h1]
  simp
 unfold rQ
 rw [jA]
 rfl
theorem zK {k:Int} {l:List aB} {m:List aN} (h0:0≤k) (PG:l.length≤1048576) (wT:m.length≤1048576) (h:k+4*l.length+3*m.length≤1000000000000000000) (aK : ∀(n:Nat) x,l[n]? = some x→xg k n x) (hm : ∀(n:Nat) x,m[n]? = some x→xh (k+4*l.length) n x) :
 n6 ⟨l,m⟩ k=some (k+4*l.length+3*m.length):=by
 unfold n6
 simp only
 exact bW (KM h0 PG (by omega) aK) (jZ (by omega) (bW (Kv (by omega) wT (by omega) hm) (jZ (by omega) rfl)))
theorem LU (k:Int):st [] k=some false:=by
 have h:vc k [] (len_ U []) 0=some (.inl ()):=by
  unfold vc
  rw [iter]
  rfl
 unfold st
 rw [h]
 rfl
theorem contains_nil (k:Int):qu [] k=some false:=by
 have h:vv [] k (len_ U []) 0=some (.inl ()):=by
  unfold vv
  rw [iter]
  rfl
 unfold qu vR
 rw [h]
 rfl
theorem K0 (s:cX) (h:s.bZ.length≤1000) (aL:s.bs.length≤1000):pM s []=some s.bZ:=by
 obtain ⟨row,h1,R⟩:=qw (f:=fun w:Int×(List aN)=>pz [] s.bZ (len_ ay s.bZ) (([]:List aB)++s.bs) w.1 w.2) (fun (n:Nat) row=>((n:Int),row)) s.bZ.length (fun n row=>row=s.bZ.take n) (fun row=>row) (fun n bb row eB=>by
  have ad:=List.getElem?_eq_getElem bb
  subst eB
  refine ⟨s.bZ.take n++[s.bZ[n]],?_,by rw [List.take_add_one,ad];rfl⟩
  simp only
  unfold pz
  rw [dw,jM (by omega)]
  exact jk (by omega) (hr (by omega) (bW (gt rfl ad) (bW (LU _) (gi rfl (hr (by simp;omega) rfl))))))
  (fun row _=>by
    simp only
    unfold pz
    rw [dw]
    exact jZ (by omega) rfl) [] rfl
 rw [List.take_length] at R
 subst R
 unfold pM xH
 exact hr (by simp;omega) (bW h1 rfl)
theorem K1 (s:cX) (h:s.bZ.length≤1000) (aL:s.bs.length≤1000):rI s []=some (if s.bs=[] then .inl s.bZ else .inr (s.bs,s.bZ)):=by
 have key : ∀(f:Int×List aN→Option ((Int×List aN)⊕List aN)),(∀(n:Nat) row x,s.bZ[n]? = some x→row.length≤n→f ((n:Int),row)=some (.inl ((n:Int)+1,row++[x])))→(∀row,f ((s.bZ.length:Int),row)=some (.inr row))→iter f ((0:Int),[])=some s.bZ:=by
  intro f g1 g2
  obtain ⟨row,h1,R⟩:=qw (f:=f) (fun (n:Nat) row=>((n:Int),row)) s.bZ.length (fun n row=>row=s.bZ.take n) (fun row=>row) (fun n bb row eB=>by
   have ad:=List.getElem?_eq_getElem bb
   subst eB
   exact ⟨s.bZ.take n++[s.bZ[n]],g1 n _ _ ad (by simp;omega),by rw [List.take_add_one,ad];rfl⟩) (fun row _=>g2 row) [] rfl
  rw [List.take_length] at R
  subst R
  exact h1
 have iW : ∀nO,uQ [] s.bZ (len_ ay s.bZ) nO 0 []=some s.bZ:=fun nO=>by
  unfold uQ
  rw [dw]
  refine key _ (fun n row x ad ao=> ?_) (fun row=> ?_)
  ·have bb:=dt ad
   simp only
   unfold rE
   rw [jM (by omega)]
   exact jk (by omega) (hr (by omega) (bW (gt rfl ad) (bW (contains_nil _) (gi rfl (hr (by simp;omega) rfl)))))
  ·simp only
   unfold rE
   exact jZ (by omega) rfl
 have iX:uP [] s.bZ (len_ ay s.bZ) 0 []=some s.bZ:=by
  unfold uP
  rw [dw]
  refine key _ (fun n row x ad ao=> ?_) (fun row=> ?_)
  ·have bb:=dt ad
   simp only
   unfold rD
   rw [jM (by omega)]
   exact jk (by omega) (hr (by omega) (bW (gt rfl ad) (bW (contains_nil _) (gi rfl (hr (by simp;omega) rfl)))))
  ·simp only
   unfold rD
   exact jZ (by omega) rfl
 unfold rI u9
 rw [if_pos (by omega)]
 cases cB:s.bs with
 | nil=>exact bW rfl (bW iX rfl)
 | cons x l=>exact bW rfl (bW (iW _) rfl)
noncomputable def tocQ (p:Int×Int):Int×Bool:=if p.2=1∧(p.1.natAbs:Int)≤9223372036854775807 then (p.1,true) else (0,false)
theorem Lj:Ab=p7:=rfl
theorem Nh {a:List Int} (bL:da a) (mT:a.length≤60) (aS:V a<9223372036854775808):p7 a 0 (ab ((len_ U a)-(1:Int)))=some (V a):=by
 have h:=vq bL mT aS
 obtain ⟨ok,h1,R⟩:=vx (a:=a) (by omega)
 have hH:ok=true:=R.2 ⟨bL,mT⟩
 subst hH
 have a3:da [854775807,223372036,9]:=⟨by intro x ad;simp at ad;omega,by simp⟩
 have pd:V [854775807,223372036,9]=9223372036854775807:=by decide
 unfold l6 at h
 rw [h1] at h
 simp only [Option.bind_eq_bind,Option.bind_some,if_true] at h
 rw [qN bL a3 (by omega),pd] at h
 simp only [Option.bind_some] at h
 rw [if_neg (by simp only [decide_eq_true_eq,vK];omega)] at h
 cases aK:p7 a 0 (ab ((len_ U a)-(1:Int))) with
 | none=>rw [aK] at h;simp at h
 | some r=>rw [aK] at h;simp at h;rw [h]
theorem toInt_eq {n:Int} (h0:0≤n) (h:(L n).length≤60):sF (L n)=some (if n≤9223372036854775807 then (n,true) else (0,false)):=by
 unfold sF
 refine bW (Es (by omega) (by omega)) (bW (vw (hU _) (hU _) (by omega)) ?_)
 rw [e8 h0,e8 (by omega)]
 by_cases c:n≤9223372036854775807
 ·rw [if_pos c]
  refine jZ (by rw [vK];omega) ?_
  rw [Lj]
  exact bW (Nh (hU _) h (by rw [e8 h0];omega)) (by rw [e8 h0])
 ·rw [if_neg c]
  exact jk (by rw [vK];omega) rfl
theorem LV {n:Int} (h0:0≤n) (h:(L n).length≤60):l6 (L n)=some (if n≤9223372036854775807 then (n,true) else (0,false)):=by
 by_cases c:n≤9223372036854775807
 ·rw [if_pos c,vq (hU _) h (by rw [e8 h0];omega),e8 h0]
 ·rw [if_neg c]
  obtain ⟨ok,h1,R⟩:=vx (a:=L n) (by omega)
  have hH:ok=true:=R.2 ⟨hU _,h⟩
  have a3:da [854775807,223372036,9]:=⟨by intro x ad;simp at ad;omega,by simp⟩
  have pd:V [854775807,223372036,9]=9223372036854775807:=by decide
  unfold l6
  refine bW h1 (e3 hH (bW (qN (hU _) a3 (by omega)) (jk ?_ rfl)))
  rw [pd,e8 h0,vK]
  omega
theorem Fw {n:Int} (h0:0≤n) (h:n≤9223372036854775807):ab (0-n) = -n:=by rw [b4 (by omega) (by omega)];omega
theorem Fx {p:Int×Int} (d:p.2=1) (c:(p.1.natAbs:Int)≤9223372036854775807):tocQ p=(p.1,true):=if_pos ⟨d,c⟩
theorem v7 {p:Int×Int} (h : ¬(p.2=1∧(p.1.natAbs:Int)≤9223372036854775807)):tocQ p=(0,false):=if_neg h
theorem MX {p:Int×Int} (ak:Fr p):p8 (lK p)=some (tocQ p):=by
 have h1:=ak.Gl
 have R:=ak.Gm
 have ai:=ak.pos
 unfold p8
 have e0:=toInt_eq (n:=p.1.natAbs) (by omega) (show (L p.1.natAbs).length≤60 by omega)
 have e1:nd (uu p).Bl ([1]:List Int)=some (kX p.2 1):=by
  have:=vw (a:=L p.2) (b:=L 1) (hU _) (hU _) (by omega)
  rw [e8 (by omega),e8 (by omega),NW] at this
  exact this
 have az:(uu p).ty.fo=decide (p.1<0):=rfl
 by_cases c:(p.1.natAbs:Int)≤9223372036854775807
 ·rw [if_pos c] at e0
  by_cases d:p.2=1
  ·rw [Fx d c]
   refine bW rfl (bW e0 (e3 rfl (bW e1 (gi (mr (At.2 d)) ?_))))
   rw [az]
   by_cases e:p.1<0
   ·exact jk e (by simp only;rw [Fw (by omega) c];congr 2;omega)
   ·exact jZ e (by simp only;congr 2;omega)
  ·rw [v7 fun h=>d h.1]
   exact bW rfl (bW e0 (e3 rfl (bW e1 (e3 (GQ (fun h=>d (At.1 h))) rfl))))
 ·rw [if_neg c] at e0
  rw [v7 fun h=>c h.2]
  exact bW rfl (bW e0 (gi rfl rfl))
theorem E9 {p:Int×Int} (ak:Fr p):qo (mk p)=some (tocQ p):=by
 have h1:=ak.Gl
 have R:=ak.Gm
 have ai:=ak.pos
 have e0:=LV (n:=p.1.natAbs) (by omega) (show (L p.1.natAbs).length≤60 by omega)
 have az:(mk p).ch.fo=decide (p.1<0):=rfl
 have hH:og (mk p).ch=some true:=by
  obtain ⟨ok,iW,iX,Cp⟩:=DP (x:=ml p.1) (by show ((L p.1.natAbs).length:Int)<_;omega)
  have Cq:ok=true:=Cp.2 ⟨p.1,rfl,by omega⟩
  rw [Cq] at iW
  exact iW
 unfold qo
 by_cases d:p.2=1
 ·by_cases c:(p.1.natAbs:Int)≤9223372036854775807
  ·rw [if_pos c] at e0
   rw [Fx d c]
   have e:ob (mk p).ch=some (p.1,true):=by
    unfold ob
    refine bW e0 (e3 rfl (bW hH (e3 rfl ?_)))
    rw [az]
    by_cases e:p.1<0
    ·exact jk e (by simp only;rw [Fw (by omega) c];congr 2;omega)
    ·exact jZ e (by simp only;congr 2;omega)
   exact bW (v5 (a:=p.2) (by omega)) (jk d (bW e rfl))
  ·rw [if_neg c] at e0
   rw [v7 fun h=>c h.2]
   have e:ob (mk p).ch=some (0,false):=by
    unfold ob
    exact bW e0 (gi rfl rfl)
   exact bW (v5 (a:=p.2) (by omega)) (jk d (bW e rfl))
 ·rw [v7 fun h=>d h.1]
  exact bW (v5 (a:=p.2) (by omega)) (jZ d rfl)
theorem FN (p:Int×Int):lO (tocQ p).1:=by
 unfold tocQ
 split
 ·rename_i h;exact E1.2 (by simp only;omega)
 ·exact E1.2 (by simp only;omega)
noncomputable def rr (cp:List (Int×Int)) (j:Nat) (x:aB):aB:=⟨x.cu,(tocQ (cp.getD (2*j) (0,1))).1,(tocQ (cp.getD (2*j+1) (0,1))).1,x.cf⟩
noncomputable def jW (cA:List aB) (cp:List (Int×Int)):List aB:=cA.mapIdx fun j x=>rr cp j x
theorem AU {cA:List aB} {cp:List (Int×Int)} {j:Nat}:(jW cA cp)[j]? = cA[j]?.map (rr cp j):=by
 unfold jW;rw [List.getElem?_mapIdx]
theorem sY {cA:List aB} {cp:List (Int×Int)}:(jW cA cp).length=cA.length:=by unfold jW;simp
theorem Mp (cA:List aB) (aL:cA.length≤6) (cp:List (Int×Int)) (ak : ∀p∈cp,Fr p) (aK:cp.length=2*cA.length) (d6:List aN) :
 z0 (cp.map mk) cA.length d6 0 cA=some (if cp.all (fun p=>(tocQ p).2) then .inl (jW cA cp) else .inr ()):=by
 obtain ⟨r,h1,R⟩:=AF (f:=fun w:Int×List aB=>m4 (cp.map mk) cA.length d6 w.1 w.2) (fun (n:Nat) row=>((n:Int),row)) cA.length
  (fun n row=>(∀i,i<2*n→ ∀p,cp[i]? = some p→(tocQ p).2=true)∧row.length=cA.length∧ ∀(i:Nat),row[i]? = if i<n then (jW cA cp)[i]? else cA[i]?)
  (fun r=>r=if cp.all (fun p=>(tocQ p).2) then .inl (jW cA cp) else .inr ()) (fun n bb row eB=>by
    obtain ⟨g1,g2,g3⟩:=eB
    have ad:=List.getElem?_eq_getElem (show 2*n<cp.length by omega)
    have aP:=List.getElem?_eq_getElem (show 2*n+1<cp.length by omega)
    have ly:(cp.map mk)[2*n]? = some (mk cp[2*n]):=by rw [List.getElem?_map,ad];rfl
    have Cr:(cp.map mk)[2*n+1]? = some (mk cp[2*n+1]):=by rw [List.getElem?_map,aP];rfl
    have jm:ab (2*(n:Int))=((2*n:Nat):Int):=by rw [b4 (by omega) (by omega)];omega
    have jG:ab (((2*n:Nat):Int)+1)=((2*n+1:Nat):Int):=by rw [b4 (by omega) (by omega)];omega
    have cq:=List.getElem?_eq_getElem bb
    have ao:row[n]? = some cA[n]:=by rw [g3 n,if_neg (by omega),cq]
    have pw:=E9 (ak _ (List.mem_of_getElem? ad))
    have Cs:=E9 (ak _ (List.mem_of_getElem? aP))
    have no:((tocQ cp[2*n]).2=false∨(tocQ cp[2*n+1]).2=false)→cp.all (fun p=>(tocQ p).2)=false:=by
     rintro (h|h)
     ·rw [List.all_eq_false];exact ⟨_,List.mem_of_getElem? ad,by rw [h];simp⟩
     ·rw [List.all_eq_false];exact ⟨_,List.mem_of_getElem? aP,by rw [h];simp⟩
    by_cases bI:(tocQ cp[2*n]).2=true
    ·by_cases fX:(tocQ cp[2*n+1]).2=true
     ·left
      have gM:n<row.length:=by omega
      refine ⟨row.set n (rr cp n cA[n]),?_,?_,by rw [List.length_set];exact g2,fun i=> ?_⟩
      ·simp only
       unfold m4
       rw [jm,jG]
       refine jk (by omega) (hr (by simp;omega) (bW (gt rfl ly) (bW pw (hr (by simp;omega) (bW (gt rfl Cr) (bW Cs (e3 bI (e3 fX (hr (by omega) ?_)))))))))
       rw [Int.toNat_natCast,Nat.zero_add]
       refine bW ao ?_
       rw [List.getElem?_set_self gM]
       refine bW rfl ?_
       rw [List.set_set,jM (by omega)]
       unfold rr
       rw [List.getD_eq_getElem?_getD,List.getD_eq_getElem?_getD,ad,aP]
       rfl
      ·intro i a6 p mU
       by_cases d:i<2*n
       ·exact g1 i d p mU
       ·by_cases d2:i=2*n
        ·subst d2;rw [ad] at mU;obtain rfl:=Option.some.inj mU;exact bI
        ·obtain rfl:i=2*n+1:=by omega
         rw [aP] at mU;obtain rfl:=Option.some.inj mU;exact fX
      ·rw [List.getElem?_set]
       by_cases d:n=i
       ·subst d
        rw [if_pos rfl,if_pos gM,if_pos (by omega),AU,cq];rfl
       ·rw [if_neg d,g3 i]
        by_cases d2:i<n
        ·rw [if_pos d2,if_pos (by omega)]
        ·rw [if_neg d2,if_neg (by omega)]
     ·right
      simp only [Bool.not_eq_true] at fX
      refine ⟨.inr (),?_,by rw [no (.inr fX)];rfl⟩
      simp only
      unfold m4
      rw [jm,jG]
      exact jk (by omega) (hr (by simp;omega) (bW (gt rfl ly) (bW pw (hr (by simp;omega) (bW (gt rfl Cr) (bW Cs (e3 bI (gi fX rfl))))))))
    ·right
     simp only [Bool.not_eq_true] at bI
     refine ⟨.inr (),?_,by rw [no (.inl bI)];rfl⟩
     simp only
     unfold m4
     rw [jm,jG]
     exact jk (by omega) (hr (by simp;omega) (bW (gt rfl ly) (bW pw (hr (by simp;omega) (bW (gt rfl Cr) (bW Cs (gi bI rfl)))))))) (fun row eB=>by
    obtain ⟨g1,g2,g3⟩:=eB
    have gp:cp.all (fun p=>(tocQ p).2)=true:=by
     rw [List.all_eq_true]
     intro p nM
     obtain ⟨i,a6⟩:=List.getElem?_of_mem nM
     exact g1 i (by have:=dt a6;omega) p a6
    have cF:row=jW cA cp:=List.ext_getElem? fun i=>by
     rw [g3 i]
     by_cases d:i<cA.length
     ·rw [if_pos d]
     ·rw [if_neg d,List.getElem?_eq_none (by omega),List.getElem?_eq_none (by rw [sY];omega)]
    refine ⟨.inl row,?_,by rw [gp,cF];rfl⟩
    simp only
    unfold m4
    exact jZ (by omega) rfl) cA ⟨fun i a6=>by omega,rfl,fun i=>by rw [if_neg (by omega)]⟩
 rw [← R]
 exact h1
theorem Mq (cA:List aB) (aL:cA.length≤6) (cp:List (Int×Int)) (ak : ∀p∈cp,Fr p) (aK:cp.length=2*cA.length) (d6:List aN) :
 zF (cp.map lK) cp.length d6 0 cA=some (if cp.all (fun p=>(tocQ p).2) then .inl (jW cA cp) else .inr ()):=by
 obtain ⟨r,h1,R⟩:=AF (f:=fun w:Int×List aB=>m2 (cp.map lK) cp.length d6 w.1 w.2) (fun (n:Nat) row=>((n:Int),row)) cp.length
  (fun n row=>(∀i,i<n→ ∀p,cp[i]? = some p→(tocQ p).2=true)∧row.length=cA.length∧ ∀(i:Nat),row[i]? = if 2*i+1<n then (jW cA cp)[i]? else if 2*i<n then cA[i]?.map (fun x=>⟨x.cu,(tocQ (cp.getD (2*i) (0,1))).1,x.cJ,x.cf⟩) else cA[i]?)
  (fun r=>r=if cp.all (fun p=>(tocQ p).2) then .inl (jW cA cp) else .inr ()) (fun n bb row eB=>by
    obtain ⟨g1,g2,g3⟩:=eB
    have ad:=List.getElem?_eq_getElem bb
    have ly:(cp.map lK)[n]? = some (lK cp[n]):=by rw [List.getElem?_map,ad];rfl
    have pw:=MX (ak _ (List.mem_of_getElem? ad))
    have Hj:((n:Int).tdiv 2)=((n / 2:Nat):Int):=by rw [Int.tdiv_eq_ediv_of_nonneg (by omega)];omega
    have em:((n:Int).tmod 2)=((n % 2:Nat):Int):=by rw [Int.tmod_eq_emod_of_nonneg (by omega)];omega
    have wd:ab ((n / 2:Nat):Int)=((n / 2:Nat):Int):=b4 (by omega) (by omega)
    have cq:=List.getElem?_eq_getElem (show n / 2<cA.length by omega)
    have gM:n / 2<row.length:=by omega
    by_cases bI:(tocQ cp[n]).2=true
    ·left
     have gp : ∀i,i<n+1→ ∀p,cp[i]? = some p→(tocQ p).2=true:=fun i a6 p mU=>by
      by_cases d:i<n
      ·exact g1 i d p mU
      ·obtain rfl:i=n:=by omega
       rw [ad] at mU;obtain rfl:=Option.some.inj mU;exact bI
     by_cases fX:n % 2=0
     ·have ao:row[n / 2]? = some cA[n / 2]:=by rw [g3,if_neg (by omega),if_neg (by omega),cq]
      refine ⟨row.set (n / 2) ⟨cA[n / 2].cu,(tocQ cp[n]).1,cA[n / 2].cJ,cA[n / 2].cf⟩,?_,gp,by rw [List.length_set];exact g2,fun i=> ?_⟩
      ·simp only
       unfold m2
       rw [Hj,em,wd]
       refine jk (by omega) (hr (by simp;omega) (bW (gt rfl ly) (bW pw (e3 bI (e3 (BU (by omega)) (hr (by omega) ?_))))))
       rw [Int.toNat_natCast,Nat.zero_add]
       refine bW ao ?_
       rw [jM (by omega)]
      ·rw [List.getElem?_set]
       by_cases d:n / 2=i
       ·subst d
        rw [if_pos rfl,if_pos gM,if_neg (by omega),if_pos (by omega),cq,show 2*(n / 2)=n by omega,List.getD_eq_getElem?_getD,ad];rfl
       ·rw [if_neg d,g3 i]
        by_cases d2:2*i+1<n
        ·rw [if_pos d2,if_pos (by omega)]
        ·rw [if_neg d2,if_neg (by omega),if_neg (by omega),if_neg (by omega)]
     ·have ao:row[n / 2]? = some ⟨cA[n / 2].cu,(tocQ (cp.getD (2*(n / 2)) (0,1))).1,cA[n / 2].cJ,cA[n / 2].cf⟩:=by rw [g3,if_neg (by omega),if_pos (by omega),cq];rfl
      refine ⟨row.set (n / 2) (rr cp (n / 2) cA[n / 2]),?_,gp,by rw [List.length_set];exact g2,fun i=> ?_⟩
      ·simp only
       unfold m2
       rw [Hj,em,wd]
       refine jk (by omega) (hr (by simp;omega) (bW (gt rfl ly) (bW pw (e3 bI (gi (GP (by omega)) (hr (by omega) ?_))))))
       rw [Int.toNat_natCast,Nat.zero_add]
       refine bW ao ?_
       rw [jM (by omega)]
       unfold rr
       have az:cp.getD (2*(n / 2)+1) (0,1)=cp[n]:=by rw [show 2*(n / 2)+1=n by omega,List.getD_eq_getElem?_getD,ad];rfl
       rw [az]
      ·rw [List.getElem?_set]
       by_cases d:n / 2=i
       ·subst d
        rw [if_pos rfl,if_pos gM,if_pos (by omega),AU,cq];rfl
       ·rw [if_neg d,g3 i]
        by_cases d2:2*i+1<n
        ·rw [if_pos d2,if_pos (by omega)]
        ·rw [if_neg d2,if_neg (by omega),if_neg (by omega),if_neg (by omega)]
    ·right
     simp only [Bool.not_eq_true] at bI
     have no:cp.all (fun p=>(tocQ p).2)=false:=by
      rw [List.all_eq_false];exact ⟨_,List.mem_of_getElem? ad,by rw [bI];simp⟩
     refine ⟨.inr (),?_,by rw [no];rfl⟩
     simp only
     unfold m2
     exact jk (by omega) (hr (by simp;omega) (bW (gt rfl ly) (bW pw (gi bI rfl))))) (fun row eB=>by
    obtain ⟨g1,g2,g3⟩:=eB
    have gp:cp.all (fun p=>(tocQ p).2)=true:=by
     rw [List.all_eq_true]
     intro p nM
     obtain ⟨i,a6⟩:=List.getElem?_of_mem nM
     exact g1 i (dt a6) p a6
    have cF:row=jW cA cp:=List.ext_getElem? fun i=>by
     rw [g3 i]
     by_cases d:i<cA.length
     ·rw [if_pos (by omega)]
     ·rw [if_neg (by omega),if_neg (by omega),List.getElem?_eq_none (by omega),List.getElem?_eq_none (by rw [sY];omega)]
    refine ⟨.inl row,?_,by rw [gp,cF];rfl⟩
    simp only
    unfold m2
    exact jZ (by omega) rfl) cA ⟨fun i a6=>by omega,rfl,fun i=>by rw [if_neg (by omega),if_neg (by omega)]⟩
 rw [← R]
 exact h1
theorem Lk (s:cX) (i0:l7 s) (d:List cD) (h:d.length≤1048576) (ao : ∀r∈d,mb r) :
 (∃cA:List aB,cA.length=s.bs.length∧s.bs.length≤6∧s.bZ.length≤8∧qp s d=some (⟨cA,s.bZ⟩,true)∧qe s d=some (if cA=[] then .inl s.bZ else .inr (.inr (cA,s.bZ)))) ∨
 (qp s d=some (⟨[],[]⟩,false)∧qe s d=some (.inr (.inl ()))):=by
 obtain ⟨I,bz,aO⟩:=zJ s i0
 unfold qp vb qe vo
 cases I with
 | false =>
  right
  exact ⟨bW (bW bz (gi rfl rfl)) (gi rfl rfl),bW aO (gi rfl rfl)⟩
 | true =>
  obtain ⟨aL,lN,Cc,PH⟩:=Jy s i0 bz
  have hw:ab (2*((s.bs.length:Nat):Int))=((2*s.bs.length:Nat):Int):=by rw [b4 (by omega) (by omega)];omega
  simp only [dw,hw]
  by_cases aK:d.length=2*s.bs.length
  ·rcases LQ d h ao with ⟨cp,ak,nM,v1,v2⟩|⟨v1,v2⟩
   ·have o2:cp.length=2*s.bs.length:=by rw [← aK,nM];simp
    have uw:=Mp s.bs Cc cp ak o2 s.bZ
    have ux:=Mq s.bs Cc cp ak o2 s.bZ
    have i1:l7 ⟨jW s.bs cp,s.bZ⟩:=by
     refine ⟨⟨?_,?_⟩,i0.2⟩
     ·show (jW s.bs cp).length≤maxLen
      rw [sY];exact i0.1.1
     ·intro x ad
      obtain ⟨i,a6⟩:=List.getElem?_of_mem ad
      have ix:(jW s.bs cp)[i]? = some x:=a6
      rw [AU,Option.map_eq_some_iff] at ix
      obtain ⟨y,aP,rfl⟩:=ix
      exact ⟨(i0.1.2 y (List.mem_of_getElem? aP)).1,FN _,FN _,trivial⟩
    obtain ⟨q,q1,gF⟩:=zJ _ i1
    have us:pM s []=some s.bZ:=K0 s (by omega) (by omega)
    have Cd:=K1 s (by omega) (by omega)
    have Ce : ∀ {β:Type} {f:Bool→Option β} {r:Option β},f true=r→((m7 s >>= fun r1=>if r1=true then (if ((d.length:Int) == ((2*s.bs.length:Nat):Int))=true then (oh d >>= fun aZ=>some aZ) else some false) else some false) >>= f)=r:=fun k=>bW (bW bz (e3 rfl (e3 (BU (by omega)) (bW v1 rfl)))) k
    have rj : ∀ {β:Type} {f:(List (Option et)×Bool)→Option β} {r:Option β},f (cp.map lK,true)=r→((if ((d.length:Int) != ((2*s.bs.length:Nat):Int))=true then some (([]:List (Option et)),false) else (ow d >>= fun bj=>some (bj.1,bj.2))) >>= f)=r:=fun k=>bW (gi (mr (by omega)) (bW v2 rfl)) k
    have dN:s.bs=[]↔jW s.bs cp=[]:=by
     rw [← List.length_eq_zero_iff,← List.length_eq_zero_iff,sY]
    by_cases gp:cp.all (fun p=>(tocQ p).2)=true
    ·rw [gp] at uw ux
     cases q with
     | true =>
      left
      refine ⟨jW s.bs cp,sY,Cc,PH,?_,?_⟩
      ·refine Ce (e3 rfl (bW us ?_))
       rw [List.nil_append]
       refine bW (by rw [nM];exact uw) ?_
       exact bW q1 (e3 rfl rfl)
      ·refine bW aO (e3 rfl (rj (e3 rfl (bW Cd ?_))))
       by_cases c:s.bs=[]
       ·have uy:cp=[]:=List.eq_nil_of_length_eq_zero (by rw [o2,c];rfl)
        subst uy
        rw [if_pos c,if_pos (dN.1 c)]
        have ur:p9 (([]:List (Int×Int)).map lK) ((([]:List (Int×Int)).map lK).length:Nat) s.bZ=some (.inl ()):=by
         unfold p9
         rw [iter]
         rfl
        refine bW ur ?_
        rw [dN.1 c] at gF
        exact bW gF (e3 rfl rfl)
       ·rw [if_neg c,if_neg (fun h=>c (dN.2 h))]
        simp only [List.length_map]
        exact bW ux (bW gF (e3 rfl rfl))
     | false =>
      right
      refine ⟨?_,?_⟩
      ·refine Ce (e3 rfl (bW us ?_))
       rw [List.nil_append]
       exact bW (by rw [nM];exact uw) (bW q1 (gi rfl rfl))
      ·refine bW aO (e3 rfl (rj (e3 rfl (bW Cd ?_))))
       by_cases c:s.bs=[]
       ·have uy:cp=[]:=List.eq_nil_of_length_eq_zero (by rw [o2,c];rfl)
        subst uy
        rw [if_pos c]
        have ur:p9 (([]:List (Int×Int)).map lK) ((([]:List (Int×Int)).map lK).length:Nat) s.bZ=some (.inl ()):=by
         unfold p9
         rw [iter]
         rfl
        refine bW ur ?_
        rw [dN.1 c] at gF
        exact bW gF (gi rfl rfl)
       ·rw [if_neg c]
        simp only [List.length_map]
        exact bW ux (bW gF (gi rfl rfl))
    ·simp only [Bool.not_eq_true] at gp
     rw [gp] at uw ux
     have c : ¬s.bs=[]:=fun c=>by
      have uy:cp=[]:=List.eq_nil_of_length_eq_zero (by rw [o2,c];rfl)
      rw [uy] at gp
      simp at gp
     right
     refine ⟨?_,?_⟩
     ·refine Ce (e3 rfl (bW us ?_))
      rw [List.nil_append]
      exact bW (by rw [nM];exact uw) rfl
     ·refine bW aO (e3 rfl (rj (e3 rfl (bW Cd ?_))))
      rw [if_neg c]
      simp only [List.length_map]
      exact bW ux rfl
   ·right
    exact ⟨bW (bW bz (e3 rfl (e3 (BU (by omega)) (bW v1 rfl)))) (gi rfl rfl),bW aO (e3 rfl (bW (gi (mr (by omega)) (bW v2 rfl)) (gi rfl rfl)))⟩
  ·right
   exact ⟨bW (bW bz (e3 rfl (gi (GP (by omega)) rfl))) (gi rfl rfl),bW aO (e3 rfl (bW (e3 (GQ (by omega)) rfl) (gi rfl rfl)))⟩
theorem Ig (x0:cX) (x1:(List cD)) (i0:l7 x0) (i1:(fun l=>l.length≤maxLen∧ ∀x∈l,wo x) x1):u0 x0 x1=some true:=by
 unfold u0
 obtain ⟨r,r1,bj⟩:=JS x0 i0 1048576 (by omega) (by omega)
 have hle:=Kt x0 i0 1048576 (by omega) (by omega) r r1
 refine bW r1 (Hg (fun _=>rfl) fun R=> ?_)
 have wS : ¬r<0:=by simpa using R
 obtain ⟨fb,hd⟩:=bj (by omega)
 obtain ⟨t,t1,t2,t3⟩:=Lh x1 i1.1 i1.2 r (by omega) hle
 refine bW t1 (Hg (fun _=>rfl) fun ai=> ?_)
 have Gx : ¬t<0:=by simpa using ai
 obtain ⟨iY,jD⟩:=t3 (by omega)
 obtain ⟨xf,P,bI,fX,kh,uG⟩:=Li x1 iY jD
 obtain ⟨iW,rv,n1,d1,d2,Ha,P2,RE⟩:=IV (k:=1) (l:=x0.bs) (m:=x0.bZ) (by omega) (by omega)
 obtain ⟨iX,uC,RF,f1,f2,f3⟩:=Kc (k:=iW) (l:=xf) (P:=P) uG P2 (by omega)
 have g1:=u5 x0 fb hd
 have g2:=Lg x1 iY jD
 have g3:decide (iX<0)=false:=by simp only [decide_eq_false_iff_not];omega
 refine bW (JT x0 fb hd) (bW bI (hr (List.all_eq_true.mpr fun x ad=>(uG x ad).xe) ?_))
 rw [fX]
 rcases Lk x0 i0 x1 iY jD with ⟨cA,RG,nO,RH,q1,gF⟩|⟨q1,gF⟩
 ·refine bW q1 (bW gF ?_)
  obtain ⟨px,fa,eG,ky⟩:=JU (k:=1+4*cA.length) (l:=x0.bZ) (by omega) (by omega) (by omega)
  by_cases c:cA=[]
  ·subst c
   rw [if_pos rfl]
   have ps:kM ⟨[],x0.bZ⟩ ⟨[],x0.bZ⟩=some true:=u5 _ (by simp) (by simp;omega)
   have uJ:rK 1 [] x0.bZ=some (1+4*(([]:List aB).length:Int)+3*(x0.bZ.length:Int),px):=by
    have:na [] 1=some 1:=by
     unfold na uY
     rw [iter];rfl
    unfold rK
    exact bW this (bW fa rfl)
   have uK:=zK (k:=1) (l:=[]) (m:=px) (by omega) (by simp) (by omega) (by simp;omega) (fun n x ad=>by simp at ad) (fun n x ad=>ky n x ad)
   refine bW ps (e3 rfl (e3 rfl (bW g1 (e3 rfl (bW g2 (e3 rfl (bW d1 (bW f1 (gi g3 (bW uJ (hr (show 0+x0.bZ.length≤px.length by omega) ?_)))))))))))
   rw [List.drop_zero,List.take_of_length_le (show px.length≤x0.bZ.length by omega)]
   refine bW uK (jZ (by simp;omega) (gi (mr ?_) rfl))
   simp only [List.length_nil,eG]
  ·rw [if_neg c]
   obtain ⟨Ct,PI,g7,Cl⟩:=Kd (k:=1) (l:=cA) (by omega) (by omega) (by omega)
   have ps:kM ⟨cA,x0.bZ⟩ ⟨cA,x0.bZ⟩=some true:=u5 _ (by simp;omega) (by simp;omega)
   have uJ:l4 1 cA x0.bZ=some (1+4*(cA.length:Int)+3*(x0.bZ.length:Int),Ct,px):=by
    unfold l4
    exact bW PI (bW fa rfl)
   have uK:=zK (k:=1) (l:=Ct) (m:=px) (by omega) (by omega) (by omega) (by omega) Cl (fun n x ad=>by rw [g7];exact ky n x ad)
   refine bW ps (e3 rfl (e3 rfl (bW g1 (e3 rfl (bW g2 (e3 rfl (bW d1 (bW f1 (gi g3 (bW uJ (hr (show 0+cA.length≤Ct.length by omega) (hr (show 0+x0.bZ.length≤px.length by omega) ?_))))))))))))
   rw [List.drop_zero,List.drop_zero,List.take_of_length_le (by simp;omega),List.take_of_length_le (by simp;omega)]
   refine bW uK (jZ (by omega) (gi (mr ?_) rfl))
   simp only [g7,eG]
 ·refine bW q1 (bW gF ?_)
  have ps:kM ⟨[],[]⟩ ⟨[],[]⟩=some true:=u5 _ (by simp) (by simp)
  have uJ:rH 1 [] []=some 1:=by
   have e1:na [] 1=some 1:=by
    unfold na uY
    rw [iter];rfl
   have az:rR [] 1=some 1:=by
    unfold rR yZ
    rw [iter];rfl
   unfold rH
   exact bW e1 (bW az rfl)
  have uK:=zK (k:=1) (l:=[]) (m:=[]) (by omega) (by simp) (by simp) (by simp) (fun n x ad=>by simp at ad) (fun n x ad=>by simp at ad)
  exact bW ps (e3 rfl (e3 rfl (bW g1 (e3 rfl (bW g2 (e3 rfl (bW d1 (bW f1 (gi g3 (bW uJ (bW uK rfl)))))))))))
end Go.Proofs.YtmmbmjbpfklkcabGreat
