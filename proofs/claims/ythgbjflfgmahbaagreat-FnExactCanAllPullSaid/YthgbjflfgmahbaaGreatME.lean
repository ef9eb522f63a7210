/- Lemmas, plain functions of the program, and what they answer. No condition. -/
import Derived.Test.YthgbjflfgmahbaaGreatMD
namespace Go.Proofs.YthgbjflfgmahbaaGreat
set_option linter.unusedVariables false
set_option autoImplicit true
set_option relaxedAutoImplicit true
set_option linter.unusedSimpArgs false
open Go Go.VL
def uV (bB:Int):Option (Option fy) :=pG bB >>= fun r1 =>some (some (⟨r1,([1]:ar)⟩:fy))
theorem GU:bt (uV bB) (fun r=>Con bz 102 [.n .i64 bB] [] (iF 3 ev r) []):=.ag fun r1 o=>.ret (bq [(J 1),.au (bl 1 (bf 1 (.agg (ba r1)) false) 4)] (.dW (tN r1 o) (lG (show [[.n .i64 (1:Int)]]=(([1]:ar)).map eI from rfl) (show 1=([1]:ar).length from rfl)) (hc eI 1) (d6 ap ([1]:ar)) (nr (pF (⟨r1,([1]:ar)⟩:fy)):i7 [[.b r1.cz,.isl 1 (r1.b8.map eI),.isl 1 (([1]:ar).map eI)]])) (.bo (.vj [.id,.id,.e7 (([1]:ar).map eI)])))
def Qd:d4 (ar×ar) ar:=⟨fun (aI,bc)=>dt [(0,.isl 1 (aI.map eI)),(1,.isl 1 (bc.map eI))] [],fun | a=>⟨some 0,[(0,.isl 1 (a.map eI))],[]⟩⟩
def Av (aI bc:ar):Option ((ar×ar)⊕(ar)) :=if (decide ((0:Int)<(len_ eI bc)))=true then uY aI bc >>= fun bR =>some (.inl (bc,bR.2)) else some (.inr aI)
def QT (aI bc:ar):Option (ar):=iter (fun w:ar×ar=>Av w.1 w.2) (aI,bc)
theorem YB {aI bc:ar}:bt (Av aI bc) (d8 bz 19 0 113 [1,0,0,0] Qd (aI,bc)):=.ite (fun h1=>.ag fun bR U=>.ret (bi [(J 3),.aa true,.au (bl 2 (bf 2 (.dX [.isl 1 (bR.1.map eI),.isl 1 (bR.2.map eI)]) false) 5),(J 4),.aM [] [] (a9 [0,1])] (.aB h1 (G1 bR U)))) (fun h1=>.ret (bi [(J 3),.aa false,.aM [] [] (a9 [0])] (.e1 h1)))
def Bd (aI bc:ar):Option ar :=QT aI bc >>= fun r1 =>some r1
theorem QU:bt (Bd aI bc) (fun r=>Con bz 113 [.isl 1 (aI.map eI),.isl 1 (bc.map eI)] [] (.isl 1 (r.map eI)) []):=.ag fun r1 o=>.ret (bq [(J 1),.aM [] [] (a9 [0,1]),(Qd.t r1),(J 2)] (.e1 (c4 o YB)))
def tb (um:bA)(yC:ar):Option (Option fy) :=if ((len_ eI um.b8) == (0:Int))=true then some (some (⟨(⟨false,([]:ar)⟩:bA),([1]:ar)⟩:fy)) else Bd um.b8 yC >>= fun bR =>ru bR ([1]:ar) >>= fun a7 =>if (a7 == (0:Int))=true then some (some (⟨um,yC⟩:fy)) else uY um.b8 bR >>= fun bE =>uY yC bR >>= fun bw =>mM um.cz bE.1 >>= fun bH =>some (some (⟨bH,bw.1⟩:fy))
theorem KD:bt (tb um yC) (fun r=>Con bz 103 [.agg (ba um),.isl 1 (yC.map eI)] [] (iF 3 ev r) []):=.ite (fun h1=>.ret (bq [(J 2),(J 4),.aa true,(J 4)] (.dW h1 (lG (show [[.n .i64 (1:Int)]]=(([1]:ar)).map eI from rfl) (show 1=([1]:ar).length from rfl)) (hc eI 1) (d6 ap ([1]:ar)) (nr (pF (⟨FT,([1]:ar)⟩:fy)):i7 [[.b false,.isl 1 (([]:ar).map eI),.isl 1 (([1]:ar).map eI)]])) (.bo (.vj [.id,.gg 1,.e7 (([1]:ar).map eI)])))) (fun h1=>.ag fun bR U=>.ag fun a7 ax=>(let t1:List b0:=[(J 2),(J 4),.aa false,.au (bl 3 (bf 2 (.isl 1 (bR.map eI)) false) 1),.au (bl 2 (.call {ac:=[ii,.bo (.cZ (.e7 (([1]:ar).map eI)))],r:= .n .i64 a7,fe:=true,fm:=[12]}) 1)];have aP:=((.eX h1 (QU bR U) (lG (show [[.n .i64 (1:Int)]]=(([1]:ar)).map eI from rfl) (show 1=([1]:ar).length from rfl)) (hc eI 1) (d6 ap ([1]:ar)) (A0 a7 ax) (b2.n .i64 a7)):cH _);.ite (fun aW=>.ret (bq (t1.aQ [.aa true,(J 5)]) (aP.aG (.aB aW (nr (pF (⟨um,yC⟩:fy)):i7 [[.b um.cz,.isl 1 (um.b8.map eI),.isl 1 (yC.map eI)]]))) (.bo (.vj [.id,.id,.id])))) (fun aW=>.ag fun bE bd=>.ag fun bw cE=>.ag fun bH eC=>.ret (bq (t1.aQ [.aa false,.au (bl 3 (bf 2 (.dX [.isl 1 (bE.1.map eI),.isl 1 (bE.2.map eI)]) false) 5),.au (bl 2 (bf 2 (.dX [.isl 1 (bw.1.map eI),.isl 1 (bw.2.map eI)]) false) 5),.au (bl 3 (bf 2 (.agg (ba bH)) false) 4)]) (aP.aG (.dW aW (G1 bE bd) (G1 bw cE) (tP bH eC) (nr (pF (⟨bH,bw.1⟩:fy)):i7 [[.b bH.cz,.isl 1 (bH.b8.map eI),.isl 1 (bw.1.map eI)]]))) (.bo (.vj [.id,.id,.id]))))))
def Dd (dj fu:Option fy):Option (Option fy) :=dj >>= fun fv =>fu >>= fun k4 =>qc fv.rQ k4.rQ >>= fun aL =>st fv.sM k4.sM >>= fun bE =>tb aL bE >>= fun bw =>some bw
theorem Zl:bt (Dd dj fu) (fun r=>Con bz 105 [iF 3 ev dj,iF 3 ev fu] [] (iF 3 ev r) []):=.ag fun fv o=>.ag fun k4 ak=>.ag fun aL aW=>.ag fun bE bd=>.ag fun bw cE=>.ret (bq [(J 1),.au (ae 1 (af (.hb 5 (.hE 3 (some (ev fv))) .e5) (ae 3 (af (.hb 9 (.hE 3 (some (ev k4))) .e5) (ae 2 (af (bf 2 (.agg (ba aL)) false) (ae 1 (af (.hb 14 (.hE 3 (some (ev fv))) .e5) (ae 3 (af (.hb 18 (.hE 3 (some (ev k4))) .e5) (ae 2 (af (bf 2 (.isl 1 (bE.map eI)) false) (af (bf 2 (iF 3 ev bw) false) (ae 1 []))))))))))))))] (.eX (n0 (sz:=3) (f:=ev) o) (n0 (sz:=3) (f:=ev) ak) (xh aL aW) (n0 (sz:=3) (f:=ev) o) (n0 (sz:=3) (f:=ev) ak) (GS bE bd) (KD bw cE)))
def vT (dj:Option fy)(mW:ar):Option bA :=dj >>= fun fv =>st fv.rQ.b8 mW >>= fun aR =>mM fv.rQ.cz aR >>= fun aL =>some aL
theorem Px:bt (vT dj mW) (fun r=>Con bz 141 [iF 3 ev dj,.isl 1 (mW.map eI)] [] (.agg (ba r)) []):=.ag fun fv o=>.ag fun aR ak=>.ag fun aL aW=>.ret (bq [(J 1),.au (ae 1 (af (.hb 5 (.hE 3 (some (ev fv))) .e5) (ae 4 (af (.hb 10 (.hE 3 (some (ev fv))) .e5) (ae 4 (af (bf 2 (.isl 1 (aR.map eI)) false) (af (bf 2 (.agg (ba aL)) false) (ae 1 []))))))))] (.dd (n0 (sz:=3) (f:=ev) o) (n0 (sz:=3) (f:=ev) o) (GS aR ak) (tP aL aW)))
def Dk (dj fu:Option fy):Option (Option fy) :=fu >>= fun fv =>vT dj fv.sM >>= fun aR =>dj >>= fun lr =>vT fu lr.sM >>= fun bE =>vV aR bE >>= fun bw =>st lr.sM fv.sM >>= fun bH =>tb bw bH >>= fun cT =>some cT
theorem ZA:bt (Dk dj fu) (fun r=>Con bz 104 [iF 3 ev dj,iF 3 ev fu] [] (iF 3 ev r) []):=.ag fun fv o=>.ag fun aR ak=>.ag fun lr aW=>.ag fun bE bd=>.ag fun bw cE=>.ag fun bH eC=>.ag fun cT eG=>.ret (bq [(J 1),.au (ae 2 (af (.hb 6 (.hE 3 (some (ev fv))) .e5) (ae 2 (af (bf 2 (.agg (ba aR)) false) (ae 2 (af (.hb 12 (.hE 3 (some (ev lr))) .e5) (ae 2 (af (bf 2 (.agg (ba bE)) false) (af (bf 2 (.agg (ba bw)) false) (ae 1 (af (.hb 18 (.hE 3 (some (ev lr))) .e5) (ae 3 (af (.hb 22 (.hE 3 (some (ev fv))) .e5) (ae 2 (af (bf 2 (.isl 1 (bH.map eI)) false) (af (bf 2 (iF 3 ev cT) false) (ae 1 [])))))))))))))))))] (.aZ (n0 (sz:=3) (f:=ev) o) (Px aR ak) (n0 (sz:=3) (f:=ev) aW) (Px bE bd) (PB bw cE) (n0 (sz:=3) (f:=ev) aW) (n0 (sz:=3) (f:=ev) o) (GS bH eC) (.e1 (KD cT eG))))
def Qe (pf bu:Int)(az aK aq:ar)(ig:Int)(cL:List bS):d4 (Int×Bool×ar×ar×(List (List bA))×ar×(List Bool)) (Bool×ar×(List (List bA))×ar×(List Bool)):=⟨fun (jY,fK,fI,br,hC,ej,hg)=>dt [(0,.ref 0 0 0 0),(5,.ref 4 0 0 0),(7,.bk 5 0 0 br.length),(41,.n .i64 pf),(42,.n .i64 jY)] [(hK 1 2 3 bu pf az aK aq),(aw 1 eI az),(aw 1 eI aK),(aw 1 eI aq),(kh 6 8 9 cL fK fI ej ig hg),(aw 1 eI br),(aw 1 (bJ 7 0 2) cL),(dn 2 ba hC),(aw 1 eI ej),(aw 1 fR hg)],fun | a=>⟨some 0,[(0,.ref 0 0 0 0),(5,.ref 4 0 0 0)],[(hK 1 2 3 bu pf az aK aq),(aw 1 eI az),(aw 1 eI aK),(aw 1 eI aq),(kh 5 7 8 cL a.1 a.2.1 a.2.2.2.1 ig a.2.2.2.2),(aw 1 (bJ 6 0 2) cL),(dn 2 ba a.2.2.1),(aw 1 eI a.2.2.2.1),(aw 1 fR a.2.2.2.2)]⟩⟩
def xj (pf bu:Int)(az aK aq:ar)(ig:Int)(cL:List bS)(jY:Int)(fK:Bool)(fI br:ar)(hC:List (List bA))(ej:ar)(hg:List Bool):Option ((Int×Bool×ar×ar×(List (List bA))×ar×(List Bool))⊕(Bool×ar×(List (List bA))×ar×(List Bool))) :=if (decide (jY<pf))=true then if 0<=jY/\jY<(br.length:Nat) then if (0+jY.toNat)<(List.replicate br.length 0:ar).length then uJ fK fI ig cL hC ej hg ((List.replicate br.length 0:ar).set (0+jY.toNat) (-1)) >>= fun a7 =>some (.inl (R (jY+1),a7.2.1,a7.2.2.1,((List.replicate br.length 0:ar).set (0+jY.toNat) (-1)),a7.2.2.2.1,a7.2.2.2.2.1,a7.2.2.2.2.2)) else none else none else some (.inr (fK,fI,hC,ej,hg))
def Kq (pf bu:Int)(az aK aq:ar)(ig:Int)(cL:List bS)(jY:Int)(fK:Bool)(fI br:ar)(hC:List (List bA))(ej:ar)(hg:List Bool):Option (Bool×ar×(List (List bA))×ar×(List Bool)):=iter (fun w:Int×Bool×ar×ar×(List (List bA))×ar×(List Bool)=>xj pf bu az aK aq ig cL w.1 w.2.1 w.2.2.1 w.2.2.2.1 w.2.2.2.2.1 w.2.2.2.2.2.1 w.2.2.2.2.2.2) (jY,fK,fI,br,hC,ej,hg)
theorem YC:bt (xj pf bu az aK aq ig cL jY fK fI br hC ej hg) (d8 bz 124 4 63 [1,1,1,1,1,1,0,1,0,0] (Qe pf bu az aK aq ig cL) (jY,fK,fI,br,hC,ej,hg)):=.ite (fun h1=>.aT fun o=>.aT fun U=>.ag fun a7 ax=>.ret (let q1:=(List.replicate br.length 0:ar);let aV:=jk 1 0 0 cL.length a7.2.1 a7.2.2.1 3 0 0 a7.2.2.2.2.1.length ig 4 0 0 a7.2.2.2.2.2.length;let bQ:=jk 6 0 0 cL.length fK fI 8 0 0 ej.length ig 9 0 0 hg.length;let cr:=m3 [4,6,7,8,9,5];let du:=iv [4,6,7,8,9,5];let ef:=(ie (l0 br.length (0:Int)) (0+jY.toNat) (-1));let gb:=cd [0,1,2,3,4,5,6,7,8,9];let gJ:=aw 1 eI (q1.set (0+jY.toNat) (-1));let iV:=eV 1 ap (q1.set (0+jY.toNat) (-1));let lm:=dn 2 ba a7.2.2.2.1;bi [(J 1),.aa true,(J 2),(J 2),.au (ae 3 (af .e5 [])),.au (ae 2 (af (.call {a6:=(nf [4,6,7,8,9,5]),dm:=[.bp (kh 1 3 4 cL fK fI ej ig hg),.bp (aw 1 (bJ 2 0 2) cL),.bp (dn 2 ba hC),.pure,.pure,.cO gJ],ac:=[ii,.bo (.cZ (.len ((q1.set (0+jY.toNat) (-1)).length)))],r:= .b a7.1,fc:=(pO cL a7.2.1 a7.2.2.1 a7.2.2.2.2.1 ig a7.2.2.2.2.2 a7.2.2.2.1 gJ),gR:=ii,hZ:=[.bp (kh 6 8 9 cL a7.2.1 a7.2.2.1 a7.2.2.2.2.1 ig a7.2.2.2.2.2),.bp (aw 1 (bJ 7 0 2) cL),.bp lm,.pure,.pure,.pure],fm:=[4,5,6,7,8,9],fe:=false}) [])),(J 2),.aM [0,1,2,3,4,5,6,7,8,9] [.box dh,.pure,.pure,.pure,.box j2,.pure,.bp (aw 1 (bJ 7 0 2) cL),.bp lm,.pure,.pure] [(0,ii),(5,ii),(7,gu ((q1.set (0+jY.toNat) (-1)).length)),(41,ii),(42,ii)]] (.aZ h1 (afj (dr eI br) (d7 br)) o.1 o.2 (LW (lI eI br.length 0) U) (hR 1) ef (i4 cr 6 [(jk 1 0 0 cL.length fK fI 3 0 0 ej.length ig 4 0 0 hg.length)] [bQ] rfl) (.aZ (iU 6 [bQ]) (eE cr 2 7 0 2 rfl cL) (iU 1 (cL.map (bJ 7 0 2))) (eh cr 2 e8 hC) (rl 2 ba hC) (eV 1 ap ej) (eV 1 e6 hg) (c3 1 (gW (lI eI br.length 0) (0+jY.toNat) (-1))) (.aZ iV (i4 du 6 [(jk 6 0 0 cL.length a7.2.1 a7.2.2.1 8 0 0 a7.2.2.2.2.1.length ig 9 0 0 a7.2.2.2.2.2.length)] [aV] rfl) (iU 6 [aV]) (eE du 7 2 0 2 rfl cL) (iU 1 (cL.map (bJ 2 0 2))) (eh du 2 e8 a7.2.2.2.1) (rl 2 ba a7.2.2.2.1) (eV 1 ap a7.2.2.2.2.1) (.aZ (eV 1 e6 a7.2.2.2.2.2) iV (Jv a7 ax) (ao 1 ap az) (ao 1 ap aK) (ao 1 ap aq) (ao 1 ap (q1.set (0+jY.toNat) (-1))) (eE gb 7 7 0 2 rfl cL) (.dd (eh gb 2 e8 a7.2.2.2.1) (ao 1 ap a7.2.2.2.2.1) (ao 1 e6 a7.2.2.2.2.2) ef))))))) (fun h1=>.ret (let mj:=cd [0,1,2,3,4,6,7,8,9];bi [(J 1),.aa false,.aM [0,1,2,3,4,6,7,8,9] [.box dh,.pure,.pure,.pure,.box j2,.bp (aw 1 (bJ 6 0 2) cL),.bp (dn 2 ba hC),.pure,.pure] (a9 [0,5])] (.gv h1 (ao 1 ap az) (ao 1 ap aK) (ao 1 ap aq) (eE mj 6 7 0 2 rfl cL) (eh mj 2 e8 hC) (ao 1 ap ej) (ao 1 e6 hg))))
def Qf (yD bu bj:Int)(az aK aq:ar)(fK:Bool)(fI:ar)(ig:Int)(cL:List bS)(hC:List (List bA))(ej:ar)(hg:List Bool):d4 (Int×(List (Option fy))) (List (Option fy)):=⟨fun (ph,br)=>dt [(0,.ref 0 0 0 0),(5,.ref 4 0 0 0),(9,.bk 5 0 0 br.length),(59,.n .i64 yD),(60,.n .i64 ph)] [(hK 1 2 3 bu bj az aK aq),(aw 1 eI az),(aw 1 eI aK),(aw 1 eI aq),(kh 6 8 9 cL fK fI ej ig hg),(aw 1 (lZ 3 ev) br),(aw 1 (bJ 7 0 2) cL),(dn 2 ba hC),(aw 1 eI ej),(aw 1 fR hg)],fun | a=>⟨some 2,[(0,.ref 0 0 0 0),(5,.ref 4 0 0 0),(9,.bk 5 0 0 a.length)],[(hK 1 2 3 bu bj az aK aq),(aw 1 eI az),(aw 1 eI aK),(aw 1 eI aq),(kh 6 8 9 cL fK fI ej ig hg),(aw 1 (lZ 3 ev) a),(aw 1 (bJ 7 0 2) cL),(dn 2 ba hC),(aw 1 eI ej),(aw 1 fR hg)]⟩⟩
def Aw (yD bu bj:Int)(az aK aq:ar)(fK:Bool)(fI:ar)(ig:Int)(cL:List bS)(hC:List (List bA))(ej:ar)(hg:List Bool)(ph:Int)(br:List (Option fy)):Option ((Int×(List (Option fy)))⊕((List (Option fy)))) :=if (decide (ph<yD))=true then uV 0 >>= fun bR =>if 0<=ph/\ph<(br.length:Nat) then if (0+ph.toNat)<br.length then some (.inl (R (ph+1),br.set (0+ph.toNat) bR)) else none else none else some (.inr br)
def Kr (yD bu bj:Int)(az aK aq:ar)(fK:Bool)(fI:ar)(ig:Int)(cL:List bS)(hC:List (List bA))(ej:ar)(hg:List Bool)(ph:Int)(br:List (Option fy)):Option ((List (Option fy))):=iter (fun w:Int×(List (Option fy))=>Aw yD bu bj az aK aq fK fI ig cL hC ej hg w.1 w.2) (ph,br)
theorem YD:bt (Aw yD bu bj az aK aq fK fI ig cL hC ej hg ph br) (d8 bz 124 4 63 [1,1,1,1,1,1,1,1,0,1,0,0] (Qf yD bu bj az aK aq fK fI ig cL hC ej hg) (ph,br)):=.ite (fun h1=>.ag fun bR U=>.aT fun ak=>.aT fun ax=>.ret (let q1:=cd [0,1,2,3,4,5,6,7,8,9];bi [(J 1),.aa true,(J 2),.au (ae 2 (af (bf 1 (iF 3 ev bR) false) (ae 1 (af .e5 [])))),(J 2),.aM [0,1,2,3,4,5,6,7,8,9] [.box dh,.pure,.pure,.pure,.box j2,.cO (aw 1 (lZ 3 ev) (br.set (0+ph.toNat) bR)),.bp (aw 1 (bJ 7 0 2) cL),.bp (dn 2 ba hC),.pure,.pure] [(0,ii),(5,ii),(9,gu ((br.set (0+ph.toNat) bR).length)),(59,ii),(60,ii)]] (.aZ h1 (GU bR U) ak.1 ak.2 (il (lZ 3 ev) ax) (hR 1) (ao 1 ap az) (ao 1 ap aK) (.gv (ao 1 ap aq) (c3 1 (gW (dr (lZ 3 ev) br) (0+ph.toNat) bR)) (ao 1 (ub (sz:=3) pF) (br.set (0+ph.toNat) bR)) (eE q1 7 7 0 2 rfl cL) (eh q1 2 e8 hC) (ao 1 ap ej) (ao 1 e6 hg) (ie (d7 br) (0+ph.toNat) bR))))) (fun h1=>.ret (let aV:=cd [0,1,2,3,4,5,6,7,8,9];bi [(J 1),.aa false,.aM [0,1,2,3,4,5,6,7,8,9] [.box dh,.pure,.pure,.pure,.box j2,.pure,.bp (aw 1 (bJ 7 0 2) cL),.bp (dn 2 ba hC),.pure,.pure] (a9 [0,5,9])] (.aZ h1 (ao 1 ap az) (ao 1 ap aK) (ao 1 ap aq) (ao 1 (ub (sz:=3) pF) br) (eE aV 7 7 0 2 rfl cL) (eh aV 2 e8 hC) (ao 1 ap ej) (.e1 (ao 1 e6 hg)))))
def Qg (yE bu bj:Int)(az aK aq:ar)(fK:Bool)(fI:ar)(ig:Int)(cL:ar)(fU:List bS)(uo:List (List bA))(hg:List Bool):d4 (Int×(List (Option fy))) (List (Option fy)):=⟨fun (q7,br)=>dt [(0,.ref 0 0 0 0),(5,.ref 4 0 0 0),(9,.bk 5 0 0 br.length),(71,.bk 6 0 0 cL.length),(72,.n .i64 yE),(73,.n .i64 q7)] [(hK 1 2 3 bu bj az aK aq),(aw 1 eI az),(aw 1 eI aK),(aw 1 eI aq),(kh 7 6 9 fU fK fI cL ig hg),(aw 1 (lZ 3 ev) br),(aw 1 eI cL),(aw 1 (bJ 8 0 2) fU),(dn 2 ba uo),(aw 1 fR hg)],fun | a=>⟨some 4,[(0,.ref 0 0 0 0),(9,.bk 4 0 0 a.length)],[(hK 1 2 3 bu bj az aK aq),(aw 1 eI az),(aw 1 eI aK),(aw 1 eI aq),(aw 1 (lZ 3 ev) a)]⟩⟩
def Ax (yE bu bj:Int)(az aK aq:ar)(fK:Bool)(fI:ar)(ig:Int)(cL:ar)(fU:List bS)(uo:List (List bA))(hg:List Bool)(q7:Int)(br:List (Option fy)):Option ((Int×(List (Option fy)))⊕((List (Option fy)))) :=if (decide (q7<yE))=true then if 0<=q7/\q7<(cL.length:Nat) then cL[(0+q7.toNat)]? >>= fun aC =>if 0<=q7/\q7<(fU.length:Nat) then fU[(0+q7.toNat)]? >>= fun b6 =>b6 >>= fun o4 =>uo[o4.1]? >>= fun tD =>if 0<=ig/\ig<(o4.2:Nat) then tD[(0+ig.toNat)]? >>= fun oA =>tb oA fI >>= fun fC =>if 0<=aC/\aC<(br.length:Nat) then if (0+aC.toNat)<br.length then some (.inl (R (q7+1),br.set (0+aC.toNat) fC)) else none else none else none else none else none else some (.inr br)
def Ks (yE bu bj:Int)(az aK aq:ar)(fK:Bool)(fI:ar)(ig:Int)(cL:ar)(fU:List bS)(uo:List (List bA))(hg:List Bool)(q7:Int)(br:List (Option fy)):Option ((List (Option fy))):=iter (fun w:Int×(List (Option fy))=>Ax yE bu bj az aK aq fK fI ig cL fU uo hg w.1 w.2) (q7,br)
theorem YE:bt (Ax yE bu bj az aK aq fK fI ig cL fU uo hg q7 br) (d8 bz 124 4 63 [1,1,1,1,1,1,1,1,1,0,1,0,0] (Qg yE bu bj az aK aq fK fI ig cL fU uo hg) (q7,br)):=.ite (fun h1=>.aT fun o=>.ag fun aC ak=>.aT fun ax=>.ag fun b6 bb=>.ag fun o4 ch=>.ag fun tD eD=>.aT fun eC=>.ag fun oA eG=>.ag fun fC hO=>.aT fun gF=>.aT fun hG=>.ret (let q1:=cd [0,1,2,3,4,5,6,7,8,9];let aV:=jX (gU 2 ba uo) jn eD;bi [(J 1),.aa true,.au (bl 2 (.b5 (eI aC)) 2),.au (ae 8 (af (.b5 ((bJ 8 0 2) b6)) (ae 4 (af (.hb 86 (.bk 8 (o4.1+0) 0 o4.2) (.gm (b1 2 ba tD) [])) (af (.gm (b1 2 ba tD) (ba oA)) (ae 5 (af (bf 2 (iF 3 ev fC) false) (ae 1 (af .e5 []))))))))),(J 2),.aM [0,1,2,3,4,5,6,7,8,9] [.box dh,.pure,.pure,.pure,.box j2,.cO (aw 1 (lZ 3 ev) (br.set (0+aC.toNat) fC)),.pure,.bp (aw 1 (bJ 8 0 2) fU),.bp (dn 2 ba uo),.pure] [(0,ii),(5,ii),(9,gu ((br.set (0+aC.toNat) fC).length)),(71,ii),(72,ii),(73,ii)]] (.aZ h1 o.1 o.2 (bT eI ak) ax.1 ax.2 (bT (bJ 8 0 2) bb) (lJ (ew:=8) (c:=0) (sz:=2) ch) (.aZ aV eC.1 eC.2 aV (bT ba eG) (KD fC hO) gF.1 gF.2 (.aZ (il (lZ 3 ev) hG) (hR 1) (ao 1 ap az) (ao 1 ap aK) (ao 1 ap aq) (c3 1 (gW (dr (lZ 3 ev) br) (0+aC.toNat) fC)) (ao 1 (ub (sz:=3) pF) (br.set (0+aC.toNat) fC)) (ao 1 ap cL) (.dd (eE q1 8 8 0 2 rfl fU) (eh q1 2 e8 uo) (ao 1 e6 hg) (ie (d7 br) (0+aC.toNat) fC))))))) (fun h1=>.ret (bi [(J 1),.aa false,.aM [0,1,2,3,5] [.box dh,.pure,.pure,.pure,.pure] (a9 [0,9])] (.dW h1 (ao 1 ap az) (ao 1 ap aK) (ao 1 ap aq) (ao 1 (ub (sz:=3) pF) br))))
def Qh (ym bu bj:Int)(az aK aq:ar)(bn:List (Option fy)):d4 ((Option fy)×Int) (Option fy):=⟨fun (jg,q4)=>dt [(0,.ref 0 0 0 0),(9,.bk 4 0 0 bn.length),(13,iF 3 ev jg),(102,.bk 4 0 0 bn.length),(103,.n .i64 ym),(104,.n .i64 q4)] [(hK 1 2 3 bu bj az aK aq),(aw 1 eI az),(aw 1 eI aK),(aw 1 eI aq),(aw 1 (lZ 3 ev) bn)],fun | a=>⟨some 6,[(9,.bk 4 0 0 bn.length),(13,iF 3 ev a)],[(hK 1 2 3 bu bj az aK aq),(aw 1 eI az),(aw 1 eI aK),(aw 1 eI aq),(aw 1 (lZ 3 ev) bn)]⟩⟩
def Ay (ym bu bj:Int)(az aK aq:ar)(bn:List (Option fy))(jg:Option fy)(q4:Int):Option (((Option fy)×Int)⊕((Option fy))) :=if (decide (q4<ym))=true then if 0<=q4/\q4<(bn.length:Nat) then bn[(0+q4.toNat)]? >>= fun aC =>if 0<=q4/\q4<(aq.length:Nat) then aq[(0+q4.toNat)]? >>= fun b6 =>uV b6 >>= fun cx =>Dd aC cx >>= fun dq =>Dk jg dq >>= fun d3 =>some (.inl (d3,R (q4+1))) else none else none else some (.inr jg)
def Kt (ym bu bj:Int)(az aK aq:ar)(bn:List (Option fy))(jg:Option fy)(q4:Int):Option ((Option fy)):=iter (fun w:(Option fy)×Int=>Ay ym bu bj az aK aq bn w.1 w.2) (jg,q4)
theorem YF:bt (Ay ym bu bj az aK aq bn jg q4) (d8 bz 124 4 63 [1,1,1,1,1,1,1,1,1,1,1,0,1,0,0] (Qh ym bu bj az aK aq bn) (jg,q4)):=.ite (fun h1=>.aT fun o=>.ag fun aC ak=>.aT fun ax=>.ag fun b6 bb=>.ag fun cx ch=>.ag fun dq eD=>.ag fun d3 eA=>.ret (bi [(J 1),.aa true,.au (bl 2 (.b5 ((lZ 3 ev) aC)) 2),.au (ae 8 (af (.b5 (eI b6)) (af (bf 1 (iF 3 ev cx) false) (af (bf 2 (iF 3 ev dq) false) (af (bf 2 (iF 3 ev d3) false) (ae 1 [])))))),(J 2),.aM [0,1,2,3,4] [.box dh,.pure,.pure,.pure,.pure] (a9 [0,9,13,102,103,104])] (.aZ h1 o.1 o.2 (bT (lZ 3 ev) ak) ax.1 ax.2 (bT eI bb) (GU cx ch) (.el (Zl dq eD) (ZA d3 eA) (ao 1 ap az) (ao 1 ap aK) (ao 1 ap aq) (ao 1 (ub (sz:=3) pF) bn))))) (fun h1=>.ret (bi [(J 1),.aa false,.aM [0,1,2,3,4] [.box dh,.pure,.pure,.pure,.pure] (a9 [9,13])] (.dW h1 (ao 1 ap az) (ao 1 ap aK) (ao 1 ap aq) (ao 1 (ub (sz:=3) pF) bn))))
def tU (e9 ep:Int)(cw fH ee:ar):Option (Int×(List (Option fy))×(Option fy)) :=Bc e9 ep cw fH ee >>= fun r1 =>match r1 with | .inl bD=>(if 0<=bD.2.2.1/\(8:Int)*bD.2.2.1<=281474976710656/\bD.2.2.1<9223372036854775808 then if ee.length<=bD.2.2.1.toNat then uJ bD.1 bD.2.1 bD.2.2.1 bD.2.2.2.1 bD.2.2.2.2.2.2 bD.2.2.2.2.1 bD.2.2.2.2.2.1 (ee++(List.replicate bD.2.2.1.toNat 0:ar).drop ee.length) >>= fun bC =>if bC.1=true then Kq ep e9 cw fH ee bD.2.2.1 bD.2.2.2.1 0 bC.2.1 bC.2.2.1 (ee++(List.replicate bD.2.2.1.toNat 0:ar).drop ee.length) bC.2.2.2.1 bC.2.2.2.2.1 bC.2.2.2.2.2 >>= fun bw =>if 0<=ep/\(8:Int)*ep<=281474976710656/\ep<9223372036854775808 then Kr ((ep.toNat:Nat):Int) e9 ep cw fH ee bw.1 bw.2.1 bD.2.2.1 bD.2.2.2.1 bw.2.2.1 bw.2.2.2.1 bw.2.2.2.2 0 (List.replicate ep.toNat (none:(Option fy)):List (Option fy)) >>= fun d3 =>Ks ((bw.2.2.2.1.length:Nat):Int) e9 ep cw fH ee bw.1 bw.2.1 bD.2.2.1 bw.2.2.2.1 bD.2.2.2.1 bw.2.2.1 bw.2.2.2.2 0 d3 >>= fun fF =>uV 0 >>= fun c9 =>Kt ((fF.length:Nat):Int) e9 ep cw fH ee fF c9 0 >>= fun e4 =>some (0,fF,e4) else none else some (3,([]:List (Option fy)),(none:(Option fy))) else none else none) | .inr bD=>(some (2,([]:List (Option fy)),(none:(Option fy))))
set_option maxHeartbeats 4000000 in
theorem Ku:bt (tU e9 ep cw fH ee) (fun a=>Con bz 63 [.ref 0 0 0 0] (nh e9 ep cw fH ee) (.dX [.n .i64 a.1,.isl 1 (a.2.1.map (lZ 3 ev)),iF 3 ev a.2.2]) (nh e9 ep cw fH ee)):=by
 unfold tU
 exact .ag fun r1 o =>
  (let y4:=ku e9 ep 1 0 0 cw.length 2 0 0 fH.length 3 0 0 ee.length;have bX:=((.dW (i4 (m3 [0,1,2,3]) 5 [y4] [y4] rfl) (iU 5 [y4]) (eV 1 ap cw) (eV 1 ap fH) (eV 1 ap ee)):cH _);
  (by
  rcases r1 with bD|bD
  ·exact(.aT fun ak =>
  .aT fun ax =>
  .ag fun bC bb =>
  (let l8:=[(tC 0 0),(tC 1 0),(tC 2 0),(tC 3 0),(nH [(4,0)]),(nH [(4,1)]),(nH [(4,2)]),(nH [(4,3)]),(tC 4 4)];let p3:=jk 4 1 0 bD.2.2.2.1.length bD.1 bD.2.1 4 2 0 bD.2.2.2.2.1.length bD.2.2.1 4 3 0 bD.2.2.2.2.2.1.length;let j4:=dn 2 ba bD.2.2.2.2.2.2;let oy:=(ee++(List.replicate bD.2.2.1.toNat 0:ar).drop ee.length);let o0:=jk 1 0 0 bD.2.2.2.1.length bC.2.1 bC.2.2.1 3 0 0 bC.2.2.2.2.1.length bD.2.2.1 4 0 0 bC.2.2.2.2.2.length;let p4:=jk 5 0 0 bD.2.2.2.1.length bD.1 bD.2.1 6 0 0 bD.2.2.2.2.1.length bD.2.2.1 7 0 0 bD.2.2.2.2.2.1.length;let r3:=ku e9 ep 1 0 0 cw.length 2 0 0 fH.length 3 0 0 ee.length;let pw:=iv [0,1,2,3,8];let y2:=aw 1 (bJ 8 0 2) bD.2.2.2.1;let wO:=cd [0,1,2,3,8];let y3:=hK 1 2 3 e9 ep cw fH ee;let CC:=m3 [4,5,8,6,7,15];let CD:=iv [4,5,8,6,7,15];let FY:=(l0 bD.2.2.1.toNat (0:Int));let CE:=lI eI bD.2.2.1.toNat 0;let t2:List b0:=[(J 3),.au (bl 1 (.call {a6:=(nf [0,1,2,3]),dm:=[.bp y3,.pure,.pure,.pure],ac:=[ii],r:= .dX [.ref 4 0 0 0,.b true],fc:=[y3,(aw 1 eI cw),(aw 1 eI fH),(aw 1 eI ee),(a8.mk 6 [p3] .live::a8.mk 1 (bD.2.2.2.1.map (bJ 4 4 2)) .live::b1 1 eI bD.2.2.2.2.1::b1 1 fR bD.2.2.2.2.2.1::j4)],gR:= .comp [.cZ .id,.cZ .id],hZ:=[.bp y3,.pure,.pure,.pure,.bp (a8.mk 6 [(jk 8 1 0 bD.2.2.2.1.length bD.1 bD.2.1 8 2 0 bD.2.2.2.2.1.length bD.2.2.1 8 3 0 bD.2.2.2.2.2.1.length)] .live::a8.mk 1 (bD.2.2.2.1.map (bJ 8 4 2)) .live::b1 1 eI bD.2.2.2.2.1::b1 1 fR bD.2.2.2.2.2.1::j4)],fm:=[0,1,2,3],fe:=false}) 5),.aM [0,1,2,3,8] [.box dh,.pure,.pure,.pure,.bp (a8.mk 6 [p3] .live::a8.mk 1 (bD.2.2.2.1.map (bJ 4 4 2)) .live::b1 1 eI bD.2.2.2.2.1::b1 1 fR bD.2.2.2.2.2.1::j4)] [(0,ii),(2,ii),(3,ii),(4,.bo (.cZ (.uD 3))),(5,ii),(6,ii),(16,.comp [.cZ .id,.cZ .id]),(17,ii),(18,.comp [.cZ .id,.cZ .id]),(19,ii),(20,ii)],.uy l8 [([],some (.box dh)),([],some (.pure)),([],some (.pure)),([],some (.pure)),([.box [.at_ 5 0 bD.2.2.2.1.length,.id,.id,.at_ 6 0 bD.2.2.2.2.1.length,.id,.at_ 7 0 bD.2.2.2.2.2.1.length]],none),([.rx y2],none),([.pure],none),([.pure],none),([],some (.rx j4))] [(0,ii),(2,ii),(3,ii),(4,ii),(5,.bo (.cZ (.at_ 4 0 0))),(6,ii),(16,.comp [.cZ (.at_ 4 0 0),.cZ .id]),(17,ii),(18,.comp [.cZ (.at_ 4 0 0),.cZ .id]),(19,.bo (.cZ (.at_ 4 0 0))),(20,ii)],(J 2),.aa false,(J 6),(J 6),.au (bl 2 (.call {a6:=(nf [4,5,8,6,7,15]),dm:=[.bp (kh 1 3 4 bD.2.2.2.1 bD.1 bD.2.1 bD.2.2.2.2.1 bD.2.2.1 bD.2.2.2.2.2.1),.bp (aw 1 (bJ 2 0 2) bD.2.2.2.1),.bp j4,.pure,.pure,.cO (aw 1 eI oy)],ac:=[ii,.bo (.cZ (.len (oy.length)))],r:= .b bC.1,fc:=(pO bD.2.2.2.1 bC.2.1 bC.2.2.1 bC.2.2.2.2.1 bD.2.2.1 bC.2.2.2.2.2 bC.2.2.2.1 (aw 1 eI oy)),gR:=ii,hZ:=[.bp (kh 5 6 7 bD.2.2.2.1 bC.2.1 bC.2.2.1 bC.2.2.2.2.1 bD.2.2.1 bC.2.2.2.2.2),.bp y2,.bp (dn 2 ba bC.2.2.2.1),.pure,.pure,.pure],fm:=[4,5,6,7,8,15],fe:=false}) 1)];
  have fJ:=bX.aG (.aZ (i4 pw 5 [r3] [r3] rfl) (iU 5 [r3]) (eV 1 ap cw) (eV 1 ap fH) (eV 1 ap ee) (fx (show a8.mk 6 [(jk 8 1 0 bD.2.2.2.1.length bD.1 bD.2.1 8 2 0 bD.2.2.2.2.1.length bD.2.2.1 8 3 0 bD.2.2.2.2.2.1.length)] .live=kG (iv [0,1,2,3,8]) (a8.mk 6 [(jk 4 1 0 bD.2.2.2.1.length bD.1 bD.2.1 4 2 0 bD.2.2.2.2.1.length bD.2.2.1 4 3 0 bD.2.2.2.2.2.1.length)] .live) from rfl) (fx (vL pw 8 4 4 2 rfl bD.2.2.2.1) (fx (hS pw 1 jF bD.2.2.2.2.1) (fx (hS pw 1 Ih bD.2.2.2.2.2.1) (eh pw 2 e8 bD.2.2.2.2.2.2))))) ((ls rfl (ls rfl (ls rfl (ls rfl (Hi (gU 2 ba bD.2.2.2.2.2.2)))))):nS (a8.mk 6 [p3] .live::a8.mk 1 (bD.2.2.2.1.map (bJ 4 4 2)) .live::b1 1 eI bD.2.2.2.2.1::b1 1 fR bD.2.2.2.2.2.1::j4)) (GL (.inl bD) o) (.aZ (ao 1 ap cw) (ao 1 ap fH) (ao 1 ap ee) (fx (show a8.mk 6 [(jk 4 1 0 bD.2.2.2.1.length bD.1 bD.2.1 4 2 0 bD.2.2.2.2.1.length bD.2.2.1 4 3 0 bD.2.2.2.2.2.1.length)] .live=kG (cd [0,1,2,3,8]) (a8.mk 6 [(jk 8 1 0 bD.2.2.2.1.length bD.1 bD.2.1 8 2 0 bD.2.2.2.2.1.length bD.2.2.1 8 3 0 bD.2.2.2.2.2.1.length)] .live) from rfl) (fx (vL wO 4 8 4 2 rfl bD.2.2.2.1) (fx (hS wO 1 jF bD.2.2.2.2.1) (fx (hS wO 1 Ih bD.2.2.2.2.2.1) (eh wO 2 e8 bD.2.2.2.2.2.2))))) (ao 1 ap cw) (ao 1 ap fH) (ao 1 ap ee) (rfl:(hv l8) 5 0=some (4,1)) (.aZ (rfl:bD.2.2.2.1.length=bD.2.2.2.1.length) (rfl:(hv l8) 6 0=some (4,2)) (rfl:bD.2.2.2.2.1.length=bD.2.2.2.2.1.length) (rfl:(hv l8) 7 0=some (4,3)) (rfl:bD.2.2.2.2.2.1.length=bD.2.2.2.2.2.1.length) (HG (EO (kS:=(bJ 8 0 2)) (dr (bJ 4 4 2) bD.2.2.2.1) (fun _=>rfl) (fun x=>(Ii (fun _=>rfl)) x)) H4:re (hv l8) (aw 1 (bJ 4 4 2) bD.2.2.2.1) y2) (ao 1 ap bD.2.2.2.2.1) (ao 1 e6 bD.2.2.2.2.2.1) (.aZ (HH (gU 2 ba bD.2.2.2.2.2.2) (fun _=>rfl) e8:re (hv l8) j4 j4) (rfl:(hv l8) 4 0=some (4,0)) (rfl:(hv l8) 4 0=some (4,0)) (rfl:(hv l8) 4 0=some (4,0)) (rfl:(hv l8) 4 0=some (4,0)) c5 ak.1 (Int.le_refl bD.2.2.1) (.aZ ak.2.1 ak.2.2 (gz eI ee) (af6 (nQ (dr eI ee) (d7 ee)) ax) (nO CE FY) (Uz FY (dE _) ax) (i4 CC 6 [(jk 1 0 0 bD.2.2.2.1.length bD.1 bD.2.1 3 0 0 bD.2.2.2.2.1.length bD.2.2.1 4 0 0 bD.2.2.2.2.2.1.length)] [p4] rfl) (iU 6 [p4]) (.aZ (eE CC 2 8 0 2 rfl bD.2.2.2.1) (iU 1 (bD.2.2.2.1.map (bJ 8 0 2))) (eh CC 2 e8 bD.2.2.2.2.2.2) (rl 2 ba bD.2.2.2.2.2.2) (eV 1 ap bD.2.2.2.2.1) (eV 1 e6 bD.2.2.2.2.2.1) (c3 1 (afi CE (nQ (dr eI ee) (d7 ee)))) (eV 1 ap oy) (.aZ (i4 CD 6 [(jk 5 0 0 bD.2.2.2.1.length bC.2.1 bC.2.2.1 6 0 0 bC.2.2.2.2.1.length bD.2.2.1 7 0 0 bC.2.2.2.2.2.length)] [o0] rfl) (iU 6 [o0]) (eE CD 8 2 0 2 rfl bD.2.2.2.1) (iU 1 (bD.2.2.2.1.map (bJ 2 0 2))) (eh CD 2 e8 bC.2.2.2.1) (rl 2 ba bC.2.2.2.1) (eV 1 ap bC.2.2.2.2.1) (eV 1 e6 bC.2.2.2.2.2) (.aB (eV 1 ap oy) (Jv bC bb)))))))));
  .ite (fun bd =>
  .ag fun bw cE =>
  .aT fun eD =>
  .ag fun d3 eA =>
  .ag fun fF fL =>
  .ag fun c9 gF =>
  .ag fun e4 ha =>
  .ret (let q1:=(List.replicate ep.toNat (none:(Option fy)):List (Option fy));let aV:=(ee++(List.replicate bD.2.2.1.toNat 0:ar).drop ee.length);let bQ:=ku e9 ep 1 0 0 cw.length 2 0 0 fH.length 3 0 0 ee.length;let cr:=ao 1 ap cw;let du:=ao 1 ap fH;let ef:=ao 1 ap ee;let gb:=cd [0,1,2,3,4,15,5,8,6,7];let gJ:=cd [0,1,2,3,4,13,5,6,7,8];let iV:=cd [0,1,2,3,4,5,8,6,7,9];let lm:=aw 1 (bJ 7 0 2) bD.2.2.2.1;let mj:=ao 1 ap bw.2.2.2.1;let p2:=ao 1 e6 bw.2.2.2.2;let kv:=dn 2 ba bw.2.2.1;jK (t2.aQ [.aa false,(J 5),.aM [0,1,2,3,4,15,5,8,6,7] [.box dh,.pure,.pure,.pure,.box j2,.pure,.bp lm,.bp (dn 2 ba bC.2.2.2.1),.pure,.pure] [(0,ii),(5,ii),(7,gu (aV.length)),(41,ii),(42,ii)],((Qe ep e9 cw fH ee bD.2.2.1 bD.2.2.2.1).t bw),.au (bl 4 (.b5 [(iF 3 ev (none:(Option fy)))]) 1),(J 3),.aM [0,1,2,3,4,13,5,6,7,8] [.box dh,.pure,.pure,.pure,.box j2,.cO (aw 1 (lZ 3 ev) q1),.bp lm,.bp kv,.pure,.pure] [(0,ii),(5,ii),(9,gu (q1.length)),(59,ii),(60,ii)],((Qf ((ep.toNat:Nat):Int) e9 ep cw fH ee bw.1 bw.2.1 bD.2.2.1 bD.2.2.2.1 bw.2.2.1 bw.2.2.2.1 bw.2.2.2.2).t d3),(J 6),.aM [0,1,2,3,4,5,8,6,7,9] [.box dh,.pure,.pure,.pure,.box j2,.pure,.pure,.bp (aw 1 (bJ 8 0 2) bD.2.2.2.1),.bp kv,.pure] (a9 [0,5,9,71,72,73]),((Qg ((bw.2.2.2.1.length:Nat):Int) e9 ep cw fH ee bw.1 bw.2.1 bD.2.2.1 bw.2.2.2.1 bD.2.2.2.1 bw.2.2.1 bw.2.2.2.2).t fF),.au (af (bf 1 (iF 3 ev c9) false) (ae 1 [])),(J 3),.aM [0,1,2,3,4] [.box dh,.pure,.pure,.pure,.pure] (a9 [0,9,13,102,103,104]),((Qh ((fF.length:Nat):Int) e9 ep cw fH ee fF).t e4),(J 5)]) [0,1,2,3] [.bp (hK 1 2 3 e9 ep cw fH ee),.pure,.pure,.pure] (fJ.aG (.aZ (cU bd) cr du ef (ao 1 ap aV) (eE gb 7 8 0 2 rfl bD.2.2.2.1) (eh gb 2 e8 bC.2.2.2.1) (ao 1 ap bC.2.2.2.2.1) (.aZ (ao 1 e6 bC.2.2.2.2.2) (Uz (l0 bD.2.2.1.toNat (0:Int)) (dE _) ax) (c4 cE YC) eD.1 (Int.le_refl ep) eD.2.1 eD.2.2 cr (.aZ du ef (c3 1 (lI (lZ 3 ev) ep.toNat (none:(Option fy)))) (ao 1 (ub (sz:=3) pF) q1) (eE gJ 7 6 0 2 rfl bD.2.2.2.1) (eh gJ 2 e8 bw.2.2.1) mj p2 (.aZ (l0 ep.toNat ((none:(Option fy)):(Option fy))) (c4 eA YD) cr du ef (ao 1 (ub (sz:=3) pF) d3) mj (eE iV 8 7 0 2 rfl bD.2.2.2.1) (.aZ (eh iV 2 e8 bw.2.2.1) p2 (c4 fL YE) (GU c9 gF) cr du ef (ao 1 (ub (sz:=3) pF) fF) (.gv (c4 ha YF) (i4 (cd [0,1,2,3]) 5 [bQ] [bQ] rfl) cr du ef (hr (lZ 3 ev) fF) (gz (lZ 3 ev) fF) (d6 (ub (sz:=3) pF) fF)))))))) (.comp [.cZ .id,.cZ (.e7 (fF.map (lZ 3 ev))),.cZ .id])))
  (fun bd =>
  .ret (let n3:=ku e9 ep 1 0 0 cw.length 2 0 0 fH.length 3 0 0 ee.length;jK (t2.aQ [.aa true,(J 3)]) [0,1,2,3] [.bp (hK 1 2 3 e9 ep cw fH ee),.pure,.pure,.pure] (fJ.aG (.dW (cM bd) (i4 (cd [0,1,2,3]) 5 [n3] [n3] rfl) (ao 1 ap cw) (ao 1 ap fH) (ao 1 ap ee))) (.comp [.cZ .id,.cZ (.gg 1),.cZ (.uD 3)])))))
  ·exact(.ret (let ni:=ku e9 ep 1 0 0 cw.length 2 0 0 fH.length 3 0 0 ee.length;let n4:=hK 1 2 3 e9 ep cw fH ee;jK [(J 3),.au (bl 1 (.call {a6:=(nf [0,1,2,3]),dm:=[.bp n4,.pure,.pure,.pure],ac:=[ii],r:= .dX [.js,.b false],fc:=(nh e9 ep cw fH ee),gR:=ii,hZ:=[.bp n4,.pure,.pure,.pure],fm:=[0,1,2,3],fe:=false}) 5),(J 2),.aa true,(J 3)] [0,1,2,3] [.bp n4,.pure,.pure,.pure] (bX.aG (.aZ (i4 (iv [0,1,2,3]) 5 [ni] [ni] rfl) (iU 5 [ni]) (eV 1 ap cw) (eV 1 ap fH) (eV 1 ap ee) (GL (.inr bD) o) cB (i4 (cd [0,1,2,3]) 5 [ni] [ni] rfl) (.bP (ao 1 ap cw) (ao 1 ap fH) (ao 1 ap ee)))) (.comp [.cZ .id,.cZ (.gg 1),.cZ (.uD 3)])))))
def Da (dj:bA):Option bA :=if (decide ((60:Int)<(len_ eI dj.b8)))=true then some (⟨false,([]:ar)⟩:bA) else x6 dj.b8 >>= fun bR =>some (⟨dj.cz,bR⟩:bA)
theorem Zb:bt (Da dj) (fun r=>Con bz 106 [.agg (ba dj)] [] (.agg (ba r)) []):=.ite (fun h1=>.ret (bq [(J 2),(J 4),.aa true,(J 2)] (.e1 h1) (.bo (.agg [.id,.gg 1])))) (fun h1=>.ag fun bR U=>.ret (bq [(J 2),(J 4),.aa false,.au (bl 4 (bf 1 (.isl 1 (bR.map eI)) false) 2)] (.aB h1 (K2 bR U))))
def xL (dj:Option fy):Option aE :=dj.elim (some (⟨(⟨false,([]:ar)⟩:bA),([]:ar)⟩:aE)) fun eS =>Da eS.rQ >>= fun aR =>x6 eS.sM >>= fun aL =>some (⟨aR,aL⟩:aE)
theorem GV:bt (xL dj) (fun r=>Con bz 65 [(iF 3 ev dj)] [] (.agg (aO r)) []):=.nZ (fun h1=>.ret (bq [(J 1),.au (ae 1 (af (.hb 3 (.hE 3 none) .e5) [])),.aa true,(J 2)] (.aB (M9 (sz:=3) (f:=ev) h1) cB) (.bo (.agg [.id,.gg 1,.gg 1])))) (fun eS h1=>.ag fun aR ak=>.ag fun aL aW=>.ret (bq [(J 1),.au (ae 1 (af (.hb 3 (.hE 3 (some (ev eS))) .e5) [])),.aa false,.au (ae 1 (af (.hb 6 (.hE 3 (some (ev eS))) .e5) (ae 2 (af (bf 1 (.agg (ba aR)) false) (ae 1 (af (.hb 11 (.hE 3 (some (ev eS))) .e5) (bl 2 (bf 1 (.isl 1 (aL.map eI)) false) 2)))))))] (.el (n0 (sz:=3) (f:=ev) h1) c5 (n0 (sz:=3) (f:=ev) h1) (Zb aR ak) (n0 (sz:=3) (f:=ev) h1) (K2 aL aW))))
def Dl (bB:Int):Option aE :=uV bB >>= fun r1 =>xL r1 >>= fun aR =>some aR
theorem J2:bt (Dl bB) (fun r=>Con bz 64 [.n .i64 bB] [] (.agg (aO r)) []):=.ag fun r1 o=>.ag fun aR ak=>.ret (bq [(J 1),.au (ae 1 (af (bf 1 (iF 3 ev r1) false) (af (bf 1 (.agg (aO aR)) false) (ae 1 []))))] (.aB (GU r1 o) (GV aR ak)))
def Ed (aI:Option fy):Option (Option fy) :=aI.elim (some (none:(Option fy))) fun eS =>rp eS.rQ >>= fun aR =>some (some (⟨aR,eS.sM⟩:fy))
theorem RU:bt (Ed aI) (fun r=>Con bz 67 [(iF 3 ev aI)] [] (iF 3 ev r) []):=.nZ (fun h1=>.ret (bq [(J 1),.au (ae 1 (af (.hb 3 (.hE 3 none) .e5) [])),.aa true,(J 1)] (.aB (M9 (sz:=3) (f:=ev) h1) cB) (.bo (.cZ (.uD 3))))) (fun eS h1=>.ag fun aR ak=>.ret (bq [(J 1),.au (ae 1 (af (.hb 3 (.hE 3 (some (ev eS))) .e5) [])),.aa false,.au (ae 1 (af (.hb 5 (.hE 3 (some (ev eS))) .e5) (ae 2 (af (bf 1 (.agg (ba aR)) false) (bl 1 (.hb 10 (.hE 3 (some (ev eS))) .e5) 5)))))] (.el (n0 (sz:=3) (f:=ev) h1) c5 (n0 (sz:=3) (f:=ev) h1) (GF aR ak) (n0 (sz:=3) (f:=ev) h1) (nr (pF (⟨aR,eS.sM⟩:fy)):i7 [[.b aR.cz,.isl 1 (aR.b8.map eI),.isl 1 (eS.sM.map eI)]])) (.bo (.vj [.id,.id,.id]))))
def wb (dj:Option fy):Option (Option fy) :=dj >>= fun fv =>if (decide ((24:Int)<(len_ eI fv.rQ.b8)))=true then some (none:(Option fy)) else if (decide ((24:Int)<(len_ eI fv.sM)))=true then some (none:(Option fy)) else some dj
theorem KV:bt (wb dj) (fun r=>Con bz 66 [(iF 3 ev dj)] [] (iF 3 ev r) []):=.ag fun fv o=>(have bX:=((.e1 (n0 (sz:=3) (f:=ev) o)):cH _);.ite (fun U=>.ret (bq [(J 1),.au (ae 1 (af (.hb 3 (.hE 3 (some (ev fv))) .e5) (ae 6 (cA 6 (af (.aa true) []))))),.aa true,(J 1)] (bX.aG (.gv U U U U U U U cB)) (.bo (.cZ (.uD 3))))) (fun U=>(let t2:List b0:=[(J 1),.au (ae 1 (af (.hb 3 (.hE 3 (some (ev fv))) .e5) (ae 7 (af (.hb 11 (.hE 3 (some (ev fv))) .e5) (ae 4 (af (.aa false) []))))))];have fJ:=bX.aG (.gv U U (n0 (sz:=3) (f:=ev) o) U U U U U);.ite (fun ak=>.ret (bq (t2.aQ [.aa true,(J 1)]) (fJ.aG (.e1 ak)) (.bo (.cZ (.uD 3))))) (fun ak=>.ret (bq (t2.aQ [.aa false,(J 2)]) (fJ.aG (.e1 ak)))))))
def CX (a0:dg)(bM ki kg:Int)(d9 cw fH:ar):Option (Bool×ar×ar×Bool×ar×ar×Bool×Bool×Bool×ar) :=xi a0 bM 1 ki kg d9 cw fH >>= fun r1 =>tU ki kg d9 cw r1 >>= fun aR =>if (aR.1 == (2:Int))=true then some (false,([]:ar),([]:ar),false,([]:ar),([]:ar),false,false,false,r1) else if (aR.1 == (3:Int))=true then Dl 0 >>= fun bE =>xi a0 bM (-1) ki kg d9 cw r1 >>= fun bw =>tU ki kg d9 cw bw >>= fun bH =>if (bH.1 == (3:Int))=true then some (bE.dl.cz,bE.dl.b8,bE.eO,bE.dl.cz,bE.dl.b8,bE.eO,true,true,true,bw) else Ed bH.2.2 >>= fun fF =>wb fF >>= fun c9 =>xL c9 >>= fun e4 =>some (e4.dl.cz,e4.dl.b8,e4.eO,bE.dl.cz,bE.dl.b8,bE.eO,false,true,true,bw) else wb aR.2.2 >>= fun bE =>xL bE >>= fun bw =>xi a0 bM (-1) ki kg d9 cw r1 >>= fun bH =>tU ki kg d9 cw bH >>= fun cT =>if (cT.1 == (3:Int))=true then Dl 0 >>= fun c9 =>some (c9.dl.cz,c9.dl.b8,c9.eO,bw.dl.cz,bw.dl.b8,bw.eO,true,false,true,bH) else Ed cT.2.2 >>= fun c9 =>wb c9 >>= fun e4 =>xL e4 >>= fun kj =>some (kj.dl.cz,kj.dl.b8,kj.eO,bw.dl.cz,bw.dl.b8,bw.eO,false,false,true,bH)
theorem X5:bt (CX a0 bM ki kg d9 cw fH) (fun a=>Con bz 38 [.fa 2 [(hy a0)] 0 0,.agg (ku ki kg 0 0 0 d9.length 1 0 0 cw.length 2 0 0 fH.length),.n .i64 bM] [(aw 1 eI d9),(aw 1 eI cw),(aw 1 eI fH)] (.dX [.agg [.b a.1,.isl 1 (a.2.1.map eI),.isl 1 (a.2.2.1.map eI),.b a.2.2.2.1,.isl 1 (a.2.2.2.2.1.map eI),.isl 1 (a.2.2.2.2.2.1.map eI),.b a.2.2.2.2.2.2.1,.b a.2.2.2.2.2.2.2.1],.b a.2.2.2.2.2.2.2.2.1]) [(aw 1 eI d9),(aw 1 eI cw),(aw 1 eI a.2.2.2.2.2.2.2.2.2)]):=.ag fun r1 o=>.ag fun aR ak=>(let l8:=ku ki kg 1 0 0 d9.length 2 0 0 cw.length 3 0 0 r1.length;let p3:=ku ki kg 0 0 0 d9.length 1 0 0 cw.length 2 0 0 r1.length;let j4:=ku ki kg 0 0 0 d9.length 1 0 0 cw.length 2 0 0 fH.length;let oy:=i4 (iv [3,0,1,2]) 5 [p3] [l8] rfl;let o0:=eV 1 ap d9;let p4:=eV 1 ap cw;let r3:=hK 0 1 2 ki kg d9 cw r1;let pw:=eV 1 ap r1;let t1:List b0:=[(J 3),(J 1),.au (ae 2 (af (.call {a6:=(nf [3,0,1,2]),dm:=[.bp (hK 1 2 3 ki kg d9 cw fH),.pure,.pure,.pure],ac:=[ii,ii,ii,ii],r:= .dX [],fc:=(nh ki kg d9 cw r1),gR:=ii,hZ:=[.bp r3,.pure,.pure,.pure],fm:=[0,1,2,3],fe:=false}) [])),.au (af (.call {a6:=(nf [3,0,1,2]),dm:=[.bp (hK 1 2 3 ki kg d9 cw r1),.pure,.pure,.pure],ac:=[ii],r:= .dX [.n .i64 aR.1,.isl 1 (aR.2.1.map (lZ 3 ev)),iF 3 ev aR.2.2],fc:=(nh ki kg d9 cw r1),gR:=ii,hZ:=[.bp r3,.pure,.pure,.pure],fm:=[0,1,2,3],fe:=false}) (ae 7 [])),(J 1),(J 2)];have aP:=((.aZ (i4 (m3 [3,0,1,2]) 5 [(ku ki kg 1 0 0 d9.length 2 0 0 cw.length 3 0 0 fH.length)] [j4] rfl) (iU 5 [j4]) o0 p4 (eV 1 ap fH) oy (iU 5 [l8]) o0 (.aZ p4 pw (JD r1 o) (i4 (m3 [3,0,1,2]) 5 [l8] [p3] rfl) (iU 5 [p3]) o0 p4 pw (.el oy (iU 5 [l8]) o0 p4 pw (Ku aR ak)))):cH _);.ite (fun ax=>.ret (jK (t1.aQ [.aa true,(J 3)]) [0,1,2] [.pure,.pure,.pure] (aP.aG (.dd ax (ao 1 ap d9) (ao 1 ap cw) (ao 1 ap r1))) (.comp [.agg [.id,.gg 1,.gg 1,.id,.gg 1,.gg 1,.id,.id],.cZ .id]))) (fun ax=>.ite (fun aW=>.ag fun bE bd=>.ag fun bw cE=>.ag fun bH eC=>(let q1:=ku ki kg 1 0 0 d9.length 2 0 0 cw.length 3 0 0 bw.length;let aV:=ku ki kg 0 0 0 d9.length 1 0 0 cw.length 2 0 0 bw.length;let bQ:=ku ki kg 0 0 0 d9.length 1 0 0 cw.length 2 0 0 r1.length;let cr:=i4 (iv [3,0,1,2]) 5 [aV] [q1] rfl;let du:=eV 1 ap d9;let ef:=eV 1 ap cw;let gb:=hK 0 1 2 ki kg d9 cw bw;let gJ:=eV 1 ap bw;let t3:List b0:=t1.aQ [.aa false,(J 2),.aa true,.au (af (bf 1 (.agg (aO bE)) false) (ae 4 [])),.au (ae 2 (af (.call {a6:=(nf [3,0,1,2]),dm:=[.bp (hK 1 2 3 ki kg d9 cw r1),.pure,.pure,.pure],ac:=[ii,ii,ii,ii],r:= .dX [],fc:=(nh ki kg d9 cw bw),gR:=ii,hZ:=[.bp gb,.pure,.pure,.pure],fm:=[0,1,2,3],fe:=false}) [])),.au (af (.call {a6:=(nf [3,0,1,2]),dm:=[.bp (hK 1 2 3 ki kg d9 cw bw),.pure,.pure,.pure],ac:=[ii],r:= .dX [.n .i64 bH.1,.isl 1 (bH.2.1.map (lZ 3 ev)),iF 3 ev bH.2.2],fc:=(nh ki kg d9 cw bw),gR:=ii,hZ:=[.bp gb,.pure,.pure,.pure],fm:=[0,1,2,3],fe:=false}) (ae 6 [])),(J 2)];have eQ:=aP.aG (.aZ ax aW (J2 bE bd) (i4 (m3 [3,0,1,2]) 5 [(ku ki kg 1 0 0 d9.length 2 0 0 cw.length 3 0 0 r1.length)] [bQ] rfl) (iU 5 [bQ]) du ef (eV 1 ap r1) (.aZ cr (iU 5 [q1]) du ef gJ (JD bw cE) (i4 (m3 [3,0,1,2]) 5 [q1] [aV] rfl) (iU 5 [aV]) (.aZ du ef gJ cr (iU 5 [q1]) du ef gJ (.e1 (Ku bH eC)))));.ite (fun eA=>.ret (jK (t3.aQ [.aa true,.au (af (bf 1 (.agg (aO bE)) false) (ae 4 [])),(J 3)]) [0,1,2] [.pure,.pure,.pure] (eQ.aG (.dW eA (J2 bE bd) (ao 1 ap d9) (ao 1 ap cw) (ao 1 ap bw))))) (fun eA=>.ag fun fF fL=>.ag fun c9 gF=>.ag fun e4 ha=>.ret (jK (t3.aQ [.aa false,.au (ae 1 (af (bf 1 (iF 3 ev fF) false) (af (bf 1 (iF 3 ev c9) false) (af (bf 1 (.agg (aO e4)) false) (ae 2 []))))),(J 3)]) [0,1,2] [.pure,.pure,.pure] (eQ.aG (.eX eA (RU fF fL) (KV c9 gF) (GV e4 ha) (ao 1 ap d9) (ao 1 ap cw) (ao 1 ap bw))))))) (fun aW=>.ag fun bE bd=>.ag fun bw cE=>.ag fun bH eC=>.ag fun cT eG=>(let iV:=ku ki kg 1 0 0 d9.length 2 0 0 cw.length 3 0 0 bH.length;let lm:=ku ki kg 0 0 0 d9.length 1 0 0 cw.length 2 0 0 bH.length;let mj:=ku ki kg 0 0 0 d9.length 1 0 0 cw.length 2 0 0 r1.length;let p2:=i4 (iv [3,0,1,2]) 5 [lm] [iV] rfl;let kv:=eV 1 ap d9;let n3:=eV 1 ap cw;let ni:=hK 0 1 2 ki kg d9 cw bH;let n4:=eV 1 ap bH;let t3:List b0:=t1.aQ [.aa false,(J 2),.aa false,.au (ae 1 (af (bf 1 (iF 3 ev bE) false) (af (bf 1 (.agg (aO bw)) false) (ae 2 [])))),.au (ae 2 (af (.call {a6:=(nf [3,0,1,2]),dm:=[.bp (hK 1 2 3 ki kg d9 cw r1),.pure,.pure,.pure],ac:=[ii,ii,ii,ii],r:= .dX [],fc:=(nh ki kg d9 cw bH),gR:=ii,hZ:=[.bp ni,.pure,.pure,.pure],fm:=[0,1,2,3],fe:=false}) [])),.au (af (.call {a6:=(nf [3,0,1,2]),dm:=[.bp (hK 1 2 3 ki kg d9 cw bH),.pure,.pure,.pure],ac:=[ii],r:= .dX [.n .i64 cT.1,.isl 1 (cT.2.1.map (lZ 3 ev)),iF 3 ev cT.2.2],fc:=(nh ki kg d9 cw bH),gR:=ii,hZ:=[.bp ni,.pure,.pure,.pure],fm:=[0,1,2,3],fe:=false}) (ae 6 [])),(J 2)];have eQ:=aP.aG (.aZ ax aW (KV bE bd) (GV bw cE) (i4 (m3 [3,0,1,2]) 5 [(ku ki kg 1 0 0 d9.length 2 0 0 cw.length 3 0 0 r1.length)] [mj] rfl) (iU 5 [mj]) kv n3 (.aZ (eV 1 ap r1) p2 (iU 5 [iV]) kv n3 n4 (JD bH eC) (i4 (m3 [3,0,1,2]) 5 [iV] [lm] rfl) (.aZ (iU 5 [lm]) kv n3 n4 p2 (iU 5 [iV]) kv n3 (.aB n4 (Ku cT eG)))));.ite (fun fL=>.ag fun c9 gF=>.ret (jK (t3.aQ [.aa true,.au (af (bf 1 (.agg (aO c9)) false) (ae 4 [])),(J 3)]) [0,1,2] [.pure,.pure,.pure] (eQ.aG (.dW fL (J2 c9 gF) (ao 1 ap d9) (ao 1 ap cw) (ao 1 ap bH))))) (fun fL=>.ag fun c9 gF=>.ag fun e4 ha=>.ag fun kj hP=>.ret (jK (t3.aQ [.aa false,.au (ae 1 (af (bf 1 (iF 3 ev c9) false) (af (bf 1 (iF 3 ev e4) false) (af (bf 1 (.agg (aO kj)) false) (ae 2 []))))),(J 3)]) [0,1,2] [.pure,.pure,.pure] (eQ.aG (.eX fL (RU c9 gF) (KV e4 ha) (GV kj hP) (ao 1 ap d9) (ao 1 ap cw) (ao 1 ap bH)))))))))
def vZ (a0:dg)(da:ar)(bM:Int):Option (oe×Bool) :=xG a0 da >>= fun r1 =>if r1=true then if (decide (bM<0))=true then some ((⟨(⟨(⟨false,([]:ar)⟩:bA),([]:ar)⟩:aE),(⟨(⟨false,([]:ar)⟩:bA),([]:ar)⟩:aE),false,false⟩:oe),false) else if (decide ((len_ cy a0.bO)<=bM))=true then some ((⟨(⟨(⟨false,([]:ar)⟩:bA),([]:ar)⟩:aE),(⟨(⟨false,([]:ar)⟩:bA),([]:ar)⟩:aE),false,false⟩:oe),false) else w8 a0 da 0 0 >>= fun bC =>CX a0 bM bC.1 bC.2.1 bC.2.2.1 bC.2.2.2.1 bC.2.2.2.2 >>= fun cx =>if bC.2.2.2.2.length=cx.2.2.2.2.2.2.2.2.2.length then some ((⟨(⟨(⟨cx.1,cx.2.1⟩:bA),cx.2.2.1⟩:aE),(⟨(⟨cx.2.2.2.1,cx.2.2.2.2.1⟩:bA),cx.2.2.2.2.2.1⟩:aE),cx.2.2.2.2.2.2.1,cx.2.2.2.2.2.2.2.1⟩:oe),cx.2.2.2.2.2.2.2.2.1) else none else some ((⟨(⟨(⟨false,([]:ar)⟩:bA),([]:ar)⟩:aE),(⟨(⟨false,([]:ar)⟩:bA),([]:ar)⟩:aE),false,false⟩:oe),false)
theorem QV:bt (vZ a0 da bM) (fun r=>Con bz 21 [.agg (hy a0),.isl 1 (da.map eI),.n .i64 bM] [] (.dX [.agg (ug r.1),.b r.2]) []):=.ag fun r1 o=>(have bX:=((.aB (Rc r1 o) (b2.b r1)):cH _);.ite (fun U=>(have aP:=bX.aG (.bP (cU U) (cU U) (cU U));.ite (fun ak=>.ret (bq [(J 3),.au (ae 2 (af (bf 2 (.b r1) true) (ae 4 (af (.aa false) (ae 1 (cA 5 (af (.aa true) []))))))),.aa true,(J 3)] (aP.aG (.eX ak ak ak ak ak ak cB)) (.comp [.agg [.id,.gg 1,.gg 1,.id,.gg 1,.gg 1,.id,.id],.cZ .id]))) (fun ak=>(let t3:List b0:=[(J 3),.au (ae 2 (af (bf 2 (.b r1) true) (ae 4 (af (.aa false) (ae 6 (af (.aa false) []))))))];.ite (fun ax=>.ret (bq (t3.aQ [.aa true,(J 3)]) (aP.aG (.eX ak ak ak ak ak ak ax)) (.comp [.agg [.id,.gg 1,.gg 1,.id,.gg 1,.gg 1,.id,.id],.cZ .id]))) (fun ax=>.ag fun bC bb=>.ag fun cx ch=>.aT fun cE=>.ret (let q1:=eV 1 ap bC.2.2.2.1;let aV:=eV 1 ap bC.2.2.1;bq (t3.aQ [.aa false,.jH 0,.au (ae 1 (af (.call {a6:=[],dm:=[],ac:=[.bo (.ptr [.id,.id]),ii,ii,ii],r:= .agg (ku bC.1 bC.2.1 0 0 0 bC.2.2.1.length 0 1 0 bC.2.2.2.1.length 0 2 0 bC.2.2.2.2.length),fc:=[[b1 1 eI bC.2.2.1,b1 1 eI bC.2.2.2.1,b1 1 eI bC.2.2.2.2]],gR:= .bo (.agg dh),hZ:=[.bp [b1 1 eI bC.2.2.1,b1 1 eI bC.2.2.2.1,b1 1 eI bC.2.2.2.2]],fm:=[0],fe:=true}) (bl 1 (.call {a6:=[.al 19 0 (b1 1 eI bC.2.2.1),.al 19 1 (b1 1 eI bC.2.2.2.1),.al 19 2 (b1 1 eI bC.2.2.2.2)],dm:=[.pure,.pure,.pure],ac:=[.bo (.ptr [.id,.id]),.bo (.agg [.id,.id,.at_ 0 0 bC.2.2.1.length,.at_ 1 0 bC.2.2.2.1.length,.at_ 2 0 bC.2.2.2.2.length]),ii],r:= .dX [.agg [.b cx.1,.isl 1 (cx.2.1.map eI),.isl 1 (cx.2.2.1.map eI),.b cx.2.2.2.1,.isl 1 (cx.2.2.2.2.1.map eI),.isl 1 (cx.2.2.2.2.2.1.map eI),.b cx.2.2.2.2.2.2.1,.b cx.2.2.2.2.2.2.2.1],.b cx.2.2.2.2.2.2.2.2.1],fc:=[(aw 1 eI bC.2.2.1),(aw 1 eI bC.2.2.2.1),(aw 1 eI cx.2.2.2.2.2.2.2.2.2)],gR:=ii,hZ:=[.pure,.pure,.pure],fm:=[0,19],fe:=false}) 4)))]) (aP.aG (.aZ ak ak ak ak ak ak ax (nr (vU a0):i7 [(hy a0)]) (.aZ (fx (hS (iv [19]) 1 jF bC.2.2.1) (fx (hS (iv [19]) 1 jF bC.2.2.2.1) (fx (hS (iv [19]) 1 jF bC.2.2.2.2) (l1 (b9:=(iv [19])))))) ((ls rfl (ls rfl (ls rfl xU))):nS [b1 1 eI bC.2.2.1,b1 1 eI bC.2.2.2.1,b1 1 eI bC.2.2.2.2]) (Oj bC bb) (b2.agg (lf (b2.n .i64 bC.1) (lf (b2.n .i64 bC.2.1) (lf (b2.bk 0 0 0 bC.2.2.1.length) (lf (b2.bk 0 1 0 bC.2.2.2.1.length) (lf (b2.bk 0 2 0 bC.2.2.2.2.length) ud)))))) ((qW (mO (ms qo) (mO (ms qo) (mO (ms qo) qY))) qX):ou [[b1 1 eI bC.2.2.1,b1 1 eI bC.2.2.2.1,b1 1 eI bC.2.2.2.2]]) (by decide:0≠1) (by decide:0≠2) (by decide:1≠2) (.aZ (nr (vU a0):i7 [(hy a0)]) (rfl:lU [.al 19 0 (b1 1 eI bC.2.2.1),.al 19 1 (b1 1 eI bC.2.2.2.1),.al 19 2 (b1 1 eI bC.2.2.2.2)] 0 0=some (19,0)) (rfl:bC.2.2.1.length=bC.2.2.1.length) (rfl:lU [.al 19 0 (b1 1 eI bC.2.2.1),.al 19 1 (b1 1 eI bC.2.2.2.1),.al 19 2 (b1 1 eI bC.2.2.2.2)] 1 0=some (19,1)) (rfl:bC.2.2.2.1.length=bC.2.2.2.1.length) (rfl:lU [.al 19 0 (b1 1 eI bC.2.2.1),.al 19 1 (b1 1 eI bC.2.2.2.1),.al 19 2 (b1 1 eI bC.2.2.2.2)] 2 0=some (19,2)) (rfl:bC.2.2.2.2.length=bC.2.2.2.2.length) (rfl:d5 (some [b1 1 eI bC.2.2.1,b1 1 eI bC.2.2.2.1,b1 1 eI bC.2.2.2.2]) 0=some (b1 1 eI bC.2.2.1)) (.aZ aV (rfl:d5 (some [b1 1 eI bC.2.2.1,b1 1 eI bC.2.2.2.1,b1 1 eI bC.2.2.2.2]) 1=some (b1 1 eI bC.2.2.2.1)) q1 (rfl:d5 (some [b1 1 eI bC.2.2.1,b1 1 eI bC.2.2.2.1,b1 1 eI bC.2.2.2.2]) 2=some (b1 1 eI bC.2.2.2.2)) (eV 1 ap bC.2.2.2.2) aV q1 (eV 1 ap cx.2.2.2.2.2.2.2.2.2) (.e1 (X5 cx ch))))))))))))) (fun U=>.ret (bq [(J 3),.au (ae 2 (af (bf 2 (.b r1) true) (ae 2 (cA 2 (af (.aa true) (ae 1 (cA 5 (ae 1 [])))))))),.aa true,(J 3)] (bX.aG (.aZ (cM U) (cM U) (cM U) cB cB cB cB cB (.e1 cB))) (.comp [.agg [.id,.gg 1,.gg 1,.id,.gg 1,.gg 1,.id,.id],.cZ .id]))))
def DR (bB:Int):Option Bool :=if (decide (bB<0))=true then some true else some (decide ((1000000000:Int)<=bB))
theorem aat:bt (DR bB) (fun r=>Con bz 145 [.n .i64 bB] [] (.b r) []):=.ite (fun h1=>.ret (bq [(J 1),.au (ae 3 (cA 2 (af (.aa true) (ae 1 []))))] (.bP h1 h1 h1))) (fun h1=>.ret (bq [(J 1),.au (bl 5 (.aa false) 1)] (.bP h1 h1 h1)))
def XB (a0:ar)(gL:Int):d4 Int ((Unit)⊕(Int)):=⟨fun fz=>dt [(0,.isl 1 (a0.map eI)),(1,.fn 145 []),(7,.n .i64 gL),(8,.n .i64 fz)] [],fun | .inl a=>⟨some 0,[],[]⟩ | .inr a=>⟨none,[(4,.n .i64 a)],[]⟩⟩
def zD (a0:ar)(gL fz:Int):Option ((Int)⊕((Unit)⊕(Int))) :=if (decide (fz<gL))=true then if 0<=fz/\fz<a0.length then a0[fz.toNat]? >>= fun aC =>DR aC >>= fun aL =>if aL=true then some (.inr (.inr fz)) else some (.inl (R (fz+1))) else none else some (.inr (.inl ()))
def Ox (a0:ar)(gL fz:Int):Option ((Unit)⊕(Int)):=iter (fun w:Int=>zD a0 gL w) fz
theorem Oa:bt (zD a0 gL fz) (d8 bz 19 0 133 [1,0,1,0,0] (XB a0 gL) fz):=.ite (fun h1=>.aT fun o=>.ag fun aC ak=>.ag fun aL aW=>(let t1:List b0:=[(J 1),.aa true,(J 2),.au (ae 4 (af (.b5 (eI aC)) (af (bf 1 (.b aL) true) [])))];have aP:=((.el h1 o.1 (db eI o.2) (bT eI ak) (aat aL aW) (b2.b aL)):cH _);.ite (fun bb=>.ret (bi (t1.aQ [.aa true,(J 2),.aM [] [] (a9 [4])]) (aP.aG (.e1 bb)))) (fun bb=>.ret (bi (t1.aQ [.aa false,(J 2),.aM [] [] (a9 [0,1,7,8])]) (aP.aG (.e1 bb)))))) (fun h1=>.ret (bi [(J 1),.aa false,.aM [] [] []] (.e1 h1)))
def GD (a0:ar):Option Int :=Ox a0 (len_ eI a0) 0 >>= fun r1 =>match r1 with | .inl bD=>(some (-1)) | .inr bD=>(some bD)
theorem XR:bt (GD a0) (fun r=>Con bz 133 [.isl 1 (a0.map eI),.fn 145 []] [] (.n .i64 r) []):=by
 unfold GD
 exact .ag fun r1 o =>
  (let t1:List b0:=[(J 1),(J 3),.aM [] [] (a9 [0,1,7,8])];
  (by
  rcases r1 with bD|bD
  ·exact(.ret (bq (t1.aQ [.sub (.exit 0) [] [],(J 1)]) (.e1 (c4 o Oa))))
  ·exact(.ret (bq (t1.aQ [.sub (.ret) [(4,.n .i64 bD)] []]) (.e1 (c4 o Oa))))))
def zO (a0:ar):Option Bool :=GD a0 >>= fun r1 =>some (decide ((0:Int)<=r1))
theorem Om:bt (zO a0) (fun r=>Con bz 95 [.isl 1 (a0.map eI),.fn 145 []] [] (.b r) []):=.ag fun r1 o=>.ret (bq [(J 1),.au (bl 2 (bf 2 (.n .i64 r1) true) 2)] (.aB (XR r1 o) (b2.n .i64 r1)))
def xM (aI:ar):Option Bool :=if (decide ((60:Int)<(len_ eI aI)))=true then some false else if (decide ((0:Int)<(len_ eI aI)))=true then if 0<=(R ((len_ eI aI)-1))/\(R ((len_ eI aI)-1))<aI.length then aI[(R ((len_ eI aI)-1)).toNat]? >>= fun fV =>if (fV == (0:Int))=true then some false else zO aI >>= fun bE =>some (!bE) else none else zO aI >>= fun aR =>some (!aR)
theorem Ru:bt (xM aI) (fun r=>Con bz 111 [.isl 1 (aI.map eI)] [] (.b r) []):=.ite (fun h1=>.ret (bq [(J 1),.au (ae 4 (cA 4 (ae 7 (cA 1 (af (.aa true) []))))),.aa true,(J 1)] (.eX h1 h1 h1 h1 h1 h1 cB))) (fun h1=>.ite (fun o=>.aT fun U=>.ag fun fV ax=>(let t1:List b0:=[(J 1),.au (ae 13 (af (.b5 (eI fV)) (ae 1 (af (.aa true) (af (.aa false) [])))))];have aP:=((.aZ h1 h1 h1 h1 o o o o (.aZ o U.1 (db eI U.2) o (bT eI ax) o h1 o (.e1 h1))):cH _);.ite (fun aW=>.ret (bq (t1.aQ [.aa true,(J 1)]) (aP.aG (.e1 aW)))) (fun aW=>.ag fun bE bd=>.ret (bq (t1.aQ [.aa false,.au (bl 1 (bf 2 (.b bE) true) 2)]) (aP.aG (.bP aW (Om bE bd) (b2.b bE))))))) (fun o=>.ag fun aR ak=>.ret (bq [(J 1),.au (ae 8 (cA 7 (af (.aa false) (af (.aa false) [])))),.aa false,.au (bl 1 (bf 2 (.b aR) true) 2)] (.aZ h1 h1 h1 h1 o o o o (.aZ o o o h1 o h1 c5 (Om aR ak) (.e1 (b2.b aR)))))))
def DI (dj:bA):Option Bool :=xM dj.b8 >>= fun r1 =>if r1=true then if dj.cz=true then some (!((len_ eI dj.b8) == (0:Int))) else some true else some false
theorem Z7:bt (DI dj) (fun r=>Con bz 110 [.agg (ba dj)] [] (.b r) []):=.ag fun r1 o=>(have bX:=((.aB (Ru r1 o) (b2.b r1)):cH _);.ite (fun U=>.ite (fun ak=>.ret (bq [(J 2),.au (ae 2 (af (bf 1 (.b r1) true) (ae 8 (af (.aa true) (bl 1 (.aa true) 1)))))] (bX.aG (.aZ U U U ak ak ak ak U (.bP ak U U))))) (fun ak=>.ret (bq [(J 2),.au (ae 2 (af (bf 1 (.b r1) true) (ae 4 (cA 4 (af (.aa false) (bl 1 (.aa true) 1))))))] (bX.aG (.aZ U U U ak ak ak ak U (.bP ak U U)))))) (fun U=>.ret (bq [(J 2),.au (ae 2 (af (bf 1 (.b r1) true) (ae 1 (cA 3 (ae 4 (cA 2 (af (.aa false) (ae 1 []))))))))] (bX.aG (.el U U U U U U)))))
def Bn (ca:aE):Option Bool :=DI ca.dl >>= fun r1 =>if r1=true then xM ca.eO >>= fun a7 =>if a7=true then if ((len_ eI ca.eO) == (0:Int))=true then some false else if (decide ((24:Int)<(len_ eI ca.dl.b8)))=true then some false else if (decide ((24:Int)<(len_ eI ca.eO)))=true then some false else Bd ca.dl.b8 ca.eO >>= fun dq =>ru dq ([1]:ar) >>= fun d3 =>some (d3 == (0:Int)) else some false else some false
theorem aaV:bt (Bn ca) (fun r=>Con bz 71 [.agg (aO ca)] [] (.b r) []):=.ag fun r1 o=>(have bX:=((.aB (Z7 r1 o) (b2.b r1)):cH _);.ite (fun U=>.ag fun a7 ax=>(have aP:=bX.aG (.eX (cU U) (cU U) (cU U) (Ru a7 ax) (b2.b a7) (cU U) (cU U));.ite (fun aW=>(have fJ:=aP.aG (.dW (cU aW) (cU aW) (cU aW) (cU aW) (cU aW));.ite (fun bb=>.ret (bq [(J 2),.au (ae 2 (af (bf 1 (.b r1) true) (ae 4 (af (bf 1 (.b a7) true) (ae 1 (af (.aa false) (ae 5 (af (.aa false) (ae 1 (cA 5 (af (.aa true) (ae 1 (cA 4 (ae 1 [])))))))))))))),.aa true,(J 1)] (fJ.aG (.aZ bb bb bb bb bb bb cB cB (.bP cB cB cB))))) (fun bb=>.ite (fun bd=>.ret (bq [(J 2),.au (ae 2 (af (bf 1 (.b r1) true) (ae 4 (af (bf 1 (.b a7) true) (ae 1 (af (.aa false) (ae 5 (af (.aa false) (ae 6 (af (.aa false) (ae 1 (cA 4 (af (.aa true) []))))))))))))),.aa true,(J 1)] (fJ.aG (.aZ bb bb bb bb bb bb bd bd (.dd bd bd bd cB))))) (fun bd=>(let t4:List b0:=[(J 2),.au (ae 2 (af (bf 1 (.b r1) true) (ae 4 (af (bf 1 (.b a7) true) (ae 1 (af (.aa false) (ae 5 (af (.aa false) (ae 6 (af (.aa false) (ae 5 (af (.aa false) []))))))))))))];have mL:=fJ.aG (.aZ bb bb bb bb bb bb bd bd (.bP bd bd bd));.ite (fun ch=>.ret (bq (t4.aQ [.aa true,(J 1)]) (mL.aG (.e1 ch)))) (fun ch=>.ag fun dq eD=>.ag fun d3 eA=>.ret (bq (t4.aQ [.aa false,.au (ae 5 (af (bf 2 (.isl 1 (dq.map eI)) false) (bl 1 (.call {ac:=[ii,.bo (.cZ (.e7 (([1]:ar).map eI)))],r:= .n .i64 d3,fe:=true,fm:=[37]}) 2)))]) (mL.aG (.eX ch (QU dq eD) (lG (show [[.n .i64 (1:Int)]]=(([1]:ar)).map eI from rfl) (show 1=([1]:ar).length from rfl)) (hc eI 1) (d6 ap ([1]:ar)) (A0 d3 eA) (b2.n .i64 d3)))))))))) (fun aW=>.ret (bq [(J 2),.au (ae 2 (af (bf 1 (.b r1) true) (ae 4 (af (bf 1 (.b a7) true) (ae 1 (af (.aa false) (ae 1 (cA 4 (af (.aa true) (ae 1 (cA 5 (ae 2 (cA 4 (ae 1 [])))))))))))))),.aa true,(J 1)] (aP.aG (.aZ (cM aW) (cM aW) (cM aW) (cM aW) (cM aW) cB cB cB (.eX cB cB cB cB cB cB cB))))))) (fun U=>.ret (bq [(J 2),.au (ae 2 (af (bf 1 (.b r1) true) (ae 2 (cA 4 (af (.aa true) (ae 1 (cA 4 (ae 2 (cA 5 (ae 2 (cA 4 (ae 1 [])))))))))))),.aa true,(J 1)] (bX.aG (.aZ (cM U) (cM U) (cM U) (cM U) (cM U) cB cB cB (.aZ cB cB cB cB cB cB cB cB (.bP cB cB cB)))))))
def Hm (ca:aE):Option (Option fy) :=Bn ca >>= fun r1 =>if r1=true then some (some (⟨ca.dl,ca.eO⟩:fy)) else some (none:(Option fy))
theorem RC:bt (Hm ca) (fun r=>Con bz 40 [.agg (aO ca)] [] (iF 3 ev r) []):=.ag fun r1 o=>(let t1:List b0:=[(J 2),.au (bl 1 (bf 1 (.b r1) true) 1)];have aP:=((.aB (aaV r1 o) (b2.b r1)):cH _);.ite (fun U=>.ret (bq (t1.aQ [.aa false,(J 7)]) (aP.aG (.aB (cU U) (nr (pF (⟨ca.dl,ca.eO⟩:fy)):i7 [(aO ca)]))) (.bo (.vj [.id,.id,.id])))) (fun U=>.ret (bq (t1.aQ [.aa true,(J 1)]) (aP.aG (.e1 (cM U))) (.bo (.cZ (.uD 3))))))
def A1 (dj:Option fy):Option Int :=dj >>= fun fv =>qd fv.rQ >>= fun aR =>some aR
theorem ZB:bt (A1 dj) (fun r=>Con bz 41 [(iF 3 ev dj)] [] (.n .i64 r) []):=.ag fun fv o=>.ag fun aR ak=>.ret (bq [(J 1),.au (ae 1 (af (.hb 3 (.hE 3 (some (ev fv))) .e5) (bl 2 (bf 1 (.n .i64 aR) true) 1)))] (.bP (n0 (sz:=3) (f:=ev) o) (uK aR ak) (b2.n .i64 aR)))
def xC (ca:aE):Option Int :=Hm ca >>= fun r1 =>r1.elim (some 0) fun ka =>A1 r1 >>= fun aL =>some aL
theorem aau:bt (xC ca) (fun r=>Con bz 22 [.agg (aO ca)] [] (.n .i64 r) []):=.ag fun r1 o=>(let t1:List b0:=[(J 2),.au (bl 1 (bf 1 (iF 3 ev r1) false) 1)];.nZ (fun U=>.ret (bq (t1.aQ [.au (ae 1 (af (.hb 6 (.hE 3 none) .e5) [])),.aa true,(J 1)]) (.bP (RC r1 o) (M9 (sz:=3) (f:=ev) U) cB))) (fun ka U=>.ag fun aL aW=>.ret (bq (t1.aQ [.au (ae 1 (af (.hb 6 (.hE 3 (some (ev ka))) .e5) [])),.aa false,.au (bl 1 (bf 1 (.n .i64 aL) true) 1)]) (.dW (RC r1 o) (n0 (sz:=3) (f:=ev) U) c5 (ZB aL aW) (b2.n .i64 aL)))))
def J5 (bM:Int)(cZ:dg)(bo:ar):Option Bool :=vZ cZ bo bM >>= fun r1 =>if r1.1.qi=true then some false else xC r1.1.nT >>= fun a7 =>some (decide (a7<=0))
theorem Zc:bt (J5 bM cZ bo) (fun r=>Con bz 20 [.n .i64 bM,.fa 2 [(hy cZ)] 0 0,.fa 1 [[.isl 1 (bo.map eI)]] 0 0] [] (.b r) []):=.ag fun r1 o=>(let t1:List b0:=[(J 1),.au (bl 3 (bf 3 (.dX [.agg (ug r1.1),.b r1.2]) false) 6)];.ite (fun U=>.ret (bq (t1.aQ [.au (ae 4 (cA 4 (af (.aa false) (ae 1 []))))]) (.el (QV r1 o) (cU U) (cU U) (cU U) (cU U) (cU U)))) (fun U=>.ag fun a7 ax=>.ret (bq (t1.aQ [.au (ae 6 (af (bf 1 (.n .i64 a7) true) (bl 1 (.aa true) 1)))]) (.gv (QV r1 o) (cM U) (cM U) (cM U) (aau a7 ax) (b2.n .i64 a7) (cM U) (cM U)))))
def W8 (iZ:List eb)(hJ:List ed)(yn:List eb)(x8:List ed)(xZ:ar)(eg:Int):d4 (Int×ar) ar:=⟨fun (eB,aj)=>dt [(0,.fa 2 [[.isl 4 (iZ.map cn),.isl 3 (hJ.map cy)]] 0 0),(1,.fn 20 [.fa 2 [[.isl 4 (yn.map cn),.isl 3 (x8.map cy)]] 0 0,.fa 1 [[.isl 1 (xZ.map eI)]] 0 0]),(5,.bk 0 0 0 aj.length),(11,.n .i64 eg),(12,.n .i64 eB)] [(aw 1 eI aj)],fun | a=>⟨some 0,[(5,.bk 0 0 0 a.length)],[(aw 1 eI a)]⟩⟩
def zw (iZ:List eb)(hJ:List ed)(yn:List eb)(x8:List ed)(xZ:ar)(eg eB:Int)(aj:ar):Option ((Int×ar)⊕(ar)) :=if (decide (eB<eg))=true then C1 (⟨iZ,hJ⟩:dg) eB >>= fun bR =>if bR=true then J5 eB (⟨yn,x8⟩:dg) xZ >>= fun aL =>if aL=true then if (aj++([eB]:ar)).length*8<=140737488355328 then some (.inl (R (eB+1),aj++([eB]:ar))) else none else some (.inl (R (eB+1),aj)) else some (.inl (R (eB+1),aj)) else some (.inr aj)
def Jm (iZ:List eb)(hJ:List ed)(yn:List eb)(x8:List ed)(xZ:ar)(eg eB:Int)(aj:ar):Option (ar):=iter (fun w:Int×ar=>zw iZ hJ yn x8 xZ eg w.1 w.2) (eB,aj)
theorem W7:bt (zw iZ hJ yn x8 xZ eg eB aj) (d8 bz 29 0 19 [1,1,0,1,0,0] (W8 iZ hJ yn x8 xZ eg) (eB,aj)):=.ite (fun h1=>.ag fun bR U=>(let t1:List b0:=[(J 1),.aa true,(J 2)];have aP:=((.bP h1 (Yl bR U) (b2.b bR)):cH _);.ite (fun ak=>.ag fun aL aW=>(let t3:List b0:=t1.aQ [.au (ae 2 (af (bf 2 (.b bR) true) (ae 3 (af (bf 3 (.b aL) true) (af (.aa true) [])))))];have eQ:=aP.aG (.el ak ak ak (Zc aL aW) (b2.b aL) ak);.ite (fun bb=>.aT fun bd=>.ret (let q1:=(aj++([eB]:ar));bi (t3.aQ [.aa true,.au (bl 3 (.aG (q1.length)) 1),(J 2),.aM [15] [.cO (aw 1 eI q1)] [(0,ii),(1,.comp [.cZ .id,.cZ .id]),(5,ii),(11,ii),(12,ii)]]) (eQ.aG (.eX bb (hc eI eB) (hH eI aj) (hd eI aj eB) bd (c3 1 (hU eI aj eB)) (ao 1 ap q1))))) (fun bb=>.ret (bi (t3.aQ [.aa false,(J 2),.aM [0] [.pure] [(0,ii),(1,.comp [.cZ .id,.cZ .id]),(5,ii),(11,ii),(12,ii)]]) (eQ.aG (.aB bb (ao 1 ap aj))))))) (fun ak=>.ret (bi (t1.aQ [.au (ae 2 (af (bf 2 (.b bR) true) (ae 1 (cA 3 (af (.aa false) []))))),.aa false,(J 2),.aM [0] [.pure] [(0,ii),(1,.comp [.cZ .id,.cZ .id]),(5,ii),(11,ii),(12,ii)]]) (aP.aG (.el ak ak ak ak c5 (ao 1 ap aj))))))) (fun h1=>.ret (bi [(J 1),.aa false,.aM [0] [.pure] (a9 [5])] (.aB h1 (ao 1 ap aj))))
def Jn (a0 HO:dg)(LK:ar):Option ar :=Jm a0.cp a0.bO HO.cp HO.bO LK (len_ cy a0.bO) 0 ([]:ar) >>= fun r1 =>some r1
theorem W9:bt (Jn a0 HO LK) (fun r=>Con bz 19 [.fa 2 [(hy a0)] 0 0,.fn 20 [.fa 2 [(hy HO)] 0 0,.fa 1 [[.isl 1 (LK.map eI)]] 0 0]] [] (.isl 1 (r.map eI)) []):=.ag fun r1 o=>.ret (bq [(J 1),(J 1),(J 6),.vm 5 1,.aM [8] [.cO (aw 1 eI ([]:ar))] [(0,ii),(1,.comp [.cZ .id,.cZ .id]),(5,gu (([]:ar).length)),(11,ii),(12,ii)],.sub (.exit 0) [(5,.bk 0 0 0 r1.length)] [(aw 1 eI r1)],(J 2)] (.eX (c3 1 (hT eI)) (ao 1 ap ([]:ar)) (fN Int) (c4 o W7) (hr eI r1) (gz eI r1) (d6 ap r1)) (.bo (.cZ (.e7 (r1.map eI)))))
def Dm (a0:dg)(da:ar):Option Bool :=DH a0 da >>= fun r1 =>if r1=true then Jn a0 a0 da >>= fun a7 =>some ((len_ eI a7) == (0:Int)) else some false
theorem ZC:bt (Dm a0 da) (fun r=>Con bz 8 [.agg (hy a0),.isl 1 (da.map eI)] [] (.b r) []):=.ag fun r1 o=>(let t1:List b0:=[(J 3),.au (bl 2 (bf 2 (.b r1) true) 1)];have aP:=((.aB (Z6 r1 o) (b2.b r1)):cH _);.ite (fun U=>.ag fun a7 ax=>.ret (bq (t1.aQ [.aa false,.jH 0,.jH 1,.au (bl 1 (.call {ac:=[.bo (.ptr [.id,.id]),.comp [.ptr [.id,.id],.ptr [.id]]],r:= .isl 1 (a7.map eI),fe:=false,fm:=[0,1]}) 3)]) (aP.aG (.dW (cU U) (nr (vU a0):i7 [(hy a0)]) (nr (vU a0):i7 [(hy a0)]) (nr ((oN (sz:=1) ap) da):i7 [[.isl 1 (da.map eI)]]) (W9 a7 ax))))) (fun U=>.ret (bq (t1.aQ [.aa true,(J 1)]) (aP.aG (.e1 (cM U))))))
def DS (aI bc:eb):Option Bool :=if (!(aI.my.toList == bc.my.toList))=true then some false else if (aI.jy != bc.jy)=true then some false else if (aI.jM != bc.jM)=true then some false else if (aI.mv == bc.mv)=true then some true else some false
theorem aav:bt (DS aI bc) (fun r=>Con bz 42 [.agg (cn aI),.agg (cn bc)] [] (.b r) []):=.ite (fun h1=>.ret (bq [(J 3),(J 5),.aa true,(J 1)] (.e1 h1))) (fun h1=>(let t1:List b0:=[(J 3),(J 5),.aa false,(J 5)];.ite (fun o=>.ret (bq (t1.aQ [.aa true,(J 1)]) (.aB h1 o))) (fun o=>.ite (fun U=>.ret (bq (t1.aQ [.aa false,(J 5),.aa true,(J 1)]) (.bP h1 o U))) (fun U=>(let t2:List b0:=t1.aQ [.aa false,(J 5),.aa false,(J 5)];.ite (fun ak=>.ret (bq (t2.aQ [.aa false,(J 1)]) (.dd h1 o U (cU ak)))) (fun ak=>.ret (bq (t2.aQ [.aa true,(J 1)]) (.dd h1 o U (cM ak)))))))))
def ZD (aI bc:List eb):d4 Int ((Unit)⊕(Unit)):=⟨fun aA=>dt [(0,.isl 4 (aI.map cn)),(1,.isl 4 (bc.map cn)),(5,.n .i64 aA)] [],fun | .inl a=>⟨some 0,[],[]⟩ | .inr a=>⟨none,[(4,.b false)],[]⟩⟩
def Aj (aI bc:List eb)(aA:Int):Option ((Int)⊕((Unit)⊕(Unit))) :=if (decide (aA<(len_ cn aI)))=true then if 0<=aA/\aA<aI.length then aI[aA.toNat]? >>= fun aC =>if 0<=aA/\aA<bc.length then bc[aA.toNat]? >>= fun b6 =>DS aC b6 >>= fun cx =>if cx=true then some (.inl (R (aA+1))) else some (.inr (.inr ())) else none else none else some (.inr (.inl ()))
def QD (aI bc:List eb)(aA:Int):Option ((Unit)⊕(Unit)):=iter (fun w:Int=>Aj aI bc w) aA
theorem OP:bt (Aj aI bc aA) (d8 bz 27 0 23 [1,1,0,1,0,0] (ZD aI bc) aA):=.ite (fun h1=>.aT fun o=>.ag fun aC ak=>.aT fun ax=>.ag fun b6 bb=>.ag fun cx ch=>(let t1:List b0:=[(J 4),.aa true,.au (ae 3 (af (.b5 (cn aC)) (ae 3 (af (.b5 (cn b6)) (af (bf 2 (.b cx) true) (ae 1 []))))))];have aP:=((.aZ h1 o.1 (db cn o.2) (bT cn ak) ax.1 (db cn ax.2) (bT cn bb) (aav cx ch) (.e1 (b2.b cx))):cH _);.ite (fun cE=>.ret (bi (t1.aQ [.aa false,(J 3),.aM [] [] (a9 [0,1,5])]) (aP.aG (.e1 (cU cE))))) (fun cE=>.ret (bi (t1.aQ [.aa true,(J 1),.aM [] [] (a9 [4])]) (aP.aG (.e1 (cM cE))))))) (fun h1=>.ret (bi [(J 4),.aa false,.aM [] [] []] (.e1 h1)))
def DJ (aI bc:List eb):Option Bool :=if ((len_ cn aI) != (len_ cn bc))=true then some false else QD aI bc 0 >>= fun bR =>match bR with | .inl gA=>(some true) | .inr gA=>(some false)
theorem Z8:bt (DJ aI bc) (fun r=>Con bz 23 [.isl 4 (aI.map cn),.isl 4 (bc.map cn)] [] (.b r) []):=by
 unfold DJ
 exact .ite (fun h1 =>
  .ret (bq [(J 1),(J 5),.aa true,(J 1)] (.e1 h1)))
  (fun h1 =>
  .ag fun bR U =>
  (let t1:List b0:=[(J 1),(J 5),.aa false,(J 1),.aM [] [] (a9 [0,1,5])];
  (by
  rcases bR with gA|gA
  ·exact(.ret (bq (t1.aQ [.sub (.exit 0) [] [],(J 1)]) (.aB h1 (c4 U OP))))
  ·exact(.ret (bq (t1.aQ [.sub (.ret) [(4,.b false)] []]) (.aB h1 (c4 U OP)))))))
def DK (aI bc:ed):Option Bool :=if (aI.dY != bc.dY)=true then some false else if (aI.ea != bc.ea)=true then some false else if (aI.h5 != bc.h5)=true then some false else some true
theorem Z9:bt (DK aI bc) (fun r=>Con bz 43 [.agg (cy aI),.agg (cy bc)] [] (.b r) []):=.ite (fun h1=>.ret (bq [(J 3),(J 5),.aa true,(J 1)] (.e1 h1))) (fun h1=>(let t1:List b0:=[(J 3),(J 5),.aa false,(J 5)];.ite (fun o=>.ret (bq (t1.aQ [.aa true,(J 1)]) (.aB h1 o))) (fun o=>.ite (fun U=>.ret (bq (t1.aQ [.aa false,(J 5),.aa true,(J 1)]) (.bP h1 o U))) (fun U=>.ret (bq (t1.aQ [.aa false,(J 5),.aa false,(J 1)]) (.bP h1 o U))))))
def Zm (aI bc:List ed):d4 Int ((Unit)⊕(Unit)):=⟨fun aA=>dt [(0,.isl 3 (aI.map cy)),(1,.isl 3 (bc.map cy)),(5,.n .i64 aA)] [],fun | .inl a=>⟨some 0,[],[]⟩ | .inr a=>⟨none,[(4,.b false)],[]⟩⟩
def Ab (aI bc:List ed)(aA:Int):Option ((Int)⊕((Unit)⊕(Unit))) :=if (decide (aA<(len_ cy aI)))=true then if 0<=aA/\aA<aI.length then aI[aA.toNat]? >>= fun aC =>if 0<=aA/\aA<bc.length then bc[aA.toNat]? >>= fun b6 =>DK aC b6 >>= fun cx =>if cx=true then some (.inl (R (aA+1))) else some (.inr (.inr ())) else none else none else some (.inr (.inl ()))
def Qi (aI bc:List ed)(aA:Int):Option ((Unit)⊕(Unit)):=iter (fun w:Int=>Ab aI bc w) aA
theorem OL:bt (Ab aI bc aA) (d8 bz 27 0 24 [1,1,0,1,0,0] (Zm aI bc) aA):=.ite (fun h1=>.aT fun o=>.ag fun aC ak=>.aT fun ax=>.ag fun b6 bb=>.ag fun cx ch=>(let t1:List b0:=[(J 4),.aa true,.au (ae 3 (af (.b5 (cy aC)) (ae 3 (af (.b5 (cy b6)) (af (bf 2 (.b cx) true) (ae 1 []))))))];have aP:=((.aZ h1 o.1 (db cy o.2) (bT cy ak) ax.1 (db cy ax.2) (bT cy bb) (Z9 cx ch) (.e1 (b2.b cx))):cH _);.ite (fun cE=>.ret (bi (t1.aQ [.aa false,(J 3),.aM [] [] (a9 [0,1,5])]) (aP.aG (.e1 (cU cE))))) (fun cE=>.ret (bi (t1.aQ [.aa true,(J 1),.aM [] [] (a9 [4])]) (aP.aG (.e1 (cM cE))))))) (fun h1=>.ret (bi [(J 4),.aa false,.aM [] [] []] (.e1 h1)))
def Du (aI bc:List ed):Option Bool :=if ((len_ cy aI) != (len_ cy bc))=true then some false else Qi aI bc 0 >>= fun bR =>match bR with | .inl gA=>(some true) | .inr gA=>(some false)
theorem ZJ:bt (Du aI bc) (fun r=>Con bz 24 [.isl 3 (aI.map cy),.isl 3 (bc.map cy)] [] (.b r) []):=by
 unfold Du
 exact .ite (fun h1 =>
  .ret (bq [(J 1),(J 5),.aa true,(J 1)] (.e1 h1)))
  (fun h1 =>
  .ag fun bR U =>
  (let t1:List b0:=[(J 1),(J 5),.aa false,(J 1),.aM [] [] (a9 [0,1,5])];
  (by
  rcases bR with gA|gA
  ·exact(.ret (bq (t1.aQ [.sub (.exit 0) [] [],(J 1)]) (.aB h1 (c4 U OL))))
  ·exact(.ret (bq (t1.aQ [.sub (.ret) [(4,.b false)] []]) (.aB h1 (c4 U OL)))))))
def De (aI bc:dg):Option Bool :=DJ aI.cp bc.cp >>= fun r1 =>if r1=true then Du aI.bO bc.bO >>= fun a7 =>if a7=true then some true else some false else some false
theorem Zn:bt (De aI bc) (fun r=>Con bz 9 [.agg (hy aI),.agg (hy bc)] [] (.b r) []):=.ag fun r1 o=>(let t1:List b0:=[(J 3),.au (bl 4 (bf 2 (.b r1) true) 1)];have aP:=((.aB (Z8 r1 o) (b2.b r1)):cH _);.ite (fun U=>.ag fun a7 ax=>(let t3:List b0:=t1.aQ [.aa false,.au (bl 4 (bf 2 (.b a7) true) 1)];have eQ:=aP.aG (.bP (cU U) (ZJ a7 ax) (b2.b a7));.ite (fun aW=>.ret (bq (t3.aQ [.aa false,(J 1)]) (eQ.aG (.e1 (cU aW))))) (fun aW=>.ret (bq (t3.aQ [.aa true,(J 1)]) (eQ.aG (.e1 (cM aW))))))) (fun U=>.ret (bq (t1.aQ [.aa true,(J 1)]) (aP.aG (.e1 (cM U))))))
def aaa (aI bc:ar):d4 Int ((Unit)⊕(Unit)):=⟨fun aA=>dt [(0,.isl 1 (aI.map eI)),(1,.isl 1 (bc.map eI)),(5,.n .i64 aA)] [],fun | .inl a=>⟨some 0,[],[]⟩ | .inr a=>⟨none,[(4,.b false)],[]⟩⟩
def AJ (aI bc:ar)(aA:Int):Option ((Int)⊕((Unit)⊕(Unit))) :=if (decide (aA<(len_ eI aI)))=true then if 0<=aA/\aA<aI.length then aI[aA.toNat]? >>= fun aC =>if 0<=aA/\aA<bc.length then bc[aA.toNat]? >>= fun b6 =>if (aC != b6)=true then some (.inr (.inr ())) else some (.inl (R (aA+1))) else none else none else some (.inr (.inl ()))
def Rk (aI bc:ar)(aA:Int):Option ((Unit)⊕(Unit)):=iter (fun w:Int=>AJ aI bc w) aA
theorem O3:bt (AJ aI bc aA) (d8 bz 26 0 10 [1,1,0,1,0,0] (aaa aI bc) aA):=.ite (fun h1=>.aT fun o=>.ag fun aC ak=>.aT fun ax=>.ag fun b6 bb=>(let t1:List b0:=[(J 4),.aa true,.au (ae 3 (af (.b5 (eI aC)) (bl 3 (.b5 (eI b6)) 1)))];have aP:=((.eX h1 o.1 (db eI o.2) (bT eI ak) ax.1 (db eI ax.2) (bT eI bb)):cH _);.ite (fun bd=>.ret (bi (t1.aQ [.aa true,(J 1),.aM [] [] (a9 [4])]) (aP.aG (.e1 bd)))) (fun bd=>.ret (bi (t1.aQ [.aa false,(J 3),.aM [] [] (a9 [0,1,5])]) (aP.aG (.e1 bd)))))) (fun h1=>.ret (bi [(J 4),.aa false,.aM [] [] []] (.e1 h1)))
def DZ (aI bc:ar):Option Bool :=if ((len_ eI aI) != (len_ eI bc))=true then some false else Rk aI bc 0 >>= fun bR =>match bR with | .inl gA=>(some true) | .inr gA=>(some false)
theorem aaI:bt (DZ aI bc) (fun r=>Con bz 10 [.isl 1 (aI.map eI),.isl 1 (bc.map eI)] [] (.b r) []):=by
 unfold DZ
 exact .ite (fun h1 =>
  .ret (bq [(J 1),(J 5),.aa true,(J 1)] (.e1 h1)))
  (fun h1 =>
  .ag fun bR U =>
  (let t1:List b0:=[(J 1),(J 5),.aa false,(J 1),.aM [] [] (a9 [0,1,5])];
  (by
  rcases bR with gA|gA
  ·exact(.ret (bq (t1.aQ [.sub (.exit 0) [] [],(J 1)]) (.aB h1 (c4 U O3))))
  ·exact(.ret (bq (t1.aQ [.sub (.ret) [(4,.b false)] []]) (.aB h1 (c4 U O3)))))))
def GH (Iv:dg)(Iw:ar):Option Bool :=if (decide ((1048576:Int)<(len_ eI Iw)))=true then some true else Db Iv 1048576 >>= fun bR =>if (decide (bR<0))=true then some true else C7 Iv >>= fun aL =>Dw Iw >>= fun bE =>Di (⟨aL.1,aL.2⟩:dg) bE >>= fun bw =>Dm (⟨aL.1,aL.2⟩:dg) bE >>= fun bH =>if (bH == bw)=true then De (⟨aL.1,aL.2⟩:dg) (⟨aL.1,aL.2⟩:dg) >>= fun fF =>if fF=true then DZ bE bE >>= fun hD =>if hD=true then some true else some false else some false else some false
theorem X9:bt (GH Iv Iw) (fun r=>Con bz 3 [.agg (hy Iv),.isl 1 (Iw.map eI)] [] (.b r) []):=.ite (fun h1=>.ret (bq [(J 2),(J 3),.aa true,(J 1)] (.e1 h1))) (fun h1=>.ag fun bR U=>(let t1:List b0:=[(J 2),(J 3),.aa false,(J 1),.au (bl 2 (bf 2 (.n .i64 bR) true) 1),(J 2)];have aP:=((.bP h1 (Ze bR U) (b2.n .i64 bR)):cH _);.ite (fun ak=>.ret (bq (t1.aQ [.aa true,(J 1)]) (aP.aG (.e1 ak)))) (fun ak=>.ag fun aL aW=>.ag fun bE bd=>.ag fun bw cE=>.ag fun bH eC=>(let q1:=aw 1 eI bE;let t3:List b0:=t1.aQ [.aa false,.au (ae 1 (af (.call {a6:=[],dm:=[],ac:=[ii],r:= .agg [.bk 0 0 0 aL.1.length,.bk 0 1 0 aL.2.length],fc:=[[b1 4 cn aL.1,b1 3 cy aL.2]],gR:= .bo (.agg [.id,.id]),hZ:=[.bp [b1 4 cn aL.1,b1 3 cy aL.2]],fm:=[],fe:=true}) (ae 1 (af (.call {a6:=[],dm:=[],ac:=[ii],r:= .bk 0 0 0 bE.length,fc:=[q1],gR:=ii,hZ:=[.pure],fm:=[],fe:=true}) (af (.call {ac:=[.bo (.agg [.e7 (aL.1.map cn),.e7 (aL.2.map cy)]),.bo (.cZ (.e7 (bE.map eI)))],r:= .b bw,fe:=true,fm:=[13,15]}) (ae 1 [])))))),.au (bl 1 (.call {a6:=[],dm:=[],ac:=[ii],r:= .agg [.bk 0 0 0 aL.1.length,.bk 0 1 0 aL.2.length],fc:=[[b1 4 cn aL.1,b1 3 cy aL.2]],gR:= .bo (.agg [.id,.id]),hZ:=[.bp [b1 4 cn aL.1,b1 3 cy aL.2]],fm:=[],fe:=true}) 2),.au (bl 1 (.call {a6:=[],dm:=[],ac:=[ii],r:= .bk 0 0 0 bE.length,fc:=[q1],gR:=ii,hZ:=[.pure],fm:=[],fe:=true}) 1),.au (bl 2 (.call {ac:=[.bo (.agg [.e7 (aL.1.map cn),.e7 (aL.2.map cy)]),.bo (.cZ (.e7 (bE.map eI)))],r:= .b bH,fe:=true,fm:=[19,23]}) 1),(J 3)];have eQ:=aP.aG (.aZ ak (fx (hS (iv [13]) 4 Ha aL.1) (fx (hS (iv [13]) 3 G6 aL.2) (l1 (b9:=(iv [13]))))) ((ls rfl (ls rfl xU)):nS [b1 4 cn aL.1,b1 3 cy aL.2]) (JH aL aW) (b2.agg (lf (b2.bk 0 0 0 aL.1.length) (lf (b2.bk 0 1 0 aL.2.length) ud))) ((qW (mO (ms Hb) (mO (ms G7) qY)) qX):ou [[b1 4 cn aL.1,b1 3 cy aL.2]]) (eV 1 ap bE) (J6 bE bd) (.aZ (b2.bk 0 0 0 bE.length) ((qW (mO (ms qo) qY) qX):ou [q1]) (hr cn aL.1) (gz cn aL.1) (d6 sm aL.1) (hr cy aL.2) (gz cy aL.2) (d6 sk aL.2) (.aZ (hr eI bE) (gz eI bE) (d6 ap bE) (Zx bw cE) (b2.b bw) (fx (hS (iv [19]) 4 Ha aL.1) (fx (hS (iv [19]) 3 G6 aL.2) (l1 (b9:=(iv [19]))))) ((ls rfl (ls rfl xU)):nS [b1 4 cn aL.1,b1 3 cy aL.2]) (JH aL aW) (.aZ (b2.agg (lf (b2.bk 0 0 0 aL.1.length) (lf (b2.bk 0 1 0 aL.2.length) ud))) ((qW (mO (ms Hb) (mO (ms G7) qY)) qX):ou [[b1 4 cn aL.1,b1 3 cy aL.2]]) (eV 1 ap bE) (J6 bE bd) (b2.bk 0 0 0 bE.length) ((qW (mO (ms qo) qY) qX):ou [q1]) (hr cn aL.1) (gz cn aL.1) (.aZ (d6 sm aL.1) (hr cy aL.2) (gz cy aL.2) (d6 sk aL.2) (hr eI bE) (gz eI bE) (d6 ap bE) (ZC bH eC) (.e1 (b2.b bH)))))));.ite (fun eA=>.ag fun fF fL=>(let t5:List b0:=t3.aQ [.aa false,.au (ae 2 (af (.call {a6:=[],dm:=[],ac:=[ii],r:= .agg [.bk 0 0 0 aL.1.length,.bk 0 1 0 aL.2.length],fc:=[[b1 4 cn aL.1,b1 3 cy aL.2]],gR:= .bo (.agg [.id,.id]),hZ:=[.bp [b1 4 cn aL.1,b1 3 cy aL.2]],fm:=[],fe:=true}) (af (.call {ac:=[.bo (.agg [.e7 (aL.1.map cn),.e7 (aL.2.map cy)]),.bo (.agg [.e7 (aL.1.map cn),.e7 (aL.2.map cy)])],r:= .b fF,fe:=true,fm:=[19,34]}) (ae 1 []))))];have lc:=eQ.aG (.aZ (cU eA) (fx (hS (iv [34]) 4 Ha aL.1) (fx (hS (iv [34]) 3 G6 aL.2) (l1 (b9:=(iv [34]))))) ((ls rfl (ls rfl xU)):nS [b1 4 cn aL.1,b1 3 cy aL.2]) (JH aL aW) (b2.agg (lf (b2.bk 0 0 0 aL.1.length) (lf (b2.bk 0 1 0 aL.2.length) ud))) ((qW (mO (ms Hb) (mO (ms G7) qY)) qX):ou [[b1 4 cn aL.1,b1 3 cy aL.2]]) (hr cn aL.1) (gz cn aL.1) (.aZ (d6 sm aL.1) (hr cy aL.2) (gz cy aL.2) (d6 sk aL.2) (hr cn aL.1) (gz cn aL.1) (d6 sm aL.1) (hr cy aL.2) (.dd (gz cy aL.2) (d6 sk aL.2) (Zn fF fL) (b2.b fF))));.ite (fun hO=>.ag fun hD hG=>(let t7:List b0:=t5.aQ [.aa false,.au (ae 2 (af (.call {a6:=[],dm:=[],ac:=[ii],r:= .bk 0 0 0 bE.length,fc:=[(aw 1 eI bE)],gR:=ii,hZ:=[.pure],fm:=[],fe:=true}) (af (.call {ac:=[.bo (.cZ (.e7 (bE.map eI))),.bo (.cZ (.e7 (bE.map eI)))],r:= .b hD,fe:=true,fm:=[23,39]}) (ae 1 []))))];have oa:=lc.aG (.aZ (cU hO) (eV 1 ap bE) (J6 bE bd) (b2.bk 0 0 0 bE.length) ((qW (mO (ms qo) qY) qX):ou [(aw 1 eI bE)]) (hr eI bE) (gz eI bE) (d6 ap bE) (.dW (hr eI bE) (gz eI bE) (d6 ap bE) (aaI hD hG) (b2.b hD)));.ite (fun ha=>.ret (bq (t7.aQ [.aa false,(J 1)]) (oa.aG (.e1 (cU ha))))) (fun ha=>.ret (bq (t7.aQ [.aa true,(J 1)]) (oa.aG (.e1 (cM ha))))))) (fun hO=>.ret (bq (t5.aQ [.aa true,(J 1)]) (lc.aG (.e1 (cM hO))))))) (fun eA=>.ret (bq (t3.aQ [.aa true,(J 1)]) (eQ.aG (.e1 (cM eA)))))))))
theorem pi {n:Nat}(h:n<=10000000):R ((n:Int)+1)=((n+1:Nat):Int):=by rw[cV (by omega) (by omega)];rfl
theorem sL {n:Nat}(h:n<=10000000):R ((n:Int)-1)=(n:Int)-1:=cV (by omega) (by omega)
theorem Mk {n:Nat}(h:n<=10000000):R (((n+1:Nat):Int)-1)=n:=by rw[cV (by omega) (by omega)];omega
theorem fX (l:ar):len_ eI l=l.length:=f9 _ l
theorem acQ {l:ar}{k:Nat}{x:Int}(ab:l[k]? = some x)(aS:l.length<=5000000):xf l ((k+1:Nat):Int)=some (if x=0 then .inl (k:Int) else .inr ((k+1:Nat):Int)):=by have aY:=gB ab;unfold xf;rw[Mk (by omega),dw (by simp),dw (by omega),dx,ab];by_cases h:x=0<;>simp[h]
theorem tX {l:ar}(aX:cX l)(aS:l.length<=5000000):sn l=some (L (V l)):=by
 have : ∃r,iter (fun w:Int=>xf l w) (l.length:Int)=some r/\ ∃k:Nat,r=k/\k<=l.length/\l.take k=L (V l):=by
  refine kB (fi:=fun w:Int=> ∃k:Nat,w=k/\k<=l.length/\V (l.take k)=V l) (m:=fun w:Int=>w.toNat) _ ?_ _ ⟨l.length,rfl,by omega,by simp⟩;rintro _ ⟨k,rfl,aY,bg⟩
  cases k with
  | zero =>
   refine .inr ⟨0,by simp[xf],0,rfl,by omega,?_⟩;rw[<- bg];simp[V,qk]
  | succ k =>
   have ab:=dz (show k<l.length by omega);rw[acQ ab aS];by_cases h:l[k]=0
   ·refine .inl ⟨_,by simp[h],⟨k,rfl,by omega,?_⟩,by omega⟩;have:=u3 ab;rw[h] at this;simp at this;omega
   ·refine .inr ⟨_,by simp[h],k+1,rfl,aY,?_⟩
    rcases fO.LJ aX k (fun x h1=>by rw[ab] at h1;simp at h1;omega) with h1|h1
    ·exact wA h1 bg
    ·omega
 obtain⟨r,ai,k,rfl,h1,o⟩:=this;unfold sn QJ;rw[fX,ai];simp[h1,o]
theorem BJ {l:ar}(aX:cX l)(aS:l.length<=5000000):su l=some (L (V l)):=by
 have : ∃r,iter (fun w:ar=>AR w) l=some r/\r=L (V l):=by
  refine kB (fi:=fun w=> ∃k:Nat,w=l.take k/\k<=l.length/\V (l.take k)=V l) (m:=fun w:ar=>w.length) _ ?_ _ ⟨l.length,by simp,by omega,by simp⟩;rintro _ ⟨k,rfl,aY,bg⟩;have hlen:(l.take k).length=k:=by simp;omega
  cases k with
  | zero =>
   refine .inr ⟨[],by simp[AR,fX],?_⟩;rw[<- bg];simp[V,qk]
  | succ k =>
   have ab:=dz (show k<l.length by omega);have ex:(l.take (k+1))[k]? = some l[k]:=(by rw[List.getElem?_take];simp[ab]);unfold AR;simp only[fX,hlen];rw[Mk (by omega),dw (by simp),dw (by omega),dx,ex];by_cases h:l[k]=0
   ·refine .inl ⟨l.take k,by simp[h,List.take_take,Nat.min_eq_left],⟨k,rfl,by omega,?_⟩,by simp;omega⟩;have:=u3 ab;rw[h] at this;simp at this;omega
   ·refine .inr ⟨l.take (k+1),by simp[h],?_⟩
    rcases fO.LJ aX k (fun x h1=>by rw[ab] at h1;simp at h1;omega) with h1|h1
    ·exact wA h1 bg
    ·omega
 obtain⟨r,ai,rfl⟩:=this;unfold su Rz;rw[ai];rfl
theorem acR {l:ar}(aX:cX l)(aS:l.length<=5000000): ∃k,DX l=some k/\k<=l.length/\l.take k=L (V l):=by
 have : ∃r,iter (fun w:Nat=>AG l w) l.length=some r/\r<=l.length/\l.take r=L (V l):=by
  refine kB (fi:=fun k=>k<=l.length/\V (l.take k)=V l) (m:=fun w:Nat=>w) _ ?_ _ ⟨by omega,by simp⟩;rintro k ⟨aY,bg⟩
  cases k with
  | zero =>
   refine .inr ⟨0,by simp[AG],by omega,?_⟩;rw[<- bg];simp[V,qk]
  | succ k =>
   have ab:=dz (show k<l.length by omega);unfold AG;rw[Mk (by omega),dw (by simp),dw (by omega),dx,dG,ab];by_cases h:l[k]=0
   ·refine .inl ⟨k,by simp[h],⟨by omega,?_⟩,by omega⟩;have:=u3 ab;rw[h] at this;simp at this;omega
   ·refine .inr ⟨k+1,by simp[h],aY,?_⟩
    rcases fO.LJ aX k (fun x h1=>by rw[ab] at h1;simp at h1;omega) with h1|h1
    ·exact wA h1 bg
    ·omega
 obtain⟨r,ai,h1,o⟩:=this;unfold DX Re;rw[ai];exact⟨r,rfl,h1,o⟩
theorem u6 {a b:ar}(bI:fO a)(aU:fO b)(aS:a.length<=5000000):sq a b=some (lO (V a) (V b)):=by
 unfold sq lO;simp only[fX];by_cases h1:a.length=b.length
 ·rw[dy (by simp[h1])]
  have : ∃r,iter (fun w:Int=>AB a b w) ((a.length:Int)-1)=some r/\(r.elim (fun _=>V a=V b) (fun c=>(c = -1/\V a<V b)\/(c=1/\V b<V a))):=by
   refine kB (fi:=fun w:Int=> ∃k:Nat,w=(k:Int)-1/\k<=a.length/\V (a.drop k)=V (b.drop k)) (m:=fun w:Int=>(w+1).toNat) _ ?_ _ ⟨a.length,rfl,by omega,by rw[List.drop_length,h1,List.drop_length]⟩;rintro _ ⟨k,rfl,aY,bg⟩
   cases k with
   | zero=>exact .inr ⟨.inl (),by simp[AB],by simpa using bg⟩
   | succ k =>
    have ab:=dz (show k<a.length by omega);have a1:=dz (show k<b.length by omega);have e:((k+1:Nat):Int)-1=k:=(by omega);unfold AB;rw[e,sL (by omega),dw (by simp),dw (by omega),dx,ab];simp only[dC,dA];rw[dw (by omega),a1];by_cases o:a[k]<b[k]
    ·exact .inr ⟨.inr (-1),by simp[o],.inl ⟨rfl,TV bI.1 aU.1 ab a1 bg o⟩⟩
    ·by_cases U:b[k]<a[k]
     ·exact .inr ⟨.inr 1,by simp[o,U],.inr ⟨rfl,TV aU.1 bI.1 a1 ab bg.symm U⟩⟩
     ·refine .inl ⟨(k:Int)-1,by simp[o,U],⟨k,rfl,by omega,?_⟩,by omega⟩;rw[qh ab,qh a1,bg,show a[k]=b[k] by omega]
  obtain⟨r,ai,o⟩:=this;unfold Q3;rw[sL (by omega),ai]
  cases r with
  | inl u =>
   simp at o;simp[o]
  | inr c =>
   rcases o with ⟨rfl,o⟩|⟨rfl,o⟩
   ·simp[o]
   ·simp[o];omega
 ·rw[dw (by simp;omega)]
  by_cases o:a.length<b.length
  ·have:=HJ bI aU o;simp[o,this]
  ·have:=HJ aU bI (by omega);rw[dy (by simp;omega),dy (by omega),dw this]
theorem abh:ru=sq:=rfl
theorem Hc {a b:ar}(bI:fO a)(aU:fO b)(aS:a.length<=5000000):ru a b=some (lO (V a) (V b)):=u6 bI aU aS
theorem ED {x y:Int}(ab:0<=x/\x<1000000000)(a1:0<=y/\y<1000000000):0<=x*y/\x*y<=999999998000000001:=by have h1:=Int.mul_nonneg ab.1 a1.1;have o:x*y<=999999999*999999999:=Int.mul_le_mul (by omega) (by omega) a1.1 (by omega);omega
theorem sc {a b:Int}(h:0<=a):a.tmod b=a % b:=Int.tmod_eq_emod_of_nonneg h
theorem oI {a b:Int}(h:0<=a):a.tdiv b=a / b:=Int.tdiv_eq_ediv_of_nonneg h
theorem LL (k:Nat)(x:Int)(q:ar):(List.replicate (k+1) 0++q).set k x=List.replicate k 0++x::q:=by
 induction k with
 | zero=>rfl
 | succ k ih =>
  show (0::(List.replicate (k+1) 0++q)).set (k+1) x=_;rw[List.set_cons_succ,ih];rfl
theorem ab6 {a:ar}{d rest:Int}{row:ar}{k:Nat}{x:Int}(ab:a[k]? = some x)(j1:0<=x/\x<1000000000)(bG:0<d/\d<1000000000)(ai:0<=rest/\rest<d)(ei:row.length=a.length)(aS:a.length<=1000000):
 Af a d rest (k:Int) row=some (.inl ((rest*1000000000+x) % d,(k:Int)-1,row.set k ((rest*1000000000+x) / d))):=by
 have aY:=gB ab;unfold Af;rw[dw (by simp),dw (by omega),dx,ab];simp only[dC,dA];rw[dw (by omega),dw (by omega),dw (by omega),sL (by omega)];have h1:R (R (rest*1000000000)+x)=rest*1000000000+x:=by rw[cV (x:=rest*1000000000) (by omega) (by omega)];exact cV (by omega) (by omega)
 have o:0<=rest*1000000000+x:=by omega
 have U:(rest*1000000000+x) / d<=rest*1000000000+x:=Int.ediv_le_self _ o;have ak:0<=(rest*1000000000+x) / d:=Int.ediv_nonneg o (by omega);rw[h1,sc o,oI o,cV (by omega) (by omega),dG]
theorem Sm {a:ar}{d:Int}(bI:cX a)(bG:0<d/\d<1000000000)(aS:a.length<=1000000):
 ∃r,J7 a d 0 ((a.length:Int)-1) (List.replicate a.length 0)=some r/\r.1=V a % d/\cX r.2/\r.2.length=a.length/\V r.2=V a / d:=by
 refine kB (fi:=fun w:Int×Int×ar=> ∃(k:Nat) (q:ar),w.2.1=(k:Int)-1/\k<=a.length/\w.2.2=List.replicate k 0++q/\q.length+k=a.length/\cX q/\0<=w.1/\w.1<d/\V (a.drop k)=V q*d+w.1) (m:=fun w:Int×Int×ar=>(w.2.1+1).toNat) _ ?_ _ ⟨a.length,[],rfl,by omega,by simp,by simp,cX.nil,by omega,by omega,by simp[V]⟩;rintro⟨rest,i,row⟩ ⟨k,q,h1,aY,o,a5,r6,mB,jj,bg⟩;simp only at h1 o mB jj bg ⊢;subst h1 o
 cases k with
 | zero =>
  refine .inr ⟨(rest,q),by simp[Af],?_,r6,by simpa using a5,?_⟩
  ·simp at bg;rw[bg,Int.add_comm,Int.add_mul_emod_self_right];exact(Int.emod_eq_of_lt mB jj).symm
  ·simp at bg;rw[bg,Int.add_comm,Int.add_mul_ediv_right _ _ (by omega),Int.ediv_eq_zero_of_lt mB jj];simp
 | succ k =>
  have ab:=dz (show k<a.length by omega);have j1:=bI.get ab;rw[show ((k+1:Nat):Int)-1=k by omega,ab6 ab j1 bG ⟨mB,jj⟩ (by simp;omega) aS];refine .inl ⟨_,rfl,⟨k,(rest*1000000000+a[k]) / d::q,rfl,by omega,LL _ _ _,by simp;omega,cX.cons ⟨Int.ediv_nonneg (by omega) (by omega),?_⟩ r6,Int.emod_nonneg _ (by omega),Int.emod_lt_of_pos _ bG.1,?_⟩,by simp⟩
  ·refine Int.ediv_lt_of_lt_mul bG.1 ?_;omega
  ·rw[qh ab,bg,mu];have:=Int.mul_ediv_add_emod (rest*1000000000+a[k]) d;generalize (rest*1000000000+a[k]) / d=u at *;generalize (rest*1000000000+a[k]) % d=t at *;grind
theorem ad2 {a:ar}{d:Int}(bI:cX a)(bG:0<d/\d<1000000000)(aS:a.length<=1000000):Dz a d=some (L (V a / d),V a % d):=by obtain⟨r,ai,h1,o,U,ak⟩:=Sm bI bG aS;unfold Dz;simp only[fX];rw[dw (by omega),sL (by omega),dx,ai];simp only[dC,dA];rw[tX o (by omega),h1,ak];rfl
theorem aaw:P4=J7:=rfl
theorem RD {a:ar}{d:Int}(bI:cX a)(bG:0<d/\d<1000000000)(aS:a.length<=1000000):A5 a d=some (L (V a / d),V a % d):=by obtain⟨r,ai,h1,o,U,ak⟩:=Sm bI bG aS;unfold A5;simp only[fX];rw[dw (by omega),sL (by omega),dx,aaw,ai];simp only[dC,dA];rw[BJ o (by omega),h1,ak];rfl
theorem acS {b:ar}{i j:Nat}{x y z carry:Int}{row t26:ar}{t27:Int}(a1:b[j]? = some y)(cC:row[i+j]? = some z)(ab:0<=x/\x<1000000000)(p7:0<=y/\y<1000000000)(tw:0<=z/\z<1000000000)(a3:0<=carry/\carry<1000000000)(aS:row.length<=2000000):
 AD b i x t26 t27 b.length carry j row=some (.inl ((z+x*y+carry) / 1000000000,((j+1:Nat):Int),row.set (i+j) ((z+x*y+carry) % 1000000000))):=by
 have av:=gB a1;have rW:=gB cC;obtain⟨jm,ik⟩:=ED ab p7;unfold AD;have e:R ((i:Int)+(j:Int))=((i+j:Nat):Int):=by rw[cV (by omega) (by omega)];rfl
 rw[dw (by simp;omega),dw (by omega),dx,a1];simp only[dC,dA,e,dx,dG];rw[dw (by omega),cC];simp only[dA];rw[dw (by omega),pi (by omega),cV (x:=x*y) (by omega) (by omega),cV (x:=z+x*y) (by omega) (by omega),cV (x:=z+x*y+carry) (by omega) (by omega),sc (by omega),oI (by omega),cV (by omega) (by omega)]
theorem acT {b:ar}{i:Nat}{x:Int}{row t26:ar}{t27:Int}(aU:cX b)(ei:cX row)(ab:0<=x/\x<1000000000)(aX:i+b.length<row.length)(aS:row.length<=2000000):
 ∃r,Q5 b i x t26 t27 b.length 0 0 row=some r/\0<=r.1/\r.1<1000000000/\cX r.2/\r.2.length=row.length/\V r.2+r.1*B (i+b.length)=V row+x*B i*V b/\ ∀j,i+b.length<=j->r.2[j]? = row[j]? := by
 refine kB (fi:=fun w:Int×Int×ar=> ∃(j:Nat),w.2.1=(j:Int)/\j<=b.length/\0<=w.1/\w.1<1000000000/\cX w.2.2/\w.2.2.length=row.length/\V w.2.2+w.1*B (i+j)=V row+x*B i*V (b.take j)/\ ∀j,i+b.length<=j->w.2.2[j]? = row[j]?) (m:=fun w:Int×Int×ar=>b.length-w.2.1.toNat) _ ?_ _ ⟨0,rfl,by omega,by simp,by simp,ei,rfl,by simp[V],fun _ _=>rfl⟩;rintro⟨carry,aiC,d9⟩ ⟨j,h1,av,nY,oo,ln,hlen,bg,mx⟩;simp only at h1 nY oo ln hlen bg mx ⊢;subst h1;by_cases ahA:j=b.length
 ·subst ahA;refine .inr ⟨(carry,d9),by simp[AD],nY,oo,ln,hlen,by simpa using bg,mx⟩
 ·have a1:=dz (show j<b.length by omega)
  have cC:=dz (show i+j<d9.length by omega);have p7:=aU.get a1;have tw:=ln.get cC;obtain⟨jm,ik⟩:=ED ab p7;rw[acS a1 cC ab p7 tw ⟨nY,oo⟩ (by omega)];refine .inl ⟨_,rfl,⟨j+1,rfl,by omega,by simp only;omega,by simp only;omega,ln.set (by omega),by simpa using hlen,?_,fun jc uv=> ?_⟩,by simp;omega⟩
  ·simp only;rw[ul cC,u3 a1,<- Nat.add_assoc,nw];rw[EP] at bg ⊢;have:=Int.mul_ediv_add_emod (d9[i+j]+x*b[j]+carry) 1000000000;generalize (d9[i+j]+x*b[j]+carry) / 1000000000=u at *;generalize (d9[i+j]+x*b[j]+carry) % 1000000000=t at *;grind
  ·rw[<- mx jc uv];exact List.getElem?_set_ne (by omega)
theorem Ld {a b:ar}(bI:cX a)(aU:cX b)(aS:a.length<=1000000)(hm:b.length<=1000000):
 ∃r,GO b a a.length 0 (List.replicate (a.length+b.length) 0)=some r/\cX r/\r.length=a.length+b.length/\V r=V a*V b:=by
 refine kB (fi:=fun w:Int×ar=> ∃(i:Nat),w.1=(i:Int)/\i<=a.length/\cX w.2/\w.2.length=a.length+b.length/\V w.2=V (a.take i)*V b/\ ∀j,i+b.length<=j->j<a.length+b.length->w.2[j]? = some 0) (m:=fun w:Int×ar=>a.length-w.1.toNat) _ ?_ _ ⟨0,rfl,by omega,cX.Nb _,by simp,by simp[V,Mh],fun j _ h=>by simp[List.getElem?_replicate,h]⟩;rintro⟨ii,row⟩ ⟨i,h1,ad,ln,hlen,bg,h0⟩;simp only at h1 ln hlen bg h0 ⊢;subst h1;by_cases FZ:i=a.length
 ·subst FZ;refine .inr ⟨row,by simp[C5],ln,hlen,by simpa using bg⟩
 ·have ab:=dz (show i<a.length by omega)
  have j1:=bI.get ab;obtain⟨r,ai,nY,oo,agz,UR,Fs,mx⟩:=acT (i:=i) (t26:=a) (t27:=a.length) aU ln j1 (by omega) (by omega);have e:R ((i:Int)+(b.length:Int))=((i+b.length:Nat):Int):=(by rw[cV (by omega) (by omega)];rfl);have cC:r.2[i+b.length]? = some 0:=(by rw[mx _ (dE _)];exact h0 _ (dE _) (by omega));refine .inl ⟨(((i+1:Nat):Int),r.2.set (i+b.length) r.1),?_,⟨i+1,rfl,by omega,agz.set ⟨nY,oo⟩,by simp;omega,?_,fun j akg ahB=> ?_⟩,by simp;omega⟩
  ·unfold C5;rw[dw (by simp;omega),dw (by omega),dx,ab];simp only[dC,dA,fX];rw[ai];simp only[dA,e,dx,dG];rw[dw (by omega),dw (by omega),pi (n:=i) (by omega)]
  ·simp only;rw[ul cC,u3 ab];grind
  ·simp only;rw[List.getElem?_set_ne (by omega),mx _ (by omega)];exact h0 _ (by omega) ahB
theorem mul_eq {a b:ar}(bI:cX a)(aU:cX b)(aS:a.length<=1000000)(hm:b.length<=1000000):i6 a b=some (L (V a*V b)):=by
 unfold i6;simp only[fX];by_cases h1:a=[]
 ·subst h1;simp[V,qk]
 ·by_cases o:b=[]
  ·subst o;simp[h1,V,qk]
  ·obtain⟨r,ai,U,ak,ax⟩:=Ld bI aU aS hm;have e:R ((a.length:Int)+(b.length:Int))=((a.length+b.length:Nat):Int):=(by rw[cV (by omega) (by omega)];rfl);rw[dy (by simp[h1]),dy (by simp[o]),e,dw (by omega),dx,ai];simp only[dC,dA];rw[tX U (by omega),ax];rfl
theorem abE:Rr=GO:=rfl
theorem aaW:QR=GO:=rfl
theorem Hw {a b:ar}(bI:cX a)(aU:cX b)(aS:a.length<=1000000)(hm:b.length<=1000000):st a b=some (L (V a*V b)):=by
 unfold st;simp only[fX];by_cases h1:a=[]
 ·subst h1;simp[V,qk]
 ·by_cases o:b=[]
  ·subst o;simp[h1,V,qk]
  ·obtain⟨r,ai,U,ak,ax⟩:=Ld bI aU aS hm;have e:R ((a.length:Int)+(b.length:Int))=((a.length+b.length:Nat):Int):=(by rw[cV (by omega) (by omega)];rfl);rw[dy (by simp[h1]),dy (by simp[o]),e,dw (by omega),dx,abE,ai];simp only[dC,dA];rw[BJ U (by omega),ax];rfl
theorem Sn {a b:ar}(bI:cX a)(aU:cX b)(h1:a≠[])(o:b≠[])(aS:a.length<=1000000)(hm:b.length<=1000000):
 ∃k r,Bb a b=some (k,r)/\k<=r.length/\r.length=a.length+b.length/\r.take k=L (V a*V b)/\cX r:=by
 obtain⟨r,ai,U,ak,ax⟩:=Ld bI aU aS hm;obtain⟨k,aY,aW,bb⟩:=acR U (by omega);refine⟨k,r,?_,aW,ak,by rw[bb,ax],U⟩;unfold Bb;simp only[fX];have e:R ((a.length:Int)+(b.length:Int))=((a.length+b.length:Nat):Int):=by rw[cV (by omega) (by omega)];rfl
 rw[dy (by simp[h1]),dy (by simp[o]),e,dw (by omega),dx,aaW,ai];simp only[dC,dA];rw[aY];rfl
theorem EU {x:Int}(h1:0<=x)(o:x<18446744073709551616):IntKind.wrap .u64 x=x:=by
 simp only[IntKind.wrap,IntKind.signed,IntKind.bits];have:((2:Int) ^ 64)=18446744073709551616:=by decide
 simp;omega
theorem af8 {x:Int}(h1:-9223372036854775808<=x)(o:x<9223372036854775808):IntKind.wrap .i64 x=x:=cV h1 o
theorem fO.snoc {l:ar}{x:Int}(h:cX l)(ab:0<x/\x<1000000000):fO (l++[x]):=⟨h.append (cX.cons (by omega) cX.nil),fun y a1=>by rw[List.getLast?_append] at a1;simp at a1;omega⟩
theorem SR {N:Int}(fQ:N<18446744073709551616){n:Int}{row:ar}(h:0<=n/\cX row/\V row+B row.length*n=N/\(n=0->fO row)/\((row.length=0/\n<18446744073709551616)\/(row.length=1/\n<20000000000)\/(row.length=2/\n<20)\/(row.length=3/\n=0)))(aS:0<n):
 (fun (n:Int) (row:ar)=>0<=n/\cX row/\V row+B row.length*n=N/\(n=0->fO row)/\((row.length=0/\n<18446744073709551616)\/(row.length=1/\n<20000000000)\/(row.length=2/\n<20)\/(row.length=3/\n=0))) (n / 1000000000) (row++[n % 1000000000]):=by
 obtain⟨h0,h1,o,U,ak⟩:=h;refine⟨by omega,h1.append (cX.cons (by omega) cX.nil),?_,fun ax=>fO.snoc h1 (by omega),?_⟩
 ·rw[xV,dF,List.length_singleton,nw,mu,B4];have:=Int.mul_ediv_add_emod n 1000000000;generalize n / 1000000000=u at *;generalize n % 1000000000=t at *;grind
 ·rw[dF,List.length_singleton];omega
theorem BA {n:Int}(h:0<=n)(aS:n<9223372036854775808):tV n=some (L n):=by
 have : ∃r,iter (fun w:Int×ar=>AM w.1 w.2) (n,[])=some r/\r=L n:=by
  refine kB (fi:=fun w:Int×ar=>w.1<=n/\0<=w.1/\cX w.2/\V w.2+B w.2.length*w.1=n/\(w.1=0->fO w.2)/\((w.2.length=0/\w.1<18446744073709551616)\/(w.2.length=1/\w.1<20000000000)\/(w.2.length=2/\w.1<20)\/(w.2.length=3/\w.1=0))) (m:=fun w:Int×ar=>w.1.toNat) _ ?_ _ ⟨Int.le_refl _,h,cX.nil,by simp[V,B],fun _=>fO.nil,.inl ⟨rfl,by simp only;omega⟩⟩;rintro⟨m,row⟩ ⟨hm,cP⟩;simp only at hm cP;obtain⟨h0,h1,o,U,ak⟩:=id cP;by_cases kO:0<m
  ·have:=SR (by omega) cP kO;refine .inl ⟨(m / 1000000000,row++[m % 1000000000]),?_,⟨by simp only;omega,this⟩,by simp only;omega⟩;unfold AM;rw[dw (by simp;omega),sc (by omega),oI (by omega),dw (by simp;omega),cV (by omega) (by omega)]
  ·refine .inr ⟨row,by simp[AM,kO],?_⟩;have pt:m=0:=(by omega);refine wA (U pt) ?_;rw[pt] at o;simpa using o
 obtain⟨r,ai,rfl⟩:=this;unfold tV Ro;rw[ai];rfl
theorem K3 {n:Int}(h:0<=n)(aS:n<18446744073709551616):xA n=some (L n):=by
 have : ∃r,iter (fun w:Int×ar=>An w.1 w.2) (n,[])=some r/\r=L n:=by
  refine kB (fi:=fun w:Int×ar=>w.1<=n/\0<=w.1/\cX w.2/\V w.2+B w.2.length*w.1=n/\(w.1=0->fO w.2)/\((w.2.length=0/\w.1<18446744073709551616)\/(w.2.length=1/\w.1<20000000000)\/(w.2.length=2/\w.1<20)\/(w.2.length=3/\w.1=0))) (m:=fun w:Int×ar=>w.1.toNat) _ ?_ _ ⟨Int.le_refl _,h,cX.nil,by simp[V,B],fun _=>fO.nil,.inl ⟨rfl,by simp only;omega⟩⟩;rintro⟨m,row⟩ ⟨hm,cP⟩;simp only at hm cP;obtain⟨h0,h1,o,U,ak⟩:=id cP;by_cases kO:0<m
  ·have:=SR (by omega) cP kO;refine .inl ⟨(m / 1000000000,row++[m % 1000000000]),?_,⟨by simp only;omega,this⟩,by simp only;omega⟩;unfold An;rw[dw (by simp;omega),sc (by omega),oI (by omega),af8 (x:=m % 1000000000) (by omega) (by omega),dw (by simp;omega),EU (by omega) (by omega)]
  ·refine .inr ⟨row,by simp[An,kO],?_⟩;have pt:m=0:=(by omega);refine wA (U pt) ?_;rw[pt] at o;simpa using o
 obtain⟨r,ai,rfl⟩:=this;unfold xA QN;rw[ai];rfl
def qz (x:Int):Bool:=decide (0<=x) && decide (x<1000000000)
theorem LM (l:ar):l.all qz=true↔cX l:=by simp[qz,cX]
theorem K4 {a:ar}(h:a≠[]): ∃x,a[a.length-1]? = some x/\(fO a↔cX a/\x≠0):=by
 have ah:=List.length_pos_iff.mpr h;refine⟨a[a.length-1],dz (by omega),?_⟩;have e:a.getLast? = some a[a.length-1]:=by rw[List.getLast?_eq_getElem?];exact dz (by omega)
 constructor
 ·exact fun h=>⟨h.1,h.2 _ e⟩
 ·refine fun h=>⟨h.1,fun x ab=> ?_⟩;rw[e] at ab;rw[<- dI ab];exact h.2
theorem U4 {a:ar}(h:a≠[])(hm:(a.length:Int)<9223372036854775807):R ((a.length:Int)-1)=((a.length-1:Nat):Int):=by have ah:=List.length_pos_iff.mpr h;rw[cV (by omega) (by omega)];omega
theorem ab7 (x:Int):oc x 0 999999999=some (qz x):=by
 unfold oc qz;by_cases h:0<=x
 ·simp[h];omega
 ·simp[h]
theorem Hd {a:ar}(hm:(a.length:Int)<9223372036854775807): ∃ok,tW a=some ok/\(ok=true↔fO a/\a.length<=60):=by
 have h1:iter (fun w:Int=>AN a a.length w) 0=some (if a.all qz then .inl () else .inr ()):=by refine Tl a qz (fun n x ab=> ?_) (by simp[AN]);have:=gB ab;unfold AN;rw[dw (by simp;omega),dw (by omega),dx,ab];simp only[dC,dA,ab7];rw[i1 (by omega)];cases qz x<;>rfl
 unfold tW Rp;simp only[fX];rw[h1];by_cases rk:a.all qz=true
 ·have Fk:=(LM a).1 rk
  simp only[rk,if_true,dC,dA];by_cases qI:a.length<=60
  ·rw[dw (by simp;omega)]
   by_cases h0:a=[]
   ·subst h0;exact⟨true,rfl,by simp[fO.nil]⟩
   ·obtain⟨x,ab,aS⟩:=K4 h0;have ah:=List.length_pos_iff.mpr h0;rw[dy (by simp[h0]),U4 h0 hm,dw (by omega),dx,ab];refine⟨_,rfl,?_⟩;rw[aS];simp[Fk,qI]
  ·rw[dy (by simp;omega)];exact⟨false,rfl,by simp;omega⟩
 ·have Fk : ¬cX a:=fun h=>rk ((LM a).2 h);simp only[Bool.not_eq_true] at rk;refine⟨false,by simp[rk],?_⟩;simp only[Bool.false_eq_true,false_iff];exact fun h=>Fk h.1.1
theorem ab8 (x:Int):DR x=some (!qz x):=by
 unfold DR qz;by_cases h:x<0
 ·simp[h]
 ·rw[dy (by simp[h])];congr 1;rw[Bool.eq_iff_iff];simp;omega
theorem RV {a:ar}(hm:(a.length:Int)<9223372036854775807):zO a=some (!(a.all qz)):=by
 obtain⟨r,ai,h⟩:=SO (f:=fun w:Int=>zD a a.length w) a (fun x=> !qz x) (fun n x ab=>by have:=gB ab;unfold zD;rw[dw (by simp;omega),dw (by omega),dx,ab];simp only[dC,dA,ab8];rw[i1 (by omega)];cases qz x<;>rfl) (by simp[zD]);have e:a.any (fun x=> !qz x) = !(a.all qz):=by rw[List.not_all_eq_any_not]
 rw[e] at h;unfold zO GD Ox;simp only[fX];rw[ai];rcases h with ⟨k,rfl,aY,h⟩|⟨rfl,h⟩
 ·simp only[dC,dA];rw[h];simp[aY]
 ·simp only[dC,dA];rw[h];rfl
theorem ab9 {a:ar}(hm:(a.length:Int)<9223372036854775807): ∃ok,xM a=some ok/\(ok=true↔fO a/\a.length<=60):=by
 unfold xM;simp only[fX];by_cases qI:60<a.length
 ·rw[dw (by simp;omega)];exact⟨false,rfl,by simp;omega⟩
 ·rw[dy (by simp;omega)]
  by_cases h0:a=[]
  ·subst h0;exact⟨true,by simp[RV],by simp[fO.nil]⟩
  ·obtain⟨x,ab,aS⟩:=K4 h0
   have ah:=List.length_pos_iff.mpr h0;rw[dw (by simp;omega),U4 h0 hm,dw (by omega),dx,ab];simp only[dC,dA];rw[aS];by_cases j1:x=0
   ·exact⟨false,by simp[j1],by simp[j1]⟩
   ·rw[dy (by simp[j1]),RV hm];refine⟨_,rfl,?_⟩;rw[<- LM];simp[j1];omega
theorem So {a:ar}(hm:(a.length:Int)<9223372036854775807): ∃ok,tW a=some ok/\xM a=some ok/\(ok=true↔fO a/\a.length<=60):=by obtain⟨bX,h1,o⟩:=Hd hm;obtain⟨aP,U,ak⟩:=ab9 hm;have:aP=bX:=Bool.eq_iff_iff.mpr (ak.trans o.symm);exact⟨bX,h1,this▸U,o⟩
theorem RW {a:ar}(bI:fO a)(qI:a.length<=60)(bg:V a<9223372036854775808):A7 a=some (V a,true):=by
 obtain⟨ok,h1,o⟩:=Hd (a:=a) (by omega);have nB:ok=true:=o.2 ⟨bI,qI⟩;subst nB;have a3:fO [854775807,223372036,9]:=⟨by intro x ab;simp at ab;omega,by simp⟩;have Nn:V [854775807,223372036,9]=9223372036854775807:=by decide
 unfold A7;rw[h1];simp only[dC,dA,if_true];rw[u6 bI a3 (by omega),Nn]
 have : ∃r,iter (fun w:Int×Int=>Ad a w.1 w.2) (0,(a.length:Int)-1)=some r/\r=V a:=by
  refine kB (fi:=fun w:Int×Int=> ∃k:Nat,w.2=(k:Int)-1/\k<=a.length/\w.1=V (a.drop k)) (m:=fun w:Int×Int=>(w.2+1).toNat) _ ?_ _ ⟨a.length,rfl,by omega,by simp[V]⟩;rintro⟨n,i⟩ ⟨k,U,aY,ak⟩;simp only at U ak;subst U ak
  cases k with
  | zero=>exact .inr ⟨V a,by simp[Ad],rfl⟩
  | succ k =>
   have ab:=dz (show k<a.length by omega);have j1:=bI.1.get ab;have ax:=qh ab;have aW:=me (bI.1.drop (k+1));have bb:V (a.drop k)<=V a:=(by have bd:=x4 (l:=a) (n:=k) (by omega);have ch:=me (bI.1.take k);have cE:=me (bI.1.drop k);have eD:1*V (a.drop k)<=B k*V (a.drop k):=Int.mul_le_mul_of_nonneg_right (pd k) cE;omega);refine .inl ⟨(V (a.drop k),(k:Int)-1),?_,⟨k,rfl,by omega,rfl⟩,by simp only;omega⟩;unfold Ad;rw[show ((k+1:Nat):Int)-1=k by omega,dw (by simp),dw (by omega),dx,ab];simp only[dC,dA];rw[sL (by omega),cV (x:=V (a.drop (k+1))*1000000000) (by omega) (by omega),cV (by omega) (by omega),ax];congr 3;omega
 obtain⟨r,ai,rfl⟩:=this;unfold lO Qq;simp only[fX];rw[sL (by omega),ai];have U : ¬(9223372036854775807:Int)<V a:=by omega
 by_cases ak:V a<9223372036854775807<;>simp[U,ak]
theorem ad3 {a b row:ar}{less x:Int}{i:Nat}(aU:cX b)(ab:a[i]? = some x)(j1:0<=x/\x<1000000000)(aX:less=0\/less=1)(aS:a.length<=1000000)(hm:b.length<=1000000)(ai:row.length<=1000000):
 ∃y,0<=y/\y<1000000000/\(∀z,b[i]? = some z->y=z)/\(b[i]? = none->y=0) /\
 xl a b a.length less i row=some (.inl (if x-less-y<0 then (1,((i+1:Nat):Int),row++[x-less-y+1000000000]) else (0,((i+1:Nat):Int),row++[x-less-y]))):=by
 have ad:=gB ab;unfold xl;rw[dw (by simp;omega),dw (by omega),dx,ab];simp only[dC,dA,fX];by_cases Wc:i<b.length
 ·have a1:=dz Wc
  have p7:=aU.get a1;refine⟨b[i],p7.1,p7.2,fun z cC=>by rw[a1] at cC;exact dI cC,fun h=>by rw[a1] at h;simp at h,?_⟩;rw[dw (by simp;omega),dw (by omega),a1];simp only[dA];rw[cV (x:=x-less) (by omega) (by omega),cV (x:=x-less-b[i]) (by omega) (by omega),pi (n:=i) (by omega),cV (x:=x-less-b[i]+1000000000) (by omega) (by omega)];by_cases h:x-less-b[i]<0
  ·rw[dw (by simp[h]),dw (by simp;omega)];simp[h]
  ·rw[dy (by simp[h]),dw (by simp;omega)];simp[h]
 ·have a1:b[i]? = none:=by simp;omega
  refine⟨0,by omega,by omega,fun z cC=>by rw[a1] at cC;simp at cC,fun _=>rfl,?_⟩;rw[dy (by simp;omega),cV (x:=x-less) (by omega) (by omega),pi (n:=i) (by omega),cV (x:=x-less+1000000000) (by omega) (by omega),Int.sub_zero];by_cases h:x-less<0
  ·rw[dw (by simp[h]),dw (by simp;omega)];simp[h]
  ·rw[dy (by simp[h]),dw (by simp;omega)];simp[h]
theorem Tr {b:ar}{i:Nat}{y:Int}(h1:∀z,b[i]? = some z->y=z)(o:b[i]? = none->y=0):V (b.take (i+1))=V (b.take i)+B i*y:=by
 cases h:b[i]? with
 | some z=>rw[h1 z h,u3 h]
 | none =>
  rw[o h];have:b.length<=i:=(by simpa using h);rw[List.take_of_length_le (by omega),List.take_of_length_le (by omega)];simp
theorem sub_eq {a b:ar}(bI:cX a)(aU:cX b)(hlen:b.length<=a.length)(wL:V b<=V a)(aS:a.length<=1000000):uS a b=some (L (V a-V b)):=by
 have : ∃r,iter (fun w:Int×Int×ar=>xl a b a.length w.1 w.2.1 w.2.2) (0,0,[])=some r/\cX r/\r.length=a.length/\V r=V a-V b:=by
  refine kB (fi:=fun w:Int×Int×ar=> ∃i:Nat,w.2.1=i/\i<=a.length/\(w.1=0\/w.1=1)/\cX w.2.2/\w.2.2.length=i/\V w.2.2-w.1*B i=V (a.take i)-V (b.take i)) (m:=fun w:Int×Int×ar=>a.length-w.2.1.toNat) _ ?_ _ ⟨0,rfl,by omega,.inl rfl,cX.nil,rfl,by simp[V]⟩;rintro⟨less,ii,row⟩ ⟨i,h1,ad,aX,ln,vE,bg⟩;simp only at h1 aX ln vE bg ⊢;subst h1;by_cases FZ:i=a.length
  ·refine .inr ⟨row,by simp[xl,FZ],ln,by omega,?_⟩;rw[FZ] at bg;rw[List.take_length,List.take_of_length_le hlen] at bg;have o:=oi ln;rw[vE,FZ] at o;rcases aX with rfl|rfl<;>omega
  ·have ab:=dz (show i<a.length by omega)
   have j1:=bI.get ab;obtain⟨y,F0,F1,ahC,ahD,he⟩:=ad3 (row:=row) aU ab j1 aX aS (by omega) (by omega);rw[he];refine .inl ⟨_,rfl,?_⟩;have U:=u3 ab;have ak:=Tr ahC ahD;by_cases h:a[i]-less-y<0
   ·rw[dw h];refine⟨⟨i+1,rfl,by omega,.inr rfl,ln.append (cX.cons (by omega) cX.nil),by simp[vE],?_⟩,by simp only;omega⟩;simp only;rw[U,ak,xV,vE,nw,mu,B4];grind
   ·rw[dy h];refine⟨⟨i+1,rfl,by omega,.inl rfl,ln.append (cX.cons (by omega) cX.nil),by simp[vE],?_⟩,by simp only;omega⟩;simp only;rw[U,ak,xV,vE,mu,B4];grind
 obtain⟨r,ai,h1,o,U⟩:=this;unfold uS Q4;simp only[fX];rw[ai];simp only[dC,dA];rw[tX h1 (by omega),U];rfl
theorem tY {l:ar}(h:cX l){k:Nat}(aY:k<=l.length):B k*V (l.drop k)<=V l/\V l<B k*(V (l.drop k)+1):=by have h1:=x4 aY;have o:=me (h.take k);have U:=oi (h.take k);rw[List.length_take,Nat.min_eq_left aY] at U;rw[Int.mul_add,Int.mul_one];omega
theorem Ee {l:ar}{k:Nat}{x:Int}(ab:l[k]? = some x)(aX:l.length=k+1):V (l.drop k)=x:=by rw[qh ab,List.drop_of_length_le (by omega)];simp[V]
theorem RE {a2 W t d P:Int}(fW:1<=P)(IZ:P*t<=a2)(Np:a2<P*(t+1))(wP:P*d<=W)(I0:W<P*(d+1))(bG:0<d)(cf:0<=t)(Nq:a2<1000000000*W):t / (d+1)<=a2 / W/\a2 / W<=t / d/\a2 / W<=999999999:=by
 have hW:0<W:=by have:=Int.mul_pos (a:=P) (b:=d) (by omega) bG;omega
 have di:0<=a2:=by have:=Int.mul_nonneg (a:=P) (b:=t) (by omega) cf;omega
 refine⟨?_,?_,?_⟩
 ·apply (Int.le_ediv_iff_mul_le hW).2;have h1:t / (d+1)*(d+1)<=t:=Int.ediv_mul_le _ (by omega);have o:0<=t / (d+1):=Int.ediv_nonneg cf (by omega);have U:t / (d+1)*W<=t / (d+1)*(P*(d+1)):=dK (by omega) o;have ak:P*(t / (d+1)*(d+1))<=P*t:=dK h1 (by omega);have ax:t / (d+1)*(P*(d+1))=P*(t / (d+1)*(d+1)):=(by grind);omega
 ·apply (Int.le_ediv_iff_mul_le bG).2;have h1:a2 / W*W<=a2:=Int.ediv_mul_le _ (by omega);have o:0<=a2 / W:=Int.ediv_nonneg di (by omega);have U:a2 / W*(P*d)<=a2 / W*W:=dK wP o;have ak:a2 / W*(P*d)=P*(a2 / W*d):=(by grind);have ax:P*(a2 / W*d)<P*(t+1):=(by omega);have:=Int.lt_of_mul_lt_mul_left ax (by omega);omega
 ·have:=Int.ediv_lt_of_lt_mul hW Nq;omega
theorem T1 {a b:Int}:lO a b<=0↔a<=b:=by
 unfold lO;by_cases h:a<b
 ·simp[h];omega
 ·by_cases o:b<a
  ·simp[h,o]
  ·simp[h,o];omega
theorem wh {a b:Int}:lO a b<0↔a<b:=by
 unfold lO;by_cases h:a<b
 ·simp[h]
 ·by_cases o:b<a
  ·simp[h,o]
  ·simp[h,o]
theorem Le {a b:Int}:lO a b=0↔a=b:=by
 unfold lO;by_cases h:a<b
 ·simp[h];omega
 ·by_cases o:b<a
  ·simp[h,o];omega
  ·simp[h,o];omega
theorem Sp {r b:ar}(ai:fO r)(aU:fO b)(mC:b≠[])(aS:r.length<=1000000)(hm:b.length<=1000000){b3 ad:Int}(h0:0<=b3)(h1:b3<=V r / V b)(o:V r / V b<=ad)(U:ad<=999999999):J8 r b b3 ad=some (V r / V b):=by
 have kI:=tq aU mC
 have : ∃q,iter (fun w:Int×Int=>xd r b w.1 w.2) (b3,ad)=some q/\q=V r / V b:=by
  refine kB (fi:=fun w:Int×Int=>0<=w.1/\w.1<=V r / V b/\V r / V b<=w.2/\w.2<=999999999) (m:=fun w:Int×Int=>(w.2-w.1).toNat) _ ?_ _ ⟨h0,h1,o,U⟩;rintro⟨l,h⟩ ⟨g0,g1,g2,g3⟩;simp only at g0 g1 g2 g3;by_cases ez:l<h
  ·have e1:R ((R ((R (l+h))+(1:Int))).tdiv (2:Int))=(l+h+1) / 2:=by
    rw[cV (x:=l+h) (by omega) (by omega),cV (x:=l+h+1) (by omega) (by omega),oI (by omega),cV (by omega) (by omega)]
   have pt:0<=(l+h+1) / 2:=(by omega);have ri:(l+h+1) / 2<1000000000:=(by omega);have VP:(L ((l+h+1) / 2)).length<=1:=(h4 pt).2 (by simpa [B] using ri)
   have aB:xd r b l h=some (.inl (if V b*((l+h+1) / 2)<=V r then ((l+h+1) / 2,h) else (l,(l+h+1) / 2-1))):=by
    unfold xd;rw[dw (by simp[ez]),e1,BA pt (by omega)];simp only[dC,dA];rw[mul_eq aU.1 (hI _) hm (by omega),ek pt];simp only[dA];have ah:0<=V b*((l+h+1) / 2):=Int.mul_nonneg (by omega) pt;have hlen:(L (V b*((l+h+1) / 2))).length<=b.length+1:=(h4 ah).2 (by rw[nw];have ax:=oi aU.1;have:V b*((l+h+1) / 2)<=V b*1000000000:=dK (by omega) (by omega);omega);rw[u6 (iy _) ai (by omega),ek ah];simp only[dA];by_cases a3:V b*((l+h+1) / 2)<=V r
    ·rw[dw (by simpa using T1.2 a3),dw a3]
    ·rw[dy (fun h=>a3 (T1.1 (by simpa using h))),dy a3,cV (by omega) (by omega)]
   rw[aB];refine .inl ⟨_,rfl,?_⟩;by_cases a3:V b*((l+h+1) / 2)<=V r
   ·rw[dw a3];have:(l+h+1) / 2<=V r / V b:=(Int.le_ediv_iff_mul_le kI).2 (by rw[Int.mul_comm];exact a3);exact⟨⟨by simp only;omega,this,g2,g3⟩,by simp only;omega⟩
   ·rw[dy a3];have:V r / V b<(l+h+1) / 2:=(Int.ediv_lt_iff_lt_mul kI).2 (by rw[Int.mul_comm];omega);exact⟨⟨g0,g1,by simp only;omega,by simp only;omega⟩,by simp only;omega⟩
  ·exact .inr ⟨l,by simp[xd,ez],by omega⟩
 obtain⟨q,a5,rfl⟩:=this;exact a5
theorem H7 {b:ar}(aU:fO b)(mC:b≠[]): ∃k d,b.length=k+1/\b[k]? = some d/\0<d/\d<1000000000/\V (b.drop k)=d:=by have ah:=List.length_pos_iff.mpr mC;obtain⟨x,ab,h⟩:=K4 mC;have h1:=h.1 aU;have o:=h1.1.get ab;exact⟨b.length-1,x,by omega,ab,by omega,o.2,Ee ab (by omega)⟩
theorem ad4 {r b:ar}(ai:fO r)(aU:fO b)(mC:b≠[])(aS:r.length<=1000000)(hm:b.length<=1000000)(h1:V b<=V r)(o:V r<1000000000*V b):DA r b=some (V r / V b):=by
 obtain⟨k,d,aY,bG,sS,sZ,wQ⟩:=H7 aU mC;have VG:b.length<=r.length:=Nat.le_of_not_lt fun h=>by have:=HJ ai aU h;omega
 have VH:r.length<=b.length+1:=ai.len.2 (by have:=oi aU.1;rw[nw];omega);have wI:=tY aU.1 (k:=k) (by omega);rw[wQ] at wI;have jj:=tY ai.1 (k:=k) (by omega);have ab:=dz (show k<r.length by omega);have j1:=ai.1.get ab;have hw:R ((b.length:Int)-1)=(k:Int):=by rw[cV (by omega) (by omega)];omega
 have n7:=me (ai.1.drop k);have I1:=RE (pd k) jj.1 jj.2 wI.1 wI.2 sS n7 o;have akh:=me ai.1;have hW:=tq aU mC;unfold DA;simp only[fX,hw];rw[dw (by omega),dx,ab];simp only[dC,dA];by_cases hlen:b.length<r.length
 ·have a1:=dz hlen;have p7:=ai.1.get a1;have pv:V (r.drop (k+1))=r[b.length]:=(by rw[<- aY];exact Ee a1 (by omega));have cf:V (r.drop k)=r[k]+1000000000*r[b.length]:=(by rw[qh ab,pv]);rw[cf] at I1 n7;have na:0<=(r[k]+1000000000*r[b.length]) / (d+1):=Int.ediv_nonneg n7 (by omega);have pU:(r[k]+1000000000*r[b.length]) / (d+1)<=r[k]+1000000000*r[b.length]:=Int.ediv_le_self _ n7;have Cg:0<=(r[k]+1000000000*r[b.length]) / d:=Int.ediv_nonneg n7 (by omega);have ahE:(r[k]+1000000000*r[b.length]) / d<=r[k]+1000000000*r[b.length]:=Int.ediv_le_self _ n7;rw[dw (by simp;omega),dw (by omega),dx,a1];simp only[dA];rw[dw (by omega),bG];simp only[dA];have e1:R (d+1)=d+1:=cV (by omega) (by omega);have aB:R (r[k]+R (r[b.length]*1000000000))=r[k]+1000000000*r[b.length]:=(by rw[cV (x:=r[b.length]*1000000000) (by omega) (by omega),cV (by omega) (by omega),Int.mul_comm]);rw[e1,dw (by omega),dw (by omega),aB,oI n7,oI n7,cV (by omega) (by omega),cV (x:=(r[k]+1000000000*r[b.length]) / d) (by omega) (by omega)];rw[Sp ai aU mC aS hm na I1.1 (by split<;>omega) (by split<;>omega)];rfl
 ·have cf:V (r.drop k)=r[k]:=Ee ab (by omega);rw[cf] at I1 n7;have na:0<=r[k] / (d+1):=Int.ediv_nonneg n7 (by omega);have pU:r[k] / (d+1)<=r[k]:=Int.ediv_le_self _ n7;have Cg:0<=r[k] / d:=Int.ediv_nonneg n7 (by omega);have ahE:r[k] / d<=r[k]:=Int.ediv_le_self _ n7;rw[dy (by simp;omega),dw (by omega),bG];simp only[dA];have e1:R (d+1)=d+1:=cV (by omega) (by omega);rw[e1,dw (by omega),dw (by omega),oI n7,oI n7,cV (by omega) (by omega),cV (x:=r[k] / d) (by omega) (by omega)];rw[Sp ai aU mC aS hm na I1.1 (by split<;>omega) (by split<;>omega)];rfl
theorem ad5 {a b:ar}(bI:fO a)(aU:fO b)(mC:b≠[])(aS:a.length<=900000)(hm:b.length<=900000):
 ∃r,Q6 a b [] ((a.length:Int)-1) (List.replicate a.length 0)=some r/\r.1=L (V a % V b)/\cX r.2/\r.2.length=a.length/\V r.2=V a / V b:=by
 have kI:=tq aU mC;refine kB (fi:=fun w:ar×Int×ar=> ∃(k:Nat) (q:ar),w.2.1=(k:Int)-1/\k<=a.length/\w.2.2=List.replicate k 0++q/\q.length+k=a.length/\cX q/\fO w.1/\V w.1<V b/\V (a.drop k)=V q*V b+V w.1) (m:=fun w:ar×Int×ar=>(w.2.1+1).toNat) _ ?_ _ ⟨a.length,[],rfl,by omega,by simp,by simp,cX.nil,fO.nil,by simpa [V] using kI,by simp[V]⟩;rintro⟨rest,i,row⟩ ⟨k,q,h1,aY,o,a5,r6,mB,jj,bg⟩;simp only at h1 o mB jj bg ⊢;subst h1 o;have F2:=me mB.1
 cases k with
 | zero =>
  simp at bg;refine .inr ⟨(rest,q),by simp[AE],?_,r6,by simpa using a5,?_⟩
  ·refine wA mB ?_;rw[bg,Int.add_comm,Int.add_mul_emod_self_right];exact(Int.emod_eq_of_lt F2 jj).symm
  ·rw[bg,Int.add_comm,Int.add_mul_ediv_right _ _ (by omega),Int.ediv_eq_zero_of_lt F2 jj];simp
 | succ k =>
  have ab:=dz (show k<a.length by omega);have j1:=bI.1.get ab;have vE:rest.length<=b.length:=mB.len.2 (by have:=oi aU.1;omega);have jI:cX (a[k]::rest):=cX.cons j1 mB.1;have Nn:V (a[k]::rest)=a[k]+1000000000*V rest:=mu _ _;have qJ:0<=a[k]+1000000000*V rest:=(by omega);have aki:(L (a[k]+1000000000*V rest)).length<=b.length+1:=(h4 qJ).2 (by have:=oi aU.1;rw[nw];omega);have bG:=qh ab
  have Ml:AE a b rest (k:Int) (List.replicate (k+1) 0++q)=some (.inl (if a[k]+1000000000*V rest<V b then (L (a[k]+1000000000*V rest),(k:Int)-1,List.replicate (k+1) 0++q) else (L ((a[k]+1000000000*V rest) % V b),(k:Int)-1,(List.replicate (k+1) 0++q).set k ((a[k]+1000000000*V rest) / V b)))):=by
   unfold AE;rw[dw (by simp),dw (by omega),dx,ab];simp only[dC,dA,List.singleton_append];rw[dw (by simp;omega),tX jI (by simp;omega),Nn];simp only[dA];rw[u6 (iy _) aU (by omega),ek qJ];simp only[dA];by_cases a3:a[k]+1000000000*V rest<V b
   ·rw[dw (by simpa using wh.2 a3),dw a3,sL (by omega)]
   ·rw[dy (fun h=>a3 (wh.1 (by simpa using h))),dy a3];have ez:a[k]+1000000000*V rest<1000000000*V b:=(by omega);rw[ad4 (iy _) aU mC (by omega) (by omega) (by rw[ek qJ];omega) (by rw[ek qJ];exact ez),ek qJ];simp only[dA];have na:0<=(a[k]+1000000000*V rest) / V b:=Int.ediv_nonneg qJ (by omega);have pU:(a[k]+1000000000*V rest) / V b<1000000000:=Int.ediv_lt_of_lt_mul kI ez;have akj:(L ((a[k]+1000000000*V rest) / V b)).length<=1:=(h4 na).2 (by simpa [B] using pU);have ri:=Int.mul_ediv_add_emod (a[k]+1000000000*V rest) (V b);have F3:=Int.emod_nonneg (a[k]+1000000000*V rest) (b:=V b) (by omega);have F4:0<=V b*((a[k]+1000000000*V rest) / V b):=Int.mul_nonneg (by omega) na;rw[dw (by simp;omega),dw (by simp;omega),BA na (by omega)];simp only[dA];rw[mul_eq aU.1 (hI _) (by omega) (by omega),ek na];simp only[dA];rw[sub_eq (hI _) (hI _) ((h4 F4).2 (by have:=oi (hI (a[k]+1000000000*V rest));rw[ek qJ] at this;omega)) (by rw[ek qJ,ek F4];omega) (by omega),ek qJ,ek F4];simp only[dA];rw[sL (by omega),dG];congr 4;omega
  rw[show ((k+1:Nat):Int)-1=k by omega,Ml];refine .inl ⟨_,rfl,?_⟩;by_cases a3:a[k]+1000000000*V rest<V b
  ·rw[dw a3]
   refine⟨⟨k,0::q,rfl,by omega,?_,by simp;omega,cX.cons (by omega) r6,iy _,by rw[ek qJ];exact a3,?_⟩,by simp⟩
   ·simp only;rw[List.replicate_succ',List.append_assoc];rfl
   ·simp only;rw[bG,bg,mu,ek qJ];grind
  ·rw[dy a3];have ez:a[k]+1000000000*V rest<1000000000*V b:=(by omega);have F3:=Int.emod_nonneg (a[k]+1000000000*V rest) (b:=V b) (by omega);refine⟨⟨k,(a[k]+1000000000*V rest) / V b::q,rfl,by omega,LL _ _ _,by simp;omega,cX.cons ⟨Int.ediv_nonneg qJ (by omega),Int.ediv_lt_of_lt_mul kI ez⟩ r6,iy _,by rw[ek F3];exact Int.emod_lt_of_pos _ kI,?_⟩,by simp⟩;simp only;rw[bG,bg,mu,ek F3];have ri:=Int.mul_ediv_add_emod (a[k]+1000000000*V rest) (V b);generalize (a[k]+1000000000*V rest) / V b=u at *;generalize (a[k]+1000000000*V rest) % V b=t at *;grind
theorem div_eq {a b:ar}(bI:fO a)(aU:fO b)(mC:b≠[])(aS:a.length<=900000)(hm:b.length<=900000):v7 a b=some (L (V a / V b),L (V a % V b)):=by
 unfold v7;simp only[fX];by_cases h1:b.length=1
 ·obtain⟨k,d,aY,bG,sS,sZ,wQ⟩:=H7 aU mC;have vv:k=0:=(by omega);subst vv;have Nr:V b=d:=(by simpa using wQ);rw[dw (by simp[h1]),dw (by omega),bG];simp only[dC,dA];have ri:=Int.emod_nonneg (V a) (b:=d) (by omega);have F3:=Int.emod_lt_of_pos (V a) sS;rw[ad2 bI.1 ⟨sS,sZ⟩ (by omega)];simp only[dA];rw[BA ri (by omega),Nr];rfl
 ·obtain⟨r,ai,e1,aB,bP,dd⟩:=ad5 bI aU mC aS hm;rw[dy (by simp;omega),dw (by omega),sL (by omega),dx,ai];simp only[dC,dA];rw[tX aB (by omega),dd,e1];rfl
theorem Lu {x y:Int}(ab:0<=x):Int.gcd y (x % y)=Int.gcd x y:=by have:=Nat.gcd_rec y.natAbs x.natAbs;simp only[Int.gcd];rw[Nat.gcd_comm x.natAbs,this,Int.natAbs_emod_of_nonneg ab,Nat.gcd_comm]
theorem HP {x:Int}(ab:0<=x):(Int.gcd x 0:Int)=x:=by rw[Int.gcd_zero_right];omega
theorem ad6 {x y:Int}(ab:0<=x)(a1:0<=y)(F5:x<9223372036854775808)(F0:y<9223372036854775808):Dy x y=some (L (Int.gcd x y)):=by
 have : ∃r,iter (fun w:Int×Int=>Ae w.1 w.2) (x,y)=some r/\(r=(Int.gcd x y:Int)/\r<9223372036854775808):=by
  refine kB (fi:=fun w:Int×Int=>0<=w.1/\0<=w.2/\w.1<9223372036854775808/\w.2<9223372036854775808/\Int.gcd w.1 w.2=Int.gcd x y) (m:=fun w:Int×Int=>w.2.toNat) _ ?_ _ ⟨ab,a1,F5,F0,rfl⟩;rintro⟨u,v⟩ ⟨h1,o,U,ak,ax⟩;simp only at h1 o U ak ax;by_cases bg:0<v
  ·have aW:=Int.emod_nonneg u (b:=v) (by omega);have bb:=Int.emod_lt_of_pos u bg;refine .inl ⟨(v,u % v),?_,⟨o,aW,ak,by simp only;omega,by rw[<- ax];exact Lu h1⟩,by simp only;omega⟩;unfold Ae;rw[dw (by simpa using bg),dw (by omega),sc h1]
  ·have V8:v=0:=(by omega);subst V8;refine .inr ⟨u,by simp[Ae],?_,U⟩;rw[<- ax,HP h1]
 obtain⟨r,ai,rfl,h⟩:=this;unfold Dy Qs;rw[ai];simp only[dC,dA];rw[BA (by omega) h];rfl
theorem H8 {a:ar}(bI:fO a)(h:a.length<3):V a<9223372036854775808:=by
 have h1:=oi bI.1;have o:=sC (m:=a.length) (n:=2) (by omega);have U:B 2=1000000000000000000:=by decide
 omega
theorem L3 {a b:ar}(bI:fO a)(aU:fO b)(aS:a.length<=900000)(hm:b.length<=900000):Bh a b=some (L (Int.gcd (V a) (V b))):=by
 have : ∃r,iter (fun w:ar×ar=>xm w.1 w.2) (a,b)=some r/\r.elim id id=L (Int.gcd (V a) (V b)):=by
  refine kB (fi:=fun w:ar×ar=>fO w.1/\fO w.2/\w.1.length<=900000/\w.2.length<=900000/\Int.gcd (V w.1) (V w.2)=Int.gcd (V a) (V b)) (m:=fun w:ar×ar=>(V w.2).toNat) _ ?_ _ ⟨bI,aU,aS,hm,rfl⟩;rintro⟨x,y⟩ ⟨h1,o,U,ak,ax⟩;simp only at h1 o U ak ax ⊢;have j1:=me h1.1;have p7:=me o.1;by_cases a1:y=[]
  ·subst a1;refine .inr ⟨.inl x,by simp[xm,fX],?_⟩;rw[<- ax,B4,HP j1];exact(vw h1).symm
  ·have Ns:=tq o a1
   have ahF:=List.length_pos_iff.mpr a1;by_cases bK:x.length<3/\y.length<3
   ·refine .inr ⟨.inr (L (Int.gcd (V a) (V b))),?_,rfl⟩;unfold xm;simp only[fX];rw[dw (by simp;omega),dw (by simp;omega),dw (by simp;omega),RW h1 (by omega) (H8 h1 bK.1)];simp only[dC,dA];rw[RW o (by omega) (H8 o bK.2)];simp only[dA];rw[ad6 j1 p7 (H8 h1 bK.1) (H8 o bK.2),ax];rfl
   ·have wR:=Int.emod_nonneg (V x) (b:=V y) (by omega)
    have ahG:=Int.emod_lt_of_pos (V x) Ns;refine .inl ⟨(y,L (V x % V y)),?_,⟨o,iy _,ak,(h4 wR).2 ?_,?_⟩,?_⟩
    ·unfold xm
     simp only[fX];rw[dw (by simp;omega),div_eq h1 o a1 U ak];by_cases vF:x.length<3
     ·rw[dw (by simp;omega),dy (by simp;omega)];rfl
     ·rw[dy (by simp;omega)];rfl
    ·have:=oi o.1;have:=sC ak;omega
    ·simp only;rw[ek wR,<- ax];exact Lu j1
    ·simp only;rw[ek wR];omega
 obtain⟨r,ai,h⟩:=this;unfold Bh Q7;rw[List.nil_append,List.nil_append,dw (by omega),dw (by omega),ai]
 cases r with
 | inl r=>exact congrArg some h
 | inr r=>exact congrArg some h
def qA (p:Nat)(l:ar):Prop:= ∀i z,i≠p->l[i]? = some z->0<=z/\z<1000000000
theorem qA.set {p:Nat}{l:ar}(h:qA p l){k:Nat}{x:Int}(ab:0<=x/\x<1000000000):qA p (l.set k x):=fun i z ad cC=>by
 by_cases aY:k=i
 ·subst aY
  rw[List.getElem?_set] at cC;simp only[if_true] at cC;split at cC
  ·rw[<- dI cC];exact ab
  ·simp at cC
 ·rw[List.getElem?_set_ne aY] at cC;exact h i z ad cC
theorem qA.Vs {p:Nat}{l:ar}(h:qA p l){x:Int}:qA p (l.set p x):=fun i z ad cC=>by rw[List.getElem?_set_ne (fun h=>ad h.symm)] at cC;exact h i z ad cC
theorem cX.toE {l:ar}(h:cX l)(p:Nat):qA p l:=fun _ _ _ cC=>h.get cC
theorem acU {v row:ar}{b3 oj i:Nat}{j5 carry x y:Int}(ab:v[i]? = some x)(a1:row[b3+i]? = some y)(j1:0<=x/\x<1000000000)(p7:0<=y/\y<1000000000)(aU:0<=j5/\j5<1000000000)(a3:0<=carry/\carry<1000000000)(hu:i<oj)(aS:row.length<=5000000):
 ∃c z,xn b3 oj v j5 v.length carry i row=some (.inl (c,((i+1:Nat):Int),row.set (b3+i) z))/\0<=c/\c<1000000000/\0<=z/\z<1000000000/\z-1000000000*c=y-j5*x-carry:=by
 have ad:=gB ab;have av:=gB a1;obtain⟨jm,ik⟩:=ED aU j1;have e:R (R (y-R (j5*x))-carry)=y-j5*x-carry:=by rw[cV (x:=j5*x) (by omega) (by omega),cV (x:=y-j5*x) (by omega) (by omega),cV (by omega) (by omega)]
 by_cases cf:y-j5*x-carry<0
 ·refine⟨(999999999-(y-j5*x-carry)) / 1000000000,y-j5*x-carry+(999999999-(y-j5*x-carry)) / 1000000000*1000000000,?_,by omega,by omega,by omega,by omega,by omega⟩;unfold xn;rw[dw (by simp;omega),dw (by omega),dx,ab];simp only[dC,dA];rw[dw (by omega),a1];simp only[dA,e];rw[dw (by simpa using cf),dw (by omega),pi (n:=i) (by omega),cV (x:=999999999-(y-j5*x-carry)) (by omega) (by omega),oI (by omega),cV (x:=(999999999-(y-j5*x-carry)) / 1000000000) (by omega) (by omega),cV (x:=(999999999-(y-j5*x-carry)) / 1000000000*1000000000) (by omega) (by omega),cV (by omega) (by omega)]
 ·refine⟨0,y-j5*x-carry,?_,by omega,by omega,by omega,by omega,by omega⟩;unfold xn;rw[dw (by simp;omega),dw (by omega),dx,ab];simp only[dC,dA];rw[dw (by omega),a1];simp only[dA,e];rw[dy (by simpa using cf),dw (by omega),pi (n:=i) (by omega)]
theorem acV {v row:ar}{b3 oj:Nat}{j5:Int}(bg:cX v)(ai:cX row)(aU:0<=j5/\j5<1000000000)(hu:v.length<oj)(aX:b3+v.length<row.length)(aS:row.length<=5000000):
 ∃r,Rf b3 oj v j5 v.length 0 0 row=some r/\0<=r.1/\r.1<1000000000/\cX r.2/\r.2.length=row.length/\V r.2=V row-j5*B b3*V v+r.1*B (b3+v.length)/\ ∀i,i<b3\/b3+v.length<=i->r.2[i]? = row[i]? := by
 refine kB (fi:=fun w:Int×Int×ar=> ∃(i:Nat),w.2.1=(i:Int)/\i<=v.length/\0<=w.1/\w.1<1000000000/\cX w.2.2/\w.2.2.length=row.length/\V w.2.2=V row-j5*B b3*V (v.take i)+w.1*B (b3+i)/\ ∀i,i<b3\/b3+v.length<=i->w.2.2[i]? = row[i]?) (m:=fun w:Int×Int×ar=>v.length-w.2.1.toNat) _ ?_ _ ⟨0,rfl,by omega,by simp,by simp,ai,rfl,by simp[V],fun _ _=>rfl⟩;rintro⟨carry,ii,d9⟩ ⟨i,h1,ad,nY,oo,ln,hlen,hV,mx⟩;simp only at h1 nY oo ln hlen hV mx ⊢;subst h1;by_cases Cj:i=v.length
 ·subst Cj;exact .inr ⟨(carry,d9),by simp[xn],nY,oo,ln,hlen,by simpa using hV,mx⟩
 ·have ab:=dz (show i<v.length by omega)
  have a1:=dz (show b3+i<d9.length by omega);obtain⟨c,z,he,cZ,bo,fN,nL,cC⟩:=acU (oj:=oj) ab a1 (bg.get ab) (ln.get a1) aU ⟨nY,oo⟩ (by omega) (by omega);rw[he];refine .inl ⟨_,rfl,⟨i+1,rfl,by omega,cZ,bo,ln.set ⟨fN,nL⟩,by simpa using hlen,?_,fun k aY=> ?_⟩,by simp;omega⟩
  ·simp only;rw[ul a1,u3 ab,hV,<- Nat.add_assoc,nw,EP];have uw:z=d9[b3+i]-j5*v[i]-carry+1000000000*c:=(by omega);rw[uw];grind
  ·simp only;rw[List.getElem?_set_ne (by omega)];exact mx k aY
theorem afn {v row:ar}{b3 oj:Nat}{j5:Int}(bg:cX v)(ai:cX row)(aU:0<=j5/\j5<1000000000)(hu:v.length<oj)(aX:b3+v.length<row.length)(aS:row.length<=5000000):
 ∃y eN,DY v j5 b3 oj row=some (decide (y<0),eN)/\eN.length=row.length/\qA (b3+v.length) eN/\eN[b3+v.length]? = some y/\ -1000000000<y/\y<1000000000/\V eN=V row-j5*B b3*V v/\ ∀i,i<b3\/b3+v.length<i->eN[i]? = row[i]? := by
 obtain⟨r,jj,cZ,bo,ln,hlen,hV,mx⟩:=acV bg ai aU hu aX aS;have ab:=dz (show b3+v.length<r.2.length by omega);have j1:=ln.get ab;refine⟨r.2[b3+v.length]-r.1,r.2.set (b3+v.length) (r.2[b3+v.length]-r.1),?_,by simpa using hlen,(cX.toE ln _).Vs,?_,by omega,by omega,?_,fun i ad=> ?_⟩
 ·unfold DY;simp only[fX];rw[jj];simp only[dC,dA,dx];rw[dw (by omega),ab];simp only[dA];rw[dw (by omega),cV (by omega) (by omega),List.getElem?_set,dw rfl,dw (by omega)];rfl
 ·rw[List.getElem?_set,dw rfl,dw (by omega)]
 ·rw[ul ab,hV];grind
 ·rw[List.getElem?_set_ne (by omega)];exact mx i (by omega)
theorem acW {v row:ar}{b3 oj:Nat}(bg:cX v)(ai:qA (b3+v.length) row)(hu:v.length<oj)(aX:b3+v.length<row.length)(aS:row.length<=5000000):
 ∃r,Rg b3 oj v v.length 0 0 row=some r/\0<=r.1/\r.1<=1/\qA (b3+v.length) r.2/\r.2.length=row.length/\V r.2=V row+B b3*V v-r.1*B (b3+v.length)/\ ∀i,i<b3\/b3+v.length<=i->r.2[i]? = row[i]? := by
 refine kB (fi:=fun w:Int×Int×ar=> ∃(i:Nat),w.2.1=(i:Int)/\i<=v.length/\0<=w.1/\w.1<=1/\qA (b3+v.length) w.2.2/\w.2.2.length=row.length/\V w.2.2=V row+B b3*V (v.take i)-w.1*B (b3+i)/\ ∀i,i<b3\/b3+v.length<=i->w.2.2[i]? = row[i]?) (m:=fun w:Int×Int×ar=>v.length-w.2.1.toNat) _ ?_ _ ⟨0,rfl,by omega,by simp,by simp,ai,rfl,by simp[V],fun _ _=>rfl⟩;rintro⟨carry,ii,d9⟩ ⟨i,h1,ad,nY,oo,ln,hlen,hV,mx⟩;simp only at h1 nY oo ln hlen hV mx ⊢;subst h1;by_cases Cj:i=v.length
 ·subst Cj;exact .inr ⟨(carry,d9),by simp[AH],nY,oo,ln,hlen,by simpa using hV,mx⟩
 ·have ab:=dz (show i<v.length by omega)
  have a1:=dz (show b3+i<d9.length by omega);have j1:=bg.get ab;have p7:=ln _ _ (by omega) a1;have he:AH b3 oj v v.length carry i d9=some (.inl ((d9[b3+i]+v[i]+carry) / 1000000000,((i+1:Nat):Int),d9.set (b3+i) ((d9[b3+i]+v[i]+carry) % 1000000000))):=(by unfold AH;rw[dw (by simp;omega),dw (by omega),dx,ab];simp only[dC,dA];rw[dw (by omega),a1];simp only[dA];rw[dw (by omega),cV (x:=d9[b3+i]+v[i]) (by omega) (by omega),cV (x:=d9[b3+i]+v[i]+carry) (by omega) (by omega),sc (by omega),oI (by omega),cV (by omega) (by omega),pi (n:=i) (by omega)]);rw[he];refine .inl ⟨_,rfl,⟨i+1,rfl,by omega,by simp only;omega,by simp only;omega,ln.set (by omega),by simpa using hlen,?_,fun k aY=> ?_⟩,by simp;omega⟩
  ·simp only;rw[ul a1,u3 ab,hV,<- Nat.add_assoc,nw,EP];have:=Int.mul_ediv_add_emod (d9[b3+i]+v[i]+carry) 1000000000;generalize (d9[b3+i]+v[i]+carry) / 1000000000=q at *;generalize (d9[b3+i]+v[i]+carry) % 1000000000=t at *;have uw:t=d9[b3+i]+v[i]+carry-1000000000*q:=(by omega);rw[uw];grind
  ·simp only;rw[List.getElem?_set_ne (by omega)];exact mx k aY
theorem afo {v row:ar}{b3 oj:Nat}{y:Int}(bg:cX v)(ai:qA (b3+v.length) row)(hu:v.length<oj)(aX:b3+v.length<row.length)(aS:row.length<=5000000)(a1:row[b3+v.length]? = some y)(p7:-1000000000<y)(F0:y<1000000000):
 ∃nk eN,Bj v b3 oj row=some eN/\eN.length=row.length/\qA (b3+v.length) eN/\eN[b3+v.length]? = some nk/\V eN=V row+B b3*V v/\ ∀i,i<b3\/b3+v.length<i->eN[i]? = row[i]? := by
 obtain⟨r,jj,cZ,bo,ln,hlen,hV,mx⟩:=acW bg ai hu aX aS;have ab:r.2[b3+v.length]? = some y:=by rw[mx _ (by omega)];exact a1
 refine⟨y+r.1,r.2.set (b3+v.length) (y+r.1),?_,by simpa using hlen,ln.Vs,?_,?_,fun i ad=> ?_⟩
 ·unfold Bj;simp only[fX];rw[jj];simp only[dC,dA,dx];rw[dw (by omega),ab];simp only[dA];rw[dw (by omega),cV (by omega) (by omega)]
 ·rw[List.getElem?_set,dw rfl,dw (by omega)]
 ·rw[ul ab,hV];grind
 ·rw[List.getElem?_set_ne (by omega)];exact mx i (by omega)
theorem ad7 {g q v1 v2 top ia rest a2 W P:Int}(fW:1<=P)(dp:0<=g)(cf:g*v1+rest=top)(wP:P*(v1*1000000000+v2)<=W)(Np:a2<P*(top*1000000000+ia+1))(Wd:q*W<=a2)(hW:0<=W)(h:rest*1000000000+ia<g*v2):q<g:=by
 apply Int.not_le.mp;intro wS;have h1:g*W<=q*W:=Int.mul_le_mul_of_nonneg_right wS hW;have o:g*(P*(v1*1000000000+v2))<=g*W:=dK wP dp;have U:g*(P*(v1*1000000000+v2))=P*(g*(v1*1000000000+v2)):=by grind
 have ak:P*(g*(v1*1000000000+v2))<P*(top*1000000000+ia+1):=by omega
 have ax:=Int.lt_of_mul_lt_mul_left ak (by omega);have aW:g*(v1*1000000000+v2)=1000000000*(g*v1)+g*v2:=by grind
 omega
theorem SS {g v1 v2 top ia rest a2 W P:Int}(fW:1<=P)(dp:0<=g)(wT:g<=999999999)(tG:1<=v1)(F6:0<=v2)(cf:g*v1+rest=top)(wP:P*(v1*1000000000+v2)<=W)(I0:W<P*(v1*1000000000+v2+1))(IZ:P*(top*1000000000+ia)<=a2)(h:g*v2<=rest*1000000000+ia):g<=a2 / W+1:=by
 have F7:P*1000000000<=W:=by have h1:P*1000000000<=P*(v1*1000000000+v2):=dK (by omega) (by omega);omega
 have h1:g*W<=g*(P*(v1*1000000000+v2+1)):=dK (by omega) dp;have o:g*(P*(v1*1000000000+v2+1))=P*(1000000000*(g*v1)+g*v2+g):=by grind
 have U:P*(1000000000*(g*v1)+g*v2+g)<=P*(top*1000000000+ia+999999999):=dK (by omega) (by omega);have ak:P*(top*1000000000+ia+999999999)=P*(top*1000000000+ia)+P*999999999:=by grind
 have ax:(g-1)*W=g*W-W:=by grind
 have:g-1<=a2 / W:=(Int.le_ediv_iff_mul_le (by omega)).2 (by omega);omega
theorem aca {aj u jO aq:ar}{N n j:Nat}{v1 v2 ia top a2 W P:Int}(aS:2<=n)(IH:n<=5000000)(F8:j+n<N)(fQ:N<=5000000)(h1:jO[n-1]? = some v1)(o:jO[n-2]? = some v2)(U:u[j+n-2]? = some ia)
 (tG:1<=v1/\v1<1000000000) (F6:0<=v2/\v2<1000000000) (akk:0<=ia/\ia<1000000000) (fW:1<=P) (wP:P*(v1*1000000000+v2)<=W) (I0:W<P*(v1*1000000000+v2+1)) (IZ:P*(top*1000000000+ia)<=a2) (Np:a2<P*(top*1000000000+ia+1)) (di:0<=a2) (Nq:a2<1000000000*W) (n7:0<=top) (akl:top<=v1*1000000000+999999999) (a5:a2 / W<=top / v1) :
 ∃g,RA N n n j aj u jO aq (top / v1) (top % v1)=some g/\(a2 / W=g\/a2 / W+1=g)/\0<=g/\g<=999999999:=by
 have F7:0<W:=by have h1:P*1000000000<=P*(v1*1000000000+v2):=dK (by omega) (by omega);omega
 have na:0<=a2 / W:=Int.ediv_nonneg di (by omega);have pU:a2 / W<1000000000:=Int.ediv_lt_of_lt_mul F7 Nq;have Wd:a2 / W*W<=a2:=Int.ediv_mul_le _ (by omega);have ahI:=Int.mul_ediv_add_emod top v1;have pt:=Int.emod_nonneg top (b:=v1) (by omega);have ri:=Int.emod_lt_of_pos top (b:=v1) (by omega);have MB:R ((n:Int)-1)=((n-1:Nat):Int):=by rw[cV (by omega) (by omega)];omega
 have agA:R ((n:Int)-2)=((n-2:Nat):Int):=by rw[cV (by omega) (by omega)];omega
 have agB:R (R ((j:Int)+(n:Int))-2)=((j+n-2:Nat):Int):=by rw[cV (x:=(j:Int)+n) (by omega) (by omega),cV (by omega) (by omega)];omega
 have Ix:top / v1<=top:=Int.ediv_le_self _ n7;refine kB (fi:=fun w:Int×Int=>w.1*v1+w.2=top/\0<=w.2/\w.2<1000000000/\a2 / W<=w.1/\w.1<=top) (m:=fun w:Int×Int=>w.1.toNat) _ ?_ _ ⟨by rw[Int.mul_comm];exact ahI,pt,by simp only;omega,a5,Ix⟩;rintro⟨g,rest⟩ ⟨i1,nI,NW,Gk,aiD⟩;simp only at i1 nI NW Gk aiD ⊢;have Nt:R (rest+v1)=rest+v1:=cV (by omega) (by omega);have Nu:R (g-1)=g-1:=cV (by omega) (by omega);have wT:(g-1)*v1+(rest+v1)=top:=by grind
 have UF:a2 / W<=g-1->1000000000<=rest+v1->(a2 / W=g-1\/a2 / W+1=g-1)/\0<=g-1/\g-1<=999999999:=by intro lX k2;have mK:(g-1)*v1<1000000000*v1:=(by omega);have NY:g-1<1000000000:=Int.lt_of_mul_lt_mul_right mK (by omega);have WV:0<=g-1:=(by omega);have akS:=(ED ⟨WV,NY⟩ F6).2;have:=SS fW WV (by omega) tG.1 F6.1 wT wP I0 IZ (by omega);omega
 by_cases MC:1000000000<=g
 ·by_cases aU:1000000000<=rest+v1
  ·refine .inr ⟨g-1,?_,UF (by omega) aU⟩;unfold xq;rw[dw (by simpa using MC),MB,dw (by omega),dG,dx,h1];simp only[dC,dA,Nt,Nu];rw[dw (by simpa using aU)]
  ·refine .inl ⟨(g-1,rest+v1),?_,⟨wT,by simp only;omega,by simp only;omega,by simp only;omega,by simp only;omega⟩,by simp only;omega⟩;unfold xq;rw[dw (by simpa using MC),MB,dw (by omega),dG,dx,h1];simp only[dC,dA,Nt,Nu];rw[dy (by simpa using aU)]
 ·have kl:0<=g:=by omega
  obtain⟨jm,ik⟩:=ED ⟨kl,by omega⟩ F6;have e1:R (R (rest*1000000000)+ia)=rest*1000000000+ia:=(by rw[cV (x:=rest*1000000000) (by omega) (by omega),cV (by omega) (by omega)]);have aB:R (g*v2)=g*v2:=cV (by omega) (by omega)
  have Ml:xq N n n j aj u jO aq g rest=some (if rest*1000000000+ia<g*v2 then (if 1000000000<=rest+v1 then .inr (g-1) else .inl (g-1,rest+v1)) else .inr g):=by
   unfold xq;rw[dy (by simpa using MC),agA,dw (by omega),dG,dx,o];simp only[dC,dA];rw[agB,dw (by omega),dG,dx,U];simp only[dA,e1,aB];by_cases a3:rest*1000000000+ia<g*v2
   ·rw[dw (by simpa using a3),dw a3,MB,dw (by omega),dG,dx,h1]
    simp only[dA,Nt,Nu];by_cases aU:1000000000<=rest+v1
    ·rw[dw (by simpa using aU),dw aU]
    ·rw[dy (by simpa using aU),dy aU]
   ·rw[dy (by simpa using a3),dy a3]
  rw[Ml];by_cases a3:rest*1000000000+ia<g*v2
  ·have akm:=ad7 fW kl i1 wP Np Wd (by omega) a3
   rw[dw a3];by_cases aU:1000000000<=rest+v1
   ·rw[dw aU];exact .inr ⟨g-1,rfl,UF (by omega) aU⟩
   ·rw[dy aU];exact .inl ⟨(g-1,rest+v1),rfl,⟨wT,by simp only;omega,by simp only;omega,by simp only;omega,by simp only;omega⟩,by simp only;omega⟩
  ·rw[dy a3];have:=SS fW kl (by omega) tG.1 F6.1 i1 wP I0 IZ (by omega);exact .inr ⟨g,rfl,by omega,by omega,by omega⟩
theorem acX {a b:ar}{k:Nat}(h:∀i,k<=i->a[i]? = b[i]?):a.drop k=b.drop k:=by apply List.ext_getElem?;intro i;rw[List.getElem?_drop,List.getElem?_drop];exact h _ (by omega)
theorem acY {a b:ar}{k:Nat}(h:∀i,i<k->a[i]? = b[i]?):a.take k=b.take k:=by
 apply List.ext_getElem?;intro i;rw[List.getElem?_take,List.getElem?_take];by_cases ad:i<k
 ·rw[dw ad,dw ad];exact h i ad
 ·rw[dy ad,dy ad]
theorem We {u w:ar}{j n:Nat}{y c:Int}(hlen:w.length=u.length)(F8:j+n<u.length)(eL:qA (j+n) w)(a1:w[j+n]? = some y)(mx:∀i,i<j\/j+n<i->w[i]? = u[i]?)(h0:V (u.drop (j+n+1))=0)(hV:V w=V u-c*B j):
 V (w.drop j)=V (u.drop j)-c/\ ∃low,0<=low/\low<B n/\V (w.drop j)=low+B n*y:=by
 have h1:=x4 (l:=u) (n:=j) (by omega);have o:=x4 (l:=w) (n:=j) (by omega);rw[acY (a:=w) (b:=u) (fun i ad=>mx i (.inl ad))] at o;have U:B j*V (w.drop j)=B j*(V (u.drop j)-c):=by grind
 have fP:=pd j;have ak:V (w.drop j)=V (u.drop j)-c:=Int.eq_of_mul_eq_mul_left (by omega) U;refine⟨ak,V ((w.drop j).take n),?_,?_,?_⟩
 ·refine me (fun x ab=> ?_);obtain⟨i,ad⟩:=List.mem_iff_getElem?.mp ab;have nb:=gB ad;simp at nb;rw[List.getElem?_take,dw (by omega),List.getElem?_drop] at ad;exact eL _ _ (by omega) ad
 ·have aX:cX ((w.drop j).take n):=fun x ab=>by
   obtain⟨i,ad⟩:=List.mem_iff_getElem?.mp ab;have nb:=gB ad;simp at nb;rw[List.getElem?_take,dw (by omega),List.getElem?_drop] at ad;exact eL _ _ (by omega) ad
  have:=oi aX
  rwa [List.length_take,Nat.min_eq_left (by simp;omega)] at this
 ·have ax:=x4 (l:=w.drop j) (n:=n) (by simp;omega);rw[List.drop_drop,qh a1,acX (a:=w) (b:=u) (k:=j+n+1) (fun i ad=>mx i (.inr (by omega))),h0] at ax;rw[ax];grind
theorem SU {w:ar}{p:Nat}(eL:qA p w)(a1:w[p]? = some 0):cX w:=fun x ab=>by
 obtain⟨i,ad⟩:=List.mem_iff_getElem?.mp ab;by_cases h:i=p
 ·subst h;rw[a1] at ad;have:=dI ad;omega
 ·exact eL i x h ad
theorem Ts {low y X zm W:Int}(h0:0<=low)(h1:low<zm)(Jh:X=low+zm*y)(o:0<=X)(U:X<W)(ak:W<=zm):y=0:=by
 have ez:zm*y<zm*1:=by omega
 have ax:=Int.lt_of_mul_lt_mul_left ez (by omega);have IP:zm*(-1)<zm*y:=by omega
 have aW:=Int.lt_of_mul_lt_mul_left IP (by omega);omega
theorem acZ {aj u jO aq:ar}{n j:Nat}{v1 W:Int}(aS:2<=n)(F9:n<=jO.length)(bg:cX (jO.take n))(hW:V (jO.take n)=W)(tG:jO[n-1]? = some v1)(MD:1<=v1)(hu:cX u)(y5:u.length<=5000000)(F8:j+n<u.length)(ez:V (u.drop (j+1))<W)(akn:j<aq.length):
 ∃mo,xr u.length n n aj jO j u aq=some (.inl ((j:Int)-1,mo,aq.set j (V (u.drop j) / W)))/\cX mo/\mo.length=u.length/\V mo=V u-(V (u.drop j) / W)*B j*W/\V (mo.drop j)<W/\0<=V (u.drop j) / W/\V (u.drop j) / W<1000000000:=by
 obtain⟨n,rfl⟩ : ∃m,n=m+2:=⟨n-2,by omega⟩;have rS:(jO.take (n+2)).length=n+2:=by simp;omega
 have wT:(jO.take (n+2))[n+1]? = some v1:=by rw[List.getElem?_take,dw (by omega)];exact tG
 have Wf:=dz (show n<jO.length by omega);have Vt:(jO.take (n+2))[n]? = some jO[n]:=by rw[List.getElem?_take,dw (by omega)];exact Wf
 have agC:=bg.get wT;have agD:=bg.get Vt;have j1:=dz (show j+(n+2)<u.length by omega);have F5:=dz (show j+(n+1)<u.length by omega);have FD:=dz (show j+n<u.length by omega);have Wg:=dz (show j<u.length by omega);have mC:=hu.get j1;have wI:=hu.get F5;have MY:=hu.get FD;have ako:=hu.get Wg;have Ga:=tY bg (k:=n+1) (by omega);rw[Ee wT (by omega),hW] at Ga;have Nv:=tY bg (k:=n) (by omega);rw[qh Vt,Ee wT (by omega),hW] at Nv;have ME:=oi bg;rw[rS,hW] at ME;have akp:0<=W:=by rw[<- hW];exact me bg
 have cC:=tY (hu.drop (j+1)) (k:=n+2) (by simp;omega);rw[List.drop_drop] at cC;have ahJ:=me (hu.drop (j+1+(n+2)));have akq:=pd (n+2);have h0:V (u.drop (j+(n+2)+1))=0:=by rw[show j+(n+2)+1=j+1+(n+2) by omega];apply Int.le_antisymm _ ahJ;apply Int.not_lt.mp;intro h;have:B (n+2)*1<=B (n+2)*V (u.drop (j+1+(n+2))):=dK (by omega) (by omega);omega
 have n7:V (u.drop (j+(n+2)))=u[j+(n+2)]:=by rw[qh j1,h0];omega
 have Ix:V (u.drop (j+(n+1)))=u[j+(n+1)]+1000000000*u[j+(n+2)]:=by rw[qh F5,show j+(n+1)+1=j+(n+2) by omega,n7]
 have h2:V (u.drop (j+n))=u[j+n]+1000000000*(u[j+(n+1)]+1000000000*u[j+(n+2)]):=by rw[qh FD,show j+n+1=j+(n+1) by omega,Ix]
 have jj:=tY (hu.drop j) (k:=n+1) (by simp;omega);rw[List.drop_drop,Ix] at jj;have y6:=tY (hu.drop j) (k:=n) (by simp;omega);rw[List.drop_drop,h2] at y6;have qJ:=me (hu.drop j);have di:V (u.drop j)<1000000000*W:=by rw[qh Wg];omega
 have ahK:=pd n;have agE:=pd (n+1);have yQ:u[j+(n+2)]<=v1:=by have h1:=tY (hu.drop (j+1)) (k:=n+1) (by simp;omega);rw[List.drop_drop,show j+1+(n+1)=j+(n+2) by omega,n7] at h1;have o:B (n+1)*u[j+(n+2)]<B (n+1)*(v1+1):=(by omega);have:=Int.lt_of_mul_lt_mul_left o (by omega);omega
 have agF:=RE agE jj.1 jj.2 Ga.1 Ga.2 (by omega) (by omega) di
 obtain⟨g,dp,wS,ahL,akr⟩:=aca (aj:=aj) (aq:=aq) (N:=u.length) (n:=n+2) (j:=j) (v1:=v1) (v2:=jO[n]) (ia:=u[j+n]) (top:=u[j+(n+1)]+1000000000*u[j+(n+2)]) (a2:=V (u.drop j)) (W:=W) (P:=B n) (u:=u) (jO:=jO) (by omega) (by omega) F8 y5 tG Wf FD ⟨MD,agC.2⟩ agD MY ahK
  (by rw[Int.mul_comm v1,Int.add_comm];exact Nv.1) (by rw[Int.mul_comm v1,Int.add_comm (1000000000*v1)];exact Nv.2)
  (by rw[Int.mul_comm (u[j+(n+1)]+_),Int.add_comm];exact y6.1) (by rw[Int.mul_comm (u[j+(n+1)]+_),Int.add_comm (1000000000*_) u[j+n]];exact y6.2) qJ di (by omega) (by omega) agF.2.1
 have F7:0<W:=by have:B (n+1)*1<=B (n+1)*v1:=dK (by omega) (by omega);omega
 have na:0<=V (u.drop j) / W:=Int.ediv_nonneg qJ (by omega);have pU:V (u.drop j) / W<1000000000:=Int.ediv_lt_of_lt_mul F7 di;have hm:=Int.mul_ediv_add_emod (V (u.drop j)) W;have pt:=Int.emod_nonneg (V (u.drop j)) (b:=W) (by omega);have ri:=Int.emod_lt_of_pos (V (u.drop j)) F7;obtain⟨y,w,cf,Wh,I2,I3,p7,F0,I4,L4⟩:=afn (v:=jO.take (n+2)) (row:=u) (b3:=j) (oj:=u.length-j) (j5:=g) bg hu ⟨ahL,by omega⟩ (by omega) (by omega) y5;rw[rS] at I2 I3 L4;rw[hW] at I4;obtain⟨vF,low,oX,I5,vu⟩:=We (c:=g*W) Wh F8 I2 I3 L4 h0 (by rw[I4];grind);have ahM:R ((j:Int)-1)=(j:Int)-1:=sL (by omega);have e1:R ((j:Int)+((n+2:Nat):Int))=((j+(n+2):Nat):Int):=by rw[cV (by omega) (by omega)];omega
 have aB:R (((j+(n+2):Nat):Int)-1)=((j+(n+1):Nat):Int):=by rw[cV (by omega) (by omega)];omega
 have bP:R (((n+2:Nat):Int)-1)=((n+1:Nat):Int):=by rw[cV (by omega) (by omega)];omega
 have dd:R (R (u[j+(n+2)]*1000000000)+u[j+(n+1)])=u[j+(n+1)]+1000000000*u[j+(n+2)]:=by rw[cV (x:=u[j+(n+2)]*1000000000) (by omega) (by omega),cV (by omega) (by omega)];omega
 have dW:0<=u[j+(n+1)]+1000000000*u[j+(n+2)]:=by omega
 have el:(u[j+(n+1)]+1000000000*u[j+(n+2)]) / v1<=u[j+(n+1)]+1000000000*u[j+(n+2)]:=Int.ediv_le_self _ dW;have eX:0<=(u[j+(n+1)]+1000000000*u[j+(n+2)]) / v1:=Int.ediv_nonneg dW (by omega);have agG:jO[n+1]? = some v1:=tG
 have pre:xr u.length (n+2) ((n+2:Nat):Int) aj jO j u aq =
  (if (decide (y<0))=true then
    Bj (jO.take (n+2)) j (u.length-j) w >>= fun kj=>some (.inl ((j:Int)-1,kj,aq.set j (R (g-1))))
  else some (.inl ((j:Int)-1,w,aq.set j g))):=by
  unfold xr;rw[dw (by simp)];simp only[e1,aB,bP,dx,dG,ahM];rw[dw (by omega),j1];simp only[dC,dA];rw[dw (by omega),F5];simp only[dA];rw[dw (by omega),agG];simp only[dA];rw[dw (by omega),dd,oI dW,sc dW,cV (by omega) (by omega),dp];simp only[dA];rw[dw (by omega),dw (by omega),dw (by omega),List.drop_zero,cf];simp only[dA];by_cases a1:y<0
  ·have bG:(decide (y<0))=true:=(by simpa using a1);simp only[dw bG];congr 1;funext r;rw[dw (by omega),dw (by omega)]
  ·have bG : ¬(decide (y<0))=true:=(by simpa using a1);simp only[dy bG];rw[dw (by omega),dw (by omega)]
 rcases wS with wS|wS
 ·subst wS;have Jh:V (w.drop j)=V (u.drop j) % W:=(by rw[vF];grind);have a1:y=0:=Ts (W:=W) oX I5 vu (by rw[Jh];exact pt) (by rw[Jh];exact ri) (Int.le_of_lt ME);subst a1;refine⟨w,?_,SU I2 I3,Wh,I4,by omega,na,pU⟩;rw[pre];rfl
 ·have Jh:V (w.drop j)=V (u.drop j) % W-W:=(by rw[vF,<- wS];grind);have a1:y<0:=(by apply Int.not_le.mp;intro h;have:0<=B (n+2)*y:=Int.mul_nonneg (by omega) h;omega);obtain⟨nk,bV,nE,ajY,MF,MG,Vu,T2⟩:=afo (v:=jO.take (n+2)) (row:=w) (b3:=j) (oj:=u.length-j) (y:=y) bg (by rw[rS];exact I2) (by omega) (by omega) (by omega) (by rw[rS];exact I3) p7 F0;rw[rS] at MF MG T2;rw[hW] at Vu;have Wi:V bV=V u-V (u.drop j) / W*B j*W:=(by rw[Vu,I4,<- wS];grind);obtain⟨agH,ajZ,agI,agJ,agK⟩:=We (c:=V (u.drop j) / W*W) (by omega) F8 MF MG (fun i ad=>by rw[T2 i ad,L4 i ad]) h0 (by rw[Wi];grind);have Wj:V (bV.drop j)=V (u.drop j) % W:=(by rw[agH];grind);have pv:nk=0:=Ts (W:=W) agI agJ agK (by rw[Wj];exact pt) (by rw[Wj];exact ri) (Int.le_of_lt ME);subst pv;refine⟨bV,?_,SU MF MG,by omega,Wi,by omega,na,pU⟩;rw[pre,dw (by simpa using a1),nE];simp only[dC,dA];rw[cV (by omega) (by omega),show g-1=V (u.drop j) / W by omega]
theorem ac0 {aj jO u:ar}{n m:Nat}{v1 W:Int}(aS:2<=n)(F9:n<=jO.length)(bg:cX (jO.take n))(hW:V (jO.take n)=W)(tG:jO[n-1]? = some v1)(MD:1<=v1)(hu:cX u)(y5:u.length<=5000000)(hm:m+n=u.length)(ez:V (u.drop m)<W):
 ∃r,RB u.length n n aj jO ((m:Int)-1) u (List.replicate m 0)=some r/\cX r.1/\r.1.length=u.length/\V r.1<W/\cX r.2/\r.2.length=m/\V u=V r.2*W+V r.1:=by
 refine kB (fi:=fun w:Int×ar×ar=> ∃(k:Nat) (q:ar),w.1=(k:Int)-1/\k<=m/\cX w.2.1/\w.2.1.length=u.length/\w.2.2=List.replicate k 0++q/\q.length+k=m/\cX q/\V (w.2.1.drop k)<W/\V u=V w.2.1+B k*V q*W) (m:=fun w:Int×ar×ar=>(w.1+1).toNat) _ ?_ _ ⟨m,[],rfl,by omega,hu,rfl,by simp,by simp,cX.nil,ez,by simp[V]⟩;rintro⟨aiC,mo,aq⟩ ⟨k,q,h1,aY,pV,hlen,U,a5,r6,MH,hV⟩;simp only at h1 pV hlen U MH hV ⊢;subst h1 U
 cases k with
 | zero =>
  refine .inr ⟨(mo,q),by simp[xr],pV,hlen,by simpa using MH,r6,by simpa using a5,?_⟩;rw[hV];simp[B];omega
 | succ k =>
  obtain⟨aks,he,s1,s2,zh,aiE,aiF,aiG⟩:=acZ (aj:=aj) (jO:=jO) (u:=mo) (aq:=List.replicate (k+1) 0++q) (j:=k) aS F9 bg hW tG MD pV (by omega) (by omega) MH (by simp;omega);rw[hlen] at he;rw[show ((k+1:Nat):Int)-1=k by omega,he];refine .inl ⟨_,rfl,⟨k,V (mo.drop k) / W::q,rfl,by omega,s1,s2.trans hlen,LL _ _ _,by simp;omega,cX.cons ⟨aiF,aiG⟩ r6,aiE,?_⟩,by simp only;omega⟩;simp only;rw[hV,zh,mu,nw];grind
theorem Lv {a:ar}(h:a.length<=900000):x6 a=some a:=by unfold x6;rw[dw (by omega)]
theorem acb {a b q s:Int}(h:a=q*b+s)(h0:0<=s)(h1:s<b):a / b=q/\a % b=s:=by
 subst h;constructor
 ·rw[Int.add_comm,Int.add_mul_ediv_right _ _ (by omega),Int.ediv_eq_zero_of_lt h0 h1];omega
 ·rw[Int.add_comm,Int.add_mul_emod_self_right];exact Int.emod_eq_of_lt h0 h1
theorem HQ {a b:ar}(bI:fO a)(aU:fO b)(mC:b≠[])(aS:a.length<=900000)(hm:b.length<=900000):uY a b=some (L (V a / V b),L (V a % V b)):=by
 have kI:=tq aU mC;have IG:=me bI.1;unfold uY;simp only[fX];rw[Hc bI aU (by omega)];simp only[dC,dA];by_cases a3:V a<V b
 ·rw[dw (by simpa using wh.2 a3),Lv aS,Int.ediv_eq_zero_of_lt IG a3,Int.emod_eq_of_lt IG a3,qk,vw bI];rfl
 ·rw[dy (fun h=>a3 (wh.1 (by simpa using h)))]
  obtain⟨k,d,aY,bG,sS,sZ,wQ⟩:=H7 aU mC;by_cases h1:b.length=1
  ·have vv:k=0:=(by omega);subst vv;have Nr:V b=d:=(by simpa using wQ);rw[dw (by simp[h1]),dw (by omega),bG];simp only[dA];have ri:=Int.emod_nonneg (V a) (b:=d) (by omega);have F3:=Int.emod_lt_of_pos (V a) sS;rw[RD bI.1 ⟨sS,sZ⟩ (by omega)];simp only[dA];rw[EU ri (by omega),K3 ri (by omega),Nr];rfl
  ·have hw:R ((b.length:Int)-1)=(k:Int):=by rw[cV (by omega) (by omega)];omega
   have e1:R (d+1)=d+1:=cV (by omega) (by omega);have CF:1<=1000000000 / (d+1):=(by apply (Int.le_ediv_iff_mul_le (by omega)).2;omega);have Gb:1000000000 / (d+1)<1000000000:=(by apply Int.ediv_lt_of_lt_mul (by omega);omega);have ahN:1000000000 / (d+1)*(d+1)<=1000000000:=Int.ediv_mul_le _ (by omega);have aB:R ((1000000000:Int).tdiv (d+1))=1000000000 / (d+1):=(by rw[oI (by omega),cV (by omega) (by omega)]);rw[dy (by simp;omega),hw,dw (by omega),dx,bG];simp only[dA,e1,aB];generalize 1000000000 / (d+1)=f at *;rw[dw (by omega)];have kQ:cX [f]:=cX.cons (by omega) cX.nil;have ahO:V [f]=f:=(by simp[V]);have ahP:a≠[]:=(by intro h;subst h;simp[V] at a3;omega);obtain⟨nl,zn,ahQ,akt,ahR,I6,aku⟩:=Sn bI.1 kQ ahP (by simp) (by omega) (by simp);obtain⟨Gs,jO,ahS,akv,ahT,Nw,akw⟩:=Sn aU.1 kQ mC (by simp) (by omega) (by simp);rw[ahO] at I6 Nw;rw[ahQ];simp only[dA];simp only[List.length_singleton] at ahR ahT;have akx:=pd k;have ahU:V b*f<B b.length:=(by have o:=(tY aU.1 (k:=k) (by omega)).2;rw[wQ] at o;have U:V b*f<=(B k*(d+1)-1)*f:=Int.mul_le_mul_of_nonneg_right (by omega) (by omega);have ak:(B k*(d+1)-1)*f=B k*(f*(d+1))-f:=(by grind);have ax:B k*(f*(d+1))<=B k*1000000000:=dK ahN (by omega);rw[aY,nw];omega);have aky:V b<=V b*f:=(by have:V b*1<=V b*f:=dK CF (by omega);omega);have akz:V a<=V a*f:=(by have:V a*1<=V a*f:=dK CF (by omega);omega);have Nx:0<=V b*f:=(by omega);have Wk:0<=V a*f:=(by omega);have Wl:Gs=b.length:=(by have o:(jO.take Gs).length=Gs:=(by simp;omega);rw[Nw] at o;have U:=(h4 Nx (k:=b.length)).2 ahU;have ak:=Iu aU mC;have ax : ¬(L (V b*f)).length<=b.length-1:=fun h=>(by have:=(h4 Nx).1 h;omega);omega);have ahV:(L (V a*f)).length=nl:=(by rw[<- I6];simp;omega);have Vv:=oi (hI (V a*f));rw[ek Wk,ahV] at Vv;have aj0:a.length<=nl:=bI.len.2 (by omega);have akA:b.length<=a.length:=Nat.le_of_not_lt fun h=>(by have:=HJ bI aU h;omega);rw[dw (by omega),dw (by simp;omega),ahS];simp only[dA];have y5:(zn.take nl++[0]).length=nl+1:=(by simp;omega);have ahW:KM a Gs [f] jO (zn.take nl++[0])=some (zn.take nl++[0]):=(by unfold KM;rw[iter];unfold GJ;simp only[fX,y5];rw[dy (by simp;omega)];rfl);rw[ahW];simp only[dA,y5];have nF:R (((nl+1:Nat):Int)-((Gs:Nat):Int))=((nl+1-b.length:Nat):Int):=(by rw[cV (by omega) (by omega)];omega);rw[nF,dw (by omega),sL (by omega),dx];have U5:cX (zn.take nl++[0]):=(by rw[I6];exact(hI _).append (cX.cons (by omega) cX.nil));have Wm:V (zn.take nl++[0])=V a*f:=(by rw[xV,I6,ek Wk];simp[V]);have L5:jO.take b.length=L (V b*f):=(by rw[<- Wl];exact Nw);have ahX:V (jO.take b.length)=V b*f:=(by rw[L5,ek Nx]);obtain⟨ey,zo,oq,rR,aj1,aj2,aj3⟩:=H7 (iy (V b*f)) (fun h=>by have:=sK.1 h;omega);rw[<- L5] at oq rR;have rS:(jO.take b.length).length=b.length:=by simp;omega
   have yS:jO[b.length-1]? = some zo:=by
    rw[List.getElem?_take] at rR;rw[show b.length-1=ey by omega];split at rR
    ·exact rR
    ·simp at rR
   have agL:V ((zn.take nl++[0]).drop (nl+1-b.length))<V b*f:=(by have o:=(tY U5 (k:=nl+1-b.length) (by omega)).1;rw[Wm] at o;have U:=Iu aU mC;have ak:B nl=B (nl+1-b.length)*B (b.length-1):=(by rw[<- EP];congr 1;omega);rw[ak] at Vv;have ax:B (nl+1-b.length)*V ((zn.take nl++[0]).drop (nl+1-b.length))<B (nl+1-b.length)*B (b.length-1):=(by omega);have:=Int.lt_of_mul_lt_mul_left ax (by have:=pd (nl+1-b.length);omega);omega);obtain⟨r,ai,r1,bR,aR,a7,aL,bC⟩:=ac0 (aj:=[f]) (m:=nl+1-b.length) (by omega) (by omega) (by rw[L5];exact hI _) ahX yS (by omega) U5 (by omega) (by omega) agL;rw[y5] at ai bR;rw[Wl,ai];simp only[dA];rw[dw (by omega),List.drop_zero,List.take_of_length_le (by omega),BJ r1 (by omega)];simp only[dA];have F2:=me r1;rw[Wm] at bC;have bK:V r.1=(V a-V r.2*V b)*f:=(by grind);have ahY:0<=V a-V r.2*V b:=(by apply Int.not_lt.mp;intro h;have:(V a-V r.2*V b)*f<=(-1)*f:=Int.mul_le_mul_of_nonneg_right (by omega) (by omega);omega);have vF:V a-V r.2*V b<V b:=(by apply Int.lt_of_mul_lt_mul_right (a:=f) _ (by omega);omega);obtain⟨q1,aV⟩:=acb (a:=V a) (b:=V b) (q:=V r.2) (s:=V a-V r.2*V b) (by omega) ahY vF;rw[dw (by simp)];simp only[List.getElem?_cons_zero,dA];have FP:(L (V r.1)).length<=nl+1:=(h4 F2).2 (by have:=oi r1;rwa [bR] at this);rw[RD (hI _) ⟨by omega,Gb⟩ (by omega),ek F2];simp only[dA];rw[BJ a7 (by omega)];simp only[dA];rw[q1,aV,bK,Int.mul_ediv_cancel _ (by omega)]
theorem Sq {a b:ar}(bI:fO a)(aU:fO b)(aS:a.length<=900000)(hm:b.length<=900000):Bd a b=some (L (Int.gcd (V a) (V b))):=by
 have : ∃r,iter (fun w:ar×ar=>Av w.1 w.2) (a,b)=some r/\r=L (Int.gcd (V a) (V b)):=by
  refine kB (fi:=fun w:ar×ar=>fO w.1/\fO w.2/\w.1.length<=900000/\w.2.length<=900000/\Int.gcd (V w.1) (V w.2)=Int.gcd (V a) (V b)) (m:=fun w:ar×ar=>(V w.2).toNat) _ ?_ _ ⟨bI,aU,aS,hm,rfl⟩;rintro⟨x,y⟩ ⟨h1,o,U,ak,ax⟩;simp only at h1 o U ak ax ⊢;have j1:=me h1.1;have p7:=me o.1;by_cases a1:y=[]
  ·subst a1;refine .inr ⟨x,by simp[Av,fX],?_⟩;rw[<- ax,B4,HP j1];exact(vw h1).symm
  ·have Ns:=tq o a1
   have ahF:=List.length_pos_iff.mpr a1;have wR:=Int.emod_nonneg (V x) (b:=V y) (by omega);have ahG:=Int.emod_lt_of_pos (V x) Ns;refine .inl ⟨(y,L (V x % V y)),?_,⟨o,iy _,ak,(h4 wR).2 ?_,?_⟩,?_⟩
   ·unfold Av;simp only[fX];rw[dw (by simp;omega),HQ h1 o a1 U ak];rfl
   ·have:=oi o.1;have:=sC ak;omega
   ·simp only;rw[ek wR,<- ax];exact Lu j1
   ·simp only;rw[ek wR];omega
 obtain⟨r,ai,rfl⟩:=this;unfold Bd QT;rw[ai];rfl
def gy (n:Int):bA:=⟨decide (n<0),L n.natAbs⟩
def eM (neg:Bool)(a:Int):Int:=if neg then -a else a
def mk (p:Int×Int):aE:=⟨gy p.1,L p.2⟩
def nj (p:Int×Int):fy:=⟨gy p.1,L p.2⟩
def y7:aE:=⟨⟨false,[]⟩,[]⟩
def enc:Option (Int×Int)->aE
 | none=>y7
 | some p=>mk p
def agM (x:Option (Int×Int)):Option fy:=x.map nj
structure Fr (p:Int×Int):Prop where
 pos:0<p.2
 Ny:Int.gcd p.1 p.2=1
 num:(p.1.natAbs:Int)<B 24
 den:p.2<B 24
theorem BB {n:Int}:(gy n).b8=L n.natAbs:=rfl
theorem Ef {n:Int}:(gy n).cz=decide (n<0):=rfl
theorem SV {n:Int}(h:0<=n):decide ((0:Int)<((L n).length:Nat))=decide (0<n):=by
 apply decide_eq_decide.2;by_cases h1:0<n
 ·have:(L n)≠[]:=fun o=>(by have:=sK.1 o;omega);have:=List.length_pos_iff.mpr this;omega
 ·have:n=0:=(by omega);subst this;simp[qk]
theorem Ce {n:Int}(h:0<=n):(((L n).length:Nat):Int)=0↔n=0:=by
 constructor
 ·intro h1;have:L n=[]:=List.eq_nil_of_length_eq_zero (by omega);have:=sK.1 this;omega
 ·rintro rfl;simp[qk]
theorem BS {neg:Bool}{a:Int}(h:0<=a):((eM neg a).natAbs:Int)=a:=by unfold eM;cases neg<;>simp<;>omega
theorem T3 {neg:Bool}{a:Int}(h:0<=a):(⟨neg && decide (0<a),L a⟩:bA)=gy (eM neg a):=by
 unfold gy;rw[BS h];congr 1;unfold eM;cases neg
 ·simp;omega
 ·simp
theorem afp {a:Int}(h:0<=a)(qI:a<B 60):Be (L a)=some (L a):=by have aX:=(h4 h).2 qI;unfold Be;rw[tX (hI _) (by omega),ek h];simp only[dC,dA,fX];rw[dy (by simp;omega)]
theorem sw {neg:Bool}{a:Int}(h:0<=a)(qI:a<B 60):je neg (L a)=some (gy (eM neg a)):=by
 have aX:=(h4 h).2 qI;unfold je;rw[afp h qI];simp only[dC,dA,fX,List.nil_append];have a3:(L a).length*8<=140737488355328:=by omega
 rw[<- T3 h,<- SV h];cases neg<;>simp[a3]
theorem sv {neg:Bool}{a:Int}(h:0<=a):mM neg (L a)=some (gy (eM neg a)):=by unfold mM;rw[<- T3 h,fX,SV h];cases neg<;>simp
theorem UG {a b:Int}:eM (!(decide (a<0) == decide (b<0))) ((a.natAbs:Int)*(b.natAbs:Int))=a*b:=by
 unfold eM;by_cases bI:a<0
 ·have e1:(a.natAbs:Int) = -a:=by omega
  by_cases aU:b<0
  ·have aB:(b.natAbs:Int) = -b:=(by omega);rw[e1,aB];simp[bI,aU,Int.neg_mul,Int.mul_neg]
  ·have aB:(b.natAbs:Int)=b:=(by omega);rw[e1,aB];simp[bI,aU,Int.neg_mul,Int.mul_neg]
 ·have e1:(a.natAbs:Int)=a:=by omega
  by_cases aU:b<0
  ·have aB:(b.natAbs:Int) = -b:=(by omega);rw[e1,aB];simp[bI,aU,Int.neg_mul,Int.mul_neg]
  ·have aB:(b.natAbs:Int)=b:=(by omega);rw[e1,aB];simp[bI,aU,Int.neg_mul,Int.mul_neg]
theorem BK {a b:Int}:eM (decide (a<0)) ((a.natAbs:Int)*b)=a*b:=by
 unfold eM;by_cases bI:a<0
 ·have e1:(a.natAbs:Int) = -a:=(by omega);rw[e1];simp[bI,Int.neg_mul,Int.mul_neg]
 ·have e1:(a.natAbs:Int)=a:=(by omega);rw[e1];simp[bI,Int.neg_mul,Int.mul_neg]
theorem Tt {a c:Int}:lO (-c) (-a)=lO a c:=by
 unfold lO;by_cases h:a<c
 ·have : -c < -a:=(by omega);simp[h,this]
 ·by_cases o:c<a
  ·have U : ¬ -c < -a:=(by omega);have ak : -a < -c:=(by omega);simp[h,o,U,ak]
  ·have U : ¬ -c < -a:=(by omega);have ak : ¬ -a < -c:=(by omega);simp[h,o,U,ak]
theorem ac1 {a c:Int}(bI:(L a.natAbs).length<=5000000)(a3:(L c.natAbs).length<=5000000):DV (gy a) (gy c)=some (lO a c):=by
 unfold DV;simp only[Ef,BB,decide_eq_true_eq];by_cases h1:a<0
 ·by_cases o:c<0
  ·rw[dw h1,dw o,u6 (iy _) (iy _) a3,ek (by omega),ek (by omega),show (c.natAbs:Int) = -c by omega,show (a.natAbs:Int) = -a by omega,Tt];rfl
  ·rw[dw h1,dy o];unfold lO;rw[dw (by omega)]
 ·by_cases o:c<0
  ·rw[dy h1,dw o];unfold lO;rw[dy (by omega),dw (by omega)]
  ·rw[dy h1,dy o,u6 (iy _) (iy _) bI,ek (by omega),ek (by omega)];show some (lO _ _)=_;congr 2<;>omega
theorem ZK {a c:Int}(bI:(L a.natAbs).length<=5000000)(a3:(L c.natAbs).length<=5000000):uL (gy a) (gy c)=some (lO a c):=by
 have bK:uL (gy a) (gy c)=if (decide (a<0) == decide (c<0))=true then (if decide (a<0)=true then (ru (L c.natAbs) (L a.natAbs)).bind (fun r=>some r) else (ru (L a.natAbs) (L c.natAbs)).bind (fun r=>some r)) else if decide (a<0)=true then some (-1) else some 1:=rfl;rw[bK,abh];by_cases h1:a<0
 ·by_cases o:c<0
  ·rw[dw (by simp[h1,o]),dw (by simpa using h1),u6 (iy _) (iy _) a3,ek (by omega),ek (by omega),show (c.natAbs:Int) = -c by omega,show (a.natAbs:Int) = -a by omega,Tt];rfl
  ·rw[dy (by simp[h1,o]),dw (by simpa using h1)];unfold lO;rw[dw (by omega)]
 ·by_cases o:c<0
  ·rw[dy (by simp[h1,o]),dy (by simpa using h1)];unfold lO;rw[dy (by omega),dw (by omega)]
  ·rw[dw (by simp[h1,o]),dy (by simpa using h1),u6 (iy _) (iy _) bI,ek (by omega),ek (by omega),show (c.natAbs:Int)=c by omega,show (a.natAbs:Int)=a by omega];rfl
def fits (x:Int):Prop:=x<B 24
noncomputable instance (x:Int):Decidable (fits x):=Classical.propDecidable _
noncomputable def low (n d:Int):Option (Int×Int) :=
 if fits ((n / (Int.gcd n d:Int)).natAbs:Int)/\fits (d / (Int.gcd n d:Int)) then some (n / (Int.gcd n d:Int),d / (Int.gcd n d:Int)) else none
theorem Eo {n d:Int}(h:0<d):(0:Int)<Int.gcd n d:=by
 have:Int.gcd n d≠0:=by rw[Ne,Int.gcd_eq_zero_iff];omega
 omega
theorem T4 {n d:Int}(h:0<d): ∃m e,n / (Int.gcd n d:Int)=m/\d / (Int.gcd n d:Int)=e/\n=Int.gcd n d*m/\d=Int.gcd n d*e/\0<e/\(n.natAbs:Int) / (Int.gcd n d:Int)=m.natAbs:=by
 have dp:=Eo (n:=n) h;obtain⟨m,hm⟩:=Int.gcd_dvd_left (a:=n) (b:=d);obtain⟨e,he⟩:=Int.gcd_dvd_right (a:=n) (b:=d);refine⟨m,e,?_,?_,hm,he,?_,?_⟩
 ·conv=>lhs;lhs;rw[hm]
  exact Int.mul_ediv_cancel_left _ (by omega)
 ·conv=>lhs;lhs;rw[he]
  exact Int.mul_ediv_cancel_left _ (by omega)
 ·apply Int.not_le.mp;intro h1;have:(Int.gcd n d:Int)*e<=Int.gcd n d*0:=dK h1 (by omega);omega
 ·have e1:(n.natAbs:Int)=Int.gcd n d*m.natAbs:=by
   conv=>lhs;rw[hm]
   rw[Int.natAbs_mul];simp
  rw[e1];exact Int.mul_ediv_cancel_left _ (by omega)
theorem BT {a:Int}(h:0<=a):s9 (L a)=some (decide (a=1)):=by
 unfold s9;simp only[fX];by_cases h1:(L a).length=1
 ·have o:=(h4 (k:=1) h).1 (by omega);have U:0<a:=(by apply Int.not_le.mp;intro ak;rw[U3 ak] at h1;simp at h1);have ax:a<1000000000:=(by simpa [B] using o);rw[HI ⟨U,ax⟩];by_cases aW:a=1<;>simp[aW]
 ·rw[dy (by simp;omega)];have:a≠1:=(by rintro rfl;rw[HI (by omega)] at h1;simp at h1);simp[this]
theorem HR {n d:Int}(h:0<=d):Int.gcd (n.natAbs:Int) d=Int.gcd n d:=by simp[Int.gcd]
theorem L6:B 24<=B 60:=sC (by omega)
theorem Lf {neg:Bool}{m e:Int}(hm:0<=m)(he:0<=e):(if (decide ((24:Int)<((L m).length:Nat)))=true then some y7 else if (decide ((24:Int)<((L e).length:Nat)))=true then some y7 else je neg (L m) >>= fun r=>if (([]:ar)++L e).length*8<=140737488355328 then some (⟨r,([]:ar)++L e⟩:aE) else none) =
 some (enc (if fits m/\fits e then some (eM neg m,e) else none)):=by
 by_cases h1:fits m
 ·have o:=(h4 hm).2 h1
  rw[dy (by simp;omega)];by_cases U:fits e
  ·have ak:=(h4 he).2 U;have:=L6;unfold fits at h1;rw[dy (by simp;omega),sw hm (by omega),dw ⟨h1,U⟩];simp only[dC,dA];rw[dw (by simp;omega)];rfl
  ·have ak : ¬(L e).length<=24:=fun h=>U ((h4 he).1 h);rw[dw (by simp;omega),dy (fun h=>U h.2)];rfl
 ·have ak : ¬(L m).length<=24:=fun h=>h1 ((h4 hm).1 h);rw[dw (by simp;omega),dy (fun h=>h1 h.1)];rfl
theorem UH {neg:Bool}{p m g:Int}(ah:0<=p)(dp:0<g)(hm:eM neg p=g*m):eM neg (m.natAbs:Int)=m:=by
 unfold eM at hm ⊢;cases neg
 ·simp at hm ⊢;have:0<=m:=(by apply Int.not_lt.mp;intro h1;have:g*m<=g*(-1):=dK (by omega) (by omega);omega);omega
 ·simp at hm ⊢;have:m<=0:=(by apply Int.not_lt.mp;intro h1;have:g*1<=g*m:=dK (by omega) (by omega);omega);omega
theorem Lg {neg:Bool}{p q:Int}(ah:0<=p)(a5:0<q)(Nz:(L p).length<=900000)(r6:(L q).length<=900000):pH neg (L p) (L q)=some (enc (low (eM neg p) q)):=by
 obtain⟨m,e,h1,o,U,ak,ax,aW⟩:=T4 (n:=eM neg p) a5;have rX:=UH ah (Eo (n:=eM neg p) a5) U;rw[BS ah] at aW;have dp:Int.gcd p q=Int.gcd (eM neg p) q:=by rw[<- HR (n:=eM neg p) (by omega),BS ah]
 have akB:=Eo (n:=eM neg p) a5;unfold pH;rw[tX (hI _) (by omega),ek ah];simp only[dC,dA];rw[tX (hI _) (by omega),ek (by omega)];simp only[dA,fX];have na : ¬((((L q).length:Nat):Int) == 0)=true:=by simp only[beq_iff_eq];intro h;have:=(Ce (n:=q) (by omega)).1 h;omega
 rw[dy na,BT (by omega)];simp only[dA];have yI:low (eM neg p) q=if fits (m.natAbs:Int)/\fits e then some (eM neg (m.natAbs:Int),e) else none:=by unfold low;rw[h1,o,rX]
 have U6:Int.gcd (eM neg p) q=1->(m.natAbs:Int)=p/\e=q:=by intro hu;rw[hu] at o aW;simp at o aW;omega
 by_cases pU:q=1
 ·have hu:Int.gcd (eM neg p) q=1:=(by rw[pU];simp);obtain⟨jV,ma⟩:=U6 hu;rw[dw (by simpa using pU),yI,jV,ma];exact Lf ah (by omega)
 ·rw[dy (by simpa using pU),L3 (iy _) (iy _) Nz r6,ek ah,ek (by omega)]
  simp only[dA];rw[BT (by omega)];simp only[dA];by_cases hu:Int.gcd p q=1
  ·obtain⟨jV,ma⟩:=U6 (by omega);rw[dw (by simp;omega),yI,jV,ma];exact Lf ah (by omega)
  ·rw[dy (by simp;omega)];have y8:(L (Int.gcd p q)).length<=900000:=(by have bb:(Int.gcd p q:Int)<=q:=(by rw[dp];have:(Int.gcd (eM neg p) q:Int)*1<=Int.gcd (eM neg p) q*e:=dK (by omega) (by omega);omega);apply (h4 (by omega)).2;have:=(h4 (n:=q) (by omega)).1 r6;omega);have Gc:L (Int.gcd p q)≠[]:=fun h=>(by have:=sK.1 h;omega);rw[div_eq (iy _) (iy _) Gc Nz y8,ek ah,ek (by omega)];simp only[dA];rw[div_eq (iy _) (iy _) Gc r6 y8,ek (by omega),ek (by omega)];simp only[dA];rw[dp,aW,o,yI];exact Lf (by omega) (by omega)
theorem af9 {neg:Bool}{a:Int}(h:0<=a)(o:neg=true->0<a):decide (eM neg a<0)=neg:=by
 unfold eM;cases neg
 ·simp;omega
 ·have:=o rfl;simp;omega
theorem T5 {neg:Bool}{l:ar}(aX:fO l)(o:neg=true->l≠[]):(⟨neg,l⟩:bA)=gy (eM neg (V l)):=by have h:=me aX.1;unfold gy;rw[BS h,vw aX,af9 h (fun aS=>tq aX (o aS))]
theorem aaX {x:bA}(hm:(x.b8.length:Int)<9223372036854775807): ∃ok,xx x=some ok/\DI x=some ok/\(ok=true↔ ∃n,x=gy n/\(L n.natAbs).length<=60):=by
 obtain⟨I,h1,o,U⟩:=So hm;unfold xx DI;rw[h1,o];simp only[dC,dA,fX];obtain⟨neg,Gd⟩:=x;simp only at U ⊢
 have kO:decide ((0:Int)<(Gd.length:Nat)) = !((((Gd.length:Nat):Int) == 0)):=by
  by_cases h:Gd=[]
  ·subst h;rfl
  ·have:=List.length_pos_iff.mpr h
   rw[decide_eq_true (by omega)]
   symm
   simp;omega
 by_cases an:I=true
 ·obtain⟨ak,ax⟩:=U.1 an
  subst an;cases neg
  ·refine⟨true,rfl,rfl,?_⟩;simp only[true_iff];refine⟨_,T5 ak (fun h=>by simp at h),?_⟩;rw[BS (me ak.1),vw ak];exact ax
  ·refine⟨decide ((0:Int)<(Gd.length:Nat)),rfl,by rw[kO];rfl,?_⟩
   rw[decide_eq_true_iff];constructor
   ·intro ah;refine⟨_,T5 ak (fun _ h=>by subst h;simp at ah),?_⟩;rw[BS (me ak.1),vw ak];exact ax
   ·rintro⟨n,aS,-⟩;have e1:=congrArg bA.cz aS;have aB:=congrArg bA.b8 aS;simp only[Ef,BB] at e1 aB;have bP:n<0:=(by simpa using e1.symm);have:Gd≠[]:=(by rw[aB];intro h;have:=sK.1 h;omega);have:=List.length_pos_iff.mpr this;omega
 ·refine⟨false,by simp[an],by simp[an],?_⟩;simp only[Bool.false_eq_true,false_iff];rintro⟨n,aS,qI⟩;have aB:=congrArg bA.b8 aS;simp only[BB] at aB;exact an (U.2 (aB▸⟨iy _,qI⟩))
theorem K5 {r:aE}(hm:r.dl.b8.length<=2000000)(bG:r.eO.length<=2000000): ∃ok,qV r=some ok/\Bn r=some ok/\(ok=true↔ ∃p,Fr p/\r=mk p):=by
 obtain⟨bX,gI,gS,bD⟩:=aaX (x:=r.dl) (by omega);obtain⟨aP,i2,j9,s3⟩:=So (a:=r.eO) (by omega);unfold qV Bn;rw[gI,gS];simp only[dC,dA,fX];by_cases h1:bX=true
 ·rw[dw h1,dw h1,i2,j9]
  simp only[dA];by_cases o:aP=true
  ·rw[dw o,dw o]
   obtain⟨n,aS,aj4⟩:=bD.1 h1;obtain⟨sZ,aj5⟩:=s3.1 o;have wQ:=me sZ.1;have Wn:r.eO=L (V r.eO):=(vw sZ).symm;have F9:r.dl.b8=L n.natAbs:=(by rw[aS];rfl);by_cases U:r.eO=[]
   ·rw[dw (by simp[U]),dw (by simp[U])];refine⟨false,rfl,rfl,?_⟩;simp only[Bool.false_eq_true,false_iff];rintro⟨p,ah,ai⟩;have e:r.eO=L p.2:=(by rw[ai];rfl);rw[U] at e;have:=sK.1 e.symm;have:=ah.pos;omega
   ·have I7:=tq sZ U
    have Nz:=List.length_pos_iff.mpr U;have sS : ¬((((r.eO.length:Nat):Int) == 0)=true):=(by simp[U]);rw[dy sS,dy sS];by_cases ak:24<r.eO.length
    ·rw[dw (by simp;omega)]
     have hl : ¬∃p,Fr p/\r=mk p:=(by rintro⟨p,ah,ai⟩;have e:r.eO=L p.2:=(by rw[ai];rfl);have:=(h4 (k:=24) (by have:=ah.pos;omega)).2 ah.den;rw[<- e] at this;omega);refine⟨false,rfl,?_,by simp[hl]⟩;by_cases ax:24<r.dl.b8.length
     ·rw[dw (by simp;omega)]
     ·rw[dy (by simp;omega),dw (by simp;omega)]
    ·rw[dy (by simp;omega)]
     by_cases ax:24<r.dl.b8.length
     ·rw[dw (by simp;omega),dw (by simp;omega)];refine⟨false,rfl,rfl,?_⟩;simp only[Bool.false_eq_true,false_iff];rintro⟨p,ah,ai⟩;have e:r.dl.b8=L p.1.natAbs:=(by rw[ai];rfl);have:=(h4 (k:=24) (by omega)).2 ah.num;rw[<- e] at this;omega
     ·rw[dy (by simp;omega),dy (by simp;omega),dy (by simp;omega)]
      rw[F9] at ax ⊢;rw[L3 (iy _) sZ (by omega) (by omega),Sq (iy _) sZ (by omega) (by omega),ek (by omega),HR wQ];simp only[dA];have dp:=Eo (n:=n) I7;have ahZ:fO [1]:=fO.one (by omega);have y8:(L (Int.gcd n (V r.eO))).length<=5000000:=(by have bb:(Int.gcd n (V r.eO):Int)<=V r.eO:=Int.le_of_dvd I7 (Int.gcd_dvd_right ..);have:=(h4 (k:=24) (by omega)).2 (show (Int.gcd n (V r.eO):Int)<B 24 by have:=(sZ.len (k:=24)).1 (by omega);omega);omega);rw[BT (by omega),Hc (iy _) ahZ y8,ek (by omega)];have tG:V [1]=1:=(by decide);rw[tG];simp only[dA];refine⟨decide ((Int.gcd n (V r.eO):Int)=1),rfl,?_,?_⟩
      ·congr 1;rw[Bool.eq_iff_iff];simp[Le]
      ·rw[decide_eq_true_iff]
       constructor
       ·intro hu;refine⟨(n,V r.eO),⟨I7,by simp only;omega,(h4 (by omega)).1 (by simp only;omega),(sZ.len).1 (by omega)⟩,?_⟩;obtain⟨num,den⟩:=r;simp only at aS Wn ⊢;unfold mk;simp only;rw[<- Wn,<- aS]
       ·rintro⟨p,ah,ai⟩
        have e:r.eO=L p.2:=(by rw[ai];rfl);have aB:r.dl=gy p.1:=(by rw[ai];rfl);have bP:V r.eO=p.2:=by rw[e,ek (by have:=ah.pos;omega)]
        have dd:n=p.1:=by
         rw[aS] at aB;have f1:=congrArg bA.cz aB;have f2:=congrArg bA.b8 aB;simp only[Ef,BB] at f1 f2;have f3:=congrArg V f2;rw[ek (by omega),ek (by omega)] at f3
         have f4:n<0↔p.1<0:=by
          constructor
          ·intro h;simpa [h] using f1.symm
          ·intro h;simpa [h] using f1
         omega
        rw[bP,dd,ah.Ny];rfl
  ·refine⟨false,by simp[o],by simp[o],?_⟩;simp only[Bool.false_eq_true,false_iff];rintro⟨p,ah,ai⟩;have e:r.eO=L p.2:=(by rw[ai];rfl);have:=(h4 (k:=24) (by have:=ah.pos;omega)).2 ah.den;exact o (s3.2 (e▸⟨iy _,by omega⟩))
 ·refine⟨false,by simp[h1],by simp[h1],?_⟩;simp only[Bool.false_eq_true,false_iff];rintro⟨p,ah,ai⟩;have aB:r.dl=gy p.1:=(by rw[ai];rfl);have:=(h4 (k:=24) (n:=p.1.natAbs) (by omega)).2 ah.num;exact h1 (bD.2 ⟨p.1,aB,by omega⟩)
def Wo (x:Option (Int×Int)):Prop:= ∀p,x=some p->Fr p
theorem Fr.pR {p:Int×Int}(h:Fr p):(L p.1.natAbs).length<=24:=(h4 (by omega)).2 h.num
theorem Fr.po {p:Int×Int}(h:Fr p):(L p.2).length<=24:=(h4 (by have:=h.pos;omega)).2 h.den
theorem afq:qV y7=some false:=by
 obtain⟨I,U,-,ak⟩:=K5 (r:=y7) (by simp[y7]) (by simp[y7]);rw[U];congr 1
 cases I with
 | false=>rfl
 | true =>
  obtain⟨p,ah,ai⟩:=ak.1 rfl;have e:[]=L p.2:=congrArg aE.eO ai;have:=sK.1 e.symm;have:=ah.pos;omega
theorem afr {x:Option (Int×Int)}(h:Wo x):qV (enc x)=some x.isSome:=by
 cases x with
 | none=>exact afq
 | some p =>
  have ah:=h p rfl;have h1:=ah.pR;have o:=ah.po;obtain⟨I,U,-,ak⟩:=K5 (r:=mk p) (show (L p.1.natAbs).length<=_ by omega) (show (L p.2).length<=_ by omega);have:I=true:=ak.2 ⟨p,ah,rfl⟩;subst this;exact U
theorem aga (m n:Nat):B m*B n=B (m+n):=(EP m n).symm
theorem wi {x y:Int}{m n:Nat}(ab:0<=x)(a1:0<=y)(h1:x<B m)(o:y<B n):(L (x*y)).length<=m+n:=by
 apply (h4 (Int.mul_nonneg ab a1)).2;rw[<- aga];have U:x*y<=(B m-1)*(B n-1):=Int.mul_le_mul (by omega) (by omega) a1 (by omega);have ak:(B m-1)*(B n-1)=B m*B n-B m-B n+1:=by grind
 have ax:=pd m;have aW:=pd n;omega
theorem acd (r s:aE){a b:Int}(bI:0<=a)(aU:0<b)(h1:i6 r.dl.b8 s.dl.b8=some (L a))(o:i6 r.eO s.eO=some (L b))(U:(L a).length<=900000)(ak:(L b).length<=900000):uT r s=some (enc (low (eM (!(r.dl.cz == s.dl.cz)) a) b)):=by unfold uT;rw[h1];simp only[dC,dA];rw[o];simp only[dA];rw[Lg bI aU U ak];simp only[dA]
theorem ac2 {p q:Int×Int}(ah:Fr p)(a5:Fr q):uT (mk p) (mk q)=some (enc (low (p.1*q.1) (p.2*q.2))):=by
 have h1:=ah.pR;have o:=ah.po;have U:=a5.pR;have ak:=a5.po;have ax:=ah.pos;have aW:=a5.pos;have bb:=wi (x:=p.1.natAbs) (y:=q.1.natAbs) (by omega) (by omega) ah.num a5.num;have bd:=wi (x:=p.2) (y:=q.2) (by omega) (by omega) ah.den a5.den;have e1:i6 (L p.1.natAbs) (L q.1.natAbs)=some (L ((p.1.natAbs:Int)*q.1.natAbs)):=by rw[mul_eq (hI _) (hI _) (by omega) (by omega),ek (by omega),ek (by omega)]
 have aB:i6 (L p.2) (L q.2)=some (L (p.2*q.2)):=by rw[mul_eq (hI _) (hI _) (by omega) (by omega),ek (by omega),ek (by omega)]
 have:=acd (mk p) (mk q) (a:=(p.1.natAbs:Int)*q.1.natAbs) (b:=p.2*q.2) (Int.mul_nonneg (by omega) (by omega)) (Int.mul_pos ax aW) e1 aB (by omega) (by omega);rw[this];have bP:eM (!((mk p).dl.cz == (mk q).dl.cz)) ((p.1.natAbs:Int)*q.1.natAbs)=p.1*q.1:=UG;rw[bP]
theorem ac3 {n d:Int}(bG:0<d)(FH:(L n.natAbs).length<=900000)(NA:(L d).length<=900000):tb (gy n) (L d)=some (some (nj (n / (Int.gcd n d:Int),d / (Int.gcd n d:Int)))):=by
 obtain⟨m,e,h1,o,U,ak,ax,aW⟩:=T4 (n:=n) bG;have dp:=Eo (n:=n) bG;rw[h1,o];unfold tb;simp only[BB,Ef,fX];by_cases aS:n=0
 ·subst aS;have ah0:(Int.gcd 0 d:Int)=d:=(by rw[Int.gcd_comm,HP (by omega)]);rw[ah0] at U ak;have hm:m=0:=(by rcases Int.mul_eq_zero.1 U.symm with h|h<;>omega);have he:e=1:=(by have:d*e=d*1:=(by omega);exact Int.eq_of_mul_eq_mul_left (by omega) this);subst hm he;rw[dw (by simp[qk])];unfold nj gy;simp only[Int.natAbs_zero];rw[HI (x:=1) (by omega),show ((0:Nat):Int)=0 from rfl,qk];rfl
 ·have agN : ¬((((L n.natAbs).length:Nat):Int) == 0)=true:=by
   simp only[beq_iff_eq];intro h;have:=(Ce (n:=n.natAbs) (by omega)).1 h;omega
  rw[dy agN,Sq (iy _) (iy _) FH NA,ek (by omega),ek (by omega),HR (by omega)];simp only[dC,dA];have y8:(L (Int.gcd n d)).length<=900000:=(by have bb:(Int.gcd n d:Int)<=d:=Int.le_of_dvd bG (Int.gcd_dvd_right ..);apply (h4 (by omega)).2;have:=(h4 (n:=d) (by omega)).1 NA;omega);rw[Hc (iy _) (fO.one (by omega)) (by omega),ek (by omega),show V [1]=1 by decide];simp only[dA];by_cases hu:(Int.gcd n d:Int)=1
  ·rw[dw (by simpa using Le.2 hu)];rw[hu] at U ak;rw[Int.one_mul] at U ak;subst U ak;rfl
  ·rw[dy (fun h=>hu (Le.1 (by simpa using h)))];have Gc:L (Int.gcd n d)≠[]:=fun h=>(by have:=sK.1 h;omega);rw[HQ (iy _) (iy _) Gc FH y8,ek (by omega),ek (by omega)];simp only[dA];rw[HQ (iy _) (iy _) Gc NA y8,ek (by omega),ek (by omega)];simp only[dA];rw[aW,o,sv (by omega)];simp only[dA];have bK:eM (decide (n<0)) (m.natAbs:Int)=m:=(by refine UH (p:=n.natAbs) (g:=Int.gcd n d) (by omega) dp ?_;rw[<- U];unfold eM;by_cases h:n<0<;>simp[h]<;>omega);rw[bK];rfl
theorem afs {m e:Int}(he:0<=e):wb (some (nj (m,e)))=some (agM (if fits (m.natAbs:Int)/\fits e then some (m,e) else none)):=by
 have bK:wb (some (nj (m,e)))=if (decide ((24:Int)<len_ eI (L m.natAbs)))=true then some none else if (decide ((24:Int)<len_ eI (L e)))=true then some none else some (some (nj (m,e))):=rfl;rw[bK,fX,fX];by_cases h1:fits (m.natAbs:Int)
 ·have o:=(h4 (by omega)).2 h1
  rw[dy (by simp;omega)];by_cases U:fits e
  ·have ak:=(h4 he).2 U;rw[dy (by simp;omega),dw ⟨h1,U⟩];rfl
  ·have ak : ¬(L e).length<=24:=fun h=>U ((h4 he).1 h);rw[dw (by simp;omega),dy (fun h=>U h.2)];rfl
 ·have ak : ¬(L m.natAbs).length<=24:=fun h=>h1 ((h4 (by omega)).1 h);rw[dw (by simp;omega),dy (fun h=>h1 h.1)];rfl
theorem SW {a b:Int}(bI:(L a.natAbs).length<=900000)(aU:(L b.natAbs).length<=900000):qc (gy a) (gy b)=some (gy (a*b)):=by unfold qc;simp only[BB,Ef];rw[Hw (hI _) (hI _) (by omega) (by omega),ek (by omega),ek (by omega)];simp only[dC,dA];rw[sv (Int.mul_nonneg (by omega) (by omega)),UG];rfl
theorem T6:(1000000000000000000000000000:Int)<=B 24:=by
 have h:B 3<=B 24:=sC (by omega);have U:B 3=1000000000000000000000000000:=by decide
 omega
theorem aeK:(1000000000000000000000000000:Int)<=B 60:=by have:=L6;have:=T6;omega
theorem abF {n:Int}(h:nU n):Dx n=some (gy n):=by
 obtain⟨h1,o⟩:=k6.1 h;have aU:=aeK;unfold Dx;by_cases hm:n = -9223372036854775808
 ·rw[dw (by simpa using hm)];have e:([854775808,223372036,9]:ar)=L 9223372036854775808:=wA ⟨by intro x ab;simp at ab;omega,by simp⟩ (by decide);rw[e,sw (by omega) (by omega)];subst hm;rfl
 ·rw[dy (by simpa using hm)]
  by_cases aS:n<0
  ·rw[dw (by simpa using aS),cV (by omega) (by omega),BA (by omega) (by omega)];simp only[dC,dA];rw[sw (by omega) (by omega)];simp only[dA];congr 2;unfold eM;simp
  ·rw[dy (by simpa using aS),BA (by omega) (by omega)];simp only[dC,dA];rw[sw (by omega) (by omega)];simp only[dA];congr 2
theorem Sr {n:Int}(h:nU n):pG n=some (gy n):=by
 obtain⟨h1,o⟩:=k6.1 h;unfold pG;by_cases aS:n<0
 ·rw[dw (by simpa using aS),cV (x:=n+1) (by omega) (by omega),cV (x:=0-(n+1)) (by omega) (by omega),EU (x:=0-(n+1)) (by omega) (by omega),EU (by omega) (by omega),K3 (by omega) (by omega)];simp only[dC,dA];rw[sv (by omega)];simp only[dA];congr 2;unfold eM;simp;omega
 ·rw[dy (by simpa using aS),EU (by omega) (by omega),K3 (by omega) (by omega)];simp only[dC,dA];rw[sv (by omega)];simp only[dA];congr 2
theorem Mm:L 1=[1]:=HI (by omega)
theorem aaY {n:Int}(h:nU n):ob n=some (mk (n,1)):=by unfold ob;rw[abF h];simp only[dC,dA,mk,Mm]
theorem ad8 {n:Int}(h:nU n):uV n=some (some (nj (n,1))):=by unfold uV;rw[Sr h];simp only[dC,dA,nj,Mm]
theorem aft {n:Int}(h:nU n):Fr (n,1):=by obtain⟨h1,o⟩:=k6.1 h;have aU:=T6;exact⟨by simp,by simp,by simp only;omega,by simp only;omega⟩
theorem ac4 {p q:Int×Int}(ah:Fr p)(a5:Fr q):xF (mk p) (mk q)=some (lO (p.1*q.2) (q.1*p.2)):=by
 have h1:=ah.pR;have o:=ah.po;have U:=a5.pR;have ak:=a5.po;have ax:=ah.pos;have aW:=a5.pos;have bb:=wi (x:=p.1.natAbs) (y:=q.2) (by omega) (by omega) ah.num a5.den;have bd:=wi (x:=q.1.natAbs) (y:=p.2) (by omega) (by omega) a5.num ah.den;have zp:0<=(p.1.natAbs:Int)*q.2:=Int.mul_nonneg (by omega) (by omega);have WW:0<=(q.1.natAbs:Int)*p.2:=Int.mul_nonneg (by omega) (by omega);have pA:((p.1*q.2).natAbs:Int)=(p.1.natAbs:Int)*q.2:=by rw[Int.natAbs_mul,Int.natCast_mul];congr 1;omega
 have nK:((q.1*p.2).natAbs:Int)=(q.1.natAbs:Int)*p.2:=by rw[Int.natAbs_mul,Int.natCast_mul];congr 1;omega
 have e1:i6 (mk p).dl.b8 (mk q).eO=some (L ((p.1.natAbs:Int)*q.2)):=by show i6 (L p.1.natAbs) (L q.2)=_;rw[mul_eq (hI _) (hI _) (by omega) (by omega),ek (by omega),ek (by omega)]
 have aB:i6 (mk q).dl.b8 (mk p).eO=some (L ((q.1.natAbs:Int)*p.2)):=by show i6 (L q.1.natAbs) (L p.2)=_;rw[mul_eq (hI _) (hI _) (by omega) (by omega),ek (by omega),ek (by omega)]
 have bP:je (mk p).dl.cz (L ((p.1.natAbs:Int)*q.2))=some (gy (p.1*q.2)):=by show je (decide (p.1<0)) _=_;rw[sw zp ((h4 zp).1 (by omega)),BK]
 have dd:je (mk q).dl.cz (L ((q.1.natAbs:Int)*p.2))=some (gy (q.1*p.2)):=by show je (decide (q.1<0)) _=_;rw[sw WW ((h4 WW).1 (by omega)),BK]
 unfold xF;rw[e1,dC,dA,bP,dC,dA,aB,dC,dA,dd,dA,ac1 (by rw[pA];omega) (by rw[nK];omega)];rfl
theorem SX {p:Int×Int}{d:Int}(bG:0<=d)(h1:(L p.1.natAbs).length<=900000)(o:(L d).length<=900000):vT (some (nj p)) (L d)=some (gy (p.1*d)):=by
 have e1:st (nj p).rQ.b8 (L d)=some (L ((p.1.natAbs:Int)*d)):=by show st (L p.1.natAbs) (L d)=_;rw[Hw (hI _) (hI _) (by omega) (by omega),ek (by omega),ek (by omega)]
 have zp:0<=(p.1.natAbs:Int)*d:=Int.mul_nonneg (by omega) (by omega);have bP:mM (nj p).rQ.cz (L ((p.1.natAbs:Int)*d))=some (gy (p.1*d)):=by show mM (decide (p.1<0)) _=_;rw[sv zp,BK]
 unfold vT;rw[dC,dA,e1,dC,dA,bP];rfl
theorem L7 {a d:Int}(bG:0<=d):((a*d).natAbs:Int)=(a.natAbs:Int)*d:=by rw[Int.natAbs_mul,Int.natCast_mul];congr 1;omega
theorem rA (n b3 ad:Int):oc n b3 ad=some (decide (b3<=n/\n<=ad)):=by unfold oc;by_cases h:b3<=n<;>simp[h]
theorem Hn {α β:Type}{t:Nat->α->Option β}: ∀(l:List α) (k:Nat),(∀n x,l[n]? = some x->t (k+n) x=none)->scan t k l=none
 | [],_,_=>rfl
 | x::l,k,h=>by have h0:=h 0 x rfl;simp only[Nat.add_zero] at h0;simp only[scan,h0];exact Hn l (k+1) fun n y a1=>by rw[show k+1+n=k+(n+1) by omega];exact h (n+1) y (by simpa using a1)
theorem abG (l:ar)(h:l.length<=1048576):DZ l l=some true:=by
 have h1:Rk l l 0=some (.inl ()):=by have:=Hj (f:=fun w=>AJ l l w) (t:=fun _ _=>none) (e:= .inl ()) l 0 (fun n x ab=>by have aS:=gB ab;have hw:R ((n:Int)+1)=((n+1:Nat):Int):=(by rw[cV (by omega) (by omega)];rfl);simp only[AJ,f9,dG,hw];simp[aS]) (by simp[AJ,f9]);rw[Hn l 0 (fun _ _ _=>rfl)] at this;exact this
 simp[DZ,h1]
theorem abi (j:eb):DS j j=some true:=by simp[DS]
theorem aaZ (j:ed):DK j j=some true:=by simp[DK]
theorem aa0 (l:List eb)(h:l.length<=1048576):DJ l l=some true:=by
 have h1:QD l l 0=some (.inl ()):=by have:=Hj (f:=fun w=>Aj l l w) (t:=fun _ _=>none) (e:= .inl ()) l 0 (fun n x ab=>by have aS:=gB ab;have hw:R ((n:Int)+1)=((n+1:Nat):Int):=(by rw[cV (by omega) (by omega)];rfl);simp only[Aj,f9,dG,hw];simp[aS,abi]) (by simp[Aj,f9]);rw[Hn l 0 (fun _ _ _=>rfl)] at this;exact this
 simp[DJ,h1]
theorem aaJ (l:List ed)(h:l.length<=1048576):Du l l=some true:=by
 have h1:Qi l l 0=some (.inl ()):=by have:=Hj (f:=fun w=>Ab l l w) (t:=fun _ _=>none) (e:= .inl ()) l 0 (fun n x ab=>by have aS:=gB ab;have hw:R ((n:Int)+1)=((n+1:Nat):Int):=(by rw[cV (by omega) (by omega)];rfl);simp only[Ab,f9,dG,hw];simp[aS,aaZ]) (by simp[Ab,f9]);rw[Hn l 0 (fun _ _ _=>rfl)] at this;exact this
 simp[Du,h1]
theorem aab (s:dg)(h1:s.cp.length<=1048576)(o:s.bO.length<=1048576):De s s=some true:=by simp[De,aa0 _ h1,aaJ _ o]
theorem abj (j:eb)(left:Int)(av:j.my.size<=maxLen)(h0:0<=left)(h1:left<=1048576): ∃r,DM j left=some r/\r<=left:=by
 have hm:j.my.size<9223372036854775808:=by have:maxLen=9223372036854775807:=by decide
                                           omega
 have hw:R (left-j.my.size)=left-j.my.size:=cV (by omega) (by omega);unfold DM;rw[hw];by_cases h:left-(j.my.size:Int)<0
 ·exact⟨-1,by simp[h],by omega⟩
 ·exact⟨left-j.my.size,by simp[h],by omega⟩
theorem aa1 (l:List eb)(left:Int)(aX:l.length<=maxLen)(av:∀j∈l,j.my.size<=maxLen)(h0:0<=left)(h1:left<=1048576):
 ∃r,Dv l left=some r/\r<=left/\(0<=r->l.length<=1048576):=by
 have hm:maxLen=9223372036854775807:=by decide
 have hw:R (left-(l.length:Nat))=left-(l.length:Nat):=cV (by omega) (by omega);unfold Dv;simp only[f9,hw];by_cases h:left-(l.length:Int)<0
 ·exact⟨-1,by simp[h],by omega,by omega⟩
 ·obtain⟨r,r1,bR⟩:=kB (f:=fun w:Int×Int=>xb l w.1 w.2) (fun w=>0<=w.1/\w.1<=left/\0<=w.2/\w.2<=l.length) (fun w=>(l.length-w.2).toNat)
   (fun r=>match r with | .inl a=>a<=left | .inr _=>True) (fun w hw=>by
     obtain⟨a,i⟩:=w;simp only at hw;obtain⟨jz,sd,w2,akT⟩:=hw;by_cases ad:i<l.length
     ·obtain⟨x,ab⟩ : ∃x,l[i.toNat]? = some x:=⟨_,dz (by omega)⟩
      obtain⟨r,s1,s2⟩:=abj x a (av x (dH ab)) jz (by omega);obtain⟨aS,rfl⟩:=List.getElem?_eq_some_iff.1 ab;have FK:R (i+1)=i+1:=cV (by omega) (by omega);by_cases ai:r<0
      ·right;exact⟨.inr (),by simp[xb,f9,ad,w2,ab,s1,ai],trivial⟩
      ·left
       refine⟨(r,i+1),by simp[xb,f9,ad,w2,ab,s1,ai,FK],?_,?_⟩
       ·simp only;omega
       ·simp only;omega
     ·right;exact⟨.inl a,by simp[xb,f9,ad],by simpa using sd⟩) (left-(l.length:Nat),0) (by simp only;omega)
  have I8:Ql l (left-(l.length:Nat)) 0=some r:=r1;rw[I8]
  cases r with
  | inl a=>exact⟨a,by simp[h],bR,by omega⟩
  | inr a=>exact⟨-1,by simp[h],by omega,by omega⟩
theorem aaK (l:List ed)(left:Int)(aX:l.length<=maxLen)(h0:0<=left)(h1:left<=1048576):
 ∃r,Dn l left=some r/\r<=left/\(0<=r->l.length<=1048576):=by
 have hm:maxLen=9223372036854775807:=by decide
 have hw:R (left-(l.length:Nat))=left-(l.length:Nat):=cV (by omega) (by omega);unfold Dn;simp only[f9,hw];by_cases h:left-(l.length:Int)<0
 ·exact⟨-1,by simp[h],by omega,by omega⟩
 ·exact⟨left-(l.length:Nat),by simp[h],by omega,by omega⟩
theorem aac (s:dg)(i0:qS s)(left:Int)(h0:0<=left)(h1:left<=1048576):
 ∃r,Db s left=some r/\(0<=r->s.cp.length<=1048576/\s.bO.length<=1048576):=by
 obtain⟨⟨gI,gS⟩,bD,gA⟩:=i0;obtain⟨r,r1,bR,aR⟩:=aa1 s.cp left gI (fun j av=>(gS j av).1) h0 h1;unfold Db;rw[r1];by_cases h:r<0
 ·exact⟨-1,by simp[h],by omega⟩
 ·obtain⟨q,q1,aV,bQ⟩:=aaK s.bO r bD (by omega) (by omega)
  by_cases a5:q<0
  ·exact⟨-1,by simp[h,q1,a5],by omega⟩
  ·exact⟨q,by simp[h,q1,a5],fun _=>⟨aR (by omega),bQ (by omega)⟩⟩
theorem Bs:maxLen=9223372036854775807:=by decide
theorem ace (n:Int):Ba n=oc n (-50) 50:=by rw[rA];unfold Ba;by_cases h : -50<=n<;>simp[h]
theorem abH (c:Int):DF c=some (decide (97<=c/\c<=122)):=by unfold DF;by_cases h:97<=c<;>simp[h]
theorem acf (c:Int):DO c=some (decide (48<=c/\c<=57)):=by unfold DO;by_cases h:48<=c<;>simp[h]
theorem abI (s:ByteArray)(i:Int):C6 s s.size i=vR s i:=by
 unfold C6 vR;generalize ((s.data.toList.getD i.toNat 0).toNat:Int)=c;simp only[abH,acf,dC,dA]
 by_cases h1:i<(s.size:Int)<;>by_cases h0:0<=i<;>by_cases a:(97:Int)<=c<;>by_cases b:c<=122<;>by_cases d:i=0<;>by_cases e:c<48<;>by_cases f:57<c <;>
  simp[h1,h0,a,b,d,e,f,Int.not_lt.1,Int.not_le]<;>omega
theorem ac5 (s:ByteArray):DW s=v5 s:=by
 have h:KB s s.size 0=GN s 0:=by unfold KB GN;congr 1;funext w;exact abI s w
 unfold DW v5;rw[h];congr 1;funext r
 cases r with
 | inr a=>rfl
 | inl a =>
  simp only[rA,dC,dA];by_cases h0:s.size=0
  ·have:s=⟨#[]⟩:=by
    cases s with
    | mk d=>simp only[ByteArray.size] at h0;rw[Array.size_eq_zero_iff] at h0;rw[h0]
   subst this;have e0:(ByteArray.mk #[]).size=0:=rfl;simp[e0]
  ·have c6:s.toList≠(⟨#[]⟩:ByteArray).toList:=by
    intro e;have aX : ∀x:ByteArray,x.toList.length=x.size:=(by intro x;rw[ByteArray.toList_eq];rfl);have:=aX s;rw[e,aX] at this;exact h0 this.symm
   simp only[beq_iff_eq,c6,Bool.not_eq_true',beq_eq_false_iff_ne,ne_eq,not_false_eq_true,if_true];congr 1;apply decide_eq_decide.2;omega
theorem abJ (s:ByteArray)(bK:s.size<=maxLen): ∃r,v5 s=some r:=by
 have hm:=Bs
 obtain⟨r,h,-⟩:=kB (f:=fun w=>vR s w) (fun i=>0<=i/\i<=s.size) (fun i=>(s.size-i).toNat) (fun _=>True) (fun i ad=>by
  obtain⟨h0,h1⟩:=ad;by_cases o:i<(s.size:Int)
  ·have hw:R (i+1)=i+1:=cV (by omega) (by omega)
   unfold vR;generalize ((s.data.toList.getD i.toNat 0).toNat:Int)=c;have agb:0<=i+1/\i+1<=(s.size:Int):=(by omega);have nF:((s.size:Int)-(i+1)).toNat<((s.size:Int)-i).toNat:=by omega
   have key : ∀x:Option (Int⊕(Unit⊕Unit)),(x=some (.inl (i+1))\/x=some (.inr (.inr ())))->(∃er,x=some (.inl er)/\(0<=er/\er<=(s.size:Int))/\((s.size:Int)-er).toNat<((s.size:Int)-i).toNat)\/ ∃r,x=some (.inr r)/\True:=by
    intro x ab;rcases ab with ab|ab
    ·exact .inl ⟨i+1,ab,agb,nF⟩
    ·exact .inr ⟨_,ab,trivial⟩
   apply key;simp only[o,h0,hw,decide_true,if_true,and_self];by_cases a:(97:Int)<=c<;>by_cases b:c<=122<;>by_cases d:i=0<;>by_cases e:c<48<;>by_cases f:57<c<;>simp[a,b,d,e,f]
  ·exact .inr ⟨.inl (),by simp[vR,o],trivial⟩) 0 (by omega)
 have c0:GN s 0=some r:=h;unfold v5;rw[c0]
 cases r with
 | inl a=>exact⟨_,by simp[rA];rfl⟩
 | inr a=>exact⟨_,rfl⟩
theorem acg (j:eb):DP j=rr j:=by unfold DP rr;simp only[ac5,ace]
theorem RF (j:eb)(h:j.my.size<=maxLen): ∃r,rr j=some r:=by
 obtain⟨r,ai⟩:=abJ _ h;unfold rr;simp only[ai,rA,dC,dA]
 repeat' split
 all_goals exact⟨_,rfl⟩
theorem aa2 (s:dg)(n:ByteArray):Dj s n=xu s n:=by
 have h:Jp s.cp n (len_ cn s.cp) 0=C8 n s.cp (len_ cn s.cp) 0:=by unfold Jp C8;congr 1
 unfold Dj xu GA;rw[h]
 cases C8 n s.cp (len_ cn s.cp) 0 with
 | none=>rfl
 | some r=>cases r<;>rfl
theorem QW (s:dg)(n:ByteArray)(h:s.cp.length<=maxLen): ∃r,xu s n=some r:=by
 have hm:=Bs
 obtain⟨r,h1,-⟩:=kB (f:=fun w=>zY n s.cp (len_ cn s.cp) w) (fun i=>0<=i/\i<=s.cp.length) (fun i=>(s.cp.length-i).toNat) (fun _=>True) (fun i ad=>by
  obtain⟨h0,h1⟩:=ad;by_cases o:i<(s.cp.length:Int)
  ·have hw:R (i+1)=i+1:=cV (by omega) (by omega)
   obtain⟨x,ab⟩ : ∃x,s.cp[i.toNat]? = some x:=⟨_,dz (by omega)⟩;unfold zY;simp only[f9,o,h0,hw,ab,decide_true,if_true,and_self,dC,dA];by_cases e:(x.my.toList == n.toList)=true
   ·exact .inr ⟨_,by rw[dw e],trivial⟩
   ·exact .inl ⟨i+1,by rw[dy e],by omega,by omega⟩
  ·exact .inr ⟨.inl (),by simp[zY,f9,o],trivial⟩) 0 (by omega)
 have c0:C8 n s.cp (len_ cn s.cp) 0=some r:=h1;unfold xu;rw[c0]
 cases r with
 | inl a=>exact⟨_,rfl⟩
 | inr a=>exact⟨_,rfl⟩
theorem QX (s:dg):JV s.cp (len_ cn s.cp) s.bO 0=Az s.cp (len_ cn s.cp) s.bO 0:=by unfold JV Az;congr 1;funext w;unfold GC tL;simp only[acg,aa2]
theorem Qj (s:dg)(i0:qS s): ∃r,Az s.cp (len_ cn s.cp) s.bO 0=some r:=by
 have hm:=Bs;obtain⟨⟨gI,gS⟩,-⟩:=i0
 obtain⟨r,h1,-⟩:=kB (f:=fun w=>tL s.cp (len_ cn s.cp) s.bO w) (fun i=>0<=i/\i<=s.cp.length) (fun i=>(s.cp.length-i).toNat) (fun _=>True) (fun i ad=>by
  obtain⟨h0,h1⟩:=ad;by_cases o:i<(s.cp.length:Int)
  ·have hw:R (i+1)=i+1:=cV (by omega) (by omega)
   obtain⟨x,ab⟩ : ∃x,s.cp[i.toNat]? = some x:=⟨_,dz (by omega)⟩;obtain⟨p,ah⟩:=RF x (gS x (dH ab)).1;obtain⟨q,a5⟩:=QW ⟨s.cp,s.bO⟩ x.my gI;unfold tL;simp only[f9,o,h0,hw,ab,ah,a5,decide_true,if_true,and_self,dC,dA];by_cases e:p=true
   ·rw[dw e]
    by_cases aB:(q != i)=true
    ·exact .inr ⟨_,by rw[dw aB],trivial⟩
    ·exact .inl ⟨i+1,by rw[dy aB],by omega,by omega⟩
   ·exact .inr ⟨_,by rw[dy e],trivial⟩
  ·exact .inr ⟨.inl (),by simp[tL,f9,o],trivial⟩) 0 (by omega)
 exact⟨r,h1⟩
def sx (iG:List eb)(m:ed):Bool :=
 decide (0<=m.dY/\m.dY<iG.length/\0<=m.ea/\m.ea<iG.length/\1<=m.h5/\m.h5<=3) &&
 match iG[m.dY.toNat]?,iG[m.ea.toNat]? with
 | some a,some b=> !(a.jy == b.jy && a.jM == b.jM) && !(a.mv && b.mv)
 | _,_=>false
theorem KW (s:dg)(m:ed):CW s m=some (sx s.cp m):=by
 unfold CW sx;simp only[f9];by_cases h1:m.dY<0
 ·simp[h1];omega
 by_cases o:(s.cp.length:Int)<=m.dY
 ·simp[h1,o];omega
 by_cases U:m.ea<0
 ·simp[h1,o,U];omega
 by_cases ak:(s.cp.length:Int)<=m.ea
 ·simp[h1,o,U,ak];omega
 by_cases ax:m.h5<1
 ·simp[h1,o,U,ak,ax];omega
 by_cases aW:3<m.h5
 ·simp[h1,o,U,ak,ax,aW];omega
 obtain⟨x,ab⟩ : ∃x,s.cp[m.dY.toNat]? = some x:=⟨_,dz (by omega)⟩;obtain⟨y,a1⟩ : ∃y,s.cp[m.ea.toNat]? = some y:=⟨_,dz (by omega)⟩;have bo:0<=m.dY/\m.dY<s.cp.length:=by omega
 have cq:0<=m.ea/\m.ea<s.cp.length:=by omega
 have kx:0<=m.dY/\m.dY<s.cp.length/\0<=m.ea/\m.ea<s.cp.length/\1<=m.h5/\m.h5<=3:=by omega
 rw[decide_eq_false h1,decide_eq_false o,decide_eq_false U,decide_eq_false ak,decide_eq_false ax,decide_eq_false aW,decide_eq_true kx,dw bo,ab];simp only[Bool.false_eq_true,if_false,dC,dA,Bool.true_and];rw[dw cq,a1];simp only[dA];by_cases e1:x.jy=y.jy<;>by_cases aB:x.jM=y.jM<;>by_cases CF:x.mv=true<;>by_cases Gb:y.mv=true<;>simp[e1,aB,CF,Gb]
theorem aaL (iG:List eb)(gr:List ed)(av:iG.length<=6)(IC:gr.length<=8)(i:Int):
 CV (R (len_ cn iG-1)) gr (len_ cy gr) iG i =
 (si gr iG gr (len_ cy gr) i).map (Sum.map id (Sum.map id fun _=>())):=by
 have hw:R ((iG.length:Nat)-1)=(iG.length:Nat)-1:=cV (by omega) (by omega);unfold CV si AO;simp only[f9,hw,KW,rA,dC,dA];by_cases h1:i<(gr.length:Int)
 ·by_cases h0:0<=i
  ·obtain⟨m,hm⟩ : ∃x,gr[i.toNat]? = some x:=⟨_,dz (by omega)⟩
   simp only[h1,h0,hm,decide_true,if_true,and_self,dA];unfold sx;by_cases hA:0<=m.dY/\m.dY<=(iG.length:Int)-1
   ·by_cases fP:0<=m.ea/\m.ea<=(iG.length:Int)-1
    ·by_cases i3:1<=m.h5/\m.h5<=3
     ·obtain⟨x,ab⟩ : ∃x,iG[m.dY.toNat]? = some x:=⟨_,dz (by omega)⟩;obtain⟨y,a1⟩ : ∃y,iG[m.ea.toNat]? = some y:=⟨_,dz (by omega)⟩;have bo:0<=m.dY/\m.dY<iG.length:=(by omega);have cq:0<=m.ea/\m.ea<iG.length:=(by omega);have kx:0<=m.dY/\m.dY<iG.length/\0<=m.ea/\m.ea<iG.length/\1<=m.h5/\m.h5<=3:=(by omega);rw[decide_eq_true hA,decide_eq_true fP,decide_eq_true i3,decide_eq_true kx];simp only[if_true,dA,Bool.true_and];rw[dw bo,ab];simp only[dA];rw[dw cq,a1];simp only[dA];by_cases e1:x.jy=y.jy<;>by_cases aB:x.jM=y.jM<;>by_cases CF:x.mv=true<;>by_cases Gb:y.mv=true<;>simp[e1,aB,CF,Gb]
     ·have kx : ¬(0<=m.dY/\m.dY<iG.length/\0<=m.ea/\m.ea<iG.length/\1<=m.h5/\m.h5<=3):=(by omega);rw[decide_eq_true hA,decide_eq_true fP,decide_eq_false i3,decide_eq_false kx];simp
    ·have kx : ¬(0<=m.dY/\m.dY<iG.length/\0<=m.ea/\m.ea<iG.length/\1<=m.h5/\m.h5<=3):=(by omega);rw[decide_eq_true hA,decide_eq_false fP,decide_eq_false kx];simp
   ·have kx : ¬(0<=m.dY/\m.dY<iG.length/\0<=m.ea/\m.ea<iG.length/\1<=m.h5/\m.h5<=3):=(by omega);rw[decide_eq_false hA,decide_eq_false kx];simp
  ·simp[h1,h0]
 ·simp[h1]
theorem PX (iG:List eb)(gr:List ed)(IC:gr.length<=8): ∃r,Gy gr iG gr (len_ cy gr) 0=some r/\ ∀k,r = .inr k->0<=k:=by
 exact kB (f:=fun w=>si gr iG gr (len_ cy gr) w) (fun i=>0<=i/\i<=gr.length) (fun i=>(gr.length-i).toNat) (fun r=> ∀k,r = .inr k->0<=k) (fun i ad=>by
  obtain⟨h0,h1⟩:=ad;by_cases o:i<(gr.length:Int)
  ·have hw:R (i+1)=i+1:=cV (by omega) (by omega)
   obtain⟨x,ab⟩ : ∃x,gr[i.toNat]? = some x:=⟨_,dz (by omega)⟩;unfold si AO;simp only[f9,o,h0,hw,ab,KW,decide_true,if_true,and_self,dC,dA];by_cases e:(!sx iG x)=true
   ·exact .inr ⟨_,by rw[dw e],by intro k aY;simp at aY;omega⟩
   ·exact .inl ⟨i+1,by rw[dy e],by omega,by omega⟩
  ·exact .inr ⟨.inl (),by simp[si,f9,o],by intro k aY;simp at aY⟩) 0 (by omega)
theorem QE (s:dg)(i0:qS s): ∃r,sj s=some r/\AX s=some r:=by
 unfold sj AX;by_cases h1:6<(s.cp.length:Int)
 ·exact⟨false,by simp[f9,h1],by simp[f9,h1]⟩
 by_cases o:8<(s.bO.length:Int)
 ·exact⟨false,by simp[f9,h1,o],by simp[f9,h1,o]⟩
 obtain⟨r,ai⟩:=Qj s i0;rw[QX,ai];obtain⟨q,a5,na⟩:=PX s.cp s.bO (by omega)
 have ah1:Pz (R (len_ cn s.cp-1)) s.bO (len_ cy s.bO) s.cp 0=some (Sum.map id (fun _=>()) q) :=
  adS (f:=fun w=>si s.bO s.cp s.bO (len_ cy s.bO) w) (Sum.map id fun _=>()) (fun _=>True) (fun _ _ _ _=>trivial)
   (fun i _=>aaL s.cp s.bO (by omega) (by omega) i) 0 q a5 trivial
 simp only[CO,CQ,a5,ah1,dC,dA];have d1:decide ((6:Int)<len_ cn s.cp)=false:=by rw[f9];exact decide_eq_false h1
 have d2:decide ((8:Int)<len_ cy s.bO)=false:=by rw[f9];exact decide_eq_false o
 rw[d1,d2];simp only[Bool.false_eq_true,if_false]
 cases r with
 | inr a=>exact⟨false,rfl,rfl⟩
 | inl a =>
  cases q with
  | inl b=>exact⟨true,rfl,by simp⟩
  | inr k =>
   have:=na k rfl;exact⟨false,rfl,by simp[this]⟩
theorem aaM (j:eb)(h:rr j=some true): -50<=j.jy/\j.jy<=50/\ -50<=j.jM/\j.jM<=50:=by
 unfold rr at h
 cases aS:v5 j.my with
 | none=>simp[aS] at h
 | some r =>
  simp only[aS,rA,dC,dA] at h
  cases r with
  | false=>simp at h
  | true =>
   by_cases a : -50<=j.jy/\j.jy<=50
   ·by_cases b : -50<=j.jM/\j.jM<=50
    ·omega
    ·simp[a,b] at h
   ·simp[a] at h
theorem ac6 (s:dg)(i0:qS s)(h:Az s.cp (len_ cn s.cp) s.bO 0=some (.inl ())): ∀(n:Nat) j,s.cp[n]? = some j->rr j=some true:=by
 have hm:=Bs;obtain⟨⟨gI,gS⟩,-⟩:=i0
 obtain⟨r,h1,o⟩:=kB (f:=fun w=>tL s.cp (len_ cn s.cp) s.bO w) (fun i=>0<=i/\i<=s.cp.length/\ ∀(n:Nat) j,(n:Int)<i->s.cp[n]? = some j->rr j=some true) (fun i=>(s.cp.length-i).toNat)
  (fun r=>r = .inl ()-> ∀(n:Nat) j,s.cp[n]? = some j->rr j=some true) (fun i ad=>by
  obtain⟨h0,h1,U⟩:=ad;by_cases o:i<(s.cp.length:Int)
  ·have hw:R (i+1)=i+1:=cV (by omega) (by omega)
   obtain⟨x,ab⟩ : ∃x,s.cp[i.toNat]? = some x:=⟨_,dz (by omega)⟩;obtain⟨p,ah⟩:=RF x (gS x (dH ab)).1;obtain⟨q,a5⟩:=QW ⟨s.cp,s.bO⟩ x.my gI;unfold tL;simp only[f9,o,h0,hw,ab,ah,a5,decide_true,if_true,and_self,dC,dA];by_cases e:p=true
   ·rw[dw e]
    by_cases aB:(q != i)=true
    ·exact .inr ⟨_,by rw[dw aB],by simp⟩
    ·refine .inl ⟨i+1,by rw[dy aB],⟨by omega,by omega,fun n j aS av=> ?_⟩,by omega⟩
     by_cases c:(n:Int)<i
     ·exact U n j c av
     ·have:n=i.toNat:=(by omega);subst this;rw[ab] at av;obtain rfl:=dI av;rw[ah,e]
   ·exact .inr ⟨_,by rw[dy e],by simp⟩
  ·refine .inr ⟨.inl (),by simp[tL,f9,o],fun _ n j av=>U n j (by have:=gB av;omega) av⟩) 0 ⟨by omega,by omega,fun n j aS=>by omega⟩
 have sQ:Az s.cp (len_ cn s.cp) s.bO 0=some r:=h1;rw[h] at sQ;exact o (dI sQ).symm
theorem ach (iG:List eb)(gr:List ed)(IC:gr.length<=8)(h:Gy gr iG gr (len_ cy gr) 0=some (.inl ())): ∀(n:Nat) m,gr[n]? = some m->sx iG m=true:=by
 obtain⟨r,h1,o⟩:=kB (f:=fun w=>si gr iG gr (len_ cy gr) w) (fun i=>0<=i/\i<=gr.length/\ ∀(n:Nat) m,(n:Int)<i->gr[n]? = some m->sx iG m=true) (fun i=>(gr.length-i).toNat)
  (fun r=>r = .inl ()-> ∀(n:Nat) m,gr[n]? = some m->sx iG m=true) (fun i ad=>by
  obtain⟨h0,h1,U⟩:=ad;by_cases o:i<(gr.length:Int)
  ·have hw:R (i+1)=i+1:=cV (by omega) (by omega)
   obtain⟨x,ab⟩ : ∃x,gr[i.toNat]? = some x:=⟨_,dz (by omega)⟩;unfold si AO;simp only[f9,o,h0,hw,ab,KW,decide_true,if_true,and_self,dC,dA];by_cases e:(!sx iG x)=true
   ·exact .inr ⟨_,by rw[dw e],by simp⟩
   ·refine .inl ⟨i+1,by rw[dy e],⟨by omega,by omega,fun n j aS av=> ?_⟩,by omega⟩
    by_cases c:(n:Int)<i
    ·exact U n j c av
    ·have:n=i.toNat:=(by omega);subst this;rw[ab] at av;obtain rfl:=dI av;simpa using e
  ·refine .inr ⟨.inl (),by simp[si,f9,o],fun _ n j av=>U n j (by have:=gB av;omega) av⟩) 0 ⟨by omega,by omega,fun n j aS=>by omega⟩
 have sQ:Gy gr iG gr (len_ cy gr) 0=some r:=h1;rw[h] at sQ;exact o (dI sQ).symm
theorem Qk (s:dg)(i0:qS s)(h:sj s=some true):
 (∀(n:Nat) j,s.cp[n]? = some j->rr j=some true)/\(∀(n:Nat) m,s.bO[n]? = some m->sx s.cp m=true)/\s.cp.length<=6/\s.bO.length<=8:=by
 obtain⟨p,p1,hM⟩:=QE s i0;rw[h] at p1;obtain rfl:=dI p1;unfold AX at hM;by_cases h1:6<(s.cp.length:Int)
 ·simp[f9,h1] at hM
 by_cases o:8<(s.bO.length:Int)
 ·simp[f9,h1,o] at hM
 obtain⟨r,ai⟩:=Qj s i0;rw[QX,ai] at hM;obtain⟨q,a5,na⟩:=PX s.cp s.bO (by omega);have d1:decide ((6:Int)<len_ cn s.cp)=false:=by rw[f9];exact decide_eq_false h1
 have d2:decide ((8:Int)<len_ cy s.bO)=false:=by rw[f9];exact decide_eq_false o
 rw[d1,d2] at hM;simp only[CO,CQ,a5,Bool.false_eq_true,if_false,dC,dA] at hM
 cases r with
 | inr a=>simp at hM
 | inl a =>
  cases q with
  | inr k =>
   have:=na k rfl;simp[this] at hM
  | inl b=>exact⟨ac6 s i0 ai,ach s.cp s.bO (by omega) a5,by omega,by omega⟩
def oC (s:dg):Prop:=(∀(n:Nat) j,s.cp[n]? = some j-> -50<=j.jy/\j.jy<=50/\ -50<=j.jM/\j.jM<=50)/\(∀(n:Nat) m,s.bO[n]? = some m->sx s.cp m=true)/\s.cp.length<=6/\s.bO.length<=8
theorem GM (s:dg)(i0:qS s)(h:sj s=some true):oC s:=by obtain⟨f1,f2,f3,f4⟩:=Qk s i0 h;exact⟨fun n j av=>aaM j (f1 n j av),f2,f3,f4⟩
theorem aeL (s:dg)(h:oC s)(k:Int)(h0:0<=k)(h1:k<s.bO.length):
 ∃x y,tM s k=some (x,y)/\(-100<=x/\x<=100)/\(-100<=y/\y<=100):=by
 obtain⟨f1,f2,f3,f4⟩:=h;obtain⟨m,hm⟩ : ∃x,s.bO[k.toNat]? = some x:=⟨_,dz (by omega)⟩;have y9:=f2 _ m hm;unfold sx at y9;simp only[dM,decide_eq_true_eq] at y9;obtain⟨⟨g1,g2,g3,g4,-⟩,-⟩:=y9;obtain⟨a,bI⟩ : ∃x,s.cp[m.dY.toNat]? = some x:=⟨_,dz (by omega)⟩;obtain⟨b,aU⟩ : ∃x,s.cp[m.ea.toNat]? = some x:=⟨_,dz (by omega)⟩;have aiH:=f1 _ a bI;have aiI:=f1 _ b aU;have e1:R (b.jy-a.jy)=b.jy-a.jy:=cV (by omega) (by omega);have aB:R (b.jM-a.jM)=b.jM-a.jM:=cV (by omega) (by omega);have cZ:0<=k/\k<s.bO.length:=⟨h0,h1⟩;have bo:0<=m.dY/\m.dY<s.cp.length:=⟨g1,g2⟩;have cq:0<=m.ea/\m.ea<s.cp.length:=⟨g3,g4⟩;refine⟨b.jy-a.jy,b.jM-a.jM,?_,by omega,by omega⟩;unfold tM;simp only[dw cZ,hm,dw bo,dw cq,bI,aU,dC,dA,e1,aB]
theorem aeM (s:dg)(h:oC s)(k:Int)(h0:0<=k)(h1:k<s.bO.length){v:Int×Int}(bg:tM s k=some v):Dp s k=some v:=by
 obtain⟨f1,f2,f3,f4⟩:=h;obtain⟨m,hm⟩ : ∃x,s.bO[k.toNat]? = some x:=⟨_,dz (by omega)⟩;have y9:=f2 _ m hm;unfold sx at y9;simp only[dM,decide_eq_true_eq] at y9;obtain⟨⟨g1,g2,g3,g4,-⟩,-⟩:=y9;obtain⟨a,bI⟩ : ∃x,s.cp[m.dY.toNat]? = some x:=⟨_,dz (by omega)⟩;obtain⟨b,aU⟩ : ∃x,s.cp[m.ea.toNat]? = some x:=⟨_,dz (by omega)⟩;have aiH:=f1 _ a bI;have aiI:=f1 _ b aU;have e1:R (b.jy-a.jy)=b.jy-a.jy:=cV (by omega) (by omega);have aB:R (b.jM-a.jM)=b.jM-a.jM:=cV (by omega) (by omega);have cZ:0<=k/\k<s.bO.length:=⟨h0,h1⟩;have bo:0<=m.dY/\m.dY<s.cp.length:=⟨g1,g2⟩;have cq:0<=m.ea/\m.ea<s.cp.length:=⟨g3,g4⟩;have vN:tM s k=some (b.jy-a.jy,b.jM-a.jM):=by unfold tM;simp only[dw cZ,hm,dw bo,dw cq,bI,aU,dC,dA,e1,aB]
 rw[bg] at vN;obtain rfl:=dI vN;unfold Dp;simp only[dw cZ,hm,dw bo,dw cq,bI,aU,dC,dA,e1,aB]
def U7 (p:Int×Int):Option fy:=some (nj p)
theorem ad9 {p:Int×Int}(h:Fr p):Wo (some p):=fun q a5=>by rw[<- dI a5];exact h
def uG (l:ar)(n:Nat)(x:Int):Prop:=0<=x/\x<1000000000/\(∀z,l[n]? = some z->x=z)/\(l[n]? = none->x=0)
theorem yF {l:ar}(h:cX l){n:Nat}(aS:n<l.length):uG l n l[n]:=by have ab:=dz aS;have h0:=h.get ab;exact⟨h0.1,h0.2,fun z cC=>by rw[ab] at cC;exact dI cC,fun h=>by rw[ab] at h;simp at h⟩
theorem BU {l:ar}{n:Nat}(aS:¬n<l.length):uG l n 0:=by
 have ab:l[n]? = none:=by simp;omega
 exact⟨by omega,by omega,fun z cC=>by rw[ab] at cC;simp at cC,fun _=>rfl⟩
theorem uG.take {l:ar}{n:Nat}{x:Int}(h:uG l n x):V (l.take (n+1))=V (l.take n)+B n*x:=Tr h.2.2.1 h.2.2.2
theorem aea {a b row:ar}{carry:Int}{n:Nat}(bI:cX a)(aU:cX b)(a3:carry=0\/carry=1)(tA:a.length<=1000000)(NB:b.length<=1000000)(ai:row.length<=1000001)(IH:n<=1000001)(aS:n<a.length\/n<b.length\/carry=1):
 ∃x y,uG a n x/\uG b n y/\xk a b carry n row=some (.inl ((carry+x+y) / 1000000000,((n+1:Nat):Int),row++[(carry+x+y) % 1000000000])):=by
 have nY:0<=carry/\carry<=1:=by omega
 unfold xk;simp only[fX];by_cases h1:n<a.length
 ·have hA:=yF bI h1
  have ab:=dz h1;rw[dw (by simp;omega),dw (by omega),dx,ab];simp only[dC,dA];by_cases o:n<b.length
  ·have fP:=yF aU o;have a1:=dz o;have gI:=hA.1;have gS:=hA.2.1;have i2:=fP.1;have j9:=fP.2.1;refine⟨a[n],b[n],hA,fP,?_⟩;rw[dw (by simp;omega),dw (by omega),a1];simp only[dA];rw[cV (x:=carry+a[n]) (by omega) (by omega),cV (x:=carry+a[n]+b[n]) (by omega) (by omega),sc (by omega),oI (by omega),cV (by omega) (by omega),pi (n:=n) (by omega),dw (by simp;omega)]
  ·have gI:=hA.1;have gS:=hA.2.1;refine⟨a[n],0,hA,BU o,?_⟩;rw[dy (by simp;omega),cV (x:=carry+a[n]) (by omega) (by omega),sc (by omega),oI (by omega),cV (by omega) (by omega),pi (n:=n) (by omega),dw (by simp;omega),Int.add_zero]
 ·rw[dy (by simp;omega)]
  by_cases o:n<b.length
  ·have fP:=yF aU o;have a1:=dz o;have i2:=fP.1;have j9:=fP.2.1;refine⟨0,b[n],BU h1,fP,?_⟩;rw[dw (by simp;omega),dw (by omega),dx,a1];simp only[dC,dA];rw[cV (x:=carry+b[n]) (by omega) (by omega),sc (by omega),oI (by omega),cV (by omega) (by omega),pi (n:=n) (by omega),dw (by simp;omega),Int.add_zero]
  ·refine⟨0,0,BU h1,BU o,?_⟩;rw[dy (by simp;omega),dw (by simp;omega),sc (by omega),oI (by omega),cV (by omega) (by omega),pi (n:=n) (by omega),dw (by simp;omega),Int.add_zero,Int.add_zero]
theorem aeb {a b:ar}(bI:cX a)(aU:cX b)(tA:a.length<=900000)(NB:b.length<=900000): ∃r,Bg a b=some r/\cX r/\V r=V a+V b/\r.length<=a.length+b.length+1:=by
 obtain⟨r,ai,h1,o,U⟩:=kB (f:=fun w:Int×Int×ar=>xk a b w.1 w.2.1 w.2.2) (fi:=fun w=> ∃n:Nat,w.2.1=n/\w.2.2.length=n/\(w.1=0\/w.1=1)/\cX w.2.2/\V w.2.2+w.1*B n=V (a.take n)+V (b.take n)/\(n<=a.length\/n<=b.length\/w.1=0)/\n<=a.length+b.length+1) (m:=fun w=>(a.length+b.length+2-w.2.1.toNat))
  (fun r=>cX r/\V r=V a+V b/\r.length<=a.length+b.length+1) (by
    rintro⟨carry,ii,row⟩ ⟨n,e1,aB,bP,dd,dW,el,eX⟩;simp only at e1 aB bP dd dW el;subst e1;by_cases aS:n<a.length\/n<b.length\/carry=1
    ·obtain⟨x,y,ab,a1,mX⟩:=aea (row:=row) bI aU bP (by omega) (by omega) (by omega) (by omega) aS
     have x0:=ab.1;have x1:=ab.2.1;have WX:=a1.1;have fv:=a1.2.1;have F9:n<=a.length+b.length:=(by omega);refine .inl ⟨_,mX,⟨n+1,rfl,by simp[aB],by simp only;omega,dd.append (cX.cons (by omega) cX.nil),?_,?_,by omega⟩,by simp only;omega⟩
     ·simp only;rw[xV,aB,nw,mu,B4,ab.take,a1.take];have:=Int.mul_ediv_add_emod (carry+x+y) 1000000000;generalize (carry+x+y) / 1000000000=u at *;generalize (carry+x+y) % 1000000000=t at *;have cf:t=carry+x+y-1000000000*u:=(by omega);rw[cf];grind
     ·simp only
      by_cases h:n+1<=a.length\/n+1<=b.length
      ·omega
      ·
       have akC : ¬n<a.length:=(by omega);have akD : ¬n<b.length:=(by omega);have jd:x=0:=ab.2.2.2 (by simp;omega);have j8:y=0:=a1.2.2.2 (by simp;omega);omega
    ·refine .inr ⟨row,?_,dd,?_,by omega⟩
     ·unfold xk;simp only[fX];rw[dy (by simp;omega),dy (by simp;omega),dy (by simp;omega)]
     ·have a3:carry=0:=(by omega);rw[a3,List.take_of_length_le (by omega),List.take_of_length_le (by omega)] at dW;omega) (0,0,[]) ⟨0,rfl,rfl,.inl rfl,cX.nil,by simp[V],by omega,by omega⟩
 unfold Bg Q2;rw[ai];exact⟨r,rfl,h1,o,U⟩
theorem ac7 {neg:Bool}{r:ar}(ai:cX r)(aX:r.length<=5000000)(qI:V r<B 60):je neg r=some (gy (eM neg (V r))):=by
 have h0:=me ai;have:je neg r=je neg (L (V r)):=by unfold je Be;have hlen:=(h4 h0).2 qI;rw[tX ai aX,tX (hI _) (by omega),ek h0]
 rw[this,sw h0 qI]
theorem ac8 {a b row:ar}{carry:Int}{n:Nat}(bI:cX a)(aU:cX b)(a3:carry=0\/carry=1)(tA:a.length<=1000000)(aS:n<a.length)(ai:n<row.length):
 ∃x y,uG a n x/\uG b n y/\AS a b a.length carry n row=some (.inl ((carry+x+y) / 1000000000,((n+1:Nat):Int),row.set n ((carry+x+y) % 1000000000))):=by
 have nY:0<=carry/\carry<=1:=by omega
 have hA:=yF bI aS;have ab:=dz aS;have gI:=hA.1;have gS:=hA.2.1;unfold AS;simp only[fX];rw[dw (by simp;omega),dw (by omega),dx,ab];simp only[dC,dA];by_cases o:n<b.length
 ·have fP:=yF aU o;have a1:=dz o;have i2:=fP.1;have j9:=fP.2.1;refine⟨a[n],b[n],hA,fP,?_⟩;rw[dw (by simp;omega),dw (by omega),a1];simp only[dA];rw[dw (by omega),dw (by omega),cV (x:=a[n]+carry) (by omega) (by omega),cV (x:=a[n]+carry+b[n]) (by omega) (by omega),sc (by omega),oI (by omega),cV (by omega) (by omega),pi (n:=n) (by omega),dG,Int.add_comm a[n] carry]
 ·refine⟨a[n],0,hA,BU o,?_⟩;rw[dy (by simp;omega),dw (by omega),dw (by omega),cV (x:=a[n]+carry) (by omega) (by omega),sc (by omega),oI (by omega),cV (by omega) (by omega),pi (n:=n) (by omega),dG,Int.add_zero,Int.add_comm a[n] carry]
theorem ac9 {a b:ar}(bI:cX a)(aU:cX b)(tA:a.length<=900000)(wL:b.length<=a.length):
 ∃r,G0 a b a.length 0 0 (List.replicate (a.length+1) 0)=some r/\(r.1=0\/r.1=1)/\cX r.2/\r.2.length=a.length+1/\V r.2+r.1*B a.length=V a+V b/\r.2[a.length]? = some 0:=by
 refine kB (fi:=fun w:Int×Int×ar=> ∃n:Nat,w.2.1=n/\n<=a.length/\(w.1=0\/w.1=1)/\cX w.2.2/\w.2.2.length=a.length+1/\V w.2.2+w.1*B n=V (a.take n)+V (b.take n)/\ ∀j,n<=j->j<a.length+1->w.2.2[j]? = some 0) (m:=fun w=>a.length-w.2.1.toNat) _ ?_ _ ⟨0,rfl,by omega,.inl rfl,cX.Nb _,by simp,by simp[V,Mh],fun j _ h=>by simp[List.getElem?_replicate];omega⟩;rintro⟨carry,ii,row⟩ ⟨n,e1,aB,bP,dd,dW,el,eX⟩;simp only at e1 bP dd dW el eX ⊢;subst e1;by_cases aS:n=a.length
 ·subst aS;refine .inr ⟨(carry,row),by simp[AS],bP,dd,dW,?_,eX _ (dE _) (by omega)⟩;rw[List.take_length,List.take_of_length_le wL] at el;exact el
 ·obtain⟨x,y,ab,a1,mX⟩:=ac8 (row:=row) (n:=n) bI aU bP (by omega) (by omega) (by omega)
  have x0:=ab.1;have x1:=ab.2.1;have WX:=a1.1;have fv:=a1.2.1;refine .inl ⟨_,mX,⟨n+1,rfl,by omega,by simp only;omega,dd.set (by omega),by simpa using dW,?_,fun j h1 o=> ?_⟩,by simp only;omega⟩
  ·simp only;rw[ul (eX n (dE _) (by omega)),nw,ab.take,a1.take];have:=Int.mul_ediv_add_emod (carry+x+y) 1000000000;generalize (carry+x+y) / 1000000000=u at *;generalize (carry+x+y) % 1000000000=t at *;have cf:t=carry+x+y-1000000000*u:=(by omega);rw[cf];grind
  ·simp only;rw[List.getElem?_set_ne (by omega)];exact eX j (by omega) o
theorem SY {a b:ar}(bI:cX a)(aU:cX b)(tA:a.length<=900000)(wL:b.length<=a.length):
 (if 0<=(R ((len_ eI a)+(1:Int)))/\(8:Int)*(R ((len_ eI a)+(1:Int)))<=281474976710656/\(R ((len_ eI a)+(1:Int)))<9223372036854775808 then
   (G0 a b (len_ eI a) 0 0 (List.replicate (R ((len_ eI a)+(1:Int))).toNat 0:ar)).bind fun aR =>
   if 0<=(len_ eI a)/\(len_ eI a)<(aR.2.length:Nat) then
   if (0+(len_ eI a).toNat)<aR.2.length then
   (su (aR.2.set (0+(len_ eI a).toNat) aR.1)).bind fun bE=>some bE
   else none
   else none
   else none)=some (L (V a+V b)):=by
 obtain⟨r,ai,h1,o,U,ak,ax⟩:=ac9 bI aU tA wL;rw[fX,pi (by omega),dw (by omega),dx,ai,dA,dw (by omega),dx,dG,dw (by omega)];have Fk:cX (r.2.set a.length r.1):=o.set (by omega);rw[BJ Fk (by simp;omega),ul ax,dA];congr 2;rw[<- ak];grind
theorem aeN {a b:ar}(bI:cX a)(aU:cX b)(tA:a.length<=900000)(NB:b.length<=900000):Br a b=some (L (V a+V b)):=by
 unfold Br;by_cases h:a.length<b.length
 ·rw[dw (by rw[fX,fX];simpa using h)];have:=SY aU bI NB (by omega);rw[Int.add_comm (V a)];exact this
 ·rw[dy (by rw[fX,fX];simpa using h)];exact SY bI aU tA (by omega)
theorem aci {a b row:ar}{less:Int}{n:Nat}(bI:cX a)(aU:cX b)(aX:less=0\/less=1)(tA:a.length<=1000000)(aS:n<a.length)(ai:n<row.length):
 ∃x y,uG a n x/\uG b n y/\AQ b a a.length less n row=some (.inl (if x-less-y<0 then (1,((n+1:Nat):Int),row.set n (x-less-y+1000000000)) else (0,((n+1:Nat):Int),row.set n (x-less-y)))):=by
 have nY:0<=less/\less<=1:=by omega
 have hA:=yF bI aS;have ab:=dz aS;have gI:=hA.1;have gS:=hA.2.1;unfold AQ;simp only[fX];rw[dw (by simp;omega),dw (by omega),dx,ab];simp only[dC,dA];by_cases o:n<b.length
 ·have fP:=yF aU o
  have a1:=dz o;have i2:=fP.1;have j9:=fP.2.1;refine⟨a[n],b[n],hA,fP,?_⟩;rw[dw (by simp;omega),dw (by omega),a1];simp only[dA];rw[cV (x:=a[n]-less) (by omega) (by omega),cV (x:=a[n]-less-b[n]) (by omega) (by omega),pi (n:=n) (by omega),cV (x:=a[n]-less-b[n]+1000000000) (by omega) (by omega),dG];by_cases h:a[n]-less-b[n]<0
  ·rw[dw (by simpa using h),dw h,dw (by omega),dw (by omega)]
  ·rw[dy (by simpa using h),dy h,dw (by omega),dw (by omega)]
 ·refine⟨a[n],0,hA,BU o,?_⟩
  rw[dy (by simp;omega),cV (x:=a[n]-less) (by omega) (by omega),pi (n:=n) (by omega),cV (x:=a[n]-less+1000000000) (by omega) (by omega),dG,Int.sub_zero];by_cases h:a[n]-less<0
  ·rw[dw (by simpa using h),dw h,dw (by omega),dw (by omega)]
  ·rw[dy (by simpa using h),dy h,dw (by omega),dw (by omega)]
theorem Tu {a b:ar}(bI:cX a)(aU:cX b)(hlen:b.length<=a.length)(wL:V b<=V a)(tA:a.length<=900000):v9 a b=some (L (V a-V b)):=by
 have : ∃r,Rs b a a.length 0 0 (List.replicate a.length 0)=some r/\cX r/\r.length=a.length/\V r=V a-V b:=by
  refine kB (fi:=fun w:Int×Int×ar=> ∃n:Nat,w.2.1=n/\n<=a.length/\(w.1=0\/w.1=1)/\cX w.2.2/\w.2.2.length=a.length/\V w.2.2-w.1*B n=V (a.take n)-V (b.take n)/\ ∀j,n<=j->j<a.length->w.2.2[j]? = some 0) (m:=fun w=>a.length-w.2.1.toNat) _ ?_ _ ⟨0,rfl,by omega,.inl rfl,cX.Nb _,by simp,by simp[V,Mh],fun j _ h=>by simp[List.getElem?_replicate];omega⟩;rintro⟨less,ii,row⟩ ⟨n,e1,aB,bP,dd,dW,el,eX⟩;simp only at e1 bP dd dW el eX ⊢;subst e1;by_cases aS:n=a.length
  ·subst aS;refine .inr ⟨row,by simp[AQ],dd,dW,?_⟩;rw[List.take_length,List.take_of_length_le hlen] at el;have o:=oi dd;rw[dW] at o;rcases bP with rfl|rfl<;>omega
  ·obtain⟨x,y,ab,a1,mX⟩:=aci (row:=row) (n:=n) bI aU bP (by omega) (by omega) (by omega)
   have x0:=ab.1;have x1:=ab.2.1;have WX:=a1.1;have fv:=a1.2.1;rw[mX];refine .inl ⟨_,rfl,?_⟩;by_cases h:x-less-y<0
   ·rw[dw h]
    refine⟨⟨n+1,rfl,by omega,.inr rfl,dd.set (by omega),by simpa using dW,?_,fun j h1 o=> ?_⟩,by simp only;omega⟩
    ·simp only;rw[ul (eX n (dE _) (by omega)),nw,ab.take,a1.take];grind
    ·simp only;rw[List.getElem?_set_ne (by omega)];exact eX j (by omega) o
   ·rw[dy h]
    refine⟨⟨n+1,rfl,by omega,.inl rfl,dd.set (by omega),by simpa using dW,?_,fun j h1 o=> ?_⟩,by simp only;omega⟩
    ·simp only;rw[ul (eX n (dE _) (by omega)),ab.take,a1.take];grind
    ·simp only;rw[List.getElem?_set_ne (by omega)];exact eX j (by omega) o
 obtain⟨r,ai,h1,o,U⟩:=this;unfold v9;simp only[fX];rw[dw (by omega),dx,ai];simp only[dC,dA];rw[BJ h1 (by omega),U];rfl
theorem UI {a b:Int}(h:decide (a<0)=decide (b<0)):eM (decide (a<0)) ((a.natAbs:Int)+(b.natAbs:Int))=a+b:=by
 have c0:a<0↔b<0:=by simpa using h
 unfold eM;by_cases h1:a<0
 ·have:=c0.1 h1;simp only[h1,decide_true,if_true];omega
 ·have : ¬b<0:=fun aU=>h1 (c0.2 aU);simp only[h1,decide_false,Bool.false_eq_true,if_false];omega
theorem HS {a b:Int}(h:¬decide (a<0)=decide (b<0)):eM (decide (a<0)) ((a.natAbs:Int)-(b.natAbs:Int))=a+b/\eM (decide (b<0)) ((b.natAbs:Int)-(a.natAbs:Int))=a+b:=by
 have c0 : ¬(a<0↔b<0):=by simpa using h
 unfold eM;by_cases h1:a<0
 ·have o : ¬b<0:=fun aU=>c0 ⟨fun _=>aU,fun _=>h1⟩;simp only[h1,o,decide_true,if_true,decide_false,Bool.false_eq_true,if_false];omega
 ·have o:b<0:=by
   apply Classical.byContradiction;intro aU;exact c0 ⟨fun h=>absurd h h1,fun h=>absurd h aU⟩
  simp only[h1,o,decide_true,if_true,decide_false,Bool.false_eq_true,if_false];omega
theorem Hx {x y:Int}(ab:0<=x)(Nc:x<=y):(L x).length<=(L y).length:=by apply (h4 ab).2;have:=oi (hI y);rw[ek (by omega)] at this;omega
theorem SZ {a b:Int}(bI:(a.natAbs:Int)<B 50)(aU:(b.natAbs:Int)<B 50):sr (gy a) (gy b)=some (gy (a+b)):=by
 have uH:=(h4 (k:=50) (n:=a.natAbs) (by omega)).2 bI;have s6:=(h4 (k:=50) (n:=b.natAbs) (by omega)).2 aU;have qI:B 50+B 50<=B 60:=by have h1:B 51<=B 60:=sC (by omega);have o:=pd 50;rw[nw] at h1;omega
 have bK:sr (gy a) (gy b)=(if (decide (a<0) == decide (b<0))=true then (Bg (L a.natAbs) (L b.natAbs)).bind fun bR=>(je (decide (a<0)) bR).bind fun a7=>some a7 else (sq (L a.natAbs) (L b.natAbs)).bind fun bR=>if (decide ((0:Int)<=bR))=true then (uS (L a.natAbs) (L b.natAbs)).bind fun aL=>(je (decide (a<0)) aL).bind fun bE=>some bE else (uS (L b.natAbs) (L a.natAbs)).bind fun aL=>(je (decide (b<0)) aL).bind fun bE=>some bE):=rfl;rw[bK];by_cases h:decide (a<0)=decide (b<0)
 ·rw[dw (by simpa using h)];obtain⟨r,r1,bR,aR,a7⟩:=aeb (hI a.natAbs) (hI b.natAbs) (by omega) (by omega);rw[ek (by omega),ek (by omega)] at aR;rw[r1,dA,ac7 bR (by omega) (by omega),aR,UI h];rfl
 ·rw[dy (by simpa using h),u6 (iy _) (iy _) (by omega),ek (by omega),ek (by omega),dA]
  by_cases a3:(b.natAbs:Int)<=a.natAbs
  ·have za:0<=lO (a.natAbs:Int) b.natAbs:=by
    apply Int.not_lt.mp;intro h1;have:=wh.1 h1;omega
   rw[dw (by simpa using za),sub_eq (hI _) (hI _) (Hx (by omega) a3) (by rw[ek (by omega),ek (by omega)];exact a3) (by omega),ek (by omega),ek (by omega),dA,sw (by omega) (by omega),(HS h).1];rfl
  ·have za : ¬0<=lO (a.natAbs:Int) b.natAbs:=by
    have:=wh.2 (show (a.natAbs:Int)<b.natAbs by omega);omega
   rw[dy (by simpa using za),sub_eq (hI _) (hI _) (Hx (by omega) (by omega)) (by rw[ek (by omega),ek (by omega)];omega) (by omega),ek (by omega),ek (by omega),dA,sw (by omega) (by omega),(HS h).2];rfl
theorem Tv {a b:Int}(bI:(a.natAbs:Int)<B 50)(aU:(b.natAbs:Int)<B 50):vV (gy a) (gy b)=some (gy (a+b)):=by
 have uH:=(h4 (k:=50) (n:=a.natAbs) (by omega)).2 bI;have s6:=(h4 (k:=50) (n:=b.natAbs) (by omega)).2 aU;have bK:vV (gy a) (gy b)=((ru (L a.natAbs) (L b.natAbs)).bind fun r1=>if (decide (a<0) == decide (b<0))=true then (Br (L a.natAbs) (L b.natAbs)).bind fun bR=>(mM (decide (a<0)) bR).bind fun a7=>some a7 else if (decide ((0:Int)<=r1))=true then (v9 (L a.natAbs) (L b.natAbs)).bind fun aL=>(mM (decide (a<0)) aL).bind fun bE=>some bE else (v9 (L b.natAbs) (L a.natAbs)).bind fun aL=>(mM (decide (b<0)) aL).bind fun bE=>some bE):=rfl;rw[bK,Hc (iy _) (iy _) (by omega),ek (by omega),ek (by omega),dA];by_cases h:decide (a<0)=decide (b<0)
 ·rw[dw (by simpa using h),aeN (hI _) (hI _) (by omega) (by omega),ek (by omega),ek (by omega),dA,sv (by omega),UI h];rfl
 ·rw[dy (by simpa using h)]
  by_cases a3:(b.natAbs:Int)<=a.natAbs
  ·have za:0<=lO (a.natAbs:Int) b.natAbs:=by
    apply Int.not_lt.mp;intro h1;have:=wh.1 h1;omega
   rw[dw (by simpa using za),Tu (hI _) (hI _) (Hx (by omega) a3) (by rw[ek (by omega),ek (by omega)];exact a3) (by omega),ek (by omega),ek (by omega),dA,sv (by omega),(HS h).1];rfl
  ·have za : ¬0<=lO (a.natAbs:Int) b.natAbs:=by
    have:=wh.2 (show (a.natAbs:Int)<b.natAbs by omega);omega
   rw[dy (by simpa using za),Tu (hI _) (hI _) (Hx (by omega) (by omega)) (by rw[ek (by omega),ek (by omega)];omega) (by omega),ek (by omega),ek (by omega),dA,sv (by omega),(HS h).2];rfl
theorem L8 {b:Int}:eM (!(decide (b<0))) (b.natAbs:Int) = -b:=by
 unfold eM;by_cases h:b<0
 ·simp only[h,decide_true,Bool.not_true,Bool.false_eq_true,if_false];omega
 ·simp only[h,decide_false,Bool.not_false,if_true];omega
theorem ada {a b:Int}(bI:(a.natAbs:Int)<B 50)(aU:(b.natAbs:Int)<B 50):xp (gy a) (gy b)=some (gy (a-b)):=by have bK:xp (gy a) (gy b)=(((mM (!(decide (b<0))) (L b.natAbs)).bind fun r=>some r).bind fun r1=>(vV (gy a) r1).bind fun aR=>some aR):=rfl;rw[bK,sv (by omega),L8,dA,dA,Tv bI (by omega),dA,Int.sub_eq_add_neg]
theorem Fr.neg {q:Int×Int}(h:Fr q):Fr (-q.1,q.2):=⟨h.pos,by simp only;rw[Int.neg_gcd];exact h.Ny,by simp only;have:=h.num;omega,h.den⟩
theorem adb {q:Int×Int}(h:Fr q):ss (mk q)=some (mk (-q.1,q.2)):=by have h1:=h.num;have o:=h.po;have U:=L6;have bK:ss (mk q)=((je (!(decide (q.1<0))) (L q.1.natAbs)).bind fun r1=>if (([]:ar)++L q.2).length*8<=140737488355328 then some (⟨r1,([]:ar)++L q.2⟩:aE) else none):=rfl;rw[bK,sw (by omega) (by omega),L8,dA,dw (by simp;omega)];rfl
theorem Hy {p q:Int×Int}(ah:Fr p)(a5:Fr q):((p.1*q.2).natAbs:Int)<B 48/\(L (p.1.natAbs*q.2:Int)).length<=48/\0<=(p.1.natAbs*q.2:Int):=by have aW:=a5.pos;have bb:=wi (x:=p.1.natAbs) (y:=q.2) (by omega) (by omega) ah.num a5.den;have zp:0<=(p.1.natAbs:Int)*q.2:=Int.mul_nonneg (by omega) (by omega);rw[L7 (by omega)];exact⟨(h4 zp).1 bb,bb,zp⟩
theorem L9:B 48+B 48<=B 50:=by have h1:B 49<=B 50:=sC (by omega);have o:=pd 48;rw[nw] at h1;omega
theorem ade {p q:Int×Int}(ah:Fr p)(a5:Fr q):ta (mk p) (mk q)=some (enc (low (p.1*q.2+q.1*p.2) (p.2*q.2))):=by
 have h1:=ah.pR;have o:=ah.po;have U:=a5.pR;have ak:=a5.po;have ax:=ah.pos;have aW:=a5.pos;have VD:=ah.num;have pU:=a5.num;have akE:=ah.den;have akF:=a5.den;have fP:=L9;have ajV:B 24<=B 48:=sC (by omega);have ajW:B 50<=B 60:=sC (by omega);obtain⟨bo,cq,kx⟩:=Hy ah a5;obtain⟨d1,d2,NO⟩:=Hy a5 ah;have Vw:=pd 48;have e1:i6 (L p.1.natAbs) (L q.2)=some (L ((p.1.natAbs:Int)*q.2)):=by rw[mul_eq (hI _) (hI _) (by omega) (by omega),ek (by omega),ek (by omega)]
 have aB:i6 (L q.1.natAbs) (L p.2)=some (L ((q.1.natAbs:Int)*p.2)):=by rw[mul_eq (hI _) (hI _) (by omega) (by omega),ek (by omega),ek (by omega)]
 have bP:je (decide (p.1<0)) (L ((p.1.natAbs:Int)*q.2))=some (gy (p.1*q.2)):=by rw[sw kx (by rw[<- L7 (by omega)];omega),BK]
 have dd:je (decide (q.1<0)) (L ((q.1.natAbs:Int)*p.2))=some (gy (q.1*p.2)):=by rw[sw NO (by rw[<- L7 (by omega)];omega),BK]
 have dW:sr (gy (p.1*q.2)) (gy (q.1*p.2))=some (gy (p.1*q.2+q.1*p.2)):=SZ (by omega) (by omega);have bd:=wi (x:=p.2) (y:=q.2) (by omega) (by omega) ah.den a5.den;have el:i6 (L p.2) (L q.2)=some (L (p.2*q.2)):=by rw[mul_eq (hI _) (hI _) (by omega) (by omega),ek (by omega),ek (by omega)]
 have Vp:(L (p.1*q.2+q.1*p.2).natAbs).length<=50:=(h4 (by omega)).2 (by omega)
 have eX:pH (decide (p.1*q.2+q.1*p.2<0)) (L (p.1*q.2+q.1*p.2).natAbs) (L (p.2*q.2))=some (enc (low (p.1*q.2+q.1*p.2) (p.2*q.2))):=by
  rw[Lg (by omega) (Int.mul_pos ax aW) (by omega) (by omega)]
  have:eM (decide (p.1*q.2+q.1*p.2<0)) ((p.1*q.2+q.1*p.2).natAbs:Int)=p.1*q.2+q.1*p.2:=by
   have:=BK (a:=p.1*q.2+q.1*p.2) (b:=1)
   rwa [Int.mul_one,Int.mul_one] at this
  rw[this]
 have Vx:((i6 (L p.1.natAbs) (L q.2)).bind fun bE=>(je (decide (p.1<0)) bE).bind fun bw=>(i6 (L q.1.natAbs) (L p.2)).bind fun bH=>(je (decide (q.1<0)) bH).bind fun cT=>(sr bw cT).bind fun fC=>(i6 (L p.2) (L q.2)).bind fun hD=>(pH fC.cz fC.b8 hD).bind fun gQ=>some gQ)=some (enc (low (p.1*q.2+q.1*p.2) (p.2*q.2))):=by rw[e1,dA,bP,dA,aB,dA,dd,dA,dW,dA,el,dA];show (pH (decide (p.1*q.2+q.1*p.2<0)) (L (p.1*q.2+q.1*p.2).natAbs) (L (p.2*q.2))).bind _=_;rw[eX,dA]
 have bK:ta (mk p) (mk q)=((s9 (L p.2)).bind fun r1=>if r1=true then (s9 (L q.2)).bind fun a7=>if a7=true then (sr (gy p.1) (gy q.1)).bind fun bE=>(pH bE.cz bE.b8 ([1]:ar)).bind fun bw=>some bw else ((i6 (L p.1.natAbs) (L q.2)).bind fun bE=>(je (decide (p.1<0)) bE).bind fun bw=>(i6 (L q.1.natAbs) (L p.2)).bind fun bH=>(je (decide (q.1<0)) bH).bind fun cT=>(sr bw cT).bind fun fC=>(i6 (L p.2) (L q.2)).bind fun hD=>(pH fC.cz fC.b8 hD).bind fun gQ=>some gQ) else ((i6 (L p.1.natAbs) (L q.2)).bind fun bE=>(je (decide (p.1<0)) bE).bind fun bw=>(i6 (L q.1.natAbs) (L p.2)).bind fun bH=>(je (decide (q.1<0)) bH).bind fun cT=>(sr bw cT).bind fun fC=>(i6 (L p.2) (L q.2)).bind fun hD=>(pH fC.cz fC.b8 hD).bind fun gQ=>some gQ)):=rfl;rw[bK,BT (by omega),dA];by_cases bX:p.2=1
 ·rw[dw (by simpa using bX),BT (by omega),dA]
  by_cases aP:q.2=1
  ·rw[dw (by simpa using aP),SZ (by omega) (by omega),dA];have gv:p.1*q.2+q.1*p.2=p.1+q.1:=(by rw[bX,aP,Int.mul_one,Int.mul_one]);have WY:p.2*q.2=1:=(by rw[bX,aP];rfl);rw[gv,WY,Mm] at eX;rw[gv,WY];show (pH (decide (p.1+q.1<0)) (L (p.1+q.1).natAbs) [1]).bind _=_;rw[eX,dA]
  ·rw[dy (by simpa using aP)];exact Vx
 ·rw[dy (by simpa using bX)];exact Vx
def m0 (n:Int):Int:=if n=0 then 0 else if n<0 then -1 else 1
theorem adf {p:Int×Int}(ah:Fr p):mr (mk p)=some (m0 p.1):=by
 have h1:qV (mk p)=some true:=afr (x:=some p) (ad9 ah);have bK:mr (mk p)=(qV (mk p)).bind (fun r1=>if r1=true then (if ((len_ eI (L p.1.natAbs)) == (0:Int))=true then some 0 else if (decide (p.1<0))=true then some (-1) else some 1) else some 0):=rfl;rw[bK,h1,dA,dw rfl,fX];unfold m0;by_cases h:p.1=0
 ·rw[dw (by rw[h];simp[qk]),dw h]
 ·rw[dy (by simp only[beq_iff_eq];intro o;have:=(Ce (n:=p.1.natAbs) (by omega)).1 o;omega),dy h]
  by_cases U:p.1<0
  ·rw[dw (by simpa using U),dw U]
  ·rw[dy (by simpa using U),dy U]
theorem adg {p:Int×Int}:A1 (U7 p)=some (m0 p.1):=by
 have bK:A1 (U7 p)=((if ((len_ eI (L p.1.natAbs)) == (0:Int))=true then some 0 else if (decide (p.1<0))=true then some (-1) else some 1:Option Int)).bind (fun r=>some r):=rfl;rw[bK,fX];unfold m0;by_cases h:p.1=0
 ·rw[dw (by rw[h];simp[qk]),dw h];rfl
 ·rw[dy (by simp only[beq_iff_eq];intro o;have:=(Ce (n:=p.1.natAbs) (by omega)).1 o;omega),dy h]
  by_cases U:p.1<0
  ·rw[dw (by simpa using U),dw U];rfl
  ·rw[dy (by simpa using U),dy U];rfl
def sE (n:Int):Bool:=decide (-100<=n/\n<=100)
def tr (zu:Nat)(l:ar):Bool:=decide (l.length=2*zu) && l.all sE
theorem acj (n:Int):DQ n=some (sE n):=by unfold DQ sE;by_cases h : -100<=n<;>simp[h]
theorem adh (s:dg)(p:Bool)(ah:sj s=some p)(tJ:p=true->s.cp.length<=6)(l:ar)(aX:l.length<=maxLen):s8 s l=some (p && tr s.cp.length l):=by
 have hm:=Bs;unfold s8;simp only[ah,dC,dA,f9]
 cases p with
 | false=>rfl
 | true =>
  have tJ:=tJ rfl;have hw:R (2*((s.cp.length:Nat):Int))=2*((s.cp.length:Nat):Int):=cV (by omega) (by omega);rw[hw];unfold tr;by_cases e:l.length=2*s.cp.length
  ·have h1:QY l (l.length:Nat) 0=some (if l.all sE then .inl () else .inr ()):=by
    refine Tl (f:=fun w=>AA l (l.length:Nat) w) l sE (fun n x ab=> ?_) ?_
    ·have ez:=gB ab
     unfold AA;have c:(n:Int)<(l.length:Int):=(by omega);have eJ:0<=(n:Int)/\(n:Int)<(l.length:Int):=(by omega);simp only[decide_eq_true c,if_true,dw eJ,dx,ab,dC,dA,rA];rw[i1 (by omega)];unfold sE;by_cases q : -100<=x/\x<=100
     ·simp[q]
     ·rw[decide_eq_false q];simp
    ·simp[AA]
   have c:((l.length:Int) != 2*(s.cp.length:Int))=false:=(by simp;omega);simp only[c,h1,Bool.false_eq_true,if_false,if_true,dA];cases l.all sE<;>simp[e]
  ·have c:((l.length:Int) != 2*(s.cp.length:Int))=true:=(by simp;omega);simp only[c,if_true];simp[e]
theorem abK (s:dg)(tJ:s.cp.length<=6)(l:ar)(aX:l.length<=maxLen):DG s l=some (tr s.cp.length l):=by
 have hm:=Bs;have hw:R (2*((s.cp.length:Nat):Int))=2*((s.cp.length:Nat):Int):=cV (by omega) (by omega);unfold DG Gz GB tr;simp only[f9,hw,dC];obtain⟨r,h1,o⟩:=SO (f:=fun w=>zA l (l.length:Nat) w) l (fun n=> !sE n) (fun n x ab=>by have ez:=gB ab;unfold zA GK;have c:(n:Int)<(l.length:Int):=(by omega);have eJ:0<=(n:Int)/\(n:Int)<(l.length:Int):=(by omega);simp only[decide_eq_true c,if_true,dw eJ,dx,ab,dC,dA,acj];rw[i1 (by omega)];cases sE x<;>rfl) (by simp[zA]);have sQ:Ol l (l.length:Nat) 0=some r:=h1;rw[sQ];have agO:(l.any fun n=> !sE n) = !l.all sE:=by rw[List.not_all_eq_any_not]
 rw[agO] at o;by_cases e:l.length=2*s.cp.length
 ·have c:((l.length:Int) == 2*(s.cp.length:Int))=true:=by simp;omega
  rw[c];rcases o with ⟨k,rfl,aY,bI⟩|⟨rfl,bI⟩
  ·simp only[Bool.not_eq_true'] at bI;simp[e,bI,aY]
  ·simp only[Bool.not_eq_false'] at bI;simp[e,bI]
 ·have c:((l.length:Int) == 2*(s.cp.length:Int))=false:=(by simp;omega);rw[c];simp[e]
theorem sd {i:Int}{a:Nat}(h0:0<=i)(h1:i<=100)(bI:a<=1):R (R (2*i)+(a:Int))=(((2*i+a).toNat:Nat):Int):=by rw[cV (x:=2*i) (by omega) (by omega),cV (by omega) (by omega)];omega
theorem abL (l:ar)(h:l.length<=1048576):Dw l=some l:=by
 have aU : ∀(n:Nat) x (row:ar),l[n]? = some x->row.length=l.length->xc l n row=some (.inl (((n+1:Nat):Int),row.set n x)):=by intro n x row ab ai;obtain⟨aS,rfl⟩:=List.getElem?_eq_some_iff.1 ab;have hw:R ((n:Int)+1)=((n+1:Nat):Int):=(by rw[cV (by omega) (by omega)];rfl);simp only[xc,f9,hw];simp[aS,ai]
 have he : ∀row:ar,xc l l.length row=some (.inr row):=by intro row;simp[xc,f9]
 have h1:Qm l 0 (List.replicate (len_ eI l).toNat 0)=some l :=
  Lb l (List.replicate (len_ eI l).toNat 0) (by simp[f9]) aU he
 unfold Dw;rw[h1,dw (by rw[f9];omega)];simp[f9]
theorem aa3 (l:List eb)(h:l.length<=1048576):Df l=some l:=by
 have aU : ∀(n:Nat) x (row:List eb),l[n]? = some x->row.length=l.length->xa l n row=some (.inl (((n+1:Nat):Int),row.set n x)):=by intro n x row ab ai;obtain⟨aS,rfl⟩:=List.getElem?_eq_some_iff.1 ab;have hw:R ((n:Int)+1)=((n+1:Nat):Int):=(by rw[cV (by omega) (by omega)];rfl);simp only[xa,f9,hw,GZ];simp[aS,ai]
 have he : ∀row:List eb,xa l l.length row=some (.inr row):=by intro row;simp[xa,f9]
 have h1:PE l 0 (List.replicate (len_ cn l).toNat (⟨ByteArray.empty,0,0,false⟩:eb))=some l :=
  Lb l _ (by simp[f9]) aU he
 unfold Df;rw[h1,dw (by rw[f9];omega)];simp[f9]
theorem aaN (l:List ed)(h:l.length<=1048576):Dc l=some l:=by
 have aU : ∀(n:Nat) x (row:List ed),l[n]? = some x->row.length=l.length->w9 l n row=some (.inl (((n+1:Nat):Int),row.set n x)):=by intro n x row ab ai;obtain⟨aS,rfl⟩:=List.getElem?_eq_some_iff.1 ab;have hw:R ((n:Int)+1)=((n+1:Nat):Int):=(by rw[cV (by omega) (by omega)];rfl);simp only[w9,f9,hw,GR];simp[aS,ai]
 have he : ∀row:List ed,w9 l l.length row=some (.inr row):=by intro row;simp[w9,f9]
 have h1:Py l 0 (List.replicate (len_ cy l).toNat (⟨0,0,0⟩:ed))=some l :=
  Lb l _ (by simp[f9]) aU he
 unfold Dc;rw[h1,dw (by rw[f9];omega)];simp[f9]
theorem aad (s:dg)(h1:s.cp.length<=1048576)(o:s.bO.length<=1048576):C7 s=some (s.cp,s.bO):=by simp[C7,aa3 _ h1,aaN _ o]
def NC (P:List ar):bS->Prop
 | none=>True
 | some (k,c)=> ∃x,P[k]? = some x/\x.length=c/\c<=1048576
theorem NC.set {P:List ar}{k:Nat}{x y:ar}(ab:P[k]? = some x)(a1:y.length=x.length){h:bS}(gH:NC P h):NC (P.set k y) h:=by
 cases h with
 | none=>trivial
 | some p =>
  obtain⟨j,c⟩:=p;obtain⟨z,h1,o,U⟩:=gH;by_cases av:k=j
  ·subst av;rw[ab] at h1;obtain rfl:=dI h1;exact⟨y,by rw[List.getElem?_set,dw rfl,dw (gB ab)],by omega,U⟩
  ·exact⟨z,by rw[List.getElem?_set,dy av];exact h1,o,U⟩
def l3:List eb->Nat->List Nat
 | [],_=>[]
 | x::l,n=>if x.mv then l3 l (n+1) else n::l3 l (n+1)
theorem Lw : ∀(l:List eb) (n i:Nat),i∈l3 l n->n<=i/\i<n+l.length
 | [],n,i,h=>by simp[l3] at h
 | x::l,n,i,h=>by
  rw[l3] at h;simp only[List.length_cons];split at h
  ·have:=Lw l (n+1) i h;omega
  ·rcases List.mem_cons.1 h with h|h
   ·omega
   ·have:=Lw l (n+1) i h;omega
theorem Tw : ∀(l:List eb) (n:Nat),(l3 l n).length<=l.length
 | [],n=>by simp[l3]
 | x::l,n=>by rw[l3];have:=Tw l (n+1);split<;>simp only[List.length_cons]<;>omega
theorem ack {l:List eb}{n:Nat}{x:eb}(h:l[n]? = some x)(m:Nat):l3 (l.drop n) m=if x.mv then l3 (l.drop (n+1)) (m+1) else m::l3 (l.drop (n+1)) (m+1):=by rw[Tm h,l3]
theorem S0 {f:Int×ar->Option ((Int×ar)⊕ar)}(iG:List eb)(tJ:iG.length<=1000)
 (h : ∀(n:Nat) acc x,iG[n]? = some x->f ((n:Int),acc)=if x.mv=true then some (.inl (R ((n:Int)+1),acc)) else if (acc++[(n:Int)]).length*8<=140737488355328 then some (.inl (R ((n:Int)+1),acc++[(n:Int)])) else none)
 (he : ∀acc,f ((iG.length:Int),acc)=some (.inr acc)):iter f ((0:Int),[])=some ((l3 iG 0).map (fun n:Nat=>(n:Int))):=by
 obtain⟨s,h1,o⟩:=ib (fun (n:Nat) (acc:ar)=>((n:Int),acc)) iG.length (fun n acc=>acc++(l3 (iG.drop n) n).map (fun n:Nat=>(n:Int))=(l3 iG 0).map (fun n:Nat=>(n:Int))/\acc.length<=n) (fun acc=>acc) (f:=f) (fun n aS acc cP=>by
  obtain⟨cP,aX⟩:=cP;have ab:=dz aS;rw[ack ab] at cP;rw[h n acc _ ab,pi (by omega)];by_cases c:iG[n].mv=true
  ·rw[dw c] at cP ⊢;exact⟨_,rfl,cP,by omega⟩
  ·rw[dy c] at cP ⊢;rw[dw (by simp only[dF,List.length_cons,List.length_nil];omega)];refine⟨_,rfl,?_,by simp only[dF,List.length_cons,List.length_nil];omega⟩;rw[List.append_assoc];exact cP) (fun acc _=>he acc) [] ⟨by rw[List.drop_zero];rfl,by simp⟩
 obtain⟨o,-⟩:=o;rw[List.drop_length] at o;simp only[l3,List.map_nil,List.append_nil] at o;subst o;exact h1
theorem K6 (s:dg)(tJ:s.cp.length<=1000):tT s=some ((l3 s.cp 0).map (fun n:Nat=>(n:Int))):=by
 unfold tT QG
 rw[f9,S0 s.cp tJ (fun n acc x ab=>by
  have aS:=gB ab;unfold C2;exact dv (by omega) (bx (by omega) (aD (gt rfl ab) rfl))) (fun acc=>by
  unfold C2;exact en (by omega) rfl)]
 rfl
theorem Rv (s:dg)(tJ:s.cp.length<=1000):zP s=some ((l3 s.cp 0).map (fun n:Nat=>(n:Int))):=by
 unfold zP Oo
 rw[f9,S0 s.cp tJ (fun n acc x ab=>by
  have aS:=gB ab;unfold CP;exact dv (by omega) (bx (by omega) (aD (gt rfl ab) rfl))) (fun acc=>by
  unfold CP;exact en (by omega) rfl)]
 rfl
def hlen:bS->Nat
 | none=>0
 | some (_,c)=>c
def eu (x:Rat):Int×Int:=(x.num,(x.den:Int))
def eW (x:Rat):Prop:=(x.num.natAbs:Int)<B 24/\(x.den:Int)<B 24
def cc (x:Rat):aE:=mk (eu x)
instance ajx (x:Rat):Decidable (eW x):=by unfold eW;infer_instance
theorem eW.df {x:Rat}(h:eW x):Fr (eu x):=⟨by have:=x.den_pos;simp only[eu];omega,by simp only[eu];rw[Int.gcd,Int.natAbs_natCast];exact x.reduced,h.1,h.2⟩
theorem aeO {n d:Int}(bG:0<d):low n d=if eW (Rat.divInt n d) then some (eu (Rat.divInt n d)) else none:=by
 have e1:(Rat.divInt n d).num=n / (Int.gcd n d:Int):=by rw[Rat.num_divInt,Int.sign_eq_one_of_pos bG,Int.one_mul,Int.gcd_comm]
 have aB:((Rat.divInt n d).den:Int)=d / (Int.gcd n d:Int):=by rw[Rat.den_divInt,dy (by omega),Int.gcd_comm];rw[Int.natCast_ediv,Int.natAbs_of_nonneg (by omega)]
 have bP:eW (Rat.divInt n d)↔fits ((n / (Int.gcd n d:Int)).natAbs:Int)/\fits (d / (Int.gcd n d:Int)):=by unfold eW fits;rw[e1,aB]
 unfold low;by_cases c:eW (Rat.divInt n d)
 ·rw[dw c,dw (bP.1 c)];unfold eu;rw[e1,aB]
 ·rw[dy c,dy (fun x=>c (bP.2 x))]
theorem Lx {n d:Int}{x:Rat}(bG:0<d)(e:(d:Rat)*x=n)(h:eW x):low n d=some (eu x):=by
 have rR:(d:Rat)≠0:=fun c=>by have:d=0:=Rat.intCast_inj.1 (by rw[c];rfl);omega
 have:x=Rat.divInt n d:=by rw[Rat.divInt_eq_div,<- e];grind
 rw[aeO bG,<- this,dw h]
theorem uc (x:Rat):((x.den:Int):Rat)*x=((x.num:Int):Rat):=by
 have h:x=(x.num:Rat) / ((x.den:Int):Rat):=by rw[<- Rat.divInt_eq_div,Rat.num_divInt_den]
 have bG:((x.den:Int):Rat)≠0:=fun c=>by have:(x.den:Int)=0:=Rat.intCast_inj.1 (by rw[c];rfl);have:=x.den_pos;omega
 conv=>lhs;rhs;rw[h]
 grind
theorem UJ {x y:Rat}(ab:eW x)(a1:eW y)(h:eW (x*y)):uT (cc x) (cc y)=some (cc (x*y)):=by unfold cc;rw[ac2 ab.df a1.df,Lx (x:=x*y) (Int.mul_pos ab.df.pos a1.df.pos) ?_ h];rfl;have h1:=uc x;have o:=uc y;simp only[eu,dN];grind
theorem Ma {x y:Rat}(ab:eW x)(a1:eW y)(h:eW (x+y)):ta (cc x) (cc y)=some (cc (x+y)):=by unfold cc;rw[ade ab.df a1.df,Lx (x:=x+y) (Int.mul_pos ab.df.pos a1.df.pos) ?_ h];rfl;have h1:=uc x;have o:=uc y;simp only[eu,dN,Rat.intCast_add];grind
theorem eW.neg {x:Rat}(h:eW x):eW (-x):=by unfold eW at h ⊢;rw[Rat.neg_num,Rat.neg_den,Int.natAbs_neg];exact h
theorem EE {x:Rat}(ab:eW x):ss (cc x)=some (cc (-x)):=by unfold cc;rw[adb ab.df];simp only[eu,Rat.neg_num,Rat.neg_den]
theorem aec {p:Int×Int}(h:Fr p):qV (mk p)=some true:=by
 have I5:(L p.1.natAbs).length<=24:=(h4 (by omega)).2 h.num;have FP:(L p.2).length<=24:=(h4 (by have:=h.pos;omega)).2 h.den;have ah:=h.pos;obtain⟨bX,gI,gS⟩:=Hd (a:=L p.1.natAbs) (by omega);obtain⟨aP,i2,j9⟩:=Hd (a:=L p.2) (by omega);have h1:bX=true:=gS.2 ⟨iy _,by omega⟩;have o:aP=true:=j9.2 ⟨iy _,by omega⟩;subst h1;subst o;have bG:(L p.2)≠[]:=fun c=>by have:=sK.1 c;omega
 have I7:=List.length_pos_iff.mpr bG
 have e1:xx (mk p).dl=some true:=by
  unfold xx;show (tW (L p.1.natAbs)).bind _=_;rw[gI];simp only[dA,if_true,fX];show (if decide (p.1<0)=true then some (decide ((0:Int)<(L p.1.natAbs).length)) else some true)=_;by_cases c:p.1<0
  ·rw[dw (by simpa using c)];have:L p.1.natAbs≠[]:=fun c=>(by have:=sK.1 c;omega);have:=List.length_pos_iff.mpr this;rw[decide_eq_true (by omega)]
  ·rw[dy (by simpa using c)]
 unfold qV;rw[e1];simp only[dC,dA,if_true,fX];show (tW (L p.2)).bind _=_;rw[i2];simp only[dA,if_true];rw[show (mk p).eO=L p.2 from rfl,show (mk p).dl.b8=L p.1.natAbs from rfl];rw[dy (by simp[bG]),dy (by simp;omega),dy (by simp;omega)];rw[L3 (iy _) (iy _) (by omega) (by omega),ek (by omega),ek (by omega),HR (by omega),h.Ny];simp only[dA];rw[BT (by omega)];rfl
theorem Mn {x:Rat}(ab:eW x):qV (cc x)=some true:=aec ab.df
def jw (x:Rat):Int:=if x=0 then 0 else if x<0 then -1 else 1
theorem o9 {x:Rat}(ab:eW x):mr (cc x)=some (jw x):=by
 unfold mr;rw[Mn ab];simp only[dC,dA,if_true,fX];show (if (((L (eu x).1.natAbs).length:Int) == 0)=true then some 0 else if decide ((eu x).1<0)=true then some (-1) else some 1)=_;have e:((L (eu x).1.natAbs).length:Int)=0↔x.num=0:=by rw[Ce (by omega)];simp only[eu];omega
 unfold jw;by_cases h0:x=0
 ·rw[dw h0,dw];rw[beq_iff_eq,e,Rat.num_eq_zero];exact h0
 ·rw[dy h0,dy (by rw[beq_iff_eq,e,Rat.num_eq_zero];exact h0)]
  by_cases h1:x<0
  ·have o : ¬0<=x:=(by grind);have U : ¬0<=x.num:=fun c=>o (Rat.num_nonneg.1 c);rw[dw h1,dw (decide_eq_true (show (eu x).1<0 by simp only[eu];omega))]
  ·have o:0<=x:=(by grind);have U:0<=x.num:=Rat.num_nonneg.2 o;rw[dy h1,dy (fun c=>by have:=of_decide_eq_true c;simp only[eu] at this;omega)]
theorem afu {x y:Rat}(ab:eW x)(a1:eW y):xF (cc x) (cc y)=some (if x<y then -1 else if y<x then 1 else 0):=by unfold cc;rw[ac4 ab.df a1.df];unfold lO;simp only[eu,<- Rat.lt_iff]
theorem UK {x y:Rat}(ab:eW x)(a1:eW y)(h0:y≠0)(h:eW (x / y)):xE (cc x) (cc y)=some (cc (x / y)):=by
 have h1:=ab.df.pR;have o:=ab.df.po;have U:=a1.df.pR;have ak:=a1.df.po;have ax:=ab.df.pos;have aW:(0:Int)<(eu y).1.natAbs:=by have:(eu y).1≠0:=fun c=>h0 (Rat.num_eq_zero.1 c);omega
 have bb:=wi (x:=(eu x).1.natAbs) (y:=(eu y).2) (by omega) (by have:=a1.df.pos;omega) ab.df.num a1.df.den;have bd:=wi (x:=(eu x).2) (y:=(eu y).1.natAbs) (by omega) (by omega) ab.df.den a1.df.num;have e1:i6 (L (eu x).1.natAbs) (L (eu y).2)=some (L (((eu x).1.natAbs:Int)*(eu y).2)):=by rw[mul_eq (hI _) (hI _) (by omega) (by omega),ek (by omega),ek (by have:=a1.df.pos;omega)]
 have aB:i6 (L (eu x).2) (L (eu y).1.natAbs)=some (L ((eu x).2*((eu y).1.natAbs:Int))):=by rw[mul_eq (hI _) (hI _) (by omega) (by omega),ek (by omega),ek (by omega)]
 unfold xE;rw[Mn ab,Mn a1];simp only[dC,dA,if_true];show (i6 (L (eu x).1.natAbs) (L (eu y).2)).bind _=_;rw[e1];simp only[dA];show (i6 (L (eu x).2) (L (eu y).1.natAbs)).bind _=_;rw[aB];simp only[dA];rw[Lg (Int.mul_nonneg (by omega) (by have:=a1.df.pos;omega)) (Int.mul_pos ax aW) (by omega) (by omega)];simp only[dA];rw[Lx (x:=x / y) (Int.mul_pos ax aW) ?_ h];rfl;have d1:=uc x;have d2:=uc y
 have bP:eM (!((cc x).dl.cz == (cc y).dl.cz)) (((eu x).1.natAbs:Int)*(eu y).2)=(if y<0 then -1 else 1)*((eu x).1*(eu y).2):=by
  show eM (!(decide ((eu x).1<0) == decide ((eu y).1<0))) _=_;have aS:=Rat.num_nonneg (q:=y);have hm:0<=((eu x).1.natAbs:Int)*(eu y).2:=Int.mul_nonneg (by omega) (by have:=a1.df.pos;omega)
  have F1:y<0↔(eu y).1<0:=by
   have U:=Rat.num_nonneg (q:=y);simp only[eu];constructor
   ·intro c;have : ¬0<=y:=(by grind);have ak : ¬0<=y.num:=fun c=>this (U.1 c);omega
   ·intro c;have : ¬0<=y:=fun eJ=>(by have:=U.2 eJ;omega);grind
  by_cases bo:(eu x).1<0<;>by_cases cq:(eu y).1<0
  ·rw[dw (F1.2 cq),decide_eq_true bo,decide_eq_true cq];simp only[eM,BEq.rfl,Bool.not_true,Bool.false_eq_true,if_false];rw[show ((eu x).1.natAbs:Int) = -(eu x).1 by omega];grind
  ·rw[dy (fun c=>cq (F1.1 c)),decide_eq_true bo,decide_eq_false cq];simp only[eM,show (!(true == false))=true from rfl,if_true];rw[show ((eu x).1.natAbs:Int) = -(eu x).1 by omega];grind
  ·rw[dw (F1.2 cq),decide_eq_false bo,decide_eq_true cq];simp only[eM,show (!(false == true))=true from rfl,if_true];rw[show ((eu x).1.natAbs:Int)=(eu x).1 by omega];grind
  ·rw[dy (fun c=>cq (F1.1 c)),decide_eq_false bo,decide_eq_false cq];simp only[eM,BEq.rfl,Bool.not_true,Bool.false_eq_true,if_false];rw[show ((eu x).1.natAbs:Int)=(eu x).1 by omega];grind
 rw[bP]
 have dd:(((eu y).1.natAbs:Int):Rat)=(if y<0 then -1 else 1)*(((eu y).1:Int):Rat):=by
  have aS:=Rat.num_nonneg (q:=y);by_cases c:y<0
  ·have:y.num<0:=by have : ¬0<=y.num:=fun h=>by have:=aS.1 h;grind
                    omega
   rw[dw c,show ((eu y).1.natAbs:Int) = -(eu y).1 by simp only[eu];omega,Rat.intCast_neg];grind
  ·have:0<=y.num:=aS.2 (by grind);rw[dy c,show ((eu y).1.natAbs:Int)=(eu y).1 by simp only[eu];omega];grind
 rw[dN,dd,dN,dN];simp only[eu] at *;split<;>grind
theorem rF {n:Int}(h:nU n):ob n=some (cc (n:Rat)):=by rw[aaY h];unfold cc eu;rw[Rat.num_intCast,Rat.den_intCast];rfl
theorem LN {n:Int}(h:nU n):eW (n:Rat):=by have:=aft h;unfold eW;rw[Rat.num_intCast,Rat.den_intCast];exact⟨this.num,this.den⟩
theorem Tx {n d:Int}{x:Rat}(h0:d≠0)(e:(d:Rat)*x=n)(aS:(n.natAbs:Int)<B 24)(bG:(d.natAbs:Int)<B 24):eW x:=by
 have rR:(d:Rat)≠0:=fun c=>h0 (Rat.intCast_inj.1 (by rw[c];rfl));have ab:x=Rat.divInt n d:=by rw[Rat.divInt_eq_div,<- e];grind
 rw[ab];unfold eW;rw[Rat.num_divInt,Rat.den_divInt,dy h0];constructor
 ·have h1:(d.sign*n / (d.gcd n:Int)).natAbs<=(d.sign*n).natAbs:=Int.natAbs_ediv_le_natAbs _ _;have o:(d.sign*n).natAbs<=n.natAbs:=(by rw[Int.natAbs_mul];have:d.sign.natAbs<=1:=(by rw[Int.natAbs_sign];split<;>omega);exact Nat.le_trans (dL _ this) (by omega));omega
 ·have:d.natAbs / d.gcd n<=d.natAbs:=Nat.div_le_self _ _;omega
theorem oL {x:Rat}:jw x=0↔x=0:=by
 unfold jw;split
 ·simp_all
 ·split<;>simp_all
theorem sy {x:Rat}:0<jw x↔0<x:=by
 unfold jw;split
 ·rename_i h;rw[h];simp
 ·split
  ·rename_i h1 o;constructor
   ·intro h;omega
   ·intro h;grind
  ·rename_i h1 o;constructor
   ·intro h;grind
   ·intro h;omega
theorem aed (n:Nat)(aS:n<=1000)(k:Nat)(aY:k<n)(a b:Nat->Rat)(bI:∀j,j<n->eW (a j))(aU:∀j,j<n->eW (b j))(hm:∀j,j<n->eW (-(a k)*b j))(bK:∀j,j<n->eW (a j-a k*b j)):
 Dh k 0 n 0 n (aN n fun j=>cc (a j)) (aN n fun j=>cc (b j))=some (aN n fun j=>cc (a j-a k*b j)):=by
 unfold Dh;refine bx (by omega) (aD (x:=cc (a k)) (by rw[dx];exact hi aY) (aD (o9 (bI k aY)) ?_));refine qb (fun h=> ?_) (fun h=> ?_)
 ·have h0:=oL.1 (by simpa using h);congr 1;exact eF fun j _=>by rw[h0];congr 1;grind
 ·refine aD (EE (bI k aY)) ?_
  obtain⟨s,e1,aB⟩:=ib (f:=fun w:Int×List aE=>z6 0 n 0 n ((n:Nat):Int) (aN n fun j=>cc (b j)) (cc (-(a k))).dl.cz (cc (-(a k))).dl.b8 (cc (-(a k))).eO w.1 w.2)
   (fun (i:Nat) (_:Unit)=>((i:Int),aN n fun j=>if j<i then cc (a j-a k*b j) else cc (a j))) n (fun _ _=>True) (fun _=>aN n fun j=>cc (a j-a k*b j))
   (fun i ad _ _=>by
     refine⟨(),?_,trivial⟩;unfold z6;refine dv (by simp only;omega) (bx (by simp only;omega) (aD (x:=cc (b i)) (by simp only;rw[dx];exact hi ad) (aD (o9 (aU i ad)) ?_)));refine qb (fun h=> ?_) (fun h=> ?_)
     ·refine bx (by simp only;omega) (aD (x:=cc (a i)) (by simp only;rw[dx,hi ad,dy (by omega)]) ?_)
      refine aD (UJ (bI k aY).neg (aU i ad) (hm i ad)) (aD (Ma (bI i ad) (hm i ad) (by have:=bK i ad;rw[show a i + -(a k)*b i=a i-a k*b i by grind];exact this)) ?_);refine bx (by simp only;rw[cj];omega) ?_;simp only;rw[fl (by omega),dx,dG,kK];congr 3
      exact eF fun j _=>by
       by_cases c:j=i
       ·subst c;rw[dw rfl,dw (by omega)];congr 1;grind
       ·rw[dy c]
        by_cases cq:j<i
        ·rw[dw cq,dw (by omega)]
        ·rw[dy cq,dy (by omega)]
     ·have h0:b i=0:=oL.1 (by simpa using h)
      simp only;rw[fl (by omega)];congr 3
      exact eF fun j _=>by
       by_cases c:j=i
       ·subst c;rw[dy (by omega),dw (by omega),h0];congr 1;grind
       ·by_cases cq:j<i
        ·rw[dw cq,dw (by omega)]
        ·rw[dy cq,dy (by omega)])
   (fun _ _=>by unfold z6;refine en (by simp) ?_;simp only;congr 2;exact eF fun j av=>dw av) () trivial
  refine aD (x:=aN n fun j=>cc (a j-a k*b j)) ?_ rfl;unfold PO;have bP:(aN n fun j=>if j<0 then cc (a j-a k*b j) else cc (a j))=aN n fun j=>cc (a j):=eF fun j _=>dy (by omega);rw[bP] at e1;exact e1
theorem S1 (n:Nat)(aS:n<=1000)(k:Nat)(aY:k<n)(a b:Nat->Rat)(bI:∀j,j<n->eW (a j))(aU:∀j,j<n->eW (b j))(hm:∀j,j<n->eW (-(a k)*b j))(bK:∀j,j<n->eW (a j-a k*b j)):
 xt k 0 n (aN n fun j=>cc (a j)) (aN n fun j=>cc (b j))=some (aN n fun j=>cc (a j-a k*b j)):=by
 unfold xt;rw[cj];refine bx (by omega) (aD (x:=cc (a k)) (by rw[dx];exact hi aY) (aD (o9 (bI k aY)) ?_));refine qb (fun h=> ?_) (fun h=> ?_)
 ·have h0:=oL.1 (by simpa using h);congr 1;exact eF fun j _=>by rw[h0];congr 1;grind
 ·refine aD (EE (bI k aY)) ?_
  obtain⟨s,e1,aB⟩:=ib (f:=fun w:Int×List aE=>vP 0 n ((n:Nat):Int) (aN n fun j=>cc (b j)) (cc (-(a k))).dl.cz (cc (-(a k))).dl.b8 (cc (-(a k))).eO w.1 w.2)
   (fun (i:Nat) (_:Unit)=>((i:Int),aN n fun j=>if j<i then cc (a j-a k*b j) else cc (a j))) n (fun _ _=>True) (fun _=>aN n fun j=>cc (a j-a k*b j))
   (fun i ad _ _=>by
     refine⟨(),?_,trivial⟩;unfold vP;refine dv (by simp only;omega) (bx (by simp only;omega) (aD (x:=cc (b i)) (by simp only;rw[dx];exact hi ad) (aD (o9 (aU i ad)) ?_)));refine qb (fun h=> ?_) (fun h=> ?_)
     ·refine bx (by simp only;rw[cj];omega) (aD (x:=cc (a i)) (by simp only;rw[dx,hi ad,dy (by omega)]) ?_)
      refine aD (UJ (bI k aY).neg (aU i ad) (hm i ad)) (aD (Ma (bI i ad) (hm i ad) (by have:=bK i ad;rw[show a i + -(a k)*b i=a i-a k*b i by grind];exact this)) ?_);refine bx (by simp only;rw[cj];omega) ?_;simp only;rw[fl (by omega),dx,dG,kK];congr 3
      exact eF fun j _=>by
       by_cases c:j=i
       ·subst c;rw[dw rfl,dw (by omega)];congr 1;grind
       ·rw[dy c]
        by_cases cq:j<i
        ·rw[dw cq,dw (by omega)]
        ·rw[dy cq,dy (by omega)]
     ·have h0:b i=0:=oL.1 (by simpa using h)
      simp only;rw[fl (by omega)];congr 3
      exact eF fun j _=>by
       by_cases c:j=i
       ·subst c;rw[dy (by omega),dw (by omega),h0];congr 1;grind
       ·by_cases cq:j<i
        ·rw[dw cq,dw (by omega)]
        ·rw[dy cq,dy (by omega)])
   (fun _ _=>by unfold vP;refine en (by simp) ?_;simp only;congr 2;exact eF fun j av=>dw av) () trivial
  refine aD (x:=aN n fun j=>cc (a j-a k*b j)) ?_ rfl;unfold JP;have bP:(aN n fun j=>if j<0 then cc (a j-a k*b j) else cc (a j))=aN n fun j=>cc (a j):=eF fun j _=>dy (by omega);rw[bP] at e1;exact e1
def ir (m N:Nat):List bS:=aN m fun i=>some (i,N+1)
def cS (m:Nat)(t:bW):ar:=aN m fun i=>((t.B i:Nat):Int)
def gY (N:Nat)(t:bW)(i:Nat):List aE:=aN (N+1) fun j=>cc (t.T i j)
def gi (m N:Nat)(t:bW):List (List aE):=aN m (gY N t)
def gZ (N:Nat)(c:Nat->Rat):List aE:=aN (N+1) fun j=>cc (c j)
structure Iy (m N:Nat) (t:bW) (c:Nat->Rat) (r k:Nat):Prop where
 T : ∀i,i<m-> ∀j,j<=N->eW (t.T i j)
 h3 : ∀i,i<m-> ∀j,j<=N->eW ((t.cg r k).T i j)
 M : ∀i,i<m->i≠r-> ∀j,j<=N->eW (-(t.T i k)*(t.T r j / t.T r k))
 a3 : ∀j,j<=N->eW (c j)
 uu : ∀j,j<=N->eW (c j-c k*(t.T r j / t.T r k))
 hm : ∀j,j<=N->eW (-(c k)*(t.T r j / t.T r k))
theorem Ty {m N:Nat}(hm:m<=1000)(fQ:N<1000){t:bW}{c:Nat->Rat}{r k:Nat}(ai:r<m)(aY:k<=N)(ah:t.T r k≠0)(h:Iy m N t c r k)(mG:Int):
 xv r k mG (ir m N) (cS m t) (gZ N c) (gi m N t)=some (cS m (t.cg r k),gZ N (fun j=>c j-c k*(t.T r j / t.T r k)),gi m N (t.cg r k)):=by
 have tK : ∀j,(t.cg r k).T r j=t.T r j / t.T r k:=fun j=>by simp[bW.cg]
 have vN : ∀i j,i≠r->(t.cg r k).T i j=t.T i j-t.T i k*(t.T r j / t.T r k):=fun i j ad=>by simp[bW.cg,ad]
 unfold xv;refine bx (by unfold ir;rw[cj];omega) (aD (x:=some (r,N+1)) (by rw[dx];exact hi ai) (aD (x:=(r,N+1)) rfl (aD (x:=gY N t r) (f8 ai) ?_)));refine bx (by simp only;omega) (aD (x:=cc (t.T r k)) (by rw[dx];exact hi (by omega)) ?_)
 obtain⟨s1,e1,-⟩:=ib (f:=fun w:Int×List (List aE)=>z7 r k (((N+1:Nat):Nat):Int) mG (ir m N) (cS m t) (gZ N c) (cc (t.T r k)).dl.cz (cc (t.T r k)).dl.b8 (cc (t.T r k)).eO w.1 w.2)
  (fun (i:Nat) (_:Unit)=>((i:Int),aN m fun fk=>if fk=r then aN (N+1) (fun j=>if j<i then cc (t.T r j / t.T r k) else cc (t.T r j)) else gY N t fk)) (N+1) (fun _ _=>True)
  (fun _=>aN m fun fk=>if fk=r then gY N (t.cg r k) r else gY N t fk)
  (fun i ad _ _=>by
    refine⟨(),?_,trivial⟩;unfold z7;refine dv (by simp only;omega) (bx (by unfold ir;rw[cj];omega) (aD (x:=some (r,N+1)) (by rw[dx];exact hi ai) (aD (x:=(r,N+1)) rfl ?_)));refine aD (x:=aN (N+1) (fun j=>if j<i then cc (t.T r j / t.T r k) else cc (t.T r j))) (by simp only;rw[f8 ai,dw rfl]) ?_;refine bx (by simp only;omega) (aD (x:=cc (t.T r i)) (by simp only;rw[dx,hi ad,dy (by omega)]) ?_);refine aD (UK (h.T r ai i (by omega)) (h.T r ai k aY) ah (by have:=h.h3 r ai i (by omega);rw[tK] at this;exact this)) ?_;simp only;rw[fl (by omega),dx,dG,kK,kK];congr 3;refine eF fun fk _=> ?_;by_cases bo:fk=r
    ·rw[dw bo,dw bo]
     exact eF fun j _=>by
      by_cases cq:j=i
      ·subst cq;rw[dw rfl,dw (by omega)]
      ·rw[dy cq]
       by_cases kx:j<i
       ·rw[dw kx,dw (by omega)]
       ·rw[dy kx,dy (by omega)]
    ·rw[dy bo,dy bo,dy bo])
  (fun _ _=>by
    unfold z7;refine en (by simp) ?_;simp only;congr 2;refine eF fun fk _=> ?_;by_cases bo:fk=r
    ·rw[dw bo,dw bo];exact eF fun j av=>by rw[dw av,tK]
    ·rw[dy bo,dy bo]) () trivial
 refine aD (x:=aN m fun fk=>if fk=r then gY N (t.cg r k) r else gY N t fk) ?_ ?_
 ·unfold PP
  have bP:(aN m fun fk=>if fk=r then aN (N+1) (fun j=>if j<0 then cc (t.T r j / t.T r k) else cc (t.T r j)) else gY N t fk)=gi m N t:=eF fun fk _=>by
   by_cases bo:fk=r
   ·rw[dw bo,bo];exact eF fun j _=>dy (by omega)
   ·rw[dy bo]
  rw[bP] at e1;exact e1
 obtain⟨s2,aB,-⟩:=ib (f:=fun w:Int×List (List aE)=>z8 r k ((m:Nat):Int) mG (ir m N) (cS m t) (gZ N c) w.1 w.2)
  (fun (i:Nat) (_:Unit)=>((i:Int),aN m fun fk=>if fk=r\/fk<i then gY N (t.cg r k) fk else gY N t fk)) m (fun _ _=>True)
  (fun _=>gi m N (t.cg r k))
  (fun i ad _ _=>by
    refine⟨(),?_,trivial⟩;unfold z8;refine dv (by simp only;omega) (qb (fun c6=> ?_) (fun Ci=> ?_))
    ·have CG:i≠r:=by intro c;subst c;simp at c6
     refine bx (by unfold ir;rw[cj];simp only;omega) (aD (x:=some (i,N+1)) (by simp only;rw[dx];exact hi ad) ?_);refine bx (by unfold ir;rw[cj];omega) (aD (x:=some (r,N+1)) (by rw[dx];exact hi ai) ?_);refine aD (x:=(i,N+1)) rfl (aD (x:=(r,N+1)) rfl ?_);refine aD (x:=gY N t i) (by simp only;rw[f8 ad,dy (by omega)]) (aD (x:=gY N (t.cg r k) r) (by simp only;rw[f8 ai,dw (.inl rfl)]) ?_);refine bx (by simp only;omega) ?_;refine aD (aed (N+1) (by omega) k (by omega) (fun j=>t.T i j) (fun j=>(t.cg r k).T r j) (fun j av=>h.T i ad j (by omega)) (fun j av=>h.h3 r ai j (by omega)) (fun j av=>by rw[tK];exact h.M i ad CG j (by omega)) (fun j av=>by have:=h.h3 i ad j (by omega);rw[vN i j CG] at this;rw[tK];exact this)) ?_;simp only;rw[fl (by omega),kK,kK];congr 3;refine eF fun fk _=> ?_;by_cases bo:fk=r
     ·rw[dw bo,dw (.inl bo),bo]
     ·rw[dy bo]
      by_cases cq:fk=i
      ·subst cq;rw[dw rfl,dw (.inr (by omega))];exact eF fun j _=>by rw[vN fk j CG,tK]
      ·rw[dy cq]
       by_cases kx:fk<i
       ·rw[dw (.inr kx),dw (.inr (by omega))]
       ·rw[dy (by omega),dy (by omega)]
    ·have CG:i=r:=by simp at Ci;omega
     simp only;rw[fl (by omega)];congr 3;refine eF fun fk _=> ?_;by_cases bo:fk=r\/fk<i
     ·rw[dw bo,dw (by omega)]
     ·rw[dy bo,dy (by omega)])
  (fun _ _=>by unfold z8;refine en (by simp) ?_;simp only;congr 2;exact eF fun fk lS=>dw (.inr lS)) () trivial
 refine aD (x:=gi m N (t.cg r k)) ?_ ?_
 ·unfold PQ
  rw[show ((ir m N).length:Nat)=m from cj ..]
  have bP:(aN m fun fk=>if fk=r\/fk<0 then gY N (t.cg r k) fk else gY N t fk)=aN m fun fk=>if fk=r then gY N (t.cg r k) r else gY N t fk:=eF fun fk _=>by
   by_cases bo:fk=r
   ·rw[dw (.inl bo),dw bo,bo]
   ·rw[dy (by omega),dy bo]
  rw[bP] at aB;exact aB
 refine aD (x:=gY N (t.cg r k) r) (f8 ai) (bx (by simp only;omega) ?_);refine aD (S1 (N+1) (by omega) k (by omega) c (fun j=>(t.cg r k).T r j) (fun j av=>h.a3 j (by omega)) (fun j av=>h.h3 r ai j (by omega)) (fun j av=>by rw[tK];exact h.hm j (by omega)) (fun j av=>by rw[tK];exact h.uu j (by omega))) ?_;refine bx (by unfold gZ;rw[cj,cj]) (bx (by unfold cS;rw[cj];omega) (bx (by unfold cS;rw[cj,dx];omega) ?_));congr 1;rw[dx,dG];congr 1
 ·unfold cS;rw[kK];exact eF fun i _=>by simp only[bW.cg];split<;>rfl
 ·congr 1
  ·exact eF fun j _=>by rw[tK]
  ·unfold gi
   rw[kK]
   exact eF fun i _=>by
    split
    ·rename_i bo;rw[bo]
    ·rfl
theorem aee {m:Nat}(hm:m<=1000)(t:bW)(mG:Int)(rows:List (List aE))(cost:List aE)(j:Nat): ∃b,DB ⟨mG,rows,cS m t,cost⟩ (j:Int)=some b/\(b=true↔ ∃i,i<m/\t.B i=j):=by
 unfold DB
 obtain⟨r,e,h⟩:=rz (f:=fun w:Int=>CZ j (cS m t) ((m:Nat):Int) w) (fun (i:Nat) (_:Unit)=>(i:Int)) m (fun i _=> ∀k,k<i->t.B k≠j) (fun r=>(r = .inr ()/\ ∃i,i<m/\t.B i=j)\/(r = .inl ()/\ ¬∃i,i<m/\t.B i=j))
  (fun i ad _ cP=>by
    unfold CZ;by_cases c:t.B i=j
    ·right;refine⟨_,dv (by omega) (bx (by unfold cS;rw[cj];omega) (aD (x:=((t.B i:Nat):Int)) (by rw[dx];exact f8 ad) (fr (by simp[c]) rfl))),.inl ⟨rfl,i,ad,c⟩⟩
    ·left
     refine⟨(),dv (by omega) (bx (by unfold cS;rw[cj];omega) (aD (x:=((t.B i:Nat):Int)) (by rw[dx];exact f8 ad) (gn (by simp;omega) (by rw[fl (by omega)])))),fun k aY=> ?_⟩;by_cases e:k=i
     ·rw[e];exact c
     ·exact cP k (by omega))
  (fun _ cP=>⟨_,en (by omega) rfl,.inr ⟨rfl,fun ⟨i,ad,e⟩=>cP i ad e⟩⟩) () (fun k aY=>by omega)
 have e2:Ka j (cS m t) (len_ eI (cS m t)) 0=some r:=by unfold Ka;rw[fX,show (cS m t).length=m from cj ..];exact e
 rcases h with ⟨rfl,h⟩|⟨rfl,h⟩
 ·exact⟨true,aD e2 rfl,by simp[h]⟩
 ·exact⟨false,aD e2 rfl,by simp[h]⟩
theorem aeP {N:Nat}(fQ:N<1000)(mG:Int)(rows:List (List aE))(ju:ar)(c:Nat->Rat){j:Nat}(av:j<=N)(a3:eW (c j)):uQ ⟨mG,rows,ju,gZ N c⟩ (j:Int) false=some (jw (c j)):=by
 unfold uQ;refine bx (by unfold gZ;rw[cj];omega) (aD (x:=cc (c j)) (by rw[dx];exact f8 (by omega)) (aD (o9 a3) ?_));refine aD (x:= .inl (jw (c j))) ?_ rfl;unfold QL;rw[iter];have:xg mG rows ju (gZ N c) (j:Int) false (jw (c j)) 0=some (.inr (.inl (jw (c j)))):=by unfold xg;exact qb (fun _=>rfl) (fun _=>rfl)
 simp only;rw[this];rfl
theorem Hz {x y z w:Rat}(a1:0<y)(hw:0<w):(x / y<=z / w↔x*w<=z*y)/\(x / y=z / w↔x*w=z*y):=by
 have e1:x*w=(x / y)*(y*w):=by grind
 have aB:z*y=(z / w)*(y*w):=by grind
 have ah:0<y*w:=Rat.mul_pos a1 hw;constructor
 ·rw[e1,aB]
  constructor
  ·intro h;exact Rat.mul_le_mul_of_nonneg_right h (Rat.le_of_lt ah)
  ·intro h;apply Classical.byContradiction;intro c;have:z / w<x / y:=(by grind);have:=Rat.mul_lt_mul_of_pos_right this ah;grind
 ·rw[e1,aB]
  constructor
  ·intro h;rw[h]
  ·intro h;have c6:y*w≠0:=(by grind);grind
def HT (m N:Nat)(t:bW)(j:Nat)(r:Int):Prop :=
 (r = -1/\ ∀i,i<m-> ¬0<t.T i j)\/ ∃b:Nat,r=b/\b<m/\0<t.T b j/\(∀i,i<m->0<t.T i j->t.T b N*t.T i j<=t.T i N*t.T b j)/\(∀i,i<m->0<t.T i j->t.T b N*t.T i j=t.T i N*t.T b j->t.B b<=t.B i)
theorem aef {m N:Nat}(hm:m<=1000)(fQ:N<1000)(t:bW)(mG:Int)(cost:List aE){j:Nat}(av:j<=N)(h2:∀i,i<m-> ∀j,j<=N->eW (t.T i j))(a5:∀i,i<m->0<t.T i j->eW (t.T i N / t.T i j)):
 ∃r,DC ⟨mG,gi m N t,cS m t,cost⟩ (j:Int)=some r/\HT m N t j r:=by
 unfold DC
 obtain⟨r,e,h⟩:=rz (f:=fun w:Int×Int×Bool×ar×ar=>Ag mG (gi m N t) (cS m t) cost j ((m:Nat):Int) w.1 w.2.1 w.2.2.1 w.2.2.2.1 w.2.2.2.2)
  (fun (i:Nat) (s:Int×aE)=>(s.1,(i:Int),s.2.dl.cz,s.2.dl.b8,s.2.eO)) m
  (fun n s=>(s.1 = -1/\ ∀i,i<n-> ¬0<t.T i j)\/ ∃b:Nat,s.1=b/\b<n/\0<t.T b j/\s.2=cc (t.T b N / t.T b j)/\ ∀i,i<n->0<t.T i j->t.T b N / t.T b j<t.T i N / t.T i j\/(t.T b N / t.T b j=t.T i N / t.T i j/\t.B b<=t.B i))
  (fun r=>HT m N t j r)
  (fun n aS s cP=>by
    left;unfold Ag;have g1:0<=((n:Nat):Int)/\((n:Nat):Int)<((gi m N t).length:Nat):=(by unfold gi;rw[cj];omega);have g2:(gi m N t)[((n:Nat):Int).toNat]? = some (gY N t n):=(by rw[dx];exact f8 aS);have g3:0<=((j:Nat):Int)/\((j:Nat):Int)<((gY N t n).length:Nat):=(by unfold gY;rw[cj];omega);have g4:(gY N t n)[((j:Nat):Int).toNat]? = some (cc (t.T n j)):=(by rw[dx];exact f8 (by omega));have jz:R ((n:Int)+1)=((n+1:Nat):Int):=fl (by omega);have wl:R (len_ aO (gY N t n)-1)=(N:Int):=(by rw[f9,show (gY N t n).length=N+1 from cj ..,cV (by omega) (by omega)];omega);by_cases ah:0<t.T n j
    ·have bK : ¬jw (t.T n j)<=0:=by have:=sy.2 ah;omega
     have g5:0<=R (len_ aO (gY N t n)-1)/\R (len_ aO (gY N t n)-1)<((gY N t n).length:Nat):=(by rw[wl];unfold gY;rw[cj];omega);have g6:(gY N t n)[(R (len_ aO (gY N t n)-1)).toNat]? = some (cc (t.T n N)):=(by rw[wl,dx];exact f8 (by omega));have g7:xE (cc (t.T n N)) (cc (t.T n j))=some (cc (t.T n N / t.T n j)):=UK (h2 n aS N (by omega)) (h2 n aS j av) (by grind) (a5 n aS ah);rcases cP with ⟨h1,o⟩|⟨b,h1,aU,kI,o,U⟩
     ·refine⟨((n:Int),cc (t.T n N / t.T n j)),dv (by simp only;omega) (bx g1 (aD g2 (bx g3 (aD g4 (aD (o9 (h2 n aS j av)) (en bK (bx g5 (aD g6 (aD g7 (dv (by simp only;omega) ?_)))))))))),.inr ⟨n,rfl,by omega,ah,rfl,fun i ad jl=> ?_⟩⟩
      ·simp only;rw[jz]
      ·by_cases c:i=n
       ·subst c;exact .inr ⟨rfl,dE _⟩
       ·exact(o i (by omega) jl).elim
     ·have g8:xF (cc (t.T n N / t.T n j)) (⟨(⟨s.2.dl.cz,s.2.dl.b8⟩:bA),s.2.eO⟩:aE)=some (if t.T n N / t.T n j<t.T b N / t.T b j then -1 else if t.T b N / t.T b j<t.T n N / t.T n j then 1 else 0):=by
       have:(⟨(⟨s.2.dl.cz,s.2.dl.b8⟩:bA),s.2.eO⟩:aE)=cc (t.T b N / t.T b j):=o;rw[this];exact afu (a5 n aS ah) (a5 b (by omega) kI)
      by_cases bo:t.T n N / t.T n j<t.T b N / t.T b j
      ·rw[dw bo] at g8
       refine⟨((n:Int),cc (t.T n N / t.T n j)),dv (by simp only;omega) (bx g1 (aD g2 (bx g3 (aD g4 (aD (o9 (h2 n aS j av)) (en bK (bx g5 (aD g6 (aD g7 (en (by simp only;omega) (aD g8 (dv (by omega) ?_)))))))))))),.inr ⟨n,rfl,by omega,ah,rfl,fun i ad jl=> ?_⟩⟩
       ·simp only;rw[jz]
       ·by_cases c:i=n
        ·subst c;exact .inr ⟨rfl,dE _⟩
        ·rcases U i (by omega) jl with h|⟨h,-⟩
         ·left;grind
         ·left;rw[<- h];exact bo
      ·rw[dy bo] at g8
       by_cases cq:t.T b N / t.T b j<t.T n N / t.T n j
       ·rw[dw cq] at g8
        refine⟨s,dv (by simp only;omega) (bx g1 (aD g2 (bx g3 (aD g4 (aD (o9 (h2 n aS j av)) (en bK (bx g5 (aD g6 (aD g7 (en (by simp only;omega) (aD g8 (en (by omega) (gn (by decide) ?_))))))))))))),.inr ⟨b,h1,by omega,kI,o,fun i ad jl=> ?_⟩⟩
        ·simp only;rw[jz]
        ·by_cases c:i=n
         ·subst c;exact .inl cq
         ·exact U i (by omega) jl
       ·rw[dy cq] at g8
        have ND:t.T b N / t.T b j=t.T n N / t.T n j:=(by grind);have I9:0<=((n:Nat):Int)/\((n:Nat):Int)<((cS m t).length:Nat):=(by unfold cS;rw[cj];omega);have Ja:(cS m t)[((n:Nat):Int).toNat]? = some ((t.B n:Nat):Int):=(by rw[dx];exact f8 aS);have Wp:0<=s.1/\s.1<((cS m t).length:Nat):=(by unfold cS;rw[cj];omega);have Wq:(cS m t)[s.1.toNat]? = some ((t.B b:Nat):Int):=(by rw[h1,dx];exact f8 (by omega));by_cases kx:t.B n<t.B b
        ·refine⟨((n:Int),cc (t.T n N / t.T n j)),dv (by simp only;omega) (bx g1 (aD g2 (bx g3 (aD g4 (aD (o9 (h2 n aS j av)) (en bK (bx g5 (aD g6 (aD g7 (en (by simp only;omega) (aD g8 (en (by omega) (fr rfl (bx I9 (aD Ja (bx Wp (aD Wq (dv (by omega) ?_)))))))))))))))))),.inr ⟨n,rfl,by omega,ah,rfl,fun i ad jl=> ?_⟩⟩
         ·simp only;rw[jz]
         ·by_cases c:i=n
          ·subst c;exact .inr ⟨rfl,dE _⟩
          ·rcases U i (by omega) jl with h|⟨h,c0⟩
           ·left;grind
           ·right;exact⟨by grind,by omega⟩
        ·refine⟨s,dv (by simp only;omega) (bx g1 (aD g2 (bx g3 (aD g4 (aD (o9 (h2 n aS j av)) (en bK (bx g5 (aD g6 (aD g7 (en (by simp only;omega) (aD g8 (en (by omega) (fr rfl (bx I9 (aD Ja (bx Wp (aD Wq (en (by omega) ?_)))))))))))))))))),.inr ⟨b,h1,by omega,kI,o,fun i ad jl=> ?_⟩⟩
         ·simp only;rw[jz]
         ·by_cases c:i=n
          ·subst c;exact .inr ⟨ND,by omega⟩
          ·exact U i (by omega) jl
    ·have bK:jw (t.T n j)<=0:=by
      have : ¬0<jw (t.T n j):=fun c=>ah (sy.1 c);omega
     refine⟨s,dv (by simp only;omega) (bx g1 (aD g2 (bx g3 (aD g4 (aD (o9 (h2 n aS j av)) (dv bK ?_)))))),?_⟩
     ·simp only;rw[jz]
     ·rcases cP with ⟨h1,o⟩|⟨b,h1,aU,kI,o,U⟩
      ·exact .inl ⟨h1,fun i ad=>if c:i=n then c▸ah else o i (by omega)⟩
      ·exact .inr ⟨b,h1,by omega,kI,o,fun i ad jl=>if c:i=n then (ah (c▸jl)).elim else U i (by omega) jl⟩)
  (fun s cP=>by
    refine⟨s.1,by unfold Ag;exact en (by simp only;omega) rfl,?_⟩;rcases cP with ⟨h1,o⟩|⟨b,h1,aU,kI,o,U⟩
    ·exact .inl ⟨h1,o⟩
    ·refine .inr ⟨b,h1,aU,kI,fun i ad jl=> ?_,fun i ad jl he=> ?_⟩
     ·rw[<- (Hz kI jl).1]
      rcases U i ad jl with h|⟨h,-⟩
      ·exact Rat.le_of_lt h
      ·rw[h];exact Rat.le_refl
     ·rw[<- (Hz kI jl).2] at he
      rcases U i ad jl with h|⟨-,h⟩
      ·rw[he] at h;grind
      ·exact h) ((-1:Int),(⟨⟨false,[]⟩,[]⟩:aE)) (.inl ⟨rfl,fun i ad=>by omega⟩)
 refine⟨r,aD ?_ rfl,h⟩;unfold Qw;rw[f9,show (gi m N t).length=m from cj ..];exact e
theorem EF {m N:Nat}(t:bW):(ir m N).all (tB (gi m N t))=true:=by
 rw[List.all_eq_true];intro x ab;obtain⟨i,ad,rfl⟩:=HM.1 ab;simp only[tB];have h1:(gi m N t).length=m:=cj ..;have o:(gi m N t).getD i []=gY N t i:=by rw[List.getD_eq_getElem?_getD,show (gi m N t)[i]? = some (gY N t i) from f8 ad];rfl
 rw[h1,o,show (gY N t i).length=N+1 from cj ..];simp[ad]
theorem yo {m N:Nat}(t:bW):(ir m N).map (jJ (gi m N t))=gi m N t:=by unfold ir;rw[TY];exact eF fun i ad=>by have o:(gi m N t).getD i []=gY N t i:=(by rw[List.getD_eq_getElem?_getD,show (gi m N t)[i]? = some (gY N t i) from f8 ad];rfl);simp only[jJ];rw[o];exact List.take_of_length_le (Nat.le_of_eq (cj ..))
theorem aeg {m N:Nat}(hm:m<=1000)(fQ:N<1000)(t:bW)(c:Nat->Rat)(deep:Bool)(G:Nat->Prop)(aiJ:∀j,G j-> ∀i,i<m->t.B i≠j)
 (bK : ∀j,j<N-> ∃g,uQ ⟨N,gi m N t,cS m t,gZ N c⟩ (j:Int) deep=some g/\((∀i,i<m->t.B i≠j)->(0<g↔G j))) :
 ∃r,Kb deep N (ir m N) (cS m t) (gZ N c) (gi m N t) (-1) 0=some r/\((r = -1/\ ∀j,j<N-> ¬G j)\/ ∃s:Nat,r=s/\s<N/\G s/\ ∀j,j<s-> ¬G j):=by
 unfold Kb
 refine rz (f:=fun w:Int×Int=>xe deep N (ir m N) (cS m t) (gZ N c) (gi m N t) w.1 w.2) (fun (i:Nat) (e:Int)=>(e,(i:Int))) N
  (fun n e=>(e = -1/\ ∀j,j<n-> ¬G j)\/ ∃s:Nat,e=s/\s<N/\G s/\ ∀j,j<s-> ¬G j) _ (fun n aS e cP=> ?_) (fun e cP=> ?_) (-1) (.inl ⟨rfl,fun j av=>by omega⟩)
 ·rcases cP with ⟨rfl,h⟩|⟨s,rfl,vF,vu,ah2⟩
  ·left
   obtain⟨b,e1,aB⟩:=aee hm t (N:Int) (gi m N t) (gZ N c) n;obtain⟨g,g1,g2⟩:=bK n aS;unfold xe
   cases b with
   | true =>
    obtain⟨i,ad,IM⟩:=aB.1 rfl;refine⟨-1,dv (by simp only;omega) (dv (by simp) (bx (EF t) (aD (by rw[yo];exact e1) (fr rfl ?_)))),.inl ⟨rfl,fun j av dp=> ?_⟩⟩
    ·simp only;rw[fl (by omega)]
    ·by_cases c:j=n
     ·subst c;exact aiJ j dp i ad IM
     ·exact h j (by omega) dp
   | false =>
    have Wr : ∀i,i<m->t.B i≠n:=fun i ad e=>(by have:=aB.2 ⟨i,ad,e⟩;simp at this);by_cases dp:G n
    ·refine⟨(n:Int),dv (by simp only;omega) (dv (by simp) (bx (EF t) (aD (by rw[yo];exact e1) (gn rfl (aD (by rw[yo];exact g1) (dv ((g2 Wr).2 dp) ?_)))))),.inr ⟨n,rfl,aS,dp,h⟩⟩;simp only;rw[fl (by omega)]
    ·refine⟨-1,dv (by simp only;omega) (dv (by simp) (bx (EF t) (aD (by rw[yo];exact e1) (gn rfl (aD (by rw[yo];exact g1) (en (fun x=>dp ((g2 Wr).1 x)) ?_)))))),.inl ⟨rfl,fun j av=>if c:j=n then c▸dp else h j (by omega)⟩⟩;simp only;rw[fl (by omega)]
  ·right;exact⟨(s:Int),by unfold xe;exact dv (by simp only;omega) (en (by simp only;omega) rfl),.inr ⟨s,rfl,vF,vu,ah2⟩⟩
 ·exact⟨e,by unfold xe;exact en (by simp only;omega) rfl,cP⟩
theorem bW.abM {eR m N K:Nat}{A obj:Nat->Nat->Rat}{t:bW}(h:gP eR m N A t){j:Nat}(g:t.qM m K obj j): ∀i,i<m->t.B i≠j :=
 fun i ad e=>iA.not_zero g fun l _=>by rw[<- e];exact h.xJ (obj l) ad
theorem UL {eR m N K:Nat}(hm:m<=1000)(fQ:N<1000){A obj:Nat->Nat->Rat}(deep:Bool)(Inv:bW->Prop)
 (inv : ∀t,Inv t->gP eR m N A t/\t.mg m N) (hY : ∀t r s,Inv t->oQ m N K obj (fun _=>True) t r s->Inv (t.cg r s))
 (bK : ∀t,Inv t-> ∀j,j<N-> ∃g,uQ ⟨N,gi m N t,cS m t,gZ N (t.cm m (obj 0))⟩ (j:Int) deep=some g/\((∀i,i<m->t.B i≠j)->(0<g↔t.qM m K obj j)))
 (h2 : ∀t,Inv t-> ∀i,i<m-> ∀j,j<=N->eW (t.T i j)) (a5 : ∀t,Inv t-> ∀i,i<m-> ∀j,j<=N->0<t.T i j->eW (t.T i N / t.T i j))
 (ah : ∀t,Inv t-> ∀r k,r<m->k<N->t.T r k≠0->Iy m N t (t.cm m (obj 0)) r k) (t:bW) (cf:Inv t) :
 ∃b cF,tQ deep N (ir m N) (cS m t) (gZ N (t.cm m (obj 0))) (gi m N t)=some (b,cS m cF,gZ N (cF.cm m (obj 0)),gi m N cF)/\Inv cF /\
  ((b=true/\ ∀j,j<N-> ¬cF.qM m K obj j)\/(b=false/\ ∃s,s<N/\cF.qM m K obj s/\ ∀i,i<m-> ¬0<cF.T i s)):=by
 obtain⟨x,er,cF,e,⟨VV,cP⟩,-,-,eL⟩:=Sj (eR:=eR) (m:=m) (N:=N) (K:=K) (A:=A) (obj:=obj) (bN:=fun _=>True)
  (f:=fun w:ar×(List aE)×(List (List aE))=>C0 deep N (ir m N) w.1 w.2.1 w.2.2)
  (fun a t=>a=(cS m t,gZ N (t.cm m (obj 0)),gi m N t)/\Inv t)
  (fun a x t=> ∃b,x=(b,cS m t,gZ N (t.cm m (obj 0)),gi m N t)/\((b=true/\ ∀j,j<N-> ¬t.qM m K obj j)\/(b=false/\ ∃s,s<N/\t.qM m K obj s/\ ∀i,i<m-> ¬0<t.T i s)))
  (fun a t di ok lb=>by
    obtain⟨rfl,cP⟩:=di;obtain⟨r,e1,aB⟩:=aeg hm fQ t (t.cm m (obj 0)) deep (t.qM m K obj) (fun j dp=>bW.abM ok dp) (bK t cP);simp only;unfold C0;rcases aB with ⟨rfl,h⟩|⟨s,rfl,Jb,dp,aX⟩
    ·left;exact⟨_,aD e1 (dv (by decide) rfl),true,rfl,.inl ⟨rfl,h⟩⟩
    ·obtain⟨q,q1,aV⟩:=aef hm fQ t (N:Int) (gZ N (t.cm m (obj 0))) (j:=s) (by omega) (h2 t cP) (fun i ad jl=>a5 t cP i ad s (by omega) jl)
     rcases aV with ⟨rfl,h⟩|⟨b,rfl,aU,kI,h1,o⟩
     ·left;exact⟨_,aD e1 (en (by omega) (bx (EF t) (aD (by rw[yo];exact q1) (dv (by decide) rfl)))),false,rfl,.inr ⟨rfl,s,Jb,dp,h⟩⟩
     ·right;have c1:oQ m N K obj (fun _=>True) t b s:=⟨Jb,trivial,dp,fun j av _=>aX j av,aU,kI,h1,o⟩;refine⟨_,b,s,aD e1 (en (by omega) (bx (EF t) (aD (by rw[yo];exact q1) (en (by omega) (aD (Ty hm fQ aU (by omega) (by grind) (ah t cP b s aU Jb (by grind)) N) rfl))))),c1,?_,hY t b s cP c1⟩;refine Prod.ext rfl (Prod.ext ?_ rfl);exact eF fun j _=>by rw[ok.Hv (obj 0) aU Jb (by grind)])
  (a:=(cS m t,gZ N (t.cm m (obj 0)),gi m N t)) (t:=t) ⟨rfl,cf⟩ (inv t cf).1 (inv t cf).2
 obtain⟨b,rfl,aU⟩:=eL;refine⟨b,cF,?_,cP,aU⟩;unfold tQ;exact aD (x:=(b,cS m cF,gZ N (cF.cm m (obj 0)),gi m N cF)) (by unfold Qx;exact e) rfl
end Go.Proofs.YthgbjflfgmahbaaGreat
