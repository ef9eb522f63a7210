/- Lemmas, plain functions of the program, and what they answer. No condition. -/
import Derived.Test.YtfdnefmiaihfcaaGreatMB
namespace Go.Proofs.YtfdnefmiaihfcaaGreat
set_option linter.unusedVariables false
set_option linter.unusedSimpArgs false
open Go Go.VL
def Fo (hg:List Int):(Int×Int)→S:=fun (po,bc)=>eM [(0,.isl 1 (hg.map eU8)),(3,.n .i64 po),(4,.n .i64 bc)] []
def Ft (hg:List Int):Int→eP
 | a=>⟨some 0,[(0,.isl 1 (hg.map eU8)),(3,.n .i64 a)],[]⟩
def vu (hg:List Int)(po bc:Int):Option ((Int×Int)⊕(Int)) :=
 if (decide (bc<(len_ eU8 hg)))=true then
  if (decide (bc<(4000:Int)))=true then
   if 0≤bc∧bc<hg.length then
   hg[bc.toNat]? >>= fun fN =>
   some (.inl (U (((BitVec.ofInt (IntKind.bits .i64) (U ((U ((U (po*(73:Int)))+(IntKind.wrap .i64 fN)))+(7:Int))) &&& BitVec.ofInt (IntKind.bits .i64) (1073741823:Int)).toNat:Int)),U (bc+(1:Int))))
   else none
  else
   some (.inr po)
 else
  some (.inr po)
def Lj (hg:List Int)(po bc:Int):Option (Int):=iter (fun w:Int×Int=>vu hg w.1 w.2) (po,bc)
theorem RF {hg:List Int}{po bc:Int}:bV (vu hg po bc) (fo bp 32 0 14 [1,1,0,1,0,0] (Fo hg (po,bc)) (Fo hg) (Ft hg)):=by
 unfold vu
 exact .ite (fun o =>
  .ite (fun R =>
  .bq fun ae =>
  .aD fun fN aK =>
  .ret (bW [.aJ (ap 7 (au (.ao true) [])),.ao true,.aJ (bO 5 (.c4 (eU8 fN)) 5),(ag 3),.bj [] [] (bT [0,3,4])] (.eT o o o R ae.1 (eY eU8 ae.2) (cQ eU8 aK))))
  (fun R =>
  .ret (bW [.aJ (ap 7 (au (.ao true) [])),.ao false,.bj [] [] (bT [0,3])] (.dy o o o R))))
  (fun o =>
  .ret (bW [.aJ (ap 5 (cO 2 (au (.ao false) []))),.ao false,.bj [] [] (bT [0,3])] (.dy o o o eW)))
theorem Sk {hg:List Int}{po bc:Int}{r} (h:Lj hg po bc=some r):fp bp 32 0 14 [1,1,0,1,0,0] (Fo hg) (Ft hg) (po,bc) r:=fr (fun _=>RF) h
def BQ (hg:List Int):Option Int :=
 Lj hg (U ((1975:Int)+(len_ eU8 hg))) 0 >>= fun ad =>
 some ad
theorem SV {hg:List Int}:bV (BQ hg) (fun a=>Con bp 14 [.isl 1 (hg.map eU8)] [] (.ref 0 0 0 0) [[al.mk 3 [[.isl 1 (hg.map eU8),.n .i64 (0:Int),.n .i64 a]] .live]]):=by
 unfold BQ
 exact .aD fun ad R =>
  .ret (hH [(ag 1),(ag 4),(ag 1),.bj [] [] (bT [0,3,4]),(Ft hg ad).gh,(ag 5)] [3] [.box [.id,.id,.id]] (.ax (Sk R)))
def rC (bP:List Int)(cl eb:Int):Option (Int×Int×Int) :=
 if (decide (cl<(len_ eU8 bP)))=true then
  if 0≤cl∧cl<bP.length then
  bP[cl.toNat]? >>= fun a2 =>
  some (U (((BitVec.ofInt (IntKind.bits .i64) (U ((U (((BitVec.ofInt (IntKind.bits .i64) (U (((BitVec.ofInt (IntKind.bits .i64) ((U ((U (eb*(6364136223846793005:Int)))+(1442695040888963407:Int))).fdiv (2 ^ (min (33:Int).toNat (IntKind.bits .i64)))) ^^^ BitVec.ofInt (IntKind.bits .i64) ((U ((U (eb*(6364136223846793005:Int)))+(1442695040888963407:Int))).fdiv (2 ^ (min (45:Int).toNat (IntKind.bits .i64))))).toNat:Int))) &&& BitVec.ofInt (IntKind.bits .i64) (255:Int)).toNat:Int)))+(IntKind.wrap .i64 a2))) &&& BitVec.ofInt (IntKind.bits .i64) (255:Int)).toNat:Int)),U (cl+(1:Int)),U ((U (eb*(6364136223846793005:Int)))+(1442695040888963407:Int)))
  else none
 else
  some (U (((BitVec.ofInt (IntKind.bits .i64) (U (((BitVec.ofInt (IntKind.bits .i64) ((U ((U (eb*(6364136223846793005:Int)))+(1442695040888963407:Int))).fdiv (2 ^ (min (33:Int).toNat (IntKind.bits .i64)))) ^^^ BitVec.ofInt (IntKind.bits .i64) ((U ((U (eb*(6364136223846793005:Int)))+(1442695040888963407:Int))).fdiv (2 ^ (min (45:Int).toNat (IntKind.bits .i64))))).toNat:Int))) &&& BitVec.ofInt (IntKind.bits .i64) (255:Int)).toNat:Int)),cl,U ((U (eb*(6364136223846793005:Int)))+(1442695040888963407:Int)))
theorem x1 {bP:List Int}{cl eb:Int}:bV (rC bP cl eb) (fun a=>Con bp 68 [.ref 0 0 0 0] [[al.mk 3 [[.isl 1 (bP.map eU8),.n .i64 cl,.n .i64 eb]] .live]] (.n .i64 a.1) [[al.mk 3 [[.isl 1 (bP.map eU8),.n .i64 a.2.1,.n .i64 a.2.2]] .live]]):=by
 unfold rC
 exact (let t1:List cL:=[(ag 1),(ag 10),(ag 13),(ag 10)];
  have a9:=((.aF (by decide:(0:Int)≤33) (by decide:(0:Int)≤45)):cT _);
  .ite (fun o =>
  .bq fun R =>
  .aD fun a2 ay =>
  .ret (hH (t1.append [.ao true,.aJ (bO 10 (.c4 (eU8 a2)) 4),(ag 9),(ag 2)]) [0] [.box [.id,.id,.id]] (a9.a3 (.dy o R.1 (eY eU8 R.2) (cQ eU8 ay)))))
  (fun o =>
  .ret (hH (t1.append [.ao false,(ag 2)]) [0] [.box [.id,.id,.id]] (a9.a3 (.ax o)))))
def jZ (aZ:Int)(bP:List Int)(cl eb:Int):Option (Int×Int×Int) :=
 if (decide (aZ≤(0:Int)))=true then
  some (0,cl,eb)
 else
  if (decide (aZ≤(256:Int)))=true then
   rC bP cl eb >>= fun bg =>
   if aZ≠0 then
   some (bg.1.tmod aZ,bg.2.1,bg.2.2)
   else none
  else
   rC bP cl eb >>= fun bg =>
   rC bP bg.2.1 bg.2.2 >>= fun bt =>
   rC bP bt.2.1 bt.2.2 >>= fun bS =>
   rC bP bS.2.1 bS.2.2 >>= fun bf =>
   if aZ≠0 then
   some ((U ((U ((U ((U (bg.1*(16777216:Int)))+(U (bt.1*(65536:Int)))))+(U (bS.1*(256:Int)))))+bf.1)).tmod aZ,bf.2.1,bf.2.2)
   else none
theorem k7 {aZ:Int}{bP:List Int}{cl eb:Int}:bV (jZ aZ bP cl eb) (fun a=>Con bp 42 [.ref 0 0 0 0,.n .i64 aZ] [[al.mk 3 [[.isl 1 (bP.map eU8),.n .i64 cl,.n .i64 eb]] .live]] (.n .i64 a.1) [[al.mk 3 [[.isl 1 (bP.map eU8),.n .i64 a.2.1,.n .i64 a.2.2]] .live]]):=by
 unfold jZ
 exact .ite (fun o =>
  .ret (hH [(ag 1),(ag 2),.ao true,(ag 1)] [0] [.box [.id,.id,.id]] (.ax o)))
  (fun o =>
  (let t1:List cL:=[(ag 1),(ag 2),.ao false,(ag 2)];
  .ite (fun R =>
  .aD fun bg ay =>
  .bq fun aK =>
  .ret (hH (t1.append [.ao true,.aJ (bO 1 (.call {aL:=[.row 0],cq:=[.box [.id,.id,.id]],ac:=[ii],r:= .n .i64 bg.1,dh:=[[al.mk 3 [[.isl 1 (bP.map eU8),.n .i64 bg.2.1,.n .i64 bg.2.2]] .live]],ez:=ii,e5:=[.box [.id,.id,.id]],dD:=[0],dB:=false}) 3)]) [0] [.box [.id,.id,.id]] (.dy o R (x1 bg ay) aK)))
  (fun R =>
  .aD fun bg ay =>
  .aD fun bt bI =>
  .aD fun bS bE =>
  .aD fun bf dj =>
  .bq fun eu =>
  .ret (hH (t1.append [.ao false,.aJ (bO 1 (.call {aL:=[.row 0],cq:=[.box [.id,.id,.id]],ac:=[ii],r:= .n .i64 bg.1,dh:=[[al.mk 3 [[.isl 1 (bP.map eU8),.n .i64 bg.2.1,.n .i64 bg.2.2]] .live]],ez:=ii,e5:=[.box [.id,.id,.id]],dD:=[0],dB:=false}) 1),.aJ (bO 1 (.call {aL:=[.row 0],cq:=[.box [.id,.id,.id]],ac:=[ii],r:= .n .i64 bt.1,dh:=[[al.mk 3 [[.isl 1 (bP.map eU8),.n .i64 bt.2.1,.n .i64 bt.2.2]] .live]],ez:=ii,e5:=[.box [.id,.id,.id]],dD:=[0],dB:=false}) 1),.aJ (bO 1 (.call {aL:=[.row 0],cq:=[.box [.id,.id,.id]],ac:=[ii],r:= .n .i64 bS.1,dh:=[[al.mk 3 [[.isl 1 (bP.map eU8),.n .i64 bS.2.1,.n .i64 bS.2.2]] .live]],ez:=ii,e5:=[.box [.id,.id,.id]],dD:=[0],dB:=false}) 1),.aJ (bO 1 (.call {aL:=[.row 0],cq:=[.box [.id,.id,.id]],ac:=[ii],r:= .n .i64 bf.1,dh:=[[al.mk 3 [[.isl 1 (bP.map eU8),.n .i64 bf.2.1,.n .i64 bf.2.2]] .live]],ez:=ii,e5:=[.box [.id,.id,.id]],dD:=[0],dB:=false}) 1),(ag 13)]) [0] [.box [.id,.id,.id]] (.eT o R (x1 bg ay) (x1 bt bI) (x1 bS bE) (x1 bf dj) eu)))))
def vV (aZ:Int)(bP:List Int)(cl eb:Int):Option (Bool×Int×Int) :=
 jZ aZ bP cl eb >>= fun ad =>
 some ((ad.1 == (0:Int)),ad.2.1,ad.2.2)
theorem Bs {aZ:Int}{bP:List Int}{cl eb:Int}:bV (vV aZ bP cl eb) (fun a=>Con bp 39 [.ref 0 0 0 0,.n .i64 aZ] [[al.mk 3 [[.isl 1 (bP.map eU8),.n .i64 cl,.n .i64 eb]] .live]] (.b a.1) [[al.mk 3 [[.isl 1 (bP.map eU8),.n .i64 a.2.1,.n .i64 a.2.2]] .live]]):=by
 unfold vV
 exact .aD fun ad R =>
  .ret (hH [(ag 1),.aJ (bO 2 (.call {aL:=[.row 0],cq:=[.box [.id,.id,.id]],ac:=[ii,ii],r:= .n .i64 ad.1,dh:=[[al.mk 3 [[.isl 1 (bP.map eU8),.n .i64 ad.2.1,.n .i64 ad.2.2]] .live]],ez:=ii,e5:=[.box [.id,.id,.id]],dD:=[0],dB:=false}) 2)] [0] [.box [.id,.id,.id]] (.ax (k7 ad R)))
def vW (b6 bP:List Int)(cl eb:Int):Option (Int×Int×Int) :=
 jZ (len_ J b6) bP cl eb >>= fun ad =>
 if 0≤ad.1∧ad.1<b6.length then
 b6[ad.1.toNat]? >>= fun fN =>
 some (fN,ad.2.1,ad.2.2)
 else none
theorem Gg {b6 bP:List Int}{cl eb:Int}:bV (vW b6 bP cl eb) (fun a=>Con bp 67 [.ref 0 0 0 0,.isl 1 (b6.map J)] [[al.mk 3 [[.isl 1 (bP.map eU8),.n .i64 cl,.n .i64 eb]] .live]] (.n .i64 a.1) [[al.mk 3 [[.isl 1 (bP.map eU8),.n .i64 a.2.1,.n .i64 a.2.2]] .live]]):=by
 unfold vW
 exact .aD fun ad R =>
  .bq fun ae =>
  .aD fun fN aK =>
  .ret (hH [(ag 1),.aJ (ap 4 (au (.call {aL:=[.row 0],cq:=[.box [.id,.id,.id]],ac:=[ii,ii],r:= .n .i64 ad.1,dh:=[[al.mk 3 [[.isl 1 (bP.map eU8),.n .i64 ad.2.1,.n .i64 ad.2.2]] .live]],ez:=ii,e5:=[.box [.id,.id,.id]],dD:=[0],dB:=false}) (bO 1 (.c4 (J fN)) 1)))] [0] [.box [.id,.id,.id]] (.dy (k7 ad R) ae.1 (eY J ae.2) (cQ J aK)))
def Fp (aT:List Int)(ai:List bb):(Int×Int×Int×(List bB))→S:=fun (aZ,aI,ct,aX)=>eM [(0,.ref 0 0 0 0),(2,.ref 1 0 0 0),(3,.ref 2 0 0 0),(4,.n .i64 aZ)] [[al.mk 3 [[.isl 1 (aT.map eU8),.n .i64 aI,.n .i64 ct]] .live],[al.mk 2 [[.eL,.eL]] .live],[al.mk 2 [[.bu 3 0 0 ai.length,.bu 4 0 0 aX.length]] .live],(aq 4 cS ai),(aq 3 c2 aX)]
def Fu (aT:List Int)(ai:List bb):(Int×Int×(List bB))→eP
 | a=>⟨some 0,[(2,.ref 1 0 0 0),(3,.ref 2 0 0 0)],[[al.mk 3 [[.isl 1 (aT.map eU8),.n .i64 a.1,.n .i64 a.2.1]] .live],[al.mk 2 [[.eL,.eL]] .live],[al.mk 2 [[.bu 3 0 0 ai.length,.bu 4 0 0 a.2.2.length]] .live],(aq 4 cS ai),(aq 3 c2 a.2.2)]⟩
def vv (aT:List Int)(ai:List bb)(aZ aI ct:Int)(aX:List bB):Option ((Int×Int×Int×(List bB))⊕(Int×Int×(List bB))) :=
 if (decide ((0:Int)<aZ))=true then
  jZ 2 aT aI ct >>= fun b3 =>
  jZ 2 aT b3.2.1 b3.2.2 >>= fun bl =>
  jZ 3 aT bl.2.1 bl.2.2 >>= fun bw =>
  if (aX++([(⟨b3.1,U ((2:Int)+bl.1),U ((1:Int)+bw.1)⟩:bB)]:List bB)).length*24≤140737488355328 then
  some (.inl (U (aZ-(1:Int)),bw.2.1,bw.2.2,aX++([(⟨b3.1,U ((2:Int)+bl.1),U ((1:Int)+bw.1)⟩:bB)]:List bB)))
  else none
 else
  some (.inr (aI,ct,aX))
def Lk (aT:List Int)(ai:List bb)(aZ aI ct:Int)(aX:List bB):Option (Int×Int×(List bB)):=iter (fun w:Int×Int×Int×(List bB)=>vv aT ai w.1 w.2.1 w.2.2.1 w.2.2.2) (aZ,aI,ct,aX)
theorem RG {aT:List Int}{ai:List bb}{aZ aI ct:Int}{aX:List bB}:bV (vv aT ai aZ aI ct aX) (fo bp 56 1 40 [1,1,1,1,0,1,0,0] (Fp aT ai (aZ,aI,ct,aX)) (Fp aT ai) (Fu aT ai)):=by
 unfold vv
 exact .ite (fun o =>
  .aD fun b3 ae =>
  .aD fun bl aK =>
  .aD fun bw bQ =>
  .bq fun bE =>
  .ret (let aW:=(aX++([(⟨b3.1,U ((2:Int)+bl.1),U ((1:Int)+bw.1)⟩:bB)]:List bB));bW [(ag 2),.ao true,.aJ (ap 3 (au (.call {aL:=[.row 0],cq:=[.box [.id,.id,.id]],ac:=[ii,ii],r:= .n .i64 b3.1,dh:=[[al.mk 3 [[.isl 1 (aT.map eU8),.n .i64 b3.2.1,.n .i64 b3.2.2]] .live]],ez:=ii,e5:=[.box [.id,.id,.id]],dD:=[0],dB:=false}) (ap 1 (au (.call {aL:=[.row 0],cq:=[.box [.id,.id,.id]],ac:=[ii,ii],r:= .n .i64 bl.1,dh:=[[al.mk 3 [[.isl 1 (aT.map eU8),.n .i64 bl.2.1,.n .i64 bl.2.2]] .live]],ez:=ii,e5:=[.box [.id,.id,.id]],dD:=[0],dB:=false}) (ap 2 (au (.call {aL:=[.row 0],cq:=[.box [.id,.id,.id]],ac:=[ii,ii],r:= .n .i64 bw.1,dh:=[[al.mk 3 [[.isl 1 (aT.map eU8),.n .i64 bw.2.1,.n .i64 bw.2.2]] .live]],ez:=ii,e5:=[.box [.id,.id,.id]],dD:=[0],dB:=false}) (bO 3 (.a3 (aW.length)) 2))))))),(ag 3),.bj [0,1,2,3,19] [.box [.id,.id,.id],.box [.id,.id],.box [.id,.id],.pure,.dL (aq 3 c2 aW)] (bT [0,2,3,4])] (.bi o (k7 b3 ae) (k7 bl aK) (k7 bw bQ) (jY c2 (⟨b3.1,U ((2:Int)+bl.1),U ((1:Int)+bw.1)⟩:bB)) (oX c2 aX) (mI c2 aX (⟨b3.1,U ((2:Int)+bl.1),U ((1:Int)+bw.1)⟩:bB)) bE (.b4 (aB 4 .live rF ai) (eA 3 .live (oY c2 aX (⟨b3.1,U ((2:Int)+bl.1),U ((1:Int)+bw.1)⟩:bB))) (aB 3 .live pC aW)))))
  (fun o =>
  .ret (bW [(ag 2),.ao false,.bj [0,1,2,3,4] [.box [.id,.id,.id],.box [.id,.id],.box [.id,.id],.pure,.pure] (bT [2,3])] (.b4 o (aB 4 .live rF ai) (aB 3 .live pC aX))))
theorem Sl {aT:List Int}{ai:List bb}{aZ aI ct:Int}{aX:List bB}{r} (h:Lk aT ai aZ aI ct aX=some r):fp bp 56 1 40 [1,1,1,1,0,1,0,0] (Fp aT ai) (Fu aT ai) (aZ,aI,ct,aX) r:=fr (fun _=>RG) h
def yd (bP:List Int)(cl eb:Int):Option ((List bb)×(List bB)×Int×Int) :=
 jZ 3 bP cl eb >>= fun ad =>
 jZ 3 bP ad.2.1 ad.2.2 >>= fun bg =>
 jZ 2 bP bg.2.1 bg.2.2 >>= fun bt =>
 jZ 3 bP bt.2.1 bt.2.2 >>= fun bS =>
 jZ 2 bP bS.2.1 bS.2.2 >>= fun bf =>
 jZ 3 bP bf.2.1 bf.2.2 >>= fun cr =>
 vW ([1,2,3]:List Int) bP cr.2.1 cr.2.2 >>= fun de =>
 jZ 3 bP de.2.1 de.2.2 >>= fun fk =>
 Lk bP ([(⟨(⟨#[97]⟩:ByteArray),(-2),ad.1,true⟩:bb),(⟨(⟨#[98]⟩:ByteArray),6,bg.1,true⟩:bb),(⟨(⟨#[99]⟩:ByteArray),bt.1,U ((-1:Int)-bS.1),false⟩:bb),(⟨(⟨#[100]⟩:ByteArray),U ((3:Int)+bf.1),U ((-1:Int)-cr.1),false⟩:bb)]:List bb) fk.1 fk.2.1 fk.2.2 ([(⟨0,2,1⟩:bB),(⟨2,3,de.1⟩:bB),(⟨3,1,1⟩:bB)]:List bB) >>= fun hc =>
 some (([(⟨(⟨#[97]⟩:ByteArray),(-2),ad.1,true⟩:bb),(⟨(⟨#[98]⟩:ByteArray),6,bg.1,true⟩:bb),(⟨(⟨#[99]⟩:ByteArray),bt.1,U ((-1:Int)-bS.1),false⟩:bb),(⟨(⟨#[100]⟩:ByteArray),U ((3:Int)+bf.1),U ((-1:Int)-cr.1),false⟩:bb)]:List bb),hc.2.2,hc.1,hc.2.1)
theorem SW {bP:List Int}{cl eb:Int}:bV (yd bP cl eb) (fun a=>Con bp 40 [.ref 0 0 0 0] [[al.mk 3 [[.isl 1 (bP.map eU8),.n .i64 cl,.n .i64 eb]] .live]] (.agg [.isl 4 (a.1.map cS),.isl 3 (a.2.1.map c2)]) [[al.mk 3 [[.isl 1 (bP.map eU8),.n .i64 a.2.2.1,.n .i64 a.2.2.2]] .live]]):=by
 unfold yd
 exact .aD fun ad R =>
  .aD fun bg ay =>
  .aD fun bt bI =>
  .aD fun bS bE =>
  .aD fun bf dj =>
  .aD fun cr ec =>
  .aD fun de eU =>
  .aD fun fk gv =>
  .aD fun hc ig =>
  .ret (hH [(ag 1),(ag 3),.aJ (ap 1 (au (.call {aL:=[.row 0],cq:=[.box [.id,.id,.id]],ac:=[ii,ii],r:= .n .i64 ad.1,dh:=[[al.mk 3 [[.isl 1 (bP.map eU8),.n .i64 ad.2.1,.n .i64 ad.2.2]] .live]],ez:=ii,e5:=[.box [.id,.id,.id]],dD:=[0],dB:=false}) (ap 2 (au (.call {aL:=[.row 0],cq:=[.box [.id,.id,.id]],ac:=[ii,ii],r:= .n .i64 bg.1,dh:=[[al.mk 3 [[.isl 1 (bP.map eU8),.n .i64 bg.2.1,.n .i64 bg.2.2]] .live]],ez:=ii,e5:=[.box [.id,.id,.id]],dD:=[0],dB:=false}) (ap 2 (au (.call {aL:=[.row 0],cq:=[.box [.id,.id,.id]],ac:=[ii,ii],r:= .n .i64 bt.1,dh:=[[al.mk 3 [[.isl 1 (bP.map eU8),.n .i64 bt.2.1,.n .i64 bt.2.2]] .live]],ez:=ii,e5:=[.box [.id,.id,.id]],dD:=[0],dB:=false}) (ap 1 (au (.call {aL:=[.row 0],cq:=[.box [.id,.id,.id]],ac:=[ii,ii],r:= .n .i64 bS.1,dh:=[[al.mk 3 [[.isl 1 (bP.map eU8),.n .i64 bS.2.1,.n .i64 bS.2.2]] .live]],ez:=ii,e5:=[.box [.id,.id,.id]],dD:=[0],dB:=false}) (ap 3 (au (.call {aL:=[.row 0],cq:=[.box [.id,.id,.id]],ac:=[ii,ii],r:= .n .i64 bf.1,dh:=[[al.mk 3 [[.isl 1 (bP.map eU8),.n .i64 bf.2.1,.n .i64 bf.2.2]] .live]],ez:=ii,e5:=[.box [.id,.id,.id]],dD:=[0],dB:=false}) (bO 2 (.call {aL:=[.row 0],cq:=[.box [.id,.id,.id]],ac:=[ii,ii],r:= .n .i64 cr.1,dh:=[[al.mk 3 [[.isl 1 (bP.map eU8),.n .i64 cr.2.1,.n .i64 cr.2.2]] .live]],ez:=ii,e5:=[.box [.id,.id,.id]],dD:=[0],dB:=false}) 5))))))))))),.aJ (bO 3 (.sl 29 (.call {aL:=[.row 0],cq:=[.box [.id,.id,.id]],ac:=[ii,.bF (.cu (.fI (([1,2,3]:List Int).map J)))],r:= .n .i64 de.1,dh:=[[al.mk 3 [[.isl 1 (bP.map eU8),.n .i64 de.2.1,.n .i64 de.2.2]] .live]],ez:=ii,e5:=[.box [.id,.id,.id]],dD:=[0,29],dB:=false})) 5),.aJ (bO 1 (.call {aL:=[.row 0],cq:=[.box [.id,.id,.id]],ac:=[ii,ii],r:= .n .i64 fk.1,dh:=[[al.mk 3 [[.isl 1 (bP.map eU8),.n .i64 fk.2.1,.n .i64 fk.2.2]] .live]],ez:=ii,e5:=[.box [.id,.id,.id]],dD:=[0],dB:=false}) 1),.bj [0,1,3,24,33] [.box [.id,.id,.id],.box [.id,.id],.box [.len (([(⟨(⟨#[97]⟩:ByteArray),(-2),ad.1,true⟩:bb),(⟨(⟨#[98]⟩:ByteArray),6,bg.1,true⟩:bb),(⟨(⟨#[99]⟩:ByteArray),bt.1,U ((-1:Int)-bS.1),false⟩:bb),(⟨(⟨#[100]⟩:ByteArray),U ((3:Int)+bf.1),U ((-1:Int)-cr.1),false⟩:bb)]:List bb).length),.len (([(⟨0,2,1⟩:bB),(⟨2,3,de.1⟩:bB),(⟨3,1,1⟩:bB)]:List bB).length)],.dL (aq 4 cS ([(⟨(⟨#[97]⟩:ByteArray),(-2),ad.1,true⟩:bb),(⟨(⟨#[98]⟩:ByteArray),6,bg.1,true⟩:bb),(⟨(⟨#[99]⟩:ByteArray),bt.1,U ((-1:Int)-bS.1),false⟩:bb),(⟨(⟨#[100]⟩:ByteArray),U ((3:Int)+bf.1),U ((-1:Int)-cr.1),false⟩:bb)]:List bb)),.dL (aq 3 c2 ([(⟨0,2,1⟩:bB),(⟨2,3,de.1⟩:bB),(⟨3,1,1⟩:bB)]:List bB))] (bT [0,2,3,4]),(Fu bP ([(⟨(⟨#[97]⟩:ByteArray),(-2),ad.1,true⟩:bb),(⟨(⟨#[98]⟩:ByteArray),6,bg.1,true⟩:bb),(⟨(⟨#[99]⟩:ByteArray),bt.1,U ((-1:Int)-bS.1),false⟩:bb),(⟨(⟨#[100]⟩:ByteArray),U ((3:Int)+bf.1),U ((-1:Int)-cr.1),false⟩:bb)]:List bb) hc).gh,(ag 2)] [0] [.box [.id,.id,.id]] (.bi (k7 ad R) (k7 bg ay) (k7 bt bI) (k7 bS bE) (k7 bf dj) (k7 cr ec) (kd (show [[.n .i64 (1:Int)],[.n .i64 (2:Int)],[.n .i64 (3:Int)]]=(([1,2,3]:List Int)).map J from rfl) (show 3=([1,2,3]:List Int).length from rfl)) (nl (show [[.n .i64 (1:Int)],[.n .i64 (2:Int)],[.n .i64 (3:Int)]]=(([1,2,3]:List Int)).map J from rfl) (show 3=([1,2,3]:List Int).length from rfl)) (.bi (ey aA ([1,2,3]:List Int)) (Gg de eU) (k7 fk gv) (show 4=([(⟨(⟨#[97]⟩:ByteArray),(-2),ad.1,true⟩:bb),(⟨(⟨#[98]⟩:ByteArray),6,bg.1,true⟩:bb),(⟨(⟨#[99]⟩:ByteArray),bt.1,U ((-1:Int)-bS.1),false⟩:bb),(⟨(⟨#[100]⟩:ByteArray),U ((3:Int)+bf.1),U ((-1:Int)-cr.1),false⟩:bb)]:List bb).length from rfl) (show 3=([(⟨0,2,1⟩:bB),(⟨2,3,de.1⟩:bB),(⟨3,1,1⟩:bB)]:List bB).length from rfl) (eA 4 .live (show [[.s (⟨#[97]⟩:ByteArray),.n .i64 (-2:Int),.n .i64 ad.1,.b true],[.s (⟨#[98]⟩:ByteArray),.n .i64 (6:Int),.n .i64 bg.1,.b true],[.s (⟨#[99]⟩:ByteArray),.n .i64 bt.1,.n .i64 (U ((-1:Int)-bS.1)),.b false],[.s (⟨#[100]⟩:ByteArray),.n .i64 (U ((3:Int)+bf.1)),.n .i64 (U ((-1:Int)-cr.1)),.b false]]=(([(⟨(⟨#[97]⟩:ByteArray),(-2),ad.1,true⟩:bb),(⟨(⟨#[98]⟩:ByteArray),6,bg.1,true⟩:bb),(⟨(⟨#[99]⟩:ByteArray),bt.1,U ((-1:Int)-bS.1),false⟩:bb),(⟨(⟨#[100]⟩:ByteArray),U ((3:Int)+bf.1),U ((-1:Int)-cr.1),false⟩:bb)]:List bb)).map cS from rfl)) (aB 4 .live rF ([(⟨(⟨#[97]⟩:ByteArray),(-2),ad.1,true⟩:bb),(⟨(⟨#[98]⟩:ByteArray),6,bg.1,true⟩:bb),(⟨(⟨#[99]⟩:ByteArray),bt.1,U ((-1:Int)-bS.1),false⟩:bb),(⟨(⟨#[100]⟩:ByteArray),U ((3:Int)+bf.1),U ((-1:Int)-cr.1),false⟩:bb)]:List bb)) (eA 3 .live (show [[.n .i64 (0:Int),.n .i64 (2:Int),.n .i64 (1:Int)],[.n .i64 (2:Int),.n .i64 (3:Int),.n .i64 de.1],[.n .i64 (3:Int),.n .i64 (1:Int),.n .i64 (1:Int)]]=(([(⟨0,2,1⟩:bB),(⟨2,3,de.1⟩:bB),(⟨3,1,1⟩:bB)]:List bB)).map c2 from rfl)) (.gH (aB 3 .live pC ([(⟨0,2,1⟩:bB),(⟨2,3,de.1⟩:bB),(⟨3,1,1⟩:bB)]:List bB)) (Sl ig) (jH cS ([(⟨(⟨#[97]⟩:ByteArray),(-2),ad.1,true⟩:bb),(⟨(⟨#[98]⟩:ByteArray),6,bg.1,true⟩:bb),(⟨(⟨#[99]⟩:ByteArray),bt.1,U ((-1:Int)-bS.1),false⟩:bb),(⟨(⟨#[100]⟩:ByteArray),U ((3:Int)+bf.1),U ((-1:Int)-cr.1),false⟩:bb)]:List bb)) (i3 cS ([(⟨(⟨#[97]⟩:ByteArray),(-2),ad.1,true⟩:bb),(⟨(⟨#[98]⟩:ByteArray),6,bg.1,true⟩:bb),(⟨(⟨#[99]⟩:ByteArray),bt.1,U ((-1:Int)-bS.1),false⟩:bb),(⟨(⟨#[100]⟩:ByteArray),U ((3:Int)+bf.1),U ((-1:Int)-cr.1),false⟩:bb)]:List bb)) (ey rF ([(⟨(⟨#[97]⟩:ByteArray),(-2),ad.1,true⟩:bb),(⟨(⟨#[98]⟩:ByteArray),6,bg.1,true⟩:bb),(⟨(⟨#[99]⟩:ByteArray),bt.1,U ((-1:Int)-bS.1),false⟩:bb),(⟨(⟨#[100]⟩:ByteArray),U ((3:Int)+bf.1),U ((-1:Int)-cr.1),false⟩:bb)]:List bb)) (jH c2 hc.2.2) (i3 c2 hc.2.2) (ey pC hc.2.2)))) (.bF (.agg [.fI (([(⟨(⟨#[97]⟩:ByteArray),(-2),ad.1,true⟩:bb),(⟨(⟨#[98]⟩:ByteArray),6,bg.1,true⟩:bb),(⟨(⟨#[99]⟩:ByteArray),bt.1,U ((-1:Int)-bS.1),false⟩:bb),(⟨(⟨#[100]⟩:ByteArray),U ((3:Int)+bf.1),U ((-1:Int)-cr.1),false⟩:bb)]:List bb).map cS),.fI (hc.2.2.map c2)])))
def x9 (bP:List Int)(cl eb:Int):Option ((List bb)×(List bB)×Int×Int) :=
 jZ 4 bP cl eb >>= fun ad =>
 jZ 3 bP ad.2.1 ad.2.2 >>= fun bg =>
 jZ 4 bP bg.2.1 bg.2.2 >>= fun bt =>
 jZ 3 bP bt.2.1 bt.2.2 >>= fun bS =>
 jZ 4 bP bS.2.1 bS.2.2 >>= fun bf =>
 jZ 4 bP bf.2.1 bf.2.2 >>= fun cr =>
 vW ([1,1,1,3]:List Int) bP cr.2.1 cr.2.2 >>= fun de =>
 vV 2 bP de.2.1 de.2.2 >>= fun fk =>
 if fk.1=true then
  jZ 5 bP fk.2.1 fk.2.2 >>= fun d2 =>
  if (([(⟨(⟨#[97]⟩:ByteArray),U ((-1:Int)-ad.1),bg.1,true⟩:bb),(⟨(⟨#[98]⟩:ByteArray),U ((3:Int)+bt.1),bS.1,true⟩:bb),(⟨(⟨#[99]⟩:ByteArray),U (bf.1-(1:Int)),U ((-1:Int)-cr.1),false⟩:bb)]:List bb)++([(⟨(⟨#[100]⟩:ByteArray),U (d2.1-(1:Int)),(-7),true⟩:bb)]:List bb)).length*40≤140737488355328 then
  vW ([1,2,3]:List Int) bP d2.2.1 d2.2.2 >>= fun i6 =>
  if (([(⟨0,2,1⟩:bB),(⟨1,2,de.1⟩:bB)]:List bB)++([(⟨3,2,i6.1⟩:bB)]:List bB)).length*24≤140737488355328 then
  some (([(⟨(⟨#[97]⟩:ByteArray),U ((-1:Int)-ad.1),bg.1,true⟩:bb),(⟨(⟨#[98]⟩:ByteArray),U ((3:Int)+bt.1),bS.1,true⟩:bb),(⟨(⟨#[99]⟩:ByteArray),U (bf.1-(1:Int)),U ((-1:Int)-cr.1),false⟩:bb)]:List bb)++([(⟨(⟨#[100]⟩:ByteArray),U (d2.1-(1:Int)),(-7),true⟩:bb)]:List bb),([(⟨0,2,1⟩:bB),(⟨1,2,de.1⟩:bB)]:List bB)++([(⟨3,2,i6.1⟩:bB)]:List bB),i6.2.1,i6.2.2)
  else none
  else none
 else
  some (([(⟨(⟨#[97]⟩:ByteArray),U ((-1:Int)-ad.1),bg.1,true⟩:bb),(⟨(⟨#[98]⟩:ByteArray),U ((3:Int)+bt.1),bS.1,true⟩:bb),(⟨(⟨#[99]⟩:ByteArray),U (bf.1-(1:Int)),U ((-1:Int)-cr.1),false⟩:bb)]:List bb),([(⟨0,2,1⟩:bB),(⟨1,2,de.1⟩:bB)]:List bB),fk.2.1,fk.2.2)
set_option maxHeartbeats 4000000 in
theorem SJ {bP:List Int}{cl eb:Int}:bV (x9 bP cl eb) (fun a=>Con bp 41 [.ref 0 0 0 0] [[al.mk 3 [[.isl 1 (bP.map eU8),.n .i64 cl,.n .i64 eb]] .live]] (.agg [.isl 4 (a.1.map cS),.isl 3 (a.2.1.map c2)]) [[al.mk 3 [[.isl 1 (bP.map eU8),.n .i64 a.2.2.1,.n .i64 a.2.2.2]] .live]]):=by
 unfold x9
 exact .aD fun ad R =>
  .aD fun bg ay =>
  .aD fun bt bI =>
  .aD fun bS bE =>
  .aD fun bf dj =>
  .aD fun cr ec =>
  .aD fun de eU =>
  .aD fun fk gv =>
  (let t1:List cL:=[(ag 1),(ag 3),.aJ (ap 1 (au (.call {aL:=[.row 0],cq:=[.box [.id,.id,.id]],ac:=[ii,ii],r:= .n .i64 ad.1,dh:=[[al.mk 3 [[.isl 1 (bP.map eU8),.n .i64 ad.2.1,.n .i64 ad.2.2]] .live]],ez:=ii,e5:=[.box [.id,.id,.id]],dD:=[0],dB:=false}) (ap 2 (au (.call {aL:=[.row 0],cq:=[.box [.id,.id,.id]],ac:=[ii,ii],r:= .n .i64 bg.1,dh:=[[al.mk 3 [[.isl 1 (bP.map eU8),.n .i64 bg.2.1,.n .i64 bg.2.2]] .live]],ez:=ii,e5:=[.box [.id,.id,.id]],dD:=[0],dB:=false}) (ap 2 (au (.call {aL:=[.row 0],cq:=[.box [.id,.id,.id]],ac:=[ii,ii],r:= .n .i64 bt.1,dh:=[[al.mk 3 [[.isl 1 (bP.map eU8),.n .i64 bt.2.1,.n .i64 bt.2.2]] .live]],ez:=ii,e5:=[.box [.id,.id,.id]],dD:=[0],dB:=false}) (ap 2 (au (.call {aL:=[.row 0],cq:=[.box [.id,.id,.id]],ac:=[ii,ii],r:= .n .i64 bS.1,dh:=[[al.mk 3 [[.isl 1 (bP.map eU8),.n .i64 bS.2.1,.n .i64 bS.2.2]] .live]],ez:=ii,e5:=[.box [.id,.id,.id]],dD:=[0],dB:=false}) (ap 2 (au (.call {aL:=[.row 0],cq:=[.box [.id,.id,.id]],ac:=[ii,ii],r:= .n .i64 bf.1,dh:=[[al.mk 3 [[.isl 1 (bP.map eU8),.n .i64 bf.2.1,.n .i64 bf.2.2]] .live]],ez:=ii,e5:=[.box [.id,.id,.id]],dD:=[0],dB:=false}) (bO 2 (.call {aL:=[.row 0],cq:=[.box [.id,.id,.id]],ac:=[ii,ii],r:= .n .i64 cr.1,dh:=[[al.mk 3 [[.isl 1 (bP.map eU8),.n .i64 cr.2.1,.n .i64 cr.2.2]] .live]],ez:=ii,e5:=[.box [.id,.id,.id]],dD:=[0],dB:=false}) 5))))))))))),.aJ (bO 3 (.sl 29 (.call {aL:=[.row 0],cq:=[.box [.id,.id,.id]],ac:=[ii,.bF (.cu (.fI (([1,1,1,3]:List Int).map J)))],r:= .n .i64 de.1,dh:=[[al.mk 3 [[.isl 1 (bP.map eU8),.n .i64 de.2.1,.n .i64 de.2.2]] .live]],ez:=ii,e5:=[.box [.id,.id,.id]],dD:=[0,29],dB:=false})) 4),.aJ (ap 1 (au (.call {aL:=[.row 0],cq:=[.box [.id,.id,.id]],ac:=[ii,ii],r:= .b fk.1,dh:=[[al.mk 3 [[.isl 1 (bP.map eU8),.n .i64 fk.2.1,.n .i64 fk.2.2]] .live]],ez:=ii,e5:=[.box [.id,.id,.id]],dD:=[0],dB:=false}) []))];
  have a9:=((.bi (k7 ad R) (k7 bg ay) (k7 bt bI) (k7 bS bE) (k7 bf dj) (k7 cr ec) (kd (show [[.n .i64 (1:Int)],[.n .i64 (1:Int)],[.n .i64 (1:Int)],[.n .i64 (3:Int)]]=(([1,1,1,3]:List Int)).map J from rfl) (show 4=([1,1,1,3]:List Int).length from rfl)) (nl (show [[.n .i64 (1:Int)],[.n .i64 (1:Int)],[.n .i64 (1:Int)],[.n .i64 (3:Int)]]=(([1,1,1,3]:List Int)).map J from rfl) (show 4=([1,1,1,3]:List Int).length from rfl)) (.b4 (ey aA ([1,1,1,3]:List Int)) (Gg de eU) (Bs fk gv))):cT _);
  .ite (fun gz =>
  .aD fun d2 gZ =>
  .bq fun m4 =>
  .aD fun i6 jR =>
  .bq fun lp =>
  .ret (let aW:=(([(⟨(⟨#[97]⟩:ByteArray),U ((-1:Int)-ad.1),bg.1,true⟩:bb),(⟨(⟨#[98]⟩:ByteArray),U ((3:Int)+bt.1),bS.1,true⟩:bb),(⟨(⟨#[99]⟩:ByteArray),U (bf.1-(1:Int)),U ((-1:Int)-cr.1),false⟩:bb)]:List bb)++([(⟨(⟨#[100]⟩:ByteArray),U (d2.1-(1:Int)),(-7),true⟩:bb)]:List bb));let bh:=(([(⟨0,2,1⟩:bB),(⟨1,2,de.1⟩:bB)]:List bB)++([(⟨3,2,i6.1⟩:bB)]:List bB));let cf:=(uS cS (⟨(⟨#[100]⟩:ByteArray),U (d2.1-(1:Int)),(-7),true⟩:bb));let cI:=(uS c2 (⟨3,2,i6.1⟩:bB));hH (t1.append [.ao true,.aJ (ap 3 (au (.call {aL:=[.row 0],cq:=[.box [.id,.id,.id]],ac:=[ii,ii],r:= .n .i64 d2.1,dh:=[[al.mk 3 [[.isl 1 (bP.map eU8),.n .i64 d2.2.1,.n .i64 d2.2.2]] .live]],ez:=ii,e5:=[.box [.id,.id,.id]],dD:=[0],dB:=false}) (bO 3 (.a3 (aW.length)) 2))),.aJ (ap 4 (au (.sl 50 (.call {aL:=[.row 0],cq:=[.box [.id,.id,.id]],ac:=[ii,.bF (.cu (.fI (([1,2,3]:List Int).map J)))],r:= .n .i64 i6.1,dh:=[[al.mk 3 [[.isl 1 (bP.map eU8),.n .i64 i6.2.1,.n .i64 i6.2.2]] .live]],ez:=ii,e5:=[.box [.id,.id,.id]],dD:=[0,50],dB:=false})) (bO 2 (.a3 (bh.length)) 2))),(ag 2)]) [0] [.box [.id,.id,.id]] (a9.a3 (.bi gz (k7 d2 gZ) (jY cS (⟨(⟨#[100]⟩:ByteArray),U (d2.1-(1:Int)),(-7),true⟩:bb)) (rN (show [[.s (⟨#[97]⟩:ByteArray),.n .i64 (U ((-1:Int)-ad.1)),.n .i64 bg.1,.b true],[.s (⟨#[98]⟩:ByteArray),.n .i64 (U ((3:Int)+bt.1)),.n .i64 bS.1,.b true],[.s (⟨#[99]⟩:ByteArray),.n .i64 (U (bf.1-(1:Int))),.n .i64 (U ((-1:Int)-cr.1)),.b false]]=(([(⟨(⟨#[97]⟩:ByteArray),U ((-1:Int)-ad.1),bg.1,true⟩:bb),(⟨(⟨#[98]⟩:ByteArray),U ((3:Int)+bt.1),bS.1,true⟩:bb),(⟨(⟨#[99]⟩:ByteArray),U (bf.1-(1:Int)),U ((-1:Int)-cr.1),false⟩:bb)]:List bb)).map cS from rfl) (show 3=([(⟨(⟨#[97]⟩:ByteArray),U ((-1:Int)-ad.1),bg.1,true⟩:bb),(⟨(⟨#[98]⟩:ByteArray),U ((3:Int)+bt.1),bS.1,true⟩:bb),(⟨(⟨#[99]⟩:ByteArray),U (bf.1-(1:Int)),U ((-1:Int)-cr.1),false⟩:bb)]:List bb).length from rfl)) (sI (show 3=([(⟨(⟨#[97]⟩:ByteArray),U ((-1:Int)-ad.1),bg.1,true⟩:bb),(⟨(⟨#[98]⟩:ByteArray),U ((3:Int)+bt.1),bS.1,true⟩:bb),(⟨(⟨#[99]⟩:ByteArray),U (bf.1-(1:Int)),U ((-1:Int)-cr.1),false⟩:bb)]:List bb).length from rfl) cf) m4 (kd (show [[.n .i64 (1:Int)],[.n .i64 (2:Int)],[.n .i64 (3:Int)]]=(([1,2,3]:List Int)).map J from rfl) (show 3=([1,2,3]:List Int).length from rfl)) (nl (show [[.n .i64 (1:Int)],[.n .i64 (2:Int)],[.n .i64 (3:Int)]]=(([1,2,3]:List Int)).map J from rfl) (show 3=([1,2,3]:List Int).length from rfl)) (.bi (ey aA ([1,2,3]:List Int)) (Gg i6 jR) (jY c2 (⟨3,2,i6.1⟩:bB)) (rN (show [[.n .i64 (0:Int),.n .i64 (2:Int),.n .i64 (1:Int)],[.n .i64 (1:Int),.n .i64 (2:Int),.n .i64 de.1]]=(([(⟨0,2,1⟩:bB),(⟨1,2,de.1⟩:bB)]:List bB)).map c2 from rfl) (show 2=([(⟨0,2,1⟩:bB),(⟨1,2,de.1⟩:bB)]:List bB).length from rfl)) (sI (show 2=([(⟨0,2,1⟩:bB),(⟨1,2,de.1⟩:bB)]:List bB).length from rfl) cI) lp (kd (nS (show [[.s (⟨#[97]⟩:ByteArray),.n .i64 (U ((-1:Int)-ad.1)),.n .i64 bg.1,.b true],[.s (⟨#[98]⟩:ByteArray),.n .i64 (U ((3:Int)+bt.1)),.n .i64 bS.1,.b true],[.s (⟨#[99]⟩:ByteArray),.n .i64 (U (bf.1-(1:Int))),.n .i64 (U ((-1:Int)-cr.1)),.b false]]=(([(⟨(⟨#[97]⟩:ByteArray),U ((-1:Int)-ad.1),bg.1,true⟩:bb),(⟨(⟨#[98]⟩:ByteArray),U ((3:Int)+bt.1),bS.1,true⟩:bb),(⟨(⟨#[99]⟩:ByteArray),U (bf.1-(1:Int)),U ((-1:Int)-cr.1),false⟩:bb)]:List bb)).map cS from rfl) (show 3=([(⟨(⟨#[97]⟩:ByteArray),U ((-1:Int)-ad.1),bg.1,true⟩:bb),(⟨(⟨#[98]⟩:ByteArray),U ((3:Int)+bt.1),bS.1,true⟩:bb),(⟨(⟨#[99]⟩:ByteArray),U (bf.1-(1:Int)),U ((-1:Int)-cr.1),false⟩:bb)]:List bb).length from rfl) cf) (fl aW)) (nl (nS (show [[.s (⟨#[97]⟩:ByteArray),.n .i64 (U ((-1:Int)-ad.1)),.n .i64 bg.1,.b true],[.s (⟨#[98]⟩:ByteArray),.n .i64 (U ((3:Int)+bt.1)),.n .i64 bS.1,.b true],[.s (⟨#[99]⟩:ByteArray),.n .i64 (U (bf.1-(1:Int))),.n .i64 (U ((-1:Int)-cr.1)),.b false]]=(([(⟨(⟨#[97]⟩:ByteArray),U ((-1:Int)-ad.1),bg.1,true⟩:bb),(⟨(⟨#[98]⟩:ByteArray),U ((3:Int)+bt.1),bS.1,true⟩:bb),(⟨(⟨#[99]⟩:ByteArray),U (bf.1-(1:Int)),U ((-1:Int)-cr.1),false⟩:bb)]:List bb)).map cS from rfl) (show 3=([(⟨(⟨#[97]⟩:ByteArray),U ((-1:Int)-ad.1),bg.1,true⟩:bb),(⟨(⟨#[98]⟩:ByteArray),U ((3:Int)+bt.1),bS.1,true⟩:bb),(⟨(⟨#[99]⟩:ByteArray),U (bf.1-(1:Int)),U ((-1:Int)-cr.1),false⟩:bb)]:List bb).length from rfl) cf) (fl aW)) (.dy (ey rF aW) (kd (nS (show [[.n .i64 (0:Int),.n .i64 (2:Int),.n .i64 (1:Int)],[.n .i64 (1:Int),.n .i64 (2:Int),.n .i64 de.1]]=(([(⟨0,2,1⟩:bB),(⟨1,2,de.1⟩:bB)]:List bB)).map c2 from rfl) (show 2=([(⟨0,2,1⟩:bB),(⟨1,2,de.1⟩:bB)]:List bB).length from rfl) cI) (fl bh)) (nl (nS (show [[.n .i64 (0:Int),.n .i64 (2:Int),.n .i64 (1:Int)],[.n .i64 (1:Int),.n .i64 (2:Int),.n .i64 de.1]]=(([(⟨0,2,1⟩:bB),(⟨1,2,de.1⟩:bB)]:List bB)).map c2 from rfl) (show 2=([(⟨0,2,1⟩:bB),(⟨1,2,de.1⟩:bB)]:List bB).length from rfl) cI) (fl bh)) (ey pC bh))))) (.bF (.agg [.fI (aW.map cS),.fI (bh.map c2)]))))
  (fun gz =>
  .ret (hH (t1.append [.ao false,(ag 2)]) [0] [.box [.id,.id,.id]] (a9.a3 (.eT gz (kd (show [[.s (⟨#[97]⟩:ByteArray),.n .i64 (U ((-1:Int)-ad.1)),.n .i64 bg.1,.b true],[.s (⟨#[98]⟩:ByteArray),.n .i64 (U ((3:Int)+bt.1)),.n .i64 bS.1,.b true],[.s (⟨#[99]⟩:ByteArray),.n .i64 (U (bf.1-(1:Int))),.n .i64 (U ((-1:Int)-cr.1)),.b false]]=(([(⟨(⟨#[97]⟩:ByteArray),U ((-1:Int)-ad.1),bg.1,true⟩:bb),(⟨(⟨#[98]⟩:ByteArray),U ((3:Int)+bt.1),bS.1,true⟩:bb),(⟨(⟨#[99]⟩:ByteArray),U (bf.1-(1:Int)),U ((-1:Int)-cr.1),false⟩:bb)]:List bb)).map cS from rfl) (show 3=([(⟨(⟨#[97]⟩:ByteArray),U ((-1:Int)-ad.1),bg.1,true⟩:bb),(⟨(⟨#[98]⟩:ByteArray),U ((3:Int)+bt.1),bS.1,true⟩:bb),(⟨(⟨#[99]⟩:ByteArray),U (bf.1-(1:Int)),U ((-1:Int)-cr.1),false⟩:bb)]:List bb).length from rfl)) (nl (show [[.s (⟨#[97]⟩:ByteArray),.n .i64 (U ((-1:Int)-ad.1)),.n .i64 bg.1,.b true],[.s (⟨#[98]⟩:ByteArray),.n .i64 (U ((3:Int)+bt.1)),.n .i64 bS.1,.b true],[.s (⟨#[99]⟩:ByteArray),.n .i64 (U (bf.1-(1:Int))),.n .i64 (U ((-1:Int)-cr.1)),.b false]]=(([(⟨(⟨#[97]⟩:ByteArray),U ((-1:Int)-ad.1),bg.1,true⟩:bb),(⟨(⟨#[98]⟩:ByteArray),U ((3:Int)+bt.1),bS.1,true⟩:bb),(⟨(⟨#[99]⟩:ByteArray),U (bf.1-(1:Int)),U ((-1:Int)-cr.1),false⟩:bb)]:List bb)).map cS from rfl) (show 3=([(⟨(⟨#[97]⟩:ByteArray),U ((-1:Int)-ad.1),bg.1,true⟩:bb),(⟨(⟨#[98]⟩:ByteArray),U ((3:Int)+bt.1),bS.1,true⟩:bb),(⟨(⟨#[99]⟩:ByteArray),U (bf.1-(1:Int)),U ((-1:Int)-cr.1),false⟩:bb)]:List bb).length from rfl)) (ey rF ([(⟨(⟨#[97]⟩:ByteArray),U ((-1:Int)-ad.1),bg.1,true⟩:bb),(⟨(⟨#[98]⟩:ByteArray),U ((3:Int)+bt.1),bS.1,true⟩:bb),(⟨(⟨#[99]⟩:ByteArray),U (bf.1-(1:Int)),U ((-1:Int)-cr.1),false⟩:bb)]:List bb)) (kd (show [[.n .i64 (0:Int),.n .i64 (2:Int),.n .i64 (1:Int)],[.n .i64 (1:Int),.n .i64 (2:Int),.n .i64 de.1]]=(([(⟨0,2,1⟩:bB),(⟨1,2,de.1⟩:bB)]:List bB)).map c2 from rfl) (show 2=([(⟨0,2,1⟩:bB),(⟨1,2,de.1⟩:bB)]:List bB).length from rfl)) (nl (show [[.n .i64 (0:Int),.n .i64 (2:Int),.n .i64 (1:Int)],[.n .i64 (1:Int),.n .i64 (2:Int),.n .i64 de.1]]=(([(⟨0,2,1⟩:bB),(⟨1,2,de.1⟩:bB)]:List bB)).map c2 from rfl) (show 2=([(⟨0,2,1⟩:bB),(⟨1,2,de.1⟩:bB)]:List bB).length from rfl)) (ey pC ([(⟨0,2,1⟩:bB),(⟨1,2,de.1⟩:bB)]:List bB)))) (.bF (.agg [.fI (([(⟨(⟨#[97]⟩:ByteArray),U ((-1:Int)-ad.1),bg.1,true⟩:bb),(⟨(⟨#[98]⟩:ByteArray),U ((3:Int)+bt.1),bS.1,true⟩:bb),(⟨(⟨#[99]⟩:ByteArray),U (bf.1-(1:Int)),U ((-1:Int)-cr.1),false⟩:bb)]:List bb).map cS),.fI (([(⟨0,2,1⟩:bB),(⟨1,2,de.1⟩:bB)]:List bB).map c2)])))))
def ya (bP:List Int)(cl eb:Int):Option ((List bb)×(List bB)×Int×Int) :=
 vV 3 bP cl eb >>= fun ad =>
 if ad.1=true then
  yd bP ad.2.1 ad.2.2 >>= fun bl =>
  some (bl.1,bl.2.1,bl.2.2.1,bl.2.2.2)
 else
  x9 bP ad.2.1 ad.2.2 >>= fun bl =>
  some (bl.1,bl.2.1,bl.2.2.1,bl.2.2.2)
theorem SK {bP:List Int}{cl eb:Int}:bV (ya bP cl eb) (fun a=>Con bp 25 [.ref 0 0 0 0] [[al.mk 3 [[.isl 1 (bP.map eU8),.n .i64 cl,.n .i64 eb]] .live]] (.agg [.isl 4 (a.1.map cS),.isl 3 (a.2.1.map c2)]) [[al.mk 3 [[.isl 1 (bP.map eU8),.n .i64 a.2.2.1,.n .i64 a.2.2.2]] .live]]):=by
 unfold ya
 exact .aD fun ad R =>
  (let t1:List cL:=[(ag 1),.aJ (ap 1 (au (.call {aL:=[.row 0],cq:=[.box [.id,.id,.id]],ac:=[ii,ii],r:= .b ad.1,dh:=[[al.mk 3 [[.isl 1 (bP.map eU8),.n .i64 ad.2.1,.n .i64 ad.2.2]] .live]],ez:=ii,e5:=[.box [.id,.id,.id]],dD:=[0],dB:=false}) []))];
  .ite (fun ae =>
  .aD fun bl aK =>
  .ret (hH (t1.append [.ao true,.aJ (bO 1 (.call {aL:=[.row 0],cq:=[.box [.id,.id,.id]],ac:=[ii],r:= .agg [.isl 4 (bl.1.map cS),.isl 3 (bl.2.1.map c2)],dh:=[[al.mk 3 [[.isl 1 (bP.map eU8),.n .i64 bl.2.2.1,.n .i64 bl.2.2.2]] .live]],ez:=ii,e5:=[.box [.id,.id,.id]],dD:=[0],dB:=false}) 1)]) [0] [.box [.id,.id,.id]] (.b4 (Bs ad R) ae (SW bl aK))))
  (fun ae =>
  .aD fun bl aK =>
  .ret (hH (t1.append [.ao false,.aJ (bO 1 (.call {aL:=[.row 0],cq:=[.box [.id,.id,.id]],ac:=[ii],r:= .agg [.isl 4 (bl.1.map cS),.isl 3 (bl.2.1.map c2)],dh:=[[al.mk 3 [[.isl 1 (bP.map eU8),.n .i64 bl.2.2.1,.n .i64 bl.2.2.2]] .live]],ez:=ii,e5:=[.box [.id,.id,.id]],dD:=[0],dB:=false}) 1)]) [0] [.box [.id,.id,.id]] (.b4 (Bs ad R) ae (SJ bl aK)))))
def Fg (b0:List bb)(e9:Int)(aT:List Int):(Int×Int×Int×(List Int))→S:=fun (gy,aI,ct,ab)=>eM [(0,.ref 0 0 0 0),(5,.bu 1 0 0 ab.length),(14,.isl 4 (b0.map cS)),(15,.n .i64 e9),(16,.n .i64 gy)] [[al.mk 3 [[.isl 1 (aT.map eU8),.n .i64 aI,.n .i64 ct]] .live],(aq 1 J ab)]
def Fq (b0:List bb)(e9:Int)(aT:List Int):(Int×Int×(List Int))→eP
 | a=>⟨some 0,[(0,.ref 0 0 0 0),(5,.bu 1 0 0 a.2.2.length)],[[al.mk 3 [[.isl 1 (aT.map eU8),.n .i64 a.1,.n .i64 a.2.1]] .live],(aq 1 J a.2.2)]⟩
def ts (b0:List bb)(e9:Int)(aT:List Int)(gy aI ct:Int)(ab:List Int):Option ((Int×Int×Int×(List Int))⊕(Int×Int×(List Int))) :=
 if (decide (gy<e9))=true then
  if 0≤gy∧gy<b0.length then
  b0[gy.toNat]? >>= fun a2 =>
  if a2.np=true then
   some (.inl (U (gy+(1:Int)),aI,ct,ab))
  else
   jZ 7 aT aI ct >>= fun bw =>
   if 0≤(U ((2:Int)*gy))∧(U ((2:Int)*gy))<(ab.length:Nat) then
   if (0+(U ((2:Int)*gy)).toNat)<ab.length then
   jZ 9 aT bw.2.1 bw.2.2 >>= fun fc =>
   if 0≤(U ((U ((2:Int)*gy))+(1:Int)))∧(U ((U ((2:Int)*gy))+(1:Int)))<(ab.length:Nat) then
   if (0+(U ((U ((2:Int)*gy))+(1:Int))).toNat)<(ab.set (0+(U ((2:Int)*gy)).toNat) (U (bw.1-(3:Int)))).length then
   some (.inl (U (gy+(1:Int)),fc.2.1,fc.2.2,(ab.set (0+(U ((2:Int)*gy)).toNat) (U (bw.1-(3:Int)))).set (0+(U ((U ((2:Int)*gy))+(1:Int))).toNat) (U (0-fc.1))))
   else none
   else none
   else none
   else none
  else none
 else
  some (.inr (aI,ct,ab))
def Bt (b0:List bb)(e9:Int)(aT:List Int)(gy aI ct:Int)(ab:List Int):Option (Int×Int×(List Int)):=iter (fun w:Int×Int×Int×(List Int)=>ts b0 e9 aT w.1 w.2.1 w.2.2.1 w.2.2.2) (gy,aI,ct,ab)
theorem RC {b0:List bb}{e9:Int}{aT:List Int}{gy aI ct:Int}{ab:List Int}:bV (ts b0 e9 aT gy aI ct ab) (fo bp 48 1 26 [1,1,0,1,0,0] (Fg b0 e9 aT (gy,aI,ct,ab)) (Fg b0 e9 aT) (Fq b0 e9 aT)):=by
 unfold ts
 exact .ite (fun o =>
  .bq fun R =>
  .aD fun a2 ay =>
  (let t1:List cL:=[(ag 1),.ao true,.aJ (bO 2 (.c4 (cS a2)) 3),(ag 3)];
  have a9:=((.dy o R.1 (eY cS R.2) (cQ cS ay)):cT _);
  .ite (fun aK =>
  .ret (bW (t1.append [.ao false,(ag 2),.bj [0,1] [.box [.id,.id,.id],.pure] (bT [0,5,14,15,16])]) (a9.a3 (.aF (dU aK) (aB 1 .live aA ab)))))
  (fun aK =>
  .aD fun bw bQ =>
  .bq fun bE =>
  .bq fun c6 =>
  .aD fun fc eu =>
  .bq fun ec =>
  .bq fun dE =>
  .ret (let aW:=(U ((2:Int)*gy));let bh:=(U (bw.1-(3:Int)));let cf:=(U (aW+(1:Int)));let cI:=U (0-fc.1);bW (t1.append [.ao true,.aJ (ap 4 (au (.call {aL:=[.row 0],cq:=[.box [.id,.id,.id]],ac:=[ii,ii],r:= .n .i64 bw.1,dh:=[[al.mk 3 [[.isl 1 (aT.map eU8),.n .i64 bw.2.1,.n .i64 bw.2.2]] .live]],ez:=ii,e5:=[.box [.id,.id,.id]],dD:=[0],dB:=false}) (ap 2 (au .dx [])))),.aJ (ap 5 (au (.call {aL:=[.row 0],cq:=[.box [.id,.id,.id]],ac:=[ii,ii],r:= .n .i64 fc.1,dh:=[[al.mk 3 [[.isl 1 (aT.map eU8),.n .i64 fc.2.1,.n .i64 fc.2.2]] .live]],ez:=ii,e5:=[.box [.id,.id,.id]],dD:=[0],dB:=false}) (ap 2 (au .dx [])))),(ag 2),.bj [0,1] [.box [.id,.id,.id],.dL (aq 1 J ((ab.set (0+aW.toNat) bh).set (0+cf.toNat) cI))] [(0,ii),(5,gY (((ab.set (0+aW.toNat) bh).set (0+cf.toNat) cI).length)),(14,ii),(15,ii),(16,ii)]]) (a9.a3 (.bi (dN aK) (k7 bw bQ) bE.1 bE.2 (h9 J c6) (hp 1) (k7 fc eu) ec.1 (.e7 ec.2 (CW (ga (dW J ab) (0+aW.toNat) bh) dE) (hp 1) (eA 1 .live (ga (ga (dW J ab) (0+aW.toNat) bh) (0+cf.toNat) cI)) (aB 1 .live aA ((ab.set (0+aW.toNat) bh).set (0+cf.toNat) cI)) (hC (hC (fl ab) (0+aW.toNat) bh) (0+cf.toNat) cI))))))))
  (fun o =>
  .ret (bW [(ag 1),.ao false,.bj [0,1] [.box [.id,.id,.id],.pure] (bT [0,5])] (.aF o (aB 1 .live aA ab))))
theorem R9 {b0:List bb}{e9:Int}{aT:List Int}{gy aI ct:Int}{ab:List Int}{r} (h:Bt b0 e9 aT gy aI ct ab=some r):fp bp 48 1 26 [1,1,0,1,0,0] (Fg b0 e9 aT) (Fq b0 e9 aT) (gy,aI,ct,ab) r:=fr (fun _=>RC) h
def yb (aO:cw)(bP:List Int)(cl eb:Int):Option ((List Int)×Int×Int) :=
 if 0≤(U ((2:Int)*(len_ cS aO.cx)))∧(8:Int)*(U ((2:Int)*(len_ cS aO.cx)))≤281474976710656∧(U ((2:Int)*(len_ cS aO.cx)))<9223372036854775808 then
 Bt aO.cx (len_ cS aO.cx) bP 0 cl eb (List.replicate (U ((2:Int)*(len_ cS aO.cx))).toNat 0:List Int) >>= fun b3 =>
 vV 8 bP b3.1 b3.2.1 >>= fun bl =>
 if bl.1=true then
  if 0≤(U (((b3.2.2.length:Nat):Int)-(1:Int)))∧(U (((b3.2.2.length:Nat):Int)-(1:Int)))<(b3.2.2.length:Nat) then
  if (0+(U (((b3.2.2.length:Nat):Int)-(1:Int))).toNat)<b3.2.2.length then
  some (b3.2.2.set (0+(U (((b3.2.2.length:Nat):Int)-(1:Int))).toNat) 4,bl.2.1,bl.2.2)
  else none
  else none
 else
  some (b3.2.2,bl.2.1,bl.2.2)
 else none
theorem SL {aO:cw}{bP:List Int}{cl eb:Int}:bV (yb aO bP cl eb) (fun a=>Con bp 26 [.ref 0 0 0 0,.agg (fU aO)] [[al.mk 3 [[.isl 1 (bP.map eU8),.n .i64 cl,.n .i64 eb]] .live]] (.isl 1 (a.1.map J)) [[al.mk 3 [[.isl 1 (bP.map eU8),.n .i64 a.2.1,.n .i64 a.2.2]] .live]]):=by
 unfold yb
 exact .bq fun o =>
  .aD fun b3 ae =>
  .aD fun bl aK =>
  (let cf:=(U ((2:Int)*(len_ cS aO.cx)));let cI:=(List.replicate cf.toNat 0:List Int);let t1:List cL:=[(ag 2),(ag 6),(ag 4),.bj [0,7] [.box [.id,.id,.id],.dL (aq 1 J cI)] [(0,ii),(5,gY (cI.length)),(14,ii),(15,ii),(16,ii)],(Fq aO.cx (len_ cS aO.cx) bP b3).gh,.aJ (ap 1 (au (.call {aL:=[.row 0],cq:=[.box [.id,.id,.id]],ac:=[ii,ii],r:= .b bl.1,dh:=[[al.mk 3 [[.isl 1 (bP.map eU8),.n .i64 bl.2.1,.n .i64 bl.2.2]] .live]],ez:=ii,e5:=[.box [.id,.id,.id]],dD:=[0],dB:=false}) []))];
  have a9:=((.bi o.1 (Int.le_refl cf) o.2.1 o.2.2 (eA 1 .live (ls J cf.toNat 0)) (aB 1 .live aA cI) (lP cf.toNat (0:Int)) (R9 ae) (.ax (Bs bl aK))):cT _);
  .ite (fun bI =>
  .bq fun bQ =>
  .bq fun bE =>
  .ret (let aW:=(U (((b3.2.2.length:Nat):Int)-(1:Int)));let bh:=hC (fl b3.2.2) (0+aW.toNat) 4;hH (t1.append [.ao true,.aJ (ap 5 (au .dx [])),(ag 2)]) [0] [.box [.id,.id,.id]] (a9.a3 (.gH bI bQ.1 bQ.2 (h9 J bE) (hp 1) (kd (ga (dW J b3.2.2) (0+aW.toNat) 4) bh) (nl (ga (dW J b3.2.2) (0+aW.toNat) 4) bh) (ey aA (b3.2.2.set (0+aW.toNat) 4)))) (.bF (.cu (.fI ((b3.2.2.set (0+aW.toNat) 4).map J))))))
  (fun bI =>
  .ret (hH (t1.append [.ao false,(ag 2)]) [0] [.box [.id,.id,.id]] (a9.a3 (.dy bI (jH J b3.2.2) (i3 J b3.2.2) (ey aA b3.2.2))) (.bF (.cu (.fI (b3.2.2.map J)))))))
def GJ (bP:List Int)(cl eb:Int):Option ((List bb)×(List bB)×(List Int)×Int×Int) :=
 ya bP cl eb >>= fun ad =>
 yb (⟨ad.1,ad.2.1⟩:cw) bP ad.2.2.1 ad.2.2.2 >>= fun bg =>
 some (ad.1,ad.2.1,bg.1,bg.2.1,bg.2.2)
theorem SM {bP:List Int}{cl eb:Int}:bV (GJ bP cl eb) (fun a=>Con bp 13 [.ref 0 0 0 0] [[al.mk 3 [[.isl 1 (bP.map eU8),.n .i64 cl,.n .i64 eb]] .live]] (.dm [.agg [.isl 4 (a.1.map cS),.isl 3 (a.2.1.map c2)],.isl 1 (a.2.2.1.map J)]) [[al.mk 3 [[.isl 1 (bP.map eU8),.n .i64 a.2.2.2.1,.n .i64 a.2.2.2.2]] .live]]):=by
 unfold GJ
 exact .aD fun ad R =>
  .aD fun bg ay =>
  .ret (hH [(ag 2),.aJ (bO 1 (.call {aL:=[.row 0],cq:=[.box [.id,.id,.id]],ac:=[ii],r:= .agg [.isl 4 (ad.1.map cS),.isl 3 (ad.2.1.map c2)],dh:=[[al.mk 3 [[.isl 1 (bP.map eU8),.n .i64 ad.2.2.1,.n .i64 ad.2.2.2]] .live]],ez:=ii,e5:=[.box [.id,.id,.id]],dD:=[0],dB:=false}) 2),.aJ (bO 3 (.call {aL:=[.row 0],cq:=[.box [.id,.id,.id]],ac:=[ii,ii],r:= .isl 1 (bg.1.map J),dh:=[[al.mk 3 [[.isl 1 (bP.map eU8),.n .i64 bg.2.1,.n .i64 bg.2.2]] .live]],ez:=ii,e5:=[.box [.id,.id,.id]],dD:=[0],dB:=false}) 2)] [0] [.box [.id,.id,.id]] (.aF (SK ad R) (SL bg ay)))
def BR (hg:List Int):Option (cw×(List Int)) :=
 BQ hg >>= fun ad =>
 GJ hg 0 ad >>= fun bg =>
 some ((⟨bg.1,bg.2.1⟩:cw),bg.2.2.1)
theorem SX {hg:List Int}:bV (BR hg) (fun r=>Con bp 4 [.isl 1 (hg.map eU8)] [] (.dm [.agg (fU r.1),.isl 1 (r.2.map J)]) []):=by
 unfold BR
 exact .aD fun ad R =>
  .aD fun bg ay =>
  .ret (b1 [(ag 2),.aJ (ap 1 (au (.call {aL:=[],cq:=[],ac:=[ii],r:= .ref 0 0 0 0,dh:=[[al.mk 3 [[.isl 1 (hg.map eU8),.n .i64 (0:Int),.n .i64 ad]] .live]],ez:=ii,e5:=[.box [.id,.id,.id]],dD:=[],dB:=false}) (au (.call {aL:=[.row 3],cq:=[.box [.id,.id,.id]],ac:=[ii],r:= .dm [.agg [.isl 4 (bg.1.map cS),.isl 3 (bg.2.1.map c2)],.isl 1 (bg.2.2.1.map J)],dh:=[[al.mk 3 [[.isl 1 (hg.map eU8),.n .i64 bg.2.2.2.1,.n .i64 bg.2.2.2.2]] .live]],ez:=ii,e5:=[.box [.id,.id,.id]],dD:=[3],dB:=false}) (ap 4 []))))] (.aF (SV ad R) (SM bg ay)))
def BS (qJ:Int):Option Bool :=
 if (decide ((97:Int)≤qJ))=true then
  some (decide (qJ≤(122:Int)))
 else
  some false
theorem SY {qJ:Int}:bV (BS qJ) (fun r=>Con bp 92 [.n .u8 qJ] [] (.b r) []):=by
 unfold BS
 exact .ite (fun o =>
  .ret (b1 [(ag 1),.aJ (bO 5 (.ao true) 1)] (.b4 o o o)))
  (fun o =>
  .ret (b1 [(ag 1),.aJ (ap 3 (cO 2 (au (.ao false) (ap 1 []))))] (.b4 o o o)))
def G1 (qJ:Int):Option Bool :=
 if (decide ((48:Int)≤qJ))=true then
  some (decide (qJ≤(57:Int)))
 else
  some false
theorem S7 {qJ:Int}:bV (G1 qJ) (fun r=>Con bp 93 [.n .u8 qJ] [] (.b r) []):=by
 unfold G1
 exact .ite (fun o =>
  .ret (b1 [(ag 1),.aJ (bO 5 (.ao true) 1)] (.b4 o o o)))
  (fun o =>
  .ret (b1 [(ag 1),.aJ (ap 3 (cO 2 (au (.ao false) (ap 1 []))))] (.b4 o o o)))
def FO (aO:ByteArray)(om:Int):Int→S:=fun kQ=>eM [(0,.s aO),(5,.n .i64 om),(6,.n .i64 kQ)] []
def Le (aO:ByteArray)(om:Int):((Unit)⊕(Unit))→eP
 | .inl a=>⟨some 0,[(0,.s aO)],[]⟩
 | .inr a=>⟨none,[(2,.b false)],[]⟩
def vK (aO:ByteArray)(om kQ:Int):Option ((Int)⊕((Unit)⊕(Unit))) :=
 if (decide (kQ<om))=true then
  if 0≤kQ∧kQ<(aO.size:Nat) then
  BS ((aO.data.toList.getD kQ.toNat 0).toNat:Int) >>= fun bg =>
  if bg=true then
   some (.inl (U (kQ+(1:Int))))
  else
   if (kQ == (0:Int))=true then
    some (.inr (.inr ()))
   else
    G1 ((aO.data.toList.getD kQ.toNat 0).toNat:Int) >>= fun bS =>
    if bS=true then
     some (.inl (U (kQ+(1:Int))))
    else
     some (.inr (.inr ()))
  else none
 else
  some (.inr (.inl ()))
def GK (aO:ByteArray)(om kQ:Int):Option ((Unit)⊕(Unit)):=iter (fun w:Int=>vK aO om w) kQ
theorem R0 {aO:ByteArray}{om kQ:Int}:bV (vK aO om kQ) (fo bp 33 0 69 [1,0,1,0,0] (FO aO om kQ) (FO aO om) (Le aO om)):=by
 unfold vK
 exact .ite (fun o =>
  .bq fun R =>
  .aD fun bg ay =>
  (let t1:List cL:=[(ag 1),.ao true,(ag 2)];
  have a9:=((.ea o R.1 R.2 (SY bg ay) (cm.b bg)):cT _);
  .ite (fun aK =>
  .ret (bW (t1.append [.aJ (ap 3 (au (bM 1 (.b bg) true) (ap 2 (cO 3 (ap 5 (cO 1 (au (.ao false) []))))))),.ao false,(ag 2),.bj [] [] (bT [0,5,6])]) (a9.a3 (.e7 (dU aK) (dU aK) (dU aK) (dU aK) (dU aK) eW))))
  (fun aK =>
  (have gG:=a9.a3 (.b4 (dN aK) (dN aK) (dN aK));
  .ite (fun bI =>
  .ret (bW (t1.append [.aJ (ap 3 (au (bM 1 (.b bg) true) (ap 5 (cO 5 (au (.ao true) (au (.ao true) [])))))),.ao true,(ag 1),.bj [] [] (bT [2])]) (gG.a3 (.bi bI bI bI bI bI (dN aK) bI (dN aK) (.ax cv)))))
  (fun bI =>
  .aD fun bS bE =>
  (let t4:List cL:=t1.append [.aJ (ap 3 (au (bM 1 (.b bg) true) (ap 8 (au (bM 1 (.b bS) true) (ap 1 (au (.ao false) (au (.ao true) [])))))))];
  have nM:=gG.a3 (.bi bI bI bI R.1 R.2 bI (S7 bS bE) (cm.b bS) (.dy bI (dN aK) bI (dN aK)));
  .ite (fun c6 =>
  .ret (bW (t4.append [.ao false,(ag 2),.bj [] [] (bT [0,5,6])]) (nM.a3 (.ax (dU c6)))))
  (fun c6 =>
  .ret (bW (t4.append [.ao true,(ag 1),.bj [] [] (bT [2])]) (nM.a3 (.ax (dN c6)))))))))))
  (fun o =>
  .ret (bW [(ag 1),.ao false,.bj [] [] (bT [0])] (.ax o)))
theorem Gh {aO:ByteArray}{om kQ:Int}{r} (h:GK aO om kQ=some r):fp bp 33 0 69 [1,0,1,0,0] (FO aO om) (Le aO om) kQ r:=fr (fun _=>R0) h
def tI (aO:ByteArray):Option Bool :=
 GK aO (aO.size:Int) 0 >>= fun ad =>
 match ad with
 | .inl bs=>(if (!(aO.toList == (⟨#[]⟩:ByteArray).toList))=true then
  some (decide ((aO.size:Int)≤(8:Int)))
  else
   some false)
 | .inr bs=>(some false)
theorem Tn {aO:ByteArray}:bV (tI aO) (fun r=>Con bp 69 [.s aO] [] (.b r) []):=by
 unfold tI
 exact .aD fun ad R =>
  (let t1:List cL:=[(ag 1),(ag 3),.bj [] [] (bT [0,5,6])];
  (by
  rcases ad with bs|bs
  ·exact ((let t2:List cL:=t1.append [.sub (.exit 0) [(0,.s aO)] []];
  .ite (fun ay =>
  .ret (b1 (t2.append [.aJ (bO 6 (.ao true) 1)]) (.ea (Gh R) ay ay ay ay)))
  (fun ay =>
  .ret (b1 (t2.append [.aJ (ap 3 (cO 3 (au (.ao false) (ap 1 []))))]) (.ea (Gh R) ay ay ay ay)))))
  ·exact (.ret (b1 (t1.append [.sub (.ret) [(2,.b false)] []]) (.ax (Gh R))))))
def v9 (aZ:Int):Option Bool :=
 if (decide ((-50:Int)≤aZ))=true then
  some (decide (aZ≤(50:Int)))
 else
  some false
theorem Lo {aZ:Int}:bV (v9 aZ) (fun r=>Con bp 70 [.n .i64 aZ] [] (.b r) []):=by
 unfold v9
 exact .ite (fun o =>
  .ret (b1 [(ag 1),.aJ (bO 5 (.ao true) 1)] (.b4 o o o)))
  (fun o =>
  .ret (b1 [(ag 1),.aJ (ap 3 (cO 2 (au (.ao false) (ap 1 []))))] (.b4 o o o)))
def yh (dI:bb):Option Bool :=
 tI dI.mO >>= fun ad =>
 if ad=true then
  v9 dI.lN >>= fun bl =>
  if bl=true then
   v9 dI.lO >>= fun bS =>
   some bS
  else
   some false
 else
  some false
theorem S8 {dI:bb}:bV (yh dI) (fun r=>Con bp 43 [.agg (cS dI)] [] (.b r) []):=by
 unfold yh
 exact .aD fun ad R =>
  (have bY:=((.aF (Tn ad R) (cm.b ad)):cT _);
  .ite (fun ae =>
  .aD fun bl aK =>
  (have a9:=bY.a3 (.e7 ae ae ae (Lo bl aK) (cm.b bl) ae);
  .ite (fun bI =>
  .aD fun bS bE =>
  .ret (b1 [(ag 2),.aJ (ap 2 (au (bM 1 (.b ad) true) (ap 3 (au (bM 1 (.b bl) true) (au (.ao true) (ap 3 (au (bM 1 (.b bS) true) (au (.ao true) (ap 1 [])))))))))] (a9.a3 (.e7 bI bI bI (Lo bS bE) (cm.b bS) bI))))
  (fun bI =>
  .ret (b1 [(ag 2),.aJ (ap 2 (au (bM 1 (.b ad) true) (ap 3 (au (bM 1 (.b bl) true) (au (.ao true) (ap 1 (cO 3 (au (.ao false) (ap 1 [])))))))))] (a9.a3 (.dy bI bI bI bI))))))
  (fun ae =>
  .ret (b1 [(ag 2),.aJ (ap 2 (au (bM 1 (.b ad) true) (ap 1 (cO 3 (au (.ao false) (ap 1 (cO 3 (ap 2 []))))))))] (bY.a3 (.eT ae ae ae ae eW eW eW)))))
def Bu (dI:bb)(cu:ByteArray):Option Bool :=
 some (dI.mO.toList == cu.toList)
theorem Sa {dI:bb}{cu:ByteArray}:bV (Bu dI cu) (fun r=>Con bp 72 [.agg (cS dI),.dV 1 [[.s cu]] 0 0] [] (.b r) []):=by
 unfold Bu
 exact .ret (b1 [(ag 2),(ag 5)] .nil)
def Eh (aO:List bb)(gq:ByteArray)(cZ:Int):Int→S:=fun c1=>eM [(0,.isl 4 (aO.map cS)),(1,.fn 72 [.dV 1 [[.s gq]] 0 0]),(7,.n .i64 cZ),(8,.n .i64 c1)] []
def KI (aO:List bb)(gq:ByteArray)(cZ:Int):((Unit)⊕(Int))→eP
 | .inl a=>⟨some 0,[],[]⟩
 | .inr a=>⟨none,[(4,.n .i64 a)],[]⟩
def xK (aO:List bb)(gq:ByteArray)(cZ c1:Int):Option ((Int)⊕((Unit)⊕(Int))) :=
 if (decide (c1<cZ))=true then
  if 0≤c1∧c1<aO.length then
  aO[c1.toNat]? >>= fun a2 =>
  Bu a2 gq >>= fun bt =>
  if bt=true then
   some (.inr (.inr c1))
  else
   some (.inl (U (c1+(1:Int))))
  else none
 else
  some (.inr (.inl ()))
def Ew (aO:List bb)(gq:ByteArray)(cZ c1:Int):Option ((Unit)⊕(Int)):=iter (fun w:Int=>xK aO gq cZ w) c1
theorem QJ {aO:List bb}{gq:ByteArray}{cZ c1:Int}:bV (xK aO gq cZ c1) (fo bp 19 0 71 [1,0,1,0,0] (Eh aO gq cZ c1) (Eh aO gq cZ) (KI aO gq cZ)):=by
 unfold xK
 exact .ite (fun o =>
  .bq fun R =>
  .aD fun a2 ay =>
  .aD fun bt bI =>
  (let t1:List cL:=[(ag 1),.ao true,(ag 2),.aJ (ap 4 (au (.c4 (cS a2)) (au (bM 2 (.b bt) true) [])))];
  have a9:=((.e7 o R.1 (eY cS R.2) (cQ cS ay) (Sa bt bI) (cm.b bt)):cT _);
  .ite (fun bQ =>
  .ret (bW (t1.append [.ao true,(ag 2),.bj [] [] (bT [4])]) (a9.a3 (.ax bQ))))
  (fun bQ =>
  .ret (bW (t1.append [.ao false,(ag 2),.bj [] [] [(0,ii),(1,.comp [.cu .id]),(7,ii),(8,ii)]]) (a9.a3 (.ax bQ))))))
  (fun o =>
  .ret (bW [(ag 1),.ao false,.bj [] [] []] (.ax o)))
theorem KL {aO:List bb}{gq:ByteArray}{cZ c1:Int}{r} (h:Ew aO gq cZ c1=some r):fp bp 19 0 71 [1,0,1,0,0] (Eh aO gq cZ) (KI aO gq cZ) c1 r:=fr (fun _=>QJ) h
def A1 (aO:List bb)(jK:ByteArray):Option Int :=
 Ew aO jK (len_ cS aO) 0 >>= fun ad =>
 match ad with
 | .inl bs=>(some (-1))
 | .inr bs=>(some bs)
theorem Q4 {aO:List bb}{jK:ByteArray}:bV (A1 aO jK) (fun r=>Con bp 71 [.isl 4 (aO.map cS),.fn 72 [.dV 1 [[.s jK]] 0 0]] [] (.n .i64 r) []):=by
 unfold A1
 exact .aD fun ad R =>
  (let t1:List cL:=[(ag 1),(ag 3),.bj [] [] [(0,ii),(1,.comp [.cu .id]),(7,ii),(8,ii)]];
  (by
  rcases ad with bs|bs
  ·exact (.ret (b1 (t1.append [.sub (.exit 0) [] [],(ag 1)]) (.ax (KL R))))
  ·exact (.ret (b1 (t1.append [.sub (.ret) [(4,.n .i64 bs)] []]) (.ax (KL R))))))
def x6 (aO:cw)(wQ:ByteArray):Option Int :=
 A1 aO.cx wQ >>= fun ad =>
 some ad
theorem Sq {aO:cw}{wQ:ByteArray}:bV (x6 aO wQ) (fun r=>Con bp 44 [.agg (fU aO),.s wQ] [] (.n .i64 r) []):=by
 unfold x6
 exact .aD fun ad R =>
  .ret (b1 [(ag 3),.aJ (bO 3 (.call {ac:=[ii,.comp [.ptr [.id]]],r:= .n .i64 ad,dB:=true,dD:=[1]}) 1)] (.b4 (k9 (NO wQ):gU [[.s wQ]]) (Q4 ad R) (cm.n .i64 ad)))
def xR (aO:cw)(lB:bB):Option Bool :=
 if (decide (lB.f8<(0:Int)))=true then
  some false
 else
  if (decide ((len_ cS aO.cx)≤lB.f8))=true then
   some false
  else
   if (decide (lB.f9<(0:Int)))=true then
    some false
   else
    if (decide ((len_ cS aO.cx)≤lB.f9))=true then
     some false
    else
     if (decide (lB.lg<(1:Int)))=true then
      some false
     else
      if (decide ((3:Int)<lB.lg))=true then
       some false
      else
       if 0≤lB.f8∧lB.f8<aO.cx.length then
       aO.cx[lB.f8.toNat]? >>= fun nK =>
       if 0≤lB.f9∧lB.f9<aO.cx.length then
       aO.cx[lB.f9.toNat]? >>= fun pp =>
       if (nK.lN != pp.lN)=true then
        if nK.np=true then
         some (!pp.np)
        else
         some true
       else
        if (nK.lO != pp.lO)=true then
         if nK.np=true then
          some (!pp.np)
         else
          some true
        else
         some false
       else none
       else none
theorem Rq {aO:cw}{lB:bB}:bV (xR aO lB) (fun r=>Con bp 47 [.dV 2 [(fU aO)] 0 0,.agg (c2 lB)] [] (.b r) []):=by
 unfold xR
 exact .ite (fun o =>
  .ret (b1 [(ag 2),(ag 6),.aJ (ap 4 (cO 4 (au (.ao true) (ap 1 (cO 3 (ap 2 (cO 4 (ap 2 (cO 3 (ap 2 (cO 3 (ap 1 [])))))))))))),.ao true,(ag 1)] (.bi o o o o o cv cv cv (.bi cv cv cv cv cv cv cv cv (.b4 cv cv cv)))))
  (fun o =>
  .ite (fun R =>
  .ret (b1 [(ag 2),(ag 6),.aJ (ap 8 (au (.ao false) (ap 1 (cO 3 (au (.ao true) (ap 1 (cO 4 (ap 2 (cO 3 (ap 2 (cO 3 (ap 1 [])))))))))))),.ao true,(ag 1)] (.bi o o o o o R R R (.bi R cv cv cv cv cv cv cv (.dy cv cv cv cv)))))
  (fun R =>
  (have bY:=((.bi o o o o o R R R (.ax R)):cT _);
  .ite (fun ae =>
  .ret (b1 [(ag 2),(ag 6),.aJ (ap 8 (au (.ao false) (ap 4 (au (.ao false) (ap 1 (cO 4 (au (.ao true) (ap 1 (cO 3 (ap 2 (cO 3 (ap 1 [])))))))))))),.ao true,(ag 1)] (bY.a3 (.bi ae ae ae ae ae cv cv cv (.dy cv cv cv cv)))))
  (fun ae =>
  .ite (fun ay =>
  .ret (b1 [(ag 2),(ag 6),.aJ (ap 8 (au (.ao false) (ap 4 (au (.ao false) (ap 5 (au (.ao false) (ap 1 (cO 3 (au (.ao true) (ap 1 (cO 3 (ap 1 [])))))))))))),.ao true,(ag 1)] (bY.a3 (.bi ae ae ae ae ae ay ay ay (.ea ay cv cv cv cv)))))
  (fun ay =>
  (have a9:=bY.a3 (.bi ae ae ae ae ae ay ay ay (.ax ay));
  .ite (fun aK =>
  .ret (b1 [(ag 2),(ag 6),.aJ (ap 8 (au (.ao false) (ap 4 (au (.ao false) (ap 5 (au (.ao false) (ap 4 (au (.ao false) (ap 1 (cO 3 (au (.ao true) []))))))))))),.ao true,(ag 1)] (a9.a3 (.ea aK aK aK aK cv))))
  (fun aK =>
  (let t3:List cL:=[(ag 2),(ag 6),.aJ (ap 8 (au (.ao false) (ap 4 (au (.ao false) (ap 5 (au (.ao false) (ap 4 (au (.ao false) (ap 4 (au (.ao false) []))))))))))];
  .ite (fun bI =>
  .ret (b1 (t3.append [.ao true,(ag 1)]) (a9.a3 (.ea aK aK aK aK bI))))
  (fun bI =>
  .bq fun bQ =>
  .aD fun nK c6 =>
  .bq fun dj =>
  .aD fun pp ec =>
  (let t4:List cL:=t3.append [.ao false,.aJ (ap 7 (au (.c4 (cS nK)) (bO 7 (.c4 (cS pp)) 4)))];
  have nM:=a9.a3 (.bi aK aK aK aK bI bQ.1 (eY cS bQ.2) (cQ cS c6) (.b4 dj.1 (eY cS dj.2) (cQ cS ec)));
  .ite (fun dE =>
  (have kH:=nM.a3 (.bi dE dE dE dE dE dE cv cv (.ax cv));
  .ite (fun eU =>
  .ret (b1 (t4.append [.aJ (ap 6 (cO 5 (au (.ao true) (bO 6 (.ao true) 3))))]) (kH.a3 (.ea eU eU cv eU cv))))
  (fun eU =>
  .ret (b1 (t4.append [.aJ (ap 6 (cO 5 (au (.ao true) (ap 4 (cO 2 (au (.ao false) (ap 3 [])))))))]) (kH.a3 (.ea eU eU cv eU cv))))))
  (fun dE =>
  .ite (fun eU =>
  (have kH:=nM.a3 (.bi dE dE dE dE dE dE eU eU (.ax eU));
  .ite (fun d3 =>
  .ret (b1 (t4.append [.aJ (ap 11 (au (.ao false) (ap 6 (au (.ao true) (bO 1 (.ao true) 1)))))]) (kH.a3 (.e7 d3 d3 eU d3 eU eU))))
  (fun d3 =>
  .ret (b1 (t4.append [.aJ (ap 11 (au (.ao false) (ap 4 (cO 2 (au (.ao false) (bO 1 (.ao true) 1))))))]) (kH.a3 (.e7 d3 d3 eU d3 eU eU))))))
  (fun eU =>
  .ret (b1 (t4.append [.aJ (ap 11 (au (.ao false) (ap 1 (cO 3 (ap 2 (cO 2 (au (.ao false) (ap 1 []))))))))]) (nM.a3 (.bi dE dE dE dE dE dE eU eU (.dy eU eU eU eU))))))))))))))))
def Bm (lB:bB)(cu:cw):Option Bool :=
 xR cu lB >>= fun ad =>
 some (!ad)
theorem R4 {lB:bB}{cu:cw}:bV (Bm lB cu) (fun r=>Con bp 46 [.agg (c2 lB),.dV 2 [(fU cu)] 0 0] [] (.b r) []):=by
 unfold Bm
 exact .aD fun ad R =>
  .ret (b1 [(ag 2),.aJ (bO 1 (bM 2 (.b ad) true) 2)] (.aF (Rq ad R) (cm.b ad)))
def Eg (aO:List bB)(gq:List bb)(iW:List bB)(cZ:Int):Int→S:=fun c1=>eM [(0,.isl 3 (aO.map c2)),(1,.fn 46 [.dV 2 [[.isl 4 (gq.map cS),.isl 3 (iW.map c2)]] 0 0]),(7,.n .i64 cZ),(8,.n .i64 c1)] []
def KH (aO:List bB)(gq:List bb)(iW:List bB)(cZ:Int):((Unit)⊕(Int))→eP
 | .inl a=>⟨some 0,[],[]⟩
 | .inr a=>⟨none,[(4,.n .i64 a)],[]⟩
def u1 (aO:List bB)(gq:List bb)(iW:List bB)(cZ c1:Int):Option ((Int)⊕((Unit)⊕(Int))) :=
 if (decide (c1<cZ))=true then
  if 0≤c1∧c1<aO.length then
  aO[c1.toNat]? >>= fun a2 =>
  Bm a2 (⟨gq,iW⟩:cw) >>= fun bt =>
  if bt=true then
   some (.inr (.inr c1))
  else
   some (.inl (U (c1+(1:Int))))
  else none
 else
  some (.inr (.inl ()))
def Et (aO:List bB)(gq:List bb)(iW:List bB)(cZ c1:Int):Option ((Unit)⊕(Int)):=iter (fun w:Int=>u1 aO gq iW cZ w) c1
theorem QI {aO:List bB}{gq:List bb}{iW:List bB}{cZ c1:Int}:bV (u1 aO gq iW cZ c1) (fo bp 19 0 73 [1,0,1,0,0] (Eg aO gq iW cZ c1) (Eg aO gq iW cZ) (KH aO gq iW cZ)):=by
 unfold u1
 exact .ite (fun o =>
  .bq fun R =>
  .aD fun a2 ay =>
  .aD fun bt bI =>
  (let t1:List cL:=[(ag 1),.ao true,(ag 2),.aJ (ap 4 (au (.c4 (c2 a2)) (au (bM 2 (.b bt) true) [])))];
  have a9:=((.e7 o R.1 (eY c2 R.2) (cQ c2 ay) (R4 bt bI) (cm.b bt)):cT _);
  .ite (fun bQ =>
  .ret (bW (t1.append [.ao true,(ag 2),.bj [] [] (bT [4])]) (a9.a3 (.ax bQ))))
  (fun bQ =>
  .ret (bW (t1.append [.ao false,(ag 2),.bj [] [] [(0,ii),(1,.comp [.cu .id]),(7,ii),(8,ii)]]) (a9.a3 (.ax bQ))))))
  (fun o =>
  .ret (bW [(ag 1),.ao false,.bj [] [] []] (.ax o)))
theorem KJ {aO:List bB}{gq:List bb}{iW:List bB}{cZ c1:Int}{r} (h:Et aO gq iW cZ c1=some r):fp bp 19 0 73 [1,0,1,0,0] (Eg aO gq iW cZ) (KH aO gq iW cZ) c1 r:=fr (fun _=>QI) h
def AX (aO:List bB)(jK:cw):Option Int :=
 Et aO jK.cx jK.b8 (len_ c2 aO) 0 >>= fun ad =>
 match ad with
 | .inl bs=>(some (-1))
 | .inr bs=>(some bs)
theorem Q1 {aO:List bB}{jK:cw}:bV (AX aO jK) (fun r=>Con bp 73 [.isl 3 (aO.map c2),.fn 46 [.dV 2 [(fU jK)] 0 0]] [] (.n .i64 r) []):=by
 unfold AX
 exact .aD fun ad R =>
  (let t1:List cL:=[(ag 1),(ag 3),.bj [] [] [(0,ii),(1,.comp [.cu .id]),(7,ii),(8,ii)]];
  (by
  rcases ad with bs|bs
  ·exact (.ret (b1 (t1.append [.sub (.exit 0) [] [],(ag 1)]) (.ax (KJ R))))
  ·exact (.ret (b1 (t1.append [.sub (.ret) [(4,.n .i64 bs)] []]) (.ax (KJ R))))))
def xL (aO:List bB)(jK:cw):Option Bool :=
 AX aO jK >>= fun ad =>
 some (decide ((0:Int)≤ad))
theorem QR {aO:List bB}{jK:cw}:bV (xL aO jK) (fun r=>Con bp 45 [.isl 3 (aO.map c2),.fn 46 [.dV 2 [(fU jK)] 0 0]] [] (.b r) []):=by
 unfold xL
 exact .aD fun ad R =>
  .ret (b1 [(ag 1),.aJ (bO 2 (bM 2 (.n .i64 ad) true) 2)] (.aF (Q1 ad R) (cm.n .i64 ad)))
def E7 (gy:List bb)(n9:Int)(aI:List bB):Int→S:=fun nt=>eM [(1,.ref 0 0 0 0),(16,.isl 4 (gy.map cS)),(17,.n .i64 n9),(18,.n .i64 nt)] [[al.mk 2 [[.isl 4 (gy.map cS),.isl 3 (aI.map c2)]] .live]]
def E8 (gy:List bb)(n9:Int)(aI:List bB):((Unit)⊕(Unit))→eP
 | .inl a=>⟨some 0,[(1,.ref 0 0 0 0)],[[al.mk 2 [[.isl 4 (gy.map cS),.isl 3 (aI.map c2)]] .live]]⟩
 | .inr a=>⟨none,[(2,.b false)],[]⟩
def vq (gy:List bb)(n9:Int)(aI:List bB)(nt:Int):Option ((Int)⊕((Unit)⊕(Unit))) :=
 if (decide (nt<n9))=true then
  if 0≤nt∧nt<gy.length then
  gy[nt.toNat]? >>= fun a2 =>
  yh a2 >>= fun bt =>
  if bt=true then
   x6 (⟨gy,aI⟩:cw) a2.mO >>= fun eh =>
   if (eh != nt)=true then
    some (.inr (.inr ()))
   else
    some (.inl (U (nt+(1:Int))))
  else
   some (.inr (.inr ()))
  else none
 else
  some (.inr (.inl ()))
def Bh (gy:List bb)(n9:Int)(aI:List bB)(nt:Int):Option ((Unit)⊕(Unit)):=iter (fun w:Int=>vq gy n9 aI w) nt
theorem Ro {gy:List bb}{n9:Int}{aI:List bB}{nt:Int}:bV (vq gy n9 aI nt) (fo bp 40 0 27 [1,1,0,1,0,0] (E7 gy n9 aI nt) (E7 gy n9 aI) (E8 gy n9 aI)):=by
 unfold vq
 exact .ite (fun o =>
  .bq fun R =>
  .aD fun a2 ay =>
  .aD fun bt bI =>
  (let t1:List cL:=[(ag 1),.ao true,.aJ (bO 2 (.c4 (cS a2)) 3)];
  have a9:=((.e7 o R.1 (eY cS R.2) (cQ cS ay) (S8 bt bI) (cm.b bt)):cT _);
  .ite (fun bQ =>
  .aD fun eh c6 =>
  (let t3:List cL:=t1.append [.aJ (ap 1 (au (bM 1 (.b bt) true) (ap 5 (au (bM 2 (.n .i64 eh) true) (ap 2 (au (.ao false) []))))))];
  have fA:=a9.a3 (.bi (dU bQ) (dU bQ) (dU bQ) (dU bQ) (Sq eh c6) (cm.n .i64 eh) (dU bQ) (dU bQ) (.ax (dU bQ)));
  .ite (fun dj =>
  .ret (bW (t3.append [.ao true,(ag 1),.bj [] [] (bT [2])]) (fA.a3 (.ax dj))))
  (fun dj =>
  .ret (bW (t3.append [.ao false,(ag 2),.bj [0] [.box [.id,.id]] (bT [1,16,17,18])]) (fA.a3 (.ax dj))))))
  (fun bQ =>
  .ret (bW (t1.append [.aJ (ap 1 (au (bM 1 (.b bt) true) (ap 2 (cO 6 (au (.ao true) []))))),.ao true,(ag 1),.bj [] [] (bT [2])]) (a9.a3 (.gH (dN bQ) (dN bQ) (dN bQ) (dN bQ) (dN bQ) (dN bQ) (dN bQ) cv))))))
  (fun o =>
  .ret (bW [(ag 1),.ao false,.bj [0] [.box [.id,.id]] (bT [1])] (.ax o)))
theorem K6 {gy:List bb}{n9:Int}{aI:List bB}{nt:Int}{r} (h:Bh gy n9 aI nt=some r):fp bp 40 0 27 [1,1,0,1,0,0] (E7 gy n9 aI) (E8 gy n9 aI) nt r:=fr (fun _=>Ro) h
def sw (aO:cw):Option Bool :=
 if (decide ((6:Int)<(len_ cS aO.cx)))=true then
  some false
 else
  if (decide ((8:Int)<(len_ c2 aO.b8)))=true then
   some false
  else
   Bh aO.cx (len_ cS aO.cx) aO.b8 0 >>= fun bg =>
   match bg with
   | .inl fJ=>(xL aO.b8 aO >>= fun bw =>
    some (!bw))
   | .inr fJ=>(some false)
theorem Sm {aO:cw}:bV (sw aO) (fun r=>Con bp 27 [.agg (fU aO)] [] (.b r) []):=by
 unfold sw
 exact .ite (fun o =>
  .ret (b1 [(ag 2),.aJ (ap 5 (cO 4 (au (.ao true) []))),.ao true,(ag 1)] (.e7 o o o o o cv)))
  (fun o =>
  (let t1:List cL:=[(ag 2),.aJ (ap 9 (au (.ao false) []))];
  .ite (fun R =>
  .ret (b1 (t1.append [.ao true,(ag 1)]) (.e7 o o o o o R)))
  (fun R =>
  .aD fun bg ay =>
  (let t2:List cL:=t1.append [.ao false,(ag 4),.bj [0] [.box [.id,.id]] (bT [1,16,17,18])];
  (by
  rcases bg with fJ|fJ
  ·exact (.aD fun bw bQ =>
  .ret (b1 (t2.append [(E8 aO.cx (len_ cS aO.cx) aO.b8 (.inl fJ)).gh,.aJ (bO 3 (.call {ac:=[ii,.comp [.ptr [.id,.id]]],r:= .b bw,dB:=true,dD:=[0]}) 2)]) (.bi o o o o o R (K6 ay) (k9 (qX aO):gU [(fU aO)]) (.aF (QR bw bQ) (cm.b bw)))))
  ·exact (.ret (b1 (t2.append [.sub (.ret) [(2,.b false)] []]) (.eT o o o o o R (K6 ay)))))))))
def yi (aZ:Int):Option Bool :=
 if (decide ((-100:Int)≤aZ))=true then
  some (decide (aZ≤(100:Int)))
 else
  some false
theorem S9 {aZ:Int}:bV (yi aZ) (fun r=>Con bp 49 [.n .i64 aZ] [] (.b r) []):=by
 unfold yi
 exact .ite (fun o =>
  .ret (b1 [(ag 1),.aJ (bO 5 (.ao true) 1)] (.b4 o o o)))
  (fun o =>
  .ret (b1 [(ag 1),.aJ (ap 3 (cO 2 (au (.ao false) (ap 1 []))))] (.b4 o o o)))
def Bz (aZ:Int):Option Bool :=
 yi aZ >>= fun ad =>
 some (!ad)
theorem Sr {aZ:Int}:bV (Bz aZ) (fun r=>Con bp 48 [.n .i64 aZ] [] (.b r) []):=by
 unfold Bz
 exact .aD fun ad R =>
  .ret (b1 [(ag 1),.aJ (bO 1 (bM 1 (.b ad) true) 2)] (.aF (S9 ad R) (cm.b ad)))
def Ep (aO:List Int)(cZ:Int):Int→S:=fun c1=>eM [(0,.isl 1 (aO.map J)),(1,.fn 48 []),(7,.n .i64 cZ),(8,.n .i64 c1)] []
def KN (aO:List Int)(cZ:Int):((Unit)⊕(Int))→eP
 | .inl a=>⟨some 0,[],[]⟩
 | .inr a=>⟨none,[(4,.n .i64 a)],[]⟩
def u6 (aO:List Int)(cZ c1:Int):Option ((Int)⊕((Unit)⊕(Int))) :=
 if (decide (c1<cZ))=true then
  if 0≤c1∧c1<aO.length then
  aO[c1.toNat]? >>= fun a2 =>
  Bz a2 >>= fun bt =>
  if bt=true then
   some (.inr (.inr c1))
  else
   some (.inl (U (c1+(1:Int))))
  else none
 else
  some (.inr (.inl ()))
def EF (aO:List Int)(cZ c1:Int):Option ((Unit)⊕(Int)):=iter (fun w:Int=>u6 aO cZ w) c1
theorem QO {aO:List Int}{cZ c1:Int}:bV (u6 aO cZ c1) (fo bp 19 0 50 [1,0,1,0,0] (Ep aO cZ c1) (Ep aO cZ) (KN aO cZ)):=by
 unfold u6
 exact .ite (fun o =>
  .bq fun R =>
  .aD fun a2 ay =>
  .aD fun bt bI =>
  (let t1:List cL:=[(ag 1),.ao true,(ag 2),.aJ (ap 4 (au (.c4 (J a2)) (au (bM 1 (.b bt) true) [])))];
  have a9:=((.e7 o R.1 (eY J R.2) (cQ J ay) (Sr bt bI) (cm.b bt)):cT _);
  .ite (fun bQ =>
  .ret (bW (t1.append [.ao true,(ag 2),.bj [] [] (bT [4])]) (a9.a3 (.ax bQ))))
  (fun bQ =>
  .ret (bW (t1.append [.ao false,(ag 2),.bj [] [] (bT [0,1,7,8])]) (a9.a3 (.ax bQ))))))
  (fun o =>
  .ret (bW [(ag 1),.ao false,.bj [] [] []] (.ax o)))
theorem KO {aO:List Int}{cZ c1:Int}{r} (h:EF aO cZ c1=some r):fp bp 19 0 50 [1,0,1,0,0] (Ep aO cZ) (KN aO cZ) c1 r:=fr (fun _=>QO) h
def A4 (aO:List Int):Option Int :=
 EF aO (len_ J aO) 0 >>= fun ad =>
 match ad with
 | .inl bs=>(some (-1))
 | .inr bs=>(some bs)
theorem Ri {aO:List Int}:bV (A4 aO) (fun r=>Con bp 50 [.isl 1 (aO.map J),.fn 48 []] [] (.n .i64 r) []):=by
 unfold A4
 exact .aD fun ad R =>
  (let t1:List cL:=[(ag 1),(ag 3),.bj [] [] (bT [0,1,7,8])];
  (by
  rcases ad with bs|bs
  ·exact (.ret (b1 (t1.append [.sub (.exit 0) [] [],(ag 1)]) (.ax (KO R))))
  ·exact (.ret (b1 (t1.append [.sub (.ret) [(4,.n .i64 bs)] []]) (.ax (KO R))))))
def AY (aO:List Int):Option Bool :=
 A4 aO >>= fun ad =>
 some (decide ((0:Int)≤ad))
theorem Q2 {aO:List Int}:bV (AY aO) (fun r=>Con bp 30 [.isl 1 (aO.map J),.fn 48 []] [] (.b r) []):=by
 unfold AY
 exact .aD fun ad R =>
  .ret (b1 [(ag 1),.aJ (bO 2 (bM 2 (.n .i64 ad) true) 2)] (.aF (Ri ad R) (cm.n .i64 ad)))
def vZ (aO:cw)(b6:List Int):Option Bool :=
 if ((len_ J b6) == (U ((2:Int)*(len_ cS aO.cx))))=true then
  AY b6 >>= fun b3 =>
  some (!b3)
 else
  some false
theorem SZ {aO:cw}{b6:List Int}:bV (vZ aO b6) (fun r=>Con bp 28 [.dV 2 [(fU aO)] 0 0,.isl 1 (b6.map J)] [] (.b r) []):=by
 unfold vZ
 exact .ite (fun o =>
  .aD fun b3 ae =>
  .ret (b1 [(ag 1),.aJ (ap 11 (au (bM 2 (.b b3) true) (bO 1 (.ao true) 1)))] (.e7 o o (Q2 b3 ae) (cm.b b3) o o)))
  (fun o =>
  .ret (b1 [(ag 1),.aJ (ap 10 (cO 3 (au (.ao false) (ap 1 []))))] (.dy o o o o)))
def rG (aO:cw)(b6:List Int):Option Bool :=
 sw aO >>= fun ad =>
 if ad=true then
  vZ aO b6 >>= fun bl =>
  some bl
 else
  some false
theorem yc {aO:cw}{b6:List Int}:bV (rG aO b6) (fun r=>Con bp 15 [.agg (fU aO),.isl 1 (b6.map J)] [] (.b r) []):=by
 unfold rG
 exact .aD fun ad R =>
  (have bY:=((.aF (Sm ad R) (cm.b ad)):cT _);
  .ite (fun ae =>
  .aD fun bl aK =>
  .ret (b1 [(ag 2),.aJ (ap 1 (au (bM 1 (.b ad) true) (ap 2 (au (.call {ac:=[.bF (.ptr [.id,.id]),ii],r:= .b bl,dB:=true,dD:=[0]}) (au (.ao true) (ap 1 []))))))] (bY.a3 (.e7 ae ae (k9 (qX aO):gU [(fU aO)]) (SZ bl aK) (cm.b bl) ae))))
  (fun ae =>
  .ret (b1 [(ag 2),.aJ (ap 1 (au (bM 1 (.b ad) true) (ap 1 (cO 2 (au (.ao false) (ap 1 []))))))] (bY.a3 (.b4 ae ae ae)))))
def BT (aO:List bb):Option (List bb) :=
 if aO.length*40≤140737488355328 then some aO else none
theorem Ta:Con bp 20 [.eL] [] (.isl 4 (([]:List bb).map cS)) []:=b1 [(ag 1),(ag 2),.ao true,(ag 1)] (.ax cv) (.bF (.cu (.gm 4)))
theorem Tb:Con bp 20 [.hx] [] (.isl 4 (([]:List bb).map cS)) []:=(by
 have h:=fun (o:(([]:List bb)++([]:List bb)).length*40≤140737488355328)=>(b1 [(ag 1),(ag 2),.ao false,.aJ (bO 2 (.a3 ((([]:List bb)++([]:List bb)).length)) 1)] (.eT eW (rN (show []=(([]:List bb)).map cS from rfl) (jI bb)) (sI (jI bb) (oB cS):(([]:List bb)++([]:List bb)).length=0+([]:List (List aw)).length) o (kd (nS (show []=(([]:List bb)).map cS from rfl) (jI bb) (oB cS)) (fl (([]:List bb)++([]:List bb)))) (nl (nS (show []=(([]:List bb)).map cS from rfl) (jI bb) (oB cS)) (fl (([]:List bb)++([]:List bb)))) (ey rF (([]:List bb)++([]:List bb)))) (.bF (.cu (.fI ((([]:List bb)++([]:List bb)).map cS)))):Con bp 20 [.hx] [] (.isl 4 ((([]:List bb)++([]:List bb)).map cS)) [])
 exact h (by decide))
theorem Tc (x:bb)(l:List bb)(o:(([]:List bb)++(x::l)).length*40≤140737488355328):Con bp 20 [.isl 4 ((x::l).map cS)] [] (.isl 4 ((([]:List bb)++(x::l)).map cS)) []:=b1 [(ag 1),.aJ (ap 1 (au .dx [])),.ao false,.aJ (bO 2 (.a3 ((([]:List bb)++(x::l)).length)) 1)] (.gH (by simp:(x::l).map cS≠[]) eW (rN (show []=(([]:List bb)).map cS from rfl) (jI bb)) (sI (jI bb) (dW cS (x::l)):(([]:List bb)++(x::l)).length=0+((x::l).map cS).length) o (kd (nS (show []=(([]:List bb)).map cS from rfl) (jI bb) (dW cS (x::l))) (fl (([]:List bb)++(x::l)))) (nl (nS (show []=(([]:List bb)).map cS from rfl) (jI bb) (dW cS (x::l))) (fl (([]:List bb)++(x::l)))) (ey rF (([]:List bb)++(x::l)))) (.bF (.cu (.fI ((([]:List bb)++(x::l)).map cS))))
theorem S0 {aO:List bb}:bV (BT aO) (fun r=>Con bp 20 [.isl 4 (aO.map cS)] [] (.isl 4 (r.map cS)) []):=by
 unfold BT
 refine .bq fun h=> .ret ?_
 cases aO with
 | nil=>exact .i5 Ta Tb
 | cons x l =>
  have R:=Tc x l (by simpa using h)
  simpa using R
def GB (aO:List Int)(dO cZ:Int):Int→S:=fun c1=>eM [(0,.isl 1 (aO.map J)),(1,.n .i64 dO),(7,.n .i64 cZ),(8,.n .i64 c1)] []
def Lx (aO:List Int)(dO cZ:Int):((Unit)⊕(Int))→eP
 | .inl a=>⟨some 0,[],[]⟩
 | .inr a=>⟨none,[(4,.n .i64 a)],[]⟩
def rz (aO:List Int)(dO cZ c1:Int):Option ((Int)⊕((Unit)⊕(Int))) :=
 if (decide (c1<cZ))=true then
  if 0≤c1∧c1<aO.length then
  aO[c1.toNat]? >>= fun a2 =>
  if (dO == a2)=true then
   some (.inr (.inr c1))
  else
   some (.inl (U (c1+(1:Int))))
  else none
 else
  some (.inr (.inl ()))
def Cd (aO:List Int)(dO cZ c1:Int):Option ((Unit)⊕(Int)):=iter (fun w:Int=>rz aO dO cZ w) c1
theorem Ss {aO:List Int}{dO cZ c1:Int}:bV (rz aO dO cZ c1) (fo bp 19 0 34 [1,0,1,0,0] (GB aO dO cZ c1) (GB aO dO cZ) (Lx aO dO cZ)):=by
 unfold rz
 exact .ite (fun o =>
  .bq fun R =>
  .aD fun a2 ay =>
  (let t1:List cL:=[(ag 1),.ao true,(ag 2),.aJ (bO 4 (.c4 (J a2)) 1)];
  have a9:=((.dy o R.1 (eY J R.2) (cQ J ay)):cT _);
  .ite (fun aK =>
  .ret (bW (t1.append [.ao true,(ag 2),.bj [] [] (bT [4])]) (a9.a3 (.ax aK))))
  (fun aK =>
  .ret (bW (t1.append [.ao false,(ag 2),.bj [] [] (bT [0,1,7,8])]) (a9.a3 (.ax aK))))))
  (fun o =>
  .ret (bW [(ag 1),.ao false,.bj [] [] []] (.ax o)))
theorem LG {aO:List Int}{dO cZ c1:Int}{r} (h:Cd aO dO cZ c1=some r):fp bp 19 0 34 [1,0,1,0,0] (GB aO dO cZ) (Lx aO dO cZ) c1 r:=fr (fun _=>Ss) h
def yW (aO:List Int)(dO:Int):Option Int :=
 Cd aO dO (len_ J aO) 0 >>= fun ad =>
 match ad with
 | .inl bs=>(some (-1))
 | .inr bs=>(some bs)
theorem Up {aO:List Int}{dO:Int}:bV (yW aO dO) (fun r=>Con bp 34 [.isl 1 (aO.map J),.n .i64 dO] [] (.n .i64 r) []):=by
 unfold yW
 exact .aD fun ad R =>
  (let t1:List cL:=[(ag 1),(ag 3),.bj [] [] (bT [0,1,7,8])];
  (by
  rcases ad with bs|bs
  ·exact (.ret (b1 (t1.append [.sub (.exit 0) [] [],(ag 1)]) (.ax (LG R))))
  ·exact (.ret (b1 (t1.append [.sub (.ret) [(4,.n .i64 bs)] []]) (.ax (LG R))))))
def rH (aO:List Int)(dO:Int):Option Bool :=
 yW aO dO >>= fun ad =>
 some (decide ((0:Int)≤ad))
theorem GS {aO:List Int}{dO:Int}:bV (rH aO dO) (fun r=>Con bp 21 [.isl 1 (aO.map J),.n .i64 dO] [] (.b r) []):=by
 unfold rH
 exact .aD fun ad R =>
  .ret (b1 [(ag 1),.aJ (bO 2 (bM 2 (.n .i64 ad) true) 2)] (.aF (Up ad R) (cm.n .i64 ad)))
def ET (jy:List Int)(bU:List bB)(b0:Int)(ff:List bb):(Int×(List bB))→S:=fun (e9,aH)=>eM [(1,.isl 1 (jy.map J)),(4,.ref 0 0 0 0),(5,.ref 1 0 0 0),(13,.isl 3 (bU.map c2)),(14,.n .i64 b0),(15,.n .i64 e9)] [[al.mk 2 [[.eL,.eL]] .live],[al.mk 2 [[.isl 4 (ff.map cS),.bu 2 0 0 aH.length]] .live],(aq 3 c2 aH)]
def E2 (jy:List Int)(bU:List bB)(b0:Int)(ff:List bb):(List bB)→eP
 | a=>⟨some 0,[(4,.ref 0 0 0 0),(5,.ref 1 0 0 0)],[[al.mk 2 [[.eL,.eL]] .live],[al.mk 2 [[.isl 4 (ff.map cS),.bu 2 0 0 a.length]] .live],(aq 3 c2 a)]⟩
def vl (jy:List Int)(bU:List bB)(b0:Int)(ff:List bb)(e9:Int)(aH:List bB):Option ((Int×(List bB))⊕((List bB))) :=
 if (decide (e9<b0))=true then
  if 0≤e9∧e9<bU.length then
  bU[e9.toNat]? >>= fun a2 =>
  rH jy e9 >>= fun bt =>
  if bt=true then
   some (.inl (U (e9+(1:Int)),aH))
  else
   if (aH++([a2]:List bB)).length*24≤140737488355328 then
   some (.inl (U (e9+(1:Int)),aH++([a2]:List bB)))
   else none
  else none
 else
  some (.inr aH)
def Fh (jy:List Int)(bU:List bB)(b0:Int)(ff:List bb)(e9:Int)(aH:List bB):Option ((List bB)):=iter (fun w:Int×(List bB)=>vl jy bU b0 ff w.1 w.2) (e9,aH)
theorem Rj {jy:List Int}{bU:List bB}{b0:Int}{ff:List bb}{e9:Int}{aH:List bB}:bV (vl jy bU b0 ff e9 aH) (fo bp 32 0 8 [1,1,0,1,0,0] (ET jy bU b0 ff (e9,aH)) (ET jy bU b0 ff) (E2 jy bU b0 ff)):=by
 unfold vl
 exact .ite (fun o =>
  .bq fun R =>
  .aD fun a2 ay =>
  .aD fun bt bI =>
  (let t1:List cL:=[(ag 1),.ao true,.aJ (bO 2 (.c4 (c2 a2)) 3),.aJ (bO 2 (bM 2 (.b bt) true) 1)];
  have a9:=((.e7 o R.1 (eY c2 R.2) (cQ c2 ay) (GS bt bI) (cm.b bt)):cT _);
  .ite (fun bQ =>
  .ret (bW (t1.append [.ao false,(ag 2),.bj [0,1,2] [.box [.id,.id],.box [.id,.id],.pure] (bT [1,4,5,13,14,15])]) (a9.a3 (.aF (dU bQ) (aB 3 .live pC aH)))))
  (fun bQ =>
  .bq fun bE =>
  .ret (let aW:=(aH++([a2]:List bB));bW (t1.append [.ao true,.aJ (bO 4 (.a3 (aW.length)) 2),(ag 2),.bj [0,1,18] [.box [.id,.id],.box [.id,.id],.dL (aq 3 c2 aW)] (bT [1,4,5,13,14,15])]) (a9.a3 (.eT (dN bQ) (jY c2 a2) (oX c2 aH) (mI c2 aH a2) bE (eA 3 .live (oY c2 aH a2)) (aB 3 .live pC aW)))))))
  (fun o =>
  .ret (bW [(ag 1),.ao false,.bj [0,1,2] [.box [.id,.id],.box [.id,.id],.pure] (bT [4,5])] (.aF o (aB 3 .live pC aH))))
theorem RD {jy:List Int}{bU:List bB}{b0:Int}{ff:List bb}{e9:Int}{aH:List bB}{r} (h:Fh jy bU b0 ff e9 aH=some r):fp bp 32 0 8 [1,1,0,1,0,0] (ET jy bU b0 ff) (E2 jy bU b0 ff) (e9,aH) r:=fr (fun _=>Rj) h
def su (aO:cw)(jy:List Int):Option cw :=
 BT aO.cx >>= fun ad =>
 Fh jy aO.b8 (len_ c2 aO.b8) ad 0 ([]:List bB) >>= fun bg =>
 some (⟨ad,bg⟩:cw)
theorem Fi {aO:cw}{jy:List Int}:bV (su aO jy) (fun r=>Con bp 8 [.agg (fU aO),.isl 1 (jy.map J)] [] (.agg (fU r)) []):=by
 unfold su
 exact .aD fun ad R =>
  .aD fun bg ay =>
  .ret (b1 [(ag 2),.aJ (bO 2 (bM 1 (.isl 4 (ad.map cS)) false) 3),(ag 4),.Ac 6 1 3,.bj [1,6,12] [.box [.id,.id],.box [.id,.len (([]:List bB).length)],.dL (aq 3 c2 ([]:List bB))] (bT [1,4,5,13,14,15]),(E2 jy aO.b8 (len_ c2 aO.b8) ad bg).gh,(ag 2)] (.gH (S0 ad R) (jI bB) (eA 3 .live (oB c2)) (aB 3 .live pC ([]:List bB)) (RD ay) (jH c2 bg) (i3 c2 bg) (ey pC bg)) (.bF (.agg [.id,.fI (bg.map c2)])))
def Eu (fg:List bb)(fP:Int):(Int×(List Int))→S:=fun (du,az)=>eM [(3,.bu 0 0 0 az.length),(9,.isl 4 (fg.map cS)),(10,.n .i64 fP),(11,.n .i64 du)] [(aq 1 J az)]
def KQ (fg:List bb)(fP:Int):(List Int)→eP
 | a=>⟨some 0,[(3,.bu 0 0 0 a.length)],[(aq 1 J a)]⟩
def xM (fg:List bb)(fP du:Int)(az:List Int):Option ((Int×(List Int))⊕((List Int))) :=
 if (decide (du<fP))=true then
  if 0≤du∧du<fg.length then
  fg[du.toNat]? >>= fun a2 =>
  if a2.np=true then
   some (.inl (U (du+(1:Int)),az))
  else
   if (az++([du]:List Int)).length*8≤140737488355328 then
   some (.inl (U (du+(1:Int)),az++([du]:List Int)))
   else none
  else none
 else
  some (.inr az)
def EJ (fg:List bb)(fP du:Int)(az:List Int):Option ((List Int)):=iter (fun w:Int×(List Int)=>xM fg fP w.1 w.2) (du,az)
theorem QS {fg:List bb}{fP du:Int}{az:List Int}:bV (xM fg fP du az) (fo bp 25 0 53 [1,1,0,1,0,0] (Eu fg fP (du,az)) (Eu fg fP) (KQ fg fP)):=by
 unfold xM
 exact .ite (fun o =>
  .bq fun R =>
  .aD fun a2 ay =>
  (let t1:List cL:=[(ag 1),.ao true,.aJ (bO 2 (.c4 (cS a2)) 3),(ag 3)];
  have a9:=((.dy o R.1 (eY cS R.2) (cQ cS ay)):cT _);
  .ite (fun aK =>
  .ret (bW (t1.append [.ao false,(ag 2),.bj [0] [.pure] (bT [3,9,10,11])]) (a9.a3 (.aF (dU aK) (aB 1 .live aA az)))))
  (fun aK =>
  .bq fun bI =>
  .ret (let aW:=(az++([du]:List Int));bW (t1.append [.ao true,.aJ (bO 3 (.a3 (aW.length)) 1),(ag 2),.bj [14] [.dL (aq 1 J aW)] (bT [3,9,10,11])]) (a9.a3 (.eT (dN aK) (jY J du) (oX J az) (mI J az du) bI (eA 1 .live (oY J az du)) (aB 1 .live aA aW)))))))
  (fun o =>
  .ret (bW [(ag 1),.ao false,.bj [0] [.pure] (bT [3])] (.aF o (aB 1 .live aA az))))
theorem Q8 {fg:List bb}{fP du:Int}{az:List Int}{r} (h:EJ fg fP du az=some r):fp bp 25 0 53 [1,1,0,1,0,0] (Eu fg fP) (KQ fg fP) (du,az) r:=fr (fun _=>QS) h
def vo (aO:cw):Option (List Int) :=
 EJ aO.cx (len_ cS aO.cx) 0 ([]:List Int) >>= fun ad =>
 some ad
theorem KY {aO:cw}:bV (vo aO) (fun r=>Con bp 53 [.dV 2 [(fU aO)] 0 0] [] (.isl 1 (r.map J)) []):=by
 unfold vo
 exact .aD fun ad R =>
  .ret (b1 [(ag 1),(ag 1),(ag 6),.rb 3 1,.bj [8] [.dL (aq 1 J ([]:List Int))] [(3,gY (([]:List Int).length)),(9,ii),(10,ii),(11,ii)],.sub (.exit 0) [(3,.bu 0 0 0 ad.length)] [(aq 1 J ad)],(ag 2)] (.eT (eA 1 .live (oB J)) (aB 1 .live aA ([]:List Int)) (jI Int) (Q8 R) (jH J ad) (i3 J ad) (ey aA ad)) (.bF (.cu (.fI (ad.map J)))))
def tt (aO:cw)(bJ:Int):Option (Int×Int) :=
 if 0≤bJ∧bJ<aO.b8.length then
 aO.b8[bJ.toNat]? >>= fun eN =>
 if 0≤eN.f9∧eN.f9<aO.cx.length then
 aO.cx[eN.f9.toNat]? >>= fun mi =>
 if 0≤eN.f8∧eN.f8<aO.cx.length then
 aO.cx[eN.f8.toNat]? >>= fun nK =>
 some (U (mi.lN-nK.lN),U (mi.lO-nK.lO))
 else none
 else none
 else none
theorem RH {aO:cw}{bJ:Int}:bV (tt aO bJ) (fun r=>Con bp 74 [.dV 2 [(fU aO)] 0 0,.n .i64 bJ] [] (.dm [.n .i64 r.1,.n .i64 r.2]) []):=by
 unfold tt
 exact .bq fun o =>
  .aD fun eN ae =>
  .bq fun ay =>
  .aD fun mi bI =>
  .bq fun bQ =>
  .aD fun nK c6 =>
  .ret (b1 [(ag 2),.aJ (bO 6 (.c4 (c2 eN)) 2),.aJ (ap 8 (au (.c4 (cS mi)) (ap 8 (au (.c4 (cS nK)) (ap 9 (au (.c4 (cS mi)) (bO 8 (.c4 (cS nK)) 3)))))))] (.bi o.1 (eY c2 o.2) (cQ c2 ae) ay.1 (eY cS ay.2) (cQ cS bI) bQ.1 (eY cS bQ.2) (.eT (cQ cS c6) ay.1 (eY cS ay.2) (cQ cS bI) bQ.1 (eY cS bQ.2) (cQ cS c6))))
def Er (ek:List bb)(dH:List bB)(dI:Int)(bU:List Int)(b0 e9 c7:Int)(az:List (List Int)):(Int×(List Int)×(List Int))→S:=fun (fR,ab,aH)=>eM [(0,.dV 2 [[.isl 4 (ek.map cS),.isl 3 (dH.map c2)]] 0 0),(3,.bu 0 0 0 az.length),(5,.n .i64 dI),(6,.bu 1 0 0 ab.length),(7,.bu 2 0 0 aH.length),(13,.isl 1 (bU.map J)),(14,.n .i64 b0),(15,.n .i64 e9),(34,.isl 3 (dH.map c2)),(35,.n .i64 c7),(36,.n .i64 fR)] [(aq 1 (eR 1 J) az),(aq 1 J ab),(aq 1 J aH)]
def Ev (ek:List bb)(dH:List bB)(dI:Int)(bU:List Int)(b0 e9 c7:Int)(az:List (List Int)):((List Int)×(List Int))→eP
 | a=>⟨some 2,[(0,.dV 2 [[.isl 4 (ek.map cS),.isl 3 (dH.map c2)]] 0 0),(3,.bu 0 0 0 az.length),(6,.bu 1 0 0 a.1.length),(7,.bu 2 0 0 a.2.length),(13,.isl 1 (bU.map J)),(14,.n .i64 b0),(15,.n .i64 e9)],[(aq 1 (eR 1 J) az),(aq 1 J a.1),(aq 1 J a.2)]⟩
def u7 (ek:List bb)(dH:List bB)(dI:Int)(bU:List Int)(b0 e9 c7:Int)(az:List (List Int))(fR:Int)(ab aH:List Int):Option ((Int×(List Int)×(List Int))⊕((List Int)×(List Int))) :=
 if (decide (fR<c7))=true then
  if 0≤fR∧fR<dH.length then
  dH[fR.toNat]? >>= fun a2 =>
  tt (⟨ek,dH⟩:cw) fR >>= fun bt =>
  if (dI == a2.f8)=true then
   if 0≤fR∧fR<(ab.length:Nat) then
   if (0+fR.toNat)<ab.length then
   if 0≤fR∧fR<(aH.length:Nat) then
   if (0+fR.toNat)<aH.length then
   some (.inl (U (fR+(1:Int)),ab.set (0+fR.toNat) bt.1,aH.set (0+fR.toNat) bt.2))
   else none
   else none
   else none
   else none
  else
   if (dI == a2.f9)=true then
    if 0≤fR∧fR<(ab.length:Nat) then
    if (0+fR.toNat)<ab.length then
    if 0≤fR∧fR<(aH.length:Nat) then
    if (0+fR.toNat)<aH.length then
    some (.inl (U (fR+(1:Int)),ab.set (0+fR.toNat) (U (0-bt.1)),aH.set (0+fR.toNat) (U (0-bt.2))))
    else none
    else none
    else none
    else none
   else
    some (.inl (U (fR+(1:Int)),ab,aH))
  else none
 else
  some (.inr (ab,aH))
def A2 (ek:List bb)(dH:List bB)(dI:Int)(bU:List Int)(b0 e9 c7:Int)(az:List (List Int))(fR:Int)(ab aH:List Int):Option ((List Int)×(List Int)):=iter (fun w:Int×(List Int)×(List Int)=>u7 ek dH dI bU b0 e9 c7 az w.1 w.2.1 w.2.2) (fR,ab,aH)
theorem QP {ek:List bb}{dH:List bB}{dI:Int}{bU:List Int}{b0 e9 c7:Int}{az:List (List Int)}{fR:Int}{ab aH:List Int}:bV (u7 ek dH dI bU b0 e9 c7 az fR ab aH) (fo bp 82 0 51 [1,1,0,1,0,0,1,1,0,0,1,1,0,1,0,0] (Er ek dH dI bU b0 e9 c7 az (fR,ab,aH)) (Er ek dH dI bU b0 e9 c7 az) (Ev ek dH dI bU b0 e9 c7 az)):=by
 unfold u7
 exact .ite (fun o =>
  .bq fun R =>
  .aD fun a2 ay =>
  .aD fun bt bI =>
  (let t1:List cL:=[(ag 1),.ao true,.aJ (bO 2 (.c4 (c2 a2)) 3),.aJ (bO 2 (bM 2 (.dm [.n .i64 bt.1,.n .i64 bt.2]) true) 5),(ag 1),(ag 4)];
  have a9:=((.e7 o R.1 (eY c2 R.2) (cQ c2 ay) (RH bt bI) (W8 (pI (cm.n .i64 bt.1) (pI (cm.n .i64 bt.2) H8)))):cT _);
  .ite (fun bQ =>
  .bq fun bE =>
  .bq fun c6 =>
  .bq fun dj =>
  .bq fun eu =>
  .ret (bW (t1.append [.ao true,.aJ (ap 7 (au .dx (ap 1 (au .dx [])))),(ag 2),.bj [0,1,2] [.pure,.dL (aq 1 J (ab.set (0+fR.toNat) bt.1)),.dL (aq 1 J (aH.set (0+fR.toNat) bt.2))] [(0,ii),(3,ii),(5,ii),(6,gY ((ab.set (0+fR.toNat) bt.1).length)),(7,gY ((aH.set (0+fR.toNat) bt.2).length)),(13,ii),(14,ii),(15,ii),(34,ii),(35,ii),(36,ii)]]) (a9.a3 (.bi bQ bE.1 bE.2 (h9 J c6) (hp 1) dj.1 dj.2 (h9 J eu) (.gH (hp 1) (aB 1 .live (oF (sz:=1) aA) az) (eA 1 .live (ga (dW J ab) (0+fR.toNat) bt.1)) (aB 1 .live aA (ab.set (0+fR.toNat) bt.1)) (eA 1 .live (ga (dW J aH) (0+fR.toNat) bt.2)) (aB 1 .live aA (aH.set (0+fR.toNat) bt.2)) (hC (fl ab) (0+fR.toNat) bt.1) (hC (fl aH) (0+fR.toNat) bt.2))))))
  (fun bQ =>
  .ite (fun bE =>
  .bq fun c6 =>
  .bq fun dj =>
  .bq fun eu =>
  .bq fun ec =>
  .ret (let aW:=U (0-bt.1);let bh:=U (0-bt.2);bW (t1.append [.ao false,(ag 4),.ao true,.aJ (ap 9 (au .dx (ap 1 (au .dx [])))),(ag 2),.bj [0,1,2] [.pure,.dL (aq 1 J (ab.set (0+fR.toNat) aW)),.dL (aq 1 J (aH.set (0+fR.toNat) bh))] [(0,ii),(3,ii),(5,ii),(6,gY ((ab.set (0+fR.toNat) aW).length)),(7,gY ((aH.set (0+fR.toNat) bh).length)),(13,ii),(14,ii),(15,ii),(34,ii),(35,ii),(36,ii)]]) (a9.a3 (.bi bQ bE c6.1 c6.2 (h9 J dj) (hp 1) eu.1 eu.2 (.bi (h9 J ec) (hp 1) (aB 1 .live (oF (sz:=1) aA) az) (eA 1 .live (ga (dW J ab) (0+fR.toNat) aW)) (aB 1 .live aA (ab.set (0+fR.toNat) aW)) (eA 1 .live (ga (dW J aH) (0+fR.toNat) bh)) (aB 1 .live aA (aH.set (0+fR.toNat) bh)) (hC (fl ab) (0+fR.toNat) aW) (.ax (hC (fl aH) (0+fR.toNat) bh)))))))
  (fun bE =>
  .ret (bW (t1.append [.ao false,(ag 4),.ao false,(ag 2),.bj [0,1,2] [.pure,.pure,.pure] (bT [0,3,5,6,7,13,14,15,34,35,36])]) (a9.a3 (.ea bQ bE (aB 1 .live (oF (sz:=1) aA) az) (aB 1 .live aA ab) (aB 1 .live aA aH))))))))
  (fun o =>
  .ret (bW [(ag 1),.ao false,.bj [0,1,2] [.pure,.pure,.pure] (bT [0,3,6,7,13,14,15])] (.dy o (aB 1 .live (oF (sz:=1) aA) az) (aB 1 .live aA ab) (aB 1 .live aA aH))))
theorem Q5 {ek:List bb}{dH:List bB}{dI:Int}{bU:List Int}{b0 e9 c7:Int}{az:List (List Int)}{fR:Int}{ab aH:List Int}{r} (h:A2 ek dH dI bU b0 e9 c7 az fR ab aH=some r):fp bp 82 0 51 [1,1,0,1,0,0,1,1,0,0,1,1,0,1,0,0] (Er ek dH dI bU b0 e9 c7 az) (Ev ek dH dI bU b0 e9 c7 az) (fR,ab,aH) r:=fr (fun _=>QP) h
def Es (ek:List bb)(dH:List bB)(bU:List Int)(b0:Int):(Int×(List (List Int)))→S:=fun (e9,az)=>eM [(0,.dV 2 [[.isl 4 (ek.map cS),.isl 3 (dH.map c2)]] 0 0),(3,.bu 0 0 0 az.length),(13,.isl 1 (bU.map J)),(14,.n .i64 b0),(15,.n .i64 e9)] [(aq 1 (eR 1 J) az)]
def KP (ek:List bb)(dH:List bB)(bU:List Int)(b0:Int):(List (List Int))→eP
 | a=>⟨some 0,[(3,.bu 0 0 0 a.length)],[(aq 1 (eR 1 J) a)]⟩
def u9 (ek:List bb)(dH:List bB)(bU:List Int)(b0 e9:Int)(az:List (List Int)):Option ((Int×(List (List Int)))⊕((List (List Int)))) :=
 if (decide (e9<b0))=true then
  if 0≤e9∧e9<bU.length then
  bU[e9.toNat]? >>= fun a2 =>
  if 0≤(len_ c2 dH)∧(8:Int)*(len_ c2 dH)≤281474976710656∧(len_ c2 dH)<9223372036854775808 then
  A2 ek dH a2 bU b0 e9 (len_ c2 dH) az 0 (List.replicate (len_ c2 dH).toNat 0:List Int) (List.replicate (len_ c2 dH).toNat 0:List Int) >>= fun bw =>
  if (az++([bw.1,bw.2]:List (List Int))).length*24≤140737488355328 then
  some (.inl (U (e9+(1:Int)),az++([bw.1,bw.2]:List (List Int))))
  else none
  else none
  else none
 else
  some (.inr az)
def EI (ek:List bb)(dH:List bB)(bU:List Int)(b0 e9:Int)(az:List (List Int)):Option ((List (List Int))):=iter (fun w:Int×(List (List Int))=>u9 ek dH bU b0 w.1 w.2) (e9,az)
theorem QQ {ek:List bb}{dH:List bB}{bU:List Int}{b0 e9:Int}{az:List (List Int)}:bV (u9 ek dH bU b0 e9 az) (fo bp 82 0 51 [1,1,0,1,0,0] (Es ek dH bU b0 (e9,az)) (Es ek dH bU b0) (KP ek dH bU b0)):=by
 unfold u9
 exact .ite (fun o =>
  .bq fun R =>
  .aD fun a2 ay =>
  .bq fun aK =>
  .aD fun bw bQ =>
  .bq fun bE =>
  .ret (let bh:=(az++([bw.1,bw.2]:List (List Int)));let cf:=len_ c2 dH;let aW:=(List.replicate cf.toNat 0:List Int);let cI:=oF (sz:=1) aA;let ee:=eA 1 .live (ls J cf.toNat 0);bW [(ag 1),.ao true,.aJ (bO 1 (.c4 (J a2)) 1),(ag 14),(ag 6),.bj [0,10,16] [.pure,.dL (aq 1 J aW),.dL (aq 1 J aW)] [(0,ii),(3,ii),(5,ii),(6,gY (aW.length)),(7,gY (aW.length)),(13,ii),(14,ii),(15,ii),(34,ii),(35,ii),(36,ii)],(Ev ek dH a2 bU b0 e9 cf az bw).gh,.bj [0] [.pure] [(0,ii),(3,ii),(6,.bF (.cu (.fI (bw.1.map J)))),(7,.bF (.cu (.fI (bw.2.map J)))),(13,ii),(14,ii),(15,ii)],.aJ (bO 4 (.a3 (bh.length)) 1),(ag 2),.bj [5] [.dL (aq 1 (eR 1 J) bh)] (bT [0,3,13,14,15])] (.bi o R.1 (eY J R.2) (cQ J ay) aK.1 (Int.le_refl cf) aK.2.1 aK.2.2 (.bi aK.1 (Int.le_refl cf) aK.2.1 aK.2.2 (aB 1 .live cI az) ee (aB 1 .live aA aW) ee (.bi (aB 1 .live aA aW) (lP cf.toNat (0:Int)) (lP cf.toNat (0:Int)) (Q5 bQ) (aB 1 .live cI az) (jH J bw.1) (i3 J bw.1) (ey aA bw.1) (.bi (jH J bw.2) (i3 J bw.2) (ey aA bw.2) (nl (show [[.isl 1 (bw.1.map J)],[.isl 1 (bw.2.map J)]]=(([bw.1,bw.2]:List (List Int))).map (eR 1 J) from rfl) (show 2=([bw.1,bw.2]:List (List Int)).length from rfl)) (oX (eR 1 J) az) (sI (fl az) (y9 (show [[.isl 1 (bw.1.map J)],[.isl 1 (bw.2.map J)]]=(([bw.1,bw.2]:List (List Int))).map (eR 1 J) from rfl) (show 2=([bw.1,bw.2]:List (List Int)).length from rfl)):bh.length=az.length+(([[.isl 1 (bw.1.map J)],[.isl 1 (bw.2.map J)]].drop 0).take 2).length) bE (eA 1 .live (nS (dW (eR 1 J) az) (fl az) (y9 (show [[.isl 1 (bw.1.map J)],[.isl 1 (bw.2.map J)]]=(([bw.1,bw.2]:List (List Int))).map (eR 1 J) from rfl) (show 2=([bw.1,bw.2]:List (List Int)).length from rfl)))) (.ax (aB 1 .live cI bh))))))))
  (fun o =>
  .ret (bW [(ag 1),.ao false,.bj [0] [.pure] (bT [3])] (.aF o (aB 1 .live (oF (sz:=1) aA) az))))
theorem Q6 {ek:List bb}{dH:List bB}{bU:List Int}{b0 e9:Int}{az:List (List Int)}{r} (h:EI ek dH bU b0 e9 az=some r):fp bp 82 0 51 [1,1,0,1,0,0] (Es ek dH bU b0) (KP ek dH bU b0) (e9,az) r:=fr (fun _=>QQ) h
def xQ (aO:cw):Option (List (List Int)) :=
 vo aO >>= fun ad =>
 EI aO.cx aO.b8 ad (len_ J ad) 0 ([]:List (List Int)) >>= fun bg =>
 some bg
theorem Rk {aO:cw}:bV (xQ aO) (fun r=>Con bp 51 [.dV 2 [(fU aO)] 0 0] [] (.isl 1 (r.map (eR 1 J))) []):=by
 unfold xQ
 exact .aD fun ad R =>
  .aD fun bg ay =>
  .ret (b1 [(ag 1),(ag 1),.aJ (bO 1 (bM 1 (.isl 1 (ad.map J)) false) 2),.rb 3 1,.bj [6] [.dL (aq 1 (eR 1 J) ([]:List (List Int)))] [(0,ii),(3,gY (([]:List (List Int)).length)),(13,ii),(14,ii),(15,ii)],.sub (.exit 0) [(3,.bu 0 0 0 bg.length)] [(aq 1 (eR 1 J) bg)],(ag 2)] (.gH (KY ad R) (eA 1 .live (oB (eR 1 J))) (aB 1 .live (oF (sz:=1) aA) ([]:List (List Int))) (jI (List Int)) (Q6 ay) (jH (eR 1 J) bg) (i3 (eR 1 J) bg) (ey (oF (sz:=1) aA) bg)) (.bF (.cu (.fI (bg.map (eR 1 J))))))
def EG (fg:List bB)(fP:Int):(Int×(List eG))→S:=fun (du,az)=>eM [(3,.bu 0 0 0 az.length),(9,.isl 3 (fg.map c2)),(10,.n .i64 fP),(11,.n .i64 du)] [(aq 2 fq az)]
def KV (fg:List bB)(fP:Int):(List eG)→eP
 | a=>⟨some 0,[(3,.bu 0 0 0 a.length)],[(aq 2 fq a)]⟩
def vd (fg:List bB)(fP du:Int)(az:List eG):Option ((Int×(List eG))⊕((List eG))) :=
 if (decide (du<fP))=true then
  if 0≤du∧du<fg.length then
  fg[du.toNat]? >>= fun a2 =>
  if (a2.lg != (2:Int))=true then
   if (az++([(⟨du,1⟩:eG)]:List eG)).length*16≤140737488355328 then
   if (a2.lg != (1:Int))=true then
    if ((az++([(⟨du,1⟩:eG)]:List eG))++([(⟨du,(-1)⟩:eG)]:List eG)).length*16≤140737488355328 then
    some (.inl (U (du+(1:Int)),(az++([(⟨du,1⟩:eG)]:List eG))++([(⟨du,(-1)⟩:eG)]:List eG)))
    else none
   else
    some (.inl (U (du+(1:Int)),az++([(⟨du,1⟩:eG)]:List eG)))
   else none
  else
   if (a2.lg != (1:Int))=true then
    if (az++([(⟨du,(-1)⟩:eG)]:List eG)).length*16≤140737488355328 then
    some (.inl (U (du+(1:Int)),az++([(⟨du,(-1)⟩:eG)]:List eG)))
    else none
   else
    some (.inl (U (du+(1:Int)),az))
  else none
 else
  some (.inr az)
def E4 (fg:List bB)(fP du:Int)(az:List eG):Option ((List eG)):=iter (fun w:Int×(List eG)=>vd fg fP w.1 w.2) (du,az)
theorem Q3 {fg:List bB}{fP du:Int}{az:List eG}:bV (vd fg fP du az) (fo bp 34 0 52 [1,1,0,1,0,0] (EG fg fP (du,az)) (EG fg fP) (KV fg fP)):=by
 unfold vd
 exact .ite (fun o =>
  .bq fun R =>
  .aD fun a2 ay =>
  (let t1:List cL:=[(ag 1),.ao true,.aJ (bO 2 (.c4 (c2 a2)) 3),(ag 3)];
  have a9:=((.dy o R.1 (eY c2 R.2) (cQ c2 ay)):cT _);
  .ite (fun aK =>
  .bq fun bI =>
  (let t3:List cL:=t1.append [.ao true,.aJ (bO 4 (.a3 ((az++([(⟨du,1⟩:eG)]:List eG)).length)) 1),(ag 3)];
  have fA:=a9.a3 (.ea aK (jY fq (⟨du,1⟩:eG)) (oX fq az) (mI fq az (⟨du,1⟩:eG)) bI);
  .ite (fun bQ =>
  .bq fun bE =>
  .ret (let aW:=(az++([(⟨du,1⟩:eG)]:List eG));let bh:=(aW++([(⟨du,(-1)⟩:eG)]:List eG));let cf:=(oY fq az (⟨du,1⟩:eG));bW (t3.append [.ao true,.aJ (bO 4 (.a3 (bh.length)) 1),(ag 2),.bj [24] [.dL (aq 2 fq bh)] (bT [3,9,10,11])]) (fA.a3 (.eT bQ (jY fq (⟨du,(-1)⟩:eG)) (rN cf (fl aW)) (mI fq aW (⟨du,(-1)⟩:eG)) bE (eA 2 .live (nS cf (fl aW) (uS fq (⟨du,(-1)⟩:eG)))) (aB 2 .live tB bh)))))
  (fun bQ =>
  .ret (let cI:=(az++([(⟨du,1⟩:eG)]:List eG));bW (t3.append [.ao false,(ag 2),.bj [15] [.dL (aq 2 fq cI)] (bT [3,9,10,11])]) (fA.a3 (.b4 bQ (eA 2 .live (oY fq az (⟨du,1⟩:eG))) (aB 2 .live tB cI)))))))
  (fun aK =>
  .ite (fun bI =>
  .bq fun bQ =>
  .ret (let ee:=(az++([(⟨du,(-1)⟩:eG)]:List eG));bW (t1.append [.ao false,(ag 3),.ao true,.aJ (bO 4 (.a3 (ee.length)) 1),(ag 2),.bj [18] [.dL (aq 2 fq ee)] (bT [3,9,10,11])]) (a9.a3 (.gH aK bI (jY fq (⟨du,(-1)⟩:eG)) (oX fq az) (mI fq az (⟨du,(-1)⟩:eG)) bQ (eA 2 .live (oY fq az (⟨du,(-1)⟩:eG))) (aB 2 .live tB ee)))))
  (fun bI =>
  .ret (bW (t1.append [.ao false,(ag 3),.ao false,(ag 2),.bj [0] [.pure] (bT [3,9,10,11])]) (a9.a3 (.b4 aK bI (aB 2 .live tB az))))))))
  (fun o =>
  .ret (bW [(ag 1),.ao false,.bj [0] [.pure] (bT [3])] (.aF o (aB 2 .live tB az))))
theorem Rm {fg:List bB}{fP du:Int}{az:List eG}{r} (h:E4 fg fP du az=some r):fp bp 34 0 52 [1,1,0,1,0,0] (EG fg fP) (KV fg fP) (du,az) r:=fr (fun _=>Q3) h
def vt (aO:cw):Option (List eG) :=
 E4 aO.b8 (len_ c2 aO.b8) 0 ([]:List eG) >>= fun ad =>
 some ad
theorem K1 {aO:cw}:bV (vt aO) (fun r=>Con bp 52 [.dV 2 [(fU aO)] 0 0] [] (.isl 2 (r.map fq)) []):=by
 unfold vt
 exact .aD fun ad R =>
  .ret (b1 [(ag 1),(ag 1),(ag 6),.rb 3 2,.bj [8] [.dL (aq 2 fq ([]:List eG))] [(3,gY (([]:List eG).length)),(9,ii),(10,ii),(11,ii)],.sub (.exit 0) [(3,.bu 0 0 0 ad.length)] [(aq 2 fq ad)],(ag 2)] (.eT (eA 2 .live (oB fq)) (aB 2 .live tB ([]:List eG)) (jI eG) (Rm R) (jH fq ad) (i3 fq ad) (ey tB ad)) (.bF (.cu (.fI (ad.map fq)))))
def Ei (ek:List bb)(dH:List bB)(b6:List Int)(hM:List eG)(bc:Int)(gd:List Int)(fi:List (List Int))(iI gP ff fQ:Int)(ai aX:List Int):(Int×(List Int))→S:=fun (lu,aH)=>eM [(0,.dV 2 [[.isl 4 (ek.map cS),.isl 3 (dH.map c2)]] 0 0),(1,.isl 1 (b6.map J)),(8,.ref 0 0 0 0),(10,.isl 2 (hM.map fq)),(11,.ref 1 0 0 0),(12,.n .i64 bc),(13,.isl 1 (gd.map J)),(46,.isl 1 (fi.map (eR 1 J))),(47,.n .i64 iI),(48,.n .i64 bc),(53,.isl 2 (hM.map fq)),(54,.n .i64 gP),(55,.n .i64 lu)] [[al.mk 5 [[.n .i64 (0:Int),.n .i64 (0:Int),.eL,.eL,.eL]] .live],[al.mk 5 [(e2 ff fQ 2 0 0 aH.length 3 0 0 ai.length 4 0 0 aX.length)] .live],(aq 1 J aH),(aq 1 J ai),(aq 1 J aX)]
def Em (ek:List bb)(dH:List bB)(b6:List Int)(hM:List eG)(bc:Int)(gd:List Int)(fi:List (List Int))(iI gP ff fQ:Int)(ai aX:List Int):(List Int)→eP
 | a=>⟨some 2,[(0,.dV 2 [[.isl 4 (ek.map cS),.isl 3 (dH.map c2)]] 0 0),(1,.isl 1 (b6.map J)),(8,.ref 0 0 0 0),(10,.isl 2 (hM.map fq)),(11,.ref 1 0 0 0),(46,.isl 1 (fi.map (eR 1 J))),(47,.n .i64 iI),(48,.n .i64 bc)],[[al.mk 5 [[.n .i64 (0:Int),.n .i64 (0:Int),.eL,.eL,.eL]] .live],[al.mk 5 [(e2 ff fQ 2 0 0 a.length 3 0 0 ai.length 4 0 0 aX.length)] .live],(aq 1 J a),(aq 1 J ai),(aq 1 J aX)]⟩
def u2 (ek:List bb)(dH:List bB)(b6:List Int)(hM:List eG)(bc:Int)(gd:List Int)(fi:List (List Int))(iI gP ff fQ:Int)(ai aX:List Int)(lu:Int)(aH:List Int):Option ((Int×(List Int))⊕((List Int))) :=
 if (decide (lu<gP))=true then
  if 0≤lu∧lu<hM.length then
  hM[lu.toNat]? >>= fun a2 =>
  if 0≤a2.tW∧a2.tW<gd.length then
  gd[a2.tW.toNat]? >>= fun cX =>
  if 0≤(U ((U (bc*fQ))+lu))∧(U ((U (bc*fQ))+lu))<(aH.length:Nat) then
  if (0+(U ((U (bc*fQ))+lu)).toNat)<aH.length then
  some (.inl (U (lu+(1:Int)),aH.set (0+(U ((U (bc*fQ))+lu)).toNat) (U (a2.r2*cX))))
  else none
  else none
  else none
  else none
 else
  some (.inr aH)
def Ex (ek:List bb)(dH:List bB)(b6:List Int)(hM:List eG)(bc:Int)(gd:List Int)(fi:List (List Int))(iI gP ff fQ:Int)(ai aX:List Int)(lu:Int)(aH:List Int):Option ((List Int)):=iter (fun w:Int×(List Int)=>u2 ek dH b6 hM bc gd fi iI gP ff fQ ai aX w.1 w.2) (lu,aH)
theorem QK {ek:List bb}{dH:List bB}{b6:List Int}{hM:List eG}{bc:Int}{gd:List Int}{fi:List (List Int)}{iI gP ff fQ:Int}{ai aX:List Int}{lu:Int}{aH:List Int}:bV (u2 ek dH b6 hM bc gd fi iI gP ff fQ ai aX lu aH) (fo bp 113 0 32 [1,1,1,1,0,1,0,0,1,1,0,0,1,1,0,0] (Ei ek dH b6 hM bc gd fi iI gP ff fQ ai aX (lu,aH)) (Ei ek dH b6 hM bc gd fi iI gP ff fQ ai aX) (Em ek dH b6 hM bc gd fi iI gP ff fQ ai aX)):=by
 unfold u2
 exact .ite (fun o =>
  .bq fun R =>
  .aD fun a2 ay =>
  .bq fun aK =>
  .aD fun cX bQ =>
  .bq fun bE =>
  .bq fun c6 =>
  .ret (let aW:=U ((U (bc*fQ))+lu);let bh:=U (a2.r2*cX);bW [(ag 1),.ao true,.aJ (bO 2 (.c4 (fq a2)) 3),.aJ (ap 14 (au (.c4 (J cX)) (ap 2 (au .dx [])))),(ag 2),.bj [0,1,2,3,4] [.box [.id,.id,.id,.id,.id],.box [.id,.id,.len ((aH.set (0+aW.toNat) bh).length),.id,.id],.dL (aq 1 J (aH.set (0+aW.toNat) bh)),.pure,.pure] (bT [0,1,8,10,11,12,13,46,47,48,53,54,55])] (.bi o R.1 (eY fq R.2) (cQ fq ay) aK.1 (eY J aK.2) (cQ J bQ) bE.1 (.gH bE.2 (h9 J c6) (hp 1) (hC (fl aH) (0+aW.toNat) bh) (eA 1 .live (ga (dW J aH) (0+aW.toNat) bh)) (aB 1 .live aA (aH.set (0+aW.toNat) bh)) (aB 1 .live aA ai) (aB 1 .live aA aX)))))
  (fun o =>
  .ret (bW [(ag 1),.ao false,.bj [0,1,2,3,4] [.box [.id,.id,.id,.id,.id],.box [.id,.id,.id,.id,.id],.pure,.pure,.pure] (bT [0,1,8,10,11,46,47,48])] (.dy o (aB 1 .live aA aH) (aB 1 .live aA ai) (aB 1 .live aA aX))))
theorem QT {ek:List bb}{dH:List bB}{b6:List Int}{hM:List eG}{bc:Int}{gd:List Int}{fi:List (List Int)}{iI gP ff fQ:Int}{ai aX:List Int}{lu:Int}{aH:List Int}{r} (h:Ex ek dH b6 hM bc gd fi iI gP ff fQ ai aX lu aH=some r):fp bp 113 0 32 [1,1,1,1,0,1,0,0,1,1,0,0,1,1,0,0] (Ei ek dH b6 hM bc gd fi iI gP ff fQ ai aX) (Em ek dH b6 hM bc gd fi iI gP ff fQ ai aX) (lu,aH) r:=fr (fun _=>QK) h
def Ej (ek:List bb)(dH:List bB)(b6:List Int)(hM:List eG)(fi:List (List Int))(iI ff fQ:Int)(ai aX:List Int):(Int×(List Int))→S:=fun (mQ,aH)=>eM [(0,.dV 2 [[.isl 4 (ek.map cS),.isl 3 (dH.map c2)]] 0 0),(1,.isl 1 (b6.map J)),(8,.ref 0 0 0 0),(10,.isl 2 (hM.map fq)),(11,.ref 1 0 0 0),(46,.isl 1 (fi.map (eR 1 J))),(47,.n .i64 iI),(48,.n .i64 mQ)] [[al.mk 5 [[.n .i64 (0:Int),.n .i64 (0:Int),.eL,.eL,.eL]] .live],[al.mk 5 [(e2 ff fQ 2 0 0 aH.length 3 0 0 ai.length 4 0 0 aX.length)] .live],(aq 1 J aH),(aq 1 J ai),(aq 1 J aX)]
def En (ek:List bb)(dH:List bB)(b6:List Int)(hM:List eG)(fi:List (List Int))(iI ff fQ:Int)(ai aX:List Int):(List Int)→eP
 | a=>⟨some 0,[(0,.dV 2 [[.isl 4 (ek.map cS),.isl 3 (dH.map c2)]] 0 0),(1,.isl 1 (b6.map J)),(8,.ref 0 0 0 0),(11,.ref 1 0 0 0)],[[al.mk 5 [[.n .i64 (0:Int),.n .i64 (0:Int),.eL,.eL,.eL]] .live],[al.mk 5 [(e2 ff fQ 2 0 0 a.length 3 0 0 ai.length 4 0 0 aX.length)] .live],(aq 1 J a),(aq 1 J ai),(aq 1 J aX)]⟩
def u3 (ek:List bb)(dH:List bB)(b6:List Int)(hM:List eG)(fi:List (List Int))(iI ff fQ:Int)(ai aX:List Int)(mQ:Int)(aH:List Int):Option ((Int×(List Int))⊕((List Int))) :=
 if (decide (mQ<iI))=true then
  if 0≤mQ∧mQ<fi.length then
  fi[mQ.toNat]? >>= fun a2 =>
  Ex ek dH b6 hM mQ a2 fi iI (len_ fq hM) ff fQ ai aX 0 aH >>= fun bt =>
  some (.inl (U (mQ+(1:Int)),bt))
  else none
 else
  some (.inr aH)
def Ey (ek:List bb)(dH:List bB)(b6:List Int)(hM:List eG)(fi:List (List Int))(iI ff fQ:Int)(ai aX:List Int)(mQ:Int)(aH:List Int):Option ((List Int)):=iter (fun w:Int×(List Int)=>u3 ek dH b6 hM fi iI ff fQ ai aX w.1 w.2) (mQ,aH)
theorem QL {ek:List bb}{dH:List bB}{b6:List Int}{hM:List eG}{fi:List (List Int)}{iI ff fQ:Int}{ai aX:List Int}{mQ:Int}{aH:List Int}:bV (u3 ek dH b6 hM fi iI ff fQ ai aX mQ aH) (fo bp 113 0 32 [1,1,1,1,0,1,0,0] (Ej ek dH b6 hM fi iI ff fQ ai aX (mQ,aH)) (Ej ek dH b6 hM fi iI ff fQ ai aX) (En ek dH b6 hM fi iI ff fQ ai aX)):=by
 unfold u3
 exact .ite (fun o =>
  .bq fun R =>
  .aD fun a2 ay =>
  .aD fun bt bI =>
  .ret (bW [(ag 1),.ao true,.aJ (bO 2 (.c4 ((eR 1 J) a2)) 2),(ag 3),.bj [0,1,2,3,4] [.box [.id,.id,.id,.id,.id],.box [.id,.id,.id,.id,.id],.pure,.pure,.pure] (bT [0,1,8,10,11,12,13,46,47,48,53,54,55]),(Em ek dH b6 hM mQ a2 fi iI (len_ fq hM) ff fQ ai aX bt).gh,(ag 2),.bj [0,1,2,3,4] [.box [.id,.id,.id,.id,.id],.box [.id,.id,.id,.id,.id],.pure,.pure,.pure] (bT [0,1,8,10,11,46,47,48])] (.bi o R.1 (eY (eR 1 J) R.2) (cQ (eR 1 J) ay) (aB 1 .live aA aH) (aB 1 .live aA ai) (aB 1 .live aA aX) (QT bI) (.b4 (aB 1 .live aA bt) (aB 1 .live aA ai) (aB 1 .live aA aX)))))
  (fun o =>
  .ret (bW [(ag 1),.ao false,.bj [0,1,2,3,4] [.box [.id,.id,.id,.id,.id],.box [.id,.id,.id,.id,.id],.pure,.pure,.pure] (bT [0,1,8,11])] (.dy o (aB 1 .live aA aH) (aB 1 .live aA ai) (aB 1 .live aA aX))))
theorem QU {ek:List bb}{dH:List bB}{b6:List Int}{hM:List eG}{fi:List (List Int)}{iI ff fQ:Int}{ai aX:List Int}{mQ:Int}{aH:List Int}{r} (h:Ey ek dH b6 hM fi iI ff fQ ai aX mQ aH=some r):fp bp 113 0 32 [1,1,1,1,0,1,0,0] (Ej ek dH b6 hM fi iI ff fQ ai aX) (En ek dH b6 hM fi iI ff fQ ai aX) (mQ,aH) r:=fr (fun _=>QL) h
def Ek (b6 nu:List Int)(oa ff fQ:Int)(aH aX:List Int):(Int×(List Int))→S:=fun (j3,ai)=>eM [(1,.isl 1 (b6.map J)),(8,.ref 0 0 0 0),(11,.ref 1 0 0 0),(80,.isl 1 (nu.map J)),(81,.n .i64 oa),(82,.n .i64 j3)] [[al.mk 5 [[.n .i64 (0:Int),.n .i64 (0:Int),.eL,.eL,.eL]] .live],[al.mk 5 [(e2 ff fQ 2 0 0 aH.length 3 0 0 ai.length 4 0 0 aX.length)] .live],(aq 1 J aH),(aq 1 J ai),(aq 1 J aX)]
def Eo (b6 nu:List Int)(oa ff fQ:Int)(aH aX:List Int):(List Int)→eP
 | a=>⟨some 4,[(8,.ref 0 0 0 0),(11,.ref 1 0 0 0)],[[al.mk 5 [[.n .i64 (0:Int),.n .i64 (0:Int),.eL,.eL,.eL]] .live],[al.mk 5 [(e2 ff fQ 2 0 0 aH.length 3 0 0 a.length 4 0 0 aX.length)] .live],(aq 1 J aH),(aq 1 J a),(aq 1 J aX)]⟩
def u4 (b6 nu:List Int)(oa ff fQ:Int)(aH aX:List Int)(j3:Int)(ai:List Int):Option ((Int×(List Int))⊕((List Int))) :=
 if (decide (j3<oa))=true then
  if 0≤j3∧j3<nu.length then
  nu[j3.toNat]? >>= fun a2 =>
  if 0≤(U ((2:Int)*a2))∧(U ((2:Int)*a2))<b6.length then
  b6[(U ((2:Int)*a2)).toNat]? >>= fun cX =>
  if 0≤(U ((U ((2:Int)*a2))+(1:Int)))∧(U ((U ((2:Int)*a2))+(1:Int)))<b6.length then
  b6[(U ((U ((2:Int)*a2))+(1:Int))).toNat]? >>= fun gS =>
  if 0≤(U ((2:Int)*j3))∧(U ((2:Int)*j3))<(ai.length:Nat) then
  if (0+(U ((2:Int)*j3)).toNat)<ai.length then
  if 0≤(U ((U ((2:Int)*j3))+(1:Int)))∧(U ((U ((2:Int)*j3))+(1:Int)))<(ai.length:Nat) then
  if (0+(U ((U ((2:Int)*j3))+(1:Int))).toNat)<(ai.set (0+(U ((2:Int)*j3)).toNat) (U (0-cX))).length then
  some (.inl (U (j3+(1:Int)),(ai.set (0+(U ((2:Int)*j3)).toNat) (U (0-cX))).set (0+(U ((U ((2:Int)*j3))+(1:Int))).toNat) (U (0-gS))))
  else none
  else none
  else none
  else none
  else none
  else none
  else none
 else
  some (.inr ai)
def Ez (b6 nu:List Int)(oa ff fQ:Int)(aH aX:List Int)(j3:Int)(ai:List Int):Option ((List Int)):=iter (fun w:Int×(List Int)=>u4 b6 nu oa ff fQ aH aX w.1 w.2) (j3,ai)
theorem QM {b6 nu:List Int}{oa ff fQ:Int}{aH aX:List Int}{j3:Int}{ai:List Int}:bV (u4 b6 nu oa ff fQ aH aX j3 ai) (fo bp 113 0 32 [1,1,1,1,1,0,1,0,0] (Ek b6 nu oa ff fQ aH aX (j3,ai)) (Ek b6 nu oa ff fQ aH aX) (Eo b6 nu oa ff fQ aH aX)):=by
 unfold u4
 exact .ite (fun o =>
  .bq fun R =>
  .aD fun a2 ay =>
  .bq fun aK =>
  .aD fun cX bQ =>
  .bq fun bE =>
  .aD fun gS dj =>
  .bq fun eu =>
  .bq fun ec =>
  .bq fun dE =>
  .bq fun eU =>
  .ret (let aW:=(U ((2:Int)*j3));let bh:=(U (aW+(1:Int)));let cf:=U (0-cX);let cI:=U (0-gS);bW [(ag 1),.ao true,.aJ (bO 2 (.c4 (J a2)) 2),.aJ (ap 13 (au (.c4 (J cX)) (ap 6 (au (.c4 (J gS)) (ap 2 (au .dx (ap 1 (au .dx [])))))))),(ag 2),.bj [0,1,2,3,4] [.box [.id,.id,.id,.id,.id],.box [.id,.id,.id,.len (((ai.set (0+aW.toNat) cf).set (0+bh.toNat) cI).length),.id],.pure,.dL (aq 1 J ((ai.set (0+aW.toNat) cf).set (0+bh.toNat) cI)),.pure] (bT [1,8,11,80,81,82])] (.bi o R.1 (eY J R.2) (cQ J ay) aK.1 (eY J aK.2) (cQ J bQ) bE.1 (.bi (eY J bE.2) (cQ J dj) eu.1 eu.2 (h9 J ec) (hp 1) dE.1 dE.2 (.eT (CW (ga (dW J ai) (0+aW.toNat) cf) eU) (hp 1) (hC (hC (fl ai) (0+aW.toNat) cf) (0+bh.toNat) cI) (aB 1 .live aA aH) (eA 1 .live (ga (ga (dW J ai) (0+aW.toNat) cf) (0+bh.toNat) cI)) (aB 1 .live aA ((ai.set (0+aW.toNat) cf).set (0+bh.toNat) cI)) (aB 1 .live aA aX))))))
  (fun o =>
  .ret (bW [(ag 1),.ao false,.bj [0,1,2,3,4] [.box [.id,.id,.id,.id,.id],.box [.id,.id,.id,.id,.id],.pure,.pure,.pure] (bT [8,11])] (.dy o (aB 1 .live aA aH) (aB 1 .live aA ai) (aB 1 .live aA aX))))
theorem QV {b6 nu:List Int}{oa ff fQ:Int}{aH aX:List Int}{j3:Int}{ai:List Int}{r} (h:Ez b6 nu oa ff fQ aH aX j3 ai=some r):fp bp 113 0 32 [1,1,1,1,1,0,1,0,0] (Ek b6 nu oa ff fQ aH aX) (Eo b6 nu oa ff fQ aH aX) (j3,ai) r:=fr (fun _=>QM) h
def tr (aO:cw)(b6:List Int)(mJ nk:Int):Option (Int×Int×(List Int)×(List Int)×(List Int)) :=
 xQ aO >>= fun ad =>
 vt aO >>= fun bg =>
 if 0≤(U ((U ((len_ (eR 1 J) ad)+nk))*(U ((len_ fq bg)+mJ))))∧(8:Int)*(U ((U ((len_ (eR 1 J) ad)+nk))*(U ((len_ fq bg)+mJ))))≤281474976710656∧(U ((U ((len_ (eR 1 J) ad)+nk))*(U ((len_ fq bg)+mJ))))<9223372036854775808 then
 if 0≤(U ((len_ (eR 1 J) ad)+nk))∧(8:Int)*(U ((len_ (eR 1 J) ad)+nk))≤281474976710656∧(U ((len_ (eR 1 J) ad)+nk))<9223372036854775808 then
 if 0≤(U ((len_ fq bg)+mJ))∧(8:Int)*(U ((len_ fq bg)+mJ))≤281474976710656∧(U ((len_ fq bg)+mJ))<9223372036854775808 then
 Ey aO.cx aO.b8 b6 bg ad (len_ (eR 1 J) ad) (U ((len_ (eR 1 J) ad)+nk)) (U ((len_ fq bg)+mJ)) (List.replicate (U ((len_ (eR 1 J) ad)+nk)).toNat 0:List Int) (List.replicate (U ((len_ fq bg)+mJ)).toNat 0:List Int) 0 (List.replicate (U ((U ((len_ (eR 1 J) ad)+nk))*(U ((len_ fq bg)+mJ)))).toNat 0:List Int) >>= fun eh =>
 vo aO >>= fun fc =>
 Ez b6 fc (len_ J fc) (U ((len_ (eR 1 J) ad)+nk)) (U ((len_ fq bg)+mJ)) eh (List.replicate (U ((len_ fq bg)+mJ)).toNat 0:List Int) 0 (List.replicate (U ((len_ (eR 1 J) ad)+nk)).toNat 0:List Int) >>= fun f6 =>
 some (U ((len_ (eR 1 J) ad)+nk),U ((len_ fq bg)+mJ),eh,f6,(List.replicate (U ((len_ fq bg)+mJ)).toNat 0:List Int))
 else none
 else none
 else none
theorem KR {aO:cw}{b6:List Int}{mJ nk:Int}:bV (tr aO b6 mJ nk) (fun a=>Con bp 32 [.dV 2 [(fU aO)] 0 0,.isl 1 (b6.map J),.n .i64 mJ,.n .i64 nk] [] (.agg (e2 a.1 a.2.1 0 0 0 a.2.2.1.length 0 1 0 a.2.2.2.1.length 0 2 0 a.2.2.2.2.length)) [[al.mk 1 (a.2.2.1.map J) .live,al.mk 1 (a.2.2.2.1.map J) .live,al.mk 1 (a.2.2.2.2.map J) .live]]):=by
 unfold tr
 exact .aD fun ad R =>
  .aD fun bg ay =>
  .bq fun aK =>
  .bq fun bI =>
  .bq fun bQ =>
  .aD fun eh c6 =>
  .aD fun fc eu =>
  .aD fun f6 dE =>
  .ret (let bh:=U ((len_ (eR 1 J) ad)+nk);let cf:=U ((len_ fq bg)+mJ);let aW:=(List.replicate cf.toNat 0:List Int);let cI:=(List.replicate bh.toNat 0:List Int);let fS:=aB 1 .live aA aW;let gx:=U (bh*cf);let ee:=(List.replicate gx.toNat 0:List Int);hH [(ag 1),.aJ (ap 1 (au (bM 1 (.isl 1 (ad.map (eR 1 J))) false) (bO 1 (bM 1 (.isl 2 (bg.map fq)) false) 2))),(ag 11),(ag 18),(ag 3),.bj [0,16,23,26,29] [.box [.id,.id,.id,.id,.id],.box [.id,.id,.len (ee.length),.len (cI.length),.len (aW.length)],.dL (aq 1 J ee),.dL (aq 1 J cI),.dL (aq 1 J aW)] (bT [0,1,8,10,11,46,47,48]),(En aO.cx aO.b8 b6 bg ad (len_ (eR 1 J) ad) bh cf cI aW eh).gh,.aJ (bO 1 (bM 1 (.isl 1 (fc.map J)) false) 2),.bj [0,1,2,3,4] [.box [.id,.id,.id,.id,.id],.box [.id,.id,.id,.id,.id],.pure,.pure,.pure] (bT [1,8,11,80,81,82]),(Eo b6 fc (len_ J fc) bh cf eh aW f6).gh,(ag 2),.xp [{ba:=[(2,0),(3,0),(4,0)],cY:=none},{ba:=[(0,0)]}] [([.pure,.pure,.pure],none),([.box [.id,.id,.at_ 0 0 eh.length,.at_ 0 1 f6.length,.at_ 0 2 (aW.length)]],none)] [(8,.bF (.cu (.at_ 1 0 0)))]] [0] [.bz [al.mk 1 (eh.map J) .live,al.mk 1 (f6.map J) .live,al.mk 1 (aW.map J) .live]] (.bi (Rk ad R) (K1 bg ay) aK.1 (Int.le_refl gx) aK.2.1 aK.2.2 bI.1 (Int.le_refl bh) (.bi bI.2.1 bI.2.2 bQ.1 (Int.le_refl cf) bQ.2.1 bQ.2.2 (lP gx.toNat (0:Int)) (lP bh.toNat (0:Int)) (.bi (lP cf.toNat (0:Int)) (eA 1 .live (ls J gx.toNat 0)) (aB 1 .live aA ee) (eA 1 .live (ls J bh.toNat 0)) (aB 1 .live aA cI) (eA 1 .live (ls J cf.toNat 0)) fS (QU c6) (.bi (KY fc eu) (aB 1 .live aA eh) (aB 1 .live aA cI) fS (QV dE) (aB 1 .live aA eh) (aB 1 .live aA f6) fS (.gH (rfl:(hS [{ba:=[(2,0),(3,0),(4,0)],cY:=none},{ba:=[(0,0)]}]) 0 0=some (2,0)) (rfl:eh.length=eh.length) (rfl:(hS [{ba:=[(2,0),(3,0),(4,0)],cY:=none},{ba:=[(0,0)]}]) 0 1=some (3,0)) (rfl:f6.length=f6.length) (rfl:(hS [{ba:=[(2,0),(3,0),(4,0)],cY:=none},{ba:=[(0,0)]}]) 0 2=some (4,0)) (rfl:aW.length=aW.length) (rfl:(hS [{ba:=[(2,0),(3,0),(4,0)],cY:=none},{ba:=[(0,0)]}]) 1 0=some (0,0)) (ib (lL (db [0]) 1 ns eh) (ib (lL (db [0]) 1 ns f6) (ib (lL (db [0]) 1 ns aW) (qo (b5:=(db [0]))))))))))) (.bF (.agg [.id,.id,.id,.id,.id])))
def Fv:(Int×(List Int))→S:=fun (aZ,az)=>eM [(0,.n .u64 aZ),(3,.bu 0 0 0 az.length)] [(aq 1 J az)]
def FP:(List Int)→eP
 | a=>⟨some 0,[(3,.bu 0 0 0 a.length)],[(aq 1 J a)]⟩
def vx (aZ:Int)(az:List Int):Option ((Int×(List Int))⊕((List Int))) :=
 if (decide ((0:Int)<aZ))=true then
  if (az++([IntKind.wrap .i64 (aZ.tmod (1000000000:Int))]:List Int)).length*8≤140737488355328 then
  some (.inl (IntKind.wrap .u64 (aZ.tdiv (1000000000:Int)),az++([IntKind.wrap .i64 (aZ.tmod (1000000000:Int))]:List Int)))
  else none
 else
  some (.inr az)
def GC (aZ:Int)(az:List Int):Option ((List Int)):=iter (fun w:Int×(List Int)=>vx w.1 w.2) (aZ,az)
theorem RI {aZ:Int}{az:List Int}:bV (vx aZ az) (fo bp 15 0 76 [1,1,0,0,0] (Fv (aZ,az)) (Fv) (FP)):=by
 unfold vx
 exact .ite (fun o =>
  .bq fun R =>
  .ret (let aW:=(az++([(IntKind.wrap .i64 (aZ.tmod (1000000000:Int)))]:List Int));bW [(ag 2),.ao true,.aJ (bO 5 (.a3 (aW.length)) 1),(ag 3),.bj [8] [.dL (aq 1 J aW)] (bT [0,3])] (.bi o (by decide:(1000000000:Int)≠0) (jY J (IntKind.wrap .i64 (aZ.tmod (1000000000:Int)))) (oX J az) (mI J az (IntKind.wrap .i64 (aZ.tmod (1000000000:Int)))) R (by decide:(1000000000:Int)≠0) (eA 1 .live (oY J az (IntKind.wrap .i64 (aZ.tmod (1000000000:Int))))) (.ax (aB 1 .live aA aW)))))
  (fun o =>
  .ret (bW [(ag 2),.ao false,.bj [0] [.pure] (bT [3])] (.aF o (aB 1 .live aA az))))
theorem St {aZ:Int}{az:List Int}{r} (h:GC aZ az=some r):fp bp 15 0 76 [1,1,0,0,0] (Fv) (FP) (aZ,az) r:=fr (fun _=>RI) h
def tD (aZ:Int):Option (List Int) :=
 GC aZ ([]:List Int) >>= fun ad =>
 some ad
theorem GD {aZ:Int}:bV (tD aZ) (fun r=>Con bp 76 [.n .u64 aZ] [] (.isl 1 (r.map J)) []):=by
 unfold tD
 exact .aD fun ad R =>
  .ret (b1 [(ag 1),(ag 1),.rb 3 1,.bj [2] [.dL (aq 1 J ([]:List Int))] [(0,ii),(3,gY (([]:List Int).length))],(FP ad).gh,(ag 2)] (.eT (eA 1 .live (oB J)) (aB 1 .live aA ([]:List Int)) (jI Int) (St R) (jH J ad) (i3 J ad) (ey aA ad)) (.bF (.cu (.fI (ad.map J)))))
def ku (Dd:Bool)(wZ:List Int):Option a5 :=
 if Dd=true then
  some (⟨(decide ((0:Int)<(len_ J wZ))),wZ⟩:a5)
 else
  some (⟨false,wZ⟩:a5)
theorem q1 {Dd:Bool}{wZ:List Int}:bV (ku Dd wZ) (fun r=>Con bp 75 [.b Dd,.isl 1 (wZ.map J)] [] (.agg (aN r)) []):=by
 unfold ku
 exact .ite (fun o =>
  .ret (b1 [(ag 1),.aJ (bO 5 (.ao true) 3)] (.dy o o o o)))
  (fun o =>
  .ret (b1 [(ag 1),.aJ (ap 2 (cO 3 (au (.ao false) (ap 3 []))))] (.dy o o o o)))
def nj (aZ:Int):Option a5 :=
 if (decide (aZ<(0:Int)))=true then
  tD (IntKind.wrap .u64 ((IntKind.wrap .u64 (U (0-(U (aZ+(1:Int))))))+(1:Int))) >>= fun b3 =>
  ku true b3 >>= fun bl =>
  some bl
 else
  tD (IntKind.wrap .u64 aZ) >>= fun b3 =>
  ku false b3 >>= fun bl =>
  some bl
theorem qY {aZ:Int}:bV (nj aZ) (fun r=>Con bp 54 [.n .i64 aZ] [] (.agg (aN r)) []):=by
 unfold nj
 exact .ite (fun o =>
  .aD fun b3 ae =>
  .aD fun bl aK =>
  .ret (b1 [(ag 1),(ag 2),.ao true,.aJ (ap 5 (au (bM 1 (.isl 1 (b3.map J)) false) (au (bM 2 (.agg (aN bl)) false) (ap 1 []))))] (.b4 o (GD b3 ae) (q1 bl aK))))
  (fun o =>
  .aD fun b3 ae =>
  .aD fun bl aK =>
  .ret (b1 [(ag 1),(ag 2),.ao false,.aJ (ap 2 (au (bM 1 (.isl 1 (b3.map J)) false) (au (bM 2 (.agg (aN bl)) false) (ap 1 []))))] (.b4 o (GD b3 ae) (q1 bl aK))))
def vN (bc bP cl:Int)(b9 ed cV:List Int):Option (Nat×Nat) :=
 if 0≤(U (bc*cl)) then
 if 0≤(U ((U (bc+(1:Int)))*cl)) then
 if (U (bc*cl)).toNat≤(U ((U (bc+(1:Int)))*cl)).toNat∧(U ((U (bc+(1:Int)))*cl)).toNat≤b9.length then
 some ((0+(U (bc*cl)).toNat),((U ((U (bc+(1:Int)))*cl)).toNat-(U (bc*cl)).toNat))
 else none
 else none
 else none
theorem K8 {bc bP cl:Int}{b9 ed cV:List Int}:bV (vN bc bP cl b9 ed cV) (fun a=>Con bp 55 [.ref 0 0 0 0,.n .i64 bc] [[al.mk 5 [(e2 bP cl 1 0 0 b9.length 2 0 0 ed.length 3 0 0 cV.length)] .live],(aq 1 J b9),(aq 1 J ed),(aq 1 J cV)] (.bu 1 0 a.1 a.2) [[al.mk 5 [(e2 bP cl 1 0 0 b9.length 2 0 0 ed.length 3 0 0 cV.length)] .live],(aq 1 J b9),(aq 1 J ed),(aq 1 J cV)]):=by
 unfold vN
 exact .bq fun o =>
  .bq fun R =>
  .bq fun ae =>
  .ret (let aW:=e2 bP cl 1 0 0 b9.length 2 0 0 ed.length 3 0 0 cV.length;hH [(ag 1),(ag 19)] [0,1,2,3] [.bz [al.mk 5 [aW] .live],.pure,.pure,.pure] (.gH o R ae.1 ae.2 (gR (db [0,1,2,3]) 5 [aW] [aW] rfl) (aB 1 .live aA b9) (aB 1 .live aA ed) (aB 1 .live aA cV)))
def Gi:(List Int)→S:=fun a7=>eM [(0,.isl 1 (a7.map J))] []
def Gs:(List Int)→eP
 | a=>⟨some 0,[(0,.isl 1 (a.map J))],[]⟩
def vP (a7:List Int):Option (((List Int))⊕((List Int))) :=
 if (decide ((0:Int)<(len_ J a7)))=true then
  if 0≤(U ((len_ J a7)-(1:Int)))∧(U ((len_ J a7)-(1:Int)))<a7.length then
  a7[(U ((len_ J a7)-(1:Int))).toNat]? >>= fun a2 =>
  if (a2 == (0:Int))=true then
   if 0≤(U ((len_ J a7)-(1:Int))) then
   if 0≤(U ((len_ J a7)-(1:Int))).toNat∧(U ((len_ J a7)-(1:Int))).toNat≤a7.length then
   some (.inl ((a7.drop 0).take ((U ((len_ J a7)-(1:Int))).toNat-0)))
   else none
   else none
  else
   some (.inr a7)
  else none
 else
  some (.inr a7)
def G2 (a7:List Int):Option ((List Int)):=iter (fun w:(List Int)=>vP w) a7
theorem Sb {a7:List Int}:bV (vP a7) (fo bp 21 0 106 [1,0,0,0] (Gi a7) (Gi) (Gs)):=by
 unfold vP
 exact .ite (fun o =>
  .bq fun R =>
  .aD fun a2 ay =>
  (let t1:List cL:=[.aJ (ap 9 (au (.c4 (J a2)) (ap 1 (au (.ao true) []))))];
  have a9:=((.bi o o o o o R.1 (eY J R.2) o (.b4 (cQ J ay) o o)):cT _);
  .ite (fun aK =>
  .bq fun bI =>
  .bq fun bQ =>
  .ret (let aW:=(U ((len_ J a7)-(1:Int)));bW (t1.append [.ao true,(ag 6),.bj [] [] [(0,.bF (.cu (.dL (.isl 1 (((a7.drop 0).take (aW.toNat-0)).map J)))))]]) (a9.a3 (.ea aK bI bQ.1 (tU (dW J a7) bQ.2) (congrArg (aw.isl 1) (pH (dW J a7) 0 (aW.toNat-0)):(.isl 1 (((a7.map J).drop 0).take (aW.toNat-0)):aw) = .isl 1 (((a7.drop 0).take (aW.toNat-0)).map J))))))
  (fun aK =>
  .ret (bW (t1.append [.ao false,.bj [] [] (bT [0])]) (a9.a3 (.ax aK))))))
  (fun o =>
  .ret (bW [.aJ (ap 4 (cO 7 (au (.ao false) []))),.ao false,.bj [] [] (bT [0])] (.bi o o o o o o o o (.ax eW))))
theorem Td {a7:List Int}{r} (h:G2 a7=some r):fp bp 21 0 106 [1,0,0,0] (Gi) (Gs) a7 r:=fr (fun _=>Sb) h
def pE (a7:List Int):Option (List Int) :=
 G2 a7 >>= fun ad =>
 some ad
theorem tE {a7:List Int}:bV (pE a7) (fun r=>Con bp 106 [.isl 1 (a7.map J)] [] (.isl 1 (r.map J)) []):=by
 unfold pE
 exact .aD fun ad R =>
  .ret (b1 [(ag 1),.bj [] [] (bT [0]),(Gs ad).gh,(ag 2)] (.ax (Td R)))
def F7 (a6:List Int)(bc aZ:Int)(eC:List Int)(eK dA:Int):(Int×Int×(List Int))→S:=fun (dX,c7,az)=>eM [(1,.isl 1 (a6.map J)),(5,.bu 0 0 0 az.length),(6,.n .i64 bc),(7,.n .i64 aZ),(8,.n .i64 dX),(26,.isl 1 (eC.map J)),(27,.n .i64 eK),(28,.n .i64 bc),(33,.isl 1 (a6.map J)),(34,.n .i64 dA),(35,.n .i64 c7)] [(aq 1 J az)]
def Gj (a6:List Int)(bc aZ:Int)(eC:List Int)(eK dA:Int):(Int×(List Int))→eP
 | a=>⟨some 2,[(1,.isl 1 (a6.map J)),(5,.bu 0 0 0 a.2.length),(6,.n .i64 bc),(8,.n .i64 a.1),(26,.isl 1 (eC.map J)),(27,.n .i64 eK),(28,.n .i64 bc)],[(aq 1 J a.2)]⟩
def F8 (a6:List Int)(bc aZ:Int)(eC:List Int)(eK dA dX c7:Int)(az:List Int):Option ((Int×Int×(List Int))⊕(Int×(List Int))) :=
 if (decide (c7<dA))=true then
  if 0≤c7∧c7<a6.length then
  a6[c7.toNat]? >>= fun a2 =>
  if 0≤(U (bc+c7))∧(U (bc+c7))<(az.length:Nat) then
  az[(0+(U (bc+c7)).toNat)]? >>= fun cX =>
  if (0+(U (bc+c7)).toNat)<az.length then
  some (.inl (U ((U ((U (cX+(U (aZ*a2))))+dX)).tdiv (1000000000:Int)),U (c7+(1:Int)),az.set (0+(U (bc+c7)).toNat) ((U ((U (cX+(U (aZ*a2))))+dX)).tmod (1000000000:Int))))
  else none
  else none
  else none
 else
  some (.inr (dX,az))
def LH (a6:List Int)(bc aZ:Int)(eC:List Int)(eK dA dX c7:Int)(az:List Int):Option (Int×(List Int)):=iter (fun w:Int×Int×(List Int)=>F8 a6 bc aZ eC eK dA w.1 w.2.1 w.2.2) (dX,c7,az)
theorem R5 {a6:List Int}{bc aZ:Int}{eC:List Int}{eK dA dX c7:Int}{az:List Int}:bV (F8 a6 bc aZ eC eK dA dX c7 az) (fo bp 72 0 101 [1,1,1,0,1,0,0,1,1,0,0,1,1,0,1,0,0] (F7 a6 bc aZ eC eK dA (dX,c7,az)) (F7 a6 bc aZ eC eK dA) (Gj a6 bc aZ eC eK dA)):=by
 unfold F8
 exact .ite (fun o =>
  .bq fun R =>
  .aD fun a2 ay =>
  .bq fun aK =>
  .aD fun cX bQ =>
  .bq fun bE =>
  .ret (let aW:=U ((U (cX+(U (aZ*a2))))+dX);let bh:=U (bc+c7);bW [(ag 1),.ao true,.aJ (bO 2 (.c4 (J a2)) 2),.aJ (bO 5 (.c4 (J cX)) 7),.aJ (bO 9 .dx 1),(ag 2),.bj [0] [.dL (aq 1 J (az.set (0+bh.toNat) (aW.tmod (1000000000:Int))))] [(1,ii),(5,gY ((az.set (0+bh.toNat) (aW.tmod (1000000000:Int))).length)),(6,ii),(7,ii),(8,ii),(26,ii),(27,ii),(28,ii),(33,ii),(34,ii),(35,ii)]] (.bi o R.1 (eY J R.2) (cQ J ay) aK.1 aK.2 (cQ J bQ) (by decide:(1000000000:Int)≠0) (.gH (by decide:(1000000000:Int)≠0) aK.1 aK.2 (h9 J bE) (hp 1) (eA 1 .live (ga (dW J az) (0+bh.toNat) (aW.tmod (1000000000:Int)))) (aB 1 .live aA (az.set (0+bh.toNat) (aW.tmod (1000000000:Int)))) (hC (fl az) (0+bh.toNat) (aW.tmod (1000000000:Int)))))))
  (fun o =>
  .ret (bW [(ag 1),.ao false,.bj [0] [.pure] (bT [1,5,6,8,26,27,28])] (.aF o (aB 1 .live aA az))))
theorem S1 {a6:List Int}{bc aZ:Int}{eC:List Int}{eK dA dX c7:Int}{az:List Int}{r} (h:LH a6 bc aZ eC eK dA dX c7 az=some r):fp bp 72 0 101 [1,1,1,0,1,0,0,1,1,0,0,1,1,0,1,0,0] (F7 a6 bc aZ eC eK dA) (Gj a6 bc aZ eC eK dA) (dX,c7,az) r:=fr (fun _=>R5) h
def F9 (a6 eC:List Int)(eK:Int):(Int×(List Int))→S:=fun (fG,az)=>eM [(1,.isl 1 (a6.map J)),(5,.bu 0 0 0 az.length),(26,.isl 1 (eC.map J)),(27,.n .i64 eK),(28,.n .i64 fG)] [(aq 1 J az)]
def Gk (a6 eC:List Int)(eK:Int):(List Int)→eP
 | a=>⟨some 0,[(5,.bu 0 0 0 a.length)],[(aq 1 J a)]⟩
def Ga (a6 eC:List Int)(eK fG:Int)(az:List Int):Option ((Int×(List Int))⊕((List Int))) :=
 if (decide (fG<eK))=true then
  if 0≤fG∧fG<eC.length then
  eC[fG.toNat]? >>= fun a2 =>
  LH a6 fG a2 eC eK (len_ J a6) 0 0 az >>= fun bt =>
  if 0≤(U (fG+(len_ J a6)))∧(U (fG+(len_ J a6)))<(bt.2.length:Nat) then
  if (0+(U (fG+(len_ J a6))).toNat)<bt.2.length then
  some (.inl (U (fG+(1:Int)),bt.2.set (0+(U (fG+(len_ J a6))).toNat) bt.1))
  else none
  else none
  else none
 else
  some (.inr az)
def GU (a6 eC:List Int)(eK fG:Int)(az:List Int):Option ((List Int)):=iter (fun w:Int×(List Int)=>Ga a6 eC eK w.1 w.2) (fG,az)
theorem R6 {a6 eC:List Int}{eK fG:Int}{az:List Int}:bV (Ga a6 eC eK fG az) (fo bp 72 0 101 [1,1,1,0,1,0,0] (F9 a6 eC eK (fG,az)) (F9 a6 eC eK) (Gk a6 eC eK)):=by
 unfold Ga
 exact .ite (fun o =>
  .bq fun R =>
  .aD fun a2 ay =>
  .aD fun bt bI =>
  .bq fun bQ =>
  .bq fun bE =>
  .ret (let aW:=U (fG+(len_ J a6));bW [(ag 1),.ao true,.aJ (bO 2 (.c4 (J a2)) 2),(ag 1),(ag 3),.bj [0] [.pure] (bT [1,5,6,7,8,26,27,28,33,34,35]),(Gj a6 fG a2 eC eK (len_ J a6) bt).gh,.aJ (ap 7 (au .dx [])),(ag 2),.bj [0] [.dL (aq 1 J (bt.2.set (0+aW.toNat) bt.1))] [(1,ii),(5,gY ((bt.2.set (0+aW.toNat) bt.1).length)),(26,ii),(27,ii),(28,ii)]] (.bi o R.1 (eY J R.2) (cQ J ay) (aB 1 .live aA az) (S1 bI) bQ.1 bQ.2 (.ea (h9 J bE) (hp 1) (eA 1 .live (ga (dW J bt.2) (0+aW.toNat) bt.1)) (aB 1 .live aA (bt.2.set (0+aW.toNat) bt.1)) (hC (fl bt.2) (0+aW.toNat) bt.1)))))
  (fun o =>
  .ret (bW [(ag 1),.ao false,.bj [0] [.pure] (bT [5])] (.aF o (aB 1 .live aA az))))
theorem S2 {a6 eC:List Int}{eK fG:Int}{az:List Int}{r} (h:GU a6 eC eK fG az=some r):fp bp 72 0 101 [1,1,1,0,1,0,0] (F9 a6 eC eK) (Gk a6 eC eK) (fG,az) r:=fr (fun _=>R6) h
def pD (a7 a6:List Int):Option (List Int) :=
 if ((len_ J a7) == (0:Int))=true then
  some ([]:List Int)
 else
  if ((len_ J a6) == (0:Int))=true then
   some ([]:List Int)
  else
   if 0≤(U ((len_ J a7)+(len_ J a6)))∧(8:Int)*(U ((len_ J a7)+(len_ J a6)))≤281474976710656∧(U ((len_ J a7)+(len_ J a6)))<9223372036854775808 then
   GU a6 a7 (len_ J a7) 0 (List.replicate (U ((len_ J a7)+(len_ J a6))).toNat 0:List Int) >>= fun bl =>
   pE bl >>= fun bw =>
   some bw
   else none
theorem BU {a7 a6:List Int}:bV (pD a7 a6) (fun r=>Con bp 101 [.isl 1 (a7.map J),.isl 1 (a6.map J)] [] (.isl 1 (r.map J)) []):=by
 unfold pD
 exact .ite (fun o =>
  .ret (b1 [(ag 1),.aJ (ap 4 (cO 3 (au (.ao true) []))),.ao true,(ag 1)] (.ea o o o o cv) (.bF (.cu (.gm 1)))))
  (fun o =>
  (let t1:List cL:=[(ag 1),.aJ (ap 7 (au (.ao false) []))];
  .ite (fun R =>
  .ret (b1 (t1.append [.ao true,(ag 1)]) (.ea o o o o R) (.bF (.cu (.gm 1)))))
  (fun R =>
  .bq fun ae =>
  .aD fun bl aK =>
  .aD fun bw bQ =>
  .ret (let aW:=U ((len_ J a7)+(len_ J a6));let bh:=(List.replicate aW.toNat 0:List Int);b1 (t1.append [.ao false,(ag 7),(ag 3),.bj [14] [.dL (aq 1 J bh)] [(1,ii),(5,gY (bh.length)),(26,ii),(27,ii),(28,ii)],(Gk a6 a7 (len_ J a7) bl).gh,.ix 0,.aJ (bO 1 (.call {ac:=[.bF (.cu (.fI (bl.map J)))],r:= .isl 1 (bw.map J),dB:=false,dD:=[0]}) 1)]) (.bi o o o o R ae.1 (Int.le_refl aW) ae.2.1 (.bi ae.2.2 (eA 1 .live (ls J aW.toNat 0)) (aB 1 .live aA bh) (lP aW.toNat (0:Int)) (S2 aK) (jH J bl) (i3 J bl) (ey aA bl) (.ax (tE bw bQ))))))))
def nO (cD e3:a5):Option a5 :=
 pD cD.cy e3.cy >>= fun ad =>
 ku (!(cD.cU == e3.cU)) ad >>= fun bg =>
 some bg
theorem tu {cD e3:a5}:bV (nO cD e3) (fun r=>Con bp 94 [.agg (aN cD),.agg (aN e3)] [] (.agg (aN r)) []):=by
 unfold nO
 exact .aD fun ad R =>
  .aD fun bg ay =>
  .ret (b1 [(ag 3),.aJ (ap 9 (au (bM 2 (.isl 1 (ad.map J)) false) (au (bM 2 (.agg (aN bg)) false) (ap 1 []))))] (.aF (BU ad R) (q1 bg ay)))
def nP (cD:a5):Option Int :=
 if ((len_ J cD.cy) == (0:Int))=true then
  some 0
 else
  if cD.cU=true then
   some (-1)
  else
   some 1
theorem ry {cD:a5}:bV (nP cD) (fun r=>Con bp 57 [.agg (aN cD)] [] (.n .i64 r) []):=by
 unfold nP
 exact .ite (fun o =>
  .ret (b1 [(ag 2),(ag 5),.ao true,(ag 1)] (.ax o)))
  (fun o =>
  (let t1:List cL:=[(ag 2),(ag 5),.ao false,(ag 3)];
  .ite (fun R =>
  .ret (b1 (t1.append [.ao true,(ag 1)]) (.aF o R)))
  (fun R =>
  .ret (b1 (t1.append [.ao false,(ag 1)]) (.aF o R)))))
def o1 (cD:a5):Option a5 :=
 ku (!cD.cU) cD.cy >>= fun ad =>
 some ad
theorem A8 {cD:a5}:bV (o1 cD) (fun r=>Con bp 86 [.agg (aN cD)] [] (.agg (aN r)) []):=by
 unfold o1
 exact .aD fun ad R =>
  .ret (b1 [(ag 2),.aJ (bO 5 (bM 2 (.agg (aN ad)) false) 1)] (.ax (q1 ad R)))
def Fw (a7 a6:List Int):Int→S:=fun bc=>eM [(0,.isl 1 (a7.map J)),(1,.isl 1 (a6.map J)),(5,.n .i64 bc)] []
def Lc (a7 a6:List Int):((Unit)⊕(Int))→eP
 | .inl a=>⟨some 0,[],[]⟩
 | .inr a=>⟨none,[(4,.n .i64 a)],[]⟩
def Fx (a7 a6:List Int)(bc:Int):Option ((Int)⊕((Unit)⊕(Int))) :=
 if (decide ((0:Int)≤bc))=true then
  if 0≤bc∧bc<a7.length then
  a7[bc.toNat]? >>= fun a2 =>
  if 0≤bc∧bc<a6.length then
  a6[bc.toNat]? >>= fun cX =>
  if (decide (a2<cX))=true then
   some (.inr (.inr (-1)))
  else
   if (decide (cX<a2))=true then
    some (.inr (.inr 1))
   else
    some (.inl (U (bc-(1:Int))))
  else none
  else none
 else
  some (.inr (.inl ()))
def Lp (a7 a6:List Int)(bc:Int):Option ((Unit)⊕(Int)):=iter (fun w:Int=>Fx a7 a6 w) bc
theorem RJ {a7 a6:List Int}{bc:Int}:bV (Fx a7 a6 bc) (fo bp 43 0 90 [1,1,0,1,0,0] (Fw a7 a6 bc) (Fw a7 a6) (Lc a7 a6)):=by
 unfold Fx
 exact .ite (fun o =>
  .bq fun R =>
  .aD fun a2 ay =>
  .bq fun aK =>
  .aD fun cX bQ =>
  (let t1:List cL:=[(ag 2),.ao true,.aJ (ap 3 (au (.c4 (J a2)) (bO 3 (.c4 (J cX)) 2)))];
  have a9:=((.eT o R.1 (eY J R.2) (cQ J ay) aK.1 (eY J aK.2) (cQ J bQ)):cT _);
  .ite (fun bE =>
  .ret (bW (t1.append [.ao true,(ag 1),.bj [] [] (bT [4])]) (a9.a3 (.ax bE))))
  (fun bE =>
  (let t3:List cL:=t1.append [.ao false,.aJ (ap 3 (au (.c4 (J a2)) (bO 3 (.c4 (J cX)) 2)))];
  have fA:=a9.a3 (.eT bE R.1 (eY J R.2) (cQ J ay) aK.1 (eY J aK.2) (cQ J bQ));
  .ite (fun c6 =>
  .ret (bW (t3.append [.ao true,(ag 1),.bj [] [] (bT [4])]) (fA.a3 (.ax c6))))
  (fun c6 =>
  .ret (bW (t3.append [.ao false,(ag 3),.bj [] [] (bT [0,1,5])]) (fA.a3 (.ax c6))))))))
  (fun o =>
  .ret (bW [(ag 2),.ao false,.bj [] [] []] (.ax o)))
theorem Lf {a7 a6:List Int}{bc:Int}{r} (h:Lp a7 a6 bc=some r):fp bp 43 0 90 [1,1,0,1,0,0] (Fw a7 a6) (Lc a7 a6) bc r:=fr (fun _=>RJ) h
def o2 (a7 a6:List Int):Option Int :=
 if ((len_ J a7) != (len_ J a6))=true then
  if (decide ((len_ J a7)<(len_ J a6)))=true then
   some (-1)
  else
   some 1
 else
  Lp a7 a6 (U ((len_ J a7)-(1:Int))) >>= fun b3 =>
  match b3 with
  | .inl hJ=>(some 0)
  | .inr hJ=>(some hJ)
theorem vT {a7 a6:List Int}:bV (o2 a7 a6) (fun r=>Con bp 90 [.isl 1 (a7.map J),.isl 1 (a6.map J)] [] (.n .i64 r) []):=by
 unfold o2
 exact .ite (fun o =>
  (let t1:List cL:=[(ag 1),(ag 5),.ao true,(ag 5)];
  .ite (fun R =>
  .ret (b1 (t1.append [.ao true,(ag 1)]) (.aF o R)))
  (fun R =>
  .ret (b1 (t1.append [.ao false,(ag 1)]) (.aF o R)))))
  (fun o =>
  .aD fun b3 ae =>
  (let t1:List cL:=[(ag 1),(ag 5),.ao false,(ag 4),.bj [] [] (bT [0,1,5])];
  (by
  rcases b3 with hJ|hJ
  ·exact (.ret (b1 (t1.append [.sub (.exit 0) [] [],(ag 1)]) (.aF o (Lf ae))))
  ·exact (.ret (b1 (t1.append [.sub (.ret) [(4,.n .i64 hJ)] []]) (.aF o (Lf ae)))))))
def Gl (a7 a6:List Int)(ob:Int):(Int×Int×(List Int))→S:=fun (dX,hF,az)=>eM [(0,.isl 1 (a7.map J)),(1,.isl 1 (a6.map J)),(5,.bu 0 0 0 az.length),(6,.n .i64 dX),(20,.isl 1 (a7.map J)),(21,.n .i64 ob),(22,.n .i64 hF)] [(aq 1 J az)]
def Bx (a7 a6:List Int)(ob:Int):(Int×(List Int))→eP
 | a=>⟨some 0,[(0,.isl 1 (a7.map J)),(5,.bu 0 0 0 a.2.length),(6,.n .i64 a.1)],[(aq 1 J a.2)]⟩
def vQ (a7 a6:List Int)(ob dX hF:Int)(az:List Int):Option ((Int×Int×(List Int))⊕(Int×(List Int))) :=
 if (decide (hF<ob))=true then
  if 0≤hF∧hF<a7.length then
  a7[hF.toNat]? >>= fun a2 =>
  if (decide (hF<(len_ J a6)))=true then
   if 0≤hF∧hF<a6.length then
   a6[hF.toNat]? >>= fun f7 =>
   if 0≤hF∧hF<(az.length:Nat) then
   if (0+hF.toNat)<az.length then
   some (.inl (U ((U ((U (a2+dX))+f7)).tdiv (1000000000:Int)),U (hF+(1:Int)),az.set (0+hF.toNat) ((U ((U (a2+dX))+f7)).tmod (1000000000:Int))))
   else none
   else none
   else none
  else
   if 0≤hF∧hF<(az.length:Nat) then
   if (0+hF.toNat)<az.length then
   some (.inl (U ((U (a2+dX)).tdiv (1000000000:Int)),U (hF+(1:Int)),az.set (0+hF.toNat) ((U (a2+dX)).tmod (1000000000:Int))))
   else none
   else none
  else none
 else
  some (.inr (dX,az))
def yj (a7 a6:List Int)(ob dX hF:Int)(az:List Int):Option (Int×(List Int)):=iter (fun w:Int×Int×(List Int)=>vQ a7 a6 ob w.1 w.2.1 w.2.2) (dX,hF,az)
theorem Sc {a7 a6:List Int}{ob dX hF:Int}{az:List Int}:bV (vQ a7 a6 ob dX hF az) (fo bp 55 0 107 [1,1,1,1,0,1,0,0] (Gl a7 a6 ob (dX,hF,az)) (Gl a7 a6 ob) (Bx a7 a6 ob)):=by
 unfold vQ
 exact .ite (fun o =>
  .bq fun R =>
  .aD fun a2 ay =>
  (let t1:List cL:=[(ag 1),.ao true,.aJ (bO 2 (.c4 (J a2)) 2),(ag 4),(ag 4)];
  have a9:=((.dy o R.1 (eY J R.2) (cQ J ay)):cT _);
  .ite (fun aK =>
  .bq fun bI =>
  .aD fun f7 bE =>
  .bq fun c6 =>
  .bq fun dj =>
  .ret (let aW:=U ((U (a2+dX))+f7);bW (t1.append [.ao true,.aJ (bO 4 (.c4 (J f7)) 2),.aJ (bO 7 .dx 1),(ag 2),.bj [0] [.dL (aq 1 J (az.set (0+hF.toNat) (aW.tmod (1000000000:Int))))] [(0,ii),(1,ii),(5,gY ((az.set (0+hF.toNat) (aW.tmod (1000000000:Int))).length)),(6,ii),(20,ii),(21,ii),(22,ii)]]) (a9.a3 (.bi aK bI.1 (eY J bI.2) (cQ J bE) (by decide:(1000000000:Int)≠0) (by decide:(1000000000:Int)≠0) c6.1 c6.2 (.ea (h9 J dj) (hp 1) (eA 1 .live (ga (dW J az) (0+hF.toNat) (aW.tmod (1000000000:Int)))) (aB 1 .live aA (az.set (0+hF.toNat) (aW.tmod (1000000000:Int)))) (hC (fl az) (0+hF.toNat) (aW.tmod (1000000000:Int))))))))
  (fun aK =>
  .bq fun bI =>
  .bq fun bQ =>
  .ret (let bh:=U (a2+dX);bW (t1.append [.ao false,.aJ (bO 7 .dx 1),(ag 2),.bj [0] [.dL (aq 1 J (az.set (0+hF.toNat) (bh.tmod (1000000000:Int))))] [(0,ii),(1,ii),(5,gY ((az.set (0+hF.toNat) (bh.tmod (1000000000:Int))).length)),(6,ii),(20,ii),(21,ii),(22,ii)]]) (a9.a3 (.bi aK (by decide:(1000000000:Int)≠0) (by decide:(1000000000:Int)≠0) bI.1 bI.2 (h9 J bQ) (hp 1) (eA 1 .live (ga (dW J az) (0+hF.toNat) (bh.tmod (1000000000:Int)))) (.aF (aB 1 .live aA (az.set (0+hF.toNat) (bh.tmod (1000000000:Int)))) (hC (fl az) (0+hF.toNat) (bh.tmod (1000000000:Int))))))))))
  (fun o =>
  .ret (bW [(ag 1),.ao false,.bj [0] [.pure] (bT [0,5,6])] (.aF o (aB 1 .live aA az))))
theorem Lq {a7 a6:List Int}{ob dX hF:Int}{az:List Int}{r} (h:yj a7 a6 ob dX hF az=some r):fp bp 55 0 107 [1,1,1,1,0,1,0,0] (Gl a7 a6 ob) (Bx a7 a6 ob) (dX,hF,az) r:=fr (fun _=>Sc) h
def wt (a7 a6:List Int):Option (List Int) :=
 if (decide ((len_ J a7)<(len_ J a6)))=true then
  if 0≤(U ((len_ J a6)+(1:Int)))∧(8:Int)*(U ((len_ J a6)+(1:Int)))≤281474976710656∧(U ((len_ J a6)+(1:Int)))<9223372036854775808 then
  yj a6 a7 (len_ J a6) 0 0 (List.replicate (U ((len_ J a6)+(1:Int))).toNat 0:List Int) >>= fun bg =>
  if 0≤(len_ J a6)∧(len_ J a6)<(bg.2.length:Nat) then
  if (0+(len_ J a6).toNat)<bg.2.length then
  pE (bg.2.set (0+(len_ J a6).toNat) bg.1) >>= fun bS =>
  some bS
  else none
  else none
  else none
 else
  if 0≤(U ((len_ J a7)+(1:Int)))∧(8:Int)*(U ((len_ J a7)+(1:Int)))≤281474976710656∧(U ((len_ J a7)+(1:Int)))<9223372036854775808 then
  yj a7 a6 (len_ J a7) 0 0 (List.replicate (U ((len_ J a7)+(1:Int))).toNat 0:List Int) >>= fun bg =>
  if 0≤(len_ J a7)∧(len_ J a7)<(bg.2.length:Nat) then
  if (0+(len_ J a7).toNat)<bg.2.length then
  pE (bg.2.set (0+(len_ J a7).toNat) bg.1) >>= fun bS =>
  some bS
  else none
  else none
  else none
theorem TI {a7 a6:List Int}:bV (wt a7 a6) (fun r=>Con bp 107 [.isl 1 (a7.map J),.isl 1 (a6.map J)] [] (.isl 1 (r.map J)) []):=by
 unfold wt
 exact .ite (fun o =>
  .bq fun R =>
  .aD fun bg ay =>
  .bq fun aK =>
  .bq fun bI =>
  .aD fun bS bE =>
  .ret (let bh:=len_ J a6;let aW:=(U (bh+(1:Int)));let cf:=(List.replicate aW.toNat 0:List Int);let cI:=hC (fl bg.2) (0+bh.toNat) bg.1;b1 [(ag 1),(ag 5),.ao true,(ag 4),(ag 5),(ag 1),(ag 3),.bj [13] [.dL (aq 1 J cf)] [(0,ii),(1,ii),(5,gY (cf.length)),(6,ii),(20,ii),(21,ii),(22,ii)],(Bx a6 a7 bh bg).gh,.aJ (ap 5 (au .dx [])),.ix 0,.aJ (bO 1 (.call {ac:=[.bF (.cu (.fI ((bg.2.set (0+bh.toNat) bg.1).map J)))],r:= .isl 1 (bS.map J),dB:=false,dD:=[0]}) 1)] (.bi o R.1 (Int.le_refl aW) R.2.1 R.2.2 (eA 1 .live (ls J aW.toNat 0)) (aB 1 .live aA cf) (lP aW.toNat (0:Int)) (.bi (Lq ay) aK.1 aK.2 (h9 J bI) (hp 1) (kd (ga (dW J bg.2) (0+bh.toNat) bg.1) cI) (nl (ga (dW J bg.2) (0+bh.toNat) bg.1) cI) (ey aA (bg.2.set (0+bh.toNat) bg.1)) (.ax (tE bS bE))))))
  (fun o =>
  .bq fun R =>
  .aD fun bg ay =>
  .bq fun aK =>
  .bq fun bI =>
  .aD fun bS bE =>
  .ret (let fS:=len_ J a7;let ee:=(U (fS+(1:Int)));let gx:=(List.replicate ee.toNat 0:List Int);let e8:=hC (fl bg.2) (0+fS.toNat) bg.1;b1 [(ag 1),(ag 5),.ao false,(ag 5),(ag 1),(ag 3),.bj [9] [.dL (aq 1 J gx)] [(0,ii),(1,ii),(5,gY (gx.length)),(6,ii),(20,ii),(21,ii),(22,ii)],(Bx a7 a6 fS bg).gh,.aJ (ap 5 (au .dx [])),.ix 0,.aJ (bO 1 (.call {ac:=[.bF (.cu (.fI ((bg.2.set (0+fS.toNat) bg.1).map J)))],r:= .isl 1 (bS.map J),dB:=false,dD:=[0]}) 1)] (.bi o R.1 (Int.le_refl ee) R.2.1 R.2.2 (eA 1 .live (ls J ee.toNat 0)) (aB 1 .live aA gx) (lP ee.toNat (0:Int)) (.bi (Lq ay) aK.1 aK.2 (h9 J bI) (hp 1) (kd (ga (dW J bg.2) (0+fS.toNat) bg.1) e8) (nl (ga (dW J bg.2) (0+fS.toNat) bg.1) e8) (ey aA (bg.2.set (0+fS.toNat) bg.1)) (.ax (tE bS bE))))))
def Gb (a6 d8:List Int)(bU:Int):(Int×Int×(List Int))→S:=fun (lr,b0,az)=>eM [(1,.isl 1 (a6.map J)),(5,.bu 0 0 0 az.length),(6,.n .i64 lr),(12,.isl 1 (d8.map J)),(13,.n .i64 bU),(14,.n .i64 b0)] [(aq 1 J az)]
def Gm (a6 d8:List Int)(bU:Int):(List Int)→eP
 | a=>⟨some 0,[(5,.bu 0 0 0 a.length)],[(aq 1 J a)]⟩
def vO (a6 d8:List Int)(bU lr b0:Int)(az:List Int):Option ((Int×Int×(List Int))⊕((List Int))) :=
 if (decide (b0<bU))=true then
  if 0≤b0∧b0<d8.length then
  d8[b0.toNat]? >>= fun a2 =>
  if (decide (b0<(len_ J a6)))=true then
   if 0≤b0∧b0<a6.length then
   a6[b0.toNat]? >>= fun f7 =>
   if (decide ((U ((U (a2-lr))-f7))<(0:Int)))=true then
    if 0≤b0∧b0<(az.length:Nat) then
    if (0+b0.toNat)<az.length then
    some (.inl (1,U (b0+(1:Int)),az.set (0+b0.toNat) (U ((U ((U (a2-lr))-f7))+(1000000000:Int)))))
    else none
    else none
   else
    if 0≤b0∧b0<(az.length:Nat) then
    if (0+b0.toNat)<az.length then
    some (.inl (0,U (b0+(1:Int)),az.set (0+b0.toNat) (U ((U (a2-lr))-f7))))
    else none
    else none
   else none
  else
   if (decide ((U (a2-lr))<(0:Int)))=true then
    if 0≤b0∧b0<(az.length:Nat) then
    if (0+b0.toNat)<az.length then
    some (.inl (1,U (b0+(1:Int)),az.set (0+b0.toNat) (U ((U (a2-lr))+(1000000000:Int)))))
    else none
    else none
   else
    if 0≤b0∧b0<(az.length:Nat) then
    if (0+b0.toNat)<az.length then
    some (.inl (0,U (b0+(1:Int)),az.set (0+b0.toNat) (U (a2-lr))))
    else none
    else none
  else none
 else
  some (.inr az)
def GV (a6 d8:List Int)(bU lr b0:Int)(az:List Int):Option ((List Int)):=iter (fun w:Int×Int×(List Int)=>vO a6 d8 bU w.1 w.2.1 w.2.2) (lr,b0,az)
theorem R7 {a6 d8:List Int}{bU lr b0:Int}{az:List Int}:bV (vO a6 d8 bU lr b0 az) (fo bp 43 0 108 [1,1,1,0,1,0,0] (Gb a6 d8 bU (lr,b0,az)) (Gb a6 d8 bU) (Gm a6 d8 bU)):=by
 unfold vO
 exact .ite (fun o =>
  .bq fun R =>
  .aD fun a2 ay =>
  (let t1:List cL:=[(ag 1),.ao true,.aJ (bO 2 (.c4 (J a2)) 2),(ag 4),(ag 4)];
  have a9:=((.dy o R.1 (eY J R.2) (cQ J ay)):cT _);
  .ite (fun aK =>
  .bq fun bI =>
  .aD fun f7 bE =>
  (let t3:List cL:=t1.append [.ao true,.aJ (bO 4 (.c4 (J f7)) 2),(ag 1),(ag 2)];
  have fA:=a9.a3 (.dy aK bI.1 (eY J bI.2) (cQ J bE));
  .ite (fun c6 =>
  .bq fun dj =>
  .bq fun eu =>
  .ret (let aW:=(U ((U ((U (a2-lr))-f7))+(1000000000:Int)));bW (t3.append [.ao true,(ag 3),(ag 1),.aJ (ap 4 (au .dx [])),(ag 2),.bj [0] [.dL (aq 1 J (az.set (0+b0.toNat) aW))] [(1,ii),(5,gY ((az.set (0+b0.toNat) aW).length)),(6,ii),(12,ii),(13,ii),(14,ii)]]) (fA.a3 (.gH c6 dj.1 dj.2 (h9 J eu) (hp 1) (eA 1 .live (ga (dW J az) (0+b0.toNat) aW)) (aB 1 .live aA (az.set (0+b0.toNat) aW)) (hC (fl az) (0+b0.toNat) aW)))))
  (fun c6 =>
  .bq fun dj =>
  .bq fun eu =>
  .ret (let bh:=U ((U (a2-lr))-f7);bW (t3.append [.ao false,.aJ (ap 4 (au .dx [])),(ag 2),.bj [0] [.dL (aq 1 J (az.set (0+b0.toNat) bh))] [(1,ii),(5,gY ((az.set (0+b0.toNat) bh).length)),(6,ii),(12,ii),(13,ii),(14,ii)]]) (fA.a3 (.gH c6 dj.1 dj.2 (h9 J eu) (hp 1) (eA 1 .live (ga (dW J az) (0+b0.toNat) bh)) (aB 1 .live aA (az.set (0+b0.toNat) bh)) (hC (fl az) (0+b0.toNat) bh)))))))
  (fun aK =>
  (let t3:List cL:=t1.append [.ao false,(ag 1),(ag 2)];
  .ite (fun bI =>
  .bq fun bQ =>
  .bq fun bE =>
  .ret (let cf:=(U ((U (a2-lr))+(1000000000:Int)));bW (t3.append [.ao true,(ag 3),(ag 1),.aJ (ap 4 (au .dx [])),(ag 2),.bj [0] [.dL (aq 1 J (az.set (0+b0.toNat) cf))] [(1,ii),(5,gY ((az.set (0+b0.toNat) cf).length)),(6,ii),(12,ii),(13,ii),(14,ii)]]) (a9.a3 (.bi aK bI bQ.1 bQ.2 (h9 J bE) (hp 1) (eA 1 .live (ga (dW J az) (0+b0.toNat) cf)) (aB 1 .live aA (az.set (0+b0.toNat) cf)) (.ax (hC (fl az) (0+b0.toNat) cf))))))
  (fun bI =>
  .bq fun bQ =>
  .bq fun bE =>
  .ret (let cI:=U (a2-lr);bW (t3.append [.ao false,.aJ (ap 4 (au .dx [])),(ag 2),.bj [0] [.dL (aq 1 J (az.set (0+b0.toNat) cI))] [(1,ii),(5,gY ((az.set (0+b0.toNat) cI).length)),(6,ii),(12,ii),(13,ii),(14,ii)]]) (a9.a3 (.bi aK bI bQ.1 bQ.2 (h9 J bE) (hp 1) (eA 1 .live (ga (dW J az) (0+b0.toNat) cI)) (aB 1 .live aA (az.set (0+b0.toNat) cI)) (.ax (hC (fl az) (0+b0.toNat) cI))))))))))
  (fun o =>
  .ret (bW [(ag 1),.ao false,.bj [0] [.pure] (bT [5])] (.aF o (aB 1 .live aA az))))
theorem S3 {a6 d8:List Int}{bU lr b0:Int}{az:List Int}{r} (h:GV a6 d8 bU lr b0 az=some r):fp bp 43 0 108 [1,1,1,0,1,0,0] (Gb a6 d8 bU) (Gm a6 d8 bU) (lr,b0,az) r:=fr (fun _=>R7) h
def sC (a7 a6:List Int):Option (List Int) :=
 if 0≤(len_ J a7)∧(8:Int)*(len_ J a7)≤281474976710656∧(len_ J a7)<9223372036854775808 then
 GV a6 a7 (len_ J a7) 0 0 (List.replicate (len_ J a7).toNat 0:List Int) >>= fun b3 =>
 pE b3 >>= fun bl =>
 some bl
 else none
theorem LI {a7 a6:List Int}:bV (sC a7 a6) (fun r=>Con bp 108 [.isl 1 (a7.map J),.isl 1 (a6.map J)] [] (.isl 1 (r.map J)) []):=by
 unfold sC
 exact .bq fun o =>
  .aD fun b3 ae =>
  .aD fun bl aK =>
  .ret (let bh:=len_ J a7;let aW:=(List.replicate bh.toNat 0:List Int);b1 [(ag 1),(ag 4),(ag 1),(ag 3),.bj [3] [.dL (aq 1 J aW)] [(1,ii),(5,gY (aW.length)),(6,ii),(12,ii),(13,ii),(14,ii)],(Gm a6 a7 bh b3).gh,.ix 0,.aJ (bO 1 (.call {ac:=[.bF (.cu (.fI (b3.map J)))],r:= .isl 1 (bl.map J),dB:=false,dD:=[0]}) 1)] (.bi o.1 (Int.le_refl bh) o.2.1 o.2.2 (eA 1 .live (ls J bh.toNat 0)) (aB 1 .live aA aW) (lP bh.toNat (0:Int)) (S3 ae) (.dy (jH J b3) (i3 J b3) (ey aA b3) (tE bl aK))))
def sx (cD e3:a5):Option a5 :=
 o2 cD.cy e3.cy >>= fun ad =>
 if (cD.cU == e3.cU)=true then
  wt cD.cy e3.cy >>= fun bl =>
  ku cD.cU bl >>= fun bw =>
  some bw
 else
  if (decide ((0:Int)≤ad))=true then
   sC cD.cy e3.cy >>= fun bt =>
   ku cD.cU bt >>= fun bS =>
   some bS
  else
   sC e3.cy cD.cy >>= fun bt =>
   ku e3.cU bt >>= fun bS =>
   some bS
theorem Ld {cD e3:a5}:bV (sx cD e3) (fun r=>Con bp 100 [.agg (aN cD),.agg (aN e3)] [] (.agg (aN r)) []):=by
 unfold sx
 exact .aD fun ad R =>
  (let t1:List cL:=[(ag 3),.aJ (bO 4 (bM 2 (.n .i64 ad) true) 1),(ag 6)];
  have a9:=((.aF (vT ad R) (cm.n .i64 ad)):cT _);
  .ite (fun ae =>
  .aD fun bl aK =>
  .aD fun bw bQ =>
  .ret (b1 (t1.append [.ao true,.aJ (ap 6 (au (bM 2 (.isl 1 (bl.map J)) false) (au (bM 2 (.agg (aN bw)) false) (ap 1 []))))]) (a9.a3 (.b4 ae (TI bl aK) (q1 bw bQ)))))
  (fun ae =>
  .ite (fun ay =>
  .aD fun bt bI =>
  .aD fun bS bE =>
  .ret (b1 (t1.append [.ao false,(ag 3),.ao true,.aJ (ap 6 (au (bM 2 (.isl 1 (bt.map J)) false) (au (bM 2 (.agg (aN bS)) false) (ap 1 []))))]) (a9.a3 (.dy ae ay (LI bt bI) (q1 bS bE)))))
  (fun ay =>
  .aD fun bt bI =>
  .aD fun bS bE =>
  .ret (b1 (t1.append [.ao false,(ag 3),.ao false,.aJ (ap 6 (au (bM 2 (.isl 1 (bt.map J)) false) (au (bM 2 (.agg (aN bS)) false) (ap 1 []))))]) (a9.a3 (.dy ae ay (LI bt bI) (q1 bS bE)))))))
def ty (cD e3:a5):Option a5 :=
 o1 e3 >>= fun ad =>
 sx cD ad >>= fun bg =>
 some bg
theorem La {cD e3:a5}:bV (ty cD e3) (fun r=>Con bp 95 [.agg (aN cD),.agg (aN e3)] [] (.agg (aN r)) []):=by
 unfold ty
 exact .aD fun ad R =>
  .aD fun bg ay =>
  .ret (b1 [(ag 3),.aJ (ap 2 (au (bM 1 (.agg (aN ad)) false) (au (bM 2 (.agg (aN bg)) false) (ap 1 []))))] (.aF (A8 ad R) (Ld bg ay)))
def E5 (h2:List (List a5))(ji:Bool)(je hZ:List Int)(ia:Int)(jc:List Bool)(kv:List Int)(bJ oc:Int):(Int×Bool×(List Int))→S:=fun (lv,aT,aI)=>eM [(0,.dV 6 [[.isl 1 (h2.map (eR 2 aN)),.b ji,.isl 1 (je.map J),.isl 1 (hZ.map J),.n .i64 ia,.isl 1 (jc.map dk)]] 0 0),(1,.isl 1 (kv.map J)),(2,.n .i64 bJ),(7,.ref 0 0 0 0),(23,.isl 1 (hZ.map J)),(24,.n .i64 oc),(25,.n .i64 lv)] [[al.mk 2 [[.b aT,.isl 1 (aI.map J)]] .live]]
def K2 (h2:List (List a5))(ji:Bool)(je hZ:List Int)(ia:Int)(jc:List Bool)(kv:List Int)(bJ oc:Int):(Bool×(List Int))→eP
 | a=>⟨some 0,[(7,.ref 0 0 0 0)],[[al.mk 2 [[.b a.1,.isl 1 (a.2.map J)]] .live]]⟩
def vp (h2:List (List a5))(ji:Bool)(je hZ:List Int)(ia:Int)(jc:List Bool)(kv:List Int)(bJ oc lv:Int)(aT:Bool)(aI:List Int):Option ((Int×Bool×(List Int))⊕(Bool×(List Int))) :=
 if (decide (lv<oc))=true then
  if 0≤lv∧lv<hZ.length then
  hZ[lv.toNat]? >>= fun a2 =>
  if 0≤a2∧a2<kv.length then
  kv[a2.toNat]? >>= fun cX =>
  if (cX != (0:Int))=true then
   if 0≤lv∧lv<h2.length then
   h2[lv.toNat]? >>= fun kW =>
   if 0≤bJ∧bJ<kW.length then
   kW[bJ.toNat]? >>= fun ow =>
   nP ow >>= fun fk =>
   if (fk != (0:Int))=true then
    nj cX >>= fun d2 =>
    nO ow d2 >>= fun hT =>
    ty (⟨aT,aI⟩:a5) hT >>= fun Af =>
    some (.inl (U (lv+(1:Int)),Af.cU,Af.cy))
   else
    some (.inl (U (lv+(1:Int)),aT,aI))
   else none
   else none
  else
   some (.inl (U (lv+(1:Int)),aT,aI))
  else none
  else none
 else
  some (.inr (aT,aI))
def Fy (h2:List (List a5))(ji:Bool)(je hZ:List Int)(ia:Int)(jc:List Bool)(kv:List Int)(bJ oc lv:Int)(aT:Bool)(aI:List Int):Option (Bool×(List Int)):=iter (fun w:Int×Bool×(List Int)=>vp h2 ji je hZ ia jc kv bJ oc w.1 w.2.1 w.2.2) (lv,aT,aI)
theorem Rn {h2:List (List a5)}{ji:Bool}{je hZ:List Int}{ia:Int}{jc:List Bool}{kv:List Int}{bJ oc lv:Int}{aT:Bool}{aI:List Int}:bV (vp h2 ji je hZ ia jc kv bJ oc lv aT aI) (fo bp 70 0 77 [1,1,0,1,0,0] (E5 h2 ji je hZ ia jc kv bJ oc (lv,aT,aI)) (E5 h2 ji je hZ ia jc kv bJ oc) (K2 h2 ji je hZ ia jc kv bJ oc)):=by
 unfold vp
 exact .ite (fun o =>
  .bq fun R =>
  .aD fun a2 ay =>
  .bq fun aK =>
  .aD fun cX bQ =>
  (let t1:List cL:=[(ag 1),.ao true,.aJ (bO 2 (.c4 (J a2)) 2)];
  have a9:=((.eT o R.1 (eY J R.2) (cQ J ay) aK.1 (eY J aK.2) (cQ J bQ)):cT _);
  .ite (fun bE =>
  .bq fun c6 =>
  .aD fun kW eu =>
  .bq fun ec =>
  .aD fun ow eU =>
  .aD fun fk gv =>
  (let t3:List cL:=t1.append [.aJ (ap 3 (au (.c4 (J cX)) (ap 8 (au (.c4 ((eR 2 aN) kW)) (ap 2 (au (.c4 (aN ow)) (au (bM 1 (.n .i64 fk) true) (ap 1 (au (.ao true) [])))))))))];
  have fA:=a9.a3 (.bi bE bE bE bE bE bE c6.1 (eY (eR 2 aN) c6.2) (.bi bE (cQ (eR 2 aN) eu) bE bE ec.1 (eY aN ec.2) bE (cQ aN eU) (.ea bE (ry fk gv) (cm.n .i64 fk) bE bE)));
  .ite (fun gz =>
  .aD fun d2 gZ =>
  .aD fun hT m5 =>
  .aD fun Af lp =>
  .ret (bW (t3.append [.ao true,.aJ (ap 7 (au (.c4 ((eR 2 aN) kW)) (ap 2 (au (.c4 (aN ow)) (ap 3 (au (.c4 (J cX)) (au (bM 1 (.agg (aN d2)) false) (au (bM 2 (.agg (aN hT)) false) (au (bM 2 (.agg (aN Af)) false) (ap 1 [])))))))))),(ag 2),.bj [0] [.box [.id,.id]] (bT [0,1,2,7,23,24,25])]) (fA.a3 (.bi gz c6.1 (eY (eR 2 aN) c6.2) (cQ (eR 2 aN) eu) ec.1 (eY aN ec.2) (cQ aN eU) aK.1 (.ea (eY J aK.2) (cQ J bQ) (qY d2 gZ) (tu hT m5) (La Af lp))))))
  (fun gz =>
  .ret (bW (t3.append [.ao false,(ag 2),.bj [0] [.box [.id,.id]] (bT [0,1,2,7,23,24,25])]) (fA.a3 (.ax gz))))))
  (fun bE =>
  .ret (bW (t1.append [.aJ (ap 3 (au (.c4 (J cX)) (ap 2 (cO 12 (au (.ao false) []))))),.ao false,(ag 2),.bj [0] [.box [.id,.id]] (bT [0,1,2,7,23,24,25])]) (a9.a3 (.bi bE bE bE bE bE bE bE bE (.e7 bE bE bE bE bE eW)))))))
  (fun o =>
  .ret (bW [(ag 1),.ao false,.bj [0] [.box [.id,.id]] (bT [7])] (.ax o)))
theorem RK {h2:List (List a5)}{ji:Bool}{je hZ:List Int}{ia:Int}{jc:List Bool}{kv:List Int}{bJ oc lv:Int}{aT:Bool}{aI:List Int}{r} (h:Fy h2 ji je hZ ia jc kv bJ oc lv aT aI=some r):fp bp 70 0 77 [1,1,0,1,0,0] (E5 h2 ji je hZ ia jc kv bJ oc) (K2 h2 ji je hZ ia jc kv bJ oc) (lv,aT,aI) r:=fr (fun _=>Rn) h
def vR (kX:ql)(kv:List Int)(bJ:Int):Option Int :=
 if 0≤bJ∧bJ<kv.length then
 kv[bJ.toNat]? >>= fun eN =>
 nj eN >>= fun bl =>
 nO kX.uD bl >>= fun bw =>
 Fy kX.Dc kX.uD.cU kX.uD.cy kX.C0 kX.It kX.Iu kv bJ (len_ J kX.C0) 0 bw.cU bw.cy >>= fun eh =>
 nP (⟨eh.1,eh.2⟩:a5) >>= fun fc =>
 some fc
 else none
theorem Lb {kX:ql}{kv:List Int}{bJ:Int}:bV (vR kX kv bJ) (fun r=>Con bp 77 [.dV 6 [(wj kX)] 0 0,.isl 1 (kv.map J),.n .i64 bJ] [] (.n .i64 r) []):=by
 unfold vR
 exact .bq fun o =>
  .aD fun eN ae =>
  .aD fun bl aK =>
  .aD fun bw bQ =>
  .aD fun eh c6 =>
  .aD fun fc eu =>
  .ret (b1 [(ag 1),.aJ (ap 7 (au (.c4 (J eN)) (au (bM 1 (.agg (aN bl)) false) (au (bM 2 (.agg (aN bw)) false) (ap 2 []))))),(ag 6),.bj [11] [.box [.id,.id]] (bT [0,1,2,7,23,24,25]),.sub (.exit 0) [(7,.ref 0 0 0 0)] [[al.mk 2 [[.b eh.1,.isl 1 (eh.2.map J)]] .live]],.aJ (bO 1 (bM 1 (.n .i64 fc) true) 1)] (.gH o.1 (eY J o.2) (cQ J ae) (qY bl aK) (tu bw bQ) (RK c6) (ry fc eu) (cm.n .i64 fc)))
def qW (cD e3:a5):Option Int :=
 if (cD.cU == e3.cU)=true then
  if cD.cU=true then
   o2 e3.cy cD.cy >>= fun bg =>
   some bg
  else
   o2 cD.cy e3.cy >>= fun bg =>
   some bg
 else
  if cD.cU=true then
   some (-1)
  else
   some 1
theorem K7 {cD e3:a5}:bV (qW cD e3) (fun r=>Con bp 96 [.agg (aN cD),.agg (aN e3)] [] (.n .i64 r) []):=by
 unfold qW
 exact .ite (fun o =>
  (let t1:List cL:=[(ag 3),.aJ (ap 6 (cO 2 (au (.ao false) (ap 1 [])))),.ao false,(ag 6),.ao false,(ag 3)];
  have a9:=((.ea (dU o) (dU o) (dU o) eW (dU o)):cT _);
  .ite (fun R =>
  .aD fun bg ay =>
  .ret (b1 (t1.append [.ao true,.aJ (bO 4 (bM 2 (.n .i64 bg) true) 1)]) (a9.a3 (.b4 R (vT bg ay) (cm.n .i64 bg)))))
  (fun R =>
  .aD fun bg ay =>
  .ret (b1 (t1.append [.ao false,.aJ (bO 4 (bM 2 (.n .i64 bg) true) 1)]) (a9.a3 (.b4 R (vT bg ay) (cm.n .i64 bg)))))))
  (fun o =>
  (let t1:List cL:=[(ag 3),.aJ (bO 8 (.ao true) 1)];
  have a9:=((.b4 (dN o) (dN o) (dN o)):cT _);
  .ite (fun R =>
  .ret (b1 (t1.append [.ao true,(ag 1)]) (a9.a3 (.ax R))))
  (fun R =>
  .ret (b1 (t1.append [.ao false,(ag 6),.ao true,(ag 1)]) (a9.a3 (.aF R (dN o)))))))
def EK (h2:List (List a5))(ji:Bool)(je hZ:List Int)(ia:Int)(jc:List Bool)(bJ bU:Int):(Int×Int)→S:=fun (ir,b0)=>eM [(0,.dV 6 [[.isl 1 (h2.map (eR 2 aN)),.b ji,.isl 1 (je.map J),.isl 1 (hZ.map J),.n .i64 ia,.isl 1 (jc.map dk)]] 0 0),(1,.n .i64 bJ),(5,.n .i64 ir),(12,.isl 1 (h2.map (eR 2 aN))),(13,.n .i64 bU),(14,.n .i64 b0)] []
def KZ (h2:List (List a5))(ji:Bool)(je hZ:List Int)(ia:Int)(jc:List Bool)(bJ bU:Int):Int→eP
 | a=>⟨some 0,[(5,.n .i64 a)],[]⟩
def ve (h2:List (List a5))(ji:Bool)(je hZ:List Int)(ia:Int)(jc:List Bool)(bJ bU ir b0:Int):Option ((Int×Int)⊕(Int)) :=
 if (decide (b0<bU))=true then
  if 0≤b0∧b0<h2.length then
  h2[b0.toNat]? >>= fun a2 =>
  if 0≤bJ∧bJ<a2.length then
  a2[bJ.toNat]? >>= fun cX =>
  nP cX >>= fun eh =>
  if (decide (eh≤(0:Int)))=true then
   some (.inl (ir,U (b0+(1:Int))))
  else
   if (decide (ir<(0:Int)))=true then
    some (.inl (b0,U (b0+(1:Int))))
   else
    if 0≤ia∧ia<a2.length then
    a2[ia.toNat]? >>= fun ow =>
    if 0≤ir∧ir<h2.length then
    h2[ir.toNat]? >>= fun lC =>
    if 0≤bJ∧bJ<lC.length then
    lC[bJ.toNat]? >>= fun qK =>
    nO ow qK >>= fun i6 =>
    if 0≤ia∧ia<lC.length then
    lC[ia.toNat]? >>= fun sg =>
    nO sg cX >>= fun m6 =>
    qW i6 m6 >>= fun lD =>
    if (decide (lD<(0:Int)))=true then
     some (.inl (b0,U (b0+(1:Int))))
    else
     if (lD == (0:Int))=true then
      if 0≤b0∧b0<hZ.length then
      hZ[b0.toNat]? >>= fun JE =>
      if 0≤ir∧ir<hZ.length then
      hZ[ir.toNat]? >>= fun JF =>
      if (decide (JE<JF))=true then
       some (.inl (b0,U (b0+(1:Int))))
      else
       some (.inl (ir,U (b0+(1:Int))))
      else none
      else none
     else
      some (.inl (ir,U (b0+(1:Int))))
    else none
    else none
    else none
    else none
  else none
  else none
 else
  some (.inr ir)
def E9 (h2:List (List a5))(ji:Bool)(je hZ:List Int)(ia:Int)(jc:List Bool)(bJ bU ir b0:Int):Option (Int):=iter (fun w:Int×Int=>ve h2 ji je hZ ia jc bJ bU w.1 w.2) (ir,b0)
theorem Q9 {h2:List (List a5)}{ji:Bool}{je hZ:List Int}{ia:Int}{jc:List Bool}{bJ bU ir b0:Int}:bV (ve h2 ji je hZ ia jc bJ bU ir b0) (fo bp 91 0 78 [1,1,0,1,0,0] (EK h2 ji je hZ ia jc bJ bU (ir,b0)) (EK h2 ji je hZ ia jc bJ bU) (KZ h2 ji je hZ ia jc bJ bU)):=by
 unfold ve
 exact .ite (fun o =>
  .bq fun R =>
  .aD fun a2 ay =>
  .bq fun aK =>
  .aD fun cX bQ =>
  .aD fun eh c6 =>
  (let t1:List cL:=[(ag 1),.ao true,.aJ (bO 2 (.c4 ((eR 2 aN) a2)) 2),.aJ (ap 3 (au (.c4 (aN cX)) (au (bM 1 (.n .i64 eh) true) (ap 1 []))))];
  have a9:=((.bi o R.1 (eY (eR 2 aN) R.2) (cQ (eR 2 aN) ay) aK.1 (eY aN aK.2) (cQ aN bQ) (ry eh c6) (.ax (cm.n .i64 eh))):cT _);
  .ite (fun dj =>
  .ret (bW (t1.append [.ao true,(ag 2),.bj [] [] (bT [0,1,5,12,13,14])]) (a9.a3 (.ax dj))))
  (fun dj =>
  .ite (fun eu =>
  .ret (bW (t1.append [.ao false,(ag 2),.ao true,(ag 2),(ag 2),.bj [] [] (bT [0,1,5,12,13,14])]) (a9.a3 (.aF dj eu))))
  (fun eu =>
  .bq fun ec =>
  .aD fun ow eU =>
  .bq fun d3 =>
  .aD fun lC gz =>
  .bq fun ig =>
  .aD fun qK m4 =>
  .aD fun i6 jR =>
  .bq fun lp =>
  .aD fun sg qL =>
  .aD fun m6 Ag =>
  .aD fun lD Ah =>
  (let aW:=eR 2 aN;let t3:List cL:=t1.append [.ao false,(ag 2),.ao false,.aJ (ap 6 (au (.c4 (aN ow)) (ap 6 (au (.c4 (aW lC)) (ap 2 (au (.c4 (aN qK)) (au (bM 2 (.agg (aN i6)) false) (ap 6 (au (.c4 (aW lC)) (ap 5 (au (.c4 (aN sg)) (ap 3 (au (.c4 (aN cX)) (au (bM 2 (.agg (aN m6)) false) (au (bM 2 (.n .i64 lD) true) (ap 1 []))))))))))))))))];
  have fA:=a9.a3 (.bi dj eu ec.1 (eY aN ec.2) (cQ aN eU) d3.1 (eY aW d3.2) (cQ aW gz) (.bi ig.1 (eY aN ig.2) (cQ aN m4) (tu i6 jR) d3.1 (eY aW d3.2) (cQ aW gz) lp.1 (.gH (eY aN lp.2) (cQ aN qL) aK.1 (eY aN aK.2) (cQ aN bQ) (tu m6 Ag) (K7 lD Ah) (cm.n .i64 lD))));
  .ite (fun nF =>
  .ret (bW (t3.append [.aJ (ap 3 (cO 3 (ap 15 (cO 1 (au (.ao true) []))))),.ao true,(ag 2),(ag 2),.bj [] [] (bT [0,1,5,12,13,14])]) (fA.a3 (.e7 nF nF nF nF nF cv))))
  (fun nF =>
  .ite (fun ij =>
  .bq fun PZ =>
  .aD fun JE ZD =>
  .bq fun P0 =>
  .aD fun JF ZE =>
  (let t5:List cL:=t3.append [.aJ (ap 12 (au (.c4 (J JE)) (ap 6 (au (.c4 (J JF)) (ap 1 (au (.ao true) (au (.ao false) [])))))))];
  have kH:=fA.a3 (.bi nF nF nF ij ij ij ij ij (.bi ij PZ.1 (eY J PZ.2) ij (cQ J ZD) ij ij ij (.bi ij ij ij P0.1 (eY J P0.2) ij (cQ J ZE) ij (.b4 nF ij nF))));
  .ite (fun JG =>
  .ret (bW (t5.append [.ao true,(ag 2),(ag 2),.bj [] [] (bT [0,1,5,12,13,14])]) (kH.a3 (.ax JG))))
  (fun JG =>
  .ret (bW (t5.append [.ao false,(ag 2),.bj [] [] (bT [0,1,5,12,13,14])]) (kH.a3 (.ax JG))))))
  (fun ij =>
  .ret (bW (t3.append [.aJ (ap 6 (cO 15 (au (.ao false) (au (.ao false) [])))),.ao false,(ag 2),.bj [] [] (bT [0,1,5,12,13,14])]) (fA.a3 (.bi nF nF nF ij ij ij ij ij (.bi ij ij ij ij ij ij ij ij (.e7 ij ij nF ij nF eW))))))))))))
  (fun o =>
  .ret (bW [(ag 1),.ao false,.bj [] [] (bT [5])] (.ax o)))
theorem Rr {h2:List (List a5)}{ji:Bool}{je hZ:List Int}{ia:Int}{jc:List Bool}{bJ bU ir b0:Int}{r} (h:E9 h2 ji je hZ ia jc bJ bU ir b0=some r):fp bp 91 0 78 [1,1,0,1,0,0] (EK h2 ji je hZ ia jc bJ bU) (KZ h2 ji je hZ ia jc bJ bU) (ir,b0) r:=fr (fun _=>Q9) h
def xV (kX:ql)(bJ:Int):Option Int :=
 E9 kX.Dc kX.uD.cU kX.uD.cy kX.C0 kX.It kX.Iu bJ (len_ (eR 2 aN) kX.Dc) (-1) 0 >>= fun ad =>
 some ad
theorem RL {kX:ql}{bJ:Int}:bV (xV kX bJ) (fun r=>Con bp 78 [.dV 6 [(wj kX)] 0 0,.n .i64 bJ] [] (.n .i64 r) []):=by
 unfold xV
 exact .aD fun ad R =>
  .ret (b1 [(ag 1),(ag 1),(ag 6),.bj [] [] (bT [0,1,5,12,13,14]),.sub (.exit 0) [(5,.n .i64 ad)] [],(ag 2)] (.ax (Rr R)))
def tX (aO:List Int):Option (List Int) :=
 if aO.length*8≤140737488355328 then some aO else none
theorem UT:Con bp 85 [.eL] [] (.isl 1 (([]:List Int).map J)) []:=b1 [(ag 1),(ag 2),.ao true,(ag 1)] (.ax cv) (.bF (.cu (.gm 1)))
theorem UU:Con bp 85 [.hx] [] (.isl 1 (([]:List Int).map J)) []:=(by
 have h:=fun (o:(([]:List Int)++([]:List Int)).length*8≤140737488355328)=>(b1 [(ag 1),(ag 2),.ao false,.aJ (bO 2 (.a3 ((([]:List Int)++([]:List Int)).length)) 1)] (.eT eW (rN (show []=(([]:List Int)).map J from rfl) (jI Int)) (sI (jI Int) (oB J):(([]:List Int)++([]:List Int)).length=0+([]:List (List aw)).length) o (kd (nS (show []=(([]:List Int)).map J from rfl) (jI Int) (oB J)) (fl (([]:List Int)++([]:List Int)))) (nl (nS (show []=(([]:List Int)).map J from rfl) (jI Int) (oB J)) (fl (([]:List Int)++([]:List Int)))) (ey aA (([]:List Int)++([]:List Int)))) (.bF (.cu (.fI ((([]:List Int)++([]:List Int)).map J)))):Con bp 85 [.hx] [] (.isl 1 ((([]:List Int)++([]:List Int)).map J)) [])
 exact h (by decide))
theorem UW (x:Int)(l:List Int)(o:(([]:List Int)++(x::l)).length*8≤140737488355328):Con bp 85 [.isl 1 ((x::l).map J)] [] (.isl 1 ((([]:List Int)++(x::l)).map J)) []:=b1 [(ag 1),.aJ (ap 1 (au .dx [])),.ao false,.aJ (bO 2 (.a3 ((([]:List Int)++(x::l)).length)) 1)] (.gH (by simp:(x::l).map J≠[]) eW (rN (show []=(([]:List Int)).map J from rfl) (jI Int)) (sI (jI Int) (dW J (x::l)):(([]:List Int)++(x::l)).length=0+((x::l).map J).length) o (kd (nS (show []=(([]:List Int)).map J from rfl) (jI Int) (dW J (x::l))) (fl (([]:List Int)++(x::l)))) (nl (nS (show []=(([]:List Int)).map J from rfl) (jI Int) (dW J (x::l))) (fl (([]:List Int)++(x::l)))) (ey aA (([]:List Int)++(x::l)))) (.bF (.cu (.fI ((([]:List Int)++(x::l)).map J))))
theorem Hl {aO:List Int}:bV (tX aO) (fun r=>Con bp 85 [.isl 1 (aO.map J)] [] (.isl 1 (r.map J)) []):=by
 unfold tX
 refine .bq fun h=> .ret ?_
 cases aO with
 | nil=>exact .i5 UT UU
 | cons x l =>
  have R:=UW x l (by simpa using h)
  simpa using R
def Fj (a7:List Int)(a6:Int):(Int×Int×(List Int))→S:=fun (gV,bc,az)=>eM [(0,.isl 1 (a7.map J)),(1,.n .i64 a6),(6,.bu 0 0 0 az.length),(7,.n .i64 gV),(8,.n .i64 bc)] [(aq 1 J az)]
def Fs (a7:List Int)(a6:Int):(Int×(List Int))→eP
 | a=>⟨some 0,[(6,.bu 0 0 0 a.2.length),(7,.n .i64 a.1)],[(aq 1 J a.2)]⟩
def Fk (a7:List Int)(a6 gV bc:Int)(az:List Int):Option ((Int×Int×(List Int))⊕(Int×(List Int))) :=
 if (decide ((0:Int)≤bc))=true then
  if 0≤bc∧bc<a7.length then
  a7[bc.toNat]? >>= fun a2 =>
  if a6≠0 then
  if 0≤bc∧bc<(az.length:Nat) then
  if (0+bc.toNat)<az.length then
  some (.inl ((U ((U (gV*(1000000000:Int)))+a2)).tmod a6,U (bc-(1:Int)),az.set (0+bc.toNat) (U ((U ((U (gV*(1000000000:Int)))+a2)).tdiv a6))))
  else none
  else none
  else none
  else none
 else
  some (.inr (gV,az))
def Gn (a7:List Int)(a6 gV bc:Int)(az:List Int):Option (Int×(List Int)):=iter (fun w:Int×Int×(List Int)=>Fk a7 a6 w.1 w.2.1 w.2.2) (gV,bc,az)
theorem RE {a7:List Int}{a6 gV bc:Int}{az:List Int}:bV (Fk a7 a6 gV bc az) (fo bp 39 0 103 [1,1,1,0,1,0,0] (Fj a7 a6 (gV,bc,az)) (Fj a7 a6) (Fs a7 a6)):=by
 unfold Fk
 exact .ite (fun o =>
  .bq fun R =>
  .aD fun a2 ay =>
  .bq fun aK =>
  .bq fun bI =>
  .bq fun bQ =>
  .ret (let aW:=(U ((U ((U (gV*(1000000000:Int)))+a2)).tdiv a6));bW [(ag 2),.ao true,.aJ (bO 5 (.c4 (J a2)) 2),.aJ (bO 9 .dx 1),(ag 3),.bj [0] [.dL (aq 1 J (az.set (0+bc.toNat) aW))] [(0,ii),(1,ii),(6,gY ((az.set (0+bc.toNat) aW).length)),(7,ii),(8,ii)]] (.bi o R.1 (eY J R.2) (cQ J ay) aK aK bI.1 bI.2 (.ea (h9 J bQ) (hp 1) (eA 1 .live (ga (dW J az) (0+bc.toNat) aW)) (aB 1 .live aA (az.set (0+bc.toNat) aW)) (hC (fl az) (0+bc.toNat) aW)))))
  (fun o =>
  .ret (bW [(ag 2),.ao false,.bj [0] [.pure] (bT [6,7])] (.aF o (aB 1 .live aA az))))
theorem Sd {a7:List Int}{a6 gV bc:Int}{az:List Int}{r} (h:Gn a7 a6 gV bc az=some r):fp bp 39 0 103 [1,1,1,0,1,0,0] (Fj a7 a6) (Fs a7 a6) (gV,bc,az) r:=fr (fun _=>RE) h
def vX (a7:List Int)(a6:Int):Option ((List Int)×Int) :=
 if 0≤(len_ J a7)∧(8:Int)*(len_ J a7)≤281474976710656∧(len_ J a7)<9223372036854775808 then
 Gn a7 a6 0 (U ((len_ J a7)-(1:Int))) (List.replicate (len_ J a7).toNat 0:List Int) >>= fun b3 =>
 pE b3.2 >>= fun bl =>
 some (bl,b3.1)
 else none
theorem Lh {a7:List Int}{a6:Int}:bV (vX a7 a6) (fun r=>Con bp 103 [.isl 1 (a7.map J),.n .i64 a6] [] (.dm [.isl 1 (r.1.map J),.n .i64 r.2]) []):=by
 unfold vX
 exact .bq fun o =>
  .aD fun b3 ae =>
  .aD fun bl aK =>
  .ret (let aW:=(List.replicate (len_ J a7).toNat 0:List Int);b1 [(ag 2),(ag 4),(ag 1),(ag 4),.bj [4] [.dL (aq 1 J aW)] [(0,ii),(1,ii),(6,gY (aW.length)),(7,ii),(8,ii)],(Fs a7 a6 b3).gh,.ix 0,.aJ (bO 1 (.call {ac:=[.bF (.cu (.fI (b3.2.map J)))],r:= .isl 1 (bl.map J),dB:=false,dD:=[0]}) 3)] (.bi o.1 (Int.le_refl (len_ J a7)) o.2.1 o.2.2 (eA 1 .live (ls J (len_ J a7).toNat 0)) (aB 1 .live aA aW) (lP (len_ J a7).toNat (0:Int)) (Sd ae) (.dy (jH J b3.2) (i3 J b3.2) (ey aA b3.2) (tE bl aK))))
def FQ (az:List Int):Nat→S:=fun kJ=>eM [(0,.bu 0 0 0 kJ)] [(aq 1 J az)]
def Gc (az:List Int):Nat→eP
 | a=>⟨some 0,[(0,.bu 0 0 0 a)],[(aq 1 J az)]⟩
def vL (az:List Int)(kJ:Nat):Option ((Nat)⊕(Nat)) :=
 if (decide ((0:Int)<((kJ:Nat):Int)))=true then
  if 0≤(U (((kJ:Nat):Int)-(1:Int)))∧(U (((kJ:Nat):Int)-(1:Int)))<(kJ:Nat) then
  az[(0+(U (((kJ:Nat):Int)-(1:Int))).toNat)]? >>= fun a2 =>
  if (a2 == (0:Int))=true then
   if 0≤(U (((kJ:Nat):Int)-(1:Int))) then
   if 0≤(U (((kJ:Nat):Int)-(1:Int))).toNat∧(U (((kJ:Nat):Int)-(1:Int))).toNat≤kJ then
   some (.inl ((U (((kJ:Nat):Int)-(1:Int))).toNat-0))
   else none
   else none
  else
   some (.inr kJ)
  else none
 else
  some (.inr kJ)
def GL (az:List Int)(kJ:Nat):Option (Nat):=iter (fun w:Nat=>vL az w) kJ
theorem R1 {az:List Int}{kJ:Nat}:bV (vL az kJ) (fo bp 21 1 106 [1,0,0,0] (FQ az kJ) (FQ az) (Gc az)):=by
 unfold vL
 exact .ite (fun o =>
  .bq fun R =>
  .aD fun a2 ay =>
  (let t1:List cL:=[.aJ (ap 9 (au (.c4 (J a2)) (ap 1 (au (.ao true) []))))];
  have a9:=((.bi o o o o o R.1 R.2 o (.b4 (cQ J ay) o o)):cT _);
  .ite (fun aK =>
  .bq fun bI =>
  .bq fun bQ =>
  .ret (bW (t1.append [.ao true,(ag 6),.bj [0] [.pure] (bT [0])]) (a9.a3 (.ea aK bI bQ.1 bQ.2 (aB 1 .live aA az)))))
  (fun aK =>
  .ret (bW (t1.append [.ao false,.bj [0] [.pure] (bT [0])]) (a9.a3 (.aF aK (aB 1 .live aA az)))))))
  (fun o =>
  .ret (bW [.aJ (ap 4 (cO 7 (au (.ao false) []))),.ao false,.bj [0] [.pure] (bT [0])] (.bi o o o o o o o o (.aF eW (aB 1 .live aA az)))))
theorem SN {az:List Int}{kJ:Nat}{r} (h:GL az kJ=some r):fp bp 21 1 106 [1,0,0,0] (FQ az) (Gc az) kJ r:=fr (fun _=>R1) h
def yp (en:List Int):Option Nat :=
 GL en en.length >>= fun ad =>
 some ad
theorem To {en:List Int}:bV (yp en) (fun a=>Con bp 106 [.bu 0 0 0 en.length] [(aq 1 J en)] (.bu 0 0 0 a) [(aq 1 J en)]):=by
 unfold yp
 exact .aD fun ad R =>
  .ret (hH [(ag 1),.bj [0] [.pure] (bT [0]),(Gc en ad).gh,(ag 2)] [0] [.pure] (.b4 (aB 1 .live aA en) (SN R) (aB 1 .live aA en)))
def Fz (a6:List Int)(bc aZ:Int)(eC:List Int)(eK dA:Int):(Int×Int×(List Int))→S:=fun (dX,c7,az)=>eM [(1,.isl 1 (a6.map J)),(5,.bu 0 0 0 az.length),(6,.n .i64 bc),(7,.n .i64 aZ),(8,.n .i64 dX),(26,.isl 1 (eC.map J)),(27,.n .i64 eK),(28,.n .i64 bc),(33,.isl 1 (a6.map J)),(34,.n .i64 dA),(35,.n .i64 c7)] [(aq 1 J az)]
def FR (a6:List Int)(bc aZ:Int)(eC:List Int)(eK dA:Int):(Int×(List Int))→eP
 | a=>⟨some 2,[(1,.isl 1 (a6.map J)),(5,.bu 0 0 0 a.2.length),(6,.n .i64 bc),(8,.n .i64 a.1),(26,.isl 1 (eC.map J)),(27,.n .i64 eK),(28,.n .i64 bc)],[(aq 1 J a.2)]⟩
def FA (a6:List Int)(bc aZ:Int)(eC:List Int)(eK dA dX c7:Int)(az:List Int):Option ((Int×Int×(List Int))⊕(Int×(List Int))) :=
 if (decide (c7<dA))=true then
  if 0≤c7∧c7<a6.length then
  a6[c7.toNat]? >>= fun a2 =>
  if 0≤(U (bc+c7))∧(U (bc+c7))<(az.length:Nat) then
  az[(0+(U (bc+c7)).toNat)]? >>= fun cX =>
  if (0+(U (bc+c7)).toNat)<az.length then
  some (.inl (U ((U ((U (cX+(U (aZ*a2))))+dX)).tdiv (1000000000:Int)),U (c7+(1:Int)),az.set (0+(U (bc+c7)).toNat) ((U ((U (cX+(U (aZ*a2))))+dX)).tmod (1000000000:Int))))
  else none
  else none
  else none
 else
  some (.inr (dX,az))
def Lr (a6:List Int)(bc aZ:Int)(eC:List Int)(eK dA dX c7:Int)(az:List Int):Option (Int×(List Int)):=iter (fun w:Int×Int×(List Int)=>FA a6 bc aZ eC eK dA w.1 w.2.1 w.2.2) (dX,c7,az)
theorem RM {a6:List Int}{bc aZ:Int}{eC:List Int}{eK dA dX c7:Int}{az:List Int}:bV (FA a6 bc aZ eC eK dA dX c7 az) (fo bp 72 0 101 [1,1,1,0,1,0,0,1,1,0,0,1,1,0,1,0,0] (Fz a6 bc aZ eC eK dA (dX,c7,az)) (Fz a6 bc aZ eC eK dA) (FR a6 bc aZ eC eK dA)):=by
 unfold FA
 exact .ite (fun o =>
  .bq fun R =>
  .aD fun a2 ay =>
  .bq fun aK =>
  .aD fun cX bQ =>
  .bq fun bE =>
  .ret (let aW:=U ((U (cX+(U (aZ*a2))))+dX);let bh:=U (bc+c7);bW [(ag 1),.ao true,.aJ (bO 2 (.c4 (J a2)) 2),.aJ (bO 5 (.c4 (J cX)) 7),.aJ (bO 9 .dx 1),(ag 2),.bj [0] [.dL (aq 1 J (az.set (0+bh.toNat) (aW.tmod (1000000000:Int))))] [(1,ii),(5,gY ((az.set (0+bh.toNat) (aW.tmod (1000000000:Int))).length)),(6,ii),(7,ii),(8,ii),(26,ii),(27,ii),(28,ii),(33,ii),(34,ii),(35,ii)]] (.bi o R.1 (eY J R.2) (cQ J ay) aK.1 aK.2 (cQ J bQ) (by decide:(1000000000:Int)≠0) (.gH (by decide:(1000000000:Int)≠0) aK.1 aK.2 (h9 J bE) (hp 1) (eA 1 .live (ga (dW J az) (0+bh.toNat) (aW.tmod (1000000000:Int)))) (aB 1 .live aA (az.set (0+bh.toNat) (aW.tmod (1000000000:Int)))) (hC (fl az) (0+bh.toNat) (aW.tmod (1000000000:Int)))))))
  (fun o =>
  .ret (bW [(ag 1),.ao false,.bj [0] [.pure] (bT [1,5,6,8,26,27,28])] (.aF o (aB 1 .live aA az))))
theorem Su {a6:List Int}{bc aZ:Int}{eC:List Int}{eK dA dX c7:Int}{az:List Int}{r} (h:Lr a6 bc aZ eC eK dA dX c7 az=some r):fp bp 72 0 101 [1,1,1,0,1,0,0,1,1,0,0,1,1,0,1,0,0] (Fz a6 bc aZ eC eK dA) (FR a6 bc aZ eC eK dA) (dX,c7,az) r:=fr (fun _=>RM) h
def FB (a6 eC:List Int)(eK:Int):(Int×(List Int))→S:=fun (fG,az)=>eM [(1,.isl 1 (a6.map J)),(5,.bu 0 0 0 az.length),(26,.isl 1 (eC.map J)),(27,.n .i64 eK),(28,.n .i64 fG)] [(aq 1 J az)]
def FT (a6 eC:List Int)(eK:Int):(List Int)→eP
 | a=>⟨some 0,[(5,.bu 0 0 0 a.length)],[(aq 1 J a)]⟩
def FC (a6 eC:List Int)(eK fG:Int)(az:List Int):Option ((Int×(List Int))⊕((List Int))) :=
 if (decide (fG<eK))=true then
  if 0≤fG∧fG<eC.length then
  eC[fG.toNat]? >>= fun a2 =>
  Lr a6 fG a2 eC eK (len_ J a6) 0 0 az >>= fun bt =>
  if 0≤(U (fG+(len_ J a6)))∧(U (fG+(len_ J a6)))<(bt.2.length:Nat) then
  if (0+(U (fG+(len_ J a6))).toNat)<bt.2.length then
  some (.inl (U (fG+(1:Int)),bt.2.set (0+(U (fG+(len_ J a6))).toNat) bt.1))
  else none
  else none
  else none
 else
  some (.inr az)
def GF (a6 eC:List Int)(eK fG:Int)(az:List Int):Option ((List Int)):=iter (fun w:Int×(List Int)=>FC a6 eC eK w.1 w.2) (fG,az)
theorem RN {a6 eC:List Int}{eK fG:Int}{az:List Int}:bV (FC a6 eC eK fG az) (fo bp 72 0 101 [1,1,1,0,1,0,0] (FB a6 eC eK (fG,az)) (FB a6 eC eK) (FT a6 eC eK)):=by
 unfold FC
 exact .ite (fun o =>
  .bq fun R =>
  .aD fun a2 ay =>
  .aD fun bt bI =>
  .bq fun bQ =>
  .bq fun bE =>
  .ret (let aW:=U (fG+(len_ J a6));bW [(ag 1),.ao true,.aJ (bO 2 (.c4 (J a2)) 2),(ag 1),(ag 3),.bj [0] [.pure] (bT [1,5,6,7,8,26,27,28,33,34,35]),(FR a6 fG a2 eC eK (len_ J a6) bt).gh,.aJ (ap 7 (au .dx [])),(ag 2),.bj [0] [.dL (aq 1 J (bt.2.set (0+aW.toNat) bt.1))] [(1,ii),(5,gY ((bt.2.set (0+aW.toNat) bt.1).length)),(26,ii),(27,ii),(28,ii)]] (.bi o R.1 (eY J R.2) (cQ J ay) (aB 1 .live aA az) (Su bI) bQ.1 bQ.2 (.ea (h9 J bE) (hp 1) (eA 1 .live (ga (dW J bt.2) (0+aW.toNat) bt.1)) (aB 1 .live aA (bt.2.set (0+aW.toNat) bt.1)) (hC (fl bt.2) (0+aW.toNat) bt.1)))))
  (fun o =>
  .ret (bW [(ag 1),.ao false,.bj [0] [.pure] (bT [5])] (.aF o (aB 1 .live aA az))))
theorem Sv {a6 eC:List Int}{eK fG:Int}{az:List Int}{r} (h:GF a6 eC eK fG az=some r):fp bp 72 0 101 [1,1,1,0,1,0,0] (FB a6 eC eK) (FT a6 eC eK) (fG,az) r:=fr (fun _=>RN) h
def wa (a7 a6:List Int):Option (Nat×(List Int)) :=
 if ((len_ J a7) == (0:Int))=true then
  none
 else
  if ((len_ J a6) == (0:Int))=true then
   none
  else
   if 0≤(U ((len_ J a7)+(len_ J a6)))∧(8:Int)*(U ((len_ J a7)+(len_ J a6)))≤281474976710656∧(U ((len_ J a7)+(len_ J a6)))<9223372036854775808 then
   GF a6 a7 (len_ J a7) 0 (List.replicate (U ((len_ J a7)+(len_ J a6))).toNat 0:List Int) >>= fun bl =>
   yp bl >>= fun bw =>
   some (bw,bl)
   else none
theorem Ls {a7 a6:List Int}:bV (wa a7 a6) (fun a=>Con bp 101 [.isl 1 (a7.map J),.isl 1 (a6.map J)] [] (.bu 0 0 0 a.1) [(aq 1 J a.2)]):=by
 unfold wa
 exact .ite (fun o =>
  .PP)
  (fun o =>
  .ite (fun R =>
  .PP)
  (fun R =>
  .bq fun ae =>
  .aD fun bl aK =>
  .aD fun bw bQ =>
  .ret (let aW:=U ((len_ J a7)+(len_ J a6));let bh:=(List.replicate aW.toNat 0:List Int);hH [(ag 1),.aJ (ap 7 (au (.ao false) [])),.ao false,(ag 7),(ag 3),.bj [14] [.dL (aq 1 J bh)] [(1,ii),(5,gY (bh.length)),(26,ii),(27,ii),(28,ii)],(FT a6 a7 (len_ J a7) bl).gh,.aJ (bO 1 (.call {aL:=[.row 0],cq:=[.pure],ac:=[ii],r:= .bu 0 0 0 bw,dh:=[(aq 1 J bl)],ez:=ii,e5:=[.pure],dD:=[0],dB:=false}) 1)] [0] [.pure] (.bi o o o o R ae.1 (Int.le_refl aW) ae.2.1 (.bi ae.2.2 (eA 1 .live (ls J aW.toNat 0)) (aB 1 .live aA bh) (lP aW.toNat (0:Int)) (Sv aK) (eo 1 aA bl) (eo 1 aA bl) (To bw bQ) (.ax (aB 1 .live aA bl)))))))
def FU (eJ dT:Nat)(dO:List Int)(iK d8:Int):(Int×Int×(List Int))→S:=fun (dX,bU,az)=>eM [(0,.bu 0 0 eJ dT),(1,.isl 1 (dO.map J)),(2,.n .i64 iK),(7,.n .i64 dX),(11,.isl 1 (dO.map J)),(12,.n .i64 d8),(13,.n .i64 bU)] [(aq 1 J az)]
def Gd (eJ dT:Nat)(dO:List Int)(iK d8:Int):(Int×(List Int))→eP
 | a=>⟨some 0,[(0,.bu 0 0 eJ dT),(1,.isl 1 (dO.map J)),(7,.n .i64 a.1)],[(aq 1 J a.2)]⟩
def tx (eJ dT:Nat)(dO:List Int)(iK d8 dX bU:Int)(az:List Int):Option ((Int×Int×(List Int))⊕(Int×(List Int))) :=
 if (decide (bU<d8))=true then
  if 0≤bU∧bU<dO.length then
  dO[bU.toNat]? >>= fun a2 =>
  if 0≤bU∧bU<(dT:Nat) then
  az[(eJ+bU.toNat)]? >>= fun cX =>
  if (decide ((U ((U (cX-(U (iK*a2))))-dX))<(0:Int)))=true then
   if (eJ+bU.toNat)<az.length then
   some (.inl (U ((U ((999999999:Int)-(U ((U (cX-(U (iK*a2))))-dX)))).tdiv (1000000000:Int)),U (bU+(1:Int)),az.set (eJ+bU.toNat) (U ((U ((U (cX-(U (iK*a2))))-dX))+(U ((U ((U ((999999999:Int)-(U ((U (cX-(U (iK*a2))))-dX)))).tdiv (1000000000:Int)))*(1000000000:Int)))))))
   else none
  else
   if (eJ+bU.toNat)<az.length then
   some (.inl (0,U (bU+(1:Int)),az.set (eJ+bU.toNat) (U ((U (cX-(U (iK*a2))))-dX))))
   else none
  else none
  else none
 else
  some (.inr (dX,az))
def GM (eJ dT:Nat)(dO:List Int)(iK d8 dX bU:Int)(az:List Int):Option (Int×(List Int)):=iter (fun w:Int×Int×(List Int)=>tx eJ dT dO iK d8 w.1 w.2.1 w.2.2) (dX,bU,az)
theorem R2 {eJ dT:Nat}{dO:List Int}{iK d8 dX bU:Int}{az:List Int}:bV (tx eJ dT dO iK d8 dX bU az) (fo bp 56 1 104 [1,1,0,1,0,0] (FU eJ dT dO iK d8 (dX,bU,az)) (FU eJ dT dO iK d8) (Gd eJ dT dO iK d8)):=by
 unfold tx
 exact .ite (fun o =>
  .bq fun R =>
  .aD fun a2 ay =>
  .bq fun aK =>
  .aD fun cX bQ =>
  (let t1:List cL:=[(ag 1),.ao true,.aJ (bO 2 (.c4 (J a2)) 2),.aJ (bO 3 (.c4 (J cX)) 7),(ag 1),(ag 2)];
  have a9:=((.eT o R.1 (eY J R.2) (cQ J ay) aK.1 aK.2 (cQ J bQ)):cT _);
  .ite (fun bE =>
  .bq fun c6 =>
  .ret (let aW:=(U ((U ((U (cX-(U (iK*a2))))-dX))+(U ((U ((U ((999999999:Int)-(U ((U (cX-(U (iK*a2))))-dX)))).tdiv (1000000000:Int)))*(1000000000:Int)))));bW (t1.append [.ao true,(ag 4),(ag 5),.aJ (ap 4 (au .dx [])),(ag 2),.bj [0] [.dL (aq 1 J (az.set (eJ+bU.toNat) aW))] (bT [0,1,2,7,11,12,13])]) (a9.a3 (.gH bE (by decide:(1000000000:Int)≠0) aK.1 aK.2 (h9 J c6) (hp 1) (eA 1 .live (ga (dW J az) (eJ+bU.toNat) aW)) (aB 1 .live aA (az.set (eJ+bU.toNat) aW))))))
  (fun bE =>
  .bq fun c6 =>
  .ret (let bh:=U ((U (cX-(U (iK*a2))))-dX);bW (t1.append [.ao false,.aJ (ap 4 (au .dx [])),(ag 2),.bj [0] [.dL (aq 1 J (az.set (eJ+bU.toNat) bh))] (bT [0,1,2,7,11,12,13])]) (a9.a3 (.eT bE aK.1 aK.2 (h9 J c6) (hp 1) (eA 1 .live (ga (dW J az) (eJ+bU.toNat) bh)) (aB 1 .live aA (az.set (eJ+bU.toNat) bh))))))))
  (fun o =>
  .ret (bW [(ag 1),.ao false,.bj [0] [.pure] (bT [0,1,7])] (.aF o (aB 1 .live aA az))))
theorem SO {eJ dT:Nat}{dO:List Int}{iK d8 dX bU:Int}{az:List Int}{r} (h:GM eJ dT dO iK d8 dX bU az=some r):fp bp 56 1 104 [1,1,0,1,0,0] (FU eJ dT dO iK d8) (Gd eJ dT dO iK d8) (dX,bU,az) r:=fr (fun _=>R2) h
def yq (dO:List Int)(iK:Int)(eJ dT:Nat)(en:List Int):Option (Bool×(List Int)) :=
 GM eJ dT dO iK (len_ J dO) 0 0 en >>= fun ad =>
 if 0≤(len_ J dO)∧(len_ J dO)<(dT:Nat) then
 ad.2[(eJ+(len_ J dO).toNat)]? >>= fun fN =>
 if (eJ+(len_ J dO).toNat)<ad.2.length then
 (ad.2.set (eJ+(len_ J dO).toNat) (U (fN-ad.1)))[(eJ+(len_ J dO).toNat)]? >>= fun f7 =>
 some ((decide (f7<(0:Int))),ad.2.set (eJ+(len_ J dO).toNat) (U (fN-ad.1)))
 else none
 else none
theorem Tp {dO:List Int}{iK:Int}{eJ dT:Nat}{en:List Int}:bV (yq dO iK eJ dT en) (fun a=>Con bp 104 (ZB 0 0 eJ dT dO iK) [(aq 1 J en)] (.b a.1) [(aq 1 J a.2)]):=by
 unfold yq
 exact .aD fun ad R =>
  .bq fun ae =>
  .aD fun fN aK =>
  .bq fun bI =>
  .aD fun f7 bE =>
  .ret (let aW:=U (fN-ad.1);let bh:=len_ J dO;hH [(ag 1),(ag 1),(ag 3),.bj [0] [.pure] (bT [0,1,2,7,11,12,13]),(Gd eJ dT dO iK bh ad).gh,.aJ (ap 4 (au (.c4 (J fN)) (ap 3 (au .dx [])))),.aJ (bO 4 (.c4 (J f7)) 2)] [0] [.dL (aq 1 J (ad.2.set (eJ+bh.toNat) aW))] (.bi (aB 1 .live aA en) (SO R) ae.1 ae.2 (cQ J aK) ae.1 ae.2 (h9 J bI) (.e7 (hp 1) ae.1 ae.2 (Wo (ga (dW J ad.2) (eJ+bh.toNat) aW) bE) (eA 1 .live (ga (dW J ad.2) (eJ+bh.toNat) aW)) (aB 1 .live aA (ad.2.set (eJ+bh.toNat) aW)))))
def FV (eJ dT:Nat)(dO:List Int)(fg:Int):(Int×Int×(List Int))→S:=fun (dX,fP,az)=>eM [(0,.bu 0 0 eJ dT),(1,.isl 1 (dO.map J)),(4,.n .i64 dX),(8,.isl 1 (dO.map J)),(9,.n .i64 fg),(10,.n .i64 fP)] [(aq 1 J az)]
def Ge (eJ dT:Nat)(dO:List Int)(fg:Int):(Int×(List Int))→eP
 | a=>⟨some 0,[(0,.bu 0 0 eJ dT),(1,.isl 1 (dO.map J)),(4,.n .i64 a.1)],[(aq 1 J a.2)]⟩
def vM (eJ dT:Nat)(dO:List Int)(fg dX fP:Int)(az:List Int):Option ((Int×Int×(List Int))⊕(Int×(List Int))) :=
 if (decide (fP<fg))=true then
  if 0≤fP∧fP<dO.length then
  dO[fP.toNat]? >>= fun a2 =>
  if 0≤fP∧fP<(dT:Nat) then
  az[(eJ+fP.toNat)]? >>= fun cX =>
  if (eJ+fP.toNat)<az.length then
  some (.inl (U ((U ((U (cX+a2))+dX)).tdiv (1000000000:Int)),U (fP+(1:Int)),az.set (eJ+fP.toNat) ((U ((U (cX+a2))+dX)).tmod (1000000000:Int))))
  else none
  else none
  else none
 else
  some (.inr (dX,az))
def GN (eJ dT:Nat)(dO:List Int)(fg dX fP:Int)(az:List Int):Option (Int×(List Int)):=iter (fun w:Int×Int×(List Int)=>vM eJ dT dO fg w.1 w.2.1 w.2.2) (dX,fP,az)
theorem R3 {eJ dT:Nat}{dO:List Int}{fg dX fP:Int}{az:List Int}:bV (vM eJ dT dO fg dX fP az) (fo bp 39 1 105 [1,0,1,0,0] (FV eJ dT dO fg (dX,fP,az)) (FV eJ dT dO fg) (Ge eJ dT dO fg)):=by
 unfold vM
 exact .ite (fun o =>
  .bq fun R =>
  .aD fun a2 ay =>
  .bq fun aK =>
  .aD fun cX bQ =>
  .bq fun bE =>
  .ret (let aW:=U ((U (cX+a2))+dX);bW [(ag 1),.ao true,.aJ (bO 2 (.c4 (J a2)) 2),.aJ (bO 3 (.c4 (J cX)) 5),.aJ (bO 7 .dx 1),(ag 2),.bj [0] [.dL (aq 1 J (az.set (eJ+fP.toNat) (aW.tmod (1000000000:Int))))] (bT [0,1,4,8,9,10])] (.bi o R.1 (eY J R.2) (cQ J ay) aK.1 aK.2 (cQ J bQ) (by decide:(1000000000:Int)≠0) (.eT (by decide:(1000000000:Int)≠0) aK.1 aK.2 (h9 J bE) (hp 1) (eA 1 .live (ga (dW J az) (eJ+fP.toNat) (aW.tmod (1000000000:Int)))) (aB 1 .live aA (az.set (eJ+fP.toNat) (aW.tmod (1000000000:Int))))))))
  (fun o =>
  .ret (bW [(ag 1),.ao false,.bj [0] [.pure] (bT [0,1,4])] (.aF o (aB 1 .live aA az))))
theorem SP {eJ dT:Nat}{dO:List Int}{fg dX fP:Int}{az:List Int}{r} (h:GN eJ dT dO fg dX fP az=some r):fp bp 39 1 105 [1,0,1,0,0] (FV eJ dT dO fg) (Ge eJ dT dO fg) (dX,fP,az) r:=fr (fun _=>R3) h
def we (dO:List Int)(eJ dT:Nat)(en:List Int):Option (List Int) :=
 GN eJ dT dO (len_ J dO) 0 0 en >>= fun ad =>
 if 0≤(len_ J dO)∧(len_ J dO)<(dT:Nat) then
 ad.2[(eJ+(len_ J dO).toNat)]? >>= fun fN =>
 if (eJ+(len_ J dO).toNat)<ad.2.length then
 some (ad.2.set (eJ+(len_ J dO).toNat) (U (fN+ad.1)))
 else none
 else none
theorem Tq {dO:List Int}{eJ dT:Nat}{en:List Int}:bV (we dO eJ dT en) (fun a=>Con bp 105 [.bu 0 0 eJ dT,.isl 1 (dO.map J)] [(aq 1 J en)] (.dm []) [(aq 1 J a)]):=by
 unfold we
 exact .aD fun ad R =>
  .bq fun ae =>
  .aD fun fN aK =>
  .bq fun bI =>
  .ret (let aW:=U (fN+ad.1);let bh:=len_ J dO;hH [(ag 1),(ag 3),.bj [0] [.pure] (bT [0,1,4,8,9,10]),(Ge eJ dT dO bh ad).gh,.aJ (ap 4 (au (.c4 (J fN)) (ap 3 (au .dx []))))] [0] [.dL (aq 1 J (ad.2.set (eJ+bh.toNat) aW))] (.bi (aB 1 .live aA en) (SP R) ae.1 ae.2 (cQ J aK) ae.1 ae.2 (h9 J bI) (.b4 (hp 1) (eA 1 .live (ga (dW J ad.2) (eJ+bh.toNat) aW)) (aB 1 .live aA (ad.2.set (eJ+bh.toNat) aW)))))
end Go.Proofs.YtfdnefmiaihfcaaGreat
