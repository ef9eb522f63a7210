/- Lemmas, plain functions of the program, and what they answer. No condition. -/
import Derived.Test.YtjkpomjgokofmacMB
namespace Go.Proofs.Ytjkpomjgokofmac
set_option linter.unusedVariables false
set_option linter.unusedSimpArgs false
open Go Go.VL
def Bi (ei:List Int):(Int×Int)→S:=fun (nD,a0)=>er [(0,.isl 1 (ei.map eU8)),(3,.n .i64 nD),(4,.n .i64 a0)] []
def Bt (ei:List Int):Int→ex
 | a=>⟨some 0,[(0,.isl 1 (ei.map eU8)),(3,.n .i64 a)],[]⟩
def s6 (ei:List Int)(nD a0:Int):Option ((Int×Int)⊕(Int)) :=
 if (decide (a0<(len_ eU8 ei)))=true then
  if (decide (a0<(4000:Int)))=true then
   if 0≤a0∧a0<ei.length then
   ei[a0.toNat]? >>= fun fM =>
   some (.inl (U (((BitVec.ofInt (IntKind.bits .i64) (U ((U ((U (nD*(73:Int)))+(IntKind.wrap .i64 fM)))+(7:Int))) &&& BitVec.ofInt (IntKind.bits .i64) (1073741823:Int)).toNat:Int)),U (a0+(1:Int))))
   else none
  else
   some (.inr nD)
 else
  some (.inr nD)
def Gs (ei:List Int)(nD a0:Int):Option (Int):=iter (fun w:Int×Int=>s6 ei w.1 w.2) (nD,a0)
theorem Mj {ei:List Int}{nD a0:Int}:b2 (s6 ei nD a0) (e5 bz 32 0 13 [1,1,0,1,0,0] (Bi ei (nD,a0)) (Bi ei) (Bt ei)):=by
 unfold s6
 exact .ite (fun o =>
  .ite (fun J =>
  .bk fun ao =>
  .aI fun fM aM =>
  .ret (bP [.aY (aD 7 (aF (.aw true) [])),.aw true,.aY (b0 5 (.cy (eU8 fM)) 5),(ak 3),.bi [] [] (bI [0,3,4])] (.fm o o o J ao.1 (d1 eU8 ao.2) (cr eU8 aM))))
  (fun J =>
  .ret (bP [.aY (aD 7 (aF (.aw true) [])),.aw false,.bi [] [] (bI [0,3])] (.dc o o o J))))
  (fun o =>
  .ret (bP [.aY (aD 5 (dE 2 (aF (.aw false) []))),.aw false,.bi [] [] (bI [0,3])] (.dc o o o iZ)))
theorem MX {ei:List Int}{nD a0:Int}{r} (h:Gs ei nD a0=some r):e6 bz 32 0 13 [1,1,0,1,0,0] (Bi ei) (Bt ei) (nD,a0) r:=e7 (fun _=>Mj) h
def vj (ei:List Int):Option Int :=
 Gs ei (U ((1975:Int)+(len_ eU8 ei))) 0 >>= fun ax =>
 some ax
theorem Gt {ei:List Int}:b2 (vj ei) (fun a=>Con bz 13 [.isl 1 (ei.map eU8)] [] (.ref 0 0 0 0) [[ap.mk 3 [[.isl 1 (ei.map eU8),.n .i64 (0:Int),.n .i64 a]] .live]]):=by
 unfold vj
 exact .aI fun ax J =>
  .ret (ik [(ak 1),(ak 4),(ak 1),.bi [] [] (bI [0,3,4]),(Bt ei ax).fU,(ak 5)] [3] [.box [.id,.id,.id]] (.ar (MX J)))
def nO (cp:List Int)(eA dA:Int):Option (Int×Int×Int) :=
 if (decide (eA<(len_ eU8 cp)))=true then
  if 0≤eA∧eA<cp.length then
  cp[eA.toNat]? >>= fun a4 =>
  some (U (((BitVec.ofInt (IntKind.bits .i64) (U ((U (((BitVec.ofInt (IntKind.bits .i64) (U (((BitVec.ofInt (IntKind.bits .i64) ((U ((U (dA*(6364136223846793005:Int)))+(1442695040888963407:Int))).fdiv (2 ^ (min (33:Int).toNat (IntKind.bits .i64)))) ^^^ BitVec.ofInt (IntKind.bits .i64) ((U ((U (dA*(6364136223846793005:Int)))+(1442695040888963407:Int))).fdiv (2 ^ (min (45:Int).toNat (IntKind.bits .i64))))).toNat:Int))) &&& BitVec.ofInt (IntKind.bits .i64) (255:Int)).toNat:Int)))+(IntKind.wrap .i64 a4))) &&& BitVec.ofInt (IntKind.bits .i64) (255:Int)).toNat:Int)),U (eA+(1:Int)),U ((U (dA*(6364136223846793005:Int)))+(1442695040888963407:Int)))
  else none
 else
  some (U (((BitVec.ofInt (IntKind.bits .i64) (U (((BitVec.ofInt (IntKind.bits .i64) ((U ((U (dA*(6364136223846793005:Int)))+(1442695040888963407:Int))).fdiv (2 ^ (min (33:Int).toNat (IntKind.bits .i64)))) ^^^ BitVec.ofInt (IntKind.bits .i64) ((U ((U (dA*(6364136223846793005:Int)))+(1442695040888963407:Int))).fdiv (2 ^ (min (45:Int).toNat (IntKind.bits .i64))))).toNat:Int))) &&& BitVec.ofInt (IntKind.bits .i64) (255:Int)).toNat:Int)),eA,U ((U (dA*(6364136223846793005:Int)))+(1442695040888963407:Int)))
theorem qg {cp:List Int}{eA dA:Int}:b2 (nO cp eA dA) (fun a=>Con bz 19 [.ref 0 0 0 0] [[ap.mk 3 [[.isl 1 (cp.map eU8),.n .i64 eA,.n .i64 dA]] .live]] (.n .i64 a.1) [[ap.mk 3 [[.isl 1 (cp.map eU8),.n .i64 a.2.1,.n .i64 a.2.2]] .live]]):=by
 unfold nO
 exact (let t1:List cM:=[(ak 1),(ak 10),(ak 13),(ak 10)];
  have a6:=((.ay (by decide:(0:Int)≤33) (by decide:(0:Int)≤45)):cF _);
  .ite (fun o =>
  .bk fun J =>
  .aI fun a4 aO =>
  .ret (ik (t1.append [.aw true,.aY (b0 10 (.cy (eU8 a4)) 4),(ak 9),(ak 2)]) [0] [.box [.id,.id,.id]] (a6.bb (.dc o J.1 (d1 eU8 J.2) (cr eU8 aO)))))
  (fun o =>
  .ret (ik (t1.append [.aw false,(ak 2)]) [0] [.box [.id,.id,.id]] (a6.bb (.ar o)))))
def jb (aW:Int)(cp:List Int)(eA dA:Int):Option (Int×Int×Int) :=
 if (decide (aW≤(0:Int)))=true then
  some (0,eA,dA)
 else
  if (decide (aW≤(256:Int)))=true then
   nO cp eA dA >>= fun bh =>
   if aW≠0 then
   some (bh.1.tmod aW,bh.2.1,bh.2.2)
   else none
  else
   nO cp eA dA >>= fun bh =>
   nO cp bh.2.1 bh.2.2 >>= fun br =>
   nO cp br.2.1 br.2.2 >>= fun cu =>
   nO cp cu.2.1 cu.2.2 >>= fun bA =>
   if aW≠0 then
   some ((U ((U ((U ((U (bh.1*(16777216:Int)))+(U (br.1*(65536:Int)))))+(U (cu.1*(256:Int)))))+bA.1)).tmod aW,bA.2.1,bA.2.2)
   else none
theorem j7 {aW:Int}{cp:List Int}{eA dA:Int}:b2 (jb aW cp eA dA) (fun a=>Con bz 25 [.ref 0 0 0 0,.n .i64 aW] [[ap.mk 3 [[.isl 1 (cp.map eU8),.n .i64 eA,.n .i64 dA]] .live]] (.n .i64 a.1) [[ap.mk 3 [[.isl 1 (cp.map eU8),.n .i64 a.2.1,.n .i64 a.2.2]] .live]]):=by
 unfold jb
 exact .ite (fun o =>
  .ret (ik [(ak 1),(ak 2),.aw true,(ak 1)] [0] [.box [.id,.id,.id]] (.ar o)))
  (fun o =>
  (let t1:List cM:=[(ak 1),(ak 2),.aw false,(ak 2)];
  .ite (fun J =>
  .aI fun bh aO =>
  .bk fun aM =>
  .ret (ik (t1.append [.aw true,.aY (b0 1 (.call {aA:=[.row 0],b7:=[.box [.id,.id,.id]],ac:=[ii],r:= .n .i64 bh.1,cY:=[[ap.mk 3 [[.isl 1 (cp.map eU8),.n .i64 bh.2.1,.n .i64 bh.2.2]] .live]],ec:=ii,eL:=[.box [.id,.id,.id]],c4:=[0],cX:=false}) 3)]) [0] [.box [.id,.id,.id]] (.dc o J (qg bh aO) aM)))
  (fun J =>
  .aI fun bh aO =>
  .aI fun br bW =>
  .aI fun cu bG =>
  .aI fun bA dZ =>
  .bk fun dG =>
  .ret (ik (t1.append [.aw false,.aY (b0 1 (.call {aA:=[.row 0],b7:=[.box [.id,.id,.id]],ac:=[ii],r:= .n .i64 bh.1,cY:=[[ap.mk 3 [[.isl 1 (cp.map eU8),.n .i64 bh.2.1,.n .i64 bh.2.2]] .live]],ec:=ii,eL:=[.box [.id,.id,.id]],c4:=[0],cX:=false}) 1),.aY (b0 1 (.call {aA:=[.row 0],b7:=[.box [.id,.id,.id]],ac:=[ii],r:= .n .i64 br.1,cY:=[[ap.mk 3 [[.isl 1 (cp.map eU8),.n .i64 br.2.1,.n .i64 br.2.2]] .live]],ec:=ii,eL:=[.box [.id,.id,.id]],c4:=[0],cX:=false}) 1),.aY (b0 1 (.call {aA:=[.row 0],b7:=[.box [.id,.id,.id]],ac:=[ii],r:= .n .i64 cu.1,cY:=[[ap.mk 3 [[.isl 1 (cp.map eU8),.n .i64 cu.2.1,.n .i64 cu.2.2]] .live]],ec:=ii,eL:=[.box [.id,.id,.id]],c4:=[0],cX:=false}) 1),.aY (b0 1 (.call {aA:=[.row 0],b7:=[.box [.id,.id,.id]],ac:=[ii],r:= .n .i64 bA.1,cY:=[[ap.mk 3 [[.isl 1 (cp.map eU8),.n .i64 bA.2.1,.n .i64 bA.2.2]] .live]],ec:=ii,eL:=[.box [.id,.id,.id]],c4:=[0],cX:=false}) 1),(ak 13)]) [0] [.box [.id,.id,.id]] (.fm o J (qg bh aO) (qg br bW) (qg cu bG) (qg bA dZ) dG)))))
def tx (aW:Int)(cp:List Int)(eA dA:Int):Option (Bool×Int×Int) :=
 jb aW cp eA dA >>= fun ax =>
 some ((ax.1 == (0:Int)),ax.2.1,ax.2.2)
theorem x2 {aW:Int}{cp:List Int}{eA dA:Int}:b2 (tx aW cp eA dA) (fun a=>Con bz 26 [.ref 0 0 0 0,.n .i64 aW] [[ap.mk 3 [[.isl 1 (cp.map eU8),.n .i64 eA,.n .i64 dA]] .live]] (.b a.1) [[ap.mk 3 [[.isl 1 (cp.map eU8),.n .i64 a.2.1,.n .i64 a.2.2]] .live]]):=by
 unfold tx
 exact .aI fun ax J =>
  .ret (ik [(ak 1),.aY (b0 2 (.call {aA:=[.row 0],b7:=[.box [.id,.id,.id]],ac:=[ii,ii],r:= .n .i64 ax.1,cY:=[[ap.mk 3 [[.isl 1 (cp.map eU8),.n .i64 ax.2.1,.n .i64 ax.2.2]] .live]],ec:=ii,eL:=[.box [.id,.id,.id]],c4:=[0],cX:=false}) 2)] [0] [.box [.id,.id,.id]] (.ar (j7 ax J)))
def ty (dq cp:List Int)(eA dA:Int):Option (Int×Int×Int) :=
 jb (len_ R dq) cp eA dA >>= fun ax =>
 if 0≤ax.1∧ax.1<dq.length then
 dq[ax.1.toNat]? >>= fun fM =>
 some (fM,ax.2.1,ax.2.2)
 else none
theorem Cd {dq cp:List Int}{eA dA:Int}:b2 (ty dq cp eA dA) (fun a=>Con bz 53 [.ref 0 0 0 0,.isl 1 (dq.map R)] [[ap.mk 3 [[.isl 1 (cp.map eU8),.n .i64 eA,.n .i64 dA]] .live]] (.n .i64 a.1) [[ap.mk 3 [[.isl 1 (cp.map eU8),.n .i64 a.2.1,.n .i64 a.2.2]] .live]]):=by
 unfold ty
 exact .aI fun ax J =>
  .bk fun ao =>
  .aI fun fM aM =>
  .ret (ik [(ak 1),.aY (aD 4 (aF (.call {aA:=[.row 0],b7:=[.box [.id,.id,.id]],ac:=[ii,ii],r:= .n .i64 ax.1,cY:=[[ap.mk 3 [[.isl 1 (cp.map eU8),.n .i64 ax.2.1,.n .i64 ax.2.2]] .live]],ec:=ii,eL:=[.box [.id,.id,.id]],c4:=[0],cX:=false}) (b0 1 (.cy (R fM)) 1)))] [0] [.box [.id,.id,.id]] (.dc (j7 ax J) ao.1 (d1 R ao.2) (cr R aM)))
def Bj (az:List Int)(an:List a9):(Int×Int×Int×(List bu))→S:=fun (aW,aB,bE,au)=>er [(0,.ref 0 0 0 0),(2,.ref 1 0 0 0),(3,.ref 2 0 0 0),(4,.n .i64 aW)] [[ap.mk 3 [[.isl 1 (az.map eU8),.n .i64 aB,.n .i64 bE]] .live],[ap.mk 2 [[.dJ,.dJ]] .live],[ap.mk 2 [[.bp 3 0 0 an.length,.bp 4 0 0 au.length]] .live],(aH 4 cA an),(aH 3 dr au)]
def Bu (az:List Int)(an:List a9):(Int×Int×(List bu))→ex
 | a=>⟨some 0,[(2,.ref 1 0 0 0),(3,.ref 2 0 0 0)],[[ap.mk 3 [[.isl 1 (az.map eU8),.n .i64 a.1,.n .i64 a.2.1]] .live],[ap.mk 2 [[.dJ,.dJ]] .live],[ap.mk 2 [[.bp 3 0 0 an.length,.bp 4 0 0 a.2.2.length]] .live],(aH 4 cA an),(aH 3 dr a.2.2)]⟩
def s7 (az:List Int)(an:List a9)(aW aB bE:Int)(au:List bu):Option ((Int×Int×Int×(List bu))⊕(Int×Int×(List bu))) :=
 if (decide ((0:Int)<aW))=true then
  jb 2 az aB bE >>= fun bJ =>
  jb 2 az bJ.2.1 bJ.2.2 >>= fun bl =>
  jb 3 az bl.2.1 bl.2.2 >>= fun cj =>
  if (au++([(⟨bJ.1,U ((2:Int)+bl.1),U ((1:Int)+cj.1)⟩:bu)]:List bu)).length*24≤140737488355328 then
  some (.inl (U (aW-(1:Int)),cj.2.1,cj.2.2,au++([(⟨bJ.1,U ((2:Int)+bl.1),U ((1:Int)+cj.1)⟩:bu)]:List bu)))
  else none
 else
  some (.inr (aB,bE,au))
def Gu (az:List Int)(an:List a9)(aW aB bE:Int)(au:List bu):Option (Int×Int×(List bu)):=iter (fun w:Int×Int×Int×(List bu)=>s7 az an w.1 w.2.1 w.2.2.1 w.2.2.2) (aW,aB,bE,au)
theorem Mk {az:List Int}{an:List a9}{aW aB bE:Int}{au:List bu}:b2 (s7 az an aW aB bE au) (e5 bz 56 1 37 [1,1,1,1,0,1,0,0] (Bj az an (aW,aB,bE,au)) (Bj az an) (Bu az an)):=by
 unfold s7
 exact .ite (fun o =>
  .aI fun bJ ao =>
  .aI fun bl aM =>
  .aI fun cj bK =>
  .bk fun bG =>
  .ret (let aZ:=(au++([(⟨bJ.1,U ((2:Int)+bl.1),U ((1:Int)+cj.1)⟩:bu)]:List bu));bP [(ak 2),.aw true,.aY (aD 3 (aF (.call {aA:=[.row 0],b7:=[.box [.id,.id,.id]],ac:=[ii,ii],r:= .n .i64 bJ.1,cY:=[[ap.mk 3 [[.isl 1 (az.map eU8),.n .i64 bJ.2.1,.n .i64 bJ.2.2]] .live]],ec:=ii,eL:=[.box [.id,.id,.id]],c4:=[0],cX:=false}) (aD 1 (aF (.call {aA:=[.row 0],b7:=[.box [.id,.id,.id]],ac:=[ii,ii],r:= .n .i64 bl.1,cY:=[[ap.mk 3 [[.isl 1 (az.map eU8),.n .i64 bl.2.1,.n .i64 bl.2.2]] .live]],ec:=ii,eL:=[.box [.id,.id,.id]],c4:=[0],cX:=false}) (aD 2 (aF (.call {aA:=[.row 0],b7:=[.box [.id,.id,.id]],ac:=[ii,ii],r:= .n .i64 cj.1,cY:=[[ap.mk 3 [[.isl 1 (az.map eU8),.n .i64 cj.2.1,.n .i64 cj.2.2]] .live]],ec:=ii,eL:=[.box [.id,.id,.id]],c4:=[0],cX:=false}) (b0 3 (.bb (aZ.length)) 2))))))),(ak 3),.bi [0,1,2,3,19] [.box [.id,.id,.id],.box [.id,.id],.box [.id,.id],.pure,.dH (aH 3 dr aZ)] (bI [0,2,3,4])] (.bF o (j7 bJ ao) (j7 bl aM) (j7 cj bK) (mo dr (⟨bJ.1,U ((2:Int)+bl.1),U ((1:Int)+cj.1)⟩:bu)) (oW dr au) (nk dr au (⟨bJ.1,U ((2:Int)+bl.1),U ((1:Int)+cj.1)⟩:bu)) bG (.bR (aU 4 .live rp an) (ey 3 .live (oX dr au (⟨bJ.1,U ((2:Int)+bl.1),U ((1:Int)+cj.1)⟩:bu))) (aU 3 .live rm aZ)))))
  (fun o =>
  .ret (bP [(ak 2),.aw false,.bi [0,1,2,3,4] [.box [.id,.id,.id],.box [.id,.id],.box [.id,.id],.pure,.pure] (bI [2,3])] (.bR o (aU 4 .live rp an) (aU 3 .live rm au))))
theorem MY {az:List Int}{an:List a9}{aW aB bE:Int}{au:List bu}{r} (h:Gu az an aW aB bE au=some r):e6 bz 56 1 37 [1,1,1,1,0,1,0,0] (Bj az an) (Bu az an) (aW,aB,bE,au) r:=e7 (fun _=>Mk) h
def vk (cp:List Int)(eA dA:Int):Option ((List a9)×(List bu)×Int×Int) :=
 jb 3 cp eA dA >>= fun ax =>
 jb 3 cp ax.2.1 ax.2.2 >>= fun bh =>
 jb 2 cp bh.2.1 bh.2.2 >>= fun br =>
 jb 3 cp br.2.1 br.2.2 >>= fun cu =>
 jb 2 cp cu.2.1 cu.2.2 >>= fun bA =>
 jb 3 cp bA.2.1 bA.2.2 >>= fun dh =>
 ty ([1,2,3]:List Int) cp dh.2.1 dh.2.2 >>= fun dk =>
 jb 3 cp dk.2.1 dk.2.2 >>= fun eR =>
 Gu cp ([(⟨(⟨#[97]⟩:ByteArray),(-2),ax.1,true⟩:a9),(⟨(⟨#[98]⟩:ByteArray),6,bh.1,true⟩:a9),(⟨(⟨#[99]⟩:ByteArray),br.1,U ((-1:Int)-cu.1),false⟩:a9),(⟨(⟨#[100]⟩:ByteArray),U ((3:Int)+bA.1),U ((-1:Int)-dh.1),false⟩:a9)]:List a9) eR.1 eR.2.1 eR.2.2 ([(⟨0,2,1⟩:bu),(⟨2,3,dk.1⟩:bu),(⟨3,1,1⟩:bu)]:List bu) >>= fun ku =>
 some (([(⟨(⟨#[97]⟩:ByteArray),(-2),ax.1,true⟩:a9),(⟨(⟨#[98]⟩:ByteArray),6,bh.1,true⟩:a9),(⟨(⟨#[99]⟩:ByteArray),br.1,U ((-1:Int)-cu.1),false⟩:a9),(⟨(⟨#[100]⟩:ByteArray),U ((3:Int)+bA.1),U ((-1:Int)-dh.1),false⟩:a9)]:List a9),ku.2.2,ku.1,ku.2.1)
theorem Nr {cp:List Int}{eA dA:Int}:b2 (vk cp eA dA) (fun a=>Con bz 37 [.ref 0 0 0 0] [[ap.mk 3 [[.isl 1 (cp.map eU8),.n .i64 eA,.n .i64 dA]] .live]] (.agg [.isl 4 (a.1.map cA),.isl 3 (a.2.1.map dr)]) [[ap.mk 3 [[.isl 1 (cp.map eU8),.n .i64 a.2.2.1,.n .i64 a.2.2.2]] .live]]):=by
 unfold vk
 exact .aI fun ax J =>
  .aI fun bh aO =>
  .aI fun br bW =>
  .aI fun cu bG =>
  .aI fun bA dZ =>
  .aI fun dh eT =>
  .aI fun dk dL =>
  .aI fun eR lR =>
  .aI fun ku lS =>
  .ret (ik [(ak 1),(ak 3),.aY (aD 1 (aF (.call {aA:=[.row 0],b7:=[.box [.id,.id,.id]],ac:=[ii,ii],r:= .n .i64 ax.1,cY:=[[ap.mk 3 [[.isl 1 (cp.map eU8),.n .i64 ax.2.1,.n .i64 ax.2.2]] .live]],ec:=ii,eL:=[.box [.id,.id,.id]],c4:=[0],cX:=false}) (aD 2 (aF (.call {aA:=[.row 0],b7:=[.box [.id,.id,.id]],ac:=[ii,ii],r:= .n .i64 bh.1,cY:=[[ap.mk 3 [[.isl 1 (cp.map eU8),.n .i64 bh.2.1,.n .i64 bh.2.2]] .live]],ec:=ii,eL:=[.box [.id,.id,.id]],c4:=[0],cX:=false}) (aD 2 (aF (.call {aA:=[.row 0],b7:=[.box [.id,.id,.id]],ac:=[ii,ii],r:= .n .i64 br.1,cY:=[[ap.mk 3 [[.isl 1 (cp.map eU8),.n .i64 br.2.1,.n .i64 br.2.2]] .live]],ec:=ii,eL:=[.box [.id,.id,.id]],c4:=[0],cX:=false}) (aD 1 (aF (.call {aA:=[.row 0],b7:=[.box [.id,.id,.id]],ac:=[ii,ii],r:= .n .i64 cu.1,cY:=[[ap.mk 3 [[.isl 1 (cp.map eU8),.n .i64 cu.2.1,.n .i64 cu.2.2]] .live]],ec:=ii,eL:=[.box [.id,.id,.id]],c4:=[0],cX:=false}) (aD 3 (aF (.call {aA:=[.row 0],b7:=[.box [.id,.id,.id]],ac:=[ii,ii],r:= .n .i64 bA.1,cY:=[[ap.mk 3 [[.isl 1 (cp.map eU8),.n .i64 bA.2.1,.n .i64 bA.2.2]] .live]],ec:=ii,eL:=[.box [.id,.id,.id]],c4:=[0],cX:=false}) (b0 2 (.call {aA:=[.row 0],b7:=[.box [.id,.id,.id]],ac:=[ii,ii],r:= .n .i64 dh.1,cY:=[[ap.mk 3 [[.isl 1 (cp.map eU8),.n .i64 dh.2.1,.n .i64 dh.2.2]] .live]],ec:=ii,eL:=[.box [.id,.id,.id]],c4:=[0],cX:=false}) 5))))))))))),.aY (b0 3 (.qW 29 (.call {aA:=[.row 0],b7:=[.box [.id,.id,.id]],ac:=[ii,.bH (.c6 (.eZ (([1,2,3]:List Int).map R)))],r:= .n .i64 dk.1,cY:=[[ap.mk 3 [[.isl 1 (cp.map eU8),.n .i64 dk.2.1,.n .i64 dk.2.2]] .live]],ec:=ii,eL:=[.box [.id,.id,.id]],c4:=[0,29],cX:=false})) 5),.aY (b0 1 (.call {aA:=[.row 0],b7:=[.box [.id,.id,.id]],ac:=[ii,ii],r:= .n .i64 eR.1,cY:=[[ap.mk 3 [[.isl 1 (cp.map eU8),.n .i64 eR.2.1,.n .i64 eR.2.2]] .live]],ec:=ii,eL:=[.box [.id,.id,.id]],c4:=[0],cX:=false}) 1),.bi [0,1,3,24,33] [.box [.id,.id,.id],.box [.id,.id],.box [.len (([(⟨(⟨#[97]⟩:ByteArray),(-2),ax.1,true⟩:a9),(⟨(⟨#[98]⟩:ByteArray),6,bh.1,true⟩:a9),(⟨(⟨#[99]⟩:ByteArray),br.1,U ((-1:Int)-cu.1),false⟩:a9),(⟨(⟨#[100]⟩:ByteArray),U ((3:Int)+bA.1),U ((-1:Int)-dh.1),false⟩:a9)]:List a9).length),.len (([(⟨0,2,1⟩:bu),(⟨2,3,dk.1⟩:bu),(⟨3,1,1⟩:bu)]:List bu).length)],.dH (aH 4 cA ([(⟨(⟨#[97]⟩:ByteArray),(-2),ax.1,true⟩:a9),(⟨(⟨#[98]⟩:ByteArray),6,bh.1,true⟩:a9),(⟨(⟨#[99]⟩:ByteArray),br.1,U ((-1:Int)-cu.1),false⟩:a9),(⟨(⟨#[100]⟩:ByteArray),U ((3:Int)+bA.1),U ((-1:Int)-dh.1),false⟩:a9)]:List a9)),.dH (aH 3 dr ([(⟨0,2,1⟩:bu),(⟨2,3,dk.1⟩:bu),(⟨3,1,1⟩:bu)]:List bu))] (bI [0,2,3,4]),(Bu cp ([(⟨(⟨#[97]⟩:ByteArray),(-2),ax.1,true⟩:a9),(⟨(⟨#[98]⟩:ByteArray),6,bh.1,true⟩:a9),(⟨(⟨#[99]⟩:ByteArray),br.1,U ((-1:Int)-cu.1),false⟩:a9),(⟨(⟨#[100]⟩:ByteArray),U ((3:Int)+bA.1),U ((-1:Int)-dh.1),false⟩:a9)]:List a9) ku).fU,(ak 2)] [0] [.box [.id,.id,.id]] (.bF (j7 ax J) (j7 bh aO) (j7 br bW) (j7 cu bG) (j7 bA dZ) (j7 dh eT) (kn (show [[.n .i64 (1:Int)],[.n .i64 (2:Int)],[.n .i64 (3:Int)]]=(([1,2,3]:List Int)).map R from rfl) (show 3=([1,2,3]:List Int).length from rfl)) (kI (show [[.n .i64 (1:Int)],[.n .i64 (2:Int)],[.n .i64 (3:Int)]]=(([1,2,3]:List Int)).map R from rfl) (show 3=([1,2,3]:List Int).length from rfl)) (.bF (eu a2 ([1,2,3]:List Int)) (Cd dk dL) (j7 eR lR) (show 4=([(⟨(⟨#[97]⟩:ByteArray),(-2),ax.1,true⟩:a9),(⟨(⟨#[98]⟩:ByteArray),6,bh.1,true⟩:a9),(⟨(⟨#[99]⟩:ByteArray),br.1,U ((-1:Int)-cu.1),false⟩:a9),(⟨(⟨#[100]⟩:ByteArray),U ((3:Int)+bA.1),U ((-1:Int)-dh.1),false⟩:a9)]:List a9).length from rfl) (show 3=([(⟨0,2,1⟩:bu),(⟨2,3,dk.1⟩:bu),(⟨3,1,1⟩:bu)]:List bu).length from rfl) (ey 4 .live (show [[.s (⟨#[97]⟩:ByteArray),.n .i64 (-2:Int),.n .i64 ax.1,.b true],[.s (⟨#[98]⟩:ByteArray),.n .i64 (6:Int),.n .i64 bh.1,.b true],[.s (⟨#[99]⟩:ByteArray),.n .i64 br.1,.n .i64 (U ((-1:Int)-cu.1)),.b false],[.s (⟨#[100]⟩:ByteArray),.n .i64 (U ((3:Int)+bA.1)),.n .i64 (U ((-1:Int)-dh.1)),.b false]]=(([(⟨(⟨#[97]⟩:ByteArray),(-2),ax.1,true⟩:a9),(⟨(⟨#[98]⟩:ByteArray),6,bh.1,true⟩:a9),(⟨(⟨#[99]⟩:ByteArray),br.1,U ((-1:Int)-cu.1),false⟩:a9),(⟨(⟨#[100]⟩:ByteArray),U ((3:Int)+bA.1),U ((-1:Int)-dh.1),false⟩:a9)]:List a9)).map cA from rfl)) (aU 4 .live rp ([(⟨(⟨#[97]⟩:ByteArray),(-2),ax.1,true⟩:a9),(⟨(⟨#[98]⟩:ByteArray),6,bh.1,true⟩:a9),(⟨(⟨#[99]⟩:ByteArray),br.1,U ((-1:Int)-cu.1),false⟩:a9),(⟨(⟨#[100]⟩:ByteArray),U ((3:Int)+bA.1),U ((-1:Int)-dh.1),false⟩:a9)]:List a9)) (ey 3 .live (show [[.n .i64 (0:Int),.n .i64 (2:Int),.n .i64 (1:Int)],[.n .i64 (2:Int),.n .i64 (3:Int),.n .i64 dk.1],[.n .i64 (3:Int),.n .i64 (1:Int),.n .i64 (1:Int)]]=(([(⟨0,2,1⟩:bu),(⟨2,3,dk.1⟩:bu),(⟨3,1,1⟩:bu)]:List bu)).map dr from rfl)) (.ja (aU 3 .live rm ([(⟨0,2,1⟩:bu),(⟨2,3,dk.1⟩:bu),(⟨3,1,1⟩:bu)]:List bu)) (MY lS) (iM cA ([(⟨(⟨#[97]⟩:ByteArray),(-2),ax.1,true⟩:a9),(⟨(⟨#[98]⟩:ByteArray),6,bh.1,true⟩:a9),(⟨(⟨#[99]⟩:ByteArray),br.1,U ((-1:Int)-cu.1),false⟩:a9),(⟨(⟨#[100]⟩:ByteArray),U ((3:Int)+bA.1),U ((-1:Int)-dh.1),false⟩:a9)]:List a9)) (ib cA ([(⟨(⟨#[97]⟩:ByteArray),(-2),ax.1,true⟩:a9),(⟨(⟨#[98]⟩:ByteArray),6,bh.1,true⟩:a9),(⟨(⟨#[99]⟩:ByteArray),br.1,U ((-1:Int)-cu.1),false⟩:a9),(⟨(⟨#[100]⟩:ByteArray),U ((3:Int)+bA.1),U ((-1:Int)-dh.1),false⟩:a9)]:List a9)) (eu rp ([(⟨(⟨#[97]⟩:ByteArray),(-2),ax.1,true⟩:a9),(⟨(⟨#[98]⟩:ByteArray),6,bh.1,true⟩:a9),(⟨(⟨#[99]⟩:ByteArray),br.1,U ((-1:Int)-cu.1),false⟩:a9),(⟨(⟨#[100]⟩:ByteArray),U ((3:Int)+bA.1),U ((-1:Int)-dh.1),false⟩:a9)]:List a9)) (iM dr ku.2.2) (ib dr ku.2.2) (eu rm ku.2.2)))) (.bH (.agg [.eZ (([(⟨(⟨#[97]⟩:ByteArray),(-2),ax.1,true⟩:a9),(⟨(⟨#[98]⟩:ByteArray),6,bh.1,true⟩:a9),(⟨(⟨#[99]⟩:ByteArray),br.1,U ((-1:Int)-cu.1),false⟩:a9),(⟨(⟨#[100]⟩:ByteArray),U ((3:Int)+bA.1),U ((-1:Int)-dh.1),false⟩:a9)]:List a9).map cA),.eZ (ku.2.2.map dr)])))
def vh (cp:List Int)(eA dA:Int):Option ((List a9)×(List bu)×Int×Int) :=
 jb 4 cp eA dA >>= fun ax =>
 jb 3 cp ax.2.1 ax.2.2 >>= fun bh =>
 jb 4 cp bh.2.1 bh.2.2 >>= fun br =>
 jb 3 cp br.2.1 br.2.2 >>= fun cu =>
 jb 4 cp cu.2.1 cu.2.2 >>= fun bA =>
 jb 4 cp bA.2.1 bA.2.2 >>= fun dh =>
 ty ([1,1,1,3]:List Int) cp dh.2.1 dh.2.2 >>= fun dk =>
 tx 2 cp dk.2.1 dk.2.2 >>= fun eR =>
 if eR.1=true then
  jb 5 cp eR.2.1 eR.2.2 >>= fun dT =>
  if (([(⟨(⟨#[97]⟩:ByteArray),U ((-1:Int)-ax.1),bh.1,true⟩:a9),(⟨(⟨#[98]⟩:ByteArray),U ((3:Int)+br.1),cu.1,true⟩:a9),(⟨(⟨#[99]⟩:ByteArray),U (bA.1-(1:Int)),U ((-1:Int)-dh.1),false⟩:a9)]:List a9)++([(⟨(⟨#[100]⟩:ByteArray),U (dT.1-(1:Int)),(-7),true⟩:a9)]:List a9)).length*40≤140737488355328 then
  ty ([1,2,3]:List Int) cp dT.2.1 dT.2.2 >>= fun il =>
  if (([(⟨0,2,1⟩:bu),(⟨1,2,dk.1⟩:bu)]:List bu)++([(⟨3,2,il.1⟩:bu)]:List bu)).length*24≤140737488355328 then
  some (([(⟨(⟨#[97]⟩:ByteArray),U ((-1:Int)-ax.1),bh.1,true⟩:a9),(⟨(⟨#[98]⟩:ByteArray),U ((3:Int)+br.1),cu.1,true⟩:a9),(⟨(⟨#[99]⟩:ByteArray),U (bA.1-(1:Int)),U ((-1:Int)-dh.1),false⟩:a9)]:List a9)++([(⟨(⟨#[100]⟩:ByteArray),U (dT.1-(1:Int)),(-7),true⟩:a9)]:List a9),([(⟨0,2,1⟩:bu),(⟨1,2,dk.1⟩:bu)]:List bu)++([(⟨3,2,il.1⟩:bu)]:List bu),il.2.1,il.2.2)
  else none
  else none
 else
  some (([(⟨(⟨#[97]⟩:ByteArray),U ((-1:Int)-ax.1),bh.1,true⟩:a9),(⟨(⟨#[98]⟩:ByteArray),U ((3:Int)+br.1),cu.1,true⟩:a9),(⟨(⟨#[99]⟩:ByteArray),U (bA.1-(1:Int)),U ((-1:Int)-dh.1),false⟩:a9)]:List a9),([(⟨0,2,1⟩:bu),(⟨1,2,dk.1⟩:bu)]:List bu),eR.2.1,eR.2.2)
set_option maxHeartbeats 4000000 in
theorem Ng {cp:List Int}{eA dA:Int}:b2 (vh cp eA dA) (fun a=>Con bz 38 [.ref 0 0 0 0] [[ap.mk 3 [[.isl 1 (cp.map eU8),.n .i64 eA,.n .i64 dA]] .live]] (.agg [.isl 4 (a.1.map cA),.isl 3 (a.2.1.map dr)]) [[ap.mk 3 [[.isl 1 (cp.map eU8),.n .i64 a.2.2.1,.n .i64 a.2.2.2]] .live]]):=by
 unfold vh
 exact .aI fun ax J =>
  .aI fun bh aO =>
  .aI fun br bW =>
  .aI fun cu bG =>
  .aI fun bA dZ =>
  .aI fun dh eT =>
  .aI fun dk dL =>
  .aI fun eR lR =>
  (let t1:List cM:=[(ak 1),(ak 3),.aY (aD 1 (aF (.call {aA:=[.row 0],b7:=[.box [.id,.id,.id]],ac:=[ii,ii],r:= .n .i64 ax.1,cY:=[[ap.mk 3 [[.isl 1 (cp.map eU8),.n .i64 ax.2.1,.n .i64 ax.2.2]] .live]],ec:=ii,eL:=[.box [.id,.id,.id]],c4:=[0],cX:=false}) (aD 2 (aF (.call {aA:=[.row 0],b7:=[.box [.id,.id,.id]],ac:=[ii,ii],r:= .n .i64 bh.1,cY:=[[ap.mk 3 [[.isl 1 (cp.map eU8),.n .i64 bh.2.1,.n .i64 bh.2.2]] .live]],ec:=ii,eL:=[.box [.id,.id,.id]],c4:=[0],cX:=false}) (aD 2 (aF (.call {aA:=[.row 0],b7:=[.box [.id,.id,.id]],ac:=[ii,ii],r:= .n .i64 br.1,cY:=[[ap.mk 3 [[.isl 1 (cp.map eU8),.n .i64 br.2.1,.n .i64 br.2.2]] .live]],ec:=ii,eL:=[.box [.id,.id,.id]],c4:=[0],cX:=false}) (aD 2 (aF (.call {aA:=[.row 0],b7:=[.box [.id,.id,.id]],ac:=[ii,ii],r:= .n .i64 cu.1,cY:=[[ap.mk 3 [[.isl 1 (cp.map eU8),.n .i64 cu.2.1,.n .i64 cu.2.2]] .live]],ec:=ii,eL:=[.box [.id,.id,.id]],c4:=[0],cX:=false}) (aD 2 (aF (.call {aA:=[.row 0],b7:=[.box [.id,.id,.id]],ac:=[ii,ii],r:= .n .i64 bA.1,cY:=[[ap.mk 3 [[.isl 1 (cp.map eU8),.n .i64 bA.2.1,.n .i64 bA.2.2]] .live]],ec:=ii,eL:=[.box [.id,.id,.id]],c4:=[0],cX:=false}) (b0 2 (.call {aA:=[.row 0],b7:=[.box [.id,.id,.id]],ac:=[ii,ii],r:= .n .i64 dh.1,cY:=[[ap.mk 3 [[.isl 1 (cp.map eU8),.n .i64 dh.2.1,.n .i64 dh.2.2]] .live]],ec:=ii,eL:=[.box [.id,.id,.id]],c4:=[0],cX:=false}) 5))))))))))),.aY (b0 3 (.qW 29 (.call {aA:=[.row 0],b7:=[.box [.id,.id,.id]],ac:=[ii,.bH (.c6 (.eZ (([1,1,1,3]:List Int).map R)))],r:= .n .i64 dk.1,cY:=[[ap.mk 3 [[.isl 1 (cp.map eU8),.n .i64 dk.2.1,.n .i64 dk.2.2]] .live]],ec:=ii,eL:=[.box [.id,.id,.id]],c4:=[0,29],cX:=false})) 4),.aY (aD 1 (aF (.call {aA:=[.row 0],b7:=[.box [.id,.id,.id]],ac:=[ii,ii],r:= .b eR.1,cY:=[[ap.mk 3 [[.isl 1 (cp.map eU8),.n .i64 eR.2.1,.n .i64 eR.2.2]] .live]],ec:=ii,eL:=[.box [.id,.id,.id]],c4:=[0],cX:=false}) []))];
  have a6:=((.bF (j7 ax J) (j7 bh aO) (j7 br bW) (j7 cu bG) (j7 bA dZ) (j7 dh eT) (kn (show [[.n .i64 (1:Int)],[.n .i64 (1:Int)],[.n .i64 (1:Int)],[.n .i64 (3:Int)]]=(([1,1,1,3]:List Int)).map R from rfl) (show 4=([1,1,1,3]:List Int).length from rfl)) (kI (show [[.n .i64 (1:Int)],[.n .i64 (1:Int)],[.n .i64 (1:Int)],[.n .i64 (3:Int)]]=(([1,1,1,3]:List Int)).map R from rfl) (show 4=([1,1,1,3]:List Int).length from rfl)) (.bR (eu a2 ([1,1,1,3]:List Int)) (Cd dk dL) (x2 eR lR))):cF _);
  .ite (fun fF =>
  .aI fun dT kv =>
  .bk fun kj =>
  .aI fun il hF =>
  .bk fun im =>
  .ret (let aZ:=(([(⟨(⟨#[97]⟩:ByteArray),U ((-1:Int)-ax.1),bh.1,true⟩:a9),(⟨(⟨#[98]⟩:ByteArray),U ((3:Int)+br.1),cu.1,true⟩:a9),(⟨(⟨#[99]⟩:ByteArray),U (bA.1-(1:Int)),U ((-1:Int)-dh.1),false⟩:a9)]:List a9)++([(⟨(⟨#[100]⟩:ByteArray),U (dT.1-(1:Int)),(-7),true⟩:a9)]:List a9));let bg:=(([(⟨0,2,1⟩:bu),(⟨1,2,dk.1⟩:bu)]:List bu)++([(⟨3,2,il.1⟩:bu)]:List bu));let ck:=(sA cA (⟨(⟨#[100]⟩:ByteArray),U (dT.1-(1:Int)),(-7),true⟩:a9));let cS:=(sA dr (⟨3,2,il.1⟩:bu));ik (t1.append [.aw true,.aY (aD 3 (aF (.call {aA:=[.row 0],b7:=[.box [.id,.id,.id]],ac:=[ii,ii],r:= .n .i64 dT.1,cY:=[[ap.mk 3 [[.isl 1 (cp.map eU8),.n .i64 dT.2.1,.n .i64 dT.2.2]] .live]],ec:=ii,eL:=[.box [.id,.id,.id]],c4:=[0],cX:=false}) (b0 3 (.bb (aZ.length)) 2))),.aY (aD 4 (aF (.qW 50 (.call {aA:=[.row 0],b7:=[.box [.id,.id,.id]],ac:=[ii,.bH (.c6 (.eZ (([1,2,3]:List Int).map R)))],r:= .n .i64 il.1,cY:=[[ap.mk 3 [[.isl 1 (cp.map eU8),.n .i64 il.2.1,.n .i64 il.2.2]] .live]],ec:=ii,eL:=[.box [.id,.id,.id]],c4:=[0,50],cX:=false})) (b0 2 (.bb (bg.length)) 2))),(ak 2)]) [0] [.box [.id,.id,.id]] (a6.bb (.bF fF (j7 dT kv) (mo cA (⟨(⟨#[100]⟩:ByteArray),U (dT.1-(1:Int)),(-7),true⟩:a9)) (tW (show [[.s (⟨#[97]⟩:ByteArray),.n .i64 (U ((-1:Int)-ax.1)),.n .i64 bh.1,.b true],[.s (⟨#[98]⟩:ByteArray),.n .i64 (U ((3:Int)+br.1)),.n .i64 cu.1,.b true],[.s (⟨#[99]⟩:ByteArray),.n .i64 (U (bA.1-(1:Int))),.n .i64 (U ((-1:Int)-dh.1)),.b false]]=(([(⟨(⟨#[97]⟩:ByteArray),U ((-1:Int)-ax.1),bh.1,true⟩:a9),(⟨(⟨#[98]⟩:ByteArray),U ((3:Int)+br.1),cu.1,true⟩:a9),(⟨(⟨#[99]⟩:ByteArray),U (bA.1-(1:Int)),U ((-1:Int)-dh.1),false⟩:a9)]:List a9)).map cA from rfl) (show 3=([(⟨(⟨#[97]⟩:ByteArray),U ((-1:Int)-ax.1),bh.1,true⟩:a9),(⟨(⟨#[98]⟩:ByteArray),U ((3:Int)+br.1),cu.1,true⟩:a9),(⟨(⟨#[99]⟩:ByteArray),U (bA.1-(1:Int)),U ((-1:Int)-dh.1),false⟩:a9)]:List a9).length from rfl)) (tX (show 3=([(⟨(⟨#[97]⟩:ByteArray),U ((-1:Int)-ax.1),bh.1,true⟩:a9),(⟨(⟨#[98]⟩:ByteArray),U ((3:Int)+br.1),cu.1,true⟩:a9),(⟨(⟨#[99]⟩:ByteArray),U (bA.1-(1:Int)),U ((-1:Int)-dh.1),false⟩:a9)]:List a9).length from rfl) ck) kj (kn (show [[.n .i64 (1:Int)],[.n .i64 (2:Int)],[.n .i64 (3:Int)]]=(([1,2,3]:List Int)).map R from rfl) (show 3=([1,2,3]:List Int).length from rfl)) (kI (show [[.n .i64 (1:Int)],[.n .i64 (2:Int)],[.n .i64 (3:Int)]]=(([1,2,3]:List Int)).map R from rfl) (show 3=([1,2,3]:List Int).length from rfl)) (.bF (eu a2 ([1,2,3]:List Int)) (Cd il hF) (mo dr (⟨3,2,il.1⟩:bu)) (tW (show [[.n .i64 (0:Int),.n .i64 (2:Int),.n .i64 (1:Int)],[.n .i64 (1:Int),.n .i64 (2:Int),.n .i64 dk.1]]=(([(⟨0,2,1⟩:bu),(⟨1,2,dk.1⟩:bu)]:List bu)).map dr from rfl) (show 2=([(⟨0,2,1⟩:bu),(⟨1,2,dk.1⟩:bu)]:List bu).length from rfl)) (tX (show 2=([(⟨0,2,1⟩:bu),(⟨1,2,dk.1⟩:bu)]:List bu).length from rfl) cS) im (kn (ow (show [[.s (⟨#[97]⟩:ByteArray),.n .i64 (U ((-1:Int)-ax.1)),.n .i64 bh.1,.b true],[.s (⟨#[98]⟩:ByteArray),.n .i64 (U ((3:Int)+br.1)),.n .i64 cu.1,.b true],[.s (⟨#[99]⟩:ByteArray),.n .i64 (U (bA.1-(1:Int))),.n .i64 (U ((-1:Int)-dh.1)),.b false]]=(([(⟨(⟨#[97]⟩:ByteArray),U ((-1:Int)-ax.1),bh.1,true⟩:a9),(⟨(⟨#[98]⟩:ByteArray),U ((3:Int)+br.1),cu.1,true⟩:a9),(⟨(⟨#[99]⟩:ByteArray),U (bA.1-(1:Int)),U ((-1:Int)-dh.1),false⟩:a9)]:List a9)).map cA from rfl) (show 3=([(⟨(⟨#[97]⟩:ByteArray),U ((-1:Int)-ax.1),bh.1,true⟩:a9),(⟨(⟨#[98]⟩:ByteArray),U ((3:Int)+br.1),cu.1,true⟩:a9),(⟨(⟨#[99]⟩:ByteArray),U (bA.1-(1:Int)),U ((-1:Int)-dh.1),false⟩:a9)]:List a9).length from rfl) ck) (fo aZ)) (kI (ow (show [[.s (⟨#[97]⟩:ByteArray),.n .i64 (U ((-1:Int)-ax.1)),.n .i64 bh.1,.b true],[.s (⟨#[98]⟩:ByteArray),.n .i64 (U ((3:Int)+br.1)),.n .i64 cu.1,.b true],[.s (⟨#[99]⟩:ByteArray),.n .i64 (U (bA.1-(1:Int))),.n .i64 (U ((-1:Int)-dh.1)),.b false]]=(([(⟨(⟨#[97]⟩:ByteArray),U ((-1:Int)-ax.1),bh.1,true⟩:a9),(⟨(⟨#[98]⟩:ByteArray),U ((3:Int)+br.1),cu.1,true⟩:a9),(⟨(⟨#[99]⟩:ByteArray),U (bA.1-(1:Int)),U ((-1:Int)-dh.1),false⟩:a9)]:List a9)).map cA from rfl) (show 3=([(⟨(⟨#[97]⟩:ByteArray),U ((-1:Int)-ax.1),bh.1,true⟩:a9),(⟨(⟨#[98]⟩:ByteArray),U ((3:Int)+br.1),cu.1,true⟩:a9),(⟨(⟨#[99]⟩:ByteArray),U (bA.1-(1:Int)),U ((-1:Int)-dh.1),false⟩:a9)]:List a9).length from rfl) ck) (fo aZ)) (.dc (eu rp aZ) (kn (ow (show [[.n .i64 (0:Int),.n .i64 (2:Int),.n .i64 (1:Int)],[.n .i64 (1:Int),.n .i64 (2:Int),.n .i64 dk.1]]=(([(⟨0,2,1⟩:bu),(⟨1,2,dk.1⟩:bu)]:List bu)).map dr from rfl) (show 2=([(⟨0,2,1⟩:bu),(⟨1,2,dk.1⟩:bu)]:List bu).length from rfl) cS) (fo bg)) (kI (ow (show [[.n .i64 (0:Int),.n .i64 (2:Int),.n .i64 (1:Int)],[.n .i64 (1:Int),.n .i64 (2:Int),.n .i64 dk.1]]=(([(⟨0,2,1⟩:bu),(⟨1,2,dk.1⟩:bu)]:List bu)).map dr from rfl) (show 2=([(⟨0,2,1⟩:bu),(⟨1,2,dk.1⟩:bu)]:List bu).length from rfl) cS) (fo bg)) (eu rm bg))))) (.bH (.agg [.eZ (aZ.map cA),.eZ (bg.map dr)]))))
  (fun fF =>
  .ret (ik (t1.append [.aw false,(ak 2)]) [0] [.box [.id,.id,.id]] (a6.bb (.fm fF (kn (show [[.s (⟨#[97]⟩:ByteArray),.n .i64 (U ((-1:Int)-ax.1)),.n .i64 bh.1,.b true],[.s (⟨#[98]⟩:ByteArray),.n .i64 (U ((3:Int)+br.1)),.n .i64 cu.1,.b true],[.s (⟨#[99]⟩:ByteArray),.n .i64 (U (bA.1-(1:Int))),.n .i64 (U ((-1:Int)-dh.1)),.b false]]=(([(⟨(⟨#[97]⟩:ByteArray),U ((-1:Int)-ax.1),bh.1,true⟩:a9),(⟨(⟨#[98]⟩:ByteArray),U ((3:Int)+br.1),cu.1,true⟩:a9),(⟨(⟨#[99]⟩:ByteArray),U (bA.1-(1:Int)),U ((-1:Int)-dh.1),false⟩:a9)]:List a9)).map cA from rfl) (show 3=([(⟨(⟨#[97]⟩:ByteArray),U ((-1:Int)-ax.1),bh.1,true⟩:a9),(⟨(⟨#[98]⟩:ByteArray),U ((3:Int)+br.1),cu.1,true⟩:a9),(⟨(⟨#[99]⟩:ByteArray),U (bA.1-(1:Int)),U ((-1:Int)-dh.1),false⟩:a9)]:List a9).length from rfl)) (kI (show [[.s (⟨#[97]⟩:ByteArray),.n .i64 (U ((-1:Int)-ax.1)),.n .i64 bh.1,.b true],[.s (⟨#[98]⟩:ByteArray),.n .i64 (U ((3:Int)+br.1)),.n .i64 cu.1,.b true],[.s (⟨#[99]⟩:ByteArray),.n .i64 (U (bA.1-(1:Int))),.n .i64 (U ((-1:Int)-dh.1)),.b false]]=(([(⟨(⟨#[97]⟩:ByteArray),U ((-1:Int)-ax.1),bh.1,true⟩:a9),(⟨(⟨#[98]⟩:ByteArray),U ((3:Int)+br.1),cu.1,true⟩:a9),(⟨(⟨#[99]⟩:ByteArray),U (bA.1-(1:Int)),U ((-1:Int)-dh.1),false⟩:a9)]:List a9)).map cA from rfl) (show 3=([(⟨(⟨#[97]⟩:ByteArray),U ((-1:Int)-ax.1),bh.1,true⟩:a9),(⟨(⟨#[98]⟩:ByteArray),U ((3:Int)+br.1),cu.1,true⟩:a9),(⟨(⟨#[99]⟩:ByteArray),U (bA.1-(1:Int)),U ((-1:Int)-dh.1),false⟩:a9)]:List a9).length from rfl)) (eu rp ([(⟨(⟨#[97]⟩:ByteArray),U ((-1:Int)-ax.1),bh.1,true⟩:a9),(⟨(⟨#[98]⟩:ByteArray),U ((3:Int)+br.1),cu.1,true⟩:a9),(⟨(⟨#[99]⟩:ByteArray),U (bA.1-(1:Int)),U ((-1:Int)-dh.1),false⟩:a9)]:List a9)) (kn (show [[.n .i64 (0:Int),.n .i64 (2:Int),.n .i64 (1:Int)],[.n .i64 (1:Int),.n .i64 (2:Int),.n .i64 dk.1]]=(([(⟨0,2,1⟩:bu),(⟨1,2,dk.1⟩:bu)]:List bu)).map dr from rfl) (show 2=([(⟨0,2,1⟩:bu),(⟨1,2,dk.1⟩:bu)]:List bu).length from rfl)) (kI (show [[.n .i64 (0:Int),.n .i64 (2:Int),.n .i64 (1:Int)],[.n .i64 (1:Int),.n .i64 (2:Int),.n .i64 dk.1]]=(([(⟨0,2,1⟩:bu),(⟨1,2,dk.1⟩:bu)]:List bu)).map dr from rfl) (show 2=([(⟨0,2,1⟩:bu),(⟨1,2,dk.1⟩:bu)]:List bu).length from rfl)) (eu rm ([(⟨0,2,1⟩:bu),(⟨1,2,dk.1⟩:bu)]:List bu)))) (.bH (.agg [.eZ (([(⟨(⟨#[97]⟩:ByteArray),U ((-1:Int)-ax.1),bh.1,true⟩:a9),(⟨(⟨#[98]⟩:ByteArray),U ((3:Int)+br.1),cu.1,true⟩:a9),(⟨(⟨#[99]⟩:ByteArray),U (bA.1-(1:Int)),U ((-1:Int)-dh.1),false⟩:a9)]:List a9).map cA),.eZ (([(⟨0,2,1⟩:bu),(⟨1,2,dk.1⟩:bu)]:List bu).map dr)])))))
def vi (cp:List Int)(eA dA:Int):Option ((List a9)×(List bu)×Int×Int) :=
 tx 3 cp eA dA >>= fun ax =>
 if ax.1=true then
  vk cp ax.2.1 ax.2.2 >>= fun bl =>
  some (bl.1,bl.2.1,bl.2.2.1,bl.2.2.2)
 else
  vh cp ax.2.1 ax.2.2 >>= fun bl =>
  some (bl.1,bl.2.1,bl.2.2.1,bl.2.2.2)
theorem Nh {cp:List Int}{eA dA:Int}:b2 (vi cp eA dA) (fun a=>Con bz 24 [.ref 0 0 0 0] [[ap.mk 3 [[.isl 1 (cp.map eU8),.n .i64 eA,.n .i64 dA]] .live]] (.agg [.isl 4 (a.1.map cA),.isl 3 (a.2.1.map dr)]) [[ap.mk 3 [[.isl 1 (cp.map eU8),.n .i64 a.2.2.1,.n .i64 a.2.2.2]] .live]]):=by
 unfold vi
 exact .aI fun ax J =>
  (let t1:List cM:=[(ak 1),.aY (aD 1 (aF (.call {aA:=[.row 0],b7:=[.box [.id,.id,.id]],ac:=[ii,ii],r:= .b ax.1,cY:=[[ap.mk 3 [[.isl 1 (cp.map eU8),.n .i64 ax.2.1,.n .i64 ax.2.2]] .live]],ec:=ii,eL:=[.box [.id,.id,.id]],c4:=[0],cX:=false}) []))];
  .ite (fun ao =>
  .aI fun bl aM =>
  .ret (ik (t1.append [.aw true,.aY (b0 1 (.call {aA:=[.row 0],b7:=[.box [.id,.id,.id]],ac:=[ii],r:= .agg [.isl 4 (bl.1.map cA),.isl 3 (bl.2.1.map dr)],cY:=[[ap.mk 3 [[.isl 1 (cp.map eU8),.n .i64 bl.2.2.1,.n .i64 bl.2.2.2]] .live]],ec:=ii,eL:=[.box [.id,.id,.id]],c4:=[0],cX:=false}) 1)]) [0] [.box [.id,.id,.id]] (.bR (x2 ax J) ao (Nr bl aM))))
  (fun ao =>
  .aI fun bl aM =>
  .ret (ik (t1.append [.aw false,.aY (b0 1 (.call {aA:=[.row 0],b7:=[.box [.id,.id,.id]],ac:=[ii],r:= .agg [.isl 4 (bl.1.map cA),.isl 3 (bl.2.1.map dr)],cY:=[[ap.mk 3 [[.isl 1 (cp.map eU8),.n .i64 bl.2.2.1,.n .i64 bl.2.2.2]] .live]],ec:=ii,eL:=[.box [.id,.id,.id]],c4:=[0],cX:=false}) 1)]) [0] [.box [.id,.id,.id]] (.bR (x2 ax J) ao (Ng bl aM)))))
def Be (b3:List a9)(fC:Int)(az:List Int):(Int×Int×Int×(List Int))→S:=fun (fR,aB,bE,ag)=>er [(0,.ref 0 0 0 0),(5,.bp 1 0 0 ag.length),(14,.isl 4 (b3.map cA)),(15,.n .i64 fC),(16,.n .i64 fR)] [[ap.mk 3 [[.isl 1 (az.map eU8),.n .i64 aB,.n .i64 bE]] .live],(aH 1 R ag)]
def Bk (b3:List a9)(fC:Int)(az:List Int):(Int×Int×(List Int))→ex
 | a=>⟨some 0,[(0,.ref 0 0 0 0),(5,.bp 1 0 0 a.2.2.length)],[[ap.mk 3 [[.isl 1 (az.map eU8),.n .i64 a.1,.n .i64 a.2.1]] .live],(aH 1 R a.2.2)]⟩
def rc (b3:List a9)(fC:Int)(az:List Int)(fR aB bE:Int)(ag:List Int):Option ((Int×Int×Int×(List Int))⊕(Int×Int×(List Int))) :=
 if (decide (fR<fC))=true then
  if 0≤fR∧fR<b3.length then
  b3[fR.toNat]? >>= fun a4 =>
  if a4.l4=true then
   some (.inl (U (fR+(1:Int)),aB,bE,ag))
  else
   jb 7 az aB bE >>= fun cj =>
   if 0≤(U ((2:Int)*fR))∧(U ((2:Int)*fR))<(ag.length:Nat) then
   if (0+(U ((2:Int)*fR)).toNat)<ag.length then
   jb 9 az cj.2.1 cj.2.2 >>= fun fK =>
   if 0≤(U ((U ((2:Int)*fR))+(1:Int)))∧(U ((U ((2:Int)*fR))+(1:Int)))<(ag.length:Nat) then
   if (0+(U ((U ((2:Int)*fR))+(1:Int))).toNat)<(ag.set (0+(U ((2:Int)*fR)).toNat) (U (cj.1-(3:Int)))).length then
   some (.inl (U (fR+(1:Int)),fK.2.1,fK.2.2,(ag.set (0+(U ((2:Int)*fR)).toNat) (U (cj.1-(3:Int)))).set (0+(U ((U ((2:Int)*fR))+(1:Int))).toNat) (U (0-fK.1))))
   else none
   else none
   else none
   else none
  else none
 else
  some (.inr (aB,bE,ag))
def x3 (b3:List a9)(fC:Int)(az:List Int)(fR aB bE:Int)(ag:List Int):Option (Int×Int×(List Int)):=iter (fun w:Int×Int×Int×(List Int)=>rc b3 fC az w.1 w.2.1 w.2.2.1 w.2.2.2) (fR,aB,bE,ag)
theorem Mg {b3:List a9}{fC:Int}{az:List Int}{fR aB bE:Int}{ag:List Int}:b2 (rc b3 fC az fR aB bE ag) (e5 bz 48 1 14 [1,1,0,1,0,0] (Be b3 fC az (fR,aB,bE,ag)) (Be b3 fC az) (Bk b3 fC az)):=by
 unfold rc
 exact .ite (fun o =>
  .bk fun J =>
  .aI fun a4 aO =>
  (let t1:List cM:=[(ak 1),.aw true,.aY (b0 2 (.cy (cA a4)) 3),(ak 3)];
  have a6:=((.dc o J.1 (d1 cA J.2) (cr cA aO)):cF _);
  .ite (fun aM =>
  .ret (bP (t1.append [.aw false,(ak 2),.bi [0,1] [.box [.id,.id,.id],.pure] (bI [0,5,14,15,16])]) (a6.bb (.ay (d3 aM) (aU 1 .live a2 ag)))))
  (fun aM =>
  .aI fun cj bK =>
  .bk fun bG =>
  .bk fun d8 =>
  .aI fun fK dG =>
  .bk fun eT =>
  .bk fun eM =>
  .ret (let aZ:=(U ((2:Int)*fR));let bg:=(U (cj.1-(3:Int)));let ck:=(U (aZ+(1:Int)));let cS:=U (0-fK.1);bP (t1.append [.aw true,.aY (aD 4 (aF (.call {aA:=[.row 0],b7:=[.box [.id,.id,.id]],ac:=[ii,ii],r:= .n .i64 cj.1,cY:=[[ap.mk 3 [[.isl 1 (az.map eU8),.n .i64 cj.2.1,.n .i64 cj.2.2]] .live]],ec:=ii,eL:=[.box [.id,.id,.id]],c4:=[0],cX:=false}) (aD 2 (aF .eV [])))),.aY (aD 5 (aF (.call {aA:=[.row 0],b7:=[.box [.id,.id,.id]],ac:=[ii,ii],r:= .n .i64 fK.1,cY:=[[ap.mk 3 [[.isl 1 (az.map eU8),.n .i64 fK.2.1,.n .i64 fK.2.2]] .live]],ec:=ii,eL:=[.box [.id,.id,.id]],c4:=[0],cX:=false}) (aD 2 (aF .eV [])))),(ak 2),.bi [0,1] [.box [.id,.id,.id],.dH (aH 1 R ((ag.set (0+aZ.toNat) bg).set (0+ck.toNat) cS))] [(0,ii),(5,hf (((ag.set (0+aZ.toNat) bg).set (0+ck.toNat) cS).length)),(14,ii),(15,ii),(16,ii)]]) (a6.bb (.bF (ea aM) (j7 cj bK) bG.1 bG.2 (hJ R d8) (hl 1) (j7 fK dG) eT.1 (.eW eT.2 (Ja (f7 (dQ R ag) (0+aZ.toNat) bg) eM) (hl 1) (ey 1 .live (f7 (f7 (dQ R ag) (0+aZ.toNat) bg) (0+ck.toNat) cS)) (aU 1 .live a2 ((ag.set (0+aZ.toNat) bg).set (0+ck.toNat) cS)) (hL (hL (fo ag) (0+aZ.toNat) bg) (0+ck.toNat) cS))))))))
  (fun o =>
  .ret (bP [(ak 1),.aw false,.bi [0,1] [.box [.id,.id,.id],.pure] (bI [0,5])] (.ay o (aU 1 .live a2 ag))))
theorem MO {b3:List a9}{fC:Int}{az:List Int}{fR aB bE:Int}{ag:List Int}{r} (h:x3 b3 fC az fR aB bE ag=some r):e6 bz 48 1 14 [1,1,0,1,0,0] (Be b3 fC az) (Bk b3 fC az) (fR,aB,bE,ag) r:=e7 (fun _=>Mg) h
def tz (aT:cQ)(cp:List Int)(eA dA:Int):Option ((List Int)×Int×Int) :=
 if 0≤(U ((2:Int)*(len_ cA aT.cc)))∧(8:Int)*(U ((2:Int)*(len_ cA aT.cc)))≤281474976710656∧(U ((2:Int)*(len_ cA aT.cc)))<9223372036854775808 then
 x3 aT.cc (len_ cA aT.cc) cp 0 eA dA (List.replicate (U ((2:Int)*(len_ cA aT.cc))).toNat 0:List Int) >>= fun bJ =>
 tx 8 cp bJ.1 bJ.2.1 >>= fun bl =>
 if bl.1=true then
  if 0≤(U (((bJ.2.2.length:Nat):Int)-(1:Int)))∧(U (((bJ.2.2.length:Nat):Int)-(1:Int)))<(bJ.2.2.length:Nat) then
  if (0+(U (((bJ.2.2.length:Nat):Int)-(1:Int))).toNat)<bJ.2.2.length then
  some (bJ.2.2.set (0+(U (((bJ.2.2.length:Nat):Int)-(1:Int))).toNat) 4,bl.2.1,bl.2.2)
  else none
  else none
 else
  some (bJ.2.2,bl.2.1,bl.2.2)
 else none
theorem Gq {aT:cQ}{cp:List Int}{eA dA:Int}:b2 (tz aT cp eA dA) (fun a=>Con bz 14 [.ref 0 0 0 0,.agg (gn aT)] [[ap.mk 3 [[.isl 1 (cp.map eU8),.n .i64 eA,.n .i64 dA]] .live]] (.isl 1 (a.1.map R)) [[ap.mk 3 [[.isl 1 (cp.map eU8),.n .i64 a.2.1,.n .i64 a.2.2]] .live]]):=by
 unfold tz
 exact .bk fun o =>
  .aI fun bJ ao =>
  .aI fun bl aM =>
  (let ck:=(U ((2:Int)*(len_ cA aT.cc)));let cS:=(List.replicate ck.toNat 0:List Int);let t1:List cM:=[(ak 2),(ak 6),(ak 4),.bi [0,7] [.box [.id,.id,.id],.dH (aH 1 R cS)] [(0,ii),(5,hf (cS.length)),(14,ii),(15,ii),(16,ii)],(Bk aT.cc (len_ cA aT.cc) cp bJ).fU,.aY (aD 1 (aF (.call {aA:=[.row 0],b7:=[.box [.id,.id,.id]],ac:=[ii,ii],r:= .b bl.1,cY:=[[ap.mk 3 [[.isl 1 (cp.map eU8),.n .i64 bl.2.1,.n .i64 bl.2.2]] .live]],ec:=ii,eL:=[.box [.id,.id,.id]],c4:=[0],cX:=false}) []))];
  have a6:=((.bF o.1 (Int.le_refl ck) o.2.1 o.2.2 (ey 1 .live (lB R ck.toNat 0)) (aU 1 .live a2 cS) (l2 ck.toNat (0:Int)) (MO ao) (.ar (x2 bl aM))):cF _);
  .ite (fun bW =>
  .bk fun bK =>
  .bk fun bG =>
  .ret (let aZ:=(U (((bJ.2.2.length:Nat):Int)-(1:Int)));let bg:=hL (fo bJ.2.2) (0+aZ.toNat) 4;ik (t1.append [.aw true,.aY (aD 5 (aF .eV [])),(ak 2)]) [0] [.box [.id,.id,.id]] (a6.bb (.ja bW bK.1 bK.2 (hJ R bG) (hl 1) (kn (f7 (dQ R bJ.2.2) (0+aZ.toNat) 4) bg) (kI (f7 (dQ R bJ.2.2) (0+aZ.toNat) 4) bg) (eu a2 (bJ.2.2.set (0+aZ.toNat) 4)))) (.bH (.c6 (.eZ ((bJ.2.2.set (0+aZ.toNat) 4).map R))))))
  (fun bW =>
  .ret (ik (t1.append [.aw false,(ak 2)]) [0] [.box [.id,.id,.id]] (a6.bb (.dc bW (iM R bJ.2.2) (ib R bJ.2.2) (eu a2 bJ.2.2))) (.bH (.c6 (.eZ (bJ.2.2.map R)))))))
def CB (cp:List Int)(eA dA:Int):Option ((List a9)×(List bu)×(List Int)×Int×Int) :=
 vi cp eA dA >>= fun ax =>
 tz (⟨ax.1,ax.2.1⟩:cQ) cp ax.2.2.1 ax.2.2.2 >>= fun bh =>
 some (ax.1,ax.2.1,bh.1,bh.2.1,bh.2.2)
theorem Ni {cp:List Int}{eA dA:Int}:b2 (CB cp eA dA) (fun a=>Con bz 12 [.ref 0 0 0 0] [[ap.mk 3 [[.isl 1 (cp.map eU8),.n .i64 eA,.n .i64 dA]] .live]] (.dx [.agg [.isl 4 (a.1.map cA),.isl 3 (a.2.1.map dr)],.isl 1 (a.2.2.1.map R)]) [[ap.mk 3 [[.isl 1 (cp.map eU8),.n .i64 a.2.2.2.1,.n .i64 a.2.2.2.2]] .live]]):=by
 unfold CB
 exact .aI fun ax J =>
  .aI fun bh aO =>
  .ret (ik [(ak 2),.aY (b0 1 (.call {aA:=[.row 0],b7:=[.box [.id,.id,.id]],ac:=[ii],r:= .agg [.isl 4 (ax.1.map cA),.isl 3 (ax.2.1.map dr)],cY:=[[ap.mk 3 [[.isl 1 (cp.map eU8),.n .i64 ax.2.2.1,.n .i64 ax.2.2.2]] .live]],ec:=ii,eL:=[.box [.id,.id,.id]],c4:=[0],cX:=false}) 2),.aY (b0 3 (.call {aA:=[.row 0],b7:=[.box [.id,.id,.id]],ac:=[ii,ii],r:= .isl 1 (bh.1.map R),cY:=[[ap.mk 3 [[.isl 1 (cp.map eU8),.n .i64 bh.2.1,.n .i64 bh.2.2]] .live]],ec:=ii,eL:=[.box [.id,.id,.id]],c4:=[0],cX:=false}) 2)] [0] [.box [.id,.id,.id]] (.ay (Nh ax J) (Gq bh aO)))
def yk (ei:List Int):Option (cQ×(List Int)) :=
 vj ei >>= fun ax =>
 CB ei 0 ax >>= fun bh =>
 some ((⟨bh.1,bh.2.1⟩:cQ),bh.2.2.1)
theorem Ns {ei:List Int}:b2 (yk ei) (fun r=>Con bz 4 [.isl 1 (ei.map eU8)] [] (.dx [.agg (gn r.1),.isl 1 (r.2.map R)]) []):=by
 unfold yk
 exact .aI fun ax J =>
  .aI fun bh aO =>
  .ret (cn [(ak 2),.aY (aD 1 (aF (.call {aA:=[],b7:=[],ac:=[ii],r:= .ref 0 0 0 0,cY:=[[ap.mk 3 [[.isl 1 (ei.map eU8),.n .i64 (0:Int),.n .i64 ax]] .live]],ec:=ii,eL:=[.box [.id,.id,.id]],c4:=[],cX:=false}) (aF (.call {aA:=[.row 3],b7:=[.box [.id,.id,.id]],ac:=[ii],r:= .dx [.agg [.isl 4 (bh.1.map cA),.isl 3 (bh.2.1.map dr)],.isl 1 (bh.2.2.1.map R)],cY:=[[ap.mk 3 [[.isl 1 (ei.map eU8),.n .i64 bh.2.2.2.1,.n .i64 bh.2.2.2.2]] .live]],ec:=ii,eL:=[.box [.id,.id,.id]],c4:=[3],cX:=false}) (aD 4 []))))] (.ay (Gt ax J) (Ni bh aO)))
def Bl (aW:Int)(az:List Int):(Int×Int×Int)→S:=fun (a0,aB,bE)=>er [(1,.n .i64 aW),(5,.ref 0 0 0 0),(6,.n .i64 a0)] [[ap.mk 3 [[.isl 1 (az.map eU8),.n .i64 aB,.n .i64 bE]] .live]]
def Bv (aW:Int)(az:List Int):(Int×Int)→ex
 | a=>⟨some 0,[(5,.ref 0 0 0 0)],[[ap.mk 3 [[.isl 1 (az.map eU8),.n .i64 a.1,.n .i64 a.2]] .live]]⟩
def s8 (aW:Int)(az:List Int)(a0 aB bE:Int):Option ((Int×Int×Int)⊕(Int×Int)) :=
 if (decide (a0<aW))=true then
  nO az aB bE >>= fun bJ =>
  some (.inl (U (a0+(1:Int)),bJ.2.1,bJ.2.2))
 else
  some (.inr (aB,bE))
def Gv (aW:Int)(az:List Int)(a0 aB bE:Int):Option (Int×Int):=iter (fun w:Int×Int×Int=>s8 aW az w.1 w.2.1 w.2.2) (a0,aB,bE)
theorem Ml {aW:Int}{az:List Int}{a0 aB bE:Int}:b2 (s8 aW az a0 aB bE) (e5 bz 17 0 15 [1,1,0,1,0,0] (Bl aW az (a0,aB,bE)) (Bl aW az) (Bv aW az)):=by
 unfold s8
 exact .ite (fun o =>
  .aI fun bJ ao =>
  .ret (bP [(ak 3),.aw true,.aY (aD 1 (aF (.call {aA:=[.row 0],b7:=[.box [.id,.id,.id]],ac:=[ii],r:= .n .i64 bJ.1,cY:=[[ap.mk 3 [[.isl 1 (az.map eU8),.n .i64 bJ.2.1,.n .i64 bJ.2.2]] .live]],ec:=ii,eL:=[.box [.id,.id,.id]],c4:=[0],cX:=false}) [])),(ak 3),.bi [0] [.box [.id,.id,.id]] (bI [1,5,6])] (.ay o (qg bJ ao))))
  (fun o =>
  .ret (bP [(ak 3),.aw false,.bi [0] [.box [.id,.id,.id]] (bI [5])] (.ar o)))
theorem MZ {aW:Int}{az:List Int}{a0 aB bE:Int}{r} (h:Gv aW az a0 aB bE=some r):e6 bz 17 0 15 [1,1,0,1,0,0] (Bl aW az) (Bv aW az) (a0,aB,bE) r:=e7 (fun _=>Ml) h
def vl (ei:List Int)(aW:Int):Option (Int×Int) :=
 vj ei >>= fun ax =>
 Gv aW ei 0 0 ax >>= fun bh =>
 some (bh.1,bh.2)
theorem Gw {ei:List Int}{aW:Int}:b2 (vl ei aW) (fun a=>Con bz 15 [.isl 1 (ei.map eU8),.n .i64 aW] [] (.ref 0 0 0 0) [[ap.mk 3 [[.isl 1 (ei.map eU8),.n .i64 a.1,.n .i64 a.2]] .live]]):=by
 unfold vl
 exact .aI fun ax J =>
  .aI fun bh aO =>
  .ret (ik [(ak 1),.aY (b0 1 (.call {aA:=[],b7:=[],ac:=[ii],r:= .ref 0 0 0 0,cY:=[[ap.mk 3 [[.isl 1 (ei.map eU8),.n .i64 (0:Int),.n .i64 ax]] .live]],ec:=ii,eL:=[.box [.id,.id,.id]],c4:=[],cX:=false}) 1),(ak 1),.bi [2] [.box [.id,.id,.id]] (bI [1,5,6]),(Bv aW ei bh).fU,(ak 2)] [0] [.box [.id,.id,.id]] (.ay (Gt ax J) (MZ aO)))
def yl (ei:List Int)(aW:Int)(aT:cQ):Option (List Int) :=
 vl ei aW >>= fun ax =>
 tz aT ei ax.1 ax.2 >>= fun bh =>
 some bh.1
theorem Nt {ei:List Int}{aW:Int}{aT:cQ}:b2 (yl ei aW aT) (fun r=>Con bz 5 [.isl 1 (ei.map eU8),.n .i64 aW,.agg (gn aT)] [] (.isl 1 (r.map R)) []):=by
 unfold yl
 exact .aI fun ax J =>
  .aI fun bh aO =>
  .ret (cn [(ak 2),.aY (aD 2 (aF (.call {aA:=[],b7:=[],ac:=[ii,ii],r:= .ref 0 0 0 0,cY:=[[ap.mk 3 [[.isl 1 (ei.map eU8),.n .i64 ax.1,.n .i64 ax.2]] .live]],ec:=ii,eL:=[.box [.id,.id,.id]],c4:=[],cX:=false}) (b0 1 (.call {aA:=[.row 4],b7:=[.box [.id,.id,.id]],ac:=[ii,ii],r:= .isl 1 (bh.1.map R),cY:=[[ap.mk 3 [[.isl 1 (ei.map eU8),.n .i64 bh.2.1,.n .i64 bh.2.2]] .live]],ec:=ii,eL:=[.box [.id,.id,.id]],c4:=[4],cX:=false}) 1)))] (.ay (Gw ax J) (Gq bh aO)))
def vp (ei:List Int)(aW:Int):Option Int :=
 vl ei aW >>= fun ax =>
 nO ei ax.1 ax.2 >>= fun bh =>
 nO ei bh.2.1 bh.2.2 >>= fun br =>
 some (U ((U (bh.1*(256:Int)))+br.1))
theorem GC {ei:List Int}{aW:Int}:b2 (vp ei aW) (fun r=>Con bz 7 [.isl 1 (ei.map eU8),.n .i64 aW] [] (.n .i64 r) []):=by
 unfold vp
 exact .aI fun ax J =>
  .aI fun bh aO =>
  .aI fun br bW =>
  .ret (cn [(ak 1),.aY (b0 2 (.call {aA:=[],b7:=[],ac:=[ii,ii],r:= .ref 0 0 0 0,cY:=[[ap.mk 3 [[.isl 1 (ei.map eU8),.n .i64 ax.1,.n .i64 ax.2]] .live]],ec:=ii,eL:=[.box [.id,.id,.id]],c4:=[],cX:=false}) 1),.aY (aD 1 (aF (.call {aA:=[.row 3],b7:=[.box [.id,.id,.id]],ac:=[ii],r:= .n .i64 bh.1,cY:=[[ap.mk 3 [[.isl 1 (ei.map eU8),.n .i64 bh.2.1,.n .i64 bh.2.2]] .live]],ec:=ii,eL:=[.box [.id,.id,.id]],c4:=[3],cX:=false}) (b0 2 (.call {aA:=[.row 3],b7:=[.box [.id,.id,.id]],ac:=[ii],r:= .n .i64 br.1,cY:=[[ap.mk 3 [[.isl 1 (ei.map eU8),.n .i64 br.2.1,.n .i64 br.2.2]] .live]],ec:=ii,eL:=[.box [.id,.id,.id]],c4:=[3],cX:=false}) 2)))] (.bR (Gw ax J) (qg bh aO) (qg br bW)))
def ym (oS:Int):Option Bool :=
 if (decide ((97:Int)≤oS))=true then
  some (decide (oS≤(122:Int)))
 else
  some false
theorem Nu {oS:Int}:b2 (ym oS) (fun r=>Con bz 54 [.n .u8 oS] [] (.b r) []):=by
 unfold ym
 exact .ite (fun o =>
  .ret (cn [(ak 1),.aY (b0 5 (.aw true) 1)] (.bR o o o)))
  (fun o =>
  .ret (cn [(ak 1),.aY (aD 3 (dE 2 (aF (.aw false) (aD 1 []))))] (.bR o o o)))
def CL (oS:Int):Option Bool :=
 if (decide ((48:Int)≤oS))=true then
  some (decide (oS≤(57:Int)))
 else
  some false
theorem NA {oS:Int}:b2 (CL oS) (fun r=>Con bz 55 [.n .u8 oS] [] (.b r) []):=by
 unfold CL
 exact .ite (fun o =>
  .ret (cn [(ak 1),.aY (b0 5 (.aw true) 1)] (.bR o o o)))
  (fun o =>
  .ret (cn [(ak 1),.aY (aD 3 (dE 2 (aF (.aw false) (aD 1 []))))] (.bR o o o)))
def BQ (aT:ByteArray)(mL:Int):Int→S:=fun ld=>er [(0,.s aT),(5,.n .i64 mL),(6,.n .i64 ld)] []
def Gl (aT:ByteArray)(mL:Int):((Unit)⊕(Unit))→ex
 | .inl a=>⟨some 0,[(0,.s aT)],[]⟩
 | .inr a=>⟨none,[(2,.b false)],[]⟩
def tk (aT:ByteArray)(mL ld:Int):Option ((Int)⊕((Unit)⊕(Unit))) :=
 if (decide (ld<mL))=true then
  if 0≤ld∧ld<(aT.size:Nat) then
  ym ((aT.data.toList.getD ld.toNat 0).toNat:Int) >>= fun bh =>
  if bh=true then
   some (.inl (U (ld+(1:Int))))
  else
   if (ld == (0:Int))=true then
    some (.inr (.inr ()))
   else
    CL ((aT.data.toList.getD ld.toNat 0).toNat:Int) >>= fun cu =>
    if cu=true then
     some (.inl (U (ld+(1:Int))))
    else
     some (.inr (.inr ()))
  else none
 else
  some (.inr (.inl ()))
def CC (aT:ByteArray)(mL ld:Int):Option ((Unit)⊕(Unit)):=iter (fun w:Int=>tk aT mL w) ld
theorem MF {aT:ByteArray}{mL ld:Int}:b2 (tk aT mL ld) (e5 bz 33 0 39 [1,0,1,0,0] (BQ aT mL ld) (BQ aT mL) (Gl aT mL)):=by
 unfold tk
 exact .ite (fun o =>
  .bk fun J =>
  .aI fun bh aO =>
  (let t1:List cM:=[(ak 1),.aw true,(ak 2)];
  have a6:=((.ed o J.1 J.2 (Nu bh aO) (cx.b bh)):cF _);
  .ite (fun aM =>
  .ret (bP (t1.append [.aY (aD 3 (aF (cT 1 (.b bh) true) (aD 2 (dE 3 (aD 5 (dE 1 (aF (.aw false) []))))))),.aw false,(ak 2),.bi [] [] (bI [0,5,6])]) (a6.bb (.eW (d3 aM) (d3 aM) (d3 aM) (d3 aM) (d3 aM) iZ))))
  (fun aM =>
  (have gO:=a6.bb (.bR (ea aM) (ea aM) (ea aM));
  .ite (fun bW =>
  .ret (bP (t1.append [.aY (aD 3 (aF (cT 1 (.b bh) true) (aD 5 (dE 5 (aF (.aw true) (aF (.aw true) [])))))),.aw true,(ak 1),.bi [] [] (bI [2])]) (gO.bb (.bF bW bW bW bW bW (ea aM) bW (ea aM) (.ar da)))))
  (fun bW =>
  .aI fun cu bG =>
  (let t4:List cM:=t1.append [.aY (aD 3 (aF (cT 1 (.b bh) true) (aD 8 (aF (cT 1 (.b cu) true) (aD 1 (aF (.aw false) (aF (.aw true) [])))))))];
  have oi:=gO.bb (.bF bW bW bW J.1 J.2 bW (NA cu bG) (cx.b cu) (.dc bW (ea aM) bW (ea aM)));
  .ite (fun d8 =>
  .ret (bP (t4.append [.aw false,(ak 2),.bi [] [] (bI [0,5,6])]) (oi.bb (.ar (d3 d8)))))
  (fun d8 =>
  .ret (bP (t4.append [.aw true,(ak 1),.bi [] [] (bI [2])]) (oi.bb (.ar (ea d8)))))))))))
  (fun o =>
  .ret (bP [(ak 1),.aw false,.bi [] [] (bI [0])] (.ar o)))
theorem Ce {aT:ByteArray}{mL ld:Int}{r} (h:CC aT mL ld=some r):e6 bz 33 0 39 [1,0,1,0,0] (BQ aT mL) (Gl aT mL) ld r:=e7 (fun _=>MF) h
def ry (aT:ByteArray):Option Bool :=
 CC aT (aT.size:Int) 0 >>= fun ax =>
 match ax with
 | .inl dn=>(if (!(aT.toList == (⟨#[]⟩:ByteArray).toList))=true then
  some (decide ((aT.size:Int)≤(8:Int)))
  else
   some false)
 | .inr dn=>(some false)
theorem NO {aT:ByteArray}:b2 (ry aT) (fun r=>Con bz 39 [.s aT] [] (.b r) []):=by
 unfold ry
 exact .aI fun ax J =>
  (let t1:List cM:=[(ak 1),(ak 3),.bi [] [] (bI [0,5,6])];
  (by
  rcases ax with dn|dn
  ·exact ((let t2:List cM:=t1.append [.sub (.exit 0) [(0,.s aT)] []];
  .ite (fun aO =>
  .ret (cn (t2.append [.aY (b0 6 (.aw true) 1)]) (.ed (Ce J) aO aO aO aO)))
  (fun aO =>
  .ret (cn (t2.append [.aY (aD 3 (dE 3 (aF (.aw false) (aD 1 []))))]) (.ed (Ce J) aO aO aO aO)))))
  ·exact (.ret (cn (t1.append [.sub (.ret) [(2,.b false)] []]) (.ar (Ce J))))))
def tE (aW:Int):Option Bool :=
 if (decide ((-50:Int)≤aW))=true then
  some (decide (aW≤(50:Int)))
 else
  some false
theorem GD {aW:Int}:b2 (tE aW) (fun r=>Con bz 40 [.n .i64 aW] [] (.b r) []):=by
 unfold tE
 exact .ite (fun o =>
  .ret (cn [(ak 1),.aY (b0 5 (.aw true) 1)] (.bR o o o)))
  (fun o =>
  .ret (cn [(ak 1),.aY (aD 3 (dE 2 (aF (.aw false) (aD 1 []))))] (.bR o o o)))
def vq (di:a9):Option Bool :=
 ry di.nu >>= fun ax =>
 if ax=true then
  tE di.kF >>= fun bl =>
  if bl=true then
   tE di.kG >>= fun cu =>
   some cu
  else
   some false
 else
  some false
theorem NB {di:a9}:b2 (vq di) (fun r=>Con bz 27 [.agg (cA di)] [] (.b r) []):=by
 unfold vq
 exact .aI fun ax J =>
  (have bZ:=((.ay (NO ax J) (cx.b ax)):cF _);
  .ite (fun ao =>
  .aI fun bl aM =>
  (have a6:=bZ.bb (.eW ao ao ao (GD bl aM) (cx.b bl) ao);
  .ite (fun bW =>
  .aI fun cu bG =>
  .ret (cn [(ak 2),.aY (aD 2 (aF (cT 1 (.b ax) true) (aD 3 (aF (cT 1 (.b bl) true) (aF (.aw true) (aD 3 (aF (cT 1 (.b cu) true) (aF (.aw true) (aD 1 [])))))))))] (a6.bb (.eW bW bW bW (GD cu bG) (cx.b cu) bW))))
  (fun bW =>
  .ret (cn [(ak 2),.aY (aD 2 (aF (cT 1 (.b ax) true) (aD 3 (aF (cT 1 (.b bl) true) (aF (.aw true) (aD 1 (dE 3 (aF (.aw false) (aD 1 [])))))))))] (a6.bb (.dc bW bW bW bW))))))
  (fun ao =>
  .ret (cn [(ak 2),.aY (aD 2 (aF (cT 1 (.b ax) true) (aD 1 (dE 3 (aF (.aw false) (aD 1 (dE 3 (aD 2 []))))))))] (bZ.bb (.fm ao ao ao ao iZ iZ iZ)))))
def x4 (di:a9)(c6:ByteArray):Option Bool :=
 some (di.nu.toList == c6.toList)
theorem MP {di:a9}{c6:ByteArray}:b2 (x4 di c6) (fun r=>Con bz 42 [.agg (cA di),.dg 1 [[.s c6]] 0 0] [] (.b r) []):=by
 unfold x4
 exact .ret (cn [(ak 2),(ak 5)] .nil)
def Aq (aT:List a9)(h6:ByteArray)(dP:Int):Int→S:=fun dC=>er [(0,.isl 4 (aT.map cA)),(1,.fn 42 [.dg 1 [[.s h6]] 0 0]),(7,.n .i64 dP),(8,.n .i64 dC)] []
def FV (aT:List a9)(h6:ByteArray)(dP:Int):((Unit)⊕(Int))→ex
 | .inl a=>⟨some 0,[],[]⟩
 | .inr a=>⟨none,[(4,.n .i64 a)],[]⟩
def u4 (aT:List a9)(h6:ByteArray)(dP dC:Int):Option ((Int)⊕((Unit)⊕(Int))) :=
 if (decide (dC<dP))=true then
  if 0≤dC∧dC<aT.length then
  aT[dC.toNat]? >>= fun a4 =>
  x4 a4 h6 >>= fun br =>
  if br=true then
   some (.inr (.inr dC))
  else
   some (.inl (U (dC+(1:Int))))
  else none
 else
  some (.inr (.inl ()))
def AE (aT:List a9)(h6:ByteArray)(dP dC:Int):Option ((Unit)⊕(Int)):=iter (fun w:Int=>u4 aT h6 dP w) dC
theorem Lu {aT:List a9}{h6:ByteArray}{dP dC:Int}:b2 (u4 aT h6 dP dC) (e5 bz 19 0 41 [1,0,1,0,0] (Aq aT h6 dP dC) (Aq aT h6 dP) (FV aT h6 dP)):=by
 unfold u4
 exact .ite (fun o =>
  .bk fun J =>
  .aI fun a4 aO =>
  .aI fun br bW =>
  (let t1:List cM:=[(ak 1),.aw true,(ak 2),.aY (aD 4 (aF (.cy (cA a4)) (aF (cT 2 (.b br) true) [])))];
  have a6:=((.eW o J.1 (d1 cA J.2) (cr cA aO) (MP br bW) (cx.b br)):cF _);
  .ite (fun bK =>
  .ret (bP (t1.append [.aw true,(ak 2),.bi [] [] (bI [4])]) (a6.bb (.ar bK))))
  (fun bK =>
  .ret (bP (t1.append [.aw false,(ak 2),.bi [] [] [(0,ii),(1,.comp [.c6 .id]),(7,ii),(8,ii)]]) (a6.bb (.ar bK))))))
  (fun o =>
  .ret (bP [(ak 1),.aw false,.bi [] [] []] (.ar o)))
theorem FX {aT:List a9}{h6:ByteArray}{dP dC:Int}{r} (h:AE aT h6 dP dC=some r):e6 bz 19 0 41 [1,0,1,0,0] (Aq aT h6 dP) (FV aT h6 dP) dC r:=e7 (fun _=>Lu) h
def xM (aT:List a9)(mu:ByteArray):Option Int :=
 AE aT mu (len_ cA aT) 0 >>= fun ax =>
 match ax with
 | .inl dn=>(some (-1))
 | .inr dn=>(some dn)
theorem LO {aT:List a9}{mu:ByteArray}:b2 (xM aT mu) (fun r=>Con bz 41 [.isl 4 (aT.map cA),.fn 42 [.dg 1 [[.s mu]] 0 0]] [] (.n .i64 r) []):=by
 unfold xM
 exact .aI fun ax J =>
  (let t1:List cM:=[(ak 1),(ak 3),.bi [] [] [(0,ii),(1,.comp [.c6 .id]),(7,ii),(8,ii)]];
  (by
  rcases ax with dn|dn
  ·exact (.ret (cn (t1.append [.sub (.exit 0) [] [],(ak 1)]) (.ar (FX J))))
  ·exact (.ret (cn (t1.append [.sub (.ret) [(4,.n .i64 dn)] []]) (.ar (FX J))))))
def vg (aT:cQ)(ue:ByteArray):Option Int :=
 xM aT.cc ue >>= fun ax =>
 some ax
theorem M3 {aT:cQ}{ue:ByteArray}:b2 (vg aT ue) (fun r=>Con bz 28 [.agg (gn aT),.s ue] [] (.n .i64 r) []):=by
 unfold vg
 exact .aI fun ax J =>
  .ret (cn [(ak 3),.aY (b0 3 (.call {ac:=[ii,.comp [.ptr [.id]]],r:= .n .i64 ax,cX:=true,c4:=[1]}) 1)] (.bR (ly (IF ue):gL [[.s ue]]) (LO ax J) (cx.n .i64 ax)))
def vb (aT:cQ)(kw:bu):Option Bool :=
 if (decide (kw.e1<(0:Int)))=true then
  some false
 else
  if (decide ((len_ cA aT.cc)≤kw.e1))=true then
   some false
  else
   if (decide (kw.fH<(0:Int)))=true then
    some false
   else
    if (decide ((len_ cA aT.cc)≤kw.fH))=true then
     some false
    else
     if (decide (kw.l7<(1:Int)))=true then
      some false
     else
      if (decide ((3:Int)<kw.l7))=true then
       some false
      else
       if 0≤kw.e1∧kw.e1<aT.cc.length then
       aT.cc[kw.e1.toNat]? >>= fun mm =>
       if 0≤kw.fH∧kw.fH<aT.cc.length then
       aT.cc[kw.fH.toNat]? >>= fun nE =>
       if (mm.kF != nE.kF)=true then
        if mm.l4=true then
         some (!nE.l4)
        else
         some true
       else
        if (mm.kG != nE.kG)=true then
         if mm.l4=true then
          some (!nE.l4)
         else
          some true
        else
         some false
       else none
       else none
theorem L7 {aT:cQ}{kw:bu}:b2 (vb aT kw) (fun r=>Con bz 31 [.dg 2 [(gn aT)] 0 0,.agg (dr kw)] [] (.b r) []):=by
 unfold vb
 exact .ite (fun o =>
  .ret (cn [(ak 2),(ak 6),.aY (aD 4 (dE 4 (aF (.aw true) (aD 1 (dE 3 (aD 2 (dE 4 (aD 2 (dE 3 (aD 2 (dE 3 (aD 1 [])))))))))))),.aw true,(ak 1)] (.bF o o o o o da da da (.bF da da da da da da da da (.bR da da da)))))
  (fun o =>
  .ite (fun J =>
  .ret (cn [(ak 2),(ak 6),.aY (aD 8 (aF (.aw false) (aD 1 (dE 3 (aF (.aw true) (aD 1 (dE 4 (aD 2 (dE 3 (aD 2 (dE 3 (aD 1 [])))))))))))),.aw true,(ak 1)] (.bF o o o o o J J J (.bF J da da da da da da da (.dc da da da da)))))
  (fun J =>
  (have bZ:=((.bF o o o o o J J J (.ar J)):cF _);
  .ite (fun ao =>
  .ret (cn [(ak 2),(ak 6),.aY (aD 8 (aF (.aw false) (aD 4 (aF (.aw false) (aD 1 (dE 4 (aF (.aw true) (aD 1 (dE 3 (aD 2 (dE 3 (aD 1 [])))))))))))),.aw true,(ak 1)] (bZ.bb (.bF ao ao ao ao ao da da da (.dc da da da da)))))
  (fun ao =>
  .ite (fun aO =>
  .ret (cn [(ak 2),(ak 6),.aY (aD 8 (aF (.aw false) (aD 4 (aF (.aw false) (aD 5 (aF (.aw false) (aD 1 (dE 3 (aF (.aw true) (aD 1 (dE 3 (aD 1 [])))))))))))),.aw true,(ak 1)] (bZ.bb (.bF ao ao ao ao ao aO aO aO (.ed aO da da da da)))))
  (fun aO =>
  (have a6:=bZ.bb (.bF ao ao ao ao ao aO aO aO (.ar aO));
  .ite (fun aM =>
  .ret (cn [(ak 2),(ak 6),.aY (aD 8 (aF (.aw false) (aD 4 (aF (.aw false) (aD 5 (aF (.aw false) (aD 4 (aF (.aw false) (aD 1 (dE 3 (aF (.aw true) []))))))))))),.aw true,(ak 1)] (a6.bb (.ed aM aM aM aM da))))
  (fun aM =>
  (let t3:List cM:=[(ak 2),(ak 6),.aY (aD 8 (aF (.aw false) (aD 4 (aF (.aw false) (aD 5 (aF (.aw false) (aD 4 (aF (.aw false) (aD 4 (aF (.aw false) []))))))))))];
  .ite (fun bW =>
  .ret (cn (t3.append [.aw true,(ak 1)]) (a6.bb (.ed aM aM aM aM bW))))
  (fun bW =>
  .bk fun bK =>
  .aI fun mm d8 =>
  .bk fun dZ =>
  .aI fun nE eT =>
  (let t4:List cM:=t3.append [.aw false,.aY (aD 7 (aF (.cy (cA mm)) (b0 7 (.cy (cA nE)) 4)))];
  have oi:=a6.bb (.bF aM aM aM aM bW bK.1 (d1 cA bK.2) (cr cA d8) (.bR dZ.1 (d1 cA dZ.2) (cr cA eT)));
  .ite (fun eM =>
  (have kl:=oi.bb (.bF eM eM eM eM eM eM da da (.ar da));
  .ite (fun dL =>
  .ret (cn (t4.append [.aY (aD 6 (dE 5 (aF (.aw true) (b0 6 (.aw true) 3))))]) (kl.bb (.ed dL dL da dL da))))
  (fun dL =>
  .ret (cn (t4.append [.aY (aD 6 (dE 5 (aF (.aw true) (aD 4 (dE 2 (aF (.aw false) (aD 3 [])))))))]) (kl.bb (.ed dL dL da dL da))))))
  (fun eM =>
  .ite (fun dL =>
  (have kl:=oi.bb (.bF eM eM eM eM eM eM dL dL (.ar dL));
  .ite (fun hg =>
  .ret (cn (t4.append [.aY (aD 11 (aF (.aw false) (aD 6 (aF (.aw true) (b0 1 (.aw true) 1)))))]) (kl.bb (.eW hg hg dL hg dL dL))))
  (fun hg =>
  .ret (cn (t4.append [.aY (aD 11 (aF (.aw false) (aD 4 (dE 2 (aF (.aw false) (b0 1 (.aw true) 1))))))]) (kl.bb (.eW hg hg dL hg dL dL))))))
  (fun dL =>
  .ret (cn (t4.append [.aY (aD 11 (aF (.aw false) (aD 1 (dE 3 (aD 2 (dE 2 (aF (.aw false) (aD 1 []))))))))]) (oi.bb (.bF eM eM eM eM eM eM dL dL (.dc dL dL dL dL))))))))))))))))
def x1 (kw:bu)(c6:cQ):Option Bool :=
 vb c6 kw >>= fun ax =>
 some (!ax)
theorem MK {kw:bu}{c6:cQ}:b2 (x1 kw c6) (fun r=>Con bz 30 [.agg (dr kw),.dg 2 [(gn c6)] 0 0] [] (.b r) []):=by
 unfold x1
 exact .aI fun ax J =>
  .ret (cn [(ak 2),.aY (b0 1 (cT 2 (.b ax) true) 2)] (.ay (L7 ax J) (cx.b ax)))
def Ap (aT:List bu)(h6:List a9)(mv:List bu)(dP:Int):Int→S:=fun dC=>er [(0,.isl 3 (aT.map dr)),(1,.fn 30 [.dg 2 [[.isl 4 (h6.map cA),.isl 3 (mv.map dr)]] 0 0]),(7,.n .i64 dP),(8,.n .i64 dC)] []
def FU (aT:List bu)(h6:List a9)(mv:List bu)(dP:Int):((Unit)⊕(Int))→ex
 | .inl a=>⟨some 0,[],[]⟩
 | .inr a=>⟨none,[(4,.n .i64 a)],[]⟩
def sI (aT:List bu)(h6:List a9)(mv:List bu)(dP dC:Int):Option ((Int)⊕((Unit)⊕(Int))) :=
 if (decide (dC<dP))=true then
  if 0≤dC∧dC<aT.length then
  aT[dC.toNat]? >>= fun a4 =>
  x1 a4 (⟨h6,mv⟩:cQ) >>= fun br =>
  if br=true then
   some (.inr (.inr dC))
  else
   some (.inl (U (dC+(1:Int))))
  else none
 else
  some (.inr (.inl ()))
def AA (aT:List bu)(h6:List a9)(mv:List bu)(dP dC:Int):Option ((Unit)⊕(Int)):=iter (fun w:Int=>sI aT h6 mv dP w) dC
theorem Lt {aT:List bu}{h6:List a9}{mv:List bu}{dP dC:Int}:b2 (sI aT h6 mv dP dC) (e5 bz 19 0 43 [1,0,1,0,0] (Ap aT h6 mv dP dC) (Ap aT h6 mv dP) (FU aT h6 mv dP)):=by
 unfold sI
 exact .ite (fun o =>
  .bk fun J =>
  .aI fun a4 aO =>
  .aI fun br bW =>
  (let t1:List cM:=[(ak 1),.aw true,(ak 2),.aY (aD 4 (aF (.cy (dr a4)) (aF (cT 2 (.b br) true) [])))];
  have a6:=((.eW o J.1 (d1 dr J.2) (cr dr aO) (MK br bW) (cx.b br)):cF _);
  .ite (fun bK =>
  .ret (bP (t1.append [.aw true,(ak 2),.bi [] [] (bI [4])]) (a6.bb (.ar bK))))
  (fun bK =>
  .ret (bP (t1.append [.aw false,(ak 2),.bi [] [] [(0,ii),(1,.comp [.c6 .id]),(7,ii),(8,ii)]]) (a6.bb (.ar bK))))))
  (fun o =>
  .ret (bP [(ak 1),.aw false,.bi [] [] []] (.ar o)))
theorem FW {aT:List bu}{h6:List a9}{mv:List bu}{dP dC:Int}{r} (h:AA aT h6 mv dP dC=some r):e6 bz 19 0 43 [1,0,1,0,0] (Ap aT h6 mv dP) (FU aT h6 mv dP) dC r:=e7 (fun _=>Lt) h
def xI (aT:List bu)(mu:cQ):Option Int :=
 AA aT mu.cc mu.cK (len_ dr aT) 0 >>= fun ax =>
 match ax with
 | .inl dn=>(some (-1))
 | .inr dn=>(some dn)
theorem LH {aT:List bu}{mu:cQ}:b2 (xI aT mu) (fun r=>Con bz 43 [.isl 3 (aT.map dr),.fn 30 [.dg 2 [(gn mu)] 0 0]] [] (.n .i64 r) []):=by
 unfold xI
 exact .aI fun ax J =>
  (let t1:List cM:=[(ak 1),(ak 3),.bi [] [] [(0,ii),(1,.comp [.c6 .id]),(7,ii),(8,ii)]];
  (by
  rcases ax with dn|dn
  ·exact (.ret (cn (t1.append [.sub (.exit 0) [] [],(ak 1)]) (.ar (FW J))))
  ·exact (.ret (cn (t1.append [.sub (.ret) [(4,.n .i64 dn)] []]) (.ar (FW J))))))
def u5 (aT:List bu)(mu:cQ):Option Bool :=
 xI aT mu >>= fun ax =>
 some (decide ((0:Int)≤ax))
theorem LB {aT:List bu}{mu:cQ}:b2 (u5 aT mu) (fun r=>Con bz 29 [.isl 3 (aT.map dr),.fn 30 [.dg 2 [(gn mu)] 0 0]] [] (.b r) []):=by
 unfold u5
 exact .aI fun ax J =>
  .ret (cn [(ak 1),.aY (b0 2 (cT 2 (.n .i64 ax) true) 2)] (.ay (LH ax J) (cx.n .i64 ax)))
def A9 (fR:List a9)(mB:Int)(aB:List bu):Int→S:=fun l8=>er [(1,.ref 0 0 0 0),(16,.isl 4 (fR.map cA)),(17,.n .i64 mB),(18,.n .i64 l8)] [[ap.mk 2 [[.isl 4 (fR.map cA),.isl 3 (aB.map dr)]] .live]]
def Ba (fR:List a9)(mB:Int)(aB:List bu):((Unit)⊕(Unit))→ex
 | .inl a=>⟨some 0,[(1,.ref 0 0 0 0)],[[ap.mk 2 [[.isl 4 (fR.map cA),.isl 3 (aB.map dr)]] .live]]⟩
 | .inr a=>⟨none,[(2,.b false)],[]⟩
def s3 (fR:List a9)(mB:Int)(aB:List bu)(l8:Int):Option ((Int)⊕((Unit)⊕(Unit))) :=
 if (decide (l8<mB))=true then
  if 0≤l8∧l8<fR.length then
  fR[l8.toNat]? >>= fun a4 =>
  vq a4 >>= fun br =>
  if br=true then
   vg (⟨fR,aB⟩:cQ) a4.nu >>= fun fu =>
   if (fu != l8)=true then
    some (.inr (.inr ()))
   else
    some (.inl (U (l8+(1:Int))))
  else
   some (.inr (.inr ()))
  else none
 else
  some (.inr (.inl ()))
def xW (fR:List a9)(mB:Int)(aB:List bu)(l8:Int):Option ((Unit)⊕(Unit)):=iter (fun w:Int=>s3 fR mB aB w) l8
theorem L6 {fR:List a9}{mB:Int}{aB:List bu}{l8:Int}:b2 (s3 fR mB aB l8) (e5 bz 40 0 16 [1,1,0,1,0,0] (A9 fR mB aB l8) (A9 fR mB aB) (Ba fR mB aB)):=by
 unfold s3
 exact .ite (fun o =>
  .bk fun J =>
  .aI fun a4 aO =>
  .aI fun br bW =>
  (let t1:List cM:=[(ak 1),.aw true,.aY (b0 2 (.cy (cA a4)) 3)];
  have a6:=((.eW o J.1 (d1 cA J.2) (cr cA aO) (NB br bW) (cx.b br)):cF _);
  .ite (fun bK =>
  .aI fun fu d8 =>
  (let t3:List cM:=t1.append [.aY (aD 1 (aF (cT 1 (.b br) true) (aD 5 (aF (cT 2 (.n .i64 fu) true) (aD 2 (aF (.aw false) []))))))];
  have fN:=a6.bb (.bF (d3 bK) (d3 bK) (d3 bK) (d3 bK) (M3 fu d8) (cx.n .i64 fu) (d3 bK) (d3 bK) (.ar (d3 bK)));
  .ite (fun dZ =>
  .ret (bP (t3.append [.aw true,(ak 1),.bi [] [] (bI [2])]) (fN.bb (.ar dZ))))
  (fun dZ =>
  .ret (bP (t3.append [.aw false,(ak 2),.bi [0] [.box [.id,.id]] (bI [1,16,17,18])]) (fN.bb (.ar dZ))))))
  (fun bK =>
  .ret (bP (t1.append [.aY (aD 1 (aF (cT 1 (.b br) true) (aD 2 (dE 6 (aF (.aw true) []))))),.aw true,(ak 1),.bi [] [] (bI [2])]) (a6.bb (.ja (ea bK) (ea bK) (ea bK) (ea bK) (ea bK) (ea bK) (ea bK) da))))))
  (fun o =>
  .ret (bP [(ak 1),.aw false,.bi [0] [.box [.id,.id]] (bI [1])] (.ar o)))
theorem Gd {fR:List a9}{mB:Int}{aB:List bu}{l8:Int}{r} (h:xW fR mB aB l8=some r):e6 bz 40 0 16 [1,1,0,1,0,0] (A9 fR mB aB) (Ba fR mB aB) l8 r:=e7 (fun _=>L6) h
def pw (aT:cQ):Option Bool :=
 if (decide ((6:Int)<(len_ cA aT.cc)))=true then
  some false
 else
  if (decide ((8:Int)<(len_ dr aT.cK)))=true then
   some false
  else
   xW aT.cc (len_ cA aT.cc) aT.cK 0 >>= fun bh =>
   match bh with
   | .inl eX=>(u5 aT.cK aT >>= fun cj =>
    some (!cj))
   | .inr eX=>(some false)
theorem xX {aT:cQ}:b2 (pw aT) (fun r=>Con bz 16 [.agg (gn aT)] [] (.b r) []):=by
 unfold pw
 exact .ite (fun o =>
  .ret (cn [(ak 2),.aY (aD 5 (dE 4 (aF (.aw true) []))),.aw true,(ak 1)] (.eW o o o o o da)))
  (fun o =>
  (let t1:List cM:=[(ak 2),.aY (aD 9 (aF (.aw false) []))];
  .ite (fun J =>
  .ret (cn (t1.append [.aw true,(ak 1)]) (.eW o o o o o J)))
  (fun J =>
  .aI fun bh aO =>
  (let t2:List cM:=t1.append [.aw false,(ak 4),.bi [0] [.box [.id,.id]] (bI [1,16,17,18])];
  (by
  rcases bh with eX|eX
  ·exact (.aI fun cj bK =>
  .ret (cn (t2.append [(Ba aT.cc (len_ cA aT.cc) aT.cK (.inl eX)).fU,.aY (b0 3 (.call {ac:=[ii,.comp [.ptr [.id,.id]]],r:= .b cj,cX:=true,c4:=[0]}) 2)]) (.bF o o o o o J (Gd aO) (ly (nN aT):gL [(gn aT)]) (.ay (LB cj bK) (cx.b cj)))))
  ·exact (.ret (cn (t2.append [.sub (.ret) [(2,.b false)] []]) (.fm o o o o o J (Gd aO)))))))))
def vm (aT:cQ):Option (((List Int))⊕(Unit)) :=
 pw aT >>= fun ax =>
 if ax=true then
  if 0≤(U ((2:Int)*(len_ cA aT.cc)))∧(8:Int)*(U ((2:Int)*(len_ cA aT.cc)))≤281474976710656∧(U ((2:Int)*(len_ cA aT.cc)))<9223372036854775808 then
  some (.inl (List.replicate (U ((2:Int)*(len_ cA aT.cc))).toNat 0:List Int))
  else none
 else
  some (.inr ())
theorem Gx {aT:cQ}:b2 (vm aT) (Sum.elim (fun a=>Con bz 17 [.agg (gn aT)] [] (.bp 0 0 0 a.length) [(aH 1 R a)]) (fun a=>Con bz 17 [.agg (gn aT)] [] (.dJ) [])):=by
 unfold vm
 exact .aI fun ax J =>
  (let t1:List cM:=[(ak 2),.aY (b0 1 (cT 1 (.b ax) true) 1)];
  have a6:=((.ay (xX ax J) (cx.b ax)):cF _);
  .ite (fun ao =>
  .bk fun aO =>
  .ret (let aZ:=(U ((2:Int)*(len_ cA aT.cc)));let bg:=(List.replicate aZ.toNat 0:List Int);ik (t1.append [.aw false,(ak 6)]) [9] [.dH (aH 1 R bg)] (a6.bb (.ja (d3 ao) aO.1 (Int.le_refl aZ) aO.2.1 aO.2.2 (ey 1 .live (lB R aZ.toNat 0)) (aU 1 .live a2 bg) (l2 aZ.toNat (0:Int)))) (.bH (.c6 (.len (bg.length))))))
  (fun ao =>
  .ret (ik (t1.append [.aw true,(ak 1)]) [] [] (a6.bb (.ar (ea ao))))))
def vr (aW:Int):Option Bool :=
 if (decide ((-100:Int)≤aW))=true then
  some (decide (aW≤(100:Int)))
 else
  some false
theorem NC {aW:Int}:b2 (vr aW) (fun r=>Con bz 34 [.n .i64 aW] [] (.b r) []):=by
 unfold vr
 exact .ite (fun o =>
  .ret (cn [(ak 1),.aY (b0 5 (.aw true) 1)] (.bR o o o)))
  (fun o =>
  .ret (cn [(ak 1),.aY (aD 3 (dE 2 (aF (.aw false) (aD 1 []))))] (.bR o o o)))
def ya (aW:Int):Option Bool :=
 vr aW >>= fun ax =>
 some (!ax)
theorem M4 {aW:Int}:b2 (ya aW) (fun r=>Con bz 33 [.n .i64 aW] [] (.b r) []):=by
 unfold ya
 exact .aI fun ax J =>
  .ret (cn [(ak 1),.aY (b0 1 (cT 1 (.b ax) true) 2)] (.ay (NC ax J) (cx.b ax)))
def Ar (aT:List Int)(dP:Int):Int→S:=fun dC=>er [(0,.isl 1 (aT.map R)),(1,.fn 33 []),(7,.n .i64 dP),(8,.n .i64 dC)] []
def FY (aT:List Int)(dP:Int):((Unit)⊕(Int))→ex
 | .inl a=>⟨some 0,[],[]⟩
 | .inr a=>⟨none,[(4,.n .i64 a)],[]⟩
def sJ (aT:List Int)(dP dC:Int):Option ((Int)⊕((Unit)⊕(Int))) :=
 if (decide (dC<dP))=true then
  if 0≤dC∧dC<aT.length then
  aT[dC.toNat]? >>= fun a4 =>
  ya a4 >>= fun br =>
  if br=true then
   some (.inr (.inr dC))
  else
   some (.inl (U (dC+(1:Int))))
  else none
 else
  some (.inr (.inl ()))
def AJ (aT:List Int)(dP dC:Int):Option ((Unit)⊕(Int)):=iter (fun w:Int=>sJ aT dP w) dC
theorem Lv {aT:List Int}{dP dC:Int}:b2 (sJ aT dP dC) (e5 bz 19 0 44 [1,0,1,0,0] (Ar aT dP dC) (Ar aT dP) (FY aT dP)):=by
 unfold sJ
 exact .ite (fun o =>
  .bk fun J =>
  .aI fun a4 aO =>
  .aI fun br bW =>
  (let t1:List cM:=[(ak 1),.aw true,(ak 2),.aY (aD 4 (aF (.cy (R a4)) (aF (cT 1 (.b br) true) [])))];
  have a6:=((.eW o J.1 (d1 R J.2) (cr R aO) (M4 br bW) (cx.b br)):cF _);
  .ite (fun bK =>
  .ret (bP (t1.append [.aw true,(ak 2),.bi [] [] (bI [4])]) (a6.bb (.ar bK))))
  (fun bK =>
  .ret (bP (t1.append [.aw false,(ak 2),.bi [] [] (bI [0,1,7,8])]) (a6.bb (.ar bK))))))
  (fun o =>
  .ret (bP [(ak 1),.aw false,.bi [] [] []] (.ar o)))
theorem FZ {aT:List Int}{dP dC:Int}{r} (h:AJ aT dP dC=some r):e6 bz 19 0 44 [1,0,1,0,0] (Ar aT dP) (FY aT dP) dC r:=e7 (fun _=>Lv) h
def xO (aT:List Int):Option Int :=
 AJ aT (len_ R aT) 0 >>= fun ax =>
 match ax with
 | .inl dn=>(some (-1))
 | .inr dn=>(some dn)
theorem L0 {aT:List Int}:b2 (xO aT) (fun r=>Con bz 44 [.isl 1 (aT.map R),.fn 33 []] [] (.n .i64 r) []):=by
 unfold xO
 exact .aI fun ax J =>
  (let t1:List cM:=[(ak 1),(ak 3),.bi [] [] (bI [0,1,7,8])];
  (by
  rcases ax with dn|dn
  ·exact (.ret (cn (t1.append [.sub (.exit 0) [] [],(ak 1)]) (.ar (FZ J))))
  ·exact (.ret (cn (t1.append [.sub (.ret) [(4,.n .i64 dn)] []]) (.ar (FZ J))))))
def xJ (aT:List Int):Option Bool :=
 xO aT >>= fun ax =>
 some (decide ((0:Int)≤ax))
theorem LI {aT:List Int}:b2 (xJ aT) (fun r=>Con bz 32 [.isl 1 (aT.map R),.fn 33 []] [] (.b r) []):=by
 unfold xJ
 exact .aI fun ax J =>
  .ret (cn [(ak 1),.aY (b0 2 (cT 2 (.n .i64 ax) true) 2)] (.ay (L0 ax J) (cx.n .i64 ax)))
def om (aT:cQ)(dq:List Int):Option Bool :=
 if ((len_ R dq) == (U ((2:Int)*(len_ cA aT.cc))))=true then
  xJ dq >>= fun bJ =>
  some (!bJ)
 else
  some false
theorem ts {aT:cQ}{dq:List Int}:b2 (om aT dq) (fun r=>Con bz 18 [.dg 2 [(gn aT)] 0 0,.isl 1 (dq.map R)] [] (.b r) []):=by
 unfold om
 exact .ite (fun o =>
  .aI fun bJ ao =>
  .ret (cn [(ak 1),.aY (aD 11 (aF (cT 2 (.b bJ) true) (b0 1 (.aw true) 1)))] (.eW o o (LI bJ ao) (cx.b bJ) o o)))
  (fun o =>
  .ret (cn [(ak 1),.aY (aD 10 (dE 3 (aF (.aw false) (aD 1 []))))] (.dc o o o o)))
def Bm (dN:List Int)(bO:Int)(eo:List (List Int))(c2:Int)(dW:List Int)(fs:Int)(az:List a9)(aB:List bu):(Int×(List Int))→S:=fun (jf,ag)=>er [(2,.isl 1 (dN.map R)),(3,.ref 0 0 0 0),(8,.bp 1 0 0 ag.length),(9,.n .i64 bO),(30,.isl 1 (eo.map (cl 1 R))),(31,.n .i64 c2),(32,.n .i64 bO),(54,.isl 1 (dW.map R)),(55,.n .i64 fs),(56,.n .i64 jf)] [[ap.mk 2 [[.isl 4 (az.map cA),.isl 3 (aB.map dr)]] .live],(aH 1 R ag)]
def Bw (dN:List Int)(bO:Int)(eo:List (List Int))(c2:Int)(dW:List Int)(fs:Int)(az:List a9)(aB:List bu):(List Int)→ex
 | a=>⟨some 2,[(2,.isl 1 (dN.map R)),(3,.ref 0 0 0 0),(8,.bp 1 0 0 a.length),(30,.isl 1 (eo.map (cl 1 R))),(31,.n .i64 c2),(32,.n .i64 bO)],[[ap.mk 2 [[.isl 4 (az.map cA),.isl 3 (aB.map dr)]] .live],(aH 1 R a)]⟩
def s9 (dN:List Int)(bO:Int)(eo:List (List Int))(c2:Int)(dW:List Int)(fs:Int)(az:List a9)(aB:List bu)(jf:Int)(ag:List Int):Option ((Int×(List Int))⊕((List Int))) :=
 if (decide (jf<fs))=true then
  if 0≤jf∧jf<dW.length then
  dW[jf.toNat]? >>= fun a4 =>
  if 0≤jf∧jf<(ag.length:Nat) then
  ag[(0+jf.toNat)]? >>= fun cC =>
  if 0≤bO∧bO<dN.length then
  dN[bO.toNat]? >>= fun fc =>
  if (0+jf.toNat)<ag.length then
  some (.inl (U (jf+(1:Int)),ag.set (0+jf.toNat) (U (cC+(U (a4*fc))))))
  else none
  else none
  else none
  else none
 else
  some (.inr ag)
def x7 (dN:List Int)(bO:Int)(eo:List (List Int))(c2:Int)(dW:List Int)(fs:Int)(az:List a9)(aB:List bu)(jf:Int)(ag:List Int):Option ((List Int)):=iter (fun w:Int×(List Int)=>s9 dN bO eo c2 dW fs az aB w.1 w.2) (jf,ag)
theorem Mm {dN:List Int}{bO:Int}{eo:List (List Int)}{c2:Int}{dW:List Int}{fs:Int}{az:List a9}{aB:List bu}{jf:Int}{ag:List Int}:b2 (s9 dN bO eo c2 dW fs az aB jf ag) (e5 bz 79 0 6 [1,1,1,0,1,0,0,1,1,0,0,1,1,1,0,0] (Bm dN bO eo c2 dW fs az aB (jf,ag)) (Bm dN bO eo c2 dW fs az aB) (Bw dN bO eo c2 dW fs az aB)):=by
 unfold s9
 exact .ite (fun o =>
  .bk fun J =>
  .aI fun a4 aO =>
  .bk fun aM =>
  .aI fun cC bK =>
  .bk fun bG =>
  .aI fun fc dZ =>
  .bk fun dG =>
  .ret (let aZ:=U (cC+(U (a4*fc)));bP [(ak 1),.aw true,.aY (b0 2 (.cy (R a4)) 2),.aY (aD 3 (aF (.cy (R cC)) (aD 4 (aF (.cy (R fc)) (aD 3 (aF .eV [])))))),(ak 2),.bi [0,1] [.box [.id,.id],.dH (aH 1 R (ag.set (0+jf.toNat) aZ))] [(2,ii),(3,ii),(8,hf ((ag.set (0+jf.toNat) aZ).length)),(9,ii),(30,ii),(31,ii),(32,ii),(54,ii),(55,ii),(56,ii)]] (.bF o J.1 (d1 R J.2) (cr R aO) aM.1 aM.2 (cr R bK) bG.1 (.bF (d1 R bG.2) (cr R dZ) aM.1 aM.2 (hJ R dG) (hl 1) (ey 1 .live (f7 (dQ R ag) (0+jf.toNat) aZ)) (aU 1 .live a2 (ag.set (0+jf.toNat) aZ)) (.ar (hL (fo ag) (0+jf.toNat) aZ))))))
  (fun o =>
  .ret (bP [(ak 1),.aw false,.bi [0,1] [.box [.id,.id],.pure] (bI [2,3,8,30,31,32])] (.ay o (aU 1 .live a2 ag))))
theorem M0 {dN:List Int}{bO:Int}{eo:List (List Int)}{c2:Int}{dW:List Int}{fs:Int}{az:List a9}{aB:List bu}{jf:Int}{ag:List Int}{r} (h:x7 dN bO eo c2 dW fs az aB jf ag=some r):e6 bz 79 0 6 [1,1,1,0,1,0,0,1,1,0,0,1,1,1,0,0] (Bm dN bO eo c2 dW fs az aB) (Bw dN bO eo c2 dW fs az aB) (jf,ag) r:=e7 (fun _=>Mm) h
def Bn (dN:List Int)(eo:List (List Int))(c2:Int)(az:List a9)(aB:List bu):(Int×(List Int))→S:=fun (dX,ag)=>er [(2,.isl 1 (dN.map R)),(3,.ref 0 0 0 0),(8,.bp 1 0 0 ag.length),(30,.isl 1 (eo.map (cl 1 R))),(31,.n .i64 c2),(32,.n .i64 dX)] [[ap.mk 2 [[.isl 4 (az.map cA),.isl 3 (aB.map dr)]] .live],(aH 1 R ag)]
def Bx (dN:List Int)(eo:List (List Int))(c2:Int)(az:List a9)(aB:List bu):(((List Int))⊕(Unit))→ex
 | .inl a=>⟨some 0,[(3,.ref 0 0 0 0),(8,.bp 1 0 0 a.length)],[[ap.mk 2 [[.isl 4 (az.map cA),.isl 3 (aB.map dr)]] .live],(aH 1 R a)]⟩
 | .inr a=>⟨none,[(6,.dJ),(7,.b false)],[]⟩
def re (dN:List Int)(eo:List (List Int))(c2:Int)(az:List a9)(aB:List bu)(dX:Int)(ag:List Int):Option ((Int×(List Int))⊕(((List Int))⊕(Unit))) :=
 if (decide (dX<c2))=true then
  if 0≤dX∧dX<eo.length then
  eo[dX.toNat]? >>= fun a4 =>
  om (⟨az,aB⟩:cQ) a4 >>= fun br =>
  if br=true then
   if 0≤dX∧dX<dN.length then
   dN[dX.toNat]? >>= fun fc =>
   if (decide (fc<(0:Int)))=true then
    some (.inr (.inr ()))
   else
    if (decide ((100:Int)<fc))=true then
     some (.inr (.inr ()))
    else
     x7 dN dX eo c2 a4 (len_ R a4) az aB 0 ag >>= fun dk =>
     some (.inl (U (dX+(1:Int)),dk))
   else none
  else
   some (.inr (.inr ()))
  else none
 else
  some (.inr (.inl ag))
def x8 (dN:List Int)(eo:List (List Int))(c2:Int)(az:List a9)(aB:List bu)(dX:Int)(ag:List Int):Option (((List Int))⊕(Unit)):=iter (fun w:Int×(List Int)=>re dN eo c2 az aB w.1 w.2) (dX,ag)
theorem Mn {dN:List Int}{eo:List (List Int)}{c2:Int}{az:List a9}{aB:List bu}{dX:Int}{ag:List Int}:b2 (re dN eo c2 az aB dX ag) (e5 bz 79 0 6 [1,1,1,0,1,0,0] (Bn dN eo c2 az aB (dX,ag)) (Bn dN eo c2 az aB) (Bx dN eo c2 az aB)):=by
 unfold re
 exact .ite (fun o =>
  .bk fun J =>
  .aI fun a4 aO =>
  .aI fun br bW =>
  (let t1:List cM:=[(ak 1),.aw true,.aY (b0 2 (.cy ((cl 1 R) a4)) 2)];
  have a6:=((.fm o J.1 (d1 (cl 1 R) J.2) (cr (cl 1 R) aO) (ly (nN (⟨az,aB⟩:cQ)):gL [[.isl 4 (az.map cA),.isl 3 (aB.map dr)]]) (ts br bW) (cx.b br)):cF _);
  .ite (fun bK =>
  .bk fun bG =>
  .aI fun fc dZ =>
  (have gO:=a6.bb (.bF (d3 bK) (d3 bK) (d3 bK) bG.1 (d1 R bG.2) (d3 bK) (cr R dZ) (d3 bK) (.ar (d3 bK)));
  .ite (fun dG =>
  .ret (bP (t1.append [.aY (aD 1 (aF (.call {ac:=[.bH (.ptr [.id,.id]),ii],r:= .b br,cX:=true,c4:=[0]}) (aD 5 (aF (.cy (R fc)) (aD 1 (aF (.aw false) (aD 1 (dE 5 (aF (.aw true) []))))))))),.aw true,(ak 2),.bi [] [] (bI [6,7])]) (gO.bb (.fm dG dG dG dG dG dG da))))
  (fun dG =>
  (let t4:List cM:=t1.append [.aY (aD 1 (aF (.call {ac:=[.bH (.ptr [.id,.id]),ii],r:= .b br,cX:=true,c4:=[0]}) (aD 5 (aF (.cy (R fc)) (aD 1 (aF (.aw false) (aD 4 (aF (.cy (R fc)) (aD 1 (aF (.aw false) []))))))))))];
  have oi:=gO.bb (.bF dG dG dG bG.1 (d1 R bG.2) dG (cr R dZ) dG (.ar dG));
  .ite (fun eT =>
  .ret (bP (t4.append [.aw true,(ak 2),.bi [] [] (bI [6,7])]) (oi.bb (.ar eT))))
  (fun eT =>
  .aI fun dk dL =>
  .ret (bP (t4.append [.aw false,(ak 3),.bi [0,1] [.box [.id,.id],.pure] (bI [2,3,8,9,30,31,32,54,55,56]),(Bw dN dX eo c2 a4 (len_ R a4) az aB dk).fU,(ak 2),.bi [0,1] [.box [.id,.id],.pure] (bI [2,3,8,30,31,32])]) (oi.bb (.dc eT (aU 1 .live a2 ag) (M0 dL) (aU 1 .live a2 dk)))))))))
  (fun bK =>
  .ret (bP (t1.append [.aY (aD 1 (aF (.call {ac:=[.bH (.ptr [.id,.id]),ii],r:= .b br,cX:=true,c4:=[0]}) (aD 2 (dE 5 (aF (.aw true) (aD 1 (dE 5 (aD 1 [])))))))),.aw true,(ak 2),.bi [] [] (bI [6,7])]) (a6.bb (.bF (ea bK) (ea bK) (ea bK) (ea bK) (ea bK) (ea bK) da da (.dc da da da da)))))))
  (fun o =>
  .ret (bP [(ak 1),.aw false,.bi [0,1] [.box [.id,.id],.pure] (bI [3,8])] (.ay o (aU 1 .live a2 ag))))
theorem Gg {dN:List Int}{eo:List (List Int)}{c2:Int}{az:List a9}{aB:List bu}{dX:Int}{ag:List Int}{r} (h:x8 dN eo c2 az aB dX ag=some r):e6 bz 79 0 6 [1,1,1,0,1,0,0] (Bn dN eo c2 az aB) (Bx dN eo c2 az aB) (dX,ag) r:=e7 (fun _=>Mn) h
def Bo (dN:List Int)(bO:Int)(eo:List (List Int))(c2:Int)(dW:List Int)(fs:Int)(az:List a9)(aB:List bu):Unit→S:=fun _=>er [(2,.isl 1 (dN.map R)),(3,.ref 0 0 0 0),(8,.dJ),(9,.n .i64 bO),(30,.isl 1 (eo.map (cl 1 R))),(31,.n .i64 c2),(32,.n .i64 bO),(54,.isl 1 (dW.map R)),(55,.n .i64 fs),(56,.n .i64 (0:Int))] [[ap.mk 2 [[.isl 4 (az.map cA),.isl 3 (aB.map dr)]] .live]]
def Bz (dN:List Int)(bO:Int)(eo:List (List Int))(c2:Int)(dW:List Int)(fs:Int)(az:List a9)(aB:List bu):Unit→ex
 | a=>⟨some 2,[(2,.isl 1 (dN.map R)),(3,.ref 0 0 0 0),(8,.dJ),(30,.isl 1 (eo.map (cl 1 R))),(31,.n .i64 c2),(32,.n .i64 bO)],[[ap.mk 2 [[.isl 4 (az.map cA),.isl 3 (aB.map dr)]] .live]]⟩
def Bp (dN:List Int)(bO:Int)(eo:List (List Int))(c2:Int)(dW:List Int)(fs:Int)(az:List a9)(aB:List bu):Option ((Unit)⊕(Unit)) :=
 if (decide ((0:Int)<fs))=true then
  if 0≤(0:Int)∧(0:Int)<dW.length then
  dW[0]? >>= fun a4 =>
  none
  else none
 else
  some (.inr ())
def Gy (dN:List Int)(bO:Int)(eo:List (List Int))(c2:Int)(dW:List Int)(fs:Int)(az:List a9)(aB:List bu):Option (Unit):=iter (fun w:Unit=>Bp dN bO eo c2 dW fs az aB) ()
theorem Mo {dN:List Int}{bO:Int}{eo:List (List Int)}{c2:Int}{dW:List Int}{fs:Int}{az:List a9}{aB:List bu}:b2 (Bp dN bO eo c2 dW fs az aB) (e5 bz 79 0 6 [1,1,1,0,1,0,0,1,1,0,0,1,1,1,0,0] (Bo dN bO eo c2 dW fs az aB ()) (Bo dN bO eo c2 dW fs az aB) (Bz dN bO eo c2 dW fs az aB)):=by
 unfold Bp
 exact .ite (fun o =>
  .bk fun J =>
  .aI fun a4 aO =>
  .EG)
  (fun o =>
  .ret (bP [(ak 1),.aw false,.bi [0] [.box [.id,.id]] (bI [2,3,8,30,31,32])] (.ar o)))
theorem M1 {dN:List Int}{bO:Int}{eo:List (List Int)}{c2:Int}{dW:List Int}{fs:Int}{az:List a9}{aB:List bu}{r} (h:Gy dN bO eo c2 dW fs az aB=some r):e6 bz 79 0 6 [1,1,1,0,1,0,0,1,1,0,0,1,1,1,0,0] (Bo dN bO eo c2 dW fs az aB) (Bz dN bO eo c2 dW fs az aB) () r:=e7 (fun _=>Mo) h
def Bq (dN:List Int)(eo:List (List Int))(c2:Int)(az:List a9)(aB:List bu):Int→S:=fun dX=>er [(2,.isl 1 (dN.map R)),(3,.ref 0 0 0 0),(8,.dJ),(30,.isl 1 (eo.map (cl 1 R))),(31,.n .i64 c2),(32,.n .i64 dX)] [[ap.mk 2 [[.isl 4 (az.map cA),.isl 3 (aB.map dr)]] .live]]
def BA (dN:List Int)(eo:List (List Int))(c2:Int)(az:List a9)(aB:List bu):((Unit)⊕(Unit))→ex
 | .inl a=>⟨some 0,[(3,.ref 0 0 0 0),(8,.dJ)],[[ap.mk 2 [[.isl 4 (az.map cA),.isl 3 (aB.map dr)]] .live]]⟩
 | .inr a=>⟨none,[(6,.dJ),(7,.b false)],[]⟩
def Br (dN:List Int)(eo:List (List Int))(c2:Int)(az:List a9)(aB:List bu)(dX:Int):Option ((Int)⊕((Unit)⊕(Unit))) :=
 if (decide (dX<c2))=true then
  if 0≤dX∧dX<eo.length then
  eo[dX.toNat]? >>= fun a4 =>
  om (⟨az,aB⟩:cQ) a4 >>= fun br =>
  if br=true then
   if 0≤dX∧dX<dN.length then
   dN[dX.toNat]? >>= fun fc =>
   if (decide (fc<(0:Int)))=true then
    some (.inr (.inr ()))
   else
    if (decide ((100:Int)<fc))=true then
     some (.inr (.inr ()))
    else
     Gy dN dX eo c2 a4 (len_ R a4) az aB >>= fun dk =>
     some (.inl (U (dX+(1:Int))))
   else none
  else
   some (.inr (.inr ()))
  else none
 else
  some (.inr (.inl ()))
def Gz (dN:List Int)(eo:List (List Int))(c2:Int)(az:List a9)(aB:List bu)(dX:Int):Option ((Unit)⊕(Unit)):=iter (fun w:Int=>Br dN eo c2 az aB w) dX
theorem Mp {dN:List Int}{eo:List (List Int)}{c2:Int}{az:List a9}{aB:List bu}{dX:Int}:b2 (Br dN eo c2 az aB dX) (e5 bz 79 0 6 [1,1,1,0,1,0,0] (Bq dN eo c2 az aB dX) (Bq dN eo c2 az aB) (BA dN eo c2 az aB)):=by
 unfold Br
 exact .ite (fun o =>
  .bk fun J =>
  .aI fun a4 aO =>
  .aI fun br bW =>
  (let t1:List cM:=[(ak 1),.aw true,.aY (b0 2 (.cy ((cl 1 R) a4)) 2)];
  have a6:=((.fm o J.1 (d1 (cl 1 R) J.2) (cr (cl 1 R) aO) (ly (nN (⟨az,aB⟩:cQ)):gL [[.isl 4 (az.map cA),.isl 3 (aB.map dr)]]) (ts br bW) (cx.b br)):cF _);
  .ite (fun bK =>
  .bk fun bG =>
  .aI fun fc dZ =>
  (have gO:=a6.bb (.bF (d3 bK) (d3 bK) (d3 bK) bG.1 (d1 R bG.2) (d3 bK) (cr R dZ) (d3 bK) (.ar (d3 bK)));
  .ite (fun dG =>
  .ret (bP (t1.append [.aY (aD 1 (aF (.call {ac:=[.bH (.ptr [.id,.id]),ii],r:= .b br,cX:=true,c4:=[0]}) (aD 5 (aF (.cy (R fc)) (aD 1 (aF (.aw false) (aD 1 (dE 5 (aF (.aw true) []))))))))),.aw true,(ak 2),.bi [] [] (bI [6,7])]) (gO.bb (.fm dG dG dG dG dG dG da))))
  (fun dG =>
  (let t4:List cM:=t1.append [.aY (aD 1 (aF (.call {ac:=[.bH (.ptr [.id,.id]),ii],r:= .b br,cX:=true,c4:=[0]}) (aD 5 (aF (.cy (R fc)) (aD 1 (aF (.aw false) (aD 4 (aF (.cy (R fc)) (aD 1 (aF (.aw false) []))))))))))];
  have oi:=gO.bb (.bF dG dG dG bG.1 (d1 R bG.2) dG (cr R dZ) dG (.ar dG));
  .ite (fun eT =>
  .ret (bP (t4.append [.aw true,(ak 2),.bi [] [] (bI [6,7])]) (oi.bb (.ar eT))))
  (fun eT =>
  .aI fun dk dL =>
  .ret (bP (t4.append [.aw false,(ak 3),.bi [0] [.box [.id,.id]] (bI [2,3,8,9,30,31,32,54,55,56]),(Bz dN dX eo c2 a4 (len_ R a4) az aB dk).fU,(ak 2),.bi [0] [.box [.id,.id]] (bI [2,3,8,30,31,32])]) (oi.bb (.ay eT (M1 dL)))))))))
  (fun bK =>
  .ret (bP (t1.append [.aY (aD 1 (aF (.call {ac:=[.bH (.ptr [.id,.id]),ii],r:= .b br,cX:=true,c4:=[0]}) (aD 2 (dE 5 (aF (.aw true) (aD 1 (dE 5 (aD 1 [])))))))),.aw true,(ak 2),.bi [] [] (bI [6,7])]) (a6.bb (.bF (ea bK) (ea bK) (ea bK) (ea bK) (ea bK) (ea bK) da da (.dc da da da da)))))))
  (fun o =>
  .ret (bP [(ak 1),.aw false,.bi [0] [.box [.id,.id]] (bI [3,8])] (.ar o)))
theorem Gh {dN:List Int}{eo:List (List Int)}{c2:Int}{az:List a9}{aB:List bu}{dX:Int}{r} (h:Gz dN eo c2 az aB dX=some r):e6 bz 79 0 6 [1,1,1,0,1,0,0] (Bq dN eo c2 az aB) (BA dN eo c2 az aB) dX r:=e7 (fun _=>Mp) h
def vn (aT:cQ)(f8:List (List Int))(dN:List Int):Option ((List Int)×Bool) :=
 if ((len_ (cl 1 R) f8) != (len_ R dN))=true then
  some (([]:List Int),false)
 else
  if (decide ((10:Int)<(len_ (cl 1 R) f8)))=true then
   some (([]:List Int),false)
  else
   pw aT >>= fun bh =>
   if bh=true then
    vm aT >>= fun cj =>
    match cj with
    | .inl kH=>(x8 dN f8 (len_ (cl 1 R) f8) aT.cc aT.cK 0 kH >>= fun bA =>
     match bA with
     | .inl jL=>(om aT jL >>= fun fz =>
      if fz=true then
       some (jL,true)
      else
       some (([]:List Int),false))
     | .inr jL=>(some (([]:List Int),false)))
    | .inr kH=>(Gz dN f8 (len_ (cl 1 R) f8) aT.cc aT.cK 0 >>= fun bA =>
     match bA with
     | .inl jL=>(om aT ([]:List Int) >>= fun fz =>
      if fz=true then
       some (([]:List Int),true)
      else
       some (([]:List Int),false))
     | .inr jL=>(some (([]:List Int),false)))
   else
    some (([]:List Int),false)
theorem Nv {aT:cQ}{f8:List (List Int)}{dN:List Int}:b2 (vn aT f8 dN) (fun r=>Con bz 6 [.agg (gn aT),.isl 1 (f8.map (cl 1 R)),.isl 1 (dN.map R)] [] (.dx [.isl 1 (r.1.map R),.b r.2]) []):=by
 unfold vn
 exact .ite (fun o =>
  .ret (cn [(ak 3),.aY (aD 6 (dE 3 (aF (.aw true) (aD 1 (dE 3 (aD 1 [])))))),.aw true,(ak 2)] (.ja o o o o da da da da) (.comp [.c6 (.lU 1),.c6 .id])))
  (fun o =>
  .ite (fun J =>
  .ret (cn [(ak 3),.aY (aD 9 (aF (.aw false) (aD 1 (dE 3 (aF (.aw true) []))))),.aw true,(ak 2)] (.bF o o o o J J J J (.ar da)) (.comp [.c6 (.lU 1),.c6 .id])))
  (fun J =>
  .aI fun bh aO =>
  (let t1:List cM:=[(ak 3),.aY (aD 9 (aF (.aw false) (aD 2 (aF (cT 1 (.b bh) true) (aD 1 (aF (.aw false) []))))))];
  have a6:=((.bF o o o o J J (xX bh aO) (cx.b bh) (.ay J J)):cF _);
  .ite (fun aM =>
  .aI fun cj bK =>
  (by
  rcases cj with kH|kH
  ·exact (.aI fun bA dZ =>
  (let t3:List cM:=t1.append [.aw false,.aY (b0 1 (.call {aA:=[],b7:=[],ac:=[ii],r:= .bp 0 0 0 kH.length,cY:=[(aH 1 R kH)],ec:=ii,eL:=[.pure],c4:=[],cX:=true}) 1),(ak 3),.bi [0,19] [.box [.id,.id],.pure] (bI [2,3,8,30,31,32])];
  have fN:=a6.bb (.eW (d3 aM) (i1 1 a2 kH) (Gx (.inl kH) bK) (cx.bp 0 0 0 kH.length) ((Dj (Dk (y5 DR) Dt) Ds):qN [(aH 1 R kH)]) (aU 1 .live a2 kH));
  (by
  rcases bA with jL|jL
  ·exact (.aI fun fz eM =>
  (let t5:List cM:=t3.append [(Bx dN f8 (len_ (cl 1 R) f8) aT.cc aT.cK (.inl jL)).fU,.aY (b0 1 (.call {ac:=[.bH (.ptr [.id,.id]),.bH (.c6 (.eZ (jL.map R)))],r:= .b fz,cX:=true,c4:=[0,1]}) 1)];
  have kl:=fN.bb (.fm (Gg dZ) (ly (nN aT):gL [(gn aT)]) (iM R jL) (ib R jL) (eu a2 jL) (ts fz eM) (cx.b fz));
  .ite (fun dL =>
  .ret (cn (t5.append [.aw false,(ak 3)]) (kl.bb (.dc (d3 dL) (iM R jL) (ib R jL) (eu a2 jL))) (.comp [.c6 (.eZ (jL.map R)),.c6 .id])))
  (fun dL =>
  .ret (cn (t5.append [.aw true,(ak 2)]) (kl.bb (.ar (ea dL))) (.comp [.c6 (.lU 1),.c6 .id])))))
  ·exact (.ret (cn (t3.append [.sub (.ret) [(6,.dJ),(7,.b false)] []]) (fN.bb (.ar (Gg dZ))) (.comp [.c6 (.lU 1),.c6 .id]))))))
  ·exact (.aI fun bA dZ =>
  (let t3:List cM:=t1.append [.aw false,.aY (b0 1 (.call {aA:=[],b7:=[],ac:=[ii],r:= .dJ,cY:=[],ec:=ii,eL:=[],c4:=[],cX:=true}) 1),(ak 3),.bi [0] [.box [.id,.id]] (bI [2,3,8,30,31,32])];
  have fN:=a6.bb (.bR (d3 aM) (Gx (.inr kH) bK) cx.dJ);
  (by
  rcases bA with jL|jL
  ·exact (.aI fun fz eM =>
  (let t5:List cM:=t3.append [(BA dN f8 (len_ (cl 1 R) f8) aT.cc aT.cK (.inl jL)).fU,.aY (b0 1 (.call {ac:=[.bH (.ptr [.id,.id]),.bH (.c6 (.lU 1))],r:= .b fz,cX:=true,c4:=[0]}) 1)];
  have kl:=fN.bb (.dc (Gh dZ) (ly (nN aT):gL [(gn aT)]) (ts fz eM) (cx.b fz));
  .ite (fun dL =>
  .ret (cn (t5.append [.aw false,(ak 3)]) (kl.bb (.ar (d3 dL))) (.comp [.c6 (.lU 1),.c6 .id])))
  (fun dL =>
  .ret (cn (t5.append [.aw true,(ak 2)]) (kl.bb (.ar (ea dL))) (.comp [.c6 (.lU 1),.c6 .id])))))
  ·exact (.ret (cn (t3.append [.sub (.ret) [(6,.dJ),(7,.b false)] []]) (fN.bb (.ar (Gh dZ))) (.comp [.c6 (.lU 1),.c6 .id]))))))))
  (fun aM =>
  .ret (cn (t1.append [.aw true,(ak 2)]) (a6.bb (.ar (ea aM))) (.comp [.c6 (.lU 1),.c6 .id]))))))
def BB (c7:List a9)(cL:List bu)(fe:List (List Int))(mC:Int):Int→S:=fun h7=>er [(0,.dg 2 [[.isl 4 (c7.map cA),.isl 3 (cL.map dr)]] 0 0),(22,.isl 1 (fe.map (cl 1 R))),(23,.n .i64 mC),(24,.n .i64 h7)] []
def Gi (c7:List a9)(cL:List bu)(fe:List (List Int))(mC:Int):((Unit)⊕(Unit))→ex
 | .inl a=>⟨some 0,[],[]⟩
 | .inr a=>⟨none,[(4,.b false)],[]⟩
def ta (c7:List a9)(cL:List bu)(fe:List (List Int))(mC h7:Int):Option ((Int)⊕((Unit)⊕(Unit))) :=
 if (decide (h7<mC))=true then
  if 0≤h7∧h7<fe.length then
  fe[h7.toNat]? >>= fun a4 =>
  om (⟨c7,cL⟩:cQ) a4 >>= fun br =>
  if br=true then
   some (.inl (U (h7+(1:Int))))
  else
   some (.inr (.inr ()))
  else none
 else
  some (.inr (.inl ()))
def Cu (c7:List a9)(cL:List bu)(fe:List (List Int))(mC h7:Int):Option ((Unit)⊕(Unit)):=iter (fun w:Int=>ta c7 cL fe mC w) h7
theorem Mr {c7:List a9}{cL:List bu}{fe:List (List Int)}{mC h7:Int}:b2 (ta c7 cL fe mC h7) (e5 bz 33 0 20 [1,1,0,1,0,0] (BB c7 cL fe mC h7) (BB c7 cL fe mC) (Gi c7 cL fe mC)):=by
 unfold ta
 exact .ite (fun o =>
  .bk fun J =>
  .aI fun a4 aO =>
  .aI fun br bW =>
  (let t1:List cM:=[(ak 1),.aw true,.aY (b0 1 (.cy ((cl 1 R) a4)) 1),.aY (b0 2 (cT 2 (.b br) true) 1)];
  have a6:=((.eW o J.1 (d1 (cl 1 R) J.2) (cr (cl 1 R) aO) (ts br bW) (cx.b br)):cF _);
  .ite (fun bK =>
  .ret (bP (t1.append [.aw false,(ak 2),.bi [] [] (bI [0,22,23,24])]) (a6.bb (.ar (d3 bK)))))
  (fun bK =>
  .ret (bP (t1.append [.aw true,(ak 1),.bi [] [] (bI [4])]) (a6.bb (.ar (ea bK)))))))
  (fun o =>
  .ret (bP [(ak 1),.aw false,.bi [] [] []] (.ar o)))
theorem Gm {c7:List a9}{cL:List bu}{fe:List (List Int)}{mC h7:Int}{r} (h:Cu c7 cL fe mC h7=some r):e6 bz 33 0 20 [1,1,0,1,0,0] (BB c7 cL fe mC) (Gi c7 cL fe mC) h7 r:=e7 (fun _=>Mr) h
def rq (aT:cQ)(f8:List (List Int)):Option Bool :=
 if (decide ((len_ (cl 1 R) f8)<(1:Int)))=true then
  some false
 else
  if (decide ((6:Int)<(len_ (cl 1 R) f8)))=true then
   some false
  else
   pw aT >>= fun bh =>
   if bh=true then
    Cu aT.cc aT.cK f8 (len_ (cl 1 R) f8) 0 >>= fun cj =>
    match cj with
    | .inl kH=>(some true)
    | .inr kH=>(some false)
   else
    some false
theorem Cv {aT:cQ}{f8:List (List Int)}:b2 (rq aT f8) (fun r=>Con bz 20 [.dg 2 [(gn aT)] 0 0,.isl 1 (f8.map (cl 1 R))] [] (.b r) []):=by
 unfold rq
 exact .ite (fun o =>
  .ret (cn [(ak 1),.aY (aD 4 (dE 3 (aF (.aw true) (aD 1 (dE 5 (aD 1 [])))))),.aw true,(ak 1)] (.bF o o o o da da da da (.ay da da))))
  (fun o =>
  .ite (fun J =>
  .ret (cn [(ak 1),.aY (aD 7 (aF (.aw false) (aD 1 (dE 5 (aF (.aw true) []))))),.aw true,(ak 1)] (.bF o o o o J J J J (.bR J J da))))
  (fun J =>
  .aI fun bh aO =>
  (let t1:List cM:=[(ak 1),.aY (aD 7 (aF (.aw false) (aD 4 (aF (cT 1 (.b bh) true) (aD 1 (aF (.aw false) []))))))];
  have a6:=((.bF o o o o J J J J (.dc (xX bh aO) (cx.b bh) J J)):cF _);
  .ite (fun aM =>
  .aI fun cj bK =>
  (let t3:List cM:=t1.append [.aw false,(ak 3),.bi [] [] (bI [0,22,23,24])];
  (by
  rcases cj with kH|kH
  ·exact (.ret (cn (t3.append [.sub (.exit 0) [] [],(ak 1)]) (a6.bb (.ay (d3 aM) (Gm bK)))))
  ·exact (.ret (cn (t3.append [.sub (.ret) [(4,.b false)] []]) (a6.bb (.ay (d3 aM) (Gm bK))))))))
  (fun aM =>
  .ret (cn (t1.append [.aw true,(ak 1)]) (a6.bb (.ar (ea aM))))))))
def AB (eC:List a9)(ff:Int):(Int×(List Int))→S:=fun (eG,aq)=>er [(3,.bp 0 0 0 aq.length),(9,.isl 4 (eC.map cA)),(10,.n .i64 ff),(11,.n .i64 eG)] [(aH 1 R aq)]
def F1 (eC:List a9)(ff:Int):(List Int)→ex
 | a=>⟨some 0,[(3,.bp 0 0 0 a.length)],[(aH 1 R a)]⟩
def u6 (eC:List a9)(ff eG:Int)(aq:List Int):Option ((Int×(List Int))⊕((List Int))) :=
 if (decide (eG<ff))=true then
  if 0≤eG∧eG<eC.length then
  eC[eG.toNat]? >>= fun a4 =>
  if a4.l4=true then
   some (.inl (U (eG+(1:Int)),aq))
  else
   if (aq++([eG]:List Int)).length*8≤140737488355328 then
   some (.inl (U (eG+(1:Int)),aq++([eG]:List Int)))
   else none
  else none
 else
  some (.inr aq)
def AR (eC:List a9)(ff eG:Int)(aq:List Int):Option ((List Int)):=iter (fun w:Int×(List Int)=>u6 eC ff w.1 w.2) (eG,aq)
theorem LC {eC:List a9}{ff eG:Int}{aq:List Int}:b2 (u6 eC ff eG aq) (e5 bz 25 0 47 [1,1,0,1,0,0] (AB eC ff (eG,aq)) (AB eC ff) (F1 eC ff)):=by
 unfold u6
 exact .ite (fun o =>
  .bk fun J =>
  .aI fun a4 aO =>
  (let t1:List cM:=[(ak 1),.aw true,.aY (b0 2 (.cy (cA a4)) 3),(ak 3)];
  have a6:=((.dc o J.1 (d1 cA J.2) (cr cA aO)):cF _);
  .ite (fun aM =>
  .ret (bP (t1.append [.aw false,(ak 2),.bi [0] [.pure] (bI [3,9,10,11])]) (a6.bb (.ay (d3 aM) (aU 1 .live a2 aq)))))
  (fun aM =>
  .bk fun bW =>
  .ret (let aZ:=(aq++([eG]:List Int));bP (t1.append [.aw true,.aY (b0 3 (.bb (aZ.length)) 1),(ak 2),.bi [14] [.dH (aH 1 R aZ)] (bI [3,9,10,11])]) (a6.bb (.fm (ea aM) (mo R eG) (oW R aq) (nk R aq eG) bW (ey 1 .live (oX R aq eG)) (aU 1 .live a2 aZ)))))))
  (fun o =>
  .ret (bP [(ak 1),.aw false,.bi [0] [.pure] (bI [3])] (.ay o (aU 1 .live a2 aq))))
theorem LR {eC:List a9}{ff eG:Int}{aq:List Int}{r} (h:AR eC ff eG aq=some r):e6 bz 25 0 47 [1,1,0,1,0,0] (AB eC ff) (F1 eC ff) (eG,aq) r:=e7 (fun _=>LC) h
def sZ (aT:cQ):Option (List Int) :=
 AR aT.cc (len_ cA aT.cc) 0 ([]:List Int) >>= fun ax =>
 some ax
theorem F6 {aT:cQ}:b2 (sZ aT) (fun r=>Con bz 47 [.dg 2 [(gn aT)] 0 0] [] (.isl 1 (r.map R)) []):=by
 unfold sZ
 exact .aI fun ax J =>
  .ret (cn [(ak 1),(ak 1),(ak 6),.qE 3 1,.bi [8] [.dH (aH 1 R ([]:List Int))] [(3,hf (([]:List Int).length)),(9,ii),(10,ii),(11,ii)],.sub (.exit 0) [(3,.bp 0 0 0 ax.length)] [(aH 1 R ax)],(ak 2)] (.fm (ey 1 .live (p9 R)) (aU 1 .live a2 ([]:List Int)) (mn Int) (LR J) (iM R ax) (ib R ax) (eu a2 ax)) (.bH (.c6 (.eZ (ax.map R)))))
def rf (aT:cQ)(bO:Int):Option (Int×Int) :=
 if 0≤bO∧bO<aT.cK.length then
 aT.cK[bO.toNat]? >>= fun ek =>
 if 0≤ek.fH∧ek.fH<aT.cc.length then
 aT.cc[ek.fH.toNat]? >>= fun k3 =>
 if 0≤ek.e1∧ek.e1<aT.cc.length then
 aT.cc[ek.e1.toNat]? >>= fun mm =>
 some (U (k3.kF-mm.kF),U (k3.kG-mm.kG))
 else none
 else none
 else none
theorem Mq {aT:cQ}{bO:Int}:b2 (rf aT bO) (fun r=>Con bz 56 [.dg 2 [(gn aT)] 0 0,.n .i64 bO] [] (.dx [.n .i64 r.1,.n .i64 r.2]) []):=by
 unfold rf
 exact .bk fun o =>
  .aI fun ek ao =>
  .bk fun aO =>
  .aI fun k3 bW =>
  .bk fun bK =>
  .aI fun mm d8 =>
  .ret (cn [(ak 2),.aY (b0 6 (.cy (dr ek)) 2),.aY (aD 8 (aF (.cy (cA k3)) (aD 8 (aF (.cy (cA mm)) (aD 9 (aF (.cy (cA k3)) (b0 8 (.cy (cA mm)) 3)))))))] (.bF o.1 (d1 dr o.2) (cr dr ao) aO.1 (d1 cA aO.2) (cr cA bW) bK.1 (d1 cA bK.2) (.fm (cr cA d8) aO.1 (d1 cA aO.2) (cr cA bW) bK.1 (d1 cA bK.2) (cr cA d8))))
def Av (c7:List a9)(cL:List bu)(di:Int)(ct:List Int)(b3 fC cD:Int)(aq:List (List Int)):(Int×(List Int)×(List Int))→S:=fun (fk,ag,a7)=>er [(0,.dg 2 [[.isl 4 (c7.map cA),.isl 3 (cL.map dr)]] 0 0),(3,.bp 0 0 0 aq.length),(5,.n .i64 di),(6,.bp 1 0 0 ag.length),(7,.bp 2 0 0 a7.length),(13,.isl 1 (ct.map R)),(14,.n .i64 b3),(15,.n .i64 fC),(34,.isl 3 (cL.map dr)),(35,.n .i64 cD),(36,.n .i64 fk)] [(aH 1 (cl 1 R) aq),(aH 1 R ag),(aH 1 R a7)]
def AD (c7:List a9)(cL:List bu)(di:Int)(ct:List Int)(b3 fC cD:Int)(aq:List (List Int)):((List Int)×(List Int))→ex
 | a=>⟨some 2,[(0,.dg 2 [[.isl 4 (c7.map cA),.isl 3 (cL.map dr)]] 0 0),(3,.bp 0 0 0 aq.length),(6,.bp 1 0 0 a.1.length),(7,.bp 2 0 0 a.2.length),(13,.isl 1 (ct.map R)),(14,.n .i64 b3),(15,.n .i64 fC)],[(aH 1 (cl 1 R) aq),(aH 1 R a.1),(aH 1 R a.2)]⟩
def sN (c7:List a9)(cL:List bu)(di:Int)(ct:List Int)(b3 fC cD:Int)(aq:List (List Int))(fk:Int)(ag a7:List Int):Option ((Int×(List Int)×(List Int))⊕((List Int)×(List Int))) :=
 if (decide (fk<cD))=true then
  if 0≤fk∧fk<cL.length then
  cL[fk.toNat]? >>= fun a4 =>
  rf (⟨c7,cL⟩:cQ) fk >>= fun br =>
  if (di == a4.e1)=true then
   if 0≤fk∧fk<(ag.length:Nat) then
   if (0+fk.toNat)<ag.length then
   if 0≤fk∧fk<(a7.length:Nat) then
   if (0+fk.toNat)<a7.length then
   some (.inl (U (fk+(1:Int)),ag.set (0+fk.toNat) br.1,a7.set (0+fk.toNat) br.2))
   else none
   else none
   else none
   else none
  else
   if (di == a4.fH)=true then
    if 0≤fk∧fk<(ag.length:Nat) then
    if (0+fk.toNat)<ag.length then
    if 0≤fk∧fk<(a7.length:Nat) then
    if (0+fk.toNat)<a7.length then
    some (.inl (U (fk+(1:Int)),ag.set (0+fk.toNat) (U (0-br.1)),a7.set (0+fk.toNat) (U (0-br.2))))
    else none
    else none
    else none
    else none
   else
    some (.inl (U (fk+(1:Int)),ag,a7))
  else none
 else
  some (.inr (ag,a7))
def xN (c7:List a9)(cL:List bu)(di:Int)(ct:List Int)(b3 fC cD:Int)(aq:List (List Int))(fk:Int)(ag a7:List Int):Option ((List Int)×(List Int)):=iter (fun w:Int×(List Int)×(List Int)=>sN c7 cL di ct b3 fC cD aq w.1 w.2.1 w.2.2) (fk,ag,a7)
theorem Lz {c7:List a9}{cL:List bu}{di:Int}{ct:List Int}{b3 fC cD:Int}{aq:List (List Int)}{fk:Int}{ag a7:List Int}:b2 (sN c7 cL di ct b3 fC cD aq fk ag a7) (e5 bz 82 0 45 [1,1,0,1,0,0,1,1,0,0,1,1,0,1,0,0] (Av c7 cL di ct b3 fC cD aq (fk,ag,a7)) (Av c7 cL di ct b3 fC cD aq) (AD c7 cL di ct b3 fC cD aq)):=by
 unfold sN
 exact .ite (fun o =>
  .bk fun J =>
  .aI fun a4 aO =>
  .aI fun br bW =>
  (let t1:List cM:=[(ak 1),.aw true,.aY (b0 2 (.cy (dr a4)) 3),.aY (b0 2 (cT 2 (.dx [.n .i64 br.1,.n .i64 br.2]) true) 5),(ak 1),(ak 4)];
  have a6:=((.eW o J.1 (d1 dr J.2) (cr dr aO) (Mq br bW) (Ri (IE (cx.n .i64 br.1) (IE (cx.n .i64 br.2) Rh)))):cF _);
  .ite (fun bK =>
  .bk fun bG =>
  .bk fun d8 =>
  .bk fun dZ =>
  .bk fun dG =>
  .ret (bP (t1.append [.aw true,.aY (aD 7 (aF .eV (aD 1 (aF .eV [])))),(ak 2),.bi [0,1,2] [.pure,.dH (aH 1 R (ag.set (0+fk.toNat) br.1)),.dH (aH 1 R (a7.set (0+fk.toNat) br.2))] [(0,ii),(3,ii),(5,ii),(6,hf ((ag.set (0+fk.toNat) br.1).length)),(7,hf ((a7.set (0+fk.toNat) br.2).length)),(13,ii),(14,ii),(15,ii),(34,ii),(35,ii),(36,ii)]]) (a6.bb (.bF bK bG.1 bG.2 (hJ R d8) (hl 1) dZ.1 dZ.2 (hJ R dG) (.ja (hl 1) (aU 1 .live (lC (sz:=1) a2) aq) (ey 1 .live (f7 (dQ R ag) (0+fk.toNat) br.1)) (aU 1 .live a2 (ag.set (0+fk.toNat) br.1)) (ey 1 .live (f7 (dQ R a7) (0+fk.toNat) br.2)) (aU 1 .live a2 (a7.set (0+fk.toNat) br.2)) (hL (fo ag) (0+fk.toNat) br.1) (hL (fo a7) (0+fk.toNat) br.2))))))
  (fun bK =>
  .ite (fun bG =>
  .bk fun d8 =>
  .bk fun dZ =>
  .bk fun dG =>
  .bk fun eT =>
  .ret (let aZ:=U (0-br.1);let bg:=U (0-br.2);bP (t1.append [.aw false,(ak 4),.aw true,.aY (aD 9 (aF .eV (aD 1 (aF .eV [])))),(ak 2),.bi [0,1,2] [.pure,.dH (aH 1 R (ag.set (0+fk.toNat) aZ)),.dH (aH 1 R (a7.set (0+fk.toNat) bg))] [(0,ii),(3,ii),(5,ii),(6,hf ((ag.set (0+fk.toNat) aZ).length)),(7,hf ((a7.set (0+fk.toNat) bg).length)),(13,ii),(14,ii),(15,ii),(34,ii),(35,ii),(36,ii)]]) (a6.bb (.bF bK bG d8.1 d8.2 (hJ R dZ) (hl 1) dG.1 dG.2 (.bF (hJ R eT) (hl 1) (aU 1 .live (lC (sz:=1) a2) aq) (ey 1 .live (f7 (dQ R ag) (0+fk.toNat) aZ)) (aU 1 .live a2 (ag.set (0+fk.toNat) aZ)) (ey 1 .live (f7 (dQ R a7) (0+fk.toNat) bg)) (aU 1 .live a2 (a7.set (0+fk.toNat) bg)) (hL (fo ag) (0+fk.toNat) aZ) (.ar (hL (fo a7) (0+fk.toNat) bg)))))))
  (fun bG =>
  .ret (bP (t1.append [.aw false,(ak 4),.aw false,(ak 2),.bi [0,1,2] [.pure,.pure,.pure] (bI [0,3,5,6,7,13,14,15,34,35,36])]) (a6.bb (.ed bK bG (aU 1 .live (lC (sz:=1) a2) aq) (aU 1 .live a2 ag) (aU 1 .live a2 a7))))))))
  (fun o =>
  .ret (bP [(ak 1),.aw false,.bi [0,1,2] [.pure,.pure,.pure] (bI [0,3,6,7,13,14,15])] (.dc o (aU 1 .live (lC (sz:=1) a2) aq) (aU 1 .live a2 ag) (aU 1 .live a2 a7))))
theorem LP {c7:List a9}{cL:List bu}{di:Int}{ct:List Int}{b3 fC cD:Int}{aq:List (List Int)}{fk:Int}{ag a7:List Int}{r} (h:xN c7 cL di ct b3 fC cD aq fk ag a7=some r):e6 bz 82 0 45 [1,1,0,1,0,0,1,1,0,0,1,1,0,1,0,0] (Av c7 cL di ct b3 fC cD aq) (AD c7 cL di ct b3 fC cD aq) (fk,ag,a7) r:=e7 (fun _=>Lz) h
def Aw (c7:List a9)(cL:List bu)(ct:List Int)(b3:Int):(Int×(List (List Int)))→S:=fun (fC,aq)=>er [(0,.dg 2 [[.isl 4 (c7.map cA),.isl 3 (cL.map dr)]] 0 0),(3,.bp 0 0 0 aq.length),(13,.isl 1 (ct.map R)),(14,.n .i64 b3),(15,.n .i64 fC)] [(aH 1 (cl 1 R) aq)]
def F0 (c7:List a9)(cL:List bu)(ct:List Int)(b3:Int):(List (List Int))→ex
 | a=>⟨some 0,[(3,.bp 0 0 0 a.length)],[(aH 1 (cl 1 R) a)]⟩
def sO (c7:List a9)(cL:List bu)(ct:List Int)(b3 fC:Int)(aq:List (List Int)):Option ((Int×(List (List Int)))⊕((List (List Int)))) :=
 if (decide (fC<b3))=true then
  if 0≤fC∧fC<ct.length then
  ct[fC.toNat]? >>= fun a4 =>
  if 0≤(len_ dr cL)∧(8:Int)*(len_ dr cL)≤281474976710656∧(len_ dr cL)<9223372036854775808 then
  xN c7 cL a4 ct b3 fC (len_ dr cL) aq 0 (List.replicate (len_ dr cL).toNat 0:List Int) (List.replicate (len_ dr cL).toNat 0:List Int) >>= fun cj =>
  if (aq++([cj.1,cj.2]:List (List Int))).length*24≤140737488355328 then
  some (.inl (U (fC+(1:Int)),aq++([cj.1,cj.2]:List (List Int))))
  else none
  else none
  else none
 else
  some (.inr aq)
def AQ (c7:List a9)(cL:List bu)(ct:List Int)(b3 fC:Int)(aq:List (List Int)):Option ((List (List Int))):=iter (fun w:Int×(List (List Int))=>sO c7 cL ct b3 w.1 w.2) (fC,aq)
theorem LA {c7:List a9}{cL:List bu}{ct:List Int}{b3 fC:Int}{aq:List (List Int)}:b2 (sO c7 cL ct b3 fC aq) (e5 bz 82 0 45 [1,1,0,1,0,0] (Aw c7 cL ct b3 (fC,aq)) (Aw c7 cL ct b3) (F0 c7 cL ct b3)):=by
 unfold sO
 exact .ite (fun o =>
  .bk fun J =>
  .aI fun a4 aO =>
  .bk fun aM =>
  .aI fun cj bK =>
  .bk fun bG =>
  .ret (let bg:=(aq++([cj.1,cj.2]:List (List Int)));let ck:=len_ dr cL;let aZ:=(List.replicate ck.toNat 0:List Int);let cS:=lC (sz:=1) a2;let eB:=ey 1 .live (lB R ck.toNat 0);bP [(ak 1),.aw true,.aY (b0 1 (.cy (R a4)) 1),(ak 14),(ak 6),.bi [0,10,16] [.pure,.dH (aH 1 R aZ),.dH (aH 1 R aZ)] [(0,ii),(3,ii),(5,ii),(6,hf (aZ.length)),(7,hf (aZ.length)),(13,ii),(14,ii),(15,ii),(34,ii),(35,ii),(36,ii)],(AD c7 cL a4 ct b3 fC ck aq cj).fU,.bi [0] [.pure] [(0,ii),(3,ii),(6,.bH (.c6 (.eZ (cj.1.map R)))),(7,.bH (.c6 (.eZ (cj.2.map R)))),(13,ii),(14,ii),(15,ii)],.aY (b0 4 (.bb (bg.length)) 1),(ak 2),.bi [5] [.dH (aH 1 (cl 1 R) bg)] (bI [0,3,13,14,15])] (.bF o J.1 (d1 R J.2) (cr R aO) aM.1 (Int.le_refl ck) aM.2.1 aM.2.2 (.bF aM.1 (Int.le_refl ck) aM.2.1 aM.2.2 (aU 1 .live cS aq) eB (aU 1 .live a2 aZ) eB (.bF (aU 1 .live a2 aZ) (l2 ck.toNat (0:Int)) (l2 ck.toNat (0:Int)) (LP bK) (aU 1 .live cS aq) (iM R cj.1) (ib R cj.1) (eu a2 cj.1) (.bF (iM R cj.2) (ib R cj.2) (eu a2 cj.2) (kI (show [[.isl 1 (cj.1.map R)],[.isl 1 (cj.2.map R)]]=(([cj.1,cj.2]:List (List Int))).map (cl 1 R) from rfl) (show 2=([cj.1,cj.2]:List (List Int)).length from rfl)) (oW (cl 1 R) aq) (tX (fo aq) (DE (show [[.isl 1 (cj.1.map R)],[.isl 1 (cj.2.map R)]]=(([cj.1,cj.2]:List (List Int))).map (cl 1 R) from rfl) (show 2=([cj.1,cj.2]:List (List Int)).length from rfl)):bg.length=aq.length+(([[.isl 1 (cj.1.map R)],[.isl 1 (cj.2.map R)]].drop 0).take 2).length) bG (ey 1 .live (ow (dQ (cl 1 R) aq) (fo aq) (DE (show [[.isl 1 (cj.1.map R)],[.isl 1 (cj.2.map R)]]=(([cj.1,cj.2]:List (List Int))).map (cl 1 R) from rfl) (show 2=([cj.1,cj.2]:List (List Int)).length from rfl)))) (.ar (aU 1 .live cS bg))))))))
  (fun o =>
  .ret (bP [(ak 1),.aw false,.bi [0] [.pure] (bI [3])] (.ay o (aU 1 .live (lC (sz:=1) a2) aq))))
theorem LQ {c7:List a9}{cL:List bu}{ct:List Int}{b3 fC:Int}{aq:List (List Int)}{r} (h:AQ c7 cL ct b3 fC aq=some r):e6 bz 82 0 45 [1,1,0,1,0,0] (Aw c7 cL ct b3) (F0 c7 cL ct b3) (fC,aq) r:=e7 (fun _=>LA) h
def va (aT:cQ):Option (List (List Int)) :=
 sZ aT >>= fun ax =>
 AQ aT.cc aT.cK ax (len_ R ax) 0 ([]:List (List Int)) >>= fun bh =>
 some bh
theorem L2 {aT:cQ}:b2 (va aT) (fun r=>Con bz 45 [.dg 2 [(gn aT)] 0 0] [] (.isl 1 (r.map (cl 1 R))) []):=by
 unfold va
 exact .aI fun ax J =>
  .aI fun bh aO =>
  .ret (cn [(ak 1),(ak 1),.aY (b0 1 (cT 1 (.isl 1 (ax.map R)) false) 2),.qE 3 1,.bi [6] [.dH (aH 1 (cl 1 R) ([]:List (List Int)))] [(0,ii),(3,hf (([]:List (List Int)).length)),(13,ii),(14,ii),(15,ii)],.sub (.exit 0) [(3,.bp 0 0 0 bh.length)] [(aH 1 (cl 1 R) bh)],(ak 2)] (.ja (F6 ax J) (ey 1 .live (p9 (cl 1 R))) (aU 1 .live (lC (sz:=1) a2) ([]:List (List Int))) (mn (List Int)) (LQ aO) (iM (cl 1 R) bh) (ib (cl 1 R) bh) (eu (lC (sz:=1) a2) bh)) (.bH (.c6 (.eZ (bh.map (cl 1 R))))))
def AK (eC:List bu)(ff:Int):(Int×(List eh))→S:=fun (eG,aq)=>er [(3,.bp 0 0 0 aq.length),(9,.isl 3 (eC.map dr)),(10,.n .i64 ff),(11,.n .i64 eG)] [(aH 2 fi aq)]
def F2 (eC:List bu)(ff:Int):(List eh)→ex
 | a=>⟨some 0,[(3,.bp 0 0 0 a.length)],[(aH 2 fi a)]⟩
def sR (eC:List bu)(ff eG:Int)(aq:List eh):Option ((Int×(List eh))⊕((List eh))) :=
 if (decide (eG<ff))=true then
  if 0≤eG∧eG<eC.length then
  eC[eG.toNat]? >>= fun a4 =>
  if (a4.l7 != (2:Int))=true then
   if (aq++([(⟨eG,1⟩:eh)]:List eh)).length*16≤140737488355328 then
   if (a4.l7 != (1:Int))=true then
    if ((aq++([(⟨eG,1⟩:eh)]:List eh))++([(⟨eG,(-1)⟩:eh)]:List eh)).length*16≤140737488355328 then
    some (.inl (U (eG+(1:Int)),(aq++([(⟨eG,1⟩:eh)]:List eh))++([(⟨eG,(-1)⟩:eh)]:List eh)))
    else none
   else
    some (.inl (U (eG+(1:Int)),aq++([(⟨eG,1⟩:eh)]:List eh)))
   else none
  else
   if (a4.l7 != (1:Int))=true then
    if (aq++([(⟨eG,(-1)⟩:eh)]:List eh)).length*16≤140737488355328 then
    some (.inl (U (eG+(1:Int)),aq++([(⟨eG,(-1)⟩:eh)]:List eh)))
    else none
   else
    some (.inl (U (eG+(1:Int)),aq))
  else none
 else
  some (.inr aq)
def A6 (eC:List bu)(ff eG:Int)(aq:List eh):Option ((List eh)):=iter (fun w:Int×(List eh)=>sR eC ff w.1 w.2) (eG,aq)
theorem LJ {eC:List bu}{ff eG:Int}{aq:List eh}:b2 (sR eC ff eG aq) (e5 bz 34 0 46 [1,1,0,1,0,0] (AK eC ff (eG,aq)) (AK eC ff) (F2 eC ff)):=by
 unfold sR
 exact .ite (fun o =>
  .bk fun J =>
  .aI fun a4 aO =>
  (let t1:List cM:=[(ak 1),.aw true,.aY (b0 2 (.cy (dr a4)) 3),(ak 3)];
  have a6:=((.dc o J.1 (d1 dr J.2) (cr dr aO)):cF _);
  .ite (fun aM =>
  .bk fun bW =>
  (let t3:List cM:=t1.append [.aw true,.aY (b0 4 (.bb ((aq++([(⟨eG,1⟩:eh)]:List eh)).length)) 1),(ak 3)];
  have fN:=a6.bb (.ed aM (mo fi (⟨eG,1⟩:eh)) (oW fi aq) (nk fi aq (⟨eG,1⟩:eh)) bW);
  .ite (fun bK =>
  .bk fun bG =>
  .ret (let aZ:=(aq++([(⟨eG,1⟩:eh)]:List eh));let bg:=(aZ++([(⟨eG,(-1)⟩:eh)]:List eh));let ck:=(oX fi aq (⟨eG,1⟩:eh));bP (t3.append [.aw true,.aY (b0 4 (.bb (bg.length)) 1),(ak 2),.bi [24] [.dH (aH 2 fi bg)] (bI [3,9,10,11])]) (fN.bb (.fm bK (mo fi (⟨eG,(-1)⟩:eh)) (tW ck (fo aZ)) (nk fi aZ (⟨eG,(-1)⟩:eh)) bG (ey 2 .live (ow ck (fo aZ) (sA fi (⟨eG,(-1)⟩:eh)))) (aU 2 .live rl bg)))))
  (fun bK =>
  .ret (let cS:=(aq++([(⟨eG,1⟩:eh)]:List eh));bP (t3.append [.aw false,(ak 2),.bi [15] [.dH (aH 2 fi cS)] (bI [3,9,10,11])]) (fN.bb (.bR bK (ey 2 .live (oX fi aq (⟨eG,1⟩:eh))) (aU 2 .live rl cS)))))))
  (fun aM =>
  .ite (fun bW =>
  .bk fun bK =>
  .ret (let eB:=(aq++([(⟨eG,(-1)⟩:eh)]:List eh));bP (t1.append [.aw false,(ak 3),.aw true,.aY (b0 4 (.bb (eB.length)) 1),(ak 2),.bi [18] [.dH (aH 2 fi eB)] (bI [3,9,10,11])]) (a6.bb (.ja aM bW (mo fi (⟨eG,(-1)⟩:eh)) (oW fi aq) (nk fi aq (⟨eG,(-1)⟩:eh)) bK (ey 2 .live (oX fi aq (⟨eG,(-1)⟩:eh))) (aU 2 .live rl eB)))))
  (fun bW =>
  .ret (bP (t1.append [.aw false,(ak 3),.aw false,(ak 2),.bi [0] [.pure] (bI [3,9,10,11])]) (a6.bb (.bR aM bW (aU 2 .live rl aq))))))))
  (fun o =>
  .ret (bP [(ak 1),.aw false,.bi [0] [.pure] (bI [3])] (.ay o (aU 2 .live rl aq))))
theorem L4 {eC:List bu}{ff eG:Int}{aq:List eh}{r} (h:A6 eC ff eG aq=some r):e6 bz 34 0 46 [1,1,0,1,0,0] (AK eC ff) (F2 eC ff) (eG,aq) r:=e7 (fun _=>LJ) h
def vd (aT:cQ):Option (List eh) :=
 A6 aT.cK (len_ dr aT.cK) 0 ([]:List eh) >>= fun ax =>
 some ax
theorem Mh {aT:cQ}:b2 (vd aT) (fun r=>Con bz 46 [.dg 2 [(gn aT)] 0 0] [] (.isl 2 (r.map fi)) []):=by
 unfold vd
 exact .aI fun ax J =>
  .ret (cn [(ak 1),(ak 1),(ak 6),.qE 3 2,.bi [8] [.dH (aH 2 fi ([]:List eh))] [(3,hf (([]:List eh).length)),(9,ii),(10,ii),(11,ii)],.sub (.exit 0) [(3,.bp 0 0 0 ax.length)] [(aH 2 fi ax)],(ak 2)] (.fm (ey 2 .live (p9 fi)) (aU 2 .live rl ([]:List eh)) (mn eh) (L4 J) (iM fi ax) (ib fi ax) (eu rl ax)) (.bH (.c6 (.eZ (ax.map fi)))))
def As (c7:List a9)(cL:List bu)(dq:List Int)(gS:List eh)(a0:Int)(fx:List Int)(eH:List (List Int))(hP dW fD fj:Int)(an au:List Int):(Int×(List Int))→S:=fun (fs,a7)=>er [(0,.dg 2 [[.isl 4 (c7.map cA),.isl 3 (cL.map dr)]] 0 0),(1,.isl 1 (dq.map R)),(8,.ref 0 0 0 0),(10,.isl 2 (gS.map fi)),(11,.ref 1 0 0 0),(12,.n .i64 a0),(13,.isl 1 (fx.map R)),(46,.isl 1 (eH.map (cl 1 R))),(47,.n .i64 hP),(48,.n .i64 a0),(53,.isl 2 (gS.map fi)),(54,.n .i64 dW),(55,.n .i64 fs)] [[ap.mk 5 [[.n .i64 (0:Int),.n .i64 (0:Int),.dJ,.dJ,.dJ]] .live],[ap.mk 5 [(uP fD fj 2 0 0 a7.length 3 0 0 an.length 4 0 0 au.length)] .live],(aH 1 R a7),(aH 1 R an),(aH 1 R au)]
def Ax (c7:List a9)(cL:List bu)(dq:List Int)(gS:List eh)(a0:Int)(fx:List Int)(eH:List (List Int))(hP dW fD fj:Int)(an au:List Int):(List Int)→ex
 | a=>⟨some 2,[(0,.dg 2 [[.isl 4 (c7.map cA),.isl 3 (cL.map dr)]] 0 0),(1,.isl 1 (dq.map R)),(8,.ref 0 0 0 0),(10,.isl 2 (gS.map fi)),(11,.ref 1 0 0 0),(46,.isl 1 (eH.map (cl 1 R))),(47,.n .i64 hP),(48,.n .i64 a0)],[[ap.mk 5 [[.n .i64 (0:Int),.n .i64 (0:Int),.dJ,.dJ,.dJ]] .live],[ap.mk 5 [(uP fD fj 2 0 0 a.length 3 0 0 an.length 4 0 0 au.length)] .live],(aH 1 R a),(aH 1 R an),(aH 1 R au)]⟩
def sK (c7:List a9)(cL:List bu)(dq:List Int)(gS:List eh)(a0:Int)(fx:List Int)(eH:List (List Int))(hP dW fD fj:Int)(an au:List Int)(fs:Int)(a7:List Int):Option ((Int×(List Int))⊕((List Int))) :=
 if (decide (fs<dW))=true then
  if 0≤fs∧fs<gS.length then
  gS[fs.toNat]? >>= fun a4 =>
  if 0≤a4.t6∧a4.t6<fx.length then
  fx[a4.t6.toNat]? >>= fun cC =>
  if 0≤(U ((U (a0*fj))+fs))∧(U ((U (a0*fj))+fs))<(a7.length:Nat) then
  if (0+(U ((U (a0*fj))+fs)).toNat)<a7.length then
  some (.inl (U (fs+(1:Int)),a7.set (0+(U ((U (a0*fj))+fs)).toNat) (U (a4.rU*cC))))
  else none
  else none
  else none
  else none
 else
  some (.inr a7)
def AL (c7:List a9)(cL:List bu)(dq:List Int)(gS:List eh)(a0:Int)(fx:List Int)(eH:List (List Int))(hP dW fD fj:Int)(an au:List Int)(fs:Int)(a7:List Int):Option ((List Int)):=iter (fun w:Int×(List Int)=>sK c7 cL dq gS a0 fx eH hP dW fD fj an au w.1 w.2) (fs,a7)
theorem Lw {c7:List a9}{cL:List bu}{dq:List Int}{gS:List eh}{a0:Int}{fx:List Int}{eH:List (List Int)}{hP dW fD fj:Int}{an au:List Int}{fs:Int}{a7:List Int}:b2 (sK c7 cL dq gS a0 fx eH hP dW fD fj an au fs a7) (e5 bz 113 0 35 [1,1,1,1,0,1,0,0,1,1,0,0,1,1,0,0] (As c7 cL dq gS a0 fx eH hP dW fD fj an au (fs,a7)) (As c7 cL dq gS a0 fx eH hP dW fD fj an au) (Ax c7 cL dq gS a0 fx eH hP dW fD fj an au)):=by
 unfold sK
 exact .ite (fun o =>
  .bk fun J =>
  .aI fun a4 aO =>
  .bk fun aM =>
  .aI fun cC bK =>
  .bk fun bG =>
  .bk fun d8 =>
  .ret (let aZ:=U ((U (a0*fj))+fs);let bg:=U (a4.rU*cC);bP [(ak 1),.aw true,.aY (b0 2 (.cy (fi a4)) 3),.aY (aD 14 (aF (.cy (R cC)) (aD 2 (aF .eV [])))),(ak 2),.bi [0,1,2,3,4] [.box [.id,.id,.id,.id,.id],.box [.id,.id,.len ((a7.set (0+aZ.toNat) bg).length),.id,.id],.dH (aH 1 R (a7.set (0+aZ.toNat) bg)),.pure,.pure] (bI [0,1,8,10,11,12,13,46,47,48,53,54,55])] (.bF o J.1 (d1 fi J.2) (cr fi aO) aM.1 (d1 R aM.2) (cr R bK) bG.1 (.ja bG.2 (hJ R d8) (hl 1) (hL (fo a7) (0+aZ.toNat) bg) (ey 1 .live (f7 (dQ R a7) (0+aZ.toNat) bg)) (aU 1 .live a2 (a7.set (0+aZ.toNat) bg)) (aU 1 .live a2 an) (aU 1 .live a2 au)))))
  (fun o =>
  .ret (bP [(ak 1),.aw false,.bi [0,1,2,3,4] [.box [.id,.id,.id,.id,.id],.box [.id,.id,.id,.id,.id],.pure,.pure,.pure] (bI [0,1,8,10,11,46,47,48])] (.dc o (aU 1 .live a2 a7) (aU 1 .live a2 an) (aU 1 .live a2 au))))
theorem LK {c7:List a9}{cL:List bu}{dq:List Int}{gS:List eh}{a0:Int}{fx:List Int}{eH:List (List Int)}{hP dW fD fj:Int}{an au:List Int}{fs:Int}{a7:List Int}{r} (h:AL c7 cL dq gS a0 fx eH hP dW fD fj an au fs a7=some r):e6 bz 113 0 35 [1,1,1,1,0,1,0,0,1,1,0,0,1,1,0,0] (As c7 cL dq gS a0 fx eH hP dW fD fj an au) (Ax c7 cL dq gS a0 fx eH hP dW fD fj an au) (fs,a7) r:=e7 (fun _=>Lw) h
def At (c7:List a9)(cL:List bu)(dq:List Int)(gS:List eh)(eH:List (List Int))(hP fD fj:Int)(an au:List Int):(Int×(List Int))→S:=fun (lF,a7)=>er [(0,.dg 2 [[.isl 4 (c7.map cA),.isl 3 (cL.map dr)]] 0 0),(1,.isl 1 (dq.map R)),(8,.ref 0 0 0 0),(10,.isl 2 (gS.map fi)),(11,.ref 1 0 0 0),(46,.isl 1 (eH.map (cl 1 R))),(47,.n .i64 hP),(48,.n .i64 lF)] [[ap.mk 5 [[.n .i64 (0:Int),.n .i64 (0:Int),.dJ,.dJ,.dJ]] .live],[ap.mk 5 [(uP fD fj 2 0 0 a7.length 3 0 0 an.length 4 0 0 au.length)] .live],(aH 1 R a7),(aH 1 R an),(aH 1 R au)]
def Ay (c7:List a9)(cL:List bu)(dq:List Int)(gS:List eh)(eH:List (List Int))(hP fD fj:Int)(an au:List Int):(List Int)→ex
 | a=>⟨some 0,[(0,.dg 2 [[.isl 4 (c7.map cA),.isl 3 (cL.map dr)]] 0 0),(1,.isl 1 (dq.map R)),(8,.ref 0 0 0 0),(11,.ref 1 0 0 0)],[[ap.mk 5 [[.n .i64 (0:Int),.n .i64 (0:Int),.dJ,.dJ,.dJ]] .live],[ap.mk 5 [(uP fD fj 2 0 0 a.length 3 0 0 an.length 4 0 0 au.length)] .live],(aH 1 R a),(aH 1 R an),(aH 1 R au)]⟩
def sL (c7:List a9)(cL:List bu)(dq:List Int)(gS:List eh)(eH:List (List Int))(hP fD fj:Int)(an au:List Int)(lF:Int)(a7:List Int):Option ((Int×(List Int))⊕((List Int))) :=
 if (decide (lF<hP))=true then
  if 0≤lF∧lF<eH.length then
  eH[lF.toNat]? >>= fun a4 =>
  AL c7 cL dq gS lF a4 eH hP (len_ fi gS) fD fj an au 0 a7 >>= fun br =>
  some (.inl (U (lF+(1:Int)),br))
  else none
 else
  some (.inr a7)
def AM (c7:List a9)(cL:List bu)(dq:List Int)(gS:List eh)(eH:List (List Int))(hP fD fj:Int)(an au:List Int)(lF:Int)(a7:List Int):Option ((List Int)):=iter (fun w:Int×(List Int)=>sL c7 cL dq gS eH hP fD fj an au w.1 w.2) (lF,a7)
theorem Lx {c7:List a9}{cL:List bu}{dq:List Int}{gS:List eh}{eH:List (List Int)}{hP fD fj:Int}{an au:List Int}{lF:Int}{a7:List Int}:b2 (sL c7 cL dq gS eH hP fD fj an au lF a7) (e5 bz 113 0 35 [1,1,1,1,0,1,0,0] (At c7 cL dq gS eH hP fD fj an au (lF,a7)) (At c7 cL dq gS eH hP fD fj an au) (Ay c7 cL dq gS eH hP fD fj an au)):=by
 unfold sL
 exact .ite (fun o =>
  .bk fun J =>
  .aI fun a4 aO =>
  .aI fun br bW =>
  .ret (bP [(ak 1),.aw true,.aY (b0 2 (.cy ((cl 1 R) a4)) 2),(ak 3),.bi [0,1,2,3,4] [.box [.id,.id,.id,.id,.id],.box [.id,.id,.id,.id,.id],.pure,.pure,.pure] (bI [0,1,8,10,11,12,13,46,47,48,53,54,55]),(Ax c7 cL dq gS lF a4 eH hP (len_ fi gS) fD fj an au br).fU,(ak 2),.bi [0,1,2,3,4] [.box [.id,.id,.id,.id,.id],.box [.id,.id,.id,.id,.id],.pure,.pure,.pure] (bI [0,1,8,10,11,46,47,48])] (.bF o J.1 (d1 (cl 1 R) J.2) (cr (cl 1 R) aO) (aU 1 .live a2 a7) (aU 1 .live a2 an) (aU 1 .live a2 au) (LK bW) (.bR (aU 1 .live a2 br) (aU 1 .live a2 an) (aU 1 .live a2 au)))))
  (fun o =>
  .ret (bP [(ak 1),.aw false,.bi [0,1,2,3,4] [.box [.id,.id,.id,.id,.id],.box [.id,.id,.id,.id,.id],.pure,.pure,.pure] (bI [0,1,8,11])] (.dc o (aU 1 .live a2 a7) (aU 1 .live a2 an) (aU 1 .live a2 au))))
theorem LL {c7:List a9}{cL:List bu}{dq:List Int}{gS:List eh}{eH:List (List Int)}{hP fD fj:Int}{an au:List Int}{lF:Int}{a7:List Int}{r} (h:AM c7 cL dq gS eH hP fD fj an au lF a7=some r):e6 bz 113 0 35 [1,1,1,1,0,1,0,0] (At c7 cL dq gS eH hP fD fj an au) (Ay c7 cL dq gS eH hP fD fj an au) (lF,a7) r:=e7 (fun _=>Lx) h
def Au (dq l9:List Int)(mD fD fj:Int)(a7 au:List Int):(Int×(List Int))→S:=fun (jg,an)=>er [(1,.isl 1 (dq.map R)),(8,.ref 0 0 0 0),(11,.ref 1 0 0 0),(80,.isl 1 (l9.map R)),(81,.n .i64 mD),(82,.n .i64 jg)] [[ap.mk 5 [[.n .i64 (0:Int),.n .i64 (0:Int),.dJ,.dJ,.dJ]] .live],[ap.mk 5 [(uP fD fj 2 0 0 a7.length 3 0 0 an.length 4 0 0 au.length)] .live],(aH 1 R a7),(aH 1 R an),(aH 1 R au)]
def Az (dq l9:List Int)(mD fD fj:Int)(a7 au:List Int):(List Int)→ex
 | a=>⟨some 4,[(8,.ref 0 0 0 0),(11,.ref 1 0 0 0)],[[ap.mk 5 [[.n .i64 (0:Int),.n .i64 (0:Int),.dJ,.dJ,.dJ]] .live],[ap.mk 5 [(uP fD fj 2 0 0 a7.length 3 0 0 a.length 4 0 0 au.length)] .live],(aH 1 R a7),(aH 1 R a),(aH 1 R au)]⟩
def sM (dq l9:List Int)(mD fD fj:Int)(a7 au:List Int)(jg:Int)(an:List Int):Option ((Int×(List Int))⊕((List Int))) :=
 if (decide (jg<mD))=true then
  if 0≤jg∧jg<l9.length then
  l9[jg.toNat]? >>= fun a4 =>
  if 0≤(U ((2:Int)*a4))∧(U ((2:Int)*a4))<dq.length then
  dq[(U ((2:Int)*a4)).toNat]? >>= fun cC =>
  if 0≤(U ((U ((2:Int)*a4))+(1:Int)))∧(U ((U ((2:Int)*a4))+(1:Int)))<dq.length then
  dq[(U ((U ((2:Int)*a4))+(1:Int))).toNat]? >>= fun fc =>
  if 0≤(U ((2:Int)*jg))∧(U ((2:Int)*jg))<(an.length:Nat) then
  if (0+(U ((2:Int)*jg)).toNat)<an.length then
  if 0≤(U ((U ((2:Int)*jg))+(1:Int)))∧(U ((U ((2:Int)*jg))+(1:Int)))<(an.length:Nat) then
  if (0+(U ((U ((2:Int)*jg))+(1:Int))).toNat)<(an.set (0+(U ((2:Int)*jg)).toNat) (U (0-cC))).length then
  some (.inl (U (jg+(1:Int)),(an.set (0+(U ((2:Int)*jg)).toNat) (U (0-cC))).set (0+(U ((U ((2:Int)*jg))+(1:Int))).toNat) (U (0-fc))))
  else none
  else none
  else none
  else none
  else none
  else none
  else none
 else
  some (.inr an)
def AN (dq l9:List Int)(mD fD fj:Int)(a7 au:List Int)(jg:Int)(an:List Int):Option ((List Int)):=iter (fun w:Int×(List Int)=>sM dq l9 mD fD fj a7 au w.1 w.2) (jg,an)
theorem Ly {dq l9:List Int}{mD fD fj:Int}{a7 au:List Int}{jg:Int}{an:List Int}:b2 (sM dq l9 mD fD fj a7 au jg an) (e5 bz 113 0 35 [1,1,1,1,1,0,1,0,0] (Au dq l9 mD fD fj a7 au (jg,an)) (Au dq l9 mD fD fj a7 au) (Az dq l9 mD fD fj a7 au)):=by
 unfold sM
 exact .ite (fun o =>
  .bk fun J =>
  .aI fun a4 aO =>
  .bk fun aM =>
  .aI fun cC bK =>
  .bk fun bG =>
  .aI fun fc dZ =>
  .bk fun dG =>
  .bk fun eT =>
  .bk fun eM =>
  .bk fun dL =>
  .ret (let aZ:=(U ((2:Int)*jg));let bg:=(U (aZ+(1:Int)));let ck:=U (0-cC);let cS:=U (0-fc);bP [(ak 1),.aw true,.aY (b0 2 (.cy (R a4)) 2),.aY (aD 13 (aF (.cy (R cC)) (aD 6 (aF (.cy (R fc)) (aD 2 (aF .eV (aD 1 (aF .eV [])))))))),(ak 2),.bi [0,1,2,3,4] [.box [.id,.id,.id,.id,.id],.box [.id,.id,.id,.len (((an.set (0+aZ.toNat) ck).set (0+bg.toNat) cS).length),.id],.pure,.dH (aH 1 R ((an.set (0+aZ.toNat) ck).set (0+bg.toNat) cS)),.pure] (bI [1,8,11,80,81,82])] (.bF o J.1 (d1 R J.2) (cr R aO) aM.1 (d1 R aM.2) (cr R bK) bG.1 (.bF (d1 R bG.2) (cr R dZ) dG.1 dG.2 (hJ R eT) (hl 1) eM.1 eM.2 (.fm (Ja (f7 (dQ R an) (0+aZ.toNat) ck) dL) (hl 1) (hL (hL (fo an) (0+aZ.toNat) ck) (0+bg.toNat) cS) (aU 1 .live a2 a7) (ey 1 .live (f7 (f7 (dQ R an) (0+aZ.toNat) ck) (0+bg.toNat) cS)) (aU 1 .live a2 ((an.set (0+aZ.toNat) ck).set (0+bg.toNat) cS)) (aU 1 .live a2 au))))))
  (fun o =>
  .ret (bP [(ak 1),.aw false,.bi [0,1,2,3,4] [.box [.id,.id,.id,.id,.id],.box [.id,.id,.id,.id,.id],.pure,.pure,.pure] (bI [8,11])] (.dc o (aU 1 .live a2 a7) (aU 1 .live a2 an) (aU 1 .live a2 au))))
theorem LM {dq l9:List Int}{mD fD fj:Int}{a7 au:List Int}{jg:Int}{an:List Int}{r} (h:AN dq l9 mD fD fj a7 au jg an=some r):e6 bz 113 0 35 [1,1,1,1,1,0,1,0,0] (Au dq l9 mD fD fj a7 au) (Az dq l9 mD fD fj a7 au) (jg,an) r:=e7 (fun _=>Ly) h
def u9 (aT:cQ)(dq:List Int)(lx l0:Int):Option jt :=
 va aT >>= fun ax =>
 vd aT >>= fun bh =>
 if 0≤(U ((U ((len_ (cl 1 R) ax)+l0))*(U ((len_ fi bh)+lx))))∧(8:Int)*(U ((U ((len_ (cl 1 R) ax)+l0))*(U ((len_ fi bh)+lx))))≤281474976710656∧(U ((U ((len_ (cl 1 R) ax)+l0))*(U ((len_ fi bh)+lx))))<9223372036854775808 then
 if 0≤(U ((len_ (cl 1 R) ax)+l0))∧(8:Int)*(U ((len_ (cl 1 R) ax)+l0))≤281474976710656∧(U ((len_ (cl 1 R) ax)+l0))<9223372036854775808 then
 if 0≤(U ((len_ fi bh)+lx))∧(8:Int)*(U ((len_ fi bh)+lx))≤281474976710656∧(U ((len_ fi bh)+lx))<9223372036854775808 then
 AM aT.cc aT.cK dq bh ax (len_ (cl 1 R) ax) (U ((len_ (cl 1 R) ax)+l0)) (U ((len_ fi bh)+lx)) (List.replicate (U ((len_ (cl 1 R) ax)+l0)).toNat 0:List Int) (List.replicate (U ((len_ fi bh)+lx)).toNat 0:List Int) 0 (List.replicate (U ((U ((len_ (cl 1 R) ax)+l0))*(U ((len_ fi bh)+lx)))).toNat 0:List Int) >>= fun fu =>
 sZ aT >>= fun fK =>
 AN dq fK (len_ R fK) (U ((len_ (cl 1 R) ax)+l0)) (U ((len_ fi bh)+lx)) fu (List.replicate (U ((len_ fi bh)+lx)).toNat 0:List Int) 0 (List.replicate (U ((len_ (cl 1 R) ax)+l0)).toNat 0:List Int) >>= fun fz =>
 some (⟨U ((len_ (cl 1 R) ax)+l0),U ((len_ fi bh)+lx),fu,fz,(List.replicate (U ((len_ fi bh)+lx)).toNat 0:List Int)⟩:jt)
 else none
 else none
 else none
theorem L1 {aT:cQ}{dq:List Int}{lx l0:Int}:b2 (u9 aT dq lx l0) (fun r=>Con bz 35 [.dg 2 [(gn aT)] 0 0,.isl 1 (dq.map R),.n .i64 lx,.n .i64 l0] [] (.agg (o4 r)) []):=by
 unfold u9
 exact .aI fun ax J =>
  .aI fun bh aO =>
  .bk fun aM =>
  .bk fun bW =>
  .bk fun bK =>
  .aI fun fu d8 =>
  .aI fun fK dG =>
  .aI fun fz eM =>
  .ret (let aZ:=U ((len_ (cl 1 R) ax)+l0);let bg:=U ((len_ fi bh)+lx);let ck:=(List.replicate bg.toNat 0:List Int);let cS:=(List.replicate aZ.toNat 0:List Int);let gI:=U (aZ*bg);let eB:=(List.replicate gI.toNat 0:List Int);cn [(ak 1),.aY (aD 1 (aF (cT 1 (.isl 1 (ax.map (cl 1 R))) false) (b0 1 (cT 1 (.isl 2 (bh.map fi)) false) 2))),(ak 11),(ak 18),(ak 3),.bi [0,16,23,26,29] [.box [.id,.id,.id,.id,.id],.box [.id,.id,.len (eB.length),.len (cS.length),.len (ck.length)],.dH (aH 1 R eB),.dH (aH 1 R cS),.dH (aH 1 R ck)] (bI [0,1,8,10,11,46,47,48]),(Ay aT.cc aT.cK dq bh ax (len_ (cl 1 R) ax) aZ bg cS ck fu).fU,.aY (b0 1 (cT 1 (.isl 1 (fK.map R)) false) 2),.bi [0,1,2,3,4] [.box [.id,.id,.id,.id,.id],.box [.id,.id,.id,.id,.id],.pure,.pure,.pure] (bI [1,8,11,80,81,82]),(Az dq fK (len_ R fK) aZ bg fu ck fz).fU,(ak 2)] (.bF (L2 ax J) (Mh bh aO) aM.1 (Int.le_refl gI) aM.2.1 aM.2.2 bW.1 (Int.le_refl aZ) (.bF bW.2.1 bW.2.2 bK.1 (Int.le_refl bg) bK.2.1 bK.2.2 (l2 gI.toNat (0:Int)) (l2 aZ.toNat (0:Int)) (.bF (l2 bg.toNat (0:Int)) (ey 1 .live (lB R gI.toNat 0)) (aU 1 .live a2 eB) (ey 1 .live (lB R aZ.toNat 0)) (aU 1 .live a2 cS) (ey 1 .live (lB R bg.toNat 0)) (aU 1 .live a2 ck) (LL d8) (.bF (F6 fK dG) (aU 1 .live a2 fu) (aU 1 .live a2 cS) (aU 1 .live a2 ck) (LM eM) (iM R fu) (ib R fu) (eu a2 fu) (.eW (iM R fz) (ib R fz) (eu a2 fz) (iM R ck) (ib R ck) (eu a2 ck)))))) (.bH (.agg [.id,.id,.eZ (fu.map R),.eZ (fz.map R),.eZ (ck.map R)])))
def BC:(Int×(List Int))→S:=fun (aW,aq)=>er [(0,.n .u64 aW),(3,.bp 0 0 0 aq.length)] [(aH 1 R aq)]
def BR:(List Int)→ex
 | a=>⟨some 0,[(3,.bp 0 0 0 a.length)],[(aH 1 R a)]⟩
def tb (aW:Int)(aq:List Int):Option ((Int×(List Int))⊕((List Int))) :=
 if (decide ((0:Int)<aW))=true then
  if (aq++([IntKind.wrap .i64 (aW.tmod (1000000000:Int))]:List Int)).length*8≤140737488355328 then
  some (.inl (IntKind.wrap .u64 (aW.tdiv (1000000000:Int)),aq++([IntKind.wrap .i64 (aW.tmod (1000000000:Int))]:List Int)))
  else none
 else
  some (.inr aq)
def Cw (aW:Int)(aq:List Int):Option ((List Int)):=iter (fun w:Int×(List Int)=>tb w.1 w.2) (aW,aq)
theorem Ms {aW:Int}{aq:List Int}:b2 (tb aW aq) (e5 bz 15 0 58 [1,1,0,0,0] (BC (aW,aq)) (BC) (BR)):=by
 unfold tb
 exact .ite (fun o =>
  .bk fun J =>
  .ret (let aZ:=(aq++([(IntKind.wrap .i64 (aW.tmod (1000000000:Int)))]:List Int));bP [(ak 2),.aw true,.aY (b0 5 (.bb (aZ.length)) 1),(ak 3),.bi [8] [.dH (aH 1 R aZ)] (bI [0,3])] (.bF o (by decide:(1000000000:Int)≠0) (mo R (IntKind.wrap .i64 (aW.tmod (1000000000:Int)))) (oW R aq) (nk R aq (IntKind.wrap .i64 (aW.tmod (1000000000:Int)))) J (by decide:(1000000000:Int)≠0) (ey 1 .live (oX R aq (IntKind.wrap .i64 (aW.tmod (1000000000:Int))))) (.ar (aU 1 .live a2 aZ)))))
  (fun o =>
  .ret (bP [(ak 2),.aw false,.bi [0] [.pure] (bI [3])] (.ay o (aU 1 .live a2 aq))))
theorem M5 {aW:Int}{aq:List Int}{r} (h:Cw aW aq=some r):e6 bz 15 0 58 [1,1,0,0,0] (BC) (BR) (aW,aq) r:=e7 (fun _=>Ms) h
def rr (aW:Int):Option (List Int) :=
 Cw aW ([]:List Int) >>= fun ax =>
 some ax
theorem Cx {aW:Int}:b2 (rr aW) (fun r=>Con bz 58 [.n .u64 aW] [] (.isl 1 (r.map R)) []):=by
 unfold rr
 exact .aI fun ax J =>
  .ret (cn [(ak 1),(ak 1),.qE 3 1,.bi [2] [.dH (aH 1 R ([]:List Int))] [(0,ii),(3,hf (([]:List Int).length))],(BR ax).fU,(ak 2)] (.fm (ey 1 .live (p9 R)) (aU 1 .live a2 ([]:List Int)) (mn Int) (M5 J) (iM R ax) (ib R ax) (eu a2 ax)) (.bH (.c6 (.eZ (ax.map R)))))
def k8 (zh:Bool)(ul:List Int):Option ba :=
 if zh=true then
  some (⟨(decide ((0:Int)<(len_ R ul))),ul⟩:ba)
 else
  some (⟨false,ul⟩:ba)
theorem qh {zh:Bool}{ul:List Int}:b2 (k8 zh ul) (fun r=>Con bz 57 [.b zh,.isl 1 (ul.map R)] [] (.agg (aJ r)) []):=by
 unfold k8
 exact .ite (fun o =>
  .ret (cn [(ak 1),.aY (b0 5 (.aw true) 3)] (.dc o o o o)))
  (fun o =>
  .ret (cn [(ak 1),.aY (aD 2 (dE 3 (aF (.aw false) (aD 3 []))))] (.dc o o o o)))
def mr (aW:Int):Option ba :=
 if (decide (aW<(0:Int)))=true then
  rr (IntKind.wrap .u64 ((IntKind.wrap .u64 (U (0-(U (aW+(1:Int))))))+(1:Int))) >>= fun bJ =>
  k8 true bJ >>= fun bl =>
  some bl
 else
  rr (IntKind.wrap .u64 aW) >>= fun bJ =>
  k8 false bJ >>= fun bl =>
  some bl
theorem px {aW:Int}:b2 (mr aW) (fun r=>Con bz 48 [.n .i64 aW] [] (.agg (aJ r)) []):=by
 unfold mr
 exact .ite (fun o =>
  .aI fun bJ ao =>
  .aI fun bl aM =>
  .ret (cn [(ak 1),(ak 2),.aw true,.aY (aD 5 (aF (cT 1 (.isl 1 (bJ.map R)) false) (aF (cT 2 (.agg (aJ bl)) false) (aD 1 []))))] (.bR o (Cx bJ ao) (qh bl aM))))
  (fun o =>
  .aI fun bJ ao =>
  .aI fun bl aM =>
  .ret (cn [(ak 1),(ak 2),.aw false,.aY (aD 2 (aF (cT 1 (.isl 1 (bJ.map R)) false) (aF (cT 2 (.agg (aJ bl)) false) (aD 1 []))))] (.bR o (Cx bJ ao) (qh bl aM))))
def tt (cw:jt)(a0:Int):Option (List Int) :=
 if 0≤(U (a0*cw.en)) then
 if 0≤(U ((U (a0+(1:Int)))*cw.en)) then
 if (U (a0*cw.en)).toNat≤(U ((U (a0+(1:Int)))*cw.en)).toNat∧(U ((U (a0+(1:Int)))*cw.en)).toNat≤cw.e1.length then
 some ((cw.e1.drop ((U (a0*cw.en)).toNat)).take ((U ((U (a0+(1:Int)))*cw.en)).toNat-(U (a0*cw.en)).toNat))
 else none
 else none
 else none
theorem Gj {cw:jt}{a0:Int}:b2 (tt cw a0) (fun r=>Con bz 49 [.dg 5 [(o4 cw)] 0 0,.n .i64 a0] [] (.isl 1 (r.map R)) []):=by
 unfold tt
 exact .bk fun o =>
  .bk fun J =>
  .bk fun ao =>
  .ret (let aZ:=U (a0*cw.en);let bg:=(U ((U (a0+(1:Int)))*cw.en));cn [(ak 1),(ak 19)] (.ed o J ao.1 (qq (dQ R cw.e1) ao.2) (congrArg (al.isl 1) (nq (dQ R cw.e1) (aZ.toNat) (bg.toNat-aZ.toNat)):(.isl 1 (((cw.e1.map R).drop (aZ.toNat)).take (bg.toNat-aZ.toNat)):al) = .isl 1 (((cw.e1.drop (aZ.toNat)).take (bg.toNat-aZ.toNat)).map R))) (.bH (.c6 (.dH (.isl 1 (((cw.e1.drop (aZ.toNat)).take (bg.toNat-aZ.toNat)).map R))))))
def Cy (aT:List Int)(dl dP:Int):Int→S:=fun dC=>er [(0,.isl 1 (aT.map R)),(1,.n .i64 dl),(7,.n .i64 dP),(8,.n .i64 dC)] []
def GL (aT:List Int)(dl dP:Int):((Unit)⊕(Int))→ex
 | .inl a=>⟨some 0,[],[]⟩
 | .inr a=>⟨none,[(4,.n .i64 a)],[]⟩
def tv (aT:List Int)(dl dP dC:Int):Option ((Int)⊕((Unit)⊕(Int))) :=
 if (decide (dC<dP))=true then
  if 0≤dC∧dC<aT.length then
  aT[dC.toNat]? >>= fun a4 =>
  if (dl == a4)=true then
   some (.inr (.inr dC))
  else
   some (.inl (U (dC+(1:Int))))
  else none
 else
  some (.inr (.inl ()))
def C3 (aT:List Int)(dl dP dC:Int):Option ((Unit)⊕(Int)):=iter (fun w:Int=>tv aT dl dP w) dC
theorem M6 {aT:List Int}{dl dP dC:Int}:b2 (tv aT dl dP dC) (e5 bz 19 0 63 [1,0,1,0,0] (Cy aT dl dP dC) (Cy aT dl dP) (GL aT dl dP)):=by
 unfold tv
 exact .ite (fun o =>
  .bk fun J =>
  .aI fun a4 aO =>
  (let t1:List cM:=[(ak 1),.aw true,(ak 2),.aY (b0 4 (.cy (R a4)) 1)];
  have a6:=((.dc o J.1 (d1 R J.2) (cr R aO)):cF _);
  .ite (fun aM =>
  .ret (bP (t1.append [.aw true,(ak 2),.bi [] [] (bI [4])]) (a6.bb (.ar aM))))
  (fun aM =>
  .ret (bP (t1.append [.aw false,(ak 2),.bi [] [] (bI [0,1,7,8])]) (a6.bb (.ar aM))))))
  (fun o =>
  .ret (bP [(ak 1),.aw false,.bi [] [] []] (.ar o)))
theorem GP {aT:List Int}{dl dP dC:Int}{r} (h:C3 aT dl dP dC=some r):e6 bz 19 0 63 [1,0,1,0,0] (Cy aT dl dP) (GL aT dl dP) dC r:=e7 (fun _=>M6) h
def yW (aT:List Int)(dl:Int):Option Int :=
 C3 aT dl (len_ R aT) 0 >>= fun ax =>
 match ax with
 | .inl dn=>(some (-1))
 | .inr dn=>(some dn)
theorem OW {aT:List Int}{dl:Int}:b2 (yW aT dl) (fun r=>Con bz 63 [.isl 1 (aT.map R),.n .i64 dl] [] (.n .i64 r) []):=by
 unfold yW
 exact .aI fun ax J =>
  (let t1:List cM:=[(ak 1),(ak 3),.bi [] [] (bI [0,1,7,8])];
  (by
  rcases ax with dn|dn
  ·exact (.ret (cn (t1.append [.sub (.exit 0) [] [],(ak 1)]) (.ar (GP J))))
  ·exact (.ret (cn (t1.append [.sub (.ret) [(4,.n .i64 dn)] []]) (.ar (GP J))))))
def tJ (aT:List Int)(dl:Int):Option Bool :=
 yW aT dl >>= fun ax =>
 some (decide ((0:Int)≤ax))
theorem GQ {aT:List Int}{dl:Int}:b2 (tJ aT dl) (fun r=>Con bz 59 [.isl 1 (aT.map R),.n .i64 dl] [] (.b r) []):=by
 unfold tJ
 exact .aI fun ax J =>
  .ret (cn [(ak 1),.aY (b0 2 (cT 2 (.n .i64 ax) true) 2)] (.ay (OW ax J) (cx.n .i64 ax)))
def Cf:(List Int)→S:=fun bt=>er [(0,.isl 1 (bt.map R))] []
def Co:(List Int)→ex
 | a=>⟨some 0,[(0,.isl 1 (a.map R))],[]⟩
def tp (bt:List Int):Option (((List Int))⊕((List Int))) :=
 if (decide ((0:Int)<(len_ R bt)))=true then
  if 0≤(U ((len_ R bt)-(1:Int)))∧(U ((len_ R bt)-(1:Int)))<bt.length then
  bt[(U ((len_ R bt)-(1:Int))).toNat]? >>= fun a4 =>
  if (a4 == (0:Int))=true then
   if 0≤(U ((len_ R bt)-(1:Int))) then
   if 0≤(U ((len_ R bt)-(1:Int))).toNat∧(U ((len_ R bt)-(1:Int))).toNat≤bt.length then
   some (.inl ((bt.drop 0).take ((U ((len_ R bt)-(1:Int))).toNat-0)))
   else none
   else none
  else
   some (.inr bt)
  else none
 else
  some (.inr bt)
def CM (bt:List Int):Option ((List Int)):=iter (fun w:(List Int)=>tp w) bt
theorem MQ {bt:List Int}:b2 (tp bt) (e5 bz 21 0 73 [1,0,0,0] (Cf bt) (Cf) (Co)):=by
 unfold tp
 exact .ite (fun o =>
  .bk fun J =>
  .aI fun a4 aO =>
  (let t1:List cM:=[.aY (aD 9 (aF (.cy (R a4)) (aD 1 (aF (.aw true) []))))];
  have a6:=((.bF o o o o o J.1 (d1 R J.2) o (.bR (cr R aO) o o)):cF _);
  .ite (fun aM =>
  .bk fun bW =>
  .bk fun bK =>
  .ret (let aZ:=(U ((len_ R bt)-(1:Int)));bP (t1.append [.aw true,(ak 6),.bi [] [] [(0,.bH (.c6 (.dH (.isl 1 (((bt.drop 0).take (aZ.toNat-0)).map R)))))]]) (a6.bb (.ed aM bW bK.1 (qq (dQ R bt) bK.2) (congrArg (al.isl 1) (nq (dQ R bt) 0 (aZ.toNat-0)):(.isl 1 (((bt.map R).drop 0).take (aZ.toNat-0)):al) = .isl 1 (((bt.drop 0).take (aZ.toNat-0)).map R))))))
  (fun aM =>
  .ret (bP (t1.append [.aw false,.bi [] [] (bI [0])]) (a6.bb (.ar aM))))))
  (fun o =>
  .ret (bP [.aY (aD 4 (dE 7 (aF (.aw false) []))),.aw false,.bi [] [] (bI [0])] (.bF o o o o o o o o (.ar iZ))))
theorem ND {bt:List Int}{r} (h:CM bt=some r):e6 bz 21 0 73 [1,0,0,0] (Cf) (Co) bt r:=e7 (fun _=>MQ) h
def nP (bt:List Int):Option (List Int) :=
 CM bt >>= fun ax =>
 some ax
theorem rs {bt:List Int}:b2 (nP bt) (fun r=>Con bz 73 [.isl 1 (bt.map R)] [] (.isl 1 (r.map R)) []):=by
 unfold nP
 exact .aI fun ax J =>
  .ret (cn [(ak 1),.bi [] [] (bI [0]),(Co ax).fU,(ak 2)] (.ar (ND J)))
def B5 (bf:List Int)(a0 aW:Int)(dS:List Int)(d6 hq:Int):(Int×Int×(List Int))→S:=fun (dt,cD,aq)=>er [(1,.isl 1 (bf.map R)),(5,.bp 0 0 0 aq.length),(6,.n .i64 a0),(7,.n .i64 aW),(8,.n .i64 dt),(26,.isl 1 (dS.map R)),(27,.n .i64 d6),(28,.n .i64 a0),(33,.isl 1 (bf.map R)),(34,.n .i64 hq),(35,.n .i64 cD)] [(aH 1 R aq)]
def Cg (bf:List Int)(a0 aW:Int)(dS:List Int)(d6 hq:Int):(Int×(List Int))→ex
 | a=>⟨some 2,[(1,.isl 1 (bf.map R)),(5,.bp 0 0 0 a.2.length),(6,.n .i64 a0),(8,.n .i64 a.1),(26,.isl 1 (dS.map R)),(27,.n .i64 d6),(28,.n .i64 a0)],[(aH 1 R a.2)]⟩
def B6 (bf:List Int)(a0 aW:Int)(dS:List Int)(d6 hq dt cD:Int)(aq:List Int):Option ((Int×Int×(List Int))⊕(Int×(List Int))) :=
 if (decide (cD<hq))=true then
  if 0≤cD∧cD<bf.length then
  bf[cD.toNat]? >>= fun a4 =>
  if 0≤(U (a0+cD))∧(U (a0+cD))<(aq.length:Nat) then
  aq[(0+(U (a0+cD)).toNat)]? >>= fun cC =>
  if (0+(U (a0+cD)).toNat)<aq.length then
  some (.inl (U ((U ((U (cC+(U (aW*a4))))+dt)).tdiv (1000000000:Int)),U (cD+(1:Int)),aq.set (0+(U (a0+cD)).toNat) ((U ((U (cC+(U (aW*a4))))+dt)).tmod (1000000000:Int))))
  else none
  else none
  else none
 else
  some (.inr (dt,aq))
def GR (bf:List Int)(a0 aW:Int)(dS:List Int)(d6 hq dt cD:Int)(aq:List Int):Option (Int×(List Int)):=iter (fun w:Int×Int×(List Int)=>B6 bf a0 aW dS d6 hq w.1 w.2.1 w.2.2) (dt,cD,aq)
theorem ML {bf:List Int}{a0 aW:Int}{dS:List Int}{d6 hq dt cD:Int}{aq:List Int}:b2 (B6 bf a0 aW dS d6 hq dt cD aq) (e5 bz 72 0 69 [1,1,1,0,1,0,0,1,1,0,0,1,1,0,1,0,0] (B5 bf a0 aW dS d6 hq (dt,cD,aq)) (B5 bf a0 aW dS d6 hq) (Cg bf a0 aW dS d6 hq)):=by
 unfold B6
 exact .ite (fun o =>
  .bk fun J =>
  .aI fun a4 aO =>
  .bk fun aM =>
  .aI fun cC bK =>
  .bk fun bG =>
  .ret (let aZ:=U ((U (cC+(U (aW*a4))))+dt);let bg:=U (a0+cD);bP [(ak 1),.aw true,.aY (b0 2 (.cy (R a4)) 2),.aY (b0 5 (.cy (R cC)) 7),.aY (b0 9 .eV 1),(ak 2),.bi [0] [.dH (aH 1 R (aq.set (0+bg.toNat) (aZ.tmod (1000000000:Int))))] [(1,ii),(5,hf ((aq.set (0+bg.toNat) (aZ.tmod (1000000000:Int))).length)),(6,ii),(7,ii),(8,ii),(26,ii),(27,ii),(28,ii),(33,ii),(34,ii),(35,ii)]] (.bF o J.1 (d1 R J.2) (cr R aO) aM.1 aM.2 (cr R bK) (by decide:(1000000000:Int)≠0) (.ja (by decide:(1000000000:Int)≠0) aM.1 aM.2 (hJ R bG) (hl 1) (ey 1 .live (f7 (dQ R aq) (0+bg.toNat) (aZ.tmod (1000000000:Int)))) (aU 1 .live a2 (aq.set (0+bg.toNat) (aZ.tmod (1000000000:Int)))) (hL (fo aq) (0+bg.toNat) (aZ.tmod (1000000000:Int)))))))
  (fun o =>
  .ret (bP [(ak 1),.aw false,.bi [0] [.pure] (bI [1,5,6,8,26,27,28])] (.ay o (aU 1 .live a2 aq))))
theorem Nw {bf:List Int}{a0 aW:Int}{dS:List Int}{d6 hq dt cD:Int}{aq:List Int}{r} (h:GR bf a0 aW dS d6 hq dt cD aq=some r):e6 bz 72 0 69 [1,1,1,0,1,0,0,1,1,0,0,1,1,0,1,0,0] (B5 bf a0 aW dS d6 hq) (Cg bf a0 aW dS d6 hq) (dt,cD,aq) r:=e7 (fun _=>ML) h
def B7 (bf dS:List Int)(d6:Int):(Int×(List Int))→S:=fun (eY,aq)=>er [(1,.isl 1 (bf.map R)),(5,.bp 0 0 0 aq.length),(26,.isl 1 (dS.map R)),(27,.n .i64 d6),(28,.n .i64 eY)] [(aH 1 R aq)]
def Ch (bf dS:List Int)(d6:Int):(List Int)→ex
 | a=>⟨some 0,[(5,.bp 0 0 0 a.length)],[(aH 1 R a)]⟩
def B8 (bf dS:List Int)(d6 eY:Int)(aq:List Int):Option ((Int×(List Int))⊕((List Int))) :=
 if (decide (eY<d6))=true then
  if 0≤eY∧eY<dS.length then
  dS[eY.toNat]? >>= fun a4 =>
  GR bf eY a4 dS d6 (len_ R bf) 0 0 aq >>= fun br =>
  if 0≤(U (eY+(len_ R bf)))∧(U (eY+(len_ R bf)))<(br.2.length:Nat) then
  if (0+(U (eY+(len_ R bf))).toNat)<br.2.length then
  some (.inl (U (eY+(1:Int)),br.2.set (0+(U (eY+(len_ R bf))).toNat) br.1))
  else none
  else none
  else none
 else
  some (.inr aq)
def CJ (bf dS:List Int)(d6 eY:Int)(aq:List Int):Option ((List Int)):=iter (fun w:Int×(List Int)=>B8 bf dS d6 w.1 w.2) (eY,aq)
theorem MM {bf dS:List Int}{d6 eY:Int}{aq:List Int}:b2 (B8 bf dS d6 eY aq) (e5 bz 72 0 69 [1,1,1,0,1,0,0] (B7 bf dS d6 (eY,aq)) (B7 bf dS d6) (Ch bf dS d6)):=by
 unfold B8
 exact .ite (fun o =>
  .bk fun J =>
  .aI fun a4 aO =>
  .aI fun br bW =>
  .bk fun bK =>
  .bk fun bG =>
  .ret (let aZ:=U (eY+(len_ R bf));bP [(ak 1),.aw true,.aY (b0 2 (.cy (R a4)) 2),(ak 1),(ak 3),.bi [0] [.pure] (bI [1,5,6,7,8,26,27,28,33,34,35]),(Cg bf eY a4 dS d6 (len_ R bf) br).fU,.aY (aD 7 (aF .eV [])),(ak 2),.bi [0] [.dH (aH 1 R (br.2.set (0+aZ.toNat) br.1))] [(1,ii),(5,hf ((br.2.set (0+aZ.toNat) br.1).length)),(26,ii),(27,ii),(28,ii)]] (.bF o J.1 (d1 R J.2) (cr R aO) (aU 1 .live a2 aq) (Nw bW) bK.1 bK.2 (.ed (hJ R bG) (hl 1) (ey 1 .live (f7 (dQ R br.2) (0+aZ.toNat) br.1)) (aU 1 .live a2 (br.2.set (0+aZ.toNat) br.1)) (hL (fo br.2) (0+aZ.toNat) br.1)))))
  (fun o =>
  .ret (bP [(ak 1),.aw false,.bi [0] [.pure] (bI [5])] (.ay o (aU 1 .live a2 aq))))
theorem Nx {bf dS:List Int}{d6 eY:Int}{aq:List Int}{r} (h:CJ bf dS d6 eY aq=some r):e6 bz 72 0 69 [1,1,1,0,1,0,0] (B7 bf dS d6) (Ch bf dS d6) (eY,aq) r:=e7 (fun _=>MM) h
def vG (bt bf:List Int):Option (List Int) :=
 if ((len_ R bt) == (0:Int))=true then
  some ([]:List Int)
 else
  if ((len_ R bf) == (0:Int))=true then
   some ([]:List Int)
  else
   if 0≤(U ((len_ R bt)+(len_ R bf)))∧(8:Int)*(U ((len_ R bt)+(len_ R bf)))≤281474976710656∧(U ((len_ R bt)+(len_ R bf)))<9223372036854775808 then
   CJ bf bt (len_ R bt) 0 (List.replicate (U ((len_ R bt)+(len_ R bf))).toNat 0:List Int) >>= fun bl =>
   nP bl >>= fun cj =>
   some cj
   else none
theorem NX {bt bf:List Int}:b2 (vG bt bf) (fun r=>Con bz 69 [.isl 1 (bt.map R),.isl 1 (bf.map R)] [] (.isl 1 (r.map R)) []):=by
 unfold vG
 exact .ite (fun o =>
  .ret (cn [(ak 1),.aY (aD 4 (dE 3 (aF (.aw true) []))),.aw true,(ak 1)] (.ed o o o o da) (.bH (.c6 (.lU 1)))))
  (fun o =>
  (let t1:List cM:=[(ak 1),.aY (aD 7 (aF (.aw false) []))];
  .ite (fun J =>
  .ret (cn (t1.append [.aw true,(ak 1)]) (.ed o o o o J) (.bH (.c6 (.lU 1)))))
  (fun J =>
  .bk fun ao =>
  .aI fun bl aM =>
  .aI fun cj bK =>
  .ret (let aZ:=U ((len_ R bt)+(len_ R bf));let bg:=(List.replicate aZ.toNat 0:List Int);cn (t1.append [.aw false,(ak 7),(ak 3),.bi [14] [.dH (aH 1 R bg)] [(1,ii),(5,hf (bg.length)),(26,ii),(27,ii),(28,ii)],(Ch bf bt (len_ R bt) bl).fU,.hR 0,.aY (b0 1 (.call {ac:=[.bH (.c6 (.eZ (bl.map R)))],r:= .isl 1 (cj.map R),cX:=false,c4:=[0]}) 1)]) (.bF o o o o J ao.1 (Int.le_refl aZ) ao.2.1 (.bF ao.2.2 (ey 1 .live (lB R aZ.toNat 0)) (aU 1 .live a2 bg) (l2 aZ.toNat (0:Int)) (Nx aM) (iM R bl) (ib R bl) (eu a2 bl) (.ar (rs cj bK))))))))
def nl (fp hT:ba):Option ba :=
 vG fp.db hT.db >>= fun ax =>
 k8 (!(fp.dj == hT.dj)) ax >>= fun bh =>
 some bh
theorem tc {fp hT:ba}:b2 (nl fp hT) (fun r=>Con bz 64 [.agg (aJ fp),.agg (aJ hT)] [] (.agg (aJ r)) []):=by
 unfold nl
 exact .aI fun ax J =>
  .aI fun bh aO =>
  .ret (cn [(ak 3),.aY (aD 9 (aF (cT 2 (.isl 1 (ax.map R)) false) (aF (cT 2 (.agg (aJ bh)) false) (aD 1 []))))] (.ay (NX ax J) (qh bh aO)))
def mZ (fp:ba):Option Int :=
 if ((len_ R fp.db) == (0:Int))=true then
  some 0
 else
  if fp.dj=true then
   some (-1)
  else
   some 1
theorem qe {fp:ba}:b2 (mZ fp) (fun r=>Con bz 51 [.agg (aJ fp)] [] (.n .i64 r) []):=by
 unfold mZ
 exact .ite (fun o =>
  .ret (cn [(ak 2),(ak 5),.aw true,(ak 1)] (.ar o)))
  (fun o =>
  (let t1:List cM:=[(ak 2),(ak 5),.aw false,(ak 3)];
  .ite (fun J =>
  .ret (cn (t1.append [.aw true,(ak 1)]) (.ay o J)))
  (fun J =>
  .ret (cn (t1.append [.aw false,(ak 1)]) (.ay o J)))))
def pu (fp:ba):Option ba :=
 k8 (!fp.dj) fp.db >>= fun ax =>
 some ax
theorem Bb {fp:ba}:b2 (pu fp) (fun r=>Con bz 68 [.agg (aJ fp)] [] (.agg (aJ r)) []):=by
 unfold pu
 exact .aI fun ax J =>
  .ret (cn [(ak 2),.aY (b0 5 (cT 2 (.agg (aJ ax)) false) 1)] (.ar (qh ax J)))
def BD (bt bf:List Int):Int→S:=fun a0=>er [(0,.isl 1 (bt.map R)),(1,.isl 1 (bf.map R)),(5,.n .i64 a0)] []
def Gk (bt bf:List Int):((Unit)⊕(Int))→ex
 | .inl a=>⟨some 0,[],[]⟩
 | .inr a=>⟨none,[(4,.n .i64 a)],[]⟩
def BE (bt bf:List Int)(a0:Int):Option ((Int)⊕((Unit)⊕(Int))) :=
 if (decide ((0:Int)≤a0))=true then
  if 0≤a0∧a0<bt.length then
  bt[a0.toNat]? >>= fun a4 =>
  if 0≤a0∧a0<bf.length then
  bf[a0.toNat]? >>= fun cC =>
  if (decide (a4<cC))=true then
   some (.inr (.inr (-1)))
  else
   if (decide (cC<a4))=true then
    some (.inr (.inr 1))
   else
    some (.inl (U (a0-(1:Int))))
  else none
  else none
 else
  some (.inr (.inl ()))
def GF (bt bf:List Int)(a0:Int):Option ((Unit)⊕(Int)):=iter (fun w:Int=>BE bt bf w) a0
theorem Mt {bt bf:List Int}{a0:Int}:b2 (BE bt bf a0) (e5 bz 43 0 71 [1,1,0,1,0,0] (BD bt bf a0) (BD bt bf) (Gk bt bf)):=by
 unfold BE
 exact .ite (fun o =>
  .bk fun J =>
  .aI fun a4 aO =>
  .bk fun aM =>
  .aI fun cC bK =>
  (let t1:List cM:=[(ak 2),.aw true,.aY (aD 3 (aF (.cy (R a4)) (b0 3 (.cy (R cC)) 2)))];
  have a6:=((.fm o J.1 (d1 R J.2) (cr R aO) aM.1 (d1 R aM.2) (cr R bK)):cF _);
  .ite (fun bG =>
  .ret (bP (t1.append [.aw true,(ak 1),.bi [] [] (bI [4])]) (a6.bb (.ar bG))))
  (fun bG =>
  (let t3:List cM:=t1.append [.aw false,.aY (aD 3 (aF (.cy (R a4)) (b0 3 (.cy (R cC)) 2)))];
  have fN:=a6.bb (.fm bG J.1 (d1 R J.2) (cr R aO) aM.1 (d1 R aM.2) (cr R bK));
  .ite (fun d8 =>
  .ret (bP (t3.append [.aw true,(ak 1),.bi [] [] (bI [4])]) (fN.bb (.ar d8))))
  (fun d8 =>
  .ret (bP (t3.append [.aw false,(ak 3),.bi [] [] (bI [0,1,5])]) (fN.bb (.ar d8))))))))
  (fun o =>
  .ret (bP [(ak 2),.aw false,.bi [] [] []] (.ar o)))
theorem Gn {bt bf:List Int}{a0:Int}{r} (h:GF bt bf a0=some r):e6 bz 43 0 71 [1,1,0,1,0,0] (BD bt bf) (Gk bt bf) a0 r:=e7 (fun _=>Mt) h
def oo (bt bf:List Int):Option Int :=
 if ((len_ R bt) != (len_ R bf))=true then
  if (decide ((len_ R bt)<(len_ R bf)))=true then
   some (-1)
  else
   some 1
 else
  GF bt bf (U ((len_ R bt)-(1:Int))) >>= fun bJ =>
  match bJ with
  | .inl gP=>(some 0)
  | .inr gP=>(some gP)
theorem yb {bt bf:List Int}:b2 (oo bt bf) (fun r=>Con bz 71 [.isl 1 (bt.map R),.isl 1 (bf.map R)] [] (.n .i64 r) []):=by
 unfold oo
 exact .ite (fun o =>
  (let t1:List cM:=[(ak 1),(ak 5),.aw true,(ak 5)];
  .ite (fun J =>
  .ret (cn (t1.append [.aw true,(ak 1)]) (.ay o J)))
  (fun J =>
  .ret (cn (t1.append [.aw false,(ak 1)]) (.ay o J)))))
  (fun o =>
  .aI fun bJ ao =>
  (let t1:List cM:=[(ak 1),(ak 5),.aw false,(ak 4),.bi [] [] (bI [0,1,5])];
  (by
  rcases bJ with gP|gP
  ·exact (.ret (cn (t1.append [.sub (.exit 0) [] [],(ak 1)]) (.ay o (Gn ao))))
  ·exact (.ret (cn (t1.append [.sub (.ret) [(4,.n .i64 gP)] []]) (.ay o (Gn ao)))))))
def Ci (bt bf:List Int)(mE:Int):(Int×Int×(List Int))→S:=fun (dt,fe,aq)=>er [(0,.isl 1 (bt.map R)),(1,.isl 1 (bf.map R)),(5,.bp 0 0 0 aq.length),(6,.n .i64 dt),(20,.isl 1 (bt.map R)),(21,.n .i64 mE),(22,.n .i64 fe)] [(aH 1 R aq)]
def x9 (bt bf:List Int)(mE:Int):(Int×(List Int))→ex
 | a=>⟨some 0,[(0,.isl 1 (bt.map R)),(5,.bp 0 0 0 a.2.length),(6,.n .i64 a.1)],[(aH 1 R a.2)]⟩
def tq (bt bf:List Int)(mE dt fe:Int)(aq:List Int):Option ((Int×Int×(List Int))⊕(Int×(List Int))) :=
 if (decide (fe<mE))=true then
  if 0≤fe∧fe<bt.length then
  bt[fe.toNat]? >>= fun a4 =>
  if (decide (fe<(len_ R bf)))=true then
   if 0≤fe∧fe<bf.length then
   bf[fe.toNat]? >>= fun gj =>
   if 0≤fe∧fe<(aq.length:Nat) then
   if (0+fe.toNat)<aq.length then
   some (.inl (U ((U ((U (a4+dt))+gj)).tdiv (1000000000:Int)),U (fe+(1:Int)),aq.set (0+fe.toNat) ((U ((U (a4+dt))+gj)).tmod (1000000000:Int))))
   else none
   else none
   else none
  else
   if 0≤fe∧fe<(aq.length:Nat) then
   if (0+fe.toNat)<aq.length then
   some (.inl (U ((U (a4+dt)).tdiv (1000000000:Int)),U (fe+(1:Int)),aq.set (0+fe.toNat) ((U (a4+dt)).tmod (1000000000:Int))))
   else none
   else none
  else none
 else
  some (.inr (dt,aq))
def vt (bt bf:List Int)(mE dt fe:Int)(aq:List Int):Option (Int×(List Int)):=iter (fun w:Int×Int×(List Int)=>tq bt bf mE w.1 w.2.1 w.2.2) (dt,fe,aq)
theorem MR {bt bf:List Int}{mE dt fe:Int}{aq:List Int}:b2 (tq bt bf mE dt fe aq) (e5 bz 55 0 74 [1,1,1,1,0,1,0,0] (Ci bt bf mE (dt,fe,aq)) (Ci bt bf mE) (x9 bt bf mE)):=by
 unfold tq
 exact .ite (fun o =>
  .bk fun J =>
  .aI fun a4 aO =>
  (let t1:List cM:=[(ak 1),.aw true,.aY (b0 2 (.cy (R a4)) 2),(ak 4),(ak 4)];
  have a6:=((.dc o J.1 (d1 R J.2) (cr R aO)):cF _);
  .ite (fun aM =>
  .bk fun bW =>
  .aI fun gj bG =>
  .bk fun d8 =>
  .bk fun dZ =>
  .ret (let aZ:=U ((U (a4+dt))+gj);bP (t1.append [.aw true,.aY (b0 4 (.cy (R gj)) 2),.aY (b0 7 .eV 1),(ak 2),.bi [0] [.dH (aH 1 R (aq.set (0+fe.toNat) (aZ.tmod (1000000000:Int))))] [(0,ii),(1,ii),(5,hf ((aq.set (0+fe.toNat) (aZ.tmod (1000000000:Int))).length)),(6,ii),(20,ii),(21,ii),(22,ii)]]) (a6.bb (.bF aM bW.1 (d1 R bW.2) (cr R bG) (by decide:(1000000000:Int)≠0) (by decide:(1000000000:Int)≠0) d8.1 d8.2 (.ed (hJ R dZ) (hl 1) (ey 1 .live (f7 (dQ R aq) (0+fe.toNat) (aZ.tmod (1000000000:Int)))) (aU 1 .live a2 (aq.set (0+fe.toNat) (aZ.tmod (1000000000:Int)))) (hL (fo aq) (0+fe.toNat) (aZ.tmod (1000000000:Int))))))))
  (fun aM =>
  .bk fun bW =>
  .bk fun bK =>
  .ret (let bg:=U (a4+dt);bP (t1.append [.aw false,.aY (b0 7 .eV 1),(ak 2),.bi [0] [.dH (aH 1 R (aq.set (0+fe.toNat) (bg.tmod (1000000000:Int))))] [(0,ii),(1,ii),(5,hf ((aq.set (0+fe.toNat) (bg.tmod (1000000000:Int))).length)),(6,ii),(20,ii),(21,ii),(22,ii)]]) (a6.bb (.bF aM (by decide:(1000000000:Int)≠0) (by decide:(1000000000:Int)≠0) bW.1 bW.2 (hJ R bK) (hl 1) (ey 1 .live (f7 (dQ R aq) (0+fe.toNat) (bg.tmod (1000000000:Int)))) (.ay (aU 1 .live a2 (aq.set (0+fe.toNat) (bg.tmod (1000000000:Int)))) (hL (fo aq) (0+fe.toNat) (bg.tmod (1000000000:Int))))))))))
  (fun o =>
  .ret (bP [(ak 1),.aw false,.bi [0] [.pure] (bI [0,5,6])] (.ay o (aU 1 .live a2 aq))))
theorem GG {bt bf:List Int}{mE dt fe:Int}{aq:List Int}{r} (h:vt bt bf mE dt fe aq=some r):e6 bz 55 0 74 [1,1,1,1,0,1,0,0] (Ci bt bf mE) (x9 bt bf mE) (dt,fe,aq) r:=e7 (fun _=>MR) h
def tL (bt bf:List Int):Option (List Int) :=
 if (decide ((len_ R bt)<(len_ R bf)))=true then
  if 0≤(U ((len_ R bf)+(1:Int)))∧(8:Int)*(U ((len_ R bf)+(1:Int)))≤281474976710656∧(U ((len_ R bf)+(1:Int)))<9223372036854775808 then
  vt bf bt (len_ R bf) 0 0 (List.replicate (U ((len_ R bf)+(1:Int))).toNat 0:List Int) >>= fun bh =>
  if 0≤(len_ R bf)∧(len_ R bf)<(bh.2.length:Nat) then
  if (0+(len_ R bf).toNat)<bh.2.length then
  nP (bh.2.set (0+(len_ R bf).toNat) bh.1) >>= fun cu =>
  some cu
  else none
  else none
  else none
 else
  if 0≤(U ((len_ R bt)+(1:Int)))∧(8:Int)*(U ((len_ R bt)+(1:Int)))≤281474976710656∧(U ((len_ R bt)+(1:Int)))<9223372036854775808 then
  vt bt bf (len_ R bt) 0 0 (List.replicate (U ((len_ R bt)+(1:Int))).toNat 0:List Int) >>= fun bh =>
  if 0≤(len_ R bt)∧(len_ R bt)<(bh.2.length:Nat) then
  if (0+(len_ R bt).toNat)<bh.2.length then
  nP (bh.2.set (0+(len_ R bt).toNat) bh.1) >>= fun cu =>
  some cu
  else none
  else none
  else none
theorem N8 {bt bf:List Int}:b2 (tL bt bf) (fun r=>Con bz 74 [.isl 1 (bt.map R),.isl 1 (bf.map R)] [] (.isl 1 (r.map R)) []):=by
 unfold tL
 exact .ite (fun o =>
  .bk fun J =>
  .aI fun bh aO =>
  .bk fun aM =>
  .bk fun bW =>
  .aI fun cu bG =>
  .ret (let bg:=len_ R bf;let aZ:=(U (bg+(1:Int)));let ck:=(List.replicate aZ.toNat 0:List Int);let cS:=hL (fo bh.2) (0+bg.toNat) bh.1;cn [(ak 1),(ak 5),.aw true,(ak 4),(ak 5),(ak 1),(ak 3),.bi [13] [.dH (aH 1 R ck)] [(0,ii),(1,ii),(5,hf (ck.length)),(6,ii),(20,ii),(21,ii),(22,ii)],(x9 bf bt bg bh).fU,.aY (aD 5 (aF .eV [])),.hR 0,.aY (b0 1 (.call {ac:=[.bH (.c6 (.eZ ((bh.2.set (0+bg.toNat) bh.1).map R)))],r:= .isl 1 (cu.map R),cX:=false,c4:=[0]}) 1)] (.bF o J.1 (Int.le_refl aZ) J.2.1 J.2.2 (ey 1 .live (lB R aZ.toNat 0)) (aU 1 .live a2 ck) (l2 aZ.toNat (0:Int)) (.bF (GG aO) aM.1 aM.2 (hJ R bW) (hl 1) (kn (f7 (dQ R bh.2) (0+bg.toNat) bh.1) cS) (kI (f7 (dQ R bh.2) (0+bg.toNat) bh.1) cS) (eu a2 (bh.2.set (0+bg.toNat) bh.1)) (.ar (rs cu bG))))))
  (fun o =>
  .bk fun J =>
  .aI fun bh aO =>
  .bk fun aM =>
  .bk fun bW =>
  .aI fun cu bG =>
  .ret (let gI:=len_ R bt;let eB:=(U (gI+(1:Int)));let i7:=(List.replicate eB.toNat 0:List Int);let fg:=hL (fo bh.2) (0+gI.toNat) bh.1;cn [(ak 1),(ak 5),.aw false,(ak 5),(ak 1),(ak 3),.bi [9] [.dH (aH 1 R i7)] [(0,ii),(1,ii),(5,hf (i7.length)),(6,ii),(20,ii),(21,ii),(22,ii)],(x9 bt bf gI bh).fU,.aY (aD 5 (aF .eV [])),.hR 0,.aY (b0 1 (.call {ac:=[.bH (.c6 (.eZ ((bh.2.set (0+gI.toNat) bh.1).map R)))],r:= .isl 1 (cu.map R),cX:=false,c4:=[0]}) 1)] (.bF o J.1 (Int.le_refl eB) J.2.1 J.2.2 (ey 1 .live (lB R eB.toNat 0)) (aU 1 .live a2 i7) (l2 eB.toNat (0:Int)) (.bF (GG aO) aM.1 aM.2 (hJ R bW) (hl 1) (kn (f7 (dQ R bh.2) (0+gI.toNat) bh.1) fg) (kI (f7 (dQ R bh.2) (0+gI.toNat) bh.1) fg) (eu a2 (bh.2.set (0+gI.toNat) bh.1)) (.ar (rs cu bG))))))
def B9 (bf hY:List Int)(ct:Int):(Int×Int×(List Int))→S:=fun (ko,b3,aq)=>er [(1,.isl 1 (bf.map R)),(5,.bp 0 0 0 aq.length),(6,.n .i64 ko),(12,.isl 1 (hY.map R)),(13,.n .i64 ct),(14,.n .i64 b3)] [(aH 1 R aq)]
def Cj (bf hY:List Int)(ct:Int):(List Int)→ex
 | a=>⟨some 0,[(5,.bp 0 0 0 a.length)],[(aH 1 R a)]⟩
def tn (bf hY:List Int)(ct ko b3:Int)(aq:List Int):Option ((Int×Int×(List Int))⊕((List Int))) :=
 if (decide (b3<ct))=true then
  if 0≤b3∧b3<hY.length then
  hY[b3.toNat]? >>= fun a4 =>
  if (decide (b3<(len_ R bf)))=true then
   if 0≤b3∧b3<bf.length then
   bf[b3.toNat]? >>= fun gj =>
   if (decide ((U ((U (a4-ko))-gj))<(0:Int)))=true then
    if 0≤b3∧b3<(aq.length:Nat) then
    if (0+b3.toNat)<aq.length then
    some (.inl (1,U (b3+(1:Int)),aq.set (0+b3.toNat) (U ((U ((U (a4-ko))-gj))+(1000000000:Int)))))
    else none
    else none
   else
    if 0≤b3∧b3<(aq.length:Nat) then
    if (0+b3.toNat)<aq.length then
    some (.inl (0,U (b3+(1:Int)),aq.set (0+b3.toNat) (U ((U (a4-ko))-gj))))
    else none
    else none
   else none
  else
   if (decide ((U (a4-ko))<(0:Int)))=true then
    if 0≤b3∧b3<(aq.length:Nat) then
    if (0+b3.toNat)<aq.length then
    some (.inl (1,U (b3+(1:Int)),aq.set (0+b3.toNat) (U ((U (a4-ko))+(1000000000:Int)))))
    else none
    else none
   else
    if 0≤b3∧b3<(aq.length:Nat) then
    if (0+b3.toNat)<aq.length then
    some (.inl (0,U (b3+(1:Int)),aq.set (0+b3.toNat) (U (a4-ko))))
    else none
    else none
  else none
 else
  some (.inr aq)
def CK (bf hY:List Int)(ct ko b3:Int)(aq:List Int):Option ((List Int)):=iter (fun w:Int×Int×(List Int)=>tn bf hY ct w.1 w.2.1 w.2.2) (ko,b3,aq)
theorem MN {bf hY:List Int}{ct ko b3:Int}{aq:List Int}:b2 (tn bf hY ct ko b3 aq) (e5 bz 43 0 75 [1,1,1,0,1,0,0] (B9 bf hY ct (ko,b3,aq)) (B9 bf hY ct) (Cj bf hY ct)):=by
 unfold tn
 exact .ite (fun o =>
  .bk fun J =>
  .aI fun a4 aO =>
  (let t1:List cM:=[(ak 1),.aw true,.aY (b0 2 (.cy (R a4)) 2),(ak 4),(ak 4)];
  have a6:=((.dc o J.1 (d1 R J.2) (cr R aO)):cF _);
  .ite (fun aM =>
  .bk fun bW =>
  .aI fun gj bG =>
  (let t3:List cM:=t1.append [.aw true,.aY (b0 4 (.cy (R gj)) 2),(ak 1),(ak 2)];
  have fN:=a6.bb (.dc aM bW.1 (d1 R bW.2) (cr R bG));
  .ite (fun d8 =>
  .bk fun dZ =>
  .bk fun dG =>
  .ret (let aZ:=(U ((U ((U (a4-ko))-gj))+(1000000000:Int)));bP (t3.append [.aw true,(ak 3),(ak 1),.aY (aD 4 (aF .eV [])),(ak 2),.bi [0] [.dH (aH 1 R (aq.set (0+b3.toNat) aZ))] [(1,ii),(5,hf ((aq.set (0+b3.toNat) aZ).length)),(6,ii),(12,ii),(13,ii),(14,ii)]]) (fN.bb (.ja d8 dZ.1 dZ.2 (hJ R dG) (hl 1) (ey 1 .live (f7 (dQ R aq) (0+b3.toNat) aZ)) (aU 1 .live a2 (aq.set (0+b3.toNat) aZ)) (hL (fo aq) (0+b3.toNat) aZ)))))
  (fun d8 =>
  .bk fun dZ =>
  .bk fun dG =>
  .ret (let bg:=U ((U (a4-ko))-gj);bP (t3.append [.aw false,.aY (aD 4 (aF .eV [])),(ak 2),.bi [0] [.dH (aH 1 R (aq.set (0+b3.toNat) bg))] [(1,ii),(5,hf ((aq.set (0+b3.toNat) bg).length)),(6,ii),(12,ii),(13,ii),(14,ii)]]) (fN.bb (.ja d8 dZ.1 dZ.2 (hJ R dG) (hl 1) (ey 1 .live (f7 (dQ R aq) (0+b3.toNat) bg)) (aU 1 .live a2 (aq.set (0+b3.toNat) bg)) (hL (fo aq) (0+b3.toNat) bg)))))))
  (fun aM =>
  (let t3:List cM:=t1.append [.aw false,(ak 1),(ak 2)];
  .ite (fun bW =>
  .bk fun bK =>
  .bk fun bG =>
  .ret (let ck:=(U ((U (a4-ko))+(1000000000:Int)));bP (t3.append [.aw true,(ak 3),(ak 1),.aY (aD 4 (aF .eV [])),(ak 2),.bi [0] [.dH (aH 1 R (aq.set (0+b3.toNat) ck))] [(1,ii),(5,hf ((aq.set (0+b3.toNat) ck).length)),(6,ii),(12,ii),(13,ii),(14,ii)]]) (a6.bb (.bF aM bW bK.1 bK.2 (hJ R bG) (hl 1) (ey 1 .live (f7 (dQ R aq) (0+b3.toNat) ck)) (aU 1 .live a2 (aq.set (0+b3.toNat) ck)) (.ar (hL (fo aq) (0+b3.toNat) ck))))))
  (fun bW =>
  .bk fun bK =>
  .bk fun bG =>
  .ret (let cS:=U (a4-ko);bP (t3.append [.aw false,.aY (aD 4 (aF .eV [])),(ak 2),.bi [0] [.dH (aH 1 R (aq.set (0+b3.toNat) cS))] [(1,ii),(5,hf ((aq.set (0+b3.toNat) cS).length)),(6,ii),(12,ii),(13,ii),(14,ii)]]) (a6.bb (.bF aM bW bK.1 bK.2 (hJ R bG) (hl 1) (ey 1 .live (f7 (dQ R aq) (0+b3.toNat) cS)) (aU 1 .live a2 (aq.set (0+b3.toNat) cS)) (.ar (hL (fo aq) (0+b3.toNat) cS))))))))))
  (fun o =>
  .ret (bP [(ak 1),.aw false,.bi [0] [.pure] (bI [5])] (.ay o (aU 1 .live a2 aq))))
theorem Ny {bf hY:List Int}{ct ko b3:Int}{aq:List Int}{r} (h:CK bf hY ct ko b3 aq=some r):e6 bz 43 0 75 [1,1,1,0,1,0,0] (B9 bf hY ct) (Cj bf hY ct) (ko,b3,aq) r:=e7 (fun _=>MN) h
def qj (bt bf:List Int):Option (List Int) :=
 if 0≤(len_ R bt)∧(8:Int)*(len_ R bt)≤281474976710656∧(len_ R bt)<9223372036854775808 then
 CK bf bt (len_ R bt) 0 0 (List.replicate (len_ R bt).toNat 0:List Int) >>= fun bJ =>
 nP bJ >>= fun bl =>
 some bl
 else none
theorem GS {bt bf:List Int}:b2 (qj bt bf) (fun r=>Con bz 75 [.isl 1 (bt.map R),.isl 1 (bf.map R)] [] (.isl 1 (r.map R)) []):=by
 unfold qj
 exact .bk fun o =>
  .aI fun bJ ao =>
  .aI fun bl aM =>
  .ret (let bg:=len_ R bt;let aZ:=(List.replicate bg.toNat 0:List Int);cn [(ak 1),(ak 4),(ak 1),(ak 3),.bi [3] [.dH (aH 1 R aZ)] [(1,ii),(5,hf (aZ.length)),(6,ii),(12,ii),(13,ii),(14,ii)],(Cj bf bt bg bJ).fU,.hR 0,.aY (b0 1 (.call {ac:=[.bH (.c6 (.eZ (bJ.map R)))],r:= .isl 1 (bl.map R),cX:=false,c4:=[0]}) 1)] (.bF o.1 (Int.le_refl bg) o.2.1 o.2.2 (ey 1 .live (lB R bg.toNat 0)) (aU 1 .live a2 aZ) (l2 bg.toNat (0:Int)) (Ny ao) (.dc (iM R bJ) (ib R bJ) (eu a2 bJ) (rs bl aM))))
def tu (fp hT:ba):Option ba :=
 oo fp.db hT.db >>= fun ax =>
 if (fp.dj == hT.dj)=true then
  tL fp.db hT.db >>= fun bl =>
  k8 fp.dj bl >>= fun cj =>
  some cj
 else
  if (decide ((0:Int)≤ax))=true then
   qj fp.db hT.db >>= fun br =>
   k8 fp.dj br >>= fun cu =>
   some cu
  else
   qj hT.db fp.db >>= fun br =>
   k8 hT.dj br >>= fun cu =>
   some cu
theorem M2 {fp hT:ba}:b2 (tu fp hT) (fun r=>Con bz 70 [.agg (aJ fp),.agg (aJ hT)] [] (.agg (aJ r)) []):=by
 unfold tu
 exact .aI fun ax J =>
  (let t1:List cM:=[(ak 3),.aY (b0 4 (cT 2 (.n .i64 ax) true) 1),(ak 6)];
  have a6:=((.ay (yb ax J) (cx.n .i64 ax)):cF _);
  .ite (fun ao =>
  .aI fun bl aM =>
  .aI fun cj bK =>
  .ret (cn (t1.append [.aw true,.aY (aD 6 (aF (cT 2 (.isl 1 (bl.map R)) false) (aF (cT 2 (.agg (aJ cj)) false) (aD 1 []))))]) (a6.bb (.bR ao (N8 bl aM) (qh cj bK)))))
  (fun ao =>
  .ite (fun aO =>
  .aI fun br bW =>
  .aI fun cu bG =>
  .ret (cn (t1.append [.aw false,(ak 3),.aw true,.aY (aD 6 (aF (cT 2 (.isl 1 (br.map R)) false) (aF (cT 2 (.agg (aJ cu)) false) (aD 1 []))))]) (a6.bb (.dc ao aO (GS br bW) (qh cu bG)))))
  (fun aO =>
  .aI fun br bW =>
  .aI fun cu bG =>
  .ret (cn (t1.append [.aw false,(ak 3),.aw false,.aY (aD 6 (aF (cT 2 (.isl 1 (br.map R)) false) (aF (cT 2 (.agg (aJ cu)) false) (aD 1 []))))]) (a6.bb (.dc ao aO (GS br bW) (qh cu bG)))))))
def ri (fp hT:ba):Option ba :=
 pu hT >>= fun ax =>
 tu fp ax >>= fun bh =>
 some bh
theorem Ge {fp hT:ba}:b2 (ri fp hT) (fun r=>Con bz 65 [.agg (aJ fp),.agg (aJ hT)] [] (.agg (aJ r)) []):=by
 unfold ri
 exact .aI fun ax J =>
  .aI fun bh aO =>
  .ret (cn [(ak 3),.aY (aD 2 (aF (cT 1 (.agg (aJ ax)) false) (aF (cT 2 (.agg (aJ bh)) false) (aD 1 []))))] (.ay (Bb ax J) (M2 bh aO)))
def A7 (hb:List (List ba))(ix:Bool)(iu g7:List Int)(hn:Int)(ir:List Bool)(jE:List Int)(bO h7:Int):(Int×Bool×(List Int))→S:=fun (kp,az,aB)=>er [(0,.dg 6 [[.isl 1 (hb.map (cl 2 aJ)),.b ix,.isl 1 (iu.map R),.isl 1 (g7.map R),.n .i64 hn,.isl 1 (ir.map df)]] 0 0),(1,.isl 1 (jE.map R)),(2,.n .i64 bO),(7,.ref 0 0 0 0),(23,.isl 1 (g7.map R)),(24,.n .i64 h7),(25,.n .i64 kp)] [[ap.mk 2 [[.b az,.isl 1 (aB.map R)]] .live]]
def Gb (hb:List (List ba))(ix:Bool)(iu g7:List Int)(hn:Int)(ir:List Bool)(jE:List Int)(bO h7:Int):(Bool×(List Int))→ex
 | a=>⟨some 0,[(7,.ref 0 0 0 0)],[[ap.mk 2 [[.b a.1,.isl 1 (a.2.map R)]] .live]]⟩
def s0 (hb:List (List ba))(ix:Bool)(iu g7:List Int)(hn:Int)(ir:List Bool)(jE:List Int)(bO h7 kp:Int)(az:Bool)(aB:List Int):Option ((Int×Bool×(List Int))⊕(Bool×(List Int))) :=
 if (decide (kp<h7))=true then
  if 0≤kp∧kp<g7.length then
  g7[kp.toNat]? >>= fun a4 =>
  if 0≤a4∧a4<jE.length then
  jE[a4.toNat]? >>= fun cC =>
  if (cC != (0:Int))=true then
   if 0≤kp∧kp<hb.length then
   hb[kp.toNat]? >>= fun j0 =>
   if 0≤bO∧bO<j0.length then
   j0[bO.toNat]? >>= fun oT =>
   mZ oT >>= fun eR =>
   if (eR != (0:Int))=true then
    mr cC >>= fun dT =>
    nl oT dT >>= fun jM =>
    ri (⟨az,aB⟩:ba) jM >>= fun xf =>
    some (.inl (U (kp+(1:Int)),xf.dj,xf.db))
   else
    some (.inl (U (kp+(1:Int)),az,aB))
   else none
   else none
  else
   some (.inl (U (kp+(1:Int)),az,aB))
  else none
  else none
 else
  some (.inr (az,aB))
def BF (hb:List (List ba))(ix:Bool)(iu g7:List Int)(hn:Int)(ir:List Bool)(jE:List Int)(bO h7 kp:Int)(az:Bool)(aB:List Int):Option (Bool×(List Int)):=iter (fun w:Int×Bool×(List Int)=>s0 hb ix iu g7 hn ir jE bO h7 w.1 w.2.1 w.2.2) (kp,az,aB)
theorem L5 {hb:List (List ba)}{ix:Bool}{iu g7:List Int}{hn:Int}{ir:List Bool}{jE:List Int}{bO h7 kp:Int}{az:Bool}{aB:List Int}:b2 (s0 hb ix iu g7 hn ir jE bO h7 kp az aB) (e5 bz 70 0 60 [1,1,0,1,0,0] (A7 hb ix iu g7 hn ir jE bO h7 (kp,az,aB)) (A7 hb ix iu g7 hn ir jE bO h7) (Gb hb ix iu g7 hn ir jE bO h7)):=by
 unfold s0
 exact .ite (fun o =>
  .bk fun J =>
  .aI fun a4 aO =>
  .bk fun aM =>
  .aI fun cC bK =>
  (let t1:List cM:=[(ak 1),.aw true,.aY (b0 2 (.cy (R a4)) 2)];
  have a6:=((.fm o J.1 (d1 R J.2) (cr R aO) aM.1 (d1 R aM.2) (cr R bK)):cF _);
  .ite (fun bG =>
  .bk fun d8 =>
  .aI fun j0 dG =>
  .bk fun eT =>
  .aI fun oT dL =>
  .aI fun eR lR =>
  (let t3:List cM:=t1.append [.aY (aD 3 (aF (.cy (R cC)) (aD 8 (aF (.cy ((cl 2 aJ) j0)) (aD 2 (aF (.cy (aJ oT)) (aF (cT 1 (.n .i64 eR) true) (aD 1 (aF (.aw true) [])))))))))];
  have fN:=a6.bb (.bF bG bG bG bG bG bG d8.1 (d1 (cl 2 aJ) d8.2) (.bF bG (cr (cl 2 aJ) dG) bG bG eT.1 (d1 aJ eT.2) bG (cr aJ dL) (.ed bG (qe eR lR) (cx.n .i64 eR) bG bG)));
  .ite (fun fF =>
  .aI fun dT kv =>
  .aI fun jM lp =>
  .aI fun xf im =>
  .ret (bP (t3.append [.aw true,.aY (aD 7 (aF (.cy ((cl 2 aJ) j0)) (aD 2 (aF (.cy (aJ oT)) (aD 3 (aF (.cy (R cC)) (aF (cT 1 (.agg (aJ dT)) false) (aF (cT 2 (.agg (aJ jM)) false) (aF (cT 2 (.agg (aJ xf)) false) (aD 1 [])))))))))),(ak 2),.bi [0] [.box [.id,.id]] (bI [0,1,2,7,23,24,25])]) (fN.bb (.bF fF d8.1 (d1 (cl 2 aJ) d8.2) (cr (cl 2 aJ) dG) eT.1 (d1 aJ eT.2) (cr aJ dL) aM.1 (.ed (d1 R aM.2) (cr R bK) (px dT kv) (tc jM lp) (Ge xf im))))))
  (fun fF =>
  .ret (bP (t3.append [.aw false,(ak 2),.bi [0] [.box [.id,.id]] (bI [0,1,2,7,23,24,25])]) (fN.bb (.ar fF))))))
  (fun bG =>
  .ret (bP (t1.append [.aY (aD 3 (aF (.cy (R cC)) (aD 2 (dE 12 (aF (.aw false) []))))),.aw false,(ak 2),.bi [0] [.box [.id,.id]] (bI [0,1,2,7,23,24,25])]) (a6.bb (.bF bG bG bG bG bG bG bG bG (.eW bG bG bG bG bG iZ)))))))
  (fun o =>
  .ret (bP [(ak 1),.aw false,.bi [0] [.box [.id,.id]] (bI [7])] (.ar o)))
theorem Mu {hb:List (List ba)}{ix:Bool}{iu g7:List Int}{hn:Int}{ir:List Bool}{jE:List Int}{bO h7 kp:Int}{az:Bool}{aB:List Int}{r} (h:BF hb ix iu g7 hn ir jE bO h7 kp az aB=some r):e6 bz 70 0 60 [1,1,0,1,0,0] (A7 hb ix iu g7 hn ir jE bO h7) (Gb hb ix iu g7 hn ir jE bO h7) (kp,az,aB) r:=e7 (fun _=>L5) h
def tr (j1:ov)(jE:List Int)(bO:Int):Option Int :=
 if 0≤bO∧bO<jE.length then
 jE[bO.toNat]? >>= fun ek =>
 mr ek >>= fun bl =>
 nl j1.so bl >>= fun cj =>
 BF j1.zg j1.so.dj j1.so.db j1.y7 j1.DT j1.DU jE bO (len_ R j1.y7) 0 cj.dj cj.db >>= fun fu =>
 mZ (⟨fu.1,fu.2⟩:ba) >>= fun fK =>
 some fK
 else none
theorem Gf {j1:ov}{jE:List Int}{bO:Int}:b2 (tr j1 jE bO) (fun r=>Con bz 60 [.dg 6 [(tI j1)] 0 0,.isl 1 (jE.map R),.n .i64 bO] [] (.n .i64 r) []):=by
 unfold tr
 exact .bk fun o =>
  .aI fun ek ao =>
  .aI fun bl aM =>
  .aI fun cj bK =>
  .aI fun fu d8 =>
  .aI fun fK dG =>
  .ret (cn [(ak 1),.aY (aD 7 (aF (.cy (R ek)) (aF (cT 1 (.agg (aJ bl)) false) (aF (cT 2 (.agg (aJ cj)) false) (aD 2 []))))),(ak 6),.bi [11] [.box [.id,.id]] (bI [0,1,2,7,23,24,25]),.sub (.exit 0) [(7,.ref 0 0 0 0)] [[ap.mk 2 [[.b fu.1,.isl 1 (fu.2.map R)]] .live]],.aY (b0 1 (cT 1 (.n .i64 fK) true) 1)] (.ja o.1 (d1 R o.2) (cr R ao) (px bl aM) (tc cj bK) (Mu d8) (qe fK dG) (cx.n .i64 fK)))
def pv (fp hT:ba):Option Int :=
 if (fp.dj == hT.dj)=true then
  if fp.dj=true then
   oo hT.db fp.db >>= fun bh =>
   some bh
  else
   oo fp.db hT.db >>= fun bh =>
   some bh
 else
  if fp.dj=true then
   some (-1)
  else
   some 1
theorem MG {fp hT:ba}:b2 (pv fp hT) (fun r=>Con bz 66 [.agg (aJ fp),.agg (aJ hT)] [] (.n .i64 r) []):=by
 unfold pv
 exact .ite (fun o =>
  (let t1:List cM:=[(ak 3),.aY (aD 6 (dE 2 (aF (.aw false) (aD 1 [])))),.aw false,(ak 6),.aw false,(ak 3)];
  have a6:=((.ed (d3 o) (d3 o) (d3 o) iZ (d3 o)):cF _);
  .ite (fun J =>
  .aI fun bh aO =>
  .ret (cn (t1.append [.aw true,.aY (b0 4 (cT 2 (.n .i64 bh) true) 1)]) (a6.bb (.bR J (yb bh aO) (cx.n .i64 bh)))))
  (fun J =>
  .aI fun bh aO =>
  .ret (cn (t1.append [.aw false,.aY (b0 4 (cT 2 (.n .i64 bh) true) 1)]) (a6.bb (.bR J (yb bh aO) (cx.n .i64 bh)))))))
  (fun o =>
  (let t1:List cM:=[(ak 3),.aY (b0 8 (.aw true) 1)];
  have a6:=((.bR (ea o) (ea o) (ea o)):cF _);
  .ite (fun J =>
  .ret (cn (t1.append [.aw true,(ak 1)]) (a6.bb (.ar J))))
  (fun J =>
  .ret (cn (t1.append [.aw false,(ak 6),.aw true,(ak 1)]) (a6.bb (.ay J (ea o)))))))
def AS (hb:List (List ba))(ix:Bool)(iu g7:List Int)(hn:Int)(ir:List Bool)(bO ct:Int):(Int×Int)→S:=fun (kc,b3)=>er [(0,.dg 6 [[.isl 1 (hb.map (cl 2 aJ)),.b ix,.isl 1 (iu.map R),.isl 1 (g7.map R),.n .i64 hn,.isl 1 (ir.map df)]] 0 0),(1,.n .i64 bO),(5,.n .i64 kc),(12,.isl 1 (hb.map (cl 2 aJ))),(13,.n .i64 ct),(14,.n .i64 b3)] []
def F8 (hb:List (List ba))(ix:Bool)(iu g7:List Int)(hn:Int)(ir:List Bool)(bO ct:Int):Int→ex
 | a=>⟨some 0,[(5,.n .i64 a)],[]⟩
def sS (hb:List (List ba))(ix:Bool)(iu g7:List Int)(hn:Int)(ir:List Bool)(bO ct kc b3:Int):Option ((Int×Int)⊕(Int)) :=
 if (decide (b3<ct))=true then
  if 0≤b3∧b3<hb.length then
  hb[b3.toNat]? >>= fun a4 =>
  if 0≤bO∧bO<a4.length then
  a4[bO.toNat]? >>= fun cC =>
  mZ cC >>= fun fu =>
  if (decide (fu≤(0:Int)))=true then
   some (.inl (kc,U (b3+(1:Int))))
  else
   if (decide (kc<(0:Int)))=true then
    some (.inl (b3,U (b3+(1:Int))))
   else
    if 0≤hn∧hn<a4.length then
    a4[hn.toNat]? >>= fun oT =>
    if 0≤kc∧kc<hb.length then
    hb[kc.toNat]? >>= fun kx =>
    if 0≤bO∧bO<kx.length then
    kx[bO.toNat]? >>= fun oU =>
    nl oT oU >>= fun il =>
    if 0≤hn∧hn<kx.length then
    kx[hn.toNat]? >>= fun mR =>
    nl mR cC >>= fun jl =>
    pv il jl >>= fun ky =>
    if (decide (ky<(0:Int)))=true then
     some (.inl (b3,U (b3+(1:Int))))
    else
     if (ky == (0:Int))=true then
      if 0≤b3∧b3<g7.length then
      g7[b3.toNat]? >>= fun EQ =>
      if 0≤kc∧kc<g7.length then
      g7[kc.toNat]? >>= fun ER =>
      if (decide (EQ<ER))=true then
       some (.inl (b3,U (b3+(1:Int))))
      else
       some (.inl (kc,U (b3+(1:Int))))
      else none
      else none
     else
      some (.inl (kc,U (b3+(1:Int))))
    else none
    else none
    else none
    else none
  else none
  else none
 else
  some (.inr kc)
def Bc (hb:List (List ba))(ix:Bool)(iu g7:List Int)(hn:Int)(ir:List Bool)(bO ct kc b3:Int):Option (Int):=iter (fun w:Int×Int=>sS hb ix iu g7 hn ir bO ct w.1 w.2) (kc,b3)
theorem LS {hb:List (List ba)}{ix:Bool}{iu g7:List Int}{hn:Int}{ir:List Bool}{bO ct kc b3:Int}:b2 (sS hb ix iu g7 hn ir bO ct kc b3) (e5 bz 91 0 61 [1,1,0,1,0,0] (AS hb ix iu g7 hn ir bO ct (kc,b3)) (AS hb ix iu g7 hn ir bO ct) (F8 hb ix iu g7 hn ir bO ct)):=by
 unfold sS
 exact .ite (fun o =>
  .bk fun J =>
  .aI fun a4 aO =>
  .bk fun aM =>
  .aI fun cC bK =>
  .aI fun fu d8 =>
  (let t1:List cM:=[(ak 1),.aw true,.aY (b0 2 (.cy ((cl 2 aJ) a4)) 2),.aY (aD 3 (aF (.cy (aJ cC)) (aF (cT 1 (.n .i64 fu) true) (aD 1 []))))];
  have a6:=((.bF o J.1 (d1 (cl 2 aJ) J.2) (cr (cl 2 aJ) aO) aM.1 (d1 aJ aM.2) (cr aJ bK) (qe fu d8) (.ar (cx.n .i64 fu))):cF _);
  .ite (fun dZ =>
  .ret (bP (t1.append [.aw true,(ak 2),.bi [] [] (bI [0,1,5,12,13,14])]) (a6.bb (.ar dZ))))
  (fun dZ =>
  .ite (fun dG =>
  .ret (bP (t1.append [.aw false,(ak 2),.aw true,(ak 2),(ak 2),.bi [] [] (bI [0,1,5,12,13,14])]) (a6.bb (.ay dZ dG))))
  (fun dG =>
  .bk fun eT =>
  .aI fun oT dL =>
  .bk fun hg =>
  .aI fun kx fF =>
  .bk fun lS =>
  .aI fun oU kj =>
  .aI fun il hF =>
  .bk fun im =>
  .aI fun mR mS =>
  .aI fun jl sq =>
  .aI fun ky mT =>
  (let aZ:=cl 2 aJ;let t3:List cM:=t1.append [.aw false,(ak 2),.aw false,.aY (aD 6 (aF (.cy (aJ oT)) (aD 6 (aF (.cy (aZ kx)) (aD 2 (aF (.cy (aJ oU)) (aF (cT 2 (.agg (aJ il)) false) (aD 6 (aF (.cy (aZ kx)) (aD 5 (aF (.cy (aJ mR)) (aD 3 (aF (.cy (aJ cC)) (aF (cT 2 (.agg (aJ jl)) false) (aF (cT 2 (.n .i64 ky) true) (aD 1 []))))))))))))))))];
  have fN:=a6.bb (.bF dZ dG eT.1 (d1 aJ eT.2) (cr aJ dL) hg.1 (d1 aZ hg.2) (cr aZ fF) (.bF lS.1 (d1 aJ lS.2) (cr aJ kj) (tc il hF) hg.1 (d1 aZ hg.2) (cr aZ fF) im.1 (.ja (d1 aJ im.2) (cr aJ mS) aM.1 (d1 aJ aM.2) (cr aJ bK) (tc jl sq) (MG ky mT) (cx.n .i64 ky))));
  .ite (fun mg =>
  .ret (bP (t3.append [.aY (aD 3 (dE 3 (aD 15 (dE 1 (aF (.aw true) []))))),.aw true,(ak 2),(ak 2),.bi [] [] (bI [0,1,5,12,13,14])]) (fN.bb (.eW mg mg mg mg mg da))))
  (fun mg =>
  .ite (fun gZ =>
  .bk fun KD =>
  .aI fun EQ Ty =>
  .bk fun KE =>
  .aI fun ER Tz =>
  (let t5:List cM:=t3.append [.aY (aD 12 (aF (.cy (R EQ)) (aD 6 (aF (.cy (R ER)) (aD 1 (aF (.aw true) (aF (.aw false) [])))))))];
  have kl:=fN.bb (.bF mg mg mg gZ gZ gZ gZ gZ (.bF gZ KD.1 (d1 R KD.2) gZ (cr R Ty) gZ gZ gZ (.bF gZ gZ gZ KE.1 (d1 R KE.2) gZ (cr R Tz) gZ (.bR mg gZ mg))));
  .ite (fun ES =>
  .ret (bP (t5.append [.aw true,(ak 2),(ak 2),.bi [] [] (bI [0,1,5,12,13,14])]) (kl.bb (.ar ES))))
  (fun ES =>
  .ret (bP (t5.append [.aw false,(ak 2),.bi [] [] (bI [0,1,5,12,13,14])]) (kl.bb (.ar ES))))))
  (fun gZ =>
  .ret (bP (t3.append [.aY (aD 6 (dE 15 (aF (.aw false) (aF (.aw false) [])))),.aw false,(ak 2),.bi [] [] (bI [0,1,5,12,13,14])]) (fN.bb (.bF mg mg mg gZ gZ gZ gZ gZ (.bF gZ gZ gZ gZ gZ gZ gZ gZ (.eW gZ gZ mg gZ mg iZ))))))))))))
  (fun o =>
  .ret (bP [(ak 1),.aw false,.bi [] [] (bI [5])] (.ar o)))
theorem L8 {hb:List (List ba)}{ix:Bool}{iu g7:List Int}{hn:Int}{ir:List Bool}{bO ct kc b3:Int}{r} (h:Bc hb ix iu g7 hn ir bO ct kc b3=some r):e6 bz 91 0 61 [1,1,0,1,0,0] (AS hb ix iu g7 hn ir bO ct) (F8 hb ix iu g7 hn ir bO ct) (kc,b3) r:=e7 (fun _=>LS) h
def ve (j1:ov)(bO:Int):Option Int :=
 Bc j1.zg j1.so.dj j1.so.db j1.y7 j1.DT j1.DU bO (len_ (cl 2 aJ) j1.zg) (-1) 0 >>= fun ax =>
 some ax
theorem Mv {j1:ov}{bO:Int}:b2 (ve j1 bO) (fun r=>Con bz 61 [.dg 6 [(tI j1)] 0 0,.n .i64 bO] [] (.n .i64 r) []):=by
 unfold ve
 exact .aI fun ax J =>
  .ret (cn [(ak 1),(ak 1),(ak 6),.bi [] [] (bI [0,1,5,12,13,14]),.sub (.exit 0) [(5,.n .i64 ax)] [],(ak 2)] (.ar (L8 J)))
def vX (aT:List Int):Option (List Int) :=
 if aT.length*8≤140737488355328 then some aT else none
theorem Pr:Con bz 76 [.dJ] [] (.isl 1 (([]:List Int).map R)) []:=cn [(ak 1),(ak 2),.aw true,(ak 1)] (.ar da) (.bH (.c6 (.lU 1)))
theorem Ps:Con bz 76 [.gW] [] (.isl 1 (([]:List Int).map R)) []:=(by
 have h:=fun (o:(([]:List Int)++([]:List Int)).length*8≤140737488355328)=>(cn [(ak 1),(ak 2),.aw false,.aY (b0 2 (.bb ((([]:List Int)++([]:List Int)).length)) 1)] (.fm iZ (tW (show []=(([]:List Int)).map R from rfl) (mn Int)) (tX (mn Int) (p9 R):(([]:List Int)++([]:List Int)).length=0+([]:List (List al)).length) o (kn (ow (show []=(([]:List Int)).map R from rfl) (mn Int) (p9 R)) (fo (([]:List Int)++([]:List Int)))) (kI (ow (show []=(([]:List Int)).map R from rfl) (mn Int) (p9 R)) (fo (([]:List Int)++([]:List Int)))) (eu a2 (([]:List Int)++([]:List Int)))) (.bH (.c6 (.eZ ((([]:List Int)++([]:List Int)).map R)))):Con bz 76 [.gW] [] (.isl 1 ((([]:List Int)++([]:List Int)).map R)) [])
 exact h (by decide))
theorem Pt (x:Int)(l:List Int)(o:(([]:List Int)++(x::l)).length*8≤140737488355328):Con bz 76 [.isl 1 ((x::l).map R)] [] (.isl 1 ((([]:List Int)++(x::l)).map R)) []:=cn [(ak 1),.aY (aD 1 (aF .eV [])),.aw false,.aY (b0 2 (.bb ((([]:List Int)++(x::l)).length)) 1)] (.ja (by simp:(x::l).map R≠[]) iZ (tW (show []=(([]:List Int)).map R from rfl) (mn Int)) (tX (mn Int) (dQ R (x::l)):(([]:List Int)++(x::l)).length=0+((x::l).map R).length) o (kn (ow (show []=(([]:List Int)).map R from rfl) (mn Int) (dQ R (x::l))) (fo (([]:List Int)++(x::l)))) (kI (ow (show []=(([]:List Int)).map R from rfl) (mn Int) (dQ R (x::l))) (fo (([]:List Int)++(x::l)))) (eu a2 (([]:List Int)++(x::l)))) (.bH (.c6 (.eZ ((([]:List Int)++(x::l)).map R))))
theorem OX {aT:List Int}:b2 (vX aT) (fun r=>Con bz 76 [.isl 1 (aT.map R)] [] (.isl 1 (r.map R)) []):=by
 unfold vX
 refine .bk fun h=> .ret ?_
 cases aT with
 | nil=>exact .iy Pr Ps
 | cons x l =>
  have J:=Pt x l (by simpa using h)
  simpa using J
def Bf (bt:List Int)(bf:Int):(Int×Int×(List Int))→S:=fun (g9,a0,aq)=>er [(0,.isl 1 (bt.map R)),(1,.n .i64 bf),(6,.bp 0 0 0 aq.length),(7,.n .i64 g9),(8,.n .i64 a0)] [(aH 1 R aq)]
def Bs (bt:List Int)(bf:Int):(Int×(List Int))→ex
 | a=>⟨some 0,[(6,.bp 0 0 0 a.2.length),(7,.n .i64 a.1)],[(aH 1 R a.2)]⟩
def Bg (bt:List Int)(bf g9 a0:Int)(aq:List Int):Option ((Int×Int×(List Int))⊕(Int×(List Int))) :=
 if (decide ((0:Int)≤a0))=true then
  if 0≤a0∧a0<bt.length then
  bt[a0.toNat]? >>= fun a4 =>
  if bf≠0 then
  if 0≤a0∧a0<(aq.length:Nat) then
  if (0+a0.toNat)<aq.length then
  some (.inl ((U ((U (g9*(1000000000:Int)))+a4)).tmod bf,U (a0-(1:Int)),aq.set (0+a0.toNat) (U ((U ((U (g9*(1000000000:Int)))+a4)).tdiv bf))))
  else none
  else none
  else none
  else none
 else
  some (.inr (g9,aq))
def Ck (bt:List Int)(bf g9 a0:Int)(aq:List Int):Option (Int×(List Int)):=iter (fun w:Int×Int×(List Int)=>Bg bt bf w.1 w.2.1 w.2.2) (g9,a0,aq)
theorem Mi {bt:List Int}{bf g9 a0:Int}{aq:List Int}:b2 (Bg bt bf g9 a0 aq) (e5 bz 39 0 77 [1,1,1,0,1,0,0] (Bf bt bf (g9,a0,aq)) (Bf bt bf) (Bs bt bf)):=by
 unfold Bg
 exact .ite (fun o =>
  .bk fun J =>
  .aI fun a4 aO =>
  .bk fun aM =>
  .bk fun bW =>
  .bk fun bK =>
  .ret (let aZ:=(U ((U ((U (g9*(1000000000:Int)))+a4)).tdiv bf));bP [(ak 2),.aw true,.aY (b0 5 (.cy (R a4)) 2),.aY (b0 9 .eV 1),(ak 3),.bi [0] [.dH (aH 1 R (aq.set (0+a0.toNat) aZ))] [(0,ii),(1,ii),(6,hf ((aq.set (0+a0.toNat) aZ).length)),(7,ii),(8,ii)]] (.bF o J.1 (d1 R J.2) (cr R aO) aM aM bW.1 bW.2 (.ed (hJ R bK) (hl 1) (ey 1 .live (f7 (dQ R aq) (0+a0.toNat) aZ)) (aU 1 .live a2 (aq.set (0+a0.toNat) aZ)) (hL (fo aq) (0+a0.toNat) aZ)))))
  (fun o =>
  .ret (bP [(ak 2),.aw false,.bi [0] [.pure] (bI [6,7])] (.ay o (aU 1 .live a2 aq))))
theorem MS {bt:List Int}{bf g9 a0:Int}{aq:List Int}{r} (h:Ck bt bf g9 a0 aq=some r):e6 bz 39 0 77 [1,1,1,0,1,0,0] (Bf bt bf) (Bs bt bf) (g9,a0,aq) r:=e7 (fun _=>Mi) h
def tA (bt:List Int)(bf:Int):Option ((List Int)×Int) :=
 if 0≤(len_ R bt)∧(8:Int)*(len_ R bt)≤281474976710656∧(len_ R bt)<9223372036854775808 then
 Ck bt bf 0 (U ((len_ R bt)-(1:Int))) (List.replicate (len_ R bt).toNat 0:List Int) >>= fun bJ =>
 nP bJ.2 >>= fun bl =>
 some (bl,bJ.1)
 else none
theorem Gr {bt:List Int}{bf:Int}:b2 (tA bt bf) (fun r=>Con bz 77 [.isl 1 (bt.map R),.n .i64 bf] [] (.dx [.isl 1 (r.1.map R),.n .i64 r.2]) []):=by
 unfold tA
 exact .bk fun o =>
  .aI fun bJ ao =>
  .aI fun bl aM =>
  .ret (let aZ:=(List.replicate (len_ R bt).toNat 0:List Int);cn [(ak 2),(ak 4),(ak 1),(ak 4),.bi [4] [.dH (aH 1 R aZ)] [(0,ii),(1,ii),(6,hf (aZ.length)),(7,ii),(8,ii)],(Bs bt bf bJ).fU,.hR 0,.aY (b0 1 (.call {ac:=[.bH (.c6 (.eZ (bJ.2.map R)))],r:= .isl 1 (bl.map R),cX:=false,c4:=[0]}) 3)] (.bF o.1 (Int.le_refl (len_ R bt)) o.2.1 o.2.2 (ey 1 .live (lB R (len_ R bt).toNat 0)) (aU 1 .live a2 aZ) (l2 (len_ R bt).toNat (0:Int)) (MS ao) (.dc (iM R bJ.2) (ib R bJ.2) (eu a2 bJ.2) (rs bl aM))))
def BS (aq:List Int):Nat→S:=fun jS=>er [(0,.bp 0 0 0 jS)] [(aH 1 R aq)]
def Ca (aq:List Int):Nat→ex
 | a=>⟨some 0,[(0,.bp 0 0 0 a)],[(aH 1 R aq)]⟩
def tl (aq:List Int)(jS:Nat):Option ((Nat)⊕(Nat)) :=
 if (decide ((0:Int)<((jS:Nat):Int)))=true then
  if 0≤(U (((jS:Nat):Int)-(1:Int)))∧(U (((jS:Nat):Int)-(1:Int)))<(jS:Nat) then
  aq[(0+(U (((jS:Nat):Int)-(1:Int))).toNat)]? >>= fun a4 =>
  if (a4 == (0:Int))=true then
   if 0≤(U (((jS:Nat):Int)-(1:Int))) then
   if 0≤(U (((jS:Nat):Int)-(1:Int))).toNat∧(U (((jS:Nat):Int)-(1:Int))).toNat≤jS then
   some (.inl ((U (((jS:Nat):Int)-(1:Int))).toNat-0))
   else none
   else none
  else
   some (.inr jS)
  else none
 else
  some (.inr jS)
def CD (aq:List Int)(jS:Nat):Option (Nat):=iter (fun w:Nat=>tl aq w) jS
theorem MH {aq:List Int}{jS:Nat}:b2 (tl aq jS) (e5 bz 21 1 73 [1,0,0,0] (BS aq jS) (BS aq) (Ca aq)):=by
 unfold tl
 exact .ite (fun o =>
  .bk fun J =>
  .aI fun a4 aO =>
  (let t1:List cM:=[.aY (aD 9 (aF (.cy (R a4)) (aD 1 (aF (.aw true) []))))];
  have a6:=((.bF o o o o o J.1 J.2 o (.bR (cr R aO) o o)):cF _);
  .ite (fun aM =>
  .bk fun bW =>
  .bk fun bK =>
  .ret (bP (t1.append [.aw true,(ak 6),.bi [0] [.pure] (bI [0])]) (a6.bb (.ed aM bW bK.1 bK.2 (aU 1 .live a2 aq)))))
  (fun aM =>
  .ret (bP (t1.append [.aw false,.bi [0] [.pure] (bI [0])]) (a6.bb (.ay aM (aU 1 .live a2 aq)))))))
  (fun o =>
  .ret (bP [.aY (aD 4 (dE 7 (aF (.aw false) []))),.aw false,.bi [0] [.pure] (bI [0])] (.bF o o o o o o o o (.ay iZ (aU 1 .live a2 aq)))))
theorem Nj {aq:List Int}{jS:Nat}{r} (h:CD aq jS=some r):e6 bz 21 1 73 [1,0,0,0] (BS aq) (Ca aq) jS r:=e7 (fun _=>MH) h
def vx (f5:List Int):Option Nat :=
 CD f5 f5.length >>= fun ax =>
 some ax
theorem NP {f5:List Int}:b2 (vx f5) (fun a=>Con bz 73 [.bp 0 0 0 f5.length] [(aH 1 R f5)] (.bp 0 0 0 a) [(aH 1 R f5)]):=by
 unfold vx
 exact .aI fun ax J =>
  .ret (ik [(ak 1),.bi [0] [.pure] (bI [0]),(Ca f5 ax).fU,(ak 2)] [0] [.pure] (.bR (aU 1 .live a2 f5) (Nj J) (aU 1 .live a2 f5)))
def BG (bf:List Int)(a0 aW:Int)(dS:List Int)(d6 hq:Int):(Int×Int×(List Int))→S:=fun (dt,cD,aq)=>er [(1,.isl 1 (bf.map R)),(5,.bp 0 0 0 aq.length),(6,.n .i64 a0),(7,.n .i64 aW),(8,.n .i64 dt),(26,.isl 1 (dS.map R)),(27,.n .i64 d6),(28,.n .i64 a0),(33,.isl 1 (bf.map R)),(34,.n .i64 hq),(35,.n .i64 cD)] [(aH 1 R aq)]
def BT (bf:List Int)(a0 aW:Int)(dS:List Int)(d6 hq:Int):(Int×(List Int))→ex
 | a=>⟨some 2,[(1,.isl 1 (bf.map R)),(5,.bp 0 0 0 a.2.length),(6,.n .i64 a0),(8,.n .i64 a.1),(26,.isl 1 (dS.map R)),(27,.n .i64 d6),(28,.n .i64 a0)],[(aH 1 R a.2)]⟩
def BH (bf:List Int)(a0 aW:Int)(dS:List Int)(d6 hq dt cD:Int)(aq:List Int):Option ((Int×Int×(List Int))⊕(Int×(List Int))) :=
 if (decide (cD<hq))=true then
  if 0≤cD∧cD<bf.length then
  bf[cD.toNat]? >>= fun a4 =>
  if 0≤(U (a0+cD))∧(U (a0+cD))<(aq.length:Nat) then
  aq[(0+(U (a0+cD)).toNat)]? >>= fun cC =>
  if (0+(U (a0+cD)).toNat)<aq.length then
  some (.inl (U ((U ((U (cC+(U (aW*a4))))+dt)).tdiv (1000000000:Int)),U (cD+(1:Int)),aq.set (0+(U (a0+cD)).toNat) ((U ((U (cC+(U (aW*a4))))+dt)).tmod (1000000000:Int))))
  else none
  else none
  else none
 else
  some (.inr (dt,aq))
def GH (bf:List Int)(a0 aW:Int)(dS:List Int)(d6 hq dt cD:Int)(aq:List Int):Option (Int×(List Int)):=iter (fun w:Int×Int×(List Int)=>BH bf a0 aW dS d6 hq w.1 w.2.1 w.2.2) (dt,cD,aq)
theorem Mw {bf:List Int}{a0 aW:Int}{dS:List Int}{d6 hq dt cD:Int}{aq:List Int}:b2 (BH bf a0 aW dS d6 hq dt cD aq) (e5 bz 72 0 69 [1,1,1,0,1,0,0,1,1,0,0,1,1,0,1,0,0] (BG bf a0 aW dS d6 hq (dt,cD,aq)) (BG bf a0 aW dS d6 hq) (BT bf a0 aW dS d6 hq)):=by
 unfold BH
 exact .ite (fun o =>
  .bk fun J =>
  .aI fun a4 aO =>
  .bk fun aM =>
  .aI fun cC bK =>
  .bk fun bG =>
  .ret (let aZ:=U ((U (cC+(U (aW*a4))))+dt);let bg:=U (a0+cD);bP [(ak 1),.aw true,.aY (b0 2 (.cy (R a4)) 2),.aY (b0 5 (.cy (R cC)) 7),.aY (b0 9 .eV 1),(ak 2),.bi [0] [.dH (aH 1 R (aq.set (0+bg.toNat) (aZ.tmod (1000000000:Int))))] [(1,ii),(5,hf ((aq.set (0+bg.toNat) (aZ.tmod (1000000000:Int))).length)),(6,ii),(7,ii),(8,ii),(26,ii),(27,ii),(28,ii),(33,ii),(34,ii),(35,ii)]] (.bF o J.1 (d1 R J.2) (cr R aO) aM.1 aM.2 (cr R bK) (by decide:(1000000000:Int)≠0) (.ja (by decide:(1000000000:Int)≠0) aM.1 aM.2 (hJ R bG) (hl 1) (ey 1 .live (f7 (dQ R aq) (0+bg.toNat) (aZ.tmod (1000000000:Int)))) (aU 1 .live a2 (aq.set (0+bg.toNat) (aZ.tmod (1000000000:Int)))) (hL (fo aq) (0+bg.toNat) (aZ.tmod (1000000000:Int)))))))
  (fun o =>
  .ret (bP [(ak 1),.aw false,.bi [0] [.pure] (bI [1,5,6,8,26,27,28])] (.ay o (aU 1 .live a2 aq))))
theorem M7 {bf:List Int}{a0 aW:Int}{dS:List Int}{d6 hq dt cD:Int}{aq:List Int}{r} (h:GH bf a0 aW dS d6 hq dt cD aq=some r):e6 bz 72 0 69 [1,1,1,0,1,0,0,1,1,0,0,1,1,0,1,0,0] (BG bf a0 aW dS d6 hq) (BT bf a0 aW dS d6 hq) (dt,cD,aq) r:=e7 (fun _=>Mw) h
def BI (bf dS:List Int)(d6:Int):(Int×(List Int))→S:=fun (eY,aq)=>er [(1,.isl 1 (bf.map R)),(5,.bp 0 0 0 aq.length),(26,.isl 1 (dS.map R)),(27,.n .i64 d6),(28,.n .i64 eY)] [(aH 1 R aq)]
def BU (bf dS:List Int)(d6:Int):(List Int)→ex
 | a=>⟨some 0,[(5,.bp 0 0 0 a.length)],[(aH 1 R a)]⟩
def BJ (bf dS:List Int)(d6 eY:Int)(aq:List Int):Option ((Int×(List Int))⊕((List Int))) :=
 if (decide (eY<d6))=true then
  if 0≤eY∧eY<dS.length then
  dS[eY.toNat]? >>= fun a4 =>
  GH bf eY a4 dS d6 (len_ R bf) 0 0 aq >>= fun br =>
  if 0≤(U (eY+(len_ R bf)))∧(U (eY+(len_ R bf)))<(br.2.length:Nat) then
  if (0+(U (eY+(len_ R bf))).toNat)<br.2.length then
  some (.inl (U (eY+(1:Int)),br.2.set (0+(U (eY+(len_ R bf))).toNat) br.1))
  else none
  else none
  else none
 else
  some (.inr aq)
def Cz (bf dS:List Int)(d6 eY:Int)(aq:List Int):Option ((List Int)):=iter (fun w:Int×(List Int)=>BJ bf dS d6 w.1 w.2) (eY,aq)
theorem Mx {bf dS:List Int}{d6 eY:Int}{aq:List Int}:b2 (BJ bf dS d6 eY aq) (e5 bz 72 0 69 [1,1,1,0,1,0,0] (BI bf dS d6 (eY,aq)) (BI bf dS d6) (BU bf dS d6)):=by
 unfold BJ
 exact .ite (fun o =>
  .bk fun J =>
  .aI fun a4 aO =>
  .aI fun br bW =>
  .bk fun bK =>
  .bk fun bG =>
  .ret (let aZ:=U (eY+(len_ R bf));bP [(ak 1),.aw true,.aY (b0 2 (.cy (R a4)) 2),(ak 1),(ak 3),.bi [0] [.pure] (bI [1,5,6,7,8,26,27,28,33,34,35]),(BT bf eY a4 dS d6 (len_ R bf) br).fU,.aY (aD 7 (aF .eV [])),(ak 2),.bi [0] [.dH (aH 1 R (br.2.set (0+aZ.toNat) br.1))] [(1,ii),(5,hf ((br.2.set (0+aZ.toNat) br.1).length)),(26,ii),(27,ii),(28,ii)]] (.bF o J.1 (d1 R J.2) (cr R aO) (aU 1 .live a2 aq) (M7 bW) bK.1 bK.2 (.ed (hJ R bG) (hl 1) (ey 1 .live (f7 (dQ R br.2) (0+aZ.toNat) br.1)) (aU 1 .live a2 (br.2.set (0+aZ.toNat) br.1)) (hL (fo br.2) (0+aZ.toNat) br.1)))))
  (fun o =>
  .ret (bP [(ak 1),.aw false,.bi [0] [.pure] (bI [5])] (.ay o (aU 1 .live a2 aq))))
theorem M8 {bf dS:List Int}{d6 eY:Int}{aq:List Int}{r} (h:Cz bf dS d6 eY aq=some r):e6 bz 72 0 69 [1,1,1,0,1,0,0] (BI bf dS d6) (BU bf dS d6) (eY,aq) r:=e7 (fun _=>Mx) h
def tF (bt bf:List Int):Option (Nat×(List Int)) :=
 if ((len_ R bt) == (0:Int))=true then
  none
 else
  if ((len_ R bf) == (0:Int))=true then
   none
  else
   if 0≤(U ((len_ R bt)+(len_ R bf)))∧(8:Int)*(U ((len_ R bt)+(len_ R bf)))≤281474976710656∧(U ((len_ R bt)+(len_ R bf)))<9223372036854775808 then
   Cz bf bt (len_ R bt) 0 (List.replicate (U ((len_ R bt)+(len_ R bf))).toNat 0:List Int) >>= fun bl =>
   vx bl >>= fun cj =>
   some (cj,bl)
   else none
theorem GI {bt bf:List Int}:b2 (tF bt bf) (fun a=>Con bz 69 [.isl 1 (bt.map R),.isl 1 (bf.map R)] [] (.bp 0 0 0 a.1) [(aH 1 R a.2)]):=by
 unfold tF
 exact .ite (fun o =>
  .EG)
  (fun o =>
  .ite (fun J =>
  .EG)
  (fun J =>
  .bk fun ao =>
  .aI fun bl aM =>
  .aI fun cj bK =>
  .ret (let aZ:=U ((len_ R bt)+(len_ R bf));let bg:=(List.replicate aZ.toNat 0:List Int);ik [(ak 1),.aY (aD 7 (aF (.aw false) [])),.aw false,(ak 7),(ak 3),.bi [14] [.dH (aH 1 R bg)] [(1,ii),(5,hf (bg.length)),(26,ii),(27,ii),(28,ii)],(BU bf bt (len_ R bt) bl).fU,.aY (b0 1 (.call {aA:=[.row 0],b7:=[.pure],ac:=[ii],r:= .bp 0 0 0 cj,cY:=[(aH 1 R bl)],ec:=ii,eL:=[.pure],c4:=[0],cX:=false}) 1)] [0] [.pure] (.bF o o o o J ao.1 (Int.le_refl aZ) ao.2.1 (.bF ao.2.2 (ey 1 .live (lB R aZ.toNat 0)) (aU 1 .live a2 bg) (l2 aZ.toNat (0:Int)) (M8 aM) (i1 1 a2 bl) (i1 1 a2 bl) (NP cj bK) (.ar (aU 1 .live a2 bl)))))))
end Go.Proofs.Ytjkpomjgokofmac
