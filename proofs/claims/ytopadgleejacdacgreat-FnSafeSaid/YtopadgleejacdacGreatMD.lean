/- Lemmas, plain functions of the program, and what they answer. No condition. -/
import Derived.Test.YtopadgleejacdacGreatMC
namespace Go.Proofs.YtopadgleejacdacGreat
set_option linter.unusedVariables false
set_option autoImplicit true
set_option relaxedAutoImplicit true
set_option linter.unusedSimpArgs false
open Go Go.VL
def LN (s9 bD:Int)(aq a9 aG:ar)(gR:Int)(c6:afE):fe (Int×Bool×ar×ar×afy×ar×afz) (Bool×ar×afy×ar×afz):=⟨fun (ma,eS,eQ,bY,gk,da,fW)=>eD [(0,.ref 0 0 0 0),(5,.ref 4 0 0 0),(7,.bK 5 0 0 bY.length),(bF 41 s9),(bF 42 ma)] [(hT 1 2 3 bD s9 aq a9 aG),(aK 1 R aq),(aK 1 R a9),(aK 1 R aG),(iT 6 8 9 c6 eS eQ da gR fW),(aK 1 R bY),(aK 1 (cl 7 0 2) c6),(eJ 2 a3 gk),(aK 1 R da),(aK 1 e6 fW)],fun | a=>⟨some 0,[(0,.ref 0 0 0 0),(5,.ref 4 0 0 0)],[(hT 1 2 3 bD s9 aq a9 aG),(aK 1 R aq),(aK 1 R a9),(aK 1 R aG),(iT 5 7 8 c6 a.1 a.2.1 a.2.2.2.1 gR a.2.2.2.2),(aK 1 (cl 6 0 2) c6),(eJ 2 a3 a.2.2.1),(aK 1 R a.2.2.2.1),(aK 1 e6 a.2.2.2.2)]⟩⟩
def uV (s9 bD:Int)(aq a9 aG:ar)(gR:Int)(c6:afE)(ma:Int)(eS:Bool)(eQ bY:ar)(gk:afy)(da:ar)(fW:afz):Option ((Int×Bool×ar×ar×afy×ar×afz)⊕(Bool×ar×afy×ar×afz)) :=if (decide (ma<s9))=true then if 0<=ma/\ma<(bY.length:Nat) then if (0+ma.toNat)<(List.replicate bY.length 0:ar).length then sC eS eQ gR c6 gk da fW ((List.replicate bY.length 0:ar).set (0+ma.toNat) (-1)) >>= fun aI =>some (.inl (U (ma+1),aI.2.1,aI.2.2.1,((List.replicate bY.length 0:ar).set (0+ma.toNat) (-1)),aI.2.2.2.1,aI.2.2.2.2.1,aI.2.2.2.2.2)) else none else none else some (.inr (eS,eQ,gk,da,fW))
def Gh (s9 bD:Int)(aq a9 aG:ar)(gR:Int)(c6:afE)(ma:Int)(eS:Bool)(eQ bY:ar)(gk:afy)(da:ar)(fW:afz):Option (Bool×ar×afy×ar×afz):=iter (fun w:Int×Bool×ar×ar×afy×ar×afz=>uV s9 bD aq a9 aG gR c6 w.1 w.2.1 w.2.2.1 w.2.2.2.1 w.2.2.2.2.1 w.2.2.2.2.2.1 w.2.2.2.2.2.2) (ma,eS,eQ,bY,gk,da,fW)
theorem S5:bM (uV s9 bD aq a9 aG gR c6 ma eS eQ bY gk da fW) (fr bQ 124 4 60 [1,1,1,1,1,1,0,1,0,0] (LN s9 bD aq a9 aG gR c6) (ma,eS,eQ,bY,gk,da,fW)):=.ite (fun o=>.bd fun J=>.bd fun ab=>.au fun aI aJ=>.ret (let aT:=(List.replicate bY.length 0:ar);let bf:=hX 1 0 0 c6.length aI.2.1 aI.2.2.1 3 0 0 aI.2.2.2.2.1.length gR 4 0 0 aI.2.2.2.2.2.length;let cb:=hX 6 0 0 c6.length eS eQ 8 0 0 da.length gR 9 0 0 fW.length;let cL:=rM [4,6,7,8,9,5];let eT:=mW [4,6,7,8,9,5];let eF:=(DW (k1 bY.length (0:Int)) (0+ma.toNat) (-1));let hi:=dj [0,1,2,3,4,5,6,7,8,9];let iH:=aK 1 R (aT.set (0+ma.toNat) (-1));let jJ:=eN 1 az (aT.set (0+ma.toNat) (-1));let nM:=eJ 2 a3 aI.2.2.2.1;bN [(ag 1),.ay true,(ag 2),(ag 2),.aE (ax 3 (ap .df [])),.aE (ax 2 (ap (.call {aO:=(oh [4,6,7,8,9,5]),cn:=[.b9 (iT 1 3 4 c6 eS eQ da gR fW),.b9 (aK 1 (cl 2 0 2) c6),.b9 (eJ 2 a3 gk),.pure,.pure,.dp iH],ac:=[ii,.bB (.cj (.len ((aT.set (0+ma.toNat) (-1)).length)))],r:= .b aI.1,de:=(n9 c6 aI.2.1 aI.2.2.1 aI.2.2.2.2.1 gR aI.2.2.2.2.2 aI.2.2.2.1 iH),eE:=ii,fo:=[.b9 (iT 6 8 9 c6 aI.2.1 aI.2.2.1 aI.2.2.2.2.1 gR aI.2.2.2.2.2),.b9 (aK 1 (cl 7 0 2) c6),.b9 nM,.pure,.pure,.pure],c8:=[4,5,6,7,8,9],c1:=false}) [])),(ag 2),.br [0,1,2,3,4,5,6,7,8,9] [.box gg,.pure,.pure,.pure,.box iN,.pure,.b9 (aK 1 (cl 7 0 2) c6),.b9 nM,.pure,.pure] [(0,ii),(5,ii),(gq 7 (aT.set (0+ma.toNat) (-1))),(41,ii),(42,ii)]] (.bm o (YH (fI R bY) (gW bY)) J.1 J.2 (HR (kJ R bY.length 0) ab) (hr 1) eF (i1 cL 6 [(hX 1 0 0 c6.length eS eQ 3 0 0 da.length gR 4 0 0 fW.length)] [cb] rfl) (.bm (jc 6 [cb]) (eO cL 2 7 0 2 rfl c6) (jc 1 (c6.map (cl 7 0 2))) (eR cL 2 eb gk) (q3 2 a3 gk) (eN 1 az da) (eN 1 d8 fW) (d9 1 (rh (kJ R bY.length 0) (0+ma.toNat) (-1))) (.bm jJ (i1 eT 6 [(hX 6 0 0 c6.length aI.2.1 aI.2.2.1 8 0 0 aI.2.2.2.2.1.length gR 9 0 0 aI.2.2.2.2.2.length)] [bf] rfl) (jc 6 [bf]) (eO eT 7 2 0 2 rfl c6) (jc 1 (c6.map (cl 2 0 2))) (eR eT 2 eb aI.2.2.2.1) (q3 2 a3 aI.2.2.2.1) (eN 1 az aI.2.2.2.2.1) (.bm (eN 1 d8 aI.2.2.2.2.2) jJ (FK aI aJ) (aC 1 az aq) (aC 1 az a9) (aC 1 az aG) (aC 1 az (aT.set (0+ma.toNat) (-1))) (eO hi 7 7 0 2 rfl c6) (.di (eR hi 2 eb aI.2.2.2.1) (aC 1 az aI.2.2.2.2.1) (aC 1 d8 aI.2.2.2.2.2) eF))))))) (fun o=>.ret (let nh:=dj [0,1,2,3,4,6,7,8,9];bN [(ag 1),.ay false,.br [0,1,2,3,4,6,7,8,9] [.box gg,.pure,.pure,.pure,.box iN,.b9 (aK 1 (cl 6 0 2) c6),.b9 (eJ 2 a3 gk),.pure,.pure] (bZ [0,5])] (.hR o (aC 1 az aq) (aC 1 az a9) (aC 1 az aG) (eO nh 6 7 0 2 rfl c6) (eR nh 2 eb gk) (aC 1 az da) (aC 1 d8 fW))))
def LO (vM bD a7:Int)(aq a9 aG:ar)(eS:Bool)(eQ:ar)(gR:Int)(c6:afE)(gk:afy)(da:ar)(fW:afz):fe (Int×afA) afA:=⟨fun (nz,bY)=>eD [(0,.ref 0 0 0 0),(5,.ref 4 0 0 0),(9,.bK 5 0 0 bY.length),(bF 59 vM),(bF 60 nz)] [(hT 1 2 3 bD a7 aq a9 aG),(aK 1 R aq),(aK 1 R a9),(aK 1 R aG),(iT 6 8 9 c6 eS eQ da gR fW),(aK 1 (cd 3 a8) bY),(aK 1 (cl 7 0 2) c6),(eJ 2 a3 gk),(aK 1 R da),(aK 1 e6 fW)],fun | a=>⟨some 2,[(0,.ref 0 0 0 0),(5,.ref 4 0 0 0),(9,.bK 5 0 0 a.length)],[(hT 1 2 3 bD a7 aq a9 aG),(aK 1 R aq),(aK 1 R a9),(aK 1 R aG),(iT 6 8 9 c6 eS eQ da gR fW),(aK 1 (cd 3 a8) a),(aK 1 (cl 7 0 2) c6),(eJ 2 a3 gk),(aK 1 R da),(aK 1 e6 fW)]⟩⟩
def xz (vM bD a7:Int)(aq a9 aG:ar)(eS:Bool)(eQ:ar)(gR:Int)(c6:afE)(gk:afy)(da:ar)(fW:afz)(nz:Int)(bY:afA):Option ((Int×afA)⊕(afA)) :=if (decide (nz<vM))=true then l7 0 >>= fun bu =>if 0<=nz/\nz<(bY.length:Nat) then if (0+nz.toNat)<bY.length then some (.inl (U (nz+1),bY.set (0+nz.toNat) bu)) else none else none else some (.inr bY)
def Gi (vM bD a7:Int)(aq a9 aG:ar)(eS:Bool)(eQ:ar)(gR:Int)(c6:afE)(gk:afy)(da:ar)(fW:afz)(nz:Int)(bY:afA):Option (afA):=iter (fun w:Int×afA=>xz vM bD a7 aq a9 aG eS eQ gR c6 gk da fW w.1 w.2) (nz,bY)
theorem S6:bM (xz vM bD a7 aq a9 aG eS eQ gR c6 gk da fW nz bY) (fr bQ 124 4 60 [1,1,1,1,1,1,1,1,0,1,0,0] (LO vM bD a7 aq a9 aG eS eQ gR c6 gk da fW) (nz,bY)):=.ite (fun o=>.au fun bu ab=>.bd fun aA=>.bd fun aJ=>.ret (let aT:=dj [0,1,2,3,4,5,6,7,8,9];bN [(ag 1),.ay true,(ag 2),.aE (ax 2 (ap (fC 1 (d7 3 a8 bu) false) (ax 1 (ap .df [])))),(ag 2),.br [0,1,2,3,4,5,6,7,8,9] [.box gg,.pure,.pure,.pure,.box iN,.dp (aK 1 (cd 3 a8) (bY.set (0+nz.toNat) bu)),.b9 (aK 1 (cl 7 0 2) c6),.b9 (eJ 2 a3 gk),.pure,.pure] [(0,ii),(5,ii),(gq 9 (bY.set (0+nz.toNat) bu)),(59,ii),(60,ii)]] (.bm o (pI bu ab) aA.1 aA.2 (hS (cd 3 a8) aJ) (hr 1) (aC 1 az aq) (aC 1 az a9) (.hR (aC 1 az aG) (d9 1 (hH (cd 3 a8) bY nz bu)) (aC 1 (kw (sz:=3) jo) (bY.set (0+nz.toNat) bu)) (eO aT 7 7 0 2 rfl c6) (eR aT 2 eb gk) (aC 1 az da) (aC 1 d8 fW) (hO bY nz bu))))) (fun o=>.ret (let bf:=dj [0,1,2,3,4,5,6,7,8,9];bN [(ag 1),.ay false,.br [0,1,2,3,4,5,6,7,8,9] [.box gg,.pure,.pure,.pure,.box iN,.pure,.b9 (aK 1 (cl 7 0 2) c6),.b9 (eJ 2 a3 gk),.pure,.pure] (bZ [0,5,9])] (.bm o (aC 1 az aq) (aC 1 az a9) (aC 1 az aG) (aC 1 (kw (sz:=3) jo) bY) (eO bf 7 7 0 2 rfl c6) (eR bf 2 eb gk) (aC 1 az da) (.ao (aC 1 d8 fW)))))
def LP (vN bD a7:Int)(aq a9 aG:ar)(eS:Bool)(eQ:ar)(gR:Int)(c6:ar)(e8:afE)(sf:afy)(fW:afz):fe (Int×afA) afA:=⟨fun (pj,bY)=>eD [(0,.ref 0 0 0 0),(5,.ref 4 0 0 0),(9,.bK 5 0 0 bY.length),(71,.bK 6 0 0 c6.length),(bF 72 vN),(bF 73 pj)] [(hT 1 2 3 bD a7 aq a9 aG),(aK 1 R aq),(aK 1 R a9),(aK 1 R aG),(iT 7 6 9 e8 eS eQ c6 gR fW),(aK 1 (cd 3 a8) bY),(aK 1 R c6),(aK 1 (cl 8 0 2) e8),(eJ 2 a3 sf),(aK 1 e6 fW)],fun | a=>⟨some 4,[(0,.ref 0 0 0 0),(9,.bK 4 0 0 a.length)],[(hT 1 2 3 bD a7 aq a9 aG),(aK 1 R aq),(aK 1 R a9),(aK 1 R aG),(aK 1 (cd 3 a8) a)]⟩⟩
def xA (vN bD a7:Int)(aq a9 aG:ar)(eS:Bool)(eQ:ar)(gR:Int)(c6:ar)(e8:afE)(sf:afy)(fW:afz)(pj:Int)(bY:afA):Option ((Int×afA)⊕(afA)) :=if (decide (pj<vN))=true then if 0<=pj/\pj<(c6.length:Nat) then c6[(0+pj.toNat)]? >>= fun aS =>if 0<=pj/\pj<(e8.length:Nat) then e8[(0+pj.toNat)]? >>= fun ct =>ct >>= fun Ct =>sf[Ct.1]? >>= fun E1 =>if 0<=gR/\gR<(Ct.2:Nat) then E1[(0+gR.toNat)]? >>= fun oZ =>ra oZ eQ >>= fun eH =>if 0<=aS/\aS<(bY.length:Nat) then if (0+aS.toNat)<bY.length then some (.inl (U (pj+1),bY.set (0+aS.toNat) eH)) else none else none else none else none else none else some (.inr bY)
def Gj (vN bD a7:Int)(aq a9 aG:ar)(eS:Bool)(eQ:ar)(gR:Int)(c6:ar)(e8:afE)(sf:afy)(fW:afz)(pj:Int)(bY:afA):Option (afA):=iter (fun w:Int×afA=>xA vN bD a7 aq a9 aG eS eQ gR c6 e8 sf fW w.1 w.2) (pj,bY)
theorem S7:bM (xA vN bD a7 aq a9 aG eS eQ gR c6 e8 sf fW pj bY) (fr bQ 124 4 60 [1,1,1,1,1,1,1,1,1,0,1,0,0] (LP vN bD a7 aq a9 aG eS eQ gR c6 e8 sf fW) (pj,bY)):=.ite (fun o=>.bd fun J=>.au fun aS aA=>.bd fun aJ=>.au fun ct bJ=>.au fun Ct c2=>.au fun E1 cz=>.bd fun ec=>.au fun oZ eo=>.au fun eH gx=>.bd fun gT=>.bd fun ld=>.ret (let aT:=dj [0,1,2,3,4,5,6,7,8,9];let bf:=lm (iU 2 a3 sf) kX cz;bN [(ag 1),.ay true,.aE (iV 2 aS 2),.aE (ax 8 (ap (.db ((cl 8 0 2) ct)) (ax 4 (ap (.fB 86 (.bK 8 (Ct.1+0) 0 Ct.2) (.hn (c7 2 a3 E1) [])) (ap (.hn (c7 2 a3 E1) (a3 oZ)) (ax 5 (ap (fC 2 (d7 3 a8 eH) false) (ax 1 (ap .df []))))))))),(ag 2),.br [0,1,2,3,4,5,6,7,8,9] [.box gg,.pure,.pure,.pure,.box iN,.dp (aK 1 (cd 3 a8) (bY.set (0+aS.toNat) eH)),.pure,.b9 (aK 1 (cl 8 0 2) e8),.b9 (eJ 2 a3 sf),.pure] [(0,ii),(5,ii),(gq 9 (bY.set (0+aS.toNat) eH)),(71,ii),(72,ii),(73,ii)]] (.bm o J.1 J.2 (cC R aA) aJ.1 aJ.2 (cC (cl 8 0 2) bJ) (oD (eg:=8) (c:=0) (sz:=2) c2) (.bm bf ec.1 ec.2 bf (cC a3 eo) (Gp eH gx) gT.1 gT.2 (.bm (hS (cd 3 a8) ld) (hr 1) (aC 1 az aq) (aC 1 az a9) (aC 1 az aG) (d9 1 (hH (cd 3 a8) bY aS eH)) (aC 1 (kw (sz:=3) jo) (bY.set (0+aS.toNat) eH)) (aC 1 az c6) (.di (eO aT 8 8 0 2 rfl e8) (eR aT 2 eb sf) (aC 1 d8 fW) (hO bY aS eH))))))) (fun o=>.ret (bN [(ag 1),.ay false,.br [0,1,2,3,5] [.box gg,.pure,.pure,.pure,.pure] (bZ [0,9])] (.ew o (aC 1 az aq) (aC 1 az a9) (aC 1 az aG) (aC 1 (kw (sz:=3) jo) bY))))
def LQ (vC bD a7:Int)(aq a9 aG:ar)(bE:afA):fe (afw×Int) afw:=⟨fun (kh,pg)=>eD [(0,.ref 0 0 0 0),(9,.bK 4 0 0 bE.length),(13,d7 3 a8 kh),(102,.bK 4 0 0 bE.length),(bF 103 vC),(bF 104 pg)] [(hT 1 2 3 bD a7 aq a9 aG),(aK 1 R aq),(aK 1 R a9),(aK 1 R aG),(aK 1 (cd 3 a8) bE)],fun | a=>⟨some 6,[(9,.bK 4 0 0 bE.length),(13,d7 3 a8 a)],[(hT 1 2 3 bD a7 aq a9 aG),(aK 1 R aq),(aK 1 R a9),(aK 1 R aG),(aK 1 (cd 3 a8) bE)]⟩⟩
def xB (vC bD a7:Int)(aq a9 aG:ar)(bE:afA)(kh:afw)(pg:Int):Option ((afw×Int)⊕(afw)) :=if (decide (pg<vC))=true then if 0<=pg/\pg<(bE.length:Nat) then bE[(0+pg.toNat)]? >>= fun aS =>if 0<=pg/\pg<(aG.length:Nat) then aG[(0+pg.toNat)]? >>= fun ct =>l7 ct >>= fun eB =>xM aS eB >>= fun eY =>xP kh eY >>= fun fw =>some (.inl (fw,U (pg+1))) else none else none else some (.inr kh)
def Gk (vC bD a7:Int)(aq a9 aG:ar)(bE:afA)(kh:afw)(pg:Int):Option (afw):=iter (fun w:afw×Int=>xB vC bD a7 aq a9 aG bE w.1 w.2) (kh,pg)
theorem S8:bM (xB vC bD a7 aq a9 aG bE kh pg) (fr bQ 124 4 60 [1,1,1,1,1,1,1,1,1,1,1,0,1,0,0] (LQ vC bD a7 aq a9 aG bE) (kh,pg)):=.ite (fun o=>.bd fun J=>.au fun aS aA=>.bd fun aJ=>.au fun ct bJ=>.au fun eB c2=>.au fun eY cz=>.au fun fw eI=>.ret (bN [(ag 1),.ay true,.aE (ca 2 (.db ((cd 3 a8) aS)) 2),.aE (ax 8 (ap (.db (R ct)) (ap (fC 1 (d7 3 a8 eB) false) (ap (fC 2 (d7 3 a8 eY) false) (ap (fC 2 (d7 3 a8 fw) false) (ax 1 [])))))),(ag 2),.br [0,1,2,3,4] [.box gg,.pure,.pure,.pure,.pure] (bZ [0,9,13,102,103,104])] (.bm o J.1 J.2 (cC (cd 3 a8) aA) aJ.1 aJ.2 (cC R bJ) (pI eB c2) (.fa (Lr eY cz) (Lw fw eI) (aC 1 az aq) (aC 1 az a9) (aC 1 az aG) (aC 1 (kw (sz:=3) jo) bE))))) (fun o=>.ret (bN [(ag 1),.ay false,.br [0,1,2,3,4] [.box gg,.pure,.pure,.pure,.pure] (bZ [9,13])] (.ew o (aC 1 az aq) (aC 1 az a9) (aC 1 az aG) (aC 1 (kw (sz:=3) jo) bE))))
def Ad (b1 cD:Int)(cP e5 dh:ar):Option (Int×afA×afw) :=xZ b1 cD cP e5 dh >>= fun ad =>match ad with | .inl bq=>(if 0<=bq.2.2.1/\(8:Int)*bq.2.2.1<=281474976710656/\bq.2.2.1<9223372036854775808 then if dh.length<=bq.2.2.1.toNat then sC bq.1 bq.2.1 bq.2.2.1 bq.2.2.2.1 bq.2.2.2.2.2.2 bq.2.2.2.2.1 bq.2.2.2.2.2.1 (dh++(List.replicate bq.2.2.1.toNat 0:ar).drop dh.length) >>= fun b2 =>if b2.1=true then Gh cD b1 cP e5 dh bq.2.2.1 bq.2.2.2.1 0 b2.2.1 b2.2.2.1 (dh++(List.replicate bq.2.2.1.toNat 0:ar).drop dh.length) b2.2.2.2.1 b2.2.2.2.2.1 b2.2.2.2.2.2 >>= fun a6 =>if 0<=cD/\(8:Int)*cD<=281474976710656/\cD<9223372036854775808 then Gi ((cD.toNat:Nat):Int) b1 cD cP e5 dh a6.1 a6.2.1 bq.2.2.1 bq.2.2.2.1 a6.2.2.1 a6.2.2.2.1 a6.2.2.2.2 0 (List.replicate cD.toNat (none:afw):afA) >>= fun fw =>Gj ((a6.2.2.2.1.length:Nat):Int) b1 cD cP e5 dh a6.1 a6.2.1 bq.2.2.1 a6.2.2.2.1 bq.2.2.2.1 a6.2.2.1 a6.2.2.2.2 0 fw >>= fun fE =>l7 0 >>= fun dm =>Gk ((fE.length:Nat):Int) b1 cD cP e5 dh fE dm 0 >>= fun eu =>some (0,fE,eu) else none else some (3,([]:afA),(none:afw)) else none else none) | .inr bq=>(some (2,([]:afA),(none:afw)))
set_option maxHeartbeats 4000000 in
theorem T7:bM (Ad b1 cD cP e5 dh) (fun a=>Con bQ 60 [.ref 0 0 0 0] (qc b1 cD cP e5 dh) (.cZ [.n .i64 a.1,.isl 1 (a.2.1.map (cd 3 a8)),d7 3 a8 a.2.2]) (qc b1 cD cP e5 dh)):=by
 unfold Ad
 exact .au fun ad J =>
  (let wz:=mN b1 cD 1 0 0 cP.length 2 0 0 e5.length 3 0 0 dh.length;have bS:=((.ew (i1 (rM [0,1,2,3]) 5 [wz] [wz] rfl) (jc 5 [wz]) (eN 1 az cP) (eN 1 az e5) (eN 1 az dh)):cE _);
  (by
  rcases ad with bq|bq
  ·exact(.bd fun aA =>
  .bd fun aJ =>
  .au fun b2 bJ =>
  (let nP:=[(ss 0 0),(ss 1 0),(ss 2 0),(ss 3 0),(qT [(4,0)]),(qT [(4,1)]),(qT [(4,2)]),(qT [(4,3)]),(ss 4 4)];let tv:=hX 4 1 0 bq.2.2.2.1.length bq.1 bq.2.1 4 2 0 bq.2.2.2.2.1.length bq.2.2.1 4 3 0 bq.2.2.2.2.2.1.length;let jE:=eJ 2 a3 bq.2.2.2.2.2.2;let qh:=(dh++(List.replicate bq.2.2.1.toNat 0:ar).drop dh.length);let uw:=hX 1 0 0 bq.2.2.2.1.length b2.2.1 b2.2.2.1 3 0 0 b2.2.2.2.2.1.length bq.2.2.1 4 0 0 b2.2.2.2.2.2.length;let ux:=hX 5 0 0 bq.2.2.2.1.length bq.1 bq.2.1 6 0 0 bq.2.2.2.2.1.length bq.2.2.1 7 0 0 bq.2.2.2.2.2.1.length;let zl:=mN b1 cD 1 0 0 cP.length 2 0 0 e5.length 3 0 0 dh.length;let tw:=mW [0,1,2,3,8];let wx:=aK 1 (cl 8 0 2) bq.2.2.2.1;let uy:=dj [0,1,2,3,8];let wy:=hT 1 2 3 b1 cD cP e5 dh;let zm:=rM [4,5,8,6,7,15];let zn:=mW [4,5,8,6,7,15];let B3:=(k1 bq.2.2.1.toNat (0:Int));let zo:=kJ R bq.2.2.1.toNat 0;let t2:afC:=[(ag 3),.aE (ca 1 (.call {aO:=(oh [0,1,2,3]),cn:=[.b9 wy,.pure,.pure,.pure],ac:=[ii],r:= .cZ [.ref 4 0 0 0,.b true],de:=[wy,(aK 1 R cP),(aK 1 R e5),(aK 1 R dh),(aM.mk 6 [tv] .live::aM.mk 1 (bq.2.2.2.1.map (cl 4 4 2)) .live::c7 1 R bq.2.2.2.2.1::c7 1 e6 bq.2.2.2.2.2.1::jE)],eE:= .comp [.cj .id,.cj .id],fo:=[.b9 wy,.pure,.pure,.pure,.b9 (aM.mk 6 [(hX 8 1 0 bq.2.2.2.1.length bq.1 bq.2.1 8 2 0 bq.2.2.2.2.1.length bq.2.2.1 8 3 0 bq.2.2.2.2.2.1.length)] .live::aM.mk 1 (bq.2.2.2.1.map (cl 8 4 2)) .live::c7 1 R bq.2.2.2.2.1::c7 1 e6 bq.2.2.2.2.2.1::jE)],c8:=[0,1,2,3],c1:=false}) 5),.br [0,1,2,3,8] [.box gg,.pure,.pure,.pure,.b9 (aM.mk 6 [tv] .live::aM.mk 1 (bq.2.2.2.1.map (cl 4 4 2)) .live::c7 1 R bq.2.2.2.2.1::c7 1 e6 bq.2.2.2.2.2.1::jE)] [(0,ii),(2,ii),(3,ii),(4,.bB (.cj (.py 3))),(5,ii),(6,ii),(16,.comp [.cj .id,.cj .id]),(17,ii),(18,.comp [.cj .id,.cj .id]),(19,ii),(20,ii)],.ze nP [([],some (.box gg)),([],some (.pure)),([],some (.pure)),([],some (.pure)),([.box [.at_ 5 0 bq.2.2.2.1.length,.id,.id,.at_ 6 0 bq.2.2.2.2.1.length,.id,.at_ 7 0 bq.2.2.2.2.2.1.length]],none),([.rx wx],none),([.pure],none),([.pure],none),([],some (.rx jE))] [(0,ii),(2,ii),(3,ii),(4,ii),(5,.bB (.cj (.at_ 4 0 0))),(6,ii),(16,.comp [.cj (.at_ 4 0 0),.cj .id]),(17,ii),(18,.comp [.cj (.at_ 4 0 0),.cj .id]),(19,.bB (.cj (.at_ 4 0 0))),(20,ii)],(ag 2),.ay false,(ag 6),(ag 6),.aE (ca 2 (.call {aO:=(oh [4,5,8,6,7,15]),cn:=[.b9 (iT 1 3 4 bq.2.2.2.1 bq.1 bq.2.1 bq.2.2.2.2.1 bq.2.2.1 bq.2.2.2.2.2.1),.b9 (aK 1 (cl 2 0 2) bq.2.2.2.1),.b9 jE,.pure,.pure,.dp (aK 1 R qh)],ac:=[ii,.bB (.cj (.len (qh.length)))],r:= .b b2.1,de:=(n9 bq.2.2.2.1 b2.2.1 b2.2.2.1 b2.2.2.2.2.1 bq.2.2.1 b2.2.2.2.2.2 b2.2.2.2.1 (aK 1 R qh)),eE:=ii,fo:=[.b9 (iT 5 6 7 bq.2.2.2.1 b2.2.1 b2.2.2.1 b2.2.2.2.2.1 bq.2.2.1 b2.2.2.2.2.2),.b9 wx,.b9 (eJ 2 a3 b2.2.2.2.1),.pure,.pure,.pure],c8:=[4,5,6,7,8,15],c1:=false}) 1)];
  have gm:=bS.a1 (.bm (i1 tw 5 [zl] [zl] rfl) (jc 5 [zl]) (eN 1 az cP) (eN 1 az e5) (eN 1 az dh) (ji (show aM.mk 6 [(hX 8 1 0 bq.2.2.2.1.length bq.1 bq.2.1 8 2 0 bq.2.2.2.2.1.length bq.2.2.1 8 3 0 bq.2.2.2.2.2.1.length)] .live=jD (mW [0,1,2,3,8]) (aM.mk 6 [(hX 4 1 0 bq.2.2.2.1.length bq.1 bq.2.1 4 2 0 bq.2.2.2.2.1.length bq.2.2.1 4 3 0 bq.2.2.2.2.2.1.length)] .live) from rfl) (ji (Co tw 8 4 4 2 rfl bq.2.2.2.1) (ji (nT tw 1 pT bq.2.2.2.2.1) (ji (nT tw 1 En bq.2.2.2.2.2.1) (eR tw 2 eb bq.2.2.2.2.2.2))))) ((oz rfl (oz rfl (oz rfl (oz rfl (G6 (iU 2 a3 bq.2.2.2.2.2.2)))))):oI (aM.mk 6 [tv] .live::aM.mk 1 (bq.2.2.2.1.map (cl 4 4 2)) .live::c7 1 R bq.2.2.2.2.1::c7 1 e6 bq.2.2.2.2.2.1::jE)) (C0 (.inl bq) J) (.bm (aC 1 az cP) (aC 1 az e5) (aC 1 az dh) (ji (show aM.mk 6 [(hX 4 1 0 bq.2.2.2.1.length bq.1 bq.2.1 4 2 0 bq.2.2.2.2.1.length bq.2.2.1 4 3 0 bq.2.2.2.2.2.1.length)] .live=jD (dj [0,1,2,3,8]) (aM.mk 6 [(hX 8 1 0 bq.2.2.2.1.length bq.1 bq.2.1 8 2 0 bq.2.2.2.2.1.length bq.2.2.1 8 3 0 bq.2.2.2.2.2.1.length)] .live) from rfl) (ji (Co uy 4 8 4 2 rfl bq.2.2.2.1) (ji (nT uy 1 pT bq.2.2.2.2.1) (ji (nT uy 1 En bq.2.2.2.2.2.1) (eR uy 2 eb bq.2.2.2.2.2.2))))) (aC 1 az cP) (aC 1 az e5) (aC 1 az dh) (rfl:(iE nP) 5 0=some (4,1)) (.bm (gW bq.2.2.2.1) (rfl:(iE nP) 6 0=some (4,2)) (gW bq.2.2.2.2.1) (rfl:(iE nP) 7 0=some (4,3)) (gW bq.2.2.2.2.2.1) (OR (Ib (jI:=(cl 8 0 2)) (fI (cl 4 4 2) bq.2.2.2.1) (fun _=>rfl) (fun x=>(P6 (fun _=>rfl)) x)) Pq:so (iE nP) (aK 1 (cl 4 4 2) bq.2.2.2.1) wx) (aC 1 az bq.2.2.2.2.1) (aC 1 d8 bq.2.2.2.2.2.1) (.bm (OT (iU 2 a3 bq.2.2.2.2.2.2) (fun _=>rfl) eb:so (iE nP) jE jE) (rfl:(iE nP) 4 0=some (4,0)) (rfl:(iE nP) 4 0=some (4,0)) (rfl:(iE nP) 4 0=some (4,0)) (rfl:(iE nP) 4 0=some (4,0)) gi aA.1 (Int.le_refl bq.2.2.1) (.bm aA.2.1 aA.2.2 (hJ R dh) (Zy (AZ (fI R dh) (gW dh)) aJ) (r8 zo B3) (Pt B3 (dE _) aJ) (i1 zm 6 [(hX 1 0 0 bq.2.2.2.1.length bq.1 bq.2.1 3 0 0 bq.2.2.2.2.1.length bq.2.2.1 4 0 0 bq.2.2.2.2.2.1.length)] [ux] rfl) (jc 6 [ux]) (.bm (eO zm 2 8 0 2 rfl bq.2.2.2.1) (jc 1 (bq.2.2.2.1.map (cl 8 0 2))) (eR zm 2 eb bq.2.2.2.2.2.2) (q3 2 a3 bq.2.2.2.2.2.2) (eN 1 az bq.2.2.2.2.1) (eN 1 d8 bq.2.2.2.2.2.1) (d9 1 (YG zo (AZ (fI R dh) (gW dh)))) (eN 1 az qh) (.bm (i1 zn 6 [(hX 5 0 0 bq.2.2.2.1.length b2.2.1 b2.2.2.1 6 0 0 b2.2.2.2.2.1.length bq.2.2.1 7 0 0 b2.2.2.2.2.2.length)] [uw] rfl) (jc 6 [uw]) (eO zn 8 2 0 2 rfl bq.2.2.2.1) (jc 1 (bq.2.2.2.1.map (cl 2 0 2))) (eR zn 2 eb b2.2.2.2.1) (q3 2 a3 b2.2.2.2.1) (eN 1 az b2.2.2.2.2.1) (eN 1 d8 b2.2.2.2.2.2) (.aB (eN 1 az qh) (FK b2 bJ)))))))));
  .ite (fun bp =>
  .au fun a6 cS =>
  .bd fun cz =>
  .au fun fw eI =>
  .au fun fE hz =>
  .au fun dm gT =>
  .au fun eu kp =>
  .ret (let aT:=(List.replicate cD.toNat (none:afw):afA);let bf:=(dh++(List.replicate bq.2.2.1.toNat 0:ar).drop dh.length);let cb:=mN b1 cD 1 0 0 cP.length 2 0 0 e5.length 3 0 0 dh.length;let cL:=aC 1 az cP;let eT:=aC 1 az e5;let eF:=aC 1 az dh;let hi:=dj [0,1,2,3,4,15,5,8,6,7];let iH:=dj [0,1,2,3,4,13,5,6,7,8];let jJ:=dj [0,1,2,3,4,5,8,6,7,9];let nM:=aK 1 (cl 7 0 2) bq.2.2.2.1;let nh:=aC 1 az a6.2.2.2.1;let tu:=aC 1 d8 a6.2.2.2.2;let nO:=eJ 2 a3 a6.2.2.1;ir (t2.bo [.ay false,(ag 5),.br [0,1,2,3,4,15,5,8,6,7] [.box gg,.pure,.pure,.pure,.box iN,.pure,.b9 nM,.b9 (eJ 2 a3 b2.2.2.2.1),.pure,.pure] [(0,ii),(5,ii),(gq 7 bf),(41,ii),(42,ii)],((LN cD b1 cP e5 dh bq.2.2.1 bq.2.2.2.1).t a6),.aE (ca 4 (.db [(d7 3 a8 (none:afw))]) 1),(ag 3),.br [0,1,2,3,4,13,5,6,7,8] [.box gg,.pure,.pure,.pure,.box iN,.dp (aK 1 (cd 3 a8) aT),.b9 nM,.b9 nO,.pure,.pure] [(0,ii),(5,ii),(gq 9 aT),(59,ii),(60,ii)],((LO ((cD.toNat:Nat):Int) b1 cD cP e5 dh a6.1 a6.2.1 bq.2.2.1 bq.2.2.2.1 a6.2.2.1 a6.2.2.2.1 a6.2.2.2.2).t fw),(ag 6),.br [0,1,2,3,4,5,8,6,7,9] [.box gg,.pure,.pure,.pure,.box iN,.pure,.pure,.b9 (aK 1 (cl 8 0 2) bq.2.2.2.1),.b9 nO,.pure] (bZ [0,5,9,71,72,73]),((LP ((a6.2.2.2.1.length:Nat):Int) b1 cD cP e5 dh a6.1 a6.2.1 bq.2.2.1 a6.2.2.2.1 bq.2.2.2.1 a6.2.2.1 a6.2.2.2.2).t fE),.aE (ap (fC 1 (d7 3 a8 dm) false) (ax 1 [])),(ag 3),.br [0,1,2,3,4] [.box gg,.pure,.pure,.pure,.pure] (bZ [0,9,13,102,103,104]),((LQ ((fE.length:Nat):Int) b1 cD cP e5 dh fE).t eu),(ag 5)]) [0,1,2,3] [.b9 (hT 1 2 3 b1 cD cP e5 dh),.pure,.pure,.pure] (gm.a1 (.bm (dk bp) cL eT eF (aC 1 az bf) (eO hi 7 8 0 2 rfl bq.2.2.2.1) (eR hi 2 eb b2.2.2.2.1) (aC 1 az b2.2.2.2.2.1) (.bm (aC 1 d8 b2.2.2.2.2.2) (Pt (k1 bq.2.2.1.toNat (0:Int)) (dE _) aJ) (ej cS S5) cz.1 (Int.le_refl cD) cz.2.1 cz.2.2 cL (.bm eT eF (d9 1 (kJ (cd 3 a8) cD.toNat (none:afw))) (aC 1 (kw (sz:=3) jo) aT) (eO iH 7 6 0 2 rfl bq.2.2.2.1) (eR iH 2 eb a6.2.2.1) nh tu (.bm (k1 cD.toNat ((none:afw):afw)) (ej eI S6) cL eT eF (aC 1 (kw (sz:=3) jo) fw) nh (eO jJ 8 7 0 2 rfl bq.2.2.2.1) (.bm (eR jJ 2 eb a6.2.2.1) tu (ej hz S7) (pI dm gT) cL eT eF (aC 1 (kw (sz:=3) jo) fE) (.hR (ej kp S8) (i1 (dj [0,1,2,3]) 5 [cb] [cb] rfl) cL eT eF (ij (cd 3 a8) fE) (hJ (cd 3 a8) fE) (el (kw (sz:=3) jo) fE)))))))) (.comp [.cj .id,.cj (.fb (fE.map (cd 3 a8))),.cj .id])))
  (fun bp =>
  .ret (let sv:=mN b1 cD 1 0 0 cP.length 2 0 0 e5.length 3 0 0 dh.length;ir (t2.bo [.ay true,(ag 3)]) [0,1,2,3] [.b9 (hT 1 2 3 b1 cD cP e5 dh),.pure,.pure,.pure] (gm.a1 (.ew (dv bp) (i1 (dj [0,1,2,3]) 5 [sv] [sv] rfl) (aC 1 az cP) (aC 1 az e5) (aC 1 az dh))) (.comp [.cj .id,.cj (.jF 1),.cj (.py 3)])))))
  exact(.ret (let ol:=mN b1 cD 1 0 0 cP.length 2 0 0 e5.length 3 0 0 dh.length;let rH:=hT 1 2 3 b1 cD cP e5 dh;ir [(ag 3),.aE (ca 1 (.call {aO:=(oh [0,1,2,3]),cn:=[.b9 rH,.pure,.pure,.pure],ac:=[ii],r:= .cZ [.h2,.b false],de:=(qc b1 cD cP e5 dh),eE:=ii,fo:=[.b9 rH,.pure,.pure,.pure],c8:=[0,1,2,3],c1:=false}) 5),(ag 2),.ay true,(ag 3)] [0,1,2,3] [.b9 rH,.pure,.pure,.pure] (bS.a1 (.bm (i1 (mW [0,1,2,3]) 5 [ol] [ol] rfl) (jc 5 [ol]) (eN 1 az cP) (eN 1 az e5) (eN 1 az dh) (C0 (.inr bq) J) cR (i1 (dj [0,1,2,3]) 5 [ol] [ol] rfl) (.bT (aC 1 az cP) (aC 1 az e5) (aC 1 az dh)))) (.comp [.cj .id,.cj (.jF 1),.cj (.py 3)])))))
def DO (bg:afw):afL :=bg.elim (some (none:afw)) fun d5 =>pG d5.p3 >>= fun bb =>some (some (⟨bb,d5.pq⟩:bP))
theorem U9:bM (DO bg) (fun r=>Con bQ 89 [(d7 3 a8 bg)] [] (d7 3 a8 r) []):=.mf (fun o=>.ret (bR [(ag 1),.aE (ax 1 (ap (.fB 3 (.eW 3 none) .df) [])),.ay true,(ag 1)] (.aB (qS (sz:=3) (f:=a8) o) cR) (.bB (.cj (.py 3))))) (fun d5 o=>.au fun bb aA=>.ret (bR [(ag 1),.aE (ax 1 (ap (.fB 3 (.eW 3 (some (a8 d5))) .df) [])),.ay false,.aE (ax 1 (ap (.fB 5 (.eW 3 (some (a8 d5))) .df) (ax 2 (ap (hI 1 bb) (ca 1 (.fB 10 (.eW 3 (some (a8 d5))) .df) 5)))))] (.fa (ju o) gi (ju o) (CH bb aA) (ju o) (k0 (jo (⟨bb,d5.pq⟩:bP)):ht [[.b bb.c5,.isl 1 (bb.cJ.map R),.isl 1 (d5.pq.map R)]])) (.bB (.tb [.id,.id,.id]))))
def vl (cH:afw):afL :=cH >>= fun fl =>if (decide ((24:Int)<(len_ R fl.p3.cJ)))=true then some (none:afw) else if (decide ((24:Int)<(len_ R fl.pq)))=true then some (none:afw) else some cH
theorem MY:bM (vl cH) (fun r=>Con bQ 70 [(d7 3 a8 cH)] [] (d7 3 a8 r) []):=.au fun fl J=>(have bS:=((.ao (ju J)):cE _);.ite (fun ab=>.ret (bR [(ag 1),.aE (ax 1 (ap (.fB 3 (.eW 3 (some (a8 fl))) .df) (nf 6 6))),.ay true,(ag 1)] (bS.a1 (.hR ab ab ab ab ab ab ab cR)) (.bB (.cj (.py 3))))) (fun ab=>(let t2:afC:=[(ag 1),.aE (ax 1 (ap (.fB 3 (.eW 3 (some (a8 fl))) .df) (ax 7 (ap (.fB 11 (.eW 3 (some (a8 fl))) .df) (oV 4)))))];have gm:=bS.a1 (.hR ab ab (ju J) ab ab ab ab ab);.ite (fun aA=>.ret (bR (t2.bo [.ay true,(ag 1)]) (gm.a1 (.ao aA)) (.bB (.cj (.py 3))))) (fun aA=>.ret (bR (t2.bo [.ay false,(ag 2)]) (gm.a1 (.ao aA)))))))
def oC (bg bl:afw):afL :=bg.elim (some (none:afw)) fun d5 =>bl.elim (some (none:afw)) fun pE =>xP bg bl >>= fun bh =>vl bh >>= fun bU =>some bU
theorem tQ:bM (oC bg bl) (fun r=>Con bQ 39 [d7 3 a8 bg,d7 3 a8 bl] [] (d7 3 a8 r) []):=.mf (fun o=>.ret (bR [(ag 1),.aE (ax 1 (ap (.fB 5 (.eW 3 none) .df) (ax 1 (ek 2 (ax 1 []))))),.ay true,(ag 1)] (.di (qS (sz:=3) (f:=a8) o) cR cR cR) (.bB (.cj (.py 3))))) (fun d5 o=>(have bS:=((.bT (ju o) gi gi):cE _);.mf (fun ab=>.ret (bR [(ag 1),.aE (ax 1 (ap (.fB 5 (.eW 3 (some (a8 d5))) .df) (ca 2 (.fB 8 (.eW 3 none) .df) 1))),.ay true,(ag 1)] (bS.a1 (.aB (qS (sz:=3) (f:=a8) ab) cR)) (.bB (.cj (.py 3))))) (fun pE ab=>.au fun bh bC=>.au fun bU bp=>.ret (bR [(ag 1),.aE (ax 1 (ap (.fB 5 (.eW 3 (some (a8 d5))) .df) (ca 2 (.fB 8 (.eW 3 (some (a8 pE))) .df) 1))),.ay false,.aE (ax 2 (ap (fC 2 (d7 3 a8 bh) false) (ap (fC 1 (d7 3 a8 bU) false) (ax 1 []))))] (bS.a1 (.di (ju ab) gi (Lw bh bC) (MY bU bp)))))))
def KY (cH:afA)(fJ:afG)(oL:Int):fe (Int×afA) afA:=⟨fun (h9,aw)=>eD [(1,.isl 1 (cH.map (cd 3 a8))),(hh 5 aw),(16,.isl 2 (fJ.map fi)),(bF 17 oL),(bF 18 h9)] [(aK 1 (cd 3 a8) aw)],fun | a=>⟨some 0,[(hh 5 a)],[(aK 1 (cd 3 a8) a)]⟩⟩
def xc (cH:afA)(fJ:afG)(oL h9:Int)(aw:afA):Option ((Int×afA)⊕(afA)) :=if (decide (h9<oL))=true then if 0<=h9/\h9<fJ.length then fJ[h9.toNat]? >>= fun aS =>if 0<=h9/\h9<cH.length then cH[h9.toNat]? >>= fun ct =>if (decide (aS.sd<0))=true then DO ct >>= fun a6 =>if 0<=aS.hE/\aS.hE<(aw.length:Nat) then aw[(0+aS.hE.toNat)]? >>= fun zp =>zp.elim (if (0+aS.hE.toNat)<aw.length then some (.inl (U (h9+1),aw.set (0+aS.hE.toNat) a6)) else none) fun Rf =>oC zp a6 >>= fun dm =>if (0+aS.hE.toNat)<aw.length then some (.inl (U (h9+1),aw.set (0+aS.hE.toNat) dm)) else none else none else if 0<=aS.hE/\aS.hE<(aw.length:Nat) then aw[(0+aS.hE.toNat)]? >>= fun iW =>iW.elim (if (0+aS.hE.toNat)<aw.length then some (.inl (U (h9+1),aw.set (0+aS.hE.toNat) ct)) else none) fun Rg =>oC iW ct >>= fun fE =>if (0+aS.hE.toNat)<aw.length then some (.inl (U (h9+1),aw.set (0+aS.hE.toNat) fE)) else none else none else none else none else some (.inr aw)
def K8 (cH:afA)(fJ:afG)(oL h9:Int)(aw:afA):Option (afA):=iter (fun w:Int×afA=>xc cH fJ oL w.1 w.2) (h9,aw)
theorem Sz:bM (xc cH fJ oL h9 aw) (fr bQ 56 0 62 [1,1,0,1,0,0] (KY cH fJ oL) (h9,aw)):=.ite (fun o=>.bd fun J=>.au fun aS aA=>.bd fun aJ=>.au fun ct bJ=>(let t1:afC:=[(ag 1),.ay true,.aE (ca 2 (.db (fi aS)) 3),.aE (ca 3 (.db ((cd 3 a8) ct)) 1),(ag 3)];have aY:=((.fc o J.1 (ex fi J.2) (cC fi aA) aJ.1 (ex (cd 3 a8) aJ.2) (cC (cd 3 a8) bJ)):cE _);.ite (fun bp=>.au fun a6 cS=>.bd fun cz=>.au fun zp eI=>(let t3:afC:=t1.bo [.ay true,.aE (ca 1 (fC 1 (d7 3 a8 a6) false) 1)];have fs:=aY.a1 (.ew bp (U9 a6 cS) cz.1 cz.2 (cC (cd 3 a8) eI));.mf (fun eo=>.bd fun gx=>.ret (bN (t3.bo [.aE (ax 4 (ap (.db ((cd 3 a8) zp)) (ap (.fB 36 (.eW 3 none) .df) []))),.ay true,.aE (ax 5 (ap .df [])),(ag 2),.br [0] [.dp (aK 1 (cd 3 a8) (aw.set (0+aS.hE.toNat) a6))] [(1,ii),(gq 5 (aw.set (0+aS.hE.toNat) a6)),(16,ii),(17,ii),(18,ii)]]) (fs.a1 (.bm (qS (sz:=3) (f:=a8) eo) cR cz.1 cz.2 (hS (cd 3 a8) gx) (hr 1) (d9 1 (hH (cd 3 a8) aw aS.hE a6)) (aC 1 (kw (sz:=3) jo) (aw.set (0+aS.hE.toNat) a6)) (.ao (hO aw aS.hE a6)))))) (fun Rf eo=>.au fun dm gT=>.bd fun ld=>.ret (bN (t3.bo [.aE (ax 4 (ap (.db ((cd 3 a8) zp)) (ap (.fB 36 (.eW 3 (some (a8 Rf))) .df) []))),.ay false,.aE (ax 7 (ap (.db ((cd 3 a8) zp)) (ax 1 (ap (fC 2 (d7 3 a8 dm) false) (ax 1 (ap .df [])))))),(ag 2),.br [0] [.dp (aK 1 (cd 3 a8) (aw.set (0+aS.hE.toNat) dm))] [(1,ii),(gq 5 (aw.set (0+aS.hE.toNat) dm)),(16,ii),(17,ii),(18,ii)]]) (fs.a1 (.bm (ju eo) gi cz.1 cz.2 (cC (cd 3 a8) eI) (tQ dm gT) cz.1 cz.2 (.ew (hS (cd 3 a8) ld) (hr 1) (d9 1 (hH (cd 3 a8) aw aS.hE dm)) (aC 1 (kw (sz:=3) jo) (aw.set (0+aS.hE.toNat) dm)) (hO aw aS.hE dm)))))))) (fun bp=>.bd fun c2=>.au fun iW cz=>(have gm:=aY.a1 (.di bp c2.1 c2.2 (cC (cd 3 a8) cz));.mf (fun ec=>.bd fun eo=>.ret (bN (t1.bo [.ay false,.aE (ax 4 (ap (.db ((cd 3 a8) iW)) (ap (.fB 36 (.eW 3 none) .df) []))),.ay true,.aE (ax 5 (ap .df [])),(ag 2),.br [0] [.dp (aK 1 (cd 3 a8) (aw.set (0+aS.hE.toNat) ct))] [(1,ii),(gq 5 (aw.set (0+aS.hE.toNat) ct)),(16,ii),(17,ii),(18,ii)]]) (gm.a1 (.bm (qS (sz:=3) (f:=a8) ec) cR c2.1 c2.2 (hS (cd 3 a8) eo) (hr 1) (d9 1 (hH (cd 3 a8) aw aS.hE ct)) (aC 1 (kw (sz:=3) jo) (aw.set (0+aS.hE.toNat) ct)) (.ao (hO aw aS.hE ct)))))) (fun Rg ec=>.au fun fE hz=>.bd fun gx=>.ret (bN (t1.bo [.ay false,.aE (ax 4 (ap (.db ((cd 3 a8) iW)) (ap (.fB 36 (.eW 3 (some (a8 Rg))) .df) []))),.ay false,.aE (ax 7 (ap (.db ((cd 3 a8) iW)) (ax 1 (ap (fC 2 (d7 3 a8 fE) false) (ax 1 (ap .df [])))))),(ag 2),.br [0] [.dp (aK 1 (cd 3 a8) (aw.set (0+aS.hE.toNat) fE))] [(1,ii),(gq 5 (aw.set (0+aS.hE.toNat) fE)),(16,ii),(17,ii),(18,ii)]]) (gm.a1 (.bm (ju ec) gi c2.1 c2.2 (cC (cd 3 a8) cz) (tQ fE hz) c2.1 c2.2 (.ew (hS (cd 3 a8) gx) (hr 1) (d9 1 (hH (cd 3 a8) aw aS.hE fE)) (aC 1 (kw (sz:=3) jo) (aw.set (0+aS.hE.toNat) fE)) (hO aw aS.hE fE)))))))))) (fun o=>.ret (bN (qb 1 0 5) (.aB o (aC 1 (kw (sz:=3) jo) aw))))
def zR (aX:cp)(cH:afA):Option afA :=if 0<=(len_ c9 aX.bs)/\(8:Int)*(len_ c9 aX.bs)<=281474976710656/\(len_ c9 aX.bs)<9223372036854775808 then uT aX >>= fun bu =>K8 cH bu (len_ fi bu) 0 (List.replicate (len_ c9 aX.bs).toNat (none:afw):afA) >>= fun aI =>some aI else none
theorem Te:bM (zR aX cH) (fun r=>Con bQ 62 [.e4 2 [(fV aX)] 0 0,.isl 1 (cH.map (cd 3 a8))] [] (.isl 1 (r.map (cd 3 a8))) []):=.bd fun o=>.au fun bu ab=>.au fun aI aJ=>.ret (let bf:=len_ c9 aX.bs;let aT:=(List.replicate bf.toNat (none:afw):afA);bR [(ag 1),.aE (ca 5 (.db [(d7 3 a8 (none:afw))]) 1),.aE (ca 1 (fC 1 (.isl 2 (bu.map fi)) false) 2),.br [6] [.dp (aK 1 (cd 3 a8) aT)] [(1,ii),(gq 5 aT),(16,ii),(17,ii),(18,ii)],((KY cH bu (len_ fi bu)).t aI),(ag 2)] (.bm o.1 (Int.le_refl bf) o.2.1 o.2.2 (FL bu ab) (d9 1 (kJ (cd 3 a8) bf.toNat (none:afw))) (aC 1 (kw (sz:=3) jo) aT) (k1 bf.toNat ((none:afw):afw)) (.di (ej aJ Sz) (ij (cd 3 a8) aI) (hJ (cd 3 a8) aI) (el (kw (sz:=3) jo) aI))) (.bB (.cj (.fb (aI.map (cd 3 a8))))))
def uR (aX:cp)(ul uf:Int)(cc cP e5:ar):Option (afA×afA×Bool) :=Ad ul uf cc cP e5 >>= fun ad =>if (ad.1 != 0)=true then some (([]:afA),([]:afA),false) else uT aX >>= fun aI =>if 0<=(len_ fi aI) then if 0<=(len_ fi aI).toNat/\(len_ fi aI).toNat<=ad.2.1.length then zR aX ((ad.2.1.drop 0).take ((len_ fi aI).toNat-0)) >>= fun eB =>if (len_ fi aI).toNat<=ad.2.1.length then some (eB,(ad.2.1.drop ((len_ fi aI).toNat)).take ((ad.2.1.map (cd 3 a8)).length-(len_ fi aI).toNat),true) else none else none else none
theorem SJ:bM (uR aX ul uf cc cP e5) (fun a=>Con bQ 31 [.e4 2 [(fV aX)] 0 0,.agg (mN ul uf 0 0 0 cc.length 1 0 0 cP.length 2 0 0 e5.length)] [(aK 1 R cc),(aK 1 R cP),(aK 1 R e5)] (.cZ [.isl 1 (a.1.map (cd 3 a8)),.isl 1 (a.2.1.map (cd 3 a8)),.b a.2.2]) [(aK 1 R cc),(aK 1 R cP),(aK 1 R e5)]):=.au fun ad J=>(let cb:=mN ul uf 1 0 0 cc.length 2 0 0 cP.length 3 0 0 e5.length;let cL:=mN ul uf 0 0 0 cc.length 1 0 0 cP.length 2 0 0 e5.length;let t1:afC:=[(ag 4),.aE (ap (.call {aO:=(oh [3,0,1,2]),cn:=[.b9 (hT 1 2 3 ul uf cc cP e5),.pure,.pure,.pure],ac:=[ii],r:= .cZ [.n .i64 ad.1,.isl 1 (ad.2.1.map (cd 3 a8)),d7 3 a8 ad.2.2],de:=(qc ul uf cc cP e5),eE:=ii,fo:=[.b9 (hT 0 1 2 ul uf cc cP e5),.pure,.pure,.pure],c8:=[0,1,2,3],c1:=false}) (ax 7 [])),(ag 2)];have aY:=((.bm (i1 (rM [3,0,1,2]) 5 [cb] [cL] rfl) (jc 5 [cL]) (eN 1 az cc) (eN 1 az cP) (eN 1 az e5) (i1 (mW [3,0,1,2]) 5 [cL] [cb] rfl) (jc 5 [cb]) (eN 1 az cc) (.bT (eN 1 az cP) (eN 1 az e5) (T7 ad J))):cE _);.ite (fun ab=>.ret (ir (t1.bo [.ay true,(ag 3)]) [0,1,2] [.pure,.pure,.pure] (aY.a1 (.di ab (aC 1 az cc) (aC 1 az cP) (aC 1 az e5))) (.comp [.cj (.jF 1),.cj (.jF 1),.cj .id]))) (fun ab=>.au fun aI aJ=>.bd fun bC=>.bd fun bJ=>.au fun eB c2=>.bd fun cS=>.ret (let aT:=len_ fi aI;let bf:=fI (cd 3 a8) ad.2.1;ir (t1.bo [.ay false,.aE (ca 1 (fC 1 (.isl 2 (aI.map fi)) false) 2),.aE (ca 4 (.call {ac:=[ii,.bB (.cj (.dp (.isl 1 (((ad.2.1.drop 0).take (aT.toNat-0)).map (cd 3 a8)))))],r:= .isl 1 (eB.map (cd 3 a8)),c1:=false}) 6)]) [0,1,2] [.pure,.pure,.pure] (aY.a1 (.bm ab (FL aI aJ) bC bJ.1 (qu bf bJ.2) (congrArg (an.isl 1) (mv bf 0 (aT.toNat-0)):(.isl 1 (((ad.2.1.map (cd 3 a8)).drop 0).take (aT.toNat-0)):an) = .isl 1 (((ad.2.1.drop 0).take (aT.toNat-0)).map (cd 3 a8))) (Te eB c2) bC (.fa (YC bf▸cS:aT.toNat<=(ad.2.1.map (cd 3 a8)).length) (dE ((ad.2.1.map (cd 3 a8)).length)) (aC 1 az cc) (aC 1 az cP) (aC 1 az e5) (congrArg (an.isl 1) (mv bf (aT.toNat) ((ad.2.1.map (cd 3 a8)).length-aT.toNat)):(.isl 1 (((ad.2.1.map (cd 3 a8)).drop (aT.toNat)).take ((ad.2.1.map (cd 3 a8)).length-aT.toNat)):an) = .isl 1 (((ad.2.1.drop (aT.toNat)).take ((ad.2.1.map (cd 3 a8)).length-aT.toNat)).map (cd 3 a8)))))) (.comp [.cj .id,.cj (.dp (.isl 1 (((ad.2.1.drop (aT.toNat)).take ((ad.2.1.map (cd 3 a8)).length-aT.toNat)).map (cd 3 a8)))),.cj .id]))))
def zW (cH:bt):afM :=if (decide ((60:Int)<(len_ R cH.cJ)))=true then some (⟨false,([]:ar)⟩:bt) else vp cH.cJ >>= fun bu =>some (⟨cH.c5,bu⟩:bt)
theorem Tt:bM (zW cH) (fun r=>Con bQ 90 [.agg (a3 cH)] [] (.agg (a3 r)) []):=.ite (fun o=>.ret (bR [(ag 2),(ag 4),.ay true,(ag 2)] (.ao o) (.bB (.agg [.id,.jF 1])))) (fun o=>.au fun bu ab=>.ret (bR [(ag 2),(ag 4),.ay false,.aE (ca 4 (nd 1 bu) 2)] (.aB o (GX bu ab))))
def Ar (cH:afw):Option gL :=cH.elim (some (⟨(⟨false,([]:ar)⟩:bt),([]:ar)⟩:gL)) fun d5 =>zW d5.p3 >>= fun bb =>vp d5.pq >>= fun bh =>some (⟨bb,bh⟩:gL)
theorem Uu:bM (Ar cH) (fun r=>Con bQ 64 [(d7 3 a8 cH)] [] (.agg (gJ r)) []):=.mf (fun o=>.ret (bR [(ag 1),.aE (ax 1 (ap (.fB 3 (.eW 3 none) .df) [])),.ay true,(ag 2)] (.aB (qS (sz:=3) (f:=a8) o) cR) (.bB (.agg [.id,.jF 1,.jF 1])))) (fun d5 o=>.au fun bb aA=>.au fun bh bC=>.ret (bR [(ag 1),.aE (ax 1 (ap (.fB 3 (.eW 3 (some (a8 d5))) .df) [])),.ay false,.aE (ax 1 (ap (.fB 6 (.eW 3 (some (a8 d5))) .df) (ax 2 (ap (hI 1 bb) (ax 1 (ap (.fB 11 (.eW 3 (some (a8 d5))) .df) (ca 2 (nd 1 bh) 2)))))))] (.fa (ju o) gi (ju o) (Tt bb aA) (ju o) (GX bh bC))))
def LY (gv:afA)(e2:Int):fe (Int×afI) ((afI)⊕(Unit)):=⟨fun (e3,aw)=>eD [(hh 4 aw),(10,.isl 1 (gv.map (cd 3 a8))),(bF 11 e2),(bF 12 e3)] [(aK 3 gJ aw)],fun | .inl a=>⟨some 0,[(hh 4 a)],[(aK 3 gJ a)]⟩ | .inr a=>⟨none,[(2,.fq),(3,.b false)],[]⟩⟩
def xF (gv:afA)(e2 e3:Int)(aw:afI):Option ((Int×afI)⊕((afI)⊕(Unit))) :=if (decide (e3<e2))=true then if 0<=e3/\e3<gv.length then gv[e3.toNat]? >>= fun aS =>aS.elim (some (.inr (.inr ()))) fun q5 =>Ar aS >>= fun bU =>if 0<=e3/\e3<(aw.length:Nat) then if (0+e3.toNat)<aw.length then some (.inl (U (e3+1),aw.set (0+e3.toNat) bU)) else none else none else none else some (.inr (.inl aw))
def Mp (gv:afA)(e2 e3:Int)(aw:afI):Option ((afI)⊕(Unit)):=iter (fun w:Int×afI=>xF gv e2 w.1 w.2) (e3,aw)
theorem K9:bM (xF gv e2 e3 aw) (fr bQ 26 0 33 [1,1,0,1,0,0] (LY gv e2) (e3,aw)):=.ite (fun o=>.bd fun J=>.au fun aS aA=>(let t1:afC:=[(ag 1),.ay true,.aE (ca 2 (.db ((cd 3 a8) aS)) 2)];have aY:=((.di o J.1 (ex (cd 3 a8) J.2) (cC (cd 3 a8) aA)):cE _);.mf (fun aJ=>.ret (bN (t1.bo [.aE (ax 1 (ap (.fB 17 (.eW 3 none) .df) [])),.ay true,(ag 2),.br [] [] (bZ [2,3])]) (aY.a1 (.aB (qS (sz:=3) (f:=a8) aJ) cR)))) (fun q5 aJ=>.au fun bU bp=>.bd fun c2=>.bd fun cS=>.ret (bN (t1.bo [.aE (ax 1 (ap (.fB 17 (.eW 3 (some (a8 q5))) .df) [])),.ay false,.aE (ax 3 (ap (abk 1 bU) (ax 1 (ap .df [])))),(ag 2),.br [0] [.dp (aK 3 gJ (aw.set (0+e3.toNat) bU))] [(gq 4 (aw.set (0+e3.toNat) bU)),(10,ii),(11,ii),(12,ii)]]) (aY.a1 (.bm (ju aJ) gi (Uu bU bp) c2.1 c2.2 (hS gJ cS) (hr 3) (d9 3 (hH gJ aw e3 bU)) (.aB (aC 3 Ds (aw.set (0+e3.toNat) bU)) (hO aw e3 bU)))))))) (fun o=>.ret (bN (qb 1 0 4) (.aB o (aC 3 Ds aw))))
def Ak (ei:afA):Option (afI×Bool) :=if 0<=(len_ (cd 3 a8) ei)/\(56:Int)*(len_ (cd 3 a8) ei)<=281474976710656/\(len_ (cd 3 a8) ei)<9223372036854775808 then Mp ei (len_ (cd 3 a8) ei) 0 (List.replicate (len_ (cd 3 a8) ei).toNat (⟨(⟨false,([]:ar)⟩:bt),([]:ar)⟩:gL):afI) >>= fun bu =>match bu with | .inl fT=>(some (fT,true)) | .inr fT=>(some (([]:afI),false)) else none
theorem Ul:bM (Ak ei) (fun r=>Con bQ 33 [.isl 1 (ei.map (cd 3 a8))] [] (.cZ [.isl 3 (r.1.map gJ),.b r.2]) []):=by
 unfold Ak
 exact .bd fun o =>
  .au fun bu ab =>
  (let bf:=len_ (cd 3 a8) ei;let aT:=(List.replicate bf.toNat (Jr:gL):afI);let t1:afC:=[(ag 2),.aE (ca 2 (.db [.b false,.isl 1 (([]:ar).map R),.isl 1 (([]:ar).map R)]) 1),(ag 3),.br [4] [.dp (aK 3 gJ aT)] [(gq 4 aT),(10,ii),(11,ii),(12,ii)]];
  have aY:=((.fc o.1 (Int.le_refl bf) o.2.1 o.2.2 (d9 3 (kJ gJ bf.toNat (Jr:gL))) (aC 3 Ds aT) (k1 bf.toNat ((Jr:gL):gL))):cE _);
  (by
  rcases bu with fT|fT
  ·exact(.ret (bR (t1.bo [((LY ei (len_ (cd 3 a8) ei)).t (.inl fT)),(ag 3)]) (aY.a1 (.di (ej ab K9) (ij gJ fT) (hJ gJ fT) (el Ds fT))) (.comp [.cj (.fb (fT.map gJ)),.cj .id])))
  exact(.ret (bR (t1.bo [.sub (.ret) [(2,.fq),(3,.b false)] []]) (aY.a1 (.ao (ej ab K9))) (.comp [.cj (.jF 3),.cj .id])))))
def xN (aX:cp)(cK:ar):Option (afI×Bool) :=sL aX cK >>= fun ad =>if ad=true then uP aX cK 0 0 >>= fun aI =>uR aX aI.1 aI.2.1 aI.2.2.1 aI.2.2.2.1 aI.2.2.2.2 >>= fun b2 =>if b2.2.2=true then Ak b2.1 >>= fun a6 =>some (a6.1,a6.2) else some (([]:afI),false) else some (([]:afI),false)
theorem Tx:bM (xN aX cK) (fun r=>Con bQ 17 [.agg (fV aX),.isl 1 (cK.map R)] [] (.cZ [.isl 3 (r.1.map gJ),.b r.2]) []):=.au fun ad J=>(let t1:afC:=[(ag 3),.aE (ca 2 (fD 2 ad) 1)];have aY:=((.aB (C1 ad J) (ck.b ad)):cE _);.ite (fun ab=>.au fun aI aJ=>.au fun b2 bJ=>(let aT:=eN 1 az aI.2.2.2.1;let bf:=eN 1 az aI.2.2.2.2;let cb:=eN 1 az aI.2.2.1;let t3:afC:=t1.bo [.ay false,.iB 0,.aE (ax 1 (ap (.call {aO:=[],cn:=[],ac:=[.bB (.ptr [.id,.id]),ii,ii,ii],r:= .agg (mN aI.1 aI.2.1 0 0 0 aI.2.2.1.length 0 1 0 aI.2.2.2.1.length 0 2 0 aI.2.2.2.2.length),de:=[[c7 1 R aI.2.2.1,c7 1 R aI.2.2.2.1,c7 1 R aI.2.2.2.2]],eE:= .bB (.agg gg),fo:=[.b9 [c7 1 R aI.2.2.1,c7 1 R aI.2.2.2.1,c7 1 R aI.2.2.2.2]],c8:=[0],c1:=true}) (ap (.call {aO:=[.af 8 0 (c7 1 R aI.2.2.1),.af 8 1 (c7 1 R aI.2.2.2.1),.af 8 2 (c7 1 R aI.2.2.2.2)],cn:=[.pure,.pure,.pure],ac:=[.bB (.ptr [.id,.id]),.bB (.agg [.id,.id,.at_ 0 0 aI.2.2.1.length,.at_ 1 0 aI.2.2.2.1.length,.at_ 2 0 aI.2.2.2.2.length])],r:= .cZ [.isl 1 (b2.1.map (cd 3 a8)),.isl 1 (b2.2.1.map (cd 3 a8)),.b b2.2.2],de:=[(aK 1 R aI.2.2.1),(aK 1 R aI.2.2.2.1),(aK 1 R aI.2.2.2.2)],eE:=ii,fo:=[.pure,.pure,.pure],c8:=[0,8],c1:=false}) (ax 7 [])))),(ag 2)];have fs:=aY.a1 (.bm (dk ab) (k0 (pH aX):ht [(fV aX)]) (ji (nT (mW [8]) 1 pT aI.2.2.1) (EV (mW [8]) aI.2.2.2.1 aI.2.2.2.2)) ((oz rfl (oz rfl (oz rfl Hl))):oI [c7 1 R aI.2.2.1,c7 1 R aI.2.2.2.1,c7 1 R aI.2.2.2.2]) (KD aI aJ) (ck.agg (n3 (ck.n .i64 aI.1) (n3 (ck.n .i64 aI.2.1) (n3 (Jh aI.2.2.1) (n3 (ck.bK 0 1 0 aI.2.2.2.1.length) (n3 (ck.bK 0 2 0 aI.2.2.2.2.length) AY)))))) ((Hm (vk (tY vH) (vk (tY vH) (vk (tY vH) HB))) HA):uu [[c7 1 R aI.2.2.1,c7 1 R aI.2.2.2.1,c7 1 R aI.2.2.2.2]]) (by decide:0≠1) (.bm (by decide:0≠2) (by decide:1≠2) (k0 (pH aX):ht [(fV aX)]) (rfl:lc [.af 8 0 (c7 1 R aI.2.2.1),.af 8 1 (c7 1 R aI.2.2.2.1),.af 8 2 (c7 1 R aI.2.2.2.2)] 0 0=some (8,0)) (gW aI.2.2.1) (rfl:lc [.af 8 0 (c7 1 R aI.2.2.1),.af 8 1 (c7 1 R aI.2.2.2.1),.af 8 2 (c7 1 R aI.2.2.2.2)] 1 0=some (8,1)) (gW aI.2.2.2.1) (rfl:lc [.af 8 0 (c7 1 R aI.2.2.1),.af 8 1 (c7 1 R aI.2.2.2.1),.af 8 2 (c7 1 R aI.2.2.2.2)] 2 0=some (8,2)) (.bm (gW aI.2.2.2.2) (rfl:cX (some [c7 1 R aI.2.2.1,c7 1 R aI.2.2.2.1,c7 1 R aI.2.2.2.2]) 0=some (c7 1 R aI.2.2.1)) cb (rfl:cX (some [c7 1 R aI.2.2.1,c7 1 R aI.2.2.2.1,c7 1 R aI.2.2.2.2]) 1=some (c7 1 R aI.2.2.2.1)) aT (rfl:cX (some [c7 1 R aI.2.2.1,c7 1 R aI.2.2.2.1,c7 1 R aI.2.2.2.2]) 2=some (c7 1 R aI.2.2.2.2)) bf cb (.bT aT bf (SJ b2 bJ)))));.ite (fun bp=>.au fun a6 cS=>.ret (bR (t3.bo [.ay false,.aE (ca 1 (fC 1 (.cZ [.isl 3 (a6.1.map gJ),.b a6.2]) false) 4)]) (fs.a1 (.aB (dk bp) (Ul a6 cS))))) (fun bp=>.ret (bR (t3.bo [.ay true,(ag 2)]) (fs.a1 (.ao (dv bp))) (.comp [.cj (.jF 3),.cj .id]))))) (fun ab=>.ret (bR (t1.bo [.ay true,(ag 2)]) (aY.a1 (.ao (dv ab))) (.comp [.cj (.jF 3),.cj .id]))))
def Ae (bk:Int):afF :=if (decide (bk<0))=true then some true else some (decide ((1000000000:Int)<=bk))
theorem T8:bM (Ae bk) (fun r=>Con bQ 119 [.n .i64 bk] [] (.b r) []):=.ite (fun o=>.ret (bR [(ag 1),.aE (ax 3 (ek 2 (ap (.ay true) (ax 1 []))))] (.bT o o o))) (fun o=>.ret (bR [(ag 1),.aE (ca 5 (.ay false) 1)] (.bT o o o)))
def SD (aX:ar)(gl:Int):fe Int ((Unit)⊕(Int)):=⟨fun eV=>eD [(fQ 0 aX),(1,.fn 119 []),(bF 7 gl),(bF 8 eV)] [],fun | .inl a=>⟨some 0,[],[]⟩ | .inr a=>⟨none,[(bF 4 a)],[]⟩⟩
def w2 (aX:ar)(gl eV:Int):Option ((Int)⊕((Unit)⊕(Int))) :=if (decide (eV<gl))=true then if 0<=eV/\eV<aX.length then aX[eV.toNat]? >>= fun aS =>Ae aS >>= fun bh =>if bh=true then some (.inr (.inr eV)) else some (.inl (U (eV+1))) else none else some (.inr (.inl ()))
def KO (aX:ar)(gl eV:Int):Option ((Unit)⊕(Int)):=iter (fun w:Int=>w2 aX gl w) eV
theorem Ks:bM (w2 aX gl eV) (fr bQ 19 0 84 [1,0,1,0,0] (SD aX gl) eV):=.ite (fun o=>.bd fun J=>.au fun aS aA=>.au fun bh bC=>(let t1:afC:=[(ag 1),.ay true,(ag 2),.aE (ax 4 (ap (.db (R aS)) (ap (fD 1 bh) [])))];have aY:=((.fa o J.1 (ex R J.2) (cC R aA) (T8 bh bC) (ck.b bh)):cE _);.ite (fun bJ=>.ret (bN (t1.append (oW 2 4)) (aY.a1 (.ao bJ)))) (fun bJ=>.ret (bN (t1.bo [.ay false,(ag 2),.br [] [] (bZ [0,1,7,8])]) (aY.a1 (.ao bJ)))))) (fun o=>.ret (bN (st 1) (.ao o)))
def CG (aX:ar):afJ :=KO aX (len_ R aX) 0 >>= fun ad =>match ad with | .inl bq=>(some (-1)) | .inr bq=>(some bq)
theorem SH:bM (CG aX) (fun r=>Con bQ 84 [.isl 1 (aX.map R),.fn 119 []] [] (.n .i64 r) []):=by
 unfold CG
 exact .au fun ad J =>
  (let t1:afC:=[(ag 1),(ag 3),.br [] [] (bZ [0,1,7,8])];
  (by
  rcases ad with bq|bq
  ·exact(.ret (bR (t1.bo [.sub (.exit 0) [] [],(ag 1)]) (.ao (ej J Ks))))
  exact(.ret (bR (t1.bo [.sub (.ret) [(bF 4 bq)] []]) (.ao (ej J Ks))))))
def xd (aX:ar):afF :=CG aX >>= fun ad =>some (decide ((0:Int)<=ad))
theorem KH:bM (xd aX) (fun r=>Con bQ 53 [.isl 1 (aX.map R),.fn 119 []] [] (.b r) []):=.au fun ad J=>.ret (bR [(ag 1),.aE (ca 2 (kn 2 ad) 2)] (.aB (SH ad J) (ck.n .i64 ad)))
def ve (bg:ar):afF :=if (decide ((60:Int)<(len_ R bg)))=true then some false else if (decide ((0:Int)<(len_ R bg)))=true then if 0<=(U ((len_ R bg)-1))/\(U ((len_ R bg)-1))<bg.length then bg[(U ((len_ R bg)-1)).toNat]? >>= fun f8 =>if (f8 == (0:Int))=true then some false else xd bg >>= fun bU =>some (!bU) else none else xd bg >>= fun bb =>some (!bb)
theorem MB:bM (ve bg) (fun r=>Con bQ 118 [.isl 1 (bg.map R)] [] (.b r) []):=.ite (fun o=>.ret (bR [(ag 1),.aE (ax 4 (ek 4 (nf 7 1))),.ay true,(ag 1)] (.fc o o o o o o cR))) (fun o=>.ite (fun J=>.bd fun ab=>.au fun f8 aJ=>(let t1:afC:=[(ag 1),.aE (ax 13 (ap (.db (R f8)) (ax 1 (ap (.ay true) (ap (.ay false) [])))))];have aY:=((.bm o o o o J J J J (.bm J ab.1 (ex R ab.2) J (cC R aJ) J o J (.ao o))):cE _);.ite (fun bC=>.ret (bR (t1.bo [.ay true,(ag 1)]) (aY.a1 (.ao bC)))) (fun bC=>.au fun bU bp=>.ret (bR (t1.bo [.ay false,.aE (ca 1 (fD 2 bU) 2)]) (aY.a1 (.bT bC (KH bU bp) (ck.b bU))))))) (fun J=>.au fun bb aA=>.ret (bR [(ag 1),.aE (ax 8 (ek 7 (ap (.ay false) (ap (.ay false) [])))),.ay false,.aE (ca 1 (fD 2 bb) 2)] (.bm o o o o J J J J (.bm J J J o J o gi (KH bb aA) (.ao (ck.b bb)))))))
def z6 (cH:bt):afF :=ve cH.cJ >>= fun ad =>if ad=true then if cH.c5=true then some (!((len_ R cH.cJ) == (0:Int))) else some true else some false
theorem TT:bM (z6 cH) (fun r=>Con bQ 117 [.agg (a3 cH)] [] (.b r) []):=.au fun ad J=>(have bS:=((.aB (MB ad J) (ck.b ad)):cE _);.ite (fun ab=>.ite (fun aA=>.ret (bR [(ag 2),.aE (ax 2 (ap (fD 1 ad) (ax 8 (ap (.ay true) (ca 1 (.ay true) 1)))))] (bS.a1 (.bm ab ab ab aA aA aA aA ab (.bT aA ab ab))))) (fun aA=>.ret (bR [(ag 2),.aE (ax 2 (ap (fD 1 ad) (ax 4 (ek 4 (ap (.ay false) (ca 1 (.ay true) 1))))))] (bS.a1 (.bm ab ab ab aA aA aA aA ab (.bT aA ab ab)))))) (fun ab=>.ret (bR [(ag 2),.aE (ax 2 (ap (fD 1 ad) (ax 1 (ek 3 (ax 4 (ek 2 (lz 1)))))))] (bS.a1 (.fa ab ab ab ab ab ab)))))
def x9 (ez:gL):afF :=z6 ez.m6 >>= fun ad =>if ad=true then ve ez.jO >>= fun aI =>if aI=true then if ((len_ R ez.jO) == (0:Int))=true then some false else if (decide ((24:Int)<(len_ R ez.m6.cJ)))=true then some false else if (decide ((24:Int)<(len_ R ez.jO)))=true then some false else x1 ez.m6.cJ ez.jO >>= fun eY =>pJ eY ([1]:ar) >>= fun fw =>some (fw == (0:Int)) else some false else some false
theorem Uv:bM (x9 ez) (fun r=>Con bQ 108 [.agg (gJ ez)] [] (.b r) []):=.au fun ad J=>(have bS:=((.aB (TT ad J) (ck.b ad)):cE _);.ite (fun ab=>.au fun aI aJ=>(have aY:=bS.a1 (.fc (dk ab) (dk ab) (dk ab) (MB aI aJ) (ck.b aI) (dk ab) (dk ab));.ite (fun bC=>(have gm:=aY.a1 (.ew (dk bC) (dk bC) (dk bC) (dk bC) (dk bC));.ite (fun bJ=>.ret (bR [(ag 2),.aE (ax 2 (ap (fD 1 ad) (ax 4 (ap (fD 1 aI) (ax 1 (ap (.ay false) (ax 5 (ap (.ay false) (ax 1 (ek 5 (ap (.ay true) (ax 1 (ek 4 (ax 1 [])))))))))))))),.ay true,(ag 1)] (gm.a1 (.bm bJ bJ bJ bJ bJ bJ cR cR (.bT cR cR cR))))) (fun bJ=>.ite (fun bp=>.ret (bR [(ag 2),.aE (ax 2 (ap (fD 1 ad) (ax 4 (ap (fD 1 aI) (ax 1 (ap (.ay false) (ax 5 (ap (.ay false) (ax 6 (ap (.ay false) (nf 1 4))))))))))),.ay true,(ag 1)] (gm.a1 (.bm bJ bJ bJ bJ bJ bJ bp bp (.di bp bp bp cR))))) (fun bp=>(let t4:afC:=[(ag 2),.aE (ax 2 (ap (fD 1 ad) (ax 4 (ap (fD 1 aI) (ax 1 (ap (.ay false) (ax 5 (ap (.ay false) (ax 6 (ap (.ay false) (oV 5)))))))))))];have q4:=gm.a1 (.bm bJ bJ bJ bJ bJ bJ bp bp (.bT bp bp bp));.ite (fun c2=>.ret (bR (t4.bo [.ay true,(ag 1)]) (q4.a1 (.ao c2)))) (fun c2=>.au fun eY cz=>.au fun fw eI=>.ret (bR (t4.bo [.ay false,.aE (ax 5 (ap (nd 2 eY) (ca 1 (.call {ac:=[ii,.bB (.cj (.fb (([1]:ar).map R)))],r:= .n .i64 fw,c1:=true,c8:=[37]}) 2)))]) (q4.a1 (.fc c2 (Me eY cz) (EW 1) (kt R 1) (el az ([1]:ar)) (xO fw eI) (ck.n .i64 fw)))))))))) (fun bC=>.ret (bR [(ag 2),.aE (ax 2 (ap (fD 1 ad) (ax 4 (ap (fD 1 aI) (ax 1 (ap (.ay false) (ax 1 (ek 4 (ap (.ay true) (ax 1 (ek 5 (ax 2 (ek 4 (ax 1 [])))))))))))))),.ay true,(ag 1)] (aY.a1 (.bm (dv bC) (dv bC) (dv bC) (dv bC) (dv bC) cR cR cR (.fc cR cR cR cR cR cR cR))))))) (fun ab=>.ret (bR [(ag 2),.aE (ax 2 (ap (fD 1 ad) (ax 2 (ek 4 (ap (.ay true) (ax 1 (ek 4 (ax 2 (ek 5 (ax 2 (ek 4 (ax 1 [])))))))))))),.ay true,(ag 1)] (bS.a1 (.bm (dv ab) (dv ab) (dv ab) (dv ab) (dv ab) cR cR cR (.bm cR cR cR cR cR cR cR cR (.bT cR cR cR)))))))
def DC (ez:gL):afL :=x9 ez >>= fun ad =>if ad=true then some (some (⟨ez.m6,ez.jO⟩:bP)) else some (none:afw)
theorem UJ:bM (DC ez) (fun r=>Con bQ 91 [.agg (gJ ez)] [] (d7 3 a8 r) []):=.au fun ad J=>(let t1:afC:=[(ag 2),.aE (ca 1 (fD 1 ad) 1)];have aY:=((.aB (Uv ad J) (ck.b ad)):cE _);.ite (fun ab=>.ret (bR (t1.bo [.ay false,(ag 7)]) (aY.a1 (.aB (dk ab) (k0 (jo (⟨ez.m6,ez.jO⟩:bP)):ht [(gJ ez)]))) (.bB (.tb [.id,.id,.id])))) (fun ab=>.ret (bR (t1.bo [.ay true,(ag 1)]) (aY.a1 (.ao (dv ab))) (.bB (.cj (.py 3))))))
def Mf (gv:afI)(e2:Int):fe (Int×afA) ((afA)⊕(Unit)):=⟨fun (e3,aw)=>eD [(hh 4 aw),(10,.isl 3 (gv.map gJ)),(bF 11 e2),(bF 12 e3)] [(aK 1 (cd 3 a8) aw)],fun | .inl a=>⟨some 0,[(hh 4 a)],[(aK 1 (cd 3 a8) a)]⟩ | .inr a=>⟨none,[(2,.fq),(3,.b false)],[]⟩⟩
def xI (gv:afI)(e2 e3:Int)(aw:afA):Option ((Int×afA)⊕((afA)⊕(Unit))) :=if (decide (e3<e2))=true then if 0<=e3/\e3<gv.length then gv[e3.toNat]? >>= fun aS =>DC aS >>= fun bh =>if 0<=e3/\e3<(aw.length:Nat) then if (0+e3.toNat)<aw.length then (aw.set (0+e3.toNat) bh)[(0+e3.toNat)]? >>= fun gu =>gu.elim (some (.inr (.inr ()))) fun Rh =>some (.inl (U (e3+1),aw.set (0+e3.toNat) bh)) else none else none else none else some (.inr (.inl aw))
def MC (gv:afI)(e2 e3:Int)(aw:afA):Option ((afA)⊕(Unit)):=iter (fun w:Int×afA=>xI gv e2 w.1 w.2) (e3,aw)
theorem Lf:bM (xI gv e2 e3 aw) (fr bQ 29 0 65 [1,1,0,1,0,0] (Mf gv e2) (e3,aw)):=.ite (fun o=>.bd fun J=>.au fun aS aA=>.au fun bh bC=>.bd fun bJ=>.bd fun bp=>.au fun gu cS=>(let t1:afC:=[(ag 1),.ay true,.aE (ca 2 (.db (gJ aS)) 3),.aE (ax 3 (ap (fC 1 (d7 3 a8 bh) false) (ax 1 (ap .df []))))];have aY:=((.bm o J.1 (ex gJ J.2) (cC gJ aA) (UJ bh bC) bJ.1 bJ.2 (hS (cd 3 a8) bp) (.di (hr 1) bJ.1 bJ.2 (DV (hH (cd 3 a8) aw e3 bh) cS))):cE _);.mf (fun cz=>.ret (bN (t1.bo [.aE (ax 3 (ap (.db ((cd 3 a8) gu)) (ap (.fB 25 (.eW 3 none) .df) []))),.ay true,(ag 2),.br [] [] (bZ [2,3])]) (aY.a1 (.aB (qS (sz:=3) (f:=a8) cz) cR)))) (fun Rh cz=>.ret (bN (t1.bo [.aE (ax 3 (ap (.db ((cd 3 a8) gu)) (ap (.fB 25 (.eW 3 (some (a8 Rh))) .df) []))),.ay false,(ag 2),.br [0] [.dp (aK 1 (cd 3 a8) (aw.set (0+e3.toNat) bh))] [(gq 4 (aw.set (0+e3.toNat) bh)),(10,ii),(11,ii),(12,ii)]]) (aY.a1 (.ew (ju cz) gi (d9 1 (hH (cd 3 a8) aw e3 bh)) (aC 1 (kw (sz:=3) jo) (aw.set (0+e3.toNat) bh)) (hO aw e3 bh))))))) (fun o=>.ret (bN (qb 1 0 4) (.aB o (aC 1 (kw (sz:=3) jo) aw))))
def As (ei:afI):Option (afA×Bool) :=if 0<=(len_ gJ ei)/\(8:Int)*(len_ gJ ei)<=281474976710656/\(len_ gJ ei)<9223372036854775808 then MC ei (len_ gJ ei) 0 (List.replicate (len_ gJ ei).toNat (none:afw):afA) >>= fun bu =>match bu with | .inl fT=>(some (fT,true)) | .inr fT=>(some (([]:afA),false)) else none
theorem Uw:bM (As ei) (fun r=>Con bQ 65 [.isl 3 (ei.map gJ)] [] (.cZ [.isl 1 (r.1.map (cd 3 a8)),.b r.2]) []):=by
 unfold As
 exact .bd fun o =>
  .au fun bu ab =>
  (let aT:=(List.replicate (len_ gJ ei).toNat (none:afw):afA);let t1:afC:=[(ag 2),.aE (ca 2 (.db [(d7 3 a8 (none:afw))]) 1),(ag 3),.br [4] [.dp (aK 1 (cd 3 a8) aT)] [(gq 4 aT),(10,ii),(11,ii),(12,ii)]];
  have aY:=((.fc o.1 (Int.le_refl (len_ gJ ei)) o.2.1 o.2.2 (d9 1 (kJ (cd 3 a8) (len_ gJ ei).toNat (none:afw))) (aC 1 (kw (sz:=3) jo) aT) (k1 (len_ gJ ei).toNat ((none:afw):afw))):cE _);
  (by
  rcases bu with fT|fT
  ·exact(.ret (bR (t1.bo [((Mf ei (len_ gJ ei)).t (.inl fT)),(ag 3)]) (aY.a1 (.di (ej ab Lf) (ij (cd 3 a8) fT) (hJ (cd 3 a8) fT) (el (kw (sz:=3) jo) fT))) (.comp [.cj (.fb (fT.map (cd 3 a8))),.cj .id])))
  exact(.ret (bR (t1.bo [.sub (.ret) [(2,.fq),(3,.b false)] []]) (aY.a1 (.ao (ej ab Lf))) (.comp [.cj (.jF 1),.cj .id])))))
def u4 (aX:cp)(gU:afI):Option (afA×Bool) :=if ((len_ gJ gU) != (len_ c9 aX.bs))=true then some (([]:afA),false) else ow aX >>= fun bu =>if bu=true then As gU >>= fun bh =>some (bh.1,bh.2) else some (([]:afA),false)
theorem CX:bM (u4 aX gU) (fun r=>Con bQ 34 [.e4 2 [(fV aX)] 0 0,.isl 3 (gU.map gJ)] [] (.cZ [.isl 1 (r.1.map (cd 3 a8)),.b r.2]) []):=.ite (fun o=>.ret (bR [(ag 2),.aE (nf 9 5),.ay true,(ag 2)] (.fc o o o o o o cR) (.comp [.cj (.jF 1),.cj .id]))) (fun o=>.au fun bu ab=>(let t1:afC:=[(ag 2),.aE (ax 12 (ap (fD 1 bu) (oV 1)))];have aY:=((.hR o o o o (F0 bu ab) (ck.b bu) o o):cE _);.ite (fun aA=>.au fun bh bC=>.ret (bR (t1.bo [.ay false,.aE (ca 1 (fC 1 (.cZ [.isl 1 (bh.1.map (cd 3 a8)),.b bh.2]) false) 4)]) (aY.a1 (.aB (dk aA) (Uw bh bC))))) (fun aA=>.ret (bR (t1.bo [.ay true,(ag 2)]) (aY.a1 (.ao (dv aA))) (.comp [.cj (.jF 1),.cj .id])))))
def r6 (bg bl:afw):afL :=bg.elim (some (none:afw)) fun d5 =>bl.elim (some (none:afw)) fun pE =>xM bg bl >>= fun bh =>vl bh >>= fun bU =>some bU
theorem x3:bM (r6 bg bl) (fun r=>Con bQ 69 [d7 3 a8 bg,d7 3 a8 bl] [] (d7 3 a8 r) []):=.mf (fun o=>.ret (bR [(ag 1),.aE (ax 1 (ap (.fB 5 (.eW 3 none) .df) (ax 1 (ek 2 (ax 1 []))))),.ay true,(ag 1)] (.di (qS (sz:=3) (f:=a8) o) cR cR cR) (.bB (.cj (.py 3))))) (fun d5 o=>(have bS:=((.bT (ju o) gi gi):cE _);.mf (fun ab=>.ret (bR [(ag 1),.aE (ax 1 (ap (.fB 5 (.eW 3 (some (a8 d5))) .df) (ca 2 (.fB 8 (.eW 3 none) .df) 1))),.ay true,(ag 1)] (bS.a1 (.aB (qS (sz:=3) (f:=a8) ab) cR)) (.bB (.cj (.py 3))))) (fun pE ab=>.au fun bh bC=>.au fun bU bp=>.ret (bR [(ag 1),.aE (ax 1 (ap (.fB 5 (.eW 3 (some (a8 d5))) .df) (ca 2 (.fB 8 (.eW 3 (some (a8 pE))) .df) 1))),.ay false,.aE (ax 2 (ap (fC 2 (d7 3 a8 bh) false) (ap (fC 1 (d7 3 a8 bU) false) (ax 1 []))))] (bS.a1 (.di (ju ab) gi (Lr bh bC) (MY bU bp)))))))
def zJ (aX:cp)(gU:afA)(c0:Int):afL :=rU aX c0 >>= fun ad =>if 0<=c0/\c0<gU.length then gU[c0.toNat]? >>= fun f8 =>r6 f8 f8 >>= fun b2 =>l7 (U ((U (ad.1*ad.1))+(U (ad.2*ad.2)))) >>= fun eB =>r6 b2 eB >>= fun eY =>some eY else none
theorem SE:bM (zJ aX gU c0) (fun r=>Con bQ 74 [.e4 2 [(fV aX)] 0 0,.isl 1 (gU.map (cd 3 a8)),.n .i64 c0] [] (d7 3 a8 r) []):=.au fun ad J=>.bd fun ab=>.au fun f8 aJ=>.au fun b2 bJ=>.au fun eB c2=>.au fun eY cz=>.ret (bR [(ag 1),.aE (ca 2 (fC 2 (.cZ [.n .i64 ad.1,.n .i64 ad.2]) true) 5),.aE (ax 3 (ap (.db ((cd 3 a8) f8)) (ax 3 (ap (.db ((cd 3 a8) f8)) (ap (fC 2 (d7 3 a8 b2) false) (ax 7 (ap (fC 1 (d7 3 a8 eB) false) (ap (fC 2 (d7 3 a8 eY) false) (ax 1 [])))))))))] (.bm (FM ad J) (HS (n3 (ck.n .i64 ad.1) (n3 (ck.n .i64 ad.2) AY))) ab.1 (ex (cd 3 a8) ab.2) (cC (cd 3 a8) aJ) ab.1 (ex (cd 3 a8) ab.2) (cC (cd 3 a8) aJ) (.bT (x3 b2 bJ) (pI eB c2) (x3 eY cz))))
def Tf (gG:afB)(fF:afD)(ix:afA)(hM:Int):fe (Int×afA) ((afA)⊕(Unit)):=⟨fun (lT,aw)=>eD [(tq 0 gG fF),(6,.isl 1 (ix.map (cd 3 a8))),(hh 8 aw),(bF 22 hM),(bF 23 lT)] [(aK 1 (cd 3 a8) aw)],fun | .inl a=>⟨some 0,[(hh 8 a)],[(aK 1 (cd 3 a8) a)]⟩ | .inr a=>⟨none,[(4,.fq),(5,.b false)],[]⟩⟩
def xh (gG:afB)(fF:afD)(ix:afA)(hM lT:Int)(aw:afA):Option ((Int×afA)⊕((afA)⊕(Unit))) :=if (decide (lT<hM))=true then zJ (⟨gG,fF⟩:cp) ix lT >>= fun bu =>if 0<=lT/\lT<(aw.length:Nat) then if (0+lT.toNat)<aw.length then (aw.set (0+lT.toNat) bu)[(0+lT.toNat)]? >>= fun ct =>ct.elim (some (.inr (.inr ()))) fun uJ =>some (.inl (U (lT+1),aw.set (0+lT.toNat) bu)) else none else none else some (.inr (.inl aw))
def Ll (gG:afB)(fF:afD)(ix:afA)(hM lT:Int)(aw:afA):Option ((afA)⊕(Unit)):=iter (fun w:Int×afA=>xh gG fF ix hM w.1 w.2) (lT,aw)
theorem KL:bM (xh gG fF ix hM lT aw) (fr bQ 40 0 42 [1,1,1,1,0,1,0,0] (Tf gG fF ix hM) (lT,aw)):=.ite (fun o=>.au fun bu ab=>.bd fun aA=>.bd fun aJ=>.au fun ct bJ=>(let t1:afC:=[(ag 1),.ay true,(ag 2),.aE (ax 5 (ap (fC 3 (d7 3 a8 bu) false) (ax 1 (ap .df []))))];have aY:=((.bm o (SE bu ab) aA.1 aA.2 (hS (cd 3 a8) aJ) (hr 1) aA.1 aA.2 (.ao (DV (hH (cd 3 a8) aw lT bu) bJ))):cE _);.mf (fun bp=>.ret (bN (t1.bo [.aE (ax 3 (ap (.db ((cd 3 a8) ct)) (ap (.fB 36 (.eW 3 none) .df) []))),.ay true,(ag 2),.br [] [] (bZ [4,5])]) (aY.a1 (.aB (qS (sz:=3) (f:=a8) bp) cR)))) (fun uJ bp=>.ret (bN (t1.bo [.aE (ax 3 (ap (.db ((cd 3 a8) ct)) (ap (.fB 36 (.eW 3 (some (a8 uJ))) .df) []))),.ay false,(ag 2),.br [0] [.dp (aK 1 (cd 3 a8) (aw.set (0+lT.toNat) bu))] [(0,ii),(6,ii),(gq 8 (aw.set (0+lT.toNat) bu)),(22,ii),(23,ii)]]) (aY.a1 (.ew (ju bp) gi (d9 1 (hH (cd 3 a8) aw lT bu)) (aC 1 (kw (sz:=3) jo) (aw.set (0+lT.toNat) bu)) (hO aw lT bu))))))) (fun o=>.ret (bN (qb 1 0 8) (.aB o (aC 1 (kw (sz:=3) jo) aw))))
def zX (aX:cp)(gU:afI):Option (afA×Bool) :=u4 aX gU >>= fun ad =>if ad.2=true then if 0<=(len_ (cd 3 a8) ad.1)/\(8:Int)*(len_ (cd 3 a8) ad.1)<=281474976710656/\(len_ (cd 3 a8) ad.1)<9223372036854775808 then Ll aX.cm aX.bs ad.1 (len_ (cd 3 a8) ad.1) 0 (List.replicate (len_ (cd 3 a8) ad.1).toNat (none:afw):afA) >>= fun bh =>match bh with | .inl pC=>(some (pC,true)) | .inr pC=>(some (([]:afA),false)) else none else some (([]:afA),false)
theorem Tu:bM (zX aX gU) (fun r=>Con bQ 42 [.e4 2 [(fV aX)] 0 0,.isl 3 (gU.map gJ)] [] (.cZ [.isl 1 (r.1.map (cd 3 a8)),.b r.2]) []):=by
 unfold zX
 exact .au fun ad J =>
  (let t1:afC:=[(ag 2),.aE (ca 2 (fC 2 (.cZ [.isl 1 (ad.1.map (cd 3 a8)),.b ad.2]) false) 5),(ag 2)];
  .ite (fun ab =>
  .bd fun aA =>
  .au fun bh bC =>
  (let bf:=len_ (cd 3 a8) ad.1;let aT:=(List.replicate bf.toNat (none:afw):afA);let t2:afC:=t1.bo [.ay false,.aE (ca 2 (.db [(d7 3 a8 (none:afw))]) 1),(ag 3),.br [14] [.dp (aK 1 (cd 3 a8) aT)] [(0,ii),(6,ii),(gq 8 aT),(22,ii),(23,ii)]];
  have gm:=((.bm (CX ad J) (dk ab) aA.1 (Int.le_refl bf) aA.2.1 aA.2.2 (d9 1 (kJ (cd 3 a8) bf.toNat (none:afw))) (aC 1 (kw (sz:=3) jo) aT) (.ao (k1 bf.toNat ((none:afw):afw)))):cE _);
  (by
  rcases bh with pC|pC
  ·exact(.ret (bR (t2.bo [.sub (.exit 0) [(hh 8 pC)] [(aK 1 (cd 3 a8) pC)],(ag 3)]) (gm.a1 (.di (ej bC KL) (ij (cd 3 a8) pC) (hJ (cd 3 a8) pC) (el (kw (sz:=3) jo) pC))) (.comp [.cj (.fb (pC.map (cd 3 a8))),.cj .id])))
  ·exact(.ret (bR (t2.bo [.sub (.ret) [(4,.fq),(5,.b false)] []]) (gm.a1 (.ao (ej bC KL))) (.comp [.cj (.jF 1),.cj .id]))))))
  (fun ab =>
  .ret (bR (t1.bo [.ay true,(ag 2)]) (.aB (CX ad J) (dv ab)) (.comp [.cj (.jF 1),.cj .id]))))
def Af (bk:Int):afF :=if (decide ((0:Int)<=bk))=true then some (decide (bk<=1000)) else some false
theorem T9:bM (Af bk) (fun r=>Con bQ 55 [.n .i64 bk] [] (.b r) []):=.ite (fun o=>.ret (bR [(ag 1),.aE (ca 5 (.ay true) 1)] (.bT o o o))) (fun o=>.ret (bR [(ag 1),.aE (ax 3 (ek 2 (lz 1)))] (.bT o o o)))
def CY (bk:Int):afF :=Af bk >>= fun ad =>some (!ad)
theorem Tv:bM (CY bk) (fun r=>Con bQ 54 [.n .i64 bk] [] (.b r) []):=.au fun ad J=>.ret (bR [(ag 1),.aE (ca 1 (fD 1 ad) 2)] (.aB (T9 ad J) (ck.b ad)))
def Sh (aX:ar)(gl:Int):fe Int ((Unit)⊕(Int)):=⟨fun eV=>eD [(fQ 0 aX),(1,.fn 54 []),(bF 7 gl),(bF 8 eV)] [],fun | .inl a=>⟨some 0,[],[]⟩ | .inr a=>⟨none,[(bF 4 a)],[]⟩⟩
def wY (aX:ar)(gl eV:Int):Option ((Int)⊕((Unit)⊕(Int))) :=if (decide (eV<gl))=true then if 0<=eV/\eV<aX.length then aX[eV.toNat]? >>= fun aS =>CY aS >>= fun bh =>if bh=true then some (.inr (.inr eV)) else some (.inl (U (eV+1))) else none else some (.inr (.inl ()))
def KE (aX:ar)(gl eV:Int):Option ((Unit)⊕(Int)):=iter (fun w:Int=>wY aX gl w) eV
theorem Kq:bM (wY aX gl eV) (fr bQ 19 0 84 [1,0,1,0,0] (Sh aX gl) eV):=.ite (fun o=>.bd fun J=>.au fun aS aA=>.au fun bh bC=>(let t1:afC:=[(ag 1),.ay true,(ag 2),.aE (ax 4 (ap (.db (R aS)) (ap (fD 1 bh) [])))];have aY:=((.fa o J.1 (ex R J.2) (cC R aA) (Tv bh bC) (ck.b bh)):cE _);.ite (fun bJ=>.ret (bN (t1.append (oW 2 4)) (aY.a1 (.ao bJ)))) (fun bJ=>.ret (bN (t1.bo [.ay false,(ag 2),.br [] [] (bZ [0,1,7,8])]) (aY.a1 (.ao bJ)))))) (fun o=>.ret (bN (st 1) (.ao o)))
def zE (aX:ar):afJ :=KE aX (len_ R aX) 0 >>= fun ad =>match ad with | .inl bq=>(some (-1)) | .inr bq=>(some bq)
theorem Sn:bM (zE aX) (fun r=>Con bQ 84 [.isl 1 (aX.map R),.fn 54 []] [] (.n .i64 r) []):=by
 unfold zE
 exact .au fun ad J =>
  (let t1:afC:=[(ag 1),(ag 3),.br [] [] (bZ [0,1,7,8])];
  (by
  rcases ad with bq|bq
  ·exact(.ret (bR (t1.bo [.sub (.exit 0) [] [],(ag 1)]) (.ao (ej J Kq))))
  exact(.ret (bR (t1.bo [.sub (.ret) [(bF 4 bq)] []]) (.ao (ej J Kq))))))
def FD (aX:ar):afF :=zE aX >>= fun ad =>some (decide ((0:Int)<=ad))
theorem Se:bM (FD aX) (fun r=>Con bQ 53 [.isl 1 (aX.map R),.fn 54 []] [] (.b r) []):=.au fun ad J=>.ret (bR [(ag 1),.aE (ca 2 (kn 2 ad) 2)] (.aB (Sn ad J) (ck.n .i64 ad)))
def tN (aX:cp)(g8:ar):afF :=if ((len_ R g8) == (len_ c9 aX.bs))=true then FD g8 >>= fun bu =>some (!bu) else some false
theorem Lx:bM (tN aX g8) (fun r=>Con bQ 27 [.e4 2 [(fV aX)] 0 0,.isl 1 (g8.map R)] [] (.b r) []):=.ite (fun o=>.au fun bu ab=>.ret (bR [(ag 1),.aE (ax 10 (ap (fD 2 bu) (ca 1 (.ay true) 1)))] (.fa o o (Se bu ab) (ck.b bu) o o))) (fun o=>.ret (bR [(ag 1),.aE (ax 9 (ek 3 (lz 1)))] (.di o o o o)))
def xU (cH fk:afw):afJ :=fk >>= fun fl =>qn cH fl.pq >>= fun bb =>cH >>= fun lH =>qn fk lH.pq >>= fun bU =>rV bb bU >>= fun a6 =>some a6
theorem TI:bM (xU cH fk) (fun r=>Con bQ 43 [d7 3 a8 cH,d7 3 a8 fk] [] (.n .i64 r) []):=.au fun fl J=>.au fun bb aA=>.au fun lH bC=>.au fun bU bp=>.au fun a6 cS=>.ret (bR [(ag 1),.aE (ax 2 (ap (.fB 6 (.eW 3 (some (a8 fl))) .df) (ax 2 (ap (hI 2 bb) (ax 2 (ap (.fB 12 (.eW 3 (some (a8 lH))) .df) (ax 2 (ap (hI 2 bU) (ap (kn 2 a6) (ax 1 []))))))))))] (.fa (ju J) (CM bb aA) (ju bC) (CM bU bp) (K7 a6 cS) (ck.n .i64 a6)))
def Lm (g8:ar)(fG:afA)(f7:Int):fe (Int×ar) ar:=⟨fun (lU,aw)=>eD [(fQ 2 g8),(hh 10 aw),(27,.isl 1 (fG.map (cd 3 a8))),(bF 28 f7),(bF 29 lU)] [(aK 1 R aw)],fun | a=>⟨some 0,[(hh 10 a)],[(aK 1 R a)]⟩⟩
def xj (g8:ar)(fG:afA)(f7 lU:Int)(aw:ar):Option ((Int×ar)⊕(ar)) :=if (decide (lU<f7))=true then if 0<=lU/\lU<fG.length then fG[lU.toNat]? >>= fun aS =>if 0<=lU/\lU<g8.length then g8[lU.toNat]? >>= fun ct =>l7 (U (ct*ct)) >>= fun eB =>xU aS eB >>= fun eY =>if (decide ((0:Int)<eY))=true then if (aw++([lU]:ar)).length*8<=140737488355328 then some (.inl (U (lU+1),aw++([lU]:ar))) else none else some (.inl (U (lU+1),aw)) else none else none else some (.inr aw)
def Ly (g8:ar)(fG:afA)(f7 lU:Int)(aw:ar):Option (ar):=iter (fun w:Int×ar=>xj g8 fG f7 w.1 w.2) (lU,aw)
theorem SK:bM (xj g8 fG f7 lU aw) (fr bQ 53 0 20 [1,1,1,1,0,1,0,0] (Lm g8 fG f7) (lU,aw)):=.ite (fun o=>.bd fun J=>.au fun aS aA=>.bd fun aJ=>.au fun ct bJ=>.au fun eB c2=>.au fun eY cz=>(let t1:afC:=[(ag 1),.ay true,.aE (ca 2 (.db ((cd 3 a8) aS)) 2),.aE (ax 4 (ap (.db (R ct)) (ax 3 (ap (.db (R ct)) (ax 1 (ap (fC 1 (d7 3 a8 eB) false) (ap (kn 2 eY) (ax 1 []))))))))];have aY:=((.bm o J.1 (ex (cd 3 a8) J.2) (cC (cd 3 a8) aA) aJ.1 (ex R aJ.2) (cC R bJ) aJ.1 (.ew (ex R aJ.2) (cC R bJ) (pI eB c2) (TI eY cz) (ck.n .i64 eY))):cE _);.ite (fun ec=>.bd fun eI=>.ret (let aT:=(aw++([lU]:ar));bN (t1.bo [.ay true,.aE (l0 3 aT 1),(ag 2),.br [23] [.dp (aK 1 R aT)] (bZ [2,10,27,28,29])]) (aY.a1 (.fc ec (kt R lU) (o6 R aw) (np R aw lU) eI (d9 1 (o7 R aw lU)) (aC 1 az aT))))) (fun ec=>.ret (bN (t1.bo [.ay false,(ag 2),.br [0] [.pure] (bZ [2,10,27,28,29])]) (aY.a1 (.aB ec (aC 1 az aw))))))) (fun o=>.ret (bN (qb 1 0 10) (.aB o (aC 1 az aw))))
def zZ (aX:cp)(gU:afI)(g8:ar):Option (ar×Bool) :=zX aX gU >>= fun ad =>if ad.2=true then tN aX g8 >>= fun aI =>if aI=true then Ly g8 ad.1 (len_ (cd 3 a8) ad.1) 0 ([]:ar) >>= fun bU =>some (bU,true) else some (([]:ar),false) else some (([]:ar),false)
theorem TA:bM (zZ aX gU g8) (fun r=>Con bQ 20 [.e4 2 [(fV aX)] 0 0,.isl 3 (gU.map gJ),.isl 1 (g8.map R)] [] (.cZ [.isl 1 (r.1.map R),.b r.2]) []):=.au fun ad J=>(let t1:afC:=[(ag 2),.aE (ca 2 (fC 2 (.cZ [.isl 1 (ad.1.map (cd 3 a8)),.b ad.2]) false) 5)];have aY:=((.ao (Tu ad J)):cE _);.ite (fun ab=>.au fun aI aJ=>(let t3:afC:=t1.bo [.aE (ax 5 (ap (fD 2 aI) (oV 1)))];have fs:=aY.a1 (.fc (dk ab) (dk ab) (dk ab) (Lx aI aJ) (ck.b aI) (dk ab) (dk ab));.ite (fun bC=>.au fun bU bp=>.ret (bR (t3.bo [.ay false,(ag 1),(ag 3),.si 10 1,.br [22] [.dp (aK 1 R ([]:ar))] [(2,ii),(gq 10 ([]:ar)),(27,ii),(28,ii),(29,ii)],((Lm g8 ad.1 (len_ (cd 3 a8) ad.1)).t bU),(ag 3)]) (fs.a1 (.hR (dk bC) (d9 1 (j3 R)) (aC 1 az ([]:ar)) (jm Int) (ej bp SK) (ij R bU) (hJ R bU) (el az bU))) (.comp [.cj (.fb (bU.map R)),.cj .id]))) (fun bC=>.ret (bR (t3.bo [.ay true,(ag 2)]) (fs.a1 (.ao (dv bC))) (.comp [.cj (.jF 1),.cj .id]))))) (fun ab=>.ret (bR (t1.bo [.aE (nf 3 4),.ay true,(ag 2)]) (aY.a1 (.fa (dv ab) (dv ab) (dv ab) (dv ab) (dv ab) cR)) (.comp [.cj (.jF 1),.cj .id]))))
def u5 (aX:cp)(gU:afI)(g8:ar):afF :=zZ aX gU g8 >>= fun ad =>if ad.2=true then some ((len_ R ad.1) == (0:Int)) else some false
theorem LZ:bM (u5 aX gU g8) (fun r=>Con bQ 9 [.agg (fV aX),.isl 3 (gU.map gJ),.isl 1 (g8.map R)] [] (.b r) []):=.au fun ad J=>(let t1:afC:=[(ag 2),.iB 0,.aE (ca 2 (.call {ac:=[.bB (.ptr [.id,.id]),ii,ii],r:= .cZ [.isl 1 (ad.1.map R),.b ad.2],c1:=false,c8:=[0]}) 5)];have aY:=((.aB (k0 (pH aX):ht [(fV aX)]) (TA ad J)):cE _);.ite (fun ab=>.ret (bR (t1.bo [.aE (ca 5 (.ay true) 1)]) (aY.a1 (.di ab ab ab ab)))) (fun ab=>.ret (bR (t1.bo [.aE (ax 2 (ek 3 (lz 1)))]) (aY.a1 (.di ab ab ab ab)))))
def uY (aX:cp)(cK g8:ar):Option (afI×Bool) :=xN aX cK >>= fun ad =>if ad.2=true then u5 aX ad.1 g8 >>= fun aI =>if aI=true then some (ad.1,true) else some (([]:afI),false) else some (([]:afI),false)
theorem Lg:bM (uY aX cK g8) (fun r=>Con bQ 6 [.agg (fV aX),.isl 1 (cK.map R),.isl 1 (g8.map R)] [] (.cZ [.isl 3 (r.1.map gJ),.b r.2]) []):=.au fun ad J=>(let t1:afC:=[(ag 3),.aE (ca 2 (fC 2 (.cZ [.isl 3 (ad.1.map gJ),.b ad.2]) false) 5)];have aY:=((.ao (Tx ad J)):cE _);.ite (fun ab=>.au fun aI aJ=>(let t3:afC:=t1.bo [.aE (ax 6 (ap (fD 3 aI) (oV 1)))];have fs:=aY.a1 (.hR (dk ab) (dk ab) (dk ab) (dk ab) (LZ aI aJ) (ck.b aI) (dk ab) (dk ab));.ite (fun bC=>.ret (bR (t3.bo [.ay false,(ag 3)]) (fs.a1 (.ao (dk bC))))) (fun bC=>.ret (bR (t3.bo [.ay true,(ag 2)]) (fs.a1 (.ao (dv bC))) (.comp [.cj (.jF 3),.cj .id]))))) (fun ab=>.ret (bR (t1.bo [.aE (nf 3 5),.ay true,(ag 2)]) (aY.a1 (.fc (dv ab) (dv ab) (dv ab) (dv ab) (dv ab) (dv ab) cR)) (.comp [.cj (.jF 3),.cj .id]))))
def r1 (aX:cp)(cK g8:ar):afF :=uY aX cK g8 >>= fun ad =>some ad.2
theorem C2:bM (r1 aX cK g8) (fun r=>Con bQ 7 [.agg (fV aX),.isl 1 (cK.map R),.isl 1 (g8.map R)] [] (.b r) []):=.au fun ad J=>.ret (bR [(ag 2),.aE (ca 3 (fC 3 (.cZ [.isl 3 (ad.1.map gJ),.b ad.2]) false) 5),(ag 2)] (.ao (Lg ad J)))
def SS (gG:afB)(fF:afD)(gU:afA)(qw je:Int):fe (afw×afw×Int) (afw×afw):=⟨fun (cH,fk,iq)=>eD [(tq 0 gG fF),(1,.isl 1 (gU.map (cd 3 a8))),(bF 2 qw),(8,d7 3 a8 cH),(9,d7 3 a8 fk),(19,.isl 3 (fF.map c9)),(bF 20 je),(bF 21 iq)] [],fun | a=>⟨some 0,[(8,d7 3 a8 a.1),(9,d7 3 a8 a.2)],[]⟩⟩
def xe (gG:afB)(fF:afD)(gU:afA)(qw je:Int)(cH fk:afw)(iq:Int):Option ((afw×afw×Int)⊕(afw×afw)) :=if (decide (iq<je))=true then if 0<=iq/\iq<fF.length then fF[iq.toNat]? >>= fun aS =>rU (⟨gG,fF⟩:cp) iq >>= fun bh =>if (qw == aS.gy)=true then if 0<=iq/\iq<gU.length then gU[iq.toNat]? >>= fun gu =>l7 bh.1 >>= fun c4 =>r6 gu c4 >>= fun d2 =>oC cH d2 >>= fun eH =>l7 bh.2 >>= fun kc =>r6 gu kc >>= fun zq =>oC fk zq >>= fun hd =>some (.inl (eH,hd,U (iq+1))) else none else if (qw == aS.gz)=true then if 0<=iq/\iq<gU.length then gU[iq.toNat]? >>= fun iW =>l7 (U (0-bh.1)) >>= fun fw =>r6 iW fw >>= fun fE =>oC cH fE >>= fun dm =>l7 (U (0-bh.2)) >>= fun eu =>r6 iW eu >>= fun jh =>oC fk jh >>= fun o0 =>some (.inl (dm,o0,U (iq+1))) else none else some (.inl (cH,fk,U (iq+1))) else none else some (.inr (cH,fk))
def La (gG:afB)(fF:afD)(gU:afA)(qw je:Int)(cH fk:afw)(iq:Int):Option (afw×afw):=iter (fun w:afw×afw×Int=>xe gG fF gU qw je w.1 w.2.1 w.2.2) (cH,fk,iq)
theorem SA:bM (xe gG fF gU qw je cH fk iq) (fr bQ 66 0 37 [1,1,0,1,0,0] (SS gG fF gU qw je) (cH,fk,iq)):=.ite (fun o=>.bd fun J=>.au fun aS aA=>.au fun bh bC=>(let t1:afC:=[(ag 1),.ay true,.aE (ca 2 (.db (c9 aS)) 3),.aE (ca 2 (fC 2 (.cZ [.n .i64 bh.1,.n .i64 bh.2]) true) 5),(ag 1),(ag 4)];have aY:=((.fa o J.1 (ex c9 J.2) (cC c9 aA) (FM bh bC) (HS (n3 (ck.n .i64 bh.1) (n3 (ck.n .i64 bh.2) AY)))):cE _);.ite (fun bJ=>.bd fun bp=>.au fun gu cS=>.au fun c4 ec=>.au fun d2 eo=>.au fun eH gx=>.au fun kc ld=>.au fun zq mO=>.au fun hd lB=>.ret (bN (t1.bo [.ay true,.aE (ax 4 (ap (.db ((cd 3 a8) gu)) (ax 1 (ap (fC 1 (d7 3 a8 c4) false) (ap (fC 2 (d7 3 a8 d2) false) (ap (fC 2 (d7 3 a8 eH) false) (ax 1 []))))))),.aE (ax 4 (ap (.db ((cd 3 a8) gu)) (ax 1 (ap (fC 1 (d7 3 a8 kc) false) (ap (fC 2 (d7 3 a8 zq) false) (ap (fC 2 (d7 3 a8 hd) false) (ax 1 []))))))),(ag 2),.br [] [] (bZ [0,1,2,8,9,19,20,21])]) (aY.a1 (.bm bJ bp.1 (ex (cd 3 a8) bp.2) (cC (cd 3 a8) cS) (pI c4 ec) (x3 d2 eo) (tQ eH gx) bp.1 (.ew (ex (cd 3 a8) bp.2) (cC (cd 3 a8) cS) (pI kc ld) (x3 zq mO) (tQ hd lB)))))) (fun bJ=>.ite (fun bp=>.bd fun c2=>.au fun iW cz=>.au fun fw eI=>.au fun fE hz=>.au fun dm gT=>.au fun eu kp=>.au fun jh nK=>.au fun o0 l1=>.ret (bN (t1.bo [.ay false,(ag 4),.ay true,(ag 6),.aE (ax 4 (ap (.db ((cd 3 a8) iW)) (ax 1 (ap (fC 1 (d7 3 a8 fw) false) (ap (fC 2 (d7 3 a8 fE) false) (ap (fC 2 (d7 3 a8 dm) false) (ax 1 []))))))),.aE (ax 4 (ap (.db ((cd 3 a8) iW)) (ax 1 (ap (fC 1 (d7 3 a8 eu) false) (ap (fC 2 (d7 3 a8 jh) false) (ap (fC 2 (d7 3 a8 o0) false) (ax 1 []))))))),(ag 2),.br [] [] (bZ [0,1,2,8,9,19,20,21])]) (aY.a1 (.bm bJ bp c2.1 (ex (cd 3 a8) c2.2) (cC (cd 3 a8) cz) (pI fw eI) (x3 fE hz) (tQ dm gT) (.fa c2.1 (ex (cd 3 a8) c2.2) (cC (cd 3 a8) cz) (pI eu kp) (x3 jh nK) (tQ o0 l1)))))) (fun bp=>.ret (bN (t1.bo [.ay false,(ag 4),.ay false,(ag 2),.br [] [] (bZ [0,1,2,8,9,19,20,21])]) (aY.a1 (.aB bJ bp))))))) (fun o=>.ret (bN [(ag 1),.ay false,.br [] [] (bZ [8,9])] (.ao o)))
def zS (aX:cp)(gU:afA)(qw:Int):Option (afw×afw) :=l7 0 >>= fun ad =>La aX.cm aX.bs gU qw (len_ c9 aX.bs) ad ad 0 >>= fun bb =>some (bb.1,bb.2)
theorem Tg:bM (zS aX gU qw) (fun r=>Con bQ 37 [.e4 2 [(fV aX)] 0 0,.isl 1 (gU.map (cd 3 a8)),.n .i64 qw] [] (.cZ [d7 3 a8 r.1,d7 3 a8 r.2]) []):=.au fun ad J=>.au fun bb aA=>.ret (bR [(ag 2),.aE (ap (fC 1 (d7 3 a8 ad) false) (ap (fC 1 (d7 3 a8 ad) false) (ax 2 []))),(ag 6),.br [] [] (bZ [0,1,2,8,9,19,20,21]),.sub (.exit 0) [(8,d7 3 a8 bb.1),(9,d7 3 a8 bb.2)] [],(ag 4)] (.bT (pI ad J) (pI ad J) (ej aA SA)))
def u2 (cH:afw):afJ :=cH >>= fun fl =>ox fl.p3 >>= fun bb =>some bb
theorem Lz:bM (u2 cH) (fun r=>Con bQ 41 [(d7 3 a8 cH)] [] (.n .i64 r) []):=.au fun fl J=>.au fun bb aA=>.ret (bR [(ag 1),.aE (ax 1 (ap (.fB 3 (.eW 3 (some (a8 fl))) .df) (ca 2 (kn 1 bb) 1)))] (.bT (ju J) (sE bb aA) (ck.n .i64 bb)))
def Al (cH:afw):afF :=cH.elim (some false) fun d5 =>u2 cH >>= fun bb =>some (bb == (0:Int))
theorem Mq:bM (Al cH) (fun r=>Con bQ 38 [(d7 3 a8 cH)] [] (.b r) []):=.mf (fun o=>.ret (bR [(ag 1),.aE (ax 1 (ap (.fB 3 (.eW 3 none) .df) (ax 1 (ek 3 (ax 2 [])))))] (.di (qS (sz:=3) (f:=a8) o) gi gi gi))) (fun d5 o=>.au fun bb aA=>.ret (bR [(ag 1),.aE (ax 1 (ap (.fB 3 (.eW 3 (some (a8 d5))) .df) (ca 2 (kn 1 bb) 3)))] (.fa (ju o) cR cR (Lz bb aA) (ck.n .i64 bb) cR)))
def Tw (cK:ar)(ix:afA)(ky:ar)(gp:Int)(bD:afB)(a7:afD):fe Int ((Unit)⊕(Unit)):=⟨fun fG=>eD [(fQ 1 cK),(3,.ref 0 0 0 0),(7,.isl 1 (ix.map (cd 3 a8))),(fQ 25 ky),(bF 26 gp),(bF 27 fG)] [[aM.mk 2 [[.isl 4 (bD.map c3),.isl 3 (a7.map c9)]] .iB]],fun | .inl a=>⟨some 0,[],[]⟩ | .inr a=>⟨none,[(6,.b false)],[]⟩⟩
def xk (cK:ar)(ix:afA)(ky:ar)(gp:Int)(bD:afB)(a7:afD)(fG:Int):Option ((Int)⊕((Unit)⊕(Unit))) :=if (decide (fG<gp))=true then if 0<=fG/\fG<ky.length then ky[fG.toNat]? >>= fun aS =>zS (⟨bD,a7⟩:cp) ix aS >>= fun bh =>if 0<=(U ((2:Int)*aS))/\(U ((2:Int)*aS))<cK.length then cK[(U ((2:Int)*aS)).toNat]? >>= fun l5 =>l7 l5 >>= fun eY =>oC bh.1 eY >>= fun fw =>Al fw >>= fun fE =>if fE=true then if 0<=(U ((U ((2:Int)*aS))+1))/\(U ((U ((2:Int)*aS))+1))<cK.length then cK[(U ((U ((2:Int)*aS))+1)).toNat]? >>= fun Jy =>l7 Jy >>= fun jh =>oC bh.2 jh >>= fun o0 =>Al o0 >>= fun mP =>if mP=true then some (.inl (U (fG+1))) else some (.inr (.inr ())) else none else some (.inr (.inr ())) else none else none else some (.inr (.inl ()))
def LA (cK:ar)(ix:afA)(ky:ar)(gp:Int)(bD:afB)(a7:afD)(fG:Int):Option ((Unit)⊕(Unit)):=iter (fun w:Int=>xk cK ix ky gp bD a7 w) fG
theorem KP:bM (xk cK ix ky gp bD a7 fG) (fr bQ 61 0 18 [1,1,1,0,1,0,0] (Tw cK ix ky gp bD a7) fG):=.ite (fun o=>.bd fun J=>.au fun aS aA=>.au fun bh bC=>.bd fun bJ=>.au fun l5 c2=>.au fun eY cz=>.au fun fw eI=>.au fun fE hz=>(let t1:afC:=[(ag 1),.ay true,.aE (iV 1 aS 1),.aE (ca 2 (.call {ac:=[.bB (.ptr [.id,.id]),ii,ii],r:= .cZ [d7 3 a8 bh.1,d7 3 a8 bh.2],c1:=false,c8:=[0]}) 5)];have aY:=((.bm o J.1 (ex R J.2) (cC R aA) (k0 (pH (⟨bD,a7⟩:cp)):ht [[.isl 4 (bD.map c3),.isl 3 (a7.map c9)]]) (Tg bh bC) bJ.1 (ex R bJ.2) (.ew (cC R c2) (pI eY cz) (tQ fw eI) (Mq fE hz) (ck.b fE))):cE _);.ite (fun gx=>.bd fun gT=>.au fun Jy kp=>.au fun jh nK=>.au fun o0 l1=>.au fun mP qf=>(let t3:afC:=t1.bo [.aE (ax 5 (ap (.db (R l5)) (ap (fC 1 (d7 3 a8 eY) false) (ap (fC 2 (d7 3 a8 fw) false) (ap (fD 1 fE) (ax 8 (ap (.db (R Jy)) (ap (fC 1 (d7 3 a8 jh) false) (ap (fC 2 (d7 3 a8 o0) false) (ap (fD 1 mP) (oV 1)))))))))))];have fs:=aY.a1 (.bm (dk gx) (dk gx) (dk gx) (dk gx) (dk gx) (dk gx) gT.1 (ex R gT.2) (.bm (dk gx) (cC R kp) (dk gx) (pI jh nK) (dk gx) (tQ o0 l1) (dk gx) (Mq mP qf) (.bT (ck.b mP) (dk gx) (dk gx))));.ite (fun wv=>.ret (bN (t3.bo [.ay false,(ag 2),.br [0] [.box [.id,.id]] (bZ [1,3,7,25,26,27])]) (fs.a1 (.ao (dk wv))))) (fun wv=>.ret (bN (t3.append (oW 1 6)) (fs.a1 (.ao (dv wv))))))) (fun gx=>.ret (bN (t1.bo [.aE (ax 5 (ap (.db (R l5)) (ap (fC 1 (d7 3 a8 eY) false) (ap (fC 2 (d7 3 a8 fw) false) (ap (fD 1 fE) (nf 2 11)))))),.ay true,(ag 1),.br [] [] (bZ [6])]) (aY.a1 (.bm (dv gx) (dv gx) (dv gx) (dv gx) (dv gx) (dv gx) (dv gx) (dv gx) (.ew (dv gx) (dv gx) (dv gx) (dv gx) cR))))))) (fun o=>.ret (bN (st 1) (.ao o)))
def z0 (aX:cp)(cK:ar)(gU:afI):afF :=u4 aX gU >>= fun ad =>if ad.2=true then sJ aX cK >>= fun aI =>if aI=true then uQ aX >>= fun bU =>LA cK ad.1 bU (len_ R bU) aX.cm aX.bs 0 >>= fun a6 =>match a6 with | .inl wq=>(some true) | .inr wq=>(some false) else some false else some false
theorem TB:bM (z0 aX cK gU) (fun r=>Con bQ 18 [.agg (fV aX),.isl 1 (cK.map R),.isl 3 (gU.map gJ)] [] (.b r) []):=by
 unfold z0
 exact .au fun ad J =>
  (let t1:afC:=[(ag 2),.iB 0,.aE (ca 1 (.call {ac:=[.bB (.ptr [.id,.id]),ii],r:= .cZ [.isl 1 (ad.1.map (cd 3 a8)),.b ad.2],c1:=false,c8:=[0]}) 5)];
  have aY:=((.aB (k0 (pH aX):ht [(fV aX)]) (CX ad J)):cE _);
  .ite (fun ab =>
  .au fun aI aJ =>
  (let t3:afC:=t1.bo [.aE (ax 4 (ap (.call {ac:=[.bB (.ptr [.id,.id]),ii],r:= .b aI,c1:=true,c8:=[0]}) (oV 1)))];
  have fs:=aY.a1 (.fc (dk ab) (dk ab) (k0 (pH aX):ht [(fV aX)]) (LU aI aJ) (ck.b aI) (dk ab) (dk ab));
  .ite (fun bC =>
  .au fun bU bp =>
  .au fun a6 cS =>
  (let t5:afC:=t3.bo [.ay false,.aE (ap (.call {ac:=[.bB (.ptr [.id,.id])],r:= .isl 1 (bU.map R),c1:=false,c8:=[0]}) (ax 2 [])),.br [0] [.box [.id,.id]] (bZ [1,3,7,25,26,27])];
  have pD:=fs.a1 (.bT (dk bC) (k0 (pH aX):ht [(fV aX)]) (FF bU bp));
  (by
  rcases a6 with wq|wq
  ·exact(.ret (bR (t5.bo [.sub (.exit 0) [] [],(ag 1)]) (pD.a1 (.ao (ej cS KP)))))
  ·exact(.ret (bR (t5.bo [.sub (.ret) [(6,.b false)] []]) (pD.a1 (.ao (ej cS KP))))))))
  (fun bC =>
  .ret (bR (t3.bo [.ay true,(ag 1)]) (fs.a1 (.ao (dv bC)))))))
  (fun ab =>
  .ret (bR (t1.bo [.aE (nf 3 3),.ay true,(ag 1)]) (aY.a1 (.ew (dv ab) (dv ab) (dv ab) (dv ab) cR)))))
def TC (ix:afA)(h9:afD)(vO:Int):fe Int ((Unit)⊕(Unit)):=⟨fun je=>eD [(5,.isl 1 (ix.map (cd 3 a8))),(18,.isl 3 (h9.map c9)),(bF 19 vO),(bF 20 je)] [],fun | .inl a=>⟨some 0,[],[]⟩ | .inr a=>⟨none,[(4,.b false)],[]⟩⟩
def xo (ix:afA)(h9:afD)(vO je:Int):Option ((Int)⊕((Unit)⊕(Unit))) :=if (decide (je<vO))=true then if 0<=je/\je<h9.length then h9[je.toNat]? >>= fun aS =>if 0<=je/\je<ix.length then ix[je.toNat]? >>= fun ct =>u2 ct >>= fun eB =>if (aS.jB == (1:Int))=true then if (decide (eB<0))=true then some (.inr (.inr ())) else if (aS.jB == (2:Int))=true then if (decide ((0:Int)<eB))=true then some (.inr (.inr ())) else some (.inl (U (je+1))) else some (.inl (U (je+1))) else if (aS.jB == (2:Int))=true then if (decide ((0:Int)<eB))=true then some (.inr (.inr ())) else some (.inl (U (je+1))) else some (.inl (U (je+1))) else none else none else some (.inr (.inl ()))
def L0 (ix:afA)(h9:afD)(vO je:Int):Option ((Unit)⊕(Unit)):=iter (fun w:Int=>xo ix h9 vO w) je
theorem KZ:bM (xo ix h9 vO je) (fr bQ 47 0 19 [1,1,1,0,1,0,0] (TC ix h9 vO) je):=.ite (fun o=>.bd fun J=>.au fun aS aA=>.bd fun aJ=>.au fun ct bJ=>.au fun eB c2=>(let t1:afC:=[(ag 1),.ay true,.aE (ca 2 (.db (c9 aS)) 3),.aE (ax 3 (ap (.db ((cd 3 a8) ct)) (ap (kn 1 eB) (ax 1 []))))];have aY:=((.bm o J.1 (ex c9 J.2) (cC c9 aA) aJ.1 (ex (cd 3 a8) aJ.2) (cC (cd 3 a8) bJ) (Lz eB c2) (.ao (ck.n .i64 eB))):cE _);.ite (fun cS=>.ite (fun cz=>.ret (bN (t1.bo [.aE (ax 6 (ap (.ay true) (ax 1 (ek 4 (nf 2 1))))),.ay true,(ag 1),.br [] [] (bZ [4])]) (aY.a1 (.bm cS cS cS cz cz cz cz cz (.aB cz cR))))) (fun cz=>(have gm:=aY.a1 (.fc cS cS cS cz cz cz cz);.ite (fun ec=>(let t4:afC:=t1.bo [.aE (ax 6 (ap (.ay true) (ax 7 (ap (.ay true) (ap (.ay false) [])))))];.ite (fun eI=>.ret (bN (t4.append (oW 1 4)) (gm.a1 (.fa ec ec cz ec cz eI)))) (fun eI=>.ret (bN (t4.bo [.ay false,(ag 2),.br [] [] (bZ [5,18,19,20])]) (gm.a1 (.fa ec ec cz ec cz eI)))))) (fun ec=>.ret (bN (t1.bo [.aE (ax 6 (ap (.ay true) (ax 5 (ek 2 (ap (.ay false) (ap (.ay false) [])))))),.ay false,(ag 2),.br [] [] (bZ [5,18,19,20])]) (gm.a1 (.fa ec ec cz ec cz gi))))))) (fun cS=>.ite (fun cz=>(let t3:afC:=t1.bo [.aE (ax 4 (ek 2 (ap (.ay false) (ca 7 (.ay true) 1))))];have fs:=aY.a1 (.bm cS cS cS gi gi gi gi cz (.bT cz gi cz));.ite (fun ec=>.ret (bN (t3.append (oW 1 4)) (fs.a1 (.ao ec)))) (fun ec=>.ret (bN (t3.bo [.ay false,(ag 2),.br [] [] (bZ [5,18,19,20])]) (fs.a1 (.ao ec)))))) (fun cz=>.ret (bN (t1.bo [.aE (ax 4 (ek 2 (ap (.ay false) (ax 5 (ek 2 (lz 1)))))),.ay false,(ag 2),.br [] [] (bZ [5,18,19,20])]) (aY.a1 (.bm cS cS cS gi gi gi gi cz (.di cz gi cz gi)))))))) (fun o=>.ret (bN (st 1) (.ao o)))
def z7 (aX:cp)(gU:afI):afF :=u4 aX gU >>= fun ad =>if ad.2=true then L0 ad.1 aX.bs (len_ c9 aX.bs) 0 >>= fun aI =>match aI with | .inl rP=>(some true) | .inr rP=>(some false) else some false
theorem TU:bM (z7 aX gU) (fun r=>Con bQ 19 [.agg (fV aX),.isl 3 (gU.map gJ)] [] (.b r) []):=by
 unfold z7
 exact .au fun ad J =>
  (let t1:afC:=[(ag 2),.iB 0,.aE (ca 1 (.call {ac:=[.bB (.ptr [.id,.id]),ii],r:= .cZ [.isl 1 (ad.1.map (cd 3 a8)),.b ad.2],c1:=false,c8:=[0]}) 5),(ag 2)];
  have aY:=((.aB (k0 (pH aX):ht [(fV aX)]) (CX ad J)):cE _);
  .ite (fun ab =>
  .au fun aI aJ =>
  (let t3:afC:=t1.bo [.ay false,(ag 4),.br [] [] (bZ [5,18,19,20])];
  (by
  rcases aI with rP|rP
  ·exact(.ret (bR (t3.bo [.sub (.exit 0) [] [],(ag 1)]) (aY.a1 (.aB (dk ab) (ej aJ KZ)))))
  ·exact(.ret (bR (t3.bo [.sub (.ret) [(4,.b false)] []]) (aY.a1 (.aB (dk ab) (ej aJ KZ))))))))
  (fun ab =>
  .ret (bR (t1.bo [.ay true,(ag 1)]) (aY.a1 (.ao (dv ab))))))
def CR (aX:cp)(cK:ar)(gU:afI):afF :=z0 aX cK gU >>= fun ad =>if ad=true then z7 aX gU >>= fun aI =>some aI else some false
theorem Tn:bM (CR aX cK gU) (fun r=>Con bQ 8 [.agg (fV aX),.isl 1 (cK.map R),.isl 3 (gU.map gJ)] [] (.b r) []):=.au fun ad J=>(have bS:=((.aB (TB ad J) (ck.b ad)):cE _);.ite (fun ab=>.au fun aI aJ=>.ret (bR [(ag 2),.aE (ax 3 (ap (fD 3 ad) (ax 3 (ap (fD 2 aI) (ap (.ay true) (ax 1 []))))))] (bS.a1 (.fa ab ab ab (TU aI aJ) (ck.b aI) ab)))) (fun ab=>.ret (bR [(ag 2),.aE (ax 3 (ap (fD 3 ad) (ax 1 (ek 3 (lz 1)))))] (bS.a1 (.di ab ab ab ab)))))
def C9 (aX:afB):Option afB :=if aX.length*40<=140737488355328 then some aX else none
theorem Ua:Con bQ 44 [.fq] [] (.isl 4 (([]:afB).map c3)) []:=bR [(ag 1),(ag 2),.ay true,(ag 1)] (.ao cR) (.bB (.cj (.jF 4)))
theorem Ub:Con bQ 44 [.ic] [] (.isl 4 (([]:afB).map c3)) []:=(by have h:=fun (o:(([]:afB)++([]:afB)).length*40<=140737488355328)=>(bR [(ag 1),(ag 2),.ay false,.aE (l0 2 (([]:afB)++([]:afB)) 1)] (.fc gi (r8 (j3 c3) (jm bn)) (sS (jm bn) (j3 c3):(([]:afB)++([]:afB)).length=0+([]:List (List an)).length) o (l8 (pd (j3 c3) (jm bn) (j3 c3)) (gW (([]:afB)++([]:afB)))) (nY (pd (j3 c3) (jm bn) (j3 c3)) (gW (([]:afB)++([]:afB)))) (el sK (([]:afB)++([]:afB)))) (.bB (.cj (.fb ((([]:afB)++([]:afB)).map c3)))):Con bQ 44 [.ic] [] (.isl 4 ((([]:afB)++([]:afB)).map c3)) []);exact h (by decide))
theorem Uc (x:bn)(l:afB)(o:(([]:afB)++(x::l)).length*40<=140737488355328):Con bQ 44 [.isl 4 ((x::l).map c3)] [] (.isl 4 ((([]:afB)++(x::l)).map c3)) []:=bR [(ag 1),.aE (ax 1 (ap .df [])),.ay false,.aE (l0 2 (([]:afB)++(x::l)) 1)] (.hR (by simp:(x::l).map c3≠[]) gi (r8 (j3 c3) (jm bn)) (sS (jm bn) (fI c3 (x::l)):(([]:afB)++(x::l)).length=0+((x::l).map c3).length) o (l8 (pd (j3 c3) (jm bn) (fI c3 (x::l))) (gW (([]:afB)++(x::l)))) (nY (pd (j3 c3) (jm bn) (fI c3 (x::l))) (gW (([]:afB)++(x::l)))) (el sK (([]:afB)++(x::l)))) (.bB (.cj (.fb ((([]:afB)++(x::l)).map c3))))
theorem acW:Con bQ 44 [.fq] [] .fq []:=bR [(ag 1),(ag 2),.ay true,(ag 1)] (.ao cR)
theorem TV:bM (C9 aX) (fun r=>Con bQ 44 [.isl 4 (aX.map c3)] [] (.isl 4 (r.map c3)) []):=by
 unfold C9;refine .bd fun h=>.ret ?_
 cases aX with
 | nil=>exact .jC Ua Ub
 | cons x l =>
  have J:=Uc x l (by simpa using h);simpa using J
def K0 (ix:ar)(dV:afD)(cB:Int)(jd:afB):fe (Int×afD) afD:=⟨fun (gF,a9)=>eD [(fQ 1 ix),(4,.ref 0 0 0 0),(5,.ref 1 0 0 0),(13,.isl 3 (dV.map c9)),(bF 14 cB),(bF 15 gF)] [[aM.mk 2 [[.fq,.fq]] .live],[aM.mk 2 [[.isl 4 (jd.map c3),.bK 2 0 0 a9.length]] .live],(aK 3 c9 a9)],fun | a=>⟨some 0,[(4,.ref 0 0 0 0),(5,.ref 1 0 0 0)],[[aM.mk 2 [[.fq,.fq]] .live],[aM.mk 2 [[.isl 4 (jd.map c3),.bK 2 0 0 a.length]] .live],(aK 3 c9 a)]⟩⟩
def xf (ix:ar)(dV:afD)(cB:Int)(jd:afB)(gF:Int)(a9:afD):Option ((Int×afD)⊕(afD)) :=if (decide (gF<cB))=true then if 0<=gF/\gF<dV.length then dV[gF.toNat]? >>= fun aS =>sM ix gF >>= fun bh =>if bh=true then some (.inl (U (gF+1),a9)) else if (a9++([aS]:afD)).length*24<=140737488355328 then some (.inl (U (gF+1),a9++([aS]:afD))) else none else none else some (.inr a9)
def Lb (ix:ar)(dV:afD)(cB:Int)(jd:afB)(gF:Int)(a9:afD):Option (afD):=iter (fun w:Int×afD=>xf ix dV cB jd w.1 w.2) (gF,a9)
theorem SB:bM (xf ix dV cB jd gF a9) (fr bQ 32 0 21 [1,1,0,1,0,0] (K0 ix dV cB jd) (gF,a9)):=.ite (fun o=>.bd fun J=>.au fun aS aA=>.au fun bh bC=>(let t1:afC:=[(ag 1),.ay true,.aE (ca 2 (.db (c9 aS)) 3),.aE (ca 2 (fD 2 bh) 1)];have aY:=((.fa o J.1 (ex c9 J.2) (cC c9 aA) (Gt bh bC) (ck.b bh)):cE _);.ite (fun bJ=>.ret (bN (t1.bo [.ay false,(ag 2),.br [0,1,2] [.box [.id,.id],.box [.id,.id],.pure] (bZ [1,4,5,13,14,15])]) (aY.a1 (.aB (dk bJ) (aC 3 qp a9))))) (fun bJ=>.bd fun bp=>.ret (let aT:=(a9++([aS]:afD));bN (t1.bo [.ay true,.aE (l0 4 aT 2),(ag 2),.br [0,1,18] [.box [.id,.id],.box [.id,.id],.dp (aK 3 c9 aT)] (bZ [1,4,5,13,14,15])]) (aY.a1 (.fc (dv bJ) (kt c9 aS) (o6 c9 a9) (np c9 a9 aS) bp (d9 3 (o7 c9 a9 aS)) (aC 3 qp aT))))))) (fun o=>.ret (bN [(ag 1),.ay false,.br [0,1,2] [.box [.id,.id],.box [.id,.id],.pure] (bZ [4,5])] (.aB o (aC 3 qp a9))))
def uX (aX:cp)(ix:ar):Option cp :=C9 aX.cm >>= fun ad =>Lb ix aX.bs (len_ c9 aX.bs) ad 0 ([]:afD) >>= fun bb =>some (⟨ad,bb⟩:cp)
theorem Lc:bM (uX aX ix) (fun r=>Con bQ 21 [.agg (fV aX),.isl 1 (ix.map R)] [] (.agg (fV r)) []):=.au fun ad J=>.au fun bb aA=>.ret (bR [(ag 2),.aE (ca 2 (fC 1 (.isl 4 (ad.map c3)) false) 3),(ag 4),.BZ 6 1 3,.br [1,6,12] [.box [.id,.id],.box [.id,.len (([]:afD).length)],.dp (aK 3 c9 ([]:afD))] (bZ [1,4,5,13,14,15]),((K0 ix aX.bs (len_ c9 aX.bs) ad).t bb),(ag 2)] (.hR (TV ad J) (jm bV) (d9 3 (j3 c9)) (aC 3 qp ([]:afD)) (ej aA SB) (ij c9 bb) (hJ c9 bb) (el qp bb)) (.bB (.agg [.id,.fb (bb.map c9)])))
def DD (aX:ar):afK :=if aX≠[]/\aX.length*8<=140737488355328 then some aX else none
theorem Va (x:Int)(l:ar)(o:(([]:ar)++(x::l)).length*8<=140737488355328):Con bQ 23 [.isl 1 ((x::l).map R)] [] (.bK 0 0 0 (([]:ar)++(x::l)).length) [(aK 1 R (([]:ar)++(x::l)))]:=ir [(ag 1),.aE (ax 1 (ap .df [])),.ay false,.aE (l0 2 (([]:ar)++(x::l)) 1)] [5] [.dp (aK 1 R (([]:ar)++(x::l)))] (.fc (by simp:(x::l).map R≠[]) gi (r8 (j3 R) (jm Int)) (sS (jm Int) (fI R (x::l)):(([]:ar)++(x::l)).length=0+((x::l).map R).length) o (d9 1 (Jg R (x::l))) (aC 1 az (([]:ar)++(x::l))))
theorem UK:bM (DD aX) (fun a=>Con bQ 23 [.isl 1 (aX.map R)] [] (.bK 0 0 0 a.length) [(aK 1 R a)]):=by
 unfold DD;refine .bd fun h=> ?_
 cases aX with
 | nil=>exact absurd rfl h.1
 | cons x l =>
  have J:=Va x l (by simpa using h.2);exact .ret (by simpa using J)
def At (ba cu:Int)(cc:ar):Option ((Unit)⊕(Nat×ar)) :=if 0<=ba then if 0<=cu then if 0<=((cc.length:Nat):Int) then if ba.toNat<=cu.toNat/\cu.toNat<=((cc.length:Nat):Int).toNat/\((cc.length:Nat):Int).toNat<=cc.length then if (ba == cu)=true then some (.inl ()) else if 0<=ba.toNat/\ba.toNat<=cc.length then if cu.toNat<=cc.length then if (0+cu.toNat)+(cc.length-cu.toNat)<=cc.length then if (ba.toNat-0)+((cc.drop (0+cu.toNat)).take (cc.length-cu.toNat)).length<=cc.length then if ((cc.drop (0+cu.toNat)).take (cc.length-cu.toNat)).length*8<=140737488355328 then if 0<=((((ba.toNat-0)+(((cc.map R).drop (0+cu.toNat)).take (cc.length-cu.toNat)).length):Nat):Int) then if ((((ba.toNat-0)+(((cc.map R).drop (0+cu.toNat)).take (cc.length-cu.toNat)).length):Nat):Int).toNat<=((cc.length:Nat):Int).toNat/\0+((cc.length:Nat):Int).toNat<=(cc.take (ba.toNat-0)++((cc.drop (0+cu.toNat)).take (cc.length-cu.toNat))++cc.drop ((ba.toNat-0)+((cc.drop (0+cu.toNat)).take (cc.length-cu.toNat)).length)).length then if (0+((((ba.toNat-0)+(((cc.map R).drop (0+cu.toNat)).take (cc.length-cu.toNat)).length):Nat):Int).toNat)+(((cc.length:Nat):Int).toNat-((((ba.toNat-0)+(((cc.map R).drop (0+cu.toNat)).take (cc.length-cu.toNat)).length):Nat):Int).toNat)<=(cc.take (ba.toNat-0)++((cc.drop (0+cu.toNat)).take (cc.length-cu.toNat))++cc.drop ((ba.toNat-0)+((cc.drop (0+cu.toNat)).take (cc.length-cu.toNat)).length)).length then some (.inr (((ba.toNat-0)+(((cc.map R).drop (0+cu.toNat)).take (cc.length-cu.toNat)).length),(cc.take (ba.toNat-0)++((cc.drop (0+cu.toNat)).take (cc.length-cu.toNat))++cc.drop ((ba.toNat-0)+((cc.drop (0+cu.toNat)).take (cc.length-cu.toNat)).length)).take (0+((((ba.toNat-0)+(((cc.map R).drop (0+cu.toNat)).take (cc.length-cu.toNat)).length):Nat):Int).toNat)++(List.replicate (((cc.length:Nat):Int).toNat-((((ba.toNat-0)+(((cc.map R).drop (0+cu.toNat)).take (cc.length-cu.toNat)).length):Nat):Int).toNat) 0:ar)++(cc.take (ba.toNat-0)++((cc.drop (0+cu.toNat)).take (cc.length-cu.toNat))++cc.drop ((ba.toNat-0)+((cc.drop (0+cu.toNat)).take (cc.length-cu.toNat)).length)).drop ((0+((((ba.toNat-0)+(((cc.map R).drop (0+cu.toNat)).take (cc.length-cu.toNat)).length):Nat):Int).toNat)+(((cc.length:Nat):Int).toNat-((((ba.toNat-0)+(((cc.map R).drop (0+cu.toNat)).take (cc.length-cu.toNat)).length):Nat):Int).toNat)))) else none else none else none else none else none else none else none else none else none else none else none else none
theorem MD:bM (At ba cu cc) (Sum.elim (fun a=>Con bQ 22 (Rc 0 0 0 cc.length ba cu) [(aK 1 R cc)] (.bK 0 0 0 cc.length) [(aK 1 R cc)]) (fun a=>Con bQ 22 (Rc 0 0 0 cc.length ba cu) [(aK 1 R cc)] (.bK 0 0 0 a.1) [(aK 1 R a.2)])):=.bd fun o=>.bd fun J=>.bd fun ab=>.bd fun aA=>(let t1:afC:=[(ag 1),(ag 6),(ag 3)];have aY:=((.fa o J ab aA.1 aA.2.1 aA.2.2):cE _);.ite (fun aJ=>.ret (ir (t1.bo [.ay true,(ag 2)]) [0] [.pure] (aY.a1 (.aB aJ (aC 1 az cc))))) (fun aJ=>.bd fun bC=>.bd fun bJ=>.bd fun bp=>.bd fun c2=>.bd fun cS=>.bd fun cz=>.bd fun ec=>.bd fun eI=>.ret (let aT:=((cc.take (ba.toNat-0)++((cc.drop (0+cu.toNat)).take (cc.length-cu.toNat))++cc.drop ((ba.toNat-0)+((cc.drop (0+cu.toNat)).take (cc.length-cu.toNat)).length)).take (0+((((ba.toNat-0)+(((cc.map R).drop (0+cu.toNat)).take (cc.length-cu.toNat)).length):Nat):Int).toNat)++(List.replicate (((cc.length:Nat):Int).toNat-((((ba.toNat-0)+(((cc.map R).drop (0+cu.toNat)).take (cc.length-cu.toNat)).length):Nat):Int).toNat) 0:ar)++(cc.take (ba.toNat-0)++((cc.drop (0+cu.toNat)).take (cc.length-cu.toNat))++cc.drop ((ba.toNat-0)+((cc.drop (0+cu.toNat)).take (cc.length-cu.toNat)).length)).drop ((0+((((ba.toNat-0)+(((cc.map R).drop (0+cu.toNat)).take (cc.length-cu.toNat)).length):Nat):Int).toNat)+(((cc.length:Nat):Int).toNat-((((ba.toNat-0)+(((cc.map R).drop (0+cu.toNat)).take (cc.length-cu.toNat)).length):Nat):Int).toNat)));ir (t1.bo [.ay false,(ag 3),.aE (ca 6 .uE 1),.aE (ax 4 (ap .uE (ap .uE []))),(ag 2)]) [0] [.dp (aK 1 R aT)] (aY.a1 (.bm aJ o bC.1 bC.2 J bJ (dE cc.length) (qu (fI R cc) bp) (.bm (HU (fI R cc) (mv (fI R cc) (0+cu.toNat) (cc.length-cu.toNat)) c2) (Hn (mv (fI R cc) (0+cu.toNat) (cc.length-cu.toNat)) cS) cz ab ec.1 (qu (HV (fI R cc) (ba.toNat-0) (mv (fI R cc) (0+cu.toNat) (cc.length-cu.toNat))) ec.2) (qu (HV (fI R cc) (ba.toNat-0) (mv (fI R cc) (0+cu.toNat) (cc.length-cu.toNat))) eI) (d9 1 (XT (HV (fI R cc) (ba.toNat-0) (mv (fI R cc) (0+cu.toNat) (cc.length-cu.toNat))) (0+((((ba.toNat-0)+(((cc.map R).drop (0+cu.toNat)).take (cc.length-cu.toNat)).length):Nat):Int).toNat) (((cc.length:Nat):Int).toNat-((((ba.toNat-0)+(((cc.map R).drop (0+cu.toNat)).take (cc.length-cu.toNat)).length):Nat):Int).toNat) 0)) (.ao (aC 1 az aT))))))))
def Th (cK g8:ar)(gF:Int)(bD:afB)(a7:afD):fe Int ((Unit)⊕(Unit)):=⟨fun fJ=>eD [(fQ 1 cK),(fQ 2 g8),(3,.ref 0 0 0 0),(bF 15 gF),(bF 16 fJ)] [(zj bD a7)],fun | .inl a=>⟨some 0,[],[]⟩ | .inr a=>⟨none,[(6,.b false)],[]⟩⟩
def zK (cK g8:ar)(gF:Int)(bD:afB)(a7:afD)(fJ:Int):Option ((Int)⊕((Unit)⊕(Unit))) :=if (decide (fJ<gF))=true then uX (⟨bD,a7⟩:cp) ([fJ]:ar) >>= fun bu =>DD g8 >>= fun aI =>At fJ (U (fJ+1)) aI >>= fun b2 =>match b2 with | .inl lh=>(r1 bu cK aI >>= fun a6 =>if a6=true then some (.inl (U (fJ+1))) else some (.inr (.inr ()))) | .inr lh=>(if 0+lh.1<=lh.2.length then r1 bu cK ((lh.2.drop 0).take lh.1) >>= fun eY =>if eY=true then some (.inl (U (fJ+1))) else some (.inr (.inr ())) else none) else some (.inr (.inl ()))
def FY (cK g8:ar)(gF:Int)(bD:afB)(a7:afD)(fJ:Int):Option ((Unit)⊕(Unit)):=iter (fun w:Int=>zK cK g8 gF bD a7 w) fJ
theorem KM:bM (zK cK g8 gF bD a7 fJ) (fr bQ 33 0 10 [1,1,0,1,0,0] (Th cK g8 gF bD a7) fJ):=by
 unfold zK
 exact .ite (fun o =>
  .au fun bu ab =>
  .au fun aI aJ =>
  .au fun b2 bJ =>
  (let t1:afC:=[(ag 1),.ay true,(ag 2)];
  have aY:=((.bm o (l8 (show [[.n .i64 fJ]]=(([fJ]:ar)).map R from rfl) (show 1=([fJ]:ar).length from rfl)) (kt R fJ) (el az ([fJ]:ar)) (Lc bu ab) (eN 1 az aI) (UK aI aJ) (Jh aI) (.aB (Jj aI) (eN 1 az aI))):cE _);
  (by
  rcases b2 with lh|lh
  ·exact(.au fun a6 cS =>
  (let t3:afC:=t1.bo [.aE (ax 3 (ap (.sx 6 (.call {ac:=[ii,.bB (.cj (.fb (([fJ]:ar).map R)))],r:= .agg (fV bu),c1:=false,c8:=[6]})) (ax 2 (ap (.call (Q5 aI)) (ax 3 (ap (.call {aO:=[.row 10],cn:=[.pure],ac:=[ii,ii,ii],r:= .bK 0 0 0 aI.length,de:=[(aK 1 R aI)],eE:=ii,fo:=[.pure],c8:=[10],c1:=false}) (ap (.call {ac:=[ii,ii,.bB (.cj (.fb (aI.map R)))],r:= .b a6,c1:=true,c8:=[10]}) (ax 1 []))))))))];
  have fs:=aY.a1 (.fc (eN 1 az aI) (MD (.inl lh) bJ) (ij R aI) (hJ R aI) (el az aI) (C2 a6 cS) (ck.b a6));
  .ite (fun cz =>
  .ret (bN (t3.bo [.ay false,(ag 2),.br [0] [.box [.id,.id]] (bZ [1,2,3,15,16])]) (fs.a1 (.ao (dk cz)))))
  (fun cz =>
  .ret (bN (t3.append (oW 1 6)) (fs.a1 (.ao (dv cz)))))))
  ·exact(.bd fun c2 =>
  .au fun eY cz =>
  (let t3:afC:=t1.bo [.aE (ax 3 (ap (.sx 6 (.call {ac:=[ii,.bB (.cj (.fb (([fJ]:ar).map R)))],r:= .agg (fV bu),c1:=false,c8:=[6]})) (ax 2 (ap (.call (Q5 aI)) (ax 3 (ap (.call {aO:=[.row 10],cn:=[.pure],ac:=[ii,ii,ii],r:= .bK 0 0 0 lh.1,de:=[(aK 1 R lh.2)],eE:=ii,fo:=[.pure],c8:=[10],c1:=false}) (ap (.call {ac:=[ii,ii,.bB (.cj (.fb (((lh.2.drop 0).take lh.1).map R)))],r:= .b eY,c1:=true,c8:=[10]}) (ax 1 []))))))))];
  have fs:=aY.a1 (.fc (eN 1 az lh.2) (MD (.inr lh) bJ) (DN (fI R lh.2) 0 lh.1) (qu (fI R lh.2) c2) (el az ((lh.2.drop 0).take lh.1)) (C2 eY cz) (ck.b eY));
  .ite (fun ec =>
  .ret (bN (t3.bo [.ay false,(ag 2),.br [0] [.box [.id,.id]] (bZ [1,2,3,15,16])]) (fs.a1 (.ao (dk ec)))))
  (fun ec =>
  .ret (bN (t3.append (oW 1 6)) (fs.a1 (.ao (dv ec))))))))))
  (fun o =>
  .ret (bN (st 1) (.ao o)))
def sF (aX:cp)(cK g8:ar):afF :=r1 aX cK g8 >>= fun ad =>if ad=true then FY cK g8 (len_ c9 aX.bs) aX.cm aX.bs 0 >>= fun aI =>match aI with | .inl rP=>(some true) | .inr rP=>(some false) else some false
theorem Ln:bM (sF aX cK g8) (fun r=>Con bQ 10 [.agg (fV aX),.isl 1 (cK.map R),.isl 1 (g8.map R)] [] (.b r) []):=by
 unfold sF
 exact .au fun ad J =>
  (let t1:afC:=[(ag 2),.aE (ca 3 (fD 3 ad) 1)];
  have aY:=((.aB (C2 ad J) (ck.b ad)):cE _);
  .ite (fun ab =>
  .au fun aI aJ =>
  (let t3:afC:=t1.bo [.ay false,(ag 4),.br [0] [.box [.id,.id]] (bZ [1,2,3,15,16])];
  (by
  rcases aI with rP|rP
  ·exact(.ret (bR (t3.bo [.sub (.exit 0) [] [],(ag 1)]) (aY.a1 (.aB (dk ab) (ej aJ KM)))))
  ·exact(.ret (bR (t3.bo [.sub (.ret) [(6,.b false)] []]) (aY.a1 (.aB (dk ab) (ej aJ KM))))))))
  (fun ab =>
  .ret (bR (t1.bo [.ay true,(ag 1)]) (aY.a1 (.ao (dv ab))))))
def sD (aX:cp)(cK:ar):afF :=uP aX cK 0 0 >>= fun ad =>xZ ad.1 ad.2.1 ad.2.2.1 ad.2.2.2.1 ad.2.2.2.2 >>= fun bb =>match bb with | .inl f5=>(some true) | .inr f5=>(some false)
theorem KX:bM (sD aX cK) (fun r=>Con bQ 46 [.e4 2 [(fV aX)] 0 0,.isl 1 (cK.map R)] [] (.b r) []):=by
 unfold sD
 exact .au fun ad J =>
  .au fun bb aA =>
  (let iH:=[(ss 0 0),(qT [(1,0)]),(qT [(1,1)]),(qT [(1,2)])];let jJ:=mN ad.1 ad.2.1 1 0 0 ad.2.2.1.length 2 0 0 ad.2.2.2.1.length 3 0 0 ad.2.2.2.2.length;let t1:afC:=[(ag 1),.aE (ca 2 (.call {aO:=[],cn:=[],ac:=[ii,ii,ii,ii],r:= .agg (mN ad.1 ad.2.1 0 0 0 ad.2.2.1.length 0 1 0 ad.2.2.2.1.length 0 2 0 ad.2.2.2.2.length),de:=[[c7 1 R ad.2.2.1,c7 1 R ad.2.2.2.1,c7 1 R ad.2.2.2.2]],eE:= .bB (.agg gg),fo:=[.b9 [c7 1 R ad.2.2.1,c7 1 R ad.2.2.2.1,c7 1 R ad.2.2.2.2]],c8:=[],c1:=true}) 2),.br [4,3] [.box gg,.b9 [c7 1 R ad.2.2.1,c7 1 R ad.2.2.2.1,c7 1 R ad.2.2.2.2]] [(0,ii),(1,ii),(4,ii),(5,ii),(8,ii),(9,ii),(10,.bB (.agg gg))],.ze iH [([],some (.box [.id,.id,.at_ 1 0 ad.2.2.1.length,.at_ 2 0 ad.2.2.2.1.length,.at_ 3 0 ad.2.2.2.2.length])),([.pure],none),([.pure],none),([.pure],none)] [(0,ii),(1,ii),(4,ii),(5,ii),(8,ii),(9,ii),(10,.bB (.agg [.id,.id,.at_ 1 0 ad.2.2.1.length,.at_ 2 0 ad.2.2.2.1.length,.at_ 3 0 ad.2.2.2.2.length]))]];
  have aY:=((.bm (ji (nT (mW [3]) 1 pT ad.2.2.1) (EV (mW [3]) ad.2.2.2.1 ad.2.2.2.2)) ((oz rfl (oz rfl (oz rfl Hl))):oI [c7 1 R ad.2.2.1,c7 1 R ad.2.2.2.1,c7 1 R ad.2.2.2.2]) (KD ad J) (ck.agg (n3 (ck.n .i64 ad.1) (n3 (ck.n .i64 ad.2.1) (n3 (Jh ad.2.2.1) (n3 (ck.bK 0 1 0 ad.2.2.2.1.length) (n3 (ck.bK 0 2 0 ad.2.2.2.2.length) AY)))))) ((Hm (vk (tY vH) (vk (tY vH) (vk (tY vH) HB))) HA):uu [[c7 1 R ad.2.2.1,c7 1 R ad.2.2.2.1,c7 1 R ad.2.2.2.2]]) (ji (nT (dj [4,3]) 1 pT ad.2.2.1) (EV (dj [4,3]) ad.2.2.2.1 ad.2.2.2.2)) (rfl:(iE iH) 1 0=some (1,0)) (gW ad.2.2.1) (.bm (rfl:(iE iH) 2 0=some (1,1)) (gW ad.2.2.2.1) (rfl:(iE iH) 3 0=some (1,2)) (gW ad.2.2.2.2) (aC 1 az ad.2.2.1) (aC 1 az ad.2.2.2.1) (aC 1 az ad.2.2.2.2) (rfl:(iE iH) 1 0=some (1,0)) (.bm (gW ad.2.2.1) (rfl:(iE iH) 2 0=some (1,1)) (gW ad.2.2.2.1) (rfl:(iE iH) 3 0=some (1,2)) (gW ad.2.2.2.2) (i1 (rM [0,1,2,3]) 5 [jJ] [jJ] rfl) (jc 5 [jJ]) (eN 1 az ad.2.2.1) (.aB (eN 1 az ad.2.2.2.1) (eN 1 az ad.2.2.2.2))))):cE _);
  (by
  rcases bb with f5|f5
  ·exact(.ret (let aT:=hX 4 1 0 f5.2.2.2.1.length f5.1 f5.2.1 4 2 0 f5.2.2.2.2.1.length f5.2.2.1 4 3 0 f5.2.2.2.2.2.1.length;let bf:=mN ad.1 ad.2.1 1 0 0 ad.2.2.1.length 2 0 0 ad.2.2.2.1.length 3 0 0 ad.2.2.2.2.length;let cb:=hT 1 2 3 ad.1 ad.2.1 ad.2.2.1 ad.2.2.2.1 ad.2.2.2.2;let cL:=mW [0,1,2,3,4];let eT:=eJ 2 a3 f5.2.2.2.2.2.2;bR (t1.bo [.aE (ap (.call {aO:=(oh [0,1,2,3]),cn:=[.b9 cb,.pure,.pure,.pure],ac:=[ii],r:= .cZ [.ref 4 0 0 0,.b true],de:=[cb,(aK 1 R ad.2.2.1),(aK 1 R ad.2.2.2.1),(aK 1 R ad.2.2.2.2),(aM.mk 6 [aT] .live::aM.mk 1 (f5.2.2.2.1.map (cl 4 4 2)) .live::c7 1 R f5.2.2.2.2.1::c7 1 e6 f5.2.2.2.2.2.1::eT)],eE:= .comp [.cj .id,.cj .id],fo:=[.b9 cb,.pure,.pure,.pure,.b9 (aM.mk 6 [aT] .live::aM.mk 1 (f5.2.2.2.1.map (cl 4 4 2)) .live::c7 1 R f5.2.2.2.2.1::c7 1 e6 f5.2.2.2.2.2.1::eT)],c8:=[0,1,2,3],c1:=false}) (ax 5 [])),(ag 2)]) (aY.a1 (.hR (i1 cL 5 [bf] [bf] rfl) (jc 5 [bf]) (eN 1 az ad.2.2.1) (eN 1 az ad.2.2.2.1) (eN 1 az ad.2.2.2.2) (ji (show aM.mk 6 [(hX 4 1 0 f5.2.2.2.1.length f5.1 f5.2.1 4 2 0 f5.2.2.2.2.1.length f5.2.2.1 4 3 0 f5.2.2.2.2.2.1.length)] .live=jD (mW [0,1,2,3,4]) (aM.mk 6 [(hX 4 1 0 f5.2.2.2.1.length f5.1 f5.2.1 4 2 0 f5.2.2.2.2.1.length f5.2.2.1 4 3 0 f5.2.2.2.2.2.1.length)] .live) from rfl) (ji (Co cL 4 4 4 2 rfl f5.2.2.2.1) (ji (nT cL 1 pT f5.2.2.2.2.1) (ji (nT cL 1 En f5.2.2.2.2.2.1) (eR cL 2 eb f5.2.2.2.2.2.2))))) ((oz rfl (oz rfl (oz rfl (oz rfl (G6 (iU 2 a3 f5.2.2.2.2.2.2)))))):oI (aM.mk 6 [aT] .live::aM.mk 1 (f5.2.2.2.1.map (cl 4 4 2)) .live::c7 1 R f5.2.2.2.2.1::c7 1 e6 f5.2.2.2.2.2.1::eT)) (C0 (.inl f5) aA)))))
  exact(.ret (let eF:=mN ad.1 ad.2.1 1 0 0 ad.2.2.1.length 2 0 0 ad.2.2.2.1.length 3 0 0 ad.2.2.2.2.length;let hi:=hT 1 2 3 ad.1 ad.2.1 ad.2.2.1 ad.2.2.2.1 ad.2.2.2.2;bR (t1.bo [.aE (ap (.call {aO:=(oh [0,1,2,3]),cn:=[.b9 hi,.pure,.pure,.pure],ac:=[ii],r:= .cZ [.h2,.b false],de:=(qc ad.1 ad.2.1 ad.2.2.1 ad.2.2.2.1 ad.2.2.2.2),eE:=ii,fo:=[.b9 hi,.pure,.pure,.pure],c8:=[0,1,2,3],c1:=false}) (ax 5 [])),(ag 2)]) (aY.a1 (.fa (i1 (mW [0,1,2,3]) 5 [eF] [eF] rfl) (jc 5 [eF]) (eN 1 az ad.2.2.1) (eN 1 az ad.2.2.2.1) (eN 1 az ad.2.2.2.2) (C0 (.inr f5) aA)))))))
def z8 (aX:cp)(cK:ar):afF :=sL aX cK >>= fun ad =>if ad=true then sD aX cK >>= fun aI =>some aI else some false
theorem TW:bM (z8 aX cK) (fun r=>Con bQ 24 [.agg (fV aX),.isl 1 (cK.map R)] [] (.b r) []):=.au fun ad J=>(have bS:=((.aB (C1 ad J) (ck.b ad)):cE _);.ite (fun ab=>.au fun aI aJ=>.ret (bR [(ag 2),.aE (ax 2 (ap (fD 2 ad) (ax 2 (ap (.call {ac:=[.bB (.ptr [.id,.id]),ii],r:= .b aI,c1:=true,c8:=[0]}) (ap (.ay true) (ax 1 []))))))] (bS.a1 (.fa ab ab (k0 (pH aX):ht [(fV aX)]) (KX aI aJ) (ck.b aI) ab)))) (fun ab=>.ret (bR [(ag 2),.aE (ax 2 (ap (fD 2 ad) (ax 1 (ek 2 (lz 1)))))] (bS.a1 (.bT ab ab ab)))))
def Da (aX:cp)(cK:ar)(c0:Int):afF :=sL aX cK >>= fun ad =>if ad=true then if (decide (c0<0))=true then some false else if (decide ((len_ c9 aX.bs)<=c0))=true then some false else uX aX ([c0]:ar) >>= fun b2 =>sD b2 cK >>= fun eB =>some eB else some false
theorem TX:bM (Da aX cK c0) (fun r=>Con bQ 47 [.agg (fV aX),.isl 1 (cK.map R),.n .i64 c0] [] (.b r) []):=.au fun ad J=>(have bS:=((.aB (C1 ad J) (ck.b ad)):cE _);.ite (fun ab=>(have aY:=bS.a1 (.bT (dk ab) (dk ab) (dk ab));.ite (fun aA=>.ret (bR [(ag 2),.aE (ax 2 (ap (fD 2 ad) (ax 4 (ap (.ay false) (nf 1 5))))),.ay true,(ag 1)] (aY.a1 (.fc aA aA aA aA aA aA cR)))) (fun aA=>(let t3:afC:=[(ag 2),.aE (ax 2 (ap (fD 2 ad) (ax 4 (ap (.ay false) (oV 6)))))];.ite (fun aJ=>.ret (bR (t3.bo [.ay true,(ag 1)]) (aY.a1 (.fc aA aA aA aA aA aA aJ)))) (fun aJ=>.au fun b2 bJ=>.au fun eB c2=>.ret (bR (t3.bo [.ay false,.aE (ca 3 (.sx 19 (.call {ac:=[ii,.bB (.cj (.fb (([c0]:ar).map R)))],r:= .agg (fV b2),c1:=false,c8:=[19]})) 2),.aE (ca 1 (.call {ac:=[.bB (.ptr [.id,.id]),ii],r:= .b eB,c1:=true,c8:=[21]}) 1)]) (aY.a1 (.bm aA aA aA aA aA aA aJ (l8 (show [[.n .i64 c0]]=(([c0]:ar)).map R from rfl) (show 1=([c0]:ar).length from rfl)) (.fa (kt R c0) (el az ([c0]:ar)) (Lc b2 bJ) (k0 (pH b2):ht [(fV b2)]) (KX eB c2) (ck.b eB)))))))))) (fun ab=>.ret (bR [(ag 2),.aE (ax 2 (ap (fD 2 ad) (ax 2 (ek 2 (ap (.ay true) (ax 1 (ek 5 (ax 1 [])))))))),.ay true,(ag 1)] (bS.a1 (.bm (dv ab) (dv ab) (dv ab) cR cR cR cR cR (.ao cR))))))
def SO (cK:ar)(dV:Int)(bD:afB)(a7:afD):fe (Int×ar) ar:=⟨fun (cB,aq)=>eD [(fQ 1 cK),(2,.ref 0 0 0 0),(5,.bK 1 0 0 aq.length),(bF 13 dV),(bF 14 cB)] [(zj bD a7),(aK 1 R aq)],fun | a=>⟨some 0,[(hh 5 a)],[(aK 1 R a)]⟩⟩
def zG (cK:ar)(dV:Int)(bD:afB)(a7:afD)(cB:Int)(aq:ar):Option ((Int×ar)⊕(ar)) :=if (decide (cB<dV))=true then Da (⟨bD,a7⟩:cp) cK cB >>= fun bu =>if bu=true then some (.inl (U (cB+1),aq)) else if (aq++([cB]:ar)).length*8<=140737488355328 then some (.inl (U (cB+1),aq++([cB]:ar))) else none else some (.inr aq)
def K6 (cK:ar)(dV:Int)(bD:afB)(a7:afD)(cB:Int)(aq:ar):Option (ar):=iter (fun w:Int×ar=>zG cK dV bD a7 w.1 w.2) (cB,aq)
theorem Sw:bM (zG cK dV bD a7 cB aq) (fr bQ 28 0 25 [1,1,1,0,1,0,0] (SO cK dV bD a7) (cB,aq)):=.ite (fun o=>.au fun bu ab=>(let t1:afC:=[(ag 1),.ay true,(ag 2),.aE (ca 3 (fD 3 bu) 1)];have aY:=((.bT o (TX bu ab) (ck.b bu)):cE _);.ite (fun aA=>.ret (bN (t1.bo [.ay false,(ag 2),.br [0,1] [.box [.id,.id],.pure] (bZ [1,2,5,13,14])]) (aY.a1 (.aB (dk aA) (aC 1 az aq))))) (fun aA=>.bd fun aJ=>.ret (let aT:=(aq++([cB]:ar));bN (t1.bo [.ay true,.aE (l0 3 aT 1),(ag 2),.br [0,13] [.box [.id,.id],.dp (aK 1 R aT)] (bZ [1,2,5,13,14])]) (aY.a1 (.fc (dv aA) (kt R cB) (o6 R aq) (np R aq cB) aJ (d9 1 (o7 R aq cB)) (aC 1 az aT))))))) (fun o=>.ret (bN (qb 1 1 5) (.aB o (aC 1 az aq))))
def zP (aX:cp)(cK:ar):afK :=sL aX cK >>= fun ad =>if ad=true then K6 cK (len_ c9 aX.bs) aX.cm aX.bs 0 ([]:ar) >>= fun aI =>some aI else some ([]:ar)
theorem S9:bM (zP aX cK) (fun r=>Con bQ 25 [.agg (fV aX),.isl 1 (cK.map R)] [] (.isl 1 (r.map R)) []):=.au fun ad J=>(let t1:afC:=[(ag 2),.aE (ca 2 (fD 2 ad) 1)];have aY:=((.aB (C1 ad J) (ck.b ad)):cE _);.ite (fun ab=>.au fun aI aJ=>.ret (bR (t1.bo [.ay false,(ag 1),(ag 4),.si 5 1,.br [0,11] [.box [.id,.id],.dp (aK 1 R ([]:ar))] [(1,ii),(2,ii),(gq 5 ([]:ar)),(13,ii),(14,ii)],.sub (.exit 0) [(hh 5 aI)] [(aK 1 R aI)],(ag 2)]) (aY.a1 (.hR (dk ab) (d9 1 (j3 R)) (aC 1 az ([]:ar)) (jm Int) (ej aJ Sw) (ij R aI) (hJ R aI) (el az aI))) (.bB (.cj (.fb (aI.map R)))))) (fun ab=>.ret (bR (t1.bo [.ay true,(ag 1)]) (aY.a1 (.ao (dv ab))) (.bB (.cj (.jF 1))))))
def Db (aX:cp)(cK:ar):afF :=z8 aX cK >>= fun ad =>if ad=true then zP aX cK >>= fun aI =>some ((len_ R aI) == (0:Int)) else some false
theorem TY:bM (Db aX cK) (fun r=>Con bQ 11 [.agg (fV aX),.isl 1 (cK.map R)] [] (.b r) []):=.au fun ad J=>(have bS:=((.aB (TW ad J) (ck.b ad)):cE _);.ite (fun ab=>.au fun aI aJ=>.ret (bR [(ag 2),.aE (ax 2 (ap (fD 2 ad) (ax 3 (ap (nd 2 aI) (ca 2 (.ay true) 1)))))] (bS.a1 (.fc ab ab ab (S9 aI aJ) ab ab ab)))) (fun ab=>.ret (bR [(ag 2),.aE (ax 2 (ap (fD 2 ad) (ax 1 (ek 5 (lz 1)))))] (bS.a1 (.fa ab ab ab ab ab ab)))))
def z9 (aX:cp)(g8:ar):afF :=ow aX >>= fun ad =>if ad=true then tN aX g8 >>= fun aI =>some aI else some false
theorem L1:bM (z9 aX g8) (fun r=>Con bQ 12 [.agg (fV aX),.isl 1 (g8.map R)] [] (.b r) []):=.au fun ad J=>(have bS:=((.aB (F0 ad J) (ck.b ad)):cE _);.ite (fun ab=>.au fun aI aJ=>.ret (bR [(ag 2),.aE (ax 1 (ap (fD 1 ad) (ax 2 (ap (.call {ac:=[.bB (.ptr [.id,.id]),ii],r:= .b aI,c1:=true,c8:=[0]}) (ap (.ay true) (ax 1 []))))))] (bS.a1 (.fa ab ab (k0 (pH aX):ht [(fV aX)]) (Lx aI aJ) (ck.b aI) ab)))) (fun ab=>.ret (bR [(ag 2),.aE (ax 1 (ap (fD 1 ad) (ax 1 (ek 2 (lz 1)))))] (bS.a1 (.bT ab ab ab)))))
def L2 (gf cK:ar)(je:Int)(bD:afB)(a7:afD):fe (Int×ar) ar:=⟨fun (iq,aq)=>eD [(0,.isl 1 (gf.map eU8)),(3,.ref 0 0 0 0),(fQ 4 cK),(5,.bK 1 0 0 aq.length),(bF 20 je),(bF 21 iq)] [(zj bD a7),(aK 1 R aq)],fun | a=>⟨some 0,[(3,.ref 0 0 0 0),(fQ 4 cK),(5,.bK 1 0 0 a.length)],[(zj bD a7),(aK 1 R a)]⟩⟩
def zT (gf cK:ar)(je:Int)(bD:afB)(a7:afD)(iq:Int)(aq:ar):Option ((Int×ar)⊕(ar)) :=if (decide (iq<je))=true then Dg gf (U ((40:Int)+iq)) >>= fun bu =>if 0<=(bu.tmod (4:Int))/\(bu.tmod (4:Int))<(4:Nat) then ([5,20,100,500]:ar)[(0+(bu.tmod (4:Int)).toNat)]? >>= fun j2 =>if (aq++([j2]:ar)).length*8<=140737488355328 then some (.inl (U (iq+1),aq++([j2]:ar))) else none else none else some (.inr aq)
def Gq (gf cK:ar)(je:Int)(bD:afB)(a7:afD)(iq:Int)(aq:ar):Option (ar):=iter (fun w:Int×ar=>zT gf cK je bD a7 w.1 w.2) (iq,aq)
theorem Ti:bM (zT gf cK je bD a7 iq aq) (fr bQ 79 0 3 [1,1,1,1,0,1,0,0] (L2 gf cK je bD a7) (iq,aq)):=.ite (fun o=>.au fun bu ab=>.bd fun aA=>.au fun j2 bC=>.bd fun bJ=>.ret (let aT:=(aq++([j2]:ar));bN [(ag 1),.ay true,(ag 2),.aE (ax 5 (ap (kn 2 bu) (ax 2 (ap (.db (R j2)) (l0 1 aT 1))))),(ag 2),.br [0,15] [.box [.id,.id],.dp (aK 1 R aT)] (bZ [0,3,4,5,20,21])] (.bm o (T1 bu ab) (ck.n .i64 bu) (by decide:(4:Int)≠0) aA.1 aA.2 (DV (show [[.n .i64 (5:Int)],[.n .i64 (20:Int)],[.n .i64 (100:Int)],[.n .i64 (500:Int)]]=(([5,20,100,500]:ar)).map R from rfl) bC) (kt R j2) (.ew (o6 R aq) (np R aq j2) bJ (d9 1 (o7 R aq j2)) (aC 1 az aT))))) (fun o=>.ret (bN [(ag 1),.ay false,.br [0,1] [.box [.id,.id],.pure] (bZ [3,4,5])] (.aB o (aC 1 az aq))))
def Dm (gf:ar):afF :=if (decide ((1048576:Int)<(len_ eU8 gf)))=true then some true else C5 gf >>= fun bu =>Gq gf bu.2 (len_ c9 bu.1.bs) bu.1.cm bu.1.bs 0 ([]:ar) >>= fun aI =>uY bu.1 bu.2 aI >>= fun b2 =>r1 bu.1 bu.2 aI >>= fun eB =>if (b2.2 == eB)=true then if b2.2=true then CR bu.1 bu.2 b2.1 >>= fun fw =>if fw=true then u5 bu.1 b2.1 aI >>= fun eH =>if eH=true then sF bu.1 bu.2 aI >>= fun eu =>if eu=true then Db bu.1 bu.2 >>= fun hd =>some hd else z9 bu.1 aI >>= fun hd =>some hd else some false else some false else sF bu.1 bu.2 aI >>= fun fw =>if fw=true then some false else z9 bu.1 aI >>= fun eH =>some eH else some false
theorem Um:bM (Dm gf) (fun r=>Con bQ 3 [.isl 1 (gf.map eU8)] [] (.b r) []):=.ite (fun o=>.ret (bR [(ag 1),(ag 3),.ay true,(ag 1)] (.ao o))) (fun o=>.au fun bu ab=>.au fun aI aJ=>.au fun b2 bJ=>.au fun eB c2=>(let t1:afC:=[(ag 1),(ag 3),.ay false,.aE (ca 1 (fC 1 (.cZ [.agg (fV bu.1),.isl 1 (bu.2.map R)]) false) 6),(ag 2),(ag 4),.br [9,12] [.box [.id,.id],.dp (aK 1 R ([]:ar))] [(0,ii),(3,ii),(4,ii),(gq 5 ([]:ar)),(20,ii),(21,ii)],((L2 gf bu.2 (len_ c9 bu.1.bs) bu.1.cm bu.1.bs).t aI),.iB 1,.aE (ca 3 (.call {ac:=[ii,ii,.bB (.cj (.fb (aI.map R)))],r:= .cZ [.isl 3 (b2.1.map gJ),.b b2.2],c1:=false,c8:=[1]}) 5)];have aY:=((.bm o (TO bu ab) (d9 1 (j3 R)) (aC 1 az ([]:ar)) (jm Int) (ej aJ Ti) (ij R aI) (hJ R aI) (.fc (el az aI) (Lg b2 bJ) (ij R aI) (hJ R aI) (el az aI) (C2 eB c2) (ck.b eB))):cE _);.ite (fun cS=>.ite (fun cz=>.au fun fw eI=>(have gm:=aY.a1 (.bm (dk cS) (dk cS) cz cz cz cz (Tn fw eI) (ck.b fw) (.aB cz cz));.ite (fun eo=>.au fun eH gx=>(let t4:afC:=t1.bo [.aE (ax 4 (ap (.call {ac:=[ii,ii,.bB (.cj (.fb (aI.map R)))],r:= .b eB,c1:=true,c8:=[1]}) (ax 7 (ap (fD 3 fw) (ax 5 (ap (.call {ac:=[ii,ii,.bB (.cj (.fb (aI.map R)))],r:= .b eH,c1:=true,c8:=[1]}) (ax 1 (ap (.ay false) (ap (.ay true) (ap (.ay false) []))))))))))];have q4:=gm.a1 (.bm (dk eo) (dk eo) (dk eo) (dk eo) (ij R aI) (hJ R aI) (el az aI) (LZ eH gx) (.fc (ck.b eH) (dk eo) cz (dk eo) (dk cS) cz (dk cS)));.ite (fun gT=>.au fun eu kp=>(let t6:afC:=t4.bo [.ay false,.aE (ax 3 (ap (.call {ac:=[ii,ii,.bB (.cj (.fb (aI.map R)))],r:= .b eu,c1:=true,c8:=[1]}) []))];have RU:=q4.a1 (.fa (dk gT) (ij R aI) (hJ R aI) (el az aI) (Ln eu kp) (ck.b eu));.ite (fun mO=>.au fun hd lB=>.ret (bR (t6.bo [.ay true,.aE (ax 4 (ap (fD 2 hd) (ap (.ay true) (ax 1 []))))]) (RU.a1 (.fc mO cz cz cz (TY hd lB) (ck.b hd) cz)))) (fun mO=>.au fun hd lB=>.ret (bR (t6.bo [.ay false,.aE (ca 2 (.call {ac:=[ii,.bB (.cj (.fb (aI.map R)))],r:= .b hd,c1:=true,c8:=[1]}) 1)]) (RU.a1 (.fa mO (ij R aI) (hJ R aI) (el az aI) (L1 hd lB) (ck.b hd))))))) (fun gT=>.ret (bR (t4.bo [.ay true,(ag 1)]) (q4.a1 (.ao (dv gT))))))) (fun eo=>.ret (bR (t1.bo [.aE (ax 4 (ap (.call {ac:=[ii,ii,.bB (.cj (.fb (aI.map R)))],r:= .b eB,c1:=true,c8:=[1]}) (ax 7 (ap (fD 3 fw) (ax 2 (ek 5 (ap (.ay true) (ap (.ay true) (ap (.ay false) []))))))))),.ay true,(ag 1)]) (gm.a1 (.bm (dv eo) (dv eo) (dv eo) (dv eo) (dv eo) cz (dv eo) (dk cS) (.bT cz (dk cS) cR))))))) (fun cz=>.au fun fw eI=>(let t3:afC:=t1.bo [.aE (ax 4 (ap (.call {ac:=[ii,ii,.bB (.cj (.fb (aI.map R)))],r:= .b eB,c1:=true,c8:=[1]}) (ax 4 (ek 6 (ax 5 (ek 1 (ap (.ay false) (ap (.ay false) [])))))))),.ay false,.aE (ax 3 (ap (.call {ac:=[ii,ii,.bB (.cj (.fb (aI.map R)))],r:= .b fw,c1:=true,c8:=[1]}) []))];have fs:=aY.a1 (.bm (dk cS) (dk cS) cz cz cz cz cz cz (.bm cz (dk cS) cz (dk cS) gi (ij R aI) (hJ R aI) (el az aI) (.aB (Ln fw eI) (ck.b fw))));.ite (fun eo=>.ret (bR (t3.bo [.ay true,.aE (ax 2 (ek 3 (lz 1)))]) (fs.a1 (.ew eo cz cz cz cz)))) (fun eo=>.au fun eH gx=>.ret (bR (t3.bo [.ay false,.aE (ca 2 (.call {ac:=[ii,.bB (.cj (.fb (aI.map R)))],r:= .b eH,c1:=true,c8:=[1]}) 1)]) (fs.a1 (.fa eo (ij R aI) (hJ R aI) (el az aI) (L1 eH gx) (ck.b eH)))))))) (fun cS=>.ret (bR (t1.bo [.aE (ax 4 (ap (.call {ac:=[ii,ii,.bB (.cj (.fb (aI.map R)))],r:= .b eB,c1:=true,c8:=[1]}) (ax 2 (ek 2 (nf 12 1))))),.ay true,(ag 1)]) (aY.a1 (.ew (dv cS) (dv cS) (dv cS) (dv cS) cR))))))
def GY (bk sj tf:Int):afF :=
 if (decide (sj<=bk))=true then
  some (decide (bk<=tf))
 else
  some false
def zQ (bg:ar)(bk:Int):Option ((Int)⊕(Int)) :=
 if (decide ((0:Int)<bk))=true then
  if 0<=(U (bk-(1:Int)))/\(U (bk-(1:Int)))<bg.length then
  bg[(U (bk-(1:Int))).toNat]? >>= fun aS =>
  if (aS == (0:Int))=true then
   some (.inl (U (bk-(1:Int))))
  else
   some (.inr bk)
  else none
 else
  some (.inr bk)
def Mg (bg:ar)(bk:Int):Option (Int):=iter (fun w:Int=>zQ bg w) bk
def u9 (bg:ar):afK :=
 Mg bg (len_ R bg) >>= fun ad =>
 if 0<=ad then
 if 0<=ad.toNat/\ad.toNat<=bg.length then
 some ((bg.drop 0).take (ad.toNat-0))
 else none
 else none
def CS (bk:Int)(aw:ar):Option ((Int×ar)⊕(ar)) :=
 if (decide ((0:Int)<bk))=true then
  if (aw++([bk.tmod (1000000000:Int)]:ar)).length*8<=140737488355328 then
  some (.inl (U (bk.tdiv (1000000000:Int)),aw++([bk.tmod (1000000000:Int)]:ar)))
  else none
 else
  some (.inr aw)
def ME (bk:Int)(aw:ar):Option (ar):=iter (fun w:Int×ar=>CS w.1 w.2) (bk,aw)
def ya (bk:Int):afK :=
 ME bk ([]:ar) >>= fun ad =>
 some ad
def GM (bg:ar):afF :=
 if ((len_ R bg) == (1:Int))=true then
  if 0<=(0:Int)/\(0:Int)<bg.length then
  bg[0]? >>= fun aS =>
  some (aS == (1:Int))
  else none
 else
  some false
def CN (bg bl:ar)(ba:Int):Option ((Int)⊕((Unit)⊕(Int))) :=
 if (decide ((0:Int)<=ba))=true then
  if 0<=ba/\ba<bg.length then
  bg[ba.toNat]? >>= fun aS =>
  if 0<=ba/\ba<bl.length then
  bl[ba.toNat]? >>= fun ct =>
  if (decide (aS<ct))=true then
   some (.inr (.inr (-1)))
  else
   if (decide (ct<aS))=true then
    some (.inr (.inr 1))
   else
    some (.inl (U (ba-(1:Int))))
  else none
  else none
 else
  some (.inr (.inl ()))
def Mr (bg bl:ar)(ba:Int):Option ((Unit)⊕(Int)):=iter (fun w:Int=>CN bg bl w) ba
def x4 (bg bl:ar):afJ :=
 if ((len_ R bg) != (len_ R bl))=true then
  if (decide ((len_ R bg)<(len_ R bl)))=true then
   some (-1)
  else
   some 1
 else
  Mr bg bl (U ((len_ R bg)-(1:Int))) >>= fun bu =>
  match bu with
  | .inl fT=>(some 0)
  | .inr fT=>(some fT)
def zU (bg bl:ar)(e2 qB e3:Int)(aw:ar):Option ((Int×Int×ar)⊕(ar)) :=
 if (decide (e3<e2))=true then
  if 0<=e3/\e3<bg.length then
  bg[e3.toNat]? >>= fun aS =>
  if (decide (e3<(len_ R bl)))=true then
   if 0<=e3/\e3<bl.length then
   bl[e3.toNat]? >>= fun gI =>
   if (decide ((U ((U (aS-qB))-gI))<(0:Int)))=true then
    if (aw++([U ((U ((U (aS-qB))-gI))+(1000000000:Int))]:ar)).length*8<=140737488355328 then
    some (.inl (1,U (e3+(1:Int)),aw++([U ((U ((U (aS-qB))-gI))+(1000000000:Int))]:ar)))
    else none
   else
    if (aw++([U ((U (aS-qB))-gI)]:ar)).length*8<=140737488355328 then
    some (.inl (0,U (e3+(1:Int)),aw++([U ((U (aS-qB))-gI)]:ar)))
    else none
   else none
  else
   if (decide ((U (aS-qB))<(0:Int)))=true then
    if (aw++([U ((U (aS-qB))+(1000000000:Int))]:ar)).length*8<=140737488355328 then
    some (.inl (1,U (e3+(1:Int)),aw++([U ((U (aS-qB))+(1000000000:Int))]:ar)))
    else none
   else
    if (aw++([U (aS-qB)]:ar)).length*8<=140737488355328 then
    some (.inl (0,U (e3+(1:Int)),aw++([U (aS-qB)]:ar)))
    else none
  else none
 else
  some (.inr aw)
def Ms (bg bl:ar)(e2 qB e3:Int)(aw:ar):Option (ar):=iter (fun w:Int×Int×ar=>zU bg bl e2 w.1 w.2.1 w.2.2) (qB,e3,aw)
def GN (bg bl:ar):afK :=
 Ms bg bl (len_ R bg) 0 0 ([]:ar) >>= fun ad =>
 u9 ad >>= fun bb =>
 some bb
def CT (bg:ar)(m7 gl:Int):Option ((Int)⊕((Unit)⊕(Unit))) :=
 if (decide (gl<m7))=true then
  if 0<=gl/\gl<bg.length then
  bg[gl.toNat]? >>= fun aS =>
  GY aS 0 999999999 >>= fun bh =>
  if bh=true then
   some (.inl (U (gl+(1:Int))))
  else
   some (.inr (.inr ()))
  else none
 else
  some (.inr (.inl ()))
def MF (bg:ar)(m7 gl:Int):Option ((Unit)⊕(Unit)):=iter (fun w:Int=>CT bg m7 w) gl
def yb (bg:ar):afF :=
 MF bg (len_ R bg) 0 >>= fun ad =>
 match ad with
 | .inl bq=>(if (decide ((len_ R bg)<=(60:Int)))=true then
  if ((len_ R bg) == (0:Int))=true then
   some true
  else
   if 0<=(U ((len_ R bg)-(1:Int)))/\(U ((len_ R bg)-(1:Int)))<bg.length then
   bg[(U ((len_ R bg)-(1:Int))).toNat]? >>= fun gI =>
   some (gI != (0:Int))
   else none
  else
   some false)
 | .inr bq=>(some false)
def CJ (bg:ar)(bk ba:Int):Option ((Int×Int)⊕(Int)) :=
 if (decide ((0:Int)<=ba))=true then
  if 0<=ba/\ba<bg.length then
  bg[ba.toNat]? >>= fun aS =>
  some (.inl (U ((U (bk*(1000000000:Int)))+aS),U (ba-(1:Int))))
  else none
 else
  some (.inr bk)
def L3 (bg:ar)(bk ba:Int):Option (Int):=iter (fun w:Int×Int=>CJ bg w.1 w.2) (bk,ba)
def Dc (bg:ar):Option (Int×Bool) :=
 yb bg >>= fun ad =>
 if ad=true then
  x4 bg ([854775807,223372036,9]:ar) >>= fun aI =>
  if (decide ((0:Int)<aI))=true then
   some (0,false)
  else
   L3 bg 0 (U ((len_ R bg)-(1:Int))) >>= fun bU =>
   some (bU,true)
 else
  some (0,false)
def CK (cH fk:Int):Option ((Int×Int)⊕(Int)) :=
 if (decide ((0:Int)<fk))=true then
  if fk≠0 then
  some (.inl (fk,cH.tmod fk))
  else none
 else
  some (.inr cH)
def L4 (cH fk:Int):Option (Int):=iter (fun w:Int×Int=>CK w.1 w.2) (cH,fk)
def Gu (cH fk:Int):afK :=
 L4 cH fk >>= fun ad =>
 ya ad >>= fun bb =>
 some bb
def CL (bg:ar)(wA i3 ba:Int)(aw:ar):Option ((Int×Int×ar)⊕(Int×ar)) :=
 if (decide ((0:Int)<=ba))=true then
  if 0<=ba/\ba<bg.length then
  bg[ba.toNat]? >>= fun aS =>
  if wA≠0 then
  if 0<=ba/\ba<(aw.length:Nat) then
  if (0+ba.toNat)<aw.length then
  some (.inl ((U ((U (i3*(1000000000:Int)))+aS)).tmod wA,U (ba-(1:Int)),aw.set (0+ba.toNat) (U ((U ((U (i3*(1000000000:Int)))+aS)).tdiv wA))))
  else none
  else none
  else none
  else none
 else
  some (.inr (i3,aw))
def F7 (bg:ar)(wA i3 ba:Int)(aw:ar):Option (Int×ar):=iter (fun w:Int×Int×ar=>CL bg wA w.1 w.2.1 w.2.2) (i3,ba,aw)
def Gv (bg:ar)(wA:Int):Option (ar×Int) :=
 if 0<=(len_ R bg)/\(8:Int)*(len_ R bg)<=281474976710656/\(len_ R bg)<9223372036854775808 then
 F7 bg wA 0 (U ((len_ R bg)-(1:Int))) (List.replicate (len_ R bg).toNat 0:ar) >>= fun bu =>
 u9 bu.2 >>= fun aI =>
 some (aI,bu.1)
 else none
def CO (bl:ar)(ba cH:Int)(gp:ar)(fG fL fu ee:Int)(aw:ar):Option ((Int×Int×ar)⊕(Int×ar)) :=
 if (decide (ee<fL))=true then
  if 0<=ee/\ee<bl.length then
  bl[ee.toNat]? >>= fun aS =>
  if 0<=(U (ba+ee))/\(U (ba+ee))<(aw.length:Nat) then
  aw[(0+(U (ba+ee)).toNat)]? >>= fun ct =>
  if (0+(U (ba+ee)).toNat)<aw.length then
  some (.inl (U ((U ((U (ct+(U (cH*aS))))+fu)).tdiv (1000000000:Int)),U (ee+(1:Int)),aw.set (0+(U (ba+ee)).toNat) ((U ((U (ct+(U (cH*aS))))+fu)).tmod (1000000000:Int))))
  else none
  else none
  else none
 else
  some (.inr (fu,aw))
def Mt (bl:ar)(ba cH:Int)(gp:ar)(fG fL fu ee:Int)(aw:ar):Option (Int×ar):=iter (fun w:Int×Int×ar=>CO bl ba cH gp fG fL w.1 w.2.1 w.2.2) (fu,ee,aw)
def F1 (bl gp:ar)(fG f7:Int)(aw:ar):Option ((Int×ar)⊕(ar)) :=
 if (decide (f7<fG))=true then
  if 0<=f7/\f7<gp.length then
  gp[f7.toNat]? >>= fun aS =>
  Mt bl f7 aS gp fG (len_ R bl) 0 0 aw >>= fun bh =>
  if 0<=(U (f7+(len_ R bl)))/\(U (f7+(len_ R bl)))<(bh.2.length:Nat) then
  if (0+(U (f7+(len_ R bl))).toNat)<bh.2.length then
  some (.inl (U (f7+(1:Int)),bh.2.set (0+(U (f7+(len_ R bl))).toNat) bh.1))
  else none
  else none
  else none
 else
  some (.inr aw)
def C3 (bl gp:ar)(fG f7:Int)(aw:ar):Option (ar):=iter (fun w:Int×ar=>F1 bl gp fG w.1 w.2) (f7,aw)
def Dn (bg bl:ar):afK :=
 if ((len_ R bg) == (0:Int))=true then
  some ([]:ar)
 else
  if ((len_ R bl) == (0:Int))=true then
   some ([]:ar)
  else
   if 0<=(U ((len_ R bg)+(len_ R bl)))/\(8:Int)*(U ((len_ R bg)+(len_ R bl)))<=281474976710656/\(U ((len_ R bg)+(len_ R bl)))<9223372036854775808 then
   C3 bl bg (len_ R bg) 0 (List.replicate (U ((len_ R bg)+(len_ R bl))).toNat 0:ar) >>= fun aI =>
   u9 aI >>= fun b2 =>
   some b2
   else none
def zM (ez bl:ar)(sj tf:Int):Option ((Int×Int)⊕(Int)) :=
 if (decide (sj<tf))=true then
  ya (U ((U ((U (sj+tf))+(1:Int))).tdiv (2:Int))) >>= fun bu =>
  Dn bl bu >>= fun aI =>
  x4 aI ez >>= fun b2 =>
  if (decide (b2<=(0:Int)))=true then
   some (.inl (U ((U ((U (sj+tf))+(1:Int))).tdiv (2:Int)),tf))
  else
   some (.inl (sj,U ((U ((U ((U (sj+tf))+(1:Int))).tdiv (2:Int)))-(1:Int))))
 else
  some (.inr sj)
def F8 (ez bl:ar)(sj tf:Int):Option (Int):=iter (fun w:Int×Int=>zM ez bl w.1 w.2) (sj,tf)
def Gw (ez bl:ar):afJ :=
 if 0<=(U ((len_ R bl)-(1:Int)))/\(U ((len_ R bl)-(1:Int)))<ez.length then
 ez[(U ((len_ R bl)-(1:Int))).toNat]? >>= fun e9 =>
 if (decide ((len_ R bl)<(len_ R ez)))=true then
  if 0<=(len_ R bl)/\(len_ R bl)<ez.length then
  ez[(len_ R bl).toNat]? >>= fun ct =>
  if 0<=(U ((len_ R bl)-(1:Int)))/\(U ((len_ R bl)-(1:Int)))<bl.length then
  bl[(U ((len_ R bl)-(1:Int))).toNat]? >>= fun gu =>
  if (U (gu+(1:Int)))≠0 then
  if gu≠0 then
  F8 ez bl (U ((U (e9+(U (ct*(1000000000:Int))))).tdiv (U (gu+(1:Int))))) (if (U ((U (e9+(U (ct*(1000000000:Int))))).tdiv gu))<(999999999:Int) then (U ((U (e9+(U (ct*(1000000000:Int))))).tdiv gu)) else (999999999:Int)) >>= fun d2 =>
  some d2
  else none
  else none
  else none
  else none
 else
  if 0<=(U ((len_ R bl)-(1:Int)))/\(U ((len_ R bl)-(1:Int)))<bl.length then
  bl[(U ((len_ R bl)-(1:Int))).toNat]? >>= fun ct =>
  if (U (ct+(1:Int)))≠0 then
  if ct≠0 then
  F8 ez bl (U (e9.tdiv (U (ct+(1:Int))))) (if (U (e9.tdiv ct))<(999999999:Int) then (U (e9.tdiv ct)) else (999999999:Int)) >>= fun eY =>
  some eY
  else none
  else none
  else none
 else none
def CP (bg bl i3:ar)(ba:Int)(aw:ar):Option ((ar×Int×ar)⊕(ar×ar)) :=
 if (decide ((0:Int)<=ba))=true then
  if 0<=ba/\ba<bg.length then
  bg[ba.toNat]? >>= fun aS =>
  if (([aS]:ar)++i3).length*8<=140737488355328 then
  u9 (([aS]:ar)++i3) >>= fun b2 =>
  x4 b2 bl >>= fun eB =>
  if (decide (eB<(0:Int)))=true then
   some (.inl (b2,U (ba-(1:Int)),aw))
  else
   Gw b2 bl >>= fun c4 =>
   if 0<=ba/\ba<(aw.length:Nat) then
   if (0+ba.toNat)<aw.length then
   ya c4 >>= fun eH =>
   Dn bl eH >>= fun kc =>
   GN b2 kc >>= fun zq =>
   some (.inl (zq,U (ba-(1:Int)),aw.set (0+ba.toNat) c4))
   else none
   else none
  else none
  else none
 else
  some (.inr (i3,aw))
def Mu (bg bl i3:ar)(ba:Int)(aw:ar):Option (ar×ar):=iter (fun w:ar×Int×ar=>CP bg bl w.1 w.2.1 w.2.2) (i3,ba,aw)
def Dp (bg bl:ar):Option (ar×ar) :=
 if ((len_ R bl) == (1:Int))=true then
  if 0<=(0:Int)/\(0:Int)<bl.length then
  bl[0]? >>= fun aS =>
  Gv bg aS >>= fun bh =>
  ya bh.2 >>= fun bU =>
  some (bh.1,bU)
  else none
 else
  if 0<=(len_ R bg)/\(8:Int)*(len_ R bg)<=281474976710656/\(len_ R bg)<9223372036854775808 then
  Mu bg bl ([]:ar) (U ((len_ R bg)-(1:Int))) (List.replicate (len_ R bg).toNat 0:ar) >>= fun bb =>
  u9 bb.2 >>= fun bh =>
  some (bh,bb.1)
  else none
def zV (cH fk:ar):Option ((ar×ar)⊕((ar)⊕(ar))) :=
 if (decide ((0:Int)<(len_ R fk)))=true then
  if (decide ((len_ R cH)<(3:Int)))=true then
   if (decide ((len_ R fk)<(3:Int)))=true then
    Dc cH >>= fun aI =>
    Dc fk >>= fun b2 =>
    Gu aI.1 b2.1 >>= fun eB =>
    some (.inr (.inr eB))
   else
    Dp cH fk >>= fun aI =>
    some (.inl (fk,aI.2))
  else
   Dp cH fk >>= fun bb =>
   some (.inl (fk,bb.2))
 else
  some (.inr (.inl cH))
def Mv (cH fk:ar):Option ((ar)⊕(ar)):=iter (fun w:ar×ar=>zV w.1 w.2) (cH,fk)
def GO (bg bl:ar):afK :=
 if (([]:ar)++bg).length*8<=140737488355328 then
 if (([]:ar)++bl).length*8<=140737488355328 then
 Mv (([]:ar)++bg) (([]:ar)++bl) >>= fun bb =>
 match bb with
 | .inl f5=>(some f5)
 | .inr f5=>(some f5)
 else none
 else none
def Gx (cH:bt):afF :=
 yb cH.cJ >>= fun ad =>
 if ad=true then
  if cH.c5=true then
   some (decide ((0:Int)<(len_ R cH.cJ)))
  else
   some true
 else
  some false
def Nq (ez:gL):afF :=
 Gx ez.m6 >>= fun ad =>
 if ad=true then
  yb ez.jO >>= fun aI =>
  if aI=true then
   if ((len_ R ez.jO) == (0:Int))=true then
    some false
   else
    if (decide ((24:Int)<(len_ R ez.jO)))=true then
     some false
    else
     if (decide ((24:Int)<(len_ R ez.m6.cJ)))=true then
      some false
     else
      GO ez.m6.cJ ez.jO >>= fun eY =>
      GM eY >>= fun fw =>
      some fw
  else
   some false
 else
  some false
theorem pX {n:Nat}(h:n<=10000000):U ((n:Int)+1)=((n+1:Nat):Int):=by rw[cI (by omega) (by omega)];rfl
theorem qH {n:Nat}(h:n<=10000000):U ((n:Int)-1)=(n:Int)-1:=cI (by omega) (by omega)
theorem Ii {n:Nat}(h:n<=10000000):U (((n+1:Nat):Int)-1)=n:=by rw[cI (by omega) (by omega)];omega
theorem gE (l:ar):len_ R l=l.length:=hf _ l
theorem Wc {l:ar}{k:Nat}{x:Int}(aa:l[k]? = some x)(aV:l.length<=5000000):zQ l ((k+1:Nat):Int)=some (if x=0 then .inl (k:Int) else .inr ((k+1:Nat):Int)):=by have aQ:=fN aa;unfold zQ;rw[Ii (by omega),dw (by simp),dw (by omega),dz,aa];by_cases h:x=0<;>simp[h]
theorem Au {l:ar}(aF:cy l)(aV:l.length<=5000000):u9 l=some (L (V l)):=by
 have : ∃r,iter (fun w:Int=>zQ l w) (l.length:Int)=some r/\ ∃k:Nat,r=k/\k<=l.length/\l.take k=L (V l):=by
  refine j9 (eA:=fun w:Int=> ∃k:Nat,w=k/\k<=l.length/\V (l.take k)=V l) (m:=fun w:Int=>w.toNat) _ ?_ _ ⟨l.length,rfl,by omega,by simp⟩;rintro _ ⟨k,rfl,aQ,aZ⟩
  cases k with
  | zero =>
   refine .inr ⟨0,by simp[zQ],0,rfl,by omega,?_⟩;rw[<- aZ];simp[V,pe]
  | succ k =>
   have aa:=dx (show k<l.length by omega);rw[Wc aa aV];by_cases h:l[k]=0
   ·refine .inl ⟨_,by simp[h],⟨k,rfl,by omega,?_⟩,by omega⟩;have:=sT aa;rw[h] at this;simp at this;omega
   refine .inr ⟨_,by simp[h],k+1,rfl,aQ,?_⟩;rcases eZ.HD aF k (fun x o=>by rw[aa] at o;simp at o;omega) with o|o
   ·exact vT o aZ
   omega
 obtain⟨r,aj,k,rfl,o,J⟩:=this;unfold u9 Mg;rw[gE,aj];simp[o,J]
theorem yt {l:ar}(aF:cy l)(aV:l.length<=5000000):qs l=some (L (V l)):=by
 have : ∃r,iter (fun w:ar=>xJ w) l=some r/\r=L (V l):=by
  refine j9 (eA:=fun w=> ∃k:Nat,w=l.take k/\k<=l.length/\V (l.take k)=V l) (m:=fun w:ar=>w.length) _ ?_ _ ⟨l.length,by simp,by omega,by simp⟩;rintro _ ⟨k,rfl,aQ,aZ⟩;have hlen:(l.take k).length=k:=by simp;omega
  cases k with
  | zero =>
   refine .inr ⟨[],by simp[xJ,gE],?_⟩;rw[<- aZ];simp[V,pe]
  | succ k =>
   have aa:=dx (show k<l.length by omega);have dl:(l.take (k+1))[k]? = some l[k]:=(by rw[dR];simp[aa]);unfold xJ;simp only[gE,hlen];rw[Ii (by omega),dw (by simp),dw (by omega),dz,dl];by_cases h:l[k]=0
   ·refine .inl ⟨l.take k,by simp[h,List.take_take,Nat.min_eq_left],⟨k,rfl,by omega,?_⟩,by simp;omega⟩;have:=sT aa;rw[h] at this;simp at this;omega
   refine .inr ⟨l.take (k+1),by simp[h],?_⟩;rcases eZ.HD aF k (fun x o=>by rw[aa] at o;simp at o;omega) with o|o
   ·exact vT o aZ
   omega
 obtain⟨r,aj,rfl⟩:=this;unfold qs MH;rw[aj];rfl
theorem Wd {l:ar}(aF:cy l)(aV:l.length<=5000000): ∃k,Ai l=some k/\k<=l.length/\l.take k=L (V l):=by
 have : ∃r,iter (fun w:Nat=>xD l w) l.length=some r/\r<=l.length/\l.take r=L (V l):=by
  refine j9 (eA:=fun k=>k<=l.length/\V (l.take k)=V l) (m:=fun w:Nat=>w) _ ?_ _ ⟨by omega,by simp⟩;rintro k ⟨aQ,aZ⟩
  cases k with
  | zero =>
   refine .inr ⟨0,by simp[xD],by omega,?_⟩;rw[<- aZ];simp[V,pe]
  | succ k =>
   have aa:=dx (show k<l.length by omega);unfold xD;rw[Ii (by omega),dw (by simp),dw (by omega),dz,dF,aa];by_cases h:l[k]=0
   ·refine .inl ⟨k,by simp[h],⟨by omega,?_⟩,by omega⟩;have:=sT aa;rw[h] at this;simp at this;omega
   refine .inr ⟨k+1,by simp[h],aQ,?_⟩;rcases eZ.HD aF k (fun x o=>by rw[aa] at o;simp at o;omega) with o|o
   ·exact vT o aZ
   omega
 obtain⟨r,aj,o,J⟩:=this;unfold Ai Mj;rw[aj];exact⟨r,rfl,o,J⟩
theorem yC {a b:ar}(bA:eZ a)(aN:eZ b)(aV:a.length<=5000000):x4 a b=some (lq (V a) (V b)):=by
 unfold x4 lq;simp only[gE];by_cases o:a.length=b.length;rotate_left
 ·rw[dw (by simp;omega)]
  by_cases J:a.length<b.length
  ·have:=DY bA aN J;simp[J,this]
  have:=DY aN bA (by omega);rw[dA (by simp;omega),dA (by omega),dw this]
 rw[dA (by simp[o])]
 have : ∃r,iter (fun w:Int=>CN a b w) ((a.length:Int)-1)=some r/\(r.elim (fun _=>V a=V b) (fun c=>(c = -1/\V a<V b)\/(c=1/\V b<V a))):=by
  refine j9 (eA:=fun w:Int=> ∃k:Nat,w=(k:Int)-1/\k<=a.length/\V (a.drop k)=V (b.drop k)) (m:=fun w:Int=>(w+1).toNat) _ ?_ _ ⟨a.length,rfl,by omega,by rw[List.drop_length,o,List.drop_length]⟩;rintro _ ⟨k,rfl,aQ,aZ⟩
  cases k with
  | zero=>exact .inr ⟨.inl (),by simp[CN],by simpa using aZ⟩
  | succ k =>
   have aa:=dx (show k<a.length by omega);have aP:=dx (show k<b.length by omega);have e:((k+1:Nat):Int)-1=k:=(by omega);unfold CN;rw[e,qH (by omega),dw (by simp),dw (by omega),dz,aa];simp only[dD,dB];rw[dw (by omega),aP];by_cases J:a[k]<b[k]
   ·exact .inr ⟨.inr (-1),by simp[J],.inl ⟨rfl,OU bA.1 aN.1 aa aP aZ J⟩⟩
   by_cases ab:b[k]<a[k]
   ·exact .inr ⟨.inr 1,by simp[J,ab],.inr ⟨rfl,OU aN.1 bA.1 aP aa aZ.symm ab⟩⟩
   refine .inl ⟨(k:Int)-1,by simp[J,ab],⟨k,rfl,by omega,?_⟩,by omega⟩;rw[oE aa,oE aP,aZ,show a[k]=b[k] by omega]
 obtain⟨r,aj,J⟩:=this;unfold Mr;rw[qH (by omega),aj]
 cases r with
 | inl u =>
  simp at J;simp[J]
 | inr c =>
  rcases J with ⟨rfl,J⟩|⟨rfl,J⟩
  ·simp[J]
  simp[J];omega
theorem UL:pJ=x4:=rfl
theorem Dt {a b:ar}(bA:eZ a)(aN:eZ b)(aV:a.length<=5000000):pJ a b=some (lq (V a) (V b)):=yC bA aN aV
theorem A1 {x y:Int}(aa:0<=x/\x<1000000000)(aP:0<=y/\y<1000000000):0<=x*y/\x*y<=999999998000000001:=by have o:=Int.mul_nonneg aa.1 aP.1;have J:x*y<=999999999*999999999:=Int.mul_le_mul (by omega) (by omega) aP.1 (by omega);omega
theorem tH {a b:Int}(h:0<=a):a.tmod b=a % b:=Int.tmod_eq_emod_of_nonneg h
theorem o8 {a b:Int}(h:0<=a):a.tdiv b=a / b:=Int.tdiv_eq_ediv_of_nonneg h
theorem HE (k:Nat)(x:Int)(q:ar):(List.replicate (k+1) 0++q).set k x=List.replicate k 0++x::q:=by
 induction k with
 | zero=>rfl
 | succ k ih =>
  show (0::(List.replicate (k+1) 0++q)).set (k+1) x=_;rw[List.set_cons_succ,ih];rfl
theorem VA {a:ar}{d rest:Int}{row:ar}{k:Nat}{x:Int}(aa:a[k]? = some x)(iM:0<=x/\x<1000000000)(bz:0<d/\d<1000000000)(aj:0<=rest/\rest<d)(cV:row.length=a.length)(aV:a.length<=1000000):
 CL a d rest (k:Int) row=some (.inl ((rest*1000000000+x) % d,(k:Int)-1,row.set k ((rest*1000000000+x) / d))):=by
 have aQ:=fN aa;unfold CL;rw[dw (by simp),dw (by omega),dz,aa];simp only[dD,dB];rw[dw (by omega),dw (by omega),dw (by omega),qH (by omega)];have o:U (U (rest*1000000000)+x)=rest*1000000000+x:=by rw[cI (x:=rest*1000000000) (by omega) (by omega)];exact cI (by omega) (by omega)
 have J:0<=rest*1000000000+x:=by omega
 have ab:(rest*1000000000+x) / d<=rest*1000000000+x:=Int.ediv_le_self _ J;have aA:0<=(rest*1000000000+x) / d:=Int.ediv_nonneg J (by omega);rw[o,tH J,o8 J,cI (by omega) (by omega),dF]
theorem Nr {a:ar}{d:Int}(bA:cy a)(bz:0<d/\d<1000000000)(aV:a.length<=1000000):
 ∃r,F7 a d 0 ((a.length:Int)-1) (List.replicate a.length 0)=some r/\r.1=V a % d/\cy r.2/\r.2.length=a.length/\V r.2=V a / d:=by
 refine j9 (eA:=fun w:Int×Int×ar=> ∃(k:Nat) (q:ar),w.2.1=(k:Int)-1/\k<=a.length/\w.2.2=List.replicate k 0++q/\q.length+k=a.length/\cy q/\0<=w.1/\w.1<d/\V (a.drop k)=V q*d+w.1) (m:=fun w:Int×Int×ar=>(w.2.1+1).toNat) _ ?_ _ ⟨a.length,[],rfl,by omega,by simp,by simp,cy.nil,by omega,by omega,by simp[V]⟩;rintro⟨rest,i,row⟩ ⟨k,q,o,aQ,J,a2,tx,kS,iD,aZ⟩;simp only at o J kS iD aZ ⊢;subst o J
 cases k with
 | zero =>
  refine .inr ⟨(rest,q),by simp[CL],?_,tx,by simpa using a2,?_⟩
  ·simp at aZ;rw[aZ,Int.add_comm,Int.add_mul_emod_self_right];exact(Int.emod_eq_of_lt kS iD).symm
  simp at aZ;rw[aZ,Int.add_comm,Int.add_mul_ediv_right _ _ (by omega),Int.ediv_eq_zero_of_lt kS iD];simp
 | succ k =>
  have aa:=dx (show k<a.length by omega);have iM:=bA.get aa;rw[show ((k+1:Nat):Int)-1=k by omega,VA aa iM bz ⟨kS,iD⟩ (by simp;omega) aV];refine .inl ⟨_,rfl,⟨k,(rest*1000000000+a[k]) / d::q,rfl,by omega,HE _ _ _,by simp;omega,cy.cons ⟨Int.ediv_nonneg (by omega) (by omega),?_⟩ tx,Int.emod_nonneg _ (by omega),Int.emod_lt_of_pos _ bz.1,?_⟩,by simp⟩
  ·refine Int.ediv_lt_of_lt_mul bz.1 ?_;omega
  rw[oE aa,aZ,k4];have:=Int.mul_ediv_add_emod (rest*1000000000+a[k]) d;generalize (rest*1000000000+a[k]) / d=u at *;generalize (rest*1000000000+a[k]) % d=t at *;grind
theorem Xd {a:ar}{d:Int}(bA:cy a)(bz:0<d/\d<1000000000)(aV:a.length<=1000000):Gv a d=some (L (V a / d),V a % d):=by obtain⟨r,aj,o,J,ab,aA⟩:=Nr bA bz aV;unfold Gv;simp only[gE];rw[dw (by omega),qH (by omega),dz,aj];simp only[dD,dB];rw[Au J (by omega),o,aA];rfl
theorem Ud:LC=F7:=rfl
theorem MK {a:ar}{d:Int}(bA:cy a)(bz:0<d/\d<1000000000)(aV:a.length<=1000000):xT a d=some (L (V a / d),V a % d):=by obtain⟨r,aj,o,J,ab,aA⟩:=Nr bA bz aV;unfold xT;simp only[gE];rw[dw (by omega),qH (by omega),dz,Ud,aj];simp only[dD,dB];rw[yt J (by omega),o,aA];rfl
theorem We {b:ar}{i j:Nat}{x y z carry:Int}{row t26:ar}{t27:Int}(aP:b[j]? = some y)(b5:row[i+j]? = some z)(aa:0<=x/\x<1000000000)(om:0<=y/\y<1000000000)(rv:0<=z/\z<1000000000)(aL:0<=carry/\carry<1000000000)(aV:row.length<=2000000):
 CO b i x t26 t27 b.length carry j row=some (.inl ((z+x*y+carry) / 1000000000,((j+1:Nat):Int),row.set (i+j) ((z+x*y+carry) % 1000000000))):=by
 have av:=fN aP;have p9:=fN b5;obtain⟨hZ,gr⟩:=A1 aa om;unfold CO;have e:U ((i:Int)+(j:Int))=((i+j:Nat):Int):=by rw[cI (by omega) (by omega)];rfl
 rw[dw (by simp;omega),dw (by omega),dz,aP];simp only[dD,dB,e,dz,dF];rw[dw (by omega),b5];simp only[dB];rw[dw (by omega),pX (by omega),cI (x:=x*y) (by omega) (by omega),cI (x:=z+x*y) (by omega) (by omega),cI (x:=z+x*y+carry) (by omega) (by omega),tH (by omega),o8 (by omega),cI (by omega) (by omega)]
theorem Wf {b:ar}{i:Nat}{x:Int}{row t26:ar}{t27:Int}(aN:cy b)(cV:cy row)(aa:0<=x/\x<1000000000)(aF:i+b.length<row.length)(aV:row.length<=2000000):
 ∃r,Mt b i x t26 t27 b.length 0 0 row=some r/\0<=r.1/\r.1<1000000000/\cy r.2/\r.2.length=row.length/\V r.2+r.1*B (i+b.length)=V row+x*B i*V b/\ ∀j,i+b.length<=j->r.2[j]? = row[j]? := by
 refine j9 (eA:=fun w:Int×Int×ar=> ∃(j:Nat),w.2.1=(j:Int)/\j<=b.length/\0<=w.1/\w.1<1000000000/\cy w.2.2/\w.2.2.length=row.length/\V w.2.2+w.1*B (i+j)=V row+x*B i*V (b.take j)/\ ∀j,i+b.length<=j->w.2.2[j]? = row[j]?) (m:=fun w:Int×Int×ar=>b.length-w.2.1.toNat) _ ?_ _ ⟨0,rfl,by omega,by simp,by simp,cV,rfl,by simp[V],fun _ _=>rfl⟩;rintro⟨carry,acF,cc⟩ ⟨j,o,av,mF,mG,jR,hlen,aZ,kL⟩;simp only at o mF mG jR hlen aZ kL ⊢;subst o;by_cases abn:j=b.length
 ·subst abn;refine .inr ⟨(carry,cc),by simp[CO],mF,mG,jR,hlen,by simpa using aZ,kL⟩
 have aP:=dx (show j<b.length by omega);have b5:=dx (show i+j<cc.length by omega);have om:=aN.get aP;have rv:=jR.get b5;obtain⟨hZ,gr⟩:=A1 aa om;rw[We aP b5 aa om rv ⟨mF,mG⟩ (by omega)];refine .inl ⟨_,rfl,⟨j+1,rfl,by omega,by simp only;omega,by simp only;omega,jR.set (by omega),by simpa using hlen,?_,fun hP sn=> ?_⟩,by simp;omega⟩
 ·simp only;rw[sc b5,sT aP,<- Nat.add_assoc,mw];rw[A9] at aZ ⊢;have:=Int.mul_ediv_add_emod (cc[i+j]+x*b[j]+carry) 1000000000;generalize (cc[i+j]+x*b[j]+carry) / 1000000000=u at *;generalize (cc[i+j]+x*b[j]+carry) % 1000000000=t at *;grind
 rw[<- kL hP sn];exact List.getElem?_set_ne (by omega)
theorem G8 {a b:ar}(bA:cy a)(aN:cy b)(aV:a.length<=1000000)(hm:b.length<=1000000):
 ∃r,C3 b a a.length 0 (List.replicate (a.length+b.length) 0)=some r/\cy r/\r.length=a.length+b.length/\V r=V a*V b:=by
 refine j9 (eA:=fun w:Int×ar=> ∃(i:Nat),w.1=(i:Int)/\i<=a.length/\cy w.2/\w.2.length=a.length+b.length/\V w.2=V (a.take i)*V b/\ ∀j,i+b.length<=j->j<a.length+b.length->w.2[j]? = some 0) (m:=fun w:Int×ar=>a.length-w.1.toNat) _ ?_ _ ⟨0,rfl,by omega,cy.Jk _,by simp,by simp[V,Ic],fun j _ h=>by simp[List.getElem?_replicate,h]⟩;rintro⟨ii,row⟩ ⟨i,o,ae,jR,hlen,aZ,h0⟩;simp only at o jR hlen aZ h0 ⊢;subst o;by_cases B4:i=a.length
 ·subst B4;refine .inr ⟨row,by simp[F1],jR,hlen,by simpa using aZ⟩
 have aa:=dx (show i<a.length by omega);have iM:=bA.get aa;obtain⟨r,aj,mF,mG,Z4,PT,BH,kL⟩:=Wf (i:=i) (t26:=a) (t27:=a.length) aN jR iM (by omega) (by omega);have e:U ((i:Int)+(b.length:Int))=((i+b.length:Nat):Int):=by rw[cI (by omega) (by omega)];rfl
 have b5:r.2[i+b.length]? = some 0:=by rw[kL _ (dE _)];exact h0 _ (dE _) (by omega)
 refine .inl ⟨(((i+1:Nat):Int),r.2.set (i+b.length) r.1),?_,⟨i+1,rfl,by omega,Z4.set ⟨mF,mG⟩,by simp;omega,?_,fun j aen abo=> ?_⟩,by simp;omega⟩
 ·unfold F1;rw[dw (by simp;omega),dw (by omega),dz,aa];simp only[dD,dB,gE];rw[aj];simp only[dB,e,dz,dF];rw[dw (by omega),dw (by omega),pX (n:=i) (by omega)]
 ·simp only;rw[sc b5,sT aa];grind
 simp only;rw[List.getElem?_set_ne (by omega),kL _ (by omega)];exact h0 _ (by omega) abo
theorem mul_eq {a b:ar}(bA:cy a)(aN:cy b)(aV:a.length<=1000000)(hm:b.length<=1000000):Dn a b=some (L (V a*V b)):=by
 unfold Dn;simp only[gE];by_cases o:a=[]
 ·subst o;simp[V,pe]
 by_cases J:b=[]
 ·subst J;simp[o,V,pe]
 obtain⟨r,aj,ab,aA,aJ⟩:=G8 bA aN aV hm;have e:U ((a.length:Int)+(b.length:Int))=((a.length+b.length:Nat):Int):=by rw[cI (by omega) (by omega)];rfl
 rw[dA (by simp[o]),dA (by simp[J]),e,dw (by omega),dz,aj];simp only[dD,dB];rw[Au ab (by omega),aJ];rfl
theorem Vb:My=C3:=rfl
theorem Ux:Mb=C3:=rfl
theorem DP {a b:ar}(bA:cy a)(aN:cy b)(aV:a.length<=1000000)(hm:b.length<=1000000):qq a b=some (L (V a*V b)):=by
 unfold qq;simp only[gE];by_cases o:a=[]
 ·subst o;simp[V,pe]
 by_cases J:b=[]
 ·subst J;simp[o,V,pe]
 obtain⟨r,aj,ab,aA,aJ⟩:=G8 bA aN aV hm;have e:U ((a.length:Int)+(b.length:Int))=((a.length+b.length:Nat):Int):=by rw[cI (by omega) (by omega)];rfl
 rw[dA (by simp[o]),dA (by simp[J]),e,dw (by omega),dz,Vb,aj];simp only[dD,dB];rw[yt ab (by omega),aJ];rfl
theorem Ns {a b:ar}(bA:cy a)(aN:cy b)(o:a≠[])(J:b≠[])(aV:a.length<=1000000)(hm:b.length<=1000000):
 ∃k r,xY a b=some (k,r)/\k<=r.length/\r.length=a.length+b.length/\r.take k=L (V a*V b)/\cy r:=by
 obtain⟨r,aj,ab,aA,aJ⟩:=G8 bA aN aV hm;obtain⟨k,aQ,bC,bJ⟩:=Wd ab (by omega);refine⟨k,r,?_,bC,aA,by rw[bJ,aJ],ab⟩;unfold xY;simp only[gE];have e:U ((a.length:Int)+(b.length:Int))=((a.length+b.length:Nat):Int):=by rw[cI (by omega) (by omega)];rfl
 rw[dA (by simp[o]),dA (by simp[J]),e,dw (by omega),dz,Ux,aj];simp only[dD,dB];rw[aQ];rfl
theorem Be {x:Int}(o:0<=x)(J:x<18446744073709551616):IntKind.wrap .u64 x=x:=by
 simp only[IntKind.wrap,IntKind.signed,IntKind.bits];have:((2:Int) ^ 64)=18446744073709551616:=by decide
 simp;omega
theorem ZA {x:Int}(o:-9223372036854775808<=x)(J:x<9223372036854775808):IntKind.wrap .i64 x=x:=cI o J
theorem eZ.snoc {l:ar}{x:Int}(h:cy l)(aa:0<x/\x<1000000000):eZ (l++[x]):=⟨h.append (cy.cons (by omega) cy.nil),fun y aP=>by rw[List.getLast?_append] at aP;simp at aP;omega⟩
theorem NT {N:Int}(fS:N<18446744073709551616){n:Int}{row:ar}(h:0<=n/\cy row/\V row+B row.length*n=N/\(n=0->eZ row)/\((row.length=0/\n<18446744073709551616)\/(row.length=1/\n<20000000000)\/(row.length=2/\n<20)\/(row.length=3/\n=0)))(aV:0<n):
 (fun (n:Int) (row:ar)=>0<=n/\cy row/\V row+B row.length*n=N/\(n=0->eZ row)/\((row.length=0/\n<18446744073709551616)\/(row.length=1/\n<20000000000)\/(row.length=2/\n<20)\/(row.length=3/\n=0))) (n / 1000000000) (row++[n % 1000000000]):=by
 obtain⟨h0,o,J,ab,aA⟩:=h;refine⟨by omega,o.append (cy.cons (by omega) cy.nil),?_,fun aJ=>eZ.snoc o (by omega),?_⟩
 ·rw[yk,dH,List.length_singleton,mw,k4,Ba];have:=Int.mul_ediv_add_emod n 1000000000;generalize n / 1000000000=u at *;generalize n % 1000000000=t at *;grind
 rw[dH,List.length_singleton];omega
theorem DQ {n:Int}(h:0<=n)(aV:n<9223372036854775808):ya n=some (L n):=by
 have : ∃r,iter (fun w:Int×ar=>CS w.1 w.2) (n,[])=some r/\r=L n:=by
  refine j9 (eA:=fun w:Int×ar=>w.1<=n/\0<=w.1/\cy w.2/\V w.2+B w.2.length*w.1=n/\(w.1=0->eZ w.2)/\((w.2.length=0/\w.1<18446744073709551616)\/(w.2.length=1/\w.1<20000000000)\/(w.2.length=2/\w.1<20)\/(w.2.length=3/\w.1=0))) (m:=fun w:Int×ar=>w.1.toNat) _ ?_ _ ⟨Int.le_refl _,h,cy.nil,by simp[V,B],fun _=>eZ.nil,.inl ⟨rfl,by simp only;omega⟩⟩;rintro⟨m,row⟩ ⟨hm,cT⟩;simp only at hm cT;obtain⟨h0,o,J,ab,aA⟩:=id cT;by_cases iS:0<m
  ·have:=NT (by omega) cT iS;refine .inl ⟨(m / 1000000000,row++[m % 1000000000]),?_,⟨by simp only;omega,this⟩,by simp only;omega⟩;unfold CS;rw[dw (by simp;omega),tH (by omega),o8 (by omega),dw (by simp;omega),cI (by omega) (by omega)]
  refine .inr ⟨row,by simp[CS,iS],?_⟩;have nH:m=0:=(by omega);refine vT (ab nH) ?_;rw[nH] at J;simpa using J
 obtain⟨r,aj,rfl⟩:=this;unfold ya ME;rw[aj];rfl
theorem GZ {n:Int}(h:0<=n)(aV:n<18446744073709551616):u6 n=some (L n):=by
 have : ∃r,iter (fun w:Int×ar=>xp w.1 w.2) (n,[])=some r/\r=L n:=by
  refine j9 (eA:=fun w:Int×ar=>w.1<=n/\0<=w.1/\cy w.2/\V w.2+B w.2.length*w.1=n/\(w.1=0->eZ w.2)/\((w.2.length=0/\w.1<18446744073709551616)\/(w.2.length=1/\w.1<20000000000)\/(w.2.length=2/\w.1<20)\/(w.2.length=3/\w.1=0))) (m:=fun w:Int×ar=>w.1.toNat) _ ?_ _ ⟨Int.le_refl _,h,cy.nil,by simp[V,B],fun _=>eZ.nil,.inl ⟨rfl,by simp only;omega⟩⟩;rintro⟨m,row⟩ ⟨hm,cT⟩;simp only at hm cT;obtain⟨h0,o,J,ab,aA⟩:=id cT;by_cases iS:0<m
  ·have:=NT (by omega) cT iS;refine .inl ⟨(m / 1000000000,row++[m % 1000000000]),?_,⟨by simp only;omega,this⟩,by simp only;omega⟩;unfold xp;rw[dw (by simp;omega),tH (by omega),o8 (by omega),ZA (x:=m % 1000000000) (by omega) (by omega),dw (by simp;omega),Be (by omega) (by omega)]
  refine .inr ⟨row,by simp[xp,iS],?_⟩;have nH:m=0:=(by omega);refine vT (ab nH) ?_;rw[nH] at J;simpa using J
 obtain⟨r,aj,rfl⟩:=this;unfold u6 L7;rw[aj];rfl
def oR (x:Int):Bool:=decide (0<=x) && decide (x<1000000000)
theorem HF (l:ar):l.all oR=true↔cy l:=by simp[oR,cy]
theorem G0 {a:ar}(h:a≠[]): ∃x,a[a.length-1]? = some x/\(eZ a↔cy a/\x≠0):=by
 have ah:=afs.mpr h;refine⟨a[a.length-1],dx (by omega),?_⟩;have e:a.getLast? = some a[a.length-1]:=by rw[List.getLast?_eq_getElem?];exact dx (by omega)
 constructor
 ·exact fun h=>⟨h.1,h.2 _ e⟩
 refine fun h=>⟨h.1,fun x aa=> ?_⟩;rw[e] at aa;rw[<- dI aa];exact h.2
theorem P8 {a:ar}(h:a≠[])(hm:(a.length:Int)<9223372036854775807):U ((a.length:Int)-1)=((a.length-1:Nat):Int):=by have ah:=afs.mpr h;rw[cI (by omega) (by omega)];omega
theorem VB (x:Int):GY x 0 999999999=some (oR x):=by
 unfold GY oR;by_cases h:0<=x
 ·simp[h];omega
 simp[h]
theorem Nt {a:ar}(hm:(a.length:Int)<9223372036854775807): ∃ok,yb a=some ok/\(ok=true↔eZ a/\a.length<=60):=by
 have o:iter (fun w:Int=>CT a a.length w) 0=some (if a.all oR then .inl () else .inr ()):=by refine W0 a oR (fun n x aa=> ?_) (by simp[CT]);have:=fN aa;unfold CT;rw[dw (by simp;omega),dw (by omega),dz,aa];simp only[dD,dB,VB];rw[nq (by omega)];cases oR x<;>rfl
 unfold yb MF;simp only[gE];rw[o];by_cases q2:a.all oR=true
 ·have um:=(HF a).1 q2
  simp only[q2,if_true,dD,dB];by_cases zr:a.length<=60
  ·rw[dw (by simp;omega)]
   by_cases h0:a=[]
   ·subst h0;exact⟨true,rfl,by simp[eZ.nil]⟩
   obtain⟨x,aa,aV⟩:=G0 h0;have ah:=afs.mpr h0;rw[dA (by simp[h0]),P8 h0 hm,dw (by omega),dz,aa];refine⟨_,rfl,?_⟩;rw[aV];simp[um,zr]
  rw[dA (by simp;omega)];exact⟨false,rfl,by simp;omega⟩
 have um : ¬cy a:=fun h=>q2 ((HF a).2 h);simp only[Bool.not_eq_true] at q2;refine⟨false,by simp[q2],?_⟩;simp only[afk,false_iff];exact fun h=>um h.1.1
theorem VC (x:Int):Ae x=some (!oR x):=by
 unfold Ae oR;by_cases h:x<0
 ·simp[h]
 rw[dA (by simp[h])];congr 1;rw[Bool.eq_iff_iff];simp;omega
theorem MZ {a:ar}(hm:(a.length:Int)<9223372036854775807):xd a=some (!(a.all oR)):=by
 obtain⟨r,aj,h⟩:=NS (f:=fun w:Int=>w2 a a.length w) a (fun x=> !oR x) (fun n x aa=>by have:=fN aa;unfold w2;rw[dw (by simp;omega),dw (by omega),dz,aa];simp only[dD,dB,VC];rw[nq (by omega)];cases oR x<;>rfl) (by simp[w2]);have e:a.any (fun x=> !oR x) = !(a.all oR):=by rw[List.not_all_eq_any_not]
 rw[e] at h;unfold xd CG KO;simp only[gE];rw[aj];rcases h with ⟨k,rfl,aQ,h⟩|⟨rfl,h⟩
 ·simp only[dD,dB];rw[h];simp[aQ]
 simp only[dD,dB];rw[h];rfl
theorem VD {a:ar}(hm:(a.length:Int)<9223372036854775807): ∃ok,ve a=some ok/\(ok=true↔eZ a/\a.length<=60):=by
 unfold ve;simp only[gE];by_cases zr:60<a.length
 ·rw[dw (by simp;omega)];exact⟨false,rfl,by simp;omega⟩
 rw[dA (by simp;omega)];by_cases h0:a=[]
 ·subst h0;exact⟨true,by simp[MZ],by simp[eZ.nil]⟩
 obtain⟨x,aa,aV⟩:=G0 h0;have ah:=afs.mpr h0;rw[dw (by simp;omega),P8 h0 hm,dw (by omega),dz,aa];simp only[dD,dB];rw[aV];by_cases iM:x=0
 ·exact⟨false,by simp[iM],by simp[iM]⟩
 rw[dA (by simp[iM]),MZ hm];refine⟨_,rfl,?_⟩;rw[<- HF];simp[iM];omega
theorem Nu {a:ar}(hm:(a.length:Int)<9223372036854775807): ∃ok,yb a=some ok/\ve a=some ok/\(ok=true↔eZ a/\a.length<=60):=by obtain⟨bS,o,J⟩:=Nt hm;obtain⟨aY,ab,aA⟩:=VD hm;have:aY=bS:=Bool.eq_iff_iff.mpr (aA.trans J.symm);exact⟨bS,o,this▸ab,J⟩
theorem M0 {a:ar}(bA:eZ a)(zr:a.length<=60)(aZ:V a<9223372036854775808):Dc a=some (V a,true):=by
 obtain⟨ok,o,J⟩:=Nt (a:=a) (by omega);have mE:ok=true:=J.2 ⟨bA,zr⟩;subst mE;have aL:eZ [854775807,223372036,9]:=⟨by intro x aa;simp at aa;omega,by simp⟩;have Jz:V [854775807,223372036,9]=9223372036854775807:=by decide
 unfold Dc;rw[o];simp only[dD,dB,if_true];rw[yC bA aL (by omega),Jz]
 have : ∃r,iter (fun w:Int×Int=>CJ a w.1 w.2) (0,(a.length:Int)-1)=some r/\r=V a:=by
  refine j9 (eA:=fun w:Int×Int=> ∃k:Nat,w.2=(k:Int)-1/\k<=a.length/\w.1=V (a.drop k)) (m:=fun w:Int×Int=>(w.2+1).toNat) _ ?_ _ ⟨a.length,rfl,by omega,by simp[V]⟩;rintro⟨n,i⟩ ⟨k,ab,aQ,aA⟩;simp only at ab aA;subst ab aA
  cases k with
  | zero=>exact .inr ⟨V a,by simp[CJ],rfl⟩
  | succ k =>
   have aa:=dx (show k<a.length by omega);have iM:=bA.1.get aa;have aJ:=oE aa;have bC:=kI (bA.1.drop (k+1));have bJ:V (a.drop k)<=V a:=(by have bp:=vo (l:=a) (n:=k) (by omega);have c2:=kI (bA.1.take k);have cS:=kI (bA.1.drop k);have cz:1*V (a.drop k)<=B k*V (a.drop k):=Int.mul_le_mul_of_nonneg_right (oJ k) cS;omega);refine .inl ⟨(V (a.drop k),(k:Int)-1),?_,⟨k,rfl,by omega,rfl⟩,by simp only;omega⟩;unfold CJ;rw[show ((k+1:Nat):Int)-1=k by omega,dw (by simp),dw (by omega),dz,aa];simp only[dD,dB];rw[qH (by omega),cI (x:=V (a.drop (k+1))*1000000000) (by omega) (by omega),cI (by omega) (by omega),aJ];congr 3;omega
 obtain⟨r,aj,rfl⟩:=this;unfold lq L3;simp only[gE];rw[qH (by omega),aj];have ab : ¬(9223372036854775807:Int)<V a:=by omega
 by_cases aA:V a<9223372036854775807<;>simp[ab,aA]
theorem Xe {a b row:ar}{less x:Int}{i:Nat}(aN:cy b)(aa:a[i]? = some x)(iM:0<=x/\x<1000000000)(aF:less=0\/less=1)(aV:a.length<=1000000)(hm:b.length<=1000000)(aj:row.length<=1000000):
 ∃y,0<=y/\y<1000000000/\(∀z,b[i]? = some z->y=z)/\(b[i]? = none->y=0) /\
 zU a b a.length less i row=some (.inl (if x-less-y<0 then (1,((i+1:Nat):Int),row++[x-less-y+1000000000]) else (0,((i+1:Nat):Int),row++[x-less-y]))):=by
 have ae:=fN aa;unfold zU;rw[dw (by simp;omega),dw (by omega),dz,aa];simp only[dD,dB,gE];by_cases abp:i<b.length
 ·have aP:=dx abp
  have om:=aN.get aP;refine⟨b[i],om.1,om.2,fun z b5=>by rw[aP] at b5;exact dI b5,fun h=>by rw[aP] at h;simp at h,?_⟩;rw[dw (by simp;omega),dw (by omega),aP];simp only[dB];rw[cI (x:=x-less) (by omega) (by omega),cI (x:=x-less-b[i]) (by omega) (by omega),pX (n:=i) (by omega),cI (x:=x-less-b[i]+1000000000) (by omega) (by omega)];by_cases h:x-less-b[i]<0
  ·rw[dw (by simp[h]),dw (by simp;omega)];simp[h]
  rw[dA (by simp[h]),dw (by simp;omega)];simp[h]
 have aP:b[i]? = none:=by simp;omega
 refine⟨0,by omega,by omega,fun z b5=>by rw[aP] at b5;simp at b5,fun _=>rfl,?_⟩;rw[dA (by simp;omega),cI (x:=x-less) (by omega) (by omega),pX (n:=i) (by omega),cI (x:=x-less+1000000000) (by omega) (by omega),Int.sub_zero];by_cases h:x-less<0
 ·rw[dw (by simp[h]),dw (by simp;omega)];simp[h]
 rw[dA (by simp[h]),dw (by simp;omega)];simp[h]
theorem Oi {b:ar}{i:Nat}{y:Int}(o:∀z,b[i]? = some z->y=z)(J:b[i]? = none->y=0):V (b.take (i+1))=V (b.take i)+B i*y:=by
 cases h:b[i]? with
 | some z=>rw[o z h,sT h]
 | none =>
  rw[J h];have:b.length<=i:=(by simpa using h);rw[dT (by omega),dT (by omega)];simp
theorem sub_eq {a b:ar}(bA:cy a)(aN:cy b)(hlen:b.length<=a.length)(rE:V b<=V a)(aV:a.length<=1000000):GN a b=some (L (V a-V b)):=by
 have : ∃r,iter (fun w:Int×Int×ar=>zU a b a.length w.1 w.2.1 w.2.2) (0,0,[])=some r/\cy r/\r.length=a.length/\V r=V a-V b:=by
  refine j9 (eA:=fun w:Int×Int×ar=> ∃i:Nat,w.2.1=i/\i<=a.length/\(w.1=0\/w.1=1)/\cy w.2.2/\w.2.2.length=i/\V w.2.2-w.1*B i=V (a.take i)-V (b.take i)) (m:=fun w:Int×Int×ar=>a.length-w.2.1.toNat) _ ?_ _ ⟨0,rfl,by omega,.inl rfl,cy.nil,rfl,by simp[V]⟩;rintro⟨less,ii,row⟩ ⟨i,o,ae,aF,jR,wB,aZ⟩;simp only at o aF jR wB aZ ⊢;subst o;by_cases B4:i=a.length
  ·refine .inr ⟨row,by simp[zU,B4],jR,by omega,?_⟩;rw[B4] at aZ;rw[List.take_length,dT hlen] at aZ;have J:=mz jR;rw[wB,B4] at J;rcases aF with rfl|rfl<;>omega
  have aa:=dx (show i<a.length by omega);have iM:=bA.get aa;obtain⟨y,B5,aeo,abq,abr,he⟩:=Xe (row:=row) aN aa iM aF aV (by omega) (by omega);rw[he];refine .inl ⟨_,rfl,?_⟩;have ab:=sT aa;have aA:=Oi abq abr;by_cases h:a[i]-less-y<0
  ·rw[dw h];refine⟨⟨i+1,rfl,by omega,.inr rfl,jR.append (cy.cons (by omega) cy.nil),by simp[wB],?_⟩,by simp only;omega⟩;simp only;rw[ab,aA,yk,wB,mw,k4,Ba];grind
  rw[dA h];refine⟨⟨i+1,rfl,by omega,.inl rfl,jR.append (cy.cons (by omega) cy.nil),by simp[wB],?_⟩,by simp only;omega⟩;simp only;rw[ab,aA,yk,wB,k4,Ba];grind
 obtain⟨r,aj,o,J,ab⟩:=this;unfold GN Ms;simp only[gE];rw[aj];simp only[dD,dB];rw[Au o (by omega),ab];rfl
theorem r2 {l:ar}(h:cy l){k:Nat}(aQ:k<=l.length):B k*V (l.drop k)<=V l/\V l<B k*(V (l.drop k)+1):=by have o:=vo aQ;have J:=kI (h.take k);have ab:=mz (h.take k);rw[List.length_take,Nat.min_eq_left aQ] at ab;rw[Int.mul_add,Int.mul_one];omega
theorem AB {l:ar}{k:Nat}{x:Int}(aa:l[k]? = some x)(aF:l.length=k+1):V (l.drop k)=x:=by rw[oE aa,List.drop_of_length_le (by omega)];simp[V]
theorem ML {aH W t d P:Int}(f6:1<=P)(E2:P*t<=aH)(JA:aH<P*(t+1))(uz:P*d<=W)(E3:W<P*(d+1))(bz:0<d)(ch:0<=t)(JB:aH<1000000000*W):t / (d+1)<=aH / W/\aH / W<=t / d/\aH / W<=999999999:=by
 have hW:0<W:=by have:=Int.mul_pos (a:=P) (b:=d) (by omega) bz;omega
 have cv:0<=aH:=by have:=Int.mul_nonneg (a:=P) (b:=t) (by omega) ch;omega
 refine⟨?_,?_,?_⟩
 ·apply (Int.le_ediv_iff_mul_le hW).2;have o:t / (d+1)*(d+1)<=t:=Int.ediv_mul_le _ (by omega);have J:0<=t / (d+1):=Int.ediv_nonneg ch (by omega);have ab:t / (d+1)*W<=t / (d+1)*(P*(d+1)):=dL (by omega) J;have aA:P*(t / (d+1)*(d+1))<=P*t:=dL o (by omega);have aJ:t / (d+1)*(P*(d+1))=P*(t / (d+1)*(d+1)):=(by grind);omega
 ·apply (Int.le_ediv_iff_mul_le bz).2;have o:aH / W*W<=aH:=Int.ediv_mul_le _ (by omega);have J:0<=aH / W:=Int.ediv_nonneg cv (by omega);have ab:aH / W*(P*d)<=aH / W*W:=dL uz J;have aA:aH / W*(P*d)=P*(aH / W*d):=(by grind);have aJ:P*(aH / W*d)<P*(t+1):=(by omega);have:=Int.lt_of_mul_lt_mul_left aJ (by omega);omega
 have:=Int.ediv_lt_of_lt_mul hW JB;omega
theorem OX {a b:Int}:lq a b<=0↔a<=b:=by
 unfold lq;by_cases h:a<b
 ·simp[h];omega
 by_cases J:b<a
 ·simp[h,J]
 simp[h,J];omega
theorem yu {a b:Int}:lq a b<0↔a<b:=by
 unfold lq;by_cases h:a<b
 ·simp[h]
 by_cases J:b<a
 ·simp[h,J]
 simp[h,J]
theorem Xf {a b:Int}:0<lq a b↔b<a:=by
 unfold lq;by_cases h:a<b
 ·simp[h];omega
 by_cases J:b<a
 ·simp[h,J]
 simp[h,J]
theorem G9 {a b:Int}:lq a b=0↔a=b:=by
 unfold lq;by_cases h:a<b
 ·simp[h];omega
 by_cases J:b<a
 ·simp[h,J];omega
 simp[h,J];omega
theorem Nv {r b:ar}(aj:eZ r)(aN:eZ b)(kT:b≠[])(aV:r.length<=1000000)(hm:b.length<=1000000){bw ae:Int}(h0:0<=bw)(o:bw<=V r / V b)(J:V r / V b<=ae)(ab:ae<=999999999):F8 r b bw ae=some (V r / V b):=by
 have l2:=rp aN kT
 have : ∃q,iter (fun w:Int×Int=>zM r b w.1 w.2) (bw,ae)=some q/\q=V r / V b:=by
  refine j9 (eA:=fun w:Int×Int=>0<=w.1/\w.1<=V r / V b/\V r / V b<=w.2/\w.2<=999999999) (m:=fun w:Int×Int=>(w.2-w.1).toNat) _ ?_ _ ⟨h0,o,J,ab⟩;rintro⟨l,h⟩ ⟨g0,g1,g2,g3⟩;simp only at g0 g1 g2 g3;by_cases dq:l<h;rotate_left
  ·exact .inr ⟨l,by simp[zM,dq],by omega⟩
  have ao:U ((U ((U (l+h))+(1:Int))).tdiv (2:Int))=(l+h+1) / 2:=(by rw[cI (x:=l+h) (by omega) (by omega),cI (x:=l+h+1) (by omega) (by omega),o8 (by omega),cI (by omega) (by omega)]);have nH:0<=(l+h+1) / 2:=(by omega);have qW:(l+h+1) / 2<1000000000:=(by omega);have QR:(L ((l+h+1) / 2)).length<=1:=(im nH).2 (by simpa [B] using qW)
  have aB:zM r b l h=some (.inl (if V b*((l+h+1) / 2)<=V r then ((l+h+1) / 2,h) else (l,(l+h+1) / 2-1))):=by
   unfold zM;rw[dw (by simp[dq]),ao,DQ nH (by omega)];simp only[dD,dB];rw[mul_eq aN.1 (kx _) hm (by omega),fA nH];simp only[dB];have ah:0<=V b*((l+h+1) / 2):=Int.mul_nonneg (by omega) nH;have hlen:(L (V b*((l+h+1) / 2))).length<=b.length+1:=(im ah).2 (by rw[mw];have aJ:=mz aN.1;have:V b*((l+h+1) / 2)<=V b*1000000000:=dL (by omega) (by omega);omega);rw[yC (jr _) aj (by omega),fA ah];simp only[dB];by_cases aL:V b*((l+h+1) / 2)<=V r
   ·rw[dw (by simpa using OX.2 aL),dw aL]
   rw[dA (fun h=>aL (OX.1 (by simpa using h))),dA aL,cI (by omega) (by omega)]
  rw[aB];refine .inl ⟨_,rfl,?_⟩;by_cases aL:V b*((l+h+1) / 2)<=V r
  ·rw[dw aL];have:(l+h+1) / 2<=V r / V b:=(Int.le_ediv_iff_mul_le l2).2 (by rw[Int.mul_comm];exact aL);exact⟨⟨by simp only;omega,this,g2,g3⟩,by simp only;omega⟩
  rw[dA aL];have:V r / V b<(l+h+1) / 2:=(Int.ediv_lt_iff_lt_mul l2).2 (by rw[Int.mul_comm];omega);exact⟨⟨g0,g1,by simp only;omega,by simp only;omega⟩,by simp only;omega⟩
 obtain⟨q,a2,rfl⟩:=this;exact a2
theorem Ee {b:ar}(aN:eZ b)(kT:b≠[]): ∃k d,b.length=k+1/\b[k]? = some d/\0<d/\d<1000000000/\V (b.drop k)=d:=by have ah:=afs.mpr kT;obtain⟨x,aa,h⟩:=G0 kT;have o:=h.1 aN;have J:=o.1.get aa;exact⟨b.length-1,x,by omega,aa,by omega,J.2,AB aa (by omega)⟩
theorem Xg {r b:ar}(aj:eZ r)(aN:eZ b)(kT:b≠[])(aV:r.length<=1000000)(hm:b.length<=1000000)(o:V b<=V r)(J:V r<1000000000*V b):Gw r b=some (V r / V b):=by
 obtain⟨k,d,aQ,bz,qO,qX,uA⟩:=Ee aN kT;have EI:b.length<=r.length:=Nat.le_of_not_lt fun h=>by have:=DY aj aN h;omega
 have QK:r.length<=b.length+1:=aj.len.2 (by have:=mz aN.1;rw[mw];omega);have rA:=r2 aN.1 (k:=k) (by omega);rw[uA] at rA;have iD:=r2 aj.1 (k:=k) (by omega);have aa:=dx (show k<r.length by omega);have iM:=aj.1.get aa;have hw:U ((b.length:Int)-1)=(k:Int):=by rw[cI (by omega) (by omega)];omega
 have ml:=kI (aj.1.drop k);have E4:=ML (oJ k) iD.1 iD.2 rA.1 rA.2 qO ml J;have aep:=kI aj.1;have hW:=rp aN kT;unfold Gw;simp only[gE,hw];rw[dw (by omega),dz,aa];simp only[dD,dB];by_cases hlen:b.length<r.length
 ·have aP:=dx hlen;have om:=aj.1.get aP;have nJ:V (r.drop (k+1))=r[b.length]:=(by rw[<- aQ];exact AB aP (by omega));have ch:V (r.drop k)=r[k]+1000000000*r[b.length]:=(by rw[oE aa,nJ]);rw[ch] at E4 ml;have oc:0<=(r[k]+1000000000*r[b.length]) / (d+1):=Int.ediv_nonneg ml (by omega);have ru:(r[k]+1000000000*r[b.length]) / (d+1)<=r[k]+1000000000*r[b.length]:=Int.ediv_le_self _ ml;have yX:0<=(r[k]+1000000000*r[b.length]) / d:=Int.ediv_nonneg ml (by omega);have abt:(r[k]+1000000000*r[b.length]) / d<=r[k]+1000000000*r[b.length]:=Int.ediv_le_self _ ml;rw[dw (by simp;omega),dw (by omega),dz,aP];simp only[dB];rw[dw (by omega),bz];simp only[dB];have ao:U (d+1)=d+1:=cI (by omega) (by omega);have aB:U (r[k]+U (r[b.length]*1000000000))=r[k]+1000000000*r[b.length]:=(by rw[cI (x:=r[b.length]*1000000000) (by omega) (by omega),cI (by omega) (by omega),Int.mul_comm]);rw[ao,dw (by omega),dw (by omega),aB,o8 ml,o8 ml,cI (by omega) (by omega),cI (x:=(r[k]+1000000000*r[b.length]) / d) (by omega) (by omega)];rw[Nv aj aN kT aV hm oc E4.1 (by split<;>omega) (by split<;>omega)];rfl
 have ch:V (r.drop k)=r[k]:=AB aa (by omega);rw[ch] at E4 ml;have oc:0<=r[k] / (d+1):=Int.ediv_nonneg ml (by omega);have ru:r[k] / (d+1)<=r[k]:=Int.ediv_le_self _ ml;have yX:0<=r[k] / d:=Int.ediv_nonneg ml (by omega);have abt:r[k] / d<=r[k]:=Int.ediv_le_self _ ml;rw[dA (by simp;omega),dw (by omega),bz];simp only[dB];have ao:U (d+1)=d+1:=cI (by omega) (by omega);rw[ao,dw (by omega),dw (by omega),o8 ml,o8 ml,cI (by omega) (by omega),cI (x:=r[k] / d) (by omega) (by omega)];rw[Nv aj aN kT aV hm oc E4.1 (by split<;>omega) (by split<;>omega)];rfl
theorem Xh {a b:ar}(bA:eZ a)(aN:eZ b)(kT:b≠[])(aV:a.length<=900000)(hm:b.length<=900000):
 ∃r,Mu a b [] ((a.length:Int)-1) (List.replicate a.length 0)=some r/\r.1=L (V a % V b)/\cy r.2/\r.2.length=a.length/\V r.2=V a / V b:=by
 have l2:=rp aN kT;refine j9 (eA:=fun w:ar×Int×ar=> ∃(k:Nat) (q:ar),w.2.1=(k:Int)-1/\k<=a.length/\w.2.2=List.replicate k 0++q/\q.length+k=a.length/\cy q/\eZ w.1/\V w.1<V b/\V (a.drop k)=V q*V b+V w.1) (m:=fun w:ar×Int×ar=>(w.2.1+1).toNat) _ ?_ _ ⟨a.length,[],rfl,by omega,by simp,by simp,cy.nil,eZ.nil,by simpa [V] using l2,by simp[V]⟩;rintro⟨rest,i,row⟩ ⟨k,q,o,aQ,J,a2,tx,kS,iD,aZ⟩;simp only at o J kS iD aZ ⊢;subst o J;have B6:=kI kS.1
 cases k with
 | zero =>
  simp at aZ;refine .inr ⟨(rest,q),by simp[CP],?_,tx,by simpa using a2,?_⟩
  ·refine vT kS ?_;rw[aZ,Int.add_comm,Int.add_mul_emod_self_right];exact(Int.emod_eq_of_lt B6 iD).symm
  rw[aZ,Int.add_comm,Int.add_mul_ediv_right _ _ (by omega),Int.ediv_eq_zero_of_lt B6 iD];simp
 | succ k =>
  have aa:=dx (show k<a.length by omega);have iM:=bA.1.get aa;have wB:rest.length<=b.length:=kS.len.2 (by have:=mz aN.1;omega);have hy:cy (a[k]::rest):=cy.cons iM kS.1;have Jz:V (a[k]::rest)=a[k]+1000000000*V rest:=k4 _ _;have nQ:0<=a[k]+1000000000*V rest:=(by omega);have aeq:(L (a[k]+1000000000*V rest)).length<=b.length+1:=(im nQ).2 (by have:=mz aN.1;rw[mw];omega);have bz:=oE aa
  have Ij:CP a b rest (k:Int) (List.replicate (k+1) 0++q)=some (.inl (if a[k]+1000000000*V rest<V b then (L (a[k]+1000000000*V rest),(k:Int)-1,List.replicate (k+1) 0++q) else (L ((a[k]+1000000000*V rest) % V b),(k:Int)-1,(List.replicate (k+1) 0++q).set k ((a[k]+1000000000*V rest) / V b)))):=by
   unfold CP;rw[dw (by simp),dw (by omega),dz,aa];simp only[dD,dB,List.singleton_append];rw[dw (by simp;omega),Au hy (by simp;omega),Jz];simp only[dB];rw[yC (jr _) aN (by omega),fA nQ];simp only[dB];by_cases aL:a[k]+1000000000*V rest<V b
   ·rw[dw (by simpa using yu.2 aL),dw aL,qH (by omega)]
   rw[dA (fun h=>aL (yu.1 (by simpa using h))),dA aL];have dq:a[k]+1000000000*V rest<1000000000*V b:=(by omega);rw[Xg (jr _) aN kT (by omega) (by omega) (by rw[fA nQ];omega) (by rw[fA nQ];exact dq),fA nQ];simp only[dB];have oc:0<=(a[k]+1000000000*V rest) / V b:=Int.ediv_nonneg nQ (by omega);have ru:(a[k]+1000000000*V rest) / V b<1000000000:=Int.ediv_lt_of_lt_mul l2 dq;have aer:(L ((a[k]+1000000000*V rest) / V b)).length<=1:=(im oc).2 (by simpa [B] using ru);have qW:=Int.mul_ediv_add_emod (a[k]+1000000000*V rest) (V b);have B7:=Int.emod_nonneg (a[k]+1000000000*V rest) (b:=V b) (by omega);have B8:0<=V b*((a[k]+1000000000*V rest) / V b):=Int.mul_nonneg (by omega) oc;rw[dw (by simp;omega),dw (by simp;omega),DQ oc (by omega)];simp only[dB];rw[mul_eq aN.1 (kx _) (by omega) (by omega),fA oc];simp only[dB];rw[sub_eq (kx _) (kx _) ((im B8).2 (by have:=mz (kx (a[k]+1000000000*V rest));rw[fA nQ] at this;omega)) (by rw[fA nQ,fA B8];omega) (by omega),fA nQ,fA B8];simp only[dB];rw[qH (by omega),dF];congr 4;omega
  rw[show ((k+1:Nat):Int)-1=k by omega,Ij];refine .inl ⟨_,rfl,?_⟩;by_cases aL:a[k]+1000000000*V rest<V b
  ·rw[dw aL]
   refine⟨⟨k,0::q,rfl,by omega,?_,by simp;omega,cy.cons (by omega) tx,jr _,by rw[fA nQ];exact aL,?_⟩,by simp⟩
   ·simp only;rw[List.replicate_succ',List.append_assoc];rfl
   simp only;rw[bz,aZ,k4,fA nQ];grind
  rw[dA aL];have dq:a[k]+1000000000*V rest<1000000000*V b:=(by omega);have B7:=Int.emod_nonneg (a[k]+1000000000*V rest) (b:=V b) (by omega);refine⟨⟨k,(a[k]+1000000000*V rest) / V b::q,rfl,by omega,HE _ _ _,by simp;omega,cy.cons ⟨Int.ediv_nonneg nQ (by omega),Int.ediv_lt_of_lt_mul l2 dq⟩ tx,jr _,by rw[fA B7];exact Int.emod_lt_of_pos _ l2,?_⟩,by simp⟩;simp only;rw[bz,aZ,k4,fA B7];have qW:=Int.mul_ediv_add_emod (a[k]+1000000000*V rest) (V b);generalize (a[k]+1000000000*V rest) / V b=u at *;generalize (a[k]+1000000000*V rest) % V b=t at *;grind
theorem div_eq {a b:ar}(bA:eZ a)(aN:eZ b)(kT:b≠[])(aV:a.length<=900000)(hm:b.length<=900000):Dp a b=some (L (V a / V b),L (V a % V b)):=by
 unfold Dp;simp only[gE];by_cases o:b.length=1
 ·obtain⟨k,d,aQ,bz,qO,qX,uA⟩:=Ee aN kT;have tl:k=0:=(by omega);subst tl;have JC:V b=d:=(by simpa using uA);rw[dw (by simp[o]),dw (by omega),bz];simp only[dD,dB];have qW:=Int.emod_nonneg (V a) (b:=d) (by omega);have B7:=Int.emod_lt_of_pos (V a) qO;rw[Xd bA.1 ⟨qO,qX⟩ (by omega)];simp only[dB];rw[DQ qW (by omega),JC];rfl
 obtain⟨r,aj,ao,aB,bT,di⟩:=Xh bA aN kT aV hm;rw[dA (by simp;omega),dw (by omega),qH (by omega),dz,aj];simp only[dD,dB];rw[Au aB (by omega),di,ao];rfl
theorem Hp {x y:Int}(aa:0<=x):Int.gcd y (x % y)=Int.gcd x y:=by have:=Nat.gcd_rec y.natAbs x.natAbs;simp only[Int.gcd];rw[Nat.gcd_comm x.natAbs,this,Int.natAbs_emod_of_nonneg aa,Nat.gcd_comm]
theorem D2 {x:Int}(aa:0<=x):(Int.gcd x 0:Int)=x:=by rw[Int.gcd_zero_right];omega
theorem Xi {x y:Int}(aa:0<=x)(aP:0<=y)(B9:x<9223372036854775808)(B5:y<9223372036854775808):Gu x y=some (L (Int.gcd x y)):=by
 have : ∃r,iter (fun w:Int×Int=>CK w.1 w.2) (x,y)=some r/\(r=(Int.gcd x y:Int)/\r<9223372036854775808):=by
  refine j9 (eA:=fun w:Int×Int=>0<=w.1/\0<=w.2/\w.1<9223372036854775808/\w.2<9223372036854775808/\Int.gcd w.1 w.2=Int.gcd x y) (m:=fun w:Int×Int=>w.2.toNat) _ ?_ _ ⟨aa,aP,B9,B5,rfl⟩;rintro⟨u,v⟩ ⟨o,J,ab,aA,aJ⟩;simp only at o J ab aA aJ;by_cases aZ:0<v
  ·have bC:=Int.emod_nonneg u (b:=v) (by omega);have bJ:=Int.emod_lt_of_pos u aZ;refine .inl ⟨(v,u % v),?_,⟨J,bC,aA,by simp only;omega,by rw[<- aJ];exact Hp o⟩,by simp only;omega⟩;unfold CK;rw[dw (by simpa using aZ),dw (by omega),tH o]
  have Ra:v=0:=(by omega);subst Ra;refine .inr ⟨u,by simp[CK],?_,ab⟩;rw[<- aJ,D2 o]
 obtain⟨r,aj,rfl,h⟩:=this;unfold Gu L4;rw[aj];simp only[dD,dB];rw[DQ (by omega) h];rfl
theorem Ef {a:ar}(bA:eZ a)(h:a.length<3):V a<9223372036854775808:=by
 have o:=mz bA.1;have J:=tZ (m:=a.length) (n:=2) (by omega);have ab:B 2=1000000000000000000:=by decide
 omega
theorem YL {a b:ar}(bA:eZ a)(aN:eZ b)(aV:a.length<=900000)(hm:b.length<=900000):GO a b=some (L (Int.gcd (V a) (V b))):=by
 have : ∃r,iter (fun w:ar×ar=>zV w.1 w.2) (a,b)=some r/\r.elim id id=L (Int.gcd (V a) (V b)):=by
  refine j9 (eA:=fun w:ar×ar=>eZ w.1/\eZ w.2/\w.1.length<=900000/\w.2.length<=900000/\Int.gcd (V w.1) (V w.2)=Int.gcd (V a) (V b)) (m:=fun w:ar×ar=>(V w.2).toNat) _ ?_ _ ⟨bA,aN,aV,hm,rfl⟩;rintro⟨x,y⟩ ⟨o,J,ab,aA,aJ⟩;simp only at o J ab aA aJ ⊢;have iM:=kI o.1;have om:=kI J.1;by_cases aP:y=[]
  ·subst aP;refine .inr ⟨.inl x,by simp[zV,gE],?_⟩;rw[<- aJ,Ba,D2 iM];exact(tn o).symm
  have JD:=rp J aP;have abu:=afs.mpr aP;by_cases bO:x.length<3/\y.length<3
  ·refine .inr ⟨.inr (L (Int.gcd (V a) (V b))),?_,rfl⟩;unfold zV;simp only[gE];rw[dw (by simp;omega),dw (by simp;omega),dw (by simp;omega),M0 o (by omega) (Ef o bO.1)];simp only[dD,dB];rw[M0 J (by omega) (Ef J bO.2)];simp only[dB];rw[Xi iM om (Ef o bO.1) (Ef J bO.2),aJ];rfl
  have wC:=Int.emod_nonneg (V x) (b:=V y) (by omega);have abv:=Int.emod_lt_of_pos (V x) JD;refine .inl ⟨(y,L (V x % V y)),?_,⟨J,jr _,aA,(im wC).2 ?_,?_⟩,?_⟩
  ·unfold zV
   simp only[gE];rw[dw (by simp;omega),div_eq o J aP ab aA];by_cases Ca:x.length<3
   ·rw[dw (by simp;omega),dA (by simp;omega)];rfl
   rw[dA (by simp;omega)];rfl
  ·have:=mz J.1;have:=tZ aA;omega
  ·simp only;rw[fA wC,<- aJ];exact Hp iM
  simp only;rw[fA wC];omega
 obtain⟨r,aj,h⟩:=this;unfold GO Mv;rw[List.nil_append,List.nil_append,dw (by omega),dw (by omega),aj]
 cases r with
 | inl r=>exact congrArg some h
 | inr r=>exact congrArg some h
def oS (p:Nat)(l:ar):Prop:= ∀i z,i≠p->l[i]? = some z->0<=z/\z<1000000000
theorem oS.set {p:Nat}{l:ar}(h:oS p l){k:Nat}{x:Int}(aa:0<=x/\x<1000000000):oS p (l.set k x):=fun i z ae b5=>by
 by_cases aQ:k=i
 ·subst aQ
  rw[aff] at b5;simp only[if_true] at b5;split at b5
  ·rw[<- dI b5];exact aa
  simp at b5
 rw[List.getElem?_set_ne aQ] at b5;exact h i z ae b5
theorem oS.Qy {p:Nat}{l:ar}(h:oS p l){x:Int}:oS p (l.set p x):=fun i z ae b5=>by rw[List.getElem?_set_ne (fun h=>ae h.symm)] at b5;exact h i z ae b5
theorem cy.toE {l:ar}(h:cy l)(p:Nat):oS p l:=fun _ _ _ b5=>h.get b5
theorem Wg {v row:ar}{bw mA i:Nat}{iO carry x y:Int}(aa:v[i]? = some x)(aP:row[bw+i]? = some y)(iM:0<=x/\x<1000000000)(om:0<=y/\y<1000000000)(aN:0<=iO/\iO<1000000000)(aL:0<=carry/\carry<1000000000)(hu:i<mA)(aV:row.length<=5000000):
 ∃c z,uW bw mA v iO v.length carry i row=some (.inl (c,((i+1:Nat):Int),row.set (bw+i) z))/\0<=c/\c<1000000000/\0<=z/\z<1000000000/\z-1000000000*c=y-iO*x-carry:=by
 have ae:=fN aa;have av:=fN aP;obtain⟨hZ,gr⟩:=A1 aN iM;have e:U (U (y-U (iO*x))-carry)=y-iO*x-carry:=by rw[cI (x:=iO*x) (by omega) (by omega),cI (x:=y-iO*x) (by omega) (by omega),cI (by omega) (by omega)]
 by_cases ch:y-iO*x-carry<0
 ·refine⟨(999999999-(y-iO*x-carry)) / 1000000000,y-iO*x-carry+(999999999-(y-iO*x-carry)) / 1000000000*1000000000,?_,by omega,by omega,by omega,by omega,by omega⟩;unfold uW;rw[dw (by simp;omega),dw (by omega),dz,aa];simp only[dD,dB];rw[dw (by omega),aP];simp only[dB,e];rw[dw (by simpa using ch),dw (by omega),pX (n:=i) (by omega),cI (x:=999999999-(y-iO*x-carry)) (by omega) (by omega),o8 (by omega),cI (x:=(999999999-(y-iO*x-carry)) / 1000000000) (by omega) (by omega),cI (x:=(999999999-(y-iO*x-carry)) / 1000000000*1000000000) (by omega) (by omega),cI (by omega) (by omega)]
 refine⟨0,y-iO*x-carry,?_,by omega,by omega,by omega,by omega,by omega⟩;unfold uW;rw[dw (by simp;omega),dw (by omega),dz,aa];simp only[dD,dB];rw[dw (by omega),aP];simp only[dB,e];rw[dA (by simpa using ch),dw (by omega),pX (n:=i) (by omega)]
theorem Wh {v row:ar}{bw mA:Nat}{iO:Int}(aZ:cy v)(aj:cy row)(aN:0<=iO/\iO<1000000000)(hu:v.length<mA)(aF:bw+v.length<row.length)(aV:row.length<=5000000):
 ∃r,Mk bw mA v iO v.length 0 0 row=some r/\0<=r.1/\r.1<1000000000/\cy r.2/\r.2.length=row.length/\V r.2=V row-iO*B bw*V v+r.1*B (bw+v.length)/\ ∀i,i<bw\/bw+v.length<=i->r.2[i]? = row[i]? := by
 refine j9 (eA:=fun w:Int×Int×ar=> ∃(i:Nat),w.2.1=(i:Int)/\i<=v.length/\0<=w.1/\w.1<1000000000/\cy w.2.2/\w.2.2.length=row.length/\V w.2.2=V row-iO*B bw*V (v.take i)+w.1*B (bw+i)/\ ∀i,i<bw\/bw+v.length<=i->w.2.2[i]? = row[i]?) (m:=fun w:Int×Int×ar=>v.length-w.2.1.toNat) _ ?_ _ ⟨0,rfl,by omega,by simp,by simp,aj,rfl,by simp[V],fun _ _=>rfl⟩;rintro⟨carry,ii,cc⟩ ⟨i,o,ae,mF,mG,jR,hlen,hV,kL⟩;simp only at o mF mG jR hlen hV kL ⊢;subst o;by_cases yZ:i=v.length
 ·subst yZ;exact .inr ⟨(carry,cc),by simp[uW],mF,mG,jR,hlen,by simpa using hV,kL⟩
 have aa:=dx (show i<v.length by omega);have aP:=dx (show bw+i<cc.length by omega);obtain⟨c,z,he,cj,bB,jm,o9,b5⟩:=Wg (mA:=mA) aa aP (aZ.get aa) (jR.get aP) aN ⟨mF,mG⟩ (by omega) (by omega);rw[he];refine .inl ⟨_,rfl,⟨i+1,rfl,by omega,cj,bB,jR.set ⟨jm,o9⟩,by simpa using hlen,?_,fun k aQ=> ?_⟩,by simp;omega⟩
 ·simp only;rw[sc aP,sT aa,hV,<- Nat.add_assoc,mw,A9];have wc:z=cc[bw+i]-iO*v[i]-carry+1000000000*c:=(by omega);rw[wc];grind
 simp only;rw[List.getElem?_set_ne (by omega)];exact kL k aQ
theorem YM {v row:ar}{bw mA:Nat}{iO:Int}(aZ:cy v)(aj:cy row)(aN:0<=iO/\iO<1000000000)(hu:v.length<mA)(aF:bw+v.length<row.length)(aV:row.length<=5000000):
 ∃y dU,Aj v iO bw mA row=some (decide (y<0),dU)/\dU.length=row.length/\oS (bw+v.length) dU/\dU[bw+v.length]? = some y/\ -1000000000<y/\y<1000000000/\V dU=V row-iO*B bw*V v/\ ∀i,i<bw\/bw+v.length<i->dU[i]? = row[i]? := by
 obtain⟨r,iD,cj,bB,jR,hlen,hV,kL⟩:=Wh aZ aj aN hu aF aV;have aa:=dx (show bw+v.length<r.2.length by omega);have iM:=jR.get aa;refine⟨r.2[bw+v.length]-r.1,r.2.set (bw+v.length) (r.2[bw+v.length]-r.1),?_,by simpa using hlen,(cy.toE jR _).Qy,?_,by omega,by omega,?_,fun i ae=> ?_⟩
 ·unfold Aj;simp only[gE];rw[iD];simp only[dD,dB,dz];rw[dw (by omega),aa];simp only[dB];rw[dw (by omega),cI (by omega) (by omega),aff,dw rfl,dw (by omega)];rfl
 ·rw[aff,dw rfl,dw (by omega)]
 ·rw[sc aa,hV];grind
 rw[List.getElem?_set_ne (by omega)];exact kL i (by omega)
theorem Wi {v row:ar}{bw mA:Nat}(aZ:cy v)(aj:oS (bw+v.length) row)(hu:v.length<mA)(aF:bw+v.length<row.length)(aV:row.length<=5000000):
 ∃r,Ml bw mA v v.length 0 0 row=some r/\0<=r.1/\r.1<=1/\oS (bw+v.length) r.2/\r.2.length=row.length/\V r.2=V row+B bw*V v-r.1*B (bw+v.length)/\ ∀i,i<bw\/bw+v.length<=i->r.2[i]? = row[i]? := by
 refine j9 (eA:=fun w:Int×Int×ar=> ∃(i:Nat),w.2.1=(i:Int)/\i<=v.length/\0<=w.1/\w.1<=1/\oS (bw+v.length) w.2.2/\w.2.2.length=row.length/\V w.2.2=V row+B bw*V (v.take i)-w.1*B (bw+i)/\ ∀i,i<bw\/bw+v.length<=i->w.2.2[i]? = row[i]?) (m:=fun w:Int×Int×ar=>v.length-w.2.1.toNat) _ ?_ _ ⟨0,rfl,by omega,by simp,by simp,aj,rfl,by simp[V],fun _ _=>rfl⟩;rintro⟨carry,ii,cc⟩ ⟨i,o,ae,mF,mG,jR,hlen,hV,kL⟩;simp only at o mF mG jR hlen hV kL ⊢;subst o;by_cases yZ:i=v.length
 ·subst yZ;exact .inr ⟨(carry,cc),by simp[xE],mF,mG,jR,hlen,by simpa using hV,kL⟩
 have aa:=dx (show i<v.length by omega);have aP:=dx (show bw+i<cc.length by omega);have iM:=aZ.get aa;have om:=jR _ _ (by omega) aP;have he:xE bw mA v v.length carry i cc=some (.inl ((cc[bw+i]+v[i]+carry) / 1000000000,((i+1:Nat):Int),cc.set (bw+i) ((cc[bw+i]+v[i]+carry) % 1000000000))):=by unfold xE;rw[dw (by simp;omega),dw (by omega),dz,aa];simp only[dD,dB];rw[dw (by omega),aP];simp only[dB];rw[dw (by omega),cI (x:=cc[bw+i]+v[i]) (by omega) (by omega),cI (x:=cc[bw+i]+v[i]+carry) (by omega) (by omega),tH (by omega),o8 (by omega),cI (by omega) (by omega),pX (n:=i) (by omega)]
 rw[he];refine .inl ⟨_,rfl,⟨i+1,rfl,by omega,by simp only;omega,by simp only;omega,jR.set (by omega),by simpa using hlen,?_,fun k aQ=> ?_⟩,by simp;omega⟩
 ·simp only;rw[sc aP,sT aa,hV,<- Nat.add_assoc,mw,A9];have:=Int.mul_ediv_add_emod (cc[bw+i]+v[i]+carry) 1000000000;generalize (cc[bw+i]+v[i]+carry) / 1000000000=q at *;generalize (cc[bw+i]+v[i]+carry) % 1000000000=t at *;have wc:t=cc[bw+i]+v[i]+carry-1000000000*q:=(by omega);rw[wc];grind
 simp only;rw[List.getElem?_set_ne (by omega)];exact kL k aQ
theorem YN {v row:ar}{bw mA:Nat}{y:Int}(aZ:cy v)(aj:oS (bw+v.length) row)(hu:v.length<mA)(aF:bw+v.length<row.length)(aV:row.length<=5000000)(aP:row[bw+v.length]? = some y)(om:-1000000000<y)(B5:y<1000000000):
 ∃lD dU,x2 v bw mA row=some dU/\dU.length=row.length/\oS (bw+v.length) dU/\dU[bw+v.length]? = some lD/\V dU=V row+B bw*V v/\ ∀i,i<bw\/bw+v.length<i->dU[i]? = row[i]? := by
 obtain⟨r,iD,cj,bB,jR,hlen,hV,kL⟩:=Wi aZ aj hu aF aV;have aa:r.2[bw+v.length]? = some y:=by rw[kL _ (by omega)];exact aP
 refine⟨y+r.1,r.2.set (bw+v.length) (y+r.1),?_,by simpa using hlen,jR.Qy,?_,?_,fun i ae=> ?_⟩
 ·unfold x2;simp only[gE];rw[iD];simp only[dD,dB,dz];rw[dw (by omega),aa];simp only[dB];rw[dw (by omega),cI (by omega) (by omega)]
 ·rw[aff,dw rfl,dw (by omega)]
 ·rw[sc aa,hV];grind
 rw[List.getElem?_set_ne (by omega)];exact kL i (by omega)
theorem Xj {g q v1 v2 top gP rest aH W P:Int}(f6:1<=P)(dt:0<=g)(ch:g*v1+rest=top)(uz:P*(v1*1000000000+v2)<=W)(JA:aH<P*(top*1000000000+gP+1))(Ri:q*W<=aH)(hW:0<=W)(h:rest*1000000000+gP<g*v2):q<g:=by
 apply Int.not_le.mp;intro uB;have o:g*W<=q*W:=Int.mul_le_mul_of_nonneg_right uB hW;have J:g*(P*(v1*1000000000+v2))<=g*W:=dL uz dt;have ab:g*(P*(v1*1000000000+v2))=P*(g*(v1*1000000000+v2)):=by grind
 have aA:P*(g*(v1*1000000000+v2))<P*(top*1000000000+gP+1):=by omega
 have aJ:=Int.lt_of_mul_lt_mul_left aA (by omega);have bC:g*(v1*1000000000+v2)=1000000000*(g*v1)+g*v2:=by grind
 omega
theorem NU {g v1 v2 top gP rest aH W P:Int}(f6:1<=P)(dt:0<=g)(uC:g<=999999999)(rI:1<=v1)(Cb:0<=v2)(ch:g*v1+rest=top)(uz:P*(v1*1000000000+v2)<=W)(E3:W<P*(v1*1000000000+v2+1))(E2:P*(top*1000000000+gP)<=aH)(h:g*v2<=rest*1000000000+gP):g<=aH / W+1:=by
 have Cc:P*1000000000<=W:=by have o:P*1000000000<=P*(v1*1000000000+v2):=dL (by omega) (by omega);omega
 have o:g*W<=g*(P*(v1*1000000000+v2+1)):=dL (by omega) dt;have J:g*(P*(v1*1000000000+v2+1))=P*(1000000000*(g*v1)+g*v2+g):=by grind
 have ab:P*(1000000000*(g*v1)+g*v2+g)<=P*(top*1000000000+gP+999999999):=dL (by omega) (by omega);have aA:P*(top*1000000000+gP+999999999)=P*(top*1000000000+gP)+P*999999999:=by grind
 have aJ:(g-1)*W=g*W-W:=by grind
 have:g-1<=aH / W:=(Int.le_ediv_iff_mul_le (by omega)).2 (by omega);omega
theorem VE {aw u iu aG:ar}{N n j:Nat}{v1 v2 gP top aH W P:Int}(aV:2<=n)(IY:n<=5000000)(Cd:j+n<N)(fS:N<=5000000)(o:iu[n-1]? = some v1)(J:iu[n-2]? = some v2)(ab:u[j+n-2]? = some gP)
 (rI:1<=v1/\v1<1000000000) (Cb:0<=v2/\v2<1000000000) (aes:0<=gP/\gP<1000000000) (f6:1<=P) (uz:P*(v1*1000000000+v2)<=W) (E3:W<P*(v1*1000000000+v2+1)) (E2:P*(top*1000000000+gP)<=aH) (JA:aH<P*(top*1000000000+gP+1)) (cv:0<=aH) (JB:aH<1000000000*W) (ml:0<=top) (aet:top<=v1*1000000000+999999999) (a2:aH / W<=top / v1) :
 ∃g,MI N n n j aw u iu aG (top / v1) (top % v1)=some g/\(aH / W=g\/aH / W+1=g)/\0<=g/\g<=999999999:=by
 have Cc:0<W:=by have o:P*1000000000<=P*(v1*1000000000+v2):=dL (by omega) (by omega);omega
 have oc:0<=aH / W:=Int.ediv_nonneg cv (by omega);have ru:aH / W<1000000000:=Int.ediv_lt_of_lt_mul Cc JB;have Ri:aH / W*W<=aH:=Int.ediv_mul_le _ (by omega);have abx:=Int.mul_ediv_add_emod top v1;have nH:=Int.emod_nonneg top (b:=v1) (by omega);have qW:=Int.emod_lt_of_pos top (b:=v1) (by omega);have Iy:U ((n:Int)-1)=((n-1:Nat):Int):=by rw[cI (by omega) (by omega)];omega
 have Z5:U ((n:Int)-2)=((n-2:Nat):Int):=by rw[cI (by omega) (by omega)];omega
 have Z6:U (U ((j:Int)+(n:Int))-2)=((j+n-2:Nat):Int):=by rw[cI (x:=(j:Int)+n) (by omega) (by omega),cI (by omega) (by omega)];omega
 have ED:top / v1<=top:=Int.ediv_le_self _ ml;refine j9 (eA:=fun w:Int×Int=>w.1*v1+w.2=top/\0<=w.2/\w.2<1000000000/\aH / W<=w.1/\w.1<=top) (m:=fun w:Int×Int=>w.1.toNat) _ ?_ _ ⟨by rw[Int.mul_comm];exact abx,nH,by simp only;omega,a2,ED⟩;rintro⟨g,rest⟩ ⟨nq,nk,Cu,tE,Cv⟩;simp only at nq nk Cu tE Cv ⊢;have JE:U (rest+v1)=rest+v1:=cI (by omega) (by omega);have JF:U (g-1)=g-1:=cI (by omega) (by omega);have uC:(g-1)*v1+(rest+v1)=top:=by grind
 have Pz:aH / W<=g-1->1000000000<=rest+v1->(aH / W=g-1\/aH / W+1=g-1)/\0<=g-1/\g-1<=999999999:=by intro jU h1;have jV:(g-1)*v1<1000000000*v1:=(by omega);have Kc:g-1<1000000000:=Int.lt_of_mul_lt_mul_right jV (by omega);have RV:0<=g-1:=(by omega);have ae5:=(A1 ⟨RV,Kc⟩ Cb).2;have:=NU f6 RV (by omega) rI.1 Cb.1 uC uz E3 E2 (by omega);omega
 by_cases Iz:1000000000<=g
 ·by_cases aN:1000000000<=rest+v1
  ·refine .inr ⟨g-1,?_,Pz (by omega) aN⟩;unfold u0;rw[dw (by simpa using Iz),Iy,dw (by omega),dF,dz,o];simp only[dD,dB,JE,JF];rw[dw (by simpa using aN)]
  refine .inl ⟨(g-1,rest+v1),?_,⟨uC,by simp only;omega,by simp only;omega,by simp only;omega,by simp only;omega⟩,by simp only;omega⟩;unfold u0;rw[dw (by simpa using Iz),Iy,dw (by omega),dF,dz,o];simp only[dD,dB,JE,JF];rw[dA (by simpa using aN)]
 have iZ:0<=g:=by omega
 obtain⟨hZ,gr⟩:=A1 ⟨iZ,by omega⟩ Cb;have ao:U (U (rest*1000000000)+gP)=rest*1000000000+gP:=by rw[cI (x:=rest*1000000000) (by omega) (by omega),cI (by omega) (by omega)]
 have aB:U (g*v2)=g*v2:=cI (by omega) (by omega)
 have Ij:u0 N n n j aw u iu aG g rest=some (if rest*1000000000+gP<g*v2 then (if 1000000000<=rest+v1 then .inr (g-1) else .inl (g-1,rest+v1)) else .inr g):=by
  unfold u0;rw[dA (by simpa using Iz),Z5,dw (by omega),dF,dz,J];simp only[dD,dB];rw[Z6,dw (by omega),dF,dz,ab];simp only[dB,ao,aB];by_cases aL:rest*1000000000+gP<g*v2
  ·rw[dw (by simpa using aL),dw aL,Iy,dw (by omega),dF,dz,o]
   simp only[dB,JE,JF];by_cases aN:1000000000<=rest+v1
   ·rw[dw (by simpa using aN),dw aN]
   rw[dA (by simpa using aN),dA aN]
  rw[dA (by simpa using aL),dA aL]
 rw[Ij];by_cases aL:rest*1000000000+gP<g*v2
 ·have aeu:=Xj f6 iZ nq uz JA Ri (by omega) aL
  rw[dw aL];by_cases aN:1000000000<=rest+v1
  ·rw[dw aN];exact .inr ⟨g-1,rfl,Pz (by omega) aN⟩
  rw[dA aN];exact .inl ⟨(g-1,rest+v1),rfl,⟨uC,by simp only;omega,by simp only;omega,by simp only;omega,by simp only;omega⟩,by simp only;omega⟩
 rw[dA aL];have:=NU f6 iZ (by omega) rI.1 Cb.1 nq uz E3 E2 (by omega);exact .inr ⟨g,rfl,by omega,by omega,by omega⟩
theorem Wj {a b:ar}{k:Nat}(h:∀i,k<=i->a[i]? = b[i]?):a.drop k=b.drop k:=by apply afo;intro i;rw[afm,afm];exact h _ (by omega)
theorem Wk {a b:ar}{k:Nat}(h:∀i,i<k->a[i]? = b[i]?):a.take k=b.take k:=by
 apply afo;intro i;rw[dR,dR];by_cases ae:i<k
 ·rw[dw ae,dw ae];exact h i ae
 rw[dA ae,dA ae]
theorem Rj {u w:ar}{j n:Nat}{y c:Int}(hlen:w.length=u.length)(Cd:j+n<u.length)(d1:oS (j+n) w)(aP:w[j+n]? = some y)(kL:∀i,i<j\/j+n<i->w[i]? = u[i]?)(h0:V (u.drop (j+n+1))=0)(hV:V w=V u-c*B j):
 V (w.drop j)=V (u.drop j)-c/\ ∃low,0<=low/\low<B n/\V (w.drop j)=low+B n*y:=by
 have o:=vo (l:=u) (n:=j) (by omega);have J:=vo (l:=w) (n:=j) (by omega);rw[Wk (a:=w) (b:=u) (fun i ae=>kL i (.inl ae))] at J;have ab:B j*V (w.drop j)=B j*(V (u.drop j)-c):=by grind
 have gV:=oJ j;have aA:V (w.drop j)=V (u.drop j)-c:=Int.eq_of_mul_eq_mul_left (by omega) ab;refine⟨aA,V ((w.drop j).take n),?_,?_,?_⟩
 ·refine kI (fun x aa=> ?_);obtain⟨i,ae⟩:=List.mem_iff_getElem?.mp aa;have lX:=fN ae;simp at lX;rw[dR,dw (by omega),afm] at ae;exact d1 _ _ (by omega) ae
 ·have aF:cy ((w.drop j).take n):=fun x aa=>by
   obtain⟨i,ae⟩:=List.mem_iff_getElem?.mp aa;have lX:=fN ae;simp at lX;rw[dR,dw (by omega),afm] at ae;exact d1 _ _ (by omega) ae
  have:=mz aF
  rwa [List.length_take,Nat.min_eq_left (by simp;omega)] at this
 have aJ:=vo (l:=w.drop j) (n:=n) (by simp;omega);rw[List.drop_drop,oE aP,Wj (a:=w) (b:=u) (k:=j+n+1) (fun i ae=>kL i (.inr (by omega))),h0] at aJ;rw[aJ];grind
theorem NV {w:ar}{p:Nat}(d1:oS p w)(aP:w[p]? = some 0):cy w:=fun x aa=>by
 obtain⟨i,ae⟩:=List.mem_iff_getElem?.mp aa;by_cases h:i=p
 ·subst h;rw[aP] at ae;have:=dI ae;omega
 exact d1 i x h ae
theorem Oj {low y X wP W:Int}(h0:0<=low)(o:low<wP)(Ft:X=low+wP*y)(J:0<=X)(ab:X<W)(aA:W<=wP):y=0:=by
 have dq:wP*y<wP*1:=by omega
 have aJ:=Int.lt_of_mul_lt_mul_left dq (by omega);have ER:wP*(-1)<wP*y:=by omega
 have bC:=Int.lt_of_mul_lt_mul_left ER (by omega);omega
theorem Wl {aw u iu aG:ar}{n j:Nat}{v1 W:Int}(aV:2<=n)(E5:n<=iu.length)(aZ:cy (iu.take n))(hW:V (iu.take n)=W)(rI:iu[n-1]? = some v1)(IA:1<=v1)(hu:cy u)(wD:u.length<=5000000)(Cd:j+n<u.length)(dq:V (u.drop (j+1))<W)(aev:j<aG.length):
 ∃kH,u1 u.length n n aw iu j u aG=some (.inl ((j:Int)-1,kH,aG.set j (V (u.drop j) / W)))/\cy kH/\kH.length=u.length/\V kH=V u-(V (u.drop j) / W)*B j*W/\V (kH.drop j)<W/\0<=V (u.drop j) / W/\V (u.drop j) / W<1000000000:=by
 obtain⟨n,rfl⟩ : ∃m,n=m+2:=⟨n-2,by omega⟩;have p4:(iu.take (n+2)).length=n+2:=by simp;omega
 have uC:(iu.take (n+2))[n+1]? = some v1:=by rw[dR,dw (by omega)];exact rI
 have Rk:=dx (show n<iu.length by omega);have Qz:(iu.take (n+2))[n]? = some iu[n]:=by rw[dR,dw (by omega)];exact Rk
 have Z7:=aZ.get uC;have Z8:=aZ.get Qz;have iM:=dx (show j+(n+2)<u.length by omega);have B9:=dx (show j+(n+1)<u.length by omega);have wb:=dx (show j+n<u.length by omega);have Rl:=dx (show j<u.length by omega);have kT:=hu.get iM;have rA:=hu.get B9;have y5:=hu.get wb;have aew:=hu.get Rl;have Ce:=r2 aZ (k:=n+1) (by omega);rw[AB uC (by omega),hW] at Ce;have JG:=r2 aZ (k:=n) (by omega);rw[oE Qz,AB uC (by omega),hW] at JG;have IB:=mz aZ;rw[p4,hW] at IB;have aex:0<=W:=by rw[<- hW];exact kI aZ
 have b5:=r2 (hu.drop (j+1)) (k:=n+2) (by simp;omega);rw[List.drop_drop] at b5;have aby:=kI (hu.drop (j+1+(n+2)));have aey:=oJ (n+2)
 have h0:V (u.drop (j+(n+2)+1))=0:=by
  rw[show j+(n+2)+1=j+1+(n+2) by omega];apply Int.le_antisymm _ aby
  apply Int.not_lt.mp;intro h;have:B (n+2)*1<=B (n+2)*V (u.drop (j+1+(n+2))):=dL (by omega) (by omega);omega
 have ml:V (u.drop (j+(n+2)))=u[j+(n+2)]:=by rw[oE iM,h0];omega
 have ED:V (u.drop (j+(n+1)))=u[j+(n+1)]+1000000000*u[j+(n+2)]:=by rw[oE B9,show j+(n+1)+1=j+(n+2) by omega,ml]
 have h7:V (u.drop (j+n))=u[j+n]+1000000000*(u[j+(n+1)]+1000000000*u[j+(n+2)]):=by rw[oE wb,show j+n+1=j+(n+1) by omega,ED]
 have iD:=r2 (hu.drop j) (k:=n+1) (by simp;omega);rw[List.drop_drop,ED] at iD;have JH:=r2 (hu.drop j) (k:=n) (by simp;omega);rw[List.drop_drop,h7] at JH;have nQ:=kI (hu.drop j);have cv:V (u.drop j)<1000000000*W:=by rw[oE Rl];omega
 have abz:=oJ n;have Z9:=oJ (n+1);have v9:u[j+(n+2)]<=v1:=by have o:=r2 (hu.drop (j+1)) (k:=n+1) (by simp;omega);rw[List.drop_drop,show j+1+(n+1)=j+(n+2) by omega,ml] at o;have J:B (n+1)*u[j+(n+2)]<B (n+1)*(v1+1):=(by omega);have:=Int.lt_of_mul_lt_mul_left J (by omega);omega
 have aaa:=ML Z9 iD.1 iD.2 Ce.1 Ce.2 (by omega) (by omega) cv
 obtain⟨g,dt,uB,abA,aez⟩:=VE (aw:=aw) (aG:=aG) (N:=u.length) (n:=n+2) (j:=j) (v1:=v1) (v2:=iu[n]) (gP:=u[j+n]) (top:=u[j+(n+1)]+1000000000*u[j+(n+2)]) (aH:=V (u.drop j)) (W:=W) (P:=B n) (u:=u) (iu:=iu) (by omega) (by omega) Cd wD rI Rk wb ⟨IA,Z7.2⟩ Z8 y5 abz
  (by rw[Int.mul_comm v1,Int.add_comm];exact JG.1) (by rw[Int.mul_comm v1,Int.add_comm (1000000000*v1)];exact JG.2)
  (by rw[Int.mul_comm (u[j+(n+1)]+_),Int.add_comm];exact JH.1) (by rw[Int.mul_comm (u[j+(n+1)]+_),Int.add_comm (1000000000*_) u[j+n]];exact JH.2) nQ cv (by omega) (by omega) aaa.2.1
 have Cc:0<W:=by have:B (n+1)*1<=B (n+1)*v1:=dL (by omega) (by omega);omega
 have oc:0<=V (u.drop j) / W:=Int.ediv_nonneg nQ (by omega);have ru:V (u.drop j) / W<1000000000:=Int.ediv_lt_of_lt_mul Cc cv;have hm:=Int.mul_ediv_add_emod (V (u.drop j)) W;have nH:=Int.emod_nonneg (V (u.drop j)) (b:=W) (by omega);have qW:=Int.emod_lt_of_pos (V (u.drop j)) Cc;obtain⟨y,w,ch,Rm,E6,E7,om,B5,E8,H0⟩:=YM (v:=iu.take (n+2)) (row:=u) (bw:=j) (mA:=u.length-j) (iO:=g) aZ hu ⟨abA,by omega⟩ (by omega) (by omega) wD;rw[p4] at E6 E7 H0;rw[hW] at E8;obtain⟨Ca,low,nb,JI,wa⟩:=Rj (c:=g*W) Rm Cd E6 E7 H0 h0 (by rw[E8];grind);have abB:U ((j:Int)-1)=(j:Int)-1:=qH (by omega);have ao:U ((j:Int)+((n+2:Nat):Int))=((j+(n+2):Nat):Int):=by rw[cI (by omega) (by omega)];omega
 have aB:U (((j+(n+2):Nat):Int)-1)=((j+(n+1):Nat):Int):=by rw[cI (by omega) (by omega)];omega
 have bT:U (((n+2:Nat):Int)-1)=((n+1:Nat):Int):=by rw[cI (by omega) (by omega)];omega
 have di:U (U (u[j+(n+2)]*1000000000)+u[j+(n+1)])=u[j+(n+1)]+1000000000*u[j+(n+2)]:=by rw[cI (x:=u[j+(n+2)]*1000000000) (by omega) (by omega),cI (by omega) (by omega)];omega
 have ew:0<=u[j+(n+1)]+1000000000*u[j+(n+2)]:=by omega
 have fa:(u[j+(n+1)]+1000000000*u[j+(n+2)]) / v1<=u[j+(n+1)]+1000000000*u[j+(n+2)]:=Int.ediv_le_self _ ew;have fc:0<=(u[j+(n+1)]+1000000000*u[j+(n+2)]) / v1:=Int.ediv_nonneg ew (by omega);have aab:iu[n+1]? = some v1:=rI
 have pre:u1 u.length (n+2) ((n+2:Nat):Int) aw iu j u aG =
  (if (decide (y<0))=true then
    x2 (iu.take (n+2)) j (u.length-j) w >>= fun jh=>some (.inl ((j:Int)-1,jh,aG.set j (U (g-1))))
  else some (.inl ((j:Int)-1,w,aG.set j g))):=by
  unfold u1;rw[dw (by simp)];simp only[ao,aB,bT,dz,dF,abB];rw[dw (by omega),iM];simp only[dD,dB];rw[dw (by omega),B9];simp only[dB];rw[dw (by omega),aab];simp only[dB];rw[dw (by omega),di,o8 ew,tH ew,cI (by omega) (by omega),dt];simp only[dB];rw[dw (by omega),dw (by omega),dw (by omega),List.drop_zero,ch];simp only[dB];by_cases aP:y<0
  ·have bz:(decide (y<0))=true:=(by simpa using aP);simp only[dw bz];congr 1;funext r;rw[dw (by omega),dw (by omega)]
  have bz : ¬(decide (y<0))=true:=(by simpa using aP);simp only[dA bz];rw[dw (by omega),dw (by omega)]
 rcases uB with uB|uB
 ·subst uB;have Ft:V (w.drop j)=V (u.drop j) % W:=(by rw[Ca];grind);have aP:y=0:=Oj (W:=W) nb JI wa (by rw[Ft];exact nH) (by rw[Ft];exact qW) (Int.le_of_lt IB);subst aP;refine⟨w,?_,NV E6 E7,Rm,E8,by omega,oc,ru⟩;rw[pre];rfl
 have Ft:V (w.drop j)=V (u.drop j) % W-W:=by rw[Ca,<- uB];grind
 have aP:y<0:=by apply Int.not_le.mp;intro h;have:0<=B (n+2)*y:=Int.mul_nonneg (by omega) h;omega
 obtain⟨lD,bx,nF,ad1,IC,ID,QA,OY⟩:=YN (v:=iu.take (n+2)) (row:=w) (bw:=j) (mA:=u.length-j) (y:=y) aZ (by rw[p4];exact E6) (by omega) (by omega) (by omega) (by rw[p4];exact E7) om B5;rw[p4] at IC ID OY;rw[hW] at QA;have Rn:V bx=V u-V (u.drop j) / W*B j*W:=by rw[QA,E8,<- uB];grind
 obtain⟨aac,ad2,aad,aae,aaf⟩:=Rj (c:=V (u.drop j) / W*W) (by omega) Cd IC ID (fun i ae=>by rw[OY i ae,H0 i ae]) h0 (by rw[Rn];grind);have Ro:V (bx.drop j)=V (u.drop j) % W:=by rw[aac];grind
 have nJ:lD=0:=Oj (W:=W) aad aae aaf (by rw[Ro];exact nH) (by rw[Ro];exact qW) (Int.le_of_lt IB);subst nJ;refine⟨bx,?_,NV IC ID,by omega,Rn,by omega,oc,ru⟩;rw[pre,dw (by simpa using aP),nF];simp only[dD,dB];rw[cI (by omega) (by omega),show g-1=V (u.drop j) / W by omega]
theorem Wm {aw iu u:ar}{n m:Nat}{v1 W:Int}(aV:2<=n)(E5:n<=iu.length)(aZ:cy (iu.take n))(hW:V (iu.take n)=W)(rI:iu[n-1]? = some v1)(IA:1<=v1)(hu:cy u)(wD:u.length<=5000000)(hm:m+n=u.length)(dq:V (u.drop m)<W):
 ∃r,MJ u.length n n aw iu ((m:Int)-1) u (List.replicate m 0)=some r/\cy r.1/\r.1.length=u.length/\V r.1<W/\cy r.2/\r.2.length=m/\V u=V r.2*W+V r.1:=by
 refine j9 (eA:=fun w:Int×ar×ar=> ∃(k:Nat) (q:ar),w.1=(k:Int)-1/\k<=m/\cy w.2.1/\w.2.1.length=u.length/\w.2.2=List.replicate k 0++q/\q.length+k=m/\cy q/\V (w.2.1.drop k)<W/\V u=V w.2.1+B k*V q*W) (m:=fun w:Int×ar×ar=>(w.1+1).toNat) _ ?_ _ ⟨m,[],rfl,by omega,hu,rfl,by simp,by simp,cy.nil,dq,by simp[V]⟩;rintro⟨acF,kH,aG⟩ ⟨k,q,o,aQ,od,hlen,ab,a2,tx,IE,hV⟩;simp only at o od hlen ab IE hV ⊢;subst o ab
 cases k with
 | zero =>
  refine .inr ⟨(kH,q),by simp[u1],od,hlen,by simpa using IE,tx,by simpa using a2,?_⟩;rw[hV];simp[B];omega
 | succ k =>
  obtain⟨aeA,he,s1,s2,wH,acG,acH,acI⟩:=Wl (aw:=aw) (iu:=iu) (u:=kH) (aG:=List.replicate (k+1) 0++q) (j:=k) aV E5 aZ hW rI IA od (by omega) (by omega) IE (by simp;omega);rw[hlen] at he;rw[show ((k+1:Nat):Int)-1=k by omega,he];refine .inl ⟨_,rfl,⟨k,V (kH.drop k) / W::q,rfl,by omega,s1,s2.trans hlen,HE _ _ _,by simp;omega,cy.cons ⟨acH,acI⟩ tx,acG,?_⟩,by simp only;omega⟩;simp only;rw[hV,wH,k4,mw];grind
theorem Hq {a:ar}(h:a.length<=900000):vp a=some a:=by unfold vp;rw[dw (by omega)]
theorem VF {a b q s:Int}(h:a=q*b+s)(h0:0<=s)(o:s<b):a / b=q/\a % b=s:=by
 subst h;constructor
 ·rw[Int.add_comm,Int.add_mul_ediv_right _ _ (by omega),Int.ediv_eq_zero_of_lt h0 o];omega
 rw[Int.add_comm,Int.add_mul_emod_self_right];exact Int.emod_eq_of_lt h0 o
theorem D3 {a b:ar}(bA:eZ a)(aN:eZ b)(kT:b≠[])(aV:a.length<=900000)(hm:b.length<=900000):sP a b=some (L (V a / V b),L (V a % V b)):=by
 have l2:=rp aN kT;have EK:=kI bA.1;unfold sP;simp only[gE];rw[Dt bA aN (by omega)];simp only[dD,dB];by_cases aL:V a<V b
 ·rw[dw (by simpa using yu.2 aL),Hq aV,Int.ediv_eq_zero_of_lt EK aL,Int.emod_eq_of_lt EK aL,pe,tn bA];rfl
 rw[dA (fun h=>aL (yu.1 (by simpa using h)))];obtain⟨k,d,aQ,bz,qO,qX,uA⟩:=Ee aN kT;by_cases o:b.length=1
 ·have tl:k=0:=(by omega);subst tl;have JC:V b=d:=(by simpa using uA);rw[dw (by simp[o]),dw (by omega),bz];simp only[dB];have qW:=Int.emod_nonneg (V a) (b:=d) (by omega);have B7:=Int.emod_lt_of_pos (V a) qO;rw[MK bA.1 ⟨qO,qX⟩ (by omega)];simp only[dB];rw[Be qW (by omega),GZ qW (by omega),JC];rfl
 have hw:U ((b.length:Int)-1)=(k:Int):=by rw[cI (by omega) (by omega)];omega
 have ao:U (d+1)=d+1:=cI (by omega) (by omega);have E9:1<=1000000000 / (d+1):=by apply (Int.le_ediv_iff_mul_le (by omega)).2;omega
 have JJ:1000000000 / (d+1)<1000000000:=by apply Int.ediv_lt_of_lt_mul (by omega);omega
 have abC:1000000000 / (d+1)*(d+1)<=1000000000:=Int.ediv_mul_le _ (by omega);have aB:U ((1000000000:Int).tdiv (d+1))=1000000000 / (d+1):=by rw[o8 (by omega),cI (by omega) (by omega)]
 rw[dA (by simp;omega),hw,dw (by omega),dz,bz];simp only[dB,ao,aB];generalize 1000000000 / (d+1)=f at *;rw[dw (by omega)];have jg:cy [f]:=cy.cons (by omega) cy.nil;have abD:V [f]=f:=by simp[V]
 have abE:a≠[]:=by intro h;subst h;simp[V] at aL;omega
 obtain⟨lJ,wQ,abF,aeB,abG,Fa,aeC⟩:=Ns bA.1 jg abE (by simp) (by omega) (by simp);obtain⟨Cw,iu,abH,aeD,abI,JK,aeE⟩:=Ns aN.1 jg kT (by simp) (by omega) (by simp);rw[abD] at Fa JK;rw[abF];simp only[dB];simp only[List.length_singleton] at abG abI;have aeF:=oJ k;have abJ:V b*f<B b.length:=by have J:=(r2 aN.1 (k:=k) (by omega)).2;rw[uA] at J;have ab:V b*f<=(B k*(d+1)-1)*f:=Int.mul_le_mul_of_nonneg_right (by omega) (by omega);have aA:(B k*(d+1)-1)*f=B k*(f*(d+1))-f:=(by grind);have aJ:B k*(f*(d+1))<=B k*1000000000:=dL abC (by omega);rw[aQ,mw];omega
 have aeG:V b<=V b*f:=by have:V b*1<=V b*f:=dL E9 (by omega);omega
 have aeH:V a<=V a*f:=by have:V a*1<=V a*f:=dL E9 (by omega);omega
 have JL:0<=V b*f:=by omega
 have Rp:0<=V a*f:=by omega
 have Rq:Cw=b.length:=by have J:(iu.take Cw).length=Cw:=(by simp;omega);rw[JK] at J;have ab:=(im JL (k:=b.length)).2 abJ;have aA:=EC aN kT;have aJ : ¬(L (V b*f)).length<=b.length-1:=fun h=>(by have:=(im JL).1 h;omega);omega
 have abK:(L (V a*f)).length=lJ:=by rw[<- Fa];simp;omega
 have QB:=mz (kx (V a*f));rw[fA Rp,abK] at QB;have ad3:a.length<=lJ:=bA.len.2 (by omega);have aeI:b.length<=a.length:=Nat.le_of_not_lt fun h=>by have:=DY bA aN h;omega
 rw[dw (by omega),dw (by simp;omega),abH];simp only[dB];have wD:(wQ.take lJ++[0]).length=lJ+1:=by simp;omega
 have JM:GB a Cw [f] iu (wQ.take lJ++[0])=some (wQ.take lJ++[0]):=by unfold GB;rw[iter];unfold CW;simp only[gE,wD];rw[dA (by simp;omega)];rfl
 rw[JM];simp only[dB,wD];have lv:U (((lJ+1:Nat):Int)-((Cw:Nat):Int))=((lJ+1-b.length:Nat):Int):=by rw[cI (by omega) (by omega)];omega
 rw[lv,dw (by omega),qH (by omega),dz];have P9:cy (wQ.take lJ++[0]):=by rw[Fa];exact(kx _).append (cy.cons (by omega) cy.nil)
 have Rr:V (wQ.take lJ++[0])=V a*f:=by rw[yk,Fa,fA Rp];simp[V]
 have H2:iu.take b.length=L (V b*f):=by rw[<- Rq];exact JK
 have abL:V (iu.take b.length)=V b*f:=by rw[H2,fA JL]
 obtain⟨dn,wR,mH,tj,ad4,ad5,ad6⟩:=Ee (jr (V b*f)) (fun h=>by have:=uc.1 h;omega);rw[<- H2] at mH tj;have p4:(iu.take b.length).length=b.length:=by simp;omega
 have wg:iu[b.length-1]? = some wR:=by
  rw[dR] at tj;rw[show b.length-1=dn by omega];split at tj
  ·exact tj
  simp at tj
 have aag:V ((wQ.take lJ++[0]).drop (lJ+1-b.length))<V b*f:=by have J:=(r2 P9 (k:=lJ+1-b.length) (by omega)).1;rw[Rr] at J;have ab:=EC aN kT;have aA:B lJ=B (lJ+1-b.length)*B (b.length-1):=(by rw[<- A9];congr 1;omega);rw[aA] at QB;have aJ:B (lJ+1-b.length)*V ((wQ.take lJ++[0]).drop (lJ+1-b.length))<B (lJ+1-b.length)*B (b.length-1):=(by omega);have:=Int.lt_of_mul_lt_mul_left aJ (by have:=oJ (lJ+1-b.length);omega);omega
 obtain⟨r,aj,ad,bu,bb,aI,bh,b2⟩:=Wm (aw:=[f]) (m:=lJ+1-b.length) (by omega) (by omega) (by rw[H2];exact kx _) abL wg (by omega) P9 (by omega) (by omega) aag;rw[wD] at aj bu;rw[Rq,aj];simp only[dB];rw[dw (by omega),List.drop_zero,dT (by omega),yt ad (by omega)];simp only[dB];have B6:=kI ad;rw[Rr] at b2;have bO:V r.1=(V a-V r.2*V b)*f:=by grind
 have abM:0<=V a-V r.2*V b:=by apply Int.not_lt.mp;intro h;have:(V a-V r.2*V b)*f<=(-1)*f:=Int.mul_le_mul_of_nonneg_right (by omega) (by omega);omega
 have Ca:V a-V r.2*V b<V b:=by apply Int.lt_of_mul_lt_mul_right (a:=f) _ (by omega);omega
 obtain⟨aT,bf⟩:=VF (a:=V a) (b:=V b) (q:=V r.2) (s:=V a-V r.2*V b) (by omega) abM Ca;rw[dw (by simp)];simp only[List.getElem?_cons_zero,dB];have EZ:(L (V r.1)).length<=lJ+1:=(im B6).2 (by have:=mz ad;rwa [bu] at this);rw[MK (kx _) ⟨by omega,JJ⟩ (by omega),fA B6];simp only[dB];rw[yt aI (by omega)];simp only[dB];rw[aT,bf,bO,Int.mul_ediv_cancel _ (by omega)]
theorem Nw {a b:ar}(bA:eZ a)(aN:eZ b)(aV:a.length<=900000)(hm:b.length<=900000):x1 a b=some (L (Int.gcd (V a) (V b))):=by
 have : ∃r,iter (fun w:ar×ar=>xy w.1 w.2) (a,b)=some r/\r=L (Int.gcd (V a) (V b)):=by
  refine j9 (eA:=fun w:ar×ar=>eZ w.1/\eZ w.2/\w.1.length<=900000/\w.2.length<=900000/\Int.gcd (V w.1) (V w.2)=Int.gcd (V a) (V b)) (m:=fun w:ar×ar=>(V w.2).toNat) _ ?_ _ ⟨bA,aN,aV,hm,rfl⟩;rintro⟨x,y⟩ ⟨o,J,ab,aA,aJ⟩;simp only at o J ab aA aJ ⊢;have iM:=kI o.1;have om:=kI J.1;by_cases aP:y=[]
  ·subst aP;refine .inr ⟨x,by simp[xy,gE],?_⟩;rw[<- aJ,Ba,D2 iM];exact(tn o).symm
  have JD:=rp J aP;have abu:=afs.mpr aP;have wC:=Int.emod_nonneg (V x) (b:=V y) (by omega);have abv:=Int.emod_lt_of_pos (V x) JD;refine .inl ⟨(y,L (V x % V y)),?_,⟨J,jr _,aA,(im wC).2 ?_,?_⟩,?_⟩
  ·unfold xy;simp only[gE];rw[dw (by simp;omega),D3 o J aP ab aA];rfl
  ·have:=mz J.1;have:=tZ aA;omega
  ·simp only;rw[fA wC,<- aJ];exact Hp iM
  simp only;rw[fA wC];omega
 obtain⟨r,aj,rfl⟩:=this;unfold x1 Md;rw[aj];rfl
def hb (n:Int):bt:=⟨decide (n<0),L n.natAbs⟩
def eU (neg:Bool)(a:Int):Int:=if neg then -a else a
def mk (p:Int×Int):gL:=⟨hb p.1,L p.2⟩
def kq (p:Int×Int):bP:=⟨hb p.1,L p.2⟩
def aah (x:Option (Int×Int)):afw:=x.map kq
structure Fr (p:Int×Int):Prop where
 pos:0<p.2
 Rs:Int.gcd p.1 p.2=1
 num:(p.1.natAbs:Int)<B 24
 den:p.2<B 24
theorem AD {n:Int}:(hb n).cJ=L n.natAbs:=rfl
theorem DR {n:Int}:(hb n).c5=decide (n<0):=rfl
theorem Wn {n:Int}(h:0<=n):decide ((0:Int)<((L n).length:Nat))=decide (0<n):=by
 apply decide_eq_decide.2;by_cases o:0<n
 ·have:(L n)≠[]:=fun J=>(by have:=uc.1 J;omega);have:=afs.mpr this;omega
 have:n=0:=by omega
 subst this;simp[pe]
theorem IF {n:Int}(h:0<=n):(((L n).length:Nat):Int)=0↔n=0:=by
 constructor
 ·intro o;have:L n=[]:=List.eq_nil_of_length_eq_zero (by omega);have:=uc.1 this;omega
 rintro rfl;simp[pe]
theorem Eg {neg:Bool}{a:Int}(h:0<=a):((eU neg a).natAbs:Int)=a:=by unfold eU;cases neg<;>simp<;>omega
theorem XZ {neg:Bool}{a:Int}(h:0<=a):(⟨neg && decide (0<a),L a⟩:bt)=hb (eU neg a):=by
 unfold hb;rw[Eg h];congr 1;unfold eU;cases neg
 ·simp;omega
 simp
theorem qt {neg:Bool}{a:Int}(h:0<=a):kY neg (L a)=some (hb (eU neg a)):=by unfold kY;rw[<- XZ h,gE,Wn h];cases neg<;>simp
theorem YO {a b:Int}:eU (!(decide (a<0) == decide (b<0))) ((a.natAbs:Int)*(b.natAbs:Int))=a*b:=by
 unfold eU;by_cases bA:a<0
 ·have ao:(a.natAbs:Int) = -a:=by omega
  by_cases aN:b<0
  ·have aB:(b.natAbs:Int) = -b:=(by omega);rw[ao,aB];simp[bA,aN,Int.neg_mul,Int.mul_neg]
  have aB:(b.natAbs:Int)=b:=(by omega);rw[ao,aB];simp[bA,aN,Int.neg_mul,Int.mul_neg]
 have ao:(a.natAbs:Int)=a:=by omega
 by_cases aN:b<0
 ·have aB:(b.natAbs:Int) = -b:=(by omega);rw[ao,aB];simp[bA,aN,Int.neg_mul,Int.mul_neg]
 have aB:(b.natAbs:Int)=b:=by omega
 rw[ao,aB];simp[bA,aN,Int.neg_mul,Int.mul_neg]
theorem X0 {a b:Int}:eU (decide (a<0)) ((a.natAbs:Int)*b)=a*b:=by
 unfold eU;by_cases bA:a<0
 ·have ao:(a.natAbs:Int) = -a:=(by omega);rw[ao];simp[bA,Int.neg_mul,Int.mul_neg]
 have ao:(a.natAbs:Int)=a:=by omega
 rw[ao];simp[bA,Int.neg_mul,Int.mul_neg]
theorem Xk {a c:Int}:lq (-c) (-a)=lq a c:=by
 unfold lq;by_cases h:a<c
 ·have : -c < -a:=(by omega);simp[h,this]
 by_cases J:c<a
 ·have ab : ¬ -c < -a:=(by omega);have aA : -a < -c:=(by omega);simp[h,J,ab,aA]
 have ab : ¬ -c < -a:=by omega
 have aA : ¬ -a < -c:=by omega
 simp[h,J,ab,aA]
theorem LR {a c:Int}(bA:(L a.natAbs).length<=5000000)(aL:(L c.natAbs).length<=5000000):rV (hb a) (hb c)=some (lq a c):=by
 have bO:rV (hb a) (hb c)=if (decide (a<0) == decide (c<0))=true then (if decide (a<0)=true then (pJ (L c.natAbs) (L a.natAbs)).bind (fun r=>some r) else (pJ (L a.natAbs) (L c.natAbs)).bind (fun r=>some r)) else if decide (a<0)=true then some (-1) else some 1:=rfl;rw[bO,UL];by_cases o:a<0
 ·by_cases J:c<0
  ·rw[dw (by simp[o,J]),dw (by simpa using o),yC (jr _) (jr _) aL,fA (by omega),fA (by omega),show (c.natAbs:Int) = -c by omega,show (a.natAbs:Int) = -a by omega,Xk];rfl
  rw[dA (by simp[o,J]),dw (by simpa using o)];unfold lq;rw[dw (by omega)]
 by_cases J:c<0
 ·rw[dA (by simp[o,J]),dA (by simpa using o)];unfold lq;rw[dA (by omega),dw (by omega)]
 rw[dw (by simp[o,J]),dA (by simpa using o),yC (jr _) (jr _) bA,fA (by omega),fA (by omega),show (c.natAbs:Int)=c by omega,show (a.natAbs:Int)=a by omega];rfl
def fits (x:Int):Prop:=x<B 24
noncomputable instance (x:Int):Decidable (fits x):=Classical.propDecidable _
noncomputable def low (n d:Int):Option (Int×Int) :=
 if fits ((n / (Int.gcd n d:Int)).natAbs:Int)/\fits (d / (Int.gcd n d:Int)) then some (n / (Int.gcd n d:Int),d / (Int.gcd n d:Int)) else none
theorem HG {n d:Int}(h:0<d):(0:Int)<Int.gcd n d:=by
 have:Int.gcd n d≠0:=by rw[Ne,Int.gcd_eq_zero_iff];omega
 omega
theorem X1 {n d:Int}(h:0<d): ∃m e,n / (Int.gcd n d:Int)=m/\d / (Int.gcd n d:Int)=e/\n=Int.gcd n d*m/\d=Int.gcd n d*e/\0<e/\(n.natAbs:Int) / (Int.gcd n d:Int)=m.natAbs:=by
 have dt:=HG (n:=n) h;obtain⟨m,hm⟩:=Int.gcd_dvd_left (a:=n) (b:=d);obtain⟨e,he⟩:=Int.gcd_dvd_right (a:=n) (b:=d);refine⟨m,e,?_,?_,hm,he,?_,?_⟩
 ·conv=>lhs;lhs;rw[hm]
  exact Int.mul_ediv_cancel_left _ (by omega)
 ·conv=>lhs;lhs;rw[he]
  exact Int.mul_ediv_cancel_left _ (by omega)
 ·apply Int.not_le.mp;intro o;have:(Int.gcd n d:Int)*e<=Int.gcd n d*0:=dL o (by omega);omega
 have ao:(n.natAbs:Int)=Int.gcd n d*m.natAbs:=by
  conv=>lhs;rw[hm]
  rw[Int.natAbs_mul];simp
 rw[ao];exact Int.mul_ediv_cancel_left _ (by omega)
theorem YP {a:Int}(h:0<=a):GM (L a)=some (decide (a=1)):=by
 unfold GM;simp only[gE];by_cases o:(L a).length=1
 ·have J:=(im (k:=1) h).1 (by omega);have ab:0<a:=(by apply Int.not_le.mp;intro aA;rw[P7 aA] at o;simp at o);have aJ:a<1000000000:=(by simpa [B] using J);rw[DX ⟨ab,aJ⟩];by_cases bC:a=1<;>simp[bC]
 rw[dA (by simp;omega)];have:a≠1:=by rintro rfl;rw[DX (by omega)] at o;simp at o
 simp[this]
theorem OZ {n d:Int}(h:0<=d):Int.gcd (n.natAbs:Int) d=Int.gcd n d:=by simp[Int.gcd]
theorem YQ {neg:Bool}{p m g:Int}(ah:0<=p)(dt:0<g)(hm:eU neg p=g*m):eU neg (m.natAbs:Int)=m:=by
 unfold eU at hm ⊢;cases neg
 ·simp at hm ⊢;have:0<=m:=(by apply Int.not_lt.mp;intro o;have:g*m<=g*(-1):=dL (by omega) (by omega);omega);omega
 simp at hm ⊢;have:m<=0:=by apply Int.not_lt.mp;intro o;have:g*1<=g*m:=dL (by omega) (by omega);omega
 omega
theorem ZB {neg:Bool}{a:Int}(h:0<=a)(J:neg=true->0<a):decide (eU neg a<0)=neg:=by
 unfold eU;cases neg
 ·simp;omega
 have:=J rfl;simp;omega
theorem O0 {neg:Bool}{l:ar}(aF:eZ l)(J:neg=true->l≠[]):(⟨neg,l⟩:bt)=hb (eU neg (V l)):=by have h:=kI aF.1;unfold hb;rw[Eg h,tn aF,ZB h (fun aV=>rp aF (J aV))]
theorem Uy {x:bt}(hm:(x.cJ.length:Int)<9223372036854775807): ∃ok,Gx x=some ok/\z6 x=some ok/\(ok=true↔ ∃n,x=hb n/\(L n.natAbs).length<=60):=by
 obtain⟨I,o,J,ab⟩:=Nu hm;unfold Gx z6;rw[o,J];simp only[dD,dB,gE];obtain⟨neg,Cf⟩:=x;simp only at ab ⊢
 have iS:decide ((0:Int)<(Cf.length:Nat)) = !((((Cf.length:Nat):Int) == 0)):=by
  by_cases h:Cf=[]
  ·subst h;rfl
  have:=afs.mpr h;rw[decide_eq_true (by omega)]
  symm
  simp;omega
 by_cases ai:I=true;rotate_left
 ·refine⟨false,by simp[ai],by simp[ai],?_⟩;simp only[afk,false_iff];rintro⟨n,aV,zr⟩;have aB:=congrArg bt.cJ aV;simp only[AD] at aB;exact ai (ab.2 (aB▸⟨jr _,zr⟩))
 obtain⟨aA,aJ⟩:=ab.1 ai;subst ai;cases neg
 ·refine⟨true,rfl,rfl,?_⟩;simp only[true_iff];refine⟨_,O0 aA (fun h=>by simp at h),?_⟩;rw[Eg (kI aA.1),tn aA];exact aJ
 refine⟨decide ((0:Int)<(Cf.length:Nat)),rfl,by rw[iS];rfl,?_⟩;rw[decide_eq_true_iff];constructor
 ·intro ah;refine⟨_,O0 aA (fun _ h=>by subst h;simp at ah),?_⟩;rw[Eg (kI aA.1),tn aA];exact aJ
 rintro⟨n,aV,-⟩;have ao:=congrArg bt.c5 aV;have aB:=congrArg bt.cJ aV;simp only[DR,AD] at ao aB;have bT:n<0:=by simpa using ao.symm
 have:Cf≠[]:=by rw[aB];intro h;have:=uc.1 h;omega
 have:=afs.mpr this;omega
theorem VG {r:gL}(hm:r.m6.cJ.length<=2000000)(bz:r.jO.length<=2000000): ∃ok,Nq r=some ok/\x9 r=some ok/\(ok=true↔ ∃p,Fr p/\r=mk p):=by
 obtain⟨bS,iG,jl,bq⟩:=Uy (x:=r.m6) (by omega);obtain⟨aY,gH,h8,kU⟩:=Nu (a:=r.jO) (by omega);unfold Nq x9;rw[iG,jl];simp only[dD,dB,gE];by_cases o:bS=true;rotate_left
 ·refine⟨false,by simp[o],by simp[o],?_⟩;simp only[afk,false_iff];rintro⟨p,ah,aj⟩;have aB:r.m6=hb p.1:=(by rw[aj];rfl);have:=(im (k:=24) (n:=p.1.natAbs) (by omega)).2 ah.num;exact o (bq.2 ⟨p.1,aB,by omega⟩)
 rw[dw o,dw o,gH,h8];simp only[dB];by_cases J:aY=true;rotate_left
 ·refine⟨false,by simp[J],by simp[J],?_⟩;simp only[afk,false_iff];rintro⟨p,ah,aj⟩;have e:r.jO=L p.2:=(by rw[aj];rfl);have:=(im (k:=24) (by have:=ah.pos;omega)).2 ah.den;exact J (kU.2 (e▸⟨jr _,by omega⟩))
 rw[dw J,dw J];obtain⟨n,aV,ad7⟩:=bq.1 o;obtain⟨qX,ad8⟩:=kU.1 J;have uA:=kI qX.1;have Rt:r.jO=L (V r.jO):=(tn qX).symm;have E5:r.m6.cJ=L n.natAbs:=by rw[aV];rfl
 by_cases ab:r.jO=[]
 ·rw[dw (by simp[ab]),dw (by simp[ab])];refine⟨false,rfl,rfl,?_⟩;simp only[afk,false_iff];rintro⟨p,ah,aj⟩;have e:r.jO=L p.2:=(by rw[aj];rfl);rw[ab] at e;have:=uc.1 e.symm;have:=ah.pos;omega
 have JN:=rp qX ab;have aeJ:=afs.mpr ab;have qO : ¬((((r.jO.length:Nat):Int) == 0)=true):=by simp[ab]
 rw[dA qO,dA qO];by_cases aA:24<r.jO.length
 ·rw[dw (by simp;omega)]
  have hc : ¬∃p,Fr p/\r=mk p:=(by rintro⟨p,ah,aj⟩;have e:r.jO=L p.2:=(by rw[aj];rfl);have:=(im (k:=24) (by have:=ah.pos;omega)).2 ah.den;rw[<- e] at this;omega);refine⟨false,rfl,?_,by simp[hc]⟩;by_cases aJ:24<r.m6.cJ.length
  ·rw[dw (by simp;omega)]
  rw[dA (by simp;omega),dw (by simp;omega)]
 rw[dA (by simp;omega)];by_cases aJ:24<r.m6.cJ.length
 ·rw[dw (by simp;omega),dw (by simp;omega)];refine⟨false,rfl,rfl,?_⟩;simp only[afk,false_iff];rintro⟨p,ah,aj⟩;have e:r.m6.cJ=L p.1.natAbs:=(by rw[aj];rfl);have:=(im (k:=24) (by omega)).2 ah.num;rw[<- e] at this;omega
 rw[dA (by simp;omega),dA (by simp;omega),dA (by simp;omega)];rw[E5] at aJ ⊢;rw[YL (jr _) qX (by omega) (by omega),Nw (jr _) qX (by omega) (by omega),fA (by omega),OZ uA];simp only[dB];have dt:=HG (n:=n) JN;have abN:eZ [1]:=eZ.one (by omega);have Fb:(L (Int.gcd n (V r.jO))).length<=5000000:=by have bJ:(Int.gcd n (V r.jO):Int)<=V r.jO:=Int.le_of_dvd JN (Int.gcd_dvd_right ..);have:=(im (k:=24) (by omega)).2 (show (Int.gcd n (V r.jO):Int)<B 24 by have:=(qX.len (k:=24)).1 (by omega);omega);omega
 rw[YP (by omega),Dt (jr _) abN Fb,fA (by omega)];have rI:V [1]=1:=by decide
 rw[rI];simp only[dB];refine⟨decide ((Int.gcd n (V r.jO):Int)=1),rfl,?_,?_⟩
 ·congr 1;rw[Bool.eq_iff_iff];simp[G9]
 rw[decide_eq_true_iff];constructor
 ·intro hu;refine⟨(n,V r.jO),⟨JN,by simp only;omega,(im (by omega)).1 (by simp only;omega),(qX.len).1 (by omega)⟩,?_⟩;obtain⟨num,den⟩:=r;simp only at aV Rt ⊢;unfold mk;simp only;rw[<- Rt,<- aV]
 rintro⟨p,ah,aj⟩;have e:r.jO=L p.2:=by rw[aj];rfl
 have aB:r.m6=hb p.1:=by rw[aj];rfl
 have bT:V r.jO=p.2:=by rw[e,fA (by have:=ah.pos;omega)]
 have di:n=p.1:=by
  rw[aV] at aB;have f1:=congrArg bt.c5 aB;have f2:=congrArg bt.cJ aB;simp only[DR,AD] at f1 f2;have f3:=congrArg V f2;rw[fA (by omega),fA (by omega)] at f3
  have f4:n<0↔p.1<0:=by
   constructor
   ·intro h;simpa [h] using f1.symm
   intro h;simpa [h] using f1
  omega
 rw[bT,di,ah.Rs];rfl
theorem Fr.yT {p:Int×Int}(h:Fr p):(L p.1.natAbs).length<=24:=(im (by omega)).2 h.num
theorem Fr.yU {p:Int×Int}(h:Fr p):(L p.2).length<=24:=(im (by have:=h.pos;omega)).2 h.den
theorem ZC (m n:Nat):B m*B n=B (m+n):=(A9 m n).symm
theorem HH {x y:Int}{m n:Nat}(aa:0<=x)(aP:0<=y)(o:x<B m)(J:y<B n):(L (x*y)).length<=m+n:=by
 apply (im (Int.mul_nonneg aa aP)).2;rw[<- ZC];have ab:x*y<=(B m-1)*(B n-1):=Int.mul_le_mul (by omega) (by omega) aP (by omega);have aA:(B m-1)*(B n-1)=B m*B n-B m-B n+1:=by grind
 have aJ:=oJ m;have bC:=oJ n;omega
theorem Wo {n d:Int}(bz:0<d)(BU:(L n.natAbs).length<=900000)(JO:(L d).length<=900000):ra (hb n) (L d)=some (some (kq (n / (Int.gcd n d:Int),d / (Int.gcd n d:Int)))):=by
 obtain⟨m,e,o,J,ab,aA,aJ,bC⟩:=X1 (n:=n) bz;have dt:=HG (n:=n) bz;rw[o,J];unfold ra;simp only[AD,DR,gE];by_cases aV:n=0
 ·subst aV;have abO:(Int.gcd 0 d:Int)=d:=(by rw[Int.gcd_comm,D2 (by omega)]);rw[abO] at ab aA;have hm:m=0:=(by rcases Int.mul_eq_zero.1 ab.symm with h|h<;>omega);have he:e=1:=(by have:d*e=d*1:=(by omega);exact Int.eq_of_mul_eq_mul_left (by omega) this);subst hm he;rw[dw (by simp[pe])];unfold kq hb;simp only[Int.natAbs_zero];rw[DX (x:=1) (by omega),show ((0:Nat):Int)=0 from rfl,pe];rfl
 have aai : ¬((((L n.natAbs).length:Nat):Int) == 0)=true:=by simp only[beq_iff_eq];intro h;have:=(IF (n:=n.natAbs) (by omega)).1 h;omega
 rw[dA aai,Nw (jr _) (jr _) BU JO,fA (by omega),fA (by omega),OZ (by omega)];simp only[dD,dB];have Fb:(L (Int.gcd n d)).length<=900000:=by have bJ:(Int.gcd n d:Int)<=d:=Int.le_of_dvd bz (Int.gcd_dvd_right ..);apply (im (by omega)).2;have:=(im (n:=d) (by omega)).1 JO;omega
 rw[Dt (jr _) (eZ.one (by omega)) (by omega),fA (by omega),show V [1]=1 by decide];simp only[dB];by_cases hu:(Int.gcd n d:Int)=1
 ·rw[dw (by simpa using G9.2 hu)];rw[hu] at ab aA;rw[Int.one_mul] at ab aA;subst ab aA;rfl
 rw[dA (fun h=>hu (G9.1 (by simpa using h)))];have Ru:L (Int.gcd n d)≠[]:=fun h=>by have:=uc.1 h;omega
 rw[D3 (jr _) (jr _) Ru BU Fb,fA (by omega),fA (by omega)];simp only[dB];rw[D3 (jr _) (jr _) Ru JO Fb,fA (by omega),fA (by omega)];simp only[dB];rw[bC,J,qt (by omega)];simp only[dB];have bO:eU (decide (n<0)) (m.natAbs:Int)=m:=by refine YQ (p:=n.natAbs) (g:=Int.gcd n d) (by omega) dt ?_;rw[<- ab];unfold eU;by_cases h:n<0<;>simp[h]<;>omega
 rw[bO];rfl
theorem YR {m e:Int}(he:0<=e):vl (some (kq (m,e)))=some (aah (if fits (m.natAbs:Int)/\fits e then some (m,e) else none)):=by
 have bO:vl (some (kq (m,e)))=if (decide ((24:Int)<len_ R (L m.natAbs)))=true then some none else if (decide ((24:Int)<len_ R (L e)))=true then some none else some (some (kq (m,e))):=rfl;rw[bO,gE,gE];by_cases o:fits (m.natAbs:Int)
 ·have J:=(im (by omega)).2 o
  rw[dA (by simp;omega)];by_cases ab:fits e
  ·have aA:=(im he).2 ab;rw[dA (by simp;omega),dw ⟨o,ab⟩];rfl
  have aA : ¬(L e).length<=24:=fun h=>ab ((im he).1 h);rw[dw (by simp;omega),dA (fun h=>ab h.2)];rfl
 have aA : ¬(L m.natAbs).length<=24:=fun h=>o ((im (by omega)).1 h);rw[dw (by simp;omega),dA (fun h=>o h.1)];rfl
theorem NW {a b:Int}(bA:(L a.natAbs).length<=900000)(aN:(L b.natAbs).length<=900000):ov (hb a) (hb b)=some (hb (a*b)):=by unfold ov;simp only[AD,DR];rw[DP (kx _) (kx _) (by omega) (by omega),fA (by omega),fA (by omega)];simp only[dD,dB];rw[qt (Int.mul_nonneg (by omega) (by omega)),YO];rfl
theorem X2:(1000000000000000000000000000:Int)<=B 24:=by
 have h:B 3<=B 24:=tZ (by omega);have ab:B 3=1000000000000000000000000000:=by decide
 omega
theorem Nx {n:Int}(h:oP n):nW n=some (hb n):=by
 obtain⟨o,J⟩:=ms.1 h;unfold nW;by_cases aV:n<0
 ·rw[dw (by simpa using aV),cI (x:=n+1) (by omega) (by omega),cI (x:=0-(n+1)) (by omega) (by omega),Be (x:=0-(n+1)) (by omega) (by omega),Be (by omega) (by omega),GZ (by omega) (by omega)];simp only[dD,dB];rw[qt (by omega)];simp only[dB];congr 2;unfold eU;simp;omega
 rw[dA (by simpa using aV),Be (by omega) (by omega),GZ (by omega) (by omega)];simp only[dD,dB];rw[qt (by omega)];simp only[dB];congr 2
theorem ZD:L 1=[1]:=DX (by omega)
theorem Xl {n:Int}(h:oP n):l7 n=some (some (kq (n,1))):=by unfold l7;rw[Nx h];simp only[dD,dB,kq,ZD]
theorem YS {n:Int}(h:oP n):Fr (n,1):=by obtain⟨o,J⟩:=ms.1 h;have aN:=X2;exact⟨by simp,by simp,by simp only;omega,by simp only;omega⟩
theorem DE {p:Int×Int}{d:Int}(bz:0<=d)(o:(L p.1.natAbs).length<=900000)(J:(L d).length<=900000):qn (some (kq p)) (L d)=some (hb (p.1*d)):=by
 have ao:qq (kq p).p3.cJ (L d)=some (L ((p.1.natAbs:Int)*d)):=by show qq (L p.1.natAbs) (L d)=_;rw[DP (kx _) (kx _) (by omega) (by omega),fA (by omega),fA (by omega)]
 have Fu:0<=(p.1.natAbs:Int)*d:=Int.mul_nonneg (by omega) (by omega);have bT:kY (kq p).p3.c5 (L ((p.1.natAbs:Int)*d))=some (hb (p.1*d)):=by show kY (decide (p.1<0)) _=_;rw[qt Fu,X0]
 unfold qn;rw[dD,dB,ao,dD,dB,bT];rfl
theorem H3 {a d:Int}(bz:0<=d):((a*d).natAbs:Int)=(a.natAbs:Int)*d:=by rw[Int.natAbs_mul,Int.natCast_mul];congr 1;omega
theorem UM {p q:Int×Int}{i j k l:Nat}(ah:0<p.2)(a2:0<q.2)(o:(p.1.natAbs:Int)<B i)(J:p.2<B j)(ab:(q.1.natAbs:Int)<B k)(aA:q.2<B l)(ae:i<=1000)(av:j<=1000)(aQ:k<=1000)(aF:l<=1000):xU (some (kq p)) (some (kq q))=some (lq (p.1*q.2) (q.1*p.2)):=by have mS:=(im (by omega)).2 o;have pz:=(im (by omega)).2 J;have Fs:=(im (by omega)).2 ab;have jn:=(im (by omega)).2 aA;have bJ:=HH (x:=p.1.natAbs) (y:=q.2) (by omega) (by omega) o aA;have bp:=HH (x:=q.1.natAbs) (y:=p.2) (by omega) (by omega) ab J;unfold xU;rw[dD,dB];show (qn (some (kq p)) (L q.2)).bind _=_;rw[DE (by omega) (by omega) (by omega),dB,dD,dB];show (qn (some (kq q)) (L p.2)).bind _=_;rw[DE (by omega) (by omega) (by omega),dB,LR (by rw[H3 (by omega)];omega) (by rw[H3 (by omega)];omega)];rfl
theorem VH (n:Int):Af n=some (decide (0<=n/\n<=1000)):=by unfold Af;by_cases h:0<=n<;>simp[h]
theorem Ha:maxLen=9223372036854775807:=by decide
def qx (fU:afB)(m:bV):Bool :=
 decide (0<=m.gy/\m.gy<fU.length/\0<=m.gz/\m.gz<fU.length/\1<=m.jB/\m.jB<=3) &&
 match fU[m.gy.toNat]?,fU[m.gz.toNat]? with
 | some a,some b=> !(a.lF == b.lF && a.lG == b.lG) && !(a.n5 && b.n5)
 | _,_=>false
theorem Vc (s:cp)(m:bV):zL s m=some (qx s.cm m):=by
 unfold zL qx;simp only[hf];by_cases o:m.gy<0
 ·simp[o];omega
 by_cases J:(s.cm.length:Int)<=m.gy
 ·simp[o,J];omega
 by_cases ab:m.gz<0
 ·simp[o,J,ab];omega
 by_cases aA:(s.cm.length:Int)<=m.gz
 ·simp[o,J,ab,aA];omega
 by_cases aJ:m.jB<1
 ·simp[o,J,ab,aA,aJ];omega
 by_cases bC:3<m.jB
 ·simp[o,J,ab,aA,aJ,bC];omega
 obtain⟨x,aa⟩ : ∃x,s.cm[m.gy.toNat]? = some x:=⟨_,dx (by omega)⟩;obtain⟨y,aP⟩ : ∃y,s.cm[m.gz.toNat]? = some y:=⟨_,dx (by omega)⟩;have bB:0<=m.gy/\m.gy<s.cm.length:=by omega
 have cF:0<=m.gz/\m.gz<s.cm.length:=by omega
 have l4:0<=m.gy/\m.gy<s.cm.length/\0<=m.gz/\m.gz<s.cm.length/\1<=m.jB/\m.jB<=3:=by omega
 rw[decide_eq_false o,decide_eq_false J,decide_eq_false ab,decide_eq_false aA,decide_eq_false aJ,decide_eq_false bC,decide_eq_true l4,dw bB,aa];simp only[afk,if_false,dD,dB,Bool.true_and];rw[dw cF,aP];simp only[dB];by_cases ao:x.lF=y.lF<;>by_cases aB:x.lG=y.lG<;>by_cases E9:x.n5=true<;>by_cases JJ:y.n5=true<;>simp[ao,aB,E9,JJ]
def kd (s:cp):Prop:=(∀(n:Nat) j,s.cm[n]? = some j-> -50<=j.lF/\j.lF<=50/\ -50<=j.lG/\j.lG<=50)/\(∀(n:Nat) m,s.bs[n]? = some m->qx s.cm m=true)/\s.cm.length<=6/\s.bs.length<=8
theorem X3 (s:cp)(h:kd s)(k:Int)(h0:0<=k)(o:k<s.bs.length):
 ∃x y,rU s k=some (x,y)/\(-100<=x/\x<=100)/\(-100<=y/\y<=100):=by
 obtain⟨f1,f2,f3,f4⟩:=h;obtain⟨m,hm⟩ : ∃x,s.bs[k.toNat]? = some x:=⟨_,dx (by omega)⟩;have JP:=f2 _ m hm;unfold qx at JP;simp only[afd,decide_eq_true_eq] at JP;obtain⟨⟨g1,g2,g3,g4,-⟩,-⟩:=JP;obtain⟨a,bA⟩ : ∃x,s.cm[m.gy.toNat]? = some x:=⟨_,dx (by omega)⟩;obtain⟨b,aN⟩ : ∃x,s.cm[m.gz.toNat]? = some x:=⟨_,dx (by omega)⟩;have ae6:=f1 _ a bA;have ae7:=f1 _ b aN;have ao:U (b.lF-a.lF)=b.lF-a.lF:=cI (by omega) (by omega);have aB:U (b.lG-a.lG)=b.lG-a.lG:=cI (by omega) (by omega);have cj:0<=k/\k<s.bs.length:=⟨h0,o⟩;have bB:0<=m.gy/\m.gy<s.cm.length:=⟨g1,g2⟩;have cF:0<=m.gz/\m.gz<s.cm.length:=⟨g3,g4⟩;refine⟨b.lF-a.lF,b.lG-a.lG,?_,by omega,by omega⟩;unfold rU;simp only[dw cj,hm,dw bB,dw cF,bA,aN,dD,dB,ao,aB]
theorem Qa {j k:Int}(h0:0<=j)(h:j<=k):j*j<=k*k:=Int.mul_self_le_mul_self h0 h
theorem Ok {x:Int}(aa:-100<=x/\x<=100):x*x<=10000/\0<=x*x:=by
 rcases Int.le_total 0 x with h|h
 ·have:=Qa h aa.2;exact⟨by omega,Int.mul_nonneg h h⟩
 have:=Qa (j:= -x) (k:=100) (by omega) (by omega);rw[Int.neg_mul_neg] at this;exact⟨by omega,Int.mul_nonneg_of_nonpos_of_nonpos h h⟩
def Qb (p:Int×Int):afw:=some (kq p)
def uK (l:ar)(n:Nat)(x:Int):Prop:=0<=x/\x<1000000000/\(∀z,l[n]? = some z->x=z)/\(l[n]? = none->x=0)
theorem Ep {l:ar}(h:cy l){n:Nat}(aV:n<l.length):uK l n l[n]:=by have aa:=dx aV;have h0:=h.get aa;exact⟨h0.1,h0.2,fun z b5=>by rw[aa] at b5;exact dI b5,fun h=>by rw[aa] at h;simp at h⟩
theorem PA {l:ar}{n:Nat}(aV:¬n<l.length):uK l n 0:=by
 have aa:l[n]? = none:=by simp;omega
 exact⟨by omega,by omega,fun z b5=>by rw[aa] at b5;simp at b5,fun _=>rfl⟩
theorem uK.take {l:ar}{n:Nat}{x:Int}(h:uK l n x):V (l.take (n+1))=V (l.take n)+B n*x:=Oi h.2.2.1 h.2.2.2
theorem Wp {a b row:ar}{carry:Int}{n:Nat}(bA:cy a)(aN:cy b)(aL:carry=0\/carry=1)(tm:a.length<=1000000)(aV:n<a.length)(aj:n<row.length):
 ∃x y,uK a n x/\uK b n y/\xK a b a.length carry n row=some (.inl ((carry+x+y) / 1000000000,((n+1:Nat):Int),row.set n ((carry+x+y) % 1000000000))):=by
 have mF:0<=carry/\carry<=1:=by omega
 have hA:=Ep bA aV;have aa:=dx aV;have iG:=hA.1;have jl:=hA.2.1;unfold xK;simp only[gE];rw[dw (by simp;omega),dw (by omega),dz,aa];simp only[dD,dB];by_cases J:n<b.length
 ·have gV:=Ep aN J;have aP:=dx J;have gH:=gV.1;have h8:=gV.2.1;refine⟨a[n],b[n],hA,gV,?_⟩;rw[dw (by simp;omega),dw (by omega),aP];simp only[dB];rw[dw (by omega),dw (by omega),cI (x:=a[n]+carry) (by omega) (by omega),cI (x:=a[n]+carry+b[n]) (by omega) (by omega),tH (by omega),o8 (by omega),cI (by omega) (by omega),pX (n:=n) (by omega),dF,Int.add_comm a[n] carry]
 refine⟨a[n],0,hA,PA J,?_⟩;rw[dA (by simp;omega),dw (by omega),dw (by omega),cI (x:=a[n]+carry) (by omega) (by omega),tH (by omega),o8 (by omega),cI (by omega) (by omega),pX (n:=n) (by omega),dF,Int.add_zero,Int.add_comm a[n] carry]
theorem Wq {a b:ar}(bA:cy a)(aN:cy b)(tm:a.length<=900000)(rE:b.length<=a.length):
 ∃r,Dh a b a.length 0 0 (List.replicate (a.length+1) 0)=some r/\(r.1=0\/r.1=1)/\cy r.2/\r.2.length=a.length+1/\V r.2+r.1*B a.length=V a+V b/\r.2[a.length]? = some 0:=by
 refine j9 (eA:=fun w:Int×Int×ar=> ∃n:Nat,w.2.1=n/\n<=a.length/\(w.1=0\/w.1=1)/\cy w.2.2/\w.2.2.length=a.length+1/\V w.2.2+w.1*B n=V (a.take n)+V (b.take n)/\ ∀j,n<=j->j<a.length+1->w.2.2[j]? = some 0) (m:=fun w=>a.length-w.2.1.toNat) _ ?_ _ ⟨0,rfl,by omega,.inl rfl,cy.Jk _,by simp,by simp[V,Ic],fun j _ h=>by simp[List.getElem?_replicate];omega⟩;rintro⟨carry,ii,row⟩ ⟨n,ao,aB,bT,di,ew,fa,fc⟩;simp only at ao bT di ew fa fc ⊢;subst ao;by_cases aV:n=a.length
 ·subst aV;refine .inr ⟨(carry,row),by simp[xK],bT,di,ew,?_,fc _ (dE _) (by omega)⟩;rw[List.take_length,dT rE] at fa;exact fa
 obtain⟨x,y,aa,aP,ob⟩:=Wp (row:=row) (n:=n) bA aN bT (by omega) (by omega) (by omega);have x0:=aa.1;have fR:=aa.2.1;have RW:=aP.1;have fl:=aP.2.1;refine .inl ⟨_,ob,⟨n+1,rfl,by omega,by simp only;omega,di.set (by omega),by simpa using ew,?_,fun j o J=> ?_⟩,by simp only;omega⟩
 ·simp only;rw[sc (fc n (dE _) (by omega)),mw,aa.take,aP.take];have:=Int.mul_ediv_add_emod (carry+x+y) 1000000000;generalize (carry+x+y) / 1000000000=u at *;generalize (carry+x+y) % 1000000000=t at *;have ch:t=carry+x+y-1000000000*u:=(by omega);rw[ch];grind
 simp only;rw[List.getElem?_set_ne (by omega)];exact fc j (by omega) J
theorem NX {a b:ar}(bA:cy a)(aN:cy b)(tm:a.length<=900000)(rE:b.length<=a.length):
 (if 0<=(U ((len_ R a)+(1:Int)))/\(8:Int)*(U ((len_ R a)+(1:Int)))<=281474976710656/\(U ((len_ R a)+(1:Int)))<9223372036854775808 then
   (Dh a b (len_ R a) 0 0 (List.replicate (U ((len_ R a)+(1:Int))).toNat 0:ar)).bind fun bb =>
   if 0<=(len_ R a)/\(len_ R a)<(bb.2.length:Nat) then
   if (0+(len_ R a).toNat)<bb.2.length then
   (qs (bb.2.set (0+(len_ R a).toNat) bb.1)).bind fun bU=>some bU
   else none
   else none
   else none)=some (L (V a+V b)):=by
 obtain⟨r,aj,o,J,ab,aA,aJ⟩:=Wq bA aN tm rE;rw[gE,pX (by omega),dw (by omega),dz,aj,dB,dw (by omega),dz,dF,dw (by omega)];have um:cy (r.2.set a.length r.1):=J.set (by omega);rw[yt um (by simp;omega),sc aJ,dB];congr 2;rw[<- aA];grind
theorem X4 {a b:ar}(bA:cy a)(aN:cy b)(tm:a.length<=900000)(abP:b.length<=900000):ye a b=some (L (V a+V b)):=by
 unfold ye;by_cases h:a.length<b.length
 ·rw[dw (by rw[gE,gE];simpa using h)];have:=NX aN bA abP (by omega);rw[Int.add_comm (V a)];exact this
 rw[dA (by rw[gE,gE];simpa using h)];exact NX bA aN tm (by omega)
theorem VI {a b row:ar}{less:Int}{n:Nat}(bA:cy a)(aN:cy b)(aF:less=0\/less=1)(tm:a.length<=1000000)(aV:n<a.length)(aj:n<row.length):
 ∃x y,uK a n x/\uK b n y/\xH b a a.length less n row=some (.inl (if x-less-y<0 then (1,((n+1:Nat):Int),row.set n (x-less-y+1000000000)) else (0,((n+1:Nat):Int),row.set n (x-less-y)))):=by
 have mF:0<=less/\less<=1:=by omega
 have hA:=Ep bA aV;have aa:=dx aV;have iG:=hA.1;have jl:=hA.2.1;unfold xH;simp only[gE];rw[dw (by simp;omega),dw (by omega),dz,aa];simp only[dD,dB];by_cases J:n<b.length
 ·have gV:=Ep aN J
  have aP:=dx J;have gH:=gV.1;have h8:=gV.2.1;refine⟨a[n],b[n],hA,gV,?_⟩;rw[dw (by simp;omega),dw (by omega),aP];simp only[dB];rw[cI (x:=a[n]-less) (by omega) (by omega),cI (x:=a[n]-less-b[n]) (by omega) (by omega),pX (n:=n) (by omega),cI (x:=a[n]-less-b[n]+1000000000) (by omega) (by omega),dF];by_cases h:a[n]-less-b[n]<0
  ·rw[dw (by simpa using h),dw h,dw (by omega),dw (by omega)]
  rw[dA (by simpa using h),dA h,dw (by omega),dw (by omega)]
 refine⟨a[n],0,hA,PA J,?_⟩;rw[dA (by simp;omega),cI (x:=a[n]-less) (by omega) (by omega),pX (n:=n) (by omega),cI (x:=a[n]-less+1000000000) (by omega) (by omega),dF,Int.sub_zero];by_cases h:a[n]-less<0
 ·rw[dw (by simpa using h),dw h,dw (by omega),dw (by omega)]
 rw[dA (by simpa using h),dA h,dw (by omega),dw (by omega)]
theorem Ol {a b:ar}(bA:cy a)(aN:cy b)(hlen:b.length<=a.length)(rE:V b<=V a)(tm:a.length<=900000):tS a b=some (L (V a-V b)):=by
 have : ∃r,Mz b a a.length 0 0 (List.replicate a.length 0)=some r/\cy r/\r.length=a.length/\V r=V a-V b:=by
  refine j9 (eA:=fun w:Int×Int×ar=> ∃n:Nat,w.2.1=n/\n<=a.length/\(w.1=0\/w.1=1)/\cy w.2.2/\w.2.2.length=a.length/\V w.2.2-w.1*B n=V (a.take n)-V (b.take n)/\ ∀j,n<=j->j<a.length->w.2.2[j]? = some 0) (m:=fun w=>a.length-w.2.1.toNat) _ ?_ _ ⟨0,rfl,by omega,.inl rfl,cy.Jk _,by simp,by simp[V,Ic],fun j _ h=>by simp[List.getElem?_replicate];omega⟩;rintro⟨less,ii,row⟩ ⟨n,ao,aB,bT,di,ew,fa,fc⟩;simp only at ao bT di ew fa fc ⊢;subst ao;by_cases aV:n=a.length
  ·subst aV;refine .inr ⟨row,by simp[xH],di,ew,?_⟩;rw[List.take_length,dT hlen] at fa;have J:=mz di;rw[ew] at J;rcases bT with rfl|rfl<;>omega
  obtain⟨x,y,aa,aP,ob⟩:=VI (row:=row) (n:=n) bA aN bT (by omega) (by omega) (by omega);have x0:=aa.1;have fR:=aa.2.1;have RW:=aP.1;have fl:=aP.2.1;rw[ob];refine .inl ⟨_,rfl,?_⟩;by_cases h:x-less-y<0
  ·rw[dw h]
   refine⟨⟨n+1,rfl,by omega,.inr rfl,di.set (by omega),by simpa using ew,?_,fun j o J=> ?_⟩,by simp only;omega⟩
   ·simp only;rw[sc (fc n (dE _) (by omega)),mw,aa.take,aP.take];grind
   simp only;rw[List.getElem?_set_ne (by omega)];exact fc j (by omega) J
  rw[dA h];refine⟨⟨n+1,rfl,by omega,.inl rfl,di.set (by omega),by simpa using ew,?_,fun j o J=> ?_⟩,by simp only;omega⟩
  ·simp only;rw[sc (fc n (dE _) (by omega)),aa.take,aP.take];grind
  simp only;rw[List.getElem?_set_ne (by omega)];exact fc j (by omega) J
 obtain⟨r,aj,o,J,ab⟩:=this;unfold tS;simp only[gE];rw[dw (by omega),dz,aj];simp only[dD,dB];rw[yt o (by omega),ab];rfl
theorem YT {a b:Int}(h:decide (a<0)=decide (b<0)):eU (decide (a<0)) ((a.natAbs:Int)+(b.natAbs:Int))=a+b:=by
 have cf:a<0↔b<0:=by simpa using h
 unfold eU;by_cases o:a<0
 ·have:=cf.1 o;simp only[o,decide_true,if_true];omega
 have : ¬b<0:=fun aN=>o (cf.2 aN);simp only[o,decide_false,afk,if_false];omega
theorem O1 {a b:Int}(h:¬decide (a<0)=decide (b<0)):eU (decide (a<0)) ((a.natAbs:Int)-(b.natAbs:Int))=a+b/\eU (decide (b<0)) ((b.natAbs:Int)-(a.natAbs:Int))=a+b:=by
 have cf : ¬(a<0↔b<0):=by simpa using h
 unfold eU;by_cases o:a<0
 ·have J : ¬b<0:=fun aN=>cf ⟨fun _=>aN,fun _=>o⟩;simp only[o,J,decide_true,if_true,decide_false,afk,if_false];omega
 have J:b<0:=by apply Classical.byContradiction;intro aN;exact cf ⟨fun h=>absurd h o,fun h=>absurd h aN⟩
 simp only[o,J,decide_true,if_true,decide_false,afk,if_false];omega
theorem Om {x y:Int}(aa:0<=x)(Jl:x<=y):(L x).length<=(L y).length:=by apply (im aa).2;have:=mz (kx y);rw[fA (by omega)] at this;omega
theorem On {a b:Int}(bA:(a.natAbs:Int)<B 50)(aN:(b.natAbs:Int)<B 50):tM (hb a) (hb b)=some (hb (a+b)):=by
 have Cx:=(im (k:=50) (n:=a.natAbs) (by omega)).2 bA;have Fv:=(im (k:=50) (n:=b.natAbs) (by omega)).2 aN;have bO:tM (hb a) (hb b)=((pJ (L a.natAbs) (L b.natAbs)).bind fun ad=>if (decide (a<0) == decide (b<0))=true then (ye (L a.natAbs) (L b.natAbs)).bind fun bu=>(kY (decide (a<0)) bu).bind fun aI=>some aI else if (decide ((0:Int)<=ad))=true then (tS (L a.natAbs) (L b.natAbs)).bind fun bh=>(kY (decide (a<0)) bh).bind fun bU=>some bU else (tS (L b.natAbs) (L a.natAbs)).bind fun bh=>(kY (decide (b<0)) bh).bind fun bU=>some bU):=rfl;rw[bO,Dt (jr _) (jr _) (by omega),fA (by omega),fA (by omega),dB];by_cases h:decide (a<0)=decide (b<0)
 ·rw[dw (by simpa using h),X4 (kx _) (kx _) (by omega) (by omega),fA (by omega),fA (by omega),dB,qt (by omega),YT h];rfl
 rw[dA (by simpa using h)];by_cases aL:(b.natAbs:Int)<=a.natAbs
 ·have JQ:0<=lq (a.natAbs:Int) b.natAbs:=by
   apply Int.not_lt.mp;intro o;have:=yu.1 o;omega
  rw[dw (by simpa using JQ),Ol (kx _) (kx _) (Om (by omega) aL) (by rw[fA (by omega),fA (by omega)];exact aL) (by omega),fA (by omega),fA (by omega),dB,qt (by omega),(O1 h).1];rfl
 have JQ : ¬0<=lq (a.natAbs:Int) b.natAbs:=by have:=yu.2 (show (a.natAbs:Int)<b.natAbs by omega);omega
 rw[dA (by simpa using JQ),Ol (kx _) (kx _) (Om (by omega) (by omega)) (by rw[fA (by omega),fA (by omega)];omega) (by omega),fA (by omega),fA (by omega),dB,qt (by omega),(O1 h).2];rfl
theorem PB {b:Int}:eU (!(decide (b<0))) (b.natAbs:Int) = -b:=by
 unfold eU;by_cases h:b<0
 ·simp only[h,decide_true,Bool.not_true,afk,if_false];omega
 simp only[h,decide_false,Bool.not_false,if_true];omega
theorem Wr {a b:Int}(bA:(a.natAbs:Int)<B 50)(aN:(b.natAbs:Int)<B 50):uZ (hb a) (hb b)=some (hb (a-b)):=by have bO:uZ (hb a) (hb b)=(((kY (!(decide (b<0))) (L b.natAbs)).bind fun r=>some r).bind fun ad=>(tM (hb a) ad).bind fun bb=>some bb):=rfl;rw[bO,qt (by omega),PB,dB,dB,On bA (by omega),dB,Int.sub_eq_add_neg]
theorem Fr.neg {q:Int×Int}(h:Fr q):Fr (-q.1,q.2):=⟨h.pos,by simp only;rw[Int.neg_gcd];exact h.Rs,by simp only;have:=h.num;omega,h.den⟩
theorem Oo {p q:Int×Int}(ah:Fr p)(a2:Fr q):((p.1*q.2).natAbs:Int)<B 48/\(L (p.1.natAbs*q.2:Int)).length<=48/\0<=(p.1.natAbs*q.2:Int):=by have bC:=a2.pos;have bJ:=HH (x:=p.1.natAbs) (y:=q.2) (by omega) (by omega) ah.num a2.den;have Fu:0<=(p.1.natAbs:Int)*q.2:=Int.mul_nonneg (by omega) (by omega);rw[H3 (by omega)];exact⟨(im Fu).1 bJ,bJ,Fu⟩
theorem PC:B 48+B 48<=B 50:=by have o:B 49<=B 50:=tZ (by omega);have J:=oJ 48;rw[mw] at o;omega
def mM (n:Int):Int:=if n=0 then 0 else if n<0 then -1 else 1
theorem Ws {p:Int×Int}:u2 (Qb p)=some (mM p.1):=by
 have bO:u2 (Qb p)=((if ((len_ R (L p.1.natAbs)) == (0:Int))=true then some 0 else if (decide (p.1<0))=true then some (-1) else some 1:afJ)).bind (fun r=>some r):=rfl;rw[bO,gE];unfold mM;by_cases h:p.1=0
 ·rw[dw (by rw[h];simp[pe]),dw h];rfl
 rw[dA (by simp only[beq_iff_eq];intro J;have:=(IF (n:=p.1.natAbs) (by omega)).1 J;omega),dA h];by_cases ab:p.1<0
 ·rw[dw (by simpa using ab),dw ab];rfl
 rw[dA (by simpa using ab),dA ab];rfl
def sY (n:Int):Bool:=decide (-100<=n/\n<=100)
def yL (FC:Nat)(l:ar):Bool:=decide (l.length=2*FC) && l.all sY
theorem VJ (n:Int):Ac n=some (sY n):=by unfold Ac sY;by_cases h : -100<=n<;>simp[h]
theorem M1 (s:cp)(Kd:s.cm.length<=6)(l:ar)(aF:l.length<=maxLen):sJ s l=some (yL s.cm.length l):=by
 have hm:=Ha;have hw:U (2*((s.cm.length:Nat):Int))=2*((s.cm.length:Nat):Int):=cI (by omega) (by omega);unfold sJ CD CF yL;simp only[hf,hw,dD];obtain⟨r,o,J⟩:=NS (f:=fun w=>wZ l (l.length:Nat) w) l (fun n=> !sY n) (fun n x aa=>by have dq:=fN aa;unfold wZ CZ;have c:(n:Int)<(l.length:Int):=(by omega);have dW:0<=(n:Int)/\(n:Int)<(l.length:Int):=(by omega);simp only[decide_eq_true c,if_true,dw dW,dz,aa,dD,dB,VJ];rw[nq (by omega)];cases sY x<;>rfl) (by simp[wZ]);have ur:KG l (l.length:Nat) 0=some r:=o;rw[ur];have aaj:(l.any fun n=> !sY n) = !l.all sY:=by rw[List.not_all_eq_any_not]
 rw[aaj] at J;by_cases e:l.length=2*s.cm.length
 ·have c:((l.length:Int) == 2*(s.cm.length:Int))=true:=by simp;omega
  rw[c];rcases J with ⟨k,rfl,aQ,bA⟩|⟨rfl,bA⟩
  ·simp only[Bool.not_eq_true'] at bA;simp[e,bA,aQ]
  simp only[Bool.not_eq_false'] at bA;simp[e,bA]
 have c:((l.length:Int) == 2*(s.cm.length:Int))=false:=by simp;omega
 rw[c];simp[e]
theorem mY {i:Int}{a:Nat}(h0:0<=i)(o:i<=100)(bA:a<=1):U (U (2*i)+(a:Int))=(((2*i+a).toNat:Nat):Int):=by rw[cI (x:=2*i) (by omega) (by omega),cI (by omega) (by omega)];omega
def JR (P:afH):cM->Prop
 | none=>True
 | some (k,c)=> ∃x,P[k]? = some x/\x.length=c/\c<=1048576
theorem JR.set {P:afH}{k:Nat}{x y:ar}(aa:P[k]? = some x)(aP:y.length=x.length){h:cM}(fH:JR P h):JR (P.set k y) h:=by
 cases h with
 | none=>trivial
 | some p =>
  obtain⟨j,c⟩:=p;obtain⟨z,o,J,ab⟩:=fH;by_cases av:k=j
  ·subst av;rw[aa] at o;obtain rfl:=dI o;exact⟨y,by rw[aff,dw rfl,dw (fN aa)],by omega,ab⟩
  exact⟨z,by rw[aff,dA av];exact o,J,ab⟩
def kz:afB->Nat->List Nat
 | [],_=>[]
 | x::l,n=>if x.n5 then kz l (n+1) else n::kz l (n+1)
theorem Hr : ∀(l:afB) (n i:Nat),i∈kz l n->n<=i/\i<n+l.length
 | [],n,i,h=>by simp[kz] at h
 | x::l,n,i,h=>by
  rw[kz] at h;simp only[dM];split at h
  ·have:=Hr l (n+1) i h;omega
  rcases dO.1 h with h|h
  ·omega
  have:=Hr l (n+1) i h;omega
theorem Oq : ∀(l:afB) (n:Nat),(kz l n).length<=l.length
 | [],n=>by simp[kz]
 | x::l,n=>by rw[kz];have:=Oq l (n+1);split<;>simp only[dM]<;>omega
theorem VK {l:afB}{n:Nat}{x:bn}(h:l[n]? = some x)(m:Nat):kz (l.drop n) m=if x.n5 then kz (l.drop (n+1)) (m+1) else m::kz (l.drop (n+1)) (m+1):=by rw[Of h,kz]
theorem Wt {f:Int×ar->Option ((Int×ar)⊕ar)}(fU:afB)(Kd:fU.length<=1000)
 (h : ∀(n:Nat) acc x,fU[n]? = some x->f ((n:Int),acc)=if x.n5=true then some (.inl (U ((n:Int)+1),acc)) else if (acc++[(n:Int)]).length*8<=140737488355328 then some (.inl (U ((n:Int)+1),acc++[(n:Int)])) else none)
 (he : ∀acc,f ((fU.length:Int),acc)=some (.inr acc)):iter f ((0:Int),[])=some ((kz fU 0).map (fun n:Nat=>(n:Int))):=by
 obtain⟨s,o,J⟩:=iv (fun (n:Nat) (acc:ar)=>((n:Int),acc)) fU.length (fun n acc=>acc++(kz (fU.drop n) n).map (fun n:Nat=>(n:Int))=(kz fU 0).map (fun n:Nat=>(n:Int))/\acc.length<=n) (fun acc=>acc) (f:=f) (fun n aV acc cT=>by
  obtain⟨cT,aF⟩:=cT;have aa:=dx aV;rw[VK aa] at cT;rw[h n acc _ aa,pX (by omega)];by_cases c:fU[n].n5=true
  ·rw[dw c] at cT ⊢;exact⟨_,rfl,cT,by omega⟩
  rw[dA c] at cT ⊢;rw[dw (by simp only[dH,dM,afp];omega)];refine⟨_,rfl,?_,by simp only[dH,dM,afp];omega⟩;rw[List.append_assoc];exact cT) (fun acc _=>he acc) [] ⟨by rw[List.drop_zero];rfl,by simp⟩
 obtain⟨J,-⟩:=J;rw[List.drop_length] at J;simp only[kz,List.map_nil,List.append_nil] at J;subst J;exact o
theorem Gy (s:cp)(Kd:s.cm.length<=1000):uQ s=some ((kz s.cm 0).map (fun n:Nat=>(n:Int))):=by
 unfold uQ KJ
 rw[hf,Wt s.cm Kd (fun n acc x aa=>by
  have aV:=fN aa;unfold zD;exact ff (cN (aD (gt rfl aa) rfl))) (fun acc=>by
  unfold zD;exact fY rfl)]
 rfl
def hlen:cM->Nat
 | none=>0
 | some (_,c)=>c
def gD (x:Rat):Int×Int:=(x.num,(x.den:Int))
def gb (x:Rat):Prop:=(x.num.natAbs:Int)<B 24/\(x.den:Int)<B 24
def lj (x:Rat):gL:=mk (gD x)
instance adB (x:Rat):Decidable (gb x):=by unfold gb;infer_instance
theorem gb.cY {x:Rat}(h:gb x):Fr (gD x):=⟨by have:=x.den_pos;simp only[gD];omega,by simp only[gD];rw[Int.gcd,Int.natAbs_natCast];exact x.reduced,h.1,h.2⟩
theorem D4 (x:Rat):((x.den:Int):Rat)*x=((x.num:Int):Rat):=by
 have h:x=(x.num:Rat) / ((x.den:Int):Rat):=by rw[<- Rat.divInt_eq_div,Rat.num_divInt_den]
 have bz:((x.den:Int):Rat)≠0:=fun c=>by have:(x.den:Int)=0:=Rat.intCast_inj.1 (by rw[c];rfl);have:=x.den_pos;omega
 conv=>lhs;rhs;rw[h]
 grind
theorem gb.neg {x:Rat}(h:gb x):gb (-x):=by unfold gb at h ⊢;rw[Rat.neg_num,Rat.neg_den,Int.natAbs_neg];exact h
def lC (x:Rat):Int:=if x=0 then 0 else if x<0 then -1 else 1
theorem yv {n:Int}(h:oP n):gb (n:Rat):=by have:=YS h;unfold gb;rw[Rat.num_intCast,Rat.den_intCast];exact⟨this.num,this.den⟩
theorem Xm {n d:Int}{x:Rat}(h0:d≠0)(e:(d:Rat)*x=n)(aV:(n.natAbs:Int)<B 24)(bz:(d.natAbs:Int)<B 24):gb x:=by
 have tj:(d:Rat)≠0:=fun c=>h0 (Rat.intCast_inj.1 (by rw[c];rfl));have aa:x=Rat.divInt n d:=by rw[Rat.divInt_eq_div,<- e];grind
 rw[aa];unfold gb;rw[Rat.num_divInt,Rat.den_divInt,dA h0];constructor
 ·have o:(d.sign*n / (d.gcd n:Int)).natAbs<=(d.sign*n).natAbs:=Int.natAbs_ediv_le_natAbs _ _;have J:(d.sign*n).natAbs<=n.natAbs:=(by rw[Int.natAbs_mul];have:d.sign.natAbs<=1:=(by rw[Int.natAbs_sign];split<;>omega);exact Nat.le_trans (afi _ this) (by omega));omega
 have:d.natAbs / d.gcd n<=d.natAbs:=Nat.div_le_self _ _;omega
theorem AE {x:Rat}:lC x=0↔x=0:=by
 unfold lC;split
 ·simp_all
 split<;>simp_all
theorem tV {x:Rat}:0<lC x↔0<x:=by
 unfold lC;split
 ·rename_i h;rw[h];simp
 split
 ·rename_i o J;constructor
  ·intro h;omega
  intro h;grind
 rename_i o J;constructor
 ·intro h;grind
 intro h;omega
def en (m:Nat)(t:b8):ar:=a4 m fun i=>((t.B i:Nat):Int)
theorem Ot {x y z w:Rat}(aP:0<y)(hw:0<w):(x / y<=z / w↔x*w<=z*y)/\(x / y=z / w↔x*w=z*y):=by
 have ao:x*w=(x / y)*(y*w):=by grind
 have aB:z*y=(z / w)*(y*w):=by grind
 have ah:0<y*w:=Rat.mul_pos aP hw;constructor
 ·rw[ao,aB]
  constructor
  ·intro h;exact Rat.mul_le_mul_of_nonneg_right h (Rat.le_of_lt ah)
  intro h;apply Classical.byContradiction;intro c;have:z / w<x / y:=(by grind);have:=Rat.mul_lt_mul_of_pos_right this ah;grind
 rw[ao,aB];constructor
 ·intro h;rw[h]
 intro h;have cx:y*w≠0:=by grind
 grind
def O2 (m N:Nat)(t:b8)(j:Nat)(r:Int):Prop :=
 (r = -1/\ ∀i,i<m-> ¬0<t.T i j)\/ ∃b:Nat,r=b/\b<m/\0<t.T b j/\(∀i,i<m->0<t.T i j->t.T b N*t.T i j<=t.T i N*t.T b j)/\(∀i,i<m->0<t.T i j->t.T b N*t.T i j=t.T i N*t.T b j->t.B b<=t.B i)
structure pw (p:n1) (m n:Nat) (a:Nat->Nat->Int) (b:Nat->Int):Prop where
 rows:p.kM=m
 hx:p.jY=n
 np:p.gy.length=m*n
 IG : ∀i,i<m-> ∀j,j<n->p.gy[i*n+j]? = some (a i j)
 RX:p.gz.length=m
 QC : ∀i,i<m->p.gz[i]? = some (b i)
 hm:m<=20
 aV:n<=40
 Cx : ∀i,i<m-> ∀j,j<n-> -100<=a i j/\a i j<=100
 Fv : ∀i,i<m-> -100<=b i/\b i<=100
theorem Bf {p:n1}{m n:Nat}{a:Nat->Nat->Int}{b:Nat->Int}(h:pw p m n a b){i:Nat}(ae:i<m)(j:Nat): -100<=nU m n a b i j/\nU m n a b i j<=100:=by
 have aN:=h.Fv i ae;unfold nU lA;by_cases c:j<n
 ·have bA:=h.Cx i ae j c;rw[dw c];split<;>omega
 rw[dA c];split
 ·split<;>omega
 split<;>omega
theorem ZE {p:n1}{m n:Nat}{a:Nat->Nat->Int}{b:Nat->Int}(h:pw p m n a b){i:Nat}(ae:i<m)(j:Nat):dc 100 (d4 m n a b i j) :=
 ⟨nU m n a b i j,rfl,by have:=Bf h ae j;omega⟩
theorem ug {K:Nat}{d x y:Rat}(bz:dc K d)(aP:dc K y)(h0:d≠0)(e:d*x=y)(gQ:(K:Int)<B 24):gb x:=by obtain⟨z,rfl,b5⟩:=bz;obtain⟨w,rfl,hw⟩:=aP;exact Xm (n:=w) (d:=z) (fun c=>h0 (by rw[c];rfl)) e (by omega) (by omega)
@[irreducible] def d6:Nat:=j0 100 20
theorem Er:j0 100 20=d6:=by unfold d6;rfl
theorem YU:((21*100*(d6*d6):Nat):Int)<B 24:=by decide +kernel
theorem qC:0<d6:=by decide +kernel
structure m8 (m N:Nat) (A:Nat->Nat->Rat) (t:b8):Prop where
 ok:fX m m N A t
 lg:t.kN m N
 tI:t.D m A≠0
structure Small (m N:Nat) (A:Nat->Nat->Rat):Prop where
 hm:m<=20
 oq : ∀c,c<m-> ∀j,j<=N->dc 100 (A c j)
theorem m8.Rv {m N:Nat}{A:Nat->Nat->Rat}(s:Small m N A){t:b8}(h:m8 m N A t):dc d6 (t.D m A):=by refine dc.mono (yB fun i ae c aL=>s.oq c aL _ (Nat.le_of_lt (h.ok.jQ i ae))) (Er▸yl (by omega) s.hm)
theorem m8.Fc {m N:Nat}{A:Nat->Nat->Rat}(s:Small m N A){t:b8}(h:m8 m N A t){i j:Nat}(ae:i<m)(av:j<=N):dc d6 (t.T i j*t.D m A):=by
 rw[<- h.ok.wO ae av];refine dc.mono (yB fun k aQ c aL=> ?_) (Er▸yl (by omega) s.hm);simp only[ga];split
 ·exact s.oq c aL j av
 exact s.oq c aL _ (Nat.le_of_lt (h.ok.jQ k aQ))
theorem sg {k:Nat}(h:k<=21*100*(d6*d6)):((k:Nat):Int)<B 24:=by have:=YU;omega
theorem BE:d6<=21*100*(d6*d6):=by have o:d6*1<=d6*d6:=Nat.mul_le_mul_left _ qC;omega
theorem m8.aak {m N:Nat}{A:Nat->Nat->Rat}(s:Small m N A){t:b8}(h:m8 m N A t){i j:Nat}(ae:i<m)(av:j<=N):gb (t.T i j) :=
 ug (h.Rv s) (h.Fc s ae av) h.tI (by grind) (sg BE)
theorem m8.aal {m N:Nat}{A:Nat->Nat->Rat}(s:Small m N A){t:b8}(h:m8 m N A t){i j:Nat}(ae:i<m)(av:j<=N)(ah:0<t.T i j):gb (t.T i N / t.T i j) :=
 ug (h.Fc s ae av) (h.Fc s ae (dE _)) (fun c=>by have o:=h.tI;have:t.T i j≠0:=(by grind);grind) (by grind) (sg BE)
theorem EE:21*100*d6<=21*100*(d6*d6):=by have o:d6*1<=d6*d6:=Nat.mul_le_mul_left _ qC;omega
theorem m8.gZ {m N K:Nat}{A obj:Nat->Nat->Rat}{bI:Nat->Prop}{t:b8}(h:m8 m N A t){r k:Nat}(b:pi m N K obj bI t r k):m8 m N A (t.cG r k) :=
 ⟨b.ok h.ok,b.BC h.lg,by rw[h.ok.Bc b.aj b.bO];have o:=b.pos;have J:=h.tI;intro c;have:t.T r k≠0:=(by grind);grind⟩
theorem aam {g:Nat->Rat}:hF 1 g↔0<g 0:=by
 constructor
 ·rintro⟨l,o,J,-⟩;rw[show l=0 by omega] at J;exact J
 intro h;exact⟨0,by omega,h,fun gh aF=>by omega⟩
theorem NY {p:n1}{m n:Nat}{a:Nat->Nat->Int}{b:Nat->Int}(h:pw p m n a b):Small m (n+m) (d4 m n a b):=⟨h.hm,fun c aL j _=>ZE h aL j⟩
def bL (x:Rat):bt:=hb x.num
@[irreducible] def j5:Nat:=1000000000 ^ 40
theorem QD:((j5:Nat):Int)+((j5:Nat):Int)<B 50:=by decide +kernel
theorem H4 {K:Nat}{x:Rat}(h:dc K x):((x.num:Int):Rat)=x/\x.num.natAbs<=K:=by obtain⟨z,rfl,b5⟩:=h;rw[Rat.num_intCast];exact⟨rfl,b5⟩
theorem oH (z:Int):bL (z:Rat)=hb z:=by unfold bL;rw[Rat.num_intCast]
theorem yD {x:Rat}(h:dc j5 x):(L x.num.natAbs).length<=50:=by have:=QD;have o:=(H4 h).2;exact(im (by omega)).2 (by omega)
theorem ym {x y:Rat}(aa:dc j5 x)(aP:dc j5 y):ov (bL x) (bL y)=some (bL (x*y)):=by have o:=yD aa;have J:=yD aP;obtain⟨a,rfl,-⟩:=aa;obtain⟨b,rfl,-⟩:=aP;rw[Rat.num_intCast] at o J;rw[oH,oH,<- afv,oH];exact NW (by omega) (by omega)
theorem Ou {x y:Rat}(aa:dc j5 x)(aP:dc j5 y):uZ (bL x) (bL y)=some (bL (x-y)):=by have gV:=QD;obtain⟨a,rfl,bA⟩:=aa;obtain⟨b,rfl,aN⟩:=aP;rw[oH,oH,<- Rat.intCast_sub,oH];exact Wr (by omega) (by omega)
theorem tW {x:Rat}(aa:dc j5 x):ox (bL x)=some (lC x):=by
 obtain⟨a,rfl,bA⟩:=aa;rw[oH];unfold ox lC;simp only[gE];have e:(((L a.natAbs).length:Nat):Int)=0↔a=0:=by rw[IF (by omega)];omega
 show (if (((L a.natAbs).length:Int) == 0)=true then some 0 else if decide (a<0)=true then some (-1) else some 1)=_;by_cases h0:a=0
 ·rw[dw (by rw[beq_iff_eq,e];exact h0),dw (by rw[h0];rfl)]
 have abQ:(a:Rat)≠0:=fun c=>h0 (Rat.intCast_inj.1 (by rw[c];rfl));rw[dA (by rw[beq_iff_eq,e];exact h0),dA abQ];have aB:(a:Rat)<0↔a<0:=by rw[show (0:Rat)=((0:Int):Rat) from rfl,Rat.intCast_lt_intCast]
 by_cases o:a<0
 ·rw[dw (decide_eq_true o),dw (aB.2 o)]
 rw[dA (by simpa using o),dA (fun c=>o (aB.1 c))]
theorem VM {x y:Rat}(aa:dc j5 x)(aP:dc j5 y):rV (bL x) (bL y)=some (if x<y then -1 else if y<x then 1 else 0):=by have o:=yD aa;have J:=yD aP;obtain⟨a,rfl,-⟩:=aa;obtain⟨b,rfl,-⟩:=aP;rw[Rat.num_intCast] at o J;rw[oH,oH,LR (by omega) (by omega)];unfold lq;simp only[Rat.intCast_lt_intCast]
theorem M2 {x:Rat}(aa:dc j5 x):pG (bL x)=some (bL (-x)):=by obtain⟨a,rfl,-⟩:=aa;rw[oH,<- Rat.intCast_neg,oH];unfold pG;show (kY (!(decide (a<0))) (L a.natAbs)).bind _=_;rw[qt (by omega),PB];rfl
theorem sN {n:Int}(h:oP n):nW n=some (bL (n:Rat)):=by rw[oH];exact Nx h
theorem VN {x y:Rat}(aa:dc j5 x)(aP:dc j5 y)(Jl:dc j5 (x*y))(h0:y≠0):tK (bL (x*y)) (bL y)=some (bL x):=by
 have o:=yD Jl;have J:=yD aP;obtain⟨a,rfl,-⟩:=aa;obtain⟨b,rfl,-⟩:=aP;rw[<- afv] at o ⊢;rw[Rat.num_intCast] at o J;have aN:b≠0:=fun c=>h0 (by rw[c];rfl);rw[oH,oH,oH];unfold tK;show (sP (L (a*b).natAbs) (L b.natAbs)).bind _=_;rw[D3 (jr _) (jr _) (fun c=>by have:=uc.1 c;omega) (by omega) (by omega),fA (by omega),fA (by omega)];have ao:((a*b).natAbs:Int) / (b.natAbs:Int)=(a.natAbs:Int):=by rw[Int.natAbs_mul,Int.natCast_mul];exact Int.mul_ediv_cancel _ (by omega)
 simp only[dB];rw[ao];show (kY (!(decide (a*b<0) == decide (b<0))) (L a.natAbs)).bind _=_;rw[qt (by omega)];simp only[dB];congr 2;rcases Int.lt_or_gt_of_ne aN with c|c
 ·by_cases bA:a<0
  ·have : ¬a*b<0:=(by have:=Int.mul_pos_of_neg_of_neg bA c;omega);rw[decide_eq_false this,decide_eq_true c];simp only[eU,show (!(false == true))=true from rfl,if_true];omega
  by_cases b5:a=0
  ·subst b5;simp[eU]
  have:a*b<0:=Int.mul_neg_of_pos_of_neg (by omega) c;rw[decide_eq_true this,decide_eq_true c];simp only[eU,BEq.rfl,Bool.not_true,afk,if_false];omega
 by_cases bA:a<0
 ·have:a*b<0:=Int.mul_neg_of_neg_of_pos bA c;rw[decide_eq_true this,decide_eq_false (by omega)];simp only[eU,show (!(true == false))=true from rfl,if_true];omega
 have : ¬a*b<0:=by have:=Int.mul_nonneg (show 0<=a by omega) (show 0<=b by omega);omega
 rw[decide_eq_false this,decide_eq_false (by omega)];simp only[eU,BEq.rfl,Bool.not_true,afk,if_false];omega
def gS (N:Nat)(w:Rat)(t:b8)(i:Nat):afx:=a4 (N+1) fun j=>bL (t.T i j*w)
structure oa (m N:Nat) (w:Rat) (t:b8):Prop where
 pos:0<w
 hw:dc (21*100*d6) w
 h7 : ∀i,i<m-> ∀j,j<=N->dc d6 (t.T i j*w)
 gV : ∀i,i<m->t.B i<N
theorem Bg:21*100*d6*(21*100*d6)+21*100*d6*(21*100*d6)<=j5:=by decide +kernel
theorem aan {q i:Nat}(a2:0<q)(ae:i<=20):21*100*q*100+i*(q*100)<=21*100*q*(21*100*q):=by have o:i*(q*100)<=20*(q*100):=afi _ ae;have J:21*100*q*2100<=21*100*q*(21*100*q):=Nat.mul_le_mul_left _ (by omega);generalize 21*100*q*(21*100*q)=z at *;omega
theorem aao {i:Nat}(ae:i<=20):21*100*d6*100+i*(d6*100)<=j5 :=
 Nat.le_trans (aan qC ae) (Nat.le_trans (Nat.le_add_right _ _) Bg)
theorem tg {K:Nat}(h:K<=21*100*d6):K<=j5:=by have abR:=Bg;have o:21*100*d6*1<=21*100*d6*(21*100*d6):=Nat.mul_le_mul_left _ (by have:=qC;generalize d6=q at *;omega);rw[Nat.mul_one] at o;exact Nat.le_trans h (Nat.le_trans o (Nat.le_trans (Nat.le_add_right _ _) abR))
theorem O3 {m N:Nat}(hm:m<=20)(fS:N<1000){w:Rat}{t:b8}(h:oa m N w t)(I:Nat->Int)(ai:∀j,j<N-> -100<=I j/\I j<=100)(iO:bt)(yY:iO=bL w)(hx:Int)(free:afz){k:Nat}(aQ:k<N):
 xL ⟨a4 m (gS N w t),iO,en m t,hx,free⟩ (a4 N I) (k:Int)=some (lC (t.dd m (fun j=>(I j:Rat)) k)):=by
 subst yY;have aeK:=qC;have small : ∀ {x:Rat} {K:Nat},dc K x->K<=21*100*d6->dc j5 x:=fun o J=>o.mono (tg J);have af : ∀j,j<N->dc 100 ((I j:Int):Rat):=fun j av=>⟨I j,rfl,by have:=ai j av;omega⟩;have Rw : ∀j,j<N->oP (I j):=fun j av=>by have:=ai j av;rw[ms];omega
 let S:Nat->Rat:=fun i=>w*(I k:Rat)-b3 i (fun i=>(t.T i k*w)*(I (t.B i):Rat))
 have sA : ∀i,i<=m->dc j5 (S i):=fun i ae=>by have ao:dc (21*100*d6*100) (w*(I k:Rat)):=h.hw.mul (af k aQ);have aB:dc (i*(d6*100)) (b3 i (fun i=>(t.T i k*w)*(I (t.B i):Rat))):=dc.sum fun eM iC=>(h.h7 eM (by omega) k (by omega)).mul (af _ (h.gV eM (by omega)));exact(ao.sub aB).mono (aao (by omega))
 unfold xL;refine cN (aD (x:=I k) (by rw[dz];exact gX aQ) (aD (sN (Rw k aQ)) (aD (ym (small h.hw (dE _)) (small (af k aQ) (by omega))) ?_)))
 obtain⟨s,e,-⟩:=iv (f:=fun q:Int×Bool×ar=>xg (a4 m (gS N w t)) (bL w).c5 (bL w).cJ (en m t) hx free (a4 N I) (k:Int) ((m:Nat):Int) q.1 q.2.1 q.2.2)
  (fun (i:Nat) (_:Unit)=>((i:Int),(bL (S i)).c5,(bL (S i)).cJ)) m (fun _ _=>True) (fun _=>((bL (S m)).c5,(bL (S m)).cJ))
  (fun i ae _ _=>by
    refine⟨(),?_,trivial⟩;have Fe:=h.gV i ae;have Cg:S (i+1)=S i-(t.T i k*w)*(I (t.B i):Rat):=(by simp only[S,b3];grind);unfold xg;refine ff (dX (by unfold en;rw[eK];simp only;omega) (aD (x:=((t.B i:Nat):Int)) (by simp only;rw[dz];exact gX ae) (cN (aD (x:=I (t.B i)) (by rw[dz];exact gX Fe) (Cp (fun c=> ?_) (fun c=> ?_))))))
    ·refine cN (aD (x:=gS N w t i) (by simp only;rw[dz];exact gX ae) (dX (by unfold gS;rw[eK];omega) (aD (x:=bL (t.T i k*w)) (by rw[dz];exact gX (by omega)) (aD (tW (small (h.h7 i ae k (by omega)) (by omega))) (Cp (fun cF=> ?_) (fun cF=> ?_))))))
     ·refine aD (sN (Rw _ Fe)) (aD (ym (small (h.h7 i ae k (by omega)) (by omega)) (small (af _ Fe) (by omega))) (aD (Ou (sA i (by omega)) (by
       exact small ((h.h7 i ae k (by omega)).mul (af _ Fe)) (by omega))) ?_))
      simp only;rw[fP (by omega),Cg]
     have b5:t.T i k*w=0:=AE.1 (by simpa using cF);simp only;rw[fP (by omega),Cg,b5,show S i-0*(I (t.B i):Rat)=S i by grind]
    have b5:I (t.B i)=0:=(by simpa using c);simp only;rw[fP (by omega),Cg,b5,show S i-t.T i k*w*((0:Int):Rat)=S i by rw[show ((0:Int):Rat)=0 from rfl];grind])
  (fun _ _=>by unfold xg;exact fY rfl) () trivial
 have e0:S 0=w*(I k:Rat):=by simp only[S,b3];grind
 rw[e0] at e;refine aD (x:=((bL (S m)).c5,(bL (S m)).cJ)) (by unfold Lj;rw[gE,show (en m t).length=m from eK ..];exact e) (aD (x:=lC (S m)) (tW (sA m (dE _))) ?_);congr 1;have aB:S m=w*t.dd m (fun j=>(I j:Rat)) k:=by simp only[S];unfold b8.dd;rw[ft (f:=fun i=>t.T i k*w*(I (t.B i):Rat)) (g:=fun i=>w*((I (t.B i):Rat)*t.T i k)) (fun i _=>by grind),ik];grind
 rw[aB];have ah:=h.pos;unfold lC;by_cases c:t.dd m (fun j=>(I j:Rat)) k=0
 ·rw[dw c,dw (by rw[c];grind)]
 rw[dA c,dA (by grind)];by_cases cF:t.dd m (fun j=>(I j:Rat)) k<0
 ·rw[dw cF,dw];have:=Rat.mul_pos ah (show 0 < -(t.dd m (fun j=>(I j:Rat)) k) by grind);grind
 rw[dA cF,dA];have:=Rat.mul_pos ah (show 0<t.dd m (fun j=>(I j:Rat)) k by grind);grind
theorem Ov {x y z v w:Rat}(hw:0<w)(aP:0<y)(aZ:0<v):(x*w)*(v*w)<(z*w)*(y*w)↔x / y<z / v:=by
 have ao:(x*w)*(v*w)=(x / y)*((y*v)*(w*w)):=by grind
 have aB:(z*w)*(y*w)=(z / v)*((y*v)*(w*w)):=by grind
 have ah:0<(y*v)*(w*w):=Rat.mul_pos (Rat.mul_pos aP aZ) (Rat.mul_pos hw hw);rw[ao,aB];constructor
 ·intro h;apply Classical.byContradiction;intro c;have:z / v<=x / y:=(by grind);have:=Rat.mul_le_mul_of_nonneg_right this (Rat.le_of_lt ah);grind
 intro h;exact Rat.mul_lt_mul_of_pos_right h ah
theorem yw {x w:Rat}(hw:0<w):lC (x*w)=lC x:=by
 unfold lC;by_cases c:x=0
 ·rw[dw c,dw (by rw[c];grind)]
 rw[dA c,dA (by grind)];by_cases cF:x<0
 ·rw[dw cF,dw];have:=Rat.mul_pos (show 0 < -x by grind) hw;grind
 rw[dA cF,dA];have:=Rat.mul_pos (show 0<x by grind) hw;grind
theorem VO {m N:Nat}(hm:m<=20)(fS:N<1000){w:Rat}{t:b8}(h:oa m N w t)(iO:bt)(free:afz){k:Nat}(aQ:k<=N):
 ∃r,zN ⟨a4 m (gS N w t),iO,en m t,(N:Int),free⟩ (k:Int)=some r/\O2 m N t k r:=by
 have hw:=h.pos;have nV : ∀i,i<m-> ∀j,j<=N->dc j5 (t.T i j*w):=fun i ae j av=>(h.h7 i ae j av).mono (tg (by have:=qC;generalize d6=q at *;omega));have Cy : ∀i,i<m-> ∀j,j<=N-> ∀eM,eM<m-> ∀hP,hP<=N->dc j5 (t.T i j*w*(t.T eM hP*w)):=fun i ae j av eM iC hP sn=>((h.h7 i ae j av).mul (h.h7 eM iC hP sn)).mono (by refine Nat.le_trans ?_ (Nat.le_trans (Nat.le_add_right _ _) Bg);exact Nat.mul_le_mul (by generalize d6=q;omega) (by generalize d6=q;omega));unfold zN
 obtain⟨r,e,aj⟩:=rf (f:=fun q:Int×Int=>w6 (a4 m (gS N w t)) iO.c5 iO.cJ (en m t) (N:Int) free (k:Int) ((m:Nat):Int) q.1 q.2)
  (fun (i:Nat) (s:Int)=>(s,(i:Int))) m
  (fun n s=>(s = -1/\ ∀i,i<n-> ¬0<t.T i k)\/ ∃b:Nat,s=b/\b<n/\0<t.T b k/\ ∀i,i<n->0<t.T i k->t.T b N / t.T b k<t.T i N / t.T i k\/(t.T b N / t.T b k=t.T i N / t.T i k/\t.B b<=t.B i))
  (fun r=>O2 m N t k r)
  (fun n aV s cT=>by
    left;unfold w6;have g1:0<=((n:Nat):Int)/\((n:Nat):Int)<((a4 m (gS N w t)).length:Nat):=(by rw[eK];omega);have g2:(a4 m (gS N w t))[((n:Nat):Int).toNat]? = some (gS N w t n):=(by rw[dz];exact gX aV);have g3 : ∀b,0<=((k:Nat):Int)/\((k:Nat):Int)<((gS N w t b).length:Nat):=fun b=>(by unfold gS;rw[eK];omega);have g4 : ∀b,(gS N w t b)[((k:Nat):Int).toNat]? = some (bL (t.T b k*w)):=fun b=>(by rw[dz];exact gX (by omega));have g5 : ∀b,0<=((N:Nat):Int)/\((N:Nat):Int)<((gS N w t b).length:Nat):=fun b=>(by unfold gS;rw[eK];omega);have g6 : ∀b,(gS N w t b)[((N:Nat):Int).toNat]? = some (bL (t.T b N*w)):=fun b=>(by rw[dz];exact gX (by omega));have iI:U ((n:Int)+1)=((n+1:Nat):Int):=fP (by omega);have rD:ox (bL (t.T n k*w))=some (lC (t.T n k)):=(by rw[tW (nV n aV k aQ),yw hw]);by_cases ah:0<t.T n k
    ·have bO : ¬lC (t.T n k)<=0:=by have:=tV.2 ah;omega
     rcases cT with ⟨o,J⟩|⟨b,o,aN,l2,ab⟩
     ·refine⟨(n:Int),ff (dX g1 (aD g2 (dX (g3 n) (aD (g4 n) (aD rD (j4 bO (ff ?_))))))),.inr ⟨n,rfl,by omega,ah,fun i ae ni=> ?_⟩⟩
      ·simp only;rw[iI]
      by_cases c:i=n
      ·subst c;exact .inr ⟨rfl,dE _⟩
      exact(J i (by omega) ni).elim
     subst o;have abS:0<=((b:Nat):Int)/\((b:Nat):Int)<((a4 m (gS N w t)).length:Nat):=(by rw[eK];omega);have abT:(a4 m (gS N w t))[((b:Nat):Int).toNat]? = some (gS N w t b):=by rw[dz];exact gX (by omega)
     have gc:rV (bL (t.T n N*w*(t.T b k*w))) (bL (t.T b N*w*(t.T n k*w)))=some (if t.T n N / t.T n k<t.T b N / t.T b k then -1 else if t.T b N / t.T b k<t.T n N / t.T n k then 1 else 0):=by
      rw[VM (Cy n aV N (by omega) b (by omega) k aQ) (Cy b (by omega) N (by omega) n aV k aQ)];have ad:=Ov (x:=t.T n N) (y:=t.T n k) (z:=t.T b N) (v:=t.T b k) hw ah l2;have bu:=Ov (x:=t.T b N) (y:=t.T b k) (z:=t.T n N) (v:=t.T n k) hw l2 ah;by_cases bB:t.T n N / t.T n k<t.T b N / t.T b k
      ·rw[dw bB,dw (ad.2 bB)]
      rw[dA bB,dA (fun c=>bB (ad.1 c))];by_cases cF:t.T b N / t.T b k<t.T n N / t.T n k
      ·rw[dw cF,dw (bu.2 cF)]
      rw[dA cF,dA (fun c=>cF (bu.1 c))]
     have lead : ∀ {x r:Option ((Int×Int)⊕Int)} {f:Int->Option ((Int×Int)⊕Int)} {q:Int},rV (bL (t.T n N*w*(t.T b k*w))) (bL (t.T b N*w*(t.T n k*w)))=some q->f q=r ->
      (if 0<=((N:Nat):Int)/\((N:Nat):Int)<((gS N w t n).length:Nat) then
        (gS N w t n)[((N:Nat):Int).toNat]? >>= fun oZ =>
        if 0<=((b:Nat):Int)/\((b:Nat):Int)<((a4 m (gS N w t)).length:Nat) then
        (a4 m (gS N w t))[((b:Nat):Int).toNat]? >>= fun mi =>
        if 0<=((k:Nat):Int)/\((k:Nat):Int)<(mi.length:Nat) then
        mi[((k:Nat):Int).toNat]? >>= fun rG =>
        ov oZ rG >>= fun hd =>
        if 0<=((N:Nat):Int)/\((N:Nat):Int)<(mi.length:Nat) then
        mi[((N:Nat):Int).toNat]? >>= fun tt =>
        ov tt (bL (t.T n k*w)) >>= fun nL =>
        rV hd nL >>= f
        else none else none else none else none)=r:=fun a2 b0 =>
      dX (g5 n) (aD (g6 n) (dX abS (aD abT (dX (g3 b) (aD (g4 b) (aD (ym (nV n aV N (by omega)) (nV b (by omega) k aQ)) (dX (g5 b) (aD (g6 b) (aD (ym (nV b (by omega) N (by omega)) (nV n aV k aQ)) (aD a2 b0))))))))))
     by_cases bB:t.T n N / t.T n k<t.T b N / t.T b k
     ·rw[dw bB] at gc
      refine⟨(n:Int),ff (dX g1 (aD g2 (dX (g3 n) (aD (g4 n) (aD rD (j4 bO (fY (lead (x:=none) gc (ff ?_))))))))),.inr ⟨n,rfl,by omega,ah,fun i ae ni=> ?_⟩⟩
      ·simp only;rw[iI]
      by_cases c:i=n
      ·subst c;exact .inr ⟨rfl,dE _⟩
      rcases ab i (by omega) ni with h|⟨h,-⟩
      ·left;grind
      left;rw[<- h];exact bB
     rw[dA bB] at gc;by_cases cF:t.T b N / t.T b k<t.T n N / t.T n k
     ·rw[dw cF] at gc
      refine⟨(b:Int),ff (dX g1 (aD g2 (dX (g3 n) (aD (g4 n) (aD rD (j4 bO (fY (lead (x:=none) gc (fY (hk (by decide) ?_)))))))))),.inr ⟨b,rfl,by omega,l2,fun i ae ni=> ?_⟩⟩
      ·simp only;rw[iI]
      by_cases c:i=n
      ·subst c;exact .inl cF
      exact ab i (by omega) ni
     rw[dA cF] at gc;have abU:t.T b N / t.T b k=t.T n N / t.T n k:=(by grind);have Rx:0<=((n:Nat):Int)/\((n:Nat):Int)<((en m t).length:Nat):=(by unfold en;rw[eK];omega);have Ry:(en m t)[((n:Nat):Int).toNat]? = some ((t.B n:Nat):Int):=(by rw[dz];exact gX aV);have Rz:0<=((b:Nat):Int)/\((b:Nat):Int)<((en m t).length:Nat):=(by unfold en;rw[eK];omega);have RA:(en m t)[((b:Nat):Int).toNat]? = some ((t.B b:Nat):Int):=(by rw[dz];exact gX (by omega));by_cases l4:t.B n<t.B b
     ·refine⟨(n:Int),ff (dX g1 (aD g2 (dX (g3 n) (aD (g4 n) (aD rD (j4 bO (fY (lead (x:=none) gc (fY (eP rfl (dX Rx (aD Ry (dX Rz (aD RA (ff ?_))))))))))))))),.inr ⟨n,rfl,by omega,ah,fun i ae ni=> ?_⟩⟩
      ·simp only;rw[iI]
      by_cases c:i=n
      ·subst c;exact .inr ⟨rfl,dE _⟩
      rcases ab i (by omega) ni with h|⟨h,cf⟩
      ·left;grind
      right;exact⟨by grind,by omega⟩
     refine⟨(b:Int),ff (dX g1 (aD g2 (dX (g3 n) (aD (g4 n) (aD rD (j4 bO (fY (lead (x:=none) gc (fY (eP rfl (dX Rx (aD Ry (dX Rz (aD RA (fY ?_))))))))))))))),.inr ⟨b,rfl,by omega,l2,fun i ae ni=> ?_⟩⟩
     ·simp only;rw[iI]
     by_cases c:i=n
     ·subst c;exact .inr ⟨abU,by omega⟩
     exact ab i (by omega) ni
    have bO:lC (t.T n k)<=0:=(by have : ¬0<lC (t.T n k):=fun c=>ah (tV.1 c);omega);refine⟨s,ff (dX g1 (aD g2 (dX (g3 n) (aD (g4 n) (aD rD (lf bO ?_)))))),?_⟩
    ·simp only;rw[iI]
    rcases cT with ⟨o,J⟩|⟨b,o,aN,l2,ab⟩
    ·exact .inl ⟨o,fun i ae=>if c:i=n then c▸ah else J i (by omega)⟩
    exact .inr ⟨b,o,by omega,l2,fun i ae ni=>if c:i=n then (ah (c▸ni)).elim else ab i (by omega) ni⟩)
  (fun s cT=>by
    refine⟨s,by unfold w6;exact fY rfl,?_⟩;rcases cT with ⟨o,J⟩|⟨b,o,aN,l2,ab⟩
    ·exact .inl ⟨o,J⟩
    refine .inr ⟨b,o,aN,l2,fun i ae ni=> ?_,fun i ae ni he=> ?_⟩
    ·rw[<- (Ot l2 ni).1]
     rcases ab i ae ni with h|⟨h,-⟩
     ·exact Rat.le_of_lt h
     rw[h];exact Rat.le_refl
    rw[<- (Ot l2 ni).2] at he;rcases ab i ae ni with h|⟨-,h⟩
    ·rw[he] at h;grind
    exact h) (-1:Int) (.inl ⟨rfl,fun i ae=>by omega⟩)
 refine⟨r,aD ?_ rfl,aj⟩;unfold K2;rw[hf,eK];exact e
def gw (m N:Nat)(h:Nat->Nat):afE:=a4 m fun i=>some (h i,N+1)
structure kk (m N M:Nat) (h:Nat->Nat) (w:Rat) (t:b8) (d3:afy):Prop where
 len:d3.length=M
 row : ∀i,i<m->d3[h i]? = some (gS N w t i)
theorem Dj {α:Type}{l:List α}{i:Nat}{x y:α}(h:l[i]? = some x):(l.set i y)[i]? = some y:=by rw[aff,dw rfl,dw (afl.1 h).1]
theorem G1 {α:Type}{l:List α}{i k:Nat}{y:α}(h:i≠k):(l.set i y)[k]? = l[k]? := by rw[aff,dA h]
theorem set_set {α:Type}(l:List α)(i:Nat)(x y:α):(l.set i x).set i y=l.set i y:=by rw[List.set_set]
structure th (m N:Nat) (w:Rat) (t:b8) (r k:Nat):Prop where
 aj:r<m
 aQ:k<N
 ah:t.T r k≠0
 zs : ∀i,i<m-> ∀j,j<=N->dc d6 ((t.cG r k).T i j*(t.T r k*w))
theorem Xn {m N:Nat}(fS:N<1000){h:Nat->Nat}{w:Rat}{t:b8}{r k:Nat}(f:oa m N w t)(g:th m N w t r k){i:Nat}(ae:i<m)(abV:i≠r)(cx:h i≠h r){d3:afy}(o:d3[h i]? = some (gS N w t i))(J:d3[h r]? = some (gS N w t r))
 (fR e9:Int) (aS:Int) (aT:afE) (bf:ar) (cb:afz) (v1 v2:Int) :
 FN v1 v2 (some (h r,N+1)) (some (h i,N+1)) fR e9 (((N+1:Nat):Nat):Int) (bL w).c5 (bL w).cJ aS aT bf cb (bL (t.T r k*w)).c5 (bL (t.T r k*w)).cJ (bL (t.T i k*w)).c5 (bL (t.T i k*w)).cJ 0 d3=some (d3.set (h i) (gS N (t.T r k*w) (t.cG r k) i)):=by
 have hw:=f.pos;have nV : ∀i,i<m-> ∀j,j<=N->dc j5 (t.T i j*w):=fun i ae j av=>(f.h7 i ae j av).mono (tg (by have:=qC;generalize d6=q at *;omega));have acJ:dc j5 w:=f.hw.mono (tg (dE _));have acK : ∀i,i<m-> ∀j,j<=N->dc j5 ((t.cG r k).T i j*(t.T r k*w)):=fun i ae j av=>(g.zs i ae j av).mono (tg (by have:=qC;generalize d6=q at *;omega));have Cy : ∀i,i<m-> ∀j,j<=N-> ∀eM,eM<m-> ∀hP,hP<=N->dc j5 (t.T i j*w*(t.T eM hP*w)):=fun i ae j av eM iC hP sn=>((f.h7 i ae j av).mul (f.h7 eM iC hP sn)).mono (by refine Nat.le_trans ?_ (Nat.le_trans (Nat.le_add_right _ _) Bg);exact Nat.mul_le_mul (by generalize d6=q;omega) (by generalize d6=q;omega));have abW : ∀j,j<=N->dc j5 ((t.cG r k).T i j*(t.T r k*w)*w):=fun j av=>((g.zs i ae j av).mul f.hw).mono (by refine Nat.le_trans ?_ (Nat.le_trans (Nat.le_add_right _ _) Bg);exact Nat.mul_le_mul (by generalize d6=q;omega) (dE _));have aj:=g.aj;have aQ:=g.aQ;have ah:=g.ah;have Ke : ∀j,(t.cG r k).T i j=t.T i j-t.T i k*(t.T r j / t.T r k):=fun j=>by simp[b8.cG,abV]
 have IX:w≠0:=by grind
 unfold FN
 obtain⟨s,e,-⟩:=iv (f:=fun q:Int×afy=>w7 v1 v2 (some (h r,N+1)) (some (h i,N+1)) fR e9 (((N+1:Nat):Nat):Int) (bL w).c5 (bL w).cJ aS aT bf cb (bL (t.T r k*w)).c5 (bL (t.T r k*w)).cJ (bL (t.T i k*w)).c5 (bL (t.T i k*w)).cJ q.1 q.2)
  (fun (c:Nat) (_:Unit)=>((c:Int),d3.set (h i) (a4 (N+1) fun j=>if j<c then bL ((t.cG r k).T i j*(t.T r k*w)) else bL (t.T i j*w)))) (N+1) (fun _ _=>True)
  (fun _=>d3.set (h i) (gS N (t.T r k*w) (t.cG r k) i))
  (fun c aL _ _=>by
    refine⟨(),?_,trivial⟩
    have fin:(some (Sum.inl (U ((c:Int)+1),(d3.set (h i) (a4 (N+1) fun j=>if j<c then bL ((t.cG r k).T i j*(t.T r k*w)) else bL (t.T i j*w))).set (h i) ((a4 (N+1) fun j=>if j<c then bL ((t.cG r k).T i j*(t.T r k*w)) else bL (t.T i j*w)).set (0+((c:Int)).toNat) (bL ((t.cG r k).T i c*(t.T r k*w)))))):Option ((Int×afy)⊕afy)) =
     some (Sum.inl (((c+1:Nat):Int),d3.set (h i) (a4 (N+1) fun j=>if j<c+1 then bL ((t.cG r k).T i j*(t.T r k*w)) else bL (t.T i j*w)))):=by
     rw[fP (by omega),dz,dF,set_set,k2];congr 4;refine fx fun j _=> ?_;by_cases bB:j=c
     ·subst bB;rw[dw rfl,dw (by omega)]
     rw[dA bB];by_cases cF:j<c
     ·rw[dw cF,dw (by omega)]
     rw[dA cF,dA (by omega)]
    have hq:tK (bL ((t.cG r k).T i c*(t.T r k*w)*w)) (bL w)=some (bL ((t.cG r k).T i c*(t.T r k*w))):=VN (acK i ae c (by omega)) acJ (abW c (by omega)) IX;unfold w7;refine ff (aD (x:=(h i,N+1)) rfl (aD (x:=a4 (N+1) fun j=>if j<c then bL ((t.cG r k).T i j*(t.T r k*w)) else bL (t.T i j*w)) (by simp only;exact Dj o) (cN (aD (x:=bL (t.T i c*w)) (by simp only;rw[dz,jy aL,dA (by omega)]) ?_))));refine aD (ym (nV i ae c (by omega)) (nV r aj k (by omega))) (aD (tW (nV i ae k (by omega))) (Cp (fun d=> ?_) (fun d=> ?_)))
    ·refine aD (x:=(h r,N+1)) rfl (aD (x:=gS N w t r) (by simp only;rw[G1 cx];exact J) (cN (aD (x:=bL (t.T r c*w)) (by simp only;rw[dz];exact jy aL) (aD (tW (nV r aj c (by omega))) (Cp (fun pB=> ?_) (fun pB=> ?_))))))
     ·refine aD (ym (nV i ae k (by omega)) (nV r aj c (by omega))) (aD (Ou (Cy i ae c (by omega) r aj k (by omega)) (Cy i ae k (by omega) r aj c (by omega))) (aD ?_ fin));rw[show t.T i c*w*(t.T r k*w)-t.T i k*w*(t.T r c*w)=(t.cG r k).T i c*(t.T r k*w)*w by rw[Ke];grind];exact hq
     have b5:t.T r c=0:=(by have:=AE.1 (by simpa using pB);grind);refine aD ?_ fin;rw[show t.T i c*w*(t.T r k*w)=(t.cG r k).T i c*(t.T r k*w)*w by rw[Ke,b5];grind];exact hq
    have b5:t.T i k=0:=(by have:=AE.1 (by simpa using d);grind);refine aD ?_ fin;rw[show t.T i c*w*(t.T r k*w)=(t.cG r k).T i c*(t.T r k*w)*w by rw[Ke,b5];grind];exact hq)
  (fun _ _=>by unfold w7;refine fY ?_;simp only;congr 3;exact fx fun j av=>by rw[dw av]) () trivial
 have e0:d3.set (h i) (a4 (N+1) fun j=>if j<0 then bL ((t.cG r k).T i j*(t.T r k*w)) else bL (t.T i j*w))=d3:=by
  have:(a4 (N+1) fun j=>if j<0 then bL ((t.cG r k).T i j*(t.T r k*w)) else bL (t.T i j*w))=gS N w t i:=fx fun j _=>(by rw[dA (by omega)]);rw[this];apply afo;intro c;rw[aff];split
  ·rename_i e;subst e;rw[dw (afl.1 o).1,o]
  rfl
 rw[e0] at e;exact e
theorem Xo {m N:Nat}(fS:N<1000){h:Nat->Nat}{w:Rat}{t:b8}(h7:∀i,i<m-> ∀j,j<=N->dc d6 (t.T i j*w)){i:Nat}(ae:i<m){d3:afy}(o:d3[h i]? = some (gS N w t i))
 (fR e9:Int) (gH:Bool) (h8:ar) (aS:Int) (aT:afE) (bf:ar) (cb:afz) :
 FP (some (h i,N+1)) fR e9 (((N+1:Nat):Nat):Int) gH h8 aS aT bf cb 0 d3=some (d3.set (h i) (gS N (-w) t i)):=by
 have nV : ∀j,j<=N->dc j5 (t.T i j*w):=fun j av=>(h7 i ae j av).mono (tg (by have:=qC;generalize d6=q at *;omega));unfold FP
 obtain⟨s,e,-⟩:=iv (f:=fun q:Int×afy=>w9 (some (h i,N+1)) fR e9 (((N+1:Nat):Nat):Int) gH h8 aS aT bf cb q.1 q.2)
  (fun (c:Nat) (_:Unit)=>((c:Int),d3.set (h i) (a4 (N+1) fun j=>if j<c then bL (t.T i j * -w) else bL (t.T i j*w)))) (N+1) (fun _ _=>True)
  (fun _=>d3.set (h i) (gS N (-w) t i))
  (fun c aL _ _=>by
    refine⟨(),?_,trivial⟩;unfold w9;refine ff (aD (x:=(h i,N+1)) rfl (aD (x:=a4 (N+1) fun j=>if j<c then bL (t.T i j * -w) else bL (t.T i j*w)) (by simp only;exact Dj o) (cN (aD (x:=bL (t.T i c*w)) (by simp only;rw[dz,jy aL,dA (by omega)]) (aD (M2 (nV c (by omega))) ?_)))));simp only;rw[fP (by omega),dz,dF,set_set,k2];congr 4;refine fx fun j _=> ?_;by_cases bB:j=c
    ·subst bB;rw[dw rfl,dw (by omega)];congr 1;grind
    rw[dA bB];by_cases cF:j<c
    ·rw[dw cF,dw (by omega)]
    rw[dA cF,dA (by omega)])
  (fun _ _=>by unfold w9;refine fY ?_;simp only;congr 3;exact fx fun j av=>by rw[dw av]) () trivial
 have e0:d3.set (h i) (a4 (N+1) fun j=>if j<0 then bL (t.T i j * -w) else bL (t.T i j*w))=d3:=by
  have:(a4 (N+1) fun j=>if j<0 then bL (t.T i j * -w) else bL (t.T i j*w))=gS N w t i:=fx fun j _=>(by rw[dA (by omega)]);rw[this];apply afo;intro c;rw[aff];split
  ·rename_i e;subst e;rw[dw (afl.1 o).1,o]
  rfl
 rw[e0] at e;exact e
def oT (w:Rat)(t:b8)(r k:Nat):Rat:=if 0<t.T r k then t.T r k*w else -(t.T r k*w)
theorem O4 {m N M:Nat}(hm:m<=20)(fS:N<1000){h:Nat->Nat}(inj:∀i,i<m-> ∀k,k<m->h i=h k->i=k){w:Rat}{t:b8}{r k:Nat}(f:oa m N w t)(g:th m N w t r k){d3:afy}(f6:kk m N M h w t d3)(hx:Int)(free:afz):
 ∃jf,xq r k (bL w).c5 (bL w).cJ hx (gw m N h) d3 (en m t) free=some ((bL (oT w t r k)).c5,(bL (oT w t r k)).cJ,jf,en m (t.cG r k))/\kk m N M h (oT w t r k) (t.cG r k) jf:=by
 have aj:=g.aj;have aQ:=g.aQ;have ah:=g.ah;have hw:=f.pos;have nV : ∀i,i<m-> ∀j,j<=N->dc j5 (t.T i j*w):=fun i ae j av=>(f.h7 i ae j av).mono (tg (by have:=qC;generalize d6=q at *;omega));have RY:gS N (t.T r k*w) (t.cG r k) r=gS N w t r:=fx fun j _=>by simp only[b8.cG,if_true];congr 1;grind
 have zA:(gw m N h).length=m:=eK ..;unfold xq
 obtain⟨gN,ao,mS,ad⟩:=iv (f:=fun q:Int×afy=>w8 (r:Int) (k:Int) (some (h r,N+1)) ((m:Nat):Int) (bL w).c5 (bL w).cJ hx (gw m N h) (en m t) free (bL (t.T r k*w)).c5 (bL (t.T r k*w)).cJ q.1 q.2)
  (fun (i:Nat) (p:afy)=>((i:Int),p)) m (fun n p=>p.length=M/\ ∀i,i<m->p[h i]? = some (if i=r\/i<n then gS N (t.T r k*w) (t.cG r k) i else gS N w t i)) (fun p=>p)
  (fun n aV p cT=>by
    obtain⟨aF,cT⟩:=cT;unfold w8;by_cases c:n=r
    ·subst c
     refine⟨p,ff (dX (by rw[zA];simp only;omega) (aD (x:=some (h n,N+1)) (by simp only;rw[dz];exact jy aV) (eP (by simp) ?_))),aF,fun i ae=> ?_⟩
     ·simp only;rw[fP (by omega)]
     rw[cT i ae];by_cases bB:i=n\/i<n
     ·rw[dw bB,dw (by omega)]
     rw[dA bB,dA (by omega)]
    have cx:h n≠h r:=fun e=>c (inj n aV r aj e);have o:p[h n]? = some (gS N w t n):=(by rw[cT n aV,dA (by omega)]);have J:p[h r]? = some (gS N w t r):=(by rw[cT r aj,dw (.inl rfl),RY]);refine⟨p.set (h n) (gS N (t.T r k*w) (t.cG r k) n),ff (dX (by rw[zA];simp only;omega) (aD (x:=some (h n,N+1)) (by simp only;rw[dz];exact jy aV) (hk (by simp;omega) (aD (x:=(h n,N+1)) rfl (aD o (cN (aD (x:=bL (t.T n k*w)) (by rw[dz];exact jy (by omega)) (aD (Xn fS f g aV c cx o J _ _ _ _ _ _ _ _) ?_)))))))),by rw[List.length_set];exact aF,fun i ae=> ?_⟩
    ·simp only;rw[fP (by omega)]
    by_cases bB:i=n
    ·subst bB;rw[Dj o,dw (.inr (by omega))]
    rw[G1 (fun e=>bB (inj i ae n aV e.symm)),cT i ae];by_cases cF:i=r\/i<n
    ·rw[dw cF,dw (by omega)]
    rw[dA cF,dA (by omega)])
  (fun p _=>by unfold w8;exact fY rfl) d3 ⟨f6.len,fun i ae=>by
    rw[f6.row i ae];by_cases c:i=r
    ·rw[dw (.inl c),c,RY]
    rw[dA (by omega)]⟩
 have RB : ∀i,i<m->gN[h i]? = some (gS N (t.T r k*w) (t.cG r k) i):=fun i ae=>by rw[ad i ae,dw (.inr ae)]
 have aap:(en m t).set (0+((r:Int)).toNat) (k:Int)=en m (t.cG r k):=by rw[dz,dF];unfold en;rw[k2];exact fx fun i _=>by simp only[b8.cG];split<;>rfl
 have lead :
  (if 0<=(r:Int)/\(r:Int)<((gw m N h).length:Nat) then
    (gw m N h)[(0+((r:Int)).toNat)]? >>= fun e9 =>
    e9 >>= fun pE =>
    d3[pE.1]? >>= fun zz =>
    if 0<=(k:Int)/\(k:Int)<(pE.2:Nat) then
    zz[(0+((k:Int)).toNat)]? >>= fun gu =>
    FO (r:Int) (k:Int) e9 (((gw m N h).length:Nat):Int) (bL w).c5 (bL w).cJ hx (gw m N h) (en m t) free gu.c5 gu.cJ 0 d3 >>= fun c4 =>
    if 0<=(r:Int)/\(r:Int)<((en m t).length:Nat) then
    if (0+((r:Int)).toNat)<(en m t).length then
    ox gu >>= fun eH =>
    if (decide ((0:Int)<eH))=true then
     some (gu.c5,gu.cJ,c4,(en m t).set (0+((r:Int)).toNat) (k:Int))
    else
     pG gu >>= fun eu =>
     CI (((gw m N h).length:Nat):Int) eu.c5 eu.cJ hx (gw m N h) ((en m t).set (0+((r:Int)).toNat) (k:Int)) free 0 c4 >>= fun jh =>
     some (eu.c5,eu.cJ,jh,(en m t).set (0+((r:Int)).toNat) (k:Int))
    else none else none else none else none)=(if (decide ((0:Int)<lC (t.T r k)))=true then
     some ((bL (t.T r k*w)).c5,(bL (t.T r k*w)).cJ,gN,en m (t.cG r k))
    else
     pG (bL (t.T r k*w)) >>= fun eu =>
     CI ((m:Nat):Int) eu.c5 eu.cJ hx (gw m N h) (en m (t.cG r k)) free 0 gN >>= fun jh =>
     some (eu.c5,eu.cJ,jh,en m (t.cG r k))):=by
  refine dX (by rw[zA];omega) (aD (x:=some (h r,N+1)) (by rw[dz];exact jy aj) (aD (x:=(h r,N+1)) rfl (aD (f6.row r aj) (cN (aD (x:=bL (t.T r k*w)) (by rw[dz];exact jy (by omega)) (aD (x:=gN) (by unfold FO;rw[zA];exact ao) (dX (by unfold en;rw[eK];omega) (dX (by unfold en;rw[eK,dz];omega) (aD (tW (nV r aj k (by omega))) ?_)))))))));rw[yw hw,aap,zA]
 by_cases iS:0<t.T r k
 ·have rQ:oT w t r k=t.T r k*w:=dw iS;refine⟨gN,lead.trans ?_,mS,fun i ae=>by rw[rQ];exact RB i ae⟩;rw[rQ];exact lf (tV.2 iS) rfl
 have rQ:oT w t r k = -(t.T r k*w):=dA iS
 obtain⟨hQ,aB,pz,bu⟩:=iv (f:=fun q:Int×afy=>xa ((m:Nat):Int) (bL (-(t.T r k*w))).c5 (bL (-(t.T r k*w))).cJ hx (gw m N h) (en m (t.cG r k)) free q.1 q.2)
  (fun (i:Nat) (p:afy)=>((i:Int),p)) m (fun n p=>p.length=M/\ ∀i,i<m->p[h i]? = some (if i<n then gS N (-(t.T r k*w)) (t.cG r k) i else gS N (t.T r k*w) (t.cG r k) i)) (fun p=>p)
  (fun n aV p cT=>by
    obtain⟨aF,cT⟩:=cT;have o:p[h n]? = some (gS N (t.T r k*w) (t.cG r k) n):=(by rw[cT n aV,dA (by omega)]);unfold xa;refine⟨p.set (h n) (gS N (-(t.T r k*w)) (t.cG r k) n),ff (dX (by rw[zA];simp only;omega) (aD (x:=some (h n,N+1)) (by simp only;rw[dz];exact jy aV) (aD (x:=(h n,N+1)) rfl (aD o (aD (Xo fS g.zs aV o _ _ _ _ _ _ _ _) ?_))))),by rw[List.length_set];exact aF,fun i ae=> ?_⟩
    ·simp only;rw[fP (by omega)]
    by_cases bB:i=n
    ·subst bB;rw[Dj o,dw (by omega)]
    rw[G1 (fun e=>bB (inj i ae n aV e.symm)),cT i ae];by_cases cF:i<n
    ·rw[dw cF,dw (by omega)]
    rw[dA cF,dA (by omega)])
  (fun p _=>by unfold xa;exact fY rfl) gN ⟨mS,fun i ae=>by rw[RB i ae,dA (by omega)]⟩
 refine⟨hQ,lead.trans ?_,pz,fun i ae=>by rw[rQ,bu i ae,dw ae]⟩;rw[rQ];exact j4 (fun c=>iS (tV.1 c)) (aD (M2 (nV r aj k (by omega))) (aD (x:=hQ) (by unfold CI;exact aB) rfl))
theorem MM {m:Nat}(hm:m<=1000)(t:b8)(j:Nat): ∃b,sM (en m t) (j:Int)=some b/\(b=true↔ ∃i,i<m/\t.B i=j):=by
 unfold sM AM GW
 obtain⟨r,e,h⟩:=rf (f:=fun w:Int=>sG (en m t) (j:Int) ((m:Nat):Int) w) (fun (i:Nat) (_:Unit)=>(i:Int)) m (fun i _=> ∀k,k<i->t.B k≠j)
  (fun r=>(∃i:Nat,r = .inr (i:Int)/\i<m/\t.B i=j)\/(r = .inl ()/\ ¬∃i,i<m/\t.B i=j))
  (fun i ae _ cT=>by
    unfold sG;by_cases c:t.B i=j
    ·right;exact⟨_,ff (dX (by unfold en;rw[eK];omega) (aD (x:=((t.B i:Nat):Int)) (by rw[dz];exact gX ae) (eP (by simp[c]) rfl))),.inl ⟨i,rfl,ae,c⟩⟩
    left;refine⟨(),ff (dX (by unfold en;rw[eK];omega) (aD (x:=((t.B i:Nat):Int)) (by rw[dz];exact gX ae) (hk (by simp;omega) (by rw[fP (by omega)])))),fun k aQ=> ?_⟩;by_cases e:k=i
    ·rw[e];exact c
    exact cT k (by omega))
  (fun _ cT=>⟨_,by unfold sG;exact fY rfl,.inr ⟨rfl,fun ⟨i,ae,e⟩=>cT i ae e⟩⟩) () (fun k aQ=>by omega)
 rw[gE,show (en m t).length=m from eK ..];rcases h with ⟨i,rfl,o,J⟩|⟨rfl,h⟩
 ·exact⟨true,aD (x:=(i:Int)) (aD e rfl) (by simp),by simp only[true_iff];exact⟨i,o,J⟩⟩
 exact⟨false,aD (x:=(-1:Int)) (aD e rfl) rfl,by simp[h]⟩
theorem AN {m N M:Nat}{h:Nat->Nat}{w:Rat}{t:b8}{d3:afy}(f6:kk m N M h w t d3):(gw m N h).all (wk d3)=true:=by
 rw[List.all_eq_true];intro x aa;obtain⟨i,ae,rfl⟩:=XV.1 aa;simp only[wk];have o:=f6.row i ae;have J:d3.getD (h i) []=gS N w t i:=by rw[afc,o];rfl
 rw[J,show (gS N w t i).length=N+1 from eK ..];simp[(afl.1 o).1]
theorem vr {m N M:Nat}{h:Nat->Nat}{w:Rat}{t:b8}{d3:afy}(f6:kk m N M h w t d3):(gw m N h).map (mg d3)=a4 m (gS N w t):=by unfold gw;rw[XW];exact fx fun i ae=>by have J:d3.getD (h i) []=gS N w t i:=(by rw[afc,f6.row i ae];rfl);simp only[mg];rw[J];exact dT (Nat.le_of_eq (eK ..))
theorem RC {m:Nat}{I:Nat->Rat}{t:b8}{j:Nat}:t.Fp m 1 (fun _=>I) j↔0<t.dd m I j:=aam (g:=fun _=>t.dd m I j)
theorem VP {ed m N M:Nat}{A:Nat->Nat->Rat}(hm:m<=20)(fS:N<1000){h:Nat->Nat}(inj:∀i,i<m-> ∀k,k<m->h i=h k->i=k){w:Rat}{t:b8}(ok:fX ed m N A t)(f:oa m N w t)(I:Nat->Int)(ai:∀j,j<N-> -100<=I j/\I j<=100)(cY:Nat->Bool)
 (acL : ∀r s,pi m N 1 (fun _ j=>(I j:Rat)) (fun j=>cY j=true) t r s->th m N w t r s) {d3:afy} (f6:kk m N M h w t d3) :
 ∃x,zI (N:Int) (bL w).c5 (bL w).cJ (gw m N h) d3 (en m t) (a4 N cY) (a4 N I) 0=some x /\
  ((x = .inl (false,(bL w).c5,(bL w).cJ,d3,en m t)/\ ∀j,j<N->cY j=true-> ¬0<t.dd m (fun j=>(I j:Rat)) j) \/
   (∃r s jf,x = .inl (true,(bL (oT w t r s)).c5,(bL (oT w t r s)).cJ,jf,en m (t.cG r s))/\pi m N 1 (fun _ j=>(I j:Rat)) (fun j=>cY j=true) t r s/\kk m N M h (oT w t r s) (t.cG r s) jf) \/
   (x = .inr ()/\ ∃s,s<N/\cY s=true/\0<t.dd m (fun j=>(I j:Rat)) s/\ ∀i,i<m-> ¬0<t.T i s)):=by
 unfold zI
 refine rf (f:=fun q:Int=>w3 (N:Int) (bL w).c5 (bL w).cJ (gw m N h) d3 (en m t) (a4 N cY) (a4 N I) q) (fun (i:Nat) (_:Unit)=>(i:Int)) N
  (fun n _=> ∀j,j<n->cY j=true-> ¬0<t.dd m (fun j=>(I j:Rat)) j) _ (fun n aV _ cT=> ?_) (fun _ cT=> ?_) () (fun j av=>by omega)
 ·have next : ∀(hc:cY n=true-> ¬0<t.dd m (fun j=>(I j:Rat)) n),∀j,j<n+1->cY j=true-> ¬0<t.dd m (fun j=>(I j:Rat)) j:=fun hc j av=>by
   by_cases c:j=n
   ·subst c;exact hc
   ·exact cT j (by omega)
  have g1:0<=((n:Nat):Int)/\((n:Nat):Int)<((a4 N cY).length:Nat):=(by rw[eK];omega);have g2:(a4 N cY)[(0+((n:Nat):Int).toNat)]? = some (cY n):=(by rw[dz];exact jy aV);have iI:U ((n:Int)+1)=((n+1:Nat):Int):=fP (by omega);unfold w3;by_cases ql:cY n=true;rotate_left
  ·left;have Ff:cY n=false:=(by simpa using ql);exact⟨(),ff (dX g1 (aD g2 (hk Ff (by rw[iI])))),next fun c=>(ql c).elim⟩
  obtain⟨b,gH,h8⟩:=MM (m:=m) (by omega) t n
  cases b with
  | true =>
   obtain⟨i,ae,gV⟩:=h8.1 rfl;left;refine⟨(),ff (dX g1 (aD g2 (eP ql (aD gH (eP rfl (by rw[iI])))))),next fun _=> ?_⟩
   rw[<- gV,ok.x7 _ ae];grind
  | false =>
   have dt:=O3 hm fS f I ai ((⟨(bL w).c5,(bL w).cJ⟩:bt)) rfl (N:Int) (a4 N cY) aV;by_cases sB:0<t.dd m (fun j=>(I j:Rat)) n
   ·obtain⟨q,aT,bf⟩:=VO hm fS f ((⟨(bL w).c5,(bL w).cJ⟩:bt)) (a4 N cY) (k:=n) (by omega)
    have bO : ¬lC (t.dd m (fun j=>(I j:Rat)) n)<=0:=(by have:=tV.2 sB;omega);right;rcases bf with ⟨rfl,J⟩|⟨b,rfl,aN,l2,ab,aA⟩
    ·exact⟨_,ff (dX g1 (aD g2 (eP ql (aD gH (hk rfl (dX (AN f6) (aD (by rw[vr f6];exact dt) (j4 bO (aD (by rw[vr f6];exact aT) (lf (by decide) rfl)))))))))),.inr (.inr ⟨rfl,n,aV,ql,sB,J⟩)⟩
    have cO:pi m N 1 (fun _ j=>(I j:Rat)) (fun j=>cY j=true) t b n:=⟨aV,ql,RC.2 sB,fun j av b0 dt=>cT j av b0 (RC.1 dt),aN,l2,ab,aA⟩;obtain⟨jf,ao,aB⟩:=O4 hm fS inj f (acL b n cO) f6 (N:Int) (a4 N cY);exact⟨_,ff (dX g1 (aD g2 (eP ql (aD gH (hk rfl (dX (AN f6) (aD (by rw[vr f6];exact dt) (j4 bO (aD (by rw[vr f6];exact aT) (fY (aD ao rfl))))))))))),.inr (.inl ⟨b,n,jf,rfl,cO,aB⟩)⟩
   left;have bO:lC (t.dd m (fun j=>(I j:Rat)) n)<=0:=(by have : ¬0<lC (t.dd m (fun j=>(I j:Rat)) n):=fun c=>sB (tV.1 c);omega);exact⟨(),ff (dX g1 (aD g2 (eP ql (aD gH (hk rfl (dX (AN f6) (aD (by rw[vr f6];exact dt) (lf bO (by rw[iI]))))))))),next fun _=>sB⟩
 exact⟨_,by unfold w3;exact fY rfl,.inl ⟨rfl,cT⟩⟩
def uo (N:Int)(qM:afE)(free:afz)(obj:ar)(s:Bool×ar×afy×ar):Option ((Bool×ar×afy×ar)⊕((Bool×ar×afy×ar)⊕(Bool×ar×afy×ar))) :=
 match zI N s.1 s.2.1 qM s.2.2.1 s.2.2.2 free obj 0 with
 | none=>none
 | some (.inl (true,bH))=>some (.inl bH)
 | some (.inl (false,bH))=>some (.inr (.inl bH))
 | some (.inr ())=>some (.inr (.inr s))
theorem Xp {N:Int}{qM:afE}{free:afz}{obj:ar}: ∀s r,iter (uo N qM free obj) s=some r->FI N qM free obj true s.1 s.2.1 s.2.2.1 s.2.2.2=some r:=by
 unfold FI;apply iter.partial_correctness (uo N qM free obj) (fun s r=>iter (fun w:Bool×Bool×ar×afy×ar=>uO N qM free obj w.1 w.2.1 w.2.2.1 w.2.2.2.1 w.2.2.2.2) (true,s.1,s.2.1,s.2.2.1,s.2.2.2)=some r);intro it ih s r aj
 cases aa:zI N s.1 s.2.1 qM s.2.2.1 s.2.2.2 free obj 0 with
 | none=>unfold uo at aj;rw[aa] at aj;simp at aj
 | some x =>
  have hm:uO N qM free obj true s.1 s.2.1 s.2.2.1 s.2.2.2=match x with
   | .inl fT=>(some (.inl (fT.1,fT.2.1,fT.2.2.1,fT.2.2.2.1,fT.2.2.2.2)))
   | .inr fT=>(some (.inr (.inr (s.1,s.2.1,s.2.2.1,s.2.2.2)))):=by
   unfold uO;refine eP rfl ?_
   cases x with
   | inl a=>exact aD aa rfl
   | inr a=>exact aD aa rfl
  unfold uo at aj;rw[aa] at aj;rw[iter];simp only;rw[hm]
  match x,aj with
  | .inl (true,bH),aj=>exact ih _ _ aj
  | .inl (false,bH),aj =>
   simp at aj;subst aj;show iter _ (false,bH.1,bH.2.1,bH.2.2.1,bH.2.2.2)=_;rw[iter];simp only;unfold uO;rfl
  | .inr (),aj =>
   simp at aj;subst aj;rfl
theorem Xq {ed m N M:Nat}{A:Nat->Nat->Rat}(hm:m<=20)(fS:N<1000){h:Nat->Nat}{w:Rat}{t:b8}(ok:fX ed m N A t)(f:oa m N w t)(I:Nat->Int)(ai:∀j,j<N-> -100<=I j/\I j<=100)(cY:Nat->Bool){d3:afy}(f6:kk m N M h w t d3):
 FJ (N:Int) (bL w).c5 (bL w).cJ (gw m N h) d3 (en m t) (a4 N I) 0 (a4 N cY)=some (a4 N fun j=>cY j && !decide (t.dd m (fun j=>(I j:Rat)) j<0)):=by
 unfold FJ
 obtain⟨s,e,-⟩:=iv (f:=fun q:Int×afz=>w4 (N:Int) (bL w).c5 (bL w).cJ (gw m N h) d3 (en m t) (a4 N I) q.1 q.2)
  (fun (i:Nat) (_:Unit)=>((i:Int),a4 N fun j=>if j<i then cY j && !decide (t.dd m (fun j=>(I j:Rat)) j<0) else cY j)) N (fun _ _=>True) (fun _=>a4 N fun j=>cY j && !decide (t.dd m (fun j=>(I j:Rat)) j<0))
  (fun n aV _ _=>by
    refine⟨(),?_,trivial⟩
    have same:cY n=(cY n && !decide (t.dd m (fun j=>(I j:Rat)) n<0))->(U ((n:Int)+1),a4 N fun j=>if j<n then cY j && !decide (t.dd m (fun j=>(I j:Rat)) j<0) else cY j)=(((n+1:Nat):Int),a4 N fun j=>if j<n+1 then cY j && !decide (t.dd m (fun j=>(I j:Rat)) j<0) else cY j):=fun he=>by
     rw[fP (by omega)];congr 1;refine fx fun j _=> ?_;by_cases c:j=n
     ·subst c;rw[dA (by omega),dw (by omega)];exact he
     by_cases cF:j<n
     ·rw[dw cF,dw (by omega)]
     rw[dA cF,dA (by omega)]
    have g1 : ∀F:Nat->Bool,0<=((n:Nat):Int)/\((n:Nat):Int)<((a4 N F).length:Nat):=fun F=>(by rw[eK];omega);have g2:(a4 N fun j=>if j<n then cY j && !decide (t.dd m (fun j=>(I j:Rat)) j<0) else cY j)[(0+((n:Nat):Int).toNat)]? = some (cY n):=(by rw[dz,jy aV,dA (by omega)]);unfold w4;by_cases ql:cY n=true
    ·obtain⟨b,gH,h8⟩:=MM (m:=m) (by omega) t n
     cases b with
     | true =>
      obtain⟨i,ae,gV⟩:=h8.1 rfl;refine ff (dX (g1 _) (aD g2 (eP ql (aD gH (eP rfl ?_)))));simp only;rw[same];rw[<- gV,ok.x7 _ ae,decide_eq_false (by grind)];simp
     | false =>
      have dt:=O3 hm fS f I ai ((⟨(bL w).c5,(bL w).cJ⟩:bt)) rfl (N:Int) (a4 N fun j=>if j<n then cY j && !decide (t.dd m (fun j=>(I j:Rat)) j<0) else cY j) aV
      have bO:lC (t.dd m (fun j=>(I j:Rat)) n)<0↔t.dd m (fun j=>(I j:Rat)) n<0:=by
       unfold lC;by_cases c:t.dd m (fun j=>(I j:Rat)) n=0
       ·rw[dw c,c];constructor
        ·intro h;omega
        intro h;grind
       rw[dA c];by_cases cF:t.dd m (fun j=>(I j:Rat)) n<0
       ·rw[dw cF];simp[cF]
       rw[dA cF];constructor
       ·intro h;omega
       intro h;exact(cF h).elim
      by_cases sB:t.dd m (fun j=>(I j:Rat)) n<0
      ·refine ff (dX (g1 _) (aD g2 (eP ql (aD gH (hk rfl (dX (AN f6) (aD (by rw[vr f6];exact dt) (lf (bO.2 sB) (cN ?_)))))))))
       simp only;rw[fP (by omega),dz,dF,k2];congr 3;refine fx fun j _=> ?_;by_cases c:j=n
       ·subst c;rw[dw rfl,dw (by omega),decide_eq_true sB];simp
       rw[dA c];by_cases cF:j<n
       ·rw[dw cF,dw (by omega)]
       rw[dA cF,dA (by omega)]
      refine ff (dX (g1 _) (aD g2 (eP ql (aD gH (hk rfl (dX (AN f6) (aD (by rw[vr f6];exact dt) (j4 (fun c=>sB (bO.1 c)) ?_))))))));simp only;rw[same];rw[decide_eq_false sB];simp
    have Ff:cY n=false:=(by simpa using ql);refine ff (dX (g1 _) (aD g2 (hk Ff ?_)));simp only;rw[same];rw[Ff];simp)
  (fun _ _=>by unfold w4;refine fY ?_;simp only;congr 2;exact fx fun j av=>by rw[dw av]) () trivial
 have e0:(a4 N fun j=>if j<0 then cY j && !decide (t.dd m (fun j=>(I j:Rat)) j<0) else cY j)=a4 N cY:=fx fun j _=>by rw[dA (by omega)]
 rw[e0] at e;exact e
theorem M3 {ed m N M:Nat}{A:Nat->Nat->Rat}(hm:m<=20)(fS:N<1000){h:Nat->Nat}(inj:∀i,i<m-> ∀k,k<m->h i=h k->i=k)(I:Nat->Int)(ai:∀j,j<N-> -100<=I j/\I j<=100)(cY:Nat->Bool)
 (Inv:Rat->b8->Prop) (inv : ∀w t,Inv w t->fX ed m N A t/\t.kN m N/\oa m N w t)
 (gZ : ∀w t r s,Inv w t->pi m N 1 (fun _ j=>(I j:Rat)) (fun j=>cY j=true) t r s->th m N w t r s/\Inv (oT w t r s) (t.cG r s)) {w:Rat} {t:b8} (cT:Inv w t) {d3:afy} (f6:kk m N M h w t d3) :
 ∃b bx cW jf ko,sC (bL w).c5 (bL w).cJ (N:Int) (gw m N h) d3 (en m t) (a4 N cY) (a4 N I)=some (b,(bL bx).c5,(bL bx).cJ,jf,en m cW,a4 N ko)/\Inv bx cW/\kk m N M h bx cW jf /\
  ((b=true/\(∀j,j<N->cY j=true-> ¬0<cW.dd m (fun j=>(I j:Rat)) j)/\ko=fun j=>cY j && !decide (cW.dd m (fun j=>(I j:Rat)) j<0))\/(b=false/\ ∃s,s<N/\cY s=true/\0<cW.dd m (fun j=>(I j:Rat)) s/\ ∀i,i<m-> ¬0<cW.T i s)):=by
 obtain⟨ok,lg,Ck⟩:=inv w t cT
 obtain⟨x,dr,cW,e,-,-,-,bx,jf,o,J,ab⟩:=Vx (ed:=ed) (m:=m) (N:=N) (K:=1) (A:=A) (obj:=fun _ j=>(I j:Rat)) (bI:=fun j=>cY j=true)
  (f:=uo (N:Int) (gw m N h) (a4 N cY) (a4 N I))
  (fun s t=> ∃w d3,s=((bL w).c5,(bL w).cJ,d3,en m t)/\Inv w t/\kk m N M h w t d3)
  (fun s x t=> ∃w d3,Inv w t/\kk m N M h w t d3/\((x = .inl ((bL w).c5,(bL w).cJ,d3,en m t)/\ ∀j,j<N->cY j=true-> ¬0<t.dd m (fun j=>(I j:Rat)) j) \/
    (x = .inr ((bL w).c5,(bL w).cJ,d3,en m t)/\ ∃s,s<N/\cY s=true/\0<t.dd m (fun j=>(I j:Rat)) s/\ ∀i,i<m-> ¬0<t.T i s)))
  (fun s t cv ok _=>by
    obtain⟨w,d3,rfl,cT,f6⟩:=cv;obtain⟨x,e,aa⟩:=VP hm fS inj ok (inv w t cT).2.2 I ai cY (fun r s b=>(gZ w t r s cT b).1) f6;rcases aa with ⟨rfl,aa⟩|⟨r,s,jf,rfl,cO,Ch⟩|⟨rfl,aa⟩
    ·left;exact⟨_,by unfold uo;simp only;rw[e],w,d3,cT,f6,.inl ⟨rfl,aa⟩⟩
    ·right;exact⟨_,r,s,by unfold uo;simp only;rw[e],cO,oT w t r s,jf,rfl,(gZ w t r s cT cO).2,Ch⟩
    left;exact⟨_,by unfold uo;simp only;rw[e],w,d3,cT,f6,.inr ⟨rfl,aa⟩⟩)
  (a:=((bL w).c5,(bL w).cJ,d3,en m t)) (t:=t) ⟨w,d3,rfl,cT,f6⟩ ok lg
 have aB:=Xp _ _ e;obtain⟨kl,aeL,abX⟩:=inv bx cW o;rcases ab with ⟨rfl,ab⟩|⟨rfl,ab⟩
 ·refine⟨true,bx,cW,jf,_,?_,o,J,.inl ⟨rfl,ab,rfl⟩⟩;unfold sC;exact aD aB (aD (Xq hm fS kl abX I ai cY J) rfl)
 refine⟨false,bx,cW,jf,cY,?_,o,J,.inr ⟨rfl,ab⟩⟩;unfold sC;exact aD aB rfl
def ha (m:Nat)(A:Nat->Nat->Rat)(t:b8):Rat:=if 0<t.D m A then t.D m A else -(t.D m A)
theorem YV {m N:Nat}{A:Nat->Nat->Rat}{t:b8}(h:t.D m A≠0):0<ha m A t:=by unfold ha;split<;>grind
theorem Es {m K:Nat}{A:Nat->Nat->Rat}{t:b8}{x:Rat}(h:dc K (x*t.D m A)):dc K (x*ha m A t):=by
 unfold ha;split
 ·exact h
 have:=h.neg;rw[show x * -(t.D m A) = -(x*t.D m A) by grind];exact this
theorem m8.qK {m N:Nat}{A:Nat->Nat->Rat}(s:Small m N A){t:b8}(h:m8 m N A t):oa m N (ha m A t) t where
 pos:=YV (N:=N) h.tI
 hw:=by have o:dc d6 (1*t.D m A):=(by rw[Rat.one_mul];exact h.Rv s);have:=Es o;rw[Rat.one_mul] at this;exact this.mono (by generalize d6=q;omega)
 h7:=fun i ae j av=>Es (h.Fc s ae av)
 gV:=h.ok.jQ
theorem m8.vV {m N:Nat}{A:Nat->Nat->Rat}(s:Small m N A){t:b8}(h:m8 m N A t){r k:Nat}(aj:r<m)(aQ:k<N)(ah:t.T r k≠0):th m N (ha m A t) t r k where
 aj:=aj
 aQ:=aQ
 ah:=ah
 zs:=fun i ae j av=>by
  have kl:=h.ok.cG aj aQ ah
  have o:dc d6 ((t.cG r k).T i j*(t.cG r k).D m A):=by
   rw[<- kl.wO ae av];refine dc.mono (yB fun dn mH c aL=> ?_) (Er▸yl (by omega) s.hm);simp only[ga];split
   ·exact s.oq c aL j av
   exact s.oq c aL _ (Nat.le_of_lt (kl.jQ dn mH))
  rw[h.ok.Bc aj aQ] at o;unfold ha;split
  ·exact o
  have:=o.neg;rw[show (t.cG r k).T i j*(t.T r k * -(t.D m A)) = -((t.cG r k).T i j*(t.T r k*t.D m A)) by grind];exact this
theorem H5 {m N:Nat}{A:Nat->Nat->Rat}{t:b8}(h:fX m m N A t)(bz:t.D m A≠0){r k:Nat}(aj:r<m)(aQ:k<N)(ah:t.T r k≠0):oT (ha m A t) t r k=ha m A (t.cG r k):=by
 have e:=h.Bc aj aQ;unfold oT ha;rw[e];by_cases bB:0<t.T r k<;>by_cases cF:0<t.D m A
 ·rw[dw bB,dw cF,dw (Rat.mul_pos bB cF)]
 ·have:=Rat.mul_pos bB (show 0 < -(t.D m A) by grind);rw[dw bB,dA cF,dA (by grind)];grind
 ·have:=Rat.mul_pos (show 0 < -(t.T r k) by grind) cF;rw[dA bB,dw cF,dA (by grind)]
 have:=Rat.mul_pos (show 0 < -(t.T r k) by grind) (show 0 < -(t.D m A) by grind);rw[dA bB,dA cF,dw (by grind)];grind
def hU (h:Nat->Nat)(t:b8):b8:=⟨fun i j=>t.T (h i) j,fun i=>t.B (h i)⟩
theorem AF {h:Nat->Nat}{t:b8}{r k i:Nat}(fH:h i=h r->i=r):(∀j,((hU h t).cG r k).T i j=(hU h (t.cG (h r) k)).T i j)/\((hU h t).cG r k).B i=(hU h (t.cG (h r) k)).B i:=by
 simp only[b8.cG,hU];by_cases c:i=r
 ·subst c;simp
 have:h i≠h r:=fun e=>c (fH e);simp[c,this]
theorem Ny {α:Type}{m i:Nat}(ae:i<m)(f:Nat->α):(a4 m f).take (i-0)++((a4 m f).drop (0+(i+1))).take (m-(i+1))=a4 (m-1) (skip i f):=by
 apply afo;intro j;rw[Nat.sub_zero,dF];have aF:((a4 m f).take i).length=i:=by rw[List.length_take,eK];omega
 by_cases c:j<i
 ·rw[afh (by omega),dR,dw c,gX (by omega),gX (by omega)];simp only[skip];rw[dw c]
 rw[afn (by omega),aF,dR,afm];by_cases cF:j<m-1
 ·rw[dw (by omega),gX (by omega),gX cF];simp only[skip];rw[dA c];congr 2;omega
 rw[dA (by omega)]
 symm
 rw[List.getElem?_eq_none_iff,eK];omega
theorem Vd {m N M n:Nat}(fS:N<1000)(aV:n<=N){h:Nat->Nat}{w:Rat}{t:b8}(f:oa m N w t){d3:afy}(f6:kk m N M h w t d3){i:Nat}(ae:i<m)(gH:Bool)(h8:ar)(aS:Int)(bf:ar)(cb:afz):
 ∃k:Nat,FQ (n:Int) (i:Int) gH h8 aS (gw m N h) d3 bf cb 0=some (k:Int)/\k<=n/\(k<n->t.T i k≠0)/\ ∀j,j<k->t.T i j=0:=by
 unfold FQ
 obtain⟨r,e,k,rfl,o,J,ab⟩:=rf (f:=fun q:Int=>xb (n:Int) (i:Int) gH h8 aS (gw m N h) d3 bf cb q) (fun (c:Nat) (_:Unit)=>(c:Int)) n (fun c _=> ∀j,j<c->t.T i j=0)
  (fun r=> ∃k:Nat,r=(k:Int)/\k<=n/\(k<n->t.T i k≠0)/\ ∀j,j<k->t.T i j=0)
  (fun c aL _ cT=>by
    have hw:=f.pos;have bO:=tW ((f.h7 i ae c (by omega)).mono (tg (by have:=qC;generalize d6=q at *;omega)));unfold xb;by_cases Fw:t.T i c=0
    ·left
     refine⟨(),ff (dX (by unfold gw;rw[eK];omega) (aD (x:=some (h i,N+1)) (by rw[dz];exact jy ae) (aD (x:=(h i,N+1)) rfl (aD (f6.row i ae) (cN (aD (x:=bL (t.T i c*w)) (by rw[dz];exact jy (by omega)) (aD bO (eP (by rw[yw hw,AE.2 Fw];rfl) (by rw[fP (by omega)]))))))))),fun j av=> ?_⟩;by_cases e:j=c
     ·rw[e];exact Fw
     exact cT j (by omega)
    right;exact⟨_,ff (dX (by unfold gw;rw[eK];omega) (aD (x:=some (h i,N+1)) (by rw[dz];exact jy ae) (aD (x:=(h i,N+1)) rfl (aD (f6.row i ae) (cN (aD (x:=bL (t.T i c*w)) (by rw[dz];exact jy (by omega)) (aD bO (hk (by rw[yw hw];exact su (fun c=>Fw (AE.1 c))) rfl)))))))),c,rfl,by omega,fun _=>Fw,cT⟩)
  (fun _ cT=>⟨_,by unfold xb;exact fY rfl,n,rfl,dE _,fun c=>by omega,cT⟩) () (fun j av=>by omega)
 exact⟨k,e,o,J,ab⟩
structure mb (m n N:Nat) (A:Nat->Nat->Rat) (t:b8) (aU:Nat) (h:Nat->Nat):Prop where
 inv:m8 m N A t
 z : ∀i,i<m->n<=t.B i->t.T i N=0
 le:aU<=m
 lt : ∀i,i<aU->h i<m
 inj : ∀i,i<aU-> ∀k,k<aU->h i=h k->i=k
 dead : ∀d,d<m->(∀i,i<aU->h i≠d)->n<=t.B d/\ ∀j,j<n->t.T d j=0
theorem mb.qK {m n N aU:Nat}{A:Nat->Nat->Rat}{t:b8}{h:Nat->Nat}(s:Small m N A)(a:mb m n N A t aU h):oa aU N (ha m A t) (hU h t) :=
 have f:=a.inv.qK s
 ⟨f.pos,f.hw,fun i ae j av=>f.h7 (h i) (a.lt i ae) j av,fun i ae=>f.gV (h i) (a.lt i ae)⟩
theorem mb.vV {m n N aU:Nat}{A:Nat->Nat->Rat}{t:b8}{h:Nat->Nat}(s:Small m N A)(a:mb m n N A t aU h){r k:Nat}(aj:r<aU)(aQ:k<N)(ah:t.T (h r) k≠0):th aU N (ha m A t) (hU h t) r k :=
 have f:=a.inv.vV s (a.lt r aj) aQ ah
 ⟨aj,aQ,ah,fun i ae j av=>by rw[(AF (t:=t) (k:=k) (a.inj i ae r aj)).1 j];exact f.zs (h i) (a.lt i ae) j av⟩
theorem mb.cG {m n N aU:Nat}{A:Nat->Nat->Rat}{t:b8}{h:Nat->Nat}(JS:n<=N)(a:mb m n N A t aU h){r k:Nat}(aj:r<aU)(aQ:k<n)(aN:n<=t.B (h r))(ah:t.T (h r) k≠0):mb m n N A (t.cG (h r) k) aU h:=by
 have b5:=a.z (h r) (a.lt r aj) aN
 have gW : ∀i,(t.cG (h r) k).T i N=t.T i N:=fun i=>by
  simp only[b8.cG];split
  ·rename_i e;rw[e,b5];grind
  rw[b5];grind
 refine⟨⟨a.inv.ok.cG (a.lt r aj) (by omega) ah,fun i ae=>by rw[gW];exact a.inv.lg i ae,?_⟩,fun i ae gV=> ?_,a.le,a.lt,a.inj,fun d bz hc=> ?_⟩
 ·rw[a.inv.ok.Bc (a.lt r aj) (by omega)];have:=a.inv.tI;grind
 ·rw[gW]
  simp only[b8.cG] at gV;by_cases c:i=h r
  ·rw[dw c] at gV;omega
  rw[dA c] at gV;exact a.z i ae gV
 obtain⟨o,J⟩:=a.dead d bz hc;have cx:d≠h r:=fun e=>hc r aj e.symm;simp only[b8.cG,dA cx];refine⟨o,fun j av=> ?_⟩;rw[J j av,J k aQ];grind
theorem Wu {m n N:Nat}{A:Nat->Nat->Rat}(s:Small m N A)(fS:N<1000)(JS:n<=N)(free:afz){t:b8}(ch:m8 m N A t)(b5:∀i,i<m->n<=t.B i->t.T i N=0){d3:afy}(f6:kk m N m (fun i=>i) (ha m A t) t d3):
 ∃cW aU h jf,zO (n:Int) (bL (ha m A t)).c5 (bL (ha m A t)).cJ (N:Int) (gw m N fun i=>i) d3 (en m t) free=some ((bL (ha m A cW)).c5,(bL (ha m A cW)).cJ,gw aU N h,jf,en aU (hU h cW)) /\
  mb m n N A cW aU h/\(∀i,i<aU->cW.B (h i)<n)/\kk aU N m h (ha m A cW) (hU h cW) jf:=by
 have hm:=s.hm;unfold zO K4
 obtain⟨x,e,cW,aU,h,jf,rfl,o,J,ab⟩:=j9 (f:=fun w:Int×Bool×ar×afE×afy×ar=>zF (n:Int) (N:Int) free w.1 w.2.1 w.2.2.1 w.2.2.2.1 w.2.2.2.2.1 w.2.2.2.2.2)
  (fun w=> ∃(i aU:Nat) (h:Nat->Nat) (t:b8) (p:afy),w=((i:Int),(bL (ha m A t)).c5,(bL (ha m A t)).cJ,gw aU N h,p,en aU (hU h t))/\i<=aU/\mb m n N A t aU h/\(∀q,q<i->t.B (h q)<n)/\kk aU N m h (ha m A t) (hU h t) p)
  (fun w=>w.2.2.2.1.length-w.1.toNat)
  (fun x=> ∃cW aU h jf,x=((bL (ha m A cW)).c5,(bL (ha m A cW)).cJ,gw aU N h,jf,en aU (hU h cW))/\mb m n N A cW aU h/\(∀i,i<aU->cW.B (h i)<n)/\kk aU N m h (ha m A cW) (hU h cW) jf)
  (fun w hw=>by
    obtain⟨i,aU,h,t,p,rfl,ae,bA,a2,ah⟩:=hw;have km:=bA.le;have ty:(gw aU N h).length=aU:=eK ..;have JT:(en aU (hU h t)).length=aU:=eK ..;simp only;unfold zF;by_cases c:i<aU
    ·left
     have g1:0<=(i:Int)/\(i:Int)<((en aU (hU h t)).length:Nat):=(by rw[JT];omega);have g2:(en aU (hU h t))[(0+((i:Int)).toNat)]? = some ((t.B (h i):Nat):Int):=(by rw[dz];exact jy c);by_cases Cz:t.B (h i)<n
     ·refine⟨(((i+1:Nat):Int),(bL (ha m A t)).c5,(bL (ha m A t)).cJ,gw aU N h,p,en aU (hU h t)),lf (by rw[ty];omega) (dX g1 (aD g2 (ff (by rw[fP (by omega)])))),⟨i+1,aU,h,t,p,rfl,by omega,bA,fun q na=> ?_,ah⟩,by simp only[ty];omega⟩
      by_cases e:q=i
      ·rw[e];exact Cz
      exact a2 q (by omega)
     obtain⟨k,jU,h1,jV,Kc⟩:=Vd fS JS (bA.qK s) ah c (bL (ha m A t)).c5 (bL (ha m A t)).cJ (N:Int) (en aU (hU h t)) free;by_cases Kf:k<n
     ·have JU:t.T (h i) k≠0:=jV Kf
      obtain⟨jS,ao,aB⟩:=O4 (by omega) fS bA.inj (bA.qK s) (bA.vV s c (by omega) JU) ah (N:Int) free;have rQ:oT (ha m A t) (hU h t) i k=ha m A (t.cG (h i) k):=H5 bA.inv.ok bA.inv.tI (bA.lt i c) (by omega) JU;have acM:en aU ((hU h t).cG i k)=en aU (hU h (t.cG (h i) k)):=fx fun q na=>(by have:=(AF (t:=t) (k:=k) (bA.inj q na i c)).2;rw[this]);rw[rQ,acM] at ao;rw[rQ] at aB;refine⟨(((i+1:Nat):Int),(bL (ha m A (t.cG (h i) k))).c5,(bL (ha m A (t.cG (h i) k))).cJ,gw aU N h,jS,en aU (hU h (t.cG (h i) k))),lf (by rw[ty];omega) (dX g1 (aD g2 (fY (aD jU (ff (aD ao (by rw[fP (by omega)]))))))),⟨i+1,aU,h,t.cG (h i) k,jS,rfl,by omega,bA.cG JS c Kf (by omega) JU,fun q na=> ?_,aB.len,fun q na=> ?_⟩,by simp only[ty];omega⟩
      ·simp only[b8.cG]
       split
       ·exact Kf
       rename_i cx;have:q≠i:=fun e=>cx (by rw[e]);exact a2 q (by omega)
      rw[aB.row q na];congr 1;exact fx fun j _=>by rw[(AF (t:=t) (k:=k) (bA.inj q na i c)).1 j]
     have aeM:k=n:=(by omega);have Ce:U ((i:Int)+1)=((i+1:Nat):Int):=fP (by omega);have JI:(((gw aU N h).drop (0+(i+1))).take (aU-(i+1))).length=aU-(i+1):=(by rw[List.length_take,List.length_drop,ty];omega);have EZ:(((en aU (hU h t)).drop (0+(i+1))).take (aU-(i+1))).length=aU-(i+1):=(by rw[List.length_take,List.length_drop,JT];omega);have cl:(gw aU N h).take (i-0)++((gw aU N h).drop (0+(i+1))).take (aU-(i+1))=gw (aU-1) N (skip i h):=Ny c _;have e6:(en aU (hU h t)).take (i-0)++((en aU (hU h t)).drop (0+(i+1))).take (aU-(i+1))=en (aU-1) (hU (skip i h) t):=Ny c _;refine⟨((i:Int),(bL (ha m A t)).c5,(bL (ha m A t)).cJ,gw (aU-1) N (skip i h),p,en (aU-1) (hU (skip i h) t)),lf (by rw[ty];omega) (dX g1 (aD g2 (fY (aD jU (fY ?_))))),⟨i,aU-1,skip i h,t,p,rfl,by omega,⟨bA.inv,bA.z,by omega,fun q na=> ?_,fun q na bf yX e=> ?_,fun d bz hc=> ?_⟩,fun q na=> ?_,ah.len,fun q na=> ?_⟩,?_⟩
     ·rw[Ce,dz,dz,ty,JT,JI,EZ,cl,e6];exact cN (cN (cN (cN (cN (cN (cN (cN (cN (cN (cN (cN rfl)))))))))))
     ·simp only[skip];split<;>exact bA.lt _ (by omega)
     ·simp only[skip] at e;have:=bA.inj _ (by split<;>omega) _ (by split<;>omega) e;split at this<;>split at this<;>omega
     ·by_cases RZ:d=h i
      ·rw[RZ];exact⟨by omega,fun j av=>Kc j (by omega)⟩
      refine bA.dead d bz fun q na=> ?_;by_cases bB:q<i
      ·have:=hc q (by omega);simp only[skip] at this;rw[dw bB] at this;exact this
      by_cases cF:q=i
      ·rw[cF];exact fun e=>RZ e.symm
      have:=hc (q-1) (by omega);simp only[skip] at this;rw[dA (by omega),show q-1+1=q by omega] at this;exact this
     ·simp only[skip];rw[dw na];exact a2 q na
     ·simp only[skip]
      by_cases bB:q<i
      ·rw[dw bB,ah.row q (by omega)];congr 1;exact fx fun j _=>by simp only[hU,skip];rw[dw bB]
      rw[dA bB,ah.row (q+1) (by omega)];congr 1;exact fx fun j _=>by simp only[hU,skip];rw[dA bB]
     simp only[ty,show (gw (aU-1) N (skip i h)).length=aU-1 from eK ..];omega
    right;have abY:i=aU:=(by omega);subst abY;exact⟨_,j4 (by rw[ty];omega) rfl,t,i,h,p,rfl,bA,a2,ah⟩)
  ((0:Int),(bL (ha m A t)).c5,(bL (ha m A t)).cJ,gw m N (fun i=>i),d3,en m t)
  ⟨0,m,fun i=>i,t,d3,rfl,by omega,⟨ch,b5,dE _,fun i ae=>ae,fun i _ k _ e=>e,fun d bz hc=>(hc d bz rfl).elim⟩,fun q a2=>by omega,f6.len,f6.row⟩
 exact⟨cW,aU,h,jf,aD e rfl,o,J,ab⟩
theorem O5:(⟨false,([]:ar)⟩:bt)=bL 0:=by show _=hb (0:Rat).num;rw[show (0:Rat).num=0 from rfl];unfold hb;rw[show L ((0:Int).natAbs:Int)=[] from uc.2 (by simp)];rfl
theorem HI {α:Type}(l:List α)(x:α):(l++[x])[l.length]? = some x:=by simp
theorem yx {α:Type}(l:List α)(x y:α):(l++[x]).set l.length y=l++[y]:=by simp
theorem O6 {p:n1}{m n:Nat}{a:Nat->Nat->Int}{b:Nat->Int}(h:pw p m n a b){i:Nat}(ae:i<m):xG i p.kM p.jY p.gy p.gz p.kg=some (i*n,n):=by
 have hm:=h.hm;have aV:=h.aV;have o:i*n<=20*40:=Nat.mul_le_mul (by omega) aV;have J:(i+1)*n<=20*40:=Nat.mul_le_mul (by omega) aV;have ab:(i+1)*n<=m*n:=afi _ ae;have ao:U ((i:Int)*p.jY)=((i*n:Nat):Int):=by rw[h.hx,<- Int.natCast_mul,cI (by omega) (by omega)]
 have aB:U (U ((i:Int)+1)*p.jY)=(((i+1)*n:Nat):Int):=by rw[h.hx,fP (by omega),<- Int.natCast_mul,cI (by omega) (by omega)]
 have aA:(i+1)*n=i*n+n:=Nat.succ_mul i n;unfold xG;rw[ao,aB,dz,dz,h.np];refine cN (cN (dX ⟨by omega,ab⟩ ?_));rw[show 0+i*n=i*n by omega,show (i+1)*n-i*n=n by omega]
end Go.Proofs.YtopadgleejacdacGreat
