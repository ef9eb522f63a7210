/- Lemmas, plain functions of the program, and what they answer. No condition. -/
import Derived.Test.YthgbjflfgmahbabGreatMD
namespace Go.Proofs.YthgbjflfgmahbabGreat
set_option linter.unusedVariables false
set_option autoImplicit true
set_option relaxedAutoImplicit true
set_option linter.unusedSimpArgs false
open Go Go.VL
def O9 (bD gG:Int)(eB:List fA)(fs bw bh:Int)(aB aD:ar):d6 (Int×ar) ar:=⟨fun (cL,ap)=>du [(1,.ref 0 0 0 0),(2,.n .i64 bD),(3,.n .i64 gG),(11,.isl 2 (eB.map gT)),(12,.n .i64 fs),(13,.n .i64 cL)] (ns bw bh aB aD ap),fun | a=>⟨some 0,[],(ns bw bh aB aD a)⟩⟩
def zX (bD gG:Int)(eB:List fA)(fs bw bh:Int)(aB aD:ar)(cL:Int)(ap:ar):Option ((Int×ar)⊕(ar)) :=if (decide (cL<fs))=true then if 0<=cL/\cL<eB.length then eB[cL.toNat]? >>= fun az =>if 0<=cL/\cL<(ap.length:Nat) then if (0+cL.toNat)<ap.length then if (az.nQ == bD)=true then if (0+cL.toNat)<(ap.set (0+cL.toNat) 0).length then some (.inl (U (cL+1),(ap.set (0+cL.toNat) 0).set (0+cL.toNat) (U (gG*az.rk)))) else none else some (.inl (U (cL+1),ap.set (0+cL.toNat) 0)) else none else none else none else some (.inr ap)
def Po (bD gG:Int)(eB:List fA)(fs bw bh:Int)(aB aD:ar)(cL:Int)(ap:ar):Option (ar):=iter (fun w:Int×ar=>zX bD gG eB fs bw bh aB aD w.1 w.2) (cL,ap)
theorem X0:bq (zX bD gG eB fs bw bh aB aD cL ap) (ec br 39 4 68 [1,0,0] (O9 bD gG eB fs bw bh aB aD) (cL,ap)):=.ite (fun h1=>.aR fun h2=>.af fun az ah=>.aR fun ax=>.aR fun aQ=>(let t1:List bU:=[(I 1),.J true,.al (bi 2 (.b2 (gT az)) 3),.al (aa 6 (ae .ev [])),(I 4)];have aN:=((.f7 h1 h2.1 (de gT h2.2) (bQ gT ah) ax.1 ax.2 (ij eI aQ) (hS 1)):cC _);.ite (fun a7=>.aR fun bb=>.ret (let q1:=U (gG*az.rk);bg (t1.aM [.J true,.al (aa 10 (ae .ev [])),(I 2),.aK [0,1,2,3] [.box [.id,.id,.id,.id,.len (((ap.set (0+cL.toNat) 0).set (0+cL.toNat) q1).length)],.pure,.pure,.cK (aw 1 eI ((ap.set (0+cL.toNat) 0).set (0+cL.toNat) q1))] (a5 [1,2,3,11,12,13])]) (aN.ay (.aW a7 ax.1 ax.2 (Mo (ha (dl eI ap) (0+cL.toNat) 0) bb) (hS 1) (ib (ib (d5 ap) (0+cL.toNat) 0) (0+cL.toNat) q1) (ao 1 aq aB) (ao 1 aq aD) (.e2 (c1 1 (ha (ha (dl eI ap) (0+cL.toNat) 0) (0+cL.toNat) q1)) (ao 1 aq ((ap.set (0+cL.toNat) 0).set (0+cL.toNat) q1))))))) (fun a7=>.ret (bg (t1.aM [.J false,(I 2),.aK [0,1,2,3] [.box [.id,.id,.id,.id,.len ((ap.set (0+cL.toNat) 0).length)],.pure,.pure,.cK (aw 1 eI (ap.set (0+cL.toNat) 0))] (a5 [1,2,3,11,12,13])]) (aN.ay (.ei a7 (ib (d5 ap) (0+cL.toNat) 0) (ao 1 aq aB) (ao 1 aq aD) (c1 1 (ha (dl eI ap) (0+cL.toNat) 0)) (ao 1 aq (ap.set (0+cL.toNat) 0)))))))) (fun h1=>.ret (bg [(I 1),.J false,.aK [0,1,2,3] [.box di,.pure,.pure,.pure] []] (.db h1 (ao 1 aq aB) (ao 1 aq aD) (ao 1 aq ap))))
def xu (aT:dc)(bD gG fa et:Int)(cx fM eg:ar):Option ar :=Al aT >>= fun r1 =>Po bD gG r1 (len_ gT r1) fa et cx fM 0 eg >>= fun aL =>some aL
theorem JY:bq (xu aT bD gG fa et cx fM eg) (fun a=>Con br 68 [.fB 2 [(hl aT)] 0 0,.ref 0 0 0 0,.n .i64 bD,.n .i64 gG] (ns fa et cx fM eg) (.dY []) (ns fa et cx fM a)):=.af fun r1 h2=>.af fun aL ah=>.ret (let q1:=kr fa et 1 0 0 cx.length 2 0 0 fM.length 3 0 0 aL.length;jF [.al (bi 1 (aY 1 (.isl 2 (r1.map gT)) false) 2),.aK [0,1,2,3] [.box di,.pure,.pure,.pure] (a5 [1,2,3,11,12,13]),((O9 bD gG r1 (len_ gT r1) fa et cx fM).t aL)] [0,1,2,3] [.bn (hL 1 2 3 fa et cx fM aL),.pure,.pure,.pure] (.aW (O1 r1 h2) (ao 1 aq cx) (ao 1 aq fM) (ao 1 aq eg) (c3 ah X0) (iZ (cg [0,1,2,3]) 5 [q1] [q1] rfl) (ao 1 aq cx) (ao 1 aq fM) (.e1 (ao 1 aq aL))))
def vd (bu:Int):Option (Option eY) :=pR bu >>= fun r1 =>some (some (⟨r1,([1]:ar)⟩:eY))
theorem He:bq (vd bu) (fun r=>Con br 110 [.n .i64 bu] [] (hJ 3 dp r) []):=.af fun r1 h2=>.ret (bj [(I 1),.al (bi 1 (aY 1 (.agg (a9 r1)) false) 4)] (.dW (t0 r1 h2) (kV (show [[.n .i64 (1:Int)]]=(([1]:ar)).map eI from rfl) (show 1=([1]:ar).length from rfl)) (gS eI 1) (dZ aq ([1]:ar)) (og (pQ (⟨r1,([1]:ar)⟩:eY)):jk [[.b r1.cz,.isl 1 (r1.b9.map eI),.isl 1 (([1]:ar).map eI)]])) (.bl (.vA [.id,.id,.eU (([1]:ar).map eI)])))
def QG:d6 (ar×ar) ar:=⟨fun (aH,ba)=>du [(0,.isl 1 (aH.map eI)),(1,.isl 1 (ba.map eI))] [],fun | a=>⟨some 0,[(0,.isl 1 (a.map eI))],[]⟩⟩
def AH (aH ba:ar):Option ((ar×ar)⊕(ar)) :=if (decide ((0:Int)<(len_ eI ba)))=true then vg aH ba >>= fun r2 =>some (.inl (ba,r2.2)) else some (.inr aH)
def Rm (aH ba:ar):Option (ar):=iter (fun w:ar×ar=>AH w.1 w.2) (aH,ba)
theorem Y2 {aH ba:ar}:bq (AH aH ba) (ec br 19 0 122 [1,0,0,0] QG (aH,ba)):=.ite (fun h1=>.af fun r2 R=>.ret (bg [(I 3),.J true,.al (bi 2 (aY 2 (.dY [.isl 1 (r2.1.map eI),.isl 1 (r2.2.map eI)]) false) 5),(I 4),.aK [] [] (a5 [0,1])] (.e2 h1 (Hl r2 R)))) (fun h1=>.ret (bg [(I 3),.J false,.aK [] [] (a5 [0])] (.e1 h1)))
def Br (aH ba:ar):Option ar :=Rm aH ba >>= fun r1 =>some r1
theorem Rn:bq (Br aH ba) (fun r=>Con br 122 [.isl 1 (aH.map eI),.isl 1 (ba.map eI)] [] (.isl 1 (r.map eI)) []):=.af fun r1 h2=>.ret (bj [(I 1),.aK [] [] (a5 [0,1]),(QG.t r1),(I 2)] (.e1 (c3 h2 Y2)))
def tl (uB:bx)(yP:ar):Option (Option eY) :=if ((len_ eI uB.b9) == (0:Int))=true then some (some (⟨(⟨false,([]:ar)⟩:bx),([1]:ar)⟩:eY)) else Br uB.b9 yP >>= fun r2 =>rK r2 ([1]:ar) >>= fun a8 =>if (a8 == (0:Int))=true then some (some (⟨uB,yP⟩:eY)) else vg uB.b9 r2 >>= fun bz =>vg yP r2 >>= fun bp =>mR uB.cz bz.1 >>= fun bC =>some (some (⟨bC,bp.1⟩:eY))
theorem K0:bq (tl uB yP) (fun r=>Con br 111 [.agg (a9 uB),.isl 1 (yP.map eI)] [] (hJ 3 dp r) []):=.ite (fun h1=>.ret (bj [(I 2),(I 4),.J true,(I 4)] (.dW h1 (kV (show [[.n .i64 (1:Int)]]=(([1]:ar)).map eI from rfl) (show 1=([1]:ar).length from rfl)) (gS eI 1) (dZ aq ([1]:ar)) (og (pQ (⟨Ga,([1]:ar)⟩:eY)):jk [[.b false,.isl 1 (([]:ar).map eI),.isl 1 (([1]:ar).map eI)]])) (.bl (.vA [.id,.fR 1,.eU (([1]:ar).map eI)])))) (fun h1=>.af fun r2 R=>.af fun a8 ax=>(let t1:List bU:=[(I 2),(I 4),.J false,.al (bi 3 (aY 2 (.isl 1 (r2.map eI)) false) 1),.al (bi 2 (.call {ac:=[ii,.bl (.cM (.eU (([1]:ar).map eI)))],r:= .n .i64 a8,fb:=true,fg:=[12]}) 1)];have aN:=((.ez h1 (Rn r2 R) (kV (show [[.n .i64 (1:Int)]]=(([1]:ar)).map eI from rfl) (show 1=([1]:ar).length from rfl)) (gS eI 1) (dZ aq ([1]:ar)) (Bb a8 ax) (bP.n .i64 a8)):cC _);.ite (fun aQ=>.ret (bj (t1.aM [.J true,(I 5)]) (aN.ay (.e2 aQ (og (pQ (⟨uB,yP⟩:eY)):jk [[.b uB.cz,.isl 1 (uB.b9.map eI),.isl 1 (yP.map eI)]]))) (.bl (.vA [.id,.id,.id])))) (fun aQ=>.af fun bz bb=>.af fun bp ch=>.af fun bC dj=>.ret (bj (t1.aM [.J false,.al (bi 3 (aY 2 (.dY [.isl 1 (bz.1.map eI),.isl 1 (bz.2.map eI)]) false) 5),.al (bi 2 (aY 2 (.dY [.isl 1 (bp.1.map eI),.isl 1 (bp.2.map eI)]) false) 5),.al (bi 3 (aY 2 (.agg (a9 bC)) false) 4)]) (aN.ay (.dW aQ (Hl bz bb) (Hl bp ch) (ua bC dj) (og (pQ (⟨bC,bp.1⟩:eY)):jk [[.b bC.cz,.isl 1 (bC.b9.map eI),.isl 1 (bp.1.map eI)]]))) (.bl (.vA [.id,.id,.id]))))))
def Dr (cU fm:Option eY):Option (Option eY) :=cU >>= fun fr =>fm >>= fun k5 =>qn fr.r7 k5.r7 >>= fun aJ =>sD fr.rr k5.rr >>= fun bz =>tl aJ bz >>= fun bp =>some bp
theorem ZN:bq (Dr cU fm) (fun r=>Con br 113 [hJ 3 dp cU,hJ 3 dp fm] [] (hJ 3 dp r) []):=.af fun fr h2=>.af fun k5 ah=>.af fun aJ aQ=>.af fun bz bb=>.af fun bp ch=>.ret (bj [(I 1),.al (aa 1 (ae (.fX 5 (.gr 3 (some (dp fr))) .ev) (aa 3 (ae (.fX 9 (.gr 3 (some (dp k5))) .ev) (aa 2 (ae (aY 2 (.agg (a9 aJ)) false) (aa 1 (ae (.fX 14 (.gr 3 (some (dp fr))) .ev) (aa 3 (ae (.fX 18 (.gr 3 (some (dp k5))) .ev) (aa 2 (ae (aY 2 (.isl 1 (bz.map eI)) false) (ae (aY 2 (hJ 3 dp bp) false) (aa 1 []))))))))))))))] (.ez (mH (sz:=3) (f:=dp) h2) (mH (sz:=3) (f:=dp) ah) (xt aJ aQ) (mH (sz:=3) (f:=dp) h2) (mH (sz:=3) (f:=dp) ah) (Hc bz bb) (K0 bp ch)))
def sw (cU:Option eY)(m3:ar):Option bx :=cU >>= fun fr =>sD fr.r7.b9 m3 >>= fun aL =>mR fr.r7.cz aL >>= fun aJ =>some aJ
theorem GZ:bq (sw cU m3) (fun r=>Con br 149 [hJ 3 dp cU,.isl 1 (m3.map eI)] [] (.agg (a9 r)) []):=.af fun fr h2=>.af fun aL ah=>.af fun aJ aQ=>.ret (bj [(I 1),.al (aa 1 (ae (.fX 5 (.gr 3 (some (dp fr))) .ev) (aa 4 (ae (.fX 10 (.gr 3 (some (dp fr))) .ev) (aa 4 (ae (aY 2 (.isl 1 (aL.map eI)) false) (ae (aY 2 (.agg (a9 aJ)) false) (aa 1 []))))))))] (.db (mH (sz:=3) (f:=dp) h2) (mH (sz:=3) (f:=dp) h2) (Hc aL ah) (ua aJ aQ)))
def Dx (cU fm:Option eY):Option (Option eY) :=fm >>= fun fr =>sw cU fr.rr >>= fun aL =>cU >>= fun kH =>sw fm kH.rr >>= fun bz =>wc aL bz >>= fun bp =>sD kH.rr fr.rr >>= fun bC =>tl bp bC >>= fun cS =>some cS
theorem Z1:bq (Dx cU fm) (fun r=>Con br 112 [hJ 3 dp cU,hJ 3 dp fm] [] (hJ 3 dp r) []):=.af fun fr h2=>.af fun aL ah=>.af fun kH aQ=>.af fun bz bb=>.af fun bp ch=>.af fun bC dj=>.af fun cS eF=>.ret (bj [(I 1),.al (aa 2 (ae (.fX 6 (.gr 3 (some (dp fr))) .ev) (aa 2 (ae (aY 2 (.agg (a9 aL)) false) (aa 2 (ae (.fX 12 (.gr 3 (some (dp kH))) .ev) (aa 2 (ae (aY 2 (.agg (a9 bz)) false) (ae (aY 2 (.agg (a9 bp)) false) (aa 1 (ae (.fX 18 (.gr 3 (some (dp kH))) .ev) (aa 3 (ae (.fX 22 (.gr 3 (some (dp fr))) .ev) (aa 2 (ae (aY 2 (.isl 1 (bC.map eI)) false) (ae (aY 2 (hJ 3 dp cS) false) (aa 1 [])))))))))))))))))] (.aW (mH (sz:=3) (f:=dp) h2) (GZ aL ah) (mH (sz:=3) (f:=dp) aQ) (GZ bz bb) (P4 bp ch) (mH (sz:=3) (f:=dp) aQ) (mH (sz:=3) (f:=dp) h2) (Hc bC dj) (.e1 (K0 cS eF))))
def QH (po bw:Int)(aB aD ap:ar)(ic:Int)(cJ:List bR):d6 (Int×Bool×ar×ar×(List (List bx))×ar×(List Bool)) (Bool×ar×(List (List bx))×ar×(List Bool)):=⟨fun (jU,fO,fN,bo,hF,en,hh)=>du [(0,.ref 0 0 0 0),(5,.ref 4 0 0 0),(7,.bf 5 0 0 bo.length),(41,.n .i64 po),(42,.n .i64 jU)] [(hL 1 2 3 bw po aB aD ap),(aw 1 eI aB),(aw 1 eI aD),(aw 1 eI ap),(ke 6 8 9 cJ fO fN en ic hh),(aw 1 eI bo),(aw 1 (bH 7 0 2) cJ),(dr 2 a9 hF),(aw 1 eI en),(aw 1 fS hh)],fun | a=>⟨some 0,[(0,.ref 0 0 0 0),(5,.ref 4 0 0 0)],[(hL 1 2 3 bw po aB aD ap),(aw 1 eI aB),(aw 1 eI aD),(aw 1 eI ap),(ke 5 7 8 cJ a.1 a.2.1 a.2.2.2.1 ic a.2.2.2.2),(aw 1 (bH 6 0 2) cJ),(dr 2 a9 a.2.2.1),(aw 1 eI a.2.2.2.1),(aw 1 fS a.2.2.2.2)]⟩⟩
def xv (po bw:Int)(aB aD ap:ar)(ic:Int)(cJ:List bR)(jU:Int)(fO:Bool)(fN bo:ar)(hF:List (List bx))(en:ar)(hh:List Bool):Option ((Int×Bool×ar×ar×(List (List bx))×ar×(List Bool))⊕(Bool×ar×(List (List bx))×ar×(List Bool))) :=if (decide (jU<po))=true then if 0<=jU/\jU<(bo.length:Nat) then if (0+jU.toNat)<(List.replicate bo.length 0:ar).length then uU fO fN ic cJ hF en hh ((List.replicate bo.length 0:ar).set (0+jU.toNat) (-1)) >>= fun a8 =>some (.inl (U (jU+1),a8.2.1,a8.2.2.1,((List.replicate bo.length 0:ar).set (0+jU.toNat) (-1)),a8.2.2.2.1,a8.2.2.2.2.1,a8.2.2.2.2.2)) else none else none else some (.inr (fO,fN,hF,en,hh))
def KL (po bw:Int)(aB aD ap:ar)(ic:Int)(cJ:List bR)(jU:Int)(fO:Bool)(fN bo:ar)(hF:List (List bx))(en:ar)(hh:List Bool):Option (Bool×ar×(List (List bx))×ar×(List Bool)):=iter (fun w:Int×Bool×ar×ar×(List (List bx))×ar×(List Bool)=>xv po bw aB aD ap ic cJ w.1 w.2.1 w.2.2.1 w.2.2.2.1 w.2.2.2.2.1 w.2.2.2.2.2.1 w.2.2.2.2.2.2) (jU,fO,fN,bo,hF,en,hh)
theorem Y3:bq (xv po bw aB aD ap ic cJ jU fO fN bo hF en hh) (ec br 124 4 69 [1,1,1,1,1,1,0,1,0,0] (QH po bw aB aD ap ic cJ) (jU,fO,fN,bo,hF,en,hh)):=.ite (fun h1=>.aR fun h2=>.aR fun R=>.af fun a8 ax=>.ret (let q1:=(List.replicate bo.length 0:ar);let q2:=jg 1 0 0 cJ.length a8.2.1 a8.2.2.1 3 0 0 a8.2.2.2.2.1.length ic 4 0 0 a8.2.2.2.2.2.length;let bN:=jg 6 0 0 cJ.length fO fN 8 0 0 en.length ic 9 0 0 hh.length;let cu:=na [4,6,7,8,9,5];let dU:=iu [4,6,7,8,9,5];let eh:=(ib (lZ bo.length (0:Int)) (0+jU.toNat) (-1));let gd:=cg [0,1,2,3,4,5,6,7,8,9];let gO:=aw 1 eI (q1.set (0+jU.toNat) (-1));let iS:=eW 1 aq (q1.set (0+jU.toNat) (-1));let ln:=dr 2 a9 a8.2.2.2.1;bg [(I 1),.J true,(I 2),(I 2),.al (aa 3 (ae .ev [])),.al (aa 2 (ae (.call {a6:=(nq [4,6,7,8,9,5]),dq:=[.bn (ke 1 3 4 cJ fO fN en ic hh),.bn (aw 1 (bH 2 0 2) cJ),.bn (dr 2 a9 hF),.pure,.pure,.cK gO],ac:=[ii,.bl (.cM (.len ((q1.set (0+jU.toNat) (-1)).length)))],r:= .b a8.1,fe:=(p3 cJ a8.2.1 a8.2.2.1 a8.2.2.2.2.1 ic a8.2.2.2.2.2 a8.2.2.2.1 gO),gW:=ii,hZ:=[.bn (ke 6 8 9 cJ a8.2.1 a8.2.2.1 a8.2.2.2.2.1 ic a8.2.2.2.2.2),.bn (aw 1 (bH 7 0 2) cJ),.bn ln,.pure,.pure,.pure],fg:=[4,5,6,7,8,9],fb:=false}) [])),(I 2),.aK [0,1,2,3,4,5,6,7,8,9] [.box di,.pure,.pure,.pure,.box jZ,.pure,.bn (aw 1 (bH 7 0 2) cJ),.bn ln,.pure,.pure] [(0,ii),(5,ii),(7,gD ((q1.set (0+jU.toNat) (-1)).length)),(41,ii),(42,ii)]] (.aW h1 (afT (dl eI bo) (d5 bo)) h2.1 h2.2 (Mo (lG eI bo.length 0) R) (hS 1) eh (iZ cu 6 [(jg 1 0 0 cJ.length fO fN 3 0 0 en.length ic 4 0 0 hh.length)] [bN] rfl) (.aW (iR 6 [bN]) (eD cu 2 7 0 2 rfl cJ) (iR 1 (cJ.map (bH 7 0 2))) (ek cu 2 e9 hF) (rE 2 a9 hF) (eW 1 aq en) (eW 1 e8 hh) (c1 1 (ha (lG eI bo.length 0) (0+jU.toNat) (-1))) (.aW iS (iZ dU 6 [(jg 6 0 0 cJ.length a8.2.1 a8.2.2.1 8 0 0 a8.2.2.2.2.1.length ic 9 0 0 a8.2.2.2.2.2.length)] [q2] rfl) (iR 6 [q2]) (eD dU 7 2 0 2 rfl cJ) (iR 1 (cJ.map (bH 2 0 2))) (ek dU 2 e9 a8.2.2.2.1) (rE 2 a9 a8.2.2.2.1) (eW 1 aq a8.2.2.2.2.1) (.aW (eW 1 e8 a8.2.2.2.2.2) iS (JQ a8 ax) (ao 1 aq aB) (ao 1 aq aD) (ao 1 aq ap) (ao 1 aq (q1.set (0+jU.toNat) (-1))) (eD gd 7 7 0 2 rfl cJ) (.db (ek gd 2 e9 a8.2.2.2.1) (ao 1 aq a8.2.2.2.2.1) (ao 1 e8 a8.2.2.2.2.2) eh))))))) (fun h1=>.ret (let mo:=cg [0,1,2,3,4,6,7,8,9];bg [(I 1),.J false,.aK [0,1,2,3,4,6,7,8,9] [.box di,.pure,.pure,.pure,.box jZ,.bn (aw 1 (bH 6 0 2) cJ),.bn (dr 2 a9 hF),.pure,.pure] (a5 [0,5])] (.f7 h1 (ao 1 aq aB) (ao 1 aq aD) (ao 1 aq ap) (eD mo 6 7 0 2 rfl cJ) (ek mo 2 e9 hF) (ao 1 aq en) (ao 1 e8 hh))))
def QI (yQ bw bh:Int)(aB aD ap:ar)(fO:Bool)(fN:ar)(ic:Int)(cJ:List bR)(hF:List (List bx))(en:ar)(hh:List Bool):d6 (Int×(List (Option eY))) (List (Option eY)):=⟨fun (pq,bo)=>du [(0,.ref 0 0 0 0),(5,.ref 4 0 0 0),(9,.bf 5 0 0 bo.length),(59,.n .i64 yQ),(60,.n .i64 pq)] [(hL 1 2 3 bw bh aB aD ap),(aw 1 eI aB),(aw 1 eI aD),(aw 1 eI ap),(ke 6 8 9 cJ fO fN en ic hh),(aw 1 (lV 3 dp) bo),(aw 1 (bH 7 0 2) cJ),(dr 2 a9 hF),(aw 1 eI en),(aw 1 fS hh)],fun | a=>⟨some 2,[(0,.ref 0 0 0 0),(5,.ref 4 0 0 0),(9,.bf 5 0 0 a.length)],[(hL 1 2 3 bw bh aB aD ap),(aw 1 eI aB),(aw 1 eI aD),(aw 1 eI ap),(ke 6 8 9 cJ fO fN en ic hh),(aw 1 (lV 3 dp) a),(aw 1 (bH 7 0 2) cJ),(dr 2 a9 hF),(aw 1 eI en),(aw 1 fS hh)]⟩⟩
def AJ (yQ bw bh:Int)(aB aD ap:ar)(fO:Bool)(fN:ar)(ic:Int)(cJ:List bR)(hF:List (List bx))(en:ar)(hh:List Bool)(pq:Int)(bo:List (Option eY)):Option ((Int×(List (Option eY)))⊕((List (Option eY)))) :=if (decide (pq<yQ))=true then vd 0 >>= fun r2 =>if 0<=pq/\pq<(bo.length:Nat) then if (0+pq.toNat)<bo.length then some (.inl (U (pq+1),bo.set (0+pq.toNat) r2)) else none else none else some (.inr bo)
def KM (yQ bw bh:Int)(aB aD ap:ar)(fO:Bool)(fN:ar)(ic:Int)(cJ:List bR)(hF:List (List bx))(en:ar)(hh:List Bool)(pq:Int)(bo:List (Option eY)):Option ((List (Option eY))):=iter (fun w:Int×(List (Option eY))=>AJ yQ bw bh aB aD ap fO fN ic cJ hF en hh w.1 w.2) (pq,bo)
theorem Y4:bq (AJ yQ bw bh aB aD ap fO fN ic cJ hF en hh pq bo) (ec br 124 4 69 [1,1,1,1,1,1,1,1,0,1,0,0] (QI yQ bw bh aB aD ap fO fN ic cJ hF en hh) (pq,bo)):=.ite (fun h1=>.af fun r2 R=>.aR fun ah=>.aR fun ax=>.ret (let q1:=cg [0,1,2,3,4,5,6,7,8,9];bg [(I 1),.J true,(I 2),.al (aa 2 (ae (aY 1 (hJ 3 dp r2) false) (aa 1 (ae .ev [])))),(I 2),.aK [0,1,2,3,4,5,6,7,8,9] [.box di,.pure,.pure,.pure,.box jZ,.cK (aw 1 (lV 3 dp) (bo.set (0+pq.toNat) r2)),.bn (aw 1 (bH 7 0 2) cJ),.bn (dr 2 a9 hF),.pure,.pure] [(0,ii),(5,ii),(9,gD ((bo.set (0+pq.toNat) r2).length)),(59,ii),(60,ii)]] (.aW h1 (He r2 R) ah.1 ah.2 (ij (lV 3 dp) ax) (hS 1) (ao 1 aq aB) (ao 1 aq aD) (.f7 (ao 1 aq ap) (c1 1 (ha (dl (lV 3 dp) bo) (0+pq.toNat) r2)) (ao 1 (uo (sz:=3) pQ) (bo.set (0+pq.toNat) r2)) (eD q1 7 7 0 2 rfl cJ) (ek q1 2 e9 hF) (ao 1 aq en) (ao 1 e8 hh) (ib (d5 bo) (0+pq.toNat) r2))))) (fun h1=>.ret (let q2:=cg [0,1,2,3,4,5,6,7,8,9];bg [(I 1),.J false,.aK [0,1,2,3,4,5,6,7,8,9] [.box di,.pure,.pure,.pure,.box jZ,.pure,.bn (aw 1 (bH 7 0 2) cJ),.bn (dr 2 a9 hF),.pure,.pure] (a5 [0,5,9])] (.aW h1 (ao 1 aq aB) (ao 1 aq aD) (ao 1 aq ap) (ao 1 (uo (sz:=3) pQ) bo) (eD q2 7 7 0 2 rfl cJ) (ek q2 2 e9 hF) (ao 1 aq en) (.e1 (ao 1 e8 hh)))))
def QJ (yR bw bh:Int)(aB aD ap:ar)(fO:Bool)(fN:ar)(ic:Int)(cJ:ar)(fW:List bR)(uC:List (List bx))(hh:List Bool):d6 (Int×(List (Option eY))) (List (Option eY)):=⟨fun (rm,bo)=>du [(0,.ref 0 0 0 0),(5,.ref 4 0 0 0),(9,.bf 5 0 0 bo.length),(71,.bf 6 0 0 cJ.length),(72,.n .i64 yR),(73,.n .i64 rm)] [(hL 1 2 3 bw bh aB aD ap),(aw 1 eI aB),(aw 1 eI aD),(aw 1 eI ap),(ke 7 6 9 fW fO fN cJ ic hh),(aw 1 (lV 3 dp) bo),(aw 1 eI cJ),(aw 1 (bH 8 0 2) fW),(dr 2 a9 uC),(aw 1 fS hh)],fun | a=>⟨some 4,[(0,.ref 0 0 0 0),(9,.bf 4 0 0 a.length)],[(hL 1 2 3 bw bh aB aD ap),(aw 1 eI aB),(aw 1 eI aD),(aw 1 eI ap),(aw 1 (lV 3 dp) a)]⟩⟩
def AK (yR bw bh:Int)(aB aD ap:ar)(fO:Bool)(fN:ar)(ic:Int)(cJ:ar)(fW:List bR)(uC:List (List bx))(hh:List Bool)(rm:Int)(bo:List (Option eY)):Option ((Int×(List (Option eY)))⊕((List (Option eY)))) :=if (decide (rm<yR))=true then if 0<=rm/\rm<(cJ.length:Nat) then cJ[(0+rm.toNat)]? >>= fun az =>if 0<=rm/\rm<(fW.length:Nat) then fW[(0+rm.toNat)]? >>= fun b6 =>b6 >>= fun mw =>uC[mw.1]? >>= fun tN =>if 0<=ic/\ic<(mw.2:Nat) then tN[(0+ic.toNat)]? >>= fun oF =>tl oF fN >>= fun fG =>if 0<=az/\az<(bo.length:Nat) then if (0+az.toNat)<bo.length then some (.inl (U (rm+1),bo.set (0+az.toNat) fG)) else none else none else none else none else none else some (.inr bo)
def KN (yR bw bh:Int)(aB aD ap:ar)(fO:Bool)(fN:ar)(ic:Int)(cJ:ar)(fW:List bR)(uC:List (List bx))(hh:List Bool)(rm:Int)(bo:List (Option eY)):Option ((List (Option eY))):=iter (fun w:Int×(List (Option eY))=>AK yR bw bh aB aD ap fO fN ic cJ fW uC hh w.1 w.2) (rm,bo)
theorem Y5:bq (AK yR bw bh aB aD ap fO fN ic cJ fW uC hh rm bo) (ec br 124 4 69 [1,1,1,1,1,1,1,1,1,0,1,0,0] (QJ yR bw bh aB aD ap fO fN ic cJ fW uC hh) (rm,bo)):=.ite (fun h1=>.aR fun h2=>.af fun az ah=>.aR fun ax=>.af fun b6 a7=>.af fun mw b0=>.af fun tN eC=>.aR fun dj=>.af fun oF eF=>.af fun fG fL=>.aR fun gJ=>.aR fun hs=>.ret (let q1:=cg [0,1,2,3,4,5,6,7,8,9];let q2:=jT (gZ 2 a9 uC) jj eC;bg [(I 1),.J true,.al (bi 2 (.b2 (eI az)) 2),.al (aa 8 (ae (.b2 ((bH 8 0 2) b6)) (aa 4 (ae (.fX 86 (.bf 8 (mw.1+0) 0 mw.2) (.gq (b3 2 a9 tN) [])) (ae (.gq (b3 2 a9 tN) (a9 oF)) (aa 5 (ae (aY 2 (hJ 3 dp fG) false) (aa 1 (ae .ev []))))))))),(I 2),.aK [0,1,2,3,4,5,6,7,8,9] [.box di,.pure,.pure,.pure,.box jZ,.cK (aw 1 (lV 3 dp) (bo.set (0+az.toNat) fG)),.pure,.bn (aw 1 (bH 8 0 2) fW),.bn (dr 2 a9 uC),.pure] [(0,ii),(5,ii),(9,gD ((bo.set (0+az.toNat) fG).length)),(71,ii),(72,ii),(73,ii)]] (.aW h1 h2.1 h2.2 (bQ eI ah) ax.1 ax.2 (bQ (bH 8 0 2) a7) (lH (ew:=8) (c:=0) (sz:=2) b0) (.aW q2 dj.1 dj.2 q2 (bQ a9 eF) (K0 fG fL) gJ.1 gJ.2 (.aW (ij (lV 3 dp) hs) (hS 1) (ao 1 aq aB) (ao 1 aq aD) (ao 1 aq ap) (c1 1 (ha (dl (lV 3 dp) bo) (0+az.toNat) fG)) (ao 1 (uo (sz:=3) pQ) (bo.set (0+az.toNat) fG)) (ao 1 aq cJ) (.db (eD q1 8 8 0 2 rfl fW) (ek q1 2 e9 uC) (ao 1 e8 hh) (ib (d5 bo) (0+az.toNat) fG))))))) (fun h1=>.ret (bg [(I 1),.J false,.aK [0,1,2,3,5] [.box di,.pure,.pure,.pure,.pure] (a5 [0,9])] (.dW h1 (ao 1 aq aB) (ao 1 aq aD) (ao 1 aq ap) (ao 1 (uo (sz:=3) pQ) bo))))
def QK (yA bw bh:Int)(aB aD ap:ar)(bm:List (Option eY)):d6 ((Option eY)×Int) (Option eY):=⟨fun (jd,ri)=>du [(0,.ref 0 0 0 0),(9,.bf 4 0 0 bm.length),(13,hJ 3 dp jd),(102,.bf 4 0 0 bm.length),(103,.n .i64 yA),(104,.n .i64 ri)] [(hL 1 2 3 bw bh aB aD ap),(aw 1 eI aB),(aw 1 eI aD),(aw 1 eI ap),(aw 1 (lV 3 dp) bm)],fun | a=>⟨some 6,[(9,.bf 4 0 0 bm.length),(13,hJ 3 dp a)],[(hL 1 2 3 bw bh aB aD ap),(aw 1 eI aB),(aw 1 eI aD),(aw 1 eI ap),(aw 1 (lV 3 dp) bm)]⟩⟩
def AL (yA bw bh:Int)(aB aD ap:ar)(bm:List (Option eY))(jd:Option eY)(ri:Int):Option (((Option eY)×Int)⊕((Option eY))) :=if (decide (ri<yA))=true then if 0<=ri/\ri<(bm.length:Nat) then bm[(0+ri.toNat)]? >>= fun az =>if 0<=ri/\ri<(ap.length:Nat) then ap[(0+ri.toNat)]? >>= fun b6 =>vd b6 >>= fun ct =>Dr az ct >>= fun c5 =>Dx jd c5 >>= fun d8 =>some (.inl (d8,U (ri+1))) else none else none else some (.inr jd)
def KO (yA bw bh:Int)(aB aD ap:ar)(bm:List (Option eY))(jd:Option eY)(ri:Int):Option ((Option eY)):=iter (fun w:(Option eY)×Int=>AL yA bw bh aB aD ap bm w.1 w.2) (jd,ri)
theorem Y6:bq (AL yA bw bh aB aD ap bm jd ri) (ec br 124 4 69 [1,1,1,1,1,1,1,1,1,1,1,0,1,0,0] (QK yA bw bh aB aD ap bm) (jd,ri)):=.ite (fun h1=>.aR fun h2=>.af fun az ah=>.aR fun ax=>.af fun b6 a7=>.af fun ct b0=>.af fun c5 eC=>.af fun d8 dd=>.ret (bg [(I 1),.J true,.al (bi 2 (.b2 ((lV 3 dp) az)) 2),.al (aa 8 (ae (.b2 (eI b6)) (ae (aY 1 (hJ 3 dp ct) false) (ae (aY 2 (hJ 3 dp c5) false) (ae (aY 2 (hJ 3 dp d8) false) (aa 1 [])))))),(I 2),.aK [0,1,2,3,4] [.box di,.pure,.pure,.pure,.pure] (a5 [0,9,13,102,103,104])] (.aW h1 h2.1 h2.2 (bQ (lV 3 dp) ah) ax.1 ax.2 (bQ eI a7) (He ct b0) (.ei (ZN c5 eC) (Z1 d8 dd) (ao 1 aq aB) (ao 1 aq aD) (ao 1 aq ap) (ao 1 (uo (sz:=3) pQ) bm))))) (fun h1=>.ret (bg [(I 1),.J false,.aK [0,1,2,3,4] [.box di,.pure,.pure,.pure,.pure] (a5 [9,13])] (.dW h1 (ao 1 aq aB) (ao 1 aq aD) (ao 1 aq ap) (ao 1 (uo (sz:=3) pQ) bm))))
def ue (fa et:Int)(cx fM eg:ar):Option (Int×(List (Option eY))×(Option eY)) :=Bq fa et cx fM eg >>= fun r1 =>match r1 with | .inl bB=>(if 0<=bB.2.2.1/\(8:Int)*bB.2.2.1<=281474976710656/\bB.2.2.1<9223372036854775808 then if eg.length<=bB.2.2.1.toNat then uU bB.1 bB.2.1 bB.2.2.1 bB.2.2.2.1 bB.2.2.2.2.2.2 bB.2.2.2.2.1 bB.2.2.2.2.2.1 (eg++(List.replicate bB.2.2.1.toNat 0:ar).drop eg.length) >>= fun bA =>if bA.1=true then KL et fa cx fM eg bB.2.2.1 bB.2.2.2.1 0 bA.2.1 bA.2.2.1 (eg++(List.replicate bB.2.2.1.toNat 0:ar).drop eg.length) bA.2.2.2.1 bA.2.2.2.2.1 bA.2.2.2.2.2 >>= fun bp =>if 0<=et/\(8:Int)*et<=281474976710656/\et<9223372036854775808 then KM ((et.toNat:Nat):Int) fa et cx fM eg bp.1 bp.2.1 bB.2.2.1 bB.2.2.2.1 bp.2.2.1 bp.2.2.2.1 bp.2.2.2.2 0 (List.replicate et.toNat (none:(Option eY)):List (Option eY)) >>= fun d8 =>KN ((bp.2.2.2.1.length:Nat):Int) fa et cx fM eg bp.1 bp.2.1 bB.2.2.1 bp.2.2.2.1 bB.2.2.2.1 bp.2.2.1 bp.2.2.2.2 0 d8 >>= fun eP =>vd 0 >>= fun da =>KO ((eP.length:Nat):Int) fa et cx fM eg eP da 0 >>= fun e7 =>some (0,eP,e7) else none else some (3,([]:List (Option eY)),(none:(Option eY))) else none else none) | .inr bB=>(some (2,([]:List (Option eY)),(none:(Option eY))))
set_option maxHeartbeats 4000000 in
theorem KP:bq (ue fa et cx fM eg) (fun a=>Con br 69 [.ref 0 0 0 0] (ns fa et cx fM eg) (.dY [.n .i64 a.1,.isl 1 (a.2.1.map (lV 3 dp)),hJ 3 dp a.2.2]) (ns fa et cx fM eg)):=by
 unfold ue
 exact .af fun r1 h2 =>
  (let zg:=kr fa et 1 0 0 cx.length 2 0 0 fM.length 3 0 0 eg.length;have bO:=((.dW (iZ (na [0,1,2,3]) 5 [zg] [zg] rfl) (iR 5 [zg]) (eW 1 aq cx) (eW 1 aq fM) (eW 1 aq eg)):cC _);
  (by
  rcases r1 with bB|bB
  ·exact(.aR fun ah =>
  .aR fun ax =>
  .af fun bA a7 =>
  (let l8:=[(tM 0 0),(tM 1 0),(tM 2 0),(tM 3 0),(nK [(4,0)]),(nK [(4,1)]),(nK [(4,2)]),(nK [(4,3)]),(tM 4 4)];let qf:=jg 4 1 0 bB.2.2.2.1.length bB.1 bB.2.1 4 2 0 bB.2.2.2.2.1.length bB.2.2.1 4 3 0 bB.2.2.2.2.2.1.length;let j1:=dr 2 a9 bB.2.2.2.2.2.2;let oD:=(eg++(List.replicate bB.2.2.1.toNat 0:ar).drop eg.length);let o6:=jg 1 0 0 bB.2.2.2.1.length bA.2.1 bA.2.2.1 3 0 0 bA.2.2.2.2.1.length bB.2.2.1 4 0 0 bA.2.2.2.2.2.length;let qg:=jg 5 0 0 bB.2.2.2.1.length bB.1 bB.2.1 6 0 0 bB.2.2.2.2.1.length bB.2.2.1 7 0 0 bB.2.2.2.2.2.1.length;let sg:=kr fa et 1 0 0 cx.length 2 0 0 fM.length 3 0 0 eg.length;let pE:=iu [0,1,2,3,8];let ze:=aw 1 (bH 8 0 2) bB.2.2.2.1;let w1:=cg [0,1,2,3,8];let zf:=hL 1 2 3 fa et cx fM eg;let CP:=na [4,5,8,6,7,15];let CQ:=iu [4,5,8,6,7,15];let Gf:=(lZ bB.2.2.1.toNat (0:Int));let CR:=lG eI bB.2.2.1.toNat 0;let t2:List bU:=[(I 3),.al (bi 1 (.call {a6:=(nq [0,1,2,3]),dq:=[.bn zf,.pure,.pure,.pure],ac:=[ii],r:= .dY [.ref 4 0 0 0,.b true],fe:=[zf,(aw 1 eI cx),(aw 1 eI fM),(aw 1 eI eg),(a1.mk 6 [qf] .live::a1.mk 1 (bB.2.2.2.1.map (bH 4 4 2)) .live::b3 1 eI bB.2.2.2.2.1::b3 1 fS bB.2.2.2.2.2.1::j1)],gW:= .comp [.cM .id,.cM .id],hZ:=[.bn zf,.pure,.pure,.pure,.bn (a1.mk 6 [(jg 8 1 0 bB.2.2.2.1.length bB.1 bB.2.1 8 2 0 bB.2.2.2.2.1.length bB.2.2.1 8 3 0 bB.2.2.2.2.2.1.length)] .live::a1.mk 1 (bB.2.2.2.1.map (bH 8 4 2)) .live::b3 1 eI bB.2.2.2.2.1::b3 1 fS bB.2.2.2.2.2.1::j1)],fg:=[0,1,2,3],fb:=false}) 5),.aK [0,1,2,3,8] [.box di,.pure,.pure,.pure,.bn (a1.mk 6 [qf] .live::a1.mk 1 (bB.2.2.2.1.map (bH 4 4 2)) .live::b3 1 eI bB.2.2.2.2.1::b3 1 fS bB.2.2.2.2.2.1::j1)] [(0,ii),(2,ii),(3,ii),(4,.bl (.cM (.n7 3))),(5,ii),(6,ii),(16,.comp [.cM .id,.cM .id]),(17,ii),(18,.comp [.cM .id,.cM .id]),(19,ii),(20,ii)],.uI l8 [([],some (.box di)),([],some (.pure)),([],some (.pure)),([],some (.pure)),([.box [.at_ 5 0 bB.2.2.2.1.length,.id,.id,.at_ 6 0 bB.2.2.2.2.1.length,.id,.at_ 7 0 bB.2.2.2.2.2.1.length]],none),([.rx ze],none),([.pure],none),([.pure],none),([],some (.rx j1))] [(0,ii),(2,ii),(3,ii),(4,ii),(5,.bl (.cM (.at_ 4 0 0))),(6,ii),(16,.comp [.cM (.at_ 4 0 0),.cM .id]),(17,ii),(18,.comp [.cM (.at_ 4 0 0),.cM .id]),(19,.bl (.cM (.at_ 4 0 0))),(20,ii)],(I 2),.J false,(I 6),(I 6),.al (bi 2 (.call {a6:=(nq [4,5,8,6,7,15]),dq:=[.bn (ke 1 3 4 bB.2.2.2.1 bB.1 bB.2.1 bB.2.2.2.2.1 bB.2.2.1 bB.2.2.2.2.2.1),.bn (aw 1 (bH 2 0 2) bB.2.2.2.1),.bn j1,.pure,.pure,.cK (aw 1 eI oD)],ac:=[ii,.bl (.cM (.len (oD.length)))],r:= .b bA.1,fe:=(p3 bB.2.2.2.1 bA.2.1 bA.2.2.1 bA.2.2.2.2.1 bB.2.2.1 bA.2.2.2.2.2 bA.2.2.2.1 (aw 1 eI oD)),gW:=ii,hZ:=[.bn (ke 5 6 7 bB.2.2.2.1 bA.2.1 bA.2.2.1 bA.2.2.2.2.1 bB.2.2.1 bA.2.2.2.2.2),.bn ze,.bn (dr 2 a9 bA.2.2.2.1),.pure,.pure,.pure],fg:=[4,5,6,7,8,15],fb:=false}) 1)];
  have fw:=bO.ay (.aW (iZ pE 5 [sg] [sg] rfl) (iR 5 [sg]) (eW 1 aq cx) (eW 1 aq fM) (eW 1 aq eg) (fD (show a1.mk 6 [(jg 8 1 0 bB.2.2.2.1.length bB.1 bB.2.1 8 2 0 bB.2.2.2.2.1.length bB.2.2.1 8 3 0 bB.2.2.2.2.2.1.length)] .live=kE (iu [0,1,2,3,8]) (a1.mk 6 [(jg 4 1 0 bB.2.2.2.1.length bB.1 bB.2.1 4 2 0 bB.2.2.2.2.1.length bB.2.2.1 4 3 0 bB.2.2.2.2.2.1.length)] .live) from rfl) (fD (vZ pE 8 4 4 2 rfl bB.2.2.2.1) (fD (hT pE 1 jB bB.2.2.2.2.1) (fD (hT pE 1 IC bB.2.2.2.2.2.1) (ek pE 2 e9 bB.2.2.2.2.2.2))))) ((ls rfl (ls rfl (ls rfl (ls rfl (HE (gZ 2 a9 bB.2.2.2.2.2.2)))))):nT (a1.mk 6 [qf] .live::a1.mk 1 (bB.2.2.2.1.map (bH 4 4 2)) .live::b3 1 eI bB.2.2.2.2.1::b3 1 fS bB.2.2.2.2.2.1::j1)) (G5 (.inl bB) h2) (.aW (ao 1 aq cx) (ao 1 aq fM) (ao 1 aq eg) (fD (show a1.mk 6 [(jg 4 1 0 bB.2.2.2.1.length bB.1 bB.2.1 4 2 0 bB.2.2.2.2.1.length bB.2.2.1 4 3 0 bB.2.2.2.2.2.1.length)] .live=kE (cg [0,1,2,3,8]) (a1.mk 6 [(jg 8 1 0 bB.2.2.2.1.length bB.1 bB.2.1 8 2 0 bB.2.2.2.2.1.length bB.2.2.1 8 3 0 bB.2.2.2.2.2.1.length)] .live) from rfl) (fD (vZ w1 4 8 4 2 rfl bB.2.2.2.1) (fD (hT w1 1 jB bB.2.2.2.2.1) (fD (hT w1 1 IC bB.2.2.2.2.2.1) (ek w1 2 e9 bB.2.2.2.2.2.2))))) (ao 1 aq cx) (ao 1 aq fM) (ao 1 aq eg) (rfl:(hC l8) 5 0=some (4,1)) (.aW (rfl:bB.2.2.2.1.length=bB.2.2.2.1.length) (rfl:(hC l8) 6 0=some (4,2)) (rfl:bB.2.2.2.2.1.length=bB.2.2.2.2.1.length) (rfl:(hC l8) 7 0=some (4,3)) (rfl:bB.2.2.2.2.2.1.length=bB.2.2.2.2.2.1.length) (H4 (E4 (kT:=(bH 8 0 2)) (dl (bH 4 4 2) bB.2.2.2.1) (fun _=>rfl) (fun x=>(ID (fun _=>rfl)) x)) Is:rv (hC l8) (aw 1 (bH 4 4 2) bB.2.2.2.1) ze) (ao 1 aq bB.2.2.2.2.1) (ao 1 e8 bB.2.2.2.2.2.1) (.aW (H5 (gZ 2 a9 bB.2.2.2.2.2.2) (fun _=>rfl) e9:rv (hC l8) j1 j1) (rfl:(hC l8) 4 0=some (4,0)) (rfl:(hC l8) 4 0=some (4,0)) (rfl:(hC l8) 4 0=some (4,0)) (rfl:(hC l8) 4 0=some (4,0)) cA ah.1 (Int.le_refl bB.2.2.1) (.aW ah.2.1 ah.2.2 (gy eI eg) (agG (nR (dl eI eg) (d5 eg)) ax) (mV CR Gf) (U1 Gf (dE _) ax) (iZ CP 6 [(jg 1 0 0 bB.2.2.2.1.length bB.1 bB.2.1 3 0 0 bB.2.2.2.2.1.length bB.2.2.1 4 0 0 bB.2.2.2.2.2.1.length)] [qg] rfl) (iR 6 [qg]) (.aW (eD CP 2 8 0 2 rfl bB.2.2.2.1) (iR 1 (bB.2.2.2.1.map (bH 8 0 2))) (ek CP 2 e9 bB.2.2.2.2.2.2) (rE 2 a9 bB.2.2.2.2.2.2) (eW 1 aq bB.2.2.2.2.1) (eW 1 e8 bB.2.2.2.2.2.1) (c1 1 (afS CR (nR (dl eI eg) (d5 eg)))) (eW 1 aq oD) (.aW (iZ CQ 6 [(jg 5 0 0 bB.2.2.2.1.length bA.2.1 bA.2.2.1 6 0 0 bA.2.2.2.2.1.length bB.2.2.1 7 0 0 bA.2.2.2.2.2.length)] [o6] rfl) (iR 6 [o6]) (eD CQ 8 2 0 2 rfl bB.2.2.2.1) (iR 1 (bB.2.2.2.1.map (bH 2 0 2))) (ek CQ 2 e9 bA.2.2.2.1) (rE 2 a9 bA.2.2.2.1) (eW 1 aq bA.2.2.2.2.1) (eW 1 e8 bA.2.2.2.2.2) (.e2 (eW 1 aq oD) (JQ bA a7)))))))));
  .ite (fun bb =>
  .af fun bp ch =>
  .aR fun eC =>
  .af fun d8 dd =>
  .af fun eP fz =>
  .af fun da gJ =>
  .af fun e7 gw =>
  .ret (let q1:=(List.replicate et.toNat (none:(Option eY)):List (Option eY));let q2:=(eg++(List.replicate bB.2.2.1.toNat 0:ar).drop eg.length);let bN:=kr fa et 1 0 0 cx.length 2 0 0 fM.length 3 0 0 eg.length;let cu:=ao 1 aq cx;let dU:=ao 1 aq fM;let eh:=ao 1 aq eg;let gd:=cg [0,1,2,3,4,15,5,8,6,7];let gO:=cg [0,1,2,3,4,13,5,6,7,8];let iS:=cg [0,1,2,3,4,5,8,6,7,9];let ln:=aw 1 (bH 7 0 2) bB.2.2.2.1;let mo:=ao 1 aq bp.2.2.2.1;let qe:=ao 1 e8 bp.2.2.2.2;let ks:=dr 2 a9 bp.2.2.1;jF (t2.aM [.J false,(I 5),.aK [0,1,2,3,4,15,5,8,6,7] [.box di,.pure,.pure,.pure,.box jZ,.pure,.bn ln,.bn (dr 2 a9 bA.2.2.2.1),.pure,.pure] [(0,ii),(5,ii),(7,gD (q2.length)),(41,ii),(42,ii)],((QH et fa cx fM eg bB.2.2.1 bB.2.2.2.1).t bp),.al (bi 4 (.b2 [(hJ 3 dp (none:(Option eY)))]) 1),(I 3),.aK [0,1,2,3,4,13,5,6,7,8] [.box di,.pure,.pure,.pure,.box jZ,.cK (aw 1 (lV 3 dp) q1),.bn ln,.bn ks,.pure,.pure] [(0,ii),(5,ii),(9,gD (q1.length)),(59,ii),(60,ii)],((QI ((et.toNat:Nat):Int) fa et cx fM eg bp.1 bp.2.1 bB.2.2.1 bB.2.2.2.1 bp.2.2.1 bp.2.2.2.1 bp.2.2.2.2).t d8),(I 6),.aK [0,1,2,3,4,5,8,6,7,9] [.box di,.pure,.pure,.pure,.box jZ,.pure,.pure,.bn (aw 1 (bH 8 0 2) bB.2.2.2.1),.bn ks,.pure] (a5 [0,5,9,71,72,73]),((QJ ((bp.2.2.2.1.length:Nat):Int) fa et cx fM eg bp.1 bp.2.1 bB.2.2.1 bp.2.2.2.1 bB.2.2.2.1 bp.2.2.1 bp.2.2.2.2).t eP),.al (ae (aY 1 (hJ 3 dp da) false) (aa 1 [])),(I 3),.aK [0,1,2,3,4] [.box di,.pure,.pure,.pure,.pure] (a5 [0,9,13,102,103,104]),((QK ((eP.length:Nat):Int) fa et cx fM eg eP).t e7),(I 5)]) [0,1,2,3] [.bn (hL 1 2 3 fa et cx fM eg),.pure,.pure,.pure] (fw.ay (.aW (cB bb) cu dU eh (ao 1 aq q2) (eD gd 7 8 0 2 rfl bB.2.2.2.1) (ek gd 2 e9 bA.2.2.2.1) (ao 1 aq bA.2.2.2.2.1) (.aW (ao 1 e8 bA.2.2.2.2.2) (U1 (lZ bB.2.2.1.toNat (0:Int)) (dE _) ax) (c3 ch Y3) eC.1 (Int.le_refl et) eC.2.1 eC.2.2 cu (.aW dU eh (c1 1 (lG (lV 3 dp) et.toNat (none:(Option eY)))) (ao 1 (uo (sz:=3) pQ) q1) (eD gO 7 6 0 2 rfl bB.2.2.2.1) (ek gO 2 e9 bp.2.2.1) mo qe (.aW (lZ et.toNat ((none:(Option eY)):(Option eY))) (c3 dd Y4) cu dU eh (ao 1 (uo (sz:=3) pQ) d8) mo (eD iS 8 7 0 2 rfl bB.2.2.2.1) (.aW (ek iS 2 e9 bp.2.2.1) qe (c3 fz Y5) (He da gJ) cu dU eh (ao 1 (uo (sz:=3) pQ) eP) (.f7 (c3 gw Y6) (iZ (cg [0,1,2,3]) 5 [bN] [bN] rfl) cu dU eh (hj (lV 3 dp) eP) (gy (lV 3 dp) eP) (dZ (uo (sz:=3) pQ) eP)))))))) (.comp [.cM .id,.cM (.eU (eP.map (lV 3 dp))),.cM .id])))
  (fun bb =>
  .ret (let nZ:=kr fa et 1 0 0 cx.length 2 0 0 fM.length 3 0 0 eg.length;jF (t2.aM [.J true,(I 3)]) [0,1,2,3] [.bn (hL 1 2 3 fa et cx fM eg),.pure,.pure,.pure] (fw.ay (.dW (cy bb) (iZ (cg [0,1,2,3]) 5 [nZ] [nZ] rfl) (ao 1 aq cx) (ao 1 aq fM) (ao 1 aq eg))) (.comp [.cM .id,.cM (.fR 1),.cM (.n7 3)])))))
  ·exact(.ret (let nt:=kr fa et 1 0 0 cx.length 2 0 0 fM.length 3 0 0 eg.length;let n0:=hL 1 2 3 fa et cx fM eg;jF [(I 3),.al (bi 1 (.call {a6:=(nq [0,1,2,3]),dq:=[.bn n0,.pure,.pure,.pure],ac:=[ii],r:= .dY [.jo,.b false],fe:=(ns fa et cx fM eg),gW:=ii,hZ:=[.bn n0,.pure,.pure,.pure],fg:=[0,1,2,3],fb:=false}) 5),(I 2),.J true,(I 3)] [0,1,2,3] [.bn n0,.pure,.pure,.pure] (bO.ay (.aW (iZ (iu [0,1,2,3]) 5 [nt] [nt] rfl) (iR 5 [nt]) (eW 1 aq cx) (eW 1 aq fM) (eW 1 aq eg) (G5 (.inr bB) h2) bY (iZ (cg [0,1,2,3]) 5 [nt] [nt] rfl) (.bM (ao 1 aq cx) (ao 1 aq fM) (ao 1 aq eg)))) (.comp [.cM .id,.cM (.fR 1),.cM (.n7 3)])))))
def Dn (cU:bx):Option bx :=if (decide ((60:Int)<(len_ eI cU.b9)))=true then some (⟨false,([]:ar)⟩:bx) else yl cU.b9 >>= fun r2 =>some (⟨cU.cz,r2⟩:bx)
theorem ZE:bq (Dn cU) (fun r=>Con br 114 [.agg (a9 cU)] [] (.agg (a9 r)) []):=.ite (fun h1=>.ret (bj [(I 2),(I 4),.J true,(I 2)] (.e1 h1) (.bl (.agg [.id,.fR 1])))) (fun h1=>.af fun r2 R=>.ret (bj [(I 2),(I 4),.J false,.al (bi 4 (aY 1 (.isl 1 (r2.map eI)) false) 2)] (.e2 h1 (Lt r2 R))))
def xZ (cU:Option eY):Option aE :=cU.elim (some (⟨(⟨false,([]:ar)⟩:bx),([]:ar)⟩:aE)) fun eR =>Dn eR.r7 >>= fun aL =>yl eR.rr >>= fun aJ =>some (⟨aL,aJ⟩:aE)
theorem Hf:bq (xZ cU) (fun r=>Con br 71 [(hJ 3 dp cU)] [] (.agg (aP r)) []):=.np (fun h1=>.ret (bj [(I 1),.al (aa 1 (ae (.fX 3 (.gr 3 none) .ev) [])),.J true,(I 2)] (.e2 (F5 (sz:=3) (f:=dp) h1) bY) (.bl (.agg [.id,.fR 1,.fR 1])))) (fun eR h1=>.af fun aL ah=>.af fun aJ aQ=>.ret (bj [(I 1),.al (aa 1 (ae (.fX 3 (.gr 3 (some (dp eR))) .ev) [])),.J false,.al (aa 1 (ae (.fX 6 (.gr 3 (some (dp eR))) .ev) (aa 2 (ae (aY 1 (.agg (a9 aL)) false) (aa 1 (ae (.fX 11 (.gr 3 (some (dp eR))) .ev) (bi 2 (aY 1 (.isl 1 (aJ.map eI)) false) 2)))))))] (.ei (mH (sz:=3) (f:=dp) h1) cA (mH (sz:=3) (f:=dp) h1) (ZE aL ah) (mH (sz:=3) (f:=dp) h1) (Lt aJ aQ))))
def Dy (bu:Int):Option aE :=vd bu >>= fun r1 =>xZ r1 >>= fun aL =>some aL
theorem Kn:bq (Dy bu) (fun r=>Con br 70 [.n .i64 bu] [] (.agg (aP r)) []):=.af fun r1 h2=>.af fun aL ah=>.ret (bj [(I 1),.al (aa 1 (ae (aY 1 (hJ 3 dp r1) false) (ae (aY 1 (.agg (aP aL)) false) (aa 1 []))))] (.e2 (He r1 h2) (Hf aL ah)))
def Er (aH:Option eY):Option (Option eY) :=aH.elim (some (none:(Option eY))) fun eR =>rH eR.r7 >>= fun aL =>some (some (⟨aL,eR.rr⟩:eY))
theorem Sm:bq (Er aH) (fun r=>Con br 73 [(hJ 3 dp aH)] [] (hJ 3 dp r) []):=.np (fun h1=>.ret (bj [(I 1),.al (aa 1 (ae (.fX 3 (.gr 3 none) .ev) [])),.J true,(I 1)] (.e2 (F5 (sz:=3) (f:=dp) h1) bY) (.bl (.cM (.n7 3))))) (fun eR h1=>.af fun aL ah=>.ret (bj [(I 1),.al (aa 1 (ae (.fX 3 (.gr 3 (some (dp eR))) .ev) [])),.J false,.al (aa 1 (ae (.fX 5 (.gr 3 (some (dp eR))) .ev) (aa 2 (ae (aY 1 (.agg (a9 aL)) false) (bi 1 (.fX 10 (.gr 3 (some (dp eR))) .ev) 5)))))] (.ei (mH (sz:=3) (f:=dp) h1) cA (mH (sz:=3) (f:=dp) h1) (GX aL ah) (mH (sz:=3) (f:=dp) h1) (og (pQ (⟨aL,eR.rr⟩:eY)):jk [[.b aL.cz,.isl 1 (aL.b9.map eI),.isl 1 (eR.rr.map eI)]])) (.bl (.vA [.id,.id,.id]))))
def wo (cU:Option eY):Option (Option eY) :=cU >>= fun fr =>if (decide ((24:Int)<(len_ eI fr.r7.b9)))=true then some (none:(Option eY)) else if (decide ((24:Int)<(len_ eI fr.rr)))=true then some (none:(Option eY)) else some cU
theorem Lk:bq (wo cU) (fun r=>Con br 72 [(hJ 3 dp cU)] [] (hJ 3 dp r) []):=.af fun fr h2=>(have bO:=((.e1 (mH (sz:=3) (f:=dp) h2)):cC _);.ite (fun R=>.ret (bj [(I 1),.al (aa 1 (ae (.fX 3 (.gr 3 (some (dp fr))) .ev) (aa 6 (b5 6 (ae (.J true) []))))),.J true,(I 1)] (bO.ay (.f7 R R R R R R R bY)) (.bl (.cM (.n7 3))))) (fun R=>(let t2:List bU:=[(I 1),.al (aa 1 (ae (.fX 3 (.gr 3 (some (dp fr))) .ev) (aa 7 (ae (.fX 11 (.gr 3 (some (dp fr))) .ev) (aa 4 (ae (.J false) []))))))];have fw:=bO.ay (.f7 R R (mH (sz:=3) (f:=dp) h2) R R R R R);.ite (fun ah=>.ret (bj (t2.aM [.J true,(I 1)]) (fw.ay (.e1 ah)) (.bl (.cM (.n7 3))))) (fun ah=>.ret (bj (t2.aM [.J false,(I 2)]) (fw.ay (.e1 ah)))))))
def Dc (aT:dc)(bD kg kd:Int)(ed cx fM:ar):Option (Bool×ar×ar×Bool×ar×ar×Bool×Bool×Bool×ar) :=xu aT bD 1 kg kd ed cx fM >>= fun r1 =>ue kg kd ed cx r1 >>= fun aL =>if (aL.1 == (2:Int))=true then some (false,([]:ar),([]:ar),false,([]:ar),([]:ar),false,false,false,r1) else if (aL.1 == (3:Int))=true then Dy 0 >>= fun bz =>xu aT bD (-1) kg kd ed cx r1 >>= fun bp =>ue kg kd ed cx bp >>= fun bC =>if (bC.1 == (3:Int))=true then some (bz.dn.cz,bz.dn.b9,bz.eM,bz.dn.cz,bz.dn.b9,bz.eM,true,true,true,bp) else Er bC.2.2 >>= fun eP =>wo eP >>= fun da =>xZ da >>= fun e7 =>some (e7.dn.cz,e7.dn.b9,e7.eM,bz.dn.cz,bz.dn.b9,bz.eM,false,true,true,bp) else wo aL.2.2 >>= fun bz =>xZ bz >>= fun bp =>xu aT bD (-1) kg kd ed cx r1 >>= fun bC =>ue kg kd ed cx bC >>= fun cS =>if (cS.1 == (3:Int))=true then Dy 0 >>= fun da =>some (da.dn.cz,da.dn.b9,da.eM,bp.dn.cz,bp.dn.b9,bp.eM,true,false,true,bC) else Er cS.2.2 >>= fun da =>wo da >>= fun e7 =>xZ e7 >>= fun kh =>some (kh.dn.cz,kh.dn.b9,kh.eM,bp.dn.cz,bp.dn.b9,bp.eM,false,false,true,bC)
theorem Yz:bq (Dc aT bD kg kd ed cx fM) (fun a=>Con br 40 [.fB 2 [(hl aT)] 0 0,.agg (kr kg kd 0 0 0 ed.length 1 0 0 cx.length 2 0 0 fM.length),.n .i64 bD] [(aw 1 eI ed),(aw 1 eI cx),(aw 1 eI fM)] (.dY [.agg [.b a.1,.isl 1 (a.2.1.map eI),.isl 1 (a.2.2.1.map eI),.b a.2.2.2.1,.isl 1 (a.2.2.2.2.1.map eI),.isl 1 (a.2.2.2.2.2.1.map eI),.b a.2.2.2.2.2.2.1,.b a.2.2.2.2.2.2.2.1],.b a.2.2.2.2.2.2.2.2.1]) [(aw 1 eI ed),(aw 1 eI cx),(aw 1 eI a.2.2.2.2.2.2.2.2.2)]):=.af fun r1 h2=>.af fun aL ah=>(let l8:=kr kg kd 1 0 0 ed.length 2 0 0 cx.length 3 0 0 r1.length;let qf:=kr kg kd 0 0 0 ed.length 1 0 0 cx.length 2 0 0 r1.length;let j1:=kr kg kd 0 0 0 ed.length 1 0 0 cx.length 2 0 0 fM.length;let oD:=iZ (iu [3,0,1,2]) 5 [qf] [l8] rfl;let o6:=eW 1 aq ed;let qg:=eW 1 aq cx;let sg:=hL 0 1 2 kg kd ed cx r1;let pE:=eW 1 aq r1;let t1:List bU:=[(I 3),(I 1),.al (aa 2 (ae (.call {a6:=(nq [3,0,1,2]),dq:=[.bn (hL 1 2 3 kg kd ed cx fM),.pure,.pure,.pure],ac:=[ii,ii,ii,ii],r:= .dY [],fe:=(ns kg kd ed cx r1),gW:=ii,hZ:=[.bn sg,.pure,.pure,.pure],fg:=[0,1,2,3],fb:=false}) [])),.al (ae (.call {a6:=(nq [3,0,1,2]),dq:=[.bn (hL 1 2 3 kg kd ed cx r1),.pure,.pure,.pure],ac:=[ii],r:= .dY [.n .i64 aL.1,.isl 1 (aL.2.1.map (lV 3 dp)),hJ 3 dp aL.2.2],fe:=(ns kg kd ed cx r1),gW:=ii,hZ:=[.bn sg,.pure,.pure,.pure],fg:=[0,1,2,3],fb:=false}) (aa 7 [])),(I 1),(I 2)];have aN:=((.aW (iZ (na [3,0,1,2]) 5 [(kr kg kd 1 0 0 ed.length 2 0 0 cx.length 3 0 0 fM.length)] [j1] rfl) (iR 5 [j1]) o6 qg (eW 1 aq fM) oD (iR 5 [l8]) o6 (.aW qg pE (JY r1 h2) (iZ (na [3,0,1,2]) 5 [l8] [qf] rfl) (iR 5 [qf]) o6 qg pE (.ei oD (iR 5 [l8]) o6 qg pE (KP aL ah)))):cC _);.ite (fun ax=>.ret (jF (t1.aM [.J true,(I 3)]) [0,1,2] [.pure,.pure,.pure] (aN.ay (.db ax (ao 1 aq ed) (ao 1 aq cx) (ao 1 aq r1))) (.comp [.agg [.id,.fR 1,.fR 1,.id,.fR 1,.fR 1,.id,.id],.cM .id]))) (fun ax=>.ite (fun aQ=>.af fun bz bb=>.af fun bp ch=>.af fun bC dj=>(let q1:=kr kg kd 1 0 0 ed.length 2 0 0 cx.length 3 0 0 bp.length;let q2:=kr kg kd 0 0 0 ed.length 1 0 0 cx.length 2 0 0 bp.length;let bN:=kr kg kd 0 0 0 ed.length 1 0 0 cx.length 2 0 0 r1.length;let cu:=iZ (iu [3,0,1,2]) 5 [q2] [q1] rfl;let dU:=eW 1 aq ed;let eh:=eW 1 aq cx;let gd:=hL 0 1 2 kg kd ed cx bp;let gO:=eW 1 aq bp;let t3:List bU:=t1.aM [.J false,(I 2),.J true,.al (ae (aY 1 (.agg (aP bz)) false) (aa 4 [])),.al (aa 2 (ae (.call {a6:=(nq [3,0,1,2]),dq:=[.bn (hL 1 2 3 kg kd ed cx r1),.pure,.pure,.pure],ac:=[ii,ii,ii,ii],r:= .dY [],fe:=(ns kg kd ed cx bp),gW:=ii,hZ:=[.bn gd,.pure,.pure,.pure],fg:=[0,1,2,3],fb:=false}) [])),.al (ae (.call {a6:=(nq [3,0,1,2]),dq:=[.bn (hL 1 2 3 kg kd ed cx bp),.pure,.pure,.pure],ac:=[ii],r:= .dY [.n .i64 bC.1,.isl 1 (bC.2.1.map (lV 3 dp)),hJ 3 dp bC.2.2],fe:=(ns kg kd ed cx bp),gW:=ii,hZ:=[.bn gd,.pure,.pure,.pure],fg:=[0,1,2,3],fb:=false}) (aa 6 [])),(I 2)];have eV:=aN.ay (.aW ax aQ (Kn bz bb) (iZ (na [3,0,1,2]) 5 [(kr kg kd 1 0 0 ed.length 2 0 0 cx.length 3 0 0 r1.length)] [bN] rfl) (iR 5 [bN]) dU eh (eW 1 aq r1) (.aW cu (iR 5 [q1]) dU eh gO (JY bp ch) (iZ (na [3,0,1,2]) 5 [q1] [q2] rfl) (iR 5 [q2]) (.aW dU eh gO cu (iR 5 [q1]) dU eh gO (.e1 (KP bC dj)))));.ite (fun dd=>.ret (jF (t3.aM [.J true,.al (ae (aY 1 (.agg (aP bz)) false) (aa 4 [])),(I 3)]) [0,1,2] [.pure,.pure,.pure] (eV.ay (.dW dd (Kn bz bb) (ao 1 aq ed) (ao 1 aq cx) (ao 1 aq bp))))) (fun dd=>.af fun eP fz=>.af fun da gJ=>.af fun e7 gw=>.ret (jF (t3.aM [.J false,.al (aa 1 (ae (aY 1 (hJ 3 dp eP) false) (ae (aY 1 (hJ 3 dp da) false) (ae (aY 1 (.agg (aP e7)) false) (aa 2 []))))),(I 3)]) [0,1,2] [.pure,.pure,.pure] (eV.ay (.ez dd (Sm eP fz) (Lk da gJ) (Hf e7 gw) (ao 1 aq ed) (ao 1 aq cx) (ao 1 aq bp))))))) (fun aQ=>.af fun bz bb=>.af fun bp ch=>.af fun bC dj=>.af fun cS eF=>(let iS:=kr kg kd 1 0 0 ed.length 2 0 0 cx.length 3 0 0 bC.length;let ln:=kr kg kd 0 0 0 ed.length 1 0 0 cx.length 2 0 0 bC.length;let mo:=kr kg kd 0 0 0 ed.length 1 0 0 cx.length 2 0 0 r1.length;let qe:=iZ (iu [3,0,1,2]) 5 [ln] [iS] rfl;let ks:=eW 1 aq ed;let nZ:=eW 1 aq cx;let nt:=hL 0 1 2 kg kd ed cx bC;let n0:=eW 1 aq bC;let t3:List bU:=t1.aM [.J false,(I 2),.J false,.al (aa 1 (ae (aY 1 (hJ 3 dp bz) false) (ae (aY 1 (.agg (aP bp)) false) (aa 2 [])))),.al (aa 2 (ae (.call {a6:=(nq [3,0,1,2]),dq:=[.bn (hL 1 2 3 kg kd ed cx r1),.pure,.pure,.pure],ac:=[ii,ii,ii,ii],r:= .dY [],fe:=(ns kg kd ed cx bC),gW:=ii,hZ:=[.bn nt,.pure,.pure,.pure],fg:=[0,1,2,3],fb:=false}) [])),.al (ae (.call {a6:=(nq [3,0,1,2]),dq:=[.bn (hL 1 2 3 kg kd ed cx bC),.pure,.pure,.pure],ac:=[ii],r:= .dY [.n .i64 cS.1,.isl 1 (cS.2.1.map (lV 3 dp)),hJ 3 dp cS.2.2],fe:=(ns kg kd ed cx bC),gW:=ii,hZ:=[.bn nt,.pure,.pure,.pure],fg:=[0,1,2,3],fb:=false}) (aa 6 [])),(I 2)];have eV:=aN.ay (.aW ax aQ (Lk bz bb) (Hf bp ch) (iZ (na [3,0,1,2]) 5 [(kr kg kd 1 0 0 ed.length 2 0 0 cx.length 3 0 0 r1.length)] [mo] rfl) (iR 5 [mo]) ks nZ (.aW (eW 1 aq r1) qe (iR 5 [iS]) ks nZ n0 (JY bC dj) (iZ (na [3,0,1,2]) 5 [iS] [ln] rfl) (.aW (iR 5 [ln]) ks nZ n0 qe (iR 5 [iS]) ks nZ (.e2 n0 (KP cS eF)))));.ite (fun fz=>.af fun da gJ=>.ret (jF (t3.aM [.J true,.al (ae (aY 1 (.agg (aP da)) false) (aa 4 [])),(I 3)]) [0,1,2] [.pure,.pure,.pure] (eV.ay (.dW fz (Kn da gJ) (ao 1 aq ed) (ao 1 aq cx) (ao 1 aq bC))))) (fun fz=>.af fun da gJ=>.af fun e7 gw=>.af fun kh hQ=>.ret (jF (t3.aM [.J false,.al (aa 1 (ae (aY 1 (hJ 3 dp da) false) (ae (aY 1 (hJ 3 dp e7) false) (ae (aY 1 (.agg (aP kh)) false) (aa 2 []))))),(I 3)]) [0,1,2] [.pure,.pure,.pure] (eV.ay (.ez fz (Sm da gJ) (Lk e7 gw) (Hf kh hQ) (ao 1 aq ed) (ao 1 aq cx) (ao 1 aq bC)))))))))
def D1 (aT:dc)(c4:ar)(bD:Int):Option (nU×Bool) :=wi aT c4 >>= fun r1 =>if r1=true then if (decide (bD<0))=true then some ((⟨(⟨(⟨false,([]:ar)⟩:bx),([]:ar)⟩:aE),(⟨(⟨false,([]:ar)⟩:bx),([]:ar)⟩:aE),false,false⟩:nU),false) else if (decide ((len_ b7 aT.bI)<=bD))=true then some ((⟨(⟨(⟨false,([]:ar)⟩:bx),([]:ar)⟩:aE),(⟨(⟨false,([]:ar)⟩:bx),([]:ar)⟩:aE),false,false⟩:nU),false) else xj aT c4 0 0 >>= fun bA =>Dc aT bD bA.1 bA.2.1 bA.2.2.1 bA.2.2.2.1 bA.2.2.2.2 >>= fun ct =>if bA.2.2.2.2.length=ct.2.2.2.2.2.2.2.2.2.length then some ((⟨(⟨(⟨ct.1,ct.2.1⟩:bx),ct.2.2.1⟩:aE),(⟨(⟨ct.2.2.2.1,ct.2.2.2.2.1⟩:bx),ct.2.2.2.2.2.1⟩:aE),ct.2.2.2.2.2.2.1,ct.2.2.2.2.2.2.2.1⟩:nU),ct.2.2.2.2.2.2.2.2.1) else none else some ((⟨(⟨(⟨false,([]:ar)⟩:bx),([]:ar)⟩:aE),(⟨(⟨false,([]:ar)⟩:bx),([]:ar)⟩:aE),false,false⟩:nU),false)
theorem aaZ:bq (D1 aT c4 bD) (fun r=>Con br 22 [.agg (hl aT),.isl 1 (c4.map eI),.n .i64 bD] [] (.dY [.agg (rS r.1),.b r.2]) []):=.af fun r1 h2=>(have bO:=((.e2 (KY r1 h2) (bP.b r1)):cC _);.ite (fun R=>(have aN:=bO.ay (.bM (cB R) (cB R) (cB R));.ite (fun ah=>.ret (bj [(I 3),.al (aa 2 (ae (aY 2 (.b r1) true) (aa 4 (ae (.J false) (aa 1 (b5 5 (ae (.J true) []))))))),.J true,(I 3)] (aN.ay (.ez ah ah ah ah ah ah bY)) (.comp [.agg [.id,.fR 1,.fR 1,.id,.fR 1,.fR 1,.id,.id],.cM .id]))) (fun ah=>(let t3:List bU:=[(I 3),.al (aa 2 (ae (aY 2 (.b r1) true) (aa 4 (ae (.J false) (aa 6 (ae (.J false) []))))))];.ite (fun ax=>.ret (bj (t3.aM [.J true,(I 3)]) (aN.ay (.ez ah ah ah ah ah ah ax)) (.comp [.agg [.id,.fR 1,.fR 1,.id,.fR 1,.fR 1,.id,.id],.cM .id]))) (fun ax=>.af fun bA a7=>.af fun ct b0=>.aR fun ch=>.ret (let q1:=eW 1 aq bA.2.2.2.1;let q2:=eW 1 aq bA.2.2.1;bj (t3.aM [.J false,.jX 0,.al (aa 1 (ae (.call {a6:=[],dq:=[],ac:=[.bl (.ptr [.id,.id]),ii,ii,ii],r:= .agg (kr bA.1 bA.2.1 0 0 0 bA.2.2.1.length 0 1 0 bA.2.2.2.1.length 0 2 0 bA.2.2.2.2.length),fe:=[[b3 1 eI bA.2.2.1,b3 1 eI bA.2.2.2.1,b3 1 eI bA.2.2.2.2]],gW:= .bl (.agg di),hZ:=[.bn [b3 1 eI bA.2.2.1,b3 1 eI bA.2.2.2.1,b3 1 eI bA.2.2.2.2]],fg:=[0],fb:=true}) (bi 1 (.call {a6:=[.ak 19 0 (b3 1 eI bA.2.2.1),.ak 19 1 (b3 1 eI bA.2.2.2.1),.ak 19 2 (b3 1 eI bA.2.2.2.2)],dq:=[.pure,.pure,.pure],ac:=[.bl (.ptr [.id,.id]),.bl (.agg [.id,.id,.at_ 0 0 bA.2.2.1.length,.at_ 1 0 bA.2.2.2.1.length,.at_ 2 0 bA.2.2.2.2.length]),ii],r:= .dY [.agg [.b ct.1,.isl 1 (ct.2.1.map eI),.isl 1 (ct.2.2.1.map eI),.b ct.2.2.2.1,.isl 1 (ct.2.2.2.2.1.map eI),.isl 1 (ct.2.2.2.2.2.1.map eI),.b ct.2.2.2.2.2.2.1,.b ct.2.2.2.2.2.2.2.1],.b ct.2.2.2.2.2.2.2.2.1],fe:=[(aw 1 eI bA.2.2.1),(aw 1 eI bA.2.2.2.1),(aw 1 eI ct.2.2.2.2.2.2.2.2.2)],gW:=ii,hZ:=[.pure,.pure,.pure],fg:=[0,19],fb:=false}) 4)))]) (aN.ay (.aW ah ah ah ah ah ah ax (og (xF aT):jk [(hl aT)]) (.aW (fD (hT (iu [19]) 1 jB bA.2.2.1) (fD (hT (iu [19]) 1 jB bA.2.2.2.1) (fD (hT (iu [19]) 1 jB bA.2.2.2.2) (l1 (cc:=(iu [19])))))) ((ls rfl (ls rfl (ls rfl yc))):nT [b3 1 eI bA.2.2.1,b3 1 eI bA.2.2.2.1,b3 1 eI bA.2.2.2.2]) (OM bA a7) (bP.agg (lh (bP.n .i64 bA.1) (lh (bP.n .i64 bA.2.1) (lh (bP.bf 0 0 0 bA.2.2.1.length) (lh (bP.bf 0 1 0 bA.2.2.2.1.length) (lh (bP.bf 0 2 0 bA.2.2.2.2.length) us)))))) ((q9 (mU (my qz) (mU (my qz) (mU (my qz) rc))) rb):oz [[b3 1 eI bA.2.2.1,b3 1 eI bA.2.2.2.1,b3 1 eI bA.2.2.2.2]]) (by decide:0≠1) (by decide:0≠2) (by decide:1≠2) (.aW (og (xF aT):jk [(hl aT)]) (rfl:lQ [.ak 19 0 (b3 1 eI bA.2.2.1),.ak 19 1 (b3 1 eI bA.2.2.2.1),.ak 19 2 (b3 1 eI bA.2.2.2.2)] 0 0=some (19,0)) (rfl:bA.2.2.1.length=bA.2.2.1.length) (rfl:lQ [.ak 19 0 (b3 1 eI bA.2.2.1),.ak 19 1 (b3 1 eI bA.2.2.2.1),.ak 19 2 (b3 1 eI bA.2.2.2.2)] 1 0=some (19,1)) (rfl:bA.2.2.2.1.length=bA.2.2.2.1.length) (rfl:lQ [.ak 19 0 (b3 1 eI bA.2.2.1),.ak 19 1 (b3 1 eI bA.2.2.2.1),.ak 19 2 (b3 1 eI bA.2.2.2.2)] 2 0=some (19,2)) (rfl:bA.2.2.2.2.length=bA.2.2.2.2.length) (rfl:eb (some [b3 1 eI bA.2.2.1,b3 1 eI bA.2.2.2.1,b3 1 eI bA.2.2.2.2]) 0=some (b3 1 eI bA.2.2.1)) (.aW q2 (rfl:eb (some [b3 1 eI bA.2.2.1,b3 1 eI bA.2.2.2.1,b3 1 eI bA.2.2.2.2]) 1=some (b3 1 eI bA.2.2.2.1)) q1 (rfl:eb (some [b3 1 eI bA.2.2.1,b3 1 eI bA.2.2.2.1,b3 1 eI bA.2.2.2.2]) 2=some (b3 1 eI bA.2.2.2.2)) (eW 1 aq bA.2.2.2.2) q2 q1 (eW 1 aq ct.2.2.2.2.2.2.2.2.2) (.e1 (Yz ct b0))))))))))))) (fun R=>.ret (bj [(I 3),.al (aa 2 (ae (aY 2 (.b r1) true) (aa 2 (b5 2 (ae (.J true) (aa 1 (b5 5 (aa 1 [])))))))),.J true,(I 3)] (bO.ay (.aW (cy R) (cy R) (cy R) bY bY bY bY bY (.e1 bY))) (.comp [.agg [.id,.fR 1,.fR 1,.id,.fR 1,.fR 1,.id,.id],.cM .id]))))
def D2 (bu:Int):Option Bool :=if (decide (bu<0))=true then some true else some (decide ((1000000000:Int)<=bu))
theorem aa0:bq (D2 bu) (fun r=>Con br 154 [.n .i64 bu] [] (.b r) []):=.ite (fun h1=>.ret (bj [(I 1),.al (aa 3 (b5 2 (ae (.J true) (aa 1 []))))] (.bM h1 h1 h1))) (fun h1=>.ret (bj [(I 1),.al (bi 5 (.J false) 1)] (.bM h1 h1 h1)))
def X6 (aT:ar)(ga:Int):d6 Int ((Unit)⊕(Int)):=⟨fun ff=>du [(0,.isl 1 (aT.map eI)),(1,.fn 154 []),(7,.n .i64 ga),(8,.n .i64 ff)] [],fun | .inl a=>⟨some 0,[],[]⟩ | .inr a=>⟨none,[(4,.n .i64 a)],[]⟩⟩
def zN (aT:ar)(ga ff:Int):Option ((Int)⊕((Unit)⊕(Int))) :=if (decide (ff<ga))=true then if 0<=ff/\ff<aT.length then aT[ff.toNat]? >>= fun az =>D2 az >>= fun aJ =>if aJ=true then some (.inr (.inr ff)) else some (.inl (U (ff+1))) else none else some (.inr (.inl ()))
def OX (aT:ar)(ga ff:Int):Option ((Unit)⊕(Int)):=iter (fun w:Int=>zN aT ga w) ff
theorem OC:bq (zN aT ga ff) (ec br 19 0 142 [1,0,1,0,0] (X6 aT ga) ff):=.ite (fun h1=>.aR fun h2=>.af fun az ah=>.af fun aJ aQ=>(let t1:List bU:=[(I 1),.J true,(I 2),.al (aa 4 (ae (.b2 (eI az)) (ae (aY 1 (.b aJ) true) [])))];have aN:=((.ei h1 h2.1 (de eI h2.2) (bQ eI ah) (aa0 aJ aQ) (bP.b aJ)):cC _);.ite (fun a7=>.ret (bg (t1.aM [.J true,(I 2),.aK [] [] (a5 [4])]) (aN.ay (.e1 a7)))) (fun a7=>.ret (bg (t1.aM [.J false,(I 2),.aK [] [] (a5 [0,1,7,8])]) (aN.ay (.e1 a7)))))) (fun h1=>.ret (bg [(I 1),.J false,.aK [] [] []] (.e1 h1)))
def GW (aT:ar):Option Int :=OX aT (len_ eI aT) 0 >>= fun r1 =>match r1 with | .inl bB=>(some (-1)) | .inr bB=>(some bB)
theorem Ym:bq (GW aT) (fun r=>Con br 142 [.isl 1 (aT.map eI),.fn 154 []] [] (.n .i64 r) []):=by
 unfold GW
 exact .af fun r1 h2 =>
  (let t1:List bU:=[(I 1),(I 3),.aK [] [] (a5 [0,1,7,8])];
  (by
  rcases r1 with bB|bB
  ·exact(.ret (bj (t1.aM [.sub (.exit 0) [] [],(I 1)]) (.e1 (c3 h2 OC))))
  ·exact(.ret (bj (t1.aM [.sub (.ret) [(4,.n .i64 bB)] []]) (.e1 (c3 h2 OC))))))
def z0 (aT:ar):Option Bool :=GW aT >>= fun r1 =>some (decide ((0:Int)<=r1))
theorem OP:bq (z0 aT) (fun r=>Con br 102 [.isl 1 (aT.map eI),.fn 154 []] [] (.b r) []):=.af fun r1 h2=>.ret (bj [(I 1),.al (bi 2 (aY 2 (.n .i64 r1) true) 2)] (.e2 (Ym r1 h2) (bP.n .i64 r1)))
def x3 (aH:ar):Option Bool :=if (decide ((60:Int)<(len_ eI aH)))=true then some false else if (decide ((0:Int)<(len_ eI aH)))=true then if 0<=(U ((len_ eI aH)-1))/\(U ((len_ eI aH)-1))<aH.length then aH[(U ((len_ eI aH)-1)).toNat]? >>= fun gi =>if (gi == (0:Int))=true then some false else z0 aH >>= fun bz =>some (!bz) else none else z0 aH >>= fun aL =>some (!aL)
theorem RW:bq (x3 aH) (fun r=>Con br 120 [.isl 1 (aH.map eI)] [] (.b r) []):=.ite (fun h1=>.ret (bj [(I 1),.al (aa 4 (b5 4 (aa 7 (b5 1 (ae (.J true) []))))),.J true,(I 1)] (.ez h1 h1 h1 h1 h1 h1 bY))) (fun h1=>.ite (fun h2=>.aR fun R=>.af fun gi ax=>(let t1:List bU:=[(I 1),.al (aa 13 (ae (.b2 (eI gi)) (aa 1 (ae (.J true) (ae (.J false) [])))))];have aN:=((.aW h1 h1 h1 h1 h2 h2 h2 h2 (.aW h2 R.1 (de eI R.2) h2 (bQ eI ax) h2 h1 h2 (.e1 h1))):cC _);.ite (fun aQ=>.ret (bj (t1.aM [.J true,(I 1)]) (aN.ay (.e1 aQ)))) (fun aQ=>.af fun bz bb=>.ret (bj (t1.aM [.J false,.al (bi 1 (aY 2 (.b bz) true) 2)]) (aN.ay (.bM aQ (OP bz bb) (bP.b bz))))))) (fun h2=>.af fun aL ah=>.ret (bj [(I 1),.al (aa 8 (b5 7 (ae (.J false) (ae (.J false) [])))),.J false,.al (bi 1 (aY 2 (.b aL) true) 2)] (.aW h1 h1 h1 h1 h2 h2 h2 h2 (.aW h2 h2 h2 h1 h2 h1 cA (OP aL ah) (.e1 (bP.b aL)))))))
def DR (cU:bx):Option Bool :=x3 cU.b9 >>= fun r1 =>if r1=true then if cU.cz=true then some (!((len_ eI cU.b9) == (0:Int))) else some true else some false
theorem aaA:bq (DR cU) (fun r=>Con br 119 [.agg (a9 cU)] [] (.b r) []):=.af fun r1 h2=>(have bO:=((.e2 (RW r1 h2) (bP.b r1)):cC _);.ite (fun R=>.ite (fun ah=>.ret (bj [(I 2),.al (aa 2 (ae (aY 1 (.b r1) true) (aa 8 (ae (.J true) (bi 1 (.J true) 1)))))] (bO.ay (.aW R R R ah ah ah ah R (.bM ah R R))))) (fun ah=>.ret (bj [(I 2),.al (aa 2 (ae (aY 1 (.b r1) true) (aa 4 (b5 4 (ae (.J false) (bi 1 (.J true) 1))))))] (bO.ay (.aW R R R ah ah ah ah R (.bM ah R R)))))) (fun R=>.ret (bj [(I 2),.al (aa 2 (ae (aY 1 (.b r1) true) (aa 1 (b5 3 (aa 4 (b5 2 (ae (.J false) (aa 1 []))))))))] (bO.ay (.ei R R R R R R)))))
def BB (cd:aE):Option Bool :=DR cd.dn >>= fun r1 =>if r1=true then x3 cd.eM >>= fun a8 =>if a8=true then if ((len_ eI cd.eM) == (0:Int))=true then some false else if (decide ((24:Int)<(len_ eI cd.dn.b9)))=true then some false else if (decide ((24:Int)<(len_ eI cd.eM)))=true then some false else Br cd.dn.b9 cd.eM >>= fun c5 =>rK c5 ([1]:ar) >>= fun d8 =>some (d8 == (0:Int)) else some false else some false
theorem abx:bq (BB cd) (fun r=>Con br 78 [.agg (aP cd)] [] (.b r) []):=.af fun r1 h2=>(have bO:=((.e2 (aaA r1 h2) (bP.b r1)):cC _);.ite (fun R=>.af fun a8 ax=>(have aN:=bO.ay (.ez (cB R) (cB R) (cB R) (RW a8 ax) (bP.b a8) (cB R) (cB R));.ite (fun aQ=>(have fw:=aN.ay (.dW (cB aQ) (cB aQ) (cB aQ) (cB aQ) (cB aQ));.ite (fun a7=>.ret (bj [(I 2),.al (aa 2 (ae (aY 1 (.b r1) true) (aa 4 (ae (aY 1 (.b a8) true) (aa 1 (ae (.J false) (aa 5 (ae (.J false) (aa 1 (b5 5 (ae (.J true) (aa 1 (b5 4 (aa 1 [])))))))))))))),.J true,(I 1)] (fw.ay (.aW a7 a7 a7 a7 a7 a7 bY bY (.bM bY bY bY))))) (fun a7=>.ite (fun bb=>.ret (bj [(I 2),.al (aa 2 (ae (aY 1 (.b r1) true) (aa 4 (ae (aY 1 (.b a8) true) (aa 1 (ae (.J false) (aa 5 (ae (.J false) (aa 6 (ae (.J false) (aa 1 (b5 4 (ae (.J true) []))))))))))))),.J true,(I 1)] (fw.ay (.aW a7 a7 a7 a7 a7 a7 bb bb (.db bb bb bb bY))))) (fun bb=>(let t4:List bU:=[(I 2),.al (aa 2 (ae (aY 1 (.b r1) true) (aa 4 (ae (aY 1 (.b a8) true) (aa 1 (ae (.J false) (aa 5 (ae (.J false) (aa 6 (ae (.J false) (aa 5 (ae (.J false) []))))))))))))];have ky:=fw.ay (.aW a7 a7 a7 a7 a7 a7 bb bb (.bM bb bb bb));.ite (fun b0=>.ret (bj (t4.aM [.J true,(I 1)]) (ky.ay (.e1 b0)))) (fun b0=>.af fun c5 eC=>.af fun d8 dd=>.ret (bj (t4.aM [.J false,.al (aa 5 (ae (aY 2 (.isl 1 (c5.map eI)) false) (bi 1 (.call {ac:=[ii,.bl (.cM (.eU (([1]:ar).map eI)))],r:= .n .i64 d8,fb:=true,fg:=[37]}) 2)))]) (ky.ay (.ez b0 (Rn c5 eC) (kV (show [[.n .i64 (1:Int)]]=(([1]:ar)).map eI from rfl) (show 1=([1]:ar).length from rfl)) (gS eI 1) (dZ aq ([1]:ar)) (Bb d8 dd) (bP.n .i64 d8)))))))))) (fun aQ=>.ret (bj [(I 2),.al (aa 2 (ae (aY 1 (.b r1) true) (aa 4 (ae (aY 1 (.b a8) true) (aa 1 (ae (.J false) (aa 1 (b5 4 (ae (.J true) (aa 1 (b5 5 (aa 2 (b5 4 (aa 1 [])))))))))))))),.J true,(I 1)] (aN.ay (.aW (cy aQ) (cy aQ) (cy aQ) (cy aQ) (cy aQ) bY bY bY (.ez bY bY bY bY bY bY bY))))))) (fun R=>.ret (bj [(I 2),.al (aa 2 (ae (aY 1 (.b r1) true) (aa 2 (b5 4 (ae (.J true) (aa 1 (b5 4 (aa 2 (b5 5 (aa 2 (b5 4 (aa 1 [])))))))))))),.J true,(I 1)] (bO.ay (.aW (cy R) (cy R) (cy R) (cy R) (cy R) bY bY bY (.aW bY bY bY bY bY bY bY bY (.bM bY bY bY)))))))
def tn (cd:aE):Option (Option eY) :=BB cd >>= fun r1 =>if r1=true then some (some (⟨cd.dn,cd.eM⟩:eY)) else some (none:(Option eY))
theorem Hm:bq (tn cd) (fun r=>Con br 43 [.agg (aP cd)] [] (hJ 3 dp r) []):=.af fun r1 h2=>(let t1:List bU:=[(I 2),.al (bi 1 (aY 1 (.b r1) true) 1)];have aN:=((.e2 (abx r1 h2) (bP.b r1)):cC _);.ite (fun R=>.ret (bj (t1.aM [.J false,(I 7)]) (aN.ay (.e2 (cB R) (og (pQ (⟨cd.dn,cd.eM⟩:eY)):jk [(aP cd)]))) (.bl (.vA [.id,.id,.id])))) (fun R=>.ret (bj (t1.aM [.J true,(I 1)]) (aN.ay (.e1 (cy R))) (.bl (.cM (.n7 3))))))
def u1 (cU:Option eY):Option Int :=cU >>= fun fr =>qo fr.r7 >>= fun aL =>some aL
theorem G1:bq (u1 cU) (fun r=>Con br 44 [(hJ 3 dp cU)] [] (.n .i64 r) []):=.af fun fr h2=>.af fun aL ah=>.ret (bj [(I 1),.al (aa 1 (ae (.fX 3 (.gr 3 (some (dp fr))) .ev) (bi 2 (aY 1 (.n .i64 aL) true) 1)))] (.bM (mH (sz:=3) (f:=dp) h2) (uW aL ah) (bP.n .i64 aL)))
def Bg (cU fm:Option eY):Option Int :=fm >>= fun fr =>sw cU fr.rr >>= fun aL =>cU >>= fun kH =>sw fm kH.rr >>= fun bz =>tZ aL bz >>= fun bp =>some bp
theorem Z8:bq (Bg cU fm) (fun r=>Con br 118 [hJ 3 dp cU,hJ 3 dp fm] [] (.n .i64 r) []):=.af fun fr h2=>.af fun aL ah=>.af fun kH aQ=>.af fun bz bb=>.af fun bp ch=>.ret (bj [(I 1),.al (aa 2 (ae (.fX 6 (.gr 3 (some (dp fr))) .ev) (aa 2 (ae (aY 2 (.agg (a9 aL)) false) (aa 2 (ae (.fX 12 (.gr 3 (some (dp kH))) .ev) (aa 2 (ae (aY 2 (.agg (a9 bz)) false) (ae (aY 2 (.n .i64 bp) true) (aa 1 []))))))))))] (.ei (mH (sz:=3) (f:=dp) h2) (GZ aL ah) (mH (sz:=3) (f:=dp) aQ) (GZ bz bb) (Px bp ch) (bP.n .i64 bp)))
def xL (cU:nU):Option ((Option eY)×(Option eY)×Bool) :=tn cU.om >>= fun r1 =>tn cU.nf >>= fun aL =>r1.elim (some ((none:(Option eY)),(none:(Option eY)),false)) fun pJ =>aL.elim (some ((none:(Option eY)),(none:(Option eY)),false)) fun mw =>if cU.sL=true then u1 r1 >>= fun c5 =>if (c5 != 0)=true then some ((none:(Option eY)),(none:(Option eY)),false) else if cU.pV=true then u1 aL >>= fun eP =>if (eP != 0)=true then some ((none:(Option eY)),(none:(Option eY)),false) else some (r1,aL,true) else some (r1,aL,true) else if cU.pV=true then u1 aL >>= fun bC =>if (bC != 0)=true then some ((none:(Option eY)),(none:(Option eY)),false) else some (r1,aL,true) else Bg r1 aL >>= fun bC =>some (r1,aL,(decide (bC<=0)))
theorem Z9:bq (xL cU) (fun r=>Con br 77 [.agg (rS cU)] [] (.dY [hJ 3 dp r.1,hJ 3 dp r.2.1,.b r.2.2]) []):=.af fun r1 h2=>.af fun aL ah=>(let t1:List bU:=[(I 4),.al (aa 2 (ae (aY 1 (hJ 3 dp r1) false) (bi 2 (aY 1 (hJ 3 dp aL) false) 2)))];have aN:=((.e2 (Hm r1 h2) (Hm aL ah)):cC _);.np (fun ax=>.ret (bj (t1.aM [.al (aa 1 (ae (.fX 13 (.gr 3 none) .ev) (aa 1 (b5 2 (aa 2 (b5 3 (aa 3 (b5 1 (aa 2 (b5 3 (aa 3 (b5 1 (aa 1 []))))))))))))),.J true,(I 3)]) (aN.ay (.aW (F5 (sz:=3) (f:=dp) ax) bY bY bY bY bY bY bY (.db bY bY bY bY))) (.comp [.cM (.n7 3),.cM (.n7 3),.cM .id]))) (fun pJ ax=>(have fw:=aN.ay (.bM (mH (sz:=3) (f:=dp) ax) cA cA);.np (fun a7=>.ret (bj (t1.aM [.al (aa 1 (ae (.fX 13 (.gr 3 (some (dp pJ))) .ev) (aa 2 (ae (.fX 16 (.gr 3 none) .ev) (aa 2 (b5 3 (aa 3 (b5 1 (aa 2 (b5 3 (aa 3 (b5 1 (aa 1 []))))))))))))),.J true,(I 3)]) (fw.ay (.aW (F5 (sz:=3) (f:=dp) a7) bY bY bY bY bY bY bY (.e2 bY bY))) (.comp [.cM (.n7 3),.cM (.n7 3),.cM .id]))) (fun mw a7=>(have eV:=fw.ay (.db (mH (sz:=3) (f:=dp) a7) cA cA cA);.ite (fun b0=>.af fun c5 eC=>(have ky:=eV.ay (.ez b0 b0 (G1 c5 eC) (bP.n .i64 c5) b0 cA b0);.ite (fun dj=>.ret (bj (t1.aM [.al (aa 1 (ae (.fX 13 (.gr 3 (some (dp pJ))) .ev) (aa 2 (ae (.fX 16 (.gr 3 (some (dp mw))) .ev) (aa 6 (ae (aY 1 (.n .i64 c5) true) (aa 1 (ae (.J true) (aa 2 (b5 3 (aa 3 (b5 1 (ae (.J true) []))))))))))))),.J true,(I 3)]) (ky.ay (.ei dj dj dj dj dj bY)) (.comp [.cM (.n7 3),.cM (.n7 3),.cM .id]))) (fun dj=>.ite (fun dd=>.af fun eP fz=>(let t6:List bU:=t1.aM [.al (aa 1 (ae (.fX 13 (.gr 3 (some (dp pJ))) .ev) (aa 2 (ae (.fX 16 (.gr 3 (some (dp mw))) .ev) (aa 6 (ae (aY 1 (.n .i64 c5) true) (aa 1 (ae (.J true) (aa 6 (ae (aY 1 (.n .i64 eP) true) (aa 1 (ae (.J true) (ae (.J false) [])))))))))))))];have tg:=ky.ay (.aW dj dj dj dd dd (G1 eP fz) (bP.n .i64 eP) dd (.bM dj dd dj));.ite (fun fL=>.ret (bj (t6.aM [.J true,(I 3)]) (tg.ay (.e1 fL)) (.comp [.cM (.n7 3),.cM (.n7 3),.cM .id]))) (fun fL=>.ret (bj (t6.aM [.J false,.al (aa 5 (b5 2 (ae (.J true) (aa 1 (b5 4 (aa 4 []))))))]) (tg.ay (.f7 fL b0 b0 b0 bY bY bY bY)))))) (fun dd=>.ret (bj (t1.aM [.al (aa 1 (ae (.fX 13 (.gr 3 (some (dp pJ))) .ev) (aa 2 (ae (.fX 16 (.gr 3 (some (dp mw))) .ev) (aa 6 (ae (aY 1 (.n .i64 c5) true) (aa 1 (ae (.J true) (aa 5 (b5 3 (ae (.J false) (ae (.J false) [])))))))))))),.J false,.al (aa 5 (b5 2 (ae (.J true) (aa 1 (b5 4 (aa 4 []))))))]) (ky.ay (.aW dj dj dj dd dd dd dj dd (.aW dj cA b0 b0 b0 bY bY bY (.e1 bY))))))))) (fun b0=>.ite (fun ch=>.af fun bC dj=>(let t5:List bU:=t1.aM [.al (aa 1 (ae (.fX 13 (.gr 3 (some (dp pJ))) .ev) (aa 2 (ae (.fX 16 (.gr 3 (some (dp mw))) .ev) (aa 5 (b5 3 (ae (.J false) (aa 6 (ae (aY 1 (.n .i64 bC) true) (bi 1 (.J true) 1))))))))))];have lf:=eV.ay (.aW b0 b0 b0 cA b0 cA cA cA (.ez ch ch (G1 bC dj) (bP.n .i64 bC) ch cA ch));.ite (fun dd=>.ret (bj (t5.aM [.J true,(I 3)]) (lf.ay (.e1 dd)) (.comp [.cM (.n7 3),.cM (.n7 3),.cM .id]))) (fun dd=>.ret (bj (t5.aM [.J false,.al (aa 7 (ae (.J false) (aa 1 (b5 4 (ae (.J true) (aa 3 []))))))]) (lf.ay (.aW dd b0 b0 b0 ch ch ch ch (.e1 ch))))))) (fun ch=>.af fun bC dj=>.ret (bj (t1.aM [.al (aa 1 (ae (.fX 13 (.gr 3 (some (dp pJ))) .ev) (aa 2 (ae (.fX 16 (.gr 3 (some (dp mw))) .ev) (aa 5 (b5 3 (ae (.J false) (aa 5 (b5 3 (ae (.J false) (aa 1 []))))))))))),.J false,.al (aa 7 (ae (.J false) (aa 3 (ae (aY 2 (.n .i64 bC) true) (bi 1 (.J false) 3)))))]) (eV.ay (.aW b0 b0 b0 cA b0 cA cA cA (.aW ch ch ch cA ch cA b0 b0 (.f7 b0 ch ch ch (Z8 bC dj) (bP.n .i64 bC) ch ch))))))))))))
def Ll (cU:nU):Option Bool :=xL cU >>= fun r1 =>some r1.2.2
theorem abg:bq (Ll cU) (fun r=>Con br 42 [.agg (rS cU)] [] (.b r) []):=.af fun r1 h2=>.ret (bj [(I 2),.al (bi 1 (aY 1 (.dY [hJ 3 dp r1.1,hJ 3 dp r1.2.1,.b r1.2.2]) false) 7),(I 2)] (.e1 (Z9 r1 h2)))
def Hs (cU:nU):Option Bool :=Ll cU >>= fun r1 =>if r1=true then if cU.sL=true then some true else some cU.pV else some false
theorem abh:bq (Hs cU) (fun r=>Con br 23 [.agg (rS cU)] [] (.b r) []):=.af fun r1 h2=>(have bO:=((.e2 (abg r1 h2) (bP.b r1)):cC _);.ite (fun R=>.ite (fun ah=>.ret (bj [(I 2),.al (aa 1 (ae (aY 1 (.b r1) true) (aa 4 (b5 2 (ae (.J true) (ae (.J true) (aa 1 [])))))))] (bO.ay (.f7 R R R ah ah R ah R)))) (fun ah=>.ret (bj [(I 2),.al (aa 1 (ae (aY 1 (.b r1) true) (aa 6 (ae (.J false) (ae (.J true) (aa 1 []))))))] (bO.ay (.f7 R R R ah ah R ah R))))) (fun R=>.ret (bj [(I 2),.al (aa 1 (ae (aY 1 (.b r1) true) (aa 1 (b5 3 (aa 2 (b5 1 (ae (.J false) (aa 1 []))))))))] (bO.ay (.dW R R R R R)))))
def xR (cd:aE):Option Int :=tn cd >>= fun r1 =>r1.elim (some 0) fun j7 =>u1 r1 >>= fun aJ =>some aJ
theorem Ro:bq (xR cd) (fun r=>Con br 24 [.agg (aP cd)] [] (.n .i64 r) []):=.af fun r1 h2=>(let t1:List bU:=[(I 2),.al (bi 1 (aY 1 (hJ 3 dp r1) false) 1)];.np (fun R=>.ret (bj (t1.aM [.al (aa 1 (ae (.fX 6 (.gr 3 none) .ev) [])),.J true,(I 1)]) (.bM (Hm r1 h2) (F5 (sz:=3) (f:=dp) R) bY))) (fun j7 R=>.af fun aJ aQ=>.ret (bj (t1.aM [.al (aa 1 (ae (.fX 6 (.gr 3 (some (dp j7))) .ev) [])),.J false,.al (bi 1 (aY 1 (.n .i64 aJ) true) 1)]) (.dW (Hm r1 h2) (mH (sz:=3) (f:=dp) R) cA (G1 aJ aQ) (bP.n .i64 aJ)))))
def Ec (aT:dc)(c4:ar)(bD:Int):Option ByteArray :=Bk aT c4 >>= fun r1 =>if r1=true then if (decide (bD<0))=true then some (⟨#[]⟩:ByteArray) else if (decide ((len_ b7 aT.bI)<=bD))=true then some (⟨#[]⟩:ByteArray) else Bl aT c4 bD >>= fun bA =>if bA=true then D1 aT c4 bD >>= fun bp =>Hs bp.1 >>= fun bC =>if bC=true then some (⟨#[117,115,101,102,117,108]⟩:ByteArray) else xR bp.1.om >>= fun eP =>if (eP == (0:Int))=true then xR bp.1.nf >>= fun gz =>if (gz == (0:Int))=true then some (⟨#[105,100,108,101]⟩:ByteArray) else some (⟨#[117,115,101,102,117,108]⟩:ByteArray) else some (⟨#[117,115,101,102,117,108]⟩:ByteArray) else some (⟨#[99,114,105,116,105,99,97,108]⟩:ByteArray) else some (⟨#[]⟩:ByteArray)
theorem abi:bq (Ec aT c4 bD) (fun r=>Con br 8 [.agg (hl aT),.isl 1 (c4.map eI),.n .i64 bD] [] (.s r) []):=.af fun r1 h2=>(have bO:=((.e2 (aax r1 h2) (bP.b r1)):cC _);.ite (fun R=>(have aN:=bO.ay (.bM (cB R) (cB R) (cB R));.ite (fun ah=>.ret (bj [(I 2),.al (aa 2 (ae (aY 2 (.b r1) true) (aa 4 (ae (.J false) (aa 1 (b5 5 (ae (.J true) []))))))),.J true,(I 1)] (aN.ay (.ez ah ah ah ah ah ah bY)))) (fun ah=>(let t3:List bU:=[(I 2),.al (aa 2 (ae (aY 2 (.b r1) true) (aa 4 (ae (.J false) (aa 6 (ae (.J false) []))))))];.ite (fun ax=>.ret (bj (t3.aM [.J true,(I 1)]) (aN.ay (.ez ah ah ah ah ah ah ax)))) (fun ax=>.af fun bA a7=>(let t4:List bU:=t3.aM [.J false,.al (bi 3 (aY 3 (.b bA) true) 1)];have ky:=aN.ay (.aW ah ah ah ah ah ah ax (aaz bA a7) (.e1 (bP.b bA)));.ite (fun bb=>.af fun bp ch=>.af fun bC dj=>(let t6:List bU:=t4.aM [.J false,.al (bi 3 (aY 3 (.dY [.agg (rS bp.1),.b bp.2]) false) 6)];have tg:=ky.ay (.db (cB bb) (aaZ bp ch) (abh bC dj) (bP.b bC));.ite (fun dd=>.ret (bj (t6.aM [.al (aa 1 (ae (aY 1 (.b bC) true) (aa 2 (b5 4 (ae (.J false) (aa 1 (b5 4 (aa 1 [])))))))),.J false,(I 1)]) (tg.ay (.aW (cB dd) (cB dd) (cB dd) (cB dd) (cB dd) cA cA cA (.e2 cA cA))))) (fun dd=>.af fun eP fz=>(have me:=tg.ay (.ez (cy dd) (cy dd) (cy dd) (Ro eP fz) (bP.n .i64 eP) (cy dd) (cy dd));.ite (fun fL=>.af fun gz hs=>(let t9:List bU:=t6.aM [.al (aa 1 (ae (aY 1 (.b bC) true) (aa 4 (ae (aY 1 (.n .i64 eP) true) (aa 1 (ae (.J true) (aa 3 (ae (aY 1 (.n .i64 gz) true) (aa 1 (ae (.J true) []))))))))))];have WG:=me.ay (.ez fL fL fL (Ro gz hs) (bP.n .i64 gz) fL fL);.ite (fun gw=>.ret (bj (t9.aM [.J true,(I 1)]) (WG.ay (.e1 gw)))) (fun gw=>.ret (bj (t9.aM [.J false,(I 1)]) (WG.ay (.e1 gw)))))) (fun fL=>.ret (bj (t6.aM [.al (aa 1 (ae (aY 1 (.b bC) true) (aa 4 (ae (aY 1 (.n .i64 eP) true) (aa 1 (ae (.J true) (aa 1 (b5 4 (ae (.J false) []))))))))),.J false,(I 1)]) (me.ay (.ei fL fL fL fL fL cA)))))))) (fun bb=>.ret (bj (t4.aM [.J true,(I 1)]) (ky.ay (.e1 (cy bb))))))))))) (fun R=>.ret (bj [(I 2),.al (aa 2 (ae (aY 2 (.b r1) true) (aa 2 (b5 2 (ae (.J true) (aa 1 (b5 5 (aa 1 [])))))))),.J true,(I 1)] (bO.ay (.aW (cy R) (cy R) (cy R) bY bY bY bY bY (.e1 bY))))))
def D3 (aH ba:cV):Option Bool :=if (!(aH.mD.toList == ba.mD.toList))=true then some false else if (aH.jv != ba.jv)=true then some false else if (aH.jH != ba.jH)=true then some false else if (aH.mA == ba.mA)=true then some true else some false
theorem aa1:bq (D3 aH ba) (fun r=>Con br 45 [.agg (bZ aH),.agg (bZ ba)] [] (.b r) []):=.ite (fun h1=>.ret (bj [(I 3),(I 5),.J true,(I 1)] (.e1 h1))) (fun h1=>(let t1:List bU:=[(I 3),(I 5),.J false,(I 5)];.ite (fun h2=>.ret (bj (t1.aM [.J true,(I 1)]) (.e2 h1 h2))) (fun h2=>.ite (fun R=>.ret (bj (t1.aM [.J false,(I 5),.J true,(I 1)]) (.bM h1 h2 R))) (fun R=>(let t2:List bU:=t1.aM [.J false,(I 5),.J false,(I 5)];.ite (fun ah=>.ret (bj (t2.aM [.J false,(I 1)]) (.db h1 h2 R (cB ah)))) (fun ah=>.ret (bj (t2.aM [.J true,(I 1)]) (.db h1 h2 R (cy ah)))))))))
def Z2 (aH ba:List cV):d6 Int ((Unit)⊕(Unit)):=⟨fun aC=>du [(0,.isl 4 (aH.map bZ)),(1,.isl 4 (ba.map bZ)),(5,.n .i64 aC)] [],fun | .inl a=>⟨some 0,[],[]⟩ | .inr a=>⟨none,[(4,.b false)],[]⟩⟩
def Au (aH ba:List cV)(aC:Int):Option ((Int)⊕((Unit)⊕(Unit))) :=if (decide (aC<(len_ bZ aH)))=true then if 0<=aC/\aC<aH.length then aH[aC.toNat]? >>= fun az =>if 0<=aC/\aC<ba.length then ba[aC.toNat]? >>= fun b6 =>D3 az b6 >>= fun ct =>if ct=true then some (.inl (U (aC+1))) else some (.inr (.inr ())) else none else none else some (.inr (.inl ()))
def Q6 (aH ba:List cV)(aC:Int):Option ((Unit)⊕(Unit)):=iter (fun w:Int=>Au aH ba w) aC
theorem Pg:bq (Au aH ba aC) (ec br 27 0 25 [1,1,0,1,0,0] (Z2 aH ba) aC):=.ite (fun h1=>.aR fun h2=>.af fun az ah=>.aR fun ax=>.af fun b6 a7=>.af fun ct b0=>(let t1:List bU:=[(I 4),.J true,.al (aa 3 (ae (.b2 (bZ az)) (aa 3 (ae (.b2 (bZ b6)) (ae (aY 2 (.b ct) true) (aa 1 []))))))];have aN:=((.aW h1 h2.1 (de bZ h2.2) (bQ bZ ah) ax.1 (de bZ ax.2) (bQ bZ a7) (aa1 ct b0) (.e1 (bP.b ct))):cC _);.ite (fun ch=>.ret (bg (t1.aM [.J false,(I 3),.aK [] [] (a5 [0,1,5])]) (aN.ay (.e1 (cB ch))))) (fun ch=>.ret (bg (t1.aM [.J true,(I 1),.aK [] [] (a5 [4])]) (aN.ay (.e1 (cy ch))))))) (fun h1=>.ret (bg [(I 4),.J false,.aK [] [] []] (.e1 h1)))
def DS (aH ba:List cV):Option Bool :=if ((len_ bZ aH) != (len_ bZ ba))=true then some false else Q6 aH ba 0 >>= fun r2 =>match r2 with | .inl gE=>(some true) | .inr gE=>(some false)
theorem aaB:bq (DS aH ba) (fun r=>Con br 25 [.isl 4 (aH.map bZ),.isl 4 (ba.map bZ)] [] (.b r) []):=by
 unfold DS
 exact .ite (fun h1 =>
  .ret (bj [(I 1),(I 5),.J true,(I 1)] (.e1 h1)))
  (fun h1 =>
  .af fun r2 R =>
  (let t1:List bU:=[(I 1),(I 5),.J false,(I 1),.aK [] [] (a5 [0,1,5])];
  (by
  rcases r2 with gE|gE
  ·exact(.ret (bj (t1.aM [.sub (.exit 0) [] [],(I 1)]) (.e2 h1 (c3 R Pg))))
  ·exact(.ret (bj (t1.aM [.sub (.ret) [(4,.b false)] []]) (.e2 h1 (c3 R Pg)))))))
def DT (aH ba:dg):Option Bool :=if (aH.d4 != ba.d4)=true then some false else if (aH.ee != ba.ee)=true then some false else if (aH.jN != ba.jN)=true then some false else some true
theorem aaC:bq (DT aH ba) (fun r=>Con br 46 [.agg (b7 aH),.agg (b7 ba)] [] (.b r) []):=.ite (fun h1=>.ret (bj [(I 3),(I 5),.J true,(I 1)] (.e1 h1))) (fun h1=>(let t1:List bU:=[(I 3),(I 5),.J false,(I 5)];.ite (fun h2=>.ret (bj (t1.aM [.J true,(I 1)]) (.e2 h1 h2))) (fun h2=>.ite (fun R=>.ret (bj (t1.aM [.J false,(I 5),.J true,(I 1)]) (.bM h1 h2 R))) (fun R=>.ret (bj (t1.aM [.J false,(I 5),.J false,(I 1)]) (.bM h1 h2 R))))))
def ZO (aH ba:List dg):d6 Int ((Unit)⊕(Unit)):=⟨fun aC=>du [(0,.isl 3 (aH.map b7)),(1,.isl 3 (ba.map b7)),(5,.n .i64 aC)] [],fun | .inl a=>⟨some 0,[],[]⟩ | .inr a=>⟨none,[(4,.b false)],[]⟩⟩
def Am (aH ba:List dg)(aC:Int):Option ((Int)⊕((Unit)⊕(Unit))) :=if (decide (aC<(len_ b7 aH)))=true then if 0<=aC/\aC<aH.length then aH[aC.toNat]? >>= fun az =>if 0<=aC/\aC<ba.length then ba[aC.toNat]? >>= fun b6 =>DT az b6 >>= fun ct =>if ct=true then some (.inl (U (aC+1))) else some (.inr (.inr ())) else none else none else some (.inr (.inl ()))
def QL (aH ba:List dg)(aC:Int):Option ((Unit)⊕(Unit)):=iter (fun w:Int=>Am aH ba w) aC
theorem Pa:bq (Am aH ba aC) (ec br 27 0 26 [1,1,0,1,0,0] (ZO aH ba) aC):=.ite (fun h1=>.aR fun h2=>.af fun az ah=>.aR fun ax=>.af fun b6 a7=>.af fun ct b0=>(let t1:List bU:=[(I 4),.J true,.al (aa 3 (ae (.b2 (b7 az)) (aa 3 (ae (.b2 (b7 b6)) (ae (aY 2 (.b ct) true) (aa 1 []))))))];have aN:=((.aW h1 h2.1 (de b7 h2.2) (bQ b7 ah) ax.1 (de b7 ax.2) (bQ b7 a7) (aaC ct b0) (.e1 (bP.b ct))):cC _);.ite (fun ch=>.ret (bg (t1.aM [.J false,(I 3),.aK [] [] (a5 [0,1,5])]) (aN.ay (.e1 (cB ch))))) (fun ch=>.ret (bg (t1.aM [.J true,(I 1),.aK [] [] (a5 [4])]) (aN.ay (.e1 (cy ch))))))) (fun h1=>.ret (bg [(I 4),.J false,.aK [] [] []] (.e1 h1)))
def DF (aH ba:List dg):Option Bool :=if ((len_ b7 aH) != (len_ b7 ba))=true then some false else QL aH ba 0 >>= fun r2 =>match r2 with | .inl gE=>(some true) | .inr gE=>(some false)
theorem aaa:bq (DF aH ba) (fun r=>Con br 26 [.isl 3 (aH.map b7),.isl 3 (ba.map b7)] [] (.b r) []):=by
 unfold DF
 exact .ite (fun h1 =>
  .ret (bj [(I 1),(I 5),.J true,(I 1)] (.e1 h1)))
  (fun h1 =>
  .af fun r2 R =>
  (let t1:List bU:=[(I 1),(I 5),.J false,(I 1),.aK [] [] (a5 [0,1,5])];
  (by
  rcases r2 with gE|gE
  ·exact(.ret (bj (t1.aM [.sub (.exit 0) [] [],(I 1)]) (.e2 h1 (c3 R Pa))))
  ·exact(.ret (bj (t1.aM [.sub (.ret) [(4,.b false)] []]) (.e2 h1 (c3 R Pa)))))))
def Ds (aH ba:dc):Option Bool :=DS aH.ca ba.ca >>= fun r1 =>if r1=true then DF aH.bI ba.bI >>= fun a8 =>if a8=true then some true else some false else some false
theorem ZP:bq (Ds aH ba) (fun r=>Con br 9 [.agg (hl aH),.agg (hl ba)] [] (.b r) []):=.af fun r1 h2=>(let t1:List bU:=[(I 3),.al (bi 4 (aY 2 (.b r1) true) 1)];have aN:=((.e2 (aaB r1 h2) (bP.b r1)):cC _);.ite (fun R=>.af fun a8 ax=>(let t3:List bU:=t1.aM [.J false,.al (bi 4 (aY 2 (.b a8) true) 1)];have eV:=aN.ay (.bM (cB R) (aaa a8 ax) (bP.b a8));.ite (fun aQ=>.ret (bj (t3.aM [.J false,(I 1)]) (eV.ay (.e1 (cB aQ))))) (fun aQ=>.ret (bj (t3.aM [.J true,(I 1)]) (eV.ay (.e1 (cy aQ))))))) (fun R=>.ret (bj (t1.aM [.J true,(I 1)]) (aN.ay (.e1 (cy R))))))
def aaD (aH ba:ar):d6 Int ((Unit)⊕(Unit)):=⟨fun aC=>du [(0,.isl 1 (aH.map eI)),(1,.isl 1 (ba.map eI)),(5,.n .i64 aC)] [],fun | .inl a=>⟨some 0,[],[]⟩ | .inr a=>⟨none,[(4,.b false)],[]⟩⟩
def AX (aH ba:ar)(aC:Int):Option ((Int)⊕((Unit)⊕(Unit))) :=if (decide (aC<(len_ eI aH)))=true then if 0<=aC/\aC<aH.length then aH[aC.toNat]? >>= fun az =>if 0<=aC/\aC<ba.length then ba[aC.toNat]? >>= fun b6 =>if (az != b6)=true then some (.inr (.inr ())) else some (.inl (U (aC+1))) else none else none else some (.inr (.inl ()))
def RM (aH ba:ar)(aC:Int):Option ((Unit)⊕(Unit)):=iter (fun w:Int=>AX aH ba w) aC
theorem Pz:bq (AX aH ba aC) (ec br 26 0 10 [1,1,0,1,0,0] (aaD aH ba) aC):=.ite (fun h1=>.aR fun h2=>.af fun az ah=>.aR fun ax=>.af fun b6 a7=>(let t1:List bU:=[(I 4),.J true,.al (aa 3 (ae (.b2 (eI az)) (bi 3 (.b2 (eI b6)) 1)))];have aN:=((.ez h1 h2.1 (de eI h2.2) (bQ eI ah) ax.1 (de eI ax.2) (bQ eI a7)):cC _);.ite (fun bb=>.ret (bg (t1.aM [.J true,(I 1),.aK [] [] (a5 [4])]) (aN.ay (.e1 bb)))) (fun bb=>.ret (bg (t1.aM [.J false,(I 3),.aK [] [] (a5 [0,1,5])]) (aN.ay (.e1 bb)))))) (fun h1=>.ret (bg [(I 4),.J false,.aK [] [] []] (.e1 h1)))
def Ed (aH ba:ar):Option Bool :=if ((len_ eI aH) != (len_ eI ba))=true then some false else RM aH ba 0 >>= fun r2 =>match r2 with | .inl gE=>(some true) | .inr gE=>(some false)
theorem abj:bq (Ed aH ba) (fun r=>Con br 10 [.isl 1 (aH.map eI),.isl 1 (ba.map eI)] [] (.b r) []):=by
 unfold Ed
 exact .ite (fun h1 =>
  .ret (bj [(I 1),(I 5),.J true,(I 1)] (.e1 h1)))
  (fun h1 =>
  .af fun r2 R =>
  (let t1:List bU:=[(I 1),(I 5),.J false,(I 1),.aK [] [] (a5 [0,1,5])];
  (by
  rcases r2 with gE|gE
  ·exact(.ret (bj (t1.aM [.sub (.exit 0) [] [],(I 1)]) (.e2 h1 (c3 R Pz))))
  ·exact(.ret (bj (t1.aM [.sub (.ret) [(4,.b false)] []]) (.e2 h1 (c3 R Pz)))))))
def G2 (IR:dc)(IU:ar)(IV:Int):Option Bool :=if (decide ((1048576:Int)<(len_ eI IU)))=true then some true else Dp IR 1048576 >>= fun r2 =>if (decide (r2<0))=true then some true else Dk IR >>= fun aJ =>DH IU >>= fun bz =>D8 (⟨aJ.1,aJ.2⟩:dc) bz IV >>= fun bp =>Ec (⟨aJ.1,aJ.2⟩:dc) bz IV >>= fun bC =>if (!(bC.toList == bp.toList))=true then some false else Ds (⟨aJ.1,aJ.2⟩:dc) (⟨aJ.1,aJ.2⟩:dc) >>= fun eP =>if eP=true then Ed bz bz >>= fun gz =>if gz=true then some true else some false else some false
theorem Zs:bq (G2 IR IU IV) (fun r=>Con br 3 [.agg (hl IR),.isl 1 (IU.map eI),.n .i64 IV] [] (.b r) []):=.ite (fun h1=>.ret (bj [(I 2),(I 3),.J true,(I 1)] (.e1 h1))) (fun h1=>.af fun r2 R=>(let t1:List bU:=[(I 2),(I 3),.J false,(I 1),.al (bi 2 (aY 2 (.n .i64 r2) true) 1),(I 2)];have aN:=((.bM h1 (ZG r2 R) (bP.n .i64 r2)):cC _);.ite (fun ah=>.ret (bj (t1.aM [.J true,(I 1)]) (aN.ay (.e1 ah)))) (fun ah=>.af fun aJ aQ=>.af fun bz bb=>.af fun bp ch=>.af fun bC dj=>(let q1:=aw 1 eI bz;let t3:List bU:=t1.aM [.J false,.al (aa 1 (ae (.call {a6:=[],dq:=[],ac:=[ii],r:= .agg [.bf 0 0 0 aJ.1.length,.bf 0 1 0 aJ.2.length],fe:=[[b3 4 bZ aJ.1,b3 3 b7 aJ.2]],gW:= .bl (.agg [.id,.id]),hZ:=[.bn [b3 4 bZ aJ.1,b3 3 b7 aJ.2]],fg:=[],fb:=true}) (aa 1 (ae (.call {a6:=[],dq:=[],ac:=[ii],r:= .bf 0 0 0 bz.length,fe:=[q1],gW:=ii,hZ:=[.pure],fg:=[],fb:=true}) (bi 1 (.call {ac:=[.bl (.agg [.eU (aJ.1.map bZ),.eU (aJ.2.map b7)]),.bl (.cM (.eU (bz.map eI))),ii],r:= .s bp,fb:=true,fg:=[13,15]}) 1))))),.al (bi 1 (.call {a6:=[],dq:=[],ac:=[ii],r:= .agg [.bf 0 0 0 aJ.1.length,.bf 0 1 0 aJ.2.length],fe:=[[b3 4 bZ aJ.1,b3 3 b7 aJ.2]],gW:= .bl (.agg [.id,.id]),hZ:=[.bn [b3 4 bZ aJ.1,b3 3 b7 aJ.2]],fg:=[],fb:=true}) 2),.al (bi 1 (.call {a6:=[],dq:=[],ac:=[ii],r:= .bf 0 0 0 bz.length,fe:=[q1],gW:=ii,hZ:=[.pure],fg:=[],fb:=true}) 1),.al (bi 3 (.call {ac:=[.bl (.agg [.eU (aJ.1.map bZ),.eU (aJ.2.map b7)]),.bl (.cM (.eU (bz.map eI))),ii],r:= .s bC,fb:=true,fg:=[20,24]}) 1),(I 3)];have eV:=aN.ay (.aW ah (fD (hT (iu [13]) 4 Hw aJ.1) (fD (hT (iu [13]) 3 Hq aJ.2) (l1 (cc:=(iu [13]))))) ((ls rfl (ls rfl yc)):nT [b3 4 bZ aJ.1,b3 3 b7 aJ.2]) (J2 aJ aQ) (bP.agg (lh (bP.bf 0 0 0 aJ.1.length) (lh (bP.bf 0 1 0 aJ.2.length) us))) ((q9 (mU (my Hx) (mU (my Hr) rc)) rb):oz [[b3 4 bZ aJ.1,b3 3 b7 aJ.2]]) (eW 1 aq bz) (Kr bz bb) (.aW (bP.bf 0 0 0 bz.length) ((q9 (mU (my qz) rc) rb):oz [q1]) (hj bZ aJ.1) (gy bZ aJ.1) (dZ oc aJ.1) (hj b7 aJ.2) (gy b7 aJ.2) (dZ nb aJ.2) (.aW (hj eI bz) (gy eI bz) (dZ aq bz) (abb bp ch) (bP.s bp) (fD (hT (iu [20]) 4 Hw aJ.1) (fD (hT (iu [20]) 3 Hq aJ.2) (l1 (cc:=(iu [20]))))) ((ls rfl (ls rfl yc)):nT [b3 4 bZ aJ.1,b3 3 b7 aJ.2]) (J2 aJ aQ) (.aW (bP.agg (lh (bP.bf 0 0 0 aJ.1.length) (lh (bP.bf 0 1 0 aJ.2.length) us))) ((q9 (mU (my Hx) (mU (my Hr) rc)) rb):oz [[b3 4 bZ aJ.1,b3 3 b7 aJ.2]]) (eW 1 aq bz) (Kr bz bb) (bP.bf 0 0 0 bz.length) ((q9 (mU (my qz) rc) rb):oz [q1]) (hj bZ aJ.1) (gy bZ aJ.1) (.aW (dZ oc aJ.1) (hj b7 aJ.2) (gy b7 aJ.2) (dZ nb aJ.2) (hj eI bz) (gy eI bz) (dZ aq bz) (abi bC dj) (.e1 (bP.s bC)))))));.ite (fun dd=>.ret (bj (t3.aM [.J true,(I 1)]) (eV.ay (.e1 dd)))) (fun dd=>.af fun eP fz=>(let t5:List bU:=t3.aM [.J false,.al (aa 2 (ae (.call {a6:=[],dq:=[],ac:=[ii],r:= .agg [.bf 0 0 0 aJ.1.length,.bf 0 1 0 aJ.2.length],fe:=[[b3 4 bZ aJ.1,b3 3 b7 aJ.2]],gW:= .bl (.agg [.id,.id]),hZ:=[.bn [b3 4 bZ aJ.1,b3 3 b7 aJ.2]],fg:=[],fb:=true}) (ae (.call {ac:=[.bl (.agg [.eU (aJ.1.map bZ),.eU (aJ.2.map b7)]),.bl (.agg [.eU (aJ.1.map bZ),.eU (aJ.2.map b7)])],r:= .b eP,fb:=true,fg:=[20,36]}) (aa 1 []))))];have lf:=eV.ay (.aW dd (fD (hT (iu [36]) 4 Hw aJ.1) (fD (hT (iu [36]) 3 Hq aJ.2) (l1 (cc:=(iu [36]))))) ((ls rfl (ls rfl yc)):nT [b3 4 bZ aJ.1,b3 3 b7 aJ.2]) (J2 aJ aQ) (bP.agg (lh (bP.bf 0 0 0 aJ.1.length) (lh (bP.bf 0 1 0 aJ.2.length) us))) ((q9 (mU (my Hx) (mU (my Hr) rc)) rb):oz [[b3 4 bZ aJ.1,b3 3 b7 aJ.2]]) (hj bZ aJ.1) (gy bZ aJ.1) (.aW (dZ oc aJ.1) (hj b7 aJ.2) (gy b7 aJ.2) (dZ nb aJ.2) (hj bZ aJ.1) (gy bZ aJ.1) (dZ oc aJ.1) (hj b7 aJ.2) (.db (gy b7 aJ.2) (dZ nb aJ.2) (ZP eP fz) (bP.b eP))));.ite (fun fL=>.af fun gz hs=>(let t7:List bU:=t5.aM [.J false,.al (aa 2 (ae (.call {a6:=[],dq:=[],ac:=[ii],r:= .bf 0 0 0 bz.length,fe:=[(aw 1 eI bz)],gW:=ii,hZ:=[.pure],fg:=[],fb:=true}) (ae (.call {ac:=[.bl (.cM (.eU (bz.map eI))),.bl (.cM (.eU (bz.map eI)))],r:= .b gz,fb:=true,fg:=[24,41]}) (aa 1 []))))];have me:=lf.ay (.aW (cB fL) (eW 1 aq bz) (Kr bz bb) (bP.bf 0 0 0 bz.length) ((q9 (mU (my qz) rc) rb):oz [(aw 1 eI bz)]) (hj eI bz) (gy eI bz) (dZ aq bz) (.dW (hj eI bz) (gy eI bz) (dZ aq bz) (abj gz hs) (bP.b gz)));.ite (fun gw=>.ret (bj (t7.aM [.J false,(I 1)]) (me.ay (.e1 (cB gw))))) (fun gw=>.ret (bj (t7.aM [.J true,(I 1)]) (me.ay (.e1 (cy gw))))))) (fun fL=>.ret (bj (t5.aM [.J true,(I 1)]) (lf.ay (.e1 (cy fL)))))))))))
theorem pr {n:Nat}(h:n<=10000000):U ((n:Int)+1)=((n+1:Nat):Int):=by rw[cT (by omega) (by omega)];rfl
theorem sU {n:Nat}(h:n<=10000000):U ((n:Int)-1)=(n:Int)-1:=cT (by omega) (by omega)
theorem ML {n:Nat}(h:n<=10000000):U (((n+1:Nat):Int)-1)=n:=by rw[cT (by omega) (by omega)];omega
theorem fU (l:ar):len_ eI l=l.length:=fH _ l
theorem adw {l:ar}{k:Nat}{x:Int}(ab:l[k]? = some x)(aV:l.length<=5000000):xq l ((k+1:Nat):Int)=some (if x=0 then .inl (k:Int) else .inr ((k+1:Nat):Int)):=by have aX:=gF ab;unfold xq;rw[ML (by omega),dw (by simp),dw (by omega),dx,ab];by_cases h:x=0<;>simp[h]
theorem uh {l:ar}(aS:cW l)(aV:l.length<=5000000):sx l=some (L (V l)):=by
 have : ∃r,iter (fun w:Int=>xq l w) (l.length:Int)=some r/\ ∃k:Nat,r=k/\k<=l.length/\l.take k=L (V l):=by
  refine kz (fj:=fun w:Int=> ∃k:Nat,w=k/\k<=l.length/\V (l.take k)=V l) (m:=fun w:Int=>w.toNat) _ ?_ _ ⟨l.length,rfl,by omega,by simp⟩;rintro _ ⟨k,rfl,aX,bc⟩
  cases k with
  | zero =>
   refine .inr ⟨0,by simp[xq],0,rfl,by omega,?_⟩;rw[<- bc];simp[V,qv]
  | succ k =>
   have ab:=dy (show k<l.length by omega);rw[adw ab aV];by_cases h:l[k]=0
   ·refine .inl ⟨_,by simp[h],⟨k,rfl,by omega,?_⟩,by omega⟩;have:=vl ab;rw[h] at this;simp at this;omega
   ·refine .inr ⟨_,by simp[h],k+1,rfl,aX,?_⟩
    rcases fQ.Mc aS k (fun x h1=>by rw[ab] at h1;simp at h1;omega) with h1|h1
    ·exact wL h1 bc
    ·omega
 obtain⟨r,ai,k,rfl,h1,h2⟩:=this;unfold sx Rc;rw[fU,ai];simp[h1,h2]
theorem BV {l:ar}(aS:cW l)(aV:l.length<=5000000):sE l=some (L (V l)):=by
 have : ∃r,iter (fun w:ar=>A4 w) l=some r/\r=L (V l):=by
  refine kz (fj:=fun w=> ∃k:Nat,w=l.take k/\k<=l.length/\V (l.take k)=V l) (m:=fun w:ar=>w.length) _ ?_ _ ⟨l.length,by simp,by omega,by simp⟩;rintro _ ⟨k,rfl,aX,bc⟩;have hlen:(l.take k).length=k:=by simp;omega
  cases k with
  | zero =>
   refine .inr ⟨[],by simp[A4,fU],?_⟩;rw[<- bc];simp[V,qv]
  | succ k =>
   have ab:=dy (show k<l.length by omega);have ex:(l.take (k+1))[k]? = some l[k]:=(by rw[List.getElem?_take];simp[ab]);unfold A4;simp only[fU,hlen];rw[ML (by omega),dw (by simp),dw (by omega),dx,ex];by_cases h:l[k]=0
   ·refine .inl ⟨l.take k,by simp[h,List.take_take,Nat.min_eq_left],⟨k,rfl,by omega,?_⟩,by simp;omega⟩;have:=vl ab;rw[h] at this;simp at this;omega
   ·refine .inr ⟨l.take (k+1),by simp[h],?_⟩
    rcases fQ.Mc aS k (fun x h1=>by rw[ab] at h1;simp at h1;omega) with h1|h1
    ·exact wL h1 bc
    ·omega
 obtain⟨r,ai,rfl⟩:=this;unfold sE R1;rw[ai];rfl
theorem adx {l:ar}(aS:cW l)(aV:l.length<=5000000): ∃k,Ea l=some k/\k<=l.length/\l.take k=L (V l):=by
 have : ∃r,iter (fun w:Nat=>AU l w) l.length=some r/\r<=l.length/\l.take r=L (V l):=by
  refine kz (fj:=fun k=>k<=l.length/\V (l.take k)=V l) (m:=fun w:Nat=>w) _ ?_ _ ⟨by omega,by simp⟩;rintro k ⟨aX,bc⟩
  cases k with
  | zero =>
   refine .inr ⟨0,by simp[AU],by omega,?_⟩;rw[<- bc];simp[V,qv]
  | succ k =>
   have ab:=dy (show k<l.length by omega);unfold AU;rw[ML (by omega),dw (by simp),dw (by omega),dx,dG,ab];by_cases h:l[k]=0
   ·refine .inl ⟨k,by simp[h],⟨by omega,?_⟩,by omega⟩;have:=vl ab;rw[h] at this;simp at this;omega
   ·refine .inr ⟨k+1,by simp[h],aX,?_⟩
    rcases fQ.Mc aS k (fun x h1=>by rw[ab] at h1;simp at h1;omega) with h1|h1
    ·exact wL h1 bc
    ·omega
 obtain⟨r,ai,h1,h2⟩:=this;unfold Ea RG;rw[ai];exact⟨r,rfl,h1,h2⟩
theorem vo {a b:ar}(bG:fQ a)(aU:fQ b)(aV:a.length<=5000000):sA a b=some (lx (V a) (V b)):=by
 unfold sA lx;simp only[fU];by_cases h1:a.length=b.length
 ·rw[dz (by simp[h1])]
  have : ∃r,iter (fun w:Int=>AN a b w) ((a.length:Int)-1)=some r/\(r.elim (fun _=>V a=V b) (fun c=>(c = -1/\V a<V b)\/(c=1/\V b<V a))):=by
   refine kz (fj:=fun w:Int=> ∃k:Nat,w=(k:Int)-1/\k<=a.length/\V (a.drop k)=V (b.drop k)) (m:=fun w:Int=>(w+1).toNat) _ ?_ _ ⟨a.length,rfl,by omega,by rw[List.drop_length,h1,List.drop_length]⟩;rintro _ ⟨k,rfl,aX,bc⟩
   cases k with
   | zero=>exact .inr ⟨.inl (),by simp[AN],by simpa using bc⟩
   | succ k =>
    have ab:=dy (show k<a.length by omega);have aZ:=dy (show k<b.length by omega);have e:((k+1:Nat):Int)-1=k:=(by omega);unfold AN;rw[e,sU (by omega),dw (by simp),dw (by omega),dx,ab];simp only[dC,dA];rw[dw (by omega),aZ];by_cases h2:a[k]<b[k]
    ·exact .inr ⟨.inr (-1),by simp[h2],.inl ⟨rfl,Un bG.1 aU.1 ab aZ bc h2⟩⟩
    ·by_cases R:b[k]<a[k]
     ·exact .inr ⟨.inr 1,by simp[h2,R],.inr ⟨rfl,Un aU.1 bG.1 aZ ab bc.symm R⟩⟩
     ·refine .inl ⟨(k:Int)-1,by simp[h2,R],⟨k,rfl,by omega,?_⟩,by omega⟩;rw[qt ab,qt aZ,bc,show a[k]=b[k] by omega]
  obtain⟨r,ai,h2⟩:=this;unfold Rv;rw[sU (by omega),ai]
  cases r with
  | inl u =>
   simp at h2;simp[h2]
  | inr c =>
   rcases h2 with ⟨rfl,h2⟩|⟨rfl,h2⟩
   ·simp[h2]
   ·simp[h2];omega
 ·rw[dw (by simp;omega)]
  by_cases h2:a.length<b.length
  ·have:=H7 bG aU h2;simp[h2,this]
  ·have:=H7 aU bG (by omega);rw[dz (by simp;omega),dz (by omega),dw this]
theorem abU:rK=sA:=rfl
theorem Hy {a b:ar}(bG:fQ a)(aU:fQ b)(aV:a.length<=5000000):rK a b=some (lx (V a) (V b)):=vo bG aU aV
theorem ER {x y:Int}(ab:0<=x/\x<1000000000)(aZ:0<=y/\y<1000000000):0<=x*y/\x*y<=999999998000000001:=by have h1:=Int.mul_nonneg ab.1 aZ.1;have h2:x*y<=999999999*999999999:=Int.mul_le_mul (by omega) (by omega) aZ.1 (by omega);omega
theorem sr {a b:Int}(h:0<=a):a.tmod b=a % b:=Int.tmod_eq_emod_of_nonneg h
theorem oN {a b:Int}(h:0<=a):a.tdiv b=a / b:=Int.tdiv_eq_ediv_of_nonneg h
theorem Md (k:Nat)(x:Int)(q:ar):(List.replicate (k+1) 0++q).set k x=List.replicate k 0++x::q:=by
 induction k with
 | zero=>rfl
 | succ k ih =>
  show (0::(List.replicate (k+1) 0++q)).set (k+1) x=_;rw[List.set_cons_succ,ih];rfl
theorem acP {a:ar}{d rest:Int}{row:ar}{k:Nat}{x:Int}(ab:a[k]? = some x)(jY:0<=x/\x<1000000000)(bF:0<d/\d<1000000000)(ai:0<=rest/\rest<d)(el:row.length=a.length)(aV:a.length<=1000000):
 Aq a d rest (k:Int) row=some (.inl ((rest*1000000000+x) % d,(k:Int)-1,row.set k ((rest*1000000000+x) / d))):=by
 have aX:=gF ab;unfold Aq;rw[dw (by simp),dw (by omega),dx,ab];simp only[dC,dA];rw[dw (by omega),dw (by omega),dw (by omega),sU (by omega)];have h1:U (U (rest*1000000000)+x)=rest*1000000000+x:=by rw[cT (x:=rest*1000000000) (by omega) (by omega)];exact cT (by omega) (by omega)
 have h2:0<=rest*1000000000+x:=by omega
 have R:(rest*1000000000+x) / d<=rest*1000000000+x:=Int.ediv_le_self _ h2;have ah:0<=(rest*1000000000+x) / d:=Int.ediv_nonneg h2 (by omega);rw[h1,sr h2,oN h2,cT (by omega) (by omega),dG]
theorem SM {a:ar}{d:Int}(bG:cW a)(bF:0<d/\d<1000000000)(aV:a.length<=1000000):
 ∃r,Ks a d 0 ((a.length:Int)-1) (List.replicate a.length 0)=some r/\r.1=V a % d/\cW r.2/\r.2.length=a.length/\V r.2=V a / d:=by
 refine kz (fj:=fun w:Int×Int×ar=> ∃(k:Nat) (q:ar),w.2.1=(k:Int)-1/\k<=a.length/\w.2.2=List.replicate k 0++q/\q.length+k=a.length/\cW q/\0<=w.1/\w.1<d/\V (a.drop k)=V q*d+w.1) (m:=fun w:Int×Int×ar=>(w.2.1+1).toNat) _ ?_ _ ⟨a.length,[],rfl,by omega,by simp,by simp,cW.nil,by omega,by omega,by simp[V]⟩;rintro⟨rest,i,row⟩ ⟨k,q,h1,aX,h2,a4,sk,mG,jf,bc⟩;simp only at h1 h2 mG jf bc ⊢;subst h1 h2
 cases k with
 | zero =>
  refine .inr ⟨(rest,q),by simp[Aq],?_,sk,by simpa using a4,?_⟩
  ·simp at bc;rw[bc,Int.add_comm,Int.add_mul_emod_self_right];exact(Int.emod_eq_of_lt mG jf).symm
  ·simp at bc;rw[bc,Int.add_comm,Int.add_mul_ediv_right _ _ (by omega),Int.ediv_eq_zero_of_lt mG jf];simp
 | succ k =>
  have ab:=dy (show k<a.length by omega);have jY:=bG.get ab;rw[show ((k+1:Nat):Int)-1=k by omega,acP ab jY bF ⟨mG,jf⟩ (by simp;omega) aV];refine .inl ⟨_,rfl,⟨k,(rest*1000000000+a[k]) / d::q,rfl,by omega,Md _ _ _,by simp;omega,cW.cons ⟨Int.ediv_nonneg (by omega) (by omega),?_⟩ sk,Int.emod_nonneg _ (by omega),Int.emod_lt_of_pos _ bF.1,?_⟩,by simp⟩
  ·refine Int.ediv_lt_of_lt_mul bF.1 ?_;omega
  ·rw[qt ab,bc,mz];have:=Int.mul_ediv_add_emod (rest*1000000000+a[k]) d;generalize (rest*1000000000+a[k]) / d=u at *;generalize (rest*1000000000+a[k]) % d=t at *;grind
theorem aeC {a:ar}{d:Int}(bG:cW a)(bF:0<d/\d<1000000000)(aV:a.length<=1000000):DK a d=some (L (V a / d),V a % d):=by obtain⟨r,ai,h1,h2,R,ah⟩:=SM bG bF aV;unfold DK;simp only[fU];rw[dw (by omega),sU (by omega),dx,ai];simp only[dC,dA];rw[uh h2 (by omega),h1,ah];rfl
theorem aa2:Qx=Ks:=rfl
theorem R4 {a:ar}{d:Int}(bG:cW a)(bF:0<d/\d<1000000000)(aV:a.length<=1000000):Bf a d=some (L (V a / d),V a % d):=by obtain⟨r,ai,h1,h2,R,ah⟩:=SM bG bF aV;unfold Bf;simp only[fU];rw[dw (by omega),sU (by omega),dx,aa2,ai];simp only[dC,dA];rw[BV h2 (by omega),h1,ah];rfl
theorem ady {b:ar}{i j:Nat}{x y z carry:Int}{row t26:ar}{t27:Int}(aZ:b[j]? = some y)(cD:row[i+j]? = some z)(ab:0<=x/\x<1000000000)(qj:0<=y/\y<1000000000)(tG:0<=z/\z<1000000000)(a2:0<=carry/\carry<1000000000)(aV:row.length<=2000000):
 AO b i x t26 t27 b.length carry j row=some (.inl ((z+x*y+carry) / 1000000000,((j+1:Nat):Int),row.set (i+j) ((z+x*y+carry) % 1000000000))):=by
 have au:=gF aZ;have sd:=gF cD;obtain⟨ji,ig⟩:=ER ab qj;unfold AO;have e:U ((i:Int)+(j:Int))=((i+j:Nat):Int):=by rw[cT (by omega) (by omega)];rfl
 rw[dw (by simp;omega),dw (by omega),dx,aZ];simp only[dC,dA,e,dx,dG];rw[dw (by omega),cD];simp only[dA];rw[dw (by omega),pr (by omega),cT (x:=x*y) (by omega) (by omega),cT (x:=z+x*y) (by omega) (by omega),cT (x:=z+x*y+carry) (by omega) (by omega),sr (by omega),oN (by omega),cT (by omega) (by omega)]
theorem adz {b:ar}{i:Nat}{x:Int}{row t26:ar}{t27:Int}(aU:cW b)(el:cW row)(ab:0<=x/\x<1000000000)(aS:i+b.length<row.length)(aV:row.length<=2000000):
 ∃r,Rx b i x t26 t27 b.length 0 0 row=some r/\0<=r.1/\r.1<1000000000/\cW r.2/\r.2.length=row.length/\V r.2+r.1*B (i+b.length)=V row+x*B i*V b/\ ∀j,i+b.length<=j->r.2[j]? = row[j]? := by
 refine kz (fj:=fun w:Int×Int×ar=> ∃(j:Nat),w.2.1=(j:Int)/\j<=b.length/\0<=w.1/\w.1<1000000000/\cW w.2.2/\w.2.2.length=row.length/\V w.2.2+w.1*B (i+j)=V row+x*B i*V (b.take j)/\ ∀j,i+b.length<=j->w.2.2[j]? = row[j]?) (m:=fun w:Int×Int×ar=>b.length-w.2.1.toNat) _ ?_ _ ⟨0,rfl,by omega,by simp,by simp,el,rfl,by simp[V],fun _ _=>rfl⟩;rintro⟨carry,ajc,ed⟩ ⟨j,h1,au,nX,ow,lo,hlen,bc,mC⟩;simp only at h1 nX ow lo hlen bc mC ⊢;subst h1;by_cases aia:j=b.length
 ·subst aia;refine .inr ⟨(carry,ed),by simp[AO],nX,ow,lo,hlen,by simpa using bc,mC⟩
 ·have aZ:=dy (show j<b.length by omega)
  have cD:=dy (show i+j<ed.length by omega);have qj:=aU.get aZ;have tG:=lo.get cD;obtain⟨ji,ig⟩:=ER ab qj;rw[ady aZ cD ab qj tG ⟨nX,ow⟩ (by omega)];refine .inl ⟨_,rfl,⟨j+1,rfl,by omega,by simp only;omega,by simp only;omega,lo.set (by omega),by simpa using hlen,?_,fun i9 uF=> ?_⟩,by simp;omega⟩
  ·simp only;rw[uA cD,vl aZ,<- Nat.add_assoc,nA];rw[E5] at bc ⊢;have:=Int.mul_ediv_add_emod (ed[i+j]+x*b[j]+carry) 1000000000;generalize (ed[i+j]+x*b[j]+carry) / 1000000000=u at *;generalize (ed[i+j]+x*b[j]+carry) % 1000000000=t at *;grind
  ·rw[<- mC i9 uF];exact List.getElem?_set_ne (by omega)
theorem LF {a b:ar}(bG:cW a)(aU:cW b)(aV:a.length<=1000000)(hm:b.length<=1000000):
 ∃r,G8 b a a.length 0 (List.replicate (a.length+b.length) 0)=some r/\cW r/\r.length=a.length+b.length/\V r=V a*V b:=by
 refine kz (fj:=fun w:Int×ar=> ∃(i:Nat),w.1=(i:Int)/\i<=a.length/\cW w.2/\w.2.length=a.length+b.length/\V w.2=V (a.take i)*V b/\ ∀j,i+b.length<=j->j<a.length+b.length->w.2[j]? = some 0) (m:=fun w:Int×ar=>a.length-w.1.toNat) _ ?_ _ ⟨0,rfl,by omega,cW.ND _,by simp,by simp[V,MI],fun j _ h=>by simp[List.getElem?_replicate,h]⟩;rintro⟨ii,row⟩ ⟨i,h1,ad,lo,hlen,bc,h0⟩;simp only at h1 lo hlen bc h0 ⊢;subst h1;by_cases Gg:i=a.length
 ·subst Gg;refine .inr ⟨row,by simp[Di],lo,hlen,by simpa using bc⟩
 ·have ab:=dy (show i<a.length by omega)
  have jY:=bG.get ab;obtain⟨r,ai,nX,ow,ag9,Vj,FI,mC⟩:=adz (i:=i) (t26:=a) (t27:=a.length) aU lo jY (by omega) (by omega);have e:U ((i:Int)+(b.length:Int))=((i+b.length:Nat):Int):=(by rw[cT (by omega) (by omega)];rfl);have cD:r.2[i+b.length]? = some 0:=(by rw[mC _ (dE _)];exact h0 _ (dE _) (by omega));refine .inl ⟨(((i+1:Nat):Int),r.2.set (i+b.length) r.1),?_,⟨i+1,rfl,by omega,ag9.set ⟨nX,ow⟩,by simp;omega,?_,fun j akO aib=> ?_⟩,by simp;omega⟩
  ·unfold Di;rw[dw (by simp;omega),dw (by omega),dx,ab];simp only[dC,dA,fU];rw[ai];simp only[dA,e,dx,dG];rw[dw (by omega),dw (by omega),pr (n:=i) (by omega)]
  ·simp only;rw[uA cD,vl ab];grind
  ·simp only;rw[List.getElem?_set_ne (by omega),mC _ (by omega)];exact h0 _ (by omega) aib
theorem mul_eq {a b:ar}(bG:cW a)(aU:cW b)(aV:a.length<=1000000)(hm:b.length<=1000000):i4 a b=some (L (V a*V b)):=by
 unfold i4;simp only[fU];by_cases h1:a=[]
 ·subst h1;simp[V,qv]
 ·by_cases h2:b=[]
  ·subst h2;simp[h1,V,qv]
  ·obtain⟨r,ai,R,ah,ax⟩:=LF bG aU aV hm;have e:U ((a.length:Int)+(b.length:Int))=((a.length+b.length:Nat):Int):=(by rw[cT (by omega) (by omega)];rfl);rw[dz (by simp[h1]),dz (by simp[h2]),e,dw (by omega),dx,ai];simp only[dC,dA];rw[uh R (by omega),ax];rfl
theorem ach:RT=G8:=rfl
theorem aby:Rk=G8:=rfl
theorem HT {a b:ar}(bG:cW a)(aU:cW b)(aV:a.length<=1000000)(hm:b.length<=1000000):sD a b=some (L (V a*V b)):=by
 unfold sD;simp only[fU];by_cases h1:a=[]
 ·subst h1;simp[V,qv]
 ·by_cases h2:b=[]
  ·subst h2;simp[h1,V,qv]
  ·obtain⟨r,ai,R,ah,ax⟩:=LF bG aU aV hm;have e:U ((a.length:Int)+(b.length:Int))=((a.length+b.length:Nat):Int):=(by rw[cT (by omega) (by omega)];rfl);rw[dz (by simp[h1]),dz (by simp[h2]),e,dw (by omega),dx,ach,ai];simp only[dC,dA];rw[BV R (by omega),ax];rfl
theorem SN {a b:ar}(bG:cW a)(aU:cW b)(h1:a≠[])(h2:b≠[])(aV:a.length<=1000000)(hm:b.length<=1000000):
 ∃k r,Bp a b=some (k,r)/\k<=r.length/\r.length=a.length+b.length/\r.take k=L (V a*V b)/\cW r:=by
 obtain⟨r,ai,R,ah,ax⟩:=LF bG aU aV hm;obtain⟨k,aX,aQ,a7⟩:=adx R (by omega);refine⟨k,r,?_,aQ,ah,by rw[a7,ax],R⟩;unfold Bp;simp only[fU];have e:U ((a.length:Int)+(b.length:Int))=((a.length+b.length:Nat):Int):=by rw[cT (by omega) (by omega)];rfl
 rw[dz (by simp[h1]),dz (by simp[h2]),e,dw (by omega),dx,aby,ai];simp only[dC,dA];rw[aX];rfl
theorem Fa {x:Int}(h1:0<=x)(h2:x<18446744073709551616):IntKind.wrap .u64 x=x:=by
 simp only[IntKind.wrap,IntKind.signed,IntKind.bits];have:((2:Int) ^ 64)=18446744073709551616:=by decide
 simp;omega
theorem agI {x:Int}(h1:-9223372036854775808<=x)(h2:x<9223372036854775808):IntKind.wrap .i64 x=x:=cT h1 h2
theorem fQ.snoc {l:ar}{x:Int}(h:cW l)(ab:0<x/\x<1000000000):fQ (l++[x]):=⟨h.append (cW.cons (by omega) cW.nil),fun y aZ=>by rw[List.getLast?_append] at aZ;simp at aZ;omega⟩
theorem Tj {N:Int}(gx:N<18446744073709551616){n:Int}{row:ar}(h:0<=n/\cW row/\V row+B row.length*n=N/\(n=0->fQ row)/\((row.length=0/\n<18446744073709551616)\/(row.length=1/\n<20000000000)\/(row.length=2/\n<20)\/(row.length=3/\n=0)))(aV:0<n):
 (fun (n:Int) (row:ar)=>0<=n/\cW row/\V row+B row.length*n=N/\(n=0->fQ row)/\((row.length=0/\n<18446744073709551616)\/(row.length=1/\n<20000000000)\/(row.length=2/\n<20)\/(row.length=3/\n=0))) (n / 1000000000) (row++[n % 1000000000]):=by
 obtain⟨h0,h1,h2,R,ah⟩:=h;refine⟨by omega,h1.append (cW.cons (by omega) cW.nil),?_,fun ax=>fQ.snoc h1 (by omega),?_⟩
 ·rw[yd,dF,List.length_singleton,nA,mz,Ch];have:=Int.mul_ediv_add_emod n 1000000000;generalize n / 1000000000=u at *;generalize n % 1000000000=t at *;grind
 ·rw[dF,List.length_singleton];omega
theorem BM {n:Int}(h:0<=n)(aV:n<9223372036854775808):uf n=some (L n):=by
 have : ∃r,iter (fun w:Int×ar=>A0 w.1 w.2) (n,[])=some r/\r=L n:=by
  refine kz (fj:=fun w:Int×ar=>w.1<=n/\0<=w.1/\cW w.2/\V w.2+B w.2.length*w.1=n/\(w.1=0->fQ w.2)/\((w.2.length=0/\w.1<18446744073709551616)\/(w.2.length=1/\w.1<20000000000)\/(w.2.length=2/\w.1<20)\/(w.2.length=3/\w.1=0))) (m:=fun w:Int×ar=>w.1.toNat) _ ?_ _ ⟨Int.le_refl _,h,cW.nil,by simp[V,B],fun _=>fQ.nil,.inl ⟨rfl,by simp only;omega⟩⟩;rintro⟨m,row⟩ ⟨hm,cN⟩;simp only at hm cN;obtain⟨h0,h1,h2,R,ah⟩:=id cN;by_cases kN:0<m
  ·have:=Tj (by omega) cN kN;refine .inl ⟨(m / 1000000000,row++[m % 1000000000]),?_,⟨by simp only;omega,this⟩,by simp only;omega⟩;unfold A0;rw[dw (by simp;omega),sr (by omega),oN (by omega),dw (by simp;omega),cT (by omega) (by omega)]
  ·refine .inr ⟨row,by simp[A0,kN],?_⟩;have pA:m=0:=(by omega);refine wL (R pA) ?_;rw[pA] at h2;simpa using h2
 obtain⟨r,ai,rfl⟩:=this;unfold uf RR;rw[ai];rfl
theorem Lu {n:Int}(h:0<=n)(aV:n<18446744073709551616):xP n=some (L n):=by
 have : ∃r,iter (fun w:Int×ar=>Ay w.1 w.2) (n,[])=some r/\r=L n:=by
  refine kz (fj:=fun w:Int×ar=>w.1<=n/\0<=w.1/\cW w.2/\V w.2+B w.2.length*w.1=n/\(w.1=0->fQ w.2)/\((w.2.length=0/\w.1<18446744073709551616)\/(w.2.length=1/\w.1<20000000000)\/(w.2.length=2/\w.1<20)\/(w.2.length=3/\w.1=0))) (m:=fun w:Int×ar=>w.1.toNat) _ ?_ _ ⟨Int.le_refl _,h,cW.nil,by simp[V,B],fun _=>fQ.nil,.inl ⟨rfl,by simp only;omega⟩⟩;rintro⟨m,row⟩ ⟨hm,cN⟩;simp only at hm cN;obtain⟨h0,h1,h2,R,ah⟩:=id cN;by_cases kN:0<m
  ·have:=Tj (by omega) cN kN;refine .inl ⟨(m / 1000000000,row++[m % 1000000000]),?_,⟨by simp only;omega,this⟩,by simp only;omega⟩;unfold Ay;rw[dw (by simp;omega),sr (by omega),oN (by omega),agI (x:=m % 1000000000) (by omega) (by omega),dw (by simp;omega),Fa (by omega) (by omega)]
  ·refine .inr ⟨row,by simp[Ay,kN],?_⟩;have pA:m=0:=(by omega);refine wL (R pA) ?_;rw[pA] at h2;simpa using h2
 obtain⟨r,ai,rfl⟩:=this;unfold xP Rg;rw[ai];rfl
def qI (x:Int):Bool:=decide (0<=x) && decide (x<1000000000)
theorem Me (l:ar):l.all qI=true↔cW l:=by simp[qI,cW]
theorem Lv {a:ar}(h:a≠[]): ∃x,a[a.length-1]? = some x/\(fQ a↔cW a/\x≠0):=by
 have ag:=List.length_pos_iff.mpr h;refine⟨a[a.length-1],dy (by omega),?_⟩;have e:a.getLast? = some a[a.length-1]:=by rw[List.getLast?_eq_getElem?];exact dy (by omega)
 constructor
 ·exact fun h=>⟨h.1,h.2 _ e⟩
 ·refine fun h=>⟨h.1,fun x ab=> ?_⟩;rw[e] at ab;rw[<- dI ab];exact h.2
theorem Vv {a:ar}(h:a≠[])(hm:(a.length:Int)<9223372036854775807):U ((a.length:Int)-1)=((a.length-1:Nat):Int):=by have ag:=List.length_pos_iff.mpr h;rw[cT (by omega) (by omega)];omega
theorem acQ (x:Int):mS x 0 999999999=some (qI x):=by
 unfold mS qI;by_cases h:0<=x
 ·simp[h];omega
 ·simp[h]
theorem Hz {a:ar}(hm:(a.length:Int)<9223372036854775807): ∃ok,ug a=some ok/\(ok=true↔fQ a/\a.length<=60):=by
 have h1:iter (fun w:Int=>A1 a a.length w) 0=some (if a.all qI then .inl () else .inr ()):=by refine TN a qI (fun n x ab=> ?_) (by simp[A1]);have:=gF ab;unfold A1;rw[dw (by simp;omega),dw (by omega),dx,ab];simp only[dC,dA,acQ];rw[i1 (by omega)];cases qI x<;>rfl
 unfold ug RS;simp only[fU];rw[h1];by_cases rD:a.all qI=true
 ·have FC:=(Me a).1 rD
  simp only[rD,if_true,dC,dA];by_cases qS:a.length<=60
  ·rw[dw (by simp;omega)]
   by_cases h0:a=[]
   ·subst h0;exact⟨true,rfl,by simp[fQ.nil]⟩
   ·obtain⟨x,ab,aV⟩:=Lv h0;have ag:=List.length_pos_iff.mpr h0;rw[dz (by simp[h0]),Vv h0 hm,dw (by omega),dx,ab];refine⟨_,rfl,?_⟩;rw[aV];simp[FC,qS]
  ·rw[dz (by simp;omega)];exact⟨false,rfl,by simp;omega⟩
 ·have FC : ¬cW a:=fun h=>rD ((Me a).2 h);simp only[Bool.not_eq_true] at rD;refine⟨false,by simp[rD],?_⟩;simp only[Bool.false_eq_true,false_iff];exact fun h=>FC h.1.1
theorem acR (x:Int):D2 x=some (!qI x):=by
 unfold D2 qI;by_cases h:x<0
 ·simp[h]
 ·rw[dz (by simp[h])];congr 1;rw[Bool.eq_iff_iff];simp;omega
theorem Sn {a:ar}(hm:(a.length:Int)<9223372036854775807):z0 a=some (!(a.all qI)):=by
 obtain⟨r,ai,h⟩:=Tg (f:=fun w:Int=>zN a a.length w) a (fun x=> !qI x) (fun n x ab=>by have:=gF ab;unfold zN;rw[dw (by simp;omega),dw (by omega),dx,ab];simp only[dC,dA,acR];rw[i1 (by omega)];cases qI x<;>rfl) (by simp[zN]);have e:a.any (fun x=> !qI x) = !(a.all qI):=by rw[List.not_all_eq_any_not]
 rw[e] at h;unfold z0 GW OX;simp only[fU];rw[ai];rcases h with ⟨k,rfl,aX,h⟩|⟨rfl,h⟩
 ·simp only[dC,dA];rw[h];simp[aX]
 ·simp only[dC,dA];rw[h];rfl
theorem acS {a:ar}(hm:(a.length:Int)<9223372036854775807): ∃ok,x3 a=some ok/\(ok=true↔fQ a/\a.length<=60):=by
 unfold x3;simp only[fU];by_cases qS:60<a.length
 ·rw[dw (by simp;omega)];exact⟨false,rfl,by simp;omega⟩
 ·rw[dz (by simp;omega)]
  by_cases h0:a=[]
  ·subst h0;exact⟨true,by simp[Sn],by simp[fQ.nil]⟩
  ·obtain⟨x,ab,aV⟩:=Lv h0
   have ag:=List.length_pos_iff.mpr h0;rw[dw (by simp;omega),Vv h0 hm,dw (by omega),dx,ab];simp only[dC,dA];rw[aV];by_cases jY:x=0
   ·exact⟨false,by simp[jY],by simp[jY]⟩
   ·rw[dz (by simp[jY]),Sn hm];refine⟨_,rfl,?_⟩;rw[<- Me];simp[jY];omega
theorem SO {a:ar}(hm:(a.length:Int)<9223372036854775807): ∃ok,ug a=some ok/\x3 a=some ok/\(ok=true↔fQ a/\a.length<=60):=by obtain⟨bO,h1,h2⟩:=Hz hm;obtain⟨aN,R,ah⟩:=acS hm;have:aN=bO:=Bool.eq_iff_iff.mpr (ah.trans h2.symm);exact⟨bO,h1,this▸R,h2⟩
theorem So {a:ar}(bG:fQ a)(qS:a.length<=60)(bc:V a<9223372036854775808):Bi a=some (V a,true):=by
 obtain⟨ok,h1,h2⟩:=Hz (a:=a) (by omega);have ou:ok=true:=h2.2 ⟨bG,qS⟩;subst ou;have a2:fQ [854775807,223372036,9]:=⟨by intro x ab;simp at ab;omega,by simp⟩;have NO:V [854775807,223372036,9]=9223372036854775807:=by decide
 unfold Bi;rw[h1];simp only[dC,dA,if_true];rw[vo bG a2 (by omega),NO]
 have : ∃r,iter (fun w:Int×Int=>Ao a w.1 w.2) (0,(a.length:Int)-1)=some r/\r=V a:=by
  refine kz (fj:=fun w:Int×Int=> ∃k:Nat,w.2=(k:Int)-1/\k<=a.length/\w.1=V (a.drop k)) (m:=fun w:Int×Int=>(w.2+1).toNat) _ ?_ _ ⟨a.length,rfl,by omega,by simp[V]⟩;rintro⟨n,i⟩ ⟨k,R,aX,ah⟩;simp only at R ah;subst R ah
  cases k with
  | zero=>exact .inr ⟨V a,by simp[Ao],rfl⟩
  | succ k =>
   have ab:=dy (show k<a.length by omega);have jY:=bG.1.get ab;have ax:=qt ab;have aQ:=mg (bG.1.drop (k+1));have a7:V (a.drop k)<=V a:=(by have bb:=yj (l:=a) (n:=k) (by omega);have b0:=mg (bG.1.take k);have ch:=mg (bG.1.drop k);have eC:1*V (a.drop k)<=B k*V (a.drop k):=Int.mul_le_mul_of_nonneg_right (pk k) ch;omega);refine .inl ⟨(V (a.drop k),(k:Int)-1),?_,⟨k,rfl,by omega,rfl⟩,by simp only;omega⟩;unfold Ao;rw[show ((k+1:Nat):Int)-1=k by omega,dw (by simp),dw (by omega),dx,ab];simp only[dC,dA];rw[sU (by omega),cT (x:=V (a.drop (k+1))*1000000000) (by omega) (by omega),cT (by omega) (by omega),ax];congr 3;omega
 obtain⟨r,ai,rfl⟩:=this;unfold lx QS;simp only[fU];rw[sU (by omega),ai];have R : ¬(9223372036854775807:Int)<V a:=by omega
 by_cases ah:V a<9223372036854775807<;>simp[R,ah]
theorem aeD {a b row:ar}{less x:Int}{i:Nat}(aU:cW b)(ab:a[i]? = some x)(jY:0<=x/\x<1000000000)(aS:less=0\/less=1)(aV:a.length<=1000000)(hm:b.length<=1000000)(ai:row.length<=1000000):
 ∃y,0<=y/\y<1000000000/\(∀z,b[i]? = some z->y=z)/\(b[i]? = none->y=0) /\
 xx a b a.length less i row=some (.inl (if x-less-y<0 then (1,((i+1:Nat):Int),row++[x-less-y+1000000000]) else (0,((i+1:Nat):Int),row++[x-less-y]))):=by
 have ad:=gF ab;unfold xx;rw[dw (by simp;omega),dw (by omega),dx,ab];simp only[dC,dA,fU];by_cases WH:i<b.length
 ·have aZ:=dy WH
  have qj:=aU.get aZ;refine⟨b[i],qj.1,qj.2,fun z cD=>by rw[aZ] at cD;exact dI cD,fun h=>by rw[aZ] at h;simp at h,?_⟩;rw[dw (by simp;omega),dw (by omega),aZ];simp only[dA];rw[cT (x:=x-less) (by omega) (by omega),cT (x:=x-less-b[i]) (by omega) (by omega),pr (n:=i) (by omega),cT (x:=x-less-b[i]+1000000000) (by omega) (by omega)];by_cases h:x-less-b[i]<0
  ·rw[dw (by simp[h]),dw (by simp;omega)];simp[h]
  ·rw[dz (by simp[h]),dw (by simp;omega)];simp[h]
 ·have aZ:b[i]? = none:=by simp;omega
  refine⟨0,by omega,by omega,fun z cD=>by rw[aZ] at cD;simp at cD,fun _=>rfl,?_⟩;rw[dz (by simp;omega),cT (x:=x-less) (by omega) (by omega),pr (n:=i) (by omega),cT (x:=x-less+1000000000) (by omega) (by omega),Int.sub_zero];by_cases h:x-less<0
  ·rw[dw (by simp[h]),dw (by simp;omega)];simp[h]
  ·rw[dz (by simp[h]),dw (by simp;omega)];simp[h]
theorem TT {b:ar}{i:Nat}{y:Int}(h1:∀z,b[i]? = some z->y=z)(h2:b[i]? = none->y=0):V (b.take (i+1))=V (b.take i)+B i*y:=by
 cases h:b[i]? with
 | some z=>rw[h1 z h,vl h]
 | none =>
  rw[h2 h];have:b.length<=i:=(by simpa using h);rw[List.take_of_length_le (by omega),List.take_of_length_le (by omega)];simp
theorem sub_eq {a b:ar}(bG:cW a)(aU:cW b)(hlen:b.length<=a.length)(wY:V b<=V a)(aV:a.length<=1000000):u9 a b=some (L (V a-V b)):=by
 have : ∃r,iter (fun w:Int×Int×ar=>xx a b a.length w.1 w.2.1 w.2.2) (0,0,[])=some r/\cW r/\r.length=a.length/\V r=V a-V b:=by
  refine kz (fj:=fun w:Int×Int×ar=> ∃i:Nat,w.2.1=i/\i<=a.length/\(w.1=0\/w.1=1)/\cW w.2.2/\w.2.2.length=i/\V w.2.2-w.1*B i=V (a.take i)-V (b.take i)) (m:=fun w:Int×Int×ar=>a.length-w.2.1.toNat) _ ?_ _ ⟨0,rfl,by omega,.inl rfl,cW.nil,rfl,by simp[V]⟩;rintro⟨less,ii,row⟩ ⟨i,h1,ad,aS,lo,tQ,bc⟩;simp only at h1 aS lo tQ bc ⊢;subst h1;by_cases Gg:i=a.length
  ·refine .inr ⟨row,by simp[xx,Gg],lo,by omega,?_⟩;rw[Gg] at bc;rw[List.take_length,List.take_of_length_le hlen] at bc;have h2:=ol lo;rw[tQ,Gg] at h2;rcases aS with rfl|rfl<;>omega
  ·have ab:=dy (show i<a.length by omega)
   have jY:=bG.get ab;obtain⟨y,Gh,Gi,aic,aid,he⟩:=aeD (row:=row) aU ab jY aS aV (by omega) (by omega);rw[he];refine .inl ⟨_,rfl,?_⟩;have R:=vl ab;have ah:=TT aic aid;by_cases h:a[i]-less-y<0
   ·rw[dw h];refine⟨⟨i+1,rfl,by omega,.inr rfl,lo.append (cW.cons (by omega) cW.nil),by simp[tQ],?_⟩,by simp only;omega⟩;simp only;rw[R,ah,yd,tQ,nA,mz,Ch];grind
   ·rw[dz h];refine⟨⟨i+1,rfl,by omega,.inl rfl,lo.append (cW.cons (by omega) cW.nil),by simp[tQ],?_⟩,by simp only;omega⟩;simp only;rw[R,ah,yd,tQ,mz,Ch];grind
 obtain⟨r,ai,h1,h2,R⟩:=this;unfold u9 Rw;simp only[fU];rw[ai];simp only[dC,dA];rw[uh h1 (by omega),R];rfl
theorem ui {l:ar}(h:cW l){k:Nat}(aX:k<=l.length):B k*V (l.drop k)<=V l/\V l<B k*(V (l.drop k)+1):=by have h1:=yj aX;have h2:=mg (h.take k);have R:=ol (h.take k);rw[List.length_take,Nat.min_eq_left aX] at R;rw[Int.mul_add,Int.mul_one];omega
theorem Es {l:ar}{k:Nat}{x:Int}(ab:l[k]? = some x)(aS:l.length=k+1):V (l.drop k)=x:=by rw[qt ab,List.drop_of_length_le (by omega)];simp[V]
theorem R5 {a0 W t d P:Int}(f8:1<=P)(Jl:P*t<=a0)(NP:a0<P*(t+1))(w2:P*d<=W)(Jm:W<P*(d+1))(bF:0<d)(cj:0<=t)(NQ:a0<1000000000*W):t / (d+1)<=a0 / W/\a0 / W<=t / d/\a0 / W<=999999999:=by
 have hW:0<W:=by have:=Int.mul_pos (a:=P) (b:=d) (by omega) bF;omega
 have dk:0<=a0:=by have:=Int.mul_nonneg (a:=P) (b:=t) (by omega) cj;omega
 refine⟨?_,?_,?_⟩
 ·apply (Int.le_ediv_iff_mul_le hW).2;have h1:t / (d+1)*(d+1)<=t:=Int.ediv_mul_le _ (by omega);have h2:0<=t / (d+1):=Int.ediv_nonneg cj (by omega);have R:t / (d+1)*W<=t / (d+1)*(P*(d+1)):=dK (by omega) h2;have ah:P*(t / (d+1)*(d+1))<=P*t:=dK h1 (by omega);have ax:t / (d+1)*(P*(d+1))=P*(t / (d+1)*(d+1)):=(by grind);omega
 ·apply (Int.le_ediv_iff_mul_le bF).2;have h1:a0 / W*W<=a0:=Int.ediv_mul_le _ (by omega);have h2:0<=a0 / W:=Int.ediv_nonneg dk (by omega);have R:a0 / W*(P*d)<=a0 / W*W:=dK w2 h2;have ah:a0 / W*(P*d)=P*(a0 / W*d):=(by grind);have ax:P*(a0 / W*d)<P*(t+1):=(by omega);have:=Int.lt_of_mul_lt_mul_left ax (by omega);omega
 ·have:=Int.ediv_lt_of_lt_mul hW NQ;omega
theorem Ut {a b:Int}:lx a b<=0↔a<=b:=by
 unfold lx;by_cases h:a<b
 ·simp[h];omega
 ·by_cases h2:b<a
  ·simp[h,h2]
  ·simp[h,h2];omega
theorem wx {a b:Int}:lx a b<0↔a<b:=by
 unfold lx;by_cases h:a<b
 ·simp[h]
 ·by_cases h2:b<a
  ·simp[h,h2]
  ·simp[h,h2]
theorem LG {a b:Int}:lx a b=0↔a=b:=by
 unfold lx;by_cases h:a<b
 ·simp[h];omega
 ·by_cases h2:b<a
  ·simp[h,h2];omega
  ·simp[h,h2];omega
theorem SP {r b:ar}(ai:fQ r)(aU:fQ b)(mI:b≠[])(aV:r.length<=1000000)(hm:b.length<=1000000){bW ad:Int}(h0:0<=bW)(h1:bW<=V r / V b)(h2:V r / V b<=ad)(R:ad<=999999999):Kt r b bW ad=some (V r / V b):=by
 have kG:=tB aU mI
 have : ∃q,iter (fun w:Int×Int=>xo r b w.1 w.2) (bW,ad)=some q/\q=V r / V b:=by
  refine kz (fj:=fun w:Int×Int=>0<=w.1/\w.1<=V r / V b/\V r / V b<=w.2/\w.2<=999999999) (m:=fun w:Int×Int=>(w.2-w.1).toNat) _ ?_ _ ⟨h0,h1,h2,R⟩;rintro⟨l,h⟩ ⟨g0,g1,g2,g3⟩;simp only at g0 g1 g2 g3;by_cases eA:l<h
  ·have e1:U ((U ((U (l+h))+(1:Int))).tdiv (2:Int))=(l+h+1) / 2:=by
    rw[cT (x:=l+h) (by omega) (by omega),cT (x:=l+h+1) (by omega) (by omega),oN (by omega),cT (by omega) (by omega)]
   have pA:0<=(l+h+1) / 2:=(by omega);have rB:(l+h+1) / 2<1000000000:=(by omega);have Wh:(L ((l+h+1) / 2)).length<=1:=(hH pA).2 (by simpa [B] using rB)
   have e2:xo r b l h=some (.inl (if V b*((l+h+1) / 2)<=V r then ((l+h+1) / 2,h) else (l,(l+h+1) / 2-1))):=by
    unfold xo;rw[dw (by simp[eA]),e1,BM pA (by omega)];simp only[dC,dA];rw[mul_eq aU.1 (hK _) hm (by omega),eo pA];simp only[dA];have ag:0<=V b*((l+h+1) / 2):=Int.mul_nonneg (by omega) pA;have hlen:(L (V b*((l+h+1) / 2))).length<=b.length+1:=(hH ag).2 (by rw[nA];have ax:=ol aU.1;have:V b*((l+h+1) / 2)<=V b*1000000000:=dK (by omega) (by omega);omega);rw[vo (ix _) ai (by omega),eo ag];simp only[dA];by_cases a2:V b*((l+h+1) / 2)<=V r
    ·rw[dw (by simpa using Ut.2 a2),dw a2]
    ·rw[dz (fun h=>a2 (Ut.1 (by simpa using h))),dz a2,cT (by omega) (by omega)]
   rw[e2];refine .inl ⟨_,rfl,?_⟩;by_cases a2:V b*((l+h+1) / 2)<=V r
   ·rw[dw a2];have:(l+h+1) / 2<=V r / V b:=(Int.le_ediv_iff_mul_le kG).2 (by rw[Int.mul_comm];exact a2);exact⟨⟨by simp only;omega,this,g2,g3⟩,by simp only;omega⟩
   ·rw[dz a2];have:V r / V b<(l+h+1) / 2:=(Int.ediv_lt_iff_lt_mul kG).2 (by rw[Int.mul_comm];omega);exact⟨⟨g0,g1,by simp only;omega,by simp only;omega⟩,by simp only;omega⟩
  ·exact .inr ⟨l,by simp[xo,eA],by omega⟩
 obtain⟨q,a4,rfl⟩:=this;exact a4
theorem Iu {b:ar}(aU:fQ b)(mI:b≠[]): ∃k d,b.length=k+1/\b[k]? = some d/\0<d/\d<1000000000/\V (b.drop k)=d:=by have ag:=List.length_pos_iff.mpr mI;obtain⟨x,ab,h⟩:=Lv mI;have h1:=h.1 aU;have h2:=h1.1.get ab;exact⟨b.length-1,x,by omega,ab,by omega,h2.2,Es ab (by omega)⟩
theorem aeE {r b:ar}(ai:fQ r)(aU:fQ b)(mI:b≠[])(aV:r.length<=1000000)(hm:b.length<=1000000)(h1:V b<=V r)(h2:V r<1000000000*V b):DL r b=some (V r / V b):=by
 obtain⟨k,d,aX,bF,s4,tb,w3⟩:=Iu aU mI;have V9:b.length<=r.length:=Nat.le_of_not_lt fun h=>by have:=H7 ai aU h;omega
 have Wa:r.length<=b.length+1:=ai.len.2 (by have:=ol aU.1;rw[nA];omega);have wU:=ui aU.1 (k:=k) (by omega);rw[w3] at wU;have jf:=ui ai.1 (k:=k) (by omega);have ab:=dy (show k<r.length by omega);have jY:=ai.1.get ab;have hw:U ((b.length:Int)-1)=(k:Int):=by rw[cT (by omega) (by omega)];omega
 have n5:=mg (ai.1.drop k);have Jn:=R5 (pk k) jf.1 jf.2 wU.1 wU.2 s4 n5 h2;have akP:=mg ai.1;have hW:=tB aU mI;unfold DL;simp only[fU,hw];rw[dw (by omega),dx,ab];simp only[dC,dA];by_cases hlen:b.length<r.length
 ·have aZ:=dy hlen;have qj:=ai.1.get aZ;have pC:V (r.drop (k+1))=r[b.length]:=(by rw[<- aX];exact Es aZ (by omega));have cj:V (r.drop k)=r[k]+1000000000*r[b.length]:=(by rw[qt ab,pC]);rw[cj] at Jn n5;have nk:0<=(r[k]+1000000000*r[b.length]) / (d+1):=Int.ediv_nonneg n5 (by omega);have p8:(r[k]+1000000000*r[b.length]) / (d+1)<=r[k]+1000000000*r[b.length]:=Int.ediv_le_self _ n5;have Ct:0<=(r[k]+1000000000*r[b.length]) / d:=Int.ediv_nonneg n5 (by omega);have aie:(r[k]+1000000000*r[b.length]) / d<=r[k]+1000000000*r[b.length]:=Int.ediv_le_self _ n5;rw[dw (by simp;omega),dw (by omega),dx,aZ];simp only[dA];rw[dw (by omega),bF];simp only[dA];have e1:U (d+1)=d+1:=cT (by omega) (by omega);have e2:U (r[k]+U (r[b.length]*1000000000))=r[k]+1000000000*r[b.length]:=(by rw[cT (x:=r[b.length]*1000000000) (by omega) (by omega),cT (by omega) (by omega),Int.mul_comm]);rw[e1,dw (by omega),dw (by omega),e2,oN n5,oN n5,cT (by omega) (by omega),cT (x:=(r[k]+1000000000*r[b.length]) / d) (by omega) (by omega)];rw[SP ai aU mI aV hm nk Jn.1 (by split<;>omega) (by split<;>omega)];rfl
 ·have cj:V (r.drop k)=r[k]:=Es ab (by omega);rw[cj] at Jn n5;have nk:0<=r[k] / (d+1):=Int.ediv_nonneg n5 (by omega);have p8:r[k] / (d+1)<=r[k]:=Int.ediv_le_self _ n5;have Ct:0<=r[k] / d:=Int.ediv_nonneg n5 (by omega);have aie:r[k] / d<=r[k]:=Int.ediv_le_self _ n5;rw[dz (by simp;omega),dw (by omega),bF];simp only[dA];have e1:U (d+1)=d+1:=cT (by omega) (by omega);rw[e1,dw (by omega),dw (by omega),oN n5,oN n5,cT (by omega) (by omega),cT (x:=r[k] / d) (by omega) (by omega)];rw[SP ai aU mI aV hm nk Jn.1 (by split<;>omega) (by split<;>omega)];rfl
theorem aeF {a b:ar}(bG:fQ a)(aU:fQ b)(mI:b≠[])(aV:a.length<=900000)(hm:b.length<=900000):
 ∃r,Ry a b [] ((a.length:Int)-1) (List.replicate a.length 0)=some r/\r.1=L (V a % V b)/\cW r.2/\r.2.length=a.length/\V r.2=V a / V b:=by
 have kG:=tB aU mI;refine kz (fj:=fun w:ar×Int×ar=> ∃(k:Nat) (q:ar),w.2.1=(k:Int)-1/\k<=a.length/\w.2.2=List.replicate k 0++q/\q.length+k=a.length/\cW q/\fQ w.1/\V w.1<V b/\V (a.drop k)=V q*V b+V w.1) (m:=fun w:ar×Int×ar=>(w.2.1+1).toNat) _ ?_ _ ⟨a.length,[],rfl,by omega,by simp,by simp,cW.nil,fQ.nil,by simpa [V] using kG,by simp[V]⟩;rintro⟨rest,i,row⟩ ⟨k,q,h1,aX,h2,a4,sk,mG,jf,bc⟩;simp only at h1 h2 mG jf bc ⊢;subst h1 h2;have Gj:=mg mG.1
 cases k with
 | zero =>
  simp at bc;refine .inr ⟨(rest,q),by simp[AP],?_,sk,by simpa using a4,?_⟩
  ·refine wL mG ?_;rw[bc,Int.add_comm,Int.add_mul_emod_self_right];exact(Int.emod_eq_of_lt Gj jf).symm
  ·rw[bc,Int.add_comm,Int.add_mul_ediv_right _ _ (by omega),Int.ediv_eq_zero_of_lt Gj jf];simp
 | succ k =>
  have ab:=dy (show k<a.length by omega);have jY:=bG.1.get ab;have tQ:rest.length<=b.length:=mG.len.2 (by have:=ol aU.1;omega);have jD:cW (a[k]::rest):=cW.cons jY mG.1;have NO:V (a[k]::rest)=a[k]+1000000000*V rest:=mz _ _;have qT:0<=a[k]+1000000000*V rest:=(by omega);have akQ:(L (a[k]+1000000000*V rest)).length<=b.length+1:=(hH qT).2 (by have:=ol aU.1;rw[nA];omega);have bF:=qt ab
  have MM:AP a b rest (k:Int) (List.replicate (k+1) 0++q)=some (.inl (if a[k]+1000000000*V rest<V b then (L (a[k]+1000000000*V rest),(k:Int)-1,List.replicate (k+1) 0++q) else (L ((a[k]+1000000000*V rest) % V b),(k:Int)-1,(List.replicate (k+1) 0++q).set k ((a[k]+1000000000*V rest) / V b)))):=by
   unfold AP;rw[dw (by simp),dw (by omega),dx,ab];simp only[dC,dA,List.singleton_append];rw[dw (by simp;omega),uh jD (by simp;omega),NO];simp only[dA];rw[vo (ix _) aU (by omega),eo qT];simp only[dA];by_cases a2:a[k]+1000000000*V rest<V b
   ·rw[dw (by simpa using wx.2 a2),dw a2,sU (by omega)]
   ·rw[dz (fun h=>a2 (wx.1 (by simpa using h))),dz a2];have eA:a[k]+1000000000*V rest<1000000000*V b:=(by omega);rw[aeE (ix _) aU mI (by omega) (by omega) (by rw[eo qT];omega) (by rw[eo qT];exact eA),eo qT];simp only[dA];have nk:0<=(a[k]+1000000000*V rest) / V b:=Int.ediv_nonneg qT (by omega);have p8:(a[k]+1000000000*V rest) / V b<1000000000:=Int.ediv_lt_of_lt_mul kG eA;have akR:(L ((a[k]+1000000000*V rest) / V b)).length<=1:=(hH nk).2 (by simpa [B] using p8);have rB:=Int.mul_ediv_add_emod (a[k]+1000000000*V rest) (V b);have Gk:=Int.emod_nonneg (a[k]+1000000000*V rest) (b:=V b) (by omega);have Gl:0<=V b*((a[k]+1000000000*V rest) / V b):=Int.mul_nonneg (by omega) nk;rw[dw (by simp;omega),dw (by simp;omega),BM nk (by omega)];simp only[dA];rw[mul_eq aU.1 (hK _) (by omega) (by omega),eo nk];simp only[dA];rw[sub_eq (hK _) (hK _) ((hH Gl).2 (by have:=ol (hK (a[k]+1000000000*V rest));rw[eo qT] at this;omega)) (by rw[eo qT,eo Gl];omega) (by omega),eo qT,eo Gl];simp only[dA];rw[sU (by omega),dG];congr 4;omega
  rw[show ((k+1:Nat):Int)-1=k by omega,MM];refine .inl ⟨_,rfl,?_⟩;by_cases a2:a[k]+1000000000*V rest<V b
  ·rw[dw a2]
   refine⟨⟨k,0::q,rfl,by omega,?_,by simp;omega,cW.cons (by omega) sk,ix _,by rw[eo qT];exact a2,?_⟩,by simp⟩
   ·simp only;rw[List.replicate_succ',List.append_assoc];rfl
   ·simp only;rw[bF,bc,mz,eo qT];grind
  ·rw[dz a2];have eA:a[k]+1000000000*V rest<1000000000*V b:=(by omega);have Gk:=Int.emod_nonneg (a[k]+1000000000*V rest) (b:=V b) (by omega);refine⟨⟨k,(a[k]+1000000000*V rest) / V b::q,rfl,by omega,Md _ _ _,by simp;omega,cW.cons ⟨Int.ediv_nonneg qT (by omega),Int.ediv_lt_of_lt_mul kG eA⟩ sk,ix _,by rw[eo Gk];exact Int.emod_lt_of_pos _ kG,?_⟩,by simp⟩;simp only;rw[bF,bc,mz,eo Gk];have rB:=Int.mul_ediv_add_emod (a[k]+1000000000*V rest) (V b);generalize (a[k]+1000000000*V rest) / V b=u at *;generalize (a[k]+1000000000*V rest) % V b=t at *;grind
theorem div_eq {a b:ar}(bG:fQ a)(aU:fQ b)(mI:b≠[])(aV:a.length<=900000)(hm:b.length<=900000):wh a b=some (L (V a / V b),L (V a % V b)):=by
 unfold wh;simp only[fU];by_cases h1:b.length=1
 ·obtain⟨k,d,aX,bF,s4,tb,w3⟩:=Iu aU mI;have vJ:k=0:=(by omega);subst vJ;have NR:V b=d:=(by simpa using w3);rw[dw (by simp[h1]),dw (by omega),bF];simp only[dC,dA];have rB:=Int.emod_nonneg (V a) (b:=d) (by omega);have Gk:=Int.emod_lt_of_pos (V a) s4;rw[aeC bG.1 ⟨s4,tb⟩ (by omega)];simp only[dA];rw[BM rB (by omega),NR];rfl
 ·obtain⟨r,ai,e1,e2,bM,db⟩:=aeF bG aU mI aV hm;rw[dz (by simp;omega),dw (by omega),sU (by omega),dx,ai];simp only[dC,dA];rw[uh e2 (by omega),db,e1];rfl
theorem LY {x y:Int}(ab:0<=x):Int.gcd y (x % y)=Int.gcd x y:=by have:=Nat.gcd_rec y.natAbs x.natAbs;simp only[Int.gcd];rw[Nat.gcd_comm x.natAbs,this,Int.natAbs_emod_of_nonneg ab,Nat.gcd_comm]
theorem Ib {x:Int}(ab:0<=x):(Int.gcd x 0:Int)=x:=by rw[Int.gcd_zero_right];omega
theorem aeG {x y:Int}(ab:0<=x)(aZ:0<=y)(Gm:x<9223372036854775808)(Gh:y<9223372036854775808):DJ x y=some (L (Int.gcd x y)):=by
 have : ∃r,iter (fun w:Int×Int=>Ap w.1 w.2) (x,y)=some r/\(r=(Int.gcd x y:Int)/\r<9223372036854775808):=by
  refine kz (fj:=fun w:Int×Int=>0<=w.1/\0<=w.2/\w.1<9223372036854775808/\w.2<9223372036854775808/\Int.gcd w.1 w.2=Int.gcd x y) (m:=fun w:Int×Int=>w.2.toNat) _ ?_ _ ⟨ab,aZ,Gm,Gh,rfl⟩;rintro⟨u,v⟩ ⟨h1,h2,R,ah,ax⟩;simp only at h1 h2 R ah ax;by_cases bc:0<v
  ·have aQ:=Int.emod_nonneg u (b:=v) (by omega);have a7:=Int.emod_lt_of_pos u bc;refine .inl ⟨(v,u % v),?_,⟨h2,aQ,ah,by simp only;omega,by rw[<- ax];exact LY h1⟩,by simp only;omega⟩;unfold Ap;rw[dw (by simpa using bc),dw (by omega),sr h1]
  ·have WA:v=0:=(by omega);subst WA;refine .inr ⟨u,by simp[Ap],?_,R⟩;rw[<- ax,Ib h1]
 obtain⟨r,ai,rfl,h⟩:=this;unfold DJ QU;rw[ai];simp only[dC,dA];rw[BM (by omega) h];rfl
theorem Iv {a:ar}(bG:fQ a)(h:a.length<3):V a<9223372036854775808:=by
 have h1:=ol bG.1;have h2:=sK (m:=a.length) (n:=2) (by omega);have R:B 2=1000000000000000000:=by decide
 omega
theorem Mv {a b:ar}(bG:fQ a)(aU:fQ b)(aV:a.length<=900000)(hm:b.length<=900000):Bv a b=some (L (Int.gcd (V a) (V b))):=by
 have : ∃r,iter (fun w:ar×ar=>xy w.1 w.2) (a,b)=some r/\r.elim id id=L (Int.gcd (V a) (V b)):=by
  refine kz (fj:=fun w:ar×ar=>fQ w.1/\fQ w.2/\w.1.length<=900000/\w.2.length<=900000/\Int.gcd (V w.1) (V w.2)=Int.gcd (V a) (V b)) (m:=fun w:ar×ar=>(V w.2).toNat) _ ?_ _ ⟨bG,aU,aV,hm,rfl⟩;rintro⟨x,y⟩ ⟨h1,h2,R,ah,ax⟩;simp only at h1 h2 R ah ax ⊢;have jY:=mg h1.1;have qj:=mg h2.1;by_cases aZ:y=[]
  ·subst aZ;refine .inr ⟨.inl x,by simp[xy,fU],?_⟩;rw[<- ax,Ch,Ib jY];exact(vK h1).symm
  ·have NS:=tB h2 aZ
   have aif:=List.length_pos_iff.mpr aZ;by_cases bJ:x.length<3/\y.length<3
   ·refine .inr ⟨.inr (L (Int.gcd (V a) (V b))),?_,rfl⟩;unfold xy;simp only[fU];rw[dw (by simp;omega),dw (by simp;omega),dw (by simp;omega),So h1 (by omega) (Iv h1 bJ.1)];simp only[dC,dA];rw[So h2 (by omega) (Iv h2 bJ.2)];simp only[dA];rw[aeG jY qj (Iv h1 bJ.1) (Iv h2 bJ.2),ax];rfl
   ·have w4:=Int.emod_nonneg (V x) (b:=V y) (by omega)
    have aih:=Int.emod_lt_of_pos (V x) NS;refine .inl ⟨(y,L (V x % V y)),?_,⟨h2,ix _,ah,(hH w4).2 ?_,?_⟩,?_⟩
    ·unfold xy
     simp only[fU];rw[dw (by simp;omega),div_eq h1 h2 aZ R ah];by_cases vR:x.length<3
     ·rw[dw (by simp;omega),dz (by simp;omega)];rfl
     ·rw[dz (by simp;omega)];rfl
    ·have:=ol h2.1;have:=sK ah;omega
    ·simp only;rw[eo w4,<- ax];exact LY jY
    ·simp only;rw[eo w4];omega
 obtain⟨r,ai,h⟩:=this;unfold Bv Rz;rw[List.nil_append,List.nil_append,dw (by omega),dw (by omega),ai]
 cases r with
 | inl r=>exact congrArg some h
 | inr r=>exact congrArg some h
def qJ (p:Nat)(l:ar):Prop:= ∀i z,i≠p->l[i]? = some z->0<=z/\z<1000000000
theorem qJ.set {p:Nat}{l:ar}(h:qJ p l){k:Nat}{x:Int}(ab:0<=x/\x<1000000000):qJ p (l.set k x):=fun i z ad cD=>by
 by_cases aX:k=i
 ·subst aX
  rw[List.getElem?_set] at cD;simp only[if_true] at cD;split at cD
  ·rw[<- dI cD];exact ab
  ·simp at cD
 ·rw[List.getElem?_set_ne aX] at cD;exact h i z ad cD
theorem qJ.VU {p:Nat}{l:ar}(h:qJ p l){x:Int}:qJ p (l.set p x):=fun i z ad cD=>by rw[List.getElem?_set_ne (fun h=>ad h.symm)] at cD;exact h i z ad cD
theorem cW.toE {l:ar}(h:cW l)(p:Nat):qJ p l:=fun _ _ _ cD=>h.get cD
theorem adA {v row:ar}{bW oo i:Nat}{j2 carry x y:Int}(ab:v[i]? = some x)(aZ:row[bW+i]? = some y)(jY:0<=x/\x<1000000000)(qj:0<=y/\y<1000000000)(aU:0<=j2/\j2<1000000000)(a2:0<=carry/\carry<1000000000)(hu:i<oo)(aV:row.length<=5000000):
 ∃c z,xz bW oo v j2 v.length carry i row=some (.inl (c,((i+1:Nat):Int),row.set (bW+i) z))/\0<=c/\c<1000000000/\0<=z/\z<1000000000/\z-1000000000*c=y-j2*x-carry:=by
 have ad:=gF ab;have au:=gF aZ;obtain⟨ji,ig⟩:=ER aU jY;have e:U (U (y-U (j2*x))-carry)=y-j2*x-carry:=by rw[cT (x:=j2*x) (by omega) (by omega),cT (x:=y-j2*x) (by omega) (by omega),cT (by omega) (by omega)]
 by_cases cj:y-j2*x-carry<0
 ·refine⟨(999999999-(y-j2*x-carry)) / 1000000000,y-j2*x-carry+(999999999-(y-j2*x-carry)) / 1000000000*1000000000,?_,by omega,by omega,by omega,by omega,by omega⟩;unfold xz;rw[dw (by simp;omega),dw (by omega),dx,ab];simp only[dC,dA];rw[dw (by omega),aZ];simp only[dA,e];rw[dw (by simpa using cj),dw (by omega),pr (n:=i) (by omega),cT (x:=999999999-(y-j2*x-carry)) (by omega) (by omega),oN (by omega),cT (x:=(999999999-(y-j2*x-carry)) / 1000000000) (by omega) (by omega),cT (x:=(999999999-(y-j2*x-carry)) / 1000000000*1000000000) (by omega) (by omega),cT (by omega) (by omega)]
 ·refine⟨0,y-j2*x-carry,?_,by omega,by omega,by omega,by omega,by omega⟩;unfold xz;rw[dw (by simp;omega),dw (by omega),dx,ab];simp only[dC,dA];rw[dw (by omega),aZ];simp only[dA,e];rw[dz (by simpa using cj),dw (by omega),pr (n:=i) (by omega)]
theorem adB {v row:ar}{bW oo:Nat}{j2:Int}(bc:cW v)(ai:cW row)(aU:0<=j2/\j2<1000000000)(hu:v.length<oo)(aS:bW+v.length<row.length)(aV:row.length<=5000000):
 ∃r,RH bW oo v j2 v.length 0 0 row=some r/\0<=r.1/\r.1<1000000000/\cW r.2/\r.2.length=row.length/\V r.2=V row-j2*B bW*V v+r.1*B (bW+v.length)/\ ∀i,i<bW\/bW+v.length<=i->r.2[i]? = row[i]? := by
 refine kz (fj:=fun w:Int×Int×ar=> ∃(i:Nat),w.2.1=(i:Int)/\i<=v.length/\0<=w.1/\w.1<1000000000/\cW w.2.2/\w.2.2.length=row.length/\V w.2.2=V row-j2*B bW*V (v.take i)+w.1*B (bW+i)/\ ∀i,i<bW\/bW+v.length<=i->w.2.2[i]? = row[i]?) (m:=fun w:Int×Int×ar=>v.length-w.2.1.toNat) _ ?_ _ ⟨0,rfl,by omega,by simp,by simp,ai,rfl,by simp[V],fun _ _=>rfl⟩;rintro⟨carry,ii,ed⟩ ⟨i,h1,ad,nX,ow,lo,hlen,hV,mC⟩;simp only at h1 nX ow lo hlen hV mC ⊢;subst h1;by_cases Cw:i=v.length
 ·subst Cw;exact .inr ⟨(carry,ed),by simp[xz],nX,ow,lo,hlen,by simpa using hV,mC⟩
 ·have ab:=dy (show i<v.length by omega)
  have aZ:=dy (show bW+i<ed.length by omega);obtain⟨c,z,he,cM,bl,fp,lW,cD⟩:=adA (oo:=oo) ab aZ (bc.get ab) (lo.get aZ) aU ⟨nX,ow⟩ (by omega) (by omega);rw[he];refine .inl ⟨_,rfl,⟨i+1,rfl,by omega,cM,bl,lo.set ⟨fp,lW⟩,by simpa using hlen,?_,fun k aX=> ?_⟩,by simp;omega⟩
  ·simp only;rw[uA aZ,vl ab,hV,<- Nat.add_assoc,nA,E5];have uG:z=ed[bW+i]-j2*v[i]-carry+1000000000*c:=(by omega);rw[uG];grind
  ·simp only;rw[List.getElem?_set_ne (by omega)];exact mC k aX
theorem afX {v row:ar}{bW oo:Nat}{j2:Int}(bc:cW v)(ai:cW row)(aU:0<=j2/\j2<1000000000)(hu:v.length<oo)(aS:bW+v.length<row.length)(aV:row.length<=5000000):
 ∃y eL,Eb v j2 bW oo row=some (decide (y<0),eL)/\eL.length=row.length/\qJ (bW+v.length) eL/\eL[bW+v.length]? = some y/\ -1000000000<y/\y<1000000000/\V eL=V row-j2*B bW*V v/\ ∀i,i<bW\/bW+v.length<i->eL[i]? = row[i]? := by
 obtain⟨r,jf,cM,bl,lo,hlen,hV,mC⟩:=adB bc ai aU hu aS aV;have ab:=dy (show bW+v.length<r.2.length by omega);have jY:=lo.get ab;refine⟨r.2[bW+v.length]-r.1,r.2.set (bW+v.length) (r.2[bW+v.length]-r.1),?_,by simpa using hlen,(cW.toE lo _).VU,?_,by omega,by omega,?_,fun i ad=> ?_⟩
 ·unfold Eb;simp only[fU];rw[jf];simp only[dC,dA,dx];rw[dw (by omega),ab];simp only[dA];rw[dw (by omega),cT (by omega) (by omega),List.getElem?_set,dw rfl,dw (by omega)];rfl
 ·rw[List.getElem?_set,dw rfl,dw (by omega)]
 ·rw[uA ab,hV];grind
 ·rw[List.getElem?_set_ne (by omega)];exact mC i (by omega)
theorem adC {v row:ar}{bW oo:Nat}(bc:cW v)(ai:qJ (bW+v.length) row)(hu:v.length<oo)(aS:bW+v.length<row.length)(aV:row.length<=5000000):
 ∃r,RI bW oo v v.length 0 0 row=some r/\0<=r.1/\r.1<=1/\qJ (bW+v.length) r.2/\r.2.length=row.length/\V r.2=V row+B bW*V v-r.1*B (bW+v.length)/\ ∀i,i<bW\/bW+v.length<=i->r.2[i]? = row[i]? := by
 refine kz (fj:=fun w:Int×Int×ar=> ∃(i:Nat),w.2.1=(i:Int)/\i<=v.length/\0<=w.1/\w.1<=1/\qJ (bW+v.length) w.2.2/\w.2.2.length=row.length/\V w.2.2=V row+B bW*V (v.take i)-w.1*B (bW+i)/\ ∀i,i<bW\/bW+v.length<=i->w.2.2[i]? = row[i]?) (m:=fun w:Int×Int×ar=>v.length-w.2.1.toNat) _ ?_ _ ⟨0,rfl,by omega,by simp,by simp,ai,rfl,by simp[V],fun _ _=>rfl⟩;rintro⟨carry,ii,ed⟩ ⟨i,h1,ad,nX,ow,lo,hlen,hV,mC⟩;simp only at h1 nX ow lo hlen hV mC ⊢;subst h1;by_cases Cw:i=v.length
 ·subst Cw;exact .inr ⟨(carry,ed),by simp[AV],nX,ow,lo,hlen,by simpa using hV,mC⟩
 ·have ab:=dy (show i<v.length by omega)
  have aZ:=dy (show bW+i<ed.length by omega);have jY:=bc.get ab;have qj:=lo _ _ (by omega) aZ;have he:AV bW oo v v.length carry i ed=some (.inl ((ed[bW+i]+v[i]+carry) / 1000000000,((i+1:Nat):Int),ed.set (bW+i) ((ed[bW+i]+v[i]+carry) % 1000000000))):=(by unfold AV;rw[dw (by simp;omega),dw (by omega),dx,ab];simp only[dC,dA];rw[dw (by omega),aZ];simp only[dA];rw[dw (by omega),cT (x:=ed[bW+i]+v[i]) (by omega) (by omega),cT (x:=ed[bW+i]+v[i]+carry) (by omega) (by omega),sr (by omega),oN (by omega),cT (by omega) (by omega),pr (n:=i) (by omega)]);rw[he];refine .inl ⟨_,rfl,⟨i+1,rfl,by omega,by simp only;omega,by simp only;omega,lo.set (by omega),by simpa using hlen,?_,fun k aX=> ?_⟩,by simp;omega⟩
  ·simp only;rw[uA aZ,vl ab,hV,<- Nat.add_assoc,nA,E5];have:=Int.mul_ediv_add_emod (ed[bW+i]+v[i]+carry) 1000000000;generalize (ed[bW+i]+v[i]+carry) / 1000000000=q at *;generalize (ed[bW+i]+v[i]+carry) % 1000000000=t at *;have uG:t=ed[bW+i]+v[i]+carry-1000000000*q:=(by omega);rw[uG];grind
  ·simp only;rw[List.getElem?_set_ne (by omega)];exact mC k aX
theorem afY {v row:ar}{bW oo:Nat}{y:Int}(bc:cW v)(ai:qJ (bW+v.length) row)(hu:v.length<oo)(aS:bW+v.length<row.length)(aV:row.length<=5000000)(aZ:row[bW+v.length]? = some y)(qj:-1000000000<y)(Gh:y<1000000000):
 ∃nu eL,Bx v bW oo row=some eL/\eL.length=row.length/\qJ (bW+v.length) eL/\eL[bW+v.length]? = some nu/\V eL=V row+B bW*V v/\ ∀i,i<bW\/bW+v.length<i->eL[i]? = row[i]? := by
 obtain⟨r,jf,cM,bl,lo,hlen,hV,mC⟩:=adC bc ai hu aS aV;have ab:r.2[bW+v.length]? = some y:=by rw[mC _ (by omega)];exact aZ
 refine⟨y+r.1,r.2.set (bW+v.length) (y+r.1),?_,by simpa using hlen,lo.VU,?_,?_,fun i ad=> ?_⟩
 ·unfold Bx;simp only[fU];rw[jf];simp only[dC,dA,dx];rw[dw (by omega),ab];simp only[dA];rw[dw (by omega),cT (by omega) (by omega)]
 ·rw[List.getElem?_set,dw rfl,dw (by omega)]
 ·rw[uA ab,hV];grind
 ·rw[List.getElem?_set_ne (by omega)];exact mC i (by omega)
theorem aeH {g q v1 v2 top h9 rest a0 W P:Int}(f8:1<=P)(dt:0<=g)(cj:g*v1+rest=top)(w2:P*(v1*1000000000+v2)<=W)(NP:a0<P*(top*1000000000+h9+1))(WI:q*W<=a0)(hW:0<=W)(h:rest*1000000000+h9<g*v2):q<g:=by
 apply Int.not_le.mp;intro w5;have h1:g*W<=q*W:=Int.mul_le_mul_of_nonneg_right w5 hW;have h2:g*(P*(v1*1000000000+v2))<=g*W:=dK w2 dt;have R:g*(P*(v1*1000000000+v2))=P*(g*(v1*1000000000+v2)):=by grind
 have ah:P*(g*(v1*1000000000+v2))<P*(top*1000000000+h9+1):=by omega
 have ax:=Int.lt_of_mul_lt_mul_left ah (by omega);have aQ:g*(v1*1000000000+v2)=1000000000*(g*v1)+g*v2:=by grind
 omega
theorem Tk {g v1 v2 top h9 rest a0 W P:Int}(f8:1<=P)(dt:0<=g)(w6:g<=999999999)(tR:1<=v1)(Gn:0<=v2)(cj:g*v1+rest=top)(w2:P*(v1*1000000000+v2)<=W)(Jm:W<P*(v1*1000000000+v2+1))(Jl:P*(top*1000000000+h9)<=a0)(h:g*v2<=rest*1000000000+h9):g<=a0 / W+1:=by
 have Gp:P*1000000000<=W:=by have h1:P*1000000000<=P*(v1*1000000000+v2):=dK (by omega) (by omega);omega
 have h1:g*W<=g*(P*(v1*1000000000+v2+1)):=dK (by omega) dt;have h2:g*(P*(v1*1000000000+v2+1))=P*(1000000000*(g*v1)+g*v2+g):=by grind
 have R:P*(1000000000*(g*v1)+g*v2+g)<=P*(top*1000000000+h9+999999999):=dK (by omega) (by omega);have ah:P*(top*1000000000+h9+999999999)=P*(top*1000000000+h9)+P*999999999:=by grind
 have ax:(g-1)*W=g*W-W:=by grind
 have:g-1<=a0 / W:=(Int.le_ediv_iff_mul_le (by omega)).2 (by omega);omega
theorem acT {aj u jJ ap:ar}{N n j:Nat}{v1 v2 h9 top a0 W P:Int}(aV:2<=n)(I6:n<=5000000)(Gq:j+n<N)(gx:N<=5000000)(h1:jJ[n-1]? = some v1)(h2:jJ[n-2]? = some v2)(R:u[j+n-2]? = some h9)
 (tR:1<=v1/\v1<1000000000) (Gn:0<=v2/\v2<1000000000) (akS:0<=h9/\h9<1000000000) (f8:1<=P) (w2:P*(v1*1000000000+v2)<=W) (Jm:W<P*(v1*1000000000+v2+1)) (Jl:P*(top*1000000000+h9)<=a0) (NP:a0<P*(top*1000000000+h9+1)) (dk:0<=a0) (NQ:a0<1000000000*W) (n5:0<=top) (akT:top<=v1*1000000000+999999999) (a4:a0 / W<=top / v1) :
 ∃g,R2 N n n j aj u jJ ap (top / v1) (top % v1)=some g/\(a0 / W=g\/a0 / W+1=g)/\0<=g/\g<=999999999:=by
 have Gp:0<W:=by have h1:P*1000000000<=P*(v1*1000000000+v2):=dK (by omega) (by omega);omega
 have nk:0<=a0 / W:=Int.ediv_nonneg dk (by omega);have p8:a0 / W<1000000000:=Int.ediv_lt_of_lt_mul Gp NQ;have WI:a0 / W*W<=a0:=Int.ediv_mul_le _ (by omega);have aij:=Int.mul_ediv_add_emod top v1;have pA:=Int.emod_nonneg top (b:=v1) (by omega);have rB:=Int.emod_lt_of_pos top (b:=v1) (by omega);have M2:U ((n:Int)-1)=((n-1:Nat):Int):=by rw[cT (by omega) (by omega)];omega
 have aha:U ((n:Int)-2)=((n-2:Nat):Int):=by rw[cT (by omega) (by omega)];omega
 have ahb:U (U ((j:Int)+(n:Int))-2)=((j+n-2:Nat):Int):=by rw[cT (x:=(j:Int)+n) (by omega) (by omega),cT (by omega) (by omega)];omega
 have IW:top / v1<=top:=Int.ediv_le_self _ n5;refine kz (fj:=fun w:Int×Int=>w.1*v1+w.2=top/\0<=w.2/\w.2<1000000000/\a0 / W<=w.1/\w.1<=top) (m:=fun w:Int×Int=>w.1.toNat) _ ?_ _ ⟨by rw[Int.mul_comm];exact aij,pA,by simp only;omega,a4,IW⟩;rintro⟨g,rest⟩ ⟨i1,i2,Om,GD,ajd⟩;simp only at i1 i2 Om GD ajd ⊢;have NT:U (rest+v1)=rest+v1:=cT (by omega) (by omega);have NU:U (g-1)=g-1:=cT (by omega) (by omega);have w6:(g-1)*v1+(rest+v1)=top:=by grind
 have U7:a0 / W<=g-1->1000000000<=rest+v1->(a0 / W=g-1\/a0 / W+1=g-1)/\0<=g-1/\g-1<=999999999:=by intro lT k4;have mQ:(g-1)*v1<1000000000*v1:=(by omega);have On:g-1<1000000000:=Int.lt_of_mul_lt_mul_right mQ (by omega);have Xp:0<=g-1:=(by omega);have alr:=(ER ⟨Xp,On⟩ Gn).2;have:=Tk f8 Xp (by omega) tR.1 Gn.1 w6 w2 Jm Jl (by omega);omega
 by_cases M3:1000000000<=g
 ·by_cases aU:1000000000<=rest+v1
  ·refine .inr ⟨g-1,?_,U7 (by omega) aU⟩;unfold xD;rw[dw (by simpa using M3),M2,dw (by omega),dG,dx,h1];simp only[dC,dA,NT,NU];rw[dw (by simpa using aU)]
  ·refine .inl ⟨(g-1,rest+v1),?_,⟨w6,by simp only;omega,by simp only;omega,by simp only;omega,by simp only;omega⟩,by simp only;omega⟩;unfold xD;rw[dw (by simpa using M3),M2,dw (by omega),dG,dx,h1];simp only[dC,dA,NT,NU];rw[dz (by simpa using aU)]
 ·have kj:0<=g:=by omega
  obtain⟨ji,ig⟩:=ER ⟨kj,by omega⟩ Gn;have e1:U (U (rest*1000000000)+h9)=rest*1000000000+h9:=(by rw[cT (x:=rest*1000000000) (by omega) (by omega),cT (by omega) (by omega)]);have e2:U (g*v2)=g*v2:=cT (by omega) (by omega)
  have MM:xD N n n j aj u jJ ap g rest=some (if rest*1000000000+h9<g*v2 then (if 1000000000<=rest+v1 then .inr (g-1) else .inl (g-1,rest+v1)) else .inr g):=by
   unfold xD;rw[dz (by simpa using M3),aha,dw (by omega),dG,dx,h2];simp only[dC,dA];rw[ahb,dw (by omega),dG,dx,R];simp only[dA,e1,e2];by_cases a2:rest*1000000000+h9<g*v2
   ·rw[dw (by simpa using a2),dw a2,M2,dw (by omega),dG,dx,h1]
    simp only[dA,NT,NU];by_cases aU:1000000000<=rest+v1
    ·rw[dw (by simpa using aU),dw aU]
    ·rw[dz (by simpa using aU),dz aU]
   ·rw[dz (by simpa using a2),dz a2]
  rw[MM];by_cases a2:rest*1000000000+h9<g*v2
  ·have akU:=aeH f8 kj i1 w2 NP WI (by omega) a2
   rw[dw a2];by_cases aU:1000000000<=rest+v1
   ·rw[dw aU];exact .inr ⟨g-1,rfl,U7 (by omega) aU⟩
   ·rw[dz aU];exact .inl ⟨(g-1,rest+v1),rfl,⟨w6,by simp only;omega,by simp only;omega,by simp only;omega,by simp only;omega⟩,by simp only;omega⟩
  ·rw[dz a2];have:=Tk f8 kj (by omega) tR.1 Gn.1 i1 w2 Jm Jl (by omega);exact .inr ⟨g,rfl,by omega,by omega,by omega⟩
theorem adD {a b:ar}{k:Nat}(h:∀i,k<=i->a[i]? = b[i]?):a.drop k=b.drop k:=by apply List.ext_getElem?;intro i;rw[List.getElem?_drop,List.getElem?_drop];exact h _ (by omega)
theorem adE {a b:ar}{k:Nat}(h:∀i,i<k->a[i]? = b[i]?):a.take k=b.take k:=by
 apply List.ext_getElem?;intro i;rw[List.getElem?_take,List.getElem?_take];by_cases ad:i<k
 ·rw[dw ad,dw ad];exact h i ad
 ·rw[dz ad,dz ad]
theorem WJ {u w:ar}{j n:Nat}{y c:Int}(hlen:w.length=u.length)(Gq:j+n<u.length)(eJ:qJ (j+n) w)(aZ:w[j+n]? = some y)(mC:∀i,i<j\/j+n<i->w[i]? = u[i]?)(h0:V (u.drop (j+n+1))=0)(hV:V w=V u-c*B j):
 V (w.drop j)=V (u.drop j)-c/\ ∃low,0<=low/\low<B n/\V (w.drop j)=low+B n*y:=by
 have h1:=yj (l:=u) (n:=j) (by omega);have h2:=yj (l:=w) (n:=j) (by omega);rw[adE (a:=w) (b:=u) (fun i ad=>mC i (.inl ad))] at h2;have R:B j*V (w.drop j)=B j*(V (u.drop j)-c):=by grind
 have f6:=pk j;have ah:V (w.drop j)=V (u.drop j)-c:=Int.eq_of_mul_eq_mul_left (by omega) R;refine⟨ah,V ((w.drop j).take n),?_,?_,?_⟩
 ·refine mg (fun x ab=> ?_);obtain⟨i,ad⟩:=List.mem_iff_getElem?.mp ab;have nl:=gF ad;simp at nl;rw[List.getElem?_take,dw (by omega),List.getElem?_drop] at ad;exact eJ _ _ (by omega) ad
 ·have aS:cW ((w.drop j).take n):=fun x ab=>by
   obtain⟨i,ad⟩:=List.mem_iff_getElem?.mp ab;have nl:=gF ad;simp at nl;rw[List.getElem?_take,dw (by omega),List.getElem?_drop] at ad;exact eJ _ _ (by omega) ad
  have:=ol aS
  rwa [List.length_take,Nat.min_eq_left (by simp;omega)] at this
 ·have ax:=yj (l:=w.drop j) (n:=n) (by simp;omega);rw[List.drop_drop,qt aZ,adD (a:=w) (b:=u) (k:=j+n+1) (fun i ad=>mC i (.inr (by omega))),h0] at ax;rw[ax];grind
theorem Tl {w:ar}{p:Nat}(eJ:qJ p w)(aZ:w[p]? = some 0):cW w:=fun x ab=>by
 obtain⟨i,ad⟩:=List.mem_iff_getElem?.mp ab;by_cases h:i=p
 ·subst h;rw[aZ] at ad;have:=dI ad;omega
 ·exact eJ i x h ad
theorem TU {low y X zx W:Int}(h0:0<=low)(h1:low<zx)(JD:X=low+zx*y)(h2:0<=X)(R:X<W)(ah:W<=zx):y=0:=by
 have eA:zx*y<zx*1:=by omega
 have ax:=Int.lt_of_mul_lt_mul_left eA (by omega);have Jc:zx*(-1)<zx*y:=by omega
 have aQ:=Int.lt_of_mul_lt_mul_left Jc (by omega);omega
theorem adF {aj u jJ ap:ar}{n j:Nat}{v1 W:Int}(aV:2<=n)(Gr:n<=jJ.length)(bc:cW (jJ.take n))(hW:V (jJ.take n)=W)(tR:jJ[n-1]? = some v1)(M4:1<=v1)(hu:cW u)(zh:u.length<=5000000)(Gq:j+n<u.length)(eA:V (u.drop (j+1))<W)(akV:j<ap.length):
 ∃mu,xE u.length n n aj jJ j u ap=some (.inl ((j:Int)-1,mu,ap.set j (V (u.drop j) / W)))/\cW mu/\mu.length=u.length/\V mu=V u-(V (u.drop j) / W)*B j*W/\V (mu.drop j)<W/\0<=V (u.drop j) / W/\V (u.drop j) / W<1000000000:=by
 obtain⟨n,rfl⟩ : ∃m,n=m+2:=⟨n-2,by omega⟩;have r9:(jJ.take (n+2)).length=n+2:=by simp;omega
 have w6:(jJ.take (n+2))[n+1]? = some v1:=by rw[List.getElem?_take,dw (by omega)];exact tR
 have WK:=dy (show n<jJ.length by omega);have VV:(jJ.take (n+2))[n]? = some jJ[n]:=by rw[List.getElem?_take,dw (by omega)];exact WK
 have ahc:=bc.get w6;have ahd:=bc.get VV;have jY:=dy (show j+(n+2)<u.length by omega);have Gm:=dy (show j+(n+1)<u.length by omega);have FU:=dy (show j+n<u.length by omega);have WL:=dy (show j<u.length by omega);have mI:=hu.get jY;have wU:=hu.get Gm;have Nr:=hu.get FU;have akW:=hu.get WL;have Gs:=ui bc (k:=n+1) (by omega);rw[Es w6 (by omega),hW] at Gs;have NV:=ui bc (k:=n) (by omega);rw[qt VV,Es w6 (by omega),hW] at NV;have M5:=ol bc;rw[r9,hW] at M5;have akX:0<=W:=by rw[<- hW];exact mg bc
 have cD:=ui (hu.drop (j+1)) (k:=n+2) (by simp;omega);rw[List.drop_drop] at cD;have aik:=mg (hu.drop (j+1+(n+2)));have akY:=pk (n+2);have h0:V (u.drop (j+(n+2)+1))=0:=by rw[show j+(n+2)+1=j+1+(n+2) by omega];apply Int.le_antisymm _ aik;apply Int.not_lt.mp;intro h;have:B (n+2)*1<=B (n+2)*V (u.drop (j+1+(n+2))):=dK (by omega) (by omega);omega
 have n5:V (u.drop (j+(n+2)))=u[j+(n+2)]:=by rw[qt jY,h0];omega
 have IW:V (u.drop (j+(n+1)))=u[j+(n+1)]+1000000000*u[j+(n+2)]:=by rw[qt Gm,show j+(n+1)+1=j+(n+2) by omega,n5]
 have h3:V (u.drop (j+n))=u[j+n]+1000000000*(u[j+(n+1)]+1000000000*u[j+(n+2)]):=by rw[qt FU,show j+n+1=j+(n+1) by omega,IW]
 have jf:=ui (hu.drop j) (k:=n+1) (by simp;omega);rw[List.drop_drop,IW] at jf;have zi:=ui (hu.drop j) (k:=n) (by simp;omega);rw[List.drop_drop,h3] at zi;have qT:=mg (hu.drop j);have dk:V (u.drop j)<1000000000*W:=by rw[qt WL];omega
 have ail:=pk n;have ahe:=pk (n+1);have y3:u[j+(n+2)]<=v1:=by have h1:=ui (hu.drop (j+1)) (k:=n+1) (by simp;omega);rw[List.drop_drop,show j+1+(n+1)=j+(n+2) by omega,n5] at h1;have h2:B (n+1)*u[j+(n+2)]<B (n+1)*(v1+1):=(by omega);have:=Int.lt_of_mul_lt_mul_left h2 (by omega);omega
 have ahf:=R5 ahe jf.1 jf.2 Gs.1 Gs.2 (by omega) (by omega) dk
 obtain⟨g,dt,w5,aim,akZ⟩:=acT (aj:=aj) (ap:=ap) (N:=u.length) (n:=n+2) (j:=j) (v1:=v1) (v2:=jJ[n]) (h9:=u[j+n]) (top:=u[j+(n+1)]+1000000000*u[j+(n+2)]) (a0:=V (u.drop j)) (W:=W) (P:=B n) (u:=u) (jJ:=jJ) (by omega) (by omega) Gq zh tR WK FU ⟨M4,ahc.2⟩ ahd Nr ail
  (by rw[Int.mul_comm v1,Int.add_comm];exact NV.1) (by rw[Int.mul_comm v1,Int.add_comm (1000000000*v1)];exact NV.2)
  (by rw[Int.mul_comm (u[j+(n+1)]+_),Int.add_comm];exact zi.1) (by rw[Int.mul_comm (u[j+(n+1)]+_),Int.add_comm (1000000000*_) u[j+n]];exact zi.2) qT dk (by omega) (by omega) ahf.2.1
 have Gp:0<W:=by have:B (n+1)*1<=B (n+1)*v1:=dK (by omega) (by omega);omega
 have nk:0<=V (u.drop j) / W:=Int.ediv_nonneg qT (by omega);have p8:V (u.drop j) / W<1000000000:=Int.ediv_lt_of_lt_mul Gp dk;have hm:=Int.mul_ediv_add_emod (V (u.drop j)) W;have pA:=Int.emod_nonneg (V (u.drop j)) (b:=W) (by omega);have rB:=Int.emod_lt_of_pos (V (u.drop j)) Gp;obtain⟨y,w,cj,WM,Jo,Jp,qj,Gh,Jq,Mw⟩:=afX (v:=jJ.take (n+2)) (row:=u) (bW:=j) (oo:=u.length-j) (j2:=g) bc hu ⟨aim,by omega⟩ (by omega) (by omega) zh;rw[r9] at Jo Jp Mw;rw[hW] at Jq;obtain⟨vR,low,o3,Jr,vI⟩:=WJ (c:=g*W) WM Gq Jo Jp Mw h0 (by rw[Jq];grind);have ain:U ((j:Int)-1)=(j:Int)-1:=sU (by omega);have e1:U ((j:Int)+((n+2:Nat):Int))=((j+(n+2):Nat):Int):=by rw[cT (by omega) (by omega)];omega
 have e2:U (((j+(n+2):Nat):Int)-1)=((j+(n+1):Nat):Int):=by rw[cT (by omega) (by omega)];omega
 have bM:U (((n+2:Nat):Int)-1)=((n+1:Nat):Int):=by rw[cT (by omega) (by omega)];omega
 have db:U (U (u[j+(n+2)]*1000000000)+u[j+(n+1)])=u[j+(n+1)]+1000000000*u[j+(n+2)]:=by rw[cT (x:=u[j+(n+2)]*1000000000) (by omega) (by omega),cT (by omega) (by omega)];omega
 have dW:0<=u[j+(n+1)]+1000000000*u[j+(n+2)]:=by omega
 have ei:(u[j+(n+1)]+1000000000*u[j+(n+2)]) / v1<=u[j+(n+1)]+1000000000*u[j+(n+2)]:=Int.ediv_le_self _ dW;have ez:0<=(u[j+(n+1)]+1000000000*u[j+(n+2)]) / v1:=Int.ediv_nonneg dW (by omega);have ahg:jJ[n+1]? = some v1:=tR
 have pre:xE u.length (n+2) ((n+2:Nat):Int) aj jJ j u ap =
  (if (decide (y<0))=true then
    Bx (jJ.take (n+2)) j (u.length-j) w >>= fun kh=>some (.inl ((j:Int)-1,kh,ap.set j (U (g-1))))
  else some (.inl ((j:Int)-1,w,ap.set j g))):=by
  unfold xE;rw[dw (by simp)];simp only[e1,e2,bM,dx,dG,ain];rw[dw (by omega),jY];simp only[dC,dA];rw[dw (by omega),Gm];simp only[dA];rw[dw (by omega),ahg];simp only[dA];rw[dw (by omega),db,oN dW,sr dW,cT (by omega) (by omega),dt];simp only[dA];rw[dw (by omega),dw (by omega),dw (by omega),List.drop_zero,cj];simp only[dA];by_cases aZ:y<0
  ·have bF:(decide (y<0))=true:=(by simpa using aZ);simp only[dw bF];congr 1;funext r;rw[dw (by omega),dw (by omega)]
  ·have bF : ¬(decide (y<0))=true:=(by simpa using aZ);simp only[dz bF];rw[dw (by omega),dw (by omega)]
 rcases w5 with w5|w5
 ·subst w5;have JD:V (w.drop j)=V (u.drop j) % W:=(by rw[vR];grind);have aZ:y=0:=TU (W:=W) o3 Jr vI (by rw[JD];exact pA) (by rw[JD];exact rB) (Int.le_of_lt M5);subst aZ;refine⟨w,?_,Tl Jo Jp,WM,Jq,by omega,nk,p8⟩;rw[pre];rfl
 ·have JD:V (w.drop j)=V (u.drop j) % W-W:=(by rw[vR,<- w5];grind);have aZ:y<0:=(by apply Int.not_le.mp;intro h;have:0<=B (n+2)*y:=Int.mul_nonneg (by omega) h;omega);obtain⟨nu,bT,nH,akw,M6,M7,VW,Uu⟩:=afY (v:=jJ.take (n+2)) (row:=w) (bW:=j) (oo:=u.length-j) (y:=y) bc (by rw[r9];exact Jo) (by omega) (by omega) (by omega) (by rw[r9];exact Jp) qj Gh;rw[r9] at M6 M7 Uu;rw[hW] at VW;have WN:V bT=V u-V (u.drop j) / W*B j*W:=(by rw[VW,Jq,<- w5];grind);obtain⟨ahh,akx,ahi,ahj,ahk⟩:=WJ (c:=V (u.drop j) / W*W) (by omega) Gq M6 M7 (fun i ad=>by rw[Uu i ad,Mw i ad]) h0 (by rw[WN];grind);have WO:V (bT.drop j)=V (u.drop j) % W:=(by rw[ahh];grind);have pC:nu=0:=TU (W:=W) ahi ahj ahk (by rw[WO];exact pA) (by rw[WO];exact rB) (Int.le_of_lt M5);subst pC;refine⟨bT,?_,Tl M6 M7,by omega,WN,by omega,nk,p8⟩;rw[pre,dw (by simpa using aZ),nH];simp only[dC,dA];rw[cT (by omega) (by omega),show g-1=V (u.drop j) / W by omega]
theorem adG {aj jJ u:ar}{n m:Nat}{v1 W:Int}(aV:2<=n)(Gr:n<=jJ.length)(bc:cW (jJ.take n))(hW:V (jJ.take n)=W)(tR:jJ[n-1]? = some v1)(M4:1<=v1)(hu:cW u)(zh:u.length<=5000000)(hm:m+n=u.length)(eA:V (u.drop m)<W):
 ∃r,R3 u.length n n aj jJ ((m:Int)-1) u (List.replicate m 0)=some r/\cW r.1/\r.1.length=u.length/\V r.1<W/\cW r.2/\r.2.length=m/\V u=V r.2*W+V r.1:=by
 refine kz (fj:=fun w:Int×ar×ar=> ∃(k:Nat) (q:ar),w.1=(k:Int)-1/\k<=m/\cW w.2.1/\w.2.1.length=u.length/\w.2.2=List.replicate k 0++q/\q.length+k=m/\cW q/\V (w.2.1.drop k)<W/\V u=V w.2.1+B k*V q*W) (m:=fun w:Int×ar×ar=>(w.1+1).toNat) _ ?_ _ ⟨m,[],rfl,by omega,hu,rfl,by simp,by simp,cW.nil,eA,by simp[V]⟩;rintro⟨ajc,mu,ap⟩ ⟨k,q,h1,aX,p9,hlen,R,a4,sk,M8,hV⟩;simp only at h1 p9 hlen R M8 hV ⊢;subst h1 R
 cases k with
 | zero =>
  refine .inr ⟨(mu,q),by simp[xE],p9,hlen,by simpa using M8,sk,by simpa using a4,?_⟩;rw[hV];simp[B];omega
 | succ k =>
  obtain⟨ak0,he,s1,s2,zs,aje,ajf,ajg⟩:=adF (aj:=aj) (jJ:=jJ) (u:=mu) (ap:=List.replicate (k+1) 0++q) (j:=k) aV Gr bc hW tR M4 p9 (by omega) (by omega) M8 (by simp;omega);rw[hlen] at he;rw[show ((k+1:Nat):Int)-1=k by omega,he];refine .inl ⟨_,rfl,⟨k,V (mu.drop k) / W::q,rfl,by omega,s1,s2.trans hlen,Md _ _ _,by simp;omega,cW.cons ⟨ajf,ajg⟩ sk,aje,?_⟩,by simp only;omega⟩;simp only;rw[hV,zs,mz,nA];grind
theorem LZ {a:ar}(h:a.length<=900000):yl a=some a:=by unfold yl;rw[dw (by omega)]
theorem acU {a b q s:Int}(h:a=q*b+s)(h0:0<=s)(h1:s<b):a / b=q/\a % b=s:=by
 subst h;constructor
 ·rw[Int.add_comm,Int.add_mul_ediv_right _ _ (by omega),Int.ediv_eq_zero_of_lt h0 h1];omega
 ·rw[Int.add_comm,Int.add_mul_emod_self_right];exact Int.emod_eq_of_lt h0 h1
theorem Ic {a b:ar}(bG:fQ a)(aU:fQ b)(mI:b≠[])(aV:a.length<=900000)(hm:b.length<=900000):vg a b=some (L (V a / V b),L (V a % V b)):=by
 have kG:=tB aU mI;have I5:=mg bG.1;unfold vg;simp only[fU];rw[Hy bG aU (by omega)];simp only[dC,dA];by_cases a2:V a<V b
 ·rw[dw (by simpa using wx.2 a2),LZ aV,Int.ediv_eq_zero_of_lt I5 a2,Int.emod_eq_of_lt I5 a2,qv,vK bG];rfl
 ·rw[dz (fun h=>a2 (wx.1 (by simpa using h)))]
  obtain⟨k,d,aX,bF,s4,tb,w3⟩:=Iu aU mI;by_cases h1:b.length=1
  ·have vJ:k=0:=(by omega);subst vJ;have NR:V b=d:=(by simpa using w3);rw[dw (by simp[h1]),dw (by omega),bF];simp only[dA];have rB:=Int.emod_nonneg (V a) (b:=d) (by omega);have Gk:=Int.emod_lt_of_pos (V a) s4;rw[R4 bG.1 ⟨s4,tb⟩ (by omega)];simp only[dA];rw[Fa rB (by omega),Lu rB (by omega),NR];rfl
  ·have hw:U ((b.length:Int)-1)=(k:Int):=by rw[cT (by omega) (by omega)];omega
   have e1:U (d+1)=d+1:=cT (by omega) (by omega);have CS:1<=1000000000 / (d+1):=(by apply (Int.le_ediv_iff_mul_le (by omega)).2;omega);have Gt:1000000000 / (d+1)<1000000000:=(by apply Int.ediv_lt_of_lt_mul (by omega);omega);have aio:1000000000 / (d+1)*(d+1)<=1000000000:=Int.ediv_mul_le _ (by omega);have e2:U ((1000000000:Int).tdiv (d+1))=1000000000 / (d+1):=(by rw[oN (by omega),cT (by omega) (by omega)]);rw[dz (by simp;omega),hw,dw (by omega),dx,bF];simp only[dA,e1,e2];generalize 1000000000 / (d+1)=f at *;rw[dw (by omega)];have kP:cW [f]:=cW.cons (by omega) cW.nil;have aip:V [f]=f:=(by simp[V]);have aiq:a≠[]:=(by intro h;subst h;simp[V] at a2;omega);obtain⟨nv,zy,air,ak1,ais,Js,ak2⟩:=SN bG.1 kP aiq (by simp) (by omega) (by simp);obtain⟨GK,jJ,ait,ak3,aiu,NW,ak4⟩:=SN aU.1 kP mI (by simp) (by omega) (by simp);rw[aip] at Js NW;rw[air];simp only[dA];simp only[List.length_singleton] at ais aiu;have ak5:=pk k;have aiv:V b*f<B b.length:=(by have h2:=(ui aU.1 (k:=k) (by omega)).2;rw[w3] at h2;have R:V b*f<=(B k*(d+1)-1)*f:=Int.mul_le_mul_of_nonneg_right (by omega) (by omega);have ah:(B k*(d+1)-1)*f=B k*(f*(d+1))-f:=(by grind);have ax:B k*(f*(d+1))<=B k*1000000000:=dK aio (by omega);rw[aX,nA];omega);have ak6:V b<=V b*f:=(by have:V b*1<=V b*f:=dK CS (by omega);omega);have ak7:V a<=V a*f:=(by have:V a*1<=V a*f:=dK CS (by omega);omega);have NX:0<=V b*f:=(by omega);have WQ:0<=V a*f:=(by omega);have WR:GK=b.length:=(by have h2:(jJ.take GK).length=GK:=(by simp;omega);rw[NW] at h2;have R:=(hH NX (k:=b.length)).2 aiv;have ah:=IQ aU mI;have ax : ¬(L (V b*f)).length<=b.length-1:=fun h=>(by have:=(hH NX).1 h;omega);omega);have aiw:(L (V a*f)).length=nv:=(by rw[<- Js];simp;omega);have VX:=ol (hK (V a*f));rw[eo WQ,aiw] at VX;have aky:a.length<=nv:=bG.len.2 (by omega);have ak8:b.length<=a.length:=Nat.le_of_not_lt fun h=>(by have:=H7 bG aU h;omega);rw[dw (by omega),dw (by simp;omega),ait];simp only[dA];have zh:(zy.take nv++[0]).length=nv+1:=(by simp;omega);have aix:La a GK [f] jJ (zy.take nv++[0])=some (zy.take nv++[0]):=(by unfold La;rw[iter];unfold G3;simp only[fU,zh];rw[dz (by simp;omega)];rfl);rw[aix];simp only[dA,zh];have nI:U (((nv+1:Nat):Int)-((GK:Nat):Int))=((nv+1-b.length:Nat):Int):=(by rw[cT (by omega) (by omega)];omega);rw[nI,dw (by omega),sU (by omega),dx];have Vw:cW (zy.take nv++[0]):=(by rw[Js];exact(hK _).append (cW.cons (by omega) cW.nil));have WS:V (zy.take nv++[0])=V a*f:=(by rw[yd,Js,eo WQ];simp[V]);have Mx:jJ.take b.length=L (V b*f):=(by rw[<- WR];exact NW);have aiy:V (jJ.take b.length)=V b*f:=(by rw[Mx,eo NX]);obtain⟨ey,zz,ox,r8,akz,akA,akB⟩:=Iu (ix (V b*f)) (fun h=>by have:=sT.1 h;omega);rw[<- Mx] at ox r8;have r9:(jJ.take b.length).length=b.length:=by simp;omega
   have y5:jJ[b.length-1]? = some zz:=by
    rw[List.getElem?_take] at r8;rw[show b.length-1=ey by omega];split at r8
    ·exact r8
    ·simp at r8
   have ahl:V ((zy.take nv++[0]).drop (nv+1-b.length))<V b*f:=(by have h2:=(ui Vw (k:=nv+1-b.length) (by omega)).1;rw[WS] at h2;have R:=IQ aU mI;have ah:B nv=B (nv+1-b.length)*B (b.length-1):=(by rw[<- E5];congr 1;omega);rw[ah] at VX;have ax:B (nv+1-b.length)*V ((zy.take nv++[0]).drop (nv+1-b.length))<B (nv+1-b.length)*B (b.length-1):=(by omega);have:=Int.lt_of_mul_lt_mul_left ax (by have:=pk (nv+1-b.length);omega);omega);obtain⟨r,ai,r1,r2,aL,a8,aJ,bA⟩:=adG (aj:=[f]) (m:=nv+1-b.length) (by omega) (by omega) (by rw[Mx];exact hK _) aiy y5 (by omega) Vw (by omega) (by omega) ahl;rw[zh] at ai r2;rw[WR,ai];simp only[dA];rw[dw (by omega),List.drop_zero,List.take_of_length_le (by omega),BV r1 (by omega)];simp only[dA];have Gj:=mg r1;rw[WS] at bA;have bJ:V r.1=(V a-V r.2*V b)*f:=(by grind);have aiz:0<=V a-V r.2*V b:=(by apply Int.not_lt.mp;intro h;have:(V a-V r.2*V b)*f<=(-1)*f:=Int.mul_le_mul_of_nonneg_right (by omega) (by omega);omega);have vR:V a-V r.2*V b<V b:=(by apply Int.lt_of_mul_lt_mul_right (a:=f) _ (by omega);omega);obtain⟨q1,q2⟩:=acU (a:=V a) (b:=V b) (q:=V r.2) (s:=V a-V r.2*V b) (by omega) aiz vR;rw[dw (by simp)];simp only[List.getElem?_cons_zero,dA];have F7:(L (V r.1)).length<=nv+1:=(hH Gj).2 (by have:=ol r1;rwa [r2] at this);rw[R4 (hK _) ⟨by omega,Gt⟩ (by omega),eo Gj];simp only[dA];rw[BV a8 (by omega)];simp only[dA];rw[q1,q2,bJ,Int.mul_ediv_cancel _ (by omega)]
theorem SQ {a b:ar}(bG:fQ a)(aU:fQ b)(aV:a.length<=900000)(hm:b.length<=900000):Br a b=some (L (Int.gcd (V a) (V b))):=by
 have : ∃r,iter (fun w:ar×ar=>AH w.1 w.2) (a,b)=some r/\r=L (Int.gcd (V a) (V b)):=by
  refine kz (fj:=fun w:ar×ar=>fQ w.1/\fQ w.2/\w.1.length<=900000/\w.2.length<=900000/\Int.gcd (V w.1) (V w.2)=Int.gcd (V a) (V b)) (m:=fun w:ar×ar=>(V w.2).toNat) _ ?_ _ ⟨bG,aU,aV,hm,rfl⟩;rintro⟨x,y⟩ ⟨h1,h2,R,ah,ax⟩;simp only at h1 h2 R ah ax ⊢;have jY:=mg h1.1;have qj:=mg h2.1;by_cases aZ:y=[]
  ·subst aZ;refine .inr ⟨x,by simp[AH,fU],?_⟩;rw[<- ax,Ch,Ib jY];exact(vK h1).symm
  ·have NS:=tB h2 aZ
   have aif:=List.length_pos_iff.mpr aZ;have w4:=Int.emod_nonneg (V x) (b:=V y) (by omega);have aih:=Int.emod_lt_of_pos (V x) NS;refine .inl ⟨(y,L (V x % V y)),?_,⟨h2,ix _,ah,(hH w4).2 ?_,?_⟩,?_⟩
   ·unfold AH;simp only[fU];rw[dw (by simp;omega),Ic h1 h2 aZ R ah];rfl
   ·have:=ol h2.1;have:=sK ah;omega
   ·simp only;rw[eo w4,<- ax];exact LY jY
   ·simp only;rw[eo w4];omega
 obtain⟨r,ai,rfl⟩:=this;unfold Br Rm;rw[ai];rfl
def gC (n:Int):bx:=⟨decide (n<0),L n.natAbs⟩
def eK (neg:Bool)(a:Int):Int:=if neg then -a else a
def mk (p:Int×Int):aE:=⟨gC p.1,L p.2⟩
def l9 (p:Int×Int):eY:=⟨gC p.1,L p.2⟩
def zj:aE:=⟨⟨false,[]⟩,[]⟩
def enc:Option (Int×Int)->aE
 | none=>zj
 | some p=>mk p
def ahm (x:Option (Int×Int)):Option eY:=x.map l9
structure Fr (p:Int×Int):Prop where
 pos:0<p.2
 NY:Int.gcd p.1 p.2=1
 num:(p.1.natAbs:Int)<B 24
 den:p.2<B 24
theorem BN {n:Int}:(gC n).b9=L n.natAbs:=rfl
theorem Et {n:Int}:(gC n).cz=decide (n<0):=rfl
theorem Tm {n:Int}(h:0<=n):decide ((0:Int)<((L n).length:Nat))=decide (0<n):=by
 apply decide_eq_decide.2;by_cases h1:0<n
 ·have:(L n)≠[]:=fun h2=>(by have:=sT.1 h2;omega);have:=List.length_pos_iff.mpr this;omega
 ·have:n=0:=(by omega);subst this;simp[qv]
theorem Cr {n:Int}(h:0<=n):(((L n).length:Nat):Int)=0↔n=0:=by
 constructor
 ·intro h1;have:L n=[]:=List.eq_nil_of_length_eq_zero (by omega);have:=sT.1 this;omega
 ·rintro rfl;simp[qv]
theorem B5 {neg:Bool}{a:Int}(h:0<=a):((eK neg a).natAbs:Int)=a:=by unfold eK;cases neg<;>simp<;>omega
theorem Uv {neg:Bool}{a:Int}(h:0<=a):(⟨neg && decide (0<a),L a⟩:bx)=gC (eK neg a):=by
 unfold gC;rw[B5 h];congr 1;unfold eK;cases neg
 ·simp;omega
 ·simp
theorem afZ {a:Int}(h:0<=a)(qS:a<B 60):Bs (L a)=some (L a):=by have aS:=(hH h).2 qS;unfold Bs;rw[uh (hK _) (by omega),eo h];simp only[dC,dA,fU];rw[dz (by simp;omega)]
theorem sG {neg:Bool}{a:Int}(h:0<=a)(qS:a<B 60):jb neg (L a)=some (gC (eK neg a)):=by
 have aS:=(hH h).2 qS;unfold jb;rw[afZ h qS];simp only[dC,dA,fU,List.nil_append];have a2:(L a).length*8<=140737488355328:=by omega
 rw[<- Uv h,<- Tm h];cases neg<;>simp[a2]
theorem sF {neg:Bool}{a:Int}(h:0<=a):mR neg (L a)=some (gC (eK neg a)):=by unfold mR;rw[<- Uv h,fU,Tm h];cases neg<;>simp
theorem U8 {a b:Int}:eK (!(decide (a<0) == decide (b<0))) ((a.natAbs:Int)*(b.natAbs:Int))=a*b:=by
 unfold eK;by_cases bG:a<0
 ·have e1:(a.natAbs:Int) = -a:=by omega
  by_cases aU:b<0
  ·have e2:(b.natAbs:Int) = -b:=(by omega);rw[e1,e2];simp[bG,aU,Int.neg_mul,Int.mul_neg]
  ·have e2:(b.natAbs:Int)=b:=(by omega);rw[e1,e2];simp[bG,aU,Int.neg_mul,Int.mul_neg]
 ·have e1:(a.natAbs:Int)=a:=by omega
  by_cases aU:b<0
  ·have e2:(b.natAbs:Int) = -b:=(by omega);rw[e1,e2];simp[bG,aU,Int.neg_mul,Int.mul_neg]
  ·have e2:(b.natAbs:Int)=b:=(by omega);rw[e1,e2];simp[bG,aU,Int.neg_mul,Int.mul_neg]
theorem BW {a b:Int}:eK (decide (a<0)) ((a.natAbs:Int)*b)=a*b:=by
 unfold eK;by_cases bG:a<0
 ·have e1:(a.natAbs:Int) = -a:=(by omega);rw[e1];simp[bG,Int.neg_mul,Int.mul_neg]
 ·have e1:(a.natAbs:Int)=a:=(by omega);rw[e1];simp[bG,Int.neg_mul,Int.mul_neg]
theorem TV {a c:Int}:lx (-c) (-a)=lx a c:=by
 unfold lx;by_cases h:a<c
 ·have : -c < -a:=(by omega);simp[h,this]
 ·by_cases h2:c<a
  ·have R : ¬ -c < -a:=(by omega);have ah : -a < -c:=(by omega);simp[h,h2,R,ah]
  ·have R : ¬ -c < -a:=(by omega);have ah : ¬ -a < -c:=(by omega);simp[h,h2,R,ah]
theorem adH {a c:Int}(bG:(L a.natAbs).length<=5000000)(a2:(L c.natAbs).length<=5000000):D6 (gC a) (gC c)=some (lx a c):=by
 unfold D6;simp only[Et,BN,decide_eq_true_eq];by_cases h1:a<0
 ·by_cases h2:c<0
  ·rw[dw h1,dw h2,vo (ix _) (ix _) a2,eo (by omega),eo (by omega),show (c.natAbs:Int) = -c by omega,show (a.natAbs:Int) = -a by omega,TV];rfl
  ·rw[dw h1,dz h2];unfold lx;rw[dw (by omega)]
 ·by_cases h2:c<0
  ·rw[dz h1,dw h2];unfold lx;rw[dz (by omega),dw (by omega)]
  ·rw[dz h1,dz h2,vo (ix _) (ix _) bG,eo (by omega),eo (by omega)];show some (lx _ _)=_;congr 2<;>omega
theorem QM {a c:Int}(bG:(L a.natAbs).length<=5000000)(a2:(L c.natAbs).length<=5000000):tZ (gC a) (gC c)=some (lx a c):=by
 have bJ:tZ (gC a) (gC c)=if (decide (a<0) == decide (c<0))=true then (if decide (a<0)=true then (rK (L c.natAbs) (L a.natAbs)).bind (fun r=>some r) else (rK (L a.natAbs) (L c.natAbs)).bind (fun r=>some r)) else if decide (a<0)=true then some (-1) else some 1:=rfl;rw[bJ,abU];by_cases h1:a<0
 ·by_cases h2:c<0
  ·rw[dw (by simp[h1,h2]),dw (by simpa using h1),vo (ix _) (ix _) a2,eo (by omega),eo (by omega),show (c.natAbs:Int) = -c by omega,show (a.natAbs:Int) = -a by omega,TV];rfl
  ·rw[dz (by simp[h1,h2]),dw (by simpa using h1)];unfold lx;rw[dw (by omega)]
 ·by_cases h2:c<0
  ·rw[dz (by simp[h1,h2]),dz (by simpa using h1)];unfold lx;rw[dz (by omega),dw (by omega)]
  ·rw[dw (by simp[h1,h2]),dz (by simpa using h1),vo (ix _) (ix _) bG,eo (by omega),eo (by omega),show (c.natAbs:Int)=c by omega,show (a.natAbs:Int)=a by omega];rfl
def fits (x:Int):Prop:=x<B 24
noncomputable instance (x:Int):Decidable (fits x):=Classical.propDecidable _
noncomputable def low (n d:Int):Option (Int×Int) :=
 if fits ((n / (Int.gcd n d:Int)).natAbs:Int)/\fits (d / (Int.gcd n d:Int)) then some (n / (Int.gcd n d:Int),d / (Int.gcd n d:Int)) else none
theorem EC {n d:Int}(h:0<d):(0:Int)<Int.gcd n d:=by
 have:Int.gcd n d≠0:=by rw[Ne,Int.gcd_eq_zero_iff];omega
 omega
theorem Uw {n d:Int}(h:0<d): ∃m e,n / (Int.gcd n d:Int)=m/\d / (Int.gcd n d:Int)=e/\n=Int.gcd n d*m/\d=Int.gcd n d*e/\0<e/\(n.natAbs:Int) / (Int.gcd n d:Int)=m.natAbs:=by
 have dt:=EC (n:=n) h;obtain⟨m,hm⟩:=Int.gcd_dvd_left (a:=n) (b:=d);obtain⟨e,he⟩:=Int.gcd_dvd_right (a:=n) (b:=d);refine⟨m,e,?_,?_,hm,he,?_,?_⟩
 ·conv=>lhs;lhs;rw[hm]
  exact Int.mul_ediv_cancel_left _ (by omega)
 ·conv=>lhs;lhs;rw[he]
  exact Int.mul_ediv_cancel_left _ (by omega)
 ·apply Int.not_le.mp;intro h1;have:(Int.gcd n d:Int)*e<=Int.gcd n d*0:=dK h1 (by omega);omega
 ·have e1:(n.natAbs:Int)=Int.gcd n d*m.natAbs:=by
   conv=>lhs;rw[hm]
   rw[Int.natAbs_mul];simp
  rw[e1];exact Int.mul_ediv_cancel_left _ (by omega)
theorem B6 {a:Int}(h:0<=a):tj (L a)=some (decide (a=1)):=by
 unfold tj;simp only[fU];by_cases h1:(L a).length=1
 ·have h2:=(hH (k:=1) h).1 (by omega);have R:0<a:=(by apply Int.not_le.mp;intro ah;rw[Vu ah] at h1;simp at h1);have ax:a<1000000000:=(by simpa [B] using h2);rw[H6 ⟨R,ax⟩];by_cases aQ:a=1<;>simp[aQ]
 ·rw[dz (by simp;omega)];have:a≠1:=(by rintro rfl;rw[H6 (by omega)] at h1;simp at h1);simp[this]
theorem Ie {n d:Int}(h:0<=d):Int.gcd (n.natAbs:Int) d=Int.gcd n d:=by simp[Int.gcd]
theorem My:B 24<=B 60:=sK (by omega)
theorem LH {neg:Bool}{m e:Int}(hm:0<=m)(he:0<=e):(if (decide ((24:Int)<((L m).length:Nat)))=true then some zj else if (decide ((24:Int)<((L e).length:Nat)))=true then some zj else jb neg (L m) >>= fun r=>if (([]:ar)++L e).length*8<=140737488355328 then some (⟨r,([]:ar)++L e⟩:aE) else none) =
 some (enc (if fits m/\fits e then some (eK neg m,e) else none)):=by
 by_cases h1:fits m
 ·have h2:=(hH hm).2 h1
  rw[dz (by simp;omega)];by_cases R:fits e
  ·have ah:=(hH he).2 R;have:=My;unfold fits at h1;rw[dz (by simp;omega),sG hm (by omega),dw ⟨h1,R⟩];simp only[dC,dA];rw[dw (by simp;omega)];rfl
  ·have ah : ¬(L e).length<=24:=fun h=>R ((hH he).1 h);rw[dw (by simp;omega),dz (fun h=>R h.2)];rfl
 ·have ah : ¬(L m).length<=24:=fun h=>h1 ((hH hm).1 h);rw[dw (by simp;omega),dz (fun h=>h1 h.1)];rfl
theorem U9 {neg:Bool}{p m g:Int}(ag:0<=p)(dt:0<g)(hm:eK neg p=g*m):eK neg (m.natAbs:Int)=m:=by
 unfold eK at hm ⊢;cases neg
 ·simp at hm ⊢;have:0<=m:=(by apply Int.not_lt.mp;intro h1;have:g*m<=g*(-1):=dK (by omega) (by omega);omega);omega
 ·simp at hm ⊢;have:m<=0:=(by apply Int.not_lt.mp;intro h1;have:g*1<=g*m:=dK (by omega) (by omega);omega);omega
theorem LI {neg:Bool}{p q:Int}(ag:0<=p)(a4:0<q)(NZ:(L p).length<=900000)(sk:(L q).length<=900000):pS neg (L p) (L q)=some (enc (low (eK neg p) q)):=by
 obtain⟨m,e,h1,h2,R,ah,ax,aQ⟩:=Uw (n:=eK neg p) a4;have se:=U9 ag (EC (n:=eK neg p) a4) R;rw[B5 ag] at aQ;have dt:Int.gcd p q=Int.gcd (eK neg p) q:=by rw[<- Ie (n:=eK neg p) (by omega),B5 ag]
 have ak9:=EC (n:=eK neg p) a4;unfold pS;rw[uh (hK _) (by omega),eo ag];simp only[dC,dA];rw[uh (hK _) (by omega),eo (by omega)];simp only[dA,fU];have nk : ¬((((L q).length:Nat):Int) == 0)=true:=by simp only[beq_iff_eq];intro h;have:=(Cr (n:=q) (by omega)).1 h;omega
 rw[dz nk,B6 (by omega)];simp only[dA];have yV:low (eK neg p) q=if fits (m.natAbs:Int)/\fits e then some (eK neg (m.natAbs:Int),e) else none:=by unfold low;rw[h1,h2,se]
 have Vx:Int.gcd (eK neg p) q=1->(m.natAbs:Int)=p/\e=q:=by intro hu;rw[hu] at h2 aQ;simp at h2 aQ;omega
 by_cases p8:q=1
 ·have hu:Int.gcd (eK neg p) q=1:=(by rw[p8];simp);obtain⟨jR,mb⟩:=Vx hu;rw[dw (by simpa using p8),yV,jR,mb];exact LH ag (by omega)
 ·rw[dz (by simpa using p8),Mv (ix _) (ix _) NZ sk,eo ag,eo (by omega)]
  simp only[dA];rw[B6 (by omega)];simp only[dA];by_cases hu:Int.gcd p q=1
  ·obtain⟨jR,mb⟩:=Vx (by omega);rw[dw (by simp;omega),yV,jR,mb];exact LH ag (by omega)
  ·rw[dz (by simp;omega)];have zk:(L (Int.gcd p q)).length<=900000:=(by have a7:(Int.gcd p q:Int)<=q:=(by rw[dt];have:(Int.gcd (eK neg p) q:Int)*1<=Int.gcd (eK neg p) q*e:=dK (by omega) (by omega);omega);apply (hH (by omega)).2;have:=(hH (n:=q) (by omega)).1 sk;omega);have Gu:L (Int.gcd p q)≠[]:=fun h=>(by have:=sT.1 h;omega);rw[div_eq (ix _) (ix _) Gu NZ zk,eo ag,eo (by omega)];simp only[dA];rw[div_eq (ix _) (ix _) Gu sk zk,eo (by omega),eo (by omega)];simp only[dA];rw[dt,aQ,h2,yV];exact LH (by omega) (by omega)
theorem agJ {neg:Bool}{a:Int}(h:0<=a)(h2:neg=true->0<a):decide (eK neg a<0)=neg:=by
 unfold eK;cases neg
 ·simp;omega
 ·have:=h2 rfl;simp;omega
theorem Ux {neg:Bool}{l:ar}(aS:fQ l)(h2:neg=true->l≠[]):(⟨neg,l⟩:bx)=gC (eK neg (V l)):=by have h:=mg aS.1;unfold gC;rw[B5 h,vK aS,agJ h (fun aV=>tB aS (h2 aV))]
theorem abz {x:bx}(hm:(x.b9.length:Int)<9223372036854775807): ∃ok,xM x=some ok/\DR x=some ok/\(ok=true↔ ∃n,x=gC n/\(L n.natAbs).length<=60):=by
 obtain⟨o,h1,h2,R⟩:=SO hm;unfold xM DR;rw[h1,h2];simp only[dC,dA,fU];obtain⟨neg,Gv⟩:=x;simp only at R ⊢
 have kN:decide ((0:Int)<(Gv.length:Nat)) = !((((Gv.length:Nat):Int) == 0)):=by
  by_cases h:Gv=[]
  ·subst h;rfl
  ·have:=List.length_pos_iff.mpr h
   rw[decide_eq_true (by omega)]
   symm
   simp;omega
 by_cases an:o=true
 ·obtain⟨ah,ax⟩:=R.1 an
  subst an;cases neg
  ·refine⟨true,rfl,rfl,?_⟩;simp only[true_iff];refine⟨_,Ux ah (fun h=>by simp at h),?_⟩;rw[B5 (mg ah.1),vK ah];exact ax
  ·refine⟨decide ((0:Int)<(Gv.length:Nat)),rfl,by rw[kN];rfl,?_⟩
   rw[decide_eq_true_iff];constructor
   ·intro ag;refine⟨_,Ux ah (fun _ h=>by subst h;simp at ag),?_⟩;rw[B5 (mg ah.1),vK ah];exact ax
   ·rintro⟨n,aV,-⟩;have e1:=congrArg bx.cz aV;have e2:=congrArg bx.b9 aV;simp only[Et,BN] at e1 e2;have bM:n<0:=(by simpa using e1.symm);have:Gv≠[]:=(by rw[e2];intro h;have:=sT.1 h;omega);have:=List.length_pos_iff.mpr this;omega
 ·refine⟨false,by simp[an],by simp[an],?_⟩;simp only[Bool.false_eq_true,false_iff];rintro⟨n,aV,qS⟩;have e2:=congrArg bx.b9 aV;simp only[BN] at e2;exact an (R.2 (e2▸⟨ix _,qS⟩))
theorem Lw {r:aE}(hm:r.dn.b9.length<=2000000)(bF:r.eM.length<=2000000): ∃ok,q8 r=some ok/\BB r=some ok/\(ok=true↔ ∃p,Fr p/\r=mk p):=by
 obtain⟨bO,gM,gX,bB⟩:=abz (x:=r.dn) (by omega);obtain⟨aN,iX,j6,td⟩:=SO (a:=r.eM) (by omega);unfold q8 BB;rw[gM,gX];simp only[dC,dA,fU];by_cases h1:bO=true
 ·rw[dw h1,dw h1,iX,j6]
  simp only[dA];by_cases h2:aN=true
  ·rw[dw h2,dw h2]
   obtain⟨n,aV,akC⟩:=bB.1 h1;obtain⟨tb,akD⟩:=td.1 h2;have w3:=mg tb.1;have WT:r.eM=L (V r.eM):=(vK tb).symm;have Gr:r.dn.b9=L n.natAbs:=(by rw[aV];rfl);by_cases R:r.eM=[]
   ·rw[dw (by simp[R]),dw (by simp[R])];refine⟨false,rfl,rfl,?_⟩;simp only[Bool.false_eq_true,false_iff];rintro⟨p,ag,ai⟩;have e:r.eM=L p.2:=(by rw[ai];rfl);rw[R] at e;have:=sT.1 e.symm;have:=ag.pos;omega
   ·have Jt:=tB tb R
    have NZ:=List.length_pos_iff.mpr R;have s4 : ¬((((r.eM.length:Nat):Int) == 0)=true):=(by simp[R]);rw[dz s4,dz s4];by_cases ah:24<r.eM.length
    ·rw[dw (by simp;omega)]
     have hq : ¬∃p,Fr p/\r=mk p:=(by rintro⟨p,ag,ai⟩;have e:r.eM=L p.2:=(by rw[ai];rfl);have:=(hH (k:=24) (by have:=ag.pos;omega)).2 ag.den;rw[<- e] at this;omega);refine⟨false,rfl,?_,by simp[hq]⟩;by_cases ax:24<r.dn.b9.length
     ·rw[dw (by simp;omega)]
     ·rw[dz (by simp;omega),dw (by simp;omega)]
    ·rw[dz (by simp;omega)]
     by_cases ax:24<r.dn.b9.length
     ·rw[dw (by simp;omega),dw (by simp;omega)];refine⟨false,rfl,rfl,?_⟩;simp only[Bool.false_eq_true,false_iff];rintro⟨p,ag,ai⟩;have e:r.dn.b9=L p.1.natAbs:=(by rw[ai];rfl);have:=(hH (k:=24) (by omega)).2 ag.num;rw[<- e] at this;omega
     ·rw[dz (by simp;omega),dz (by simp;omega),dz (by simp;omega)]
      rw[Gr] at ax ⊢;rw[Mv (ix _) tb (by omega) (by omega),SQ (ix _) tb (by omega) (by omega),eo (by omega),Ie w3];simp only[dA];have dt:=EC (n:=n) Jt;have aiA:fQ [1]:=fQ.one (by omega);have zk:(L (Int.gcd n (V r.eM))).length<=5000000:=(by have a7:(Int.gcd n (V r.eM):Int)<=V r.eM:=Int.le_of_dvd Jt (Int.gcd_dvd_right ..);have:=(hH (k:=24) (by omega)).2 (show (Int.gcd n (V r.eM):Int)<B 24 by have:=(tb.len (k:=24)).1 (by omega);omega);omega);rw[B6 (by omega),Hy (ix _) aiA zk,eo (by omega)];have tR:V [1]=1:=(by decide);rw[tR];simp only[dA];refine⟨decide ((Int.gcd n (V r.eM):Int)=1),rfl,?_,?_⟩
      ·congr 1;rw[Bool.eq_iff_iff];simp[LG]
      ·rw[decide_eq_true_iff]
       constructor
       ·intro hu;refine⟨(n,V r.eM),⟨Jt,by simp only;omega,(hH (by omega)).1 (by simp only;omega),(tb.len).1 (by omega)⟩,?_⟩;obtain⟨num,den⟩:=r;simp only at aV WT ⊢;unfold mk;simp only;rw[<- WT,<- aV]
       ·rintro⟨p,ag,ai⟩
        have e:r.eM=L p.2:=(by rw[ai];rfl);have e2:r.dn=gC p.1:=(by rw[ai];rfl);have bM:V r.eM=p.2:=by rw[e,eo (by have:=ag.pos;omega)]
        have db:n=p.1:=by
         rw[aV] at e2;have f1:=congrArg bx.cz e2;have f2:=congrArg bx.b9 e2;simp only[Et,BN] at f1 f2;have f3:=congrArg V f2;rw[eo (by omega),eo (by omega)] at f3
         have f4:n<0↔p.1<0:=by
          constructor
          ·intro h;simpa [h] using f1.symm
          ·intro h;simpa [h] using f1
         omega
        rw[bM,db,ag.NY];rfl
  ·refine⟨false,by simp[h2],by simp[h2],?_⟩;simp only[Bool.false_eq_true,false_iff];rintro⟨p,ag,ai⟩;have e:r.eM=L p.2:=(by rw[ai];rfl);have:=(hH (k:=24) (by have:=ag.pos;omega)).2 ag.den;exact h2 (td.2 (e▸⟨ix _,by omega⟩))
 ·refine⟨false,by simp[h1],by simp[h1],?_⟩;simp only[Bool.false_eq_true,false_iff];rintro⟨p,ag,ai⟩;have e2:r.dn=gC p.1:=(by rw[ai];rfl);have:=(hH (k:=24) (n:=p.1.natAbs) (by omega)).2 ag.num;exact h1 (bB.2 ⟨p.1,e2,by omega⟩)
def WU (x:Option (Int×Int)):Prop:= ∀p,x=some p->Fr p
theorem Fr.oY {p:Int×Int}(h:Fr p):(L p.1.natAbs).length<=24:=(hH (by omega)).2 h.num
theorem Fr.oq {p:Int×Int}(h:Fr p):(L p.2).length<=24:=(hH (by have:=h.pos;omega)).2 h.den
theorem af0:q8 zj=some false:=by
 obtain⟨o,R,-,ah⟩:=Lw (r:=zj) (by simp[zj]) (by simp[zj]);rw[R];congr 1
 cases o with
 | false=>rfl
 | true =>
  obtain⟨p,ag,ai⟩:=ah.1 rfl;have e:[]=L p.2:=congrArg aE.eM ai;have:=sT.1 e.symm;have:=ag.pos;omega
theorem af1 {x:Option (Int×Int)}(h:WU x):q8 (enc x)=some x.isSome:=by
 cases x with
 | none=>exact af0
 | some p =>
  have ag:=h p rfl;have h1:=ag.oY;have h2:=ag.oq;obtain⟨o,R,-,ah⟩:=Lw (r:=mk p) (show (L p.1.natAbs).length<=_ by omega) (show (L p.2).length<=_ by omega);have:o=true:=ah.2 ⟨p,ag,rfl⟩;subst this;exact R
theorem agK (m n:Nat):B m*B n=B (m+n):=(E5 m n).symm
theorem uq {x y:Int}{m n:Nat}(ab:0<=x)(aZ:0<=y)(h1:x<B m)(h2:y<B n):(L (x*y)).length<=m+n:=by
 apply (hH (Int.mul_nonneg ab aZ)).2;rw[<- agK];have R:x*y<=(B m-1)*(B n-1):=Int.mul_le_mul (by omega) (by omega) aZ (by omega);have ah:(B m-1)*(B n-1)=B m*B n-B m-B n+1:=by grind
 have ax:=pk m;have aQ:=pk n;omega
theorem acV (r s:aE){a b:Int}(bG:0<=a)(aU:0<b)(h1:i4 r.dn.b9 s.dn.b9=some (L a))(h2:i4 r.eM s.eM=some (L b))(R:(L a).length<=900000)(ah:(L b).length<=900000):va r s=some (enc (low (eK (!(r.dn.cz == s.dn.cz)) a) b)):=by unfold va;rw[h1];simp only[dC,dA];rw[h2];simp only[dA];rw[LI bG aU R ah];simp only[dA]
theorem adI {p q:Int×Int}(ag:Fr p)(a4:Fr q):va (mk p) (mk q)=some (enc (low (p.1*q.1) (p.2*q.2))):=by
 have h1:=ag.oY;have h2:=ag.oq;have R:=a4.oY;have ah:=a4.oq;have ax:=ag.pos;have aQ:=a4.pos;have a7:=uq (x:=p.1.natAbs) (y:=q.1.natAbs) (by omega) (by omega) ag.num a4.num;have bb:=uq (x:=p.2) (y:=q.2) (by omega) (by omega) ag.den a4.den;have e1:i4 (L p.1.natAbs) (L q.1.natAbs)=some (L ((p.1.natAbs:Int)*q.1.natAbs)):=by rw[mul_eq (hK _) (hK _) (by omega) (by omega),eo (by omega),eo (by omega)]
 have e2:i4 (L p.2) (L q.2)=some (L (p.2*q.2)):=by rw[mul_eq (hK _) (hK _) (by omega) (by omega),eo (by omega),eo (by omega)]
 have:=acV (mk p) (mk q) (a:=(p.1.natAbs:Int)*q.1.natAbs) (b:=p.2*q.2) (Int.mul_nonneg (by omega) (by omega)) (Int.mul_pos ax aQ) e1 e2 (by omega) (by omega);rw[this];have bM:eK (!((mk p).dn.cz == (mk q).dn.cz)) ((p.1.natAbs:Int)*q.1.natAbs)=p.1*q.1:=U8;rw[bM]
theorem adJ {n d:Int}(bF:0<d)(FY:(L n.natAbs).length<=900000)(N0:(L d).length<=900000):tl (gC n) (L d)=some (some (l9 (n / (Int.gcd n d:Int),d / (Int.gcd n d:Int)))):=by
 obtain⟨m,e,h1,h2,R,ah,ax,aQ⟩:=Uw (n:=n) bF;have dt:=EC (n:=n) bF;rw[h1,h2];unfold tl;simp only[BN,Et,fU];by_cases aV:n=0
 ·subst aV;have aiB:(Int.gcd 0 d:Int)=d:=(by rw[Int.gcd_comm,Ib (by omega)]);rw[aiB] at R ah;have hm:m=0:=(by rcases Int.mul_eq_zero.1 R.symm with h|h<;>omega);have he:e=1:=(by have:d*e=d*1:=(by omega);exact Int.eq_of_mul_eq_mul_left (by omega) this);subst hm he;rw[dw (by simp[qv])];unfold l9 gC;simp only[Int.natAbs_zero];rw[H6 (x:=1) (by omega),show ((0:Nat):Int)=0 from rfl,qv];rfl
 ·have ahn : ¬((((L n.natAbs).length:Nat):Int) == 0)=true:=by
   simp only[beq_iff_eq];intro h;have:=(Cr (n:=n.natAbs) (by omega)).1 h;omega
  rw[dz ahn,SQ (ix _) (ix _) FY N0,eo (by omega),eo (by omega),Ie (by omega)];simp only[dC,dA];have zk:(L (Int.gcd n d)).length<=900000:=(by have a7:(Int.gcd n d:Int)<=d:=Int.le_of_dvd bF (Int.gcd_dvd_right ..);apply (hH (by omega)).2;have:=(hH (n:=d) (by omega)).1 N0;omega);rw[Hy (ix _) (fQ.one (by omega)) (by omega),eo (by omega),show V [1]=1 by decide];simp only[dA];by_cases hu:(Int.gcd n d:Int)=1
  ·rw[dw (by simpa using LG.2 hu)];rw[hu] at R ah;rw[Int.one_mul] at R ah;subst R ah;rfl
  ·rw[dz (fun h=>hu (LG.1 (by simpa using h)))];have Gu:L (Int.gcd n d)≠[]:=fun h=>(by have:=sT.1 h;omega);rw[Ic (ix _) (ix _) Gu FY zk,eo (by omega),eo (by omega)];simp only[dA];rw[Ic (ix _) (ix _) Gu N0 zk,eo (by omega),eo (by omega)];simp only[dA];rw[aQ,h2,sF (by omega)];simp only[dA];have bJ:eK (decide (n<0)) (m.natAbs:Int)=m:=(by refine U9 (p:=n.natAbs) (g:=Int.gcd n d) (by omega) dt ?_;rw[<- R];unfold eK;by_cases h:n<0<;>simp[h]<;>omega);rw[bJ];rfl
theorem af2 {m e:Int}(he:0<=e):wo (some (l9 (m,e)))=some (ahm (if fits (m.natAbs:Int)/\fits e then some (m,e) else none)):=by
 have bJ:wo (some (l9 (m,e)))=if (decide ((24:Int)<len_ eI (L m.natAbs)))=true then some none else if (decide ((24:Int)<len_ eI (L e)))=true then some none else some (some (l9 (m,e))):=rfl;rw[bJ,fU,fU];by_cases h1:fits (m.natAbs:Int)
 ·have h2:=(hH (by omega)).2 h1
  rw[dz (by simp;omega)];by_cases R:fits e
  ·have ah:=(hH he).2 R;rw[dz (by simp;omega),dw ⟨h1,R⟩];rfl
  ·have ah : ¬(L e).length<=24:=fun h=>R ((hH he).1 h);rw[dw (by simp;omega),dz (fun h=>R h.2)];rfl
 ·have ah : ¬(L m.natAbs).length<=24:=fun h=>h1 ((hH (by omega)).1 h);rw[dw (by simp;omega),dz (fun h=>h1 h.1)];rfl
theorem Tn {a b:Int}(bG:(L a.natAbs).length<=900000)(aU:(L b.natAbs).length<=900000):qn (gC a) (gC b)=some (gC (a*b)):=by unfold qn;simp only[BN,Et];rw[HT (hK _) (hK _) (by omega) (by omega),eo (by omega),eo (by omega)];simp only[dC,dA];rw[sF (Int.mul_nonneg (by omega) (by omega)),U8];rfl
theorem Uy:(1000000000000000000000000000:Int)<=B 24:=by
 have h:B 3<=B 24:=sK (by omega);have R:B 3=1000000000000000000000000000:=by decide
 omega
theorem afn:(1000000000000000000000000000:Int)<=B 60:=by have:=My;have:=Uy;omega
theorem aci {n:Int}(h:m2 n):DI n=some (gC n):=by
 obtain⟨h1,h2⟩:=k7.1 h;have aU:=afn;unfold DI;by_cases hm:n = -9223372036854775808
 ·rw[dw (by simpa using hm)];have e:([854775808,223372036,9]:ar)=L 9223372036854775808:=wL ⟨by intro x ab;simp at ab;omega,by simp⟩ (by decide);rw[e,sG (by omega) (by omega)];subst hm;rfl
 ·rw[dz (by simpa using hm)]
  by_cases aV:n<0
  ·rw[dw (by simpa using aV),cT (by omega) (by omega),BM (by omega) (by omega)];simp only[dC,dA];rw[sG (by omega) (by omega)];simp only[dA];congr 2;unfold eK;simp
  ·rw[dz (by simpa using aV),BM (by omega) (by omega)];simp only[dC,dA];rw[sG (by omega) (by omega)];simp only[dA];congr 2
theorem SR {n:Int}(h:m2 n):pR n=some (gC n):=by
 obtain⟨h1,h2⟩:=k7.1 h;unfold pR;by_cases aV:n<0
 ·rw[dw (by simpa using aV),cT (x:=n+1) (by omega) (by omega),cT (x:=0-(n+1)) (by omega) (by omega),Fa (x:=0-(n+1)) (by omega) (by omega),Fa (by omega) (by omega),Lu (by omega) (by omega)];simp only[dC,dA];rw[sF (by omega)];simp only[dA];congr 2;unfold eK;simp;omega
 ·rw[dz (by simpa using aV),Fa (by omega) (by omega),Lu (by omega) (by omega)];simp only[dC,dA];rw[sF (by omega)];simp only[dA];congr 2
theorem MN:L 1=[1]:=H6 (by omega)
theorem abA {n:Int}(h:m2 n):ob n=some (mk (n,1)):=by unfold ob;rw[aci h];simp only[dC,dA,mk,MN]
theorem aeI {n:Int}(h:m2 n):vd n=some (some (l9 (n,1))):=by unfold vd;rw[SR h];simp only[dC,dA,l9,MN]
theorem af3 {n:Int}(h:m2 n):Fr (n,1):=by obtain⟨h1,h2⟩:=k7.1 h;have aU:=Uy;exact⟨by simp,by simp,by simp only;omega,by simp only;omega⟩
theorem adK {p q:Int×Int}(ag:Fr p)(a4:Fr q):xU (mk p) (mk q)=some (lx (p.1*q.2) (q.1*p.2)):=by
 have h1:=ag.oY;have h2:=ag.oq;have R:=a4.oY;have ah:=a4.oq;have ax:=ag.pos;have aQ:=a4.pos;have a7:=uq (x:=p.1.natAbs) (y:=q.2) (by omega) (by omega) ag.num a4.den;have bb:=uq (x:=q.1.natAbs) (y:=p.2) (by omega) (by omega) a4.num ag.den;have zA:0<=(p.1.natAbs:Int)*q.2:=Int.mul_nonneg (by omega) (by omega);have Xq:0<=(q.1.natAbs:Int)*p.2:=Int.mul_nonneg (by omega) (by omega);have pI:((p.1*q.2).natAbs:Int)=(p.1.natAbs:Int)*q.2:=by rw[Int.natAbs_mul,Int.natCast_mul];congr 1;omega
 have nM:((q.1*p.2).natAbs:Int)=(q.1.natAbs:Int)*p.2:=by rw[Int.natAbs_mul,Int.natCast_mul];congr 1;omega
 have e1:i4 (mk p).dn.b9 (mk q).eM=some (L ((p.1.natAbs:Int)*q.2)):=by show i4 (L p.1.natAbs) (L q.2)=_;rw[mul_eq (hK _) (hK _) (by omega) (by omega),eo (by omega),eo (by omega)]
 have e2:i4 (mk q).dn.b9 (mk p).eM=some (L ((q.1.natAbs:Int)*p.2)):=by show i4 (L q.1.natAbs) (L p.2)=_;rw[mul_eq (hK _) (hK _) (by omega) (by omega),eo (by omega),eo (by omega)]
 have bM:jb (mk p).dn.cz (L ((p.1.natAbs:Int)*q.2))=some (gC (p.1*q.2)):=by show jb (decide (p.1<0)) _=_;rw[sG zA ((hH zA).1 (by omega)),BW]
 have db:jb (mk q).dn.cz (L ((q.1.natAbs:Int)*p.2))=some (gC (q.1*p.2)):=by show jb (decide (q.1<0)) _=_;rw[sG Xq ((hH Xq).1 (by omega)),BW]
 unfold xU;rw[e1,dC,dA,bM,dC,dA,e2,dC,dA,db,dA,adH (by rw[pI];omega) (by rw[nM];omega)];rfl
theorem HI {p:Int×Int}{d:Int}(bF:0<=d)(h1:(L p.1.natAbs).length<=900000)(h2:(L d).length<=900000):sw (some (l9 p)) (L d)=some (gC (p.1*d)):=by
 have e1:sD (l9 p).r7.b9 (L d)=some (L ((p.1.natAbs:Int)*d)):=by show sD (L p.1.natAbs) (L d)=_;rw[HT (hK _) (hK _) (by omega) (by omega),eo (by omega),eo (by omega)]
 have zA:0<=(p.1.natAbs:Int)*d:=Int.mul_nonneg (by omega) (by omega);have bM:mR (l9 p).r7.cz (L ((p.1.natAbs:Int)*d))=some (gC (p.1*d)):=by show mR (decide (p.1<0)) _=_;rw[sF zA,BW]
 unfold sw;rw[dC,dA,e1,dC,dA,bM];rfl
theorem ES {a d:Int}(bF:0<=d):((a*d).natAbs:Int)=(a.natAbs:Int)*d:=by rw[Int.natAbs_mul,Int.natCast_mul];congr 1;omega
theorem abV {p q:Int×Int}{i j k l:Nat}(ag:0<p.2)(a4:0<q.2)(h1:(p.1.natAbs:Int)<B i)(h2:p.2<B j)(R:(q.1.natAbs:Int)<B k)(ah:q.2<B l)(ad:i<=1000)(au:j<=1000)(aX:k<=1000)(aS:l<=1000):Bg (some (l9 p)) (some (l9 q))=some (lx (p.1*q.2) (q.1*p.2)):=by have kR:=(hH (by omega)).2 h1;have kS:=(hH (by omega)).2 h2;have CY:=(hH (by omega)).2 R;have kU:=(hH (by omega)).2 ah;have a7:=uq (x:=p.1.natAbs) (y:=q.2) (by omega) (by omega) h1 ah;have bb:=uq (x:=q.1.natAbs) (y:=p.2) (by omega) (by omega) R h2;unfold Bg;rw[dC,dA];show (sw (some (l9 p)) (L q.2)).bind _=_;rw[HI (by omega) (by omega) (by omega),dA,dC,dA];show (sw (some (l9 q)) (L p.2)).bind _=_;rw[HI (by omega) (by omega) (by omega),dA,QM (by rw[ES (by omega)];omega) (by rw[ES (by omega)];omega)];rfl
theorem oQ (n bW ad:Int):mS n bW ad=some (decide (bW<=n/\n<=ad)):=by unfold mS;by_cases h:bW<=n<;>simp[h]
theorem HJ {α β:Type}{t:Nat->α->Option β}: ∀(l:List α) (k:Nat),(∀n x,l[n]? = some x->t (k+n) x=none)->scan t k l=none
 | [],_,_=>rfl
 | x::l,k,h=>by have h0:=h 0 x rfl;simp only[Nat.add_zero] at h0;simp only[scan,h0];exact HJ l (k+1) fun n y aZ=>by rw[show k+1+n=k+(n+1) by omega];exact h (n+1) y (by simpa using aZ)
theorem acj (l:ar)(h:l.length<=1048576):Ed l l=some true:=by
 have h1:RM l l 0=some (.inl ()):=by have:=HF (f:=fun w=>AX l l w) (t:=fun _ _=>none) (e:= .inl ()) l 0 (fun n x ab=>by have aV:=gF ab;have hw:U ((n:Int)+1)=((n+1:Nat):Int):=(by rw[cT (by omega) (by omega)];rfl);simp only[AX,fH,dG,hw];simp[aV]) (by simp[AX,fH]);rw[HJ l 0 (fun _ _ _=>rfl)] at this;exact this
 simp[Ed,h1]
theorem abW (j:cV):D3 j j=some true:=by simp[D3]
theorem abB (j:dg):DT j j=some true:=by simp[DT]
theorem abC (l:List cV)(h:l.length<=1048576):DS l l=some true:=by
 have h1:Q6 l l 0=some (.inl ()):=by have:=HF (f:=fun w=>Au l l w) (t:=fun _ _=>none) (e:= .inl ()) l 0 (fun n x ab=>by have aV:=gF ab;have hw:U ((n:Int)+1)=((n+1:Nat):Int):=(by rw[cT (by omega) (by omega)];rfl);simp only[Au,fH,dG,hw];simp[aV,abW]) (by simp[Au,fH]);rw[HJ l 0 (fun _ _ _=>rfl)] at this;exact this
 simp[DS,h1]
theorem abk (l:List dg)(h:l.length<=1048576):DF l l=some true:=by
 have h1:QL l l 0=some (.inl ()):=by have:=HF (f:=fun w=>Am l l w) (t:=fun _ _=>none) (e:= .inl ()) l 0 (fun n x ab=>by have aV:=gF ab;have hw:U ((n:Int)+1)=((n+1:Nat):Int):=(by rw[cT (by omega) (by omega)];rfl);simp only[Am,fH,dG,hw];simp[aV,abB]) (by simp[Am,fH]);rw[HJ l 0 (fun _ _ _=>rfl)] at this;exact this
 simp[DF,h1]
theorem aaE (s:dc)(h1:s.ca.length<=1048576)(h2:s.bI.length<=1048576):Ds s s=some true:=by simp[Ds,abC _ h1,abk _ h2]
theorem abX (j:cV)(left:Int)(au:j.mD.size<=maxLen)(h0:0<=left)(h1:left<=1048576): ∃r,DV j left=some r/\r<=left:=by
 have hm:j.mD.size<9223372036854775808:=by have:maxLen=9223372036854775807:=by decide
                                           omega
 have hw:U (left-j.mD.size)=left-j.mD.size:=cT (by omega) (by omega);unfold DV;rw[hw];by_cases h:left-(j.mD.size:Int)<0
 ·exact⟨-1,by simp[h],by omega⟩
 ·exact⟨left-j.mD.size,by simp[h],by omega⟩
theorem abD (l:List cV)(left:Int)(aS:l.length<=maxLen)(au:∀j∈l,j.mD.size<=maxLen)(h0:0<=left)(h1:left<=1048576):
 ∃r,DG l left=some r/\r<=left/\(0<=r->l.length<=1048576):=by
 have hm:maxLen=9223372036854775807:=by decide
 have hw:U (left-(l.length:Nat))=left-(l.length:Nat):=cT (by omega) (by omega);unfold DG;simp only[fH,hw];by_cases h:left-(l.length:Int)<0
 ·exact⟨-1,by simp[h],by omega,by omega⟩
 ·obtain⟨r,r1,r2⟩:=kz (f:=fun w:Int×Int=>xm l w.1 w.2) (fun w=>0<=w.1/\w.1<=left/\0<=w.2/\w.2<=l.length) (fun w=>(l.length-w.2).toNat)
   (fun r=>match r with | .inl a=>a<=left | .inr _=>True) (fun w hw=>by
     obtain⟨a,i⟩:=w;simp only at hw;obtain⟨iT,pK,uP,Xr⟩:=hw;by_cases ad:i<l.length
     ·obtain⟨x,ab⟩ : ∃x,l[i.toNat]? = some x:=⟨_,dy (by omega)⟩
      obtain⟨r,s1,s2⟩:=abX x a (au x (dH ab)) iT (by omega);obtain⟨aV,rfl⟩:=List.getElem?_eq_some_iff.1 ab;have F1:U (i+1)=i+1:=cT (by omega) (by omega);by_cases ai:r<0
      ·right;exact⟨.inr (),by simp[xm,fH,ad,uP,ab,s1,ai],trivial⟩
      ·left
       refine⟨(r,i+1),by simp[xm,fH,ad,uP,ab,s1,ai,F1],?_,?_⟩
       ·simp only;omega
       ·simp only;omega
     ·right;exact⟨.inl a,by simp[xm,fH,ad],by simpa using pK⟩) (left-(l.length:Nat),0) (by simp only;omega)
  have Ju:QN l (left-(l.length:Nat)) 0=some r:=r1;rw[Ju]
  cases r with
  | inl a=>exact⟨a,by simp[h],r2,by omega⟩
  | inr a=>exact⟨-1,by simp[h],by omega,by omega⟩
theorem abl (l:List dg)(left:Int)(aS:l.length<=maxLen)(h0:0<=left)(h1:left<=1048576):
 ∃r,Dz l left=some r/\r<=left/\(0<=r->l.length<=1048576):=by
 have hm:maxLen=9223372036854775807:=by decide
 have hw:U (left-(l.length:Nat))=left-(l.length:Nat):=cT (by omega) (by omega);unfold Dz;simp only[fH,hw];by_cases h:left-(l.length:Int)<0
 ·exact⟨-1,by simp[h],by omega,by omega⟩
 ·exact⟨left-(l.length:Nat),by simp[h],by omega,by omega⟩
theorem aaF (s:dc)(i0:od s)(left:Int)(h0:0<=left)(h1:left<=1048576):
 ∃r,Dp s left=some r/\(0<=r->s.ca.length<=1048576/\s.bI.length<=1048576):=by
 obtain⟨⟨gM,gX⟩,bB,gE⟩:=i0;obtain⟨r,r1,r2,aL⟩:=abD s.ca left gM (fun j au=>(gX j au).1) h0 h1;unfold Dp;rw[r1];by_cases h:r<0
 ·exact⟨-1,by simp[h],by omega⟩
 ·obtain⟨q,q1,q2,bN⟩:=abl s.bI r bB (by omega) (by omega)
  by_cases a4:q<0
  ·exact⟨-1,by simp[h,q1,a4],by omega⟩
  ·exact⟨q,by simp[h,q1,a4],fun _=>⟨aL (by omega),bN (by omega)⟩⟩
theorem BF:maxLen=9223372036854775807:=by decide
theorem acW (n:Int):Bo n=mS n (-50) 50:=by rw[oQ];unfold Bo;by_cases h : -50<=n<;>simp[h]
theorem ack (c:Int):DP c=some (decide (97<=c/\c<=122)):=by unfold DP;by_cases h:97<=c<;>simp[h]
theorem acX (c:Int):DY c=some (decide (48<=c/\c<=57)):=by unfold DY;by_cases h:48<=c<;>simp[h]
theorem acm (s:ByteArray)(i:Int):Dj s s.size i=wa s i:=by
 unfold Dj wa;generalize ((s.data.toList.getD i.toNat 0).toNat:Int)=c;simp only[ack,acX,dC,dA]
 by_cases h1:i<(s.size:Int)<;>by_cases h0:0<=i<;>by_cases a:(97:Int)<=c<;>by_cases b:c<=122<;>by_cases d:i=0<;>by_cases e:c<48<;>by_cases f:57<c <;>
  simp[h1,h0,a,b,d,e,f,Int.not_lt.1,Int.not_le]<;>omega
theorem adL (s:ByteArray):D9 s=wg s:=by
 have h:KX s s.size 0=G7 s 0:=by unfold KX G7;congr 1;funext w;exact acm s w
 unfold D9 wg;rw[h];congr 1;funext r
 cases r with
 | inr a=>rfl
 | inl a =>
  simp only[oQ,dC,dA];by_cases h0:s.size=0
  ·have:s=⟨#[]⟩:=by
    cases s with
    | mk d=>simp only[ByteArray.size] at h0;rw[Array.size_eq_zero_iff] at h0;rw[h0]
   subst this;have e0:(ByteArray.mk #[]).size=0:=rfl;simp[e0]
  ·have c9:s.toList≠(⟨#[]⟩:ByteArray).toList:=by
    intro e;have aS : ∀x:ByteArray,x.toList.length=x.size:=(by intro x;rw[ByteArray.toList_eq];rfl);have:=aS s;rw[e,aS] at this;exact h0 this.symm
   simp only[beq_iff_eq,c9,Bool.not_eq_true',beq_eq_false_iff_ne,ne_eq,not_false_eq_true,if_true];congr 1;apply decide_eq_decide.2;omega
theorem acn (s:ByteArray)(bJ:s.size<=maxLen): ∃r,wg s=some r:=by
 have hm:=BF
 obtain⟨r,h,-⟩:=kz (f:=fun w=>wa s w) (fun i=>0<=i/\i<=s.size) (fun i=>(s.size-i).toNat) (fun _=>True) (fun i ad=>by
  obtain⟨h0,h1⟩:=ad;by_cases h2:i<(s.size:Int)
  ·have hw:U (i+1)=i+1:=cT (by omega) (by omega)
   unfold wa;generalize ((s.data.toList.getD i.toNat 0).toNat:Int)=c;have agL:0<=i+1/\i+1<=(s.size:Int):=(by omega);have nI:((s.size:Int)-(i+1)).toNat<((s.size:Int)-i).toNat:=by omega
   have key : ∀x:Option (Int⊕(Unit⊕Unit)),(x=some (.inl (i+1))\/x=some (.inr (.inr ())))->(∃ej,x=some (.inl ej)/\(0<=ej/\ej<=(s.size:Int))/\((s.size:Int)-ej).toNat<((s.size:Int)-i).toNat)\/ ∃r,x=some (.inr r)/\True:=by
    intro x ab;rcases ab with ab|ab
    ·exact .inl ⟨i+1,ab,agL,nI⟩
    ·exact .inr ⟨_,ab,trivial⟩
   apply key;simp only[h2,h0,hw,decide_true,if_true,and_self];by_cases a:(97:Int)<=c<;>by_cases b:c<=122<;>by_cases d:i=0<;>by_cases e:c<48<;>by_cases f:57<c<;>simp[a,b,d,e,f]
  ·exact .inr ⟨.inl (),by simp[wa,h2],trivial⟩) 0 (by omega)
 have cX:G7 s 0=some r:=h;unfold wg;rw[cX]
 cases r with
 | inl a=>exact⟨_,by simp[oQ];rfl⟩
 | inr a=>exact⟨_,rfl⟩
theorem acY (j:cV):DZ j=rI j:=by unfold DZ rI;simp only[adL,acW]
theorem R6 (j:cV)(h:j.mD.size<=maxLen): ∃r,rI j=some r:=by
 obtain⟨r,ai⟩:=acn _ h;unfold rI;simp only[ai,oQ,dC,dA]
 repeat' split
 all_goals exact⟨_,rfl⟩
theorem abE (s:dc)(n:ByteArray):Dw s n=xI s n:=by
 have h:JK s.ca n (len_ bZ s.ca) 0=Dl n s.ca (len_ bZ s.ca) 0:=by unfold JK Dl;congr 1
 unfold Dw xI GS;rw[h]
 cases Dl n s.ca (len_ bZ s.ca) 0 with
 | none=>rfl
 | some r=>cases r<;>rfl
theorem Rp (s:dc)(n:ByteArray)(h:s.ca.length<=maxLen): ∃r,xI s n=some r:=by
 have hm:=BF
 obtain⟨r,h1,-⟩:=kz (f:=fun w=>Aa n s.ca (len_ bZ s.ca) w) (fun i=>0<=i/\i<=s.ca.length) (fun i=>(s.ca.length-i).toNat) (fun _=>True) (fun i ad=>by
  obtain⟨h0,h1⟩:=ad;by_cases h2:i<(s.ca.length:Int)
  ·have hw:U (i+1)=i+1:=cT (by omega) (by omega)
   obtain⟨x,ab⟩ : ∃x,s.ca[i.toNat]? = some x:=⟨_,dy (by omega)⟩;unfold Aa;simp only[fH,h2,h0,hw,ab,decide_true,if_true,and_self,dC,dA];by_cases e:(x.mD.toList == n.toList)=true
   ·exact .inr ⟨_,by rw[dw e],trivial⟩
   ·exact .inl ⟨i+1,by rw[dz e],by omega,by omega⟩
  ·exact .inr ⟨.inl (),by simp[Aa,fH,h2],trivial⟩) 0 (by omega)
 have cX:Dl n s.ca (len_ bZ s.ca) 0=some r:=h1;unfold xI;rw[cX]
 cases r with
 | inl a=>exact⟨_,rfl⟩
 | inr a=>exact⟨_,rfl⟩
theorem Rq (s:dc):Kh s.ca (len_ bZ s.ca) s.bI 0=uV s.ca (len_ bZ s.ca) s.bI 0:=by unfold Kh uV;congr 1;funext w;unfold GV tX;simp only[acY,abE]
theorem Kq (s:dc)(i0:od s): ∃r,uV s.ca (len_ bZ s.ca) s.bI 0=some r:=by
 have hm:=BF;obtain⟨⟨gM,gX⟩,-⟩:=i0
 obtain⟨r,h1,-⟩:=kz (f:=fun w=>tX s.ca (len_ bZ s.ca) s.bI w) (fun i=>0<=i/\i<=s.ca.length) (fun i=>(s.ca.length-i).toNat) (fun _=>True) (fun i ad=>by
  obtain⟨h0,h1⟩:=ad;by_cases h2:i<(s.ca.length:Int)
  ·have hw:U (i+1)=i+1:=cT (by omega) (by omega)
   obtain⟨x,ab⟩ : ∃x,s.ca[i.toNat]? = some x:=⟨_,dy (by omega)⟩;obtain⟨p,ag⟩:=R6 x (gX x (dH ab)).1;obtain⟨q,a4⟩:=Rp ⟨s.ca,s.bI⟩ x.mD gM;unfold tX;simp only[fH,h2,h0,hw,ab,ag,a4,decide_true,if_true,and_self,dC,dA];by_cases e:p=true
   ·rw[dw e]
    by_cases e2:(q != i)=true
    ·exact .inr ⟨_,by rw[dw e2],trivial⟩
    ·exact .inl ⟨i+1,by rw[dz e2],by omega,by omega⟩
   ·exact .inr ⟨_,by rw[dz e],trivial⟩
  ·exact .inr ⟨.inl (),by simp[tX,fH,h2],trivial⟩) 0 (by omega)
 exact⟨r,h1⟩
def rQ (ik:List cV)(m:dg):Bool :=
 decide (0<=m.d4/\m.d4<ik.length/\0<=m.ee/\m.ee<ik.length/\1<=m.jN/\m.jN<=3) &&
 match ik[m.d4.toNat]?,ik[m.ee.toNat]? with
 | some a,some b=> !(a.jv == b.jv && a.jH == b.jH) && !(a.mA && b.mA)
 | _,_=>false
theorem Ht (s:dc)(m:dg):Db s m=some (rQ s.ca m):=by
 unfold Db rQ;simp only[fH];by_cases h1:m.d4<0
 ·simp[h1];omega
 by_cases h2:(s.ca.length:Int)<=m.d4
 ·simp[h1,h2];omega
 by_cases R:m.ee<0
 ·simp[h1,h2,R];omega
 by_cases ah:(s.ca.length:Int)<=m.ee
 ·simp[h1,h2,R,ah];omega
 by_cases ax:m.jN<1
 ·simp[h1,h2,R,ah,ax];omega
 by_cases aQ:3<m.jN
 ·simp[h1,h2,R,ah,ax,aQ];omega
 obtain⟨x,ab⟩ : ∃x,s.ca[m.d4.toNat]? = some x:=⟨_,dy (by omega)⟩;obtain⟨y,aZ⟩ : ∃y,s.ca[m.ee.toNat]? = some y:=⟨_,dy (by omega)⟩;have bl:0<=m.d4/\m.d4<s.ca.length:=by omega
 have cr:0<=m.ee/\m.ee<s.ca.length:=by omega
 have ku:0<=m.d4/\m.d4<s.ca.length/\0<=m.ee/\m.ee<s.ca.length/\1<=m.jN/\m.jN<=3:=by omega
 rw[decide_eq_false h1,decide_eq_false h2,decide_eq_false R,decide_eq_false ah,decide_eq_false ax,decide_eq_false aQ,decide_eq_true ku,dw bl,ab];simp only[Bool.false_eq_true,if_false,dC,dA,Bool.true_and];rw[dw cr,aZ];simp only[dA];by_cases e1:x.jv=y.jv<;>by_cases e2:x.jH=y.jH<;>by_cases CS:x.mA=true<;>by_cases Gt:y.mA=true<;>simp[e1,e2,CS,Gt]
theorem RN (ik:List cV)(eX:List dg)(au:ik.length<=6)(I1:eX.length<=8)(i:Int):
 Da (U (len_ bZ ik-1)) eX (len_ b7 eX) ik i =
 (pO eX ik eX (len_ b7 eX) i).map (Sum.map id (Sum.map id fun _=>())):=by
 have hw:U ((ik.length:Nat)-1)=(ik.length:Nat)-1:=cT (by omega) (by omega);unfold Da pO xA;simp only[fH,hw,Ht,oQ,dC,dA];by_cases h1:i<(eX.length:Int)
 ·by_cases h0:0<=i
  ·obtain⟨m,hm⟩ : ∃x,eX[i.toNat]? = some x:=⟨_,dy (by omega)⟩
   simp only[h1,h0,hm,decide_true,if_true,and_self,dA];unfold rQ;by_cases hA:0<=m.d4/\m.d4<=(ik.length:Int)-1
   ·by_cases f6:0<=m.ee/\m.ee<=(ik.length:Int)-1
    ·by_cases iY:1<=m.jN/\m.jN<=3
     ·obtain⟨x,ab⟩ : ∃x,ik[m.d4.toNat]? = some x:=⟨_,dy (by omega)⟩;obtain⟨y,aZ⟩ : ∃y,ik[m.ee.toNat]? = some y:=⟨_,dy (by omega)⟩;have bl:0<=m.d4/\m.d4<ik.length:=(by omega);have cr:0<=m.ee/\m.ee<ik.length:=(by omega);have ku:0<=m.d4/\m.d4<ik.length/\0<=m.ee/\m.ee<ik.length/\1<=m.jN/\m.jN<=3:=(by omega);rw[decide_eq_true hA,decide_eq_true f6,decide_eq_true iY,decide_eq_true ku];simp only[if_true,dA,Bool.true_and];rw[dw bl,ab];simp only[dA];rw[dw cr,aZ];simp only[dA];by_cases e1:x.jv=y.jv<;>by_cases e2:x.jH=y.jH<;>by_cases CS:x.mA=true<;>by_cases Gt:y.mA=true<;>simp[e1,e2,CS,Gt]
     ·have ku : ¬(0<=m.d4/\m.d4<ik.length/\0<=m.ee/\m.ee<ik.length/\1<=m.jN/\m.jN<=3):=(by omega);rw[decide_eq_true hA,decide_eq_true f6,decide_eq_false iY,decide_eq_false ku];simp
    ·have ku : ¬(0<=m.d4/\m.d4<ik.length/\0<=m.ee/\m.ee<ik.length/\1<=m.jN/\m.jN<=3):=(by omega);rw[decide_eq_true hA,decide_eq_false f6,decide_eq_false ku];simp
   ·have ku : ¬(0<=m.d4/\m.d4<ik.length/\0<=m.ee/\m.ee<ik.length/\1<=m.jN/\m.jN<=3):=(by omega);rw[decide_eq_false hA,decide_eq_false ku];simp
  ·simp[h1,h0]
 ·simp[h1]
theorem Qq (ik:List cV)(eX:List dg)(I1:eX.length<=8): ∃r,zM eX ik eX (len_ b7 eX) 0=some r/\ ∀k,r = .inr k->0<=k:=by
 exact kz (f:=fun w=>pO eX ik eX (len_ b7 eX) w) (fun i=>0<=i/\i<=eX.length) (fun i=>(eX.length-i).toNat) (fun r=> ∀k,r = .inr k->0<=k) (fun i ad=>by
  obtain⟨h0,h1⟩:=ad;by_cases h2:i<(eX.length:Int)
  ·have hw:U (i+1)=i+1:=cT (by omega) (by omega)
   obtain⟨x,ab⟩ : ∃x,eX[i.toNat]? = some x:=⟨_,dy (by omega)⟩;unfold pO xA;simp only[fH,h2,h0,hw,ab,Ht,decide_true,if_true,and_self,dC,dA];by_cases e:(!rQ ik x)=true
   ·exact .inr ⟨_,by rw[dw e],by intro k aX;simp at aX;omega⟩
   ·exact .inl ⟨i+1,by rw[dz e],by omega,by omega⟩
  ·exact .inr ⟨.inl (),by simp[pO,fH,h2],by intro k aX;simp at aX⟩) 0 (by omega)
theorem Q7 (s:dc)(i0:od s): ∃r,oa s=some r/\A9 s=some r:=by
 unfold oa A9;by_cases h1:6<(s.ca.length:Int)
 ·exact⟨false,by simp[fH,h1],by simp[fH,h1]⟩
 by_cases h2:8<(s.bI.length:Int)
 ·exact⟨false,by simp[fH,h1,h2],by simp[fH,h1,h2]⟩
 obtain⟨r,ai⟩:=Kq s i0;rw[Rq,ai];obtain⟨q,a4,nk⟩:=Qq s.ca s.bI (by omega)
 have N1:J8 (U (len_ bZ s.ca-1)) s.bI (len_ b7 s.bI) s.ca 0=some (Sum.map id (fun _=>()) q) :=
  TM (f:=fun w=>pO s.bI s.ca s.bI (len_ b7 s.bI) w) (Sum.map id fun _=>()) (fun _=>True) (fun _ _ _ _=>trivial)
   (fun i _=>RN s.ca s.bI (by omega) (by omega) i) 0 q a4 trivial
 simp only[C3,C5,a4,N1,dC,dA];have d1:decide ((6:Int)<len_ bZ s.ca)=false:=by rw[fH];exact decide_eq_false h1
 have d2:decide ((8:Int)<len_ b7 s.bI)=false:=by rw[fH];exact decide_eq_false h2
 rw[d1,d2];simp only[Bool.false_eq_true,if_false]
 cases r with
 | inr a=>exact⟨false,rfl,rfl⟩
 | inl a =>
  cases q with
  | inl b=>exact⟨true,rfl,by simp⟩
  | inr k =>
   have:=nk k rfl;exact⟨false,rfl,by simp[this]⟩
theorem abm (j:cV)(h:rI j=some true): -50<=j.jv/\j.jv<=50/\ -50<=j.jH/\j.jH<=50:=by
 unfold rI at h
 cases aV:wg j.mD with
 | none=>simp[aV] at h
 | some r =>
  simp only[aV,oQ,dC,dA] at h
  cases r with
  | false=>simp at h
  | true =>
   by_cases a : -50<=j.jv/\j.jv<=50
   ·by_cases b : -50<=j.jH/\j.jH<=50
    ·omega
    ·simp[a,b] at h
   ·simp[a] at h
theorem adM (s:dc)(i0:od s)(h:uV s.ca (len_ bZ s.ca) s.bI 0=some (.inl ())): ∀(n:Nat) j,s.ca[n]? = some j->rI j=some true:=by
 have hm:=BF;obtain⟨⟨gM,gX⟩,-⟩:=i0
 obtain⟨r,h1,h2⟩:=kz (f:=fun w=>tX s.ca (len_ bZ s.ca) s.bI w) (fun i=>0<=i/\i<=s.ca.length/\ ∀(n:Nat) j,(n:Int)<i->s.ca[n]? = some j->rI j=some true) (fun i=>(s.ca.length-i).toNat)
  (fun r=>r = .inl ()-> ∀(n:Nat) j,s.ca[n]? = some j->rI j=some true) (fun i ad=>by
  obtain⟨h0,h1,R⟩:=ad;by_cases h2:i<(s.ca.length:Int)
  ·have hw:U (i+1)=i+1:=cT (by omega) (by omega)
   obtain⟨x,ab⟩ : ∃x,s.ca[i.toNat]? = some x:=⟨_,dy (by omega)⟩;obtain⟨p,ag⟩:=R6 x (gX x (dH ab)).1;obtain⟨q,a4⟩:=Rp ⟨s.ca,s.bI⟩ x.mD gM;unfold tX;simp only[fH,h2,h0,hw,ab,ag,a4,decide_true,if_true,and_self,dC,dA];by_cases e:p=true
   ·rw[dw e]
    by_cases e2:(q != i)=true
    ·exact .inr ⟨_,by rw[dw e2],by simp⟩
    ·refine .inl ⟨i+1,by rw[dz e2],⟨by omega,by omega,fun n j aV au=> ?_⟩,by omega⟩
     by_cases c:(n:Int)<i
     ·exact R n j c au
     ·have:n=i.toNat:=(by omega);subst this;rw[ab] at au;obtain rfl:=dI au;rw[ag,e]
   ·exact .inr ⟨_,by rw[dz e],by simp⟩
  ·refine .inr ⟨.inl (),by simp[tX,fH,h2],fun _ n j au=>R n j (by have:=gF au;omega) au⟩) 0 ⟨by omega,by omega,fun n j aV=>by omega⟩
 have s0:uV s.ca (len_ bZ s.ca) s.bI 0=some r:=h1;rw[h] at s0;exact h2 (dI s0).symm
theorem acZ (ik:List cV)(eX:List dg)(I1:eX.length<=8)(h:zM eX ik eX (len_ b7 eX) 0=some (.inl ())): ∀(n:Nat) m,eX[n]? = some m->rQ ik m=true:=by
 obtain⟨r,h1,h2⟩:=kz (f:=fun w=>pO eX ik eX (len_ b7 eX) w) (fun i=>0<=i/\i<=eX.length/\ ∀(n:Nat) m,(n:Int)<i->eX[n]? = some m->rQ ik m=true) (fun i=>(eX.length-i).toNat)
  (fun r=>r = .inl ()-> ∀(n:Nat) m,eX[n]? = some m->rQ ik m=true) (fun i ad=>by
  obtain⟨h0,h1,R⟩:=ad;by_cases h2:i<(eX.length:Int)
  ·have hw:U (i+1)=i+1:=cT (by omega) (by omega)
   obtain⟨x,ab⟩ : ∃x,eX[i.toNat]? = some x:=⟨_,dy (by omega)⟩;unfold pO xA;simp only[fH,h2,h0,hw,ab,Ht,decide_true,if_true,and_self,dC,dA];by_cases e:(!rQ ik x)=true
   ·exact .inr ⟨_,by rw[dw e],by simp⟩
   ·refine .inl ⟨i+1,by rw[dz e],⟨by omega,by omega,fun n j aV au=> ?_⟩,by omega⟩
    by_cases c:(n:Int)<i
    ·exact R n j c au
    ·have:n=i.toNat:=(by omega);subst this;rw[ab] at au;obtain rfl:=dI au;simpa using e
  ·refine .inr ⟨.inl (),by simp[pO,fH,h2],fun _ n j au=>R n j (by have:=gF au;omega) au⟩) 0 ⟨by omega,by omega,fun n j aV=>by omega⟩
 have s0:zM eX ik eX (len_ b7 eX) 0=some r:=h1;rw[h] at s0;exact h2 (dI s0).symm
theorem A7 (s:dc)(i0:od s)(h:oa s=some true):
 (∀(n:Nat) j,s.ca[n]? = some j->rI j=some true)/\(∀(n:Nat) m,s.bI[n]? = some m->rQ s.ca m=true)/\s.ca.length<=6/\s.bI.length<=8:=by
 obtain⟨p,p1,p2⟩:=Q7 s i0;rw[h] at p1;obtain rfl:=dI p1;unfold A9 at p2;by_cases h1:6<(s.ca.length:Int)
 ·simp[fH,h1] at p2
 by_cases h2:8<(s.bI.length:Int)
 ·simp[fH,h1,h2] at p2
 obtain⟨r,ai⟩:=Kq s i0;rw[Rq,ai] at p2;obtain⟨q,a4,nk⟩:=Qq s.ca s.bI (by omega);have d1:decide ((6:Int)<len_ bZ s.ca)=false:=by rw[fH];exact decide_eq_false h1
 have d2:decide ((8:Int)<len_ b7 s.bI)=false:=by rw[fH];exact decide_eq_false h2
 rw[d1,d2] at p2;simp only[C3,C5,a4,Bool.false_eq_true,if_false,dC,dA] at p2
 cases r with
 | inr a=>simp at p2
 | inl a =>
  cases q with
  | inr k =>
   have:=nk k rfl;simp[this] at p2
  | inl b=>exact⟨adM s i0 ai,acZ s.ca s.bI (by omega) a4,by omega,by omega⟩
def oH (s:dc):Prop:=(∀(n:Nat) j,s.ca[n]? = some j-> -50<=j.jv/\j.jv<=50/\ -50<=j.jH/\j.jH<=50)/\(∀(n:Nat) m,s.bI[n]? = some m->rQ s.ca m=true)/\s.ca.length<=6/\s.bI.length<=8
theorem G6 (s:dc)(i0:od s)(h:oa s=some true):oH s:=by obtain⟨f1,f2,f3,f4⟩:=A7 s i0 h;exact⟨fun n j au=>abm j (f1 n j au),f2,f3,f4⟩
theorem afo (s:dc)(h:oH s)(k:Int)(h0:0<=k)(h1:k<s.bI.length):
 ∃x y,tY s k=some (x,y)/\(-100<=x/\x<=100)/\(-100<=y/\y<=100):=by
 obtain⟨f1,f2,f3,f4⟩:=h;obtain⟨m,hm⟩ : ∃x,s.bI[k.toNat]? = some x:=⟨_,dy (by omega)⟩;have zl:=f2 _ m hm;unfold rQ at zl;simp only[dM,decide_eq_true_eq] at zl;obtain⟨⟨g1,g2,g3,g4,-⟩,-⟩:=zl;obtain⟨a,bG⟩ : ∃x,s.ca[m.d4.toNat]? = some x:=⟨_,dy (by omega)⟩;obtain⟨b,aU⟩ : ∃x,s.ca[m.ee.toNat]? = some x:=⟨_,dy (by omega)⟩;have ajh:=f1 _ a bG;have aji:=f1 _ b aU;have e1:U (b.jv-a.jv)=b.jv-a.jv:=cT (by omega) (by omega);have e2:U (b.jH-a.jH)=b.jH-a.jH:=cT (by omega) (by omega);have cM:0<=k/\k<s.bI.length:=⟨h0,h1⟩;have bl:0<=m.d4/\m.d4<s.ca.length:=⟨g1,g2⟩;have cr:0<=m.ee/\m.ee<s.ca.length:=⟨g3,g4⟩;refine⟨b.jv-a.jv,b.jH-a.jH,?_,by omega,by omega⟩;unfold tY;simp only[dw cM,hm,dw bl,dw cr,bG,aU,dC,dA,e1,e2]
theorem afp (s:dc)(h:oH s)(k:Int)(h0:0<=k)(h1:k<s.bI.length){v:Int×Int}(bc:tY s k=some v):DA s k=some v:=by
 obtain⟨f1,f2,f3,f4⟩:=h;obtain⟨m,hm⟩ : ∃x,s.bI[k.toNat]? = some x:=⟨_,dy (by omega)⟩;have zl:=f2 _ m hm;unfold rQ at zl;simp only[dM,decide_eq_true_eq] at zl;obtain⟨⟨g1,g2,g3,g4,-⟩,-⟩:=zl;obtain⟨a,bG⟩ : ∃x,s.ca[m.d4.toNat]? = some x:=⟨_,dy (by omega)⟩;obtain⟨b,aU⟩ : ∃x,s.ca[m.ee.toNat]? = some x:=⟨_,dy (by omega)⟩;have ajh:=f1 _ a bG;have aji:=f1 _ b aU;have e1:U (b.jv-a.jv)=b.jv-a.jv:=cT (by omega) (by omega);have e2:U (b.jH-a.jH)=b.jH-a.jH:=cT (by omega) (by omega);have cM:0<=k/\k<s.bI.length:=⟨h0,h1⟩;have bl:0<=m.d4/\m.d4<s.ca.length:=⟨g1,g2⟩;have cr:0<=m.ee/\m.ee<s.ca.length:=⟨g3,g4⟩;have v5:tY s k=some (b.jv-a.jv,b.jH-a.jH):=by unfold tY;simp only[dw cM,hm,dw bl,dw cr,bG,aU,dC,dA,e1,e2]
 rw[bc] at v5;obtain rfl:=dI v5;unfold DA;simp only[dw cM,hm,dw bl,dw cr,bG,aU,dC,dA,e1,e2]
def Vy (p:Int×Int):Option eY:=some (l9 p)
theorem aeJ {p:Int×Int}(h:Fr p):WU (some p):=fun q a4=>by rw[<- dI a4];exact h
def uQ (l:ar)(n:Nat)(x:Int):Prop:=0<=x/\x<1000000000/\(∀z,l[n]? = some z->x=z)/\(l[n]? = none->x=0)
theorem yS {l:ar}(h:cW l){n:Nat}(aV:n<l.length):uQ l n l[n]:=by have ab:=dy aV;have h0:=h.get ab;exact⟨h0.1,h0.2,fun z cD=>by rw[ab] at cD;exact dI cD,fun h=>by rw[ab] at h;simp at h⟩
theorem B7 {l:ar}{n:Nat}(aV:¬n<l.length):uQ l n 0:=by
 have ab:l[n]? = none:=by simp;omega
 exact⟨by omega,by omega,fun z cD=>by rw[ab] at cD;simp at cD,fun _=>rfl⟩
theorem uQ.take {l:ar}{n:Nat}{x:Int}(h:uQ l n x):V (l.take (n+1))=V (l.take n)+B n*x:=TT h.2.2.1 h.2.2.2
theorem aeK {a b row:ar}{carry:Int}{n:Nat}(bG:cW a)(aU:cW b)(a2:carry=0\/carry=1)(tK:a.length<=1000000)(N2:b.length<=1000000)(ai:row.length<=1000001)(I6:n<=1000001)(aV:n<a.length\/n<b.length\/carry=1):
 ∃x y,uQ a n x/\uQ b n y/\xw a b carry n row=some (.inl ((carry+x+y) / 1000000000,((n+1:Nat):Int),row++[(carry+x+y) % 1000000000])):=by
 have nX:0<=carry/\carry<=1:=by omega
 unfold xw;simp only[fU];by_cases h1:n<a.length
 ·have hA:=yS bG h1
  have ab:=dy h1;rw[dw (by simp;omega),dw (by omega),dx,ab];simp only[dC,dA];by_cases h2:n<b.length
  ·have f6:=yS aU h2;have aZ:=dy h2;have gM:=hA.1;have gX:=hA.2.1;have iX:=f6.1;have j6:=f6.2.1;refine⟨a[n],b[n],hA,f6,?_⟩;rw[dw (by simp;omega),dw (by omega),aZ];simp only[dA];rw[cT (x:=carry+a[n]) (by omega) (by omega),cT (x:=carry+a[n]+b[n]) (by omega) (by omega),sr (by omega),oN (by omega),cT (by omega) (by omega),pr (n:=n) (by omega),dw (by simp;omega)]
  ·have gM:=hA.1;have gX:=hA.2.1;refine⟨a[n],0,hA,B7 h2,?_⟩;rw[dz (by simp;omega),cT (x:=carry+a[n]) (by omega) (by omega),sr (by omega),oN (by omega),cT (by omega) (by omega),pr (n:=n) (by omega),dw (by simp;omega),Int.add_zero]
 ·rw[dz (by simp;omega)]
  by_cases h2:n<b.length
  ·have f6:=yS aU h2;have aZ:=dy h2;have iX:=f6.1;have j6:=f6.2.1;refine⟨0,b[n],B7 h1,f6,?_⟩;rw[dw (by simp;omega),dw (by omega),dx,aZ];simp only[dC,dA];rw[cT (x:=carry+b[n]) (by omega) (by omega),sr (by omega),oN (by omega),cT (by omega) (by omega),pr (n:=n) (by omega),dw (by simp;omega),Int.add_zero]
  ·refine⟨0,0,B7 h1,B7 h2,?_⟩;rw[dz (by simp;omega),dw (by simp;omega),sr (by omega),oN (by omega),cT (by omega) (by omega),pr (n:=n) (by omega),dw (by simp;omega),Int.add_zero,Int.add_zero]
theorem aeL {a b:ar}(bG:cW a)(aU:cW b)(tK:a.length<=900000)(N2:b.length<=900000): ∃r,Bu a b=some r/\cW r/\V r=V a+V b/\r.length<=a.length+b.length+1:=by
 obtain⟨r,ai,h1,h2,R⟩:=kz (f:=fun w:Int×Int×ar=>xw a b w.1 w.2.1 w.2.2) (fj:=fun w=> ∃n:Nat,w.2.1=n/\w.2.2.length=n/\(w.1=0\/w.1=1)/\cW w.2.2/\V w.2.2+w.1*B n=V (a.take n)+V (b.take n)/\(n<=a.length\/n<=b.length\/w.1=0)/\n<=a.length+b.length+1) (m:=fun w=>(a.length+b.length+2-w.2.1.toNat))
  (fun r=>cW r/\V r=V a+V b/\r.length<=a.length+b.length+1) (by
    rintro⟨carry,ii,row⟩ ⟨n,e1,e2,bM,db,dW,ei,ez⟩;simp only at e1 e2 bM db dW ei;subst e1;by_cases aV:n<a.length\/n<b.length\/carry=1
    ·obtain⟨x,y,ab,aZ,m5⟩:=aeK (row:=row) bG aU bM (by omega) (by omega) (by omega) (by omega) aV
     have x0:=ab.1;have x1:=ab.2.1;have Xs:=aZ.1;have fr:=aZ.2.1;have Gr:n<=a.length+b.length:=(by omega);refine .inl ⟨_,m5,⟨n+1,rfl,by simp[e2],by simp only;omega,db.append (cW.cons (by omega) cW.nil),?_,?_,by omega⟩,by simp only;omega⟩
     ·simp only;rw[yd,e2,nA,mz,Ch,ab.take,aZ.take];have:=Int.mul_ediv_add_emod (carry+x+y) 1000000000;generalize (carry+x+y) / 1000000000=u at *;generalize (carry+x+y) % 1000000000=t at *;have cj:t=carry+x+y-1000000000*u:=(by omega);rw[cj];grind
     ·simp only
      by_cases h:n+1<=a.length\/n+1<=b.length
      ·omega
      ·
       have ala : ¬n<a.length:=(by omega);have alb : ¬n<b.length:=(by omega);have ja:x=0:=ab.2.2.2 (by simp;omega);have j5:y=0:=aZ.2.2.2 (by simp;omega);omega
    ·refine .inr ⟨row,?_,db,?_,by omega⟩
     ·unfold xw;simp only[fU];rw[dz (by simp;omega),dz (by simp;omega),dz (by simp;omega)]
     ·have a2:carry=0:=(by omega);rw[a2,List.take_of_length_le (by omega),List.take_of_length_le (by omega)] at dW;omega) (0,0,[]) ⟨0,rfl,rfl,.inl rfl,cW.nil,by simp[V],by omega,by omega⟩
 unfold Bu Ru;rw[ai];exact⟨r,rfl,h1,h2,R⟩
theorem adN {neg:Bool}{r:ar}(ai:cW r)(aS:r.length<=5000000)(qS:V r<B 60):jb neg r=some (gC (eK neg (V r))):=by
 have h0:=mg ai;have:jb neg r=jb neg (L (V r)):=by unfold jb Bs;have hlen:=(hH h0).2 qS;rw[uh ai aS,uh (hK _) (by omega),eo h0]
 rw[this,sG h0 qS]
theorem adO {a b row:ar}{carry:Int}{n:Nat}(bG:cW a)(aU:cW b)(a2:carry=0\/carry=1)(tK:a.length<=1000000)(aV:n<a.length)(ai:n<row.length):
 ∃x y,uQ a n x/\uQ b n y/\A5 a b a.length carry n row=some (.inl ((carry+x+y) / 1000000000,((n+1:Nat):Int),row.set n ((carry+x+y) % 1000000000))):=by
 have nX:0<=carry/\carry<=1:=by omega
 have hA:=yS bG aV;have ab:=dy aV;have gM:=hA.1;have gX:=hA.2.1;unfold A5;simp only[fU];rw[dw (by simp;omega),dw (by omega),dx,ab];simp only[dC,dA];by_cases h2:n<b.length
 ·have f6:=yS aU h2;have aZ:=dy h2;have iX:=f6.1;have j6:=f6.2.1;refine⟨a[n],b[n],hA,f6,?_⟩;rw[dw (by simp;omega),dw (by omega),aZ];simp only[dA];rw[dw (by omega),dw (by omega),cT (x:=a[n]+carry) (by omega) (by omega),cT (x:=a[n]+carry+b[n]) (by omega) (by omega),sr (by omega),oN (by omega),cT (by omega) (by omega),pr (n:=n) (by omega),dG,Int.add_comm a[n] carry]
 ·refine⟨a[n],0,hA,B7 h2,?_⟩;rw[dz (by simp;omega),dw (by omega),dw (by omega),cT (x:=a[n]+carry) (by omega) (by omega),sr (by omega),oN (by omega),cT (by omega) (by omega),pr (n:=n) (by omega),dG,Int.add_zero,Int.add_comm a[n] carry]
theorem adP {a b:ar}(bG:cW a)(aU:cW b)(tK:a.length<=900000)(wY:b.length<=a.length):
 ∃r,Hk a b a.length 0 0 (List.replicate (a.length+1) 0)=some r/\(r.1=0\/r.1=1)/\cW r.2/\r.2.length=a.length+1/\V r.2+r.1*B a.length=V a+V b/\r.2[a.length]? = some 0:=by
 refine kz (fj:=fun w:Int×Int×ar=> ∃n:Nat,w.2.1=n/\n<=a.length/\(w.1=0\/w.1=1)/\cW w.2.2/\w.2.2.length=a.length+1/\V w.2.2+w.1*B n=V (a.take n)+V (b.take n)/\ ∀j,n<=j->j<a.length+1->w.2.2[j]? = some 0) (m:=fun w=>a.length-w.2.1.toNat) _ ?_ _ ⟨0,rfl,by omega,.inl rfl,cW.ND _,by simp,by simp[V,MI],fun j _ h=>by simp[List.getElem?_replicate];omega⟩;rintro⟨carry,ii,row⟩ ⟨n,e1,e2,bM,db,dW,ei,ez⟩;simp only at e1 bM db dW ei ez ⊢;subst e1;by_cases aV:n=a.length
 ·subst aV;refine .inr ⟨(carry,row),by simp[A5],bM,db,dW,?_,ez _ (dE _) (by omega)⟩;rw[List.take_length,List.take_of_length_le wY] at ei;exact ei
 ·obtain⟨x,y,ab,aZ,m5⟩:=adO (row:=row) (n:=n) bG aU bM (by omega) (by omega) (by omega)
  have x0:=ab.1;have x1:=ab.2.1;have Xs:=aZ.1;have fr:=aZ.2.1;refine .inl ⟨_,m5,⟨n+1,rfl,by omega,by simp only;omega,db.set (by omega),by simpa using dW,?_,fun j h1 h2=> ?_⟩,by simp only;omega⟩
  ·simp only;rw[uA (ez n (dE _) (by omega)),nA,ab.take,aZ.take];have:=Int.mul_ediv_add_emod (carry+x+y) 1000000000;generalize (carry+x+y) / 1000000000=u at *;generalize (carry+x+y) % 1000000000=t at *;have cj:t=carry+x+y-1000000000*u:=(by omega);rw[cj];grind
  ·simp only;rw[List.getElem?_set_ne (by omega)];exact ez j (by omega) h2
theorem To {a b:ar}(bG:cW a)(aU:cW b)(tK:a.length<=900000)(wY:b.length<=a.length):
 (if 0<=(U ((len_ eI a)+(1:Int)))/\(8:Int)*(U ((len_ eI a)+(1:Int)))<=281474976710656/\(U ((len_ eI a)+(1:Int)))<9223372036854775808 then
   (Hk a b (len_ eI a) 0 0 (List.replicate (U ((len_ eI a)+(1:Int))).toNat 0:ar)).bind fun aL =>
   if 0<=(len_ eI a)/\(len_ eI a)<(aL.2.length:Nat) then
   if (0+(len_ eI a).toNat)<aL.2.length then
   (sE (aL.2.set (0+(len_ eI a).toNat) aL.1)).bind fun bz=>some bz
   else none
   else none
   else none)=some (L (V a+V b)):=by
 obtain⟨r,ai,h1,h2,R,ah,ax⟩:=adP bG aU tK wY;rw[fU,pr (by omega),dw (by omega),dx,ai,dA,dw (by omega),dx,dG,dw (by omega)];have FC:cW (r.2.set a.length r.1):=h2.set (by omega);rw[BV FC (by simp;omega),uA ax,dA];congr 2;rw[<- ah];grind
theorem afq {a b:ar}(bG:cW a)(aU:cW b)(tK:a.length<=900000)(N2:b.length<=900000):BE a b=some (L (V a+V b)):=by
 unfold BE;by_cases h:a.length<b.length
 ·rw[dw (by rw[fU,fU];simpa using h)];have:=To aU bG N2 (by omega);rw[Int.add_comm (V a)];exact this
 ·rw[dz (by rw[fU,fU];simpa using h)];exact To bG aU tK (by omega)
theorem ac0 {a b row:ar}{less:Int}{n:Nat}(bG:cW a)(aU:cW b)(aS:less=0\/less=1)(tK:a.length<=1000000)(aV:n<a.length)(ai:n<row.length):
 ∃x y,uQ a n x/\uQ b n y/\A3 b a a.length less n row=some (.inl (if x-less-y<0 then (1,((n+1:Nat):Int),row.set n (x-less-y+1000000000)) else (0,((n+1:Nat):Int),row.set n (x-less-y)))):=by
 have nX:0<=less/\less<=1:=by omega
 have hA:=yS bG aV;have ab:=dy aV;have gM:=hA.1;have gX:=hA.2.1;unfold A3;simp only[fU];rw[dw (by simp;omega),dw (by omega),dx,ab];simp only[dC,dA];by_cases h2:n<b.length
 ·have f6:=yS aU h2
  have aZ:=dy h2;have iX:=f6.1;have j6:=f6.2.1;refine⟨a[n],b[n],hA,f6,?_⟩;rw[dw (by simp;omega),dw (by omega),aZ];simp only[dA];rw[cT (x:=a[n]-less) (by omega) (by omega),cT (x:=a[n]-less-b[n]) (by omega) (by omega),pr (n:=n) (by omega),cT (x:=a[n]-less-b[n]+1000000000) (by omega) (by omega),dG];by_cases h:a[n]-less-b[n]<0
  ·rw[dw (by simpa using h),dw h,dw (by omega),dw (by omega)]
  ·rw[dz (by simpa using h),dz h,dw (by omega),dw (by omega)]
 ·refine⟨a[n],0,hA,B7 h2,?_⟩
  rw[dz (by simp;omega),cT (x:=a[n]-less) (by omega) (by omega),pr (n:=n) (by omega),cT (x:=a[n]-less+1000000000) (by omega) (by omega),dG,Int.sub_zero];by_cases h:a[n]-less<0
  ·rw[dw (by simpa using h),dw h,dw (by omega),dw (by omega)]
  ·rw[dz (by simpa using h),dz h,dw (by omega),dw (by omega)]
theorem TW {a b:ar}(bG:cW a)(aU:cW b)(hlen:b.length<=a.length)(wY:V b<=V a)(tK:a.length<=900000):wk a b=some (L (V a-V b)):=by
 have : ∃r,RU b a a.length 0 0 (List.replicate a.length 0)=some r/\cW r/\r.length=a.length/\V r=V a-V b:=by
  refine kz (fj:=fun w:Int×Int×ar=> ∃n:Nat,w.2.1=n/\n<=a.length/\(w.1=0\/w.1=1)/\cW w.2.2/\w.2.2.length=a.length/\V w.2.2-w.1*B n=V (a.take n)-V (b.take n)/\ ∀j,n<=j->j<a.length->w.2.2[j]? = some 0) (m:=fun w=>a.length-w.2.1.toNat) _ ?_ _ ⟨0,rfl,by omega,.inl rfl,cW.ND _,by simp,by simp[V,MI],fun j _ h=>by simp[List.getElem?_replicate];omega⟩;rintro⟨less,ii,row⟩ ⟨n,e1,e2,bM,db,dW,ei,ez⟩;simp only at e1 bM db dW ei ez ⊢;subst e1;by_cases aV:n=a.length
  ·subst aV;refine .inr ⟨row,by simp[A3],db,dW,?_⟩;rw[List.take_length,List.take_of_length_le hlen] at ei;have h2:=ol db;rw[dW] at h2;rcases bM with rfl|rfl<;>omega
  ·obtain⟨x,y,ab,aZ,m5⟩:=ac0 (row:=row) (n:=n) bG aU bM (by omega) (by omega) (by omega)
   have x0:=ab.1;have x1:=ab.2.1;have Xs:=aZ.1;have fr:=aZ.2.1;rw[m5];refine .inl ⟨_,rfl,?_⟩;by_cases h:x-less-y<0
   ·rw[dw h]
    refine⟨⟨n+1,rfl,by omega,.inr rfl,db.set (by omega),by simpa using dW,?_,fun j h1 h2=> ?_⟩,by simp only;omega⟩
    ·simp only;rw[uA (ez n (dE _) (by omega)),nA,ab.take,aZ.take];grind
    ·simp only;rw[List.getElem?_set_ne (by omega)];exact ez j (by omega) h2
   ·rw[dz h]
    refine⟨⟨n+1,rfl,by omega,.inl rfl,db.set (by omega),by simpa using dW,?_,fun j h1 h2=> ?_⟩,by simp only;omega⟩
    ·simp only;rw[uA (ez n (dE _) (by omega)),ab.take,aZ.take];grind
    ·simp only;rw[List.getElem?_set_ne (by omega)];exact ez j (by omega) h2
 obtain⟨r,ai,h1,h2,R⟩:=this;unfold wk;simp only[fU];rw[dw (by omega),dx,ai];simp only[dC,dA];rw[BV h1 (by omega),R];rfl
theorem Va {a b:Int}(h:decide (a<0)=decide (b<0)):eK (decide (a<0)) ((a.natAbs:Int)+(b.natAbs:Int))=a+b:=by
 have cX:a<0↔b<0:=by simpa using h
 unfold eK;by_cases h1:a<0
 ·have:=cX.1 h1;simp only[h1,decide_true,if_true];omega
 ·have : ¬b<0:=fun aU=>h1 (cX.2 aU);simp only[h1,decide_false,Bool.false_eq_true,if_false];omega
theorem Ig {a b:Int}(h:¬decide (a<0)=decide (b<0)):eK (decide (a<0)) ((a.natAbs:Int)-(b.natAbs:Int))=a+b/\eK (decide (b<0)) ((b.natAbs:Int)-(a.natAbs:Int))=a+b:=by
 have cX : ¬(a<0↔b<0):=by simpa using h
 unfold eK;by_cases h1:a<0
 ·have h2 : ¬b<0:=fun aU=>cX ⟨fun _=>aU,fun _=>h1⟩;simp only[h1,h2,decide_true,if_true,decide_false,Bool.false_eq_true,if_false];omega
 ·have h2:b<0:=by
   apply Classical.byContradiction;intro aU;exact cX ⟨fun h=>absurd h h1,fun h=>absurd h aU⟩
  simp only[h1,h2,decide_true,if_true,decide_false,Bool.false_eq_true,if_false];omega
theorem HU {x y:Int}(ab:0<=x)(NE:x<=y):(L x).length<=(L y).length:=by apply (hH ab).2;have:=ol (hK y);rw[eo (by omega)] at this;omega
theorem Tp {a b:Int}(bG:(a.natAbs:Int)<B 50)(aU:(b.natAbs:Int)<B 50):sB (gC a) (gC b)=some (gC (a+b)):=by
 have uR:=(hH (k:=50) (n:=a.natAbs) (by omega)).2 bG;have th:=(hH (k:=50) (n:=b.natAbs) (by omega)).2 aU;have qS:B 50+B 50<=B 60:=by have h1:B 51<=B 60:=sK (by omega);have h2:=pk 50;rw[nA] at h1;omega
 have bJ:sB (gC a) (gC b)=(if (decide (a<0) == decide (b<0))=true then (Bu (L a.natAbs) (L b.natAbs)).bind fun r2=>(jb (decide (a<0)) r2).bind fun a8=>some a8 else (sA (L a.natAbs) (L b.natAbs)).bind fun r2=>if (decide ((0:Int)<=r2))=true then (u9 (L a.natAbs) (L b.natAbs)).bind fun aJ=>(jb (decide (a<0)) aJ).bind fun bz=>some bz else (u9 (L b.natAbs) (L a.natAbs)).bind fun aJ=>(jb (decide (b<0)) aJ).bind fun bz=>some bz):=rfl;rw[bJ];by_cases h:decide (a<0)=decide (b<0)
 ·rw[dw (by simpa using h)];obtain⟨r,r1,r2,aL,a8⟩:=aeL (hK a.natAbs) (hK b.natAbs) (by omega) (by omega);rw[eo (by omega),eo (by omega)] at aL;rw[r1,dA,adN r2 (by omega) (by omega),aL,Va h];rfl
 ·rw[dz (by simpa using h),vo (ix _) (ix _) (by omega),eo (by omega),eo (by omega),dA]
  by_cases a2:(b.natAbs:Int)<=a.natAbs
  ·have zm:0<=lx (a.natAbs:Int) b.natAbs:=by
    apply Int.not_lt.mp;intro h1;have:=wx.1 h1;omega
   rw[dw (by simpa using zm),sub_eq (hK _) (hK _) (HU (by omega) a2) (by rw[eo (by omega),eo (by omega)];exact a2) (by omega),eo (by omega),eo (by omega),dA,sG (by omega) (by omega),(Ig h).1];rfl
  ·have zm : ¬0<=lx (a.natAbs:Int) b.natAbs:=by
    have:=wx.2 (show (a.natAbs:Int)<b.natAbs by omega);omega
   rw[dz (by simpa using zm),sub_eq (hK _) (hK _) (HU (by omega) (by omega)) (by rw[eo (by omega),eo (by omega)];omega) (by omega),eo (by omega),eo (by omega),dA,sG (by omega) (by omega),(Ig h).2];rfl
theorem TX {a b:Int}(bG:(a.natAbs:Int)<B 50)(aU:(b.natAbs:Int)<B 50):wc (gC a) (gC b)=some (gC (a+b)):=by
 have uR:=(hH (k:=50) (n:=a.natAbs) (by omega)).2 bG;have th:=(hH (k:=50) (n:=b.natAbs) (by omega)).2 aU;have bJ:wc (gC a) (gC b)=((rK (L a.natAbs) (L b.natAbs)).bind fun r1=>if (decide (a<0) == decide (b<0))=true then (BE (L a.natAbs) (L b.natAbs)).bind fun r2=>(mR (decide (a<0)) r2).bind fun a8=>some a8 else if (decide ((0:Int)<=r1))=true then (wk (L a.natAbs) (L b.natAbs)).bind fun aJ=>(mR (decide (a<0)) aJ).bind fun bz=>some bz else (wk (L b.natAbs) (L a.natAbs)).bind fun aJ=>(mR (decide (b<0)) aJ).bind fun bz=>some bz):=rfl;rw[bJ,Hy (ix _) (ix _) (by omega),eo (by omega),eo (by omega),dA];by_cases h:decide (a<0)=decide (b<0)
 ·rw[dw (by simpa using h),afq (hK _) (hK _) (by omega) (by omega),eo (by omega),eo (by omega),dA,sF (by omega),Va h];rfl
 ·rw[dz (by simpa using h)]
  by_cases a2:(b.natAbs:Int)<=a.natAbs
  ·have zm:0<=lx (a.natAbs:Int) b.natAbs:=by
    apply Int.not_lt.mp;intro h1;have:=wx.1 h1;omega
   rw[dw (by simpa using zm),TW (hK _) (hK _) (HU (by omega) a2) (by rw[eo (by omega),eo (by omega)];exact a2) (by omega),eo (by omega),eo (by omega),dA,sF (by omega),(Ig h).1];rfl
  ·have zm : ¬0<=lx (a.natAbs:Int) b.natAbs:=by
    have:=wx.2 (show (a.natAbs:Int)<b.natAbs by omega);omega
   rw[dz (by simpa using zm),TW (hK _) (hK _) (HU (by omega) (by omega)) (by rw[eo (by omega),eo (by omega)];omega) (by omega),eo (by omega),eo (by omega),dA,sF (by omega),(Ig h).2];rfl
theorem Mz {b:Int}:eK (!(decide (b<0))) (b.natAbs:Int) = -b:=by
 unfold eK;by_cases h:b<0
 ·simp only[h,decide_true,Bool.not_true,Bool.false_eq_true,if_false];omega
 ·simp only[h,decide_false,Bool.not_false,if_true];omega
theorem adQ {a b:Int}(bG:(a.natAbs:Int)<B 50)(aU:(b.natAbs:Int)<B 50):xC (gC a) (gC b)=some (gC (a-b)):=by have bJ:xC (gC a) (gC b)=(((mR (!(decide (b<0))) (L b.natAbs)).bind fun r=>some r).bind fun r1=>(wc (gC a) r1).bind fun aL=>some aL):=rfl;rw[bJ,sF (by omega),Mz,dA,dA,TX bG (by omega),dA,Int.sub_eq_add_neg]
theorem Fr.neg {q:Int×Int}(h:Fr q):Fr (-q.1,q.2):=⟨h.pos,by simp only;rw[Int.neg_gcd];exact h.NY,by simp only;have:=h.num;omega,h.den⟩
theorem adR {q:Int×Int}(h:Fr q):sC (mk q)=some (mk (-q.1,q.2)):=by have h1:=h.num;have h2:=h.oq;have R:=My;have bJ:sC (mk q)=((jb (!(decide (q.1<0))) (L q.1.natAbs)).bind fun r1=>if (([]:ar)++L q.2).length*8<=140737488355328 then some (⟨r1,([]:ar)++L q.2⟩:aE) else none):=rfl;rw[bJ,sG (by omega) (by omega),Mz,dA,dw (by simp;omega)];rfl
theorem HV {p q:Int×Int}(ag:Fr p)(a4:Fr q):((p.1*q.2).natAbs:Int)<B 48/\(L (p.1.natAbs*q.2:Int)).length<=48/\0<=(p.1.natAbs*q.2:Int):=by have aQ:=a4.pos;have a7:=uq (x:=p.1.natAbs) (y:=q.2) (by omega) (by omega) ag.num a4.den;have zA:0<=(p.1.natAbs:Int)*q.2:=Int.mul_nonneg (by omega) (by omega);rw[ES (by omega)];exact⟨(hH zA).1 a7,a7,zA⟩
theorem MA:B 48+B 48<=B 50:=by have h1:B 49<=B 50:=sK (by omega);have h2:=pk 48;rw[nA] at h1;omega
theorem adS {p q:Int×Int}(ag:Fr p)(a4:Fr q):tk (mk p) (mk q)=some (enc (low (p.1*q.2+q.1*p.2) (p.2*q.2))):=by
 have h1:=ag.oY;have h2:=ag.oq;have R:=a4.oY;have ah:=a4.oq;have ax:=ag.pos;have aQ:=a4.pos;have V6:=ag.num;have p8:=a4.num;have alc:=ag.den;have ald:=a4.den;have f6:=MA;have akt:B 24<=B 48:=sK (by omega);have aku:B 50<=B 60:=sK (by omega);obtain⟨bl,cr,ku⟩:=HV ag a4;obtain⟨d1,d2,d3⟩:=HV a4 ag;have VY:=pk 48;have e1:i4 (L p.1.natAbs) (L q.2)=some (L ((p.1.natAbs:Int)*q.2)):=by rw[mul_eq (hK _) (hK _) (by omega) (by omega),eo (by omega),eo (by omega)]
 have e2:i4 (L q.1.natAbs) (L p.2)=some (L ((q.1.natAbs:Int)*p.2)):=by rw[mul_eq (hK _) (hK _) (by omega) (by omega),eo (by omega),eo (by omega)]
 have bM:jb (decide (p.1<0)) (L ((p.1.natAbs:Int)*q.2))=some (gC (p.1*q.2)):=by rw[sG ku (by rw[<- ES (by omega)];omega),BW]
 have db:jb (decide (q.1<0)) (L ((q.1.natAbs:Int)*p.2))=some (gC (q.1*p.2)):=by rw[sG d3 (by rw[<- ES (by omega)];omega),BW]
 have dW:sB (gC (p.1*q.2)) (gC (q.1*p.2))=some (gC (p.1*q.2+q.1*p.2)):=Tp (by omega) (by omega);have bb:=uq (x:=p.2) (y:=q.2) (by omega) (by omega) ag.den a4.den;have ei:i4 (L p.2) (L q.2)=some (L (p.2*q.2)):=by rw[mul_eq (hK _) (hK _) (by omega) (by omega),eo (by omega),eo (by omega)]
 have VR:(L (p.1*q.2+q.1*p.2).natAbs).length<=50:=(hH (by omega)).2 (by omega)
 have ez:pS (decide (p.1*q.2+q.1*p.2<0)) (L (p.1*q.2+q.1*p.2).natAbs) (L (p.2*q.2))=some (enc (low (p.1*q.2+q.1*p.2) (p.2*q.2))):=by
  rw[LI (by omega) (Int.mul_pos ax aQ) (by omega) (by omega)]
  have:eK (decide (p.1*q.2+q.1*p.2<0)) ((p.1*q.2+q.1*p.2).natAbs:Int)=p.1*q.2+q.1*p.2:=by
   have:=BW (a:=p.1*q.2+q.1*p.2) (b:=1)
   rwa [Int.mul_one,Int.mul_one] at this
  rw[this]
 have VZ:((i4 (L p.1.natAbs) (L q.2)).bind fun bz=>(jb (decide (p.1<0)) bz).bind fun bp=>(i4 (L q.1.natAbs) (L p.2)).bind fun bC=>(jb (decide (q.1<0)) bC).bind fun cS=>(sB bp cS).bind fun fG=>(i4 (L p.2) (L q.2)).bind fun gz=>(pS fG.cz fG.b9 gz).bind fun gV=>some gV)=some (enc (low (p.1*q.2+q.1*p.2) (p.2*q.2))):=by rw[e1,dA,bM,dA,e2,dA,db,dA,dW,dA,ei,dA];show (pS (decide (p.1*q.2+q.1*p.2<0)) (L (p.1*q.2+q.1*p.2).natAbs) (L (p.2*q.2))).bind _=_;rw[ez,dA]
 have bJ:tk (mk p) (mk q)=((tj (L p.2)).bind fun r1=>if r1=true then (tj (L q.2)).bind fun a8=>if a8=true then (sB (gC p.1) (gC q.1)).bind fun bz=>(pS bz.cz bz.b9 ([1]:ar)).bind fun bp=>some bp else ((i4 (L p.1.natAbs) (L q.2)).bind fun bz=>(jb (decide (p.1<0)) bz).bind fun bp=>(i4 (L q.1.natAbs) (L p.2)).bind fun bC=>(jb (decide (q.1<0)) bC).bind fun cS=>(sB bp cS).bind fun fG=>(i4 (L p.2) (L q.2)).bind fun gz=>(pS fG.cz fG.b9 gz).bind fun gV=>some gV) else ((i4 (L p.1.natAbs) (L q.2)).bind fun bz=>(jb (decide (p.1<0)) bz).bind fun bp=>(i4 (L q.1.natAbs) (L p.2)).bind fun bC=>(jb (decide (q.1<0)) bC).bind fun cS=>(sB bp cS).bind fun fG=>(i4 (L p.2) (L q.2)).bind fun gz=>(pS fG.cz fG.b9 gz).bind fun gV=>some gV)):=rfl;rw[bJ,B6 (by omega),dA];by_cases bO:p.2=1
 ·rw[dw (by simpa using bO),B6 (by omega),dA]
  by_cases aN:q.2=1
  ·rw[dw (by simpa using aN),Tp (by omega) (by omega),dA];have f7:p.1*q.2+q.1*p.2=p.1+q.1:=(by rw[bO,aN,Int.mul_one,Int.mul_one]);have Xt:p.2*q.2=1:=(by rw[bO,aN];rfl);rw[f7,Xt,MN] at ez;rw[f7,Xt];show (pS (decide (p.1+q.1<0)) (L (p.1+q.1).natAbs) [1]).bind _=_;rw[ez,dA]
  ·rw[dz (by simpa using aN)];exact VZ
 ·rw[dz (by simpa using bO)];exact VZ
def mn (n:Int):Int:=if n=0 then 0 else if n<0 then -1 else 1
theorem adT {p:Int×Int}(ag:Fr p):mx (mk p)=some (mn p.1):=by
 have h1:q8 (mk p)=some true:=af1 (x:=some p) (aeJ ag);have bJ:mx (mk p)=(q8 (mk p)).bind (fun r1=>if r1=true then (if ((len_ eI (L p.1.natAbs)) == (0:Int))=true then some 0 else if (decide (p.1<0))=true then some (-1) else some 1) else some 0):=rfl;rw[bJ,h1,dA,dw rfl,fU];unfold mn;by_cases h:p.1=0
 ·rw[dw (by rw[h];simp[qv]),dw h]
 ·rw[dz (by simp only[beq_iff_eq];intro h2;have:=(Cr (n:=p.1.natAbs) (by omega)).1 h2;omega),dz h]
  by_cases R:p.1<0
  ·rw[dw (by simpa using R),dw R]
  ·rw[dz (by simpa using R),dz R]
theorem adU {p:Int×Int}:u1 (Vy p)=some (mn p.1):=by
 have bJ:u1 (Vy p)=((if ((len_ eI (L p.1.natAbs)) == (0:Int))=true then some 0 else if (decide (p.1<0))=true then some (-1) else some 1:Option Int)).bind (fun r=>some r):=rfl;rw[bJ,fU];unfold mn;by_cases h:p.1=0
 ·rw[dw (by rw[h];simp[qv]),dw h];rfl
 ·rw[dz (by simp only[beq_iff_eq];intro h2;have:=(Cr (n:=p.1.natAbs) (by omega)).1 h2;omega),dz h]
  by_cases R:p.1<0
  ·rw[dw (by simpa using R),dw R];rfl
  ·rw[dz (by simpa using R),dz R];rfl
def sN (n:Int):Bool:=decide (-100<=n/\n<=100)
def sV (zE:Nat)(l:ar):Bool:=decide (l.length=2*zE) && l.all sN
theorem ac1 (n:Int):D0 n=some (sN n):=by unfold D0 sN;by_cases h : -100<=n<;>simp[h]
theorem Tq (s:dc)(p:Bool)(ag:oa s=some p)(tV:p=true->s.ca.length<=6)(l:ar)(aS:l.length<=maxLen):ti s l=some (p && sV s.ca.length l):=by
 have hm:=BF;unfold ti;simp only[ag,dC,dA,fH]
 cases p with
 | false=>rfl
 | true =>
  have tV:=tV rfl;have hw:U (2*((s.ca.length:Nat):Int))=2*((s.ca.length:Nat):Int):=cT (by omega) (by omega);rw[hw];unfold sV;by_cases e:l.length=2*s.ca.length
  ·have h1:Rr l (l.length:Nat) 0=some (if l.all sN then .inl () else .inr ()):=by
    refine TN (f:=fun w=>AM l (l.length:Nat) w) l sN (fun n x ab=> ?_) ?_
    ·have eA:=gF ab
     unfold AM;have c:(n:Int)<(l.length:Int):=(by omega);have eG:0<=(n:Int)/\(n:Int)<(l.length:Int):=(by omega);simp only[decide_eq_true c,if_true,dw eG,dx,ab,dC,dA,oQ];rw[i1 (by omega)];unfold sN;by_cases q : -100<=x/\x<=100
     ·simp[q]
     ·rw[decide_eq_false q];simp
    ·simp[AM]
   have c:((l.length:Int) != 2*(s.ca.length:Int))=false:=(by simp;omega);simp only[c,h1,Bool.false_eq_true,if_false,if_true,dA];cases l.all sN<;>simp[e]
  ·have c:((l.length:Int) != 2*(s.ca.length:Int))=true:=(by simp;omega);simp only[c,if_true];simp[e]
theorem aco (s:dc)(tV:s.ca.length<=6)(l:ar)(aS:l.length<=maxLen):DQ s l=some (sV s.ca.length l):=by
 have hm:=BF;have hw:U (2*((s.ca.length:Nat):Int))=2*((s.ca.length:Nat):Int):=cT (by omega) (by omega);unfold DQ GR GU sV;simp only[fH,hw,dC];obtain⟨r,h1,h2⟩:=Tg (f:=fun w=>zJ l (l.length:Nat) w) l (fun n=> !sN n) (fun n x ab=>by have eA:=gF ab;unfold zJ G4;have c:(n:Int)<(l.length:Int):=(by omega);have eG:0<=(n:Int)/\(n:Int)<(l.length:Int):=(by omega);simp only[decide_eq_true c,if_true,dw eG,dx,ab,dC,dA,ac1];rw[i1 (by omega)];cases sN x<;>rfl) (by simp[zJ]);have s0:OO l (l.length:Nat) 0=some r:=h1;rw[s0];have aho:(l.any fun n=> !sN n) = !l.all sN:=by rw[List.not_all_eq_any_not]
 rw[aho] at h2;by_cases e:l.length=2*s.ca.length
 ·have c:((l.length:Int) == 2*(s.ca.length:Int))=true:=by simp;omega
  rw[c];rcases h2 with ⟨k,rfl,aX,bG⟩|⟨rfl,bG⟩
  ·simp only[Bool.not_eq_true'] at bG;simp[e,bG,aX]
  ·simp only[Bool.not_eq_false'] at bG;simp[e,bG]
 ·have c:((l.length:Int) == 2*(s.ca.length:Int))=false:=(by simp;omega);rw[c];simp[e]
theorem pK {i:Int}{a:Nat}(h0:0<=i)(h1:i<=100)(bG:a<=1):U (U (2*i)+(a:Int))=(((2*i+a).toNat:Nat):Int):=by rw[cT (x:=2*i) (by omega) (by omega),cT (by omega) (by omega)];omega
theorem acp (l:ar)(h:l.length<=1048576):DH l=some l:=by
 have aU : ∀(n:Nat) x (row:ar),l[n]? = some x->row.length=l.length->xn l n row=some (.inl (((n+1:Nat):Int),row.set n x)):=by intro n x row ab ai;obtain⟨aV,rfl⟩:=List.getElem?_eq_some_iff.1 ab;have hw:U ((n:Int)+1)=((n+1:Nat):Int):=(by rw[cT (by omega) (by omega)];rfl);simp only[xn,fH,hw];simp[aV,ai]
 have he : ∀row:ar,xn l l.length row=some (.inr row):=by intro row;simp[xn,fH]
 have h1:QO l 0 (List.replicate (len_ eI l).toNat 0)=some l :=
  LC l (List.replicate (len_ eI l).toNat 0) (by simp[fH]) aU he
 unfold DH;rw[h1,dw (by rw[fH];omega)];simp[fH]
theorem abF (l:List cV)(h:l.length<=1048576):Dt l=some l:=by
 have aU : ∀(n:Nat) x (row:List cV),l[n]? = some x->row.length=l.length->xl l n row=some (.inl (((n+1:Nat):Int),row.set n x)):=by intro n x row ab ai;obtain⟨aV,rfl⟩:=List.getElem?_eq_some_iff.1 ab;have hw:U ((n:Int)+1)=((n+1:Nat):Int):=(by rw[cT (by omega) (by omega)];rfl);simp only[xl,fH,hw,Hj];simp[aV,ai]
 have he : ∀row:List cV,xl l l.length row=some (.inr row):=by intro row;simp[xl,fH]
 have h1:P7 l 0 (List.replicate (len_ bZ l).toNat (⟨ByteArray.empty,0,0,false⟩:cV))=some l :=
  LC l _ (by simp[fH]) aU he
 unfold Dt;rw[h1,dw (by rw[fH];omega)];simp[fH]
theorem abn (l:List dg)(h:l.length<=1048576):Dq l=some l:=by
 have aU : ∀(n:Nat) x (row:List dg),l[n]? = some x->row.length=l.length->xk l n row=some (.inl (((n+1:Nat):Int),row.set n x)):=by intro n x row ab ai;obtain⟨aV,rfl⟩:=List.getElem?_eq_some_iff.1 ab;have hw:U ((n:Int)+1)=((n+1:Nat):Int):=(by rw[cT (by omega) (by omega)];rfl);simp only[xk,fH,hw,Hb];simp[aV,ai]
 have he : ∀row:List dg,xk l l.length row=some (.inr row):=by intro row;simp[xk,fH]
 have h1:P2 l 0 (List.replicate (len_ b7 l).toNat (⟨0,0,0⟩:dg))=some l :=
  LC l _ (by simp[fH]) aU he
 unfold Dq;rw[h1,dw (by rw[fH];omega)];simp[fH]
theorem aaG (s:dc)(h1:s.ca.length<=1048576)(h2:s.bI.length<=1048576):Dk s=some (s.ca,s.bI):=by simp[Dk,abF _ h1,abn _ h2]
def N3 (P:List ar):bR->Prop
 | none=>True
 | some (k,c)=> ∃x,P[k]? = some x/\x.length=c/\c<=1048576
theorem N3.set {P:List ar}{k:Nat}{x y:ar}(ab:P[k]? = some x)(aZ:y.length=x.length){h:bR}(gL:N3 P h):N3 (P.set k y) h:=by
 cases h with
 | none=>trivial
 | some p =>
  obtain⟨j,c⟩:=p;obtain⟨z,h1,h2,R⟩:=gL;by_cases au:k=j
  ·subst au;rw[ab] at h1;obtain rfl:=dI h1;exact⟨y,by rw[List.getElem?_set,dw rfl,dw (gF ab)],by omega,R⟩
  ·exact⟨z,by rw[List.getElem?_set,dz au];exact h1,h2,R⟩
def l3:List cV->Nat->List Nat
 | [],_=>[]
 | x::l,n=>if x.mA then l3 l (n+1) else n::l3 l (n+1)
theorem L0 : ∀(l:List cV) (n i:Nat),i∈l3 l n->n<=i/\i<n+l.length
 | [],n,i,h=>by simp[l3] at h
 | x::l,n,i,h=>by
  rw[l3] at h;simp only[List.length_cons];split at h
  ·have:=L0 l (n+1) i h;omega
  ·rcases List.mem_cons.1 h with h|h
   ·omega
   ·have:=L0 l (n+1) i h;omega
theorem TY : ∀(l:List cV) (n:Nat),(l3 l n).length<=l.length
 | [],n=>by simp[l3]
 | x::l,n=>by rw[l3];have:=TY l (n+1);split<;>simp only[List.length_cons]<;>omega
theorem ac2 {l:List cV}{n:Nat}{x:cV}(h:l[n]? = some x)(m:Nat):l3 (l.drop n) m=if x.mA then l3 (l.drop (n+1)) (m+1) else m::l3 (l.drop (n+1)) (m+1):=by rw[TO h,l3]
theorem Tr {f:Int×ar->Option ((Int×ar)⊕ar)}(ik:List cV)(tV:ik.length<=1000)
 (h : ∀(n:Nat) acc x,ik[n]? = some x->f ((n:Int),acc)=if x.mA=true then some (.inl (U ((n:Int)+1),acc)) else if (acc++[(n:Int)]).length*8<=140737488355328 then some (.inl (U ((n:Int)+1),acc++[(n:Int)])) else none)
 (he : ∀acc,f ((ik.length:Int),acc)=some (.inr acc)):iter f ((0:Int),[])=some ((l3 ik 0).map (fun n:Nat=>(n:Int))):=by
 obtain⟨s,h1,h2⟩:=hU (fun (n:Nat) (acc:ar)=>((n:Int),acc)) ik.length (fun n acc=>acc++(l3 (ik.drop n) n).map (fun n:Nat=>(n:Int))=(l3 ik 0).map (fun n:Nat=>(n:Int))/\acc.length<=n) (fun acc=>acc) (f:=f) (fun n aV acc cN=>by
  obtain⟨cN,aS⟩:=cN;have ab:=dy aV;rw[ac2 ab] at cN;rw[h n acc _ ab,pr (by omega)];by_cases c:ik[n].mA=true
  ·rw[dw c] at cN ⊢;exact⟨_,rfl,cN,by omega⟩
  ·rw[dz c] at cN ⊢;rw[dw (by simp only[dF,List.length_cons,List.length_nil];omega)];refine⟨_,rfl,?_,by simp only[dF,List.length_cons,List.length_nil];omega⟩;rw[List.append_assoc];exact cN) (fun acc _=>he acc) [] ⟨by rw[List.drop_zero];rfl,by simp⟩
 obtain⟨h2,-⟩:=h2;rw[List.drop_length] at h2;simp only[l3,List.map_nil,List.append_nil] at h2;subst h2;exact h1
theorem Lx (s:dc)(tV:s.ca.length<=1000):ud s=some ((l3 s.ca 0).map (fun n:Nat=>(n:Int))):=by
 unfold ud Q9
 rw[fH,Tr s.ca tV (fun n acc x ab=>by
  have aV:=gF ab;unfold Df;exact dv (by omega) (bt (by omega) (av (gt rfl ab) rfl))) (fun acc=>by
  unfold Df;exact ea (by omega) rfl)]
 rfl
theorem RX (s:dc)(tV:s.ca.length<=1000):z1 s=some ((l3 s.ca 0).map (fun n:Nat=>(n:Int))):=by
 unfold z1 OR
 rw[fH,Tr s.ca tV (fun n acc x ab=>by
  have aV:=gF ab;unfold C4;exact dv (by omega) (bt (by omega) (av (gt rfl ab) rfl))) (fun acc=>by
  unfold C4;exact ea (by omega) rfl)]
 rfl
def hlen:bR->Nat
 | none=>0
 | some (_,c)=>c
def ep (x:Rat):Int×Int:=(x.num,(x.den:Int))
def eN (x:Rat):Prop:=(x.num.natAbs:Int)<B 24/\(x.den:Int)<B 24
def cb (x:Rat):aE:=mk (ep x)
instance aj5 (x:Rat):Decidable (eN x):=by unfold eN;infer_instance
theorem eN.df {x:Rat}(h:eN x):Fr (ep x):=⟨by have:=x.den_pos;simp only[ep];omega,by simp only[ep];rw[Int.gcd,Int.natAbs_natCast];exact x.reduced,h.1,h.2⟩
theorem afr {n d:Int}(bF:0<d):low n d=if eN (Rat.divInt n d) then some (ep (Rat.divInt n d)) else none:=by
 have e1:(Rat.divInt n d).num=n / (Int.gcd n d:Int):=by rw[Rat.num_divInt,Int.sign_eq_one_of_pos bF,Int.one_mul,Int.gcd_comm]
 have e2:((Rat.divInt n d).den:Int)=d / (Int.gcd n d:Int):=by rw[Rat.den_divInt,dz (by omega),Int.gcd_comm];rw[Int.natCast_ediv,Int.natAbs_of_nonneg (by omega)]
 have bM:eN (Rat.divInt n d)↔fits ((n / (Int.gcd n d:Int)).natAbs:Int)/\fits (d / (Int.gcd n d:Int)):=by unfold eN fits;rw[e1,e2]
 unfold low;by_cases c:eN (Rat.divInt n d)
 ·rw[dw c,dw (bM.1 c)];unfold ep;rw[e1,e2]
 ·rw[dz c,dz (fun x=>c (bM.2 x))]
theorem L1 {n d:Int}{x:Rat}(bF:0<d)(e:(d:Rat)*x=n)(h:eN x):low n d=some (ep x):=by
 have r8:(d:Rat)≠0:=fun c=>by have:d=0:=Rat.intCast_inj.1 (by rw[c];rfl);omega
 have:x=Rat.divInt n d:=by rw[Rat.divInt_eq_div,<- e];grind
 rw[afr bF,<- this,dw h]
theorem ur (x:Rat):((x.den:Int):Rat)*x=((x.num:Int):Rat):=by
 have h:x=(x.num:Rat) / ((x.den:Int):Rat):=by rw[<- Rat.divInt_eq_div,Rat.num_divInt_den]
 have bF:((x.den:Int):Rat)≠0:=fun c=>by have:(x.den:Int)=0:=Rat.intCast_inj.1 (by rw[c];rfl);have:=x.den_pos;omega
 conv=>lhs;rhs;rw[h]
 grind
theorem Vb {x y:Rat}(ab:eN x)(aZ:eN y)(h:eN (x*y)):va (cb x) (cb y)=some (cb (x*y)):=by unfold cb;rw[adI ab.df aZ.df,L1 (x:=x*y) (Int.mul_pos ab.df.pos aZ.df.pos) ?_ h];rfl;have h1:=ur x;have h2:=ur y;simp only[ep,dN];grind
theorem MB {x y:Rat}(ab:eN x)(aZ:eN y)(h:eN (x+y)):tk (cb x) (cb y)=some (cb (x+y)):=by unfold cb;rw[adS ab.df aZ.df,L1 (x:=x+y) (Int.mul_pos ab.df.pos aZ.df.pos) ?_ h];rfl;have h1:=ur x;have h2:=ur y;simp only[ep,dN,Rat.intCast_add];grind
theorem eN.neg {x:Rat}(h:eN x):eN (-x):=by unfold eN at h ⊢;rw[Rat.neg_num,Rat.neg_den,Int.natAbs_neg];exact h
theorem ET {x:Rat}(ab:eN x):sC (cb x)=some (cb (-x)):=by unfold cb;rw[adR ab.df];simp only[ep,Rat.neg_num,Rat.neg_den]
theorem aeM {p:Int×Int}(h:Fr p):q8 (mk p)=some true:=by
 have Jr:(L p.1.natAbs).length<=24:=(hH (by omega)).2 h.num;have F7:(L p.2).length<=24:=(hH (by have:=h.pos;omega)).2 h.den;have ag:=h.pos;obtain⟨bO,gM,gX⟩:=Hz (a:=L p.1.natAbs) (by omega);obtain⟨aN,iX,j6⟩:=Hz (a:=L p.2) (by omega);have h1:bO=true:=gX.2 ⟨ix _,by omega⟩;have h2:aN=true:=j6.2 ⟨ix _,by omega⟩;subst h1;subst h2;have bF:(L p.2)≠[]:=fun c=>by have:=sT.1 c;omega
 have Jt:=List.length_pos_iff.mpr bF
 have e1:xM (mk p).dn=some true:=by
  unfold xM;show (ug (L p.1.natAbs)).bind _=_;rw[gM];simp only[dA,if_true,fU];show (if decide (p.1<0)=true then some (decide ((0:Int)<(L p.1.natAbs).length)) else some true)=_;by_cases c:p.1<0
  ·rw[dw (by simpa using c)];have:L p.1.natAbs≠[]:=fun c=>(by have:=sT.1 c;omega);have:=List.length_pos_iff.mpr this;rw[decide_eq_true (by omega)]
  ·rw[dz (by simpa using c)]
 unfold q8;rw[e1];simp only[dC,dA,if_true,fU];show (ug (L p.2)).bind _=_;rw[iX];simp only[dA,if_true];rw[show (mk p).eM=L p.2 from rfl,show (mk p).dn.b9=L p.1.natAbs from rfl];rw[dz (by simp[bF]),dz (by simp;omega),dz (by simp;omega)];rw[Mv (ix _) (ix _) (by omega) (by omega),eo (by omega),eo (by omega),Ie (by omega),h.NY];simp only[dA];rw[B6 (by omega)];rfl
theorem MO {x:Rat}(ab:eN x):q8 (cb x)=some true:=aeM ab.df
def jt (x:Rat):Int:=if x=0 then 0 else if x<0 then -1 else 1
theorem pg {x:Rat}(ab:eN x):mx (cb x)=some (jt x):=by
 unfold mx;rw[MO ab];simp only[dC,dA,if_true,fU];show (if (((L (ep x).1.natAbs).length:Int) == 0)=true then some 0 else if decide ((ep x).1<0)=true then some (-1) else some 1)=_;have e:((L (ep x).1.natAbs).length:Int)=0↔x.num=0:=by rw[Cr (by omega)];simp only[ep];omega
 unfold jt;by_cases h0:x=0
 ·rw[dw h0,dw];rw[beq_iff_eq,e,Rat.num_eq_zero];exact h0
 ·rw[dz h0,dz (by rw[beq_iff_eq,e,Rat.num_eq_zero];exact h0)]
  by_cases h1:x<0
  ·have h2 : ¬0<=x:=(by grind);have R : ¬0<=x.num:=fun c=>h2 (Rat.num_nonneg.1 c);rw[dw h1,dw (decide_eq_true (show (ep x).1<0 by simp only[ep];omega))]
  ·have h2:0<=x:=(by grind);have R:0<=x.num:=Rat.num_nonneg.2 h2;rw[dz h1,dz (fun c=>by have:=of_decide_eq_true c;simp only[ep] at this;omega)]
theorem af4 {x y:Rat}(ab:eN x)(aZ:eN y):xU (cb x) (cb y)=some (if x<y then -1 else if y<x then 1 else 0):=by unfold cb;rw[adK ab.df aZ.df];unfold lx;simp only[ep,<- Rat.lt_iff]
theorem Vc {x y:Rat}(ab:eN x)(aZ:eN y)(h0:y≠0)(h:eN (x / y)):xT (cb x) (cb y)=some (cb (x / y)):=by
 have h1:=ab.df.oY;have h2:=ab.df.oq;have R:=aZ.df.oY;have ah:=aZ.df.oq;have ax:=ab.df.pos;have aQ:(0:Int)<(ep y).1.natAbs:=by have:(ep y).1≠0:=fun c=>h0 (Rat.num_eq_zero.1 c);omega
 have a7:=uq (x:=(ep x).1.natAbs) (y:=(ep y).2) (by omega) (by have:=aZ.df.pos;omega) ab.df.num aZ.df.den;have bb:=uq (x:=(ep x).2) (y:=(ep y).1.natAbs) (by omega) (by omega) ab.df.den aZ.df.num;have e1:i4 (L (ep x).1.natAbs) (L (ep y).2)=some (L (((ep x).1.natAbs:Int)*(ep y).2)):=by rw[mul_eq (hK _) (hK _) (by omega) (by omega),eo (by omega),eo (by have:=aZ.df.pos;omega)]
 have e2:i4 (L (ep x).2) (L (ep y).1.natAbs)=some (L ((ep x).2*((ep y).1.natAbs:Int))):=by rw[mul_eq (hK _) (hK _) (by omega) (by omega),eo (by omega),eo (by omega)]
 unfold xT;rw[MO ab,MO aZ];simp only[dC,dA,if_true];show (i4 (L (ep x).1.natAbs) (L (ep y).2)).bind _=_;rw[e1];simp only[dA];show (i4 (L (ep x).2) (L (ep y).1.natAbs)).bind _=_;rw[e2];simp only[dA];rw[LI (Int.mul_nonneg (by omega) (by have:=aZ.df.pos;omega)) (Int.mul_pos ax aQ) (by omega) (by omega)];simp only[dA];rw[L1 (x:=x / y) (Int.mul_pos ax aQ) ?_ h];rfl;have d1:=ur x;have d2:=ur y
 have bM:eK (!((cb x).dn.cz == (cb y).dn.cz)) (((ep x).1.natAbs:Int)*(ep y).2)=(if y<0 then -1 else 1)*((ep x).1*(ep y).2):=by
  show eK (!(decide ((ep x).1<0) == decide ((ep y).1<0))) _=_;have aV:=Rat.num_nonneg (q:=y);have hm:0<=((ep x).1.natAbs:Int)*(ep y).2:=Int.mul_nonneg (by omega) (by have:=aZ.df.pos;omega)
  have Gi:y<0↔(ep y).1<0:=by
   have R:=Rat.num_nonneg (q:=y);simp only[ep];constructor
   ·intro c;have : ¬0<=y:=(by grind);have ah : ¬0<=y.num:=fun c=>this (R.1 c);omega
   ·intro c;have : ¬0<=y:=fun eG=>(by have:=R.2 eG;omega);grind
  by_cases bl:(ep x).1<0<;>by_cases cr:(ep y).1<0
  ·rw[dw (Gi.2 cr),decide_eq_true bl,decide_eq_true cr];simp only[eK,BEq.rfl,Bool.not_true,Bool.false_eq_true,if_false];rw[show ((ep x).1.natAbs:Int) = -(ep x).1 by omega];grind
  ·rw[dz (fun c=>cr (Gi.1 c)),decide_eq_true bl,decide_eq_false cr];simp only[eK,show (!(true == false))=true from rfl,if_true];rw[show ((ep x).1.natAbs:Int) = -(ep x).1 by omega];grind
  ·rw[dw (Gi.2 cr),decide_eq_false bl,decide_eq_true cr];simp only[eK,show (!(false == true))=true from rfl,if_true];rw[show ((ep x).1.natAbs:Int)=(ep x).1 by omega];grind
  ·rw[dz (fun c=>cr (Gi.1 c)),decide_eq_false bl,decide_eq_false cr];simp only[eK,BEq.rfl,Bool.not_true,Bool.false_eq_true,if_false];rw[show ((ep x).1.natAbs:Int)=(ep x).1 by omega];grind
 rw[bM]
 have db:(((ep y).1.natAbs:Int):Rat)=(if y<0 then -1 else 1)*(((ep y).1:Int):Rat):=by
  have aV:=Rat.num_nonneg (q:=y);by_cases c:y<0
  ·have:y.num<0:=by have : ¬0<=y.num:=fun h=>by have:=aV.1 h;grind
                    omega
   rw[dw c,show ((ep y).1.natAbs:Int) = -(ep y).1 by simp only[ep];omega,Rat.intCast_neg];grind
  ·have:0<=y.num:=aV.2 (by grind);rw[dz c,show ((ep y).1.natAbs:Int)=(ep y).1 by simp only[ep];omega];grind
 rw[dN,db,dN,dN];simp only[ep] at *;split<;>grind
theorem rT {n:Int}(h:m2 n):ob n=some (cb (n:Rat)):=by rw[abA h];unfold cb ep;rw[Rat.num_intCast,Rat.den_intCast];rfl
theorem Mf {n:Int}(h:m2 n):eN (n:Rat):=by have:=af3 h;unfold eN;rw[Rat.num_intCast,Rat.den_intCast];exact⟨this.num,this.den⟩
theorem TZ {n d:Int}{x:Rat}(h0:d≠0)(e:(d:Rat)*x=n)(aV:(n.natAbs:Int)<B 24)(bF:(d.natAbs:Int)<B 24):eN x:=by
 have r8:(d:Rat)≠0:=fun c=>h0 (Rat.intCast_inj.1 (by rw[c];rfl));have ab:x=Rat.divInt n d:=by rw[Rat.divInt_eq_div,<- e];grind
 rw[ab];unfold eN;rw[Rat.num_divInt,Rat.den_divInt,dz h0];constructor
 ·have h1:(d.sign*n / (d.gcd n:Int)).natAbs<=(d.sign*n).natAbs:=Int.natAbs_ediv_le_natAbs _ _;have h2:(d.sign*n).natAbs<=n.natAbs:=(by rw[Int.natAbs_mul];have:d.sign.natAbs<=1:=(by rw[Int.natAbs_sign];split<;>omega);exact Nat.le_trans (dL _ this) (by omega));omega
 ·have:d.natAbs / d.gcd n<=d.natAbs:=Nat.div_le_self _ _;omega
theorem oR {x:Rat}:jt x=0↔x=0:=by
 unfold jt;split
 ·simp_all
 ·split<;>simp_all
theorem sH {x:Rat}:0<jt x↔0<x:=by
 unfold jt;split
 ·rename_i h;rw[h];simp
 ·split
  ·rename_i h1 h2;constructor
   ·intro h;omega
   ·intro h;grind
  ·rename_i h1 h2;constructor
   ·intro h;grind
   ·intro h;omega
theorem aeN (n:Nat)(aV:n<=1000)(k:Nat)(aX:k<n)(a b:Nat->Rat)(bG:∀j,j<n->eN (a j))(aU:∀j,j<n->eN (b j))(hm:∀j,j<n->eN (-(a k)*b j))(bJ:∀j,j<n->eN (a j-a k*b j)):
 Dv k 0 n 0 n (aO n fun j=>cb (a j)) (aO n fun j=>cb (b j))=some (aO n fun j=>cb (a j-a k*b j)):=by
 unfold Dv;refine bt (by omega) (av (x:=cb (a k)) (by rw[dx];exact hn aX) (av (pg (bG k aX)) ?_));refine qm (fun h=> ?_) (fun h=> ?_)
 ·have h0:=oR.1 (by simpa using h);congr 1;exact eE fun j _=>by rw[h0];congr 1;grind
 ·refine av (ET (bG k aX)) ?_
  obtain⟨s,e1,e2⟩:=hU (f:=fun w:Int×List aE=>Ai 0 n 0 n ((n:Nat):Int) (aO n fun j=>cb (b j)) (cb (-(a k))).dn.cz (cb (-(a k))).dn.b9 (cb (-(a k))).eM w.1 w.2)
   (fun (i:Nat) (_:Unit)=>((i:Int),aO n fun j=>if j<i then cb (a j-a k*b j) else cb (a j))) n (fun _ _=>True) (fun _=>aO n fun j=>cb (a j-a k*b j))
   (fun i ad _ _=>by
     refine⟨(),?_,trivial⟩;unfold Ai;refine dv (by simp only;omega) (bt (by simp only;omega) (av (x:=cb (b i)) (by simp only;rw[dx];exact hn ad) (av (pg (aU i ad)) ?_)));refine qm (fun h=> ?_) (fun h=> ?_)
     ·refine bt (by simp only;omega) (av (x:=cb (a i)) (by simp only;rw[dx,hn ad,dz (by omega)]) ?_)
      refine av (Vb (bG k aX).neg (aU i ad) (hm i ad)) (av (MB (bG i ad) (hm i ad) (by have:=bJ i ad;rw[show a i + -(a k)*b i=a i-a k*b i by grind];exact this)) ?_);refine bt (by simp only;rw[cm];omega) ?_;simp only;rw[fl (by omega),dx,dG,kJ];congr 3
      exact eE fun j _=>by
       by_cases c:j=i
       ·subst c;rw[dw rfl,dw (by omega)];congr 1;grind
       ·rw[dz c]
        by_cases cr:j<i
        ·rw[dw cr,dw (by omega)]
        ·rw[dz cr,dz (by omega)]
     ·have h0:b i=0:=oR.1 (by simpa using h)
      simp only;rw[fl (by omega)];congr 3
      exact eE fun j _=>by
       by_cases c:j=i
       ·subst c;rw[dz (by omega),dw (by omega),h0];congr 1;grind
       ·by_cases cr:j<i
        ·rw[dw cr,dw (by omega)]
        ·rw[dz cr,dz (by omega)])
   (fun _ _=>by unfold Ai;refine ea (by simp) ?_;simp only;congr 2;exact eE fun j au=>dw au) () trivial
  refine av (x:=aO n fun j=>cb (a j-a k*b j)) ?_ rfl;unfold Qh;have bM:(aO n fun j=>if j<0 then cb (a j-a k*b j) else cb (a j))=aO n fun j=>cb (a j):=eE fun j _=>dz (by omega);rw[bM] at e1;exact e1
theorem Ts (n:Nat)(aV:n<=1000)(k:Nat)(aX:k<n)(a b:Nat->Rat)(bG:∀j,j<n->eN (a j))(aU:∀j,j<n->eN (b j))(hm:∀j,j<n->eN (-(a k)*b j))(bJ:∀j,j<n->eN (a j-a k*b j)):
 xG k 0 n (aO n fun j=>cb (a j)) (aO n fun j=>cb (b j))=some (aO n fun j=>cb (a j-a k*b j)):=by
 unfold xG;rw[cm];refine bt (by omega) (av (x:=cb (a k)) (by rw[dx];exact hn aX) (av (pg (bG k aX)) ?_));refine qm (fun h=> ?_) (fun h=> ?_)
 ·have h0:=oR.1 (by simpa using h);congr 1;exact eE fun j _=>by rw[h0];congr 1;grind
 ·refine av (ET (bG k aX)) ?_
  obtain⟨s,e1,e2⟩:=hU (f:=fun w:Int×List aE=>v7 0 n ((n:Nat):Int) (aO n fun j=>cb (b j)) (cb (-(a k))).dn.cz (cb (-(a k))).dn.b9 (cb (-(a k))).eM w.1 w.2)
   (fun (i:Nat) (_:Unit)=>((i:Int),aO n fun j=>if j<i then cb (a j-a k*b j) else cb (a j))) n (fun _ _=>True) (fun _=>aO n fun j=>cb (a j-a k*b j))
   (fun i ad _ _=>by
     refine⟨(),?_,trivial⟩;unfold v7;refine dv (by simp only;omega) (bt (by simp only;omega) (av (x:=cb (b i)) (by simp only;rw[dx];exact hn ad) (av (pg (aU i ad)) ?_)));refine qm (fun h=> ?_) (fun h=> ?_)
     ·refine bt (by simp only;rw[cm];omega) (av (x:=cb (a i)) (by simp only;rw[dx,hn ad,dz (by omega)]) ?_)
      refine av (Vb (bG k aX).neg (aU i ad) (hm i ad)) (av (MB (bG i ad) (hm i ad) (by have:=bJ i ad;rw[show a i + -(a k)*b i=a i-a k*b i by grind];exact this)) ?_);refine bt (by simp only;rw[cm];omega) ?_;simp only;rw[fl (by omega),dx,dG,kJ];congr 3
      exact eE fun j _=>by
       by_cases c:j=i
       ·subst c;rw[dw rfl,dw (by omega)];congr 1;grind
       ·rw[dz c]
        by_cases cr:j<i
        ·rw[dw cr,dw (by omega)]
        ·rw[dz cr,dz (by omega)]
     ·have h0:b i=0:=oR.1 (by simpa using h)
      simp only;rw[fl (by omega)];congr 3
      exact eE fun j _=>by
       by_cases c:j=i
       ·subst c;rw[dz (by omega),dw (by omega),h0];congr 1;grind
       ·by_cases cr:j<i
        ·rw[dw cr,dw (by omega)]
        ·rw[dz cr,dz (by omega)])
   (fun _ _=>by unfold v7;refine ea (by simp) ?_;simp only;congr 2;exact eE fun j au=>dw au) () trivial
  refine av (x:=aO n fun j=>cb (a j-a k*b j)) ?_ rfl;unfold Kb;have bM:(aO n fun j=>if j<0 then cb (a j-a k*b j) else cb (a j))=aO n fun j=>cb (a j):=eE fun j _=>dz (by omega);rw[bM] at e1;exact e1
def iq (m N:Nat):List bR:=aO m fun i=>some (i,N+1)
def cR (m:Nat)(t:bV):ar:=aO m fun i=>((t.B i:Nat):Int)
def hc (N:Nat)(t:bV)(i:Nat):List aE:=aO (N+1) fun j=>cb (t.T i j)
def gk (m N:Nat)(t:bV):List (List aE):=aO m (hc N t)
def hd (N:Nat)(c:Nat->Rat):List aE:=aO (N+1) fun j=>cb (c j)
structure IX (m N:Nat) (t:bV) (c:Nat->Rat) (r k:Nat):Prop where
 T : ∀i,i<m-> ∀j,j<=N->eN (t.T i j)
 h4 : ∀i,i<m-> ∀j,j<=N->eN ((t.cl r k).T i j)
 M : ∀i,i<m->i≠r-> ∀j,j<=N->eN (-(t.T i k)*(t.T r j / t.T r k))
 a2 : ∀j,j<=N->eN (c j)
 uE : ∀j,j<=N->eN (c j-c k*(t.T r j / t.T r k))
 hm : ∀j,j<=N->eN (-(c k)*(t.T r j / t.T r k))
theorem T0 {m N:Nat}(hm:m<=1000)(gx:N<1000){t:bV}{c:Nat->Rat}{r k:Nat}(ai:r<m)(aX:k<=N)(ag:t.T r k≠0)(h:IX m N t c r k)(mM:Int):
 xJ r k mM (iq m N) (cR m t) (hd N c) (gk m N t)=some (cR m (t.cl r k),hd N (fun j=>c j-c k*(t.T r j / t.T r k)),gk m N (t.cl r k)):=by
 have tW : ∀j,(t.cl r k).T r j=t.T r j / t.T r k:=fun j=>by simp[bV.cl]
 have v5 : ∀i j,i≠r->(t.cl r k).T i j=t.T i j-t.T i k*(t.T r j / t.T r k):=fun i j ad=>by simp[bV.cl,ad]
 unfold xJ;refine bt (by unfold iq;rw[cm];omega) (av (x:=some (r,N+1)) (by rw[dx];exact hn ai) (av (x:=(r,N+1)) rfl (av (x:=hc N t r) (f9 ai) ?_)));refine bt (by simp only;omega) (av (x:=cb (t.T r k)) (by rw[dx];exact hn (by omega)) ?_)
 obtain⟨s1,e1,-⟩:=hU (f:=fun w:Int×List (List aE)=>Aj r k (((N+1:Nat):Nat):Int) mM (iq m N) (cR m t) (hd N c) (cb (t.T r k)).dn.cz (cb (t.T r k)).dn.b9 (cb (t.T r k)).eM w.1 w.2)
  (fun (i:Nat) (_:Unit)=>((i:Int),aO m fun fo=>if fo=r then aO (N+1) (fun j=>if j<i then cb (t.T r j / t.T r k) else cb (t.T r j)) else hc N t fo)) (N+1) (fun _ _=>True)
  (fun _=>aO m fun fo=>if fo=r then hc N (t.cl r k) r else hc N t fo)
  (fun i ad _ _=>by
    refine⟨(),?_,trivial⟩;unfold Aj;refine dv (by simp only;omega) (bt (by unfold iq;rw[cm];omega) (av (x:=some (r,N+1)) (by rw[dx];exact hn ai) (av (x:=(r,N+1)) rfl ?_)));refine av (x:=aO (N+1) (fun j=>if j<i then cb (t.T r j / t.T r k) else cb (t.T r j))) (by simp only;rw[f9 ai,dw rfl]) ?_;refine bt (by simp only;omega) (av (x:=cb (t.T r i)) (by simp only;rw[dx,hn ad,dz (by omega)]) ?_);refine av (Vc (h.T r ai i (by omega)) (h.T r ai k aX) ag (by have:=h.h4 r ai i (by omega);rw[tW] at this;exact this)) ?_;simp only;rw[fl (by omega),dx,dG,kJ,kJ];congr 3;refine eE fun fo _=> ?_;by_cases bl:fo=r
    ·rw[dw bl,dw bl]
     exact eE fun j _=>by
      by_cases cr:j=i
      ·subst cr;rw[dw rfl,dw (by omega)]
      ·rw[dz cr]
       by_cases ku:j<i
       ·rw[dw ku,dw (by omega)]
       ·rw[dz ku,dz (by omega)]
    ·rw[dz bl,dz bl,dz bl])
  (fun _ _=>by
    unfold Aj;refine ea (by simp) ?_;simp only;congr 2;refine eE fun fo _=> ?_;by_cases bl:fo=r
    ·rw[dw bl,dw bl];exact eE fun j au=>by rw[dw au,tW]
    ·rw[dz bl,dz bl]) () trivial
 refine av (x:=aO m fun fo=>if fo=r then hc N (t.cl r k) r else hc N t fo) ?_ ?_
 ·unfold Qi
  have bM:(aO m fun fo=>if fo=r then aO (N+1) (fun j=>if j<0 then cb (t.T r j / t.T r k) else cb (t.T r j)) else hc N t fo)=gk m N t:=eE fun fo _=>by
   by_cases bl:fo=r
   ·rw[dw bl,bl];exact eE fun j _=>dz (by omega)
   ·rw[dz bl]
  rw[bM] at e1;exact e1
 obtain⟨s2,e2,-⟩:=hU (f:=fun w:Int×List (List aE)=>Ak r k ((m:Nat):Int) mM (iq m N) (cR m t) (hd N c) w.1 w.2)
  (fun (i:Nat) (_:Unit)=>((i:Int),aO m fun fo=>if fo=r\/fo<i then hc N (t.cl r k) fo else hc N t fo)) m (fun _ _=>True)
  (fun _=>gk m N (t.cl r k))
  (fun i ad _ _=>by
    refine⟨(),?_,trivial⟩;unfold Ak;refine dv (by simp only;omega) (qm (fun c9=> ?_) (fun Cv=> ?_))
    ·have CT:i≠r:=by intro c;subst c;simp at c9
     refine bt (by unfold iq;rw[cm];simp only;omega) (av (x:=some (i,N+1)) (by simp only;rw[dx];exact hn ad) ?_);refine bt (by unfold iq;rw[cm];omega) (av (x:=some (r,N+1)) (by rw[dx];exact hn ai) ?_);refine av (x:=(i,N+1)) rfl (av (x:=(r,N+1)) rfl ?_);refine av (x:=hc N t i) (by simp only;rw[f9 ad,dz (by omega)]) (av (x:=hc N (t.cl r k) r) (by simp only;rw[f9 ai,dw (.inl rfl)]) ?_);refine bt (by simp only;omega) ?_;refine av (aeN (N+1) (by omega) k (by omega) (fun j=>t.T i j) (fun j=>(t.cl r k).T r j) (fun j au=>h.T i ad j (by omega)) (fun j au=>h.h4 r ai j (by omega)) (fun j au=>by rw[tW];exact h.M i ad CT j (by omega)) (fun j au=>by have:=h.h4 i ad j (by omega);rw[v5 i j CT] at this;rw[tW];exact this)) ?_;simp only;rw[fl (by omega),kJ,kJ];congr 3;refine eE fun fo _=> ?_;by_cases bl:fo=r
     ·rw[dw bl,dw (.inl bl),bl]
     ·rw[dz bl]
      by_cases cr:fo=i
      ·subst cr;rw[dw rfl,dw (.inr (by omega))];exact eE fun j _=>by rw[v5 fo j CT,tW]
      ·rw[dz cr]
       by_cases ku:fo<i
       ·rw[dw (.inr ku),dw (.inr (by omega))]
       ·rw[dz (by omega),dz (by omega)]
    ·have CT:i=r:=by simp at Cv;omega
     simp only;rw[fl (by omega)];congr 3;refine eE fun fo _=> ?_;by_cases bl:fo=r\/fo<i
     ·rw[dw bl,dw (by omega)]
     ·rw[dz bl,dz (by omega)])
  (fun _ _=>by unfold Ak;refine ea (by simp) ?_;simp only;congr 2;exact eE fun fo lO=>dw (.inr lO)) () trivial
 refine av (x:=gk m N (t.cl r k)) ?_ ?_
 ·unfold Qj
  rw[show ((iq m N).length:Nat)=m from cm ..]
  have bM:(aO m fun fo=>if fo=r\/fo<0 then hc N (t.cl r k) fo else hc N t fo)=aO m fun fo=>if fo=r then hc N (t.cl r k) r else hc N t fo:=eE fun fo _=>by
   by_cases bl:fo=r
   ·rw[dw (.inl bl),dw bl,bl]
   ·rw[dz (by omega),dz bl]
  rw[bM] at e2;exact e2
 refine av (x:=hc N (t.cl r k) r) (f9 ai) (bt (by simp only;omega) ?_);refine av (Ts (N+1) (by omega) k (by omega) c (fun j=>(t.cl r k).T r j) (fun j au=>h.a2 j (by omega)) (fun j au=>h.h4 r ai j (by omega)) (fun j au=>by rw[tW];exact h.hm j (by omega)) (fun j au=>by rw[tW];exact h.uE j (by omega))) ?_;refine bt (by unfold hd;rw[cm,cm]) (bt (by unfold cR;rw[cm];omega) (bt (by unfold cR;rw[cm,dx];omega) ?_));congr 1;rw[dx,dG];congr 1
 ·unfold cR;rw[kJ];exact eE fun i _=>by simp only[bV.cl];split<;>rfl
 ·congr 1
  ·exact eE fun j _=>by rw[tW]
  ·unfold gk
   rw[kJ]
   exact eE fun i _=>by
    split
    ·rename_i bl;rw[bl]
    ·rfl
theorem aeO {m:Nat}(hm:m<=1000)(t:bV)(mM:Int)(rows:List (List aE))(cost:List aE)(j:Nat): ∃b,DM ⟨mM,rows,cR m t,cost⟩ (j:Int)=some b/\(b=true↔ ∃i,i<m/\t.B i=j):=by
 unfold DM
 obtain⟨r,e,h⟩:=ra (f:=fun w:Int=>Dd j (cR m t) ((m:Nat):Int) w) (fun (i:Nat) (_:Unit)=>(i:Int)) m (fun i _=> ∀k,k<i->t.B k≠j) (fun r=>(r = .inr ()/\ ∃i,i<m/\t.B i=j)\/(r = .inl ()/\ ¬∃i,i<m/\t.B i=j))
  (fun i ad _ cN=>by
    unfold Dd;by_cases c:t.B i=j
    ·right;refine⟨_,dv (by omega) (bt (by unfold cR;rw[cm];omega) (av (x:=((t.B i:Nat):Int)) (by rw[dx];exact f9 ad) (d9 (by simp[c]) rfl))),.inl ⟨rfl,i,ad,c⟩⟩
    ·left
     refine⟨(),dv (by omega) (bt (by unfold cR;rw[cm];omega) (av (x:=((t.B i:Nat):Int)) (by rw[dx];exact f9 ad) (e3 (by simp;omega) (by rw[fl (by omega)])))),fun k aX=> ?_⟩;by_cases e:k=i
     ·rw[e];exact c
     ·exact cN k (by omega))
  (fun _ cN=>⟨_,ea (by omega) rfl,.inr ⟨rfl,fun ⟨i,ad,e⟩=>cN i ad e⟩⟩) () (fun k aX=>by omega)
 have e5:Kv j (cR m t) (len_ eI (cR m t)) 0=some r:=by unfold Kv;rw[fU,show (cR m t).length=m from cm ..];exact e
 rcases h with ⟨rfl,h⟩|⟨rfl,h⟩
 ·exact⟨true,av e5 rfl,by simp[h]⟩
 ·exact⟨false,av e5 rfl,by simp[h]⟩
theorem afs {N:Nat}(gx:N<1000)(mM:Int)(rows:List (List aE))(jr:ar)(c:Nat->Rat){j:Nat}(au:j<=N)(a2:eN (c j)):u6 ⟨mM,rows,jr,hd N c⟩ (j:Int) false=some (jt (c j)):=by
 unfold u6;refine bt (by unfold hd;rw[cm];omega) (av (x:=cb (c j)) (by rw[dx];exact f9 (by omega)) (av (pg a2) ?_));refine av (x:= .inl (jt (c j))) ?_ rfl;unfold Re;rw[iter];have:xr mM rows jr (hd N c) (j:Int) false (jt (c j)) 0=some (.inr (.inl (jt (c j)))):=by unfold xr;exact qm (fun _=>rfl) (fun _=>rfl)
 simp only;rw[this];rfl
theorem HW {x y z w:Rat}(aZ:0<y)(hw:0<w):(x / y<=z / w↔x*w<=z*y)/\(x / y=z / w↔x*w=z*y):=by
 have e1:x*w=(x / y)*(y*w):=by grind
 have e2:z*y=(z / w)*(y*w):=by grind
 have ag:0<y*w:=Rat.mul_pos aZ hw;constructor
 ·rw[e1,e2]
  constructor
  ·intro h;exact Rat.mul_le_mul_of_nonneg_right h (Rat.le_of_lt ag)
  ·intro h;apply Classical.byContradiction;intro c;have:z / w<x / y:=(by grind);have:=Rat.mul_lt_mul_of_pos_right this ag;grind
 ·rw[e1,e2]
  constructor
  ·intro h;rw[h]
  ·intro h;have c9:y*w≠0:=(by grind);grind
def Ih (m N:Nat)(t:bV)(j:Nat)(r:Int):Prop :=
 (r = -1/\ ∀i,i<m-> ¬0<t.T i j)\/ ∃b:Nat,r=b/\b<m/\0<t.T b j/\(∀i,i<m->0<t.T i j->t.T b N*t.T i j<=t.T i N*t.T b j)/\(∀i,i<m->0<t.T i j->t.T b N*t.T i j=t.T i N*t.T b j->t.B b<=t.B i)
theorem aeP {m N:Nat}(hm:m<=1000)(gx:N<1000)(t:bV)(mM:Int)(cost:List aE){j:Nat}(au:j<=N)(h3:∀i,i<m-> ∀j,j<=N->eN (t.T i j))(a4:∀i,i<m->0<t.T i j->eN (t.T i N / t.T i j)):
 ∃r,DN ⟨mM,gk m N t,cR m t,cost⟩ (j:Int)=some r/\Ih m N t j r:=by
 unfold DN
 obtain⟨r,e,h⟩:=ra (f:=fun w:Int×Int×Bool×ar×ar=>Ar mM (gk m N t) (cR m t) cost j ((m:Nat):Int) w.1 w.2.1 w.2.2.1 w.2.2.2.1 w.2.2.2.2)
  (fun (i:Nat) (s:Int×aE)=>(s.1,(i:Int),s.2.dn.cz,s.2.dn.b9,s.2.eM)) m
  (fun n s=>(s.1 = -1/\ ∀i,i<n-> ¬0<t.T i j)\/ ∃b:Nat,s.1=b/\b<n/\0<t.T b j/\s.2=cb (t.T b N / t.T b j)/\ ∀i,i<n->0<t.T i j->t.T b N / t.T b j<t.T i N / t.T i j\/(t.T b N / t.T b j=t.T i N / t.T i j/\t.B b<=t.B i))
  (fun r=>Ih m N t j r)
  (fun n aV s cN=>by
    left;unfold Ar;have g1:0<=((n:Nat):Int)/\((n:Nat):Int)<((gk m N t).length:Nat):=(by unfold gk;rw[cm];omega);have g2:(gk m N t)[((n:Nat):Int).toNat]? = some (hc N t n):=(by rw[dx];exact f9 aV);have g3:0<=((j:Nat):Int)/\((j:Nat):Int)<((hc N t n).length:Nat):=(by unfold hc;rw[cm];omega);have g4:(hc N t n)[((j:Nat):Int).toNat]? = some (cb (t.T n j)):=(by rw[dx];exact f9 (by omega));have iT:U ((n:Int)+1)=((n+1:Nat):Int):=fl (by omega);have wl:U (len_ aP (hc N t n)-1)=(N:Int):=(by rw[fH,show (hc N t n).length=N+1 from cm ..,cT (by omega) (by omega)];omega);by_cases ag:0<t.T n j
    ·have bJ : ¬jt (t.T n j)<=0:=by have:=sH.2 ag;omega
     have g5:0<=U (len_ aP (hc N t n)-1)/\U (len_ aP (hc N t n)-1)<((hc N t n).length:Nat):=(by rw[wl];unfold hc;rw[cm];omega);have g6:(hc N t n)[(U (len_ aP (hc N t n)-1)).toNat]? = some (cb (t.T n N)):=(by rw[wl,dx];exact f9 (by omega));have g7:xT (cb (t.T n N)) (cb (t.T n j))=some (cb (t.T n N / t.T n j)):=Vc (h3 n aV N (by omega)) (h3 n aV j au) (by grind) (a4 n aV ag);rcases cN with ⟨h1,h2⟩|⟨b,h1,aU,kG,h2,R⟩
     ·refine⟨((n:Int),cb (t.T n N / t.T n j)),dv (by simp only;omega) (bt g1 (av g2 (bt g3 (av g4 (av (pg (h3 n aV j au)) (ea bJ (bt g5 (av g6 (av g7 (dv (by simp only;omega) ?_)))))))))),.inr ⟨n,rfl,by omega,ag,rfl,fun i ad jh=> ?_⟩⟩
      ·simp only;rw[iT]
      ·by_cases c:i=n
       ·subst c;exact .inr ⟨rfl,dE _⟩
       ·exact(h2 i (by omega) jh).elim
     ·have g8:xU (cb (t.T n N / t.T n j)) (⟨(⟨s.2.dn.cz,s.2.dn.b9⟩:bx),s.2.eM⟩:aE)=some (if t.T n N / t.T n j<t.T b N / t.T b j then -1 else if t.T b N / t.T b j<t.T n N / t.T n j then 1 else 0):=by
       have:(⟨(⟨s.2.dn.cz,s.2.dn.b9⟩:bx),s.2.eM⟩:aE)=cb (t.T b N / t.T b j):=h2;rw[this];exact af4 (a4 n aV ag) (a4 b (by omega) kG)
      by_cases bl:t.T n N / t.T n j<t.T b N / t.T b j
      ·rw[dw bl] at g8
       refine⟨((n:Int),cb (t.T n N / t.T n j)),dv (by simp only;omega) (bt g1 (av g2 (bt g3 (av g4 (av (pg (h3 n aV j au)) (ea bJ (bt g5 (av g6 (av g7 (ea (by simp only;omega) (av g8 (dv (by omega) ?_)))))))))))),.inr ⟨n,rfl,by omega,ag,rfl,fun i ad jh=> ?_⟩⟩
       ·simp only;rw[iT]
       ·by_cases c:i=n
        ·subst c;exact .inr ⟨rfl,dE _⟩
        ·rcases R i (by omega) jh with h|⟨h,-⟩
         ·left;grind
         ·left;rw[<- h];exact bl
      ·rw[dz bl] at g8
       by_cases cr:t.T b N / t.T b j<t.T n N / t.T n j
       ·rw[dw cr] at g8
        refine⟨s,dv (by simp only;omega) (bt g1 (av g2 (bt g3 (av g4 (av (pg (h3 n aV j au)) (ea bJ (bt g5 (av g6 (av g7 (ea (by simp only;omega) (av g8 (ea (by omega) (e3 (by decide) ?_))))))))))))),.inr ⟨b,h1,by omega,kG,h2,fun i ad jh=> ?_⟩⟩
        ·simp only;rw[iT]
        ·by_cases c:i=n
         ·subst c;exact .inl cr
         ·exact R i (by omega) jh
       ·rw[dz cr] at g8
        have N4:t.T b N / t.T b j=t.T n N / t.T n j:=(by grind);have Jv:0<=((n:Nat):Int)/\((n:Nat):Int)<((cR m t).length:Nat):=(by unfold cR;rw[cm];omega);have Jw:(cR m t)[((n:Nat):Int).toNat]? = some ((t.B n:Nat):Int):=(by rw[dx];exact f9 aV);have WV:0<=s.1/\s.1<((cR m t).length:Nat):=(by unfold cR;rw[cm];omega);have WW:(cR m t)[s.1.toNat]? = some ((t.B b:Nat):Int):=(by rw[h1,dx];exact f9 (by omega));by_cases ku:t.B n<t.B b
        ·refine⟨((n:Int),cb (t.T n N / t.T n j)),dv (by simp only;omega) (bt g1 (av g2 (bt g3 (av g4 (av (pg (h3 n aV j au)) (ea bJ (bt g5 (av g6 (av g7 (ea (by simp only;omega) (av g8 (ea (by omega) (d9 rfl (bt Jv (av Jw (bt WV (av WW (dv (by omega) ?_)))))))))))))))))),.inr ⟨n,rfl,by omega,ag,rfl,fun i ad jh=> ?_⟩⟩
         ·simp only;rw[iT]
         ·by_cases c:i=n
          ·subst c;exact .inr ⟨rfl,dE _⟩
          ·rcases R i (by omega) jh with h|⟨h,cX⟩
           ·left;grind
           ·right;exact⟨by grind,by omega⟩
        ·refine⟨s,dv (by simp only;omega) (bt g1 (av g2 (bt g3 (av g4 (av (pg (h3 n aV j au)) (ea bJ (bt g5 (av g6 (av g7 (ea (by simp only;omega) (av g8 (ea (by omega) (d9 rfl (bt Jv (av Jw (bt WV (av WW (ea (by omega) ?_)))))))))))))))))),.inr ⟨b,h1,by omega,kG,h2,fun i ad jh=> ?_⟩⟩
         ·simp only;rw[iT]
         ·by_cases c:i=n
          ·subst c;exact .inr ⟨N4,by omega⟩
          ·exact R i (by omega) jh
    ·have bJ:jt (t.T n j)<=0:=by
      have : ¬0<jt (t.T n j):=fun c=>ag (sH.1 c);omega
     refine⟨s,dv (by simp only;omega) (bt g1 (av g2 (bt g3 (av g4 (av (pg (h3 n aV j au)) (dv bJ ?_)))))),?_⟩
     ·simp only;rw[iT]
     ·rcases cN with ⟨h1,h2⟩|⟨b,h1,aU,kG,h2,R⟩
      ·exact .inl ⟨h1,fun i ad=>if c:i=n then c▸ag else h2 i (by omega)⟩
      ·exact .inr ⟨b,h1,by omega,kG,h2,fun i ad jh=>if c:i=n then (ag (c▸jh)).elim else R i (by omega) jh⟩)
  (fun s cN=>by
    refine⟨s.1,by unfold Ar;exact ea (by simp only;omega) rfl,?_⟩;rcases cN with ⟨h1,h2⟩|⟨b,h1,aU,kG,h2,R⟩
    ·exact .inl ⟨h1,h2⟩
    ·refine .inr ⟨b,h1,aU,kG,fun i ad jh=> ?_,fun i ad jh he=> ?_⟩
     ·rw[<- (HW kG jh).1]
      rcases R i ad jh with h|⟨h,-⟩
      ·exact Rat.le_of_lt h
      ·rw[h];exact Rat.le_refl
     ·rw[<- (HW kG jh).2] at he
      rcases R i ad jh with h|⟨-,h⟩
      ·rw[he] at h;grind
      ·exact h) ((-1:Int),(⟨⟨false,[]⟩,[]⟩:aE)) (.inl ⟨rfl,fun i ad=>by omega⟩)
 refine⟨r,av ?_ rfl,h⟩;unfold QY;rw[fH,show (gk m N t).length=m from cm ..];exact e
theorem EU {m N:Nat}(t:bV):(iq m N).all (tL (gk m N t))=true:=by
 rw[List.all_eq_true];intro x ab;obtain⟨i,ad,rfl⟩:=Ia.1 ab;simp only[tL];have h1:(gk m N t).length=m:=cm ..;have h2:(gk m N t).getD i []=hc N t i:=by rw[List.getD_eq_getElem?_getD,show (gk m N t)[i]? = some (hc N t i) from f9 ad];rfl
 rw[h1,h2,show (hc N t i).length=N+1 from cm ..];simp[ad]
theorem yB {m N:Nat}(t:bV):(iq m N).map (jE (gk m N t))=gk m N t:=by unfold iq;rw[Uq];exact eE fun i ad=>by have h2:(gk m N t).getD i []=hc N t i:=(by rw[List.getD_eq_getElem?_getD,show (gk m N t)[i]? = some (hc N t i) from f9 ad];rfl);simp only[jE];rw[h2];exact List.take_of_length_le (Nat.le_of_eq (cm ..))
theorem aeQ {m N:Nat}(hm:m<=1000)(gx:N<1000)(t:bV)(c:Nat->Rat)(deep:Bool)(G:Nat->Prop)(ajj:∀j,G j-> ∀i,i<m->t.B i≠j)
 (bJ : ∀j,j<N-> ∃g,u6 ⟨N,gk m N t,cR m t,hd N c⟩ (j:Int) deep=some g/\((∀i,i<m->t.B i≠j)->(0<g↔G j))) :
 ∃r,Kw deep N (iq m N) (cR m t) (hd N c) (gk m N t) (-1) 0=some r/\((r = -1/\ ∀j,j<N-> ¬G j)\/ ∃s:Nat,r=s/\s<N/\G s/\ ∀j,j<s-> ¬G j):=by
 unfold Kw
 refine ra (f:=fun w:Int×Int=>xp deep N (iq m N) (cR m t) (hd N c) (gk m N t) w.1 w.2) (fun (i:Nat) (e:Int)=>(e,(i:Int))) N
  (fun n e=>(e = -1/\ ∀j,j<n-> ¬G j)\/ ∃s:Nat,e=s/\s<N/\G s/\ ∀j,j<s-> ¬G j) _ (fun n aV e cN=> ?_) (fun e cN=> ?_) (-1) (.inl ⟨rfl,fun j au=>by omega⟩)
 ·rcases cN with ⟨rfl,h⟩|⟨s,rfl,vR,vI,aiC⟩
  ·left
   obtain⟨b,e1,e2⟩:=aeO hm t (N:Int) (gk m N t) (hd N c) n;obtain⟨g,g1,g2⟩:=bJ n aV;unfold xp
   cases b with
   | true =>
    obtain⟨i,ad,Jb⟩:=e2.1 rfl;refine⟨-1,dv (by simp only;omega) (dv (by simp) (bt (EU t) (av (by rw[yB];exact e1) (d9 rfl ?_)))),.inl ⟨rfl,fun j au dt=> ?_⟩⟩
    ·simp only;rw[fl (by omega)]
    ·by_cases c:j=n
     ·subst c;exact ajj j dt i ad Jb
     ·exact h j (by omega) dt
   | false =>
    have WX : ∀i,i<m->t.B i≠n:=fun i ad e=>(by have:=e2.2 ⟨i,ad,e⟩;simp at this);by_cases dt:G n
    ·refine⟨(n:Int),dv (by simp only;omega) (dv (by simp) (bt (EU t) (av (by rw[yB];exact e1) (e3 rfl (av (by rw[yB];exact g1) (dv ((g2 WX).2 dt) ?_)))))),.inr ⟨n,rfl,aV,dt,h⟩⟩;simp only;rw[fl (by omega)]
    ·refine⟨-1,dv (by simp only;omega) (dv (by simp) (bt (EU t) (av (by rw[yB];exact e1) (e3 rfl (av (by rw[yB];exact g1) (ea (fun x=>dt ((g2 WX).1 x)) ?_)))))),.inl ⟨rfl,fun j au=>if c:j=n then c▸dt else h j (by omega)⟩⟩;simp only;rw[fl (by omega)]
  ·right;exact⟨(s:Int),by unfold xp;exact dv (by simp only;omega) (ea (by simp only;omega) rfl),.inr ⟨s,rfl,vR,vI,aiC⟩⟩
 ·exact⟨e,by unfold xp;exact ea (by simp only;omega) rfl,cN⟩
theorem bV.acq {eQ m N K:Nat}{A obj:Nat->Nat->Rat}{t:bV}(h:gU eQ m N A t){j:Nat}(g:t.qW m K obj j): ∀i,i<m->t.B i≠j :=
 fun i ad e=>iz.not_zero g fun l _=>by rw[<- e];exact h.xX (obj l) ad
theorem Vd {eQ m N K:Nat}(hm:m<=1000)(gx:N<1000){A obj:Nat->Nat->Rat}(deep:Bool)(Inv:bV->Prop)
 (inv : ∀t,Inv t->gU eQ m N A t/\t.mj m N) (hY : ∀t r s,Inv t->oV m N K obj (fun _=>True) t r s->Inv (t.cl r s))
 (bJ : ∀t,Inv t-> ∀j,j<N-> ∃g,u6 ⟨N,gk m N t,cR m t,hd N (t.cq m (obj 0))⟩ (j:Int) deep=some g/\((∀i,i<m->t.B i≠j)->(0<g↔t.qW m K obj j)))
 (h3 : ∀t,Inv t-> ∀i,i<m-> ∀j,j<=N->eN (t.T i j)) (a4 : ∀t,Inv t-> ∀i,i<m-> ∀j,j<=N->0<t.T i j->eN (t.T i N / t.T i j))
 (ag : ∀t,Inv t-> ∀r k,r<m->k<N->t.T r k≠0->IX m N t (t.cq m (obj 0)) r k) (t:bV) (cj:Inv t) :
 ∃b cF,ub deep N (iq m N) (cR m t) (hd N (t.cq m (obj 0))) (gk m N t)=some (b,cR m cF,hd N (cF.cq m (obj 0)),gk m N cF)/\Inv cF /\
  ((b=true/\ ∀j,j<N-> ¬cF.qW m K obj j)\/(b=false/\ ∃s,s<N/\cF.qW m K obj s/\ ∀i,i<m-> ¬0<cF.T i s)):=by
 obtain⟨x,ej,cF,e,⟨Wn,cN⟩,-,-,eJ⟩:=SK (eQ:=eQ) (m:=m) (N:=N) (K:=K) (A:=A) (obj:=obj) (bL:=fun _=>True)
  (f:=fun w:ar×(List aE)×(List (List aE))=>De deep N (iq m N) w.1 w.2.1 w.2.2)
  (fun a t=>a=(cR m t,hd N (t.cq m (obj 0)),gk m N t)/\Inv t)
  (fun a x t=> ∃b,x=(b,cR m t,hd N (t.cq m (obj 0)),gk m N t)/\((b=true/\ ∀j,j<N-> ¬t.qW m K obj j)\/(b=false/\ ∃s,s<N/\t.qW m K obj s/\ ∀i,i<m-> ¬0<t.T i s)))
  (fun a t dk ok ld=>by
    obtain⟨rfl,cN⟩:=dk;obtain⟨r,e1,e2⟩:=aeQ hm gx t (t.cq m (obj 0)) deep (t.qW m K obj) (fun j dt=>bV.acq ok dt) (bJ t cN);simp only;unfold De;rcases e2 with ⟨rfl,h⟩|⟨s,rfl,Jx,dt,aS⟩
    ·left;exact⟨_,av e1 (dv (by decide) rfl),true,rfl,.inl ⟨rfl,h⟩⟩
    ·obtain⟨q,q1,q2⟩:=aeP hm gx t (N:Int) (hd N (t.cq m (obj 0))) (j:=s) (by omega) (h3 t cN) (fun i ad jh=>a4 t cN i ad s (by omega) jh)
     rcases q2 with ⟨rfl,h⟩|⟨b,rfl,aU,kG,h1,h2⟩
     ·left;exact⟨_,av e1 (ea (by omega) (bt (EU t) (av (by rw[yB];exact q1) (dv (by decide) rfl)))),false,rfl,.inr ⟨rfl,s,Jx,dt,h⟩⟩
     ·right;have cZ:oV m N K obj (fun _=>True) t b s:=⟨Jx,trivial,dt,fun j au _=>aS j au,aU,kG,h1,h2⟩;refine⟨_,b,s,av e1 (ea (by omega) (bt (EU t) (av (by rw[yB];exact q1) (ea (by omega) (av (T0 hm gx aU (by omega) (by grind) (ag t cN b s aU Jx (by grind)) N) rfl))))),cZ,?_,hY t b s cN cZ⟩;refine Prod.ext rfl (Prod.ext ?_ rfl);exact eE fun j _=>by rw[ok.HS (obj 0) aU Jx (by grind)])
  (a:=(cR m t,hd N (t.cq m (obj 0)),gk m N t)) (t:=t) ⟨rfl,cj⟩ (inv t cj).1 (inv t cj).2
 obtain⟨b,rfl,aU⟩:=eJ;refine⟨b,cF,?_,cN,aU⟩;unfold ub;exact av (x:=(b,cR m cF,hd N (cF.cq m (obj 0)),gk m N cF)) (by unfold QZ;exact e) rfl
end Go.Proofs.YthgbjflfgmahbabGreat
