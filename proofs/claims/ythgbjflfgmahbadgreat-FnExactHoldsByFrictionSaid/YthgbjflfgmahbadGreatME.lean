/- Lemmas, plain functions of the program, and what they answer. No condition. -/
import Derived.Test.YthgbjflfgmahbadGreatMD
namespace Go.Proofs.YthgbjflfgmahbadGreat
set_option linter.unusedVariables false
set_option autoImplicit true
set_option relaxedAutoImplicit true
set_option linter.unusedSimpArgs false
open Go Go.VL
def RB (pK bo:Int)(aB aL aA:ar)(iz:Int)(cz:dS):dY (Int×Bool×ar×ar×dT×ar×ans) (Bool×ar×dT×ar×ans):=⟨fun (km,fZ,fV,bn,hX,ex,hz)=>dk [(0,.ref 0 0 0 0),(5,.ref 4 0 0 0),(7,.bb 5 0 0 bn.length),(41,.n .i64 pK),(42,.n .i64 km)] [(jl 1 2 3 bo pK aB aL aA),(aq 1 eI aB),(aq 1 eI aL),(aq 1 eI aA),(kx 6 8 9 cz fZ fV ex iz hz),(aq 1 eI bn),(aq 1 (bJ 7 0 2) cz),(dV 2 ba hX),(aq 1 eI ex),(aq 1 gr hz)],fun | a=>⟨some 0,[(0,.ref 0 0 0 0),(5,.ref 4 0 0 0)],[(jl 1 2 3 bo pK aB aL aA),(aq 1 eI aB),(aq 1 eI aL),(aq 1 eI aA),(kx 5 7 8 cz a.1 a.2.1 a.2.2.2.1 iz a.2.2.2.2),(aq 1 (bJ 6 0 2) cz),(dV 2 ba a.2.2.1),(aq 1 eI a.2.2.2.1),(aq 1 gr a.2.2.2.2)]⟩⟩
def yk (pK bo:Int)(aB aL aA:ar)(iz:Int)(cz:dS)(km:Int)(fZ:Bool)(fV bn:ar)(hX:dT)(ex:ar)(hz:ans):Option ((Int×Bool×ar×ar×dT×ar×ans)⊕(Bool×ar×dT×ar×ans)) :=if (decide (km<pK))=true then if 0<=km/\km<(bn.length:Nat) then if (0+km.toNat)<(List.replicate bn.length 0:ar).length then vy fZ fV iz cz hX ex hz ((List.replicate bn.length 0:ar).set (0+km.toNat) (-1)) >>= fun bd =>some (.inl (J (km+1),bd.2.1,bd.2.2.1,((List.replicate bn.length 0:ar).set (0+km.toNat) (-1)),bd.2.2.2.1,bd.2.2.2.2.1,bd.2.2.2.2.2)) else none else none else some (.inr (fZ,fV,hX,ex,hz))
def LC (pK bo:Int)(aB aL aA:ar)(iz:Int)(cz:dS)(km:Int)(fZ:Bool)(fV bn:ar)(hX:dT)(ex:ar)(hz:ans):Option (Bool×ar×dT×ar×ans):=iter (fun w:Int×Bool×ar×ar×dT×ar×ans=>yk pK bo aB aL aA iz cz w.1 w.2.1 w.2.2.1 w.2.2.2.1 w.2.2.2.2.1 w.2.2.2.2.2.1 w.2.2.2.2.2.2) (km,fZ,fV,bn,hX,ex,hz)
theorem aal:bt (yk pK bo aB aL aA iz cz km fZ fV bn hX ex hz) (d7 bw 124 4 59 [1,1,1,1,1,1,0,1,0,0] (RB pK bo aB aL aA iz cz) (km,fZ,fV,bn,hX,ex,hz)):=.ite (fun h1=>.aO fun h2=>.aO fun U=>.ag fun bd aw=>.ret (let q1:=(List.replicate bn.length 0:ar);let q2:=j6 1 0 0 cz.length bd.2.1 bd.2.2.1 3 0 0 bd.2.2.2.2.1.length iz 4 0 0 bd.2.2.2.2.2.length;let bD:=j6 6 0 0 cz.length fZ fV 8 0 0 ex.length iz 9 0 0 hz.length;let ct:=ol [4,6,7,8,9,5];let dU:=ic [4,6,7,8,9,5];let er:=(hp (la bn.length (0:Int)) (0+km.toNat) (-1));let gT:=cl [0,1,2,3,4,5,6,7,8,9];let ig:=aq 1 eI (q1.set (0+km.toNat) (-1));let kD:=fE 1 az (q1.set (0+km.toNat) (-1));let oD:=dV 2 ba bd.2.2.2.1;a9 [(I 1),.R true,(I 2),(I 2),.ak (ab 3 (ae .ev [])),.ak (ab 2 (ae (.call {a7:=(qw [4,6,7,8,9,5]),d4:=[.bu (kx 1 3 4 cz fZ fV ex iz hz),.bu (aq 1 (bJ 2 0 2) cz),.bu (dV 2 ba hX),.pure,.pure,.cF ig],ac:=[ii,.bc (.cE (.len ((q1.set (0+km.toNat) (-1)).length)))],r:= .b bd.1,fC:=(qm cz bd.2.1 bd.2.2.1 bd.2.2.2.2.1 iz bd.2.2.2.2.2 bd.2.2.2.1 ig),hI:=ii,iN:=[.bu (kx 6 8 9 cz bd.2.1 bd.2.2.1 bd.2.2.2.2.1 iz bd.2.2.2.2.2),.bu (aq 1 (bJ 7 0 2) cz),.bu oD,.pure,.pure,.pure],e7:=[4,5,6,7,8,9],eJ:=false}) [])),(I 2),.aK [0,1,2,3,4,5,6,7,8,9] [.box c9,.pure,.pure,.pure,.box kp,.pure,.bu (aq 1 (bJ 7 0 2) cz),.bu oD,.pure,.pure] [(0,ii),(5,ii),(7,fJ ((q1.set (0+km.toNat) (-1)).length)),(41,ii),(42,ii)]] (.aV h1 (ahz (c4 eI bn) (dt bn)) h2.1 h2.2 (VQ (kG eI bn.length 0) U) (hd 1) er (kC ct 6 [(j6 1 0 0 cz.length fZ fV 3 0 0 ex.length iz 4 0 0 hz.length)] [bD] rfl) (.aV (kZ 6 [bD]) (eK ct 2 7 0 2 rfl cz) (kZ 1 (cz.map (bJ 7 0 2))) (ey ct 2 fk hX) (rU 2 ba hX) (fE 1 az ex) (fE 1 fi hz) (cS 1 (gA (kG eI bn.length 0) (0+km.toNat) (-1))) (.aV kD (kC dU 6 [(j6 6 0 0 cz.length bd.2.1 bd.2.2.1 8 0 0 bd.2.2.2.2.1.length iz 9 0 0 bd.2.2.2.2.2.length)] [q2] rfl) (kZ 6 [q2]) (eK dU 7 2 0 2 rfl cz) (kZ 1 (cz.map (bJ 2 0 2))) (ey dU 2 fk bd.2.2.2.1) (rU 2 ba bd.2.2.2.1) (fE 1 az bd.2.2.2.2.1) (.aV (fE 1 fi bd.2.2.2.2.2) kD (KG bd aw) (ap 1 az aB) (ap 1 az aL) (ap 1 az aA) (ap 1 az (q1.set (0+km.toNat) (-1))) (eK gT 7 7 0 2 rfl cz) (.c1 (ey gT 2 fk bd.2.2.2.1) (ap 1 az bd.2.2.2.2.1) (ap 1 fi bd.2.2.2.2.2) er))))))) (fun h1=>.ret (let nP:=cl [0,1,2,3,4,6,7,8,9];a9 [(I 1),.R false,.aK [0,1,2,3,4,6,7,8,9] [.box c9,.pure,.pure,.pure,.box kp,.bu (aq 1 (bJ 6 0 2) cz),.bu (dV 2 ba hX),.pure,.pure] (a2 [0,5])] (.gN h1 (ap 1 az aB) (ap 1 az aL) (ap 1 az aA) (eK nP 6 7 0 2 rfl cz) (ey nP 2 fk hX) (ap 1 az ex) (ap 1 fi hz))))
def RC (zv bo a4:Int)(aB aL aA:ar)(fZ:Bool)(fV:ar)(iz:Int)(cz:dS)(hX:dT)(ex:ar)(hz:ans):dY (Int×anz) anz:=⟨fun (pM,bn)=>dk [(0,.ref 0 0 0 0),(5,.ref 4 0 0 0),(9,.bb 5 0 0 bn.length),(59,.n .i64 zv),(60,.n .i64 pM)] [(jl 1 2 3 bo a4 aB aL aA),(aq 1 eI aB),(aq 1 eI aL),(aq 1 eI aA),(kx 6 8 9 cz fZ fV ex iz hz),(aq 1 (fj 3 cG) bn),(aq 1 (bJ 7 0 2) cz),(dV 2 ba hX),(aq 1 eI ex),(aq 1 gr hz)],fun | a=>⟨some 2,[(0,.ref 0 0 0 0),(5,.ref 4 0 0 0),(9,.bb 5 0 0 a.length)],[(jl 1 2 3 bo a4 aB aL aA),(aq 1 eI aB),(aq 1 eI aL),(aq 1 eI aA),(kx 6 8 9 cz fZ fV ex iz hz),(aq 1 (fj 3 cG) a),(aq 1 (bJ 7 0 2) cz),(dV 2 ba hX),(aq 1 eI ex),(aq 1 gr hz)]⟩⟩
def BH (zv bo a4:Int)(aB aL aA:ar)(fZ:Bool)(fV:ar)(iz:Int)(cz:dS)(hX:dT)(ex:ar)(hz:ans)(pM:Int)(bn:anz):Option ((Int×anz)⊕(anz)) :=if (decide (pM<zv))=true then w8 0 >>= fun r2 =>if 0<=pM/\pM<(bn.length:Nat) then if (0+pM.toNat)<bn.length then some (.inl (J (pM+1),bn.set (0+pM.toNat) r2)) else none else none else some (.inr bn)
def LD (zv bo a4:Int)(aB aL aA:ar)(fZ:Bool)(fV:ar)(iz:Int)(cz:dS)(hX:dT)(ex:ar)(hz:ans)(pM:Int)(bn:anz):Option (anz):=iter (fun w:Int×anz=>BH zv bo a4 aB aL aA fZ fV iz cz hX ex hz w.1 w.2) (pM,bn)
theorem aam:bt (BH zv bo a4 aB aL aA fZ fV iz cz hX ex hz pM bn) (d7 bw 124 4 59 [1,1,1,1,1,1,1,1,0,1,0,0] (RC zv bo a4 aB aL aA fZ fV iz cz hX ex hz) (pM,bn)):=.ite (fun h1=>.ag fun r2 U=>.aO fun ai=>.aO fun aw=>.ret (let q1:=cl [0,1,2,3,4,5,6,7,8,9];a9 [(I 1),.R true,(I 2),.ak (ab 2 (ae (bh 1 (ji 3 cG r2) false) (ab 1 (ae .ev [])))),(I 2),.aK [0,1,2,3,4,5,6,7,8,9] [.box c9,.pure,.pure,.pure,.box kp,.cF (aq 1 (fj 3 cG) (bn.set (0+pM.toNat) r2)),.bu (aq 1 (bJ 7 0 2) cz),.bu (dV 2 ba hX),.pure,.pure] [(0,ii),(5,ii),(9,fJ ((bn.set (0+pM.toNat) r2).length)),(59,ii),(60,ii)]] (.aV h1 (LU r2 U) ai.1 ai.2 (hk (fj 3 cG) aw) (hd 1) (ap 1 az aB) (ap 1 az aL) (.gN (ap 1 az aA) (cS 1 (gA (c4 (fj 3 cG) bn) (0+pM.toNat) r2)) (ap 1 (pC (sz:=3) nD) (bn.set (0+pM.toNat) r2)) (eK q1 7 7 0 2 rfl cz) (ey q1 2 fk hX) (ap 1 az ex) (ap 1 fi hz) (hp (dt bn) (0+pM.toNat) r2))))) (fun h1=>.ret (let q2:=cl [0,1,2,3,4,5,6,7,8,9];a9 [(I 1),.R false,.aK [0,1,2,3,4,5,6,7,8,9] [.box c9,.pure,.pure,.pure,.box kp,.pure,.bu (aq 1 (bJ 7 0 2) cz),.bu (dV 2 ba hX),.pure,.pure] (a2 [0,5,9])] (.aV h1 (ap 1 az aB) (ap 1 az aL) (ap 1 az aA) (ap 1 (pC (sz:=3) nD) bn) (eK q2 7 7 0 2 rfl cz) (ey q2 2 fk hX) (ap 1 az ex) (.e1 (ap 1 fi hz)))))
def RD (zw bo a4:Int)(aB aL aA:ar)(fZ:Bool)(fV:ar)(iz:Int)(cz:ar)(gg:dS)(vc:dT)(hz:ans):dY (Int×anz) anz:=⟨fun (rI,bn)=>dk [(0,.ref 0 0 0 0),(5,.ref 4 0 0 0),(9,.bb 5 0 0 bn.length),(71,.bb 6 0 0 cz.length),(72,.n .i64 zw),(73,.n .i64 rI)] [(jl 1 2 3 bo a4 aB aL aA),(aq 1 eI aB),(aq 1 eI aL),(aq 1 eI aA),(kx 7 6 9 gg fZ fV cz iz hz),(aq 1 (fj 3 cG) bn),(aq 1 eI cz),(aq 1 (bJ 8 0 2) gg),(dV 2 ba vc),(aq 1 gr hz)],fun | a=>⟨some 4,[(0,.ref 0 0 0 0),(9,.bb 4 0 0 a.length)],[(jl 1 2 3 bo a4 aB aL aA),(aq 1 eI aB),(aq 1 eI aL),(aq 1 eI aA),(aq 1 (fj 3 cG) a)]⟩⟩
def BI (zw bo a4:Int)(aB aL aA:ar)(fZ:Bool)(fV:ar)(iz:Int)(cz:ar)(gg:dS)(vc:dT)(hz:ans)(rI:Int)(bn:anz):Option ((Int×anz)⊕(anz)) :=if (decide (rI<zw))=true then if 0<=rI/\rI<(cz.length:Nat) then cz[(0+rI.toNat)]? >>= fun ao =>if 0<=rI/\rI<(gg.length:Nat) then gg[(0+rI.toNat)]? >>= fun b7 =>b7 >>= fun pw =>vc[pw.1]? >>= fun uB =>if 0<=iz/\iz<(pw.2:Nat) then uB[(0+iz.toNat)]? >>= fun mo =>tV mo fV >>= fun eu =>if 0<=ao/\ao<(bn.length:Nat) then if (0+ao.toNat)<bn.length then some (.inl (J (rI+1),bn.set (0+ao.toNat) eu)) else none else none else none else none else none else some (.inr bn)
def LF (zw bo a4:Int)(aB aL aA:ar)(fZ:Bool)(fV:ar)(iz:Int)(cz:ar)(gg:dS)(vc:dT)(hz:ans)(rI:Int)(bn:anz):Option (anz):=iter (fun w:Int×anz=>BI zw bo a4 aB aL aA fZ fV iz cz gg vc hz w.1 w.2) (rI,bn)
theorem aan:bt (BI zw bo a4 aB aL aA fZ fV iz cz gg vc hz rI bn) (d7 bw 124 4 59 [1,1,1,1,1,1,1,1,1,0,1,0,0] (RD zw bo a4 aB aL aA fZ fV iz cz gg vc hz) (rI,bn)):=.ite (fun h1=>.aO fun h2=>.ag fun ao ai=>.aO fun aw=>.ag fun b7 a8=>.ag fun pw b9=>.ag fun uB dp=>.aO fun eA=>.ag fun mo ef=>.ag fun eu hb=>.aO fun fW=>.aO fun hH=>.ret (let q1:=cl [0,1,2,3,4,5,6,7,8,9];let q2:=kl (hs 2 ba vc) jI dp;a9 [(I 1),.R true,.ak (bi 2 (.bT (eI ao)) 2),.ak (ab 8 (ae (.bT ((bJ 8 0 2) b7)) (ab 4 (ae (.gM 86 (.bb 8 (pw.1+0) 0 pw.2) (.gI (bK 2 ba uB) [])) (ae (.gI (bK 2 ba uB) (ba mo)) (ab 5 (ae (bh 2 (ji 3 cG eu) false) (ab 1 (ae .ev []))))))))),(I 2),.aK [0,1,2,3,4,5,6,7,8,9] [.box c9,.pure,.pure,.pure,.box kp,.cF (aq 1 (fj 3 cG) (bn.set (0+ao.toNat) eu)),.pure,.bu (aq 1 (bJ 8 0 2) gg),.bu (dV 2 ba vc),.pure] [(0,ii),(5,ii),(9,fJ ((bn.set (0+ao.toNat) eu).length)),(71,ii),(72,ii),(73,ii)]] (.aV h1 h2.1 h2.2 (bN eI ai) aw.1 aw.2 (bN (bJ 8 0 2) a8) (l8 (eD:=8) (c:=0) (sz:=2) b9) (.aV q2 eA.1 eA.2 q2 (bN ba ef) (LO eu hb) fW.1 fW.2 (.aV (hk (fj 3 cG) hH) (hd 1) (ap 1 az aB) (ap 1 az aL) (ap 1 az aA) (cS 1 (gA (c4 (fj 3 cG) bn) (0+ao.toNat) eu)) (ap 1 (pC (sz:=3) nD) (bn.set (0+ao.toNat) eu)) (ap 1 az cz) (.c1 (eK q1 8 8 0 2 rfl gg) (ey q1 2 fk vc) (ap 1 fi hz) (hp (dt bn) (0+ao.toNat) eu))))))) (fun h1=>.ret (a9 [(I 1),.R false,.aK [0,1,2,3,5] [.box c9,.pure,.pure,.pure,.pure] (a2 [0,9])] (.di h1 (ap 1 az aB) (ap 1 az aL) (ap 1 az aA) (ap 1 (pC (sz:=3) nD) bn))))
def RE (ze bo a4:Int)(aB aL aA:ar)(bl:anz):dY (anr×Int) anr:=⟨fun (jC,rE)=>dk [(0,.ref 0 0 0 0),(9,.bb 4 0 0 bl.length),(13,ji 3 cG jC),(102,.bb 4 0 0 bl.length),(103,.n .i64 ze),(104,.n .i64 rE)] [(jl 1 2 3 bo a4 aB aL aA),(aq 1 eI aB),(aq 1 eI aL),(aq 1 eI aA),(aq 1 (fj 3 cG) bl)],fun | a=>⟨some 6,[(9,.bb 4 0 0 bl.length),(13,ji 3 cG a)],[(jl 1 2 3 bo a4 aB aL aA),(aq 1 eI aB),(aq 1 eI aL),(aq 1 eI aA),(aq 1 (fj 3 cG) bl)]⟩⟩
def BJ (ze bo a4:Int)(aB aL aA:ar)(bl:anz)(jC:anr)(rE:Int):Option ((anr×Int)⊕(anr)) :=if (decide (rE<ze))=true then if 0<=rE/\rE<(bl.length:Nat) then bl[(0+rE.toNat)]? >>= fun ao =>if 0<=rE/\rE<(aA.length:Nat) then aA[(0+rE.toNat)]? >>= fun b7 =>w8 b7 >>= fun bB =>Ek ao bB >>= fun dl =>B7 jC dl >>= fun c0 =>some (.inl (c0,J (rE+1))) else none else none else some (.inr jC)
def LG (ze bo a4:Int)(aB aL aA:ar)(bl:anz)(jC:anr)(rE:Int):Option (anr):=iter (fun w:anr×Int=>BJ ze bo a4 aB aL aA bl w.1 w.2) (jC,rE)
theorem aao:bt (BJ ze bo a4 aB aL aA bl jC rE) (d7 bw 124 4 59 [1,1,1,1,1,1,1,1,1,1,1,0,1,0,0] (RE ze bo a4 aB aL aA bl) (jC,rE)):=.ite (fun h1=>.aO fun h2=>.ag fun ao ai=>.aO fun aw=>.ag fun b7 a8=>.ag fun bB b9=>.ag fun dl dp=>.ag fun c0 el=>.ret (a9 [(I 1),.R true,.ak (bi 2 (.bT ((fj 3 cG) ao)) 2),.ak (ab 8 (ae (.bT (eI b7)) (ae (bh 1 (ji 3 cG bB) false) (ae (bh 2 (ji 3 cG dl) false) (ae (bh 2 (ji 3 cG c0) false) (ab 1 [])))))),(I 2),.aK [0,1,2,3,4] [.box c9,.pure,.pure,.pure,.pure] (a2 [0,9,13,102,103,104])] (.aV h1 h2.1 h2.2 (bN (fj 3 cG) ai) aw.1 aw.2 (bN eI a8) (LU bB b9) (.eg (aa1 dl dp) (Ri c0 el) (ap 1 az aB) (ap 1 az aL) (ap 1 az aA) (ap 1 (pC (sz:=3) nD) bl))))) (fun h1=>.ret (a9 [(I 1),.R false,.aK [0,1,2,3,4] [.box c9,.pure,.pure,.pure,.pure] (a2 [9,13])] (.di h1 (ap 1 az aB) (ap 1 az aL) (ap 1 az aA) (ap 1 (pC (sz:=3) nD) bl))))
def w2 (fs eo:Int)(dh gb eB:ar):Option (Int×anz×anr) :=EW fs eo dh gb eB >>= fun r1 =>match r1 with | .inl bC=>(if 0<=bC.2.2.1/\(8:Int)*bC.2.2.1<=281474976710656/\bC.2.2.1<9223372036854775808 then if eB.length<=bC.2.2.1.toNat then vy bC.1 bC.2.1 bC.2.2.1 bC.2.2.2.1 bC.2.2.2.2.2.2 bC.2.2.2.2.1 bC.2.2.2.2.2.1 (eB++(List.replicate bC.2.2.1.toNat 0:ar).drop eB.length) >>= fun cx =>if cx.1=true then LC eo fs dh gb eB bC.2.2.1 bC.2.2.2.1 0 cx.2.1 cx.2.2.1 (eB++(List.replicate bC.2.2.1.toNat 0:ar).drop eB.length) cx.2.2.2.1 cx.2.2.2.2.1 cx.2.2.2.2.2 >>= fun bz =>if 0<=eo/\(8:Int)*eo<=281474976710656/\eo<9223372036854775808 then LD ((eo.toNat:Nat):Int) fs eo dh gb eB bz.1 bz.2.1 bC.2.2.1 bC.2.2.2.1 bz.2.2.1 bz.2.2.2.1 bz.2.2.2.2 0 (List.replicate eo.toNat (none:anr):anz) >>= fun c0 =>LF ((bz.2.2.2.1.length:Nat):Int) fs eo dh gb eB bz.1 bz.2.1 bC.2.2.1 bz.2.2.2.1 bC.2.2.2.1 bz.2.2.1 bz.2.2.2.2 0 c0 >>= fun fb =>w8 0 >>= fun dm =>LG ((fb.length:Nat):Int) fs eo dh gb eB fb dm 0 >>= fun fO =>some (0,fb,fO) else none else some (3,([]:anz),(none:anr)) else none else none) | .inr bC=>(some (2,([]:anz),(none:anr)))
set_option maxHeartbeats 4000000 in
theorem acn:bt (w2 fs eo dh gb eB) (fun a=>Con bw 59 [.ref 0 0 0 0] (tF fs eo dh gb eB) (.ea [.n .i64 a.1,.isl 1 (a.2.1.map (fj 3 cG)),ji 3 cG a.2.2]) (tF fs eo dh gb eB)):=by
 unfold w2
 exact .ag fun r1 h2 =>
  (let zZ:=lW fs eo 1 0 0 dh.length 2 0 0 gb.length 3 0 0 eB.length;have b4:=((.di (kC (ol [0,1,2,3]) 5 [zZ] [zZ] rfl) (kZ 5 [zZ]) (fE 1 az dh) (fE 1 az gb) (fE 1 az eB)):cI _);
  (by
  rcases r1 with bC|bC
  ·exact(.aO fun ai =>
  .aO fun aw =>
  .ag fun cx a8 =>
  (let og:=[(vl 0 0),(vl 1 0),(vl 2 0),(vl 3 0),(sE [(4,0)]),(sE [(4,1)]),(sE [(4,2)]),(sE [(4,3)]),(vl 4 4)];let tG:=j6 4 1 0 bC.2.2.2.1.length bC.1 bC.2.1 4 2 0 bC.2.2.2.2.1.length bC.2.2.1 4 3 0 bC.2.2.2.2.2.1.length;let kX:=dV 2 ba bC.2.2.2.2.2.2;let qA:=(eB++(List.replicate bC.2.2.1.toNat 0:ar).drop eB.length);let sH:=j6 1 0 0 bC.2.2.2.1.length cx.2.1 cx.2.2.1 3 0 0 cx.2.2.2.2.1.length bC.2.2.1 4 0 0 cx.2.2.2.2.2.length;let uA:=j6 5 0 0 bC.2.2.2.1.length bC.1 bC.2.1 6 0 0 bC.2.2.2.2.1.length bC.2.2.1 7 0 0 bC.2.2.2.2.2.1.length;let vo:=lW fs eo 1 0 0 dh.length 2 0 0 gb.length 3 0 0 eB.length;let sI:=ic [0,1,2,3,8];let zX:=aq 1 (bJ 8 0 2) bC.2.2.2.1;let xO:=cl [0,1,2,3,8];let zY:=jl 1 2 3 fs eo dh gb eB;let Dz:=ol [4,5,8,6,7,15];let DA:=ic [4,5,8,6,7,15];let GY:=(la bC.2.2.1.toNat (0:Int));let DB:=kG eI bC.2.2.1.toNat 0;let t2:dR:=[(I 3),.ak (bi 1 (.call {a7:=(qw [0,1,2,3]),d4:=[.bu zY,.pure,.pure,.pure],ac:=[ii],r:= .ea [.ref 4 0 0 0,.b true],fC:=[zY,(aq 1 eI dh),(aq 1 eI gb),(aq 1 eI eB),(a3.mk 6 [tG] .live::a3.mk 1 (bC.2.2.2.1.map (bJ 4 4 2)) .live::bK 1 eI bC.2.2.2.2.1::bK 1 gr bC.2.2.2.2.2.1::kX)],hI:= .comp [.cE .id,.cE .id],iN:=[.bu zY,.pure,.pure,.pure,.bu (a3.mk 6 [(j6 8 1 0 bC.2.2.2.1.length bC.1 bC.2.1 8 2 0 bC.2.2.2.2.1.length bC.2.2.1 8 3 0 bC.2.2.2.2.2.1.length)] .live::a3.mk 1 (bC.2.2.2.1.map (bJ 8 4 2)) .live::bK 1 eI bC.2.2.2.2.1::bK 1 gr bC.2.2.2.2.2.1::kX)],e7:=[0,1,2,3],eJ:=false}) 5),.aK [0,1,2,3,8] [.box c9,.pure,.pure,.pure,.bu (a3.mk 6 [tG] .live::a3.mk 1 (bC.2.2.2.1.map (bJ 4 4 2)) .live::bK 1 eI bC.2.2.2.2.1::bK 1 gr bC.2.2.2.2.2.1::kX)] [(0,ii),(2,ii),(3,ii),(4,.bc (.cE (.uG 3))),(5,ii),(6,ii),(16,.comp [.cE .id,.cE .id]),(17,ii),(18,.comp [.cE .id,.cE .id]),(19,ii),(20,ii)],.xK og [([],some (.box c9)),([],some (.pure)),([],some (.pure)),([],some (.pure)),([.box [.at_ 5 0 bC.2.2.2.1.length,.id,.id,.at_ 6 0 bC.2.2.2.2.1.length,.id,.at_ 7 0 bC.2.2.2.2.2.1.length]],none),([.rx zX],none),([.pure],none),([.pure],none),([],some (.rx kX))] [(0,ii),(2,ii),(3,ii),(4,ii),(5,.bc (.cE (.at_ 4 0 0))),(6,ii),(16,.comp [.cE (.at_ 4 0 0),.cE .id]),(17,ii),(18,.comp [.cE (.at_ 4 0 0),.cE .id]),(19,.bc (.cE (.at_ 4 0 0))),(20,ii)],(I 2),.R false,(I 6),(I 6),.ak (bi 2 (.call {a7:=(qw [4,5,8,6,7,15]),d4:=[.bu (kx 1 3 4 bC.2.2.2.1 bC.1 bC.2.1 bC.2.2.2.2.1 bC.2.2.1 bC.2.2.2.2.2.1),.bu (aq 1 (bJ 2 0 2) bC.2.2.2.1),.bu kX,.pure,.pure,.cF (aq 1 eI qA)],ac:=[ii,.bc (.cE (.len (qA.length)))],r:= .b cx.1,fC:=(qm bC.2.2.2.1 cx.2.1 cx.2.2.1 cx.2.2.2.2.1 bC.2.2.1 cx.2.2.2.2.2 cx.2.2.2.1 (aq 1 eI qA)),hI:=ii,iN:=[.bu (kx 5 6 7 bC.2.2.2.1 cx.2.1 cx.2.2.1 cx.2.2.2.2.1 bC.2.2.1 cx.2.2.2.2.2),.bu zX,.bu (dV 2 ba cx.2.2.2.1),.pure,.pure,.pure],e7:=[4,5,6,7,8,15],eJ:=false}) 1)];
  have eR:=b4.ay (.aV (kC sI 5 [vo] [vo] rfl) (kZ 5 [vo]) (fE 1 az dh) (fE 1 az gb) (fE 1 az eB) (eS (show a3.mk 6 [(j6 8 1 0 bC.2.2.2.1.length bC.1 bC.2.1 8 2 0 bC.2.2.2.2.1.length bC.2.2.1 8 3 0 bC.2.2.2.2.2.1.length)] .live=k7 (ic [0,1,2,3,8]) (a3.mk 6 [(j6 4 1 0 bC.2.2.2.1.length bC.1 bC.2.1 4 2 0 bC.2.2.2.2.1.length bC.2.2.1 4 3 0 bC.2.2.2.2.2.1.length)] .live) from rfl) (eS (xU sI 8 4 4 2 rfl bC.2.2.2.1) (eS (gx sI 1 hn bC.2.2.2.2.1) (eS (gx sI 1 Nr bC.2.2.2.2.2.1) (ey sI 2 fk bC.2.2.2.2.2.2))))) ((l5 rfl (l5 rfl (l5 rfl (l5 rfl (Mn (hs 2 ba bC.2.2.2.2.2.2)))))):ox (a3.mk 6 [tG] .live::a3.mk 1 (bC.2.2.2.1.map (bJ 4 4 2)) .live::bK 1 eI bC.2.2.2.2.1::bK 1 gr bC.2.2.2.2.2.1::kX)) (Sj (.inl bC) h2) (.aV (ap 1 az dh) (ap 1 az gb) (ap 1 az eB) (eS (show a3.mk 6 [(j6 4 1 0 bC.2.2.2.1.length bC.1 bC.2.1 4 2 0 bC.2.2.2.2.1.length bC.2.2.1 4 3 0 bC.2.2.2.2.2.1.length)] .live=k7 (cl [0,1,2,3,8]) (a3.mk 6 [(j6 8 1 0 bC.2.2.2.1.length bC.1 bC.2.1 8 2 0 bC.2.2.2.2.1.length bC.2.2.1 8 3 0 bC.2.2.2.2.2.1.length)] .live) from rfl) (eS (xU xO 4 8 4 2 rfl bC.2.2.2.1) (eS (gx xO 1 hn bC.2.2.2.2.1) (eS (gx xO 1 Nr bC.2.2.2.2.2.1) (ey xO 2 fk bC.2.2.2.2.2.2))))) (ap 1 az dh) (ap 1 az gb) (ap 1 az eB) (rfl:(iT og) 5 0=some (4,1)) (.aV (rfl:bC.2.2.2.1.length=bC.2.2.2.1.length) (rfl:(iT og) 6 0=some (4,2)) (rfl:bC.2.2.2.2.1.length=bC.2.2.2.2.1.length) (rfl:(iT og) 7 0=some (4,3)) (rfl:bC.2.2.2.2.2.1.length=bC.2.2.2.2.2.1.length) (IR (FV (k8:=(bJ 8 0 2)) (c4 (bJ 4 4 2) bC.2.2.2.1) (fun _=>rfl) (fun x=>(Js (fun _=>rfl)) x)) Jh:rP (iT og) (aq 1 (bJ 4 4 2) bC.2.2.2.1) zX) (ap 1 az bC.2.2.2.2.1) (ap 1 fi bC.2.2.2.2.2.1) (.aV (IU (hs 2 ba bC.2.2.2.2.2.2) (fun _=>rfl) fk:rP (iT og) kX kX) (rfl:(iT og) 4 0=some (4,0)) (rfl:(iT og) 4 0=some (4,0)) (rfl:(iT og) 4 0=some (4,0)) (rfl:(iT og) 4 0=some (4,0)) e6 ai.1 (Int.le_refl bC.2.2.1) (.aV ai.2.1 ai.2.2 (gh eI eB) (ain (ov (c4 eI eB) (dt eB)) aw) (nm DB GY) (VV GY (dF _) aw) (kC Dz 6 [(j6 1 0 0 bC.2.2.2.1.length bC.1 bC.2.1 3 0 0 bC.2.2.2.2.1.length bC.2.2.1 4 0 0 bC.2.2.2.2.2.1.length)] [uA] rfl) (kZ 6 [uA]) (.aV (eK Dz 2 8 0 2 rfl bC.2.2.2.1) (kZ 1 (bC.2.2.2.1.map (bJ 8 0 2))) (ey Dz 2 fk bC.2.2.2.2.2.2) (rU 2 ba bC.2.2.2.2.2.2) (fE 1 az bC.2.2.2.2.1) (fE 1 fi bC.2.2.2.2.2.1) (cS 1 (ahy DB (ov (c4 eI eB) (dt eB)))) (fE 1 az qA) (.aV (kC DA 6 [(j6 5 0 0 bC.2.2.2.1.length cx.2.1 cx.2.2.1 6 0 0 cx.2.2.2.2.1.length bC.2.2.1 7 0 0 cx.2.2.2.2.2.length)] [sH] rfl) (kZ 6 [sH]) (eK DA 8 2 0 2 rfl bC.2.2.2.1) (kZ 1 (bC.2.2.2.1.map (bJ 2 0 2))) (ey DA 2 fk cx.2.2.2.1) (rU 2 ba cx.2.2.2.1) (fE 1 az cx.2.2.2.2.1) (fE 1 fi cx.2.2.2.2.2) (.e2 (fE 1 az qA) (KG cx a8)))))))));
  .ite (fun bk =>
  .ag fun bz b8 =>
  .aO fun dp =>
  .ag fun c0 el =>
  .ag fun fb gS =>
  .ag fun dm fW =>
  .ag fun fO hQ =>
  .ret (let q1:=(List.replicate eo.toNat (none:anr):anz);let q2:=(eB++(List.replicate bC.2.2.1.toNat 0:ar).drop eB.length);let bD:=lW fs eo 1 0 0 dh.length 2 0 0 gb.length 3 0 0 eB.length;let ct:=ap 1 az dh;let dU:=ap 1 az gb;let er:=ap 1 az eB;let gT:=cl [0,1,2,3,4,15,5,8,6,7];let ig:=cl [0,1,2,3,4,13,5,6,7,8];let kD:=cl [0,1,2,3,4,5,8,6,7,9];let oD:=aq 1 (bJ 7 0 2) bC.2.2.2.1;let nP:=ap 1 az bz.2.2.2.1;let sG:=ap 1 fi bz.2.2.2.2;let lJ:=dV 2 ba bz.2.2.1;j5 (t2.aM [.R false,(I 5),.aK [0,1,2,3,4,15,5,8,6,7] [.box c9,.pure,.pure,.pure,.box kp,.pure,.bu oD,.bu (dV 2 ba cx.2.2.2.1),.pure,.pure] [(0,ii),(5,ii),(7,fJ (q2.length)),(41,ii),(42,ii)],((RB eo fs dh gb eB bC.2.2.1 bC.2.2.2.1).t bz),.ak (bi 4 (.bT [(ji 3 cG (none:anr))]) 1),(I 3),.aK [0,1,2,3,4,13,5,6,7,8] [.box c9,.pure,.pure,.pure,.box kp,.cF (aq 1 (fj 3 cG) q1),.bu oD,.bu lJ,.pure,.pure] [(0,ii),(5,ii),(9,fJ (q1.length)),(59,ii),(60,ii)],((RC ((eo.toNat:Nat):Int) fs eo dh gb eB bz.1 bz.2.1 bC.2.2.1 bC.2.2.2.1 bz.2.2.1 bz.2.2.2.1 bz.2.2.2.2).t c0),(I 6),.aK [0,1,2,3,4,5,8,6,7,9] [.box c9,.pure,.pure,.pure,.box kp,.pure,.pure,.bu (aq 1 (bJ 8 0 2) bC.2.2.2.1),.bu lJ,.pure] (a2 [0,5,9,71,72,73]),((RD ((bz.2.2.2.1.length:Nat):Int) fs eo dh gb eB bz.1 bz.2.1 bC.2.2.1 bz.2.2.2.1 bC.2.2.2.1 bz.2.2.1 bz.2.2.2.2).t fb),.ak (ae (bh 1 (ji 3 cG dm) false) (ab 1 [])),(I 3),.aK [0,1,2,3,4] [.box c9,.pure,.pure,.pure,.pure] (a2 [0,9,13,102,103,104]),((RE ((fb.length:Nat):Int) fs eo dh gb eB fb).t fO),(I 5)]) [0,1,2,3] [.bu (jl 1 2 3 fs eo dh gb eB),.pure,.pure,.pure] (eR.ay (.aV (ch bk) ct dU er (ap 1 az q2) (eK gT 7 8 0 2 rfl bC.2.2.2.1) (ey gT 2 fk cx.2.2.2.1) (ap 1 az cx.2.2.2.2.1) (.aV (ap 1 fi cx.2.2.2.2.2) (VV (la bC.2.2.1.toNat (0:Int)) (dF _) aw) (cY b8 aal) dp.1 (Int.le_refl eo) dp.2.1 dp.2.2 ct (.aV dU er (cS 1 (kG (fj 3 cG) eo.toNat (none:anr))) (ap 1 (pC (sz:=3) nD) q1) (eK ig 7 6 0 2 rfl bC.2.2.2.1) (ey ig 2 fk bz.2.2.1) nP sG (.aV (la eo.toNat ((none:anr):anr)) (cY el aam) ct dU er (ap 1 (pC (sz:=3) nD) c0) nP (eK kD 8 7 0 2 rfl bC.2.2.2.1) (.aV (ey kD 2 fk bz.2.2.1) sG (cY gS aan) (LU dm fW) ct dU er (ap 1 (pC (sz:=3) nD) fb) (.gN (cY hQ aao) (kC (cl [0,1,2,3]) 5 [bD] [bD] rfl) ct dU er (gU (fj 3 cG) fb) (gh (fj 3 cG) fb) (eb (pC (sz:=3) nD) fb)))))))) (.comp [.cE .id,.cE (.eT (fb.map (fj 3 cG))),.cE .id])))
  (fun bk =>
  .ret (let rf:=lW fs eo 1 0 0 dh.length 2 0 0 gb.length 3 0 0 eB.length;j5 (t2.aM [.R true,(I 3)]) [0,1,2,3] [.bu (jl 1 2 3 fs eo dh gb eB),.pure,.pure,.pure] (eR.ay (.di (cf bk) (kC (cl [0,1,2,3]) 5 [rf] [rf] rfl) (ap 1 az dh) (ap 1 az gb) (ap 1 az eB))) (.comp [.cE .id,.cE (.gP 1),.cE (.uG 3)])))))
  ·exact(.ret (let oY:=lW fs eo 1 0 0 dh.length 2 0 0 gb.length 3 0 0 eB.length;let qz:=jl 1 2 3 fs eo dh gb eB;j5 [(I 3),.ak (bi 1 (.call {a7:=(qw [0,1,2,3]),d4:=[.bu qz,.pure,.pure,.pure],ac:=[ii],r:= .ea [.jW,.b false],fC:=(tF fs eo dh gb eB),hI:=ii,iN:=[.bu qz,.pure,.pure,.pure],e7:=[0,1,2,3],eJ:=false}) 5),(I 2),.R true,(I 3)] [0,1,2,3] [.bu qz,.pure,.pure,.pure] (b4.ay (.aV (kC (ic [0,1,2,3]) 5 [oY] [oY] rfl) (kZ 5 [oY]) (fE 1 az dh) (fE 1 az gb) (fE 1 az eB) (Sj (.inr bC) h2) br (kC (cl [0,1,2,3]) 5 [oY] [oY] rfl) (.bI (ap 1 az dh) (ap 1 az gb) (ap 1 az eB)))) (.comp [.cE .id,.cE (.gP 1),.cE (.uG 3)])))))
def IE (aC:anr):anG :=aC.elim (some (none:anr)) fun ec =>rX ec.tr >>= fun aS =>some (some (⟨aS,ec.ts⟩:en))
theorem adE:bt (IE aC) (fun r=>Con bw 100 [(ji 3 cG aC)] [] (ji 3 cG r) []):=.mS (fun h1=>.ret (bj [(I 1),.ak (ab 1 (ae (.gM 3 (.hh 3 none) .ev) [])),.R true,(I 1)] (.e2 (zR (sz:=3) (f:=cG) h1) br) (.bc (.cE (.uG 3))))) (fun ec h1=>.ag fun aS ai=>.ret (bj [(I 1),.ak (ab 1 (ae (.gM 3 (.hh 3 (some (cG ec))) .ev) [])),.R false,.ak (ab 1 (ae (.gM 5 (.hh 3 (some (cG ec))) .ev) (ab 2 (ae (bh 1 (.agg (ba aS)) false) (bi 1 (.gM 10 (.hh 3 (some (cG ec))) .ev) 5)))))] (.eg (ny (sz:=3) (f:=cG) h1) e6 (ny (sz:=3) (f:=cG) h1) (HH aS ai) (ny (sz:=3) (f:=cG) h1) (nE (nD (⟨aS,ec.ts⟩:en)):jj [[.b aS.cR,.isl 1 (aS.cC.map eI),.isl 1 (ec.ts.map eI)]])) (.bc (.xv [.id,.id,.id]))))
def CA (cJ:anr):anG :=cJ >>= fun e3 =>if (decide ((24:Int)<(len_ eI e3.tr.cC)))=true then some (none:anr) else if (decide ((24:Int)<(len_ eI e3.ts)))=true then some (none:anr) else some cJ
theorem adF:bt (CA cJ) (fun r=>Con bw 146 [(ji 3 cG cJ)] [] (ji 3 cG r) []):=.ag fun e3 h2=>(have b4:=((.e1 (ny (sz:=3) (f:=cG) h2)):cI _);.ite (fun U=>.ret (bj [(I 1),.ak (ab 1 (ae (.gM 3 (.hh 3 (some (cG e3))) .ev) (ab 6 (cn 6 (ae (.R true) []))))),.R true,(I 1)] (b4.ay (.gN U U U U U U U br)) (.bc (.cE (.uG 3))))) (fun U=>(let t2:dR:=[(I 1),.ak (ab 1 (ae (.gM 3 (.hh 3 (some (cG e3))) .ev) (ab 7 (ae (.gM 11 (.hh 3 (some (cG e3))) .ev) (ab 4 (ae (.R false) []))))))];have eR:=b4.ay (.gN U U (ny (sz:=3) (f:=cG) h2) U U U U U);.ite (fun ai=>.ret (bj (t2.aM [.R true,(I 1)]) (eR.ay (.e1 ai)) (.bc (.cE (.uG 3))))) (fun ai=>.ret (bj (t2.aM [.R false,(I 2)]) (eR.ay (.e1 ai)))))))
def yV (aC aT:anr):anG :=aC.elim (some (none:anr)) fun ec =>aT.elim (some (none:anr)) fun iJ =>B7 aC aT >>= fun aN =>CA aN >>= fun bq =>some bq
theorem Th:bt (yV aC aT) (fun r=>Con bw 101 [ji 3 cG aC,ji 3 cG aT] [] (ji 3 cG r) []):=.mS (fun h1=>.ret (bj [(I 1),.ak (ab 1 (ae (.gM 5 (.hh 3 none) .ev) (ab 1 (cn 2 (ab 1 []))))),.R true,(I 1)] (.c1 (zR (sz:=3) (f:=cG) h1) br br br) (.bc (.cE (.uG 3))))) (fun ec h1=>(have b4:=((.bI (ny (sz:=3) (f:=cG) h1) e6 e6):cI _);.mS (fun U=>.ret (bj [(I 1),.ak (ab 1 (ae (.gM 5 (.hh 3 (some (cG ec))) .ev) (bi 2 (.gM 8 (.hh 3 none) .ev) 1))),.R true,(I 1)] (b4.ay (.e2 (zR (sz:=3) (f:=cG) U) br)) (.bc (.cE (.uG 3))))) (fun iJ U=>.ag fun aN aR=>.ag fun bq bk=>.ret (bj [(I 1),.ak (ab 1 (ae (.gM 5 (.hh 3 (some (cG ec))) .ev) (bi 2 (.gM 8 (.hh 3 (some (cG iJ))) .ev) 1))),.R false,.ak (ab 2 (ae (bh 2 (ji 3 cG aN) false) (ae (bh 1 (ji 3 cG bq) false) (ab 1 []))))] (b4.ay (.c1 (ny (sz:=3) (f:=cG) U) e6 (Ri aN aR) (adF bq bk)))))))
def P2 (cJ:anz)(fQ:anA)(jU:Int):dY (Int×anz) anz:=⟨fun (iF,af)=>dk [(1,.isl 1 (cJ.map (fj 3 cG))),(5,.bb 0 0 0 af.length),(16,.isl 2 (fQ.map fu)),(17,.n .i64 jU),(18,.n .i64 iF)] [(aq 1 (fj 3 cG) af)],fun | a=>⟨some 0,[(5,.bb 0 0 0 a.length)],[(aq 1 (fj 3 cG) a)]⟩⟩
def AQ (cJ:anz)(fQ:anA)(jU iF:Int)(af:anz):Option ((Int×anz)⊕(anz)) :=if (decide (iF<jU))=true then if 0<=iF/\iF<fQ.length then fQ[iF.toNat]? >>= fun ao =>if 0<=iF/\iF<cJ.length then cJ[iF.toNat]? >>= fun b7 =>if (decide (ao.sl<0))=true then IE b7 >>= fun bz =>if 0<=ao.hJ/\ao.hJ<(af.length:Nat) then af[(0+ao.hJ.toNat)]? >>= fun vp =>vp.elim (if (0+ao.hJ.toNat)<af.length then some (.inl (J (iF+1),af.set (0+ao.hJ.toNat) bz)) else none) fun Xy =>yV vp bz >>= fun dm =>if (0+ao.hJ.toNat)<af.length then some (.inl (J (iF+1),af.set (0+ao.hJ.toNat) dm)) else none else none else if 0<=ao.hJ/\ao.hJ<(af.length:Nat) then af[(0+ao.hJ.toNat)]? >>= fun il =>il.elim (if (0+ao.hJ.toNat)<af.length then some (.inl (J (iF+1),af.set (0+ao.hJ.toNat) b7)) else none) fun Xz =>yV il b7 >>= fun fb =>if (0+ao.hJ.toNat)<af.length then some (.inl (J (iF+1),af.set (0+ao.hJ.toNat) fb)) else none else none else none else none else some (.inr af)
def Qi (cJ:anz)(fQ:anA)(jU iF:Int)(af:anz):Option (anz):=iter (fun w:Int×anz=>AQ cJ fQ jU w.1 w.2) (iF,af)
theorem Zj:bt (AQ cJ fQ jU iF af) (d7 bw 56 0 61 [1,1,0,1,0,0] (P2 cJ fQ jU) (iF,af)):=.ite (fun h1=>.aO fun h2=>.ag fun ao ai=>.aO fun aw=>.ag fun b7 a8=>(let t1:dR:=[(I 1),.R true,.ak (bi 2 (.bT (fu ao)) 3),.ak (bi 3 (.bT ((fj 3 cG) b7)) 1),(I 3)];have aU:=((.e5 h1 h2.1 (c8 fu h2.2) (bN fu ai) aw.1 (c8 (fj 3 cG) aw.2) (bN (fj 3 cG) a8)):cI _);.ite (fun bk=>.ag fun bz b8=>.aO fun dp=>.ag fun vp el=>(let t3:dR:=t1.aM [.R true,.ak (bi 1 (bh 1 (ji 3 cG bz) false) 1)];have e8:=aU.ay (.di bk (adE bz b8) dp.1 dp.2 (bN (fj 3 cG) el));.mS (fun ef=>.aO fun hb=>.ret (a9 (t3.aM [.ak (ab 4 (ae (.bT ((fj 3 cG) vp)) (ae (.gM 36 (.hh 3 none) .ev) []))),.R true,.ak (ab 5 (ae .ev [])),(I 2),.aK [0] [.cF (aq 1 (fj 3 cG) (af.set (0+ao.hJ.toNat) bz))] [(1,ii),(5,fJ ((af.set (0+ao.hJ.toNat) bz).length)),(16,ii),(17,ii),(18,ii)]]) (e8.ay (.aV (zR (sz:=3) (f:=cG) ef) br dp.1 dp.2 (hk (fj 3 cG) hb) (hd 1) (cS 1 (gA (c4 (fj 3 cG) af) (0+ao.hJ.toNat) bz)) (ap 1 (pC (sz:=3) nD) (af.set (0+ao.hJ.toNat) bz)) (.e1 (hp (dt af) (0+ao.hJ.toNat) bz)))))) (fun Xy ef=>.ag fun dm fW=>.aO fun hH=>.ret (a9 (t3.aM [.ak (ab 4 (ae (.bT ((fj 3 cG) vp)) (ae (.gM 36 (.hh 3 (some (cG Xy))) .ev) []))),.R false,.ak (ab 7 (ae (.bT ((fj 3 cG) vp)) (ab 1 (ae (bh 2 (ji 3 cG dm) false) (ab 1 (ae .ev [])))))),(I 2),.aK [0] [.cF (aq 1 (fj 3 cG) (af.set (0+ao.hJ.toNat) dm))] [(1,ii),(5,fJ ((af.set (0+ao.hJ.toNat) dm).length)),(16,ii),(17,ii),(18,ii)]]) (e8.ay (.aV (ny (sz:=3) (f:=cG) ef) e6 dp.1 dp.2 (bN (fj 3 cG) el) (Th dm fW) dp.1 dp.2 (.di (hk (fj 3 cG) hH) (hd 1) (cS 1 (gA (c4 (fj 3 cG) af) (0+ao.hJ.toNat) dm)) (ap 1 (pC (sz:=3) nD) (af.set (0+ao.hJ.toNat) dm)) (hp (dt af) (0+ao.hJ.toNat) dm)))))))) (fun bk=>.aO fun b9=>.ag fun il dp=>(have eR:=aU.ay (.c1 bk b9.1 b9.2 (bN (fj 3 cG) dp));.mS (fun eA=>.aO fun ef=>.ret (a9 (t1.aM [.R false,.ak (ab 4 (ae (.bT ((fj 3 cG) il)) (ae (.gM 36 (.hh 3 none) .ev) []))),.R true,.ak (ab 5 (ae .ev [])),(I 2),.aK [0] [.cF (aq 1 (fj 3 cG) (af.set (0+ao.hJ.toNat) b7))] [(1,ii),(5,fJ ((af.set (0+ao.hJ.toNat) b7).length)),(16,ii),(17,ii),(18,ii)]]) (eR.ay (.aV (zR (sz:=3) (f:=cG) eA) br b9.1 b9.2 (hk (fj 3 cG) ef) (hd 1) (cS 1 (gA (c4 (fj 3 cG) af) (0+ao.hJ.toNat) b7)) (ap 1 (pC (sz:=3) nD) (af.set (0+ao.hJ.toNat) b7)) (.e1 (hp (dt af) (0+ao.hJ.toNat) b7)))))) (fun Xz eA=>.ag fun fb gS=>.aO fun hb=>.ret (a9 (t1.aM [.R false,.ak (ab 4 (ae (.bT ((fj 3 cG) il)) (ae (.gM 36 (.hh 3 (some (cG Xz))) .ev) []))),.R false,.ak (ab 7 (ae (.bT ((fj 3 cG) il)) (ab 1 (ae (bh 2 (ji 3 cG fb) false) (ab 1 (ae .ev [])))))),(I 2),.aK [0] [.cF (aq 1 (fj 3 cG) (af.set (0+ao.hJ.toNat) fb))] [(1,ii),(5,fJ ((af.set (0+ao.hJ.toNat) fb).length)),(16,ii),(17,ii),(18,ii)]]) (eR.ay (.aV (ny (sz:=3) (f:=cG) eA) e6 b9.1 b9.2 (bN (fj 3 cG) dp) (Th fb gS) b9.1 b9.2 (.di (hk (fj 3 cG) hb) (hd 1) (cS 1 (gA (c4 (fj 3 cG) af) (0+ao.hJ.toNat) fb)) (ap 1 (pC (sz:=3) nD) (af.set (0+ao.hJ.toNat) fb)) (hp (dt af) (0+ao.hJ.toNat) fb)))))))))) (fun h1=>.ret (a9 [(I 1),.R false,.aK [0] [.pure] (a2 [5])] (.e2 h1 (ap 1 (pC (sz:=3) nD) af))))
def Eb (aQ:cL)(cJ:anz):Option anz :=if 0<=(len_ ck aQ.bA)/\(8:Int)*(len_ ck aQ.bA)<=281474976710656/\(len_ ck aQ.bA)<9223372036854775808 then wR aQ >>= fun r2 =>Qi cJ r2 (len_ fu r2) 0 (List.replicate (len_ ck aQ.bA).toNat (none:anr):anz) >>= fun bd =>some bd else none
theorem aaC:bt (Eb aQ cJ) (fun r=>Con bw 61 [.fo 2 [(hg aQ)] 0 0,.isl 1 (cJ.map (fj 3 cG))] [] (.isl 1 (r.map (fj 3 cG))) []):=.aO fun h1=>.ag fun r2 U=>.ag fun bd aw=>.ret (let q2:=len_ ck aQ.bA;let q1:=(List.replicate q2.toNat (none:anr):anz);bj [(I 1),.ak (bi 5 (.bT [(ji 3 cG (none:anr))]) 1),.ak (bi 1 (bh 1 (.isl 2 (r2.map fu)) false) 2),.aK [6] [.cF (aq 1 (fj 3 cG) q1)] [(1,ii),(5,fJ (q1.length)),(16,ii),(17,ii),(18,ii)],((P2 cJ r2 (len_ fu r2)).t bd),(I 2)] (.aV h1.1 (Int.le_refl q2) h1.2.1 h1.2.2 (HF r2 U) (cS 1 (kG (fj 3 cG) q2.toNat (none:anr))) (ap 1 (pC (sz:=3) nD) q1) (la q2.toNat ((none:anr):anr)) (.c1 (cY aw Zj) (gU (fj 3 cG) bd) (gh (fj 3 cG) bd) (eb (pC (sz:=3) nD) bd))) (.bc (.cE (.eT (bd.map (fj 3 cG))))))
def tO (aQ:cL)(xA xt:Int)(fz dh gb:ar):Option (anz×anz×Bool) :=w2 xA xt fz dh gb >>= fun r1 =>if (r1.1 != 0)=true then some (([]:anz),([]:anz),false) else wR aQ >>= fun bd =>if 0<=(len_ fu bd) then if 0<=(len_ fu bd).toNat/\(len_ fu bd).toNat<=r1.2.1.length then Eb aQ ((r1.2.1.drop 0).take ((len_ fu bd).toNat-0)) >>= fun bB =>if (len_ fu bd).toNat<=r1.2.1.length then some (bB,(r1.2.1.drop ((len_ fu bd).toNat)).take ((r1.2.1.map (fj 3 cG)).length-(len_ fu bd).toNat),true) else none else none else none
theorem ZQ:bt (tO aQ xA xt fz dh gb) (fun a=>Con bw 34 [.fo 2 [(hg aQ)] 0 0,.agg (lW xA xt 0 0 0 fz.length 1 0 0 dh.length 2 0 0 gb.length)] [(aq 1 eI fz),(aq 1 eI dh),(aq 1 eI gb)] (.ea [.isl 1 (a.1.map (fj 3 cG)),.isl 1 (a.2.1.map (fj 3 cG)),.b a.2.2]) [(aq 1 eI fz),(aq 1 eI dh),(aq 1 eI gb)]):=.ag fun r1 h2=>(let bD:=lW xA xt 1 0 0 fz.length 2 0 0 dh.length 3 0 0 gb.length;let ct:=lW xA xt 0 0 0 fz.length 1 0 0 dh.length 2 0 0 gb.length;let t1:dR:=[(I 4),.ak (ae (.call {a7:=(qw [3,0,1,2]),d4:=[.bu (jl 1 2 3 xA xt fz dh gb),.pure,.pure,.pure],ac:=[ii],r:= .ea [.n .i64 r1.1,.isl 1 (r1.2.1.map (fj 3 cG)),ji 3 cG r1.2.2],fC:=(tF xA xt fz dh gb),hI:=ii,iN:=[.bu (jl 0 1 2 xA xt fz dh gb),.pure,.pure,.pure],e7:=[0,1,2,3],eJ:=false}) (ab 7 [])),(I 2)];have aU:=((.aV (kC (ol [3,0,1,2]) 5 [bD] [ct] rfl) (kZ 5 [ct]) (fE 1 az fz) (fE 1 az dh) (fE 1 az gb) (kC (ic [3,0,1,2]) 5 [ct] [bD] rfl) (kZ 5 [bD]) (fE 1 az fz) (.bI (fE 1 az dh) (fE 1 az gb) (acn r1 h2))):cI _);.ite (fun U=>.ret (j5 (t1.aM [.R true,(I 3)]) [0,1,2] [.pure,.pure,.pure] (aU.ay (.c1 U (ap 1 az fz) (ap 1 az dh) (ap 1 az gb))) (.comp [.cE (.gP 1),.cE (.gP 1),.cE .id]))) (fun U=>.ag fun bd aw=>.aO fun aR=>.aO fun a8=>.ag fun bB b9=>.aO fun b8=>.ret (let q1:=len_ fu bd;let q2:=c4 (fj 3 cG) r1.2.1;j5 (t1.aM [.R false,.ak (bi 1 (bh 1 (.isl 2 (bd.map fu)) false) 2),.ak (bi 4 (.call {ac:=[ii,.bc (.cE (.cF (.isl 1 (((r1.2.1.drop 0).take (q1.toNat-0)).map (fj 3 cG)))))],r:= .isl 1 (bB.map (fj 3 cG)),eJ:=false}) 6)]) [0,1,2] [.pure,.pure,.pure] (aU.ay (.aV U (HF bd aw) aR a8.1 (sd q2 a8.2) (congrArg (aF.isl 1) (nl q2 0 (q1.toNat-0)):(.isl 1 (((r1.2.1.map (fj 3 cG)).drop 0).take (q1.toNat-0)):aF) = .isl 1 (((r1.2.1.drop 0).take (q1.toNat-0)).map (fj 3 cG))) (aaC bB b9) aR (.eg (ahw q2▸b8:q1.toNat<=(r1.2.1.map (fj 3 cG)).length) (dF ((r1.2.1.map (fj 3 cG)).length)) (ap 1 az fz) (ap 1 az dh) (ap 1 az gb) (congrArg (aF.isl 1) (nl q2 (q1.toNat) ((r1.2.1.map (fj 3 cG)).length-q1.toNat)):(.isl 1 (((r1.2.1.map (fj 3 cG)).drop (q1.toNat)).take ((r1.2.1.map (fj 3 cG)).length-q1.toNat)):aF) = .isl 1 (((r1.2.1.drop (q1.toNat)).take ((r1.2.1.map (fj 3 cG)).length-q1.toNat)).map (fj 3 cG)))))) (.comp [.cE .id,.cE (.cF (.isl 1 (((r1.2.1.drop (q1.toNat)).take ((r1.2.1.map (fj 3 cG)).length-q1.toNat)).map (fj 3 cG)))),.cE .id]))))
def Eh (cJ:bE):anE :=if (decide ((60:Int)<(len_ eI cJ.cC)))=true then some (⟨false,([]:ar)⟩:bE) else y0 cJ.cC >>= fun r2 =>some (⟨cJ.cR,r2⟩:bE)
theorem aaV:bt (Eh cJ) (fun r=>Con bw 105 [.agg (ba cJ)] [] (.agg (ba r)) []):=.ite (fun h1=>.ret (bj [(I 2),(I 4),.R true,(I 2)] (.e1 h1) (.bc (.agg [.id,.gP 1])))) (fun h1=>.ag fun r2 U=>.ret (bj [(I 2),(I 4),.R false,.ak (bi 4 (bh 1 (.isl 1 (r2.map eI)) false) 2)] (.e2 h1 (Me r2 U))))
def Fe (cJ:anr):anF :=cJ.elim (some (⟨(⟨false,([]:ar)⟩:bE),([]:ar)⟩:ax)) fun ec =>Eh ec.tr >>= fun aS =>y0 ec.ts >>= fun aN =>some (⟨aS,aN⟩:ax)
theorem acS:bt (Fe cJ) (fun r=>Con bw 65 [(ji 3 cG cJ)] [] (.agg (aI r)) []):=.mS (fun h1=>.ret (bj [(I 1),.ak (ab 1 (ae (.gM 3 (.hh 3 none) .ev) [])),.R true,(I 2)] (.e2 (zR (sz:=3) (f:=cG) h1) br) (.bc (.agg [.id,.gP 1,.gP 1])))) (fun ec h1=>.ag fun aS ai=>.ag fun aN aR=>.ret (bj [(I 1),.ak (ab 1 (ae (.gM 3 (.hh 3 (some (cG ec))) .ev) [])),.R false,.ak (ab 1 (ae (.gM 6 (.hh 3 (some (cG ec))) .ev) (ab 2 (ae (bh 1 (.agg (ba aS)) false) (ab 1 (ae (.gM 11 (.hh 3 (some (cG ec))) .ev) (bi 2 (bh 1 (.isl 1 (aN.map eI)) false) 2)))))))] (.eg (ny (sz:=3) (f:=cG) h1) e6 (ny (sz:=3) (f:=cG) h1) (aaV aS ai) (ny (sz:=3) (f:=cG) h1) (Me aN aR))))
def R1 (ff:anz)(e9:Int):dY (Int×dP) ((dP)⊕(Unit)):=⟨fun (fv,af)=>dk [(4,.bb 0 0 0 af.length),(10,.isl 1 (ff.map (fj 3 cG))),(11,.n .i64 e9),(12,.n .i64 fv)] [(aq 3 aI af)],fun | .inl a=>⟨some 0,[(4,.bb 0 0 0 a.length)],[(aq 3 aI a)]⟩ | .inr a=>⟨none,[(2,.fT),(3,.b false)],[]⟩⟩
def BS (ff:anz)(e9 fv:Int)(af:dP):Option ((Int×dP)⊕((dP)⊕(Unit))) :=if (decide (fv<e9))=true then if 0<=fv/\fv<ff.length then ff[fv.toNat]? >>= fun ao =>ao.elim (some (.inr (.inr ()))) fun tM =>Fe ao >>= fun bq =>if 0<=fv/\fv<(af.length:Nat) then if (0+fv.toNat)<af.length then some (.inl (J (fv+1),af.set (0+fv.toNat) bq)) else none else none else none else some (.inr (.inl af))
def SI (ff:anz)(e9 fv:Int)(af:dP):Option ((dP)⊕(Unit)):=iter (fun w:Int×dP=>BS ff e9 w.1 w.2) (fv,af)
theorem Qj:bt (BS ff e9 fv af) (d7 bw 26 0 36 [1,1,0,1,0,0] (R1 ff e9) (fv,af)):=.ite (fun h1=>.aO fun h2=>.ag fun ao ai=>(let t1:dR:=[(I 1),.R true,.ak (bi 2 (.bT ((fj 3 cG) ao)) 2)];have aU:=((.c1 h1 h2.1 (c8 (fj 3 cG) h2.2) (bN (fj 3 cG) ai)):cI _);.mS (fun aw=>.ret (a9 (t1.aM [.ak (ab 1 (ae (.gM 17 (.hh 3 none) .ev) [])),.R true,(I 2),.aK [] [] (a2 [2,3])]) (aU.ay (.e2 (zR (sz:=3) (f:=cG) aw) br)))) (fun tM aw=>.ag fun bq bk=>.aO fun b9=>.aO fun b8=>.ret (a9 (t1.aM [.ak (ab 1 (ae (.gM 17 (.hh 3 (some (cG tM))) .ev) [])),.R false,.ak (ab 3 (ae (bh 1 (.agg (aI bq)) false) (ab 1 (ae .ev [])))),(I 2),.aK [0] [.cF (aq 3 aI (af.set (0+fv.toNat) bq))] [(4,fJ ((af.set (0+fv.toNat) bq).length)),(10,ii),(11,ii),(12,ii)]]) (aU.ay (.aV (ny (sz:=3) (f:=cG) aw) e6 (acS bq bk) b9.1 b9.2 (hk aI b8) (hd 3) (cS 3 (gA (c4 aI af) (0+fv.toNat) bq)) (.e2 (ap 3 d9 (af.set (0+fv.toNat) bq)) (hp (dt af) (0+fv.toNat) bq)))))))) (fun h1=>.ret (a9 [(I 1),.R false,.aK [0] [.pure] (a2 [4])] (.e2 h1 (ap 3 d9 af))))
def E5 (fU:anz):Option (dP×Bool) :=if 0<=(len_ (fj 3 cG) fU)/\(56:Int)*(len_ (fj 3 cG) fU)<=281474976710656/\(len_ (fj 3 cG) fU)<9223372036854775808 then SI fU (len_ (fj 3 cG) fU) 0 (List.replicate (len_ (fj 3 cG) fU).toNat (⟨(⟨false,([]:ar)⟩:bE),([]:ar)⟩:ax):dP) >>= fun r2 =>match r2 with | .inl fx=>(some (fx,true)) | .inr fx=>(some (([]:dP),false)) else none
theorem acH:bt (E5 fU) (fun r=>Con bw 36 [.isl 1 (fU.map (fj 3 cG))] [] (.ea [.isl 3 (r.1.map aI),.b r.2]) []):=by
 unfold E5
 exact .aO fun h1 =>
  .ag fun r2 U =>
  (let q2:=len_ (fj 3 cG) fU;let q1:=(List.replicate q2.toNat (Oo:ax):dP);let t1:dR:=[(I 2),.ak (bi 2 (.bT [.b false,.isl 1 (([]:ar).map eI),.isl 1 (([]:ar).map eI)]) 1),(I 3),.aK [4] [.cF (aq 3 aI q1)] [(4,fJ (q1.length)),(10,ii),(11,ii),(12,ii)]];
  have aU:=((.e5 h1.1 (Int.le_refl q2) h1.2.1 h1.2.2 (cS 3 (kG aI q2.toNat (Oo:ax))) (ap 3 d9 q1) (la q2.toNat ((Oo:ax):ax))):cI _);
  (by
  rcases r2 with fx|fx
  ·exact(.ret (bj (t1.aM [((R1 fU (len_ (fj 3 cG) fU)).t (.inl fx)),(I 3)]) (aU.ay (.c1 (cY U Qj) (gU aI fx) (gh aI fx) (eb d9 fx))) (.comp [.cE (.eT (fx.map aI)),.cE .id])))
  ·exact(.ret (bj (t1.aM [.sub (.ret) [(2,.fT),(3,.b false)] []]) (aU.ay (.e1 (cY U Qj))) (.comp [.cE (.gP 3),.cE .id])))))
def yb (aQ:cL)(ej:ar)(eW:anu):Option (dP×Bool) :=w5 aQ ej >>= fun r1 =>if r1=true then w1 aQ eW >>= fun bd =>if bd=true then AG aQ ej eW >>= fun bq =>tO aQ bq.1 bq.2.1 bq.2.2.1 bq.2.2.2.1 bq.2.2.2.2 >>= fun bz =>if bz.2.2=true then E5 bz.1 >>= fun c0 =>some (c0.1,c0.2) else some (([]:dP),false) else some (([]:dP),false) else some (([]:dP),false)
theorem PF:bt (yb aQ ej eW) (fun r=>Con bw 20 [.agg (hg aQ),.isl 1 (ej.map eI),.isl 4 (eW.map eTBlock)] [] (.ea [.isl 3 (r.1.map aI),.b r.2]) []):=.ag fun r1 h2=>(have b4:=((.e2 (acD r1 h2) (bW.b r1)):cI _);.ite (fun U=>.ag fun bd aw=>(let t2:dR:=[(I 3),.ak (ab 2 (ae (bh 2 (.b r1) true) (ab 4 (ae (bh 2 (.b bd) true) (ab 1 (ae (.R false) []))))))];have eR:=b4.ay (.e5 (ch U) (ch U) (ch U) (abR bd aw) (bW.b bd) (ch U) (ch U));.ite (fun aR=>.ag fun bq bk=>.ag fun bz b8=>(let q1:=fE 1 az bq.2.2.2.1;let q2:=fE 1 az bq.2.2.2.2;let bD:=fE 1 az bq.2.2.1;let t4:dR:=t2.aM [.R false,.j3 0,.ak (ab 2 (ae (.call {a7:=[],d4:=[],ac:=[.bc (.ptr [.id,.id]),ii,ii],r:= .agg (lW bq.1 bq.2.1 0 0 0 bq.2.2.1.length 0 1 0 bq.2.2.2.1.length 0 2 0 bq.2.2.2.2.length),fC:=[[bK 1 eI bq.2.2.1,bK 1 eI bq.2.2.2.1,bK 1 eI bq.2.2.2.2]],hI:= .bc (.agg c9),iN:=[.bu [bK 1 eI bq.2.2.1,bK 1 eI bq.2.2.2.1,bK 1 eI bq.2.2.2.2]],e7:=[0],eJ:=true}) (ae (.call {a7:=[.al 15 0 (bK 1 eI bq.2.2.1),.al 15 1 (bK 1 eI bq.2.2.2.1),.al 15 2 (bK 1 eI bq.2.2.2.2)],d4:=[.pure,.pure,.pure],ac:=[.bc (.ptr [.id,.id]),.bc (.agg [.id,.id,.at_ 0 0 bq.2.2.1.length,.at_ 1 0 bq.2.2.2.1.length,.at_ 2 0 bq.2.2.2.2.length])],r:= .ea [.isl 1 (bz.1.map (fj 3 cG)),.isl 1 (bz.2.1.map (fj 3 cG)),.b bz.2.2],fC:=[(aq 1 eI bq.2.2.1),(aq 1 eI bq.2.2.2.1),(aq 1 eI bq.2.2.2.2)],hI:=ii,iN:=[.pure,.pure,.pure],e7:=[0,15],eJ:=false}) (ab 7 [])))),(I 2)];have lj:=eR.ay (.aV (ch aR) (nE (tP aQ):jj [(hg aQ)]) (eS (gx (ic [15]) 1 hn bq.2.2.1) (eS (gx (ic [15]) 1 hn bq.2.2.2.1) (eS (gx (ic [15]) 1 hn bq.2.2.2.2) (kH (cd:=(ic [15])))))) ((l5 rfl (l5 rfl (l5 rfl xa))):ox [bK 1 eI bq.2.2.1,bK 1 eI bq.2.2.2.1,bK 1 eI bq.2.2.2.2]) (Y5 bq bk) (bW.agg (lo (bW.n .i64 bq.1) (lo (bW.n .i64 bq.2.1) (lo (bW.bb 0 0 0 bq.2.2.1.length) (lo (bW.bb 0 1 0 bq.2.2.2.1.length) (lo (bW.bb 0 2 0 bq.2.2.2.2.length) tg)))))) ((qN (nF (nn uj) (nF (nn uj) (nF (nn uj) qQ))) qP):oB [[bK 1 eI bq.2.2.1,bK 1 eI bq.2.2.2.1,bK 1 eI bq.2.2.2.2]]) (by decide:0≠1) (.aV (by decide:0≠2) (by decide:1≠2) (nE (tP aQ):jj [(hg aQ)]) (rfl:mn [.al 15 0 (bK 1 eI bq.2.2.1),.al 15 1 (bK 1 eI bq.2.2.2.1),.al 15 2 (bK 1 eI bq.2.2.2.2)] 0 0=some (15,0)) (rfl:bq.2.2.1.length=bq.2.2.1.length) (rfl:mn [.al 15 0 (bK 1 eI bq.2.2.1),.al 15 1 (bK 1 eI bq.2.2.2.1),.al 15 2 (bK 1 eI bq.2.2.2.2)] 1 0=some (15,1)) (rfl:bq.2.2.2.1.length=bq.2.2.2.1.length) (rfl:mn [.al 15 0 (bK 1 eI bq.2.2.1),.al 15 1 (bK 1 eI bq.2.2.2.1),.al 15 2 (bK 1 eI bq.2.2.2.2)] 2 0=some (15,2)) (.aV (rfl:bq.2.2.2.2.length=bq.2.2.2.2.length) (rfl:ee (some [bK 1 eI bq.2.2.1,bK 1 eI bq.2.2.2.1,bK 1 eI bq.2.2.2.2]) 0=some (bK 1 eI bq.2.2.1)) bD (rfl:ee (some [bK 1 eI bq.2.2.1,bK 1 eI bq.2.2.2.1,bK 1 eI bq.2.2.2.2]) 1=some (bK 1 eI bq.2.2.2.1)) q1 (rfl:ee (some [bK 1 eI bq.2.2.1,bK 1 eI bq.2.2.2.1,bK 1 eI bq.2.2.2.2]) 2=some (bK 1 eI bq.2.2.2.2)) q2 bD (.bI q1 q2 (ZQ bz b8)))));.ite (fun dp=>.ag fun c0 el=>.ret (bj (t4.aM [.R false,.ak (bi 1 (bh 1 (.ea [.isl 3 (c0.1.map aI),.b c0.2]) false) 4)]) (lj.ay (.e2 (ch dp) (acH c0 el))))) (fun dp=>.ret (bj (t4.aM [.R true,(I 2)]) (lj.ay (.e1 (cf dp))) (.comp [.cE (.gP 3),.cE .id]))))) (fun aR=>.ret (bj (t2.aM [.R true,(I 2)]) (eR.ay (.e1 (cf aR))) (.comp [.cE (.gP 3),.cE .id]))))) (fun U=>.ret (bj [(I 3),.ak (ab 2 (ae (bh 2 (.b r1) true) (ab 2 (cn 4 (ae (.R true) []))))),.R true,(I 2)] (b4.ay (.eg (cf U) (cf U) (cf U) (cf U) (cf U) br)) (.comp [.cE (.gP 3),.cE .id]))))
def PR (ej:ar)(gp:anu)(ga:Int)(bo:anv)(a4:anw):dY (Int×anu) anu:=⟨fun (f8,aB)=>dk [(1,.isl 1 (ej.map eI)),(3,.ref 0 0 0 0),(9,.bb 1 0 0 aB.length),(26,.isl 4 (gp.map eTBlock)),(27,.n .i64 ga),(28,.n .i64 f8)] [[a3.mk 2 [[.isl 4 (bo.map cm),.isl 3 (a4.map ck)]] .live],(aq 4 eTBlock aB)],fun | a=>⟨some 0,[(1,.isl 1 (ej.map eI)),(3,.ref 0 0 0 0),(9,.bb 1 0 0 a.length)],[[a3.mk 2 [[.isl 4 (bo.map cm),.isl 3 (a4.map ck)]] .live],(aq 4 eTBlock a)]⟩⟩
def AP (ej:ar)(gp:anu)(ga:Int)(bo:anv)(a4:anw)(f8:Int)(aB:anu):Option ((Int×anu)⊕(anu)) :=if (decide (f8<ga))=true then if 0<=f8/\f8<gp.length then gp[f8.toNat]? >>= fun ao =>if 0<=f8/\f8<(aB.length:Nat) then if (0+f8.toNat)<aB.length then some (.inl (J (f8+1),aB.set (0+f8.toNat) (⟨ao.bR,ao.bS,1,1⟩:cV))) else none else none else none else some (.inr aB)
def KM (ej:ar)(gp:anu)(ga:Int)(bo:anv)(a4:anw)(f8:Int)(aB:anu):Option (anu):=iter (fun w:Int×anu=>AP ej gp ga bo a4 w.1 w.2) (f8,aB)
theorem Zg:bt (AP ej gp ga bo a4 f8 aB) (d7 bw 51 0 10 [1,1,1,0,1,0,0] (PR ej gp ga bo a4) (f8,aB)):=.ite (fun h1=>.aO fun h2=>.ag fun ao ai=>.aO fun aw=>.aO fun aR=>.ret (a9 [(I 1),.R true,.ak (bi 2 (.bT (eTBlock ao)) 3),.ak (ab 8 (ae .ev [])),(I 2),.aK [0,1] [.box [.id,.id],.cF (aq 4 eTBlock (aB.set (0+f8.toNat) (⟨ao.bR,ao.bS,1,1⟩:cV)))] [(1,ii),(3,ii),(9,fJ ((aB.set (0+f8.toNat) (⟨ao.bR,ao.bS,1,1⟩:cV)).length)),(26,ii),(27,ii),(28,ii)]] (.aV h1 h2.1 (c8 eTBlock h2.2) (bN eTBlock ai) aw.1 aw.2 (hk eTBlock aR) (hd 4) (.bI (cS 4 (gA (c4 eTBlock aB) (0+f8.toNat) (⟨ao.bR,ao.bS,1,1⟩:cV))) (ap 4 oo (aB.set (0+f8.toNat) (⟨ao.bR,ao.bS,1,1⟩:cV))) (hp (dt aB) (0+f8.toNat) (⟨ao.bR,ao.bS,1,1⟩:cV)))))) (fun h1=>.ret (a9 [(I 1),.R false,.aK [0,1] [.box [.id,.id],.pure] (a2 [1,3,9])] (.e2 h1 (ap 4 oo aB))))
def D7 (aQ:cL)(ej:ar)(eW:anu):anx :=yb aQ ej eW >>= fun r1 =>if r1.2=true then if 0<=(len_ eTBlock eW)/\(32:Int)*(len_ eTBlock eW)<=281474976710656/\(len_ eTBlock eW)<9223372036854775808 then KM ej eW (len_ eTBlock eW) aQ.cc aQ.bA 0 (List.replicate (len_ eTBlock eW).toNat (⟨0,0,0,0⟩:cV):anu) >>= fun aN =>yb aQ ej aN >>= fun bq =>some (!bq.2) else none else some false
theorem aap:bt (D7 aQ ej eW) (fun r=>Con bw 10 [.agg (hg aQ),.isl 1 (ej.map eI),.isl 4 (eW.map eTBlock)] [] (.b r) []):=.ag fun r1 h2=>(let t1:dR:=[(I 2),.ak (bi 3 (bh 3 (.ea [.isl 3 (r1.1.map aI),.b r1.2]) false) 5),(I 2)];have aU:=((.e1 (PF r1 h2)):cI _);.ite (fun U=>.aO fun ai=>.ag fun aN aR=>.ag fun bq bk=>.ret (let q2:=len_ eTBlock eW;let q1:=(List.replicate q2.toNat (⟨0,0,0,0⟩:cV):anu);bj (t1.aM [.R false,(I 4),(I 3),.aK [0,15] [.box [.id,.id],.cF (aq 4 eTBlock q1)] [(1,ii),(3,ii),(9,fJ (q1.length)),(26,ii),(27,ii),(28,ii)],((PR ej eW q2 aQ.cc aQ.bA).t aN),.j3 1,.ak (bi 3 (.call {ac:=[ii,ii,.bc (.cE (.eT (aN.map eTBlock)))],r:= .ea [.isl 3 (bq.1.map aI),.b bq.2],eJ:=false,e7:=[1]}) 5),(I 3)]) (aU.ay (.aV (ch U) ai.1 (Int.le_refl q2) ai.2.1 ai.2.2 (cS 4 (kG eTBlock q2.toNat (⟨0,0,0,0⟩:cV))) (ap 4 oo q1) (la q2.toNat ((⟨0,0,0,0⟩:cV):cV)) (.di (cY aR Zg) (gU eTBlock aN) (gh eTBlock aN) (eb oo aN) (PF bq bk)))))) (fun U=>.ret (bj (t1.aM [.R true,(I 1)]) (aU.ay (.e1 (cf U))))))
def EY (aC aT:dr):anx :=if (!(aC.mO.toList == aT.mO.toList))=true then some false else if (aC.hv != aT.hv)=true then some false else if (aC.iW != aT.iW)=true then some false else if (aC.m1 == aT.m1)=true then some true else some false
theorem aco:bt (EY aC aT) (fun r=>Con bw 37 [.agg (cm aC),.agg (cm aT)] [] (.b r) []):=.ite (fun h1=>.ret (bj [(I 3),(I 5),.R true,(I 1)] (.e1 h1))) (fun h1=>(let t1:dR:=[(I 3),(I 5),.R false,(I 5)];.ite (fun h2=>.ret (bj (t1.aM [.R true,(I 1)]) (.e2 h1 h2))) (fun h2=>.ite (fun U=>.ret (bj (t1.aM [.R false,(I 5),.R true,(I 1)]) (.bI h1 h2 U))) (fun U=>(let t2:dR:=t1.aM [.R false,(I 5),.R false,(I 5)];.ite (fun ai=>.ret (bj (t2.aM [.R false,(I 1)]) (.c1 h1 h2 U (ch ai)))) (fun ai=>.ret (bj (t2.aM [.R true,(I 1)]) (.c1 h1 h2 U (cf ai)))))))))
def abj (aC aT:anv):dY Int ((Unit)⊕(Unit)):=⟨fun au=>dk [(0,.isl 4 (aC.map cm)),(1,.isl 4 (aT.map cm)),(5,.n .i64 au)] [],fun | .inl a=>⟨some 0,[],[]⟩ | .inr a=>⟨none,[(4,.b false)],[]⟩⟩
def Bs (aC aT:anv)(au:Int):Option ((Int)⊕((Unit)⊕(Unit))) :=if (decide (au<(len_ cm aC)))=true then if 0<=au/\au<aC.length then aC[au.toNat]? >>= fun ao =>if 0<=au/\au<aT.length then aT[au.toNat]? >>= fun b7 =>EY ao b7 >>= fun bB =>if bB=true then some (.inl (J (au+1))) else some (.inr (.inr ())) else none else none else some (.inr (.inl ()))
def R2 (aC aT:anv)(au:Int):Option ((Unit)⊕(Unit)):=iter (fun w:Int=>Bs aC aT w) au
theorem P3:bt (Bs aC aT au) (d7 bw 27 0 21 [1,1,0,1,0,0] (abj aC aT) au):=.ite (fun h1=>.aO fun h2=>.ag fun ao ai=>.aO fun aw=>.ag fun b7 a8=>.ag fun bB b9=>(let t1:dR:=[(I 4),.R true,.ak (ab 3 (ae (.bT (cm ao)) (ab 3 (ae (.bT (cm b7)) (ae (bh 2 (.b bB) true) (ab 1 []))))))];have aU:=((.aV h1 h2.1 (c8 cm h2.2) (bN cm ai) aw.1 (c8 cm aw.2) (bN cm a8) (aco bB b9) (.e1 (bW.b bB))):cI _);.ite (fun b8=>.ret (a9 (t1.aM [.R false,(I 3),.aK [] [] (a2 [0,1,5])]) (aU.ay (.e1 (ch b8))))) (fun b8=>.ret (a9 (t1.aM [.R true,(I 1),.aK [] [] (a2 [4])]) (aU.ay (.e1 (cf b8))))))) (fun h1=>.ret (a9 [(I 4),.R false,.aK [] [] []] (.e1 h1)))
def EM (aC aT:anv):anx :=if ((len_ cm aC) != (len_ cm aT))=true then some false else R2 aC aT 0 >>= fun r2 =>match r2 with | .inl fx=>(some true) | .inr fx=>(some false)
theorem abS:bt (EM aC aT) (fun r=>Con bw 21 [.isl 4 (aC.map cm),.isl 4 (aT.map cm)] [] (.b r) []):=by
 unfold EM
 exact .ite (fun h1 =>
  .ret (bj [(I 1),(I 5),.R true,(I 1)] (.e1 h1)))
  (fun h1 =>
  .ag fun r2 U =>
  (let t1:dR:=[(I 1),(I 5),.R false,(I 1),.aK [] [] (a2 [0,1,5])];
  (by
  rcases r2 with fx|fx
  ·exact(.ret (bj (t1.aM [.sub (.exit 0) [] [],(I 1)]) (.e2 h1 (cY U P3))))
  ·exact(.ret (bj (t1.aM [.sub (.ret) [(4,.b false)] []]) (.e2 h1 (cY U P3)))))))
def EN (aC aT:d5):anx :=if (aC.bR != aT.bR)=true then some false else if (aC.bS != aT.bS)=true then some false else if (aC.jd != aT.jd)=true then some false else some true
theorem abT:bt (EN aC aT) (fun r=>Con bw 38 [.agg (ck aC),.agg (ck aT)] [] (.b r) []):=.ite (fun h1=>.ret (bj [(I 3),(I 5),.R true,(I 1)] (.e1 h1))) (fun h1=>(let t1:dR:=[(I 3),(I 5),.R false,(I 5)];.ite (fun h2=>.ret (bj (t1.aM [.R true,(I 1)]) (.e2 h1 h2))) (fun h2=>.ite (fun U=>.ret (bj (t1.aM [.R false,(I 5),.R true,(I 1)]) (.bI h1 h2 U))) (fun U=>.ret (bj (t1.aM [.R false,(I 5),.R false,(I 1)]) (.bI h1 h2 U))))))
def aa2 (aC aT:anw):dY Int ((Unit)⊕(Unit)):=⟨fun au=>dk [(0,.isl 3 (aC.map ck)),(1,.isl 3 (aT.map ck)),(5,.n .i64 au)] [],fun | .inl a=>⟨some 0,[],[]⟩ | .inr a=>⟨none,[(4,.b false)],[]⟩⟩
def Bh (aC aT:anw)(au:Int):Option ((Int)⊕((Unit)⊕(Unit))) :=if (decide (au<(len_ ck aC)))=true then if 0<=au/\au<aC.length then aC[au.toNat]? >>= fun ao =>if 0<=au/\au<aT.length then aT[au.toNat]? >>= fun b7 =>EN ao b7 >>= fun bB =>if bB=true then some (.inl (J (au+1))) else some (.inr (.inr ())) else none else none else some (.inr (.inl ()))
def RF (aC aT:anw)(au:Int):Option ((Unit)⊕(Unit)):=iter (fun w:Int=>Bh aC aT w) au
theorem PS:bt (Bh aC aT au) (d7 bw 27 0 22 [1,1,0,1,0,0] (aa2 aC aT) au):=.ite (fun h1=>.aO fun h2=>.ag fun ao ai=>.aO fun aw=>.ag fun b7 a8=>.ag fun bB b9=>(let t1:dR:=[(I 4),.R true,.ak (ab 3 (ae (.bT (ck ao)) (ab 3 (ae (.bT (ck b7)) (ae (bh 2 (.b bB) true) (ab 1 []))))))];have aU:=((.aV h1 h2.1 (c8 ck h2.2) (bN ck ai) aw.1 (c8 ck aw.2) (bN ck a8) (abT bB b9) (.e1 (bW.b bB))):cI _);.ite (fun b8=>.ret (a9 (t1.aM [.R false,(I 3),.aK [] [] (a2 [0,1,5])]) (aU.ay (.e1 (ch b8))))) (fun b8=>.ret (a9 (t1.aM [.R true,(I 1),.aK [] [] (a2 [4])]) (aU.ay (.e1 (cf b8))))))) (fun h1=>.ret (a9 [(I 4),.R false,.aK [] [] []] (.e1 h1)))
def Ey (aC aT:anw):anx :=if ((len_ ck aC) != (len_ ck aT))=true then some false else RF aC aT 0 >>= fun r2 =>match r2 with | .inl fx=>(some true) | .inr fx=>(some false)
theorem abp:bt (Ey aC aT) (fun r=>Con bw 22 [.isl 3 (aC.map ck),.isl 3 (aT.map ck)] [] (.b r) []):=by
 unfold Ey
 exact .ite (fun h1 =>
  .ret (bj [(I 1),(I 5),.R true,(I 1)] (.e1 h1)))
  (fun h1 =>
  .ag fun r2 U =>
  (let t1:dR:=[(I 1),(I 5),.R false,(I 1),.aK [] [] (a2 [0,1,5])];
  (by
  rcases r2 with fx|fx
  ·exact(.ret (bj (t1.aM [.sub (.exit 0) [] [],(I 1)]) (.e2 h1 (cY U PS))))
  ·exact(.ret (bj (t1.aM [.sub (.ret) [(4,.b false)] []]) (.e2 h1 (cY U PS)))))))
def El (aC aT:cL):anx :=EM aC.cc aT.cc >>= fun r1 =>if r1=true then Ey aC.bA aT.bA >>= fun bd =>if bd=true then some true else some false else some false
theorem aa3:bt (El aC aT) (fun r=>Con bw 11 [.agg (hg aC),.agg (hg aT)] [] (.b r) []):=.ag fun r1 h2=>(let t1:dR:=[(I 3),.ak (bi 4 (bh 2 (.b r1) true) 1)];have aU:=((.e2 (abS r1 h2) (bW.b r1)):cI _);.ite (fun U=>.ag fun bd aw=>(let t3:dR:=t1.aM [.R false,.ak (bi 4 (bh 2 (.b bd) true) 1)];have e8:=aU.ay (.bI (ch U) (abp bd aw) (bW.b bd));.ite (fun aR=>.ret (bj (t3.aM [.R false,(I 1)]) (e8.ay (.e1 (ch aR))))) (fun aR=>.ret (bj (t3.aM [.R true,(I 1)]) (e8.ay (.e1 (cf aR))))))) (fun U=>.ret (bj (t1.aM [.R true,(I 1)]) (aU.ay (.e1 (cf U))))))
def abU (aC aT:ar):dY Int ((Unit)⊕(Unit)):=⟨fun au=>dk [(0,.isl 1 (aC.map eI)),(1,.isl 1 (aT.map eI)),(5,.n .i64 au)] [],fun | .inl a=>⟨some 0,[],[]⟩ | .inr a=>⟨none,[(4,.b false)],[]⟩⟩
def BT (aC aT:ar)(au:Int):Option ((Int)⊕((Unit)⊕(Unit))) :=if (decide (au<(len_ eI aC)))=true then if 0<=au/\au<aC.length then aC[au.toNat]? >>= fun ao =>if 0<=au/\au<aT.length then aT[au.toNat]? >>= fun b7 =>if (ao != b7)=true then some (.inr (.inr ())) else some (.inl (J (au+1))) else none else none else some (.inr (.inl ()))
def SJ (aC aT:ar)(au:Int):Option ((Unit)⊕(Unit)):=iter (fun w:Int=>BT aC aT w) au
theorem Qk:bt (BT aC aT au) (d7 bw 26 0 12 [1,1,0,1,0,0] (abU aC aT) au):=.ite (fun h1=>.aO fun h2=>.ag fun ao ai=>.aO fun aw=>.ag fun b7 a8=>(let t1:dR:=[(I 4),.R true,.ak (ab 3 (ae (.bT (eI ao)) (bi 3 (.bT (eI b7)) 1)))];have aU:=((.e5 h1 h2.1 (c8 eI h2.2) (bN eI ai) aw.1 (c8 eI aw.2) (bN eI a8)):cI _);.ite (fun bk=>.ret (a9 (t1.aM [.R true,(I 1),.aK [] [] (a2 [4])]) (aU.ay (.e1 bk)))) (fun bk=>.ret (a9 (t1.aM [.R false,(I 3),.aK [] [] (a2 [0,1,5])]) (aU.ay (.e1 bk)))))) (fun h1=>.ret (a9 [(I 4),.R false,.aK [] [] []] (.e1 h1)))
def E6 (aC aT:ar):anx :=if ((len_ eI aC) != (len_ eI aT))=true then some false else SJ aC aT 0 >>= fun r2 =>match r2 with | .inl fx=>(some true) | .inr fx=>(some false)
theorem acI:bt (E6 aC aT) (fun r=>Con bw 12 [.isl 1 (aC.map eI),.isl 1 (aT.map eI)] [] (.b r) []):=by
 unfold E6
 exact .ite (fun h1 =>
  .ret (bj [(I 1),(I 5),.R true,(I 1)] (.e1 h1)))
  (fun h1 =>
  .ag fun r2 U =>
  (let t1:dR:=[(I 1),(I 5),.R false,(I 1),.aK [] [] (a2 [0,1,5])];
  (by
  rcases r2 with fx|fx
  ·exact(.ret (bj (t1.aM [.sub (.exit 0) [] [],(I 1)]) (.e2 h1 (cY U Qk))))
  ·exact(.ret (bj (t1.aM [.sub (.ret) [(4,.b false)] []]) (.e2 h1 (cY U Qk)))))))
def H6 (aC aT:cV):anx :=if (aC.bR != aT.bR)=true then some false else if (aC.bS != aT.bS)=true then some false else if (aC.cK != aT.cK)=true then some false else if (aC.ez != aT.ez)=true then some false else some true
theorem acp:bt (H6 aC aT) (fun r=>Con bw 23 [.agg (eTBlock aC),.agg (eTBlock aT)] [] (.b r) []):=.ite (fun h1=>.ret (bj [(I 3),(I 5),.R true,(I 1)] (.e1 h1))) (fun h1=>(let t1:dR:=[(I 3),(I 5),.R false,(I 5)];.ite (fun h2=>.ret (bj (t1.aM [.R true,(I 1)]) (.e2 h1 h2))) (fun h2=>.ite (fun U=>.ret (bj (t1.aM [.R false,(I 5),.R true,(I 1)]) (.bI h1 h2 U))) (fun U=>(let t2:dR:=t1.aM [.R false,(I 5),.R false,(I 5)];.ite (fun ai=>.ret (bj (t2.aM [.R true,(I 1)]) (.c1 h1 h2 U ai))) (fun ai=>.ret (bj (t2.aM [.R false,(I 1)]) (.c1 h1 h2 U ai))))))))
def abk (aC aT:anu):dY Int ((Unit)⊕(Unit)):=⟨fun au=>dk [(0,.isl 4 (aC.map eTBlock)),(1,.isl 4 (aT.map eTBlock)),(5,.n .i64 au)] [],fun | .inl a=>⟨some 0,[],[]⟩ | .inr a=>⟨none,[(4,.b false)],[]⟩⟩
def Bt (aC aT:anu)(au:Int):Option ((Int)⊕((Unit)⊕(Unit))) :=if (decide (au<(len_ eTBlock aC)))=true then if 0<=au/\au<aC.length then aC[au.toNat]? >>= fun ao =>if 0<=au/\au<aT.length then aT[au.toNat]? >>= fun b7 =>H6 ao b7 >>= fun bB =>if bB=true then some (.inl (J (au+1))) else some (.inr (.inr ())) else none else none else some (.inr (.inl ()))
def R3 (aC aT:anu)(au:Int):Option ((Unit)⊕(Unit)):=iter (fun w:Int=>Bt aC aT w) au
theorem P4:bt (Bt aC aT au) (d7 bw 27 0 13 [1,1,0,1,0,0] (abk aC aT) au):=.ite (fun h1=>.aO fun h2=>.ag fun ao ai=>.aO fun aw=>.ag fun b7 a8=>.ag fun bB b9=>(let t1:dR:=[(I 4),.R true,.ak (ab 3 (ae (.bT (eTBlock ao)) (ab 3 (ae (.bT (eTBlock b7)) (ae (bh 2 (.b bB) true) (ab 1 []))))))];have aU:=((.aV h1 h2.1 (c8 eTBlock h2.2) (bN eTBlock ai) aw.1 (c8 eTBlock aw.2) (bN eTBlock a8) (acp bB b9) (.e1 (bW.b bB))):cI _);.ite (fun b8=>.ret (a9 (t1.aM [.R false,(I 3),.aK [] [] (a2 [0,1,5])]) (aU.ay (.e1 (ch b8))))) (fun b8=>.ret (a9 (t1.aM [.R true,(I 1),.aK [] [] (a2 [4])]) (aU.ay (.e1 (cf b8))))))) (fun h1=>.ret (a9 [(I 4),.R false,.aK [] [] []] (.e1 h1)))
def EO (aC aT:anu):anx :=if ((len_ eTBlock aC) != (len_ eTBlock aT))=true then some false else R3 aC aT 0 >>= fun r2 =>match r2 with | .inl fx=>(some true) | .inr fx=>(some false)
theorem abV:bt (EO aC aT) (fun r=>Con bw 13 [.isl 4 (aC.map eTBlock),.isl 4 (aT.map eTBlock)] [] (.b r) []):=by
 unfold EO
 exact .ite (fun h1 =>
  .ret (bj [(I 1),(I 5),.R true,(I 1)] (.e1 h1)))
  (fun h1 =>
  .ag fun r2 U =>
  (let t1:dR:=[(I 1),(I 5),.R false,(I 1),.aK [] [] (a2 [0,1,5])];
  (by
  rcases r2 with fx|fx
  ·exact(.ret (bj (t1.aM [.sub (.exit 0) [] [],(I 1)]) (.e2 h1 (cY U P4))))
  ·exact(.ret (bj (t1.aM [.sub (.ret) [(4,.b false)] []]) (.e2 h1 (cY U P4)))))))
def HE (JF:cL)(JG:ar)(I2:anu):anx :=if (decide ((1048576:Int)<(len_ eI JG)))=true then some true else yt JF 1048576 >>= fun r2 =>if (decide (r2<0))=true then some true else EA I2 r2 >>= fun aN =>if (decide (aN<0))=true then some true else Ec JF >>= fun bB =>EB JG >>= fun dl =>En I2 >>= fun c0 =>D4 (⟨bB.1,bB.2⟩:cL) dl c0 >>= fun fb =>D7 (⟨bB.1,bB.2⟩:cL) dl c0 >>= fun dm =>if (dm == fb)=true then El (⟨bB.1,bB.2⟩:cL) (⟨bB.1,bB.2⟩:cL) >>= fun gL =>if gL=true then E6 dl dl >>= fun uC =>if uC=true then EO c0 c0 >>= fun tH =>if tH=true then some true else some false else some false else some false else some false
theorem Zk:bt (HE JF JG I2) (fun r=>Con bw 3 [.agg (hg JF),.isl 1 (JG.map eI),.isl 4 (I2.map eTBlock)] [] (.b r) []):=.ite (fun h1=>.ret (bj [(I 2),(I 3),.R true,(I 1)] (.e1 h1))) (fun h1=>.ag fun r2 U=>(let t1:dR:=[(I 2),(I 3),.R false,(I 1),.ak (bi 2 (bh 2 (.n .i64 r2) true) 1),(I 2)];have aU:=((.bI h1 (aaX r2 U) (bW.n .i64 r2)):cI _);.ite (fun ai=>.ret (bj (t1.aM [.R true,(I 1)]) (aU.ay (.e1 ai)))) (fun ai=>.ag fun aN aR=>(let t3:dR:=t1.aM [.R false,.ak (bi 2 (bh 2 (.n .i64 aN) true) 1),(I 2)];have e8:=aU.ay (.bI ai (abw aN aR) (bW.n .i64 aN));.ite (fun a8=>.ret (bj (t3.aM [.R true,(I 1)]) (e8.ay (.e1 a8)))) (fun a8=>.ag fun bB b9=>.ag fun dl dp=>.ag fun c0 el=>.ag fun fb gS=>.ag fun dm fW=>(let q1:=aq 1 eI dl;let q2:=aq 4 eTBlock c0;let t5:dR:=t3.aM [.R false,.ak (ab 1 (ae (.call {a7:=[],d4:=[],ac:=[ii],r:= .agg [.bb 0 0 0 bB.1.length,.bb 0 1 0 bB.2.length],fC:=[[bK 4 cm bB.1,bK 3 ck bB.2]],hI:= .bc (.agg [.id,.id]),iN:=[.bu [bK 4 cm bB.1,bK 3 ck bB.2]],e7:=[],eJ:=true}) (ab 1 (ae (.call {a7:=[],d4:=[],ac:=[ii],r:= .bb 0 0 0 dl.length,fC:=[q1],hI:=ii,iN:=[.pure],e7:=[],eJ:=true}) (ab 1 (ae (.call {a7:=[],d4:=[],ac:=[ii],r:= .bb 0 0 0 c0.length,fC:=[q2],hI:=ii,iN:=[.pure],e7:=[],eJ:=true}) (ae (.call {ac:=[.bc (.agg [.eT (bB.1.map cm),.eT (bB.2.map ck)]),.bc (.cE (.eT (dl.map eI))),.bc (.cE (.eT (c0.map eTBlock)))],r:= .b fb,eJ:=true,e7:=[19,21,23]}) (ab 1 [])))))))),.ak (bi 1 (.call {a7:=[],d4:=[],ac:=[ii],r:= .agg [.bb 0 0 0 bB.1.length,.bb 0 1 0 bB.2.length],fC:=[[bK 4 cm bB.1,bK 3 ck bB.2]],hI:= .bc (.agg [.id,.id]),iN:=[.bu [bK 4 cm bB.1,bK 3 ck bB.2]],e7:=[],eJ:=true}) 2),.ak (bi 1 (.call {a7:=[],d4:=[],ac:=[ii],r:= .bb 0 0 0 dl.length,fC:=[q1],hI:=ii,iN:=[.pure],e7:=[],eJ:=true}) 1),.ak (bi 1 (.call {a7:=[],d4:=[],ac:=[ii],r:= .bb 0 0 0 c0.length,fC:=[q2],hI:=ii,iN:=[.pure],e7:=[],eJ:=true}) 1),.ak (bi 3 (.call {ac:=[.bc (.agg [.eT (bB.1.map cm),.eT (bB.2.map ck)]),.bc (.cE (.eT (dl.map eI))),.bc (.cE (.eT (c0.map eTBlock)))],r:= .b dm,eJ:=true,e7:=[27,31,34]}) 1),(I 3)];have li:=e8.ay (.aV a8 (eS (gx (ic [19]) 4 Ij bB.1) (eS (gx (ic [19]) 3 Ib bB.2) (kH (cd:=(ic [19]))))) ((l5 rfl (l5 rfl xa)):ox [bK 4 cm bB.1,bK 3 ck bB.2]) (KQ bB b9) (bW.agg (lo (bW.bb 0 0 0 bB.1.length) (lo (bW.bb 0 1 0 bB.2.length) tg))) ((qN (nF (nn Ik) (nF (nn Ic) qQ)) qP):oB [[bK 4 cm bB.1,bK 3 ck bB.2]]) (fE 1 az dl) (Lh dl dp) (.aV (bW.bb 0 0 0 dl.length) ((qN (nF (nn uj) qQ) qP):oB [q1]) (fE 4 oo c0) (K6 c0 el) (bW.bb 0 0 0 c0.length) ((qN (nF (nn Md) qQ) qP):oB [q2]) (gU cm bB.1) (gh cm bB.1) (.aV (eb sZ bB.1) (gU ck bB.2) (gh ck bB.2) (eb sY bB.2) (gU eI dl) (gh eI dl) (eb az dl) (gU eTBlock c0) (.aV (gh eTBlock c0) (eb oo c0) (Z9 fb gS) (bW.b fb) (eS (gx (ic [27]) 4 Ij bB.1) (eS (gx (ic [27]) 3 Ib bB.2) (kH (cd:=(ic [27]))))) ((l5 rfl (l5 rfl xa)):ox [bK 4 cm bB.1,bK 3 ck bB.2]) (KQ bB b9) (bW.agg (lo (bW.bb 0 0 0 bB.1.length) (lo (bW.bb 0 1 0 bB.2.length) tg))) (.aV ((qN (nF (nn Ik) (nF (nn Ic) qQ)) qP):oB [[bK 4 cm bB.1,bK 3 ck bB.2]]) (fE 1 az dl) (Lh dl dp) (bW.bb 0 0 0 dl.length) ((qN (nF (nn uj) qQ) qP):oB [q1]) (fE 4 oo c0) (K6 c0 el) (bW.bb 0 0 0 c0.length) (.aV ((qN (nF (nn Md) qQ) qP):oB [q2]) (gU cm bB.1) (gh cm bB.1) (eb sZ bB.1) (gU ck bB.2) (gh ck bB.2) (eb sY bB.2) (gU eI dl) (.e5 (gh eI dl) (eb az dl) (gU eTBlock c0) (gh eTBlock c0) (eb oo c0) (aap dm fW) (bW.b dm))))))));.ite (fun hH=>.ag fun gL eO=>(let t7:dR:=t5.aM [.R false,.ak (ab 2 (ae (.call {a7:=[],d4:=[],ac:=[ii],r:= .agg [.bb 0 0 0 bB.1.length,.bb 0 1 0 bB.2.length],fC:=[[bK 4 cm bB.1,bK 3 ck bB.2]],hI:= .bc (.agg [.id,.id]),iN:=[.bu [bK 4 cm bB.1,bK 3 ck bB.2]],e7:=[],eJ:=true}) (ae (.call {ac:=[.bc (.agg [.eT (bB.1.map cm),.eT (bB.2.map ck)]),.bc (.agg [.eT (bB.1.map cm),.eT (bB.2.map ck)])],r:= .b gL,eJ:=true,e7:=[27,46]}) (ab 1 []))))];have ly:=li.ay (.aV (ch hH) (eS (gx (ic [46]) 4 Ij bB.1) (eS (gx (ic [46]) 3 Ib bB.2) (kH (cd:=(ic [46]))))) ((l5 rfl (l5 rfl xa)):ox [bK 4 cm bB.1,bK 3 ck bB.2]) (KQ bB b9) (bW.agg (lo (bW.bb 0 0 0 bB.1.length) (lo (bW.bb 0 1 0 bB.2.length) tg))) ((qN (nF (nn Ik) (nF (nn Ic) qQ)) qP):oB [[bK 4 cm bB.1,bK 3 ck bB.2]]) (gU cm bB.1) (gh cm bB.1) (.aV (eb sZ bB.1) (gU ck bB.2) (gh ck bB.2) (eb sY bB.2) (gU cm bB.1) (gh cm bB.1) (eb sZ bB.1) (gU ck bB.2) (.c1 (gh ck bB.2) (eb sY bB.2) (aa3 gL eO) (bW.b gL))));.ite (fun gG=>.ag fun uC oe=>(let t9:dR:=t7.aM [.R false,.ak (ab 2 (ae (.call {a7:=[],d4:=[],ac:=[ii],r:= .bb 0 0 0 dl.length,fC:=[(aq 1 eI dl)],hI:=ii,iN:=[.pure],e7:=[],eJ:=true}) (ae (.call {ac:=[.bc (.cE (.eT (dl.map eI))),.bc (.cE (.eT (dl.map eI)))],r:= .b uC,eJ:=true,e7:=[31,51]}) (ab 1 []))))];have XA:=ly.ay (.aV (ch gG) (fE 1 az dl) (Lh dl dp) (bW.bb 0 0 0 dl.length) ((qN (nF (nn uj) qQ) qP):oB [(aq 1 eI dl)]) (gU eI dl) (gh eI dl) (eb az dl) (.di (gU eI dl) (gh eI dl) (eb az dl) (acI uC oe) (bW.b uC)));.ite (fun qB=>.ag fun tH wB=>(let t11:dR:=t9.aM [.R false,.ak (ab 2 (ae (.call {a7:=[],d4:=[],ac:=[ii],r:= .bb 0 0 0 c0.length,fC:=[(aq 4 eTBlock c0)],hI:=ii,iN:=[.pure],e7:=[],eJ:=true}) (ae (.call {ac:=[.bc (.cE (.eT (c0.map eTBlock))),.bc (.cE (.eT (c0.map eTBlock)))],r:= .b tH,eJ:=true,e7:=[34,56]}) (ab 1 []))))];have GX:=XA.ay (.aV (ch qB) (fE 4 oo c0) (K6 c0 el) (bW.bb 0 0 0 c0.length) ((qN (nF (nn Md) qQ) qP):oB [(aq 4 eTBlock c0)]) (gU eTBlock c0) (gh eTBlock c0) (eb oo c0) (.di (gU eTBlock c0) (gh eTBlock c0) (eb oo c0) (abV tH wB) (bW.b tH)));.ite (fun mG=>.ret (bj (t11.aM [.R false,(I 1)]) (GX.ay (.e1 (ch mG))))) (fun mG=>.ret (bj (t11.aM [.R true,(I 1)]) (GX.ay (.e1 (cf mG))))))) (fun qB=>.ret (bj (t9.aM [.R true,(I 1)]) (XA.ay (.e1 (cf qB))))))) (fun gG=>.ret (bj (t7.aM [.R true,(I 1)]) (ly.ay (.e1 (cf gG))))))) (fun hH=>.ret (bj (t5.aM [.R true,(I 1)]) (li.ay (.e1 (cf hH)))))))))))
theorem pN {n:Nat}(h:n<=10000000):J ((n:Int)+1)=((n+1:Nat):Int):=by rw[cu (by omega) (by omega)];rfl
theorem tq {n:Nat}(h:n<=10000000):J ((n:Int)-1)=(n:Int)-1:=cu (by omega) (by omega)
theorem Nv {n:Nat}(h:n<=10000000):J (((n+1:Nat):Int)-1)=n:=by rw[cu (by omega) (by omega)];omega
theorem gZ (l:ar):len_ eI l=l.length:=fc _ l
theorem aeT {l:ar}{k:Nat}{x:Int}(aa:l[k]? = some x)(aY:l.length<=5000000):yh l ((k+1:Nat):Int)=some (if x=0 then .inl (k:Int) else .inr ((k+1:Nat):Int)):=by have a1:=gH aa;unfold yh;rw[Nv (by omega),dw (by simp),dw (by omega),dx,aa];by_cases h:x=0<;>simp[h]
theorem uT {l:ar}(aZ:c2 l)(aY:l.length<=5000000):s0 l=some (L (V l)):=by
 have : ∃r,iter (fun w:Int=>yh l w) (l.length:Int)=some r/\ ∃k:Nat,r=k/\k<=l.length/\l.take k=L (V l):=by
  refine ks (fr:=fun w:Int=> ∃k:Nat,w=k/\k<=l.length/\V (l.take k)=V l) (m:=fun w:Int=>w.toNat) _ ?_ _ ⟨l.length,rfl,by omega,by simp⟩;rintro _ ⟨k,rfl,a1,bf⟩
  cases k with
  | zero =>
   refine .inr ⟨0,by simp[yh],0,rfl,by omega,?_⟩;rw[<- bf];simp[V,sf]
  | succ k =>
   have aa:=dz (show k<l.length by omega);rw[aeT aa aY];by_cases h:l[k]=0
   ·refine .inl ⟨_,by simp[h],⟨k,rfl,by omega,?_⟩,by omega⟩;have:=vS aa;rw[h] at this;simp at this;omega
   ·refine .inr ⟨_,by simp[h],k+1,rfl,a1,?_⟩
    rcases gC.MV aZ k (fun x h1=>by rw[aa] at h1;simp at h1;omega) with h1|h1
    ·exact xy h1 bf
    ·omega
 obtain⟨r,aj,k,rfl,h1,h2⟩:=this;unfold s0 R9;rw[gZ,aj];simp[h1,h2]
theorem CJ {l:ar}(aZ:c2 l)(aY:l.length<=5000000):s9 l=some (L (V l)):=by
 have : ∃r,iter (fun w:ar=>B0 w) l=some r/\r=L (V l):=by
  refine ks (fr:=fun w=> ∃k:Nat,w=l.take k/\k<=l.length/\V (l.take k)=V l) (m:=fun w:ar=>w.length) _ ?_ _ ⟨l.length,by simp,by omega,by simp⟩;rintro _ ⟨k,rfl,a1,bf⟩;have hlen:(l.take k).length=k:=by simp;omega
  cases k with
  | zero =>
   refine .inr ⟨[],by simp[B0,gZ],?_⟩;rw[<- bf];simp[V,sf]
  | succ k =>
   have aa:=dz (show k<l.length by omega);have eE:(l.take (k+1))[k]? = some l[k]:=(by rw[List.getElem?_take];simp[aa]);unfold B0;simp only[gZ,hlen];rw[Nv (by omega),dw (by simp),dw (by omega),dx,eE];by_cases h:l[k]=0
   ·refine .inl ⟨l.take k,by simp[h,List.take_take,Nat.min_eq_left],⟨k,rfl,by omega,?_⟩,by simp;omega⟩;have:=vS aa;rw[h] at this;simp at this;omega
   ·refine .inr ⟨l.take (k+1),by simp[h],?_⟩
    rcases gC.MV aZ k (fun x h1=>by rw[aa] at h1;simp at h1;omega) with h1|h1
    ·exact xy h1 bf
    ·omega
 obtain⟨r,aj,rfl⟩:=this;unfold s9 SX;rw[aj];rfl
theorem aeU {l:ar}(aZ:c2 l)(aY:l.length<=5000000): ∃k,E3 l=some k/\k<=l.length/\l.take k=L (V l):=by
 have : ∃r,iter (fun w:Nat=>BQ l w) l.length=some r/\r<=l.length/\l.take r=L (V l):=by
  refine ks (fr:=fun k=>k<=l.length/\V (l.take k)=V l) (m:=fun w:Nat=>w) _ ?_ _ ⟨by omega,by simp⟩;rintro k ⟨a1,bf⟩
  cases k with
  | zero =>
   refine .inr ⟨0,by simp[BQ],by omega,?_⟩;rw[<- bf];simp[V,sf]
  | succ k =>
   have aa:=dz (show k<l.length by omega);unfold BQ;rw[Nv (by omega),dw (by simp),dw (by omega),dx,dG,aa];by_cases h:l[k]=0
   ·refine .inl ⟨k,by simp[h],⟨by omega,?_⟩,by omega⟩;have:=vS aa;rw[h] at this;simp at this;omega
   ·refine .inr ⟨k+1,by simp[h],a1,?_⟩
    rcases gC.MV aZ k (fun x h1=>by rw[aa] at h1;simp at h1;omega) with h1|h1
    ·exact xy h1 bf
    ·omega
 obtain⟨r,aj,h1,h2⟩:=this;unfold E3 SC;rw[aj];exact⟨r,rfl,h1,h2⟩
theorem vW {a b:ar}(bF:gC a)(aP:gC b)(aY:a.length<=5000000):s5 a b=some (mg (V a) (V b)):=by
 unfold s5 mg;simp only[gZ];by_cases h1:a.length=b.length
 ·rw[dy (by simp[h1])]
  have : ∃r,iter (fun w:Int=>BN a b w) ((a.length:Int)-1)=some r/\(r.elim (fun _=>V a=V b) (fun c=>(c = -1/\V a<V b)\/(c=1/\V b<V a))):=by
   refine ks (fr:=fun w:Int=> ∃k:Nat,w=(k:Int)-1/\k<=a.length/\V (a.drop k)=V (b.drop k)) (m:=fun w:Int=>(w+1).toNat) _ ?_ _ ⟨a.length,rfl,by omega,by rw[List.drop_length,h1,List.drop_length]⟩;rintro _ ⟨k,rfl,a1,bf⟩
   cases k with
   | zero=>exact .inr ⟨.inl (),by simp[BN],by simpa using bf⟩
   | succ k =>
    have aa:=dz (show k<a.length by omega);have aW:=dz (show k<b.length by omega);have e:((k+1:Nat):Int)-1=k:=(by omega);unfold BN;rw[e,tq (by omega),dw (by simp),dw (by omega),dx,aa];simp only[dC,dA];rw[dw (by omega),aW];by_cases h2:a[k]<b[k]
    ·exact .inr ⟨.inr (-1),by simp[h2],.inl ⟨rfl,Vh bF.1 aP.1 aa aW bf h2⟩⟩
    ·by_cases U:b[k]<a[k]
     ·exact .inr ⟨.inr 1,by simp[h2,U],.inr ⟨rfl,Vh aP.1 bF.1 aW aa bf.symm U⟩⟩
     ·refine .inl ⟨(k:Int)-1,by simp[h2,U],⟨k,rfl,by omega,?_⟩,by omega⟩;rw[qR aa,qR aW,bf,show a[k]=b[k] by omega]
  obtain⟨r,aj,h2⟩:=this;unfold St;rw[tq (by omega),aj]
  cases r with
  | inl u =>
   simp at h2;simp[h2]
  | inr c =>
   rcases h2 with ⟨rfl,h2⟩|⟨rfl,h2⟩
   ·simp[h2]
   ·simp[h2];omega
 ·rw[dw (by simp;omega)]
  by_cases h2:a.length<b.length
  ·have:=IX bF aP h2;simp[h2,this]
  ·have:=IX aP bF (by omega);rw[dy (by simp;omega),dy (by omega),dw this]
theorem adk:s3=s5:=rfl
theorem Mf {a b:ar}(bF:gC a)(aP:gC b)(aY:a.length<=5000000):s3 a b=some (mg (V a) (V b)):=vW bF aP aY
theorem FI {x y:Int}(aa:0<=x/\x<1000000000)(aW:0<=y/\y<1000000000):0<=x*y/\x*y<=999999998000000001:=by have h1:=Int.mul_nonneg aa.1 aW.1;have h2:x*y<=999999999*999999999:=Int.mul_le_mul (by omega) (by omega) aW.1 (by omega);omega
theorem sS {a b:Int}(h:0<=a):a.tmod b=a % b:=Int.tmod_eq_emod_of_nonneg h
theorem o7 {a b:Int}(h:0<=a):a.tdiv b=a / b:=Int.tdiv_eq_ediv_of_nonneg h
theorem MW (k:Nat)(x:Int)(q:ar):(List.replicate (k+1) 0++q).set k x=List.replicate k 0++x::q:=by
 induction k with
 | zero=>rfl
 | succ k ih =>
  show (0::(List.replicate (k+1) 0++q)).set (k+1) x=_;rw[List.set_cons_succ,ih];rfl
theorem aec {a:ar}{d rest:Int}{row:ar}{k:Nat}{x:Int}(aa:a[k]? = some x)(ld:0<=x/\x<1000000000)(bH:0<d/\d<1000000000)(aj:0<=rest/\rest<d)(ep:row.length=a.length)(aY:a.length<=1000000):
 Bm a d rest (k:Int) row=some (.inl ((rest*1000000000+x) % d,(k:Int)-1,row.set k ((rest*1000000000+x) / d))):=by
 have a1:=gH aa;unfold Bm;rw[dw (by simp),dw (by omega),dx,aa];simp only[dC,dA];rw[dw (by omega),dw (by omega),dw (by omega),tq (by omega)];have h1:J (J (rest*1000000000)+x)=rest*1000000000+x:=by rw[cu (x:=rest*1000000000) (by omega) (by omega)];exact cu (by omega) (by omega)
 have h2:0<=rest*1000000000+x:=by omega
 have U:(rest*1000000000+x) / d<=rest*1000000000+x:=Int.ediv_le_self _ h2;have ai:0<=(rest*1000000000+x) / d:=Int.ediv_nonneg h2 (by omega);rw[h1,sS h2,o7 h2,cu (by omega) (by omega),dG]
theorem TI {a:ar}{d:Int}(bF:c2 a)(bH:0<d/\d<1000000000)(aY:a.length<=1000000):
 ∃r,Lj a d 0 ((a.length:Int)-1) (List.replicate a.length 0)=some r/\r.1=V a % d/\c2 r.2/\r.2.length=a.length/\V r.2=V a / d:=by
 refine ks (fr:=fun w:Int×Int×ar=> ∃(k:Nat) (q:ar),w.2.1=(k:Int)-1/\k<=a.length/\w.2.2=List.replicate k 0++q/\q.length+k=a.length/\c2 q/\0<=w.1/\w.1<d/\V (a.drop k)=V q*d+w.1) (m:=fun w:Int×Int×ar=>(w.2.1+1).toNat) _ ?_ _ ⟨a.length,[],rfl,by omega,by simp,by simp,c2.nil,by omega,by omega,by simp[V]⟩;rintro⟨rest,i,row⟩ ⟨k,q,h1,a1,h2,a0,sM,m7,jF,bf⟩;simp only at h1 h2 m7 jF bf ⊢;subst h1 h2
 cases k with
 | zero =>
  refine .inr ⟨(rest,q),by simp[Bm],?_,sM,by simpa using a0,?_⟩
  ·simp at bf;rw[bf,Int.add_comm,Int.add_mul_emod_self_right];exact(Int.emod_eq_of_lt m7 jF).symm
  ·simp at bf;rw[bf,Int.add_comm,Int.add_mul_ediv_right _ _ (by omega),Int.ediv_eq_zero_of_lt m7 jF];simp
 | succ k =>
  have aa:=dz (show k<a.length by omega);have ld:=bF.get aa;rw[show ((k+1:Nat):Int)-1=k by omega,aec aa ld bH ⟨m7,jF⟩ (by simp;omega) aY];refine .inl ⟨_,rfl,⟨k,(rest*1000000000+a[k]) / d::q,rfl,by omega,MW _ _ _,by simp;omega,c2.cons ⟨Int.ediv_nonneg (by omega) (by omega),?_⟩ sM,Int.emod_nonneg _ (by omega),Int.emod_lt_of_pos _ bH.1,?_⟩,by simp⟩
  ·refine Int.ediv_lt_of_lt_mul bH.1 ?_;omega
  ·rw[qR aa,bf,m0];have:=Int.mul_ediv_add_emod (rest*1000000000+a[k]) d;generalize (rest*1000000000+a[k]) / d=u at *;generalize (rest*1000000000+a[k]) % d=t at *;grind
theorem af9 {a:ar}{d:Int}(bF:c2 a)(bH:0<d/\d<1000000000)(aY:a.length<=1000000):EF a d=some (L (V a / d),V a % d):=by obtain⟨r,aj,h1,h2,U,ai⟩:=TI bF bH aY;unfold EF;simp only[gZ];rw[dw (by omega),tq (by omega),dx,aj];simp only[dC,dA];rw[uT h2 (by omega),h1,ai];rfl
theorem acq:Rr=Lj:=rfl
theorem S0 {a:ar}{d:Int}(bF:c2 a)(bH:0<d/\d<1000000000)(aY:a.length<=1000000):Ca a d=some (L (V a / d),V a % d):=by obtain⟨r,aj,h1,h2,U,ai⟩:=TI bF bH aY;unfold Ca;simp only[gZ];rw[dw (by omega),tq (by omega),dx,acq,aj];simp only[dC,dA];rw[CJ h2 (by omega),h1,ai];rfl
theorem aeV {b:ar}{i j:Nat}{x y z carry:Int}{row t26:ar}{t27:Int}(aW:b[j]? = some y)(cH:row[i+j]? = some z)(aa:0<=x/\x<1000000000)(qE:0<=y/\y<1000000000)(us:0<=z/\z<1000000000)(aX:0<=carry/\carry<1000000000)(aY:row.length<=2000000):
 BO b i x t26 t27 b.length carry j row=some (.inl ((z+x*y+carry) / 1000000000,((j+1:Nat):Int),row.set (i+j) ((z+x*y+carry) % 1000000000))):=by
 have av:=gH aW;have sB:=gH cH;obtain⟨jH,iw⟩:=FI aa qE;unfold BO;have e:J ((i:Int)+(j:Int))=((i+j:Nat):Int):=by rw[cu (by omega) (by omega)];rfl
 rw[dw (by simp;omega),dw (by omega),dx,aW];simp only[dC,dA,e,dx,dG];rw[dw (by omega),cH];simp only[dA];rw[dw (by omega),pN (by omega),cu (x:=x*y) (by omega) (by omega),cu (x:=z+x*y) (by omega) (by omega),cu (x:=z+x*y+carry) (by omega) (by omega),sS (by omega),o7 (by omega),cu (by omega) (by omega)]
theorem aeW {b:ar}{i:Nat}{x:Int}{row t26:ar}{t27:Int}(aP:c2 b)(ep:c2 row)(aa:0<=x/\x<1000000000)(aZ:i+b.length<row.length)(aY:row.length<=2000000):
 ∃r,Sv b i x t26 t27 b.length 0 0 row=some r/\0<=r.1/\r.1<1000000000/\c2 r.2/\r.2.length=row.length/\V r.2+r.1*B (i+b.length)=V row+x*B i*V b/\ ∀j,i+b.length<=j->r.2[j]? = row[j]? := by
 refine ks (fr:=fun w:Int×Int×ar=> ∃(j:Nat),w.2.1=(j:Int)/\j<=b.length/\0<=w.1/\w.1<1000000000/\c2 w.2.2/\w.2.2.length=row.length/\V w.2.2+w.1*B (i+j)=V row+x*B i*V (b.take j)/\ ∀j,i+b.length<=j->w.2.2[j]? = row[j]?) (m:=fun w:Int×Int×ar=>b.length-w.2.1.toNat) _ ?_ _ ⟨0,rfl,by omega,by simp,by simp,ep,rfl,by simp[V],fun _ _=>rfl⟩;rintro⟨carry,ak0,fz⟩ ⟨j,h1,av,oA,oT,lK,hlen,bf,m3⟩;simp only at h1 oA oT lK hlen bf m3 ⊢;subst h1;by_cases ajV:j=b.length
 ·subst ajV;refine .inr ⟨(carry,fz),by simp[BO],oA,oT,lK,hlen,by simpa using bf,m3⟩
 ·have aW:=dz (show j<b.length by omega)
  have cH:=dz (show i+j<fz.length by omega);have qE:=aP.get aW;have us:=lK.get cH;obtain⟨jH,iw⟩:=FI aa qE;rw[aeV aW cH aa qE us ⟨oA,oT⟩ (by omega)];refine .inl ⟨_,rfl,⟨j+1,rfl,by omega,by simp only;omega,by simp only;omega,lK.set (by omega),by simpa using hlen,?_,fun jv vg=> ?_⟩,by simp;omega⟩
  ·simp only;rw[vb cH,vS aW,<- Nat.add_assoc,nZ];rw[FW] at bf ⊢;have:=Int.mul_ediv_add_emod (fz[i+j]+x*b[j]+carry) 1000000000;generalize (fz[i+j]+x*b[j]+carry) / 1000000000=u at *;generalize (fz[i+j]+x*b[j]+carry) % 1000000000=t at *;grind
  ·rw[<- m3 jv vg];exact List.getElem?_set_ne (by omega)
theorem Mp {a b:ar}(bF:c2 a)(aP:c2 b)(aY:a.length<=1000000)(hm:b.length<=1000000):
 ∃r,HP b a a.length 0 (List.replicate (a.length+b.length) 0)=some r/\c2 r/\r.length=a.length+b.length/\V r=V a*V b:=by
 refine ks (fr:=fun w:Int×ar=> ∃(i:Nat),w.1=(i:Int)/\i<=a.length/\c2 w.2/\w.2.length=a.length+b.length/\V w.2=V (a.take i)*V b/\ ∀j,i+b.length<=j->j<a.length+b.length->w.2[j]? = some 0) (m:=fun w:Int×ar=>a.length-w.1.toNat) _ ?_ _ ⟨0,rfl,by omega,c2.Ok _,by simp,by simp[V,Ns],fun j _ h=>by simp[List.getElem?_replicate,h]⟩;rintro⟨ii,row⟩ ⟨i,h1,ad,lK,hlen,bf,h0⟩;simp only at h1 lK hlen bf h0 ⊢;subst h1;by_cases GZ:i=a.length
 ·subst GZ;refine .inr ⟨row,by simp[D9],lK,hlen,by simpa using bf⟩
 ·have aa:=dz (show i<a.length by omega)
  have ld:=bF.get aa;obtain⟨r,aj,oA,oT,aiT,Wi,Gt,m3⟩:=aeW (i:=i) (t26:=a) (t27:=a.length) aP lK ld (by omega) (by omega);have e:J ((i:Int)+(b.length:Int))=((i+b.length:Nat):Int):=(by rw[cu (by omega) (by omega)];rfl);have cH:r.2[i+b.length]? = some 0:=(by rw[m3 _ (dF _)];exact h0 _ (dF _) (by omega));refine .inl ⟨(((i+1:Nat):Int),r.2.set (i+b.length) r.1),?_,⟨i+1,rfl,by omega,aiT.set ⟨oA,oT⟩,by simp;omega,?_,fun j amB ajW=> ?_⟩,by simp;omega⟩
  ·unfold D9;rw[dw (by simp;omega),dw (by omega),dx,aa];simp only[dC,dA,gZ];rw[aj];simp only[dA,e,dx,dG];rw[dw (by omega),dw (by omega),pN (n:=i) (by omega)]
  ·simp only;rw[vb cH,vS aa];grind
  ·simp only;rw[List.getElem?_set_ne (by omega),m3 _ (by omega)];exact h0 _ (by omega) ajW
theorem mul_eq {a b:ar}(bF:c2 a)(aP:c2 b)(aY:a.length<=1000000)(hm:b.length<=1000000):jq a b=some (L (V a*V b)):=by
 unfold jq;simp only[gZ];by_cases h1:a=[]
 ·subst h1;simp[V,sf]
 ·by_cases h2:b=[]
  ·subst h2;simp[h1,V,sf]
  ·obtain⟨r,aj,U,ai,aw⟩:=Mp bF aP aY hm;have e:J ((a.length:Int)+(b.length:Int))=((a.length+b.length:Nat):Int):=(by rw[cu (by omega) (by omega)];rfl);rw[dy (by simp[h1]),dy (by simp[h2]),e,dw (by omega),dx,aj];simp only[dC,dA];rw[uT U (by omega),aw];rfl
theorem adG:SP=HP:=rfl
theorem acT:Sh=HP:=rfl
theorem IF {a b:ar}(bF:c2 a)(aP:c2 b)(aY:a.length<=1000000)(hm:b.length<=1000000):s7 a b=some (L (V a*V b)):=by
 unfold s7;simp only[gZ];by_cases h1:a=[]
 ·subst h1;simp[V,sf]
 ·by_cases h2:b=[]
  ·subst h2;simp[h1,V,sf]
  ·obtain⟨r,aj,U,ai,aw⟩:=Mp bF aP aY hm;have e:J ((a.length:Int)+(b.length:Int))=((a.length+b.length:Nat):Int):=(by rw[cu (by omega) (by omega)];rfl);rw[dy (by simp[h1]),dy (by simp[h2]),e,dw (by omega),dx,adG,aj];simp only[dC,dA];rw[CJ U (by omega),aw];rfl
theorem TJ {a b:ar}(bF:c2 a)(aP:c2 b)(h1:a≠[])(h2:b≠[])(aY:a.length<=1000000)(hm:b.length<=1000000):
 ∃k r,Ch a b=some (k,r)/\k<=r.length/\r.length=a.length+b.length/\r.take k=L (V a*V b)/\c2 r:=by
 obtain⟨r,aj,U,ai,aw⟩:=Mp bF aP aY hm;obtain⟨k,a1,aR,a8⟩:=aeU U (by omega);refine⟨k,r,?_,aR,ai,by rw[a8,aw],U⟩;unfold Ch;simp only[gZ];have e:J ((a.length:Int)+(b.length:Int))=((a.length+b.length:Nat):Int):=by rw[cu (by omega) (by omega)];rfl
 rw[dy (by simp[h1]),dy (by simp[h2]),e,dw (by omega),dx,acT,aj];simp only[dC,dA];rw[a1];rfl
theorem F0 {x:Int}(h1:0<=x)(h2:x<18446744073709551616):IntKind.wrap .u64 x=x:=by
 simp only[IntKind.wrap,IntKind.signed,IntKind.bits];have:((2:Int) ^ 64)=18446744073709551616:=by decide
 simp;omega
theorem aip {x:Int}(h1:-9223372036854775808<=x)(h2:x<9223372036854775808):IntKind.wrap .i64 x=x:=cu h1 h2
theorem gC.snoc {l:ar}{x:Int}(h:c2 l)(aa:0<x/\x<1000000000):gC (l++[x]):=⟨h.append (c2.cons (by omega) c2.nil),fun y aW=>by rw[List.getLast?_append] at aW;simp at aW;omega⟩
theorem Ub {N:Int}(fw:N<18446744073709551616){n:Int}{row:ar}(h:0<=n/\c2 row/\V row+B row.length*n=N/\(n=0->gC row)/\((row.length=0/\n<18446744073709551616)\/(row.length=1/\n<20000000000)\/(row.length=2/\n<20)\/(row.length=3/\n=0)))(aY:0<n):
 (fun (n:Int) (row:ar)=>0<=n/\c2 row/\V row+B row.length*n=N/\(n=0->gC row)/\((row.length=0/\n<18446744073709551616)\/(row.length=1/\n<20000000000)\/(row.length=2/\n<20)\/(row.length=3/\n=0))) (n / 1000000000) (row++[n % 1000000000]):=by
 obtain⟨h0,h1,h2,U,ai⟩:=h;refine⟨by omega,h1.append (c2.cons (by omega) c2.nil),?_,fun aw=>gC.snoc h1 (by omega),?_⟩
 ·rw[yS,dE,List.length_singleton,nZ,m0,C1];have:=Int.mul_ediv_add_emod n 1000000000;generalize n / 1000000000=u at *;generalize n % 1000000000=t at *;grind
 ·rw[dE,List.length_singleton];omega
theorem CB {n:Int}(h:0<=n)(aY:n<9223372036854775808):uS n=some (L n):=by
 have : ∃r,iter (fun w:Int×ar=>BU w.1 w.2) (n,[])=some r/\r=L n:=by
  refine ks (fr:=fun w:Int×ar=>w.1<=n/\0<=w.1/\c2 w.2/\V w.2+B w.2.length*w.1=n/\(w.1=0->gC w.2)/\((w.2.length=0/\w.1<18446744073709551616)\/(w.2.length=1/\w.1<20000000000)\/(w.2.length=2/\w.1<20)\/(w.2.length=3/\w.1=0))) (m:=fun w:Int×ar=>w.1.toNat) _ ?_ _ ⟨Int.le_refl _,h,c2.nil,by simp[V,B],fun _=>gC.nil,.inl ⟨rfl,by simp only;omega⟩⟩;rintro⟨m,row⟩ ⟨hm,c7⟩;simp only at hm c7;obtain⟨h0,h1,h2,U,ai⟩:=id c7;by_cases lq:0<m
  ·have:=Ub (by omega) c7 lq;refine .inl ⟨(m / 1000000000,row++[m % 1000000000]),?_,⟨by simp only;omega,this⟩,by simp only;omega⟩;unfold BU;rw[dw (by simp;omega),sS (by omega),o7 (by omega),dw (by simp;omega),cu (by omega) (by omega)]
  ·refine .inr ⟨row,by simp[BU,lq],?_⟩;have pW:m=0:=(by omega);refine xy (U pW) ?_;rw[pW] at h2;simpa using h2
 obtain⟨r,aj,rfl⟩:=this;unfold uS SM;rw[aj];rfl
theorem Mg {n:Int}(h:0<=n)(aY:n<18446744073709551616):yD n=some (L n):=by
 have : ∃r,iter (fun w:Int×ar=>Bx w.1 w.2) (n,[])=some r/\r=L n:=by
  refine ks (fr:=fun w:Int×ar=>w.1<=n/\0<=w.1/\c2 w.2/\V w.2+B w.2.length*w.1=n/\(w.1=0->gC w.2)/\((w.2.length=0/\w.1<18446744073709551616)\/(w.2.length=1/\w.1<20000000000)\/(w.2.length=2/\w.1<20)\/(w.2.length=3/\w.1=0))) (m:=fun w:Int×ar=>w.1.toNat) _ ?_ _ ⟨Int.le_refl _,h,c2.nil,by simp[V,B],fun _=>gC.nil,.inl ⟨rfl,by simp only;omega⟩⟩;rintro⟨m,row⟩ ⟨hm,c7⟩;simp only at hm c7;obtain⟨h0,h1,h2,U,ai⟩:=id c7;by_cases lq:0<m
  ·have:=Ub (by omega) c7 lq;refine .inl ⟨(m / 1000000000,row++[m % 1000000000]),?_,⟨by simp only;omega,this⟩,by simp only;omega⟩;unfold Bx;rw[dw (by simp;omega),sS (by omega),o7 (by omega),aip (x:=m % 1000000000) (by omega) (by omega),dw (by simp;omega),F0 (by omega) (by omega)]
  ·refine .inr ⟨row,by simp[Bx,lq],?_⟩;have pW:m=0:=(by omega);refine xy (U pW) ?_;rw[pW] at h2;simpa using h2
 obtain⟨r,aj,rfl⟩:=this;unfold yD Sd;rw[aj];rfl
def xB (x:Int):Bool:=decide (0<=x) && decide (x<1000000000)
theorem Vo (l:ar):l.all xB=true↔c2 l:=by simp[xB,c2]
theorem TK {a:ar}(h:a≠[]): ∃x,a[a.length-1]? = some x/\(gC a↔c2 a/\x≠0):=by
 have ah:=List.length_pos_iff.mpr h;refine⟨a[a.length-1],dz (by omega),?_⟩;have e:a.getLast? = some a[a.length-1]:=by rw[List.getLast?_eq_getElem?];exact dz (by omega)
 constructor
 ·exact fun h=>⟨h.1,h.2 _ e⟩
 ·refine fun h=>⟨h.1,fun x aa=> ?_⟩;rw[e] at aa;rw[<- dI aa];exact h.2
theorem aiq {a:ar}(h:a≠[])(hm:(a.length:Int)<9223372036854775807):J ((a.length:Int)-1)=((a.length-1:Nat):Int):=by have ah:=List.length_pos_iff.mpr h;rw[cu (by omega) (by omega)];omega
theorem aed (x:Int):pa x 0 999999999=some (xB x):=by
 unfold pa xB;by_cases h:0<=x
 ·simp[h];omega
 ·simp[h]
theorem Mh {a:ar}(hm:(a.length:Int)<9223372036854775807): ∃ok,vM a=some ok/\(ok=true↔gC a/\a.length<=60):=by
 have h1:iter (fun w:Int=>BV a a.length w) 0=some (if a.all xB then .inl () else .inr ()):=by refine Fm a xB (fun n x aa=> ?_) (by simp[BV]);have:=gH aa;unfold BV;rw[dw (by simp;omega),dw (by omega),dx,aa];simp only[dC,dA,aed];rw[i1 (by omega)];cases xB x<;>rfl
 unfold vM SN;simp only[gZ];rw[h1];by_cases rT:a.all xB=true
 ·have Gn:=(Vo a).1 rT
  simp only[rT,if_true,dC,dA];by_cases tI:a.length<=60
  ·rw[dw (by simp;omega)]
   by_cases h0:a=[]
   ·subst h0;exact⟨true,rfl,by simp[gC.nil]⟩
   ·obtain⟨x,aa,aY⟩:=TK h0;have ah:=List.length_pos_iff.mpr h0;rw[dy (by simp[h0]),aiq h0 hm,dw (by omega),dx,aa];refine⟨_,rfl,?_⟩;rw[aY];simp[Gn,tI]
  ·rw[dy (by simp;omega)];exact⟨false,rfl,by simp;omega⟩
 ·have Gn : ¬c2 a:=fun h=>rT ((Vo a).2 h);simp only[Bool.not_eq_true] at rT;refine⟨false,by simp[rT],?_⟩;simp only[Bool.false_eq_true,false_iff];exact fun h=>Gn h.1.1
theorem Ti {a:ar}(bF:gC a)(tI:a.length<=60)(bf:V a<9223372036854775808):Cc a=some (V a,true):=by
 obtain⟨ok,h1,h2⟩:=Mh (a:=a) (by omega);have oQ:ok=true:=h2.2 ⟨bF,tI⟩;subst oQ;have aX:gC [854775807,223372036,9]:=⟨by intro x aa;simp at aa;omega,by simp⟩;have Oz:V [854775807,223372036,9]=9223372036854775807:=by decide
 unfold Cc;rw[h1];simp only[dC,dA,if_true];rw[vW bF aX (by omega),Oz]
 have : ∃r,iter (fun w:Int×Int=>Bk a w.1 w.2) (0,(a.length:Int)-1)=some r/\r=V a:=by
  refine ks (fr:=fun w:Int×Int=> ∃k:Nat,w.2=(k:Int)-1/\k<=a.length/\w.1=V (a.drop k)) (m:=fun w:Int×Int=>(w.2+1).toNat) _ ?_ _ ⟨a.length,rfl,by omega,by simp[V]⟩;rintro⟨n,i⟩ ⟨k,U,a1,ai⟩;simp only at U ai;subst U ai
  cases k with
  | zero=>exact .inr ⟨V a,by simp[Bk],rfl⟩
  | succ k =>
   have aa:=dz (show k<a.length by omega);have ld:=bF.1.get aa;have aw:=qR aa;have aR:=nV (bF.1.drop (k+1));have a8:V (a.drop k)<=V a:=(by have bk:=yY (l:=a) (n:=k) (by omega);have b9:=nV (bF.1.take k);have b8:=nV (bF.1.drop k);have dp:1*V (a.drop k)<=B k*V (a.drop k):=Int.mul_le_mul_of_nonneg_right (pI k) b8;omega);refine .inl ⟨(V (a.drop k),(k:Int)-1),?_,⟨k,rfl,by omega,rfl⟩,by simp only;omega⟩;unfold Bk;rw[show ((k+1:Nat):Int)-1=k by omega,dw (by simp),dw (by omega),dx,aa];simp only[dC,dA];rw[tq (by omega),cu (x:=V (a.drop (k+1))*1000000000) (by omega) (by omega),cu (by omega) (by omega),aw];congr 3;omega
 obtain⟨r,aj,rfl⟩:=this;unfold mg RN;simp only[gZ];rw[tq (by omega),aj];have U : ¬(9223372036854775807:Int)<V a:=by omega
 by_cases ai:V a<9223372036854775807<;>simp[U,ai]
theorem aga {a b row:ar}{less x:Int}{i:Nat}(aP:c2 b)(aa:a[i]? = some x)(ld:0<=x/\x<1000000000)(aZ:less=0\/less=1)(aY:a.length<=1000000)(hm:b.length<=1000000)(aj:row.length<=1000000):
 ∃y,0<=y/\y<1000000000/\(∀z,b[i]? = some z->y=z)/\(b[i]? = none->y=0) /\
 ym a b a.length less i row=some (.inl (if x-less-y<0 then (1,((i+1:Nat):Int),row++[x-less-y+1000000000]) else (0,((i+1:Nat):Int),row++[x-less-y]))):=by
 have ad:=gH aa;unfold ym;rw[dw (by simp;omega),dw (by omega),dx,aa];simp only[dC,dA,gZ];by_cases XB:i<b.length
 ·have aW:=dz XB
  have qE:=aP.get aW;refine⟨b[i],qE.1,qE.2,fun z cH=>by rw[aW] at cH;exact dI cH,fun h=>by rw[aW] at h;simp at h,?_⟩;rw[dw (by simp;omega),dw (by omega),aW];simp only[dA];rw[cu (x:=x-less) (by omega) (by omega),cu (x:=x-less-b[i]) (by omega) (by omega),pN (n:=i) (by omega),cu (x:=x-less-b[i]+1000000000) (by omega) (by omega)];by_cases h:x-less-b[i]<0
  ·rw[dw (by simp[h]),dw (by simp;omega)];simp[h]
  ·rw[dy (by simp[h]),dw (by simp;omega)];simp[h]
 ·have aW:b[i]? = none:=by simp;omega
  refine⟨0,by omega,by omega,fun z cH=>by rw[aW] at cH;simp at cH,fun _=>rfl,?_⟩;rw[dy (by simp;omega),cu (x:=x-less) (by omega) (by omega),pN (n:=i) (by omega),cu (x:=x-less+1000000000) (by omega) (by omega),Int.sub_zero];by_cases h:x-less<0
  ·rw[dw (by simp[h]),dw (by simp;omega)];simp[h]
  ·rw[dy (by simp[h]),dw (by simp;omega)];simp[h]
theorem UJ {b:ar}{i:Nat}{y:Int}(h1:∀z,b[i]? = some z->y=z)(h2:b[i]? = none->y=0):V (b.take (i+1))=V (b.take i)+B i*y:=by
 cases h:b[i]? with
 | some z=>rw[h1 z h,vS h]
 | none =>
  rw[h2 h];have:b.length<=i:=(by simpa using h);rw[List.take_of_length_le (by omega),List.take_of_length_le (by omega)];simp
theorem sub_eq {a b:ar}(bF:c2 a)(aP:c2 b)(hlen:b.length<=a.length)(xM:V b<=V a)(aY:a.length<=1000000):vJ a b=some (L (V a-V b)):=by
 have : ∃r,iter (fun w:Int×Int×ar=>ym a b a.length w.1 w.2.1 w.2.2) (0,0,[])=some r/\c2 r/\r.length=a.length/\V r=V a-V b:=by
  refine ks (fr:=fun w:Int×Int×ar=> ∃i:Nat,w.2.1=i/\i<=a.length/\(w.1=0\/w.1=1)/\c2 w.2.2/\w.2.2.length=i/\V w.2.2-w.1*B i=V (a.take i)-V (b.take i)) (m:=fun w:Int×Int×ar=>a.length-w.2.1.toNat) _ ?_ _ ⟨0,rfl,by omega,.inl rfl,c2.nil,rfl,by simp[V]⟩;rintro⟨less,ii,row⟩ ⟨i,h1,ad,aZ,lK,wF,bf⟩;simp only at h1 aZ lK wF bf ⊢;subst h1;by_cases GZ:i=a.length
  ·refine .inr ⟨row,by simp[ym,GZ],lK,by omega,?_⟩;rw[GZ] at bf;rw[List.take_length,List.take_of_length_le hlen] at bf;have h2:=oN lK;rw[wF,GZ] at h2;rcases aZ with rfl|rfl<;>omega
  ·have aa:=dz (show i<a.length by omega)
   have ld:=bF.get aa;obtain⟨y,G0,G1,ajX,ajY,he⟩:=aga (row:=row) aP aa ld aZ aY (by omega) (by omega);rw[he];refine .inl ⟨_,rfl,?_⟩;have U:=vS aa;have ai:=UJ ajX ajY;by_cases h:a[i]-less-y<0
   ·rw[dw h];refine⟨⟨i+1,rfl,by omega,.inr rfl,lK.append (c2.cons (by omega) c2.nil),by simp[wF],?_⟩,by simp only;omega⟩;simp only;rw[U,ai,yS,wF,nZ,m0,C1];grind
   ·rw[dy h];refine⟨⟨i+1,rfl,by omega,.inl rfl,lK.append (c2.cons (by omega) c2.nil),by simp[wF],?_⟩,by simp only;omega⟩;simp only;rw[U,ai,yS,wF,m0,C1];grind
 obtain⟨r,aj,h1,h2,U⟩:=this;unfold vJ Su;simp only[gZ];rw[aj];simp only[dC,dA];rw[uT h1 (by omega),U];rfl
theorem uU {l:ar}(h:c2 l){k:Nat}(a1:k<=l.length):B k*V (l.drop k)<=V l/\V l<B k*(V (l.drop k)+1):=by have h1:=yY a1;have h2:=nV (h.take k);have U:=oN (h.take k);rw[List.length_take,Nat.min_eq_left a1] at U;rw[Int.mul_add,Int.mul_one];omega
theorem Fo {l:ar}{k:Nat}{x:Int}(aa:l[k]? = some x)(aZ:l.length=k+1):V (l.drop k)=x:=by rw[qR aa,List.drop_of_length_le (by omega)];simp[V]
theorem S1 {a5 W t d P:Int}(gu:1<=P)(J9:P*t<=a5)(OA:a5<P*(t+1))(xP:P*d<=W)(Ka:W<P*(d+1))(bH:0<d)(cq:0<=t)(OB:a5<1000000000*W):t / (d+1)<=a5 / W/\a5 / W<=t / d/\a5 / W<=999999999:=by
 have hW:0<W:=by have:=Int.mul_pos (a:=P) (b:=d) (by omega) bH;omega
 have du:0<=a5:=by have:=Int.mul_nonneg (a:=P) (b:=t) (by omega) cq;omega
 refine⟨?_,?_,?_⟩
 ·apply (Int.le_ediv_iff_mul_le hW).2;have h1:t / (d+1)*(d+1)<=t:=Int.ediv_mul_le _ (by omega);have h2:0<=t / (d+1):=Int.ediv_nonneg cq (by omega);have U:t / (d+1)*W<=t / (d+1)*(P*(d+1)):=dK (by omega) h2;have ai:P*(t / (d+1)*(d+1))<=P*t:=dK h1 (by omega);have aw:t / (d+1)*(P*(d+1))=P*(t / (d+1)*(d+1)):=(by grind);omega
 ·apply (Int.le_ediv_iff_mul_le bH).2;have h1:a5 / W*W<=a5:=Int.ediv_mul_le _ (by omega);have h2:0<=a5 / W:=Int.ediv_nonneg du (by omega);have U:a5 / W*(P*d)<=a5 / W*W:=dK xP h2;have ai:a5 / W*(P*d)=P*(a5 / W*d):=(by grind);have aw:P*(a5 / W*d)<P*(t+1):=(by omega);have:=Int.lt_of_mul_lt_mul_left aw (by omega);omega
 ·have:=Int.ediv_lt_of_lt_mul hW OB;omega
theorem Vp {a b:Int}:mg a b<=0↔a<=b:=by
 unfold mg;by_cases h:a<b
 ·simp[h];omega
 ·by_cases h2:b<a
  ·simp[h,h2]
  ·simp[h,h2];omega
theorem xd {a b:Int}:mg a b<0↔a<b:=by
 unfold mg;by_cases h:a<b
 ·simp[h]
 ·by_cases h2:b<a
  ·simp[h,h2]
  ·simp[h,h2]
theorem Uc {a b:Int}:mg a b=0↔a=b:=by
 unfold mg;by_cases h:a<b
 ·simp[h];omega
 ·by_cases h2:b<a
  ·simp[h,h2];omega
  ·simp[h,h2];omega
theorem TL {r b:ar}(aj:gC r)(aP:gC b)(m8:b≠[])(aY:r.length<=1000000)(hm:b.length<=1000000){b6 ad:Int}(h0:0<=b6)(h1:b6<=V r / V b)(h2:V r / V b<=ad)(U:ad<=999999999):Lk r b b6 ad=some (V r / V b):=by
 have kY:=wa aP m8
 have : ∃q,iter (fun w:Int×Int=>yf r b w.1 w.2) (b6,ad)=some q/\q=V r / V b:=by
  refine ks (fr:=fun w:Int×Int=>0<=w.1/\w.1<=V r / V b/\V r / V b<=w.2/\w.2<=999999999) (m:=fun w:Int×Int=>(w.2-w.1).toNat) _ ?_ _ ⟨h0,h1,h2,U⟩;rintro⟨l,h⟩ ⟨g0,g1,g2,g3⟩;simp only at g0 g1 g2 g3;by_cases et:l<h
  ·have e1:J ((J ((J (l+h))+(1:Int))).tdiv (2:Int))=(l+h+1) / 2:=by
    rw[cu (x:=l+h) (by omega) (by omega),cu (x:=l+h+1) (by omega) (by omega),o7 (by omega),cu (by omega) (by omega)]
   have pW:0<=(l+h+1) / 2:=(by omega);have rj:(l+h+1) / 2<1000000000:=(by omega);have Xd:(L ((l+h+1) / 2)).length<=1:=(jc pW).2 (by simpa [B] using rj)
   have e2:yf r b l h=some (.inl (if V b*((l+h+1) / 2)<=V r then ((l+h+1) / 2,h) else (l,(l+h+1) / 2-1))):=by
    unfold yf;rw[dw (by simp[et]),e1,CB pW (by omega)];simp only[dC,dA];rw[mul_eq aP.1 (h6 _) hm (by omega),eF pW];simp only[dA];have ah:0<=V b*((l+h+1) / 2):=Int.mul_nonneg (by omega) pW;have hlen:(L (V b*((l+h+1) / 2))).length<=b.length+1:=(jc ah).2 (by rw[nZ];have aw:=oN aP.1;have:V b*((l+h+1) / 2)<=V b*1000000000:=dK (by omega) (by omega);omega);rw[vW (jr _) aj (by omega),eF ah];simp only[dA];by_cases aX:V b*((l+h+1) / 2)<=V r
    ·rw[dw (by simpa using Vp.2 aX),dw aX]
    ·rw[dy (fun h=>aX (Vp.1 (by simpa using h))),dy aX,cu (by omega) (by omega)]
   rw[e2];refine .inl ⟨_,rfl,?_⟩;by_cases aX:V b*((l+h+1) / 2)<=V r
   ·rw[dw aX];have:(l+h+1) / 2<=V r / V b:=(Int.le_ediv_iff_mul_le kY).2 (by rw[Int.mul_comm];exact aX);exact⟨⟨by simp only;omega,this,g2,g3⟩,by simp only;omega⟩
   ·rw[dy aX];have:V r / V b<(l+h+1) / 2:=(Int.ediv_lt_iff_lt_mul kY).2 (by rw[Int.mul_comm];omega);exact⟨⟨g0,g1,by simp only;omega,by simp only;omega⟩,by simp only;omega⟩
  ·exact .inr ⟨l,by simp[yf,et],by omega⟩
 obtain⟨q,a0,rfl⟩:=this;exact a0
theorem Jj {b:ar}(aP:gC b)(m8:b≠[]): ∃k d,b.length=k+1/\b[k]? = some d/\0<d/\d<1000000000/\V (b.drop k)=d:=by have ah:=List.length_pos_iff.mpr m8;obtain⟨x,aa,h⟩:=TK m8;have h1:=h.1 aP;have h2:=h1.1.get aa;exact⟨b.length-1,x,by omega,aa,by omega,h2.2,Fo aa (by omega)⟩
theorem agb {r b:ar}(aj:gC r)(aP:gC b)(m8:b≠[])(aY:r.length<=1000000)(hm:b.length<=1000000)(h1:V b<=V r)(h2:V r<1000000000*V b):EG r b=some (V r / V b):=by
 obtain⟨k,d,a1,bH,wy,Kb,DC⟩:=Jj aP m8;have W5:b.length<=r.length:=Nat.le_of_not_lt fun h=>by have:=IX aj aP h;omega
 have W6:r.length<=b.length+1:=aj.len.2 (by have:=oN aP.1;rw[nZ];omega);have xH:=uU aP.1 (k:=k) (by omega);rw[DC] at xH;have jF:=uU aj.1 (k:=k) (by omega);have aa:=dz (show k<r.length by omega);have ld:=aj.1.get aa;have hw:J ((b.length:Int)-1)=(k:Int):=by rw[cu (by omega) (by omega)];omega
 have oF:=nV (aj.1.drop k);have Kc:=S1 (pI k) jF.1 jF.2 xH.1 xH.2 wy oF h2;have amC:=nV aj.1;have hW:=wa aP m8;unfold EG;simp only[gZ,hw];rw[dw (by omega),dx,aa];simp only[dC,dA];by_cases hlen:b.length<r.length
 ·have aW:=dz hlen;have qE:=aj.1.get aW;have pY:V (r.drop (k+1))=r[b.length]:=(by rw[<- a1];exact Fo aW (by omega));have cq:V (r.drop k)=r[k]+1000000000*r[b.length]:=(by rw[qR aa,pY]);rw[cq] at Kc oF;have nv:0<=(r[k]+1000000000*r[b.length]) / (d+1):=Int.ediv_nonneg oF (by omega);have qs:(r[k]+1000000000*r[b.length]) / (d+1)<=r[k]+1000000000*r[b.length]:=Int.ediv_le_self _ oF;have Db:0<=(r[k]+1000000000*r[b.length]) / d:=Int.ediv_nonneg oF (by omega);have ajZ:(r[k]+1000000000*r[b.length]) / d<=r[k]+1000000000*r[b.length]:=Int.ediv_le_self _ oF;rw[dw (by simp;omega),dw (by omega),dx,aW];simp only[dA];rw[dw (by omega),bH];simp only[dA];have e1:J (d+1)=d+1:=cu (by omega) (by omega);have e2:J (r[k]+J (r[b.length]*1000000000))=r[k]+1000000000*r[b.length]:=(by rw[cu (x:=r[b.length]*1000000000) (by omega) (by omega),cu (by omega) (by omega),Int.mul_comm]);rw[e1,dw (by omega),dw (by omega),e2,o7 oF,o7 oF,cu (by omega) (by omega),cu (x:=(r[k]+1000000000*r[b.length]) / d) (by omega) (by omega)];rw[TL aj aP m8 aY hm nv Kc.1 (by split<;>omega) (by split<;>omega)];rfl
 ·have cq:V (r.drop k)=r[k]:=Fo aa (by omega);rw[cq] at Kc oF;have nv:0<=r[k] / (d+1):=Int.ediv_nonneg oF (by omega);have qs:r[k] / (d+1)<=r[k]:=Int.ediv_le_self _ oF;have Db:0<=r[k] / d:=Int.ediv_nonneg oF (by omega);have ajZ:r[k] / d<=r[k]:=Int.ediv_le_self _ oF;rw[dy (by simp;omega),dw (by omega),bH];simp only[dA];have e1:J (d+1)=d+1:=cu (by omega) (by omega);rw[e1,dw (by omega),dw (by omega),o7 oF,o7 oF,cu (by omega) (by omega),cu (x:=r[k] / d) (by omega) (by omega)];rw[TL aj aP m8 aY hm nv Kc.1 (by split<;>omega) (by split<;>omega)];rfl
theorem agc {a b:ar}(bF:gC a)(aP:gC b)(m8:b≠[])(aY:a.length<=900000)(hm:b.length<=900000):
 ∃r,Sw a b [] ((a.length:Int)-1) (List.replicate a.length 0)=some r/\r.1=L (V a % V b)/\c2 r.2/\r.2.length=a.length/\V r.2=V a / V b:=by
 have kY:=wa aP m8;refine ks (fr:=fun w:ar×Int×ar=> ∃(k:Nat) (q:ar),w.2.1=(k:Int)-1/\k<=a.length/\w.2.2=List.replicate k 0++q/\q.length+k=a.length/\c2 q/\gC w.1/\V w.1<V b/\V (a.drop k)=V q*V b+V w.1) (m:=fun w:ar×Int×ar=>(w.2.1+1).toNat) _ ?_ _ ⟨a.length,[],rfl,by omega,by simp,by simp,c2.nil,gC.nil,by simpa [V] using kY,by simp[V]⟩;rintro⟨rest,i,row⟩ ⟨k,q,h1,a1,h2,a0,sM,m7,jF,bf⟩;simp only at h1 h2 m7 jF bf ⊢;subst h1 h2;have G2:=nV m7.1
 cases k with
 | zero =>
  simp at bf;refine .inr ⟨(rest,q),by simp[BP],?_,sM,by simpa using a0,?_⟩
  ·refine xy m7 ?_;rw[bf,Int.add_comm,Int.add_mul_emod_self_right];exact(Int.emod_eq_of_lt G2 jF).symm
  ·rw[bf,Int.add_comm,Int.add_mul_ediv_right _ _ (by omega),Int.ediv_eq_zero_of_lt G2 jF];simp
 | succ k =>
  have aa:=dz (show k<a.length by omega);have ld:=bF.1.get aa;have wF:rest.length<=b.length:=m7.len.2 (by have:=oN aP.1;omega);have iS:c2 (a[k]::rest):=c2.cons ld m7.1;have Oz:V (a[k]::rest)=a[k]+1000000000*V rest:=m0 _ _;have rk:0<=a[k]+1000000000*V rest:=(by omega);have amD:(L (a[k]+1000000000*V rest)).length<=b.length+1:=(jc rk).2 (by have:=oN aP.1;rw[nZ];omega);have bH:=qR aa
  have Nw:BP a b rest (k:Int) (List.replicate (k+1) 0++q)=some (.inl (if a[k]+1000000000*V rest<V b then (L (a[k]+1000000000*V rest),(k:Int)-1,List.replicate (k+1) 0++q) else (L ((a[k]+1000000000*V rest) % V b),(k:Int)-1,(List.replicate (k+1) 0++q).set k ((a[k]+1000000000*V rest) / V b)))):=by
   unfold BP;rw[dw (by simp),dw (by omega),dx,aa];simp only[dC,dA,List.singleton_append];rw[dw (by simp;omega),uT iS (by simp;omega),Oz];simp only[dA];rw[vW (jr _) aP (by omega),eF rk];simp only[dA];by_cases aX:a[k]+1000000000*V rest<V b
   ·rw[dw (by simpa using xd.2 aX),dw aX,tq (by omega)]
   ·rw[dy (fun h=>aX (xd.1 (by simpa using h))),dy aX];have et:a[k]+1000000000*V rest<1000000000*V b:=(by omega);rw[agb (jr _) aP m8 (by omega) (by omega) (by rw[eF rk];omega) (by rw[eF rk];exact et),eF rk];simp only[dA];have nv:0<=(a[k]+1000000000*V rest) / V b:=Int.ediv_nonneg rk (by omega);have qs:(a[k]+1000000000*V rest) / V b<1000000000:=Int.ediv_lt_of_lt_mul kY et;have amE:(L ((a[k]+1000000000*V rest) / V b)).length<=1:=(jc nv).2 (by simpa [B] using qs);have rj:=Int.mul_ediv_add_emod (a[k]+1000000000*V rest) (V b);have G3:=Int.emod_nonneg (a[k]+1000000000*V rest) (b:=V b) (by omega);have z0:0<=V b*((a[k]+1000000000*V rest) / V b):=Int.mul_nonneg (by omega) nv;rw[dw (by simp;omega),dw (by simp;omega),CB nv (by omega)];simp only[dA];rw[mul_eq aP.1 (h6 _) (by omega) (by omega),eF nv];simp only[dA];rw[sub_eq (h6 _) (h6 _) ((jc z0).2 (by have:=oN (h6 (a[k]+1000000000*V rest));rw[eF rk] at this;omega)) (by rw[eF rk,eF z0];omega) (by omega),eF rk,eF z0];simp only[dA];rw[tq (by omega),dG];congr 4;omega
  rw[show ((k+1:Nat):Int)-1=k by omega,Nw];refine .inl ⟨_,rfl,?_⟩;by_cases aX:a[k]+1000000000*V rest<V b
  ·rw[dw aX]
   refine⟨⟨k,0::q,rfl,by omega,?_,by simp;omega,c2.cons (by omega) sM,jr _,by rw[eF rk];exact aX,?_⟩,by simp⟩
   ·simp only;rw[List.replicate_succ',List.append_assoc];rfl
   ·simp only;rw[bH,bf,m0,eF rk];grind
  ·rw[dy aX];have et:a[k]+1000000000*V rest<1000000000*V b:=(by omega);have G3:=Int.emod_nonneg (a[k]+1000000000*V rest) (b:=V b) (by omega);refine⟨⟨k,(a[k]+1000000000*V rest) / V b::q,rfl,by omega,MW _ _ _,by simp;omega,c2.cons ⟨Int.ediv_nonneg rk (by omega),Int.ediv_lt_of_lt_mul kY et⟩ sM,jr _,by rw[eF G3];exact Int.emod_lt_of_pos _ kY,?_⟩,by simp⟩;simp only;rw[bH,bf,m0,eF G3];have rj:=Int.mul_ediv_add_emod (a[k]+1000000000*V rest) (V b);generalize (a[k]+1000000000*V rest) / V b=u at *;generalize (a[k]+1000000000*V rest) % V b=t at *;grind
theorem div_eq {a b:ar}(bF:gC a)(aP:gC b)(m8:b≠[])(aY:a.length<=900000)(hm:b.length<=900000):w4 a b=some (L (V a / V b),L (V a % V b)):=by
 unfold w4;simp only[gZ];by_cases h1:b.length=1
 ·obtain⟨k,d,a1,bH,wy,Kb,DC⟩:=Jj aP m8;have vi:k=0:=(by omega);subst vi;have OC:V b=d:=(by simpa using DC);rw[dw (by simp[h1]),dw (by omega),bH];simp only[dC,dA];have rj:=Int.emod_nonneg (V a) (b:=d) (by omega);have G3:=Int.emod_lt_of_pos (V a) wy;rw[af9 bF.1 ⟨wy,Kb⟩ (by omega)];simp only[dA];rw[CB rj (by omega),OC];rfl
 ·obtain⟨r,aj,e1,e2,bI,c1⟩:=agc bF aP m8 aY hm;rw[dy (by simp;omega),dw (by omega),tq (by omega),dx,aj];simp only[dC,dA];rw[uT e2 (by omega),c1,e1];rfl
theorem MH {x y:Int}(aa:0<=x):Int.gcd y (x % y)=Int.gcd x y:=by have:=Nat.gcd_rec y.natAbs x.natAbs;simp only[Int.gcd];rw[Nat.gcd_comm x.natAbs,this,Int.natAbs_emod_of_nonneg aa,Nat.gcd_comm]
theorem I3 {x:Int}(aa:0<=x):(Int.gcd x 0:Int)=x:=by rw[Int.gcd_zero_right];omega
theorem agd {x y:Int}(aa:0<=x)(aW:0<=y)(G4:x<9223372036854775808)(G0:y<9223372036854775808):EE x y=some (L (Int.gcd x y)):=by
 have : ∃r,iter (fun w:Int×Int=>Bl w.1 w.2) (x,y)=some r/\(r=(Int.gcd x y:Int)/\r<9223372036854775808):=by
  refine ks (fr:=fun w:Int×Int=>0<=w.1/\0<=w.2/\w.1<9223372036854775808/\w.2<9223372036854775808/\Int.gcd w.1 w.2=Int.gcd x y) (m:=fun w:Int×Int=>w.2.toNat) _ ?_ _ ⟨aa,aW,G4,G0,rfl⟩;rintro⟨u,v⟩ ⟨h1,h2,U,ai,aw⟩;simp only at h1 h2 U ai aw;by_cases bf:0<v
  ·have aR:=Int.emod_nonneg u (b:=v) (by omega);have a8:=Int.emod_lt_of_pos u bf;refine .inl ⟨(v,u % v),?_,⟨h2,aR,ai,by simp only;omega,by rw[<- aw];exact MH h1⟩,by simp only;omega⟩;unfold Bl;rw[dw (by simpa using bf),dw (by omega),sS h1]
  ·have Xu:v=0:=(by omega);subst Xu;refine .inr ⟨u,by simp[Bl],?_,U⟩;rw[<- aw,I3 h1]
 obtain⟨r,aj,rfl,h⟩:=this;unfold EE RP;rw[aj];simp only[dC,dA];rw[CB (by omega) h];rfl
theorem Jk {a:ar}(bF:gC a)(h:a.length<3):V a<9223372036854775808:=by
 have h1:=oN bF.1;have h2:=th (m:=a.length) (n:=2) (by omega);have U:B 2=1000000000000000000:=by decide
 omega
theorem V1 {a b:ar}(bF:gC a)(aP:gC b)(aY:a.length<=900000)(hm:b.length<=900000):Cm a b=some (L (Int.gcd (V a) (V b))):=by
 have : ∃r,iter (fun w:ar×ar=>yn w.1 w.2) (a,b)=some r/\r.elim id id=L (Int.gcd (V a) (V b)):=by
  refine ks (fr:=fun w:ar×ar=>gC w.1/\gC w.2/\w.1.length<=900000/\w.2.length<=900000/\Int.gcd (V w.1) (V w.2)=Int.gcd (V a) (V b)) (m:=fun w:ar×ar=>(V w.2).toNat) _ ?_ _ ⟨bF,aP,aY,hm,rfl⟩;rintro⟨x,y⟩ ⟨h1,h2,U,ai,aw⟩;simp only at h1 h2 U ai aw ⊢;have ld:=nV h1.1;have qE:=nV h2.1;by_cases aW:y=[]
  ·subst aW;refine .inr ⟨.inl x,by simp[yn,gZ],?_⟩;rw[<- aw,C1,I3 ld];exact(GQ h1).symm
  ·have OD:=wa h2 aW
   have aj0:=List.length_pos_iff.mpr aW;by_cases bL:x.length<3/\y.length<3
   ·refine .inr ⟨.inr (L (Int.gcd (V a) (V b))),?_,rfl⟩;unfold yn;simp only[gZ];rw[dw (by simp;omega),dw (by simp;omega),dw (by simp;omega),Ti h1 (by omega) (Jk h1 bL.1)];simp only[dC,dA];rw[Ti h2 (by omega) (Jk h2 bL.2)];simp only[dA];rw[agd ld qE (Jk h1 bL.1) (Jk h2 bL.2),aw];rfl
   ·have z1:=Int.emod_nonneg (V x) (b:=V y) (by omega)
    have aj1:=Int.emod_lt_of_pos (V x) OD;refine .inl ⟨(y,L (V x % V y)),?_,⟨h2,jr _,ai,(jc z1).2 ?_,?_⟩,?_⟩
    ·unfold yn
     simp only[gZ];rw[dw (by simp;omega),div_eq h1 h2 aW U ai];by_cases wG:x.length<3
     ·rw[dw (by simp;omega),dy (by simp;omega)];rfl
     ·rw[dy (by simp;omega)];rfl
    ·have:=oN h2.1;have:=th ai;omega
    ·simp only;rw[eF z1,<- aw];exact MH ld
    ·simp only;rw[eF z1];omega
 obtain⟨r,aj,h⟩:=this;unfold Cm Sx;rw[List.nil_append,List.nil_append,dw (by omega),dw (by omega),aj]
 cases r with
 | inl r=>exact congrArg some h
 | inr r=>exact congrArg some h
def q7 (p:Nat)(l:ar):Prop:= ∀i z,i≠p->l[i]? = some z->0<=z/\z<1000000000
theorem q7.set {p:Nat}{l:ar}(h:q7 p l){k:Nat}{x:Int}(aa:0<=x/\x<1000000000):q7 p (l.set k x):=fun i z ad cH=>by
 by_cases a1:k=i
 ·subst a1
  rw[List.getElem?_set] at cH;simp only[if_true] at cH;split at cH
  ·rw[<- dI cH];exact aa
  ·simp at cH
 ·rw[List.getElem?_set_ne a1] at cH;exact h i z ad cH
theorem q7.WR {p:Nat}{l:ar}(h:q7 p l){x:Int}:q7 p (l.set p x):=fun i z ad cH=>by rw[List.getElem?_set_ne (fun h=>ad h.symm)] at cH;exact h i z ad cH
theorem c2.toE {l:ar}(h:c2 l)(p:Nat):q7 p l:=fun _ _ _ cH=>h.get cH
theorem aeX {v row:ar}{b6 oO i:Nat}{kq carry x y:Int}(aa:v[i]? = some x)(aW:row[b6+i]? = some y)(ld:0<=x/\x<1000000000)(qE:0<=y/\y<1000000000)(aP:0<=kq/\kq<1000000000)(aX:0<=carry/\carry<1000000000)(hu:i<oO)(aY:row.length<=5000000):
 ∃c z,yo b6 oO v kq v.length carry i row=some (.inl (c,((i+1:Nat):Int),row.set (b6+i) z))/\0<=c/\c<1000000000/\0<=z/\z<1000000000/\z-1000000000*c=y-kq*x-carry:=by
 have ad:=gH aa;have av:=gH aW;obtain⟨jH,iw⟩:=FI aP ld;have e:J (J (y-J (kq*x))-carry)=y-kq*x-carry:=by rw[cu (x:=kq*x) (by omega) (by omega),cu (x:=y-kq*x) (by omega) (by omega),cu (by omega) (by omega)]
 by_cases cq:y-kq*x-carry<0
 ·refine⟨(999999999-(y-kq*x-carry)) / 1000000000,y-kq*x-carry+(999999999-(y-kq*x-carry)) / 1000000000*1000000000,?_,by omega,by omega,by omega,by omega,by omega⟩;unfold yo;rw[dw (by simp;omega),dw (by omega),dx,aa];simp only[dC,dA];rw[dw (by omega),aW];simp only[dA,e];rw[dw (by simpa using cq),dw (by omega),pN (n:=i) (by omega),cu (x:=999999999-(y-kq*x-carry)) (by omega) (by omega),o7 (by omega),cu (x:=(999999999-(y-kq*x-carry)) / 1000000000) (by omega) (by omega),cu (x:=(999999999-(y-kq*x-carry)) / 1000000000*1000000000) (by omega) (by omega),cu (by omega) (by omega)]
 ·refine⟨0,y-kq*x-carry,?_,by omega,by omega,by omega,by omega,by omega⟩;unfold yo;rw[dw (by simp;omega),dw (by omega),dx,aa];simp only[dC,dA];rw[dw (by omega),aW];simp only[dA,e];rw[dy (by simpa using cq),dw (by omega),pN (n:=i) (by omega)]
theorem aeY {v row:ar}{b6 oO:Nat}{kq:Int}(bf:c2 v)(aj:c2 row)(aP:0<=kq/\kq<1000000000)(hu:v.length<oO)(aZ:b6+v.length<row.length)(aY:row.length<=5000000):
 ∃r,SD b6 oO v kq v.length 0 0 row=some r/\0<=r.1/\r.1<1000000000/\c2 r.2/\r.2.length=row.length/\V r.2=V row-kq*B b6*V v+r.1*B (b6+v.length)/\ ∀i,i<b6\/b6+v.length<=i->r.2[i]? = row[i]? := by
 refine ks (fr:=fun w:Int×Int×ar=> ∃(i:Nat),w.2.1=(i:Int)/\i<=v.length/\0<=w.1/\w.1<1000000000/\c2 w.2.2/\w.2.2.length=row.length/\V w.2.2=V row-kq*B b6*V (v.take i)+w.1*B (b6+i)/\ ∀i,i<b6\/b6+v.length<=i->w.2.2[i]? = row[i]?) (m:=fun w:Int×Int×ar=>v.length-w.2.1.toNat) _ ?_ _ ⟨0,rfl,by omega,by simp,by simp,aj,rfl,by simp[V],fun _ _=>rfl⟩;rintro⟨carry,ii,fz⟩ ⟨i,h1,ad,oA,oT,lK,hlen,hV,m3⟩;simp only at h1 oA oT lK hlen hV m3 ⊢;subst h1;by_cases De:i=v.length
 ·subst De;exact .inr ⟨(carry,fz),by simp[yo],oA,oT,lK,hlen,by simpa using hV,m3⟩
 ·have aa:=dz (show i<v.length by omega)
  have aW:=dz (show b6+i<fz.length by omega);obtain⟨c,z,he,cE,bc,fF,lz,cH⟩:=aeX (oO:=oO) aa aW (bf.get aa) (lK.get aW) aP ⟨oA,oT⟩ (by omega) (by omega);rw[he];refine .inl ⟨_,rfl,⟨i+1,rfl,by omega,cE,bc,lK.set ⟨fF,lz⟩,by simpa using hlen,?_,fun k a1=> ?_⟩,by simp;omega⟩
  ·simp only;rw[vb aW,vS aa,hV,<- Nat.add_assoc,nZ,FW];have vh:z=fz[b6+i]-kq*v[i]-carry+1000000000*c:=(by omega);rw[vh];grind
  ·simp only;rw[List.getElem?_set_ne (by omega)];exact m3 k a1
theorem ahD {v row:ar}{b6 oO:Nat}{kq:Int}(bf:c2 v)(aj:c2 row)(aP:0<=kq/\kq<1000000000)(hu:v.length<oO)(aZ:b6+v.length<row.length)(aY:row.length<=5000000):
 ∃y eU,E4 v kq b6 oO row=some (decide (y<0),eU)/\eU.length=row.length/\q7 (b6+v.length) eU/\eU[b6+v.length]? = some y/\ -1000000000<y/\y<1000000000/\V eU=V row-kq*B b6*V v/\ ∀i,i<b6\/b6+v.length<i->eU[i]? = row[i]? := by
 obtain⟨r,jF,cE,bc,lK,hlen,hV,m3⟩:=aeY bf aj aP hu aZ aY;have aa:=dz (show b6+v.length<r.2.length by omega);have ld:=lK.get aa;refine⟨r.2[b6+v.length]-r.1,r.2.set (b6+v.length) (r.2[b6+v.length]-r.1),?_,by simpa using hlen,(c2.toE lK _).WR,?_,by omega,by omega,?_,fun i ad=> ?_⟩
 ·unfold E4;simp only[gZ];rw[jF];simp only[dC,dA,dx];rw[dw (by omega),aa];simp only[dA];rw[dw (by omega),cu (by omega) (by omega),List.getElem?_set,dw rfl,dw (by omega)];rfl
 ·rw[List.getElem?_set,dw rfl,dw (by omega)]
 ·rw[vb aa,hV];grind
 ·rw[List.getElem?_set_ne (by omega)];exact m3 i (by omega)
theorem aeZ {v row:ar}{b6 oO:Nat}(bf:c2 v)(aj:q7 (b6+v.length) row)(hu:v.length<oO)(aZ:b6+v.length<row.length)(aY:row.length<=5000000):
 ∃r,SE b6 oO v v.length 0 0 row=some r/\0<=r.1/\r.1<=1/\q7 (b6+v.length) r.2/\r.2.length=row.length/\V r.2=V row+B b6*V v-r.1*B (b6+v.length)/\ ∀i,i<b6\/b6+v.length<=i->r.2[i]? = row[i]? := by
 refine ks (fr:=fun w:Int×Int×ar=> ∃(i:Nat),w.2.1=(i:Int)/\i<=v.length/\0<=w.1/\w.1<=1/\q7 (b6+v.length) w.2.2/\w.2.2.length=row.length/\V w.2.2=V row+B b6*V (v.take i)-w.1*B (b6+i)/\ ∀i,i<b6\/b6+v.length<=i->w.2.2[i]? = row[i]?) (m:=fun w:Int×Int×ar=>v.length-w.2.1.toNat) _ ?_ _ ⟨0,rfl,by omega,by simp,by simp,aj,rfl,by simp[V],fun _ _=>rfl⟩;rintro⟨carry,ii,fz⟩ ⟨i,h1,ad,oA,oT,lK,hlen,hV,m3⟩;simp only at h1 oA oT lK hlen hV m3 ⊢;subst h1;by_cases De:i=v.length
 ·subst De;exact .inr ⟨(carry,fz),by simp[BR],oA,oT,lK,hlen,by simpa using hV,m3⟩
 ·have aa:=dz (show i<v.length by omega)
  have aW:=dz (show b6+i<fz.length by omega);have ld:=bf.get aa;have qE:=lK _ _ (by omega) aW;have he:BR b6 oO v v.length carry i fz=some (.inl ((fz[b6+i]+v[i]+carry) / 1000000000,((i+1:Nat):Int),fz.set (b6+i) ((fz[b6+i]+v[i]+carry) % 1000000000))):=(by unfold BR;rw[dw (by simp;omega),dw (by omega),dx,aa];simp only[dC,dA];rw[dw (by omega),aW];simp only[dA];rw[dw (by omega),cu (x:=fz[b6+i]+v[i]) (by omega) (by omega),cu (x:=fz[b6+i]+v[i]+carry) (by omega) (by omega),sS (by omega),o7 (by omega),cu (by omega) (by omega),pN (n:=i) (by omega)]);rw[he];refine .inl ⟨_,rfl,⟨i+1,rfl,by omega,by simp only;omega,by simp only;omega,lK.set (by omega),by simpa using hlen,?_,fun k a1=> ?_⟩,by simp;omega⟩
  ·simp only;rw[vb aW,vS aa,hV,<- Nat.add_assoc,nZ,FW];have:=Int.mul_ediv_add_emod (fz[b6+i]+v[i]+carry) 1000000000;generalize (fz[b6+i]+v[i]+carry) / 1000000000=q at *;generalize (fz[b6+i]+v[i]+carry) % 1000000000=t at *;have vh:t=fz[b6+i]+v[i]+carry-1000000000*q:=(by omega);rw[vh];grind
  ·simp only;rw[List.getElem?_set_ne (by omega)];exact m3 k a1
theorem ahE {v row:ar}{b6 oO:Nat}{y:Int}(bf:c2 v)(aj:q7 (b6+v.length) row)(hu:v.length<oO)(aZ:b6+v.length<row.length)(aY:row.length<=5000000)(aW:row[b6+v.length]? = some y)(qE:-1000000000<y)(G0:y<1000000000):
 ∃nR eU,Cn v b6 oO row=some eU/\eU.length=row.length/\q7 (b6+v.length) eU/\eU[b6+v.length]? = some nR/\V eU=V row+B b6*V v/\ ∀i,i<b6\/b6+v.length<i->eU[i]? = row[i]? := by
 obtain⟨r,jF,cE,bc,lK,hlen,hV,m3⟩:=aeZ bf aj hu aZ aY;have aa:r.2[b6+v.length]? = some y:=by rw[m3 _ (by omega)];exact aW
 refine⟨y+r.1,r.2.set (b6+v.length) (y+r.1),?_,by simpa using hlen,lK.WR,?_,?_,fun i ad=> ?_⟩
 ·unfold Cn;simp only[gZ];rw[jF];simp only[dC,dA,dx];rw[dw (by omega),aa];simp only[dA];rw[dw (by omega),cu (by omega) (by omega)]
 ·rw[List.getElem?_set,dw rfl,dw (by omega)]
 ·rw[vb aa,hV];grind
 ·rw[List.getElem?_set_ne (by omega)];exact m3 i (by omega)
theorem age {g q v1 v2 top ix rest a5 W P:Int}(gu:1<=P)(dn:0<=g)(cq:g*v1+rest=top)(xP:P*(v1*1000000000+v2)<=W)(OA:a5<P*(top*1000000000+ix+1))(XC:q*W<=a5)(hW:0<=W)(h:rest*1000000000+ix<g*v2):q<g:=by
 apply Int.not_le.mp;intro xQ;have h1:g*W<=q*W:=Int.mul_le_mul_of_nonneg_right xQ hW;have h2:g*(P*(v1*1000000000+v2))<=g*W:=dK xP dn;have U:g*(P*(v1*1000000000+v2))=P*(g*(v1*1000000000+v2)):=by grind
 have ai:P*(g*(v1*1000000000+v2))<P*(top*1000000000+ix+1):=by omega
 have aw:=Int.lt_of_mul_lt_mul_left ai (by omega);have aR:g*(v1*1000000000+v2)=1000000000*(g*v1)+g*v2:=by grind
 omega
theorem Ud {g v1 v2 top ix rest a5 W P:Int}(gu:1<=P)(dn:0<=g)(xR:g<=999999999)(wH:1<=v1)(G5:0<=v2)(cq:g*v1+rest=top)(xP:P*(v1*1000000000+v2)<=W)(Ka:W<P*(v1*1000000000+v2+1))(J9:P*(top*1000000000+ix)<=a5)(h:g*v2<=rest*1000000000+ix):g<=a5 / W+1:=by
 have G6:P*1000000000<=W:=by have h1:P*1000000000<=P*(v1*1000000000+v2):=dK (by omega) (by omega);omega
 have h1:g*W<=g*(P*(v1*1000000000+v2+1)):=dK (by omega) dn;have h2:g*(P*(v1*1000000000+v2+1))=P*(1000000000*(g*v1)+g*v2+g):=by grind
 have U:P*(1000000000*(g*v1)+g*v2+g)<=P*(top*1000000000+ix+999999999):=dK (by omega) (by omega);have ai:P*(top*1000000000+ix+999999999)=P*(top*1000000000+ix)+P*999999999:=by grind
 have aw:(g-1)*W=g*W-W:=by grind
 have:g-1<=a5 / W:=(Int.le_ediv_iff_mul_le (by omega)).2 (by omega);omega
theorem aee {af u kb aA:ar}{N n j:Nat}{v1 v2 ix top a5 W P:Int}(aY:2<=n)(JU:n<=5000000)(G7:j+n<N)(fw:N<=5000000)(h1:kb[n-1]? = some v1)(h2:kb[n-2]? = some v2)(U:u[j+n-2]? = some ix)
 (wH:1<=v1/\v1<1000000000) (G5:0<=v2/\v2<1000000000) (amF:0<=ix/\ix<1000000000) (gu:1<=P) (xP:P*(v1*1000000000+v2)<=W) (Ka:W<P*(v1*1000000000+v2+1)) (J9:P*(top*1000000000+ix)<=a5) (OA:a5<P*(top*1000000000+ix+1)) (du:0<=a5) (OB:a5<1000000000*W) (oF:0<=top) (amG:top<=v1*1000000000+999999999) (a0:a5 / W<=top / v1) :
 ∃g,SY N n n j af u kb aA (top / v1) (top % v1)=some g/\(a5 / W=g\/a5 / W+1=g)/\0<=g/\g<=999999999:=by
 have G6:0<W:=by have h1:P*1000000000<=P*(v1*1000000000+v2):=dK (by omega) (by omega);omega
 have nv:0<=a5 / W:=Int.ediv_nonneg du (by omega);have qs:a5 / W<1000000000:=Int.ediv_lt_of_lt_mul G6 OB;have XC:a5 / W*W<=a5:=Int.ediv_mul_le _ (by omega);have aj3:=Int.mul_ediv_add_emod top v1;have pW:=Int.emod_nonneg top (b:=v1) (by omega);have rj:=Int.emod_lt_of_pos top (b:=v1) (by omega);have NK:J ((n:Int)-1)=((n-1:Nat):Int):=by rw[cu (by omega) (by omega)];omega
 have aiU:J ((n:Int)-2)=((n-2:Nat):Int):=by rw[cu (by omega) (by omega)];omega
 have aiV:J (J ((j:Int)+(n:Int))-2)=((j+n-2:Nat):Int):=by rw[cu (x:=(j:Int)+n) (by omega) (by omega),cu (by omega) (by omega)];omega
 have JH:top / v1<=top:=Int.ediv_le_self _ oF;refine ks (fr:=fun w:Int×Int=>w.1*v1+w.2=top/\0<=w.2/\w.2<1000000000/\a5 / W<=w.1/\w.1<=top) (m:=fun w:Int×Int=>w.1.toNat) _ ?_ _ ⟨by rw[Int.mul_comm];exact aj3,pW,by simp only;omega,a0,JH⟩;rintro⟨g,rest⟩ ⟨i1,i2,Hl,Hi,ak1⟩;simp only at i1 i2 Hl Hi ak1 ⊢;have OE:J (rest+v1)=rest+v1:=cu (by omega) (by omega);have OG:J (g-1)=g-1:=cu (by omega) (by omega);have xR:(g-1)*v1+(rest+v1)=top:=by grind
 have V2:a5 / W<=g-1->1000000000<=rest+v1->(a5 / W=g-1\/a5 / W+1=g-1)/\0<=g-1/\g-1<=999999999:=by intro lO kA;have o5:(g-1)*v1<1000000000*v1:=(by omega);have O7:g-1<1000000000:=Int.lt_of_mul_lt_mul_right o5 (by omega);have Yn:0<=g-1:=(by omega);have anl:=(FI ⟨Yn,O7⟩ G5).2;have:=Ud gu Yn (by omega) wH.1 G5.1 xR xP Ka J9 (by omega);omega
 by_cases NL:1000000000<=g
 ·by_cases aP:1000000000<=rest+v1
  ·refine .inr ⟨g-1,?_,V2 (by omega) aP⟩;unfold yr;rw[dw (by simpa using NL),NK,dw (by omega),dG,dx,h1];simp only[dC,dA,OE,OG];rw[dw (by simpa using aP)]
  ·refine .inl ⟨(g-1,rest+v1),?_,⟨xR,by simp only;omega,by simp only;omega,by simp only;omega,by simp only;omega⟩,by simp only;omega⟩;unfold yr;rw[dw (by simpa using NL),NK,dw (by omega),dG,dx,h1];simp only[dC,dA,OE,OG];rw[dy (by simpa using aP)]
 ·have kB:0<=g:=by omega
  obtain⟨jH,iw⟩:=FI ⟨kB,by omega⟩ G5;have e1:J (J (rest*1000000000)+ix)=rest*1000000000+ix:=(by rw[cu (x:=rest*1000000000) (by omega) (by omega),cu (by omega) (by omega)]);have e2:J (g*v2)=g*v2:=cu (by omega) (by omega)
  have Nw:yr N n n j af u kb aA g rest=some (if rest*1000000000+ix<g*v2 then (if 1000000000<=rest+v1 then .inr (g-1) else .inl (g-1,rest+v1)) else .inr g):=by
   unfold yr;rw[dy (by simpa using NL),aiU,dw (by omega),dG,dx,h2];simp only[dC,dA];rw[aiV,dw (by omega),dG,dx,U];simp only[dA,e1,e2];by_cases aX:rest*1000000000+ix<g*v2
   ·rw[dw (by simpa using aX),dw aX,NK,dw (by omega),dG,dx,h1]
    simp only[dA,OE,OG];by_cases aP:1000000000<=rest+v1
    ·rw[dw (by simpa using aP),dw aP]
    ·rw[dy (by simpa using aP),dy aP]
   ·rw[dy (by simpa using aX),dy aX]
  rw[Nw];by_cases aX:rest*1000000000+ix<g*v2
  ·have amH:=age gu kB i1 xP OA XC (by omega) aX
   rw[dw aX];by_cases aP:1000000000<=rest+v1
   ·rw[dw aP];exact .inr ⟨g-1,rfl,V2 (by omega) aP⟩
   ·rw[dy aP];exact .inl ⟨(g-1,rest+v1),rfl,⟨xR,by simp only;omega,by simp only;omega,by simp only;omega,by simp only;omega⟩,by simp only;omega⟩
  ·rw[dy aX];have:=Ud gu kB (by omega) wH.1 G5.1 i1 xP Ka J9 (by omega);exact .inr ⟨g,rfl,by omega,by omega,by omega⟩
theorem ae0 {a b:ar}{k:Nat}(h:∀i,k<=i->a[i]? = b[i]?):a.drop k=b.drop k:=by apply List.ext_getElem?;intro i;rw[List.getElem?_drop,List.getElem?_drop];exact h _ (by omega)
theorem ae1 {a b:ar}{k:Nat}(h:∀i,i<k->a[i]? = b[i]?):a.take k=b.take k:=by
 apply List.ext_getElem?;intro i;rw[List.getElem?_take,List.getElem?_take];by_cases ad:i<k
 ·rw[dw ad,dw ad];exact h i ad
 ·rw[dy ad,dy ad]
theorem XD {u w:ar}{j n:Nat}{y c:Int}(hlen:w.length=u.length)(G7:j+n<u.length)(eQ:q7 (j+n) w)(aW:w[j+n]? = some y)(m3:∀i,i<j\/j+n<i->w[i]? = u[i]?)(h0:V (u.drop (j+n+1))=0)(hV:V w=V u-c*B j):
 V (w.drop j)=V (u.drop j)-c/\ ∃low,0<=low/\low<B n/\V (w.drop j)=low+B n*y:=by
 have h1:=yY (l:=u) (n:=j) (by omega);have h2:=yY (l:=w) (n:=j) (by omega);rw[ae1 (a:=w) (b:=u) (fun i ad=>m3 i (.inl ad))] at h2;have U:B j*V (w.drop j)=B j*(V (u.drop j)-c):=by grind
 have fX:=pI j;have ai:V (w.drop j)=V (u.drop j)-c:=Int.eq_of_mul_eq_mul_left (by omega) U;refine⟨ai,V ((w.drop j).take n),?_,?_,?_⟩
 ·refine nV (fun x aa=> ?_);obtain⟨i,ad⟩:=List.mem_iff_getElem?.mp aa;have nM:=gH ad;simp at nM;rw[List.getElem?_take,dw (by omega),List.getElem?_drop] at ad;exact eQ _ _ (by omega) ad
 ·have aZ:c2 ((w.drop j).take n):=fun x aa=>by
   obtain⟨i,ad⟩:=List.mem_iff_getElem?.mp aa;have nM:=gH ad;simp at nM;rw[List.getElem?_take,dw (by omega),List.getElem?_drop] at ad;exact eQ _ _ (by omega) ad
  have:=oN aZ
  rwa [List.length_take,Nat.min_eq_left (by simp;omega)] at this
 ·have aw:=yY (l:=w.drop j) (n:=n) (by simp;omega);rw[List.drop_drop,qR aW,ae0 (a:=w) (b:=u) (k:=j+n+1) (fun i ad=>m3 i (.inr (by omega))),h0] at aw;rw[aw];grind
theorem Ue {w:ar}{p:Nat}(eQ:q7 p w)(aW:w[p]? = some 0):c2 w:=fun x aa=>by
 obtain⟨i,ad⟩:=List.mem_iff_getElem?.mp aa;by_cases h:i=p
 ·subst h;rw[aW] at ad;have:=dI ad;omega
 ·exact eQ i x h ad
theorem UK {low y X Ai W:Int}(h0:0<=low)(h1:low<Ai)(DK:X=low+Ai*y)(h2:0<=X)(U:X<W)(ai:W<=Ai):y=0:=by
 have et:Ai*y<Ai*1:=by omega
 have aw:=Int.lt_of_mul_lt_mul_left et (by omega);have J0:Ai*(-1)<Ai*y:=by omega
 have aR:=Int.lt_of_mul_lt_mul_left J0 (by omega);omega
theorem ae2 {af u kb aA:ar}{n j:Nat}{v1 W:Int}(aY:2<=n)(OH:n<=kb.length)(bf:c2 (kb.take n))(hW:V (kb.take n)=W)(wH:kb[n-1]? = some v1)(NM:1<=v1)(hu:c2 u)(z2:u.length<=5000000)(G7:j+n<u.length)(et:V (u.drop (j+1))<W)(amI:j<aA.length):
 ∃mY,ys u.length n n af kb j u aA=some (.inl ((j:Int)-1,mY,aA.set j (V (u.drop j) / W)))/\c2 mY/\mY.length=u.length/\V mY=V u-(V (u.drop j) / W)*B j*W/\V (mY.drop j)<W/\0<=V (u.drop j) / W/\V (u.drop j) / W<1000000000:=by
 obtain⟨n,rfl⟩ : ∃m,n=m+2:=⟨n-2,by omega⟩;have sw:(kb.take (n+2)).length=n+2:=by simp;omega
 have xR:(kb.take (n+2))[n+1]? = some v1:=by rw[List.getElem?_take,dw (by omega)];exact wH
 have XE:=dz (show n<kb.length by omega);have WS:(kb.take (n+2))[n]? = some kb[n]:=by rw[List.getElem?_take,dw (by omega)];exact XE
 have aiW:=bf.get xR;have aiX:=bf.get WS;have ld:=dz (show j+(n+2)<u.length by omega);have G4:=dz (show j+(n+1)<u.length by omega);have GF:=dz (show j+n<u.length by omega);have XF:=dz (show j<u.length by omega);have m8:=hu.get ld;have xH:=hu.get G4;have N7:=hu.get GF;have amJ:=hu.get XF;have wI:=uU bf (k:=n+1) (by omega);rw[Fo xR (by omega),hW] at wI;have G8:=uU bf (k:=n) (by omega);rw[qR WS,Fo xR (by omega),hW] at G8;have NN:=oN bf;rw[sw,hW] at NN;have amK:0<=W:=by rw[<- hW];exact nV bf
 have cH:=uU (hu.drop (j+1)) (k:=n+2) (by simp;omega);rw[List.drop_drop] at cH;have aj4:=nV (hu.drop (j+1+(n+2)));have amL:=pI (n+2);have h0:V (u.drop (j+(n+2)+1))=0:=by rw[show j+(n+2)+1=j+1+(n+2) by omega];apply Int.le_antisymm _ aj4;apply Int.not_lt.mp;intro h;have:B (n+2)*1<=B (n+2)*V (u.drop (j+1+(n+2))):=dK (by omega) (by omega);omega
 have oF:V (u.drop (j+(n+2)))=u[j+(n+2)]:=by rw[qR ld,h0];omega
 have JH:V (u.drop (j+(n+1)))=u[j+(n+1)]+1000000000*u[j+(n+2)]:=by rw[qR G4,show j+(n+1)+1=j+(n+2) by omega,oF]
 have hM:V (u.drop (j+n))=u[j+n]+1000000000*(u[j+(n+1)]+1000000000*u[j+(n+2)]):=by rw[qR GF,show j+n+1=j+(n+1) by omega,JH]
 have jF:=uU (hu.drop j) (k:=n+1) (by simp;omega);rw[List.drop_drop,JH] at jF;have z3:=uU (hu.drop j) (k:=n) (by simp;omega);rw[List.drop_drop,hM] at z3;have rk:=nV (hu.drop j);have du:V (u.drop j)<1000000000*W:=by rw[qR XF];omega
 have aj5:=pI n;have aiY:=pI (n+1);have zL:u[j+(n+2)]<=v1:=by have h1:=uU (hu.drop (j+1)) (k:=n+1) (by simp;omega);rw[List.drop_drop,show j+1+(n+1)=j+(n+2) by omega,oF] at h1;have h2:B (n+1)*u[j+(n+2)]<B (n+1)*(v1+1):=(by omega);have:=Int.lt_of_mul_lt_mul_left h2 (by omega);omega
 have aiZ:=S1 aiY jF.1 jF.2 wI.1 wI.2 (by omega) (by omega) du
 obtain⟨g,dn,xQ,aj6,amM⟩:=aee (af:=af) (aA:=aA) (N:=u.length) (n:=n+2) (j:=j) (v1:=v1) (v2:=kb[n]) (ix:=u[j+n]) (top:=u[j+(n+1)]+1000000000*u[j+(n+2)]) (a5:=V (u.drop j)) (W:=W) (P:=B n) (u:=u) (kb:=kb) (by omega) (by omega) G7 z2 wH XE GF ⟨NM,aiW.2⟩ aiX N7 aj5
  (by rw[Int.mul_comm v1,Int.add_comm];exact G8.1) (by rw[Int.mul_comm v1,Int.add_comm (1000000000*v1)];exact G8.2)
  (by rw[Int.mul_comm (u[j+(n+1)]+_),Int.add_comm];exact z3.1) (by rw[Int.mul_comm (u[j+(n+1)]+_),Int.add_comm (1000000000*_) u[j+n]];exact z3.2) rk du (by omega) (by omega) aiZ.2.1
 have G6:0<W:=by have:B (n+1)*1<=B (n+1)*v1:=dK (by omega) (by omega);omega
 have nv:0<=V (u.drop j) / W:=Int.ediv_nonneg rk (by omega);have qs:V (u.drop j) / W<1000000000:=Int.ediv_lt_of_lt_mul G6 du;have hm:=Int.mul_ediv_add_emod (V (u.drop j)) W;have pW:=Int.emod_nonneg (V (u.drop j)) (b:=W) (by omega);have rj:=Int.emod_lt_of_pos (V (u.drop j)) G6;obtain⟨y,w,cq,XG,Kd,Ke,qE,G0,Kf,Nd⟩:=ahD (v:=kb.take (n+2)) (row:=u) (b6:=j) (oO:=u.length-j) (kq:=g) bf hu ⟨aj6,by omega⟩ (by omega) (by omega) z2;rw[sw] at Kd Ke Nd;rw[hW] at Kf;obtain⟨wG,low,pr,Kg,wx⟩:=XD (c:=g*W) XG G7 Kd Ke Nd h0 (by rw[Kf];grind);have aj7:J ((j:Int)-1)=(j:Int)-1:=tq (by omega);have e1:J ((j:Int)+((n+2:Nat):Int))=((j+(n+2):Nat):Int):=by rw[cu (by omega) (by omega)];omega
 have e2:J (((j+(n+2):Nat):Int)-1)=((j+(n+1):Nat):Int):=by rw[cu (by omega) (by omega)];omega
 have bI:J (((n+2:Nat):Int)-1)=((n+1:Nat):Int):=by rw[cu (by omega) (by omega)];omega
 have c1:J (J (u[j+(n+2)]*1000000000)+u[j+(n+1)])=u[j+(n+1)]+1000000000*u[j+(n+2)]:=by rw[cu (x:=u[j+(n+2)]*1000000000) (by omega) (by omega),cu (by omega) (by omega)];omega
 have di:0<=u[j+(n+1)]+1000000000*u[j+(n+2)]:=by omega
 have eg:(u[j+(n+1)]+1000000000*u[j+(n+2)]) / v1<=u[j+(n+1)]+1000000000*u[j+(n+2)]:=Int.ediv_le_self _ di;have e5:0<=(u[j+(n+1)]+1000000000*u[j+(n+2)]) / v1:=Int.ediv_nonneg di (by omega);have ai0:kb[n+1]? = some v1:=wH
 have pre:ys u.length (n+2) ((n+2:Nat):Int) af kb j u aA =
  (if (decide (y<0))=true then
    Cn (kb.take (n+2)) j (u.length-j) w >>= fun ky=>some (.inl ((j:Int)-1,ky,aA.set j (J (g-1))))
  else some (.inl ((j:Int)-1,w,aA.set j g))):=by
  unfold ys;rw[dw (by simp)];simp only[e1,e2,bI,dx,dG,aj7];rw[dw (by omega),ld];simp only[dC,dA];rw[dw (by omega),G4];simp only[dA];rw[dw (by omega),ai0];simp only[dA];rw[dw (by omega),c1,o7 di,sS di,cu (by omega) (by omega),dn];simp only[dA];rw[dw (by omega),dw (by omega),dw (by omega),List.drop_zero,cq];simp only[dA];by_cases aW:y<0
  ·have bH:(decide (y<0))=true:=(by simpa using aW);simp only[dw bH];congr 1;funext r;rw[dw (by omega),dw (by omega)]
  ·have bH : ¬(decide (y<0))=true:=(by simpa using aW);simp only[dy bH];rw[dw (by omega),dw (by omega)]
 rcases xQ with xQ|xQ
 ·subst xQ;have DK:V (w.drop j)=V (u.drop j) % W:=(by rw[wG];grind);have aW:y=0:=UK (W:=W) pr Kg wx (by rw[DK];exact pW) (by rw[DK];exact rj) (Int.le_of_lt NN);subst aW;refine⟨w,?_,Ue Kd Ke,XG,Kf,by omega,nv,qs⟩;rw[pre];rfl
 ·have DK:V (w.drop j)=V (u.drop j) % W-W:=(by rw[wG,<- xQ];grind);have aW:y<0:=(by apply Int.not_le.mp;intro h;have:0<=B (n+2)*y:=Int.mul_nonneg (by omega) h;omega);obtain⟨nR,bY,ob,aml,NO,NP,WT,Vq⟩:=ahE (v:=kb.take (n+2)) (row:=w) (b6:=j) (oO:=u.length-j) (y:=y) bf (by rw[sw];exact Kd) (by omega) (by omega) (by omega) (by rw[sw];exact Ke) qE G0;rw[sw] at NO NP Vq;rw[hW] at WT;have XH:V bY=V u-V (u.drop j) / W*B j*W:=(by rw[WT,Kf,<- xQ];grind);obtain⟨ai1,amm,ai2,ai3,ai4⟩:=XD (c:=V (u.drop j) / W*W) (by omega) G7 NO NP (fun i ad=>by rw[Vq i ad,Nd i ad]) h0 (by rw[XH];grind);have XI:V (bY.drop j)=V (u.drop j) % W:=(by rw[ai1];grind);have pY:nR=0:=UK (W:=W) ai2 ai3 ai4 (by rw[XI];exact pW) (by rw[XI];exact rj) (Int.le_of_lt NN);subst pY;refine⟨bY,?_,Ue NO NP,by omega,XH,by omega,nv,qs⟩;rw[pre,dw (by simpa using aW),ob];simp only[dC,dA];rw[cu (by omega) (by omega),show g-1=V (u.drop j) / W by omega]
theorem ae3 {af kb u:ar}{n m:Nat}{v1 W:Int}(aY:2<=n)(OH:n<=kb.length)(bf:c2 (kb.take n))(hW:V (kb.take n)=W)(wH:kb[n-1]? = some v1)(NM:1<=v1)(hu:c2 u)(z2:u.length<=5000000)(hm:m+n=u.length)(et:V (u.drop m)<W):
 ∃r,SZ u.length n n af kb ((m:Int)-1) u (List.replicate m 0)=some r/\c2 r.1/\r.1.length=u.length/\V r.1<W/\c2 r.2/\r.2.length=m/\V u=V r.2*W+V r.1:=by
 refine ks (fr:=fun w:Int×ar×ar=> ∃(k:Nat) (q:ar),w.1=(k:Int)-1/\k<=m/\c2 w.2.1/\w.2.1.length=u.length/\w.2.2=List.replicate k 0++q/\q.length+k=m/\c2 q/\V (w.2.1.drop k)<W/\V u=V w.2.1+B k*V q*W) (m:=fun w:Int×ar×ar=>(w.1+1).toNat) _ ?_ _ ⟨m,[],rfl,by omega,hu,rfl,by simp,by simp,c2.nil,et,by simp[V]⟩;rintro⟨ak0,mY,aA⟩ ⟨k,q,h1,a1,qt,hlen,U,a0,sM,NQ,hV⟩;simp only at h1 qt hlen U NQ hV ⊢;subst h1 U
 cases k with
 | zero =>
  refine .inr ⟨(mY,q),by simp[ys],qt,hlen,by simpa using NQ,sM,by simpa using a0,?_⟩;rw[hV];simp[B];omega
 | succ k =>
  obtain⟨amN,he,s1,s2,Ad,ak2,ak3,ak4⟩:=ae2 (af:=af) (kb:=kb) (u:=mY) (aA:=List.replicate (k+1) 0++q) (j:=k) aY OH bf hW wH NM qt (by omega) (by omega) NQ (by simp;omega);rw[hlen] at he;rw[show ((k+1:Nat):Int)-1=k by omega,he];refine .inl ⟨_,rfl,⟨k,V (mY.drop k) / W::q,rfl,by omega,s1,s2.trans hlen,MW _ _ _,by simp;omega,c2.cons ⟨ak3,ak4⟩ sM,ak2,?_⟩,by simp only;omega⟩;simp only;rw[hV,Ad,m0,nZ];grind
theorem MI {a:ar}(h:a.length<=900000):y0 a=some a:=by unfold y0;rw[dw (by omega)]
theorem aef {a b q s:Int}(h:a=q*b+s)(h0:0<=s)(h1:s<b):a / b=q/\a % b=s:=by
 subst h;constructor
 ·rw[Int.add_comm,Int.add_mul_ediv_right _ _ (by omega),Int.ediv_eq_zero_of_lt h0 h1];omega
 ·rw[Int.add_comm,Int.add_mul_emod_self_right];exact Int.emod_eq_of_lt h0 h1
theorem I4 {a b:ar}(bF:gC a)(aP:gC b)(m8:b≠[])(aY:a.length<=900000)(hm:b.length<=900000):vP a b=some (L (V a / V b),L (V a % V b)):=by
 have kY:=wa aP m8;have JT:=nV bF.1;unfold vP;simp only[gZ];rw[Mf bF aP (by omega)];simp only[dC,dA];by_cases aX:V a<V b
 ·rw[dw (by simpa using xd.2 aX),MI aY,Int.ediv_eq_zero_of_lt JT aX,Int.emod_eq_of_lt JT aX,sf,GQ bF];rfl
 ·rw[dy (fun h=>aX (xd.1 (by simpa using h)))]
  obtain⟨k,d,a1,bH,wy,Kb,DC⟩:=Jj aP m8;by_cases h1:b.length=1
  ·have vi:k=0:=(by omega);subst vi;have OC:V b=d:=(by simpa using DC);rw[dw (by simp[h1]),dw (by omega),bH];simp only[dA];have rj:=Int.emod_nonneg (V a) (b:=d) (by omega);have G3:=Int.emod_lt_of_pos (V a) wy;rw[S0 bF.1 ⟨wy,Kb⟩ (by omega)];simp only[dA];rw[F0 rj (by omega),Mg rj (by omega),OC];rfl
  ·have hw:J ((b.length:Int)-1)=(k:Int):=by rw[cu (by omega) (by omega)];omega
   have e1:J (d+1)=d+1:=cu (by omega) (by omega);have DD:1<=1000000000 / (d+1):=(by apply (Int.le_ediv_iff_mul_le (by omega)).2;omega);have G9:1000000000 / (d+1)<1000000000:=(by apply Int.ediv_lt_of_lt_mul (by omega);omega);have aj8:1000000000 / (d+1)*(d+1)<=1000000000:=Int.ediv_mul_le _ (by omega);have e2:J ((1000000000:Int).tdiv (d+1))=1000000000 / (d+1):=(by rw[o7 (by omega),cu (by omega) (by omega)]);rw[dy (by simp;omega),hw,dw (by omega),dx,bH];simp only[dA,e1,e2];generalize 1000000000 / (d+1)=f at *;rw[dw (by omega)];have k5:c2 [f]:=c2.cons (by omega) c2.nil;have aj9:V [f]=f:=(by simp[V]);have aka:a≠[]:=(by intro h;subst h;simp[V] at aX;omega);obtain⟨nS,Aj,akb,amO,akc,Kh,amP⟩:=TJ bF.1 k5 aka (by simp) (by omega) (by simp);obtain⟨Hp,kb,akd,amQ,ake,OI,amR⟩:=TJ aP.1 k5 m8 (by simp) (by omega) (by simp);rw[aj9] at Kh OI;rw[akb];simp only[dA];simp only[List.length_singleton] at akc ake;have amS:=pI k;have akf:V b*f<B b.length:=(by have h2:=(uU aP.1 (k:=k) (by omega)).2;rw[DC] at h2;have U:V b*f<=(B k*(d+1)-1)*f:=Int.mul_le_mul_of_nonneg_right (by omega) (by omega);have ai:(B k*(d+1)-1)*f=B k*(f*(d+1))-f:=(by grind);have aw:B k*(f*(d+1))<=B k*1000000000:=dK aj8 (by omega);rw[a1,nZ];omega);have amT:V b<=V b*f:=(by have:V b*1<=V b*f:=dK DD (by omega);omega);have amU:V a<=V a*f:=(by have:V a*1<=V a*f:=dK DD (by omega);omega);have OJ:0<=V b*f:=(by omega);have XJ:0<=V a*f:=(by omega);have XK:Hp=b.length:=(by have h2:(kb.take Hp).length=Hp:=(by simp;omega);rw[OI] at h2;have U:=(jc OJ (k:=b.length)).2 akf;have ai:=JD aP m8;have aw : ¬(L (V b*f)).length<=b.length-1:=fun h=>(by have:=(jc OJ).1 h;omega);omega);have akg:(L (V a*f)).length=nS:=(by rw[<- Kh];simp;omega);have WU:=oN (h6 (V a*f));rw[eF XJ,akg] at WU;have amn:a.length<=nS:=bF.len.2 (by omega);have amV:b.length<=a.length:=Nat.le_of_not_lt fun h=>(by have:=IX bF aP h;omega);rw[dw (by omega),dw (by simp;omega),akd];simp only[dA];have z2:(Aj.take nS++[0]).length=nS+1:=(by simp;omega);have akh:LY a Hp [f] kb (Aj.take nS++[0])=some (Aj.take nS++[0]):=(by unfold LY;rw[iter];unfold HL;simp only[gZ,z2];rw[dy (by simp;omega)];rfl);rw[akh];simp only[dA,z2];have oc:J (((nS+1:Nat):Int)-((Hp:Nat):Int))=((nS+1-b.length:Nat):Int):=(by rw[cu (by omega) (by omega)];omega);rw[oc,dw (by omega),tq (by omega),dx];have Wu:c2 (Aj.take nS++[0]):=(by rw[Kh];exact(h6 _).append (c2.cons (by omega) c2.nil));have XL:V (Aj.take nS++[0])=V a*f:=(by rw[yS,Kh,eF XJ];simp[V]);have Nf:kb.take b.length=L (V b*f):=(by rw[<- XK];exact OI);have aki:V (kb.take b.length)=V b*f:=(by rw[Nf,eF OJ]);obtain⟨eG,Ak,oU,sv,amo,amp,amq⟩:=Jj (jr (V b*f)) (fun h=>by have:=wb.1 h;omega);rw[<- Nf] at oU sv;have sw:(kb.take b.length).length=b.length:=by simp;omega
   have zN:kb[b.length-1]? = some Ak:=by
    rw[List.getElem?_take] at sv;rw[show b.length-1=eG by omega];split at sv
    ·exact sv
    ·simp at sv
   have ai5:V ((Aj.take nS++[0]).drop (nS+1-b.length))<V b*f:=(by have h2:=(uU Wu (k:=nS+1-b.length) (by omega)).1;rw[XL] at h2;have U:=JD aP m8;have ai:B nS=B (nS+1-b.length)*B (b.length-1):=(by rw[<- FW];congr 1;omega);rw[ai] at WU;have aw:B (nS+1-b.length)*V ((Aj.take nS++[0]).drop (nS+1-b.length))<B (nS+1-b.length)*B (b.length-1):=(by omega);have:=Int.lt_of_mul_lt_mul_left aw (by have:=pI (nS+1-b.length);omega);omega);obtain⟨r,aj,r1,r2,aS,bd,aN,cx⟩:=ae3 (af:=[f]) (m:=nS+1-b.length) (by omega) (by omega) (by rw[Nf];exact h6 _) aki zN (by omega) Wu (by omega) (by omega) ai5;rw[z2] at aj r2;rw[XK,aj];simp only[dA];rw[dw (by omega),List.drop_zero,List.take_of_length_le (by omega),CJ r1 (by omega)];simp only[dA];have G2:=nV r1;rw[XL] at cx;have bL:V r.1=(V a-V r.2*V b)*f:=(by grind);have akj:0<=V a-V r.2*V b:=(by apply Int.not_lt.mp;intro h;have:(V a-V r.2*V b)*f<=(-1)*f:=Int.mul_le_mul_of_nonneg_right (by omega) (by omega);omega);have wG:V a-V r.2*V b<V b:=(by apply Int.lt_of_mul_lt_mul_right (a:=f) _ (by omega);omega);obtain⟨q1,q2⟩:=aef (a:=V a) (b:=V b) (q:=V r.2) (s:=V a-V r.2*V b) (by omega) akj wG;rw[dw (by simp)];simp only[List.getElem?_cons_zero,dA];have GS:(L (V r.1)).length<=nS+1:=(jc G2).2 (by have:=oN r1;rwa [r2] at this);rw[S0 (h6 _) ⟨by omega,G9⟩ (by omega),eF G2];simp only[dA];rw[CJ bd (by omega)];simp only[dA];rw[q1,q2,bL,Int.mul_ediv_cancel _ (by omega)]
theorem aeg {a b:ar}(bF:gC a)(aP:gC b)(aY:a.length<=900000)(hm:b.length<=900000):EX a b=some (L (Int.gcd (V a) (V b))):=by
 have : ∃r,iter (fun w:ar×ar=>BG w.1 w.2) (a,b)=some r/\r=L (Int.gcd (V a) (V b)):=by
  refine ks (fr:=fun w:ar×ar=>gC w.1/\gC w.2/\w.1.length<=900000/\w.2.length<=900000/\Int.gcd (V w.1) (V w.2)=Int.gcd (V a) (V b)) (m:=fun w:ar×ar=>(V w.2).toNat) _ ?_ _ ⟨bF,aP,aY,hm,rfl⟩;rintro⟨x,y⟩ ⟨h1,h2,U,ai,aw⟩;simp only at h1 h2 U ai aw ⊢;have ld:=nV h1.1;have qE:=nV h2.1;by_cases aW:y=[]
  ·subst aW;refine .inr ⟨x,by simp[BG,gZ],?_⟩;rw[<- aw,C1,I3 ld];exact(GQ h1).symm
  ·have OD:=wa h2 aW
   have aj0:=List.length_pos_iff.mpr aW;have z1:=Int.emod_nonneg (V x) (b:=V y) (by omega);have aj1:=Int.emod_lt_of_pos (V x) OD;refine .inl ⟨(y,L (V x % V y)),?_,⟨h2,jr _,ai,(jc z1).2 ?_,?_⟩,?_⟩
   ·unfold BG;simp only[gZ];rw[dw (by simp;omega),I4 h1 h2 aW U ai];rfl
   ·have:=oN h2.1;have:=th ai;omega
   ·simp only;rw[eF z1,<- aw];exact MH ld
   ·simp only;rw[eF z1];omega
 obtain⟨r,aj,rfl⟩:=this;unfold EX Sk;rw[aj];rfl
def ho (n:Int):bE:=⟨decide (n<0),L n.natAbs⟩
def eY (neg:Bool)(a:Int):Int:=if neg then -a else a
def mk (p:Int×Int):ax:=⟨ho p.1,L p.2⟩
def oi (p:Int×Int):en:=⟨ho p.1,L p.2⟩
def OK:ax:=⟨⟨false,[]⟩,[]⟩
def enc:Option (Int×Int)->ax
 | none=>OK
 | some p=>mk p
def ai6 (x:Option (Int×Int)):anr:=x.map oi
structure Fr (p:Int×Int):Prop where
 pos:0<p.2
 XM:Int.gcd p.1 p.2=1
 num:(p.1.natAbs:Int)<B 24
 den:p.2<B 24
theorem MJ {n:Int}:(ho n).cC=L n.natAbs:=rfl
theorem MK {n:Int}:(ho n).cR=decide (n<0):=rfl
theorem Uf {n:Int}(h:0<=n):decide ((0:Int)<((L n).length:Nat))=decide (0<n):=by
 apply decide_eq_decide.2;by_cases h1:0<n
 ·have:(L n)≠[]:=fun h2=>(by have:=wb.1 h2;omega);have:=List.length_pos_iff.mpr this;omega
 ·have:n=0:=(by omega);subst this;simp[sf]
theorem JI {n:Int}(h:0<=n):(((L n).length:Nat):Int)=0↔n=0:=by
 constructor
 ·intro h1;have:L n=[]:=List.eq_nil_of_length_eq_zero (by omega);have:=wb.1 this;omega
 ·rintro rfl;simp[sf]
theorem Ng {neg:Bool}{a:Int}(h:0<=a):((eY neg a).natAbs:Int)=a:=by unfold eY;cases neg<;>simp<;>omega
theorem Vr {neg:Bool}{a:Int}(h:0<=a):(⟨neg && decide (0<a),L a⟩:bE)=ho (eY neg a):=by
 unfold ho;rw[Ng h];congr 1;unfold eY;cases neg
 ·simp;omega
 ·simp
theorem ahF {a:Int}(h:0<=a)(tI:a<B 60):Cj (L a)=some (L a):=by have aZ:=(jc h).2 tI;unfold Cj;rw[uT (h6 _) (by omega),eF h];simp only[dC,dA,gZ];rw[dy (by simp;omega)]
theorem tc {neg:Bool}{a:Int}(h:0<=a)(tI:a<B 60):jx neg (L a)=some (ho (eY neg a)):=by
 have aZ:=(jc h).2 tI;unfold jx;rw[ahF h tI];simp only[dC,dA,gZ,List.nil_append];have aX:(L a).length*8<=140737488355328:=by omega
 rw[<- Vr h,<- Uf h];cases neg<;>simp[aX]
theorem ta {neg:Bool}{a:Int}(h:0<=a):nj neg (L a)=some (ho (eY neg a)):=by unfold nj;rw[<- Vr h,gZ,Uf h];cases neg<;>simp
theorem V3 {a b:Int}:eY (!(decide (a<0) == decide (b<0))) ((a.natAbs:Int)*(b.natAbs:Int))=a*b:=by
 unfold eY;by_cases bF:a<0
 ·have e1:(a.natAbs:Int) = -a:=by omega
  by_cases aP:b<0
  ·have e2:(b.natAbs:Int) = -b:=(by omega);rw[e1,e2];simp[bF,aP,Int.neg_mul,Int.mul_neg]
  ·have e2:(b.natAbs:Int)=b:=(by omega);rw[e1,e2];simp[bF,aP,Int.neg_mul,Int.mul_neg]
 ·have e1:(a.natAbs:Int)=a:=by omega
  by_cases aP:b<0
  ·have e2:(b.natAbs:Int) = -b:=(by omega);rw[e1,e2];simp[bF,aP,Int.neg_mul,Int.mul_neg]
  ·have e2:(b.natAbs:Int)=b:=(by omega);rw[e1,e2];simp[bF,aP,Int.neg_mul,Int.mul_neg]
theorem CK {a b:Int}:eY (decide (a<0)) ((a.natAbs:Int)*b)=a*b:=by
 unfold eY;by_cases bF:a<0
 ·have e1:(a.natAbs:Int) = -a:=(by omega);rw[e1];simp[bF,Int.neg_mul,Int.mul_neg]
 ·have e1:(a.natAbs:Int)=a:=(by omega);rw[e1];simp[bF,Int.neg_mul,Int.mul_neg]
theorem UL {a c:Int}:mg (-c) (-a)=mg a c:=by
 unfold mg;by_cases h:a<c
 ·have : -c < -a:=(by omega);simp[h,this]
 ·by_cases h2:c<a
  ·have U : ¬ -c < -a:=(by omega);have ai : -a < -c:=(by omega);simp[h,h2,U,ai]
  ·have U : ¬ -c < -a:=(by omega);have ai : ¬ -a < -c:=(by omega);simp[h,h2,U,ai]
theorem ae4 {a c:Int}(bF:(L a.natAbs).length<=5000000)(aX:(L c.natAbs).length<=5000000):E1 (ho a) (ho c)=some (mg a c):=by
 unfold E1;simp only[MK,MJ,decide_eq_true_eq];by_cases h1:a<0
 ·by_cases h2:c<0
  ·rw[dw h1,dw h2,vW (jr _) (jr _) aX,eF (by omega),eF (by omega),show (c.natAbs:Int) = -c by omega,show (a.natAbs:Int) = -a by omega,UL];rfl
  ·rw[dw h1,dy h2];unfold mg;rw[dw (by omega)]
 ·by_cases h2:c<0
  ·rw[dy h1,dw h2];unfold mg;rw[dy (by omega),dw (by omega)]
  ·rw[dy h1,dy h2,vW (jr _) (jr _) bF,eF (by omega),eF (by omega)];show some (mg _ _)=_;congr 2<;>omega
theorem abq {a c:Int}(bF:(L a.natAbs).length<=5000000)(aX:(L c.natAbs).length<=5000000):vA (ho a) (ho c)=some (mg a c):=by
 have bL:vA (ho a) (ho c)=if (decide (a<0) == decide (c<0))=true then (if decide (a<0)=true then (s3 (L c.natAbs) (L a.natAbs)).bind (fun r=>some r) else (s3 (L a.natAbs) (L c.natAbs)).bind (fun r=>some r)) else if decide (a<0)=true then some (-1) else some 1:=rfl;rw[bL,adk];by_cases h1:a<0
 ·by_cases h2:c<0
  ·rw[dw (by simp[h1,h2]),dw (by simpa using h1),vW (jr _) (jr _) aX,eF (by omega),eF (by omega),show (c.natAbs:Int) = -c by omega,show (a.natAbs:Int) = -a by omega,UL];rfl
  ·rw[dy (by simp[h1,h2]),dw (by simpa using h1)];unfold mg;rw[dw (by omega)]
 ·by_cases h2:c<0
  ·rw[dy (by simp[h1,h2]),dy (by simpa using h1)];unfold mg;rw[dy (by omega),dw (by omega)]
  ·rw[dw (by simp[h1,h2]),dy (by simpa using h1),vW (jr _) (jr _) bF,eF (by omega),eF (by omega),show (c.natAbs:Int)=c by omega,show (a.natAbs:Int)=a by omega];rfl
def fits (x:Int):Prop:=x<B 24
noncomputable instance (x:Int):Decidable (fits x):=Classical.propDecidable _
noncomputable def low (n d:Int):Option (Int×Int) :=
 if fits ((n / (Int.gcd n d:Int)).natAbs:Int)/\fits (d / (Int.gcd n d:Int)) then some (n / (Int.gcd n d:Int),d / (Int.gcd n d:Int)) else none
theorem I5 {n d:Int}(h:0<d):(0:Int)<Int.gcd n d:=by
 have:Int.gcd n d≠0:=by rw[Ne,Int.gcd_eq_zero_iff];omega
 omega
theorem Vs {n d:Int}(h:0<d): ∃m e,n / (Int.gcd n d:Int)=m/\d / (Int.gcd n d:Int)=e/\n=Int.gcd n d*m/\d=Int.gcd n d*e/\0<e/\(n.natAbs:Int) / (Int.gcd n d:Int)=m.natAbs:=by
 have dn:=I5 (n:=n) h;obtain⟨m,hm⟩:=Int.gcd_dvd_left (a:=n) (b:=d);obtain⟨e,he⟩:=Int.gcd_dvd_right (a:=n) (b:=d);refine⟨m,e,?_,?_,hm,he,?_,?_⟩
 ·conv=>lhs;lhs;rw[hm]
  exact Int.mul_ediv_cancel_left _ (by omega)
 ·conv=>lhs;lhs;rw[he]
  exact Int.mul_ediv_cancel_left _ (by omega)
 ·apply Int.not_le.mp;intro h1;have:(Int.gcd n d:Int)*e<=Int.gcd n d*0:=dK h1 (by omega);omega
 ·have e1:(n.natAbs:Int)=Int.gcd n d*m.natAbs:=by
   conv=>lhs;rw[hm]
   rw[Int.natAbs_mul];simp
  rw[e1];exact Int.mul_ediv_cancel_left _ (by omega)
theorem FJ {a:Int}(h:0<=a):tT (L a)=some (decide (a=1)):=by
 unfold tT;simp only[gZ];by_cases h1:(L a).length=1
 ·have h2:=(jc (k:=1) h).1 (by omega);have U:0<a:=(by apply Int.not_le.mp;intro ai;rw[Wt ai] at h1;simp at h1);have aw:a<1000000000:=(by simpa [B] using h2);rw[IW ⟨U,aw⟩];by_cases aR:a=1<;>simp[aR]
 ·rw[dy (by simp;omega)];have:a≠1:=(by rintro rfl;rw[IW (by omega)] at h1;simp at h1);simp[this]
theorem MX {n d:Int}(h:0<=d):Int.gcd (n.natAbs:Int) d=Int.gcd n d:=by simp[Int.gcd]
theorem Nh:B 24<=B 60:=th (by omega)
theorem Mq {neg:Bool}{m e:Int}(hm:0<=m)(he:0<=e):(if (decide ((24:Int)<((L m).length:Nat)))=true then some OK else if (decide ((24:Int)<((L e).length:Nat)))=true then some OK else jx neg (L m) >>= fun r=>if (([]:ar)++L e).length*8<=140737488355328 then some (⟨r,([]:ar)++L e⟩:ax) else none) =
 some (enc (if fits m/\fits e then some (eY neg m,e) else none)):=by
 by_cases h1:fits m
 ·have h2:=(jc hm).2 h1
  rw[dy (by simp;omega)];by_cases U:fits e
  ·have ai:=(jc he).2 U;have:=Nh;unfold fits at h1;rw[dy (by simp;omega),tc hm (by omega),dw ⟨h1,U⟩];simp only[dC,dA];rw[dw (by simp;omega)];rfl
  ·have ai : ¬(L e).length<=24:=fun h=>U ((jc he).1 h);rw[dw (by simp;omega),dy (fun h=>U h.2)];rfl
 ·have ai : ¬(L m).length<=24:=fun h=>h1 ((jc hm).1 h);rw[dw (by simp;omega),dy (fun h=>h1 h.1)];rfl
theorem V4 {neg:Bool}{p m g:Int}(ah:0<=p)(dn:0<g)(hm:eY neg p=g*m):eY neg (m.natAbs:Int)=m:=by
 unfold eY at hm ⊢;cases neg
 ·simp at hm ⊢;have:0<=m:=(by apply Int.not_lt.mp;intro h1;have:g*m<=g*(-1):=dK (by omega) (by omega);omega);omega
 ·simp at hm ⊢;have:m<=0:=(by apply Int.not_lt.mp;intro h1;have:g*1<=g*m:=dK (by omega) (by omega);omega);omega
theorem Mr {neg:Bool}{p q:Int}(ah:0<=p)(a0:0<q)(XN:(L p).length<=900000)(sM:(L q).length<=900000):qc neg (L p) (L q)=some (enc (low (eY neg p) q)):=by
 obtain⟨m,e,h1,h2,U,ai,aw,aR⟩:=Vs (n:=eY neg p) a0;have sC:=V4 ah (I5 (n:=eY neg p) a0) U;rw[Ng ah] at aR;have dn:Int.gcd p q=Int.gcd (eY neg p) q:=by rw[<- MX (n:=eY neg p) (by omega),Ng ah]
 have amW:=I5 (n:=eY neg p) a0;unfold qc;rw[uT (h6 _) (by omega),eF ah];simp only[dC,dA];rw[uT (h6 _) (by omega),eF (by omega)];simp only[dA,gZ];have nv : ¬((((L q).length:Nat):Int) == 0)=true:=by simp only[beq_iff_eq];intro h;have:=(JI (n:=q) (by omega)).1 h;omega
 rw[dy nv,FJ (by omega)];simp only[dA];have zA:low (eY neg p) q=if fits (m.natAbs:Int)/\fits e then some (eY neg (m.natAbs:Int),e) else none:=by unfold low;rw[h1,h2,sC]
 have Wv:Int.gcd (eY neg p) q=1->(m.natAbs:Int)=p/\e=q:=by intro hu;rw[hu] at h2 aR;simp at h2 aR;omega
 by_cases qs:q=1
 ·have hu:Int.gcd (eY neg p) q=1:=(by rw[qs];simp);obtain⟨ki,mI⟩:=Wv hu;rw[dw (by simpa using qs),zA,ki,mI];exact Mq ah (by omega)
 ·rw[dy (by simpa using qs),V1 (jr _) (jr _) XN sM,eF ah,eF (by omega)]
  simp only[dA];rw[FJ (by omega)];simp only[dA];by_cases hu:Int.gcd p q=1
  ·obtain⟨ki,mI⟩:=Wv (by omega);rw[dw (by simp;omega),zA,ki,mI];exact Mq ah (by omega)
  ·rw[dy (by simp;omega)];have Ha:(L (Int.gcd p q)).length<=900000:=(by have a8:(Int.gcd p q:Int)<=q:=(by rw[dn];have:(Int.gcd (eY neg p) q:Int)*1<=Int.gcd (eY neg p) q*e:=dK (by omega) (by omega);omega);apply (jc (by omega)).2;have:=(jc (n:=q) (by omega)).1 sM;omega);have Hb:L (Int.gcd p q)≠[]:=fun h=>(by have:=wb.1 h;omega);rw[div_eq (jr _) (jr _) Hb XN Ha,eF ah,eF (by omega)];simp only[dA];rw[div_eq (jr _) (jr _) Hb sM Ha,eF (by omega),eF (by omega)];simp only[dA];rw[dn,aR,h2,zA];exact Mq (by omega) (by omega)
theorem Fr.rN {p:Int×Int}(h:Fr p):(L p.1.natAbs).length<=24:=(jc (by omega)).2 h.num
theorem Fr.q8 {p:Int×Int}(h:Fr p):(L p.2).length<=24:=(jc (by have:=h.pos;omega)).2 h.den
theorem air (m n:Nat):B m*B n=B (m+n):=(FW m n).symm
theorem xe {x y:Int}{m n:Nat}(aa:0<=x)(aW:0<=y)(h1:x<B m)(h2:y<B n):(L (x*y)).length<=m+n:=by
 apply (jc (Int.mul_nonneg aa aW)).2;rw[<- air];have U:x*y<=(B m-1)*(B n-1):=Int.mul_le_mul (by omega) (by omega) aW (by omega);have ai:(B m-1)*(B n-1)=B m*B n-B m-B n+1:=by grind
 have aw:=pI m;have aR:=pI n;omega
theorem aeh (r s:ax){a b:Int}(bF:0<=a)(aP:0<b)(h1:jq r.cK.cC s.cK.cC=some (L a))(h2:jq r.ez s.ez=some (L b))(U:(L a).length<=900000)(ai:(L b).length<=900000):vK r s=some (enc (low (eY (!(r.cK.cR == s.cK.cR)) a) b)):=by unfold vK;rw[h1];simp only[dC,dA];rw[h2];simp only[dA];rw[Mr bF aP U ai];simp only[dA]
theorem ae5 {p q:Int×Int}(ah:Fr p)(a0:Fr q):vK (mk p) (mk q)=some (enc (low (p.1*q.1) (p.2*q.2))):=by
 have h1:=ah.rN;have h2:=ah.q8;have U:=a0.rN;have ai:=a0.q8;have aw:=ah.pos;have aR:=a0.pos;have a8:=xe (x:=p.1.natAbs) (y:=q.1.natAbs) (by omega) (by omega) ah.num a0.num;have bk:=xe (x:=p.2) (y:=q.2) (by omega) (by omega) ah.den a0.den;have e1:jq (L p.1.natAbs) (L q.1.natAbs)=some (L ((p.1.natAbs:Int)*q.1.natAbs)):=by rw[mul_eq (h6 _) (h6 _) (by omega) (by omega),eF (by omega),eF (by omega)]
 have e2:jq (L p.2) (L q.2)=some (L (p.2*q.2)):=by rw[mul_eq (h6 _) (h6 _) (by omega) (by omega),eF (by omega),eF (by omega)]
 have:=aeh (mk p) (mk q) (a:=(p.1.natAbs:Int)*q.1.natAbs) (b:=p.2*q.2) (Int.mul_nonneg (by omega) (by omega)) (Int.mul_pos aw aR) e1 e2 (by omega) (by omega);rw[this];have bI:eY (!((mk p).cK.cR == (mk q).cK.cR)) ((p.1.natAbs:Int)*q.1.natAbs)=p.1*q.1:=V3;rw[bI]
theorem ae6 {n d:Int}(bH:0<d)(GJ:(L n.natAbs).length<=900000)(OL:(L d).length<=900000):tV (ho n) (L d)=some (some (oi (n / (Int.gcd n d:Int),d / (Int.gcd n d:Int)))):=by
 obtain⟨m,e,h1,h2,U,ai,aw,aR⟩:=Vs (n:=n) bH;have dn:=I5 (n:=n) bH;rw[h1,h2];unfold tV;simp only[MJ,MK,gZ];by_cases aY:n=0
 ·subst aY;have akk:(Int.gcd 0 d:Int)=d:=(by rw[Int.gcd_comm,I3 (by omega)]);rw[akk] at U ai;have hm:m=0:=(by rcases Int.mul_eq_zero.1 U.symm with h|h<;>omega);have he:e=1:=(by have:d*e=d*1:=(by omega);exact Int.eq_of_mul_eq_mul_left (by omega) this);subst hm he;rw[dw (by simp[sf])];unfold oi ho;simp only[Int.natAbs_zero];rw[IW (x:=1) (by omega),show ((0:Nat):Int)=0 from rfl,sf];rfl
 ·have ai7 : ¬((((L n.natAbs).length:Nat):Int) == 0)=true:=by
   simp only[beq_iff_eq];intro h;have:=(JI (n:=n.natAbs) (by omega)).1 h;omega
  rw[dy ai7,aeg (jr _) (jr _) GJ OL,eF (by omega),eF (by omega),MX (by omega)];simp only[dC,dA];have Ha:(L (Int.gcd n d)).length<=900000:=(by have a8:(Int.gcd n d:Int)<=d:=Int.le_of_dvd bH (Int.gcd_dvd_right ..);apply (jc (by omega)).2;have:=(jc (n:=d) (by omega)).1 OL;omega);rw[Mf (jr _) (gC.one (by omega)) (by omega),eF (by omega),show V [1]=1 by decide];simp only[dA];by_cases hu:(Int.gcd n d:Int)=1
  ·rw[dw (by simpa using Uc.2 hu)];rw[hu] at U ai;rw[Int.one_mul] at U ai;subst U ai;rfl
  ·rw[dy (fun h=>hu (Uc.1 (by simpa using h)))];have Hb:L (Int.gcd n d)≠[]:=fun h=>(by have:=wb.1 h;omega);rw[I4 (jr _) (jr _) Hb GJ Ha,eF (by omega),eF (by omega)];simp only[dA];rw[I4 (jr _) (jr _) Hb OL Ha,eF (by omega),eF (by omega)];simp only[dA];rw[aR,h2,ta (by omega)];simp only[dA];have bL:eY (decide (n<0)) (m.natAbs:Int)=m:=(by refine V4 (p:=n.natAbs) (g:=Int.gcd n d) (by omega) dn ?_;rw[<- U];unfold eY;by_cases h:n<0<;>simp[h]<;>omega);rw[bL];rfl
theorem ahG {m e:Int}(he:0<=e):CA (some (oi (m,e)))=some (ai6 (if fits (m.natAbs:Int)/\fits e then some (m,e) else none)):=by
 have bL:CA (some (oi (m,e)))=if (decide ((24:Int)<len_ eI (L m.natAbs)))=true then some none else if (decide ((24:Int)<len_ eI (L e)))=true then some none else some (some (oi (m,e))):=rfl;rw[bL,gZ,gZ];by_cases h1:fits (m.natAbs:Int)
 ·have h2:=(jc (by omega)).2 h1
  rw[dy (by simp;omega)];by_cases U:fits e
  ·have ai:=(jc he).2 U;rw[dy (by simp;omega),dw ⟨h1,U⟩];rfl
  ·have ai : ¬(L e).length<=24:=fun h=>U ((jc he).1 h);rw[dw (by simp;omega),dy (fun h=>U h.2)];rfl
 ·have ai : ¬(L m.natAbs).length<=24:=fun h=>h1 ((jc (by omega)).1 h);rw[dw (by simp;omega),dy (fun h=>h1 h.1)];rfl
theorem Ug {a b:Int}(bF:(L a.natAbs).length<=900000)(aP:(L b.natAbs).length<=900000):qK (ho a) (ho b)=some (ho (a*b)):=by unfold qK;simp only[MJ,MK];rw[IF (h6 _) (h6 _) (by omega) (by omega),eF (by omega),eF (by omega)];simp only[dC,dA];rw[ta (Int.mul_nonneg (by omega) (by omega)),V3];rfl
theorem Vt:(1000000000000000000000000000:Int)<=B 24:=by
 have h:B 3<=B 24:=th (by omega);have U:B 3=1000000000000000000000000000:=by decide
 omega
theorem agW:(1000000000000000000000000000:Int)<=B 60:=by have:=Nh;have:=Vt;omega
theorem adH {n:Int}(h:mP n):ED n=some (ho n):=by
 obtain⟨h1,h2⟩:=ln.1 h;have aP:=agW;unfold ED;by_cases hm:n = -9223372036854775808
 ·rw[dw (by simpa using hm)];have e:([854775808,223372036,9]:ar)=L 9223372036854775808:=xy ⟨by intro x aa;simp at aa;omega,by simp⟩ (by decide);rw[e,tc (by omega) (by omega)];subst hm;rfl
 ·rw[dy (by simpa using hm)]
  by_cases aY:n<0
  ·rw[dw (by simpa using aY),cu (by omega) (by omega),CB (by omega) (by omega)];simp only[dC,dA];rw[tc (by omega) (by omega)];simp only[dA];congr 2;unfold eY;simp
  ·rw[dy (by simpa using aY),CB (by omega) (by omega)];simp only[dC,dA];rw[tc (by omega) (by omega)];simp only[dA];congr 2
theorem TM {n:Int}(h:mP n):qb n=some (ho n):=by
 obtain⟨h1,h2⟩:=ln.1 h;unfold qb;by_cases aY:n<0
 ·rw[dw (by simpa using aY),cu (x:=n+1) (by omega) (by omega),cu (x:=0-(n+1)) (by omega) (by omega),F0 (x:=0-(n+1)) (by omega) (by omega),F0 (by omega) (by omega),Mg (by omega) (by omega)];simp only[dC,dA];rw[ta (by omega)];simp only[dA];congr 2;unfold eY;simp;omega
 ·rw[dy (by simpa using aY),F0 (by omega) (by omega),Mg (by omega) (by omega)];simp only[dC,dA];rw[ta (by omega)];simp only[dA];congr 2
theorem Nx:L 1=[1]:=IW (by omega)
theorem acU {n:Int}(h:mP n):o9 n=some (mk (n,1)):=by unfold o9;rw[adH h];simp only[dC,dA,mk,Nx]
theorem agf {n:Int}(h:mP n):w8 n=some (some (oi (n,1))):=by unfold w8;rw[TM h];simp only[dC,dA,oi,Nx]
theorem ahH {n:Int}(h:mP n):Fr (n,1):=by obtain⟨h1,h2⟩:=ln.1 h;have aP:=Vt;exact⟨by simp,by simp,by simp only;omega,by simp only;omega⟩
theorem ae7 {p q:Int×Int}(ah:Fr p)(a0:Fr q):yH (mk p) (mk q)=some (mg (p.1*q.2) (q.1*p.2)):=by
 have h1:=ah.rN;have h2:=ah.q8;have U:=a0.rN;have ai:=a0.q8;have aw:=ah.pos;have aR:=a0.pos;have a8:=xe (x:=p.1.natAbs) (y:=q.2) (by omega) (by omega) ah.num a0.den;have bk:=xe (x:=q.1.natAbs) (y:=p.2) (by omega) (by omega) a0.num ah.den;have Al:0<=(p.1.natAbs:Int)*q.2:=Int.mul_nonneg (by omega) (by omega);have Yo:0<=(q.1.natAbs:Int)*p.2:=Int.mul_nonneg (by omega) (by omega);have kR:((p.1*q.2).natAbs:Int)=(p.1.natAbs:Int)*q.2:=by rw[Int.natAbs_mul,Int.natCast_mul];congr 1;omega
 have om:((q.1*p.2).natAbs:Int)=(q.1.natAbs:Int)*p.2:=by rw[Int.natAbs_mul,Int.natCast_mul];congr 1;omega
 have e1:jq (mk p).cK.cC (mk q).ez=some (L ((p.1.natAbs:Int)*q.2)):=by show jq (L p.1.natAbs) (L q.2)=_;rw[mul_eq (h6 _) (h6 _) (by omega) (by omega),eF (by omega),eF (by omega)]
 have e2:jq (mk q).cK.cC (mk p).ez=some (L ((q.1.natAbs:Int)*p.2)):=by show jq (L q.1.natAbs) (L p.2)=_;rw[mul_eq (h6 _) (h6 _) (by omega) (by omega),eF (by omega),eF (by omega)]
 have bI:jx (mk p).cK.cR (L ((p.1.natAbs:Int)*q.2))=some (ho (p.1*q.2)):=by show jx (decide (p.1<0)) _=_;rw[tc Al ((jc Al).1 (by omega)),CK]
 have c1:jx (mk q).cK.cR (L ((q.1.natAbs:Int)*p.2))=some (ho (q.1*p.2)):=by show jx (decide (q.1<0)) _=_;rw[tc Yo ((jc Yo).1 (by omega)),CK]
 unfold yH;rw[e1,dC,dA,bI,dC,dA,e2,dC,dA,c1,dA,ae4 (by rw[kR];omega) (by rw[om];omega)];rfl
theorem Uh {p:Int×Int}{d:Int}(bH:0<=d)(h1:(L p.1.natAbs).length<=900000)(h2:(L d).length<=900000):wV (some (oi p)) (L d)=some (ho (p.1*d)):=by
 have e1:s7 (oi p).tr.cC (L d)=some (L ((p.1.natAbs:Int)*d)):=by show s7 (L p.1.natAbs) (L d)=_;rw[IF (h6 _) (h6 _) (by omega) (by omega),eF (by omega),eF (by omega)]
 have Al:0<=(p.1.natAbs:Int)*d:=Int.mul_nonneg (by omega) (by omega);have bI:nj (oi p).tr.cR (L ((p.1.natAbs:Int)*d))=some (ho (p.1*d)):=by show nj (decide (p.1<0)) _=_;rw[ta Al,CK]
 unfold wV;rw[dC,dA,e1,dC,dA,bI];rfl
theorem Ni {a d:Int}(bH:0<=d):((a*d).natAbs:Int)=(a.natAbs:Int)*d:=by rw[Int.natAbs_mul,Int.natCast_mul];congr 1;omega
theorem uZ (n b6 ad:Int):pa n b6 ad=some (decide (b6<=n/\n<=ad)):=by unfold pa;by_cases h:b6<=n<;>simp[h]
theorem Iv {α β:Type}{t:Nat->α->Option β}: ∀(l:List α) (k:Nat),(∀n x,l[n]? = some x->t (k+n) x=none)->scan t k l=none
 | [],_,_=>rfl
 | x::l,k,h=>by have h0:=h 0 x rfl;simp only[Nat.add_zero] at h0;simp only[scan,h0];exact Iv l (k+1) fun n y aW=>by rw[show k+1+n=k+(n+1) by omega];exact h (n+1) y (by simpa using aW)
theorem adI (l:ar)(h:l.length<=1048576):E6 l l=some true:=by
 have h1:SJ l l 0=some (.inl ()):=by have:=Ir (f:=fun w=>BT l l w) (t:=fun _ _=>none) (e:= .inl ()) l 0 (fun n x aa=>by have aY:=gH aa;have hw:J ((n:Int)+1)=((n+1:Nat):Int):=(by rw[cu (by omega) (by omega)];rfl);simp only[BT,fc,dG,hw];simp[aY]) (by simp[BT,fc]);rw[Iv l 0 (fun _ _ _=>rfl)] at this;exact this
 simp[E6,h1]
theorem adl (j:dr):EY j j=some true:=by simp[EY]
theorem acV (j:d5):EN j j=some true:=by simp[EN]
theorem acW (l:anv)(h:l.length<=1048576):EM l l=some true:=by
 have h1:R2 l l 0=some (.inl ()):=by have:=Ir (f:=fun w=>Bs l l w) (t:=fun _ _=>none) (e:= .inl ()) l 0 (fun n x aa=>by have aY:=gH aa;have hw:J ((n:Int)+1)=((n+1:Nat):Int):=(by rw[cu (by omega) (by omega)];rfl);simp only[Bs,fc,dG,hw];simp[aY,adl]) (by simp[Bs,fc]);rw[Iv l 0 (fun _ _ _=>rfl)] at this;exact this
 simp[EM,h1]
theorem acJ (l:anw)(h:l.length<=1048576):Ey l l=some true:=by
 have h1:RF l l 0=some (.inl ()):=by have:=Ir (f:=fun w=>Bh l l w) (t:=fun _ _=>none) (e:= .inl ()) l 0 (fun n x aa=>by have aY:=gH aa;have hw:J ((n:Int)+1)=((n+1:Nat):Int):=(by rw[cu (by omega) (by omega)];rfl);simp only[Bh,fc,dG,hw];simp[aY,acV]) (by simp[Bh,fc]);rw[Iv l 0 (fun _ _ _=>rfl)] at this;exact this
 simp[Ey,h1]
theorem abW (s:cL)(h1:s.cc.length<=1048576)(h2:s.bA.length<=1048576):El s s=some true:=by simp[El,acW _ h1,acJ _ h2]
theorem adm (j:dr)(left:Int)(av:j.mO.size<=maxLen)(h0:0<=left)(h1:left<=1048576): ∃r,EQ j left=some r/\r<=left:=by
 have hm:j.mO.size<9223372036854775808:=by have:maxLen=9223372036854775807:=by decide
                                           omega
 have hw:J (left-j.mO.size)=left-j.mO.size:=cu (by omega) (by omega);unfold EQ;rw[hw];by_cases h:left-(j.mO.size:Int)<0
 ·exact⟨-1,by simp[h],by omega⟩
 ·exact⟨left-j.mO.size,by simp[h],by omega⟩
theorem SS (l:anv)(left:Int)(aZ:l.length<=maxLen)(av:∀j∈l,j.mO.size<=maxLen)(h0:0<=left)(h1:left<=1048576):
 ∃r,Ez l left=some r/\r<=left/\(0<=r->l.length<=1048576):=by
 have hm:maxLen=9223372036854775807:=by decide
 have hw:J (left-(l.length:Nat))=left-(l.length:Nat):=cu (by omega) (by omega);unfold Ez;simp only[fc,hw];by_cases h:left-(l.length:Int)<0
 ·exact⟨-1,by simp[h],by omega,by omega⟩
 ·obtain⟨r,r1,r2⟩:=ks (f:=fun w:Int×Int=>yd l w.1 w.2) (fun w=>0<=w.1/\w.1<=left/\0<=w.2/\w.2<=l.length) (fun w=>(l.length-w.2).toNat)
   (fun r=>match r with | .inl a=>a<=left | .inr _=>True) (fun w hw=>by
     obtain⟨a,i⟩:=w;simp only at hw;obtain⟨iC,nT,uJ,anm⟩:=hw;by_cases ad:i<l.length
     ·obtain⟨x,aa⟩ : ∃x,l[i.toNat]? = some x:=⟨_,dz (by omega)⟩
      obtain⟨r,s1,s2⟩:=adm x a (av x (dH aa)) iC (by omega);obtain⟨aY,rfl⟩:=List.getElem?_eq_some_iff.1 aa;have GM:J (i+1)=i+1:=cu (by omega) (by omega);by_cases aj:r<0
      ·right;exact⟨.inr (),by simp[yd,fc,ad,uJ,aa,s1,aj],trivial⟩
      ·left
       refine⟨(r,i+1),by simp[yd,fc,ad,uJ,aa,s1,aj,GM],?_,?_⟩
       ·simp only;omega
       ·simp only;omega
     ·right;exact⟨.inl a,by simp[yd,fc,ad],by simpa using nT⟩) (left-(l.length:Nat),0) (by simp only;omega)
  have Ki:RH l (left-(l.length:Nat)) 0=some r:=r1;rw[Ki]
  cases r with
  | inl a=>exact⟨a,by simp[h],r2,by omega⟩
  | inr a=>exact⟨-1,by simp[h],by omega,by omega⟩
theorem SK (l:anw)(left:Int)(aZ:l.length<=maxLen)(h0:0<=left)(h1:left<=1048576):
 ∃r,Eu l left=some r/\r<=left/\(0<=r->l.length<=1048576):=by
 have hm:maxLen=9223372036854775807:=by decide
 have hw:J (left-(l.length:Nat))=left-(l.length:Nat):=cu (by omega) (by omega);unfold Eu;simp only[fc,hw];by_cases h:left-(l.length:Int)<0
 ·exact⟨-1,by simp[h],by omega,by omega⟩
 ·exact⟨left-(l.length:Nat),by simp[h],by omega,by omega⟩
theorem abX (s:cL)(i0:oq s)(left:Int)(h0:0<=left)(h1:left<=1048576):
 ∃r,yt s left=some r/\(0<=r->s.cc.length<=1048576/\s.bA.length<=1048576):=by
 obtain⟨⟨fP,fH⟩,bC,fx⟩:=i0;obtain⟨r,r1,r2,aS⟩:=SS s.cc left fP (fun j av=>(fH j av).1) h0 h1;unfold yt;rw[r1];by_cases h:r<0
 ·exact⟨-1,by simp[h],by omega⟩
 ·obtain⟨q,q1,q2,bD⟩:=SK s.bA r bC (by omega) (by omega)
  by_cases a0:q<0
  ·exact⟨-1,by simp[h,q1,a0],by omega⟩
  ·exact⟨q,by simp[h,q1,a0],fun _=>⟨aS (by omega),bD (by omega)⟩⟩
theorem tX:maxLen=9223372036854775807:=by decide
theorem aei (n:Int):Cf n=pa n (-50) 50:=by rw[uZ];unfold Cf;by_cases h : -50<=n<;>simp[h]
theorem adJ (c:Int):EK c=some (decide (97<=c/\c<=122)):=by unfold EK;by_cases h:97<=c<;>simp[h]
theorem aej (c:Int):ET c=some (decide (48<=c/\c<=57)):=by unfold ET;by_cases h:48<=c<;>simp[h]
theorem adK (s:ByteArray)(i:Int):Ea s s.size i=wS s i:=by
 unfold Ea wS;generalize ((s.data.toList.getD i.toNat 0).toNat:Int)=c;simp only[adJ,aej,dC,dA]
 by_cases h1:i<(s.size:Int)<;>by_cases h0:0<=i<;>by_cases a:(97:Int)<=c<;>by_cases b:c<=122<;>by_cases d:i=0<;>by_cases e:c<48<;>by_cases f:57<c <;>
  simp[h1,h0,a,b,d,e,f,Int.not_lt.1,Int.not_le]<;>omega
theorem ae8 (s:ByteArray):E2 s=w3 s:=by
 have h:LM s s.size 0=HO s 0:=by unfold LM HO;congr 1;funext w;exact adK s w
 unfold E2 w3;rw[h];congr 1;funext r
 cases r with
 | inr a=>rfl
 | inl a =>
  simp only[uZ,dC,dA];by_cases h0:s.size=0
  ·have:s=⟨#[]⟩:=by
    cases s with
    | mk d=>simp only[ByteArray.size] at h0;rw[Array.size_eq_zero_iff] at h0;rw[h0]
   subst this;have e0:(ByteArray.mk #[]).size=0:=rfl;simp[e0]
  ·have dd:s.toList≠(⟨#[]⟩:ByteArray).toList:=by
    intro e;have aZ : ∀x:ByteArray,x.toList.length=x.size:=(by intro x;rw[ByteArray.toList_eq];rfl);have:=aZ s;rw[e,aZ] at this;exact h0 this.symm
   simp only[beq_iff_eq,dd,Bool.not_eq_true',beq_eq_false_iff_ne,ne_eq,not_false_eq_true,if_true];congr 1;apply decide_eq_decide.2;omega
theorem adL (s:ByteArray)(bL:s.size<=maxLen): ∃r,w3 s=some r:=by
 have hm:=tX
 obtain⟨r,h,-⟩:=ks (f:=fun w=>wS s w) (fun i=>0<=i/\i<=s.size) (fun i=>(s.size-i).toNat) (fun _=>True) (fun i ad=>by
  obtain⟨h0,h1⟩:=ad;by_cases h2:i<(s.size:Int)
  ·have hw:J (i+1)=i+1:=cu (by omega) (by omega)
   unfold wS;generalize ((s.data.toList.getD i.toNat 0).toNat:Int)=c;have ais:0<=i+1/\i+1<=(s.size:Int):=(by omega);have oc:((s.size:Int)-(i+1)).toNat<((s.size:Int)-i).toNat:=by omega
   have key : ∀x:Option (Int⊕(Unit⊕Unit)),(x=some (.inl (i+1))\/x=some (.inr (.inr ())))->(∃eh,x=some (.inl eh)/\(0<=eh/\eh<=(s.size:Int))/\((s.size:Int)-eh).toNat<((s.size:Int)-i).toNat)\/ ∃r,x=some (.inr r)/\True:=by
    intro x aa;rcases aa with aa|aa
    ·exact .inl ⟨i+1,aa,ais,oc⟩
    ·exact .inr ⟨_,aa,trivial⟩
   apply key;simp only[h2,h0,hw,decide_true,if_true,and_self];by_cases a:(97:Int)<=c<;>by_cases b:c<=122<;>by_cases d:i=0<;>by_cases e:c<48<;>by_cases f:57<c<;>simp[a,b,d,e,f]
  ·exact .inr ⟨.inl (),by simp[wS,h2],trivial⟩) 0 (by omega)
 have c3:HO s 0=some r:=h;unfold w3;rw[c3]
 cases r with
 | inl a=>exact⟨_,by simp[uZ];rfl⟩
 | inr a=>exact⟨_,rfl⟩
theorem aek (j:dr):EU j=r3 j:=by unfold EU r3;simp only[ae8,aei]
theorem S2 (j:dr)(h:j.mO.size<=maxLen): ∃r,r3 j=some r:=by
 obtain⟨r,aj⟩:=adL _ h;unfold r3;simp only[aj,uZ,dC,dA]
 repeat' split
 all_goals exact⟨_,rfl⟩
theorem acX (s:cL)(n:ByteArray):Es s n=yv s n:=by
 have h:Ky s.cc n (len_ cm s.cc) 0=Ed n s.cc (len_ cm s.cc) 0:=by unfold Ky Ed;congr 1
 unfold Es yv HC;rw[h]
 cases Ed n s.cc (len_ cm s.cc) 0 with
 | none=>rfl
 | some r=>cases r<;>rfl
theorem Sl (s:cL)(n:ByteArray)(h:s.cc.length<=maxLen): ∃r,yv s n=some r:=by
 have hm:=tX
 obtain⟨r,h1,-⟩:=ks (f:=fun w=>A3 n s.cc (len_ cm s.cc) w) (fun i=>0<=i/\i<=s.cc.length) (fun i=>(s.cc.length-i).toNat) (fun _=>True) (fun i ad=>by
  obtain⟨h0,h1⟩:=ad;by_cases h2:i<(s.cc.length:Int)
  ·have hw:J (i+1)=i+1:=cu (by omega) (by omega)
   obtain⟨x,aa⟩ : ∃x,s.cc[i.toNat]? = some x:=⟨_,dz (by omega)⟩;unfold A3;simp only[fc,h2,h0,hw,aa,decide_true,if_true,and_self,dC,dA];by_cases e:(x.mO.toList == n.toList)=true
   ·exact .inr ⟨_,by rw[dw e],trivial⟩
   ·exact .inl ⟨i+1,by rw[dy e],by omega,by omega⟩
  ·exact .inr ⟨.inl (),by simp[A3,fc,h2],trivial⟩) 0 (by omega)
 have c3:Ed n s.cc (len_ cm s.cc) 0=some r:=h1;unfold yv;rw[c3]
 cases r with
 | inl a=>exact⟨_,rfl⟩
 | inr a=>exact⟨_,rfl⟩
theorem Sm (s:cL):K4 s.cc (len_ cm s.cc) s.bA 0=BK s.cc (len_ cm s.cc) s.bA 0:=by unfold K4 BK;congr 1;funext w;unfold HG uN;simp only[aek,acX]
theorem RG (s:cL)(i0:oq s): ∃r,BK s.cc (len_ cm s.cc) s.bA 0=some r:=by
 have hm:=tX;obtain⟨⟨fP,fH⟩,-⟩:=i0
 obtain⟨r,h1,-⟩:=ks (f:=fun w=>uN s.cc (len_ cm s.cc) s.bA w) (fun i=>0<=i/\i<=s.cc.length) (fun i=>(s.cc.length-i).toNat) (fun _=>True) (fun i ad=>by
  obtain⟨h0,h1⟩:=ad;by_cases h2:i<(s.cc.length:Int)
  ·have hw:J (i+1)=i+1:=cu (by omega) (by omega)
   obtain⟨x,aa⟩ : ∃x,s.cc[i.toNat]? = some x:=⟨_,dz (by omega)⟩;obtain⟨p,ah⟩:=S2 x (fH x (dH aa)).1;obtain⟨q,a0⟩:=Sl ⟨s.cc,s.bA⟩ x.mO fP;unfold uN;simp only[fc,h2,h0,hw,aa,ah,a0,decide_true,if_true,and_self,dC,dA];by_cases e:p=true
   ·rw[dw e]
    by_cases e2:(q != i)=true
    ·exact .inr ⟨_,by rw[dw e2],trivial⟩
    ·exact .inl ⟨i+1,by rw[dy e2],by omega,by omega⟩
   ·exact .inr ⟨_,by rw[dy e],trivial⟩
  ·exact .inr ⟨.inl (),by simp[uN,fc,h2],trivial⟩) 0 (by omega)
 exact⟨r,h1⟩
def rA (ij:anv)(m:d5):Bool :=
 decide (0<=m.bR/\m.bR<ij.length/\0<=m.bS/\m.bS<ij.length/\1<=m.jd/\m.jd<=3) &&
 match ij[m.bR.toNat]?,ij[m.bS.toNat]? with
 | some a,some b=> !(a.hv == b.hv && a.iW == b.iW) && !(a.m1 && b.m1)
 | _,_=>false
theorem L7 (s:cL)(m:d5):DZ s m=some (rA s.cc m):=by
 unfold DZ rA;simp only[fc];by_cases h1:m.bR<0
 ·simp[h1];omega
 by_cases h2:(s.cc.length:Int)<=m.bR
 ·simp[h1,h2];omega
 by_cases U:m.bS<0
 ·simp[h1,h2,U];omega
 by_cases ai:(s.cc.length:Int)<=m.bS
 ·simp[h1,h2,U,ai];omega
 by_cases aw:m.jd<1
 ·simp[h1,h2,U,ai,aw];omega
 by_cases aR:3<m.jd
 ·simp[h1,h2,U,ai,aw,aR];omega
 obtain⟨x,aa⟩ : ∃x,s.cc[m.bR.toNat]? = some x:=⟨_,dz (by omega)⟩;obtain⟨y,aW⟩ : ∃y,s.cc[m.bS.toNat]? = some y:=⟨_,dz (by omega)⟩;have bc:0<=m.bR/\m.bR<s.cc.length:=by omega
 have cj:0<=m.bS/\m.bS<s.cc.length:=by omega
 have jm:0<=m.bR/\m.bR<s.cc.length/\0<=m.bS/\m.bS<s.cc.length/\1<=m.jd/\m.jd<=3:=by omega
 rw[decide_eq_false h1,decide_eq_false h2,decide_eq_false U,decide_eq_false ai,decide_eq_false aw,decide_eq_false aR,decide_eq_true jm,dw bc,aa];simp only[Bool.false_eq_true,if_false,dC,dA,Bool.true_and];rw[dw cj,aW];simp only[dA];by_cases e1:x.hv=y.hv<;>by_cases e2:x.iW=y.iW<;>by_cases DD:x.m1=true<;>by_cases G9:y.m1=true<;>simp[e1,e2,DD,G9]
theorem acK (ij:anv)(f5:anw)(av:ij.length<=6)(JP:f5.length<=8)(i:Int):
 DX (J (len_ cm ij-1)) f5 (len_ ck f5) ij i =
 (sX f5 ij f5 (len_ ck f5) i).map (Sum.map id (Sum.map id fun _=>())):=by
 have hw:J ((ij.length:Nat)-1)=(ij.length:Nat)-1:=cu (by omega) (by omega);unfold DX sX BX;simp only[fc,hw,L7,uZ,dC,dA];by_cases h1:i<(f5.length:Int)
 ·by_cases h0:0<=i
  ·obtain⟨m,hm⟩ : ∃x,f5[i.toNat]? = some x:=⟨_,dz (by omega)⟩
   simp only[h1,h0,hm,decide_true,if_true,and_self,dA];unfold rA;by_cases hA:0<=m.bR/\m.bR<=(ij.length:Int)-1
   ·by_cases fX:0<=m.bS/\m.bS<=(ij.length:Int)-1
    ·by_cases iV:1<=m.jd/\m.jd<=3
     ·obtain⟨x,aa⟩ : ∃x,ij[m.bR.toNat]? = some x:=⟨_,dz (by omega)⟩;obtain⟨y,aW⟩ : ∃y,ij[m.bS.toNat]? = some y:=⟨_,dz (by omega)⟩;have bc:0<=m.bR/\m.bR<ij.length:=(by omega);have cj:0<=m.bS/\m.bS<ij.length:=(by omega);have jm:0<=m.bR/\m.bR<ij.length/\0<=m.bS/\m.bS<ij.length/\1<=m.jd/\m.jd<=3:=(by omega);rw[decide_eq_true hA,decide_eq_true fX,decide_eq_true iV,decide_eq_true jm];simp only[if_true,dA,Bool.true_and];rw[dw bc,aa];simp only[dA];rw[dw cj,aW];simp only[dA];by_cases e1:x.hv=y.hv<;>by_cases e2:x.iW=y.iW<;>by_cases DD:x.m1=true<;>by_cases G9:y.m1=true<;>simp[e1,e2,DD,G9]
     ·have jm : ¬(0<=m.bR/\m.bR<ij.length/\0<=m.bS/\m.bS<ij.length/\1<=m.jd/\m.jd<=3):=(by omega);rw[decide_eq_true hA,decide_eq_true fX,decide_eq_false iV,decide_eq_false jm];simp
    ·have jm : ¬(0<=m.bR/\m.bR<ij.length/\0<=m.bS/\m.bS<ij.length/\1<=m.jd/\m.jd<=3):=(by omega);rw[decide_eq_true hA,decide_eq_false fX,decide_eq_false jm];simp
   ·have jm : ¬(0<=m.bR/\m.bR<ij.length/\0<=m.bS/\m.bS<ij.length/\1<=m.jd/\m.jd<=3):=(by omega);rw[decide_eq_false hA,decide_eq_false jm];simp
  ·simp[h1,h0]
 ·simp[h1]
theorem Rj (ij:anv)(f5:anw)(JP:f5.length<=8): ∃r,Hz f5 ij f5 (len_ ck f5) 0=some r/\ ∀k,r = .inr k->0<=k:=by
 exact ks (f:=fun w=>sX f5 ij f5 (len_ ck f5) w) (fun i=>0<=i/\i<=f5.length) (fun i=>(f5.length-i).toNat) (fun r=> ∀k,r = .inr k->0<=k) (fun i ad=>by
  obtain⟨h0,h1⟩:=ad;by_cases h2:i<(f5.length:Int)
  ·have hw:J (i+1)=i+1:=cu (by omega) (by omega)
   obtain⟨x,aa⟩ : ∃x,f5[i.toNat]? = some x:=⟨_,dz (by omega)⟩;unfold sX BX;simp only[fc,h2,h0,hw,aa,L7,decide_true,if_true,and_self,dC,dA];by_cases e:(!rA ij x)=true
   ·exact .inr ⟨_,by rw[dw e],by intro k a1;simp at a1;omega⟩
   ·exact .inl ⟨i+1,by rw[dy e],by omega,by omega⟩
  ·exact .inr ⟨.inl (),by simp[sX,fc,h2],by intro k a1;simp at a1⟩) 0 (by omega)
theorem B4 (s:cL)(i0:oq s): ∃r,oJ s=some r/\uO s=some r:=by
 unfold oJ uO;by_cases h1:6<(s.cc.length:Int)
 ·exact⟨false,by simp[fc,h1],by simp[fc,h1]⟩
 by_cases h2:8<(s.bA.length:Int)
 ·exact⟨false,by simp[fc,h1,h2],by simp[fc,h1,h2]⟩
 obtain⟨r,aj⟩:=RG s i0;rw[Sm,aj];obtain⟨q,a0,nv⟩:=Rj s.cc s.bA (by omega)
 have akl:QT (J (len_ cm s.cc-1)) s.bA (len_ ck s.bA) s.cc 0=some (Sum.map id (fun _=>()) q) :=
  afZ (f:=fun w=>sX s.bA s.cc s.bA (len_ ck s.bA) w) (Sum.map id fun _=>()) (fun _=>True) (fun _ _ _ _=>trivial)
   (fun i _=>acK s.cc s.bA (by omega) (by omega) i) 0 q a0 trivial
 simp only[DO,DQ,a0,akl,dC,dA];have d1:decide ((6:Int)<len_ cm s.cc)=false:=by rw[fc];exact decide_eq_false h1
 have d2:decide ((8:Int)<len_ ck s.bA)=false:=by rw[fc];exact decide_eq_false h2
 rw[d1,d2];simp only[Bool.false_eq_true,if_false]
 cases r with
 | inr a=>exact⟨false,rfl,rfl⟩
 | inl a =>
  cases q with
  | inl b=>exact⟨true,rfl,by simp⟩
  | inr k =>
   have:=nv k rfl;exact⟨false,rfl,by simp[this]⟩
theorem LP (j:dr)(h:r3 j=some true): -50<=j.hv/\j.hv<=50/\ -50<=j.iW/\j.iW<=50:=by
 unfold r3 at h
 cases aY:w3 j.mO with
 | none=>simp[aY] at h
 | some r =>
  simp only[aY,uZ,dC,dA] at h
  cases r with
  | false=>simp at h
  | true =>
   by_cases a : -50<=j.hv/\j.hv<=50
   ·by_cases b : -50<=j.iW/\j.iW<=50
    ·omega
    ·simp[a,b] at h
   ·simp[a] at h
theorem ae9 (s:cL)(i0:oq s)(h:BK s.cc (len_ cm s.cc) s.bA 0=some (.inl ())): ∀(n:Nat) j,s.cc[n]? = some j->r3 j=some true:=by
 have hm:=tX;obtain⟨⟨fP,fH⟩,-⟩:=i0
 obtain⟨r,h1,h2⟩:=ks (f:=fun w=>uN s.cc (len_ cm s.cc) s.bA w) (fun i=>0<=i/\i<=s.cc.length/\ ∀(n:Nat) j,(n:Int)<i->s.cc[n]? = some j->r3 j=some true) (fun i=>(s.cc.length-i).toNat)
  (fun r=>r = .inl ()-> ∀(n:Nat) j,s.cc[n]? = some j->r3 j=some true) (fun i ad=>by
  obtain⟨h0,h1,U⟩:=ad;by_cases h2:i<(s.cc.length:Int)
  ·have hw:J (i+1)=i+1:=cu (by omega) (by omega)
   obtain⟨x,aa⟩ : ∃x,s.cc[i.toNat]? = some x:=⟨_,dz (by omega)⟩;obtain⟨p,ah⟩:=S2 x (fH x (dH aa)).1;obtain⟨q,a0⟩:=Sl ⟨s.cc,s.bA⟩ x.mO fP;unfold uN;simp only[fc,h2,h0,hw,aa,ah,a0,decide_true,if_true,and_self,dC,dA];by_cases e:p=true
   ·rw[dw e]
    by_cases e2:(q != i)=true
    ·exact .inr ⟨_,by rw[dw e2],by simp⟩
    ·refine .inl ⟨i+1,by rw[dy e2],⟨by omega,by omega,fun n j aY av=> ?_⟩,by omega⟩
     by_cases c:(n:Int)<i
     ·exact U n j c av
     ·have:n=i.toNat:=(by omega);subst this;rw[aa] at av;obtain rfl:=dI av;rw[ah,e]
   ·exact .inr ⟨_,by rw[dy e],by simp⟩
  ·refine .inr ⟨.inl (),by simp[uN,fc,h2],fun _ n j av=>U n j (by have:=gH av;omega) av⟩) 0 ⟨by omega,by omega,fun n j aY=>by omega⟩
 have tx:BK s.cc (len_ cm s.cc) s.bA 0=some r:=h1;rw[h] at tx;exact h2 (dI tx).symm
theorem ael (ij:anv)(f5:anw)(JP:f5.length<=8)(h:Hz f5 ij f5 (len_ ck f5) 0=some (.inl ())): ∀(n:Nat) m,f5[n]? = some m->rA ij m=true:=by
 obtain⟨r,h1,h2⟩:=ks (f:=fun w=>sX f5 ij f5 (len_ ck f5) w) (fun i=>0<=i/\i<=f5.length/\ ∀(n:Nat) m,(n:Int)<i->f5[n]? = some m->rA ij m=true) (fun i=>(f5.length-i).toNat)
  (fun r=>r = .inl ()-> ∀(n:Nat) m,f5[n]? = some m->rA ij m=true) (fun i ad=>by
  obtain⟨h0,h1,U⟩:=ad;by_cases h2:i<(f5.length:Int)
  ·have hw:J (i+1)=i+1:=cu (by omega) (by omega)
   obtain⟨x,aa⟩ : ∃x,f5[i.toNat]? = some x:=⟨_,dz (by omega)⟩;unfold sX BX;simp only[fc,h2,h0,hw,aa,L7,decide_true,if_true,and_self,dC,dA];by_cases e:(!rA ij x)=true
   ·exact .inr ⟨_,by rw[dw e],by simp⟩
   ·refine .inl ⟨i+1,by rw[dy e],⟨by omega,by omega,fun n j aY av=> ?_⟩,by omega⟩
    by_cases c:(n:Int)<i
    ·exact U n j c av
    ·have:n=i.toNat:=(by omega);subst this;rw[aa] at av;obtain rfl:=dI av;simpa using e
  ·refine .inr ⟨.inl (),by simp[sX,fc,h2],fun _ n j av=>U n j (by have:=gH av;omega) av⟩) 0 ⟨by omega,by omega,fun n j aY=>by omega⟩
 have tx:Hz f5 ij f5 (len_ ck f5) 0=some r:=h1;rw[h] at tx;exact h2 (dI tx).symm
theorem Ei (s:cL)(i0:oq s)(h:oJ s=some true):
 (∀(n:Nat) j,s.cc[n]? = some j->r3 j=some true)/\(∀(n:Nat) m,s.bA[n]? = some m->rA s.cc m=true)/\s.cc.length<=6/\s.bA.length<=8:=by
 obtain⟨p,p1,p2⟩:=B4 s i0;rw[h] at p1;obtain rfl:=dI p1;unfold uO at p2;by_cases h1:6<(s.cc.length:Int)
 ·simp[fc,h1] at p2
 by_cases h2:8<(s.bA.length:Int)
 ·simp[fc,h1,h2] at p2
 obtain⟨r,aj⟩:=RG s i0;rw[Sm,aj] at p2;obtain⟨q,a0,nv⟩:=Rj s.cc s.bA (by omega);have d1:decide ((6:Int)<len_ cm s.cc)=false:=by rw[fc];exact decide_eq_false h1
 have d2:decide ((8:Int)<len_ ck s.bA)=false:=by rw[fc];exact decide_eq_false h2
 rw[d1,d2] at p2;simp only[DO,DQ,a0,Bool.false_eq_true,if_false,dC,dA] at p2
 cases r with
 | inr a=>simp at p2
 | inl a =>
  cases q with
  | inr k =>
   have:=nv k rfl;simp[this] at p2
  | inl b=>exact⟨ae9 s i0 aj,ael s.cc s.bA (by omega) a0,by omega,by omega⟩
def lX (s:cL):Prop:=(∀(n:Nat) j,s.cc[n]? = some j-> -50<=j.hv/\j.hv<=50/\ -50<=j.iW/\j.iW<=50)/\(∀(n:Nat) m,s.bA[n]? = some m->rA s.cc m=true)/\s.cc.length<=6/\s.bA.length<=8
theorem acr (s:cL)(i0:oq s)(h:oJ s=some true):lX s:=by obtain⟨f1,f2,f3,f4⟩:=Ei s i0 h;exact⟨fun n j av=>LP j (f1 n j av),f2,f3,f4⟩
theorem agX (s:cL)(h:lX s)(k:Int)(h0:0<=k)(h1:k<s.bA.length):
 ∃x y,rW s k=some (x,y)/\(-100<=x/\x<=100)/\(-100<=y/\y<=100):=by
 obtain⟨f1,f2,f3,f4⟩:=h;obtain⟨m,hm⟩ : ∃x,s.bA[k.toNat]? = some x:=⟨_,dz (by omega)⟩;have uE:=f2 _ m hm;unfold rA at uE;simp only[dM,decide_eq_true_eq] at uE;obtain⟨⟨g1,g2,g3,g4,-⟩,-⟩:=uE;obtain⟨a,bF⟩ : ∃x,s.cc[m.bR.toNat]? = some x:=⟨_,dz (by omega)⟩;obtain⟨b,aP⟩ : ∃x,s.cc[m.bS.toNat]? = some x:=⟨_,dz (by omega)⟩;have Yp:=f1 _ a bF;have Yq:=f1 _ b aP;have e1:J (b.hv-a.hv)=b.hv-a.hv:=cu (by omega) (by omega);have e2:J (b.iW-a.iW)=b.iW-a.iW:=cu (by omega) (by omega);have cE:0<=k/\k<s.bA.length:=⟨h0,h1⟩;have bc:0<=m.bR/\m.bR<s.cc.length:=⟨g1,g2⟩;have cj:0<=m.bS/\m.bS<s.cc.length:=⟨g3,g4⟩;refine⟨b.hv-a.hv,b.iW-a.iW,?_,by omega,by omega⟩;unfold rW;simp only[dw cE,hm,dw bc,dw cj,bF,aP,dC,dA,e1,e2]
theorem agY (s:cL)(h:lX s)(k:Int)(h0:0<=k)(h1:k<s.bA.length){v:Int×Int}(bf:rW s k=some v):wY s k=some v:=by
 obtain⟨f1,f2,f3,f4⟩:=h;obtain⟨m,hm⟩ : ∃x,s.bA[k.toNat]? = some x:=⟨_,dz (by omega)⟩;have uE:=f2 _ m hm;unfold rA at uE;simp only[dM,decide_eq_true_eq] at uE;obtain⟨⟨g1,g2,g3,g4,-⟩,-⟩:=uE;obtain⟨a,bF⟩ : ∃x,s.cc[m.bR.toNat]? = some x:=⟨_,dz (by omega)⟩;obtain⟨b,aP⟩ : ∃x,s.cc[m.bS.toNat]? = some x:=⟨_,dz (by omega)⟩;have Yp:=f1 _ a bF;have Yq:=f1 _ b aP;have e1:J (b.hv-a.hv)=b.hv-a.hv:=cu (by omega) (by omega);have e2:J (b.iW-a.iW)=b.iW-a.iW:=cu (by omega) (by omega);have cE:0<=k/\k<s.bA.length:=⟨h0,h1⟩;have bc:0<=m.bR/\m.bR<s.cc.length:=⟨g1,g2⟩;have cj:0<=m.bS/\m.bS<s.cc.length:=⟨g3,g4⟩;have wO:rW s k=some (b.hv-a.hv,b.iW-a.iW):=by unfold rW;simp only[dw cE,hm,dw bc,dw cj,bF,aP,dC,dA,e1,e2]
 rw[bf] at wO;obtain rfl:=dI wO;unfold wY;simp only[dw cE,hm,dw bc,dw cj,bF,aP,dC,dA,e1,e2]
theorem afa (s:cL)(i0:oq s)(h:oJ s=some true)(k:Int)(h0:0<=k)(h1:k<s.bA.length):
 ∃x y,rW s k=some (x,y)/\wY s k=some (x,y)/\(-100<=x/\x<=100)/\(-100<=y/\y<=100):=by
 obtain⟨f1,f2,f3,f4⟩:=Ei s i0 h;obtain⟨m,hm⟩ : ∃x,s.bA[k.toNat]? = some x:=⟨_,dz (by omega)⟩;have uE:=f2 _ m hm;unfold rA at uE;simp only[dM,decide_eq_true_eq] at uE;obtain⟨⟨g1,g2,g3,g4,-⟩,-⟩:=uE;obtain⟨a,bF⟩ : ∃x,s.cc[m.bR.toNat]? = some x:=⟨_,dz (by omega)⟩;obtain⟨b,aP⟩ : ∃x,s.cc[m.bS.toNat]? = some x:=⟨_,dz (by omega)⟩;have Yp:=LP a (f1 _ a bF);have Yq:=LP b (f1 _ b aP);have e1:J (b.hv-a.hv)=b.hv-a.hv:=cu (by omega) (by omega);have e2:J (b.iW-a.iW)=b.iW-a.iW:=cu (by omega) (by omega);have cE:0<=k/\k<s.bA.length:=⟨h0,h1⟩;have bc:0<=m.bR/\m.bR<s.cc.length:=⟨g1,g2⟩;have cj:0<=m.bS/\m.bS<s.cc.length:=⟨g3,g4⟩;refine⟨b.hv-a.hv,b.iW-a.iW,?_,?_,by omega,by omega⟩
 ·unfold rW;simp only[dw cE,hm,dw bc,dw cj,bF,aP,dC,dA,e1,e2]
 ·unfold wY;simp only[dw cE,hm,dw bc,dw cj,bF,aP,dC,dA,e1,e2]
theorem Ww {j k:Int}(h0:0<=j)(h:j<k):j*j<k*k:=Int.mul_self_lt_mul_self h0 h
theorem uk {j k:Int}(h0:0<=j)(h:j<=k):j*j<=k*k:=Int.mul_self_le_mul_self h0 h
theorem UM {x:Int}(aa:-100<=x/\x<=100):x*x<=10000/\0<=x*x:=by
 rcases Int.le_total 0 x with h|h
 ·have:=uk h aa.2;exact⟨by omega,Int.mul_nonneg h h⟩
 ·have:=uk (j:= -x) (k:=100) (by omega) (by omega);rw[Int.neg_mul_neg] at this;exact⟨by omega,Int.mul_nonneg_of_nonpos_of_nonpos h h⟩
theorem acL (s:cL)(i0:oq s)(left:Int)(h0:0<=left)(h1:left<=1048576)(q:Int)(a0:yt s left=some q):q<=1048576:=by
 obtain⟨⟨fP,fH⟩,bC,fx⟩:=i0;obtain⟨r,r1,r2,aS⟩:=SS s.cc left fP (fun j av=>(fH j av).1) h0 h1;unfold yt at a0;rw[r1] at a0;by_cases h:r<0
 ·simp[h] at a0;omega
 ·obtain⟨t,t1,t2,t3⟩:=SK s.bA r bC (by omega) (by omega)
  by_cases cq:t<0
  ·simp[h,t1,cq] at a0;omega
  ·simp[h,t1,cq] at a0;omega
def vw (l:ar)(n:Nat)(x:Int):Prop:=0<=x/\x<1000000000/\(∀z,l[n]? = some z->x=z)/\(l[n]? = none->x=0)
theorem zx {l:ar}(h:c2 l){n:Nat}(aY:n<l.length):vw l n l[n]:=by have aa:=dz aY;have h0:=h.get aa;exact⟨h0.1,h0.2,fun z cH=>by rw[aa] at cH;exact dI cH,fun h=>by rw[aa] at h;simp at h⟩
theorem CS {l:ar}{n:Nat}(aY:¬n<l.length):vw l n 0:=by
 have aa:l[n]? = none:=by simp;omega
 exact⟨by omega,by omega,fun z cH=>by rw[aa] at cH;simp at cH,fun _=>rfl⟩
theorem vw.take {l:ar}{n:Nat}{x:Int}(h:vw l n x):V (l.take (n+1))=V (l.take n)+B n*x:=UJ h.2.2.1 h.2.2.2
theorem agh {a b row:ar}{carry:Int}{n:Nat}(bF:c2 a)(aP:c2 b)(aX:carry=0\/carry=1)(ux:a.length<=1000000)(OM:b.length<=1000000)(aj:row.length<=1000001)(JU:n<=1000001)(aY:n<a.length\/n<b.length\/carry=1):
 ∃x y,vw a n x/\vw b n y/\yl a b carry n row=some (.inl ((carry+x+y) / 1000000000,((n+1:Nat):Int),row++[(carry+x+y) % 1000000000])):=by
 have oA:0<=carry/\carry<=1:=by omega
 unfold yl;simp only[gZ];by_cases h1:n<a.length
 ·have hA:=zx bF h1
  have aa:=dz h1;rw[dw (by simp;omega),dw (by omega),dx,aa];simp only[dC,dA];by_cases h2:n<b.length
  ·have fX:=zx aP h2;have aW:=dz h2;have fP:=hA.1;have fH:=hA.2.1;have jw:=fX.1;have kO:=fX.2.1;refine⟨a[n],b[n],hA,fX,?_⟩;rw[dw (by simp;omega),dw (by omega),aW];simp only[dA];rw[cu (x:=carry+a[n]) (by omega) (by omega),cu (x:=carry+a[n]+b[n]) (by omega) (by omega),sS (by omega),o7 (by omega),cu (by omega) (by omega),pN (n:=n) (by omega),dw (by simp;omega)]
  ·have fP:=hA.1;have fH:=hA.2.1;refine⟨a[n],0,hA,CS h2,?_⟩;rw[dy (by simp;omega),cu (x:=carry+a[n]) (by omega) (by omega),sS (by omega),o7 (by omega),cu (by omega) (by omega),pN (n:=n) (by omega),dw (by simp;omega),Int.add_zero]
 ·rw[dy (by simp;omega)]
  by_cases h2:n<b.length
  ·have fX:=zx aP h2;have aW:=dz h2;have jw:=fX.1;have kO:=fX.2.1;refine⟨0,b[n],CS h1,fX,?_⟩;rw[dw (by simp;omega),dw (by omega),dx,aW];simp only[dC,dA];rw[cu (x:=carry+b[n]) (by omega) (by omega),sS (by omega),o7 (by omega),cu (by omega) (by omega),pN (n:=n) (by omega),dw (by simp;omega),Int.add_zero]
  ·refine⟨0,0,CS h1,CS h2,?_⟩;rw[dy (by simp;omega),dw (by simp;omega),sS (by omega),o7 (by omega),cu (by omega) (by omega),pN (n:=n) (by omega),dw (by simp;omega),Int.add_zero,Int.add_zero]
theorem agi {a b:ar}(bF:c2 a)(aP:c2 b)(ux:a.length<=900000)(OM:b.length<=900000): ∃r,Cl a b=some r/\c2 r/\V r=V a+V b/\r.length<=a.length+b.length+1:=by
 obtain⟨r,aj,h1,h2,U⟩:=ks (f:=fun w:Int×Int×ar=>yl a b w.1 w.2.1 w.2.2) (fr:=fun w=> ∃n:Nat,w.2.1=n/\w.2.2.length=n/\(w.1=0\/w.1=1)/\c2 w.2.2/\V w.2.2+w.1*B n=V (a.take n)+V (b.take n)/\(n<=a.length\/n<=b.length\/w.1=0)/\n<=a.length+b.length+1) (m:=fun w=>(a.length+b.length+2-w.2.1.toNat))
  (fun r=>c2 r/\V r=V a+V b/\r.length<=a.length+b.length+1) (by
    rintro⟨carry,ii,row⟩ ⟨n,e1,e2,bI,c1,di,eg,e5⟩;simp only at e1 e2 bI c1 di eg;subst e1;by_cases aY:n<a.length\/n<b.length\/carry=1
    ·obtain⟨x,y,aa,aW,oR⟩:=agh (row:=row) bF aP bI (by omega) (by omega) (by omega) (by omega) aY
     have x0:=aa.1;have x1:=aa.2.1;have Yr:=aW.1;have e3:=aW.2.1;have OH:n<=a.length+b.length:=(by omega);refine .inl ⟨_,oR,⟨n+1,rfl,by simp[e2],by simp only;omega,c1.append (c2.cons (by omega) c2.nil),?_,?_,by omega⟩,by simp only;omega⟩
     ·simp only;rw[yS,e2,nZ,m0,C1,aa.take,aW.take];have:=Int.mul_ediv_add_emod (carry+x+y) 1000000000;generalize (carry+x+y) / 1000000000=u at *;generalize (carry+x+y) % 1000000000=t at *;have cq:t=carry+x+y-1000000000*u:=(by omega);rw[cq];grind
     ·simp only
      by_cases h:n+1<=a.length\/n+1<=b.length
      ·omega
      ·
       have amX : ¬n<a.length:=(by omega);have amY : ¬n<b.length:=(by omega);have jg:x=0:=aa.2.2.2 (by simp;omega);have j8:y=0:=aW.2.2.2 (by simp;omega);omega
    ·refine .inr ⟨row,?_,c1,?_,by omega⟩
     ·unfold yl;simp only[gZ];rw[dy (by simp;omega),dy (by simp;omega),dy (by simp;omega)]
     ·have aX:carry=0:=(by omega);rw[aX,List.take_of_length_le (by omega),List.take_of_length_le (by omega)] at di;omega) (0,0,[]) ⟨0,rfl,rfl,.inl rfl,c2.nil,by simp[V],by omega,by omega⟩
 unfold Cl Ss;rw[aj];exact⟨r,rfl,h1,h2,U⟩
theorem afb {neg:Bool}{r:ar}(aj:c2 r)(aZ:r.length<=5000000)(tI:V r<B 60):jx neg r=some (ho (eY neg (V r))):=by
 have h0:=nV aj;have:jx neg r=jx neg (L (V r)):=by unfold jx Cj;have hlen:=(jc h0).2 tI;rw[uT aj aZ,uT (h6 _) (by omega),eF h0]
 rw[this,tc h0 tI]
theorem afc {a b row:ar}{carry:Int}{n:Nat}(bF:c2 a)(aP:c2 b)(aX:carry=0\/carry=1)(ux:a.length<=1000000)(aY:n<a.length)(aj:n<row.length):
 ∃x y,vw a n x/\vw b n y/\B1 a b a.length carry n row=some (.inl ((carry+x+y) / 1000000000,((n+1:Nat):Int),row.set n ((carry+x+y) % 1000000000))):=by
 have oA:0<=carry/\carry<=1:=by omega
 have hA:=zx bF aY;have aa:=dz aY;have fP:=hA.1;have fH:=hA.2.1;unfold B1;simp only[gZ];rw[dw (by simp;omega),dw (by omega),dx,aa];simp only[dC,dA];by_cases h2:n<b.length
 ·have fX:=zx aP h2;have aW:=dz h2;have jw:=fX.1;have kO:=fX.2.1;refine⟨a[n],b[n],hA,fX,?_⟩;rw[dw (by simp;omega),dw (by omega),aW];simp only[dA];rw[dw (by omega),dw (by omega),cu (x:=a[n]+carry) (by omega) (by omega),cu (x:=a[n]+carry+b[n]) (by omega) (by omega),sS (by omega),o7 (by omega),cu (by omega) (by omega),pN (n:=n) (by omega),dG,Int.add_comm a[n] carry]
 ·refine⟨a[n],0,hA,CS h2,?_⟩;rw[dy (by simp;omega),dw (by omega),dw (by omega),cu (x:=a[n]+carry) (by omega) (by omega),sS (by omega),o7 (by omega),cu (by omega) (by omega),pN (n:=n) (by omega),dG,Int.add_zero,Int.add_comm a[n] carry]
theorem afd {a b:ar}(bF:c2 a)(aP:c2 b)(ux:a.length<=900000)(xM:b.length<=a.length):
 ∃r,H4 a b a.length 0 0 (List.replicate (a.length+1) 0)=some r/\(r.1=0\/r.1=1)/\c2 r.2/\r.2.length=a.length+1/\V r.2+r.1*B a.length=V a+V b/\r.2[a.length]? = some 0:=by
 refine ks (fr:=fun w:Int×Int×ar=> ∃n:Nat,w.2.1=n/\n<=a.length/\(w.1=0\/w.1=1)/\c2 w.2.2/\w.2.2.length=a.length+1/\V w.2.2+w.1*B n=V (a.take n)+V (b.take n)/\ ∀j,n<=j->j<a.length+1->w.2.2[j]? = some 0) (m:=fun w=>a.length-w.2.1.toNat) _ ?_ _ ⟨0,rfl,by omega,.inl rfl,c2.Ok _,by simp,by simp[V,Ns],fun j _ h=>by simp[List.getElem?_replicate];omega⟩;rintro⟨carry,ii,row⟩ ⟨n,e1,e2,bI,c1,di,eg,e5⟩;simp only at e1 bI c1 di eg e5 ⊢;subst e1;by_cases aY:n=a.length
 ·subst aY;refine .inr ⟨(carry,row),by simp[B1],bI,c1,di,?_,e5 _ (dF _) (by omega)⟩;rw[List.take_length,List.take_of_length_le xM] at eg;exact eg
 ·obtain⟨x,y,aa,aW,oR⟩:=afc (row:=row) (n:=n) bF aP bI (by omega) (by omega) (by omega)
  have x0:=aa.1;have x1:=aa.2.1;have Yr:=aW.1;have e3:=aW.2.1;refine .inl ⟨_,oR,⟨n+1,rfl,by omega,by simp only;omega,c1.set (by omega),by simpa using di,?_,fun j h1 h2=> ?_⟩,by simp only;omega⟩
  ·simp only;rw[vb (e5 n (dF _) (by omega)),nZ,aa.take,aW.take];have:=Int.mul_ediv_add_emod (carry+x+y) 1000000000;generalize (carry+x+y) / 1000000000=u at *;generalize (carry+x+y) % 1000000000=t at *;have cq:t=carry+x+y-1000000000*u:=(by omega);rw[cq];grind
  ·simp only;rw[List.getElem?_set_ne (by omega)];exact e5 j (by omega) h2
theorem Ui {a b:ar}(bF:c2 a)(aP:c2 b)(ux:a.length<=900000)(xM:b.length<=a.length):
 (if 0<=(J ((len_ eI a)+(1:Int)))/\(8:Int)*(J ((len_ eI a)+(1:Int)))<=281474976710656/\(J ((len_ eI a)+(1:Int)))<9223372036854775808 then
   (H4 a b (len_ eI a) 0 0 (List.replicate (J ((len_ eI a)+(1:Int))).toNat 0:ar)).bind fun aS =>
   if 0<=(len_ eI a)/\(len_ eI a)<(aS.2.length:Nat) then
   if (0+(len_ eI a).toNat)<aS.2.length then
   (s9 (aS.2.set (0+(len_ eI a).toNat) aS.1)).bind fun bq=>some bq
   else none
   else none
   else none)=some (L (V a+V b)):=by
 obtain⟨r,aj,h1,h2,U,ai,aw⟩:=afd bF aP ux xM;rw[gZ,pN (by omega),dw (by omega),dx,aj,dA,dw (by omega),dx,dG,dw (by omega)];have Gn:c2 (r.2.set a.length r.1):=h2.set (by omega);rw[CJ Gn (by simp;omega),vb aw,dA];congr 2;rw[<- ai];grind
theorem agZ {a b:ar}(bF:c2 a)(aP:c2 b)(ux:a.length<=900000)(OM:b.length<=900000):Ct a b=some (L (V a+V b)):=by
 unfold Ct;by_cases h:a.length<b.length
 ·rw[dw (by rw[gZ,gZ];simpa using h)];have:=Ui aP bF OM (by omega);rw[Int.add_comm (V a)];exact this
 ·rw[dy (by rw[gZ,gZ];simpa using h)];exact Ui bF aP ux (by omega)
theorem aem {a b row:ar}{less:Int}{n:Nat}(bF:c2 a)(aP:c2 b)(aZ:less=0\/less=1)(ux:a.length<=1000000)(aY:n<a.length)(aj:n<row.length):
 ∃x y,vw a n x/\vw b n y/\BZ b a a.length less n row=some (.inl (if x-less-y<0 then (1,((n+1:Nat):Int),row.set n (x-less-y+1000000000)) else (0,((n+1:Nat):Int),row.set n (x-less-y)))):=by
 have oA:0<=less/\less<=1:=by omega
 have hA:=zx bF aY;have aa:=dz aY;have fP:=hA.1;have fH:=hA.2.1;unfold BZ;simp only[gZ];rw[dw (by simp;omega),dw (by omega),dx,aa];simp only[dC,dA];by_cases h2:n<b.length
 ·have fX:=zx aP h2
  have aW:=dz h2;have jw:=fX.1;have kO:=fX.2.1;refine⟨a[n],b[n],hA,fX,?_⟩;rw[dw (by simp;omega),dw (by omega),aW];simp only[dA];rw[cu (x:=a[n]-less) (by omega) (by omega),cu (x:=a[n]-less-b[n]) (by omega) (by omega),pN (n:=n) (by omega),cu (x:=a[n]-less-b[n]+1000000000) (by omega) (by omega),dG];by_cases h:a[n]-less-b[n]<0
  ·rw[dw (by simpa using h),dw h,dw (by omega),dw (by omega)]
  ·rw[dy (by simpa using h),dy h,dw (by omega),dw (by omega)]
 ·refine⟨a[n],0,hA,CS h2,?_⟩
  rw[dy (by simp;omega),cu (x:=a[n]-less) (by omega) (by omega),pN (n:=n) (by omega),cu (x:=a[n]-less+1000000000) (by omega) (by omega),dG,Int.sub_zero];by_cases h:a[n]-less<0
  ·rw[dw (by simpa using h),dw h,dw (by omega),dw (by omega)]
  ·rw[dy (by simpa using h),dy h,dw (by omega),dw (by omega)]
theorem UN {a b:ar}(bF:c2 a)(aP:c2 b)(hlen:b.length<=a.length)(xM:V b<=V a)(ux:a.length<=900000):w7 a b=some (L (V a-V b)):=by
 have : ∃r,SQ b a a.length 0 0 (List.replicate a.length 0)=some r/\c2 r/\r.length=a.length/\V r=V a-V b:=by
  refine ks (fr:=fun w:Int×Int×ar=> ∃n:Nat,w.2.1=n/\n<=a.length/\(w.1=0\/w.1=1)/\c2 w.2.2/\w.2.2.length=a.length/\V w.2.2-w.1*B n=V (a.take n)-V (b.take n)/\ ∀j,n<=j->j<a.length->w.2.2[j]? = some 0) (m:=fun w=>a.length-w.2.1.toNat) _ ?_ _ ⟨0,rfl,by omega,.inl rfl,c2.Ok _,by simp,by simp[V,Ns],fun j _ h=>by simp[List.getElem?_replicate];omega⟩;rintro⟨less,ii,row⟩ ⟨n,e1,e2,bI,c1,di,eg,e5⟩;simp only at e1 bI c1 di eg e5 ⊢;subst e1;by_cases aY:n=a.length
  ·subst aY;refine .inr ⟨row,by simp[BZ],c1,di,?_⟩;rw[List.take_length,List.take_of_length_le hlen] at eg;have h2:=oN c1;rw[di] at h2;rcases bI with rfl|rfl<;>omega
  ·obtain⟨x,y,aa,aW,oR⟩:=aem (row:=row) (n:=n) bF aP bI (by omega) (by omega) (by omega)
   have x0:=aa.1;have x1:=aa.2.1;have Yr:=aW.1;have e3:=aW.2.1;rw[oR];refine .inl ⟨_,rfl,?_⟩;by_cases h:x-less-y<0
   ·rw[dw h]
    refine⟨⟨n+1,rfl,by omega,.inr rfl,c1.set (by omega),by simpa using di,?_,fun j h1 h2=> ?_⟩,by simp only;omega⟩
    ·simp only;rw[vb (e5 n (dF _) (by omega)),nZ,aa.take,aW.take];grind
    ·simp only;rw[List.getElem?_set_ne (by omega)];exact e5 j (by omega) h2
   ·rw[dy h]
    refine⟨⟨n+1,rfl,by omega,.inl rfl,c1.set (by omega),by simpa using di,?_,fun j h1 h2=> ?_⟩,by simp only;omega⟩
    ·simp only;rw[vb (e5 n (dF _) (by omega)),aa.take,aW.take];grind
    ·simp only;rw[List.getElem?_set_ne (by omega)];exact e5 j (by omega) h2
 obtain⟨r,aj,h1,h2,U⟩:=this;unfold w7;simp only[gZ];rw[dw (by omega),dx,aj];simp only[dC,dA];rw[CJ h1 (by omega),U];rfl
theorem V5 {a b:Int}(h:decide (a<0)=decide (b<0)):eY (decide (a<0)) ((a.natAbs:Int)+(b.natAbs:Int))=a+b:=by
 have c3:a<0↔b<0:=by simpa using h
 unfold eY;by_cases h1:a<0
 ·have:=c3.1 h1;simp only[h1,decide_true,if_true];omega
 ·have : ¬b<0:=fun aP=>h1 (c3.2 aP);simp only[h1,decide_false,Bool.false_eq_true,if_false];omega
theorem I6 {a b:Int}(h:¬decide (a<0)=decide (b<0)):eY (decide (a<0)) ((a.natAbs:Int)-(b.natAbs:Int))=a+b/\eY (decide (b<0)) ((b.natAbs:Int)-(a.natAbs:Int))=a+b:=by
 have c3 : ¬(a<0↔b<0):=by simpa using h
 unfold eY;by_cases h1:a<0
 ·have h2 : ¬b<0:=fun aP=>c3 ⟨fun _=>aP,fun _=>h1⟩;simp only[h1,h2,decide_true,if_true,decide_false,Bool.false_eq_true,if_false];omega
 ·have h2:b<0:=by
   apply Classical.byContradiction;intro aP;exact c3 ⟨fun h=>absurd h h1,fun h=>absurd h aP⟩
  simp only[h1,h2,decide_true,if_true,decide_false,Bool.false_eq_true,if_false];omega
theorem IG {x y:Int}(aa:0<=x)(Ol:x<=y):(L x).length<=(L y).length:=by apply (jc aa).2;have:=oN (h6 y);rw[eF (by omega)] at this;omega
theorem Uj {a b:Int}(bF:(a.natAbs:Int)<B 50)(aP:(b.natAbs:Int)<B 50):s6 (ho a) (ho b)=some (ho (a+b)):=by
 have ll:=(jc (k:=50) (n:=a.natAbs) (by omega)).2 bF;have lR:=(jc (k:=50) (n:=b.natAbs) (by omega)).2 aP;have tI:B 50+B 50<=B 60:=by have h1:B 51<=B 60:=th (by omega);have h2:=pI 50;rw[nZ] at h1;omega
 have bL:s6 (ho a) (ho b)=(if (decide (a<0) == decide (b<0))=true then (Cl (L a.natAbs) (L b.natAbs)).bind fun r2=>(jx (decide (a<0)) r2).bind fun bd=>some bd else (s5 (L a.natAbs) (L b.natAbs)).bind fun r2=>if (decide ((0:Int)<=r2))=true then (vJ (L a.natAbs) (L b.natAbs)).bind fun aN=>(jx (decide (a<0)) aN).bind fun bq=>some bq else (vJ (L b.natAbs) (L a.natAbs)).bind fun aN=>(jx (decide (b<0)) aN).bind fun bq=>some bq):=rfl;rw[bL];by_cases h:decide (a<0)=decide (b<0)
 ·rw[dw (by simpa using h)];obtain⟨r,r1,r2,aS,bd⟩:=agi (h6 a.natAbs) (h6 b.natAbs) (by omega) (by omega);rw[eF (by omega),eF (by omega)] at aS;rw[r1,dA,afb r2 (by omega) (by omega),aS,V5 h];rfl
 ·rw[dy (by simpa using h),vW (jr _) (jr _) (by omega),eF (by omega),eF (by omega),dA]
  by_cases aX:(b.natAbs:Int)<=a.natAbs
  ·have z4:0<=mg (a.natAbs:Int) b.natAbs:=by
    apply Int.not_lt.mp;intro h1;have:=xd.1 h1;omega
   rw[dw (by simpa using z4),sub_eq (h6 _) (h6 _) (IG (by omega) aX) (by rw[eF (by omega),eF (by omega)];exact aX) (by omega),eF (by omega),eF (by omega),dA,tc (by omega) (by omega),(I6 h).1];rfl
  ·have z4 : ¬0<=mg (a.natAbs:Int) b.natAbs:=by
    have:=xd.2 (show (a.natAbs:Int)<b.natAbs by omega);omega
   rw[dy (by simpa using z4),sub_eq (h6 _) (h6 _) (IG (by omega) (by omega)) (by rw[eF (by omega),eF (by omega)];omega) (by omega),eF (by omega),eF (by omega),dA,tc (by omega) (by omega),(I6 h).2];rfl
theorem UO {a b:Int}(bF:(a.natAbs:Int)<B 50)(aP:(b.natAbs:Int)<B 50):wW (ho a) (ho b)=some (ho (a+b)):=by
 have ll:=(jc (k:=50) (n:=a.natAbs) (by omega)).2 bF;have lR:=(jc (k:=50) (n:=b.natAbs) (by omega)).2 aP;have bL:wW (ho a) (ho b)=((s3 (L a.natAbs) (L b.natAbs)).bind fun r1=>if (decide (a<0) == decide (b<0))=true then (Ct (L a.natAbs) (L b.natAbs)).bind fun r2=>(nj (decide (a<0)) r2).bind fun bd=>some bd else if (decide ((0:Int)<=r1))=true then (w7 (L a.natAbs) (L b.natAbs)).bind fun aN=>(nj (decide (a<0)) aN).bind fun bq=>some bq else (w7 (L b.natAbs) (L a.natAbs)).bind fun aN=>(nj (decide (b<0)) aN).bind fun bq=>some bq):=rfl;rw[bL,Mf (jr _) (jr _) (by omega),eF (by omega),eF (by omega),dA];by_cases h:decide (a<0)=decide (b<0)
 ·rw[dw (by simpa using h),agZ (h6 _) (h6 _) (by omega) (by omega),eF (by omega),eF (by omega),dA,ta (by omega),V5 h];rfl
 ·rw[dy (by simpa using h)]
  by_cases aX:(b.natAbs:Int)<=a.natAbs
  ·have z4:0<=mg (a.natAbs:Int) b.natAbs:=by
    apply Int.not_lt.mp;intro h1;have:=xd.1 h1;omega
   rw[dw (by simpa using z4),UN (h6 _) (h6 _) (IG (by omega) aX) (by rw[eF (by omega),eF (by omega)];exact aX) (by omega),eF (by omega),eF (by omega),dA,ta (by omega),(I6 h).1];rfl
  ·have z4 : ¬0<=mg (a.natAbs:Int) b.natAbs:=by
    have:=xd.2 (show (a.natAbs:Int)<b.natAbs by omega);omega
   rw[dy (by simpa using z4),UN (h6 _) (h6 _) (IG (by omega) (by omega)) (by rw[eF (by omega),eF (by omega)];omega) (by omega),eF (by omega),eF (by omega),dA,ta (by omega),(I6 h).2];rfl
theorem Nj {b:Int}:eY (!(decide (b<0))) (b.natAbs:Int) = -b:=by
 unfold eY;by_cases h:b<0
 ·simp only[h,decide_true,Bool.not_true,Bool.false_eq_true,if_false];omega
 ·simp only[h,decide_false,Bool.not_false,if_true];omega
theorem afe {a b:Int}(bF:(a.natAbs:Int)<B 50)(aP:(b.natAbs:Int)<B 50):yq (ho a) (ho b)=some (ho (a-b)):=by have bL:yq (ho a) (ho b)=(((nj (!(decide (b<0))) (L b.natAbs)).bind fun r=>some r).bind fun r1=>(wW (ho a) r1).bind fun aS=>some aS):=rfl;rw[bL,ta (by omega),Nj,dA,dA,UO bF (by omega),dA,Int.sub_eq_add_neg]
theorem Fr.neg {q:Int×Int}(h:Fr q):Fr (-q.1,q.2):=⟨h.pos,by simp only;rw[Int.neg_gcd];exact h.XM,by simp only;have:=h.num;omega,h.den⟩
theorem aff {q:Int×Int}(h:Fr q):tU (mk q)=some (mk (-q.1,q.2)):=by have h1:=h.num;have h2:=h.q8;have U:=Nh;have bL:tU (mk q)=((jx (!(decide (q.1<0))) (L q.1.natAbs)).bind fun r1=>if (([]:ar)++L q.2).length*8<=140737488355328 then some (⟨r1,([]:ar)++L q.2⟩:ax) else none):=rfl;rw[bL,tc (by omega) (by omega),Nj,dA,dw (by simp;omega)];rfl
theorem IH {p q:Int×Int}(ah:Fr p)(a0:Fr q):((p.1*q.2).natAbs:Int)<B 48/\(L (p.1.natAbs*q.2:Int)).length<=48/\0<=(p.1.natAbs*q.2:Int):=by have aR:=a0.pos;have a8:=xe (x:=p.1.natAbs) (y:=q.2) (by omega) (by omega) ah.num a0.den;have Al:0<=(p.1.natAbs:Int)*q.2:=Int.mul_nonneg (by omega) (by omega);rw[Ni (by omega)];exact⟨(jc Al).1 a8,a8,Al⟩
theorem Nk:B 48+B 48<=B 50:=by have h1:B 49<=B 50:=th (by omega);have h2:=pI 48;rw[nZ] at h1;omega
theorem afg {p q:Int×Int}(ah:Fr p)(a0:Fr q):r5 (mk p) (mk q)=some (enc (low (p.1*q.2+q.1*p.2) (p.2*q.2))):=by
 have h1:=ah.rN;have h2:=ah.q8;have U:=a0.rN;have ai:=a0.q8;have aw:=ah.pos;have aR:=a0.pos;have W2:=ah.num;have qs:=a0.num;have amZ:=ah.den;have am0:=a0.den;have fX:=Nk;have ami:B 24<=B 48:=th (by omega);have amj:B 50<=B 60:=th (by omega);obtain⟨bc,cj,jm⟩:=IH ah a0;obtain⟨d1,d2,d3⟩:=IH a0 ah;have WV:=pI 48;have e1:jq (L p.1.natAbs) (L q.2)=some (L ((p.1.natAbs:Int)*q.2)):=by rw[mul_eq (h6 _) (h6 _) (by omega) (by omega),eF (by omega),eF (by omega)]
 have e2:jq (L q.1.natAbs) (L p.2)=some (L ((q.1.natAbs:Int)*p.2)):=by rw[mul_eq (h6 _) (h6 _) (by omega) (by omega),eF (by omega),eF (by omega)]
 have bI:jx (decide (p.1<0)) (L ((p.1.natAbs:Int)*q.2))=some (ho (p.1*q.2)):=by rw[tc jm (by rw[<- Ni (by omega)];omega),CK]
 have c1:jx (decide (q.1<0)) (L ((q.1.natAbs:Int)*p.2))=some (ho (q.1*p.2)):=by rw[tc d3 (by rw[<- Ni (by omega)];omega),CK]
 have di:s6 (ho (p.1*q.2)) (ho (q.1*p.2))=some (ho (p.1*q.2+q.1*p.2)):=Uj (by omega) (by omega);have bk:=xe (x:=p.2) (y:=q.2) (by omega) (by omega) ah.den a0.den;have eg:jq (L p.2) (L q.2)=some (L (p.2*q.2)):=by rw[mul_eq (h6 _) (h6 _) (by omega) (by omega),eF (by omega),eF (by omega)]
 have WO:(L (p.1*q.2+q.1*p.2).natAbs).length<=50:=(jc (by omega)).2 (by omega)
 have e5:qc (decide (p.1*q.2+q.1*p.2<0)) (L (p.1*q.2+q.1*p.2).natAbs) (L (p.2*q.2))=some (enc (low (p.1*q.2+q.1*p.2) (p.2*q.2))):=by
  rw[Mr (by omega) (Int.mul_pos aw aR) (by omega) (by omega)]
  have:eY (decide (p.1*q.2+q.1*p.2<0)) ((p.1*q.2+q.1*p.2).natAbs:Int)=p.1*q.2+q.1*p.2:=by
   have:=CK (a:=p.1*q.2+q.1*p.2) (b:=1)
   rwa [Int.mul_one,Int.mul_one] at this
  rw[this]
 have WW:((jq (L p.1.natAbs) (L q.2)).bind fun bq=>(jx (decide (p.1<0)) bq).bind fun bz=>(jq (L q.1.natAbs) (L p.2)).bind fun b1=>(jx (decide (q.1<0)) b1).bind fun cZ=>(s6 bz cZ).bind fun eu=>(jq (L p.2) (L q.2)).bind fun iB=>(qc eu.cR eu.cC iB).bind fun gL=>some gL)=some (enc (low (p.1*q.2+q.1*p.2) (p.2*q.2))):=by rw[e1,dA,bI,dA,e2,dA,c1,dA,di,dA,eg,dA];show (qc (decide (p.1*q.2+q.1*p.2<0)) (L (p.1*q.2+q.1*p.2).natAbs) (L (p.2*q.2))).bind _=_;rw[e5,dA]
 have bL:r5 (mk p) (mk q)=((tT (L p.2)).bind fun r1=>if r1=true then (tT (L q.2)).bind fun bd=>if bd=true then (s6 (ho p.1) (ho q.1)).bind fun bq=>(qc bq.cR bq.cC ([1]:ar)).bind fun bz=>some bz else ((jq (L p.1.natAbs) (L q.2)).bind fun bq=>(jx (decide (p.1<0)) bq).bind fun bz=>(jq (L q.1.natAbs) (L p.2)).bind fun b1=>(jx (decide (q.1<0)) b1).bind fun cZ=>(s6 bz cZ).bind fun eu=>(jq (L p.2) (L q.2)).bind fun iB=>(qc eu.cR eu.cC iB).bind fun gL=>some gL) else ((jq (L p.1.natAbs) (L q.2)).bind fun bq=>(jx (decide (p.1<0)) bq).bind fun bz=>(jq (L q.1.natAbs) (L p.2)).bind fun b1=>(jx (decide (q.1<0)) b1).bind fun cZ=>(s6 bz cZ).bind fun eu=>(jq (L p.2) (L q.2)).bind fun iB=>(qc eu.cR eu.cC iB).bind fun gL=>some gL)):=rfl;rw[bL,FJ (by omega),dA];by_cases b4:p.2=1
 ·rw[dw (by simpa using b4),FJ (by omega),dA]
  by_cases aU:q.2=1
  ·rw[dw (by simpa using aU),Uj (by omega) (by omega),dA];have gN:p.1*q.2+q.1*p.2=p.1+q.1:=(by rw[b4,aU,Int.mul_one,Int.mul_one]);have Ys:p.2*q.2=1:=(by rw[b4,aU];rfl);rw[gN,Ys,Nx] at e5;rw[gN,Ys];show (qc (decide (p.1+q.1<0)) (L (p.1+q.1).natAbs) [1]).bind _=_;rw[e5,dA]
  ·rw[dy (by simpa using aU)];exact WW
 ·rw[dy (by simpa using b4)];exact WW
theorem Tj {k N:Int}(h0:0<=k)(fw:N<=20000)(h:k*k<=N):k<=141:=by
 rcases Int.lt_or_le 141 k with h1|h1
 ·have:=uk (j:=142) (k:=k) (by omega) (by omega);omega
 ·exact h1
theorem afh (N:Int)(fw:N<=20000): ∃r,R5 N 1=some r/\(match r with | .inl _=> ∀k,1<=k->k*k≠N | .inr k=>1<=k/\k*k=N):=by
 exact ks (f:=fun w=>D2 N w) (fun k=>1<=k/\k<=142/\ ∀j,1<=j->j<k->j*j<N) (fun k=>(142-k).toNat)
  (fun r=>match r with | .inl _=> ∀k,1<=k->k*k≠N | .inr k=>1<=k/\k*k=N) (fun k a1=>by
  obtain⟨h1,h2,U⟩:=a1;have Oi:k*k<=142*142:=uk (by omega) h2;have vi:0<=k*k:=Int.mul_nonneg (by omega) (by omega);have hw:J (k*k)=k*k:=cu (by omega) (by omega);have wI:J (k+1)=k+1:=cu (by omega) (by omega);unfold D2;rw[hw,wI];by_cases a:k*k<=N
  ·have:=Tj (by omega) fw a
   by_cases b:k*k=N
   ·exact .inr ⟨.inr k,by simp[b],h1,b⟩
   ·refine .inl ⟨k+1,by simp[a,b],⟨by omega,by omega,fun j sT p3=> ?_⟩,by omega⟩
    rcases Int.lt_or_le j k with c|c
    ·exact U j sT c
    ·have:j=k:=(by omega);subst this;omega
  ·refine .inr ⟨.inl (),by simp[a],fun j sT=> ?_⟩
   rcases Int.lt_or_le j k with c|c
   ·have:=U j sT c;omega
   ·have:=uk (j:=k) (k:=j) (by omega) c;omega) 1 ⟨by omega,by omega,fun j sT p3=>by omega⟩
theorem afi (x y:Int)(aa:-100<=x/\x<=100)(aW:-100<=y/\y<=100): ∃n,P0 x y 0=some n/\(0<=n/\n<=142/\x*x+y*y<=n*n/\ ∀j,0<=j->j<n->j*j<x*x+y*y):=by
 have ak5:x*x<=10000/\0<=x*x:=by
  rcases Int.le_total 0 x with h|h
  ·have:=uk h aa.2;exact⟨by omega,Int.mul_nonneg h h⟩
  ·have:=uk (j:= -x) (k:=100) (by omega) (by omega);rw[Int.neg_mul_neg] at this;exact⟨by omega,Int.mul_nonneg_of_nonpos_of_nonpos h h⟩
 have ak6:y*y<=10000/\0<=y*y:=by
  rcases Int.le_total 0 y with h|h
  ·have:=uk h aW.2;exact⟨by omega,Int.mul_nonneg h h⟩
  ·have:=uk (j:= -y) (k:=100) (by omega) (by omega);rw[Int.neg_mul_neg] at this;exact⟨by omega,Int.mul_nonneg_of_nonpos_of_nonpos h h⟩
 have e1:J (x*x)=x*x:=cu (by omega) (by omega);have e2:J (y*y)=y*y:=cu (by omega) (by omega);have bI:J (x*x+y*y)=x*x+y*y:=cu (by omega) (by omega)
 exact ks (f:=fun w=>DR x y w) (fun n=>0<=n/\n<=142/\ ∀j,0<=j->j<n->j*j<x*x+y*y) (fun n=>(142-n).toNat)
  (fun n=>0<=n/\n<=142/\x*x+y*y<=n*n/\ ∀j,0<=j->j<n->j*j<x*x+y*y) (fun n aY=>by
  obtain⟨h1,h2,U⟩:=aY;have akm:n*n<=142*142:=uk h1 h2;have Gx:0<=n*n:=Int.mul_nonneg h1 h1;have hw:J (n*n)=n*n:=cu (by omega) (by omega);have wI:J (n+1)=n+1:=cu (by omega) (by omega);unfold DR;rw[e1,e2,bI,hw,wI];by_cases a:n*n<x*x+y*y
  ·have:=Tj (N:=20000) h1 (by omega) (by omega)
   refine .inl ⟨n+1,by simp[a],⟨by omega,by omega,fun j sT p3=> ?_⟩,by omega⟩;rcases Int.lt_or_le j n with c|c
   ·exact U j sT c
   ·have:j=n:=(by omega);subst this;omega
  ·exact .inr ⟨n,by simp[a],h1,h2,by omega,U⟩) 0 ⟨by omega,by omega,fun j sT p3=>by omega⟩
theorem Ms (s:cL)(i0:oq s)(p1:oJ s=some true)(k:Int)(h0:0<=k)(h1:k<s.bA.length): ∃l,px s k=some l/\p8 s k=some l/\0<=l/\l<=142:=by
 obtain⟨-,-,-,am1⟩:=Ei s i0 p1;have hw:J ((s.bA.length:Nat)-1)=(s.bA.length:Nat)-1:=cu (by omega) (by omega);obtain⟨x,y,v1,v2,aa,aW⟩:=afa s i0 p1 k h0 h1;have ak5:=UM aa;have ak6:=UM aW;have e1:J (x*x)=x*x:=cu (by omega) (by omega);have e2:J (y*y)=y*y:=cu (by omega) (by omega);have bI:J (x*x+y*y)=x*x+y*y:=cu (by omega) (by omega);obtain⟨r,r1,r2⟩:=afh (x*x+y*y) (by omega);obtain⟨n,n1,n2,O1,Yf,Yt⟩:=afi x y aa aW;have akm:n*n<=142*142:=uk n2 O1;have Gx:0<=n*n:=Int.mul_nonneg n2 n2;have c1:J (n*n)=n*n:=cu (by omega) (by omega);have jm:0<=k/\k<=(s.bA.length:Int)-1:=by omega
 refine⟨if n*n=x*x+y*y then n else 0,?_,?_,by split<;>omega,by split<;>omega⟩
 ·unfold px HU HT
  simp only[p1,uZ,dC,dA,fc,hw];simp only[decide_eq_true jm,if_true,v2,dA,e1,e2,bI,H2,r1];by_cases e:n*n=x*x+y*y
  ·rw[dw e]
   cases r with
   | inl a =>
    rcases Int.lt_or_le 0 n with q|q
    ·exact absurd e (r2 n (by omega))
    ·have:n=0:=(by omega);subst this;rfl
   | inr a =>
    obtain⟨fP,fH⟩:=r2
    have:a=n:=by
     rcases Int.lt_trichotomy a n with q|q|q
     ·have:=Yt a (by omega) q;omega
     ·exact q
     ·have:=Ww (j:=n) (k:=a) n2 q;omega
    subst this;rfl
  ·rw[dy e]
   cases r with
   | inl a=>rfl
   | inr a =>
    exfalso;obtain⟨fP,fH⟩:=r2;rcases Int.lt_trichotomy a n with q|q|q
    ·have:=Yt a (by omega) q;omega
    ·subst q;exact e fH
    ·have:=Ww (j:=n) (k:=a) n2 q;omega
 ·simp only[dC,dA,p8,v1,n1,e1,e2,bI,c1]
  by_cases e:n*n=x*x+y*y
  ·rw[dw e];simp[n1,e1,e2,bI,e]
  ·rw[dy e];simp[n1,e1,e2,bI,c1,e]
theorem Cu (s:cL)(i0:oq s)(h:oJ s=some true)(ad:uO s=some true)(k:Int)(ann:mP k)(num:Int)(aY:1<=num/\num<=100):
 (vz s k=some false/\yB s k num=some false) \/
 ∃m l,vz s k=some true/\(0<=k/\k<s.bA.length)/\s.bA[k.toNat]? = some m/\p8 s k=some l/\0<=l/\l<=142 /\
  yB s k num=some (decide (0<l) && decide (l*num<=100)):=by
 have hm:=tX;obtain⟨-,jw,-⟩:=id i0;have hw:J ((s.bA.length:Nat)-1)=(s.bA.length:Nat)-1:=cu (by omega) (by omega);unfold vz yB;simp only[uZ,fc,hw,dC,dA];by_cases c:0<=k/\k<s.bA.length
 ·have eC:0<=k/\k<=(s.bA.length:Int)-1:=by omega
  obtain⟨m,z5⟩ : ∃x,s.bA[k.toNat]? = some x:=⟨_,dz (by omega)⟩;by_cases a1:m.jd=1
  ·right
   obtain⟨r,r1,lv,lh,x4⟩:=Ms s i0 h k c.1 c.2;have ah:r*num<=142*100:=Int.mul_le_mul x4 aY.2 (by omega) (by omega);have z0:0<=r*num:=Int.mul_nonneg lh (by omega);have G8:J (r*num)=r*num:=cu (by omega) (by omega);refine⟨m,r,?_,c,z5,lv,lh,x4,?_⟩
   ·simp only[decide_eq_true c.1,decide_eq_true c.2,if_true,dw c,z5,dA,a1];rfl
   ·simp only[decide_eq_true eC,if_true,dw c,z5,dA,a1,r1,G8];by_cases a:0<r<;>simp[a]
  ·left
   have e1:(m.jd == 1)=false:=(by simpa using a1);have e2:(m.jd != 1)=true:=(by simpa using a1);constructor
   ·simp only[decide_eq_true c.1,decide_eq_true c.2,if_true,dw c,z5,dA,e1]
   ·simp only[decide_eq_true eC,if_true,dw c,z5,dA,e2]
 ·left
  have eC : ¬(0<=k/\k<=(s.bA.length:Int)-1):=(by omega);refine⟨?_,by simp[eC]⟩;by_cases bc:0<=k
  ·have : ¬k<s.bA.length:=fun h=>c ⟨bc,h⟩;simp[bc,this]
  ·simp[bc]
theorem adn (s:cL)(i0:oq s)(b:cV)(DL:u0 b): ∃p,tS s b=some p/\Cg s b=some p:=by
 obtain⟨p,p1,p2⟩:=B4 s i0;obtain⟨sT,p3,O8,Ab⟩:=DL;unfold tS Cg;simp only[p1,p2,dC,dA]
 cases p with
 | false=>exact⟨false,rfl,rfl⟩
 | true =>
  by_cases bc:b.bR=b.bS
  ·exact⟨false,by simp[bc],by simp[bc]⟩
  by_cases cj:b.ez<1\/b.cK<b.ez\/100<b.cK
  ·refine⟨false,?_,?_⟩
   ·by_cases a:b.ez<1<;>by_cases eh:b.cK<b.ez<;>by_cases z6:100<b.cK<;>simp[bc,a,eh,z6]<;>omega
   ·have e : ∀k,∃q,vz s k=some q:=by
     intro k;unfold vz;simp only[fc];by_cases d1:0<=k
     ·by_cases d2:k<s.bA.length
      ·obtain⟨m,z5⟩ : ∃x,s.bA[k.toNat]? = some x:=⟨_,dz (by omega)⟩;exact⟨_,by simp[d1,d2,z5];rfl⟩
      ·exact⟨_,by simp[d1,d2];rfl⟩
     ·exact⟨_,by simp[d1];rfl⟩
    obtain⟨DM,bF⟩:=e b.bR;obtain⟨Ks,aP⟩:=e b.bS;simp only[bF,aP,dA];by_cases a:b.ez<1<;>by_cases eh:b.cK<b.ez<;>by_cases z6:100<b.cK<;>cases DM<;>cases Ks<;>simp[bc,a,eh,z6]<;>omega
  have d1 : ¬b.ez<1:=(by omega);have d2 : ¬b.cK<b.ez:=(by omega);have d3 : ¬100<b.cK:=(by omega);rcases Cu s i0 p1 p2 b.bR sT b.cK (by omega) with ⟨fP,fH⟩|⟨mw,ll,fP,fH,bC,fx,kj,rq,kR⟩
  ·exact⟨false,by simp[bc,d1,d2,d3,fH],by simp[bc,fP]⟩
  rcases Cu s i0 p1 p2 b.bS p3 b.cK (by omega) with ⟨e1,e2⟩|⟨jJ,lR,e1,e2,bI,c1,di,eg,e5⟩
  ·refine⟨false,?_,by simp[bc,fP,e1]⟩;simp only[kR,e2,dA];by_cases q:(decide (0<ll) && decide (ll*b.cK<=100))=true<;>simp[bc,d1,d2,d3,q]
  obtain⟨f1,f2,-⟩:=Ei s i0 p1;have g1:=f2 _ mw bC;have g2:=f2 _ jJ bI;unfold rA at g1 g2;simp only[dM,decide_eq_true_eq] at g1 g2;obtain⟨⟨g11,g12,g13,g14,-⟩,-⟩:=g1;obtain⟨⟨g21,g22,g23,g24,-⟩,-⟩:=g2;have ah:ll*b.cK<=142*100:=Int.mul_le_mul rq (by omega) (by omega) (by omega);have z0:0<=ll*b.cK:=Int.mul_nonneg kj (by omega);have a0:lR*b.cK<=142*100:=Int.mul_le_mul eg (by omega) (by omega) (by omega);have nv:0<=lR*b.cK:=Int.mul_nonneg di (by omega);have iC:J (ll*b.cK)=ll*b.cK:=cu (by omega) (by omega);have nT:J (lR*b.cK)=lR*b.cK:=cu (by omega) (by omega);simp only[kR,e5,fP,e1,bC,bI,fx,c1,iC,nT,dw fH,dw e2,dA,Eg];have xX : ¬jJ.bS<0:=(by omega);have Yu : ¬jJ.bR<0:=(by omega);have e1:(b.bR == b.bS)=false:=(by simpa using bc);simp only[e1,decide_eq_false d1,decide_eq_false d2,decide_eq_false d3,Bool.false_eq_true,if_false,if_true];generalize akn:decide (0<ll)=lz;generalize ako:decide (ll*b.cK<=100)=uK;generalize akp:decide (0<lR)=x5;generalize akq:decide (lR*b.cK<=100)=Hq
  have f1:(if (mw.bR == jJ.bR)=true then some jJ.bS else if (mw.bR == jJ.bS)=true then some jJ.bR else some (-1:Int))=some (if mw.bR=jJ.bR then jJ.bS else if mw.bR=jJ.bS then jJ.bR else -1):=by
   simp only[beq_iff_eq];split
   ·rfl
   ·split<;>rfl
  have f2:(if (mw.bS == jJ.bR)=true then some jJ.bS else if (mw.bS == jJ.bS)=true then some jJ.bR else some (-1:Int))=some (if mw.bS=jJ.bR then jJ.bS else if mw.bS=jJ.bS then jJ.bR else -1):=by
   simp only[beq_iff_eq];split
   ·rfl
   ·split<;>rfl
  rw[f1,f2];simp only[dA]
  have s1:decide ((if mw.bR=jJ.bR then jJ.bS else if mw.bR=jJ.bS then jJ.bR else (-1:Int))<0) = !(mw.bR == jJ.bR || mw.bR == jJ.bS):=by
   by_cases e3:mw.bR=jJ.bR
   ·rw[dw e3,decide_eq_false xX,e3];simp
   ·by_cases ec:mw.bR=jJ.bS
    ·rw[dy e3,dw ec,decide_eq_false Yu,ec];simp
    ·rw[dy e3,dy ec];simp[e3,ec]
  have s2:decide ((if mw.bS=jJ.bR then jJ.bS else if mw.bS=jJ.bS then jJ.bR else (-1:Int))<0) = !(mw.bS == jJ.bR || mw.bS == jJ.bS):=by
   by_cases e3:mw.bS=jJ.bR
   ·rw[dw e3,decide_eq_false xX,e3];simp
   ·by_cases ec:mw.bS=jJ.bS
    ·rw[dy e3,dw ec,decide_eq_false Yu,ec];simp
    ·rw[dy e3,dy ec];simp[e3,ec]
  rw[s1,s2];generalize (mw.bR == jJ.bR)=e3;generalize (mw.bR == jJ.bS)=ec;generalize (mw.bS == jJ.bR)=jn;generalize (mw.bS == jJ.bS)=iJ;clear akn ako akp akq s1 s2 f1 f2;revert lz uK x5 Hq e3 ec jn iJ;refine fun lz uK x5 Hq e3 ec jn iJ=>⟨(lz && uK && (x5 && Hq)) && (e3 || ec || jn || iJ),?_,?_⟩
  ·revert lz uK x5 Hq e3 ec jn iJ;decide
  ·revert lz uK x5 Hq e3 ec jn iJ;decide
theorem acY (s:cL)(i0:oq s)(b:cV)(DL:u0 b)(h:tS s b=some true):(0<=b.bR/\b.bR<s.bA.length)/\(0<=b.bS/\b.bS<s.bA.length):=by
 obtain⟨p,p1,p2⟩:=B4 s i0;obtain⟨sT,p3,O8,Ab⟩:=DL;unfold tS at h;simp only[p1,dC,dA] at h
 cases p with
 | false=>simp at h
 | true =>
  by_cases bc:b.bR=b.bS
  ·simp[bc] at h
  by_cases cj:b.ez<1\/b.cK<b.ez\/100<b.cK
  ·by_cases a:b.ez<1<;>by_cases eh:b.cK<b.ez<;>by_cases z6:100<b.cK<;>simp[bc,a,eh,z6] at h<;>omega
  have d1 : ¬b.ez<1:=(by omega);have d2 : ¬b.cK<b.ez:=(by omega);have d3 : ¬100<b.cK:=(by omega);rcases Cu s i0 p1 p2 b.bR sT b.cK (by omega) with ⟨fP,fH⟩|⟨mw,ll,fP,fH,bC,fx,kj,rq,kR⟩
  ·simp[bc,d1,d2,d3,fH] at h
  rcases Cu s i0 p1 p2 b.bS p3 b.cK (by omega) with ⟨e1,e2⟩|⟨jJ,lR,e1,e2,bI,c1,di,eg,e5⟩
  ·simp only[kR,e2,dA] at h;by_cases q:(decide (0<ll) && decide (ll*b.cK<=100))=true<;>simp[bc,d1,d2,d3,q] at h
  exact⟨fH,e2⟩
def tj (n:Int):Bool:=decide (-100<=n/\n<=100)
def wg (Ar:Nat)(l:ar):Bool:=decide (l.length=2*Ar) && l.all tj
theorem aen (n:Int):EV n=some (tj n):=by unfold EV tj;by_cases h : -100<=n<;>simp[h]
theorem afj (s:cL)(p:Bool)(ah:oJ s=some p)(uL:p=true->s.cc.length<=6)(l:ar)(aZ:l.length<=maxLen):vI s l=some (p && wg s.cc.length l):=by
 have hm:=tX;unfold vI;simp only[ah,dC,dA,fc]
 cases p with
 | false=>rfl
 | true =>
  have uL:=uL rfl;have hw:J (2*((s.cc.length:Nat):Int))=2*((s.cc.length:Nat):Int):=cu (by omega) (by omega);rw[hw];unfold wg;by_cases e:l.length=2*s.cc.length
  ·have h1:Sn l (l.length:Nat) 0=some (if l.all tj then .inl () else .inr ()):=by
    refine Fm (f:=fun w=>BL l (l.length:Nat) w) l tj (fun n x aa=> ?_) ?_
    ·have et:=gH aa
     unfold BL;have c:(n:Int)<(l.length:Int):=(by omega);have eC:0<=(n:Int)/\(n:Int)<(l.length:Int):=(by omega);simp only[decide_eq_true c,if_true,dw eC,dx,aa,dC,dA,uZ];rw[i1 (by omega)];unfold tj;by_cases q : -100<=x/\x<=100
     ·simp[q]
     ·rw[decide_eq_false q];simp
    ·simp[BL]
   have c:((l.length:Int) != 2*(s.cc.length:Int))=false:=(by simp;omega);simp only[c,h1,Bool.false_eq_true,if_false,if_true,dA];cases l.all tj<;>simp[e]
  ·have c:((l.length:Int) != 2*(s.cc.length:Int))=true:=(by simp;omega);simp only[c,if_true];simp[e]
theorem adM (s:cL)(uL:s.cc.length<=6)(l:ar)(aZ:l.length<=maxLen):EL s l=some (wg s.cc.length l):=by
 have hm:=tX;have hw:J (2*((s.cc.length:Nat):Int))=2*((s.cc.length:Nat):Int):=cu (by omega) (by omega);unfold EL HB HD wg;simp only[fc,hw,dC];obtain⟨r,h1,h2⟩:=aeN (f:=fun w=>Az l (l.length:Nat) w) l (fun n=> !tj n) (fun n x aa=>by have et:=gH aa;unfold Az HN;have c:(n:Int)<(l.length:Int):=(by omega);have eC:0<=(n:Int)/\(n:Int)<(l.length:Int):=(by omega);simp only[decide_eq_true c,if_true,dw eC,dx,aa,dC,dA,aen];rw[i1 (by omega)];cases tj x<;>rfl) (by simp[Az]);have tx:Pw l (l.length:Nat) 0=some r:=h1;rw[tx];have ai8:(l.any fun n=> !tj n) = !l.all tj:=by rw[List.not_all_eq_any_not]
 rw[ai8] at h2;by_cases e:l.length=2*s.cc.length
 ·have c:((l.length:Int) == 2*(s.cc.length:Int))=true:=by simp;omega
  rw[c];rcases h2 with ⟨k,rfl,a1,bF⟩|⟨rfl,bF⟩
  ·simp only[Bool.not_eq_true'] at bF;simp[e,bF,a1]
  ·simp only[Bool.not_eq_false'] at bF;simp[e,bF]
 ·have c:((l.length:Int) == 2*(s.cc.length:Int))=false:=(by simp;omega);rw[c];simp[e]
theorem nT {i:Int}{a:Nat}(h0:0<=i)(h1:i<=100)(bF:a<=1):J (J (2*i)+(a:Int))=(((2*i+a).toNat:Nat):Int):=by rw[cu (x:=2*i) (by omega) (by omega),cu (by omega) (by omega)];omega
theorem adN (l:ar)(h:l.length<=1048576):EB l=some l:=by
 have aP : ∀(n:Nat) x (row:ar),l[n]? = some x->row.length=l.length->ye l n row=some (.inl (((n+1:Nat):Int),row.set n x)):=by intro n x row aa aj;obtain⟨aY,rfl⟩:=List.getElem?_eq_some_iff.1 aa;have hw:J ((n:Int)+1)=((n+1:Nat):Int):=(by rw[cu (by omega) (by omega)];rfl);simp only[ye,fc,hw];simp[aY,aj]
 have he : ∀row:ar,ye l l.length row=some (.inr row):=by intro row;simp[ye,fc]
 have h1:RI l 0 (List.replicate (len_ eI l).toNat 0)=some l :=
  Is l (List.replicate (len_ eI l).toNat 0) (by simp[fc]) aP he
 unfold EB;rw[h1,dw (by rw[fc];omega)];simp[fc]
theorem acZ (l:anv)(h:l.length<=1048576):Em l=some l:=by
 have aP : ∀(n:Nat) x (row:anv),l[n]? = some x->row.length=l.length->yc l n row=some (.inl (((n+1:Nat):Int),row.set n x)):=by intro n x row aa aj;obtain⟨aY,rfl⟩:=List.getElem?_eq_some_iff.1 aa;have hw:J ((n:Int)+1)=((n+1:Nat):Int):=(by rw[cu (by omega) (by omega)];rfl);simp only[yc,fc,hw,H0];simp[aY,aj]
 have he : ∀row:anv,yc l l.length row=some (.inr row):=by intro row;simp[yc,fc]
 have h1:QY l 0 (List.replicate (len_ cm l).toNat (⟨ByteArray.empty,0,0,false⟩:dr))=some l :=
  Is l _ (by simp[fc]) aP he
 unfold Em;rw[h1,dw (by rw[fc];omega)];simp[fc]
theorem acM (l:anw)(h:l.length<=1048576):Ej l=some l:=by
 have aP : ∀(n:Nat) x (row:anw),l[n]? = some x->row.length=l.length->x9 l n row=some (.inl (((n+1:Nat):Int),row.set n x)):=by intro n x row aa aj;obtain⟨aY,rfl⟩:=List.getElem?_eq_some_iff.1 aa;have hw:J ((n:Int)+1)=((n+1:Nat):Int):=(by rw[cu (by omega) (by omega)];rfl);simp only[x9,fc,hw,HS];simp[aY,aj]
 have he : ∀row:anw,x9 l l.length row=some (.inr row):=by intro row;simp[x9,fc]
 have h1:QS l 0 (List.replicate (len_ ck l).toNat (⟨0,0,0⟩:d5))=some l :=
  Is l _ (by simp[fc]) aP he
 unfold Ej;rw[h1,dw (by rw[fc];omega)];simp[fc]
theorem abY (s:cL)(h1:s.cc.length<=1048576)(h2:s.bA.length<=1048576):Ec s=some (s.cc,s.bA):=by simp[Ec,acZ _ h1,acM _ h2]
def ON (P:anC):bU->Prop
 | none=>True
 | some (k,c)=> ∃x,P[k]? = some x/\x.length=c/\c<=1048576
theorem ON.set {P:anC}{k:Nat}{x y:ar}(aa:P[k]? = some x)(aW:y.length=x.length){h:bU}(hc:ON P h):ON (P.set k y) h:=by
 cases h with
 | none=>trivial
 | some p =>
  obtain⟨j,c⟩:=p;obtain⟨z,h1,h2,U⟩:=hc;by_cases av:k=j
  ·subst av;rw[aa] at h1;obtain rfl:=dI h1;exact⟨y,by rw[List.getElem?_set,dw rfl,dw (gH aa)],by omega,U⟩
  ·exact⟨z,by rw[List.getElem?_set,dy av];exact h1,h2,U⟩
def mB:anv->Nat->List Nat
 | [],_=>[]
 | x::l,n=>if x.m1 then mB l (n+1) else n::mB l (n+1)
theorem ML : ∀(l:anv) (n i:Nat),i∈mB l n->n<=i/\i<n+l.length
 | [],n,i,h=>by simp[mB] at h
 | x::l,n,i,h=>by
  rw[mB] at h;simp only[List.length_cons];split at h
  ·have:=ML l (n+1) i h;omega
  ·rcases List.mem_cons.1 h with h|h
   ·omega
   ·have:=ML l (n+1) i h;omega
theorem UP : ∀(l:anv) (n:Nat),(mB l n).length<=l.length
 | [],n=>by simp[mB]
 | x::l,n=>by rw[mB];have:=UP l (n+1);split<;>simp only[List.length_cons]<;>omega
theorem aeo {l:anv}{n:Nat}{x:dr}(h:l[n]? = some x)(m:Nat):mB (l.drop n) m=if x.m1 then mB (l.drop (n+1)) (m+1) else m::mB (l.drop (n+1)) (m+1):=by rw[UE h,mB]
theorem Uk {f:Int×ar->Option ((Int×ar)⊕ar)}(ij:anv)(uL:ij.length<=1000)
 (h : ∀(n:Nat) acc x,ij[n]? = some x->f ((n:Int),acc)=if x.m1=true then some (.inl (J ((n:Int)+1),acc)) else if (acc++[(n:Int)]).length*8<=140737488355328 then some (.inl (J ((n:Int)+1),acc++[(n:Int)])) else none)
 (he : ∀acc,f ((ij.length:Int),acc)=some (.inr acc)):iter f ((0:Int),[])=some ((mB ij 0).map (fun n:Nat=>(n:Int))):=by
 obtain⟨s,h1,h2⟩:=hF (fun (n:Nat) (acc:ar)=>((n:Int),acc)) ij.length (fun n acc=>acc++(mB (ij.drop n) n).map (fun n:Nat=>(n:Int))=(mB ij 0).map (fun n:Nat=>(n:Int))/\acc.length<=n) (fun acc=>acc) (f:=f) (fun n aY acc c7=>by
  obtain⟨c7,aZ⟩:=c7;have aa:=dz aY;rw[aeo aa] at c7;rw[h n acc _ aa,pN (by omega)];by_cases c:ij[n].m1=true
  ·rw[dw c] at c7 ⊢;exact⟨_,rfl,c7,by omega⟩
  ·rw[dy c] at c7 ⊢;rw[dw (by simp only[dE,List.length_cons,List.length_nil];omega)];refine⟨_,rfl,?_,by simp only[dE,List.length_cons,List.length_nil];omega⟩;rw[List.append_assoc];exact c7) (fun acc _=>he acc) [] ⟨by rw[List.drop_zero];rfl,by simp⟩
 obtain⟨h2,-⟩:=h2;rw[List.drop_length] at h2;simp only[mB,List.map_nil,List.append_nil] at h2;subst h2;exact h1
theorem Mi (s:cL)(uL:s.cc.length<=1000):yC s=some ((mB s.cc 0).map (fun n:Nat=>(n:Int))):=by
 unfold yC R7
 rw[fc,Uk s.cc uL (fun n acc x aa=>by
  have aY:=gH aa;unfold D3;exact dv (by omega) (bm (by omega) (aG (gt rfl aa) rfl))) (fun acc=>by
  unfold D3;exact d8 (by omega) rfl)]
 rfl
theorem SU (s:cL)(uL:s.cc.length<=1000):AS s=some ((mB s.cc 0).map (fun n:Nat=>(n:Int))):=by
 unfold AS Py
 rw[fc,Uk s.cc uL (fun n acc x aa=>by
  have aY:=gH aa;unfold DP;exact dv (by omega) (bm (by omega) (aG (gt rfl aa) rfl))) (fun acc=>by
  unfold DP;exact d8 (by omega) rfl)]
 rfl
def hlen:bU->Nat
 | none=>0
 | some (_,c)=>c
def eV (x:Rat):Int×Int:=(x.num,(x.den:Int))
def eH (x:Rat):Prop:=(x.num.natAbs:Int)<B 24/\(x.den:Int)<B 24
def ca (x:Rat):ax:=mk (eV x)
instance alV (x:Rat):Decidable (eH x):=by unfold eH;infer_instance
theorem eH.dq {x:Rat}(h:eH x):Fr (eV x):=⟨by have:=x.den_pos;simp only[eV];omega,by simp only[eV];rw[Int.gcd,Int.natAbs_natCast];exact x.reduced,h.1,h.2⟩
theorem ag0 {n d:Int}(bH:0<d):low n d=if eH (Rat.divInt n d) then some (eV (Rat.divInt n d)) else none:=by
 have e1:(Rat.divInt n d).num=n / (Int.gcd n d:Int):=by rw[Rat.num_divInt,Int.sign_eq_one_of_pos bH,Int.one_mul,Int.gcd_comm]
 have e2:((Rat.divInt n d).den:Int)=d / (Int.gcd n d:Int):=by rw[Rat.den_divInt,dy (by omega),Int.gcd_comm];rw[Int.natCast_ediv,Int.natAbs_of_nonneg (by omega)]
 have bI:eH (Rat.divInt n d)↔fits ((n / (Int.gcd n d:Int)).natAbs:Int)/\fits (d / (Int.gcd n d:Int)):=by unfold eH fits;rw[e1,e2]
 unfold low;by_cases c:eH (Rat.divInt n d)
 ·rw[dw c,dw (bI.1 c)];unfold eV;rw[e1,e2]
 ·rw[dy c,dy (fun x=>c (bI.2 x))]
theorem MM {n d:Int}{x:Rat}(bH:0<d)(e:(d:Rat)*x=n)(h:eH x):low n d=some (eV x):=by
 have sv:(d:Rat)≠0:=fun c=>by have:d=0:=Rat.intCast_inj.1 (by rw[c];rfl);omega
 have:x=Rat.divInt n d:=by rw[Rat.divInt_eq_div,<- e];grind
 rw[ag0 bH,<- this,dw h]
theorem u1 (x:Rat):((x.den:Int):Rat)*x=((x.num:Int):Rat):=by
 have h:x=(x.num:Rat) / ((x.den:Int):Rat):=by rw[<- Rat.divInt_eq_div,Rat.num_divInt_den]
 have bH:((x.den:Int):Rat)≠0:=fun c=>by have:(x.den:Int)=0:=Rat.intCast_inj.1 (by rw[c];rfl);have:=x.den_pos;omega
 conv=>lhs;rhs;rw[h]
 grind
theorem V6 {x y:Rat}(aa:eH x)(aW:eH y)(h:eH (x*y)):vK (ca x) (ca y)=some (ca (x*y)):=by unfold ca;rw[ae5 aa.dq aW.dq,MM (x:=x*y) (Int.mul_pos aa.dq.pos aW.dq.pos) ?_ h];rfl;have h1:=u1 x;have h2:=u1 y;simp only[eV,dN];grind
theorem FK {x y:Rat}(aa:eH x)(aW:eH y)(h:eH (x+y)):r5 (ca x) (ca y)=some (ca (x+y)):=by unfold ca;rw[afg aa.dq aW.dq,MM (x:=x+y) (Int.mul_pos aa.dq.pos aW.dq.pos) ?_ h];rfl;have h1:=u1 x;have h2:=u1 y;simp only[eV,dN,Rat.intCast_add];grind
theorem eH.neg {x:Rat}(h:eH x):eH (-x):=by unfold eH at h ⊢;rw[Rat.neg_num,Rat.neg_den,Int.natAbs_neg];exact h
theorem Jl {x:Rat}(aa:eH x):tU (ca x)=some (ca (-x)):=by unfold ca;rw[aff aa.dq];simp only[eV,Rat.neg_num,Rat.neg_den]
theorem agj {p:Int×Int}(h:Fr p):r6 (mk p)=some true:=by
 have Kg:(L p.1.natAbs).length<=24:=(jc (by omega)).2 h.num;have GS:(L p.2).length<=24:=(jc (by have:=h.pos;omega)).2 h.den;have ah:=h.pos;obtain⟨b4,fP,fH⟩:=Mh (a:=L p.1.natAbs) (by omega);obtain⟨aU,jw,kO⟩:=Mh (a:=L p.2) (by omega);have h1:b4=true:=fH.2 ⟨jr _,by omega⟩;have h2:aU=true:=kO.2 ⟨jr _,by omega⟩;subst h1;subst h2;have bH:(L p.2)≠[]:=fun c=>by have:=wb.1 c;omega
 have am2:=List.length_pos_iff.mpr bH
 have e1:EI (mk p).cK=some true:=by
  unfold EI;show (vM (L p.1.natAbs)).bind _=_;rw[fP];simp only[dA,if_true,gZ];show (if decide (p.1<0)=true then some (decide ((0:Int)<(L p.1.natAbs).length)) else some true)=_;by_cases c:p.1<0
  ·rw[dw (by simpa using c)];have:L p.1.natAbs≠[]:=fun c=>(by have:=wb.1 c;omega);have:=List.length_pos_iff.mpr this;rw[decide_eq_true (by omega)]
  ·rw[dy (by simpa using c)]
 unfold r6;rw[e1];simp only[dC,dA,if_true,gZ];show (vM (L p.2)).bind _=_;rw[jw];simp only[dA,if_true];rw[show (mk p).ez=L p.2 from rfl,show (mk p).cK.cC=L p.1.natAbs from rfl];rw[dy (by simp[bH]),dy (by simp;omega),dy (by simp;omega)];rw[V1 (jr _) (jr _) (by omega) (by omega),eF (by omega),eF (by omega),MX (by omega),h.XM];simp only[dA];rw[FJ (by omega)];rfl
theorem xu {x:Rat}(aa:eH x):r6 (ca x)=some true:=agj aa.dq
def jQ (x:Rat):Int:=if x=0 then 0 else if x<0 then -1 else 1
theorem qf {x:Rat}(aa:eH x):qa (ca x)=some (jQ x):=by
 unfold qa;rw[xu aa];simp only[dC,dA,if_true,gZ];show (if (((L (eV x).1.natAbs).length:Int) == 0)=true then some 0 else if decide ((eV x).1<0)=true then some (-1) else some 1)=_;have e:((L (eV x).1.natAbs).length:Int)=0↔x.num=0:=by rw[JI (by omega)];simp only[eV];omega
 unfold jQ;by_cases h0:x=0
 ·rw[dw h0,dw];rw[beq_iff_eq,e,Rat.num_eq_zero];exact h0
 ·rw[dy h0,dy (by rw[beq_iff_eq,e,Rat.num_eq_zero];exact h0)]
  by_cases h1:x<0
  ·have h2 : ¬0<=x:=(by grind);have U : ¬0<=x.num:=fun c=>h2 (Rat.num_nonneg.1 c);rw[dw h1,dw (decide_eq_true (show (eV x).1<0 by simp only[eV];omega))]
  ·have h2:0<=x:=(by grind);have U:0<=x.num:=Rat.num_nonneg.2 h2;rw[dy h1,dy (fun c=>by have:=of_decide_eq_true c;simp only[eV] at this;omega)]
theorem ahI {x y:Rat}(aa:eH x)(aW:eH y):yH (ca x) (ca y)=some (if x<y then -1 else if y<x then 1 else 0):=by unfold ca;rw[ae7 aa.dq aW.dq];unfold mg;simp only[eV,<- Rat.lt_iff]
theorem V7 {x y:Rat}(aa:eH x)(aW:eH y)(h0:y≠0)(h:eH (x / y)):yG (ca x) (ca y)=some (ca (x / y)):=by
 have h1:=aa.dq.rN;have h2:=aa.dq.q8;have U:=aW.dq.rN;have ai:=aW.dq.q8;have aw:=aa.dq.pos;have aR:(0:Int)<(eV y).1.natAbs:=by have:(eV y).1≠0:=fun c=>h0 (Rat.num_eq_zero.1 c);omega
 have a8:=xe (x:=(eV x).1.natAbs) (y:=(eV y).2) (by omega) (by have:=aW.dq.pos;omega) aa.dq.num aW.dq.den;have bk:=xe (x:=(eV x).2) (y:=(eV y).1.natAbs) (by omega) (by omega) aa.dq.den aW.dq.num;have e1:jq (L (eV x).1.natAbs) (L (eV y).2)=some (L (((eV x).1.natAbs:Int)*(eV y).2)):=by rw[mul_eq (h6 _) (h6 _) (by omega) (by omega),eF (by omega),eF (by have:=aW.dq.pos;omega)]
 have e2:jq (L (eV x).2) (L (eV y).1.natAbs)=some (L ((eV x).2*((eV y).1.natAbs:Int))):=by rw[mul_eq (h6 _) (h6 _) (by omega) (by omega),eF (by omega),eF (by omega)]
 unfold yG;rw[xu aa,xu aW];simp only[dC,dA,if_true];show (jq (L (eV x).1.natAbs) (L (eV y).2)).bind _=_;rw[e1];simp only[dA];show (jq (L (eV x).2) (L (eV y).1.natAbs)).bind _=_;rw[e2];simp only[dA];rw[Mr (Int.mul_nonneg (by omega) (by have:=aW.dq.pos;omega)) (Int.mul_pos aw aR) (by omega) (by omega)];simp only[dA];rw[MM (x:=x / y) (Int.mul_pos aw aR) ?_ h];rfl;have d1:=u1 x;have d2:=u1 y
 have bI:eY (!((ca x).cK.cR == (ca y).cK.cR)) (((eV x).1.natAbs:Int)*(eV y).2)=(if y<0 then -1 else 1)*((eV x).1*(eV y).2):=by
  show eY (!(decide ((eV x).1<0) == decide ((eV y).1<0))) _=_;have aY:=Rat.num_nonneg (q:=y);have hm:0<=((eV x).1.natAbs:Int)*(eV y).2:=Int.mul_nonneg (by omega) (by have:=aW.dq.pos;omega)
  have G1:y<0↔(eV y).1<0:=by
   have U:=Rat.num_nonneg (q:=y);simp only[eV];constructor
   ·intro c;have : ¬0<=y:=(by grind);have ai : ¬0<=y.num:=fun c=>this (U.1 c);omega
   ·intro c;have : ¬0<=y:=fun eC=>(by have:=U.2 eC;omega);grind
  by_cases bc:(eV x).1<0<;>by_cases cj:(eV y).1<0
  ·rw[dw (G1.2 cj),decide_eq_true bc,decide_eq_true cj];simp only[eY,BEq.rfl,Bool.not_true,Bool.false_eq_true,if_false];rw[show ((eV x).1.natAbs:Int) = -(eV x).1 by omega];grind
  ·rw[dy (fun c=>cj (G1.1 c)),decide_eq_true bc,decide_eq_false cj];simp only[eY,show (!(true == false))=true from rfl,if_true];rw[show ((eV x).1.natAbs:Int) = -(eV x).1 by omega];grind
  ·rw[dw (G1.2 cj),decide_eq_false bc,decide_eq_true cj];simp only[eY,show (!(false == true))=true from rfl,if_true];rw[show ((eV x).1.natAbs:Int)=(eV x).1 by omega];grind
  ·rw[dy (fun c=>cj (G1.1 c)),decide_eq_false bc,decide_eq_false cj];simp only[eY,BEq.rfl,Bool.not_true,Bool.false_eq_true,if_false];rw[show ((eV x).1.natAbs:Int)=(eV x).1 by omega];grind
 rw[bI]
 have c1:(((eV y).1.natAbs:Int):Rat)=(if y<0 then -1 else 1)*(((eV y).1:Int):Rat):=by
  have aY:=Rat.num_nonneg (q:=y);by_cases c:y<0
  ·have:y.num<0:=by have : ¬0<=y.num:=fun h=>by have:=aY.1 h;grind
                    omega
   rw[dw c,show ((eV y).1.natAbs:Int) = -(eV y).1 by simp only[eV];omega,Rat.intCast_neg];grind
  ·have:0<=y.num:=aY.2 (by grind);rw[dy c,show ((eV y).1.natAbs:Int)=(eV y).1 by simp only[eV];omega];grind
 rw[dN,c1,dN,dN];simp only[eV] at *;split<;>grind
theorem si {n:Int}(h:mP n):o9 n=some (ca (n:Rat)):=by rw[acU h];unfold ca eV;rw[Rat.num_intCast,Rat.den_intCast];rfl
theorem Vu {n:Int}(h:mP n):eH (n:Rat):=by have:=ahH h;unfold eH;rw[Rat.num_intCast,Rat.den_intCast];exact⟨this.num,this.den⟩
theorem UQ {n d:Int}{x:Rat}(h0:d≠0)(e:(d:Rat)*x=n)(aY:(n.natAbs:Int)<B 24)(bH:(d.natAbs:Int)<B 24):eH x:=by
 have sv:(d:Rat)≠0:=fun c=>h0 (Rat.intCast_inj.1 (by rw[c];rfl));have aa:x=Rat.divInt n d:=by rw[Rat.divInt_eq_div,<- e];grind
 rw[aa];unfold eH;rw[Rat.num_divInt,Rat.den_divInt,dy h0];constructor
 ·have h1:(d.sign*n / (d.gcd n:Int)).natAbs<=(d.sign*n).natAbs:=Int.natAbs_ediv_le_natAbs _ _;have h2:(d.sign*n).natAbs<=n.natAbs:=(by rw[Int.natAbs_mul];have:d.sign.natAbs<=1:=(by rw[Int.natAbs_sign];split<;>omega);exact Nat.le_trans (dL _ this) (by omega));omega
 ·have:d.natAbs / d.gcd n<=d.natAbs:=Nat.div_le_self _ _;omega
theorem pz {x:Rat}:jQ x=0↔x=0:=by
 unfold jQ;split
 ·simp_all
 ·split<;>simp_all
theorem td {x:Rat}:0<jQ x↔0<x:=by
 unfold jQ;split
 ·rename_i h;rw[h];simp
 ·split
  ·rename_i h1 h2;constructor
   ·intro h;omega
   ·intro h;grind
  ·rename_i h1 h2;constructor
   ·intro h;grind
   ·intro h;omega
theorem agk (n:Nat)(aY:n<=1000)(k:Nat)(a1:k<n)(a b:Nat->Rat)(bF:∀j,j<n->eH (a j))(aP:∀j,j<n->eH (b j))(hm:∀j,j<n->eH (-(a k)*b j))(bL:∀j,j<n->eH (a j-a k*b j)):
 Er k 0 n 0 n (aE n fun j=>ca (a j)) (aE n fun j=>ca (b j))=some (aE n fun j=>ca (a j-a k*b j)):=by
 unfold Er;refine bm (by omega) (aG (x:=ca (a k)) (by rw[dx];exact hx a1) (aG (qf (bF k a1)) ?_));refine qH (fun h=> ?_) (fun h=> ?_)
 ·have h0:=pz.1 (by simpa using h);congr 1;exact ek fun j _=>by rw[h0];congr 1;grind
 ·refine aG (Jl (bF k a1)) ?_
  obtain⟨s,e1,e2⟩:=hF (f:=fun w:Int×dP=>Bd 0 n 0 n ((n:Nat):Int) (aE n fun j=>ca (b j)) (ca (-(a k))).cK.cR (ca (-(a k))).cK.cC (ca (-(a k))).ez w.1 w.2)
   (fun (i:Nat) (_:Unit)=>((i:Int),aE n fun j=>if j<i then ca (a j-a k*b j) else ca (a j))) n (fun _ _=>True) (fun _=>aE n fun j=>ca (a j-a k*b j))
   (fun i ad _ _=>by
     refine⟨(),?_,trivial⟩;unfold Bd;refine dv (by simp only;omega) (bm (by simp only;omega) (aG (x:=ca (b i)) (by simp only;rw[dx];exact hx ad) (aG (qf (aP i ad)) ?_)));refine qH (fun h=> ?_) (fun h=> ?_)
     ·refine bm (by simp only;omega) (aG (x:=ca (a i)) (by simp only;rw[dx,hx ad,dy (by omega)]) ?_)
      refine aG (V6 (bF k a1).neg (aP i ad) (hm i ad)) (aG (FK (bF i ad) (hm i ad) (by have:=bL i ad;rw[show a i + -(a k)*b i=a i-a k*b i by grind];exact this)) ?_);refine bm (by simp only;rw[b2];omega) ?_;simp only;rw[fa (by omega),dx,dG,kc];congr 3
      exact ek fun j _=>by
       by_cases c:j=i
       ·subst c;rw[dw rfl,dw (by omega)];congr 1;grind
       ·rw[dy c]
        by_cases cj:j<i
        ·rw[dw cj,dw (by omega)]
        ·rw[dy cj,dy (by omega)]
     ·have h0:b i=0:=pz.1 (by simpa using h)
      simp only;rw[fa (by omega)];congr 3
      exact ek fun j _=>by
       by_cases c:j=i
       ·subst c;rw[dy (by omega),dw (by omega),h0];congr 1;grind
       ·by_cases cj:j<i
        ·rw[dw cj,dw (by omega)]
        ·rw[dy cj,dy (by omega)])
   (fun _ _=>by unfold Bd;refine d8 (by simp) ?_;simp only;congr 2;exact ek fun j av=>dw av) () trivial
  refine aG (x:=aE n fun j=>ca (a j-a k*b j)) ?_ rfl;unfold Q8;have bI:(aE n fun j=>if j<0 then ca (a j-a k*b j) else ca (a j))=aE n fun j=>ca (a j):=ek fun j _=>dy (by omega);rw[bI] at e1;exact e1
theorem Ul (n:Nat)(aY:n<=1000)(k:Nat)(a1:k<n)(a b:Nat->Rat)(bF:∀j,j<n->eH (a j))(aP:∀j,j<n->eH (b j))(hm:∀j,j<n->eH (-(a k)*b j))(bL:∀j,j<n->eH (a j-a k*b j)):
 yu k 0 n (aE n fun j=>ca (a j)) (aE n fun j=>ca (b j))=some (aE n fun j=>ca (a j-a k*b j)):=by
 unfold yu;rw[b2];refine bm (by omega) (aG (x:=ca (a k)) (by rw[dx];exact hx a1) (aG (qf (bF k a1)) ?_));refine qH (fun h=> ?_) (fun h=> ?_)
 ·have h0:=pz.1 (by simpa using h);congr 1;exact ek fun j _=>by rw[h0];congr 1;grind
 ·refine aG (Jl (bF k a1)) ?_
  obtain⟨s,e1,e2⟩:=hF (f:=fun w:Int×dP=>wP 0 n ((n:Nat):Int) (aE n fun j=>ca (b j)) (ca (-(a k))).cK.cR (ca (-(a k))).cK.cC (ca (-(a k))).ez w.1 w.2)
   (fun (i:Nat) (_:Unit)=>((i:Int),aE n fun j=>if j<i then ca (a j-a k*b j) else ca (a j))) n (fun _ _=>True) (fun _=>aE n fun j=>ca (a j-a k*b j))
   (fun i ad _ _=>by
     refine⟨(),?_,trivial⟩;unfold wP;refine dv (by simp only;omega) (bm (by simp only;omega) (aG (x:=ca (b i)) (by simp only;rw[dx];exact hx ad) (aG (qf (aP i ad)) ?_)));refine qH (fun h=> ?_) (fun h=> ?_)
     ·refine bm (by simp only;rw[b2];omega) (aG (x:=ca (a i)) (by simp only;rw[dx,hx ad,dy (by omega)]) ?_)
      refine aG (V6 (bF k a1).neg (aP i ad) (hm i ad)) (aG (FK (bF i ad) (hm i ad) (by have:=bL i ad;rw[show a i + -(a k)*b i=a i-a k*b i by grind];exact this)) ?_);refine bm (by simp only;rw[b2];omega) ?_;simp only;rw[fa (by omega),dx,dG,kc];congr 3
      exact ek fun j _=>by
       by_cases c:j=i
       ·subst c;rw[dw rfl,dw (by omega)];congr 1;grind
       ·rw[dy c]
        by_cases cj:j<i
        ·rw[dw cj,dw (by omega)]
        ·rw[dy cj,dy (by omega)]
     ·have h0:b i=0:=pz.1 (by simpa using h)
      simp only;rw[fa (by omega)];congr 3
      exact ek fun j _=>by
       by_cases c:j=i
       ·subst c;rw[dy (by omega),dw (by omega),h0];congr 1;grind
       ·by_cases cj:j<i
        ·rw[dw cj,dw (by omega)]
        ·rw[dy cj,dy (by omega)])
   (fun _ _=>by unfold wP;refine d8 (by simp) ?_;simp only;congr 2;exact ek fun j av=>dw av) () trivial
  refine aG (x:=aE n fun j=>ca (a j-a k*b j)) ?_ rfl;unfold KY;have bI:(aE n fun j=>if j<0 then ca (a j-a k*b j) else ca (a j))=aE n fun j=>ca (a j):=ek fun j _=>dy (by omega);rw[bI] at e1;exact e1
def iH (m N:Nat):dS:=aE m fun i=>some (i,N+1)
def cX (m:Nat)(t:bZ):ar:=aE m fun i=>((t.B i:Nat):Int)
def hr (N:Nat)(t:bZ)(i:Nat):dP:=aE (N+1) fun j=>ca (t.T i j)
def gD (m N:Nat)(t:bZ):ant:=aE m (hr N t)
def hB (N:Nat)(c:Nat->Rat):dP:=aE (N+1) fun j=>ca (c j)
structure JJ (m N:Nat) (t:bZ) (c:Nat->Rat) (r k:Nat):Prop where
 T : ∀i,i<m-> ∀j,j<=N->eH (t.T i j)
 im : ∀i,i<m-> ∀j,j<=N->eH ((t.cv r k).T i j)
 M : ∀i,i<m->i≠r-> ∀j,j<=N->eH (-(t.T i k)*(t.T r j / t.T r k))
 aX : ∀j,j<=N->eH (c j)
 vf : ∀j,j<=N->eH (c j-c k*(t.T r j / t.T r k))
 hm : ∀j,j<=N->eH (-(c k)*(t.T r j / t.T r k))
theorem UR {m N:Nat}(hm:m<=1000)(fw:N<1000){t:bZ}{c:Nat->Rat}{r k:Nat}(aj:r<m)(a1:k<=N)(ah:t.T r k≠0)(h:JJ m N t c r k)(nf:Int):
 yw r k nf (iH m N) (cX m t) (hB N c) (gD m N t)=some (cX m (t.cv r k),hB N (fun j=>c j-c k*(t.T r j / t.T r k)),gD m N (t.cv r k)):=by
 have uM : ∀j,(t.cv r k).T r j=t.T r j / t.T r k:=fun j=>by simp[bZ.cv]
 have wO : ∀i j,i≠r->(t.cv r k).T i j=t.T i j-t.T i k*(t.T r j / t.T r k):=fun i j ad=>by simp[bZ.cv,ad]
 unfold yw;refine bm (by unfold iH;rw[b2];omega) (aG (x:=some (r,N+1)) (by rw[dx];exact hx aj) (aG (x:=(r,N+1)) rfl (aG (x:=hr N t r) (fK aj) ?_)));refine bm (by simp only;omega) (aG (x:=ca (t.T r k)) (by rw[dx];exact hx (by omega)) ?_)
 obtain⟨s1,e1,-⟩:=hF (f:=fun w:Int×ant=>Be r k (((N+1:Nat):Nat):Int) nf (iH m N) (cX m t) (hB N c) (ca (t.T r k)).cK.cR (ca (t.T r k)).cK.cC (ca (t.T r k)).ez w.1 w.2)
  (fun (i:Nat) (_:Unit)=>((i:Int),aE m fun ft=>if ft=r then aE (N+1) (fun j=>if j<i then ca (t.T r j / t.T r k) else ca (t.T r j)) else hr N t ft)) (N+1) (fun _ _=>True)
  (fun _=>aE m fun ft=>if ft=r then hr N (t.cv r k) r else hr N t ft)
  (fun i ad _ _=>by
    refine⟨(),?_,trivial⟩;unfold Be;refine dv (by simp only;omega) (bm (by unfold iH;rw[b2];omega) (aG (x:=some (r,N+1)) (by rw[dx];exact hx aj) (aG (x:=(r,N+1)) rfl ?_)));refine aG (x:=aE (N+1) (fun j=>if j<i then ca (t.T r j / t.T r k) else ca (t.T r j))) (by simp only;rw[fK aj,dw rfl]) ?_;refine bm (by simp only;omega) (aG (x:=ca (t.T r i)) (by simp only;rw[dx,hx ad,dy (by omega)]) ?_);refine aG (V7 (h.T r aj i (by omega)) (h.T r aj k a1) ah (by have:=h.im r aj i (by omega);rw[uM] at this;exact this)) ?_;simp only;rw[fa (by omega),dx,dG,kc,kc];congr 3;refine ek fun ft _=> ?_;by_cases bc:ft=r
    ·rw[dw bc,dw bc]
     exact ek fun j _=>by
      by_cases cj:j=i
      ·subst cj;rw[dw rfl,dw (by omega)]
      ·rw[dy cj]
       by_cases jm:j<i
       ·rw[dw jm,dw (by omega)]
       ·rw[dy jm,dy (by omega)]
    ·rw[dy bc,dy bc,dy bc])
  (fun _ _=>by
    unfold Be;refine d8 (by simp) ?_;simp only;congr 2;refine ek fun ft _=> ?_;by_cases bc:ft=r
    ·rw[dw bc,dw bc];exact ek fun j av=>by rw[dw av,uM]
    ·rw[dy bc,dy bc]) () trivial
 refine aG (x:=aE m fun ft=>if ft=r then hr N (t.cv r k) r else hr N t ft) ?_ ?_
 ·unfold Q9
  have bI:(aE m fun ft=>if ft=r then aE (N+1) (fun j=>if j<0 then ca (t.T r j / t.T r k) else ca (t.T r j)) else hr N t ft)=gD m N t:=ek fun ft _=>by
   by_cases bc:ft=r
   ·rw[dw bc,bc];exact ek fun j _=>dy (by omega)
   ·rw[dy bc]
  rw[bI] at e1;exact e1
 obtain⟨s2,e2,-⟩:=hF (f:=fun w:Int×ant=>Bf r k ((m:Nat):Int) nf (iH m N) (cX m t) (hB N c) w.1 w.2)
  (fun (i:Nat) (_:Unit)=>((i:Int),aE m fun ft=>if ft=r\/ft<i then hr N (t.cv r k) ft else hr N t ft)) m (fun _ _=>True)
  (fun _=>gD m N (t.cv r k))
  (fun i ad _ _=>by
    refine⟨(),?_,trivial⟩;unfold Bf;refine dv (by simp only;omega) (qH (fun dd=> ?_) (fun Dd=> ?_))
    ·have DE:i≠r:=by intro c;subst c;simp at dd
     refine bm (by unfold iH;rw[b2];simp only;omega) (aG (x:=some (i,N+1)) (by simp only;rw[dx];exact hx ad) ?_);refine bm (by unfold iH;rw[b2];omega) (aG (x:=some (r,N+1)) (by rw[dx];exact hx aj) ?_);refine aG (x:=(i,N+1)) rfl (aG (x:=(r,N+1)) rfl ?_);refine aG (x:=hr N t i) (by simp only;rw[fK ad,dy (by omega)]) (aG (x:=hr N (t.cv r k) r) (by simp only;rw[fK aj,dw (.inl rfl)]) ?_);refine bm (by simp only;omega) ?_;refine aG (agk (N+1) (by omega) k (by omega) (fun j=>t.T i j) (fun j=>(t.cv r k).T r j) (fun j av=>h.T i ad j (by omega)) (fun j av=>h.im r aj j (by omega)) (fun j av=>by rw[uM];exact h.M i ad DE j (by omega)) (fun j av=>by have:=h.im i ad j (by omega);rw[wO i j DE] at this;rw[uM];exact this)) ?_;simp only;rw[fa (by omega),kc,kc];congr 3;refine ek fun ft _=> ?_;by_cases bc:ft=r
     ·rw[dw bc,dw (.inl bc),bc]
     ·rw[dy bc]
      by_cases cj:ft=i
      ·subst cj;rw[dw rfl,dw (.inr (by omega))];exact ek fun j _=>by rw[wO ft j DE,uM]
      ·rw[dy cj]
       by_cases jm:ft<i
       ·rw[dw (.inr jm),dw (.inr (by omega))]
       ·rw[dy (by omega),dy (by omega)]
    ·have DE:i=r:=by simp at Dd;omega
     simp only;rw[fa (by omega)];congr 3;refine ek fun ft _=> ?_;by_cases bc:ft=r\/ft<i
     ·rw[dw bc,dw (by omega)]
     ·rw[dy bc,dy (by omega)])
  (fun _ _=>by unfold Bf;refine d8 (by simp) ?_;simp only;congr 2;exact ek fun ft ml=>dw (.inr ml)) () trivial
 refine aG (x:=gD m N (t.cv r k)) ?_ ?_
 ·unfold Ra
  rw[show ((iH m N).length:Nat)=m from b2 ..]
  have bI:(aE m fun ft=>if ft=r\/ft<0 then hr N (t.cv r k) ft else hr N t ft)=aE m fun ft=>if ft=r then hr N (t.cv r k) r else hr N t ft:=ek fun ft _=>by
   by_cases bc:ft=r
   ·rw[dw (.inl bc),dw bc,bc]
   ·rw[dy (by omega),dy bc]
  rw[bI] at e2;exact e2
 refine aG (x:=hr N (t.cv r k) r) (fK aj) (bm (by simp only;omega) ?_);refine aG (Ul (N+1) (by omega) k (by omega) c (fun j=>(t.cv r k).T r j) (fun j av=>h.aX j (by omega)) (fun j av=>h.im r aj j (by omega)) (fun j av=>by rw[uM];exact h.hm j (by omega)) (fun j av=>by rw[uM];exact h.vf j (by omega))) ?_;refine bm (by unfold hB;rw[b2,b2]) (bm (by unfold cX;rw[b2];omega) (bm (by unfold cX;rw[b2,dx];omega) ?_));congr 1;rw[dx,dG];congr 1
 ·unfold cX;rw[kc];exact ek fun i _=>by simp only[bZ.cv];split<;>rfl
 ·congr 1
  ·exact ek fun j _=>by rw[uM]
  ·unfold gD
   rw[kc]
   exact ek fun i _=>by
    split
    ·rename_i bc;rw[bc]
    ·rfl
theorem agl {m:Nat}(hm:m<=1000)(t:bZ)(nf:Int)(rows:ant)(cost:dP)(j:Nat): ∃b,EH ⟨nf,rows,cX m t,cost⟩ (j:Int)=some b/\(b=true↔ ∃i,i<m/\t.B i=j):=by
 unfold EH
 obtain⟨r,e,h⟩:=tb (f:=fun w:Int=>D0 j (cX m t) ((m:Nat):Int) w) (fun (i:Nat) (_:Unit)=>(i:Int)) m (fun i _=> ∀k,k<i->t.B k≠j) (fun r=>(r = .inr ()/\ ∃i,i<m/\t.B i=j)\/(r = .inl ()/\ ¬∃i,i<m/\t.B i=j))
  (fun i ad _ c7=>by
    unfold D0;by_cases c:t.B i=j
    ·right;refine⟨_,dv (by omega) (bm (by unfold cX;rw[b2];omega) (aG (x:=((t.B i:Nat):Int)) (by rw[dx];exact fK ad) (fY (by simp[c]) rfl))),.inl ⟨rfl,i,ad,c⟩⟩
    ·left
     refine⟨(),dv (by omega) (bm (by unfold cX;rw[b2];omega) (aG (x:=((t.B i:Nat):Int)) (by rw[dx];exact fK ad) (h4 (by simp;omega) (by rw[fa (by omega)])))),fun k a1=> ?_⟩;by_cases e:k=i
     ·rw[e];exact c
     ·exact c7 k (by omega))
  (fun _ c7=>⟨_,d8 (by omega) rfl,.inr ⟨rfl,fun ⟨i,ad,e⟩=>c7 i ad e⟩⟩) () (fun k a1=>by omega)
 have fe:Lm j (cX m t) (len_ eI (cX m t)) 0=some r:=by unfold Lm;rw[gZ,show (cX m t).length=m from b2 ..];exact e
 rcases h with ⟨rfl,h⟩|⟨rfl,h⟩
 ·exact⟨true,aG fe rfl,by simp[h]⟩
 ·exact⟨false,aG fe rfl,by simp[h]⟩
theorem ag1 {N:Nat}(fw:N<1000)(nf:Int)(rows:ant)(jO:ar)(c:Nat->Rat){j:Nat}(av:j<=N)(aX:eH (c j)):vG ⟨nf,rows,jO,hB N c⟩ (j:Int) false=some (jQ (c j)):=by
 unfold vG;refine bm (by unfold hB;rw[b2];omega) (aG (x:=ca (c j)) (by rw[dx];exact fK (by omega)) (aG (qf aX) ?_));refine aG (x:= .inl (jQ (c j))) ?_ rfl;unfold Sb;rw[iter];have:yi nf rows jO (hB N c) (j:Int) false (jQ (c j)) 0=some (.inr (.inl (jQ (c j)))):=by unfold yi;exact qH (fun _=>rfl) (fun _=>rfl)
 simp only;rw[this];rfl
theorem II {x y z w:Rat}(aW:0<y)(hw:0<w):(x / y<=z / w↔x*w<=z*y)/\(x / y=z / w↔x*w=z*y):=by
 have e1:x*w=(x / y)*(y*w):=by grind
 have e2:z*y=(z / w)*(y*w):=by grind
 have ah:0<y*w:=Rat.mul_pos aW hw;constructor
 ·rw[e1,e2]
  constructor
  ·intro h;exact Rat.mul_le_mul_of_nonneg_right h (Rat.le_of_lt ah)
  ·intro h;apply Classical.byContradiction;intro c;have:z / w<x / y:=(by grind);have:=Rat.mul_lt_mul_of_pos_right this ah;grind
 ·rw[e1,e2]
  constructor
  ·intro h;rw[h]
  ·intro h;have dd:y*w≠0:=(by grind);grind
def I7 (m N:Nat)(t:bZ)(j:Nat)(r:Int):Prop :=
 (r = -1/\ ∀i,i<m-> ¬0<t.T i j)\/ ∃b:Nat,r=b/\b<m/\0<t.T b j/\(∀i,i<m->0<t.T i j->t.T b N*t.T i j<=t.T i N*t.T b j)/\(∀i,i<m->0<t.T i j->t.T b N*t.T i j=t.T i N*t.T b j->t.B b<=t.B i)
theorem agm {m N:Nat}(hm:m<=1000)(fw:N<1000)(t:bZ)(nf:Int)(cost:dP){j:Nat}(av:j<=N)(hM:∀i,i<m-> ∀j,j<=N->eH (t.T i j))(a0:∀i,i<m->0<t.T i j->eH (t.T i N / t.T i j)):
 ∃r,EJ ⟨nf,gD m N t,cX m t,cost⟩ (j:Int)=some r/\I7 m N t j r:=by
 unfold EJ
 obtain⟨r,e,h⟩:=tb (f:=fun w:Int×Int×Bool×ar×ar=>Bn nf (gD m N t) (cX m t) cost j ((m:Nat):Int) w.1 w.2.1 w.2.2.1 w.2.2.2.1 w.2.2.2.2)
  (fun (i:Nat) (s:Int×ax)=>(s.1,(i:Int),s.2.cK.cR,s.2.cK.cC,s.2.ez)) m
  (fun n s=>(s.1 = -1/\ ∀i,i<n-> ¬0<t.T i j)\/ ∃b:Nat,s.1=b/\b<n/\0<t.T b j/\s.2=ca (t.T b N / t.T b j)/\ ∀i,i<n->0<t.T i j->t.T b N / t.T b j<t.T i N / t.T i j\/(t.T b N / t.T b j=t.T i N / t.T i j/\t.B b<=t.B i))
  (fun r=>I7 m N t j r)
  (fun n aY s c7=>by
    left;unfold Bn;have g1:0<=((n:Nat):Int)/\((n:Nat):Int)<((gD m N t).length:Nat):=(by unfold gD;rw[b2];omega);have g2:(gD m N t)[((n:Nat):Int).toNat]? = some (hr N t n):=(by rw[dx];exact fK aY);have g3:0<=((j:Nat):Int)/\((j:Nat):Int)<((hr N t n).length:Nat):=(by unfold hr;rw[b2];omega);have g4:(hr N t n)[((j:Nat):Int).toNat]? = some (ca (t.T n j)):=(by rw[dx];exact fK (by omega));have iC:J ((n:Int)+1)=((n+1:Nat):Int):=fa (by omega);have wl:J (len_ aI (hr N t n)-1)=(N:Int):=(by rw[fc,show (hr N t n).length=N+1 from b2 ..,cu (by omega) (by omega)];omega);by_cases ah:0<t.T n j
    ·have bL : ¬jQ (t.T n j)<=0:=by have:=td.2 ah;omega
     have g5:0<=J (len_ aI (hr N t n)-1)/\J (len_ aI (hr N t n)-1)<((hr N t n).length:Nat):=(by rw[wl];unfold hr;rw[b2];omega);have g6:(hr N t n)[(J (len_ aI (hr N t n)-1)).toNat]? = some (ca (t.T n N)):=(by rw[wl,dx];exact fK (by omega));have g7:yG (ca (t.T n N)) (ca (t.T n j))=some (ca (t.T n N / t.T n j)):=V7 (hM n aY N (by omega)) (hM n aY j av) (by grind) (a0 n aY ah);rcases c7 with ⟨h1,h2⟩|⟨b,h1,aP,kY,h2,U⟩
     ·refine⟨((n:Int),ca (t.T n N / t.T n j)),dv (by simp only;omega) (bm g1 (aG g2 (bm g3 (aG g4 (aG (qf (hM n aY j av)) (d8 bL (bm g5 (aG g6 (aG g7 (dv (by simp only;omega) ?_)))))))))),.inr ⟨n,rfl,by omega,ah,rfl,fun i ad jG=> ?_⟩⟩
      ·simp only;rw[iC]
      ·by_cases c:i=n
       ·subst c;exact .inr ⟨rfl,dF _⟩
       ·exact(h2 i (by omega) jG).elim
     ·have g8:yH (ca (t.T n N / t.T n j)) (⟨(⟨s.2.cK.cR,s.2.cK.cC⟩:bE),s.2.ez⟩:ax)=some (if t.T n N / t.T n j<t.T b N / t.T b j then -1 else if t.T b N / t.T b j<t.T n N / t.T n j then 1 else 0):=by
       have:(⟨(⟨s.2.cK.cR,s.2.cK.cC⟩:bE),s.2.ez⟩:ax)=ca (t.T b N / t.T b j):=h2;rw[this];exact ahI (a0 n aY ah) (a0 b (by omega) kY)
      by_cases bc:t.T n N / t.T n j<t.T b N / t.T b j
      ·rw[dw bc] at g8
       refine⟨((n:Int),ca (t.T n N / t.T n j)),dv (by simp only;omega) (bm g1 (aG g2 (bm g3 (aG g4 (aG (qf (hM n aY j av)) (d8 bL (bm g5 (aG g6 (aG g7 (d8 (by simp only;omega) (aG g8 (dv (by omega) ?_)))))))))))),.inr ⟨n,rfl,by omega,ah,rfl,fun i ad jG=> ?_⟩⟩
       ·simp only;rw[iC]
       ·by_cases c:i=n
        ·subst c;exact .inr ⟨rfl,dF _⟩
        ·rcases U i (by omega) jG with h|⟨h,-⟩
         ·left;grind
         ·left;rw[<- h];exact bc
      ·rw[dy bc] at g8
       by_cases cj:t.T b N / t.T b j<t.T n N / t.T n j
       ·rw[dw cj] at g8
        refine⟨s,dv (by simp only;omega) (bm g1 (aG g2 (bm g3 (aG g4 (aG (qf (hM n aY j av)) (d8 bL (bm g5 (aG g6 (aG g7 (d8 (by simp only;omega) (aG g8 (d8 (by omega) (h4 (by decide) ?_))))))))))))),.inr ⟨b,h1,by omega,kY,h2,fun i ad jG=> ?_⟩⟩
        ·simp only;rw[iC]
        ·by_cases c:i=n
         ·subst c;exact .inl cj
         ·exact U i (by omega) jG
       ·rw[dy cj] at g8
        have OO:t.T b N / t.T b j=t.T n N / t.T n j:=(by grind);have Kj:0<=((n:Nat):Int)/\((n:Nat):Int)<((cX m t).length:Nat):=(by unfold cX;rw[b2];omega);have Kk:(cX m t)[((n:Nat):Int).toNat]? = some ((t.B n:Nat):Int):=(by rw[dx];exact fK aY);have XO:0<=s.1/\s.1<((cX m t).length:Nat):=(by unfold cX;rw[b2];omega);have XP:(cX m t)[s.1.toNat]? = some ((t.B b:Nat):Int):=(by rw[h1,dx];exact fK (by omega));by_cases jm:t.B n<t.B b
        ·refine⟨((n:Int),ca (t.T n N / t.T n j)),dv (by simp only;omega) (bm g1 (aG g2 (bm g3 (aG g4 (aG (qf (hM n aY j av)) (d8 bL (bm g5 (aG g6 (aG g7 (d8 (by simp only;omega) (aG g8 (d8 (by omega) (fY rfl (bm Kj (aG Kk (bm XO (aG XP (dv (by omega) ?_)))))))))))))))))),.inr ⟨n,rfl,by omega,ah,rfl,fun i ad jG=> ?_⟩⟩
         ·simp only;rw[iC]
         ·by_cases c:i=n
          ·subst c;exact .inr ⟨rfl,dF _⟩
          ·rcases U i (by omega) jG with h|⟨h,c3⟩
           ·left;grind
           ·right;exact⟨by grind,by omega⟩
        ·refine⟨s,dv (by simp only;omega) (bm g1 (aG g2 (bm g3 (aG g4 (aG (qf (hM n aY j av)) (d8 bL (bm g5 (aG g6 (aG g7 (d8 (by simp only;omega) (aG g8 (d8 (by omega) (fY rfl (bm Kj (aG Kk (bm XO (aG XP (d8 (by omega) ?_)))))))))))))))))),.inr ⟨b,h1,by omega,kY,h2,fun i ad jG=> ?_⟩⟩
         ·simp only;rw[iC]
         ·by_cases c:i=n
          ·subst c;exact .inr ⟨OO,by omega⟩
          ·exact U i (by omega) jG
    ·have bL:jQ (t.T n j)<=0:=by
      have : ¬0<jQ (t.T n j):=fun c=>ah (td.1 c);omega
     refine⟨s,dv (by simp only;omega) (bm g1 (aG g2 (bm g3 (aG g4 (aG (qf (hM n aY j av)) (dv bL ?_)))))),?_⟩
     ·simp only;rw[iC]
     ·rcases c7 with ⟨h1,h2⟩|⟨b,h1,aP,kY,h2,U⟩
      ·exact .inl ⟨h1,fun i ad=>if c:i=n then c▸ah else h2 i (by omega)⟩
      ·exact .inr ⟨b,h1,by omega,kY,h2,fun i ad jG=>if c:i=n then (ah (c▸jG)).elim else U i (by omega) jG⟩)
  (fun s c7=>by
    refine⟨s.1,by unfold Bn;exact d8 (by simp only;omega) rfl,?_⟩;rcases c7 with ⟨h1,h2⟩|⟨b,h1,aP,kY,h2,U⟩
    ·exact .inl ⟨h1,h2⟩
    ·refine .inr ⟨b,h1,aP,kY,fun i ad jG=> ?_,fun i ad jG he=> ?_⟩
     ·rw[<- (II kY jG).1]
      rcases U i ad jG with h|⟨h,-⟩
      ·exact Rat.le_of_lt h
      ·rw[h];exact Rat.le_refl
     ·rw[<- (II kY jG).2] at he
      rcases U i ad jG with h|⟨-,h⟩
      ·rw[he] at h;grind
      ·exact h) ((-1:Int),(⟨⟨false,[]⟩,[]⟩:ax)) (.inl ⟨rfl,fun i ad=>by omega⟩)
 refine⟨r,aG ?_ rfl,h⟩;unfold RT;rw[fc,show (gD m N t).length=m from b2 ..];exact e
end Go.Proofs.YthgbjflfgmahbadGreat
