/- Lemmas, plain functions of the program, and what they answer. No condition. -/
import Derived.Test.YthgbjflfgmahbafGreatMD
namespace Go.Proofs.YthgbjflfgmahbafGreat
set_option linter.unusedVariables false
set_option autoImplicit true
set_option relaxedAutoImplicit true
set_option linter.unusedSimpArgs false
open Go Go.VL
def UF (q4 bs:Int)(aB aJ av:ar)(jk:Int)(cG:arL):ea (Int×Bool×ar×ar×arK×ar×arO) (Bool×ar×arK×ar×arO):=⟨fun (lf,gz,gu,bn,iI,eZ,ig)=>dv [(0,.ref 0 0 0 0),(5,.ref 4 0 0 0),(7,.bw 5 0 0 bn.length),(aT 41 q4),(aT 42 lf)] [(j5 1 2 3 bs q4 aB aJ av),(bd aB),(bd aJ),(bd av),(lu 6 8 9 cG gz gu eZ jk ig),(bd bn),(bt 1 (bT 7 0 2) cG),(de 2 br iI),(bd eZ),(bt 1 gX ig)],fun | a=>⟨some 0,[(0,.ref 0 0 0 0),(5,.ref 4 0 0 0)],[(j5 1 2 3 bs q4 aB aJ av),(bd aB),(bd aJ),(bd av),(lu 5 7 8 cG a.1 a.2.1 a.2.2.2.1 jk a.2.2.2.2),(bt 1 (bT 6 0 2) cG),(de 2 br a.2.2.1),(bd a.2.2.2.1),(bt 1 gX a.2.2.2.2)]⟩⟩
def z3 (q4 bs:Int)(aB aJ av:ar)(jk:Int)(cG:arL)(lf:Int)(gz:Bool)(gu bn:ar)(iI:arK)(eZ:ar)(ig:arO):Option ((Int×Bool×ar×ar×arK×ar×arO)⊕(Bool×ar×arK×ar×arO)) :=if decide (lf<q4) then if 0<=lf/\lf<bn.length then if (0+lf.toNat)<(List.replicate bn.length 0:ar).length then w8 gz gu jk cG iI eZ ig ((List.replicate bn.length 0:ar).set (0+lf.toNat) (-1)) >>= fun bb =>some (.inl (J (lf+1),bb.2.1,bb.2.2.1,((List.replicate bn.length 0:ar).set (0+lf.toNat) (-1)),bb.2.2.2.1,bb.2.2.2.2.1,bb.2.2.2.2.2)) else none else none else some (.inr (gz,gu,iI,eZ,ig))
def Oi (q4 bs:Int)(aB aJ av:ar)(jk:Int)(cG:arL)(lf:Int)(gz:Bool)(gu bn:ar)(iI:arK)(eZ:ar)(ig:arO):Option (Bool×ar×arK×ar×arO):=iter (fun w:Int×Bool×ar×ar×arK×ar×arO=>z3 q4 bs aB aJ av jk cG w.1 w.2.1 w.2.2.1 w.2.2.2.1 w.2.2.2.2.1 w.2.2.2.2.2.1 w.2.2.2.2.2.2) (lf,gz,gu,bn,iI,eZ,ig)
theorem adR:bk (z3 q4 bs aB aJ av jk cG lf gz gu bn iI eZ ig) (ed bm 124 4 65 [1,1,1,1,1,1,0,1,0,0] (UF q4 bs aB aJ av jk cG) (lf,gz,gu,bn,iI,eZ,ig)):=.b6 (fun h1=>.hL fun h2 R=>.bJ fun bb aq=>.ret (let q1:=(List.replicate bn.length 0:ar);let q2:=kV 1 0 0 cG.length bb.2.1 bb.2.2.1 3 0 0 bb.2.2.2.2.1.length jk 4 0 0 bb.2.2.2.2.2.length;let bB:=kV 6 0 0 cG.length gz gu 8 0 0 eZ.length jk 9 0 0 ig.length;let cu:=o9 [4,6,7,8,9,5];let dn:=hC [4,6,7,8,9,5];let e3:=(sX (my bn.length (0:Int)) (0+lf.toNat) (-1));let ht:=bY [0,1,2,3,4,5,6,7,8,9];let iM:=bt 1 eI (q1.set (0+lf.toNat) (-1));let k2:=eB 1 cy (q1.set (0+lf.toNat) (-1));let nx:=de 2 br bb.2.2.2.1;a5 [(I 1),.aL,(I 2),(I 2),.ah (ab 3 (ad .eA [])),.ah (ab 2 (ad (.call {a3:=(kz [4,6,7,8,9,5]),di:=[.bq (lu 1 3 4 cG gz gu eZ jk ig),.bq (bt 1 (bT 2 0 2) cG),.bq (de 2 br iI),.ax,.ax,.cM iM],ac:=[ii,.a6 (.cr (.len ((q1.set (0+lf.toNat) (-1)).length)))],r:= .b bb.1,eU:=(rM cG bb.2.1 bb.2.2.1 bb.2.2.2.2.1 jk bb.2.2.2.2.2 bb.2.2.2.1 iM),f7:=ii,gK:=[.bq (lu 6 8 9 cG bb.2.1 bb.2.2.1 bb.2.2.2.2.1 jk bb.2.2.2.2.2),.bq (bt 1 (bT 7 0 2) cG),.bq nx,.ax,.ax,.ax],en:=[4,5,6,7,8,9],d4:=false}) [])),(I 2),.aS [0,1,2,3,4,5,6,7,8,9] [.box dt,.ax,.ax,.ax,.box lk,.ax,.bq (bt 1 (bT 7 0 2) cG),.bq nx,.ax,.ax] [(0,ii),(5,ii),(fK 7 (q1.set (0+lf.toNat) (-1))),(41,ii),(42,ii)]] (.aP h1 (alo (eg eI bn) (eN bn)) h2.1 h2.2 (Za (lX eI bn.length 0) R) (hB 1) e3 (lD cu 6 [(kV 1 0 0 cG.length gz gu 3 0 0 eZ.length jk 4 0 0 ig.length)] [bB] rfl) (.aP (l6 6 [bB]) (fc cu 2 7 0 2 rfl cG) (l6 1 (cG.map (bT 7 0 2))) (ex cu 2 fJ iI) (tq 2 br iI) (eB 1 cy eZ) (eB 1 fF ig) (c4 1 (sj (lX eI bn.length 0) (0+lf.toNat) (-1))) (.aP k2 (lD dn 6 [(kV 6 0 0 cG.length bb.2.1 bb.2.2.1 8 0 0 bb.2.2.2.2.1.length jk 9 0 0 bb.2.2.2.2.2.length)] [q2] rfl) (l6 6 [q2]) (fc dn 7 2 0 2 rfl cG) (l6 1 (cG.map (bT 2 0 2))) (ex dn 2 fJ bb.2.2.2.1) (tq 2 br bb.2.2.2.1) (eB 1 cy bb.2.2.2.2.1) (.aP (eB 1 fF bb.2.2.2.2.2) k2 (Nm bb aq) (aW aB) (aW aJ) (aW av) (aW (q1.set (0+lf.toNat) (-1))) (fc ht 7 7 0 2 rfl cG) (.cR (ex ht 2 fJ bb.2.2.2.1) (aW bb.2.2.2.2.1) (b3 1 fF bb.2.2.2.2.2) e3))))))) (fun h1=>(let n4:=bY [0,1,2,3,4,6,7,8,9];a5 [(I 1),.aI,.aS [0,1,2,3,4,6,7,8,9] [.box dt,.ax,.ax,.ax,.box lk,.bq (bt 1 (bT 6 0 2) cG),.bq (de 2 br iI),.ax,.ax] (bf [0,5])] (.gY h1 (aW aB) (aW aJ) (aW av) (fc n4 6 7 0 2 rfl cG) (ex n4 2 fJ iI) (aW eZ) (b3 1 fF ig))))
def UG (Bp bs bc:Int)(aB aJ av:ar)(gz:Bool)(gu:ar)(jk:Int)(cG:arL)(iI:arK)(eZ:ar)(ig:arO):ea (Int×arU) arU:=⟨fun (q6,bn)=>dv [(0,.ref 0 0 0 0),(5,.ref 4 0 0 0),(9,.bw 5 0 0 bn.length),(aT 59 Bp),(aT 60 q6)] [(j5 1 2 3 bs bc aB aJ av),(bd aB),(bd aJ),(bd av),(lu 6 8 9 cG gz gu eZ jk ig),(bt 1 (fD 3 cZ) bn),(bt 1 (bT 7 0 2) cG),(de 2 br iI),(bd eZ),(bt 1 gX ig)],fun | a=>⟨some 2,[(0,.ref 0 0 0 0),(5,.ref 4 0 0 0),(9,.bw 5 0 0 a.length)],[(j5 1 2 3 bs bc aB aJ av),(bd aB),(bd aJ),(bd av),(lu 6 8 9 cG gz gu eZ jk ig),(bt 1 (fD 3 cZ) a),(bt 1 (bT 7 0 2) cG),(de 2 br iI),(bd eZ),(bt 1 gX ig)]⟩⟩
def DE (Bp bs bc:Int)(aB aJ av:ar)(gz:Bool)(gu:ar)(jk:Int)(cG:arL)(iI:arK)(eZ:ar)(ig:arO)(q6:Int)(bn:arU):Option ((Int×arU)⊕(arU)) :=if decide (q6<Bp) then yJ 0 >>= fun r2 =>if 0<=q6/\q6<bn.length then if (0+q6.toNat)<bn.length then some (.inl (J (q6+1),bn.set (0+q6.toNat) r2)) else none else none else some (.inr bn)
def Oj (Bp bs bc:Int)(aB aJ av:ar)(gz:Bool)(gu:ar)(jk:Int)(cG:arL)(iI:arK)(eZ:ar)(ig:arO)(q6:Int)(bn:arU):Option (arU):=iter (fun w:Int×arU=>DE Bp bs bc aB aJ av gz gu jk cG iI eZ ig w.1 w.2) (q6,bn)
theorem adS:bk (DE Bp bs bc aB aJ av gz gu jk cG iI eZ ig q6 bn) (ed bm 124 4 65 [1,1,1,1,1,1,1,1,0,1,0,0] (UG Bp bs bc aB aJ av gz gu jk cG iI eZ ig) (q6,bn)):=.b6 (fun h1=>.hE fun r2 R aj=>.gR fun aq=>.ret (let q1:=bY [0,1,2,3,4,5,6,7,8,9];a5 [(I 1),.aL,(I 2),.ah (ab 2 (ad (i6 1 (jx 3 cZ r2) false) (ab 1 (ad .eA [])))),(I 2),.aS [0,1,2,3,4,5,6,7,8,9] [.box dt,.ax,.ax,.ax,.box lk,.cM (bt 1 (fD 3 cZ) (bn.set (0+q6.toNat) r2)),.bq (bt 1 (bT 7 0 2) cG),.bq (de 2 br iI),.ax,.ax] [(0,ii),(5,ii),(fK 9 (bn.set (0+q6.toNat) r2)),(59,ii),(60,ii)]] (.aP h1 (OB r2 R) aj.1 aj.2 (hJ (fD 3 cZ) aq) (hB 1) (aW aB) (aW aJ) (.gY (aW av) (c4 1 (h9 (fD 3 cZ) bn q6 r2)) (b3 1 (qS (sz:=3) oT) (bn.set (0+q6.toNat) r2)) (fc q1 7 7 0 2 rfl cG) (ex q1 2 fJ iI) (aW eZ) (b3 1 fF ig) (hy bn q6 r2))))) (fun h1=>(let q2:=bY [0,1,2,3,4,5,6,7,8,9];a5 [(I 1),.aI,.aS [0,1,2,3,4,5,6,7,8,9] [.box dt,.ax,.ax,.ax,.box lk,.ax,.bq (bt 1 (bT 7 0 2) cG),.bq (de 2 br iI),.ax,.ax] (bf [0,5,9])] (.aP h1 (aW aB) (aW aJ) (aW av) (b3 1 (qS (sz:=3) oT) bn) (fc q2 7 7 0 2 rfl cG) (ex q2 2 fJ iI) (aW eZ) (.e1 (b3 1 fF ig)))))
def UH (Bq bs bc:Int)(aB aJ av:ar)(gz:Bool)(gu:ar)(jk:Int)(cG:ar)(gJ:arL)(wI:arK)(ig:arO):ea (Int×arU) arU:=⟨fun (s7,bn)=>dv [(0,.ref 0 0 0 0),(5,.ref 4 0 0 0),(9,.bw 5 0 0 bn.length),(71,.bw 6 0 0 cG.length),(aT 72 Bq),(aT 73 s7)] [(j5 1 2 3 bs bc aB aJ av),(bd aB),(bd aJ),(bd av),(lu 7 6 9 gJ gz gu cG jk ig),(bt 1 (fD 3 cZ) bn),(bd cG),(bt 1 (bT 8 0 2) gJ),(de 2 br wI),(bt 1 gX ig)],fun | a=>⟨some 4,[(0,.ref 0 0 0 0),(9,.bw 4 0 0 a.length)],[(j5 1 2 3 bs bc aB aJ av),(bd aB),(bd aJ),(bd av),(bt 1 (fD 3 cZ) a)]⟩⟩
def DF (Bq bs bc:Int)(aB aJ av:ar)(gz:Bool)(gu:ar)(jk:Int)(cG:ar)(gJ:arL)(wI:arK)(ig:arO)(s7:Int)(bn:arU):Option ((Int×arU)⊕(arU)) :=if decide (s7<Bq) then if 0<=s7/\s7<cG.length then cG[(0+s7.toNat)]? >>= fun ag =>if 0<=s7/\s7<gJ.length then gJ[(0+s7.toNat)]? >>= fun ch =>ch >>= fun lc =>wI[lc.1]? >>= fun vV =>if 0<=jk/\jk<lc.2 then vV[(0+jk.toNat)]? >>= fun ny =>vt ny gu >>= fun eu =>if 0<=ag/\ag<bn.length then if (0+ag.toNat)<bn.length then some (.inl (J (s7+1),bn.set (0+ag.toNat) eu)) else none else none else none else none else none else some (.inr bn)
def Ok (Bq bs bc:Int)(aB aJ av:ar)(gz:Bool)(gu:ar)(jk:Int)(cG:ar)(gJ:arL)(wI:arK)(ig:arO)(s7:Int)(bn:arU):Option (arU):=iter (fun w:Int×arU=>DF Bq bs bc aB aJ av gz gu jk cG gJ wI ig w.1 w.2) (s7,bn)
theorem adT:bk (DF Bq bs bc aB aJ av gz gu jk cG gJ wI ig s7 bn) (ed bm 124 4 65 [1,1,1,1,1,1,1,1,1,0,1,0,0] (UH Bq bs bc aB aJ av gz gu jk cG gJ wI ig) (s7,bn)):=.b6 (fun h1=>.bX fun h2 ag aj=>.bX fun aq ch ba=>.el fun lc ck vV dg=>.bX fun eT ny ez=>.hE fun eu hl gj=>.gR fun iF=>.ret (let q1:=bY [0,1,2,3,4,5,6,7,8,9];let q2:=kG (gp 2 br wI) jo dg;a5 [(I 1),.aL,.ah (hz 2 ag 2),.ah (ab 8 (ad (.cn ((bT 8 0 2) ch)) (ab 4 (ad (.gb 86 (.bw 8 (lc.1+0) 0 lc.2) (.hp (d9 2 br vV) [])) (ad (.hp (d9 2 br vV) (br ny)) (ab 5 (ad (i6 2 (jx 3 cZ eu) false) (ab 1 (ad .eA []))))))))),(I 2),.aS [0,1,2,3,4,5,6,7,8,9] [.box dt,.ax,.ax,.ax,.box lk,.cM (bt 1 (fD 3 cZ) (bn.set (0+ag.toNat) eu)),.ax,.bq (bt 1 (bT 8 0 2) gJ),.bq (de 2 br wI),.ax] [(0,ii),(5,ii),(fK 9 (bn.set (0+ag.toNat) eu)),(71,ii),(72,ii),(73,ii)]] (.aP h1 h2.1 h2.2 (bO eI aj) aq.1 aq.2 (bO (bT 8 0 2) ba) (mA (dU:=8) (c:=0) (sz:=2) ck) (.aP q2 eT.1 eT.2 q2 (bO br ez) (Ow eu hl) gj.1 gj.2 (.aP (hJ (fD 3 cZ) iF) (hB 1) (aW aB) (aW aJ) (aW av) (c4 1 (h9 (fD 3 cZ) bn ag eu)) (b3 1 (qS (sz:=3) oT) (bn.set (0+ag.toNat) eu)) (aW cG) (.cR (fc q1 8 8 0 2 rfl gJ) (ex q1 2 fJ wI) (b3 1 fF ig) (hy bn ag eu))))))) (fun h1=>(a5 [(I 1),.aI,.aS [0,1,2,3,5] [.box dt,.ax,.ax,.ax,.ax] (bf [0,9])] (.dd h1 (aW aB) (aW aJ) (aW av) (b3 1 (qS (sz:=3) oT) bn))))
def UI (A8 bs bc:Int)(aB aJ av:ar)(bl:arU):ea (arN×Int) arN:=⟨fun (kn,s3)=>dv [(0,.ref 0 0 0 0),(9,.bw 4 0 0 bl.length),(13,jx 3 cZ kn),(102,.bw 4 0 0 bl.length),(aT 103 A8),(aT 104 s3)] [(j5 1 2 3 bs bc aB aJ av),(bd aB),(bd aJ),(bd av),(bt 1 (fD 3 cZ) bl)],fun | a=>⟨some 6,[(9,.bw 4 0 0 bl.length),(13,jx 3 cZ a)],[(j5 1 2 3 bs bc aB aJ av),(bd aB),(bd aJ),(bd av),(bt 1 (fD 3 cZ) bl)]⟩⟩
def DG (A8 bs bc:Int)(aB aJ av:ar)(bl:arU)(kn:arN)(s3:Int):Option ((arN×Int)⊕(arN)) :=if decide (s3<A8) then if 0<=s3/\s3<bl.length then bl[(0+s3.toNat)]? >>= fun ag =>if 0<=s3/\s3<av.length then av[(0+s3.toNat)]? >>= fun ch =>yJ ch >>= fun a9 =>GF ag a9 >>= fun cS =>D8 kn cS >>= fun cB =>some (.inl (cB,J (s3+1))) else none else none else some (.inr kn)
def Ol (A8 bs bc:Int)(aB aJ av:ar)(bl:arU)(kn:arN)(s3:Int):Option (arN):=iter (fun w:arN×Int=>DG A8 bs bc aB aJ av bl w.1 w.2) (kn,s3)
theorem adU:bk (DG A8 bs bc aB aJ av bl kn s3) (ed bm 124 4 65 [1,1,1,1,1,1,1,1,1,1,1,0,1,0,0] (UI A8 bs bc aB aJ av bl) (kn,s3)):=.b6 (fun h1=>.bX fun h2 ag aj=>.bX fun aq ch ba=>.el fun a9 ck cS dg=>.bJ fun cB ey=>.ret (a5 [(I 1),.aL,.ah (bU 2 (.cn ((fD 3 cZ) ag)) 2),.ah (ab 8 (ad (.cn (eI ch)) (ad (i6 1 (jx 3 cZ a9) false) (ad (i6 2 (jx 3 cZ cS) false) (ad (i6 2 (jx 3 cZ cB) false) (ab 1 [])))))),(I 2),.aS [0,1,2,3,4] [.box dt,.ax,.ax,.ax,.ax] (bf [0,9,13,102,103,104])] (.aP h1 h2.1 h2.2 (bO (fD 3 cZ) aj) aq.1 aq.2 (bO eI ba) (OB a9 ck) (.eC (aey cS dg) (Ug cB ey) (aW aB) (aW aJ) (aW av) (b3 1 (qS (sz:=3) oT) bl))))) (fun h1=>(a5 [(I 1),.aI,.aS [0,1,2,3,4] [.box dt,.ax,.ax,.ax,.ax] (bf [9,13])] (.dd h1 (aW aB) (aW aJ) (aW av) (b3 1 (qS (sz:=3) oT) bl))))
def yC (fR eO:Int)(dr gG e7:ar):Option (Int×arU×arN) :=Hh fR eO dr gG e7 >>= fun r1 =>match r1 with | .inl bA=>(if 0<=bA.2.2.1/\(8:Int)*bA.2.2.1<=281474976710656/\bA.2.2.1<9223372036854775808 then if e7.length<=bA.2.2.1.toNat then w8 bA.1 bA.2.1 bA.2.2.1 bA.2.2.2.1 bA.2.2.2.2.2.2 bA.2.2.2.2.1 bA.2.2.2.2.2.1 (e7++(List.replicate bA.2.2.1.toNat 0:ar).drop e7.length) >>= fun ct =>if ct.1 then Oi eO fR dr gG e7 bA.2.2.1 bA.2.2.2.1 0 ct.2.1 ct.2.2.1 (e7++(List.replicate bA.2.2.1.toNat 0:ar).drop e7.length) ct.2.2.2.1 ct.2.2.2.2.1 ct.2.2.2.2.2 >>= fun bz =>if 0<=eO/\(8:Int)*eO<=281474976710656/\eO<9223372036854775808 then Oj (eO.toNat:Int) fR eO dr gG e7 bz.1 bz.2.1 bA.2.2.1 bA.2.2.2.1 bz.2.2.1 bz.2.2.2.1 bz.2.2.2.2 0 (List.replicate eO.toNat (none:arN):arU) >>= fun cB =>Ok (bz.2.2.2.1.length:Int) fR eO dr gG e7 bz.1 bz.2.1 bA.2.2.1 bz.2.2.2.1 bA.2.2.2.1 bz.2.2.1 bz.2.2.2.2 0 cB >>= fun fx =>yJ 0 >>= fun ef =>Ol (fx.length:Int) fR eO dr gG e7 fx ef 0 >>= fun gk =>some (0,fx,gk) else none else some (3,([]:arU),(none:arN)) else none else none) | .inr bA=>(some (2,([]:arU),(none:arN)))
set_option maxHeartbeats 4000000 in
theorem afY:bk (yC fR eO dr gG e7) (fun a=>Con bm 65 [.ref 0 0 0 0] (vb fR eO dr gG e7) (.et [.n .i64 a.1,.isl 1 (a.2.1.map (fD 3 cZ)),jx 3 cZ a.2.2]) (vb fR eO dr gG e7)):=by
 unfold yC
 exact .bJ fun r1 h2 =>
  (let BR:=m7 fR eO 1 0 0 dr.length 2 0 0 gG.length 3 0 0 e7.length;have cf:=((.dd (lD (o9 [0,1,2,3]) 5 [BR] [BR] rfl) (l6 5 [BR]) (eB 1 cy dr) (eB 1 cy gG) (eB 1 cy e7)):cO _);
  (by
  rcases r1 with bA|bA
  ·exact(.hL fun aj aq =>
  .bJ fun ct ba =>
  (let pw:=[(wT 0 0),(wT 1 0),(wT 2 0),(wT 3 0),(rl [(4,0)]),(rl [(4,1)]),(rl [(4,2)]),(rl [(4,3)]),(wT 4 4)];let vd:=kV 4 1 0 bA.2.2.2.1.length bA.1 bA.2.1 4 2 0 bA.2.2.2.2.1.length bA.2.2.1 4 3 0 bA.2.2.2.2.2.1.length;let l4:=de 2 br bA.2.2.2.2.2.2;let r3:=(e7++(List.replicate bA.2.2.1.toNat 0:ar).drop e7.length);let uc:=kV 1 0 0 bA.2.2.2.1.length ct.2.1 ct.2.2.1 3 0 0 ct.2.2.2.2.1.length bA.2.2.1 4 0 0 ct.2.2.2.2.2.length;let vT:=kV 5 0 0 bA.2.2.2.1.length bA.1 bA.2.1 6 0 0 bA.2.2.2.2.1.length bA.2.2.1 7 0 0 bA.2.2.2.2.2.1.length;let wV:=m7 fR eO 1 0 0 dr.length 2 0 0 gG.length 3 0 0 e7.length;let ud:=hC [0,1,2,3,8];let BP:=bt 1 (bT 8 0 2) bA.2.2.2.1;let zx:=bY [0,1,2,3,8];let BQ:=j5 1 2 3 fR eO dr gG e7;let FL:=o9 [4,5,8,6,7,15];let FM:=hC [4,5,8,6,7,15];let Jl:=(my bA.2.2.1.toNat (0:Int));let FN:=lX eI bA.2.2.1.toNat 0;let t2:=[(I 3),.ah (bU 1 (.call {a3:=(kz [0,1,2,3]),di:=[.bq BQ,.ax,.ax,.ax],ac:=[ii],r:= .et [.ref 4 0 0 0,.b true],eU:=[BQ,(bd dr),(bd gG),(bd e7),(aR.mk 6 [vd] .live::aR.mk 1 (bA.2.2.2.1.map (bT 4 4 2)) .live::df bA.2.2.2.2.1::d9 1 gX bA.2.2.2.2.2.1::l4)],f7:= .comp [.cr .id,.cr .id],gK:=[.bq BQ,.ax,.ax,.ax,.bq (aR.mk 6 [(kV 8 1 0 bA.2.2.2.1.length bA.1 bA.2.1 8 2 0 bA.2.2.2.2.1.length bA.2.2.1 8 3 0 bA.2.2.2.2.2.1.length)] .live::aR.mk 1 (bA.2.2.2.1.map (bT 8 4 2)) .live::df bA.2.2.2.2.1::d9 1 gX bA.2.2.2.2.2.1::l4)],en:=[0,1,2,3],d4:=false}) 5),.aS [0,1,2,3,8] [.box dt,.ax,.ax,.ax,.bq (aR.mk 6 [vd] .live::aR.mk 1 (bA.2.2.2.1.map (bT 4 4 2)) .live::df bA.2.2.2.2.1::d9 1 gX bA.2.2.2.2.2.1::l4)] [(0,ii),(2,ii),(3,ii),(4,.a6 (.cr (.v5 3))),(5,ii),(6,ii),(16,.comp [.cr .id,.cr .id]),(17,ii),(18,.comp [.cr .id,.cr .id]),(19,ii),(20,ii)],.xZ pw [([],some (.box dt)),([],some (.pure)),([],some (.pure)),([],some (.pure)),([.box [.at_ 5 0 bA.2.2.2.1.length,.id,.id,.at_ 6 0 bA.2.2.2.2.1.length,.id,.at_ 7 0 bA.2.2.2.2.2.1.length]],none),([.rx BP],none),([.ax],none),([.ax],none),([],some (.rx l4))] [(0,ii),(2,ii),(3,ii),(4,ii),(5,.a6 (.cr (.at_ 4 0 0))),(6,ii),(16,.comp [.cr (.at_ 4 0 0),.cr .id]),(17,ii),(18,.comp [.cr (.at_ 4 0 0),.cr .id]),(19,.a6 (.cr (.at_ 4 0 0))),(20,ii)],(I 2),.aI,(I 6),(I 6),.ah (bU 2 (.call {a3:=(kz [4,5,8,6,7,15]),di:=[.bq (lu 1 3 4 bA.2.2.2.1 bA.1 bA.2.1 bA.2.2.2.2.1 bA.2.2.1 bA.2.2.2.2.2.1),.bq (bt 1 (bT 2 0 2) bA.2.2.2.1),.bq l4,.ax,.ax,.cM (bd r3)],ac:=[ii,.a6 (.cr (.len (r3.length)))],r:= .b ct.1,eU:=(rM bA.2.2.2.1 ct.2.1 ct.2.2.1 ct.2.2.2.2.1 bA.2.2.1 ct.2.2.2.2.2 ct.2.2.2.1 (bd r3)),f7:=ii,gK:=[.bq (lu 5 6 7 bA.2.2.2.1 ct.2.1 ct.2.2.1 ct.2.2.2.2.1 bA.2.2.1 ct.2.2.2.2.2),.bq BP,.bq (de 2 br ct.2.2.2.1),.ax,.ax,.ax],en:=[4,5,6,7,8,15],d4:=false}) 1)];
  have e9:=cf.aw (.aP (lD ud 5 [wV] [wV] rfl) (l6 5 [wV]) (eB 1 cy dr) (eB 1 cy gG) (eB 1 cy e7) (fy (show aR.mk 6 [(kV 8 1 0 bA.2.2.2.1.length bA.1 bA.2.1 8 2 0 bA.2.2.2.2.1.length bA.2.2.1 8 3 0 bA.2.2.2.2.2.1.length)] .live=lK (hC [0,1,2,3,8]) (aR.mk 6 [(kV 4 1 0 bA.2.2.2.1.length bA.1 bA.2.1 4 2 0 bA.2.2.2.2.1.length bA.2.2.1 4 3 0 bA.2.2.2.2.2.1.length)] .live) from rfl) (fy (zF ud 8 4 4 2 rfl bA.2.2.2.1) (fy (jC ud 1 ja bA.2.2.2.2.1) (fy (jC ud 1 Qc bA.2.2.2.2.2.1) (ex ud 2 fJ bA.2.2.2.2.2.2))))) ((ku rfl (ku rfl (ku rfl (ku rfl (yK (gp 2 br bA.2.2.2.2.2.2)))))):mP (aR.mk 6 [vd] .live::aR.mk 1 (bA.2.2.2.1.map (bT 4 4 2)) .live::df bA.2.2.2.2.1::d9 1 gX bA.2.2.2.2.2.1::l4)) (Vv (.inl bA) h2) (.aP (aW dr) (aW gG) (aW e7) (fy (show aR.mk 6 [(kV 4 1 0 bA.2.2.2.1.length bA.1 bA.2.1 4 2 0 bA.2.2.2.2.1.length bA.2.2.1 4 3 0 bA.2.2.2.2.2.1.length)] .live=lK (bY [0,1,2,3,8]) (aR.mk 6 [(kV 8 1 0 bA.2.2.2.1.length bA.1 bA.2.1 8 2 0 bA.2.2.2.2.1.length bA.2.2.1 8 3 0 bA.2.2.2.2.2.1.length)] .live) from rfl) (fy (zF zx 4 8 4 2 rfl bA.2.2.2.1) (fy (jC zx 1 ja bA.2.2.2.2.1) (fy (jC zx 1 Qc bA.2.2.2.2.2.1) (ex zx 2 fJ bA.2.2.2.2.2.2))))) (aW dr) (aW gG) (aW e7) (rfl:(jn pw) 5 0=some (4,1)) (.aP (eN bA.2.2.2.1) (rfl:(jn pw) 6 0=some (4,2)) (eN bA.2.2.2.2.1) (rfl:(jn pw) 7 0=some (4,3)) (eN bA.2.2.2.2.2.1) (Ln (Ie (ml:=(bT 8 0 2)) (eg (bT 4 4 2) bA.2.2.2.1) (fun _=>rfl) (fun x=>(L3 (fun _=>rfl)) x)) LM:tf (jn pw) (bt 1 (bT 4 4 2) bA.2.2.2.1) BP) (aW bA.2.2.2.2.1) (b3 1 fF bA.2.2.2.2.2.1) (.aP (Lo (gp 2 br bA.2.2.2.2.2.2) (fun _=>rfl) fJ:tf (jn pw) l4 l4) (rfl:(jn pw) 4 0=some (4,0)) (rfl:(jn pw) 4 0=some (4,0)) (rfl:(jn pw) 4 0=some (4,0)) (rfl:(jn pw) 4 0=some (4,0)) fq aj.1 (Int.le_refl bA.2.2.1) (.aP aj.2.1 aj.2.2 (fM eI e7) (al9 (pE (eg eI e7) (eN e7)) aq) (nT FN Jl) (Zh Jl (dE _) aq) (lD FL 6 [(kV 1 0 0 bA.2.2.2.1.length bA.1 bA.2.1 3 0 0 bA.2.2.2.2.1.length bA.2.2.1 4 0 0 bA.2.2.2.2.2.1.length)] [vT] rfl) (l6 6 [vT]) (.aP (fc FL 2 8 0 2 rfl bA.2.2.2.1) (l6 1 (bA.2.2.2.1.map (bT 8 0 2))) (ex FL 2 fJ bA.2.2.2.2.2.2) (tq 2 br bA.2.2.2.2.2.2) (eB 1 cy bA.2.2.2.2.1) (eB 1 fF bA.2.2.2.2.2.1) (c4 1 (aln FN (pE (eg eI e7) (eN e7)))) (eB 1 cy r3) (.aP (lD FM 6 [(kV 5 0 0 bA.2.2.2.1.length ct.2.1 ct.2.2.1 6 0 0 ct.2.2.2.2.1.length bA.2.2.1 7 0 0 ct.2.2.2.2.2.length)] [uc] rfl) (l6 6 [uc]) (fc FM 8 2 0 2 rfl bA.2.2.2.1) (l6 1 (bA.2.2.2.1.map (bT 2 0 2))) (ex FM 2 fJ ct.2.2.2.1) (tq 2 br ct.2.2.2.1) (eB 1 cy ct.2.2.2.2.1) (eB 1 fF ct.2.2.2.2.2) (.e2 (eB 1 cy r3) (Nm ct ba)))))))));
  .b6 (fun bj =>
  .hE fun bz b1 dg =>
  .el fun cB ey fx hI =>
  .el fun ef gj gk ib =>
  .ret (let q1:=(List.replicate eO.toNat (none:arN):arU);let q2:=(e7++(List.replicate bA.2.2.1.toNat 0:ar).drop e7.length);let bB:=m7 fR eO 1 0 0 dr.length 2 0 0 gG.length 3 0 0 e7.length;let cu:=b3 1 cy dr;let dn:=b3 1 cy gG;let e3:=b3 1 cy e7;let ht:=bY [0,1,2,3,4,15,5,8,6,7];let iM:=bY [0,1,2,3,4,13,5,6,7,8];let k2:=bY [0,1,2,3,4,5,8,6,7,9];let nx:=bt 1 (bT 7 0 2) bA.2.2.2.1;let n4:=b3 1 cy bz.2.2.2.1;let qJ:=b3 1 fF bz.2.2.2.2;let mT:=de 2 br bz.2.2.1;h6 (t2.aH [.aI,(I 5),.aS [0,1,2,3,4,15,5,8,6,7] [.box dt,.ax,.ax,.ax,.box lk,.ax,.bq nx,.bq (de 2 br ct.2.2.2.1),.ax,.ax] [(0,ii),(5,ii),(fK 7 q2),(41,ii),(42,ii)],((UF eO fR dr gG e7 bA.2.2.1 bA.2.2.2.1).t bz),.ah (bU 4 (.cn [(jx 3 cZ (none:arN))]) 1),(I 3),.aS [0,1,2,3,4,13,5,6,7,8] [.box dt,.ax,.ax,.ax,.box lk,.cM (bt 1 (fD 3 cZ) q1),.bq nx,.bq mT,.ax,.ax] [(0,ii),(5,ii),(fK 9 q1),(59,ii),(60,ii)],((UG (eO.toNat:Int) fR eO dr gG e7 bz.1 bz.2.1 bA.2.2.1 bA.2.2.2.1 bz.2.2.1 bz.2.2.2.1 bz.2.2.2.2).t cB),(I 6),.aS [0,1,2,3,4,5,8,6,7,9] [.box dt,.ax,.ax,.ax,.box lk,.ax,.ax,.bq (bt 1 (bT 8 0 2) bA.2.2.2.1),.bq mT,.ax] (bf [0,5,9,71,72,73]),((UH (bz.2.2.2.1.length:Int) fR eO dr gG e7 bz.1 bz.2.1 bA.2.2.1 bz.2.2.2.1 bA.2.2.2.1 bz.2.2.1 bz.2.2.2.2).t fx),.ah (ad (i6 1 (jx 3 cZ ef) false) (ab 1 [])),(I 3),.aS [0,1,2,3,4] [.box dt,.ax,.ax,.ax,.ax] (bf [0,9,13,102,103,104]),((UI (fx.length:Int) fR eO dr gG e7 fx).t gk),(I 5)]) [0,1,2,3] [.bq (j5 1 2 3 fR eO dr gG e7),.ax,.ax,.ax] (e9.aw (.aP (b0 bj) cu dn e3 (aW q2) (fc ht 7 8 0 2 rfl bA.2.2.2.1) (ex ht 2 fJ ct.2.2.2.1) (aW ct.2.2.2.2.1) (.aP (b3 1 fF ct.2.2.2.2.2) (Zh (my bA.2.2.1.toNat (0:Int)) (dE _) aq) (cV b1 adR) dg.1 (Int.le_refl eO) dg.2.1 dg.2.2 cu (.aP dn e3 (c4 1 (lX (fD 3 cZ) eO.toNat (none:arN))) (b3 1 (qS (sz:=3) oT) q1) (fc iM 7 6 0 2 rfl bA.2.2.2.1) (ex iM 2 fJ bz.2.2.1) n4 qJ (.aP (my eO.toNat ((none:arN):arN)) (cV ey adS) cu dn e3 (b3 1 (qS (sz:=3) oT) cB) n4 (fc k2 8 7 0 2 rfl bA.2.2.2.1) (.aP (ex k2 2 fJ bz.2.2.1) qJ (cV hI adT) (OB ef gj) cu dn e3 (b3 1 (qS (sz:=3) oT) fx) (.gY (cV ib adU) (lD (bY [0,1,2,3]) 5 [bB] [bB] rfl) cu dn e3 (gy (fD 3 cZ) fx) (fM (fD 3 cZ) fx) (d8 (qS (sz:=3) oT) fx)))))))) (.comp [.cr .id,.cr (.eJ (fx.map (fD 3 cZ))),.cr .id])))
  (fun bj =>
  (let sI:=m7 fR eO 1 0 0 dr.length 2 0 0 gG.length 3 0 0 e7.length;h6 (t2.aH [.aL,(I 3)]) [0,1,2,3] [.bq (j5 1 2 3 fR eO dr gG e7),.ax,.ax,.ax] (e9.aw (.dd (cb bj) (lD (bY [0,1,2,3]) 5 [sI] [sI] rfl) (aW dr) (aW gG) (aW e7))) (.comp [.cr .id,.cr (.hf 1),.cr (.v5 3)])))))
  exact(.ret (let qc:=m7 fR eO 1 0 0 dr.length 2 0 0 gG.length 3 0 0 e7.length;let rZ:=j5 1 2 3 fR eO dr gG e7;h6 [(I 3),.ah (bU 1 (.call {a3:=(kz [0,1,2,3]),di:=[.bq rZ,.ax,.ax,.ax],ac:=[ii],r:= .et [.kJ,.b false],eU:=(vb fR eO dr gG e7),f7:=ii,gK:=[.bq rZ,.ax,.ax,.ax],en:=[0,1,2,3],d4:=false}) 5),(I 2),.aL,(I 3)] [0,1,2,3] [.bq rZ,.ax,.ax,.ax] (cf.aw (.aP (lD (hC [0,1,2,3]) 5 [qc] [qc] rfl) (l6 5 [qc]) (eB 1 cy dr) (eB 1 cy gG) (eB 1 cy e7) (Vv (.inr bA) h2) bp (lD (bY [0,1,2,3]) 5 [qc] [qc] rfl) (.bG (aW dr) (aW gG) (aW e7)))) (.comp [.cr .id,.cr (.hf 1),.cr (.v5 3)])))))
def Lc (ao:arN):ar2 :=ao.elim (some (none:arN)) fun ev =>tt ev.uX >>= fun aX =>some (some (⟨aX,ev.tc⟩:eL))
theorem ahg:bk (Lc ao) (fun r=>Con bm 110 [(jx 3 cZ ao)] [] (jx 3 cZ r) []):=.m6 (fun h1=>.ret (bg [(I 1),.ah (ab 1 (ad (.gb 3 (.hr 3 none) .eA) [])),.aL,(I 1)] (.e2 (BK (sz:=3) (f:=cZ) h1) bp) (.a6 (.cr (.v5 3))))) (fun ev h1=>.bJ fun aX aj=>.ret (bg [(I 1),.ah (ab 1 (ad (.gb 3 (.hr 3 (some (cZ ev))) .eA) [])),.aI,.ah (ab 1 (ad (.gb 5 (.hr 3 (some (cZ ev))) .eA) (ab 2 (ad (ik 1 aX) (bU 1 (.gb 10 (.hr 3 (some (cZ ev))) .eA) 5)))))] (.eC (ow h1) fq (ow h1) (Kf aX aj) (ow h1) (oU (oT (⟨aX,ev.tc⟩:eL)):j3 [[.b aX.cQ,.isl 1 (aX.bZ.map eI),.isl 1 (ev.tc.map eI)]])) (.a6 (.y9 [.id,.id,.id]))))
def EL (cP:arN):ar2 :=cP >>= fun fu =>if decide ((24:Int)<(aE eI fu.uX.bZ)) then some (none:arN) else if decide ((24:Int)<(aE eI fu.tc)) then some (none:arN) else some cP
theorem ahh:bk (EL cP) (fun r=>Con bm 156 [(jx 3 cZ cP)] [] (jx 3 cZ r) []):=.bJ fun fu h2=>(have cf:=((.e1 (ow h2)):cO _);.e4 (fun R=>(bg [(I 1),.ah (ab 1 (ad (.gb 3 (.hr 3 (some (cZ fu))) .eA) (ll 6 6))),.aL,(I 1)] (cf.aw (.gY R R R R R R R bp)) (.a6 (.cr (.v5 3))))) (fun R=>(let t2:=[(I 1),.ah (ab 1 (ad (.gb 3 (.hr 3 (some (cZ fu))) .eA) (ab 7 (ad (.gb 11 (.hr 3 (some (cZ fu))) .eA) (kU 4)))))];have e9:=cf.aw (.gY R R (ow h2) R R R R R);.gF (fun aj=>(bg (t2.aH [.aL,(I 1)]) (e9.aw (.e1 aj)) (.a6 (.cr (.v5 3))))) (fun aj=>(bg (t2.aH [.aI,(I 2)]) (e9.aw (.e1 aj)))))))
def AP (ao aN:arN):ar2 :=ao.elim (some (none:arN)) fun ev =>aN.elim (some (none:arN)) fun jy =>D8 ao aN >>= fun aQ =>EL aQ >>= fun bx =>some bx
theorem Wv:bk (AP ao aN) (fun r=>Con bm 111 [jx 3 cZ ao,jx 3 cZ aN] [] (jx 3 cZ r) []):=.m6 (fun h1=>.ret (bg [(I 1),.ah (ab 1 (ad (.gb 5 (.hr 3 none) .eA) (ab 1 (cX 2 (ab 1 []))))),.aL,(I 1)] (.cR (BK (sz:=3) (f:=cZ) h1) bp bp bp) (.a6 (.cr (.v5 3))))) (fun ev h1=>(have cf:=((.bG (ow h1) fq fq):cO _);.m6 (fun R=>.ret (bg [(I 1),.ah (ab 1 (ad (.gb 5 (.hr 3 (some (cZ ev))) .eA) (bU 2 (.gb 8 (.hr 3 none) .eA) 1))),.aL,(I 1)] (cf.aw (.e2 (BK (sz:=3) (f:=cZ) R) bp)) (.a6 (.cr (.v5 3))))) (fun jy R=>.el fun aQ aM bx bj=>.ret (bg [(I 1),.ah (ab 1 (ad (.gb 5 (.hr 3 (some (cZ ev))) .eA) (bU 2 (.gb 8 (.hr 3 (some (cZ jy))) .eA) 1))),.aI,.ah (ab 2 (ad (i6 2 (jx 3 cZ aQ) false) (ad (i6 1 (jx 3 cZ bx) false) (ab 1 []))))] (cf.aw (.cR (ow R) fq (Ug aQ aM) (ahh bx bj)))))))
def SH (cP:arU)(gm:arX)(kH:Int):ea (Int×arU) arU:=⟨fun (jr,af)=>dv [(1,.isl 1 (cP.map (fD 3 cZ))),(gw 5 af),(16,.isl 2 (gm.map fV)),(aT 17 kH),(aT 18 jr)] [(bt 1 (fD 3 cZ) af)],fun | a=>⟨some 0,[(gw 5 a)],[(bt 1 (fD 3 cZ) a)]⟩⟩
def CF (cP:arU)(gm:arX)(kH jr:Int)(af:arU):Option ((Int×arU)⊕(arU)) :=if decide (jr<kH) then if 0<=jr/\jr<gm.length then gm[jr.toNat]? >>= fun ag =>if 0<=jr/\jr<cP.length then cP[jr.toNat]? >>= fun ch =>if decide (ag.tM<0) then Lc ch >>= fun bz =>if 0<=ag.iv/\ag.iv<af.length then af[(0+ag.iv.toNat)]? >>= fun wW =>wW.elim (if (0+ag.iv.toNat)<af.length then some (.inl (J (jr+1),af.set (0+ag.iv.toNat) bz)) else none) fun aaQ =>AP wW bz >>= fun ef =>if (0+ag.iv.toNat)<af.length then some (.inl (J (jr+1),af.set (0+ag.iv.toNat) ef)) else none else none else if 0<=ag.iv/\ag.iv<af.length then af[(0+ag.iv.toNat)]? >>= fun i4 =>i4.elim (if (0+ag.iv.toNat)<af.length then some (.inl (J (jr+1),af.set (0+ag.iv.toNat) ch)) else none) fun aaR =>AP i4 ch >>= fun fx =>if (0+ag.iv.toNat)<af.length then some (.inl (J (jr+1),af.set (0+ag.iv.toNat) fx)) else none else none else none else none else some (.inr af)
def S3 (cP:arU)(gm:arX)(kH jr:Int)(af:arU):Option (arU):=iter (fun w:Int×arU=>CF cP gm kH w.1 w.2) (jr,af)
theorem acF:bk (CF cP gm kH jr af) (ed bm 56 0 67 [1,1,0,1,0,0] (SH cP gm kH) (jr,af)):=.b6 (fun h1=>.bX fun h2 ag aj=>.bX fun aq ch ba=>(let t1:=[(I 1),.aL,.ah (bU 2 (.cn (fV ag)) 3),.ah (bU 3 (.cn ((fD 3 cZ) ch)) 1),(I 3)];have aU:=((.fm h1 h2.1 (dk fV h2.2) (bO fV aj) aq.1 (dk (fD 3 cZ) aq.2) (bO (fD 3 cZ) ba)):cO _);.ite (fun bj=>.hE fun bz b1 dg=>.bJ fun wW ey=>(let t3:=t1.aH [.aL,.ah (bU 1 (i6 1 (jx 3 cZ bz) false) 1)];have eV:=aU.aw (.dd bj (ahg bz b1) dg.1 dg.2 (bO (fD 3 cZ) ey));.m6 (fun ez=>.gR fun hl=>.ret (a5 (t3.aH [.ah (ab 4 (ad (.cn ((fD 3 cZ) wW)) (ad (.gb 36 (.hr 3 none) .eA) []))),.aL,.ah (ab 5 (ad .eA [])),(I 2),.aS [0] [.cM (bt 1 (fD 3 cZ) (af.set (0+ag.iv.toNat) bz))] [(1,ii),(fK 5 (af.set (0+ag.iv.toNat) bz)),(16,ii),(17,ii),(18,ii)]]) (eV.aw (.aP (BK (sz:=3) (f:=cZ) ez) bp dg.1 dg.2 (hJ (fD 3 cZ) hl) (hB 1) (c4 1 (h9 (fD 3 cZ) af ag.iv bz)) (b3 1 (qS (sz:=3) oT) (af.set (0+ag.iv.toNat) bz)) (.e1 (hy af ag.iv bz)))))) (fun aaQ ez=>.hE fun ef gj iF=>.ret (a5 (t3.aH [.ah (ab 4 (ad (.cn ((fD 3 cZ) wW)) (ad (.gb 36 (.hr 3 (some (cZ aaQ))) .eA) []))),.aI,.ah (ab 7 (ad (.cn ((fD 3 cZ) wW)) (ab 1 (ad (i6 2 (jx 3 cZ ef) false) (ab 1 (ad .eA [])))))),(I 2),.aS [0] [.cM (bt 1 (fD 3 cZ) (af.set (0+ag.iv.toNat) ef))] [(1,ii),(fK 5 (af.set (0+ag.iv.toNat) ef)),(16,ii),(17,ii),(18,ii)]]) (eV.aw (.aP (ow ez) fq dg.1 dg.2 (bO (fD 3 cZ) ey) (Wv ef gj) dg.1 dg.2 (.dd (hJ (fD 3 cZ) iF) (hB 1) (c4 1 (h9 (fD 3 cZ) af ag.iv ef)) (b3 1 (qS (sz:=3) oT) (af.set (0+ag.iv.toNat) ef)) (hy af ag.iv ef)))))))) (fun bj=>.bX fun ck i4 dg=>(have e9:=aU.aw (.cR bj ck.1 ck.2 (bO (fD 3 cZ) dg));.m6 (fun eT=>.gR fun ez=>.ret (a5 (t1.aH [.aI,.ah (ab 4 (ad (.cn ((fD 3 cZ) i4)) (ad (.gb 36 (.hr 3 none) .eA) []))),.aL,.ah (ab 5 (ad .eA [])),(I 2),.aS [0] [.cM (bt 1 (fD 3 cZ) (af.set (0+ag.iv.toNat) ch))] [(1,ii),(fK 5 (af.set (0+ag.iv.toNat) ch)),(16,ii),(17,ii),(18,ii)]]) (e9.aw (.aP (BK (sz:=3) (f:=cZ) eT) bp ck.1 ck.2 (hJ (fD 3 cZ) ez) (hB 1) (c4 1 (h9 (fD 3 cZ) af ag.iv ch)) (b3 1 (qS (sz:=3) oT) (af.set (0+ag.iv.toNat) ch)) (.e1 (hy af ag.iv ch)))))) (fun aaR eT=>.hE fun fx hI hl=>.ret (a5 (t1.aH [.aI,.ah (ab 4 (ad (.cn ((fD 3 cZ) i4)) (ad (.gb 36 (.hr 3 (some (cZ aaR))) .eA) []))),.aI,.ah (ab 7 (ad (.cn ((fD 3 cZ) i4)) (ab 1 (ad (i6 2 (jx 3 cZ fx) false) (ab 1 (ad .eA [])))))),(I 2),.aS [0] [.cM (bt 1 (fD 3 cZ) (af.set (0+ag.iv.toNat) fx))] [(1,ii),(fK 5 (af.set (0+ag.iv.toNat) fx)),(16,ii),(17,ii),(18,ii)]]) (e9.aw (.aP (ow eT) fq ck.1 ck.2 (bO (fD 3 cZ) dg) (Wv fx hI) ck.1 ck.2 (.dd (hJ (fD 3 cZ) hl) (hB 1) (c4 1 (h9 (fD 3 cZ) af ag.iv fx)) (b3 1 (qS (sz:=3) oT) (af.set (0+ag.iv.toNat) fx)) (hy af ag.iv fx)))))))))) (fun h1=>(a5 (n0 1 0 5) (.e2 h1 (b3 1 (qS (sz:=3) oT) af))))
def Gt (aV:cT)(cP:arU):Option arU :=if 0<=(aE ca aV.bE)/\(8:Int)*(aE ca aV.bE)<=281474976710656/\(aE ca aV.bE)<9223372036854775808 then yp aV >>= fun r2 =>S3 cP r2 (aE fV r2) 0 (List.replicate (aE ca aV.bE).toNat (none:arN):arU) >>= fun bb =>some bb else none
theorem ad7:bk (Gt aV cP) (fun r=>Con bm 67 [.gv 2 [(h4 aV)] 0 0,.isl 1 (cP.map (fD 3 cZ))] [] (.isl 1 (r.map (fD 3 cZ))) []):=.bX fun h1 r2 R=>.bJ fun bb aq=>.ret (let q2:=aE ca aV.bE;let q1:=(List.replicate q2.toNat (none:arN):arU);bg [(I 1),.ah (bU 5 (.cn [(jx 3 cZ (none:arN))]) 1),.ah (bU 1 (i6 1 (.isl 2 (r2.map fV)) false) 2),.aS [6] [.cM (bt 1 (fD 3 cZ) q1)] [(1,ii),(fK 5 q1),(16,ii),(17,ii),(18,ii)],((SH cP r2 (aE fV r2)).t bb),(I 2)] (.aP h1.1 (Int.le_refl q2) h1.2.1 h1.2.2 (Kd r2 R) (c4 1 (lX (fD 3 cZ) q2.toNat (none:arN))) (b3 1 (qS (sz:=3) oT) q1) (my q2.toNat ((none:arN):arN)) (.cR (cV aq acF) (gy (fD 3 cZ) bb) (fM (fD 3 cZ) bb) (d8 (qS (sz:=3) oT) bb))) (.a6 (.cr (.eJ (bb.map (fD 3 cZ))))))
def vk (aV:cT)(zf y7:Int)(eD dr gG:ar):Option (arU×arU×Bool) :=yC zf y7 eD dr gG >>= fun r1 =>if r1.1 != 0 then some (([]:arU),([]:arU),false) else yp aV >>= fun bb =>if 0<=(aE fV bb) then if 0<=(aE fV bb).toNat/\(aE fV bb).toNat<=r1.2.1.length then Gt aV ((r1.2.1.drop 0).take ((aE fV bb).toNat-0)) >>= fun a9 =>if (aE fV bb).toNat<=r1.2.1.length then some (a9,(r1.2.1.drop ((aE fV bb).toNat)).take ((r1.2.1.map (fD 3 cZ)).length-(aE fV bb).toNat),true) else none else none else none
theorem adi:bk (vk aV zf y7 eD dr gG) (fun a=>Con bm 32 [.gv 2 [(h4 aV)] 0 0,.agg (m7 zf y7 0 0 0 eD.length 1 0 0 dr.length 2 0 0 gG.length)] [(bd eD),(bd dr),(bd gG)] (.et [.isl 1 (a.1.map (fD 3 cZ)),.isl 1 (a.2.1.map (fD 3 cZ)),.b a.2.2]) [(bd eD),(bd dr),(bd gG)]):=.bJ fun r1 h2=>(let bB:=m7 zf y7 1 0 0 eD.length 2 0 0 dr.length 3 0 0 gG.length;let cu:=m7 zf y7 0 0 0 eD.length 1 0 0 dr.length 2 0 0 gG.length;let t1:=[(I 4),.ah (ad (.call {a3:=(kz [3,0,1,2]),di:=[.bq (j5 1 2 3 zf y7 eD dr gG),.ax,.ax,.ax],ac:=[ii],r:= .et [.n .i64 r1.1,.isl 1 (r1.2.1.map (fD 3 cZ)),jx 3 cZ r1.2.2],eU:=(vb zf y7 eD dr gG),f7:=ii,gK:=[.bq (j5 0 1 2 zf y7 eD dr gG),.ax,.ax,.ax],en:=[0,1,2,3],d4:=false}) (ab 7 [])),(I 2)];have aU:=((.aP (lD (o9 [3,0,1,2]) 5 [bB] [cu] rfl) (l6 5 [cu]) (eB 1 cy eD) (eB 1 cy dr) (eB 1 cy gG) (lD (hC [3,0,1,2]) 5 [cu] [bB] rfl) (l6 5 [bB]) (eB 1 cy eD) (.bG (eB 1 cy dr) (eB 1 cy gG) (afY r1 h2))):cO _);.e4 (fun R=>(h6 (t1.aH [.aL,(I 3)]) [0,1,2] [.ax,.ax,.ax] (aU.aw (.cR R (aW eD) (aW dr) (aW gG))) (.comp [.cr (.hf 1),.cr (.hf 1),.cr .id]))) (fun R=>.hE fun bb aq aM=>.bX fun ba a9 ck=>.gR fun b1=>.ret (let q1:=aE fV bb;let q2:=eg (fD 3 cZ) r1.2.1;h6 (t1.aH [.aI,.ah (bU 1 (i6 1 (.isl 2 (bb.map fV)) false) 2),.ah (bU 4 (.call {ac:=[ii,.a6 (.cr (.cM (.isl 1 (((r1.2.1.drop 0).take (q1.toNat-0)).map (fD 3 cZ)))))],r:= .isl 1 (a9.map (fD 3 cZ)),d4:=false}) 6)]) [0,1,2] [.ax,.ax,.ax] (aU.aw (.aP R (Kd bb aq) aM ba.1 (sk q2 ba.2) (congrArg (aA.isl 1) (oF q2 0 (q1.toNat-0)):(.isl 1 (((r1.2.1.map (fD 3 cZ)).drop 0).take (q1.toNat-0)):aA) = .isl 1 (((r1.2.1.drop 0).take (q1.toNat-0)).map (fD 3 cZ))) (ad7 a9 ck) aM (.eC (alk q2▸b1:q1.toNat<=(r1.2.1.map (fD 3 cZ)).length) (dE ((r1.2.1.map (fD 3 cZ)).length)) (aW eD) (aW dr) (aW gG) (congrArg (aA.isl 1) (oF q2 (q1.toNat) ((r1.2.1.map (fD 3 cZ)).length-q1.toNat)):(.isl 1 (((r1.2.1.map (fD 3 cZ)).drop (q1.toNat)).take ((r1.2.1.map (fD 3 cZ)).length-q1.toNat)):aA) = .isl 1 (((r1.2.1.drop (q1.toNat)).take ((r1.2.1.map (fD 3 cZ)).length-q1.toNat)).map (fD 3 cZ)))))) (.comp [.cr .id,.cr (.cM (.isl 1 (((r1.2.1.drop (q1.toNat)).take ((r1.2.1.map (fD 3 cZ)).length-q1.toNat)).map (fD 3 cZ)))),.cr .id]))))
def AE (aV:ar):Option (Unit⊕ar) :=if aV.length*8<=140737488355328 then (match aV with|[]=>some (.inl ())|x::l=>some (.inr (x::l))) else none
theorem ahi:Con bm 116 [.fQ] [] (.isl 1 []) []:=bg [(I 1),(I 2),.aL,(I 1)] (.e1 bp) (.a6 (.cr (.hf 1)))
theorem ahj:Con bm 116 [.kM] [] (.isl 1 []) []:=by have h:=fun (h1:(([]:ar)++([]:ar)).length*8<=140737488355328)=>(bg [(I 1),(I 2),.aI,.ah (hH 2 (([]:ar)++([]:ar)) 1)] (.fm fq (nT (im eI) (fH Int)) (mz (fH Int) (im eI):(([]:ar)++([]:ar)).length=0+([]:List (List aA)).length) h1 (od (mK (im eI) (fH Int) (im eI)) (eN (([]:ar)++([]:ar)))) (nl (mK (im eI) (fH Int) (im eI)) (eN (([]:ar)++([]:ar)))) (d8 cy (([]:ar)++([]:ar)))) (.a6 (.cr (.eJ ((([]:ar)++([]:ar)).map eI)))):Con bm 116 [.kM] [] (.isl 1 []) []);exact h (by decide)
theorem ahk (x:Int)(l:ar)(h1:(([]:ar)++(x::l)).length*8<=140737488355328):Con bm 116 [.isl 1 ((x::l).map eI)] [] (.bw 0 0 0 (([]:ar)++(x::l)).length) [(bd (([]:ar)++(x::l)))]:=h6 [(I 1),.ah (ab 1 (ad .eA [])),.aI,.ah (hH 2 (([]:ar)++(x::l)) 1)] [5] [.cM (bd (([]:ar)++(x::l)))] (.fm (by simp:(x::l).map eI≠[]) fq (nT (im eI) (fH Int)) (mz (fH Int) (eg eI (x::l)):(([]:ar)++(x::l)).length=0+((x::l).map eI).length) h1 (c4 1 (ot eI (x::l))) (aW (([]:ar)++(x::l))))
theorem Eo:bk (AE aV) (Sum.elim (fun _=>Con bm 116 [.isl 1 (aV.map eI)] [] (.isl 1 []) []) (fun a=>Con bm 116 [.isl 1 (aV.map eI)] [] (.bw 0 0 0 a.length) [(bd a)])):=by
 unfold AE;refine .gR fun h=> ?_
 cases aV with
 | nil=>exact .ret (Con.kT ahi ahj)
 | cons x l =>
  have h2:=ahk x l (by simpa using h);exact .ret (by simpa using h2)
def Gu (cP:bK):Option ((Bool)⊕(Bool×ar)) :=if decide ((60:Int)<(aE eI cP.bZ)) then some (.inl false) else AE cP.bZ >>= fun r2 =>match r2 with | .inl eE=>(some (.inl cP.cQ)) | .inr eE=>(some (.inr (cP.cQ,eE)))
theorem S4:bk (Gu cP) (Sum.elim (fun a=>Con bm 115 [.agg (br cP)] [] (.agg [.b a,.isl 1 (([]:ar).map eI)]) []) (fun a=>Con bm 115 [.agg (br cP)] [] (.agg [.b a.1,.bw 0 0 0 a.2.length]) [(bd a.2)])):=by
 unfold Gu
 exact .e4 (fun h1 =>
  (h6 [(I 2),(I 4),.aL,(I 2)] [] [] (.e1 h1) (.a6 (.agg [.id,.hf 1]))))
  (fun h1 =>
  .bJ fun r2 R =>
  (let t1:=[(I 2),(I 4),.aI];
  (by
  rcases r2 with eE|eE
  ·exact(.ret (h6 (t1.aH [.ah (bU 4 (.call {a3:=[],di:=[],ac:=[ii],r:= .isl 1 (([]:ar).map eI),eU:=[],f7:=ii,gK:=[],en:=[],d4:=true}) 2)]) [] [] (.bG h1 (Eo (.inl eE) R) (bD.kT _:bD (.isl 1 (([]:ar).map eI))))))
  exact(.ret (h6 (t1.aH [.ah (bU 4 (.call (x3 eE)) 2)]) [10] [.ax] (.eC h1 (eB 1 cy eE) (Eo (.inr eE) R) (mj eE) (th eE) (aW eE)) (.a6 (.agg [.id,.id])))))))
def Ap (cP:arN):Option ((Bool)⊕((Bool×ar)⊕((Bool×ar)⊕(Bool×ar×ar)))) :=cP.elim (some (.inl false)) fun ev =>Gu ev.uX >>= fun aX =>match aX with | .inl gS=>(AE ev.tc >>= fun ct =>match ct with | .inl i9=>(some (.inl gS)) | .inr i9=>(some (.inr (.inl (gS,i9))))) | .inr gS=>(AE ev.tc >>= fun ct =>match ct with | .inl i9=>(some (.inr (.inr (.inl (gS.1,gS.2))))) | .inr i9=>(some (.inr (.inr (.inr (gS.1,gS.2,i9))))))
theorem Kp:bk (Ap cP) (Sum.elim (fun a=>Con bm 71 [(jx 3 cZ cP)] [] (.agg [.b a,.isl 1 (([]:ar).map eI),.isl 1 (([]:ar).map eI)]) []) (Sum.elim (fun a=>Con bm 71 [(jx 3 cZ cP)] [] (.agg (Ra a.1 ([]:ar) 0 0 0 a.2.length)) [(bd a.2)]) (Sum.elim (fun a=>Con bm 71 [(jx 3 cZ cP)] [] (.agg (Rb a.1 0 0 0 a.2.length ([]:ar))) [(bd a.2)]) (fun a=>Con bm 71 [(jx 3 cZ cP)] [] (.agg (Rc a.1 0 0 0 a.2.1.length 0 1 0 a.2.2.length)) [[df a.2.1,df a.2.2]])))):=by
 unfold Ap
 exact .m6 (fun h1 =>
  .ret (h6 [(I 1),.ah (ab 1 (ad (.gb 3 (.hr 3 none) .eA) [])),.aL,(I 2)] [] [] (.e2 (BK (sz:=3) (f:=cZ) h1) bp) (.a6 (.agg [.id,.hf 1,.hf 1]))))
  (fun ev h1 =>
  .bJ fun aX aj =>
  (let t1:=[(I 1),.ah (ab 1 (ad (.gb 3 (.hr 3 (some (cZ ev))) .eA) [])),.aI];
  have aU:=((.bG (ow h1) fq (ow h1)):cO _);
  (by
  rcases aX with gS|gS
  ·exact(.bJ fun ct ba =>
  (have e9:=aU.aw (.bG (S4 (.inl gS) aj) (bD.agg (hO (bD.b gS) (hO (bD.kT _:bD (.isl 1 (([]:ar).map eI))) nn))) (ow h1));
  (by
  rcases ct with i9|i9
  ·exact(.ret (h6 (t1.aH [.ah (ab 1 (ad (.gb 6 (.hr 3 (some (cZ ev))) .eA) (ab 2 (ad (.call {a3:=[],di:=[],ac:=[ii],r:= .agg [.b gS,.isl 1 (([]:ar).map eI)],eU:=[],f7:=ii,gK:=[],en:=[],d4:=true}) (ab 1 (ad (.gb 11 (.hr 3 (some (cZ ev))) .eA) (bU 2 (.call {a3:=[],di:=[],ac:=[ii],r:= .isl 1 (([]:ar).map eI),eU:=[],f7:=ii,gK:=[],en:=[],d4:=true}) 2)))))))]) [] [] (e9.aw (.e2 (Eo (.inl i9) ba) (bD.kT _:bD (.isl 1 (([]:ar).map eI)))))))
  ·exact(.ret (h6 (t1.aH [.ah (ab 1 (ad (.gb 6 (.hr 3 (some (cZ ev))) .eA) (ab 2 (ad (.call {a3:=[],di:=[],ac:=[ii],r:= .agg [.b gS,.isl 1 (([]:ar).map eI)],eU:=[],f7:=ii,gK:=[],en:=[],d4:=true}) (ab 1 (ad (.gb 11 (.hr 3 (some (cZ ev))) .eA) (bU 2 (.call (x3 i9)) 2)))))))]) [12] [.ax] (e9.aw (.dd (eB 1 cy i9) (Eo (.inr i9) ba) (mj i9) (th i9) (aW i9))) (.a6 (.agg [.id,.id,.id])))))))
  ·exact(.bJ fun ct ba =>
  (have e9:=aU.aw (.dd (eB 1 cy gS.2) (S4 (.inr gS) aj) (bD.agg (hO (bD.b gS.1) (hO (mj gS.2) nn))) (th gS.2) (ow h1));
  (by
  rcases ct with i9|i9
  ·exact(.ret (h6 (t1.aH [.ah (ab 1 (ad (.gb 6 (.hr 3 (some (cZ ev))) .eA) (ab 2 (ad (.call {a3:=[],di:=[],ac:=[ii],r:= .agg [.b gS.1,.bw 0 0 0 gS.2.length],eU:=[(bd gS.2)],f7:= .a6 (.agg [.id,.id]),gK:=[.ax],en:=[],d4:=true}) (ab 1 (ad (.gb 11 (.hr 3 (some (cZ ev))) .eA) (bU 2 (.call {a3:=[],di:=[],ac:=[ii],r:= .isl 1 (([]:ar).map eI),eU:=[],f7:=ii,gK:=[],en:=[],d4:=true}) 2)))))))]) [7] [.ax] (e9.aw (.bG (Eo (.inl i9) ba) (bD.kT _:bD (.isl 1 (([]:ar).map eI))) (aW gS.2))) (.a6 (.agg [.id,.id,.id]))))
  exact(.ret (h6 (t1.aH [.ah (ab 1 (ad (.gb 6 (.hr 3 (some (cZ ev))) .eA) (ab 2 (ad (.call {a3:=[],di:=[],ac:=[ii],r:= .agg [.b gS.1,.bw 0 0 0 gS.2.length],eU:=[(bd gS.2)],f7:= .a6 (.agg [.id,.id]),gK:=[.ax],en:=[],d4:=true}) (ab 1 (ad (.gb 11 (.hr 3 (some (cZ ev))) .eA) (bU 2 (.call (x3 i9)) 2))))))),.xZ [{bI:=[(7,0),(12,0)],lz:=none},(rl [(0,0)])] [([.ax,.ax],none),([.box [.id,.at_ 0 0 gS.2.length,.at_ 0 1 i9.length]],none)] [(2,.a6 (.cr (.at_ 1 0 0)))]]) [0] [.bq [df gS.2,df i9]] (e9.aw (.aP (eB 1 cy i9) (Eo (.inr i9) ba) (mj i9) (th i9) (aW gS.2) (aW i9) (rfl:(jn [{bI:=[(7,0),(12,0)],lz:=none},(rl [(0,0)])]) 0 0=some (7,0)) (eN gS.2) (.cR (rfl:(jn [{bI:=[(7,0),(12,0)],lz:=none},(rl [(0,0)])]) 0 1=some (12,0)) (eN i9) (rfl:(jn [{bI:=[(7,0),(12,0)],lz:=none},(rl [(0,0)])]) 1 0=some (0,0)) (pJ (bY [0]) gS.2 i9)))) (.a6 (.agg [.id,.id,.id]))))))))))
def Uh (fB:arU)(fz:Int):ea (Int×arV×arR) ((arV×arR)⊕(Unit)):=⟨fun (eX,gB,bL)=>dv [(gw 4 gB),(10,.isl 1 (fB.map (fD 3 cZ))),(aT 11 fz),(aT 12 eX)] [(aR.mk 3 (gB.map (dq 0 1)) .live::(de 1 eI bL))],fun | .inl a=>⟨some 0,[(gw 4 a.1)],[(aR.mk 3 (a.1.map (dq 0 1)) .live::(de 1 eI a.2))]⟩ | .inr a=>⟨none,[(2,.fQ),(3,.b false)],[]⟩⟩
def Dl (fB:arU)(fz eX:Int)(gB:arV)(bL:arR):Option ((Int×arV×arR)⊕((arV×arR)⊕(Unit))) :=if decide (eX<fz) then if 0<=eX/\eX<fB.length then fB[eX.toNat]? >>= fun ag =>ag.elim (some (.inr (.inr ()))) fun vi =>Ap ag >>= fun bx =>match bx with | .inl eo=>(if 0<=eX/\eX<gB.length then if (0+eX.toNat)<gB.length then some (.inl (J (eX+1),gB.set (0+eX.toNat) (⟨(⟨eo,(none:bF)⟩:hX),(none:bF)⟩:eH),bL)) else none else none) | .inr (.inl eo)=>(if 0<=eX/\eX<gB.length then if (0+eX.toNat)<gB.length then some (.inl (J (eX+1),gB.set (0+eX.toNat) (⟨(⟨eo.1,(none:bF)⟩:hX),(some (bL.length,eo.2.length))⟩:eH),bL++[eo.2])) else none else none) | .inr (.inr (.inl eo))=>(if 0<=eX/\eX<gB.length then if (0+eX.toNat)<gB.length then some (.inl (J (eX+1),gB.set (0+eX.toNat) (⟨(⟨eo.1,(some (bL.length,eo.2.length))⟩:hX),(none:bF)⟩:eH),bL++[eo.2])) else none else none) | .inr (.inr (.inr eo))=>(if 0<=eX/\eX<gB.length then if (0+eX.toNat)<gB.length then some (.inl (J (eX+1),gB.set (0+eX.toNat) (⟨(⟨eo.1,(some (bL.length,eo.2.1.length))⟩:hX),(some ((bL.length+1),eo.2.2.length))⟩:eH),bL++[eo.2.1,eo.2.2])) else none else none) else none else some (.inr (.inl (gB,bL)))
def U6 (fB:arU)(fz eX:Int)(gB:arV)(bL:arR):Option ((arV×arR)⊕(Unit)):=iter (fun w:Int×arV×arR=>Dl fB fz w.1 w.2.1 w.2.2) (eX,gB,bL)
theorem SI:bk (Dl fB fz eX gB bL) (ed bm 26 0 34 [1,1,0,1,0,0] (Uh fB fz) (eX,gB,bL)):=by
 unfold Dl
 exact .b6 (fun h1 =>
  .bX fun h2 ag aj =>
  (let t1:=[(I 1),.aL,.ah (bU 2 (.cn ((fD 3 cZ) ag)) 2)];
  have aU:=((.cR h1 h2.1 (dk (fD 3 cZ) h2.2) (bO (fD 3 cZ) aj)):cO _);
  .m6 (fun aq =>
  .ret (a5 (t1.aH [.ah (ab 1 (ad (.gb 17 (.hr 3 none) .eA) [])),.aL,(I 2),.aS [] [] (bf [2,3])]) (aU.aw (.e2 (BK (sz:=3) (f:=cZ) aq) bp))))
  (fun vi aq =>
  .bJ fun bx bj =>
  (let t3:=t1.aH [.ah (ab 1 (ad (.gb 17 (.hr 3 (some (cZ vi))) .eA) [])),.aI];
  have eV:=aU.aw (.e2 (ow aq) fq);
  (by
  rcases bx with eo|eo|eo|eo
  ·exact(.hL fun b1 dg =>
  .ret (a5 (t3.aH [.ah (ab 3 (ad (.call {a3:=[],di:=[],ac:=[ii],r:= .agg [.b eo,.isl 1 (([]:ar).map eI),.isl 1 (([]:ar).map eI)],eU:=[],f7:=ii,gK:=[],en:=[],d4:=true}) (ab 1 (ad (.gb 22 (.agg [.b eo,jJ 0 1 1 (none:bF),jJ 0 1 1 (none:bF)]) .eA) [])))),(I 2),.aS [0] [.bq (aR.mk 3 ((gB.set (0+eX.toNat) (⟨(⟨eo,(none:bF)⟩:hX),(none:bF)⟩:eH)).map (dq 0 1)) .live::(de 1 eI bL))] [(fK 4 (gB.set (0+eX.toNat) (⟨(⟨eo,(none:bF)⟩:hX),(none:bF)⟩:eH))),(10,ii),(11,ii),(12,ii)]]) (eV.aw (.aP (Kp (.inl eo) bj) (bD.agg (hO (bD.b eo) (hO (bD.kT _:bD (.isl 1 (([]:ar).map eI))) (hO (bD.kT _:bD (.isl 1 (([]:ar).map eI))) nn)))) b1.1 b1.2 (LK ⟨.refl _,.n2 0 1 1,.n2 0 1 1,trivial⟩:lI (.agg [.b eo,.isl 1 (([]:ar).map eI),.isl 1 (([]:ar).map eI)]) (.agg [.b eo,jJ 0 1 1 (none:bF),jJ 0 1 1 (none:bF)])) (hJ (dq 0 1) dg) (hB 3) (fy (lC (b7:=(bY [0])) 3 .live (dq 0 1) (h9 (dq 0 1) gB eX (⟨(⟨eo,(none:bF)⟩:hX),(none:bF)⟩:eH)) (fun x=>(pD (rfl:(bY [0]) 0=some 0)) x)) (ex (bY [0]) 1 ja bL)) (.e1 (hy gB eX (⟨(⟨eo,(none:bF)⟩:hX),(none:bF)⟩:eH)))))))
  ·exact(.hL fun b1 dg =>
  .ret (a5 (t3.aH [.ah (ab 3 (ad (.v7 0 (bL.length+1) (.call {a3:=[],di:=[],ac:=[ii],r:= .agg (Ra eo.1 ([]:ar) 0 0 0 eo.2.length),eU:=[(bd eo.2)],f7:= .a6 (.agg [.id,.id,.id]),gK:=[.ax],en:=[],d4:=true})) (ab 1 (ad (.gb 22 (.agg [.b eo.1,jJ 0 1 1 (none:bF),jJ 0 1 1 (some (bL.length,eo.2.length))]) .eA) [])))),(I 2),.aS [0] [.bq (aR.mk 3 ((gB.set (0+eX.toNat) (⟨(⟨eo.1,(none:bF)⟩:hX),(some (bL.length,eo.2.length))⟩:eH)).map (dq 0 1)) .live::(de 1 eI (bL++[eo.2])))] [(fK 4 (gB.set (0+eX.toNat) (⟨(⟨eo.1,(none:bF)⟩:hX),(some (bL.length,eo.2.length))⟩:eH))),(10,ii),(11,ii),(12,ii)]]) (eV.aw (.aP (eB 1 cy eo.2) (Kp (.inr (.inl eo)) bj) (bD.agg (hO (bD.b eo.1) (hO (bD.kT _:bD (.isl 1 (([]:ar).map eI))) (hO (mj eo.2) nn)))) (th eo.2) (congrArg (· + 1) (A1 (gp 1 eI bL) rfl)) b1.1 b1.2 (LK ⟨.refl _,.n2 0 1 1,.s2 0 1 1 bL.length eo.2.length,trivial⟩:lI (.agg (Ra eo.1 ([]:ar) 0 (bL.length+1) 0 eo.2.length)) (.agg [.b eo.1,jJ 0 1 1 (none:bF),jJ 0 1 1 (some (bL.length,eo.2.length))])) (.cR (hJ (dq 0 1) dg) (hB 3) (fy (lC (b7:=(bY [0])) 3 .live (dq 0 1) (h9 (dq 0 1) gB eX (⟨(⟨eo.1,(none:bF)⟩:hX),(some (bL.length,eo.2.length))⟩:eH)) (fun x=>(pD (rfl:(bY [0]) 0=some 0)) x)) (nm (b7:=(bY [0])) (yT (gp 1 eI bL) (xH cy 12 0 (bL.length+1) (eg eI eo.2) (y1 12 0 (bL.length+1)))) (mc ja))) (hy gB eX (⟨(⟨eo.1,(none:bF)⟩:hX),(some (bL.length,eo.2.length))⟩:eH)))))))
  ·exact(.hL fun b1 dg =>
  .ret (a5 (t3.aH [.ah (ab 3 (ad (.v7 0 (bL.length+1) (.call {a3:=[],di:=[],ac:=[ii],r:= .agg (Rb eo.1 0 0 0 eo.2.length ([]:ar)),eU:=[(bd eo.2)],f7:= .a6 (.agg [.id,.id,.id]),gK:=[.ax],en:=[],d4:=true})) (ab 1 (ad (.gb 22 (.agg [.b eo.1,jJ 0 1 1 (some (bL.length,eo.2.length)),jJ 0 1 1 (none:bF)]) .eA) [])))),(I 2),.aS [0] [.bq (aR.mk 3 ((gB.set (0+eX.toNat) (⟨(⟨eo.1,(some (bL.length,eo.2.length))⟩:hX),(none:bF)⟩:eH)).map (dq 0 1)) .live::(de 1 eI (bL++[eo.2])))] [(fK 4 (gB.set (0+eX.toNat) (⟨(⟨eo.1,(some (bL.length,eo.2.length))⟩:hX),(none:bF)⟩:eH))),(10,ii),(11,ii),(12,ii)]]) (eV.aw (.aP (eB 1 cy eo.2) (Kp (.inr (.inr (.inl eo))) bj) (bD.agg (hO (bD.b eo.1) (hO (mj eo.2) (hO (bD.kT _:bD (.isl 1 (([]:ar).map eI))) nn)))) (th eo.2) (congrArg (· + 1) (A1 (gp 1 eI bL) rfl)) b1.1 b1.2 (LK ⟨.refl _,.s2 0 1 1 bL.length eo.2.length,.n2 0 1 1,trivial⟩:lI (.agg (Rb eo.1 0 (bL.length+1) 0 eo.2.length ([]:ar))) (.agg [.b eo.1,jJ 0 1 1 (some (bL.length,eo.2.length)),jJ 0 1 1 (none:bF)])) (.cR (hJ (dq 0 1) dg) (hB 3) (fy (lC (b7:=(bY [0])) 3 .live (dq 0 1) (h9 (dq 0 1) gB eX (⟨(⟨eo.1,(some (bL.length,eo.2.length))⟩:hX),(none:bF)⟩:eH)) (fun x=>(pD (rfl:(bY [0]) 0=some 0)) x)) (nm (b7:=(bY [0])) (yT (gp 1 eI bL) (xH cy 12 0 (bL.length+1) (eg eI eo.2) (y1 12 0 (bL.length+1)))) (mc ja))) (hy gB eX (⟨(⟨eo.1,(some (bL.length,eo.2.length))⟩:hX),(none:bF)⟩:eH)))))))
  ·exact(.hL fun b1 dg =>
  .ret (a5 (t3.aH [.ah (ab 3 (ad (.v7 0 (bL.length+1) (.call {a3:=[],di:=[],ac:=[ii],r:= .agg (Rc eo.1 0 0 0 eo.2.1.length 0 1 0 eo.2.2.length),eU:=[[df eo.2.1,df eo.2.2]],f7:= .a6 (.agg [.id,.id,.id]),gK:=[.bq [df eo.2.1,df eo.2.2]],en:=[],d4:=true})) (ab 1 (ad (.gb 22 (.agg [.b eo.1,jJ 0 1 1 (some (bL.length,eo.2.1.length)),jJ 0 1 1 (some ((bL.length+1),eo.2.2.length))]) .eA) [])))),(I 2),.aS [0] [.bq (aR.mk 3 ((gB.set (0+eX.toNat) (⟨(⟨eo.1,(some (bL.length,eo.2.1.length))⟩:hX),(some ((bL.length+1),eo.2.2.length))⟩:eH)).map (dq 0 1)) .live::(de 1 eI (bL++[eo.2.1,eo.2.2])))] [(fK 4 (gB.set (0+eX.toNat) (⟨(⟨eo.1,(some (bL.length,eo.2.1.length))⟩:hX),(some ((bL.length+1),eo.2.2.length))⟩:eH))),(10,ii),(11,ii),(12,ii)]]) (eV.aw (.aP (pJ (hC [12]) eo.2.1 eo.2.2) ((ku rfl (ku rfl uG)):mP [df eo.2.1,df eo.2.2]) (Kp (.inr (.inr (.inr eo))) bj) (bD.agg (hO (bD.b eo.1) (hO (mj eo.2.1) (hO (bD.bw 0 1 0 eo.2.2.length) nn)))) ((pc (l9 (lY uV) (l9 (lY uV) qu)) pe):nM [[df eo.2.1,df eo.2.2]]) (congrArg (· + 1) (A1 (gp 1 eI bL) rfl)) b1.1 b1.2 (.dd (LK ⟨.refl _,.s2 0 1 1 bL.length eo.2.1.length,.s2 0 1 1 (bL.length+1) eo.2.2.length,trivial⟩:lI (.agg (Rc eo.1 0 (bL.length+1) 0 eo.2.1.length 0 ((bL.length+1)+1) 0 eo.2.2.length)) (.agg [.b eo.1,jJ 0 1 1 (some (bL.length,eo.2.1.length)),jJ 0 1 1 (some ((bL.length+1),eo.2.2.length))])) (hJ (dq 0 1) dg) (hB 3) (fy (lC (b7:=(bY [0])) 3 .live (dq 0 1) (h9 (dq 0 1) gB eX (⟨(⟨eo.1,(some (bL.length,eo.2.1.length))⟩:hX),(some ((bL.length+1),eo.2.2.length))⟩:eH)) (fun x=>(pD (rfl:(bY [0]) 0=some 0)) x)) (nm (b7:=(bY [0])) (yT (gp 1 eI bL) (xH cy 12 0 (bL.length+1) (eg eI eo.2.1) (xH cy 12 0 (bL.length+1) (eg eI eo.2.2) (y1 12 0 (bL.length+1))))) (mc ja))) (hy gB eX (⟨(⟨eo.1,(some (bL.length,eo.2.1.length))⟩:hX),(some ((bL.length+1),eo.2.2.length))⟩:eH))))))))))))
  (fun h1 =>
  (a5 [(I 1),.aI,.aS [0] [.bq (aR.mk 3 (gB.map (dq 0 1)) .live::(de 1 eI bL))] (bf [4])] (.e2 h1 (fy (lC (b7:=(bY [0])) 3 .live (dq 0 1) (eg (dq 0 1) gB) (fun x=>(pD (rfl:(bY [0]) 0=some 0)) x)) (ex (bY [0]) 1 ja bL)))))
def G6 (gq:arU):Option ((arV×arR)⊕(Unit)) :=if 0<=(aE (fD 3 cZ) gq)/\(56:Int)*(aE (fD 3 cZ) gq)<=281474976710656/\(aE (fD 3 cZ) gq)<9223372036854775808 then U6 gq (aE (fD 3 cZ) gq) 0 (List.replicate (aE (fD 3 cZ) gq).toNat (⟨(⟨false,(none:bF)⟩:hX),(none:bF)⟩:eH):arV) ([]:arR) >>= fun r2 =>match r2 with | .inl eE=>(some (.inl (eE.1,eE.2))) | .inr eE=>(some (.inr ())) else none
theorem U7:bk (G6 gq) (Sum.elim (fun a=>Con bm 34 [.isl 1 (gq.map (fD 3 cZ))] [] (.et [.bw 0 0 0 a.1.length,.b true]) [(aR.mk 3 (a.1.map (dq 0 1)) .live::(de 1 eI a.2))]) (fun a=>Con bm 34 [.isl 1 (gq.map (fD 3 cZ))] [] (.et [.fQ,.b false]) [])):=by
 unfold G6
 exact .bX fun h1 r2 R =>
  (let q2:=aE (fD 3 cZ) gq;let q1:=(List.replicate q2.toNat (⟨(⟨false,(none:bF)⟩:hX),(none:bF)⟩:eH):arV);let t1:=[(I 2),.ah (bU 2 (.cn [.b false,jJ 4 1 1 (none:bF),jJ 4 1 1 (none:bF)]) 1),(I 3),.aS [4] [.bq (aR.mk 3 (q1.map (dq 0 1)) .live::(de 1 eI ([]:arR)))] [(fK 4 q1),(10,ii),(11,ii),(12,ii)]];
  have aU:=((.eC h1.1 (Int.le_refl q2) h1.2.1 h1.2.2 (fy (lC (b7:=(bY [4])) 3 .live (dq 0 1) (lX (dq 4 1) q2.toNat (⟨(⟨false,(none:bF)⟩:hX),(none:bF)⟩:eH)) (fun x=>(pD (rfl:(bY [4]) 4=some 0)) x)) (nm (b7:=(bY [4])) (LL .live 1 eI) (mc ja))) (my q2.toNat ((⟨(⟨false,(none:bF)⟩:hX),(none:bF)⟩:eH):eH))):cO _);
  (by
  rcases r2 with eE|eE
  ·exact(.ret (h6 (t1.aH [((Uh gq (aE (fD 3 cZ) gq)).t (.inl eE)),(I 3)]) [0] [.bq (aR.mk 3 (eE.1.map (dq 0 1)) .live::(de 1 eI eE.2))] (aU.aw (.e2 (cV R SI) (fy (lC (b7:=(bY [0])) 3 .live (dq 0 1) (eg (dq 0 1) eE.1) (fun x=>(pD (rfl:(bY [0]) 0=some 0)) x)) (ex (bY [0]) 1 ja eE.2)))) (.comp [.cr .id,.cr .id])))
  exact(.ret (h6 (t1.aH [.sub (.ret) [(2,.fQ),(3,.b false)] []]) [] [] (aU.aw (.e1 (cV R SI)))))))
def CH (aV:cT)(fT:ar)(gl:arS):Option ((arV×arR)⊕(Unit)) :=yF aV fT >>= fun r1 =>if r1 then yA aV gl >>= fun bb =>if bb then Cy aV fT gl >>= fun bx =>vk aV bx.1 bx.2.1 bx.2.2.1 bx.2.2.2.1 bx.2.2.2.2 >>= fun bz =>if bz.2.2 then G6 bz.1 >>= fun cB =>match cB with | .inl o6=>(some (.inl (o6.1,o6.2))) | .inr o6=>(some (.inr ())) else some (.inr ()) else some (.inr ()) else some (.inr ())
theorem Kb:bk (CH aV fT gl) (Sum.elim (fun a=>Con bm 10 [.agg (h4 aV),.isl 1 (fT.map eI),.isl 4 (gl.map eTBlock)] [] (.et [.bw 0 0 0 a.1.length,.b true]) [(aR.mk 3 (a.1.map (dq 0 1)) .live::(de 1 eI a.2))]) (fun a=>Con bm 10 [.agg (h4 aV),.isl 1 (fT.map eI),.isl 4 (gl.map eTBlock)] [] (.et [.fQ,.b false]) [])):=by
 unfold CH
 exact .bJ fun r1 h2 =>
  (have cf:=((.e2 (agd r1 h2) (bD.b r1)):cO _);
  .b6 (fun R =>
  .bJ fun bb aq =>
  (let t2:=[(I 3),.ah (ab 2 (ad (eQ 2 r1) (ab 4 (ad (eQ 2 bb) (kU 1)))))];
  have e9:=cf.aw (.fm (b0 R) (b0 R) (b0 R) (afs bb aq) (bD.b bb) (b0 R) (b0 R));
  .b6 (fun aM =>
  .el fun bx bj bz b1 =>
  (let q2:=eB 1 cy bx.2.2.2.1;let bB:=eB 1 cy bx.2.2.2.2;let cu:=eB 1 cy bx.2.2.1;let t4:=t2.aH [.aI,.li 0,.ah (ab 2 (ad (.call {a3:=[],di:=[],ac:=[.a6 (.ptr [.id,.id]),ii,ii],r:= .agg (m7 bx.1 bx.2.1 0 0 0 bx.2.2.1.length 0 1 0 bx.2.2.2.1.length 0 2 0 bx.2.2.2.2.length),eU:=[[df bx.2.2.1,df bx.2.2.2.1,df bx.2.2.2.2]],f7:= .a6 (.agg dt),gK:=[.bq [df bx.2.2.1,df bx.2.2.2.1,df bx.2.2.2.2]],en:=[0],d4:=true}) (ad (.call {a3:=[.al 15 0 (df bx.2.2.1),.al 15 1 (df bx.2.2.2.1),.al 15 2 (df bx.2.2.2.2)],di:=[.ax,.ax,.ax],ac:=[.a6 (.ptr [.id,.id]),.a6 (.agg [.id,.id,.at_ 0 0 bx.2.2.1.length,.at_ 1 0 bx.2.2.2.1.length,.at_ 2 0 bx.2.2.2.2.length])],r:= .et [.isl 1 (bz.1.map (fD 3 cZ)),.isl 1 (bz.2.1.map (fD 3 cZ)),.b bz.2.2],eU:=[(bd bx.2.2.1),(bd bx.2.2.2.1),(bd bx.2.2.2.2)],f7:=ii,gK:=[.ax,.ax,.ax],en:=[0,15],d4:=false}) (ab 7 [])))),(I 2)];
  have mm:=e9.aw (.aP (b0 aM) (oU (vl aV):j3 [(h4 aV)]) (fy (jC (hC [15]) 1 ja bx.2.2.1) (pJ (hC [15]) bx.2.2.2.1 bx.2.2.2.2)) ((ku rfl (ku rfl (ku rfl uG))):mP [df bx.2.2.1,df bx.2.2.2.1,df bx.2.2.2.2]) (acu bx bj) (bD.agg (hO (bD.n .i64 bx.1) (hO (bD.n .i64 bx.2.1) (hO (mj bx.2.2.1) (hO (bD.bw 0 1 0 bx.2.2.2.1.length) (hO (bD.bw 0 2 0 bx.2.2.2.2.length) nn)))))) ((pc (l9 (lY uV) (l9 (lY uV) (l9 (lY uV) qu))) pe):nM [[df bx.2.2.1,df bx.2.2.2.1,df bx.2.2.2.2]]) (by decide:0≠1) (.aP (by decide:0≠2) (by decide:1≠2) (oU (vl aV):j3 [(h4 aV)]) (rfl:lL [.al 15 0 (df bx.2.2.1),.al 15 1 (df bx.2.2.2.1),.al 15 2 (df bx.2.2.2.2)] 0 0=some (15,0)) (eN bx.2.2.1) (rfl:lL [.al 15 0 (df bx.2.2.1),.al 15 1 (df bx.2.2.2.1),.al 15 2 (df bx.2.2.2.2)] 1 0=some (15,1)) (eN bx.2.2.2.1) (rfl:lL [.al 15 0 (df bx.2.2.1),.al 15 1 (df bx.2.2.2.1),.al 15 2 (df bx.2.2.2.2)] 2 0=some (15,2)) (.aP (eN bx.2.2.2.2) (rfl:er (some [df bx.2.2.1,df bx.2.2.2.1,df bx.2.2.2.2]) 0=some (df bx.2.2.1)) cu (rfl:er (some [df bx.2.2.1,df bx.2.2.2.1,df bx.2.2.2.2]) 1=some (df bx.2.2.2.1)) q2 (rfl:er (some [df bx.2.2.1,df bx.2.2.2.1,df bx.2.2.2.2]) 2=some (df bx.2.2.2.2)) bB cu (.bG q2 bB (adi bz b1)))));
  .b6 (fun dg =>
  .bJ fun cB ey =>
  (by
  rcases cB with o6|o6
  ·exact(.ret (let q1:=de 1 eI o6.2;h6 (t4.aH [.aI,.ah (bU 1 (.call {a3:=[],di:=[],ac:=[ii],r:= .et [.bw 0 0 0 o6.1.length,.b true],eU:=[(aR.mk 3 (o6.1.map (dq 0 1)) .live::q1)],f7:= .comp [.cr .id,.cr .id],gK:=[.bq (aR.mk 3 (o6.1.map (dq 27 1)) .live::q1)],en:=[],d4:=true}) 4)]) [27] [.bq (aR.mk 3 (o6.1.map (dq 0 1)) .live::q1)] (mm.aw (.fm (b0 dg) (fy (lC (b7:=(hC [27])) 3 .live (dq 27 1) (eg (dq 0 1) o6.1) (fun x=>(pD (rfl:(hC [27]) 0=some 27)) x)) (ex (hC [27]) 1 ja o6.2)) ((ku rfl (yK (gp 1 eI o6.2))):mP (aR.mk 3 (o6.1.map (dq 0 1)) .live::q1)) (U7 (.inl o6) ey) (tG (hO (mj o6.1) (hO (bD.b true) nn))) ((pc (l9 (lY (O4 _ _)) (Po uV)) pe):nM [(aR.mk 3 (o6.1.map (dq 0 1)) .live::q1)]) (fy (lC (b7:=(bY [27])) 3 .live (dq 0 1) (eg (dq 27 1) o6.1) (fun x=>(pD (rfl:(bY [27]) 27=some 0)) x)) (ex (bY [27]) 1 ja o6.2)))) (.comp [.cr .id,.cr .id])))
  ·exact(.ret (h6 (t4.aH [.aI,.ah (bU 1 (.call {a3:=[],di:=[],ac:=[ii],r:= .et [.fQ,.b false],eU:=[],f7:=ii,gK:=[],en:=[],d4:=true}) 4)]) [] [] (mm.aw (.bG (b0 dg) (U7 (.inr o6) ey) (tG (hO bD.fQ (hO (bD.b false) nn)))))))))
  (fun dg =>
  (h6 (t4.aH [.aL,(I 2)]) [] [] (mm.aw (.e1 (cb dg)))))))
  (fun aM =>
  (h6 (t2.aH [.aL,(I 2)]) [] [] (e9.aw (.e1 (cb aM)))))))
  (fun R =>
  (h6 [(I 3),.ah (ab 2 (ad (eQ 2 r1) (ll 2 4))),.aL,(I 2)] [] [] (cf.aw (.eC (cb R) (cb R) (cb R) (cb R) (cb R) bp)))))
def aft (ao aN:ar):ea Int ((Unit)⊕(Unit)):=⟨fun ae=>dv [(e6 0 ao),(e6 1 aN),(aT 5 ae)] [],fun | .inl a=>⟨some 0,[],[]⟩ | .inr a=>⟨none,[(4,.b false)],[]⟩⟩
def DQ (ao aN:ar)(ae:Int):Option ((Int)⊕((Unit)⊕(Unit))) :=if decide (ae<(aE eI ao)) then if 0<=ae/\ae<ao.length then ao[ae.toNat]? >>= fun ag =>if 0<=ae/\ae<aN.length then aN[ae.toNat]? >>= fun ch =>if ag != ch then some (.inr (.inr ())) else some (.inl (J (ae+1))) else none else none else some (.inr (.inl ()))
def VV (ao aN:ar)(ae:Int):Option ((Unit)⊕(Unit)):=iter (fun w:Int=>DQ ao aN w) ae
theorem S5:bk (DQ ao aN ae) (ed bm 26 0 13 [1,1,0,1,0,0] (aft ao aN) ae):=.b6 (fun h1=>.bX fun h2 ag aj=>.bX fun aq ch ba=>(let t1:=[(I 4),.aL,.ah (ab 3 (ad (.cn (eI ag)) (hz 3 ch 1)))];have aU:=((.fm h1 h2.1 (dk eI h2.2) (bO eI aj) aq.1 (dk eI aq.2) (bO eI ba)):cO _);.gF (fun bj=>(a5 (t1.append (lO 1 4)) (aU.aw (.e1 bj)))) (fun bj=>(a5 (t1.aH [.aI,(I 3),.aS [] [] (bf [0,1,5])]) (aU.aw (.e1 bj)))))) (fun h1=>(a5 (qb 4) (.e1 h1)))
def yG (ao aN:ar):arT :=if (aE eI ao) != (aE eI aN) then some false else VV ao aN 0 >>= fun r2 =>match r2 with | .inl eE=>(some true) | .inr eE=>(some false)
theorem Kt:bk (yG ao aN) (fun r=>Con bm 13 (mS ao aN) [] (.b r) []):=by
 unfold yG
 exact .e4 (fun h1 =>
  (bg [(I 1),(I 5),.aL,(I 1)] (.e1 h1)))
  (fun h1 =>
  .bJ fun r2 R =>
  (let t1:=[(I 1),(I 5),.aI,(I 1),.aS [] [] (bf [0,1,5])];
  (by
  rcases r2 with eE|eE
  ·exact(.ret (bg (t1.aH [.sub (.exit 0) [] [],(I 1)]) (.e2 h1 (cV R S5))))
  exact(.ret (bg (t1.aH [.sub (.ret) [(4,.b false)] []]) (.e2 h1 (cV R S5)))))))
def Kz (ao aN:bK):arT :=if ao.cQ == aN.cQ then yG ao.bZ aN.bZ >>= fun r2 =>if r2 then some true else some false else some false
theorem afu:bk (Kz ao aN) (fun r=>Con bm 72 [.agg (br ao),.agg (br aN)] [] (.b r) []):=.b6 (fun h1=>.bJ fun r2 R=>(let t1:=[(I 3),(I 5),.aI,.ah (bU 4 (eQ 2 r2) 1)];have aU:=((.bG (b0 h1) (Kt r2 R) (bD.b r2)):cO _);.gF (fun aj=>(bg (t1.aH [.aI,(I 1)]) (aU.aw (.e1 (b0 aj))))) (fun aj=>(bg (t1.aH [.aL,(I 1)]) (aU.aw (.e1 (cb aj))))))) (fun h1=>(bg [(I 3),(I 5),.aL,(I 1)] (.e1 (cb h1))))
def Hw (ao aN:au):arT :=Kz ao.bQ aN.bQ >>= fun r1 =>if r1 then yG ao.cC aN.cC >>= fun bb =>if bb then some true else some false else some false
theorem ags:bk (Hw ao aN) (fun r=>Con bm 35 [.agg (aG ao),.agg (aG aN)] [] (.b r) []):=.bJ fun r1 h2=>(let t1:=[(I 3),.ah (bU 4 (eQ 2 r1) 1)];have aU:=((.e2 (afu r1 h2) (bD.b r1)):cO _);.b6 (fun R=>.bJ fun bb aq=>(let t3:=t1.aH [.aI,.ah (bU 4 (eQ 2 bb) 1)];have eV:=aU.aw (.bG (b0 R) (Kt bb aq) (bD.b bb));.gF (fun aM=>(bg (t3.aH [.aI,(I 1)]) (eV.aw (.e1 (b0 aM))))) (fun aM=>(bg (t3.aH [.aL,(I 1)]) (eV.aw (.e1 (cb aM))))))) (fun R=>(bg (t1.aH [.aL,(I 1)]) (aU.aw (.e1 (cb R))))))
def afv (ao aN:arI):ea Int ((Unit)⊕(Unit)):=⟨fun ae=>dv [(0,.isl 3 (ao.map aG)),(1,.isl 3 (aN.map aG)),(aT 5 ae)] [],fun | .inl a=>⟨some 0,[],[]⟩ | .inr a=>⟨none,[(4,.b false)],[]⟩⟩
def DR (ao aN:arI)(ae:Int):Option ((Int)⊕((Unit)⊕(Unit))) :=if decide (ae<(aE aG ao)) then if 0<=ae/\ae<ao.length then ao[ae.toNat]? >>= fun ag =>if 0<=ae/\ae<aN.length then aN[ae.toNat]? >>= fun ch =>Hw ag ch >>= fun a9 =>if a9 then some (.inl (J (ae+1))) else some (.inr (.inr ())) else none else none else some (.inr (.inl ()))
def VW (ao aN:arI)(ae:Int):Option ((Unit)⊕(Unit)):=iter (fun w:Int=>DR ao aN w) ae
theorem S6:bk (DR ao aN ae) (ed bm 27 0 11 [1,1,0,1,0,0] (afv ao aN) ae):=.b6 (fun h1=>.bX fun h2 ag aj=>.bX fun aq ch ba=>.bJ fun a9 ck=>(let t1:=[(I 4),.aL,.ah (ab 3 (ad (.cn (aG ag)) (ab 3 (ad (.cn (aG ch)) (ad (eQ 2 a9) (ab 1 []))))))];have aU:=((.aP h1 h2.1 (dk aG h2.2) (bO aG aj) aq.1 (dk aG aq.2) (bO aG ba) (ags a9 ck) (.e1 (bD.b a9))):cO _);.gF (fun b1=>(a5 (t1.aH [.aI,(I 3),.aS [] [] (bf [0,1,5])]) (aU.aw (.e1 (b0 b1))))) (fun b1=>(a5 (t1.append (lO 1 4)) (aU.aw (.e1 (cb b1))))))) (fun h1=>(a5 (qb 4) (.e1 h1)))
def Ew (ao aN:arI):arT :=if (aE aG ao) != (aE aG aN) then some false else VW ao aN 0 >>= fun r2 =>match r2 with | .inl eE=>(some true) | .inr eE=>(some false)
theorem Ed:bk (Ew ao aN) (fun r=>Con bm 11 [.isl 3 (ao.map aG),.isl 3 (aN.map aG)] [] (.b r) []):=by
 unfold Ew
 exact .e4 (fun h1 =>
  (bg [(I 1),(I 5),.aL,(I 1)] (.e1 h1)))
  (fun h1 =>
  .bJ fun r2 R =>
  (let t1:=[(I 1),(I 5),.aI,(I 1),.aS [] [] (bf [0,1,5])];
  (by
  rcases r2 with eE|eE
  ·exact(.ret (bg (t1.aH [.sub (.exit 0) [] [],(I 1)]) (.e2 h1 (cV R S6))))
  exact(.ret (bg (t1.aH [.sub (.ret) [(4,.b false)] []]) (.e2 h1 (cV R S6)))))))
def Hj (ao aN:cN):arT :=if !(ao.jl.toList == aN.jl.toList) then some false else if ao.f9 != aN.f9 then some false else if ao.hc != aN.hc then some false else if ao.iZ == aN.iZ then some true else some false
theorem afZ:bk (Hj ao aN) (fun r=>Con bm 73 [.agg (b9 ao),.agg (b9 aN)] [] (.b r) []):=.e4 (fun h1=>(bg [(I 3),(I 5),.aL,(I 1)] (.e1 h1))) (fun h1=>(let t1:=[(I 3),(I 5),.aI,(I 5)];.e4 (fun h2=>(bg (t1.aH [.aL,(I 1)]) (.e2 h1 h2))) (fun h2=>.e4 (fun R=>(bg (t1.aH [.aI,(I 5),.aL,(I 1)]) (.bG h1 h2 R))) (fun R=>(let t2:=t1.aH [.aI,(I 5),.aI,(I 5)];.gF (fun aj=>(bg (t2.aH [.aI,(I 1)]) (.cR h1 h2 R (b0 aj)))) (fun aj=>(bg (t2.aH [.aL,(I 1)]) (.cR h1 h2 R (cb aj)))))))))
def aeP (ao aN:arP):ea Int ((Unit)⊕(Unit)):=⟨fun ae=>dv [(0,.isl 4 (ao.map b9)),(1,.isl 4 (aN.map b9)),(aT 5 ae)] [],fun | .inl a=>⟨some 0,[],[]⟩ | .inr a=>⟨none,[(4,.b false)],[]⟩⟩
def Dm (ao aN:arP)(ae:Int):Option ((Int)⊕((Unit)⊕(Unit))) :=if decide (ae<(aE b9 ao)) then if 0<=ae/\ae<ao.length then ao[ae.toNat]? >>= fun ag =>if 0<=ae/\ae<aN.length then aN[ae.toNat]? >>= fun ch =>Hj ag ch >>= fun a9 =>if a9 then some (.inl (J (ae+1))) else some (.inr (.inr ())) else none else none else some (.inr (.inl ()))
def U8 (ao aN:arP)(ae:Int):Option ((Unit)⊕(Unit)):=iter (fun w:Int=>Dm ao aN w) ae
theorem SJ:bk (Dm ao aN ae) (ed bm 27 0 36 [1,1,0,1,0,0] (aeP ao aN) ae):=.b6 (fun h1=>.bX fun h2 ag aj=>.bX fun aq ch ba=>.bJ fun a9 ck=>(let t1:=[(I 4),.aL,.ah (ab 3 (ad (.cn (b9 ag)) (ab 3 (ad (.cn (b9 ch)) (ad (eQ 2 a9) (ab 1 []))))))];have aU:=((.aP h1 h2.1 (dk b9 h2.2) (bO b9 aj) aq.1 (dk b9 aq.2) (bO b9 ba) (afZ a9 ck) (.e1 (bD.b a9))):cO _);.gF (fun b1=>(a5 (t1.aH [.aI,(I 3),.aS [] [] (bf [0,1,5])]) (aU.aw (.e1 (b0 b1))))) (fun b1=>(a5 (t1.append (lO 1 4)) (aU.aw (.e1 (cb b1))))))) (fun h1=>(a5 (qb 4) (.e1 h1)))
def G7 (ao aN:arP):arT :=if (aE b9 ao) != (aE b9 aN) then some false else U8 ao aN 0 >>= fun r2 =>match r2 with | .inl eE=>(some true) | .inr eE=>(some false)
theorem afw:bk (G7 ao aN) (fun r=>Con bm 36 [.isl 4 (ao.map b9),.isl 4 (aN.map b9)] [] (.b r) []):=by
 unfold G7
 exact .e4 (fun h1 =>
  (bg [(I 1),(I 5),.aL,(I 1)] (.e1 h1)))
  (fun h1 =>
  .bJ fun r2 R =>
  (let t1:=[(I 1),(I 5),.aI,(I 1),.aS [] [] (bf [0,1,5])];
  (by
  rcases r2 with eE|eE
  ·exact(.ret (bg (t1.aH [.sub (.exit 0) [] [],(I 1)]) (.e2 h1 (cV R SJ))))
  exact(.ret (bg (t1.aH [.sub (.ret) [(4,.b false)] []]) (.e2 h1 (cV R SJ)))))))
def G8 (ao aN:c6):arT :=if ao.bR != aN.bR then some false else if ao.bP != aN.bP then some false else if ao.h5 != aN.h5 then some false else some true
theorem afx:bk (G8 ao aN) (fun r=>Con bm 74 [.agg (ca ao),.agg (ca aN)] [] (.b r) []):=.e4 (fun h1=>(bg [(I 3),(I 5),.aL,(I 1)] (.e1 h1))) (fun h1=>(let t1:=[(I 3),(I 5),.aI,(I 5)];.e4 (fun h2=>(bg (t1.aH [.aL,(I 1)]) (.e2 h1 h2))) (fun h2=>.gF (fun R=>(bg (t1.aH [.aI,(I 5),.aL,(I 1)]) (.bG h1 h2 R))) (fun R=>(bg (t1.aH [.aI,(I 5),.aI,(I 1)]) (.bG h1 h2 R))))))
def aez (ao aN:arQ):ea Int ((Unit)⊕(Unit)):=⟨fun ae=>dv [(0,.isl 3 (ao.map ca)),(1,.isl 3 (aN.map ca)),(aT 5 ae)] [],fun | .inl a=>⟨some 0,[],[]⟩ | .inr a=>⟨none,[(4,.b false)],[]⟩⟩
def C9 (ao aN:arQ)(ae:Int):Option ((Int)⊕((Unit)⊕(Unit))) :=if decide (ae<(aE ca ao)) then if 0<=ae/\ae<ao.length then ao[ae.toNat]? >>= fun ag =>if 0<=ae/\ae<aN.length then aN[ae.toNat]? >>= fun ch =>G8 ag ch >>= fun a9 =>if a9 then some (.inl (J (ae+1))) else some (.inr (.inr ())) else none else none else some (.inr (.inl ()))
def UJ (ao aN:arQ)(ae:Int):Option ((Unit)⊕(Unit)):=iter (fun w:Int=>C9 ao aN w) ae
theorem Sx:bk (C9 ao aN ae) (ed bm 27 0 37 [1,1,0,1,0,0] (aez ao aN) ae):=.b6 (fun h1=>.bX fun h2 ag aj=>.bX fun aq ch ba=>.bJ fun a9 ck=>(let t1:=[(I 4),.aL,.ah (ab 3 (ad (.cn (ca ag)) (ab 3 (ad (.cn (ca ch)) (ad (eQ 2 a9) (ab 1 []))))))];have aU:=((.aP h1 h2.1 (dk ca h2.2) (bO ca aj) aq.1 (dk ca aq.2) (bO ca ba) (afx a9 ck) (.e1 (bD.b a9))):cO _);.gF (fun b1=>(a5 (t1.aH [.aI,(I 3),.aS [] [] (bf [0,1,5])]) (aU.aw (.e1 (b0 b1))))) (fun b1=>(a5 (t1.append (lO 1 4)) (aU.aw (.e1 (cb b1))))))) (fun h1=>(a5 (qb 4) (.e1 h1)))
def GR (ao aN:arQ):arT :=if (aE ca ao) != (aE ca aN) then some false else UJ ao aN 0 >>= fun r2 =>match r2 with | .inl eE=>(some true) | .inr eE=>(some false)
theorem ae0:bk (GR ao aN) (fun r=>Con bm 37 [.isl 3 (ao.map ca),.isl 3 (aN.map ca)] [] (.b r) []):=by
 unfold GR
 exact .e4 (fun h1 =>
  (bg [(I 1),(I 5),.aL,(I 1)] (.e1 h1)))
  (fun h1 =>
  .bJ fun r2 R =>
  (let t1:=[(I 1),(I 5),.aI,(I 1),.aS [] [] (bf [0,1,5])];
  (by
  rcases r2 with eE|eE
  ·exact(.ret (bg (t1.aH [.sub (.exit 0) [] [],(I 1)]) (.e2 h1 (cV R Sx))))
  exact(.ret (bg (t1.aH [.sub (.ret) [(4,.b false)] []]) (.e2 h1 (cV R Sx)))))))
def D4 (ao aN:cT):arT :=G7 ao.cq aN.cq >>= fun r1 =>if r1 then GR ao.bE aN.bE >>= fun bb =>if bb then some true else some false else some false
theorem TS:bk (D4 ao aN) (fun r=>Con bm 12 [.agg (h4 ao),.agg (h4 aN)] [] (.b r) []):=.bJ fun r1 h2=>(let t1:=[(I 3),.ah (bU 4 (eQ 2 r1) 1)];have aU:=((.e2 (afw r1 h2) (bD.b r1)):cO _);.b6 (fun R=>.bJ fun bb aq=>(let t3:=t1.aH [.aI,.ah (bU 4 (eQ 2 bb) 1)];have eV:=aU.aw (.bG (b0 R) (ae0 bb aq) (bD.b bb));.gF (fun aM=>(bg (t3.aH [.aI,(I 1)]) (eV.aw (.e1 (b0 aM))))) (fun aM=>(bg (t3.aH [.aL,(I 1)]) (eV.aw (.e1 (cb aM))))))) (fun R=>(bg (t1.aH [.aL,(I 1)]) (aU.aw (.e1 (cb R))))))
def KJ (ao aN:dp):arT :=if ao.bR != aN.bR then some false else if ao.bP != aN.bP then some false else if ao.bQ != aN.bQ then some false else if ao.cC != aN.cC then some false else some true
theorem af0:bk (KJ ao aN) (fun r=>Con bm 38 [.agg (eTBlock ao),.agg (eTBlock aN)] [] (.b r) []):=.e4 (fun h1=>(bg [(I 3),(I 5),.aL,(I 1)] (.e1 h1))) (fun h1=>(let t1:=[(I 3),(I 5),.aI,(I 5)];.e4 (fun h2=>(bg (t1.aH [.aL,(I 1)]) (.e2 h1 h2))) (fun h2=>.e4 (fun R=>(bg (t1.aH [.aI,(I 5),.aL,(I 1)]) (.bG h1 h2 R))) (fun R=>(let t2:=t1.aH [.aI,(I 5),.aI,(I 5)];.gF (fun aj=>(bg (t2.aH [.aL,(I 1)]) (.cR h1 h2 R aj))) (fun aj=>(bg (t2.aH [.aI,(I 1)]) (.cR h1 h2 R aj))))))))
def aeQ (ao aN:arS):ea Int ((Unit)⊕(Unit)):=⟨fun ae=>dv [(0,.isl 4 (ao.map eTBlock)),(1,.isl 4 (aN.map eTBlock)),(aT 5 ae)] [],fun | .inl a=>⟨some 0,[],[]⟩ | .inr a=>⟨none,[(4,.b false)],[]⟩⟩
def Dn (ao aN:arS)(ae:Int):Option ((Int)⊕((Unit)⊕(Unit))) :=if decide (ae<(aE eTBlock ao)) then if 0<=ae/\ae<ao.length then ao[ae.toNat]? >>= fun ag =>if 0<=ae/\ae<aN.length then aN[ae.toNat]? >>= fun ch =>KJ ag ch >>= fun a9 =>if a9 then some (.inl (J (ae+1))) else some (.inr (.inr ())) else none else none else some (.inr (.inl ()))
def U9 (ao aN:arS)(ae:Int):Option ((Unit)⊕(Unit)):=iter (fun w:Int=>Dn ao aN w) ae
theorem SK:bk (Dn ao aN ae) (ed bm 27 0 14 [1,1,0,1,0,0] (aeQ ao aN) ae):=.b6 (fun h1=>.bX fun h2 ag aj=>.bX fun aq ch ba=>.bJ fun a9 ck=>(let t1:=[(I 4),.aL,.ah (ab 3 (ad (.cn (eTBlock ag)) (ab 3 (ad (.cn (eTBlock ch)) (ad (eQ 2 a9) (ab 1 []))))))];have aU:=((.aP h1 h2.1 (dk eTBlock h2.2) (bO eTBlock aj) aq.1 (dk eTBlock aq.2) (bO eTBlock ba) (af0 a9 ck) (.e1 (bD.b a9))):cO _);.gF (fun b1=>(a5 (t1.aH [.aI,(I 3),.aS [] [] (bf [0,1,5])]) (aU.aw (.e1 (b0 b1))))) (fun b1=>(a5 (t1.append (lO 1 4)) (aU.aw (.e1 (cb b1))))))) (fun h1=>(a5 (qb 4) (.e1 h1)))
def Eg (ao aN:arS):arT :=if (aE eTBlock ao) != (aE eTBlock aN) then some false else U9 ao aN 0 >>= fun r2 =>match r2 with | .inl eE=>(some true) | .inr eE=>(some false)
theorem Va:bk (Eg ao aN) (fun r=>Con bm 14 [.isl 4 (ao.map eTBlock),.isl 4 (aN.map eTBlock)] [] (.b r) []):=by
 unfold Eg
 exact .e4 (fun h1 =>
  (bg [(I 1),(I 5),.aL,(I 1)] (.e1 h1)))
  (fun h1 =>
  .bJ fun r2 R =>
  (let t1:=[(I 1),(I 5),.aI,(I 1),.aS [] [] (bf [0,1,5])];
  (by
  rcases r2 with eE|eE
  ·exact(.ret (bg (t1.aH [.sub (.exit 0) [] [],(I 1)]) (.e2 h1 (cV R SK))))
  exact(.ret (bg (t1.aH [.sub (.ret) [(4,.b false)] []]) (.e2 h1 (cV R SK)))))))
def Ui:ea (Int×ByteArray) ByteArray:=⟨fun (aK,wJ)=>dv [(aT 0 aK),(3,.s wJ)] [],fun | a=>⟨some 0,[(3,.s a)],[]⟩⟩
def Dp (aK:Int)(wJ:ByteArray):Option ((Int×ByteArray)⊕(ByteArray)) :=if decide ((0:Int)<aK) then if (wK [(IntKind.wrap .u8 (J ((48:Int)+(aK.tmod (10:Int)))))]).size+wJ.size<9223372036854775808 then some (.inl (J (aK.tdiv (10:Int)),(wK [(IntKind.wrap .u8 (J ((48:Int)+(aK.tmod (10:Int)))))])++wJ)) else none else some (.inr wJ)
def Vb (aK:Int)(wJ:ByteArray):Option (ByteArray):=iter (fun w:Int×ByteArray=>Dp w.1 w.2) (aK,wJ)
theorem adx {aK:Int}{wJ:ByteArray}:bk (Dp aK wJ) (ed bm 20 0 75 [1,1,1,0,0,0] Ui (aK,wJ)):=.b6 (fun h1=>.gR fun h2=>.ret (a5 [(I 2),.aL,(I 9),(I 3),.aS [] [] (bf [0,3])] (.cR h1 (by decide:(10:Int)≠0) h2 (by decide:(10:Int)≠0)))) (fun h1=>(a5 (rm 2 3) (.e1 h1)))
def G9 (aK:Int):Option ByteArray :=if decide (aK<=0) then some (⟨#[109,48]⟩:ByteArray) else Vb aK (⟨#[]⟩:ByteArray) >>= fun r2 =>if (⟨#[109]⟩:ByteArray).size+r2.size<9223372036854775808 then some ((⟨#[109]⟩:ByteArray)++r2) else none
theorem afy:bk (G9 aK) (fun r=>Con bm 75 [.n .i64 aK] [] (.s r) []):=.e4 (fun h1=>(bg [(I 1),(I 2),.aL,(I 1)] (.e1 h1))) (fun h1=>.hE fun r2 R aj=>.ret (bg [(I 1),(I 2),.aI,(I 1),.aS [] [] (bf [0,3]),(Ui.t r2),(I 3)] (.bG h1 (cV R adx) aj)))
def S7:ea (Int×Int×arP) (Int×arP):=⟨fun (aK,ae,af)=>dv [(gw 0 af),(aT 1 aK),(aT 5 ae)] [(bt 4 b9 af)],fun | a=>⟨some 0,[(aT 1 a.1)],[(bt 4 b9 a.2)]⟩⟩
def zS (aK ae:Int)(af:arP):Option ((Int×Int×arP)⊕(Int×arP)) :=if decide (ae<(af.length:Int)) then G9 aK >>= fun r2 =>if 0<=ae/\ae<af.length then af[(0+ae.toNat)]? >>= fun d7=>(af.set (0+ae.toNat) (⟨r2,d7.f9,d7.hc,d7.iZ⟩:cN))[(0+ae.toNat)]? >>= fun c5=>((af.set (0+ae.toNat) (⟨r2,d7.f9,d7.hc,d7.iZ⟩:cN)).set (0+ae.toNat) (⟨c5.jl,J (aK+1),c5.hc,c5.iZ⟩:cN))[(0+ae.toNat)]? >>= fun d5=>(((af.set (0+ae.toNat) (⟨r2,d7.f9,d7.hc,d7.iZ⟩:cN)).set (0+ae.toNat) (⟨c5.jl,J (aK+1),c5.hc,c5.iZ⟩:cN)).set (0+ae.toNat) (⟨d5.jl,d5.f9,J ((J (aK+1))+1),d5.iZ⟩:cN))[(0+ae.toNat)]? >>= fun j6 =>some (.inl (J ((J ((J ((J (aK+1))+1))+1))+1),J (ae+1),(((af.set (0+ae.toNat) (⟨r2,d7.f9,d7.hc,d7.iZ⟩:cN)).set (0+ae.toNat) (⟨c5.jl,J (aK+1),c5.hc,c5.iZ⟩:cN)).set (0+ae.toNat) (⟨d5.jl,d5.f9,J ((J (aK+1))+1),d5.iZ⟩:cN)).set (0+ae.toNat) (⟨j6.jl,j6.f9,j6.hc,(((J ((J ((J (aK+1))+1))+1)).tmod (3:Int)) == (0:Int))⟩:cN))) else none else some (.inr (aK,af))
def TI (aK ae:Int)(af:arP):Option (Int×arP):=iter (fun w:Int×Int×arP=>zS w.1 w.2.1 w.2.2) (aK,ae,af)
theorem acM {aK ae:Int}{af:arP}:bk (zS aK ae af) (ed bm 44 1 39 [1,0,1,0,0] S7 (aK,ae,af)):=.b6 (fun h1=>.hE fun r2 R aj=>.el fun d7 aM c5 bj=>.el fun d5 b1 j6 eT=>.ret (let cu:=(mL (eg b9 af) (0+ae.toNat) (⟨r2,d7.f9,d7.hc,d7.iZ⟩:cN) (rfl:(setCells (b9 d7) 0 [.s r2])=b9 (⟨r2,d7.f9,d7.hc,d7.iZ⟩:cN)));let dn:=(J (aK+1));let q1:=(mL cu (0+ae.toNat) (⟨c5.jl,J (aK+1),c5.hc,c5.iZ⟩:cN) (rfl:(setCells (b9 c5) 1 [.n .i64 dn])=b9 (⟨c5.jl,J (aK+1),c5.hc,c5.iZ⟩:cN)));let q2:=(mL q1 (0+ae.toNat) (⟨d5.jl,d5.f9,J (dn+1),d5.iZ⟩:cN) (rfl:(setCells (b9 d5) 2 [.n .i64 (J (dn+1))])=b9 (⟨d5.jl,d5.f9,J (dn+1),d5.iZ⟩:cN)));let bB:=(J ((J (dn+1))+1));a5 [(I 4),.aL,.ah (ab 3 (ad (i6 1 (.s r2) true) (ab 1 (ad (.cn (b9 d7)) (ad (.cn (b9 d7)) []))))),(I 3),.ah (ab 4 (ad (.cn (b9 c5)) (ad (.cn (b9 c5)) []))),(I 3),.ah (ab 4 (ad (.cn (b9 d5)) (ad (.cn (b9 d5)) []))),(I 3),.ah (ab 6 (ad (.cn (b9 j6)) (ad (.cn (b9 j6)) []))),(I 3),(I 3),.aS [0] [.cM (bt 4 b9 ((((af.set (0+ae.toNat) (⟨r2,d7.f9,d7.hc,d7.iZ⟩:cN)).set (0+ae.toNat) (⟨c5.jl,J (aK+1),c5.hc,c5.iZ⟩:cN)).set (0+ae.toNat) (⟨d5.jl,d5.f9,J (dn+1),d5.iZ⟩:cN)).set (0+ae.toNat) (⟨j6.jl,j6.f9,j6.hc,((bB.tmod (3:Int)) == (0:Int))⟩:cN)))] [(fK 0 ((((af.set (0+ae.toNat) (⟨r2,d7.f9,d7.hc,d7.iZ⟩:cN)).set (0+ae.toNat) (⟨c5.jl,J (aK+1),c5.hc,c5.iZ⟩:cN)).set (0+ae.toNat) (⟨d5.jl,d5.f9,J (dn+1),d5.iZ⟩:cN)).set (0+ae.toNat) (⟨j6.jl,j6.f9,j6.hc,((bB.tmod (3:Int)) == (0:Int))⟩:cN))),(1,ii),(5,ii)]] (.aP h1 (afy r2 R) (bD.s r2) aj.1 aj.2 (bO b9 aM) (bO b9 aM) aj.1 (.aP aj.2 (oe cu bj) (oe cu bj) aj.1 aj.2 (oe q1 b1) (oe q1 b1) (by decide:(3:Int)≠0) (.fm aj.1 aj.2 (oe q2 eT) (oe q2 eT) (c4 4 (mL q2 (0+ae.toNat) (⟨j6.jl,j6.f9,j6.hc,((bB.tmod (3:Int)) == (0:Int))⟩:cN) (rfl:(setCells (b9 j6) 3 [.b ((bB.tmod (3:Int)) == (0:Int))])=b9 (⟨j6.jl,j6.f9,j6.hc,((bB.tmod (3:Int)) == (0:Int))⟩:cN)))) (b3 4 nh ((((af.set (0+ae.toNat) (⟨r2,d7.f9,d7.hc,d7.iZ⟩:cN)).set (0+ae.toNat) (⟨c5.jl,J (aK+1),c5.hc,c5.iZ⟩:cN)).set (0+ae.toNat) (⟨d5.jl,d5.f9,J (dn+1),d5.iZ⟩:cN)).set (0+ae.toNat) (⟨j6.jl,j6.f9,j6.hc,((bB.tmod (3:Int)) == (0:Int))⟩:cN))) (sX (sX (sX (hy af ae (⟨r2,d7.f9,d7.hc,d7.iZ⟩:cN)) (0+ae.toNat) (⟨c5.jl,J (aK+1),c5.hc,c5.iZ⟩:cN)) (0+ae.toNat) (⟨d5.jl,d5.f9,J (dn+1),d5.iZ⟩:cN)) (0+ae.toNat) (⟨j6.jl,j6.f9,j6.hc,((bB.tmod (3:Int)) == (0:Int))⟩:cN))))))) (fun h1=>(a5 (n0 4 0 1) (.e2 h1 (b3 4 nh af))))
def GB (aK:Int)(eD:arP):Option (Int×arP) :=TI aK 0 eD >>= fun r1 =>some (r1.1,r1.2)
theorem aer:bk (GB aK eD) (fun a=>Con bm 39 [.bw 0 0 0 eD.length,.n .i64 aK] [(bt 4 b9 eD)] (.n .i64 a.1) [(bt 4 b9 a.2)]):=.bJ fun r1 h2=>.ret (h6 [(I 1),(I 1),.aS [0] [.ax] (bf [0,1,5]),(S7.t r1),(I 2)] [0] [.ax] (.bG (b3 4 nh eD) (cV h2 acM) (b3 4 nh r1.2)))
def SW:ea (Int×Int×arQ) (Int×arQ):=⟨fun (aK,ae,af)=>dv [(gw 0 af),(aT 1 aK),(aT 5 ae)] [(bt 3 ca af)],fun | a=>⟨some 0,[(aT 1 a.1)],[(bt 3 ca a.2)]⟩⟩
def zR (aK ae:Int)(af:arQ):Option ((Int×Int×arQ)⊕(Int×arQ)) :=if decide (ae<(af.length:Int)) then if 0<=ae/\ae<af.length then af[(0+ae.toNat)]? >>= fun ag=>(af.set (0+ae.toNat) (⟨aK,ag.bP,ag.h5⟩:c6))[(0+ae.toNat)]? >>= fun d7=>((af.set (0+ae.toNat) (⟨aK,ag.bP,ag.h5⟩:c6)).set (0+ae.toNat) (⟨d7.bR,J (aK+1),d7.h5⟩:c6))[(0+ae.toNat)]? >>= fun c5 =>some (.inl (J ((J ((J (aK+1))+1))+1),J (ae+1),((af.set (0+ae.toNat) (⟨aK,ag.bP,ag.h5⟩:c6)).set (0+ae.toNat) (⟨d7.bR,J (aK+1),d7.h5⟩:c6)).set (0+ae.toNat) (⟨c5.bR,c5.bP,J ((J (aK+1))+1)⟩:c6))) else none else some (.inr (aK,af))
def Tl (aK ae:Int)(af:arQ):Option (Int×arQ):=iter (fun w:Int×Int×arQ=>zR w.1 w.2.1 w.2.2) (aK,ae,af)
theorem acJ {aK ae:Int}{af:arQ}:bk (zR aK ae af) (ed bm 34 1 40 [1,0,1,0,0] SW (aK,ae,af)):=.b6 (fun h1=>.bX fun h2 ag aj=>.el fun d7 aM c5 bj=>.ret (let q2:=(mL (eg ca af) (0+ae.toNat) (⟨aK,ag.bP,ag.h5⟩:c6) (rfl:(setCells (ca ag) 0 [.n .i64 aK])=ca (⟨aK,ag.bP,ag.h5⟩:c6)));let bB:=(J (aK+1));let q1:=(mL q2 (0+ae.toNat) (⟨d7.bR,J (aK+1),d7.h5⟩:c6) (rfl:(setCells (ca d7) 1 [.n .i64 bB])=ca (⟨d7.bR,J (aK+1),d7.h5⟩:c6)));a5 [(I 4),.aL,.ah (ab 4 (ad (.cn (ca ag)) (ad (.cn (ca ag)) []))),(I 3),.ah (ab 4 (ad (.cn (ca d7)) (ad (.cn (ca d7)) []))),(I 3),.ah (ab 4 (ad (.cn (ca c5)) (ad (.cn (ca c5)) []))),(I 3),(I 3),.aS [0] [.cM (bt 3 ca (((af.set (0+ae.toNat) (⟨aK,ag.bP,ag.h5⟩:c6)).set (0+ae.toNat) (⟨d7.bR,J (aK+1),d7.h5⟩:c6)).set (0+ae.toNat) (⟨c5.bR,c5.bP,J (bB+1)⟩:c6)))] [(fK 0 (((af.set (0+ae.toNat) (⟨aK,ag.bP,ag.h5⟩:c6)).set (0+ae.toNat) (⟨d7.bR,J (aK+1),d7.h5⟩:c6)).set (0+ae.toNat) (⟨c5.bR,c5.bP,J (bB+1)⟩:c6))),(1,ii),(5,ii)]] (.aP h1 h2.1 h2.2 (bO ca aj) (bO ca aj) h2.1 h2.2 (oe q2 aM) (.gY (oe q2 aM) h2.1 h2.2 (oe q1 bj) (oe q1 bj) (c4 3 (mL q1 (0+ae.toNat) (⟨c5.bR,c5.bP,J (bB+1)⟩:c6) (rfl:(setCells (ca c5) 2 [.n .i64 (J (bB+1))])=ca (⟨c5.bR,c5.bP,J (bB+1)⟩:c6)))) (b3 3 ng (((af.set (0+ae.toNat) (⟨aK,ag.bP,ag.h5⟩:c6)).set (0+ae.toNat) (⟨d7.bR,J (aK+1),d7.h5⟩:c6)).set (0+ae.toNat) (⟨c5.bR,c5.bP,J (bB+1)⟩:c6))) (sX (sX (hy af ae (⟨aK,ag.bP,ag.h5⟩:c6)) (0+ae.toNat) (⟨d7.bR,J (aK+1),d7.h5⟩:c6)) (0+ae.toNat) (⟨c5.bR,c5.bP,J (bB+1)⟩:c6)))))) (fun h1=>(a5 (n0 4 0 1) (.e2 h1 (b3 3 ng af))))
def Gx (aK:Int)(eD:arQ):Option (Int×arQ) :=Tl aK 0 eD >>= fun r1 =>some (r1.1,r1.2)
theorem aei:bk (Gx aK eD) (fun a=>Con bm 40 [.bw 0 0 0 eD.length,.n .i64 aK] [(bt 3 ca eD)] (.n .i64 a.1) [(bt 3 ca a.2)]):=.bJ fun r1 h2=>.ret (h6 [(I 1),(I 1),.aS [0] [.ax] (bf [0,1,5]),(SW.t r1),(I 2)] [0] [.ax] (.bG (b3 3 ng eD) (cV h2 acJ) (b3 3 ng r1.2)))
def DH (aK:Int)(eD:arP)(dr:arQ):Option (Int×arP×arQ) :=GB aK eD >>= fun r1 =>if eD.length=r1.2.length then Gx r1.1 dr >>= fun bb =>if dr.length=bb.2.length then some (bb.1,r1.2,bb.2) else none else none
theorem SX:bk (DH aK eD dr) (fun a=>Con bm 15 [.agg [.bw 0 0 0 eD.length,.bw 1 0 0 dr.length],.n .i64 aK] [(bt 4 b9 eD),(bt 3 ca dr)] (.n .i64 a.1) [(bt 4 b9 a.2.1),(bt 3 ca a.2.2)]):=.hE fun r1 h2 R=>.hE fun bb aq aM=>.ret (h6 [(I 2),.ah (bU 3 (.call {a3:=[.row 0],di:=[.ax],ac:=[ii,ii],r:= .n .i64 r1.1,eU:=[(bt 4 b9 r1.2)],f7:=ii,gK:=[.ax],en:=[0],d4:=false}) 1),.ah (bU 3 (.call {a3:=[.row 1],di:=[.ax],ac:=[ii,ii],r:= .n .i64 bb.1,eU:=[(bt 3 ca bb.2)],f7:=ii,gK:=[.ax],en:=[1],d4:=false}) 1),(I 2)] [0,1] [.ax,.ax] (.gY (eB 4 nh eD) (eB 4 nh r1.2) (aer r1 h2) (eB 3 ng dr) (eB 3 ng bb.2) (aei bb aq) (b3 4 nh r1.2) (b3 3 ng bb.2)))
def Tm:ea (Int×Int×ar) (Int×ar):=⟨fun (aK,ae,af)=>dv [(gw 0 af),(aT 1 aK),(aT 5 ae)] [(bd af)],fun | a=>⟨some 0,[(aT 1 a.1)],[(bd a.2)]⟩⟩
def CS (aK ae:Int)(af:ar):Option ((Int×Int×ar)⊕(Int×ar)) :=if decide (ae<(af.length:Int)) then if 0<=ae/\ae<af.length then if (0+ae.toNat)<af.length then some (.inl (J (aK+1),J (ae+1),af.set (0+ae.toNat) aK)) else none else none else some (.inr (aK,af))
def TT (aK ae:Int)(af:ar):Option (Int×ar):=iter (fun w:Int×Int×ar=>CS w.1 w.2.1 w.2.2) (aK,ae,af)
theorem ac0 {aK ae:Int}{af:ar}:bk (CS aK ae af) (ed bm 19 1 16 [1,0,1,0,0] Tm (aK,ae,af)):=.b6 (fun h1=>.hL fun h2 R=>.ret (a5 [(I 4),.aL,.ah (ab 4 (ad .eA [])),(I 3),(I 3),.aS [0] [.cM (bd (af.set (0+ae.toNat) aK))] [(fK 0 (af.set (0+ae.toNat) aK)),(1,ii),(5,ii)]] (.gY h1 h2.1 h2.2 (hJ eI R) (hB 1) (c4 1 (h9 eI af ae aK)) (aW (af.set (0+ae.toNat) aK)) (hy af ae aK)))) (fun h1=>(a5 (n0 4 0 1) (.e2 h1 (aW af))))
def Ae (aK:Int)(eD:ar):Option (Int×ar) :=TT aK 0 eD >>= fun r1 =>some (r1.1,r1.2)
theorem TU:bk (Ae aK eD) (fun a=>Con bm 16 [.bw 0 0 0 eD.length,.n .i64 aK] [(bd eD)] (.n .i64 a.1) [(bd a.2)]):=.bJ fun r1 h2=>.ret (h6 [(I 1),(I 1),.aS [0] [.ax] (bf [0,1,5]),(Tm.t r1),(I 2)] [0] [.ax] (.bG (aW eD) (cV h2 ac0) (aW r1.2)))
def S8:ea (Int×Int×arS) (Int×arS):=⟨fun (aK,ae,af)=>dv [(gw 0 af),(aT 1 aK),(aT 5 ae)] [(bt 4 eTBlock af)],fun | a=>⟨some 0,[(aT 1 a.1)],[(bt 4 eTBlock a.2)]⟩⟩
def zT (aK ae:Int)(af:arS):Option ((Int×Int×arS)⊕(Int×arS)) :=if decide (ae<(af.length:Int)) then if 0<=ae/\ae<af.length then af[(0+ae.toNat)]? >>= fun ag=>(af.set (0+ae.toNat) (⟨aK,ag.bP,ag.bQ,ag.cC⟩:dp))[(0+ae.toNat)]? >>= fun d7=>((af.set (0+ae.toNat) (⟨aK,ag.bP,ag.bQ,ag.cC⟩:dp)).set (0+ae.toNat) (⟨d7.bR,J (aK+1),d7.bQ,d7.cC⟩:dp))[(0+ae.toNat)]? >>= fun c5=>(((af.set (0+ae.toNat) (⟨aK,ag.bP,ag.bQ,ag.cC⟩:dp)).set (0+ae.toNat) (⟨d7.bR,J (aK+1),d7.bQ,d7.cC⟩:dp)).set (0+ae.toNat) (⟨c5.bR,c5.bP,J ((J (aK+1))+1),c5.cC⟩:dp))[(0+ae.toNat)]? >>= fun d5 =>some (.inl (J ((J ((J ((J (aK+1))+1))+1))+1),J (ae+1),(((af.set (0+ae.toNat) (⟨aK,ag.bP,ag.bQ,ag.cC⟩:dp)).set (0+ae.toNat) (⟨d7.bR,J (aK+1),d7.bQ,d7.cC⟩:dp)).set (0+ae.toNat) (⟨c5.bR,c5.bP,J ((J (aK+1))+1),c5.cC⟩:dp)).set (0+ae.toNat) (⟨d5.bR,d5.bP,d5.bQ,J ((J ((J (aK+1))+1))+1)⟩:dp))) else none else some (.inr (aK,af))
def TJ (aK ae:Int)(af:arS):Option (Int×arS):=iter (fun w:Int×Int×arS=>zT w.1 w.2.1 w.2.2) (aK,ae,af)
theorem acN {aK ae:Int}{af:arS}:bk (zT aK ae af) (ed bm 41 1 17 [1,0,1,0,0] S8 (aK,ae,af)):=.b6 (fun h1=>.bX fun h2 ag aj=>.el fun d7 aM c5 bj=>.bJ fun d5 b1=>.ret (let cu:=(mL (eg eTBlock af) (0+ae.toNat) (⟨aK,ag.bP,ag.bQ,ag.cC⟩:dp) (rfl:(setCells (eTBlock ag) 0 [.n .i64 aK])=eTBlock (⟨aK,ag.bP,ag.bQ,ag.cC⟩:dp)));let dn:=(J (aK+1));let q1:=(mL cu (0+ae.toNat) (⟨d7.bR,J (aK+1),d7.bQ,d7.cC⟩:dp) (rfl:(setCells (eTBlock d7) 1 [.n .i64 dn])=eTBlock (⟨d7.bR,J (aK+1),d7.bQ,d7.cC⟩:dp)));let bB:=(J (dn+1));let q2:=(mL q1 (0+ae.toNat) (⟨c5.bR,c5.bP,J (dn+1),c5.cC⟩:dp) (rfl:(setCells (eTBlock c5) 2 [.n .i64 bB])=eTBlock (⟨c5.bR,c5.bP,J (dn+1),c5.cC⟩:dp)));a5 [(I 4),.aL,.ah (ab 4 (ad (.cn (eTBlock ag)) (ad (.cn (eTBlock ag)) []))),(I 3),.ah (ab 4 (ad (.cn (eTBlock d7)) (ad (.cn (eTBlock d7)) []))),(I 3),.ah (ab 4 (ad (.cn (eTBlock c5)) (ad (.cn (eTBlock c5)) []))),(I 3),.ah (ab 4 (ad (.cn (eTBlock d5)) (ad (.cn (eTBlock d5)) []))),(I 3),(I 3),.aS [0] [.cM (bt 4 eTBlock ((((af.set (0+ae.toNat) (⟨aK,ag.bP,ag.bQ,ag.cC⟩:dp)).set (0+ae.toNat) (⟨d7.bR,J (aK+1),d7.bQ,d7.cC⟩:dp)).set (0+ae.toNat) (⟨c5.bR,c5.bP,J (dn+1),c5.cC⟩:dp)).set (0+ae.toNat) (⟨d5.bR,d5.bP,d5.bQ,J (bB+1)⟩:dp)))] [(fK 0 ((((af.set (0+ae.toNat) (⟨aK,ag.bP,ag.bQ,ag.cC⟩:dp)).set (0+ae.toNat) (⟨d7.bR,J (aK+1),d7.bQ,d7.cC⟩:dp)).set (0+ae.toNat) (⟨c5.bR,c5.bP,J (dn+1),c5.cC⟩:dp)).set (0+ae.toNat) (⟨d5.bR,d5.bP,d5.bQ,J (bB+1)⟩:dp))),(1,ii),(5,ii)]] (.aP h1 h2.1 h2.2 (bO eTBlock aj) (bO eTBlock aj) h2.1 h2.2 (oe cu aM) (.aP (oe cu aM) h2.1 h2.2 (oe q1 bj) (oe q1 bj) h2.1 h2.2 (oe q2 b1) (.cR (oe q2 b1) (c4 4 (mL q2 (0+ae.toNat) (⟨d5.bR,d5.bP,d5.bQ,J (bB+1)⟩:dp) (rfl:(setCells (eTBlock d5) 3 [.n .i64 (J (bB+1))])=eTBlock (⟨d5.bR,d5.bP,d5.bQ,J (bB+1)⟩:dp)))) (b3 4 ni ((((af.set (0+ae.toNat) (⟨aK,ag.bP,ag.bQ,ag.cC⟩:dp)).set (0+ae.toNat) (⟨d7.bR,J (aK+1),d7.bQ,d7.cC⟩:dp)).set (0+ae.toNat) (⟨c5.bR,c5.bP,J (dn+1),c5.cC⟩:dp)).set (0+ae.toNat) (⟨d5.bR,d5.bP,d5.bQ,J (bB+1)⟩:dp))) (sX (sX (sX (hy af ae (⟨aK,ag.bP,ag.bQ,ag.cC⟩:dp)) (0+ae.toNat) (⟨d7.bR,J (aK+1),d7.bQ,d7.cC⟩:dp)) (0+ae.toNat) (⟨c5.bR,c5.bP,J (dn+1),c5.cC⟩:dp)) (0+ae.toNat) (⟨d5.bR,d5.bP,d5.bQ,J (bB+1)⟩:dp))))))) (fun h1=>(a5 (n0 4 0 1) (.e2 h1 (b3 4 ni af))))
def D1 (aK:Int)(eD:arS):Option (Int×arS) :=TJ aK 0 eD >>= fun r1 =>some (r1.1,r1.2)
theorem TK:bk (D1 aK eD) (fun a=>Con bm 17 [.bw 0 0 0 eD.length,.n .i64 aK] [(bt 4 eTBlock eD)] (.n .i64 a.1) [(bt 4 eTBlock a.2)]):=.bJ fun r1 h2=>.ret (h6 [(I 1),(I 1),.aS [0] [.ax] (bf [0,1,5]),(S8.t r1),(I 2)] [0] [.ax] (.bG (b3 4 ni eD) (cV h2 acN) (b3 4 ni r1.2)))
def aeR (ao:ar)(aK:Int):ea Unit Unit:=⟨fun _=>dv [(e6 0 ao),(aT 1 aK),(aT 5 (0:Int))] [],fun | a=>⟨some 0,[(aT 1 aK)],[]⟩⟩
def Kh (ao:ar)(aK:Int):Option ((Unit)⊕(Unit)) :=if decide ((0:Int)<(aE eI ao)) then if 0<=(0:Int)/\(0:Int)<ao.length then none else none else some (.inr ())
def N4 (ao:ar)(aK:Int):Option (Unit):=iter (fun w:Unit=>Kh ao aK) ()
theorem ady {ao:ar}{aK:Int}:bk (Kh ao aK) (ed bm 19 0 16 [1,0,1,0,0] (aeR ao aK) ()):=.b6 (fun h1=>.gR fun h2=>.FD) (fun h1=>(a5 (rm 4 1) (.e1 h1)))
def yB (ao:ar)(aK:Int):arW :=N4 ao aK >>= fun r1 =>some aK
theorem N5:bk (yB ao aK) (fun r=>Con bm 16 [.isl 1 (ao.map eI),.n .i64 aK] [] (.n .i64 r) []):=.bJ fun r1 h2=>.ret (bg [(I 1),(I 1),.aS [] [] (bf [0,1,5]),.sub (.exit 0) [(aT 1 aK)] [],(I 2)] (.e1 (cV h2 ady)))
def TL (rG ma:Nat):ea (Int×Int×ar) (Int×ar):=⟨fun (aK,ae,af)=>dv [(0,.bw 0 0 rG ma),(aT 1 aK),(aT 5 ae)] [(bd af)],fun | a=>⟨some 0,[(aT 1 a.1)],[(bd a.2)]⟩⟩
def C7 (rG ma:Nat)(aK ae:Int)(af:ar):Option ((Int×Int×ar)⊕(Int×ar)) :=if decide (ae<(ma:Int)) then if 0<=ae/\ae<ma then if (rG+ae.toNat)<af.length then some (.inl (J (aK+1),J (ae+1),af.set (rG+ae.toNat) aK)) else none else none else some (.inr (aK,af))
def Uj (rG ma:Nat)(aK ae:Int)(af:ar):Option (Int×ar):=iter (fun w:Int×Int×ar=>C7 rG ma w.1 w.2.1 w.2.2) (aK,ae,af)
theorem adj:bk (C7 rG ma aK ae af) (ed bm 19 1 16 [1,0,1,0,0] (TL rG ma) (aK,ae,af)):=.b6 (fun h1=>.hL fun h2 R=>.ret (a5 [(I 4),.aL,.ah (ab 4 (ad .eA [])),(I 3),(I 3),.aS [0] [.cM (bd (af.set (rG+ae.toNat) aK))] (bf [0,1,5])] (.fm h1 h2.1 h2.2 (hJ eI R) (hB 1) (c4 1 (sj (eg eI af) (rG+ae.toNat) aK)) (aW (af.set (rG+ae.toNat) aK))))) (fun h1=>(a5 (n0 4 0 1) (.e2 h1 (aW af))))
def yw (aK:Int)(rG ma:Nat)(eD:ar):Option (Int×ar) :=Uj rG ma aK 0 eD >>= fun r1 =>some (r1.1,r1.2)
theorem NS:bk (yw aK rG ma eD) (fun a=>Con bm 16 [.bw 0 0 rG ma,.n .i64 aK] [(bd eD)] (.n .i64 a.1) [(bd a.2)]):=.bJ fun r1 h2=>.ret (h6 [(I 1),(I 1),.aS [0] [.ax] (bf [0,1,5]),((TL rG ma).t r1),(I 2)] [0] [.ax] (.bG (aW eD) (cV h2 adj) (aW r1.2)))
def TM:ea (Int×Int×arV×arR) (Int×arV×arR):=⟨fun (aK,ae,gB,bL)=>dv [(gw 0 gB),(aT 1 aK),(aT 5 ae)] [(aR.mk 3 (gB.map (dq 0 1)) .live::(de 1 eI bL))],fun | a=>⟨some 0,[(aT 1 a.1)],[(aR.mk 3 (a.2.1.map (dq 0 1)) .live::(de 1 eI a.2.2))]⟩⟩
def C8 (aK ae:Int)(gB:arV)(bL:arR):Option ((Int×Int×arV×arR)⊕(Int×arV×arR)) :=if decide (ae<(gB.length:Int)) then if 0<=ae/\ae<gB.length then gB[(0+ae.toNat)]? >>= fun ag=>(gB.set (0+ae.toNat) (⟨(⟨((aK.tmod (3:Int)) == (0:Int)),ag.bQ.bZ⟩:hX),ag.cC⟩:eH))[(0+ae.toNat)]? >>= fun d7 =>d7.bQ.bZ.elim (yB ([]:ar) (J (aK+1)) >>= fun bz =>d7.cC.elim (yB ([]:ar) bz >>= fun c3 =>some (.inl (c3,J (ae+1),gB.set (0+ae.toNat) (⟨(⟨((aK.tmod (3:Int)) == (0:Int)),ag.bQ.bZ⟩:hX),ag.cC⟩:eH),bL))) fun tl =>bL[tl.1]? >>= fun mG =>yw bz 0 tl.2 mG >>= fun eu =>some (.inl (eu.1,J (ae+1),gB.set (0+ae.toNat) (⟨(⟨((aK.tmod (3:Int)) == (0:Int)),ag.bQ.bZ⟩:hX),ag.cC⟩:eH),bL.set tl.1 eu.2))) fun lc =>bL[lc.1]? >>= fun JT =>yw (J (aK+1)) 0 lc.2 JT >>= fun b2 =>d7.cC.elim (yB ([]:ar) b2.1 >>= fun eu =>some (.inl (eu,J (ae+1),gB.set (0+ae.toNat) (⟨(⟨((aK.tmod (3:Int)) == (0:Int)),ag.bQ.bZ⟩:hX),ag.cC⟩:eH),bL.set lc.1 b2.2))) fun o7=>(bL.set lc.1 b2.2)[o7.1]? >>= fun lx =>yw b2.1 0 o7.2 lx >>= fun il =>some (.inl (il.1,J (ae+1),gB.set (0+ae.toNat) (⟨(⟨((aK.tmod (3:Int)) == (0:Int)),ag.bQ.bZ⟩:hX),ag.cC⟩:eH),(bL.set lc.1 b2.2).set o7.1 il.2)) else none else some (.inr (aK,gB,bL))
def Uk (aK ae:Int)(gB:arV)(bL:arR):Option (Int×arV×arR):=iter (fun w:Int×Int×arV×arR=>C8 w.1 w.2.1 w.2.2.1 w.2.2.2) (aK,ae,gB,bL)
theorem adk {aK ae:Int}{gB:arV}{bL:arR}:bk (C8 aK ae gB bL) (ed bm 38 1 18 [1,0,1,0,0] TM (aK,ae,gB,bL)):=.b6 (fun h1=>.bX fun h2 ag aj=>.bJ fun d7 aM=>(let cu:=(mL (eg (dq 0 1) gB) (0+ae.toNat) (⟨(⟨((aK.tmod (3:Int)) == (0:Int)),ag.bQ.bZ⟩:hX),ag.cC⟩:eH) (rfl:(setCells ((dq 0 1) ag) 0 [.b ((aK.tmod (3:Int)) == (0:Int))])=(dq 0 1) (⟨(⟨((aK.tmod (3:Int)) == (0:Int)),ag.bQ.bZ⟩:hX),ag.cC⟩:eH)));let dn:=bO (dq 0 1) aj;let t1:=[(I 4),.aL,.ah (ab 6 (ad (.cn ((dq 0 1) ag)) (ad (.cn ((dq 0 1) ag)) (ad (.cn ((dq 0 1) ag)) [])))),(I 3)];have aU:=((.aP h1 (by decide:(3:Int)≠0) h2.1 h2.2 dn dn dn h2.1 (.cR h2.2 (oe cu aM) (oe cu aM) (oe cu aM))):cO _);.m6 (fun ba=>.bJ fun bz b1=>(let q2:=(mL (eg (dq 0 1) gB) (0+ae.toNat) (⟨(⟨((aK.tmod (3:Int)) == (0:Int)),ag.bQ.bZ⟩:hX),ag.cC⟩:eH) (rfl:(setCells ((dq 0 1) ag) 0 [.b ((aK.tmod (3:Int)) == (0:Int))])=(dq 0 1) (⟨(⟨((aK.tmod (3:Int)) == (0:Int)),ag.bQ.bZ⟩:hX),ag.cC⟩:eH)));let t3:=t1.aH [.ah (ab 3 (ad (.cn ((dq 0 1) d7)) (ad (.cn ((dq 0 1) d7)) (ad (.cn ((dq 0 1) d7)) (bU 1 (.gb 27 (.isl 1 []) (hY 2 bz)) 1)))))];have eV:=aU.aw (.fm (PD (dU:=0) (c:=1) (sz:=1) ba) (N5 bz b1) (bD.n .i64 bz) h2.1 h2.2 (oe q2 aM) (oe q2 aM));.m6 (fun dg=>.bJ fun c3 ez=>.ret (a5 (t3.aH [.ah (ab 3 (ad (.cn ((dq 0 1) d7)) (ad (.cn ((dq 0 1) d7)) (bU 1 (.gb 34 (.isl 1 []) (hY 2 c3)) 1)))),(I 3),.aS [0] [.bq (aR.mk 3 ((gB.set (0+ae.toNat) (⟨(⟨((aK.tmod (3:Int)) == (0:Int)),ag.bQ.bZ⟩:hX),ag.cC⟩:eH)).map (dq 0 1)) .live::(de 1 eI bL))] [(fK 0 (gB.set (0+ae.toNat) (⟨(⟨((aK.tmod (3:Int)) == (0:Int)),ag.bQ.bZ⟩:hX),ag.cC⟩:eH))),(1,ii),(5,ii)]]) (eV.aw (.dd (PD (dU:=0) (c:=1) (sz:=1) dg) (N5 c3 ez) (bD.n .i64 c3) (fy (lC (b7:=(bY [0])) 3 .live (dq 0 1) (mL (eg (dq 0 1) gB) (0+ae.toNat) (⟨(⟨((aK.tmod (3:Int)) == (0:Int)),ag.bQ.bZ⟩:hX),ag.cC⟩:eH) (rfl:(setCells ((dq 0 1) ag) 0 [.b ((aK.tmod (3:Int)) == (0:Int))])=(dq 0 1) (⟨(⟨((aK.tmod (3:Int)) == (0:Int)),ag.bQ.bZ⟩:hX),ag.cC⟩:eH))) (fun x=>(pD (rfl:(bY [0]) 0=some 0)) x)) (ex (bY [0]) 1 ja bL)) (hy gB ae (⟨(⟨((aK.tmod (3:Int)) == (0:Int)),ag.bQ.bZ⟩:hX),ag.cC⟩:eH)))))) (fun tl dg=>.el fun mG ez eu hl=>.ret (a5 (t3.aH [.ah (ab 3 (ad (.cn ((dq 0 1) d7)) (ad (.cn ((dq 0 1) d7)) (bU 1 (.gb 34 (.bw 0 (tl.1+1) 0 tl.2) (.call {a3:=[.al 0 (tl.1+1) (df mG)],di:=[.ax],ac:=[.a6 (.cr (.at_ 0 0 tl.2)),ii],r:= .n .i64 eu.1,eU:=[(bd eu.2)],f7:=ii,gK:=[.ax],en:=[0],d4:=false})) 1)))),(I 3),.aS [0] [.bq (aR.mk 3 ((gB.set (0+ae.toNat) (⟨(⟨((aK.tmod (3:Int)) == (0:Int)),ag.bQ.bZ⟩:hX),ag.cC⟩:eH)).map (dq 0 1)) .live::(de 1 eI (bL.set tl.1 eu.2)))] [(fK 0 (gB.set (0+ae.toNat) (⟨(⟨((aK.tmod (3:Int)) == (0:Int)),ag.bQ.bZ⟩:hX),ag.cC⟩:eH))),(1,ii),(5,ii)]]) (eV.aw (.aP (mA (dU:=0) (c:=1) (sz:=1) dg) (rfl:lL [.al 0 (tl.1+1) (df mG)] 0 0=some (0,(tl.1+1))) (rfl:tl.2=tl.2) (kG (gp 1 eI bL) jo ez) (eB 1 cy mG) (eB 1 cy eu.2) (NS eu hl) (fy (lC (b7:=(bY [0])) 3 .live (dq 0 1) (mL (eg (dq 0 1) gB) (0+ae.toNat) (⟨(⟨((aK.tmod (3:Int)) == (0:Int)),ag.bQ.bZ⟩:hX),ag.cC⟩:eH) (rfl:(setCells ((dq 0 1) ag) 0 [.b ((aK.tmod (3:Int)) == (0:Int))])=(dq 0 1) (⟨(⟨((aK.tmod (3:Int)) == (0:Int)),ag.bQ.bZ⟩:hX),ag.cC⟩:eH))) (fun x=>(pD (rfl:(bY [0]) 0=some 0)) x)) (nm (b7:=(bY [0])) (qv (gp 1 eI bL) tl.1 (eg eI eu.2)) (mc ja))) (.e1 (hy gB ae (⟨(⟨((aK.tmod (3:Int)) == (0:Int)),ag.bQ.bZ⟩:hX),ag.cC⟩:eH))))))))) (fun lc ba=>.el fun JT b1 b2 eT=>(let bB:=(mL (eg (dq 0 1) gB) (0+ae.toNat) (⟨(⟨((aK.tmod (3:Int)) == (0:Int)),ag.bQ.bZ⟩:hX),ag.cC⟩:eH) (rfl:(setCells ((dq 0 1) ag) 0 [.b ((aK.tmod (3:Int)) == (0:Int))])=(dq 0 1) (⟨(⟨((aK.tmod (3:Int)) == (0:Int)),ag.bQ.bZ⟩:hX),ag.cC⟩:eH)));let t3:=t1.aH [.ah (ab 3 (ad (.cn ((dq 0 1) d7)) (ad (.cn ((dq 0 1) d7)) (ad (.cn ((dq 0 1) d7)) (bU 1 (.gb 27 (.bw 0 (lc.1+1) 0 lc.2) (.call {a3:=[.al 0 (lc.1+1) (df JT)],di:=[.ax],ac:=[.a6 (.cr (.at_ 0 0 lc.2)),ii],r:= .n .i64 b2.1,eU:=[(bd b2.2)],f7:=ii,gK:=[.ax],en:=[0],d4:=false})) 1)))))];have eV:=aU.aw (.aP (mA (dU:=0) (c:=1) (sz:=1) ba) (rfl:lL [.al 0 (lc.1+1) (df JT)] 0 0=some (0,(lc.1+1))) (rfl:lc.2=lc.2) (kG (gp 1 eI bL) jo b1) (eB 1 cy JT) (eB 1 cy b2.2) (NS b2 eT) h2.1 (.bG h2.2 (oe bB aM) (oe bB aM)));.m6 (fun ey=>.bJ fun eu hl=>.ret (a5 (t3.aH [.ah (ab 3 (ad (.cn ((dq 0 1) d7)) (ad (.cn ((dq 0 1) d7)) (bU 1 (.gb 34 (.isl 1 []) (hY 2 eu)) 1)))),(I 3),.aS [0] [.bq (aR.mk 3 ((gB.set (0+ae.toNat) (⟨(⟨((aK.tmod (3:Int)) == (0:Int)),ag.bQ.bZ⟩:hX),ag.cC⟩:eH)).map (dq 0 1)) .live::(de 1 eI (bL.set lc.1 b2.2)))] [(fK 0 (gB.set (0+ae.toNat) (⟨(⟨((aK.tmod (3:Int)) == (0:Int)),ag.bQ.bZ⟩:hX),ag.cC⟩:eH))),(1,ii),(5,ii)]]) (eV.aw (.dd (PD (dU:=0) (c:=1) (sz:=1) ey) (N5 eu hl) (bD.n .i64 eu) (fy (lC (b7:=(bY [0])) 3 .live (dq 0 1) (mL (eg (dq 0 1) gB) (0+ae.toNat) (⟨(⟨((aK.tmod (3:Int)) == (0:Int)),ag.bQ.bZ⟩:hX),ag.cC⟩:eH) (rfl:(setCells ((dq 0 1) ag) 0 [.b ((aK.tmod (3:Int)) == (0:Int))])=(dq 0 1) (⟨(⟨((aK.tmod (3:Int)) == (0:Int)),ag.bQ.bZ⟩:hX),ag.cC⟩:eH))) (fun x=>(pD (rfl:(bY [0]) 0=some 0)) x)) (nm (b7:=(bY [0])) (qv (gp 1 eI bL) lc.1 (eg eI b2.2)) (mc ja))) (hy gB ae (⟨(⟨((aK.tmod (3:Int)) == (0:Int)),ag.bQ.bZ⟩:hX),ag.cC⟩:eH)))))) (fun o7 ey=>.el fun lx hl il iF=>.ret (let q1:=qv (gp 1 eI bL) lc.1 (eg eI b2.2);a5 (t3.aH [.ah (ab 3 (ad (.cn ((dq 0 1) d7)) (ad (.cn ((dq 0 1) d7)) (bU 1 (.gb 34 (.bw 0 (o7.1+1) 0 o7.2) (.call {a3:=[.al 0 (o7.1+1) (df lx)],di:=[.ax],ac:=[.a6 (.cr (.at_ 0 0 o7.2)),ii],r:= .n .i64 il.1,eU:=[(bd il.2)],f7:=ii,gK:=[.ax],en:=[0],d4:=false})) 1)))),(I 3),.aS [0] [.bq (aR.mk 3 ((gB.set (0+ae.toNat) (⟨(⟨((aK.tmod (3:Int)) == (0:Int)),ag.bQ.bZ⟩:hX),ag.cC⟩:eH)).map (dq 0 1)) .live::(de 1 eI ((bL.set lc.1 b2.2).set o7.1 il.2)))] [(fK 0 (gB.set (0+ae.toNat) (⟨(⟨((aK.tmod (3:Int)) == (0:Int)),ag.bQ.bZ⟩:hX),ag.cC⟩:eH))),(1,ii),(5,ii)]]) (eV.aw (.aP (mA (dU:=0) (c:=1) (sz:=1) ey) (rfl:lL [.al 0 (o7.1+1) (df lx)] 0 0=some (0,(o7.1+1))) (rfl:o7.2=o7.2) (kG q1 jo hl) (eB 1 cy lx) (eB 1 cy il.2) (NS il iF) (fy (lC (b7:=(bY [0])) 3 .live (dq 0 1) (mL (eg (dq 0 1) gB) (0+ae.toNat) (⟨(⟨((aK.tmod (3:Int)) == (0:Int)),ag.bQ.bZ⟩:hX),ag.cC⟩:eH) (rfl:(setCells ((dq 0 1) ag) 0 [.b ((aK.tmod (3:Int)) == (0:Int))])=(dq 0 1) (⟨(⟨((aK.tmod (3:Int)) == (0:Int)),ag.bQ.bZ⟩:hX),ag.cC⟩:eH))) (fun x=>(pD (rfl:(bY [0]) 0=some 0)) x)) (nm (b7:=(bY [0])) (qv q1 o7.1 (eg eI il.2)) (mc ja))) (.e1 (hy gB ae (⟨(⟨((aK.tmod (3:Int)) == (0:Int)),ag.bQ.bZ⟩:hX),ag.cC⟩:eH))))))))))) (fun h1=>(a5 [(I 4),.aI,.aS [0] [.bq (aR.mk 3 (gB.map (dq 0 1)) .live::(de 1 eI bL))] (bf [1])] (.e2 h1 (fy (lC (b7:=(bY [0])) 3 .live (dq 0 1) (eg (dq 0 1) gB) (fun x=>(pD (rfl:(bY [0]) 0=some 0)) x)) (ex (bY [0]) 1 ja bL)))))
def D9 (aK:Int)(Fc:arV)(n5:arR):Option (Int×arV×arR) :=Uk aK 0 Fc n5 >>= fun r1 =>some (r1.1,r1.2.1,r1.2.2)
theorem aeS:bk (D9 aK Fc n5) (fun a=>Con bm 18 [.bw 0 0 0 Fc.length,.n .i64 aK] [(aR.mk 3 (Fc.map (dq 0 1)) .live::(de 1 eI n5))] (.n .i64 a.1) [(aR.mk 3 (a.2.1.map (dq 0 1)) .live::(de 1 eI a.2.2))]):=.bJ fun r1 h2=>.ret (let q1:=bY [0];h6 [(I 1),(I 1),.aS [0] [.bq (aR.mk 3 (Fc.map (dq 0 1)) .live::(de 1 eI n5))] (bf [0,1,5]),(TM.t r1),(I 2)] [0] [.bq (aR.mk 3 (r1.2.1.map (dq 0 1)) .live::(de 1 eI r1.2.2))] (.bG (fy (lC (b7:=q1) 3 .live (dq 0 1) (eg (dq 0 1) Fc) (fun x=>(pD (rfl:q1 0=some 0)) x)) (ex q1 1 ja n5)) (cV h2 adk) (fy (lC (b7:=q1) 3 .live (dq 0 1) (eg (dq 0 1) r1.2.1) (fun x=>(pD (rfl:q1 0=some 0)) x)) (ex q1 1 ja r1.2.2))))
def Ul (ao:ar):ea (Int×Int) ((Int)⊕(Unit)):=⟨fun (aK,ae)=>dv [(e6 0 ao),(aT 1 aK),(aT 5 ae)] [],fun | .inl a=>⟨some 0,[(aT 1 a)],[]⟩ | .inr a=>⟨none,[(aT 4 (-1:Int))],[]⟩⟩
def Dq (ao:ar)(aK ae:Int):Option ((Int×Int)⊕((Int)⊕(Unit))) :=if decide (ae<(aE eI ao)) then if 0<=ae/\ae<ao.length then ao[ae.toNat]? >>= fun ag =>if ag != aK then some (.inr (.inr ())) else some (.inl (J (aK+1),J (ae+1))) else none else some (.inr (.inl aK))
def Vc (ao:ar)(aK ae:Int):Option ((Int)⊕(Unit)):=iter (fun w:Int×Int=>Dq ao w.1 w.2) (aK,ae)
theorem SL:bk (Dq ao aK ae) (ed bm 21 0 41 [1,0,1,0,0] (Ul ao) (aK,ae)):=.b6 (fun h1=>.bX fun h2 ag aj=>(let t1:=[(I 4),.aL,.ah (hz 3 ag 2)];have aU:=((.cR h1 h2.1 (dk eI h2.2) (bO eI aj)):cO _);.gF (fun aq=>(a5 (t1.append (lO 1 4)) (aU.aw (.e1 aq)))) (fun aq=>(a5 (t1.aH [.aI,(I 3),(I 3),.aS [] [] (bf [0,1,5])]) (aU.aw (.e1 aq)))))) (fun h1=>(a5 (rm 4 1) (.e1 h1)))
def Eh (ao:ar)(aK:Int):arW :=Vc ao aK 0 >>= fun r1 =>match r1 with | .inl bA=>(some bA) | .inr bA=>(some (-1))
theorem Vd:bk (Eh ao aK) (fun r=>Con bm 41 [.isl 1 (ao.map eI),.n .i64 aK] [] (.n .i64 r) []):=by
 unfold Eh
 exact .bJ fun r1 h2 =>
  (let t1:=[(I 1),(I 1),.aS [] [] (bf [0,1,5])];
  (by
  rcases r1 with bA|bA
  ·exact(.ret (bg (t1.aH [.sub (.exit 0) [(aT 1 bA)] [],(I 2)]) (.e1 (cV h2 SL))))
  exact(.ret (bg (t1.aH [((Ul ao).t (.inr bA))]) (.e1 (cV h2 SL))))))
def Um (ao:arI):ea (Int×Int) ((Int)⊕(Unit)):=⟨fun (aK,ae)=>dv [(0,.isl 3 (ao.map aG)),(aT 1 aK),(aT 5 ae)] [],fun | .inl a=>⟨some 0,[(aT 1 a)],[]⟩ | .inr a=>⟨none,[(aT 4 (-1:Int))],[]⟩⟩
def Dr (ao:arI)(aK ae:Int):Option ((Int×Int)⊕((Int)⊕(Unit))) :=if decide (ae<(aE aG ao)) then if 0<=ae/\ae<ao.length then ao[ae.toNat]? >>= fun ag =>if ag.bQ.cQ == ((aK.tmod (3:Int)) == (0:Int)) then Eh ag.bQ.bZ (J (aK+1)) >>= fun ct =>if decide (ct<0) then some (.inr (.inr ())) else Eh ag.cC ct >>= fun bz =>if decide (bz<0) then some (.inr (.inr ())) else some (.inl (bz,J (ae+1))) else some (.inr (.inr ())) else none else some (.inr (.inl aK))
def Ve (ao:arI)(aK ae:Int):Option ((Int)⊕(Unit)):=iter (fun w:Int×Int=>Dr ao w.1 w.2) (aK,ae)
theorem SM:bk (Dr ao aK ae) (ed bm 44 0 19 [1,0,1,0,0] (Um ao) (aK,ae)):=.b6 (fun h1=>.bX fun h2 ag aj=>(let t1:=[(I 4),.aL,.ah (bU 5 (.cn (aG ag)) 4)];have aU:=((.dd h1 h2.1 (dk aG h2.2) (bO aG aj) (by decide:(3:Int)≠0)):cO _);.b6 (fun aq=>.bJ fun ct ba=>(let t3:=t1.aH [.aI,(I 3),.ah (ab 5 (ad (.cn (aG ag)) (bU 1 (hY 2 ct) 1))),(I 2)];have eV:=aU.aw (.eC (b0 aq) h2.1 (dk aG h2.2) (bO aG aj) (Vd ct ba) (bD.n .i64 ct));.e4 (fun bj=>(a5 (t3.append (lO 1 4)) (eV.aw (.e1 bj)))) (fun bj=>.bJ fun bz b1=>(let t5:=t3.aH [.aI,.ah (ab 4 (ad (.cn (aG ag)) (bU 1 (hY 2 bz) 1))),(I 2)];have lU:=eV.aw (.eC bj h2.1 (dk aG h2.2) (bO aG aj) (Vd bz b1) (bD.n .i64 bz));.gF (fun dg=>(a5 (t5.append (lO 1 4)) (lU.aw (.e1 dg)))) (fun dg=>(a5 (t5.aH [.aI,(I 3),.aS [] [] (bf [0,1,5])]) (lU.aw (.e1 dg)))))))) (fun aq=>(a5 (t1.append (lO 1 4)) (aU.aw (.e1 (cb aq))))))) (fun h1=>(a5 (rm 4 1) (.e1 h1)))
def xf (ao:arI)(aK:Int):arW :=Ve ao aK 0 >>= fun r1 =>match r1 with | .inl bA=>(some bA) | .inr bA=>(some (-1))
theorem Km:bk (xf ao aK) (fun r=>Con bm 19 [.isl 3 (ao.map aG),.n .i64 aK] [] (.n .i64 r) []):=by
 unfold xf
 exact .bJ fun r1 h2 =>
  (let t1:=[(I 1),(I 1),.aS [] [] (bf [0,1,5])];
  (by
  rcases r1 with bA|bA
  ·exact(.ret (bg (t1.aH [.sub (.exit 0) [(aT 1 bA)] [],(I 2)]) (.e1 (cV h2 SM))))
  exact(.ret (bg (t1.aH [((Um ao).t (.inr bA))]) (.e1 (cV h2 SM))))))
def aeT (ao:arI)(aK:Int):ea Unit Unit:=⟨fun _=>dv [(0,.isl 3 (ao.map aG)),(aT 1 aK),(aT 5 (0:Int))] [],fun | a=>⟨some 0,[(aT 1 aK)],[]⟩⟩
def Ki (ao:arI)(aK:Int):Option ((Unit)⊕(Unit)) :=if decide ((0:Int)<(aE aG ao)) then if 0<=(0:Int)/\(0:Int)<ao.length then none else none else some (.inr ())
def N6 (ao:arI)(aK:Int):Option (Unit):=iter (fun w:Unit=>Ki ao aK) ()
theorem adz {ao:arI}{aK:Int}:bk (Ki ao aK) (ed bm 38 0 18 [1,0,1,0,0] (aeT ao aK) ()):=.b6 (fun h1=>.gR fun h2=>.FD) (fun h1=>(a5 (rm 4 1) (.e1 h1)))
def Ei (ao:arI)(aK:Int):arW :=N6 ao aK >>= fun r1 =>some aK
theorem afz:bk (Ei ao aK) (fun r=>Con bm 18 [.isl 3 (ao.map aG),.n .i64 aK] [] (.n .i64 r) []):=.bJ fun r1 h2=>.ret (bg [(I 1),(I 1),.aS [] [] (bf [0,1,5]),.sub (.exit 0) [(aT 1 aK)] [],(I 2)] (.e1 (cV h2 adz)))
def J8 (Mg:cT)(Mh:ar)(Lv:arS):arT :=if decide ((1048576:Int)<(aE eI Mh)) then some true else Ac Mg 1048576 >>= fun r2 =>if decide (r2<0) then some true else GU Lv r2 >>= fun aQ =>if decide (aQ<0) then some true else Gv Mg >>= fun a9 =>GV Mh >>= fun cS =>GH Lv >>= fun cB =>Gg (⟨a9.1,a9.2⟩:cT) cS cB >>= fun fx =>CH (⟨a9.1,a9.2⟩:cT) cS cB >>= fun ef =>match ef with | .inl f5=>(if f5.1.all (xv f5.2) then Ew (f5.1.map (mq f5.2)) fx.1 >>= fun ju =>if ju then if true == fx.2 then D4 (⟨a9.1,a9.2⟩:cT) (⟨a9.1,a9.2⟩:cT) >>= fun qe =>if qe then yG cS cS >>= fun Jm =>if Jm then Eg cB cB >>= fun Jn =>if Jn then DH 1 a9.1 a9.2 >>= fun wX =>if a9.1.length=wX.2.1.length then if a9.2.length=wX.2.2.length then Ae wX.1 cS >>= fun FO =>D1 FO.1 cB >>= fun zy =>if decide (zy.1<0) then some false else D9 1 f5.1 f5.2 >>= fun kX =>if 0+f5.1.length<=kX.2.1.length then if ((kX.2.1.drop 0).take f5.1.length).all (xv kX.2.2) then xf (((kX.2.1.drop 0).take f5.1.length).map (mq kX.2.2)) 1 >>= fun x9 =>if decide (x9<0) then some false else if x9 != kX.1 then some false else some true else none else none else none else none else some false else some false else some false else some false else some false else none) | .inr f5=>(Ew ([]:arI) fx.1 >>= fun gL =>if gL then if false == fx.2 then D4 (⟨a9.1,a9.2⟩:cT) (⟨a9.1,a9.2⟩:cT) >>= fun m8 =>if m8 then yG cS cS >>= fun mH =>if mH then Eg cB cB >>= fun Jo =>if Jo then DH 1 a9.1 a9.2 >>= fun wY =>if a9.1.length=wY.2.1.length then if a9.2.length=wY.2.2.length then Ae wY.1 cS >>= fun FP =>D1 FP.1 cB >>= fun FQ =>if decide (FQ.1<0) then some false else Ei ([]:arI) 1 >>= fun zz =>xf ([]:arI) 1 >>= fun ya =>if decide (ya<0) then some false else if ya != zz then some false else some true else none else none else some false else some false else some false else some false else some false)
set_option maxHeartbeats 4000000 in
theorem ack:bk (J8 Mg Mh Lv) (fun r=>Con bm 3 [.agg (h4 Mg),.isl 1 (Mh.map eI),.isl 4 (Lv.map eTBlock)] [] (.b r) []):=by
 unfold J8
 exact .e4 (fun h1 =>
  (bg [(I 2),(I 3),.aL,(I 1)] (.e1 h1)))
  (fun h1 =>
  .bJ fun r2 R =>
  (let t1:=[(I 2),(I 3),.aI,(I 1),.ah (bU 2 (hY 2 r2) 1),(I 2)];
  have aU:=((.bG h1 (aeu r2 R) (bD.n .i64 r2)):cO _);
  .e4 (fun aj =>
  (bg (t1.aH [.aL,(I 1)]) (aU.aw (.e1 aj))))
  (fun aj =>
  .bJ fun aQ aM =>
  (let t3:=t1.aH [.aI,.ah (bU 2 (hY 2 aQ) 1),(I 2)];
  have eV:=aU.aw (.bG aj (ae7 aQ aM) (bD.n .i64 aQ));
  .e4 (fun ba =>
  (bg (t3.aH [.aL,(I 1)]) (eV.aw (.e1 ba))))
  (fun ba =>
  .el fun a9 ck cS dg =>
  .el fun cB ey fx hI =>
  .bJ fun ef gj =>
  (let qJ:=bt 4 eTBlock cB;let t5:=t3.aH [.aI,.ah (ab 1 (ad (.call (FH a9.1 a9.2)) (ab 1 (ad (.call (x3 cS)) (ab 1 (ad (.call {a3:=[],di:=[],ac:=[ii],r:= .bw 0 0 0 cB.length,eU:=[qJ],f7:=ii,gK:=[.ax],en:=[],d4:=true}) (ad (.w2 23 (.w2 21 (.w2 19 (.call {ac:=[.a6 (.agg [.eJ (a9.1.map b9),.eJ (a9.2.map ca)]),.a6 (.cr (.eJ (cS.map eI))),.a6 (.cr (.eJ (cB.map eTBlock)))],r:= .et [.isl 3 (fx.1.map aG),.b fx.2],d4:=false,en:=[19,21,23]})))) (ab 5 [])))))))),.ah (bU 1 (.call (FH a9.1 a9.2)) 2),.ah (bU 1 (.call (x3 cS)) 1),.ah (bU 1 (.call {a3:=[],di:=[],ac:=[ii],r:= .bw 0 0 0 cB.length,eU:=[qJ],f7:=ii,gK:=[.ax],en:=[],d4:=true}) 1)];
  have lU:=eV.aw (.aP ba (fy (jC (hC [19]) 4 Ay a9.1) (fy (jC (hC [19]) 3 Ar a9.2) (ph (b7:=(hC [19]))))) ((ku rfl (ku rfl uG)):mP [d9 4 b9 a9.1,d9 3 ca a9.2]) (Da a9 ck) (bD.agg (hO (mj a9.1) (hO (bD.bw 0 1 0 a9.2.length) nn))) ((pc (l9 (lY Az) (l9 (lY As) qu)) pe):nM [[d9 4 b9 a9.1,d9 3 ca a9.2]]) (eB 1 cy cS) (D2 cS dg) (.aP (mj cS) (th cS) (eB 4 ni cB) (DS cB ey) (mj cB) ((pc (l9 (lY Ey) qu) pe):nM [qJ]) (gy b9 a9.1) (fM b9 a9.1) (.aP (d8 nh a9.1) (gy ca a9.2) (fM ca a9.2) (d8 ng a9.2) (gy eI cS) (fM eI cS) (d8 cy cS) (gy eTBlock cB) (.aP (fM eTBlock cB) (d8 ni cB) (acY fx hI) (fy (jC (hC [31]) 4 Ay a9.1) (fy (jC (hC [31]) 3 Ar a9.2) (ph (b7:=(hC [31]))))) ((ku rfl (ku rfl uG)):mP [d9 4 b9 a9.1,d9 3 ca a9.2]) (Da a9 ck) (bD.agg (hO (mj a9.1) (hO (bD.bw 0 1 0 a9.2.length) nn))) ((pc (l9 (lY Az) (l9 (lY As) qu)) pe):nM [[d9 4 b9 a9.1,d9 3 ca a9.2]]) (.aP (eB 1 cy cS) (D2 cS dg) (mj cS) (th cS) (eB 4 ni cB) (DS cB ey) (mj cB) ((pc (l9 (lY Ey) qu) pe):nM [qJ]) (.aP (gy b9 a9.1) (fM b9 a9.1) (d8 nh a9.1) (gy ca a9.2) (fM ca a9.2) (d8 ng a9.2) (gy eI cS) (fM eI cS) (.cR (d8 cy cS) (gy eTBlock cB) (fM eTBlock cB) (d8 ni cB))))))));
  (by
  rcases ef with f5|f5
  ·exact(.bX fun ib ju fX =>
  (let nx:=de 1 eI f5.2;let n4:=bt 3 (dq 43 1) f5.1;let t7:=t5.aH [.ah (bU 3 (.call {a3:=[],di:=[],ac:=[.a6 (.agg [.eJ (a9.1.map b9),.eJ (a9.2.map ca)]),.a6 (.cr (.eJ (cS.map eI))),.a6 (.cr (.eJ (cB.map eTBlock)))],r:= .et [.bw 0 0 0 f5.1.length,.b true],eU:=[(aR.mk 3 (f5.1.map (dq 0 1)) .live::nx)],f7:= .comp [.cr .id,.cr .id],gK:=[.bq (aR.mk 3 (f5.1.map (dq 43 1)) .live::nx)],en:=[31,35,38],d4:=true}) 5)];
  have l7:=lU.aw (.aP (fy (lC (b7:=(hC [43])) 3 .live (dq 43 1) (eg (dq 0 1) f5.1) (fun x=>(pD (rfl:(hC [43]) 0=some 43)) x)) (ex (hC [43]) 1 ja f5.2)) ((ku rfl (yK (gp 1 eI f5.2))):mP (aR.mk 3 (f5.1.map (dq 0 1)) .live::nx)) (Kb (.inl f5) gj) (tG (hO (mj f5.1) (hO (bD.b true) nn))) ((pc (l9 (lY (O4 _ _)) (Po uV)) pe):nM [(aR.mk 3 (f5.1.map (dq 0 1)) .live::nx)]) (rfl:er (some (aR.mk 3 (f5.1.map (dq 43 1)) .live::nx)) 0=some (aR.mk 3 (f5.1.map (dq 43 1)) .live)) (rfl:_=true) (fM (dq 43 1) f5.1) (.cR (d8 ew (f5.1.map (mq f5.2))) (wx (dU:=43) (kK:=n4++nx) (bN:=k6) (sz:=3) (g:=aG) (eg (dq 43 1) f5.1) (fun _=>rfl) (fun x U=>(HN (dU:=43) (c:=1) (bN:=k6) (oY:=n4) (gp 1 eI f5.2) rfl jo rfl (vA ib x U))) (eN f5.1)) (Ed ju fX) (bD.b ju)));
  .b6 (fun fS =>
  (let t9:=t7.aH [.ah (ab 2 (ad (.call {ac:=[.a6 (.cr (.view 43 (aR.mk 3 (f5.1.map (dq 43 1)) .live) ((f5.1.map (mq f5.2)).map aG))),ii],r:= .b ju,d4:=true,en:=[43]}) (kU 5)))];
  have Jp:=l7.aw (.cR (b0 fS) (b0 fS) (b0 fS) (b0 fS));
  .b6 (fun n3 =>
  .bJ fun qe px =>
  (let t11:=t9.aH [.aI,.ah (ab 2 (ad (.call (FH a9.1 a9.2)) (ad (.call {ac:=[.a6 (.agg [.eJ (a9.1.map b9),.eJ (a9.2.map ca)]),.a6 (.agg [.eJ (a9.1.map b9),.eJ (a9.2.map ca)])],r:= .b qe,d4:=true,en:=[31,60]}) (ab 1 []))))];
  have zw:=Jp.aw (.aP (b0 n3) (fy (jC (hC [60]) 4 Ay a9.1) (fy (jC (hC [60]) 3 Ar a9.2) (ph (b7:=(hC [60]))))) ((ku rfl (ku rfl uG)):mP [d9 4 b9 a9.1,d9 3 ca a9.2]) (Da a9 ck) (bD.agg (hO (mj a9.1) (hO (bD.bw 0 1 0 a9.2.length) nn))) ((pc (l9 (lY Az) (l9 (lY As) qu)) pe):nM [[d9 4 b9 a9.1,d9 3 ca a9.2]]) (gy b9 a9.1) (fM b9 a9.1) (.aP (d8 nh a9.1) (gy ca a9.2) (fM ca a9.2) (d8 ng a9.2) (gy b9 a9.1) (fM b9 a9.1) (d8 nh a9.1) (gy ca a9.2) (.cR (fM ca a9.2) (d8 ng a9.2) (TS qe px) (bD.b qe))));
  .b6 (fun vU =>
  .bJ fun Jm qd =>
  (let t13:=t11.aH [.aI,.ah (ab 2 (ad (.call (x3 cS)) (ad (.call {ac:=[.a6 (.cr (.eJ (cS.map eI))),.a6 (.cr (.eJ (cS.map eI)))],r:= .b Jm,d4:=true,en:=[35,65]}) (ab 1 []))))];
  have zv:=zw.aw (.aP (b0 vU) (eB 1 cy cS) (D2 cS dg) (mj cS) (th cS) (gy eI cS) (fM eI cS) (d8 cy cS) (.dd (gy eI cS) (fM eI cS) (d8 cy cS) (Kt Jm qd) (bD.b Jm)));
  .b6 (fun n8 =>
  .bJ fun Jn iU =>
  (let t15:=t13.aH [.aI,.ah (ab 2 (ad (.call {a3:=[],di:=[],ac:=[ii],r:= .bw 0 0 0 cB.length,eU:=[(bt 4 eTBlock cB)],f7:=ii,gK:=[.ax],en:=[],d4:=true}) (ad (.call {ac:=[.a6 (.cr (.eJ (cB.map eTBlock))),.a6 (.cr (.eJ (cB.map eTBlock)))],r:= .b Jn,d4:=true,en:=[38,70]}) (ab 1 []))))];
  have Jq:=zv.aw (.aP (b0 n8) (eB 4 ni cB) (DS cB ey) (mj cB) ((pc (l9 (lY Ey) qu) pe):nM [(bt 4 eTBlock cB)]) (gy eTBlock cB) (fM eTBlock cB) (d8 ni cB) (.dd (gy eTBlock cB) (fM eTBlock cB) (d8 ni cB) (Va Jn iU) (bD.b Jn)));
  .b6 (fun pL =>
  .hE fun wX MI MJ =>
  .bX fun aqw FO Jk =>
  .bJ fun zy uf =>
  (let t17:=t15.aH [.aI,(I 1),.ah (bU 2 (.call {a3:=[.al 31 0 (d9 4 b9 a9.1),.al 31 1 (d9 3 ca a9.2)],di:=[.ax,.ax],ac:=[.a6 (.agg [.at_ 0 0 a9.1.length,.at_ 1 0 a9.2.length]),ii],r:= .n .i64 wX.1,eU:=[(bt 4 b9 wX.2.1),(bt 3 ca wX.2.2)],f7:=ii,gK:=[.ax,.ax],en:=[31],d4:=false}) 1),.ah (bU 2 (.call {a3:=[.row 35],di:=[.ax],ac:=[ii,ii],r:= .n .i64 FO.1,eU:=[(bd FO.2)],f7:=ii,gK:=[.ax],en:=[35],d4:=false}) 1),.ah (bU 2 (.call {a3:=[.row 38],di:=[.ax],ac:=[ii,ii],r:= .n .i64 zy.1,eU:=[(bt 4 eTBlock zy.2)],f7:=ii,gK:=[.ax],en:=[38],d4:=false}) 1)];
  have Jr:=Jq.aw (.aP (b0 pL) (by decide:0≠1) (rfl:lL [.al 31 0 (d9 4 b9 a9.1),.al 31 1 (d9 3 ca a9.2)] 0 0=some (31,0)) (eN a9.1) (rfl:lL [.al 31 0 (d9 4 b9 a9.1),.al 31 1 (d9 3 ca a9.2)] 1 0=some (31,1)) (eN a9.2) (rfl:er (some [d9 4 b9 a9.1,d9 3 ca a9.2]) 0=some (d9 4 b9 a9.1)) (eB 4 nh a9.1) (.aP (rfl:er (some [d9 4 b9 a9.1,d9 3 ca a9.2]) 1=some (d9 3 ca a9.2)) (eB 3 ng a9.2) (eB 4 nh wX.2.1) (eB 3 ng wX.2.2) (SX wX MI) (eB 1 cy cS) (eB 1 cy FO.2) (TU FO Jk) (.bG (eB 4 ni cB) (eB 4 ni zy.2) (TK zy uf))));
  .e4 (fun vX =>
  (bg (t17.aH [.ah (ab 3 (cX 4 (ad .aL (ab 1 (cX 3 (ab 1 [])))))),.aL,(I 1)]) (Jr.aw (.aP vX vX vX vX vX bp bp bp (.e1 bp)))))
  (fun vX =>
  .hE fun kX anH Js =>
  .bX fun zA x9 zm =>
  (let dn:=de 1 eI kX.2.2;let e3:=de 1 eI f5.2;let ht:=bt 3 (dq 43 1) kX.2.1;let iM:=eg (dq 43 1) kX.2.1;let k2:=bt 3 (dq 43 1) f5.1;let t19:=t17.aH [.ah (ab 5 (ad (.call {ac:=[.a6 (.cr (.view 43 (aR.mk 3 (f5.1.map (dq 43 1)) .live) ((f5.1.map (mq f5.2)).map aG))),ii],r:= .b ju,d4:=true,en:=[43]}) (ab 1 (ad .aI (kU 4))))),.aI,(I 1),.ah (bU 2 (.call {a3:=[.row 43],di:=[.bq (aR.mk 3 (f5.1.map (dq 0 1)) .live::e3)],ac:=[ii,ii],r:= .n .i64 kX.1,eU:=[(aR.mk 3 (kX.2.1.map (dq 0 1)) .live::dn)],f7:=ii,gK:=[.bq (aR.mk 3 (kX.2.1.map (dq 43 1)) .live::dn)],en:=[43],d4:=false}) 1),(I 1),.ah (bU 2 (.call {ac:=[.a6 (.cr (.view 43 (aR.mk 3 (kX.2.1.map (dq 43 1)) .live) ((((kX.2.1.drop 0).take f5.1.length).map (mq kX.2.2)).map aG))),ii],r:= .n .i64 x9,d4:=true,en:=[43]}) 1),(I 2)];
  have BS:=Jr.aw (.aP vX vX vX (rfl:er (some (aR.mk 3 (f5.1.map (dq 43 1)) .live::e3)) 0=some (aR.mk 3 (f5.1.map (dq 43 1)) .live)) (rfl:_=true) (fM (dq 43 1) f5.1) (d8 ew (f5.1.map (mq f5.2))) (wx (dU:=43) (kK:=k2++e3) (bN:=k6) (sz:=3) (g:=aG) (eg (dq 43 1) f5.1) (fun _=>rfl) (fun x U=>(HN (dU:=43) (c:=1) (bN:=k6) (oY:=k2) (gp 1 eI f5.2) rfl jo rfl (vA ib x U))) (eN f5.1)) (.aP (Ed ju fX) (bD.b ju) vX vX (b0 fS) (b0 fS) (b0 fS) (b0 fS) (.aP (b0 n3) (fy (lC (b7:=(o9 [43])) 3 .live (dq 0 1) (eg (dq 43 1) f5.1) (fun x=>(pD (rfl:(o9 [43]) 43=some 0)) x)) (ex (o9 [43]) 1 ja f5.2)) ((ku rfl (yK (gp 1 eI f5.2))):mP (aR.mk 3 (f5.1.map (dq 43 1)) .live::e3)) (fy (lC (b7:=(hC [43])) 3 .live (dq 43 1) (eg (dq 0 1) kX.2.1) (fun x=>(pD (rfl:(hC [43]) 0=some 43)) x)) (ex (hC [43]) 1 ja kX.2.2)) ((ku rfl (yK (gp 1 eI kX.2.2))):mP (aR.mk 3 (kX.2.1.map (dq 0 1)) .live::dn)) (aeS kX anH) (rfl:er (some (aR.mk 3 (kX.2.1.map (dq 43 1)) .live::dn)) 0=some (aR.mk 3 (kX.2.1.map (dq 43 1)) .live)) (rfl:_=true) (.dd (sk iM Js) (d8 ew (((kX.2.1.drop 0).take f5.1.length).map (mq kX.2.2))) (YB (dU:=43) (kK:=ht++dn) (bN:=k6) (sz:=3) (g:=aG) iM (fun _=>rfl) 0 f5.1.length (fun x U=>(HN (dU:=43) (c:=1) (bN:=k6) (oY:=ht) (gp 1 eI kX.2.2) rfl jo rfl (vA zA x U)))) (Km x9 zm) (bD.n .i64 x9)))));
  .e4 (fun u2 =>
  (bg (t19.aH [.aL,(I 1)]) (BS.aw (.e1 u2))))
  (fun u2 =>
  .gF (fun MK =>
  (bg (t19.aH [.aI,(I 3),.aL,(I 1)]) (BS.aw (.e2 u2 MK))))
  (fun MK =>
  (let q1:=de 1 eI f5.2;let q2:=bt 3 (dq 43 1) kX.2.1;let bB:=bt 3 (dq 120 1) f5.1;let cu:=eg (dq 43 1) kX.2.1;bg (t19.aH [.aI,(I 3),.aI,.ah (ab 1 (ad (.call (FH a9.1 a9.2)) (ab 1 (ad (.call (x3 cS)) (ab 1 (ad (.call {a3:=[],di:=[],ac:=[ii],r:= .bw 0 0 0 cB.length,eU:=[(bt 4 eTBlock cB)],f7:=ii,gK:=[.ax],en:=[],d4:=true}) (ad (.call {a3:=[],di:=[],ac:=[.a6 (.agg [.eJ (a9.1.map b9),.eJ (a9.2.map ca)]),.a6 (.cr (.eJ (cS.map eI))),.a6 (.cr (.eJ (cB.map eTBlock)))],r:= .et [.bw 0 0 0 f5.1.length,.b true],eU:=[(aR.mk 3 (f5.1.map (dq 0 1)) .live::q1)],f7:= .comp [.cr .id,.cr .id],gK:=[.bq (aR.mk 3 (f5.1.map (dq 120 1)) .live::q1)],en:=[115,117,119],d4:=true}) (ab 5 [])))))))),.ah (ab 2 (ad (.call {ac:=[.a6 (.cr (.view 120 (aR.mk 3 (f5.1.map (dq 120 1)) .live) ((f5.1.map (mq f5.2)).map aG))),ii],r:= .b ju,d4:=true,en:=[120]}) (kU 5))),.aI,(I 1),.ah (bU 2 (.call {ac:=[.a6 (.cr (.view 43 (aR.mk 3 (kX.2.1.map (dq 43 1)) .live) ((((kX.2.1.drop 0).take f5.1.length).map (mq kX.2.2)).map aG))),ii],r:= .n .i64 x9,d4:=true,en:=[43]}) 1),(I 2),.aI,(I 3),.aI,(I 1)]) (BS.aw (.aP u2 MK (fy (jC (hC [115]) 4 Ay a9.1) (fy (jC (hC [115]) 3 Ar a9.2) (ph (b7:=(hC [115]))))) ((ku rfl (ku rfl uG)):mP [d9 4 b9 a9.1,d9 3 ca a9.2]) (Da a9 ck) (bD.agg (hO (mj a9.1) (hO (bD.bw 0 1 0 a9.2.length) nn))) ((pc (l9 (lY Az) (l9 (lY As) qu)) pe):nM [[d9 4 b9 a9.1,d9 3 ca a9.2]]) (eB 1 cy cS) (.aP (D2 cS dg) (mj cS) (th cS) (eB 4 ni cB) (DS cB ey) (mj cB) ((pc (l9 (lY Ey) qu) pe):nM [(bt 4 eTBlock cB)]) (gy b9 a9.1) (.aP (fM b9 a9.1) (d8 nh a9.1) (gy ca a9.2) (fM ca a9.2) (d8 ng a9.2) (gy eI cS) (fM eI cS) (d8 cy cS) (.aP (gy eTBlock cB) (fM eTBlock cB) (d8 ni cB) (fy (lC (b7:=(hC [120])) 3 .live (dq 120 1) (eg (dq 0 1) f5.1) (fun x=>(pD (rfl:(hC [120]) 0=some 120)) x)) (ex (hC [120]) 1 ja f5.2)) ((ku rfl (yK (gp 1 eI f5.2))):mP (aR.mk 3 (f5.1.map (dq 0 1)) .live::q1)) (Kb (.inl f5) gj) (tG (hO (mj f5.1) (hO (bD.b true) nn))) ((pc (l9 (lY (O4 _ _)) (Po uV)) pe):nM [(aR.mk 3 (f5.1.map (dq 0 1)) .live::q1)]) (.aP (rfl:er (some (aR.mk 3 (f5.1.map (dq 120 1)) .live::q1)) 0=some (aR.mk 3 (f5.1.map (dq 120 1)) .live)) (rfl:_=true) (fM (dq 120 1) f5.1) (d8 ew (f5.1.map (mq f5.2))) (wx (dU:=120) (kK:=bB++q1) (bN:=k6) (sz:=3) (g:=aG) (eg (dq 120 1) f5.1) (fun _=>rfl) (fun x U=>(HN (dU:=120) (c:=1) (bN:=k6) (oY:=bB) (gp 1 eI f5.2) rfl jo rfl (vA ib x U))) (eN f5.1)) (Ed ju fX) (bD.b ju) (b0 fS) (.aP (b0 fS) (b0 fS) (b0 fS) (b0 n3) (rfl:er (some (aR.mk 3 (kX.2.1.map (dq 43 1)) .live::(de 1 eI kX.2.2))) 0=some (aR.mk 3 (kX.2.1.map (dq 43 1)) .live)) (rfl:_=true) (sk cu Js) (d8 ew (((kX.2.1.drop 0).take f5.1.length).map (mq kX.2.2))) (.dd (YB (dU:=43) (kK:=q2++(de 1 eI kX.2.2)) (bN:=k6) (sz:=3) (g:=aG) cu (fun _=>rfl) 0 f5.1.length (fun x U=>(HN (dU:=43) (c:=1) (bN:=k6) (oY:=q2) (gp 1 eI kX.2.2) rfl jo rfl (vA zA x U)))) (Km x9 zm) (bD.n .i64 x9) u2 MK)))))))))))))))
  (fun pL =>
  (bg (t15.aH [.aL,(I 1)]) (Jq.aw (.e1 (cb pL)))))))
  (fun n8 =>
  (bg (t13.aH [.aL,(I 1)]) (zv.aw (.e1 (cb n8)))))))
  (fun vU =>
  (bg (t11.aH [.aL,(I 1)]) (zw.aw (.e1 (cb vU)))))))
  (fun n3 =>
  (bg (t9.aH [.aL,(I 1)]) (Jp.aw (.e1 (cb n3)))))))
  (fun fS =>
  (bg (t7.aH [.ah (ab 2 (ad (.call {ac:=[.a6 (.cr (.view 43 (aR.mk 3 (f5.1.map (dq 43 1)) .live) ((f5.1.map (mq f5.2)).map aG))),ii],r:= .b ju,d4:=true,en:=[43]}) (ll 2 3))),.aL,(I 1)]) (l7.aw (.dd (cb fS) (cb fS) (cb fS) (cb fS) bp))))))
  ·exact(.bJ fun gL ff =>
  (let t7:=t5.aH [.ah (bU 3 (.call {a3:=[],di:=[],ac:=[.a6 (.agg [.eJ (a9.1.map b9),.eJ (a9.2.map ca)]),.a6 (.cr (.eJ (cS.map eI))),.a6 (.cr (.eJ (cB.map eTBlock)))],r:= .et [.fQ,.b false],eU:=[],f7:=ii,gK:=[],en:=[31,35,38],d4:=true}) 5)];
  have l7:=lU.aw (.cR (Kb (.inr f5) gj) (tG (hO bD.fQ (hO (bD.b false) nn))) (Ed gL ff) (bD.b gL));
  .b6 (fun fX =>
  (let t9:=t7.aH [.ah (ab 2 (ad (.call {ac:=[.a6 (.cr (.hf 3)),ii],r:= .b gL,d4:=true}) (kU 5)))];
  have Jp:=l7.aw (.cR (b0 fX) (b0 fX) (b0 fX) (b0 fX));
  .b6 (fun fS =>
  .bJ fun m8 tk =>
  (let t11:=t9.aH [.aI,.ah (ab 2 (ad (.call (FH a9.1 a9.2)) (ad (.call {ac:=[.a6 (.agg [.eJ (a9.1.map b9),.eJ (a9.2.map ca)]),.a6 (.agg [.eJ (a9.1.map b9),.eJ (a9.2.map ca)])],r:= .b m8,d4:=true,en:=[31,60]}) (ab 1 []))))];
  have zw:=Jp.aw (.aP (b0 fS) (fy (jC (hC [60]) 4 Ay a9.1) (fy (jC (hC [60]) 3 Ar a9.2) (ph (b7:=(hC [60]))))) ((ku rfl (ku rfl uG)):mP [d9 4 b9 a9.1,d9 3 ca a9.2]) (Da a9 ck) (bD.agg (hO (mj a9.1) (hO (bD.bw 0 1 0 a9.2.length) nn))) ((pc (l9 (lY Az) (l9 (lY As) qu)) pe):nM [[d9 4 b9 a9.1,d9 3 ca a9.2]]) (gy b9 a9.1) (fM b9 a9.1) (.aP (d8 nh a9.1) (gy ca a9.2) (fM ca a9.2) (d8 ng a9.2) (gy b9 a9.1) (fM b9 a9.1) (d8 nh a9.1) (gy ca a9.2) (.cR (fM ca a9.2) (d8 ng a9.2) (TS m8 tk) (bD.b m8))));
  .b6 (fun px =>
  .bJ fun mH ox =>
  (let t13:=t11.aH [.aI,.ah (ab 2 (ad (.call (x3 cS)) (ad (.call {ac:=[.a6 (.cr (.eJ (cS.map eI))),.a6 (.cr (.eJ (cS.map eI)))],r:= .b mH,d4:=true,en:=[35,65]}) (ab 1 []))))];
  have zv:=zw.aw (.aP (b0 px) (eB 1 cy cS) (D2 cS dg) (mj cS) (th cS) (gy eI cS) (fM eI cS) (d8 cy cS) (.dd (gy eI cS) (fM eI cS) (d8 cy cS) (Kt mH ox) (bD.b mH)));
  .b6 (fun qd =>
  .bJ fun Jo mU =>
  (let t15:=t13.aH [.aI,.ah (ab 2 (ad (.call {a3:=[],di:=[],ac:=[ii],r:= .bw 0 0 0 cB.length,eU:=[(bt 4 eTBlock cB)],f7:=ii,gK:=[.ax],en:=[],d4:=true}) (ad (.call {ac:=[.a6 (.cr (.eJ (cB.map eTBlock))),.a6 (.cr (.eJ (cB.map eTBlock)))],r:= .b Jo,d4:=true,en:=[38,70]}) (ab 1 []))))];
  have Jq:=zv.aw (.aP (b0 qd) (eB 4 ni cB) (DS cB ey) (mj cB) ((pc (l9 (lY Ey) qu) pe):nM [(bt 4 eTBlock cB)]) (gy eTBlock cB) (fM eTBlock cB) (d8 ni cB) (.dd (gy eTBlock cB) (fM eTBlock cB) (d8 ni cB) (Va Jo mU) (bD.b Jo)));
  .b6 (fun iU =>
  .hE fun wY anI MI =>
  .bX fun MJ FP Ri =>
  .bJ fun FQ anJ =>
  (let t17:=t15.aH [.aI,(I 1),.ah (bU 2 (.call {a3:=[.al 31 0 (d9 4 b9 a9.1),.al 31 1 (d9 3 ca a9.2)],di:=[.ax,.ax],ac:=[.a6 (.agg [.at_ 0 0 a9.1.length,.at_ 1 0 a9.2.length]),ii],r:= .n .i64 wY.1,eU:=[(bt 4 b9 wY.2.1),(bt 3 ca wY.2.2)],f7:=ii,gK:=[.ax,.ax],en:=[31],d4:=false}) 1),.ah (bU 2 (.call {a3:=[.row 35],di:=[.ax],ac:=[ii,ii],r:= .n .i64 FP.1,eU:=[(bd FP.2)],f7:=ii,gK:=[.ax],en:=[35],d4:=false}) 1),.ah (bU 2 (.call {a3:=[.row 38],di:=[.ax],ac:=[ii,ii],r:= .n .i64 FQ.1,eU:=[(bt 4 eTBlock FQ.2)],f7:=ii,gK:=[.ax],en:=[38],d4:=false}) 1)];
  have Jr:=Jq.aw (.aP (b0 iU) (by decide:0≠1) (rfl:lL [.al 31 0 (d9 4 b9 a9.1),.al 31 1 (d9 3 ca a9.2)] 0 0=some (31,0)) (eN a9.1) (rfl:lL [.al 31 0 (d9 4 b9 a9.1),.al 31 1 (d9 3 ca a9.2)] 1 0=some (31,1)) (eN a9.2) (rfl:er (some [d9 4 b9 a9.1,d9 3 ca a9.2]) 0=some (d9 4 b9 a9.1)) (eB 4 nh a9.1) (.aP (rfl:er (some [d9 4 b9 a9.1,d9 3 ca a9.2]) 1=some (d9 3 ca a9.2)) (eB 3 ng a9.2) (eB 4 nh wY.2.1) (eB 3 ng wY.2.2) (SX wY anI) (eB 1 cy cS) (eB 1 cy FP.2) (TU FP Ri) (.bG (eB 4 ni cB) (eB 4 ni FQ.2) (TK FQ anJ))));
  .e4 (fun uf =>
  (bg (t17.aH [.ah (ab 3 (cX 4 (ad .aL (ab 1 (cX 3 (ab 1 [])))))),.aL,(I 1)]) (Jr.aw (.aP uf uf uf uf uf bp bp bp (.e1 bp)))))
  (fun uf =>
  .el fun zz anK ya Js =>
  (let t19:=t17.aH [.ah (ab 5 (ad (.call {ac:=[.a6 (.cr (.hf 3)),ii],r:= .b gL,d4:=true}) (ab 1 (ad .aI (kU 4))))),.aI,(I 1),.ah (bU 2 (.call {ac:=[.a6 (.cr (.hf 3)),ii],r:= .n .i64 zz,d4:=true}) 1),(I 1),.ah (bU 2 (.call {ac:=[.a6 (.cr (.hf 3)),ii],r:= .n .i64 ya,d4:=true}) 1),(I 2)];
  have BS:=Jr.aw (.aP uf uf uf (Ed gL ff) (bD.b gL) uf uf (b0 fX) (.gY (b0 fX) (b0 fX) (b0 fX) (b0 fS) (afz zz anK) (bD.n .i64 zz) (Km ya Js) (bD.n .i64 ya)));
  .e4 (fun zA =>
  (bg (t19.aH [.aL,(I 1)]) (BS.aw (.e1 zA))))
  (fun zA =>
  .gF (fun ML =>
  (bg (t19.aH [.aI,(I 3),.aL,(I 1)]) (BS.aw (.e2 zA ML))))
  (fun ML =>
  (bg (t19.aH [.aI,(I 3),.aI,.ah (ab 1 (ad (.call (FH a9.1 a9.2)) (ab 1 (ad (.call (x3 cS)) (ab 1 (ad (.call {a3:=[],di:=[],ac:=[ii],r:= .bw 0 0 0 cB.length,eU:=[(bt 4 eTBlock cB)],f7:=ii,gK:=[.ax],en:=[],d4:=true}) (ad (.call {a3:=[],di:=[],ac:=[.a6 (.agg [.eJ (a9.1.map b9),.eJ (a9.2.map ca)]),.a6 (.cr (.eJ (cS.map eI))),.a6 (.cr (.eJ (cB.map eTBlock)))],r:= .et [.fQ,.b false],eU:=[],f7:=ii,gK:=[],en:=[115,117,119],d4:=true}) (ab 5 [])))))))),.ah (ab 2 (ad (.call {ac:=[.a6 (.cr (.hf 3)),ii],r:= .b gL,d4:=true}) (kU 5))),.aI,(I 1),.ah (bU 2 (.call {ac:=[.a6 (.cr (.hf 3)),ii],r:= .n .i64 ya,d4:=true}) 1),(I 2),.aI,(I 3),.aI,(I 1)]) (BS.aw (.aP zA ML (fy (jC (hC [115]) 4 Ay a9.1) (fy (jC (hC [115]) 3 Ar a9.2) (ph (b7:=(hC [115]))))) ((ku rfl (ku rfl uG)):mP [d9 4 b9 a9.1,d9 3 ca a9.2]) (Da a9 ck) (bD.agg (hO (mj a9.1) (hO (bD.bw 0 1 0 a9.2.length) nn))) ((pc (l9 (lY Az) (l9 (lY As) qu)) pe):nM [[d9 4 b9 a9.1,d9 3 ca a9.2]]) (eB 1 cy cS) (.aP (D2 cS dg) (mj cS) (th cS) (eB 4 ni cB) (DS cB ey) (mj cB) ((pc (l9 (lY Ey) qu) pe):nM [(bt 4 eTBlock cB)]) (gy b9 a9.1) (.aP (fM b9 a9.1) (d8 nh a9.1) (gy ca a9.2) (fM ca a9.2) (d8 ng a9.2) (gy eI cS) (fM eI cS) (d8 cy cS) (.aP (gy eTBlock cB) (fM eTBlock cB) (d8 ni cB) (Kb (.inr f5) gj) (tG (hO bD.fQ (hO (bD.b false) nn))) (Ed gL ff) (bD.b gL) (b0 fX) (.gY (b0 fX) (b0 fX) (b0 fX) (b0 fS) (Km ya Js) (bD.n .i64 ya) zA ML)))))))))))))
  (fun iU =>
  (bg (t15.aH [.aL,(I 1)]) (Jq.aw (.e1 (cb iU)))))))
  (fun qd =>
  (bg (t13.aH [.aL,(I 1)]) (zv.aw (.e1 (cb qd)))))))
  (fun px =>
  (bg (t11.aH [.aL,(I 1)]) (zw.aw (.e1 (cb px)))))))
  (fun fS =>
  (bg (t9.aH [.aL,(I 1)]) (Jp.aw (.e1 (cb fS)))))))
  (fun fX =>
  (bg (t7.aH [.ah (ab 2 (ad (.call {ac:=[.a6 (.cr (.hf 3)),ii],r:= .b gL,d4:=true}) (ll 2 3))),.aL,(I 1)]) (l7.aw (.dd (cb fX) (cb fX) (cb fX) (cb fX) bp)))))))))))))
theorem cL {α:Sort _}{p:Prop}[Decidable p] {a b:α} (h:p:=by omega):(if p then a else b)=a:=dz h
theorem eR {α:Sort _}{p:Prop}[Decidable p] {a b:α} (h : ¬p:=by omega):(if p then a else b)=b:=dB h
theorem c7 {x:Int}(h : -9223372036854775808<=x:=by omega) (dc:x<9223372036854775808:=by omega):J x=x:=iw h dc
theorem fW {n:Nat}(h:n<1000000:=by omega):J ((n:Int)+1)=((n+1:Nat):Int):=xR h
theorem wZ {α:Type _}{l:List α}{i:Nat}(h:i<l.length:=by omega):l[i]? = some (l[i]'h):=dy h
theorem tm {α:Type}{n:Nat}{f:Nat->α}{i:Nat}(h:i<n:=by omega):(aC n f)[i]? = some (f i):=ho h
theorem gP {n:Int}(h:0<=n:=by omega):V (L n)=n:=lv h
theorem q7 {n:Nat}(h:n<=10000000):J ((n:Int)+1)=((n+1:Nat):Int):=by rw[c7];rfl
theorem uW {n:Nat}(h:n<=10000000):J ((n:Int)-1)=(n:Int)-1:=iw (by omega) (by omega)
theorem Qg {n:Nat}(h:n<=10000000):J (((n+1:Nat):Int)-1)=n:=by rw[c7];omega
theorem hS (l:ar):aE eI l=l.length:=fh _ l
theorem aiA {l:ar}{k:Nat}{x:Int}(U:l[k]? = some x)(a2:l.length<=5000000):z0 l ((k+1:Nat):Int)=some (if x=0 then .inl (k:Int) else .inr ((k+1:Nat):Int)):=by have a4:=gD U;unfold z0;rw[Qg (by omega),dz (by simp),cL,dw,U];by_cases h:x=0<;>simp[h]
theorem wi {l:ar}(aZ:dj l)(a2:l.length<=5000000):ux l=some (L (V l)):=by
 have : ∃r,iter (fun w:Int=>z0 l w) (l.length:Int)=some r/\ ∃k:Nat,r=k/\k<=l.length/\l.take k=L (V l):=by
  refine kR (fG:=fun w:Int=> ∃k:Nat,w=k/\k<=l.length/\V (l.take k)=V l) (m:=fun w:Int=>w.toNat) _ ?_ _ ⟨l.length,rfl,by omega,by simp⟩;rintro _ ⟨k,rfl,a4,bh⟩
  cases k with
  | zero =>
   refine .inr ⟨0,by simp[z0],0,rfl,by omega,?_⟩;rw[<- bh];simp[V,tH]
  | succ k =>
   have U:=dy (show k<l.length by omega);rw[aiA U a2];by_cases h:l[k]=0
   ·refine .inl ⟨_,by simp[h],⟨k,rfl,by omega,?_⟩,by omega⟩;have:=xu U;rw[h] at this;simp at this;omega
   refine .inr ⟨_,by simp[h],k+1,rfl,a4,?_⟩;rcases hh.PE aZ k (fun x h1=>by rw[U] at h1;simp at h1;omega) with h1|h1
   ·exact zd h1 bh
   omega
 obtain⟨r,ak,k,rfl,h1,h2⟩:=this;unfold ux Vl;rw[hS,ak];simp[h1,h2]
theorem EU {l:ar}(aZ:dj l)(a2:l.length<=5000000):uE l=some (L (V l)):=by
 have : ∃r,iter (fun w:ar=>DY w) l=some r/\r=L (V l):=by
  refine kR (fG:=fun w=> ∃k:Nat,w=l.take k/\k<=l.length/\V (l.take k)=V l) (m:=fun w:ar=>w.length) _ ?_ _ ⟨l.length,by simp,by omega,by simp⟩;rintro _ ⟨k,rfl,a4,bh⟩;have hlen:(l.take k).length=k:=by simp;omega
  cases k with
  | zero =>
   refine .inr ⟨[],by simp[DY,hS],?_⟩;rw[<- bh];simp[V,tH]
  | succ k =>
   have U:=dy (show k<l.length by omega);have fa:(l.take (k+1))[k]? = some l[k]:=(by rw[dS];simp[U]);unfold DY;simp only[hS,hlen];rw[Qg (by omega),dz (by simp),cL,dw,fa];by_cases h:l[k]=0
   ·refine .inl ⟨l.take k,by simp[h,List.take_take,Nat.min_eq_left],⟨k,rfl,by omega,?_⟩,by simp;omega⟩;have:=xu U;rw[h] at this;simp at this;omega
   refine .inr ⟨l.take (k+1),by simp[h],?_⟩;rcases hh.PE aZ k (fun x h1=>by rw[U] at h1;simp at h1;omega) with h1|h1
   ·exact zd h1 bh
   omega
 obtain⟨r,ak,rfl⟩:=this;unfold uE Wb;rw[ak];rfl
theorem aiB {l:ar}(aZ:dj l)(a2:l.length<=5000000): ∃k,Ho l=some k/\k<=l.length/\l.take k=L (V l):=by
 have : ∃r,iter (fun w:Nat=>DO l w) l.length=some r/\r<=l.length/\l.take r=L (V l):=by
  refine kR (fG:=fun k=>k<=l.length/\V (l.take k)=V l) (m:=fun w:Nat=>w) _ ?_ _ ⟨by omega,by simp⟩;rintro k ⟨a4,bh⟩
  cases k with
  | zero =>
   refine .inr ⟨0,by simp[DO],by omega,?_⟩;rw[<- bh];simp[V,tH]
  | succ k =>
   have U:=dy (show k<l.length by omega);unfold DO;rw[Qg (by omega),dz (by simp),cL,dw,dG,U];by_cases h:l[k]=0
   ·refine .inl ⟨k,by simp[h],⟨by omega,?_⟩,by omega⟩;have:=xu U;rw[h] at this;simp at this;omega
   refine .inr ⟨k+1,by simp[h],a4,?_⟩;rcases hh.PE aZ k (fun x h1=>by rw[U] at h1;simp at h1;omega) with h1|h1
   ·exact zd h1 bh
   omega
 obtain⟨r,ak,h1,h2⟩:=this;unfold Ho VP;rw[ak];exact⟨r,rfl,h1,h2⟩
theorem xz {a b:ar}(bH:hh a)(aO:hh b)(a2:a.length<=5000000):uA a b=some (nt (V a) (V b)):=by
 unfold uA nt;simp only[hS];by_cases h1:a.length=b.length;rotate_left
 ·rw[dz (by simp;omega)]
  by_cases h2:a.length<b.length
  ·have:=Lq bH aO h2;simp[h2,this]
  have:=Lq aO bH (by omega);rw[dB (by simp;omega),eR,dz this]
 rw[dB (by simp[h1])]
 have : ∃r,iter (fun w:Int=>DL a b w) ((a.length:Int)-1)=some r/\(r.elim (fun _=>V a=V b) (fun c=>(c = -1/\V a<V b)\/(c=1/\V b<V a))):=by
  refine kR (fG:=fun w:Int=> ∃k:Nat,w=(k:Int)-1/\k<=a.length/\V (a.drop k)=V (b.drop k)) (m:=fun w:Int=>(w+1).toNat) _ ?_ _ ⟨a.length,rfl,by omega,by rw[List.drop_length,h1,List.drop_length]⟩;rintro _ ⟨k,rfl,a4,bh⟩
  cases k with
  | zero=>exact .inr ⟨.inl (),by simp[DL],by simpa using bh⟩
  | succ k =>
   have U:=dy (show k<a.length by omega);have aY:=dy (show k<b.length by omega);have e:((k+1:Nat):Int)-1=k:=(by omega);unfold DL;rw[e,uW (by omega),dz (by simp),cL,dw,U];simp only[dC,dx];rw[cL,aY];by_cases h2:a[k]<b[k]
   ·exact .inr ⟨.inr (-1),by simp[h2],.inl ⟨rfl,YC bH.1 aO.1 U aY bh h2⟩⟩
   by_cases R:b[k]<a[k]
   ·exact .inr ⟨.inr 1,by simp[h2,R],.inr ⟨rfl,YC aO.1 bH.1 aY U bh.symm R⟩⟩
   refine .inl ⟨(k:Int)-1,by simp[h2,R],⟨k,rfl,by omega,?_⟩,by omega⟩;rw[sl U,sl aY,bh,show a[k]=b[k] by omega]
 obtain⟨r,ak,h2⟩:=this;unfold VF;rw[uW (by omega),ak]
 cases r with
 | inl u =>
  simp at h2;simp[h2]
 | inr c =>
  rcases h2 with ⟨rfl,h2⟩|⟨rfl,h2⟩
  ·simp[h2]
  simp[h2];omega
theorem agU:uy=uA:=rfl
theorem OV {a b:ar}(bH:hh a)(aO:hh b)(a2:a.length<=5000000):uy a b=some (nt (V a) (V b)):=xz bH aO a2
theorem H2 {x y:Int}(U:0<=x/\x<1000000000)(aY:0<=y/\y<1000000000):0<=x*y/\x*y<=999999998000000001:=by have h1:=Int.mul_nonneg U.1 aY.1;have h2:x*y<=999999999*999999999:=Int.mul_le_mul (by omega) (by omega) aY.1 (by omega);omega
theorem uo {a b:Int}(h:0<=a):a.tmod b=a % b:=Int.tmod_eq_emod_of_nonneg h
theorem qm {a b:Int}(h:0<=a):a.tdiv b=a / b:=Int.tdiv_eq_ediv_of_nonneg h
theorem PG (k:Nat)(x:Int)(q:ar):(List.replicate (k+1) 0++q).set k x=List.replicate k 0++x::q:=by
 induction k with
 | zero=>rfl
 | succ k ih =>
  show (0::(List.replicate (k+1) 0++q)).set (k+1) x=_;rw[List.set_cons_succ,ih];rfl
theorem ahR {a:ar}{d rest:Int}{row:ar}{k:Nat}{x:Int}(U:a[k]? = some x)(ms:0<=x/\x<1000000000)(bI:0<d/\d<1000000000)(ak:0<=rest/\rest<d)(eP:row.length=a.length)(a2:a.length<=1000000):
 Df a d rest (k:Int) row=some (.inl ((rest*1000000000+x) % d,(k:Int)-1,row.set k ((rest*1000000000+x) / d))):=by
 have a4:=gD U;unfold Df;rw[dz (by simp),cL,dw,U];simp only[dC,dx];rw[cL,cL,cL,uW (by omega)];have h1:J (J (rest*1000000000)+x)=rest*1000000000+x:=by rw[c7 (x:=rest*1000000000)];exact iw (by omega) (by omega)
 have h2:0<=rest*1000000000+x:=by omega
 have R:(rest*1000000000+x) / d<=rest*1000000000+x:=Int.ediv_le_self _ h2;have aj:0<=(rest*1000000000+x) / d:=Int.ediv_nonneg h2 (by omega);rw[h1,uo h2,qm h2,c7,dG]
theorem W1 {a:ar}{d:Int}(bH:dj a)(bI:0<d/\d<1000000000)(a2:a.length<=1000000):
 ∃r,NW a d 0 ((a.length:Int)-1) (List.replicate a.length 0)=some r/\r.1=V a % d/\dj r.2/\r.2.length=a.length/\V r.2=V a / d:=by
 refine kR (fG:=fun w:Int×Int×ar=> ∃(k:Nat) (q:ar),w.2.1=(k:Int)-1/\k<=a.length/\w.2.2=List.replicate k 0++q/\q.length+k=a.length/\dj q/\0<=w.1/\w.1<d/\V (a.drop k)=V q*d+w.1) (m:=fun w:Int×Int×ar=>(w.2.1+1).toNat) _ ?_ _ ⟨a.length,[],rfl,by omega,by simp,by simp,dj.nil,by omega,by omega,by simp[V]⟩;rintro⟨rest,i,row⟩ ⟨k,q,h1,a4,h2,a0,ug,oo,kq,bh⟩;simp only at h1 h2 oo kq bh ⊢;subst h1 h2
 cases k with
 | zero =>
  refine .inr ⟨(rest,q),by simp[Df],?_,ug,by simpa using a0,?_⟩
  ·simp at bh;rw[bh,Int.add_comm,Int.add_mul_emod_self_right];exact(Int.emod_eq_of_lt oo kq).symm
  simp at bh;rw[bh,Int.add_comm,Int.add_mul_ediv_right _ _ (by omega),Int.ediv_eq_zero_of_lt oo kq];simp
 | succ k =>
  have U:=dy (show k<a.length by omega);have ms:=bH.get U;rw[show ((k+1:Nat):Int)-1=k by omega,ahR U ms bI ⟨oo,kq⟩ (by simp;omega) a2];refine .inl ⟨_,rfl,⟨k,(rest*1000000000+a[k]) / d::q,rfl,by omega,PG _ _ _,by simp;omega,dj.cons ⟨Int.ediv_nonneg (by omega) (by omega),?_⟩ ug,Int.emod_nonneg _ (by omega),Int.emod_lt_of_pos _ bI.1,?_⟩,by simp⟩
  ·refine Int.ediv_lt_of_lt_mul bI.1 ?_;omega
  rw[sl U,bh,og];have:=Int.mul_ediv_add_emod (rest*1000000000+a[k]) d;generalize (rest*1000000000+a[k]) / d=u at *;generalize (rest*1000000000+a[k]) % d=t at *;grind
theorem ajP {a:ar}{d:Int}(bH:dj a)(bI:0<d/\d<1000000000)(a2:a.length<=1000000):GZ a d=some (L (V a / d),V a % d):=by obtain⟨r,ak,h1,h2,R,aj⟩:=W1 bH bI a2;unfold GZ;simp only[hS];rw[cL,uW (by omega),dw,ak];simp only[dC,dx];rw[wi h2 (by omega),h1,aj];rfl
theorem af1:Uv=NW:=rfl
theorem We {a:ar}{d:Int}(bH:dj a)(bI:0<d/\d<1000000000)(a2:a.length<=1000000):Ec a d=some (L (V a / d),V a % d):=by obtain⟨r,ak,h1,h2,R,aj⟩:=W1 bH bI a2;unfold Ec;simp only[hS];rw[cL,uW (by omega),dw,af1,ak];simp only[dC,dx];rw[EU h2 (by omega),h1,aj];rfl
theorem aiC {b:ar}{i j:Nat}{x y z carry:Int}{row t26:ar}{t27:Int}(aY:b[j]? = some y)(cK:row[i+j]? = some z)(U:0<=x/\x<1000000000)(r5:0<=y/\y<1000000000)(vM:0<=z/\z<1000000000)(a1:0<=carry/\carry<1000000000)(a2:row.length<=2000000):
 DM b i x t26 t27 b.length carry j row=some (.inl ((z+x*y+carry) / 1000000000,((j+1:Nat):Int),row.set (i+j) ((z+x*y+carry) % 1000000000))):=by
 have ap:=gD aY;have sE:=gD cK;obtain⟨jS,iV⟩:=H2 U r5;unfold DM;have e:J ((i:Int)+(j:Int))=((i+j:Nat):Int):=by rw[c7];rfl
 rw[dz (by simp;omega),cL,dw,aY];simp only[dC,dx,e,dw,dG];rw[cL,cK];simp only[dx];rw[cL,q7 (by omega),c7 (x:=x*y),c7 (x:=z+x*y),c7 (x:=z+x*y+carry),uo (by omega),qm (by omega),c7]
theorem aiD {b:ar}{i:Nat}{x:Int}{row t26:ar}{t27:Int}(aO:dj b)(eP:dj row)(U:0<=x/\x<1000000000)(aZ:i+b.length<row.length)(a2:row.length<=2000000):
 ∃r,VH b i x t26 t27 b.length 0 0 row=some r/\0<=r.1/\r.1<1000000000/\dj r.2/\r.2.length=row.length/\V r.2+r.1*B (i+b.length)=V row+x*B i*V b/\ ∀j,i+b.length<=j->r.2[j]? = row[j]? := by
 refine kR (fG:=fun w:Int×Int×ar=> ∃(j:Nat),w.2.1=(j:Int)/\j<=b.length/\0<=w.1/\w.1<1000000000/\dj w.2.2/\w.2.2.length=row.length/\V w.2.2+w.1*B (i+j)=V row+x*B i*V (b.take j)/\ ∀j,i+b.length<=j->w.2.2[j]? = row[j]?) (m:=fun w:Int×Int×ar=>b.length-w.2.1.toNat) _ ?_ _ ⟨0,rfl,by omega,by simp,by simp,eP,rfl,by simp[V],fun _ _=>rfl⟩;rintro⟨carry,aoS,eD⟩ ⟨j,h1,ap,pI,p5,mV,hlen,bh,oi⟩;simp only at h1 pI p5 mV hlen bh oi ⊢;subst h1;by_cases anL:j=b.length
 ·subst anL;refine .inr ⟨(carry,eD),by simp[DM],pI,p5,mV,hlen,by simpa using bh,oi⟩
 have aY:=dy (show j<b.length by omega);have cK:=dy (show i+j<eD.length by omega);have r5:=aO.get aY;have vM:=mV.get cK;obtain⟨jS,iV⟩:=H2 U r5;rw[aiC aY cK U r5 vM ⟨pI,p5⟩ (by omega)];refine .inl ⟨_,rfl,⟨j+1,rfl,by omega,by simp only;omega,by simp only;omega,mV.set (by omega),by simpa using hlen,?_,fun jZ wO=> ?_⟩,by simp;omega⟩
 ·simp only;rw[wG cK,xu aY,<- Nat.add_assoc,pi];rw[Ig] at bh ⊢;have:=Int.mul_ediv_add_emod (eD[i+j]+x*b[j]+carry) 1000000000;generalize (eD[i+j]+x*b[j]+carry) / 1000000000=u at *;generalize (eD[i+j]+x*b[j]+carry) % 1000000000=t at *;grind
 rw[<- oi jZ wO];exact List.getElem?_set_ne (by omega)
theorem O5 {a b:ar}(bH:dj a)(aO:dj b)(a2:a.length<=1000000)(hm:b.length<=1000000):
 ∃r,Kr b a a.length 0 (List.replicate (a.length+b.length) 0)=some r/\dj r/\r.length=a.length+b.length/\V r=V a*V b:=by
 refine kR (fG:=fun w:Int×ar=> ∃(i:Nat),w.1=(i:Int)/\i<=a.length/\dj w.2/\w.2.length=a.length+b.length/\V w.2=V (a.take i)*V b/\ ∀j,i+b.length<=j->j<a.length+b.length->w.2[j]? = some 0) (m:=fun w:Int×ar=>a.length-w.1.toNat) _ ?_ _ ⟨0,rfl,by omega,dj.Q6 _,by simp,by simp[V,Qd],fun j _ h=>by simp[List.getElem?_replicate,h]⟩;rintro⟨ii,row⟩ ⟨i,h1,aa,mV,hlen,bh,h0⟩;simp only at h1 mV hlen bh h0 ⊢;subst h1;by_cases Jt:i=a.length
 ·subst Jt;refine .inr ⟨row,by simp[Gr],mV,hlen,by simpa using bh⟩
 have U:=dy (show i<a.length by omega);have ms:=bH.get U;obtain⟨r,ak,pI,p5,amF,ZE,IP,oi⟩:=aiD (i:=i) (t26:=a) (t27:=a.length) aO mV ms (by omega) (by omega);have e:J ((i:Int)+(b.length:Int))=((i+b.length:Nat):Int):=by rw[c7];rfl
 have cK:r.2[i+b.length]? = some 0:=by rw[oi _ (dE _)];exact h0 _ (dE _) (by omega)
 refine .inl ⟨(((i+1:Nat):Int),r.2.set (i+b.length) r.1),?_,⟨i+1,rfl,by omega,amF.set ⟨pI,p5⟩,by simp;omega,?_,fun j aqx anM=> ?_⟩,by simp;omega⟩
 ·unfold Gr;rw[dz (by simp;omega),cL,dw,U];simp only[dC,dx,hS];rw[ak];simp only[dx,e,dw,dG];rw[cL,cL,q7 (n:=i) (by omega)]
 ·simp only;rw[wG cK,xu U];grind
 simp only;rw[List.getElem?_set_ne (by omega),oi _ (by omega)];exact h0 _ (by omega) anM
theorem mul_eq {a b:ar}(bH:dj a)(aO:dj b)(a2:a.length<=1000000)(hm:b.length<=1000000):kb a b=some (L (V a*V b)):=by
 unfold kb;simp only[hS];by_cases h1:a=[]
 ·subst h1;simp[V,tH]
 by_cases h2:b=[]
 ·subst h2;simp[h1,V,tH]
 obtain⟨r,ak,R,aj,aq⟩:=O5 bH aO a2 hm;have e:J ((a.length:Int)+(b.length:Int))=((a.length+b.length:Nat):Int):=by rw[c7];rfl
 rw[dB (by simp[h1]),dB (by simp[h2]),e,cL,dw,ak];simp only[dC,dx];rw[wi R (by omega),aq];rfl
theorem ahl:V3=Kr:=rfl
theorem agt:Vt=Kr:=rfl
theorem Ld {a b:ar}(bH:dj a)(aO:dj b)(a2:a.length<=1000000)(hm:b.length<=1000000):uC a b=some (L (V a*V b)):=by
 unfold uC;simp only[hS];by_cases h1:a=[]
 ·subst h1;simp[V,tH]
 by_cases h2:b=[]
 ·subst h2;simp[h1,V,tH]
 obtain⟨r,ak,R,aj,aq⟩:=O5 bH aO a2 hm;have e:J ((a.length:Int)+(b.length:Int))=((a.length+b.length:Nat):Int):=by rw[c7];rfl
 rw[dB (by simp[h1]),dB (by simp[h2]),e,cL,dw,ahl,ak];simp only[dC,dx];rw[EU R (by omega),aq];rfl
theorem W2 {a b:ar}(bH:dj a)(aO:dj b)(h1:a≠[])(h2:b≠[])(a2:a.length<=1000000)(hm:b.length<=1000000):
 ∃k r,En a b=some (k,r)/\k<=r.length/\r.length=a.length+b.length/\r.take k=L (V a*V b)/\dj r:=by
 obtain⟨r,ak,R,aj,aq⟩:=O5 bH aO a2 hm;obtain⟨k,a4,aM,ba⟩:=aiB R (by omega);refine⟨k,r,?_,aM,aj,by rw[ba,aq],R⟩;unfold En;simp only[hS];have e:J ((a.length:Int)+(b.length:Int))=((a.length+b.length:Nat):Int):=by rw[c7];rfl
 rw[dB (by simp[h1]),dB (by simp[h2]),e,cL,dw,agt,ak];simp only[dC,dx];rw[a4];rfl
theorem Ik {x:Int}(h1:0<=x)(h2:x<18446744073709551616):IntKind.wrap .u64 x=x:=by
 simp only[IntKind.wrap,IntKind.signed,IntKind.bits];have:((2:Int) ^ 64)=18446744073709551616:=by decide
 simp;omega
theorem amb {x:Int}(h1:-9223372036854775808<=x)(h2:x<9223372036854775808):IntKind.wrap .i64 x=x:=iw h1 h2
theorem hh.snoc {l:ar}{x:Int}(h:dj l)(U:0<x/\x<1000000000):hh (l++[x]):=⟨h.append (dj.cons (by omega) dj.nil),fun y aY=>by rw[List.getLast?_append] at aY;simp at aY;omega⟩
theorem Xu {N:Int}(fY:N<18446744073709551616){n:Int}{row:ar}(h:0<=n/\dj row/\V row+B row.length*n=N/\(n=0->hh row)/\((row.length=0/\n<18446744073709551616)\/(row.length=1/\n<20000000000)\/(row.length=2/\n<20)\/(row.length=3/\n=0)))(a2:0<n):
 (fun (n:Int) (row:ar)=>0<=n/\dj row/\V row+B row.length*n=N/\(n=0->hh row)/\((row.length=0/\n<18446744073709551616)\/(row.length=1/\n<20000000000)\/(row.length=2/\n<20)\/(row.length=3/\n=0))) (n / 1000000000) (row++[n % 1000000000]):=by
 obtain⟨h0,h1,h2,R,aj⟩:=h;refine⟨by omega,h1.append (dj.cons (by omega) dj.nil),?_,fun aq=>hh.snoc h1 (by omega),?_⟩
 ·rw[AM,dD,List.length_singleton,pi,og,Fb];have:=Int.mul_ediv_add_emod n 1000000000;generalize n / 1000000000=u at *;generalize n % 1000000000=t at *;grind
 rw[dD,List.length_singleton];omega
theorem EM {n:Int}(h:0<=n)(a2:n<9223372036854775808):wh n=some (L n):=by
 have : ∃r,iter (fun w:Int×ar=>DT w.1 w.2) (n,[])=some r/\r=L n:=by
  refine kR (fG:=fun w:Int×ar=>w.1<=n/\0<=w.1/\dj w.2/\V w.2+B w.2.length*w.1=n/\(w.1=0->hh w.2)/\((w.2.length=0/\w.1<18446744073709551616)\/(w.2.length=1/\w.1<20000000000)\/(w.2.length=2/\w.1<20)\/(w.2.length=3/\w.1=0))) (m:=fun w:Int×ar=>w.1.toNat) _ ?_ _ ⟨Int.le_refl _,h,dj.nil,by simp[V,B],fun _=>hh.nil,.inl ⟨rfl,by simp only;omega⟩⟩;rintro⟨m,row⟩ ⟨hm,dh⟩;simp only at hm dh;obtain⟨h0,h1,h2,R,aj⟩:=id dh;by_cases mC:0<m
  ·have:=Xu (by omega) dh mC;refine .inl ⟨(m / 1000000000,row++[m % 1000000000]),?_,⟨by simp only;omega,this⟩,by simp only;omega⟩;unfold DT;rw[dz (by simp;omega),uo (by omega),qm (by omega),dz (by simp;omega),c7]
  refine .inr ⟨row,by simp[DT,mC],?_⟩;have rj:m=0:=(by omega);refine zd (R rj) ?_;rw[rj] at h2;simpa using h2
 obtain⟨r,ak,rfl⟩:=this;unfold wh V0;rw[ak];rfl
theorem OW {n:Int}(h:0<=n)(a2:n<18446744073709551616):An n=some (L n):=by
 have : ∃r,iter (fun w:Int×ar=>Dv w.1 w.2) (n,[])=some r/\r=L n:=by
  refine kR (fG:=fun w:Int×ar=>w.1<=n/\0<=w.1/\dj w.2/\V w.2+B w.2.length*w.1=n/\(w.1=0->hh w.2)/\((w.2.length=0/\w.1<18446744073709551616)\/(w.2.length=1/\w.1<20000000000)\/(w.2.length=2/\w.1<20)\/(w.2.length=3/\w.1=0))) (m:=fun w:Int×ar=>w.1.toNat) _ ?_ _ ⟨Int.le_refl _,h,dj.nil,by simp[V,B],fun _=>hh.nil,.inl ⟨rfl,by simp only;omega⟩⟩;rintro⟨m,row⟩ ⟨hm,dh⟩;simp only at hm dh;obtain⟨h0,h1,h2,R,aj⟩:=id dh;by_cases mC:0<m
  ·have:=Xu (by omega) dh mC;refine .inl ⟨(m / 1000000000,row++[m % 1000000000]),?_,⟨by simp only;omega,this⟩,by simp only;omega⟩;unfold Dv;rw[dz (by simp;omega),uo (by omega),qm (by omega),amb (x:=m % 1000000000) (by omega) (by omega),dz (by simp;omega),Ik (by omega) (by omega)]
  refine .inr ⟨row,by simp[Dv,mC],?_⟩;have rj:m=0:=(by omega);refine zd (R rj) ?_;rw[rj] at h2;simpa using h2
 obtain⟨r,ak,rfl⟩:=this;unfold An Vp;rw[ak];rfl
def zg (x:Int):Bool:=decide (0<=x) && decide (x<1000000000)
theorem YI (l:ar):l.all zg=true↔dj l:=by simp[zg,dj]
theorem W3 {a:ar}(h:a≠[]): ∃x,a[a.length-1]? = some x/\(hh a↔dj a/\x≠0):=by
 have ai:=arF.mpr h;refine⟨a[a.length-1],wZ,?_⟩;have e:a.getLast? = some a[a.length-1]:=by rw[List.getLast?_eq_getElem?];exact dy (by omega)
 constructor
 ·exact fun h=>⟨h.1,h.2 _ e⟩
 refine fun h=>⟨h.1,fun x U=> ?_⟩;rw[e] at U;rw[<- dJ U];exact h.2
theorem amc {a:ar}(h:a≠[])(hm:(a.length:Int)<9223372036854775807):J ((a.length:Int)-1)=((a.length-1:Nat):Int):=by have ai:=arF.mpr h;rw[c7];omega
theorem ahS (x:Int):qp x 0 999999999=some (zg x):=by
 unfold qp zg;by_cases h:0<=x
 ·simp[h];omega
 simp[h]
theorem OX {a:ar}(hm:(a.length:Int)<9223372036854775807): ∃ok,xn a=some ok/\(ok=true↔hh a/\a.length<=60):=by
 have h1:iter (fun w:Int=>DU a a.length w) 0=some (if a.all zg then .inl () else .inr ()):=by refine EJ a zg (fun n x U=> ?_) (by simp[DU]);have:=gD U;unfold DU;rw[dz (by simp;omega),cL,dw,U];simp only[dC,dx,ahS];rw[i1 (by omega)];cases zg x<;>rfl
 unfold xn V1;simp only[hS];rw[h1];by_cases r9:a.all zg=true
 ·have IH:=(YI a).1 r9
  simp only[r9,if_true,dC,dx];by_cases ve:a.length<=60
  ·rw[dz (by simp;omega)]
   by_cases h0:a=[]
   ·subst h0;exact⟨true,rfl,by simp[hh.nil]⟩
   obtain⟨x,U,a2⟩:=W3 h0;have ai:=arF.mpr h0;rw[dB (by simp[h0]),amc h0 hm,cL,dw,U];refine⟨_,rfl,?_⟩;rw[a2];simp[IH,ve]
  rw[dB (by simp;omega)];exact⟨false,rfl,by simp;omega⟩
 have IH : ¬dj a:=fun h=>r9 ((YI a).2 h);simp only[Bool.not_eq_true] at r9;refine⟨false,by simp[r9],?_⟩;simp only[arA,false_iff];exact fun h=>IH h.1.1
theorem Ww {a:ar}(bH:hh a)(ve:a.length<=60)(bh:V a<9223372036854775808):Ef a=some (V a,true):=by
 obtain⟨ok,h1,h2⟩:=OX (a:=a) (by omega);have pZ:ok=true:=h2.2 ⟨bH,ve⟩;subst pZ;have a1:hh [854775807,223372036,9]:=⟨by intro x U;simp at U;omega,by simp⟩;have Rk:V [854775807,223372036,9]=9223372036854775807:=by decide
 unfold Ef;rw[h1];simp only[dC,dx,if_true];rw[xz bH a1 (by omega),Rk]
 have : ∃r,iter (fun w:Int×Int=>Dd a w.1 w.2) (0,(a.length:Int)-1)=some r/\r=V a:=by
  refine kR (fG:=fun w:Int×Int=> ∃k:Nat,w.2=(k:Int)-1/\k<=a.length/\w.1=V (a.drop k)) (m:=fun w:Int×Int=>(w.2+1).toNat) _ ?_ _ ⟨a.length,rfl,by omega,by simp[V]⟩;rintro⟨n,i⟩ ⟨k,R,a4,aj⟩;simp only at R aj;subst R aj
  cases k with
  | zero=>exact .inr ⟨V a,by simp[Dd],rfl⟩
  | succ k =>
   have U:=dy (show k<a.length by omega);have ms:=bH.1.get U;have aq:=sl U;have aM:=pd (bH.1.drop (k+1));have ba:V (a.drop k)<=V a:=(by have bj:=AU (l:=a) (n:=k) (by omega);have ck:=pd (bH.1.take k);have b1:=pd (bH.1.drop k);have dg:1*V (a.drop k)<=B k*V (a.drop k):=Int.mul_le_mul_of_nonneg_right (qZ k) b1;omega);refine .inl ⟨(V (a.drop k),(k:Int)-1),?_,⟨k,rfl,by omega,rfl⟩,by simp only;omega⟩;unfold Dd;rw[show ((k+1:Nat):Int)-1=k by omega,dz (by simp),cL,dw,U];simp only[dC,dx];rw[uW (by omega),c7 (x:=V (a.drop (k+1))*1000000000),c7,aq];congr 3;omega
 obtain⟨r,ak,rfl⟩:=this;unfold nt UR;simp only[hS];rw[uW (by omega),ak];have R : ¬(9223372036854775807:Int)<V a:=by omega
 by_cases aj:V a<9223372036854775807<;>simp[R,aj]
theorem ajQ {a b row:ar}{less x:Int}{i:Nat}(aO:dj b)(U:a[i]? = some x)(ms:0<=x/\x<1000000000)(aZ:less=0\/less=1)(a2:a.length<=1000000)(hm:b.length<=1000000)(ak:row.length<=1000000):
 ∃y,0<=y/\y<1000000000/\(∀z,b[i]? = some z->y=z)/\(b[i]? = none->y=0) /\
 z5 a b a.length less i row=some (.inl (if x-less-y<0 then (1,((i+1:Nat):Int),row++[x-less-y+1000000000]) else (0,((i+1:Nat):Int),row++[x-less-y]))):=by
 have aa:=gD U;unfold z5;rw[dz (by simp;omega),cL,dw,U];simp only[dC,dx,hS];by_cases aaS:i<b.length
 ·have aY:=dy aaS
  have r5:=aO.get aY;refine⟨b[i],r5.1,r5.2,fun z cK=>by rw[aY] at cK;exact dJ cK,fun h=>by rw[aY] at h;simp at h,?_⟩;rw[dz (by simp;omega),cL,aY];simp only[dx];rw[c7 (x:=x-less),c7 (x:=x-less-b[i]),q7 (n:=i) (by omega),c7 (x:=x-less-b[i]+1000000000)];by_cases h:x-less-b[i]<0
  ·rw[dz (by simp[h]),dz (by simp;omega)];simp[h]
  rw[dB (by simp[h]),dz (by simp;omega)];simp[h]
 have aY:b[i]? = none:=by simp;omega
 refine⟨0,by omega,by omega,fun z cK=>by rw[aY] at cK;simp at cK,fun _=>rfl,?_⟩;rw[dB (by simp;omega),c7 (x:=x-less),q7 (n:=i) (by omega),c7 (x:=x-less+1000000000),Int.sub_zero];by_cases h:x-less<0
 ·rw[dz (by simp[h]),dz (by simp;omega)];simp[h]
 rw[dB (by simp[h]),dz (by simp;omega)];simp[h]
theorem X3 {b:ar}{i:Nat}{y:Int}(h1:∀z,b[i]? = some z->y=z)(h2:b[i]? = none->y=0):V (b.take (i+1))=V (b.take i)+B i*y:=by
 cases h:b[i]? with
 | some z=>rw[h1 z h,xu h]
 | none =>
  rw[h2 h];have:b.length<=i:=(by simpa using h);rw[arp (by omega),arp (by omega)];simp
theorem sub_eq {a b:ar}(bH:dj a)(aO:dj b)(hlen:b.length<=a.length)(zt:V b<=V a)(a2:a.length<=1000000):xk a b=some (L (V a-V b)):=by
 have : ∃r,iter (fun w:Int×Int×ar=>z5 a b a.length w.1 w.2.1 w.2.2) (0,0,[])=some r/\dj r/\r.length=a.length/\V r=V a-V b:=by
  refine kR (fG:=fun w:Int×Int×ar=> ∃i:Nat,w.2.1=i/\i<=a.length/\(w.1=0\/w.1=1)/\dj w.2.2/\w.2.2.length=i/\V w.2.2-w.1*B i=V (a.take i)-V (b.take i)) (m:=fun w:Int×Int×ar=>a.length-w.2.1.toNat) _ ?_ _ ⟨0,rfl,by omega,.inl rfl,dj.nil,rfl,by simp[V]⟩;rintro⟨less,ii,row⟩ ⟨i,h1,aa,aZ,mV,yb,bh⟩;simp only at h1 aZ mV yb bh ⊢;subst h1;by_cases Jt:i=a.length
  ·refine .inr ⟨row,by simp[z5,Jt],mV,by omega,?_⟩;rw[Jt] at bh;rw[List.take_length,arp hlen] at bh;have h2:=pW mV;rw[yb,Jt] at h2;rcases aZ with rfl|rfl<;>omega
  have U:=dy (show i<a.length by omega);have ms:=bH.get U;obtain⟨y,Ju,Jv,anN,anO,he⟩:=ajQ (row:=row) aO U ms aZ a2 (by omega) (by omega);rw[he];refine .inl ⟨_,rfl,?_⟩;have R:=xu U;have aj:=X3 anN anO;by_cases h:a[i]-less-y<0
  ·rw[dz h];refine⟨⟨i+1,rfl,by omega,.inr rfl,mV.append (dj.cons (by omega) dj.nil),by simp[yb],?_⟩,by simp only;omega⟩;simp only;rw[R,aj,AM,yb,pi,og,Fb];grind
  rw[dB h];refine⟨⟨i+1,rfl,by omega,.inl rfl,mV.append (dj.cons (by omega) dj.nil),by simp[yb],?_⟩,by simp only;omega⟩;simp only;rw[R,aj,AM,yb,og,Fb];grind
 obtain⟨r,ak,h1,h2,R⟩:=this;unfold xk VG;simp only[hS];rw[ak];simp only[dC,dx];rw[wi h1 (by omega),R];rfl
theorem wj {l:ar}(h:dj l){k:Nat}(a4:k<=l.length):B k*V (l.drop k)<=V l/\V l<B k*(V (l.drop k)+1):=by have h1:=AU a4;have h2:=pd (h.take k);have R:=pW (h.take k);rw[List.length_take,Nat.min_eq_left a4] at R;rw[Int.mul_add,Int.mul_one];omega
theorem HE {l:ar}{k:Nat}{x:Int}(U:l[k]? = some x)(aZ:l.length=k+1):V (l.drop k)=x:=by rw[sl U,List.drop_of_length_le (by omega)];simp[V]
theorem Wf {a7 W t d P:Int}(gZ:1<=P)(MM:P*t<=a7)(Rl:a7<P*(t+1))(zB:P*d<=W)(MN:W<P*(d+1))(bI:0<d)(cv:0<=t)(Rm:a7<1000000000*W):t / (d+1)<=a7 / W/\a7 / W<=t / d/\a7 / W<=999999999:=by
 have hW:0<W:=by have:=Int.mul_pos (a:=P) (b:=d) (by omega) bI;omega
 have ee:0<=a7:=by have:=Int.mul_nonneg (a:=P) (b:=t) (by omega) cv;omega
 refine⟨?_,?_,?_⟩
 ·apply (Int.le_ediv_iff_mul_le hW).2;have h1:t / (d+1)*(d+1)<=t:=Int.ediv_mul_le _ (by omega);have h2:0<=t / (d+1):=Int.ediv_nonneg cv (by omega);have R:t / (d+1)*W<=t / (d+1)*(P*(d+1)):=dL (by omega) h2;have aj:P*(t / (d+1)*(d+1))<=P*t:=dL h1 (by omega);have aq:t / (d+1)*(P*(d+1))=P*(t / (d+1)*(d+1)):=(by grind);omega
 ·apply (Int.le_ediv_iff_mul_le bI).2;have h1:a7 / W*W<=a7:=Int.ediv_mul_le _ (by omega);have h2:0<=a7 / W:=Int.ediv_nonneg ee (by omega);have R:a7 / W*(P*d)<=a7 / W*W:=dL zB h2;have aj:a7 / W*(P*d)=P*(a7 / W*d):=(by grind);have aq:P*(a7 / W*d)<P*(t+1):=(by omega);have:=Int.lt_of_mul_lt_mul_left aq (by omega);omega
 have:=Int.ediv_lt_of_lt_mul hW Rm;omega
theorem YJ {a b:Int}:nt a b<=0↔a<=b:=by
 unfold nt;by_cases h:a<b
 ·simp[h];omega
 by_cases h2:b<a
 ·simp[h,h2]
 simp[h,h2];omega
theorem yP {a b:Int}:nt a b<0↔a<b:=by
 unfold nt;by_cases h:a<b
 ·simp[h]
 by_cases h2:b<a
 ·simp[h,h2]
 simp[h,h2]
theorem Xv {a b:Int}:nt a b=0↔a=b:=by
 unfold nt;by_cases h:a<b
 ·simp[h];omega
 by_cases h2:b<a
 ·simp[h,h2];omega
 simp[h,h2];omega
theorem W4 {r b:ar}(ak:hh r)(aO:hh b)(ou:b≠[])(a2:r.length<=1000000)(hm:b.length<=1000000){cj aa:Int}(h0:0<=cj)(h1:cj<=V r / V b)(h2:V r / V b<=aa)(R:aa<=999999999):NX r b cj aa=some (V r / V b):=by
 have l5:=xI aO ou
 have : ∃q,iter (fun w:Int×Int=>zY r b w.1 w.2) (cj,aa)=some q/\q=V r / V b:=by
  refine kR (fG:=fun w:Int×Int=>0<=w.1/\w.1<=V r / V b/\V r / V b<=w.2/\w.2<=999999999) (m:=fun w:Int×Int=>(w.2-w.1).toNat) _ ?_ _ ⟨h0,h1,h2,R⟩;rintro⟨l,h⟩ ⟨g0,g1,g2,g3⟩;simp only at g0 g1 g2 g3;by_cases eS:l<h;rotate_left
  ·exact .inr ⟨l,by simp[zY,eS],by omega⟩
  have e1:J ((J ((J (l+h))+(1:Int))).tdiv (2:Int))=(l+h+1) / 2:=(by rw[c7 (x:=l+h),c7 (x:=l+h+1),qm (by omega),c7]);have rj:0<=(l+h+1) / 2:=(by omega);have sK:(l+h+1) / 2<1000000000:=(by omega);have aax:(L ((l+h+1) / 2)).length<=1:=(jW rj).2 (by simpa [B] using sK)
  have e2:zY r b l h=some (.inl (if V b*((l+h+1) / 2)<=V r then ((l+h+1) / 2,h) else (l,(l+h+1) / 2-1))):=by
   unfold zY;rw[dz (by simp[eS]),e1,EM rj (by omega)];simp only[dC,dx];rw[mul_eq aO.1 (iS _) hm (by omega),lv rj];simp only[dx];have ai:0<=V b*((l+h+1) / 2):=Int.mul_nonneg (by omega) rj;have hlen:(L (V b*((l+h+1) / 2))).length<=b.length+1:=(jW ai).2 (by rw[pi];have aq:=pW aO.1;have:V b*((l+h+1) / 2)<=V b*1000000000:=dL (by omega) (by omega);omega);rw[xz (kc _) ak (by omega),lv ai];simp only[dx];by_cases a1:V b*((l+h+1) / 2)<=V r
   ·rw[dz (by simpa using YJ.2 a1),dz a1]
   rw[dB (fun h=>a1 (YJ.1 (by simpa using h))),dB a1,c7]
  rw[e2];refine .inl ⟨_,rfl,?_⟩;by_cases a1:V b*((l+h+1) / 2)<=V r
  ·rw[dz a1];have:(l+h+1) / 2<=V r / V b:=(Int.le_ediv_iff_mul_le l5).2 (by rw[Int.mul_comm];exact a1);exact⟨⟨by simp only;omega,this,g2,g3⟩,by simp only;omega⟩
  rw[dB a1];have:V r / V b<(l+h+1) / 2:=(Int.ediv_lt_iff_lt_mul l5).2 (by rw[Int.mul_comm];omega);exact⟨⟨g0,g1,by simp only;omega,by simp only;omega⟩,by simp only;omega⟩
 obtain⟨q,a0,rfl⟩:=this;exact a0
theorem LO {b:ar}(aO:hh b)(ou:b≠[]): ∃k d,b.length=k+1/\b[k]? = some d/\0<d/\d<1000000000/\V (b.drop k)=d:=by have ai:=arF.mpr ou;obtain⟨x,U,h⟩:=W3 ou;have h1:=h.1 aO;have h2:=h1.1.get U;exact⟨b.length-1,x,by omega,U,by omega,h2.2,HE U (by omega)⟩
theorem ajR {r b:ar}(ak:hh r)(aO:hh b)(ou:b≠[])(a2:r.length<=1000000)(hm:b.length<=1000000)(h1:V b<=V r)(h2:V r<1000000000*V b):G0 r b=some (V r / V b):=by
 obtain⟨k,d,a4,bI,xY,MO,FR⟩:=LO aO ou;have aaq:b.length<=r.length:=Nat.le_of_not_lt fun h=>by have:=Lq ak aO h;omega
 have aar:r.length<=b.length+1:=ak.len.2 (by have:=pW aO.1;rw[pi];omega);have zn:=wj aO.1 (k:=k) (by omega);rw[FR] at zn;have kq:=wj ak.1 (k:=k) (by omega);have U:=dy (show k<r.length by omega);have ms:=ak.1.get U;have hw:J ((b.length:Int)-1)=(k:Int):=by rw[c7];omega
 have pN:=pd (ak.1.drop k);have MP:=Wf (qZ k) kq.1 kq.2 zn.1 zn.2 xY pN h2;have aqy:=pd ak.1;have hW:=xI aO ou;unfold G0;simp only[hS,hw];rw[cL,dw,U];simp only[dC,dx];by_cases hlen:b.length<r.length
 ·have aY:=dy hlen;have r5:=ak.1.get aY;have rk:V (r.drop (k+1))=r[b.length]:=(by rw[<- a4];exact HE aY (by omega));have cv:V (r.drop k)=r[k]+1000000000*r[b.length]:=(by rw[sl U,rk]);rw[cv] at MP pN;have oM:0<=(r[k]+1000000000*r[b.length]) / (d+1):=Int.ediv_nonneg pN (by omega);have rS:(r[k]+1000000000*r[b.length]) / (d+1)<=r[k]+1000000000*r[b.length]:=Int.ediv_le_self _ pN;have Fm:0<=(r[k]+1000000000*r[b.length]) / d:=Int.ediv_nonneg pN (by omega);have anP:(r[k]+1000000000*r[b.length]) / d<=r[k]+1000000000*r[b.length]:=Int.ediv_le_self _ pN;rw[dz (by simp;omega),cL,dw,aY];simp only[dx];rw[cL,bI];simp only[dx];have e1:J (d+1)=d+1:=iw (by omega) (by omega);have e2:J (r[k]+J (r[b.length]*1000000000))=r[k]+1000000000*r[b.length]:=(by rw[c7 (x:=r[b.length]*1000000000),c7,Int.mul_comm]);rw[e1,cL,cL,e2,qm pN,qm pN,c7,c7 (x:=(r[k]+1000000000*r[b.length]) / d)];rw[W4 ak aO ou a2 hm oM MP.1 (by split<;>omega) (by split<;>omega)];rfl
 have cv:V (r.drop k)=r[k]:=HE U (by omega);rw[cv] at MP pN;have oM:0<=r[k] / (d+1):=Int.ediv_nonneg pN (by omega);have rS:r[k] / (d+1)<=r[k]:=Int.ediv_le_self _ pN;have Fm:0<=r[k] / d:=Int.ediv_nonneg pN (by omega);have anP:r[k] / d<=r[k]:=Int.ediv_le_self _ pN;rw[dB (by simp;omega),cL,bI];simp only[dx];have e1:J (d+1)=d+1:=iw (by omega) (by omega);rw[e1,cL,cL,qm pN,qm pN,c7,c7 (x:=r[k] / d)];rw[W4 ak aO ou a2 hm oM MP.1 (by split<;>omega) (by split<;>omega)];rfl
theorem ajS {a b:ar}(bH:hh a)(aO:hh b)(ou:b≠[])(a2:a.length<=900000)(hm:b.length<=900000):
 ∃r,VI a b [] ((a.length:Int)-1) (List.replicate a.length 0)=some r/\r.1=L (V a % V b)/\dj r.2/\r.2.length=a.length/\V r.2=V a / V b:=by
 have l5:=xI aO ou;refine kR (fG:=fun w:ar×Int×ar=> ∃(k:Nat) (q:ar),w.2.1=(k:Int)-1/\k<=a.length/\w.2.2=List.replicate k 0++q/\q.length+k=a.length/\dj q/\hh w.1/\V w.1<V b/\V (a.drop k)=V q*V b+V w.1) (m:=fun w:ar×Int×ar=>(w.2.1+1).toNat) _ ?_ _ ⟨a.length,[],rfl,by omega,by simp,by simp,dj.nil,hh.nil,by simpa [V] using l5,by simp[V]⟩;rintro⟨rest,i,row⟩ ⟨k,q,h1,a4,h2,a0,ug,oo,kq,bh⟩;simp only at h1 h2 oo kq bh ⊢;subst h1 h2;have Jw:=pd oo.1
 cases k with
 | zero =>
  simp at bh;refine .inr ⟨(rest,q),by simp[DN],?_,ug,by simpa using a0,?_⟩
  ·refine zd oo ?_;rw[bh,Int.add_comm,Int.add_mul_emod_self_right];exact(Int.emod_eq_of_lt Jw kq).symm
  rw[bh,Int.add_comm,Int.add_mul_ediv_right _ _ (by omega),Int.ediv_eq_zero_of_lt Jw kq];simp
 | succ k =>
  have U:=dy (show k<a.length by omega);have ms:=bH.1.get U;have yb:rest.length<=b.length:=oo.len.2 (by have:=pW aO.1;omega);have jG:dj (a[k]::rest):=dj.cons ms oo.1;have Rk:V (a[k]::rest)=a[k]+1000000000*V rest:=og _ _;have sL:0<=a[k]+1000000000*V rest:=(by omega);have aqz:(L (a[k]+1000000000*V rest)).length<=b.length+1:=(jW sL).2 (by have:=pW aO.1;rw[pi];omega);have bI:=sl U
  have Qh:DN a b rest (k:Int) (List.replicate (k+1) 0++q)=some (.inl (if a[k]+1000000000*V rest<V b then (L (a[k]+1000000000*V rest),(k:Int)-1,List.replicate (k+1) 0++q) else (L ((a[k]+1000000000*V rest) % V b),(k:Int)-1,(List.replicate (k+1) 0++q).set k ((a[k]+1000000000*V rest) / V b)))):=by
   unfold DN;rw[dz (by simp),cL,dw,U];simp only[dC,dx,List.singleton_append];rw[dz (by simp;omega),wi jG (by simp;omega),Rk];simp only[dx];rw[xz (kc _) aO (by omega),lv sL];simp only[dx];by_cases a1:a[k]+1000000000*V rest<V b
   ·rw[dz (by simpa using yP.2 a1),dz a1,uW (by omega)]
   rw[dB (fun h=>a1 (yP.1 (by simpa using h))),dB a1];have eS:a[k]+1000000000*V rest<1000000000*V b:=(by omega);rw[ajR (kc _) aO ou (by omega) (by omega) (by rw[lv sL];omega) (by rw[lv sL];exact eS),lv sL];simp only[dx];have oM:0<=(a[k]+1000000000*V rest) / V b:=Int.ediv_nonneg sL (by omega);have rS:(a[k]+1000000000*V rest) / V b<1000000000:=Int.ediv_lt_of_lt_mul l5 eS;have aqA:(L ((a[k]+1000000000*V rest) / V b)).length<=1:=(jW oM).2 (by simpa [B] using rS);have sK:=Int.mul_ediv_add_emod (a[k]+1000000000*V rest) (V b);have Jx:=Int.emod_nonneg (a[k]+1000000000*V rest) (b:=V b) (by omega);have BT:0<=V b*((a[k]+1000000000*V rest) / V b):=Int.mul_nonneg (by omega) oM;rw[dz (by simp;omega),dz (by simp;omega),EM oM (by omega)];simp only[dx];rw[mul_eq aO.1 (iS _) (by omega) (by omega),lv oM];simp only[dx];rw[sub_eq (iS _) (iS _) ((jW BT).2 (by have:=pW (iS (a[k]+1000000000*V rest));rw[lv sL] at this;omega)) (by rw[lv sL,lv BT];omega) (by omega),lv sL,lv BT];simp only[dx];rw[uW (by omega),dG];congr 4;omega
  rw[show ((k+1:Nat):Int)-1=k by omega,Qh];refine .inl ⟨_,rfl,?_⟩;by_cases a1:a[k]+1000000000*V rest<V b
  ·rw[dz a1]
   refine⟨⟨k,0::q,rfl,by omega,?_,by simp;omega,dj.cons (by omega) ug,kc _,by rw[lv sL];exact a1,?_⟩,by simp⟩
   ·simp only;rw[List.replicate_succ',List.append_assoc];rfl
   simp only;rw[bI,bh,og,lv sL];grind
  rw[dB a1];have eS:a[k]+1000000000*V rest<1000000000*V b:=(by omega);have Jx:=Int.emod_nonneg (a[k]+1000000000*V rest) (b:=V b) (by omega);refine⟨⟨k,(a[k]+1000000000*V rest) / V b::q,rfl,by omega,PG _ _ _,by simp;omega,dj.cons ⟨Int.ediv_nonneg sL (by omega),Int.ediv_lt_of_lt_mul l5 eS⟩ ug,kc _,by rw[lv Jx];exact Int.emod_lt_of_pos _ l5,?_⟩,by simp⟩;simp only;rw[bI,bh,og,lv Jx];have sK:=Int.mul_ediv_add_emod (a[k]+1000000000*V rest) (V b);generalize (a[k]+1000000000*V rest) / V b=u at *;generalize (a[k]+1000000000*V rest) % V b=t at *;grind
theorem div_eq {a b:ar}(bH:hh a)(aO:hh b)(ou:b≠[])(a2:a.length<=900000)(hm:b.length<=900000):yE a b=some (L (V a / V b),L (V a % V b)):=by
 unfold yE;simp only[hS];by_cases h1:b.length=1
 ·obtain⟨k,d,a4,bI,xY,MO,FR⟩:=LO aO ou;have wQ:k=0:=(by omega);subst wQ;have Rn:V b=d:=(by simpa using FR);rw[dz (by simp[h1]),cL,bI];simp only[dC,dx];have sK:=Int.emod_nonneg (V a) (b:=d) (by omega);have Jx:=Int.emod_lt_of_pos (V a) xY;rw[ajP bH.1 ⟨xY,MO⟩ (by omega)];simp only[dx];rw[EM sK (by omega),Rn];rfl
 obtain⟨r,ak,e1,e2,bG,cR⟩:=ajS bH aO ou a2 hm;rw[dB (by simp;omega),cL,uW (by omega),dw,ak];simp only[dC,dx];rw[wi e2 (by omega),cR,e1];rfl
theorem Pq {x y:Int}(U:0<=x):Int.gcd y (x % y)=Int.gcd x y:=by have:=Nat.gcd_rec y.natAbs x.natAbs;simp only[Int.gcd];rw[Nat.gcd_comm x.natAbs,this,Int.natAbs_emod_of_nonneg U,Nat.gcd_comm]
theorem Lw {x:Int}(U:0<=x):(Int.gcd x 0:Int)=x:=by rw[Int.gcd_zero_right];omega
theorem ajT {x y:Int}(U:0<=x)(aY:0<=y)(Jy:x<9223372036854775808)(Ju:y<9223372036854775808):GY x y=some (L (Int.gcd x y)):=by
 have : ∃r,iter (fun w:Int×Int=>De w.1 w.2) (x,y)=some r/\(r=(Int.gcd x y:Int)/\r<9223372036854775808):=by
  refine kR (fG:=fun w:Int×Int=>0<=w.1/\0<=w.2/\w.1<9223372036854775808/\w.2<9223372036854775808/\Int.gcd w.1 w.2=Int.gcd x y) (m:=fun w:Int×Int=>w.2.toNat) _ ?_ _ ⟨U,aY,Jy,Ju,rfl⟩;rintro⟨u,v⟩ ⟨h1,h2,R,aj,aq⟩;simp only at h1 h2 R aj aq;by_cases bh:0<v
  ·have aM:=Int.emod_nonneg u (b:=v) (by omega);have ba:=Int.emod_lt_of_pos u bh;refine .inl ⟨(v,u % v),?_,⟨h2,aM,aj,by simp only;omega,by rw[<- aq];exact Pq h1⟩,by simp only;omega⟩;unfold De;rw[dz (by simpa using bh),cL,uo h1]
  have aaO:v=0:=(by omega);subst aaO;refine .inr ⟨u,by simp[De],?_,R⟩;rw[<- aq,Lw h1]
 obtain⟨r,ak,rfl,h⟩:=this;unfold GY UT;rw[ak];simp only[dC,dx];rw[EM (by omega) h];rfl
theorem LP {a:ar}(bH:hh a)(h:a.length<3):V a<9223372036854775808:=by
 have h1:=pW bH.1;have h2:=uN (m:=a.length) (n:=2) (by omega);have R:B 2=1000000000000000000:=by decide
 omega
theorem Zn {a b:ar}(bH:hh a)(aO:hh b)(a2:a.length<=900000)(hm:b.length<=900000):Eu a b=some (L (Int.gcd (V a) (V b))):=by
 have : ∃r,iter (fun w:ar×ar=>z6 w.1 w.2) (a,b)=some r/\r.elim id id=L (Int.gcd (V a) (V b)):=by
  refine kR (fG:=fun w:ar×ar=>hh w.1/\hh w.2/\w.1.length<=900000/\w.2.length<=900000/\Int.gcd (V w.1) (V w.2)=Int.gcd (V a) (V b)) (m:=fun w:ar×ar=>(V w.2).toNat) _ ?_ _ ⟨bH,aO,a2,hm,rfl⟩;rintro⟨x,y⟩ ⟨h1,h2,R,aj,aq⟩;simp only at h1 h2 R aj aq ⊢;have ms:=pd h1.1;have r5:=pd h2.1;by_cases aY:y=[]
  ·subst aY;refine .inr ⟨.inl x,by simp[z6,hS],?_⟩;rw[<- aq,Fb,Lw ms];exact(Jd h1).symm
  have Ro:=xI h2 aY;have anQ:=arF.mpr aY;by_cases bS:x.length<3/\y.length<3
  ·refine .inr ⟨.inr (L (Int.gcd (V a) (V b))),?_,rfl⟩;unfold z6;simp only[hS];rw[dz (by simp;omega),dz (by simp;omega),dz (by simp;omega),Ww h1 (by omega) (LP h1 bS.1)];simp only[dC,dx];rw[Ww h2 (by omega) (LP h2 bS.2)];simp only[dx];rw[ajT ms r5 (LP h1 bS.1) (LP h2 bS.2),aq];rfl
  have BU:=Int.emod_nonneg (V x) (b:=V y) (by omega);have anR:=Int.emod_lt_of_pos (V x) Ro;refine .inl ⟨(y,L (V x % V y)),?_,⟨h2,kc _,aj,(jW BU).2 ?_,?_⟩,?_⟩
  ·unfold z6
   simp only[hS];rw[dz (by simp;omega),div_eq h1 h2 aY R aj];by_cases yc:x.length<3
   ·rw[dz (by simp;omega),dB (by simp;omega)];rfl
   rw[dB (by simp;omega)];rfl
  ·have:=pW h2.1;have:=uN aj;omega
  ·simp only;rw[lv BU,<- aq];exact Pq ms
  simp only;rw[lv BU];omega
 obtain⟨r,ak,h⟩:=this;unfold Eu VJ;rw[List.nil_append,List.nil_append,cL,cL,ak]
 cases r with
 | inl r=>exact congrArg some h
 | inr r=>exact congrArg some h
def sB (p:Nat)(l:ar):Prop:= ∀i z,i≠p->l[i]? = some z->0<=z/\z<1000000000
theorem sB.set {p:Nat}{l:ar}(h:sB p l){k:Nat}{x:Int}(U:0<=x/\x<1000000000):sB p (l.set k x):=fun i z aa cK=>by
 by_cases a4:k=i
 ·subst a4
  rw[art] at cK;simp only[if_true] at cK;split at cK
  ·rw[<- dJ cK];exact U
  simp at cK
 rw[List.getElem?_set_ne a4] at cK;exact h i z aa cK
theorem sB.aac {p:Nat}{l:ar}(h:sB p l){x:Int}:sB p (l.set p x):=fun i z aa cK=>by rw[List.getElem?_set_ne (fun h=>aa h.symm)] at cK;exact h i z aa cK
theorem dj.toE {l:ar}(h:dj l)(p:Nat):sB p l:=fun _ _ _ cK=>h.get cK
theorem aiE {v row:ar}{cj pX i:Nat}{lm carry x y:Int}(U:v[i]? = some x)(aY:row[cj+i]? = some y)(ms:0<=x/\x<1000000000)(r5:0<=y/\y<1000000000)(aO:0<=lm/\lm<1000000000)(a1:0<=carry/\carry<1000000000)(hu:i<pX)(a2:row.length<=5000000):
 ∃c z,z7 cj pX v lm v.length carry i row=some (.inl (c,((i+1:Nat):Int),row.set (cj+i) z))/\0<=c/\c<1000000000/\0<=z/\z<1000000000/\z-1000000000*c=y-lm*x-carry:=by
 have aa:=gD U;have ap:=gD aY;obtain⟨jS,iV⟩:=H2 aO ms;have e:J (J (y-J (lm*x))-carry)=y-lm*x-carry:=by rw[c7 (x:=lm*x),c7 (x:=y-lm*x),c7]
 by_cases cv:y-lm*x-carry<0
 ·refine⟨(999999999-(y-lm*x-carry)) / 1000000000,y-lm*x-carry+(999999999-(y-lm*x-carry)) / 1000000000*1000000000,?_,by omega,by omega,by omega,by omega,by omega⟩;unfold z7;rw[dz (by simp;omega),cL,dw,U];simp only[dC,dx];rw[cL,aY];simp only[dx,e];rw[dz (by simpa using cv),cL,q7 (n:=i) (by omega),c7 (x:=999999999-(y-lm*x-carry)),qm (by omega),c7 (x:=(999999999-(y-lm*x-carry)) / 1000000000),c7 (x:=(999999999-(y-lm*x-carry)) / 1000000000*1000000000),c7]
 refine⟨0,y-lm*x-carry,?_,by omega,by omega,by omega,by omega,by omega⟩;unfold z7;rw[dz (by simp;omega),cL,dw,U];simp only[dC,dx];rw[cL,aY];simp only[dx,e];rw[dB (by simpa using cv),cL,q7 (n:=i) (by omega)]
theorem aiF {v row:ar}{cj pX:Nat}{lm:Int}(bh:dj v)(ak:dj row)(aO:0<=lm/\lm<1000000000)(hu:v.length<pX)(aZ:cj+v.length<row.length)(a2:row.length<=5000000):
 ∃r,VQ cj pX v lm v.length 0 0 row=some r/\0<=r.1/\r.1<1000000000/\dj r.2/\r.2.length=row.length/\V r.2=V row-lm*B cj*V v+r.1*B (cj+v.length)/\ ∀i,i<cj\/cj+v.length<=i->r.2[i]? = row[i]? := by
 refine kR (fG:=fun w:Int×Int×ar=> ∃(i:Nat),w.2.1=(i:Int)/\i<=v.length/\0<=w.1/\w.1<1000000000/\dj w.2.2/\w.2.2.length=row.length/\V w.2.2=V row-lm*B cj*V (v.take i)+w.1*B (cj+i)/\ ∀i,i<cj\/cj+v.length<=i->w.2.2[i]? = row[i]?) (m:=fun w:Int×Int×ar=>v.length-w.2.1.toNat) _ ?_ _ ⟨0,rfl,by omega,by simp,by simp,ak,rfl,by simp[V],fun _ _=>rfl⟩;rintro⟨carry,ii,eD⟩ ⟨i,h1,aa,pI,p5,mV,hlen,hV,oi⟩;simp only at h1 pI p5 mV hlen hV oi ⊢;subst h1;by_cases Fq:i=v.length
 ·subst Fq;exact .inr ⟨(carry,eD),by simp[z7],pI,p5,mV,hlen,by simpa using hV,oi⟩
 have U:=dy (show i<v.length by omega);have aY:=dy (show cj+i<eD.length by omega);obtain⟨c,z,he,cr,a6,fH,mn,cK⟩:=aiE (pX:=pX) U aY (bh.get U) (mV.get aY) aO ⟨pI,p5⟩ (by omega) (by omega);rw[he];refine .inl ⟨_,rfl,⟨i+1,rfl,by omega,cr,a6,mV.set ⟨fH,mn⟩,by simpa using hlen,?_,fun k a4=> ?_⟩,by simp;omega⟩
 ·simp only;rw[wG aY,xu U,hV,<- Nat.add_assoc,pi,Ig];have wP:z=eD[cj+i]-lm*v[i]-carry+1000000000*c:=(by omega);rw[wP];grind
 simp only;rw[List.getElem?_set_ne (by omega)];exact oi k a4
theorem als {v row:ar}{cj pX:Nat}{lm:Int}(bh:dj v)(ak:dj row)(aO:0<=lm/\lm<1000000000)(hu:v.length<pX)(aZ:cj+v.length<row.length)(a2:row.length<=5000000):
 ∃y e8,Hp v lm cj pX row=some (decide (y<0),e8)/\e8.length=row.length/\sB (cj+v.length) e8/\e8[cj+v.length]? = some y/\ -1000000000<y/\y<1000000000/\V e8=V row-lm*B cj*V v/\ ∀i,i<cj\/cj+v.length<i->e8[i]? = row[i]? := by
 obtain⟨r,kq,cr,a6,mV,hlen,hV,oi⟩:=aiF bh ak aO hu aZ a2;have U:=dy (show cj+v.length<r.2.length by omega);have ms:=mV.get U;refine⟨r.2[cj+v.length]-r.1,r.2.set (cj+v.length) (r.2[cj+v.length]-r.1),?_,by simpa using hlen,(dj.toE mV _).aac,?_,by omega,by omega,?_,fun i aa=> ?_⟩
 ·unfold Hp;simp only[hS];rw[kq];simp only[dC,dx,dw];rw[cL,U];simp only[dx];rw[cL,c7,art,dz rfl,cL];rfl
 ·rw[art,dz rfl,cL]
 ·rw[wG U,hV];grind
 rw[List.getElem?_set_ne (by omega)];exact oi i (by omega)
theorem aiG {v row:ar}{cj pX:Nat}(bh:dj v)(ak:sB (cj+v.length) row)(hu:v.length<pX)(aZ:cj+v.length<row.length)(a2:row.length<=5000000):
 ∃r,VR cj pX v v.length 0 0 row=some r/\0<=r.1/\r.1<=1/\sB (cj+v.length) r.2/\r.2.length=row.length/\V r.2=V row+B cj*V v-r.1*B (cj+v.length)/\ ∀i,i<cj\/cj+v.length<=i->r.2[i]? = row[i]? := by
 refine kR (fG:=fun w:Int×Int×ar=> ∃(i:Nat),w.2.1=(i:Int)/\i<=v.length/\0<=w.1/\w.1<=1/\sB (cj+v.length) w.2.2/\w.2.2.length=row.length/\V w.2.2=V row+B cj*V (v.take i)-w.1*B (cj+i)/\ ∀i,i<cj\/cj+v.length<=i->w.2.2[i]? = row[i]?) (m:=fun w:Int×Int×ar=>v.length-w.2.1.toNat) _ ?_ _ ⟨0,rfl,by omega,by simp,by simp,ak,rfl,by simp[V],fun _ _=>rfl⟩;rintro⟨carry,ii,eD⟩ ⟨i,h1,aa,pI,p5,mV,hlen,hV,oi⟩;simp only at h1 pI p5 mV hlen hV oi ⊢;subst h1;by_cases Fq:i=v.length
 ·subst Fq;exact .inr ⟨(carry,eD),by simp[DP],pI,p5,mV,hlen,by simpa using hV,oi⟩
 have U:=dy (show i<v.length by omega);have aY:=dy (show cj+i<eD.length by omega);have ms:=bh.get U;have r5:=mV _ _ (by omega) aY;have he:DP cj pX v v.length carry i eD=some (.inl ((eD[cj+i]+v[i]+carry) / 1000000000,((i+1:Nat):Int),eD.set (cj+i) ((eD[cj+i]+v[i]+carry) % 1000000000))):=by unfold DP;rw[dz (by simp;omega),cL,dw,U];simp only[dC,dx];rw[cL,aY];simp only[dx];rw[cL,c7 (x:=eD[cj+i]+v[i]),c7 (x:=eD[cj+i]+v[i]+carry),uo (by omega),qm (by omega),c7,q7 (n:=i) (by omega)]
 rw[he];refine .inl ⟨_,rfl,⟨i+1,rfl,by omega,by simp only;omega,by simp only;omega,mV.set (by omega),by simpa using hlen,?_,fun k a4=> ?_⟩,by simp;omega⟩
 ·simp only;rw[wG aY,xu U,hV,<- Nat.add_assoc,pi,Ig];have:=Int.mul_ediv_add_emod (eD[cj+i]+v[i]+carry) 1000000000;generalize (eD[cj+i]+v[i]+carry) / 1000000000=q at *;generalize (eD[cj+i]+v[i]+carry) % 1000000000=t at *;have wP:t=eD[cj+i]+v[i]+carry-1000000000*q:=(by omega);rw[wP];grind
 simp only;rw[List.getElem?_set_ne (by omega)];exact oi k a4
theorem alt {v row:ar}{cj pX:Nat}{y:Int}(bh:dj v)(ak:sB (cj+v.length) row)(hu:v.length<pX)(aZ:cj+v.length<row.length)(a2:row.length<=5000000)(aY:row[cj+v.length]? = some y)(r5:-1000000000<y)(Ju:y<1000000000):
 ∃oz e8,Ev v cj pX row=some e8/\e8.length=row.length/\sB (cj+v.length) e8/\e8[cj+v.length]? = some oz/\V e8=V row+B cj*V v/\ ∀i,i<cj\/cj+v.length<i->e8[i]? = row[i]? := by
 obtain⟨r,kq,cr,a6,mV,hlen,hV,oi⟩:=aiG bh ak hu aZ a2;have U:r.2[cj+v.length]? = some y:=by rw[oi _ (by omega)];exact aY
 refine⟨y+r.1,r.2.set (cj+v.length) (y+r.1),?_,by simpa using hlen,mV.aac,?_,?_,fun i aa=> ?_⟩
 ·unfold Ev;simp only[hS];rw[kq];simp only[dC,dx,dw];rw[cL,U];simp only[dx];rw[cL,c7]
 ·rw[art,dz rfl,cL]
 ·rw[wG U,hV];grind
 rw[List.getElem?_set_ne (by omega)];exact oi i (by omega)
theorem ajU {g q v1 v2 top jh rest a7 W P:Int}(gZ:1<=P)(d6:0<=g)(cv:g*v1+rest=top)(zB:P*(v1*1000000000+v2)<=W)(Rl:a7<P*(top*1000000000+jh+1))(aaT:q*W<=a7)(hW:0<=W)(h:rest*1000000000+jh<g*v2):q<g:=by
 apply Int.not_le.mp;intro zC;have h1:g*W<=q*W:=Int.mul_le_mul_of_nonneg_right zC hW;have h2:g*(P*(v1*1000000000+v2))<=g*W:=dL zB d6;have R:g*(P*(v1*1000000000+v2))=P*(g*(v1*1000000000+v2)):=by grind
 have aj:P*(g*(v1*1000000000+v2))<P*(top*1000000000+jh+1):=by omega
 have aq:=Int.lt_of_mul_lt_mul_left aj (by omega);have aM:g*(v1*1000000000+v2)=1000000000*(g*v1)+g*v2:=by grind
 omega
theorem Xw {g v1 v2 top jh rest a7 W P:Int}(gZ:1<=P)(d6:0<=g)(zD:g<=999999999)(yd:1<=v1)(Jz:0<=v2)(cv:g*v1+rest=top)(zB:P*(v1*1000000000+v2)<=W)(MN:W<P*(v1*1000000000+v2+1))(MM:P*(top*1000000000+jh)<=a7)(h:g*v2<=rest*1000000000+jh):g<=a7 / W+1:=by
 have JA:P*1000000000<=W:=by have h1:P*1000000000<=P*(v1*1000000000+v2):=dL (by omega) (by omega);omega
 have h1:g*W<=g*(P*(v1*1000000000+v2+1)):=dL (by omega) d6;have h2:g*(P*(v1*1000000000+v2+1))=P*(1000000000*(g*v1)+g*v2+g):=by grind
 have R:P*(1000000000*(g*v1)+g*v2+g)<=P*(top*1000000000+jh+999999999):=dL (by omega) (by omega);have aj:P*(top*1000000000+jh+999999999)=P*(top*1000000000+jh)+P*999999999:=by grind
 have aq:(g-1)*W=g*W-W:=by grind
 have:g-1<=a7 / W:=(Int.le_ediv_iff_mul_le (by omega)).2 (by omega);omega
theorem ahT {af u k3 av:ar}{N n j:Nat}{v1 v2 jh top a7 W P:Int}(a2:2<=n)(Mu:n<=5000000)(JB:j+n<N)(fY:N<=5000000)(h1:k3[n-1]? = some v1)(h2:k3[n-2]? = some v2)(R:u[j+n-2]? = some jh)
 (yd:1<=v1/\v1<1000000000) (Jz:0<=v2/\v2<1000000000) (aqB:0<=jh/\jh<1000000000) (gZ:1<=P) (zB:P*(v1*1000000000+v2)<=W) (MN:W<P*(v1*1000000000+v2+1)) (MM:P*(top*1000000000+jh)<=a7) (Rl:a7<P*(top*1000000000+jh+1)) (ee:0<=a7) (Rm:a7<1000000000*W) (pN:0<=top) (aqC:top<=v1*1000000000+999999999) (a0:a7 / W<=top / v1) :
 ∃g,Wc N n n j af u k3 av (top / v1) (top % v1)=some g/\(a7 / W=g\/a7 / W+1=g)/\0<=g/\g<=999999999:=by
 have JA:0<W:=by have h1:P*1000000000<=P*(v1*1000000000+v2):=dL (by omega) (by omega);omega
 have oM:0<=a7 / W:=Int.ediv_nonneg ee (by omega);have rS:a7 / W<1000000000:=Int.ediv_lt_of_lt_mul JA Rm;have aaT:a7 / W*W<=a7:=Int.ediv_mul_le _ (by omega);have anT:=Int.mul_ediv_add_emod top v1;have rj:=Int.emod_nonneg top (b:=v1) (by omega);have sK:=Int.emod_lt_of_pos top (b:=v1) (by omega);have Qv:J ((n:Int)-1)=((n-1:Nat):Int):=by rw[c7];omega
 have amG:J ((n:Int)-2)=((n-2:Nat):Int):=by rw[c7];omega
 have amH:J (J ((j:Int)+(n:Int))-2)=((j+n-2:Nat):Int):=by rw[c7 (x:=(j:Int)+n),c7];omega
 have Mi:top / v1<=top:=Int.ediv_le_self _ pN;refine kR (fG:=fun w:Int×Int=>w.1*v1+w.2=top/\0<=w.2/\w.2<1000000000/\a7 / W<=w.1/\w.1<=top) (m:=fun w:Int×Int=>w.1.toNat) _ ?_ _ ⟨by rw[Int.mul_comm];exact anT,rj,by simp only;omega,a0,Mi⟩;rintro⟨g,rest⟩ ⟨i1,i2,JP,JM,aoT⟩;simp only at i1 i2 JP JM aoT ⊢;have Rp:J (rest+v1)=rest+v1:=iw (by omega) (by omega);have Rq:J (g-1)=g-1:=iw (by omega) (by omega);have zD:(g-1)*v1+(rest+v1)=top:=by grind
 have Zo:a7 / W<=g-1->1000000000<=rest+v1->(a7 / W=g-1\/a7 / W+1=g-1)/\0<=g-1/\g-1<=999999999:=by intro k0 kh;have pB:(g-1)*v1<1000000000*v1:=(by omega);have JU:g-1<1000000000:=Int.lt_of_mul_lt_mul_right pB (by omega);have abF:0<=g-1:=(by omega);have arf:=(H2 ⟨abF,JU⟩ Jz).2;have:=Xw gZ abF (by omega) yd.1 Jz.1 zD zB MN MM (by omega);omega
 by_cases Qw:1000000000<=g
 ·by_cases aO:1000000000<=rest+v1
  ·refine .inr ⟨g-1,?_,Zo (by omega) aO⟩;unfold Aa;rw[dz (by simpa using Qw),Qv,cL,dG,dw,h1];simp only[dC,dx,Rp,Rq];rw[dz (by simpa using aO)]
  refine .inl ⟨(g-1,rest+v1),?_,⟨zD,by simp only;omega,by simp only;omega,by simp only;omega,by simp only;omega⟩,by simp only;omega⟩;unfold Aa;rw[dz (by simpa using Qw),Qv,cL,dG,dw,h1];simp only[dC,dx,Rp,Rq];rw[dB (by simpa using aO)]
 have lB:0<=g:=by omega
 obtain⟨jS,iV⟩:=H2 ⟨lB,by omega⟩ Jz;have e1:J (J (rest*1000000000)+jh)=rest*1000000000+jh:=by rw[c7 (x:=rest*1000000000),c7]
 have e2:J (g*v2)=g*v2:=iw (by omega) (by omega)
 have Qh:Aa N n n j af u k3 av g rest=some (if rest*1000000000+jh<g*v2 then (if 1000000000<=rest+v1 then .inr (g-1) else .inl (g-1,rest+v1)) else .inr g):=by
  unfold Aa;rw[dB (by simpa using Qw),amG,cL,dG,dw,h2];simp only[dC,dx];rw[amH,cL,dG,dw,R];simp only[dx,e1,e2];by_cases a1:rest*1000000000+jh<g*v2
  ·rw[dz (by simpa using a1),dz a1,Qv,cL,dG,dw,h1]
   simp only[dx,Rp,Rq];by_cases aO:1000000000<=rest+v1
   ·rw[dz (by simpa using aO),dz aO]
   rw[dB (by simpa using aO),dB aO]
  rw[dB (by simpa using a1),dB a1]
 rw[Qh];by_cases a1:rest*1000000000+jh<g*v2
 ·have aqD:=ajU gZ lB i1 zB Rl aaT (by omega) a1
  rw[dz a1];by_cases aO:1000000000<=rest+v1
  ·rw[dz aO];exact .inr ⟨g-1,rfl,Zo (by omega) aO⟩
  rw[dB aO];exact .inl ⟨(g-1,rest+v1),rfl,⟨zD,by simp only;omega,by simp only;omega,by simp only;omega,by simp only;omega⟩,by simp only;omega⟩
 rw[dB a1];have:=Xw gZ lB (by omega) yd.1 Jz.1 i1 zB MN MM (by omega);exact .inr ⟨g,rfl,by omega,by omega,by omega⟩
theorem aiH {a b:ar}{k:Nat}(h:∀i,k<=i->a[i]? = b[i]?):a.drop k=b.drop k:=by apply arw;intro i;rw[arz,arz];exact h _ (by omega)
theorem aiI {a b:ar}{k:Nat}(h:∀i,i<k->a[i]? = b[i]?):a.take k=b.take k:=by
 apply arw;intro i;rw[dS,dS];by_cases aa:i<k
 ·rw[dz aa,dz aa];exact h i aa
 rw[dB aa,dB aa]
theorem aaU {u w:ar}{j n:Nat}{y c:Int}(hlen:w.length=u.length)(JB:j+n<u.length)(fl:sB (j+n) w)(aY:w[j+n]? = some y)(oi:∀i,i<j\/j+n<i->w[i]? = u[i]?)(h0:V (u.drop (j+n+1))=0)(hV:V w=V u-c*B j):
 V (w.drop j)=V (u.drop j)-c/\ ∃low,0<=low/\low<B n/\V (w.drop j)=low+B n*y:=by
 have h1:=AU (l:=u) (n:=j) (by omega);have h2:=AU (l:=w) (n:=j) (by omega);rw[aiI (a:=w) (b:=u) (fun i aa=>oi i (.inl aa))] at h2;have R:B j*V (w.drop j)=B j*(V (u.drop j)-c):=by grind
 have gx:=qZ j;have aj:V (w.drop j)=V (u.drop j)-c:=Int.eq_of_mul_eq_mul_left (by omega) R;refine⟨aj,V ((w.drop j).take n),?_,?_,?_⟩
 ·refine pd (fun x U=> ?_);obtain⟨i,aa⟩:=List.mem_iff_getElem?.mp U;have o3:=gD aa;simp at o3;rw[dS,cL,arz] at aa;exact fl _ _ (by omega) aa
 ·have aZ:dj ((w.drop j).take n):=fun x U=>by
   obtain⟨i,aa⟩:=List.mem_iff_getElem?.mp U;have o3:=gD aa;simp at o3;rw[dS,cL,arz] at aa;exact fl _ _ (by omega) aa
  have:=pW aZ
  rwa [List.length_take,Nat.min_eq_left (by simp;omega)] at this
 have aq:=AU (l:=w.drop j) (n:=n) (by simp;omega);rw[List.drop_drop,sl aY,aiH (a:=w) (b:=u) (k:=j+n+1) (fun i aa=>oi i (.inr (by omega))),h0] at aq;rw[aq];grind
theorem Xx {w:ar}{p:Nat}(fl:sB p w)(aY:w[p]? = some 0):dj w:=fun x U=>by
 obtain⟨i,aa⟩:=List.mem_iff_getElem?.mp U;by_cases h:i=p
 ·subst h;rw[aY] at aa;have:=dJ aa;omega
 exact fl i x h aa
theorem X4 {low y X Cb W:Int}(h0:0<=low)(h1:low<Cb)(F2:X=low+Cb*y)(h2:0<=X)(R:X<W)(aj:W<=Cb):y=0:=by
 have eS:Cb*y<Cb*1:=by omega
 have aq:=Int.lt_of_mul_lt_mul_left eS (by omega);have MA:Cb*(-1)<Cb*y:=by omega
 have aM:=Int.lt_of_mul_lt_mul_left MA (by omega);omega
theorem aiJ {af u k3 av:ar}{n j:Nat}{v1 W:Int}(a2:2<=n)(Rr:n<=k3.length)(bh:dj (k3.take n))(hW:V (k3.take n)=W)(yd:k3[n-1]? = some v1)(Qx:1<=v1)(hu:dj u)(BV:u.length<=5000000)(JB:j+n<u.length)(eS:V (u.drop (j+1))<W)(aqE:j<av.length):
 ∃oc,Ab u.length n n af k3 j u av=some (.inl ((j:Int)-1,oc,av.set j (V (u.drop j) / W)))/\dj oc/\oc.length=u.length/\V oc=V u-(V (u.drop j) / W)*B j*W/\V (oc.drop j)<W/\0<=V (u.drop j) / W/\V (u.drop j) / W<1000000000:=by
 obtain⟨n,rfl⟩ : ∃m,n=m+2:=⟨n-2,by omega⟩;have tW:(k3.take (n+2)).length=n+2:=by simp;omega
 have zD:(k3.take (n+2))[n+1]? = some v1:=by rw[dS,cL];exact yd
 have aaV:=dy (show n<k3.length by omega);have aad:(k3.take (n+2))[n]? = some k3[n]:=by rw[dS,cL];exact aaV
 have amI:=bh.get zD;have amJ:=bh.get aad;have ms:=dy (show j+(n+2)<u.length by omega);have Jy:=dy (show j+(n+1)<u.length by omega);have I1:=dy (show j+n<u.length by omega);have aaW:=dy (show j<u.length by omega);have ou:=hu.get ms;have zn:=hu.get Jy;have QT:=hu.get I1;have aqF:=hu.get aaW;have ye:=wj bh (k:=n+1) (by omega);rw[HE zD (by omega),hW] at ye;have JC:=wj bh (k:=n) (by omega);rw[sl aad,HE zD (by omega),hW] at JC;have Qy:=pW bh;rw[tW,hW] at Qy;have aqG:0<=W:=by rw[<- hW];exact pd bh
 have cK:=wj (hu.drop (j+1)) (k:=n+2) (by simp;omega);rw[List.drop_drop] at cK;have anU:=pd (hu.drop (j+1+(n+2)));have aqH:=qZ (n+2);have h0:V (u.drop (j+(n+2)+1))=0:=by rw[show j+(n+2)+1=j+1+(n+2) by omega];apply Int.le_antisymm _ anU;apply Int.not_lt.mp;intro h;have:B (n+2)*1<=B (n+2)*V (u.drop (j+1+(n+2))):=dL (by omega) (by omega);omega
 have pN:V (u.drop (j+(n+2)))=u[j+(n+2)]:=by rw[sl ms,h0];omega
 have Mi:V (u.drop (j+(n+1)))=u[j+(n+1)]+1000000000*u[j+(n+2)]:=by rw[sl Jy,show j+(n+1)+1=j+(n+2) by omega,pN]
 have iz:V (u.drop (j+n))=u[j+n]+1000000000*(u[j+(n+1)]+1000000000*u[j+(n+2)]):=by rw[sl I1,show j+n+1=j+(n+1) by omega,Mi]
 have kq:=wj (hu.drop j) (k:=n+1) (by simp;omega);rw[List.drop_drop,Mi] at kq;have BW:=wj (hu.drop j) (k:=n) (by simp;omega);rw[List.drop_drop,iz] at BW;have sL:=pd (hu.drop j);have ee:V (u.drop j)<1000000000*W:=by rw[sl aaW];omega
 have anV:=qZ n;have amK:=qZ (n+1);have BF:u[j+(n+2)]<=v1:=by have h1:=wj (hu.drop (j+1)) (k:=n+1) (by simp;omega);rw[List.drop_drop,show j+1+(n+1)=j+(n+2) by omega,pN] at h1;have h2:B (n+1)*u[j+(n+2)]<B (n+1)*(v1+1):=(by omega);have:=Int.lt_of_mul_lt_mul_left h2 (by omega);omega
 have amL:=Wf amK kq.1 kq.2 ye.1 ye.2 (by omega) (by omega) ee
 obtain⟨g,d6,zC,anW,aqI⟩:=ahT (af:=af) (av:=av) (N:=u.length) (n:=n+2) (j:=j) (v1:=v1) (v2:=k3[n]) (jh:=u[j+n]) (top:=u[j+(n+1)]+1000000000*u[j+(n+2)]) (a7:=V (u.drop j)) (W:=W) (P:=B n) (u:=u) (k3:=k3) (by omega) (by omega) JB BV yd aaV I1 ⟨Qx,amI.2⟩ amJ QT anV
  (by rw[Int.mul_comm v1,Int.add_comm];exact JC.1) (by rw[Int.mul_comm v1,Int.add_comm (1000000000*v1)];exact JC.2)
  (by rw[Int.mul_comm (u[j+(n+1)]+_),Int.add_comm];exact BW.1) (by rw[Int.mul_comm (u[j+(n+1)]+_),Int.add_comm (1000000000*_) u[j+n]];exact BW.2) sL ee (by omega) (by omega) amL.2.1
 have JA:0<W:=by have:B (n+1)*1<=B (n+1)*v1:=dL (by omega) (by omega);omega
 have oM:0<=V (u.drop j) / W:=Int.ediv_nonneg sL (by omega);have rS:V (u.drop j) / W<1000000000:=Int.ediv_lt_of_lt_mul JA ee;have hm:=Int.mul_ediv_add_emod (V (u.drop j)) W;have rj:=Int.emod_nonneg (V (u.drop j)) (b:=W) (by omega);have sK:=Int.emod_lt_of_pos (V (u.drop j)) JA;obtain⟨y,w,cv,aaX,MQ,MR,r5,Ju,MS,PZ⟩:=als (v:=k3.take (n+2)) (row:=u) (cj:=j) (pX:=u.length-j) (lm:=g) bh hu ⟨anW,by omega⟩ (by omega) (by omega) BV;rw[tW] at MQ MR PZ;rw[hW] at MS;obtain⟨yc,low,qG,MT,xX⟩:=aaU (c:=g*W) aaX JB MQ MR PZ h0 (by rw[MS];grind);have anX:J ((j:Int)-1)=(j:Int)-1:=uW (by omega);have e1:J ((j:Int)+((n+2:Nat):Int))=((j+(n+2):Nat):Int):=by rw[c7];omega
 have e2:J (((j+(n+2):Nat):Int)-1)=((j+(n+1):Nat):Int):=by rw[c7];omega
 have bG:J (((n+2:Nat):Int)-1)=((n+1:Nat):Int):=by rw[c7];omega
 have cR:J (J (u[j+(n+2)]*1000000000)+u[j+(n+1)])=u[j+(n+1)]+1000000000*u[j+(n+2)]:=by rw[c7 (x:=u[j+(n+2)]*1000000000),c7];omega
 have dd:0<=u[j+(n+1)]+1000000000*u[j+(n+2)]:=by omega
 have eC:(u[j+(n+1)]+1000000000*u[j+(n+2)]) / v1<=u[j+(n+1)]+1000000000*u[j+(n+2)]:=Int.ediv_le_self _ dd;have fm:0<=(u[j+(n+1)]+1000000000*u[j+(n+2)]) / v1:=Int.ediv_nonneg dd (by omega);have amM:k3[n+1]? = some v1:=yd
 have pre:Ab u.length (n+2) ((n+2:Nat):Int) af k3 j u av =
  (if (decide (y<0))=true then
    Ev (k3.take (n+2)) j (u.length-j) w >>= fun ju=>some (.inl ((j:Int)-1,ju,av.set j (J (g-1))))
  else some (.inl ((j:Int)-1,w,av.set j g))):=by
  unfold Ab;rw[dz (by simp)];simp only[e1,e2,bG,dw,dG,anX];rw[cL,ms];simp only[dC,dx];rw[cL,Jy];simp only[dx];rw[cL,amM];simp only[dx];rw[cL,cR,qm dd,uo dd,c7,d6];simp only[dx];rw[cL,cL,cL,List.drop_zero,cv];simp only[dx];by_cases aY:y<0
  ·have bI:(decide (y<0))=true:=(by simpa using aY);simp only[dz bI];congr 1;funext r;rw[cL,cL]
  have bI : ¬(decide (y<0))=true:=(by simpa using aY);simp only[dB bI];rw[cL,cL]
 rcases zC with zC|zC
 ·subst zC;have F2:V (w.drop j)=V (u.drop j) % W:=(by rw[yc];grind);have aY:y=0:=X4 (W:=W) qG MT xX (by rw[F2];exact rj) (by rw[F2];exact sK) (Int.le_of_lt Qy);subst aY;refine⟨w,?_,Xx MQ MR,aaX,MS,by omega,oM,rS⟩;rw[pre];rfl
 have F2:V (w.drop j)=V (u.drop j) % W-W:=by rw[yc,<- zC];grind
 have aY:y<0:=by apply Int.not_le.mp;intro h;have:0<=B (n+2)*y:=Int.mul_nonneg (by omega) h;omega
 obtain⟨oz,b5,pt,aqd,Qz,QA,aae,YK⟩:=alt (v:=k3.take (n+2)) (row:=w) (cj:=j) (pX:=u.length-j) (y:=y) bh (by rw[tW];exact MQ) (by omega) (by omega) (by omega) (by rw[tW];exact MR) r5 Ju;rw[tW] at Qz QA YK;rw[hW] at aae;have aaY:V b5=V u-V (u.drop j) / W*B j*W:=by rw[aae,MS,<- zC];grind
 obtain⟨amN,aqe,amO,amP,amQ⟩:=aaU (c:=V (u.drop j) / W*W) (by omega) JB Qz QA (fun i aa=>by rw[YK i aa,PZ i aa]) h0 (by rw[aaY];grind);have aaZ:V (b5.drop j)=V (u.drop j) % W:=by rw[amN];grind
 have rk:oz=0:=X4 (W:=W) amO amP amQ (by rw[aaZ];exact rj) (by rw[aaZ];exact sK) (Int.le_of_lt Qy);subst rk;refine⟨b5,?_,Xx Qz QA,by omega,aaY,by omega,oM,rS⟩;rw[pre,dz (by simpa using aY),pt];simp only[dC,dx];rw[c7,show g-1=V (u.drop j) / W by omega]
theorem aiK {af k3 u:ar}{n m:Nat}{v1 W:Int}(a2:2<=n)(Rr:n<=k3.length)(bh:dj (k3.take n))(hW:V (k3.take n)=W)(yd:k3[n-1]? = some v1)(Qx:1<=v1)(hu:dj u)(BV:u.length<=5000000)(hm:m+n=u.length)(eS:V (u.drop m)<W):
 ∃r,Wd u.length n n af k3 ((m:Int)-1) u (List.replicate m 0)=some r/\dj r.1/\r.1.length=u.length/\V r.1<W/\dj r.2/\r.2.length=m/\V u=V r.2*W+V r.1:=by
 refine kR (fG:=fun w:Int×ar×ar=> ∃(k:Nat) (q:ar),w.1=(k:Int)-1/\k<=m/\dj w.2.1/\w.2.1.length=u.length/\w.2.2=List.replicate k 0++q/\q.length+k=m/\dj q/\V (w.2.1.drop k)<W/\V u=V w.2.1+B k*V q*W) (m:=fun w:Int×ar×ar=>(w.1+1).toNat) _ ?_ _ ⟨m,[],rfl,by omega,hu,rfl,by simp,by simp,dj.nil,eS,by simp[V]⟩;rintro⟨aoS,oc,av⟩ ⟨k,q,h1,a4,rT,hlen,R,a0,ug,QB,hV⟩;simp only at h1 rT hlen R QB hV ⊢;subst h1 R
 cases k with
 | zero =>
  refine .inr ⟨(oc,q),by simp[Ab],rT,hlen,by simpa using QB,ug,by simpa using a0,?_⟩;rw[hV];simp[B];omega
 | succ k =>
  obtain⟨aqJ,he,s1,s2,B7,aoU,aoV,aoW⟩:=aiJ (af:=af) (k3:=k3) (u:=oc) (av:=List.replicate (k+1) 0++q) (j:=k) a2 Rr bh hW yd Qx rT (by omega) (by omega) QB (by simp;omega);rw[hlen] at he;rw[show ((k+1:Nat):Int)-1=k by omega,he];refine .inl ⟨_,rfl,⟨k,V (oc.drop k) / W::q,rfl,by omega,s1,s2.trans hlen,PG _ _ _,by simp;omega,dj.cons ⟨aoV,aoW⟩ ug,aoU,?_⟩,by simp only;omega⟩;simp only;rw[hV,B7,og,pi];grind
theorem ajV {a:ar}(h:a.length<=900000):HO a=some a:=by unfold HO;rw[cL]
theorem ahU {a b q s:Int}(h:a=q*b+s)(h0:0<=s)(h1:s<b):a / b=q/\a % b=s:=by
 subst h;constructor
 ·rw[Int.add_comm,Int.add_mul_ediv_right _ _ (by omega),Int.ediv_eq_zero_of_lt h0 h1];omega
 rw[Int.add_comm,Int.add_mul_emod_self_right];exact Int.emod_eq_of_lt h0 h1
theorem Lx {a b:ar}(bH:hh a)(aO:hh b)(ou:b≠[])(a2:a.length<=900000)(hm:b.length<=900000):xq a b=some (L (V a / V b),L (V a % V b)):=by
 have l5:=xI aO ou;have Mt:=pd bH.1;unfold xq;simp only[hS];rw[OV bH aO (by omega)];simp only[dC,dx];by_cases a1:V a<V b
 ·rw[dz (by simpa using yP.2 a1),ajV a2,Int.ediv_eq_zero_of_lt Mt a1,Int.emod_eq_of_lt Mt a1,tH,Jd bH];rfl
 rw[dB (fun h=>a1 (yP.1 (by simpa using h)))];obtain⟨k,d,a4,bI,xY,MO,FR⟩:=LO aO ou;by_cases h1:b.length=1
 ·have wQ:k=0:=(by omega);subst wQ;have Rn:V b=d:=(by simpa using FR);rw[dz (by simp[h1]),cL,bI];simp only[dx];have sK:=Int.emod_nonneg (V a) (b:=d) (by omega);have Jx:=Int.emod_lt_of_pos (V a) xY;rw[We bH.1 ⟨xY,MO⟩ (by omega)];simp only[dx];rw[Ik sK (by omega),OW sK (by omega),Rn];rfl
 have hw:J ((b.length:Int)-1)=(k:Int):=by rw[c7];omega
 have e1:J (d+1)=d+1:=iw (by omega) (by omega);have FT:1<=1000000000 / (d+1):=by apply (Int.le_ediv_iff_mul_le (by omega)).2;omega
 have JD:1000000000 / (d+1)<1000000000:=by apply Int.ediv_lt_of_lt_mul (by omega);omega
 have anY:1000000000 / (d+1)*(d+1)<=1000000000:=Int.ediv_mul_le _ (by omega);have e2:J ((1000000000:Int).tdiv (d+1))=1000000000 / (d+1):=by rw[qm (by omega),c7]
 rw[dB (by simp;omega),hw,cL,dw,bI];simp only[dx,e1,e2];generalize 1000000000 / (d+1)=f at *;rw[cL];have mg:dj [f]:=dj.cons (by omega) dj.nil;have anZ:V [f]=f:=by simp[V]
 have an0:a≠[]:=by intro h;subst h;simp[V] at a1;omega
 obtain⟨pa,Cc,an1,aqK,an2,MU,aqL⟩:=W2 bH.1 mg an0 (by simp) (by omega) (by simp);obtain⟨JV,k3,an3,aqM,an4,Rs,aqN⟩:=W2 aO.1 mg ou (by simp) (by omega) (by simp);rw[anZ] at MU Rs;rw[an1];simp only[dx];simp only[List.length_singleton] at an2 an4;have aqO:=qZ k;have an5:V b*f<B b.length:=by have h2:=(wj aO.1 (k:=k) (by omega)).2;rw[FR] at h2;have R:V b*f<=(B k*(d+1)-1)*f:=Int.mul_le_mul_of_nonneg_right (by omega) (by omega);have aj:(B k*(d+1)-1)*f=B k*(f*(d+1))-f:=(by grind);have aq:B k*(f*(d+1))<=B k*1000000000:=dL anY (by omega);rw[a4,pi];omega
 have aqP:V b<=V b*f:=by have:V b*1<=V b*f:=dL FT (by omega);omega
 have aqQ:V a<=V a*f:=by have:V a*1<=V a*f:=dL FT (by omega);omega
 have Rt:0<=V b*f:=by omega
 have aa0:0<=V a*f:=by omega
 have aa1:JV=b.length:=by have h2:(k3.take JV).length=JV:=(by simp;omega);rw[Rs] at h2;have R:=(jW Rt (k:=b.length)).2 an5;have aj:=Me aO ou;have aq : ¬(L (V b*f)).length<=b.length-1:=fun h=>(by have:=(jW Rt).1 h;omega);omega
 have an6:(L (V a*f)).length=pa:=by rw[<- MU];simp;omega
 have aaf:=pW (iS (V a*f));rw[lv aa0,an6] at aaf;have aqf:a.length<=pa:=bH.len.2 (by omega);have aqR:b.length<=a.length:=Nat.le_of_not_lt fun h=>by have:=Lq bH aO h;omega
 rw[cL,dz (by simp;omega),an3];simp only[dx];have BV:(Cc.take pa++[0]).length=pa+1:=by simp;omega
 have an7:OG a JV [f] k3 (Cc.take pa++[0])=some (Cc.take pa++[0]):=by unfold OG;rw[iter];unfold Kl;simp only[hS,BV];rw[dB (by simp;omega)];rfl
 rw[an7];simp only[dx,BV];have pu:J (((pa+1:Nat):Int)-(JV:Int))=((pa+1-b.length:Nat):Int):=by rw[c7];omega
 rw[pu,cL,uW (by omega),dw];have ZQ:dj (Cc.take pa++[0]):=by rw[MU];exact(iS _).append (dj.cons (by omega) dj.nil)
 have aa2:V (Cc.take pa++[0])=V a*f:=by rw[AM,MU,lv aa0];simp[V]
 have P0:k3.take b.length=L (V b*f):=by rw[<- aa1];exact Rs
 have an8:V (k3.take b.length)=V b*f:=by rw[P0,lv Rt]
 obtain⟨eh,Cd,p6,tV,aqg,aqh,aqi⟩:=LO (kc (V b*f)) (fun h=>by have:=wH.1 h;omega);rw[<- P0] at p6 tV;have tW:(k3.take b.length).length=b.length:=by simp;omega
 have BH:k3[b.length-1]? = some Cd:=by
  rw[dS] at tV;rw[show b.length-1=eh by omega];split at tV
  ·exact tV
  simp at tV
 have amR:V ((Cc.take pa++[0]).drop (pa+1-b.length))<V b*f:=by have h2:=(wj ZQ (k:=pa+1-b.length) (by omega)).1;rw[aa2] at h2;have R:=Me aO ou;have aj:B pa=B (pa+1-b.length)*B (b.length-1):=(by rw[<- Ig];congr 1;omega);rw[aj] at aaf;have aq:B (pa+1-b.length)*V ((Cc.take pa++[0]).drop (pa+1-b.length))<B (pa+1-b.length)*B (b.length-1):=(by omega);have:=Int.lt_of_mul_lt_mul_left aq (by have:=qZ (pa+1-b.length);omega);omega
 obtain⟨r,ak,r1,r2,aX,bb,aQ,ct⟩:=aiK (af:=[f]) (m:=pa+1-b.length) (by omega) (by omega) (by rw[P0];exact iS _) an8 BH (by omega) ZQ (by omega) (by omega) amR;rw[BV] at ak r2;rw[aa1,ak];simp only[dx];rw[cL,List.drop_zero,arp (by omega),EU r1 (by omega)];simp only[dx];have Jw:=pd r1;rw[aa2] at ct;have bS:V r.1=(V a-V r.2*V b)*f:=by grind
 have an9:0<=V a-V r.2*V b:=by apply Int.not_lt.mp;intro h;have:(V a-V r.2*V b)*f<=(-1)*f:=Int.mul_le_mul_of_nonneg_right (by omega) (by omega);omega
 have yc:V a-V r.2*V b<V b:=by apply Int.lt_of_mul_lt_mul_right (a:=f) _ (by omega);omega
 obtain⟨q1,q2⟩:=ahU (a:=V a) (b:=V b) (q:=V r.2) (s:=V a-V r.2*V b) (by omega) an9 yc;rw[dz (by simp)];simp only[List.getElem?_cons_zero,dx];have Jf:(L (V r.1)).length<=pa+1:=(jW Jw).2 (by have:=pW r1;rwa [r2] at this);rw[We (iS _) ⟨by omega,JD⟩ (by omega),lv Jw];simp only[dx];rw[EU bb (by omega)];simp only[dx];rw[q1,q2,bS,Int.mul_ediv_cancel _ (by omega)]
theorem ahV {a b:ar}(bH:hh a)(aO:hh b)(a2:a.length<=900000)(hm:b.length<=900000):Hi a b=some (L (Int.gcd (V a) (V b))):=by
 have : ∃r,iter (fun w:ar×ar=>DD w.1 w.2) (a,b)=some r/\r=L (Int.gcd (V a) (V b)):=by
  refine kR (fG:=fun w:ar×ar=>hh w.1/\hh w.2/\w.1.length<=900000/\w.2.length<=900000/\Int.gcd (V w.1) (V w.2)=Int.gcd (V a) (V b)) (m:=fun w:ar×ar=>(V w.2).toNat) _ ?_ _ ⟨bH,aO,a2,hm,rfl⟩;rintro⟨x,y⟩ ⟨h1,h2,R,aj,aq⟩;simp only at h1 h2 R aj aq ⊢;have ms:=pd h1.1;have r5:=pd h2.1;by_cases aY:y=[]
  ·subst aY;refine .inr ⟨x,by simp[DD,hS],?_⟩;rw[<- aq,Fb,Lw ms];exact(Jd h1).symm
  have Ro:=xI h2 aY;have anQ:=arF.mpr aY;have BU:=Int.emod_nonneg (V x) (b:=V y) (by omega);have anR:=Int.emod_lt_of_pos (V x) Ro;refine .inl ⟨(y,L (V x % V y)),?_,⟨h2,kc _,aj,(jW BU).2 ?_,?_⟩,?_⟩
  ·unfold DD;simp only[hS];rw[dz (by simp;omega),Lx h1 h2 aY R aj];rfl
  ·have:=pW h2.1;have:=uN aj;omega
  ·simp only;rw[lv BU,<- aq];exact Pq ms
  simp only;rw[lv BU];omega
 obtain⟨r,ak,rfl⟩:=this;unfold Hi Vw;rw[ak];rfl
def hM (n:Int):bK:=⟨decide (n<0),L n.natAbs⟩
def fs (neg:Bool)(a:Int):Int:=if neg then -a else a
def mk (p:Int×Int):au:=⟨hM p.1,L p.2⟩
def o8 (p:Int×Int):eL:=⟨hM p.1,L p.2⟩
def Ru:au:=⟨⟨false,[]⟩,[]⟩
def enc:Option (Int×Int)->au
 | none=>Ru
 | some p=>mk p
def QC (x:Option (Int×Int)):arN:=x.map o8
structure Fr (p:Int×Int):Prop where
 pos:0<p.2
 aa3:Int.gcd p.1 p.2=1
 num:(p.1.natAbs:Int)<B 24
 den:p.2<B 24
theorem Pr {n:Int}:(hM n).bZ=L n.natAbs:=rfl
theorem Ps {n:Int}:(hM n).cQ=decide (n<0):=rfl
theorem Xy {n:Int}(h:0<=n):decide ((0:Int)<((L n).length:Nat))=decide (0<n):=by
 apply decide_eq_decide.2;by_cases h1:0<n
 ·have:(L n)≠[]:=fun h2=>(by have:=wH.1 h2;omega);have:=arF.mpr this;omega
 have:n=0:=by omega
 subst this;simp[tH]
theorem II {n:Int}(h:0<=n):(((L n).length:Nat):Int)=0↔n=0:=by
 constructor
 ·intro h1;have:L n=[]:=List.eq_nil_of_length_eq_zero (by omega);have:=wH.1 this;omega
 rintro rfl;simp[tH]
theorem P1 {neg:Bool}{a:Int}(h:0<=a):((fs neg a).natAbs:Int)=a:=by unfold fs;cases neg<;>simp<;>omega
theorem YL {neg:Bool}{a:Int}(h:0<=a):(⟨neg && decide (0<a),L a⟩:bK)=hM (fs neg a):=by
 unfold hM;rw[P1 h];congr 1;unfold fs;cases neg
 ·simp;omega
 simp
theorem alu {a:Int}(h:0<=a)(ve:a<B 60):Er (L a)=some (L a):=by have aZ:=(jW h).2 ve;unfold Er;rw[wi (iS _) (by omega),lv h];simp only[dC,dx,hS];rw[dB (by simp;omega)]
theorem uI {neg:Bool}{a:Int}(h:0<=a)(ve:a<B 60):ki neg (L a)=some (hM (fs neg a)):=by
 have aZ:=(jW h).2 ve;unfold ki;rw[alu h ve];simp only[dC,dx,hS,List.nil_append];have a1:(L a).length*8<=140737488355328:=by omega
 rw[<- YL h,<- Xy h];cases neg<;>simp[a1]
theorem uF {neg:Bool}{a:Int}(h:0<=a):oD neg (L a)=some (hM (fs neg a)):=by unfold oD;rw[<- YL h,hS,Xy h];cases neg<;>simp
theorem Zp {a b:Int}:fs (!(decide (a<0) == decide (b<0))) ((a.natAbs:Int)*(b.natAbs:Int))=a*b:=by
 unfold fs;by_cases bH:a<0
 ·have e1:(a.natAbs:Int) = -a:=by omega
  by_cases aO:b<0
  ·have e2:(b.natAbs:Int) = -b:=(by omega);rw[e1,e2];simp[bH,aO,Int.neg_mul,Int.mul_neg]
  have e2:(b.natAbs:Int)=b:=(by omega);rw[e1,e2];simp[bH,aO,Int.neg_mul,Int.mul_neg]
 have e1:(a.natAbs:Int)=a:=by omega
 by_cases aO:b<0
 ·have e2:(b.natAbs:Int) = -b:=(by omega);rw[e1,e2];simp[bH,aO,Int.neg_mul,Int.mul_neg]
 have e2:(b.natAbs:Int)=b:=by omega
 rw[e1,e2];simp[bH,aO,Int.neg_mul,Int.mul_neg]
theorem EV {a b:Int}:fs (decide (a<0)) ((a.natAbs:Int)*b)=a*b:=by
 unfold fs;by_cases bH:a<0
 ·have e1:(a.natAbs:Int) = -a:=(by omega);rw[e1];simp[bH,Int.neg_mul,Int.mul_neg]
 have e1:(a.natAbs:Int)=a:=by omega
 rw[e1];simp[bH,Int.neg_mul,Int.mul_neg]
theorem X5 {a c:Int}:nt (-c) (-a)=nt a c:=by
 unfold nt;by_cases h:a<c
 ·have : -c < -a:=(by omega);simp[h,this]
 by_cases h2:c<a
 ·have R : ¬ -c < -a:=(by omega);have aj : -a < -c:=(by omega);simp[h,h2,R,aj]
 have R : ¬ -c < -a:=by omega
 have aj : ¬ -a < -c:=by omega
 simp[h,h2,R,aj]
theorem aiL {a c:Int}(bH:(L a.natAbs).length<=5000000)(a1:(L c.natAbs).length<=5000000):Hm (hM a) (hM c)=some (nt a c):=by
 unfold Hm;simp only[Ps,Pr,decide_eq_true_eq];by_cases h1:a<0
 ·by_cases h2:c<0
  ·rw[dz h1,dz h2,xz (kc _) (kc _) a1,gP,gP,show (c.natAbs:Int) = -c by omega,show (a.natAbs:Int) = -a by omega,X5];rfl
  rw[dz h1,dB h2];unfold nt;rw[cL]
 by_cases h2:c<0
 ·rw[dB h1,dz h2];unfold nt;rw[eR,cL]
 rw[dB h1,dB h2,xz (kc _) (kc _) bH,gP,gP];show some (nt _ _)=_;congr 2<;>omega
theorem ae1 {a c:Int}(bH:(L a.natAbs).length<=5000000)(a1:(L c.natAbs).length<=5000000):xa (hM a) (hM c)=some (nt a c):=by
 have bS:xa (hM a) (hM c)=if (decide (a<0) == decide (c<0))=true then (if decide (a<0)=true then (uy (L c.natAbs) (L a.natAbs)).bind (fun r=>some r) else (uy (L a.natAbs) (L c.natAbs)).bind (fun r=>some r)) else if decide (a<0)=true then some (-1) else some 1:=rfl;rw[bS,agU];by_cases h1:a<0
 ·by_cases h2:c<0
  ·rw[dz (by simp[h1,h2]),dz (by simpa using h1),xz (kc _) (kc _) a1,gP,gP,show (c.natAbs:Int) = -c by omega,show (a.natAbs:Int) = -a by omega,X5];rfl
  rw[dB (by simp[h1,h2]),dz (by simpa using h1)];unfold nt;rw[cL]
 by_cases h2:c<0
 ·rw[dB (by simp[h1,h2]),dB (by simpa using h1)];unfold nt;rw[eR,cL]
 rw[dz (by simp[h1,h2]),dB (by simpa using h1),xz (kc _) (kc _) bH,gP,gP,show (c.natAbs:Int)=c by omega,show (a.natAbs:Int)=a by omega];rfl
def fits (x:Int):Prop:=x<B 24
noncomputable instance (x:Int):Decidable (fits x):=Classical.propDecidable _
noncomputable def low (n d:Int):Option (Int×Int) :=
 if fits ((n / (Int.gcd n d:Int)).natAbs:Int)/\fits (d / (Int.gcd n d:Int)) then some (n / (Int.gcd n d:Int),d / (Int.gcd n d:Int)) else none
theorem Ly {n d:Int}(h:0<d):(0:Int)<Int.gcd n d:=by
 have:Int.gcd n d≠0:=by rw[Ne,Int.gcd_eq_zero_iff];omega
 omega
theorem YM {n d:Int}(h:0<d): ∃m e,n / (Int.gcd n d:Int)=m/\d / (Int.gcd n d:Int)=e/\n=Int.gcd n d*m/\d=Int.gcd n d*e/\0<e/\(n.natAbs:Int) / (Int.gcd n d:Int)=m.natAbs:=by
 have d6:=Ly (n:=n) h;obtain⟨m,hm⟩:=Int.gcd_dvd_left (a:=n) (b:=d);obtain⟨e,he⟩:=Int.gcd_dvd_right (a:=n) (b:=d);refine⟨m,e,?_,?_,hm,he,?_,?_⟩
 ·conv=>lhs;lhs;rw[hm]
  exact Int.mul_ediv_cancel_left _ (by omega)
 ·conv=>lhs;lhs;rw[he]
  exact Int.mul_ediv_cancel_left _ (by omega)
 ·apply Int.not_le.mp;intro h1;have:(Int.gcd n d:Int)*e<=Int.gcd n d*0:=dL h1 (by omega);omega
 have e1:(n.natAbs:Int)=Int.gcd n d*m.natAbs:=by
  conv=>lhs;rw[hm]
  rw[Int.natAbs_mul];simp
 rw[e1];exact Int.mul_ediv_cancel_left _ (by omega)
theorem H3 {a:Int}(h:0<=a):vq (L a)=some (decide (a=1)):=by
 unfold vq;simp only[hS];by_cases h1:(L a).length=1
 ·have h2:=(jW (k:=1) h).1 (by omega);have R:0<a:=(by apply Int.not_le.mp;intro aj;rw[ZP aj] at h1;simp at h1);have aq:a<1000000000:=(by simpa [B] using h2);rw[Lp ⟨R,aq⟩];by_cases aM:a=1<;>simp[aM]
 rw[dB (by simp;omega)];have:a≠1:=by rintro rfl;rw[Lp (by omega)] at h1;simp at h1
 simp[this]
theorem PH {n d:Int}(h:0<=d):Int.gcd (n.natAbs:Int) d=Int.gcd n d:=by simp[Int.gcd]
theorem P2:B 24<=B 60:=uN (by omega)
theorem O6 {neg:Bool}{m e:Int}(hm:0<=m)(he:0<=e):(if (decide ((24:Int)<((L m).length:Nat)))=true then some Ru else if (decide ((24:Int)<((L e).length:Nat)))=true then some Ru else ki neg (L m) >>= fun r=>if (([]:ar)++L e).length*8<=140737488355328 then some (⟨r,([]:ar)++L e⟩:au) else none) =
 some (enc (if fits m/\fits e then some (fs neg m,e) else none)):=by
 by_cases h1:fits m
 ·have h2:=(jW hm).2 h1
  rw[dB (by simp;omega)];by_cases R:fits e
  ·have aj:=(jW he).2 R;have:=P2;unfold fits at h1;rw[dB (by simp;omega),uI hm (by omega),dz ⟨h1,R⟩];simp only[dC,dx];rw[dz (by simp;omega)];rfl
  have aj : ¬(L e).length<=24:=fun h=>R ((jW he).1 h);rw[dz (by simp;omega),dB (fun h=>R h.2)];rfl
 have aj : ¬(L m).length<=24:=fun h=>h1 ((jW hm).1 h);rw[dz (by simp;omega),dB (fun h=>h1 h.1)];rfl
theorem Zq {neg:Bool}{p m g:Int}(ai:0<=p)(d6:0<g)(hm:fs neg p=g*m):fs neg (m.natAbs:Int)=m:=by
 unfold fs at hm ⊢;cases neg
 ·simp at hm ⊢;have:0<=m:=(by apply Int.not_lt.mp;intro h1;have:g*m<=g*(-1):=dL (by omega) (by omega);omega);omega
 simp at hm ⊢;have:m<=0:=by apply Int.not_lt.mp;intro h1;have:g*1<=g*m:=dL (by omega) (by omega);omega
 omega
theorem O7 {neg:Bool}{p q:Int}(ai:0<=p)(a0:0<q)(aa4:(L p).length<=900000)(ug:(L q).length<=900000):rB neg (L p) (L q)=some (enc (low (fs neg p) q)):=by
 obtain⟨m,e,h1,h2,R,aj,aq,aM⟩:=YM (n:=fs neg p) a0;have t0:=Zq ai (Ly (n:=fs neg p) a0) R;rw[P1 ai] at aM;have d6:Int.gcd p q=Int.gcd (fs neg p) q:=by rw[<- PH (n:=fs neg p) (by omega),P1 ai]
 have aqS:=Ly (n:=fs neg p) a0;unfold rB;rw[wi (iS _) (by omega),lv ai];simp only[dC,dx];rw[wi (iS _) (by omega),gP];simp only[dx,hS];have oM : ¬((((L q).length:Nat):Int) == 0)=true:=by simp only[beq_iff_eq];intro h;have:=(II (n:=q) (by omega)).1 h;omega
 rw[dB oM,H3 (by omega)];simp only[dx];have Bu:low (fs neg p) q=if fits (m.natAbs:Int)/\fits e then some (fs neg (m.natAbs:Int),e) else none:=by unfold low;rw[h1,h2,t0]
 have ZR:Int.gcd (fs neg p) q=1->(m.natAbs:Int)=p/\e=q:=by intro hu;rw[hu] at h2 aM;simp at h2 aM;omega
 by_cases rS:q=1
 ·have hu:Int.gcd (fs neg p) q=1:=(by rw[rS];simp);obtain⟨k9,nP⟩:=ZR hu;rw[dz (by simpa using rS),Bu,k9,nP];exact O6 ai (by omega)
 rw[dB (by simpa using rS),Zn (kc _) (kc _) aa4 ug,lv ai,gP];simp only[dx];rw[H3 (by omega)];simp only[dx];by_cases hu:Int.gcd p q=1
 ·obtain⟨k9,nP⟩:=ZR (by omega);rw[dz (by simp;omega),Bu,k9,nP];exact O6 ai (by omega)
 rw[dB (by simp;omega)];have JE:(L (Int.gcd p q)).length<=900000:=by have ba:(Int.gcd p q:Int)<=q:=(by rw[d6];have:(Int.gcd (fs neg p) q:Int)*1<=Int.gcd (fs neg p) q*e:=dL (by omega) (by omega);omega);apply (jW (by omega)).2;have:=(jW (n:=q) (by omega)).1 ug;omega
 have JF:L (Int.gcd p q)≠[]:=fun h=>by have:=wH.1 h;omega
 rw[div_eq (kc _) (kc _) JF aa4 JE,lv ai,gP];simp only[dx];rw[div_eq (kc _) (kc _) JF ug JE,gP,gP];simp only[dx];rw[d6,aM,h2,Bu];exact O6 (by omega) (by omega)
theorem Fr.rP {p:Int×Int}(h:Fr p):(L p.1.natAbs).length<=24:=(jW (by omega)).2 h.num
theorem Fr.rc {p:Int×Int}(h:Fr p):(L p.2).length<=24:=(jW (by have:=h.pos;omega)).2 h.den
theorem amd (m n:Nat):B m*B n=B (m+n):=(Ig m n).symm
theorem yQ {x y:Int}{m n:Nat}(U:0<=x)(aY:0<=y)(h1:x<B m)(h2:y<B n):(L (x*y)).length<=m+n:=by
 apply (jW (Int.mul_nonneg U aY)).2;rw[<- amd];have R:x*y<=(B m-1)*(B n-1):=Int.mul_le_mul (by omega) (by omega) aY (by omega);have aj:(B m-1)*(B n-1)=B m*B n-B m-B n+1:=by grind
 have aq:=qZ m;have aM:=qZ n;omega
theorem ahW (r s:au){a b:Int}(bH:0<=a)(aO:0<b)(h1:kb r.bQ.bZ s.bQ.bZ=some (L a))(h2:kb r.cC s.cC=some (L b))(R:(L a).length<=900000)(aj:(L b).length<=900000):xl r s=some (enc (low (fs (!(r.bQ.cQ == s.bQ.cQ)) a) b)):=by unfold xl;rw[h1];simp only[dC,dx];rw[h2];simp only[dx];rw[O7 bH aO R aj];simp only[dx]
theorem aiM {p q:Int×Int}(ai:Fr p)(a0:Fr q):xl (mk p) (mk q)=some (enc (low (p.1*q.1) (p.2*q.2))):=by
 have h1:=ai.rP;have h2:=ai.rc;have R:=a0.rP;have aj:=a0.rc;have aq:=ai.pos;have aM:=a0.pos;have ba:=yQ (x:=p.1.natAbs) (y:=q.1.natAbs) (by omega) (by omega) ai.num a0.num;have bj:=yQ (x:=p.2) (y:=q.2) (by omega) (by omega) ai.den a0.den;have e1:kb (L p.1.natAbs) (L q.1.natAbs)=some (L ((p.1.natAbs:Int)*q.1.natAbs)):=by rw[mul_eq (iS _) (iS _) (by omega) (by omega),gP,gP]
 have e2:kb (L p.2) (L q.2)=some (L (p.2*q.2)):=by rw[mul_eq (iS _) (iS _) (by omega) (by omega),gP,gP]
 have:=ahW (mk p) (mk q) (a:=(p.1.natAbs:Int)*q.1.natAbs) (b:=p.2*q.2) (Int.mul_nonneg (by omega) (by omega)) (Int.mul_pos aq aM) e1 e2 (by omega) (by omega);rw[this];have bG:fs (!((mk p).bQ.cQ == (mk q).bQ.cQ)) ((p.1.natAbs:Int)*q.1.natAbs)=p.1*q.1:=Zp;rw[bG]
theorem aiN {n d:Int}(bI:0<d)(I5:(L n.natAbs).length<=900000)(Rv:(L d).length<=900000):vt (hM n) (L d)=some (some (o8 (n / (Int.gcd n d:Int),d / (Int.gcd n d:Int)))):=by
 obtain⟨m,e,h1,h2,R,aj,aq,aM⟩:=YM (n:=n) bI;have d6:=Ly (n:=n) bI;rw[h1,h2];unfold vt;simp only[Pr,Ps,hS];by_cases a2:n=0
 ·subst a2;have aoa:(Int.gcd 0 d:Int)=d:=(by rw[Int.gcd_comm,Lw (by omega)]);rw[aoa] at R aj;have hm:m=0:=(by rcases Int.mul_eq_zero.1 R.symm with h|h<;>omega);have he:e=1:=(by have:d*e=d*1:=(by omega);exact Int.eq_of_mul_eq_mul_left (by omega) this);subst hm he;rw[dz (by simp[tH])];unfold o8 hM;simp only[Int.natAbs_zero];rw[Lp (x:=1) (by omega),show ((0:Nat):Int)=0 from rfl,tH];rfl
 have amS : ¬((((L n.natAbs).length:Nat):Int) == 0)=true:=by simp only[beq_iff_eq];intro h;have:=(II (n:=n.natAbs) (by omega)).1 h;omega
 rw[dB amS,ahV (kc _) (kc _) I5 Rv,gP,gP,PH (by omega)];simp only[dC,dx];have JE:(L (Int.gcd n d)).length<=900000:=by have ba:(Int.gcd n d:Int)<=d:=Int.le_of_dvd bI (Int.gcd_dvd_right ..);apply (jW (by omega)).2;have:=(jW (n:=d) (by omega)).1 Rv;omega
 rw[OV (kc _) (hh.one (by omega)) (by omega),gP,show V [1]=1 by decide];simp only[dx];by_cases hu:(Int.gcd n d:Int)=1
 ·rw[dz (by simpa using Xv.2 hu)];rw[hu] at R aj;rw[Int.one_mul] at R aj;subst R aj;rfl
 rw[dB (fun h=>hu (Xv.1 (by simpa using h)))];have JF:L (Int.gcd n d)≠[]:=fun h=>by have:=wH.1 h;omega
 rw[Lx (kc _) (kc _) JF I5 JE,gP,gP];simp only[dx];rw[Lx (kc _) (kc _) JF Rv JE,gP,gP];simp only[dx];rw[aM,h2,uF (by omega)];simp only[dx];have bS:fs (decide (n<0)) (m.natAbs:Int)=m:=by refine Zq (p:=n.natAbs) (g:=Int.gcd n d) (by omega) d6 ?_;rw[<- R];unfold fs;by_cases h:n<0<;>simp[h]<;>omega
 rw[bS];rfl
theorem alv {m e:Int}(he:0<=e):EL (some (o8 (m,e)))=some (QC (if fits (m.natAbs:Int)/\fits e then some (m,e) else none)):=by
 have bS:EL (some (o8 (m,e)))=if (decide ((24:Int)<aE eI (L m.natAbs)))=true then some none else if (decide ((24:Int)<aE eI (L e)))=true then some none else some (some (o8 (m,e))):=rfl;rw[bS,hS,hS];by_cases h1:fits (m.natAbs:Int)
 ·have h2:=(jW (by omega)).2 h1
  rw[dB (by simp;omega)];by_cases R:fits e
  ·have aj:=(jW he).2 R;rw[dB (by simp;omega),dz ⟨h1,R⟩];rfl
  have aj : ¬(L e).length<=24:=fun h=>R ((jW he).1 h);rw[dz (by simp;omega),dB (fun h=>R h.2)];rfl
 have aj : ¬(L m.natAbs).length<=24:=fun h=>h1 ((jW (by omega)).1 h);rw[dz (by simp;omega),dB (fun h=>h1 h.1)];rfl
theorem Xz {a b:Int}(bH:(L a.natAbs).length<=900000)(aO:(L b.natAbs).length<=900000):se (hM a) (hM b)=some (hM (a*b)):=by unfold se;simp only[Pr,Ps];rw[Ld (iS _) (iS _) (by omega) (by omega),gP,gP];simp only[dC,dx];rw[uF (Int.mul_nonneg (by omega) (by omega)),Zp];rfl
theorem YN:(1000000000000000000000000000:Int)<=B 24:=by
 have h:B 3<=B 24:=uN (by omega);have R:B 3=1000000000000000000000000000:=by decide
 omega
theorem akF:(1000000000000000000000000000:Int)<=B 60:=by have:=P2;have:=YN;omega
theorem ahm {n:Int}(h:nV n):GX n=some (hM n):=by
 obtain⟨h1,h2⟩:=m2.1 h;have aO:=akF;unfold GX;by_cases hm:n = -9223372036854775808
 ·rw[dz (by simpa using hm)];have e:([854775808,223372036,9]:ar)=L 9223372036854775808:=zd ⟨by intro x U;simp at U;omega,by simp⟩ (by decide);rw[e,uI (by omega) (by omega)];subst hm;rfl
 rw[dB (by simpa using hm)];by_cases a2:n<0
 ·rw[dz (by simpa using a2),c7,EM (by omega) (by omega)];simp only[dC,dx];rw[uI (by omega) (by omega)];simp only[dx];congr 2;unfold fs;simp
 rw[dB (by simpa using a2),EM (by omega) (by omega)];simp only[dC,dx];rw[uI (by omega) (by omega)];simp only[dx];congr 2
theorem W5 {n:Int}(h:nV n):rA n=some (hM n):=by
 obtain⟨h1,h2⟩:=m2.1 h;unfold rA;by_cases a2:n<0
 ·rw[dz (by simpa using a2),c7 (x:=n+1),c7 (x:=0-(n+1)),Ik (x:=0-(n+1)) (by omega) (by omega),Ik (by omega) (by omega),OW (by omega) (by omega)];simp only[dC,dx];rw[uF (by omega)];simp only[dx];congr 2;unfold fs;simp;omega
 rw[dB (by simpa using a2),Ik (by omega) (by omega),OW (by omega) (by omega)];simp only[dC,dx];rw[uF (by omega)];simp only[dx];congr 2
theorem Qi:L 1=[1]:=Lp (by omega)
theorem agu {n:Int}(h:nV n):qo n=some (mk (n,1)):=by unfold qo;rw[ahm h];simp only[dC,dx,mk,Qi]
theorem ajW {n:Int}(h:nV n):yJ n=some (some (o8 (n,1))):=by unfold yJ;rw[W5 h];simp only[dC,dx,o8,Qi]
theorem alw {n:Int}(h:nV n):Fr (n,1):=by obtain⟨h1,h2⟩:=m2.1 h;have aO:=YN;exact⟨by simp,by simp,by simp only;omega,by simp only;omega⟩
theorem aiO {p q:Int×Int}(ai:Fr p)(a0:Fr q):Au (mk p) (mk q)=some (nt (p.1*q.2) (q.1*p.2)):=by
 have h1:=ai.rP;have h2:=ai.rc;have R:=a0.rP;have aj:=a0.rc;have aq:=ai.pos;have aM:=a0.pos;have ba:=yQ (x:=p.1.natAbs) (y:=q.2) (by omega) (by omega) ai.num a0.den;have bj:=yQ (x:=q.1.natAbs) (y:=p.2) (by omega) (by omega) a0.num ai.den;have Ce:0<=(p.1.natAbs:Int)*q.2:=Int.mul_nonneg (by omega) (by omega);have abG:0<=(q.1.natAbs:Int)*p.2:=Int.mul_nonneg (by omega) (by omega);have lp:((p.1*q.2).natAbs:Int)=(p.1.natAbs:Int)*q.2:=by rw[Int.natAbs_mul,Int.natCast_mul];congr 1;omega
 have i9:((q.1*p.2).natAbs:Int)=(q.1.natAbs:Int)*p.2:=by rw[Int.natAbs_mul,Int.natCast_mul];congr 1;omega
 have e1:kb (mk p).bQ.bZ (mk q).cC=some (L ((p.1.natAbs:Int)*q.2)):=by show kb (L p.1.natAbs) (L q.2)=_;rw[mul_eq (iS _) (iS _) (by omega) (by omega),gP,gP]
 have e2:kb (mk q).bQ.bZ (mk p).cC=some (L ((q.1.natAbs:Int)*p.2)):=by show kb (L q.1.natAbs) (L p.2)=_;rw[mul_eq (iS _) (iS _) (by omega) (by omega),gP,gP]
 have bG:ki (mk p).bQ.cQ (L ((p.1.natAbs:Int)*q.2))=some (hM (p.1*q.2)):=by show ki (decide (p.1<0)) _=_;rw[uI Ce ((jW Ce).1 (by omega)),EV]
 have cR:ki (mk q).bQ.cQ (L ((q.1.natAbs:Int)*p.2))=some (hM (q.1*p.2)):=by show ki (decide (q.1<0)) _=_;rw[uI abG ((jW abG).1 (by omega)),EV]
 unfold Au;rw[e1,dC,dx,bG,dC,dx,e2,dC,dx,cR,dx,aiL (by rw[lp];omega) (by rw[i9];omega)];rfl
theorem XA {p:Int×Int}{d:Int}(bI:0<=d)(h1:(L p.1.natAbs).length<=900000)(h2:(L d).length<=900000):yt (some (o8 p)) (L d)=some (hM (p.1*d)):=by
 have e1:uC (o8 p).uX.bZ (L d)=some (L ((p.1.natAbs:Int)*d)):=by show uC (L p.1.natAbs) (L d)=_;rw[Ld (iS _) (iS _) (by omega) (by omega),gP,gP]
 have Ce:0<=(p.1.natAbs:Int)*d:=Int.mul_nonneg (by omega) (by omega);have bG:oD (o8 p).uX.cQ (L ((p.1.natAbs:Int)*d))=some (hM (p.1*d)):=by show oD (decide (p.1<0)) _=_;rw[uF Ce,EV]
 unfold yt;rw[dC,dx,e1,dC,dx,bG];rfl
theorem P3 {a d:Int}(bI:0<=d):((a*d).natAbs:Int)=(a.natAbs:Int)*d:=by rw[Int.natAbs_mul,Int.natCast_mul];congr 1;omega
theorem wu (n cj aa:Int):qp n cj aa=some (decide (cj<=n/\n<=aa)):=by unfold qp;by_cases h:cj<=n<;>simp[h]
theorem K2 {α β:Type}{t:Nat->α->Option β}: ∀(l:List α) (k:Nat),(∀n x,l[n]? = some x->t (k+n) x=none)->scan t k l=none
 | [],_,_=>rfl
 | x::l,k,h=>by have h0:=h 0 x rfl;simp only[Nat.add_zero] at h0;simp only[scan,h0];exact K2 l (k+1) fun n y aY=>by rw[show k+1+n=k+(n+1) by omega];exact h (n+1) y (by simpa using aY)
theorem KQ (l:ar)(h:l.length<=1048576):yG l l=some true:=by
 have h1:VV l l 0=some (.inl ()):=by have:=KY (f:=fun w=>DQ l l w) (t:=fun _ _=>none) (e:= .inl ()) l 0 (fun n x U=>by have a2:=gD U;have hw:J ((n:Int)+1)=((n+1:Nat):Int):=(by rw[c7];rfl);simp only[DQ,fh,dG,hw];simp[a2]) (by simp[DQ,fh]);rw[K2 l 0 (fun _ _ _=>rfl)] at this;exact this
 simp[yG,h1]
theorem agV (j:cN):Hj j j=some true:=by simp[Hj]
theorem agv (j:c6):G8 j j=some true:=by simp[G8]
theorem agw (l:arP)(h:l.length<=1048576):G7 l l=some true:=by
 have h1:U8 l l 0=some (.inl ()):=by have:=KY (f:=fun w=>Dm l l w) (t:=fun _ _=>none) (e:= .inl ()) l 0 (fun n x U=>by have a2:=gD U;have hw:J ((n:Int)+1)=((n+1:Nat):Int):=(by rw[c7];rfl);simp only[Dm,fh,dG,hw];simp[a2,agV]) (by simp[Dm,fh]);rw[K2 l 0 (fun _ _ _=>rfl)] at this;exact this
 simp[G7,h1]
theorem agi (l:arQ)(h:l.length<=1048576):GR l l=some true:=by
 have h1:UJ l l 0=some (.inl ()):=by have:=KY (f:=fun w=>C9 l l w) (t:=fun _ _=>none) (e:= .inl ()) l 0 (fun n x U=>by have a2:=gD U;have hw:J ((n:Int)+1)=((n+1:Nat):Int):=(by rw[c7];rfl);simp only[C9,fh,dG,hw];simp[a2,agv]) (by simp[C9,fh]);rw[K2 l 0 (fun _ _ _=>rfl)] at this;exact this
 simp[GR,h1]
theorem Vf (s:cT)(h1:s.cq.length<=1048576)(h2:s.bE.length<=1048576):D4 s s=some true:=by simp[D4,agw _ h1,agi _ h2]
theorem agW (j:cN)(left:Int)(ap:j.jl.size<=maxLen)(h0:0<=left)(h1:left<=1048576): ∃r,Hb j left=some r/\r<=left:=by
 have hm:j.jl.size<9223372036854775808:=by have:maxLen=9223372036854775807:=by decide
                                           omega
 have hw:J (left-j.jl.size)=left-j.jl.size:=iw (by omega) (by omega);unfold Hb;rw[hw];by_cases h:left-(j.jl.size:Int)<0
 ·exact⟨-1,by simp[h],by omega⟩
 exact⟨left-j.jl.size,by simp[h],by omega⟩
theorem V6 (l:arP)(left:Int)(aZ:l.length<=maxLen)(ap:∀j∈l,j.jl.size<=maxLen)(h0:0<=left)(h1:left<=1048576):
 ∃r,GS l left=some r/\r<=left/\(0<=r->l.length<=1048576):=by
 have hm:maxLen=9223372036854775807:=by decide
 have hw:J (left-(l.length:Nat))=left-(l.length:Nat):=iw (by omega) (by omega);unfold GS;simp only[fh,hw];by_cases h:left-(l.length:Int)<0
 ·exact⟨-1,by simp[h],by omega,by omega⟩
 obtain⟨r,r1,r2⟩:=kR (f:=fun w:Int×Int=>zW l w.1 w.2) (fun w=>0<=w.1/\w.1<=left/\0<=w.2/\w.2<=l.length) (fun w=>(l.length-w.2).toNat)
  (fun r=>match r with | .inl a=>a<=left | .inr _=>True) (fun w hw=>by
    obtain⟨a,i⟩:=w;simp only at hw;obtain⟨iW,nR,sQ,abH⟩:=hw;by_cases aa:i<l.length
    ·obtain⟨x,U⟩ : ∃x,l[i.toNat]? = some x:=⟨_,dy (by omega)⟩
     obtain⟨r,s1,s2⟩:=agW x a (ap x (dH U)) iW (by omega);obtain⟨a2,rfl⟩:=arr.1 U;have I8:J (i+1)=i+1:=iw (by omega) (by omega);by_cases ak:r<0
     ·right;exact⟨.inr (),by simp[zW,fh,aa,sQ,U,s1,ak],trivial⟩
     left;refine⟨(r,i+1),by simp[zW,fh,aa,sQ,U,s1,ak,I8],?_,?_⟩
     ·simp only;omega
     simp only;omega
    right;exact⟨.inl a,by simp[zW,fh,aa],by simpa using nR⟩) (left-(l.length:Nat),0) (by simp only;omega)
 have MV:UL l (left-(l.length:Nat)) 0=some r:=r1;rw[MV]
 cases r with
 | inl a=>exact⟨a,by simp[h],r2,by omega⟩
 | inr a=>exact⟨-1,by simp[h],by omega,by omega⟩
theorem VX (l:arQ)(left:Int)(aZ:l.length<=maxLen)(h0:0<=left)(h1:left<=1048576):
 ∃r,GN l left=some r/\r<=left/\(0<=r->l.length<=1048576):=by
 have hm:maxLen=9223372036854775807:=by decide
 have hw:J (left-(l.length:Nat))=left-(l.length:Nat):=iw (by omega) (by omega);unfold GN;simp only[fh,hw];by_cases h:left-(l.length:Int)<0
 ·exact⟨-1,by simp[h],by omega,by omega⟩
 exact⟨left-(l.length:Nat),by simp[h],by omega,by omega⟩
theorem afA (s:cT)(i0:pS s)(left:Int)(h0:0<=left)(h1:left<=1048576):
 ∃r,Ac s left=some r/\(0<=r->s.cq.length<=1048576/\s.bE.length<=1048576):=by
 obtain⟨⟨fw,fo⟩,bA,eE⟩:=i0;obtain⟨r,r1,r2,aX⟩:=V6 s.cq left fw (fun j ap=>(fo j ap).1) h0 h1;unfold Ac;rw[r1];by_cases h:r<0
 ·exact⟨-1,by simp[h],by omega⟩
 obtain⟨q,q1,q2,bB⟩:=VX s.bE r bA (by omega) (by omega);by_cases a0:q<0
 ·exact⟨-1,by simp[h,q1,a0],by omega⟩
 exact⟨q,by simp[h,q1,a0],fun _=>⟨aX (by omega),bB (by omega)⟩⟩
theorem wm:maxLen=9223372036854775807:=by decide
theorem ahX (n:Int):El n=qp n (-50) 50:=by rw[wu];unfold El;by_cases h : -50<=n<;>simp[h]
theorem ahn (c:Int):G4 c=some (decide (97<=c/\c<=122)):=by unfold G4;by_cases h:97<=c<;>simp[h]
theorem ahY (c:Int):He c=some (decide (48<=c/\c<=57)):=by unfold He;by_cases h:48<=c<;>simp[h]
theorem aho (s:ByteArray)(i:Int):Gs s s.size i=yq s i:=by
 unfold Gs yq;generalize ((s.data.toList.getD i.toNat 0).toNat:Int)=c;simp only[ahn,ahY,dC,dx]
 by_cases h1:i<(s.size:Int)<;>by_cases h0:0<=i<;>by_cases a:(97:Int)<=c<;>by_cases b:c<=122<;>by_cases d:i=0<;>by_cases e:c<48<;>by_cases f:57<c <;>
  simp[h1,h0,a,b,d,e,f,Int.not_lt.1,Int.not_le]<;>omega
theorem aiP (s:ByteArray):Hn s=yD s:=by
 have h:Ou s s.size 0=Kq s 0:=by unfold Ou Kq;congr 1;funext w;exact aho s w
 unfold Hn yD;rw[h];congr 1;funext r
 cases r with
 | inr a=>rfl
 | inl a =>
  simp only[wu,dC,dx];by_cases h0:s.size=0
  ·have:s=⟨#[]⟩:=by
    cases s with
    | mk d=>simp only[ByteArray.size] at h0;rw[Array.size_eq_zero_iff] at h0;rw[h0]
   subst this;have e0:(ByteArray.mk #[]).size=0:=rfl;simp[e0]
  have dX:s.toList≠(⟨#[]⟩:ByteArray).toList:=(by intro e;have aZ : ∀x:ByteArray,x.toList.length=x.size:=(by intro x;rw[ByteArray.toList_eq];rfl);have:=aZ s;rw[e,aZ] at this;exact h0 this.symm);simp only[beq_iff_eq,dX,Bool.not_eq_true',beq_eq_false_iff_ne,ne_eq,not_false_eq_true,if_true];congr 1;apply decide_eq_decide.2;omega
theorem ahp (s:ByteArray)(bS:s.size<=maxLen): ∃r,yD s=some r:=by
 have hm:=wm
 obtain⟨r,h,-⟩:=kR (f:=fun w=>yq s w) (fun i=>0<=i/\i<=s.size) (fun i=>(s.size-i).toNat) (fun _=>True) (fun i aa=>by
  obtain⟨h0,h1⟩:=aa;by_cases h2:i<(s.size:Int)
  ·have hw:J (i+1)=i+1:=iw (by omega) (by omega)
   unfold yq;generalize ((s.data.toList.getD i.toNat 0).toNat:Int)=c;have ame:0<=i+1/\i+1<=(s.size:Int):=(by omega);have pu:((s.size:Int)-(i+1)).toNat<((s.size:Int)-i).toNat:=by omega
   have key : ∀x:Option (Int⊕(Unit⊕Unit)),(x=some (.inl (i+1))\/x=some (.inr (.inr ())))->(∃eK,x=some (.inl eK)/\(0<=eK/\eK<=(s.size:Int))/\((s.size:Int)-eK).toNat<((s.size:Int)-i).toNat)\/ ∃r,x=some (.inr r)/\True:=by
    intro x U;rcases U with U|U
    ·exact .inl ⟨i+1,U,ame,pu⟩
    exact .inr ⟨_,U,trivial⟩
   apply key;simp only[h2,h0,hw,decide_true,if_true,and_self];by_cases a:(97:Int)<=c<;>by_cases b:c<=122<;>by_cases d:i=0<;>by_cases e:c<48<;>by_cases f:57<c<;>simp[a,b,d,e,f]
  exact .inr ⟨.inl (),by simp[yq,h2],trivial⟩) 0 (by omega)
 have dc:Kq s 0=some r:=h;unfold yD;rw[dc]
 cases r with
 | inl a=>exact⟨_,by simp[wu];rfl⟩
 | inr a=>exact⟨_,rfl⟩
theorem ahZ (j:cN):Hf j=tw j:=by unfold Hf tw;simp only[aiP,ahX]
theorem Wg (j:cN)(h:j.jl.size<=maxLen): ∃r,tw j=some r:=by
 obtain⟨r,ak⟩:=ahp _ h;unfold tw;simp only[ak,wu,dC,dx]
 repeat' split
 all_goals exact⟨_,rfl⟩
theorem agx (s:cT)(n:ByteArray):GL s n=Af s n:=by
 have h:Nd s.cq n (aE b9 s.cq) 0=Gw n s.cq (aE b9 s.cq) 0:=by unfold Nd Gw;congr 1
 unfold GL Af Ka;rw[h]
 cases Gw n s.cq (aE b9 s.cq) 0 with
 | none=>rfl
 | some r=>cases r<;>rfl
theorem Vx (s:cT)(n:ByteArray)(h:s.cq.length<=maxLen): ∃r,Af s n=some r:=by
 have hm:=wm
 obtain⟨r,h1,-⟩:=kR (f:=fun w=>CT n s.cq (aE b9 s.cq) w) (fun i=>0<=i/\i<=s.cq.length) (fun i=>(s.cq.length-i).toNat) (fun _=>True) (fun i aa=>by
  obtain⟨h0,h1⟩:=aa;by_cases h2:i<(s.cq.length:Int)
  ·have hw:J (i+1)=i+1:=iw (by omega) (by omega)
   obtain⟨x,U⟩ : ∃x,s.cq[i.toNat]? = some x:=⟨_,dy (by omega)⟩;unfold CT;simp only[fh,h2,h0,hw,U,decide_true,if_true,and_self,dC,dx];by_cases e:(x.jl.toList == n.toList)=true
   ·exact .inr ⟨_,by rw[dz e],trivial⟩
   exact .inl ⟨i+1,by rw[dB e],by omega,by omega⟩
  exact .inr ⟨.inl (),by simp[CT,fh,h2],trivial⟩) 0 (by omega)
 have dc:Gw n s.cq (aE b9 s.cq) 0=some r:=h1;unfold Af;rw[dc]
 cases r with
 | inl a=>exact⟨_,rfl⟩
 | inr a=>exact⟨_,rfl⟩
theorem Vy (s:cT):NI s.cq (aE b9 s.cq) s.bE 0=DI s.cq (aE b9 s.cq) s.bE 0:=by unfold NI DI;congr 1;funext w;unfold Ke wb;simp only[ahZ,agx]
theorem UK (s:cT)(i0:pS s): ∃r,DI s.cq (aE b9 s.cq) s.bE 0=some r:=by
 have hm:=wm;obtain⟨⟨fw,fo⟩,-⟩:=i0
 obtain⟨r,h1,-⟩:=kR (f:=fun w=>wb s.cq (aE b9 s.cq) s.bE w) (fun i=>0<=i/\i<=s.cq.length) (fun i=>(s.cq.length-i).toNat) (fun _=>True) (fun i aa=>by
  obtain⟨h0,h1⟩:=aa;by_cases h2:i<(s.cq.length:Int)
  ·have hw:J (i+1)=i+1:=iw (by omega) (by omega)
   obtain⟨x,U⟩ : ∃x,s.cq[i.toNat]? = some x:=⟨_,dy (by omega)⟩;obtain⟨p,ai⟩:=Wg x (fo x (dH U)).1;obtain⟨q,a0⟩:=Vx ⟨s.cq,s.bE⟩ x.jl fw;unfold wb;simp only[fh,h2,h0,hw,U,ai,a0,decide_true,if_true,and_self,dC,dx];by_cases e:p=true
   ·rw[dz e]
    by_cases e2:(q != i)=true
    ·exact .inr ⟨_,by rw[dz e2],trivial⟩
    exact .inl ⟨i+1,by rw[dB e2],by omega,by omega⟩
   exact .inr ⟨_,by rw[dB e],trivial⟩
  exact .inr ⟨.inl (),by simp[wb,fh,h2],trivial⟩) 0 (by omega)
 exact⟨r,h1⟩
def sY (jK:arP)(m:c6):Bool :=
 decide (0<=m.bR/\m.bR<jK.length/\0<=m.bP/\m.bP<jK.length/\1<=m.h5/\m.h5<=3) &&
 match jK[m.bR.toNat]?,jK[m.bP.toNat]? with
 | some a,some b=> !(a.f9 == b.f9 && a.hc == b.hc) && !(a.iZ && b.iZ)
 | _,_=>false
theorem OP (s:cT)(m:c6):Gi s m=some (sY s.cq m):=by
 unfold Gi sY;simp only[fh];by_cases h1:m.bR<0
 ·simp[h1];omega
 by_cases h2:(s.cq.length:Int)<=m.bR
 ·simp[h1,h2];omega
 by_cases R:m.bP<0
 ·simp[h1,h2,R];omega
 by_cases aj:(s.cq.length:Int)<=m.bP
 ·simp[h1,h2,R,aj];omega
 by_cases aq:m.h5<1
 ·simp[h1,h2,R,aj,aq];omega
 by_cases aM:3<m.h5
 ·simp[h1,h2,R,aj,aq,aM];omega
 obtain⟨x,U⟩ : ∃x,s.cq[m.bR.toNat]? = some x:=⟨_,dy (by omega)⟩;obtain⟨y,aY⟩ : ∃y,s.cq[m.bP.toNat]? = some y:=⟨_,dy (by omega)⟩;have a6:0<=m.bR/\m.bR<s.cq.length:=by omega
 have cw:0<=m.bP/\m.bP<s.cq.length:=by omega
 have j8:0<=m.bR/\m.bR<s.cq.length/\0<=m.bP/\m.bP<s.cq.length/\1<=m.h5/\m.h5<=3:=by omega
 rw[decide_eq_false h1,decide_eq_false h2,decide_eq_false R,decide_eq_false aj,decide_eq_false aq,decide_eq_false aM,decide_eq_true j8,dz a6,U];simp only[arA,if_false,dC,dx,Bool.true_and];rw[dz cw,aY];simp only[dx];by_cases e1:x.f9=y.f9<;>by_cases e2:x.hc=y.hc<;>by_cases FT:x.iZ=true<;>by_cases JD:y.iZ=true<;>simp[e1,e2,FT,JD]
theorem agj (jK:arP)(ha:arQ)(ap:jK.length<=6)(Mp:ha.length<=8)(i:Int):
 Gf (J (aE b9 jK-1)) ha (aE ca ha) jK i =
 (uw ha jK ha (aE ca ha) i).map (Sum.map id (Sum.map id fun _=>())):=by
 have hw:J ((jK.length:Nat)-1)=jK.length-1:=iw (by omega) (by omega);unfold Gf uw DW;simp only[fh,hw,OP,wu,dC,dx];by_cases h1:i<(ha.length:Int);rotate_left
 ·simp[h1]
 by_cases h0:0<=i;rotate_left
 ·simp[h1,h0]
 obtain⟨m,hm⟩ : ∃x,ha[i.toNat]? = some x:=⟨_,dy (by omega)⟩;simp only[h1,h0,hm,decide_true,if_true,and_self,dx];unfold sY;by_cases hA:0<=m.bR/\m.bR<=(jK.length:Int)-1;rotate_left
 ·have j8 : ¬(0<=m.bR/\m.bR<jK.length/\0<=m.bP/\m.bP<jK.length/\1<=m.h5/\m.h5<=3):=(by omega);rw[decide_eq_false hA,decide_eq_false j8];simp
 by_cases gx:0<=m.bP/\m.bP<=(jK.length:Int)-1;rotate_left
 ·have j8 : ¬(0<=m.bR/\m.bR<jK.length/\0<=m.bP/\m.bP<jK.length/\1<=m.h5/\m.h5<=3):=(by omega);rw[decide_eq_true hA,decide_eq_false gx,decide_eq_false j8];simp
 by_cases jI:1<=m.h5/\m.h5<=3
 ·obtain⟨x,U⟩ : ∃x,jK[m.bR.toNat]? = some x:=⟨_,dy (by omega)⟩;obtain⟨y,aY⟩ : ∃y,jK[m.bP.toNat]? = some y:=⟨_,dy (by omega)⟩;have a6:0<=m.bR/\m.bR<jK.length:=(by omega);have cw:0<=m.bP/\m.bP<jK.length:=(by omega);have j8:0<=m.bR/\m.bR<jK.length/\0<=m.bP/\m.bP<jK.length/\1<=m.h5/\m.h5<=3:=(by omega);rw[decide_eq_true hA,decide_eq_true gx,decide_eq_true jI,decide_eq_true j8];simp only[if_true,dx,Bool.true_and];rw[dz a6,U];simp only[dx];rw[dz cw,aY];simp only[dx];by_cases e1:x.f9=y.f9<;>by_cases e2:x.hc=y.hc<;>by_cases FT:x.iZ=true<;>by_cases JD:y.iZ=true<;>simp[e1,e2,FT,JD]
 have j8 : ¬(0<=m.bR/\m.bR<jK.length/\0<=m.bP/\m.bP<jK.length/\1<=m.h5/\m.h5<=3):=by omega
 rw[decide_eq_true hA,decide_eq_true gx,decide_eq_false jI,decide_eq_false j8];simp
theorem Un (jK:arP)(ha:arQ)(Mp:ha.length<=8): ∃r,J6 ha jK ha (aE ca ha) 0=some r/\ ∀k,r = .inr k->0<=k:=by
 exact kR (f:=fun w=>uw ha jK ha (aE ca ha) w) (fun i=>0<=i/\i<=ha.length) (fun i=>(ha.length-i).toNat) (fun r=> ∀k,r = .inr k->0<=k) (fun i aa=>by
  obtain⟨h0,h1⟩:=aa;by_cases h2:i<(ha.length:Int)
  ·have hw:J (i+1)=i+1:=iw (by omega) (by omega)
   obtain⟨x,U⟩ : ∃x,ha[i.toNat]? = some x:=⟨_,dy (by omega)⟩;unfold uw DW;simp only[fh,h2,h0,hw,U,OP,decide_true,if_true,and_self,dC,dx];by_cases e:(!sY jK x)=true
   ·exact .inr ⟨_,by rw[dz e],by intro k a4;simp at a4;omega⟩
   exact .inl ⟨i+1,by rw[dB e],by omega,by omega⟩
  exact .inr ⟨.inl (),by simp[uw,fh,h2],by intro k a4;simp at a4⟩) 0 (by omega)
theorem D5 (s:cT)(i0:pS s): ∃r,pR s=some r/\vm s=some r:=by
 unfold pR vm;by_cases h1:6<(s.cq.length:Int)
 ·exact⟨false,by simp[fh,h1],by simp[fh,h1]⟩
 by_cases h2:8<(s.bE.length:Int)
 ·exact⟨false,by simp[fh,h1,h2],by simp[fh,h1,h2]⟩
 obtain⟨r,ak⟩:=UK s i0;rw[Vy,ak];obtain⟨q,a0,oM⟩:=Un s.cq s.bE (by omega)
 have aob:TO (J (aE b9 s.cq-1)) s.bE (aE ca s.bE) s.cq 0=some (Sum.map id (fun _=>()) q) :=
  ajF (f:=fun w=>uw s.bE s.cq s.bE (aE ca s.bE) w) (Sum.map id fun _=>()) (fun _=>True) (fun _ _ _ _=>trivial)
   (fun i _=>agj s.cq s.bE (by omega) (by omega) i) 0 q a0 trivial
 simp only[F6,F8,a0,aob,dC,dx];have d1:decide ((6:Int)<aE b9 s.cq)=false:=by rw[fh];exact decide_eq_false h1
 have d2:decide ((8:Int)<aE ca s.bE)=false:=by rw[fh];exact decide_eq_false h2
 rw[d1,d2];simp only[arA,if_false]
 cases r with
 | inr a=>exact⟨false,rfl,rfl⟩
 | inl a =>
  cases q with
  | inl b=>exact⟨true,rfl,by simp⟩
  | inr k =>
   have:=oM k rfl;exact⟨false,rfl,by simp[this]⟩
theorem Ox (j:cN)(h:tw j=some true): -50<=j.f9/\j.f9<=50/\ -50<=j.hc/\j.hc<=50:=by
 unfold tw at h
 cases a2:yD j.jl with
 | none=>simp[a2] at h
 | some r =>
  simp only[a2,wu,dC,dx] at h
  cases r with
  | false=>simp at h
  | true =>
   by_cases a : -50<=j.f9/\j.f9<=50
   ·by_cases b : -50<=j.hc/\j.hc<=50
    ·omega
    simp[a,b] at h
   simp[a] at h
theorem aiQ (s:cT)(i0:pS s)(h:DI s.cq (aE b9 s.cq) s.bE 0=some (.inl ())): ∀(n:Nat) j,s.cq[n]? = some j->tw j=some true:=by
 have hm:=wm;obtain⟨⟨fw,fo⟩,-⟩:=i0
 obtain⟨r,h1,h2⟩:=kR (f:=fun w=>wb s.cq (aE b9 s.cq) s.bE w) (fun i=>0<=i/\i<=s.cq.length/\ ∀(n:Nat) j,(n:Int)<i->s.cq[n]? = some j->tw j=some true) (fun i=>(s.cq.length-i).toNat)
  (fun r=>r = .inl ()-> ∀(n:Nat) j,s.cq[n]? = some j->tw j=some true) (fun i aa=>by
  obtain⟨h0,h1,R⟩:=aa;by_cases h2:i<(s.cq.length:Int)
  ·have hw:J (i+1)=i+1:=iw (by omega) (by omega)
   obtain⟨x,U⟩ : ∃x,s.cq[i.toNat]? = some x:=⟨_,dy (by omega)⟩;obtain⟨p,ai⟩:=Wg x (fo x (dH U)).1;obtain⟨q,a0⟩:=Vx ⟨s.cq,s.bE⟩ x.jl fw;unfold wb;simp only[fh,h2,h0,hw,U,ai,a0,decide_true,if_true,and_self,dC,dx];by_cases e:p=true
   ·rw[dz e]
    by_cases e2:(q != i)=true
    ·exact .inr ⟨_,by rw[dz e2],by simp⟩
    refine .inl ⟨i+1,by rw[dB e2],⟨by omega,by omega,fun n j a2 ap=> ?_⟩,by omega⟩;by_cases c:(n:Int)<i
    ·exact R n j c ap
    have:n=i.toNat:=(by omega);subst this;rw[U] at ap;obtain rfl:=dJ ap;rw[ai,e]
   exact .inr ⟨_,by rw[dB e],by simp⟩
  refine .inr ⟨.inl (),by simp[wb,fh,h2],fun _ n j ap=>R n j (by have:=gD ap;omega) ap⟩) 0 ⟨by omega,by omega,fun n j a2=>by omega⟩
 have u3:DI s.cq (aE b9 s.cq) s.bE 0=some r:=h1;rw[h] at u3;exact h2 (dJ u3).symm
theorem ah0 (jK:arP)(ha:arQ)(Mp:ha.length<=8)(h:J6 ha jK ha (aE ca ha) 0=some (.inl ())): ∀(n:Nat) m,ha[n]? = some m->sY jK m=true:=by
 obtain⟨r,h1,h2⟩:=kR (f:=fun w=>uw ha jK ha (aE ca ha) w) (fun i=>0<=i/\i<=ha.length/\ ∀(n:Nat) m,(n:Int)<i->ha[n]? = some m->sY jK m=true) (fun i=>(ha.length-i).toNat)
  (fun r=>r = .inl ()-> ∀(n:Nat) m,ha[n]? = some m->sY jK m=true) (fun i aa=>by
  obtain⟨h0,h1,R⟩:=aa;by_cases h2:i<(ha.length:Int)
  ·have hw:J (i+1)=i+1:=iw (by omega) (by omega)
   obtain⟨x,U⟩ : ∃x,ha[i.toNat]? = some x:=⟨_,dy (by omega)⟩;unfold uw DW;simp only[fh,h2,h0,hw,U,OP,decide_true,if_true,and_self,dC,dx];by_cases e:(!sY jK x)=true
   ·exact .inr ⟨_,by rw[dz e],by simp⟩
   refine .inl ⟨i+1,by rw[dB e],⟨by omega,by omega,fun n j a2 ap=> ?_⟩,by omega⟩;by_cases c:(n:Int)<i
   ·exact R n j c ap
   have:n=i.toNat:=(by omega);subst this;rw[U] at ap;obtain rfl:=dJ ap;simpa using e
  refine .inr ⟨.inl (),by simp[uw,fh,h2],fun _ n j ap=>R n j (by have:=gD ap;omega) ap⟩) 0 ⟨by omega,by omega,fun n j a2=>by omega⟩
 have u3:J6 ha jK ha (aE ca ha) 0=some r:=h1;rw[h] at u3;exact h2 (dJ u3).symm
theorem GC (s:cT)(i0:pS s)(h:pR s=some true):
 (∀(n:Nat) j,s.cq[n]? = some j->tw j=some true)/\(∀(n:Nat) m,s.bE[n]? = some m->sY s.cq m=true)/\s.cq.length<=6/\s.bE.length<=8:=by
 obtain⟨p,p1,p2⟩:=D5 s i0;rw[h] at p1;obtain rfl:=dJ p1;unfold vm at p2;by_cases h1:6<(s.cq.length:Int)
 ·simp[fh,h1] at p2
 by_cases h2:8<(s.bE.length:Int)
 ·simp[fh,h1,h2] at p2
 obtain⟨r,ak⟩:=UK s i0;rw[Vy,ak] at p2;obtain⟨q,a0,oM⟩:=Un s.cq s.bE (by omega);have d1:decide ((6:Int)<aE b9 s.cq)=false:=by rw[fh];exact decide_eq_false h1
 have d2:decide ((8:Int)<aE ca s.bE)=false:=by rw[fh];exact decide_eq_false h2
 rw[d1,d2] at p2;simp only[F6,F8,a0,arA,if_false,dC,dx] at p2
 cases r with
 | inr a=>simp at p2
 | inl a =>
  cases q with
  | inr k =>
   have:=oM k rfl;simp[this] at p2
  | inl b=>exact⟨aiQ s i0 ak,ah0 s.cq s.bE (by omega) a0,by omega,by omega⟩
def mW (s:cT):Prop:=(∀(n:Nat) j,s.cq[n]? = some j-> -50<=j.f9/\j.f9<=50/\ -50<=j.hc/\j.hc<=50)/\(∀(n:Nat) m,s.bE[n]? = some m->sY s.cq m=true)/\s.cq.length<=6/\s.bE.length<=8
theorem af2 (s:cT)(i0:pS s)(h:pR s=some true):mW s:=by obtain⟨f1,f2,f3,f4⟩:=GC s i0 h;exact⟨fun n j ap=>Ox j (f1 n j ap),f2,f3,f4⟩
theorem akG (s:cT)(h:mW s)(k:Int)(h0:0<=k)(h1:k<s.bE.length):
 ∃x y,ts s k=some (x,y)/\(-100<=x/\x<=100)/\(-100<=y/\y<=100):=by
 obtain⟨f1,f2,f3,f4⟩:=h;obtain⟨m,hm⟩ : ∃x,s.bE[k.toNat]? = some x:=⟨_,dy (by omega)⟩;have vY:=f2 _ m hm;unfold sY at vY;simp only[dO,decide_eq_true_eq] at vY;obtain⟨⟨g1,g2,g3,g4,-⟩,-⟩:=vY;obtain⟨a,bH⟩ : ∃x,s.cq[m.bR.toNat]? = some x:=⟨_,dy (by omega)⟩;obtain⟨b,aO⟩ : ∃x,s.cq[m.bP.toNat]? = some x:=⟨_,dy (by omega)⟩;have abI:=f1 _ a bH;have abJ:=f1 _ b aO;have e1:J (b.f9-a.f9)=b.f9-a.f9:=iw (by omega) (by omega);have e2:J (b.hc-a.hc)=b.hc-a.hc:=iw (by omega) (by omega);have cr:0<=k/\k<s.bE.length:=⟨h0,h1⟩;have a6:0<=m.bR/\m.bR<s.cq.length:=⟨g1,g2⟩;have cw:0<=m.bP/\m.bP<s.cq.length:=⟨g3,g4⟩;refine⟨b.f9-a.f9,b.hc-a.hc,?_,by omega,by omega⟩;unfold ts;simp only[dz cr,hm,dz a6,dz cw,bH,aO,dC,dx,e1,e2]
theorem akH (s:cT)(h:mW s)(k:Int)(h0:0<=k)(h1:k<s.bE.length){v:Int×Int}(bh:ts s k=some v):yx s k=some v:=by
 obtain⟨f1,f2,f3,f4⟩:=h;obtain⟨m,hm⟩ : ∃x,s.bE[k.toNat]? = some x:=⟨_,dy (by omega)⟩;have vY:=f2 _ m hm;unfold sY at vY;simp only[dO,decide_eq_true_eq] at vY;obtain⟨⟨g1,g2,g3,g4,-⟩,-⟩:=vY;obtain⟨a,bH⟩ : ∃x,s.cq[m.bR.toNat]? = some x:=⟨_,dy (by omega)⟩;obtain⟨b,aO⟩ : ∃x,s.cq[m.bP.toNat]? = some x:=⟨_,dy (by omega)⟩;have abI:=f1 _ a bH;have abJ:=f1 _ b aO;have e1:J (b.f9-a.f9)=b.f9-a.f9:=iw (by omega) (by omega);have e2:J (b.hc-a.hc)=b.hc-a.hc:=iw (by omega) (by omega);have cr:0<=k/\k<s.bE.length:=⟨h0,h1⟩;have a6:0<=m.bR/\m.bR<s.cq.length:=⟨g1,g2⟩;have cw:0<=m.bP/\m.bP<s.cq.length:=⟨g3,g4⟩;have ym:ts s k=some (b.f9-a.f9,b.hc-a.hc):=by unfold ts;simp only[dz cr,hm,dz a6,dz cw,bH,aO,dC,dx,e1,e2]
 rw[bh] at ym;obtain rfl:=dJ ym;unfold yx;simp only[dz cr,hm,dz a6,dz cw,bH,aO,dC,dx,e1,e2]
theorem aiR (s:cT)(i0:pS s)(h:pR s=some true)(k:Int)(h0:0<=k)(h1:k<s.bE.length):
 ∃x y,ts s k=some (x,y)/\yx s k=some (x,y)/\(-100<=x/\x<=100)/\(-100<=y/\y<=100):=by
 obtain⟨f1,f2,f3,f4⟩:=GC s i0 h;obtain⟨m,hm⟩ : ∃x,s.bE[k.toNat]? = some x:=⟨_,dy (by omega)⟩;have vY:=f2 _ m hm;unfold sY at vY;simp only[dO,decide_eq_true_eq] at vY;obtain⟨⟨g1,g2,g3,g4,-⟩,-⟩:=vY;obtain⟨a,bH⟩ : ∃x,s.cq[m.bR.toNat]? = some x:=⟨_,dy (by omega)⟩;obtain⟨b,aO⟩ : ∃x,s.cq[m.bP.toNat]? = some x:=⟨_,dy (by omega)⟩;have abI:=Ox a (f1 _ a bH);have abJ:=Ox b (f1 _ b aO);have e1:J (b.f9-a.f9)=b.f9-a.f9:=iw (by omega) (by omega);have e2:J (b.hc-a.hc)=b.hc-a.hc:=iw (by omega) (by omega);have cr:0<=k/\k<s.bE.length:=⟨h0,h1⟩;have a6:0<=m.bR/\m.bR<s.cq.length:=⟨g1,g2⟩;have cw:0<=m.bP/\m.bP<s.cq.length:=⟨g3,g4⟩;refine⟨b.f9-a.f9,b.hc-a.hc,?_,?_,by omega,by omega⟩
 ·unfold ts;simp only[dz cr,hm,dz a6,dz cw,bH,aO,dC,dx,e1,e2]
 unfold yx;simp only[dz cr,hm,dz a6,dz cw,bH,aO,dC,dx,e1,e2]
theorem ZS {j k:Int}(h0:0<=j)(h:j<k):j*j<k*k:=Int.mul_self_lt_mul_self h0 h
theorem vG {j k:Int}(h0:0<=j)(h:j<=k):j*j<=k*k:=Int.mul_self_le_mul_self h0 h
theorem X6 {x:Int}(U:-100<=x/\x<=100):x*x<=10000/\0<=x*x:=by
 rcases Int.le_total 0 x with h|h
 ·have:=vG h U.2;exact⟨by omega,Int.mul_nonneg h h⟩
 have:=vG (j:= -x) (k:=100) (by omega) (by omega);rw[Int.neg_mul_neg] at this;exact⟨by omega,Int.mul_nonneg_of_nonpos_of_nonpos h h⟩
theorem agk (s:cT)(i0:pS s)(left:Int)(h0:0<=left)(h1:left<=1048576)(q:Int)(a0:Ac s left=some q):q<=1048576:=by
 obtain⟨⟨fw,fo⟩,bA,eE⟩:=i0;obtain⟨r,r1,r2,aX⟩:=V6 s.cq left fw (fun j ap=>(fo j ap).1) h0 h1;unfold Ac at a0;rw[r1] at a0;by_cases h:r<0
 ·simp[h] at a0;omega
 obtain⟨t,t1,t2,t3⟩:=VX s.bE r bA (by omega) (by omega);by_cases cv:t<0
 ·simp[h,t1,cv] at a0;omega
 simp[h,t1,cv] at a0;omega
def H4 (r:au):Prop:=r.bQ.bZ.length<=1048576/\r.cC.length<=1048576
theorem ah1 {r:au}(h:H4 r):Hw r r=some true:=by unfold Hw Kz;simp[KQ _ h.1,KQ _ h.2]
theorem Wx (l:arI)(h:l.length<=1048576)(ak:∀r∈l,H4 r):Ew l l=some true:=by have h1:iter (fun w=>DR l l w) 0=some (if l.all (fun _=>true) then .inl () else .inr ()):=EJ l (fun _=>true) (fun n x U=>by have a2:=gD U;unfold DR;rw[fh,dz (by simp;omega),cL,dw,U];simp only[dC,dx];rw[cL,ah1 (ak x (dH U))];simp only[dx,if_true];rw[i1 (by omega)]) (by simp[DR,fh]);unfold Ew VW;rw[h1];simp
def w6 (l:ar)(n:Nat)(x:Int):Prop:=0<=x/\x<1000000000/\(∀z,l[n]? = some z->x=z)/\(l[n]? = none->x=0)
theorem Br {l:ar}(h:dj l){n:Nat}(a2:n<l.length):w6 l n l[n]:=by have U:=dy a2;have h0:=h.get U;exact⟨h0.1,h0.2,fun z cK=>by rw[U] at cK;exact dJ cK,fun h=>by rw[U] at h;simp at h⟩
theorem E2 {l:ar}{n:Nat}(a2:¬n<l.length):w6 l n 0:=by
 have U:l[n]? = none:=by simp;omega
 exact⟨by omega,by omega,fun z cK=>by rw[U] at cK;simp at cK,fun _=>rfl⟩
theorem w6.take {l:ar}{n:Nat}{x:Int}(h:w6 l n x):V (l.take (n+1))=V (l.take n)+B n*x:=X3 h.2.2.1 h.2.2.2
theorem ajX {a b row:ar}{carry:Int}{n:Nat}(bH:dj a)(aO:dj b)(a1:carry=0\/carry=1)(vQ:a.length<=1000000)(Rw:b.length<=1000000)(ak:row.length<=1000001)(Mu:n<=1000001)(a2:n<a.length\/n<b.length\/carry=1):
 ∃x y,w6 a n x/\w6 b n y/\z4 a b carry n row=some (.inl ((carry+x+y) / 1000000000,((n+1:Nat):Int),row++[(carry+x+y) % 1000000000])):=by
 have pI:0<=carry/\carry<=1:=by omega
 unfold z4;simp only[hS];by_cases h1:n<a.length
 ·have hA:=Br bH h1
  have U:=dy h1;rw[dz (by simp;omega),cL,dw,U];simp only[dC,dx];by_cases h2:n<b.length
  ·have gx:=Br aO h2;have aY:=dy h2;have fw:=hA.1;have fo:=hA.2.1;have jw:=gx.1;have kE:=gx.2.1;refine⟨a[n],b[n],hA,gx,?_⟩;rw[dz (by simp;omega),cL,aY];simp only[dx];rw[c7 (x:=carry+a[n]),c7 (x:=carry+a[n]+b[n]),uo (by omega),qm (by omega),c7,q7 (n:=n) (by omega),dz (by simp;omega)]
  have fw:=hA.1;have fo:=hA.2.1;refine⟨a[n],0,hA,E2 h2,?_⟩;rw[dB (by simp;omega),c7 (x:=carry+a[n]),uo (by omega),qm (by omega),c7,q7 (n:=n) (by omega),dz (by simp;omega),Int.add_zero]
 rw[dB (by simp;omega)];by_cases h2:n<b.length
 ·have gx:=Br aO h2;have aY:=dy h2;have jw:=gx.1;have kE:=gx.2.1;refine⟨0,b[n],E2 h1,gx,?_⟩;rw[dz (by simp;omega),cL,dw,aY];simp only[dC,dx];rw[c7 (x:=carry+b[n]),uo (by omega),qm (by omega),c7,q7 (n:=n) (by omega),dz (by simp;omega),Int.add_zero]
 refine⟨0,0,E2 h1,E2 h2,?_⟩;rw[dB (by simp;omega),dz (by simp;omega),uo (by omega),qm (by omega),c7,q7 (n:=n) (by omega),dz (by simp;omega),Int.add_zero,Int.add_zero]
theorem ajY {a b:ar}(bH:dj a)(aO:dj b)(vQ:a.length<=900000)(Rw:b.length<=900000): ∃r,Et a b=some r/\dj r/\V r=V a+V b/\r.length<=a.length+b.length+1:=by
 obtain⟨r,ak,h1,h2,R⟩:=kR (f:=fun w:Int×Int×ar=>z4 a b w.1 w.2.1 w.2.2) (fG:=fun w=> ∃n:Nat,w.2.1=n/\w.2.2.length=n/\(w.1=0\/w.1=1)/\dj w.2.2/\V w.2.2+w.1*B n=V (a.take n)+V (b.take n)/\(n<=a.length\/n<=b.length\/w.1=0)/\n<=a.length+b.length+1) (m:=fun w=>(a.length+b.length+2-w.2.1.toNat))
  (fun r=>dj r/\V r=V a+V b/\r.length<=a.length+b.length+1) (by
    rintro⟨carry,ii,row⟩ ⟨n,e1,e2,bG,cR,dd,eC,fm⟩;simp only at e1 e2 bG cR dd eC;subst e1;by_cases a2:n<a.length\/n<b.length\/carry=1
    ·obtain⟨x,y,U,aY,p3⟩:=ajX (row:=row) bH aO bG (by omega) (by omega) (by omega) (by omega) a2
     have x0:=U.1;have x1:=U.2.1;have abK:=aY.1;have fu:=aY.2.1;have Rr:n<=a.length+b.length:=(by omega);refine .inl ⟨_,p3,⟨n+1,rfl,by simp[e2],by simp only;omega,cR.append (dj.cons (by omega) dj.nil),?_,?_,by omega⟩,by simp only;omega⟩
     ·simp only;rw[AM,e2,pi,og,Fb,U.take,aY.take];have:=Int.mul_ediv_add_emod (carry+x+y) 1000000000;generalize (carry+x+y) / 1000000000=u at *;generalize (carry+x+y) % 1000000000=t at *;have cv:t=carry+x+y-1000000000*u:=(by omega);rw[cv];grind
     simp only;by_cases h:n+1<=a.length\/n+1<=b.length
     ·omega
     ·
      have aqT : ¬n<a.length:=(by omega);have aqU : ¬n<b.length:=(by omega);have j1:x=0:=U.2.2.2 (by simp;omega);have kZ:y=0:=aY.2.2.2 (by simp;omega);omega
    refine .inr ⟨row,?_,cR,?_,by omega⟩
    ·unfold z4;simp only[hS];rw[dB (by simp;omega),dB (by simp;omega),dB (by simp;omega)]
    have a1:carry=0:=(by omega);rw[a1,arp (by omega),arp (by omega)] at dd;omega) (0,0,[]) ⟨0,rfl,rfl,.inl rfl,dj.nil,by simp[V],by omega,by omega⟩
 unfold Et VE;rw[ak];exact⟨r,rfl,h1,h2,R⟩
theorem aiS {neg:Bool}{r:ar}(ak:dj r)(aZ:r.length<=5000000)(ve:V r<B 60):ki neg r=some (hM (fs neg (V r))):=by
 have h0:=pd ak;have:ki neg r=ki neg (L (V r)):=by unfold ki Er;have hlen:=(jW h0).2 ve;rw[wi ak aZ,wi (iS _) (by omega),lv h0]
 rw[this,uI h0 ve]
theorem aiT {a b row:ar}{carry:Int}{n:Nat}(bH:dj a)(aO:dj b)(a1:carry=0\/carry=1)(vQ:a.length<=1000000)(a2:n<a.length)(ak:n<row.length):
 ∃x y,w6 a n x/\w6 b n y/\DZ a b a.length carry n row=some (.inl ((carry+x+y) / 1000000000,((n+1:Nat):Int),row.set n ((carry+x+y) % 1000000000))):=by
 have pI:0<=carry/\carry<=1:=by omega
 have hA:=Br bH a2;have U:=dy a2;have fw:=hA.1;have fo:=hA.2.1;unfold DZ;simp only[hS];rw[dz (by simp;omega),cL,dw,U];simp only[dC,dx];by_cases h2:n<b.length
 ·have gx:=Br aO h2;have aY:=dy h2;have jw:=gx.1;have kE:=gx.2.1;refine⟨a[n],b[n],hA,gx,?_⟩;rw[dz (by simp;omega),cL,aY];simp only[dx];rw[cL,cL,c7 (x:=a[n]+carry),c7 (x:=a[n]+carry+b[n]),uo (by omega),qm (by omega),c7,q7 (n:=n) (by omega),dG,Int.add_comm a[n] carry]
 refine⟨a[n],0,hA,E2 h2,?_⟩;rw[dB (by simp;omega),cL,cL,c7 (x:=a[n]+carry),uo (by omega),qm (by omega),c7,q7 (n:=n) (by omega),dG,Int.add_zero,Int.add_comm a[n] carry]
theorem aiU {a b:ar}(bH:dj a)(aO:dj b)(vQ:a.length<=900000)(zt:b.length<=a.length):
 ∃r,KH a b a.length 0 0 (List.replicate (a.length+1) 0)=some r/\(r.1=0\/r.1=1)/\dj r.2/\r.2.length=a.length+1/\V r.2+r.1*B a.length=V a+V b/\r.2[a.length]? = some 0:=by
 refine kR (fG:=fun w:Int×Int×ar=> ∃n:Nat,w.2.1=n/\n<=a.length/\(w.1=0\/w.1=1)/\dj w.2.2/\w.2.2.length=a.length+1/\V w.2.2+w.1*B n=V (a.take n)+V (b.take n)/\ ∀j,n<=j->j<a.length+1->w.2.2[j]? = some 0) (m:=fun w=>a.length-w.2.1.toNat) _ ?_ _ ⟨0,rfl,by omega,.inl rfl,dj.Q6 _,by simp,by simp[V,Qd],fun j _ h=>by simp[List.getElem?_replicate];omega⟩;rintro⟨carry,ii,row⟩ ⟨n,e1,e2,bG,cR,dd,eC,fm⟩;simp only at e1 bG cR dd eC fm ⊢;subst e1;by_cases a2:n=a.length
 ·subst a2;refine .inr ⟨(carry,row),by simp[DZ],bG,cR,dd,?_,fm _ (dE _) (by omega)⟩;rw[List.take_length,arp zt] at eC;exact eC
 obtain⟨x,y,U,aY,p3⟩:=aiT (row:=row) (n:=n) bH aO bG (by omega) (by omega) (by omega);have x0:=U.1;have x1:=U.2.1;have abK:=aY.1;have fu:=aY.2.1;refine .inl ⟨_,p3,⟨n+1,rfl,by omega,by simp only;omega,cR.set (by omega),by simpa using dd,?_,fun j h1 h2=> ?_⟩,by simp only;omega⟩
 ·simp only;rw[wG (fm n (dE _) (by omega)),pi,U.take,aY.take];have:=Int.mul_ediv_add_emod (carry+x+y) 1000000000;generalize (carry+x+y) / 1000000000=u at *;generalize (carry+x+y) % 1000000000=t at *;have cv:t=carry+x+y-1000000000*u:=(by omega);rw[cv];grind
 simp only;rw[List.getElem?_set_ne (by omega)];exact fm j (by omega) h2
theorem XB {a b:ar}(bH:dj a)(aO:dj b)(vQ:a.length<=900000)(zt:b.length<=a.length):
 (if 0<=(J ((aE eI a)+(1:Int)))/\(8:Int)*(J ((aE eI a)+(1:Int)))<=281474976710656/\(J ((aE eI a)+(1:Int)))<9223372036854775808 then
   (KH a b (aE eI a) 0 0 (List.replicate (J ((aE eI a)+(1:Int))).toNat 0:ar)).bind fun aX =>
   if 0<=(aE eI a)/\(aE eI a)<aX.2.length then
   if (0+(aE eI a).toNat)<aX.2.length then
   (uE (aX.2.set (0+(aE eI a).toNat) aX.1)).bind fun bx=>some bx
   else none
   else none
   else none)=some (L (V a+V b)):=by
 obtain⟨r,ak,h1,h2,R,aj,aq⟩:=aiU bH aO vQ zt;rw[hS,q7 (by omega),cL,dw,ak,dx,cL,dw,dG,cL];have IH:dj (r.2.set a.length r.1):=h2.set (by omega);rw[EU IH (by simp;omega),wG aq,dx];congr 2;rw[<- aj];grind
theorem akI {a b:ar}(bH:dj a)(aO:dj b)(vQ:a.length<=900000)(Rw:b.length<=900000):ED a b=some (L (V a+V b)):=by
 unfold ED;by_cases h:a.length<b.length
 ·rw[dz (by rw[hS,hS];simpa using h)];have:=XB aO bH Rw (by omega);rw[Int.add_comm (V a)];exact this
 rw[dB (by rw[hS,hS];simpa using h)];exact XB bH aO vQ (by omega)
theorem ah2 {a b row:ar}{less:Int}{n:Nat}(bH:dj a)(aO:dj b)(aZ:less=0\/less=1)(vQ:a.length<=1000000)(a2:n<a.length)(ak:n<row.length):
 ∃x y,w6 a n x/\w6 b n y/\DX b a a.length less n row=some (.inl (if x-less-y<0 then (1,((n+1:Nat):Int),row.set n (x-less-y+1000000000)) else (0,((n+1:Nat):Int),row.set n (x-less-y)))):=by
 have pI:0<=less/\less<=1:=by omega
 have hA:=Br bH a2;have U:=dy a2;have fw:=hA.1;have fo:=hA.2.1;unfold DX;simp only[hS];rw[dz (by simp;omega),cL,dw,U];simp only[dC,dx];by_cases h2:n<b.length
 ·have gx:=Br aO h2
  have aY:=dy h2;have jw:=gx.1;have kE:=gx.2.1;refine⟨a[n],b[n],hA,gx,?_⟩;rw[dz (by simp;omega),cL,aY];simp only[dx];rw[c7 (x:=a[n]-less),c7 (x:=a[n]-less-b[n]),q7 (n:=n) (by omega),c7 (x:=a[n]-less-b[n]+1000000000),dG];by_cases h:a[n]-less-b[n]<0
  ·rw[dz (by simpa using h),dz h,cL,cL]
  rw[dB (by simpa using h),dB h,cL,cL]
 refine⟨a[n],0,hA,E2 h2,?_⟩;rw[dB (by simp;omega),c7 (x:=a[n]-less),q7 (n:=n) (by omega),c7 (x:=a[n]-less+1000000000),dG,Int.sub_zero];by_cases h:a[n]-less<0
 ·rw[dz (by simpa using h),dz h,cL,cL]
 rw[dB (by simpa using h),dB h,cL,cL]
theorem X7 {a b:ar}(bH:dj a)(aO:dj b)(hlen:b.length<=a.length)(zt:V b<=V a)(vQ:a.length<=900000):yI a b=some (L (V a-V b)):=by
 have : ∃r,V4 b a a.length 0 0 (List.replicate a.length 0)=some r/\dj r/\r.length=a.length/\V r=V a-V b:=by
  refine kR (fG:=fun w:Int×Int×ar=> ∃n:Nat,w.2.1=n/\n<=a.length/\(w.1=0\/w.1=1)/\dj w.2.2/\w.2.2.length=a.length/\V w.2.2-w.1*B n=V (a.take n)-V (b.take n)/\ ∀j,n<=j->j<a.length->w.2.2[j]? = some 0) (m:=fun w=>a.length-w.2.1.toNat) _ ?_ _ ⟨0,rfl,by omega,.inl rfl,dj.Q6 _,by simp,by simp[V,Qd],fun j _ h=>by simp[List.getElem?_replicate];omega⟩;rintro⟨less,ii,row⟩ ⟨n,e1,e2,bG,cR,dd,eC,fm⟩;simp only at e1 bG cR dd eC fm ⊢;subst e1;by_cases a2:n=a.length
  ·subst a2;refine .inr ⟨row,by simp[DX],cR,dd,?_⟩;rw[List.take_length,arp hlen] at eC;have h2:=pW cR;rw[dd] at h2;rcases bG with rfl|rfl<;>omega
  obtain⟨x,y,U,aY,p3⟩:=ah2 (row:=row) (n:=n) bH aO bG (by omega) (by omega) (by omega);have x0:=U.1;have x1:=U.2.1;have abK:=aY.1;have fu:=aY.2.1;rw[p3];refine .inl ⟨_,rfl,?_⟩;by_cases h:x-less-y<0
  ·rw[dz h]
   refine⟨⟨n+1,rfl,by omega,.inr rfl,cR.set (by omega),by simpa using dd,?_,fun j h1 h2=> ?_⟩,by simp only;omega⟩
   ·simp only;rw[wG (fm n (dE _) (by omega)),pi,U.take,aY.take];grind
   simp only;rw[List.getElem?_set_ne (by omega)];exact fm j (by omega) h2
  rw[dB h];refine⟨⟨n+1,rfl,by omega,.inl rfl,cR.set (by omega),by simpa using dd,?_,fun j h1 h2=> ?_⟩,by simp only;omega⟩
  ·simp only;rw[wG (fm n (dE _) (by omega)),U.take,aY.take];grind
  simp only;rw[List.getElem?_set_ne (by omega)];exact fm j (by omega) h2
 obtain⟨r,ak,h1,h2,R⟩:=this;unfold yI;simp only[hS];rw[cL,dw,ak];simp only[dC,dx];rw[EU h1 (by omega),R];rfl
theorem Zr {a b:Int}(h:decide (a<0)=decide (b<0)):fs (decide (a<0)) ((a.natAbs:Int)+(b.natAbs:Int))=a+b:=by
 have dc:a<0↔b<0:=by simpa using h
 unfold fs;by_cases h1:a<0
 ·have:=dc.1 h1;simp only[h1,decide_true,if_true];omega
 have : ¬b<0:=fun aO=>h1 (dc.2 aO);simp only[h1,decide_false,arA,if_false];omega
theorem Lz {a b:Int}(h:¬decide (a<0)=decide (b<0)):fs (decide (a<0)) ((a.natAbs:Int)-(b.natAbs:Int))=a+b/\fs (decide (b<0)) ((b.natAbs:Int)-(a.natAbs:Int))=a+b:=by
 have dc : ¬(a<0↔b<0):=by simpa using h
 unfold fs;by_cases h1:a<0
 ·have h2 : ¬b<0:=fun aO=>dc ⟨fun _=>aO,fun _=>h1⟩;simp only[h1,h2,decide_true,if_true,decide_false,arA,if_false];omega
 have h2:b<0:=by apply Classical.byContradiction;intro aO;exact dc ⟨fun h=>absurd h h1,fun h=>absurd h aO⟩
 simp only[h1,h2,decide_true,if_true,decide_false,arA,if_false];omega
theorem Le {x y:Int}(U:0<=x)(Q7:x<=y):(L x).length<=(L y).length:=by apply (jW U).2;have:=pW (iS y);rw[gP] at this;omega
theorem XC {a b:Int}(bH:(a.natAbs:Int)<B 50)(aO:(b.natAbs:Int)<B 50):uB (hM a) (hM b)=some (hM (a+b)):=by
 have mw:=(jW (k:=50) (n:=a.natAbs) (by omega)).2 bH;have m1:=(jW (k:=50) (n:=b.natAbs) (by omega)).2 aO;have ve:B 50+B 50<=B 60:=by have h1:B 51<=B 60:=uN (by omega);have h2:=qZ 50;rw[pi] at h1;omega
 have bS:uB (hM a) (hM b)=(if (decide (a<0) == decide (b<0))=true then (Et (L a.natAbs) (L b.natAbs)).bind fun r2=>(ki (decide (a<0)) r2).bind fun bb=>some bb else (uA (L a.natAbs) (L b.natAbs)).bind fun r2=>if (decide ((0:Int)<=r2))=true then (xk (L a.natAbs) (L b.natAbs)).bind fun aQ=>(ki (decide (a<0)) aQ).bind fun bx=>some bx else (xk (L b.natAbs) (L a.natAbs)).bind fun aQ=>(ki (decide (b<0)) aQ).bind fun bx=>some bx):=rfl;rw[bS];by_cases h:decide (a<0)=decide (b<0)
 ·rw[dz (by simpa using h)];obtain⟨r,r1,r2,aX,bb⟩:=ajY (iS a.natAbs) (iS b.natAbs) (by omega) (by omega);rw[gP,gP] at aX;rw[r1,dx,aiS r2 (by omega) (by omega),aX,Zr h];rfl
 rw[dB (by simpa using h),xz (kc _) (kc _) (by omega),gP,gP,dx];by_cases a1:(b.natAbs:Int)<=a.natAbs
 ·have BX:0<=nt (a.natAbs:Int) b.natAbs:=by
   apply Int.not_lt.mp;intro h1;have:=yP.1 h1;omega
  rw[dz (by simpa using BX),sub_eq (iS _) (iS _) (Le (by omega) a1) (by rw[gP,gP];exact a1) (by omega),gP,gP,dx,uI (by omega) (by omega),(Lz h).1];rfl
 have BX : ¬0<=nt (a.natAbs:Int) b.natAbs:=by have:=yP.2 (show (a.natAbs:Int)<b.natAbs by omega);omega
 rw[dB (by simpa using BX),sub_eq (iS _) (iS _) (Le (by omega) (by omega)) (by rw[gP,gP];omega) (by omega),gP,gP,dx,uI (by omega) (by omega),(Lz h).2];rfl
theorem X8 {a b:Int}(bH:(a.natAbs:Int)<B 50)(aO:(b.natAbs:Int)<B 50):yu (hM a) (hM b)=some (hM (a+b)):=by
 have mw:=(jW (k:=50) (n:=a.natAbs) (by omega)).2 bH;have m1:=(jW (k:=50) (n:=b.natAbs) (by omega)).2 aO;have bS:yu (hM a) (hM b)=((uy (L a.natAbs) (L b.natAbs)).bind fun r1=>if (decide (a<0) == decide (b<0))=true then (ED (L a.natAbs) (L b.natAbs)).bind fun r2=>(oD (decide (a<0)) r2).bind fun bb=>some bb else if (decide ((0:Int)<=r1))=true then (yI (L a.natAbs) (L b.natAbs)).bind fun aQ=>(oD (decide (a<0)) aQ).bind fun bx=>some bx else (yI (L b.natAbs) (L a.natAbs)).bind fun aQ=>(oD (decide (b<0)) aQ).bind fun bx=>some bx):=rfl;rw[bS,OV (kc _) (kc _) (by omega),gP,gP,dx];by_cases h:decide (a<0)=decide (b<0)
 ·rw[dz (by simpa using h),akI (iS _) (iS _) (by omega) (by omega),gP,gP,dx,uF (by omega),Zr h];rfl
 rw[dB (by simpa using h)];by_cases a1:(b.natAbs:Int)<=a.natAbs
 ·have BX:0<=nt (a.natAbs:Int) b.natAbs:=by
   apply Int.not_lt.mp;intro h1;have:=yP.1 h1;omega
  rw[dz (by simpa using BX),X7 (iS _) (iS _) (Le (by omega) a1) (by rw[gP,gP];exact a1) (by omega),gP,gP,dx,uF (by omega),(Lz h).1];rfl
 have BX : ¬0<=nt (a.natAbs:Int) b.natAbs:=by have:=yP.2 (show (a.natAbs:Int)<b.natAbs by omega);omega
 rw[dB (by simpa using BX),X7 (iS _) (iS _) (Le (by omega) (by omega)) (by rw[gP,gP];omega) (by omega),gP,gP,dx,uF (by omega),(Lz h).2];rfl
theorem P4 {b:Int}:fs (!(decide (b<0))) (b.natAbs:Int) = -b:=by
 unfold fs;by_cases h:b<0
 ·simp only[h,decide_true,Bool.not_true,arA,if_false];omega
 simp only[h,decide_false,Bool.not_false,if_true];omega
theorem aiV {a b:Int}(bH:(a.natAbs:Int)<B 50)(aO:(b.natAbs:Int)<B 50):z9 (hM a) (hM b)=some (hM (a-b)):=by have bS:z9 (hM a) (hM b)=(((oD (!(decide (b<0))) (L b.natAbs)).bind fun r=>some r).bind fun r1=>(yu (hM a) r1).bind fun aX=>some aX):=rfl;rw[bS,uF (by omega),P4,dx,dx,X8 bH (by omega),dx,Int.sub_eq_add_neg]
theorem Fr.neg {q:Int×Int}(h:Fr q):Fr (-q.1,q.2):=⟨h.pos,by simp only;rw[Int.neg_gcd];exact h.aa3,by simp only;have:=h.num;omega,h.den⟩
theorem aiW {q:Int×Int}(h:Fr q):vr (mk q)=some (mk (-q.1,q.2)):=by have h1:=h.num;have h2:=h.rc;have R:=P2;have bS:vr (mk q)=((ki (!(decide (q.1<0))) (L q.1.natAbs)).bind fun r1=>if (([]:ar)++L q.2).length*8<=140737488355328 then some (⟨r1,([]:ar)++L q.2⟩:au) else none):=rfl;rw[bS,uI (by omega) (by omega),P4,dx,dz (by simp;omega)];rfl
theorem Lf {p q:Int×Int}(ai:Fr p)(a0:Fr q):((p.1*q.2).natAbs:Int)<B 48/\(L (p.1.natAbs*q.2:Int)).length<=48/\0<=(p.1.natAbs*q.2:Int):=by have aM:=a0.pos;have ba:=yQ (x:=p.1.natAbs) (y:=q.2) (by omega) (by omega) ai.num a0.den;have Ce:0<=(p.1.natAbs:Int)*q.2:=Int.mul_nonneg (by omega) (by omega);rw[P3 (by omega)];exact⟨(jW Ce).1 ba,ba,Ce⟩
theorem P5:B 48+B 48<=B 50:=by have h1:B 49<=B 50:=uN (by omega);have h2:=qZ 48;rw[pi] at h1;omega
theorem aiX {p q:Int×Int}(ai:Fr p)(a0:Fr q):ty (mk p) (mk q)=some (enc (low (p.1*q.2+q.1*p.2) (p.2*q.2))):=by
 have h1:=ai.rP;have h2:=ai.rc;have R:=a0.rP;have aj:=a0.rc;have aq:=ai.pos;have aM:=a0.pos;have aan:=ai.num;have rS:=a0.num;have aqV:=ai.den;have aqW:=a0.den;have gx:=P5;have aqa:B 24<=B 48:=uN (by omega);have aqb:B 50<=B 60:=uN (by omega);obtain⟨a6,cw,j8⟩:=Lf ai a0;obtain⟨d1,d2,d3⟩:=Lf a0 ai;have aag:=qZ 48;have e1:kb (L p.1.natAbs) (L q.2)=some (L ((p.1.natAbs:Int)*q.2)):=by rw[mul_eq (iS _) (iS _) (by omega) (by omega),gP,gP]
 have e2:kb (L q.1.natAbs) (L p.2)=some (L ((q.1.natAbs:Int)*p.2)):=by rw[mul_eq (iS _) (iS _) (by omega) (by omega),gP,gP]
 have bG:ki (decide (p.1<0)) (L ((p.1.natAbs:Int)*q.2))=some (hM (p.1*q.2)):=by rw[uI j8 (by rw[<- P3 (by omega)];omega),EV]
 have cR:ki (decide (q.1<0)) (L ((q.1.natAbs:Int)*p.2))=some (hM (q.1*p.2)):=by rw[uI d3 (by rw[<- P3 (by omega)];omega),EV]
 have dd:uB (hM (p.1*q.2)) (hM (q.1*p.2))=some (hM (p.1*q.2+q.1*p.2)):=XC (by omega) (by omega);have bj:=yQ (x:=p.2) (y:=q.2) (by omega) (by omega) ai.den a0.den;have eC:kb (L p.2) (L q.2)=some (L (p.2*q.2)):=by rw[mul_eq (iS _) (iS _) (by omega) (by omega),gP,gP]
 have aaa:(L (p.1*q.2+q.1*p.2).natAbs).length<=50:=(jW (by omega)).2 (by omega)
 have fm:rB (decide (p.1*q.2+q.1*p.2<0)) (L (p.1*q.2+q.1*p.2).natAbs) (L (p.2*q.2))=some (enc (low (p.1*q.2+q.1*p.2) (p.2*q.2))):=by
  rw[O7 (by omega) (Int.mul_pos aq aM) (by omega) (by omega)]
  have:fs (decide (p.1*q.2+q.1*p.2<0)) ((p.1*q.2+q.1*p.2).natAbs:Int)=p.1*q.2+q.1*p.2:=by
   have:=EV (a:=p.1*q.2+q.1*p.2) (b:=1)
   rwa [Int.mul_one,Int.mul_one] at this
  rw[this]
 have aah:((kb (L p.1.natAbs) (L q.2)).bind fun bx=>(ki (decide (p.1<0)) bx).bind fun bz=>(kb (L q.1.natAbs) (L p.2)).bind fun b2=>(ki (decide (q.1<0)) b2).bind fun c3=>(uB bz c3).bind fun eu=>(kb (L p.2) (L q.2)).bind fun il=>(rB eu.cQ eu.bZ il).bind fun gL=>some gL)=some (enc (low (p.1*q.2+q.1*p.2) (p.2*q.2))):=by rw[e1,dx,bG,dx,e2,dx,cR,dx,dd,dx,eC,dx];show (rB (decide (p.1*q.2+q.1*p.2<0)) (L (p.1*q.2+q.1*p.2).natAbs) (L (p.2*q.2))).bind _=_;rw[fm,dx]
 have bS:ty (mk p) (mk q)=((vq (L p.2)).bind fun r1=>if r1=true then (vq (L q.2)).bind fun bb=>if bb=true then (uB (hM p.1) (hM q.1)).bind fun bx=>(rB bx.cQ bx.bZ ([1]:ar)).bind fun bz=>some bz else ((kb (L p.1.natAbs) (L q.2)).bind fun bx=>(ki (decide (p.1<0)) bx).bind fun bz=>(kb (L q.1.natAbs) (L p.2)).bind fun b2=>(ki (decide (q.1<0)) b2).bind fun c3=>(uB bz c3).bind fun eu=>(kb (L p.2) (L q.2)).bind fun il=>(rB eu.cQ eu.bZ il).bind fun gL=>some gL) else ((kb (L p.1.natAbs) (L q.2)).bind fun bx=>(ki (decide (p.1<0)) bx).bind fun bz=>(kb (L q.1.natAbs) (L p.2)).bind fun b2=>(ki (decide (q.1<0)) b2).bind fun c3=>(uB bz c3).bind fun eu=>(kb (L p.2) (L q.2)).bind fun il=>(rB eu.cQ eu.bZ il).bind fun gL=>some gL)):=rfl;rw[bS,H3 (by omega),dx];by_cases cf:p.2=1
 ·rw[dz (by simpa using cf),H3 (by omega),dx]
  by_cases aU:q.2=1
  ·rw[dz (by simpa using aU),XC (by omega) (by omega),dx];have gY:p.1*q.2+q.1*p.2=p.1+q.1:=(by rw[cf,aU,Int.mul_one,Int.mul_one]);have abL:p.2*q.2=1:=(by rw[cf,aU];rfl);rw[gY,abL,Qi] at fm;rw[gY,abL];show (rB (decide (p.1+q.1<0)) (L (p.1+q.1).natAbs) [1]).bind _=_;rw[fm,dx]
  rw[dB (by simpa using aU)];exact aah
 rw[dB (by simpa using cf)];exact aah
theorem Wy {k N:Int}(h0:0<=k)(fY:N<=20000)(h:k*k<=N):k<=141:=by
 rcases Int.lt_or_le 141 k with h1|h1
 ·have:=vG (j:=142) (k:=k) (by omega) (by omega);omega
 exact h1
theorem aiY (N:Int)(fY:N<=20000): ∃r,Vh N 1=some r/\(match r with | .inl _=> ∀k,1<=k->k*k≠N | .inr k=>1<=k/\k*k=N):=by
 exact kR (f:=fun w=>Gl N w) (fun k=>1<=k/\k<=142/\ ∀j,1<=j->j<k->j*j<N) (fun k=>(142-k).toNat)
  (fun r=>match r with | .inl _=> ∀k,1<=k->k*k≠N | .inr k=>1<=k/\k*k=N) (fun k a4=>by
  obtain⟨h1,h2,R⟩:=a4;have Q4:k*k<=142*142:=vG (by omega) h2;have wQ:0<=k*k:=Int.mul_nonneg (by omega) (by omega);have hw:J (k*k)=k*k:=iw (by omega) (by omega);have ye:J (k+1)=k+1:=iw (by omega) (by omega);unfold Gl;rw[hw,ye];by_cases a:k*k<=N
  ·have:=Wy (by omega) fY a
   by_cases b:k*k=N
   ·exact .inr ⟨.inr k,by simp[b],h1,b⟩
   refine .inl ⟨k+1,by simp[a,b],⟨by omega,by omega,fun j uq rn=> ?_⟩,by omega⟩;rcases Int.lt_or_le j k with c|c
   ·exact R j uq c
   have:j=k:=(by omega);subst this;omega
  refine .inr ⟨.inl (),by simp[a],fun j uq=> ?_⟩;rcases Int.lt_or_le j k with c|c
  ·have:=R j uq c;omega
  have:=vG (j:=k) (k:=j) (by omega) c;omega) 1 ⟨by omega,by omega,fun j uq rn=>by omega⟩
theorem aiZ (x y:Int)(U:-100<=x/\x<=100)(aY:-100<=y/\y<=100): ∃n,SF x y 0=some n/\(0<=n/\n<=142/\x*x+y*y<=n*n/\ ∀j,0<=j->j<n->j*j<x*x+y*y):=by
 have aoX:x*x<=10000/\0<=x*x:=by
  rcases Int.le_total 0 x with h|h
  ·have:=vG h U.2;exact⟨by omega,Int.mul_nonneg h h⟩
  have:=vG (j:= -x) (k:=100) (by omega) (by omega);rw[Int.neg_mul_neg] at this;exact⟨by omega,Int.mul_nonneg_of_nonpos_of_nonpos h h⟩
 have aoY:y*y<=10000/\0<=y*y:=by
  rcases Int.le_total 0 y with h|h
  ·have:=vG h aY.2;exact⟨by omega,Int.mul_nonneg h h⟩
  have:=vG (j:= -y) (k:=100) (by omega) (by omega);rw[Int.neg_mul_neg] at this;exact⟨by omega,Int.mul_nonneg_of_nonpos_of_nonpos h h⟩
 have e1:J (x*x)=x*x:=iw (by omega) (by omega);have e2:J (y*y)=y*y:=iw (by omega) (by omega);have bG:J (x*x+y*y)=x*x+y*y:=iw (by omega) (by omega)
 exact kR (f:=fun w=>F9 x y w) (fun n=>0<=n/\n<=142/\ ∀j,0<=j->j<n->j*j<x*x+y*y) (fun n=>(142-n).toNat)
  (fun n=>0<=n/\n<=142/\x*x+y*y<=n*n/\ ∀j,0<=j->j<n->j*j<x*x+y*y) (fun n a2=>by
  obtain⟨h1,h2,R⟩:=a2;have aoc:n*n<=142*142:=vG h1 h2;have IV:0<=n*n:=Int.mul_nonneg h1 h1;have hw:J (n*n)=n*n:=iw (by omega) (by omega);have ye:J (n+1)=n+1:=iw (by omega) (by omega);unfold F9;rw[e1,e2,bG,hw,ye];by_cases a:n*n<x*x+y*y
  ·have:=Wy (N:=20000) h1 (by omega) (by omega)
   refine .inl ⟨n+1,by simp[a],⟨by omega,by omega,fun j uq rn=> ?_⟩,by omega⟩;rcases Int.lt_or_le j n with c|c
   ·exact R j uq c
   have:j=n:=(by omega);subst this;omega
  exact .inr ⟨n,by simp[a],h1,h2,by omega,R⟩) 0 ⟨by omega,by omega,fun j uq rn=>by omega⟩
theorem O8 (s:cT)(i0:pS s)(p1:pR s=some true)(k:Int)(h0:0<=k)(h1:k<s.bE.length): ∃l,qN s k=some l/\rv s k=some l/\0<=l/\l<=142:=by
 obtain⟨-,-,-,aqX⟩:=GC s i0 p1;have hw:J ((s.bE.length:Nat)-1)=s.bE.length-1:=iw (by omega) (by omega);obtain⟨x,y,v1,v2,U,aY⟩:=aiR s i0 p1 k h0 h1;have aoX:=X6 U;have aoY:=X6 aY;have e1:J (x*x)=x*x:=iw (by omega) (by omega);have e2:J (y*y)=y*y:=iw (by omega) (by omega);have bG:J (x*x+y*y)=x*x+y*y:=iw (by omega) (by omega);obtain⟨r,r1,r2⟩:=aiY (x*x+y*y) (by omega);obtain⟨n,n1,n2,RK,abx,abM⟩:=aiZ x y U aY;have aoc:n*n<=142*142:=vG n2 RK;have IV:0<=n*n:=Int.mul_nonneg n2 n2;have cR:J (n*n)=n*n:=iw (by omega) (by omega);have j8:0<=k/\k<=(s.bE.length:Int)-1:=by omega
 refine⟨if n*n=x*x+y*y then n else 0,?_,?_,by split<;>omega,by split<;>omega⟩
 ·unfold qN Kx Kw
  simp only[p1,wu,dC,dx,fh,hw];simp only[decide_eq_true j8,if_true,v2,dx,e1,e2,bG,KF,r1];by_cases e:n*n=x*x+y*y
  ·rw[dz e]
   cases r with
   | inl a =>
    rcases Int.lt_or_le 0 n with q|q
    ·exact absurd e (r2 n (by omega))
    have:n=0:=(by omega);subst this;rfl
   | inr a =>
    obtain⟨fw,fo⟩:=r2
    have:a=n:=by
     rcases Int.lt_trichotomy a n with q|q|q
     ·have:=abM a (by omega) q;omega
     ·exact q
     have:=ZS (j:=n) (k:=a) n2 q;omega
    subst this;rfl
  rw[dB e]
  cases r with
  | inl a=>rfl
  | inr a =>
   exfalso;obtain⟨fw,fo⟩:=r2;rcases Int.lt_trichotomy a n with q|q|q
   ·have:=abM a (by omega) q;omega
   ·subst q;exact e fo
   have:=ZS (j:=n) (k:=a) n2 q;omega
 simp only[dC,dx,rv,v1,n1,e1,e2,bG,cR];by_cases e:n*n=x*x+y*y
 ·rw[dz e];simp[n1,e1,e2,bG,e]
 rw[dB e];simp[n1,e1,e2,bG,cR,e]
theorem EE (s:cT)(i0:pS s)(h:pR s=some true)(aa:vm s=some true)(k:Int)(arh:nV k)(num:Int)(a2:1<=num/\num<=100):
 (w9 s k=some false/\Al s k num=some false) \/
 ∃m l,w9 s k=some true/\(0<=k/\k<s.bE.length)/\s.bE[k.toNat]? = some m/\rv s k=some l/\0<=l/\l<=142 /\
  Al s k num=some (decide (0<l) && decide (l*num<=100)):=by
 have hm:=wm;obtain⟨-,jw,-⟩:=id i0;have hw:J ((s.bE.length:Nat)-1)=s.bE.length-1:=iw (by omega) (by omega);unfold w9 Al;simp only[wu,fh,hw,dC,dx];by_cases c:0<=k/\k<s.bE.length
 ·have eG:0<=k/\k<=(s.bE.length:Int)-1:=by omega
  obtain⟨m,BZ⟩ : ∃x,s.bE[k.toNat]? = some x:=⟨_,dy (by omega)⟩;by_cases a4:m.h5=1
  ·right
   obtain⟨r,r1,lo,lQ,zM⟩:=O8 s i0 h k c.1 c.2;have ai:r*num<=142*100:=Int.mul_le_mul zM a2.2 (by omega) (by omega);have BT:0<=r*num:=Int.mul_nonneg lQ (by omega);have JC:J (r*num)=r*num:=iw (by omega) (by omega);refine⟨m,r,?_,c,BZ,lo,lQ,zM,?_⟩
   ·simp only[decide_eq_true c.1,decide_eq_true c.2,if_true,dz c,BZ,dx,a4];rfl
   simp only[decide_eq_true eG,if_true,dz c,BZ,dx,a4,r1,JC];by_cases a:0<r<;>simp[a]
  left;have e1:(m.h5 == 1)=false:=(by simpa using a4);have e2:(m.h5 != 1)=true:=(by simpa using a4);constructor
  ·simp only[decide_eq_true c.1,decide_eq_true c.2,if_true,dz c,BZ,dx,e1]
  simp only[decide_eq_true eG,if_true,dz c,BZ,dx,e2]
 left;have eG : ¬(0<=k/\k<=(s.bE.length:Int)-1):=by omega
 refine⟨?_,by simp[eG]⟩;by_cases a6:0<=k
 ·have : ¬k<s.bE.length:=fun h=>c ⟨a6,h⟩;simp[a6,this]
 simp[a6]
theorem agX (s:cT)(i0:pS s)(b:dp)(F3:yO b): ∃p,vp s b=some p/\Em s b=some p:=by
 obtain⟨p,p1,p2⟩:=D5 s i0;obtain⟨uq,rn,RS,yj⟩:=F3;unfold vp Em;simp only[p1,p2,dC,dx]
 cases p with
 | false=>exact⟨false,rfl,rfl⟩
 | true =>
  by_cases a6:b.bR=b.bP
  ·exact⟨false,by simp[a6],by simp[a6]⟩
  by_cases cw:b.cC<1\/b.bQ<b.cC\/100<b.bQ
  ·refine⟨false,?_,?_⟩
   ·by_cases a:b.cC<1<;>by_cases eK:b.bQ<b.cC<;>by_cases B0:100<b.bQ<;>simp[a6,a,eK,B0]<;>omega
   have e : ∀k,∃q,w9 s k=some q:=by
    intro k;unfold w9;simp only[fh];by_cases d1:0<=k
    ·by_cases d2:k<s.bE.length
     ·obtain⟨m,BZ⟩ : ∃x,s.bE[k.toNat]? = some x:=⟨_,dy (by omega)⟩;exact⟨_,by simp[d1,d2,BZ];rfl⟩
     exact⟨_,by simp[d1,d2];rfl⟩
    exact⟨_,by simp[d1];rfl⟩
   obtain⟨F4,bH⟩:=e b.bR;obtain⟨M6,aO⟩:=e b.bP;simp only[bH,aO,dx];by_cases a:b.cC<1<;>by_cases eK:b.bQ<b.cC<;>by_cases B0:100<b.bQ<;>cases F4<;>cases M6<;>simp[a6,a,eK,B0]<;>omega
  have d1 : ¬b.cC<1:=(by omega);have d2 : ¬b.bQ<b.cC:=(by omega);have d3 : ¬100<b.bQ:=(by omega);rcases EE s i0 p1 p2 b.bR uq b.bQ (by omega) with ⟨fw,fo⟩|⟨nD,mw,fw,fo,bA,eE,gS,rr,lp⟩
  ·exact⟨false,by simp[a6,d1,d2,d3,fo],by simp[a6,fw]⟩
  rcases EE s i0 p1 p2 b.bP rn b.bQ (by omega) with ⟨e1,e2⟩|⟨kt,m1,e1,e2,bG,cR,dd,eC,fm⟩
  ·refine⟨false,?_,by simp[a6,fw,e1]⟩;simp only[lp,e2,dx];by_cases q:(decide (0<mw) && decide (mw*b.bQ<=100))=true<;>simp[a6,d1,d2,d3,q]
  obtain⟨f1,f2,-⟩:=GC s i0 p1;have g1:=f2 _ nD bA;have g2:=f2 _ kt bG;unfold sY at g1 g2;simp only[dO,decide_eq_true_eq] at g1 g2;obtain⟨⟨g11,g12,g13,g14,-⟩,-⟩:=g1;obtain⟨⟨g21,g22,g23,g24,-⟩,-⟩:=g2;have ai:mw*b.bQ<=142*100:=Int.mul_le_mul rr (by omega) (by omega) (by omega);have BT:0<=mw*b.bQ:=Int.mul_nonneg gS (by omega);have a0:m1*b.bQ<=142*100:=Int.mul_le_mul eC (by omega) (by omega) (by omega);have oM:0<=m1*b.bQ:=Int.mul_nonneg dd (by omega);have iW:J (mw*b.bQ)=mw*b.bQ:=iw (by omega) (by omega);have nR:J (m1*b.bQ)=m1*b.bQ:=iw (by omega) (by omega);simp only[lp,fm,fw,e1,bA,bG,eE,cR,iW,nR,dz fo,dz e2,dx,GA];have zI : ¬kt.bP<0:=(by omega);have abN : ¬kt.bR<0:=(by omega);have e1:(b.bR == b.bP)=false:=(by simpa using a6);simp only[e1,decide_eq_false d1,decide_eq_false d2,decide_eq_false d3,arA,if_false,if_true];generalize aod:decide (0<mw)=mn;generalize aoe:decide (mw*b.bQ<=100)=ur;generalize aof:decide (0<m1)=zN;generalize aog:decide (m1*b.bQ<=100)=JW
  have f1:(if (nD.bR == kt.bR)=true then some kt.bP else if (nD.bR == kt.bP)=true then some kt.bR else some (-1:Int))=some (if nD.bR=kt.bR then kt.bP else if nD.bR=kt.bP then kt.bR else -1):=by
   simp only[beq_iff_eq];split
   ·rfl
   split<;>rfl
  have f2:(if (nD.bP == kt.bR)=true then some kt.bP else if (nD.bP == kt.bP)=true then some kt.bR else some (-1:Int))=some (if nD.bP=kt.bR then kt.bP else if nD.bP=kt.bP then kt.bR else -1):=by
   simp only[beq_iff_eq];split
   ·rfl
   split<;>rfl
  rw[f1,f2];simp only[dx]
  have s1:decide ((if nD.bR=kt.bR then kt.bP else if nD.bR=kt.bP then kt.bR else (-1:Int))<0) = !(nD.bR == kt.bR || nD.bR == kt.bP):=by
   by_cases fu:nD.bR=kt.bR
   ·rw[dz fu,decide_eq_false zI,fu];simp
   by_cases ev:nD.bR=kt.bP
   ·rw[dB fu,dz ev,decide_eq_false abN,ev];simp
   rw[dB fu,dB ev];simp[fu,ev]
  have s2:decide ((if nD.bP=kt.bR then kt.bP else if nD.bP=kt.bP then kt.bR else (-1:Int))<0) = !(nD.bP == kt.bR || nD.bP == kt.bP):=by
   by_cases fu:nD.bP=kt.bR
   ·rw[dz fu,decide_eq_false zI,fu];simp
   by_cases ev:nD.bP=kt.bP
   ·rw[dB fu,dz ev,decide_eq_false abN,ev];simp
   rw[dB fu,dB ev];simp[fu,ev]
  rw[s1,s2];generalize (nD.bR == kt.bR)=fu;generalize (nD.bR == kt.bP)=ev;generalize (nD.bP == kt.bR)=j9;generalize (nD.bP == kt.bP)=jy;clear aod aoe aof aog s1 s2 f1 f2;revert mn ur zN JW fu ev j9 jy;refine fun mn ur zN JW fu ev j9 jy=>⟨(mn && ur && (zN && JW)) && (fu || ev || j9 || jy),?_,?_⟩
  ·revert mn ur zN JW fu ev j9 jy;decide
  revert mn ur zN JW fu ev j9 jy;decide
theorem agy (s:cT)(i0:pS s)(b:dp)(F3:yO b)(h:vp s b=some true):(0<=b.bR/\b.bR<s.bE.length)/\(0<=b.bP/\b.bP<s.bE.length):=by
 obtain⟨p,p1,p2⟩:=D5 s i0;obtain⟨uq,rn,RS,yj⟩:=F3;unfold vp at h;simp only[p1,dC,dx] at h
 cases p with
 | false=>simp at h
 | true =>
  by_cases a6:b.bR=b.bP
  ·simp[a6] at h
  by_cases cw:b.cC<1\/b.bQ<b.cC\/100<b.bQ
  ·by_cases a:b.cC<1<;>by_cases eK:b.bQ<b.cC<;>by_cases B0:100<b.bQ<;>simp[a6,a,eK,B0] at h<;>omega
  have d1 : ¬b.cC<1:=(by omega);have d2 : ¬b.bQ<b.cC:=(by omega);have d3 : ¬100<b.bQ:=(by omega);rcases EE s i0 p1 p2 b.bR uq b.bQ (by omega) with ⟨fw,fo⟩|⟨nD,mw,fw,fo,bA,eE,gS,rr,lp⟩
  ·simp[a6,d1,d2,d3,fo] at h
  rcases EE s i0 p1 p2 b.bP rn b.bQ (by omega) with ⟨e1,e2⟩|⟨kt,m1,e1,e2,bG,cR,dd,eC,fm⟩
  ·simp only[lp,e2,dx] at h;by_cases q:(decide (0<mw) && decide (mw*b.bQ<=100))=true<;>simp[a6,d1,d2,d3,q] at h
  exact⟨fo,e2⟩
def uP (n:Int):Bool:=decide (-100<=n/\n<=100)
def xL (Ck:Nat)(l:ar):Bool:=decide (l.length=2*Ck) && l.all uP
theorem ah3 (n:Int):Hg n=some (uP n):=by unfold Hg uP;by_cases h : -100<=n<;>simp[h]
theorem ai0 (s:cT)(p:Bool)(ai:pR s=some p)(v9:p=true->s.cq.length<=6)(l:ar)(aZ:l.length<=maxLen):xj s l=some (p && xL s.cq.length l):=by
 have hm:=wm;unfold xj;simp only[ai,dC,dx,fh]
 cases p with
 | false=>rfl
 | true =>
  have v9:=v9 rfl;have hw:J (2*(s.cq.length:Int))=2*(s.cq.length:Int):=iw (by omega) (by omega);rw[hw];unfold xL;by_cases e:l.length=2*s.cq.length;rotate_left
  ·have c:((l.length:Int) != 2*(s.cq.length:Int))=true:=(by simp;omega);simp only[c,if_true];simp[e]
  have h1:Vz l (l.length:Nat) 0=some (if l.all uP then .inl () else .inr ()):=by
   refine EJ (f:=fun w=>DJ l (l.length:Nat) w) l uP (fun n x U=> ?_) ?_
   ·have eS:=gD U
    unfold DJ;have c:(n:Int)<(l.length:Int):=(by omega);have eG:0<=(n:Int)/\(n:Int)<(l.length:Int):=(by omega);simp only[decide_eq_true c,if_true,dz eG,dw,U,dC,dx,wu];rw[i1 (by omega)];unfold uP;by_cases q : -100<=x/\x<=100
    ·simp[q]
    rw[decide_eq_false q];simp
   simp[DJ]
  have c:((l.length:Int) != 2*(s.cq.length:Int))=false:=(by simp;omega);simp only[c,h1,arA,if_false,if_true,dx];cases l.all uP<;>simp[e]
theorem ahq (s:cT)(v9:s.cq.length<=6)(l:ar)(aZ:l.length<=maxLen):G5 s l=some (xL s.cq.length l):=by
 have hm:=wm;have hw:J (2*(s.cq.length:Int))=2*(s.cq.length:Int):=iw (by omega) (by omega);unfold G5 J9 Kc xL;simp only[fh,hw,dC];obtain⟨r,h1,h2⟩:=aiu (f:=fun w=>Cs l (l.length:Nat) w) l (fun n=> !uP n) (fun n x U=>by have eS:=gD U;unfold Cs Ko;have c:(n:Int)<(l.length:Int):=(by omega);have eG:0<=(n:Int)/\(n:Int)<(l.length:Int):=(by omega);simp only[decide_eq_true c,if_true,dz eG,dw,U,dC,dx,ah3];rw[i1 (by omega)];cases uP x<;>rfl) (by simp[Cs]);have u3:Sf l (l.length:Nat) 0=some r:=h1;rw[u3];have amT:(l.any fun n=> !uP n) = !l.all uP:=by rw[List.not_all_eq_any_not]
 rw[amT] at h2;by_cases e:l.length=2*s.cq.length
 ·have c:((l.length:Int) == 2*(s.cq.length:Int))=true:=by simp;omega
  rw[c];rcases h2 with ⟨k,rfl,a4,bH⟩|⟨rfl,bH⟩
  ·simp only[Bool.not_eq_true'] at bH;simp[e,bH,a4]
  simp only[Bool.not_eq_false'] at bH;simp[e,bH]
 have c:((l.length:Int) == 2*(s.cq.length:Int))=false:=by simp;omega
 rw[c];simp[e]
theorem nR {i:Int}{a:Nat}(h0:0<=i)(h1:i<=100)(bH:a<=1):J (J (2*i)+(a:Int))=(((2*i+a).toNat:Nat):Int):=by rw[c7 (x:=2*i),c7];omega
theorem ahr (l:ar)(h:l.length<=1048576):GV l=some l:=by
 have aO : ∀(n:Nat) x (row:ar),l[n]? = some x->row.length=l.length->zX l n row=some (.inl (((n+1:Nat):Int),row.set n x)):=by intro n x row U ak;obtain⟨a2,rfl⟩:=arr.1 U;have hw:J ((n:Int)+1)=((n+1:Nat):Int):=(by rw[c7];rfl);simp only[zX,fh,hw];simp[a2,ak]
 have he : ∀row:ar,zX l l.length row=some (.inr row):=by intro row;simp[zX,fh]
 have h1:UM l 0 (List.replicate (aE eI l).toNat 0)=some l :=
  KZ l (List.replicate (aE eI l).toNat 0) (by simp[fh]) aO he
 unfold GV;rw[h1,dz (by rw[fh];omega)];simp[fh]
theorem agz (l:arP)(h:l.length<=1048576):GG l=some l:=by
 have aO : ∀(n:Nat) x (row:arP),l[n]? = some x->row.length=l.length->zV l n row=some (.inl (((n+1:Nat):Int),row.set n x)):=by intro n x row U ak;obtain⟨a2,rfl⟩:=arr.1 U;have hw:J ((n:Int)+1)=((n+1:Nat):Int):=(by rw[c7];rfl);simp only[zV,fh,hw,KE];simp[a2,ak]
 have he : ∀row:arP,zV l l.length row=some (.inr row):=by intro row;simp[zV,fh]
 have h1:TW l 0 (List.replicate (aE b9 l).toNat (⟨ByteArray.empty,0,0,false⟩:cN))=some l :=
  KZ l _ (by simp[fh]) aO he
 unfold GG;rw[h1,dz (by rw[fh];omega)];simp[fh]
theorem agl (l:arQ)(h:l.length<=1048576):GD l=some l:=by
 have aO : ∀(n:Nat) x (row:arQ),l[n]? = some x->row.length=l.length->zU l n row=some (.inl (((n+1:Nat):Int),row.set n x)):=by intro n x row U ak;obtain⟨a2,rfl⟩:=arr.1 U;have hw:J ((n:Int)+1)=((n+1:Nat):Int):=(by rw[c7];rfl);simp only[zU,fh,hw,Kv];simp[a2,ak]
 have he : ∀row:arQ,zU l l.length row=some (.inr row):=by intro row;simp[zU,fh]
 have h1:TN l 0 (List.replicate (aE ca l).toNat (⟨0,0,0⟩:c6))=some l :=
  KZ l _ (by simp[fh]) aO he
 unfold GD;rw[h1,dz (by rw[fh];omega)];simp[fh]
theorem afB (s:cT)(h1:s.cq.length<=1048576)(h2:s.bE.length<=1048576):Gv s=some (s.cq,s.bE):=by simp[Gv,agz _ h1,agl _ h2]
def oP (P:arR):bF->Prop
 | none=>True
 | some (k,c)=> ∃x,P[k]? = some x/\x.length=c/\c<=1048576
theorem oP.JG {P:arR}{h:bF}(hn:oP P h):rW P h=true:=by
 cases h with
 | none=>rfl
 | some p =>
  obtain⟨k,c⟩:=p;obtain⟨x,h1,h2,-⟩:=hn;have a4:=gD h1;have bI:P.getD k []=x:=(by rw[dN,h1];rfl);simp only[rW,bI,dO,decide_eq_true_eq];omega
theorem oP.aw {P:arR}(Q:arR){h:bF}(hn:oP P h):oP (P++Q) h/\jg (P++Q) h=jg P h:=by
 cases h with
 | none=>exact⟨trivial,rfl⟩
 | some p =>
  obtain⟨k,c⟩:=p;obtain⟨x,h1,h2,R⟩:=hn;have a4:=gD h1;have e:(P++Q)[k]? = some x:=(by rw[ars a4];exact h1);refine⟨⟨x,e,h2,R⟩,?_⟩;simp only[jg,dN,e,h1]
theorem oP.new {P Q:arR}{x:ar}{n:Nat}(U:Q[n]? = some x)(aZ:x.length<=1048576):oP (P++Q) (some (P.length+n,x.length))/\jg (P++Q) (some (P.length+n,x.length))=x:=by
 have e:(P++Q)[P.length+n]? = some x:=by rw[arx (by omega),show P.length+n-P.length=n by omega];exact U
 refine⟨⟨x,e,rfl,aZ⟩,?_⟩;simp only[jg,dN,e,Option.getD_some,List.take_length]
theorem oP.set {P:arR}{k:Nat}{x y:ar}(U:P[k]? = some x)(aY:y.length=x.length){h:bF}(hn:oP P h):oP (P.set k y) h:=by
 cases h with
 | none=>trivial
 | some p =>
  obtain⟨j,c⟩:=p;obtain⟨z,h1,h2,R⟩:=hn;by_cases ap:k=j
  ·subst ap;rw[U] at h1;obtain rfl:=dJ h1;exact⟨y,by rw[art,dz rfl,dz (gD U)],by omega,R⟩
  exact⟨z,by rw[art,dB ap];exact h1,h2,R⟩
def FU (P:arR)(x:eH):Prop:=oP P x.bQ.bZ/\oP P x.cC
theorem FU.JG {P:arR}{x:eH}(h:FU P x):xv P x=true:=by simp only[xv,h.1.JG,h.2.JG,Bool.and_self]
theorem ZT (x:Int):(wK [x]).size=1:=rfl
theorem agA {k:Int}(h:k<=1000000000000000000): ∃r,G9 k=some r:=by
 unfold G9;by_cases c:k<=0
 ·exact⟨_,by rw[dz (by simpa using c)]⟩
 rw[dB (by simpa using c)]
 obtain⟨r,r1,r2⟩:=kR (f:=fun w:Int×ByteArray=>Dp w.1 w.2) (fG:=fun w=>0<=w.1/\(w.2.size:Int)+w.1<=1000000000000000000) (m:=fun w=>w.1.toNat)
  (fun r=>(r.size:Int)<=1000000000000000000) (by
    rintro⟨a,o⟩ ⟨h1,h2⟩;simp only at h1 h2;by_cases bH:0<a
    ·have bI:a.tdiv 10=a / 10:=by rw[Int.tdiv_eq_ediv_of_nonneg h1]
     refine .inl ⟨(a / 10,wK [IntKind.wrap .u8 (J ((48:Int)+(a.tmod (10:Int))))]++o),?_,⟨by simp only;omega,?_⟩,by simp only;omega⟩
     ·unfold Dp;simp only;rw[dz (by simpa using bH),ZT,cL,bI,c7]
     simp only[ByteArray.size_append,ZT];omega
    exact .inr ⟨o,by simp[Dp,bH],by omega⟩) (k,⟨#[]⟩) ⟨by simp only;omega,by
    have:(⟨#[]⟩:ByteArray).size=0:=rfl;simp only[this];omega⟩
 unfold Vb;rw[r1];refine⟨_,by simp only[dC,dx];rw[dz ?_];have:(⟨#[109]⟩:ByteArray).size=1:=rfl;rw[this];omega⟩
theorem ae2 {k:Int}{l:arP}(h0:0<=k)(h:k+4*l.length<=1000000000000000000):
 ∃eh gW,GB k l=some (eh,gW)/\gW.length=l.length/\0<=eh/\eh<=k+4*l.length:=by
 obtain⟨r,r1,r2⟩:=kR (f:=fun w:Int×Int×arP=>zS w.1 w.2.1 w.2.2)
  (fG:=fun w=> ∃n:Nat,w.2.1=n/\n<=l.length/\w.2.2.length=l.length/\0<=w.1/\w.1<=k+4*n)
  (m:=fun w=>l.length-w.2.1.toNat) (fun r=>r.2.length=l.length/\0<=r.1/\r.1<=k+4*l.length) (by
    rintro⟨a,i,row⟩ ⟨n,e1,e2,bG,cR,dd⟩;simp only at e1 bG cR dd;subst e1;by_cases a2:n=l.length
    ·subst a2;refine .inr ⟨(a,row),by simp[zS,bG],bG,cR,dd⟩
    have te:n<row.length:=(by omega);obtain⟨t,cv⟩:=agA (k:=a) (by omega);have hw:J ((n:Int)+1)=((n+1:Nat):Int):=(by rw[c7];rfl);have iW:J (a+1)=a+1:=iw (by omega) (by omega);have nR:J (a+1+1)=a+1+1:=iw (by omega) (by omega);have sQ:J (a+1+1+1)=a+1+1+1:=iw (by omega) (by omega);have abH:J (a+1+1+1+1)=a+1+1+1+1:=iw (by omega) (by omega);have key : ∃e8,zS a n row=some (.inl (a+1+1+1+1,((n+1:Nat):Int),e8))/\e8.length=row.length:=(by unfold zS;rw[dz (by simpa using te),cv,iW,nR,sQ,abH,hw];simp only[dC,dx,dG,dw];rw[cL,dy te];simp only[dx,List.getElem?_set_self te,List.length_set,List.getElem?_set_self (show n<(row.set n _).length by simpa using te),List.set_set];exact⟨_,rfl,by simp⟩);obtain⟨e8,h1,h2⟩:=key;refine .inl ⟨_,h1,⟨n+1,rfl,by omega,by simp only;omega,by simp only;omega,by simp only;omega⟩,by simp;omega⟩) (k,0,l) ⟨0,rfl,by omega,rfl,h0,by simp⟩
 obtain⟨eh,gW⟩:=r;exact⟨eh,gW,by unfold GB TI;rw[r1];rfl,r2⟩
theorem aeU {k:Int}{l:arQ}(h0:0<=k)(h:k+3*l.length<=1000000000000000000):
 ∃eh gW,Gx k l=some (eh,gW)/\gW.length=l.length/\0<=eh/\eh<=k+3*l.length:=by
 obtain⟨r,r1,r2⟩:=kR (f:=fun w:Int×Int×arQ=>zR w.1 w.2.1 w.2.2)
  (fG:=fun w=> ∃n:Nat,w.2.1=n/\n<=l.length/\w.2.2.length=l.length/\0<=w.1/\w.1<=k+3*n)
  (m:=fun w=>l.length-w.2.1.toNat) (fun r=>r.2.length=l.length/\0<=r.1/\r.1<=k+3*l.length) (by
    rintro⟨a,i,row⟩ ⟨n,e1,e2,bG,cR,dd⟩;simp only at e1 bG cR dd;subst e1;by_cases a2:n=l.length
    ·subst a2;refine .inr ⟨(a,row),by simp[zR,bG],bG,cR,dd⟩
    have te:n<row.length:=(by omega);have hw:J ((n:Int)+1)=((n+1:Nat):Int):=(by rw[c7];rfl);have iW:J (a+1)=a+1:=iw (by omega) (by omega);have nR:J (a+1+1)=a+1+1:=iw (by omega) (by omega);have sQ:J (a+1+1+1)=a+1+1+1:=iw (by omega) (by omega);have key : ∃e8,zR a n row=some (.inl (a+1+1+1,((n+1:Nat):Int),e8))/\e8.length=row.length:=(by unfold zR;rw[dz (by simpa using te),iW,nR,sQ,hw];simp only[dG,dw];rw[cL,dy te];simp only[dC,dx,List.getElem?_set_self te,List.length_set,List.getElem?_set_self (show n<(row.set n _).length by simpa using te),List.set_set];exact⟨_,rfl,by simp⟩);obtain⟨e8,h1,h2⟩:=key;refine .inl ⟨_,h1,⟨n+1,rfl,by omega,by simp only;omega,by simp only;omega,by simp only;omega⟩,by simp;omega⟩) (k,0,l) ⟨0,rfl,by omega,rfl,h0,by simp⟩
 obtain⟨eh,gW⟩:=r;exact⟨eh,gW,by unfold Gx Tl;rw[r1];rfl,r2⟩
theorem aes {k:Int}{l:arP}{m:arQ}(h0:0<=k)(h:k+4*l.length+3*m.length<=1000000000000000000):
 ∃eh gW aF,DH k l m=some (eh,gW,aF)/\gW.length=l.length/\aF.length=m.length/\0<=eh/\eh<=k+4*l.length+3*m.length:=by
 obtain⟨k0,gW,e1,e2,bG,cR⟩:=ae2 (l:=l) h0 (by omega);obtain⟨kh,aF,f1,f2,f3,f4⟩:=aeU (k:=k0) (l:=m) bG (by omega);refine⟨kh,gW,aF,?_,e2,f2,f3,by omega⟩;unfold DH;rw[e1];simp only[dC,dx];rw[f1]
 first
  | rfl
  | (rw[dz e2.symm];simp only[dx];rw[dz f2.symm])
def marks (k:Int)(n:Nat):ar:=(List.range n).map fun i:Nat=>k+(i:Int)
theorem AF (k:Int)(n:Nat):(marks k n).length=n:=by simp[marks]
theorem ai1 {k:Int}{n i:Nat}(h:i<n):(marks k n)[i]? = some (k+i):=by unfold marks;rw[dK,List.getElem?_range h];rfl
theorem W6 {k:Int}{l:ar}{i:Nat}(h:i<l.length):(marks k i++l.drop i).set i (k+i)=marks k (i+1)++l.drop (i+1):=by unfold marks;rw[List.range_succ,List.map_append,List.set_append_right _ _ (by simp)];rw[show i-(List.map (fun i:Nat=>k+(i:Int)) (List.range i)).length=0 by simp,List.drop_eq_getElem_cons h,List.set_cons_zero];simp
theorem agB {k:Int}{l:ar}(h0:0<=k)(h:k+l.length<=1000000000000000000):yw k 0 l.length l=some (k+l.length,marks k l.length):=by
 have:=La (f:=fun w:Int×Int×ar=>C7 0 l.length w.1 w.2.1 w.2.2) (s:=fun n=>(k+(n:Int),(n:Int),marks k n++l.drop n)) (r:=(k+(l.length:Int),marks k l.length)) l.length 0 (fun i _ aa=> ?_) ?_
 ·unfold yw Uj;have e:(k+((0:Nat):Int),((0:Nat):Int),marks k 0++l.drop 0)=(k,0,l):=(by simp[marks]);rw[e] at this;rw[this];rfl
 ·have lj:i<l.length:=(by omega);unfold C7;simp only;rw[dz (by simpa using lj),cL,dG,dw,dz (by simp[AF];omega),W6 lj,c7,c7];simp only[Int.natCast_add,Int.add_assoc];rfl
 simp[C7]
theorem agm {k:Int}{l:ar}(h0:0<=k)(h:k+l.length<=1000000000000000000):Ae k l=some (k+l.length,marks k l.length):=by
 have:=La (f:=fun w:Int×Int×ar=>CS w.1 w.2.1 w.2.2) (s:=fun n=>(k+(n:Int),(n:Int),marks k n++l.drop n)) (r:=(k+(l.length:Int),marks k l.length)) l.length 0 (fun i _ aa=> ?_) ?_
 ·unfold Ae TT;have e:(k+((0:Nat):Int),((0:Nat):Int),marks k 0++l.drop 0)=(k,0,l):=(by simp[marks]);rw[e] at this;rw[this];rfl
 ·have lj:i<l.length:=(by omega);have aZ:(marks k i++l.drop i).length=l.length:=(by simp[AF];omega);unfold CS;simp only[aZ];rw[dz (by simpa using lj),cL,dG,dw,cL,W6 lj,c7,c7];simp only[Int.natCast_add,Int.add_assoc];rfl
 simp[CS,AF]
theorem agY (k:Int):yB [] k=some k:=by
 have h:N4 [] k=some ():=by unfold N4;rw[iter];simp[Kh,fh]
 simp[yB,h]
theorem VY {k:Int}{n:Nat}(h0:0<=k)(h:k+n<=1000000000000000000):Eh (marks k n) k=some (k+n):=by
 have:=La (f:=fun w:Int×Int=>Dq (marks k n) w.1 w.2) (s:=fun i=>(k+(i:Int),(i:Int))) (r:= .inl (k+(n:Int))) n 0 (fun i _ aa=> ?_) ?_
 ·unfold Eh Vc;have e:(k+((0:Nat):Int),((0:Nat):Int))=(k,0):=(by simp);rw[e] at this;rw[this];rfl
 ·have lj:i<n:=(by omega);unfold Dq;simp only[fh,AF];rw[dz (by simpa using lj),cL,dw,ai1 lj,c7,c7];simp[Int.add_assoc]
 simp[Dq,fh,AF]
theorem YO {l:ar}(h:l.length<=1048576):AE l=some (if l=[] then .inl () else .inr l):=by
 unfold AE;rw[cL]
 cases l with
 | nil=>rfl
 | cons x l=>rfl
theorem O9 {n:Int}(h:0<=n):L n=[]↔n=0:=by
 rw[<- II h];constructor
 ·intro e;rw[e];rfl
 intro e;exact List.eq_nil_of_length_eq_zero (by omega)
def nH:arP->Nat->List Nat
 | [],_=>[]
 | x::l,n=>if x.iZ then nH l (n+1) else n::nH l (n+1)
theorem Pt : ∀(l:arP) (n i:Nat),i∈nH l n->n<=i/\i<n+l.length
 | [],n,i,h=>by simp[nH] at h
 | x::l,n,i,h=>by
  rw[nH] at h;simp only[dI];split at h
  ·have:=Pt l (n+1) i h;omega
  rcases dR.1 h with h|h
  ·omega
  have:=Pt l (n+1) i h;omega
theorem X9 : ∀(l:arP) (n:Nat),(nH l n).length<=l.length
 | [],n=>by simp[nH]
 | x::l,n=>by rw[nH];have:=X9 l (n+1);split<;>simp only[dI]<;>omega
theorem ah4 {l:arP}{n:Nat}{x:cN}(h:l[n]? = some x)(m:Nat):nH (l.drop n) m=if x.iZ then nH (l.drop (n+1)) (m+1) else m::nH (l.drop (n+1)) (m+1):=by rw[XY h,nH]
theorem XD {f:Int×ar->Option ((Int×ar)⊕ar)}(jK:arP)(v9:jK.length<=1000)
 (h : ∀(n:Nat) acc x,jK[n]? = some x->f ((n:Int),acc)=if x.iZ=true then some (.inl (J ((n:Int)+1),acc)) else if (acc++[(n:Int)]).length*8<=140737488355328 then some (.inl (J ((n:Int)+1),acc++[(n:Int)])) else none)
 (he : ∀acc,f ((jK.length:Int),acc)=some (.inr acc)):iter f ((0:Int),[])=some ((nH jK 0).map (fun n:Nat=>(n:Int))):=by
 obtain⟨s,h1,h2⟩:=ic (fun (n:Nat) (acc:ar)=>((n:Int),acc)) jK.length (fun n acc=>acc++(nH (jK.drop n) n).map (fun n:Nat=>(n:Int))=(nH jK 0).map (fun n:Nat=>(n:Int))/\acc.length<=n) (fun acc=>acc) (f:=f) (fun n a2 acc dh=>by
  obtain⟨dh,aZ⟩:=dh;have U:=dy a2;rw[ah4 U] at dh;rw[h n acc _ U,q7 (by omega)];by_cases c:jK[n].iZ=true
  ·rw[dz c] at dh ⊢;exact⟨_,rfl,dh,by omega⟩
  rw[dB c] at dh ⊢;rw[dz (by simp only[dD,dI,dQ];omega)];refine⟨_,rfl,?_,by simp only[dD,dI,dQ];omega⟩;rw[List.append_assoc];exact dh) (fun acc _=>he acc) [] ⟨by rw[List.drop_zero];rfl,by simp⟩
 obtain⟨h2,-⟩:=h2;rw[List.drop_length] at h2;simp only[nH,List.map_nil,List.append_nil] at h2;subst h2;exact h1
theorem OY (s:cT)(v9:s.cq.length<=1000):Am s=some ((nH s.cq 0).map (fun n:Nat=>(n:Int))):=by
 unfold Am Vj
 rw[fh,XD s.cq v9 (fun n acc x U=>by
  have a2:=gD U;unfold Gm;exact fb (c8 (az (gt rfl U) rfl))) (fun acc=>by
  unfold Gm;exact fp rfl)]
 rfl
theorem V7 (s:cT)(v9:s.cq.length<=1000):CI s=some ((nH s.cq 0).map (fun n:Nat=>(n:Int))):=by
 unfold CI Sh
 rw[fh,XD s.cq v9 (fun n acc x U=>by
  have a2:=gD U;unfold F7;exact fb (c8 (az (gt rfl U) rfl))) (fun acc=>by
  unfold F7;exact fp rfl)]
 rfl
def hlen:bF->Nat
 | none=>0
 | some (_,c)=>c
def mi:bF->List Nat
 | none=>[]
 | some (q,_)=>[q]
def uh (x:eH):List Nat:=mi x.bQ.bZ++mi x.cC
def ui (P:arR):bF->Int->arR
 | none,_=>P
 | some (q,c),k=>P.set q (marks k c)
structure py (rw:arV) (P:arR):Prop where
 ok : ∀(i:Nat) x,rw[i]? = some x->FU P x
 lt : ∀(i:Nat) x,rw[i]? = some x-> ∀a∈uh x,a<P.length
 M7 : ∀(i:Nat) x,rw[i]? = some x-> ∀a∈mi x.bQ.bZ,a ∉ mi x.cC
 abO : ∀(i j:Nat) x y,rw[i]? = some x->rw[j]? = some y->i<j-> ∀a∈uh x,a ∉ uh y
theorem HP {P:arR}{h:bF}{k:Int}{q:Nat}(a0:q ∉ mi h):(ui P h k)[q]? = P[q]? := by
 cases h with
 | none=>rfl
 | some p =>
  obtain⟨a,c⟩:=p;simp only[mi,List.mem_singleton] at a0;simp only[ui];rw[art,dB (fun e=>a0 e.symm)]
theorem Ya {P:arR}{q c:Nat}{k:Int}(h:q<P.length):(ui P (some (q,c)) k)[q]? = some (marks k c):=by simp only[ui];rw[art,dz rfl,dz h]
theorem PI {P:arR}{h:bF}{k:Int}:(ui P h k).length=P.length:=by
 cases h with
 | none=>rfl
 | some p=>exact List.length_set ..
theorem LQ {P:arR}{h dc:bF}{k:Int}(g:oP P h)(hs:oP P dc):oP (ui P h k) dc:=by
 cases h with
 | none=>exact hs
 | some p =>
  obtain⟨q,c⟩:=p;obtain⟨x,h1,h2,R⟩:=g;exact hs.set h1 (by rw[AF,h2])
theorem XE {P:arR}{h:bF}{k:Int}(e:∀q c,h=some (q,c)->P[q]? = some (marks k c)):jg P h=marks k (hlen h):=by
 cases h with
 | none=>rfl
 | some p =>
  obtain⟨q,c⟩:=p;have:=e q c rfl;simp only[jg,hlen,dN,this,Option.getD_some];exact arp (Nat.le_of_eq (AF ..))
def sM (s:Int×arR)(x:eH):Int×arR:=(s.1+1+hlen x.bQ.bZ+hlen x.cC,ui (ui s.2 x.bQ.bZ (s.1+1)) x.cC (s.1+1+hlen x.bQ.bZ))
def j7 (rw:arV)(s:Int×arR):Nat->Int×arR
 | 0=>s
 | i+1=>match rw[i]? with
  | some x=>sM (j7 rw s i) x
  | none=>j7 rw s i
theorem HF {rw:arV}{s:Int×arR}{i:Nat}{x:eH}(h:rw[i]? = some x):j7 rw s (i+1)=sM (j7 rw s i) x:=by rw[j7,h]
def r6 (rw:arV)(s:Int×arR)(i:Nat):arV:=rw.mapIdx fun j x=>if j<i then ⟨⟨(j7 rw s j).1.tmod 3 == 0,x.bQ.bZ⟩,x.cC⟩ else x
theorem yR {rw:arV}{s:Int×arR}{i j:Nat}{x:eH}(h:rw[j]? = some x):(r6 rw s i)[j]? = some (if j<i then ⟨⟨(j7 rw s j).1.tmod 3 == 0,x.bQ.bZ⟩,x.cC⟩ else x):=by unfold r6;rw[List.getElem?_mapIdx,h];rfl
theorem uJ {rw:arV}{s:Int×arR}{i:Nat}:(r6 rw s i).length=rw.length:=by unfold r6;rw[List.length_mapIdx]
theorem akJ {rw:arV}{s:Int×arR}{i:Nat}{x:eH}(h:rw[i]? = some x):(r6 rw s i).set i ⟨⟨(j7 rw s i).1.tmod 3 == 0,x.bQ.bZ⟩,x.cC⟩=r6 rw s (i+1):=by
 apply arw;intro j;rw[art];by_cases c:i=j
 ·subst c;rw[dz rfl,dz (by rw[uJ];exact gD h),yR h,cL]
 rw[dB c];by_cases ap:j<rw.length
 ·have U:=dy ap
  rw[yR U,yR U];by_cases d:j<i
  ·rw[dz d,cL]
  rw[dB d,eR]
 rw[dT (by rw[uJ];omega),dT (by rw[uJ];omega)]
theorem ajZ {rw:arV}{s:Int×arR}:r6 rw s 0=rw:=by
 apply arw;intro j;by_cases ap:j<rw.length
 ·have U:=dy ap;rw[yR U,eR,U]
 rw[dT (by rw[uJ];omega),dT (by omega)]
theorem HQ {P:arR}{h:bF}(g:oP P h):hlen h<=1048576:=by
 cases h with
 | none=>exact Nat.zero_le _
 | some p=>obtain⟨q,c⟩:=p;obtain⟨x,h1,h2,R⟩:=g;exact R
theorem LR {rw:arV}{P:arR}(o:py rw P){k:Int}(h0:0<=k): ∀n,n<=rw.length->0<=(j7 rw (k,P) n).1/\(j7 rw (k,P) n).1<=k+2097153*n/\(j7 rw (k,P) n).2.length=P.length/\ ∀h,oP P h->oP (j7 rw (k,P) n).2 h:=by
 intro n
 induction n with
 | zero=>intro _;exact⟨h0,by simp only[j7];omega,rfl,fun h g=>g⟩
 | succ n ih =>
  intro a2;obtain⟨fw,fo,bA,eE⟩:=ih (by omega);have U:=dy (show n<rw.length by omega);obtain⟨g1,g2⟩:=o.ok n _ U;rw[HF U];have lo:=HQ g1;have lQ:=HQ g2;refine⟨by simp only[sM];omega,by simp only[sM];omega,by simp only[sM,PI,bA],fun h g=> ?_⟩;simp only[sM];exact LQ (LQ (eE _ g1) (eE _ g2)) (LQ (eE _ g1) (eE _ g))
theorem PJ {P:arR}{k:Int}{h:bF}(hn:oP P h)(h0:0<=k)(a4:k<=500000000000000000):
 (h=none/\yB [] k=some k)\/ ∃j c x,h=some (j,c)/\P[j]? = some x/\yw k 0 c x=some (k+(c:Int),marks k c):=by
 cases h with
 | none=>exact .inl ⟨rfl,agY k⟩
 | some p =>
  obtain⟨j,c⟩:=p;obtain⟨x,h1,h2,R⟩:=hn;subst h2;exact .inr ⟨j,x.length,x,rfl,h1,agB h0 (by omega)⟩
theorem agC {rw:arV}{P:arR}(o:py rw P){k:Int}(h0:0<=k)(h:k+2097153*rw.length<=400000000000000000):
 D9 k rw P=some ((j7 rw (k,P) rw.length).1,r6 rw (k,P) rw.length,(j7 rw (k,P) rw.length).2):=by
 obtain⟨_,e,-⟩:=ic (f:=fun w:Int×Int×arV×arR=>C8 w.1 w.2.1 w.2.2.1 w.2.2.2)
  (fun (i:Nat) (_:Unit)=>((j7 rw (k,P) i).1,(i:Int),r6 rw (k,P) i,(j7 rw (k,P) i).2)) rw.length (fun _ _=>True) (fun _=>((j7 rw (k,P) rw.length).1,r6 rw (k,P) rw.length,(j7 rw (k,P) rw.length).2))
  (fun i aa _ _=>by
    refine⟨(),?_,trivial⟩;obtain⟨fw,fo,bA,eE⟩:=LR o h0 i (by omega);have U:=dy aa;generalize rw[i]=x at U;obtain⟨g1,g2⟩:=o.ok i x U;have lo:=HQ g1;have jw:=eE _ g1;have kE:=eE _ g2;have ak:(r6 rw (k,P) i)[i]? = some x:=(by rw[yR U,eR]);have hw:J ((j7 rw (k,P) i).1+1)=(j7 rw (k,P) i).1+1:=iw (by omega) (by omega);have bS:=akJ (s:=(k,P)) U;have zb:(r6 rw (k,P) (i+1))[i]? = some ⟨⟨(j7 rw (k,P) i).1.tmod 3 == 0,x.bQ.bZ⟩,x.cC⟩:=(by rw[yR U,cL]);rw[HF U];generalize j7 rw (k,P) i=s at *;obtain⟨eh,Q⟩:=s;simp only at fw fo bA eE jw kE hw zb bS;simp only;unfold C8;rw[hw,i1 (by omega)];refine lT (by rw[uJ];omega) (cE (by rw[uJ];omega) (az (x:=x) (by rw[dw,dG];exact ak) ?_));rw[dw,dG,bS];refine az zb ?_;simp only;rcases PJ jw (k:=eh+1) (by omega) (by omega) with ⟨e1,q1⟩|⟨j,c,y,e1,q1,q2⟩
    ·refine RN e1 (az q1 ?_)
     rcases PJ kE (k:=eh+1) (by omega) (by omega) with ⟨e2,r1⟩|⟨jZ,eG,oz,e2,r1,r2⟩
     ·exact RN e2 (az r1 (by simp only[sM,e1,e2,hlen,ui,Int.add_zero,Int.ofNat_zero,Int.natCast_zero]))
     exact RO e2 (az r1 (az r2 (by simp only[sM,e1,e2,hlen,ui,Int.add_zero,Int.ofNat_zero,Int.natCast_zero])))
    refine RO e1 (az q1 (az q2 ?_));have sa:=LQ (k:=eh+1) jw kE;rw[e1] at sa lo;simp only[ui] at sa;simp only[hlen] at lo;rcases PJ sa (k:=eh+1+(c:Int)) (by omega) (by omega) with ⟨e2,r1⟩|⟨jZ,eG,oz,e2,r1,r2⟩
    ·exact RN e2 (az r1 (by simp only[sM,e1,e2,hlen,ui,Int.add_zero,Int.ofNat_zero,Int.natCast_zero]))
    exact RO e2 (az r1 (az r2 (by simp only[sM,e1,e2,hlen,ui]))))
  (fun _ _=>by simp only;unfold C8;exact la (by rw[uJ];omega) rfl) () trivial
 simp only[ajZ,j7] at e;unfold D9 Uk;exact az e rfl
theorem aj0 {rw:arV}{P:arR}(o:py rw P){k:Int}{i:Nat}{x:eH}(U:rw[i]? = some x): ∀n,i<n->n<=rw.length ->
 (∀q c,x.bQ.bZ=some (q,c)->(j7 rw (k,P) n).2[q]? = some (marks ((j7 rw (k,P) i).1+1) c))/\(∀q c,x.cC=some (q,c)->(j7 rw (k,P) n).2[q]? = some (marks ((j7 rw (k,P) i).1+1+hlen x.bQ.bZ) c)):=by
 intro n
 induction n with
 | zero=>intro h;omega
 | succ n ih =>
  intro h1 h2;by_cases c:i=n
  ·subst c
   rw[HF U]
   have aZ:(j7 rw (k,P) i).2.length=P.length:=by
    have key : ∀m,(j7 rw (k,P) m).2.length=P.length:=by
     intro m
     induction m with
     | zero=>rfl
     | succ m ih =>
      rw[j7];split
      ·simp only[sM,PI,ih]
      exact ih
    exact key i
   refine⟨fun q c e=> ?_,fun q c e=> ?_⟩
   ·have a0:q∈mi x.bQ.bZ:=(by rw[e];simp[mi]);simp only[sM];rw[HP (o.M7 i x U q a0),e,Ya (by rw[aZ];exact o.lt i x U q (List.mem_append_left _ a0))]
   have a0:q∈mi x.cC:=(by rw[e];simp[mi]);simp only[sM];rw[e,Ya (by rw[PI,aZ];exact o.lt i x U q (List.mem_append_right _ a0))]
  obtain⟨e1,e2⟩:=ih (by omega) (by omega);have aY:=dy (show n<rw.length by omega);have bI:=o.abO i n x _ U aY (by omega);rw[HF aY];refine⟨fun q c e=> ?_,fun q c e=> ?_⟩
  ·have a0:q∈uh x:=List.mem_append_left _ (by rw[e];simp[mi]);have:=bI q a0;unfold uh at this;rw[List.mem_append,not_or] at this;simp only[sM];rw[HP this.2,HP this.1];exact e1 q c e
  have a0:q∈uh x:=List.mem_append_right _ (by rw[e];simp[mi]);have:=bI q a0;unfold uh at this;rw[List.mem_append,not_or] at this;simp only[sM];rw[HP this.2,HP this.1];exact e2 q c e
theorem Wz {rw:arV}{P:arR}(o:py rw P){k:Int}(h0:0<=k)(h:k+2097153*rw.length<=400000000000000000):
 xf ((r6 rw (k,P) rw.length).map (mq (j7 rw (k,P) rw.length).2)) k=some (j7 rw (k,P) rw.length).1:=by
 obtain⟨_,e,-⟩:=ic (f:=fun w:Int×Int=>Dr ((r6 rw (k,P) rw.length).map (mq (j7 rw (k,P) rw.length).2)) w.1 w.2)
  (fun (i:Nat) (_:Unit)=>((j7 rw (k,P) i).1,(i:Int))) rw.length (fun _ _=>True) (fun _=>(.inl (j7 rw (k,P) rw.length).1:Int⊕Unit))
  (fun i aa _ _=>by refine⟨(),?_,trivial⟩;obtain⟨fw,fo,-,-⟩:=LR o h0 i (by omega);have U:=dy aa;generalize rw[i]=x at U;obtain⟨g1,g2⟩:=o.ok i x U;have lo:=HQ g1;have lQ:=HQ g2;obtain⟨k0,kh⟩:=aj0 o (k:=k) U rw.length (by omega) (dE _);have v1:=XE k0;have v2:=XE kh;rw[HF U];have ak:((r6 rw (k,P) rw.length).map (mq (j7 rw (k,P) rw.length).2))[i]? = some ⟨⟨(j7 rw (k,P) i).1.tmod 3 == 0,marks ((j7 rw (k,P) i).1+1) (hlen x.bQ.bZ)⟩,marks ((j7 rw (k,P) i).1+1+hlen x.bQ.bZ) (hlen x.cC)⟩:=(by rw[dK,yR U,dz aa];simp only[arq,mq,v1,v2]);generalize j7 rw (k,P) i=s at *;obtain⟨eh,Q⟩:=s;simp only at fw fo ak;simp only;unfold Dr;rw[fh,arC,uJ,i1 (by omega),c7 (x:=eh+1)];exact fb (c8 (az (gt rfl ak) (gd (by simp) (az (VY (by omega) (by omega)) (fp (az (VY (by omega) (by omega)) (fp rfl))))))))
  (fun _ _=>by simp only;unfold Dr;rw[fh,arC,uJ];exact fp rfl) () trivial
 simp only[j7] at e;unfold xf Ve;exact az e rfl
theorem alx {rw:arV}{P:arR}(o:py rw P){k:Int}(h0:0<=k):(r6 rw (k,P) rw.length).all (xv (j7 rw (k,P) rw.length).2)=true:=by rw[List.all_eq_true];intro y aY;obtain⟨i,aa⟩:=arB aY;have aZ:=gD aa;rw[uJ] at aZ;have U:=dy aZ;rw[yR U,dz aZ] at aa;obtain rfl:=dJ aa;obtain⟨g1,g2⟩:=o.ok i _ U;obtain⟨-,-,-,eE⟩:=LR o h0 rw.length (dE _);exact FU.JG ⟨eE _ g1,eE _ g2⟩
theorem py.all {rw:arV}{P:arR}(o:py rw P):rw.all (xv P)=true:=by rw[List.all_eq_true];intro y aY;obtain⟨i,aa⟩:=arB aY;exact(o.ok i y aa).JG
theorem py.nil (P:arR):py [] P:=⟨fun i x h=>by simp at h,fun i x h=>by simp at h,fun i x h=>by simp at h,fun i j x y h=>by simp at h⟩
theorem py.aw {rw:arV}{P Q:arR}(o:py rw P){x:eH}(h1:FU (P++Q) x)(h2:∀a∈uh x,P.length<=a/\a<(P++Q).length)(R:∀a∈mi x.bQ.bZ,a ∉ mi x.cC):
 py (rw++[x]) (P++Q)/\rw.map (mq (P++Q))=rw.map (mq P):=by
 have get : ∀ {i:Nat} {y:eH},(rw++[x])[i]? = some y->rw[i]? = some y\/(i=rw.length/\y=x):=fun {i y} h=>by
  by_cases c:i<rw.length
  ·rw[ars c] at h;exact .inl h
  rw[arx (by omega)] at h;have aZ:=gD h;simp at aZ;have aa:i=rw.length:=(by omega);rw[aa,Nat.sub_self] at h;exact .inr ⟨aa,by simpa using h.symm⟩
 refine⟨⟨fun i y h=> ?_,fun i y h=> ?_,fun i y h=> ?_,fun i j y z aY cK sE=> ?_⟩,?_⟩
 ·rcases get h with g|⟨-,rfl⟩
  ·obtain⟨g1,g2⟩:=o.ok i y g;exact⟨(g1.aw Q).1,(g2.aw Q).1⟩
  exact h1
 ·rcases get h with g|⟨-,rfl⟩
  ·intro a bH;have:=o.lt i y g a bH;rw[dD];omega
  exact fun a bH=>(h2 a bH).2
 ·rcases get h with g|⟨-,rfl⟩
  ·exact o.M7 i y g
  exact R
 ·rcases get aY with g|⟨aa,rfl⟩
  ·rcases get cK with hs|⟨-,rfl⟩
   ·exact o.abO i j y z g hs sE
   intro a bH aO;have:=o.lt i y g a bH;have:=(h2 a aO).1;omega
  rcases get cK with hs|⟨ap,-⟩
  ·have:=gD hs;omega
  omega
 refine arE fun y aY=> ?_;obtain⟨i,aa⟩:=arB aY;obtain⟨g1,g2⟩:=o.ok i y aa;simp only[mq,(g1.aw Q).2,(g2.aw Q).2]
abbrev JX:=(Bool)⊕((Bool×ar)⊕((Bool×ar)⊕(Bool×ar×ar)))
def qg (b:Nat):JX->eH
 | .inl a=>⟨⟨a,none⟩,none⟩
 | .inr (.inl a)=>⟨⟨a.1,none⟩,some (b,a.2.length)⟩
 | .inr (.inr (.inl a))=>⟨⟨a.1,some (b,a.2.length)⟩,none⟩
 | .inr (.inr (.inr a))=>⟨⟨a.1,some (b,a.2.1.length)⟩,some (b+1,a.2.2.length)⟩
def pz:JX->arR
 | .inl _=>[]
 | .inr (.inl a)=>[a.2]
 | .inr (.inr (.inl a))=>[a.2]
 | .inr (.inr (.inr a))=>[a.2.1,a.2.2]
def B1:JX->au
 | .inl a=>⟨⟨a,[]⟩,[]⟩
 | .inr (.inl a)=>⟨⟨a.1,[]⟩,a.2⟩
 | .inr (.inr (.inl a))=>⟨⟨a.1,a.2⟩,[]⟩
 | .inr (.inr (.inr a))=>⟨⟨a.1,a.2.1⟩,a.2.2⟩
theorem py.add {rw:arV}{P:arR}(o:py rw P)(r:JX)(aZ:∀l∈pz r,l.length<=1048576):
 py (rw++[qg P.length r]) (P++pz r)/\(rw++[qg P.length r]).map (mq (P++pz r))=rw.map (mq P)++[B1 r]:=by
 have na : ∀ {Q:arR} {x:ar},Q[0]? = some x->x.length<=1048576->oP (P++Q) (some (P.length,x.length))/\jg (P++Q) (some (P.length,x.length))=x:=fun h h2=>oP.new (n:=0) h h2;have n1 : ∀ {Q:arR} {x:ar},Q[1]? = some x->x.length<=1048576->oP (P++Q) (some (P.length+1,x.length))/\jg (P++Q) (some (P.length+1,x.length))=x:=fun h h2=>oP.new (n:=1) h h2
 have key:FU (P++pz r) (qg P.length r)/\(∀a∈uh (qg P.length r),P.length<=a/\a<(P++pz r).length)/\(∀a∈mi (qg P.length r).bQ.bZ,a ∉ mi (qg P.length r).cC)/\mq (P++pz r) (qg P.length r)=B1 r:=by
  rcases r with a|a|a|a
  ·exact⟨⟨trivial,trivial⟩,by simp[uh,mi,qg],by simp[mi,qg],rfl⟩
  ·obtain⟨g1,g2⟩:=na (Q:=[a.2]) (x:=a.2) rfl (aZ a.2 (by simp[pz]));exact⟨⟨trivial,g1⟩,by simp[uh,mi,qg,pz],by simp[mi,qg],by simp only[mq,qg,pz,B1,g2];rfl⟩
  ·obtain⟨g1,g2⟩:=na (Q:=[a.2]) (x:=a.2) rfl (aZ a.2 (by simp[pz]));exact⟨⟨g1,trivial⟩,by simp[uh,mi,qg,pz],by simp[mi,qg],by simp only[mq,qg,pz,B1,g2];rfl⟩
  obtain⟨g1,g2⟩:=na (Q:=[a.2.1,a.2.2]) (x:=a.2.1) rfl (aZ a.2.1 (by simp[pz]));obtain⟨g3,g4⟩:=n1 (Q:=[a.2.1,a.2.2]) (x:=a.2.2) rfl (aZ a.2.2 (by simp[pz]));exact⟨⟨g1,g3⟩,by simp[uh,mi,qg,pz],by simp[mi,qg],by simp only[mq,qg,pz,B1,g2,g4]⟩
 obtain⟨k0,kh,pB,JU⟩:=key;obtain⟨fw,fo⟩:=o.aw (Q:=pz r) k0 kh pB;exact⟨fw,by rw[List.map_append,fo,List.map_singleton,JU]⟩
theorem aj1 {p:Int×Int}(ai:Fr p):Ap (QC (some p))=some (if p.1=0 then .inr (.inl (false,L p.2)) else .inr (.inr (.inr (decide (p.1<0),L p.1.natAbs,L p.2)))):=by
 have h1:=ai.rP;have h2:=ai.rc;have R : ¬L p.2=[]:=fun e=>by have:=(O9 (by have:=ai.pos;omega)).1 e;have:=ai.pos;omega
 have cp:Gu (hM p.1)=some (if p.1=0 then .inl false else .inr (decide (p.1<0),L p.1.natAbs)):=by
  unfold Gu;have e:(hM p.1).bZ=L p.1.natAbs:=rfl;rw[e,fh];refine fp (az (YO (by omega)) ?_);by_cases c:p.1=0
  ·have eG:L (p.1.natAbs:Int)=[]:=(O9 (by omega)).2 (by omega);have e2:(hM p.1).cQ=false:=(by show decide (p.1<0)=false;exact decide_eq_false (by omega));rw[dz eG,dz c];simp only[e2]
  have eG : ¬L (p.1.natAbs:Int)=[]:=fun e=>(by have:=(O9 (by omega)).1 e;omega);rw[dB eG,dB c];rfl
 unfold Ap QC;simp only[arq,Option.elim_some];have e1:(o8 p).uX=hM p.1:=rfl;have e2:(o8 p).tc=L p.2:=rfl;rw[e1,e2];refine az cp ?_;rw[YO (by omega),dB R];by_cases c:p.1=0
 ·rw[dz c,dz c];rfl
 rw[dB c,dB c];rfl
def fg (x:Rat):Int×Int:=(x.num,(x.den:Int))
def e5 (x:Rat):Prop:=(x.num.natAbs:Int)<B 24/\(x.den:Int)<B 24
def cl (x:Rat):au:=mk (fg x)
instance apS (x:Rat):Decidable (e5 x):=by unfold e5;infer_instance
theorem e5.ec {x:Rat}(h:e5 x):Fr (fg x):=⟨by have:=x.den_pos;simp only[fg];omega,by simp only[fg];rw[Int.gcd,Int.natAbs_natCast];exact x.reduced,h.1,h.2⟩
theorem akK {n d:Int}(bI:0<d):low n d=if e5 (Rat.divInt n d) then some (fg (Rat.divInt n d)) else none:=by
 have e1:(Rat.divInt n d).num=n / (Int.gcd n d:Int):=by rw[Rat.num_divInt,Int.sign_eq_one_of_pos bI,Int.one_mul,Int.gcd_comm]
 have e2:((Rat.divInt n d).den:Int)=d / (Int.gcd n d:Int):=by rw[Rat.den_divInt,eR,Int.gcd_comm];rw[Int.natCast_ediv,Int.natAbs_of_nonneg (by omega)]
 have bG:e5 (Rat.divInt n d)↔fits ((n / (Int.gcd n d:Int)).natAbs:Int)/\fits (d / (Int.gcd n d:Int)):=by unfold e5 fits;rw[e1,e2]
 unfold low;by_cases c:e5 (Rat.divInt n d)
 ·rw[dz c,dz (bG.1 c)];unfold fg;rw[e1,e2]
 rw[dB c,dB (fun x=>c (bG.2 x))]
theorem Pu {n d:Int}{x:Rat}(bI:0<d)(e:(d:Rat)*x=n)(h:e5 x):low n d=some (fg x):=by
 have tV:(d:Rat)≠0:=fun c=>by have:d=0:=Rat.intCast_inj.1 (by rw[c];rfl);omega
 have:x=Rat.divInt n d:=by rw[Rat.divInt_eq_div,<- e];grind
 rw[akK bI,<- this,dz h]
theorem wv (x:Rat):((x.den:Int):Rat)*x=((x.num:Int):Rat):=by
 have h:x=(x.num:Rat) / ((x.den:Int):Rat):=by rw[<- Rat.divInt_eq_div,Rat.num_divInt_den]
 have bI:((x.den:Int):Rat)≠0:=fun c=>by have:(x.den:Int)=0:=Rat.intCast_inj.1 (by rw[c];rfl);have:=x.den_pos;omega
 conv=>lhs;rhs;rw[h]
 grind
theorem Zs {x y:Rat}(U:e5 x)(aY:e5 y)(h:e5 (x*y)):xl (cl x) (cl y)=some (cl (x*y)):=by unfold cl;rw[aiM U.ec aY.ec,Pu (x:=x*y) (Int.mul_pos U.ec.pos aY.ec.pos) ?_ h];rfl;have h1:=wv x;have h2:=wv y;simp only[fg,arG];grind
theorem H5 {x y:Rat}(U:e5 x)(aY:e5 y)(h:e5 (x+y)):ty (cl x) (cl y)=some (cl (x+y)):=by unfold cl;rw[aiX U.ec aY.ec,Pu (x:=x+y) (Int.mul_pos U.ec.pos aY.ec.pos) ?_ h];rfl;have h1:=wv x;have h2:=wv y;simp only[fg,arG,Rat.intCast_add];grind
theorem e5.neg {x:Rat}(h:e5 x):e5 (-x):=by unfold e5 at h ⊢;rw[Rat.neg_num,Rat.neg_den,Int.natAbs_neg];exact h
theorem LS {x:Rat}(U:e5 x):vr (cl x)=some (cl (-x)):=by unfold cl;rw[aiW U.ec];simp only[fg,Rat.neg_num,Rat.neg_den]
theorem aj2 {p:Int×Int}(h:Fr p):tz (mk p)=some true:=by
 have MT:(L p.1.natAbs).length<=24:=(jW (by omega)).2 h.num;have Jf:(L p.2).length<=24:=(jW (by have:=h.pos;omega)).2 h.den;have ai:=h.pos;obtain⟨cf,fw,fo⟩:=OX (a:=L p.1.natAbs) (by omega);obtain⟨aU,jw,kE⟩:=OX (a:=L p.2) (by omega);have h1:cf=true:=fo.2 ⟨kc _,by omega⟩;have h2:aU=true:=kE.2 ⟨kc _,by omega⟩;subst h1;subst h2;have bI:(L p.2)≠[]:=fun c=>by have:=wH.1 c;omega
 have aqY:=arF.mpr bI
 have e1:G2 (mk p).bQ=some true:=by
  unfold G2;show (xn (L p.1.natAbs)).bind _=_;rw[fw];simp only[dx,if_true,hS];show (if decide (p.1<0)=true then some (decide ((0:Int)<(L p.1.natAbs).length)) else some true)=_;by_cases c:p.1<0
  ·rw[dz (by simpa using c)];have:L p.1.natAbs≠[]:=fun c=>(by have:=wH.1 c;omega);have:=arF.mpr this;rw[decide_eq_true (by omega)]
  rw[dB (by simpa using c)]
 unfold tz;rw[e1];simp only[dC,dx,if_true,hS];show (xn (L p.2)).bind _=_;rw[jw];simp only[dx,if_true];rw[show (mk p).cC=L p.2 from rfl,show (mk p).bQ.bZ=L p.1.natAbs from rfl];rw[dB (by simp[bI]),dB (by simp;omega),dB (by simp;omega)];rw[Zn (kc _) (kc _) (by omega) (by omega),gP,gP,PH (by omega),h.aa3];simp only[dx];rw[H3 (by omega)];rfl
theorem y8 {x:Rat}(U:e5 x):tz (cl x)=some true:=aj2 U.ec
def kC (x:Rat):Int:=if x=0 then 0 else if x<0 then -1 else 1
theorem rE {x:Rat}(U:e5 x):rz (cl x)=some (kC x):=by
 unfold rz;rw[y8 U];simp only[dC,dx,if_true,hS];show (if (((L (fg x).1.natAbs).length:Int) == 0)=true then some 0 else if decide ((fg x).1<0)=true then some (-1) else some 1)=_;have e:((L (fg x).1.natAbs).length:Int)=0↔x.num=0:=by rw[II (by omega)];simp only[fg];omega
 unfold kC;by_cases h0:x=0
 ·rw[dz h0,dz];rw[beq_iff_eq,e,Rat.num_eq_zero];exact h0
 rw[dB h0,dB (by rw[beq_iff_eq,e,Rat.num_eq_zero];exact h0)];by_cases h1:x<0
 ·have h2 : ¬0<=x:=(by grind);have R : ¬0<=x.num:=fun c=>h2 (Rat.num_nonneg.1 c);rw[dz h1,dz (decide_eq_true (show (fg x).1<0 by simp only[fg];omega))]
 have h2:0<=x:=by grind
 have R:0<=x.num:=Rat.num_nonneg.2 h2;rw[dB h1,dB (fun c=>by have:=of_decide_eq_true c;simp only[fg] at this;omega)]
theorem aly {x y:Rat}(U:e5 x)(aY:e5 y):Au (cl x) (cl y)=some (if x<y then -1 else if y<x then 1 else 0):=by unfold cl;rw[aiO U.ec aY.ec];unfold nt;simp only[fg,<- Rat.lt_iff]
theorem Zt {x y:Rat}(U:e5 x)(aY:e5 y)(h0:y≠0)(h:e5 (x / y)):At (cl x) (cl y)=some (cl (x / y)):=by
 have h1:=U.ec.rP;have h2:=U.ec.rc;have R:=aY.ec.rP;have aj:=aY.ec.rc;have aq:=U.ec.pos;have aM:(0:Int)<(fg y).1.natAbs:=by have:(fg y).1≠0:=fun c=>h0 (Rat.num_eq_zero.1 c);omega
 have ba:=yQ (x:=(fg x).1.natAbs) (y:=(fg y).2) (by omega) (by have:=aY.ec.pos;omega) U.ec.num aY.ec.den;have bj:=yQ (x:=(fg x).2) (y:=(fg y).1.natAbs) (by omega) (by omega) U.ec.den aY.ec.num;have e1:kb (L (fg x).1.natAbs) (L (fg y).2)=some (L (((fg x).1.natAbs:Int)*(fg y).2)):=by rw[mul_eq (iS _) (iS _) (by omega) (by omega),gP,lv (by have:=aY.ec.pos;omega)]
 have e2:kb (L (fg x).2) (L (fg y).1.natAbs)=some (L ((fg x).2*((fg y).1.natAbs:Int))):=by rw[mul_eq (iS _) (iS _) (by omega) (by omega),gP,gP]
 unfold At;rw[y8 U,y8 aY];simp only[dC,dx,if_true];show (kb (L (fg x).1.natAbs) (L (fg y).2)).bind _=_;rw[e1];simp only[dx];show (kb (L (fg x).2) (L (fg y).1.natAbs)).bind _=_;rw[e2];simp only[dx];rw[O7 (Int.mul_nonneg (by omega) (by have:=aY.ec.pos;omega)) (Int.mul_pos aq aM) (by omega) (by omega)];simp only[dx];rw[Pu (x:=x / y) (Int.mul_pos aq aM) ?_ h];rfl;have d1:=wv x;have d2:=wv y
 have bG:fs (!((cl x).bQ.cQ == (cl y).bQ.cQ)) (((fg x).1.natAbs:Int)*(fg y).2)=(if y<0 then -1 else 1)*((fg x).1*(fg y).2):=by
  show fs (!(decide ((fg x).1<0) == decide ((fg y).1<0))) _=_;have a2:=Rat.num_nonneg (q:=y);have hm:0<=((fg x).1.natAbs:Int)*(fg y).2:=Int.mul_nonneg (by omega) (by have:=aY.ec.pos;omega)
  have Jv:y<0↔(fg y).1<0:=by
   have R:=Rat.num_nonneg (q:=y);simp only[fg];constructor
   ·intro c;have : ¬0<=y:=(by grind);have aj : ¬0<=y.num:=fun c=>this (R.1 c);omega
   intro c;have : ¬0<=y:=fun eG=>(by have:=R.2 eG;omega);grind
  by_cases a6:(fg x).1<0<;>by_cases cw:(fg y).1<0
  ·rw[dz (Jv.2 cw),decide_eq_true a6,decide_eq_true cw];simp only[fs,BEq.rfl,Bool.not_true,arA,if_false];rw[show ((fg x).1.natAbs:Int) = -(fg x).1 by omega];grind
  ·rw[dB (fun c=>cw (Jv.1 c)),decide_eq_true a6,decide_eq_false cw];simp only[fs,show (!(true == false))=true from rfl,if_true];rw[show ((fg x).1.natAbs:Int) = -(fg x).1 by omega];grind
  ·rw[dz (Jv.2 cw),decide_eq_false a6,decide_eq_true cw];simp only[fs,show (!(false == true))=true from rfl,if_true];rw[show ((fg x).1.natAbs:Int)=(fg x).1 by omega];grind
  rw[dB (fun c=>cw (Jv.1 c)),decide_eq_false a6,decide_eq_false cw];simp only[fs,BEq.rfl,Bool.not_true,arA,if_false];rw[show ((fg x).1.natAbs:Int)=(fg x).1 by omega];grind
 rw[bG]
 have cR:(((fg y).1.natAbs:Int):Rat)=(if y<0 then -1 else 1)*(((fg y).1:Int):Rat):=by
  have a2:=Rat.num_nonneg (q:=y);by_cases c:y<0
  ·have:y.num<0:=by have : ¬0<=y.num:=fun h=>by have:=a2.1 h;grind
                    omega
   rw[dz c,show ((fg y).1.natAbs:Int) = -(fg y).1 by simp only[fg];omega,Rat.intCast_neg];grind
  have:0<=y.num:=a2.2 (by grind);rw[dB c,show ((fg y).1.natAbs:Int)=(fg y).1 by simp only[fg];omega];grind
 rw[arG,cR,arG,arG];simp only[fg] at *;split<;>grind
end Go.Proofs.YthgbjflfgmahbafGreat
