/- Lemmas, plain functions of the program, and what they answer. No condition. -/
import Derived.Test.YtdkjpcaalflfhacMB
namespace Go.Proofs.Ytdkjpcaalflfhac
set_option linter.unusedVariables false
set_option linter.unusedSimpArgs false
open Go Go.VL
def sG (ap:aQ)(dX:Int):Option Int :=
 if (decide ((ak (dX-(ap.eP.size:Int)))<(0:Int)))=true then
  some (-1)
 else
  some (ak (dX-(ap.eP.size:Int)))
theorem HK {ap:aQ}{dX:Int}:bL (sG ap dX) (fun r=>Con bo 34 [.agg (aH ap),.n .i64 dX] [] (.n .i64 r) []):=by
 unfold sG
 exact (let t1:List cd:=[(ab 2),(ab 6),(ab 2)];
  .ite (fun h1 =>
  .ret (bJ (t1.append [.al true,(ab 1)]) (.e1 h1)))
  (fun h1 =>
  .ret (bJ (t1.append [.al false,(ab 2)]) (.e1 h1))))
def x9 (ap:List aQ):(Int×Int)→S:=fun (dX,ai)=>dP [(0,.isl 4 (ap.map aH)),(1,.n .i64 dX),(5,.n .i64 ai)] []
def yj (ap:List aQ):((Int)⊕(Unit))→dT
 | .inl a=>⟨some 0,[(1,.n .i64 a)],[]⟩
 | .inr a=>⟨none,[(4,.n .i64 (-1:Int))],[]⟩
def oC (ap:List aQ)(dX ai:Int):Option ((Int×Int)⊕((Int)⊕(Unit))) :=
 if (decide (ai<(len_ aH ap)))=true then
  if 0≤ai∧ai<ap.length then
  ap[ai.toNat]? >>= fun aP =>
  sG aP dX >>= fun aJ =>
  if (decide (aJ<(0:Int)))=true then
   some (.inr (.inr ()))
  else
   some (.inl (aJ,ak (ai+(1:Int))))
  else none
 else
  some (.inr (.inl dX))
def yU (ap:List aQ)(dX ai:Int):Option ((Int)⊕(Unit)):=iter (fun w:Int×Int=>oC ap w.1 w.2) (dX,ai)
theorem Gk {ap:List aQ}{dX ai:Int}:bL (oC ap dX ai) (eD bo 27 0 17 [1,1,1,0,1,0,0] (x9 ap (dX,ai)) (x9 ap) (yj ap)):=by
 unfold oC
 exact .ite (fun h1 =>
  .bx fun I =>
  .aT fun aP aB =>
  .aT fun aJ bq =>
  (let t1:List cd:=[(ab 4),.al true,.aS (aO 3 (aZ (.cO (aH aP)) (bM 1 (cF 2 (.n .i64 aJ) true) 1))),(ab 2)];
  have aW:=((.e9 h1 I.1 (dJ aH I.2) (dm aH aB) (HK aJ bq) (bj.n .i64 aJ)):cA _);
  .ite (fun bA =>
  .ret (bK (t1.append [.al true,(ab 1),.bc [] [] (bD [4])]) (aW.aI (.e1 bA))))
  (fun bA =>
  .ret (bK (t1.append [.al false,(ab 3),.bc [] [] (bD [0,1,5])]) (aW.aI (.e1 bA))))))
  (fun h1 =>
  .ret (bK [(ab 4),.al false,.bc [] [] (bD [1])] (.e1 h1)))
theorem BE {ap:List aQ}{dX ai:Int}{r} (h:yU ap dX ai=some r):eE bo 27 0 17 [1,1,1,0,1,0,0] (x9 ap) (yj ap) (dX,ai) r:=eF (fun _=>Gk) h
def sw (ap:List aQ)(dX:Int):Option Int :=
 if (decide ((ak (dX-(len_ aH ap)))<(0:Int)))=true then
  some (-1)
 else
  yU ap (ak (dX-(len_ aH ap))) 0 >>= fun bF =>
  match bF with
  | .inl fS=>(some fS)
  | .inr fS=>(some (-1))
theorem Hv {ap:List aQ}{dX:Int}:bL (sw ap dX) (fun r=>Con bo 17 [.isl 4 (ap.map aH),.n .i64 dX] [] (.n .i64 r) []):=by
 unfold sw
 exact (let t1:List cd:=[(ab 1),(ab 5),(ab 2)];
  .ite (fun h1 =>
  .ret (bJ (t1.append [.al true,(ab 1)]) (.e1 h1)))
  (fun h1 =>
  .aT fun bF aj =>
  (let t2:List cd:=t1.append [.al false,(ab 1),.bc [] [] (bD [0,1,5])];
  (by
  rcases bF with fS|fS
  ·exact (.ret (bJ (t2.append [.sub (.exit 0) [(1,.n .i64 fS)] [],(ab 2)]) (.au h1 (BE aj))))
  ·exact (.ret (bJ (t2.append [(yj ap (.inr fS)).gF]) (.au h1 (BE aj))))))))
def sr (ap:List a2)(dX:Int):Option Int :=
 if (decide ((ak (dX-(len_ aX ap)))<(0:Int)))=true then
  some (-1)
 else
  some (ak (dX-(len_ aX ap)))
theorem Ho {ap:List a2}{dX:Int}:bL (sr ap dX) (fun r=>Con bo 18 [.isl 3 (ap.map aX),.n .i64 dX] [] (.n .i64 r) []):=by
 unfold sr
 exact (let t1:List cd:=[(ab 1),(ab 5),(ab 2)];
  .ite (fun h1 =>
  .ret (bJ (t1.append [.al true,(ab 1)]) (.e1 h1)))
  (fun h1 =>
  .ret (bJ (t1.append [.al false,(ab 2)]) (.e1 h1))))
def oG (ap:bE)(dX:Int):Option Int :=
 sw ap.a3 dX >>= fun r1 =>
 if (decide (r1<(0:Int)))=true then
  some (-1)
 else
  sr ap.a7 r1 >>= fun br =>
  if (decide (br<(0:Int)))=true then
   some (-1)
  else
   some br
theorem G3 {ap:bE}{dX:Int}:bL (oG ap dX) (fun r=>Con bo 4 [.agg (fi ap),.n .i64 dX] [] (.n .i64 r) []):=by
 unfold oG
 exact .aT fun r1 I =>
  (let t1:List cd:=[(ab 2),.aS (bM 3 (cF 2 (.n .i64 r1) true) 1),(ab 2)];
  have aW:=((.au (Hv r1 I) (bj.n .i64 r1)):cA _);
  .ite (fun aj =>
  .ret (bJ (t1.append [.al true,(ab 1)]) (aW.aI (.e1 aj))))
  (fun aj =>
  .aT fun br bk =>
  (let t3:List cd:=t1.append [.al false,.aS (bM 3 (cF 2 (.n .i64 br) true) 1),(ab 2)];
  have fl:=aW.aI (.bB aj (Ho br bk) (bj.n .i64 br));
  .ite (fun bq =>
  .ret (bJ (t3.append [.al true,(ab 1)]) (fl.aI (.e1 bq))))
  (fun bq =>
  .ret (bJ (t3.append [.al false,(ab 2)]) (fl.aI (.e1 bq)))))))
def sP (ap:List Int)(dX:Int):Option Int :=
 if (decide ((ak (dX-(len_ eI ap)))<(0:Int)))=true then
  some (-1)
 else
  some (ak (dX-(len_ eI ap)))
theorem HZ {ap:List Int}{dX:Int}:bL (sP ap dX) (fun r=>Con bo 19 [.isl 1 (ap.map eI),.n .i64 dX] [] (.n .i64 r) []):=by
 unfold sP
 exact (let t1:List cd:=[(ab 1),(ab 5),(ab 2)];
  .ite (fun h1 =>
  .ret (bJ (t1.append [.al true,(ab 1)]) (.e1 h1)))
  (fun h1 =>
  .ret (bJ (t1.append [.al false,(ab 2)]) (.e1 h1))))
def yk (ap:List (List Int)):(Int×Int)→S:=fun (dX,ai)=>dP [(0,.isl 1 (ap.map (eL 1 eI))),(1,.n .i64 dX),(5,.n .i64 ai)] []
def yw (ap:List (List Int)):((Int)⊕(Unit))→dT
 | .inl a=>⟨some 0,[(1,.n .i64 a)],[]⟩
 | .inr a=>⟨none,[(4,.n .i64 (-1:Int))],[]⟩
def qs (ap:List (List Int))(dX ai:Int):Option ((Int×Int)⊕((Int)⊕(Unit))) :=
 if (decide (ai<(len_ (eL 1 eI) ap)))=true then
  if 0≤ai∧ai<ap.length then
  ap[ai.toNat]? >>= fun aP =>
  sP aP dX >>= fun aJ =>
  if (decide (aJ<(0:Int)))=true then
   some (.inr (.inr ()))
  else
   some (.inl (aJ,ak (ai+(1:Int))))
  else none
 else
  some (.inr (.inl dX))
def y1 (ap:List (List Int))(dX ai:Int):Option ((Int)⊕(Unit)):=iter (fun w:Int×Int=>qs ap w.1 w.2) (dX,ai)
theorem Gu {ap:List (List Int)}{dX ai:Int}:bL (qs ap dX ai) (eD bo 27 0 5 [1,1,1,0,1,0,0] (yk ap (dX,ai)) (yk ap) (yw ap)):=by
 unfold qs
 exact .ite (fun h1 =>
  .bx fun I =>
  .aT fun aP aB =>
  .aT fun aJ bq =>
  (let t1:List cd:=[(ab 4),.al true,.aS (aO 3 (aZ (.cO ((eL 1 eI) aP)) (bM 1 (cF 2 (.n .i64 aJ) true) 1))),(ab 2)];
  have aW:=((.e9 h1 I.1 (dJ (eL 1 eI) I.2) (dm (eL 1 eI) aB) (HZ aJ bq) (bj.n .i64 aJ)):cA _);
  .ite (fun bA =>
  .ret (bK (t1.append [.al true,(ab 1),.bc [] [] (bD [4])]) (aW.aI (.e1 bA))))
  (fun bA =>
  .ret (bK (t1.append [.al false,(ab 3),.bc [] [] (bD [0,1,5])]) (aW.aI (.e1 bA))))))
  (fun h1 =>
  .ret (bK [(ab 4),.al false,.bc [] [] (bD [1])] (.e1 h1)))
theorem BM {ap:List (List Int)}{dX ai:Int}{r} (h:y1 ap dX ai=some r):eE bo 27 0 5 [1,1,1,0,1,0,0] (yk ap) (yw ap) (dX,ai) r:=eF (fun _=>Gu) h
def sH (ap:List (List Int))(dX:Int):Option Int :=
 if (decide ((ak (dX-(len_ (eL 1 eI) ap)))<(0:Int)))=true then
  some (-1)
 else
  y1 ap (ak (dX-(len_ (eL 1 eI) ap))) 0 >>= fun bF =>
  match bF with
  | .inl fS=>(some fS)
  | .inr fS=>(some (-1))
theorem HL {ap:List (List Int)}{dX:Int}:bL (sH ap dX) (fun r=>Con bo 5 [.isl 1 (ap.map (eL 1 eI)),.n .i64 dX] [] (.n .i64 r) []):=by
 unfold sH
 exact (let t1:List cd:=[(ab 1),(ab 5),(ab 2)];
  .ite (fun h1 =>
  .ret (bJ (t1.append [.al true,(ab 1)]) (.e1 h1)))
  (fun h1 =>
  .aT fun bF aj =>
  (let t2:List cd:=t1.append [.al false,(ab 1),.bc [] [] (bD [0,1,5])];
  (by
  rcases bF with fS|fS
  ·exact (.ret (bJ (t2.append [.sub (.exit 0) [(1,.n .i64 fS)] [],(ab 2)]) (.au h1 (BM aj))))
  ·exact (.ret (bJ (t2.append [(yw ap (.inr fS)).gF]) (.au h1 (BM aj))))))))
def vf (ap:aQ):Option aQ :=
 some ap
theorem HM {ap:aQ}:bL (vf ap) (fun r=>Con bo 39 [.agg (aH ap)] [] (.agg (aH r)) []):=by
 unfold vf
 exact .ret (bJ [(ab 2),(ab 1),(ab 4),(ab 4),(ab 4),(ab 4),(ab 2)] .nil)
def xH (ap:List aQ):(Int×(List aQ))→S:=fun (ai,ay)=>dP [(0,.isl 4 (ap.map aH)),(3,.a6 0 0 0 ay.length),(4,.n .i64 ai)] [(bf 4 aH ay)]
def xW (ap:List aQ):(List aQ)→dT
 | a=>⟨some 0,[(3,.a6 0 0 0 a.length)],[(bf 4 aH a)]⟩
def oB (ap:List aQ)(ai:Int)(ay:List aQ):Option ((Int×(List aQ))⊕((List aQ))) :=
 if (decide (ai<(len_ aH ap)))=true then
  if 0≤ai∧ai<ap.length then
  ap[ai.toNat]? >>= fun aP =>
  vf aP >>= fun aJ =>
  if 0≤ai∧ai<(ay.length:Nat) then
  if (0+ai.toNat)<ay.length then
  some (.inl (ak (ai+(1:Int)),ay.set (0+ai.toNat) aJ))
  else none
  else none
  else none
 else
  some (.inr ay)
def yJ (ap:List aQ)(ai:Int)(ay:List aQ):Option ((List aQ)):=iter (fun w:Int×(List aQ)=>oB ap w.1 w.2) (ai,ay)
theorem F6 {ap:List aQ}{ai:Int}{ay:List aQ}:bL (oB ap ai ay) (eD bo 23 0 22 [1,1,0,1,0,0] (xH ap (ai,ay)) (xH ap) (xW ap)):=by
 unfold oB
 exact .ite (fun h1 =>
  .bx fun I =>
  .aT fun aP aB =>
  .aT fun aJ bq =>
  .bx fun bA =>
  .bx fun cC =>
  .ret (bK [(ab 4),.al true,.aS (aO 5 (aZ (.cO (aH aP)) (aZ (cF 1 (.agg (aH aJ)) false) (aO 1 (aZ .gE []))))),(ab 3),.bc [0] [.dd (bf 4 aH (ay.set (0+ai.toNat) aJ))] [(0,ii),(3,hv ((ay.set (0+ai.toNat) aJ).length)),(4,ii)]] (.b0 h1 I.1 (dJ aH I.2) (dm aH aB) (HM aJ bq) bA.1 bA.2 (ky aH cC) (.dk (kb 4) (d4 4 .live (jy (d3 aH ay) (0+ai.toNat) aJ)) (bs 4 .live hn (ay.set (0+ai.toNat) aJ)) (ic (dD ay) (0+ai.toNat) aJ)))))
  (fun h1 =>
  .ret (bK [(ab 4),.al false,.bc [0] [.pure] (bD [3])] (.au h1 (bs 4 .live hn ay))))
theorem GL {ap:List aQ}{ai:Int}{ay:List aQ}{r} (h:yJ ap ai ay=some r):eE bo 23 0 22 [1,1,0,1,0,0] (xH ap) (xW ap) (ai,ay) r:=eF (fun _=>F6) h
def sl (ap:List aQ):Option (List aQ) :=
 if 0≤(len_ aH ap)∧(40:Int)*(len_ aH ap)≤281474976710656∧(len_ aH ap)<9223372036854775808 then
 yJ ap 0 (List.replicate (len_ aH ap).toNat (⟨ByteArray.empty,0,0,false⟩:aQ):List aQ) >>= fun bF =>
 some bF
 else none
theorem Hc {ap:List aQ}:bL (sl ap) (fun a=>Con bo 22 [.isl 4 (ap.map aH)] [] (.a6 0 0 0 a.length) [(bf 4 aH a)]):=by
 unfold sl
 exact .bx fun h1 =>
  .aT fun bF aj =>
  .ret (let q1:=(List.replicate (len_ aH ap).toNat (⟨ByteArray.empty,0,0,false⟩:aQ):List aQ);jH [(ab 1),(ab 4),(ab 1),.bc [3] [.dd (bf 4 aH q1)] [(0,ii),(3,hv (q1.length)),(4,ii)],(xW ap bF).gF,(ab 2)] [0] [.pure] (.b0 h1.1 (Int.le_refl (len_ aH ap)) h1.2.1 h1.2.2 (d4 4 .live (ke aH (len_ aH ap).toNat (⟨ByteArray.empty,0,0,false⟩:aQ))) (bs 4 .live hn q1) (kE (len_ aH ap).toNat ((⟨ByteArray.empty,0,0,false⟩:aQ):aQ)) (GL aj) (.e1 (bs 4 .live hn bF))))
def vb (ap:a2):Option a2 :=
 some ap
theorem Hw {ap:a2}:bL (vb ap) (fun r=>Con bo 40 [.agg (aX ap)] [] (.agg (aX r)) []):=by
 unfold vb
 exact .ret (bJ [(ab 2),(ab 1),(ab 4),(ab 4),(ab 4),(ab 2)] .nil)
def xA (ap:List a2):(Int×(List a2))→S:=fun (ai,ay)=>dP [(0,.isl 3 (ap.map aX)),(3,.a6 0 0 0 ay.length),(4,.n .i64 ai)] [(bf 3 aX ay)]
def xI (ap:List a2):(List a2)→dT
 | a=>⟨some 0,[(3,.a6 0 0 0 a.length)],[(bf 3 aX a)]⟩
def oz (ap:List a2)(ai:Int)(ay:List a2):Option ((Int×(List a2))⊕((List a2))) :=
 if (decide (ai<(len_ aX ap)))=true then
  if 0≤ai∧ai<ap.length then
  ap[ai.toNat]? >>= fun aP =>
  vb aP >>= fun aJ =>
  if 0≤ai∧ai<(ay.length:Nat) then
  if (0+ai.toNat)<ay.length then
  some (.inl (ak (ai+(1:Int)),ay.set (0+ai.toNat) aJ))
  else none
  else none
  else none
 else
  some (.inr ay)
def yx (ap:List a2)(ai:Int)(ay:List a2):Option ((List a2)):=iter (fun w:Int×(List a2)=>oz ap w.1 w.2) (ai,ay)
theorem F0 {ap:List a2}{ai:Int}{ay:List a2}:bL (oz ap ai ay) (eD bo 23 0 23 [1,1,0,1,0,0] (xA ap (ai,ay)) (xA ap) (xI ap)):=by
 unfold oz
 exact .ite (fun h1 =>
  .bx fun I =>
  .aT fun aP aB =>
  .aT fun aJ bq =>
  .bx fun bA =>
  .bx fun cC =>
  .ret (bK [(ab 4),.al true,.aS (aO 5 (aZ (.cO (aX aP)) (aZ (cF 1 (.agg (aX aJ)) false) (aO 1 (aZ .gE []))))),(ab 3),.bc [0] [.dd (bf 3 aX (ay.set (0+ai.toNat) aJ))] [(0,ii),(3,hv ((ay.set (0+ai.toNat) aJ).length)),(4,ii)]] (.b0 h1 I.1 (dJ aX I.2) (dm aX aB) (Hw aJ bq) bA.1 bA.2 (ky aX cC) (.dk (kb 3) (d4 3 .live (jy (d3 aX ay) (0+ai.toNat) aJ)) (bs 3 .live hl (ay.set (0+ai.toNat) aJ)) (ic (dD ay) (0+ai.toNat) aJ)))))
  (fun h1 =>
  .ret (bK [(ab 4),.al false,.bc [0] [.pure] (bD [3])] (.au h1 (bs 3 .live hl ay))))
theorem GC {ap:List a2}{ai:Int}{ay:List a2}{r} (h:yx ap ai ay=some r):eE bo 23 0 23 [1,1,0,1,0,0] (xA ap) (xI ap) (ai,ay) r:=eF (fun _=>F0) h
def sj (ap:List a2):Option (List a2) :=
 if 0≤(len_ aX ap)∧(24:Int)*(len_ aX ap)≤281474976710656∧(len_ aX ap)<9223372036854775808 then
 yx ap 0 (List.replicate (len_ aX ap).toNat (⟨0,0,0⟩:a2):List a2) >>= fun bF =>
 some bF
 else none
theorem G4 {ap:List a2}:bL (sj ap) (fun a=>Con bo 23 [.isl 3 (ap.map aX)] [] (.a6 0 0 0 a.length) [(bf 3 aX a)]):=by
 unfold sj
 exact .bx fun h1 =>
  .aT fun bF aj =>
  .ret (let q1:=(List.replicate (len_ aX ap).toNat (⟨0,0,0⟩:a2):List a2);jH [(ab 1),(ab 4),(ab 1),.bc [3] [.dd (bf 3 aX q1)] [(0,ii),(3,hv (q1.length)),(4,ii)],(xI ap bF).gF,(ab 2)] [0] [.pure] (.b0 h1.1 (Int.le_refl (len_ aX ap)) h1.2.1 h1.2.2 (d4 3 .live (ke aX (len_ aX ap).toNat (⟨0,0,0⟩:a2))) (bs 3 .live hl q1) (kE (len_ aX ap).toNat ((⟨0,0,0⟩:a2):a2)) (GC aj) (.e1 (bs 3 .live hl bF))))
def se (ap:bE):Option ((List aQ)×(List a2)) :=
 sl ap.a3 >>= fun r1 =>
 sj ap.a7 >>= fun cv =>
 some (r1,cv)
theorem qm {ap:bE}:bL (se ap) (fun a=>Con bo 7 [.agg (fi ap)] [] (.agg [.a6 0 0 0 a.1.length,.a6 0 1 0 a.2.length]) [[U.mk 4 (a.1.map aH) .live,U.mk 3 (a.2.map aX) .live]]):=by
 unfold se
 exact .aT fun r1 I =>
  .aT fun cv aB =>
  .ret (jH [(ab 2),(ab 1),.aS (bM 2 (.call {ar:=[],b5:=[],ac:=[ii],r:= .a6 0 0 0 r1.length,cY:=[(bf 4 aH r1)],eC:=ii,fo:=[.pure],eg:=[],eb:=true}) 2),.aS (bM 2 (.call {ar:=[],b5:=[],ac:=[ii],r:= .a6 0 0 0 cv.length,cY:=[(bf 3 aX cv)],eC:=ii,fo:=[.pure],eg:=[],eb:=true}) 2),(ab 2),.wJ [{bd:=[(5,0),(10,0)],gZ:=none},{bd:=[(1,0)]}] [([.pure,.pure],none),([.box [.at_ 0 0 r1.length,.at_ 0 1 cv.length]],none)] [(2,.bS (.d6 (.at_ 1 0 0)))]] [0] [.dZ [U.mk 4 (r1.map aH) .live,U.mk 3 (cv.map aX) .live]] (.b0 (g5 4 hn r1) (Hc r1 I) (bj.a6 0 0 0 r1.length) ((jb (gn (f7 oV) lo) jc):h4 [(bf 4 aH r1)]) (g5 3 hl cv) (G4 cv aB) (bj.a6 0 0 0 cv.length) ((jb (gn (f7 oR) lo) jc):h4 [(bf 3 aX cv)]) (.hT (bs 4 .live hn r1) (bs 3 .live hl cv) (rfl:(jq [{bd:=[(5,0),(10,0)],gZ:=none},{bd:=[(1,0)]}]) 0 0=some (5,0)) (rfl:r1.length=r1.length) (rfl:(jq [{bd:=[(5,0),(10,0)],gZ:=none},{bd:=[(1,0)]}]) 0 1=some (10,0)) (rfl:cv.length=cv.length) (rfl:(jq [{bd:=[(5,0),(10,0)],gZ:=none},{bd:=[(1,0)]}]) 1 0=some (1,0)) (cE (dN (d9 [0]) 4 oU r1) (cE (dN (d9 [0]) 3 oQ cv) (hp (bn:=(d9 [0]))))))) (.bS (.agg [.id,.id])))
def ya (ap:List Int):(Int×(List Int))→S:=fun (ai,ay)=>dP [(0,.isl 1 (ap.map eI)),(3,.a6 0 0 0 ay.length),(4,.n .i64 ai)] [(bf 1 eI ay)]
def yl (ap:List Int):(List Int)→dT
 | a=>⟨some 0,[(3,.a6 0 0 0 a.length)],[(bf 1 eI a)]⟩
def oD (ap:List Int)(ai:Int)(ay:List Int):Option ((Int×(List Int))⊕((List Int))) :=
 if (decide (ai<(len_ eI ap)))=true then
  if 0≤ai∧ai<ap.length then
  ap[ai.toNat]? >>= fun aP =>
  if 0≤ai∧ai<(ay.length:Nat) then
  if (0+ai.toNat)<ay.length then
  some (.inl (ak (ai+(1:Int)),ay.set (0+ai.toNat) aP))
  else none
  else none
  else none
 else
  some (.inr ay)
def yV (ap:List Int)(ai:Int)(ay:List Int):Option ((List Int)):=iter (fun w:Int×(List Int)=>oD ap w.1 w.2) (ai,ay)
theorem Gl {ap:List Int}{ai:Int}{ay:List Int}:bL (oD ap ai ay) (eD bo 22 0 24 [1,1,0,1,0,0] (ya ap (ai,ay)) (ya ap) (yl ap)):=by
 unfold oD
 exact .ite (fun h1 =>
  .bx fun I =>
  .aT fun aP aB =>
  .bx fun bk =>
  .bx fun bq =>
  .ret (bK [(ab 4),.al true,.aS (aO 5 (aZ (.cO (eI aP)) (aO 1 (aZ .gE [])))),(ab 3),.bc [0] [.dd (bf 1 eI (ay.set (0+ai.toNat) aP))] [(0,ii),(3,hv ((ay.set (0+ai.toNat) aP).length)),(4,ii)]] (.b0 h1 I.1 (dJ eI I.2) (dm eI aB) bk.1 bk.2 (ky eI bq) (kb 1) (.bB (d4 1 .live (jy (d3 eI ay) (0+ai.toNat) aP)) (bs 1 .live ba (ay.set (0+ai.toNat) aP)) (ic (dD ay) (0+ai.toNat) aP)))))
  (fun h1 =>
  .ret (bK [(ab 4),.al false,.bc [0] [.pure] (bD [3])] (.au h1 (bs 1 .live ba ay))))
theorem G5 {ap:List Int}{ai:Int}{ay:List Int}{r} (h:yV ap ai ay=some r):eE bo 22 0 24 [1,1,0,1,0,0] (ya ap) (yl ap) (ai,ay) r:=eF (fun _=>Gl) h
def sx (ap:List Int):Option (List Int) :=
 if 0≤(len_ eI ap)∧(8:Int)*(len_ eI ap)≤281474976710656∧(len_ eI ap)<9223372036854775808 then
 yV ap 0 (List.replicate (len_ eI ap).toNat 0:List Int) >>= fun bF =>
 some bF
 else none
theorem Hx {ap:List Int}:bL (sx ap) (fun a=>Con bo 24 [.isl 1 (ap.map eI)] [] (.a6 0 0 0 a.length) [(bf 1 eI a)]):=by
 unfold sx
 exact .bx fun h1 =>
  .aT fun bF aj =>
  .ret (let q1:=(List.replicate (len_ eI ap).toNat 0:List Int);jH [(ab 1),(ab 4),(ab 1),.bc [3] [.dd (bf 1 eI q1)] [(0,ii),(3,hv (q1.length)),(4,ii)],(yl ap bF).gF,(ab 2)] [0] [.pure] (.b0 h1.1 (Int.le_refl (len_ eI ap)) h1.2.1 h1.2.2 (d4 1 .live (ke eI (len_ eI ap).toNat 0)) (bs 1 .live ba q1) (kE (len_ eI ap).toNat (0:Int)) (G5 aj) (.e1 (bs 1 .live ba bF))))
def xX (ap:List (List Int)):(Int×(List eJ)×(List (List Int)))→S:=fun (ai,eS,ex)=>dP [(0,.isl 1 (ap.map (eL 1 eI))),(3,.a6 0 0 0 eS.length),(4,.n .i64 ai)] [(U.mk 1 (eS.map (ca 0 1 1)) .live::(hB 1 eI ex))]
def yb (ap:List (List Int)):((List eJ)×(List (List Int)))→dT
 | a=>⟨some 0,[(3,.a6 0 0 0 a.1.length)],[(U.mk 1 (a.1.map (ca 0 1 1)) .live::(hB 1 eI a.2))]⟩
def qj (ap:List (List Int))(ai:Int)(eS:List eJ)(ex:List (List Int)):Option ((Int×(List eJ)×(List (List Int)))⊕((List eJ)×(List (List Int)))) :=
 if (decide (ai<(len_ (eL 1 eI) ap)))=true then
  if 0≤ai∧ai<ap.length then
  ap[ai.toNat]? >>= fun aP =>
  sx aP >>= fun aJ =>
  if 0≤ai∧ai<(eS.length:Nat) then
  if (0+ai.toNat)<eS.length then
  some (.inl (ak (ai+(1:Int)),eS.set (0+ai.toNat) (some (ex.length,aJ.length)),ex++[aJ]))
  else none
  else none
  else none
 else
  some (.inr (eS,ex))
def yP (ap:List (List Int))(ai:Int)(eS:List eJ)(ex:List (List Int)):Option ((List eJ)×(List (List Int))):=iter (fun w:Int×(List eJ)×(List (List Int))=>qj ap w.1 w.2.1 w.2.2) (ai,eS,ex)
theorem Gi {ap:List (List Int)}{ai:Int}{eS:List eJ}{ex:List (List Int)}:bL (qj ap ai eS ex) (eD bo 23 0 8 [1,1,0,1,0,0] (xX ap (ai,eS,ex)) (xX ap) (yb ap)):=by
 unfold qj
 exact .ite (fun h1 =>
  .bx fun I =>
  .aT fun aP aB =>
  .aT fun aJ bq =>
  .bx fun bA =>
  .bx fun cC =>
  .ret (bK [(ab 4),.al true,.aS (aO 5 (aZ (.cO ((eL 1 eI) aP)) (aZ (.uz 0 (ex.length+1) (.call {ar:=[],b5:=[],ac:=[ii],r:= .a6 0 0 0 aJ.length,cY:=[(bf 1 eI aJ)],eC:=ii,fo:=[.pure],eg:=[],eb:=true})) (aO 1 (aZ (.pG 20 (lJ 0 1 1 (some (ex.length,aJ.length))) .gE) []))))),(ab 3),.bc [0] [.dZ (U.mk 1 ((eS.set (0+ai.toNat) (some (ex.length,aJ.length))).map (ca 0 1 1)) .live::(hB 1 eI (ex++[aJ])))] [(0,ii),(3,hv ((eS.set (0+ai.toNat) (some (ex.length,aJ.length))).length)),(4,ii)]] (.b0 h1 I.1 (dJ (eL 1 eI) I.2) (dm (eL 1 eI) aB) (g5 1 ba aJ) (Hx aJ bq) (bj.a6 0 0 0 aJ.length) ((jb (gn (f7 je) lo) jc):h4 [(bf 1 eI aJ)]) (.hT (congrArg (· + 1) (K3 (h9 .live 1 eI ex) rfl)) bA.1 bA.2 (.s2 0 1 1 ex.length aJ.length:hO (.a6 0 (ex.length+1) 0 aJ.length) (lJ 0 1 1 (some (ex.length,aJ.length)))) (ky (ca 0 1 1) cC) (kb 1) (cE (ot (bn:=(d9 [0])) 1 .live (ca 0 1 1) (jy (d3 (ca 0 1 1) eS) (0+ai.toNat) (some (ex.length,aJ.length))) (z0 (rfl:(d9 [0]) 0=some 0))) (vN (bn:=(d9 [0])) (K4 (h9 .live 1 eI ex) (LD ba 11 0 (ex.length+1) (d3 eI aJ) (LF 11 0 (ex.length+1)))) (nw dc))) (ic (dD eS) (0+ai.toNat) (some (ex.length,aJ.length)))))))
  (fun h1 =>
  .ret (bK [(ab 4),.al false,.bc [0] [.dZ (U.mk 1 (eS.map (ca 0 1 1)) .live::(hB 1 eI ex))] (bD [3])] (.au h1 (cE (kc (d9 [0]) 0 0 1 1 rfl eS) (kA (d9 [0]) 1 dc ex)))))
theorem GY {ap:List (List Int)}{ai:Int}{eS:List eJ}{ex:List (List Int)}{r} (h:yP ap ai eS ex=some r):eE bo 23 0 8 [1,1,0,1,0,0] (xX ap) (yb ap) (ai,eS,ex) r:=eF (fun _=>Gi) h
def ss (ap:List (List Int)):Option ((List eJ)×(List (List Int))) :=
 if 0≤(len_ (eL 1 eI) ap)∧(24:Int)*(len_ (eL 1 eI) ap)≤281474976710656∧(len_ (eL 1 eI) ap)<9223372036854775808 then
 yP ap 0 (List.replicate (len_ (eL 1 eI) ap).toNat (none:eJ):List eJ) ([]:List (List Int)) >>= fun bF =>
 some (bF.1,bF.2)
 else none
theorem qE {ap:List (List Int)}:bL (ss ap) (fun a=>Con bo 8 [.isl 1 (ap.map (eL 1 eI))] [] (.a6 0 0 0 a.1.length) [(U.mk 1 (a.1.map (ca 0 1 1)) .live::(hB 1 eI a.2))]):=by
 unfold ss
 exact .bx fun h1 =>
  .aT fun bF aj =>
  .ret (let q1:=len_ (eL 1 eI) ap;let bu:=(List.replicate q1.toNat (none:eJ):List eJ);jH [(ab 1),.aS (bM 2 (.cO [(lJ 3 1 1 (none:eJ))]) 1),(ab 1),.bc [3] [.dZ (U.mk 1 (bu.map (ca 0 1 1)) .live::(hB 1 eI ([]:List (List Int))))] [(0,ii),(3,hv (bu.length)),(4,ii)],(yb ap bF).gF,(ab 2)] [0] [.dZ (U.mk 1 (bF.1.map (ca 0 1 1)) .live::(hB 1 eI bF.2))] (.hT h1.1 (Int.le_refl q1) h1.2.1 h1.2.2 (cE (ot (bn:=(d9 [3])) 1 .live (ca 0 1 1) (ke (ca 3 1 1) q1.toNat (none:eJ)) (z0 (rfl:(d9 [3]) 3=some 0))) (vN (bn:=(d9 [3])) (K2 .live 1 eI) (nw dc))) (kE q1.toNat ((none:eJ):eJ)) (GY aj) (cE (kc (d9 [0]) 0 0 1 1 rfl bF.1) (kA (d9 [0]) 1 dc bF.2))))
def lh (bw wk wm:Int):Option Bool :=
 if (decide (wk≤bw))=true then
  some (decide (bw≤wm))
 else
  some false
theorem nS {bw wk wm:Int}:bL (lh bw wk wm) (fun r=>Con bo 35 [.n .i64 bw,.n .i64 wk,.n .i64 wm] [] (.b r) []):=by
 unfold lh
 exact .ite (fun h1 =>
  .ret (bJ [(ab 1),.aS (bM 7 (.al true) 1)] (.dk h1 h1 h1 h1)))
  (fun h1 =>
  .ret (bJ [(ab 1),.aS (aO 4 (dB 3 (aZ (.al false) (aO 1 []))))] (.dk h1 h1 h1 h1)))
def yy (az:ByteArray):Int→S:=fun ai=>dP [(0,.s az),(3,.n .i64 ai)] []
def BN (az:ByteArray):((Unit)⊕(Unit))→dT
 | .inl a=>⟨some 0,[(0,.s az)],[]⟩
 | .inr a=>⟨none,[(2,.b false)],[]⟩
def nR (az:ByteArray)(ai:Int):Option ((Int)⊕((Unit)⊕(Unit))) :=
 if (decide (ai<(az.size:Int)))=true then
  if 0≤ai∧ai<(az.size:Nat) then
  if (decide ((97:Int)≤((az.data.toList.getD ai.toNat 0).toNat:Int)))=true then
   if (decide (((az.data.toList.getD ai.toNat 0).toNat:Int)≤(122:Int)))=true then
    some (.inl (ak (ai+(1:Int))))
   else
    if (ai == (0:Int))=true then
     some (.inr (.inr ()))
    else
     if (decide (((az.data.toList.getD ai.toNat 0).toNat:Int)<(48:Int)))=true then
      some (.inr (.inr ()))
     else
      if (decide ((57:Int)<((az.data.toList.getD ai.toNat 0).toNat:Int)))=true then
       some (.inr (.inr ()))
      else
       some (.inl (ak (ai+(1:Int))))
  else
   if (ai == (0:Int))=true then
    some (.inr (.inr ()))
   else
    if (decide (((az.data.toList.getD ai.toNat 0).toNat:Int)<(48:Int)))=true then
     some (.inr (.inr ()))
    else
     if (decide ((57:Int)<((az.data.toList.getD ai.toNat 0).toNat:Int)))=true then
      some (.inr (.inr ()))
     else
      some (.inl (ak (ai+(1:Int))))
  else none
 else
  some (.inr (.inl ()))
def st (az:ByteArray)(ai:Int):Option ((Unit)⊕(Unit)):=iter (fun w:Int=>nR az w) ai
theorem GD {az:ByteArray}{ai:Int}:bL (nR az ai) (eD bo 42 0 73 [1,0,1,0,0] (yy az ai) (yy az) (BN az)):=by
 unfold nR
 exact .ite (fun h1 =>
  .bx fun I =>
  .ite (fun aj =>
  (let t1:List cd:=[(ab 4),.al true,.aS (bM 9 (.al true) 1)];
  have aW:=((.b0 h1 I.1 I.2 aj aj aj I.1 I.2 (.au aj aj)):cA _);
  .ite (fun aB =>
  .ret (bK (t1.append [.aS (aO 3 (dB 3 (aO 4 (dB 2 (aO 4 (dB 1 (aZ (.al false) []))))))),.al false,(ab 3),.bc [] [] (bD [0,3])]) (aW.aI (.hT (c5 aB) (c5 aB) (c5 aB) (c5 aB) (c5 aB) (c5 aB) (c5 aB) kx))))
  (fun aB =>
  (have fw:=aW.aI (.bB (c0 aB) (c0 aB) (c0 aB));
  .ite (fun bk =>
  .ret (bK (t1.append [.aS (aO 6 (dB 4 (aZ (.al true) (aO 1 (dB 4 (aO 1 (aZ (.al true) []))))))),.al true,(ab 1),.bc [] [] (bD [2])]) (fw.aI (.b0 bk bk bk bk (c0 aB) bk (c0 aB) cK (.e9 cK cK cK (c0 aB) (c0 aB) cK)))))
  (fun bk =>
  (have fl:=fw.aI (.b0 bk bk bk I.1 I.2 bk (c0 aB) bk (.e1 (c0 aB)));
  .ite (fun bq =>
  .ret (bK (t1.append [.aS (aO 10 (aZ (.al false) (aO 1 (dB 4 (aZ (.al true) (aZ (.al true) [])))))),.al true,(ab 1),.bc [] [] (bD [2])]) (fl.aI (.hT bq bq bq bq (c0 aB) bq (c0 aB) cK))))
  (fun bq =>
  (let t5:List cd:=t1.append [.aS (aO 10 (aZ (.al false) (aO 5 (aZ (.al false) (aZ (.al true) [])))))];
  have ld:=fl.aI (.b0 bq bq bq I.1 I.2 bq (c0 aB) bq (.e1 (c0 aB)));
  .ite (fun bA =>
  .ret (bK (t5.append [.al true,(ab 1),.bc [] [] (bD [2])]) (ld.aI (.e1 bA))))
  (fun bA =>
  .ret (bK (t5.append [.al false,(ab 3),.bc [] [] (bD [0,3])]) (ld.aI (.e1 bA))))))))))))
  (fun aj =>
  (let t1:List cd:=[(ab 4),.al true,.aS (aO 5 (dB 4 (aZ (.al false) (aO 1 []))))];
  have aW:=((.b0 h1 I.1 I.2 aj aj aj aj aj (.bB cK cK cK)):cA _);
  .ite (fun aB =>
  .ret (bK (t1.append [.aS (aO 6 (dB 4 (aZ (.al true) (aO 1 (dB 4 (aO 2 [])))))),.al true,(ab 1),.bc [] [] (bD [2])]) (aW.aI (.b0 aB aB aB aB cK aB cK cK (.gk cK cK cK cK cK)))))
  (fun aB =>
  (have fw:=aW.aI (.b0 aB aB aB I.1 I.2 aB cK aB (.e1 cK));
  .ite (fun bk =>
  .ret (bK (t1.append [.aS (aO 10 (aZ (.al false) (aO 1 (dB 4 (aZ (.al true) (aO 1 [])))))),.al true,(ab 1),.bc [] [] (bD [2])]) (fw.aI (.hS bk bk bk bk cK bk cK))))
  (fun bk =>
  (let t4:List cd:=t1.append [.aS (aO 10 (aZ (.al false) (bM 5 (.al false) 1)))];
  have k1:=fw.aI (.hT bk bk bk I.1 I.2 bk cK bk);
  .ite (fun bq =>
  .ret (bK (t4.append [.al true,(ab 1),.bc [] [] (bD [2])]) (k1.aI (.e1 bq))))
  (fun bq =>
  .ret (bK (t4.append [.al false,(ab 3),.bc [] [] (bD [0,3])]) (k1.aI (.e1 bq)))))))))))
  (fun h1 =>
  .ret (bK [(ab 4),.al false,.bc [] [] (bD [0])] (.e1 h1)))
theorem BV {az:ByteArray}{ai:Int}{r} (h:st az ai=some r):eE bo 42 0 73 [1,0,1,0,0] (yy az) (BN az) ai r:=eF (fun _=>GD) h
def nU (az:ByteArray):Option Bool :=
 st az 0 >>= fun r1 =>
 match r1 with
 | .inl dM=>(lh (az.size:Int) 1 8 >>= fun br =>
  some br)
 | .inr dM=>(some false)
theorem H0 {az:ByteArray}:bL (nU az) (fun r=>Con bo 73 [.s az] [] (.b r) []):=by
 unfold nU
 exact .aT fun r1 I =>
  (let t1:List cd:=[(ab 1),(ab 1),.bc [] [] (bD [0,3])];
  (by
  rcases r1 with dM|dM
  ·exact (.aT fun br bk =>
  .ret (bJ (t1.append [.sub (.exit 0) [(0,.s az)] [],.aS (bM 2 (cF 3 (.b br) true) 1)]) (.bB (BV I) (nS br bk) (bj.b br))))
  ·exact (.ret (bJ (t1.append [.sub (.ret) [(2,.b false)] []]) (.e1 (BV I))))))
def lg (fZ:aQ):Option Bool :=
 nU fZ.eP >>= fun r1 =>
 if r1=true then
  lh fZ.dQ (-50) 50 >>= fun br =>
  if br=true then
   lh fZ.dO (-50) 50 >>= fun aD =>
   some aD
  else
   some false
 else
  some false
theorem HN {fZ:aQ}:bL (lg fZ) (fun r=>Con bo 63 [.agg (aH fZ)] [] (.b r) []):=by
 unfold lg
 exact .aT fun r1 I =>
  (have bC:=((.au (H0 r1 I) (bj.b r1)):cA _);
  .ite (fun aj =>
  .aT fun br bk =>
  (have aW:=bC.aI (.e9 aj aj aj (nS br bk) (bj.b br) aj);
  .ite (fun bq =>
  .aT fun aD cC =>
  .ret (bJ [(ab 2),.aS (aO 2 (aZ (cF 1 (.b r1) true) (aO 3 (aZ (cF 3 (.b br) true) (aZ (.al true) (aO 3 (aZ (cF 3 (.b aD) true) (aZ (.al true) (aO 1 [])))))))))] (aW.aI (.e9 bq bq bq (nS aD cC) (bj.b aD) bq))))
  (fun bq =>
  .ret (bJ [(ab 2),.aS (aO 2 (aZ (cF 1 (.b r1) true) (aO 3 (aZ (cF 3 (.b br) true) (aZ (.al true) (aO 1 (dB 3 (aZ (.al false) (aO 1 [])))))))))] (aW.aI (.dk bq bq bq bq))))))
  (fun aj =>
  .ret (bJ [(ab 2),.aS (aO 2 (aZ (cF 1 (.b r1) true) (aO 1 (dB 3 (aZ (.al false) (aO 1 (dB 3 (aO 2 []))))))))] (bC.aI (.hS aj aj aj aj kx kx kx)))))
def xJ (hq:ByteArray)(cR:List aQ)(dG:Int):Int→S:=fun cH=>dP [(1,.s hq),(8,.isl 4 (cR.map aH)),(9,.n .i64 dG),(10,.n .i64 cH)] []
def Bu (hq:ByteArray)(cR:List aQ)(dG:Int):((Unit)⊕(Int))→dT
 | .inl a=>⟨some 0,[],[]⟩
 | .inr a=>⟨none,[(4,.n .i64 a)],[]⟩
def qa (hq:ByteArray)(cR:List aQ)(dG cH:Int):Option ((Int)⊕((Unit)⊕(Int))) :=
 if (decide (cH<dG))=true then
  if 0≤cH∧cH<cR.length then
  cR[cH.toNat]? >>= fun aP =>
  if (aP.eP.toList == hq.toList)=true then
   some (.inr (.inr cH))
  else
   some (.inl (ak (cH+(1:Int))))
  else none
 else
  some (.inr (.inl ()))
def qB (hq:ByteArray)(cR:List aQ)(dG cH:Int):Option ((Unit)⊕(Int)):=iter (fun w:Int=>qa hq cR dG w) cH
theorem F7 {hq:ByteArray}{cR:List aQ}{dG cH:Int}:bL (qa hq cR dG cH) (eD bo 21 0 64 [1,0,1,0,0] (xJ hq cR dG cH) (xJ hq cR dG) (Bu hq cR dG)):=by
 unfold qa
 exact .ite (fun h1 =>
  .bx fun I =>
  .aT fun aP aB =>
  (let t1:List cd:=[(ab 1),.al true,.aS (bM 2 (.cO (aH aP)) 3),(ab 4)];
  have aW:=((.dk h1 I.1 (dJ aH I.2) (dm aH aB)):cA _);
  .ite (fun bk =>
  .ret (bK (t1.append [.al true,(ab 2),.bc [] [] (bD [4])]) (aW.aI (.e1 bk))))
  (fun bk =>
  .ret (bK (t1.append [.al false,(ab 2),.bc [] [] (bD [1,8,9,10])]) (aW.aI (.e1 bk))))))
  (fun h1 =>
  .ret (bK [(ab 1),.al false,.bc [] [] []] (.e1 h1)))
theorem Bz {hq:ByteArray}{cR:List aQ}{dG cH:Int}{r} (h:qB hq cR dG cH=some r):eE bo 21 0 64 [1,0,1,0,0] (xJ hq cR dG) (Bu hq cR dG) cH r:=eF (fun _=>F7) h
def oJ (az:bE)(hq:ByteArray):Option Int :=
 qB hq az.a3 (len_ aH az.a3) 0 >>= fun r1 =>
 match r1 with
 | .inl dM=>(some (-1))
 | .inr dM=>(some dM)
theorem Hd {az:bE}{hq:ByteArray}:bL (oJ az hq) (fun r=>Con bo 64 [.agg (fi az),.s hq] [] (.n .i64 r) []):=by
 unfold oJ
 exact .aT fun r1 I =>
  (let t1:List cd:=[(ab 2),(ab 4),.bc [] [] (bD [1,8,9,10])];
  (by
  rcases r1 with dM|dM
  ·exact (.ret (bJ (t1.append [.sub (.exit 0) [] [],(ab 1)]) (.e1 (Bz I))))
  ·exact (.ret (bJ (t1.append [.sub (.ret) [(4,.n .i64 dM)] []]) (.e1 (Bz I))))))
def xB (fW:List aQ)(gy:Int)(dt:List a2):Int→S:=fun en=>dP [(1,.ref 0 0 0 0),(21,.isl 4 (fW.map aH)),(22,.n .i64 gy),(23,.n .i64 en)] [[U.mk 2 [[.isl 4 (fW.map aH),.isl 3 (dt.map aX)]] .live]]
def xK (fW:List aQ)(gy:Int)(dt:List a2):((Unit)⊕(Unit))→dT
 | .inl a=>⟨some 0,[(1,.ref 0 0 0 0)],[[U.mk 2 [[.isl 4 (fW.map aH),.isl 3 (dt.map aX)]] .live]]⟩
 | .inr a=>⟨none,[(2,.b false)],[]⟩
def mM (fW:List aQ)(gy:Int)(dt:List a2)(en:Int):Option ((Int)⊕((Unit)⊕(Unit))) :=
 if (decide (en<gy))=true then
  if 0≤en∧en<fW.length then
  fW[en.toNat]? >>= fun aP =>
  lg aP >>= fun aJ =>
  if aJ=true then
   oJ (⟨fW,dt⟩:bE) aP.eP >>= fun eO =>
   if (eO != en)=true then
    some (.inr (.inr ()))
   else
    some (.inl (ak (en+(1:Int))))
  else
   some (.inr (.inr ()))
  else none
 else
  some (.inr (.inl ()))
def oE (fW:List aQ)(gy:Int)(dt:List a2)(en:Int):Option ((Unit)⊕(Unit)):=iter (fun w:Int=>mM fW gy dt w) en
theorem F1 {fW:List aQ}{gy:Int}{dt:List a2}{en:Int}:bL (mM fW gy dt en) (eD bo 102 0 50 [1,1,0,1,0,0] (xB fW gy dt en) (xB fW gy dt) (xK fW gy dt)):=by
 unfold mM
 exact .ite (fun h1 =>
  .bx fun I =>
  .aT fun aP aB =>
  .aT fun aJ bq =>
  (let t1:List cd:=[(ab 1),.al true,.aS (bM 2 (.cO (aH aP)) 3)];
  have aW:=((.e9 h1 I.1 (dJ aH I.2) (dm aH aB) (HN aJ bq) (bj.b aJ)):cA _);
  .ite (fun bA =>
  .aT fun eO ed =>
  (let t3:List cd:=t1.append [.aS (aO 1 (aZ (cF 1 (.b aJ) true) (aO 5 (aZ (cF 2 (.n .i64 eO) true) (aO 2 (aZ (.al false) []))))))];
  have fl:=aW.aI (.b0 (c5 bA) (c5 bA) (c5 bA) (c5 bA) (Hd eO ed) (bj.n .i64 eO) (c5 bA) (c5 bA) (.e1 (c5 bA)));
  .ite (fun df =>
  .ret (bK (t3.append [.al true,(ab 1),.bc [] [] (bD [2])]) (fl.aI (.e1 df))))
  (fun df =>
  .ret (bK (t3.append [.al false,(ab 2),.bc [0] [.box [.id,.id]] (bD [1,21,22,23])]) (fl.aI (.e1 df))))))
  (fun bA =>
  .ret (bK (t1.append [.aS (aO 1 (aZ (cF 1 (.b aJ) true) (aO 2 (dB 6 (aZ (.al true) []))))),.al true,(ab 1),.bc [] [] (bD [2])]) (aW.aI (.hT (c0 bA) (c0 bA) (c0 bA) (c0 bA) (c0 bA) (c0 bA) (c0 bA) cK))))))
  (fun h1 =>
  .ret (bK [(ab 1),.al false,.bc [0] [.box [.id,.id]] (bD [1])] (.e1 h1)))
theorem Bv {fW:List aQ}{gy:Int}{dt:List a2}{en:Int}{r} (h:oE fW gy dt en=some r):eE bo 102 0 50 [1,1,0,1,0,0] (xB fW gy dt) (xK fW gy dt) en r:=eF (fun _=>F1) h
def xC (kf:Int)(jW:List a2)(eG:Int)(du:List aQ):Int→S:=fun eo=>dP [(1,.ref 0 0 0 0),(5,.n .i64 kf),(45,.isl 3 (jW.map aX)),(46,.n .i64 eG),(47,.n .i64 eo)] [[U.mk 2 [[.isl 4 (du.map aH),.isl 3 (jW.map aX)]] .live]]
def Bs (kf:Int)(jW:List a2)(eG:Int)(du:List aQ):((Unit)⊕(Unit))→dT
 | .inl a=>⟨some 2,[],[]⟩
 | .inr a=>⟨none,[(2,.b false)],[]⟩
def r9 (kf:Int)(jW:List a2)(eG:Int)(du:List aQ)(eo:Int):Option ((Int)⊕((Unit)⊕(Unit))) :=
 if (decide (eo<eG))=true then
  if 0≤eo∧eo<jW.length then
  jW[eo.toNat]? >>= fun aP =>
  lh aP.c9 0 kf >>= fun aJ =>
  if aJ=true then
   lh aP.c7 0 kf >>= fun eO =>
   if eO=true then
    lh aP.el 1 3 >>= fun lF =>
    if lF=true then
     if 0≤aP.c9∧aP.c9<du.length then
     du[aP.c9.toNat]? >>= fun k9 =>
     if 0≤aP.c7∧aP.c7<du.length then
     du[aP.c7.toNat]? >>= fun rP =>
     if (k9.dQ == rP.dQ)=true then
      if (k9.dO == rP.dO)=true then
       some (.inr (.inr ()))
      else
       if k9.ev=true then
        if rP.ev=true then
         some (.inr (.inr ()))
        else
         some (.inl (ak (eo+(1:Int))))
       else
        some (.inl (ak (eo+(1:Int))))
     else
      if k9.ev=true then
       if rP.ev=true then
        some (.inr (.inr ()))
       else
        some (.inl (ak (eo+(1:Int))))
      else
       some (.inl (ak (eo+(1:Int))))
     else none
     else none
    else
     some (.inr (.inr ()))
   else
    some (.inr (.inr ()))
  else
   some (.inr (.inr ()))
  else none
 else
  some (.inr (.inl ()))
def yz (kf:Int)(jW:List a2)(eG:Int)(du:List aQ)(eo:Int):Option ((Unit)⊕(Unit)):=iter (fun w:Int=>r9 kf jW eG du w) eo
theorem F2 {kf:Int}{jW:List a2}{eG:Int}{du:List aQ}{eo:Int}:bL (r9 kf jW eG du eo) (eD bo 102 0 50 [1,1,1,1,0,1,0,0] (xC kf jW eG du eo) (xC kf jW eG du) (Bs kf jW eG du)):=by
 unfold r9
 exact .ite (fun h1 =>
  .bx fun I =>
  .aT fun aP aB =>
  .aT fun aJ bq =>
  (let t1:List cd:=[(ab 1),.al true,.aS (bM 1 (.cO (aX aP)) 2)];
  have aW:=((.e9 h1 I.1 (dJ aX I.2) (dm aX aB) (nS aJ bq) (bj.b aJ)):cA _);
  .ite (fun bA =>
  .aT fun eO ed =>
  (have fw:=aW.aI (.hT (c5 bA) (c5 bA) (c5 bA) (c5 bA) (nS eO ed) (bj.b eO) (c5 bA) (c5 bA));
  .ite (fun df =>
  .aT fun lF la =>
  (let t4:List cd:=t1.append [.aS (aO 3 (aZ (cF 3 (.b aJ) true) (aO 5 (aZ (cF 3 (.b eO) true) (aO 1 (aZ (.al false) (aO 3 (aZ (cF 3 (.b lF) true) (aO 1 (aZ (.al false) []))))))))))];
  have k1:=fw.aI (.hS (c5 df) (c5 df) (c5 df) (nS lF la) (bj.b lF) (c5 df) (c5 df));
  .ite (fun gi =>
  .bx fun gB =>
  .aT fun k9 AO =>
  .bx fun us =>
  .aT fun rP lG =>
  (let t6:List cd:=t4.append [.al false,.aS (bM 5 (.cO (aH k9)) 2),.aS (bM 5 (.cO (aH rP)) 2)];
  have rZ:=k1.aI (.hS (c5 gi) gB.1 (dJ aH gB.2) (dm aH AO) us.1 (dJ aH us.2) (dm aH lG));
  .ite (fun jr =>
  .ite (fun gN =>
  .ret (bK (t6.append [.aS (aO 11 (aZ (.al true) (aO 1 (dB 3 (aO 2 (dB 1 (aZ (.al true) []))))))),.al true,(ab 1),.bc [] [] (bD [2])]) (rZ.aI (.b0 jr jr jr jr jr jr gN gN (.dk gN gN gN cK)))))
  (fun gN =>
  (have lK:=rZ.aI (.b0 jr jr jr jr jr jr gN gN (.e1 gN));
  .ite (fun iG =>
  (let t9:List cd:=t6.append [.aS (aO 11 (aZ (.al true) (aO 6 (aZ (.al true) (aZ (.al false) [])))))];
  .ite (fun AP =>
  .ret (bK (t9.append [.al true,(ab 1),.bc [] [] (bD [2])]) (lK.aI (.e9 iG iG gN iG gN AP))))
  (fun AP =>
  .ret (bK (t9.append [.al false,(ab 2),.bc [0] [.box [.id,.id]] (bD [1,5,45,46,47])]) (lK.aI (.e9 iG iG gN iG gN AP))))))
  (fun iG =>
  .ret (bK (t6.append [.aS (aO 11 (aZ (.al true) (aO 4 (dB 2 (aZ (.al false) (aZ (.al false) [])))))),.al false,(ab 2),.bc [0] [.box [.id,.id]] (bD [1,5,45,46,47])]) (lK.aI (.e9 iG iG gN iG gN kx)))))))
  (fun jr =>
  (have lK:=rZ.aI (.b0 jr jr jr jr jr jr kx kx (.e1 kx));
  .ite (fun gN =>
  (let t9:List cd:=t6.append [.aS (aO 6 (dB 5 (aZ (.al false) (bM 6 (.al true) 1))))];
  .ite (fun iG =>
  .ret (bK (t9.append [.al true,(ab 1),.bc [] [] (bD [2])]) (lK.aI (.gk gN gN kx gN iG))))
  (fun iG =>
  .ret (bK (t9.append [.al false,(ab 2),.bc [0] [.box [.id,.id]] (bD [1,5,45,46,47])]) (lK.aI (.gk gN gN kx gN iG))))))
  (fun gN =>
  .ret (bK (t6.append [.aS (aO 6 (dB 5 (aZ (.al false) (aO 4 (dB 2 (aZ (.al false) (aO 1 []))))))),.al false,(ab 2),.bc [0] [.box [.id,.id]] (bD [1,5,45,46,47])]) (lK.aI (.gk gN gN kx gN kx))))))))
  (fun gi =>
  .ret (bK (t4.append [.al true,(ab 1),.bc [] [] (bD [2])]) (k1.aI (.e1 (c0 gi)))))))
  (fun df =>
  .ret (bK (t1.append [.aS (aO 3 (aZ (cF 3 (.b aJ) true) (aO 5 (aZ (cF 3 (.b eO) true) (aO 1 (aZ (.al false) (aO 1 (dB 4 (aZ (.al true) []))))))))),.al true,(ab 1),.bc [] [] (bD [2])]) (fw.aI (.e9 (c0 df) (c0 df) (c0 df) (c0 df) (c0 df) cK))))))
  (fun bA =>
  .ret (bK (t1.append [.aS (aO 3 (aZ (cF 3 (.b aJ) true) (aO 2 (dB 5 (aZ (.al true) (aO 1 (dB 4 (aO 1 [])))))))),.al true,(ab 1),.bc [] [] (bD [2])]) (aW.aI (.b0 (c0 bA) (c0 bA) (c0 bA) (c0 bA) (c0 bA) (c0 bA) cK cK (.bB cK cK cK)))))))
  (fun h1 =>
  .ret (bK [(ab 1),.al false,.bc [] [] []] (.e1 h1)))
theorem Bw {kf:Int}{jW:List a2}{eG:Int}{du:List aQ}{eo:Int}{r} (h:yz kf jW eG du eo=some r):eE bo 102 0 50 [1,1,1,1,0,1,0,0] (xC kf jW eG du) (Bs kf jW eG du) eo r:=eF (fun _=>F2) h
def nd (az:bE):Option Bool :=
 if (decide ((6:Int)<(len_ aH az.a3)))=true then
  some false
 else
  if (decide ((8:Int)<(len_ aX az.a7)))=true then
   some false
  else
   oE az.a3 (len_ aH az.a3) az.a7 0 >>= fun cv =>
   match cv with
   | .inl lc=>(yz (ak ((len_ aH az.a3)-(1:Int))) az.a7 (len_ aX az.a7) az.a3 0 >>= fun dE =>
    match dE with
    | .inl mJ=>(some true)
    | .inr mJ=>(some false))
   | .inr lc=>(some false)
theorem G6 {az:bE}:bL (nd az) (fun r=>Con bo 50 [.agg (fi az)] [] (.b r) []):=by
 unfold nd
 exact .ite (fun h1 =>
  .ret (bJ [(ab 2),.aS (aO 5 (dB 4 (aZ (.al true) []))),.al true,(ab 1)] (.e9 h1 h1 h1 h1 h1 cK)))
  (fun h1 =>
  (let t1:List cd:=[(ab 2),.aS (aO 9 (aZ (.al false) []))];
  .ite (fun I =>
  .ret (bJ (t1.append [.al true,(ab 1)]) (.e9 h1 h1 h1 h1 h1 I)))
  (fun I =>
  .aT fun cv aB =>
  (let t2:List cd:=t1.append [.al false,(ab 4),.bc [0] [.box [.id,.id]] (bD [1,21,22,23])];
  (by
  rcases cv with lc|lc
  ·exact (.aT fun dE bA =>
  (let t3:List cd:=t2.append [(xK az.a3 (len_ aH az.a3) az.a7 (.inl lc)).gF,(ab 5),(ab 4),.bc [0] [.box [.id,.id]] (bD [1,5,45,46,47])];
  have fl:=((.hS h1 h1 h1 h1 h1 I (Bv aB)):cA _);
  (by
  rcases dE with mJ|mJ
  ·exact (.ret (bJ (t3.append [.sub (.exit 2) [] [],(ab 1)]) (fl.aI (.e1 (Bw bA)))))
  ·exact (.ret (bJ (t3.append [.sub (.ret) [(2,.b false)] []]) (fl.aI (.e1 (Bw bA))))))))
  ·exact (.ret (bJ (t2.append [.sub (.ret) [(2,.b false)] []]) (.hS h1 h1 h1 h1 h1 I (Bv aB)))))))))
def yA (kh:List Int)(kI:Int):Int→S:=fun fW=>dP [(19,.isl 1 (kh.map eI)),(20,.n .i64 kI),(21,.n .i64 fW)] []
def BO (kh:List Int)(kI:Int):((Unit)⊕(Unit))→dT
 | .inl a=>⟨some 0,[],[]⟩
 | .inr a=>⟨none,[(4,.b false)],[]⟩
def qz (kh:List Int)(kI fW:Int):Option ((Int)⊕((Unit)⊕(Unit))) :=
 if (decide (fW<kI))=true then
  if 0≤fW∧fW<kh.length then
  kh[fW.toNat]? >>= fun aP =>
  lh aP (-100) 100 >>= fun aJ =>
  if aJ=true then
   some (.inl (ak (fW+(1:Int))))
  else
   some (.inr (.inr ()))
  else none
 else
  some (.inr (.inl ()))
def y8 (kh:List Int)(kI fW:Int):Option ((Unit)⊕(Unit)):=iter (fun w:Int=>qz kh kI w) fW
theorem GF {kh:List Int}{kI fW:Int}:bL (qz kh kI fW) (eD bo 29 0 36 [1,1,0,1,0,0] (yA kh kI fW) (yA kh kI) (BO kh kI)):=by
 unfold qz
 exact .ite (fun h1 =>
  .bx fun I =>
  .aT fun aP aB =>
  .aT fun aJ bq =>
  (let t1:List cd:=[(ab 1),.al true,.aS (bM 1 (.cO (eI aP)) 1),.aS (bM 1 (cF 3 (.b aJ) true) 1)];
  have aW:=((.e9 h1 I.1 (dJ eI I.2) (dm eI aB) (nS aJ bq) (bj.b aJ)):cA _);
  .ite (fun bA =>
  .ret (bK (t1.append [.al false,(ab 2),.bc [] [] (bD [19,20,21])]) (aW.aI (.e1 (c5 bA)))))
  (fun bA =>
  .ret (bK (t1.append [.al true,(ab 1),.bc [] [] (bD [4])]) (aW.aI (.e1 (c0 bA)))))))
  (fun h1 =>
  .ret (bK [(ab 1),.al false,.bc [] [] []] (.e1 h1)))
theorem BW {kh:List Int}{kI fW:Int}{r} (h:y8 kh kI fW=some r):eE bo 29 0 36 [1,1,0,1,0,0] (yA kh kI) (BO kh kI) fW r:=eF (fun _=>GF) h
def sQ (az:bE)(b8:List Int):Option Bool :=
 nd az >>= fun r1 =>
 if r1=true then
  if ((len_ eI b8) != (ak ((2:Int)*(len_ aH az.a3))))=true then
   some false
  else
   y8 b8 (len_ eI b8) 0 >>= fun aJ =>
   match aJ with
   | .inl pU=>(some true)
   | .inr pU=>(some false)
 else
  some false
theorem H2 {az:bE}{b8:List Int}:bL (sQ az b8) (fun r=>Con bo 36 [.agg (fi az),.isl 1 (b8.map eI)] [] (.b r) []):=by
 unfold sQ
 exact .aT fun r1 I =>
  (have bC:=((.au (G6 r1 I) (bj.b r1)):cA _);
  .ite (fun aj =>
  (let t2:List cd:=[(ab 2),.aS (aO 1 (aZ (cF 1 (.b r1) true) (aO 9 (aZ (.al false) []))))];
  have fw:=bC.aI (.hT (c5 aj) (c5 aj) (c5 aj) (c5 aj) (c5 aj) (c5 aj) (c5 aj) (c5 aj));
  .ite (fun aB =>
  .ret (bJ (t2.append [.al true,(ab 1)]) (fw.aI (.e1 aB))))
  (fun aB =>
  .aT fun aJ bq =>
  (let t4:List cd:=t2.append [.al false,(ab 3),.bc [] [] (bD [19,20,21])];
  (by
  rcases aJ with pU|pU
  ·exact (.ret (bJ (t4.append [.sub (.exit 0) [] [],(ab 1)]) (fw.aI (.au aB (BW bq)))))
  ·exact (.ret (bJ (t4.append [.sub (.ret) [(4,.b false)] []]) (fw.aI (.au aB (BW bq))))))))))
  (fun aj =>
  .ret (bJ [(ab 2),.aS (aO 1 (aZ (cF 1 (.b r1) true) (aO 2 (dB 7 (aZ (.al true) []))))),.al true,(ab 1)] (bC.aI (.b0 (c0 aj) (c0 aj) (c0 aj) (c0 aj) (c0 aj) (c0 aj) (c0 aj) (c0 aj) (.e1 cK))))))
def ym (cf:List (List Int))(eT:Int)(du:List aQ)(dt:List a2):Int→S:=fun cD=>dP [(2,.ref 0 0 0 0),(11,.isl 1 (cf.map (eL 1 eI))),(12,.n .i64 eT),(13,.n .i64 cD)] [[U.mk 2 [[.isl 4 (du.map aH),.isl 3 (dt.map aX)]] .live]]
def BF (cf:List (List Int))(eT:Int)(du:List aQ)(dt:List a2):((Unit)⊕(Unit))→dT
 | .inl a=>⟨some 0,[],[]⟩
 | .inr a=>⟨none,[(4,.b false)],[]⟩
def qt (cf:List (List Int))(eT:Int)(du:List aQ)(dt:List a2)(cD:Int):Option ((Int)⊕((Unit)⊕(Unit))) :=
 if (decide (cD<eT))=true then
  if 0≤cD∧cD<cf.length then
  cf[cD.toNat]? >>= fun aP =>
  sQ (⟨du,dt⟩:bE) aP >>= fun aJ =>
  if aJ=true then
   some (.inl (ak (cD+(1:Int))))
  else
   some (.inr (.inr ()))
  else none
 else
  some (.inr (.inl ()))
def y2 (cf:List (List Int))(eT:Int)(du:List aQ)(dt:List a2)(cD:Int):Option ((Unit)⊕(Unit)):=iter (fun w:Int=>qt cf eT du dt w) cD
theorem Gv {cf:List (List Int)}{eT:Int}{du:List aQ}{dt:List a2}{cD:Int}:bL (qt cf eT du dt cD) (eD bo 22 0 20 [1,1,0,1,0,0] (ym cf eT du dt cD) (ym cf eT du dt) (BF cf eT du dt)):=by
 unfold qt
 exact .ite (fun h1 =>
  .bx fun I =>
  .aT fun aP aB =>
  .aT fun aJ bq =>
  (let t1:List cd:=[(ab 1),.al true,.aS (bM 1 (.cO ((eL 1 eI) aP)) 1),.aS (bM 2 (cF 2 (.b aJ) true) 1)];
  have aW:=((.e9 h1 I.1 (dJ (eL 1 eI) I.2) (dm (eL 1 eI) aB) (H2 aJ bq) (bj.b aJ)):cA _);
  .ite (fun bA =>
  .ret (bK (t1.append [.al false,(ab 2),.bc [0] [.box [.id,.id]] (bD [2,11,12,13])]) (aW.aI (.e1 (c5 bA)))))
  (fun bA =>
  .ret (bK (t1.append [.al true,(ab 1),.bc [] [] (bD [4])]) (aW.aI (.e1 (c0 bA)))))))
  (fun h1 =>
  .ret (bK [(ab 1),.al false,.bc [] [] []] (.e1 h1)))
theorem BP {cf:List (List Int)}{eT:Int}{du:List aQ}{dt:List a2}{cD:Int}{r} (h:y2 cf eT du dt cD=some r):eE bo 22 0 20 [1,1,0,1,0,0] (ym cf eT du dt) (BF cf eT du dt) cD r:=eF (fun _=>Gv) h
def qN (az:bE)(ch:List (List Int)):Option Bool :=
 lh (len_ (eL 1 eI) ch) 1 6 >>= fun r1 =>
 if r1=true then
  y2 ch (len_ (eL 1 eI) ch) az.a3 az.a7 0 >>= fun br =>
  match br with
  | .inl pT=>(some true)
  | .inr pT=>(some false)
 else
  some false
theorem HO {az:bE}{ch:List (List Int)}:bL (qN az ch) (fun r=>Con bo 20 [.agg (fi az),.isl 1 (ch.map (eL 1 eI))] [] (.b r) []):=by
 unfold qN
 exact .aT fun r1 I =>
  (let t1:List cd:=[(ab 2),.aS (bM 2 (cF 3 (.b r1) true) 1)];
  have aW:=((.au (nS r1 I) (bj.b r1)):cA _);
  .ite (fun aj =>
  .aT fun br bk =>
  (let t3:List cd:=t1.append [.al false,(ab 3),.bc [0] [.box [.id,.id]] (bD [2,11,12,13])];
  (by
  rcases br with pT|pT
  ·exact (.ret (bJ (t3.append [.sub (.exit 0) [] [],(ab 1)]) (aW.aI (.au (c5 aj) (BP bk)))))
  ·exact (.ret (bJ (t3.append [.sub (.ret) [(4,.b false)] []]) (aW.aI (.au (c5 aj) (BP bk))))))))
  (fun aj =>
  .ret (bJ (t1.append [.al true,(ab 1)]) (aW.aI (.e1 (c0 aj))))))
def xL (cf:List a2)(eT:Int):(Int×(List Int)×(List Int))→S:=fun (cD,ay,b3)=>dP [(4,.a6 0 0 0 ay.length),(5,.a6 1 0 0 b3.length),(11,.isl 3 (cf.map aX)),(12,.n .i64 eT),(13,.n .i64 cD)] [(bf 1 eI ay),(bf 1 eI b3)]
def xY (cf:List a2)(eT:Int):((List Int)×(List Int))→dT
 | a=>⟨some 0,[(4,.a6 0 0 0 a.1.length),(5,.a6 1 0 0 a.2.length)],[(bf 1 eI a.1),(bf 1 eI a.2)]⟩
def qb (cf:List a2)(eT cD:Int)(ay b3:List Int):Option ((Int×(List Int)×(List Int))⊕((List Int)×(List Int))) :=
 if (decide (cD<eT))=true then
  if 0≤cD∧cD<cf.length then
  cf[cD.toNat]? >>= fun aP =>
  if (aP.el != (2:Int))=true then
   if (ay++([cD]:List Int)).length*8≤140737488355328 then
   if (b3++([1]:List Int)).length*8≤140737488355328 then
   if (aP.el != (1:Int))=true then
    if ((ay++([cD]:List Int))++([cD]:List Int)).length*8≤140737488355328 then
    if ((b3++([1]:List Int))++([(-1)]:List Int)).length*8≤140737488355328 then
    some (.inl (ak (cD+(1:Int)),(ay++([cD]:List Int))++([cD]:List Int),(b3++([1]:List Int))++([(-1)]:List Int)))
    else none
    else none
   else
    some (.inl (ak (cD+(1:Int)),ay++([cD]:List Int),b3++([1]:List Int)))
   else none
   else none
  else
   if (aP.el != (1:Int))=true then
    if (ay++([cD]:List Int)).length*8≤140737488355328 then
    if (b3++([(-1)]:List Int)).length*8≤140737488355328 then
    some (.inl (ak (cD+(1:Int)),ay++([cD]:List Int),b3++([(-1)]:List Int)))
    else none
    else none
   else
    some (.inl (ak (cD+(1:Int)),ay,b3))
  else none
 else
  some (.inr (ay,b3))
def yK (cf:List a2)(eT cD:Int)(ay b3:List Int):Option ((List Int)×(List Int)):=iter (fun w:Int×(List Int)×(List Int)=>qb cf eT w.1 w.2.1 w.2.2) (cD,ay,b3)
theorem F8 {cf:List a2}{eT cD:Int}{ay b3:List Int}:bL (qb cf eT cD ay b3) (eD bo 41 0 51 [1,1,1,0,1,0,0] (xL cf eT (cD,ay,b3)) (xL cf eT) (xY cf eT)):=by
 unfold qb
 exact .ite (fun h1 =>
  .bx fun I =>
  .aT fun aP aB =>
  (let t1:List cd:=[(ab 1),.al true,.aS (bM 2 (.cO (aX aP)) 3),(ab 3)];
  have aW:=((.dk h1 I.1 (dJ aX I.2) (dm aX aB)):cA _);
  .ite (fun bk =>
  .bx fun bq =>
  .bx fun bA =>
  (let t3:List cd:=t1.append [.al true,.aS (bM 3 (.aI ((ay++([cD]:List Int)).length)) 1),.aS (bM 2 (.aI ((b3++([1]:List Int)).length)) 1),(ab 3)];
  have fl:=aW.aI (.b0 bk (iJ eI cD) (ia eI ay) (iK eI ay cD) bq (iJ eI 1) (ia eI b3) (iK eI b3 1) (.e1 bA));
  .ite (fun cC =>
  .bx fun ed =>
  .bx fun df =>
  .ret (let q1:=(ay++([cD]:List Int));let bu:=(b3++([1]:List Int));let cr:=(bu++([(-1)]:List Int));let dr:=(q1++([cD]:List Int));bK (t3.append [.al true,.aS (bM 3 (.aI (dr.length)) 1),.aS (bM 2 (.aI (cr.length)) 1),(ab 2),.bc [27,31] [.dd (bf 1 eI dr),.dd (bf 1 eI cr)] (bD [4,5,11,12,13])]) (fl.aI (.b0 cC (iJ eI cD) (td (hU eI ay cD) (dD q1)) (iK eI q1 cD) ed (iJ eI (-1)) (td (hU eI b3 1) (dD bu)) (iK eI bu (-1)) (.gk df (d4 1 .live (mm (hU eI ay cD) (dD q1) (rW eI cD))) (bs 1 .live ba dr) (d4 1 .live (mm (hU eI b3 1) (dD bu) (rW eI (-1)))) (bs 1 .live ba cr))))))
  (fun cC =>
  .ret (let d7:=(ay++([cD]:List Int));let hg:=(b3++([1]:List Int));bK (t3.append [.al false,(ab 2),.bc [15,19] [.dd (bf 1 eI d7),.dd (bf 1 eI hg)] (bD [4,5,11,12,13])]) (fl.aI (.gk cC (d4 1 .live (hU eI ay cD)) (bs 1 .live ba d7) (d4 1 .live (hU eI b3 1)) (bs 1 .live ba hg)))))))
  (fun bk =>
  .ite (fun bq =>
  .bx fun bA =>
  .bx fun cC =>
  .ret (let iw:=(b3++([(-1)]:List Int));let jN:=(ay++([cD]:List Int));bK (t1.append [.al false,(ab 3),.al true,.aS (bM 3 (.aI (jN.length)) 1),.aS (bM 2 (.aI (iw.length)) 1),(ab 2),.bc [18,22] [.dd (bf 1 eI jN),.dd (bf 1 eI iw)] (bD [4,5,11,12,13])]) (aW.aI (.b0 bk bq (iJ eI cD) (ia eI ay) (iK eI ay cD) bA (iJ eI (-1)) (ia eI b3) (.e9 (iK eI b3 (-1)) cC (d4 1 .live (hU eI ay cD)) (bs 1 .live ba jN) (d4 1 .live (hU eI b3 (-1))) (bs 1 .live ba iw))))))
  (fun bq =>
  .ret (bK (t1.append [.al false,(ab 3),.al false,(ab 2),.bc [0,1] [.pure,.pure] (bD [4,5,11,12,13])]) (aW.aI (.dk bk bq (bs 1 .live ba ay) (bs 1 .live ba b3))))))))
  (fun h1 =>
  .ret (bK [(ab 1),.al false,.bc [0,1] [.pure,.pure] (bD [4,5])] (.bB h1 (bs 1 .live ba ay) (bs 1 .live ba b3))))
theorem GM {cf:List a2}{eT cD:Int}{ay b3:List Int}{r} (h:yK cf eT cD ay b3=some r):eE bo 41 0 51 [1,1,1,0,1,0,0] (xL cf eT) (xY cf eT) (cD,ay,b3) r:=eF (fun _=>F8) h
def sm (az:bE):Option ((List Int)×(List Int)) :=
 yK az.a7 (len_ aX az.a7) 0 ([]:List Int) ([]:List Int) >>= fun r1 =>
 some (r1.1,r1.2)
theorem He {az:bE}:bL (sm az) (fun r=>Con bo 51 [.agg (fi az)] [] (.dx [.isl 1 (r.1.map eI),.isl 1 (r.2.map eI)]) []):=by
 unfold sm
 exact .aT fun r1 I =>
  .ret (let q1:=(d4 1 .live (show []=(([]:List Int)).map eI from rfl));let bu:=(bs 1 .live ba ([]:List Int));let cr:=(bf 1 eI ([]:List Int));bJ [(ab 3),(ab 2),(ab 2),(ab 4),.bc [3,5] [.dd cr,.dd cr] [(4,hv (([]:List Int).length)),(5,hv (([]:List Int).length)),(11,ii),(12,ii),(13,ii)],(xY az.a7 (len_ aX az.a7) r1).gF,(ab 4)] (.b0 q1 bu q1 bu (kB Int) (kB Int) (GM I) (fx eI r1.1) (.gk (eN eI r1.1) (dF ba r1.1) (fx eI r1.2) (eN eI r1.2) (dF ba r1.2))) (.comp [.d6 (.ek (r1.1.map eI)),.d6 (.ek (r1.2.map eI))]))
def yn (cR:List aQ)(dG:Int):(Int×(List Int))→S:=fun (cH,ay)=>dP [(3,.a6 0 0 0 ay.length),(8,.isl 4 (cR.map aH)),(9,.n .i64 dG),(10,.n .i64 cH)] [(bf 1 eI ay)]
def yB (cR:List aQ)(dG:Int):(List Int)→dT
 | a=>⟨some 0,[(3,.a6 0 0 0 a.length)],[(bf 1 eI a)]⟩
def sb (cR:List aQ)(dG cH:Int)(ay:List Int):Option ((Int×(List Int))⊕((List Int))) :=
 if (decide (cH<dG))=true then
  if 0≤cH∧cH<cR.length then
  cR[cH.toNat]? >>= fun aP =>
  if aP.ev=true then
   some (.inl (ak (cH+(1:Int)),ay))
  else
   if (ay++([cH]:List Int)).length*8≤140737488355328 then
   some (.inl (ak (cH+(1:Int)),ay++([cH]:List Int)))
   else none
  else none
 else
  some (.inr ay)
def y3 (cR:List aQ)(dG cH:Int)(ay:List Int):Option ((List Int)):=iter (fun w:Int×(List Int)=>sb cR dG w.1 w.2) (cH,ay)
theorem Gw {cR:List aQ}{dG cH:Int}{ay:List Int}:bL (sb cR dG cH ay) (eD bo 24 0 38 [1,1,0,1,0,0] (yn cR dG (cH,ay)) (yn cR dG) (yB cR dG)):=by
 unfold sb
 exact .ite (fun h1 =>
  .bx fun I =>
  .aT fun aP aB =>
  (let t1:List cd:=[(ab 1),.al true,.aS (bM 2 (.cO (aH aP)) 3),(ab 3)];
  have aW:=((.dk h1 I.1 (dJ aH I.2) (dm aH aB)):cA _);
  .ite (fun bk =>
  .ret (bK (t1.append [.al false,(ab 2),.bc [0] [.pure] (bD [3,8,9,10])]) (aW.aI (.au (c5 bk) (bs 1 .live ba ay)))))
  (fun bk =>
  .bx fun bq =>
  .ret (let q1:=(ay++([cH]:List Int));bK (t1.append [.al true,.aS (bM 3 (.aI (q1.length)) 1),(ab 2),.bc [14] [.dd (bf 1 eI q1)] (bD [3,8,9,10])]) (aW.aI (.hS (c0 bk) (iJ eI cH) (ia eI ay) (iK eI ay cH) bq (d4 1 .live (hU eI ay cH)) (bs 1 .live ba q1)))))))
  (fun h1 =>
  .ret (bK [(ab 1),.al false,.bc [0] [.pure] (bD [3])] (.au h1 (bs 1 .live ba ay))))
theorem Hf {cR:List aQ}{dG cH:Int}{ay:List Int}{r} (h:y3 cR dG cH ay=some r):eE bo 24 0 38 [1,1,0,1,0,0] (yn cR dG) (yB cR dG) (cH,ay) r:=eF (fun _=>Gw) h
def nT (az:bE):Option (List Int) :=
 y3 az.a3 (len_ aH az.a3) 0 ([]:List Int) >>= fun r1 =>
 some r1
theorem u4 {az:bE}:bL (nT az) (fun r=>Con bo 38 [.agg (fi az)] [] (.isl 1 (r.map eI)) []):=by
 unfold nT
 exact .aT fun r1 I =>
  .ret (bJ [(ab 2),(ab 2),(ab 4),.bc [2] [.dd (bf 1 eI ([]:List Int))] [(3,hv (([]:List Int).length)),(8,ii),(9,ii),(10,ii)],(yB az.a3 (len_ aH az.a3) r1).gF,(ab 2)] (.hS (d4 1 .live (show []=(([]:List Int)).map eI from rfl)) (bs 1 .live ba ([]:List Int)) (kB Int) (Hf I) (fx eI r1) (eN eI r1) (dF ba r1)) (.bS (.d6 (.ek (r1.map eI)))))
def su (az:bE)(a0:Int):Option (Int×Int) :=
 if 0≤a0∧a0<az.a7.length then
 az.a7[a0.toNat]? >>= fun ep =>
 if 0≤ep.c9∧ep.c9<az.a3.length then
 az.a3[ep.c9.toNat]? >>= fun cZ =>
 if 0≤ep.c7∧ep.c7<az.a3.length then
 az.a3[ep.c7.toNat]? >>= fun fh =>
 some (ak (fh.dQ-cZ.dQ),ak (fh.dO-cZ.dO))
 else none
 else none
 else none
theorem Hp {az:bE}{a0:Int}:bL (su az a0) (fun r=>Con bo 65 [.agg (fi az),.n .i64 a0] [] (.dx [.n .i64 r.1,.n .i64 r.2]) []):=by
 unfold su
 exact .bx fun h1 =>
  .aT fun ep aj =>
  .bx fun aB =>
  .aT fun cZ bq =>
  .bx fun bA =>
  .aT fun fh ed =>
  .ret (bJ [(ab 3),.aS (aO 7 (aZ (.cO (aX ep)) (bM 1 (.cO (aH cZ)) 2))),.aS (aO 7 (aZ (.cO (aX ep)) (bM 1 (.cO (aH fh)) 2))),(ab 12)] (.b0 h1.1 (dJ aX h1.2) (dm aX aj) aB.1 (dJ aH aB.2) (dm aH bq) h1.1 (dJ aX h1.2) (.dk (dm aX aj) bA.1 (dJ aH bA.2) (dm aH ed))))
def yo (ai:Int)(dv:List Int)(dz ei:Int)(en:List a2)(gI:Int)(du:List aQ)(b3:List Int):(Int×(List Int)×(List Int))→S:=fun (ej,bi,a4)=>dP [(1,.ref 0 0 0 0),(3,.a6 1 0 0 b3.length),(5,.n .i64 ai),(6,.a6 2 0 0 bi.length),(7,.a6 3 0 0 a4.length),(14,.isl 1 (dv.map eI)),(15,.n .i64 dz),(16,.n .i64 ei),(23,.isl 3 (en.map aX)),(24,.n .i64 gI),(25,.n .i64 ej)] [[U.mk 2 [[.isl 4 (du.map aH),.isl 3 (en.map aX)]] .live],(bf 1 eI b3),(bf 1 eI bi),(bf 1 eI a4)]
def yC (ai:Int)(dv:List Int)(dz ei:Int)(en:List a2)(gI:Int)(du:List aQ)(b3:List Int):((List Int)×(List Int))→dT
 | a=>⟨some 2,[(1,.ref 0 0 0 0),(3,.a6 1 0 0 b3.length),(6,.a6 2 0 0 a.1.length),(7,.a6 3 0 0 a.2.length),(14,.isl 1 (dv.map eI)),(15,.n .i64 dz),(16,.n .i64 ei)],[[U.mk 2 [[.isl 4 (du.map aH),.isl 3 (en.map aX)]] .live],(bf 1 eI b3),(bf 1 eI a.1),(bf 1 eI a.2)]⟩
def qu (ai:Int)(dv:List Int)(dz ei:Int)(en:List a2)(gI:Int)(du:List aQ)(b3:List Int)(ej:Int)(bi a4:List Int):Option ((Int×(List Int)×(List Int))⊕((List Int)×(List Int))) :=
 if (decide (ej<gI))=true then
  if 0≤ej∧ej<en.length then
  en[ej.toNat]? >>= fun aP =>
  su (⟨du,en⟩:bE) ej >>= fun aJ =>
  if (ai == aP.c9)=true then
   if (bi++([aJ.1]:List Int)).length*8≤140737488355328 then
   if (a4++([aJ.2]:List Int)).length*8≤140737488355328 then
   some (.inl (ak (ej+(1:Int)),bi++([aJ.1]:List Int),a4++([aJ.2]:List Int)))
   else none
   else none
  else
   if (ai == aP.c7)=true then
    if (bi++([ak (0-aJ.1)]:List Int)).length*8≤140737488355328 then
    if (a4++([ak (0-aJ.2)]:List Int)).length*8≤140737488355328 then
    some (.inl (ak (ej+(1:Int)),bi++([ak (0-aJ.1)]:List Int),a4++([ak (0-aJ.2)]:List Int)))
    else none
    else none
   else
    if (bi++([0]:List Int)).length*8≤140737488355328 then
    if (a4++([0]:List Int)).length*8≤140737488355328 then
    some (.inl (ak (ej+(1:Int)),bi++([0]:List Int),a4++([0]:List Int)))
    else none
    else none
  else none
 else
  some (.inr (bi,a4))
def u5 (ai:Int)(dv:List Int)(dz ei:Int)(en:List a2)(gI:Int)(du:List aQ)(b3:List Int)(ej:Int)(bi a4:List Int):Option ((List Int)×(List Int)):=iter (fun w:Int×(List Int)×(List Int)=>qu ai dv dz ei en gI du b3 w.1 w.2.1 w.2.2) (ej,bi,a4)
theorem Gx {ai:Int}{dv:List Int}{dz ei:Int}{en:List a2}{gI:Int}{du:List aQ}{b3:List Int}{ej:Int}{bi a4:List Int}:bL (qu ai dv dz ei en gI du b3 ej bi a4) (eD bo 78 0 52 [1,1,0,1,0,0,1,1,0,0,1,1,1,0,1,0,0] (yo ai dv dz ei en gI du b3 (ej,bi,a4)) (yo ai dv dz ei en gI du b3) (yC ai dv dz ei en gI du b3)):=by
 unfold qu
 exact .ite (fun h1 =>
  .bx fun I =>
  .aT fun aP aB =>
  .aT fun aJ bq =>
  (let t1:List cd:=[(ab 1),.al true,.aS (bM 2 (.cO (aX aP)) 3),.aS (bM 2 (cF 2 (.dx [.n .i64 aJ.1,.n .i64 aJ.2]) true) 5),(ab 1),(ab 4)];
  have aW:=((.e9 h1 I.1 (dJ aX I.2) (dm aX aB) (Hp aJ bq) (DP (eV (bj.n .i64 aJ.1) (eV (bj.n .i64 aJ.2) k4)))):cA _);
  .ite (fun bA =>
  .bx fun cC =>
  .bx fun ed =>
  .ret (let q1:=(bi++([aJ.1]:List Int));let bu:=(a4++([aJ.2]:List Int));bK (t1.append [.al true,.aS (bM 3 (.aI (q1.length)) 1),.aS (bM 3 (.aI (bu.length)) 1),(ab 2),.bc [0,1,27,32] [.box [.id,.id],.pure,.dd (bf 1 eI q1),.dd (bf 1 eI bu)] (bD [1,3,5,6,7,14,15,16,23,24,25])]) (aW.aI (.b0 bA (iJ eI aJ.1) (ia eI bi) (iK eI bi aJ.1) cC (iJ eI aJ.2) (ia eI a4) (iK eI a4 aJ.2) (.e9 ed (bs 1 .live ba b3) (d4 1 .live (hU eI bi aJ.1)) (bs 1 .live ba q1) (d4 1 .live (hU eI a4 aJ.2)) (bs 1 .live ba bu))))))
  (fun bA =>
  .ite (fun cC =>
  .bx fun ed =>
  .bx fun df =>
  .ret (let d7:=ak (0-aJ.1);let cr:=(bi++([d7]:List Int));let hg:=ak (0-aJ.2);let dr:=(a4++([hg]:List Int));bK (t1.append [.al false,(ab 4),.al true,.aS (bM 4 (.aI (cr.length)) 1),.aS (bM 4 (.aI (dr.length)) 1),(ab 2),.bc [0,1,32,38] [.box [.id,.id],.pure,.dd (bf 1 eI cr),.dd (bf 1 eI dr)] (bD [1,3,5,6,7,14,15,16,23,24,25])]) (aW.aI (.b0 bA cC (iJ eI d7) (ia eI bi) (iK eI bi d7) ed (iJ eI hg) (ia eI a4) (.hS (iK eI a4 hg) df (bs 1 .live ba b3) (d4 1 .live (hU eI bi d7)) (bs 1 .live ba cr) (d4 1 .live (hU eI a4 hg)) (bs 1 .live ba dr))))))
  (fun cC =>
  .bx fun ed =>
  .bx fun df =>
  .ret (let iw:=(bi++([0]:List Int));let jN:=(a4++([0]:List Int));bK (t1.append [.al false,(ab 4),.al false,.aS (bM 2 (.aI (iw.length)) 1),.aS (bM 2 (.aI (jN.length)) 1),(ab 2),.bc [0,1,30,34] [.box [.id,.id],.pure,.dd (bf 1 eI iw),.dd (bf 1 eI jN)] (bD [1,3,5,6,7,14,15,16,23,24,25])]) (aW.aI (.b0 bA cC (iJ eI 0) (ia eI bi) (iK eI bi 0) ed (iJ eI 0) (ia eI a4) (.hS (iK eI a4 0) df (bs 1 .live ba b3) (d4 1 .live (hU eI bi 0)) (bs 1 .live ba iw) (d4 1 .live (hU eI a4 0)) (bs 1 .live ba jN)))))))))
  (fun h1 =>
  .ret (bK [(ab 1),.al false,.bc [0,1,2,3] [.box [.id,.id],.pure,.pure,.pure] (bD [1,3,6,7,14,15,16])] (.dk h1 (bs 1 .live ba b3) (bs 1 .live ba bi) (bs 1 .live ba a4))))
theorem Hg {ai:Int}{dv:List Int}{dz ei:Int}{en:List a2}{gI:Int}{du:List aQ}{b3:List Int}{ej:Int}{bi a4:List Int}{r} (h:u5 ai dv dz ei en gI du b3 ej bi a4=some r):eE bo 78 0 52 [1,1,0,1,0,0,1,1,0,0,1,1,1,0,1,0,0] (yo ai dv dz ei en gI du b3) (yC ai dv dz ei en gI du b3) (ej,bi,a4) r:=eF (fun _=>Gx) h
def yp (dv:List Int)(dz:Int)(du:List aQ)(dt:List a2):(Int×(List Int))→S:=fun (ei,b3)=>dP [(1,.ref 0 0 0 0),(3,.a6 1 0 0 b3.length),(14,.isl 1 (dv.map eI)),(15,.n .i64 dz),(16,.n .i64 ei)] [[U.mk 2 [[.isl 4 (du.map aH),.isl 3 (dt.map aX)]] .live],(bf 1 eI b3)]
def yD (dv:List Int)(dz:Int)(du:List aQ)(dt:List a2):(List Int)→dT
 | a=>⟨some 0,[(3,.a6 0 0 0 a.length)],[(bf 1 eI a)]⟩
def qv (dv:List Int)(dz:Int)(du:List aQ)(dt:List a2)(ei:Int)(b3:List Int):Option ((Int×(List Int))⊕((List Int))) :=
 if (decide (ei<dz))=true then
  if 0≤ei∧ei<dv.length then
  dv[ei.toNat]? >>= fun aP =>
  u5 aP dv dz ei dt (len_ aX dt) du b3 0 ([]:List Int) ([]:List Int) >>= fun aJ =>
  if (b3++aJ.1).length*8≤140737488355328 then
  if ((b3++aJ.1)++aJ.2).length*8≤140737488355328 then
  some (.inl (ak (ei+(1:Int)),(b3++aJ.1)++aJ.2))
  else none
  else none
  else none
 else
  some (.inr b3)
def y4 (dv:List Int)(dz:Int)(du:List aQ)(dt:List a2)(ei:Int)(b3:List Int):Option ((List Int)):=iter (fun w:Int×(List Int)=>qv dv dz du dt w.1 w.2) (ei,b3)
theorem Gy {dv:List Int}{dz:Int}{du:List aQ}{dt:List a2}{ei:Int}{b3:List Int}:bL (qv dv dz du dt ei b3) (eD bo 78 0 52 [1,1,0,1,0,0] (yp dv dz du dt (ei,b3)) (yp dv dz du dt) (yD dv dz du dt)):=by
 unfold qv
 exact .ite (fun h1 =>
  .bx fun I =>
  .aT fun aP aB =>
  .aT fun aJ bq =>
  .bx fun bA =>
  .bx fun cC =>
  .ret (let q1:=(d4 1 .live (show []=(([]:List Int)).map eI from rfl));let bu:=dD (b3++aJ.1);let cr:=(bs 1 .live ba ([]:List Int));let dr:=d3 eI aJ.1;let d7:=(bf 1 eI ([]:List Int));bK [(ab 1),.al true,.aS (bM 1 (.cO (eI aP)) 1),(ab 2),(ab 2),(ab 4),.bc [0,1,6,8] [.box [.id,.id],.pure,.dd d7,.dd d7] [(1,ii),(3,ii),(5,ii),(6,hv (([]:List Int).length)),(7,hv (([]:List Int).length)),(14,ii),(15,ii),(16,ii),(23,ii),(24,ii),(25,ii)],(yC aP dv dz ei dt (len_ aX dt) du b3 aJ).gF,.aS (bM 2 (.aI ((b3++aJ.1).length)) 1),.aS (bM 2 (.aI (((b3++aJ.1)++aJ.2).length)) 1),(ab 2),.bc [0,10] [.box [.id,.id],.dd (bf 1 eI ((b3++aJ.1)++aJ.2))] (bD [1,3,14,15,16])] (.b0 h1 I.1 (dJ eI I.2) (dm eI aB) (bs 1 .live ba b3) q1 cr q1 (.b0 cr (kB Int) (kB Int) (Hg bq) (eN eI aJ.1) (ia eI b3) (o5 (dD b3) (mV dr (dD aJ.1)):(b3++aJ.1).length=b3.length+(((aJ.1.map eI).drop 0).take aJ.1.length).length) bA (.e9 (eN eI aJ.2) (td (mm (d3 eI b3) (dD b3) (mV dr (dD aJ.1))) bu) (o5 bu (mV (d3 eI aJ.2) (dD aJ.2)):((b3++aJ.1)++aJ.2).length=((b3++aJ.1).length)+(((aJ.2.map eI).drop 0).take aJ.2.length).length) cC (d4 1 .live (mm (mm (d3 eI b3) (dD b3) (mV dr (dD aJ.1))) bu (mV (d3 eI aJ.2) (dD aJ.2)))) (bs 1 .live ba ((b3++aJ.1)++aJ.2)))))))
  (fun h1 =>
  .ret (bK [(ab 1),.al false,.bc [1] [.pure] (bD [3])] (.au h1 (bs 1 .live ba b3))))
theorem Hh {dv:List Int}{dz:Int}{du:List aQ}{dt:List a2}{ei:Int}{b3:List Int}{r} (h:y4 dv dz du dt ei b3=some r):eE bo 78 0 52 [1,1,0,1,0,0] (yp dv dz du dt) (yD dv dz du dt) (ei,b3) r:=eF (fun _=>Gy) h
def sI (az:bE):Option (List Int) :=
 nT az >>= fun r1 =>
 y4 r1 (len_ eI r1) az.a3 az.a7 0 ([]:List Int) >>= fun cv =>
 some cv
theorem HP {az:bE}:bL (sI az) (fun r=>Con bo 52 [.agg (fi az)] [] (.isl 1 (r.map eI)) []):=by
 unfold sI
 exact .aT fun r1 I =>
  .aT fun cv aB =>
  .ret (bJ [(ab 2),(ab 2),.aS (bM 1 (cF 1 (.isl 1 (r1.map eI)) false) 2),.bc [0,2] [.box [.id,.id],.dd (bf 1 eI ([]:List Int))] [(1,ii),(3,hv (([]:List Int).length)),(14,ii),(15,ii),(16,ii)],(yD r1 (len_ eI r1) az.a3 az.a7 cv).gF,(ab 2)] (.hT (u4 r1 I) (d4 1 .live (show []=(([]:List Int)).map eI from rfl)) (bs 1 .live ba ([]:List Int)) (kB Int) (Hh aB) (fx eI cv) (eN eI cv) (dF ba cv)) (.bS (.d6 (.ek (cv.map eI)))))
def yc (b8 cH:List Int)(cf:Int):(Int×(List Int))→S:=fun (eT,ay)=>dP [(1,.isl 1 (b8.map eI)),(5,.a6 0 0 0 ay.length),(10,.isl 1 (cH.map eI)),(11,.n .i64 cf),(12,.n .i64 eT)] [(bf 1 eI ay)]
def yq (b8 cH:List Int)(cf:Int):(List Int)→dT
 | a=>⟨some 0,[(5,.a6 0 0 0 a.length)],[(bf 1 eI a)]⟩
def qn (b8 cH:List Int)(cf eT:Int)(ay:List Int):Option ((Int×(List Int))⊕((List Int))) :=
 if (decide (eT<cf))=true then
  if 0≤eT∧eT<cH.length then
  cH[eT.toNat]? >>= fun aP =>
  if 0≤(ak ((2:Int)*aP))∧(ak ((2:Int)*aP))<b8.length then
  b8[(ak ((2:Int)*aP)).toNat]? >>= fun dC =>
  if 0≤(ak ((ak ((2:Int)*aP))+(1:Int)))∧(ak ((ak ((2:Int)*aP))+(1:Int)))<b8.length then
  b8[(ak ((ak ((2:Int)*aP))+(1:Int))).toNat]? >>= fun ee =>
  if (ay++([ak (0-dC),ak (0-ee)]:List Int)).length*8≤140737488355328 then
  some (.inl (ak (eT+(1:Int)),ay++([ak (0-dC),ak (0-ee)]:List Int)))
  else none
  else none
  else none
  else none
 else
  some (.inr ay)
def yW (b8 cH:List Int)(cf eT:Int)(ay:List Int):Option ((List Int)):=iter (fun w:Int×(List Int)=>qn b8 cH cf w.1 w.2) (eT,ay)
theorem Gm {b8 cH:List Int}{cf eT:Int}{ay:List Int}:bL (qn b8 cH cf eT ay) (eD bo 34 0 53 [1,1,0,1,0,0] (yc b8 cH cf (eT,ay)) (yc b8 cH cf) (yq b8 cH cf)):=by
 unfold qn
 exact .ite (fun h1 =>
  .bx fun I =>
  .aT fun aP aB =>
  .bx fun bk =>
  .aT fun dC bA =>
  .bx fun cC =>
  .aT fun ee df =>
  .bx fun gv =>
  .ret (let q1:=(ay++([ak (0-dC),ak (0-ee)]:List Int));bK [(ab 1),.al true,.aS (bM 1 (.cO (eI aP)) 1),.aS (aO 5 (aZ (.cO (eI dC)) (aO 6 (aZ (.cO (eI ee)) (bM 2 (.aI (q1.length)) 1))))),(ab 2),.bc [20] [.dd (bf 1 eI q1)] (bD [1,5,10,11,12])] (.b0 h1 I.1 (dJ eI I.2) (dm eI aB) bk.1 (dJ eI bk.2) (dm eI bA) cC.1 (.hT (dJ eI cC.2) (dm eI df) (lP (show [[.n .i64 (ak (0-dC))],[.n .i64 (ak (0-ee))]]=(([ak (0-dC),ak (0-ee)]:List Int)).map eI from rfl) (show 2=([ak (0-dC),ak (0-ee)]:List Int).length from rfl)) (ia eI ay) (o5 (dD ay) (mV (show [[.n .i64 (ak (0-dC))],[.n .i64 (ak (0-ee))]]=(([ak (0-dC),ak (0-ee)]:List Int)).map eI from rfl) (show 2=([ak (0-dC),ak (0-ee)]:List Int).length from rfl)):q1.length=ay.length+(([[.n .i64 (ak (0-dC))],[.n .i64 (ak (0-ee))]].drop 0).take 2).length) gv (d4 1 .live (mm (d3 eI ay) (dD ay) (mV (show [[.n .i64 (ak (0-dC))],[.n .i64 (ak (0-ee))]]=(([ak (0-dC),ak (0-ee)]:List Int)).map eI from rfl) (show 2=([ak (0-dC),ak (0-ee)]:List Int).length from rfl)))) (bs 1 .live ba q1)))))
  (fun h1 =>
  .ret (bK [(ab 1),.al false,.bc [0] [.pure] (bD [5])] (.au h1 (bs 1 .live ba ay))))
theorem G7 {b8 cH:List Int}{cf eT:Int}{ay:List Int}{r} (h:yW b8 cH cf eT ay=some r):eE bo 34 0 53 [1,1,0,1,0,0] (yc b8 cH cf) (yq b8 cH cf) (eT,ay) r:=eF (fun _=>Gm) h
def sy (az:bE)(b8:List Int):Option (List Int) :=
 nT az >>= fun r1 =>
 yW b8 r1 (len_ eI r1) 0 ([]:List Int) >>= fun cv =>
 some cv
theorem Hy {az:bE}{b8:List Int}:bL (sy az b8) (fun r=>Con bo 53 [.agg (fi az),.isl 1 (b8.map eI)] [] (.isl 1 (r.map eI)) []):=by
 unfold sy
 exact .aT fun r1 I =>
  .aT fun cv aB =>
  .ret (bJ [(ab 2),(ab 2),.aS (bM 1 (cF 1 (.isl 1 (r1.map eI)) false) 2),.bc [2] [.dd (bf 1 eI ([]:List Int))] [(1,ii),(5,hv (([]:List Int).length)),(10,ii),(11,ii),(12,ii)],(yq b8 r1 (len_ eI r1) cv).gF,(ab 2)] (.hT (u4 r1 I) (d4 1 .live (show []=(([]:List Int)).map eI from rfl)) (bs 1 .live ba ([]:List Int)) (kB Int) (G7 aB) (fx eI cv) (eN eI cv) (dF ba cv)) (.bS (.d6 (.ek (cv.map eI)))))
def xM (fF f8:List Int)(bw:Int)(f9:List Int)(ai kJ bg a8:Int)(cz a4:List Int):(Int×(List Int))→S:=fun (jz,bi)=>dP [(4,.ref 0 0 0 0),(5,.isl 1 (fF.map eI)),(6,.isl 1 (f8.map eI)),(7,.n .i64 bw),(8,.isl 1 (f9.map eI)),(9,.ref 1 0 0 0),(10,.n .i64 ai),(42,.isl 1 (fF.map eI)),(43,.n .i64 kJ),(44,.n .i64 jz)] [[U.mk 5 [[.n .i64 (0:Int),.n .i64 (0:Int),.cg,.cg,.cg]] .live],[U.mk 5 [(wR bg a8 2 0 0 bi.length cz 3 0 0 a4.length)] .live],(bf 1 eI bi),(bf 1 eI a4)]
def xZ (fF f8:List Int)(bw:Int)(f9:List Int)(ai kJ bg a8:Int)(cz a4:List Int):(List Int)→dT
 | a=>⟨some 2,[(4,.ref 0 0 0 0),(5,.isl 1 (fF.map eI)),(6,.isl 1 (f8.map eI)),(7,.n .i64 bw),(8,.isl 1 (f9.map eI)),(9,.ref 1 0 0 0),(10,.n .i64 ai)],[[U.mk 5 [[.n .i64 (0:Int),.n .i64 (0:Int),.cg,.cg,.cg]] .live],[U.mk 5 [(wR bg a8 2 0 0 a.length cz 3 0 0 a4.length)] .live],(bf 1 eI a),(bf 1 eI a4)]⟩
def qc (fF f8:List Int)(bw:Int)(f9:List Int)(ai kJ bg a8:Int)(cz a4:List Int)(jz:Int)(bi:List Int):Option ((Int×(List Int))⊕((List Int))) :=
 if (decide (jz<kJ))=true then
  if 0≤jz∧jz<fF.length then
  fF[jz.toNat]? >>= fun aP =>
  if 0≤jz∧jz<f8.length then
  f8[jz.toNat]? >>= fun dC =>
  if 0≤(ak ((ak (ai*bw))+aP))∧(ak ((ak (ai*bw))+aP))<f9.length then
  f9[(ak ((ak (ai*bw))+aP)).toNat]? >>= fun ee =>
  if (bi++([ak (dC*ee)]:List Int)).length*8≤140737488355328 then
  some (.inl (ak (jz+(1:Int)),bi++([ak (dC*ee)]:List Int)))
  else none
  else none
  else none
  else none
 else
  some (.inr bi)
def yL (fF f8:List Int)(bw:Int)(f9:List Int)(ai kJ bg a8:Int)(cz a4:List Int)(jz:Int)(bi:List Int):Option ((List Int)):=iter (fun w:Int×(List Int)=>qc fF f8 bw f9 ai kJ bg a8 cz a4 w.1 w.2) (jz,bi)
theorem F9 {fF f8:List Int}{bw:Int}{f9:List Int}{ai kJ bg a8:Int}{cz a4:List Int}{jz:Int}{bi:List Int}:bL (qc fF f8 bw f9 ai kJ bg a8 cz a4 jz bi) (eD bo 69 0 37 [1,1,1,1,1,0,1,0,0,1,0,0,1,0,0] (xM fF f8 bw f9 ai kJ bg a8 cz a4 (jz,bi)) (xM fF f8 bw f9 ai kJ bg a8 cz a4) (xZ fF f8 bw f9 ai kJ bg a8 cz a4)):=by
 unfold qc
 exact .ite (fun h1 =>
  .bx fun I =>
  .aT fun aP aB =>
  .bx fun bk =>
  .aT fun dC bA =>
  .bx fun cC =>
  .aT fun ee df =>
  .bx fun gv =>
  .ret (let bu:=ak (dC*ee);let q1:=(bi++([bu]:List Int));bK [(ab 1),.al true,.aS (bM 2 (.cO (eI aP)) 2),.aS (aO 5 (aZ (.cO (eI dC)) (aO 7 (aZ (.cO (eI ee)) (bM 2 (.aI (q1.length)) 2))))),(ab 2),.bc [0,1,26,3] [.box [.id,.id,.id,.id,.id],.box [.id,.id,.id,.id,.id],.dd (bf 1 eI q1),.pure] (bD [4,5,6,7,8,9,10,42,43,44])] (.b0 h1 I.1 (dJ eI I.2) (dm eI aB) bk.1 (dJ eI bk.2) (dm eI bA) cC.1 (.b0 (dJ eI cC.2) (dm eI df) (iJ eI bu) (ia eI bi) (iK eI bi bu) gv (d4 1 .live (hU eI bi bu)) (bs 1 .live ba q1) (.e1 (bs 1 .live ba a4))))))
  (fun h1 =>
  .ret (bK [(ab 1),.al false,.bc [0,1,2,3] [.box [.id,.id,.id,.id,.id],.box [.id,.id,.id,.id,.id],.pure,.pure] (bD [4,5,6,7,8,9,10])] (.bB h1 (bs 1 .live ba bi) (bs 1 .live ba a4))))
theorem GN {fF f8:List Int}{bw:Int}{f9:List Int}{ai kJ bg a8:Int}{cz a4:List Int}{jz:Int}{bi:List Int}{r} (h:yL fF f8 bw f9 ai kJ bg a8 cz a4 jz bi=some r):eE bo 69 0 37 [1,1,1,1,1,0,1,0,0,1,0,0,1,0,0] (xM fF f8 bw f9 ai kJ bg a8 cz a4) (xZ fF f8 bw f9 ai kJ bg a8 cz a4) (jz,bi) r:=eF (fun _=>F9) h
def xN (fF f8:List Int)(bw:Int)(f9:List Int)(bg a8:Int)(cz a4:List Int):(Int×(List Int))→S:=fun (ai,bi)=>dP [(4,.ref 0 0 0 0),(5,.isl 1 (fF.map eI)),(6,.isl 1 (f8.map eI)),(7,.n .i64 bw),(8,.isl 1 (f9.map eI)),(9,.ref 1 0 0 0),(10,.n .i64 ai)] [[U.mk 5 [[.n .i64 (0:Int),.n .i64 (0:Int),.cg,.cg,.cg]] .live],[U.mk 5 [(wR bg a8 2 0 0 bi.length cz 3 0 0 a4.length)] .live],(bf 1 eI bi),(bf 1 eI a4)]
def x2 (fF f8:List Int)(bw:Int)(f9:List Int)(bg a8:Int)(cz a4:List Int):(List Int)→dT
 | a=>⟨some 0,[(4,.ref 0 0 0 0),(9,.ref 1 0 0 0)],[[U.mk 5 [[.n .i64 (0:Int),.n .i64 (0:Int),.cg,.cg,.cg]] .live],[U.mk 5 [(wR bg a8 2 0 0 a.length cz 3 0 0 a4.length)] .live],(bf 1 eI a),(bf 1 eI a4)]⟩
def qd (fF f8:List Int)(bw:Int)(f9:List Int)(bg a8:Int)(cz a4:List Int)(ai:Int)(bi:List Int):Option ((Int×(List Int))⊕((List Int))) :=
 if (decide (ai<bg))=true then
  yL fF f8 bw f9 ai (len_ eI fF) bg a8 cz a4 0 bi >>= fun bF =>
  some (.inl (ak (ai+(1:Int)),bF))
 else
  some (.inr bi)
def uY (fF f8:List Int)(bw:Int)(f9:List Int)(bg a8:Int)(cz a4:List Int)(ai:Int)(bi:List Int):Option ((List Int)):=iter (fun w:Int×(List Int)=>qd fF f8 bw f9 bg a8 cz a4 w.1 w.2) (ai,bi)
theorem Ga {fF f8:List Int}{bw:Int}{f9:List Int}{bg a8:Int}{cz a4:List Int}{ai:Int}{bi:List Int}:bL (qd fF f8 bw f9 bg a8 cz a4 ai bi) (eD bo 69 0 37 [1,1,1,1,1,0,1,0,0] (xN fF f8 bw f9 bg a8 cz a4 (ai,bi)) (xN fF f8 bw f9 bg a8 cz a4) (x2 fF f8 bw f9 bg a8 cz a4)):=by
 unfold qd
 exact .ite (fun h1 =>
  .aT fun bF aj =>
  .ret (bK [(ab 4),.al true,(ab 3),.bc [0,1,2,3] [.box [.id,.id,.id,.id,.id],.box [.id,.id,.id,.id,.id],.pure,.pure] (bD [4,5,6,7,8,9,10,42,43,44]),(xZ fF f8 bw f9 ai (len_ eI fF) bg a8 cz a4 bF).gF,(ab 3),.bc [0,1,2,3] [.box [.id,.id,.id,.id,.id],.box [.id,.id,.id,.id,.id],.pure,.pure] (bD [4,5,6,7,8,9,10])] (.e9 h1 (bs 1 .live ba bi) (bs 1 .live ba a4) (GN aj) (bs 1 .live ba bF) (bs 1 .live ba a4))))
  (fun h1 =>
  .ret (bK [(ab 4),.al false,.bc [0,1,2,3] [.box [.id,.id,.id,.id,.id],.box [.id,.id,.id,.id,.id],.pure,.pure] (bD [4,9])] (.bB h1 (bs 1 .live ba bi) (bs 1 .live ba a4))))
theorem GO {fF f8:List Int}{bw:Int}{f9:List Int}{bg a8:Int}{cz a4:List Int}{ai:Int}{bi:List Int}{r} (h:uY fF f8 bw f9 bg a8 cz a4 ai bi=some r):eE bo 69 0 37 [1,1,1,1,1,0,1,0,0] (xN fF f8 bw f9 bg a8 cz a4) (x2 fF f8 bw f9 bg a8 cz a4) (ai,bi) r:=eF (fun _=>Ga) h
def sn (az:bE)(b8:List Int):Option ix :=
 sm az >>= fun r1 =>
 sI az >>= fun cv =>
 nT az >>= fun aJ =>
 sy az b8 >>= fun aD =>
 if 0≤(len_ eI r1.1)∧(8:Int)*(len_ eI r1.1)≤281474976710656∧(len_ eI r1.1)<9223372036854775808 then
 uY r1.1 r1.2 (len_ aX az.a7) cv (ak ((2:Int)*(len_ eI aJ))) (len_ eI r1.1) aD (List.replicate (len_ eI r1.1).toNat 0:List Int) 0 ([]:List Int) >>= fun j8 =>
 some (⟨ak ((2:Int)*(len_ eI aJ)),(len_ eI r1.1),j8,aD,(List.replicate (len_ eI r1.1).toNat 0:List Int)⟩:ix)
 else none
theorem Hi {az:bE}{b8:List Int}:bL (sn az b8) (fun r=>Con bo 37 [.agg (fi az),.isl 1 (b8.map eI)] [] (.agg (li r)) []):=by
 unfold sn
 exact .aT fun r1 I =>
  .aT fun cv aB =>
  .aT fun aJ bq =>
  .aT fun aD cC =>
  .bx fun ed =>
  .aT fun j8 gv =>
  .ret (let bu:=len_ eI r1.1;let q1:=(List.replicate bu.toNat 0:List Int);bJ [(ab 2),.aS (bM 1 (cF 1 (.dx [.isl 1 (r1.1.map eI),.isl 1 (r1.2.map eI)]) false) 5),(ab 4),.aS (bM 1 (cF 1 (.isl 1 (cv.map eI)) false) 1),.aS (aO 1 (aZ (cF 1 (.isl 1 (aJ.map eI)) false) (bM 6 (cF 2 (.isl 1 (aD.map eI)) false) 6))),(ab 1),.ur 29 2 1,.bc [1,29,32,27] [.box [.id,.id,.id,.id,.id],.box [.id,.id,.len (([]:List Int).length),.id,.len (q1.length)],.dd (bf 1 eI ([]:List Int)),.dd (bf 1 eI q1)] (bD [4,5,6,7,8,9,10]),(x2 r1.1 r1.2 (len_ aX az.a7) cv (ak ((2:Int)*(len_ eI aJ))) bu aD q1 j8).gF,(ab 2)] (.b0 (He r1 I) (HP cv aB) (u4 aJ bq) (Hy aD cC) ed.1 (Int.le_refl bu) ed.2.1 ed.2.2 (.b0 (kB Int) (kE bu.toNat (0:Int)) (d4 1 .live (rV eI)) (bs 1 .live ba ([]:List Int)) (d4 1 .live (ke eI bu.toNat 0)) (bs 1 .live ba q1) (GO gv) (fx eI j8) (.gk (eN eI j8) (dF ba j8) (fx eI q1) (eN eI q1) (dF ba q1)))) (.bS (.agg [.id,.id,.ek (j8.map eI),.id,.ek (q1.map eI)])))
def xO (ch:List (List Int))(bw fT gq:Int)(ck:List Int)(ey ez kK bg a8:Int)(cz eu et:List Int)(eA ew:Int)(bU dH:List Int):(Int×(List Int))→S:=fun (kL,a4)=>dP [(1,.isl 1 (ch.map (eL 1 eI))),(4,.ref 0 0 0 0),(5,.ref 1 0 0 0),(6,.ref 2 0 0 0),(7,.n .i64 bw),(9,.n .i64 fT),(10,.n .i64 gq),(36,.isl 1 (ck.map eI)),(37,.n .i64 ey),(38,.n .i64 ez),(62,.isl 1 (ch.map (eL 1 eI))),(63,.n .i64 kK),(64,.n .i64 kL)] [[U.mk 5 [[.n .i64 (0:Int),.n .i64 (0:Int),.cg,.cg,.cg]] .live],[U.mk 5 [[.n .i64 bg,.n .i64 a8,.isl 1 (cz.map eI),.isl 1 (eu.map eI),.isl 1 (et.map eI)]] .live],[U.mk 5 [(fA eA ew 3 0 0 a4.length 4 0 0 bU.length 5 0 0 dH.length)] .live],(bf 1 eI a4),(bf 1 eI bU),(bf 1 eI dH)]
def x3 (ch:List (List Int))(bw fT gq:Int)(ck:List Int)(ey ez kK bg a8:Int)(cz eu et:List Int)(eA ew:Int)(bU dH:List Int):(List Int)→dT
 | a=>⟨some 4,[(1,.isl 1 (ch.map (eL 1 eI))),(4,.ref 0 0 0 0),(5,.ref 1 0 0 0),(6,.ref 2 0 0 0),(7,.n .i64 bw),(9,.n .i64 fT),(10,.n .i64 gq),(36,.isl 1 (ck.map eI)),(37,.n .i64 ey),(38,.n .i64 ez)],[[U.mk 5 [[.n .i64 (0:Int),.n .i64 (0:Int),.cg,.cg,.cg]] .live],[U.mk 5 [[.n .i64 bg,.n .i64 a8,.isl 1 (cz.map eI),.isl 1 (eu.map eI),.isl 1 (et.map eI)]] .live],[U.mk 5 [(fA eA ew 3 0 0 a.length 4 0 0 bU.length 5 0 0 dH.length)] .live],(bf 1 eI a),(bf 1 eI bU),(bf 1 eI dH)]⟩
def qe (ch:List (List Int))(bw fT gq:Int)(ck:List Int)(ey ez kK bg a8:Int)(cz eu et:List Int)(eA ew:Int)(bU dH:List Int)(kL:Int)(a4:List Int):Option ((Int×(List Int))⊕((List Int))) :=
 if (decide (kL<kK))=true then
  if 0≤kL∧kL<ch.length then
  ch[kL.toNat]? >>= fun aP =>
  if 0≤(ak ((ak ((2:Int)*fT))+gq))∧(ak ((ak ((2:Int)*fT))+gq))<aP.length then
  aP[(ak ((ak ((2:Int)*fT))+gq)).toNat]? >>= fun dC =>
  if (a4++([dC]:List Int)).length*8≤140737488355328 then
  some (.inl (ak (kL+(1:Int)),a4++([dC]:List Int)))
  else none
  else none
  else none
 else
  some (.inr a4)
def uZ (ch:List (List Int))(bw fT gq:Int)(ck:List Int)(ey ez kK bg a8:Int)(cz eu et:List Int)(eA ew:Int)(bU dH:List Int)(kL:Int)(a4:List Int):Option ((List Int)):=iter (fun w:Int×(List Int)=>qe ch bw fT gq ck ey ez kK bg a8 cz eu et eA ew bU dH w.1 w.2) (kL,a4)
theorem Gb {ch:List (List Int)}{bw fT gq:Int}{ck:List Int}{ey ez kK bg a8:Int}{cz eu et:List Int}{eA ew:Int}{bU dH:List Int}{kL:Int}{a4:List Int}:bL (qe ch bw fT gq ck ey ez kK bg a8 cz eu et eA ew bU dH kL a4) (eD bo 111 0 21 [1,1,1,1,0,1,0,0,1,1,0,0,1,1,0,0,1,0,0,1,0,1,0,0] (xO ch bw fT gq ck ey ez kK bg a8 cz eu et eA ew bU dH (kL,a4)) (xO ch bw fT gq ck ey ez kK bg a8 cz eu et eA ew bU dH) (x3 ch bw fT gq ck ey ez kK bg a8 cz eu et eA ew bU dH)):=by
 unfold qe
 exact .ite (fun h1 =>
  .bx fun I =>
  .aT fun aP aB =>
  .bx fun bk =>
  .aT fun dC bA =>
  .bx fun cC =>
  .ret (let q1:=(a4++([dC]:List Int));bK [(ab 1),.al true,.aS (bM 1 (.cO ((eL 1 eI) aP)) 1),.aS (aO 8 (aZ (.cO (eI dC)) (bM 1 (.aI (q1.length)) 2))),(ab 2),.bc [0,1,2,20,4,5] [.box [.id,.id,.id,.id,.id],.box [.id,.id,.id,.id,.id],.box [.id,.id,.id,.id,.id],.dd (bf 1 eI q1),.pure,.pure] (bD [1,4,5,6,7,9,10,36,37,38,62,63,64])] (.b0 h1 I.1 (dJ (eL 1 eI) I.2) (dm (eL 1 eI) aB) bk.1 (dJ eI bk.2) (dm eI bA) (iJ eI dC) (.hS (ia eI a4) (iK eI a4 dC) cC (d4 1 .live (hU eI a4 dC)) (bs 1 .live ba q1) (bs 1 .live ba bU) (bs 1 .live ba dH)))))
  (fun h1 =>
  .ret (bK [(ab 1),.al false,.bc [0,1,2,3,4,5] [.box [.id,.id,.id,.id,.id],.box [.id,.id,.id,.id,.id],.box [.id,.id,.id,.id,.id],.pure,.pure,.pure] (bD [1,4,5,6,7,9,10,36,37,38])] (.dk h1 (bs 1 .live ba a4) (bs 1 .live ba bU) (bs 1 .live ba dH))))
theorem GP {ch:List (List Int)}{bw fT gq:Int}{ck:List Int}{ey ez kK bg a8:Int}{cz eu et:List Int}{eA ew:Int}{bU dH:List Int}{kL:Int}{a4:List Int}{r} (h:uZ ch bw fT gq ck ey ez kK bg a8 cz eu et eA ew bU dH kL a4=some r):eE bo 111 0 21 [1,1,1,1,0,1,0,0,1,1,0,0,1,1,0,0,1,0,0,1,0,1,0,0] (xO ch bw fT gq ck ey ez kK bg a8 cz eu et eA ew bU dH) (x3 ch bw fT gq ck ey ez kK bg a8 cz eu et eA ew bU dH) (kL,a4) r:=eF (fun _=>Gb) h
def xP (ch:List (List Int))(fT:Int)(ck:List Int)(ey ez bg a8:Int)(cz eu et:List Int)(eA ew:Int)(dH:List Int):(Int×Int×(List Int)×(List Int))→S:=fun (bw,gq,a4,bU)=>dP [(1,.isl 1 (ch.map (eL 1 eI))),(4,.ref 0 0 0 0),(5,.ref 1 0 0 0),(6,.ref 2 0 0 0),(7,.n .i64 bw),(9,.n .i64 fT),(10,.n .i64 gq),(36,.isl 1 (ck.map eI)),(37,.n .i64 ey),(38,.n .i64 ez)] [[U.mk 5 [[.n .i64 (0:Int),.n .i64 (0:Int),.cg,.cg,.cg]] .live],[U.mk 5 [[.n .i64 bg,.n .i64 a8,.isl 1 (cz.map eI),.isl 1 (eu.map eI),.isl 1 (et.map eI)]] .live],[U.mk 5 [(fA eA ew 3 0 0 a4.length 4 0 0 bU.length 5 0 0 dH.length)] .live],(bf 1 eI a4),(bf 1 eI bU),(bf 1 eI dH)]
def x4 (ch:List (List Int))(fT:Int)(ck:List Int)(ey ez bg a8:Int)(cz eu et:List Int)(eA ew:Int)(dH:List Int):(Int×(List Int)×(List Int))→dT
 | a=>⟨some 2,[(1,.isl 1 (ch.map (eL 1 eI))),(4,.ref 0 0 0 0),(5,.ref 1 0 0 0),(6,.ref 2 0 0 0),(7,.n .i64 a.1),(36,.isl 1 (ck.map eI)),(37,.n .i64 ey),(38,.n .i64 ez)],[[U.mk 5 [[.n .i64 (0:Int),.n .i64 (0:Int),.cg,.cg,.cg]] .live],[U.mk 5 [[.n .i64 bg,.n .i64 a8,.isl 1 (cz.map eI),.isl 1 (eu.map eI),.isl 1 (et.map eI)]] .live],[U.mk 5 [(fA eA ew 3 0 0 a.2.1.length 4 0 0 a.2.2.length 5 0 0 dH.length)] .live],(bf 1 eI a.2.1),(bf 1 eI a.2.2),(bf 1 eI dH)]⟩
def qf (ch:List (List Int))(fT:Int)(ck:List Int)(ey ez bg a8:Int)(cz eu et:List Int)(eA ew:Int)(dH:List Int)(bw gq:Int)(a4 bU:List Int):Option ((Int×Int×(List Int)×(List Int))⊕(Int×(List Int)×(List Int))) :=
 if (decide (gq<(2:Int)))=true then
  if 0≤(ak (bw*a8)) then
  if 0≤(ak ((ak (bw+(1:Int)))*a8)) then
  if (ak (bw*a8)).toNat≤(ak ((ak (bw+(1:Int)))*a8)).toNat∧(ak ((ak (bw+(1:Int)))*a8)).toNat≤cz.length then
  if (a4++((cz.drop ((ak (bw*a8)).toNat)).take ((ak ((ak (bw+(1:Int)))*a8)).toNat-(ak (bw*a8)).toNat))).length*8≤140737488355328 then
  uZ ch bw fT gq ck ey ez (len_ (eL 1 eI) ch) bg a8 cz eu et eA ew bU dH 0 (a4++((cz.drop ((ak (bw*a8)).toNat)).take ((ak ((ak (bw+(1:Int)))*a8)).toNat-(ak (bw*a8)).toNat))) >>= fun dE =>
  if (bU++([0]:List Int)).length*8≤140737488355328 then
  some (.inl (ak (bw+(1:Int)),ak (gq+(1:Int)),dE,bU++([0]:List Int)))
  else none
  else none
  else none
  else none
  else none
 else
  some (.inr (bw,a4,bU))
def yM (ch:List (List Int))(fT:Int)(ck:List Int)(ey ez bg a8:Int)(cz eu et:List Int)(eA ew:Int)(dH:List Int)(bw gq:Int)(a4 bU:List Int):Option (Int×(List Int)×(List Int)):=iter (fun w:Int×Int×(List Int)×(List Int)=>qf ch fT ck ey ez bg a8 cz eu et eA ew dH w.1 w.2.1 w.2.2.1 w.2.2.2) (bw,gq,a4,bU)
theorem Gc {ch:List (List Int)}{fT:Int}{ck:List Int}{ey ez bg a8:Int}{cz eu et:List Int}{eA ew:Int}{dH:List Int}{bw gq:Int}{a4 bU:List Int}:bL (qf ch fT ck ey ez bg a8 cz eu et eA ew dH bw gq a4 bU) (eD bo 111 0 21 [1,1,1,1,0,1,0,0,1,1,0,0,1,1,0,0] (xP ch fT ck ey ez bg a8 cz eu et eA ew dH (bw,gq,a4,bU)) (xP ch fT ck ey ez bg a8 cz eu et eA ew dH) (x4 ch fT ck ey ez bg a8 cz eu et eA ew dH)):=by
 unfold qf
 exact .ite (fun h1 =>
  .bx fun I =>
  .bx fun aj =>
  .bx fun aB =>
  .bx fun bk =>
  .aT fun dE bA =>
  .bx fun cC =>
  .ret (let q1:=(ak ((ak (bw+(1:Int)))*a8));let bu:=ak (bw*a8);let cr:=(bU++([0]:List Int));bK [(ab 2),.al true,.aS (bM 14 (.aI ((a4++((cz.drop (bu.toNat)).take (q1.toNat-bu.toNat))).length)) 2),(ab 3),.bc [0,1,2,22,4,5] [.box [.id,.id,.id,.id,.id],.box [.id,.id,.id,.id,.id],.box [.id,.id,.id,.id,.id],.dd (bf 1 eI (a4++((cz.drop (bu.toNat)).take (q1.toNat-bu.toNat)))),.pure,.pure] (bD [1,4,5,6,7,9,10,36,37,38,62,63,64]),(x3 ch bw fT gq ck ey ez (len_ (eL 1 eI) ch) bg a8 cz eu et eA ew bU dH dE).gF,.aS (bM 3 (.aI (cr.length)) 2),(ab 3),(ab 3),.bc [0,1,2,3,9,5] [.box [.id,.id,.id,.id,.id],.box [.id,.id,.id,.id,.id],.box [.id,.id,.id,.id,.id],.pure,.dd (bf 1 eI cr),.pure] (bD [1,4,5,6,7,9,10,36,37,38])] (.b0 h1 I aj aB.1 (Kq (d3 eI cz) aB.2) (ia eI a4) (o5 (dD a4) (tc (d3 eI cz) (bu.toNat) (q1.toNat-bu.toNat)):(a4++((cz.drop (bu.toNat)).take (q1.toNat-bu.toNat))).length=a4.length+(((cz.map eI).drop (bu.toNat)).take (q1.toNat-bu.toNat)).length) bk (.b0 (d4 1 .live (mm (d3 eI a4) (dD a4) (tc (d3 eI cz) (bu.toNat) (q1.toNat-bu.toNat)))) (bs 1 .live ba (a4++((cz.drop (bu.toNat)).take (q1.toNat-bu.toNat)))) (bs 1 .live ba bU) (bs 1 .live ba dH) (GP bA) (iJ eI 0) (ia eI bU) (iK eI bU 0) (.gk cC (bs 1 .live ba dE) (d4 1 .live (hU eI bU 0)) (bs 1 .live ba cr) (bs 1 .live ba dH))))))
  (fun h1 =>
  .ret (bK [(ab 2),.al false,.bc [0,1,2,3,4,5] [.box [.id,.id,.id,.id,.id],.box [.id,.id,.id,.id,.id],.box [.id,.id,.id,.id,.id],.pure,.pure,.pure] (bD [1,4,5,6,7,36,37,38])] (.dk h1 (bs 1 .live ba a4) (bs 1 .live ba bU) (bs 1 .live ba dH))))
theorem GQ {ch:List (List Int)}{fT:Int}{ck:List Int}{ey ez bg a8:Int}{cz eu et:List Int}{eA ew:Int}{dH:List Int}{bw gq:Int}{a4 bU:List Int}{r} (h:yM ch fT ck ey ez bg a8 cz eu et eA ew dH bw gq a4 bU=some r):eE bo 111 0 21 [1,1,1,1,0,1,0,0,1,1,0,0,1,1,0,0] (xP ch fT ck ey ez bg a8 cz eu et eA ew dH) (x4 ch fT ck ey ez bg a8 cz eu et eA ew dH) (bw,gq,a4,bU) r:=eF (fun _=>Gc) h
def xQ (ch:List (List Int))(ck:List Int)(ey bg a8:Int)(cz eu et:List Int)(eA ew:Int)(dH:List Int):(Int×Int×(List Int)×(List Int))→S:=fun (bw,ez,a4,bU)=>dP [(1,.isl 1 (ch.map (eL 1 eI))),(4,.ref 0 0 0 0),(5,.ref 1 0 0 0),(6,.ref 2 0 0 0),(7,.n .i64 bw),(36,.isl 1 (ck.map eI)),(37,.n .i64 ey),(38,.n .i64 ez)] [[U.mk 5 [[.n .i64 (0:Int),.n .i64 (0:Int),.cg,.cg,.cg]] .live],[U.mk 5 [[.n .i64 bg,.n .i64 a8,.isl 1 (cz.map eI),.isl 1 (eu.map eI),.isl 1 (et.map eI)]] .live],[U.mk 5 [(fA eA ew 3 0 0 a4.length 4 0 0 bU.length 5 0 0 dH.length)] .live],(bf 1 eI a4),(bf 1 eI bU),(bf 1 eI dH)]
def x5 (ch:List (List Int))(ck:List Int)(ey bg a8:Int)(cz eu et:List Int)(eA ew:Int)(dH:List Int):((List Int)×(List Int))→dT
 | a=>⟨some 0,[(1,.isl 1 (ch.map (eL 1 eI))),(4,.ref 0 0 0 0),(5,.ref 1 0 0 0),(6,.ref 2 0 0 0)],[[U.mk 5 [[.n .i64 (0:Int),.n .i64 (0:Int),.cg,.cg,.cg]] .live],[U.mk 5 [[.n .i64 bg,.n .i64 a8,.isl 1 (cz.map eI),.isl 1 (eu.map eI),.isl 1 (et.map eI)]] .live],[U.mk 5 [(fA eA ew 3 0 0 a.1.length 4 0 0 a.2.length 5 0 0 dH.length)] .live],(bf 1 eI a.1),(bf 1 eI a.2),(bf 1 eI dH)]⟩
def qg (ch:List (List Int))(ck:List Int)(ey bg a8:Int)(cz eu et:List Int)(eA ew:Int)(dH:List Int)(bw ez:Int)(a4 bU:List Int):Option ((Int×Int×(List Int)×(List Int))⊕((List Int)×(List Int))) :=
 if (decide (ez<ey))=true then
  if 0≤ez∧ez<ck.length then
  ck[ez.toNat]? >>= fun aP =>
  yM ch aP ck ey ez bg a8 cz eu et eA ew dH bw 0 a4 bU >>= fun aJ =>
  some (.inl (aJ.1,ak (ez+(1:Int)),aJ.2.1,aJ.2.2))
  else none
 else
  some (.inr (a4,bU))
def u0 (ch:List (List Int))(ck:List Int)(ey bg a8:Int)(cz eu et:List Int)(eA ew:Int)(dH:List Int)(bw ez:Int)(a4 bU:List Int):Option ((List Int)×(List Int)):=iter (fun w:Int×Int×(List Int)×(List Int)=>qg ch ck ey bg a8 cz eu et eA ew dH w.1 w.2.1 w.2.2.1 w.2.2.2) (bw,ez,a4,bU)
theorem Gd {ch:List (List Int)}{ck:List Int}{ey bg a8:Int}{cz eu et:List Int}{eA ew:Int}{dH:List Int}{bw ez:Int}{a4 bU:List Int}:bL (qg ch ck ey bg a8 cz eu et eA ew dH bw ez a4 bU) (eD bo 111 0 21 [1,1,1,1,0,1,0,0] (xQ ch ck ey bg a8 cz eu et eA ew dH (bw,ez,a4,bU)) (xQ ch ck ey bg a8 cz eu et eA ew dH) (x5 ch ck ey bg a8 cz eu et eA ew dH)):=by
 unfold qg
 exact .ite (fun h1 =>
  .bx fun I =>
  .aT fun aP aB =>
  .aT fun aJ bq =>
  .ret (bK [(ab 1),.al true,.aS (bM 1 (.cO (eI aP)) 1),(ab 1),.bc [0,1,2,3,4,5] [.box [.id,.id,.id,.id,.id],.box [.id,.id,.id,.id,.id],.box [.id,.id,.id,.id,.id],.pure,.pure,.pure] (bD [1,4,5,6,7,9,10,36,37,38]),(x4 ch aP ck ey ez bg a8 cz eu et eA ew dH aJ).gF,(ab 2),.bc [0,1,2,3,4,5] [.box [.id,.id,.id,.id,.id],.box [.id,.id,.id,.id,.id],.box [.id,.id,.id,.id,.id],.pure,.pure,.pure] (bD [1,4,5,6,7,36,37,38])] (.b0 h1 I.1 (dJ eI I.2) (dm eI aB) (bs 1 .live ba a4) (bs 1 .live ba bU) (bs 1 .live ba dH) (GQ bq) (.bB (bs 1 .live ba aJ.2.1) (bs 1 .live ba aJ.2.2) (bs 1 .live ba dH)))))
  (fun h1 =>
  .ret (bK [(ab 1),.al false,.bc [0,1,2,3,4,5] [.box [.id,.id,.id,.id,.id],.box [.id,.id,.id,.id,.id],.box [.id,.id,.id,.id,.id],.pure,.pure,.pure] (bD [1,4,5,6])] (.dk h1 (bs 1 .live ba a4) (bs 1 .live ba bU) (bs 1 .live ba dH))))
theorem GR {ch:List (List Int)}{ck:List Int}{ey bg a8:Int}{cz eu et:List Int}{eA ew:Int}{dH:List Int}{bw ez:Int}{a4 bU:List Int}{r} (h:u0 ch ck ey bg a8 cz eu et eA ew dH bw ez a4 bU=some r):eE bo 111 0 21 [1,1,1,1,0,1,0,0] (xQ ch ck ey bg a8 cz eu et eA ew dH) (x5 ch ck ey bg a8 cz eu et eA ew dH) (bw,ez,a4,bU) r:=eF (fun _=>Gd) h
def xR (kM bg a8:Int)(a4 bU:List Int):(Int×(List Int))→S:=fun (lY,bi)=>dP [(4,.ref 0 0 0 0),(6,.ref 1 0 0 0),(96,.n .i64 kM),(97,.n .i64 lY)] [[U.mk 5 [[.n .i64 (0:Int),.n .i64 (0:Int),.cg,.cg,.cg]] .live],[U.mk 5 [(fA bg a8 2 0 0 bi.length 3 0 0 a4.length 4 0 0 bU.length)] .live],(bf 1 eI bi),(bf 1 eI a4),(bf 1 eI bU)]
def x6 (kM bg a8:Int)(a4 bU:List Int):(List Int)→dT
 | a=>⟨some 6,[(4,.ref 0 0 0 0),(6,.ref 1 0 0 0)],[[U.mk 5 [[.n .i64 (0:Int),.n .i64 (0:Int),.cg,.cg,.cg]] .live],[U.mk 5 [(fA bg a8 2 0 0 a.length 3 0 0 a4.length 4 0 0 bU.length)] .live],(bf 1 eI a),(bf 1 eI a4),(bf 1 eI bU)]⟩
def qh (kM bg a8:Int)(a4 bU:List Int)(lY:Int)(bi:List Int):Option ((Int×(List Int))⊕((List Int))) :=
 if (decide (lY<kM))=true then
  if (bi++([1]:List Int)).length*8≤140737488355328 then
  some (.inl (ak (lY+(1:Int)),bi++([1]:List Int)))
  else none
 else
  some (.inr bi)
def yN (kM bg a8:Int)(a4 bU:List Int)(lY:Int)(bi:List Int):Option ((List Int)):=iter (fun w:Int×(List Int)=>qh kM bg a8 a4 bU w.1 w.2) (lY,bi)
theorem Ge {kM bg a8:Int}{a4 bU:List Int}{lY:Int}{bi:List Int}:bL (qh kM bg a8 a4 bU lY bi) (eD bo 111 0 21 [1,1,1,1,1,1,0,1,0,0] (xR kM bg a8 a4 bU (lY,bi)) (xR kM bg a8 a4 bU) (x6 kM bg a8 a4 bU)):=by
 unfold qh
 exact .ite (fun h1 =>
  .bx fun I =>
  .ret (let q1:=(bi++([1]:List Int));bK [(ab 1),.al true,.aS (bM 3 (.aI (q1.length)) 2),(ab 2),.bc [0,1,9,3,4] [.box [.id,.id,.id,.id,.id],.box [.id,.id,.id,.id,.id],.dd (bf 1 eI q1),.pure,.pure] (bD [4,6,96,97])] (.b0 h1 (iJ eI 1) (ia eI bi) (iK eI bi 1) I (d4 1 .live (hU eI bi 1)) (bs 1 .live ba q1) (bs 1 .live ba a4) (.e1 (bs 1 .live ba bU)))))
  (fun h1 =>
  .ret (bK [(ab 1),.al false,.bc [0,1,2,3,4] [.box [.id,.id,.id,.id,.id],.box [.id,.id,.id,.id,.id],.pure,.pure,.pure] (bD [4,6])] (.dk h1 (bs 1 .live ba bi) (bs 1 .live ba a4) (bs 1 .live ba bU))))
theorem GS {kM bg a8:Int}{a4 bU:List Int}{lY:Int}{bi:List Int}{r} (h:yN kM bg a8 a4 bU lY bi=some r):eE bo 111 0 21 [1,1,1,1,1,1,0,1,0,0] (xR kM bg a8 a4 bU) (x6 kM bg a8 a4 bU) (lY,bi) r:=eF (fun _=>Ge) h
def so (az:bE)(ch:List (List Int)):Option ix :=
 if 0≤(ak ((2:Int)*(len_ aH az.a3)))∧(8:Int)*(ak ((2:Int)*(len_ aH az.a3)))≤281474976710656∧(ak ((2:Int)*(len_ aH az.a3)))<9223372036854775808 then
 sn az (List.replicate (ak ((2:Int)*(len_ aH az.a3))).toNat 0:List Int) >>= fun bF =>
 if 0≤(ak (bF.hs+(len_ (eL 1 eI) ch)))∧(8:Int)*(ak (bF.hs+(len_ (eL 1 eI) ch)))≤281474976710656∧(ak (bF.hs+(len_ (eL 1 eI) ch)))<9223372036854775808 then
 nT az >>= fun aJ =>
 u0 ch aJ (len_ eI aJ) bF.nx bF.hs bF.c9 bF.c7 bF.pS (ak (bF.nx+(1:Int))) (ak (bF.hs+(len_ (eL 1 eI) ch))) (List.replicate (ak (bF.hs+(len_ (eL 1 eI) ch))).toNat 0:List Int) 0 0 ([]:List Int) ([]:List Int) >>= fun aD =>
 if 0≤bF.hs∧bF.hs<9223372036854775808 then
 if (aD.1++(List.replicate bF.hs.toNat 0:List Int)).length*8≤140737488355328 then
 yN (len_ (eL 1 eI) ch) (ak (bF.nx+(1:Int))) (ak (bF.hs+(len_ (eL 1 eI) ch))) aD.2 (List.replicate (ak (bF.hs+(len_ (eL 1 eI) ch))).toNat 0:List Int) 0 (aD.1++(List.replicate bF.hs.toNat 0:List Int)) >>= fun lF =>
 if (aD.2++([1]:List Int)).length*8≤140737488355328 then
 some (⟨ak (bF.nx+(1:Int)),ak (bF.hs+(len_ (eL 1 eI) ch)),lF,aD.2++([1]:List Int),(List.replicate (ak (bF.hs+(len_ (eL 1 eI) ch))).toNat 0:List Int)⟩:ix)
 else none
 else none
 else none
 else none
 else none
theorem Hj {az:bE}{ch:List (List Int)}:bL (so az ch) (fun r=>Con bo 21 [.agg (fi az),.isl 1 (ch.map (eL 1 eI))] [] (.agg (li r)) []):=by
 unfold so
 exact .bx fun h1 =>
  .aT fun bF aj =>
  .bx fun aB =>
  .aT fun aJ bq =>
  .aT fun aD cC =>
  .bx fun ed =>
  .bx fun df =>
  .aT fun lF la =>
  .bx fun gi =>
  .ret (let bu:=(ak ((2:Int)*(len_ aH az.a3)));let cr:=ak (bF.hs+(len_ (eL 1 eI) ch));let q1:=(List.replicate cr.toNat 0:List Int);let dr:=(aD.1++(List.replicate bF.hs.toNat 0:List Int));let d7:=(aD.2++([1]:List Int));let hg:=(bs 1 .live ba ([]:List Int));let iw:=(List.replicate bu.toNat 0:List Int);let jN:=(ak (bF.nx+(1:Int)));let mK:=(bf 1 eI ([]:List Int));bJ [(ab 2),.aS (bM 6 (.pH 7 (.call {ac:=[ii,.bS (.d6 (.ek (iw.map eI)))],r:= .agg (li bF),eb:=false,eg:=[7]})) 2),(ab 17),(ab 1),.aS (bM 1 (cF 1 (.isl 1 (aJ.map eI)) false) 2),.ur 26 2 1,.ur 26 3 1,.bc [1,9,26,33,34,24] [.box [.id,.id,.id,.id,.id],.box [.id,.id,.id,.id,.id],.box [.id,.id,.len (([]:List Int).length),.len (([]:List Int).length),.len (q1.length)],.dd mK,.dd mK,.dd (bf 1 eI q1)] (bD [1,4,5,6,7,36,37,38]),(x5 ch aJ (len_ eI aJ) bF.nx bF.hs bF.c9 bF.c7 bF.pS jN cr q1 aD).gF,.aS (bM 4 (.aI (dr.length)) 2),(ab 3),.bc [0,2,10,4,5] [.box [.id,.id,.id,.id,.id],.box [.id,.id,.id,.id,.id],.dd (bf 1 eI dr),.pure,.pure] (bD [4,6,96,97]),(x6 (len_ (eL 1 eI) ch) jN cr aD.2 q1 lF).gF,.aS (bM 3 (.aI (d7.length)) 2),(ab 2)] (.b0 h1.1 (Int.le_refl bu) h1.2.1 h1.2.2 (mQ (ke eI bu.toNat 0) (kE bu.toNat (0:Int))) (lP (ke eI bu.toNat 0) (kE bu.toNat (0:Int))) (dF ba iw) (Hi bF aj) (.b0 aB.1 (Int.le_refl cr) aB.2.1 aB.2.2 (u4 aJ bq) (kB Int) (kB Int) (kE cr.toNat (0:Int)) (.b0 (d4 1 .live (rV eI)) hg (d4 1 .live (rV eI)) hg (d4 1 .live (ke eI cr.toNat 0)) (bs 1 .live ba q1) (GR cC) ed.1 (.b0 ed.2 (ia eI aD.1) (o5 (dD aD.1) (show (List.replicate bF.hs.toNat [.n .i64 (0:Int)])=(List.replicate bF.hs.toNat 0:List Int).map eI from ke eI bF.hs.toNat 0):dr.length=aD.1.length+(List.replicate bF.hs.toNat [.n .i64 (0:Int)]).length) df (d4 1 .live (mm (d3 eI aD.1) (dD aD.1) (show (List.replicate bF.hs.toNat [.n .i64 (0:Int)])=(List.replicate bF.hs.toNat 0:List Int).map eI from ke eI bF.hs.toNat 0))) (bs 1 .live ba dr) (bs 1 .live ba aD.2) (bs 1 .live ba q1) (.b0 (GS la) (iJ eI 1) (ia eI aD.2) (iK eI aD.2 1) gi (fx eI lF) (eN eI lF) (dF ba lF) (.e9 (mQ (hU eI aD.2 1) (dD d7)) (lP (hU eI aD.2 1) (dD d7)) (dF ba d7) (fx eI q1) (eN eI q1) (dF ba q1))))))) (.bS (.agg [.id,.id,.ek (lF.map eI),.ek (d7.map eI),.ek (q1.map eI)])))
def sk (az:bE)(ch:List (List Int)):Option ix :=
 qN az ch >>= fun r1 =>
 if r1=true then
  so az ch >>= fun br =>
  some br
 else
  some (⟨0,0,([]:List Int),([]:List Int),([]:List Int)⟩:ix)
theorem G8 {az:bE}{ch:List (List Int)}:bL (sk az ch) (fun r=>Con bo 6 [.agg (fi az),.isl 1 (ch.map (eL 1 eI))] [] (.agg (li r)) []):=by
 unfold sk
 exact .aT fun r1 I =>
  (let t1:List cd:=[(ab 2),.aS (bM 2 (cF 2 (.b r1) true) 1)];
  have aW:=((.au (HO r1 I) (bj.b r1)):cA _);
  .ite (fun aj =>
  .aT fun br bk =>
  .ret (bJ (t1.append [.al false,.aS (bM 2 (cF 2 (.agg (li br)) false) 1)]) (aW.aI (.au (c5 aj) (Hj br bk)))))
  (fun aj =>
  .ret (bJ (t1.append [.al true,(ab 2)]) (aW.aI (.e1 (c0 aj))) (.bS (.agg [.id,.id,.m7 1,.m7 1,.m7 1])))))
def sA (fe:Int):Option Bool :=
 if (decide ((97:Int)≤fe))=true then
  some (decide (fe≤(122:Int)))
 else
  some false
theorem Hz {fe:Int}:bL (sA fe) (fun r=>Con bo 74 [.n .u8 fe] [] (.b r) []):=by
 unfold sA
 exact .ite (fun h1 =>
  .ret (bJ [(ab 1),.aS (bM 5 (.al true) 1)] (.bB h1 h1 h1)))
  (fun h1 =>
  .ret (bJ [(ab 1),.aS (aO 3 (dB 2 (aZ (.al false) (aO 1 []))))] (.bB h1 h1 h1)))
def sJ (fe:Int):Option Bool :=
 if (decide ((48:Int)≤fe))=true then
  some (decide (fe≤(57:Int)))
 else
  some false
theorem HQ {fe:Int}:bL (sJ fe) (fun r=>Con bo 75 [.n .u8 fe] [] (.b r) []):=by
 unfold sJ
 exact .ite (fun h1 =>
  .ret (bJ [(ab 1),.aS (bM 5 (.al true) 1)] (.bB h1 h1 h1)))
  (fun h1 =>
  .ret (bJ [(ab 1),.aS (aO 3 (dB 2 (aZ (.al false) (aO 1 []))))] (.bB h1 h1 h1)))
def yE (az:ByteArray)(kU:Int):Int→S:=fun jA=>dP [(0,.s az),(5,.n .i64 kU),(6,.n .i64 jA)] []
def BQ (az:ByteArray)(kU:Int):((Unit)⊕(Unit))→dT
 | .inl a=>⟨some 0,[(0,.s az)],[]⟩
 | .inr a=>⟨none,[(2,.b false)],[]⟩
def sc (az:ByteArray)(kU jA:Int):Option ((Int)⊕((Unit)⊕(Unit))) :=
 if (decide (jA<kU))=true then
  if 0≤jA∧jA<(az.size:Nat) then
  sA ((az.data.toList.getD jA.toNat 0).toNat:Int) >>= fun cv =>
  if cv=true then
   some (.inl (ak (jA+(1:Int))))
  else
   if (jA == (0:Int))=true then
    some (.inr (.inr ()))
   else
    sJ ((az.data.toList.getD jA.toNat 0).toNat:Int) >>= fun aD =>
    if aD=true then
     some (.inl (ak (jA+(1:Int))))
    else
     some (.inr (.inr ()))
  else none
 else
  some (.inr (.inl ()))
def u7 (az:ByteArray)(kU jA:Int):Option ((Unit)⊕(Unit)):=iter (fun w:Int=>sc az kU w) jA
theorem GG {az:ByteArray}{kU jA:Int}:bL (sc az kU jA) (eD bo 33 0 66 [1,0,1,0,0] (yE az kU jA) (yE az kU) (BQ az kU)):=by
 unfold sc
 exact .ite (fun h1 =>
  .bx fun I =>
  .aT fun cv aB =>
  (let t1:List cd:=[(ab 1),.al true,(ab 2)];
  have aW:=((.gk h1 I.1 I.2 (Hz cv aB) (bj.b cv)):cA _);
  .ite (fun bk =>
  .ret (bK (t1.append [.aS (aO 3 (aZ (cF 1 (.b cv) true) (aO 2 (dB 3 (aO 5 (dB 1 (aZ (.al false) []))))))),.al false,(ab 2),.bc [] [] (bD [0,5,6])]) (aW.aI (.e9 (c5 bk) (c5 bk) (c5 bk) (c5 bk) (c5 bk) kx))))
  (fun bk =>
  (have fw:=aW.aI (.bB (c0 bk) (c0 bk) (c0 bk));
  .ite (fun bq =>
  .ret (bK (t1.append [.aS (aO 3 (aZ (cF 1 (.b cv) true) (aO 5 (dB 5 (aZ (.al true) (aZ (.al true) [])))))),.al true,(ab 1),.bc [] [] (bD [2])]) (fw.aI (.b0 bq bq bq bq bq (c0 bk) bq (c0 bk) (.e1 cK)))))
  (fun bq =>
  .aT fun aD cC =>
  (let t4:List cd:=t1.append [.aS (aO 3 (aZ (cF 1 (.b cv) true) (aO 8 (aZ (cF 1 (.b aD) true) (aO 1 (aZ (.al false) (aZ (.al true) [])))))))];
  have k1:=fw.aI (.b0 bq bq bq I.1 I.2 bq (HQ aD cC) (bj.b aD) (.dk bq (c0 bk) bq (c0 bk)));
  .ite (fun ed =>
  .ret (bK (t4.append [.al false,(ab 2),.bc [] [] (bD [0,5,6])]) (k1.aI (.e1 (c5 ed)))))
  (fun ed =>
  .ret (bK (t4.append [.al true,(ab 1),.bc [] [] (bD [2])]) (k1.aI (.e1 (c0 ed)))))))))))
  (fun h1 =>
  .ret (bK [(ab 1),.al false,.bc [] [] (bD [0])] (.e1 h1)))
theorem yQ {az:ByteArray}{kU jA:Int}{r} (h:u7 az kU jA=some r):eE bo 33 0 66 [1,0,1,0,0] (yE az kU) (BQ az kU) jA r:=eF (fun _=>GG) h
def sR (az:ByteArray):Option Bool :=
 u7 az (az.size:Int) 0 >>= fun r1 =>
 match r1 with
 | .inl dM=>(if (!(az.toList == (⟨#[]⟩:ByteArray).toList))=true then
  some (decide ((az.size:Int)≤(8:Int)))
  else
   some false)
 | .inr dM=>(some false)
theorem H3 {az:ByteArray}:bL (sR az) (fun r=>Con bo 66 [.s az] [] (.b r) []):=by
 unfold sR
 exact .aT fun r1 I =>
  (let t1:List cd:=[(ab 1),(ab 3),.bc [] [] (bD [0,5,6])];
  (by
  rcases r1 with dM|dM
  ·exact ((let t2:List cd:=t1.append [.sub (.exit 0) [(0,.s az)] []];
  .ite (fun aB =>
  .ret (bJ (t2.append [.aS (bM 6 (.al true) 1)]) (.gk (yQ I) aB aB aB aB)))
  (fun aB =>
  .ret (bJ (t2.append [.aS (aO 3 (dB 3 (aZ (.al false) (aO 1 []))))]) (.gk (yQ I) aB aB aB aB)))))
  ·exact (.ret (bJ (t1.append [.sub (.ret) [(2,.b false)] []]) (.e1 (yQ I))))))
def qO (bw:Int):Option Bool :=
 if (decide ((-50:Int)≤bw))=true then
  some (decide (bw≤(50:Int)))
 else
  some false
theorem B3 {bw:Int}:bL (qO bw) (fun r=>Con bo 67 [.n .i64 bw] [] (.b r) []):=by
 unfold qO
 exact .ite (fun h1 =>
  .ret (bJ [(ab 1),.aS (bM 5 (.al true) 1)] (.bB h1 h1 h1)))
  (fun h1 =>
  .ret (bJ [(ab 1),.aS (aO 3 (dB 2 (aZ (.al false) (aO 1 []))))] (.bB h1 h1 h1)))
def sK (fZ:aQ):Option Bool :=
 sR fZ.eP >>= fun r1 =>
 if r1=true then
  qO fZ.dQ >>= fun br =>
  if br=true then
   qO fZ.dO >>= fun aD =>
   some aD
  else
   some false
 else
  some false
theorem HR {fZ:aQ}:bL (sK fZ) (fun r=>Con bo 54 [.agg (aH fZ)] [] (.b r) []):=by
 unfold sK
 exact .aT fun r1 I =>
  (have bC:=((.au (H3 r1 I) (bj.b r1)):cA _);
  .ite (fun aj =>
  .aT fun br bk =>
  (have aW:=bC.aI (.e9 aj aj aj (B3 br bk) (bj.b br) aj);
  .ite (fun bq =>
  .aT fun aD cC =>
  .ret (bJ [(ab 2),.aS (aO 2 (aZ (cF 1 (.b r1) true) (aO 3 (aZ (cF 1 (.b br) true) (aZ (.al true) (aO 3 (aZ (cF 1 (.b aD) true) (aZ (.al true) (aO 1 [])))))))))] (aW.aI (.e9 bq bq bq (B3 aD cC) (bj.b aD) bq))))
  (fun bq =>
  .ret (bJ [(ab 2),.aS (aO 2 (aZ (cF 1 (.b r1) true) (aO 3 (aZ (cF 1 (.b br) true) (aZ (.al true) (aO 1 (dB 3 (aZ (.al false) (aO 1 [])))))))))] (aW.aI (.dk bq bq bq bq))))))
  (fun aj =>
  .ret (bJ [(ab 2),.aS (aO 2 (aZ (cF 1 (.b r1) true) (aO 1 (dB 3 (aZ (.al false) (aO 1 (dB 3 (aO 2 []))))))))] (bC.aI (.hS aj aj aj aj kx kx kx)))))
def yR (fZ:aQ)(d6:ByteArray):Option Bool :=
 some (fZ.eP.toList == d6.toList)
theorem GZ {fZ:aQ}{d6:ByteArray}:bL (yR fZ d6) (fun r=>Con bo 69 [.agg (aH fZ),.da 1 [[.s d6]] 0 0] [] (.b r) []):=by
 unfold yR
 exact .ret (bJ [(ab 2),(ab 5)] .nil)
def w6 (az:List aQ)(gJ:ByteArray)(eU:Int):Int→S:=fun cR=>dP [(0,.isl 4 (az.map aH)),(1,.fn 69 [.da 1 [[.s gJ]] 0 0]),(7,.n .i64 eU),(8,.n .i64 cR)] []
def Bj (az:List aQ)(gJ:ByteArray)(eU:Int):((Unit)⊕(Int))→dT
 | .inl a=>⟨some 0,[],[]⟩
 | .inr a=>⟨none,[(4,.n .i64 a)],[]⟩
def w7 (az:List aQ)(gJ:ByteArray)(eU cR:Int):Option ((Int)⊕((Unit)⊕(Int))) :=
 if (decide (cR<eU))=true then
  if 0≤cR∧cR<az.length then
  az[cR.toNat]? >>= fun aP =>
  yR aP gJ >>= fun aJ =>
  if aJ=true then
   some (.inr (.inr cR))
  else
   some (.inl (ak (cR+(1:Int))))
  else none
 else
  some (.inr (.inl ()))
def uL (az:List aQ)(gJ:ByteArray)(eU cR:Int):Option ((Unit)⊕(Int)):=iter (fun w:Int=>w7 az gJ eU w) cR
theorem Fu {az:List aQ}{gJ:ByteArray}{eU cR:Int}:bL (w7 az gJ eU cR) (eD bo 19 0 68 [1,0,1,0,0] (w6 az gJ eU cR) (w6 az gJ eU) (Bj az gJ eU)):=by
 unfold w7
 exact .ite (fun h1 =>
  .bx fun I =>
  .aT fun aP aB =>
  .aT fun aJ bq =>
  (let t1:List cd:=[(ab 1),.al true,(ab 2),.aS (aO 4 (aZ (.cO (aH aP)) (aZ (cF 2 (.b aJ) true) [])))];
  have aW:=((.e9 h1 I.1 (dJ aH I.2) (dm aH aB) (GZ aJ bq) (bj.b aJ)):cA _);
  .ite (fun bA =>
  .ret (bK (t1.append [.al true,(ab 2),.bc [] [] (bD [4])]) (aW.aI (.e1 bA))))
  (fun bA =>
  .ret (bK (t1.append [.al false,(ab 2),.bc [] [] [(0,ii),(1,.comp [.d6 .id]),(7,ii),(8,ii)]]) (aW.aI (.e1 bA))))))
  (fun h1 =>
  .ret (bK [(ab 1),.al false,.bc [] [] []] (.e1 h1)))
theorem Bl {az:List aQ}{gJ:ByteArray}{eU cR:Int}{r} (h:uL az gJ eU cR=some r):eE bo 19 0 68 [1,0,1,0,0] (w6 az gJ eU) (Bj az gJ eU) cR r:=eF (fun _=>Fu) h
def uP (az:List aQ)(kG:ByteArray):Option Int :=
 uL az kG (len_ aH az) 0 >>= fun r1 =>
 match r1 with
 | .inl dM=>(some (-1))
 | .inr dM=>(some dM)
theorem FN {az:List aQ}{kG:ByteArray}:bL (uP az kG) (fun r=>Con bo 68 [.isl 4 (az.map aH),.fn 69 [.da 1 [[.s kG]] 0 0]] [] (.n .i64 r) []):=by
 unfold uP
 exact .aT fun r1 I =>
  (let t1:List cd:=[(ab 1),(ab 3),.bc [] [] [(0,ii),(1,.comp [.d6 .id]),(7,ii),(8,ii)]];
  (by
  rcases r1 with dM|dM
  ·exact (.ret (bJ (t1.append [.sub (.exit 0) [] [],(ab 1)]) (.e1 (Bl I))))
  ·exact (.ret (bJ (t1.append [.sub (.ret) [(4,.n .i64 dM)] []]) (.e1 (Bl I))))))
def sq (az:bE)(hq:ByteArray):Option Int :=
 uP az.a3 hq >>= fun r1 =>
 some r1
theorem Hk {az:bE}{hq:ByteArray}:bL (sq az hq) (fun r=>Con bo 55 [.agg (fi az),.s hq] [] (.n .i64 r) []):=by
 unfold sq
 exact .aT fun r1 I =>
  .ret (bJ [(ab 3),.aS (bM 3 (.call {ac:=[ii,.comp [.ptr [.id]]],r:= .n .i64 r1,eb:=true,eg:=[1]}) 1)] (.bB (vE (Dx hq):hL [[.s hq]]) (FN r1 I) (bj.n .i64 r1)))
def sa (az:bE)(i3:a2):Option Bool :=
 if (decide (i3.c9<(0:Int)))=true then
  some false
 else
  if (decide ((len_ aH az.a3)≤i3.c9))=true then
   some false
  else
   if (decide (i3.c7<(0:Int)))=true then
    some false
   else
    if (decide ((len_ aH az.a3)≤i3.c7))=true then
     some false
    else
     if (decide (i3.el<(1:Int)))=true then
      some false
     else
      if (decide ((3:Int)<i3.el))=true then
       some false
      else
       if 0≤i3.c9∧i3.c9<az.a3.length then
       az.a3[i3.c9.toNat]? >>= fun fh =>
       if 0≤i3.c7∧i3.c7<az.a3.length then
       az.a3[i3.c7.toNat]? >>= fun gC =>
       if (fh.dQ != gC.dQ)=true then
        if fh.ev=true then
         some (!gC.ev)
        else
         some true
       else
        if (fh.dO != gC.dO)=true then
         if fh.ev=true then
          some (!gC.ev)
         else
          some true
        else
         some false
       else none
       else none
theorem Gf {az:bE}{i3:a2}:bL (sa az i3) (fun r=>Con bo 58 [.da 2 [(fi az)] 0 0,.agg (aX i3)] [] (.b r) []):=by
 unfold sa
 exact .ite (fun h1 =>
  .ret (bJ [(ab 2),(ab 6),.aS (aO 4 (dB 4 (aZ (.al true) (aO 1 (dB 3 (aO 2 (dB 4 (aO 2 (dB 3 (aO 2 (dB 3 (aO 1 [])))))))))))),.al true,(ab 1)] (.b0 h1 h1 h1 h1 h1 cK cK cK (.b0 cK cK cK cK cK cK cK cK (.bB cK cK cK)))))
  (fun h1 =>
  .ite (fun I =>
  .ret (bJ [(ab 2),(ab 6),.aS (aO 8 (aZ (.al false) (aO 1 (dB 3 (aZ (.al true) (aO 1 (dB 4 (aO 2 (dB 3 (aO 2 (dB 3 (aO 1 [])))))))))))),.al true,(ab 1)] (.b0 h1 h1 h1 h1 h1 I I I (.b0 I cK cK cK cK cK cK cK (.dk cK cK cK cK)))))
  (fun I =>
  (have bC:=((.b0 h1 h1 h1 h1 h1 I I I (.e1 I)):cA _);
  .ite (fun aj =>
  .ret (bJ [(ab 2),(ab 6),.aS (aO 8 (aZ (.al false) (aO 4 (aZ (.al false) (aO 1 (dB 4 (aZ (.al true) (aO 1 (dB 3 (aO 2 (dB 3 (aO 1 [])))))))))))),.al true,(ab 1)] (bC.aI (.b0 aj aj aj aj aj cK cK cK (.dk cK cK cK cK)))))
  (fun aj =>
  .ite (fun aB =>
  .ret (bJ [(ab 2),(ab 6),.aS (aO 8 (aZ (.al false) (aO 4 (aZ (.al false) (aO 5 (aZ (.al false) (aO 1 (dB 3 (aZ (.al true) (aO 1 (dB 3 (aO 1 [])))))))))))),.al true,(ab 1)] (bC.aI (.b0 aj aj aj aj aj aB aB aB (.gk aB cK cK cK cK)))))
  (fun aB =>
  (have aW:=bC.aI (.b0 aj aj aj aj aj aB aB aB (.e1 aB));
  .ite (fun bk =>
  .ret (bJ [(ab 2),(ab 6),.aS (aO 8 (aZ (.al false) (aO 4 (aZ (.al false) (aO 5 (aZ (.al false) (aO 4 (aZ (.al false) (aO 1 (dB 3 (aZ (.al true) []))))))))))),.al true,(ab 1)] (aW.aI (.gk bk bk bk bk cK))))
  (fun bk =>
  (let t3:List cd:=[(ab 2),(ab 6),.aS (aO 8 (aZ (.al false) (aO 4 (aZ (.al false) (aO 5 (aZ (.al false) (aO 4 (aZ (.al false) (aO 4 (aZ (.al false) []))))))))))];
  .ite (fun bq =>
  .ret (bJ (t3.append [.al true,(ab 1)]) (aW.aI (.gk bk bk bk bk bq))))
  (fun bq =>
  .bx fun bA =>
  .aT fun fh ed =>
  .bx fun df =>
  .aT fun gC la =>
  (let t4:List cd:=t3.append [.al false,.aS (aO 7 (aZ (.cO (aH fh)) (bM 7 (.cO (aH gC)) 4)))];
  have k1:=aW.aI (.b0 bk bk bk bk bq bA.1 (dJ aH bA.2) (dm aH ed) (.bB df.1 (dJ aH df.2) (dm aH la)));
  .ite (fun gi =>
  (have ld:=k1.aI (.b0 gi gi gi gi gi gi cK cK (.e1 cK));
  .ite (fun gB =>
  .ret (bJ (t4.append [.aS (aO 6 (dB 5 (aZ (.al true) (bM 6 (.al true) 3))))]) (ld.aI (.gk gB gB cK gB cK))))
  (fun gB =>
  .ret (bJ (t4.append [.aS (aO 6 (dB 5 (aZ (.al true) (aO 4 (dB 2 (aZ (.al false) (aO 3 [])))))))]) (ld.aI (.gk gB gB cK gB cK))))))
  (fun gi =>
  .ite (fun gB =>
  (have ld:=k1.aI (.b0 gi gi gi gi gi gi gB gB (.e1 gB));
  .ite (fun l8 =>
  .ret (bJ (t4.append [.aS (aO 11 (aZ (.al false) (aO 6 (aZ (.al true) (bM 1 (.al true) 1)))))]) (ld.aI (.e9 l8 l8 gB l8 gB gB))))
  (fun l8 =>
  .ret (bJ (t4.append [.aS (aO 11 (aZ (.al false) (aO 4 (dB 2 (aZ (.al false) (bM 1 (.al true) 1))))))]) (ld.aI (.e9 l8 l8 gB l8 gB gB))))))
  (fun gB =>
  .ret (bJ (t4.append [.aS (aO 11 (aZ (.al false) (aO 1 (dB 3 (aO 2 (dB 2 (aZ (.al false) (aO 1 []))))))))]) (k1.aI (.b0 gi gi gi gi gi gi gB gB (.dk gB gB gB gB))))))))))))))))
def qC (i3:a2)(d6:bE):Option Bool :=
 sa d6 i3 >>= fun r1 =>
 some (!r1)
theorem GU {i3:a2}{d6:bE}:bL (qC i3 d6) (fun r=>Con bo 57 [.agg (aX i3),.da 2 [(fi d6)] 0 0] [] (.b r) []):=by
 unfold qC
 exact .aT fun r1 I =>
  .ret (bJ [(ab 2),.aS (bM 1 (cF 2 (.b r1) true) 2)] (.au (Gf r1 I) (bj.b r1)))
def w5 (az:List a2)(gJ:List aQ)(kH:List a2)(eU:Int):Int→S:=fun cR=>dP [(0,.isl 3 (az.map aX)),(1,.fn 57 [.da 2 [[.isl 4 (gJ.map aH),.isl 3 (kH.map aX)]] 0 0]),(7,.n .i64 eU),(8,.n .i64 cR)] []
def Bi (az:List a2)(gJ:List aQ)(kH:List a2)(eU:Int):((Unit)⊕(Int))→dT
 | .inl a=>⟨some 0,[],[]⟩
 | .inr a=>⟨none,[(4,.n .i64 a)],[]⟩
def lN (az:List a2)(gJ:List aQ)(kH:List a2)(eU cR:Int):Option ((Int)⊕((Unit)⊕(Int))) :=
 if (decide (cR<eU))=true then
  if 0≤cR∧cR<az.length then
  az[cR.toNat]? >>= fun aP =>
  qC aP (⟨gJ,kH⟩:bE) >>= fun aJ =>
  if aJ=true then
   some (.inr (.inr cR))
  else
   some (.inl (ak (cR+(1:Int))))
  else none
 else
  some (.inr (.inl ()))
def r2 (az:List a2)(gJ:List aQ)(kH:List a2)(eU cR:Int):Option ((Unit)⊕(Int)):=iter (fun w:Int=>lN az gJ kH eU w) cR
theorem Ft {az:List a2}{gJ:List aQ}{kH:List a2}{eU cR:Int}:bL (lN az gJ kH eU cR) (eD bo 19 0 70 [1,0,1,0,0] (w5 az gJ kH eU cR) (w5 az gJ kH eU) (Bi az gJ kH eU)):=by
 unfold lN
 exact .ite (fun h1 =>
  .bx fun I =>
  .aT fun aP aB =>
  .aT fun aJ bq =>
  (let t1:List cd:=[(ab 1),.al true,(ab 2),.aS (aO 4 (aZ (.cO (aX aP)) (aZ (cF 2 (.b aJ) true) [])))];
  have aW:=((.e9 h1 I.1 (dJ aX I.2) (dm aX aB) (GU aJ bq) (bj.b aJ)):cA _);
  .ite (fun bA =>
  .ret (bK (t1.append [.al true,(ab 2),.bc [] [] (bD [4])]) (aW.aI (.e1 bA))))
  (fun bA =>
  .ret (bK (t1.append [.al false,(ab 2),.bc [] [] [(0,ii),(1,.comp [.d6 .id]),(7,ii),(8,ii)]]) (aW.aI (.e1 bA))))))
  (fun h1 =>
  .ret (bK [(ab 1),.al false,.bc [] [] []] (.e1 h1)))
theorem Bk {az:List a2}{gJ:List aQ}{kH:List a2}{eU cR:Int}{r} (h:r2 az gJ kH eU cR=some r):eE bo 19 0 70 [1,0,1,0,0] (w5 az gJ kH eU) (Bi az gJ kH eU) cR r:=eF (fun _=>Ft) h
def r5 (az:List a2)(kG:bE):Option Int :=
 r2 az kG.a3 kG.a7 (len_ aX az) 0 >>= fun r1 =>
 match r1 with
 | .inl dM=>(some (-1))
 | .inr dM=>(some dM)
theorem FK {az:List a2}{kG:bE}:bL (r5 az kG) (fun r=>Con bo 70 [.isl 3 (az.map aX),.fn 57 [.da 2 [(fi kG)] 0 0]] [] (.n .i64 r) []):=by
 unfold r5
 exact .aT fun r1 I =>
  (let t1:List cd:=[(ab 1),(ab 3),.bc [] [] [(0,ii),(1,.comp [.d6 .id]),(7,ii),(8,ii)]];
  (by
  rcases r1 with dM|dM
  ·exact (.ret (bJ (t1.append [.sub (.exit 0) [] [],(ab 1)]) (.e1 (Bk I))))
  ·exact (.ret (bJ (t1.append [.sub (.ret) [(4,.n .i64 dM)] []]) (.e1 (Bk I))))))
def r3 (az:List a2)(kG:bE):Option Bool :=
 r5 az kG >>= fun r1 =>
 some (decide ((0:Int)≤r1))
theorem FD {az:List a2}{kG:bE}:bL (r3 az kG) (fun r=>Con bo 56 [.isl 3 (az.map aX),.fn 57 [.da 2 [(fi kG)] 0 0]] [] (.b r) []):=by
 unfold r3
 exact .aT fun r1 I =>
  .ret (bJ [(ab 1),.aS (bM 2 (cF 2 (.n .i64 r1) true) 2)] (.au (FK r1 I) (bj.n .i64 r1)))
def xD (ei:List aQ)(kN:Int)(dt:List a2):Int→S:=fun ki=>dP [(1,.ref 0 0 0 0),(16,.isl 4 (ei.map aH)),(17,.n .i64 kN),(18,.n .i64 ki)] [[U.mk 2 [[.isl 4 (ei.map aH),.isl 3 (dt.map aX)]] .live]]
def xS (ei:List aQ)(kN:Int)(dt:List a2):((Unit)⊕(Unit))→dT
 | .inl a=>⟨some 0,[(1,.ref 0 0 0 0)],[[U.mk 2 [[.isl 4 (ei.map aH),.isl 3 (dt.map aX)]] .live]]⟩
 | .inr a=>⟨none,[(2,.b false)],[]⟩
def uS (ei:List aQ)(kN:Int)(dt:List a2)(ki:Int):Option ((Int)⊕((Unit)⊕(Unit))) :=
 if (decide (ki<kN))=true then
  if 0≤ki∧ki<ei.length then
  ei[ki.toNat]? >>= fun aP =>
  sK aP >>= fun aJ =>
  if aJ=true then
   sq (⟨ei,dt⟩:bE) aP.eP >>= fun eO =>
   if (eO != ki)=true then
    some (.inr (.inr ()))
   else
    some (.inl (ak (ki+(1:Int))))
  else
   some (.inr (.inr ()))
  else none
 else
  some (.inr (.inl ()))
def uW (ei:List aQ)(kN:Int)(dt:List a2)(ki:Int):Option ((Unit)⊕(Unit)):=iter (fun w:Int=>uS ei kN dt w) ki
theorem F3 {ei:List aQ}{kN:Int}{dt:List a2}{ki:Int}:bL (uS ei kN dt ki) (eD bo 40 0 41 [1,1,0,1,0,0] (xD ei kN dt ki) (xD ei kN dt) (xS ei kN dt)):=by
 unfold uS
 exact .ite (fun h1 =>
  .bx fun I =>
  .aT fun aP aB =>
  .aT fun aJ bq =>
  (let t1:List cd:=[(ab 1),.al true,.aS (bM 2 (.cO (aH aP)) 3)];
  have aW:=((.e9 h1 I.1 (dJ aH I.2) (dm aH aB) (HR aJ bq) (bj.b aJ)):cA _);
  .ite (fun bA =>
  .aT fun eO ed =>
  (let t3:List cd:=t1.append [.aS (aO 1 (aZ (cF 1 (.b aJ) true) (aO 5 (aZ (cF 2 (.n .i64 eO) true) (aO 2 (aZ (.al false) []))))))];
  have fl:=aW.aI (.b0 (c5 bA) (c5 bA) (c5 bA) (c5 bA) (Hk eO ed) (bj.n .i64 eO) (c5 bA) (c5 bA) (.e1 (c5 bA)));
  .ite (fun df =>
  .ret (bK (t3.append [.al true,(ab 1),.bc [] [] (bD [2])]) (fl.aI (.e1 df))))
  (fun df =>
  .ret (bK (t3.append [.al false,(ab 2),.bc [0] [.box [.id,.id]] (bD [1,16,17,18])]) (fl.aI (.e1 df))))))
  (fun bA =>
  .ret (bK (t1.append [.aS (aO 1 (aZ (cF 1 (.b aJ) true) (aO 2 (dB 6 (aZ (.al true) []))))),.al true,(ab 1),.bc [] [] (bD [2])]) (aW.aI (.hT (c0 bA) (c0 bA) (c0 bA) (c0 bA) (c0 bA) (c0 bA) (c0 bA) cK))))))
  (fun h1 =>
  .ret (bK [(ab 1),.al false,.bc [0] [.box [.id,.id]] (bD [1])] (.e1 h1)))
theorem Bx {ei:List aQ}{kN:Int}{dt:List a2}{ki:Int}{r} (h:uW ei kN dt ki=some r):eE bo 40 0 41 [1,1,0,1,0,0] (xD ei kN dt) (xS ei kN dt) ki r:=eF (fun _=>F3) h
def qG (az:bE):Option Bool :=
 if (decide ((6:Int)<(len_ aH az.a3)))=true then
  some false
 else
  if (decide ((8:Int)<(len_ aX az.a7)))=true then
   some false
  else
   uW az.a3 (len_ aH az.a3) az.a7 0 >>= fun cv =>
   match cv with
   | .inl lc=>(r3 az.a7 az >>= fun dE =>
    some (!dE))
   | .inr lc=>(some false)
theorem G9 {az:bE}:bL (qG az) (fun r=>Con bo 41 [.agg (fi az)] [] (.b r) []):=by
 unfold qG
 exact .ite (fun h1 =>
  .ret (bJ [(ab 2),.aS (aO 5 (dB 4 (aZ (.al true) []))),.al true,(ab 1)] (.e9 h1 h1 h1 h1 h1 cK)))
  (fun h1 =>
  (let t1:List cd:=[(ab 2),.aS (aO 9 (aZ (.al false) []))];
  .ite (fun I =>
  .ret (bJ (t1.append [.al true,(ab 1)]) (.e9 h1 h1 h1 h1 h1 I)))
  (fun I =>
  .aT fun cv aB =>
  (let t2:List cd:=t1.append [.al false,(ab 4),.bc [0] [.box [.id,.id]] (bD [1,16,17,18])];
  (by
  rcases cv with lc|lc
  ·exact (.aT fun dE bA =>
  .ret (bJ (t2.append [(xS az.a3 (len_ aH az.a3) az.a7 (.inl lc)).gF,.aS (bM 3 (.call {ac:=[ii,.comp [.ptr [.id,.id]]],r:= .b dE,eb:=true,eg:=[0]}) 2)]) (.b0 h1 h1 h1 h1 h1 I (Bx aB) (vE (u1 az):hL [(fi az)]) (.au (FD dE bA) (bj.b dE)))))
  ·exact (.ret (bJ (t2.append [.sub (.ret) [(2,.b false)] []]) (.hS h1 h1 h1 h1 h1 I (Bx aB)))))))))
def sL (bw:Int):Option Bool :=
 if (decide ((-100:Int)≤bw))=true then
  some (decide (bw≤(100:Int)))
 else
  some false
theorem HS {bw:Int}:bL (sL bw) (fun r=>Con bo 61 [.n .i64 bw] [] (.b r) []):=by
 unfold sL
 exact .ite (fun h1 =>
  .ret (bJ [(ab 1),.aS (bM 5 (.al true) 1)] (.bB h1 h1 h1)))
  (fun h1 =>
  .ret (bJ [(ab 1),.aS (aO 3 (dB 2 (aZ (.al false) (aO 1 []))))] (.bB h1 h1 h1)))
def u6 (bw:Int):Option Bool :=
 sL bw >>= fun r1 =>
 some (!r1)
theorem Hl {bw:Int}:bL (u6 bw) (fun r=>Con bo 60 [.n .i64 bw] [] (.b r) []):=by
 unfold u6
 exact .aT fun r1 I =>
  .ret (bJ [(ab 1),.aS (bM 1 (cF 1 (.b r1) true) 2)] (.au (HS r1 I) (bj.b r1)))
def xg (az:List Int)(eU:Int):Int→S:=fun cR=>dP [(0,.isl 1 (az.map eI)),(1,.fn 60 []),(7,.n .i64 eU),(8,.n .i64 cR)] []
def Bm (az:List Int)(eU:Int):((Unit)⊕(Int))→dT
 | .inl a=>⟨some 0,[],[]⟩
 | .inr a=>⟨none,[(4,.n .i64 a)],[]⟩
def p5 (az:List Int)(eU cR:Int):Option ((Int)⊕((Unit)⊕(Int))) :=
 if (decide (cR<eU))=true then
  if 0≤cR∧cR<az.length then
  az[cR.toNat]? >>= fun aP =>
  u6 aP >>= fun aJ =>
  if aJ=true then
   some (.inr (.inr cR))
  else
   some (.inl (ak (cR+(1:Int))))
  else none
 else
  some (.inr (.inl ()))
def xq (az:List Int)(eU cR:Int):Option ((Unit)⊕(Int)):=iter (fun w:Int=>p5 az eU w) cR
theorem FA {az:List Int}{eU cR:Int}:bL (p5 az eU cR) (eD bo 19 0 71 [1,0,1,0,0] (xg az eU cR) (xg az eU) (Bm az eU)):=by
 unfold p5
 exact .ite (fun h1 =>
  .bx fun I =>
  .aT fun aP aB =>
  .aT fun aJ bq =>
  (let t1:List cd:=[(ab 1),.al true,(ab 2),.aS (aO 4 (aZ (.cO (eI aP)) (aZ (cF 1 (.b aJ) true) [])))];
  have aW:=((.e9 h1 I.1 (dJ eI I.2) (dm eI aB) (Hl aJ bq) (bj.b aJ)):cA _);
  .ite (fun bA =>
  .ret (bK (t1.append [.al true,(ab 2),.bc [] [] (bD [4])]) (aW.aI (.e1 bA))))
  (fun bA =>
  .ret (bK (t1.append [.al false,(ab 2),.bc [] [] (bD [0,1,7,8])]) (aW.aI (.e1 bA))))))
  (fun h1 =>
  .ret (bK [(ab 1),.al false,.bc [] [] []] (.e1 h1)))
theorem Bn {az:List Int}{eU cR:Int}{r} (h:xq az eU cR=some r):eE bo 19 0 71 [1,0,1,0,0] (xg az eU) (Bm az eU) cR r:=eF (fun _=>FA) h
def uR (az:List Int):Option Int :=
 xq az (len_ eI az) 0 >>= fun r1 =>
 match r1 with
 | .inl dM=>(some (-1))
 | .inr dM=>(some dM)
theorem FU {az:List Int}:bL (uR az) (fun r=>Con bo 71 [.isl 1 (az.map eI),.fn 60 []] [] (.n .i64 r) []):=by
 unfold uR
 exact .aT fun r1 I =>
  (let t1:List cd:=[(ab 1),(ab 3),.bc [] [] (bD [0,1,7,8])];
  (by
  rcases r1 with dM|dM
  ·exact (.ret (bJ (t1.append [.sub (.exit 0) [] [],(ab 1)]) (.e1 (Bn I))))
  ·exact (.ret (bJ (t1.append [.sub (.ret) [(4,.n .i64 dM)] []]) (.e1 (Bn I))))))
def uO (az:List Int):Option Bool :=
 uR az >>= fun r1 =>
 some (decide ((0:Int)≤r1))
theorem FL {az:List Int}:bL (uO az) (fun r=>Con bo 59 [.isl 1 (az.map eI),.fn 60 []] [] (.b r) []):=by
 unfold uO
 exact .aT fun r1 I =>
  .ret (bJ [(ab 1),.aS (bM 2 (cF 2 (.n .i64 r1) true) 2)] (.au (FU r1 I) (bj.n .i64 r1)))
def sB (az:bE)(b8:List Int):Option Bool :=
 if ((len_ eI b8) == (ak ((2:Int)*(len_ aH az.a3))))=true then
  uO b8 >>= fun bF =>
  some (!bF)
 else
  some false
theorem HA {az:bE}{b8:List Int}:bL (sB az b8) (fun r=>Con bo 42 [.da 2 [(fi az)] 0 0,.isl 1 (b8.map eI)] [] (.b r) []):=by
 unfold sB
 exact .ite (fun h1 =>
  .aT fun bF aj =>
  .ret (bJ [(ab 1),.aS (aO 11 (aZ (cF 2 (.b bF) true) (bM 1 (.al true) 1)))] (.e9 h1 h1 (FL bF aj) (bj.b bF) h1 h1)))
  (fun h1 =>
  .ret (bJ [(ab 1),.aS (aO 10 (dB 3 (aZ (.al false) (aO 1 []))))] (.dk h1 h1 h1 h1)))
def yr (cc:List aQ)(b2:List a2)(gy:List (List Int))(en:Int):Int→S:=fun gI=>dP [(0,.da 2 [[.isl 4 (cc.map aH),.isl 3 (b2.map aX)]] 0 0),(22,.isl 1 (gy.map (eL 1 eI))),(23,.n .i64 en),(24,.n .i64 gI)] []
def BG (cc:List aQ)(b2:List a2)(gy:List (List Int))(en:Int):((Unit)⊕(Unit))→dT
 | .inl a=>⟨some 0,[],[]⟩
 | .inr a=>⟨none,[(4,.b false)],[]⟩
def qw (cc:List aQ)(b2:List a2)(gy:List (List Int))(en gI:Int):Option ((Int)⊕((Unit)⊕(Unit))) :=
 if (decide (gI<en))=true then
  if 0≤gI∧gI<gy.length then
  gy[gI.toNat]? >>= fun aP =>
  sB (⟨cc,b2⟩:bE) aP >>= fun aJ =>
  if aJ=true then
   some (.inl (ak (gI+(1:Int))))
  else
   some (.inr (.inr ()))
  else none
 else
  some (.inr (.inl ()))
def y5 (cc:List aQ)(b2:List a2)(gy:List (List Int))(en gI:Int):Option ((Unit)⊕(Unit)):=iter (fun w:Int=>qw cc b2 gy en w) gI
theorem Gz {cc:List aQ}{b2:List a2}{gy:List (List Int)}{en gI:Int}:bL (qw cc b2 gy en gI) (eD bo 33 0 25 [1,1,0,1,0,0] (yr cc b2 gy en gI) (yr cc b2 gy en) (BG cc b2 gy en)):=by
 unfold qw
 exact .ite (fun h1 =>
  .bx fun I =>
  .aT fun aP aB =>
  .aT fun aJ bq =>
  (let t1:List cd:=[(ab 1),.al true,.aS (bM 1 (.cO ((eL 1 eI) aP)) 1),.aS (bM 2 (cF 2 (.b aJ) true) 1)];
  have aW:=((.e9 h1 I.1 (dJ (eL 1 eI) I.2) (dm (eL 1 eI) aB) (HA aJ bq) (bj.b aJ)):cA _);
  .ite (fun bA =>
  .ret (bK (t1.append [.al false,(ab 2),.bc [] [] (bD [0,22,23,24])]) (aW.aI (.e1 (c5 bA)))))
  (fun bA =>
  .ret (bK (t1.append [.al true,(ab 1),.bc [] [] (bD [4])]) (aW.aI (.e1 (c0 bA)))))))
  (fun h1 =>
  .ret (bK [(ab 1),.al false,.bc [] [] []] (.e1 h1)))
theorem BR {cc:List aQ}{b2:List a2}{gy:List (List Int)}{en gI:Int}{r} (h:y5 cc b2 gy en gI=some r):eE bo 33 0 25 [1,1,0,1,0,0] (yr cc b2 gy en) (BG cc b2 gy en) gI r:=eF (fun _=>Gz) h
def qP (az:bE)(ch:List (List Int)):Option Bool :=
 if (decide ((len_ (eL 1 eI) ch)<(1:Int)))=true then
  some false
 else
  if (decide ((6:Int)<(len_ (eL 1 eI) ch)))=true then
   some false
  else
   qG az >>= fun cv =>
   if cv=true then
    y5 az.a3 az.a7 ch (len_ (eL 1 eI) ch) 0 >>= fun dE =>
    match dE with
    | .inl mJ=>(some true)
    | .inr mJ=>(some false)
   else
    some false
theorem HT {az:bE}{ch:List (List Int)}:bL (qP az ch) (fun r=>Con bo 25 [.da 2 [(fi az)] 0 0,.isl 1 (ch.map (eL 1 eI))] [] (.b r) []):=by
 unfold qP
 exact .ite (fun h1 =>
  .ret (bJ [(ab 1),.aS (aO 4 (dB 3 (aZ (.al true) (aO 1 (dB 5 (aO 1 [])))))),.al true,(ab 1)] (.b0 h1 h1 h1 h1 cK cK cK cK (.au cK cK))))
  (fun h1 =>
  .ite (fun I =>
  .ret (bJ [(ab 1),.aS (aO 7 (aZ (.al false) (aO 1 (dB 5 (aZ (.al true) []))))),.al true,(ab 1)] (.b0 h1 h1 h1 h1 I I I I (.bB I I cK))))
  (fun I =>
  .aT fun cv aB =>
  (let t1:List cd:=[(ab 1),.aS (aO 7 (aZ (.al false) (aO 4 (aZ (cF 1 (.b cv) true) (aO 1 (aZ (.al false) []))))))];
  have aW:=((.b0 h1 h1 h1 h1 I I I I (.dk (G9 cv aB) (bj.b cv) I I)):cA _);
  .ite (fun bk =>
  .aT fun dE bA =>
  (let t3:List cd:=t1.append [.al false,(ab 3),.bc [] [] (bD [0,22,23,24])];
  (by
  rcases dE with mJ|mJ
  ·exact (.ret (bJ (t3.append [.sub (.exit 0) [] [],(ab 1)]) (aW.aI (.au (c5 bk) (BR bA)))))
  ·exact (.ret (bJ (t3.append [.sub (.ret) [(4,.b false)] []]) (aW.aI (.au (c5 bk) (BR bA))))))))
  (fun bk =>
  .ret (bJ (t1.append [.al true,(ab 1)]) (aW.aI (.e1 (c0 bk))))))))
def xr (dG:List a2)(cH:Int):(Int×(List cG))→S:=fun (cf,ay)=>dP [(3,.a6 0 0 0 ay.length),(9,.isl 3 (dG.map aX)),(10,.n .i64 cH),(11,.n .i64 cf)] [(bf 2 d5 ay)]
def Bq (dG:List a2)(cH:Int):(List cG)→dT
 | a=>⟨some 0,[(3,.a6 0 0 0 a.length)],[(bf 2 d5 a)]⟩
def p8 (dG:List a2)(cH cf:Int)(ay:List cG):Option ((Int×(List cG))⊕((List cG))) :=
 if (decide (cf<cH))=true then
  if 0≤cf∧cf<dG.length then
  dG[cf.toNat]? >>= fun aP =>
  if (aP.el != (2:Int))=true then
   if (ay++([(⟨cf,1⟩:cG)]:List cG)).length*16≤140737488355328 then
   if (aP.el != (1:Int))=true then
    if ((ay++([(⟨cf,1⟩:cG)]:List cG))++([(⟨cf,(-1)⟩:cG)]:List cG)).length*16≤140737488355328 then
    some (.inl (ak (cf+(1:Int)),(ay++([(⟨cf,1⟩:cG)]:List cG))++([(⟨cf,(-1)⟩:cG)]:List cG)))
    else none
   else
    some (.inl (ak (cf+(1:Int)),ay++([(⟨cf,1⟩:cG)]:List cG)))
   else none
  else
   if (aP.el != (1:Int))=true then
    if (ay++([(⟨cf,(-1)⟩:cG)]:List cG)).length*16≤140737488355328 then
    some (.inl (ak (cf+(1:Int)),ay++([(⟨cf,(-1)⟩:cG)]:List cG)))
    else none
   else
    some (.inl (ak (cf+(1:Int)),ay))
  else none
 else
  some (.inr ay)
def xx (dG:List a2)(cH cf:Int)(ay:List cG):Option ((List cG)):=iter (fun w:Int×(List cG)=>p8 dG cH w.1 w.2) (cf,ay)
theorem FM {dG:List a2}{cH cf:Int}{ay:List cG}:bL (p8 dG cH cf ay) (eD bo 34 0 43 [1,1,0,1,0,0] (xr dG cH (cf,ay)) (xr dG cH) (Bq dG cH)):=by
 unfold p8
 exact .ite (fun h1 =>
  .bx fun I =>
  .aT fun aP aB =>
  (let t1:List cd:=[(ab 1),.al true,.aS (bM 2 (.cO (aX aP)) 3),(ab 3)];
  have aW:=((.dk h1 I.1 (dJ aX I.2) (dm aX aB)):cA _);
  .ite (fun bk =>
  .bx fun bq =>
  (let t3:List cd:=t1.append [.al true,.aS (bM 4 (.aI ((ay++([(⟨cf,1⟩:cG)]:List cG)).length)) 1),(ab 3)];
  have fl:=aW.aI (.gk bk (iJ d5 (⟨cf,1⟩:cG)) (ia d5 ay) (iK d5 ay (⟨cf,1⟩:cG)) bq);
  .ite (fun bA =>
  .bx fun cC =>
  .ret (let q1:=(ay++([(⟨cf,1⟩:cG)]:List cG));let bu:=(q1++([(⟨cf,(-1)⟩:cG)]:List cG));let cr:=(hU d5 ay (⟨cf,1⟩:cG));bK (t3.append [.al true,.aS (bM 4 (.aI (bu.length)) 1),(ab 2),.bc [24] [.dd (bf 2 d5 bu)] (bD [3,9,10,11])]) (fl.aI (.hS bA (iJ d5 (⟨cf,(-1)⟩:cG)) (td cr (dD q1)) (iK d5 q1 (⟨cf,(-1)⟩:cG)) cC (d4 2 .live (mm cr (dD q1) (rW d5 (⟨cf,(-1)⟩:cG)))) (bs 2 .live oL bu)))))
  (fun bA =>
  .ret (let dr:=(ay++([(⟨cf,1⟩:cG)]:List cG));bK (t3.append [.al false,(ab 2),.bc [15] [.dd (bf 2 d5 dr)] (bD [3,9,10,11])]) (fl.aI (.bB bA (d4 2 .live (hU d5 ay (⟨cf,1⟩:cG))) (bs 2 .live oL dr)))))))
  (fun bk =>
  .ite (fun bq =>
  .bx fun bA =>
  .ret (let d7:=(ay++([(⟨cf,(-1)⟩:cG)]:List cG));bK (t1.append [.al false,(ab 3),.al true,.aS (bM 4 (.aI (d7.length)) 1),(ab 2),.bc [18] [.dd (bf 2 d5 d7)] (bD [3,9,10,11])]) (aW.aI (.hT bk bq (iJ d5 (⟨cf,(-1)⟩:cG)) (ia d5 ay) (iK d5 ay (⟨cf,(-1)⟩:cG)) bA (d4 2 .live (hU d5 ay (⟨cf,(-1)⟩:cG))) (bs 2 .live oL d7)))))
  (fun bq =>
  .ret (bK (t1.append [.al false,(ab 3),.al false,(ab 2),.bc [0] [.pure] (bD [3,9,10,11])]) (aW.aI (.bB bk bq (bs 2 .live oL ay))))))))
  (fun h1 =>
  .ret (bK [(ab 1),.al false,.bc [0] [.pure] (bD [3])] (.au h1 (bs 2 .live oL ay))))
theorem FX {dG:List a2}{cH cf:Int}{ay:List cG}{r} (h:xx dG cH cf ay=some r):eE bo 34 0 43 [1,1,0,1,0,0] (xr dG cH) (Bq dG cH) (cf,ay) r:=eF (fun _=>FM) h
def qk (az:bE):Option (List cG) :=
 xx az.a7 (len_ aX az.a7) 0 ([]:List cG) >>= fun r1 =>
 some r1
theorem Br {az:bE}:bL (qk az) (fun r=>Con bo 43 [.da 2 [(fi az)] 0 0] [] (.isl 2 (r.map d5)) []):=by
 unfold qk
 exact .aT fun r1 I =>
  .ret (bJ [(ab 1),(ab 1),(ab 6),.pn 3 2,.bc [8] [.dd (bf 2 d5 ([]:List cG))] [(3,hv (([]:List cG).length)),(9,ii),(10,ii),(11,ii)],.sub (.exit 0) [(3,.a6 0 0 0 r1.length)] [(bf 2 d5 r1)],(ab 2)] (.hS (d4 2 .live (rV d5)) (bs 2 .live oL ([]:List cG)) (kB cG) (FX I) (fx d5 r1) (eN d5 r1) (dF oL r1)) (.bS (.d6 (.ek (r1.map d5)))))
def xl (dG:List aQ)(cH:Int):(Int×(List Int))→S:=fun (cf,ay)=>dP [(3,.a6 0 0 0 ay.length),(9,.isl 4 (dG.map aH)),(10,.n .i64 cH),(11,.n .i64 cf)] [(bf 1 eI ay)]
def Bp (dG:List aQ)(cH:Int):(List Int)→dT
 | a=>⟨some 0,[(3,.a6 0 0 0 a.length)],[(bf 1 eI a)]⟩
def r4 (dG:List aQ)(cH cf:Int)(ay:List Int):Option ((Int×(List Int))⊕((List Int))) :=
 if (decide (cf<cH))=true then
  if 0≤cf∧cf<dG.length then
  dG[cf.toNat]? >>= fun aP =>
  if aP.ev=true then
   some (.inl (ak (cf+(1:Int)),ay))
  else
   if (ay++([cf]:List Int)).length*8≤140737488355328 then
   some (.inl (ak (cf+(1:Int)),ay++([cf]:List Int)))
   else none
  else none
 else
  some (.inr ay)
def xu (dG:List aQ)(cH cf:Int)(ay:List Int):Option ((List Int)):=iter (fun w:Int×(List Int)=>r4 dG cH w.1 w.2) (cf,ay)
theorem FE {dG:List aQ}{cH cf:Int}{ay:List Int}:bL (r4 dG cH cf ay) (eD bo 25 0 45 [1,1,0,1,0,0] (xl dG cH (cf,ay)) (xl dG cH) (Bp dG cH)):=by
 unfold r4
 exact .ite (fun h1 =>
  .bx fun I =>
  .aT fun aP aB =>
  (let t1:List cd:=[(ab 1),.al true,.aS (bM 2 (.cO (aH aP)) 3),(ab 3)];
  have aW:=((.dk h1 I.1 (dJ aH I.2) (dm aH aB)):cA _);
  .ite (fun bk =>
  .ret (bK (t1.append [.al false,(ab 2),.bc [0] [.pure] (bD [3,9,10,11])]) (aW.aI (.au (c5 bk) (bs 1 .live ba ay)))))
  (fun bk =>
  .bx fun bq =>
  .ret (let q1:=(ay++([cf]:List Int));bK (t1.append [.al true,.aS (bM 3 (.aI (q1.length)) 1),(ab 2),.bc [14] [.dd (bf 1 eI q1)] (bD [3,9,10,11])]) (aW.aI (.hS (c0 bk) (iJ eI cf) (ia eI ay) (iK eI ay cf) bq (d4 1 .live (hU eI ay cf)) (bs 1 .live ba q1)))))))
  (fun h1 =>
  .ret (bK [(ab 1),.al false,.bc [0] [.pure] (bD [3])] (.au h1 (bs 1 .live ba ay))))
theorem FR {dG:List aQ}{cH cf:Int}{ay:List Int}{r} (h:xu dG cH cf ay=some r):eE bo 25 0 45 [1,1,0,1,0,0] (xl dG cH) (Bp dG cH) (cf,ay) r:=eF (fun _=>FE) h
def ox (az:bE):Option (List Int) :=
 xu az.a3 (len_ aH az.a3) 0 ([]:List Int) >>= fun r1 =>
 some r1
theorem xv {az:bE}:bL (ox az) (fun r=>Con bo 45 [.da 2 [(fi az)] 0 0] [] (.isl 1 (r.map eI)) []):=by
 unfold ox
 exact .aT fun r1 I =>
  .ret (bJ [(ab 1),(ab 1),(ab 6),.pn 3 1,.bc [8] [.dd (bf 1 eI ([]:List Int))] [(3,hv (([]:List Int).length)),(9,ii),(10,ii),(11,ii)],.sub (.exit 0) [(3,.a6 0 0 0 r1.length)] [(bf 1 eI r1)],(ab 2)] (.hS (d4 1 .live (rV eI)) (bs 1 .live ba ([]:List Int)) (kB Int) (FR I) (fx eI r1) (eN eI r1) (dF ba r1)) (.bS (.d6 (.ek (r1.map eI)))))
def mN (az:bE)(a0:Int):Option (Int×Int) :=
 if 0≤a0∧a0<az.a7.length then
 az.a7[a0.toNat]? >>= fun ep =>
 if 0≤ep.c7∧ep.c7<az.a3.length then
 az.a3[ep.c7.toNat]? >>= fun cZ =>
 if 0≤ep.c9∧ep.c9<az.a3.length then
 az.a3[ep.c9.toNat]? >>= fun fh =>
 some (ak (cZ.dQ-fh.dQ),ak (cZ.dO-fh.dO))
 else none
 else none
 else none
theorem Gn {az:bE}{a0:Int}:bL (mN az a0) (fun r=>Con bo 72 [.da 2 [(fi az)] 0 0,.n .i64 a0] [] (.dx [.n .i64 r.1,.n .i64 r.2]) []):=by
 unfold mN
 exact .bx fun h1 =>
  .aT fun ep aj =>
  .bx fun aB =>
  .aT fun cZ bq =>
  .bx fun bA =>
  .aT fun fh ed =>
  .ret (bJ [(ab 2),.aS (bM 6 (.cO (aX ep)) 2),.aS (aO 8 (aZ (.cO (aH cZ)) (aO 8 (aZ (.cO (aH fh)) (aO 9 (aZ (.cO (aH cZ)) (bM 8 (.cO (aH fh)) 3)))))))] (.b0 h1.1 (dJ aX h1.2) (dm aX aj) aB.1 (dJ aH aB.2) (dm aH bq) bA.1 (dJ aH bA.2) (.hS (dm aH ed) aB.1 (dJ aH aB.2) (dm aH bq) bA.1 (dJ aH bA.2) (dm aH ed))))
def xj (cc:List aQ)(b2:List a2)(fZ:Int)(cD:List Int)(dv dz gr:Int)(ay:List (List Int)):(Int×(List Int)×(List Int))→S:=fun (ck,b3,bi)=>dP [(0,.da 2 [[.isl 4 (cc.map aH),.isl 3 (b2.map aX)]] 0 0),(3,.a6 0 0 0 ay.length),(5,.n .i64 fZ),(6,.a6 1 0 0 b3.length),(7,.a6 2 0 0 bi.length),(13,.isl 1 (cD.map eI)),(14,.n .i64 dv),(15,.n .i64 dz),(34,.isl 3 (b2.map aX)),(35,.n .i64 gr),(36,.n .i64 ck)] [(bf 1 (eL 1 eI) ay),(bf 1 eI b3),(bf 1 eI bi)]
def xm (cc:List aQ)(b2:List a2)(fZ:Int)(cD:List Int)(dv dz gr:Int)(ay:List (List Int)):((List Int)×(List Int))→dT
 | a=>⟨some 2,[(0,.da 2 [[.isl 4 (cc.map aH),.isl 3 (b2.map aX)]] 0 0),(3,.a6 0 0 0 ay.length),(6,.a6 1 0 0 a.1.length),(7,.a6 2 0 0 a.2.length),(13,.isl 1 (cD.map eI)),(14,.n .i64 dv),(15,.n .i64 dz)],[(bf 1 (eL 1 eI) ay),(bf 1 eI a.1),(bf 1 eI a.2)]⟩
def p6 (cc:List aQ)(b2:List a2)(fZ:Int)(cD:List Int)(dv dz gr:Int)(ay:List (List Int))(ck:Int)(b3 bi:List Int):Option ((Int×(List Int)×(List Int))⊕((List Int)×(List Int))) :=
 if (decide (ck<gr))=true then
  if 0≤ck∧ck<b2.length then
  b2[ck.toNat]? >>= fun aP =>
  mN (⟨cc,b2⟩:bE) ck >>= fun aJ =>
  if (fZ == aP.c9)=true then
   if 0≤ck∧ck<(b3.length:Nat) then
   if (0+ck.toNat)<b3.length then
   if 0≤ck∧ck<(bi.length:Nat) then
   if (0+ck.toNat)<bi.length then
   some (.inl (ak (ck+(1:Int)),b3.set (0+ck.toNat) aJ.1,bi.set (0+ck.toNat) aJ.2))
   else none
   else none
   else none
   else none
  else
   if (fZ == aP.c7)=true then
    if 0≤ck∧ck<(b3.length:Nat) then
    if (0+ck.toNat)<b3.length then
    if 0≤ck∧ck<(bi.length:Nat) then
    if (0+ck.toNat)<bi.length then
    some (.inl (ak (ck+(1:Int)),b3.set (0+ck.toNat) (ak (0-aJ.1)),bi.set (0+ck.toNat) (ak (0-aJ.2))))
    else none
    else none
    else none
    else none
   else
    some (.inl (ak (ck+(1:Int)),b3,bi))
  else none
 else
  some (.inr (b3,bi))
def uQ (cc:List aQ)(b2:List a2)(fZ:Int)(cD:List Int)(dv dz gr:Int)(ay:List (List Int))(ck:Int)(b3 bi:List Int):Option ((List Int)×(List Int)):=iter (fun w:Int×(List Int)×(List Int)=>p6 cc b2 fZ cD dv dz gr ay w.1 w.2.1 w.2.2) (ck,b3,bi)
theorem FB {cc:List aQ}{b2:List a2}{fZ:Int}{cD:List Int}{dv dz gr:Int}{ay:List (List Int)}{ck:Int}{b3 bi:List Int}:bL (p6 cc b2 fZ cD dv dz gr ay ck b3 bi) (eD bo 82 0 62 [1,1,0,1,0,0,1,1,0,0,1,1,0,1,0,0] (xj cc b2 fZ cD dv dz gr ay (ck,b3,bi)) (xj cc b2 fZ cD dv dz gr ay) (xm cc b2 fZ cD dv dz gr ay)):=by
 unfold p6
 exact .ite (fun h1 =>
  .bx fun I =>
  .aT fun aP aB =>
  .aT fun aJ bq =>
  (let t1:List cd:=[(ab 1),.al true,.aS (bM 2 (.cO (aX aP)) 3),.aS (bM 2 (cF 2 (.dx [.n .i64 aJ.1,.n .i64 aJ.2]) true) 5),(ab 1),(ab 4)];
  have aW:=((.e9 h1 I.1 (dJ aX I.2) (dm aX aB) (Gn aJ bq) (DP (eV (bj.n .i64 aJ.1) (eV (bj.n .i64 aJ.2) k4)))):cA _);
  .ite (fun bA =>
  .bx fun cC =>
  .bx fun ed =>
  .bx fun df =>
  .bx fun gv =>
  .ret (bK (t1.append [.al true,.aS (aO 7 (aZ .gE (aO 1 (aZ .gE [])))),(ab 2),.bc [0,1,2] [.pure,.dd (bf 1 eI (b3.set (0+ck.toNat) aJ.1)),.dd (bf 1 eI (bi.set (0+ck.toNat) aJ.2))] [(0,ii),(3,ii),(5,ii),(6,hv ((b3.set (0+ck.toNat) aJ.1).length)),(7,hv ((bi.set (0+ck.toNat) aJ.2).length)),(13,ii),(14,ii),(15,ii),(34,ii),(35,ii),(36,ii)]]) (aW.aI (.b0 bA cC.1 cC.2 (ky eI ed) (kb 1) df.1 df.2 (ky eI gv) (.hT (kb 1) (bs 1 .live (jU (sz:=1) ba) ay) (d4 1 .live (jy (d3 eI b3) (0+ck.toNat) aJ.1)) (bs 1 .live ba (b3.set (0+ck.toNat) aJ.1)) (d4 1 .live (jy (d3 eI bi) (0+ck.toNat) aJ.2)) (bs 1 .live ba (bi.set (0+ck.toNat) aJ.2)) (ic (dD b3) (0+ck.toNat) aJ.1) (ic (dD bi) (0+ck.toNat) aJ.2))))))
  (fun bA =>
  .ite (fun cC =>
  .bx fun ed =>
  .bx fun df =>
  .bx fun gv =>
  .bx fun la =>
  .ret (let q1:=ak (0-aJ.1);let bu:=ak (0-aJ.2);bK (t1.append [.al false,(ab 4),.al true,.aS (aO 9 (aZ .gE (aO 1 (aZ .gE [])))),(ab 2),.bc [0,1,2] [.pure,.dd (bf 1 eI (b3.set (0+ck.toNat) q1)),.dd (bf 1 eI (bi.set (0+ck.toNat) bu))] [(0,ii),(3,ii),(5,ii),(6,hv ((b3.set (0+ck.toNat) q1).length)),(7,hv ((bi.set (0+ck.toNat) bu).length)),(13,ii),(14,ii),(15,ii),(34,ii),(35,ii),(36,ii)]]) (aW.aI (.b0 bA cC ed.1 ed.2 (ky eI df) (kb 1) gv.1 gv.2 (.b0 (ky eI la) (kb 1) (bs 1 .live (jU (sz:=1) ba) ay) (d4 1 .live (jy (d3 eI b3) (0+ck.toNat) q1)) (bs 1 .live ba (b3.set (0+ck.toNat) q1)) (d4 1 .live (jy (d3 eI bi) (0+ck.toNat) bu)) (bs 1 .live ba (bi.set (0+ck.toNat) bu)) (ic (dD b3) (0+ck.toNat) q1) (.e1 (ic (dD bi) (0+ck.toNat) bu)))))))
  (fun cC =>
  .ret (bK (t1.append [.al false,(ab 4),.al false,(ab 2),.bc [0,1,2] [.pure,.pure,.pure] (bD [0,3,5,6,7,13,14,15,34,35,36])]) (aW.aI (.gk bA cC (bs 1 .live (jU (sz:=1) ba) ay) (bs 1 .live ba b3) (bs 1 .live ba bi))))))))
  (fun h1 =>
  .ret (bK [(ab 1),.al false,.bc [0,1,2] [.pure,.pure,.pure] (bD [0,3,6,7,13,14,15])] (.dk h1 (bs 1 .live (jU (sz:=1) ba) ay) (bs 1 .live ba b3) (bs 1 .live ba bi))))
theorem FO {cc:List aQ}{b2:List a2}{fZ:Int}{cD:List Int}{dv dz gr:Int}{ay:List (List Int)}{ck:Int}{b3 bi:List Int}{r} (h:uQ cc b2 fZ cD dv dz gr ay ck b3 bi=some r):eE bo 82 0 62 [1,1,0,1,0,0,1,1,0,0,1,1,0,1,0,0] (xj cc b2 fZ cD dv dz gr ay) (xm cc b2 fZ cD dv dz gr ay) (ck,b3,bi) r:=eF (fun _=>FB) h
def xk (cc:List aQ)(b2:List a2)(cD:List Int)(dv:Int):(Int×(List (List Int)))→S:=fun (dz,ay)=>dP [(0,.da 2 [[.isl 4 (cc.map aH),.isl 3 (b2.map aX)]] 0 0),(3,.a6 0 0 0 ay.length),(13,.isl 1 (cD.map eI)),(14,.n .i64 dv),(15,.n .i64 dz)] [(bf 1 (eL 1 eI) ay)]
def Bo (cc:List aQ)(b2:List a2)(cD:List Int)(dv:Int):(List (List Int))→dT
 | a=>⟨some 0,[(3,.a6 0 0 0 a.length)],[(bf 1 (eL 1 eI) a)]⟩
def p7 (cc:List aQ)(b2:List a2)(cD:List Int)(dv dz:Int)(ay:List (List Int)):Option ((Int×(List (List Int)))⊕((List (List Int)))) :=
 if (decide (dz<dv))=true then
  if 0≤dz∧dz<cD.length then
  cD[dz.toNat]? >>= fun aP =>
  if 0≤(len_ aX b2)∧(8:Int)*(len_ aX b2)≤281474976710656∧(len_ aX b2)<9223372036854775808 then
  uQ cc b2 aP cD dv dz (len_ aX b2) ay 0 (List.replicate (len_ aX b2).toNat 0:List Int) (List.replicate (len_ aX b2).toNat 0:List Int) >>= fun dE =>
  if (ay++([dE.1,dE.2]:List (List Int))).length*24≤140737488355328 then
  some (.inl (ak (dz+(1:Int)),ay++([dE.1,dE.2]:List (List Int))))
  else none
  else none
  else none
 else
  some (.inr ay)
def xt (cc:List aQ)(b2:List a2)(cD:List Int)(dv dz:Int)(ay:List (List Int)):Option ((List (List Int))):=iter (fun w:Int×(List (List Int))=>p7 cc b2 cD dv w.1 w.2) (dz,ay)
theorem FC {cc:List aQ}{b2:List a2}{cD:List Int}{dv dz:Int}{ay:List (List Int)}:bL (p7 cc b2 cD dv dz ay) (eD bo 82 0 62 [1,1,0,1,0,0] (xk cc b2 cD dv (dz,ay)) (xk cc b2 cD dv) (Bo cc b2 cD dv)):=by
 unfold p7
 exact .ite (fun h1 =>
  .bx fun I =>
  .aT fun aP aB =>
  .bx fun bk =>
  .aT fun dE bA =>
  .bx fun cC =>
  .ret (let bu:=(ay++([dE.1,dE.2]:List (List Int)));let cr:=len_ aX b2;let q1:=(List.replicate cr.toNat 0:List Int);let dr:=jU (sz:=1) ba;let d7:=d4 1 .live (ke eI cr.toNat 0);bK [(ab 1),.al true,.aS (bM 1 (.cO (eI aP)) 1),(ab 14),(ab 6),.bc [0,10,16] [.pure,.dd (bf 1 eI q1),.dd (bf 1 eI q1)] [(0,ii),(3,ii),(5,ii),(6,hv (q1.length)),(7,hv (q1.length)),(13,ii),(14,ii),(15,ii),(34,ii),(35,ii),(36,ii)],(xm cc b2 aP cD dv dz cr ay dE).gF,.bc [0] [.pure] [(0,ii),(3,ii),(6,.bS (.d6 (.ek (dE.1.map eI)))),(7,.bS (.d6 (.ek (dE.2.map eI)))),(13,ii),(14,ii),(15,ii)],.aS (bM 4 (.aI (bu.length)) 1),(ab 2),.bc [5] [.dd (bf 1 (eL 1 eI) bu)] (bD [0,3,13,14,15])] (.b0 h1 I.1 (dJ eI I.2) (dm eI aB) bk.1 (Int.le_refl cr) bk.2.1 bk.2.2 (.b0 bk.1 (Int.le_refl cr) bk.2.1 bk.2.2 (bs 1 .live dr ay) d7 (bs 1 .live ba q1) d7 (.b0 (bs 1 .live ba q1) (kE cr.toNat (0:Int)) (kE cr.toNat (0:Int)) (FO bA) (bs 1 .live dr ay) (fx eI dE.1) (eN eI dE.1) (dF ba dE.1) (.b0 (fx eI dE.2) (eN eI dE.2) (dF ba dE.2) (lP (show [[.isl 1 (dE.1.map eI)],[.isl 1 (dE.2.map eI)]]=(([dE.1,dE.2]:List (List Int))).map (eL 1 eI) from rfl) (show 2=([dE.1,dE.2]:List (List Int)).length from rfl)) (ia (eL 1 eI) ay) (o5 (dD ay) (mV (show [[.isl 1 (dE.1.map eI)],[.isl 1 (dE.2.map eI)]]=(([dE.1,dE.2]:List (List Int))).map (eL 1 eI) from rfl) (show 2=([dE.1,dE.2]:List (List Int)).length from rfl)):bu.length=ay.length+(([[.isl 1 (dE.1.map eI)],[.isl 1 (dE.2.map eI)]].drop 0).take 2).length) cC (d4 1 .live (mm (d3 (eL 1 eI) ay) (dD ay) (mV (show [[.isl 1 (dE.1.map eI)],[.isl 1 (dE.2.map eI)]]=(([dE.1,dE.2]:List (List Int))).map (eL 1 eI) from rfl) (show 2=([dE.1,dE.2]:List (List Int)).length from rfl)))) (.e1 (bs 1 .live dr bu))))))))
  (fun h1 =>
  .ret (bK [(ab 1),.al false,.bc [0] [.pure] (bD [3])] (.au h1 (bs 1 .live (jU (sz:=1) ba) ay))))
theorem FP {cc:List aQ}{b2:List a2}{cD:List Int}{dv dz:Int}{ay:List (List Int)}{r} (h:xt cc b2 cD dv dz ay=some r):eE bo 82 0 62 [1,1,0,1,0,0] (xk cc b2 cD dv) (Bo cc b2 cD dv) (dz,ay) r:=eF (fun _=>FC) h
def r8 (az:bE):Option (List (List Int)) :=
 ox az >>= fun r1 =>
 xt az.a3 az.a7 r1 (len_ eI r1) 0 ([]:List (List Int)) >>= fun cv =>
 some cv
theorem FV {az:bE}:bL (r8 az) (fun r=>Con bo 62 [.da 2 [(fi az)] 0 0] [] (.isl 1 (r.map (eL 1 eI))) []):=by
 unfold r8
 exact .aT fun r1 I =>
  .aT fun cv aB =>
  .ret (bJ [(ab 1),(ab 1),.aS (bM 1 (cF 1 (.isl 1 (r1.map eI)) false) 2),.pn 3 1,.bc [6] [.dd (bf 1 (eL 1 eI) ([]:List (List Int)))] [(0,ii),(3,hv (([]:List (List Int)).length)),(13,ii),(14,ii),(15,ii)],.sub (.exit 0) [(3,.a6 0 0 0 cv.length)] [(bf 1 (eL 1 eI) cv)],(ab 2)] (.hT (xv r1 I) (d4 1 .live (rV (eL 1 eI))) (bs 1 .live (jU (sz:=1) ba) ([]:List (List Int))) (kB (List Int)) (FP aB) (fx (eL 1 eI) cv) (eN (eL 1 eI) cv) (dF (jU (sz:=1) ba) cv)) (.bS (.d6 (.ek (cv.map (eL 1 eI))))))
def w8 (cc:List aQ)(b2:List a2)(b8:List Int)(fD:List cG)(ai:Int)(kj:List Int)(eG:List (List Int))(eo kO bg a8:Int)(a4 bU:List Int):(Int×(List Int))→S:=fun (iZ,bi)=>dP [(0,.da 2 [[.isl 4 (cc.map aH),.isl 3 (b2.map aX)]] 0 0),(1,.isl 1 (b8.map eI)),(8,.ref 0 0 0 0),(10,.isl 2 (fD.map d5)),(11,.ref 1 0 0 0),(12,.n .i64 ai),(13,.isl 1 (kj.map eI)),(46,.isl 1 (eG.map (eL 1 eI))),(47,.n .i64 eo),(48,.n .i64 ai),(53,.isl 2 (fD.map d5)),(54,.n .i64 kO),(55,.n .i64 iZ)] [[U.mk 5 [[.n .i64 (0:Int),.n .i64 (0:Int),.cg,.cg,.cg]] .live],[U.mk 5 [(fA bg a8 2 0 0 bi.length 3 0 0 a4.length 4 0 0 bU.length)] .live],(bf 1 eI bi),(bf 1 eI a4),(bf 1 eI bU)]
def xb (cc:List aQ)(b2:List a2)(b8:List Int)(fD:List cG)(ai:Int)(kj:List Int)(eG:List (List Int))(eo kO bg a8:Int)(a4 bU:List Int):(List Int)→dT
 | a=>⟨some 2,[(0,.da 2 [[.isl 4 (cc.map aH),.isl 3 (b2.map aX)]] 0 0),(1,.isl 1 (b8.map eI)),(8,.ref 0 0 0 0),(10,.isl 2 (fD.map d5)),(11,.ref 1 0 0 0),(46,.isl 1 (eG.map (eL 1 eI))),(47,.n .i64 eo),(48,.n .i64 ai)],[[U.mk 5 [[.n .i64 (0:Int),.n .i64 (0:Int),.cg,.cg,.cg]] .live],[U.mk 5 [(fA bg a8 2 0 0 a.length 3 0 0 a4.length 4 0 0 bU.length)] .live],(bf 1 eI a),(bf 1 eI a4),(bf 1 eI bU)]⟩
def pY (cc:List aQ)(b2:List a2)(b8:List Int)(fD:List cG)(ai:Int)(kj:List Int)(eG:List (List Int))(eo kO bg a8:Int)(a4 bU:List Int)(iZ:Int)(bi:List Int):Option ((Int×(List Int))⊕((List Int))) :=
 if (decide (iZ<kO))=true then
  if 0≤iZ∧iZ<fD.length then
  fD[iZ.toNat]? >>= fun aP =>
  if 0≤aP.jd∧aP.jd<kj.length then
  kj[aP.jd.toNat]? >>= fun dC =>
  if 0≤(ak ((ak (ai*a8))+iZ))∧(ak ((ak (ai*a8))+iZ))<(bi.length:Nat) then
  if (0+(ak ((ak (ai*a8))+iZ)).toNat)<bi.length then
  some (.inl (ak (iZ+(1:Int)),bi.set (0+(ak ((ak (ai*a8))+iZ)).toNat) (ak (aP.lX*dC))))
  else none
  else none
  else none
  else none
 else
  some (.inr bi)
def xn (cc:List aQ)(b2:List a2)(b8:List Int)(fD:List cG)(ai:Int)(kj:List Int)(eG:List (List Int))(eo kO bg a8:Int)(a4 bU:List Int)(iZ:Int)(bi:List Int):Option ((List Int)):=iter (fun w:Int×(List Int)=>pY cc b2 b8 fD ai kj eG eo kO bg a8 a4 bU w.1 w.2) (iZ,bi)
theorem Fv {cc:List aQ}{b2:List a2}{b8:List Int}{fD:List cG}{ai:Int}{kj:List Int}{eG:List (List Int)}{eo kO bg a8:Int}{a4 bU:List Int}{iZ:Int}{bi:List Int}:bL (pY cc b2 b8 fD ai kj eG eo kO bg a8 a4 bU iZ bi) (eD bo 113 0 44 [1,1,1,1,0,1,0,0,1,1,0,0,1,1,0,0] (w8 cc b2 b8 fD ai kj eG eo kO bg a8 a4 bU (iZ,bi)) (w8 cc b2 b8 fD ai kj eG eo kO bg a8 a4 bU) (xb cc b2 b8 fD ai kj eG eo kO bg a8 a4 bU)):=by
 unfold pY
 exact .ite (fun h1 =>
  .bx fun I =>
  .aT fun aP aB =>
  .bx fun bk =>
  .aT fun dC bA =>
  .bx fun cC =>
  .bx fun ed =>
  .ret (let q1:=ak ((ak (ai*a8))+iZ);let bu:=ak (aP.lX*dC);bK [(ab 1),.al true,.aS (bM 2 (.cO (d5 aP)) 3),.aS (aO 14 (aZ (.cO (eI dC)) (aO 2 (aZ .gE [])))),(ab 2),.bc [0,1,2,3,4] [.box [.id,.id,.id,.id,.id],.box [.id,.id,.len ((bi.set (0+q1.toNat) bu).length),.id,.id],.dd (bf 1 eI (bi.set (0+q1.toNat) bu)),.pure,.pure] (bD [0,1,8,10,11,12,13,46,47,48,53,54,55])] (.b0 h1 I.1 (dJ d5 I.2) (dm d5 aB) bk.1 (dJ eI bk.2) (dm eI bA) cC.1 (.hT cC.2 (ky eI ed) (kb 1) (ic (dD bi) (0+q1.toNat) bu) (d4 1 .live (jy (d3 eI bi) (0+q1.toNat) bu)) (bs 1 .live ba (bi.set (0+q1.toNat) bu)) (bs 1 .live ba a4) (bs 1 .live ba bU)))))
  (fun h1 =>
  .ret (bK [(ab 1),.al false,.bc [0,1,2,3,4] [.box [.id,.id,.id,.id,.id],.box [.id,.id,.id,.id,.id],.pure,.pure,.pure] (bD [0,1,8,10,11,46,47,48])] (.dk h1 (bs 1 .live ba bi) (bs 1 .live ba a4) (bs 1 .live ba bU))))
theorem FF {cc:List aQ}{b2:List a2}{b8:List Int}{fD:List cG}{ai:Int}{kj:List Int}{eG:List (List Int)}{eo kO bg a8:Int}{a4 bU:List Int}{iZ:Int}{bi:List Int}{r} (h:xn cc b2 b8 fD ai kj eG eo kO bg a8 a4 bU iZ bi=some r):eE bo 113 0 44 [1,1,1,1,0,1,0,0,1,1,0,0,1,1,0,0] (w8 cc b2 b8 fD ai kj eG eo kO bg a8 a4 bU) (xb cc b2 b8 fD ai kj eG eo kO bg a8 a4 bU) (iZ,bi) r:=eF (fun _=>Fv) h
def w9 (cc:List aQ)(b2:List a2)(b8:List Int)(fD:List cG)(eG:List (List Int))(eo bg a8:Int)(a4 bU:List Int):(Int×(List Int))→S:=fun (jX,bi)=>dP [(0,.da 2 [[.isl 4 (cc.map aH),.isl 3 (b2.map aX)]] 0 0),(1,.isl 1 (b8.map eI)),(8,.ref 0 0 0 0),(10,.isl 2 (fD.map d5)),(11,.ref 1 0 0 0),(46,.isl 1 (eG.map (eL 1 eI))),(47,.n .i64 eo),(48,.n .i64 jX)] [[U.mk 5 [[.n .i64 (0:Int),.n .i64 (0:Int),.cg,.cg,.cg]] .live],[U.mk 5 [(fA bg a8 2 0 0 bi.length 3 0 0 a4.length 4 0 0 bU.length)] .live],(bf 1 eI bi),(bf 1 eI a4),(bf 1 eI bU)]
def xc (cc:List aQ)(b2:List a2)(b8:List Int)(fD:List cG)(eG:List (List Int))(eo bg a8:Int)(a4 bU:List Int):(List Int)→dT
 | a=>⟨some 0,[(0,.da 2 [[.isl 4 (cc.map aH),.isl 3 (b2.map aX)]] 0 0),(1,.isl 1 (b8.map eI)),(8,.ref 0 0 0 0),(11,.ref 1 0 0 0)],[[U.mk 5 [[.n .i64 (0:Int),.n .i64 (0:Int),.cg,.cg,.cg]] .live],[U.mk 5 [(fA bg a8 2 0 0 a.length 3 0 0 a4.length 4 0 0 bU.length)] .live],(bf 1 eI a),(bf 1 eI a4),(bf 1 eI bU)]⟩
def pZ (cc:List aQ)(b2:List a2)(b8:List Int)(fD:List cG)(eG:List (List Int))(eo bg a8:Int)(a4 bU:List Int)(jX:Int)(bi:List Int):Option ((Int×(List Int))⊕((List Int))) :=
 if (decide (jX<eo))=true then
  if 0≤jX∧jX<eG.length then
  eG[jX.toNat]? >>= fun aP =>
  xn cc b2 b8 fD jX aP eG eo (len_ d5 fD) bg a8 a4 bU 0 bi >>= fun aJ =>
  some (.inl (ak (jX+(1:Int)),aJ))
  else none
 else
  some (.inr bi)
def xo (cc:List aQ)(b2:List a2)(b8:List Int)(fD:List cG)(eG:List (List Int))(eo bg a8:Int)(a4 bU:List Int)(jX:Int)(bi:List Int):Option ((List Int)):=iter (fun w:Int×(List Int)=>pZ cc b2 b8 fD eG eo bg a8 a4 bU w.1 w.2) (jX,bi)
theorem Fw {cc:List aQ}{b2:List a2}{b8:List Int}{fD:List cG}{eG:List (List Int)}{eo bg a8:Int}{a4 bU:List Int}{jX:Int}{bi:List Int}:bL (pZ cc b2 b8 fD eG eo bg a8 a4 bU jX bi) (eD bo 113 0 44 [1,1,1,1,0,1,0,0] (w9 cc b2 b8 fD eG eo bg a8 a4 bU (jX,bi)) (w9 cc b2 b8 fD eG eo bg a8 a4 bU) (xc cc b2 b8 fD eG eo bg a8 a4 bU)):=by
 unfold pZ
 exact .ite (fun h1 =>
  .bx fun I =>
  .aT fun aP aB =>
  .aT fun aJ bq =>
  .ret (bK [(ab 1),.al true,.aS (bM 2 (.cO ((eL 1 eI) aP)) 2),(ab 3),.bc [0,1,2,3,4] [.box [.id,.id,.id,.id,.id],.box [.id,.id,.id,.id,.id],.pure,.pure,.pure] (bD [0,1,8,10,11,12,13,46,47,48,53,54,55]),(xb cc b2 b8 fD jX aP eG eo (len_ d5 fD) bg a8 a4 bU aJ).gF,(ab 2),.bc [0,1,2,3,4] [.box [.id,.id,.id,.id,.id],.box [.id,.id,.id,.id,.id],.pure,.pure,.pure] (bD [0,1,8,10,11,46,47,48])] (.b0 h1 I.1 (dJ (eL 1 eI) I.2) (dm (eL 1 eI) aB) (bs 1 .live ba bi) (bs 1 .live ba a4) (bs 1 .live ba bU) (FF bq) (.bB (bs 1 .live ba aJ) (bs 1 .live ba a4) (bs 1 .live ba bU)))))
  (fun h1 =>
  .ret (bK [(ab 1),.al false,.bc [0,1,2,3,4] [.box [.id,.id,.id,.id,.id],.box [.id,.id,.id,.id,.id],.pure,.pure,.pure] (bD [0,1,8,11])] (.dk h1 (bs 1 .live ba bi) (bs 1 .live ba a4) (bs 1 .live ba bU))))
theorem FG {cc:List aQ}{b2:List a2}{b8:List Int}{fD:List cG}{eG:List (List Int)}{eo bg a8:Int}{a4 bU:List Int}{jX:Int}{bi:List Int}{r} (h:xo cc b2 b8 fD eG eo bg a8 a4 bU jX bi=some r):eE bo 113 0 44 [1,1,1,1,0,1,0,0] (w9 cc b2 b8 fD eG eo bg a8 a4 bU) (xc cc b2 b8 fD eG eo bg a8 a4 bU) (jX,bi) r:=eF (fun _=>Fw) h
def xa (b8 kk:List Int)(kP bg a8:Int)(bi bU:List Int):(Int×(List Int))→S:=fun (hN,a4)=>dP [(1,.isl 1 (b8.map eI)),(8,.ref 0 0 0 0),(11,.ref 1 0 0 0),(80,.isl 1 (kk.map eI)),(81,.n .i64 kP),(82,.n .i64 hN)] [[U.mk 5 [[.n .i64 (0:Int),.n .i64 (0:Int),.cg,.cg,.cg]] .live],[U.mk 5 [(fA bg a8 2 0 0 bi.length 3 0 0 a4.length 4 0 0 bU.length)] .live],(bf 1 eI bi),(bf 1 eI a4),(bf 1 eI bU)]
def xd (b8 kk:List Int)(kP bg a8:Int)(bi bU:List Int):(List Int)→dT
 | a=>⟨some 4,[(8,.ref 0 0 0 0),(11,.ref 1 0 0 0)],[[U.mk 5 [[.n .i64 (0:Int),.n .i64 (0:Int),.cg,.cg,.cg]] .live],[U.mk 5 [(fA bg a8 2 0 0 bi.length 3 0 0 a.length 4 0 0 bU.length)] .live],(bf 1 eI bi),(bf 1 eI a),(bf 1 eI bU)]⟩
def p2 (b8 kk:List Int)(kP bg a8:Int)(bi bU:List Int)(hN:Int)(a4:List Int):Option ((Int×(List Int))⊕((List Int))) :=
 if (decide (hN<kP))=true then
  if 0≤hN∧hN<kk.length then
  kk[hN.toNat]? >>= fun aP =>
  if 0≤(ak ((2:Int)*aP))∧(ak ((2:Int)*aP))<b8.length then
  b8[(ak ((2:Int)*aP)).toNat]? >>= fun dC =>
  if 0≤(ak ((ak ((2:Int)*aP))+(1:Int)))∧(ak ((ak ((2:Int)*aP))+(1:Int)))<b8.length then
  b8[(ak ((ak ((2:Int)*aP))+(1:Int))).toNat]? >>= fun ee =>
  if 0≤(ak ((2:Int)*hN))∧(ak ((2:Int)*hN))<(a4.length:Nat) then
  if (0+(ak ((2:Int)*hN)).toNat)<a4.length then
  if 0≤(ak ((ak ((2:Int)*hN))+(1:Int)))∧(ak ((ak ((2:Int)*hN))+(1:Int)))<(a4.length:Nat) then
  if (0+(ak ((ak ((2:Int)*hN))+(1:Int))).toNat)<(a4.set (0+(ak ((2:Int)*hN)).toNat) (ak (0-dC))).length then
  some (.inl (ak (hN+(1:Int)),(a4.set (0+(ak ((2:Int)*hN)).toNat) (ak (0-dC))).set (0+(ak ((ak ((2:Int)*hN))+(1:Int))).toNat) (ak (0-ee))))
  else none
  else none
  else none
  else none
  else none
  else none
  else none
 else
  some (.inr a4)
def xp (b8 kk:List Int)(kP bg a8:Int)(bi bU:List Int)(hN:Int)(a4:List Int):Option ((List Int)):=iter (fun w:Int×(List Int)=>p2 b8 kk kP bg a8 bi bU w.1 w.2) (hN,a4)
theorem Fx {b8 kk:List Int}{kP bg a8:Int}{bi bU:List Int}{hN:Int}{a4:List Int}:bL (p2 b8 kk kP bg a8 bi bU hN a4) (eD bo 113 0 44 [1,1,1,1,1,0,1,0,0] (xa b8 kk kP bg a8 bi bU (hN,a4)) (xa b8 kk kP bg a8 bi bU) (xd b8 kk kP bg a8 bi bU)):=by
 unfold p2
 exact .ite (fun h1 =>
  .bx fun I =>
  .aT fun aP aB =>
  .bx fun bk =>
  .aT fun dC bA =>
  .bx fun cC =>
  .aT fun ee df =>
  .bx fun gv =>
  .bx fun la =>
  .bx fun gi =>
  .bx fun gB =>
  .ret (let q1:=(ak ((2:Int)*hN));let bu:=(ak (q1+(1:Int)));let cr:=ak (0-dC);let dr:=ak (0-ee);bK [(ab 1),.al true,.aS (bM 2 (.cO (eI aP)) 2),.aS (aO 13 (aZ (.cO (eI dC)) (aO 6 (aZ (.cO (eI ee)) (aO 2 (aZ .gE (aO 1 (aZ .gE [])))))))),(ab 2),.bc [0,1,2,3,4] [.box [.id,.id,.id,.id,.id],.box [.id,.id,.id,.len (((a4.set (0+q1.toNat) cr).set (0+bu.toNat) dr).length),.id],.pure,.dd (bf 1 eI ((a4.set (0+q1.toNat) cr).set (0+bu.toNat) dr)),.pure] (bD [1,8,11,80,81,82])] (.b0 h1 I.1 (dJ eI I.2) (dm eI aB) bk.1 (dJ eI bk.2) (dm eI bA) cC.1 (.b0 (dJ eI cC.2) (dm eI df) gv.1 gv.2 (ky eI la) (kb 1) gi.1 gi.2 (.hS (KY (jy (d3 eI a4) (0+q1.toNat) cr) gB) (kb 1) (ic (ic (dD a4) (0+q1.toNat) cr) (0+bu.toNat) dr) (bs 1 .live ba bi) (d4 1 .live (jy (jy (d3 eI a4) (0+q1.toNat) cr) (0+bu.toNat) dr)) (bs 1 .live ba ((a4.set (0+q1.toNat) cr).set (0+bu.toNat) dr)) (bs 1 .live ba bU))))))
  (fun h1 =>
  .ret (bK [(ab 1),.al false,.bc [0,1,2,3,4] [.box [.id,.id,.id,.id,.id],.box [.id,.id,.id,.id,.id],.pure,.pure,.pure] (bD [8,11])] (.dk h1 (bs 1 .live ba bi) (bs 1 .live ba a4) (bs 1 .live ba bU))))
theorem FH {b8 kk:List Int}{kP bg a8:Int}{bi bU:List Int}{hN:Int}{a4:List Int}{r} (h:xp b8 kk kP bg a8 bi bU hN a4=some r):eE bo 113 0 44 [1,1,1,1,1,0,1,0,0] (xa b8 kk kP bg a8 bi bU) (xd b8 kk kP bg a8 bi bU) (hN,a4) r:=eF (fun _=>Fx) h
def r6 (az:bE)(b8:List Int)(jR kd:Int):Option (Int×Int×(List Int)×(List Int)×(List Int)) :=
 r8 az >>= fun r1 =>
 qk az >>= fun cv =>
 if 0≤(ak ((ak ((len_ (eL 1 eI) r1)+kd))*(ak ((len_ d5 cv)+jR))))∧(8:Int)*(ak ((ak ((len_ (eL 1 eI) r1)+kd))*(ak ((len_ d5 cv)+jR))))≤281474976710656∧(ak ((ak ((len_ (eL 1 eI) r1)+kd))*(ak ((len_ d5 cv)+jR))))<9223372036854775808 then
 if 0≤(ak ((len_ (eL 1 eI) r1)+kd))∧(8:Int)*(ak ((len_ (eL 1 eI) r1)+kd))≤281474976710656∧(ak ((len_ (eL 1 eI) r1)+kd))<9223372036854775808 then
 if 0≤(ak ((len_ d5 cv)+jR))∧(8:Int)*(ak ((len_ d5 cv)+jR))≤281474976710656∧(ak ((len_ d5 cv)+jR))<9223372036854775808 then
 xo az.a3 az.a7 b8 cv r1 (len_ (eL 1 eI) r1) (ak ((len_ (eL 1 eI) r1)+kd)) (ak ((len_ d5 cv)+jR)) (List.replicate (ak ((len_ (eL 1 eI) r1)+kd)).toNat 0:List Int) (List.replicate (ak ((len_ d5 cv)+jR)).toNat 0:List Int) 0 (List.replicate (ak ((ak ((len_ (eL 1 eI) r1)+kd))*(ak ((len_ d5 cv)+jR)))).toNat 0:List Int) >>= fun eO =>
 ox az >>= fun j8 =>
 xp b8 j8 (len_ eI j8) (ak ((len_ (eL 1 eI) r1)+kd)) (ak ((len_ d5 cv)+jR)) eO (List.replicate (ak ((len_ d5 cv)+jR)).toNat 0:List Int) 0 (List.replicate (ak ((len_ (eL 1 eI) r1)+kd)).toNat 0:List Int) >>= fun hx =>
 some (ak ((len_ (eL 1 eI) r1)+kd),ak ((len_ d5 cv)+jR),eO,hx,(List.replicate (ak ((len_ d5 cv)+jR)).toNat 0:List Int))
 else none
 else none
 else none
theorem FQ {az:bE}{b8:List Int}{jR kd:Int}:bL (r6 az b8 jR kd) (fun a=>Con bo 44 [.da 2 [(fi az)] 0 0,.isl 1 (b8.map eI),.n .i64 jR,.n .i64 kd] [] (.agg (fA a.1 a.2.1 0 0 0 a.2.2.1.length 0 1 0 a.2.2.2.1.length 0 2 0 a.2.2.2.2.length)) [[U.mk 1 (a.2.2.1.map eI) .live,U.mk 1 (a.2.2.2.1.map eI) .live,U.mk 1 (a.2.2.2.2.map eI) .live]]):=by
 unfold r6
 exact .aT fun r1 I =>
  .aT fun cv aB =>
  .bx fun bk =>
  .bx fun bq =>
  .bx fun bA =>
  .aT fun eO ed =>
  .aT fun j8 gv =>
  .aT fun hx gi =>
  .ret (let bu:=ak ((len_ (eL 1 eI) r1)+kd);let cr:=ak ((len_ d5 cv)+jR);let q1:=(List.replicate cr.toNat 0:List Int);let dr:=(List.replicate bu.toNat 0:List Int);let hg:=bs 1 .live ba q1;let iw:=ak (bu*cr);let d7:=(List.replicate iw.toNat 0:List Int);jH [(ab 1),.aS (aO 1 (aZ (cF 1 (.isl 1 (r1.map (eL 1 eI))) false) (bM 1 (cF 1 (.isl 2 (cv.map d5)) false) 2))),(ab 11),(ab 18),(ab 3),.bc [0,16,23,26,29] [.box [.id,.id,.id,.id,.id],.box [.id,.id,.len (d7.length),.len (dr.length),.len (q1.length)],.dd (bf 1 eI d7),.dd (bf 1 eI dr),.dd (bf 1 eI q1)] (bD [0,1,8,10,11,46,47,48]),(xc az.a3 az.a7 b8 cv r1 (len_ (eL 1 eI) r1) bu cr dr q1 eO).gF,.aS (bM 1 (cF 1 (.isl 1 (j8.map eI)) false) 2),.bc [0,1,2,3,4] [.box [.id,.id,.id,.id,.id],.box [.id,.id,.id,.id,.id],.pure,.pure,.pure] (bD [1,8,11,80,81,82]),(xd b8 j8 (len_ eI j8) bu cr eO q1 hx).gF,(ab 2),.wJ [{bd:=[(2,0),(3,0),(4,0)],gZ:=none},{bd:=[(0,0)]}] [([.pure,.pure,.pure],none),([.box [.id,.id,.at_ 0 0 eO.length,.at_ 0 1 hx.length,.at_ 0 2 (q1.length)]],none)] [(8,.bS (.d6 (.at_ 1 0 0)))]] [0] [.dZ [U.mk 1 (eO.map eI) .live,U.mk 1 (hx.map eI) .live,U.mk 1 (q1.map eI) .live]] (.b0 (FV r1 I) (Br cv aB) bk.1 (Int.le_refl iw) bk.2.1 bk.2.2 bq.1 (Int.le_refl bu) (.b0 bq.2.1 bq.2.2 bA.1 (Int.le_refl cr) bA.2.1 bA.2.2 (kE iw.toNat (0:Int)) (kE bu.toNat (0:Int)) (.b0 (kE cr.toNat (0:Int)) (d4 1 .live (ke eI iw.toNat 0)) (bs 1 .live ba d7) (d4 1 .live (ke eI bu.toNat 0)) (bs 1 .live ba dr) (d4 1 .live (ke eI cr.toNat 0)) hg (FG ed) (.b0 (xv j8 gv) (bs 1 .live ba eO) (bs 1 .live ba dr) hg (FH gi) (bs 1 .live ba eO) (bs 1 .live ba hx) hg (.hT (rfl:(jq [{bd:=[(2,0),(3,0),(4,0)],gZ:=none},{bd:=[(0,0)]}]) 0 0=some (2,0)) (rfl:eO.length=eO.length) (rfl:(jq [{bd:=[(2,0),(3,0),(4,0)],gZ:=none},{bd:=[(0,0)]}]) 0 1=some (3,0)) (rfl:hx.length=hx.length) (rfl:(jq [{bd:=[(2,0),(3,0),(4,0)],gZ:=none},{bd:=[(0,0)]}]) 0 2=some (4,0)) (rfl:q1.length=q1.length) (rfl:(jq [{bd:=[(2,0),(3,0),(4,0)],gZ:=none},{bd:=[(0,0)]}]) 1 0=some (0,0)) (cE (dN (d9 [0]) 1 dc eO) (cE (dN (d9 [0]) 1 dc hx) (cE (dN (d9 [0]) 1 dc q1) (hp (bn:=(d9 [0]))))))))))) (.bS (.agg [.id,.id,.id,.id,.id])))
def oF (ai tU lu:Int)(mX ny nz:List Int):Option (Nat×Nat) :=
 if 0≤(ak (ai*lu)) then
 if 0≤(ak ((ak (ai+(1:Int)))*lu)) then
 if (ak (ai*lu)).toNat≤(ak ((ak (ai+(1:Int)))*lu)).toNat∧(ak ((ak (ai+(1:Int)))*lu)).toNat≤mX.length then
 some ((0+(ak (ai*lu)).toNat),((ak ((ak (ai+(1:Int)))*lu)).toNat-(ak (ai*lu)).toNat))
 else none
 else none
 else none
theorem yd {ai tU lu:Int}{mX ny nz:List Int}:bL (oF ai tU lu mX ny nz) (fun a=>Con bo 46 [.ref 0 0 0 0,.n .i64 ai] [[U.mk 5 [(fA tU lu 1 0 0 mX.length 1 1 0 ny.length 1 2 0 nz.length)] .live],[U.mk 1 (mX.map eI) .live,U.mk 1 (ny.map eI) .live,U.mk 1 (nz.map eI) .live]] (.a6 1 0 a.1 a.2) [[U.mk 5 [(fA tU lu 1 0 0 mX.length 1 1 0 ny.length 1 2 0 nz.length)] .live],[U.mk 1 (mX.map eI) .live,U.mk 1 (ny.map eI) .live,U.mk 1 (nz.map eI) .live]]):=by
 unfold oF
 exact .bx fun h1 =>
  .bx fun I =>
  .bx fun aj =>
  .ret (let q1:=fA tU lu 1 0 0 mX.length 1 1 0 ny.length 1 2 0 nz.length;let bu:=d9 [0,1];jH [(ab 1),(ab 19)] [0,1] [.dZ [U.mk 5 [q1] .live],.dZ [U.mk 1 (mX.map eI) .live,U.mk 1 (ny.map eI) .live,U.mk 1 (nz.map eI) .live]] (.e9 h1 I aj.1 aj.2 (rT bu 5 [q1] [q1] rfl) (cE (dN bu 1 dc mX) (cE (dN bu 1 dc ny) (cE (dN bu 1 dc nz) (hp (bn:=bu)))))))
def xe (cc:List aQ)(b2:List a2)(bw fe:Int)(b8:List Int)(ej:List (List Int))(gu:Int)(kl:List Int)(kQ bg a8:Int)(c3 c4:List Int):(Int×(List Int))→S:=fun (gr,dR)=>dP [(0,.da 2 [[.isl 4 (cc.map aH),.isl 3 (b2.map aX)]] 0 0),(4,.ref 0 0 0 0),(5,.n .i64 bw),(6,.ref 1 0 0 0),(7,.n .i64 fe),(8,.isl 1 (b8.map eI)),(25,.isl 1 (ej.map (eL 1 eI))),(26,.n .i64 gu),(27,.n .i64 fe),(33,.isl 1 (kl.map eI)),(34,.n .i64 kQ),(35,.n .i64 gr)] [[U.mk 5 [[.n .i64 (0:Int),.n .i64 (0:Int),.cg,.cg,.cg]] .live],[U.mk 5 [(fA bg a8 2 0 0 dR.length 2 1 0 c3.length 2 2 0 c4.length)] .live],[U.mk 1 (dR.map eI) .live,U.mk 1 (c3.map eI) .live,U.mk 1 (c4.map eI) .live]]
def xh (cc:List aQ)(b2:List a2)(bw fe:Int)(b8:List Int)(ej:List (List Int))(gu:Int)(kl:List Int)(kQ bg a8:Int)(c3 c4:List Int):(List Int)→dT
 | a=>⟨some 2,[(0,.da 2 [[.isl 4 (cc.map aH),.isl 3 (b2.map aX)]] 0 0),(4,.ref 0 0 0 0),(5,.n .i64 bw),(6,.ref 1 0 0 0),(7,.n .i64 fe),(25,.isl 1 (ej.map (eL 1 eI))),(26,.n .i64 gu),(27,.n .i64 fe)],[[U.mk 5 [[.n .i64 (0:Int),.n .i64 (0:Int),.cg,.cg,.cg]] .live],[U.mk 5 [(fA bg a8 2 0 0 a.length 2 1 0 c3.length 2 2 0 c4.length)] .live],[U.mk 1 (a.map eI) .live,U.mk 1 (c3.map eI) .live,U.mk 1 (c4.map eI) .live]]⟩
def p3 (cc:List aQ)(b2:List a2)(bw fe:Int)(b8:List Int)(ej:List (List Int))(gu:Int)(kl:List Int)(kQ bg a8:Int)(c3 c4:List Int)(gr:Int)(dR:List Int):Option ((Int×(List Int))⊕((List Int))) :=
 if (decide (gr<kQ))=true then
  if 0≤gr∧gr<kl.length then
  kl[gr.toNat]? >>= fun aP =>
  oF (ak ((2:Int)*gr)) bg a8 dR c3 c4 >>= fun aJ =>
  if 0≤(ak ((2:Int)*aP))∧(ak ((2:Int)*aP))<b8.length then
  b8[(ak ((2:Int)*aP)).toNat]? >>= fun fh =>
  if 0≤(ak (bw+fe))∧(ak (bw+fe))<(aJ.2:Nat) then
  if (aJ.1+(ak (bw+fe)).toNat)<dR.length then
  oF (ak ((ak ((2:Int)*gr))+(1:Int))) bg a8 (dR.set (aJ.1+(ak (bw+fe)).toNat) fh) c3 c4 >>= fun hx =>
  if 0≤(ak ((ak ((2:Int)*aP))+(1:Int)))∧(ak ((ak ((2:Int)*aP))+(1:Int)))<b8.length then
  b8[(ak ((ak ((2:Int)*aP))+(1:Int))).toNat]? >>= fun k9 =>
  if 0≤(ak (bw+fe))∧(ak (bw+fe))<(hx.2:Nat) then
  if (hx.1+(ak (bw+fe)).toNat)<(dR.set (aJ.1+(ak (bw+fe)).toNat) fh).length then
  some (.inl (ak (gr+(1:Int)),(dR.set (aJ.1+(ak (bw+fe)).toNat) fh).set (hx.1+(ak (bw+fe)).toNat) k9))
  else none
  else none
  else none
  else none
  else none
  else none
  else none
 else
  some (.inr dR)
def uM (cc:List aQ)(b2:List a2)(bw fe:Int)(b8:List Int)(ej:List (List Int))(gu:Int)(kl:List Int)(kQ bg a8:Int)(c3 c4:List Int)(gr:Int)(dR:List Int):Option ((List Int)):=iter (fun w:Int×(List Int)=>p3 cc b2 bw fe b8 ej gu kl kQ bg a8 c3 c4 w.1 w.2) (gr,dR)
theorem Fy {cc:List aQ}{b2:List a2}{bw fe:Int}{b8:List Int}{ej:List (List Int)}{gu:Int}{kl:List Int}{kQ bg a8:Int}{c3 c4:List Int}{gr:Int}{dR:List Int}:bL (p3 cc b2 bw fe b8 ej gu kl kQ bg a8 c3 c4 gr dR) (eD bo 83 0 26 [1,1,1,0,1,0,0,1,1,0,0,1,0,1,0,0] (xe cc b2 bw fe b8 ej gu kl kQ bg a8 c3 c4 (gr,dR)) (xe cc b2 bw fe b8 ej gu kl kQ bg a8 c3 c4) (xh cc b2 bw fe b8 ej gu kl kQ bg a8 c3 c4)):=by
 unfold p3
 exact .ite (fun h1 =>
  .bx fun I =>
  .aT fun aP aB =>
  .aT fun aJ bq =>
  .bx fun bA =>
  .aT fun fh ed =>
  .bx fun df =>
  .bx fun gv =>
  .aT fun hx gi =>
  .bx fun gB =>
  .aT fun k9 AO =>
  .bx fun us =>
  .bx fun nH =>
  .ret (let bu:=ak (bw+fe);let q1:=fA bg a8 1 0 0 ((dR.set (aJ.1+bu.toNat) fh).length) 1 1 0 c3.length 1 2 0 c4.length;let cr:=fA bg a8 1 0 0 dR.length 1 1 0 c3.length 1 2 0 c4.length;let dr:=fA bg a8 2 0 0 dR.length 2 1 0 c3.length 2 2 0 c4.length;let d7:=cE (dN (kz [1,2]) 1 dc c3) (cE (dN (kz [1,2]) 1 dc c4) (hp (bn:=(kz [1,2]))));let hg:=cE (dN (dU [1,2]) 1 dc c3) (cE (dN (dU [1,2]) 1 dc c4) (hp (bn:=(dU [1,2]))));let iw:=fA bg a8 2 0 0 ((dR.set (aJ.1+bu.toNat) fh).length) 2 1 0 c3.length 2 2 0 c4.length;let jN:=d9 [0,1,2];bK [(ab 1),.al true,.aS (bM 2 (.cO (eI aP)) 2),.aS (aO 2 (aZ (.call {ar:=(rN [1,2]),b5:=[.dZ [U.mk 5 [cr] .live],.dZ [U.mk 1 (dR.map eI) .live,U.mk 1 (c3.map eI) .live,U.mk 1 (c4.map eI) .live]],ac:=[ii,ii],r:= .a6 1 0 aJ.1 aJ.2,cY:=[[U.mk 5 [cr] .live],[U.mk 1 (dR.map eI) .live,U.mk 1 (c3.map eI) .live,U.mk 1 (c4.map eI) .live]],eC:=ii,fo:=[.dZ [U.mk 5 [dr] .live],.dZ [U.mk 1 (dR.map eI) .live,U.mk 1 (c3.map eI) .live,U.mk 1 (c4.map eI) .live]],eg:=[1,2],eb:=false}) (aO 7 (aZ (.cO (eI fh)) (aO 1 (aZ .gE [])))))),.aS (aO 3 (aZ (.call {ar:=(rN [1,2]),b5:=[.dZ [U.mk 5 [q1] .live],.dZ [U.mk 1 ((dR.set (aJ.1+bu.toNat) fh).map eI) .live,U.mk 1 (c3.map eI) .live,U.mk 1 (c4.map eI) .live]],ac:=[ii,ii],r:= .a6 1 0 hx.1 hx.2,cY:=[[U.mk 5 [q1] .live],[U.mk 1 ((dR.set (aJ.1+bu.toNat) fh).map eI) .live,U.mk 1 (c3.map eI) .live,U.mk 1 (c4.map eI) .live]],eC:=ii,fo:=[.dZ [U.mk 5 [iw] .live],.dZ [U.mk 1 ((dR.set (aJ.1+bu.toNat) fh).map eI) .live,U.mk 1 (c3.map eI) .live,U.mk 1 (c4.map eI) .live]],eg:=[1,2],eb:=false}) (aO 8 (aZ (.cO (eI k9)) (aO 1 (aZ .gE [])))))),(ab 2),.bc [0,1,2] [.box [.id,.id,.id,.id,.id],.box [.id,.id,.len (((dR.set (aJ.1+bu.toNat) fh).set (hx.1+bu.toNat) k9).length),.id,.id],.dZ [U.mk 1 (((dR.set (aJ.1+bu.toNat) fh).set (hx.1+bu.toNat) k9).map eI) .live,U.mk 1 (c3.map eI) .live,U.mk 1 (c4.map eI) .live]] (bD [0,4,5,6,7,8,25,26,27,33,34,35])] (.b0 h1 I.1 (dJ eI I.2) (dm eI aB) (rT (kz [1,2]) 5 [cr] [dr] rfl) (rU 5 [dr]) (cE (dN (kz [1,2]) 1 dc dR) d7) ((eh rfl (eh rfl (eh rfl jS))):fE [U.mk 1 (dR.map eI) .live,U.mk 1 (c3.map eI) .live,U.mk 1 (c4.map eI) .live]) (.b0 (rT (dU [1,2]) 5 [dr] [cr] rfl) (rU 5 [cr]) (cE (dN (dU [1,2]) 1 dc dR) hg) ((eh rfl (eh rfl (eh rfl jS))):fE [U.mk 1 (dR.map eI) .live,U.mk 1 (c3.map eI) .live,U.mk 1 (c4.map eI) .live]) (yd aJ bq) bA.1 (dJ eI bA.2) (dm eI ed) (.b0 df.1 df.2 (ky eI gv) (kb 1) (cE (show U.mk 5 [(fA bg a8 1 0 0 ((dR.set (aJ.1+(ak (bw+fe)).toNat) fh).length) 1 1 0 c3.length 1 2 0 c4.length)] .live=h3 (kz [1,2]) (U.mk 5 [(fA bg a8 2 0 0 dR.length 2 1 0 c3.length 2 2 0 c4.length)] .live) from (congrArg (fun NF=>U.mk 5 [(fA bg a8 1 0 0 NF 1 1 0 c3.length 1 2 0 c4.length)] .live) (ic (dD dR) (aJ.1+(ak (bw+fe)).toNat) fh).symm)) hp) (rU 5 [dr]) (cE (ot (bn:=(kz [1,2])) 1 .live eI (jy (d3 eI dR) (aJ.1+bu.toNat) fh) (nw dc)) d7) ((eh rfl (eh rfl (eh rfl jS))):fE [U.mk 1 ((dR.map eI).set (aJ.1+bu.toNat) [.n .i64 fh]) .live,U.mk 1 (c3.map eI) .live,U.mk 1 (c4.map eI) .live]) (.b0 (rT (dU [1,2]) 5 [iw] [q1] rfl) (rU 5 [q1]) (cE (dN (dU [1,2]) 1 dc (dR.set (aJ.1+bu.toNat) fh)) hg) ((eh rfl (eh rfl (eh rfl jS))):fE [U.mk 1 ((dR.set (aJ.1+bu.toNat) fh).map eI) .live,U.mk 1 (c3.map eI) .live,U.mk 1 (c4.map eI) .live]) (yd hx gi) gB.1 (dJ eI gB.2) (dm eI AO) (.e9 us.1 us.2 (ky eI nH) (kb 1) (ic (dD (dR.set (aJ.1+bu.toNat) fh)) (hx.1+bu.toNat) k9) (cE (ot (bn:=jN) 1 .live eI (jy (d3 eI (dR.set (aJ.1+bu.toNat) fh)) (hx.1+bu.toNat) k9) (nw dc)) (cE (dN jN 1 dc c3) (cE (dN jN 1 dc c4) (hp (bn:=jN))))))))))))
  (fun h1 =>
  .ret (let mK:=d9 [0,1,2];bK [(ab 1),.al false,.bc [0,1,2] [.box [.id,.id,.id,.id,.id],.box [.id,.id,.id,.id,.id],.dZ [U.mk 1 (dR.map eI) .live,U.mk 1 (c3.map eI) .live,U.mk 1 (c4.map eI) .live]] (bD [0,4,5,6,7,25,26,27])] (.au h1 (cE (dN mK 1 dc dR) (cE (dN mK 1 dc c3) (cE (dN mK 1 dc c4) (hp (bn:=mK))))))))
theorem FI {cc:List aQ}{b2:List a2}{bw fe:Int}{b8:List Int}{ej:List (List Int)}{gu:Int}{kl:List Int}{kQ bg a8:Int}{c3 c4:List Int}{gr:Int}{dR:List Int}{r} (h:uM cc b2 bw fe b8 ej gu kl kQ bg a8 c3 c4 gr dR=some r):eE bo 83 0 26 [1,1,1,0,1,0,0,1,1,0,0,1,0,1,0,0] (xe cc b2 bw fe b8 ej gu kl kQ bg a8 c3 c4) (xh cc b2 bw fe b8 ej gu kl kQ bg a8 c3 c4) (gr,dR) r:=eF (fun _=>Fy) h
def xf (cc:List aQ)(b2:List a2)(bw:Int)(ej:List (List Int))(gu bg a8:Int)(c3 c4:List Int):(Int×(List Int))→S:=fun (iA,dR)=>dP [(0,.da 2 [[.isl 4 (cc.map aH),.isl 3 (b2.map aX)]] 0 0),(4,.ref 0 0 0 0),(5,.n .i64 bw),(6,.ref 1 0 0 0),(25,.isl 1 (ej.map (eL 1 eI))),(26,.n .i64 gu),(27,.n .i64 iA)] [[U.mk 5 [[.n .i64 (0:Int),.n .i64 (0:Int),.cg,.cg,.cg]] .live],[U.mk 5 [(fA bg a8 2 0 0 dR.length 2 1 0 c3.length 2 2 0 c4.length)] .live],[U.mk 1 (dR.map eI) .live,U.mk 1 (c3.map eI) .live,U.mk 1 (c4.map eI) .live]]
def xi (cc:List aQ)(b2:List a2)(bw:Int)(ej:List (List Int))(gu bg a8:Int)(c3 c4:List Int):(List Int)→dT
 | a=>⟨some 0,[(4,.ref 0 0 0 0),(6,.ref 1 0 0 0)],[[U.mk 5 [[.n .i64 (0:Int),.n .i64 (0:Int),.cg,.cg,.cg]] .live],[U.mk 5 [(fA bg a8 2 0 0 a.length 2 1 0 c3.length 2 2 0 c4.length)] .live],[U.mk 1 (a.map eI) .live,U.mk 1 (c3.map eI) .live,U.mk 1 (c4.map eI) .live]]⟩
def p4 (cc:List aQ)(b2:List a2)(bw:Int)(ej:List (List Int))(gu bg a8:Int)(c3 c4:List Int)(iA:Int)(dR:List Int):Option ((Int×(List Int))⊕((List Int))) :=
 if (decide (iA<gu))=true then
  if 0≤iA∧iA<ej.length then
  ej[iA.toNat]? >>= fun aP =>
  ox (⟨cc,b2⟩:bE) >>= fun aJ =>
  uM cc b2 bw iA aP ej gu aJ (len_ eI aJ) bg a8 c3 c4 0 dR >>= fun aD =>
  oF (ak (bg-(1:Int))) bg a8 aD c3 c4 >>= fun aV =>
  if 0≤(ak (bw+iA))∧(ak (bw+iA))<(aV.2:Nat) then
  if (aV.1+(ak (bw+iA)).toNat)<aD.length then
  some (.inl (ak (iA+(1:Int)),aD.set (aV.1+(ak (bw+iA)).toNat) 1))
  else none
  else none
  else none
 else
  some (.inr dR)
def uN (cc:List aQ)(b2:List a2)(bw:Int)(ej:List (List Int))(gu bg a8:Int)(c3 c4:List Int)(iA:Int)(dR:List Int):Option ((List Int)):=iter (fun w:Int×(List Int)=>p4 cc b2 bw ej gu bg a8 c3 c4 w.1 w.2) (iA,dR)
theorem Fz {cc:List aQ}{b2:List a2}{bw:Int}{ej:List (List Int)}{gu bg a8:Int}{c3 c4:List Int}{iA:Int}{dR:List Int}:bL (p4 cc b2 bw ej gu bg a8 c3 c4 iA dR) (eD bo 83 0 26 [1,1,1,0,1,0,0] (xf cc b2 bw ej gu bg a8 c3 c4 (iA,dR)) (xf cc b2 bw ej gu bg a8 c3 c4) (xi cc b2 bw ej gu bg a8 c3 c4)):=by
 unfold p4
 exact .ite (fun h1 =>
  .bx fun I =>
  .aT fun aP aB =>
  .aT fun aJ bq =>
  .aT fun aD cC =>
  .aT fun aV df =>
  .bx fun gv =>
  .bx fun la =>
  .ret (let q1:=fA bg a8 1 0 0 aD.length 1 1 0 c3.length 1 2 0 c4.length;let bu:=fA bg a8 2 0 0 aD.length 2 1 0 c3.length 2 2 0 c4.length;let cr:=cE (dN (d9 [0,1,2]) 1 dc c3) (cE (dN (d9 [0,1,2]) 1 dc c4) (hp (bn:=(d9 [0,1,2]))));let dr:=ak (bw+iA);bK [(ab 1),.al true,.aS (bM 2 (.cO ((eL 1 eI) aP)) 2),.aS (bM 1 (cF 1 (.isl 1 (aJ.map eI)) false) 2),.bc [0,1,2] [.box [.id,.id,.id,.id,.id],.box [.id,.id,.id,.id,.id],.dZ [U.mk 1 (dR.map eI) .live,U.mk 1 (c3.map eI) .live,U.mk 1 (c4.map eI) .live]] (bD [0,4,5,6,7,8,25,26,27,33,34,35]),(xh cc b2 bw iA aP ej gu aJ (len_ eI aJ) bg a8 c3 c4 aD).gF,.aS (aO 3 (aZ (.call {ar:=(rN [1,2]),b5:=[.dZ [U.mk 5 [q1] .live],.dZ [U.mk 1 (aD.map eI) .live,U.mk 1 (c3.map eI) .live,U.mk 1 (c4.map eI) .live]],ac:=[ii,ii],r:= .a6 1 0 aV.1 aV.2,cY:=[[U.mk 5 [q1] .live],[U.mk 1 (aD.map eI) .live,U.mk 1 (c3.map eI) .live,U.mk 1 (c4.map eI) .live]],eC:=ii,fo:=[.dZ [U.mk 5 [bu] .live],.dZ [U.mk 1 (aD.map eI) .live,U.mk 1 (c3.map eI) .live,U.mk 1 (c4.map eI) .live]],eg:=[1,2],eb:=false}) (aO 4 (aZ .gE [])))),(ab 2),.bc [0,1,2] [.box [.id,.id,.id,.id,.id],.box [.id,.id,.len ((aD.set (aV.1+dr.toNat) 1).length),.id,.id],.dZ [U.mk 1 ((aD.set (aV.1+dr.toNat) 1).map eI) .live,U.mk 1 (c3.map eI) .live,U.mk 1 (c4.map eI) .live]] (bD [0,4,5,6,25,26,27])] (.b0 h1 I.1 (dJ (eL 1 eI) I.2) (dm (eL 1 eI) aB) (xv aJ bq) (cE (dN (d9 [0,1,2]) 1 dc dR) cr) (FI cC) (rT (kz [1,2]) 5 [q1] [bu] rfl) (.b0 (rU 5 [bu]) (cE (dN (kz [1,2]) 1 dc aD) (cE (dN (kz [1,2]) 1 dc c3) (cE (dN (kz [1,2]) 1 dc c4) (hp (bn:=(kz [1,2])))))) ((eh rfl (eh rfl (eh rfl jS))):fE [U.mk 1 (aD.map eI) .live,U.mk 1 (c3.map eI) .live,U.mk 1 (c4.map eI) .live]) (rT (dU [1,2]) 5 [bu] [q1] rfl) (rU 5 [q1]) (cE (dN (dU [1,2]) 1 dc aD) (cE (dN (dU [1,2]) 1 dc c3) (cE (dN (dU [1,2]) 1 dc c4) (hp (bn:=(dU [1,2])))))) ((eh rfl (eh rfl (eh rfl jS))):fE [U.mk 1 (aD.map eI) .live,U.mk 1 (c3.map eI) .live,U.mk 1 (c4.map eI) .live]) (yd aV df) (.e9 gv.1 gv.2 (ky eI la) (kb 1) (ic (dD aD) (aV.1+dr.toNat) 1) (cE (ot (bn:=(d9 [0,1,2])) 1 .live eI (jy (d3 eI aD) (aV.1+dr.toNat) 1) (nw dc)) cr))))))
  (fun h1 =>
  .ret (let d7:=d9 [0,1,2];bK [(ab 1),.al false,.bc [0,1,2] [.box [.id,.id,.id,.id,.id],.box [.id,.id,.id,.id,.id],.dZ [U.mk 1 (dR.map eI) .live,U.mk 1 (c3.map eI) .live,U.mk 1 (c4.map eI) .live]] (bD [4,6])] (.au h1 (cE (dN d7 1 dc dR) (cE (dN d7 1 dc c3) (cE (dN d7 1 dc c4) (hp (bn:=d7))))))))
theorem FJ {cc:List aQ}{b2:List a2}{bw:Int}{ej:List (List Int)}{gu bg a8:Int}{c3 c4:List Int}{iA:Int}{dR:List Int}{r} (h:uN cc b2 bw ej gu bg a8 c3 c4 iA dR=some r):eE bo 83 0 26 [1,1,1,0,1,0,0] (xf cc b2 bw ej gu bg a8 c3 c4) (xi cc b2 bw ej gu bg a8 c3 c4) (iA,dR) r:=eF (fun _=>Fz) h
def r7 (az:bE)(ch:List (List Int)):Option (Int×Int×(List Int)×(List Int)×(List Int)) :=
 qk az >>= fun r1 =>
 if 0≤(ak ((2:Int)*(len_ aH az.a3)))∧(8:Int)*(ak ((2:Int)*(len_ aH az.a3)))≤281474976710656∧(ak ((2:Int)*(len_ aH az.a3)))<9223372036854775808 then
 r6 az (List.replicate (ak ((2:Int)*(len_ aH az.a3))).toNat 0:List Int) (len_ (eL 1 eI) ch) 1 >>= fun br =>
 uN az.a3 az.a7 (len_ d5 r1) ch (len_ (eL 1 eI) ch) br.1 br.2.1 br.2.2.2.1 br.2.2.2.2 0 br.2.2.1 >>= fun dE =>
 if 0≤(ak (br.1-(1:Int)))∧(ak (br.1-(1:Int)))<(br.2.2.2.1.length:Nat) then
 if (0+(ak (br.1-(1:Int))).toNat)<br.2.2.2.1.length then
 some (br.1,br.2.1,dE,br.2.2.2.1.set (0+(ak (br.1-(1:Int))).toNat) 1,br.2.2.2.2)
 else none
 else none
 else none
theorem FT {az:bE}{ch:List (List Int)}:bL (r7 az ch) (fun a=>Con bo 26 [.da 2 [(fi az)] 0 0,.isl 1 (ch.map (eL 1 eI))] [] (.agg (fA a.1 a.2.1 0 0 0 a.2.2.1.length 0 1 0 a.2.2.2.1.length 0 2 0 a.2.2.2.2.length)) [[U.mk 1 (a.2.2.1.map eI) .live,U.mk 1 (a.2.2.2.1.map eI) .live,U.mk 1 (a.2.2.2.2.map eI) .live]]):=by
 unfold r7
 exact .aT fun r1 I =>
  .bx fun aj =>
  .aT fun br bk =>
  .aT fun dE bA =>
  .bx fun cC =>
  .bx fun ed =>
  .ret (let q1:=(ak ((2:Int)*(len_ aH az.a3)));let bu:=(ak (br.1-(1:Int)));let cr:=d9 [0,16,15];let dr:=(List.replicate q1.toNat 0:List Int);jH [(ab 1),.aS (bM 1 (cF 1 (.isl 2 (r1.map d5)) false) 2),.aS (bM 10 (.call {ar:=[],b5:=[],ac:=[ii,.bS (.d6 (.ek (dr.map eI))),ii,ii],r:= .agg (fA br.1 br.2.1 0 0 0 br.2.2.1.length 0 1 0 br.2.2.2.1.length 0 2 0 br.2.2.2.2.length),cY:=[[U.mk 1 (br.2.2.1.map eI) .live,U.mk 1 (br.2.2.2.1.map eI) .live,U.mk 1 (br.2.2.2.2.map eI) .live]],eC:= .bS (.agg [.id,.id,.id,.id,.id]),fo:=[.dZ [U.mk 1 (br.2.2.1.map eI) .live,U.mk 1 (br.2.2.2.1.map eI) .live,U.mk 1 (br.2.2.2.2.map eI) .live]],eg:=[12],eb:=true}) 2),(ab 3),.bc [0,16,15] [.box [.id,.id,.id,.id,.id],.box [.id,.id,.id,.id,.id],.dZ [U.mk 1 (br.2.2.1.map eI) .live,U.mk 1 (br.2.2.2.1.map eI) .live,U.mk 1 (br.2.2.2.2.map eI) .live]] (bD [0,4,5,6,25,26,27]),(xi az.a3 az.a7 (len_ d5 r1) ch (len_ (eL 1 eI) ch) br.1 br.2.1 br.2.2.2.1 br.2.2.2.2 dE).gF,.aS (aO 6 (aZ .gE [])),(ab 2)] [2] [.dZ [U.mk 1 (dE.map eI) .live,U.mk 1 ((br.2.2.2.1.set (0+bu.toNat) 1).map eI) .live,U.mk 1 (br.2.2.2.2.map eI) .live]] (.b0 (Br r1 I) aj.1 (Int.le_refl q1) aj.2.1 aj.2.2 (mQ (ke eI q1.toNat 0) (kE q1.toNat (0:Int))) (lP (ke eI q1.toNat 0) (kE q1.toNat (0:Int))) (dF ba dr) (.b0 (cE (dN (dU [15]) 1 dc br.2.2.1) (cE (dN (dU [15]) 1 dc br.2.2.2.1) (cE (dN (dU [15]) 1 dc br.2.2.2.2) (hp (bn:=(dU [15])))))) ((eh rfl (eh rfl (eh rfl jS))):fE [U.mk 1 (br.2.2.1.map eI) .live,U.mk 1 (br.2.2.2.1.map eI) .live,U.mk 1 (br.2.2.2.2.map eI) .live]) (FQ br bk) (bj.agg (eV (bj.n .i64 br.1) (eV (bj.n .i64 br.2.1) (eV (bj.a6 0 0 0 br.2.2.1.length) (eV (bj.a6 0 1 0 br.2.2.2.1.length) (eV (bj.a6 0 2 0 br.2.2.2.2.length) k4)))))) ((jb (gn (f7 je) (gn (f7 je) (gn (f7 je) lo))) jc):h4 [[U.mk 1 (br.2.2.1.map eI) .live,U.mk 1 (br.2.2.2.1.map eI) .live,U.mk 1 (br.2.2.2.2.map eI) .live]]) (cE (dN cr 1 dc br.2.2.1) (cE (dN cr 1 dc br.2.2.2.1) (cE (dN cr 1 dc br.2.2.2.2) (hp (bn:=cr))))) (FJ bA) cC.1 (.gk cC.2 (ky eI ed) (kb 1) (cE (dN (d9 [2]) 1 dc dE) (cE (ot (bn:=(d9 [2])) 1 .live eI (jy (d3 eI br.2.2.2.1) (0+bu.toNat) 1) (nw dc)) (cE (dN (d9 [2]) 1 dc br.2.2.2.2) (hp (bn:=(d9 [2])))))) (ic (dD br.2.2.2.1) (0+bu.toNat) 1)))) (.bS (.agg [.id,.id,.id,.len ((br.2.2.2.1.set (0+bu.toNat) 1).length),.id])))
def qD (az:bE)(ch:List (List Int)):Option ((Int×Int×(List Int)×(List Int)×(List Int))⊕(Unit)) :=
 qP az ch >>= fun r1 =>
 if r1=true then
  r7 az ch >>= fun br =>
  some (.inl (br.1,br.2.1,br.2.2.1,br.2.2.2.1,br.2.2.2.2))
 else
  some (.inr ())
theorem uU {az:bE}{ch:List (List Int)}:bL (qD az ch) (Sum.elim (fun a=>Con bo 9 [.agg (fi az),.isl 1 (ch.map (eL 1 eI))] [] (.agg (fA a.1 a.2.1 0 0 0 a.2.2.1.length 0 1 0 a.2.2.2.1.length 0 2 0 a.2.2.2.2.length)) [[U.mk 1 (a.2.2.1.map eI) .live,U.mk 1 (a.2.2.2.1.map eI) .live,U.mk 1 (a.2.2.2.2.map eI) .live]]) (fun a=>Con bo 9 [.agg (fi az),.isl 1 (ch.map (eL 1 eI))] [] (.agg [.n .i64 (0:Int),.n .i64 (0:Int),.isl 1 (([]:List Int).map eI),.isl 1 (([]:List Int).map eI),.isl 1 (([]:List Int).map eI)]) [])):=by
 unfold qD
 exact .aT fun r1 I =>
  (let t1:List cd:=[(ab 2),.aS (bM 1 (.call {ac:=[.bS (.ptr [.id,.id]),ii],r:= .b r1,eb:=true,eg:=[0]}) 1)];
  have aW:=((.bB (vE (u1 az):hL [(fi az)]) (HT r1 I) (bj.b r1)):cA _);
  .ite (fun aj =>
  .aT fun br bk =>
  .ret (jH (t1.append [.al false,.aS (bM 1 (.call {ar:=[],b5:=[],ac:=[.bS (.ptr [.id,.id]),ii],r:= .agg (fA br.1 br.2.1 0 0 0 br.2.2.1.length 0 1 0 br.2.2.2.1.length 0 2 0 br.2.2.2.2.length),cY:=[[U.mk 1 (br.2.2.1.map eI) .live,U.mk 1 (br.2.2.2.1.map eI) .live,U.mk 1 (br.2.2.2.2.map eI) .live]],eC:= .bS (.agg [.id,.id,.id,.id,.id]),fo:=[.dZ [U.mk 1 (br.2.2.1.map eI) .live,U.mk 1 (br.2.2.2.1.map eI) .live,U.mk 1 (br.2.2.2.2.map eI) .live]],eg:=[0],eb:=true}) 1)]) [6] [.dZ [U.mk 1 (br.2.2.1.map eI) .live,U.mk 1 (br.2.2.2.1.map eI) .live,U.mk 1 (br.2.2.2.2.map eI) .live]] (aW.aI (.hT (c5 aj) (vE (u1 az):hL [(fi az)]) (cE (dN (dU [6]) 1 dc br.2.2.1) (cE (dN (dU [6]) 1 dc br.2.2.2.1) (cE (dN (dU [6]) 1 dc br.2.2.2.2) (hp (bn:=(dU [6])))))) ((eh rfl (eh rfl (eh rfl jS))):fE [U.mk 1 (br.2.2.1.map eI) .live,U.mk 1 (br.2.2.2.1.map eI) .live,U.mk 1 (br.2.2.2.2.map eI) .live]) (FT br bk) (bj.agg (eV (bj.n .i64 br.1) (eV (bj.n .i64 br.2.1) (eV (bj.a6 0 0 0 br.2.2.1.length) (eV (bj.a6 0 1 0 br.2.2.2.1.length) (eV (bj.a6 0 2 0 br.2.2.2.2.length) k4)))))) ((jb (gn (f7 je) (gn (f7 je) (gn (f7 je) lo))) jc):h4 [[U.mk 1 (br.2.2.1.map eI) .live,U.mk 1 (br.2.2.2.1.map eI) .live,U.mk 1 (br.2.2.2.2.map eI) .live]]) (cE (dN (d9 [6]) 1 dc br.2.2.1) (cE (dN (d9 [6]) 1 dc br.2.2.2.1) (cE (dN (d9 [6]) 1 dc br.2.2.2.2) (hp (bn:=(d9 [6])))))))) (.bS (.agg [.id,.id,.id,.id,.id]))))
  (fun aj =>
  .ret (jH (t1.append [.al true,(ab 2)]) [] [] (aW.aI (.e1 (c0 aj))) (.bS (.agg [.id,.id,.m7 1,.m7 1,.m7 1])))))
end Go.Proofs.Ytdkjpcaalflfhac
namespace Go.Proofs.Ytdkjpcaalflfhac
set_option linter.unusedVariables false
set_option linter.unusedSimpArgs false
open Go Go.VL
def yF (ap cb:List Int):Int→S:=fun ai=>dP [(0,.isl 1 (ap.map eI)),(1,.isl 1 (cb.map eI)),(5,.n .i64 ai)] []
def BS (ap cb:List Int):((Unit)⊕(Unit))→dT
 | .inl a=>⟨some 0,[],[]⟩
 | .inr a=>⟨none,[(4,.b false)],[]⟩
def qA (ap cb:List Int)(ai:Int):Option ((Int)⊕((Unit)⊕(Unit))) :=
 if (decide (ai<(len_ eI ap)))=true then
  if 0≤ai∧ai<ap.length then
  ap[ai.toNat]? >>= fun aP =>
  if 0≤ai∧ai<cb.length then
  cb[ai.toNat]? >>= fun dC =>
  if (aP != dC)=true then
   some (.inr (.inr ()))
  else
   some (.inl (ak (ai+(1:Int))))
  else none
  else none
 else
  some (.inr (.inl ()))
def y9 (ap cb:List Int)(ai:Int):Option ((Unit)⊕(Unit)):=iter (fun w:Int=>qA ap cb w) ai
theorem GH {ap cb:List Int}{ai:Int}:bL (qA ap cb ai) (eD bo 26 0 27 [1,1,0,1,0,0] (yF ap cb ai) (yF ap cb) (BS ap cb)):=by
 unfold qA
 exact .ite (fun h1 =>
  .bx fun I =>
  .aT fun aP aB =>
  .bx fun bk =>
  .aT fun dC bA =>
  (let t1:List cd:=[(ab 4),.al true,.aS (aO 3 (aZ (.cO (eI aP)) (bM 3 (.cO (eI dC)) 1)))];
  have aW:=((.hS h1 I.1 (dJ eI I.2) (dm eI aB) bk.1 (dJ eI bk.2) (dm eI bA)):cA _);
  .ite (fun cC =>
  .ret (bK (t1.append [.al true,(ab 1),.bc [] [] (bD [4])]) (aW.aI (.e1 cC))))
  (fun cC =>
  .ret (bK (t1.append [.al false,(ab 3),.bc [] [] (bD [0,1,5])]) (aW.aI (.e1 cC))))))
  (fun h1 =>
  .ret (bK [(ab 4),.al false,.bc [] [] []] (.e1 h1)))
theorem BX {ap cb:List Int}{ai:Int}{r} (h:y9 ap cb ai=some r):eE bo 26 0 27 [1,1,0,1,0,0] (yF ap cb) (BS ap cb) ai r:=eF (fun _=>GH) h
def nV (ap cb:List Int):Option Bool :=
 if ((len_ eI ap) != (len_ eI cb))=true then
  some false
 else
  y9 ap cb 0 >>= fun bF =>
  match bF with
  | .inl fS=>(some true)
  | .inr fS=>(some false)
theorem u9 {ap cb:List Int}:bL (nV ap cb) (fun r=>Con bo 27 [.isl 1 (ap.map eI),.isl 1 (cb.map eI)] [] (.b r) []):=by
 unfold nV
 exact .ite (fun h1 =>
  .ret (bJ [(ab 1),(ab 5),.al true,(ab 1)] (.e1 h1)))
  (fun h1 =>
  .aT fun bF aj =>
  (let t1:List cd:=[(ab 1),(ab 5),.al false,(ab 1),.bc [] [] (bD [0,1,5])];
  (by
  rcases bF with fS|fS
  ·exact (.ret (bJ (t1.append [.sub (.exit 0) [] [],(ab 1)]) (.au h1 (BX aj))))
  ·exact (.ret (bJ (t1.append [.sub (.ret) [(4,.b false)] []]) (.au h1 (BX aj)))))))
def qK (ap cb:ix):Option Bool :=
 if (ap.nx != cb.nx)=true then
  some false
 else
  if (ap.hs != cb.hs)=true then
   some false
  else
   nV ap.c9 cb.c9 >>= fun cv =>
   if cv=true then
    nV ap.c7 cb.c7 >>= fun dE =>
    if dE=true then
     nV ap.pS cb.pS >>= fun aV =>
     if aV=true then
      some true
     else
      some false
    else
     some false
   else
    some false
theorem qF {ap cb:ix}:bL (qK ap cb) (fun r=>Con bo 10 [.agg (li ap),.agg (li cb)] [] (.b r) []):=by
 unfold qK
 exact .ite (fun h1 =>
  .ret (bJ [(ab 3),(ab 5),.al true,(ab 1)] (.e1 h1)))
  (fun h1 =>
  (let t1:List cd:=[(ab 3),(ab 5),.al false,(ab 5)];
  .ite (fun I =>
  .ret (bJ (t1.append [.al true,(ab 1)]) (.au h1 I)))
  (fun I =>
  .aT fun cv aB =>
  (let t2:List cd:=t1.append [.al false,.aS (bM 4 (cF 2 (.b cv) true) 1)];
  have fw:=((.dk h1 I (u9 cv aB) (bj.b cv)):cA _);
  .ite (fun bk =>
  .aT fun dE bA =>
  (let t4:List cd:=t2.append [.al false,.aS (bM 4 (cF 2 (.b dE) true) 1)];
  have k1:=fw.aI (.bB (c5 bk) (u9 dE bA) (bj.b dE));
  .ite (fun cC =>
  .aT fun aV df =>
  (let t6:List cd:=t4.append [.al false,.aS (bM 4 (cF 2 (.b aV) true) 1)];
  have rZ:=k1.aI (.bB (c5 cC) (u9 aV df) (bj.b aV));
  .ite (fun gv =>
  .ret (bJ (t6.append [.al false,(ab 1)]) (rZ.aI (.e1 (c5 gv)))))
  (fun gv =>
  .ret (bJ (t6.append [.al true,(ab 1)]) (rZ.aI (.e1 (c0 gv)))))))
  (fun cC =>
  .ret (bJ (t4.append [.al true,(ab 1)]) (k1.aI (.e1 (c0 cC)))))))
  (fun bk =>
  .ret (bJ (t2.append [.al true,(ab 1)]) (fw.aI (.e1 (c0 bk)))))))))
def sM (ap cb:aQ):Option Bool :=
 if (!(ap.eP.toList == cb.eP.toList))=true then
  some false
 else
  if (ap.dQ != cb.dQ)=true then
   some false
  else
   if (ap.dO != cb.dO)=true then
    some false
   else
    if (ap.ev == cb.ev)=true then
     some true
    else
     some false
theorem HU {ap cb:aQ}:bL (sM ap cb) (fun r=>Con bo 47 [.agg (aH ap),.agg (aH cb)] [] (.b r) []):=by
 unfold sM
 exact .ite (fun h1 =>
  .ret (bJ [(ab 3),(ab 5),.al true,(ab 1)] (.e1 h1)))
  (fun h1 =>
  (let t1:List cd:=[(ab 3),(ab 5),.al false,(ab 5)];
  .ite (fun I =>
  .ret (bJ (t1.append [.al true,(ab 1)]) (.au h1 I)))
  (fun I =>
  .ite (fun aj =>
  .ret (bJ (t1.append [.al false,(ab 5),.al true,(ab 1)]) (.bB h1 I aj)))
  (fun aj =>
  (let t2:List cd:=t1.append [.al false,(ab 5),.al false,(ab 5)];
  .ite (fun aB =>
  .ret (bJ (t2.append [.al false,(ab 1)]) (.dk h1 I aj (c5 aB))))
  (fun aB =>
  .ret (bJ (t2.append [.al true,(ab 1)]) (.dk h1 I aj (c0 aB)))))))))
def ye (ap cb:List aQ):Int→S:=fun ai=>dP [(0,.isl 4 (ap.map aH)),(1,.isl 4 (cb.map aH)),(5,.n .i64 ai)] []
def BB (ap cb:List aQ):((Unit)⊕(Unit))→dT
 | .inl a=>⟨some 0,[],[]⟩
 | .inr a=>⟨none,[(4,.b false)],[]⟩
def qo (ap cb:List aQ)(ai:Int):Option ((Int)⊕((Unit)⊕(Unit))) :=
 if (decide (ai<(len_ aH ap)))=true then
  if 0≤ai∧ai<ap.length then
  ap[ai.toNat]? >>= fun aP =>
  if 0≤ai∧ai<cb.length then
  cb[ai.toNat]? >>= fun dC =>
  sM aP dC >>= fun eO =>
  if eO=true then
   some (.inl (ak (ai+(1:Int))))
  else
   some (.inr (.inr ()))
  else none
  else none
 else
  some (.inr (.inl ()))
def yX (ap cb:List aQ)(ai:Int):Option ((Unit)⊕(Unit)):=iter (fun w:Int=>qo ap cb w) ai
theorem Gp {ap cb:List aQ}{ai:Int}:bL (qo ap cb ai) (eD bo 27 0 28 [1,1,0,1,0,0] (ye ap cb ai) (ye ap cb) (BB ap cb)):=by
 unfold qo
 exact .ite (fun h1 =>
  .bx fun I =>
  .aT fun aP aB =>
  .bx fun bk =>
  .aT fun dC bA =>
  .aT fun eO ed =>
  (let t1:List cd:=[(ab 4),.al true,.aS (aO 3 (aZ (.cO (aH aP)) (aO 3 (aZ (.cO (aH dC)) (aZ (cF 2 (.b eO) true) (aO 1 []))))))];
  have aW:=((.b0 h1 I.1 (dJ aH I.2) (dm aH aB) bk.1 (dJ aH bk.2) (dm aH bA) (HU eO ed) (.e1 (bj.b eO))):cA _);
  .ite (fun df =>
  .ret (bK (t1.append [.al false,(ab 3),.bc [] [] (bD [0,1,5])]) (aW.aI (.e1 (c5 df)))))
  (fun df =>
  .ret (bK (t1.append [.al true,(ab 1),.bc [] [] (bD [4])]) (aW.aI (.e1 (c0 df)))))))
  (fun h1 =>
  .ret (bK [(ab 4),.al false,.bc [] [] []] (.e1 h1)))
theorem BH {ap cb:List aQ}{ai:Int}{r} (h:yX ap cb ai=some r):eE bo 27 0 28 [1,1,0,1,0,0] (ye ap cb) (BB ap cb) ai r:=eF (fun _=>Gp) h
def sC (ap cb:List aQ):Option Bool :=
 if ((len_ aH ap) != (len_ aH cb))=true then
  some false
 else
  yX ap cb 0 >>= fun bF =>
  match bF with
  | .inl fS=>(some true)
  | .inr fS=>(some false)
theorem HB {ap cb:List aQ}:bL (sC ap cb) (fun r=>Con bo 28 [.isl 4 (ap.map aH),.isl 4 (cb.map aH)] [] (.b r) []):=by
 unfold sC
 exact .ite (fun h1 =>
  .ret (bJ [(ab 1),(ab 5),.al true,(ab 1)] (.e1 h1)))
  (fun h1 =>
  .aT fun bF aj =>
  (let t1:List cd:=[(ab 1),(ab 5),.al false,(ab 1),.bc [] [] (bD [0,1,5])];
  (by
  rcases bF with fS|fS
  ·exact (.ret (bJ (t1.append [.sub (.exit 0) [] [],(ab 1)]) (.au h1 (BH aj))))
  ·exact (.ret (bJ (t1.append [.sub (.ret) [(4,.b false)] []]) (.au h1 (BH aj)))))))
def sD (ap cb:a2):Option Bool :=
 if (ap.c9 != cb.c9)=true then
  some false
 else
  if (ap.c7 != cb.c7)=true then
   some false
  else
   if (ap.el != cb.el)=true then
    some false
   else
    some true
theorem HC {ap cb:a2}:bL (sD ap cb) (fun r=>Con bo 48 [.agg (aX ap),.agg (aX cb)] [] (.b r) []):=by
 unfold sD
 exact .ite (fun h1 =>
  .ret (bJ [(ab 3),(ab 5),.al true,(ab 1)] (.e1 h1)))
  (fun h1 =>
  (let t1:List cd:=[(ab 3),(ab 5),.al false,(ab 5)];
  .ite (fun I =>
  .ret (bJ (t1.append [.al true,(ab 1)]) (.au h1 I)))
  (fun I =>
  .ite (fun aj =>
  .ret (bJ (t1.append [.al false,(ab 5),.al true,(ab 1)]) (.bB h1 I aj)))
  (fun aj =>
  .ret (bJ (t1.append [.al false,(ab 5),.al false,(ab 1)]) (.bB h1 I aj))))))
def x7 (ap cb:List a2):Int→S:=fun ai=>dP [(0,.isl 3 (ap.map aX)),(1,.isl 3 (cb.map aX)),(5,.n .i64 ai)] []
def BA (ap cb:List a2):((Unit)⊕(Unit))→dT
 | .inl a=>⟨some 0,[],[]⟩
 | .inr a=>⟨none,[(4,.b false)],[]⟩
def ql (ap cb:List a2)(ai:Int):Option ((Int)⊕((Unit)⊕(Unit))) :=
 if (decide (ai<(len_ aX ap)))=true then
  if 0≤ai∧ai<ap.length then
  ap[ai.toNat]? >>= fun aP =>
  if 0≤ai∧ai<cb.length then
  cb[ai.toNat]? >>= fun dC =>
  sD aP dC >>= fun eO =>
  if eO=true then
   some (.inl (ak (ai+(1:Int))))
  else
   some (.inr (.inr ()))
  else none
  else none
 else
  some (.inr (.inl ()))
def yS (ap cb:List a2)(ai:Int):Option ((Unit)⊕(Unit)):=iter (fun w:Int=>ql ap cb w) ai
theorem Gj {ap cb:List a2}{ai:Int}:bL (ql ap cb ai) (eD bo 27 0 29 [1,1,0,1,0,0] (x7 ap cb ai) (x7 ap cb) (BA ap cb)):=by
 unfold ql
 exact .ite (fun h1 =>
  .bx fun I =>
  .aT fun aP aB =>
  .bx fun bk =>
  .aT fun dC bA =>
  .aT fun eO ed =>
  (let t1:List cd:=[(ab 4),.al true,.aS (aO 3 (aZ (.cO (aX aP)) (aO 3 (aZ (.cO (aX dC)) (aZ (cF 2 (.b eO) true) (aO 1 []))))))];
  have aW:=((.b0 h1 I.1 (dJ aX I.2) (dm aX aB) bk.1 (dJ aX bk.2) (dm aX bA) (HC eO ed) (.e1 (bj.b eO))):cA _);
  .ite (fun df =>
  .ret (bK (t1.append [.al false,(ab 3),.bc [] [] (bD [0,1,5])]) (aW.aI (.e1 (c5 df)))))
  (fun df =>
  .ret (bK (t1.append [.al true,(ab 1),.bc [] [] (bD [4])]) (aW.aI (.e1 (c0 df)))))))
  (fun h1 =>
  .ret (bK [(ab 4),.al false,.bc [] [] []] (.e1 h1)))
theorem BC {ap cb:List a2}{ai:Int}{r} (h:yS ap cb ai=some r):eE bo 27 0 29 [1,1,0,1,0,0] (x7 ap cb) (BA ap cb) ai r:=eF (fun _=>Gj) h
def sv (ap cb:List a2):Option Bool :=
 if ((len_ aX ap) != (len_ aX cb))=true then
  some false
 else
  yS ap cb 0 >>= fun bF =>
  match bF with
  | .inl fS=>(some true)
  | .inr fS=>(some false)
theorem Hq {ap cb:List a2}:bL (sv ap cb) (fun r=>Con bo 29 [.isl 3 (ap.map aX),.isl 3 (cb.map aX)] [] (.b r) []):=by
 unfold sv
 exact .ite (fun h1 =>
  .ret (bJ [(ab 1),(ab 5),.al true,(ab 1)] (.e1 h1)))
  (fun h1 =>
  .aT fun bF aj =>
  (let t1:List cd:=[(ab 1),(ab 5),.al false,(ab 1),.bc [] [] (bD [0,1,5])];
  (by
  rcases bF with fS|fS
  ·exact (.ret (bJ (t1.append [.sub (.exit 0) [] [],(ab 1)]) (.au h1 (BC aj))))
  ·exact (.ret (bJ (t1.append [.sub (.ret) [(4,.b false)] []]) (.au h1 (BC aj)))))))
def qH (ap cb:bE):Option Bool :=
 sC ap.a3 cb.a3 >>= fun r1 =>
 if r1=true then
  sv ap.a7 cb.a7 >>= fun br =>
  if br=true then
   some true
  else
   some false
 else
  some false
theorem BI {ap cb:bE}:bL (qH ap cb) (fun r=>Con bo 11 [.agg (fi ap),.agg (fi cb)] [] (.b r) []):=by
 unfold qH
 exact .aT fun r1 I =>
  (let t1:List cd:=[(ab 3),.aS (bM 4 (cF 2 (.b r1) true) 1)];
  have aW:=((.au (HB r1 I) (bj.b r1)):cA _);
  .ite (fun aj =>
  .aT fun br bk =>
  (let t3:List cd:=t1.append [.al false,.aS (bM 4 (cF 2 (.b br) true) 1)];
  have fl:=aW.aI (.bB (c5 aj) (Hq br bk) (bj.b br));
  .ite (fun bq =>
  .ret (bJ (t3.append [.al false,(ab 1)]) (fl.aI (.e1 (c5 bq)))))
  (fun bq =>
  .ret (bJ (t3.append [.al true,(ab 1)]) (fl.aI (.e1 (c0 bq)))))))
  (fun aj =>
  .ret (bJ (t1.append [.al true,(ab 1)]) (aW.aI (.e1 (c0 aj))))))
def ys (ap cb:List (List Int)):Int→S:=fun ai=>dP [(0,.isl 1 (ap.map (eL 1 eI))),(1,.isl 1 (cb.map (eL 1 eI))),(5,.n .i64 ai)] []
def BJ (ap cb:List (List Int)):((Unit)⊕(Unit))→dT
 | .inl a=>⟨some 0,[],[]⟩
 | .inr a=>⟨none,[(4,.b false)],[]⟩
def qx (ap cb:List (List Int))(ai:Int):Option ((Int)⊕((Unit)⊕(Unit))) :=
 if (decide (ai<(len_ (eL 1 eI) ap)))=true then
  if 0≤ai∧ai<ap.length then
  ap[ai.toNat]? >>= fun aP =>
  if 0≤ai∧ai<cb.length then
  cb[ai.toNat]? >>= fun dC =>
  nV aP dC >>= fun eO =>
  if eO=true then
   some (.inl (ak (ai+(1:Int))))
  else
   some (.inr (.inr ()))
  else none
  else none
 else
  some (.inr (.inl ()))
def y6 (ap cb:List (List Int))(ai:Int):Option ((Unit)⊕(Unit)):=iter (fun w:Int=>qx ap cb w) ai
theorem GA {ap cb:List (List Int)}{ai:Int}:bL (qx ap cb ai) (eD bo 27 0 12 [1,1,0,1,0,0] (ys ap cb ai) (ys ap cb) (BJ ap cb)):=by
 unfold qx
 exact .ite (fun h1 =>
  .bx fun I =>
  .aT fun aP aB =>
  .bx fun bk =>
  .aT fun dC bA =>
  .aT fun eO ed =>
  (let t1:List cd:=[(ab 4),.al true,.aS (aO 3 (aZ (.cO ((eL 1 eI) aP)) (aO 3 (aZ (.cO ((eL 1 eI) dC)) (aZ (cF 2 (.b eO) true) (aO 1 []))))))];
  have aW:=((.b0 h1 I.1 (dJ (eL 1 eI) I.2) (dm (eL 1 eI) aB) bk.1 (dJ (eL 1 eI) bk.2) (dm (eL 1 eI) bA) (u9 eO ed) (.e1 (bj.b eO))):cA _);
  .ite (fun df =>
  .ret (bK (t1.append [.al false,(ab 3),.bc [] [] (bD [0,1,5])]) (aW.aI (.e1 (c5 df)))))
  (fun df =>
  .ret (bK (t1.append [.al true,(ab 1),.bc [] [] (bD [4])]) (aW.aI (.e1 (c0 df)))))))
  (fun h1 =>
  .ret (bK [(ab 4),.al false,.bc [] [] []] (.e1 h1)))
theorem BT {ap cb:List (List Int)}{ai:Int}{r} (h:y6 ap cb ai=some r):eE bo 27 0 12 [1,1,0,1,0,0] (ys ap cb) (BJ ap cb) ai r:=eF (fun _=>GA) h
def qQ (ap cb:List (List Int)):Option Bool :=
 if ((len_ (eL 1 eI) ap) != (len_ (eL 1 eI) cb))=true then
  some false
 else
  y6 ap cb 0 >>= fun bF =>
  match bF with
  | .inl fS=>(some true)
  | .inr fS=>(some false)
theorem B4 {ap cb:List (List Int)}:bL (qQ ap cb) (fun r=>Con bo 12 [.isl 1 (ap.map (eL 1 eI)),.isl 1 (cb.map (eL 1 eI))] [] (.b r) []):=by
 unfold qQ
 exact .ite (fun h1 =>
  .ret (bJ [(ab 1),(ab 5),.al true,(ab 1)] (.e1 h1)))
  (fun h1 =>
  .aT fun bF aj =>
  (let t1:List cd:=[(ab 1),(ab 5),.al false,(ab 1),.bc [] [] (bD [0,1,5])];
  (by
  rcases bF with fS|fS
  ·exact (.ret (bJ (t1.append [.sub (.exit 0) [] [],(ab 1)]) (.au h1 (BT aj))))
  ·exact (.ret (bJ (t1.append [.sub (.ret) [(4,.b false)] []]) (.au h1 (BT aj)))))))
def yf:(Int×ByteArray)→S:=fun (a0,lv)=>dP [(0,.n .i64 a0),(3,.s lv)] []
def yt:ByteArray→dT
 | a=>⟨some 0,[(3,.s a)],[]⟩
def qp (a0:Int)(lv:ByteArray):Option ((Int×ByteArray)⊕(ByteArray)) :=
 if (decide ((0:Int)<a0))=true then
  if (mZ [(IntKind.wrap .u8 (ak ((48:Int)+(a0.tmod (10:Int)))))]).size+lv.size<9223372036854775808 then
  some (.inl (ak (a0.tdiv (10:Int)),(mZ [(IntKind.wrap .u8 (ak ((48:Int)+(a0.tmod (10:Int)))))])++lv))
  else none
 else
  some (.inr lv)
def yY (a0:Int)(lv:ByteArray):Option (ByteArray):=iter (fun w:Int×ByteArray=>qp w.1 w.2) (a0,lv)
theorem Gq {a0:Int}{lv:ByteArray}:bL (qp a0 lv) (eD bo 20 0 49 [1,1,1,0,0,0] (yf (a0,lv)) (yf) (yt)):=by
 unfold qp
 exact .ite (fun h1 =>
  .bx fun I =>
  .ret (bK [(ab 2),.al true,(ab 9),(ab 3),.bc [] [] (bD [0,3])] (.dk h1 (by decide:(10:Int)≠0) I (by decide:(10:Int)≠0))))
  (fun h1 =>
  .ret (bK [(ab 2),.al false,.bc [] [] (bD [3])] (.e1 h1)))
theorem Ha {a0:Int}{lv:ByteArray}{r} (h:yY a0 lv=some r):eE bo 20 0 49 [1,1,1,0,0,0] (yf) (yt) (a0,lv) r:=eF (fun _=>Gq) h
def sE (a0:Int):Option ByteArray :=
 if (decide (a0≤(0:Int)))=true then
  some (⟨#[109,48]⟩:ByteArray)
 else
  yY a0 (⟨#[]⟩:ByteArray) >>= fun bF =>
  if (⟨#[109]⟩:ByteArray).size+bF.size<9223372036854775808 then
  some ((⟨#[109]⟩:ByteArray)++bF)
  else none
theorem HD {a0:Int}:bL (sE a0) (fun r=>Con bo 49 [.n .i64 a0] [] (.s r) []):=by
 unfold sE
 exact .ite (fun h1 =>
  .ret (bJ [(ab 1),(ab 2),.al true,(ab 1)] (.e1 h1)))
  (fun h1 =>
  .aT fun bF aj =>
  .bx fun aB =>
  .ret (bJ [(ab 1),(ab 2),.al false,(ab 1),.bc [] [] (bD [0,3]),(yt bF).gF,(ab 3)] (.bB h1 (Ha aj) aB)))
def xy:(Int×Int×(List aQ))→S:=fun (a0,ai,ay)=>dP [(0,.a6 0 0 0 ay.length),(1,.n .i64 a0),(5,.n .i64 ai)] [(bf 4 aH ay)]
def xE:(Int×(List aQ))→dT
 | a=>⟨some 0,[(1,.n .i64 a.1)],[(bf 4 aH a.2)]⟩
def oy (a0 ai:Int)(ay:List aQ):Option ((Int×Int×(List aQ))⊕(Int×(List aQ))) :=
 if (decide (ai<((ay.length:Nat):Int)))=true then
  sE a0 >>= fun bF =>
  if 0≤ai∧ai<(ay.length:Nat) then
  ay[(0+ai.toNat)]? >>= fun cZ =>
  (ay.set (0+ai.toNat) (⟨bF,cZ.dQ,cZ.dO,cZ.ev⟩:aQ))[(0+ai.toNat)]? >>= fun ec =>
  ((ay.set (0+ai.toNat) (⟨bF,cZ.dQ,cZ.dO,cZ.ev⟩:aQ)).set (0+ai.toNat) (⟨ec.eP,ak (a0+(1:Int)),ec.dO,ec.ev⟩:aQ))[(0+ai.toNat)]? >>= fun ee =>
  (((ay.set (0+ai.toNat) (⟨bF,cZ.dQ,cZ.dO,cZ.ev⟩:aQ)).set (0+ai.toNat) (⟨ec.eP,ak (a0+(1:Int)),ec.dO,ec.ev⟩:aQ)).set (0+ai.toNat) (⟨ee.eP,ee.dQ,ak ((ak (a0+(1:Int)))+(1:Int)),ee.ev⟩:aQ))[(0+ai.toNat)]? >>= fun gC =>
  some (.inl (ak ((ak ((ak ((ak (a0+(1:Int)))+(1:Int)))+(1:Int)))+(1:Int)),ak (ai+(1:Int)),(((ay.set (0+ai.toNat) (⟨bF,cZ.dQ,cZ.dO,cZ.ev⟩:aQ)).set (0+ai.toNat) (⟨ec.eP,ak (a0+(1:Int)),ec.dO,ec.ev⟩:aQ)).set (0+ai.toNat) (⟨ee.eP,ee.dQ,ak ((ak (a0+(1:Int)))+(1:Int)),ee.ev⟩:aQ)).set (0+ai.toNat) (⟨gC.eP,gC.dQ,gC.dO,(((ak ((ak ((ak (a0+(1:Int)))+(1:Int)))+(1:Int))).tmod (3:Int)) == (0:Int))⟩:aQ)))
  else none
 else
  some (.inr (a0,ay))
def yu (a0 ai:Int)(ay:List aQ):Option (Int×(List aQ)):=iter (fun w:Int×Int×(List aQ)=>oy w.1 w.2.1 w.2.2) (a0,ai,ay)
theorem FY {a0 ai:Int}{ay:List aQ}:bL (oy a0 ai ay) (eD bo 44 1 30 [1,0,1,0,0] (xy (a0,ai,ay)) (xy) (xE)):=by
 unfold oy
 exact .ite (fun h1 =>
  .aT fun bF aj =>
  .bx fun aB =>
  .aT fun cZ bq =>
  .aT fun ec cC =>
  .aT fun ee df =>
  .aT fun gC la =>
  .ret (let dr:=(o2 (d3 aH ay) (0+ai.toNat) (⟨bF,cZ.dQ,cZ.dO,cZ.ev⟩:aQ) (rfl:(setCells (aH cZ) 0 [.s bF])=aH (⟨bF,cZ.dQ,cZ.dO,cZ.ev⟩:aQ)));let d7:=(ak (a0+(1:Int)));let q1:=(o2 dr (0+ai.toNat) (⟨ec.eP,ak (a0+(1:Int)),ec.dO,ec.ev⟩:aQ) (rfl:(setCells (aH ec) 1 [.n .i64 d7])=aH (⟨ec.eP,ak (a0+(1:Int)),ec.dO,ec.ev⟩:aQ)));let bu:=(o2 q1 (0+ai.toNat) (⟨ee.eP,ee.dQ,ak (d7+(1:Int)),ee.ev⟩:aQ) (rfl:(setCells (aH ee) 2 [.n .i64 (ak (d7+(1:Int)))])=aH (⟨ee.eP,ee.dQ,ak (d7+(1:Int)),ee.ev⟩:aQ)));let cr:=(ak ((ak (d7+(1:Int)))+(1:Int)));bK [(ab 4),.al true,.aS (aO 3 (aZ (cF 1 (.s bF) true) (aO 1 (aZ (.cO (aH cZ)) (aZ (.cO (aH cZ)) []))))),(ab 3),.aS (aO 4 (aZ (.cO (aH ec)) (aZ (.cO (aH ec)) []))),(ab 3),.aS (aO 4 (aZ (.cO (aH ee)) (aZ (.cO (aH ee)) []))),(ab 3),.aS (aO 6 (aZ (.cO (aH gC)) (aZ (.cO (aH gC)) []))),(ab 3),(ab 3),.bc [0] [.dd (bf 4 aH ((((ay.set (0+ai.toNat) (⟨bF,cZ.dQ,cZ.dO,cZ.ev⟩:aQ)).set (0+ai.toNat) (⟨ec.eP,ak (a0+(1:Int)),ec.dO,ec.ev⟩:aQ)).set (0+ai.toNat) (⟨ee.eP,ee.dQ,ak (d7+(1:Int)),ee.ev⟩:aQ)).set (0+ai.toNat) (⟨gC.eP,gC.dQ,gC.dO,((cr.tmod (3:Int)) == (0:Int))⟩:aQ)))] [(0,hv (((((ay.set (0+ai.toNat) (⟨bF,cZ.dQ,cZ.dO,cZ.ev⟩:aQ)).set (0+ai.toNat) (⟨ec.eP,ak (a0+(1:Int)),ec.dO,ec.ev⟩:aQ)).set (0+ai.toNat) (⟨ee.eP,ee.dQ,ak (d7+(1:Int)),ee.ev⟩:aQ)).set (0+ai.toNat) (⟨gC.eP,gC.dQ,gC.dO,((cr.tmod (3:Int)) == (0:Int))⟩:aQ)).length)),(1,ii),(5,ii)]] (.b0 h1 (HD bF aj) (bj.s bF) aB.1 aB.2 (dm aH bq) (dm aH bq) aB.1 (.b0 aB.2 (mU dr cC) (mU dr cC) aB.1 aB.2 (mU q1 df) (mU q1 df) (by decide:(3:Int)≠0) (.hS aB.1 aB.2 (mU bu la) (mU bu la) (d4 4 .live (o2 bu (0+ai.toNat) (⟨gC.eP,gC.dQ,gC.dO,((cr.tmod (3:Int)) == (0:Int))⟩:aQ) (rfl:(setCells (aH gC) 3 [.b ((cr.tmod (3:Int)) == (0:Int))])=aH (⟨gC.eP,gC.dQ,gC.dO,((cr.tmod (3:Int)) == (0:Int))⟩:aQ)))) (bs 4 .live hn ((((ay.set (0+ai.toNat) (⟨bF,cZ.dQ,cZ.dO,cZ.ev⟩:aQ)).set (0+ai.toNat) (⟨ec.eP,ak (a0+(1:Int)),ec.dO,ec.ev⟩:aQ)).set (0+ai.toNat) (⟨ee.eP,ee.dQ,ak (d7+(1:Int)),ee.ev⟩:aQ)).set (0+ai.toNat) (⟨gC.eP,gC.dQ,gC.dO,((cr.tmod (3:Int)) == (0:Int))⟩:aQ))) (ic (ic (ic (ic (dD ay) (0+ai.toNat) (⟨bF,cZ.dQ,cZ.dO,cZ.ev⟩:aQ)) (0+ai.toNat) (⟨ec.eP,ak (a0+(1:Int)),ec.dO,ec.ev⟩:aQ)) (0+ai.toNat) (⟨ee.eP,ee.dQ,ak (d7+(1:Int)),ee.ev⟩:aQ)) (0+ai.toNat) (⟨gC.eP,gC.dQ,gC.dO,((cr.tmod (3:Int)) == (0:Int))⟩:aQ)))))))
  (fun h1 =>
  .ret (bK [(ab 4),.al false,.bc [0] [.pure] (bD [1])] (.au h1 (bs 4 .live hn ay))))
theorem GB {a0 ai:Int}{ay:List aQ}{r} (h:yu a0 ai ay=some r):eE bo 44 1 30 [1,0,1,0,0] (xy) (xE) (a0,ai,ay) r:=eF (fun _=>FY) h
def si (a0:Int)(ff:List aQ):Option (Int×(List aQ)) :=
 yu a0 0 ff >>= fun r1 =>
 some (r1.1,r1.2)
theorem G0 {a0:Int}{ff:List aQ}:bL (si a0 ff) (fun a=>Con bo 30 [.a6 0 0 0 ff.length,.n .i64 a0] [(bf 4 aH ff)] (.n .i64 a.1) [(bf 4 aH a.2)]):=by
 unfold si
 exact .aT fun r1 I =>
  .ret (jH [(ab 1),(ab 1),.bc [0] [.pure] (bD [0,1,5]),(xE r1).gF,(ab 2)] [0] [.pure] (.bB (bs 4 .live hn ff) (GB I) (bs 4 .live hn r1.2)))
def xw:(Int×Int×(List a2))→S:=fun (a0,ai,ay)=>dP [(0,.a6 0 0 0 ay.length),(1,.n .i64 a0),(5,.n .i64 ai)] [(bf 3 aX ay)]
def xz:(Int×(List a2))→dT
 | a=>⟨some 0,[(1,.n .i64 a.1)],[(bf 3 aX a.2)]⟩
def ow (a0 ai:Int)(ay:List a2):Option ((Int×Int×(List a2))⊕(Int×(List a2))) :=
 if (decide (ai<((ay.length:Nat):Int)))=true then
  if 0≤ai∧ai<(ay.length:Nat) then
  ay[(0+ai.toNat)]? >>= fun aP =>
  (ay.set (0+ai.toNat) (⟨a0,aP.c7,aP.el⟩:a2))[(0+ai.toNat)]? >>= fun cZ =>
  ((ay.set (0+ai.toNat) (⟨a0,aP.c7,aP.el⟩:a2)).set (0+ai.toNat) (⟨cZ.c9,ak (a0+(1:Int)),cZ.el⟩:a2))[(0+ai.toNat)]? >>= fun ec =>
  some (.inl (ak ((ak ((ak (a0+(1:Int)))+(1:Int)))+(1:Int)),ak (ai+(1:Int)),((ay.set (0+ai.toNat) (⟨a0,aP.c7,aP.el⟩:a2)).set (0+ai.toNat) (⟨cZ.c9,ak (a0+(1:Int)),cZ.el⟩:a2)).set (0+ai.toNat) (⟨ec.c9,ec.c7,ak ((ak (a0+(1:Int)))+(1:Int))⟩:a2)))
  else none
 else
  some (.inr (a0,ay))
def yg (a0 ai:Int)(ay:List a2):Option (Int×(List a2)):=iter (fun w:Int×Int×(List a2)=>ow w.1 w.2.1 w.2.2) (a0,ai,ay)
theorem FW {a0 ai:Int}{ay:List a2}:bL (ow a0 ai ay) (eD bo 34 1 31 [1,0,1,0,0] (xw (a0,ai,ay)) (xw) (xz)):=by
 unfold ow
 exact .ite (fun h1 =>
  .bx fun I =>
  .aT fun aP aB =>
  .aT fun cZ bq =>
  .aT fun ec cC =>
  .ret (let bu:=(o2 (d3 aX ay) (0+ai.toNat) (⟨a0,aP.c7,aP.el⟩:a2) (rfl:(setCells (aX aP) 0 [.n .i64 a0])=aX (⟨a0,aP.c7,aP.el⟩:a2)));let cr:=(ak (a0+(1:Int)));let q1:=(o2 bu (0+ai.toNat) (⟨cZ.c9,ak (a0+(1:Int)),cZ.el⟩:a2) (rfl:(setCells (aX cZ) 1 [.n .i64 cr])=aX (⟨cZ.c9,ak (a0+(1:Int)),cZ.el⟩:a2)));bK [(ab 4),.al true,.aS (aO 4 (aZ (.cO (aX aP)) (aZ (.cO (aX aP)) []))),(ab 3),.aS (aO 4 (aZ (.cO (aX cZ)) (aZ (.cO (aX cZ)) []))),(ab 3),.aS (aO 4 (aZ (.cO (aX ec)) (aZ (.cO (aX ec)) []))),(ab 3),(ab 3),.bc [0] [.dd (bf 3 aX (((ay.set (0+ai.toNat) (⟨a0,aP.c7,aP.el⟩:a2)).set (0+ai.toNat) (⟨cZ.c9,ak (a0+(1:Int)),cZ.el⟩:a2)).set (0+ai.toNat) (⟨ec.c9,ec.c7,ak (cr+(1:Int))⟩:a2)))] [(0,hv ((((ay.set (0+ai.toNat) (⟨a0,aP.c7,aP.el⟩:a2)).set (0+ai.toNat) (⟨cZ.c9,ak (a0+(1:Int)),cZ.el⟩:a2)).set (0+ai.toNat) (⟨ec.c9,ec.c7,ak (cr+(1:Int))⟩:a2)).length)),(1,ii),(5,ii)]] (.b0 h1 I.1 I.2 (dm aX aB) (dm aX aB) I.1 I.2 (mU bu bq) (.hT (mU bu bq) I.1 I.2 (mU q1 cC) (mU q1 cC) (d4 3 .live (o2 q1 (0+ai.toNat) (⟨ec.c9,ec.c7,ak (cr+(1:Int))⟩:a2) (rfl:(setCells (aX ec) 2 [.n .i64 (ak (cr+(1:Int)))])=aX (⟨ec.c9,ec.c7,ak (cr+(1:Int))⟩:a2)))) (bs 3 .live hl (((ay.set (0+ai.toNat) (⟨a0,aP.c7,aP.el⟩:a2)).set (0+ai.toNat) (⟨cZ.c9,ak (a0+(1:Int)),cZ.el⟩:a2)).set (0+ai.toNat) (⟨ec.c9,ec.c7,ak (cr+(1:Int))⟩:a2))) (ic (ic (ic (dD ay) (0+ai.toNat) (⟨a0,aP.c7,aP.el⟩:a2)) (0+ai.toNat) (⟨cZ.c9,ak (a0+(1:Int)),cZ.el⟩:a2)) (0+ai.toNat) (⟨ec.c9,ec.c7,ak (cr+(1:Int))⟩:a2))))))
  (fun h1 =>
  .ret (bK [(ab 4),.al false,.bc [0] [.pure] (bD [1])] (.au h1 (bs 3 .live hl ay))))
theorem Gr {a0 ai:Int}{ay:List a2}{r} (h:yg a0 ai ay=some r):eE bo 34 1 31 [1,0,1,0,0] (xw) (xz) (a0,ai,ay) r:=eF (fun _=>FW) h
def sf (a0:Int)(ff:List a2):Option (Int×(List a2)) :=
 yg a0 0 ff >>= fun r1 =>
 some (r1.1,r1.2)
theorem GV {a0:Int}{ff:List a2}:bL (sf a0 ff) (fun a=>Con bo 31 [.a6 0 0 0 ff.length,.n .i64 a0] [(bf 3 aX ff)] (.n .i64 a.1) [(bf 3 aX a.2)]):=by
 unfold sf
 exact .aT fun r1 I =>
  .ret (jH [(ab 1),(ab 1),.bc [0] [.pure] (bD [0,1,5]),(xz r1).gF,(ab 2)] [0] [.pure] (.bB (bs 3 .live hl ff) (Gr I) (bs 3 .live hl r1.2)))
def qy (a0:Int)(ff:List aQ)(kY:List a2):Option (Int×(List aQ)×(List a2)) :=
 si a0 ff >>= fun r1 =>
 if ff.length=r1.2.length then
 sf r1.1 kY >>= fun br =>
 if kY.length=br.2.length then
 some (br.1,r1.2,br.2)
 else none
 else none
theorem Bt {a0:Int}{ff:List aQ}{kY:List a2}:bL (qy a0 ff kY) (fun a=>Con bo 13 [.agg [.a6 0 0 0 ff.length,.a6 1 0 0 kY.length],.n .i64 a0] [(bf 4 aH ff),(bf 3 aX kY)] (.n .i64 a.1) [(bf 4 aH a.2.1),(bf 3 aX a.2.2)]):=by
 unfold qy
 exact .aT fun r1 I =>
  .bx fun aj =>
  .aT fun br bk =>
  .bx fun bq =>
  .ret (jH [(ab 2),.aS (bM 3 (.call {ar:=[.row 0],b5:=[.pure],ac:=[ii,ii],r:= .n .i64 r1.1,cY:=[(bf 4 aH r1.2)],eC:=ii,fo:=[.pure],eg:=[0],eb:=false}) 1),.aS (bM 3 (.call {ar:=[.row 1],b5:=[.pure],ac:=[ii,ii],r:= .n .i64 br.1,cY:=[(bf 3 aX br.2)],eC:=ii,fo:=[.pure],eg:=[1],eb:=false}) 1),(ab 2)] [0,1] [.pure,.pure] (.hT (g5 4 hn ff) (g5 4 hn r1.2) (G0 r1 I) (g5 3 hl kY) (g5 3 hl br.2) (GV br bk) (bs 4 .live hn r1.2) (bs 3 .live hl br.2)))
def yh (ap:List Int)(a0:Int):Unit→S:=fun _=>dP [(0,.isl 1 (ap.map eI)),(1,.n .i64 a0),(5,.n .i64 (0:Int))] []
def BD (ap:List Int)(a0:Int):Unit→dT
 | a=>⟨some 0,[(1,.n .i64 a0)],[]⟩
def uV (ap:List Int)(a0:Int):Option ((Unit)⊕(Unit)) :=
 if (decide ((0:Int)<(len_ eI ap)))=true then
  if 0≤(0:Int)∧(0:Int)<ap.length then
  none
  else none
 else
  some (.inr ())
def u2 (ap:List Int)(a0:Int):Option (Unit):=iter (fun w:Unit=>uV ap a0) ()
theorem Gs {ap:List Int}{a0:Int}:bL (uV ap a0) (eD bo 19 0 32 [1,0,1,0,0] (yh ap a0 ()) (yh ap a0) (BD ap a0)):=by
 unfold uV
 exact .ite (fun h1 =>
  .bx fun I =>
  .MW)
  (fun h1 =>
  .ret (bK [(ab 4),.al false,.bc [] [] (bD [1])] (.e1 h1)))
theorem Hb {ap:List Int}{a0:Int}{r} (h:u2 ap a0=some r):eE bo 19 0 32 [1,0,1,0,0] (yh ap a0) (BD ap a0) () r:=eF (fun _=>Gs) h
def mP (ap:List Int)(a0:Int):Option Int :=
 u2 ap a0 >>= fun r1 =>
 some a0
theorem u3 {ap:List Int}{a0:Int}:bL (mP ap a0) (fun r=>Con bo 32 [.isl 1 (ap.map eI),.n .i64 a0] [] (.n .i64 r) []):=by
 unfold mP
 exact .aT fun r1 I =>
  .ret (bJ [(ab 1),(ab 1),.bc [] [] (bD [0,1,5]),.sub (.exit 0) [(1,.n .i64 a0)] [],(ab 2)] (.e1 (Hb I)))
def xT (hM iy:Nat):(Int×Int×(List Int))→S:=fun (a0,ai,ay)=>dP [(0,.a6 0 0 hM iy),(1,.n .i64 a0),(5,.n .i64 ai)] [(bf 1 eI ay)]
def x8 (hM iy:Nat):(Int×(List Int))→dT
 | a=>⟨some 0,[(1,.n .i64 a.1)],[(bf 1 eI a.2)]⟩
def qi (hM iy:Nat)(a0 ai:Int)(ay:List Int):Option ((Int×Int×(List Int))⊕(Int×(List Int))) :=
 if (decide (ai<((iy:Nat):Int)))=true then
  if 0≤ai∧ai<(iy:Nat) then
  if (hM+ai.toNat)<ay.length then
  some (.inl (ak (a0+(1:Int)),ak (ai+(1:Int)),ay.set (hM+ai.toNat) a0))
  else none
  else none
 else
  some (.inr (a0,ay))
def yO (hM iy:Nat)(a0 ai:Int)(ay:List Int):Option (Int×(List Int)):=iter (fun w:Int×Int×(List Int)=>qi hM iy w.1 w.2.1 w.2.2) (a0,ai,ay)
theorem Gg {hM iy:Nat}{a0 ai:Int}{ay:List Int}:bL (qi hM iy a0 ai ay) (eD bo 19 1 32 [1,0,1,0,0] (xT hM iy (a0,ai,ay)) (xT hM iy) (x8 hM iy)):=by
 unfold qi
 exact .ite (fun h1 =>
  .bx fun I =>
  .bx fun aj =>
  .ret (bK [(ab 4),.al true,.aS (aO 4 (aZ .gE [])),(ab 3),(ab 3),.bc [0] [.dd (bf 1 eI (ay.set (hM+ai.toNat) a0))] (bD [0,1,5])] (.hS h1 I.1 I.2 (ky eI aj) (kb 1) (d4 1 .live (jy (d3 eI ay) (hM+ai.toNat) a0)) (bs 1 .live ba (ay.set (hM+ai.toNat) a0)))))
  (fun h1 =>
  .ret (bK [(ab 4),.al false,.bc [0] [.pure] (bD [1])] (.au h1 (bs 1 .live ba ay))))
theorem GW {hM iy:Nat}{a0 ai:Int}{ay:List Int}{r} (h:yO hM iy a0 ai ay=some r):eE bo 19 1 32 [1,0,1,0,0] (xT hM iy) (x8 hM iy) (a0,ai,ay) r:=eF (fun _=>Gg) h
def oK (a0:Int)(hM iy:Nat)(ff:List Int):Option (Int×(List Int)) :=
 yO hM iy a0 0 ff >>= fun r1 =>
 some (r1.1,r1.2)
theorem Hm {a0:Int}{hM iy:Nat}{ff:List Int}:bL (oK a0 hM iy ff) (fun a=>Con bo 32 [.a6 0 0 hM iy,.n .i64 a0] [(bf 1 eI ff)] (.n .i64 a.1) [(bf 1 eI a.2)]):=by
 unfold oK
 exact .aT fun r1 I =>
  .ret (jH [(ab 1),(ab 1),.bc [0] [.pure] (bD [0,1,5]),(x8 hM iy r1).gF,(ab 2)] [0] [.pure] (.bB (bs 1 .live ba ff) (GW I) (bs 1 .live ba r1.2)))
def xF (eS:List eJ):(Int×Int×(List (List Int)))→S:=fun (a0,ai,ex)=>dP [(0,.a6 0 0 0 eS.length),(1,.n .i64 a0),(5,.n .i64 ai)] [(U.mk 1 (eS.map (ca 0 1 1)) .live::(hB 1 eI ex))]
def xU (eS:List eJ):(Int×(List (List Int)))→dT
 | a=>⟨some 0,[(1,.n .i64 a.1)],[(U.mk 1 (eS.map (ca 0 1 1)) .live::(hB 1 eI a.2))]⟩
def oA (eS:List eJ)(a0 ai:Int)(ex:List (List Int)):Option ((Int×Int×(List (List Int)))⊕(Int×(List (List Int)))) :=
 if (decide (ai<((eS.length:Nat):Int)))=true then
  if 0≤ai∧ai<(eS.length:Nat) then
  eS[(0+ai.toNat)]? >>= fun aP =>
  aP.elim
  (mP ([]:List Int) a0 >>= fun aD =>
    some (.inl (aD,ak (ai+(1:Int)),ex)))
  fun jO =>
  ex[jO.1]? >>= fun pV =>
  oK a0 0 jO.2 pV >>= fun aV =>
  some (.inl (aV.1,ak (ai+(1:Int)),ex.set jO.1 aV.2))
  else none
 else
  some (.inr (a0,ex))
def yG (eS:List eJ)(a0 ai:Int)(ex:List (List Int)):Option (Int×(List (List Int))):=iter (fun w:Int×Int×(List (List Int))=>oA eS w.1 w.2.1 w.2.2) (a0,ai,ex)
theorem F4 {eS:List eJ}{a0 ai:Int}{ex:List (List Int)}:bL (oA eS a0 ai ex) (eD bo 19 1 14 [1,0,1,0,0] (xF eS (a0,ai,ex)) (xF eS) (xU eS)):=by
 unfold oA
 exact .ite (fun h1 =>
  .bx fun I =>
  .aT fun aP aB =>
  (have bC:=((.dk h1 I.1 I.2 (dm (ca 0 1 1) aB)):cA _);
  .AK (fun bk =>
  .aT fun aD cC =>
  .ret (bK [(ab 4),.al true,.aS (aO 3 (aZ (.cO ((ca 0 1 1) aP)) (bM 1 (.pG 15 (.isl 1 []) (cF 2 (.n .i64 aD) true)) 1))),(ab 3),.bc [0] [.dZ (U.mk 1 (eS.map (ca 0 1 1)) .live::(hB 1 eI ex))] (bD [0,1,5])] (bC.aI (.dk (Kw (cI:=0) (c:=1) (sz:=1) bk) (u3 aD cC) (bj.n .i64 aD) (cE (kc (d9 [0]) 0 0 1 1 rfl eS) (kA (d9 [0]) 1 dc ex))))))
  (fun jO bk =>
  .aT fun pV cC =>
  .aT fun aV df =>
  .ret (bK [(ab 4),.al true,.aS (aO 3 (aZ (.cO ((ca 0 1 1) aP)) (bM 1 (.pG 15 (.a6 0 (jO.1+1) 0 jO.2) (.call {ar:=[.R 0 (jO.1+1) (U.mk 1 (pV.map eI) .live)],b5:=[.pure],ac:=[.bS (.d6 (.at_ 0 0 jO.2)),ii],r:= .n .i64 aV.1,cY:=[(bf 1 eI aV.2)],eC:=ii,fo:=[.pure],eg:=[0],eb:=false})) 1))),(ab 3),.bc [0] [.dZ (U.mk 1 (eS.map (ca 0 1 1)) .live::(hB 1 eI (ex.set jO.1 aV.2)))] (bD [0,1,5])] (bC.aI (.hT (Kx (cI:=0) (c:=1) (sz:=1) bk) (rfl:ha [.R 0 (jO.1+1) (U.mk 1 (pV.map eI) .live)] 0 0=some (0,(jO.1+1))) (rfl:jO.2=jO.2) (D7 (h9 .live 1 eI ex) oq cC) (g5 1 ba pV) (g5 1 ba aV.2) (Hm aV df) (cE (kc (d9 [0]) 0 0 1 1 rfl eS) (vN (bn:=(d9 [0])) (K1 (h9 .live 1 eI ex) jO.1 (d3 eI aV.2)) (nw dc)))))))))
  (fun h1 =>
  .ret (bK [(ab 4),.al false,.bc [0] [.dZ (U.mk 1 (eS.map (ca 0 1 1)) .live::(hB 1 eI ex))] (bD [1])] (.au h1 (cE (kc (d9 [0]) 0 0 1 1 rfl eS) (kA (d9 [0]) 1 dc ex)))))
theorem GI {eS:List eJ}{a0 ai:Int}{ex:List (List Int)}{r} (h:yG eS a0 ai ex=some r):eE bo 19 1 14 [1,0,1,0,0] (xF eS) (xU eS) (a0,ai,ex) r:=eF (fun _=>F4) h
def qI (a0:Int)(mY:List eJ)(rQ:List (List Int)):Option (Int×(List (List Int))) :=
 yG mY a0 0 rQ >>= fun r1 =>
 some (r1.1,r1.2)
theorem BK {a0:Int}{mY:List eJ}{rQ:List (List Int)}:bL (qI a0 mY rQ) (fun a=>Con bo 14 [.a6 0 0 0 mY.length,.n .i64 a0] [(U.mk 1 (mY.map (ca 0 1 1)) .live::(hB 1 eI rQ))] (.n .i64 a.1) [(U.mk 1 (mY.map (ca 0 1 1)) .live::(hB 1 eI a.2))]):=by
 unfold qI
 exact .aT fun r1 I =>
  .ret (let q1:=kc (d9 [0]) 0 0 1 1 rfl mY;jH [(ab 1),(ab 1),.bc [0] [.dZ (U.mk 1 (mY.map (ca 0 1 1)) .live::(hB 1 eI rQ))] (bD [0,1,5]),(xU mY r1).gF,(ab 2)] [0] [.dZ (U.mk 1 (mY.map (ca 0 1 1)) .live::(hB 1 eI r1.2))] (.bB (cE q1 (kA (d9 [0]) 1 dc rQ)) (GI I) (cE q1 (kA (d9 [0]) 1 dc r1.2))))
def xG:(Int×Int×(List Int))→S:=fun (a0,ai,ay)=>dP [(0,.a6 0 0 0 ay.length),(1,.n .i64 a0),(5,.n .i64 ai)] [(bf 1 eI ay)]
def xV:(Int×(List Int))→dT
 | a=>⟨some 0,[(1,.n .i64 a.1)],[(bf 1 eI a.2)]⟩
def p9 (a0 ai:Int)(ay:List Int):Option ((Int×Int×(List Int))⊕(Int×(List Int))) :=
 if (decide (ai<((ay.length:Nat):Int)))=true then
  if 0≤ai∧ai<(ay.length:Nat) then
  if (0+ai.toNat)<ay.length then
  some (.inl (ak (a0+(1:Int)),ak (ai+(1:Int)),ay.set (0+ai.toNat) a0))
  else none
  else none
 else
  some (.inr (a0,ay))
def yH (a0 ai:Int)(ay:List Int):Option (Int×(List Int)):=iter (fun w:Int×Int×(List Int)=>p9 w.1 w.2.1 w.2.2) (a0,ai,ay)
theorem F5 {a0 ai:Int}{ay:List Int}:bL (p9 a0 ai ay) (eD bo 19 1 32 [1,0,1,0,0] (xG (a0,ai,ay)) (xG) (xV)):=by
 unfold p9
 exact .ite (fun h1 =>
  .bx fun I =>
  .bx fun aj =>
  .ret (bK [(ab 4),.al true,.aS (aO 4 (aZ .gE [])),(ab 3),(ab 3),.bc [0] [.dd (bf 1 eI (ay.set (0+ai.toNat) a0))] [(0,hv ((ay.set (0+ai.toNat) a0).length)),(1,ii),(5,ii)]] (.hT h1 I.1 I.2 (ky eI aj) (kb 1) (d4 1 .live (jy (d3 eI ay) (0+ai.toNat) a0)) (bs 1 .live ba (ay.set (0+ai.toNat) a0)) (ic (dD ay) (0+ai.toNat) a0))))
  (fun h1 =>
  .ret (bK [(ab 4),.al false,.bc [0] [.pure] (bD [1])] (.au h1 (bs 1 .live ba ay))))
theorem GJ {a0 ai:Int}{ay:List Int}{r} (h:yH a0 ai ay=some r):eE bo 19 1 32 [1,0,1,0,0] (xG) (xV) (a0,ai,ay) r:=eF (fun _=>F5) h
def oH (a0:Int)(ff:List Int):Option (Int×(List Int)) :=
 yH a0 0 ff >>= fun r1 =>
 some (r1.1,r1.2)
theorem yI {a0:Int}{ff:List Int}:bL (oH a0 ff) (fun a=>Con bo 32 [.a6 0 0 0 ff.length,.n .i64 a0] [(bf 1 eI ff)] (.n .i64 a.1) [(bf 1 eI a.2)]):=by
 unfold oH
 exact .aT fun r1 I =>
  .ret (jH [(ab 1),(ab 1),.bc [0] [.pure] (bD [0,1,5]),(xV r1).gF,(ab 2)] [0] [.pure] (.bB (bs 1 .live ba ff) (GJ I) (bs 1 .live ba r1.2)))
def sg (a0 po pg:Int)(ff kY pB:List Int):Option (Int×(List Int)×(List Int)×(List Int)) :=
 oH a0 ff >>= fun r1 =>
 if ff.length=r1.2.length then
 oH r1.1 kY >>= fun br =>
 if kY.length=br.2.length then
 oH br.1 pB >>= fun aD =>
 if pB.length=aD.2.length then
 some (aD.1,r1.2,br.2,aD.2)
 else none
 else none
 else none
theorem GX {a0 po pg:Int}{ff kY pB:List Int}:bL (sg a0 po pg ff kY pB) (fun a=>Con bo 15 [.agg (fA po pg 0 0 0 ff.length 1 0 0 kY.length 2 0 0 pB.length),.n .i64 a0] [(bf 1 eI ff),(bf 1 eI kY),(bf 1 eI pB)] (.n .i64 a.1) [(bf 1 eI a.2.1),(bf 1 eI a.2.2.1),(bf 1 eI a.2.2.2)]):=by
 unfold sg
 exact .aT fun r1 I =>
  .bx fun aj =>
  .aT fun br bk =>
  .bx fun bq =>
  .aT fun aD cC =>
  .bx fun ed =>
  .ret (jH [(ab 2),.aS (bM 3 (.call {ar:=[.row 0],b5:=[.pure],ac:=[ii,ii],r:= .n .i64 r1.1,cY:=[(bf 1 eI r1.2)],eC:=ii,fo:=[.pure],eg:=[0],eb:=false}) 1),.aS (bM 3 (.call {ar:=[.row 1],b5:=[.pure],ac:=[ii,ii],r:= .n .i64 br.1,cY:=[(bf 1 eI br.2)],eC:=ii,fo:=[.pure],eg:=[1],eb:=false}) 1),.aS (bM 3 (.call {ar:=[.row 2],b5:=[.pure],ac:=[ii,ii],r:= .n .i64 aD.1,cY:=[(bf 1 eI aD.2)],eC:=ii,fo:=[.pure],eg:=[2],eb:=false}) 1),(ab 2)] [0,1,2] [.pure,.pure,.pure] (.b0 (g5 1 ba ff) (g5 1 ba r1.2) (yI r1 I) (g5 1 ba kY) (g5 1 ba br.2) (yI br bk) (g5 1 ba pB) (g5 1 ba aD.2) (.dk (yI aD cC) (bs 1 .live ba r1.2) (bs 1 .live ba br.2) (bs 1 .live ba aD.2))))
def yi (ap:List Int):(Int×Int)→S:=fun (a0,ai)=>dP [(0,.isl 1 (ap.map eI)),(1,.n .i64 a0),(5,.n .i64 ai)] []
def yv (ap:List Int):((Int)⊕(Unit))→dT
 | .inl a=>⟨some 0,[(1,.n .i64 a)],[]⟩
 | .inr a=>⟨none,[(4,.n .i64 (-1:Int))],[]⟩
def qq (ap:List Int)(a0 ai:Int):Option ((Int×Int)⊕((Int)⊕(Unit))) :=
 if (decide (ai<(len_ eI ap)))=true then
  if 0≤ai∧ai<ap.length then
  ap[ai.toNat]? >>= fun aP =>
  if (aP != a0)=true then
   some (.inr (.inr ()))
  else
   some (.inl (ak (a0+(1:Int)),ak (ai+(1:Int))))
  else none
 else
  some (.inr (.inl a0))
def yZ (ap:List Int)(a0 ai:Int):Option ((Int)⊕(Unit)):=iter (fun w:Int×Int=>qq ap w.1 w.2) (a0,ai)
theorem Gt {ap:List Int}{a0 ai:Int}:bL (qq ap a0 ai) (eD bo 21 0 33 [1,0,1,0,0] (yi ap (a0,ai)) (yi ap) (yv ap)):=by
 unfold qq
 exact .ite (fun h1 =>
  .bx fun I =>
  .aT fun aP aB =>
  (let t1:List cd:=[(ab 4),.al true,.aS (bM 3 (.cO (eI aP)) 2)];
  have aW:=((.dk h1 I.1 (dJ eI I.2) (dm eI aB)):cA _);
  .ite (fun bk =>
  .ret (bK (t1.append [.al true,(ab 1),.bc [] [] (bD [4])]) (aW.aI (.e1 bk))))
  (fun bk =>
  .ret (bK (t1.append [.al false,(ab 3),(ab 3),.bc [] [] (bD [0,1,5])]) (aW.aI (.e1 bk))))))
  (fun h1 =>
  .ret (bK [(ab 4),.al false,.bc [] [] (bD [1])] (.e1 h1)))
theorem BL {ap:List Int}{a0 ai:Int}{r} (h:yZ ap a0 ai=some r):eE bo 21 0 33 [1,0,1,0,0] (yi ap) (yv ap) (a0,ai) r:=eF (fun _=>Gt) h
def oM (ap:List Int)(a0:Int):Option Int :=
 yZ ap a0 0 >>= fun r1 =>
 match r1 with
 | .inl dM=>(some dM)
 | .inr dM=>(some (-1))
theorem y0 {ap:List Int}{a0:Int}:bL (oM ap a0) (fun r=>Con bo 33 [.isl 1 (ap.map eI),.n .i64 a0] [] (.n .i64 r) []):=by
 unfold oM
 exact .aT fun r1 I =>
  (let t1:List cd:=[(ab 1),(ab 1),.bc [] [] (bD [0,1,5])];
  (by
  rcases r1 with dM|dM
  ·exact (.ret (bJ (t1.append [.sub (.exit 0) [(1,.n .i64 dM)] [],(ab 2)]) (.e1 (BL I))))
  ·exact (.ret (bJ (t1.append [(yv ap (.inr dM)).gF]) (.e1 (BL I))))))
def oI (ap:ix)(a0:Int):Option Int :=
 oM ap.c9 a0 >>= fun r1 =>
 if (decide (r1<(0:Int)))=true then
  some (-1)
 else
  oM ap.c7 r1 >>= fun br =>
  if (decide (br<(0:Int)))=true then
   some (-1)
  else
   oM ap.pS br >>= fun aD =>
   if (decide (aD<(0:Int)))=true then
    some (-1)
   else
    some aD
theorem uX {ap:ix}{a0:Int}:bL (oI ap a0) (fun r=>Con bo 16 [.agg (li ap),.n .i64 a0] [] (.n .i64 r) []):=by
 unfold oI
 exact .aT fun r1 I =>
  (let t1:List cd:=[(ab 2),.aS (bM 3 (cF 2 (.n .i64 r1) true) 1),(ab 2)];
  have aW:=((.au (y0 r1 I) (bj.n .i64 r1)):cA _);
  .ite (fun aj =>
  .ret (bJ (t1.append [.al true,(ab 1)]) (aW.aI (.e1 aj))))
  (fun aj =>
  .aT fun br bk =>
  (let t3:List cd:=t1.append [.al false,.aS (bM 3 (cF 2 (.n .i64 br) true) 1),(ab 2)];
  have fl:=aW.aI (.bB aj (y0 br bk) (bj.n .i64 br));
  .ite (fun bq =>
  .ret (bJ (t3.append [.al true,(ab 1)]) (fl.aI (.e1 bq))))
  (fun bq =>
  .aT fun aD cC =>
  (let t5:List cd:=t3.append [.al false,.aS (bM 3 (cF 2 (.n .i64 aD) true) 1),(ab 2)];
  have ld:=fl.aI (.bB bq (y0 aD cC) (bj.n .i64 aD));
  .ite (fun ed =>
  .ret (bJ (t5.append [.al true,(ab 1)]) (ld.aI (.e1 ed))))
  (fun ed =>
  .ret (bJ (t5.append [.al false,(ab 2)]) (ld.aI (.e1 ed)))))))))
def sd (a0 po pg:Int)(vX vR vH:List Int):Option Int :=
 mP vX a0 >>= fun r1 =>
 mP vR r1 >>= fun cv =>
 mP vH cv >>= fun aJ =>
 some aJ
theorem GK {a0 po pg:Int}{vX vR vH:List Int}:bL (sd a0 po pg vX vR vH) (fun a=>Con bo 15 [.agg [.n .i64 po,.n .i64 pg,.isl 1 (vX.map eI),.isl 1 (vR.map eI),.isl 1 (vH.map eI)],.n .i64 a0] [] (.n .i64 a) []):=by
 unfold sd
 exact .aT fun r1 I =>
  .aT fun cv aB =>
  .aT fun aJ bq =>
  .ret (jH [(ab 2),.aS (bM 3 (cF 2 (.n .i64 r1) true) 1),.aS (bM 3 (cF 2 (.n .i64 cv) true) 1),.aS (bM 3 (cF 2 (.n .i64 aJ) true) 1),(ab 2)] [] [] (.e9 (u3 r1 I) (bj.n .i64 r1) (u3 cv aB) (bj.n .i64 cv) (u3 aJ bq) (bj.n .i64 aJ)))
def uT (tV:bE)(s7:List (List Int)):Option Bool :=
 oG tV 1048576 >>= fun r1 =>
 if (decide (r1<(0:Int)))=true then
  some true
 else
  sH s7 r1 >>= fun br =>
  if (decide (br<(0:Int)))=true then
   some true
  else
   se tV >>= fun aD =>
   ss s7 >>= fun aV =>
   if aV.1.all (py aV.2)=true then
   sk (⟨aD.1,aD.2⟩:bE) (aV.1.map (hb aV.2)) >>= fun hx =>
   qD (⟨aD.1,aD.2⟩:bE) (aV.1.map (hb aV.2)) >>= fun AQ =>
   match AQ with
   | .inl bH=>(qK (⟨bH.1,bH.2.1,bH.2.2.1,bH.2.2.2.1,bH.2.2.2.2⟩:ix) hx >>= fun im =>
    if im=true then
     qH (⟨aD.1,aD.2⟩:bE) (⟨aD.1,aD.2⟩:bE) >>= fun mD =>
     if mD=true then
      qQ (aV.1.map (hb aV.2)) (aV.1.map (hb aV.2)) >>= fun mE =>
      if mE=true then
       qy 1 aD.1 aD.2 >>= fun iW =>
       if aD.1.length=iW.2.1.length then
       if aD.2.length=iW.2.2.length then
       qI iW.1 aV.1 aV.2 >>= fun kZ =>
       if (decide (kZ.1<(0:Int)))=true then
        some false
       else
        sg 1 bH.1 bH.2.1 bH.2.2.1 bH.2.2.2.1 bH.2.2.2.2 >>= fun e2 =>
        if bH.2.2.1.length=e2.2.1.length then
        if bH.2.2.2.1.length=e2.2.2.1.length then
        if bH.2.2.2.2.length=e2.2.2.2.length then
        oI (⟨bH.1,bH.2.1,e2.2.1,e2.2.2.1,e2.2.2.2⟩:ix) 1 >>= fun nI =>
        if (decide (nI<(0:Int)))=true then
         some false
        else
         if (nI != e2.1)=true then
          some false
         else
          some true
        else none
        else none
        else none
       else none
       else none
      else
       some false
     else
      some false
    else
     some false)
   | .inr bH=>(qK (⟨0,0,([]:List Int),([]:List Int),([]:List Int)⟩:ix) hx >>= fun im =>
    if im=true then
     qH (⟨aD.1,aD.2⟩:bE) (⟨aD.1,aD.2⟩:bE) >>= fun mD =>
     if mD=true then
      qQ (aV.1.map (hb aV.2)) (aV.1.map (hb aV.2)) >>= fun mE =>
      if mE=true then
       qy 1 aD.1 aD.2 >>= fun iW =>
       if aD.1.length=iW.2.1.length then
       if aD.2.length=iW.2.2.length then
       qI iW.1 aV.1 aV.2 >>= fun kZ =>
       if (decide (kZ.1<(0:Int)))=true then
        some false
       else
        sd 1 0 0 ([]:List Int) ([]:List Int) ([]:List Int) >>= fun e2 =>
        oI (⟨0,0,([]:List Int),([]:List Int),([]:List Int)⟩:ix) 1 >>= fun nJ =>
        if (decide (nJ<(0:Int)))=true then
         some false
        else
         if (nJ != e2)=true then
          some false
         else
          some true
       else none
       else none
      else
       some false
     else
      some false
    else
     some false)
   else none
set_option maxHeartbeats 4000000 in
theorem Gh {tV:bE}{s7:List (List Int)}:bL (uT tV s7) (fun r=>Con bo 3 [.agg (fi tV),.isl 1 (s7.map (eL 1 eI))] [] (.b r) []):=by
 unfold uT
 exact .aT fun r1 I =>
  (let t1:List cd:=[(ab 2),(ab 1),.aS (bM 2 (cF 2 (.n .i64 r1) true) 1),(ab 2)];
  have aW:=((.au (G3 r1 I) (bj.n .i64 r1)):cA _);
  .ite (fun aj =>
  .ret (bJ (t1.append [.al true,(ab 1)]) (aW.aI (.e1 aj))))
  (fun aj =>
  .aT fun br bk =>
  (let t3:List cd:=t1.append [.al false,.aS (bM 2 (cF 2 (.n .i64 br) true) 1),(ab 2)];
  have fl:=aW.aI (.bB aj (HL br bk) (bj.n .i64 br));
  .ite (fun bq =>
  .ret (bJ (t3.append [.al true,(ab 1)]) (fl.aI (.e1 bq))))
  (fun bq =>
  .aT fun aD cC =>
  .aT fun aV df =>
  .bx fun gv =>
  .aT fun hx gi =>
  .aT fun AQ l8 =>
  (let l9:=hB 1 eI aV.2;let E1:=bf 1 (ca 27 1 1) aV.1;let t5:List cd:=t3.append [.al false,.aS (aO 1 (aZ (.call {ar:=[],b5:=[],ac:=[ii],r:= .agg [.a6 0 0 0 aD.1.length,.a6 0 1 0 aD.2.length],cY:=[[U.mk 4 (aD.1.map aH) .live,U.mk 3 (aD.2.map aX) .live]],eC:= .bS (.agg [.id,.id]),fo:=[.dZ [U.mk 4 (aD.1.map aH) .live,U.mk 3 (aD.2.map aX) .live]],eg:=[],eb:=true}) (aO 1 (aZ (.call {ar:=[],b5:=[],ac:=[ii],r:= .a6 0 0 0 aV.1.length,cY:=[(U.mk 1 (aV.1.map (ca 0 1 1)) .live::l9)],eC:=ii,fo:=[.dZ (U.mk 1 (aV.1.map (ca 18 1 1)) .live::l9)],eg:=[],eb:=true}) (aZ (.pH 18 (.pH 16 (.call {ac:=[.bS (.agg [.ek (aD.1.map aH),.ek (aD.2.map aX)]),.bS (.d6 (.view 18 (U.mk 1 (aV.1.map (ca 18 1 1)) .ko) ((aV.1.map (hb aV.2)).map (eL 1 eI))))],r:= .agg (li hx),eb:=false,eg:=[16,18]}))) (aO 2 [])))))),.aS (bM 1 (.call {ar:=[],b5:=[],ac:=[ii],r:= .agg [.a6 0 0 0 aD.1.length,.a6 0 1 0 aD.2.length],cY:=[[U.mk 4 (aD.1.map aH) .live,U.mk 3 (aD.2.map aX) .live]],eC:= .bS (.agg [.id,.id]),fo:=[.dZ [U.mk 4 (aD.1.map aH) .live,U.mk 3 (aD.2.map aX) .live]],eg:=[],eb:=true}) 2),.aS (bM 1 (.call {ar:=[],b5:=[],ac:=[ii],r:= .a6 0 0 0 aV.1.length,cY:=[(U.mk 1 (aV.1.map (ca 0 1 1)) .live::l9)],eC:=ii,fo:=[.dZ (U.mk 1 (aV.1.map (ca 27 1 1)) .live::l9)],eg:=[],eb:=true}) 1)];
  have ld:=fl.aI (.b0 bq (cE (dN (dU [16]) 4 oU aD.1) (cE (dN (dU [16]) 3 oQ aD.2) (hp (bn:=(dU [16]))))) ((eh rfl (eh rfl jS)):fE [U.mk 4 (aD.1.map aH) .live,U.mk 3 (aD.2.map aX) .live]) (qm aD cC) (bj.agg (eV (bj.a6 0 0 0 aD.1.length) (eV (bj.a6 0 1 0 aD.2.length) k4))) ((jb (gn (f7 oV) (gn (f7 oR) lo)) jc):h4 [[U.mk 4 (aD.1.map aH) .live,U.mk 3 (aD.2.map aX) .live]]) (cE (kc (dU [18]) 18 0 1 1 rfl aV.1) (kA (dU [18]) 1 dc aV.2)) ((eh rfl (mj (h9 .live 1 eI aV.2))):fE (U.mk 1 (aV.1.map (ca 0 1 1)) .live::l9)) (.b0 (qE aV df) (bj.a6 0 0 0 aV.1.length) ((jb (gn (f7 (rj _ _ _)) (qY je)) jc):h4 [(U.mk 1 (aV.1.map (ca 0 1 1)) .live::l9)]) (fx aH aD.1) (eN aH aD.1) (dF hn aD.1) (fx aX aD.2) (eN aX aD.2) (.b0 (dF hl aD.2) (rfl:b4 (some (U.mk 1 (aV.1.map (ca 18 1 1)) .ko::(hY l9))) 0=some (U.mk 1 (aV.1.map (ca 18 1 1)) .ko)) (rfl:_=true) (eN (ca 18 1 1) aV.1) (dF (jU (sz:=1) ba) (aV.1.map (hb aV.2))) (nm (cI:=18) (fN:=[U.mk 1 (aV.1.map (ca 18 1 1)) .ko]++(hY l9)) (bl:=mr) (sz:=1) (g:=(eL 1 eI)) (d3 (ca 18 1 1) aV.1) (fun _=>rfl) (fun x J=>(oi (cI:=18) (c:=1) (bl:=mr) (ls:=[U.mk 1 (aV.1.map (ca 18 1 1)) .ko]) (K0 (h9 .live 1 eI aV.2)) ba rfl Nx rfl (n3 gv x J))) (dD aV.1)) (G8 hx gi) (cE (dN (dU [23]) 4 oU aD.1) (cE (dN (dU [23]) 3 oQ aD.2) (hp (bn:=(dU [23]))))) (.b0 ((eh rfl (eh rfl jS)):fE [U.mk 4 (aD.1.map aH) .live,U.mk 3 (aD.2.map aX) .live]) (qm aD cC) (bj.agg (eV (bj.a6 0 0 0 aD.1.length) (eV (bj.a6 0 1 0 aD.2.length) k4))) ((jb (gn (f7 oV) (gn (f7 oR) lo)) jc):h4 [[U.mk 4 (aD.1.map aH) .live,U.mk 3 (aD.2.map aX) .live]]) (cE (kc (dU [27]) 27 0 1 1 rfl aV.1) (kA (dU [27]) 1 dc aV.2)) ((eh rfl (mj (h9 .live 1 eI aV.2))):fE (U.mk 1 (aV.1.map (ca 0 1 1)) .live::l9)) (qE aV df) (bj.a6 0 0 0 aV.1.length) (.b0 ((jb (gn (f7 (rj _ _ _)) (qY je)) jc):h4 [(U.mk 1 (aV.1.map (ca 0 1 1)) .live::l9)]) (fx aH aD.1) (eN aH aD.1) (dF hn aD.1) (fx aX aD.2) (eN aX aD.2) (dF hl aD.2) (rfl:b4 (some (U.mk 1 (aV.1.map (ca 27 1 1)) .live::l9)) 0=some (U.mk 1 (aV.1.map (ca 27 1 1)) .live)) (.dk (rfl:_=true) (eN (ca 27 1 1) aV.1) (dF (jU (sz:=1) ba) (aV.1.map (hb aV.2))) (nm (cI:=27) (fN:=E1++l9) (bl:=gR) (sz:=1) (g:=(eL 1 eI)) (d3 (ca 27 1 1) aV.1) (fun _=>rfl) (fun x J=>(oi (cI:=27) (c:=1) (bl:=gR) (ls:=E1) (h9 .live 1 eI aV.2) ba rfl oq rfl (n3 gv x J))) (dD aV.1))))))));
  (by
  rcases AQ with bH|bH
  ·exact (.aT fun im nH =>
  (let t7:List cd:=t5.append [.aS (bM 2 (.call {ar:=[],b5:=[],ac:=[.bS (.agg [.ek (aD.1.map aH),.ek (aD.2.map aX)]),.bS (.d6 (.view 27 (U.mk 1 (aV.1.map (ca 27 1 1)) .live) ((aV.1.map (hb aV.2)).map (eL 1 eI))))],r:= .agg (fA bH.1 bH.2.1 0 0 0 bH.2.2.1.length 0 1 0 bH.2.2.2.1.length 0 2 0 bH.2.2.2.2.length),cY:=[[U.mk 1 (bH.2.2.1.map eI) .live,U.mk 1 (bH.2.2.2.1.map eI) .live,U.mk 1 (bH.2.2.2.2.map eI) .live]],eC:= .bS (.agg [.id,.id,.id,.id,.id]),fo:=[.dZ [U.mk 1 (bH.2.2.1.map eI) .live,U.mk 1 (bH.2.2.2.1.map eI) .live,U.mk 1 (bH.2.2.2.2.map eI) .live]],eg:=[23,27],eb:=true}) 2),.aS (bM 2 (.call {ac:=[.bS (.agg [.id,.id,.ek (bH.2.2.1.map eI),.ek (bH.2.2.2.1.map eI),.ek (bH.2.2.2.2.map eI)]),ii],r:= .b im,eb:=true,eg:=[31]}) 1)];
  have lK:=ld.aI (.b0 (cE (dN (dU [31]) 1 dc bH.2.2.1) (cE (dN (dU [31]) 1 dc bH.2.2.2.1) (cE (dN (dU [31]) 1 dc bH.2.2.2.2) (hp (bn:=(dU [31])))))) ((eh rfl (eh rfl (eh rfl jS))):fE [U.mk 1 (bH.2.2.1.map eI) .live,U.mk 1 (bH.2.2.2.1.map eI) .live,U.mk 1 (bH.2.2.2.2.map eI) .live]) (uU (.inl bH) l8) (bj.agg (eV (bj.n .i64 bH.1) (eV (bj.n .i64 bH.2.1) (eV (bj.a6 0 0 0 bH.2.2.1.length) (eV (bj.a6 0 1 0 bH.2.2.2.1.length) (eV (bj.a6 0 2 0 bH.2.2.2.2.length) k4)))))) ((jb (gn (f7 je) (gn (f7 je) (gn (f7 je) lo))) jc):h4 [[U.mk 1 (bH.2.2.1.map eI) .live,U.mk 1 (bH.2.2.2.1.map eI) .live,U.mk 1 (bH.2.2.2.2.map eI) .live]]) (fx eI bH.2.2.1) (eN eI bH.2.2.1) (dF ba bH.2.2.1) (.hT (fx eI bH.2.2.2.1) (eN eI bH.2.2.2.1) (dF ba bH.2.2.2.1) (fx eI bH.2.2.2.2) (eN eI bH.2.2.2.2) (dF ba bH.2.2.2.2) (qF im nH) (bj.b im)));
  .ite (fun lG =>
  .aT fun mD gN =>
  (let t9:List cd:=t7.append [.al false,.aS (aO 2 (aZ (.call {ar:=[],b5:=[],ac:=[ii],r:= .agg [.a6 0 0 0 aD.1.length,.a6 0 1 0 aD.2.length],cY:=[[U.mk 4 (aD.1.map aH) .live,U.mk 3 (aD.2.map aX) .live]],eC:= .bS (.agg [.id,.id]),fo:=[.dZ [U.mk 4 (aD.1.map aH) .live,U.mk 3 (aD.2.map aX) .live]],eg:=[],eb:=true}) (aZ (.call {ac:=[.bS (.agg [.ek (aD.1.map aH),.ek (aD.2.map aX)]),.bS (.agg [.ek (aD.1.map aH),.ek (aD.2.map aX)])],r:= .b mD,eb:=true,eg:=[23,40]}) (aO 1 []))))];
  have uu:=lK.aI (.b0 (c5 lG) (cE (dN (dU [40]) 4 oU aD.1) (cE (dN (dU [40]) 3 oQ aD.2) (hp (bn:=(dU [40]))))) ((eh rfl (eh rfl jS)):fE [U.mk 4 (aD.1.map aH) .live,U.mk 3 (aD.2.map aX) .live]) (qm aD cC) (bj.agg (eV (bj.a6 0 0 0 aD.1.length) (eV (bj.a6 0 1 0 aD.2.length) k4))) ((jb (gn (f7 oV) (gn (f7 oR) lo)) jc):h4 [[U.mk 4 (aD.1.map aH) .live,U.mk 3 (aD.2.map aX) .live]]) (fx aH aD.1) (eN aH aD.1) (.b0 (dF hn aD.1) (fx aX aD.2) (eN aX aD.2) (dF hl aD.2) (fx aH aD.1) (eN aH aD.1) (dF hn aD.1) (fx aX aD.2) (.dk (eN aX aD.2) (dF hl aD.2) (BI mD gN) (bj.b mD))));
  .ite (fun iG =>
  .aT fun mE AR =>
  (let hg:=hB 1 eI aV.2;let iw:=bf 1 (ca 27 1 1) aV.1;let jN:=bf 1 (ca 45 1 1) aV.1;let t11:List cd:=t9.append [.al false,.aS (aO 2 (aZ (.call {ar:=[],b5:=[],ac:=[ii],r:= .a6 0 0 0 aV.1.length,cY:=[(U.mk 1 (aV.1.map (ca 0 1 1)) .live::hg)],eC:=ii,fo:=[.dZ (U.mk 1 (aV.1.map (ca 45 1 1)) .live::hg)],eg:=[],eb:=true}) (aZ (.call {ac:=[.bS (.d6 (.view 27 (U.mk 1 (aV.1.map (ca 27 1 1)) .live) ((aV.1.map (hb aV.2)).map (eL 1 eI)))),.bS (.d6 (.view 45 (U.mk 1 (aV.1.map (ca 45 1 1)) .live) ((aV.1.map (hb aV.2)).map (eL 1 eI))))],r:= .b mE,eb:=true,eg:=[27,45]}) (aO 1 []))))];
  have uv:=uu.aI (.b0 (c5 iG) (cE (kc (dU [45]) 45 0 1 1 rfl aV.1) (kA (dU [45]) 1 dc aV.2)) ((eh rfl (mj (h9 .live 1 eI aV.2))):fE (U.mk 1 (aV.1.map (ca 0 1 1)) .live::hg)) (qE aV df) (bj.a6 0 0 0 aV.1.length) ((jb (gn (f7 (rj _ _ _)) (qY je)) jc):h4 [(U.mk 1 (aV.1.map (ca 0 1 1)) .live::hg)]) (rfl:b4 (some (U.mk 1 (aV.1.map (ca 27 1 1)) .live::hg)) 0=some (U.mk 1 (aV.1.map (ca 27 1 1)) .live)) (rfl:_=true) (.b0 (eN (ca 27 1 1) aV.1) (dF (jU (sz:=1) ba) (aV.1.map (hb aV.2))) (nm (cI:=27) (fN:=iw++hg) (bl:=gR) (sz:=1) (g:=(eL 1 eI)) (d3 (ca 27 1 1) aV.1) (fun _=>rfl) (fun x J=>(oi (cI:=27) (c:=1) (bl:=gR) (ls:=iw) (h9 .live 1 eI aV.2) ba rfl oq rfl (n3 gv x J))) (dD aV.1)) (rfl:b4 (some (U.mk 1 (aV.1.map (ca 45 1 1)) .live::hg)) 0=some (U.mk 1 (aV.1.map (ca 45 1 1)) .live)) (rfl:_=true) (eN (ca 45 1 1) aV.1) (dF (jU (sz:=1) ba) (aV.1.map (hb aV.2))) (nm (cI:=45) (fN:=jN++hg) (bl:=gR) (sz:=1) (g:=(eL 1 eI)) (d3 (ca 45 1 1) aV.1) (fun _=>rfl) (fun x J=>(oi (cI:=45) (c:=1) (bl:=gR) (ls:=jN) (h9 .live 1 eI aV.2) ba rfl oq rfl (n3 gv x J))) (dD aV.1)) (.au (B4 mE AR) (bj.b mE))));
  .ite (fun pC =>
  .aT fun iW AS =>
  .bx fun Nc =>
  .bx fun Nd =>
  .aT fun kZ AU =>
  (let d7:=hB 1 eI kZ.2;let t13:List cd:=t11.append [.al false,(ab 1),.aS (bM 2 (.call {ar:=[.R 23 0 (U.mk 4 (aD.1.map aH) .live),.R 23 1 (U.mk 3 (aD.2.map aX) .live)],b5:=[.pure,.pure],ac:=[.bS (.agg [.at_ 0 0 aD.1.length,.at_ 1 0 aD.2.length]),ii],r:= .n .i64 iW.1,cY:=[(bf 4 aH iW.2.1),(bf 3 aX iW.2.2)],eC:=ii,fo:=[.pure,.pure],eg:=[23],eb:=false}) 1),.aS (bM 2 (.call {ar:=[.row 27],b5:=[.dZ (U.mk 1 (aV.1.map (ca 0 1 1)) .live::(hB 1 eI aV.2))],ac:=[ii,ii],r:= .n .i64 kZ.1,cY:=[(U.mk 1 (aV.1.map (ca 0 1 1)) .live::d7)],eC:=ii,fo:=[.dZ (U.mk 1 (aV.1.map (ca 27 1 1)) .live::d7)],eg:=[27],eb:=false}) 1)];
  have uw:=uv.aI (.b0 (c5 pC) (by decide:0≠1) (rfl:ha [.R 23 0 (U.mk 4 (aD.1.map aH) .live),.R 23 1 (U.mk 3 (aD.2.map aX) .live)] 0 0=some (23,0)) (rfl:aD.1.length=aD.1.length) (rfl:ha [.R 23 0 (U.mk 4 (aD.1.map aH) .live),.R 23 1 (U.mk 3 (aD.2.map aX) .live)] 1 0=some (23,1)) (rfl:aD.2.length=aD.2.length) (rfl:b4 (some [U.mk 4 (aD.1.map aH) .live,U.mk 3 (aD.2.map aX) .live]) 0=some (U.mk 4 (aD.1.map aH) .live)) (g5 4 hn aD.1) (.b0 (rfl:b4 (some [U.mk 4 (aD.1.map aH) .live,U.mk 3 (aD.2.map aX) .live]) 1=some (U.mk 3 (aD.2.map aX) .live)) (g5 3 hl aD.2) (g5 4 hn iW.2.1) (g5 3 hl iW.2.2) (Bt iW AS) (cE (kc (kz [27]) 0 27 1 1 rfl aV.1) (kA (kz [27]) 1 dc aV.2)) ((eh rfl (mj (h9 .live 1 eI aV.2))):fE (U.mk 1 (aV.1.map (ca 27 1 1)) .live::(hB 1 eI aV.2))) (cE (kc (dU [27]) 27 0 1 1 rfl aV.1) (kA (dU [27]) 1 dc kZ.2)) (.au ((eh rfl (mj (h9 .live 1 eI kZ.2))):fE (U.mk 1 (aV.1.map (ca 0 1 1)) .live::d7)) (BK kZ AU))));
  .ite (fun iq =>
  .ret (bJ (t13.append [.aS (aO 3 (dB 4 (aZ (.al true) []))),.al true,(ab 1)]) (uw.aI (.e9 iq iq iq iq iq cK))))
  (fun iq =>
  .aT fun e2 AV =>
  .bx fun wS =>
  .bx fun pD =>
  .bx fun m6 =>
  .aT fun nI E2 =>
  (let t15:List cd:=t13.append [.aS (aO 5 (aZ (.call {ac:=[.bS (.agg [.id,.id,.ek (bH.2.2.1.map eI),.ek (bH.2.2.2.1.map eI),.ek (bH.2.2.2.2.map eI)]),ii],r:= .b im,eb:=true,eg:=[31]}) (aO 1 (aZ (.al false) [])))),.al false,(ab 1),.aS (bM 2 (.call {ar:=[.R 31 0 (U.mk 1 (bH.2.2.1.map eI) .live),.R 31 1 (U.mk 1 (bH.2.2.2.1.map eI) .live),.R 31 2 (U.mk 1 (bH.2.2.2.2.map eI) .live)],b5:=[.pure,.pure,.pure],ac:=[.bS (.agg [.id,.id,.at_ 0 0 bH.2.2.1.length,.at_ 1 0 bH.2.2.2.1.length,.at_ 2 0 bH.2.2.2.2.length]),ii],r:= .n .i64 e2.1,cY:=[(bf 1 eI e2.2.1),(bf 1 eI e2.2.2.1),(bf 1 eI e2.2.2.2)],eC:=ii,fo:=[.pure,.pure,.pure],eg:=[31],eb:=false}) 1),(ab 1),.aS (bM 2 (.call {ac:=[.bS (.agg [.id,.id,.ek (e2.2.1.map eI),.ek (e2.2.2.1.map eI),.ek (e2.2.2.2.map eI)]),ii],r:= .n .i64 nI,eb:=true,eg:=[31]}) 1),(ab 2)];
  have pE:=uw.aI (.b0 iq iq iq (fx eI bH.2.2.1) (eN eI bH.2.2.1) (dF ba bH.2.2.1) (fx eI bH.2.2.2.1) (eN eI bH.2.2.2.1) (.b0 (dF ba bH.2.2.2.1) (fx eI bH.2.2.2.2) (eN eI bH.2.2.2.2) (dF ba bH.2.2.2.2) (qF im nH) (bj.b im) iq iq (.b0 (c5 lG) (by decide:0≠1) (by decide:0≠2) (by decide:1≠2) (rfl:ha [.R 31 0 (U.mk 1 (bH.2.2.1.map eI) .live),.R 31 1 (U.mk 1 (bH.2.2.2.1.map eI) .live),.R 31 2 (U.mk 1 (bH.2.2.2.2.map eI) .live)] 0 0=some (31,0)) (rfl:bH.2.2.1.length=bH.2.2.1.length) (rfl:ha [.R 31 0 (U.mk 1 (bH.2.2.1.map eI) .live),.R 31 1 (U.mk 1 (bH.2.2.2.1.map eI) .live),.R 31 2 (U.mk 1 (bH.2.2.2.2.map eI) .live)] 1 0=some (31,1)) (rfl:bH.2.2.2.1.length=bH.2.2.2.1.length) (.b0 (rfl:ha [.R 31 0 (U.mk 1 (bH.2.2.1.map eI) .live),.R 31 1 (U.mk 1 (bH.2.2.2.1.map eI) .live),.R 31 2 (U.mk 1 (bH.2.2.2.2.map eI) .live)] 2 0=some (31,2)) (rfl:bH.2.2.2.2.length=bH.2.2.2.2.length) (rfl:b4 (some [U.mk 1 (bH.2.2.1.map eI) .live,U.mk 1 (bH.2.2.2.1.map eI) .live,U.mk 1 (bH.2.2.2.2.map eI) .live]) 0=some (U.mk 1 (bH.2.2.1.map eI) .live)) (g5 1 ba bH.2.2.1) (rfl:b4 (some [U.mk 1 (bH.2.2.1.map eI) .live,U.mk 1 (bH.2.2.2.1.map eI) .live,U.mk 1 (bH.2.2.2.2.map eI) .live]) 1=some (U.mk 1 (bH.2.2.2.1.map eI) .live)) (g5 1 ba bH.2.2.2.1) (rfl:b4 (some [U.mk 1 (bH.2.2.1.map eI) .live,U.mk 1 (bH.2.2.2.1.map eI) .live,U.mk 1 (bH.2.2.2.2.map eI) .live]) 2=some (U.mk 1 (bH.2.2.2.2.map eI) .live)) (g5 1 ba bH.2.2.2.2) (.b0 (g5 1 ba e2.2.1) (g5 1 ba e2.2.2.1) (g5 1 ba e2.2.2.2) (GX e2 AV) (mQ (d3 eI e2.2.1) (Eq.trans (dD bH.2.2.1) wS)) (lP (d3 eI e2.2.1) (Eq.trans (dD bH.2.2.1) wS)) (dF ba e2.2.1) (mQ (d3 eI e2.2.2.1) (Eq.trans (dD bH.2.2.2.1) pD)) (.hS (lP (d3 eI e2.2.2.1) (Eq.trans (dD bH.2.2.2.1) pD)) (dF ba e2.2.2.1) (mQ (d3 eI e2.2.2.2) (Eq.trans (dD bH.2.2.2.2) m6)) (lP (d3 eI e2.2.2.2) (Eq.trans (dD bH.2.2.2.2) m6)) (dF ba e2.2.2.2) (uX nI E2) (bj.n .i64 nI)))))));
  .ite (fun ux =>
  .ret (bJ (t15.append [.al true,(ab 1)]) (pE.aI (.e1 ux))))
  (fun ux =>
  .ite (fun wT =>
  .ret (bJ (t15.append [.al false,(ab 3),.al true,(ab 1)]) (pE.aI (.au ux wT))))
  (fun wT =>
  .ret (let q1:=hB 1 eI aV.2;let bu:=bf 1 (ca 83 1 1) aV.1;bJ (t15.append [.al false,(ab 3),.al false,.aS (aO 1 (aZ (.call {ar:=[],b5:=[],ac:=[ii],r:= .agg [.a6 0 0 0 aD.1.length,.a6 0 1 0 aD.2.length],cY:=[[U.mk 4 (aD.1.map aH) .live,U.mk 3 (aD.2.map aX) .live]],eC:= .bS (.agg [.id,.id]),fo:=[.dZ [U.mk 4 (aD.1.map aH) .live,U.mk 3 (aD.2.map aX) .live]],eg:=[],eb:=true}) (aO 1 (aZ (.call {ar:=[],b5:=[],ac:=[ii],r:= .a6 0 0 0 aV.1.length,cY:=[(U.mk 1 (aV.1.map (ca 0 1 1)) .live::q1)],eC:=ii,fo:=[.dZ (U.mk 1 (aV.1.map (ca 83 1 1)) .live::q1)],eg:=[],eb:=true}) (aZ (.call {ar:=[],b5:=[],ac:=[.bS (.agg [.ek (aD.1.map aH),.ek (aD.2.map aX)]),.bS (.d6 (.view 83 (U.mk 1 (aV.1.map (ca 83 1 1)) .live) ((aV.1.map (hb aV.2)).map (eL 1 eI))))],r:= .agg (fA bH.1 bH.2.1 0 0 0 bH.2.2.1.length 0 1 0 bH.2.2.2.1.length 0 2 0 bH.2.2.2.2.length),cY:=[[U.mk 1 (bH.2.2.1.map eI) .live,U.mk 1 (bH.2.2.2.1.map eI) .live,U.mk 1 (bH.2.2.2.2.map eI) .live]],eC:= .bS (.agg [.id,.id,.id,.id,.id]),fo:=[.dZ [U.mk 1 (bH.2.2.1.map eI) .live,U.mk 1 (bH.2.2.2.1.map eI) .live,U.mk 1 (bH.2.2.2.2.map eI) .live]],eg:=[81,83],eb:=true}) (aO 2 [])))))),.aS (bM 2 (.call {ac:=[.bS (.agg [.id,.id,.ek (bH.2.2.1.map eI),.ek (bH.2.2.2.1.map eI),.ek (bH.2.2.2.2.map eI)]),ii],r:= .b im,eb:=true,eg:=[84]}) 1),.al false,(ab 1),.aS (bM 2 (.call {ac:=[.bS (.agg [.id,.id,.ek (e2.2.1.map eI),.ek (e2.2.2.1.map eI),.ek (e2.2.2.2.map eI)]),ii],r:= .n .i64 nI,eb:=true,eg:=[31]}) 1),(ab 2),.al false,(ab 3),.al false,(ab 1)]) (pE.aI (.b0 ux wT (cE (dN (dU [81]) 4 oU aD.1) (cE (dN (dU [81]) 3 oQ aD.2) (hp (bn:=(dU [81]))))) ((eh rfl (eh rfl jS)):fE [U.mk 4 (aD.1.map aH) .live,U.mk 3 (aD.2.map aX) .live]) (qm aD cC) (bj.agg (eV (bj.a6 0 0 0 aD.1.length) (eV (bj.a6 0 1 0 aD.2.length) k4))) ((jb (gn (f7 oV) (gn (f7 oR) lo)) jc):h4 [[U.mk 4 (aD.1.map aH) .live,U.mk 3 (aD.2.map aX) .live]]) (cE (kc (dU [83]) 83 0 1 1 rfl aV.1) (kA (dU [83]) 1 dc aV.2)) (.b0 ((eh rfl (mj (h9 .live 1 eI aV.2))):fE (U.mk 1 (aV.1.map (ca 0 1 1)) .live::q1)) (qE aV df) (bj.a6 0 0 0 aV.1.length) ((jb (gn (f7 (rj _ _ _)) (qY je)) jc):h4 [(U.mk 1 (aV.1.map (ca 0 1 1)) .live::q1)]) (fx aH aD.1) (eN aH aD.1) (dF hn aD.1) (fx aX aD.2) (.b0 (eN aX aD.2) (dF hl aD.2) (rfl:b4 (some (U.mk 1 (aV.1.map (ca 83 1 1)) .live::q1)) 0=some (U.mk 1 (aV.1.map (ca 83 1 1)) .live)) (rfl:_=true) (eN (ca 83 1 1) aV.1) (dF (jU (sz:=1) ba) (aV.1.map (hb aV.2))) (nm (cI:=83) (fN:=bu++q1) (bl:=gR) (sz:=1) (g:=(eL 1 eI)) (d3 (ca 83 1 1) aV.1) (fun _=>rfl) (fun x J=>(oi (cI:=83) (c:=1) (bl:=gR) (ls:=bu) (h9 .live 1 eI aV.2) ba rfl oq rfl (n3 gv x J))) (dD aV.1)) (cE (dN (dU [84]) 1 dc bH.2.2.1) (cE (dN (dU [84]) 1 dc bH.2.2.2.1) (cE (dN (dU [84]) 1 dc bH.2.2.2.2) (hp (bn:=(dU [84])))))) (.b0 ((eh rfl (eh rfl (eh rfl jS))):fE [U.mk 1 (bH.2.2.1.map eI) .live,U.mk 1 (bH.2.2.2.1.map eI) .live,U.mk 1 (bH.2.2.2.2.map eI) .live]) (uU (.inl bH) l8) (bj.agg (eV (bj.n .i64 bH.1) (eV (bj.n .i64 bH.2.1) (eV (bj.a6 0 0 0 bH.2.2.1.length) (eV (bj.a6 0 1 0 bH.2.2.2.1.length) (eV (bj.a6 0 2 0 bH.2.2.2.2.length) k4)))))) ((jb (gn (f7 je) (gn (f7 je) (gn (f7 je) lo))) jc):h4 [[U.mk 1 (bH.2.2.1.map eI) .live,U.mk 1 (bH.2.2.2.1.map eI) .live,U.mk 1 (bH.2.2.2.2.map eI) .live]]) (fx eI bH.2.2.1) (eN eI bH.2.2.1) (dF ba bH.2.2.1) (fx eI bH.2.2.2.1) (.b0 (eN eI bH.2.2.2.1) (dF ba bH.2.2.2.1) (fx eI bH.2.2.2.2) (eN eI bH.2.2.2.2) (dF ba bH.2.2.2.2) (qF im nH) (bj.b im) (c5 lG) (.b0 (mQ (d3 eI e2.2.1) (Eq.trans (dD bH.2.2.1) wS)) (lP (d3 eI e2.2.1) (Eq.trans (dD bH.2.2.1) wS)) (dF ba e2.2.1) (mQ (d3 eI e2.2.2.1) (Eq.trans (dD bH.2.2.2.1) pD)) (lP (d3 eI e2.2.2.1) (Eq.trans (dD bH.2.2.2.1) pD)) (dF ba e2.2.2.1) (mQ (d3 eI e2.2.2.2) (Eq.trans (dD bH.2.2.2.2) m6)) (lP (d3 eI e2.2.2.2) (Eq.trans (dD bH.2.2.2.2) m6)) (.gk (dF ba e2.2.2.2) (uX nI E2) (bj.n .i64 nI) ux wT)))))))))))))))
  (fun pC =>
  .ret (bJ (t11.append [.al true,(ab 1)]) (uv.aI (.e1 (c0 pC)))))))
  (fun iG =>
  .ret (bJ (t9.append [.al true,(ab 1)]) (uu.aI (.e1 (c0 iG)))))))
  (fun lG =>
  .ret (bJ (t7.append [.al true,(ab 1)]) (lK.aI (.e1 (c0 lG)))))))
  ·exact (.aT fun im nH =>
  (let t7:List cd:=t5.append [.aS (bM 2 (.call {ar:=[],b5:=[],ac:=[.bS (.agg [.ek (aD.1.map aH),.ek (aD.2.map aX)]),.bS (.d6 (.view 27 (U.mk 1 (aV.1.map (ca 27 1 1)) .live) ((aV.1.map (hb aV.2)).map (eL 1 eI))))],r:= .agg [.n .i64 (0:Int),.n .i64 (0:Int),.isl 1 (([]:List Int).map eI),.isl 1 (([]:List Int).map eI),.isl 1 (([]:List Int).map eI)],cY:=[],eC:=ii,fo:=[],eg:=[23,27],eb:=true}) 2),.aS (bM 2 (cF 2 (.b im) true) 1)];
  have lK:=ld.aI (.dk (uU (.inr bH) l8) (bj.agg (eV (bj.n .i64 (0:Int)) (eV (bj.n .i64 (0:Int)) (eV (bj.gb _:bj (.isl 1 (([]:List Int).map eI))) (eV (bj.gb _:bj (.isl 1 (([]:List Int).map eI))) (eV (bj.gb _:bj (.isl 1 (([]:List Int).map eI))) k4)))))) (qF im nH) (bj.b im));
  .ite (fun lG =>
  .aT fun mD gN =>
  (let t9:List cd:=t7.append [.al false,.aS (aO 2 (aZ (.call {ar:=[],b5:=[],ac:=[ii],r:= .agg [.a6 0 0 0 aD.1.length,.a6 0 1 0 aD.2.length],cY:=[[U.mk 4 (aD.1.map aH) .live,U.mk 3 (aD.2.map aX) .live]],eC:= .bS (.agg [.id,.id]),fo:=[.dZ [U.mk 4 (aD.1.map aH) .live,U.mk 3 (aD.2.map aX) .live]],eg:=[],eb:=true}) (aZ (.call {ac:=[.bS (.agg [.ek (aD.1.map aH),.ek (aD.2.map aX)]),.bS (.agg [.ek (aD.1.map aH),.ek (aD.2.map aX)])],r:= .b mD,eb:=true,eg:=[23,40]}) (aO 1 []))))];
  have uu:=lK.aI (.b0 (c5 lG) (cE (dN (dU [40]) 4 oU aD.1) (cE (dN (dU [40]) 3 oQ aD.2) (hp (bn:=(dU [40]))))) ((eh rfl (eh rfl jS)):fE [U.mk 4 (aD.1.map aH) .live,U.mk 3 (aD.2.map aX) .live]) (qm aD cC) (bj.agg (eV (bj.a6 0 0 0 aD.1.length) (eV (bj.a6 0 1 0 aD.2.length) k4))) ((jb (gn (f7 oV) (gn (f7 oR) lo)) jc):h4 [[U.mk 4 (aD.1.map aH) .live,U.mk 3 (aD.2.map aX) .live]]) (fx aH aD.1) (eN aH aD.1) (.b0 (dF hn aD.1) (fx aX aD.2) (eN aX aD.2) (dF hl aD.2) (fx aH aD.1) (eN aH aD.1) (dF hn aD.1) (fx aX aD.2) (.dk (eN aX aD.2) (dF hl aD.2) (BI mD gN) (bj.b mD))));
  .ite (fun iG =>
  .aT fun mE AR =>
  (let oj:=hB 1 eI aV.2;let E3:=bf 1 (ca 27 1 1) aV.1;let E4:=bf 1 (ca 45 1 1) aV.1;let t11:List cd:=t9.append [.al false,.aS (aO 2 (aZ (.call {ar:=[],b5:=[],ac:=[ii],r:= .a6 0 0 0 aV.1.length,cY:=[(U.mk 1 (aV.1.map (ca 0 1 1)) .live::oj)],eC:=ii,fo:=[.dZ (U.mk 1 (aV.1.map (ca 45 1 1)) .live::oj)],eg:=[],eb:=true}) (aZ (.call {ac:=[.bS (.d6 (.view 27 (U.mk 1 (aV.1.map (ca 27 1 1)) .live) ((aV.1.map (hb aV.2)).map (eL 1 eI)))),.bS (.d6 (.view 45 (U.mk 1 (aV.1.map (ca 45 1 1)) .live) ((aV.1.map (hb aV.2)).map (eL 1 eI))))],r:= .b mE,eb:=true,eg:=[27,45]}) (aO 1 []))))];
  have uv:=uu.aI (.b0 (c5 iG) (cE (kc (dU [45]) 45 0 1 1 rfl aV.1) (kA (dU [45]) 1 dc aV.2)) ((eh rfl (mj (h9 .live 1 eI aV.2))):fE (U.mk 1 (aV.1.map (ca 0 1 1)) .live::oj)) (qE aV df) (bj.a6 0 0 0 aV.1.length) ((jb (gn (f7 (rj _ _ _)) (qY je)) jc):h4 [(U.mk 1 (aV.1.map (ca 0 1 1)) .live::oj)]) (rfl:b4 (some (U.mk 1 (aV.1.map (ca 27 1 1)) .live::oj)) 0=some (U.mk 1 (aV.1.map (ca 27 1 1)) .live)) (rfl:_=true) (.b0 (eN (ca 27 1 1) aV.1) (dF (jU (sz:=1) ba) (aV.1.map (hb aV.2))) (nm (cI:=27) (fN:=E3++oj) (bl:=gR) (sz:=1) (g:=(eL 1 eI)) (d3 (ca 27 1 1) aV.1) (fun _=>rfl) (fun x J=>(oi (cI:=27) (c:=1) (bl:=gR) (ls:=E3) (h9 .live 1 eI aV.2) ba rfl oq rfl (n3 gv x J))) (dD aV.1)) (rfl:b4 (some (U.mk 1 (aV.1.map (ca 45 1 1)) .live::oj)) 0=some (U.mk 1 (aV.1.map (ca 45 1 1)) .live)) (rfl:_=true) (eN (ca 45 1 1) aV.1) (dF (jU (sz:=1) ba) (aV.1.map (hb aV.2))) (nm (cI:=45) (fN:=E4++oj) (bl:=gR) (sz:=1) (g:=(eL 1 eI)) (d3 (ca 45 1 1) aV.1) (fun _=>rfl) (fun x J=>(oi (cI:=45) (c:=1) (bl:=gR) (ls:=E4) (h9 .live 1 eI aV.2) ba rfl oq rfl (n3 gv x J))) (dD aV.1)) (.au (B4 mE AR) (bj.b mE))));
  .ite (fun pC =>
  .aT fun iW AS =>
  .bx fun Nc =>
  .bx fun Nd =>
  .aT fun kZ AU =>
  (let mK:=hB 1 eI kZ.2;let t13:List cd:=t11.append [.al false,(ab 1),.aS (bM 2 (.call {ar:=[.R 23 0 (U.mk 4 (aD.1.map aH) .live),.R 23 1 (U.mk 3 (aD.2.map aX) .live)],b5:=[.pure,.pure],ac:=[.bS (.agg [.at_ 0 0 aD.1.length,.at_ 1 0 aD.2.length]),ii],r:= .n .i64 iW.1,cY:=[(bf 4 aH iW.2.1),(bf 3 aX iW.2.2)],eC:=ii,fo:=[.pure,.pure],eg:=[23],eb:=false}) 1),.aS (bM 2 (.call {ar:=[.row 27],b5:=[.dZ (U.mk 1 (aV.1.map (ca 0 1 1)) .live::(hB 1 eI aV.2))],ac:=[ii,ii],r:= .n .i64 kZ.1,cY:=[(U.mk 1 (aV.1.map (ca 0 1 1)) .live::mK)],eC:=ii,fo:=[.dZ (U.mk 1 (aV.1.map (ca 27 1 1)) .live::mK)],eg:=[27],eb:=false}) 1)];
  have uw:=uv.aI (.b0 (c5 pC) (by decide:0≠1) (rfl:ha [.R 23 0 (U.mk 4 (aD.1.map aH) .live),.R 23 1 (U.mk 3 (aD.2.map aX) .live)] 0 0=some (23,0)) (rfl:aD.1.length=aD.1.length) (rfl:ha [.R 23 0 (U.mk 4 (aD.1.map aH) .live),.R 23 1 (U.mk 3 (aD.2.map aX) .live)] 1 0=some (23,1)) (rfl:aD.2.length=aD.2.length) (rfl:b4 (some [U.mk 4 (aD.1.map aH) .live,U.mk 3 (aD.2.map aX) .live]) 0=some (U.mk 4 (aD.1.map aH) .live)) (g5 4 hn aD.1) (.b0 (rfl:b4 (some [U.mk 4 (aD.1.map aH) .live,U.mk 3 (aD.2.map aX) .live]) 1=some (U.mk 3 (aD.2.map aX) .live)) (g5 3 hl aD.2) (g5 4 hn iW.2.1) (g5 3 hl iW.2.2) (Bt iW AS) (cE (kc (kz [27]) 0 27 1 1 rfl aV.1) (kA (kz [27]) 1 dc aV.2)) ((eh rfl (mj (h9 .live 1 eI aV.2))):fE (U.mk 1 (aV.1.map (ca 27 1 1)) .live::(hB 1 eI aV.2))) (cE (kc (dU [27]) 27 0 1 1 rfl aV.1) (kA (dU [27]) 1 dc kZ.2)) (.au ((eh rfl (mj (h9 .live 1 eI kZ.2))):fE (U.mk 1 (aV.1.map (ca 0 1 1)) .live::mK)) (BK kZ AU))));
  .ite (fun iq =>
  .ret (bJ (t13.append [.aS (aO 3 (dB 4 (aZ (.al true) []))),.al true,(ab 1)]) (uw.aI (.e9 iq iq iq iq iq cK))))
  (fun iq =>
  .aT fun e2 AV =>
  .aT fun nJ pD =>
  (let t15:List cd:=t13.append [.aS (aO 5 (aZ (cF 2 (.b im) true) (aO 1 (aZ (.al false) [])))),.al false,(ab 1),.aS (bM 2 (.call {ar:=[],b5:=[],ac:=[.bS (.agg [.id,.id,.id,.id,.id]),ii],r:= .n .i64 e2,cY:=[],eC:=ii,fo:=[],eg:=[],eb:=false}) 1),(ab 1),.aS (bM 2 (cF 2 (.n .i64 nJ) true) 1),(ab 2)];
  have pE:=uw.aI (.b0 iq iq iq (qF im nH) (bj.b im) iq iq (c5 lG) (.bB (GK e2 AV) (uX nJ pD) (bj.n .i64 nJ)));
  .ite (fun m6 =>
  .ret (bJ (t15.append [.al true,(ab 1)]) (pE.aI (.e1 m6))))
  (fun m6 =>
  .ite (fun wU =>
  .ret (bJ (t15.append [.al false,(ab 3),.al true,(ab 1)]) (pE.aI (.au m6 wU))))
  (fun wU =>
  .ret (let cr:=hB 1 eI aV.2;let dr:=bf 1 (ca 83 1 1) aV.1;bJ (t15.append [.al false,(ab 3),.al false,.aS (aO 1 (aZ (.call {ar:=[],b5:=[],ac:=[ii],r:= .agg [.a6 0 0 0 aD.1.length,.a6 0 1 0 aD.2.length],cY:=[[U.mk 4 (aD.1.map aH) .live,U.mk 3 (aD.2.map aX) .live]],eC:= .bS (.agg [.id,.id]),fo:=[.dZ [U.mk 4 (aD.1.map aH) .live,U.mk 3 (aD.2.map aX) .live]],eg:=[],eb:=true}) (aO 1 (aZ (.call {ar:=[],b5:=[],ac:=[ii],r:= .a6 0 0 0 aV.1.length,cY:=[(U.mk 1 (aV.1.map (ca 0 1 1)) .live::cr)],eC:=ii,fo:=[.dZ (U.mk 1 (aV.1.map (ca 83 1 1)) .live::cr)],eg:=[],eb:=true}) (aZ (.call {ar:=[],b5:=[],ac:=[.bS (.agg [.ek (aD.1.map aH),.ek (aD.2.map aX)]),.bS (.d6 (.view 83 (U.mk 1 (aV.1.map (ca 83 1 1)) .live) ((aV.1.map (hb aV.2)).map (eL 1 eI))))],r:= .agg [.n .i64 (0:Int),.n .i64 (0:Int),.isl 1 (([]:List Int).map eI),.isl 1 (([]:List Int).map eI),.isl 1 (([]:List Int).map eI)],cY:=[],eC:=ii,fo:=[],eg:=[81,83],eb:=true}) (aO 2 [])))))),.aS (bM 2 (cF 2 (.b im) true) 1),.al false,(ab 1),.aS (bM 2 (cF 2 (.n .i64 nJ) true) 1),(ab 2),.al false,(ab 3),.al false,(ab 1)]) (pE.aI (.b0 m6 wU (cE (dN (dU [81]) 4 oU aD.1) (cE (dN (dU [81]) 3 oQ aD.2) (hp (bn:=(dU [81]))))) ((eh rfl (eh rfl jS)):fE [U.mk 4 (aD.1.map aH) .live,U.mk 3 (aD.2.map aX) .live]) (qm aD cC) (bj.agg (eV (bj.a6 0 0 0 aD.1.length) (eV (bj.a6 0 1 0 aD.2.length) k4))) ((jb (gn (f7 oV) (gn (f7 oR) lo)) jc):h4 [[U.mk 4 (aD.1.map aH) .live,U.mk 3 (aD.2.map aX) .live]]) (cE (kc (dU [83]) 83 0 1 1 rfl aV.1) (kA (dU [83]) 1 dc aV.2)) (.b0 ((eh rfl (mj (h9 .live 1 eI aV.2))):fE (U.mk 1 (aV.1.map (ca 0 1 1)) .live::cr)) (qE aV df) (bj.a6 0 0 0 aV.1.length) ((jb (gn (f7 (rj _ _ _)) (qY je)) jc):h4 [(U.mk 1 (aV.1.map (ca 0 1 1)) .live::cr)]) (fx aH aD.1) (eN aH aD.1) (dF hn aD.1) (fx aX aD.2) (.b0 (eN aX aD.2) (dF hl aD.2) (rfl:b4 (some (U.mk 1 (aV.1.map (ca 83 1 1)) .live::cr)) 0=some (U.mk 1 (aV.1.map (ca 83 1 1)) .live)) (rfl:_=true) (eN (ca 83 1 1) aV.1) (dF (jU (sz:=1) ba) (aV.1.map (hb aV.2))) (nm (cI:=83) (fN:=dr++cr) (bl:=gR) (sz:=1) (g:=(eL 1 eI)) (d3 (ca 83 1 1) aV.1) (fun _=>rfl) (fun x J=>(oi (cI:=83) (c:=1) (bl:=gR) (ls:=dr) (h9 .live 1 eI aV.2) ba rfl oq rfl (n3 gv x J))) (dD aV.1)) (uU (.inr bH) l8) (.hT (bj.agg (eV (bj.n .i64 (0:Int)) (eV (bj.n .i64 (0:Int)) (eV (bj.gb _:bj (.isl 1 (([]:List Int).map eI))) (eV (bj.gb _:bj (.isl 1 (([]:List Int).map eI))) (eV (bj.gb _:bj (.isl 1 (([]:List Int).map eI))) k4)))))) (qF im nH) (bj.b im) (c5 lG) (uX nJ pD) (bj.n .i64 nJ) m6 wU))))))))))))
  (fun pC =>
  .ret (bJ (t11.append [.al true,(ab 1)]) (uv.aI (.e1 (c0 pC)))))))
  (fun iG =>
  .ret (bJ (t9.append [.al true,(ab 1)]) (uu.aI (.e1 (c0 iG)))))))
  (fun lG =>
  .ret (bJ (t7.append [.al true,(ab 1)]) (lK.aI (.e1 (c0 lG)))))))))))))
end Go.Proofs.Ytdkjpcaalflfhac
