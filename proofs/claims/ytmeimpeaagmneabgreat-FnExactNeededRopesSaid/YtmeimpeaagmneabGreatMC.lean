/- Lemmas, plain functions of the program, and what they answer. No condition. -/
import Derived.Test.YtmeimpeaagmneabGreatMB
namespace Go.Proofs.YtmeimpeaagmneabGreat
set_option linter.unusedVariables false
set_option linter.unusedSimpArgs false
open Go Go.VL
def AP (ag:bo)(jm:Int):Option Int :=
 if (decide ((R (jm-(ag.hj.size:Int)))<(0:Int)))=true then
  some (-1)
 else
  some (R (jm-(ag.hj.size:Int)))
theorem YZ {ag:bo}{jm:Int}:bD (AP ag jm) (fun r=>Con a4 28 [.agg (bw ag),.n .i64 jm] [] (.n .i64 r) []):=by
 unfold AP
 exact (let t1:List b0:=[(J 2),(J 6),(J 2)];
  .ite (fun h1 =>
  .ret (bA (t1.append [.aa true,(J 1)]) (.e1 h1)))
  (fun h1 =>
  .ret (bA (t1.append [.aa false,(J 2)]) (.e1 h1))))
def HZ (ag:List bo):(Int×Int)→S:=fun (jm,ad)=>dv [(0,.isl 4 (ag.map bw)),(1,.n .i64 jm),(5,.n .i64 ad)] []
def Ik (ag:List bo):((Int)⊕(Unit))→dy
 | .inl a=>⟨some 0,[(1,.n .i64 a)],[]⟩
 | .inr a=>⟨none,[(4,.n .i64 (-1:Int))],[]⟩
def uA (ag:List bo)(jm ad:Int):Option ((Int×Int)⊕((Int)⊕(Unit))) :=
 if (decide (ad<(len_ bw ag)))=true then
  if 0≤ad∧ad<ag.length then
  ag[ad.toNat]? >>= fun az =>
  AP az jm >>= fun ax =>
  if (decide (ax<(0:Int)))=true then
   some (.inr (.inr ()))
  else
   some (.inl (ax,R (ad+(1:Int))))
  else none
 else
  some (.inr (.inl jm))
def J5 (ag:List bo)(jm ad:Int):Option ((Int)⊕(Unit)):=iter (fun w:Int×Int=>uA ag w.1 w.2) (jm,ad)
theorem V0 {ag:List bo}{jm ad:Int}:bD (uA ag jm ad) (dO a4 27 0 14 [1,1,1,0,1,0,0] (HZ ag (jm,ad)) (HZ ag) (Ik ag)):=by
 unfold uA
 exact .ite (fun h1 =>
  .aY fun o =>
  .ar fun az av =>
  .ar fun ax aX =>
  (let t1:List b0:=[(J 4),.aa true,.aw (ai 3 (aj (.b5 (bw az)) (bq 1 (bu 2 (.n .i64 ax) true) 1))),(J 2)];
  have aV:=((.dW h1 o.1 (cX bw o.2) (b1 bw av) (YZ ax aX) (bR.n .i64 ax)):cA _);
  .ite (fun bf =>
  .ret (bg (t1.append [.aa true,(J 1),.aN [] [] (a8 [4])]) (aV.aI (.e1 bf))))
  (fun bf =>
  .ret (bg (t1.append [.aa false,(J 3),.aN [] [] (a8 [0,1,5])]) (aV.aI (.e1 bf))))))
  (fun h1 =>
  .ret (bg [(J 4),.aa false,.aN [] [] (a8 [1])] (.e1 h1)))
theorem OH {ag:List bo}{jm ad:Int}{r} (h:J5 ag jm ad=some r):dP a4 27 0 14 [1,1,1,0,1,0,0] (HZ ag) (Ik ag) (jm,ad) r:=dQ (fun _=>V0) h
def Av (ag:List bo)(jm:Int):Option Int :=
 if (decide ((R (jm-(len_ bw ag)))<(0:Int)))=true then
  some (-1)
 else
  J5 ag (R (jm-(len_ bw ag))) 0 >>= fun bV =>
  match bV with
  | .inl f7=>(some f7)
  | .inr f7=>(some (-1))
theorem Yx {ag:List bo}{jm:Int}:bD (Av ag jm) (fun r=>Con a4 14 [.isl 4 (ag.map bw),.n .i64 jm] [] (.n .i64 r) []):=by
 unfold Av
 exact (let t1:List b0:=[(J 1),(J 5),(J 2)];
  .ite (fun h1 =>
  .ret (bA (t1.append [.aa true,(J 1)]) (.e1 h1)))
  (fun h1 =>
  .ar fun bV af =>
  (let t2:List b0:=t1.append [.aa false,(J 1),.aN [] [] (a8 [0,1,5])];
  (by
  rcases bV with f7|f7
  ·exact (.ret (bA (t2.append [.sub (.exit 0) [(1,.n .i64 f7)] [],(J 2)]) (.aD h1 (OH af))))
  ·exact (.ret (bA (t2.append [(Ik ag (.inr f7)).e8]) (.aD h1 (OH af))))))))
def An (ag:List bC)(jm:Int):Option Int :=
 if (decide ((R (jm-(len_ bB ag)))<(0:Int)))=true then
  some (-1)
 else
  some (R (jm-(len_ bB ag)))
theorem Yf {ag:List bC}{jm:Int}:bD (An ag jm) (fun r=>Con a4 15 [.isl 3 (ag.map bB),.n .i64 jm] [] (.n .i64 r) []):=by
 unfold An
 exact (let t1:List b0:=[(J 1),(J 5),(J 2)];
  .ite (fun h1 =>
  .ret (bA (t1.append [.aa true,(J 1)]) (.e1 h1)))
  (fun h1 =>
  .ret (bA (t1.append [.aa false,(J 2)]) (.e1 h1))))
def Ad (ag:cl)(jm:Int):Option Int :=
 Av ag.bY jm >>= fun r1 =>
 if (decide (r1<(0:Int)))=true then
  some (-1)
 else
  An ag.bs r1 >>= fun a6 =>
  if (decide (a6<(0:Int)))=true then
   some (-1)
  else
   some a6
theorem Xx {ag:cl}{jm:Int}:bD (Ad ag jm) (fun r=>Con a4 4 [.agg (gf ag),.n .i64 jm] [] (.n .i64 r) []):=by
 unfold Ad
 exact .ar fun r1 o =>
  (let t1:List b0:=[(J 2),.aw (bq 3 (bu 2 (.n .i64 r1) true) 1),(J 2)];
  have aV:=((.aD (Yx r1 o) (bR.n .i64 r1)):cA _);
  .ite (fun af =>
  .ret (bA (t1.append [.aa true,(J 1)]) (aV.aI (.e1 af))))
  (fun af =>
  .ar fun a6 aA =>
  (let t3:List b0:=t1.append [.aa false,.aw (bq 3 (bu 2 (.n .i64 a6) true) 1),(J 2)];
  have eA:=aV.aI (.bP af (Yf a6 aA) (bR.n .i64 a6));
  .ite (fun aX =>
  .ret (bA (t3.append [.aa true,(J 1)]) (eA.aI (.e1 aX))))
  (fun aX =>
  .ret (bA (t3.append [.aa false,(J 2)]) (eA.aI (.e1 aX)))))))
def Eo (ag:bo):Option bo :=
 some ag
theorem Y0 {ag:bo}:bD (Eo ag) (fun r=>Con a4 34 [.agg (bw ag)] [] (.agg (bw r)) []):=by
 unfold Eo
 exact .ret (bA [(J 2),(J 1),(J 4),(J 4),(J 4),(J 4),(J 2)] .nil)
def Hn (ag:List bo):(Int×(List bo))→S:=fun (ad,ab)=>dv [(0,.isl 4 (ag.map bw)),(3,.bh 0 0 0 ab.length),(4,.n .i64 ad)] [(au 4 bw ab)]
def HJ (ag:List bo):(List bo)→dy
 | a=>⟨some 0,[(3,.bh 0 0 0 a.length)],[(au 4 bw a)]⟩
def uz (ag:List bo)(ad:Int)(ab:List bo):Option ((Int×(List bo))⊕((List bo))) :=
 if (decide (ad<(len_ bw ag)))=true then
  if 0≤ad∧ad<ag.length then
  ag[ad.toNat]? >>= fun az =>
  Eo az >>= fun ax =>
  if 0≤ad∧ad<(ab.length:Nat) then
  if (0+ad.toNat)<ab.length then
  some (.inl (R (ad+(1:Int)),ab.set (0+ad.toNat) ax))
  else none
  else none
  else none
 else
  some (.inr ab)
def Js (ag:List bo)(ad:Int)(ab:List bo):Option ((List bo)):=iter (fun w:Int×(List bo)=>uz ag w.1 w.2) (ad,ab)
theorem Vx {ag:List bo}{ad:Int}{ab:List bo}:bD (uz ag ad ab) (dO a4 23 0 18 [1,1,0,1,0,0] (Hn ag (ad,ab)) (Hn ag) (HJ ag)):=by
 unfold uz
 exact .ite (fun h1 =>
  .aY fun o =>
  .ar fun az av =>
  .ar fun ax aX =>
  .aY fun bf =>
  .aY fun bl =>
  .ret (bg [(J 4),.aa true,.aw (ai 5 (aj (.b5 (bw az)) (aj (bu 1 (.agg (bw ax)) false) (ai 1 (aj .fZ []))))),(J 3),.aN [0] [.cG (au 4 bw (ab.set (0+ad.toNat) ax))] [(0,ii),(3,fW ((ab.set (0+ad.toNat) ax).length)),(4,ii)]] (.bi h1 o.1 (cX bw o.2) (b1 bw av) (Y0 ax aX) bf.1 bf.2 (hT bw bl) (.c4 (hM 4) (c2 4 .live (gP (cZ bw ab) (0+ad.toNat) ax)) (aJ 4 .live jy (ab.set (0+ad.toNat) ax)) (hi (dX ab) (0+ad.toNat) ax)))))
  (fun h1 =>
  .ret (bg [(J 4),.aa false,.aN [0] [.pure] (a8 [3])] (.aD h1 (aJ 4 .live jy ab))))
theorem W2 {ag:List bo}{ad:Int}{ab:List bo}{r} (h:Js ag ad ab=some r):dP a4 23 0 18 [1,1,0,1,0,0] (Hn ag) (HJ ag) (ad,ab) r:=dQ (fun _=>Vx) h
def Ah (ag:List bo):Option (List bo) :=
 if 0≤(len_ bw ag)∧(40:Int)*(len_ bw ag)≤281474976710656∧(len_ bw ag)<9223372036854775808 then
 Js ag 0 (List.replicate (len_ bw ag).toNat (⟨ByteArray.empty,0,0,false⟩:bo):List bo) >>= fun bV =>
 some bV
 else none
theorem XP {ag:List bo}:bD (Ah ag) (fun a=>Con a4 18 [.isl 4 (ag.map bw)] [] (.bh 0 0 0 a.length) [(au 4 bw a)]):=by
 unfold Ah
 exact .aY fun h1 =>
  .ar fun bV af =>
  .ret (let q1:=(List.replicate (len_ bw ag).toNat (⟨ByteArray.empty,0,0,false⟩:bo):List bo);kq [(J 1),(J 4),(J 1),.aN [3] [.cG (au 4 bw q1)] [(0,ii),(3,fW (q1.length)),(4,ii)],(HJ ag bV).e8,(J 2)] [0] [.pure] (.bi h1.1 (Int.le_refl (len_ bw ag)) h1.2.1 h1.2.2 (c2 4 .live (lY bw (len_ bw ag).toNat (⟨ByteArray.empty,0,0,false⟩:bo))) (aJ 4 .live jy q1) (mh (len_ bw ag).toNat ((⟨ByteArray.empty,0,0,false⟩:bo):bo)) (W2 af) (.e1 (aJ 4 .live jy bV))))
def Ei (ag:bC):Option bC :=
 some ag
theorem Yy {ag:bC}:bD (Ei ag) (fun r=>Con a4 35 [.agg (bB ag)] [] (.agg (bB r)) []):=by
 unfold Ei
 exact .ret (bA [(J 2),(J 1),(J 4),(J 4),(J 4),(J 2)] .nil)
def Hd (ag:List bC):(Int×(List bC))→S:=fun (ad,ab)=>dv [(0,.isl 3 (ag.map bB)),(3,.bh 0 0 0 ab.length),(4,.n .i64 ad)] [(au 3 bB ab)]
def Ho (ag:List bC):(List bC)→dy
 | a=>⟨some 0,[(3,.bh 0 0 0 a.length)],[(au 3 bB a)]⟩
def uy (ag:List bC)(ad:Int)(ab:List bC):Option ((Int×(List bC))⊕((List bC))) :=
 if (decide (ad<(len_ bB ag)))=true then
  if 0≤ad∧ad<ag.length then
  ag[ad.toNat]? >>= fun az =>
  Ei az >>= fun ax =>
  if 0≤ad∧ad<(ab.length:Nat) then
  if (0+ad.toNat)<ab.length then
  some (.inl (R (ad+(1:Int)),ab.set (0+ad.toNat) ax))
  else none
  else none
  else none
 else
  some (.inr ab)
def IV (ag:List bC)(ad:Int)(ab:List bC):Option ((List bC)):=iter (fun w:Int×(List bC)=>uy ag w.1 w.2) (ad,ab)
theorem Vo {ag:List bC}{ad:Int}{ab:List bC}:bD (uy ag ad ab) (dO a4 23 0 19 [1,1,0,1,0,0] (Hd ag (ad,ab)) (Hd ag) (Ho ag)):=by
 unfold uy
 exact .ite (fun h1 =>
  .aY fun o =>
  .ar fun az av =>
  .ar fun ax aX =>
  .aY fun bf =>
  .aY fun bl =>
  .ret (bg [(J 4),.aa true,.aw (ai 5 (aj (.b5 (bB az)) (aj (bu 1 (.agg (bB ax)) false) (ai 1 (aj .fZ []))))),(J 3),.aN [0] [.cG (au 3 bB (ab.set (0+ad.toNat) ax))] [(0,ii),(3,fW ((ab.set (0+ad.toNat) ax).length)),(4,ii)]] (.bi h1 o.1 (cX bB o.2) (b1 bB av) (Yy ax aX) bf.1 bf.2 (hT bB bl) (.c4 (hM 3) (c2 3 .live (gP (cZ bB ab) (0+ad.toNat) ax)) (aJ 3 .live iV (ab.set (0+ad.toNat) ax)) (hi (dX ab) (0+ad.toNat) ax)))))
  (fun h1 =>
  .ret (bg [(J 4),.aa false,.aN [0] [.pure] (a8 [3])] (.aD h1 (aJ 3 .live iV ab))))
theorem WC {ag:List bC}{ad:Int}{ab:List bC}{r} (h:IV ag ad ab=some r):dP a4 23 0 19 [1,1,0,1,0,0] (Hd ag) (Ho ag) (ad,ab) r:=dQ (fun _=>Vo) h
def Ae (ag:List bC):Option (List bC) :=
 if 0≤(len_ bB ag)∧(24:Int)*(len_ bB ag)≤281474976710656∧(len_ bB ag)<9223372036854775808 then
 IV ag 0 (List.replicate (len_ bB ag).toNat (⟨0,0,0⟩:bC):List bC) >>= fun bV =>
 some bV
 else none
theorem Xy {ag:List bC}:bD (Ae ag) (fun a=>Con a4 19 [.isl 3 (ag.map bB)] [] (.bh 0 0 0 a.length) [(au 3 bB a)]):=by
 unfold Ae
 exact .aY fun h1 =>
  .ar fun bV af =>
  .ret (let q1:=(List.replicate (len_ bB ag).toNat (⟨0,0,0⟩:bC):List bC);kq [(J 1),(J 4),(J 1),.aN [3] [.cG (au 3 bB q1)] [(0,ii),(3,fW (q1.length)),(4,ii)],(Ho ag bV).e8,(J 2)] [0] [.pure] (.bi h1.1 (Int.le_refl (len_ bB ag)) h1.2.1 h1.2.2 (c2 3 .live (lY bB (len_ bB ag).toNat (⟨0,0,0⟩:bC))) (aJ 3 .live iV q1) (mh (len_ bB ag).toNat ((⟨0,0,0⟩:bC):bC)) (WC af) (.e1 (aJ 3 .live iV bV))))
def z9 (ag:cl):Option ((List bo)×(List bC)) :=
 Ah ag.bY >>= fun r1 =>
 Ae ag.bs >>= fun bn =>
 some (r1,bn)
theorem xu {ag:cl}:bD (z9 ag) (fun a=>Con a4 6 [.agg (gf ag)] [] (.agg [.bh 0 0 0 a.1.length,.bh 0 1 0 a.2.length]) [[ae.mk 4 (a.1.map bw) .live,ae.mk 3 (a.2.map bB) .live]]):=by
 unfold z9
 exact .ar fun r1 o =>
  .ar fun bn av =>
  .ret (kq [(J 2),(J 1),.aw (bq 2 (.call {a2:=[],dc:=[],ac:=[ii],r:= .bh 0 0 0 r1.length,eV:=[(au 4 bw r1)],gr:=ii,hC:=[.pure],eC:=[],ej:=true}) 2),.aw (bq 2 (.call {a2:=[],dc:=[],ac:=[ii],r:= .bh 0 0 0 bn.length,eV:=[(au 3 bB bn)],gr:=ii,hC:=[.pure],eC:=[],ej:=true}) 2),(J 2),.CN [{bK:=[(5,0),(10,0)],iS:=none},{bK:=[(1,0)]}] [([.pure,.pure],none),([.box [.at_ 0 0 r1.length,.at_ 0 1 bn.length]],none)] [(2,.bp (.cJ (.at_ 1 0 0)))]] [0] [.bM [ae.mk 4 (r1.map bw) .live,ae.mk 3 (bn.map bB) .live]] (.bi (f9 4 jy r1) (XP r1 o) (bR.bh 0 0 0 r1.length) ((mT (k8 (kX vd) mX) mW):lx [(au 4 bw r1)]) (f9 3 iV bn) (Xy bn av) (bR.bh 0 0 0 bn.length) ((mT (k8 (kX u3) mX) mW):lx [(au 3 bB bn)]) (.gz (aJ 4 .live jy r1) (aJ 3 .live iV bn) (rfl:(kS [{bK:=[(5,0),(10,0)],iS:=none},{bK:=[(1,0)]}]) 0 0=some (5,0)) (rfl:r1.length=r1.length) (rfl:(kS [{bK:=[(5,0),(10,0)],iS:=none},{bK:=[(1,0)]}]) 0 1=some (10,0)) (rfl:bn.length=bn.length) (rfl:(kS [{bK:=[(5,0),(10,0)],iS:=none},{bK:=[(1,0)]}]) 1 0=some (1,0)) (db (fO (b2 [0]) 4 vc r1) (db (fO (b2 [0]) 3 u2 bn) (nQ (cd:=(b2 [0]))))))) (.bp (.agg [.id,.id])))
def H0 (ag:List Int):(Int×(List Int))→S:=fun (ad,ab)=>dv [(0,.isl 1 (ag.map eI)),(3,.bh 0 0 0 ab.length),(4,.n .i64 ad)] [(au 1 eI ab)]
def Il (ag:List Int):(List Int)→dy
 | a=>⟨some 0,[(3,.bh 0 0 0 a.length)],[(au 1 eI a)]⟩
def uB (ag:List Int)(ad:Int)(ab:List Int):Option ((Int×(List Int))⊕((List Int))) :=
 if (decide (ad<(len_ eI ag)))=true then
  if 0≤ad∧ad<ag.length then
  ag[ad.toNat]? >>= fun az =>
  if 0≤ad∧ad<(ab.length:Nat) then
  if (0+ad.toNat)<ab.length then
  some (.inl (R (ad+(1:Int)),ab.set (0+ad.toNat) az))
  else none
  else none
  else none
 else
  some (.inr ab)
def J6 (ag:List Int)(ad:Int)(ab:List Int):Option ((List Int)):=iter (fun w:Int×(List Int)=>uB ag w.1 w.2) (ad,ab)
theorem V1 {ag:List Int}{ad:Int}{ab:List Int}:bD (uB ag ad ab) (dO a4 22 0 7 [1,1,0,1,0,0] (H0 ag (ad,ab)) (H0 ag) (Il ag)):=by
 unfold uB
 exact .ite (fun h1 =>
  .aY fun o =>
  .ar fun az av =>
  .aY fun aA =>
  .aY fun aX =>
  .ret (bg [(J 4),.aa true,.aw (ai 5 (aj (.b5 (eI az)) (ai 1 (aj .fZ [])))),(J 3),.aN [0] [.cG (au 1 eI (ab.set (0+ad.toNat) az))] [(0,ii),(3,fW ((ab.set (0+ad.toNat) az).length)),(4,ii)]] (.bi h1 o.1 (cX eI o.2) (b1 eI av) aA.1 aA.2 (hT eI aX) (hM 1) (.bP (c2 1 .live (gP (cZ eI ab) (0+ad.toNat) az)) (aJ 1 .live aO (ab.set (0+ad.toNat) az)) (hi (dX ab) (0+ad.toNat) az)))))
  (fun h1 =>
  .ret (bg [(J 4),.aa false,.aN [0] [.pure] (a8 [3])] (.aD h1 (aJ 1 .live aO ab))))
theorem Xz {ag:List Int}{ad:Int}{ab:List Int}{r} (h:J6 ag ad ab=some r):dP a4 22 0 7 [1,1,0,1,0,0] (H0 ag) (Il ag) (ad,ab) r:=dQ (fun _=>V1) h
def Aw (ag:List Int):Option (List Int) :=
 if 0≤(len_ eI ag)∧(8:Int)*(len_ eI ag)≤281474976710656∧(len_ eI ag)<9223372036854775808 then
 J6 ag 0 (List.replicate (len_ eI ag).toNat 0:List Int) >>= fun bV =>
 some bV
 else none
theorem yc {ag:List Int}:bD (Aw ag) (fun a=>Con a4 7 [.isl 1 (ag.map eI)] [] (.bh 0 0 0 a.length) [(au 1 eI a)]):=by
 unfold Aw
 exact .aY fun h1 =>
  .ar fun bV af =>
  .ret (let q1:=(List.replicate (len_ eI ag).toNat 0:List Int);kq [(J 1),(J 4),(J 1),.aN [3] [.cG (au 1 eI q1)] [(0,ii),(3,fW (q1.length)),(4,ii)],(Il ag bV).e8,(J 2)] [0] [.pure] (.bi h1.1 (Int.le_refl (len_ eI ag)) h1.2.1 h1.2.2 (c2 1 .live (lY eI (len_ eI ag).toNat 0)) (aJ 1 .live aO q1) (mh (len_ eI ag).toNat (0:Int)) (Xz af) (.e1 (aJ 1 .live aO bV))))
def mB (a3 mo mF:Int):Option Bool :=
 if (decide (mo≤a3))=true then
  some (decide (a3≤mF))
 else
  some false
theorem qi {a3 mo mF:Int}:bD (mB a3 mo mF) (fun r=>Con a4 46 [.n .i64 a3,.n .i64 mo,.n .i64 mF] [] (.b r) []):=by
 unfold mB
 exact .ite (fun h1 =>
  .ret (bA [(J 1),.aw (bq 7 (.aa true) 1)] (.c4 h1 h1 h1 h1)))
  (fun h1 =>
  .ret (bA [(J 1),.aw (ai 4 (cx 3 (aj (.aa false) (ai 1 []))))] (.c4 h1 h1 h1 h1)))
def IW (aH:ByteArray):Int→S:=fun ad=>dv [(0,.s aH),(3,.n .i64 ad)] []
def OR (aH:ByteArray):((Unit)⊕(Unit))→dy
 | .inl a=>⟨some 0,[(0,.s aH)],[]⟩
 | .inr a=>⟨none,[(2,.b false)],[]⟩
def tm (aH:ByteArray)(ad:Int):Option ((Int)⊕((Unit)⊕(Unit))) :=
 if (decide (ad<(aH.size:Int)))=true then
  if 0≤ad∧ad<(aH.size:Nat) then
  if (decide ((97:Int)≤((aH.data.toList.getD ad.toNat 0).toNat:Int)))=true then
   if (decide (((aH.data.toList.getD ad.toNat 0).toNat:Int)≤(122:Int)))=true then
    some (.inl (R (ad+(1:Int))))
   else
    if (ad == (0:Int))=true then
     some (.inr (.inr ()))
    else
     if (decide (((aH.data.toList.getD ad.toNat 0).toNat:Int)<(48:Int)))=true then
      some (.inr (.inr ()))
     else
      if (decide ((57:Int)<((aH.data.toList.getD ad.toNat 0).toNat:Int)))=true then
       some (.inr (.inr ()))
      else
       some (.inl (R (ad+(1:Int))))
  else
   if (ad == (0:Int))=true then
    some (.inr (.inr ()))
   else
    if (decide (((aH.data.toList.getD ad.toNat 0).toNat:Int)<(48:Int)))=true then
     some (.inr (.inr ()))
    else
     if (decide ((57:Int)<((aH.data.toList.getD ad.toNat 0).toNat:Int)))=true then
      some (.inr (.inr ()))
     else
      some (.inl (R (ad+(1:Int))))
  else none
 else
  some (.inr (.inl ()))
def Ao (aH:ByteArray)(ad:Int):Option ((Unit)⊕(Unit)):=iter (fun w:Int=>tm aH w) ad
theorem WD {aH:ByteArray}{ad:Int}:bD (tm aH ad) (dO a4 42 0 91 [1,0,1,0,0] (IW aH ad) (IW aH) (OR aH)):=by
 unfold tm
 exact .ite (fun h1 =>
  .aY fun o =>
  .ite (fun af =>
  (let t1:List b0:=[(J 4),.aa true,.aw (bq 9 (.aa true) 1)];
  have aV:=((.bi h1 o.1 o.2 af af af o.1 o.2 (.aD af af)):cA _);
  .ite (fun av =>
  .ret (bg (t1.append [.aw (ai 3 (cx 3 (ai 4 (cx 2 (ai 4 (cx 1 (aj (.aa false) []))))))),.aa false,(J 3),.aN [] [] (a8 [0,3])]) (aV.aI (.gz (cO av) (cO av) (cO av) (cO av) (cO av) (cO av) (cO av) cK))))
  (fun av =>
  (have fI:=aV.aI (.bP (cM av) (cM av) (cM av));
  .ite (fun aA =>
  .ret (bg (t1.append [.aw (ai 6 (cx 4 (aj (.aa true) (ai 1 (cx 4 (ai 1 (aj (.aa true) []))))))),.aa true,(J 1),.aN [] [] (a8 [2])]) (fI.aI (.bi aA aA aA aA (cM av) aA (cM av) cT (.dW cT cT cT (cM av) (cM av) cT)))))
  (fun aA =>
  (have eA:=fI.aI (.bi aA aA aA o.1 o.2 aA (cM av) aA (.e1 (cM av)));
  .ite (fun aX =>
  .ret (bg (t1.append [.aw (ai 10 (aj (.aa false) (ai 1 (cx 4 (aj (.aa true) (aj (.aa true) [])))))),.aa true,(J 1),.aN [] [] (a8 [2])]) (eA.aI (.gz aX aX aX aX (cM av) aX (cM av) cT))))
  (fun aX =>
  (let t5:List b0:=t1.append [.aw (ai 10 (aj (.aa false) (ai 5 (aj (.aa false) (aj (.aa true) [])))))];
  have kj:=eA.aI (.bi aX aX aX o.1 o.2 aX (cM av) aX (.e1 (cM av)));
  .ite (fun bf =>
  .ret (bg (t5.append [.aa true,(J 1),.aN [] [] (a8 [2])]) (kj.aI (.e1 bf))))
  (fun bf =>
  .ret (bg (t5.append [.aa false,(J 3),.aN [] [] (a8 [0,3])]) (kj.aI (.e1 bf))))))))))))
  (fun af =>
  (let t1:List b0:=[(J 4),.aa true,.aw (ai 5 (cx 4 (aj (.aa false) (ai 1 []))))];
  have aV:=((.bi h1 o.1 o.2 af af af af af (.bP cT cT cT)):cA _);
  .ite (fun av =>
  .ret (bg (t1.append [.aw (ai 6 (cx 4 (aj (.aa true) (ai 1 (cx 4 (ai 2 [])))))),.aa true,(J 1),.aN [] [] (a8 [2])]) (aV.aI (.bi av av av av cT av cT cT (.dh cT cT cT cT cT)))))
  (fun av =>
  (have fI:=aV.aI (.bi av av av o.1 o.2 av cT av (.e1 cT));
  .ite (fun aA =>
  .ret (bg (t1.append [.aw (ai 10 (aj (.aa false) (ai 1 (cx 4 (aj (.aa true) (ai 1 [])))))),.aa true,(J 1),.aN [] [] (a8 [2])]) (fI.aI (.eP aA aA aA aA cT aA cT))))
  (fun aA =>
  (let t4:List b0:=t1.append [.aw (ai 10 (aj (.aa false) (bq 5 (.aa false) 1)))];
  have mz:=fI.aI (.gz aA aA aA o.1 o.2 aA cT aA);
  .ite (fun aX =>
  .ret (bg (t4.append [.aa true,(J 1),.aN [] [] (a8 [2])]) (mz.aI (.e1 aX))))
  (fun aX =>
  .ret (bg (t4.append [.aa false,(J 3),.aN [] [] (a8 [0,3])]) (mz.aI (.e1 aX)))))))))))
  (fun h1 =>
  .ret (bg [(J 4),.aa false,.aN [] [] (a8 [0])] (.e1 h1)))
theorem O1 {aH:ByteArray}{ad:Int}{r} (h:Ao aH ad=some r):dP a4 42 0 91 [1,0,1,0,0] (IW aH) (OR aH) ad r:=dQ (fun _=>WD) h
def tu (aH:ByteArray):Option Bool :=
 Ao aH 0 >>= fun r1 =>
 match r1 with
 | .inl dd=>(mB (aH.size:Int) 1 8 >>= fun a6 =>
  some a6)
 | .inr dd=>(some false)
theorem Zo {aH:ByteArray}:bD (tu aH) (fun r=>Con a4 91 [.s aH] [] (.b r) []):=by
 unfold tu
 exact .ar fun r1 o =>
  (let t1:List b0:=[(J 1),(J 1),.aN [] [] (a8 [0,3])];
  (by
  rcases r1 with dd|dd
  ·exact (.ar fun a6 aA =>
  .ret (bA (t1.append [.sub (.exit 0) [(0,.s aH)] [],.aw (bq 2 (bu 3 (.b a6) true) 1)]) (.bP (O1 o) (qi a6 aA) (bR.b a6))))
  ·exact (.ret (bA (t1.append [.sub (.ret) [(2,.b false)] []]) (.e1 (O1 o))))))
def pI (bX:bo):Option Bool :=
 tu bX.hj >>= fun r1 =>
 if r1=true then
  mB bX.ga (-50) 50 >>= fun a6 =>
  if a6=true then
   mB bX.f6 (-50) 50 >>= fun bO =>
   some bO
  else
   some false
 else
  some false
theorem Y1 {bX:bo}:bD (pI bX) (fun r=>Con a4 63 [.agg (bw bX)] [] (.b r) []):=by
 unfold pI
 exact .ar fun r1 o =>
  (have b9:=((.aD (Zo r1 o) (bR.b r1)):cA _);
  .ite (fun af =>
  .ar fun a6 aA =>
  (have aV:=b9.aI (.dW af af af (qi a6 aA) (bR.b a6) af);
  .ite (fun aX =>
  .ar fun bO bl =>
  .ret (bA [(J 2),.aw (ai 2 (aj (bu 1 (.b r1) true) (ai 3 (aj (bu 3 (.b a6) true) (aj (.aa true) (ai 3 (aj (bu 3 (.b bO) true) (aj (.aa true) (ai 1 [])))))))))] (aV.aI (.dW aX aX aX (qi bO bl) (bR.b bO) aX))))
  (fun aX =>
  .ret (bA [(J 2),.aw (ai 2 (aj (bu 1 (.b r1) true) (ai 3 (aj (bu 3 (.b a6) true) (aj (.aa true) (ai 1 (cx 3 (aj (.aa false) (ai 1 [])))))))))] (aV.aI (.c4 aX aX aX aX))))))
  (fun af =>
  .ret (bA [(J 2),.aw (ai 2 (aj (bu 1 (.b r1) true) (ai 1 (cx 3 (aj (.aa false) (ai 1 (cx 3 (ai 2 []))))))))] (b9.aI (.eP af af af af cK cK cK)))))
def Hp (kM:ByteArray)(cL:List bo)(dJ:Int):Int→S:=fun df=>dv [(1,.s kM),(8,.isl 4 (cL.map bw)),(9,.n .i64 dJ),(10,.n .i64 df)] []
def Om (kM:ByteArray)(cL:List bo)(dJ:Int):((Unit)⊕(Int))→dy
 | .inl a=>⟨some 0,[],[]⟩
 | .inr a=>⟨none,[(4,.n .i64 a)],[]⟩
def xf (kM:ByteArray)(cL:List bo)(dJ df:Int):Option ((Int)⊕((Unit)⊕(Int))) :=
 if (decide (df<dJ))=true then
  if 0≤df∧df<cL.length then
  cL[df.toNat]? >>= fun az =>
  if (az.hj.toList == kM.toList)=true then
   some (.inr (.inr df))
  else
   some (.inl (R (df+(1:Int))))
  else none
 else
  some (.inr (.inl ()))
def x3 (kM:ByteArray)(cL:List bo)(dJ df:Int):Option ((Unit)⊕(Int)):=iter (fun w:Int=>xf kM cL dJ w) df
theorem Vy {kM:ByteArray}{cL:List bo}{dJ df:Int}:bD (xf kM cL dJ df) (dO a4 21 0 64 [1,0,1,0,0] (Hp kM cL dJ df) (Hp kM cL dJ) (Om kM cL dJ)):=by
 unfold xf
 exact .ite (fun h1 =>
  .aY fun o =>
  .ar fun az av =>
  (let t1:List b0:=[(J 1),.aa true,.aw (bq 2 (.b5 (bw az)) 3),(J 4)];
  have aV:=((.c4 h1 o.1 (cX bw o.2) (b1 bw av)):cA _);
  .ite (fun aA =>
  .ret (bg (t1.append [.aa true,(J 2),.aN [] [] (a8 [4])]) (aV.aI (.e1 aA))))
  (fun aA =>
  .ret (bg (t1.append [.aa false,(J 2),.aN [] [] (a8 [1,8,9,10])]) (aV.aI (.e1 aA))))))
  (fun h1 =>
  .ret (bg [(J 1),.aa false,.aN [] [] []] (.e1 h1)))
theorem Ou {kM:ByteArray}{cL:List bo}{dJ df:Int}{r} (h:x3 kM cL dJ df=some r):dP a4 21 0 64 [1,0,1,0,0] (Hp kM cL dJ) (Om kM cL dJ) df r:=dQ (fun _=>Vy) h
def uP (aH:cl)(kM:ByteArray):Option Int :=
 x3 kM aH.bY (len_ bw aH.bY) 0 >>= fun r1 =>
 match r1 with
 | .inl dd=>(some (-1))
 | .inr dd=>(some dd)
theorem XQ {aH:cl}{kM:ByteArray}:bD (uP aH kM) (fun r=>Con a4 64 [.agg (gf aH),.s kM] [] (.n .i64 r) []):=by
 unfold uP
 exact .ar fun r1 o =>
  (let t1:List b0:=[(J 2),(J 4),.aN [] [] (a8 [1,8,9,10])];
  (by
  rcases r1 with dd|dd
  ·exact (.ret (bA (t1.append [.sub (.exit 0) [] [],(J 1)]) (.e1 (Ou o))))
  ·exact (.ret (bA (t1.append [.sub (.ret) [(4,.n .i64 dd)] []]) (.e1 (Ou o))))))
def He (gR:List bo)(gC:Int)(aM:List bC):Int→S:=fun i9=>dv [(1,.ref 0 0 0 0),(21,.isl 4 (gR.map bw)),(22,.n .i64 gC),(23,.n .i64 i9)] [[ae.mk 2 [[.isl 4 (gR.map bw),.isl 3 (aM.map bB)]] .live]]
def Hq (gR:List bo)(gC:Int)(aM:List bC):((Unit)⊕(Unit))→dy
 | .inl a=>⟨some 0,[(1,.ref 0 0 0 0)],[[ae.mk 2 [[.isl 4 (gR.map bw),.isl 3 (aM.map bB)]] .live]]⟩
 | .inr a=>⟨none,[(2,.b false)],[]⟩
def rF (gR:List bo)(gC:Int)(aM:List bC)(i9:Int):Option ((Int)⊕((Unit)⊕(Unit))) :=
 if (decide (i9<gC))=true then
  if 0≤i9∧i9<gR.length then
  gR[i9.toNat]? >>= fun az =>
  pI az >>= fun ax =>
  if ax=true then
   uP (⟨gR,aM⟩:cl) az.hj >>= fun de =>
   if (de != i9)=true then
    some (.inr (.inr ()))
   else
    some (.inl (R (i9+(1:Int))))
  else
   some (.inr (.inr ()))
  else none
 else
  some (.inr (.inl ()))
def rH (gR:List bo)(gC:Int)(aM:List bC)(i9:Int):Option ((Unit)⊕(Unit)):=iter (fun w:Int=>rF gR gC aM w) i9
theorem Vp {gR:List bo}{gC:Int}{aM:List bC}{i9:Int}:bD (rF gR gC aM i9) (dO a4 102 0 45 [1,1,0,1,0,0] (He gR gC aM i9) (He gR gC aM) (Hq gR gC aM)):=by
 unfold rF
 exact .ite (fun h1 =>
  .aY fun o =>
  .ar fun az av =>
  .ar fun ax aX =>
  (let t1:List b0:=[(J 1),.aa true,.aw (bq 2 (.b5 (bw az)) 3)];
  have aV:=((.dW h1 o.1 (cX bw o.2) (b1 bw av) (Y1 ax aX) (bR.b ax)):cA _);
  .ite (fun bf =>
  .ar fun de cB =>
  (let t3:List b0:=t1.append [.aw (ai 1 (aj (bu 1 (.b ax) true) (ai 5 (aj (bu 2 (.n .i64 de) true) (ai 2 (aj (.aa false) []))))))];
  have eA:=aV.aI (.bi (cO bf) (cO bf) (cO bf) (cO bf) (XQ de cB) (bR.n .i64 de) (cO bf) (cO bf) (.e1 (cO bf)));
  .ite (fun cQ =>
  .ret (bg (t3.append [.aa true,(J 1),.aN [] [] (a8 [2])]) (eA.aI (.e1 cQ))))
  (fun cQ =>
  .ret (bg (t3.append [.aa false,(J 2),.aN [0] [.box [.id,.id]] (a8 [1,21,22,23])]) (eA.aI (.e1 cQ))))))
  (fun bf =>
  .ret (bg (t1.append [.aw (ai 1 (aj (bu 1 (.b ax) true) (ai 2 (cx 6 (aj (.aa true) []))))),.aa true,(J 1),.aN [] [] (a8 [2])]) (aV.aI (.gz (cM bf) (cM bf) (cM bf) (cM bf) (cM bf) (cM bf) (cM bf) cT))))))
  (fun h1 =>
  .ret (bg [(J 1),.aa false,.aN [0] [.box [.id,.id]] (a8 [1])] (.e1 h1)))
theorem On {gR:List bo}{gC:Int}{aM:List bC}{i9:Int}{r} (h:rH gR gC aM i9=some r):dP a4 102 0 45 [1,1,0,1,0,0] (He gR gC aM) (Hq gR gC aM) i9 r:=dQ (fun _=>Vp) h
def Hf (om:Int)(jP:List bC)(fi:Int)(aL:List bo):Int→S:=fun gJ=>dv [(1,.ref 0 0 0 0),(5,.n .i64 om),(45,.isl 3 (jP.map bB)),(46,.n .i64 fi),(47,.n .i64 gJ)] [[ae.mk 2 [[.isl 4 (aL.map bw),.isl 3 (jP.map bB)]] .live]]
def Oh (om:Int)(jP:List bC)(fi:Int)(aL:List bo):((Unit)⊕(Unit))→dy
 | .inl a=>⟨some 2,[],[]⟩
 | .inr a=>⟨none,[(2,.b false)],[]⟩
def zX (om:Int)(jP:List bC)(fi:Int)(aL:List bo)(gJ:Int):Option ((Int)⊕((Unit)⊕(Unit))) :=
 if (decide (gJ<fi))=true then
  if 0≤gJ∧gJ<jP.length then
  jP[gJ.toNat]? >>= fun az =>
  mB az.dt 0 om >>= fun ax =>
  if ax=true then
   mB az.dM 0 om >>= fun de =>
   if de=true then
    mB az.gk 1 3 >>= fun dp =>
    if dp=true then
     if 0≤az.dt∧az.dt<aL.length then
     aL[az.dt.toNat]? >>= fun zB =>
     if 0≤az.dM∧az.dM<aL.length then
     aL[az.dM.toNat]? >>= fun zC =>
     if (zB.ga == zC.ga)=true then
      if (zB.f6 == zC.f6)=true then
       some (.inr (.inr ()))
      else
       if zB.gQ=true then
        if zC.gQ=true then
         some (.inr (.inr ()))
        else
         some (.inl (R (gJ+(1:Int))))
       else
        some (.inl (R (gJ+(1:Int))))
     else
      if zB.gQ=true then
       if zC.gQ=true then
        some (.inr (.inr ()))
       else
        some (.inl (R (gJ+(1:Int))))
      else
       some (.inl (R (gJ+(1:Int))))
     else none
     else none
    else
     some (.inr (.inr ()))
   else
    some (.inr (.inr ()))
  else
   some (.inr (.inr ()))
  else none
 else
  some (.inr (.inl ()))
def DN (om:Int)(jP:List bC)(fi:Int)(aL:List bo)(gJ:Int):Option ((Unit)⊕(Unit)):=iter (fun w:Int=>zX om jP fi aL w) gJ
theorem Vq {om:Int}{jP:List bC}{fi:Int}{aL:List bo}{gJ:Int}:bD (zX om jP fi aL gJ) (dO a4 102 0 45 [1,1,1,1,0,1,0,0] (Hf om jP fi aL gJ) (Hf om jP fi aL) (Oh om jP fi aL)):=by
 unfold zX
 exact .ite (fun h1 =>
  .aY fun o =>
  .ar fun az av =>
  .ar fun ax aX =>
  (let t1:List b0:=[(J 1),.aa true,.aw (bq 1 (.b5 (bB az)) 2)];
  have aV:=((.dW h1 o.1 (cX bB o.2) (b1 bB av) (qi ax aX) (bR.b ax)):cA _);
  .ite (fun bf =>
  .ar fun de cB =>
  (have fI:=aV.aI (.gz (cO bf) (cO bf) (cO bf) (cO bf) (qi de cB) (bR.b de) (cO bf) (cO bf));
  .ite (fun cQ =>
  .ar fun dp eK =>
  (let t4:List b0:=t1.append [.aw (ai 3 (aj (bu 3 (.b ax) true) (ai 5 (aj (bu 3 (.b de) true) (ai 1 (aj (.aa false) (ai 3 (aj (bu 3 (.b dp) true) (ai 1 (aj (.aa false) []))))))))))];
  have mz:=fI.aI (.eP (cO cQ) (cO cQ) (cO cQ) (qi dp eK) (bR.b dp) (cO cQ) (cO cQ));
  .ite (fun eU =>
  .aY fun eL =>
  .ar fun zB hd =>
  .aY fun hQ =>
  .ar fun zC gy =>
  (let t6:List b0:=t4.append [.aa false,.aw (bq 5 (.b5 (bw zB)) 2),.aw (bq 5 (.b5 (bw zC)) 2)];
  have NT:=mz.aI (.eP (cO eU) eL.1 (cX bw eL.2) (b1 bw hd) hQ.1 (cX bw hQ.2) (b1 bw gy));
  .ite (fun fu =>
  .ite (fun gM =>
  .ret (bg (t6.append [.aw (ai 11 (aj (.aa true) (ai 1 (cx 3 (ai 2 (cx 1 (aj (.aa true) []))))))),.aa true,(J 1),.aN [] [] (a8 [2])]) (NT.aI (.bi fu fu fu fu fu fu gM gM (.c4 gM gM gM cT)))))
  (fun gM =>
  (have lU:=NT.aI (.bi fu fu fu fu fu fu gM gM (.e1 gM));
  .ite (fun ig =>
  (let t9:List b0:=t6.append [.aw (ai 11 (aj (.aa true) (ai 6 (aj (.aa true) (aj (.aa false) [])))))];
  .ite (fun ng =>
  .ret (bg (t9.append [.aa true,(J 1),.aN [] [] (a8 [2])]) (lU.aI (.dW ig ig gM ig gM ng))))
  (fun ng =>
  .ret (bg (t9.append [.aa false,(J 2),.aN [0] [.box [.id,.id]] (a8 [1,5,45,46,47])]) (lU.aI (.dW ig ig gM ig gM ng))))))
  (fun ig =>
  .ret (bg (t6.append [.aw (ai 11 (aj (.aa true) (ai 4 (cx 2 (aj (.aa false) (aj (.aa false) [])))))),.aa false,(J 2),.aN [0] [.box [.id,.id]] (a8 [1,5,45,46,47])]) (lU.aI (.dW ig ig gM ig gM cK)))))))
  (fun fu =>
  (have lU:=NT.aI (.bi fu fu fu fu fu fu cK cK (.e1 cK));
  .ite (fun gM =>
  (let t9:List b0:=t6.append [.aw (ai 6 (cx 5 (aj (.aa false) (bq 6 (.aa true) 1))))];
  .ite (fun ig =>
  .ret (bg (t9.append [.aa true,(J 1),.aN [] [] (a8 [2])]) (lU.aI (.dh gM gM cK gM ig))))
  (fun ig =>
  .ret (bg (t9.append [.aa false,(J 2),.aN [0] [.box [.id,.id]] (a8 [1,5,45,46,47])]) (lU.aI (.dh gM gM cK gM ig))))))
  (fun gM =>
  .ret (bg (t6.append [.aw (ai 6 (cx 5 (aj (.aa false) (ai 4 (cx 2 (aj (.aa false) (ai 1 []))))))),.aa false,(J 2),.aN [0] [.box [.id,.id]] (a8 [1,5,45,46,47])]) (lU.aI (.dh gM gM cK gM cK))))))))
  (fun eU =>
  .ret (bg (t4.append [.aa true,(J 1),.aN [] [] (a8 [2])]) (mz.aI (.e1 (cM eU)))))))
  (fun cQ =>
  .ret (bg (t1.append [.aw (ai 3 (aj (bu 3 (.b ax) true) (ai 5 (aj (bu 3 (.b de) true) (ai 1 (aj (.aa false) (ai 1 (cx 4 (aj (.aa true) []))))))))),.aa true,(J 1),.aN [] [] (a8 [2])]) (fI.aI (.dW (cM cQ) (cM cQ) (cM cQ) (cM cQ) (cM cQ) cT))))))
  (fun bf =>
  .ret (bg (t1.append [.aw (ai 3 (aj (bu 3 (.b ax) true) (ai 2 (cx 5 (aj (.aa true) (ai 1 (cx 4 (ai 1 [])))))))),.aa true,(J 1),.aN [] [] (a8 [2])]) (aV.aI (.bi (cM bf) (cM bf) (cM bf) (cM bf) (cM bf) (cM bf) cT cT (.bP cT cT cT)))))))
  (fun h1 =>
  .ret (bg [(J 1),.aa false,.aN [] [] []] (.e1 h1)))
theorem Oo {om:Int}{jP:List bC}{fi:Int}{aL:List bo}{gJ:Int}{r} (h:DN om jP fi aL gJ=some r):dP a4 102 0 45 [1,1,1,1,0,1,0,0] (Hf om jP fi aL) (Oh om jP fi aL) gJ r:=dQ (fun _=>Vq) h
def nn (aH:cl):Option Bool :=
 if (decide ((6:Int)<(len_ bw aH.bY)))=true then
  some false
 else
  if (decide ((8:Int)<(len_ bB aH.bs)))=true then
   some false
  else
   rH aH.bY (len_ bw aH.bY) aH.bs 0 >>= fun bn =>
   match bn with
   | .inl fv=>(DN (R ((len_ bw aH.bY)-(1:Int))) aH.bs (len_ bB aH.bs) aH.bY 0 >>= fun cn =>
    match cn with
    | .inl my=>(some true)
    | .inr my=>(some false))
   | .inr fv=>(some false)
theorem XA {aH:cl}:bD (nn aH) (fun r=>Con a4 45 [.agg (gf aH)] [] (.b r) []):=by
 unfold nn
 exact .ite (fun h1 =>
  .ret (bA [(J 2),.aw (ai 5 (cx 4 (aj (.aa true) []))),.aa true,(J 1)] (.dW h1 h1 h1 h1 h1 cT)))
  (fun h1 =>
  (let t1:List b0:=[(J 2),.aw (ai 9 (aj (.aa false) []))];
  .ite (fun o =>
  .ret (bA (t1.append [.aa true,(J 1)]) (.dW h1 h1 h1 h1 h1 o)))
  (fun o =>
  .ar fun bn av =>
  (let t2:List b0:=t1.append [.aa false,(J 4),.aN [0] [.box [.id,.id]] (a8 [1,21,22,23])];
  (by
  rcases bn with fv|fv
  ·exact (.ar fun cn bf =>
  (let t3:List b0:=t2.append [(Hq aH.bY (len_ bw aH.bY) aH.bs (.inl fv)).e8,(J 5),(J 4),.aN [0] [.box [.id,.id]] (a8 [1,5,45,46,47])];
  have eA:=((.eP h1 h1 h1 h1 h1 o (On av)):cA _);
  (by
  rcases cn with my|my
  ·exact (.ret (bA (t3.append [.sub (.exit 2) [] [],(J 1)]) (eA.aI (.e1 (Oo bf)))))
  ·exact (.ret (bA (t3.append [.sub (.ret) [(2,.b false)] []]) (eA.aI (.e1 (Oo bf))))))))
  ·exact (.ret (bA (t2.append [.sub (.ret) [(2,.b false)] []]) (.eP h1 h1 h1 h1 h1 o (On av)))))))))
def IX (hk:List Int)(fN:Int):Int→S:=fun gR=>dv [(19,.isl 1 (hk.map eI)),(20,.n .i64 fN),(21,.n .i64 gR)] []
def OS (hk:List Int)(fN:Int):((Unit)⊕(Unit))→dy
 | .inl a=>⟨some 0,[],[]⟩
 | .inr a=>⟨none,[(4,.b false)],[]⟩
def xR (hk:List Int)(fN gR:Int):Option ((Int)⊕((Unit)⊕(Unit))) :=
 if (decide (gR<fN))=true then
  if 0≤gR∧gR<hk.length then
  hk[gR.toNat]? >>= fun az =>
  mB az (-100) 100 >>= fun ax =>
  if ax=true then
   some (.inl (R (gR+(1:Int))))
  else
   some (.inr (.inr ()))
  else none
 else
  some (.inr (.inl ()))
def Kx (hk:List Int)(fN gR:Int):Option ((Unit)⊕(Unit)):=iter (fun w:Int=>xR hk fN w) gR
theorem WE {hk:List Int}{fN gR:Int}:bD (xR hk fN gR) (dO a4 29 0 29 [1,1,0,1,0,0] (IX hk fN gR) (IX hk fN) (OS hk fN)):=by
 unfold xR
 exact .ite (fun h1 =>
  .aY fun o =>
  .ar fun az av =>
  .ar fun ax aX =>
  (let t1:List b0:=[(J 1),.aa true,.aw (bq 1 (.b5 (eI az)) 1),.aw (bq 1 (bu 3 (.b ax) true) 1)];
  have aV:=((.dW h1 o.1 (cX eI o.2) (b1 eI av) (qi ax aX) (bR.b ax)):cA _);
  .ite (fun bf =>
  .ret (bg (t1.append [.aa false,(J 2),.aN [] [] (a8 [19,20,21])]) (aV.aI (.e1 (cO bf)))))
  (fun bf =>
  .ret (bg (t1.append [.aa true,(J 1),.aN [] [] (a8 [4])]) (aV.aI (.e1 (cM bf)))))))
  (fun h1 =>
  .ret (bg [(J 1),.aa false,.aN [] [] []] (.e1 h1)))
theorem O2 {hk:List Int}{fN gR:Int}{r} (h:Kx hk fN gR=some r):dP a4 29 0 29 [1,1,0,1,0,0] (IX hk fN) (OS hk fN) gR r:=dQ (fun _=>WE) h
def rK (aH:cl)(cp:List Int):Option Bool :=
 nn aH >>= fun r1 =>
 if r1=true then
  if ((len_ eI cp) != (R ((2:Int)*(len_ bw aH.bY))))=true then
   some false
  else
   Kx cp (len_ eI cp) 0 >>= fun ax =>
   match ax with
   | .inl pk=>(some true)
   | .inr pk=>(some false)
 else
  some false
theorem Pq {aH:cl}{cp:List Int}:bD (rK aH cp) (fun r=>Con a4 29 [.agg (gf aH),.isl 1 (cp.map eI)] [] (.b r) []):=by
 unfold rK
 exact .ar fun r1 o =>
  (have b9:=((.aD (XA r1 o) (bR.b r1)):cA _);
  .ite (fun af =>
  (let t2:List b0:=[(J 2),.aw (ai 1 (aj (bu 1 (.b r1) true) (ai 9 (aj (.aa false) []))))];
  have fI:=b9.aI (.gz (cO af) (cO af) (cO af) (cO af) (cO af) (cO af) (cO af) (cO af));
  .ite (fun av =>
  .ret (bA (t2.append [.aa true,(J 1)]) (fI.aI (.e1 av))))
  (fun av =>
  .ar fun ax aX =>
  (let t4:List b0:=t2.append [.aa false,(J 3),.aN [] [] (a8 [19,20,21])];
  (by
  rcases ax with pk|pk
  ·exact (.ret (bA (t4.append [.sub (.exit 0) [] [],(J 1)]) (fI.aI (.aD av (O2 aX)))))
  ·exact (.ret (bA (t4.append [.sub (.ret) [(4,.b false)] []]) (fI.aI (.aD av (O2 aX))))))))))
  (fun af =>
  .ret (bA [(J 2),.aw (ai 1 (aj (bu 1 (.b r1) true) (ai 2 (cx 7 (aj (.aa true) []))))),.aa true,(J 1)] (b9.aI (.bi (cM af) (cM af) (cM af) (cM af) (cM af) (cM af) (cM af) (cM af) (.e1 cT))))))
def Hr (cU:List bC)(dn:Int):(Int×(List Int)×(List Int))→S:=fun (cm,ab,ao)=>dv [(4,.bh 0 0 0 ab.length),(5,.bh 1 0 0 ao.length),(11,.isl 3 (cU.map bB)),(12,.n .i64 dn),(13,.n .i64 cm)] [(au 1 eI ab),(au 1 eI ao)]
def HK (cU:List bC)(dn:Int):((List Int)×(List Int))→dy
 | a=>⟨some 0,[(4,.bh 0 0 0 a.1.length),(5,.bh 1 0 0 a.2.length)],[(au 1 eI a.1),(au 1 eI a.2)]⟩
def xg (cU:List bC)(dn cm:Int)(ab ao:List Int):Option ((Int×(List Int)×(List Int))⊕((List Int)×(List Int))) :=
 if (decide (cm<dn))=true then
  if 0≤cm∧cm<cU.length then
  cU[cm.toNat]? >>= fun az =>
  if (az.gk != (2:Int))=true then
   if (ab++([cm]:List Int)).length*8≤140737488355328 then
   if (ao++([1]:List Int)).length*8≤140737488355328 then
   if (az.gk != (1:Int))=true then
    if ((ab++([cm]:List Int))++([cm]:List Int)).length*8≤140737488355328 then
    if ((ao++([1]:List Int))++([(-1)]:List Int)).length*8≤140737488355328 then
    some (.inl (R (cm+(1:Int)),(ab++([cm]:List Int))++([cm]:List Int),(ao++([1]:List Int))++([(-1)]:List Int)))
    else none
    else none
   else
    some (.inl (R (cm+(1:Int)),ab++([cm]:List Int),ao++([1]:List Int)))
   else none
   else none
  else
   if (az.gk != (1:Int))=true then
    if (ab++([cm]:List Int)).length*8≤140737488355328 then
    if (ao++([(-1)]:List Int)).length*8≤140737488355328 then
    some (.inl (R (cm+(1:Int)),ab++([cm]:List Int),ao++([(-1)]:List Int)))
    else none
    else none
   else
    some (.inl (R (cm+(1:Int)),ab,ao))
  else none
 else
  some (.inr (ab,ao))
def Jt (cU:List bC)(dn cm:Int)(ab ao:List Int):Option ((List Int)×(List Int)):=iter (fun w:Int×(List Int)×(List Int)=>xg cU dn w.1 w.2.1 w.2.2) (cm,ab,ao)
theorem Vz {cU:List bC}{dn cm:Int}{ab ao:List Int}:bD (xg cU dn cm ab ao) (dO a4 41 0 51 [1,1,1,0,1,0,0] (Hr cU dn (cm,ab,ao)) (Hr cU dn) (HK cU dn)):=by
 unfold xg
 exact .ite (fun h1 =>
  .aY fun o =>
  .ar fun az av =>
  (let t1:List b0:=[(J 1),.aa true,.aw (bq 2 (.b5 (bB az)) 3),(J 3)];
  have aV:=((.c4 h1 o.1 (cX bB o.2) (b1 bB av)):cA _);
  .ite (fun aA =>
  .aY fun aX =>
  .aY fun bf =>
  (let t3:List b0:=t1.append [.aa true,.aw (bq 3 (.aI ((ab++([cm]:List Int)).length)) 1),.aw (bq 2 (.aI ((ao++([1]:List Int)).length)) 1),(J 3)];
  have eA:=aV.aI (.bi aA (gF eI cm) (g9 eI ab) (gG eI ab cm) aX (gF eI 1) (g9 eI ao) (gG eI ao 1) (.e1 bf));
  .ite (fun bl =>
  .aY fun cB =>
  .aY fun cQ =>
  .ret (let q1:=(ab++([cm]:List Int));let a7:=(ao++([1]:List Int));let bZ:=(a7++([(-1)]:List Int));let cC:=(q1++([cm]:List Int));bg (t3.append [.aa true,.aw (bq 3 (.aI (cC.length)) 1),.aw (bq 2 (.aI (bZ.length)) 1),(J 2),.aN [27,31] [.cG (au 1 eI cC),.cG (au 1 eI bZ)] (a8 [4,5,11,12,13])]) (eA.aI (.bi bl (gF eI cm) (nu (hf eI ab cm) (dX q1)) (gG eI q1 cm) cB (gF eI (-1)) (nu (hf eI ao 1) (dX a7)) (gG eI a7 (-1)) (.dh cQ (c2 1 .live (iz (hf eI ab cm) (dX q1) (wC eI cm))) (aJ 1 .live aO cC) (c2 1 .live (iz (hf eI ao 1) (dX a7) (wC eI (-1)))) (aJ 1 .live aO bZ))))))
  (fun bl =>
  .ret (let dr:=(ab++([cm]:List Int));let f8:=(ao++([1]:List Int));bg (t3.append [.aa false,(J 2),.aN [15,19] [.cG (au 1 eI dr),.cG (au 1 eI f8)] (a8 [4,5,11,12,13])]) (eA.aI (.dh bl (c2 1 .live (hf eI ab cm)) (aJ 1 .live aO dr) (c2 1 .live (hf eI ao 1)) (aJ 1 .live aO f8)))))))
  (fun aA =>
  .ite (fun aX =>
  .aY fun bf =>
  .aY fun bl =>
  .ret (let h7:=(ao++([(-1)]:List Int));let fx:=(ab++([cm]:List Int));bg (t1.append [.aa false,(J 3),.aa true,.aw (bq 3 (.aI (fx.length)) 1),.aw (bq 2 (.aI (h7.length)) 1),(J 2),.aN [18,22] [.cG (au 1 eI fx),.cG (au 1 eI h7)] (a8 [4,5,11,12,13])]) (aV.aI (.bi aA aX (gF eI cm) (g9 eI ab) (gG eI ab cm) bf (gF eI (-1)) (g9 eI ao) (.dW (gG eI ao (-1)) bl (c2 1 .live (hf eI ab cm)) (aJ 1 .live aO fx) (c2 1 .live (hf eI ao (-1))) (aJ 1 .live aO h7))))))
  (fun aX =>
  .ret (bg (t1.append [.aa false,(J 3),.aa false,(J 2),.aN [0,1] [.pure,.pure] (a8 [4,5,11,12,13])]) (aV.aI (.c4 aA aX (aJ 1 .live aO ab) (aJ 1 .live aO ao))))))))
  (fun h1 =>
  .ret (bg [(J 1),.aa false,.aN [0,1] [.pure,.pure] (a8 [4,5])] (.bP h1 (aJ 1 .live aO ab) (aJ 1 .live aO ao))))
theorem W3 {cU:List bC}{dn cm:Int}{ab ao:List Int}{r} (h:Jt cU dn cm ab ao=some r):dP a4 41 0 51 [1,1,1,0,1,0,0] (Hr cU dn) (HK cU dn) (cm,ab,ao) r:=dQ (fun _=>Vz) h
def Ai (aH:cl):Option ((List Int)×(List Int)) :=
 Jt aH.bs (len_ bB aH.bs) 0 ([]:List Int) ([]:List Int) >>= fun r1 =>
 some (r1.1,r1.2)
theorem XR {aH:cl}:bD (Ai aH) (fun r=>Con a4 51 [.agg (gf aH)] [] (.ee [.isl 1 (r.1.map eI),.isl 1 (r.2.map eI)]) []):=by
 unfold Ai
 exact .ar fun r1 o =>
  .ret (let q1:=(c2 1 .live (show []=(([]:List Int)).map eI from rfl));let a7:=(aJ 1 .live aO ([]:List Int));let bZ:=(au 1 eI ([]:List Int));bA [(J 3),(J 2),(J 2),(J 4),.aN [3,5] [.cG bZ,.cG bZ] [(4,fW (([]:List Int).length)),(5,fW (([]:List Int).length)),(11,ii),(12,ii),(13,ii)],(HK aH.bs (len_ bB aH.bs) r1).e8,(J 4)] (.bi q1 a7 q1 a7 (fg Int) (fg Int) (W3 o) (fw eI r1.1) (.dh (ff eI r1.1) (dk aO r1.1) (fw eI r1.2) (ff eI r1.2) (dk aO r1.2))) (.comp [.cJ (.dL (r1.1.map eI)),.cJ (.dL (r1.2.map eI))]))
def Im (cL:List bo)(dJ:Int):(Int×(List Int))→S:=fun (df,ab)=>dv [(3,.bh 0 0 0 ab.length),(8,.isl 4 (cL.map bw)),(9,.n .i64 dJ),(10,.n .i64 df)] [(au 1 eI ab)]
def IY (cL:List bo)(dJ:Int):(List Int)→dy
 | a=>⟨some 0,[(3,.bh 0 0 0 a.length)],[(au 1 eI a)]⟩
def z3 (cL:List bo)(dJ df:Int)(ab:List Int):Option ((Int×(List Int))⊕((List Int))) :=
 if (decide (df<dJ))=true then
  if 0≤df∧df<cL.length then
  cL[df.toNat]? >>= fun az =>
  if az.gQ=true then
   some (.inl (R (df+(1:Int)),ab))
  else
   if (ab++([df]:List Int)).length*8≤140737488355328 then
   some (.inl (R (df+(1:Int)),ab++([df]:List Int)))
   else none
  else none
 else
  some (.inr ab)
def Km (cL:List bo)(dJ df:Int)(ab:List Int):Option ((List Int)):=iter (fun w:Int×(List Int)=>z3 cL dJ w.1 w.2) (df,ab)
theorem Wi {cL:List bo}{dJ df:Int}{ab:List Int}:bD (z3 cL dJ df ab) (dO a4 24 0 53 [1,1,0,1,0,0] (Im cL dJ (df,ab)) (Im cL dJ) (IY cL dJ)):=by
 unfold z3
 exact .ite (fun h1 =>
  .aY fun o =>
  .ar fun az av =>
  (let t1:List b0:=[(J 1),.aa true,.aw (bq 2 (.b5 (bw az)) 3),(J 3)];
  have aV:=((.c4 h1 o.1 (cX bw o.2) (b1 bw av)):cA _);
  .ite (fun aA =>
  .ret (bg (t1.append [.aa false,(J 2),.aN [0] [.pure] (a8 [3,8,9,10])]) (aV.aI (.aD (cO aA) (aJ 1 .live aO ab)))))
  (fun aA =>
  .aY fun aX =>
  .ret (let q1:=(ab++([df]:List Int));bg (t1.append [.aa true,.aw (bq 3 (.aI (q1.length)) 1),(J 2),.aN [14] [.cG (au 1 eI q1)] (a8 [3,8,9,10])]) (aV.aI (.eP (cM aA) (gF eI df) (g9 eI ab) (gG eI ab df) aX (c2 1 .live (hf eI ab df)) (aJ 1 .live aO q1)))))))
  (fun h1 =>
  .ret (bg [(J 1),.aa false,.aN [0] [.pure] (a8 [3])] (.aD h1 (aJ 1 .live aO ab))))
theorem XS {cL:List bo}{dJ df:Int}{ab:List Int}{r} (h:Km cL dJ df ab=some r):dP a4 24 0 53 [1,1,0,1,0,0] (Im cL dJ) (IY cL dJ) (df,ab) r:=dQ (fun _=>Wi) h
def uW (aH:cl):Option (List Int) :=
 Km aH.bY (len_ bw aH.bY) 0 ([]:List Int) >>= fun r1 =>
 some r1
theorem Kn {aH:cl}:bD (uW aH) (fun r=>Con a4 53 [.agg (gf aH)] [] (.isl 1 (r.map eI)) []):=by
 unfold uW
 exact .ar fun r1 o =>
  .ret (bA [(J 2),(J 2),(J 4),.aN [2] [.cG (au 1 eI ([]:List Int))] [(3,fW (([]:List Int).length)),(8,ii),(9,ii),(10,ii)],(IY aH.bY (len_ bw aH.bY) r1).e8,(J 2)] (.eP (c2 1 .live (show []=(([]:List Int)).map eI from rfl)) (aJ 1 .live aO ([]:List Int)) (fg Int) (XS o) (fw eI r1) (ff eI r1) (dk aO r1)) (.bp (.cJ (.dL (r1.map eI)))))
def Ap (aH:cl)(aQ:Int):Option (Int×Int) :=
 if 0≤aQ∧aQ<aH.bs.length then
 aH.bs[aQ.toNat]? >>= fun ef =>
 if 0≤ef.dt∧ef.dt<aH.bY.length then
 aH.bY[ef.dt.toNat]? >>= fun eZ =>
 if 0≤ef.dM∧ef.dM<aH.bY.length then
 aH.bY[ef.dM.toNat]? >>= fun mx =>
 some (R (mx.ga-eZ.ga),R (mx.f6-eZ.f6))
 else none
 else none
 else none
theorem Yg {aH:cl}{aQ:Int}:bD (Ap aH aQ) (fun r=>Con a4 74 [.agg (gf aH),.n .i64 aQ] [] (.ee [.n .i64 r.1,.n .i64 r.2]) []):=by
 unfold Ap
 exact .aY fun h1 =>
  .ar fun ef af =>
  .aY fun av =>
  .ar fun eZ aX =>
  .aY fun bf =>
  .ar fun mx cB =>
  .ret (bA [(J 3),.aw (ai 7 (aj (.b5 (bB ef)) (bq 1 (.b5 (bw eZ)) 2))),.aw (ai 7 (aj (.b5 (bB ef)) (bq 1 (.b5 (bw mx)) 2))),(J 12)] (.bi h1.1 (cX bB h1.2) (b1 bB af) av.1 (cX bw av.2) (b1 bw aX) h1.1 (cX bB h1.2) (.c4 (b1 bB af) bf.1 (cX bw bf.2) (b1 bw cB))))
def Io (ad:Int)(bS:List Int)(da dg:Int)(i9:List bC)(j8:Int)(aL:List bo)(ao:List Int):(Int×(List Int)×(List Int))→S:=fun (iB,aC,al)=>dv [(1,.ref 0 0 0 0),(3,.bh 1 0 0 ao.length),(5,.n .i64 ad),(6,.bh 2 0 0 aC.length),(7,.bh 3 0 0 al.length),(14,.isl 1 (bS.map eI)),(15,.n .i64 da),(16,.n .i64 dg),(23,.isl 3 (i9.map bB)),(24,.n .i64 j8),(25,.n .i64 iB)] [[ae.mk 2 [[.isl 4 (aL.map bw),.isl 3 (i9.map bB)]] .live],(au 1 eI ao),(au 1 eI aC),(au 1 eI al)]
def IZ (ad:Int)(bS:List Int)(da dg:Int)(i9:List bC)(j8:Int)(aL:List bo)(ao:List Int):((List Int)×(List Int))→dy
 | a=>⟨some 2,[(1,.ref 0 0 0 0),(3,.bh 1 0 0 ao.length),(6,.bh 2 0 0 a.1.length),(7,.bh 3 0 0 a.2.length),(14,.isl 1 (bS.map eI)),(15,.n .i64 da),(16,.n .i64 dg)],[[ae.mk 2 [[.isl 4 (aL.map bw),.isl 3 (i9.map bB)]] .live],(au 1 eI ao),(au 1 eI a.1),(au 1 eI a.2)]⟩
def xF (ad:Int)(bS:List Int)(da dg:Int)(i9:List bC)(j8:Int)(aL:List bo)(ao:List Int)(iB:Int)(aC al:List Int):Option ((Int×(List Int)×(List Int))⊕((List Int)×(List Int))) :=
 if (decide (iB<j8))=true then
  if 0≤iB∧iB<i9.length then
  i9[iB.toNat]? >>= fun az =>
  Ap (⟨aL,i9⟩:cl) iB >>= fun ax =>
  if (ad == az.dt)=true then
   if (aC++([ax.1]:List Int)).length*8≤140737488355328 then
   if (al++([ax.2]:List Int)).length*8≤140737488355328 then
   some (.inl (R (iB+(1:Int)),aC++([ax.1]:List Int),al++([ax.2]:List Int)))
   else none
   else none
  else
   if (ad == az.dM)=true then
    if (aC++([R (0-ax.1)]:List Int)).length*8≤140737488355328 then
    if (al++([R (0-ax.2)]:List Int)).length*8≤140737488355328 then
    some (.inl (R (iB+(1:Int)),aC++([R (0-ax.1)]:List Int),al++([R (0-ax.2)]:List Int)))
    else none
    else none
   else
    if (aC++([0]:List Int)).length*8≤140737488355328 then
    if (al++([0]:List Int)).length*8≤140737488355328 then
    some (.inl (R (iB+(1:Int)),aC++([0]:List Int),al++([0]:List Int)))
    else none
    else none
  else none
 else
  some (.inr (aC,al))
def D5 (ad:Int)(bS:List Int)(da dg:Int)(i9:List bC)(j8:Int)(aL:List bo)(ao:List Int)(iB:Int)(aC al:List Int):Option ((List Int)×(List Int)):=iter (fun w:Int×(List Int)×(List Int)=>xF ad bS da dg i9 j8 aL ao w.1 w.2.1 w.2.2) (iB,aC,al)
theorem Wj {ad:Int}{bS:List Int}{da dg:Int}{i9:List bC}{j8:Int}{aL:List bo}{ao:List Int}{iB:Int}{aC al:List Int}:bD (xF ad bS da dg i9 j8 aL ao iB aC al) (dO a4 78 0 52 [1,1,0,1,0,0,1,1,0,0,1,1,1,0,1,0,0] (Io ad bS da dg i9 j8 aL ao (iB,aC,al)) (Io ad bS da dg i9 j8 aL ao) (IZ ad bS da dg i9 j8 aL ao)):=by
 unfold xF
 exact .ite (fun h1 =>
  .aY fun o =>
  .ar fun az av =>
  .ar fun ax aX =>
  (let t1:List b0:=[(J 1),.aa true,.aw (bq 2 (.b5 (bB az)) 3),.aw (bq 2 (bu 2 (.ee [.n .i64 ax.1,.n .i64 ax.2]) true) 5),(J 1),(J 4)];
  have aV:=((.dW h1 o.1 (cX bB o.2) (b1 bB av) (Yg ax aX) (E8 (mD (bR.n .i64 ax.1) (mD (bR.n .i64 ax.2) rT)))):cA _);
  .ite (fun bf =>
  .aY fun bl =>
  .aY fun cB =>
  .ret (let q1:=(aC++([ax.1]:List Int));let a7:=(al++([ax.2]:List Int));bg (t1.append [.aa true,.aw (bq 3 (.aI (q1.length)) 1),.aw (bq 3 (.aI (a7.length)) 1),(J 2),.aN [0,1,27,32] [.box [.id,.id],.pure,.cG (au 1 eI q1),.cG (au 1 eI a7)] (a8 [1,3,5,6,7,14,15,16,23,24,25])]) (aV.aI (.bi bf (gF eI ax.1) (g9 eI aC) (gG eI aC ax.1) bl (gF eI ax.2) (g9 eI al) (gG eI al ax.2) (.dW cB (aJ 1 .live aO ao) (c2 1 .live (hf eI aC ax.1)) (aJ 1 .live aO q1) (c2 1 .live (hf eI al ax.2)) (aJ 1 .live aO a7))))))
  (fun bf =>
  .ite (fun bl =>
  .aY fun cB =>
  .aY fun cQ =>
  .ret (let dr:=R (0-ax.1);let bZ:=(aC++([dr]:List Int));let f8:=R (0-ax.2);let cC:=(al++([f8]:List Int));bg (t1.append [.aa false,(J 4),.aa true,.aw (bq 4 (.aI (bZ.length)) 1),.aw (bq 4 (.aI (cC.length)) 1),(J 2),.aN [0,1,32,38] [.box [.id,.id],.pure,.cG (au 1 eI bZ),.cG (au 1 eI cC)] (a8 [1,3,5,6,7,14,15,16,23,24,25])]) (aV.aI (.bi bf bl (gF eI dr) (g9 eI aC) (gG eI aC dr) cB (gF eI f8) (g9 eI al) (.eP (gG eI al f8) cQ (aJ 1 .live aO ao) (c2 1 .live (hf eI aC dr)) (aJ 1 .live aO bZ) (c2 1 .live (hf eI al f8)) (aJ 1 .live aO cC))))))
  (fun bl =>
  .aY fun cB =>
  .aY fun cQ =>
  .ret (let h7:=(aC++([0]:List Int));let fx:=(al++([0]:List Int));bg (t1.append [.aa false,(J 4),.aa false,.aw (bq 2 (.aI (h7.length)) 1),.aw (bq 2 (.aI (fx.length)) 1),(J 2),.aN [0,1,30,34] [.box [.id,.id],.pure,.cG (au 1 eI h7),.cG (au 1 eI fx)] (a8 [1,3,5,6,7,14,15,16,23,24,25])]) (aV.aI (.bi bf bl (gF eI 0) (g9 eI aC) (gG eI aC 0) cB (gF eI 0) (g9 eI al) (.eP (gG eI al 0) cQ (aJ 1 .live aO ao) (c2 1 .live (hf eI aC 0)) (aJ 1 .live aO h7) (c2 1 .live (hf eI al 0)) (aJ 1 .live aO fx)))))))))
  (fun h1 =>
  .ret (bg [(J 1),.aa false,.aN [0,1,2,3] [.box [.id,.id],.pure,.pure,.pure] (a8 [1,3,6,7,14,15,16])] (.c4 h1 (aJ 1 .live aO ao) (aJ 1 .live aO aC) (aJ 1 .live aO al))))
theorem XT {ad:Int}{bS:List Int}{da dg:Int}{i9:List bC}{j8:Int}{aL:List bo}{ao:List Int}{iB:Int}{aC al:List Int}{r} (h:D5 ad bS da dg i9 j8 aL ao iB aC al=some r):dP a4 78 0 52 [1,1,0,1,0,0,1,1,0,0,1,1,1,0,1,0,0] (Io ad bS da dg i9 j8 aL ao) (IZ ad bS da dg i9 j8 aL ao) (iB,aC,al) r:=dQ (fun _=>Wj) h
def Ip (bS:List Int)(da:Int)(aL:List bo)(aM:List bC):(Int×(List Int))→S:=fun (dg,ao)=>dv [(1,.ref 0 0 0 0),(3,.bh 1 0 0 ao.length),(14,.isl 1 (bS.map eI)),(15,.n .i64 da),(16,.n .i64 dg)] [[ae.mk 2 [[.isl 4 (aL.map bw),.isl 3 (aM.map bB)]] .live],(au 1 eI ao)]
def I0 (bS:List Int)(da:Int)(aL:List bo)(aM:List bC):(List Int)→dy
 | a=>⟨some 0,[(3,.bh 0 0 0 a.length)],[(au 1 eI a)]⟩
def xG (bS:List Int)(da:Int)(aL:List bo)(aM:List bC)(dg:Int)(ao:List Int):Option ((Int×(List Int))⊕((List Int))) :=
 if (decide (dg<da))=true then
  if 0≤dg∧dg<bS.length then
  bS[dg.toNat]? >>= fun az =>
  D5 az bS da dg aM (len_ bB aM) aL ao 0 ([]:List Int) ([]:List Int) >>= fun ax =>
  if (ao++ax.1).length*8≤140737488355328 then
  if ((ao++ax.1)++ax.2).length*8≤140737488355328 then
  some (.inl (R (dg+(1:Int)),(ao++ax.1)++ax.2))
  else none
  else none
  else none
 else
  some (.inr ao)
def Ko (bS:List Int)(da:Int)(aL:List bo)(aM:List bC)(dg:Int)(ao:List Int):Option ((List Int)):=iter (fun w:Int×(List Int)=>xG bS da aL aM w.1 w.2) (dg,ao)
theorem Wk {bS:List Int}{da:Int}{aL:List bo}{aM:List bC}{dg:Int}{ao:List Int}:bD (xG bS da aL aM dg ao) (dO a4 78 0 52 [1,1,0,1,0,0] (Ip bS da aL aM (dg,ao)) (Ip bS da aL aM) (I0 bS da aL aM)):=by
 unfold xG
 exact .ite (fun h1 =>
  .aY fun o =>
  .ar fun az av =>
  .ar fun ax aX =>
  .aY fun bf =>
  .aY fun bl =>
  .ret (let q1:=(c2 1 .live (show []=(([]:List Int)).map eI from rfl));let a7:=dX (ao++ax.1);let bZ:=(aJ 1 .live aO ([]:List Int));let cC:=cZ eI ax.1;let dr:=(au 1 eI ([]:List Int));bg [(J 1),.aa true,.aw (bq 1 (.b5 (eI az)) 1),(J 2),(J 2),(J 4),.aN [0,1,6,8] [.box [.id,.id],.pure,.cG dr,.cG dr] [(1,ii),(3,ii),(5,ii),(6,fW (([]:List Int).length)),(7,fW (([]:List Int).length)),(14,ii),(15,ii),(16,ii),(23,ii),(24,ii),(25,ii)],(IZ az bS da dg aM (len_ bB aM) aL ao ax).e8,.aw (bq 2 (.aI ((ao++ax.1).length)) 1),.aw (bq 2 (.aI (((ao++ax.1)++ax.2).length)) 1),(J 2),.aN [0,10] [.box [.id,.id],.cG (au 1 eI ((ao++ax.1)++ax.2))] (a8 [1,3,14,15,16])] (.bi h1 o.1 (cX eI o.2) (b1 eI av) (aJ 1 .live aO ao) q1 bZ q1 (.bi bZ (fg Int) (fg Int) (XT aX) (ff eI ax.1) (g9 eI ao) (lZ (dX ao) (ol cC (dX ax.1)):(ao++ax.1).length=ao.length+(((ax.1.map eI).drop 0).take ax.1.length).length) bf (.dW (ff eI ax.2) (nu (iz (cZ eI ao) (dX ao) (ol cC (dX ax.1))) a7) (lZ a7 (ol (cZ eI ax.2) (dX ax.2)):((ao++ax.1)++ax.2).length=((ao++ax.1).length)+(((ax.2.map eI).drop 0).take ax.2.length).length) bl (c2 1 .live (iz (iz (cZ eI ao) (dX ao) (ol cC (dX ax.1))) a7 (ol (cZ eI ax.2) (dX ax.2)))) (aJ 1 .live aO ((ao++ax.1)++ax.2)))))))
  (fun h1 =>
  .ret (bg [(J 1),.aa false,.aN [1] [.pure] (a8 [3])] (.aD h1 (aJ 1 .live aO ao))))
theorem XU {bS:List Int}{da:Int}{aL:List bo}{aM:List bC}{dg:Int}{ao:List Int}{r} (h:Ko bS da aL aM dg ao=some r):dP a4 78 0 52 [1,1,0,1,0,0] (Ip bS da aL aM) (I0 bS da aL aM) (dg,ao) r:=dQ (fun _=>Wk) h
def AQ (aH:cl):Option (List Int) :=
 uW aH >>= fun r1 =>
 Ko r1 (len_ eI r1) aH.bY aH.bs 0 ([]:List Int) >>= fun bn =>
 some bn
theorem Y2 {aH:cl}:bD (AQ aH) (fun r=>Con a4 52 [.agg (gf aH)] [] (.isl 1 (r.map eI)) []):=by
 unfold AQ
 exact .ar fun r1 o =>
  .ar fun bn av =>
  .ret (bA [(J 2),(J 2),.aw (bq 1 (bu 1 (.isl 1 (r1.map eI)) false) 2),.aN [0,2] [.box [.id,.id],.cG (au 1 eI ([]:List Int))] [(1,ii),(3,fW (([]:List Int).length)),(14,ii),(15,ii),(16,ii)],(I0 r1 (len_ eI r1) aH.bY aH.bs bn).e8,(J 2)] (.gz (Kn r1 o) (c2 1 .live (show []=(([]:List Int)).map eI from rfl)) (aJ 1 .live aO ([]:List Int)) (fg Int) (XU av) (fw eI bn) (ff eI bn) (dk aO bn)) (.bp (.cJ (.dL (bn.map eI)))))
def H2 (cp df:List Int)(cU:Int):(Int×(List Int))→S:=fun (dn,ab)=>dv [(1,.isl 1 (cp.map eI)),(5,.bh 0 0 0 ab.length),(10,.isl 1 (df.map eI)),(11,.n .i64 cU),(12,.n .i64 dn)] [(au 1 eI ab)]
def Iq (cp df:List Int)(cU:Int):(List Int)→dy
 | a=>⟨some 0,[(5,.bh 0 0 0 a.length)],[(au 1 eI a)]⟩
def xv (cp df:List Int)(cU dn:Int)(ab:List Int):Option ((Int×(List Int))⊕((List Int))) :=
 if (decide (dn<cU))=true then
  if 0≤dn∧dn<df.length then
  df[dn.toNat]? >>= fun az =>
  if 0≤(R ((2:Int)*az))∧(R ((2:Int)*az))<cp.length then
  cp[(R ((2:Int)*az)).toNat]? >>= fun cy =>
  if 0≤(R ((R ((2:Int)*az))+(1:Int)))∧(R ((R ((2:Int)*az))+(1:Int)))<cp.length then
  cp[(R ((R ((2:Int)*az))+(1:Int))).toNat]? >>= fun dj =>
  if (ab++([R (0-cy),R (0-dj)]:List Int)).length*8≤140737488355328 then
  some (.inl (R (dn+(1:Int)),ab++([R (0-cy),R (0-dj)]:List Int)))
  else none
  else none
  else none
  else none
 else
  some (.inr ab)
def J7 (cp df:List Int)(cU dn:Int)(ab:List Int):Option ((List Int)):=iter (fun w:Int×(List Int)=>xv cp df cU w.1 w.2) (dn,ab)
theorem V2 {cp df:List Int}{cU dn:Int}{ab:List Int}:bD (xv cp df cU dn ab) (dO a4 34 0 54 [1,1,0,1,0,0] (H2 cp df cU (dn,ab)) (H2 cp df cU) (Iq cp df cU)):=by
 unfold xv
 exact .ite (fun h1 =>
  .aY fun o =>
  .ar fun az av =>
  .aY fun aA =>
  .ar fun cy bf =>
  .aY fun bl =>
  .ar fun dj cQ =>
  .aY fun fe =>
  .ret (let q1:=(ab++([R (0-cy),R (0-dj)]:List Int));bg [(J 1),.aa true,.aw (bq 1 (.b5 (eI az)) 1),.aw (ai 5 (aj (.b5 (eI cy)) (ai 6 (aj (.b5 (eI dj)) (bq 2 (.aI (q1.length)) 1))))),(J 2),.aN [20] [.cG (au 1 eI q1)] (a8 [1,5,10,11,12])] (.bi h1 o.1 (cX eI o.2) (b1 eI av) aA.1 (cX eI aA.2) (b1 eI bf) bl.1 (.gz (cX eI bl.2) (b1 eI cQ) (lm (show [[.n .i64 (R (0-cy))],[.n .i64 (R (0-dj))]]=(([R (0-cy),R (0-dj)]:List Int)).map eI from rfl) (show 2=([R (0-cy),R (0-dj)]:List Int).length from rfl)) (g9 eI ab) (lZ (dX ab) (ol (show [[.n .i64 (R (0-cy))],[.n .i64 (R (0-dj))]]=(([R (0-cy),R (0-dj)]:List Int)).map eI from rfl) (show 2=([R (0-cy),R (0-dj)]:List Int).length from rfl)):q1.length=ab.length+(([[.n .i64 (R (0-cy))],[.n .i64 (R (0-dj))]].drop 0).take 2).length) fe (c2 1 .live (iz (cZ eI ab) (dX ab) (ol (show [[.n .i64 (R (0-cy))],[.n .i64 (R (0-dj))]]=(([R (0-cy),R (0-dj)]:List Int)).map eI from rfl) (show 2=([R (0-cy),R (0-dj)]:List Int).length from rfl)))) (aJ 1 .live aO q1)))))
  (fun h1 =>
  .ret (bg [(J 1),.aa false,.aN [0] [.pure] (a8 [5])] (.aD h1 (aJ 1 .live aO ab))))
theorem XB {cp df:List Int}{cU dn:Int}{ab:List Int}{r} (h:J7 cp df cU dn ab=some r):dP a4 34 0 54 [1,1,0,1,0,0] (H2 cp df cU) (Iq cp df cU) (dn,ab) r:=dQ (fun _=>V2) h
def Ax (aH:cl)(cp:List Int):Option (List Int) :=
 uW aH >>= fun r1 =>
 J7 cp r1 (len_ eI r1) 0 ([]:List Int) >>= fun bn =>
 some bn
theorem Yz {aH:cl}{cp:List Int}:bD (Ax aH cp) (fun r=>Con a4 54 [.agg (gf aH),.isl 1 (cp.map eI)] [] (.isl 1 (r.map eI)) []):=by
 unfold Ax
 exact .ar fun r1 o =>
  .ar fun bn av =>
  .ret (bA [(J 2),(J 2),.aw (bq 1 (bu 1 (.isl 1 (r1.map eI)) false) 2),.aN [2] [.cG (au 1 eI ([]:List Int))] [(1,ii),(5,fW (([]:List Int).length)),(10,ii),(11,ii),(12,ii)],(Iq cp r1 (len_ eI r1) bn).e8,(J 2)] (.gz (Kn r1 o) (c2 1 .live (show []=(([]:List Int)).map eI from rfl)) (aJ 1 .live aO ([]:List Int)) (fg Int) (XB av) (fw eI bn) (ff eI bn) (dk aO bn)) (.bp (.cJ (.dL (bn.map eI)))))
def Hs (i2 jz:List Int)(a3:Int)(jA:List Int)(ad oX bN d5:Int)(ha al:List Int):(Int×(List Int))→S:=fun (nx,aC)=>dv [(4,.ref 0 0 0 0),(5,.isl 1 (i2.map eI)),(6,.isl 1 (jz.map eI)),(7,.n .i64 a3),(8,.isl 1 (jA.map eI)),(9,.ref 1 0 0 0),(10,.n .i64 ad),(42,.isl 1 (i2.map eI)),(43,.n .i64 oX),(44,.n .i64 nx)] [[ae.mk 5 [[.n .i64 (0:Int),.n .i64 (0:Int),.ek,.ek,.ek]] .live],[ae.mk 5 [(FT bN d5 2 0 0 aC.length ha 3 0 0 al.length)] .live],(au 1 eI aC),(au 1 eI al)]
def HL (i2 jz:List Int)(a3:Int)(jA:List Int)(ad oX bN d5:Int)(ha al:List Int):(List Int)→dy
 | a=>⟨some 2,[(4,.ref 0 0 0 0),(5,.isl 1 (i2.map eI)),(6,.isl 1 (jz.map eI)),(7,.n .i64 a3),(8,.isl 1 (jA.map eI)),(9,.ref 1 0 0 0),(10,.n .i64 ad)],[[ae.mk 5 [[.n .i64 (0:Int),.n .i64 (0:Int),.ek,.ek,.ek]] .live],[ae.mk 5 [(FT bN d5 2 0 0 a.length ha 3 0 0 al.length)] .live],(au 1 eI a),(au 1 eI al)]⟩
def xh (i2 jz:List Int)(a3:Int)(jA:List Int)(ad oX bN d5:Int)(ha al:List Int)(nx:Int)(aC:List Int):Option ((Int×(List Int))⊕((List Int))) :=
 if (decide (nx<oX))=true then
  if 0≤nx∧nx<i2.length then
  i2[nx.toNat]? >>= fun az =>
  if 0≤nx∧nx<jz.length then
  jz[nx.toNat]? >>= fun cy =>
  if 0≤(R ((R (ad*a3))+az))∧(R ((R (ad*a3))+az))<jA.length then
  jA[(R ((R (ad*a3))+az)).toNat]? >>= fun dj =>
  if (aC++([R (cy*dj)]:List Int)).length*8≤140737488355328 then
  some (.inl (R (nx+(1:Int)),aC++([R (cy*dj)]:List Int)))
  else none
  else none
  else none
  else none
 else
  some (.inr aC)
def Ju (i2 jz:List Int)(a3:Int)(jA:List Int)(ad oX bN d5:Int)(ha al:List Int)(nx:Int)(aC:List Int):Option ((List Int)):=iter (fun w:Int×(List Int)=>xh i2 jz a3 jA ad oX bN d5 ha al w.1 w.2) (nx,aC)
theorem VA {i2 jz:List Int}{a3:Int}{jA:List Int}{ad oX bN d5:Int}{ha al:List Int}{nx:Int}{aC:List Int}:bD (xh i2 jz a3 jA ad oX bN d5 ha al nx aC) (dO a4 69 0 31 [1,1,1,1,1,0,1,0,0,1,0,0,1,0,0] (Hs i2 jz a3 jA ad oX bN d5 ha al (nx,aC)) (Hs i2 jz a3 jA ad oX bN d5 ha al) (HL i2 jz a3 jA ad oX bN d5 ha al)):=by
 unfold xh
 exact .ite (fun h1 =>
  .aY fun o =>
  .ar fun az av =>
  .aY fun aA =>
  .ar fun cy bf =>
  .aY fun bl =>
  .ar fun dj cQ =>
  .aY fun fe =>
  .ret (let a7:=R (cy*dj);let q1:=(aC++([a7]:List Int));bg [(J 1),.aa true,.aw (bq 2 (.b5 (eI az)) 2),.aw (ai 5 (aj (.b5 (eI cy)) (ai 7 (aj (.b5 (eI dj)) (bq 2 (.aI (q1.length)) 2))))),(J 2),.aN [0,1,26,3] [.box [.id,.id,.id,.id,.id],.box [.id,.id,.id,.id,.id],.cG (au 1 eI q1),.pure] (a8 [4,5,6,7,8,9,10,42,43,44])] (.bi h1 o.1 (cX eI o.2) (b1 eI av) aA.1 (cX eI aA.2) (b1 eI bf) bl.1 (.bi (cX eI bl.2) (b1 eI cQ) (gF eI a7) (g9 eI aC) (gG eI aC a7) fe (c2 1 .live (hf eI aC a7)) (aJ 1 .live aO q1) (.e1 (aJ 1 .live aO al))))))
  (fun h1 =>
  .ret (bg [(J 1),.aa false,.aN [0,1,2,3] [.box [.id,.id,.id,.id,.id],.box [.id,.id,.id,.id,.id],.pure,.pure] (a8 [4,5,6,7,8,9,10])] (.bP h1 (aJ 1 .live aO aC) (aJ 1 .live aO al))))
theorem W4 {i2 jz:List Int}{a3:Int}{jA:List Int}{ad oX bN d5:Int}{ha al:List Int}{nx:Int}{aC:List Int}{r} (h:Ju i2 jz a3 jA ad oX bN d5 ha al nx aC=some r):dP a4 69 0 31 [1,1,1,1,1,0,1,0,0,1,0,0,1,0,0] (Hs i2 jz a3 jA ad oX bN d5 ha al) (HL i2 jz a3 jA ad oX bN d5 ha al) (nx,aC) r:=dQ (fun _=>VA) h
def Ht (i2 jz:List Int)(a3:Int)(jA:List Int)(bN d5:Int)(ha al:List Int):(Int×(List Int))→S:=fun (ad,aC)=>dv [(4,.ref 0 0 0 0),(5,.isl 1 (i2.map eI)),(6,.isl 1 (jz.map eI)),(7,.n .i64 a3),(8,.isl 1 (jA.map eI)),(9,.ref 1 0 0 0),(10,.n .i64 ad)] [[ae.mk 5 [[.n .i64 (0:Int),.n .i64 (0:Int),.ek,.ek,.ek]] .live],[ae.mk 5 [(FT bN d5 2 0 0 aC.length ha 3 0 0 al.length)] .live],(au 1 eI aC),(au 1 eI al)]
def HM (i2 jz:List Int)(a3:Int)(jA:List Int)(bN d5:Int)(ha al:List Int):(List Int)→dy
 | a=>⟨some 0,[(4,.ref 0 0 0 0),(9,.ref 1 0 0 0)],[[ae.mk 5 [[.n .i64 (0:Int),.n .i64 (0:Int),.ek,.ek,.ek]] .live],[ae.mk 5 [(FT bN d5 2 0 0 a.length ha 3 0 0 al.length)] .live],(au 1 eI a),(au 1 eI al)]⟩
def xi (i2 jz:List Int)(a3:Int)(jA:List Int)(bN d5:Int)(ha al:List Int)(ad:Int)(aC:List Int):Option ((Int×(List Int))⊕((List Int))) :=
 if (decide (ad<bN))=true then
  Ju i2 jz a3 jA ad (len_ eI i2) bN d5 ha al 0 aC >>= fun bV =>
  some (.inl (R (ad+(1:Int)),bV))
 else
  some (.inr aC)
def DR (i2 jz:List Int)(a3:Int)(jA:List Int)(bN d5:Int)(ha al:List Int)(ad:Int)(aC:List Int):Option ((List Int)):=iter (fun w:Int×(List Int)=>xi i2 jz a3 jA bN d5 ha al w.1 w.2) (ad,aC)
theorem VB {i2 jz:List Int}{a3:Int}{jA:List Int}{bN d5:Int}{ha al:List Int}{ad:Int}{aC:List Int}:bD (xi i2 jz a3 jA bN d5 ha al ad aC) (dO a4 69 0 31 [1,1,1,1,1,0,1,0,0] (Ht i2 jz a3 jA bN d5 ha al (ad,aC)) (Ht i2 jz a3 jA bN d5 ha al) (HM i2 jz a3 jA bN d5 ha al)):=by
 unfold xi
 exact .ite (fun h1 =>
  .ar fun bV af =>
  .ret (bg [(J 4),.aa true,(J 3),.aN [0,1,2,3] [.box [.id,.id,.id,.id,.id],.box [.id,.id,.id,.id,.id],.pure,.pure] (a8 [4,5,6,7,8,9,10,42,43,44]),(HL i2 jz a3 jA ad (len_ eI i2) bN d5 ha al bV).e8,(J 3),.aN [0,1,2,3] [.box [.id,.id,.id,.id,.id],.box [.id,.id,.id,.id,.id],.pure,.pure] (a8 [4,5,6,7,8,9,10])] (.dW h1 (aJ 1 .live aO aC) (aJ 1 .live aO al) (W4 af) (aJ 1 .live aO bV) (aJ 1 .live aO al))))
  (fun h1 =>
  .ret (bg [(J 4),.aa false,.aN [0,1,2,3] [.box [.id,.id,.id,.id,.id],.box [.id,.id,.id,.id,.id],.pure,.pure] (a8 [4,9])] (.bP h1 (aJ 1 .live aO aC) (aJ 1 .live aO al))))
theorem W5 {i2 jz:List Int}{a3:Int}{jA:List Int}{bN d5:Int}{ha al:List Int}{ad:Int}{aC:List Int}{r} (h:DR i2 jz a3 jA bN d5 ha al ad aC=some r):dP a4 69 0 31 [1,1,1,1,1,0,1,0,0] (Ht i2 jz a3 jA bN d5 ha al) (HM i2 jz a3 jA bN d5 ha al) (ad,aC) r:=dQ (fun _=>VB) h
def uQ (aH:cl)(cp:List Int):Option hN :=
 Ai aH >>= fun r1 =>
 AQ aH >>= fun bn =>
 uW aH >>= fun ax =>
 Ax aH cp >>= fun bO =>
 if 0≤(len_ eI r1.1)∧(8:Int)*(len_ eI r1.1)≤281474976710656∧(len_ eI r1.1)<9223372036854775808 then
 DR r1.1 r1.2 (len_ bB aH.bs) bn (R ((2:Int)*(len_ eI ax))) (len_ eI r1.1) bO (List.replicate (len_ eI r1.1).toNat 0:List Int) 0 ([]:List Int) >>= fun et =>
 some (⟨R ((2:Int)*(len_ eI ax)),(len_ eI r1.1),et,bO,(List.replicate (len_ eI r1.1).toNat 0:List Int)⟩:hN)
 else none
theorem XV {aH:cl}{cp:List Int}:bD (uQ aH cp) (fun r=>Con a4 31 [.agg (gf aH),.isl 1 (cp.map eI)] [] (.agg (oi r)) []):=by
 unfold uQ
 exact .ar fun r1 o =>
  .ar fun bn av =>
  .ar fun ax aX =>
  .ar fun bO bl =>
  .aY fun cB =>
  .ar fun et fe =>
  .ret (let a7:=len_ eI r1.1;let q1:=(List.replicate a7.toNat 0:List Int);bA [(J 2),.aw (bq 1 (bu 1 (.ee [.isl 1 (r1.1.map eI),.isl 1 (r1.2.map eI)]) false) 5),(J 4),.aw (bq 1 (bu 1 (.isl 1 (bn.map eI)) false) 1),.aw (ai 1 (aj (bu 1 (.isl 1 (ax.map eI)) false) (bq 6 (bu 2 (.isl 1 (bO.map eI)) false) 6))),(J 1),.r4 29 2 1,.aN [1,29,32,27] [.box [.id,.id,.id,.id,.id],.box [.id,.id,.len (([]:List Int).length),.id,.len (q1.length)],.cG (au 1 eI ([]:List Int)),.cG (au 1 eI q1)] (a8 [4,5,6,7,8,9,10]),(HM r1.1 r1.2 (len_ bB aH.bs) bn (R ((2:Int)*(len_ eI ax))) a7 bO q1 et).e8,(J 2)] (.bi (XR r1 o) (Y2 bn av) (Kn ax aX) (Yz bO bl) cB.1 (Int.le_refl a7) cB.2.1 cB.2.2 (.bi (fg Int) (mh a7.toNat (0:Int)) (c2 1 .live (nj eI)) (aJ 1 .live aO ([]:List Int)) (c2 1 .live (lY eI a7.toNat 0)) (aJ 1 .live aO q1) (W5 fe) (fw eI et) (.dh (ff eI et) (dk aO et) (fw eI q1) (ff eI q1) (dk aO q1)))) (.bp (.agg [.id,.id,.dL (et.map eI),.id,.dL (q1.map eI)])))
def Jv (jX:List Int)(gX:Int):Int→S:=fun cV=>dv [(5,.isl 1 (jX.map eI)),(6,.n .i64 gX),(7,.n .i64 cV)] []
def O3 (jX:List Int)(gX:Int):((Unit)⊕(Unit))→dy
 | .inl a=>⟨some 0,[],[]⟩
 | .inr a=>⟨none,[(2,.b false)],[]⟩
def x4 (jX:List Int)(gX cV:Int):Option ((Int)⊕((Unit)⊕(Unit))) :=
 if (decide (cV<gX))=true then
  if 0≤cV∧cV<jX.length then
  jX[cV.toNat]? >>= fun az =>
  mB az (-100) 100 >>= fun ax =>
  if ax=true then
   some (.inl (R (cV+(1:Int))))
  else
   some (.inr (.inr ()))
  else none
 else
  some (.inr (.inl ()))
def KN (jX:List Int)(gX cV:Int):Option ((Unit)⊕(Unit)):=iter (fun w:Int=>x4 jX gX w) cV
theorem W6 {jX:List Int}{gX cV:Int}:bD (x4 jX gX cV) (dO a4 15 0 65 [1,0,1,0,0] (Jv jX gX cV) (Jv jX gX) (O3 jX gX)):=by
 unfold x4
 exact .ite (fun h1 =>
  .aY fun o =>
  .ar fun az av =>
  .ar fun ax aX =>
  (let t1:List b0:=[(J 1),.aa true,.aw (bq 1 (.b5 (eI az)) 1),.aw (bq 1 (bu 3 (.b ax) true) 1)];
  have aV:=((.dW h1 o.1 (cX eI o.2) (b1 eI av) (qi ax aX) (bR.b ax)):cA _);
  .ite (fun bf =>
  .ret (bg (t1.append [.aa false,(J 2),.aN [] [] (a8 [5,6,7])]) (aV.aI (.e1 (cO bf)))))
  (fun bf =>
  .ret (bg (t1.append [.aa true,(J 1),.aN [] [] (a8 [2])]) (aV.aI (.e1 (cM bf)))))))
  (fun h1 =>
  .ret (bg [(J 1),.aa false,.aN [] [] []] (.e1 h1)))
theorem Pa {jX:List Int}{gX cV:Int}{r} (h:KN jX gX cV=some r):dP a4 15 0 65 [1,0,1,0,0] (Jv jX gX) (O3 jX gX) cV r:=dQ (fun _=>W6) h
def ve (cp:List Int):Option Bool :=
 KN cp (len_ eI cp) 0 >>= fun r1 =>
 match r1 with
 | .inl dd=>(some true)
 | .inr dd=>(some false)
theorem KO {cp:List Int}:bD (ve cp) (fun r=>Con a4 65 [.isl 1 (cp.map eI)] [] (.b r) []):=by
 unfold ve
 exact .ar fun r1 o =>
  (let t1:List b0:=[(J 1),(J 3),.aN [] [] (a8 [5,6,7])];
  (by
  rcases r1 with dd|dd
  ·exact (.ret (bA (t1.append [.sub (.exit 0) [] [],(J 1)]) (.e1 (Pa o))))
  ·exact (.ret (bA (t1.append [.sub (.ret) [(2,.b false)] []]) (.e1 (Pa o))))))
def Aq (cg:hN):Option Bool :=
 mB cg.fz 0 20 >>= fun r1 =>
 if r1=true then
  mB cg.eh 0 40 >>= fun a6 =>
  if a6=true then
   if ((len_ eI cg.dt) == (R (cg.fz*cg.eh)))=true then
    if ((len_ eI cg.dM) == cg.fz)=true then
     if ((len_ eI cg.hZ) == cg.eh)=true then
      ve cg.dt >>= fun et =>
      if et=true then
       ve cg.dM >>= fun eM =>
       if eM=true then
        ve cg.hZ >>= fun el =>
        some el
       else
        some false
      else
       some false
     else
      some false
    else
     some false
   else
    some false
  else
   some false
 else
  some false
theorem Yh {cg:hN}:bD (Aq cg) (fun r=>Con a4 47 [.agg (oi cg)] [] (.b r) []):=by
 unfold Aq
 exact .ar fun r1 o =>
  (have b9:=((.aD (qi r1 o) (bR.b r1)):cA _);
  .ite (fun af =>
  .ar fun a6 aA =>
  (have aV:=b9.aI (.dW af af af (qi a6 aA) (bR.b a6) af);
  .ite (fun aX =>
  (have fI:=aV.aI (.bi aX aX aX aX aX aX aX aX (.aD aX aX));
  .ite (fun bf =>
  .ite (fun bl =>
  (have eA:=fI.aI (.bi bf bf bf bf bf bf bf bl (.dW bl bl bl bl bl bl));
  .ite (fun cB =>
  .ar fun et fe =>
  (have mz:=eA.aI (.dW cB cB cB (KO et fe) (bR.b et) cB);
  .ite (fun eK =>
  .ar fun eM eL =>
  (have kj:=mz.aI (.dW eK eK eK (KO eM eL) (bR.b eM) eK);
  .ite (fun fM =>
  .ar fun el hQ =>
  .ret (bA [(J 2),.aw (ai 2 (aj (bu 3 (.b r1) true) (ai 3 (aj (bu 3 (.b a6) true) (aj (.aa true) (ai 10 (aj (.aa true) (ai 7 (aj (.aa true) (ai 7 (aj (.aa true) (ai 3 (aj (bu 1 (.b et) true) (aj (.aa true) (ai 3 (aj (bu 1 (.b eM) true) (aj (.aa true) (ai 3 (aj (bu 1 (.b el) true) (aj (.aa true) (ai 1 [])))))))))))))))))))))] (kj.aI (.dW fM fM fM (KO el hQ) (bR.b el) fM))))
  (fun fM =>
  .ret (bA [(J 2),.aw (ai 2 (aj (bu 3 (.b r1) true) (ai 3 (aj (bu 3 (.b a6) true) (aj (.aa true) (ai 10 (aj (.aa true) (ai 7 (aj (.aa true) (ai 7 (aj (.aa true) (ai 3 (aj (bu 1 (.b et) true) (aj (.aa true) (ai 3 (aj (bu 1 (.b eM) true) (aj (.aa true) (ai 1 (cx 3 (aj (.aa false) (ai 1 [])))))))))))))))))))))] (kj.aI (.c4 fM fM fM fM))))))
  (fun eK =>
  .ret (bA [(J 2),.aw (ai 2 (aj (bu 3 (.b r1) true) (ai 3 (aj (bu 3 (.b a6) true) (aj (.aa true) (ai 10 (aj (.aa true) (ai 7 (aj (.aa true) (ai 7 (aj (.aa true) (ai 3 (aj (bu 1 (.b et) true) (aj (.aa true) (ai 1 (cx 3 (aj (.aa false) (ai 1 (cx 3 (ai 2 []))))))))))))))))))))] (mz.aI (.eP eK eK eK eK cK cK cK))))))
  (fun cB =>
  .ret (bA [(J 2),.aw (ai 2 (aj (bu 3 (.b r1) true) (ai 3 (aj (bu 3 (.b a6) true) (aj (.aa true) (ai 10 (aj (.aa true) (ai 7 (aj (.aa true) (ai 7 (aj (.aa true) (ai 1 (cx 3 (aj (.aa false) (ai 1 (cx 3 (ai 2 (cx 3 (ai 2 [])))))))))))))))))))] (eA.aI (.bi cB cB cB cB cK cK cK cK (.aD cK cK)))))))
  (fun bl =>
  .ret (bA [(J 2),.aw (ai 2 (aj (bu 3 (.b r1) true) (ai 3 (aj (bu 3 (.b a6) true) (aj (.aa true) (ai 10 (aj (.aa true) (ai 7 (aj (.aa true) (ai 1 (cx 6 (aj (.aa false) (ai 1 (cx 3 (ai 2 (cx 3 (ai 2 (cx 3 (ai 2 [])))))))))))))))))))] (fI.aI (.bi bf bf bf bf bf bf bf bl (.bi bl bl bl bl bl bl cK cK (.eP cK cK cK cK cK cK cK)))))))
  (fun bf =>
  .ret (bA [(J 2),.aw (ai 2 (aj (bu 3 (.b r1) true) (ai 3 (aj (bu 3 (.b a6) true) (aj (.aa true) (ai 10 (aj (.aa true) (ai 1 (cx 6 (aj (.aa false) (ai 1 (cx 6 (ai 2 (cx 3 (ai 2 (cx 3 (ai 2 (cx 3 (ai 2 [])))))))))))))))))))] (fI.aI (.bi bf bf bf bf bf bf bf cK (.bi cK cK cK cK cK cK cK cK (.dW cK cK cK cK cK cK))))))))
  (fun aX =>
  .ret (bA [(J 2),.aw (ai 2 (aj (bu 3 (.b r1) true) (ai 3 (aj (bu 3 (.b a6) true) (aj (.aa true) (ai 1 (cx 9 (aj (.aa false) (ai 1 (cx 6 (ai 2 (cx 6 (ai 2 (cx 3 (ai 2 (cx 3 (ai 2 (cx 3 (ai 2 [])))))))))))))))))))] (aV.aI (.bi aX aX aX aX aX aX aX aX (.bi aX aX cK cK cK cK cK cK (.bi cK cK cK cK cK cK cK cK (.eP cK cK cK cK cK cK cK)))))))))
  (fun af =>
  .ret (bA [(J 2),.aw (ai 2 (aj (bu 3 (.b r1) true) (ai 1 (cx 3 (aj (.aa false) (ai 1 (cx 9 (ai 2 (cx 6 (ai 2 (cx 6 (ai 2 (cx 3 (ai 2 (cx 3 (ai 2 (cx 3 (ai 2 []))))))))))))))))))] (b9.aI (.bi af af af af cK cK cK cK (.bi cK cK cK cK cK cK cK cK (.bi cK cK cK cK cK cK cK cK (.bi cK cK cK cK cK cK cK cK (.aD cK cK)))))))))
def Ir (ag:List Int):Int→S:=fun a3=>dv [(0,.isl 1 (ag.map eI)),(3,.n .i64 a3)] []
def I1 (ag:List Int):Int→dy
 | a=>⟨some 0,[(0,.isl 1 (ag.map eI)),(3,.n .i64 a)],[]⟩
def uE (ag:List Int)(a3:Int):Option ((Int)⊕(Int)) :=
 if (decide ((0:Int)<a3))=true then
  if 0≤(R (a3-(1:Int)))∧(R (a3-(1:Int)))<ag.length then
  ag[(R (a3-(1:Int))).toNat]? >>= fun az =>
  if (az == (0:Int))=true then
   some (.inl (R (a3-(1:Int))))
  else
   some (.inr a3)
  else none
 else
  some (.inr a3)
def Kp (ag:List Int)(a3:Int):Option (Int):=iter (fun w:Int=>uE ag w) a3
theorem Wl {ag:List Int}{a3:Int}:bD (uE ag a3) (dO a4 21 0 119 [1,1,0,0,0] (Ir ag a3) (Ir ag) (I1 ag)):=by
 unfold uE
 exact .ite (fun h1 =>
  .aY fun o =>
  .ar fun az av =>
  (let t1:List b0:=[.aw (ai 7 (aj (.b5 (eI az)) (ai 1 (aj (.aa true) []))))];
  have aV:=((.bi h1 h1 h1 h1 o.1 (cX eI o.2) h1 (b1 eI av) (.aD h1 h1)):cA _);
  .ite (fun aA =>
  .ret (bg (t1.append [.aa true,(J 3),.aN [] [] (a8 [0,3])]) (aV.aI (.e1 aA))))
  (fun aA =>
  .ret (bg (t1.append [.aa false,.aN [] [] (a8 [0,3])]) (aV.aI (.e1 aA))))))
  (fun h1 =>
  .ret (bg [.aw (ai 3 (cx 6 (aj (.aa false) []))),.aa false,.aN [] [] (a8 [0,3])] (.gz h1 h1 h1 h1 h1 h1 h1 cK)))
theorem XW {ag:List Int}{a3:Int}{r} (h:Kp ag a3=some r):dP a4 21 0 119 [1,1,0,0,0] (Ir ag) (I1 ag) a3 r:=dQ (fun _=>Wl) h
def qj (ag:List Int):Option (List Int) :=
 Kp ag (len_ eI ag) >>= fun r1 =>
 if 0≤r1 then
 if 0≤r1.toNat∧r1.toNat≤ag.length then
 some ((ag.drop 0).take (r1.toNat-0))
 else none
 else none
theorem si {ag:List Int}:bD (qj ag) (fun r=>Con a4 119 [.isl 1 (ag.map eI)] [] (.isl 1 (r.map eI)) []):=by
 unfold qj
 exact .ar fun r1 o =>
  .aY fun af =>
  .aY fun av =>
  .ret (bA [(J 1),(J 3),.aN [] [] (a8 [0,3]),(I1 ag r1).e8,(J 4)] (.dh (XW o) af av.1 (qo (cZ eI ag) av.2) (congrArg (aF.isl 1) (oM (cZ eI ag) 0 (r1.toNat-0)):(.isl 1 (((ag.map eI).drop 0).take (r1.toNat-0)):aF) = .isl 1 (((ag.drop 0).take (r1.toNat-0)).map eI))) (.bp (.cJ (.cG (.isl 1 (((ag.drop 0).take (r1.toNat-0)).map eI))))))
def ys (ag:List Int):Option (List Int) :=
 qj ag >>= fun r1 =>
 if (decide ((60:Int)<(len_ eI r1)))=true then
  some ([]:List Int)
 else
  some r1
theorem Pr {ag:List Int}:bD (ys ag) (fun r=>Con a4 121 [.isl 1 (ag.map eI)] [] (.isl 1 (r.map eI)) []):=by
 unfold ys
 exact .ar fun r1 o =>
  (let t1:List b0:=[(J 1),.aw (bq 1 (bu 1 (.isl 1 (r1.map eI)) false) 1),(J 3)];
  .ite (fun af =>
  .ret (bA (t1.append [.aa true,(J 1)]) (.aD (si r1 o) af) (.bp (.cJ (.iJ 1)))))
  (fun af =>
  .ret (bA (t1.append [.aa false,(J 2)]) (.aD (si r1 o) af))))
def h8 (ou:Bool)(ag:List Int):Option bx :=
 ys ag >>= fun r1 =>
 if ou=true then
  if (([]:List Int)++r1).length*8≤140737488355328 then
  some (⟨(decide ((0:Int)<(len_ eI r1))),([]:List Int)++r1⟩:bx)
  else none
 else
  if (([]:List Int)++r1).length*8≤140737488355328 then
  some (⟨false,([]:List Int)++r1⟩:bx)
  else none
theorem oe {ou:Bool}{ag:List Int}:bD (h8 ou ag) (fun r=>Con a4 96 [.b ou,.isl 1 (ag.map eI)] [] (.agg (a1 r)) []):=by
 unfold h8
 exact .ar fun r1 o =>
  (let t1:List b0:=[(J 1),.aw (bq 1 (bu 1 (.isl 1 (r1.map eI)) false) 1)];
  .ite (fun af =>
  .aY fun av =>
  .ret (let q1:=(([]:List Int)++r1);bA (t1.append [.aw (ai 5 (aj (.aa true) (bq 2 (.aI (q1.length)) 2)))]) (.bi (Pr r1 o) af af af af (nu (show []=(([]:List Int)).map eI from rfl) (fg Int)) (lZ (fg Int) (cZ eI r1):q1.length=0+(r1.map eI).length) av (.bP (k6 (iz (show []=(([]:List Int)).map eI from rfl) (fg Int) (cZ eI r1)) (dX q1)) (lm (iz (show []=(([]:List Int)).map eI from rfl) (fg Int) (cZ eI r1)) (dX q1)) (dk aO q1))) (.bp (.agg [.id,.dL (q1.map eI)]))))
  (fun af =>
  .aY fun av =>
  .ret (let a7:=(([]:List Int)++r1);bA (t1.append [.aw (ai 2 (cx 3 (aj (.aa false) (bq 2 (.aI (a7.length)) 2))))]) (.bi (Pr r1 o) af af af af (nu (show []=(([]:List Int)).map eI from rfl) (fg Int)) (lZ (fg Int) (cZ eI r1):a7.length=0+(r1.map eI).length) av (.bP (k6 (iz (show []=(([]:List Int)).map eI from rfl) (fg Int) (cZ eI r1)) (dX a7)) (lm (iz (show []=(([]:List Int)).map eI from rfl) (fg Int) (cZ eI r1)) (dX a7)) (dk aO a7))) (.bp (.agg [.id,.dL (a7.map eI)])))))
def Jw:(Int×(List Int))→S:=fun (a3,ab)=>dv [(0,.n .i64 a3),(3,.bh 0 0 0 ab.length)] [(au 1 eI ab)]
def JR:(List Int)→dy
 | a=>⟨some 0,[(3,.bh 0 0 0 a.length)],[(au 1 eI a)]⟩
def x5 (a3:Int)(ab:List Int):Option ((Int×(List Int))⊕((List Int))) :=
 if (decide ((0:Int)<a3))=true then
  if (ab++([a3.tmod (1000000000:Int)]:List Int)).length*8≤140737488355328 then
  some (.inl (R (a3.tdiv (1000000000:Int)),ab++([a3.tmod (1000000000:Int)]:List Int)))
  else none
 else
  some (.inr ab)
def KP (a3:Int)(ab:List Int):Option ((List Int)):=iter (fun w:Int×(List Int)=>x5 w.1 w.2) (a3,ab)
theorem W7 {a3:Int}{ab:List Int}:bD (x5 a3 ab) (dO a4 15 0 115 [1,1,0,0,0] (Jw (a3,ab)) (Jw) (JR)):=by
 unfold x5
 exact .ite (fun h1 =>
  .aY fun o =>
  .ret (let q1:=(ab++([(a3.tmod (1000000000:Int))]:List Int));bg [(J 2),.aa true,.aw (bq 4 (.aI (q1.length)) 1),(J 3),.aN [7] [.cG (au 1 eI q1)] (a8 [0,3])] (.bi h1 (by decide:(1000000000:Int)≠0) (gF eI (a3.tmod (1000000000:Int))) (g9 eI ab) (gG eI ab (a3.tmod (1000000000:Int))) o (by decide:(1000000000:Int)≠0) (c2 1 .live (hf eI ab (a3.tmod (1000000000:Int)))) (.e1 (aJ 1 .live aO q1)))))
  (fun h1 =>
  .ret (bg [(J 2),.aa false,.aN [0] [.pure] (a8 [3])] (.aD h1 (aJ 1 .live aO ab))))
theorem YA {a3:Int}{ab:List Int}{r} (h:KP a3 ab=some r):dP a4 15 0 115 [1,1,0,0,0] (Jw) (JR) (a3,ab) r:=dQ (fun _=>W7) h
def rM (a3:Int):Option (List Int) :=
 KP a3 ([]:List Int) >>= fun r1 =>
 some r1
theorem yl {a3:Int}:bD (rM a3) (fun r=>Con a4 115 [.n .i64 a3] [] (.isl 1 (r.map eI)) []):=by
 unfold rM
 exact .ar fun r1 o =>
  .ret (bA [(J 1),(J 2),.aN [1] [.cG (au 1 eI ([]:List Int))] [(0,ii),(3,fW (([]:List Int).length))],(JR r1).e8,(J 2)] (.eP (c2 1 .live (show []=(([]:List Int)).map eI from rfl)) (aJ 1 .live aO ([]:List Int)) (fg Int) (YA o) (fw eI r1) (ff eI r1) (dk aO r1)) (.bp (.cJ (.dL (r1.map eI)))))
def Ay (a3:Int):Option bx :=
 if (a3 == (-9223372036854775808:Int))=true then
  h8 true ([854775808,223372036,9]:List Int) >>= fun bV =>
  some bV
 else
  if (decide (a3<(0:Int)))=true then
   rM (R (0-a3)) >>= fun bn =>
   h8 true bn >>= fun ax =>
   some ax
  else
   rM a3 >>= fun bn =>
   h8 false bn >>= fun ax =>
   some ax
theorem YB {a3:Int}:bD (Ay a3) (fun r=>Con a4 92 [.n .i64 a3] [] (.agg (a1 r)) []):=by
 unfold Ay
 exact .ite (fun h1 =>
  .ar fun bV af =>
  .ret (bA [(J 1),(J 2),.aa true,.aw (bq 1 (.tc 3 (.call {ac:=[ii,.bp (.cJ (.dL (([854775808,223372036,9]:List Int).map eI)))],r:= .agg (a1 bV),ej:=false,eC:=[3]})) 1)] (.dh h1 (k6 (show [[.n .i64 (854775808:Int)],[.n .i64 (223372036:Int)],[.n .i64 (9:Int)]]=(([854775808,223372036,9]:List Int)).map eI from rfl) (show 3=([854775808,223372036,9]:List Int).length from rfl)) (lm (show [[.n .i64 (854775808:Int)],[.n .i64 (223372036:Int)],[.n .i64 (9:Int)]]=(([854775808,223372036,9]:List Int)).map eI from rfl) (show 3=([854775808,223372036,9]:List Int).length from rfl)) (dk aO ([854775808,223372036,9]:List Int)) (oe bV af))))
  (fun h1 =>
  (let t1:List b0:=[(J 1),(J 2),.aa false,(J 2)];
  .ite (fun o =>
  .ar fun bn av =>
  .ar fun ax aX =>
  .ret (bA (t1.append [.aa true,.aw (ai 2 (aj (bu 1 (.isl 1 (bn.map eI)) false) (aj (bu 2 (.agg (a1 ax)) false) (ai 1 []))))]) (.c4 h1 o (yl bn av) (oe ax aX))))
  (fun o =>
  .ar fun bn av =>
  .ar fun ax aX =>
  .ret (bA (t1.append [.aa false,.aw (ai 1 (aj (bu 1 (.isl 1 (bn.map eI)) false) (aj (bu 2 (.agg (a1 ax)) false) (ai 1 []))))]) (.c4 h1 o (yl bn av) (oe ax aX))))))
def po (a3:Int):Option aR :=
 Ay a3 >>= fun r1 =>
 some (⟨r1,([1]:List Int)⟩:aR)
theorem sg {a3:Int}:bD (po a3) (fun r=>Con a4 66 [.n .i64 a3] [] (.agg (aS r)) []):=by
 unfold po
 exact .ar fun r1 o =>
  .ret (bA [(J 1),.aw (bq 1 (bu 1 (.agg (a1 r1)) false) 3)] (.c4 (YB r1 o) (k6 (show [[.n .i64 (1:Int)]]=(([1]:List Int)).map eI from rfl) (show 1=([1]:List Int).length from rfl)) (gF eI 1) (dk aO ([1]:List Int))) (.bp (.agg [.id,.id,.dL (([1]:List Int).map eI)])))
def u4 (cg:hN)(ad:Int):Option (List Int) :=
 if 0≤(R (ad*cg.eh)) then
 if 0≤(R ((R (ad+(1:Int)))*cg.eh)) then
 if (R (ad*cg.eh)).toNat≤(R ((R (ad+(1:Int)))*cg.eh)).toNat∧(R ((R (ad+(1:Int)))*cg.eh)).toNat≤cg.dt.length then
 some ((cg.dt.drop ((R (ad*cg.eh)).toNat)).take ((R ((R (ad+(1:Int)))*cg.eh)).toNat-(R (ad*cg.eh)).toNat))
 else none
 else none
 else none
theorem Ps {cg:hN}{ad:Int}:bD (u4 cg ad) (fun r=>Con a4 67 [.agg (oi cg),.n .i64 ad] [] (.isl 1 (r.map eI)) []):=by
 unfold u4
 exact .aY fun h1 =>
  .aY fun o =>
  .aY fun af =>
  .ret (let q1:=R (ad*cg.eh);let a7:=(R ((R (ad+(1:Int)))*cg.eh));bA [(J 2),(J 13)] (.dh h1 o af.1 (qo (cZ eI cg.dt) af.2) (congrArg (aF.isl 1) (oM (cZ eI cg.dt) (q1.toNat) (a7.toNat-q1.toNat)):(.isl 1 (((cg.dt.map eI).drop (q1.toNat)).take (a7.toNat-q1.toNat)):aF) = .isl 1 (((cg.dt.drop (q1.toNat)).take (a7.toNat-q1.toNat)).map eI))) (.bp (.cJ (.cG (.isl 1 (((cg.dt.drop (q1.toNat)).take (a7.toNat-q1.toNat)).map eI))))))
def qT (ag:List Int):Option Bool :=
 if ((len_ eI ag) == (1:Int))=true then
  if 0≤(0:Int)∧(0:Int)<ag.length then
  ag[0]? >>= fun az =>
  some (az == (1:Int))
  else none
 else
  some false
theorem Ar {ag:List Int}:bD (qT ag) (fun r=>Con a4 93 [.isl 1 (ag.map eI)] [] (.b r) []):=by
 unfold qT
 exact .ite (fun h1 =>
  .aY fun o =>
  .ar fun az av =>
  .ret (bA [(J 1),.aw (ai 6 (aj (.b5 (eI az)) (bq 1 (.aa true) 1)))] (.gz h1 h1 o.1 (cX eI o.2) h1 (b1 eI av) h1 h1)))
  (fun h1 =>
  .ret (bA [(J 1),.aw (ai 4 (cx 4 (aj (.aa false) (ai 1 []))))] (.dh h1 h1 h1 h1 h1)))
def I2 (ag aG:List Int):(Int×Int×(List Int))→S:=fun (cE,ad,ab)=>dv [(0,.isl 1 (ag.map eI)),(1,.isl 1 (aG.map eI)),(5,.bh 0 0 0 ab.length),(6,.n .i64 cE),(7,.n .i64 ad)] [(au 1 eI ab)]
def Jx (ag aG:List Int):(List Int)→dy
 | a=>⟨some 0,[(5,.bh 0 0 0 a.length)],[(au 1 eI a)]⟩
def uF (ag aG:List Int)(cE ad:Int)(ab:List Int):Option ((Int×Int×(List Int))⊕((List Int))) :=
 if (decide (ad<(len_ eI ag)))=true then
  if 0≤ad∧ad<ag.length then
  ag[ad.toNat]? >>= fun az =>
  if (decide (ad<(len_ eI aG)))=true then
   if 0≤ad∧ad<aG.length then
   aG[ad.toNat]? >>= fun c9 =>
   if (ab++([(R ((R (cE+az))+c9)).tmod (1000000000:Int)]:List Int)).length*8≤140737488355328 then
   some (.inl (R ((R ((R (cE+az))+c9)).tdiv (1000000000:Int)),R (ad+(1:Int)),ab++([(R ((R (cE+az))+c9)).tmod (1000000000:Int)]:List Int)))
   else none
   else none
  else
   if (ab++([(R (cE+az)).tmod (1000000000:Int)]:List Int)).length*8≤140737488355328 then
   some (.inl (R ((R (cE+az)).tdiv (1000000000:Int)),R (ad+(1:Int)),ab++([(R (cE+az)).tmod (1000000000:Int)]:List Int)))
   else none
  else none
 else
  if (decide (ad<(len_ eI aG)))=true then
   if 0≤ad∧ad<aG.length then
   aG[ad.toNat]? >>= fun fE =>
   if (ab++([(R (cE+fE)).tmod (1000000000:Int)]:List Int)).length*8≤140737488355328 then
   some (.inl (R ((R (cE+fE)).tdiv (1000000000:Int)),R (ad+(1:Int)),ab++([(R (cE+fE)).tmod (1000000000:Int)]:List Int)))
   else none
   else none
  else
   if (decide ((0:Int)<cE))=true then
    if (ab++([cE.tmod (1000000000:Int)]:List Int)).length*8≤140737488355328 then
    some (.inl (R (cE.tdiv (1000000000:Int)),R (ad+(1:Int)),ab++([cE.tmod (1000000000:Int)]:List Int)))
    else none
   else
    some (.inr ab)
def Ky (ag aG:List Int)(cE ad:Int)(ab:List Int):Option ((List Int)):=iter (fun w:Int×Int×(List Int)=>uF ag aG w.1 w.2.1 w.2.2) (cE,ad,ab)
theorem WG {ag aG:List Int}{cE ad:Int}{ab:List Int}:bD (uF ag aG cE ad ab) (dO a4 55 0 116 [1,1,1,0,1,0,0] (I2 ag aG (cE,ad,ab)) (I2 ag aG) (Jx ag aG)):=by
 unfold uF
 exact .ite (fun h1 =>
  .aY fun o =>
  .ar fun az av =>
  (let t1:List b0:=[.aw (ai 5 (cx 4 (aj (.aa true) (ai 1 (cx 2 (ai 1 [])))))),.aa true,(J 2),(J 4),.aa true,.aw (bq 4 (.b5 (eI az)) 2),(J 4)];
  have aV:=((.bi h1 h1 h1 h1 h1 cT cT cT (.c4 h1 o.1 (cX eI o.2) (b1 eI av))):cA _);
  .ite (fun aA =>
  .aY fun aX =>
  .ar fun c9 bl =>
  .aY fun cB =>
  .ret (let q1:=(ab++([(R ((R (cE+az))+c9)).tmod (1000000000:Int)]:List Int));bg (t1.append [.aa true,.aw (bq 4 (.b5 (eI c9)) 2),.aw (bq 4 (.aI (q1.length)) 1),(J 3),(J 3),.aN [43] [.cG (au 1 eI q1)] (a8 [0,1,5,6,7])]) (aV.aI (.bi aA aX.1 (cX eI aX.2) (b1 eI bl) (by decide:(1000000000:Int)≠0) (lm (show [[.n .i64 ((R ((R (cE+az))+c9)).tmod (1000000000:Int))]]=(([(R ((R (cE+az))+c9)).tmod (1000000000:Int)]:List Int)).map eI from rfl) (show 1=([(R ((R (cE+az))+c9)).tmod (1000000000:Int)]:List Int).length from rfl)) (g9 eI ab) (lZ (dX ab) (ol (show [[.n .i64 ((R ((R (cE+az))+c9)).tmod (1000000000:Int))]]=(([(R ((R (cE+az))+c9)).tmod (1000000000:Int)]:List Int)).map eI from rfl) (show 1=([(R ((R (cE+az))+c9)).tmod (1000000000:Int)]:List Int).length from rfl)):q1.length=ab.length+(([[.n .i64 ((R ((R (cE+az))+c9)).tmod (1000000000:Int))]].drop 0).take 1).length) (.c4 cB (by decide:(1000000000:Int)≠0) (c2 1 .live (iz (cZ eI ab) (dX ab) (ol (show [[.n .i64 ((R ((R (cE+az))+c9)).tmod (1000000000:Int))]]=(([(R ((R (cE+az))+c9)).tmod (1000000000:Int)]:List Int)).map eI from rfl) (show 1=([(R ((R (cE+az))+c9)).tmod (1000000000:Int)]:List Int).length from rfl)))) (aJ 1 .live aO q1))))))
  (fun aA =>
  .aY fun aX =>
  .ret (let a7:=(ab++([(R (cE+az)).tmod (1000000000:Int)]:List Int));bg (t1.append [.aa false,.aw (bq 4 (.aI (a7.length)) 1),(J 3),(J 3),.aN [36] [.cG (au 1 eI a7)] (a8 [0,1,5,6,7])]) (aV.aI (.bi aA (by decide:(1000000000:Int)≠0) (lm (show [[.n .i64 ((R (cE+az)).tmod (1000000000:Int))]]=(([(R (cE+az)).tmod (1000000000:Int)]:List Int)).map eI from rfl) (show 1=([(R (cE+az)).tmod (1000000000:Int)]:List Int).length from rfl)) (g9 eI ab) (lZ (dX ab) (ol (show [[.n .i64 ((R (cE+az)).tmod (1000000000:Int))]]=(([(R (cE+az)).tmod (1000000000:Int)]:List Int)).map eI from rfl) (show 1=([(R (cE+az)).tmod (1000000000:Int)]:List Int).length from rfl)):a7.length=ab.length+(([[.n .i64 ((R (cE+az)).tmod (1000000000:Int))]].drop 0).take 1).length) aX (by decide:(1000000000:Int)≠0) (c2 1 .live (iz (cZ eI ab) (dX ab) (ol (show [[.n .i64 ((R (cE+az)).tmod (1000000000:Int))]]=(([(R (cE+az)).tmod (1000000000:Int)]:List Int)).map eI from rfl) (show 1=([(R (cE+az)).tmod (1000000000:Int)]:List Int).length from rfl)))) (.e1 (aJ 1 .live aO a7))))))))
  (fun h1 =>
  .ite (fun o =>
  .aY fun af =>
  .ar fun fE aA =>
  .aY fun aX =>
  .ret (let bZ:=(ab++([(R (cE+fE)).tmod (1000000000:Int)]:List Int));bg [.aw (ai 9 (aj (.aa false) (ai 1 (cx 2 (aj (.aa true) []))))),.aa true,(J 2),(J 4),.aa false,(J 4),.aa true,.aw (bq 4 (.b5 (eI fE)) 2),.aw (bq 4 (.aI (bZ.length)) 1),(J 3),(J 3),.aN [36] [.cG (au 1 eI bZ)] (a8 [0,1,5,6,7])] (.bi h1 h1 h1 h1 h1 o o o (.bi cT h1 o af.1 (cX eI af.2) (b1 eI aA) (by decide:(1000000000:Int)≠0) (lm (show [[.n .i64 ((R (cE+fE)).tmod (1000000000:Int))]]=(([(R (cE+fE)).tmod (1000000000:Int)]:List Int)).map eI from rfl) (show 1=([(R (cE+fE)).tmod (1000000000:Int)]:List Int).length from rfl)) (.dW (g9 eI ab) (lZ (dX ab) (ol (show [[.n .i64 ((R (cE+fE)).tmod (1000000000:Int))]]=(([(R (cE+fE)).tmod (1000000000:Int)]:List Int)).map eI from rfl) (show 1=([(R (cE+fE)).tmod (1000000000:Int)]:List Int).length from rfl)):bZ.length=ab.length+(([[.n .i64 ((R (cE+fE)).tmod (1000000000:Int))]].drop 0).take 1).length) aX (by decide:(1000000000:Int)≠0) (c2 1 .live (iz (cZ eI ab) (dX ab) (ol (show [[.n .i64 ((R (cE+fE)).tmod (1000000000:Int))]]=(([(R (cE+fE)).tmod (1000000000:Int)]:List Int)).map eI from rfl) (show 1=([(R (cE+fE)).tmod (1000000000:Int)]:List Int).length from rfl)))) (aJ 1 .live aO bZ))))))
  (fun o =>
  (let t1:List b0:=[.aw (ai 9 (aj (.aa false) (ai 3 (aj (.aa false) []))))];
  .ite (fun af =>
  .aY fun av =>
  .ret (let cC:=(ab++([(cE.tmod (1000000000:Int))]:List Int));bg (t1.append [.aa true,(J 2),(J 4),.aa false,(J 4),.aa false,.aw (bq 4 (.aI (cC.length)) 1),(J 3),(J 3),.aN [29] [.cG (au 1 eI cC)] (a8 [0,1,5,6,7])]) (.bi h1 h1 h1 h1 h1 o o o (.bi af h1 o (by decide:(1000000000:Int)≠0) (gF eI (cE.tmod (1000000000:Int))) (g9 eI ab) (gG eI ab (cE.tmod (1000000000:Int))) av (.bP (by decide:(1000000000:Int)≠0) (c2 1 .live (hf eI ab (cE.tmod (1000000000:Int)))) (aJ 1 .live aO cC))))))
  (fun af =>
  .ret (bg (t1.append [.aa false,.aN [0] [.pure] (a8 [5])]) (.bi h1 h1 h1 h1 h1 o o o (.aD af (aJ 1 .live aO ab))))))))
theorem Yi {ag aG:List Int}{cE ad:Int}{ab:List Int}{r} (h:Ky ag aG cE ad ab=some r):dP a4 55 0 116 [1,1,1,0,1,0,0] (I2 ag aG) (Jx ag aG) (cE,ad,ab) r:=dQ (fun _=>WG) h
def yt (ag aG:List Int):Option (List Int) :=
 Ky ag aG 0 0 ([]:List Int) >>= fun r1 =>
 some r1
theorem Zp {ag aG:List Int}:bD (yt ag aG) (fun r=>Con a4 116 [.isl 1 (ag.map eI),.isl 1 (aG.map eI)] [] (.isl 1 (r.map eI)) []):=by
 unfold yt
 exact .ar fun r1 o =>
  .ret (bA [(J 1),(J 2),(J 1),(J 1),.aN [1] [.cG (au 1 eI ([]:List Int))] [(0,ii),(1,ii),(5,fW (([]:List Int).length)),(6,ii),(7,ii)],(Jx ag aG r1).e8,(J 2)] (.eP (c2 1 .live (show []=(([]:List Int)).map eI from rfl)) (aJ 1 .live aO ([]:List Int)) (fg Int) (Yi o) (fw eI r1) (ff eI r1) (dk aO r1)) (.bp (.cJ (.dL (r1.map eI)))))
def I3 (ag aG:List Int):Int→S:=fun ad=>dv [(0,.isl 1 (ag.map eI)),(1,.isl 1 (aG.map eI)),(5,.n .i64 ad)] []
def OT (ag aG:List Int):((Unit)⊕(Int))→dy
 | .inl a=>⟨some 0,[],[]⟩
 | .inr a=>⟨none,[(4,.n .i64 a)],[]⟩
def xS (ag aG:List Int)(ad:Int):Option ((Int)⊕((Unit)⊕(Int))) :=
 if (decide ((0:Int)≤ad))=true then
  if 0≤ad∧ad<ag.length then
  ag[ad.toNat]? >>= fun az =>
  if 0≤ad∧ad<aG.length then
  aG[ad.toNat]? >>= fun cy =>
  if (decide (az<cy))=true then
   some (.inr (.inr (-1)))
  else
   if (decide (cy<az))=true then
    some (.inr (.inr 1))
   else
    some (.inl (R (ad-(1:Int))))
  else none
  else none
 else
  some (.inr (.inl ()))
def Kz (ag aG:List Int)(ad:Int):Option ((Unit)⊕(Int)):=iter (fun w:Int=>xS ag aG w) ad
theorem WH {ag aG:List Int}{ad:Int}:bD (xS ag aG ad) (dO a4 41 0 117 [1,1,0,1,0,0] (I3 ag aG ad) (I3 ag aG) (OT ag aG)):=by
 unfold xS
 exact .ite (fun h1 =>
  .aY fun o =>
  .ar fun az av =>
  .aY fun aA =>
  .ar fun cy bf =>
  (let t1:List b0:=[(J 2),.aa true,.aw (ai 3 (aj (.b5 (eI az)) (bq 3 (.b5 (eI cy)) 1)))];
  have aV:=((.eP h1 o.1 (cX eI o.2) (b1 eI av) aA.1 (cX eI aA.2) (b1 eI bf)):cA _);
  .ite (fun bl =>
  .ret (bg (t1.append [.aa true,(J 1),.aN [] [] (a8 [4])]) (aV.aI (.e1 bl))))
  (fun bl =>
  (let t3:List b0:=t1.append [.aa false,.aw (ai 3 (aj (.b5 (eI az)) (bq 3 (.b5 (eI cy)) 1)))];
  have eA:=aV.aI (.eP bl o.1 (cX eI o.2) (b1 eI av) aA.1 (cX eI aA.2) (b1 eI bf));
  .ite (fun cB =>
  .ret (bg (t3.append [.aa true,(J 1),.aN [] [] (a8 [4])]) (eA.aI (.e1 cB))))
  (fun cB =>
  .ret (bg (t3.append [.aa false,(J 3),.aN [] [] (a8 [0,1,5])]) (eA.aI (.e1 cB))))))))
  (fun h1 =>
  .ret (bg [(J 2),.aa false,.aN [] [] []] (.e1 h1)))
theorem O4 {ag aG:List Int}{ad:Int}{r} (h:Kz ag aG ad=some r):dP a4 41 0 117 [1,1,0,1,0,0] (I3 ag aG) (OT ag aG) ad r:=dQ (fun _=>WH) h
def ql (ag aG:List Int):Option Int :=
 if ((len_ eI ag) != (len_ eI aG))=true then
  if (decide ((len_ eI ag)<(len_ eI aG)))=true then
   some (-1)
  else
   some 1
 else
  Kz ag aG (R ((len_ eI ag)-(1:Int))) >>= fun bV =>
  match bV with
  | .inl f7=>(some 0)
  | .inr f7=>(some f7)
theorem yj {ag aG:List Int}:bD (ql ag aG) (fun r=>Con a4 117 [.isl 1 (ag.map eI),.isl 1 (aG.map eI)] [] (.n .i64 r) []):=by
 unfold ql
 exact .ite (fun h1 =>
  (let t1:List b0:=[(J 1),(J 5),.aa true,(J 5)];
  .ite (fun o =>
  .ret (bA (t1.append [.aa true,(J 1)]) (.aD h1 o)))
  (fun o =>
  .ret (bA (t1.append [.aa false,(J 1)]) (.aD h1 o)))))
  (fun h1 =>
  .ar fun bV af =>
  (let t1:List b0:=[(J 1),(J 5),.aa false,(J 4),.aN [] [] (a8 [0,1,5])];
  (by
  rcases bV with f7|f7
  ·exact (.ret (bA (t1.append [.sub (.exit 0) [] [],(J 1)]) (.aD h1 (O4 af))))
  ·exact (.ret (bA (t1.append [.sub (.ret) [(4,.n .i64 f7)] []]) (.aD h1 (O4 af)))))))
def I4 (ag aG:List Int)(cU:Int):(Int×Int×(List Int))→S:=fun (lq,dn,ab)=>dv [(0,.isl 1 (ag.map eI)),(1,.isl 1 (aG.map eI)),(5,.bh 0 0 0 ab.length),(6,.n .i64 lq),(11,.n .i64 cU),(12,.n .i64 dn)] [(au 1 eI ab)]
def Jy (ag aG:List Int)(cU:Int):(List Int)→dy
 | a=>⟨some 0,[(5,.bh 0 0 0 a.length)],[(au 1 eI a)]⟩
def uG (ag aG:List Int)(cU lq dn:Int)(ab:List Int):Option ((Int×Int×(List Int))⊕((List Int))) :=
 if (decide (dn<cU))=true then
  if 0≤dn∧dn<ag.length then
  ag[dn.toNat]? >>= fun az =>
  if (decide (dn<(len_ eI aG)))=true then
   if 0≤dn∧dn<aG.length then
   aG[dn.toNat]? >>= fun c9 =>
   if (decide ((R ((R (az-lq))-c9))<(0:Int)))=true then
    if (ab++([R ((R ((R (az-lq))-c9))+(1000000000:Int))]:List Int)).length*8≤140737488355328 then
    some (.inl (1,R (dn+(1:Int)),ab++([R ((R ((R (az-lq))-c9))+(1000000000:Int))]:List Int)))
    else none
   else
    if (ab++([R ((R (az-lq))-c9)]:List Int)).length*8≤140737488355328 then
    some (.inl (0,R (dn+(1:Int)),ab++([R ((R (az-lq))-c9)]:List Int)))
    else none
   else none
  else
   if (decide ((R (az-lq))<(0:Int)))=true then
    if (ab++([R ((R (az-lq))+(1000000000:Int))]:List Int)).length*8≤140737488355328 then
    some (.inl (1,R (dn+(1:Int)),ab++([R ((R (az-lq))+(1000000000:Int))]:List Int)))
    else none
   else
    if (ab++([R (az-lq)]:List Int)).length*8≤140737488355328 then
    some (.inl (0,R (dn+(1:Int)),ab++([R (az-lq)]:List Int)))
    else none
  else none
 else
  some (.inr ab)
def KA (ag aG:List Int)(cU lq dn:Int)(ab:List Int):Option ((List Int)):=iter (fun w:Int×Int×(List Int)=>uG ag aG cU w.1 w.2.1 w.2.2) (lq,dn,ab)
theorem WI {ag aG:List Int}{cU lq dn:Int}{ab:List Int}:bD (uG ag aG cU lq dn ab) (dO a4 42 0 118 [1,1,1,0,1,0,0] (I4 ag aG cU (lq,dn,ab)) (I4 ag aG cU) (Jy ag aG cU)):=by
 unfold uG
 exact .ite (fun h1 =>
  .aY fun o =>
  .ar fun az av =>
  (let t1:List b0:=[(J 1),.aa true,(J 2),.aw (bq 3 (.b5 (eI az)) 3),(J 4)];
  have aV:=((.c4 h1 o.1 (cX eI o.2) (b1 eI av)):cA _);
  .ite (fun aA =>
  .aY fun aX =>
  .ar fun c9 bl =>
  (let t3:List b0:=t1.append [.aa true,.aw (bq 4 (.b5 (eI c9)) 2),(J 1),(J 2)];
  have eA:=aV.aI (.c4 aA aX.1 (cX eI aX.2) (b1 eI bl));
  .ite (fun cB =>
  .aY fun cQ =>
  .ret (let q1:=(R ((R ((R (az-lq))-c9))+(1000000000:Int)));let a7:=(ab++([q1]:List Int));bg (t3.append [.aa true,(J 3),(J 1),.aw (bq 3 (.aI (a7.length)) 1),(J 2),.aN [32] [.cG (au 1 eI a7)] (a8 [0,1,5,6,11,12])]) (eA.aI (.eP cB (gF eI q1) (g9 eI ab) (gG eI ab q1) cQ (c2 1 .live (hf eI ab q1)) (aJ 1 .live aO a7)))))
  (fun cB =>
  .aY fun cQ =>
  .ret (let bZ:=R ((R (az-lq))-c9);let cC:=(ab++([bZ]:List Int));bg (t3.append [.aa false,.aw (bq 3 (.aI (cC.length)) 1),(J 2),.aN [28] [.cG (au 1 eI cC)] (a8 [0,1,5,6,11,12])]) (eA.aI (.eP cB (gF eI bZ) (g9 eI ab) (gG eI ab bZ) cQ (c2 1 .live (hf eI ab bZ)) (aJ 1 .live aO cC)))))))
  (fun aA =>
  (let t3:List b0:=t1.append [.aa false,(J 1),(J 2)];
  .ite (fun aX =>
  .aY fun bf =>
  .ret (let dr:=(R ((R (az-lq))+(1000000000:Int)));let f8:=(ab++([dr]:List Int));bg (t3.append [.aa true,(J 3),(J 1),.aw (bq 3 (.aI (f8.length)) 1),(J 2),.aN [25] [.cG (au 1 eI f8)] (a8 [0,1,5,6,11,12])]) (aV.aI (.gz aA aX (gF eI dr) (g9 eI ab) (gG eI ab dr) bf (c2 1 .live (hf eI ab dr)) (aJ 1 .live aO f8)))))
  (fun aX =>
  .aY fun bf =>
  .ret (let fx:=R (az-lq);let h7:=(ab++([fx]:List Int));bg (t3.append [.aa false,.aw (bq 3 (.aI (h7.length)) 1),(J 2),.aN [21] [.cG (au 1 eI h7)] (a8 [0,1,5,6,11,12])]) (aV.aI (.gz aA aX (gF eI fx) (g9 eI ab) (gG eI ab fx) bf (c2 1 .live (hf eI ab fx)) (aJ 1 .live aO h7)))))))))
  (fun h1 =>
  .ret (bg [(J 1),.aa false,.aN [0] [.pure] (a8 [5])] (.aD h1 (aJ 1 .live aO ab))))
theorem Yj {ag aG:List Int}{cU lq dn:Int}{ab:List Int}{r} (h:KA ag aG cU lq dn ab=some r):dP a4 42 0 118 [1,1,1,0,1,0,0] (I4 ag aG cU) (Jy ag aG cU) (lq,dn,ab) r:=dQ (fun _=>WI) h
def so (ag aG:List Int):Option (List Int) :=
 KA ag aG (len_ eI ag) 0 0 ([]:List Int) >>= fun r1 =>
 qj r1 >>= fun bn =>
 some bn
theorem KB {ag aG:List Int}:bD (so ag aG) (fun r=>Con a4 118 [.isl 1 (ag.map eI),.isl 1 (aG.map eI)] [] (.isl 1 (r.map eI)) []):=by
 unfold so
 exact .ar fun r1 o =>
  .ar fun bn av =>
  .ret (bA [(J 1),(J 2),(J 1),(J 3),.aN [1] [.cG (au 1 eI ([]:List Int))] [(0,ii),(1,ii),(5,fW (([]:List Int).length)),(6,ii),(11,ii),(12,ii)],(Jy ag aG (len_ eI ag) r1).e8,.jd 0,.aw (bq 1 (.call {ac:=[.bp (.cJ (.dL (r1.map eI)))],r:= .isl 1 (bn.map eI),ej:=false,eC:=[0]}) 1)] (.gz (c2 1 .live (show []=(([]:List Int)).map eI from rfl)) (aJ 1 .live aO ([]:List Int)) (fg Int) (Yj o) (fw eI r1) (ff eI r1) (dk aO r1) (si bn av)))
def qm (dq eG:bx):Option bx :=
 if (dq.c0 == eG.c0)=true then
  yt dq.cN eG.cN >>= fun bV =>
  h8 dq.c0 bV >>= fun a6 =>
  some a6
 else
  ql dq.cN eG.cN >>= fun bV =>
  if (decide ((0:Int)≤bV))=true then
   so dq.cN eG.cN >>= fun ax =>
   h8 dq.c0 ax >>= fun bO =>
   some bO
  else
   so eG.cN dq.cN >>= fun ax =>
   h8 eG.c0 ax >>= fun bO =>
   some bO
theorem KC {dq eG:bx}:bD (qm dq eG) (fun r=>Con a4 94 [.agg (a1 dq),.agg (a1 eG)] [] (.agg (a1 r)) []):=by
 unfold qm
 exact .ite (fun h1 =>
  .ar fun bV af =>
  .ar fun a6 aA =>
  .ret (bA [(J 3),(J 5),.aa true,.aw (ai 6 (aj (bu 2 (.isl 1 (bV.map eI)) false) (aj (bu 2 (.agg (a1 a6)) false) (ai 1 []))))] (.bP h1 (Zp bV af) (oe a6 aA))))
  (fun h1 =>
  .ar fun bV af =>
  (let t1:List b0:=[(J 3),(J 5),.aa false,.aw (bq 4 (bu 2 (.n .i64 bV) true) 1)];
  have aV:=((.bP h1 (yj bV af) (bR.n .i64 bV)):cA _);
  .ite (fun av =>
  .ar fun ax aX =>
  .ar fun bO bl =>
  .ret (bA (t1.append [.aa true,.aw (ai 6 (aj (bu 2 (.isl 1 (ax.map eI)) false) (aj (bu 2 (.agg (a1 bO)) false) (ai 1 []))))]) (aV.aI (.bP av (KB ax aX) (oe bO bl)))))
  (fun av =>
  .ar fun ax aX =>
  .ar fun bO bl =>
  .ret (bA (t1.append [.aa false,.aw (ai 6 (aj (bu 2 (.isl 1 (ax.map eI)) false) (aj (bu 2 (.agg (a1 bO)) false) (ai 1 []))))]) (aV.aI (.bP av (KB ax aX) (oe bO bl)))))))
def Jz (ag:List Int)(gX:Int):Int→S:=fun cV=>dv [(0,.isl 1 (ag.map eI)),(5,.isl 1 (ag.map eI)),(6,.n .i64 gX),(7,.n .i64 cV)] []
def O5 (ag:List Int)(gX:Int):((Unit)⊕(Unit))→dy
 | .inl a=>⟨some 0,[(0,.isl 1 (ag.map eI))],[]⟩
 | .inr a=>⟨none,[(2,.b false)],[]⟩
def x6 (ag:List Int)(gX cV:Int):Option ((Int)⊕((Unit)⊕(Unit))) :=
 if (decide (cV<gX))=true then
  if 0≤cV∧cV<ag.length then
  ag[cV.toNat]? >>= fun az =>
  mB az 0 999999999 >>= fun ax =>
  if ax=true then
   some (.inl (R (cV+(1:Int))))
  else
   some (.inr (.inr ()))
  else none
 else
  some (.inr (.inl ()))
def KQ (ag:List Int)(gX cV:Int):Option ((Unit)⊕(Unit)):=iter (fun w:Int=>x6 ag gX w) cV
theorem W8 {ag:List Int}{gX cV:Int}:bD (x6 ag gX cV) (dO a4 32 0 102 [1,0,1,0,0] (Jz ag gX cV) (Jz ag gX) (O5 ag gX)):=by
 unfold x6
 exact .ite (fun h1 =>
  .aY fun o =>
  .ar fun az av =>
  .ar fun ax aX =>
  (let t1:List b0:=[(J 1),.aa true,.aw (bq 1 (.b5 (eI az)) 1),.aw (bq 1 (bu 3 (.b ax) true) 1)];
  have aV:=((.dW h1 o.1 (cX eI o.2) (b1 eI av) (qi ax aX) (bR.b ax)):cA _);
  .ite (fun bf =>
  .ret (bg (t1.append [.aa false,(J 2),.aN [] [] (a8 [0,5,6,7])]) (aV.aI (.e1 (cO bf)))))
  (fun bf =>
  .ret (bg (t1.append [.aa true,(J 1),.aN [] [] (a8 [2])]) (aV.aI (.e1 (cM bf)))))))
  (fun h1 =>
  .ret (bg [(J 1),.aa false,.aN [] [] (a8 [0])] (.e1 h1)))
theorem J8 {ag:List Int}{gX cV:Int}{r} (h:KQ ag gX cV=some r):dP a4 32 0 102 [1,0,1,0,0] (Jz ag gX) (O5 ag gX) cV r:=dQ (fun _=>W8) h
def sq (ag:List Int):Option Bool :=
 KQ ag (len_ eI ag) 0 >>= fun r1 =>
 match r1 with
 | .inl dd=>(if (decide ((len_ eI ag)≤(60:Int)))=true then
  if ((len_ eI ag) == (0:Int))=true then
   some true
  else
   if 0≤(R ((len_ eI ag)-(1:Int)))∧(R ((len_ eI ag)-(1:Int)))<ag.length then
   ag[(R ((len_ eI ag)-(1:Int))).toNat]? >>= fun c9 =>
   some (c9 != (0:Int))
   else none
  else
   some false)
 | .inr dd=>(some false)
theorem KR {ag:List Int}:bD (sq ag) (fun r=>Con a4 102 [.isl 1 (ag.map eI)] [] (.b r) []):=by
 unfold sq
 exact .ar fun r1 o =>
  (let t1:List b0:=[(J 1),(J 3),.aN [] [] (a8 [0,5,6,7])];
  (by
  rcases r1 with dd|dd
  ·exact ((let t2:List b0:=t1.append [.sub (.exit 0) [(0,.isl 1 (ag.map eI))] []];
  .ite (fun av =>
  (have fI:=((.dh (J8 o) av av av av):cA _);
  .ite (fun aA =>
  .ret (bA (t2.append [.aw (ai 8 (cx 7 (aj (.aa true) (aj (.aa true) (ai 1 [])))))]) (fI.aI (.bi aA aA aA aA aA aA aA av (.aD aA av)))))
  (fun aA =>
  .aY fun aX =>
  .ar fun c9 bl =>
  .ret (bA (t2.append [.aw (ai 13 (aj (.b5 (eI c9)) (ai 1 (aj (.aa false) (aj (.aa true) (ai 1 []))))))]) (fI.aI (.bi aA aA aA aA aA aX.1 (cX eI aX.2) aA (.dh (b1 eI bl) aA av aA av)))))))
  (fun av =>
  .ret (bA (t2.append [.aw (ai 4 (cx 4 (ai 7 (cx 1 (aj (.aa false) (ai 1 []))))))]) (.eP (J8 o) av av av av av av)))))
  ·exact (.ret (bA (t1.append [.sub (.ret) [(2,.b false)] []]) (.e1 (J8 o))))))
def H3 (ag:List Int):(Int×Int)→S:=fun (a3,ad)=>dv [(0,.isl 1 (ag.map eI)),(4,.n .i64 a3),(5,.n .i64 ad)] []
def Is (ag:List Int):Int→dy
 | a=>⟨some 0,[(4,.n .i64 a)],[]⟩
def xw (ag:List Int)(a3 ad:Int):Option ((Int×Int)⊕(Int)) :=
 if (decide ((0:Int)≤ad))=true then
  if 0≤ad∧ad<ag.length then
  ag[ad.toNat]? >>= fun az =>
  some (.inl (R ((R (a3*(1000000000:Int)))+az),R (ad-(1:Int))))
  else none
 else
  some (.inr a3)
def J9 (ag:List Int)(a3 ad:Int):Option (Int):=iter (fun w:Int×Int=>xw ag w.1 w.2) (a3,ad)
theorem V3 {ag:List Int}{a3 ad:Int}:bD (xw ag a3 ad) (dO a4 30 0 125 [1,1,1,0,1,0,0] (H3 ag (a3,ad)) (H3 ag) (Is ag)):=by
 unfold xw
 exact .ite (fun h1 =>
  .aY fun o =>
  .ar fun az av =>
  .ret (bg [(J 2),.aa true,.aw (bq 5 (.b5 (eI az)) 2),(J 3),.aN [] [] (a8 [0,4,5])] (.c4 h1 o.1 (cX eI o.2) (b1 eI av))))
  (fun h1 =>
  .ret (bg [(J 2),.aa false,.aN [] [] (a8 [4])] (.e1 h1)))
theorem XC {ag:List Int}{a3 ad:Int}{r} (h:J9 ag a3 ad=some r):dP a4 30 0 125 [1,1,1,0,1,0,0] (H3 ag) (Is ag) (a3,ad) r:=dQ (fun _=>V3) h
def ym (ag:List Int):Option (Int×Bool) :=
 sq ag >>= fun r1 =>
 if r1=true then
  ql ag ([854775807,223372036,9]:List Int) >>= fun a6 =>
  if (decide ((0:Int)<a6))=true then
   some (0,false)
  else
   J9 ag 0 (R ((len_ eI ag)-(1:Int))) >>= fun bO =>
   some (bO,true)
 else
  some (0,false)
theorem Pb {ag:List Int}:bD (ym ag) (fun r=>Con a4 125 [.isl 1 (ag.map eI)] [] (.ee [.n .i64 r.1,.b r.2]) []):=by
 unfold ym
 exact .ar fun r1 o =>
  (have b9:=((.aD (KR r1 o) (bR.b r1)):cA _);
  .ite (fun af =>
  .ar fun a6 aA =>
  (let t2:List b0:=[(J 2),.aw (ai 1 (aj (bu 1 (.b r1) true) (ai 4 (aj (.call {ac:=[ii,.bp (.cJ (.dL (([854775807,223372036,9]:List Int).map eI)))],r:= .n .i64 a6,ej:=true,eC:=[7]}) (ai 1 (aj (.aa false) []))))))];
  have fI:=b9.aI (.bi (cO af) (cO af) (cO af) (k6 (show [[.n .i64 (854775807:Int)],[.n .i64 (223372036:Int)],[.n .i64 (9:Int)]]=(([854775807,223372036,9]:List Int)).map eI from rfl) (show 3=([854775807,223372036,9]:List Int).length from rfl)) (lm (show [[.n .i64 (854775807:Int)],[.n .i64 (223372036:Int)],[.n .i64 (9:Int)]]=(([854775807,223372036,9]:List Int)).map eI from rfl) (show 3=([854775807,223372036,9]:List Int).length from rfl)) (dk aO ([854775807,223372036,9]:List Int)) (yj a6 aA) (bR.n .i64 a6) (.aD (cO af) (cO af)));
  .ite (fun aX =>
  .ret (bA (t2.append [.aa true,(J 2)]) (fI.aI (.e1 aX))))
  (fun aX =>
  .ar fun bO bl =>
  .ret (bA (t2.append [.aa false,(J 1),(J 4),.aN [] [] (a8 [0,4,5]),(Is ag bO).e8,(J 3)]) (fI.aI (.aD aX (XC bl)))))))
  (fun af =>
  .ret (bA [(J 2),.aw (ai 1 (aj (bu 1 (.b r1) true) (ai 2 (cx 4 (aj (.aa true) []))))),.aa true,(J 2)] (b9.aI (.dW (cM af) (cM af) (cM af) (cM af) (cM af) cT)))))
def H4:(Int×Int)→S:=fun (dq,eG)=>dv [(0,.n .i64 dq),(1,.n .i64 eG)] []
def It:Int→dy
 | a=>⟨some 0,[(0,.n .i64 a)],[]⟩
def xx (dq eG:Int):Option ((Int×Int)⊕(Int)) :=
 if (decide ((0:Int)<eG))=true then
  if eG≠0 then
  some (.inl (eG,dq.tmod eG))
  else none
 else
  some (.inr dq)
def Ka (dq eG:Int):Option (Int):=iter (fun w:Int×Int=>xx w.1 w.2) (dq,eG)
theorem V4 {dq eG:Int}:bD (xx dq eG) (dO a4 15 0 126 [1,0,0,0] (H4 (dq,eG)) (H4) (It)):=by
 unfold xx
 exact .ite (fun h1 =>
  .aY fun o =>
  .ret (bg [(J 2),.aa true,(J 4),(J 2),(J 2),.aN [] [] (a8 [0,1])] (.aD h1 o)))
  (fun h1 =>
  .ret (bg [(J 2),.aa false,.aN [] [] (a8 [0])] (.e1 h1)))
theorem XD {dq eG:Int}{r} (h:Ka dq eG=some r):dP a4 15 0 126 [1,0,0,0] (H4) (It) (dq,eG) r:=dQ (fun _=>V4) h
def Az (dq eG:Int):Option (List Int) :=
 Ka dq eG >>= fun r1 =>
 rM r1 >>= fun bn =>
 some bn
theorem YC {dq eG:Int}:bD (Az dq eG) (fun r=>Con a4 126 [.n .i64 dq,.n .i64 eG] [] (.isl 1 (r.map eI)) []):=by
 unfold Az
 exact .ar fun r1 o =>
  .ar fun bn av =>
  .ret (bA [(J 1),.aN [] [] (a8 [0,1]),(It r1).e8,.aw (bq 1 (bu 1 (.isl 1 (bn.map eI)) false) 1)] (.aD (XD o) (yl bn av)))
def H5 (ag:List Int)(lz:Int):(Int×Int×(List Int))→S:=fun (fV,ad,ab)=>dv [(0,.isl 1 (ag.map eI)),(1,.n .i64 lz),(6,.bh 0 0 0 ab.length),(7,.n .i64 fV),(8,.n .i64 ad)] [(au 1 eI ab)]
def Iu (ag:List Int)(lz:Int):(Int×(List Int))→dy
 | a=>⟨some 0,[(6,.bh 0 0 0 a.2.length),(7,.n .i64 a.1)],[(au 1 eI a.2)]⟩
def xy (ag:List Int)(lz fV ad:Int)(ab:List Int):Option ((Int×Int×(List Int))⊕(Int×(List Int))) :=
 if (decide ((0:Int)≤ad))=true then
  if 0≤ad∧ad<ag.length then
  ag[ad.toNat]? >>= fun az =>
  if lz≠0 then
  if 0≤ad∧ad<(ab.length:Nat) then
  if (0+ad.toNat)<ab.length then
  some (.inl ((R ((R (fV*(1000000000:Int)))+az)).tmod lz,R (ad-(1:Int)),ab.set (0+ad.toNat) (R ((R ((R (fV*(1000000000:Int)))+az)).tdiv lz))))
  else none
  else none
  else none
  else none
 else
  some (.inr (fV,ab))
def DY (ag:List Int)(lz fV ad:Int)(ab:List Int):Option (Int×(List Int)):=iter (fun w:Int×Int×(List Int)=>xy ag lz w.1 w.2.1 w.2.2) (fV,ad,ab)
theorem V5 {ag:List Int}{lz fV ad:Int}{ab:List Int}:bD (xy ag lz fV ad ab) (dO a4 39 0 134 [1,1,1,0,1,0,0] (H5 ag lz (fV,ad,ab)) (H5 ag lz) (Iu ag lz)):=by
 unfold xy
 exact .ite (fun h1 =>
  .aY fun o =>
  .ar fun az av =>
  .aY fun aA =>
  .aY fun aX =>
  .aY fun bf =>
  .ret (let q1:=(R ((R ((R (fV*(1000000000:Int)))+az)).tdiv lz));bg [(J 2),.aa true,.aw (bq 5 (.b5 (eI az)) 2),.aw (ai 6 (aj .fZ [])),(J 4),(J 3),.aN [0] [.cG (au 1 eI (ab.set (0+ad.toNat) q1))] [(0,ii),(1,ii),(6,fW ((ab.set (0+ad.toNat) q1).length)),(7,ii),(8,ii)]] (.bi h1 o.1 (cX eI o.2) (b1 eI av) aA aX.1 aX.2 (hT eI bf) (.dh (hM 1) aA (c2 1 .live (gP (cZ eI ab) (0+ad.toNat) q1)) (aJ 1 .live aO (ab.set (0+ad.toNat) q1)) (hi (dX ab) (0+ad.toNat) q1)))))
  (fun h1 =>
  .ret (bg [(J 2),.aa false,.aN [0] [.pure] (a8 [6,7])] (.aD h1 (aJ 1 .live aO ab))))
theorem XE {ag:List Int}{lz fV ad:Int}{ab:List Int}{r} (h:DY ag lz fV ad ab=some r):dP a4 39 0 134 [1,1,1,0,1,0,0] (H5 ag lz) (Iu ag lz) (fV,ad,ab) r:=dQ (fun _=>V5) h
def AA (ag:List Int)(lz:Int):Option ((List Int)×Int) :=
 if 0≤(len_ eI ag)∧(8:Int)*(len_ eI ag)≤281474976710656∧(len_ eI ag)<9223372036854775808 then
 DY ag lz 0 (R ((len_ eI ag)-(1:Int))) (List.replicate (len_ eI ag).toNat 0:List Int) >>= fun bV =>
 qj bV.2 >>= fun a6 =>
 some (a6,bV.1)
 else none
theorem YD {ag:List Int}{lz:Int}:bD (AA ag lz) (fun r=>Con a4 134 [.isl 1 (ag.map eI),.n .i64 lz] [] (.ee [.isl 1 (r.1.map eI),.n .i64 r.2]) []):=by
 unfold AA
 exact .aY fun h1 =>
  .ar fun bV af =>
  .ar fun a6 aA =>
  .ret (let q1:=(List.replicate (len_ eI ag).toNat 0:List Int);bA [(J 2),(J 4),(J 1),(J 4),.aN [4] [.cG (au 1 eI q1)] [(0,ii),(1,ii),(6,fW (q1.length)),(7,ii),(8,ii)],(Iu ag lz bV).e8,.jd 0,.aw (bq 1 (.call {ac:=[.bp (.cJ (.dL (bV.2.map eI)))],r:= .isl 1 (a6.map eI),ej:=false,eC:=[0]}) 3)] (.bi h1.1 (Int.le_refl (len_ eI ag)) h1.2.1 h1.2.2 (c2 1 .live (lY eI (len_ eI ag).toNat 0)) (aJ 1 .live aO q1) (mh (len_ eI ag).toNat (0:Int)) (XE af) (.c4 (fw eI bV.2) (ff eI bV.2) (dk aO bV.2) (si a6 aA))))
def I5 (aG:List Int)(ad dq:Int)(dA:List Int)(dB hr:Int):(Int×Int×(List Int))→S:=fun (cE,dC,ab)=>dv [(1,.isl 1 (aG.map eI)),(5,.bh 0 0 0 ab.length),(6,.n .i64 ad),(7,.n .i64 dq),(8,.n .i64 cE),(26,.isl 1 (dA.map eI)),(27,.n .i64 dB),(28,.n .i64 ad),(33,.isl 1 (aG.map eI)),(34,.n .i64 hr),(35,.n .i64 dC)] [(au 1 eI ab)]
def JA (aG:List Int)(ad dq:Int)(dA:List Int)(dB hr:Int):(Int×(List Int))→dy
 | a=>⟨some 2,[(1,.isl 1 (aG.map eI)),(5,.bh 0 0 0 a.2.length),(6,.n .i64 ad),(8,.n .i64 a.1),(26,.isl 1 (dA.map eI)),(27,.n .i64 dB),(28,.n .i64 ad)],[(au 1 eI a.2)]⟩
def xT (aG:List Int)(ad dq:Int)(dA:List Int)(dB hr cE dC:Int)(ab:List Int):Option ((Int×Int×(List Int))⊕(Int×(List Int))) :=
 if (decide (dC<hr))=true then
  if 0≤dC∧dC<aG.length then
  aG[dC.toNat]? >>= fun az =>
  if 0≤(R (ad+dC))∧(R (ad+dC))<(ab.length:Nat) then
  ab[(0+(R (ad+dC)).toNat)]? >>= fun cy =>
  if (0+(R (ad+dC)).toNat)<ab.length then
  some (.inl (R ((R ((R (cy+(R (dq*az))))+cE)).tdiv (1000000000:Int)),R (dC+(1:Int)),ab.set (0+(R (ad+dC)).toNat) ((R ((R (cy+(R (dq*az))))+cE)).tmod (1000000000:Int))))
  else none
  else none
  else none
 else
  some (.inr (cE,ab))
def KD (aG:List Int)(ad dq:Int)(dA:List Int)(dB hr cE dC:Int)(ab:List Int):Option (Int×(List Int)):=iter (fun w:Int×Int×(List Int)=>xT aG ad dq dA dB hr w.1 w.2.1 w.2.2) (cE,dC,ab)
theorem WJ {aG:List Int}{ad dq:Int}{dA:List Int}{dB hr cE dC:Int}{ab:List Int}:bD (xT aG ad dq dA dB hr cE dC ab) (dO a4 72 0 97 [1,1,1,0,1,0,0,1,1,0,0,1,1,0,1,0,0] (I5 aG ad dq dA dB hr (cE,dC,ab)) (I5 aG ad dq dA dB hr) (JA aG ad dq dA dB hr)):=by
 unfold xT
 exact .ite (fun h1 =>
  .aY fun o =>
  .ar fun az av =>
  .aY fun aA =>
  .ar fun cy bf =>
  .aY fun bl =>
  .ret (let q1:=R ((R (cy+(R (dq*az))))+cE);let a7:=R (ad+dC);bg [(J 1),.aa true,.aw (bq 2 (.b5 (eI az)) 2),.aw (bq 5 (.b5 (eI cy)) 7),.aw (ai 7 (aj .fZ [])),(J 3),(J 2),.aN [0] [.cG (au 1 eI (ab.set (0+a7.toNat) (q1.tmod (1000000000:Int))))] [(1,ii),(5,fW ((ab.set (0+a7.toNat) (q1.tmod (1000000000:Int))).length)),(6,ii),(7,ii),(8,ii),(26,ii),(27,ii),(28,ii),(33,ii),(34,ii),(35,ii)]] (.bi h1 o.1 (cX eI o.2) (b1 eI av) aA.1 aA.2 (b1 eI bf) (by decide:(1000000000:Int)≠0) (.gz aA.1 aA.2 (hT eI bl) (hM 1) (by decide:(1000000000:Int)≠0) (c2 1 .live (gP (cZ eI ab) (0+a7.toNat) (q1.tmod (1000000000:Int)))) (aJ 1 .live aO (ab.set (0+a7.toNat) (q1.tmod (1000000000:Int)))) (hi (dX ab) (0+a7.toNat) (q1.tmod (1000000000:Int)))))))
  (fun h1 =>
  .ret (bg [(J 1),.aa false,.aN [0] [.pure] (a8 [1,5,6,8,26,27,28])] (.aD h1 (aJ 1 .live aO ab))))
theorem Yk {aG:List Int}{ad dq:Int}{dA:List Int}{dB hr cE dC:Int}{ab:List Int}{r} (h:KD aG ad dq dA dB hr cE dC ab=some r):dP a4 72 0 97 [1,1,1,0,1,0,0,1,1,0,0,1,1,0,1,0,0] (I5 aG ad dq dA dB hr) (JA aG ad dq dA dB hr) (cE,dC,ab) r:=dQ (fun _=>WJ) h
def I6 (aG dA:List Int)(dB:Int):(Int×(List Int))→S:=fun (fJ,ab)=>dv [(1,.isl 1 (aG.map eI)),(5,.bh 0 0 0 ab.length),(26,.isl 1 (dA.map eI)),(27,.n .i64 dB),(28,.n .i64 fJ)] [(au 1 eI ab)]
def JB (aG dA:List Int)(dB:Int):(List Int)→dy
 | a=>⟨some 0,[(5,.bh 0 0 0 a.length)],[(au 1 eI a)]⟩
def z7 (aG dA:List Int)(dB fJ:Int)(ab:List Int):Option ((Int×(List Int))⊕((List Int))) :=
 if (decide (fJ<dB))=true then
  if 0≤fJ∧fJ<dA.length then
  dA[fJ.toNat]? >>= fun az =>
  KD aG fJ az dA dB (len_ eI aG) 0 0 ab >>= fun ax =>
  if 0≤(R (fJ+(len_ eI aG)))∧(R (fJ+(len_ eI aG)))<(ax.2.length:Nat) then
  if (0+(R (fJ+(len_ eI aG))).toNat)<ax.2.length then
  some (.inl (R (fJ+(1:Int)),ax.2.set (0+(R (fJ+(len_ eI aG))).toNat) ax.1))
  else none
  else none
  else none
 else
  some (.inr ab)
def As (aG dA:List Int)(dB fJ:Int)(ab:List Int):Option ((List Int)):=iter (fun w:Int×(List Int)=>z7 aG dA dB w.1 w.2) (fJ,ab)
theorem WK {aG dA:List Int}{dB fJ:Int}{ab:List Int}:bD (z7 aG dA dB fJ ab) (dO a4 72 0 97 [1,1,1,0,1,0,0] (I6 aG dA dB (fJ,ab)) (I6 aG dA dB) (JB aG dA dB)):=by
 unfold z7
 exact .ite (fun h1 =>
  .aY fun o =>
  .ar fun az av =>
  .ar fun ax aX =>
  .aY fun bf =>
  .aY fun bl =>
  .ret (let q1:=R (fJ+(len_ eI aG));bg [(J 1),.aa true,.aw (bq 2 (.b5 (eI az)) 2),(J 1),(J 3),.aN [0] [.pure] (a8 [1,5,6,7,8,26,27,28,33,34,35]),(JA aG fJ az dA dB (len_ eI aG) ax).e8,.aw (ai 7 (aj .fZ [])),(J 2),.aN [0] [.cG (au 1 eI (ax.2.set (0+q1.toNat) ax.1))] [(1,ii),(5,fW ((ax.2.set (0+q1.toNat) ax.1).length)),(26,ii),(27,ii),(28,ii)]] (.bi h1 o.1 (cX eI o.2) (b1 eI av) (aJ 1 .live aO ab) (Yk aX) bf.1 bf.2 (.dh (hT eI bl) (hM 1) (c2 1 .live (gP (cZ eI ax.2) (0+q1.toNat) ax.1)) (aJ 1 .live aO (ax.2.set (0+q1.toNat) ax.1)) (hi (dX ax.2) (0+q1.toNat) ax.1)))))
  (fun h1 =>
  .ret (bg [(J 1),.aa false,.aN [0] [.pure] (a8 [5])] (.aD h1 (aJ 1 .live aO ab))))
theorem Yl {aG dA:List Int}{dB fJ:Int}{ab:List Int}{r} (h:As aG dA dB fJ ab=some r):dP a4 72 0 97 [1,1,1,0,1,0,0] (I6 aG dA dB) (JB aG dA dB) (fJ,ab) r:=dQ (fun _=>WK) h
def h3 (ag aG:List Int):Option (List Int) :=
 if ((len_ eI ag) == (0:Int))=true then
  some ([]:List Int)
 else
  if ((len_ eI aG) == (0:Int))=true then
   some ([]:List Int)
  else
   if 0≤(R ((len_ eI ag)+(len_ eI aG)))∧(8:Int)*(R ((len_ eI ag)+(len_ eI aG)))≤281474976710656∧(R ((len_ eI ag)+(len_ eI aG)))<9223372036854775808 then
   As aG ag (len_ eI ag) 0 (List.replicate (R ((len_ eI ag)+(len_ eI aG))).toNat 0:List Int) >>= fun a6 =>
   qj a6 >>= fun cn =>
   some cn
   else none
theorem pp {ag aG:List Int}:bD (h3 ag aG) (fun r=>Con a4 97 [.isl 1 (ag.map eI),.isl 1 (aG.map eI)] [] (.isl 1 (r.map eI)) []):=by
 unfold h3
 exact .ite (fun h1 =>
  .ret (bA [(J 1),.aw (ai 4 (cx 3 (aj (.aa true) []))),.aa true,(J 1)] (.dh h1 h1 h1 h1 cT) (.bp (.cJ (.iJ 1)))))
  (fun h1 =>
  (let t1:List b0:=[(J 1),.aw (ai 7 (aj (.aa false) []))];
  .ite (fun o =>
  .ret (bA (t1.append [.aa true,(J 1)]) (.dh h1 h1 h1 h1 o) (.bp (.cJ (.iJ 1)))))
  (fun o =>
  .aY fun af =>
  .ar fun a6 aA =>
  .ar fun cn bf =>
  .ret (let q1:=R ((len_ eI ag)+(len_ eI aG));let a7:=(List.replicate q1.toNat 0:List Int);bA (t1.append [.aa false,(J 7),(J 3),.aN [14] [.cG (au 1 eI a7)] [(1,ii),(5,fW (a7.length)),(26,ii),(27,ii),(28,ii)],(JB aG ag (len_ eI ag) a6).e8,.jd 0,.aw (bq 1 (.call {ac:=[.bp (.cJ (.dL (a6.map eI)))],r:= .isl 1 (cn.map eI),ej:=false,eC:=[0]}) 1)]) (.bi h1 h1 h1 h1 o af.1 (Int.le_refl q1) af.2.1 (.bi af.2.2 (c2 1 .live (lY eI q1.toNat 0)) (aJ 1 .live aO a7) (mh q1.toNat (0:Int)) (Yl aA) (fw eI a6) (ff eI a6) (dk aO a6) (.e1 (si cn bf))))))))
def H6 (b4 aG:List Int):(Int×Int)→S:=fun (mo,mF)=>dv [(0,.isl 1 (b4.map eI)),(1,.isl 1 (aG.map eI)),(7,.n .i64 mo),(8,.n .i64 mF)] []
def Ox (b4 aG:List Int):Int→dy
 | a=>⟨some 0,[(7,.n .i64 a)],[]⟩
def uC (b4 aG:List Int)(mo mF:Int):Option ((Int×Int)⊕(Int)) :=
 if (decide (mo<mF))=true then
  rM (R ((R ((R (mo+mF))+(1:Int))).tdiv (2:Int))) >>= fun bV =>
  h3 aG bV >>= fun a6 =>
  ql a6 b4 >>= fun cn =>
  if (decide (cn≤(0:Int)))=true then
   some (.inl (R ((R ((R (mo+mF))+(1:Int))).tdiv (2:Int)),mF))
  else
   some (.inl (mo,R ((R ((R ((R (mo+mF))+(1:Int))).tdiv (2:Int)))-(1:Int))))
 else
  some (.inr mo)
def DZ (b4 aG:List Int)(mo mF:Int):Option (Int):=iter (fun w:Int×Int=>uC b4 aG w.1 w.2) (mo,mF)
theorem V6 {b4 aG:List Int}{mo mF:Int}:bD (uC b4 aG mo mF) (dO a4 63 0 135 [1,1,1,1,1,1,0,0,0] (H6 b4 aG (mo,mF)) (H6 b4 aG) (Ox b4 aG)):=by
 unfold uC
 exact .ite (fun h1 =>
  .ar fun bV af =>
  .ar fun a6 aA =>
  .ar fun cn bf =>
  (let t1:List b0:=[(J 3),.aa true,(J 6),.aw (ai 2 (aj (bu 1 (.isl 1 (bV.map eI)) false) (aj (bu 2 (.isl 1 (a6.map eI)) false) (bq 1 (bu 2 (.n .i64 cn) true) 1))))];
  have aV:=((.dW h1 (by decide:(2:Int)≠0) (yl bV af) (pp a6 aA) (yj cn bf) (bR.n .i64 cn)):cA _);
  .ite (fun bl =>
  .ret (bg (t1.append [.aa true,(J 2),.aN [] [] (a8 [0,1,7,8])]) (aV.aI (.e1 bl))))
  (fun bl =>
  .ret (bg (t1.append [.aa false,(J 3),.aN [] [] (a8 [0,1,7,8])]) (aV.aI (.e1 bl))))))
  (fun h1 =>
  .ret (bg [(J 3),.aa false,.aN [] [] (a8 [7])] (.e1 h1)))
theorem OI {b4 aG:List Int}{mo mF:Int}{r} (h:DZ b4 aG mo mF=some r):dP a4 63 0 135 [1,1,1,1,1,1,0,0,0] (H6 b4 aG) (Ox b4 aG) (mo,mF) r:=dQ (fun _=>V6) h
def AB (b4 aG:List Int):Option Int :=
 if 0≤(R ((len_ eI aG)-(1:Int)))∧(R ((len_ eI aG)-(1:Int)))<b4.length then
 b4[(R ((len_ eI aG)-(1:Int))).toNat]? >>= fun ef =>
 if (decide ((len_ eI aG)<(len_ eI b4)))=true then
  if 0≤(len_ eI aG)∧(len_ eI aG)<b4.length then
  b4[(len_ eI aG).toNat]? >>= fun cy =>
  if 0≤(R ((len_ eI aG)-(1:Int)))∧(R ((len_ eI aG)-(1:Int)))<aG.length then
  aG[(R ((len_ eI aG)-(1:Int))).toNat]? >>= fun dj =>
  if (R (dj+(1:Int)))≠0 then
  if dj≠0 then
  DZ b4 aG (R ((R (ef+(R (cy*(1000000000:Int))))).tdiv (R (dj+(1:Int))))) (if (R ((R (ef+(R (cy*(1000000000:Int))))).tdiv dj))<(999999999:Int) then (R ((R (ef+(R (cy*(1000000000:Int))))).tdiv dj)) else (999999999:Int)) >>= fun eM =>
  some eM
  else none
  else none
  else none
  else none
 else
  if 0≤(R ((len_ eI aG)-(1:Int)))∧(R ((len_ eI aG)-(1:Int)))<aG.length then
  aG[(R ((len_ eI aG)-(1:Int))).toNat]? >>= fun cy =>
  if (R (cy+(1:Int)))≠0 then
  if cy≠0 then
  DZ b4 aG (R (ef.tdiv (R (cy+(1:Int))))) (if (R (ef.tdiv cy))<(999999999:Int) then (R (ef.tdiv cy)) else (999999999:Int)) >>= fun et =>
  some et
  else none
  else none
  else none
 else none
theorem YE {b4 aG:List Int}:bD (AB b4 aG) (fun r=>Con a4 135 [.isl 1 (b4.map eI),.isl 1 (aG.map eI)] [] (.n .i64 r) []):=by
 unfold AB
 exact .aY fun h1 =>
  .ar fun ef af =>
  (let t1:List b0:=[(J 1),(J 3),.aw (bq 4 (.b5 (eI ef)) 1),(J 4)];
  have aV:=((.bP h1.1 (cX eI h1.2) (b1 eI af)):cA _);
  .ite (fun av =>
  .aY fun aA =>
  .ar fun cy bf =>
  .aY fun bl =>
  .ar fun dj cQ =>
  .aY fun fe =>
  .aY fun eK =>
  .ar fun eM eL =>
  .ret (bA (t1.append [.aa true,.aw (bq 4 (.b5 (eI cy)) 3),.aw (bq 5 (.b5 (eI dj)) 3),.aw (bq 5 (.b5 (eI dj)) 3),.aN [] [] (a8 [0,1,7,8]),.sub (.exit 0) [(7,.n .i64 eM)] [],(J 2)]) (aV.aI (.bi av aA.1 (cX eI aA.2) (b1 eI bf) bl.1 (cX eI bl.2) (b1 eI cQ) fe (.dh bl.1 (cX eI bl.2) (b1 eI cQ) eK (OI eL))))))
  (fun av =>
  .aY fun aA =>
  .ar fun cy bf =>
  .aY fun bl =>
  .aY fun cB =>
  .ar fun et fe =>
  .ret (bA (t1.append [.aa false,.aw (bq 5 (.b5 (eI cy)) 3),.aw (bq 5 (.b5 (eI cy)) 3),.aN [] [] (a8 [0,1,7,8]),.sub (.exit 0) [(7,.n .i64 et)] [],(J 2)]) (aV.aI (.bi av aA.1 (cX eI aA.2) (b1 eI bf) bl aA.1 (cX eI aA.2) (b1 eI bf) (.aD cB (OI fe)))))))
def I7 (ag aG:List Int):((List Int)×Int×(List Int))→S:=fun (fV,ad,ab)=>dv [(0,.isl 1 (ag.map eI)),(1,.isl 1 (aG.map eI)),(8,.bh 0 0 0 ab.length),(9,.isl 1 (fV.map eI)),(10,.n .i64 ad)] [(au 1 eI ab)]
def JC (ag aG:List Int):((List Int)×(List Int))→dy
 | a=>⟨some 0,[(8,.bh 0 0 0 a.2.length),(9,.isl 1 (a.1.map eI))],[(au 1 eI a.2)]⟩
def xU (ag aG fV:List Int)(ad:Int)(ab:List Int):Option (((List Int)×Int×(List Int))⊕((List Int)×(List Int))) :=
 if (decide ((0:Int)≤ad))=true then
  if 0≤ad∧ad<ag.length then
  ag[ad.toNat]? >>= fun az =>
  if (([az]:List Int)++fV).length*8≤140737488355328 then
  qj (([az]:List Int)++fV) >>= fun cn =>
  ql cn aG >>= fun de =>
  if (decide (de<(0:Int)))=true then
   some (.inl (cn,R (ad-(1:Int)),ab))
  else
   AB cn aG >>= fun dp =>
   if 0≤ad∧ad<(ab.length:Nat) then
   if (0+ad.toNat)<ab.length then
   rM dp >>= fun gN =>
   h3 aG gN >>= fun gi =>
   so cn gi >>= fun pe =>
   some (.inl (pe,R (ad-(1:Int)),ab.set (0+ad.toNat) dp))
   else none
   else none
  else none
  else none
 else
  some (.inr (fV,ab))
def KE (ag aG fV:List Int)(ad:Int)(ab:List Int):Option ((List Int)×(List Int)):=iter (fun w:(List Int)×Int×(List Int)=>xU ag aG w.1 w.2.1 w.2.2) (fV,ad,ab)
theorem WL {ag aG fV:List Int}{ad:Int}{ab:List Int}:bD (xU ag aG fV ad ab) (dO a4 65 0 120 [1,1,1,1,0,1,0,0] (I7 ag aG (fV,ad,ab)) (I7 ag aG) (JC ag aG)):=by
 unfold xU
 exact .ite (fun h1 =>
  .aY fun o =>
  .ar fun az av =>
  .aY fun aA =>
  .ar fun cn bf =>
  .ar fun de cB =>
  (let q1:=(([az]:List Int)++fV);let t1:List b0:=[(J 2),.aa true,.aw (ai 3 (aj (.b5 (eI az)) (ai 2 (aj (.aI (q1.length)) (aj (.tc 9 (.call {ac:=[.bp (.cJ (.dL (q1.map eI)))],r:= .isl 1 (cn.map eI),ej:=false,eC:=[9]})) (ai 1 [])))))),.aw (bq 2 (bu 2 (.n .i64 de) true) 1)];
  have aV:=((.bi h1 o.1 (cX eI o.2) (b1 eI av) (agv eI az) (lZ (show 1=([az]:List Int).length from rfl) (cZ eI fV):q1.length=1+(fV.map eI).length) aA (k6 (iz (show [[.n .i64 az]]=(([az]:List Int)).map eI from rfl) (show 1=([az]:List Int).length from rfl) (cZ eI fV)) (dX q1)) (.dh (lm (iz (show [[.n .i64 az]]=(([az]:List Int)).map eI from rfl) (show 1=([az]:List Int).length from rfl) (cZ eI fV)) (dX q1)) (dk aO q1) (si cn bf) (yj de cB) (bR.n .i64 de))):cA _);
  .ite (fun cQ =>
  .ret (bg (t1.append [.aa true,(J 3),.aN [0] [.pure] (a8 [0,1,8,9,10])]) (aV.aI (.aD cQ (aJ 1 .live aO ab)))))
  (fun cQ =>
  .ar fun dp eK =>
  .aY fun eU =>
  .aY fun eL =>
  .ar fun gN hd =>
  .ar fun gi hD =>
  .ar fun pe fu =>
  .ret (bg (t1.append [.aa false,.aw (bq 2 (bu 2 (.n .i64 dp) true) 1),.aw (ai 4 (aj .fZ [])),.aw (ai 3 (aj (bu 1 (.isl 1 (gN.map eI)) false) (aj (bu 2 (.isl 1 (gi.map eI)) false) (aj (bu 2 (.isl 1 (pe.map eI)) false) (ai 1 []))))),(J 3),.aN [0] [.cG (au 1 eI (ab.set (0+ad.toNat) dp))] [(0,ii),(1,ii),(8,fW ((ab.set (0+ad.toNat) dp).length)),(9,ii),(10,ii)]]) (aV.aI (.bi cQ (YE dp eK) (bR.n .i64 dp) eU.1 eU.2 (hT eI eL) (hM 1) (yl gN hd) (.dh (pp gi hD) (KB pe fu) (c2 1 .live (gP (cZ eI ab) (0+ad.toNat) dp)) (aJ 1 .live aO (ab.set (0+ad.toNat) dp)) (hi (dX ab) (0+ad.toNat) dp))))))))
  (fun h1 =>
  .ret (bg [(J 2),.aa false,.aN [0] [.pure] (a8 [8,9])] (.aD h1 (aJ 1 .live aO ab))))
theorem Ym {ag aG fV:List Int}{ad:Int}{ab:List Int}{r} (h:KE ag aG fV ad ab=some r):dP a4 65 0 120 [1,1,1,1,0,1,0,0] (I7 ag aG) (JC ag aG) (fV,ad,ab) r:=dQ (fun _=>WL) h
def tv (ag aG:List Int):Option ((List Int)×(List Int)) :=
 if ((len_ eI aG) == (1:Int))=true then
  if 0≤(0:Int)∧(0:Int)<aG.length then
  aG[0]? >>= fun az =>
  AA ag az >>= fun ax =>
  rM ax.2 >>= fun bO =>
  some (ax.1,bO)
  else none
 else
  if 0≤(len_ eI ag)∧(8:Int)*(len_ eI ag)≤281474976710656∧(len_ eI ag)<9223372036854775808 then
  KE ag aG ([]:List Int) (R ((len_ eI ag)-(1:Int))) (List.replicate (len_ eI ag).toNat 0:List Int) >>= fun bn =>
  qj bn.2 >>= fun ax =>
  some (ax,bn.1)
  else none
theorem Ee {ag aG:List Int}:bD (tv ag aG) (fun r=>Con a4 120 [.isl 1 (ag.map eI),.isl 1 (aG.map eI)] [] (.ee [.isl 1 (r.1.map eI),.isl 1 (r.2.map eI)]) []):=by
 unfold tv
 exact .ite (fun h1 =>
  .aY fun o =>
  .ar fun az av =>
  .ar fun ax aX =>
  .ar fun bO bl =>
  .ret (bA [(J 2),(J 3),.aa true,.aw (ai 3 (aj (.b5 (eI az)) (aj (bu 2 (.ee [.isl 1 (ax.1.map eI),.n .i64 ax.2]) false) (ai 5 [])))),.aw (bq 2 (bu 1 (.isl 1 (bO.map eI)) false) 2)] (.dW h1 o.1 (cX eI o.2) (b1 eI av) (YD ax aX) (yl bO bl))))
  (fun h1 =>
  .aY fun o =>
  .ar fun bn av =>
  .ar fun ax aX =>
  .ret (let q1:=(List.replicate (len_ eI ag).toNat 0:List Int);bA [(J 2),(J 3),.aa false,(J 4),(J 2),(J 4),.aN [7] [.cG (au 1 eI q1)] [(0,ii),(1,ii),(8,fW (q1.length)),(9,.bp (.cJ (.dL (([]:List Int).map eI)))),(10,ii)],(JC ag aG bn).e8,.jd 0,.aw (bq 1 (.call {ac:=[.bp (.cJ (.dL (bn.2.map eI)))],r:= .isl 1 (ax.map eI),ej:=false,eC:=[0]}) 3)] (.bi h1 o.1 (Int.le_refl (len_ eI ag)) o.2.1 o.2.2 (c2 1 .live (lY eI (len_ eI ag).toNat 0)) (aJ 1 .live aO q1) (mh (len_ eI ag).toNat (0:Int)) (.gz (k6 (show []=(([]:List Int)).map eI from rfl) (fg Int)) (lm (show []=(([]:List Int)).map eI from rfl) (fg Int)) (dk aO ([]:List Int)) (Ym av) (fw eI bn.2) (ff eI bn.2) (dk aO bn.2) (si ax aX)))))
def I8:((List Int)×(List Int))→S:=fun (dq,eG)=>dv [(5,.isl 1 (dq.map eI)),(6,.isl 1 (eG.map eI))] []
def DS:(((List Int))⊕((List Int)))→dy
 | .inl a=>⟨some 0,[(5,.isl 1 (a.map eI))],[]⟩
 | .inr a=>⟨none,[(4,.isl 1 (a.map eI))],[]⟩
def uH (dq eG:List Int):Option (((List Int)×(List Int))⊕(((List Int))⊕((List Int)))) :=
 if (decide ((0:Int)<(len_ eI eG)))=true then
  if (decide ((len_ eI dq)<(3:Int)))=true then
   if (decide ((len_ eI eG)<(3:Int)))=true then
    ym dq >>= fun a6 =>
    ym eG >>= fun cn =>
    Az a6.1 cn.1 >>= fun de =>
    some (.inr (.inr de))
   else
    tv dq eG >>= fun a6 =>
    some (.inl (eG,a6.2))
  else
   tv dq eG >>= fun bn =>
   some (.inl (eG,bn.2))
 else
  some (.inr (.inl dq))
def KF (dq eG:List Int):Option (((List Int))⊕((List Int))):=iter (fun w:(List Int)×(List Int)=>uH w.1 w.2) (dq,eG)
theorem WM {dq eG:List Int}:bD (uH dq eG) (dO a4 52 0 103 [1,1,1,0,0,0] (I8 (dq,eG)) (I8) (DS)):=by
 unfold uH
 exact .ite (fun h1 =>
  .ite (fun o =>
  (let t1:List b0:=[(J 3),.aa true,.aw (ai 7 (aj (.aa true) []))];
  .ite (fun af =>
  .ar fun a6 aA =>
  .ar fun cn bf =>
  .ar fun de cB =>
  .ret (bg (t1.append [.aa true,.aw (bq 1 (bu 1 (.ee [.n .i64 a6.1,.b a6.2]) true) 5),.aw (bq 1 (bu 1 (.ee [.n .i64 cn.1,.b cn.2]) true) 5),.aw (bq 2 (bu 2 (.isl 1 (de.map eI)) false) 1),.aN [] [] (a8 [4])]) (.bi h1 o o o o af (Pb a6 aA) (E8 (mD (bR.n .i64 a6.1) (mD (bR.b a6.2) rT))) (.bP (Pb cn bf) (E8 (mD (bR.n .i64 cn.1) (mD (bR.b cn.2) rT))) (YC de cB)))))
  (fun af =>
  .ar fun a6 aA =>
  .ret (bg (t1.append [.aa false,.aw (bq 2 (bu 2 (.ee [.isl 1 (a6.1.map eI),.isl 1 (a6.2.map eI)]) false) 5),(J 2),(J 2),.aN [] [] (a8 [5,6])]) (.eP h1 o o o o af (Ee a6 aA))))))
  (fun o =>
  .ar fun bn av =>
  .ret (bg [(J 3),.aa true,.aw (ai 4 (cx 3 (aj (.aa false) []))),.aa false,.aw (bq 2 (bu 2 (.ee [.isl 1 (bn.1.map eI),.isl 1 (bn.2.map eI)]) false) 5),(J 2),(J 2),.aN [] [] (a8 [5,6])] (.eP h1 o o o o cK (Ee bn av)))))
  (fun h1 =>
  .ret (bg [(J 3),.aa false,.aN [] [] (a8 [5])] (.e1 h1)))
theorem O6 {dq eG:List Int}{r} (h:KF dq eG=some r):dP a4 52 0 103 [1,1,1,0,0,0] (I8) (DS) (dq,eG) r:=dQ (fun _=>WM) h
def yu (ag aG:List Int):Option (List Int) :=
 if (([]:List Int)++ag).length*8≤140737488355328 then
 if (([]:List Int)++aG).length*8≤140737488355328 then
 KF (([]:List Int)++ag) (([]:List Int)++aG) >>= fun bn =>
 match bn with
 | .inl fv=>(some fv)
 | .inr fv=>(some fv)
 else none
 else none
theorem Pt {ag aG:List Int}:bD (yu ag aG) (fun r=>Con a4 103 [.isl 1 (ag.map eI),.isl 1 (aG.map eI)] [] (.isl 1 (r.map eI)) []):=by
 unfold yu
 exact .aY fun h1 =>
  .aY fun o =>
  .ar fun bn av =>
  (let q1:=(([]:List Int)++ag);let a7:=(([]:List Int)++aG);let t1:List b0:=[(J 1),.aw (bq 2 (.aI (q1.length)) 1),.aw (bq 2 (.aI (a7.length)) 1),.aN [] [] [(5,.bp (.cJ (.dL (q1.map eI)))),(6,.bp (.cJ (.dL (a7.map eI))))]];
  have aV:=((.bi (nu (show []=(([]:List Int)).map eI from rfl) (fg Int)) (lZ (fg Int) (cZ eI ag):q1.length=0+(ag.map eI).length) h1 (nu (show []=(([]:List Int)).map eI from rfl) (fg Int)) (lZ (fg Int) (cZ eI aG):a7.length=0+(aG.map eI).length) o (k6 (iz (show []=(([]:List Int)).map eI from rfl) (fg Int) (cZ eI ag)) (dX q1)) (lm (iz (show []=(([]:List Int)).map eI from rfl) (fg Int) (cZ eI ag)) (dX q1)) (.c4 (dk aO q1) (k6 (iz (show []=(([]:List Int)).map eI from rfl) (fg Int) (cZ eI aG)) (dX a7)) (lm (iz (show []=(([]:List Int)).map eI from rfl) (fg Int) (cZ eI aG)) (dX a7)) (dk aO a7))):cA _);
  (by
  rcases bn with fv|fv
  ·exact (.ret (bA (t1.append [(DS (.inl fv)).e8,(J 2)]) (aV.aI (.e1 (O6 av)))))
  ·exact (.ret (bA (t1.append [(DS (.inr fv)).e8]) (aV.aI (.e1 (O6 av)))))))
def og (ou:Bool)(ag aG:List Int):Option aR :=
 qj ag >>= fun r1 =>
 qj aG >>= fun bn =>
 if ((len_ eI bn) == (0:Int))=true then
  some (⟨(⟨false,([]:List Int)⟩:bx),([]:List Int)⟩:aR)
 else
  qT bn >>= fun cn =>
  if cn=true then
   if (decide ((24:Int)<(len_ eI r1)))=true then
    some (⟨(⟨false,([]:List Int)⟩:bx),([]:List Int)⟩:aR)
   else
    if (decide ((24:Int)<(len_ eI bn)))=true then
     some (⟨(⟨false,([]:List Int)⟩:bx),([]:List Int)⟩:aR)
    else
     h8 ou r1 >>= fun dp =>
     if (([]:List Int)++bn).length*8≤140737488355328 then
     some (⟨dp,([]:List Int)++bn⟩:aR)
     else none
  else
   yu r1 bn >>= fun cb =>
   qT cb >>= fun dp =>
   if dp=true then
    if (decide ((24:Int)<(len_ eI r1)))=true then
     some (⟨(⟨false,([]:List Int)⟩:bx),([]:List Int)⟩:aR)
    else
     if (decide ((24:Int)<(len_ eI bn)))=true then
      some (⟨(⟨false,([]:List Int)⟩:bx),([]:List Int)⟩:aR)
     else
      h8 ou r1 >>= fun el =>
      if (([]:List Int)++bn).length*8≤140737488355328 then
      some (⟨el,([]:List Int)++bn⟩:aR)
      else none
   else
    tv r1 cb >>= fun fp =>
    tv bn cb >>= fun el =>
    if (decide ((24:Int)<(len_ eI fp.1)))=true then
     some (⟨(⟨false,([]:List Int)⟩:bx),([]:List Int)⟩:aR)
    else
     if (decide ((24:Int)<(len_ eI el.1)))=true then
      some (⟨(⟨false,([]:List Int)⟩:bx),([]:List Int)⟩:aR)
     else
      h8 ou fp.1 >>= fun iv =>
      if (([]:List Int)++el.1).length*8≤140737488355328 then
      some (⟨iv,([]:List Int)++el.1⟩:aR)
      else none
theorem At {ou:Bool}{ag aG:List Int}:bD (og ou ag aG) (fun r=>Con a4 95 [.b ou,.isl 1 (ag.map eI),.isl 1 (aG.map eI)] [] (.agg (aS r)) []):=by
 unfold og
 exact .ar fun r1 o =>
  .ar fun bn av =>
  (let t1:List b0:=[(J 1),.aw (bq 1 (bu 1 (.isl 1 (r1.map eI)) false) 1),.aw (bq 1 (bu 1 (.isl 1 (bn.map eI)) false) 1),(J 3)];
  have aV:=((.aD (si r1 o) (si bn av)):cA _);
  .ite (fun aA =>
  .ret (bA (t1.append [.aa true,(J 2)]) (aV.aI (.e1 aA)) (.bp (.agg [.id,.iJ 1,.iJ 1]))))
  (fun aA =>
  .ar fun cn bf =>
  (let t3:List b0:=t1.append [.aa false,.aw (bq 1 (bu 1 (.b cn) true) 1)];
  have eA:=aV.aI (.bP aA (Ar cn bf) (bR.b cn));
  .ite (fun bl =>
  .ite (fun cB =>
  .ret (bA (t3.append [.aa false,.aw (ai 4 (cx 3 (aj (.aa true) []))),.aa true,(J 2)]) (eA.aI (.dW (cO bl) cB cB cB cB cT)) (.bp (.agg [.id,.iJ 1,.iJ 1]))))
  (fun cB =>
  (let t5:List b0:=t3.append [.aa false,.aw (ai 7 (aj (.aa false) []))];
  .ite (fun cQ =>
  .ret (bA (t5.append [.aa true,(J 2)]) (eA.aI (.dW (cO bl) cB cB cB cB cQ)) (.bp (.agg [.id,.iJ 1,.iJ 1]))))
  (fun cQ =>
  .ar fun dp eK =>
  .aY fun eU =>
  .ret (let q1:=(([]:List Int)++bn);bA (t5.append [.aa false,.aw (ai 2 (aj (bu 2 (.agg (a1 dp)) false) (bq 2 (.aI (q1.length)) 2)))]) (eA.aI (.bi (cO bl) cB cB cB cB cQ (oe dp eK) (nu (show []=(([]:List Int)).map eI from rfl) (fg Int)) (.dh (lZ (fg Int) (cZ eI bn):q1.length=0+(bn.map eI).length) eU (k6 (iz (show []=(([]:List Int)).map eI from rfl) (fg Int) (cZ eI bn)) (dX q1)) (lm (iz (show []=(([]:List Int)).map eI from rfl) (fg Int) (cZ eI bn)) (dX q1)) (dk aO q1)))) (.bp (.agg [.id,.id,.dL (q1.map eI)])))))))
  (fun bl =>
  .ar fun cb cQ =>
  .ar fun dp eK =>
  (let t5:List b0:=t3.append [.aa true,.aw (bq 2 (bu 2 (.isl 1 (cb.map eI)) false) 1),.aw (bq 1 (bu 1 (.b dp) true) 1)];
  have kj:=eA.aI (.c4 (cM bl) (Pt cb cQ) (Ar dp eK) (bR.b dp));
  .ite (fun eU =>
  .ite (fun eL =>
  .ret (bA (t5.append [.aa false,.aw (ai 4 (cx 3 (aj (.aa true) []))),.aa true,(J 2)]) (kj.aI (.dW (cO eU) eL eL eL eL cT)) (.bp (.agg [.id,.iJ 1,.iJ 1]))))
  (fun eL =>
  (let t7:List b0:=t5.append [.aa false,.aw (ai 7 (aj (.aa false) []))];
  have lU:=kj.aI (.dh (cO eU) eL eL eL eL);
  .ite (fun fM =>
  .ret (bA (t7.append [.aa true,(J 2)]) (lU.aI (.e1 fM)) (.bp (.agg [.id,.iJ 1,.iJ 1]))))
  (fun fM =>
  .ar fun el hQ =>
  .aY fun hD =>
  .ret (let a7:=(([]:List Int)++bn);bA (t7.append [.aa false,.aw (ai 2 (aj (bu 2 (.agg (a1 el)) false) (bq 2 (.aI (a7.length)) 2)))]) (lU.aI (.gz fM (oe el hQ) (nu (show []=(([]:List Int)).map eI from rfl) (fg Int)) (lZ (fg Int) (cZ eI bn):a7.length=0+(bn.map eI).length) hD (k6 (iz (show []=(([]:List Int)).map eI from rfl) (fg Int) (cZ eI bn)) (dX a7)) (lm (iz (show []=(([]:List Int)).map eI from rfl) (fg Int) (cZ eI bn)) (dX a7)) (dk aO a7))) (.bp (.agg [.id,.id,.dL (a7.map eI)])))))))
  (fun eU =>
  .ar fun fp fM =>
  .ar fun el hQ =>
  (let t7:List b0:=t5.append [.aa true,.aw (bq 2 (bu 2 (.ee [.isl 1 (fp.1.map eI),.isl 1 (fp.2.map eI)]) false) 4),.aw (bq 2 (bu 2 (.ee [.isl 1 (el.1.map eI),.isl 1 (el.2.map eI)]) false) 4)];
  have lU:=kj.aI (.bP (cM eU) (Ee fp fM) (Ee el hQ));
  .ite (fun hD =>
  .ret (bA (t7.append [.aw (ai 4 (cx 3 (aj (.aa true) []))),.aa true,(J 2)]) (lU.aI (.dh hD hD hD hD cT)) (.bp (.agg [.id,.iJ 1,.iJ 1]))))
  (fun hD =>
  (let t9:List b0:=t7.append [.aw (ai 7 (aj (.aa false) []))];
  .ite (fun gy =>
  .ret (bA (t9.append [.aa true,(J 2)]) (lU.aI (.dh hD hD hD hD gy)) (.bp (.agg [.id,.iJ 1,.iJ 1]))))
  (fun gy =>
  .ar fun iv gM =>
  .aY fun ig =>
  .ret (let bZ:=(([]:List Int)++el.1);let cC:=cZ eI el.1;bA (t9.append [.aa false,.aw (ai 2 (aj (bu 2 (.agg (a1 iv)) false) (bq 2 (.aI (bZ.length)) 2)))]) (lU.aI (.bi hD hD hD hD gy (oe iv gM) (nu (show []=(([]:List Int)).map eI from rfl) (fg Int)) (lZ (fg Int) cC:bZ.length=0+(el.1.map eI).length) (.c4 ig (k6 (iz (show []=(([]:List Int)).map eI from rfl) (fg Int) cC) (dX bZ)) (lm (iz (show []=(([]:List Int)).map eI from rfl) (fg Int) cC) (dX bZ)) (dk aO bZ)))) (.bp (.agg [.id,.id,.dL (bZ.map eI)])))))))))))))
def rL (b4 aH:aR):Option aR :=
 qT b4.hP >>= fun r1 =>
 if r1=true then
  qT aH.hP >>= fun a6 =>
  if a6=true then
   qm b4.fB aH.fB >>= fun bO =>
   og bO.c0 bO.cN ([1]:List Int) >>= fun cb =>
   some cb
  else
   h3 b4.fB.cN aH.hP >>= fun bO =>
   h8 b4.fB.c0 bO >>= fun cb =>
   h3 aH.fB.cN b4.hP >>= fun dp =>
   h8 aH.fB.c0 dp >>= fun eM =>
   qm cb eM >>= fun gN =>
   h3 b4.hP aH.hP >>= fun gi =>
   og gN.c0 gN.cN gi >>= fun pe =>
   some pe
 else
  h3 b4.fB.cN aH.hP >>= fun a6 =>
  h8 b4.fB.c0 a6 >>= fun cn =>
  h3 aH.fB.cN b4.hP >>= fun de =>
  h8 aH.fB.c0 de >>= fun et =>
  qm cn et >>= fun en =>
  h3 b4.hP aH.hP >>= fun fp =>
  og en.c0 en.cN fp >>= fun el =>
  some el
theorem Ef {b4 aH:aR}:bD (rL b4 aH) (fun r=>Con a4 68 [.agg (aS b4),.agg (aS aH)] [] (.agg (aS r)) []):=by
 unfold rL
 exact .ar fun r1 o =>
  (have b9:=((.aD (Ar r1 o) (bR.b r1)):cA _);
  .ite (fun af =>
  .ar fun a6 aA =>
  (let t2:List b0:=[(J 3),.aw (ai 2 (aj (bu 1 (.b r1) true) (ai 3 (aj (bu 1 (.b a6) true) (aj (.aa true) [])))))];
  have fI:=b9.aI (.dW af af af (Ar a6 aA) (bR.b a6) af);
  .ite (fun aX =>
  .ar fun bO bl =>
  .ar fun cb cQ =>
  .ret (bA (t2.append [.aa true,.aw (bq 4 (bu 2 (.agg (a1 bO)) false) 2),.aw (bq 5 (.tc 22 (.call {ac:=[ii,ii,.bp (.cJ (.dL (([1]:List Int).map eI)))],r:= .agg (aS cb),ej:=false,eC:=[22]})) 1)]) (fI.aI (.dW aX (KC bO bl) (k6 (show [[.n .i64 (1:Int)]]=(([1]:List Int)).map eI from rfl) (show 1=([1]:List Int).length from rfl)) (gF eI 1) (dk aO ([1]:List Int)) (At cb cQ)))))
  (fun aX =>
  .ar fun bO bl =>
  .ar fun cb cQ =>
  .ar fun dp eK =>
  .ar fun eM eL =>
  .ar fun gN hd =>
  .ar fun gi hD =>
  .ar fun pe fu =>
  .ret (bA (t2.append [.aa false,.aw (ai 8 (aj (bu 2 (.isl 1 (bO.map eI)) false) (aj (bu 2 (.agg (a1 cb)) false) (ai 2 [])))),.aw (ai 8 (aj (bu 2 (.isl 1 (dp.map eI)) false) (aj (bu 2 (.agg (a1 eM)) false) (ai 2 [])))),.aw (bq 2 (bu 2 (.agg (a1 gN)) false) 2),.aw (ai 8 (aj (bu 2 (.isl 1 (gi.map eI)) false) (aj (bu 3 (.agg (aS pe)) false) (ai 1 []))))]) (fI.aI (.gz aX (pp bO bl) (oe cb cQ) (pp dp eK) (oe eM eL) (KC gN hd) (pp gi hD) (At pe fu)))))))
  (fun af =>
  .ar fun a6 aA =>
  .ar fun cn bf =>
  .ar fun de cB =>
  .ar fun et fe =>
  .ar fun en eU =>
  .ar fun fp fM =>
  .ar fun el hQ =>
  .ret (bA [(J 3),.aw (ai 2 (aj (bu 1 (.b r1) true) (ai 1 (cx 3 (aj (.aa false) []))))),.aa false,.aw (ai 8 (aj (bu 2 (.isl 1 (a6.map eI)) false) (aj (bu 2 (.agg (a1 cn)) false) (ai 2 [])))),.aw (ai 8 (aj (bu 2 (.isl 1 (de.map eI)) false) (aj (bu 2 (.agg (a1 et)) false) (ai 2 [])))),.aw (bq 2 (bu 2 (.agg (a1 en)) false) 2),.aw (ai 8 (aj (bu 2 (.isl 1 (fp.map eI)) false) (aj (bu 3 (.agg (aS el)) false) (ai 1 []))))] (b9.aI (.bi af af af af cK (pp a6 aA) (oe cn bf) (pp de cB) (.c4 (oe et fe) (KC en eU) (pp fp fM) (At el hQ)))))))
end Go.Proofs.YtmeimpeaagmneabGreat
namespace Go.Proofs.YtmeimpeaagmneabGreat
set_option linter.unusedVariables false
set_option linter.unusedSimpArgs false
open Go Go.VL
def Hu (aL aM:Int)(bz dl du:List Int)(bN:Int):(Int×(List aR))→S:=fun (bX,aC)=>dv [(1,.ref 0 0 0 0),(3,.ref 1 0 0 0),(4,.n .i64 bX)] [[ae.mk 5 [[.n .i64 aL,.n .i64 aM,.isl 1 (bz.map eI),.isl 1 (dl.map eI),.isl 1 (du.map eI)]] .live],[ae.mk 4 [[.n .i64 bN,.ek,.ek,.bh 2 0 0 aC.length]] .live],(au 3 aS aC)]
def HN (aL aM:Int)(bz dl du:List Int)(bN:Int):(List aR)→dy
 | a=>⟨some 0,[(1,.ref 0 0 0 0),(3,.ref 1 0 0 0)],[[ae.mk 5 [[.n .i64 aL,.n .i64 aM,.isl 1 (bz.map eI),.isl 1 (dl.map eI),.isl 1 (du.map eI)]] .live],[ae.mk 4 [[.n .i64 bN,.ek,.ek,.bh 2 0 0 a.length]] .live],(au 3 aS a)]⟩
def xj (aL aM:Int)(bz dl du:List Int)(bN bX:Int)(aC:List aR):Option ((Int×(List aR))⊕((List aR))) :=
 if (decide (bX≤bN))=true then
  po 0 >>= fun bV =>
  if (aC++([bV]:List aR)).length*56≤140737488355328 then
  some (.inl (R (bX+(1:Int)),aC++([bV]:List aR)))
  else none
 else
  some (.inr aC)
def JD (aL aM:Int)(bz dl du:List Int)(bN bX:Int)(aC:List aR):Option ((List aR)):=iter (fun w:Int×(List aR)=>xj aL aM bz dl du bN w.1 w.2) (bX,aC)
theorem VC {aL aM:Int}{bz dl du:List Int}{bN bX:Int}{aC:List aR}:bD (xj aL aM bz dl du bN bX aC) (dO a4 152 0 48 [1,1,0,1,0,0] (Hu aL aM bz dl du bN (bX,aC)) (Hu aL aM bz dl du bN) (HN aL aM bz dl du bN)):=by
 unfold xj
 exact .ite (fun h1 =>
  .ar fun bV af =>
  .aY fun av =>
  .ret (let q1:=(aC++([bV]:List aR));bg [(J 6),.aa true,.aw (ai 5 (aj (bu 1 (.agg (aS bV)) false) (bq 1 (.aI (q1.length)) 3))),(J 3),.aN [0,1,16] [.box [.id,.id,.id,.id,.id],.box [.id,.id,.id,.id],.cG (au 3 aS q1)] (a8 [1,3,4])] (.gz h1 (sg bV af) (gF aS bV) (g9 aS aC) (gG aS aC bV) av (c2 3 .live (hf aS aC bV)) (aJ 3 .live e2 q1))))
  (fun h1 =>
  .ret (bg [(J 6),.aa false,.aN [0,1,2] [.box [.id,.id,.id,.id,.id],.box [.id,.id,.id,.id],.pure] (a8 [1,3])] (.aD h1 (aJ 3 .live e2 aC))))
theorem W9 {aL aM:Int}{bz dl du:List Int}{bN bX:Int}{aC:List aR}{r} (h:JD aL aM bz dl du bN bX aC=some r):dP a4 152 0 48 [1,1,0,1,0,0] (Hu aL aM bz dl du bN) (HN aL aM bz dl du bN) (bX,aC) r:=dQ (fun _=>VC) h
def Hv (ad:Int)(ei:List Int)(ft aL aM:Int)(bz dl du:List Int)(bN:Int)(al:List bF)(e3:List (List aR))(bL:List Int)(fb:List aR):(Int×(List aR))→S:=fun (gK,aC)=>dv [(1,.ref 0 0 0 0),(3,.ref 1 0 0 0),(5,.n .i64 ad),(6,.n .i64 (-1:Int)),(7,.bh 2 0 0 aC.length),(53,.isl 1 (ei.map eI)),(54,.n .i64 ft),(55,.n .i64 gK)] [[ae.mk 5 [[.n .i64 aL,.n .i64 aM,.isl 1 (bz.map eI),.isl 1 (dl.map eI),.isl 1 (du.map eI)]] .live],[ae.mk 4 [(d6 bN 3 0 0 al.length 5 0 0 bL.length 6 0 0 fb.length)] .live],(au 3 aS aC),(au 1 (br 4 0 3) al),(cf 3 aS e3),(au 1 eI bL),(au 3 aS fb)]
def HO (ad:Int)(ei:List Int)(ft aL aM:Int)(bz dl du:List Int)(bN:Int)(al:List bF)(e3:List (List aR))(bL:List Int)(fb:List aR):(List aR)→dy
 | a=>⟨some 4,[(1,.ref 0 0 0 0),(3,.ref 1 0 0 0),(5,.n .i64 ad),(6,.n .i64 (-1:Int)),(7,.bh 2 0 0 a.length)],[[ae.mk 5 [[.n .i64 aL,.n .i64 aM,.isl 1 (bz.map eI),.isl 1 (dl.map eI),.isl 1 (du.map eI)]] .live],[ae.mk 4 [(d6 bN 3 0 0 al.length 5 0 0 bL.length 6 0 0 fb.length)] .live],(au 3 aS a),(au 1 (br 4 0 3) al),(cf 3 aS e3),(au 1 eI bL),(au 3 aS fb)]⟩
def xk (ad:Int)(ei:List Int)(ft aL aM:Int)(bz dl du:List Int)(bN:Int)(al:List bF)(e3:List (List aR))(bL:List Int)(fb:List aR)(gK:Int)(aC:List aR):Option ((Int×(List aR))⊕((List aR))) :=
 if (decide (gK<ft))=true then
  if 0≤gK∧gK<ei.length then
  ei[gK.toNat]? >>= fun az =>
  po (R ((-1:Int)*az)) >>= fun ax =>
  if (aC++([ax]:List aR)).length*56≤140737488355328 then
  some (.inl (R (gK+(1:Int)),aC++([ax]:List aR)))
  else none
  else none
 else
  some (.inr aC)
def DT (ad:Int)(ei:List Int)(ft aL aM:Int)(bz dl du:List Int)(bN:Int)(al:List bF)(e3:List (List aR))(bL:List Int)(fb:List aR)(gK:Int)(aC:List aR):Option ((List aR)):=iter (fun w:Int×(List aR)=>xk ad ei ft aL aM bz dl du bN al e3 bL fb w.1 w.2) (gK,aC)
theorem VD {ad:Int}{ei:List Int}{ft aL aM:Int}{bz dl du:List Int}{bN:Int}{al:List bF}{e3:List (List aR)}{bL:List Int}{fb:List aR}{gK:Int}{aC:List aR}:bD (xk ad ei ft aL aM bz dl du bN al e3 bL fb gK aC) (dO a4 152 0 48 [1,1,1,0,1,0,0,1,0,0,1,1,1,0,1,0,0] (Hv ad ei ft aL aM bz dl du bN al e3 bL fb (gK,aC)) (Hv ad ei ft aL aM bz dl du bN al e3 bL fb) (HO ad ei ft aL aM bz dl du bN al e3 bL fb)):=by
 unfold xk
 exact .ite (fun h1 =>
  .aY fun o =>
  .ar fun az av =>
  .ar fun ax aX =>
  .aY fun bf =>
  .ret (let q1:=(aC++([ax]:List aR));let a7:=b2 [0,1,17,3,4,5,6];bg [(J 1),.aa true,.aw (bq 1 (.b5 (eI az)) 1),.aw (ai 4 (aj (bu 1 (.agg (aS ax)) false) (bq 1 (.aI (q1.length)) 1))),(J 2),.aN [0,1,17,3,4,5,6] [.box [.id,.id,.id,.id,.id],.box [.id,.id,.id,.id],.cG (au 3 aS q1),.bM (au 1 (br 4 0 3) al),.bM (cf 3 aS e3),.pure,.pure] (a8 [1,3,5,6,7,53,54,55])] (.bi h1 o.1 (cX eI o.2) (b1 eI av) (sg ax aX) (gF aS ax) (g9 aS aC) (gG aS aC ax) (.eP bf (c2 3 .live (hf aS aC ax)) (aJ 3 .live e2 q1) (eH a7 4 4 0 3 rfl al) (dY a7 3 fr e3) (aJ 1 .live aO bL) (aJ 3 .live e2 fb)))))
  (fun h1 =>
  .ret (let bZ:=b2 [0,1,2,3,4,5,6];bg [(J 1),.aa false,.aN [0,1,2,3,4,5,6] [.box [.id,.id,.id,.id,.id],.box [.id,.id,.id,.id],.pure,.bM (au 1 (br 4 0 3) al),.bM (cf 3 aS e3),.pure,.pure] (a8 [1,3,5,6,7])] (.dW h1 (aJ 3 .live e2 aC) (eH bZ 4 4 0 3 rfl al) (dY bZ 3 fr e3) (aJ 1 .live aO bL) (aJ 3 .live e2 fb))))
theorem Xa {ad:Int}{ei:List Int}{ft aL aM:Int}{bz dl du:List Int}{bN:Int}{al:List bF}{e3:List (List aR)}{bL:List Int}{fb:List aR}{gK:Int}{aC:List aR}{r} (h:DT ad ei ft aL aM bz dl du bN al e3 bL fb gK aC=some r):dP a4 152 0 48 [1,1,1,0,1,0,0,1,0,0,1,1,1,0,1,0,0] (Hv ad ei ft aL aM bz dl du bN al e3 bL fb) (HO ad ei ft aL aM bz dl du bN al e3 bL fb) (gK,aC) r:=dQ (fun _=>VD) h
def Hw (ad aL aM:Int)(bz dl du:List Int)(bN:Int)(al:List bF)(e3:List (List aR))(bL:List Int)(fb:List aR):(Int×(List aR))→S:=fun (aQ,aC)=>dv [(1,.ref 0 0 0 0),(3,.ref 1 0 0 0),(5,.n .i64 ad),(6,.n .i64 (-1:Int)),(7,.bh 2 0 0 aC.length),(10,.n .i64 aQ)] [[ae.mk 5 [[.n .i64 aL,.n .i64 aM,.isl 1 (bz.map eI),.isl 1 (dl.map eI),.isl 1 (du.map eI)]] .live],[ae.mk 4 [(d6 bN 3 0 0 al.length 5 0 0 bL.length 6 0 0 fb.length)] .live],(au 3 aS aC),(au 1 (br 4 0 3) al),(cf 3 aS e3),(au 1 eI bL),(au 3 aS fb)]
def HP (ad aL aM:Int)(bz dl du:List Int)(bN:Int)(al:List bF)(e3:List (List aR))(bL:List Int)(fb:List aR):(List aR)→dy
 | a=>⟨some 6,[(1,.ref 0 0 0 0),(3,.ref 1 0 0 0),(5,.n .i64 ad),(6,.n .i64 (-1:Int)),(7,.bh 2 0 0 a.length)],[[ae.mk 5 [[.n .i64 aL,.n .i64 aM,.isl 1 (bz.map eI),.isl 1 (dl.map eI),.isl 1 (du.map eI)]] .live],[ae.mk 4 [(d6 bN 3 0 0 al.length 5 0 0 bL.length 6 0 0 fb.length)] .live],(au 3 aS a),(au 1 (br 4 0 3) al),(cf 3 aS e3),(au 1 eI bL),(au 3 aS fb)]⟩
def xl (ad aL aM:Int)(bz dl du:List Int)(bN:Int)(al:List bF)(e3:List (List aR))(bL:List Int)(fb:List aR)(aQ:Int)(aC:List aR):Option ((Int×(List aR))⊕((List aR))) :=
 if (decide (aQ<aL))=true then
  if (aQ == ad)=true then
   po 1 >>= fun bn =>
   if (aC++([bn]:List aR)).length*56≤140737488355328 then
   some (.inl (R (aQ+(1:Int)),aC++([bn]:List aR)))
   else none
  else
   po 0 >>= fun bn =>
   if (aC++([bn]:List aR)).length*56≤140737488355328 then
   some (.inl (R (aQ+(1:Int)),aC++([bn]:List aR)))
   else none
 else
  some (.inr aC)
def DU (ad aL aM:Int)(bz dl du:List Int)(bN:Int)(al:List bF)(e3:List (List aR))(bL:List Int)(fb:List aR)(aQ:Int)(aC:List aR):Option ((List aR)):=iter (fun w:Int×(List aR)=>xl ad aL aM bz dl du bN al e3 bL fb w.1 w.2) (aQ,aC)
theorem VE {ad aL aM:Int}{bz dl du:List Int}{bN:Int}{al:List bF}{e3:List (List aR)}{bL:List Int}{fb:List aR}{aQ:Int}{aC:List aR}:bD (xl ad aL aM bz dl du bN al e3 bL fb aQ aC) (dO a4 152 0 48 [1,1,1,0,1,0,0,1,0,0,1,1,1,1,0,1,0,0] (Hw ad aL aM bz dl du bN al e3 bL fb (aQ,aC)) (Hw ad aL aM bz dl du bN al e3 bL fb) (HP ad aL aM bz dl du bN al e3 bL fb)):=by
 unfold xl
 exact .ite (fun h1 =>
  (let t1:List b0:=[(J 4),.aa true,(J 1),(J 3)];
  .ite (fun o =>
  .ar fun bn av =>
  .aY fun aA =>
  .ret (let q1:=(aC++([bn]:List aR));let a7:=b2 [0,1,20,3,4,5,6];bg (t1.append [.aa true,(J 1),.aw (ai 2 (aj (bu 1 (.agg (aS bn)) false) (bq 1 (.aI (q1.length)) 1))),(J 3),.aN [0,1,20,3,4,5,6] [.box [.id,.id,.id,.id,.id],.box [.id,.id,.id,.id],.cG (au 3 aS q1),.bM (au 1 (br 4 0 3) al),.bM (cf 3 aS e3),.pure,.pure] (a8 [1,3,5,6,7,10])]) (.bi h1 o (sg bn av) (gF aS bn) (g9 aS aC) (gG aS aC bn) aA (c2 3 .live (hf aS aC bn)) (.dh (aJ 3 .live e2 q1) (eH a7 4 4 0 3 rfl al) (dY a7 3 fr e3) (aJ 1 .live aO bL) (aJ 3 .live e2 fb)))))
  (fun o =>
  .ar fun bn av =>
  .aY fun aA =>
  .ret (let bZ:=(aC++([bn]:List aR));let cC:=b2 [0,1,19,3,4,5,6];bg (t1.append [.aa false,.aw (ai 2 (aj (bu 1 (.agg (aS bn)) false) (bq 1 (.aI (bZ.length)) 1))),(J 3),.aN [0,1,19,3,4,5,6] [.box [.id,.id,.id,.id,.id],.box [.id,.id,.id,.id],.cG (au 3 aS bZ),.bM (au 1 (br 4 0 3) al),.bM (cf 3 aS e3),.pure,.pure] (a8 [1,3,5,6,7,10])]) (.bi h1 o (sg bn av) (gF aS bn) (g9 aS aC) (gG aS aC bn) aA (c2 3 .live (hf aS aC bn)) (.dh (aJ 3 .live e2 bZ) (eH cC 4 4 0 3 rfl al) (dY cC 3 fr e3) (aJ 1 .live aO bL) (aJ 3 .live e2 fb)))))))
  (fun h1 =>
  .ret (let dr:=b2 [0,1,2,3,4,5,6];bg [(J 4),.aa false,.aN [0,1,2,3,4,5,6] [.box [.id,.id,.id,.id,.id],.box [.id,.id,.id,.id],.pure,.bM (au 1 (br 4 0 3) al),.bM (cf 3 aS e3),.pure,.pure] (a8 [1,3,5,6,7])] (.dW h1 (aJ 3 .live e2 aC) (eH dr 4 4 0 3 rfl al) (dY dr 3 fr e3) (aJ 1 .live aO bL) (aJ 3 .live e2 fb))))
theorem Xb {ad aL aM:Int}{bz dl du:List Int}{bN:Int}{al:List bF}{e3:List (List aR)}{bL:List Int}{fb:List aR}{aQ:Int}{aC:List aR}{r} (h:DU ad aL aM bz dl du bN al e3 bL fb aQ aC=some r):dP a4 152 0 48 [1,1,1,0,1,0,0,1,0,0,1,1,1,1,0,1,0,0] (Hw ad aL aM bz dl du bN al e3 bL fb) (HP ad aL aM bz dl du bN al e3 bL fb) (aQ,aC) r:=dQ (fun _=>VE) h
def Hx (ad:Int)(gp ev:Nat)(oY aL aM:Int)(bz dl du:List Int)(bN:Int)(bc:List (List aR))(al:List bF)(aK:List Int):(Int×(List aR))→S:=fun (h4,bL)=>dv [(1,.ref 0 0 0 0),(3,.ref 1 0 0 0),(5,.n .i64 ad),(7,.bh 2 (gp+0) 0 ev),(93,.n .i64 oY),(94,.n .i64 h4)] [[ae.mk 5 [[.n .i64 aL,.n .i64 aM,.isl 1 (bz.map eI),.isl 1 (dl.map eI),.isl 1 (du.map eI)]] .live],[ae.mk 4 [(d6 bN 3 0 0 al.length 4 0 0 aK.length 5 0 0 bL.length)] .live],(cf 3 aS bc),(au 1 (br 2 0 3) al),(au 1 eI aK),(au 3 aS bL)]
def DK (ad:Int)(gp ev:Nat)(oY aL aM:Int)(bz dl du:List Int)(bN:Int)(bc:List (List aR))(al:List bF)(aK:List Int):(List aR)→dy
 | a=>⟨some 8,[(1,.ref 0 0 0 0),(3,.ref 1 0 0 0),(5,.n .i64 ad),(7,.bh 2 (gp+0) 0 ev)],[[ae.mk 5 [[.n .i64 aL,.n .i64 aM,.isl 1 (bz.map eI),.isl 1 (dl.map eI),.isl 1 (du.map eI)]] .live],[ae.mk 4 [(d6 bN 3 0 0 al.length 4 0 0 aK.length 5 0 0 a.length)] .live],(cf 3 aS bc),(au 1 (br 2 0 3) al),(au 1 eI aK),(au 3 aS a)]⟩
def xm (ad:Int)(gp ev:Nat)(oY aL aM:Int)(bz dl du:List Int)(bN:Int)(bc:List (List aR))(al:List bF)(aK:List Int)(h4:Int)(bL:List aR):Option ((Int×(List aR))⊕((List aR))) :=
 if (decide (h4<oY))=true then
  if (decide (h4<aM))=true then
   if 0≤h4∧h4<(bL.length:Nat) then
   bL[(0+h4.toNat)]? >>= fun fE =>
   bc[gp]? >>= fun nk =>
   if 0≤h4∧h4<(ev:Nat) then
   nk[(0+h4.toNat)]? >>= fun dj =>
   rL fE dj >>= fun dp =>
   if (0+h4.toNat)<bL.length then
   some (.inl (R (h4+(1:Int)),bL.set (0+h4.toNat) dp))
   else none
   else none
   else none
  else
   if (h4 == bN)=true then
    if 0≤h4∧h4<(bL.length:Nat) then
    bL[(0+h4.toNat)]? >>= fun eZ =>
    bc[gp]? >>= fun iT =>
    if 0≤h4∧h4<(ev:Nat) then
    iT[(0+h4.toNat)]? >>= fun je =>
    rL eZ je >>= fun en =>
    if (0+h4.toNat)<bL.length then
    some (.inl (R (h4+(1:Int)),bL.set (0+h4.toNat) en))
    else none
    else none
    else none
   else
    some (.inl (R (h4+(1:Int)),bL))
 else
  some (.inr bL)
def Aa (ad:Int)(gp ev:Nat)(oY aL aM:Int)(bz dl du:List Int)(bN:Int)(bc:List (List aR))(al:List bF)(aK:List Int)(h4:Int)(bL:List aR):Option ((List aR)):=iter (fun w:Int×(List aR)=>xm ad gp ev oY aL aM bz dl du bN bc al aK w.1 w.2) (h4,bL)
theorem VF {ad:Int}{gp ev:Nat}{oY aL aM:Int}{bz dl du:List Int}{bN:Int}{bc:List (List aR)}{al:List bF}{aK:List Int}{h4:Int}{bL:List aR}:bD (xm ad gp ev oY aL aM bz dl du bN bc al aK h4 bL) (dO a4 152 0 48 [1,1,1,0,1,0,0,1,0,0,1,1,1,1,1,1,0,1,0,0] (Hx ad gp ev oY aL aM bz dl du bN bc al aK (h4,bL)) (Hx ad gp ev oY aL aM bz dl du bN bc al aK) (DK ad gp ev oY aL aM bz dl du bN bc al aK)):=by
 unfold xm
 exact .ite (fun h1 =>
  (let t1:List b0:=[(J 1),.aa true,(J 2)];
  .ite (fun o =>
  .aY fun af =>
  .ar fun fE aA =>
  .ar fun nk bf =>
  .aY fun bl =>
  .ar fun dj cQ =>
  .ar fun dp eK =>
  .aY fun eU =>
  .ret (let q1:=ke (gu .live 3 aS bc) jv bf;let a7:=b2 [0,1,2,3,4,5];bg (t1.append [.aw (ai 5 (cx 6 (aj (.aa true) []))),.aa true,.aw (ai 11 (aj (.b5 (aS fE)) (ai 2 (aj (.gv (ae.mk 3 (nk.map aS) .live) []) (aj (.gv (ae.mk 3 (nk.map aS) .live) (aS dj)) (aj (bu 2 (.agg (aS dp)) false) (ai 1 (aj .fZ [])))))))),(J 2),.aN [0,1,2,3,4,5] [.box [.id,.id,.id,.id,.id],.box [.id,.id,.id,.len ((bL.set (0+h4.toNat) dp).length)],.bM (cf 3 aS bc),.bM (au 1 (br 2 0 3) al),.pure,.cG (au 3 aS (bL.set (0+h4.toNat) dp))] (a8 [1,3,5,7,93,94])]) (.bi h1 o o o o o o o (.bi cT af.1 af.2 (b1 aS aA) q1 bl.1 bl.2 q1 (.bi (b1 aS cQ) (Ef dp eK) af.1 af.2 (hT aS eU) (hM 3) (hi (dX bL) (0+h4.toNat) dp) (dY a7 3 fr bc) (.c4 (eH a7 2 2 0 3 rfl al) (aJ 1 .live aO aK) (c2 3 .live (gP (cZ aS bL) (0+h4.toNat) dp)) (aJ 3 .live e2 (bL.set (0+h4.toNat) dp))))))))
  (fun o =>
  (let t2:List b0:=t1.append [.aw (ai 11 (aj (.aa false) []))];
  .ite (fun af =>
  .aY fun av =>
  .ar fun eZ aX =>
  .ar fun iT bl =>
  .aY fun cB =>
  .ar fun je fe =>
  .ar fun en eU =>
  .aY fun eL =>
  .ret (let bZ:=ke (gu .live 3 aS bc) jv bl;let cC:=b2 [0,1,2,3,4,5];bg (t2.append [.aa true,.aw (ai 11 (aj (.b5 (aS eZ)) (ai 2 (aj (.gv (ae.mk 3 (iT.map aS) .live) []) (aj (.gv (ae.mk 3 (iT.map aS) .live) (aS je)) (aj (bu 2 (.agg (aS en)) false) (ai 1 (aj .fZ [])))))))),(J 2),.aN [0,1,2,3,4,5] [.box [.id,.id,.id,.id,.id],.box [.id,.id,.id,.len ((bL.set (0+h4.toNat) en).length)],.bM (cf 3 aS bc),.bM (au 1 (br 2 0 3) al),.pure,.cG (au 3 aS (bL.set (0+h4.toNat) en))] (a8 [1,3,5,7,93,94])]) (.bi h1 o o o o o o o (.bi af av.1 av.2 (b1 aS aX) bZ cB.1 cB.2 bZ (.bi (b1 aS fe) (Ef en eU) av.1 av.2 (hT aS eL) (hM 3) (hi (dX bL) (0+h4.toNat) en) (dY cC 3 fr bc) (.c4 (eH cC 2 2 0 3 rfl al) (aJ 1 .live aO aK) (c2 3 .live (gP (cZ aS bL) (0+h4.toNat) en)) (aJ 3 .live e2 (bL.set (0+h4.toNat) en))))))))
  (fun af =>
  .ret (let dr:=b2 [0,1,2,3,4,5];bg (t2.append [.aa false,(J 2),.aN [0,1,2,3,4,5] [.box [.id,.id,.id,.id,.id],.box [.id,.id,.id,.id],.bM (cf 3 aS bc),.bM (au 1 (br 2 0 3) al),.pure,.pure] (a8 [1,3,5,7,93,94])]) (.bi h1 o o o o o o o (.dh af (dY dr 3 fr bc) (eH dr 2 2 0 3 rfl al) (aJ 1 .live aO aK) (aJ 3 .live e2 bL)))))))))
  (fun h1 =>
  .ret (let f8:=b2 [0,1,2,3,4,5];bg [(J 1),.aa false,.aN [0,1,2,3,4,5] [.box [.id,.id,.id,.id,.id],.box [.id,.id,.id,.id],.bM (cf 3 aS bc),.bM (au 1 (br 2 0 3) al),.pure,.pure] (a8 [1,3,5,7])] (.dh h1 (dY f8 3 fr bc) (eH f8 2 2 0 3 rfl al) (aJ 1 .live aO aK) (aJ 3 .live e2 bL))))
theorem Ov {ad:Int}{gp ev:Nat}{oY aL aM:Int}{bz dl du:List Int}{bN:Int}{bc:List (List aR)}{al:List bF}{aK:List Int}{h4:Int}{bL:List aR}{r} (h:Aa ad gp ev oY aL aM bz dl du bN bc al aK h4 bL=some r):dP a4 152 0 48 [1,1,1,0,1,0,0,1,0,0,1,1,1,1,1,1,0,1,0,0] (Hx ad gp ev oY aL aM bz dl du bN bc al aK) (DK ad gp ev oY aL aM bz dl du bN bc al aK) (h4,bL) r:=dQ (fun _=>VF) h
def Hg (ad:Int)(ei:List Int)(ft aL aM:Int)(bz dl du:List Int)(bN:Int)(al:List bF)(e3:List (List aR))(bL:List Int)(fb:List aR):(Int×(List aR))→S:=fun (gK,aC)=>dv [(1,.ref 0 0 0 0),(3,.ref 1 0 0 0),(5,.n .i64 ad),(6,.n .i64 (1:Int)),(7,.bh 2 0 0 aC.length),(53,.isl 1 (ei.map eI)),(54,.n .i64 ft),(55,.n .i64 gK)] [[ae.mk 5 [[.n .i64 aL,.n .i64 aM,.isl 1 (bz.map eI),.isl 1 (dl.map eI),.isl 1 (du.map eI)]] .live],[ae.mk 4 [(d6 bN 3 0 0 al.length 5 0 0 bL.length 6 0 0 fb.length)] .live],(au 3 aS aC),(au 1 (br 4 0 3) al),(cf 3 aS e3),(au 1 eI bL),(au 3 aS fb)]
def Hy (ad:Int)(ei:List Int)(ft aL aM:Int)(bz dl du:List Int)(bN:Int)(al:List bF)(e3:List (List aR))(bL:List Int)(fb:List aR):(List aR)→dy
 | a=>⟨some 4,[(1,.ref 0 0 0 0),(3,.ref 1 0 0 0),(5,.n .i64 ad),(6,.n .i64 (1:Int)),(7,.bh 2 0 0 a.length)],[[ae.mk 5 [[.n .i64 aL,.n .i64 aM,.isl 1 (bz.map eI),.isl 1 (dl.map eI),.isl 1 (du.map eI)]] .live],[ae.mk 4 [(d6 bN 3 0 0 al.length 5 0 0 bL.length 6 0 0 fb.length)] .live],(au 3 aS a),(au 1 (br 4 0 3) al),(cf 3 aS e3),(au 1 eI bL),(au 3 aS fb)]⟩
def xa (ad:Int)(ei:List Int)(ft aL aM:Int)(bz dl du:List Int)(bN:Int)(al:List bF)(e3:List (List aR))(bL:List Int)(fb:List aR)(gK:Int)(aC:List aR):Option ((Int×(List aR))⊕((List aR))) :=
 if (decide (gK<ft))=true then
  if 0≤gK∧gK<ei.length then
  ei[gK.toNat]? >>= fun az =>
  po (R ((1:Int)*az)) >>= fun ax =>
  if (aC++([ax]:List aR)).length*56≤140737488355328 then
  some (.inl (R (gK+(1:Int)),aC++([ax]:List aR)))
  else none
  else none
 else
  some (.inr aC)
def DO (ad:Int)(ei:List Int)(ft aL aM:Int)(bz dl du:List Int)(bN:Int)(al:List bF)(e3:List (List aR))(bL:List Int)(fb:List aR)(gK:Int)(aC:List aR):Option ((List aR)):=iter (fun w:Int×(List aR)=>xa ad ei ft aL aM bz dl du bN al e3 bL fb w.1 w.2) (gK,aC)
theorem Vr {ad:Int}{ei:List Int}{ft aL aM:Int}{bz dl du:List Int}{bN:Int}{al:List bF}{e3:List (List aR)}{bL:List Int}{fb:List aR}{gK:Int}{aC:List aR}:bD (xa ad ei ft aL aM bz dl du bN al e3 bL fb gK aC) (dO a4 152 0 48 [1,1,1,0,1,0,0,1,0,0,1,1,1,0,1,0,0] (Hg ad ei ft aL aM bz dl du bN al e3 bL fb (gK,aC)) (Hg ad ei ft aL aM bz dl du bN al e3 bL fb) (Hy ad ei ft aL aM bz dl du bN al e3 bL fb)):=by
 unfold xa
 exact .ite (fun h1 =>
  .aY fun o =>
  .ar fun az av =>
  .ar fun ax aX =>
  .aY fun bf =>
  .ret (let q1:=(aC++([ax]:List aR));let a7:=b2 [0,1,17,3,4,5,6];bg [(J 1),.aa true,.aw (bq 1 (.b5 (eI az)) 1),.aw (ai 4 (aj (bu 1 (.agg (aS ax)) false) (bq 1 (.aI (q1.length)) 1))),(J 2),.aN [0,1,17,3,4,5,6] [.box [.id,.id,.id,.id,.id],.box [.id,.id,.id,.id],.cG (au 3 aS q1),.bM (au 1 (br 4 0 3) al),.bM (cf 3 aS e3),.pure,.pure] (a8 [1,3,5,6,7,53,54,55])] (.bi h1 o.1 (cX eI o.2) (b1 eI av) (sg ax aX) (gF aS ax) (g9 aS aC) (gG aS aC ax) (.eP bf (c2 3 .live (hf aS aC ax)) (aJ 3 .live e2 q1) (eH a7 4 4 0 3 rfl al) (dY a7 3 fr e3) (aJ 1 .live aO bL) (aJ 3 .live e2 fb)))))
  (fun h1 =>
  .ret (let bZ:=b2 [0,1,2,3,4,5,6];bg [(J 1),.aa false,.aN [0,1,2,3,4,5,6] [.box [.id,.id,.id,.id,.id],.box [.id,.id,.id,.id],.pure,.bM (au 1 (br 4 0 3) al),.bM (cf 3 aS e3),.pure,.pure] (a8 [1,3,5,6,7])] (.dW h1 (aJ 3 .live e2 aC) (eH bZ 4 4 0 3 rfl al) (dY bZ 3 fr e3) (aJ 1 .live aO bL) (aJ 3 .live e2 fb))))
theorem WN {ad:Int}{ei:List Int}{ft aL aM:Int}{bz dl du:List Int}{bN:Int}{al:List bF}{e3:List (List aR)}{bL:List Int}{fb:List aR}{gK:Int}{aC:List aR}{r} (h:DO ad ei ft aL aM bz dl du bN al e3 bL fb gK aC=some r):dP a4 152 0 48 [1,1,1,0,1,0,0,1,0,0,1,1,1,0,1,0,0] (Hg ad ei ft aL aM bz dl du bN al e3 bL fb) (Hy ad ei ft aL aM bz dl du bN al e3 bL fb) (gK,aC) r:=dQ (fun _=>Vr) h
def Hh (ad aL aM:Int)(bz dl du:List Int)(bN:Int)(al:List bF)(e3:List (List aR))(bL:List Int)(fb:List aR):(Int×(List aR))→S:=fun (aQ,aC)=>dv [(1,.ref 0 0 0 0),(3,.ref 1 0 0 0),(5,.n .i64 ad),(6,.n .i64 (1:Int)),(7,.bh 2 0 0 aC.length),(10,.n .i64 aQ)] [[ae.mk 5 [[.n .i64 aL,.n .i64 aM,.isl 1 (bz.map eI),.isl 1 (dl.map eI),.isl 1 (du.map eI)]] .live],[ae.mk 4 [(d6 bN 3 0 0 al.length 5 0 0 bL.length 6 0 0 fb.length)] .live],(au 3 aS aC),(au 1 (br 4 0 3) al),(cf 3 aS e3),(au 1 eI bL),(au 3 aS fb)]
def Hz (ad aL aM:Int)(bz dl du:List Int)(bN:Int)(al:List bF)(e3:List (List aR))(bL:List Int)(fb:List aR):(List aR)→dy
 | a=>⟨some 6,[(1,.ref 0 0 0 0),(3,.ref 1 0 0 0),(5,.n .i64 ad),(6,.n .i64 (1:Int)),(7,.bh 2 0 0 a.length)],[[ae.mk 5 [[.n .i64 aL,.n .i64 aM,.isl 1 (bz.map eI),.isl 1 (dl.map eI),.isl 1 (du.map eI)]] .live],[ae.mk 4 [(d6 bN 3 0 0 al.length 5 0 0 bL.length 6 0 0 fb.length)] .live],(au 3 aS a),(au 1 (br 4 0 3) al),(cf 3 aS e3),(au 1 eI bL),(au 3 aS fb)]⟩
def xb (ad aL aM:Int)(bz dl du:List Int)(bN:Int)(al:List bF)(e3:List (List aR))(bL:List Int)(fb:List aR)(aQ:Int)(aC:List aR):Option ((Int×(List aR))⊕((List aR))) :=
 if (decide (aQ<aL))=true then
  if (aQ == ad)=true then
   po 1 >>= fun bn =>
   if (aC++([bn]:List aR)).length*56≤140737488355328 then
   some (.inl (R (aQ+(1:Int)),aC++([bn]:List aR)))
   else none
  else
   po 0 >>= fun bn =>
   if (aC++([bn]:List aR)).length*56≤140737488355328 then
   some (.inl (R (aQ+(1:Int)),aC++([bn]:List aR)))
   else none
 else
  some (.inr aC)
def DP (ad aL aM:Int)(bz dl du:List Int)(bN:Int)(al:List bF)(e3:List (List aR))(bL:List Int)(fb:List aR)(aQ:Int)(aC:List aR):Option ((List aR)):=iter (fun w:Int×(List aR)=>xb ad aL aM bz dl du bN al e3 bL fb w.1 w.2) (aQ,aC)
theorem Vs {ad aL aM:Int}{bz dl du:List Int}{bN:Int}{al:List bF}{e3:List (List aR)}{bL:List Int}{fb:List aR}{aQ:Int}{aC:List aR}:bD (xb ad aL aM bz dl du bN al e3 bL fb aQ aC) (dO a4 152 0 48 [1,1,1,0,1,0,0,1,0,0,1,1,1,1,0,1,0,0] (Hh ad aL aM bz dl du bN al e3 bL fb (aQ,aC)) (Hh ad aL aM bz dl du bN al e3 bL fb) (Hz ad aL aM bz dl du bN al e3 bL fb)):=by
 unfold xb
 exact .ite (fun h1 =>
  (let t1:List b0:=[(J 4),.aa true,(J 1),(J 3)];
  .ite (fun o =>
  .ar fun bn av =>
  .aY fun aA =>
  .ret (let q1:=(aC++([bn]:List aR));let a7:=b2 [0,1,20,3,4,5,6];bg (t1.append [.aa true,(J 1),.aw (ai 2 (aj (bu 1 (.agg (aS bn)) false) (bq 1 (.aI (q1.length)) 1))),(J 3),.aN [0,1,20,3,4,5,6] [.box [.id,.id,.id,.id,.id],.box [.id,.id,.id,.id],.cG (au 3 aS q1),.bM (au 1 (br 4 0 3) al),.bM (cf 3 aS e3),.pure,.pure] (a8 [1,3,5,6,7,10])]) (.bi h1 o (sg bn av) (gF aS bn) (g9 aS aC) (gG aS aC bn) aA (c2 3 .live (hf aS aC bn)) (.dh (aJ 3 .live e2 q1) (eH a7 4 4 0 3 rfl al) (dY a7 3 fr e3) (aJ 1 .live aO bL) (aJ 3 .live e2 fb)))))
  (fun o =>
  .ar fun bn av =>
  .aY fun aA =>
  .ret (let bZ:=(aC++([bn]:List aR));let cC:=b2 [0,1,19,3,4,5,6];bg (t1.append [.aa false,.aw (ai 2 (aj (bu 1 (.agg (aS bn)) false) (bq 1 (.aI (bZ.length)) 1))),(J 3),.aN [0,1,19,3,4,5,6] [.box [.id,.id,.id,.id,.id],.box [.id,.id,.id,.id],.cG (au 3 aS bZ),.bM (au 1 (br 4 0 3) al),.bM (cf 3 aS e3),.pure,.pure] (a8 [1,3,5,6,7,10])]) (.bi h1 o (sg bn av) (gF aS bn) (g9 aS aC) (gG aS aC bn) aA (c2 3 .live (hf aS aC bn)) (.dh (aJ 3 .live e2 bZ) (eH cC 4 4 0 3 rfl al) (dY cC 3 fr e3) (aJ 1 .live aO bL) (aJ 3 .live e2 fb)))))))
  (fun h1 =>
  .ret (let dr:=b2 [0,1,2,3,4,5,6];bg [(J 4),.aa false,.aN [0,1,2,3,4,5,6] [.box [.id,.id,.id,.id,.id],.box [.id,.id,.id,.id],.pure,.bM (au 1 (br 4 0 3) al),.bM (cf 3 aS e3),.pure,.pure] (a8 [1,3,5,6,7])] (.dW h1 (aJ 3 .live e2 aC) (eH dr 4 4 0 3 rfl al) (dY dr 3 fr e3) (aJ 1 .live aO bL) (aJ 3 .live e2 fb))))
theorem WO {ad aL aM:Int}{bz dl du:List Int}{bN:Int}{al:List bF}{e3:List (List aR)}{bL:List Int}{fb:List aR}{aQ:Int}{aC:List aR}{r} (h:DP ad aL aM bz dl du bN al e3 bL fb aQ aC=some r):dP a4 152 0 48 [1,1,1,0,1,0,0,1,0,0,1,1,1,1,0,1,0,0] (Hh ad aL aM bz dl du bN al e3 bL fb) (Hz ad aL aM bz dl du bN al e3 bL fb) (aQ,aC) r:=dQ (fun _=>Vs) h
def Hi (aL aM:Int)(bz dl du:List Int)(bN:Int):(Int×(List bF)×(List (List aR))×(List Int)×(List aR))→S:=fun (ad,aC,dE,aK,bL)=>dv [(1,.ref 0 0 0 0),(3,.ref 1 0 0 0),(5,.n .i64 ad)] [[ae.mk 5 [[.n .i64 aL,.n .i64 aM,.isl 1 (bz.map eI),.isl 1 (dl.map eI),.isl 1 (du.map eI)]] .live],[ae.mk 4 [(d6 bN 2 0 0 aC.length 4 0 0 aK.length 5 0 0 bL.length)] .live],(au 1 (br 3 0 3) aC),(cf 3 aS dE),(au 1 eI aK),(au 3 aS bL)]
def HA (aL aM:Int)(bz dl du:List Int)(bN:Int):((List bF)×(List (List aR))×(List Int)×(List aR))→dy
 | a=>⟨some 2,[(3,.ref 0 0 0 0)],[[ae.mk 4 [(d6 bN 1 0 0 a.1.length 3 0 0 a.2.2.1.length 4 0 0 a.2.2.2.length)] .live],(au 1 (br 2 0 3) a.1),(cf 3 aS a.2.1),(au 1 eI a.2.2.1),(au 3 aS a.2.2.2)]⟩
def xc (aL aM:Int)(bz dl du:List Int)(bN ad:Int)(aC:List bF)(dE:List (List aR))(aK:List Int)(bL:List aR):Option ((Int×(List bF)×(List (List aR))×(List Int)×(List aR))⊕((List bF)×(List (List aR))×(List Int)×(List aR))) :=
 if (decide (ad<aL))=true then
  if 0≤ad∧ad<dl.length then
  dl[ad.toNat]? >>= fun az =>
  if (decide (az<(0:Int)))=true then
   u4 (⟨aL,aM,bz,dl,du⟩:hN) ad >>= fun cn =>
   DT ad cn (len_ eI cn) aL aM bz dl du bN aC dE aK bL 0 ([]:List aR) >>= fun de =>
   DU ad aL aM bz dl du bN aC dE aK bL 0 de >>= fun et =>
   po (R ((-1:Int)*az)) >>= fun en =>
   if (et++([en]:List aR)).length*56≤140737488355328 then
   (dE++[et++([en]:List aR)])[dE.length]? >>= fun kr =>
   Aa ad dE.length ((et++([en]:List aR)).length) (((et++([en]:List aR)).length:Nat):Int) aL aM bz dl du bN (dE++[et++([en]:List aR)]) aC aK 0 bL >>= fun gi =>
   if (aC++([(some (dE.length,(et++([en]:List aR)).length))]:List bF)).length*24≤140737488355328 then
   if (aK++([R (aM+ad)]:List Int)).length*8≤140737488355328 then
   some (.inl (R (ad+(1:Int)),aC++([(some (dE.length,(et++([en]:List aR)).length))]:List bF),dE++[et++([en]:List aR)],aK++([R (aM+ad)]:List Int),gi))
   else none
   else none
   else none
  else
   u4 (⟨aL,aM,bz,dl,du⟩:hN) ad >>= fun cn =>
   DO ad cn (len_ eI cn) aL aM bz dl du bN aC dE aK bL 0 ([]:List aR) >>= fun de =>
   DP ad aL aM bz dl du bN aC dE aK bL 0 de >>= fun et =>
   po (R ((1:Int)*az)) >>= fun en =>
   if (et++([en]:List aR)).length*56≤140737488355328 then
   (dE++[et++([en]:List aR)])[dE.length]? >>= fun kr =>
   Aa ad dE.length ((et++([en]:List aR)).length) (((et++([en]:List aR)).length:Nat):Int) aL aM bz dl du bN (dE++[et++([en]:List aR)]) aC aK 0 bL >>= fun gi =>
   if (aC++([(some (dE.length,(et++([en]:List aR)).length))]:List bF)).length*24≤140737488355328 then
   if (aK++([R (aM+ad)]:List Int)).length*8≤140737488355328 then
   some (.inl (R (ad+(1:Int)),aC++([(some (dE.length,(et++([en]:List aR)).length))]:List bF),dE++[et++([en]:List aR)],aK++([R (aM+ad)]:List Int),gi))
   else none
   else none
   else none
  else none
 else
  some (.inr (aC,dE,aK,bL))
def I9 (aL aM:Int)(bz dl du:List Int)(bN ad:Int)(aC:List bF)(dE:List (List aR))(aK:List Int)(bL:List aR):Option ((List bF)×(List (List aR))×(List Int)×(List aR)):=iter (fun w:Int×(List bF)×(List (List aR))×(List Int)×(List aR)=>xc aL aM bz dl du bN w.1 w.2.1 w.2.2.1 w.2.2.2.1 w.2.2.2.2) (ad,aC,dE,aK,bL)
set_option maxHeartbeats 4000000 in
theorem Vt {aL aM:Int}{bz dl du:List Int}{bN ad:Int}{aC:List bF}{dE:List (List aR)}{aK:List Int}{bL:List aR}:bD (xc aL aM bz dl du bN ad aC dE aK bL) (dO a4 152 0 48 [1,1,1,0,1,0,0] (Hi aL aM bz dl du bN (ad,aC,dE,aK,bL)) (Hi aL aM bz dl du bN) (HA aL aM bz dl du bN)):=by
 unfold xc
 exact .ite (fun h1 =>
  .aY fun o =>
  .ar fun az av =>
  (let t1:List b0:=[(J 4),.aa true,(J 1),.aw (bq 4 (.b5 (eI az)) 1)];
  have aV:=((.c4 h1 o.1 (cX eI o.2) (b1 eI av)):cA _);
  .ite (fun aA =>
  .ar fun cn bf =>
  .ar fun de cB =>
  .ar fun et fe =>
  .ar fun en eU =>
  .aY fun eL =>
  .ar fun kr hd =>
  .ar fun gi hD =>
  .aY fun gy =>
  .aY fun fu =>
  .ret (let q1:=(et++([en]:List aR));let a7:=(dE++[et++([en]:List aR)]);let bZ:=E9 (gu .live 3 aS dE) (Fj e2 17 4 (dE.length+0) (hf aS et en) (Fk 17 4 (dE.length+0)));let cC:=b2 [0,1,13,2,27,5];let f8:=(aC++([(some (dE.length,q1.length))]:List bF));let h7:=aJ 1 .live aO aK;let fx:=aJ 3 .live e2 bL;let jw:=b2 [0,1,18,2,3,4,5];let lQ:=b2 [0,1,2,3,4,5,6];let jf:=R (aM+ad);let dr:=(aK++([jf]:List Int));let p3:=b2 [0,1,4,3,5,6];bg (t1.append [.aa true,(J 1),(J 2),.aw (bq 2 (bu 2 (.isl 1 (cn.map eI)) false) 2),.aN [0,1,18,2,3,4,5] [.box [.id,.id,.id,.id,.id],.box [.id,.id,.id,.id],.cG (au 3 aS ([]:List aR)),.bM (au 1 (br 4 0 3) aC),.bM (cf 3 aS dE),.pure,.pure] [(1,ii),(3,ii),(5,ii),(6,ii),(7,fW (([]:List aR).length)),(53,ii),(54,ii),(55,ii)],(HO ad cn (len_ eI cn) aL aM bz dl du bN aC dE aK bL de).e8,(J 1),.aN [0,1,2,3,4,5,6] [.box [.id,.id,.id,.id,.id],.box [.id,.id,.id,.id],.pure,.bM (au 1 (br 4 0 3) aC),.bM (cf 3 aS dE),.pure,.pure] (a8 [1,3,5,6,7,10]),(HP ad aL aM bz dl du bN aC dE aK bL et).e8,.aw (ai 6 (aj (.b5 (eI az)) (ai 1 (aj (bu 1 (.agg (aS en)) false) (bq 1 (.wu 4 (dE.length+0) (.aI (q1.length))) 1))))),.aw (bq 1 (.gv (ae.mk 3 (kr.map aS) .live) []) 1),.aN [0,1,4,3,5,6] [.box [.id,.id,.id,.id,.id],.box [.id,.id,.id,.id],.bM (cf 3 aS a7),.bM (au 1 (br 2 0 3) aC),.pure,.pure] (a8 [1,3,5,7,93,94]),(DK ad dE.length (q1.length) ((q1.length:Nat):Int) aL aM bz dl du bN a7 aC aK gi).e8,.aw (ai 6 (aj (.kw 133 (lT 2 0 3 (some (dE.length,q1.length))) .none) (aj (.aI (f8.length)) (ai 3 [])))),.aw (bq 10 (.aI (dr.length)) 3),(J 3),.aN [0,1,13,2,27,5] [.box [.id,.id,.id,.id,.id],.box [.id,.id,.id,.id],.bM (au 1 (br 3 0 3) f8),.bM (cf 3 aS a7),.cG (au 1 eI dr),.pure] (a8 [1,3,5])]) (aV.aI (.bi aA (Ps cn bf) (c2 3 .live (show []=(([]:List aR)).map aS from rfl)) (aJ 3 .live e2 ([]:List aR)) (eH jw 4 3 0 3 rfl aC) (dY jw 3 fr dE) h7 fx (.bi (fg aR) (Xa cB) (aJ 3 .live e2 de) (eH lQ 4 4 0 3 rfl aC) (dY lQ 3 fr dE) h7 fx (Xb fe) (.bi o.1 (cX eI o.2) (b1 eI av) (sg en eU) (gF aS en) (g9 aS et) (gG aS et en) eL (.bi (congrArg (· + 0) (L0 (gu .live 3 aS dE) rfl)) (ke bZ jv hd) (nv (cd:=p3) bZ (mE fr)) (eH p3 2 4 0 3 rfl aC) h7 fx (Ov hD) (.s2 2 0 3 dE.length (q1.length):kC (.bh 2 (dE.length+0) 0 (q1.length)) (lT 2 0 3 (some (dE.length,q1.length)))) (.bi (gF (br 2 0 3) (some (dE.length,q1.length))) (g9 (br 2 0 3) aC) (gG (br 2 0 3) aC (some (dE.length,q1.length))) gy (gF eI jf) (g9 eI aK) (gG eI aK jf) fu (.dh (db (sb (cd:=cC) 1 .live (br 3 0 3) (hf (br 2 0 3) aC (some (dE.length,q1.length))) (tL (rfl:cC 2=some 3))) (nQ (cd:=cC))) (dY cC 3 fr a7) (c2 1 .live (hf eI aK jf)) (aJ 1 .live aO dr) (aJ 3 .live e2 gi))))))))))
  (fun aA =>
  .ar fun cn bf =>
  .ar fun de cB =>
  .ar fun et fe =>
  .ar fun en eU =>
  .aY fun eL =>
  .ar fun kr hd =>
  .ar fun gi hD =>
  .aY fun gy =>
  .aY fun fu =>
  .ret (let mJ:=(et++([en]:List aR));let p4:=(dE++[et++([en]:List aR)]);let v8:=E9 (gu .live 3 aS dE) (Fj e2 17 4 (dE.length+0) (hf aS et en) (Fk 17 4 (dE.length+0)));let v9:=b2 [0,1,13,2,27,5];let zD:=(aC++([(some (dE.length,mJ.length))]:List bF));let wa:=aJ 1 .live aO aK;let wb:=aJ 3 .live e2 bL;let zE:=b2 [0,1,17,2,3,4,5];let zF:=b2 [0,1,2,3,4,5,6];let wc:=R (aM+ad);let zG:=(aK++([wc]:List Int));let CT:=b2 [0,1,4,3,5,6];bg (t1.append [.aa false,(J 2),.aw (bq 2 (bu 2 (.isl 1 (cn.map eI)) false) 2),.aN [0,1,17,2,3,4,5] [.box [.id,.id,.id,.id,.id],.box [.id,.id,.id,.id],.cG (au 3 aS ([]:List aR)),.bM (au 1 (br 4 0 3) aC),.bM (cf 3 aS dE),.pure,.pure] [(1,ii),(3,ii),(5,ii),(6,ii),(7,fW (([]:List aR).length)),(53,ii),(54,ii),(55,ii)],(Hy ad cn (len_ eI cn) aL aM bz dl du bN aC dE aK bL de).e8,(J 1),.aN [0,1,2,3,4,5,6] [.box [.id,.id,.id,.id,.id],.box [.id,.id,.id,.id],.pure,.bM (au 1 (br 4 0 3) aC),.bM (cf 3 aS dE),.pure,.pure] (a8 [1,3,5,6,7,10]),(Hz ad aL aM bz dl du bN aC dE aK bL et).e8,.aw (ai 6 (aj (.b5 (eI az)) (ai 1 (aj (bu 1 (.agg (aS en)) false) (bq 1 (.wu 4 (dE.length+0) (.aI (mJ.length))) 1))))),.aw (bq 1 (.gv (ae.mk 3 (kr.map aS) .live) []) 1),.aN [0,1,4,3,5,6] [.box [.id,.id,.id,.id,.id],.box [.id,.id,.id,.id],.bM (cf 3 aS p4),.bM (au 1 (br 2 0 3) aC),.pure,.pure] (a8 [1,3,5,7,93,94]),(DK ad dE.length (mJ.length) ((mJ.length:Nat):Int) aL aM bz dl du bN p4 aC aK gi).e8,.aw (ai 6 (aj (.kw 133 (lT 2 0 3 (some (dE.length,mJ.length))) .none) (aj (.aI (zD.length)) (ai 3 [])))),.aw (bq 10 (.aI (zG.length)) 3),(J 3),.aN [0,1,13,2,27,5] [.box [.id,.id,.id,.id,.id],.box [.id,.id,.id,.id],.bM (au 1 (br 3 0 3) zD),.bM (cf 3 aS p4),.cG (au 1 eI zG),.pure] (a8 [1,3,5])]) (aV.aI (.bi aA (Ps cn bf) (c2 3 .live (show []=(([]:List aR)).map aS from rfl)) (aJ 3 .live e2 ([]:List aR)) (eH zE 4 3 0 3 rfl aC) (dY zE 3 fr dE) wa wb (.bi (fg aR) (WN cB) (aJ 3 .live e2 de) (eH zF 4 4 0 3 rfl aC) (dY zF 3 fr dE) wa wb (WO fe) (.bi o.1 (cX eI o.2) (b1 eI av) (sg en eU) (gF aS en) (g9 aS et) (gG aS et en) eL (.bi (congrArg (· + 0) (L0 (gu .live 3 aS dE) rfl)) (ke v8 jv hd) (nv (cd:=CT) v8 (mE fr)) (eH CT 2 4 0 3 rfl aC) wa wb (Ov hD) (.s2 2 0 3 dE.length (mJ.length):kC (.bh 2 (dE.length+0) 0 (mJ.length)) (lT 2 0 3 (some (dE.length,mJ.length)))) (.bi (gF (br 2 0 3) (some (dE.length,mJ.length))) (g9 (br 2 0 3) aC) (gG (br 2 0 3) aC (some (dE.length,mJ.length))) gy (gF eI wc) (g9 eI aK) (gG eI aK wc) fu (.dh (db (sb (cd:=v9) 1 .live (br 3 0 3) (hf (br 2 0 3) aC (some (dE.length,mJ.length))) (tL (rfl:v9 2=some 3))) (nQ (cd:=v9))) (dY v9 3 fr p4) (c2 1 .live (hf eI aK wc)) (aJ 1 .live aO zG) (aJ 3 .live e2 gi))))))))))))
  (fun h1 =>
  .ret (bg [(J 4),.aa false,.aN [1,2,3,4,5] [.box [.id,.id,.id,.id],.bM (au 1 (br 2 0 3) aC),.bM (cf 3 aS dE),.pure,.pure] (a8 [3])] (.dh h1 (eH (b2 [1,2,3,4,5]) 2 3 0 3 rfl aC) (dY (b2 [1,2,3,4,5]) 3 fr dE) (aJ 1 .live aO aK) (aJ 3 .live e2 bL))))
theorem WQ {aL aM:Int}{bz dl du:List Int}{bN ad:Int}{aC:List bF}{dE:List (List aR)}{aK:List Int}{bL:List aR}{r} (h:I9 aL aM bz dl du bN ad aC dE aK bL=some r):dP a4 152 0 48 [1,1,1,0,1,0,0] (Hi aL aM bz dl du bN) (HA aL aM bz dl du bN) (ad,aC,dE,aK,bL) r:=dQ (fun _=>Vt) h
def Aj (cg:hN):Option (Int×(List bF)×(List Int)×(List aR)×(List (List aR))) :=
 JD cg.fz cg.eh cg.dt cg.dM cg.hZ (R (cg.eh+cg.fz)) 0 ([]:List aR) >>= fun r1 =>
 I9 cg.fz cg.eh cg.dt cg.dM cg.hZ (R (cg.eh+cg.fz)) 0 ([]:List bF) ([]:List (List aR)) ([]:List Int) r1 >>= fun bn =>
 some (R (cg.eh+cg.fz),bn.1,bn.2.2.1,bn.2.2.2,bn.2.1)
theorem XX {cg:hN}:bD (Aj cg) (fun a=>Con a4 48 [.agg (oi cg)] [] (.ref 0 0 0 0) [(ae.mk 4 [(d6 a.1 0 1 0 a.2.1.length 0 2 0 a.2.2.1.length 0 3 0 a.2.2.2.1.length)] .live::ae.mk 1 (a.2.1.map (br 0 4 3)) .live::ae.mk 1 (a.2.2.1.map eI) .live::ae.mk 3 (a.2.2.2.1.map aS) .live::(cf 3 aS a.2.2.2.2))]):=by
 unfold Aj
 exact .ar fun r1 o =>
  .ar fun bn av =>
  .ret (let q1:=b2 [0,1,4,5,6,2];let a7:=cf 3 aS bn.2.1;let bZ:=R (cg.eh+cg.fz);let cC:=au 1 (br 0 4 3) bn.1;kq [(J 2),(J 8),(J 1),.r4 8 3 3,.aN [0,8,11] [.box [.id,.id,.id,.id,.id],.box [.id,.id,.id,.len (([]:List aR).length)],.cG (au 3 aS ([]:List aR))] (a8 [1,3,4]),(HN cg.fz cg.eh cg.dt cg.dM cg.hZ bZ r1).e8,(J 1),.r4 1 1 1,.FM,.r4 1 2 1,.aN [0,1,4,5,6,2] [.box [.id,.id,.id,.id,.id],.box [.id,.len (([]:List bF).length),.len (([]:List Int).length),.id],.bM (au 1 (br 3 0 3) ([]:List bF)),.bM (cf 3 aS ([]:List (List aR))),.cG (au 1 eI ([]:List Int)),.pure] (a8 [1,3,5]),(HA cg.fz cg.eh cg.dt cg.dM cg.hZ bZ bn).e8,(J 2),.CN [{bK:=[(0,0),(1,0),(3,0),(4,0)],iS:=some (2,0)}] [([.box [.id,.at_ 0 1 bn.1.length,.at_ 0 2 bn.2.2.1.length,.at_ 0 3 bn.2.2.2.length],.rx cC,.pure,.pure],some (.rx a7))] [(2,.bp (.cJ (.at_ 0 0 0)))]] [0] [.bM (ae.mk 4 [(d6 bZ 0 1 0 bn.1.length 0 2 0 bn.2.2.1.length 0 3 0 bn.2.2.2.length)] .live::ae.mk 1 (bn.1.map (br 0 4 3)) .live::ae.mk 1 (bn.2.2.1.map eI) .live::ae.mk 3 (bn.2.2.2.map aS) .live::a7)] (.bi (fg aR) (c2 3 .live (nj aS)) (aJ 3 .live e2 ([]:List aR)) (W9 o) (fg bF) (fg Int) (db (sb (cd:=q1) 1 .live (br 3 0 3) (nj (br 5 0 3)) (tL (rfl:q1 5=some 3))) (nQ (cd:=q1))) (nv (cd:=q1) (Sa .live 3 aS) (mE fr)) (.bi (c2 1 .live (nj eI)) (aJ 1 .live aO ([]:List Int)) (aJ 3 .live e2 r1) (WQ av) (rfl:(kS [{bK:=[(0,0),(1,0),(3,0),(4,0)],iS:=some (2,0)}]) 0 1=some (1,0)) (rfl:bn.1.length=bn.1.length) (rfl:(kS [{bK:=[(0,0),(1,0),(3,0),(4,0)],iS:=some (2,0)}]) 0 2=some (3,0)) (rfl:bn.2.2.1.length=bn.2.2.1.length) (.gz (rfl:(kS [{bK:=[(0,0),(1,0),(3,0),(4,0)],iS:=some (2,0)}]) 0 3=some (4,0)) (rfl:bn.2.2.2.length=bn.2.2.2.length) (RI (Mf (ki:=(br 0 4 3)) (cZ (br 2 0 3) bn.1) (fun _=>rfl) (fun x=>(SI (fun _=>rfl)) x)) Sc:r2 (kS [{bK:=[(0,0),(1,0),(3,0),(4,0)],iS:=some (2,0)}]) (au 1 (br 2 0 3) bn.1) cC) (aJ 1 .live aO bn.2.2.1) (aJ 3 .live e2 bn.2.2.2) (RK (gu .live 3 aS bn.2.1) (fun _=>rfl) fr:r2 (kS [{bK:=[(0,0),(1,0),(3,0),(4,0)],iS:=some (2,0)}]) a7 a7) (rfl:(kS [{bK:=[(0,0),(1,0),(3,0),(4,0)],iS:=some (2,0)}]) 0 0=some (0,0)) (db (show ae.mk 4 [(d6 (R (cg.eh+cg.fz)) 0 1 0 bn.1.length 0 2 0 bn.2.2.1.length 0 3 0 bn.2.2.2.length)] .live=gT (b2 [0]) (ae.mk 4 [(d6 (R (cg.eh+cg.fz)) 0 1 0 bn.1.length 0 2 0 bn.2.2.1.length 0 3 0 bn.2.2.2.length)] .live) from rfl) (db (ll (b2 [0]) 0 0 4 3 rfl bn.1) (db (fO (b2 [0]) 1 kQ bn.2.2.1) (db (fO (b2 [0]) 3 fr bn.2.2.2) (dY (b2 [0]) 3 fr bn.2.1)))))))))
def H7 (bX:Int)(df:List Int)(cU:Int):Int→S:=fun dn=>dv [(1,.n .i64 bX),(10,.isl 1 (df.map eI)),(11,.n .i64 cU),(12,.n .i64 dn)] []
def Oy (bX:Int)(df:List Int)(cU:Int):((Unit)⊕(Unit))→dy
 | .inl a=>⟨some 0,[],[]⟩
 | .inr a=>⟨none,[(4,.b true)],[]⟩
def z1 (bX:Int)(df:List Int)(cU dn:Int):Option ((Int)⊕((Unit)⊕(Unit))) :=
 if (decide (dn<cU))=true then
  if 0≤dn∧dn<df.length then
  df[dn.toNat]? >>= fun az =>
  if (az == bX)=true then
   some (.inr (.inr ()))
  else
   some (.inl (R (dn+(1:Int))))
  else none
 else
  some (.inr (.inl ()))
def D0 (bX:Int)(df:List Int)(cU dn:Int):Option ((Unit)⊕(Unit)):=iter (fun w:Int=>z1 bX df cU w) dn
theorem V7 {bX:Int}{df:List Int}{cU dn:Int}:bD (z1 bX df cU dn) (dO a4 20 0 69 [1,0,1,0,0] (H7 bX df cU dn) (H7 bX df cU) (Oy bX df cU)):=by
 unfold z1
 exact .ite (fun h1 =>
  .aY fun o =>
  .ar fun az av =>
  (let t1:List b0:=[(J 1),.aa true,.aw (bq 1 (.b5 (eI az)) 1),(J 3)];
  have aV:=((.c4 h1 o.1 (cX eI o.2) (b1 eI av)):cA _);
  .ite (fun aA =>
  .ret (bg (t1.append [.aa true,(J 1),.aN [] [] (a8 [4])]) (aV.aI (.e1 aA))))
  (fun aA =>
  .ret (bg (t1.append [.aa false,(J 2),.aN [] [] (a8 [1,10,11,12])]) (aV.aI (.e1 aA))))))
  (fun h1 =>
  .ret (bg [(J 1),.aa false,.aN [] [] []] (.e1 h1)))
theorem OJ {bX:Int}{df:List Int}{cU dn:Int}{r} (h:D0 bX df cU dn=some r):dP a4 20 0 69 [1,0,1,0,0] (H7 bX df cU) (Oy bX df cU) dn r:=dQ (fun _=>V7) h
def AD (hv:pL)(bX:Int):Option Bool :=
 D0 bX hv.rU (len_ eI hv.rU) 0 >>= fun r1 =>
 match r1 with
 | .inl dd=>(some false)
 | .inr dd=>(some true)
theorem YF {hv:pL}{bX:Int}:bD (AD hv bX) (fun r=>Con a4 69 [.dS 4 [(vh hv)] 0 0,.n .i64 bX] [] (.b r) []):=by
 unfold AD
 exact .ar fun r1 o =>
  (let t1:List b0:=[(J 1),(J 6),.aN [] [] (a8 [1,10,11,12])];
  (by
  rcases r1 with dd|dd
  ·exact (.ret (bA (t1.append [.sub (.exit 0) [] [],(J 1)]) (.e1 (OJ o))))
  ·exact (.ret (bA (t1.append [.sub (.ret) [(4,.b true)] []]) (.e1 (OJ o))))))
def AE (dq:bx):Option Bool :=
 sq dq.cN >>= fun r1 =>
 if r1=true then
  if dq.c0=true then
   some (decide ((0:Int)<(len_ eI dq.cN)))
  else
   some true
 else
  some false
theorem YG {dq:bx}:bD (AE dq) (fun r=>Con a4 101 [.agg (a1 dq)] [] (.b r) []):=by
 unfold AE
 exact .ar fun r1 o =>
  (have b9:=((.aD (KR r1 o) (bR.b r1)):cA _);
  .ite (fun af =>
  .ite (fun av =>
  .ret (bA [(J 2),.aw (ai 2 (aj (bu 1 (.b r1) true) (ai 9 (aj (.aa false) (aj (.aa true) (ai 1 []))))))] (b9.aI (.bi af af af af (cO av) (cO av) (cO av) (cO av) (.bP af (cO av) af)))))
  (fun av =>
  .ret (bA [(J 2),.aw (ai 2 (aj (bu 1 (.b r1) true) (ai 5 (cx 4 (aj (.aa true) (aj (.aa true) (ai 1 [])))))))] (b9.aI (.bi af af af af (cM av) (cM av) (cM av) (cM av) (.bP af (cM av) af))))))
  (fun af =>
  .ret (bA [(J 2),.aw (ai 2 (aj (bu 1 (.b r1) true) (ai 1 (cx 4 (ai 4 (cx 1 (aj (.aa false) (ai 1 []))))))))] (b9.aI (.dW af af af af af af)))))
def tz (b4:aR):Option Bool :=
 AE b4.fB >>= fun r1 =>
 if r1=true then
  sq b4.hP >>= fun a6 =>
  if a6=true then
   if ((len_ eI b4.hP) == (0:Int))=true then
    some false
   else
    if (decide ((24:Int)<(len_ eI b4.hP)))=true then
     some false
    else
     if (decide ((24:Int)<(len_ eI b4.fB.cN)))=true then
      some false
     else
      yu b4.fB.cN b4.hP >>= fun et =>
      qT et >>= fun en =>
      some en
  else
   some false
 else
  some false
theorem KS {b4:aR}:bD (tz b4) (fun r=>Con a4 73 [.agg (aS b4)] [] (.b r) []):=by
 unfold tz
 exact .ar fun r1 o =>
  (have b9:=((.aD (YG r1 o) (bR.b r1)):cA _);
  .ite (fun af =>
  .ar fun a6 aA =>
  (have aV:=b9.aI (.eP (cO af) (cO af) (cO af) (KR a6 aA) (bR.b a6) (cO af) (cO af));
  .ite (fun aX =>
  (have fI:=aV.aI (.dh (cO aX) (cO aX) (cO aX) (cO aX) (cO aX));
  .ite (fun bf =>
  .ret (bA [(J 2),.aw (ai 2 (aj (bu 1 (.b r1) true) (ai 4 (aj (bu 1 (.b a6) true) (ai 1 (aj (.aa false) (ai 5 (aj (.aa false) (ai 1 (cx 4 (aj (.aa true) (ai 1 (cx 5 (ai 1 [])))))))))))))),.aa true,(J 1)] (fI.aI (.bi bf bf bf bf bf cT cT cT (.bP cT cT cT)))))
  (fun bf =>
  .ite (fun bl =>
  .ret (bA [(J 2),.aw (ai 2 (aj (bu 1 (.b r1) true) (ai 4 (aj (bu 1 (.b a6) true) (ai 1 (aj (.aa false) (ai 5 (aj (.aa false) (ai 5 (aj (.aa false) (ai 1 (cx 5 (aj (.aa true) []))))))))))))),.aa true,(J 1)] (fI.aI (.bi bf bf bf bf bf bl bl bl (.c4 bl bl bl cT)))))
  (fun bl =>
  (let t4:List b0:=[(J 2),.aw (ai 2 (aj (bu 1 (.b r1) true) (ai 4 (aj (bu 1 (.b a6) true) (ai 1 (aj (.aa false) (ai 5 (aj (.aa false) (ai 5 (aj (.aa false) (ai 6 (aj (.aa false) []))))))))))))];
  have mz:=fI.aI (.bi bf bf bf bf bf bl bl bl (.bP bl bl bl));
  .ite (fun cB =>
  .ret (bA (t4.append [.aa true,(J 1)]) (mz.aI (.e1 cB))))
  (fun cB =>
  .ar fun et fe =>
  .ar fun en eU =>
  .ret (bA (t4.append [.aa false,.aw (ai 5 (aj (bu 2 (.isl 1 (et.map eI)) false) (aj (bu 1 (.b en) true) (ai 1 []))))]) (mz.aI (.c4 cB (Pt et fe) (Ar en eU) (bR.b en))))))))))
  (fun aX =>
  .ret (bA [(J 2),.aw (ai 2 (aj (bu 1 (.b r1) true) (ai 4 (aj (bu 1 (.b a6) true) (ai 1 (aj (.aa false) (ai 1 (cx 4 (aj (.aa true) (ai 1 (cx 4 (ai 2 (cx 5 (ai 1 [])))))))))))))),.aa true,(J 1)] (aV.aI (.bi (cM aX) (cM aX) (cM aX) (cM aX) (cM aX) cT cT cT (.eP cT cT cT cT cT cT cT)))))))
  (fun af =>
  .ret (bA [(J 2),.aw (ai 2 (aj (bu 1 (.b r1) true) (ai 2 (cx 4 (aj (.aa true) (ai 1 (cx 4 (ai 2 (cx 4 (ai 2 (cx 5 (ai 1 [])))))))))))),.aa true,(J 1)] (b9.aI (.bi (cM af) (cM af) (cM af) (cM af) (cM af) cT cT cT (.bi cT cT cT cT cT cT cT cT (.bP cT cT cT)))))))
def qk (b4:aR):Option Int :=
 tz b4 >>= fun r1 =>
 if r1=true then
  if ((len_ eI b4.fB.cN) == (0:Int))=true then
   some 0
  else
   if b4.fB.c0=true then
    some (-1)
   else
    some 1
 else
  some 0
theorem tr {b4:aR}:bD (qk b4) (fun r=>Con a4 50 [.agg (aS b4)] [] (.n .i64 r) []):=by
 unfold qk
 exact .ar fun r1 o =>
  (have b9:=((.aD (KS r1 o) (bR.b r1)):cA _);
  .ite (fun af =>
  (let t2:List b0:=[(J 2),.aw (ai 1 (aj (bu 1 (.b r1) true) (bq 7 (.aa false) 1)))];
  have fI:=b9.aI (.dW (cO af) (cO af) (cO af) (cO af) (cO af) (cO af));
  .ite (fun av =>
  .ret (bA (t2.append [.aa true,(J 1)]) (fI.aI (.e1 av))))
  (fun av =>
  .ite (fun aA =>
  .ret (bA (t2.append [.aa false,(J 4),.aa true,(J 1)]) (fI.aI (.aD av aA))))
  (fun aA =>
  .ret (bA (t2.append [.aa false,(J 4),.aa false,(J 1)]) (fI.aI (.aD av aA)))))))
  (fun af =>
  .ret (bA [(J 2),.aw (ai 1 (aj (bu 1 (.b r1) true) (ai 2 (cx 5 (aj (.aa true) (ai 1 [])))))),.aa true,(J 1)] (b9.aI (.eP (cM af) (cM af) (cM af) (cM af) (cM af) (cM af) cT)))))
def Iv (eW:Int)(e6:List (List aR))(eT:List Int)(eY:List aR)(bX:Int)(fk:Bool)(aQ oZ:Int):(Int×Int)→S:=fun (aH,m0)=>dv [(0,.dS 4 [[.n .i64 eW,.isl 1 (e6.map (eD 3 aS)),.isl 1 (eT.map eI),.isl 3 (eY.map aS)]] 0 0),(1,.n .i64 bX),(2,.b fk),(7,.n .i64 aH),(8,.n .i64 aQ),(40,.isl 1 (eT.map eI)),(41,.n .i64 oZ),(42,.n .i64 m0)] []
def Ja (eW:Int)(e6:List (List aR))(eT:List Int)(eY:List aR)(bX:Int)(fk:Bool)(aQ oZ:Int):Int→dy
 | a=>⟨some 2,[(0,.dS 4 [[.n .i64 eW,.isl 1 (e6.map (eD 3 aS)),.isl 1 (eT.map eI),.isl 3 (eY.map aS)]] 0 0),(1,.n .i64 bX),(2,.b fk),(7,.n .i64 a),(8,.n .i64 aQ)],[]⟩
def Iw (eW:Int)(e6:List (List aR))(eT:List Int)(eY:List aR)(bX:Int)(fk:Bool)(aQ oZ aH m0:Int):Option ((Int×Int)⊕(Int)) :=
 if (decide (m0<oZ))=true then
  if 0≤m0∧m0<eT.length then
  eT[m0.toNat]? >>= fun az =>
  if (az == aQ)=true then
   if 0≤m0∧m0<e6.length then
   e6[m0.toNat]? >>= fun c9 =>
   if 0≤bX∧bX<c9.length then
   c9[bX.toNat]? >>= fun je =>
   qk je >>= fun en =>
   some (.inl (en,R (m0+(1:Int))))
   else none
   else none
  else
   some (.inl (aH,R (m0+(1:Int))))
  else none
 else
  some (.inr aH)
def Pg (eW:Int)(e6:List (List aR))(eT:List Int)(eY:List aR)(bX:Int)(fk:Bool)(aQ oZ aH m0:Int):Option (Int):=iter (fun w:Int×Int=>Iw eW e6 eT eY bX fk aQ oZ w.1 w.2) (aH,m0)
theorem Wm {eW:Int}{e6:List (List aR)}{eT:List Int}{eY:List aR}{bX:Int}{fk:Bool}{aQ oZ aH m0:Int}:bD (Iw eW e6 eT eY bX fk aQ oZ aH m0) (dO a4 63 0 70 [1,1,0,1,0,0,1,0,0,1,1,0,0] (Iv eW e6 eT eY bX fk aQ oZ (aH,m0)) (Iv eW e6 eT eY bX fk aQ oZ) (Ja eW e6 eT eY bX fk aQ oZ)):=by
 unfold Iw
 exact .ite (fun h1 =>
  .aY fun o =>
  .ar fun az av =>
  (let t1:List b0:=[(J 1),.aa true,.aw (bq 2 (.b5 (eI az)) 2),(J 3)];
  have aV:=((.c4 h1 o.1 (cX eI o.2) (b1 eI av)):cA _);
  .ite (fun aA =>
  .aY fun aX =>
  .ar fun c9 bl =>
  .aY fun cB =>
  .ar fun je fe =>
  .ar fun en eU =>
  .ret (bg (t1.append [.aa true,.aw (ai 6 (aj (.b5 ((eD 3 aS) c9)) (ai 2 (aj (.b5 (aS je)) (aj (bu 1 (.n .i64 en) true) (ai 1 [])))))),(J 2),.aN [] [] (a8 [0,1,2,7,8,40,41,42])]) (aV.aI (.bi aA aX.1 (cX (eD 3 aS) aX.2) (b1 (eD 3 aS) bl) cB.1 (cX aS cB.2) (b1 aS fe) (tr en eU) (.e1 (bR.n .i64 en))))))
  (fun aA =>
  .ret (bg (t1.append [.aa false,(J 2),.aN [] [] (a8 [0,1,2,7,8,40,41,42])]) (aV.aI (.e1 aA))))))
  (fun h1 =>
  .ret (bg [(J 1),.aa false,.aN [] [] (a8 [0,1,2,7,8])] (.e1 h1)))
theorem XY {eW:Int}{e6:List (List aR)}{eT:List Int}{eY:List aR}{bX:Int}{fk:Bool}{aQ oZ aH m0:Int}{r} (h:Pg eW e6 eT eY bX fk aQ oZ aH m0=some r):dP a4 63 0 70 [1,1,0,1,0,0,1,0,0,1,1,0,0] (Iv eW e6 eT eY bX fk aQ oZ) (Ja eW e6 eT eY bX fk aQ oZ) (aH,m0) r:=dQ (fun _=>Wm) h
def Ix (eW:Int)(e6:List (List aR))(eT:List Int)(eY:List aR)(bX:Int)(fk:Bool):(Int×Int)→S:=fun (aH,aQ)=>dv [(0,.dS 4 [[.n .i64 eW,.isl 1 (e6.map (eD 3 aS)),.isl 1 (eT.map eI),.isl 3 (eY.map aS)]] 0 0),(1,.n .i64 bX),(2,.b fk),(7,.n .i64 aH),(8,.n .i64 aQ)] []
def OK (eW:Int)(e6:List (List aR))(eT:List Int)(eY:List aR)(bX:Int)(fk:Bool):((Int)⊕(Unit))→dy
 | .inl a=>⟨some 0,[(7,.n .i64 a)],[]⟩
 | .inr a=>⟨none,[(6,.n .i64 (-1:Int))],[]⟩
def z4 (eW:Int)(e6:List (List aR))(eT:List Int)(eY:List aR)(bX:Int)(fk:Bool)(aH aQ:Int):Option ((Int×Int)⊕((Int)⊕(Unit))) :=
 if (aH == (0:Int))=true then
  if fk=true then
   if (decide (aQ<eW))=true then
    if (aQ == bX)=true then
     some (.inr (.inr ()))
    else
     Pg eW e6 eT eY bX fk aQ (len_ eI eT) aH 0 >>= fun ax =>
     some (.inl (ax,R (aQ+(1:Int))))
   else
    some (.inr (.inl aH))
  else
   some (.inr (.inl aH))
 else
  some (.inr (.inl aH))
def Kq (eW:Int)(e6:List (List aR))(eT:List Int)(eY:List aR)(bX:Int)(fk:Bool)(aH aQ:Int):Option ((Int)⊕(Unit)):=iter (fun w:Int×Int=>z4 eW e6 eT eY bX fk w.1 w.2) (aH,aQ)
theorem Wn {eW:Int}{e6:List (List aR)}{eT:List Int}{eY:List aR}{bX:Int}{fk:Bool}{aH aQ:Int}:bD (z4 eW e6 eT eY bX fk aH aQ) (dO a4 63 0 70 [1,1,0,1,0,0] (Ix eW e6 eT eY bX fk (aH,aQ)) (Ix eW e6 eT eY bX fk) (OK eW e6 eT eY bX fk)):=by
 unfold z4
 exact .ite (fun h1 =>
  .ite (fun o =>
  (let t1:List b0:=[.aw (ai 4 (aj (.aa true) (ai 7 (aj (.aa true) []))))];
  have aV:=((.bi h1 h1 o o o o o o (.e1 o)):cA _);
  .ite (fun af =>
  .ite (fun av =>
  .ret (bg (t1.append [.aa true,(J 3),.aa true,(J 1),.aN [] [] (a8 [6])]) (aV.aI (.aD af av))))
  (fun av =>
  .ar fun ax aX =>
  .ret (bg (t1.append [.aa true,(J 3),.aa false,(J 6),.aN [] [] (a8 [0,1,2,7,8,40,41,42]),(Ja eW e6 eT eY bX fk aQ (len_ eI eT) ax).e8,(J 3),.aN [] [] (a8 [0,1,2,7,8])]) (aV.aI (.bP af av (XY aX))))))
  (fun af =>
  .ret (bg (t1.append [.aa false,.aN [] [] (a8 [7])]) (aV.aI (.e1 af))))))
  (fun o =>
  .ret (bg [.aw (ai 4 (aj (.aa true) (ai 1 (cx 6 (aj (.aa false) []))))),.aa false,.aN [] [] (a8 [7])] (.bi h1 h1 o o o o o o (.aD o cK)))))
  (fun h1 =>
  .ret (bg [.aw (ai 3 (cx 1 (aj (.aa false) (ai 1 (cx 6 (ai 1 [])))))),.aa false,.aN [] [] (a8 [7])] (.bi h1 h1 cK cK cK cK cK cK (.e1 cK))))
theorem OU {eW:Int}{e6:List (List aR)}{eT:List Int}{eY:List aR}{bX:Int}{fk:Bool}{aH aQ:Int}{r} (h:Kq eW e6 eT eY bX fk aH aQ=some r):dP a4 63 0 70 [1,1,0,1,0,0] (Ix eW e6 eT eY bX fk) (OK eW e6 eT eY bX fk) (aH,aQ) r:=dQ (fun _=>Wn) h
def uX (hv:pL)(bX:Int)(fk:Bool):Option Int :=
 if 0≤bX∧bX<hv.BW.length then
 hv.BW[bX.toNat]? >>= fun ef =>
 qk ef >>= fun a6 =>
 Kq hv.NR hv.sL hv.rU hv.BW bX fk a6 0 >>= fun cn =>
 match cn with
 | .inl my=>(some my)
 | .inr my=>(some (-1))
 else none
theorem Y3 {hv:pL}{bX:Int}{fk:Bool}:bD (uX hv bX fk) (fun r=>Con a4 70 [.dS 4 [(vh hv)] 0 0,.n .i64 bX,.b fk] [] (.n .i64 r) []):=by
 unfold uX
 exact .aY fun h1 =>
  .ar fun ef af =>
  .ar fun a6 aA =>
  .ar fun cn bf =>
  (let t1:List b0:=[(J 1),.aw (ai 6 (aj (.b5 (aS ef)) (aj (bu 1 (.n .i64 a6) true) (ai 1 [])))),(J 1),.aN [] [] (a8 [0,1,2,7,8])];
  have aV:=((.dh h1.1 (cX aS h1.2) (b1 aS af) (tr a6 aA) (bR.n .i64 a6)):cA _);
  (by
  rcases cn with my|my
  ·exact (.ret (bA (t1.append [.sub (.exit 0) [(7,.n .i64 my)] [],(J 2)]) (aV.aI (.e1 (OU bf)))))
  ·exact (.ret (bA (t1.append [.sub (.ret) [(6,.n .i64 (-1:Int))] []]) (aV.aI (.e1 (OU bf)))))))
def u5 (b4 aH:aR):Option aR :=
 tz b4 >>= fun r1 =>
 if r1=true then
  tz aH >>= fun a6 =>
  if a6=true then
   h3 b4.fB.cN aH.hP >>= fun bO =>
   h3 b4.hP aH.fB.cN >>= fun cb =>
   og (!(b4.fB.c0 == aH.fB.c0)) bO cb >>= fun dp =>
   some dp
  else
   some (⟨(⟨false,([]:List Int)⟩:bx),([]:List Int)⟩:aR)
 else
  some (⟨(⟨false,([]:List Int)⟩:bx),([]:List Int)⟩:aR)
theorem Pu {b4 aH:aR}:bD (u5 b4 aH) (fun r=>Con a4 98 [.agg (aS b4),.agg (aS aH)] [] (.agg (aS r)) []):=by
 unfold u5
 exact .ar fun r1 o =>
  (have b9:=((.aD (KS r1 o) (bR.b r1)):cA _);
  .ite (fun af =>
  .ar fun a6 aA =>
  (let t2:List b0:=[(J 3),.aw (ai 1 (aj (bu 1 (.b r1) true) (ai 3 (aj (bu 1 (.b a6) true) (ai 1 (aj (.aa false) []))))))];
  have fI:=b9.aI (.dW (cO af) (cO af) (KS a6 aA) (bR.b a6) (cO af) (cO af));
  .ite (fun aX =>
  .ar fun bO bl =>
  .ar fun cb cQ =>
  .ar fun dp eK =>
  .ret (bA (t2.append [.aa false,.aw (ai 12 (aj (bu 2 (.isl 1 (bO.map eI)) false) (ai 5 (aj (bu 2 (.isl 1 (cb.map eI)) false) (aj (bu 3 (.agg (aS dp)) false) (ai 1 []))))))]) (fI.aI (.c4 (cO aX) (pp bO bl) (pp cb cQ) (At dp eK)))))
  (fun aX =>
  .ret (bA (t2.append [.aa true,(J 2)]) (fI.aI (.e1 (cM aX))) (.bp (.agg [.id,.iJ 1,.iJ 1]))))))
  (fun af =>
  .ret (bA [(J 3),.aw (ai 1 (aj (bu 1 (.b r1) true) (ai 2 (cx 3 (aj (.aa true) []))))),.aa true,(J 2)] (b9.aI (.dh (cM af) (cM af) (cM af) (cM af) cT)) (.bp (.agg [.id,.iJ 1,.iJ 1])))))
def A0 (dq eG:bx):Option Int :=
 if dq.c0=true then
  if eG.c0=true then
   ql eG.cN dq.cN >>= fun bn =>
   some bn
  else
   some (-1)
 else
  if eG.c0=true then
   some 1
  else
   ql dq.cN eG.cN >>= fun bn =>
   some bn
theorem Zq {dq eG:bx}:bD (A0 dq eG) (fun r=>Con a4 122 [.agg (a1 dq),.agg (a1 eG)] [] (.n .i64 r) []):=by
 unfold A0
 exact .ite (fun h1 =>
  (let t1:List b0:=[(J 3),.aw (bq 6 (.aa true) 1)];
  .ite (fun o =>
  .ar fun bn av =>
  .ret (bA (t1.append [.aa false,.aw (ai 4 (cx 2 (aj (.aa false) (ai 1 [])))),.aa false,(J 3),.aa true,.aw (bq 4 (bu 2 (.n .i64 bn) true) 1)]) (.bi h1 h1 h1 h1 (cO o) (cO h1) (cO h1) (cO h1) (.c4 cK h1 (yj bn av) (bR.n .i64 bn)))))
  (fun o =>
  .ret (bA (t1.append [.aa true,(J 1)]) (.dh h1 h1 h1 h1 (cM o))))))
  (fun h1 =>
  (let t1:List b0:=[(J 3),.aw (ai 3 (cx 3 (aj (.aa false) (ai 1 [])))),.aa false,.aw (bq 6 (.aa true) 1)];
  have aV:=((.gz h1 h1 h1 h1 cK (cM h1) (cM h1) (cM h1)):cA _);
  .ite (fun o =>
  .ret (bA (t1.append [.aa true,(J 1)]) (aV.aI (.e1 o))))
  (fun o =>
  .ar fun bn av =>
  .ret (bA (t1.append [.aa false,(J 3),.aa false,.aw (bq 4 (bu 2 (.n .i64 bn) true) 1)]) (aV.aI (.c4 o h1 (yj bn av) (bR.n .i64 bn)))))))
def u6 (b4 aH:aR):Option Int :=
 h3 b4.fB.cN aH.hP >>= fun r1 =>
 h8 b4.fB.c0 r1 >>= fun bn =>
 h3 aH.fB.cN b4.hP >>= fun ax =>
 h8 aH.fB.c0 ax >>= fun bO =>
 A0 bn bO >>= fun cb =>
 some cb
theorem Pv {b4 aH:aR}:bD (u6 b4 aH) (fun r=>Con a4 99 [.agg (aS b4),.agg (aS aH)] [] (.n .i64 r) []):=by
 unfold u6
 exact .ar fun r1 o =>
  .ar fun bn av =>
  .ar fun ax aX =>
  .ar fun bO bl =>
  .ar fun cb cQ =>
  .ret (bA [(J 3),.aw (ai 8 (aj (bu 2 (.isl 1 (r1.map eI)) false) (aj (bu 2 (.agg (a1 bn)) false) (ai 8 (aj (bu 2 (.isl 1 (ax.map eI)) false) (aj (bu 2 (.agg (a1 bO)) false) (aj (bu 2 (.n .i64 cb) true) (ai 1 []))))))))] (.dW (pp r1 o) (oe bn av) (pp ax aX) (oe bO bl) (Zq cb cQ) (bR.n .i64 cb)))
def H8 (eW:Int)(e6:List (List aR))(eT:List Int)(eY:List aR)(bX da:Int):(Int×Int×Bool×(List Int)×(List Int))→S:=fun (il,dg,aL,aM,bz)=>dv [(0,.dS 4 [[.n .i64 eW,.isl 1 (e6.map (eD 3 aS)),.isl 1 (eT.map eI),.isl 3 (eY.map aS)]] 0 0),(1,.n .i64 bX),(5,.n .i64 il),(6,.ref 0 0 0 0),(14,.isl 1 (e6.map (eD 3 aS))),(15,.n .i64 da),(16,.n .i64 dg)] [[ae.mk 3 [[.b aL,.isl 1 (aM.map eI),.isl 1 (bz.map eI)]] .live]]
def Oz (eW:Int)(e6:List (List aR))(eT:List Int)(eY:List aR)(bX da:Int):Int→dy
 | a=>⟨some 0,[(5,.n .i64 a)],[]⟩
def xz (eW:Int)(e6:List (List aR))(eT:List Int)(eY:List aR)(bX da il dg:Int)(aL:Bool)(aM bz:List Int):Option ((Int×Int×Bool×(List Int)×(List Int))⊕(Int)) :=
 if (decide (dg<da))=true then
  if 0≤dg∧dg<e6.length then
  e6[dg.toNat]? >>= fun az =>
  if 0≤bX∧bX<az.length then
  az[bX.toNat]? >>= fun cy =>
  qk cy >>= fun de =>
  if (decide (de≤(0:Int)))=true then
   some (.inl (il,R (dg+(1:Int)),aL,aM,bz))
  else
   if 0≤(R ((len_ aS az)-(1:Int)))∧(R ((len_ aS az)-(1:Int)))<az.length then
   az[(R ((len_ aS az)-(1:Int))).toNat]? >>= fun Nc =>
   u5 Nc cy >>= fun fp =>
   if (decide (il<(0:Int)))=true then
    some (.inl (dg,R (dg+(1:Int)),fp.fB.c0,fp.fB.cN,fp.hP))
   else
    u6 fp (⟨(⟨aL,aM⟩:bx),bz⟩:aR) >>= fun gi =>
    if (decide (gi<(0:Int)))=true then
     some (.inl (dg,R (dg+(1:Int)),fp.fB.c0,fp.fB.cN,fp.hP))
    else
     if (gi == (0:Int))=true then
      if 0≤dg∧dg<eT.length then
      eT[dg.toNat]? >>= fun Nd =>
      if 0≤il∧il<eT.length then
      eT[il.toNat]? >>= fun Nf =>
      if (decide (Nd<Nf))=true then
       some (.inl (dg,R (dg+(1:Int)),fp.fB.c0,fp.fB.cN,fp.hP))
      else
       some (.inl (il,R (dg+(1:Int)),aL,aM,bz))
      else none
      else none
     else
      some (.inl (il,R (dg+(1:Int)),aL,aM,bz))
   else none
  else none
  else none
 else
  some (.inr il)
def Kb (eW:Int)(e6:List (List aR))(eT:List Int)(eY:List aR)(bX da il dg:Int)(aL:Bool)(aM bz:List Int):Option (Int):=iter (fun w:Int×Int×Bool×(List Int)×(List Int)=>xz eW e6 eT eY bX da w.1 w.2.1 w.2.2.1 w.2.2.2.1 w.2.2.2.2) (il,dg,aL,aM,bz)
theorem V8 {eW:Int}{e6:List (List aR)}{eT:List Int}{eY:List aR}{bX da il dg:Int}{aL:Bool}{aM bz:List Int}:bD (xz eW e6 eT eY bX da il dg aL aM bz) (dO a4 73 0 71 [1,1,1,0,1,0,0] (H8 eW e6 eT eY bX da (il,dg,aL,aM,bz)) (H8 eW e6 eT eY bX da) (Oz eW e6 eT eY bX da)):=by
 unfold xz
 exact .ite (fun h1 =>
  .aY fun o =>
  .ar fun az av =>
  .aY fun aA =>
  .ar fun cy bf =>
  .ar fun de cB =>
  (let t1:List b0:=[(J 1),.aa true,.aw (bq 2 (.b5 ((eD 3 aS) az)) 2),.aw (ai 3 (aj (.b5 (aS cy)) (aj (bu 1 (.n .i64 de) true) (ai 1 []))))];
  have aV:=((.bi h1 o.1 (cX (eD 3 aS) o.2) (b1 (eD 3 aS) av) aA.1 (cX aS aA.2) (b1 aS bf) (tr de cB) (.e1 (bR.n .i64 de))):cA _);
  .ite (fun cQ =>
  .ret (bg (t1.append [.aa true,(J 2),.aN [0] [.box [.id,.id,.id]] (a8 [0,1,5,6,14,15,16])]) (aV.aI (.e1 cQ))))
  (fun cQ =>
  .aY fun fe =>
  .ar fun Nc eU =>
  .ar fun fp fM =>
  (let t3:List b0:=t1.append [.aa false,.aw (ai 5 (aj (.b5 (aS Nc)) (ai 3 (aj (.b5 (aS cy)) (aj (bu 2 (.agg (aS fp)) false) (ai 2 []))))))];
  have eA:=aV.aI (.gz cQ fe.1 (cX aS fe.2) (b1 aS eU) aA.1 (cX aS aA.2) (b1 aS bf) (Pu fp fM));
  .ite (fun hd =>
  .ret (bg (t3.append [.aw (ai 3 (cx 4 (aj (.aa true) (ai 1 (cx 5 (ai 15 (cx 1 (ai 1 [])))))))),.aa true,(J 2),(J 2),(J 2),.aN [0] [.box [.id,.id,.id]] (a8 [0,1,5,6,14,15,16])]) (eA.aI (.bi hd hd hd hd hd cT cT cT (.c4 cT cT cT cT)))))
  (fun hd =>
  .ar fun gi hD =>
  (have mz:=eA.aI (.eP hd hd hd (Pv gi hD) (bR.n .i64 gi) hd hd);
  .ite (fun gy =>
  .ret (bg (t3.append [.aw (ai 5 (aj (bu 2 (.n .i64 gi) true) (ai 1 (aj (.aa false) (ai 1 (cx 5 (ai 15 (cx 1 (aj (.aa true) []))))))))),.aa true,(J 2),(J 2),(J 2),.aN [0] [.box [.id,.id,.id]] (a8 [0,1,5,6,14,15,16])]) (mz.aI (.gz gy gy gy gy gy gy gy cT))))
  (fun gy =>
  (have kj:=mz.aI (.eP gy gy gy (Pv gi hD) (bR.n .i64 gi) gy gy);
  .ite (fun fu =>
  .aY fun gM =>
  .ar fun Nd ng =>
  .aY fun r6 =>
  .ar fun Nf we =>
  (let t7:List b0:=t3.append [.aw (ai 5 (aj (bu 2 (.n .i64 gi) true) (ai 1 (aj (.aa false) (ai 3 (aj (bu 2 (.n .i64 gi) true) (ai 8 (aj (.b5 (eI Nd)) (ai 6 (aj (.b5 (eI Nf)) (ai 1 (aj (.aa true) (aj (.aa false) [])))))))))))))];
  have lU:=kj.aI (.bi fu fu fu fu fu fu gM.1 (cX eI gM.2) (.bi fu (b1 eI ng) fu fu fu fu fu fu (.gz r6.1 (cX eI r6.2) fu (b1 eI we) fu gy fu gy)));
  .ite (fun s3 =>
  .ret (bg (t7.append [.aa true,(J 2),(J 2),(J 2),.aN [0] [.box [.id,.id,.id]] (a8 [0,1,5,6,14,15,16])]) (lU.aI (.e1 s3))))
  (fun s3 =>
  .ret (bg (t7.append [.aa false,(J 2),.aN [0] [.box [.id,.id,.id]] (a8 [0,1,5,6,14,15,16])]) (lU.aI (.e1 s3))))))
  (fun fu =>
  .ret (bg (t3.append [.aw (ai 5 (aj (bu 2 (.n .i64 gi) true) (ai 1 (aj (.aa false) (ai 3 (aj (bu 2 (.n .i64 gi) true) (ai 2 (cx 15 (aj (.aa false) (aj (.aa false) [])))))))))),.aa false,(J 2),.aN [0] [.box [.id,.id,.id]] (a8 [0,1,5,6,14,15,16])]) (kj.aI (.bi fu fu fu fu fu fu fu fu (.bi fu fu fu fu fu fu fu gy (.bP fu gy cK))))))))))))))
  (fun h1 =>
  .ret (bg [(J 1),.aa false,.aN [] [] (a8 [5])] (.e1 h1)))
theorem XF {eW:Int}{e6:List (List aR)}{eT:List Int}{eY:List aR}{bX da il dg:Int}{aL:Bool}{aM bz:List Int}{r} (h:Kb eW e6 eT eY bX da il dg aL aM bz=some r):dP a4 73 0 71 [1,1,1,0,1,0,0] (H8 eW e6 eT eY bX da) (Oz eW e6 eT eY bX da) (il,dg,aL,aM,bz) r:=dQ (fun _=>V8) h
def AF (hv:pL)(bX:Int):Option Int :=
 Kb hv.NR hv.sL hv.rU hv.BW bX (len_ (eD 3 aS) hv.sL) (-1) 0 false ([]:List Int) ([]:List Int) >>= fun r1 =>
 some r1
theorem YH {hv:pL}{bX:Int}:bD (AF hv bX) (fun r=>Con a4 71 [.dS 4 [(vh hv)] 0 0,.n .i64 bX] [] (.n .i64 r) []):=by
 unfold AF
 exact .ar fun r1 o =>
  .ret (bA [(J 1),(J 1),(J 3),(J 6),.aN [3] [.box [.id,.iJ 1,.iJ 1]] (a8 [0,1,5,6,14,15,16]),.sub (.exit 0) [(5,.n .i64 r1)] [],(J 2)] (.e1 (XF o)))
def u7 (b4:aR):Option aR :=
 h8 (!b4.fB.c0) b4.fB.cN >>= fun r1 =>
 if (([]:List Int)++b4.hP).length*8≤140737488355328 then
 some (⟨r1,([]:List Int)++b4.hP⟩:aR)
 else none
theorem Pw {b4:aR}:bD (u7 b4) (fun r=>Con a4 123 [.agg (aS b4)] [] (.agg (aS r)) []):=by
 unfold u7
 exact .ar fun r1 o =>
  .aY fun af =>
  .ret (let q1:=(([]:List Int)++b4.hP);let a7:=cZ eI b4.hP;bA [(J 2),.aw (ai 7 (aj (bu 2 (.agg (a1 r1)) false) (bq 3 (.aI (q1.length)) 2)))] (.eP (oe r1 o) (nu (show []=(([]:List Int)).map eI from rfl) (fg Int)) (lZ (fg Int) a7:q1.length=0+(b4.hP.map eI).length) af (k6 (iz (show []=(([]:List Int)).map eI from rfl) (fg Int) a7) (dX q1)) (lm (iz (show []=(([]:List Int)).map eI from rfl) (fg Int) a7) (dX q1)) (dk aO q1)) (.bp (.agg [.id,.id,.dL (q1.map eI)])))
def tw (b4 aH:aR):Option aR :=
 h3 b4.fB.cN aH.fB.cN >>= fun r1 =>
 h3 b4.hP aH.hP >>= fun bn =>
 og (!(b4.fB.c0 == aH.fB.c0)) r1 bn >>= fun ax =>
 some ax
theorem Px {b4 aH:aR}:bD (tw b4 aH) (fun r=>Con a4 124 [.agg (aS b4),.agg (aS aH)] [] (.agg (aS r)) []):=by
 unfold tw
 exact .ar fun r1 o =>
  .ar fun bn av =>
  .ar fun ax aX =>
  .ret (bA [(J 3),.aw (ai 13 (aj (bu 2 (.isl 1 (r1.map eI)) false) (ai 4 (aj (bu 2 (.isl 1 (bn.map eI)) false) (aj (bu 3 (.agg (aS ax)) false) (ai 1 []))))))] (.bP (pp r1 o) (pp bn av) (At ax aX)))
def HB (kW lW h9 ev:Nat)(hk:Int)(ao:List aR)(j9:Bool)(j5 j3:List Int):(Int×(List aR))→S:=fun (fN,ab)=>dv [(0,.bh 0 0 kW lW),(1,.bh 1 0 h9 ev),(7,.ref 2 0 0 0),(19,.n .i64 hk),(20,.n .i64 fN)] [(au 3 aS ab),(au 3 aS ao),[ae.mk 3 [[.b j9,.isl 1 (j5.map eI),.isl 1 (j3.map eI)]] .live]]
def Oq (kW lW h9 ev:Nat)(hk:Int)(ao:List aR)(j9:Bool)(j5 j3:List Int):(List aR)→dy
 | a=>⟨some 0,[],[(au 3 aS a),(au 3 aS ao)]⟩
def xn (kW lW h9 ev:Nat)(hk:Int)(ao:List aR)(j9:Bool)(j5 j3:List Int)(fN:Int)(ab:List aR):Option ((Int×(List aR))⊕((List aR))) :=
 if (decide (fN<hk))=true then
  if 0≤fN∧fN<(ev:Nat) then
  ao[(h9+fN.toNat)]? >>= fun az =>
  qk az >>= fun ax =>
  if (ax != (0:Int))=true then
   if 0≤fN∧fN<(lW:Nat) then
   ab[(kW+fN.toNat)]? >>= fun dj =>
   tw (⟨(⟨j9,j5⟩:bx),j3⟩:aR) az >>= fun dp =>
   rL dj dp >>= fun eM =>
   if (kW+fN.toNat)<ab.length then
   some (.inl (R (fN+(1:Int)),ab.set (kW+fN.toNat) eM))
   else none
   else none
  else
   some (.inl (R (fN+(1:Int)),ab))
  else none
 else
  some (.inr ab)
def JE (kW lW h9 ev:Nat)(hk:Int)(ao:List aR)(j9:Bool)(j5 j3:List Int)(fN:Int)(ab:List aR):Option ((List aR)):=iter (fun w:Int×(List aR)=>xn kW lW h9 ev hk ao j9 j5 j3 w.1 w.2) (fN,ab)
theorem VG {kW lW h9 ev:Nat}{hk:Int}{ao:List aR}{j9:Bool}{j5 j3:List Int}{fN:Int}{ab:List aR}:bD (xn kW lW h9 ev hk ao j9 j5 j3 fN ab) (dO a4 44 2 100 [1,1,1,1,0,0] (HB kW lW h9 ev hk ao j9 j5 j3 (fN,ab)) (HB kW lW h9 ev hk ao j9 j5 j3) (Oq kW lW h9 ev hk ao j9 j5 j3)):=by
 unfold xn
 exact .ite (fun h1 =>
  .aY fun o =>
  .ar fun az av =>
  .ar fun ax aX =>
  (let t1:List b0:=[(J 1),.aa true,(J 2),.aw (ai 3 (aj (.b5 (aS az)) (aj (bu 1 (.n .i64 ax) true) (ai 1 []))))];
  have aV:=((.dW h1 o.1 o.2 (b1 aS av) (tr ax aX) (bR.n .i64 ax)):cA _);
  .ite (fun bf =>
  .aY fun bl =>
  .ar fun dj cQ =>
  .ar fun dp eK =>
  .ar fun eM eL =>
  .aY fun fM =>
  .ret (bg (t1.append [.aa true,.aw (ai 5 (aj (.b5 (aS dj)) (ai 4 (aj (.b5 (aS az)) (aj (bu 2 (.agg (aS dp)) false) (aj (bu 2 (.agg (aS eM)) false) (ai 1 (aj .fZ [])))))))),(J 2),.aN [0,1,2] [.cG (au 3 aS (ab.set (kW+fN.toNat) eM)),.pure,.box [.id,.id,.id]] (a8 [0,1,7,19,20])]) (aV.aI (.bi bf bl.1 bl.2 (b1 aS cQ) o.1 o.2 (b1 aS av) (Px dp eK) (.gz (Ef eM eL) bl.1 bl.2 (hT aS fM) (hM 3) (c2 3 .live (gP (cZ aS ab) (kW+fN.toNat) eM)) (aJ 3 .live e2 (ab.set (kW+fN.toNat) eM)) (aJ 3 .live e2 ao))))))
  (fun bf =>
  .ret (bg (t1.append [.aa false,(J 2),.aN [0,1,2] [.pure,.pure,.box [.id,.id,.id]] (a8 [0,1,7,19,20])]) (aV.aI (.bP bf (aJ 3 .live e2 ab) (aJ 3 .live e2 ao)))))))
  (fun h1 =>
  .ret (bg [(J 1),.aa false,.aN [0,1] [.pure,.pure] []] (.bP h1 (aJ 3 .live e2 ab) (aJ 3 .live e2 ao))))
theorem Xc {kW lW h9 ev:Nat}{hk:Int}{ao:List aR}{j9:Bool}{j5 j3:List Int}{fN:Int}{ab:List aR}{r} (h:JE kW lW h9 ev hk ao j9 j5 j3 fN ab=some r):dP a4 44 2 100 [1,1,1,1,0,0] (HB kW lW h9 ev hk ao j9 j5 j3) (Oq kW lW h9 ev hk ao j9 j5 j3) (fN,ab) r:=dQ (fun _=>VG) h
def Ak (aQ:Int)(kW lW h9 ev:Nat)(er eX:List aR):Option (List aR) :=
 if 0≤aQ∧aQ<(lW:Nat) then
 er[(kW+aQ.toNat)]? >>= fun ef =>
 qk ef >>= fun a6 =>
 if (a6 == (0:Int))=true then
  some er
 else
  u7 ef >>= fun bO =>
  JE kW lW h9 ev ((lW:Nat):Int) eX bO.fB.c0 bO.fB.cN bO.hP 0 er >>= fun cb =>
  some cb
 else none
theorem XZ {aQ:Int}{kW lW h9 ev:Nat}{er eX:List aR}:bD (Ak aQ kW lW h9 ev er eX) (fun a=>Con a4 100 (TL 0 0 kW lW 1 0 h9 ev aQ) [(au 3 aS er),(au 3 aS eX)] (.ee []) [(au 3 aS a),(au 3 aS eX)]):=by
 unfold Ak
 exact .aY fun h1 =>
  .ar fun ef af =>
  .ar fun a6 aA =>
  (let t1:List b0:=[.aw (bq 3 (.b5 (aS ef)) 2),.aw (bq 1 (bu 1 (.n .i64 a6) true) 1)];
  have aV:=((.dh h1.1 h1.2 (b1 aS af) (tr a6 aA) (bR.n .i64 a6)):cA _);
  .ite (fun aX =>
  .ret (kq (t1.append [.aa true]) [0,1] [.pure,.pure] (aV.aI (.bP aX (aJ 3 .live e2 er) (aJ 3 .live e2 eX)))))
  (fun aX =>
  .ar fun bO bl =>
  .ar fun cb cQ =>
  .ret (kq (t1.append [.aa false,.aw (bq 1 (bu 1 (.agg (aS bO)) false) 2),(J 3),.aN [0,1,13] [.pure,.pure,.box [.id,.id,.id]] (a8 [0,1,7,19,20]),.sub (.exit 0) [] [(au 3 aS cb),(au 3 aS eX)]]) [0,1] [.pure,.pure] (aV.aI (.eP aX (Pw bO bl) (aJ 3 .live e2 er) (aJ 3 .live e2 eX) (Xc cQ) (aJ 3 .live e2 cb) (aJ 3 .live e2 eX))))))
def Hj (h9 ev:Nat)(hk:Int)(ao:List aR)(j9:Bool)(j5 j3:List Int):(Int×(List aR))→S:=fun (fN,ab)=>dv [(0,.bh 0 0 0 ab.length),(1,.bh 1 0 h9 ev),(7,.ref 2 0 0 0),(19,.n .i64 hk),(20,.n .i64 fN)] [(au 3 aS ab),(au 3 aS ao),[ae.mk 3 [[.b j9,.isl 1 (j5.map eI),.isl 1 (j3.map eI)]] .live]]
def Oi (h9 ev:Nat)(hk:Int)(ao:List aR)(j9:Bool)(j5 j3:List Int):(List aR)→dy
 | a=>⟨some 0,[],[(au 3 aS a),(au 3 aS ao)]⟩
def xd (h9 ev:Nat)(hk:Int)(ao:List aR)(j9:Bool)(j5 j3:List Int)(fN:Int)(ab:List aR):Option ((Int×(List aR))⊕((List aR))) :=
 if (decide (fN<hk))=true then
  if 0≤fN∧fN<(ev:Nat) then
  ao[(h9+fN.toNat)]? >>= fun az =>
  qk az >>= fun ax =>
  if (ax != (0:Int))=true then
   if 0≤fN∧fN<(ab.length:Nat) then
   ab[(0+fN.toNat)]? >>= fun dj =>
   tw (⟨(⟨j9,j5⟩:bx),j3⟩:aR) az >>= fun dp =>
   rL dj dp >>= fun eM =>
   if (0+fN.toNat)<ab.length then
   some (.inl (R (fN+(1:Int)),ab.set (0+fN.toNat) eM))
   else none
   else none
  else
   some (.inl (R (fN+(1:Int)),ab))
  else none
 else
  some (.inr ab)
def Jb (h9 ev:Nat)(hk:Int)(ao:List aR)(j9:Bool)(j5 j3:List Int)(fN:Int)(ab:List aR):Option ((List aR)):=iter (fun w:Int×(List aR)=>xd h9 ev hk ao j9 j5 j3 w.1 w.2) (fN,ab)
theorem Vu {h9 ev:Nat}{hk:Int}{ao:List aR}{j9:Bool}{j5 j3:List Int}{fN:Int}{ab:List aR}:bD (xd h9 ev hk ao j9 j5 j3 fN ab) (dO a4 44 2 100 [1,1,1,1,0,0] (Hj h9 ev hk ao j9 j5 j3 (fN,ab)) (Hj h9 ev hk ao j9 j5 j3) (Oi h9 ev hk ao j9 j5 j3)):=by
 unfold xd
 exact .ite (fun h1 =>
  .aY fun o =>
  .ar fun az av =>
  .ar fun ax aX =>
  (let t1:List b0:=[(J 1),.aa true,(J 2),.aw (ai 3 (aj (.b5 (aS az)) (aj (bu 1 (.n .i64 ax) true) (ai 1 []))))];
  have aV:=((.dW h1 o.1 o.2 (b1 aS av) (tr ax aX) (bR.n .i64 ax)):cA _);
  .ite (fun bf =>
  .aY fun bl =>
  .ar fun dj cQ =>
  .ar fun dp eK =>
  .ar fun eM eL =>
  .aY fun fM =>
  .ret (bg (t1.append [.aa true,.aw (ai 5 (aj (.b5 (aS dj)) (ai 4 (aj (.b5 (aS az)) (aj (bu 2 (.agg (aS dp)) false) (aj (bu 2 (.agg (aS eM)) false) (ai 1 (aj .fZ [])))))))),(J 2),.aN [0,1,2] [.cG (au 3 aS (ab.set (0+fN.toNat) eM)),.pure,.box [.id,.id,.id]] [(0,fW ((ab.set (0+fN.toNat) eM).length)),(1,ii),(7,ii),(19,ii),(20,ii)]]) (aV.aI (.bi bf bl.1 bl.2 (b1 aS cQ) o.1 o.2 (b1 aS av) (Px dp eK) (.bi (Ef eM eL) bl.1 bl.2 (hT aS fM) (hM 3) (c2 3 .live (gP (cZ aS ab) (0+fN.toNat) eM)) (aJ 3 .live e2 (ab.set (0+fN.toNat) eM)) (aJ 3 .live e2 ao) (.e1 (hi (dX ab) (0+fN.toNat) eM)))))))
  (fun bf =>
  .ret (bg (t1.append [.aa false,(J 2),.aN [0,1,2] [.pure,.pure,.box [.id,.id,.id]] (a8 [0,1,7,19,20])]) (aV.aI (.bP bf (aJ 3 .live e2 ab) (aJ 3 .live e2 ao)))))))
  (fun h1 =>
  .ret (bg [(J 1),.aa false,.aN [0,1] [.pure,.pure] []] (.bP h1 (aJ 3 .live e2 ab) (aJ 3 .live e2 ao))))
theorem WR {h9 ev:Nat}{hk:Int}{ao:List aR}{j9:Bool}{j5 j3:List Int}{fN:Int}{ab:List aR}{r} (h:Jb h9 ev hk ao j9 j5 j3 fN ab=some r):dP a4 44 2 100 [1,1,1,1,0,0] (Hj h9 ev hk ao j9 j5 j3) (Oi h9 ev hk ao j9 j5 j3) (fN,ab) r:=dQ (fun _=>Vu) h
def Af (aQ:Int)(h9 ev:Nat)(er eX:List aR):Option (List aR) :=
 if 0≤aQ∧aQ<(er.length:Nat) then
 er[(0+aQ.toNat)]? >>= fun ef =>
 qk ef >>= fun a6 =>
 if (a6 == (0:Int))=true then
  some er
 else
  u7 ef >>= fun bO =>
  Jb h9 ev ((er.length:Nat):Int) eX bO.fB.c0 bO.fB.cN bO.hP 0 er >>= fun cb =>
  some cb
 else none
theorem XG {aQ:Int}{h9 ev:Nat}{er eX:List aR}:bD (Af aQ h9 ev er eX) (fun a=>Con a4 100 (TL 0 0 0 er.length 1 0 h9 ev aQ) [(au 3 aS er),(au 3 aS eX)] (.ee []) [(au 3 aS a),(au 3 aS eX)]):=by
 unfold Af
 exact .aY fun h1 =>
  .ar fun ef af =>
  .ar fun a6 aA =>
  (let t1:List b0:=[.aw (bq 3 (.b5 (aS ef)) 2),.aw (bq 1 (bu 1 (.n .i64 a6) true) 1)];
  have aV:=((.dh h1.1 h1.2 (b1 aS af) (tr a6 aA) (bR.n .i64 a6)):cA _);
  .ite (fun aX =>
  .ret (kq (t1.append [.aa true]) [0,1] [.pure,.pure] (aV.aI (.bP aX (aJ 3 .live e2 er) (aJ 3 .live e2 eX)))))
  (fun aX =>
  .ar fun bO bl =>
  .ar fun cb cQ =>
  .ret (kq (t1.append [.aa false,.aw (bq 1 (bu 1 (.agg (aS bO)) false) 2),(J 3),.aN [0,1,13] [.pure,.pure,.box [.id,.id,.id]] (a8 [0,1,7,19,20]),.sub (.exit 0) [] [(au 3 aS cb),(au 3 aS eX)]]) [0,1] [.pure,.pure] (aV.aI (.eP aX (Pw bO bl) (aJ 3 .live e2 er) (aJ 3 .live e2 eX) (WR cQ) (aJ 3 .live e2 cb) (aJ 3 .live e2 eX))))))
def HC (b4 aQ dA dm:Int)(b7:List bF)(ct:List Int)(cu:List aR)(bN:Bool)(d5 ha:List Int):(Int×(List (List aR)))→S:=fun (dB,dz)=>dv [(0,.ref 0 0 0 0),(1,.n .i64 b4),(2,.n .i64 aQ),(6,.ref 1 0 0 0),(26,.n .i64 dA),(27,.n .i64 dB)] [(ae.mk 4 [(d6 dm 0 1 0 b7.length 0 2 0 ct.length 0 3 0 cu.length)] .live::ae.mk 1 (b7.map (br 0 4 3)) .live::ae.mk 1 (ct.map eI) .live::ae.mk 3 (cu.map aS) .live::(cf 3 aS dz)),[ae.mk 3 [[.b bN,.isl 1 (d5.map eI),.isl 1 (ha.map eI)]] .live]]
def HQ (b4 aQ dA dm:Int)(b7:List bF)(ct:List Int)(cu:List aR)(bN:Bool)(d5 ha:List Int):(List (List aR))→dy
 | a=>⟨some 0,[(0,.ref 0 0 0 0),(1,.n .i64 b4),(2,.n .i64 aQ)],[(ae.mk 4 [(d6 dm 0 1 0 b7.length 0 2 0 ct.length 0 3 0 cu.length)] .live::ae.mk 1 (b7.map (br 0 4 3)) .live::ae.mk 1 (ct.map eI) .live::ae.mk 3 (cu.map aS) .live::(cf 3 aS a))]⟩
def xo (b4 aQ dA dm:Int)(b7:List bF)(ct:List Int)(cu:List aR)(bN:Bool)(d5 ha:List Int)(dB:Int)(dz:List (List aR)):Option ((Int×(List (List aR)))⊕((List (List aR)))) :=
 if (decide (dB<dA))=true then
  if 0≤b4∧b4<(b7.length:Nat) then
  b7[(0+b4.toNat)]? >>= fun az =>
  az >>= fun lV =>
  dz[lV.1]? >>= fun iT =>
  if 0≤dB∧dB<(lV.2:Nat) then
  iT[(0+dB.toNat)]? >>= fun je =>
  u5 je (⟨(⟨bN,d5⟩:bx),ha⟩:aR) >>= fun en =>
  some (.inl (R (dB+(1:Int)),dz.set lV.1 (iT.set (0+dB.toNat) en)))
  else none
  else none
 else
  some (.inr dz)
def JF (b4 aQ dA dm:Int)(b7:List bF)(ct:List Int)(cu:List aR)(bN:Bool)(d5 ha:List Int)(dB:Int)(dz:List (List aR)):Option ((List (List aR))):=iter (fun w:Int×(List (List aR))=>xo b4 aQ dA dm b7 ct cu bN d5 ha w.1 w.2) (dB,dz)
theorem VH {b4 aQ dA dm:Int}{b7:List bF}{ct:List Int}{cu:List aR}{bN:Bool}{d5 ha:List Int}{dB:Int}{dz:List (List aR)}:bD (xo b4 aQ dA dm b7 ct cu bN d5 ha dB dz) (dO a4 100 1 72 [1,0,1,0,0] (HC b4 aQ dA dm b7 ct cu bN d5 ha (dB,dz)) (HC b4 aQ dA dm b7 ct cu bN d5 ha) (HQ b4 aQ dA dm b7 ct cu bN d5 ha)):=by
 unfold xo
 exact .ite (fun h1 =>
  .aY fun o =>
  .ar fun az av =>
  .ar fun lV aX =>
  .ar fun iT bl =>
  .aY fun cB =>
  .ar fun je fe =>
  .ar fun en eU =>
  .ret (let q1:=ke (gu .live 3 aS dz) jv bl;let a7:=b2 [0,1];bg [(J 1),.aa true,(J 2),.aw (ai 6 (aj (.b5 ((br 0 4 3) az)) (ai 7 (aj (.b5 ((br 0 4 3) az)) (ai 1 (aj (.kw 44 (.bh 0 (lV.1+4) 0 lV.2) (.gv (ae.mk 3 (iT.map aS) .live) [])) (aj (.gv (ae.mk 3 (iT.map aS) .live) (aS je)) (ai 1 (aj (bu 2 (.agg (aS en)) false) (aj (.kw 36 (.bh 0 (lV.1+4) 0 lV.2) (.gv (ae.mk 3 (iT.map aS) .live) [])) (aj (.gv (ae.mk 3 (iT.map aS) .live) (aS je)) []))))))))))),(J 2),.aN [0,1] [.bM (ae.mk 4 [(d6 dm 0 1 0 b7.length 0 2 0 ct.length 0 3 0 cu.length)] .live::ae.mk 1 (b7.map (br 0 4 3)) .live::ae.mk 1 (ct.map eI) .live::ae.mk 3 (cu.map aS) .live::(cf 3 aS (dz.set lV.1 (iT.set (0+dB.toNat) en)))),.box [.id,.id,.id]] (a8 [0,1,2,6,26,27])] (.bi h1 o.1 o.2 (b1 (br 0 4 3) av) o.1 o.2 (b1 (br 0 4 3) av) (mi (ea:=0) (c:=4) (sz:=3) aX) (.bi q1 cB.1 cB.2 q1 (b1 aS fe) (Pu en eU) (mi (ea:=0) (c:=4) (sz:=3) aX) q1 (.dh cB.1 cB.2 q1 (b1 aS fe) (db (show ae.mk 4 [(d6 dm 0 1 0 b7.length 0 2 0 ct.length 0 3 0 cu.length)] .live=gT (b2 [0,1]) (ae.mk 4 [(d6 dm 0 1 0 b7.length 0 2 0 ct.length 0 3 0 cu.length)] .live) from rfl) (db (ll a7 0 0 4 3 rfl b7) (db (fO a7 1 kQ ct) (db (fO a7 3 fr cu) (nv (cd:=a7) (ps (gu .live 3 aS dz) lV.1 (nr (cZ aS iT) (0+dB.toNat) en (rfl:(setCells (aS je) 0 (aS en))=aS en))) (mE fr)))))))))))
  (fun h1 =>
  .ret (bg [(J 1),.aa false,.aN [0] [.bM (ae.mk 4 [(d6 dm 0 1 0 b7.length 0 2 0 ct.length 0 3 0 cu.length)] .live::ae.mk 1 (b7.map (br 0 4 3)) .live::ae.mk 1 (ct.map eI) .live::ae.mk 3 (cu.map aS) .live::(cf 3 aS dz))] (a8 [0,1,2])] (.aD h1 (db (show ae.mk 4 [(d6 dm 0 1 0 b7.length 0 2 0 ct.length 0 3 0 cu.length)] .live=gT (b2 [0]) (ae.mk 4 [(d6 dm 0 1 0 b7.length 0 2 0 ct.length 0 3 0 cu.length)] .live) from rfl) (db (ll (b2 [0]) 0 0 4 3 rfl b7) (db (fO (b2 [0]) 1 kQ ct) (db (fO (b2 [0]) 3 fr cu) (dY (b2 [0]) 3 fr dz))))))))
theorem Xd {b4 aQ dA dm:Int}{b7:List bF}{ct:List Int}{cu:List aR}{bN:Bool}{d5 ha:List Int}{dB:Int}{dz:List (List aR)}{r} (h:JF b4 aQ dA dm b7 ct cu bN d5 ha dB dz=some r):dP a4 100 1 72 [1,0,1,0,0] (HC b4 aQ dA dm b7 ct cu bN d5 ha) (HQ b4 aQ dA dm b7 ct cu bN d5 ha) (dB,dz) r:=dQ (fun _=>VH) h
def HD (b4 aQ o0 dm:Int)(b7:List bF)(ct:List Int)(cu:List aR):(Int×(List (List aR)))→S:=fun (nS,dz)=>dv [(0,.ref 0 0 0 0),(1,.n .i64 b4),(2,.n .i64 aQ),(56,.n .i64 o0),(57,.n .i64 nS)] [(ae.mk 4 [(d6 dm 0 1 0 b7.length 0 2 0 ct.length 0 3 0 cu.length)] .live::ae.mk 1 (b7.map (br 0 4 3)) .live::ae.mk 1 (ct.map eI) .live::ae.mk 3 (cu.map aS) .live::(cf 3 aS dz))]
def HR (b4 aQ o0 dm:Int)(b7:List bF)(ct:List Int)(cu:List aR):(List (List aR))→dy
 | a=>⟨some 2,[(0,.ref 0 0 0 0),(1,.n .i64 b4),(2,.n .i64 aQ)],[(ae.mk 4 [(d6 dm 0 1 0 b7.length 0 2 0 ct.length 0 3 0 cu.length)] .live::ae.mk 1 (b7.map (br 0 4 3)) .live::ae.mk 1 (ct.map eI) .live::ae.mk 3 (cu.map aS) .live::(cf 3 aS a))]⟩
def xp (b4 aQ o0 dm:Int)(b7:List bF)(ct:List Int)(cu:List aR)(nS:Int)(dz:List (List aR)):Option ((Int×(List (List aR)))⊕((List (List aR)))) :=
 if (decide (nS<o0))=true then
  if (nS != b4)=true then
   if 0≤nS∧nS<(b7.length:Nat) then
   b7[(0+nS.toNat)]? >>= fun fE =>
   if 0≤b4∧b4<(b7.length:Nat) then
   b7[(0+b4.toNat)]? >>= fun c9 =>
   fE >>= fun me =>
   c9 >>= fun oD =>
   dz[me.1]? >>= fun lA =>
   dz[oD.1]? >>= fun kr =>
   if (me.1+4)≠(oD.1+4) then
   Ak aQ 0 me.2 0 oD.2 lA kr >>= fun fl =>
   some (.inl (R (nS+(1:Int)),(dz.set me.1 fl).set oD.1 kr))
   else none
   else none
   else none
  else
   some (.inl (R (nS+(1:Int)),dz))
 else
  some (.inr dz)
def JG (b4 aQ o0 dm:Int)(b7:List bF)(ct:List Int)(cu:List aR)(nS:Int)(dz:List (List aR)):Option ((List (List aR))):=iter (fun w:Int×(List (List aR))=>xp b4 aQ o0 dm b7 ct cu w.1 w.2) (nS,dz)
theorem VI {b4 aQ o0 dm:Int}{b7:List bF}{ct:List Int}{cu:List aR}{nS:Int}{dz:List (List aR)}:bD (xp b4 aQ o0 dm b7 ct cu nS dz) (dO a4 100 1 72 [1,1,0,1,0,0] (HD b4 aQ o0 dm b7 ct cu (nS,dz)) (HD b4 aQ o0 dm b7 ct cu) (HR b4 aQ o0 dm b7 ct cu)):=by
 unfold xp
 exact .ite (fun h1 =>
  (let t1:List b0:=[(J 1),.aa true,(J 2),(J 3)];
  .ite (fun o =>
  .aY fun af =>
  .ar fun fE aA =>
  .aY fun aX =>
  .ar fun c9 bl =>
  .ar fun me cQ =>
  .ar fun oD eK =>
  .ar fun lA eL =>
  .ar fun kr hd =>
  .aY fun hQ =>
  .ar fun fl gy =>
  .ret (bg (t1.append [.aa true,.aw (ai 6 (aj (.b5 ((br 0 4 3) fE)) (ai 6 (aj (.b5 ((br 0 4 3) c9)) (ai 1 (aj (.kw 69 (.bh 0 (me.1+4) 0 me.2) (.kw 76 (.bh 0 (oD.1+4) 0 oD.2) (.call {a2:=[.an 0 (me.1+4) (ae.mk 3 (lA.map aS) .live),.an 0 (oD.1+4) (ae.mk 3 (kr.map aS) .live)],dc:=[.pure,.pure],ac:=[.bp (.cJ (.at_ 0 0 me.2)),.bp (.cJ (.at_ 1 0 oD.2)),ii],r:= .ee [],eV:=[(au 3 aS fl),(au 3 aS kr)],gr:=ii,hC:=[.pure,.pure],eC:=[0],ej:=false}))) [])))))),(J 2),.aN [0] [.bM (ae.mk 4 [(d6 dm 0 1 0 b7.length 0 2 0 ct.length 0 3 0 cu.length)] .live::ae.mk 1 (b7.map (br 0 4 3)) .live::ae.mk 1 (ct.map eI) .live::ae.mk 3 (cu.map aS) .live::(cf 3 aS ((dz.set me.1 fl).set oD.1 kr)))] (a8 [0,1,2,56,57])]) (.bi h1 o af.1 af.2 (b1 (br 0 4 3) aA) aX.1 aX.2 (b1 (br 0 4 3) bl) (.bi (mi (ea:=0) (c:=4) (sz:=3) cQ) (mi (ea:=0) (c:=4) (sz:=3) eK) hQ (rfl:kG [.an 0 (me.1+4) (ae.mk 3 (lA.map aS) .live),.an 0 (oD.1+4) (ae.mk 3 (kr.map aS) .live)] 0 0=some (0,(me.1+4))) (rfl:me.2=me.2) (rfl:kG [.an 0 (me.1+4) (ae.mk 3 (lA.map aS) .live),.an 0 (oD.1+4) (ae.mk 3 (kr.map aS) .live)] 1 0=some (0,(oD.1+4))) (rfl:oD.2=oD.2) (ke (gu .live 3 aS dz) jv eL) (.eP (f9 3 e2 lA) (ke (gu .live 3 aS dz) jv hd) (f9 3 e2 kr) (f9 3 e2 fl) (f9 3 e2 kr) (XZ fl gy) (db (show ae.mk 4 [(d6 dm 0 1 0 b7.length 0 2 0 ct.length 0 3 0 cu.length)] .live=gT (b2 [0]) (ae.mk 4 [(d6 dm 0 1 0 b7.length 0 2 0 ct.length 0 3 0 cu.length)] .live) from rfl) (db (ll (b2 [0]) 0 0 4 3 rfl b7) (db (fO (b2 [0]) 1 kQ ct) (db (fO (b2 [0]) 3 fr cu) (nv (cd:=(b2 [0])) (ps (ps (gu .live 3 aS dz) me.1 (cZ aS fl)) oD.1 (cZ aS kr)) (mE fr)))))))))))
  (fun o =>
  .ret (bg (t1.append [.aa false,(J 2),.aN [0] [.bM (ae.mk 4 [(d6 dm 0 1 0 b7.length 0 2 0 ct.length 0 3 0 cu.length)] .live::ae.mk 1 (b7.map (br 0 4 3)) .live::ae.mk 1 (ct.map eI) .live::ae.mk 3 (cu.map aS) .live::(cf 3 aS dz))] (a8 [0,1,2,56,57])]) (.bP h1 o (db (show ae.mk 4 [(d6 dm 0 1 0 b7.length 0 2 0 ct.length 0 3 0 cu.length)] .live=gT (b2 [0]) (ae.mk 4 [(d6 dm 0 1 0 b7.length 0 2 0 ct.length 0 3 0 cu.length)] .live) from rfl) (db (ll (b2 [0]) 0 0 4 3 rfl b7) (db (fO (b2 [0]) 1 kQ ct) (db (fO (b2 [0]) 3 fr cu) (dY (b2 [0]) 3 fr dz))))))))))
  (fun h1 =>
  .ret (bg [(J 1),.aa false,.aN [0] [.bM (ae.mk 4 [(d6 dm 0 1 0 b7.length 0 2 0 ct.length 0 3 0 cu.length)] .live::ae.mk 1 (b7.map (br 0 4 3)) .live::ae.mk 1 (ct.map eI) .live::ae.mk 3 (cu.map aS) .live::(cf 3 aS dz))] (a8 [0,1,2])] (.aD h1 (db (show ae.mk 4 [(d6 dm 0 1 0 b7.length 0 2 0 ct.length 0 3 0 cu.length)] .live=gT (b2 [0]) (ae.mk 4 [(d6 dm 0 1 0 b7.length 0 2 0 ct.length 0 3 0 cu.length)] .live) from rfl) (db (ll (b2 [0]) 0 0 4 3 rfl b7) (db (fO (b2 [0]) 1 kQ ct) (db (fO (b2 [0]) 3 fr cu) (dY (b2 [0]) 3 fr dz))))))))
theorem Xe {b4 aQ o0 dm:Int}{b7:List bF}{ct:List Int}{cu:List aR}{nS:Int}{dz:List (List aR)}{r} (h:JG b4 aQ o0 dm b7 ct cu nS dz=some r):dP a4 100 1 72 [1,1,0,1,0,0] (HD b4 aQ o0 dm b7 ct cu) (HR b4 aQ o0 dm b7 ct cu) (nS,dz) r:=dQ (fun _=>VI) h
def Al (b4 aQ j6:Int)(hl:List bF)(iC:List Int)(ib:List aR)(pf:List (List aR)):Option ((List Int)×(List aR)×(List (List aR))) :=
 if 0≤b4∧b4<(hl.length:Nat) then
 hl[(0+b4.toNat)]? >>= fun ef =>
 ef >>= fun jU =>
 pf[jU.1]? >>= fun nk =>
 if 0≤aQ∧aQ<(jU.2:Nat) then
 nk[(0+aQ.toNat)]? >>= fun dj =>
 JF b4 aQ ((jU.2:Nat):Int) j6 hl iC ib dj.fB.c0 dj.fB.cN dj.hP 0 pf >>= fun dp =>
 JG b4 aQ ((hl.length:Nat):Int) j6 hl iC ib 0 dp >>= fun eM =>
 eM[jU.1]? >>= fun kr =>
 if 3≠(jU.1+4) then
 Af aQ 0 jU.2 ib kr >>= fun fl =>
 if ib.length=fl.length then
 if 0≤b4∧b4<(iC.length:Nat) then
 if (0+b4.toNat)<iC.length then
 some (iC.set (0+b4.toNat) aQ,fl,eM.set jU.1 kr)
 else none
 else none
 else none
 else none
 else none
 else none
theorem X0 {b4 aQ j6:Int}{hl:List bF}{iC:List Int}{ib:List aR}{pf:List (List aR)}:bD (Al b4 aQ j6 hl iC ib pf) (fun a=>Con a4 72 [.ref 0 0 0 0,.n .i64 b4,.n .i64 aQ] [(ae.mk 4 [(d6 j6 0 1 0 hl.length 0 2 0 iC.length 0 3 0 ib.length)] .live::ae.mk 1 (hl.map (br 0 4 3)) .live::ae.mk 1 (iC.map eI) .live::ae.mk 3 (ib.map aS) .live::(cf 3 aS pf))] (.ee []) [(ae.mk 4 [(d6 j6 0 1 0 hl.length 0 2 0 a.1.length 0 3 0 a.2.1.length)] .live::ae.mk 1 (hl.map (br 0 4 3)) .live::ae.mk 1 (a.1.map eI) .live::ae.mk 3 (a.2.1.map aS) .live::(cf 3 aS a.2.2))]):=by
 unfold Al
 exact .aY fun h1 =>
  .ar fun ef af =>
  .ar fun jU aA =>
  .ar fun nk bf =>
  .aY fun bl =>
  .ar fun dj cQ =>
  .ar fun dp eK =>
  .ar fun eM eL =>
  .ar fun kr hd =>
  .aY fun hQ =>
  .ar fun fl gy =>
  .aY fun fu =>
  .aY fun gM =>
  .aY fun ig =>
  .ret (let q1:=d6 j6 0 1 0 hl.length 0 2 0 iC.length 0 3 0 ib.length;let a7:=ke (gu .live 3 aS pf) jv bf;let bZ:=b2 [0];let cC:=b1 (br 0 4 3) af;let dr:=b2 [0,11];let f8:=ll bZ 0 0 4 3 rfl hl;kq [.aw (ai 6 (aj (.b5 ((br 0 4 3) ef)) (ai 1 (aj (.kw 15 (.bh 0 (jU.1+4) 0 jU.2) (.gv (ae.mk 3 (nk.map aS) .live) [])) (aj (.gv (ae.mk 3 (nk.map aS) .live) (aS dj)) (ai 2 [])))))),.aw (ai 6 (aj (.b5 ((br 0 4 3) ef)) (aj (.kw 25 (.bh 0 (jU.1+4) 0 jU.2) (.gv (ae.mk 3 (nk.map aS) .live) [])) (ai 1 [])))),.aN [0,11] [.bM (ae.mk 4 [q1] .live::ae.mk 1 (hl.map (br 0 4 3)) .live::ae.mk 1 (iC.map eI) .live::ae.mk 3 (ib.map aS) .live::(cf 3 aS pf)),.box [.id,.id,.id]] (a8 [0,1,2,6,26,27]),(HQ b4 aQ ((jU.2:Nat):Int) j6 hl iC ib dj.fB.c0 dj.fB.cN dj.hP dp).e8,(J 6),.aN [0] [.bM (ae.mk 4 [q1] .live::ae.mk 1 (hl.map (br 0 4 3)) .live::ae.mk 1 (iC.map eI) .live::ae.mk 3 (ib.map aS) .live::(cf 3 aS dp))] (a8 [0,1,2,56,57]),(HR b4 aQ ((hl.length:Nat):Int) j6 hl iC ib eM).e8,.aw (ai 10 (aj (.b5 ((br 0 4 3) ef)) (ai 1 (aj (.kw 90 (.bh 0 (jU.1+4) 0 jU.2) (.call {a2:=[.an 0 3 (ae.mk 3 (ib.map aS) .live),.an 0 (jU.1+4) (ae.mk 3 (kr.map aS) .live)],dc:=[.pure,.pure],ac:=[.bp (.cJ (.at_ 0 0 ib.length)),.bp (.cJ (.at_ 1 0 jU.2)),ii],r:= .ee [],eV:=[(au 3 aS fl),(au 3 aS kr)],gr:=ii,hC:=[.pure,.pure],eC:=[0],ej:=false})) [])))),.aw (ai 7 (aj .fZ []))] [0] [.bM (ae.mk 4 [(d6 j6 0 1 0 hl.length 0 2 0 ((iC.set (0+b4.toNat) aQ).length) 0 3 0 fl.length)] .live::ae.mk 1 (hl.map (br 0 4 3)) .live::ae.mk 1 ((iC.set (0+b4.toNat) aQ).map eI) .live::ae.mk 3 (fl.map aS) .live::(cf 3 aS (eM.set jU.1 kr)))] (.bi h1.1 h1.2 cC (mi (ea:=0) (c:=4) (sz:=3) aA) a7 bl.1 bl.2 a7 (.bi (b1 aS cQ) h1.1 h1.2 cC (mi (ea:=0) (c:=4) (sz:=3) aA) a7 (db (show ae.mk 4 [(d6 j6 0 1 0 hl.length 0 2 0 iC.length 0 3 0 ib.length)] .live=gT (b2 [0,11]) (ae.mk 4 [(d6 j6 0 1 0 hl.length 0 2 0 iC.length 0 3 0 ib.length)] .live) from rfl) (db (ll dr 0 0 4 3 rfl hl) (db (fO dr 1 kQ iC) (db (fO dr 3 fr ib) (dY dr 3 fr pf))))) (Xd eK) (.bi (db (show ae.mk 4 [(d6 j6 0 1 0 hl.length 0 2 0 iC.length 0 3 0 ib.length)] .live=gT (b2 [0]) (ae.mk 4 [(d6 j6 0 1 0 hl.length 0 2 0 iC.length 0 3 0 ib.length)] .live) from rfl) (db f8 (db (fO bZ 1 kQ iC) (db (fO bZ 3 fr ib) (dY bZ 3 fr dp))))) (Xe eL) h1.1 h1.2 cC (mi (ea:=0) (c:=4) (sz:=3) aA) hQ (rfl:kG [.an 0 3 (ae.mk 3 (ib.map aS) .live),.an 0 (jU.1+4) (ae.mk 3 (kr.map aS) .live)] 0 0=some (0,3)) (.bi (rfl:ib.length=ib.length) (rfl:kG [.an 0 3 (ae.mk 3 (ib.map aS) .live),.an 0 (jU.1+4) (ae.mk 3 (kr.map aS) .live)] 1 0=some (0,(jU.1+4))) (rfl:jU.2=jU.2) (rfl:dx (some (ae.mk 4 [q1] .live::ae.mk 1 (hl.map (br 0 4 3)) .live::ae.mk 1 (iC.map eI) .live::ae.mk 3 (ib.map aS) .live::(cf 3 aS eM))) 3=some (ae.mk 3 (ib.map aS) .live)) (f9 3 e2 ib) (ke (gu .live 3 aS eM) jv hd) (f9 3 e2 kr) (f9 3 e2 fl) (.eP (f9 3 e2 kr) (XG fl gy) gM.1 gM.2 (hT eI ig) (hM 1) (db (show ae.mk 4 [(d6 j6 0 1 0 hl.length 0 2 0 ((iC.set (0+b4.toNat) aQ).length) 0 3 0 fl.length)] .live=gT (b2 [0]) (ae.mk 4 [(d6 j6 0 1 0 hl.length 0 2 0 iC.length 0 3 0 ib.length)] .live) from (Eq.trans (congrArg (fun Dk=>ae.mk 4 [(d6 j6 0 1 0 hl.length 0 2 0 Dk 0 3 0 fl.length)] .live) (hi (dX iC) (0+b4.toNat) aQ).symm) (congrArg (fun Dk=>ae.mk 4 [(d6 j6 0 1 0 hl.length 0 2 0 iC.length 0 3 0 Dk)] .live) (Eq.trans (dX ib) fu).symm))) (db f8 (db (sb (cd:=bZ) 1 .live eI (gP (cZ eI iC) (0+b4.toNat) aQ) (mE kQ)) (db (fO bZ 3 fr fl) (nv (cd:=bZ) (ps (gu .live 3 aS eM) jU.1 (cZ aS kr)) (mE fr))))))))))))
def H9 (fk:Bool)(dm:Int)(b7:List bF)(ct:List Int)(cu:List aR)(dz:List (List aR)):(Int×Int)→S:=fun (oO,bX)=>dv [(0,.ref 0 0 0 0),(1,.b fk),(5,.n .i64 oO),(6,.n .i64 bX)] [(ae.mk 4 [(d6 dm 0 1 0 b7.length 0 2 0 ct.length 0 3 0 cu.length)] .live::ae.mk 1 (b7.map (br 0 4 3)) .live::ae.mk 1 (ct.map eI) .live::ae.mk 3 (cu.map aS) .live::(cf 3 aS dz))]
def Iy (fk:Bool)(dm:Int)(b7:List bF)(ct:List Int)(cu:List aR)(dz:List (List aR)):Int→dy
 | a=>⟨some 2,[(0,.ref 0 0 0 0),(1,.b fk),(5,.n .i64 a)],[(ae.mk 4 [(d6 dm 0 1 0 b7.length 0 2 0 ct.length 0 3 0 cu.length)] .live::ae.mk 1 (b7.map (br 0 4 3)) .live::ae.mk 1 (ct.map eI) .live::ae.mk 3 (cu.map aS) .live::(cf 3 aS dz))]⟩
def uD (fk:Bool)(dm:Int)(b7:List bF)(ct:List Int)(cu:List aR)(dz:List (List aR))(oO bX:Int):Option ((Int×Int)⊕(Int)) :=
 if (decide (bX<dm))=true then
  if (decide (oO<(0:Int)))=true then
   if b7.all (rq dz)=true then
   AD (⟨dm,b7.map (iP dz),ct,cu⟩:pL) bX >>= fun a6 =>
   if a6=true then
    some (.inl (oO,R (bX+(1:Int))))
   else
    uX (⟨dm,b7.map (iP dz),ct,cu⟩:pL) bX fk >>= fun bO =>
    if (decide ((0:Int)<bO))=true then
     some (.inl (bX,R (bX+(1:Int))))
    else
     some (.inl (oO,R (bX+(1:Int))))
   else none
  else
   some (.inr oO)
 else
  some (.inr oO)
def D1 (fk:Bool)(dm:Int)(b7:List bF)(ct:List Int)(cu:List aR)(dz:List (List aR))(oO bX:Int):Option (Int):=iter (fun w:Int×Int=>uD fk dm b7 ct cu dz w.1 w.2) (oO,bX)
theorem V9 {fk:Bool}{dm:Int}{b7:List bF}{ct:List Int}{cu:List aR}{dz:List (List aR)}{oO bX:Int}:bD (uD fk dm b7 ct cu dz oO bX) (dO a4 43 1 49 [1,0,0,0,1,0,1,0,0] (H9 fk dm b7 ct cu dz (oO,bX)) (H9 fk dm b7 ct cu dz) (Iy fk dm b7 ct cu dz)):=by
 unfold uD
 exact .ite (fun h1 =>
  .ite (fun o =>
  .aY fun af =>
  .ar fun a6 aA =>
  (let bZ:=d6 dm 0 1 0 b7.length 0 2 0 ct.length 0 3 0 cu.length;let t1:List b0:=[.aw (ai 9 (aj (.aa true) [])),.aa true];
  have aV:=((.bi h1 h1 h1 o (rfl:dx (some (ae.mk 4 [bZ] .live::ae.mk 1 (b7.map (br 0 4 3)) .live::ae.mk 1 (ct.map eI) .live::ae.mk 3 (cu.map aS) .live::(cf 3 aS dz))) 1=some (ae.mk 1 (b7.map (br 0 4 3)) .live)) (rfl:_=true) (ff (br 0 4 3) b7) (dk (nt (sz:=3) e2) (b7.map (iP dz))) (.bi (vw (ea:=0) (jF:=[ae.mk 4 [bZ] .live,ae.mk 1 (b7.map (br 0 4 3)) .live,ae.mk 1 (ct.map eI) .live,ae.mk 3 (cu.map aS) .live]++(cf 3 aS dz)) (b8:=kO) (sz:=1) (g:=(eD 3 aS)) (cZ (br 0 4 3) b7) (fun _=>rfl) (fun x U=>(zy (ea:=0) (c:=4) (b8:=kO) (ra:=[ae.mk 4 [bZ] .live,ae.mk 1 (b7.map (br 0 4 3)) .live,ae.mk 1 (ct.map eI) .live,ae.mk 3 (cu.map aS) .live]) (gu .live 3 aS dz) e2 rfl jv rfl (y0 af x U))) (dX b7)) (fw eI ct) (ff eI ct) (dk aO ct) (fw aS cu) (ff aS cu) (dk e2 cu) (oj (Kw (⟨dm,b7.map (iP dz),ct,cu⟩:pL)):iY [[.n .i64 dm,.isl 1 ((b7.map (iP dz)).map (eD 3 aS)),.isl 1 (ct.map eI),.isl 3 (cu.map aS)]]) (.aD (YF a6 aA) (bR.b a6)))):cA _);
  .ite (fun aX =>
  .ret (bg (t1.append [.aw (ai 2 (aj (.call {ac:=[.bp (.ptr [.id,.view 0 (ae.mk 1 (b7.map (br 0 4 3)) .live) ((b7.map (iP dz)).map (eD 3 aS)),.dL (ct.map eI),.dL (cu.map aS)]),ii],r:= .b a6,ej:=true,eC:=[0]}) (ai 2 (cx 5 (aj (.aa false) []))))),.aa false,(J 3),.aN [0] [.bM (ae.mk 4 [(d6 dm 0 1 0 b7.length 0 2 0 ct.length 0 3 0 cu.length)] .live::ae.mk 1 (b7.map (br 0 4 3)) .live::ae.mk 1 (ct.map eI) .live::ae.mk 3 (cu.map aS) .live::(cf 3 aS dz))] (a8 [0,1,5,6])]) (aV.aI (.gz (cO aX) (cO aX) (cO aX) (cO aX) (cO aX) (cO aX) cK (db (show ae.mk 4 [(d6 dm 0 1 0 b7.length 0 2 0 ct.length 0 3 0 cu.length)] .live=gT (b2 [0]) (ae.mk 4 [(d6 dm 0 1 0 b7.length 0 2 0 ct.length 0 3 0 cu.length)] .live) from rfl) (db (ll (b2 [0]) 0 0 4 3 rfl b7) (db (fO (b2 [0]) 1 kQ ct) (db (fO (b2 [0]) 3 fr cu) (dY (b2 [0]) 3 fr dz)))))))))
  (fun aX =>
  .ar fun bO bl =>
  (let q1:=d6 dm 0 1 0 b7.length 0 2 0 ct.length 0 3 0 cu.length;let a7:=eD 3 aS;let t3:List b0:=t1.append [.aw (ai 2 (aj (.call {ac:=[.bp (.ptr [.id,.view 0 (ae.mk 1 (b7.map (br 0 4 3)) .live) ((b7.map (iP dz)).map a7),.dL (ct.map eI),.dL (cu.map aS)]),ii],r:= .b a6,ej:=true,eC:=[0]}) (ai 5 (aj (.call {ac:=[.bp (.ptr [.id,.view 0 (ae.mk 1 (b7.map (br 0 4 3)) .live) ((b7.map (iP dz)).map a7),.dL (ct.map eI),.dL (cu.map aS)]),ii,ii],r:= .n .i64 bO,ej:=true,eC:=[0]}) (ai 1 (aj (.aa true) []))))))];
  have eA:=aV.aI (.bi (cM aX) (cM aX) (cM aX) (cM aX) (rfl:dx (some (ae.mk 4 [q1] .live::ae.mk 1 (b7.map (br 0 4 3)) .live::ae.mk 1 (ct.map eI) .live::ae.mk 3 (cu.map aS) .live::(cf 3 aS dz))) 1=some (ae.mk 1 (b7.map (br 0 4 3)) .live)) (rfl:_=true) (ff (br 0 4 3) b7) (dk (nt (sz:=3) e2) (b7.map (iP dz))) (.bi (vw (ea:=0) (jF:=[ae.mk 4 [q1] .live,ae.mk 1 (b7.map (br 0 4 3)) .live,ae.mk 1 (ct.map eI) .live,ae.mk 3 (cu.map aS) .live]++(cf 3 aS dz)) (b8:=kO) (sz:=1) (g:=a7) (cZ (br 0 4 3) b7) (fun _=>rfl) (fun x U=>(zy (ea:=0) (c:=4) (b8:=kO) (ra:=[ae.mk 4 [q1] .live,ae.mk 1 (b7.map (br 0 4 3)) .live,ae.mk 1 (ct.map eI) .live,ae.mk 3 (cu.map aS) .live]) (gu .live 3 aS dz) e2 rfl jv rfl (y0 af x U))) (dX b7)) (fw eI ct) (ff eI ct) (dk aO ct) (fw aS cu) (ff aS cu) (dk e2 cu) (oj (Kw (⟨dm,b7.map (iP dz),ct,cu⟩:pL)):iY [[.n .i64 dm,.isl 1 ((b7.map (iP dz)).map a7),.isl 1 (ct.map eI),.isl 3 (cu.map aS)]]) (.c4 (Y3 bO bl) (bR.n .i64 bO) (cM aX) (cM aX))));
  .ite (fun cB =>
  .ret (bg (t3.append [.aa true,(J 2),(J 3),.aN [0] [.bM (ae.mk 4 [(d6 dm 0 1 0 b7.length 0 2 0 ct.length 0 3 0 cu.length)] .live::ae.mk 1 (b7.map (br 0 4 3)) .live::ae.mk 1 (ct.map eI) .live::ae.mk 3 (cu.map aS) .live::(cf 3 aS dz))] (a8 [0,1,5,6])]) (eA.aI (.aD cB (db (show ae.mk 4 [(d6 dm 0 1 0 b7.length 0 2 0 ct.length 0 3 0 cu.length)] .live=gT (b2 [0]) (ae.mk 4 [(d6 dm 0 1 0 b7.length 0 2 0 ct.length 0 3 0 cu.length)] .live) from rfl) (db (ll (b2 [0]) 0 0 4 3 rfl b7) (db (fO (b2 [0]) 1 kQ ct) (db (fO (b2 [0]) 3 fr cu) (dY (b2 [0]) 3 fr dz)))))))))
  (fun cB =>
  .ret (bg (t3.append [.aa false,(J 3),.aN [0] [.bM (ae.mk 4 [(d6 dm 0 1 0 b7.length 0 2 0 ct.length 0 3 0 cu.length)] .live::ae.mk 1 (b7.map (br 0 4 3)) .live::ae.mk 1 (ct.map eI) .live::ae.mk 3 (cu.map aS) .live::(cf 3 aS dz))] (a8 [0,1,5,6])]) (eA.aI (.aD cB (db (show ae.mk 4 [(d6 dm 0 1 0 b7.length 0 2 0 ct.length 0 3 0 cu.length)] .live=gT (b2 [0]) (ae.mk 4 [(d6 dm 0 1 0 b7.length 0 2 0 ct.length 0 3 0 cu.length)] .live) from rfl) (db (ll (b2 [0]) 0 0 4 3 rfl b7) (db (fO (b2 [0]) 1 kQ ct) (db (fO (b2 [0]) 3 fr cu) (dY (b2 [0]) 3 fr dz)))))))))))))
  (fun o =>
  .ret (bg [.aw (ai 9 (aj (.aa true) [])),.aa false,.aN [0] [.bM (ae.mk 4 [(d6 dm 0 1 0 b7.length 0 2 0 ct.length 0 3 0 cu.length)] .live::ae.mk 1 (b7.map (br 0 4 3)) .live::ae.mk 1 (ct.map eI) .live::ae.mk 3 (cu.map aS) .live::(cf 3 aS dz))] (a8 [0,1,5])] (.dh h1 h1 h1 o (db (show ae.mk 4 [(d6 dm 0 1 0 b7.length 0 2 0 ct.length 0 3 0 cu.length)] .live=gT (b2 [0]) (ae.mk 4 [(d6 dm 0 1 0 b7.length 0 2 0 ct.length 0 3 0 cu.length)] .live) from rfl) (db (ll (b2 [0]) 0 0 4 3 rfl b7) (db (fO (b2 [0]) 1 kQ ct) (db (fO (b2 [0]) 3 fr cu) (dY (b2 [0]) 3 fr dz)))))))))
  (fun h1 =>
  .ret (bg [.aw (ai 7 (cx 2 (aj (.aa false) []))),.aa false,.aN [0] [.bM (ae.mk 4 [(d6 dm 0 1 0 b7.length 0 2 0 ct.length 0 3 0 cu.length)] .live::ae.mk 1 (b7.map (br 0 4 3)) .live::ae.mk 1 (ct.map eI) .live::ae.mk 3 (cu.map aS) .live::(cf 3 aS dz))] (a8 [0,1,5])] (.dh h1 h1 h1 cK (db (show ae.mk 4 [(d6 dm 0 1 0 b7.length 0 2 0 ct.length 0 3 0 cu.length)] .live=gT (b2 [0]) (ae.mk 4 [(d6 dm 0 1 0 b7.length 0 2 0 ct.length 0 3 0 cu.length)] .live) from rfl) (db (ll (b2 [0]) 0 0 4 3 rfl b7) (db (fO (b2 [0]) 1 kQ ct) (db (fO (b2 [0]) 3 fr cu) (dY (b2 [0]) 3 fr dz))))))))
theorem XH {fk:Bool}{dm:Int}{b7:List bF}{ct:List Int}{cu:List aR}{dz:List (List aR)}{oO bX:Int}{r} (h:D1 fk dm b7 ct cu dz oO bX=some r):dP a4 43 1 49 [1,0,0,0,1,0,1,0,0] (H9 fk dm b7 ct cu dz) (Iy fk dm b7 ct cu dz) (oO,bX) r:=dQ (fun _=>V9) h
def Ia (fk:Bool)(dm:Int)(b7:List bF):((List Int)×(List aR)×(List (List aR)))→S:=fun (ct,cu,dz)=>dv [(0,.ref 0 0 0 0),(1,.b fk)] [(ae.mk 4 [(d6 dm 0 1 0 b7.length 0 2 0 ct.length 0 3 0 cu.length)] .live::ae.mk 1 (b7.map (br 0 4 3)) .live::ae.mk 1 (ct.map eI) .live::ae.mk 3 (cu.map aS) .live::(cf 3 aS dz))]
def Iz (fk:Bool)(dm:Int)(b7:List bF):(Bool×(List Int)×(List aR)×(List (List aR)))→dy
 | a=>⟨none,[(4,.b a.1)],[(ae.mk 4 [(d6 dm 0 1 0 b7.length 0 2 0 a.2.1.length 0 3 0 a.2.2.1.length)] .live::ae.mk 1 (b7.map (br 0 4 3)) .live::ae.mk 1 (a.2.1.map eI) .live::ae.mk 3 (a.2.2.1.map aS) .live::(cf 3 aS a.2.2.2))]⟩
def z2 (fk:Bool)(dm:Int)(b7:List bF)(ct:List Int)(cu:List aR)(dz:List (List aR)):Option (((List Int)×(List aR)×(List (List aR)))⊕(Bool×(List Int)×(List aR)×(List (List aR)))) :=
 D1 fk dm b7 ct cu dz (-1) 0 >>= fun r1 =>
 if (decide (r1<(0:Int)))=true then
  some (.inr (true,ct,cu,dz))
 else
  if b7.all (rq dz)=true then
  AF (⟨dm,b7.map (iP dz),ct,cu⟩:pL) r1 >>= fun ax =>
  if (decide (ax<(0:Int)))=true then
   some (.inr (false,ct,cu,dz))
  else
   Al ax r1 dm b7 ct cu dz >>= fun de =>
   some (.inl (de.1,de.2.1,de.2.2))
  else none
def Kc (fk:Bool)(dm:Int)(b7:List bF)(ct:List Int)(cu:List aR)(dz:List (List aR)):Option (Bool×(List Int)×(List aR)×(List (List aR))):=iter (fun w:(List Int)×(List aR)×(List (List aR))=>z2 fk dm b7 w.1 w.2.1 w.2.2) (ct,cu,dz)
theorem Wa {fk:Bool}{dm:Int}{b7:List bF}{ct:List Int}{cu:List aR}{dz:List (List aR)}:bD (z2 fk dm b7 ct cu dz) (dO a4 43 1 49 [1,0,0] (Ia fk dm b7 (ct,cu,dz)) (Ia fk dm b7) (Iz fk dm b7)):=by
 unfold z2
 exact .ar fun r1 o =>
  (let t1:List b0:=[(J 1),(J 1),.aN [0] [.bM (ae.mk 4 [(d6 dm 0 1 0 b7.length 0 2 0 ct.length 0 3 0 cu.length)] .live::ae.mk 1 (b7.map (br 0 4 3)) .live::ae.mk 1 (ct.map eI) .live::ae.mk 3 (cu.map aS) .live::(cf 3 aS dz))] (a8 [0,1,5,6]),(Iy fk dm b7 ct cu dz r1).e8,(J 2)];
  have aV:=((.aD (db (show ae.mk 4 [(d6 dm 0 1 0 b7.length 0 2 0 ct.length 0 3 0 cu.length)] .live=gT (b2 [0]) (ae.mk 4 [(d6 dm 0 1 0 b7.length 0 2 0 ct.length 0 3 0 cu.length)] .live) from rfl) (db (ll (b2 [0]) 0 0 4 3 rfl b7) (db (fO (b2 [0]) 1 kQ ct) (db (fO (b2 [0]) 3 fr cu) (dY (b2 [0]) 3 fr dz))))) (XH o)):cA _);
  .ite (fun af =>
  .ret (bg (t1.append [.aa true,(J 1),.aN [0] [.bM (ae.mk 4 [(d6 dm 0 1 0 b7.length 0 2 0 ct.length 0 3 0 cu.length)] .live::ae.mk 1 (b7.map (br 0 4 3)) .live::ae.mk 1 (ct.map eI) .live::ae.mk 3 (cu.map aS) .live::(cf 3 aS dz))] (a8 [4])]) (aV.aI (.aD af (db (show ae.mk 4 [(d6 dm 0 1 0 b7.length 0 2 0 ct.length 0 3 0 cu.length)] .live=gT (b2 [0]) (ae.mk 4 [(d6 dm 0 1 0 b7.length 0 2 0 ct.length 0 3 0 cu.length)] .live) from rfl) (db (ll (b2 [0]) 0 0 4 3 rfl b7) (db (fO (b2 [0]) 1 kQ ct) (db (fO (b2 [0]) 3 fr cu) (dY (b2 [0]) 3 fr dz)))))))))
  (fun af =>
  .aY fun av =>
  .ar fun ax aX =>
  (let cC:=d6 dm 0 1 0 b7.length 0 2 0 ct.length 0 3 0 cu.length;let t3:List b0:=t1.append [.aa false,.aw (bq 2 (.call {ac:=[.bp (.ptr [.id,.view 0 (ae.mk 1 (b7.map (br 0 4 3)) .live) ((b7.map (iP dz)).map (eD 3 aS)),.dL (ct.map eI),.dL (cu.map aS)]),ii],r:= .n .i64 ax,ej:=true,eC:=[0]}) 1),(J 2)];
  have eA:=aV.aI (.bi af (rfl:dx (some (ae.mk 4 [cC] .live::ae.mk 1 (b7.map (br 0 4 3)) .live::ae.mk 1 (ct.map eI) .live::ae.mk 3 (cu.map aS) .live::(cf 3 aS dz))) 1=some (ae.mk 1 (b7.map (br 0 4 3)) .live)) (rfl:_=true) (ff (br 0 4 3) b7) (dk (nt (sz:=3) e2) (b7.map (iP dz))) (vw (ea:=0) (jF:=[ae.mk 4 [cC] .live,ae.mk 1 (b7.map (br 0 4 3)) .live,ae.mk 1 (ct.map eI) .live,ae.mk 3 (cu.map aS) .live]++(cf 3 aS dz)) (b8:=kO) (sz:=1) (g:=(eD 3 aS)) (cZ (br 0 4 3) b7) (fun _=>rfl) (fun x U=>(zy (ea:=0) (c:=4) (b8:=kO) (ra:=[ae.mk 4 [cC] .live,ae.mk 1 (b7.map (br 0 4 3)) .live,ae.mk 1 (ct.map eI) .live,ae.mk 3 (cu.map aS) .live]) (gu .live 3 aS dz) e2 rfl jv rfl (y0 av x U))) (dX b7)) (fw eI ct) (ff eI ct) (.eP (dk aO ct) (fw aS cu) (ff aS cu) (dk e2 cu) (oj (Kw (⟨dm,b7.map (iP dz),ct,cu⟩:pL)):iY [[.n .i64 dm,.isl 1 ((b7.map (iP dz)).map (eD 3 aS)),.isl 1 (ct.map eI),.isl 3 (cu.map aS)]]) (YH ax aX) (bR.n .i64 ax)));
  .ite (fun bf =>
  .ret (bg (t3.append [.aa true,(J 1),.aN [0] [.bM (ae.mk 4 [(d6 dm 0 1 0 b7.length 0 2 0 ct.length 0 3 0 cu.length)] .live::ae.mk 1 (b7.map (br 0 4 3)) .live::ae.mk 1 (ct.map eI) .live::ae.mk 3 (cu.map aS) .live::(cf 3 aS dz))] (a8 [4])]) (eA.aI (.aD bf (db (show ae.mk 4 [(d6 dm 0 1 0 b7.length 0 2 0 ct.length 0 3 0 cu.length)] .live=gT (b2 [0]) (ae.mk 4 [(d6 dm 0 1 0 b7.length 0 2 0 ct.length 0 3 0 cu.length)] .live) from rfl) (db (ll (b2 [0]) 0 0 4 3 rfl b7) (db (fO (b2 [0]) 1 kQ ct) (db (fO (b2 [0]) 3 fr cu) (dY (b2 [0]) 3 fr dz)))))))))
  (fun bf =>
  .ar fun de cB =>
  .ret (let q1:=d6 dm 0 1 0 b7.length 0 2 0 de.1.length 0 3 0 de.2.1.length;let a7:=cf 3 aS de.2.2;let bZ:=d6 dm 0 1 0 b7.length 0 2 0 ct.length 0 3 0 cu.length;bg (t3.append [.aa false,.aw (ai 3 (aj (.call {a2:=[.row 0],dc:=[.bM (ae.mk 4 [bZ] .live::ae.mk 1 (b7.map (br 0 4 3)) .live::ae.mk 1 (ct.map eI) .live::ae.mk 3 (cu.map aS) .live::(cf 3 aS dz))],ac:=[ii,ii,ii],r:= .ee [],eV:=[(ae.mk 4 [q1] .live::ae.mk 1 (b7.map (br 0 4 3)) .live::ae.mk 1 (de.1.map eI) .live::ae.mk 3 (de.2.1.map aS) .live::a7)],gr:=ii,hC:=[.bM (ae.mk 4 [q1] .live::ae.mk 1 (b7.map (br 0 4 3)) .live::ae.mk 1 (de.1.map eI) .live::ae.mk 3 (de.2.1.map aS) .live::a7)],eC:=[0],ej:=false}) [])),.aN [0] [.bM (ae.mk 4 [q1] .live::ae.mk 1 (b7.map (br 0 4 3)) .live::ae.mk 1 (de.1.map eI) .live::ae.mk 3 (de.2.1.map aS) .live::a7)] (a8 [0,1])]) (eA.aI (.eP bf (db (show ae.mk 4 [(d6 dm 0 1 0 b7.length 0 2 0 ct.length 0 3 0 cu.length)] .live=gT (pF [0]) (ae.mk 4 [(d6 dm 0 1 0 b7.length 0 2 0 ct.length 0 3 0 cu.length)] .live) from rfl) (db (ll (pF [0]) 0 0 4 3 rfl b7) (db (fO (pF [0]) 1 kQ ct) (db (fO (pF [0]) 3 fr cu) (dY (pF [0]) 3 fr dz))))) ((iW rfl (iW rfl (iW rfl (iW rfl (vf (gu .live 3 aS dz)))))):lM (ae.mk 4 [bZ] .live::ae.mk 1 (b7.map (br 0 4 3)) .live::ae.mk 1 (ct.map eI) .live::ae.mk 3 (cu.map aS) .live::(cf 3 aS dz))) (db (show ae.mk 4 [(d6 dm 0 1 0 b7.length 0 2 0 de.1.length 0 3 0 de.2.1.length)] .live=gT (ij [0]) (ae.mk 4 [(d6 dm 0 1 0 b7.length 0 2 0 de.1.length 0 3 0 de.2.1.length)] .live) from rfl) (db (ll (ij [0]) 0 0 4 3 rfl b7) (db (fO (ij [0]) 1 kQ de.1) (db (fO (ij [0]) 3 fr de.2.1) (dY (ij [0]) 3 fr de.2.2))))) ((iW rfl (iW rfl (iW rfl (iW rfl (vf (gu .live 3 aS de.2.2)))))):lM (ae.mk 4 [q1] .live::ae.mk 1 (b7.map (br 0 4 3)) .live::ae.mk 1 (de.1.map eI) .live::ae.mk 3 (de.2.1.map aS) .live::a7)) (X0 de cB) (db (show ae.mk 4 [(d6 dm 0 1 0 b7.length 0 2 0 de.1.length 0 3 0 de.2.1.length)] .live=gT (b2 [0]) (ae.mk 4 [(d6 dm 0 1 0 b7.length 0 2 0 de.1.length 0 3 0 de.2.1.length)] .live) from rfl) (db (ll (b2 [0]) 0 0 4 3 rfl b7) (db (fO (b2 [0]) 1 kQ de.1) (db (fO (b2 [0]) 3 fr de.2.1) (dY (b2 [0]) 3 fr de.2.2))))))))))))
theorem XI {fk:Bool}{dm:Int}{b7:List bF}{ct:List Int}{cu:List aR}{dz:List (List aR)}{r} (h:Kc fk dm b7 ct cu dz=some r):dP a4 43 1 49 [1,0,0] (Ia fk dm b7) (Iz fk dm b7) (ct,cu,dz) r:=dQ (fun _=>Wa) h
def yn (fk:Bool)(j6:Int)(hl:List bF)(iC:List Int)(ib:List aR)(pf:List (List aR)):Option (Bool×(List Int)×(List aR)×(List (List aR))) :=
 Kc fk j6 hl iC ib pf >>= fun r1 =>
 some (r1.1,r1.2.1,r1.2.2.1,r1.2.2.2)
theorem YI {fk:Bool}{j6:Int}{hl:List bF}{iC:List Int}{ib:List aR}{pf:List (List aR)}:bD (yn fk j6 hl iC ib pf) (fun a=>Con a4 49 [.ref 0 0 0 0,.b fk] [(ae.mk 4 [(d6 j6 0 1 0 hl.length 0 2 0 iC.length 0 3 0 ib.length)] .live::ae.mk 1 (hl.map (br 0 4 3)) .live::ae.mk 1 (iC.map eI) .live::ae.mk 3 (ib.map aS) .live::(cf 3 aS pf))] (.b a.1) [(ae.mk 4 [(d6 j6 0 1 0 hl.length 0 2 0 a.2.1.length 0 3 0 a.2.2.1.length)] .live::ae.mk 1 (hl.map (br 0 4 3)) .live::ae.mk 1 (a.2.1.map eI) .live::ae.mk 3 (a.2.2.1.map aS) .live::(cf 3 aS a.2.2.2))]):=by
 unfold yn
 exact .ar fun r1 o =>
  .ret (let q1:=b2 [0];let a7:=ll q1 0 0 4 3 rfl hl;kq [(J 1),.aN [0] [.bM (ae.mk 4 [(d6 j6 0 1 0 hl.length 0 2 0 iC.length 0 3 0 ib.length)] .live::ae.mk 1 (hl.map (br 0 4 3)) .live::ae.mk 1 (iC.map eI) .live::ae.mk 3 (ib.map aS) .live::(cf 3 aS pf))] (a8 [0,1]),(Iz fk j6 hl r1).e8] [0] [.bM (ae.mk 4 [(d6 j6 0 1 0 hl.length 0 2 0 r1.2.1.length 0 3 0 r1.2.2.1.length)] .live::ae.mk 1 (hl.map (br 0 4 3)) .live::ae.mk 1 (r1.2.1.map eI) .live::ae.mk 3 (r1.2.2.1.map aS) .live::(cf 3 aS r1.2.2.2))] (.bP (db (show ae.mk 4 [(d6 j6 0 1 0 hl.length 0 2 0 iC.length 0 3 0 ib.length)] .live=gT (b2 [0]) (ae.mk 4 [(d6 j6 0 1 0 hl.length 0 2 0 iC.length 0 3 0 ib.length)] .live) from rfl) (db a7 (db (fO q1 1 kQ iC) (db (fO q1 3 fr ib) (dY q1 3 fr pf))))) (XI o) (db (show ae.mk 4 [(d6 j6 0 1 0 hl.length 0 2 0 r1.2.1.length 0 3 0 r1.2.2.1.length)] .live=gT (b2 [0]) (ae.mk 4 [(d6 j6 0 1 0 hl.length 0 2 0 r1.2.1.length 0 3 0 r1.2.2.1.length)] .live) from rfl) (db a7 (db (fO q1 1 kQ r1.2.1) (db (fO q1 3 fr r1.2.2.1) (dY q1 3 fr r1.2.2.2)))))))
def uO (cg:hN):Option Bool :=
 Aq cg >>= fun r1 =>
 if r1=true then
  Aj cg >>= fun a6 =>
  yn false a6.1 a6.2.1 a6.2.2.1 a6.2.2.2.1 a6.2.2.2.2 >>= fun cn =>
  if 0≤a6.1∧a6.1<(cn.2.2.1.length:Nat) then
  cn.2.2.1[(0+a6.1.toNat)]? >>= fun dj =>
  qk dj >>= fun dp =>
  some (dp == (0:Int))
  else none
 else
  some false
theorem XJ {cg:hN}:bD (uO cg) (fun r=>Con a4 30 [.agg (oi cg)] [] (.b r) []):=by
 unfold uO
 exact .ar fun r1 o =>
  (let t1:List b0:=[(J 2),.aw (bq 1 (bu 1 (.b r1) true) 1)];
  have aV:=((.aD (Yh r1 o) (bR.b r1)):cA _);
  .ite (fun af =>
  .ar fun a6 aA =>
  .ar fun cn bf =>
  .aY fun bl =>
  .ar fun dj cQ =>
  .ar fun dp eK =>
  .ret (let q1:=d6 a6.1 0 1 0 a6.2.1.length 0 2 0 a6.2.2.1.length 0 3 0 a6.2.2.2.1.length;let a7:=cf 3 aS a6.2.2.2.2;let bZ:=d6 a6.1 6 1 0 a6.2.1.length 6 2 0 a6.2.2.1.length 6 3 0 a6.2.2.2.1.length;let cC:=d6 a6.1 0 1 0 a6.2.1.length 0 2 0 cn.2.1.length 0 3 0 cn.2.2.1.length;let dr:=cf 3 aS cn.2.2.2;let f8:=ll (ij [6]) 6 0 4 3 rfl a6.2.1;bA (t1.append [.aa false,.aw (bq 1 (.call {a2:=[],dc:=[],ac:=[ii],r:= .ref 0 0 0 0,eV:=[(ae.mk 4 [q1] .live::ae.mk 1 (a6.2.1.map (br 0 4 3)) .live::ae.mk 1 (a6.2.2.1.map eI) .live::ae.mk 3 (a6.2.2.2.1.map aS) .live::a7)],gr:=ii,hC:=[.bM (ae.mk 4 [bZ] .live::ae.mk 1 (a6.2.1.map (br 6 4 3)) .live::ae.mk 1 (a6.2.2.1.map eI) .live::ae.mk 3 (a6.2.2.2.1.map aS) .live::a7)],eC:=[],ej:=false}) 1),.aw (ai 1 (aj (.call {a2:=[.row 6],dc:=[.bM (ae.mk 4 [q1] .live::ae.mk 1 (a6.2.1.map (br 0 4 3)) .live::ae.mk 1 (a6.2.2.1.map eI) .live::ae.mk 3 (a6.2.2.2.1.map aS) .live::a7)],ac:=[ii,ii],r:= .b cn.1,eV:=[(ae.mk 4 [cC] .live::ae.mk 1 (a6.2.1.map (br 0 4 3)) .live::ae.mk 1 (cn.2.1.map eI) .live::ae.mk 3 (cn.2.2.1.map aS) .live::dr)],gr:=ii,hC:=[.bM (ae.mk 4 [(d6 a6.1 6 1 0 a6.2.1.length 6 2 0 cn.2.1.length 6 3 0 cn.2.2.1.length)] .live::ae.mk 1 (a6.2.1.map (br 6 4 3)) .live::ae.mk 1 (cn.2.1.map eI) .live::ae.mk 3 (cn.2.2.1.map aS) .live::dr)],eC:=[6],ej:=false}) [])),.aw (ai 9 (aj (.b5 (aS dj)) (aj (bu 1 (.n .i64 dp) true) (ai 2 []))))]) (aV.aI (.bi (cO af) (db (show ae.mk 4 [(d6 a6.1 6 1 0 a6.2.1.length 6 2 0 a6.2.2.1.length 6 3 0 a6.2.2.2.1.length)] .live=gT (ij [6]) (ae.mk 4 [(d6 a6.1 0 1 0 a6.2.1.length 0 2 0 a6.2.2.1.length 0 3 0 a6.2.2.2.1.length)] .live) from rfl) (db f8 (db (fO (ij [6]) 1 kQ a6.2.2.1) (db (fO (ij [6]) 3 fr a6.2.2.2.1) (dY (ij [6]) 3 fr a6.2.2.2.2))))) ((iW rfl (iW rfl (iW rfl (iW rfl (vf (gu .live 3 aS a6.2.2.2.2)))))):lM (ae.mk 4 [q1] .live::ae.mk 1 (a6.2.1.map (br 0 4 3)) .live::ae.mk 1 (a6.2.2.1.map eI) .live::ae.mk 3 (a6.2.2.2.1.map aS) .live::a7)) (XX a6 aA) (db (show ae.mk 4 [(d6 a6.1 0 1 0 a6.2.1.length 0 2 0 a6.2.2.1.length 0 3 0 a6.2.2.2.1.length)] .live=gT (pF [6]) (ae.mk 4 [(d6 a6.1 6 1 0 a6.2.1.length 6 2 0 a6.2.2.1.length 6 3 0 a6.2.2.2.1.length)] .live) from rfl) (db (ll (pF [6]) 0 6 4 3 rfl a6.2.1) (db (fO (pF [6]) 1 kQ a6.2.2.1) (db (fO (pF [6]) 3 fr a6.2.2.2.1) (dY (pF [6]) 3 fr a6.2.2.2.2))))) ((iW rfl (iW rfl (iW rfl (iW rfl (vf (gu .live 3 aS a6.2.2.2.2)))))):lM (ae.mk 4 [bZ] .live::ae.mk 1 (a6.2.1.map (br 6 4 3)) .live::ae.mk 1 (a6.2.2.1.map eI) .live::ae.mk 3 (a6.2.2.2.1.map aS) .live::a7)) (db (show ae.mk 4 [(d6 a6.1 6 1 0 a6.2.1.length 6 2 0 cn.2.1.length 6 3 0 cn.2.2.1.length)] .live=gT (ij [6]) (ae.mk 4 [(d6 a6.1 0 1 0 a6.2.1.length 0 2 0 cn.2.1.length 0 3 0 cn.2.2.1.length)] .live) from rfl) (db f8 (db (fO (ij [6]) 1 kQ cn.2.1) (db (fO (ij [6]) 3 fr cn.2.2.1) (dY (ij [6]) 3 fr cn.2.2.2))))) ((iW rfl (iW rfl (iW rfl (iW rfl (vf (gu .live 3 aS cn.2.2.2)))))):lM (ae.mk 4 [cC] .live::ae.mk 1 (a6.2.1.map (br 0 4 3)) .live::ae.mk 1 (cn.2.1.map eI) .live::ae.mk 3 (cn.2.2.1.map aS) .live::dr)) (.dW (YI cn bf) bl.1 bl.2 (b1 aS cQ) (tr dp eK) (bR.n .i64 dp))))))
  (fun af =>
  .ret (bA (t1.append [.aa true,(J 1)]) (aV.aI (.e1 (cM af))))))
def rJ (aH:cl)(cp:List Int):Option Bool :=
 rK aH cp >>= fun r1 =>
 if r1=true then
  uQ aH cp >>= fun a6 =>
  uO a6 >>= fun cn =>
  some cn
 else
  some false
theorem Pc {aH:cl}{cp:List Int}:bD (rJ aH cp) (fun r=>Con a4 16 [.agg (gf aH),.isl 1 (cp.map eI)] [] (.b r) []):=by
 unfold rJ
 exact .ar fun r1 o =>
  (have b9:=((.aD (Pq r1 o) (bR.b r1)):cA _);
  .ite (fun af =>
  .ar fun a6 aA =>
  .ar fun cn bf =>
  .ret (bA [(J 2),.aw (ai 2 (aj (bu 2 (.b r1) true) (ai 3 (aj (bu 2 (.agg (oi a6)) false) (aj (bu 1 (.b cn) true) (aj (.aa true) (ai 1 [])))))))] (b9.aI (.gz af af af (XV a6 aA) af (XJ cn bf) (bR.b cn) af))))
  (fun af =>
  .ret (bA [(J 2),.aw (ai 2 (aj (bu 2 (.b r1) true) (ai 1 (cx 4 (aj (.aa false) (ai 1 []))))))] (b9.aI (.dh af af af af af)))))
def Ib (cV:List Int)(cL:Int)(aL:List bo)(aM:List bC):Int→S:=fun dJ=>dv [(2,.ref 0 0 0 0),(7,.isl 1 (cV.map eI)),(8,.n .i64 cL),(9,.n .i64 dJ)] [[ae.mk 2 [[.isl 4 (aL.map bw),.isl 3 (aM.map bB)]] .live]]
def OA (cV:List Int)(cL:Int)(aL:List bo)(aM:List bC):((Unit)⊕(Unit))→dy
 | .inl a=>⟨some 0,[],[]⟩
 | .inr a=>⟨none,[(4,.b false)],[]⟩
def xA (cV:List Int)(cL:Int)(aL:List bo)(aM:List bC)(dJ:Int):Option ((Int)⊕((Unit)⊕(Unit))) :=
 if (decide (dJ<cL))=true then
  if 0≤dJ∧dJ<cV.length then
  cV[dJ.toNat]? >>= fun az =>
  mB az 0 (R ((len_ bB aM)-(1:Int))) >>= fun ax =>
  if ax=true then
   if 0≤az∧az<aM.length then
   aM[az.toNat]? >>= fun dj =>
   if (dj.gk != (1:Int))=true then
    some (.inr (.inr ()))
   else
    some (.inl (R (dJ+(1:Int))))
   else none
  else
   some (.inr (.inr ()))
  else none
 else
  some (.inr (.inl ()))
def Kd (cV:List Int)(cL:Int)(aL:List bo)(aM:List bC)(dJ:Int):Option ((Unit)⊕(Unit)):=iter (fun w:Int=>xA cV cL aL aM w) dJ
theorem Wb {cV:List Int}{cL:Int}{aL:List bo}{aM:List bC}{dJ:Int}:bD (xA cV cL aL aM dJ) (dO a4 30 0 32 [1,0,1,0,0] (Ib cV cL aL aM dJ) (Ib cV cL aL aM) (OA cV cL aL aM)):=by
 unfold xA
 exact .ite (fun h1 =>
  .aY fun o =>
  .ar fun az av =>
  .ar fun ax aX =>
  (let t1:List b0:=[(J 1),.aa true,.aw (bq 1 (.b5 (eI az)) 1)];
  have aV:=((.dW h1 o.1 (cX eI o.2) (b1 eI av) (qi ax aX) (bR.b ax)):cA _);
  .ite (fun bf =>
  .aY fun bl =>
  .ar fun dj cQ =>
  (let t3:List b0:=t1.append [.aw (ai 5 (aj (bu 3 (.b ax) true) (ai 7 (aj (.b5 (bB dj)) (ai 1 (aj (.aa false) []))))))];
  have eA:=aV.aI (.bi (cO bf) (cO bf) (cO bf) (cO bf) bl.1 (cX bB bl.2) (cO bf) (cO bf) (.bP (b1 bB cQ) (cO bf) (cO bf)));
  .ite (fun fe =>
  .ret (bg (t3.append [.aa true,(J 1),.aN [] [] (a8 [4])]) (eA.aI (.e1 fe))))
  (fun fe =>
  .ret (bg (t3.append [.aa false,(J 2),.aN [0] [.box [.id,.id]] (a8 [2,7,8,9])]) (eA.aI (.e1 fe))))))
  (fun bf =>
  .ret (bg (t1.append [.aw (ai 5 (aj (bu 3 (.b ax) true) (ai 2 (cx 7 (aj (.aa true) []))))),.aa true,(J 1),.aN [] [] (a8 [4])]) (aV.aI (.bi (cM bf) (cM bf) (cM bf) (cM bf) (cM bf) (cM bf) (cM bf) (cM bf) (.e1 cT)))))))
  (fun h1 =>
  .ret (bg [(J 1),.aa false,.aN [] [] []] (.e1 h1)))
theorem OL {cV:List Int}{cL:Int}{aL:List bo}{aM:List bC}{dJ:Int}{r} (h:Kd cV cL aL aM dJ=some r):dP a4 30 0 32 [1,0,1,0,0] (Ib cV cL aL aM) (OA cV cL aL aM) dJ r:=dQ (fun _=>Wb) h
def AG (aH:cl)(gh:List Int):Option Bool :=
 Kd gh (len_ eI gh) aH.bY aH.bs 0 >>= fun r1 =>
 match r1 with
 | .inl dd=>(some true)
 | .inr dd=>(some false)
theorem YJ {aH:cl}{gh:List Int}:bD (AG aH gh) (fun r=>Con a4 32 [.agg (gf aH),.isl 1 (gh.map eI)] [] (.b r) []):=by
 unfold AG
 exact .ar fun r1 o =>
  (let t1:List b0:=[(J 2),(J 3),.aN [0] [.box [.id,.id]] (a8 [2,7,8,9])];
  (by
  rcases r1 with dd|dd
  ·exact (.ret (bA (t1.append [.sub (.exit 0) [] [],(J 1)]) (.e1 (OL o))))
  ·exact (.ret (bA (t1.append [.sub (.ret) [(4,.b false)] []]) (.e1 (OL o))))))
def Jc (a3:Int)(cV:List Int)(cL:Int):Int→S:=fun dJ=>dv [(1,.n .i64 a3),(7,.isl 1 (cV.map eI)),(8,.n .i64 cL),(9,.n .i64 dJ)] []
def OV (a3:Int)(cV:List Int)(cL:Int):((Unit)⊕(Unit))→dy
 | .inl a=>⟨some 0,[],[]⟩
 | .inr a=>⟨none,[(4,.b true)],[]⟩
def xV (a3:Int)(cV:List Int)(cL dJ:Int):Option ((Int)⊕((Unit)⊕(Unit))) :=
 if (decide (dJ<cL))=true then
  if 0≤dJ∧dJ<cV.length then
  cV[dJ.toNat]? >>= fun az =>
  if (az == a3)=true then
   some (.inr (.inr ()))
  else
   some (.inl (R (dJ+(1:Int))))
  else none
 else
  some (.inr (.inl ()))
def KG (a3:Int)(cV:List Int)(cL dJ:Int):Option ((Unit)⊕(Unit)):=iter (fun w:Int=>xV a3 cV cL w) dJ
theorem WS {a3:Int}{cV:List Int}{cL dJ:Int}:bD (xV a3 cV cL dJ) (dO a4 17 0 55 [1,0,1,0,0] (Jc a3 cV cL dJ) (Jc a3 cV cL) (OV a3 cV cL)):=by
 unfold xV
 exact .ite (fun h1 =>
  .aY fun o =>
  .ar fun az av =>
  (let t1:List b0:=[(J 1),.aa true,.aw (bq 1 (.b5 (eI az)) 1),(J 3)];
  have aV:=((.c4 h1 o.1 (cX eI o.2) (b1 eI av)):cA _);
  .ite (fun aA =>
  .ret (bg (t1.append [.aa true,(J 1),.aN [] [] (a8 [4])]) (aV.aI (.e1 aA))))
  (fun aA =>
  .ret (bg (t1.append [.aa false,(J 2),.aN [] [] (a8 [1,7,8,9])]) (aV.aI (.e1 aA))))))
  (fun h1 =>
  .ret (bg [(J 1),.aa false,.aN [] [] []] (.e1 h1)))
theorem O7 {a3:Int}{cV:List Int}{cL dJ:Int}{r} (h:KG a3 cV cL dJ=some r):dP a4 17 0 55 [1,0,1,0,0] (Jc a3 cV cL) (OV a3 cV cL) dJ r:=dQ (fun _=>WS) h
def A1 (cp:List Int)(a3:Int):Option Bool :=
 KG a3 cp (len_ eI cp) 0 >>= fun r1 =>
 match r1 with
 | .inl dd=>(some false)
 | .inr dd=>(some true)
theorem Zr {cp:List Int}{a3:Int}:bD (A1 cp a3) (fun r=>Con a4 55 [.isl 1 (cp.map eI),.n .i64 a3] [] (.b r) []):=by
 unfold A1
 exact .ar fun r1 o =>
  (let t1:List b0:=[(J 1),(J 3),.aN [] [] (a8 [1,7,8,9])];
  (by
  rcases r1 with dd|dd
  ·exact (.ret (bA (t1.append [.sub (.exit 0) [] [],(J 1)]) (.e1 (O7 o))))
  ·exact (.ret (bA (t1.append [.sub (.ret) [(4,.b true)] []]) (.e1 (O7 o))))))
def GY (gh:List Int)(bS:List bC)(da:Int)(aC:List bo):(Int×(List bC))→S:=fun (dg,al)=>dv [(1,.isl 1 (gh.map eI)),(4,.ref 0 0 0 0),(5,.ref 1 0 0 0),(14,.isl 3 (bS.map bB)),(15,.n .i64 da),(16,.n .i64 dg)] [[ae.mk 2 [[.ek,.ek]] .live],[ae.mk 2 [[.bh 2 0 0 aC.length,.bh 3 0 0 al.length]] .live],(au 4 bw aC),(au 3 bB al)]
def G6 (gh:List Int)(bS:List bC)(da:Int)(aC:List bo):(List bC)→dy
 | a=>⟨some 0,[(4,.ref 0 0 0 0),(5,.ref 1 0 0 0)],[[ae.mk 2 [[.ek,.ek]] .live],[ae.mk 2 [[.bh 2 0 0 aC.length,.bh 3 0 0 a.length]] .live],(au 4 bw aC),(au 3 bB a)]⟩
def w5 (gh:List Int)(bS:List bC)(da:Int)(aC:List bo)(dg:Int)(al:List bC):Option ((Int×(List bC))⊕((List bC))) :=
 if (decide (dg<da))=true then
  if 0≤dg∧dg<bS.length then
  bS[dg.toNat]? >>= fun az =>
  A1 gh dg >>= fun ax =>
  if ax=true then
   some (.inl (R (dg+(1:Int)),al))
  else
   if (al++([az]:List bC)).length*24≤140737488355328 then
   some (.inl (R (dg+(1:Int)),al++([az]:List bC)))
   else none
  else none
 else
  some (.inr al)
def HS (gh:List Int)(bS:List bC)(da:Int)(aC:List bo)(dg:Int)(al:List bC):Option ((List bC)):=iter (fun w:Int×(List bC)=>w5 gh bS da aC w.1 w.2) (dg,al)
theorem Vd {gh:List Int}{bS:List bC}{da:Int}{aC:List bo}{dg:Int}{al:List bC}:bD (w5 gh bS da aC dg al) (dO a4 33 0 33 [1,1,0,1,0,0] (GY gh bS da aC (dg,al)) (GY gh bS da aC) (G6 gh bS da aC)):=by
 unfold w5
 exact .ite (fun h1 =>
  .aY fun o =>
  .ar fun az av =>
  .ar fun ax aX =>
  (let t1:List b0:=[(J 1),.aa true,.aw (bq 2 (.b5 (bB az)) 3),.aw (bq 2 (bu 2 (.b ax) true) 1)];
  have aV:=((.dW h1 o.1 (cX bB o.2) (b1 bB av) (Zr ax aX) (bR.b ax)):cA _);
  .ite (fun bf =>
  .ret (bg (t1.append [.aa false,(J 2),.aN [0,1,2,3] [.box [.id,.id],.box [.id,.id],.pure,.pure] (a8 [1,4,5,14,15,16])]) (aV.aI (.bP (cO bf) (aJ 4 .live jy aC) (aJ 3 .live iV al)))))
  (fun bf =>
  .aY fun bl =>
  .ret (let q1:=(al++([az]:List bC));bg (t1.append [.aa true,.aw (bq 4 (.aI (q1.length)) 2),(J 2),.aN [0,1,2,19] [.box [.id,.id],.box [.id,.id],.pure,.cG (au 3 bB q1)] (a8 [1,4,5,14,15,16])]) (aV.aI (.gz (cM bf) (gF bB az) (g9 bB al) (gG bB al az) bl (aJ 4 .live jy aC) (c2 3 .live (hf bB al az)) (aJ 3 .live iV q1)))))))
  (fun h1 =>
  .ret (bg [(J 1),.aa false,.aN [0,1,2,3] [.box [.id,.id],.box [.id,.id],.pure,.pure] (a8 [4,5])] (.bP h1 (aJ 4 .live jy aC) (aJ 3 .live iV al))))
theorem VV {gh:List Int}{bS:List bC}{da:Int}{aC:List bo}{dg:Int}{al:List bC}{r} (h:HS gh bS da aC dg al=some r):dP a4 33 0 33 [1,1,0,1,0,0] (GY gh bS da aC) (G6 gh bS da aC) (dg,al) r:=dQ (fun _=>Vd) h
def xW (aH:cl)(gh:List Int):Option cl :=
 if (([]:List bo)++aH.bY).length*40≤140737488355328 then
 HS gh aH.bs (len_ bB aH.bs) (([]:List bo)++aH.bY) 0 ([]:List bC) >>= fun bV =>
 some (⟨([]:List bo)++aH.bY,bV⟩:cl)
 else none
theorem WT {aH:cl}{gh:List Int}:bD (xW aH gh) (fun r=>Con a4 33 [.agg (gf aH),.isl 1 (gh.map eI)] [] (.agg (gf r)) []):=by
 unfold xW
 exact .aY fun h1 =>
  .ar fun bV af =>
  .ret (let q1:=(([]:List bo)++aH.bY);bA [(J 2),.aw (bq 3 (.aI (q1.length)) 3),(J 4),.r4 7 1 3,.aN [1,7,5,13] [.box [.id,.id],.box [.id,.len (([]:List bC).length)],.cG (au 4 bw q1),.cG (au 3 bB ([]:List bC))] (a8 [1,4,5,14,15,16]),(G6 gh aH.bs (len_ bB aH.bs) q1 bV).e8,(J 2)] (.bi (nu (show []=(([]:List bo)).map bw from rfl) (fg bo)) (lZ (fg bo) (cZ bw aH.bY):q1.length=0+(aH.bY.map bw).length) h1 (fg bC) (c2 4 .live (iz (show []=(([]:List bo)).map bw from rfl) (fg bo) (cZ bw aH.bY))) (aJ 4 .live jy q1) (c2 3 .live (nj bB)) (aJ 3 .live iV ([]:List bC)) (.eP (VV af) (fw bw q1) (ff bw q1) (dk jy q1) (fw bB bV) (ff bB bV) (dk iV bV))) (.bp (.agg [.dL (q1.map bw),.dL (bV.map bB)])))
def uR (aH:cl)(cp gh:List Int):Option Bool :=
 rK aH cp >>= fun r1 =>
 if r1=true then
  AG aH gh >>= fun a6 =>
  if a6=true then
   xW aH gh >>= fun bO =>
   rJ bO cp >>= fun cb =>
   some cb
  else
   some false
 else
  some false
theorem X1 {aH:cl}{cp gh:List Int}:bD (uR aH cp gh) (fun r=>Con a4 17 [.agg (gf aH),.isl 1 (cp.map eI),.isl 1 (gh.map eI)] [] (.b r) []):=by
 unfold uR
 exact .ar fun r1 o =>
  (have b9:=((.aD (Pq r1 o) (bR.b r1)):cA _);
  .ite (fun af =>
  .ar fun a6 aA =>
  (have aV:=b9.aI (.dW af af af (YJ a6 aA) (bR.b a6) af);
  .ite (fun aX =>
  .ar fun bO bl =>
  .ar fun cb cQ =>
  .ret (bA [(J 2),.aw (ai 2 (aj (bu 2 (.b r1) true) (ai 3 (aj (bu 2 (.b a6) true) (aj (.aa true) (ai 3 (aj (bu 2 (.agg (gf bO)) false) (ai 1 (aj (bu 2 (.b cb) true) (aj (.aa true) (ai 1 [])))))))))))] (aV.aI (.bi aX aX aX (WT bO bl) aX aX (Pc cb cQ) (bR.b cb) (.e1 aX)))))
  (fun aX =>
  .ret (bA [(J 2),.aw (ai 2 (aj (bu 2 (.b r1) true) (ai 3 (aj (bu 2 (.b a6) true) (aj (.aa true) (ai 1 (cx 5 (aj (.aa false) (ai 1 [])))))))))] (aV.aI (.dW aX aX aX aX aX aX))))))
  (fun af =>
  .ret (bA [(J 2),.aw (ai 2 (aj (bu 2 (.b r1) true) (ai 1 (cx 3 (aj (.aa false) (ai 1 (cx 5 (ai 2 []))))))))] (b9.aI (.bi af af af af cK cK cK cK (.e1 cK))))))
def Hk (cp:List Int)(bS:List bC)(da:Int)(aL:List bo):(Int×(List Int))→S:=fun (dg,ao)=>dv [(1,.isl 1 (cp.map eI)),(2,.ref 0 0 0 0),(5,.bh 1 0 0 ao.length),(14,.isl 3 (bS.map bB)),(15,.n .i64 da),(16,.n .i64 dg)] [[ae.mk 2 [[.isl 4 (aL.map bw),.isl 3 (bS.map bB)]] .live],(au 1 eI ao)]
def Oj (cp:List Int)(bS:List bC)(da:Int)(aL:List bo):(List Int)→dy
 | a=>⟨some 0,[(5,.bh 0 0 0 a.length)],[(au 1 eI a)]⟩
def xe (cp:List Int)(bS:List bC)(da:Int)(aL:List bo)(dg:Int)(ao:List Int):Option ((Int×(List Int))⊕((List Int))) :=
 if (decide (dg<da))=true then
  if 0≤dg∧dg<bS.length then
  bS[dg.toNat]? >>= fun az =>
  if (az.gk == (1:Int))=true then
   uR (⟨aL,bS⟩:cl) cp ([dg]:List Int) >>= fun cn =>
   if cn=true then
    some (.inl (R (dg+(1:Int)),ao))
   else
    if (ao++([dg]:List Int)).length*8≤140737488355328 then
    some (.inl (R (dg+(1:Int)),ao++([dg]:List Int)))
    else none
  else
   some (.inl (R (dg+(1:Int)),ao))
  else none
 else
  some (.inr ao)
def Jd (cp:List Int)(bS:List bC)(da:Int)(aL:List bo)(dg:Int)(ao:List Int):Option ((List Int)):=iter (fun w:Int×(List Int)=>xe cp bS da aL w.1 w.2) (dg,ao)
theorem Vv {cp:List Int}{bS:List bC}{da:Int}{aL:List bo}{dg:Int}{ao:List Int}:bD (xe cp bS da aL dg ao) (dO a4 38 0 5 [1,1,1,0,1,0,0] (Hk cp bS da aL (dg,ao)) (Hk cp bS da aL) (Oj cp bS da aL)):=by
 unfold xe
 exact .ite (fun h1 =>
  .aY fun o =>
  .ar fun az av =>
  (let t1:List b0:=[(J 1),.aa true,.aw (bq 2 (.b5 (bB az)) 3)];
  have aV:=((.c4 h1 o.1 (cX bB o.2) (b1 bB av)):cA _);
  .ite (fun aA =>
  .ar fun cn bf =>
  (let t3:List b0:=t1.append [.aw (ai 8 (aj (.call {ac:=[ii,ii,.bp (.cJ (.dL (([dg]:List Int).map eI)))],r:= .b cn,ej:=true,eC:=[16]}) (ai 1 (aj (.aa true) []))))];
  have eA:=aV.aI (.bi aA aA aA aA aA (k6 (show [[.n .i64 dg]]=(([dg]:List Int)).map eI from rfl) (show 1=([dg]:List Int).length from rfl)) (gF eI dg) (dk aO ([dg]:List Int)) (.c4 (X1 cn bf) (bR.b cn) aA aA));
  .ite (fun bl =>
  .ret (bg (t3.append [.aa false,(J 2),.aN [0,1] [.box [.id,.id],.pure] (a8 [1,2,5,14,15,16])]) (eA.aI (.aD (cO bl) (aJ 1 .live aO ao)))))
  (fun bl =>
  .aY fun cB =>
  .ret (let q1:=(ao++([dg]:List Int));bg (t3.append [.aa true,.aw (bq 3 (.aI (q1.length)) 1),(J 2),.aN [0,23] [.box [.id,.id],.cG (au 1 eI q1)] (a8 [1,2,5,14,15,16])]) (eA.aI (.eP (cM bl) (gF eI dg) (g9 eI ao) (gG eI ao dg) cB (c2 1 .live (hf eI ao dg)) (aJ 1 .live aO q1)))))))
  (fun aA =>
  .ret (bg (t1.append [.aw (ai 4 (cx 6 (aj (.aa false) []))),.aa false,(J 2),.aN [0,1] [.box [.id,.id],.pure] (a8 [1,2,5,14,15,16])]) (aV.aI (.bi aA aA aA aA aA aA aA cK (.e1 (aJ 1 .live aO ao))))))))
  (fun h1 =>
  .ret (bg [(J 1),.aa false,.aN [1] [.pure] (a8 [5])] (.aD h1 (aJ 1 .live aO ao))))
theorem WU {cp:List Int}{bS:List bC}{da:Int}{aL:List bo}{dg:Int}{ao:List Int}{r} (h:Jd cp bS da aL dg ao=some r):dP a4 38 0 5 [1,1,1,0,1,0,0] (Hk cp bS da aL) (Oj cp bS da aL) (dg,ao) r:=dQ (fun _=>Vv) h
def Ag (aH:cl)(cp:List Int):Option (List Int) :=
 rJ aH cp >>= fun r1 =>
 if r1=true then
  Jd cp aH.bs (len_ bB aH.bs) aH.bY 0 ([]:List Int) >>= fun a6 =>
  some a6
 else
  some ([]:List Int)
theorem XK {aH:cl}{cp:List Int}:bD (Ag aH cp) (fun r=>Con a4 5 [.agg (gf aH),.isl 1 (cp.map eI)] [] (.isl 1 (r.map eI)) []):=by
 unfold Ag
 exact .ar fun r1 o =>
  (let t1:List b0:=[(J 2),.aw (bq 2 (bu 2 (.b r1) true) 1)];
  have aV:=((.aD (Pc r1 o) (bR.b r1)):cA _);
  .ite (fun af =>
  .ar fun a6 aA =>
  .ret (bA (t1.append [.aa false,(J 2),(J 4),.aN [0,6] [.box [.id,.id],.cG (au 1 eI ([]:List Int))] [(1,ii),(2,ii),(5,fW (([]:List Int).length)),(14,ii),(15,ii),(16,ii)],.sub (.exit 0) [(5,.bh 0 0 0 a6.length)] [(au 1 eI a6)],(J 2)]) (aV.aI (.gz (cO af) (c2 1 .live (show []=(([]:List Int)).map eI from rfl)) (aJ 1 .live aO ([]:List Int)) (fg Int) (WU aA) (fw eI a6) (ff eI a6) (dk aO a6))) (.bp (.cJ (.dL (a6.map eI))))))
  (fun af =>
  .ret (bA (t1.append [.aa true,(J 1)]) (aV.aI (.e1 (cM af))) (.bp (.cJ (.iJ 1))))))
def AH (rs:Int):Option Bool :=
 if (decide ((97:Int)≤rs))=true then
  some (decide (rs≤(122:Int)))
 else
  some false
theorem YK {rs:Int}:bD (AH rs) (fun r=>Con a4 127 [.n .u8 rs] [] (.b r) []):=by
 unfold AH
 exact .ite (fun h1 =>
  .ret (bA [(J 1),.aw (bq 5 (.aa true) 1)] (.bP h1 h1 h1)))
  (fun h1 =>
  .ret (bA [(J 1),.aw (ai 3 (cx 2 (aj (.aa false) (ai 1 []))))] (.bP h1 h1 h1)))
def AR (rs:Int):Option Bool :=
 if (decide ((48:Int)≤rs))=true then
  some (decide (rs≤(57:Int)))
 else
  some false
theorem Y4 {rs:Int}:bD (AR rs) (fun r=>Con a4 128 [.n .u8 rs] [] (.b r) []):=by
 unfold AR
 exact .ite (fun h1 =>
  .ret (bA [(J 1),.aw (bq 5 (.aa true) 1)] (.bP h1 h1 h1)))
  (fun h1 =>
  .ret (bA [(J 1),.aw (ai 3 (cx 2 (aj (.aa false) (ai 1 []))))] (.bP h1 h1 h1)))
def Je (aH:ByteArray)(jX:Int):Int→S:=fun gX=>dv [(0,.s aH),(5,.n .i64 jX),(6,.n .i64 gX)] []
def OW (aH:ByteArray)(jX:Int):((Unit)⊕(Unit))→dy
 | .inl a=>⟨some 0,[(0,.s aH)],[]⟩
 | .inr a=>⟨none,[(2,.b false)],[]⟩
def z8 (aH:ByteArray)(jX gX:Int):Option ((Int)⊕((Unit)⊕(Unit))) :=
 if (decide (gX<jX))=true then
  if 0≤gX∧gX<(aH.size:Nat) then
  AH ((aH.data.toList.getD gX.toNat 0).toNat:Int) >>= fun bn =>
  if bn=true then
   some (.inl (R (gX+(1:Int))))
  else
   if (gX == (0:Int))=true then
    some (.inr (.inr ()))
   else
    AR ((aH.data.toList.getD gX.toNat 0).toNat:Int) >>= fun bO =>
    if bO=true then
     some (.inl (R (gX+(1:Int))))
    else
     some (.inr (.inr ()))
  else none
 else
  some (.inr (.inl ()))
def Eg (aH:ByteArray)(jX gX:Int):Option ((Unit)⊕(Unit)):=iter (fun w:Int=>z8 aH jX w) gX
theorem WV {aH:ByteArray}{jX gX:Int}:bD (z8 aH jX gX) (dO a4 33 0 104 [1,0,1,0,0] (Je aH jX gX) (Je aH jX) (OW aH jX)):=by
 unfold z8
 exact .ite (fun h1 =>
  .aY fun o =>
  .ar fun bn av =>
  (let t1:List b0:=[(J 1),.aa true,(J 2)];
  have aV:=((.dh h1 o.1 o.2 (YK bn av) (bR.b bn)):cA _);
  .ite (fun aA =>
  .ret (bg (t1.append [.aw (ai 3 (aj (bu 1 (.b bn) true) (ai 2 (cx 3 (ai 5 (cx 1 (aj (.aa false) []))))))),.aa false,(J 2),.aN [] [] (a8 [0,5,6])]) (aV.aI (.dW (cO aA) (cO aA) (cO aA) (cO aA) (cO aA) cK))))
  (fun aA =>
  (have fI:=aV.aI (.bP (cM aA) (cM aA) (cM aA));
  .ite (fun aX =>
  .ret (bg (t1.append [.aw (ai 3 (aj (bu 1 (.b bn) true) (ai 5 (cx 5 (aj (.aa true) (aj (.aa true) [])))))),.aa true,(J 1),.aN [] [] (a8 [2])]) (fI.aI (.bi aX aX aX aX aX (cM aA) aX (cM aA) (.e1 cT)))))
  (fun aX =>
  .ar fun bO bl =>
  (let t4:List b0:=t1.append [.aw (ai 3 (aj (bu 1 (.b bn) true) (ai 8 (aj (bu 1 (.b bO) true) (ai 1 (aj (.aa false) (aj (.aa true) [])))))))];
  have mz:=fI.aI (.bi aX aX aX o.1 o.2 aX (Y4 bO bl) (bR.b bO) (.c4 aX (cM aA) aX (cM aA)));
  .ite (fun cB =>
  .ret (bg (t4.append [.aa false,(J 2),.aN [] [] (a8 [0,5,6])]) (mz.aI (.e1 (cO cB)))))
  (fun cB =>
  .ret (bg (t4.append [.aa true,(J 1),.aN [] [] (a8 [2])]) (mz.aI (.e1 (cM cB)))))))))))
  (fun h1 =>
  .ret (bg [(J 1),.aa false,.aN [] [] (a8 [0])] (.e1 h1)))
theorem JS {aH:ByteArray}{jX gX:Int}{r} (h:Eg aH jX gX=some r):dP a4 33 0 104 [1,0,1,0,0] (Je aH jX) (OW aH jX) gX r:=dQ (fun _=>WV) h
def A2 (aH:ByteArray):Option Bool :=
 Eg aH (aH.size:Int) 0 >>= fun r1 =>
 match r1 with
 | .inl dd=>(if (!(aH.toList == (⟨#[]⟩:ByteArray).toList))=true then
  some (decide ((aH.size:Int)≤(8:Int)))
  else
   some false)
 | .inr dd=>(some false)
theorem Zs {aH:ByteArray}:bD (A2 aH) (fun r=>Con a4 104 [.s aH] [] (.b r) []):=by
 unfold A2
 exact .ar fun r1 o =>
  (let t1:List b0:=[(J 1),(J 3),.aN [] [] (a8 [0,5,6])];
  (by
  rcases r1 with dd|dd
  ·exact ((let t2:List b0:=t1.append [.sub (.exit 0) [(0,.s aH)] []];
  .ite (fun av =>
  .ret (bA (t2.append [.aw (bq 6 (.aa true) 1)]) (.dh (JS o) av av av av)))
  (fun av =>
  .ret (bA (t2.append [.aw (ai 3 (cx 3 (aj (.aa false) (ai 1 []))))]) (.dh (JS o) av av av av)))))
  ·exact (.ret (bA (t1.append [.sub (.ret) [(2,.b false)] []]) (.e1 (JS o))))))
def yq (a3:Int):Option Bool :=
 if (decide ((-50:Int)≤a3))=true then
  some (decide (a3≤(50:Int)))
 else
  some false
theorem Ph {a3:Int}:bD (yq a3) (fun r=>Con a4 105 [.n .i64 a3] [] (.b r) []):=by
 unfold yq
 exact .ite (fun h1 =>
  .ret (bA [(J 1),.aw (bq 5 (.aa true) 1)] (.bP h1 h1 h1)))
  (fun h1 =>
  .ret (bA [(J 1),.aw (ai 3 (cx 2 (aj (.aa false) (ai 1 []))))] (.bP h1 h1 h1)))
def AS (bX:bo):Option Bool :=
 A2 bX.hj >>= fun r1 =>
 if r1=true then
  yq bX.ga >>= fun a6 =>
  if a6=true then
   yq bX.f6 >>= fun bO =>
   some bO
  else
   some false
 else
  some false
theorem Y5 {bX:bo}:bD (AS bX) (fun r=>Con a4 75 [.agg (bw bX)] [] (.b r) []):=by
 unfold AS
 exact .ar fun r1 o =>
  (have b9:=((.aD (Zs r1 o) (bR.b r1)):cA _);
  .ite (fun af =>
  .ar fun a6 aA =>
  (have aV:=b9.aI (.dW af af af (Ph a6 aA) (bR.b a6) af);
  .ite (fun aX =>
  .ar fun bO bl =>
  .ret (bA [(J 2),.aw (ai 2 (aj (bu 1 (.b r1) true) (ai 3 (aj (bu 1 (.b a6) true) (aj (.aa true) (ai 3 (aj (bu 1 (.b bO) true) (aj (.aa true) (ai 1 [])))))))))] (aV.aI (.dW aX aX aX (Ph bO bl) (bR.b bO) aX))))
  (fun aX =>
  .ret (bA [(J 2),.aw (ai 2 (aj (bu 1 (.b r1) true) (ai 3 (aj (bu 1 (.b a6) true) (aj (.aa true) (ai 1 (cx 3 (aj (.aa false) (ai 1 [])))))))))] (aV.aI (.c4 aX aX aX aX))))))
  (fun af =>
  .ret (bA [(J 2),.aw (ai 2 (aj (bu 1 (.b r1) true) (ai 1 (cx 3 (aj (.aa false) (ai 1 (cx 3 (ai 2 []))))))))] (b9.aI (.eP af af af af cK cK cK)))))
def JT (bX:bo)(cJ:ByteArray):Option Bool :=
 some (bX.hj.toList == cJ.toList)
theorem Xm {bX:bo}{cJ:ByteArray}:bD (JT bX cJ) (fun r=>Con a4 107 [.agg (bw bX),.dS 1 [[.s cJ]] 0 0] [] (.b r) []):=by
 unfold JT
 exact .ret (bA [(J 2),(J 5)] .nil)
def Gp (aH:List bo)(hs:ByteArray)(cV:Int):Int→S:=fun cL=>dv [(0,.isl 4 (aH.map bw)),(1,.fn 107 [.dS 1 [[.s hs]] 0 0]),(7,.n .i64 cV),(8,.n .i64 cL)] []
def N0 (aH:List bo)(hs:ByteArray)(cV:Int):((Unit)⊕(Int))→dy
 | .inl a=>⟨some 0,[],[]⟩
 | .inr a=>⟨none,[(4,.n .i64 a)],[]⟩
def Gq (aH:List bo)(hs:ByteArray)(cV cL:Int):Option ((Int)⊕((Unit)⊕(Int))) :=
 if (decide (cL<cV))=true then
  if 0≤cL∧cL<aH.length then
  aH[cL.toNat]? >>= fun az =>
  JT az hs >>= fun ax =>
  if ax=true then
   some (.inr (.inr cL))
  else
   some (.inl (R (cL+(1:Int))))
  else none
 else
  some (.inr (.inl ()))
def Du (aH:List bo)(hs:ByteArray)(cV cL:Int):Option ((Unit)⊕(Int)):=iter (fun w:Int=>Gq aH hs cV w) cL
theorem UG {aH:List bo}{hs:ByteArray}{cV cL:Int}:bD (Gq aH hs cV cL) (dO a4 19 0 106 [1,0,1,0,0] (Gp aH hs cV cL) (Gp aH hs cV) (N0 aH hs cV)):=by
 unfold Gq
 exact .ite (fun h1 =>
  .aY fun o =>
  .ar fun az av =>
  .ar fun ax aX =>
  (let t1:List b0:=[(J 1),.aa true,(J 2),.aw (ai 4 (aj (.b5 (bw az)) (aj (bu 2 (.b ax) true) [])))];
  have aV:=((.dW h1 o.1 (cX bw o.2) (b1 bw av) (Xm ax aX) (bR.b ax)):cA _);
  .ite (fun bf =>
  .ret (bg (t1.append [.aa true,(J 2),.aN [] [] (a8 [4])]) (aV.aI (.e1 bf))))
  (fun bf =>
  .ret (bg (t1.append [.aa false,(J 2),.aN [] [] [(0,ii),(1,.comp [.cJ .id]),(7,ii),(8,ii)]]) (aV.aI (.e1 bf))))))
  (fun h1 =>
  .ret (bg [(J 1),.aa false,.aN [] [] []] (.e1 h1)))
theorem N3 {aH:List bo}{hs:ByteArray}{cV cL:Int}{r} (h:Du aH hs cV cL=some r):dP a4 19 0 106 [1,0,1,0,0] (Gp aH hs cV) (N0 aH hs cV) cL r:=dQ (fun _=>UG) h
def Dy (aH:List bo)(kY:ByteArray):Option Int :=
 Du aH kY (len_ bw aH) 0 >>= fun r1 =>
 match r1 with
 | .inl dd=>(some (-1))
 | .inr dd=>(some dd)
theorem U1 {aH:List bo}{kY:ByteArray}:bD (Dy aH kY) (fun r=>Con a4 106 [.isl 4 (aH.map bw),.fn 107 [.dS 1 [[.s kY]] 0 0]] [] (.n .i64 r) []):=by
 unfold Dy
 exact .ar fun r1 o =>
  (let t1:List b0:=[(J 1),(J 3),.aN [] [] [(0,ii),(1,.comp [.cJ .id]),(7,ii),(8,ii)]];
  (by
  rcases r1 with dd|dd
  ·exact (.ret (bA (t1.append [.sub (.exit 0) [] [],(J 1)]) (.e1 (N3 o))))
  ·exact (.ret (bA (t1.append [.sub (.ret) [(4,.n .i64 dd)] []]) (.e1 (N3 o))))))
def Am (aH:cl)(kM:ByteArray):Option Int :=
 Dy aH.bY kM >>= fun r1 =>
 some r1
theorem X2 {aH:cl}{kM:ByteArray}:bD (Am aH kM) (fun r=>Con a4 76 [.agg (gf aH),.s kM] [] (.n .i64 r) []):=by
 unfold Am
 exact .ar fun r1 o =>
  .ret (bA [(J 3),.aw (bq 3 (.call {ac:=[ii,.comp [.ptr [.id]]],r:= .n .i64 r1,ej:=true,eC:=[1]}) 1)] (.bP (oj (RF kM):iY [[.s kM]]) (U1 r1 o) (bR.n .i64 r1)))
def zY (aH:cl)(mK:bC):Option Bool :=
 if (decide (mK.dt<(0:Int)))=true then
  some false
 else
  if (decide ((len_ bw aH.bY)≤mK.dt))=true then
   some false
  else
   if (decide (mK.dM<(0:Int)))=true then
    some false
   else
    if (decide ((len_ bw aH.bY)≤mK.dM))=true then
     some false
    else
     if (decide (mK.gk<(1:Int)))=true then
      some false
     else
      if (decide ((3:Int)<mK.gk))=true then
       some false
      else
       if 0≤mK.dt∧mK.dt<aH.bY.length then
       aH.bY[mK.dt.toNat]? >>= fun mx =>
       if 0≤mK.dM∧mK.dM<aH.bY.length then
       aH.bY[mK.dM.toNat]? >>= fun iH =>
       if (mx.ga != iH.ga)=true then
        if mx.gQ=true then
         some (!iH.gQ)
        else
         some true
       else
        if (mx.f6 != iH.f6)=true then
         if mx.gQ=true then
          some (!iH.gQ)
         else
          some true
        else
         some false
       else none
       else none
theorem VJ {aH:cl}{mK:bC}:bD (zY aH mK) (fun r=>Con a4 79 [.dS 2 [(gf aH)] 0 0,.agg (bB mK)] [] (.b r) []):=by
 unfold zY
 exact .ite (fun h1 =>
  .ret (bA [(J 2),(J 6),.aw (ai 4 (cx 4 (aj (.aa true) (ai 1 (cx 3 (ai 2 (cx 4 (ai 2 (cx 3 (ai 2 (cx 3 (ai 1 [])))))))))))),.aa true,(J 1)] (.bi h1 h1 h1 h1 h1 cT cT cT (.bi cT cT cT cT cT cT cT cT (.bP cT cT cT)))))
  (fun h1 =>
  .ite (fun o =>
  .ret (bA [(J 2),(J 6),.aw (ai 8 (aj (.aa false) (ai 1 (cx 3 (aj (.aa true) (ai 1 (cx 4 (ai 2 (cx 3 (ai 2 (cx 3 (ai 1 [])))))))))))),.aa true,(J 1)] (.bi h1 h1 h1 h1 h1 o o o (.bi o cT cT cT cT cT cT cT (.c4 cT cT cT cT)))))
  (fun o =>
  (have b9:=((.bi h1 h1 h1 h1 h1 o o o (.e1 o)):cA _);
  .ite (fun af =>
  .ret (bA [(J 2),(J 6),.aw (ai 8 (aj (.aa false) (ai 4 (aj (.aa false) (ai 1 (cx 4 (aj (.aa true) (ai 1 (cx 3 (ai 2 (cx 3 (ai 1 [])))))))))))),.aa true,(J 1)] (b9.aI (.bi af af af af af cT cT cT (.c4 cT cT cT cT)))))
  (fun af =>
  .ite (fun av =>
  .ret (bA [(J 2),(J 6),.aw (ai 8 (aj (.aa false) (ai 4 (aj (.aa false) (ai 5 (aj (.aa false) (ai 1 (cx 3 (aj (.aa true) (ai 1 (cx 3 (ai 1 [])))))))))))),.aa true,(J 1)] (b9.aI (.bi af af af af af av av av (.dh av cT cT cT cT)))))
  (fun av =>
  (have aV:=b9.aI (.bi af af af af af av av av (.e1 av));
  .ite (fun aA =>
  .ret (bA [(J 2),(J 6),.aw (ai 8 (aj (.aa false) (ai 4 (aj (.aa false) (ai 5 (aj (.aa false) (ai 4 (aj (.aa false) (ai 1 (cx 3 (aj (.aa true) []))))))))))),.aa true,(J 1)] (aV.aI (.dh aA aA aA aA cT))))
  (fun aA =>
  (let t3:List b0:=[(J 2),(J 6),.aw (ai 8 (aj (.aa false) (ai 4 (aj (.aa false) (ai 5 (aj (.aa false) (ai 4 (aj (.aa false) (ai 4 (aj (.aa false) []))))))))))];
  .ite (fun aX =>
  .ret (bA (t3.append [.aa true,(J 1)]) (aV.aI (.dh aA aA aA aA aX))))
  (fun aX =>
  .aY fun bf =>
  .ar fun mx cB =>
  .aY fun cQ =>
  .ar fun iH eK =>
  (let t4:List b0:=t3.append [.aa false,.aw (ai 7 (aj (.b5 (bw mx)) (bq 7 (.b5 (bw iH)) 4)))];
  have mz:=aV.aI (.bi aA aA aA aA aX bf.1 (cX bw bf.2) (b1 bw cB) (.bP cQ.1 (cX bw cQ.2) (b1 bw eK)));
  .ite (fun eU =>
  (have kj:=mz.aI (.bi eU eU eU eU eU eU cT cT (.e1 cT));
  .ite (fun eL =>
  .ret (bA (t4.append [.aw (ai 6 (cx 5 (aj (.aa true) (bq 6 (.aa true) 3))))]) (kj.aI (.dh eL eL cT eL cT))))
  (fun eL =>
  .ret (bA (t4.append [.aw (ai 6 (cx 5 (aj (.aa true) (ai 4 (cx 2 (aj (.aa false) (ai 3 [])))))))]) (kj.aI (.dh eL eL cT eL cT))))))
  (fun eU =>
  .ite (fun eL =>
  (have kj:=mz.aI (.bi eU eU eU eU eU eU eL eL (.e1 eL));
  .ite (fun fM =>
  .ret (bA (t4.append [.aw (ai 11 (aj (.aa false) (ai 6 (aj (.aa true) (bq 1 (.aa true) 1)))))]) (kj.aI (.dW fM fM eL fM eL eL))))
  (fun fM =>
  .ret (bA (t4.append [.aw (ai 11 (aj (.aa false) (ai 4 (cx 2 (aj (.aa false) (bq 1 (.aa true) 1))))))]) (kj.aI (.dW fM fM eL fM eL eL))))))
  (fun eL =>
  .ret (bA (t4.append [.aw (ai 11 (aj (.aa false) (ai 1 (cx 3 (ai 2 (cx 2 (aj (.aa false) (ai 1 []))))))))]) (mz.aI (.bi eU eU eU eU eU eU eL eL (.c4 eL eL eL eL))))))))))))))))
def uJ (mK:bC)(cJ:cl):Option Bool :=
 zY cJ mK >>= fun r1 =>
 some (!r1)
theorem Xf {mK:bC}{cJ:cl}:bD (uJ mK cJ) (fun r=>Con a4 78 [.agg (bB mK),.dS 2 [(gf cJ)] 0 0] [] (.b r) []):=by
 unfold uJ
 exact .ar fun r1 o =>
  .ret (bA [(J 2),.aw (bq 1 (bu 2 (.b r1) true) 2)] (.aD (VJ r1 o) (bR.b r1)))
def Gn (aH:List bC)(hs:List bo)(j7:List bC)(cV:Int):Int→S:=fun cL=>dv [(0,.isl 3 (aH.map bB)),(1,.fn 78 [.dS 2 [[.isl 4 (hs.map bw),.isl 3 (j7.map bB)]] 0 0]),(7,.n .i64 cV),(8,.n .i64 cL)] []
def NZ (aH:List bC)(hs:List bo)(j7:List bC)(cV:Int):((Unit)⊕(Int))→dy
 | .inl a=>⟨some 0,[],[]⟩
 | .inr a=>⟨none,[(4,.n .i64 a)],[]⟩
def od (aH:List bC)(hs:List bo)(j7:List bC)(cV cL:Int):Option ((Int)⊕((Unit)⊕(Int))) :=
 if (decide (cL<cV))=true then
  if 0≤cL∧cL<aH.length then
  aH[cL.toNat]? >>= fun az =>
  uJ az (⟨hs,j7⟩:cl) >>= fun ax =>
  if ax=true then
   some (.inr (.inr cL))
  else
   some (.inl (R (cL+(1:Int))))
  else none
 else
  some (.inr (.inl ()))
def uu (aH:List bC)(hs:List bo)(j7:List bC)(cV cL:Int):Option ((Unit)⊕(Int)):=iter (fun w:Int=>od aH hs j7 cV w) cL
theorem UF {aH:List bC}{hs:List bo}{j7:List bC}{cV cL:Int}:bD (od aH hs j7 cV cL) (dO a4 19 0 108 [1,0,1,0,0] (Gn aH hs j7 cV cL) (Gn aH hs j7 cV) (NZ aH hs j7 cV)):=by
 unfold od
 exact .ite (fun h1 =>
  .aY fun o =>
  .ar fun az av =>
  .ar fun ax aX =>
  (let t1:List b0:=[(J 1),.aa true,(J 2),.aw (ai 4 (aj (.b5 (bB az)) (aj (bu 2 (.b ax) true) [])))];
  have aV:=((.dW h1 o.1 (cX bB o.2) (b1 bB av) (Xf ax aX) (bR.b ax)):cA _);
  .ite (fun bf =>
  .ret (bg (t1.append [.aa true,(J 2),.aN [] [] (a8 [4])]) (aV.aI (.e1 bf))))
  (fun bf =>
  .ret (bg (t1.append [.aa false,(J 2),.aN [] [] [(0,ii),(1,.comp [.cJ .id]),(7,ii),(8,ii)]]) (aV.aI (.e1 bf))))))
  (fun h1 =>
  .ret (bg [(J 1),.aa false,.aN [] [] []] (.e1 h1)))
theorem N1 {aH:List bC}{hs:List bo}{j7:List bC}{cV cL:Int}{r} (h:uu aH hs j7 cV cL=some r):dP a4 19 0 108 [1,0,1,0,0] (Gn aH hs j7 cV) (NZ aH hs j7 cV) cL r:=dQ (fun _=>UF) h
def zT (aH:List bC)(kY:cl):Option Int :=
 uu aH kY.bY kY.bs (len_ bB aH) 0 >>= fun r1 =>
 match r1 with
 | .inl dd=>(some (-1))
 | .inr dd=>(some dd)
theorem UU {aH:List bC}{kY:cl}:bD (zT aH kY) (fun r=>Con a4 108 [.isl 3 (aH.map bB),.fn 78 [.dS 2 [(gf kY)] 0 0]] [] (.n .i64 r) []):=by
 unfold zT
 exact .ar fun r1 o =>
  (let t1:List b0:=[(J 1),(J 3),.aN [] [] [(0,ii),(1,.comp [.cJ .id]),(7,ii),(8,ii)]];
  (by
  rcases r1 with dd|dd
  ·exact (.ret (bA (t1.append [.sub (.exit 0) [] [],(J 1)]) (.e1 (N1 o))))
  ·exact (.ret (bA (t1.append [.sub (.ret) [(4,.n .i64 dd)] []]) (.e1 (N1 o))))))
def zQ (aH:List bC)(kY:cl):Option Bool :=
 zT aH kY >>= fun r1 =>
 some (decide ((0:Int)≤r1))
theorem UO {aH:List bC}{kY:cl}:bD (zQ aH kY) (fun r=>Con a4 77 [.isl 3 (aH.map bB),.fn 78 [.dS 2 [(gf kY)] 0 0]] [] (.b r) []):=by
 unfold zQ
 exact .ar fun r1 o =>
  .ret (bA [(J 1),.aw (bq 2 (bu 2 (.n .i64 r1) true) 2)] (.aD (UU r1 o) (bR.n .i64 r1)))
def Hl (dg:List bo)(o1:Int)(aM:List bC):Int→S:=fun ov=>dv [(1,.ref 0 0 0 0),(16,.isl 4 (dg.map bw)),(17,.n .i64 o1),(18,.n .i64 ov)] [[ae.mk 2 [[.isl 4 (dg.map bw),.isl 3 (aM.map bB)]] .live]]
def HE (dg:List bo)(o1:Int)(aM:List bC):((Unit)⊕(Unit))→dy
 | .inl a=>⟨some 0,[(1,.ref 0 0 0 0)],[[ae.mk 2 [[.isl 4 (dg.map bw),.isl 3 (aM.map bB)]] .live]]⟩
 | .inr a=>⟨none,[(2,.b false)],[]⟩
def DE (dg:List bo)(o1:Int)(aM:List bC)(ov:Int):Option ((Int)⊕((Unit)⊕(Unit))) :=
 if (decide (ov<o1))=true then
  if 0≤ov∧ov<dg.length then
  dg[ov.toNat]? >>= fun az =>
  AS az >>= fun ax =>
  if ax=true then
   Am (⟨dg,aM⟩:cl) az.hj >>= fun de =>
   if (de != ov)=true then
    some (.inr (.inr ()))
   else
    some (.inl (R (ov+(1:Int))))
  else
   some (.inr (.inr ()))
  else none
 else
  some (.inr (.inl ()))
def DQ (dg:List bo)(o1:Int)(aM:List bC)(ov:Int):Option ((Unit)⊕(Unit)):=iter (fun w:Int=>DE dg o1 aM w) ov
theorem Vw {dg:List bo}{o1:Int}{aM:List bC}{ov:Int}:bD (DE dg o1 aM ov) (dO a4 40 0 56 [1,1,0,1,0,0] (Hl dg o1 aM ov) (Hl dg o1 aM) (HE dg o1 aM)):=by
 unfold DE
 exact .ite (fun h1 =>
  .aY fun o =>
  .ar fun az av =>
  .ar fun ax aX =>
  (let t1:List b0:=[(J 1),.aa true,.aw (bq 2 (.b5 (bw az)) 3)];
  have aV:=((.dW h1 o.1 (cX bw o.2) (b1 bw av) (Y5 ax aX) (bR.b ax)):cA _);
  .ite (fun bf =>
  .ar fun de cB =>
  (let t3:List b0:=t1.append [.aw (ai 1 (aj (bu 1 (.b ax) true) (ai 5 (aj (bu 2 (.n .i64 de) true) (ai 2 (aj (.aa false) []))))))];
  have eA:=aV.aI (.bi (cO bf) (cO bf) (cO bf) (cO bf) (X2 de cB) (bR.n .i64 de) (cO bf) (cO bf) (.e1 (cO bf)));
  .ite (fun cQ =>
  .ret (bg (t3.append [.aa true,(J 1),.aN [] [] (a8 [2])]) (eA.aI (.e1 cQ))))
  (fun cQ =>
  .ret (bg (t3.append [.aa false,(J 2),.aN [0] [.box [.id,.id]] (a8 [1,16,17,18])]) (eA.aI (.e1 cQ))))))
  (fun bf =>
  .ret (bg (t1.append [.aw (ai 1 (aj (bu 1 (.b ax) true) (ai 2 (cx 6 (aj (.aa true) []))))),.aa true,(J 1),.aN [] [] (a8 [2])]) (aV.aI (.gz (cM bf) (cM bf) (cM bf) (cM bf) (cM bf) (cM bf) (cM bf) cT))))))
  (fun h1 =>
  .ret (bg [(J 1),.aa false,.aN [0] [.box [.id,.id]] (a8 [1])] (.e1 h1)))
theorem Ot {dg:List bo}{o1:Int}{aM:List bC}{ov:Int}{r} (h:DQ dg o1 aM ov=some r):dP a4 40 0 56 [1,1,0,1,0,0] (Hl dg o1 aM) (HE dg o1 aM) ov r:=dQ (fun _=>Vw) h
def yd (aH:cl):Option Bool :=
 if (decide ((6:Int)<(len_ bw aH.bY)))=true then
  some false
 else
  if (decide ((8:Int)<(len_ bB aH.bs)))=true then
   some false
  else
   DQ aH.bY (len_ bw aH.bY) aH.bs 0 >>= fun bn =>
   match bn with
   | .inl fv=>(zQ aH.bs aH >>= fun cn =>
    some (!cn))
   | .inr fv=>(some false)
theorem XL {aH:cl}:bD (yd aH) (fun r=>Con a4 56 [.agg (gf aH)] [] (.b r) []):=by
 unfold yd
 exact .ite (fun h1 =>
  .ret (bA [(J 2),.aw (ai 5 (cx 4 (aj (.aa true) []))),.aa true,(J 1)] (.dW h1 h1 h1 h1 h1 cT)))
  (fun h1 =>
  (let t1:List b0:=[(J 2),.aw (ai 9 (aj (.aa false) []))];
  .ite (fun o =>
  .ret (bA (t1.append [.aa true,(J 1)]) (.dW h1 h1 h1 h1 h1 o)))
  (fun o =>
  .ar fun bn av =>
  (let t2:List b0:=t1.append [.aa false,(J 4),.aN [0] [.box [.id,.id]] (a8 [1,16,17,18])];
  (by
  rcases bn with fv|fv
  ·exact (.ar fun cn bf =>
  .ret (bA (t2.append [(HE aH.bY (len_ bw aH.bY) aH.bs (.inl fv)).e8,.aw (bq 3 (.call {ac:=[ii,.comp [.ptr [.id,.id]]],r:= .b cn,ej:=true,eC:=[0]}) 2)]) (.bi h1 h1 h1 h1 h1 o (Ot av) (oj (tq aH):iY [(gf aH)]) (.aD (UO cn bf) (bR.b cn)))))
  ·exact (.ret (bA (t2.append [.sub (.ret) [(2,.b false)] []]) (.eP h1 h1 h1 h1 h1 o (Ot av)))))))))
def AU (a3:Int):Option Bool :=
 if (decide ((-100:Int)≤a3))=true then
  some (decide (a3≤(100:Int)))
 else
  some false
theorem Y6 {a3:Int}:bD (AU a3) (fun r=>Con a4 81 [.n .i64 a3] [] (.b r) []):=by
 unfold AU
 exact .ite (fun h1 =>
  .ret (bA [(J 1),.aw (bq 5 (.aa true) 1)] (.bP h1 h1 h1)))
  (fun h1 =>
  .ret (bA [(J 1),.aw (ai 3 (cx 2 (aj (.aa false) (ai 1 []))))] (.bP h1 h1 h1)))
def D6 (a3:Int):Option Bool :=
 AU a3 >>= fun r1 =>
 some (!r1)
theorem X3 {a3:Int}:bD (D6 a3) (fun r=>Con a4 80 [.n .i64 a3] [] (.b r) []):=by
 unfold D6
 exact .ar fun r1 o =>
  .ret (bA [(J 1),.aw (bq 1 (bu 1 (.b r1) true) 2)] (.aD (Y6 r1 o) (bR.b r1)))
def Gs (aH:List Int)(cV:Int):Int→S:=fun cL=>dv [(0,.isl 1 (aH.map eI)),(1,.fn 80 []),(7,.n .i64 cV),(8,.n .i64 cL)] []
def N5 (aH:List Int)(cV:Int):((Unit)⊕(Int))→dy
 | .inl a=>⟨some 0,[],[]⟩
 | .inr a=>⟨none,[(4,.n .i64 a)],[]⟩
def wQ (aH:List Int)(cV cL:Int):Option ((Int)⊕((Unit)⊕(Int))) :=
 if (decide (cL<cV))=true then
  if 0≤cL∧cL<aH.length then
  aH[cL.toNat]? >>= fun az =>
  D6 az >>= fun ax =>
  if ax=true then
   some (.inr (.inr cL))
  else
   some (.inl (R (cL+(1:Int))))
  else none
 else
  some (.inr (.inl ()))
def GI (aH:List Int)(cV cL:Int):Option ((Unit)⊕(Int)):=iter (fun w:Int=>wQ aH cV w) cL
theorem UI {aH:List Int}{cV cL:Int}:bD (wQ aH cV cL) (dO a4 19 0 60 [1,0,1,0,0] (Gs aH cV cL) (Gs aH cV) (N5 aH cV)):=by
 unfold wQ
 exact .ite (fun h1 =>
  .aY fun o =>
  .ar fun az av =>
  .ar fun ax aX =>
  (let t1:List b0:=[(J 1),.aa true,(J 2),.aw (ai 4 (aj (.b5 (eI az)) (aj (bu 1 (.b ax) true) [])))];
  have aV:=((.dW h1 o.1 (cX eI o.2) (b1 eI av) (X3 ax aX) (bR.b ax)):cA _);
  .ite (fun bf =>
  .ret (bg (t1.append [.aa true,(J 2),.aN [] [] (a8 [4])]) (aV.aI (.e1 bf))))
  (fun bf =>
  .ret (bg (t1.append [.aa false,(J 2),.aN [] [] (a8 [0,1,7,8])]) (aV.aI (.e1 bf))))))
  (fun h1 =>
  .ret (bg [(J 1),.aa false,.aN [] [] []] (.e1 h1)))
theorem N6 {aH:List Int}{cV cL:Int}{r} (h:GI aH cV cL=some r):dP a4 19 0 60 [1,0,1,0,0] (Gs aH cV) (N5 aH cV) cL r:=dQ (fun _=>UI) h
def DB (aH:List Int):Option Int :=
 GI aH (len_ eI aH) 0 >>= fun r1 =>
 match r1 with
 | .inl dd=>(some (-1))
 | .inr dd=>(some dd)
theorem Ve {aH:List Int}:bD (DB aH) (fun r=>Con a4 60 [.isl 1 (aH.map eI),.fn 80 []] [] (.n .i64 r) []):=by
 unfold DB
 exact .ar fun r1 o =>
  (let t1:List b0:=[(J 1),(J 3),.aN [] [] (a8 [0,1,7,8])];
  (by
  rcases r1 with dd|dd
  ·exact (.ret (bA (t1.append [.sub (.exit 0) [] [],(J 1)]) (.e1 (N6 o))))
  ·exact (.ret (bA (t1.append [.sub (.ret) [(4,.n .i64 dd)] []]) (.e1 (N6 o))))))
def Dv (aH:List Int):Option Bool :=
 DB aH >>= fun r1 =>
 some (decide ((0:Int)≤r1))
theorem UW {aH:List Int}:bD (Dv aH) (fun r=>Con a4 39 [.isl 1 (aH.map eI),.fn 80 []] [] (.b r) []):=by
 unfold Dv
 exact .ar fun r1 o =>
  .ret (bA [(J 1),.aw (bq 2 (bu 2 (.n .i64 r1) true) 2)] (.aD (Ve r1 o) (bR.n .i64 r1)))
def AJ (aH:cl)(cp:List Int):Option Bool :=
 if ((len_ eI cp) == (R ((2:Int)*(len_ bw aH.bY))))=true then
  Dv cp >>= fun bV =>
  some (!bV)
 else
  some false
theorem YL {aH:cl}{cp:List Int}:bD (AJ aH cp) (fun r=>Con a4 57 [.dS 2 [(gf aH)] 0 0,.isl 1 (cp.map eI)] [] (.b r) []):=by
 unfold AJ
 exact .ite (fun h1 =>
  .ar fun bV af =>
  .ret (bA [(J 1),.aw (ai 11 (aj (bu 2 (.b bV) true) (bq 1 (.aa true) 1)))] (.dW h1 h1 (UW bV af) (bR.b bV) h1 h1)))
  (fun h1 =>
  .ret (bA [(J 1),.aw (ai 10 (cx 3 (aj (.aa false) (ai 1 []))))] (.c4 h1 h1 h1 h1)))
def u9 (aH:cl)(cp:List Int):Option Bool :=
 yd aH >>= fun r1 =>
 if r1=true then
  AJ aH cp >>= fun a6 =>
  some a6
 else
  some false
theorem Py {aH:cl}{cp:List Int}:bD (u9 aH cp) (fun r=>Con a4 36 [.agg (gf aH),.isl 1 (cp.map eI)] [] (.b r) []):=by
 unfold u9
 exact .ar fun r1 o =>
  (have b9:=((.aD (XL r1 o) (bR.b r1)):cA _);
  .ite (fun af =>
  .ar fun a6 aA =>
  .ret (bA [(J 2),.aw (ai 1 (aj (bu 1 (.b r1) true) (ai 2 (aj (.call {ac:=[.bp (.ptr [.id,.id]),ii],r:= .b a6,ej:=true,eC:=[0]}) (aj (.aa true) (ai 1 []))))))] (b9.aI (.dW af af (oj (tq aH):iY [(gf aH)]) (YL a6 aA) (bR.b a6) af))))
  (fun af =>
  .ret (bA [(J 2),.aw (ai 1 (aj (bu 1 (.b r1) true) (ai 1 (cx 2 (aj (.aa false) (ai 1 []))))))] (b9.aI (.bP af af af)))))
def GB (dJ:List bo)(df:Int):(Int×(List Int))→S:=fun (cU,ab)=>dv [(3,.bh 0 0 0 ab.length),(9,.isl 4 (dJ.map bw)),(10,.n .i64 df),(11,.n .i64 cU)] [(au 1 eI ab)]
def N8 (dJ:List bo)(df:Int):(List Int)→dy
 | a=>⟨some 0,[(3,.bh 0 0 0 a.length)],[(au 1 eI a)]⟩
def zR (dJ:List bo)(df cU:Int)(ab:List Int):Option ((Int×(List Int))⊕((List Int))) :=
 if (decide (cU<df))=true then
  if 0≤cU∧cU<dJ.length then
  dJ[cU.toNat]? >>= fun az =>
  if az.gQ=true then
   some (.inl (R (cU+(1:Int)),ab))
  else
   if (ab++([cU]:List Int)).length*8≤140737488355328 then
   some (.inl (R (cU+(1:Int)),ab++([cU]:List Int)))
   else none
  else none
 else
  some (.inr ab)
def GP (dJ:List bo)(df cU:Int)(ab:List Int):Option ((List Int)):=iter (fun w:Int×(List Int)=>zR dJ df w.1 w.2) (cU,ab)
theorem UP {dJ:List bo}{df cU:Int}{ab:List Int}:bD (zR dJ df cU ab) (dO a4 25 0 84 [1,1,0,1,0,0] (GB dJ df (cU,ab)) (GB dJ df) (N8 dJ df)):=by
 unfold zR
 exact .ite (fun h1 =>
  .aY fun o =>
  .ar fun az av =>
  (let t1:List b0:=[(J 1),.aa true,.aw (bq 2 (.b5 (bw az)) 3),(J 3)];
  have aV:=((.c4 h1 o.1 (cX bw o.2) (b1 bw av)):cA _);
  .ite (fun aA =>
  .ret (bg (t1.append [.aa false,(J 2),.aN [0] [.pure] (a8 [3,9,10,11])]) (aV.aI (.aD (cO aA) (aJ 1 .live aO ab)))))
  (fun aA =>
  .aY fun aX =>
  .ret (let q1:=(ab++([cU]:List Int));bg (t1.append [.aa true,.aw (bq 3 (.aI (q1.length)) 1),(J 2),.aN [14] [.cG (au 1 eI q1)] (a8 [3,9,10,11])]) (aV.aI (.eP (cM aA) (gF eI cU) (g9 eI ab) (gG eI ab cU) aX (c2 1 .live (hf eI ab cU)) (aJ 1 .live aO q1)))))))
  (fun h1 =>
  .ret (bg [(J 1),.aa false,.aN [0] [.pure] (a8 [3])] (.aD h1 (aJ 1 .live aO ab))))
theorem U5 {dJ:List bo}{df cU:Int}{ab:List Int}{r} (h:GP dJ df cU ab=some r):dP a4 25 0 84 [1,1,0,1,0,0] (GB dJ df) (N8 dJ df) (cU,ab) r:=dQ (fun _=>UP) h
def w8 (aH:cl):Option (List Int) :=
 GP aH.bY (len_ bw aH.bY) 0 ([]:List Int) >>= fun r1 =>
 some r1
theorem Oc {aH:cl}:bD (w8 aH) (fun r=>Con a4 84 [.dS 2 [(gf aH)] 0 0] [] (.isl 1 (r.map eI)) []):=by
 unfold w8
 exact .ar fun r1 o =>
  .ret (bA [(J 1),(J 1),(J 6),.sO 3 1,.aN [8] [.cG (au 1 eI ([]:List Int))] [(3,fW (([]:List Int).length)),(9,ii),(10,ii),(11,ii)],.sub (.exit 0) [(3,.bh 0 0 0 r1.length)] [(au 1 eI r1)],(J 2)] (.eP (c2 1 .live (nj eI)) (aJ 1 .live aO ([]:List Int)) (fg Int) (U5 o) (fw eI r1) (ff eI r1) (dk aO r1)) (.bp (.cJ (.dL (r1.map eI)))))
def rG (aH:cl)(aQ:Int):Option (Int×Int) :=
 if 0≤aQ∧aQ<aH.bs.length then
 aH.bs[aQ.toNat]? >>= fun ef =>
 if 0≤ef.dM∧ef.dM<aH.bY.length then
 aH.bY[ef.dM.toNat]? >>= fun eZ =>
 if 0≤ef.dt∧ef.dt<aH.bY.length then
 aH.bY[ef.dt.toNat]? >>= fun mx =>
 some (R (eZ.ga-mx.ga),R (eZ.f6-mx.f6))
 else none
 else none
 else none
theorem Wc {aH:cl}{aQ:Int}:bD (rG aH aQ) (fun r=>Con a4 109 [.dS 2 [(gf aH)] 0 0,.n .i64 aQ] [] (.ee [.n .i64 r.1,.n .i64 r.2]) []):=by
 unfold rG
 exact .aY fun h1 =>
  .ar fun ef af =>
  .aY fun av =>
  .ar fun eZ aX =>
  .aY fun bf =>
  .ar fun mx cB =>
  .ret (bA [(J 2),.aw (bq 6 (.b5 (bB ef)) 2),.aw (ai 8 (aj (.b5 (bw eZ)) (ai 8 (aj (.b5 (bw mx)) (ai 9 (aj (.b5 (bw eZ)) (bq 8 (.b5 (bw mx)) 3)))))))] (.bi h1.1 (cX bB h1.2) (b1 bB af) av.1 (cX bw av.2) (b1 bw aX) bf.1 (cX bw bf.2) (.eP (b1 bw cB) av.1 (cX bw av.2) (b1 bw aX) bf.1 (cX bw bf.2) (b1 bw cB))))
def Gw (e4:List bo)(ew:List bC)(bX:Int)(cm:List Int)(bS da dC:Int)(ab:List (List Int)):(Int×(List Int)×(List Int))→S:=fun (gD,ao,aC)=>dv [(0,.dS 2 [[.isl 4 (e4.map bw),.isl 3 (ew.map bB)]] 0 0),(3,.bh 0 0 0 ab.length),(5,.n .i64 bX),(6,.bh 1 0 0 ao.length),(7,.bh 2 0 0 aC.length),(13,.isl 1 (cm.map eI)),(14,.n .i64 bS),(15,.n .i64 da),(34,.isl 3 (ew.map bB)),(35,.n .i64 dC),(36,.n .i64 gD)] [(au 1 (eD 1 eI) ab),(au 1 eI ao),(au 1 eI aC)]
def GC (e4:List bo)(ew:List bC)(bX:Int)(cm:List Int)(bS da dC:Int)(ab:List (List Int)):((List Int)×(List Int))→dy
 | a=>⟨some 2,[(0,.dS 2 [[.isl 4 (e4.map bw),.isl 3 (ew.map bB)]] 0 0),(3,.bh 0 0 0 ab.length),(6,.bh 1 0 0 a.1.length),(7,.bh 2 0 0 a.2.length),(13,.isl 1 (cm.map eI)),(14,.n .i64 bS),(15,.n .i64 da)],[(au 1 (eD 1 eI) ab),(au 1 eI a.1),(au 1 eI a.2)]⟩
def wU (e4:List bo)(ew:List bC)(bX:Int)(cm:List Int)(bS da dC:Int)(ab:List (List Int))(gD:Int)(ao aC:List Int):Option ((Int×(List Int)×(List Int))⊕((List Int)×(List Int))) :=
 if (decide (gD<dC))=true then
  if 0≤gD∧gD<ew.length then
  ew[gD.toNat]? >>= fun az =>
  rG (⟨e4,ew⟩:cl) gD >>= fun ax =>
  if (bX == az.dt)=true then
   if 0≤gD∧gD<(ao.length:Nat) then
   if (0+gD.toNat)<ao.length then
   if 0≤gD∧gD<(aC.length:Nat) then
   if (0+gD.toNat)<aC.length then
   some (.inl (R (gD+(1:Int)),ao.set (0+gD.toNat) ax.1,aC.set (0+gD.toNat) ax.2))
   else none
   else none
   else none
   else none
  else
   if (bX == az.dM)=true then
    if 0≤gD∧gD<(ao.length:Nat) then
    if (0+gD.toNat)<ao.length then
    if 0≤gD∧gD<(aC.length:Nat) then
    if (0+gD.toNat)<aC.length then
    some (.inl (R (gD+(1:Int)),ao.set (0+gD.toNat) (R (0-ax.1)),aC.set (0+gD.toNat) (R (0-ax.2))))
    else none
    else none
    else none
    else none
   else
    some (.inl (R (gD+(1:Int)),ao,aC))
  else none
 else
  some (.inr (ao,aC))
def Dz (e4:List bo)(ew:List bC)(bX:Int)(cm:List Int)(bS da dC:Int)(ab:List (List Int))(gD:Int)(ao aC:List Int):Option ((List Int)×(List Int)):=iter (fun w:Int×(List Int)×(List Int)=>wU e4 ew bX cm bS da dC ab w.1 w.2.1 w.2.2) (gD,ao,aC)
theorem UM {e4:List bo}{ew:List bC}{bX:Int}{cm:List Int}{bS da dC:Int}{ab:List (List Int)}{gD:Int}{ao aC:List Int}:bD (wU e4 ew bX cm bS da dC ab gD ao aC) (dO a4 82 0 82 [1,1,0,1,0,0,1,1,0,0,1,1,0,1,0,0] (Gw e4 ew bX cm bS da dC ab (gD,ao,aC)) (Gw e4 ew bX cm bS da dC ab) (GC e4 ew bX cm bS da dC ab)):=by
 unfold wU
 exact .ite (fun h1 =>
  .aY fun o =>
  .ar fun az av =>
  .ar fun ax aX =>
  (let t1:List b0:=[(J 1),.aa true,.aw (bq 2 (.b5 (bB az)) 3),.aw (bq 2 (bu 2 (.ee [.n .i64 ax.1,.n .i64 ax.2]) true) 5),(J 1),(J 4)];
  have aV:=((.dW h1 o.1 (cX bB o.2) (b1 bB av) (Wc ax aX) (E8 (mD (bR.n .i64 ax.1) (mD (bR.n .i64 ax.2) rT)))):cA _);
  .ite (fun bf =>
  .aY fun bl =>
  .aY fun cB =>
  .aY fun cQ =>
  .aY fun fe =>
  .ret (bg (t1.append [.aa true,.aw (ai 7 (aj .fZ (ai 1 (aj .fZ [])))),(J 2),.aN [0,1,2] [.pure,.cG (au 1 eI (ao.set (0+gD.toNat) ax.1)),.cG (au 1 eI (aC.set (0+gD.toNat) ax.2))] [(0,ii),(3,ii),(5,ii),(6,fW ((ao.set (0+gD.toNat) ax.1).length)),(7,fW ((aC.set (0+gD.toNat) ax.2).length)),(13,ii),(14,ii),(15,ii),(34,ii),(35,ii),(36,ii)]]) (aV.aI (.bi bf bl.1 bl.2 (hT eI cB) (hM 1) cQ.1 cQ.2 (hT eI fe) (.gz (hM 1) (aJ 1 .live (nt (sz:=1) aO) ab) (c2 1 .live (gP (cZ eI ao) (0+gD.toNat) ax.1)) (aJ 1 .live aO (ao.set (0+gD.toNat) ax.1)) (c2 1 .live (gP (cZ eI aC) (0+gD.toNat) ax.2)) (aJ 1 .live aO (aC.set (0+gD.toNat) ax.2)) (hi (dX ao) (0+gD.toNat) ax.1) (hi (dX aC) (0+gD.toNat) ax.2))))))
  (fun bf =>
  .ite (fun bl =>
  .aY fun cB =>
  .aY fun cQ =>
  .aY fun fe =>
  .aY fun eK =>
  .ret (let q1:=R (0-ax.1);let a7:=R (0-ax.2);bg (t1.append [.aa false,(J 4),.aa true,.aw (ai 9 (aj .fZ (ai 1 (aj .fZ [])))),(J 2),.aN [0,1,2] [.pure,.cG (au 1 eI (ao.set (0+gD.toNat) q1)),.cG (au 1 eI (aC.set (0+gD.toNat) a7))] [(0,ii),(3,ii),(5,ii),(6,fW ((ao.set (0+gD.toNat) q1).length)),(7,fW ((aC.set (0+gD.toNat) a7).length)),(13,ii),(14,ii),(15,ii),(34,ii),(35,ii),(36,ii)]]) (aV.aI (.bi bf bl cB.1 cB.2 (hT eI cQ) (hM 1) fe.1 fe.2 (.bi (hT eI eK) (hM 1) (aJ 1 .live (nt (sz:=1) aO) ab) (c2 1 .live (gP (cZ eI ao) (0+gD.toNat) q1)) (aJ 1 .live aO (ao.set (0+gD.toNat) q1)) (c2 1 .live (gP (cZ eI aC) (0+gD.toNat) a7)) (aJ 1 .live aO (aC.set (0+gD.toNat) a7)) (hi (dX ao) (0+gD.toNat) q1) (.e1 (hi (dX aC) (0+gD.toNat) a7)))))))
  (fun bl =>
  .ret (bg (t1.append [.aa false,(J 4),.aa false,(J 2),.aN [0,1,2] [.pure,.pure,.pure] (a8 [0,3,5,6,7,13,14,15,34,35,36])]) (aV.aI (.dh bf bl (aJ 1 .live (nt (sz:=1) aO) ab) (aJ 1 .live aO ao) (aJ 1 .live aO aC))))))))
  (fun h1 =>
  .ret (bg [(J 1),.aa false,.aN [0,1,2] [.pure,.pure,.pure] (a8 [0,3,6,7,13,14,15])] (.c4 h1 (aJ 1 .live (nt (sz:=1) aO) ab) (aJ 1 .live aO ao) (aJ 1 .live aO aC))))
theorem U2 {e4:List bo}{ew:List bC}{bX:Int}{cm:List Int}{bS da dC:Int}{ab:List (List Int)}{gD:Int}{ao aC:List Int}{r} (h:Dz e4 ew bX cm bS da dC ab gD ao aC=some r):dP a4 82 0 82 [1,1,0,1,0,0,1,1,0,0,1,1,0,1,0,0] (Gw e4 ew bX cm bS da dC ab) (GC e4 ew bX cm bS da dC ab) (gD,ao,aC) r:=dQ (fun _=>UM) h
def Gx (e4:List bo)(ew:List bC)(cm:List Int)(bS:Int):(Int×(List (List Int)))→S:=fun (da,ab)=>dv [(0,.dS 2 [[.isl 4 (e4.map bw),.isl 3 (ew.map bB)]] 0 0),(3,.bh 0 0 0 ab.length),(13,.isl 1 (cm.map eI)),(14,.n .i64 bS),(15,.n .i64 da)] [(au 1 (eD 1 eI) ab)]
def N7 (e4:List bo)(ew:List bC)(cm:List Int)(bS:Int):(List (List Int))→dy
 | a=>⟨some 0,[(3,.bh 0 0 0 a.length)],[(au 1 (eD 1 eI) a)]⟩
def wV (e4:List bo)(ew:List bC)(cm:List Int)(bS da:Int)(ab:List (List Int)):Option ((Int×(List (List Int)))⊕((List (List Int)))) :=
 if (decide (da<bS))=true then
  if 0≤da∧da<cm.length then
  cm[da.toNat]? >>= fun az =>
  if 0≤(len_ bB ew)∧(8:Int)*(len_ bB ew)≤281474976710656∧(len_ bB ew)<9223372036854775808 then
  Dz e4 ew az cm bS da (len_ bB ew) ab 0 (List.replicate (len_ bB ew).toNat 0:List Int) (List.replicate (len_ bB ew).toNat 0:List Int) >>= fun cn =>
  if (ab++([cn.1,cn.2]:List (List Int))).length*24≤140737488355328 then
  some (.inl (R (da+(1:Int)),ab++([cn.1,cn.2]:List (List Int))))
  else none
  else none
  else none
 else
  some (.inr ab)
def GO (e4:List bo)(ew:List bC)(cm:List Int)(bS da:Int)(ab:List (List Int)):Option ((List (List Int))):=iter (fun w:Int×(List (List Int))=>wV e4 ew cm bS w.1 w.2) (da,ab)
theorem UN {e4:List bo}{ew:List bC}{cm:List Int}{bS da:Int}{ab:List (List Int)}:bD (wV e4 ew cm bS da ab) (dO a4 82 0 82 [1,1,0,1,0,0] (Gx e4 ew cm bS (da,ab)) (Gx e4 ew cm bS) (N7 e4 ew cm bS)):=by
 unfold wV
 exact .ite (fun h1 =>
  .aY fun o =>
  .ar fun az av =>
  .aY fun aA =>
  .ar fun cn bf =>
  .aY fun bl =>
  .ret (let a7:=(ab++([cn.1,cn.2]:List (List Int)));let bZ:=len_ bB ew;let q1:=(List.replicate bZ.toNat 0:List Int);let cC:=nt (sz:=1) aO;let dr:=c2 1 .live (lY eI bZ.toNat 0);bg [(J 1),.aa true,.aw (bq 1 (.b5 (eI az)) 1),(J 14),(J 6),.aN [0,10,16] [.pure,.cG (au 1 eI q1),.cG (au 1 eI q1)] [(0,ii),(3,ii),(5,ii),(6,fW (q1.length)),(7,fW (q1.length)),(13,ii),(14,ii),(15,ii),(34,ii),(35,ii),(36,ii)],(GC e4 ew az cm bS da bZ ab cn).e8,.aN [0] [.pure] [(0,ii),(3,ii),(6,.bp (.cJ (.dL (cn.1.map eI)))),(7,.bp (.cJ (.dL (cn.2.map eI)))),(13,ii),(14,ii),(15,ii)],.aw (bq 4 (.aI (a7.length)) 1),(J 2),.aN [5] [.cG (au 1 (eD 1 eI) a7)] (a8 [0,3,13,14,15])] (.bi h1 o.1 (cX eI o.2) (b1 eI av) aA.1 (Int.le_refl bZ) aA.2.1 aA.2.2 (.bi aA.1 (Int.le_refl bZ) aA.2.1 aA.2.2 (aJ 1 .live cC ab) dr (aJ 1 .live aO q1) dr (.bi (aJ 1 .live aO q1) (mh bZ.toNat (0:Int)) (mh bZ.toNat (0:Int)) (U2 bf) (aJ 1 .live cC ab) (fw eI cn.1) (ff eI cn.1) (dk aO cn.1) (.bi (fw eI cn.2) (ff eI cn.2) (dk aO cn.2) (lm (show [[.isl 1 (cn.1.map eI)],[.isl 1 (cn.2.map eI)]]=(([cn.1,cn.2]:List (List Int))).map (eD 1 eI) from rfl) (show 2=([cn.1,cn.2]:List (List Int)).length from rfl)) (g9 (eD 1 eI) ab) (lZ (dX ab) (ol (show [[.isl 1 (cn.1.map eI)],[.isl 1 (cn.2.map eI)]]=(([cn.1,cn.2]:List (List Int))).map (eD 1 eI) from rfl) (show 2=([cn.1,cn.2]:List (List Int)).length from rfl)):a7.length=ab.length+(([[.isl 1 (cn.1.map eI)],[.isl 1 (cn.2.map eI)]].drop 0).take 2).length) bl (c2 1 .live (iz (cZ (eD 1 eI) ab) (dX ab) (ol (show [[.isl 1 (cn.1.map eI)],[.isl 1 (cn.2.map eI)]]=(([cn.1,cn.2]:List (List Int))).map (eD 1 eI) from rfl) (show 2=([cn.1,cn.2]:List (List Int)).length from rfl)))) (.e1 (aJ 1 .live cC a7))))))))
  (fun h1 =>
  .ret (bg [(J 1),.aa false,.aN [0] [.pure] (a8 [3])] (.aD h1 (aJ 1 .live (nt (sz:=1) aO) ab))))
theorem U3 {e4:List bo}{ew:List bC}{cm:List Int}{bS da:Int}{ab:List (List Int)}{r} (h:GO e4 ew cm bS da ab=some r):dP a4 82 0 82 [1,1,0,1,0,0] (Gx e4 ew cm bS) (N7 e4 ew cm bS) (da,ab) r:=dQ (fun _=>UN) h
def zW (aH:cl):Option (List (List Int)) :=
 w8 aH >>= fun r1 =>
 GO aH.bY aH.bs r1 (len_ eI r1) 0 ([]:List (List Int)) >>= fun bn =>
 some bn
theorem Vh {aH:cl}:bD (zW aH) (fun r=>Con a4 82 [.dS 2 [(gf aH)] 0 0] [] (.isl 1 (r.map (eD 1 eI))) []):=by
 unfold zW
 exact .ar fun r1 o =>
  .ar fun bn av =>
  .ret (bA [(J 1),(J 1),.aw (bq 1 (bu 1 (.isl 1 (r1.map eI)) false) 2),.sO 3 1,.aN [6] [.cG (au 1 (eD 1 eI) ([]:List (List Int)))] [(0,ii),(3,fW (([]:List (List Int)).length)),(13,ii),(14,ii),(15,ii)],.sub (.exit 0) [(3,.bh 0 0 0 bn.length)] [(au 1 (eD 1 eI) bn)],(J 2)] (.gz (Oc r1 o) (c2 1 .live (nj (eD 1 eI))) (aJ 1 .live (nt (sz:=1) aO) ([]:List (List Int))) (fg (List Int)) (U3 av) (fw (eD 1 eI) bn) (ff (eD 1 eI) bn) (dk (nt (sz:=1) aO) bn)) (.bp (.cJ (.dL (bn.map (eD 1 eI))))))
def GJ (dJ:List bC)(df:Int):(Int×(List eJ))→S:=fun (cU,ab)=>dv [(3,.bh 0 0 0 ab.length),(9,.isl 3 (dJ.map bB)),(10,.n .i64 df),(11,.n .i64 cU)] [(au 2 gB ab)]
def N9 (dJ:List bC)(df:Int):(List eJ)→dy
 | a=>⟨some 0,[(3,.bh 0 0 0 a.length)],[(au 2 gB a)]⟩
def wY (dJ:List bC)(df cU:Int)(ab:List eJ):Option ((Int×(List eJ))⊕((List eJ))) :=
 if (decide (cU<df))=true then
  if 0≤cU∧cU<dJ.length then
  dJ[cU.toNat]? >>= fun az =>
  if (az.gk != (2:Int))=true then
   if (ab++([(⟨cU,1⟩:eJ)]:List eJ)).length*16≤140737488355328 then
   if (az.gk != (1:Int))=true then
    if ((ab++([(⟨cU,1⟩:eJ)]:List eJ))++([(⟨cU,(-1)⟩:eJ)]:List eJ)).length*16≤140737488355328 then
    some (.inl (R (cU+(1:Int)),(ab++([(⟨cU,1⟩:eJ)]:List eJ))++([(⟨cU,(-1)⟩:eJ)]:List eJ)))
    else none
   else
    some (.inl (R (cU+(1:Int)),ab++([(⟨cU,1⟩:eJ)]:List eJ)))
   else none
  else
   if (az.gk != (1:Int))=true then
    if (ab++([(⟨cU,(-1)⟩:eJ)]:List eJ)).length*16≤140737488355328 then
    some (.inl (R (cU+(1:Int)),ab++([(⟨cU,(-1)⟩:eJ)]:List eJ)))
    else none
   else
    some (.inl (R (cU+(1:Int)),ab))
  else none
 else
  some (.inr ab)
def G9 (dJ:List bC)(df cU:Int)(ab:List eJ):Option ((List eJ)):=iter (fun w:Int×(List eJ)=>wY dJ df w.1 w.2) (cU,ab)
theorem UX {dJ:List bC}{df cU:Int}{ab:List eJ}:bD (wY dJ df cU ab) (dO a4 34 0 83 [1,1,0,1,0,0] (GJ dJ df (cU,ab)) (GJ dJ df) (N9 dJ df)):=by
 unfold wY
 exact .ite (fun h1 =>
  .aY fun o =>
  .ar fun az av =>
  (let t1:List b0:=[(J 1),.aa true,.aw (bq 2 (.b5 (bB az)) 3),(J 3)];
  have aV:=((.c4 h1 o.1 (cX bB o.2) (b1 bB av)):cA _);
  .ite (fun aA =>
  .aY fun aX =>
  (let t3:List b0:=t1.append [.aa true,.aw (bq 4 (.aI ((ab++([(⟨cU,1⟩:eJ)]:List eJ)).length)) 1),(J 3)];
  have eA:=aV.aI (.dh aA (gF gB (⟨cU,1⟩:eJ)) (g9 gB ab) (gG gB ab (⟨cU,1⟩:eJ)) aX);
  .ite (fun bf =>
  .aY fun bl =>
  .ret (let q1:=(ab++([(⟨cU,1⟩:eJ)]:List eJ));let a7:=(q1++([(⟨cU,(-1)⟩:eJ)]:List eJ));let bZ:=(hf gB ab (⟨cU,1⟩:eJ));bg (t3.append [.aa true,.aw (bq 4 (.aI (a7.length)) 1),(J 2),.aN [24] [.cG (au 2 gB a7)] (a8 [3,9,10,11])]) (eA.aI (.eP bf (gF gB (⟨cU,(-1)⟩:eJ)) (nu bZ (dX q1)) (gG gB q1 (⟨cU,(-1)⟩:eJ)) bl (c2 2 .live (iz bZ (dX q1) (wC gB (⟨cU,(-1)⟩:eJ)))) (aJ 2 .live uT a7)))))
  (fun bf =>
  .ret (let cC:=(ab++([(⟨cU,1⟩:eJ)]:List eJ));bg (t3.append [.aa false,(J 2),.aN [15] [.cG (au 2 gB cC)] (a8 [3,9,10,11])]) (eA.aI (.bP bf (c2 2 .live (hf gB ab (⟨cU,1⟩:eJ))) (aJ 2 .live uT cC)))))))
  (fun aA =>
  .ite (fun aX =>
  .aY fun bf =>
  .ret (let dr:=(ab++([(⟨cU,(-1)⟩:eJ)]:List eJ));bg (t1.append [.aa false,(J 3),.aa true,.aw (bq 4 (.aI (dr.length)) 1),(J 2),.aN [18] [.cG (au 2 gB dr)] (a8 [3,9,10,11])]) (aV.aI (.gz aA aX (gF gB (⟨cU,(-1)⟩:eJ)) (g9 gB ab) (gG gB ab (⟨cU,(-1)⟩:eJ)) bf (c2 2 .live (hf gB ab (⟨cU,(-1)⟩:eJ))) (aJ 2 .live uT dr)))))
  (fun aX =>
  .ret (bg (t1.append [.aa false,(J 3),.aa false,(J 2),.aN [0] [.pure] (a8 [3,9,10,11])]) (aV.aI (.bP aA aX (aJ 2 .live uT ab))))))))
  (fun h1 =>
  .ret (bg [(J 1),.aa false,.aN [0] [.pure] (a8 [3])] (.aD h1 (aJ 2 .live uT ab))))
theorem Vk {dJ:List bC}{df cU:Int}{ab:List eJ}{r} (h:G9 dJ df cU ab=some r):dP a4 34 0 83 [1,1,0,1,0,0] (GJ dJ df) (N9 dJ df) (cU,ab) r:=dQ (fun _=>UX) h
def z0 (aH:cl):Option (List eJ) :=
 G9 aH.bs (len_ bB aH.bs) 0 ([]:List eJ) >>= fun r1 =>
 some r1
theorem VW {aH:cl}:bD (z0 aH) (fun r=>Con a4 83 [.dS 2 [(gf aH)] 0 0] [] (.isl 2 (r.map gB)) []):=by
 unfold z0
 exact .ar fun r1 o =>
  .ret (bA [(J 1),(J 1),(J 6),.sO 3 2,.aN [8] [.cG (au 2 gB ([]:List eJ))] [(3,fW (([]:List eJ).length)),(9,ii),(10,ii),(11,ii)],.sub (.exit 0) [(3,.bh 0 0 0 r1.length)] [(au 2 gB r1)],(J 2)] (.eP (c2 2 .live (nj gB)) (aJ 2 .live uT ([]:List eJ)) (fg eJ) (Vk o) (fw gB r1) (ff gB r1) (dk uT r1)) (.bp (.cJ (.dL (r1.map gB)))))
end Go.Proofs.YtmeimpeaagmneabGreat
