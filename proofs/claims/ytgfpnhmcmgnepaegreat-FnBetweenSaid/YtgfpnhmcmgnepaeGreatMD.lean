/- Lemmas, plain functions of the program, and what they answer. No condition. -/
import Derived.Test.YtgfpnhmcmgnepaeGreatMC
namespace Go.Proofs.YtgfpnhmcmgnepaeGreat
set_option linter.unusedVariables false
set_option linter.unusedSimpArgs false
open Go Go.VL
def H9 (au:List Int):Nat→S:=fun lQ=>eV [(0,.bC 0 0 0 lQ)] [(av 1 I au)]
def Iy (au:List Int):Nat→e3
 | a=>⟨some 0,[(0,.bC 0 0 0 a)],[(av 1 I au)]⟩
def xO (au:List Int)(lQ:Nat):Option ((Nat)⊕(Nat)) :=
 if (decide ((0:Int)<((lQ:Nat):Int)))=true then
  if 0≤(U (((lQ:Nat):Int)-(1:Int)))∧(U (((lQ:Nat):Int)-(1:Int)))<(lQ:Nat) then
  au[(0+(U (((lQ:Nat):Int)-(1:Int))).toNat)]? >>= fun aQ =>
  if (aQ == (0:Int))=true then
   if 0≤(U (((lQ:Nat):Int)-(1:Int))) then
   if 0≤(U (((lQ:Nat):Int)-(1:Int))).toNat∧(U (((lQ:Nat):Int)-(1:Int))).toNat≤lQ then
   some (.inl ((U (((lQ:Nat):Int)-(1:Int))).toNat-0))
   else none
   else none
  else
   some (.inr lQ)
  else none
 else
  some (.inr lQ)
def Jc (au:List Int)(lQ:Nat):Option (Nat):=iter (fun w:Nat=>xO au w) lQ
theorem Vl {au:List Int}{lQ:Nat}:b1 (xO au lQ) (fA bt 21 1 108 [1,0,0,0] (H9 au lQ) (H9 au) (Iy au)):=by
 unfold xO
 exact .ite (fun o =>
  .bq fun J =>
  .aw fun aQ ay =>
  (let t1:List cK:=[.aG (ae 9 (ah (.cA (I aQ)) (ae 1 (ah (.aj true) []))))];
  have a4:=((.bj o o o o o J.1 J.2 o (.b2 (cD I ay) o o)):c1 _);
  .ite (fun aI =>
  .bq fun bu =>
  .bq fun bx =>
  .ret (bT (t1.append [.aj true,(ad 6),.bp [0] [.pure] (bO [0])]) (a4.aZ (.ej aI bu bx.1 bx.2 (aF 1 .live aD au)))))
  (fun aI =>
  .ret (bT (t1.append [.aj false,.bp [0] [.pure] (bO [0])]) (a4.aZ (.aH aI (aF 1 .live aD au)))))))
  (fun o =>
  .ret (bT [.aG (ae 4 (cm 7 (ah (.aj false) []))),.aj false,.bp [0] [.pure] (bO [0])] (.bj o o o o o o o o (.aH ez (aF 1 .live aD au)))))
theorem V8 {au:List Int}{lQ:Nat}{r} (h:Jc au lQ=some r):fB bt 21 1 108 [1,0,0,0] (H9 au) (Iy au) lQ r:=fD (fun _=>Vl) h
def Au (d7:List Int):Option Nat :=
 Jc d7 d7.length >>= fun aq =>
 some aq
theorem WE {d7:List Int}:b1 (Au d7) (fun a=>Con bt 108 [.bC 0 0 0 d7.length] [(av 1 I d7)] (.bC 0 0 0 a) [(av 1 I d7)]):=by
 unfold Au
 exact .aw fun aq J =>
  .ret (hE [(ad 1),.bp [0] [.pure] (bO [0]),(Iy d7 aq).gp,(ad 2)] [0] [.pure] (.b2 (aF 1 .live aD d7) (V8 J) (aF 1 .live aD d7)))
def HR (bd:List Int)(a8 aS:Int)(dA:List Int)(d2 dx:Int):(Int×Int×(List Int))→S:=fun (eA,db,au)=>eV [(1,.isl 1 (bd.map I)),(5,.bC 0 0 0 au.length),(6,.n .i64 a8),(7,.n .i64 aS),(8,.n .i64 eA),(26,.isl 1 (dA.map I)),(27,.n .i64 d2),(28,.n .i64 a8),(33,.isl 1 (bd.map I)),(34,.n .i64 dx),(35,.n .i64 db)] [(av 1 I au)]
def Ia (bd:List Int)(a8 aS:Int)(dA:List Int)(d2 dx:Int):(Int×(List Int))→e3
 | a=>⟨some 2,[(1,.isl 1 (bd.map I)),(5,.bC 0 0 0 a.2.length),(6,.n .i64 a8),(8,.n .i64 a.1),(26,.isl 1 (dA.map I)),(27,.n .i64 d2),(28,.n .i64 a8)],[(av 1 I a.2)]⟩
def HS (bd:List Int)(a8 aS:Int)(dA:List Int)(d2 dx eA db:Int)(au:List Int):Option ((Int×Int×(List Int))⊕(Int×(List Int))) :=
 if (decide (db<dx))=true then
  if 0≤db∧db<bd.length then
  bd[db.toNat]? >>= fun aQ =>
  if 0≤(U (a8+db))∧(U (a8+db))<(au.length:Nat) then
  au[(0+(U (a8+db)).toNat)]? >>= fun cP =>
  if (0+(U (a8+db)).toNat)<au.length then
  some (.inl (U ((U ((U (cP+(U (aS*aQ))))+eA)).tdiv (1000000000:Int)),U (db+(1:Int)),au.set (0+(U (a8+db)).toNat) ((U ((U (cP+(U (aS*aQ))))+eA)).tmod (1000000000:Int))))
  else none
  else none
  else none
 else
  some (.inr (eA,au))
def N9 (bd:List Int)(a8 aS:Int)(dA:List Int)(d2 dx eA db:Int)(au:List Int):Option (Int×(List Int)):=iter (fun w:Int×Int×(List Int)=>HS bd a8 aS dA d2 dx w.1 w.2.1 w.2.2) (eA,db,au)
theorem U6 {bd:List Int}{a8 aS:Int}{dA:List Int}{d2 dx eA db:Int}{au:List Int}:b1 (HS bd a8 aS dA d2 dx eA db au) (fA bt 72 0 96 [1,1,1,0,1,0,0,1,1,0,0,1,1,0,1,0,0] (HR bd a8 aS dA d2 dx (eA,db,au)) (HR bd a8 aS dA d2 dx) (Ia bd a8 aS dA d2 dx)):=by
 unfold HS
 exact .ite (fun o =>
  .bq fun J =>
  .aw fun aQ ay =>
  .bq fun aI =>
  .aw fun cP bx =>
  .bq fun bn =>
  .ret (let aR:=U ((U (cP+(U (aS*aQ))))+eA);let bb:=U (a8+db);bT [(ad 1),.aj true,.aG (bQ 2 (.cA (I aQ)) 2),.aG (bQ 5 (.cA (I cP)) 7),.aG (bQ 9 .cU 1),(ad 2),.bp [0] [.d3 (av 1 I (au.set (0+bb.toNat) (aR.tmod (1000000000:Int))))] [(1,ii),(5,gQ ((au.set (0+bb.toNat) (aR.tmod (1000000000:Int))).length)),(6,ii),(7,ii),(8,ii),(26,ii),(27,ii),(28,ii),(33,ii),(34,ii),(35,ii)]] (.bj o J.1 (d9 I J.2) (cD I ay) aI.1 aI.2 (cD I bx) (by decide:(1000000000:Int)≠0) (.hB (by decide:(1000000000:Int)≠0) aI.1 aI.2 (hk I bn) (gL 1) (eX 1 .live (fP (dV I au) (0+bb.toNat) (aR.tmod (1000000000:Int)))) (aF 1 .live aD (au.set (0+bb.toNat) (aR.tmod (1000000000:Int)))) (gN (ft au) (0+bb.toNat) (aR.tmod (1000000000:Int)))))))
  (fun o =>
  .ret (bT [(ad 1),.aj false,.bp [0] [.pure] (bO [1,5,6,8,26,27,28])] (.aH o (aF 1 .live aD au))))
theorem VR {bd:List Int}{a8 aS:Int}{dA:List Int}{d2 dx eA db:Int}{au:List Int}{r} (h:N9 bd a8 aS dA d2 dx eA db au=some r):fB bt 72 0 96 [1,1,1,0,1,0,0,1,1,0,0,1,1,0,1,0,0] (HR bd a8 aS dA d2 dx) (Ia bd a8 aS dA d2 dx) (eA,db,au) r:=fD (fun _=>U6) h
def HT (bd dA:List Int)(d2:Int):(Int×(List Int))→S:=fun (gi,au)=>eV [(1,.isl 1 (bd.map I)),(5,.bC 0 0 0 au.length),(26,.isl 1 (dA.map I)),(27,.n .i64 d2),(28,.n .i64 gi)] [(av 1 I au)]
def Ib (bd dA:List Int)(d2:Int):(List Int)→e3
 | a=>⟨some 0,[(5,.bC 0 0 0 a.length)],[(av 1 I a)]⟩
def HU (bd dA:List Int)(d2 gi:Int)(au:List Int):Option ((Int×(List Int))⊕((List Int))) :=
 if (decide (gi<d2))=true then
  if 0≤gi∧gi<dA.length then
  dA[gi.toNat]? >>= fun aQ =>
  N9 bd gi aQ dA d2 (len_ I bd) 0 0 au >>= fun ba =>
  if 0≤(U (gi+(len_ I bd)))∧(U (gi+(len_ I bd)))<(ba.2.length:Nat) then
  if (0+(U (gi+(len_ I bd))).toNat)<ba.2.length then
  some (.inl (U (gi+(1:Int)),ba.2.set (0+(U (gi+(len_ I bd))).toNat) ba.1))
  else none
  else none
  else none
 else
  some (.inr au)
def I6 (bd dA:List Int)(d2 gi:Int)(au:List Int):Option ((List Int)):=iter (fun w:Int×(List Int)=>HU bd dA d2 w.1 w.2) (gi,au)
theorem U7 {bd dA:List Int}{d2 gi:Int}{au:List Int}:b1 (HU bd dA d2 gi au) (fA bt 72 0 96 [1,1,1,0,1,0,0] (HT bd dA d2 (gi,au)) (HT bd dA d2) (Ib bd dA d2)):=by
 unfold HU
 exact .ite (fun o =>
  .bq fun J =>
  .aw fun aQ ay =>
  .aw fun ba bu =>
  .bq fun bx =>
  .bq fun bn =>
  .ret (let aR:=U (gi+(len_ I bd));bT [(ad 1),.aj true,.aG (bQ 2 (.cA (I aQ)) 2),(ad 1),(ad 3),.bp [0] [.pure] (bO [1,5,6,7,8,26,27,28,33,34,35]),(Ia bd gi aQ dA d2 (len_ I bd) ba).gp,.aG (ae 7 (ah .cU [])),(ad 2),.bp [0] [.d3 (av 1 I (ba.2.set (0+aR.toNat) ba.1))] [(1,ii),(5,gQ ((ba.2.set (0+aR.toNat) ba.1).length)),(26,ii),(27,ii),(28,ii)]] (.bj o J.1 (d9 I J.2) (cD I ay) (aF 1 .live aD au) (VR bu) bx.1 bx.2 (.ej (hk I bn) (gL 1) (eX 1 .live (fP (dV I ba.2) (0+aR.toNat) ba.1)) (aF 1 .live aD (ba.2.set (0+aR.toNat) ba.1)) (gN (ft ba.2) (0+aR.toNat) ba.1)))))
  (fun o =>
  .ret (bT [(ad 1),.aj false,.bp [0] [.pure] (bO [5])] (.aH o (aF 1 .live aD au))))
theorem VS {bd dA:List Int}{d2 gi:Int}{au:List Int}{r} (h:I6 bd dA d2 gi au=some r):fB bt 72 0 96 [1,1,1,0,1,0,0] (HT bd dA d2) (Ib bd dA d2) (gi,au) r:=fD (fun _=>U7) h
def yf (bf bd:List Int):Option (Nat×(List Int)) :=
 if ((len_ I bf) == (0:Int))=true then
  none
 else
  if ((len_ I bd) == (0:Int))=true then
   none
  else
   if 0≤(U ((len_ I bf)+(len_ I bd)))∧(8:Int)*(U ((len_ I bf)+(len_ I bd)))≤281474976710656∧(U ((len_ I bf)+(len_ I bd)))<9223372036854775808 then
   I6 bd bf (len_ I bf) 0 (List.replicate (U ((len_ I bf)+(len_ I bd))).toNat 0:List Int) >>= fun aW =>
   Au aW >>= fun a5 =>
   some (a5,aW)
   else none
theorem Oa {bf bd:List Int}:b1 (yf bf bd) (fun a=>Con bt 96 [.isl 1 (bf.map I),.isl 1 (bd.map I)] [] (.bC 0 0 0 a.1) [(av 1 I a.2)]):=by
 unfold yf
 exact .ite (fun o =>
  .SM)
  (fun o =>
  .ite (fun J =>
  .SM)
  (fun J =>
  .bq fun ak =>
  .aw fun aW aI =>
  .aw fun a5 bx =>
  .ret (let aR:=U ((len_ I bf)+(len_ I bd));let bb:=(List.replicate aR.toNat 0:List Int);hE [(ad 1),.aG (ae 7 (ah (.aj false) [])),.aj false,(ad 7),(ad 3),.bp [14] [.d3 (av 1 I bb)] [(1,ii),(5,gQ (bb.length)),(26,ii),(27,ii),(28,ii)],(Ib bd bf (len_ I bf) aW).gp,.aG (bQ 1 (.call {aM:=[.row 0],cr:=[.pure],ac:=[ii],r:= .bC 0 0 0 a5,dj:=[(av 1 I aW)],eh:=ii,e1:=[.pure],dv:=[0],dq:=false}) 1)] [0] [.pure] (.bj o o o o J ak.1 (Int.le_refl aR) ak.2.1 (.bj ak.2.2 (eX 1 .live (kS I aR.toNat 0)) (aF 1 .live aD bb) (k5 aR.toNat (0:Int)) (VS aI) (eI 1 aD aW) (eI 1 aD aW) (WE a5 bx) (.az (aF 1 .live aD aW)))))))
def Ic (fi ex:Nat)(dl:List Int)(jm cL:Int):(Int×Int×(List Int))→S:=fun (eA,bU,au)=>eV [(0,.bC 0 0 fi ex),(1,.isl 1 (dl.map I)),(2,.n .i64 jm),(7,.n .i64 eA),(11,.isl 1 (dl.map I)),(12,.n .i64 cL),(13,.n .i64 bU)] [(av 1 I au)]
def Iz (fi ex:Nat)(dl:List Int)(jm cL:Int):(Int×(List Int))→e3
 | a=>⟨some 0,[(0,.bC 0 0 fi ex),(1,.isl 1 (dl.map I)),(7,.n .i64 a.1)],[(av 1 I a.2)]⟩
def u3 (fi ex:Nat)(dl:List Int)(jm cL eA bU:Int)(au:List Int):Option ((Int×Int×(List Int))⊕(Int×(List Int))) :=
 if (decide (bU<cL))=true then
  if 0≤bU∧bU<dl.length then
  dl[bU.toNat]? >>= fun aQ =>
  if 0≤bU∧bU<(ex:Nat) then
  au[(fi+bU.toNat)]? >>= fun cP =>
  if (decide ((U ((U (cP-(U (jm*aQ))))-eA))<(0:Int)))=true then
   if (fi+bU.toNat)<au.length then
   some (.inl (U ((U ((999999999:Int)-(U ((U (cP-(U (jm*aQ))))-eA)))).tdiv (1000000000:Int)),U (bU+(1:Int)),au.set (fi+bU.toNat) (U ((U ((U (cP-(U (jm*aQ))))-eA))+(U ((U ((U ((999999999:Int)-(U ((U (cP-(U (jm*aQ))))-eA)))).tdiv (1000000000:Int)))*(1000000000:Int)))))))
   else none
  else
   if (fi+bU.toNat)<au.length then
   some (.inl (0,U (bU+(1:Int)),au.set (fi+bU.toNat) (U ((U (cP-(U (jm*aQ))))-eA))))
   else none
  else none
  else none
 else
  some (.inr (eA,au))
def Jd (fi ex:Nat)(dl:List Int)(jm cL eA bU:Int)(au:List Int):Option (Int×(List Int)):=iter (fun w:Int×Int×(List Int)=>u3 fi ex dl jm cL w.1 w.2.1 w.2.2) (eA,bU,au)
theorem Vm {fi ex:Nat}{dl:List Int}{jm cL eA bU:Int}{au:List Int}:b1 (u3 fi ex dl jm cL eA bU au) (fA bt 56 1 115 [1,1,0,1,0,0] (Ic fi ex dl jm cL (eA,bU,au)) (Ic fi ex dl jm cL) (Iz fi ex dl jm cL)):=by
 unfold u3
 exact .ite (fun o =>
  .bq fun J =>
  .aw fun aQ ay =>
  .bq fun aI =>
  .aw fun cP bx =>
  (let t1:List cK:=[(ad 1),.aj true,.aG (bQ 2 (.cA (I aQ)) 2),.aG (bQ 3 (.cA (I cP)) 7),(ad 1),(ad 2)];
  have a4:=((.fr o J.1 (d9 I J.2) (cD I ay) aI.1 aI.2 (cD I bx)):c1 _);
  .ite (fun bn =>
  .bq fun cd =>
  .ret (let aR:=(U ((U ((U (cP-(U (jm*aQ))))-eA))+(U ((U ((U ((999999999:Int)-(U ((U (cP-(U (jm*aQ))))-eA)))).tdiv (1000000000:Int)))*(1000000000:Int)))));bT (t1.append [.aj true,(ad 4),(ad 5),.aG (ae 4 (ah .cU [])),(ad 2),.bp [0] [.d3 (av 1 I (au.set (fi+bU.toNat) aR))] (bO [0,1,2,7,11,12,13])]) (a4.aZ (.hB bn (by decide:(1000000000:Int)≠0) aI.1 aI.2 (hk I cd) (gL 1) (eX 1 .live (fP (dV I au) (fi+bU.toNat) aR)) (aF 1 .live aD (au.set (fi+bU.toNat) aR))))))
  (fun bn =>
  .bq fun cd =>
  .ret (let bb:=U ((U (cP-(U (jm*aQ))))-eA);bT (t1.append [.aj false,.aG (ae 4 (ah .cU [])),(ad 2),.bp [0] [.d3 (av 1 I (au.set (fi+bU.toNat) bb))] (bO [0,1,2,7,11,12,13])]) (a4.aZ (.fr bn aI.1 aI.2 (hk I cd) (gL 1) (eX 1 .live (fP (dV I au) (fi+bU.toNat) bb)) (aF 1 .live aD (au.set (fi+bU.toNat) bb))))))))
  (fun o =>
  .ret (bT [(ad 1),.aj false,.bp [0] [.pure] (bO [0,1,7])] (.aH o (aF 1 .live aD au))))
theorem V9 {fi ex:Nat}{dl:List Int}{jm cL eA bU:Int}{au:List Int}{r} (h:Jd fi ex dl jm cL eA bU au=some r):fB bt 56 1 115 [1,1,0,1,0,0] (Ic fi ex dl jm cL) (Iz fi ex dl jm cL) (eA,bU,au) r:=fD (fun _=>Vm) h
def Av (dl:List Int)(jm:Int)(fi ex:Nat)(d7:List Int):Option (Bool×(List Int)) :=
 Jd fi ex dl jm (len_ I dl) 0 0 d7 >>= fun aq =>
 if 0≤(len_ I dl)∧(len_ I dl)<(ex:Nat) then
 aq.2[(fi+(len_ I dl).toNat)]? >>= fun gI =>
 if (fi+(len_ I dl).toNat)<aq.2.length then
 (aq.2.set (fi+(len_ I dl).toNat) (U (gI-aq.1)))[(fi+(len_ I dl).toNat)]? >>= fun gR =>
 some ((decide (gR<(0:Int))),aq.2.set (fi+(len_ I dl).toNat) (U (gI-aq.1)))
 else none
 else none
theorem WG {dl:List Int}{jm:Int}{fi ex:Nat}{d7:List Int}:b1 (Av dl jm fi ex d7) (fun a=>Con bt 115 (ada 0 0 fi ex dl jm) [(av 1 I d7)] (.b a.1) [(av 1 I a.2)]):=by
 unfold Av
 exact .aw fun aq J =>
  .bq fun ak =>
  .aw fun gI aI =>
  .bq fun bu =>
  .aw fun gR bn =>
  .ret (let aR:=U (gI-aq.1);let bb:=len_ I dl;hE [(ad 1),(ad 1),(ad 3),.bp [0] [.pure] (bO [0,1,2,7,11,12,13]),(Iz fi ex dl jm bb aq).gp,.aG (ae 4 (ah (.cA (I gI)) (ae 3 (ah .cU [])))),.aG (bQ 4 (.cA (I gR)) 2)] [0] [.d3 (av 1 I (aq.2.set (fi+bb.toNat) aR))] (.bj (aF 1 .live aD d7) (V9 J) ak.1 ak.2 (cD I aI) ak.1 ak.2 (hk I bu) (.fq (gL 1) ak.1 ak.2 (QK (fP (dV I aq.2) (fi+bb.toNat) aR) bn) (eX 1 .live (fP (dV I aq.2) (fi+bb.toNat) aR)) (aF 1 .live aD (aq.2.set (fi+bb.toNat) aR)))))
def Ie (fi ex:Nat)(dl:List Int)(gY:Int):(Int×Int×(List Int))→S:=fun (eA,ey,au)=>eV [(0,.bC 0 0 fi ex),(1,.isl 1 (dl.map I)),(4,.n .i64 eA),(8,.isl 1 (dl.map I)),(9,.n .i64 gY),(10,.n .i64 ey)] [(av 1 I au)]
def IA (fi ex:Nat)(dl:List Int)(gY:Int):(Int×(List Int))→e3
 | a=>⟨some 0,[(0,.bC 0 0 fi ex),(1,.isl 1 (dl.map I)),(4,.n .i64 a.1)],[(av 1 I a.2)]⟩
def xP (fi ex:Nat)(dl:List Int)(gY eA ey:Int)(au:List Int):Option ((Int×Int×(List Int))⊕(Int×(List Int))) :=
 if (decide (ey<gY))=true then
  if 0≤ey∧ey<dl.length then
  dl[ey.toNat]? >>= fun aQ =>
  if 0≤ey∧ey<(ex:Nat) then
  au[(fi+ey.toNat)]? >>= fun cP =>
  if (fi+ey.toNat)<au.length then
  some (.inl (U ((U ((U (cP+aQ))+eA)).tdiv (1000000000:Int)),U (ey+(1:Int)),au.set (fi+ey.toNat) ((U ((U (cP+aQ))+eA)).tmod (1000000000:Int))))
  else none
  else none
  else none
 else
  some (.inr (eA,au))
def Je (fi ex:Nat)(dl:List Int)(gY eA ey:Int)(au:List Int):Option (Int×(List Int)):=iter (fun w:Int×Int×(List Int)=>xP fi ex dl gY w.1 w.2.1 w.2.2) (eA,ey,au)
theorem Vn {fi ex:Nat}{dl:List Int}{gY eA ey:Int}{au:List Int}:b1 (xP fi ex dl gY eA ey au) (fA bt 39 1 116 [1,0,1,0,0] (Ie fi ex dl gY (eA,ey,au)) (Ie fi ex dl gY) (IA fi ex dl gY)):=by
 unfold xP
 exact .ite (fun o =>
  .bq fun J =>
  .aw fun aQ ay =>
  .bq fun aI =>
  .aw fun cP bx =>
  .bq fun bn =>
  .ret (let aR:=U ((U (cP+aQ))+eA);bT [(ad 1),.aj true,.aG (bQ 2 (.cA (I aQ)) 2),.aG (bQ 3 (.cA (I cP)) 5),.aG (bQ 7 .cU 1),(ad 2),.bp [0] [.d3 (av 1 I (au.set (fi+ey.toNat) (aR.tmod (1000000000:Int))))] (bO [0,1,4,8,9,10])] (.bj o J.1 (d9 I J.2) (cD I ay) aI.1 aI.2 (cD I bx) (by decide:(1000000000:Int)≠0) (.fr (by decide:(1000000000:Int)≠0) aI.1 aI.2 (hk I bn) (gL 1) (eX 1 .live (fP (dV I au) (fi+ey.toNat) (aR.tmod (1000000000:Int)))) (aF 1 .live aD (au.set (fi+ey.toNat) (aR.tmod (1000000000:Int))))))))
  (fun o =>
  .ret (bT [(ad 1),.aj false,.bp [0] [.pure] (bO [0,1,4])] (.aH o (aF 1 .live aD au))))
theorem Wa {fi ex:Nat}{dl:List Int}{gY eA ey:Int}{au:List Int}{r} (h:Je fi ex dl gY eA ey au=some r):fB bt 39 1 116 [1,0,1,0,0] (Ie fi ex dl gY) (IA fi ex dl gY) (eA,ey,au) r:=fD (fun _=>Vn) h
def yi (dl:List Int)(fi ex:Nat)(d7:List Int):Option (List Int) :=
 Je fi ex dl (len_ I dl) 0 0 d7 >>= fun aq =>
 if 0≤(len_ I dl)∧(len_ I dl)<(ex:Nat) then
 aq.2[(fi+(len_ I dl).toNat)]? >>= fun gI =>
 if (fi+(len_ I dl).toNat)<aq.2.length then
 some (aq.2.set (fi+(len_ I dl).toNat) (U (gI+aq.1)))
 else none
 else none
theorem WH {dl:List Int}{fi ex:Nat}{d7:List Int}:b1 (yi dl fi ex d7) (fun a=>Con bt 116 [.bC 0 0 fi ex,.isl 1 (dl.map I)] [(av 1 I d7)] (.df []) [(av 1 I a)]):=by
 unfold yi
 exact .aw fun aq J =>
  .bq fun ak =>
  .aw fun gI aI =>
  .bq fun bu =>
  .ret (let aR:=U (gI+aq.1);let bb:=len_ I dl;hE [(ad 1),(ad 3),.bp [0] [.pure] (bO [0,1,4,8,9,10]),(IA fi ex dl bb aq).gp,.aG (ae 4 (ah (.cA (I gI)) (ae 3 (ah .cU []))))] [0] [.d3 (av 1 I (aq.2.set (fi+bb.toNat) aR))] (.bj (aF 1 .live aD d7) (Wa J) ak.1 ak.2 (cD I aI) ak.1 ak.2 (hk I bu) (.b2 (gL 1) (eX 1 .live (fP (dV I aq.2) (fi+bb.toNat) aR)) (aF 1 .live aD (aq.2.set (fi+bb.toNat) aR)))))
def IL (bf:List Int)(f8:Nat)(au aN:List Int):(List Int)→S:=fun ag=>eV [(0,.isl 1 (bf.map I)),(8,.bC 0 0 0 au.length),(9,.bC 1 0 0 ag.length),(10,.bC 2 0 0 f8)] [(av 1 I au),(av 1 I ag),(av 1 I aN)]
def IU (bf:List Int)(f8:Nat)(au aN:List Int):(List Int)→e3
 | a=>⟨some 0,[(8,.bC 0 0 0 au.length),(9,.bC 1 0 0 a.length),(10,.bC 2 0 0 f8)],[(av 1 I au),(av 1 I a),(av 1 I aN)]⟩
def Dt (bf:List Int)(f8:Nat)(au aN ag:List Int):Option (((List Int))⊕((List Int))) :=
 if (decide (((ag.length:Nat):Int)≤(len_ I bf)))=true then
  if (ag++([0]:List Int)).length*8≤140737488355328 then
  some (.inl (ag++([0]:List Int)))
  else none
 else
  some (.inr ag)
def DZ (bf:List Int)(f8:Nat)(au aN ag:List Int):Option ((List Int)):=iter (fun w:(List Int)=>Dt bf f8 au aN w) ag
theorem VC {bf:List Int}{f8:Nat}{au aN ag:List Int}:b1 (Dt bf f8 au aN ag) (fA bt 172 0 106 [1,1,1,1,1,0,0,0] (IL bf f8 au aN ag) (IL bf f8 au aN) (IU bf f8 au aN)):=by
 unfold Dt
 exact .ite (fun o =>
  .bq fun J =>
  .ret (let aR:=(ag++([0]:List Int));bT [(ad 5),.aj true,.aG (bQ 2 (.aZ (aR.length)) 1),.bp [0,10,2] [.pure,.d3 (av 1 I aR),.pure] (bO [0,8,9,10])] (.bj o (mN I 0) (r9 I ag) (oY I ag 0) J (aF 1 .live aD au) (eX 1 .live (sa I ag 0)) (aF 1 .live aD aR) (.az (aF 1 .live aD aN)))))
  (fun o =>
  .ret (bT [(ad 5),.aj false,.bp [0,1,2] [.pure,.pure,.pure] (bO [8,9,10])] (.dn o (aF 1 .live aD au) (aF 1 .live aD ag) (aF 1 .live aD aN))))
theorem Wu {bf:List Int}{f8:Nat}{au aN ag:List Int}{r} (h:DZ bf f8 au aN ag=some r):fB bt 172 0 106 [1,1,1,1,1,0,0,0] (IL bf f8 au aN) (IU bf f8 au aN) ag r:=fD (fun _=>VC) h
def IM (ex f8:Nat)(aS eg:Int)(au ag aN ao:List Int):(Int×Int)→S:=fun (nQ,hQ)=>eV [(8,.bC 0 0 0 au.length),(9,.bC 1 0 0 ex),(10,.bC 2 0 0 f8),(11,.n .i64 aS),(12,.bC 3 0 0 ao.length),(13,.n .i64 eg),(15,.n .i64 nQ),(16,.n .i64 hQ)] [(av 1 I au),(av 1 I ag),[ab.mk 1 (aN.map I) .hn],(av 1 I ao)]
def IV (ex f8:Nat)(aS eg:Int)(au ag aN ao:List Int):Int→e3
 | a=>⟨some 4,[(8,.bC 0 0 0 au.length),(9,.bC 1 0 0 ex),(10,.bC 2 0 0 f8),(11,.n .i64 aS),(12,.bC 3 0 0 ao.length),(13,.n .i64 eg),(15,.n .i64 a)],[(av 1 I au),(av 1 I ag),[ab.mk 1 (aN.map I) .hn],(av 1 I ao)]⟩
def u5 (ex f8:Nat)(aS eg:Int)(au ag aN ao:List Int)(nQ hQ:Int):Option ((Int×Int)⊕(Int)) :=
 if (decide ((1000000000:Int)≤nQ))=true then
  if 0≤(U (aS-(1:Int)))∧(U (aS-(1:Int)))<(f8:Nat) then
  aN[(0+(U (aS-(1:Int))).toNat)]? >>= fun aQ =>
  if (decide ((1000000000:Int)≤(U (hQ+aQ))))=true then
   some (.inr (U (nQ-(1:Int))))
  else
   some (.inl (U (nQ-(1:Int)),U (hQ+aQ)))
  else none
 else
  if 0≤(U (aS-(2:Int)))∧(U (aS-(2:Int)))<(f8:Nat) then
  aN[(0+(U (aS-(2:Int))).toNat)]? >>= fun aQ =>
  if 0≤(U ((U (eg+aS))-(2:Int)))∧(U ((U (eg+aS))-(2:Int)))<(ex:Nat) then
  ag[(0+(U ((U (eg+aS))-(2:Int))).toNat)]? >>= fun cP =>
  if (decide ((U ((U (hQ*(1000000000:Int)))+cP))<(U (nQ*aQ))))=true then
   if 0≤(U (aS-(1:Int)))∧(U (aS-(1:Int)))<(f8:Nat) then
   aN[(0+(U (aS-(1:Int))).toNat)]? >>= fun iY =>
   if (decide ((1000000000:Int)≤(U (hQ+iY))))=true then
    some (.inr (U (nQ-(1:Int))))
   else
    some (.inl (U (nQ-(1:Int)),U (hQ+iY)))
   else none
  else
   some (.inr nQ)
  else none
  else none
def Ju (ex f8:Nat)(aS eg:Int)(au ag aN ao:List Int)(nQ hQ:Int):Option (Int):=iter (fun w:Int×Int=>u5 ex f8 aS eg au ag aN ao w.1 w.2) (nQ,hQ)
theorem VD {ex f8:Nat}{aS eg:Int}{au ag aN ao:List Int}{nQ hQ:Int}:b1 (u5 ex f8 aS eg au ag aN ao nQ hQ) (fA bt 172 0 106 [1,1,1,1,1,1,1,1,0,1,0,0,1,0,0,1,1,0,0,0] (IM ex f8 aS eg au ag aN ao (nQ,hQ)) (IM ex f8 aS eg au ag aN ao) (IV ex f8 aS eg au ag aN ao)):=by
 unfold u5
 exact .ite (fun o =>
  .bq fun J =>
  .aw fun aQ ay =>
  (let t1:List cK:=[.aG (ae 3 (cm 18 (ah (.aj true) []))),.aj true,(ad 3),.aG (bQ 5 (.cA (I aQ)) 2),(ad 2)];
  have a4:=((.bj o o o o o o o o (.bj o o o o o o o o (.fr o o o bl J.1 J.2 (cD I ay)))):c1 _);
  .ite (fun aI =>
  .ret (bT (t1.append [.aj true,.bp [0,1,2,3] [.pure,.pure,.pure,.pure] (bO [8,9,10,11,12,13,15])]) (a4.aZ (.ej aI (aF 1 .live aD au) (aF 1 .live aD ag) (aF 1 .hn aD aN) (aF 1 .live aD ao)))))
  (fun aI =>
  .ret (bT (t1.append [.aj false,.bp [0,1,2,3] [.pure,.pure,.pure,.pure] (bO [8,9,10,11,12,13,15,16])]) (a4.aZ (.ej aI (aF 1 .live aD au) (aF 1 .live aD ag) (aF 1 .hn aD aN) (aF 1 .live aD ao)))))))
  (fun o =>
  .bq fun J =>
  .aw fun aQ ay =>
  .bq fun aI =>
  .aw fun cP bx =>
  (let t1:List cK:=[.aG (ae 8 (ah (.cA (I aQ)) (ae 9 (ah (.cA (I cP)) (ae 2 (ah (.aj false) []))))))];
  have a4:=((.bj o o o o o J.1 J.2 o (.bj (cD I ay) o o o o o o o (.bj o o aI.1 aI.2 o (cD I bx) o o (.az o)))):c1 _);
  .ite (fun bn =>
  .bq fun cd =>
  .aw fun iY cZ =>
  (let t3:List cK:=t1.append [.aj true,(ad 3),.aG (bQ 5 (.cA (I iY)) 2),(ad 2)];
  .ite (fun dg =>
  .ret (bT (t3.append [.aj true,.bp [0,1,2,3] [.pure,.pure,.pure,.pure] (bO [8,9,10,11,12,13,15])]) (a4.aZ (.bj bn cd.1 cd.2 (cD I cZ) dg (aF 1 .live aD au) (aF 1 .live aD ag) (aF 1 .hn aD aN) (.az (aF 1 .live aD ao))))))
  (fun dg =>
  .ret (bT (t3.append [.aj false,.bp [0,1,2,3] [.pure,.pure,.pure,.pure] (bO [8,9,10,11,12,13,15,16])]) (a4.aZ (.bj bn cd.1 cd.2 (cD I cZ) dg (aF 1 .live aD au) (aF 1 .live aD ag) (aF 1 .hn aD aN) (.az (aF 1 .live aD ao))))))))
  (fun bn =>
  .ret (bT (t1.append [.aj false,.bp [0,1,2,3] [.pure,.pure,.pure,.pure] (bO [8,9,10,11,12,13,15])]) (a4.aZ (.ej bn (aF 1 .live aD au) (aF 1 .live aD ag) (aF 1 .hn aD aN) (aF 1 .live aD ao)))))))
theorem Wv {ex f8:Nat}{aS eg:Int}{au ag aN ao:List Int}{nQ hQ:Int}{r} (h:Ju ex f8 aS eg au ag aN ao nQ hQ=some r):fB bt 172 0 106 [1,1,1,1,1,1,1,1,0,1,0,0,1,0,0,1,1,0,0,0] (IM ex f8 aS eg au ag aN ao) (IV ex f8 aS eg au ag aN ao) (nQ,hQ) r:=fD (fun _=>VD) h
def IP (ex f8:Nat)(aS:Int)(au aN:List Int):(Int×(List Int)×(List Int))→S:=fun (eg,ag,ao)=>eV [(8,.bC 0 0 0 au.length),(9,.bC 1 0 0 ex),(10,.bC 2 0 0 f8),(11,.n .i64 aS),(12,.bC 3 0 0 ao.length),(13,.n .i64 eg)] [(av 1 I au),(av 1 I ag),[ab.mk 1 (aN.map I) .hn],(av 1 I ao)]
def IW (ex f8:Nat)(aS:Int)(au aN:List Int):((List Int)×(List Int))→e3
 | a=>⟨some 2,[(8,.bC 0 0 0 au.length),(9,.bC 1 0 0 ex),(12,.bC 2 0 0 a.2.length)],[(av 1 I au),(av 1 I a.1),(av 1 I a.2)]⟩
def u6 (ex f8:Nat)(aS:Int)(au aN:List Int)(eg:Int)(ag ao:List Int):Option ((Int×(List Int)×(List Int))⊕((List Int)×(List Int))) :=
 if (decide ((0:Int)≤eg))=true then
  if 0≤(U (eg+aS))∧(U (eg+aS))<(ex:Nat) then
  ag[(0+(U (eg+aS)).toNat)]? >>= fun aQ =>
  if 0≤(U ((U (eg+aS))-(1:Int)))∧(U ((U (eg+aS))-(1:Int)))<(ex:Nat) then
  ag[(0+(U ((U (eg+aS))-(1:Int))).toNat)]? >>= fun cP =>
  if 0≤(U (aS-(1:Int)))∧(U (aS-(1:Int)))<(f8:Nat) then
  aN[(0+(U (aS-(1:Int))).toNat)]? >>= fun gD =>
  if gD≠0 then
  Ju ex f8 aS eg au ag aN ao (U ((U ((U (aQ*(1000000000:Int)))+cP)).tdiv gD)) ((U ((U (aQ*(1000000000:Int)))+cP)).tmod gD) >>= fun eW =>
  if 0≤eg then
  if eg.toNat≤ex then
  if 0+f8≤aN.length then
  Av ((aN.drop 0).take f8) eW (0+eg.toNat) (ex-eg.toNat) ag >>= fun ix =>
  if ix.1=true then
   yi ((aN.drop 0).take f8) (0+eg.toNat) (ex-eg.toNat) ix.2 >>= fun fw =>
   if 0≤eg∧eg<(ao.length:Nat) then
   if (0+eg.toNat)<ao.length then
   some (.inl (U (eg-(1:Int)),fw,ao.set (0+eg.toNat) (U (eW-(1:Int)))))
   else none
   else none
  else
   if 0≤eg∧eg<(ao.length:Nat) then
   if (0+eg.toNat)<ao.length then
   some (.inl (U (eg-(1:Int)),ix.2,ao.set (0+eg.toNat) eW))
   else none
   else none
  else none
  else none
  else none
  else none
  else none
  else none
  else none
 else
  some (.inr (ag,ao))
def Jv (ex f8:Nat)(aS:Int)(au aN:List Int)(eg:Int)(ag ao:List Int):Option ((List Int)×(List Int)):=iter (fun w:Int×(List Int)×(List Int)=>u6 ex f8 aS au aN w.1 w.2.1 w.2.2) (eg,ag,ao)
theorem VE {ex f8:Nat}{aS:Int}{au aN:List Int}{eg:Int}{ag ao:List Int}:b1 (u6 ex f8 aS au aN eg ag ao) (fA bt 172 0 106 [1,1,1,1,1,1,1,1,0,1,0,0] (IP ex f8 aS au aN (eg,ag,ao)) (IP ex f8 aS au aN) (IW ex f8 aS au aN)):=by
 unfold u6
 exact .ite (fun o =>
  .bq fun J =>
  .aw fun aQ ay =>
  .bq fun aI =>
  .aw fun cP bx =>
  .bq fun bn =>
  .aw fun gD cV =>
  .bq fun cZ =>
  .aw fun eW ec =>
  .bq fun eL =>
  .bq fun gm =>
  .bq fun jq =>
  .aw fun ix jT =>
  (let t1:List cK:=[(ad 2),.aj true,.aG (ae 5 (ah (.cA (I aQ)) (bQ 7 (.cA (I cP)) 2))),.aG (ae 5 (ah (.cA (I gD)) (bQ 6 (.cA (I gD)) 3))),.bp [0,1,2,3] [.pure,.pure,.pure,.pure] (bO [8,9,10,11,12,13,15,16]),(IV ex f8 aS eg au ag aN ao eW).gp,.aG (ae 5 (ah (.call {aM:=[.row 1],cr:=[.pure],ac:=[ii,.bN (.cj (.gn (((aN.drop 0).take f8).map I))),ii],r:= .b ix.1,dj:=[(av 1 I ix.2)],eh:=ii,e1:=[.pure],dv:=[1,2],dq:=false}) []))];
  have a4:=((.bj o J.1 J.2 (cD I ay) aI.1 aI.2 (cD I bx) bn.1 (.bj bn.2 (cD I cV) cZ bn.1 bn.2 (cD I cV) cZ (aF 1 .live aD au) (.bj (aF 1 .live aD ag) (aF 1 .hn aD aN) (aF 1 .live aD ao) (Wv ec) eL gm (Nat.le_refl ex) (J6 (dV I aN) 0 f8) (.ej (uh (dV I aN) jq) (e9 aD ((aN.drop 0).take f8)) (eI 1 aD ag) (eI 1 aD ix.2) (WG ix jT))))):c1 _);
  .ite (fun iM =>
  .aw fun fw mw =>
  .bq fun lj =>
  .bq fun hy =>
  .ret (let aR:=(U (eW-(1:Int)));bT (t1.append [.aj true,(ad 3),.aG (ae 4 (ah (.call {aM:=[.row 1],cr:=[.pure],ac:=[ii,.bN (.cj (.gn (((aN.drop 0).take f8).map I)))],r:= .df [],dj:=[(av 1 I fw)],eh:=ii,e1:=[.pure],dv:=[1,2],dq:=false}) [])),.aG (ae 4 (ah .cU [])),(ad 3),.bp [0,1,2,3] [.pure,.pure,.pure,.d3 (av 1 I (ao.set (0+eg.toNat) aR))] [(8,ii),(9,ii),(10,ii),(11,ii),(12,gQ ((ao.set (0+eg.toNat) aR).length)),(13,ii)]]) (a4.aZ (.bj iM eL gm (Nat.le_refl ex) (J6 (dV I aN) 0 f8) (uh (dV I aN) jq) (e9 aD ((aN.drop 0).take f8)) (eI 1 aD ix.2) (.bj (eI 1 aD fw) (WH fw mw) lj.1 lj.2 (hk I hy) (gL 1) (aF 1 .live aD au) (aF 1 .live aD fw) (.dn (aF 1 .hn aD aN) (eX 1 .live (fP (dV I ao) (0+eg.toNat) aR)) (aF 1 .live aD (ao.set (0+eg.toNat) aR)) (gN (ft ao) (0+eg.toNat) aR)))))))
  (fun iM =>
  .bq fun nd =>
  .bq fun mw =>
  .ret (bT (t1.append [.aj false,.aG (ae 4 (ah .cU [])),(ad 3),.bp [0,1,2,3] [.pure,.pure,.pure,.d3 (av 1 I (ao.set (0+eg.toNat) eW))] [(8,ii),(9,ii),(10,ii),(11,ii),(12,gQ ((ao.set (0+eg.toNat) eW).length)),(13,ii)]]) (a4.aZ (.bj iM nd.1 nd.2 (hk I mw) (gL 1) (aF 1 .live aD au) (aF 1 .live aD ix.2) (aF 1 .hn aD aN) (.b2 (eX 1 .live (fP (dV I ao) (0+eg.toNat) eW)) (aF 1 .live aD (ao.set (0+eg.toNat) eW)) (gN (ft ao) (0+eg.toNat) eW))))))))
  (fun o =>
  .ret (bT [(ad 2),.aj false,.bp [0,1,3] [.pure,.pure,.pure] (bO [8,9,12])] (.dn o (aF 1 .live aD au) (aF 1 .live aD ag) (aF 1 .live aD ao))))
theorem Ww {ex f8:Nat}{aS:Int}{au aN:List Int}{eg:Int}{ag ao:List Int}{r} (h:Jv ex f8 aS au aN eg ag ao=some r):fB bt 172 0 106 [1,1,1,1,1,1,1,1,0,1,0,0] (IP ex f8 aS au aN) (IW ex f8 aS au aN) (eg,ag,ao) r:=fD (fun _=>VE) h
def tc (bf bd:List Int):Option ((List Int)×(List Int)) :=
 qc bf bd >>= fun aq =>
 if (decide (aq<(0:Int)))=true then
  vA bf >>= fun aW =>
  some (([]:List Int),aW)
 else
  if ((len_ I bd) == (1:Int))=true then
   if 0≤(0:Int)∧(0:Int)<bd.length then
   bd[0]? >>= fun cP =>
   x8 bf cP >>= fun dW =>
   vd (IntKind.wrap .u64 dW.2) >>= fun dc =>
   some (dW.1,dc)
   else none
  else
   if 0≤(U ((len_ I bd)-(1:Int)))∧(U ((len_ I bd)-(1:Int)))<bd.length then
   bd[(U ((len_ I bd)-(1:Int))).toNat]? >>= fun cP =>
   if (U (cP+(1:Int)))≠0 then
   yf bf ([U ((1000000000:Int).tdiv (U (cP+(1:Int))))]:List Int) >>= fun bk =>
   if bk.1≤bk.2.length then
   if (bk.2.take bk.1++([0]:List Int)).length*8≤140737488355328 then
   yf bd ([U ((1000000000:Int).tdiv (U (cP+(1:Int))))]:List Int) >>= fun dp =>
   DZ bf dp.1 ([U ((1000000000:Int).tdiv (U (cP+(1:Int))))]:List Int) dp.2 (bk.2.take bk.1++([0]:List Int)) >>= fun dS =>
   if 0≤(U (((dS.length:Nat):Int)-((dp.1:Nat):Int)))∧(8:Int)*(U (((dS.length:Nat):Int)-((dp.1:Nat):Int)))≤281474976710656∧(U (((dS.length:Nat):Int)-((dp.1:Nat):Int)))<9223372036854775808 then
   Jv dS.length dp.1 ((dp.1:Nat):Int) ([U ((1000000000:Int).tdiv (U (cP+(1:Int))))]:List Int) dp.2 (U ((U (((dS.length:Nat):Int)-((dp.1:Nat):Int)))-(1:Int))) dS (List.replicate (U (((dS.length:Nat):Int)-((dp.1:Nat):Int))).toNat 0:List Int) >>= fun d6 =>
   if 0+dS.length≤d6.1.length then
   qM ((d6.1.drop 0).take dS.length) >>= fun iX =>
   if 0≤(0:Int)∧(0:Int)<(([U ((1000000000:Int).tdiv (U (cP+(1:Int))))]:List Int).length:Nat) then
   ([U ((1000000000:Int).tdiv (U (cP+(1:Int))))]:List Int)[0]? >>= fun tJ =>
   x8 iX tJ >>= fun n7 =>
   qM d6.2 >>= fun jy =>
   some (jy,n7.1)
   else none
   else none
   else none
   else none
   else none
   else none
   else none
theorem D0 {bf bd:List Int}:b1 (tc bf bd) (fun r=>Con bt 106 [.isl 1 (bf.map I),.isl 1 (bd.map I)] [] (.df [.isl 1 (r.1.map I),.isl 1 (r.2.map I)]) []):=by
 unfold tc
 exact .aw fun aq J =>
  (let t1:List cK:=[(ad 2),.aG (bQ 2 (bD 2 (.n .i64 aq) true) 1)];
  have a4:=((.aH (x1 aq J) (cz.n .i64 aq)):c1 _);
  .ite (fun ak =>
  .aw fun aW aI =>
  .ret (bW (t1.append [.aj true,.aG (bQ 1 (bD 1 (.isl 1 (aW.map I)) false) 2)]) (a4.aZ (.aH ak (JM aW aI))) (.comp [.cj (.fM 1),.cj .id])))
  (fun ak =>
  .ite (fun ay =>
  .bq fun aI =>
  .aw fun cP bx =>
  .aw fun dW cd =>
  .aw fun dc cZ =>
  .ret (bW (t1.append [.aj false,(ad 3),.aj true,.aG (ae 3 (ah (.cA (I cP)) (ah (bD 2 (.df [.isl 1 (dW.1.map I),.n .i64 dW.2]) false) (ae 5 [])))),.aG (bQ 3 (bD 1 (.isl 1 (dc.map I)) false) 2)]) (a4.aZ (.fr ak ay aI.1 (d9 I aI.2) (cD I bx) (NR dW cd) (I4 dc cZ)))))
  (fun ay =>
  .bq fun aI =>
  .aw fun cP bx =>
  .bq fun bn =>
  .aw fun bk cV =>
  .bq fun cZ =>
  .bq fun dg =>
  .aw fun dp eL =>
  .aw fun dS jq =>
  .bq fun gG =>
  .aw fun d6 iM =>
  .bq fun nd =>
  .aw fun iX lj =>
  .bq fun hy =>
  .aw fun tJ oS =>
  .aw fun n7 wm =>
  .aw fun jy wo =>
  .ret (let aR:=(U ((1000000000:Int).tdiv (U (cP+(1:Int)))));let bb:=(U (((dS.length:Nat):Int)-((dp.1:Nat):Int)));let b7:=(bk.2.take bk.1++([0]:List Int));let cC:=(List.replicate bb.toNat 0:List Int);let en:=(aF 1 .live aD ([aR]:List Int));bW (t1.append [.aj false,(ad 3),.aj false,.aG (bQ 5 (.cA (I cP)) 4),.aG (ae 2 (ah (.call {aM:=[],cr:=[],ac:=[ii,.bN (.cj (.gn (([aR]:List Int).map I)))],r:= .bC 0 0 0 bk.1,dj:=[(av 1 I bk.2)],eh:=ii,e1:=[.pure],dv:=[17],dq:=true}) (ae 1 (ah (.aZ (b7.length)) (bQ 2 (.call {aM:=[],cr:=[],ac:=[ii,.bN (.cj (.gn (([aR]:List Int).map I)))],r:= .bC 0 0 0 dp.1,dj:=[(av 1 I dp.2)],eh:=ii,e1:=[.pure],dv:=[17],dq:=true}) 2))))),.bp [17,23,26] [.d3 (av 1 I ([aR]:List Int)),.d3 (av 1 I b7),.pure] [(0,ii),(8,gQ (([aR]:List Int).length)),(9,ii),(10,ii)],(IU bf dp.1 ([aR]:List Int) dp.2 dS).gp,(ad 3),(ad 6),(ad 6),.bp [0,1,2,10] [.pure,.pure,.pure,.d3 (av 1 I cC)] [(8,ii),(9,ii),(10,ii),(11,ii),(12,gQ (cC.length)),(13,ii)],.hn 2,.bp [0,1,2,3] [.pure,.pure,.pure,.pure] (bO [8,9,10,11,12,13]),(IW dS.length dp.1 ((dp.1:Nat):Int) ([aR]:List Int) dp.2 d6).gp,.hn 1,.aG (ae 1 (ah (.call {ac:=[.bN (.cj (.gn (((d6.1.drop 0).take dS.length).map I)))],r:= .isl 1 (iX.map I),dq:=false,dv:=[1]}) (ae 2 (ah (.cA (I tJ)) (ah (bD 2 (.df [.isl 1 (n7.1.map I),.n .i64 n7.2]) false) (ae 5 [])))))),.hn 2,.aG (bQ 1 (.call {ac:=[.bN (.cj (.gn (d6.2.map I)))],r:= .isl 1 (jy.map I),dq:=false,dv:=[2]}) 3)]) (a4.aZ (.bj ak ay aI.1 (d9 I aI.2) (cD I bx) bn (lO (show [[.n .i64 (U ((1000000000:Int).tdiv (U (cP+(1:Int)))))]]=(([(U ((1000000000:Int).tdiv (U (cP+(1:Int)))))]:List Int)).map I from rfl) (show 1=([(U ((1000000000:Int).tdiv (U (cP+(1:Int)))))]:List Int).length from rfl)) (mN I aR) (.bj (e9 aD ([aR]:List Int)) (eI 1 aD bk.2) (Oa bk cV) (cz.bC 0 0 0 bk.1) ((yB (pG (o7 pJ) yK) yJ):rZ [(av 1 I bk.2)]) (mN I 0) (uh (dV I bk.2) cZ) (ac2 I cZ 0) (.bj dg (lO (show [[.n .i64 (U ((1000000000:Int).tdiv (U (cP+(1:Int)))))]]=(([(U ((1000000000:Int).tdiv (U (cP+(1:Int)))))]:List Int)).map I from rfl) (show 1=([(U ((1000000000:Int).tdiv (U (cP+(1:Int)))))]:List Int).length from rfl)) (mN I aR) (e9 aD ([aR]:List Int)) (eI 1 aD dp.2) (Oa dp eL) (cz.bC 0 0 0 dp.1) ((yB (pG (o7 pJ) yK) yJ):rZ [(av 1 I dp.2)]) (.bj (eX 1 .live (show [[.n .i64 (U ((1000000000:Int).tdiv (U (cP+(1:Int)))))]]=(([(U ((1000000000:Int).tdiv (U (cP+(1:Int)))))]:List Int)).map I from rfl)) en (eX 1 .live (J7 (dV I bk.2) bk.1 (wH I 0))) (aF 1 .live aD b7) (aF 1 .live aD dp.2) (show 1=([(U ((1000000000:Int).tdiv (U (cP+(1:Int)))))]:List Int).length from rfl) (Wu jq) gG.1 (.bj (Int.le_refl bb) gG.2.1 gG.2.2 en (aF 1 .live aD dS) (aF 1 .live aD dp.2) (eX 1 .live (kS I bb.toNat 0)) (aF 1 .live aD cC) (.bj (k5 bb.toNat (0:Int)) en (aF 1 .live aD dS) (aF 1 .hn aD dp.2) (aF 1 .live aD cC) (Ww iM) (J6 (dV I d6.1) 0 dS.length) (uh (dV I d6.1) nd) (.bj (e9 aD ((d6.1.drop 0).take dS.length)) (ve iX lj) hy.1 hy.2 (cD I oS) (NR n7 wm) (kp I d6.2) (jA I d6.2) (.aH (e9 aD d6.2) (ve jy wo))))))))))))))
def t9 (ch eQ:bg):Option bg :=
 tc ch.cB eQ.cB >>= fun aq =>
 lu (!(ch.cY == eQ.cY)) aq.1 >>= fun a9 =>
 some a9
theorem Hu {ch eQ:bg}:b1 (t9 ch eQ) (fun r=>Con bt 113 [.agg (aT ch),.agg (aT eQ)] [] (.agg (aT r)) []):=by
 unfold t9
 exact .aw fun aq J =>
  .aw fun a9 ay =>
  .ret (bW [(ad 3),.aG (bQ 4 (bD 2 (.df [.isl 1 (aq.1.map I),.isl 1 (aq.2.map I)]) false) 5),.aG (bQ 6 (bD 2 (.agg (aT a9)) false) 1)] (.aH (D0 aq J) (so a9 ay)))
def G0 (c5 bV:Int)(gV jF:ca)(jj iW pj:Int)(aK:Bool)(aE:List Int)(cx:Int)(ag:List ca)(ao:List Int)(a7:List Bool)(i4:Bool)(i2:List Int)(oG:Bool)(oy:List Int):(Int×(List (List bg)))→S:=fun (fR,bG)=>eV [(0,.ref 0 0 0 0),(1,.n .i64 c5),(2,.n .i64 bV),(6,np 2 0 2 gV),(7,.ref 5 0 0 0),(9,np 2 0 2 jF),(10,.ref 6 0 0 0),(30,.bC 1 0 0 ag.length),(31,.n .i64 jj),(32,.n .i64 iW),(45,.n .i64 pj),(46,.n .i64 fR)] [[ab.mk 6 [(e4 1 0 0 ag.length aK aE 3 0 0 ao.length cx 4 0 0 a7.length)] .live],(av 1 (b3 2 0 2) ag),(de 2 aT bG),(av 1 I ao),(av 1 dT a7),[ab.mk 2 [[.b i4,.isl 1 (i2.map I)]] .live],[ab.mk 2 [[.b oG,.isl 1 (oy.map I)]] .live]]
def G8 (c5 bV:Int)(gV jF:ca)(jj iW pj:Int)(aK:Bool)(aE:List Int)(cx:Int)(ag:List ca)(ao:List Int)(a7:List Bool)(i4:Bool)(i2:List Int)(oG:Bool)(oy:List Int):(List (List bg))→e3
 | a=>⟨some 2,[(0,.ref 0 0 0 0),(1,.n .i64 c5),(2,.n .i64 bV),(6,np 2 0 2 gV),(7,.ref 5 0 0 0),(30,.bC 1 0 0 ag.length),(31,.n .i64 jj),(32,.n .i64 iW)],[[ab.mk 6 [(e4 1 0 0 ag.length aK aE 3 0 0 ao.length cx 4 0 0 a7.length)] .live],(av 1 (b3 2 0 2) ag),(de 2 aT a),(av 1 I ao),(av 1 dT a7),[ab.mk 2 [[.b i4,.isl 1 (i2.map I)]] .live]]⟩
def xg (c5 bV:Int)(gV jF:ca)(jj iW pj:Int)(aK:Bool)(aE:List Int)(cx:Int)(ag:List ca)(ao:List Int)(a7:List Bool)(i4:Bool)(i2:List Int)(oG:Bool)(oy:List Int)(fR:Int)(bG:List (List bg)):Option ((Int×(List (List bg)))⊕((List (List bg)))) :=
 if (decide (fR<pj))=true then
  jF >>= fun dM =>
  bG[dM.1]? >>= fun jB =>
  if 0≤fR∧fR<(dM.2:Nat) then
  jB[(0+fR.toNat)]? >>= fun gR =>
  o1 gR (⟨i4,i2⟩:bg) >>= fun bk =>
  o3 (⟨oG,oy⟩:bg) >>= fun cI =>
  if (cI != (0:Int))=true then
   gV >>= fun wq =>
   bG[wq.1]? >>= fun zC =>
   if 0≤fR∧fR<(wq.2:Nat) then
   zC[(0+fR.toNat)]? >>= fun r5 =>
   o3 r5 >>= fun iX =>
   if (iX != (0:Int))=true then
    o1 (⟨oG,oy⟩:bg) r5 >>= fun nF =>
    u4 bk nF >>= fun n7 =>
    t9 n7 (⟨aK,aE⟩:bg) >>= fun jy =>
    some (.inl (U (fR+(1:Int)),bG.set dM.1 (jB.set (0+fR.toNat) jy)))
   else
    t9 bk (⟨aK,aE⟩:bg) >>= fun nF =>
    some (.inl (U (fR+(1:Int)),bG.set dM.1 (jB.set (0+fR.toNat) nF)))
   else none
  else
   t9 bk (⟨aK,aE⟩:bg) >>= fun fJ =>
   some (.inl (U (fR+(1:Int)),bG.set dM.1 (jB.set (0+fR.toNat) fJ)))
  else none
 else
  some (.inr bG)
def C8 (c5 bV:Int)(gV jF:ca)(jj iW pj:Int)(aK:Bool)(aE:List Int)(cx:Int)(ag:List ca)(ao:List Int)(a7:List Bool)(i4:Bool)(i2:List Int)(oG:Bool)(oy:List Int)(fR:Int)(bG:List (List bg)):Option ((List (List bg))):=iter (fun w:Int×(List (List bg))=>xg c5 bV gV jF jj iW pj aK aE cx ag ao a7 i4 i2 oG oy w.1 w.2) (fR,bG)
theorem Uo {c5 bV:Int}{gV jF:ca}{jj iW pj:Int}{aK:Bool}{aE:List Int}{cx:Int}{ag:List ca}{ao:List Int}{a7:List Bool}{i4:Bool}{i2:List Int}{oG:Bool}{oy:List Int}{fR:Int}{bG:List (List bg)}:b1 (xg c5 bV gV jF jj iW pj aK aE cx ag ao a7 i4 i2 oG oy fR bG) (fA bt 128 5 105 [1,1,0,1,0,0,1,1,0,0,1,1,1,1,0,0] (G0 c5 bV gV jF jj iW pj aK aE cx ag ao a7 i4 i2 oG oy (fR,bG)) (G0 c5 bV gV jF jj iW pj aK aE cx ag ao a7 i4 i2 oG oy) (G8 c5 bV gV jF jj iW pj aK aE cx ag ao a7 i4 i2 oG oy)):=by
 unfold xg
 exact .ite (fun o =>
  .aw fun dM ak =>
  .aw fun jB aI =>
  .bq fun bu =>
  .aw fun gR bn =>
  .aw fun bk cV =>
  .aw fun cI dg =>
  (let iN:=lT (iR .live 2 aT bG) ls aI;let t1:List cK:=[(ad 1),.aj true,(ad 2),.aG (ae 2 (ah (.eR 49 (.bC 2 (dM.1+0) 0 dM.2) (.hv (ab.mk 2 (jB.map aT) .live) [])) (ah (.hv (ab.mk 2 (jB.map aT) .live) (aT gR)) (bQ 1 (bD 2 (.agg (aT bk)) false) 2))))];
  have a4:=((.bj o (o5 (et:=2) (c:=0) (sz:=2) ak) iN bu.1 bu.2 iN (cD aT bn) (u1 bk cV) (.aH (s0 cI dg) (cz.n .i64 cI))):c1 _);
  .ite (fun ec =>
  .aw fun wq gm =>
  .aw fun zC gG =>
  .bq fun jT =>
  .aw fun r5 nd =>
  .aw fun iX lj =>
  (let hO:=lT (iR .live 2 aT bG) ls gG;let t3:List cK:=t1.append [.aG (ae 1 (ah (bD 1 (.n .i64 cI) true) (ae 4 (ah (.eR 59 (.bC 2 (wq.1+0) 0 wq.2) (.hv (ab.mk 2 (zC.map aT) .live) [])) (ah (.hv (ab.mk 2 (zC.map aT) .live) (aT r5)) (ah (bD 1 (.n .i64 iX) true) (ae 1 (ah (.aj true) []))))))))];
  have fK:=a4.aZ (.bj ec ec ec (o5 (et:=2) (c:=0) (sz:=2) gm) hO jT.1 jT.2 ec (.fr hO (cD aT nd) ec (s0 iX lj) (cz.n .i64 iX) ec ec));
  .ite (fun hy =>
  .aw fun nF oS =>
  .aw fun n7 wm =>
  .aw fun jy wo =>
  .ret (let aR:=lT (iR .live 2 aT bG) ls gG;let bb:=lT (iR .live 2 aT bG) ls aI;let b7:=dd [0,1,2,3,4,5,6];bT (t3.append [.aj true,.aG (ae 4 (ah (.eR 68 (.bC 2 (wq.1+0) 0 wq.2) (.hv (ab.mk 2 (zC.map aT) .live) [])) (ah (.hv (ab.mk 2 (zC.map aT) .live) (aT r5)) (ah (bD 2 (.agg (aT nF)) false) (ah (bD 2 (.agg (aT n7)) false) (ae 1 [])))))),.aG (ae 7 (ah (bD 2 (.agg (aT jy)) false) (ah (.eR 74 (.bC 2 (dM.1+0) 0 dM.2) (.hv (ab.mk 2 (jB.map aT) .live) [])) (ah (.hv (ab.mk 2 (jB.map aT) .live) (aT gR)) [])))),(ad 2),.bp [0,1,2,3,4,5,6] [.box [.id,.id,.id,.id,.id,.id],.bw (av 1 (b3 2 0 2) ag),.bw (de 2 aT (bG.set dM.1 (jB.set (0+fR.toNat) jy))),.pure,.pure,.box [.id,.id],.box [.id,.id]] (bO [0,1,2,6,7,9,10,30,31,32,45,46])]) (fK.aZ (.bj hy (o5 (et:=2) (c:=0) (sz:=2) gm) aR jT.1 jT.2 aR (cD aT nd) (u1 nF oS) (.bj (NA n7 wm) (Hu jy wo) (o5 (et:=2) (c:=0) (sz:=2) ak) bb bu.1 bu.2 bb (cD aT bn) (.dn (e7 b7 2 2 0 2 rfl ag) (qO (b6:=b7) (sx (iR .live 2 aT bG) dM.1 (su (dV aT jB) (0+fR.toNat) jy (rfl:(setCells (aT gR) 0 (aT jy))=aT jy))) (mX er)) (aF 1 .live aD ao) (aF 1 .live ee a7)))))))
  (fun hy =>
  .aw fun nF oS =>
  .ret (let cC:=lT (iR .live 2 aT bG) ls aI;let en:=dd [0,1,2,3,4,5,6];bT (t3.append [.aj false,.aG (ae 7 (ah (bD 2 (.agg (aT nF)) false) (ah (.eR 74 (.bC 2 (dM.1+0) 0 dM.2) (.hv (ab.mk 2 (jB.map aT) .live) [])) (ah (.hv (ab.mk 2 (jB.map aT) .live) (aT gR)) [])))),(ad 2),.bp [0,1,2,3,4,5,6] [.box [.id,.id,.id,.id,.id,.id],.bw (av 1 (b3 2 0 2) ag),.bw (de 2 aT (bG.set dM.1 (jB.set (0+fR.toNat) nF))),.pure,.pure,.box [.id,.id],.box [.id,.id]] (bO [0,1,2,6,7,9,10,30,31,32,45,46])]) (fK.aZ (.bj hy (Hu nF oS) (o5 (et:=2) (c:=0) (sz:=2) ak) cC bu.1 bu.2 cC (cD aT bn) (.dn (e7 en 2 2 0 2 rfl ag) (qO (b6:=en) (sx (iR .live 2 aT bG) dM.1 (su (dV aT jB) (0+fR.toNat) nF (rfl:(setCells (aT gR) 0 (aT nF))=aT nF))) (mX er)) (aF 1 .live aD ao) (aF 1 .live ee a7))))))))
  (fun ec =>
  .aw fun fJ gm =>
  .ret (let gf:=lT (iR .live 2 aT bG) ls aI;let hc:=dd [0,1,2,3,4,5,6];bT (t1.append [.aG (ae 1 (ah (bD 1 (.n .i64 cI) true) (ae 2 (cm 6 (ah (.aj false) []))))),.aj false,.aG (ae 7 (ah (bD 2 (.agg (aT fJ)) false) (ah (.eR 74 (.bC 2 (dM.1+0) 0 dM.2) (.hv (ab.mk 2 (jB.map aT) .live) [])) (ah (.hv (ab.mk 2 (jB.map aT) .live) (aT gR)) [])))),(ad 2),.bp [0,1,2,3,4,5,6] [.box [.id,.id,.id,.id,.id,.id],.bw (av 1 (b3 2 0 2) ag),.bw (de 2 aT (bG.set dM.1 (jB.set (0+fR.toNat) fJ))),.pure,.pure,.box [.id,.id],.box [.id,.id]] (bO [0,1,2,6,7,9,10,30,31,32,45,46])]) (a4.aZ (.bj ec ec ec ec ec ec ec ez (.bj (Hu fJ gm) (o5 (et:=2) (c:=0) (sz:=2) ak) gf bu.1 bu.2 gf (cD aT bn) (e7 hc 2 2 0 2 rfl ag) (.b2 (qO (b6:=hc) (sx (iR .live 2 aT bG) dM.1 (su (dV aT jB) (0+fR.toNat) fJ (rfl:(setCells (aT gR) 0 (aT fJ))=aT fJ))) (mX er)) (aF 1 .live aD ao) (aF 1 .live ee a7)))))))))
  (fun o =>
  .ret (let fh:=dd [0,1,2,3,4,5];bT [(ad 1),.aj false,.bp [0,1,2,3,4,5] [.box [.id,.id,.id,.id,.id,.id],.bw (av 1 (b3 2 0 2) ag),.bw (de 2 aT bG),.pure,.pure,.box [.id,.id]] (bO [0,1,2,6,7,30,31,32])] (.ej o (e7 fh 2 2 0 2 rfl ag) (fb fh 2 er bG) (aF 1 .live aD ao) (aF 1 .live ee a7))))
theorem UH {c5 bV:Int}{gV jF:ca}{jj iW pj:Int}{aK:Bool}{aE:List Int}{cx:Int}{ag:List ca}{ao:List Int}{a7:List Bool}{i4:Bool}{i2:List Int}{oG:Bool}{oy:List Int}{fR:Int}{bG:List (List bg)}{r} (h:C8 c5 bV gV jF jj iW pj aK aE cx ag ao a7 i4 i2 oG oy fR bG=some r):fB bt 128 5 105 [1,1,0,1,0,0,1,1,0,0,1,1,1,1,0,0] (G0 c5 bV gV jF jj iW pj aK aE cx ag ao a7 i4 i2 oG oy) (G8 c5 bV gV jF jj iW pj aK aE cx ag ao a7 i4 i2 oG oy) (fR,bG) r:=fD (fun _=>Uo) h
def G1 (c5 bV:Int)(gV:ca)(jj:Int)(aK:Bool)(aE:List Int)(cx:Int)(ag:List ca)(ao:List Int)(a7:List Bool)(i4:Bool)(i2:List Int):(Int×(List (List bg)))→S:=fun (iW,bG)=>eV [(0,.ref 0 0 0 0),(1,.n .i64 c5),(2,.n .i64 bV),(6,np 2 0 2 gV),(7,.ref 5 0 0 0),(30,.bC 1 0 0 ag.length),(31,.n .i64 jj),(32,.n .i64 iW)] [[ab.mk 6 [(e4 1 0 0 ag.length aK aE 3 0 0 ao.length cx 4 0 0 a7.length)] .live],(av 1 (b3 2 0 2) ag),(de 2 aT bG),(av 1 I ao),(av 1 dT a7),[ab.mk 2 [[.b i4,.isl 1 (i2.map I)]] .live]]
def G9 (c5 bV:Int)(gV:ca)(jj:Int)(aK:Bool)(aE:List Int)(cx:Int)(ag:List ca)(ao:List Int)(a7:List Bool)(i4:Bool)(i2:List Int):(List (List bg))→e3
 | a=>⟨some 0,[(0,.ref 0 0 0 0),(1,.n .i64 c5),(2,.n .i64 bV),(7,.ref 5 0 0 0)],[[ab.mk 6 [(e4 1 0 0 ag.length aK aE 3 0 0 ao.length cx 4 0 0 a7.length)] .live],(av 1 (b3 2 0 2) ag),(de 2 aT a),(av 1 I ao),(av 1 dT a7),[ab.mk 2 [[.b i4,.isl 1 (i2.map I)]] .live]]⟩
def xh (c5 bV:Int)(gV:ca)(jj:Int)(aK:Bool)(aE:List Int)(cx:Int)(ag:List ca)(ao:List Int)(a7:List Bool)(i4:Bool)(i2:List Int)(iW:Int)(bG:List (List bg)):Option ((Int×(List (List bg)))⊕((List (List bg)))) :=
 if (decide (iW<jj))=true then
  if 0≤iW∧iW<(ag.length:Nat) then
  ag[(0+iW.toNat)]? >>= fun aQ =>
  if (iW == c5)=true then
   some (.inl (U (iW+(1:Int)),bG))
  else
   aQ >>= fun mQ =>
   bG[mQ.1]? >>= fun CL =>
   if 0≤bV∧bV<(mQ.2:Nat) then
   CL[(0+bV.toNat)]? >>= fun n6 =>
   C8 c5 bV gV aQ jj iW ((mQ.2:Nat):Int) aK aE cx ag ao a7 i4 i2 n6.cY n6.cB 0 bG >>= fun dp =>
   some (.inl (U (iW+(1:Int)),dp))
   else none
  else none
 else
  some (.inr bG)
def C9 (c5 bV:Int)(gV:ca)(jj:Int)(aK:Bool)(aE:List Int)(cx:Int)(ag:List ca)(ao:List Int)(a7:List Bool)(i4:Bool)(i2:List Int)(iW:Int)(bG:List (List bg)):Option ((List (List bg))):=iter (fun w:Int×(List (List bg))=>xh c5 bV gV jj aK aE cx ag ao a7 i4 i2 w.1 w.2) (iW,bG)
theorem Up {c5 bV:Int}{gV:ca}{jj:Int}{aK:Bool}{aE:List Int}{cx:Int}{ag:List ca}{ao:List Int}{a7:List Bool}{i4:Bool}{i2:List Int}{iW:Int}{bG:List (List bg)}:b1 (xh c5 bV gV jj aK aE cx ag ao a7 i4 i2 iW bG) (fA bt 128 5 105 [1,1,0,1,0,0] (G1 c5 bV gV jj aK aE cx ag ao a7 i4 i2 (iW,bG)) (G1 c5 bV gV jj aK aE cx ag ao a7 i4 i2) (G9 c5 bV gV jj aK aE cx ag ao a7 i4 i2)):=by
 unfold xh
 exact .ite (fun o =>
  .bq fun J =>
  .aw fun aQ ay =>
  (let t1:List cK:=[(ad 1),.aj true,.aG (bQ 2 (.cA ((b3 2 0 2) aQ)) 2),(ad 3)];
  have a4:=((.dn o J.1 J.2 (cD (b3 2 0 2) ay)):c1 _);
  .ite (fun aI =>
  .ret (let aR:=dd [0,1,2,3,4,5];bT (t1.append [.aj true,(ad 2),.bp [0,1,2,3,4,5] [.box [.id,.id,.id,.id,.id,.id],.bw (av 1 (b3 2 0 2) ag),.bw (de 2 aT bG),.pure,.pure,.box [.id,.id]] (bO [0,1,2,6,7,30,31,32])]) (a4.aZ (.ej aI (e7 aR 2 2 0 2 rfl ag) (fb aR 2 er bG) (aF 1 .live aD ao) (aF 1 .live ee a7)))))
  (fun aI =>
  .aw fun mQ bx =>
  .aw fun CL cd =>
  .bq fun cV =>
  .aw fun n6 dg =>
  .aw fun dp eL =>
  .ret (let bb:=lT (iR .live 2 aT bG) ls cd;let b7:=dd [0,1,2,3,4,5,19];let cC:=dd [0,1,2,3,4,5];bT (t1.append [.aj false,.aG (ae 2 (ah (.eR 40 (.bC 2 (mQ.1+0) 0 mQ.2) (.hv (ab.mk 2 (CL.map aT) .live) [])) (ah (.hv (ab.mk 2 (CL.map aT) .live) (aT n6)) (ae 2 [])))),.aG (bQ 1 (.eR 44 (.bC 2 (mQ.1+0) 0 mQ.2) (.hv (ab.mk 2 (CL.map aT) .live) [])) 1),.bp [0,1,2,3,4,5,19] [.box [.id,.id,.id,.id,.id,.id],.bw (av 1 (b3 2 0 2) ag),.bw (de 2 aT bG),.pure,.pure,.box [.id,.id],.box [.id,.id]] (bO [0,1,2,6,7,9,10,30,31,32,45,46]),(G8 c5 bV gV aQ jj iW ((mQ.2:Nat):Int) aK aE cx ag ao a7 i4 i2 n6.cY n6.cB dp).gp,(ad 2),.bp [0,1,2,3,4,5] [.box [.id,.id,.id,.id,.id,.id],.bw (av 1 (b3 2 0 2) ag),.bw (de 2 aT dp),.pure,.pure,.box [.id,.id]] (bO [0,1,2,6,7,30,31,32])]) (a4.aZ (.bj aI (o5 (et:=2) (c:=0) (sz:=2) bx) bb cV.1 cV.2 bb (cD aT dg) (o5 (et:=2) (c:=0) (sz:=2) bx) (.bj bb (e7 b7 2 2 0 2 rfl ag) (fb b7 2 er bG) (aF 1 .live aD ao) (aF 1 .live ee a7) (UH eL) (e7 cC 2 2 0 2 rfl ag) (fb cC 2 er dp) (.aH (aF 1 .live aD ao) (aF 1 .live ee a7)))))))))
  (fun o =>
  .ret (let en:=dd [0,1,2,3,4,5];bT [(ad 1),.aj false,.bp [0,1,2,3,4,5] [.box [.id,.id,.id,.id,.id,.id],.bw (av 1 (b3 2 0 2) ag),.bw (de 2 aT bG),.pure,.pure,.box [.id,.id]] (bO [0,1,2,7])] (.ej o (e7 en 2 2 0 2 rfl ag) (fb en 2 er bG) (aF 1 .live aD ao) (aF 1 .live ee a7))))
theorem UI {c5 bV:Int}{gV:ca}{jj:Int}{aK:Bool}{aE:List Int}{cx:Int}{ag:List ca}{ao:List Int}{a7:List Bool}{i4:Bool}{i2:List Int}{iW:Int}{bG:List (List bg)}{r} (h:C9 c5 bV gV jj aK aE cx ag ao a7 i4 i2 iW bG=some r):fB bt 128 5 105 [1,1,0,1,0,0] (G1 c5 bV gV jj aK aE cx ag ao a7 i4 i2) (G9 c5 bV gV jj aK aE cx ag ao a7 i4 i2) (iW,bG) r:=fD (fun _=>Up) h
def G2 (jF:ca)(je jf pa:Int)(aK:Bool)(aE:List Int)(cx:Int)(ag:List ca)(ao:List Int)(a7:List Bool):(Int×(List (List bg)))→S:=fun (nv,bG)=>eV [(14,np 2 0 2 jF),(107,.bC 1 0 0 ag.length),(108,.n .i64 je),(109,.n .i64 jf),(114,.n .i64 pa),(115,.n .i64 nv)] [[ab.mk 6 [(e4 1 0 0 ag.length aK aE 3 0 0 ao.length cx 4 0 0 a7.length)] .live],(av 1 (b3 2 0 2) ag),(de 2 aT bG),(av 1 I ao),(av 1 dT a7)]
def Ha (jF:ca)(je jf pa:Int)(aK:Bool)(aE:List Int)(cx:Int)(ag:List ca)(ao:List Int)(a7:List Bool):(List (List bg))→e3
 | a=>⟨some 6,[(107,.bC 1 0 0 ag.length),(108,.n .i64 je),(109,.n .i64 jf)],[[ab.mk 6 [(e4 1 0 0 ag.length aK aE 3 0 0 ao.length cx 4 0 0 a7.length)] .live],(av 1 (b3 2 0 2) ag),(de 2 aT a),(av 1 I ao),(av 1 dT a7)]⟩
def xi (jF:ca)(je jf pa:Int)(aK:Bool)(aE:List Int)(cx:Int)(ag:List ca)(ao:List Int)(a7:List Bool)(nv:Int)(bG:List (List bg)):Option ((Int×(List (List bg)))⊕((List (List bg)))) :=
 if (decide (nv<pa))=true then
  jF >>= fun dM =>
  bG[dM.1]? >>= fun jB =>
  if 0≤nv∧nv<(dM.2:Nat) then
  jB[(0+nv.toNat)]? >>= fun gR =>
  qb gR >>= fun bk =>
  some (.inl (U (nv+(1:Int)),bG.set dM.1 (jB.set (0+nv.toNat) bk)))
  else none
 else
  some (.inr bG)
def Da (jF:ca)(je jf pa:Int)(aK:Bool)(aE:List Int)(cx:Int)(ag:List ca)(ao:List Int)(a7:List Bool)(nv:Int)(bG:List (List bg)):Option ((List (List bg))):=iter (fun w:Int×(List (List bg))=>xi jF je jf pa aK aE cx ag ao a7 w.1 w.2) (nv,bG)
theorem Uq {jF:ca}{je jf pa:Int}{aK:Bool}{aE:List Int}{cx:Int}{ag:List ca}{ao:List Int}{a7:List Bool}{nv:Int}{bG:List (List bg)}:b1 (xi jF je jf pa aK aE cx ag ao a7 nv bG) (fA bt 128 5 105 [1,1,1,1,1,1,1,1,0,0,1,1,0,0,1,1,0,0] (G2 jF je jf pa aK aE cx ag ao a7 (nv,bG)) (G2 jF je jf pa aK aE cx ag ao a7) (Ha jF je jf pa aK aE cx ag ao a7)):=by
 unfold xi
 exact .ite (fun o =>
  .aw fun dM ak =>
  .aw fun jB aI =>
  .bq fun bu =>
  .aw fun gR bn =>
  .aw fun bk cV =>
  .ret (let aR:=lT (iR .live 2 aT bG) ls aI;bT [(ad 1),.aj true,(ad 2),.aG (ae 4 (ah (.eR 120 (.bC 2 (dM.1+0) 0 dM.2) (.hv (ab.mk 2 (jB.map aT) .live) [])) (ah (.hv (ab.mk 2 (jB.map aT) .live) (aT gR)) (ah (bD 1 (.agg (aT bk)) false) (ah (.eR 118 (.bC 2 (dM.1+0) 0 dM.2) (.hv (ab.mk 2 (jB.map aT) .live) [])) (ah (.hv (ab.mk 2 (jB.map aT) .live) (aT gR)) [])))))),(ad 2),.bp [0,1,2,3,4] [.box [.id,.id,.id,.id,.id,.id],.bw (av 1 (b3 2 0 2) ag),.bw (de 2 aT (bG.set dM.1 (jB.set (0+nv.toNat) bk))),.pure,.pure] (bO [14,107,108,109,114,115])] (.bj o (o5 (et:=2) (c:=0) (sz:=2) ak) aR bu.1 bu.2 aR (cD aT bn) (C7 bk cV) (.bj (o5 (et:=2) (c:=0) (sz:=2) ak) aR bu.1 bu.2 aR (cD aT bn) (e7 (dd [0,1,2,3,4]) 2 2 0 2 rfl ag) (qO (b6:=(dd [0,1,2,3,4])) (sx (iR .live 2 aT bG) dM.1 (su (dV aT jB) (0+nv.toNat) bk (rfl:(setCells (aT gR) 0 (aT bk))=aT bk))) (mX er)) (.aH (aF 1 .live aD ao) (aF 1 .live ee a7))))))
  (fun o =>
  .ret (bT [(ad 1),.aj false,.bp [0,1,2,3,4] [.box [.id,.id,.id,.id,.id,.id],.bw (av 1 (b3 2 0 2) ag),.bw (de 2 aT bG),.pure,.pure] (bO [107,108,109])] (.ej o (e7 (dd [0,1,2,3,4]) 2 2 0 2 rfl ag) (fb (dd [0,1,2,3,4]) 2 er bG) (aF 1 .live aD ao) (aF 1 .live ee a7))))
theorem UJ {jF:ca}{je jf pa:Int}{aK:Bool}{aE:List Int}{cx:Int}{ag:List ca}{ao:List Int}{a7:List Bool}{nv:Int}{bG:List (List bg)}{r} (h:Da jF je jf pa aK aE cx ag ao a7 nv bG=some r):fB bt 128 5 105 [1,1,1,1,1,1,1,1,0,0,1,1,0,0,1,1,0,0] (G2 jF je jf pa aK aE cx ag ao a7) (Ha jF je jf pa aK aE cx ag ao a7) (nv,bG) r:=fD (fun _=>Uq) h
def G3 (je:Int)(aK:Bool)(aE:List Int)(cx:Int)(ag:List ca)(ao:List Int)(a7:List Bool):(Int×(List (List bg)))→S:=fun (jf,bG)=>eV [(107,.bC 1 0 0 ag.length),(108,.n .i64 je),(109,.n .i64 jf)] [[ab.mk 6 [(e4 1 0 0 ag.length aK aE 3 0 0 ao.length cx 4 0 0 a7.length)] .live],(av 1 (b3 2 0 2) ag),(de 2 aT bG),(av 1 I ao),(av 1 dT a7)]
def Hb (je:Int)(aK:Bool)(aE:List Int)(cx:Int)(ag:List ca)(ao:List Int)(a7:List Bool):(List (List bg))→e3
 | a=>⟨some 4,[],[[ab.mk 6 [(e4 1 0 0 ag.length aK aE 3 0 0 ao.length cx 4 0 0 a7.length)] .live],(av 1 (b3 2 0 2) ag),(de 2 aT a),(av 1 I ao),(av 1 dT a7)]⟩
def xj (je:Int)(aK:Bool)(aE:List Int)(cx:Int)(ag:List ca)(ao:List Int)(a7:List Bool)(jf:Int)(bG:List (List bg)):Option ((Int×(List (List bg)))⊕((List (List bg)))) :=
 if (decide (jf<je))=true then
  if 0≤jf∧jf<(ag.length:Nat) then
  ag[(0+jf.toNat)]? >>= fun aQ =>
  aQ >>= fun me =>
  bG[me.1]? >>= fun lN =>
  Da aQ je jf ((me.2:Nat):Int) aK aE cx ag ao a7 0 bG >>= fun bk =>
  some (.inl (U (jf+(1:Int)),bk))
  else none
 else
  some (.inr bG)
def zZ (je:Int)(aK:Bool)(aE:List Int)(cx:Int)(ag:List ca)(ao:List Int)(a7:List Bool)(jf:Int)(bG:List (List bg)):Option ((List (List bg))):=iter (fun w:Int×(List (List bg))=>xj je aK aE cx ag ao a7 w.1 w.2) (jf,bG)
theorem Ur {je:Int}{aK:Bool}{aE:List Int}{cx:Int}{ag:List ca}{ao:List Int}{a7:List Bool}{jf:Int}{bG:List (List bg)}:b1 (xj je aK aE cx ag ao a7 jf bG) (fA bt 128 5 105 [1,1,1,1,1,1,1,1,0,0] (G3 je aK aE cx ag ao a7 (jf,bG)) (G3 je aK aE cx ag ao a7) (Hb je aK aE cx ag ao a7)):=by
 unfold xj
 exact .ite (fun o =>
  .bq fun J =>
  .aw fun aQ ay =>
  .aw fun me bu =>
  .aw fun lN bn =>
  .aw fun bk cV =>
  .ret (let aR:=dd [0,1,2,3,4];let bb:=e7 aR 2 2 0 2 rfl ag;bT [(ad 1),.aj true,.aG (bQ 1 (.cA ((b3 2 0 2) aQ)) 1),.aG (bQ 1 (.eR 113 (.bC 2 (me.1+0) 0 me.2) (.hv (ab.mk 2 (lN.map aT) .live) [])) 1),.bp [0,1,2,3,4] [.box [.id,.id,.id,.id,.id,.id],.bw (av 1 (b3 2 0 2) ag),.bw (de 2 aT bG),.pure,.pure] (bO [14,107,108,109,114,115]),(Ha aQ je jf ((me.2:Nat):Int) aK aE cx ag ao a7 bk).gp,(ad 2),.bp [0,1,2,3,4] [.box [.id,.id,.id,.id,.id,.id],.bw (av 1 (b3 2 0 2) ag),.bw (de 2 aT bk),.pure,.pure] (bO [107,108,109])] (.bj o J.1 J.2 (cD (b3 2 0 2) ay) (o5 (et:=2) (c:=0) (sz:=2) bu) (lT (iR .live 2 aT bG) ls bn) bb (fb aR 2 er bG) (.fr (aF 1 .live aD ao) (aF 1 .live ee a7) (UJ cV) bb (fb aR 2 er bk) (aF 1 .live aD ao) (aF 1 .live ee a7)))))
  (fun o =>
  .ret (bT [(ad 1),.aj false,.bp [0,1,2,3,4] [.box [.id,.id,.id,.id,.id,.id],.bw (av 1 (b3 2 0 2) ag),.bw (de 2 aT bG),.pure,.pure] []] (.ej o (e7 (dd [0,1,2,3,4]) 2 2 0 2 rfl ag) (fb (dd [0,1,2,3,4]) 2 er bG) (aF 1 .live aD ao) (aF 1 .live ee a7))))
theorem UK {je:Int}{aK:Bool}{aE:List Int}{cx:Int}{ag:List ca}{ao:List Int}{a7:List Bool}{jf:Int}{bG:List (List bg)}{r} (h:zZ je aK aE cx ag ao a7 jf bG=some r):fB bt 128 5 105 [1,1,1,1,1,1,1,1,0,0] (G3 je aK aE cx ag ao a7) (Hb je aK aE cx ag ao a7) (jf,bG) r:=fD (fun _=>Ur) h
def xC (c5 bV:Int)(bY:Bool)(cg:List Int)(eN:Int)(cf:List ca)(l6:List (List bg))(dh:List Int)(hz:List Bool):Option (Bool×(List Int)×(List (List bg))×(List Int)) :=
 if 0≤c5∧c5<(cf.length:Nat) then
 cf[(0+c5.toNat)]? >>= fun fk =>
 fk >>= fun oe =>
 l6[oe.1]? >>= fun zQ =>
 if 0≤bV∧bV<(oe.2:Nat) then
 zQ[(0+bV.toNat)]? >>= fun gD =>
 C9 c5 bV fk ((cf.length:Nat):Int) bY cg eN cf dh hz gD.cY gD.cB 0 l6 >>= fun cI =>
 if 0≤c5∧c5<(dh.length:Nat) then
 if (0+c5.toNat)<dh.length then
 o3 gD >>= fun dS =>
 if (decide ((0:Int)<dS))=true then
  some (gD.cY,gD.cB,cI,dh.set (0+c5.toNat) bV)
 else
  qb gD >>= fun d6 =>
  zZ ((cf.length:Nat):Int) d6.cY d6.cB eN cf (dh.set (0+c5.toNat) bV) hz 0 cI >>= fun fw =>
  some (d6.cY,d6.cB,fw,dh.set (0+c5.toNat) bV)
 else none
 else none
 else none
 else none
theorem Nv {c5 bV:Int}{bY:Bool}{cg:List Int}{eN:Int}{cf:List ca}{l6:List (List bg)}{dh:List Int}{hz:List Bool}:b1 (xC c5 bV bY cg eN cf l6 dh hz) (fun a=>Con bt 105 [.ref 0 0 0 0,.n .i64 c5,.n .i64 bV] [[ab.mk 6 [(e4 1 0 0 cf.length bY cg 3 0 0 dh.length eN 4 0 0 hz.length)] .live],(av 1 (b3 2 0 2) cf),(de 2 aT l6),(av 1 I dh),(av 1 dT hz)] (.df []) [[ab.mk 6 [(e4 1 0 0 cf.length a.1 a.2.1 3 0 0 a.2.2.2.length eN 4 0 0 hz.length)] .live],(av 1 (b3 2 0 2) cf),(de 2 aT a.2.2.1),(av 1 I a.2.2.2),(av 1 dT hz)]):=by
 unfold xC
 exact .bq fun o =>
  .aw fun fk ak =>
  .aw fun oe aI =>
  .aw fun zQ bx =>
  .bq fun bn =>
  .aw fun gD cV =>
  .aw fun cI dg =>
  .bq fun ec =>
  .bq fun eL =>
  .aw fun dS jq =>
  (let en:=lT (iR .live 2 aT l6) ls bx;let gf:=dd [0,1,2,3,4,17];let t1:List cK:=[.aG (bQ 6 (.cA ((b3 2 0 2) fk)) 1),.aG (ae 2 (ah (.eR 23 (.bC 2 (oe.1+0) 0 oe.2) (.hv (ab.mk 2 (zQ.map aT) .live) [])) (ah (.hv (ab.mk 2 (zQ.map aT) .live) (aT gD)) (ae 2 [])))),(ad 6),.bp [0,1,2,3,4,17] [.box [.id,.id,.id,.id,.id,.id],.bw (av 1 (b3 2 0 2) cf),.bw (de 2 aT l6),.pure,.pure,.box [.id,.id]] (bO [0,1,2,6,7,30,31,32]),(G9 c5 bV fk ((cf.length:Nat):Int) bY cg eN cf dh hz gD.cY gD.cB cI).gp,(ad 5),.aG (ae 7 (ah .cU [])),.aG (bQ 1 (bD 1 (.n .i64 dS) true) 1)];
  have a4:=((.bj o.1 o.2 (cD (b3 2 0 2) ak) (o5 (et:=2) (c:=0) (sz:=2) aI) en bn.1 bn.2 en (.bj (cD aT cV) (e7 gf 2 2 0 2 rfl cf) (fb gf 2 er l6) (aF 1 .live aD dh) (aF 1 .live ee hz) (UI dg) ec.1 ec.2 (.dn (hk I eL) (gL 1) (s0 dS jq) (cz.n .i64 dS)))):c1 _);
  .ite (fun gG =>
  .ret (hE (t1.append [.aj true]) [0,1,2,3,4] [.bw [ab.mk 6 [(e4 1 0 0 cf.length gD.cY gD.cB 3 0 0 ((dh.set (0+c5.toNat) bV).length) eN 4 0 0 hz.length)] .live],.bw (av 1 (b3 2 0 2) cf),.bw (de 2 aT cI),.d3 (av 1 I (dh.set (0+c5.toNat) bV)),.pure] (a4.aZ (.fr gG (el (show ab.mk 6 [(e4 1 0 0 cf.length gD.cY gD.cB 3 0 0 ((dh.set (0+c5.toNat) bV).length) eN 4 0 0 hz.length)] .live=ko (dd [0,1,2,3,4]) (ab.mk 6 [(e4 1 0 0 cf.length gD.cY gD.cB 3 0 0 dh.length eN 4 0 0 hz.length)] .live) from (congrArg (fun MT=>ab.mk 6 [(e4 1 0 0 cf.length gD.cY gD.cB 3 0 0 MT eN 4 0 0 hz.length)] .live) (gN (ft dh) (0+c5.toNat) bV).symm)) jG) (e7 (dd [0,1,2,3,4]) 2 2 0 2 rfl cf) (fb (dd [0,1,2,3,4]) 2 er cI) (eX 1 .live (fP (dV I dh) (0+c5.toNat) bV)) (aF 1 .live aD (dh.set (0+c5.toNat) bV)) (aF 1 .live ee hz)))))
  (fun gG =>
  .aw fun d6 iM =>
  .aw fun fw mw =>
  .ret (let aR:=e4 1 0 0 cf.length d6.cY d6.cB 3 0 0 ((dh.set (0+c5.toNat) bV).length) eN 4 0 0 hz.length;let bb:=dd [0,1,2,3,4];let b7:=aF 1 .live aD (dh.set (0+c5.toNat) bV);let cC:=e7 bb 2 2 0 2 rfl cf;hE (t1.append [.aj false,.aG (bQ 2 (bD 1 (.agg (aT d6)) false) 3),(ad 6),.bp [0,1,2,3,4] [.box [.id,.id,.id,.len ((dh.set (0+c5.toNat) bV).length),.id,.id],.bw (av 1 (b3 2 0 2) cf),.bw (de 2 aT cI),.d3 (av 1 I (dh.set (0+c5.toNat) bV)),.pure] (bO [107,108,109]),(Hb ((cf.length:Nat):Int) d6.cY d6.cB eN cf (dh.set (0+c5.toNat) bV) hz fw).gp]) [0,1,2,3,4] [.bw [ab.mk 6 [aR] .live],.bw (av 1 (b3 2 0 2) cf),.bw (de 2 aT fw),.pure,.pure] (a4.aZ (.bj gG (C7 d6 iM) (gN (ft dh) (0+c5.toNat) bV) cC (fb bb 2 er cI) (eX 1 .live (fP (dV I dh) (0+c5.toNat) bV)) b7 (aF 1 .live ee hz) (.fq (UK mw) (gS bb 6 [aR] [aR] rfl) cC (fb bb 2 er fw) b7 (aF 1 .live ee hz)))))))
def GN (bU:Int)(aK:Bool)(aE:List Int)(ag:List ca)(bG:List (List bg))(ao:List Int)(a7:List Bool)(bB:List Int):Int→S:=fun cF=>eV [(0,.ref 0 0 0 0),(1,.bC 5 0 0 bB.length),(5,.b false),(13,.n .i64 bU),(14,.n .i64 cF)] [[ab.mk 6 [(e4 1 0 0 ag.length aK aE 3 0 0 ao.length bU 4 0 0 a7.length)] .live],(av 1 (b3 2 0 2) ag),(de 2 aT bG),(av 1 I ao),(av 1 dT a7),(av 1 I bB)]
def CY (bU:Int)(aK:Bool)(aE:List Int)(ag:List ca)(bG:List (List bg))(ao:List Int)(a7:List Bool)(bB:List Int):((Bool×Bool×(List Int)×(List (List bg))×(List Int))⊕(Unit))→e3
 | .inl a=>⟨some 2,[(0,.ref 0 0 0 0),(1,.bC 5 0 0 bB.length),(5,.b a.1)],[[ab.mk 6 [(e4 1 0 0 ag.length a.2.1 a.2.2.1 3 0 0 a.2.2.2.2.length bU 4 0 0 a7.length)] .live],(av 1 (b3 2 0 2) ag),(de 2 aT a.2.2.2.1),(av 1 I a.2.2.2.2),(av 1 dT a7),(av 1 I bB)]⟩
 | .inr a=>⟨none,[(4,.b false)],[[ab.mk 6 [(e4 1 0 0 ag.length aK aE 3 0 0 ao.length bU 4 0 0 a7.length)] .live],(av 1 (b3 2 0 2) ag),(de 2 aT bG),(av 1 I ao),(av 1 dT a7),(av 1 I bB)]⟩
def xa (bU:Int)(aK:Bool)(aE:List Int)(ag:List ca)(bG:List (List bg))(ao:List Int)(a7:List Bool)(bB:List Int)(cF:Int):Option ((Int)⊕((Bool×Bool×(List Int)×(List (List bg))×(List Int))⊕(Unit))) :=
 if (decide (cF<bU))=true then
  if 0≤cF∧cF<(a7.length:Nat) then
  a7[(0+cF.toNat)]? >>= fun aQ =>
  if aQ=true then
   yp ao cF >>= fun a5 =>
   if a5=true then
    some (.inl (U (cF+(1:Int))))
   else
    if ag.all (wi bG)=true then
    xW (⟨ag.map (mG bG),(⟨aK,aE⟩:bg),ao,bU,a7⟩:rB) bB cF >>= fun dc =>
    if (decide (dc≤(0:Int)))=true then
     some (.inl (U (cF+(1:Int))))
    else
     z2 (⟨ag.map (mG bG),(⟨aK,aE⟩:bg),ao,bU,a7⟩:rB) cF >>= fun dp =>
     if (decide (dp<(0:Int)))=true then
      some (.inr (.inr ()))
     else
      xC dp cF aK aE bU ag bG ao a7 >>= fun dy =>
      some (.inr (.inl (true,dy.1,dy.2.1,dy.2.2.1,dy.2.2.2)))
    else none
  else
   some (.inl (U (cF+(1:Int))))
  else none
 else
  some (.inr (.inl (false,aK,aE,bG,ao)))
def xo (bU:Int)(aK:Bool)(aE:List Int)(ag:List ca)(bG:List (List bg))(ao:List Int)(a7:List Bool)(bB:List Int)(cF:Int):Option ((Bool×Bool×(List Int)×(List (List bg))×(List Int))⊕(Unit)):=iter (fun w:Int=>xa bU aK aE ag bG ao a7 bB w) cF
theorem Ub {bU:Int}{aK:Bool}{aE:List Int}{ag:List ca}{bG:List (List bg)}{ao:List Int}{a7:List Bool}{bB:List Int}{cF:Int}:b1 (xa bU aK aE ag bG ao a7 bB cF) (fA bt 87 6 89 [1,0,1,0,0,1,0,1,1,0,0] (GN bU aK aE ag bG ao a7 bB cF) (GN bU aK aE ag bG ao a7 bB) (CY bU aK aE ag bG ao a7 bB)):=by
 unfold xa
 exact .ite (fun o =>
  .bq fun J =>
  .aw fun aQ ay =>
  (let t1:List cK:=[(ad 1),.aj true,(ad 2)];
  .ite (fun aI =>
  .aw fun a5 bx =>
  (have a4:=((.bj o J.1 J.2 (cD dT ay) (dQ aI) (dQ aI) (dQ aI) (dQ aI) (.hB (dQ aI) (dQ aI) (kp I ao) (jA I ao) (e9 aD ao) (Ou a5 bx) (cz.b a5) (dQ aI))):c1 _);
  .ite (fun bn =>
  .ret (let aR:=dd [0,1,2,3,4,5];bT (t1.append [.aG (ae 6 (ah (.cA (dT aQ)) (ae 7 (ah (.call {ac:=[.bN (.cj (.gn (ao.map I))),ii],r:= .b a5,dq:=true,dv:=[3]}) (ah (.aj false) (ae 1 (cm 5 (ah (.aj true) [])))))))),.aj true,(ad 2),.bp [0,1,2,3,4,5] [.box [.id,.id,.id,.id,.id,.id],.bw (av 1 (b3 2 0 2) ag),.bw (de 2 aT bG),.pure,.pure,.pure] (bO [0,1,5,13,14])]) (a4.aZ (.bj bn bn bn bn bn bn bl (e7 aR 2 2 0 2 rfl ag) (.dn (fb aR 2 er bG) (aF 1 .live aD ao) (aF 1 .live ee a7) (aF 1 .live aD bB))))))
  (fun bn =>
  .bq fun cd =>
  .aw fun dc cZ =>
  (let t3:List cK:=t1.append [.aG (ae 6 (ah (.cA (dT aQ)) (ae 7 (ah (.call {ac:=[.bN (.cj (.gn (ao.map I))),ii],r:= .b a5,dq:=true,dv:=[3]}) (ah (.aj false) (ae 4 (ah (.call {ac:=[.bN (.ptr [.view 2 (ab.mk 1 (ag.map (b3 2 0 2)) .live) ((ag.map (mG bG)).map (dL 2 aT)),.id,.id,.gn (ao.map I),.id,.gn (a7.map dT)]),.bN (.cj (.gn (bB.map I))),ii],r:= .n .i64 dc,dq:=true,dv:=[0,1,2,3,4,5]}) (ae 1 (ah (.aj false) [])))))))))];
  have fK:=a4.aZ (.bj bn bn bn bn (rfl:di (some (av 1 (b3 2 0 2) ag)) 0=some (ab.mk 1 (ag.map (b3 2 0 2)) .live)) (rfl:_=true) (jA (b3 2 0 2) ag) (e9 (mU (sz:=2) s6) (ag.map (mG bG))) (.bj (EV (et:=2) (jM:=[]++(de 2 aT bG)) (b0:=mo) (sz:=1) (g:=(dL 2 aT)) (dV (b3 2 0 2) ag) (fun _=>rfl) (fun x aa=>(LV (et:=2) (c:=0) (b0:=mo) (us:=[]) (iR .live 2 aT bG) s6 rfl ls rfl (KD cd x aa))) (ft ag)) (kp I ao) (jA I ao) (e9 aD ao) (kp dT a7) (jA dT a7) (e9 ee a7) (kQ (I1 (⟨ag.map (mG bG),(⟨aK,aE⟩:bg),ao,bU,a7⟩:rB)):hl [[.isl 1 ((ag.map (mG bG)).map (dL 2 aT)),.b aK,.isl 1 (aE.map I),.isl 1 (ao.map I),.n .i64 bU,.isl 1 (a7.map dT)]]) (.fr (kp I bB) (jA I bB) (e9 aD bB) (NB dc cZ) (cz.n .i64 dc) bn bn)));
  .ite (fun dg =>
  .ret (let bb:=dd [0,1,2,3,4,5];bT (t3.append [.aj true,(ad 2),.bp [0,1,2,3,4,5] [.box [.id,.id,.id,.id,.id,.id],.bw (av 1 (b3 2 0 2) ag),.bw (de 2 aT bG),.pure,.pure,.pure] (bO [0,1,5,13,14])]) (fK.aZ (.fq dg (e7 bb 2 2 0 2 rfl ag) (fb bb 2 er bG) (aF 1 .live aD ao) (aF 1 .live ee a7) (aF 1 .live aD bB)))))
  (fun dg =>
  .aw fun dp eL =>
  (let t5:List cK:=t3.append [.aj false,.aG (bQ 2 (.call {ac:=[.bN (.ptr [.view 2 (ab.mk 1 (ag.map (b3 2 0 2)) .live) ((ag.map (mG bG)).map (dL 2 aT)),.id,.id,.gn (ao.map I),.id,.gn (a7.map dT)]),ii],r:= .n .i64 dp,dq:=true,dv:=[0,1,2,3,4]}) 1),(ad 2)];
  have od:=fK.aZ (.bj dg (rfl:di (some (av 1 (b3 2 0 2) ag)) 0=some (ab.mk 1 (ag.map (b3 2 0 2)) .live)) (rfl:_=true) (jA (b3 2 0 2) ag) (e9 (mU (sz:=2) s6) (ag.map (mG bG))) (EV (et:=2) (jM:=[]++(de 2 aT bG)) (b0:=mo) (sz:=1) (g:=(dL 2 aT)) (dV (b3 2 0 2) ag) (fun _=>rfl) (fun x aa=>(LV (et:=2) (c:=0) (b0:=mo) (us:=[]) (iR .live 2 aT bG) s6 rfl ls rfl (KD cd x aa))) (ft ag)) (kp I ao) (jA I ao) (.fr (e9 aD ao) (kp dT a7) (jA dT a7) (e9 ee a7) (kQ (I1 (⟨ag.map (mG bG),(⟨aK,aE⟩:bg),ao,bU,a7⟩:rB)):hl [[.isl 1 ((ag.map (mG bG)).map (dL 2 aT)),.b aK,.isl 1 (aE.map I),.isl 1 (ao.map I),.n .i64 bU,.isl 1 (a7.map dT)]]) (U5 dp eL) (cz.n .i64 dp)));
  .ite (fun gm =>
  .ret (let b7:=dd [0,1,2,3,4,5];bT (t5.append [.aj true,(ad 1),.bp [0,1,2,3,4,5] [.box [.id,.id,.id,.id,.id,.id],.bw (av 1 (b3 2 0 2) ag),.bw (de 2 aT bG),.pure,.pure,.pure] (bO [4])]) (od.aZ (.fq gm (e7 b7 2 2 0 2 rfl ag) (fb b7 2 er bG) (aF 1 .live aD ao) (aF 1 .live ee a7) (aF 1 .live aD bB)))))
  (fun gm =>
  .aw fun dy gG =>
  .ret (let cC:=e4 1 0 0 ag.length dy.1 dy.2.1 3 0 0 dy.2.2.2.length bU 4 0 0 a7.length;let en:=e4 1 0 0 ag.length aK aE 3 0 0 ao.length bU 4 0 0 a7.length;let gf:=av 1 (b3 2 0 2) ag;let hc:=de 2 aT dy.2.2.1;let fh:=ke [0,1,2,3,4];let hO:=hK [0,1,2,3,4];let iN:=gT 1 (ag.map (b3 2 0 2));let kJ:=dd [0,1,2,3,4,5];bT (t5.append [.aj false,.aG (ae 3 (ah (.call {aM:=(lh [0,1,2,3,4]),cr:=[.bw [ab.mk 6 [en] .live],.bw gf,.bw (de 2 aT bG),.pure,.pure],ac:=[ii,ii,ii],r:= .df [],dj:=[[ab.mk 6 [cC] .live],gf,hc,(av 1 I dy.2.2.2),(av 1 dT a7)],eh:=ii,e1:=[.bw [ab.mk 6 [cC] .live],.bw gf,.bw hc,.pure,.pure],dv:=[0,1,2,3,4],dq:=false}) [])),(ad 1),.bp [0,1,2,3,4,5] [.box [.id,.id,.id,.id,.id,.id],.bw gf,.bw hc,.pure,.pure,.pure] (bO [0,1,5])]) (od.aZ (.bj gm (gS fh 6 [en] [en] rfl) (gT 6 [en]) (e7 fh 2 2 0 2 rfl ag) iN (fb fh 2 er bG) (rm 2 aT bG) (eI 1 aD ao) (.bj (eI 1 ee a7) (gS hO 6 [cC] [cC] rfl) (gT 6 [cC]) (e7 hO 2 2 0 2 rfl ag) iN (fb hO 2 er dy.2.2.1) (rm 2 aT dy.2.2.1) (eI 1 aD dy.2.2.2) (.fr (eI 1 ee a7) (Nv dy gG) (e7 kJ 2 2 0 2 rfl ag) (fb kJ 2 er dy.2.2.1) (aF 1 .live aD dy.2.2.2) (aF 1 .live ee a7) (aF 1 .live aD bB)))))))))))))
  (fun aI =>
  .ret (let kK:=dd [0,1,2,3,4,5];bT (t1.append [.aG (ae 6 (ah (.cA (dT aQ)) (ae 2 (cm 6 (ah (.aj true) (ae 1 (cm 5 (ae 1 [])))))))),.aj true,(ad 2),.bp [0,1,2,3,4,5] [.box [.id,.id,.id,.id,.id,.id],.bw (av 1 (b3 2 0 2) ag),.bw (de 2 aT bG),.pure,.pure,.pure] (bO [0,1,5,13,14])]) (.bj o J.1 J.2 (cD dT ay) (dR aI) (dR aI) (dR aI) (dR aI) (.bj (dR aI) (dR aI) (dR aI) bl bl bl bl bl (.fq bl (e7 kK 2 2 0 2 rfl ag) (fb kK 2 er bG) (aF 1 .live aD ao) (aF 1 .live ee a7) (aF 1 .live aD bB))))))))
  (fun o =>
  .ret (let ng:=dd [0,1,2,3,4,5];bT [(ad 1),.aj false,.bp [0,1,2,3,4,5] [.box [.id,.id,.id,.id,.id,.id],.bw (av 1 (b3 2 0 2) ag),.bw (de 2 aT bG),.pure,.pure,.pure] (bO [0,1,5])] (.fq o (e7 ng 2 2 0 2 rfl ag) (fb ng 2 er bG) (aF 1 .live aD ao) (aF 1 .live ee a7) (aF 1 .live aD bB))))
theorem Nm {bU:Int}{aK:Bool}{aE:List Int}{ag:List ca}{bG:List (List bg)}{ao:List Int}{a7:List Bool}{bB:List Int}{cF:Int}{r} (h:xo bU aK aE ag bG ao a7 bB cF=some r):fB bt 87 6 89 [1,0,1,0,0,1,0,1,1,0,0] (GN bU aK aE ag bG ao a7 bB) (CY bU aK aE ag bG ao a7 bB) cF r:=fD (fun _=>Ub) h
def GO (cx:Int)(ag:List ca)(a7:List Bool)(bB:List Int):(Bool×Bool×(List Int)×(List (List bg))×(List Int))→S:=fun (rE,aK,aE,bG,ao)=>eV [(0,.ref 0 0 0 0),(1,.bC 5 0 0 bB.length),(5,.b rE)] [[ab.mk 6 [(e4 1 0 0 ag.length aK aE 3 0 0 ao.length cx 4 0 0 a7.length)] .live],(av 1 (b3 2 0 2) ag),(de 2 aT bG),(av 1 I ao),(av 1 dT a7),(av 1 I bB)]
def CZ (cx:Int)(ag:List ca)(a7:List Bool)(bB:List Int):((Bool×(List Int)×(List (List bg))×(List Int))⊕(Bool×(List Int)×(List (List bg))×(List Int)))→e3
 | .inl a=>⟨some 0,[(0,.ref 0 0 0 0),(1,.bC 5 0 0 bB.length)],[[ab.mk 6 [(e4 1 0 0 ag.length a.1 a.2.1 3 0 0 a.2.2.2.length cx 4 0 0 a7.length)] .live],(av 1 (b3 2 0 2) ag),(de 2 aT a.2.2.1),(av 1 I a.2.2.2),(av 1 dT a7),(av 1 I bB)]⟩
 | .inr a=>⟨none,[(4,.b false)],[[ab.mk 6 [(e4 1 0 0 ag.length a.1 a.2.1 3 0 0 a.2.2.2.length cx 4 0 0 a7.length)] .live],(av 1 (b3 2 0 2) ag),(de 2 aT a.2.2.1),(av 1 I a.2.2.2),(av 1 dT a7),(av 1 I bB)]⟩
def uY (cx:Int)(ag:List ca)(a7:List Bool)(bB:List Int)(rE aK:Bool)(aE:List Int)(bG:List (List bg))(ao:List Int):Option ((Bool×Bool×(List Int)×(List (List bg))×(List Int))⊕((Bool×(List Int)×(List (List bg))×(List Int))⊕(Bool×(List Int)×(List (List bg))×(List Int)))) :=
 if rE=true then
  xo cx aK aE ag bG ao a7 bB 0 >>= fun bE =>
  match bE with
  | .inl f7=>(some (.inl (f7.1,f7.2.1,f7.2.2.1,f7.2.2.2.1,f7.2.2.2.2)))
  | .inr f7=>(some (.inr (.inr (aK,aE,bG,ao))))
 else
  some (.inr (.inl (aK,aE,bG,ao)))
def C4 (cx:Int)(ag:List ca)(a7:List Bool)(bB:List Int)(rE aK:Bool)(aE:List Int)(bG:List (List bg))(ao:List Int):Option ((Bool×(List Int)×(List (List bg))×(List Int))⊕(Bool×(List Int)×(List (List bg))×(List Int))):=iter (fun w:Bool×Bool×(List Int)×(List (List bg))×(List Int)=>uY cx ag a7 bB w.1 w.2.1 w.2.2.1 w.2.2.2.1 w.2.2.2.2) (rE,aK,aE,bG,ao)
theorem Uc {cx:Int}{ag:List ca}{a7:List Bool}{bB:List Int}{rE aK:Bool}{aE:List Int}{bG:List (List bg)}{ao:List Int}:b1 (uY cx ag a7 bB rE aK aE bG ao) (fA bt 87 6 89 [1,0,1,0,0] (GO cx ag a7 bB (rE,aK,aE,bG,ao)) (GO cx ag a7 bB) (CZ cx ag a7 bB)):=by
 unfold uY
 exact .ite (fun o =>
  .aw fun bE ak =>
  (let cC:=dd [0,1,2,3,4,5];let t1:List cK:=[(ad 1),.aj true,(ad 1),(ad 5),.bp [0,1,2,3,4,5] [.box [.id,.id,.id,.id,.id,.id],.bw (av 1 (b3 2 0 2) ag),.bw (de 2 aT bG),.pure,.pure,.pure] (bO [0,1,5,13,14])];
  have a4:=((.fq o (e7 cC 2 2 0 2 rfl ag) (fb cC 2 er bG) (aF 1 .live aD ao) (aF 1 .live ee a7) (aF 1 .live aD bB)):c1 _);
  (by
  rcases bE with f7|f7
  ·exact (.ret (let aR:=dd [0,1,2,3,4,5];bT (t1.append [(CY cx aK aE ag bG ao a7 bB (.inl f7)).gp,.bp [0,1,2,3,4,5] [.box [.id,.id,.id,.id,.id,.id],.bw (av 1 (b3 2 0 2) ag),.bw (de 2 aT f7.2.2.2.1),.pure,.pure,.pure] (bO [0,1,5])]) (a4.aZ (.fq (Nm ak) (e7 aR 2 2 0 2 rfl ag) (fb aR 2 er f7.2.2.2.1) (aF 1 .live aD f7.2.2.2.2) (aF 1 .live ee a7) (aF 1 .live aD bB)))))
  ·exact (.ret (let bb:=dd [0,1,2,3,4,5];bT (t1.append [(CY cx aK aE ag bG ao a7 bB (.inr f7)).gp,.bp [0,1,2,3,4,5] [.box [.id,.id,.id,.id,.id,.id],.bw (av 1 (b3 2 0 2) ag),.bw (de 2 aT bG),.pure,.pure,.pure] (bO [4])]) (a4.aZ (.fq (Nm ak) (e7 bb 2 2 0 2 rfl ag) (fb bb 2 er bG) (aF 1 .live aD ao) (aF 1 .live ee a7) (aF 1 .live aD bB))))))))
  (fun o =>
  .ret (let b7:=dd [0,1,2,3,4,5];bT [(ad 1),.aj false,.bp [0,1,2,3,4,5] [.box [.id,.id,.id,.id,.id,.id],.bw (av 1 (b3 2 0 2) ag),.bw (de 2 aT bG),.pure,.pure,.pure] (bO [0,1])] (.fq o (e7 b7 2 2 0 2 rfl ag) (fb b7 2 er bG) (aF 1 .live aD ao) (aF 1 .live ee a7) (aF 1 .live aD bB))))
theorem Nn {cx:Int}{ag:List ca}{a7:List Bool}{bB:List Int}{rE aK:Bool}{aE:List Int}{bG:List (List bg)}{ao:List Int}{r} (h:C4 cx ag a7 bB rE aK aE bG ao=some r):fB bt 87 6 89 [1,0,1,0,0] (GO cx ag a7 bB) (CZ cx ag a7 bB) (rE,aK,aE,bG,ao) r:=fD (fun _=>Uc) h
def GP (fS:Int)(aK:Bool)(aE:List Int)(ag:List ca)(bG:List (List bg))(ao bB:List Int):(Int×(List Bool))→S:=fun (hN,a7)=>eV [(0,.ref 0 0 0 0),(1,.bC 5 0 0 bB.length),(53,.n .i64 fS),(54,.n .i64 hN)] [[ab.mk 6 [(e4 1 0 0 ag.length aK aE 3 0 0 ao.length fS 4 0 0 a7.length)] .live],(av 1 (b3 2 0 2) ag),(de 2 aT bG),(av 1 I ao),(av 1 dT a7),(av 1 I bB)]
def GS (fS:Int)(aK:Bool)(aE:List Int)(ag:List ca)(bG:List (List bg))(ao bB:List Int):(List Bool)→e3
 | a=>⟨some 4,[],[[ab.mk 6 [(e4 1 0 0 ag.length aK aE 3 0 0 ao.length fS 4 0 0 a.length)] .live],(av 1 (b3 2 0 2) ag),(de 2 aT bG),(av 1 I ao),(av 1 dT a),(av 1 I bB)]⟩
def xb (fS:Int)(aK:Bool)(aE:List Int)(ag:List ca)(bG:List (List bg))(ao bB:List Int)(hN:Int)(a7:List Bool):Option ((Int×(List Bool))⊕((List Bool))) :=
 if (decide (hN<fS))=true then
  if 0≤hN∧hN<(a7.length:Nat) then
  a7[(0+hN.toNat)]? >>= fun aQ =>
  if aQ=true then
   yp ao hN >>= fun a5 =>
   if a5=true then
    some (.inl (U (hN+(1:Int)),a7))
   else
    if ag.all (wi bG)=true then
    xW (⟨ag.map (mG bG),(⟨aK,aE⟩:bg),ao,fS,a7⟩:rB) bB hN >>= fun dc =>
    if (decide (dc<(0:Int)))=true then
     if (0+hN.toNat)<a7.length then
     some (.inl (U (hN+(1:Int)),a7.set (0+hN.toNat) false))
     else none
    else
     some (.inl (U (hN+(1:Int)),a7))
    else none
  else
   some (.inl (U (hN+(1:Int)),a7))
  else none
 else
  some (.inr a7)
def C5 (fS:Int)(aK:Bool)(aE:List Int)(ag:List ca)(bG:List (List bg))(ao bB:List Int)(hN:Int)(a7:List Bool):Option ((List Bool)):=iter (fun w:Int×(List Bool)=>xb fS aK aE ag bG ao bB w.1 w.2) (hN,a7)
theorem Ud {fS:Int}{aK:Bool}{aE:List Int}{ag:List ca}{bG:List (List bg)}{ao bB:List Int}{hN:Int}{a7:List Bool}:b1 (xb fS aK aE ag bG ao bB hN a7) (fA bt 87 6 89 [1,1,0,1,0,0] (GP fS aK aE ag bG ao bB (hN,a7)) (GP fS aK aE ag bG ao bB) (GS fS aK aE ag bG ao bB)):=by
 unfold xb
 exact .ite (fun o =>
  .bq fun J =>
  .aw fun aQ ay =>
  (let t1:List cK:=[(ad 1),.aj true,(ad 2)];
  .ite (fun aI =>
  .aw fun a5 bx =>
  (have a4:=((.bj o J.1 J.2 (cD dT ay) aI aI aI aI (.bj aI aI (kp I ao) (jA I ao) (e9 aD ao) (Ou a5 bx) (cz.b a5) aI (.az aI))):c1 _);
  .ite (fun bn =>
  .ret (let aR:=dd [0,1,2,3,4,5];bT (t1.append [.aG (ae 6 (ah (.cA (dT aQ)) (ae 6 (ah (.call {ac:=[.bN (.cj (.gn (ao.map I))),ii],r:= .b a5,dq:=true,dv:=[3]}) (ae 1 (ah (.aj true) (ae 1 (cm 5 (ah (.aj false) []))))))))),.aj false,(ad 2),.bp [0,1,2,3,4,5] [.box [.id,.id,.id,.id,.id,.id],.bw (av 1 (b3 2 0 2) ag),.bw (de 2 aT bG),.pure,.pure,.pure] (bO [0,1,53,54])]) (a4.aZ (.bj (dQ bn) (dQ bn) (dQ bn) (dQ bn) (dQ bn) (dQ bn) ez (e7 aR 2 2 0 2 rfl ag) (.dn (fb aR 2 er bG) (aF 1 .live aD ao) (aF 1 .live ee a7) (aF 1 .live aD bB))))))
  (fun bn =>
  .bq fun cd =>
  .aw fun dc cZ =>
  (let t3:List cK:=t1.append [.aG (ae 6 (ah (.cA (dT aQ)) (ae 6 (ah (.call {ac:=[.bN (.cj (.gn (ao.map I))),ii],r:= .b a5,dq:=true,dv:=[3]}) (ae 1 (ah (.aj true) (ae 4 (ah (.call {ac:=[.bN (.ptr [.view 2 (ab.mk 1 (ag.map (b3 2 0 2)) .live) ((ag.map (mG bG)).map (dL 2 aT)),.id,.id,.gn (ao.map I),.id,.gn (a7.map dT)]),.bN (.cj (.gn (bB.map I))),ii],r:= .n .i64 dc,dq:=true,dv:=[0,1,2,3,4,5]}) (ae 1 (ah (.aj true) []))))))))))];
  have fK:=a4.aZ (.bj (dR bn) (dR bn) (dR bn) (dR bn) (rfl:di (some (av 1 (b3 2 0 2) ag)) 0=some (ab.mk 1 (ag.map (b3 2 0 2)) .live)) (rfl:_=true) (jA (b3 2 0 2) ag) (e9 (mU (sz:=2) s6) (ag.map (mG bG))) (.bj (EV (et:=2) (jM:=[]++(de 2 aT bG)) (b0:=mo) (sz:=1) (g:=(dL 2 aT)) (dV (b3 2 0 2) ag) (fun _=>rfl) (fun x aa=>(LV (et:=2) (c:=0) (b0:=mo) (us:=[]) (iR .live 2 aT bG) s6 rfl ls rfl (KD cd x aa))) (ft ag)) (kp I ao) (jA I ao) (e9 aD ao) (kp dT a7) (jA dT a7) (e9 ee a7) (kQ (I1 (⟨ag.map (mG bG),(⟨aK,aE⟩:bg),ao,fS,a7⟩:rB)):hl [[.isl 1 ((ag.map (mG bG)).map (dL 2 aT)),.b aK,.isl 1 (aE.map I),.isl 1 (ao.map I),.n .i64 fS,.isl 1 (a7.map dT)]]) (.fr (kp I bB) (jA I bB) (e9 aD bB) (NB dc cZ) (cz.n .i64 dc) (dR bn) (dR bn))));
  .ite (fun dg =>
  .bq fun ec =>
  .ret (let bb:=dd [0,1,2,3,4,5];bT (t3.append [.aj true,.aG (ae 6 (ah .cU [])),(ad 2),.bp [0,1,2,3,4,5] [.box [.id,.id,.id,.id,.id,.len ((a7.set (0+hN.toNat) false).length)],.bw (av 1 (b3 2 0 2) ag),.bw (de 2 aT bG),.pure,.d3 (av 1 dT (a7.set (0+hN.toNat) false)),.pure] (bO [0,1,53,54])]) (fK.aZ (.bj dg J.1 J.2 (hk dT ec) (gL 1) (gN (ft a7) (0+hN.toNat) false) (e7 bb 2 2 0 2 rfl ag) (fb bb 2 er bG) (.dn (aF 1 .live aD ao) (eX 1 .live (fP (dV dT a7) (0+hN.toNat) false)) (aF 1 .live ee (a7.set (0+hN.toNat) false)) (aF 1 .live aD bB))))))
  (fun dg =>
  .ret (let b7:=dd [0,1,2,3,4,5];bT (t3.append [.aj false,(ad 2),.bp [0,1,2,3,4,5] [.box [.id,.id,.id,.id,.id,.id],.bw (av 1 (b3 2 0 2) ag),.bw (de 2 aT bG),.pure,.pure,.pure] (bO [0,1,53,54])]) (fK.aZ (.fq dg (e7 b7 2 2 0 2 rfl ag) (fb b7 2 er bG) (aF 1 .live aD ao) (aF 1 .live ee a7) (aF 1 .live aD bB)))))))))
  (fun aI =>
  .ret (let cC:=dd [0,1,2,3,4,5];bT (t1.append [.aG (ae 6 (ah (.cA (dT aQ)) (ae 1 (cm 7 (ah (.aj false) (ae 1 (cm 5 (ae 1 [])))))))),.aj false,(ad 2),.bp [0,1,2,3,4,5] [.box [.id,.id,.id,.id,.id,.id],.bw (av 1 (b3 2 0 2) ag),.bw (de 2 aT bG),.pure,.pure,.pure] (bO [0,1,53,54])]) (.bj o J.1 J.2 (cD dT ay) aI aI aI aI (.bj aI aI aI aI ez ez ez ez (.fr ez ez (e7 cC 2 2 0 2 rfl ag) (fb cC 2 er bG) (aF 1 .live aD ao) (aF 1 .live ee a7) (aF 1 .live aD bB))))))))
  (fun o =>
  .ret (let en:=dd [0,1,2,3,4,5];bT [(ad 1),.aj false,.bp [0,1,2,3,4,5] [.box [.id,.id,.id,.id,.id,.id],.bw (av 1 (b3 2 0 2) ag),.bw (de 2 aT bG),.pure,.pure,.pure] []] (.fq o (e7 en 2 2 0 2 rfl ag) (fb en 2 er bG) (aF 1 .live aD ao) (aF 1 .live ee a7) (aF 1 .live aD bB))))
theorem Uy {fS:Int}{aK:Bool}{aE:List Int}{ag:List ca}{bG:List (List bg)}{ao bB:List Int}{hN:Int}{a7:List Bool}{r} (h:C5 fS aK aE ag bG ao bB hN a7=some r):fB bt 87 6 89 [1,1,0,1,0,0] (GP fS aK aE ag bG ao bB) (GS fS aK aE ag bG ao bB) (hN,a7) r:=fD (fun _=>Ud) h
def sW (bY:Bool)(cg:List Int)(eN:Int)(cf:List ca)(l6:List (List bg))(dh:List Int)(hz:List Bool)(p2:List Int):Option (Bool×Bool×(List Int)×(List (List bg))×(List Int)×(List Bool)) :=
 C4 eN cf hz p2 true bY cg l6 dh >>= fun aq =>
 match aq with
 | .inl bK=>(C5 eN bK.1 bK.2.1 cf bK.2.2.1 bK.2.2.2 p2 0 hz >>= fun aW =>
  some (true,bK.1,bK.2.1,bK.2.2.1,bK.2.2.2,aW))
 | .inr bK=>(some (false,bK.1,bK.2.1,bK.2.2.1,bK.2.2.2,hz))
theorem Hh {bY:Bool}{cg:List Int}{eN:Int}{cf:List ca}{l6:List (List bg)}{dh:List Int}{hz:List Bool}{p2:List Int}:b1 (sW bY cg eN cf l6 dh hz p2) (fun a=>Con bt 89 [.ref 0 0 0 0,.bC 5 0 0 p2.length] [[ab.mk 6 [(e4 1 0 0 cf.length bY cg 3 0 0 dh.length eN 4 0 0 hz.length)] .live],(av 1 (b3 2 0 2) cf),(de 2 aT l6),(av 1 I dh),(av 1 dT hz),(av 1 I p2)] (.b a.1) [[ab.mk 6 [(e4 1 0 0 cf.length a.2.1 a.2.2.1 3 0 0 a.2.2.2.2.1.length eN 4 0 0 a.2.2.2.2.2.length)] .live],(av 1 (b3 2 0 2) cf),(de 2 aT a.2.2.2.1),(av 1 I a.2.2.2.2.1),(av 1 dT a.2.2.2.2.2),(av 1 I p2)]):=by
 unfold sW
 exact .aw fun aq J =>
  (let hO:=dd [0,1,2,3,4,5];let t1:List cK:=[(ad 1),(ad 1),.bp [0,1,2,3,4,5] [.box [.id,.id,.id,.id,.id,.id],.bw (av 1 (b3 2 0 2) cf),.bw (de 2 aT l6),.pure,.pure,.pure] (bO [0,1,5])];
  have a4:=((.ej (e7 hO 2 2 0 2 rfl cf) (fb hO 2 er l6) (aF 1 .live aD dh) (aF 1 .live ee hz) (aF 1 .live aD p2)):c1 _);
  (by
  rcases aq with bK|bK
  ·exact (.aw fun aW aI =>
  .ret (let aR:=e4 1 0 0 cf.length bK.1 bK.2.1 3 0 0 bK.2.2.2.length eN 4 0 0 aW.length;let bb:=dd [0,1,2,3,4,5];let b7:=aF 1 .live aD bK.2.2.2;let cC:=fb bb 2 er bK.2.2.1;let en:=de 2 aT bK.2.2.1;let gf:=e7 bb 2 2 0 2 rfl cf;hE (t1.append [(CZ eN cf hz p2 (.inl bK)).gp,(ad 5),.bp [0,1,2,3,4,5] [.box [.id,.id,.id,.id,.id,.id],.bw (av 1 (b3 2 0 2) cf),.bw en,.pure,.pure,.pure] (bO [0,1,53,54]),(GS eN bK.1 bK.2.1 cf bK.2.2.1 bK.2.2.2 p2 aW).gp,(ad 1)]) [0,1,2,3,4,5] [.bw [ab.mk 6 [aR] .live],.bw (av 1 (b3 2 0 2) cf),.bw en,.pure,.pure,.pure] (a4.aZ (.bj (Nn J) gf cC b7 (aF 1 .live ee hz) (aF 1 .live aD p2) (Uy aI) (gS bb 6 [aR] [aR] rfl) (.ej gf cC b7 (aF 1 .live ee aW) (aF 1 .live aD p2))))))
  ·exact (.ret (let hc:=e4 1 0 0 cf.length bK.1 bK.2.1 3 0 0 bK.2.2.2.length eN 4 0 0 hz.length;let fh:=dd [0,1,2,3,4,5];hE (t1.append [(CZ eN cf hz p2 (.inr bK)).gp]) [0,1,2,3,4,5] [.bw [ab.mk 6 [hc] .live],.bw (av 1 (b3 2 0 2) cf),.bw (de 2 aT bK.2.2.1),.pure,.pure,.pure] (a4.aZ (.fr (Nn J) (gS fh 6 [hc] [hc] rfl) (e7 fh 2 2 0 2 rfl cf) (fb fh 2 er bK.2.2.1) (aF 1 .live aD bK.2.2.2) (aF 1 .live ee hz) (aF 1 .live aD p2)))))))
def G4 (hZ a8:Int)(aK:Bool)(aE:List Int)(cx:Int)(ag:List ca)(bG:List (List bg))(ao:List Int)(a7:List Bool):Int→S:=fun bV=>eV [(0,.ref 0 0 0 0),(1,.n .i64 hZ),(4,.n .i64 a8),(5,.n .i64 bV)] [[ab.mk 6 [(e4 1 0 0 ag.length aK aE 3 0 0 ao.length cx 4 0 0 a7.length)] .live],(av 1 (b3 2 0 2) ag),(de 2 aT bG),(av 1 I ao),(av 1 dT a7)]
def Hc (hZ a8:Int)(aK:Bool)(aE:List Int)(cx:Int)(ag:List ca)(bG:List (List bg))(ao:List Int)(a7:List Bool):Int→e3
 | a=>⟨some 2,[(0,.ref 0 0 0 0),(1,.n .i64 hZ),(4,.n .i64 a8),(5,.n .i64 a)],[[ab.mk 6 [(e4 1 0 0 ag.length aK aE 3 0 0 ao.length cx 4 0 0 a7.length)] .live],(av 1 (b3 2 0 2) ag),(de 2 aT bG),(av 1 I ao),(av 1 dT a7)]⟩
def xk (hZ a8:Int)(aK:Bool)(aE:List Int)(cx:Int)(ag:List ca)(bG:List (List bg))(ao:List Int)(a7:List Bool)(bV:Int):Option ((Int)⊕(Int)) :=
 if (decide (bV<hZ))=true then
  if 0≤a8∧a8<(ag.length:Nat) then
  ag[(0+a8.toNat)]? >>= fun aQ =>
  aQ >>= fun me =>
  bG[me.1]? >>= fun lN =>
  if 0≤bV∧bV<(me.2:Nat) then
  lN[(0+bV.toNat)]? >>= fun iY =>
  o3 iY >>= fun eW =>
  if (eW == (0:Int))=true then
   some (.inl (U (bV+(1:Int))))
  else
   some (.inr bV)
  else none
  else none
 else
  some (.inr bV)
def Db (hZ a8:Int)(aK:Bool)(aE:List Int)(cx:Int)(ag:List ca)(bG:List (List bg))(ao:List Int)(a7:List Bool)(bV:Int):Option (Int):=iter (fun w:Int=>xk hZ a8 aK aE cx ag bG ao a7 w) bV
theorem Us {hZ a8:Int}{aK:Bool}{aE:List Int}{cx:Int}{ag:List ca}{bG:List (List bg)}{ao:List Int}{a7:List Bool}{bV:Int}:b1 (xk hZ a8 aK aE cx ag bG ao a7 bV) (fA bt 86 5 101 [1,0,0,1,0,1,1,0,0,0] (G4 hZ a8 aK aE cx ag bG ao a7 bV) (G4 hZ a8 aK aE cx ag bG ao a7) (Hc hZ a8 aK aE cx ag bG ao a7)):=by
 unfold xk
 exact .ite (fun o =>
  .bq fun J =>
  .aw fun aQ ay =>
  .aw fun me bu =>
  .aw fun lN bn =>
  .bq fun cd =>
  .aw fun iY cZ =>
  .aw fun eW ec =>
  (let aR:=lT (iR .live 2 aT bG) ls bn;let t1:List cK:=[.aG (ae 10 (ah (.cA ((b3 2 0 2) aQ)) (ae 1 (ah (.eR 34 (.bC 2 (me.1+0) 0 me.2) (.hv (ab.mk 2 (lN.map aT) .live) [])) (ah (.hv (ab.mk 2 (lN.map aT) .live) (aT iY)) (ah (bD 1 (.n .i64 eW) true) (ae 1 (ah (.aj true) []))))))))];
  have a4:=((.bj o o o o o o J.1 J.2 (.bj o (cD (b3 2 0 2) ay) o o (o5 (et:=2) (c:=0) (sz:=2) bu) aR cd.1 cd.2 (.hB o aR (cD aT cZ) o (s0 eW ec) (cz.n .i64 eW) o o))):c1 _);
  .ite (fun eL =>
  .ret (bT (t1.append [.aj true,(ad 3),.bp [0,1,2,3,4] [.box [.id,.id,.id,.id,.id,.id],.bw (av 1 (b3 2 0 2) ag),.bw (de 2 aT bG),.pure,.pure] (bO [0,1,4,5])]) (a4.aZ (.ej eL (e7 (dd [0,1,2,3,4]) 2 2 0 2 rfl ag) (fb (dd [0,1,2,3,4]) 2 er bG) (aF 1 .live aD ao) (aF 1 .live ee a7)))))
  (fun eL =>
  .ret (bT (t1.append [.aj false,.bp [0,1,2,3,4] [.box [.id,.id,.id,.id,.id,.id],.bw (av 1 (b3 2 0 2) ag),.bw (de 2 aT bG),.pure,.pure] (bO [0,1,4,5])]) (a4.aZ (.ej eL (e7 (dd [0,1,2,3,4]) 2 2 0 2 rfl ag) (fb (dd [0,1,2,3,4]) 2 er bG) (aF 1 .live aD ao) (aF 1 .live ee a7)))))))
  (fun o =>
  .ret (bT [.aG (ae 4 (cm 12 (ah (.aj false) []))),.aj false,.bp [0,1,2,3,4] [.box [.id,.id,.id,.id,.id,.id],.bw (av 1 (b3 2 0 2) ag),.bw (de 2 aT bG),.pure,.pure] (bO [0,1,4,5])] (.bj o o o o o o o o (.bj o o o o o ez (e7 (dd [0,1,2,3,4]) 2 2 0 2 rfl ag) (fb (dd [0,1,2,3,4]) 2 er bG) (.aH (aF 1 .live aD ao) (aF 1 .live ee a7))))))
theorem UL {hZ a8:Int}{aK:Bool}{aE:List Int}{cx:Int}{ag:List ca}{bG:List (List bg)}{ao:List Int}{a7:List Bool}{bV:Int}{r} (h:Db hZ a8 aK aE cx ag bG ao a7 bV=some r):fB bt 86 5 101 [1,0,0,1,0,1,1,0,0,0] (G4 hZ a8 aK aE cx ag bG ao a7) (Hc hZ a8 aK aE cx ag bG ao a7) bV r:=fD (fun _=>Us) h
def G5 (hZ cx:Int)(a7:List Bool):(Int×Bool×(List Int)×(List ca)×(List (List bg))×(List Int))→S:=fun (a8,aK,aE,ag,bG,ao)=>eV [(0,.ref 0 0 0 0),(1,.n .i64 hZ),(4,.n .i64 a8)] [[ab.mk 6 [(e4 1 0 0 ag.length aK aE 3 0 0 ao.length cx 4 0 0 a7.length)] .live],(av 1 (b3 2 0 2) ag),(de 2 aT bG),(av 1 I ao),(av 1 dT a7)]
def Hd (hZ cx:Int)(a7:List Bool):(Bool×(List Int)×(List ca)×(List (List bg))×(List Int))→e3
 | a=>⟨some 0,[],[[ab.mk 6 [(e4 1 0 0 a.2.2.1.length a.1 a.2.1 3 0 0 a.2.2.2.2.length cx 4 0 0 a7.length)] .live],(av 1 (b3 2 0 2) a.2.2.1),(de 2 aT a.2.2.2.1),(av 1 I a.2.2.2.2),(av 1 dT a7)]⟩
def zW (hZ cx:Int)(a7:List Bool)(a8:Int)(aK:Bool)(aE:List Int)(ag:List ca)(bG:List (List bg))(ao:List Int):Option ((Int×Bool×(List Int)×(List ca)×(List (List bg))×(List Int))⊕(Bool×(List Int)×(List ca)×(List (List bg))×(List Int))) :=
 if (decide (a8<((ag.length:Nat):Int)))=true then
  if 0≤a8∧a8<(ao.length:Nat) then
  ao[(0+a8.toNat)]? >>= fun aQ =>
  if (decide (aQ<hZ))=true then
   some (.inl (U (a8+(1:Int)),aK,aE,ag,bG,ao))
  else
   Db hZ a8 aK aE cx ag bG ao a7 0 >>= fun a5 =>
   if (decide (a5<hZ))=true then
    xC a8 a5 aK aE cx ag bG ao a7 >>= fun bk =>
    some (.inl (U (a8+(1:Int)),bk.1,bk.2.1,ag,bk.2.2.1,bk.2.2.2))
   else
    if 0≤a8 then
    if 0≤a8.toNat∧a8.toNat≤ag.length then
    if 0≤(U (a8+(1:Int))) then
    if (U (a8+(1:Int))).toNat≤ag.length then
    if (0+(U (a8+(1:Int))).toNat)+(ag.length-(U (a8+(1:Int))).toNat)≤ag.length then
    if (a8.toNat-0)+((ag.drop (0+(U (a8+(1:Int))).toNat)).take (ag.length-(U (a8+(1:Int))).toNat)).length≤ag.length then
    if ((ag.drop (0+(U (a8+(1:Int))).toNat)).take (ag.length-(U (a8+(1:Int))).toNat)).length*24≤140737488355328 then
    if 0≤a8.toNat∧a8.toNat≤ao.length then
    if (U (a8+(1:Int))).toNat≤ao.length then
    if (0+(U (a8+(1:Int))).toNat)+(ao.length-(U (a8+(1:Int))).toNat)≤ao.length then
    if (a8.toNat-0)+((ao.drop (0+(U (a8+(1:Int))).toNat)).take (ao.length-(U (a8+(1:Int))).toNat)).length≤ao.length then
    if ((ao.drop (0+(U (a8+(1:Int))).toNat)).take (ao.length-(U (a8+(1:Int))).toNat)).length*8≤140737488355328 then
    some (.inl (a8,aK,aE,ag.take (a8.toNat-0)++((ag.drop (0+(U (a8+(1:Int))).toNat)).take (ag.length-(U (a8+(1:Int))).toNat)),bG,ao.take (a8.toNat-0)++((ao.drop (0+(U (a8+(1:Int))).toNat)).take (ao.length-(U (a8+(1:Int))).toNat))))
    else none
    else none
    else none
    else none
    else none
    else none
    else none
    else none
    else none
    else none
    else none
    else none
  else none
 else
  some (.inr (aK,aE,ag,bG,ao))
def Hq (hZ cx:Int)(a7:List Bool)(a8:Int)(aK:Bool)(aE:List Int)(ag:List ca)(bG:List (List bg))(ao:List Int):Option (Bool×(List Int)×(List ca)×(List (List bg))×(List Int)):=iter (fun w:Int×Bool×(List Int)×(List ca)×(List (List bg))×(List Int)=>zW hZ cx a7 w.1 w.2.1 w.2.2.1 w.2.2.2.1 w.2.2.2.2.1 w.2.2.2.2.2) (a8,aK,aE,ag,bG,ao)
theorem Ut {hZ cx:Int}{a7:List Bool}{a8:Int}{aK:Bool}{aE:List Int}{ag:List ca}{bG:List (List bg)}{ao:List Int}:b1 (zW hZ cx a7 a8 aK aE ag bG ao) (fA bt 86 5 101 [1,0,0] (G5 hZ cx a7 (a8,aK,aE,ag,bG,ao)) (G5 hZ cx a7) (Hd hZ cx a7)):=by
 unfold zW
 exact .ite (fun o =>
  .bq fun J =>
  .aw fun aQ ay =>
  (let t1:List cK:=[(ad 7),.aj true,.aG (bQ 6 (.cA (I aQ)) 2)];
  .ite (fun aI =>
  .ret (bT (t1.append [.aj true,(ad 3),.bp [0,1,2,3,4] [.box [.id,.id,.id,.id,.id,.id],.bw (av 1 (b3 2 0 2) ag),.bw (de 2 aT bG),.pure,.pure] (bO [0,1,4])]) (.bj o J.1 J.2 (cD I ay) aI (e7 (dd [0,1,2,3,4]) 2 2 0 2 rfl ag) (fb (dd [0,1,2,3,4]) 2 er bG) (aF 1 .live aD ao) (.az (aF 1 .live ee a7)))))
  (fun aI =>
  .aw fun a5 bx =>
  (let t2:List cK:=t1.append [.aj false,(ad 1),.bp [0,1,2,3,4] [.box [.id,.id,.id,.id,.id,.id],.bw (av 1 (b3 2 0 2) ag),.bw (de 2 aT bG),.pure,.pure] (bO [0,1,4,5]),(Hc hZ a8 aK aE cx ag bG ao a7 a5).gp,(ad 3)];
  have fW:=((.bj o J.1 J.2 (cD I ay) aI (e7 (dd [0,1,2,3,4]) 2 2 0 2 rfl ag) (fb (dd [0,1,2,3,4]) 2 er bG) (aF 1 .live aD ao) (.aH (aF 1 .live ee a7) (UL bx))):c1 _);
  .ite (fun bn =>
  .aw fun bk cV =>
  .ret (let aR:=e4 1 0 0 ag.length bk.1 bk.2.1 3 0 0 bk.2.2.2.length cx 4 0 0 a7.length;let bb:=e4 1 0 0 ag.length aK aE 3 0 0 ao.length cx 4 0 0 a7.length;let b7:=av 1 (b3 2 0 2) ag;let cC:=de 2 aT bk.2.2.1;let en:=ke [0,1,2,3,4];let gf:=hK [0,1,2,3,4];let hc:=gT 1 (ag.map (b3 2 0 2));bT (t2.append [.aj true,.aG (ae 3 (ah (.call {aM:=(lh [0,1,2,3,4]),cr:=[.bw [ab.mk 6 [bb] .live],.bw b7,.bw (de 2 aT bG),.pure,.pure],ac:=[ii,ii,ii],r:= .df [],dj:=[[ab.mk 6 [aR] .live],b7,cC,(av 1 I bk.2.2.2),(av 1 dT a7)],eh:=ii,e1:=[.bw [ab.mk 6 [aR] .live],.bw b7,.bw cC,.pure,.pure],dv:=[0,1,2,3,4],dq:=false}) [])),(ad 3),.bp [0,1,2,3,4] [.box [.id,.id,.id,.id,.id,.id],.bw b7,.bw cC,.pure,.pure] (bO [0,1,4])]) (fW.aZ (.bj bn (gS en 6 [bb] [bb] rfl) (gT 6 [bb]) (e7 en 2 2 0 2 rfl ag) hc (fb en 2 er bG) (rm 2 aT bG) (eI 1 aD ao) (.bj (eI 1 ee a7) (gS gf 6 [aR] [aR] rfl) (gT 6 [aR]) (e7 gf 2 2 0 2 rfl ag) hc (fb gf 2 er bk.2.2.1) (rm 2 aT bk.2.2.1) (eI 1 aD bk.2.2.2) (.fq (eI 1 ee a7) (Nv bk cV) (e7 (dd [0,1,2,3,4]) 2 2 0 2 rfl ag) (fb (dd [0,1,2,3,4]) 2 er bk.2.2.1) (aF 1 .live aD bk.2.2.2) (aF 1 .live ee a7)))))))
  (fun bn =>
  .bq fun cd =>
  .bq fun cV =>
  .bq fun cZ =>
  .bq fun dg =>
  .bq fun ec =>
  .bq fun eL =>
  .bq fun gm =>
  .bq fun jq =>
  .bq fun gG =>
  .bq fun jT =>
  .bq fun iM =>
  .bq fun nd =>
  .ret (let fh:=(U (a8+(1:Int)));let hO:=dV (b3 2 0 2) ag;let iN:=dd [0,1,2,3,4];let kJ:=dV I ao;bT (t2.append [.aj false,.aG (bQ 14 .cU 3),.aG (bQ 14 .cU 3),.bp [0,1,2,3,4] [.box [.len ((ag.take (a8.toNat-0)++((ag.drop (0+fh.toNat)).take (ag.length-fh.toNat))).length),.id,.id,.len ((ao.take (a8.toNat-0)++((ao.drop (0+fh.toNat)).take (ao.length-fh.toNat))).length),.id,.id],.bw (av 1 (b3 2 0 2) (ag.take (a8.toNat-0)++((ag.drop (0+fh.toNat)).take (ag.length-fh.toNat)))),.bw (de 2 aT bG),.d3 (av 1 I (ao.take (a8.toNat-0)++((ao.drop (0+fh.toNat)).take (ao.length-fh.toNat)))),.pure] (bO [0,1,4])]) (fW.aZ (.bj bn cd cV.1 cV.2 cZ dg (Nat.le_refl ag.length) (uh hO ec) (.bj (Rr hO (pH hO (0+fh.toNat) (ag.length-fh.toNat)) eL) (Qc (pH hO (0+fh.toNat) (ag.length-fh.toNat)) gm) cd jq.1 jq.2 cZ gG (Nat.le_refl ao.length) (.bj (uh kJ jT) (Rr kJ (pH kJ (0+fh.toNat) (ao.length-fh.toNat)) iM) (Qc (pH kJ (0+fh.toNat) (ao.length-fh.toNat)) nd) ((J8 (Rq eL) (pH hO (0+fh.toNat) (ag.length-fh.toNat)):(ag.take (a8.toNat-0)++((ag.drop (0+fh.toNat)).take (ag.length-fh.toNat))).length=(a8.toNat-0)+(((ag.map (b3 2 0 2)).drop (0+fh.toNat)).take (ag.length-fh.toNat)).length).symm) ((J8 (Rq iM) (pH kJ (0+fh.toNat) (ao.length-fh.toNat)):(ao.take (a8.toNat-0)++((ao.drop (0+fh.toNat)).take (ao.length-fh.toNat))).length=(a8.toNat-0)+(((ao.map I).drop (0+fh.toNat)).take (ao.length-fh.toNat)).length).symm) (el (rl (b6:=iN) 1 .live (b3 2 0 2) (J7 hO (a8.toNat-0) (pH hO (0+fh.toNat) (ag.length-fh.toNat))) (Bo (rfl:iN 2=some 2))) (jG (b6:=iN))) (fb iN 2 er bG) (eX 1 .live (J7 kJ (a8.toNat-0) (pH kJ (0+fh.toNat) (ao.length-fh.toNat)))) (.aH (aF 1 .live aD (ao.take (a8.toNat-0)++((ao.drop (0+fh.toNat)).take (ao.length-fh.toNat)))) (aF 1 .live ee a7))))))))))))
  (fun o =>
  .ret (bT [(ad 7),.aj false,.bp [0,1,2,3,4] [.box [.id,.id,.id,.id,.id,.id],.bw (av 1 (b3 2 0 2) ag),.bw (de 2 aT bG),.pure,.pure] []] (.ej o (e7 (dd [0,1,2,3,4]) 2 2 0 2 rfl ag) (fb (dd [0,1,2,3,4]) 2 er bG) (aF 1 .live aD ao) (aF 1 .live ee a7))))
theorem UM {hZ cx:Int}{a7:List Bool}{a8:Int}{aK:Bool}{aE:List Int}{ag:List ca}{bG:List (List bg)}{ao:List Int}{r} (h:Hq hZ cx a7 a8 aK aE ag bG ao=some r):fB bt 86 5 101 [1,0,0] (G5 hZ cx a7) (Hd hZ cx a7) (a8,aK,aE,ag,bG,ao) r:=fD (fun _=>Ut) h
def z3 (hZ:Int)(bY:Bool)(cg:List Int)(eN:Int)(cf:List ca)(l6:List (List bg))(dh:List Int)(hz:List Bool):Option (Bool×(List Int)×(List ca)×(List (List bg))×(List Int)) :=
 Hq hZ eN hz 0 bY cg cf l6 dh >>= fun aq =>
 some (aq.1,aq.2.1,aq.2.2.1,aq.2.2.2.1,aq.2.2.2.2)
theorem U8 {hZ:Int}{bY:Bool}{cg:List Int}{eN:Int}{cf:List ca}{l6:List (List bg)}{dh:List Int}{hz:List Bool}:b1 (z3 hZ bY cg eN cf l6 dh hz) (fun a=>Con bt 101 [.ref 0 0 0 0,.n .i64 hZ] [[ab.mk 6 [(e4 1 0 0 cf.length bY cg 3 0 0 dh.length eN 4 0 0 hz.length)] .live],(av 1 (b3 2 0 2) cf),(de 2 aT l6),(av 1 I dh),(av 1 dT hz)] (.df []) [[ab.mk 6 [(e4 1 0 0 a.2.2.1.length a.1 a.2.1 3 0 0 a.2.2.2.2.length eN 4 0 0 hz.length)] .live],(av 1 (b3 2 0 2) a.2.2.1),(de 2 aT a.2.2.2.1),(av 1 I a.2.2.2.2),(av 1 dT hz)]):=by
 unfold z3
 exact .aw fun aq J =>
  .ret (let aR:=e4 1 0 0 aq.2.2.1.length aq.1 aq.2.1 3 0 0 aq.2.2.2.2.length eN 4 0 0 hz.length;let bb:=dd [0,1,2,3,4];hE [(ad 1),.bp [0,1,2,3,4] [.box [.id,.id,.id,.id,.id,.id],.bw (av 1 (b3 2 0 2) cf),.bw (de 2 aT l6),.pure,.pure] (bO [0,1,4]),(Hd hZ eN hz aq).gp] [0,1,2,3,4] [.bw [ab.mk 6 [aR] .live],.bw (av 1 (b3 2 0 2) aq.2.2.1),.bw (de 2 aT aq.2.2.2.1),.pure,.pure] (.bj (e7 bb 2 2 0 2 rfl cf) (fb bb 2 er l6) (aF 1 .live aD dh) (aF 1 .live ee hz) (UM J) (gS bb 6 [aR] [aR] rfl) (e7 bb 2 2 0 2 rfl aq.2.2.1) (fb bb 2 er aq.2.2.2.1) (.aH (aF 1 .live aD aq.2.2.2.2) (aF 1 .live ee hz))))
def HV (aS a8:Int)(ie jd:Nat)(dx:Int)(jE jD:Nat)(jL aE:Int)(ag aN ao:List Int)(cT:Bool)(cR:List Int)(cn:List ca)(dF:List Int)(cp:List Bool):(Int×(List (List bg)))→S:=fun (fS,iB)=>eV [(0,.ref 0 0 0 0),(4,.n .i64 aS),(5,.ref 4 0 0 0),(6,.n .i64 a8),(7,.bC 5 (ie+0) 0 jd),(8,.n .i64 (-1:Int)),(34,.n .i64 dx),(35,.n .i64 a8),(51,.bC 1 0 jE jD),(52,.n .i64 jL),(53,.n .i64 fS)] [[ab.mk 5 [(d5 dx aE 1 0 0 ag.length 2 0 0 aN.length 3 0 0 ao.length)] .live],(av 1 I ag),(av 1 I aN),(av 1 I ao),[ab.mk 6 [(e4 6 0 0 cn.length cT cR 7 0 0 dF.length aS 8 0 0 cp.length)] .live],(de 2 aT iB),(av 1 (b3 5 0 2) cn),(av 1 I dF),(av 1 dT cp)]
def Ig (aS a8:Int)(ie jd:Nat)(dx:Int)(jE jD:Nat)(jL aE:Int)(ag aN ao:List Int)(cT:Bool)(cR:List Int)(cn:List ca)(dF:List Int)(cp:List Bool):(List (List bg))→e3
 | a=>⟨some 2,[(0,.ref 0 0 0 0),(4,.n .i64 aS),(5,.ref 4 0 0 0),(6,.n .i64 a8),(7,.bC 5 (ie+0) 0 jd),(8,.n .i64 (-1:Int)),(34,.n .i64 dx),(35,.n .i64 a8)],[[ab.mk 5 [(d5 dx aE 1 0 0 ag.length 2 0 0 aN.length 3 0 0 ao.length)] .live],(av 1 I ag),(av 1 I aN),(av 1 I ao),[ab.mk 6 [(e4 6 0 0 cn.length cT cR 7 0 0 dF.length aS 8 0 0 cp.length)] .live],(de 2 aT a),(av 1 (b3 5 0 2) cn),(av 1 I dF),(av 1 dT cp)]⟩
def xD (aS a8:Int)(ie jd:Nat)(dx:Int)(jE jD:Nat)(jL aE:Int)(ag aN ao:List Int)(cT:Bool)(cR:List Int)(cn:List ca)(dF:List Int)(cp:List Bool)(fS:Int)(iB:List (List bg)):Option ((Int×(List (List bg)))⊕((List (List bg)))) :=
 if (decide (fS<jL))=true then
  if 0≤fS∧fS<(jD:Nat) then
  ag[(jE+fS.toNat)]? >>= fun aQ =>
  oi (U ((-1:Int)*aQ)) >>= fun ba =>
  iB[ie]? >>= fun lN =>
  if 0≤fS∧fS<(jd:Nat) then
  lN[(0+fS.toNat)]? >>= fun iY =>
  some (.inl (U (fS+(1:Int)),iB.set ie (lN.set (0+fS.toNat) ba)))
  else none
  else none
 else
  some (.inr iB)
def Dz (aS a8:Int)(ie jd:Nat)(dx:Int)(jE jD:Nat)(jL aE:Int)(ag aN ao:List Int)(cT:Bool)(cR:List Int)(cn:List ca)(dF:List Int)(cp:List Bool)(fS:Int)(iB:List (List bg)):Option ((List (List bg))):=iter (fun w:Int×(List (List bg))=>xD aS a8 ie jd dx jE jD jL aE ag aN ao cT cR cn dF cp w.1 w.2) (fS,iB)
theorem U9 {aS a8:Int}{ie jd:Nat}{dx:Int}{jE jD:Nat}{jL aE:Int}{ag aN ao:List Int}{cT:Bool}{cR:List Int}{cn:List ca}{dF:List Int}{cp:List Bool}{fS:Int}{iB:List (List bg)}:b1 (xD aS a8 ie jd dx jE jD jL aE ag aN ao cT cR cn dF cp fS iB) (fA bt 205 4 88 [1,1,1,0,1,0,0,1,1,0,0,1,1,1,1,0,1,0,0] (HV aS a8 ie jd dx jE jD jL aE ag aN ao cT cR cn dF cp (fS,iB)) (HV aS a8 ie jd dx jE jD jL aE ag aN ao cT cR cn dF cp) (Ig aS a8 ie jd dx jE jD jL aE ag aN ao cT cR cn dF cp)):=by
 unfold xD
 exact .ite (fun o =>
  .bq fun J =>
  .aw fun aQ ay =>
  .aw fun ba bu =>
  .aw fun lN bn =>
  .bq fun cd =>
  .aw fun iY cZ =>
  .ret (let aR:=dd [0,1,2,3,4,5,6,7,8];let bb:=lT (iR .live 2 aT iB) ls bn;bT [(ad 1),.aj true,.aG (bQ 2 (.cA (I aQ)) 2),.aG (ae 5 (ah (bD 1 (.agg (aT ba)) false) (ah (.hv (ab.mk 2 (lN.map aT) .live) []) (ah (.hv (ab.mk 2 (lN.map aT) .live) (aT iY)) [])))),(ad 2),.bp [0,1,2,3,4,5,6,7,8] [.box [.id,.id,.id,.id,.id],.pure,.pure,.pure,.box [.id,.id,.id,.id,.id,.id],.bw (de 2 aT (iB.set ie (lN.set (0+fS.toNat) ba))),.bw (av 1 (b3 5 0 2) cn),.pure,.pure] (bO [0,4,5,6,7,8,34,35,51,52,53])] (.bj o J.1 J.2 (cD I ay) (sl ba bu) bb cd.1 cd.2 (.bj bb (cD aT cZ) (aF 1 .live aD ag) (aF 1 .live aD aN) (aF 1 .live aD ao) (qO (b6:=aR) (sx (iR .live 2 aT iB) ie (su (dV aT lN) (0+fS.toNat) ba (rfl:(setCells (aT iY) 0 (aT ba))=aT ba))) (mX er)) (e7 aR 5 5 0 2 rfl cn) (aF 1 .live aD dF) (.az (aF 1 .live ee cp))))))
  (fun o =>
  .ret (let b7:=dd [0,1,2,3,4,5,6,7,8];bT [(ad 1),.aj false,.bp [0,1,2,3,4,5,6,7,8] [.box [.id,.id,.id,.id,.id],.pure,.pure,.pure,.box [.id,.id,.id,.id,.id,.id],.bw (de 2 aT iB),.bw (av 1 (b3 5 0 2) cn),.pure,.pure] (bO [0,4,5,6,7,8,34,35])] (.hB o (aF 1 .live aD ag) (aF 1 .live aD aN) (aF 1 .live aD ao) (fb b7 2 er iB) (e7 b7 5 5 0 2 rfl cn) (aF 1 .live aD dF) (aF 1 .live ee cp))))
theorem VT {aS a8:Int}{ie jd:Nat}{dx:Int}{jE jD:Nat}{jL aE:Int}{ag aN ao:List Int}{cT:Bool}{cR:List Int}{cn:List ca}{dF:List Int}{cp:List Bool}{fS:Int}{iB:List (List bg)}{r} (h:Dz aS a8 ie jd dx jE jD jL aE ag aN ao cT cR cn dF cp fS iB=some r):fB bt 205 4 88 [1,1,1,0,1,0,0,1,1,0,0,1,1,1,1,0,1,0,0] (HV aS a8 ie jd dx jE jD jL aE ag aN ao cT cR cn dF cp) (Ig aS a8 ie jd dx jE jD jL aE ag aN ao cT cR cn dF cp) (fS,iB) r:=fD (fun _=>U9) h
def HW (aS a8:Int)(ie jd:Nat)(dx:Int)(jE jD:Nat)(jL aE:Int)(ag aN ao:List Int)(cT:Bool)(cR:List Int)(cn:List ca)(dF:List Int)(cp:List Bool):(Int×(List (List bg)))→S:=fun (fS,iB)=>eV [(0,.ref 0 0 0 0),(4,.n .i64 aS),(5,.ref 4 0 0 0),(6,.n .i64 a8),(7,.bC 5 (ie+0) 0 jd),(8,.n .i64 (1:Int)),(34,.n .i64 dx),(35,.n .i64 a8),(51,.bC 1 0 jE jD),(52,.n .i64 jL),(53,.n .i64 fS)] [[ab.mk 5 [(d5 dx aE 1 0 0 ag.length 2 0 0 aN.length 3 0 0 ao.length)] .live],(av 1 I ag),(av 1 I aN),(av 1 I ao),[ab.mk 6 [(e4 6 0 0 cn.length cT cR 7 0 0 dF.length aS 8 0 0 cp.length)] .live],(de 2 aT iB),(av 1 (b3 5 0 2) cn),(av 1 I dF),(av 1 dT cp)]
def Ih (aS a8:Int)(ie jd:Nat)(dx:Int)(jE jD:Nat)(jL aE:Int)(ag aN ao:List Int)(cT:Bool)(cR:List Int)(cn:List ca)(dF:List Int)(cp:List Bool):(List (List bg))→e3
 | a=>⟨some 2,[(0,.ref 0 0 0 0),(4,.n .i64 aS),(5,.ref 4 0 0 0),(6,.n .i64 a8),(7,.bC 5 (ie+0) 0 jd),(8,.n .i64 (1:Int)),(34,.n .i64 dx),(35,.n .i64 a8)],[[ab.mk 5 [(d5 dx aE 1 0 0 ag.length 2 0 0 aN.length 3 0 0 ao.length)] .live],(av 1 I ag),(av 1 I aN),(av 1 I ao),[ab.mk 6 [(e4 6 0 0 cn.length cT cR 7 0 0 dF.length aS 8 0 0 cp.length)] .live],(de 2 aT a),(av 1 (b3 5 0 2) cn),(av 1 I dF),(av 1 dT cp)]⟩
def xE (aS a8:Int)(ie jd:Nat)(dx:Int)(jE jD:Nat)(jL aE:Int)(ag aN ao:List Int)(cT:Bool)(cR:List Int)(cn:List ca)(dF:List Int)(cp:List Bool)(fS:Int)(iB:List (List bg)):Option ((Int×(List (List bg)))⊕((List (List bg)))) :=
 if (decide (fS<jL))=true then
  if 0≤fS∧fS<(jD:Nat) then
  ag[(jE+fS.toNat)]? >>= fun aQ =>
  oi (U ((1:Int)*aQ)) >>= fun ba =>
  iB[ie]? >>= fun lN =>
  if 0≤fS∧fS<(jd:Nat) then
  lN[(0+fS.toNat)]? >>= fun iY =>
  some (.inl (U (fS+(1:Int)),iB.set ie (lN.set (0+fS.toNat) ba)))
  else none
  else none
 else
  some (.inr iB)
def DA (aS a8:Int)(ie jd:Nat)(dx:Int)(jE jD:Nat)(jL aE:Int)(ag aN ao:List Int)(cT:Bool)(cR:List Int)(cn:List ca)(dF:List Int)(cp:List Bool)(fS:Int)(iB:List (List bg)):Option ((List (List bg))):=iter (fun w:Int×(List (List bg))=>xE aS a8 ie jd dx jE jD jL aE ag aN ao cT cR cn dF cp w.1 w.2) (fS,iB)
theorem Va {aS a8:Int}{ie jd:Nat}{dx:Int}{jE jD:Nat}{jL aE:Int}{ag aN ao:List Int}{cT:Bool}{cR:List Int}{cn:List ca}{dF:List Int}{cp:List Bool}{fS:Int}{iB:List (List bg)}:b1 (xE aS a8 ie jd dx jE jD jL aE ag aN ao cT cR cn dF cp fS iB) (fA bt 205 4 88 [1,1,1,0,1,0,0,1,1,0,0,1,1,1,1,0,1,0,0] (HW aS a8 ie jd dx jE jD jL aE ag aN ao cT cR cn dF cp (fS,iB)) (HW aS a8 ie jd dx jE jD jL aE ag aN ao cT cR cn dF cp) (Ih aS a8 ie jd dx jE jD jL aE ag aN ao cT cR cn dF cp)):=by
 unfold xE
 exact .ite (fun o =>
  .bq fun J =>
  .aw fun aQ ay =>
  .aw fun ba bu =>
  .aw fun lN bn =>
  .bq fun cd =>
  .aw fun iY cZ =>
  .ret (let aR:=dd [0,1,2,3,4,5,6,7,8];let bb:=lT (iR .live 2 aT iB) ls bn;bT [(ad 1),.aj true,.aG (bQ 2 (.cA (I aQ)) 2),.aG (ae 5 (ah (bD 1 (.agg (aT ba)) false) (ah (.hv (ab.mk 2 (lN.map aT) .live) []) (ah (.hv (ab.mk 2 (lN.map aT) .live) (aT iY)) [])))),(ad 2),.bp [0,1,2,3,4,5,6,7,8] [.box [.id,.id,.id,.id,.id],.pure,.pure,.pure,.box [.id,.id,.id,.id,.id,.id],.bw (de 2 aT (iB.set ie (lN.set (0+fS.toNat) ba))),.bw (av 1 (b3 5 0 2) cn),.pure,.pure] (bO [0,4,5,6,7,8,34,35,51,52,53])] (.bj o J.1 J.2 (cD I ay) (sl ba bu) bb cd.1 cd.2 (.bj bb (cD aT cZ) (aF 1 .live aD ag) (aF 1 .live aD aN) (aF 1 .live aD ao) (qO (b6:=aR) (sx (iR .live 2 aT iB) ie (su (dV aT lN) (0+fS.toNat) ba (rfl:(setCells (aT iY) 0 (aT ba))=aT ba))) (mX er)) (e7 aR 5 5 0 2 rfl cn) (aF 1 .live aD dF) (.az (aF 1 .live ee cp))))))
  (fun o =>
  .ret (let b7:=dd [0,1,2,3,4,5,6,7,8];bT [(ad 1),.aj false,.bp [0,1,2,3,4,5,6,7,8] [.box [.id,.id,.id,.id,.id],.pure,.pure,.pure,.box [.id,.id,.id,.id,.id,.id],.bw (de 2 aT iB),.bw (av 1 (b3 5 0 2) cn),.pure,.pure] (bO [0,4,5,6,7,8,34,35])] (.hB o (aF 1 .live aD ag) (aF 1 .live aD aN) (aF 1 .live aD ao) (fb b7 2 er iB) (e7 b7 5 5 0 2 rfl cn) (aF 1 .live aD dF) (aF 1 .live ee cp))))
theorem VU {aS a8:Int}{ie jd:Nat}{dx:Int}{jE jD:Nat}{jL aE:Int}{ag aN ao:List Int}{cT:Bool}{cR:List Int}{cn:List ca}{dF:List Int}{cp:List Bool}{fS:Int}{iB:List (List bg)}{r} (h:DA aS a8 ie jd dx jE jD jL aE ag aN ao cT cR cn dF cp fS iB=some r):fB bt 205 4 88 [1,1,1,0,1,0,0,1,1,0,0,1,1,1,1,0,1,0,0] (HW aS a8 ie jd dx jE jD jL aE ag aN ao cT cR cn dF cp) (Ih aS a8 ie jd dx jE jD jL aE ag aN ao cT cR cn dF cp) (fS,iB) r:=fD (fun _=>Va) h
def HX (aS dx aE:Int)(ag aN ao:List Int)(cT:Bool)(cR:List Int)(cp:List Bool):(Int×(List ca)×(List (List bg))×(List Int))→S:=fun (db,bB,eB,dF)=>eV [(0,.ref 0 0 0 0),(4,.n .i64 aS),(5,.ref 4 0 0 0),(34,.n .i64 dx),(35,.n .i64 db)] [[ab.mk 5 [(d5 dx aE 1 0 0 ag.length 2 0 0 aN.length 3 0 0 ao.length)] .live],(av 1 I ag),(av 1 I aN),(av 1 I ao),[ab.mk 6 [(e4 5 0 0 bB.length cT cR 7 0 0 dF.length aS 8 0 0 cp.length)] .live],(av 1 (b3 6 0 2) bB),(de 2 aT eB),(av 1 I dF),(av 1 dT cp)]
def Ii (aS dx aE:Int)(ag aN ao:List Int)(cT:Bool)(cR:List Int)(cp:List Bool):((List ca)×(List (List bg))×(List Int))→e3
 | a=>⟨some 0,[(0,.ref 0 0 0 0),(4,.n .i64 aS),(5,.ref 4 0 0 0)],[[ab.mk 5 [(d5 dx aE 1 0 0 ag.length 2 0 0 aN.length 3 0 0 ao.length)] .live],(av 1 I ag),(av 1 I aN),(av 1 I ao),[ab.mk 6 [(e4 5 0 0 a.1.length cT cR 7 0 0 a.2.2.length aS 8 0 0 cp.length)] .live],(av 1 (b3 6 0 2) a.1),(de 2 aT a.2.1),(av 1 I a.2.2),(av 1 dT cp)]⟩
def xF (aS dx aE:Int)(ag aN ao:List Int)(cT:Bool)(cR:List Int)(cp:List Bool)(db:Int)(bB:List ca)(eB:List (List bg))(dF:List Int):Option ((Int×(List ca)×(List (List bg))×(List Int))⊕((List ca)×(List (List bg))×(List Int))) :=
 if (decide (db<dx))=true then
  if 0≤(U (aS+(1:Int)))∧(32:Int)*(U (aS+(1:Int)))≤281474976710656∧(U (aS+(1:Int)))<9223372036854775808 then
  if 0≤db∧db<(aN.length:Nat) then
  aN[(0+db.toNat)]? >>= fun gI =>
  if (decide (gI<(0:Int)))=true then
   Dh db dx aE ag aN ao >>= fun bI =>
   Dz aS db eB.length ((U (aS+(1:Int))).toNat) dx bI.1 bI.2 ((bI.2:Nat):Int) aE ag aN ao cT cR bB dF cp 0 (eB++[(List.replicate (U (aS+(1:Int))).toNat (⟨false,([]:List Int)⟩:bg):List bg)]) >>= fun bk =>
   oi 1 >>= fun cI =>
   bk[eB.length]? >>= fun n8 =>
   if 0≤(U (aE+db))∧(U (aE+db))<((U (aS+(1:Int))).toNat:Nat) then
   n8[(0+(U (aE+db)).toNat)]? >>= fun lk =>
   oi (U ((-1:Int)*gI)) >>= fun d6 =>
   (bk.set eB.length (n8.set (0+(U (aE+db)).toNat) cI))[eB.length]? >>= fun pz =>
   if 0≤aS∧aS<((U (aS+(1:Int))).toNat:Nat) then
   pz[(0+aS.toNat)]? >>= fun wt =>
   if (bB++([(some (eB.length,(U (aS+(1:Int))).toNat))]:List ca)).length*24≤140737488355328 then
   if (dF++([U (aE+db)]:List Int)).length*8≤140737488355328 then
   some (.inl (U (db+(1:Int)),bB++([(some (eB.length,(U (aS+(1:Int))).toNat))]:List ca),(bk.set eB.length (n8.set (0+(U (aE+db)).toNat) cI)).set eB.length (pz.set (0+aS.toNat) d6),dF++([U (aE+db)]:List Int)))
   else none
   else none
   else none
   else none
  else
   Dh db dx aE ag aN ao >>= fun bI =>
   DA aS db eB.length ((U (aS+(1:Int))).toNat) dx bI.1 bI.2 ((bI.2:Nat):Int) aE ag aN ao cT cR bB dF cp 0 (eB++[(List.replicate (U (aS+(1:Int))).toNat (⟨false,([]:List Int)⟩:bg):List bg)]) >>= fun bk =>
   oi 1 >>= fun cI =>
   bk[eB.length]? >>= fun n8 =>
   if 0≤(U (aE+db))∧(U (aE+db))<((U (aS+(1:Int))).toNat:Nat) then
   n8[(0+(U (aE+db)).toNat)]? >>= fun lk =>
   oi (U ((1:Int)*gI)) >>= fun d6 =>
   (bk.set eB.length (n8.set (0+(U (aE+db)).toNat) cI))[eB.length]? >>= fun pz =>
   if 0≤aS∧aS<((U (aS+(1:Int))).toNat:Nat) then
   pz[(0+aS.toNat)]? >>= fun wt =>
   if (bB++([(some (eB.length,(U (aS+(1:Int))).toNat))]:List ca)).length*24≤140737488355328 then
   if (dF++([U (aE+db)]:List Int)).length*8≤140737488355328 then
   some (.inl (U (db+(1:Int)),bB++([(some (eB.length,(U (aS+(1:Int))).toNat))]:List ca),(bk.set eB.length (n8.set (0+(U (aE+db)).toNat) cI)).set eB.length (pz.set (0+aS.toNat) d6),dF++([U (aE+db)]:List Int)))
   else none
   else none
   else none
   else none
  else none
  else none
 else
  some (.inr (bB,eB,dF))
def DB (aS dx aE:Int)(ag aN ao:List Int)(cT:Bool)(cR:List Int)(cp:List Bool)(db:Int)(bB:List ca)(eB:List (List bg))(dF:List Int):Option ((List ca)×(List (List bg))×(List Int)):=iter (fun w:Int×(List ca)×(List (List bg))×(List Int)=>xF aS dx aE ag aN ao cT cR cp w.1 w.2.1 w.2.2.1 w.2.2.2) (db,bB,eB,dF)
set_option maxHeartbeats 4000000 in
theorem Vb {aS dx aE:Int}{ag aN ao:List Int}{cT:Bool}{cR:List Int}{cp:List Bool}{db:Int}{bB:List ca}{eB:List (List bg)}{dF:List Int}:b1 (xF aS dx aE ag aN ao cT cR cp db bB eB dF) (fA bt 205 4 88 [1,1,1,0,1,0,0] (HX aS dx aE ag aN ao cT cR cp (db,bB,eB,dF)) (HX aS dx aE ag aN ao cT cR cp) (Ii aS dx aE ag aN ao cT cR cp)):=by
 unfold xF
 exact .ite (fun o =>
  .bq fun J =>
  .bq fun ak =>
  .aw fun gI aI =>
  (let t1:List cK:=[(ad 1),.aj true,(ad 2),.aG (bQ 2 (.CD 6 (eB.length+0) (.cA [.b false,.isl 1 (([]:List Int).map I)])) 1),(ad 1),.aG (bQ 6 (.cA (I gI)) 1)];
  have a4:=((.bj o J.1 (Int.le_refl (U (aS+(1:Int)))) J.2.1 J.2.2 (congrArg (· + 0) (aaF (iR .live 2 aT eB) rfl)) ak.1 ak.2 (.az (cD I aI))):c1 _);
  .ite (fun bu =>
  .aw fun bI bn =>
  .aw fun bk cV =>
  .aw fun cI dg =>
  .aw fun n8 eL =>
  .bq fun gm =>
  .aw fun lk gG =>
  .aw fun d6 iM =>
  .aw fun pz mw =>
  .bq fun lj =>
  .aw fun wt lI =>
  .bq fun oS =>
  .bq fun zD =>
  .ret (let aR:=d5 dx aE 1 0 0 ag.length 2 0 0 aN.length 3 0 0 ao.length;let b7:=(U (aS+(1:Int)));let cC:=dd [0,1,2,3,4,40,5,56,8];let en:=U (aE+db);let bb:=(sx (iR .live 2 aT bk) eB.length (su (dV aT n8) (0+en.toNat) cI (rfl:(setCells (aT lk) 0 (aT cI))=aT cI)));let gf:=(dF++([en]:List Int));let hc:=(bB++([(some (eB.length,b7.toNat))]:List ca));let fh:=dd [0,1,2,3,4,6,5,7,8];let hO:=lT (iR .live 2 aT bk) ls eL;bT (t1.append [.aj true,(ad 1),.aG (bQ 2 (.call {aM:=(lh [0,1,2,3]),cr:=[.bw [ab.mk 5 [aR] .live],.pure,.pure,.pure],ac:=[ii,ii],r:= .bC 1 0 bI.1 bI.2,dj:=[[ab.mk 5 [aR] .live],(av 1 I ag),(av 1 I aN),(av 1 I ao)],eh:=ii,e1:=[.bw [ab.mk 5 [aR] .live],.pure,.pure,.pure],dv:=[0,1,2,3],dq:=false}) 2),.bp [0,1,2,3,4,6,5,7,8] [.box [.id,.id,.id,.id,.id],.pure,.pure,.pure,.box [.id,.id,.id,.id,.id,.id],.bw (de 2 aT (eB++[(List.replicate b7.toNat (⟨false,([]:List Int)⟩:bg):List bg)])),.bw (av 1 (b3 5 0 2) bB),.pure,.pure] (bO [0,4,5,6,7,8,34,35,51,52,53]),(Ig aS db eB.length (b7.toNat) dx bI.1 bI.2 ((bI.2:Nat):Int) aE ag aN ao cT cR bB dF cp bk).gp,.aG (ae 7 (ah (bD 1 (.agg (aT cI)) false) (ah (.hv (ab.mk 2 (n8.map aT) .live) []) (ah (.hv (ab.mk 2 (n8.map aT) .live) (aT lk)) [])))),.aG (ae 9 (ah (.cA (I gI)) (ae 1 (ah (bD 1 (.agg (aT d6)) false) (ah (.hv (ab.mk 2 (pz.map aT) .live) []) (ah (.hv (ab.mk 2 (pz.map aT) .live) (aT wt)) [])))))),.aG (ae 6 (ah (.eR 93 (np 5 0 2 (some (eB.length,b7.toNat))) .none) (ah (.aZ (hc.length)) (ae 3 [])))),.aG (bQ 12 (.aZ (gf.length)) 3),(ad 2),.bp [0,1,2,3,4,40,5,56,8] [.box [.id,.id,.id,.id,.id],.pure,.pure,.pure,.box [.id,.id,.id,.id,.id,.id],.bw (av 1 (b3 6 0 2) hc),.bw (de 2 aT ((bk.set eB.length (n8.set (0+en.toNat) cI)).set eB.length (pz.set (0+aS.toNat) d6))),.d3 (av 1 I gf),.pure] (bO [0,4,5,34,35])]) (a4.aZ (.bj bu (gS (ke [0,1,2,3]) 5 [aR] [aR] rfl) (gT 5 [aR]) (eI 1 aD ag) (eI 1 aD aN) (eI 1 aD ao) (gS (hK [0,1,2,3]) 5 [aR] [aR] rfl) (gT 5 [aR]) (.bj (eI 1 aD ag) (eI 1 aD aN) (eI 1 aD ao) (Nx bI bn) (aF 1 .live aD ag) (aF 1 .live aD aN) (aF 1 .live aD ao) (qO (b6:=fh) (Rm (iR .live 2 aT eB) (RS s6 14 6 (eB.length+0) (kS aT b7.toNat (⟨false,([]:List Int)⟩:bg)) (RT 14 6 (eB.length+0)))) (mX er)) (.bj (e7 fh 5 6 0 2 rfl bB) (aF 1 .live aD dF) (aF 1 .live ee cp) (VT cV) (sl cI dg) hO gm.1 gm.2 (.bj hO (cD aT gG) ak.1 ak.2 (cD I aI) (sl d6 iM) (lT bb ls mw) lj.1 (.bj lj.2 (lT bb ls mw) (cD aT lI) (.s2 5 0 2 eB.length (b7.toNat):kE (.bC 5 (eB.length+0) 0 (b7.toNat)) (np 5 0 2 (some (eB.length,b7.toNat)))) (mN (b3 5 0 2) (some (eB.length,b7.toNat))) (r9 (b3 5 0 2) bB) (oY (b3 5 0 2) bB (some (eB.length,b7.toNat))) oS (.bj (mN I en) (r9 I dF) (oY I dF en) zD (aF 1 .live aD ag) (aF 1 .live aD aN) (aF 1 .live aD ao) (el (rl (b6:=cC) 1 .live (b3 6 0 2) (sa (b3 5 0 2) bB (some (eB.length,b7.toNat))) (Bo (rfl:cC 5=some 6))) (jG (b6:=cC))) (.dn (qO (b6:=cC) (sx bb eB.length (su (dV aT pz) (0+aS.toNat) d6 (rfl:(setCells (aT wt) 0 (aT d6))=aT d6))) (mX er)) (eX 1 .live (sa I dF en)) (aF 1 .live aD gf) (aF 1 .live ee cp)))))))))))
  (fun bu =>
  .aw fun bI bn =>
  .aw fun bk cV =>
  .aw fun cI dg =>
  .aw fun n8 eL =>
  .bq fun gm =>
  .aw fun lk gG =>
  .aw fun d6 iM =>
  .aw fun pz mw =>
  .bq fun lj =>
  .aw fun wt lI =>
  .bq fun oS =>
  .bq fun zD =>
  .ret (let iN:=d5 dx aE 1 0 0 ag.length 2 0 0 aN.length 3 0 0 ao.length;let kK:=(U (aS+(1:Int)));let ng:=dd [0,1,2,3,4,40,5,56,8];let nh:=U (aE+db);let kJ:=(sx (iR .live 2 aT bk) eB.length (su (dV aT n8) (0+nh.toNat) cI (rfl:(setCells (aT lk) 0 (aT cI))=aT cI)));let l7:=(dF++([nh]:List Int));let p3:=(bB++([(some (eB.length,kK.toNat))]:List ca));let n9:=dd [0,1,2,3,4,6,5,7,8];let ni:=lT (iR .live 2 aT bk) ls eL;bT (t1.append [.aj false,.aG (bQ 2 (.call {aM:=(lh [0,1,2,3]),cr:=[.bw [ab.mk 5 [iN] .live],.pure,.pure,.pure],ac:=[ii,ii],r:= .bC 1 0 bI.1 bI.2,dj:=[[ab.mk 5 [iN] .live],(av 1 I ag),(av 1 I aN),(av 1 I ao)],eh:=ii,e1:=[.bw [ab.mk 5 [iN] .live],.pure,.pure,.pure],dv:=[0,1,2,3],dq:=false}) 2),.bp [0,1,2,3,4,6,5,7,8] [.box [.id,.id,.id,.id,.id],.pure,.pure,.pure,.box [.id,.id,.id,.id,.id,.id],.bw (de 2 aT (eB++[(List.replicate kK.toNat (⟨false,([]:List Int)⟩:bg):List bg)])),.bw (av 1 (b3 5 0 2) bB),.pure,.pure] (bO [0,4,5,6,7,8,34,35,51,52,53]),(Ih aS db eB.length (kK.toNat) dx bI.1 bI.2 ((bI.2:Nat):Int) aE ag aN ao cT cR bB dF cp bk).gp,.aG (ae 7 (ah (bD 1 (.agg (aT cI)) false) (ah (.hv (ab.mk 2 (n8.map aT) .live) []) (ah (.hv (ab.mk 2 (n8.map aT) .live) (aT lk)) [])))),.aG (ae 9 (ah (.cA (I gI)) (ae 1 (ah (bD 1 (.agg (aT d6)) false) (ah (.hv (ab.mk 2 (pz.map aT) .live) []) (ah (.hv (ab.mk 2 (pz.map aT) .live) (aT wt)) [])))))),.aG (ae 6 (ah (.eR 93 (np 5 0 2 (some (eB.length,kK.toNat))) .none) (ah (.aZ (p3.length)) (ae 3 [])))),.aG (bQ 12 (.aZ (l7.length)) 3),(ad 2),.bp [0,1,2,3,4,40,5,56,8] [.box [.id,.id,.id,.id,.id],.pure,.pure,.pure,.box [.id,.id,.id,.id,.id,.id],.bw (av 1 (b3 6 0 2) p3),.bw (de 2 aT ((bk.set eB.length (n8.set (0+nh.toNat) cI)).set eB.length (pz.set (0+aS.toNat) d6))),.d3 (av 1 I l7),.pure] (bO [0,4,5,34,35])]) (a4.aZ (.bj bu (gS (ke [0,1,2,3]) 5 [iN] [iN] rfl) (gT 5 [iN]) (eI 1 aD ag) (eI 1 aD aN) (eI 1 aD ao) (gS (hK [0,1,2,3]) 5 [iN] [iN] rfl) (gT 5 [iN]) (.bj (eI 1 aD ag) (eI 1 aD aN) (eI 1 aD ao) (Nx bI bn) (aF 1 .live aD ag) (aF 1 .live aD aN) (aF 1 .live aD ao) (qO (b6:=n9) (Rm (iR .live 2 aT eB) (RS s6 14 6 (eB.length+0) (kS aT kK.toNat (⟨false,([]:List Int)⟩:bg)) (RT 14 6 (eB.length+0)))) (mX er)) (.bj (e7 n9 5 6 0 2 rfl bB) (aF 1 .live aD dF) (aF 1 .live ee cp) (VU cV) (sl cI dg) ni gm.1 gm.2 (.bj ni (cD aT gG) ak.1 ak.2 (cD I aI) (sl d6 iM) (lT kJ ls mw) lj.1 (.bj lj.2 (lT kJ ls mw) (cD aT lI) (.s2 5 0 2 eB.length (kK.toNat):kE (.bC 5 (eB.length+0) 0 (kK.toNat)) (np 5 0 2 (some (eB.length,kK.toNat)))) (mN (b3 5 0 2) (some (eB.length,kK.toNat))) (r9 (b3 5 0 2) bB) (oY (b3 5 0 2) bB (some (eB.length,kK.toNat))) oS (.bj (mN I nh) (r9 I dF) (oY I dF nh) zD (aF 1 .live aD ag) (aF 1 .live aD aN) (aF 1 .live aD ao) (el (rl (b6:=ng) 1 .live (b3 6 0 2) (sa (b3 5 0 2) bB (some (eB.length,kK.toNat))) (Bo (rfl:ng 5=some 6))) (jG (b6:=ng))) (.dn (qO (b6:=ng) (sx kJ eB.length (su (dV aT pz) (0+aS.toNat) d6 (rfl:(setCells (aT wt) 0 (aT d6))=aT d6))) (mX er)) (eX 1 .live (sa I dF nh)) (aF 1 .live aD l7) (aF 1 .live ee cp)))))))))))))
  (fun o =>
  .ret (let jV:=dd [0,1,2,3,4,5,6,7,8];bT [(ad 1),.aj false,.bp [0,1,2,3,4,5,6,7,8] [.box [.id,.id,.id,.id,.id],.pure,.pure,.pure,.box [.id,.id,.id,.id,.id,.id],.bw (av 1 (b3 6 0 2) bB),.bw (de 2 aT eB),.pure,.pure] (bO [0,4,5])] (.hB o (aF 1 .live aD ag) (aF 1 .live aD aN) (aF 1 .live aD ao) (e7 jV 6 6 0 2 rfl bB) (fb jV 2 er eB) (aF 1 .live aD dF) (aF 1 .live ee cp))))
theorem VV {aS dx aE:Int}{ag aN ao:List Int}{cT:Bool}{cR:List Int}{cp:List Bool}{db:Int}{bB:List ca}{eB:List (List bg)}{dF:List Int}{r} (h:DB aS dx aE ag aN ao cT cR cp db bB eB dF=some r):fB bt 205 4 88 [1,1,1,0,1,0,0] (HX aS dx aE ag aN ao cT cR cp) (Ii aS dx aE ag aN ao cT cR cp) (db,bB,eB,dF) r:=fD (fun _=>Vb) h
def HY (aS pb aK aE:Int)(ag aN ao:List Int)(cT:Bool)(cR:List Int)(cn:List ca)(eT:List (List bg))(cp:List Int):(Int×(List Int)×(List Bool))→S:=fun (gU,bB,eY)=>eV [(0,.ref 0 0 0 0),(4,.n .i64 aS),(5,.ref 4 0 0 0),(11,.bC 5 0 0 bB.length),(117,.n .i64 pb),(118,.n .i64 gU)] [[ab.mk 5 [(d5 aK aE 1 0 0 ag.length 2 0 0 aN.length 3 0 0 ao.length)] .live],(av 1 I ag),(av 1 I aN),(av 1 I ao),[ab.mk 6 [(e4 6 0 0 cn.length cT cR 8 0 0 cp.length aS 9 0 0 eY.length)] .live],(av 1 I bB),(av 1 (b3 7 0 2) cn),(de 2 aT eT),(av 1 I cp),(av 1 dT eY)]
def Ij (aS pb aK aE:Int)(ag aN ao:List Int)(cT:Bool)(cR:List Int)(cn:List ca)(eT:List (List bg))(cp:List Int):((List Int)×(List Bool))→e3
 | a=>⟨some 4,[(0,.ref 0 0 0 0),(4,.n .i64 aS),(5,.ref 4 0 0 0),(11,.bC 5 0 0 a.1.length)],[[ab.mk 5 [(d5 aK aE 1 0 0 ag.length 2 0 0 aN.length 3 0 0 ao.length)] .live],(av 1 I ag),(av 1 I aN),(av 1 I ao),[ab.mk 6 [(e4 6 0 0 cn.length cT cR 8 0 0 cp.length aS 9 0 0 a.2.length)] .live],(av 1 I a.1),(av 1 (b3 7 0 2) cn),(de 2 aT eT),(av 1 I cp),(av 1 dT a.2)]⟩
def xG (aS pb aK aE:Int)(ag aN ao:List Int)(cT:Bool)(cR:List Int)(cn:List ca)(eT:List (List bg))(cp:List Int)(gU:Int)(bB:List Int)(eY:List Bool):Option ((Int×(List Int)×(List Bool))⊕((List Int)×(List Bool))) :=
 if (decide (gU<pb))=true then
  if 0≤gU∧gU<(eY.length:Nat) then
  if (0+gU.toNat)<eY.length then
  if (decide (aE≤gU))=true then
   if 0≤gU∧gU<(bB.length:Nat) then
   if (0+gU.toNat)<bB.length then
   some (.inl (U (gU+(1:Int)),bB.set (0+gU.toNat) (-1),eY.set (0+gU.toNat) (decide (gU<aE))))
   else none
   else none
  else
   some (.inl (U (gU+(1:Int)),bB,eY.set (0+gU.toNat) (decide (gU<aE))))
  else none
  else none
 else
  some (.inr (bB,eY))
def DC (aS pb aK aE:Int)(ag aN ao:List Int)(cT:Bool)(cR:List Int)(cn:List ca)(eT:List (List bg))(cp:List Int)(gU:Int)(bB:List Int)(eY:List Bool):Option ((List Int)×(List Bool)):=iter (fun w:Int×(List Int)×(List Bool)=>xG aS pb aK aE ag aN ao cT cR cn eT cp w.1 w.2.1 w.2.2) (gU,bB,eY)
theorem Vc {aS pb aK aE:Int}{ag aN ao:List Int}{cT:Bool}{cR:List Int}{cn:List ca}{eT:List (List bg)}{cp:List Int}{gU:Int}{bB:List Int}{eY:List Bool}:b1 (xG aS pb aK aE ag aN ao cT cR cn eT cp gU bB eY) (fA bt 205 4 88 [1,1,1,1,1,0,1,0,0] (HY aS pb aK aE ag aN ao cT cR cn eT cp (gU,bB,eY)) (HY aS pb aK aE ag aN ao cT cR cn eT cp) (Ij aS pb aK aE ag aN ao cT cR cn eT cp)):=by
 unfold xG
 exact .ite (fun o =>
  .bq fun J =>
  .bq fun ak =>
  (let t1:List cK:=[(ad 1),.aj true,(ad 2),.aG (ae 12 (ah .cU [])),(ad 6)];
  have a4:=((.ej o J.1 J.2 (hk dT ak) (gL 1)):c1 _);
  .ite (fun ay =>
  .bq fun aI =>
  .bq fun bu =>
  .ret (let aR:=dd [0,1,2,3,4,5,6,7,8,9];bT (t1.append [.aj true,.aG (ae 3 (ah .cU [])),(ad 2),.bp [0,1,2,3,4,5,6,7,8,9] [.box [.id,.id,.id,.id,.id],.pure,.pure,.pure,.box [.id,.id,.id,.id,.id,.len ((eY.set (0+gU.toNat) (decide (gU<aE))).length)],.d3 (av 1 I (bB.set (0+gU.toNat) (-1))),.bw (av 1 (b3 7 0 2) cn),.bw (de 2 aT eT),.pure,.d3 (av 1 dT (eY.set (0+gU.toNat) (decide (gU<aE))))] [(0,ii),(4,ii),(5,ii),(11,gQ ((bB.set (0+gU.toNat) (-1)).length)),(117,ii),(118,ii)]]) (a4.aZ (.bj ay aI.1 aI.2 (hk I bu) (gL 1) (aF 1 .live aD ag) (aF 1 .live aD aN) (aF 1 .live aD ao) (.bj (gN (ft eY) (0+gU.toNat) (decide (gU<aE))) (eX 1 .live (fP (dV I bB) (0+gU.toNat) (-1))) (aF 1 .live aD (bB.set (0+gU.toNat) (-1))) (e7 aR 7 7 0 2 rfl cn) (fb aR 2 er eT) (aF 1 .live aD cp) (eX 1 .live (fP (dV dT eY) (0+gU.toNat) (decide (gU<aE)))) (aF 1 .live ee (eY.set (0+gU.toNat) (decide (gU<aE)))) (.az (gN (ft bB) (0+gU.toNat) (-1))))))))
  (fun ay =>
  .ret (let bb:=dd [0,1,2,3,4,5,6,7,8,9];bT (t1.append [.aj false,(ad 2),.bp [0,1,2,3,4,5,6,7,8,9] [.box [.id,.id,.id,.id,.id],.pure,.pure,.pure,.box [.id,.id,.id,.id,.id,.len ((eY.set (0+gU.toNat) (decide (gU<aE))).length)],.pure,.bw (av 1 (b3 7 0 2) cn),.bw (de 2 aT eT),.pure,.d3 (av 1 dT (eY.set (0+gU.toNat) (decide (gU<aE))))] (bO [0,4,5,11,117,118])]) (a4.aZ (.bj ay (aF 1 .live aD ag) (aF 1 .live aD aN) (aF 1 .live aD ao) (gN (ft eY) (0+gU.toNat) (decide (gU<aE))) (aF 1 .live aD bB) (e7 bb 7 7 0 2 rfl cn) (fb bb 2 er eT) (.b2 (aF 1 .live aD cp) (eX 1 .live (fP (dV dT eY) (0+gU.toNat) (decide (gU<aE)))) (aF 1 .live ee (eY.set (0+gU.toNat) (decide (gU<aE)))))))))))
  (fun o =>
  .ret (let b7:=dd [0,1,2,3,4,5,6,7,8,9];bT [(ad 1),.aj false,.bp [0,1,2,3,4,5,6,7,8,9] [.box [.id,.id,.id,.id,.id],.pure,.pure,.pure,.box [.id,.id,.id,.id,.id,.id],.pure,.bw (av 1 (b3 7 0 2) cn),.bw (de 2 aT eT),.pure,.pure] (bO [0,4,5,11])] (.bj o (aF 1 .live aD ag) (aF 1 .live aD aN) (aF 1 .live aD ao) (aF 1 .live aD bB) (e7 b7 7 7 0 2 rfl cn) (fb b7 2 er eT) (aF 1 .live aD cp) (.az (aF 1 .live ee eY)))))
theorem VW {aS pb aK aE:Int}{ag aN ao:List Int}{cT:Bool}{cR:List Int}{cn:List ca}{eT:List (List bg)}{cp:List Int}{gU:Int}{bB:List Int}{eY:List Bool}{r} (h:DC aS pb aK aE ag aN ao cT cR cn eT cp gU bB eY=some r):fB bt 205 4 88 [1,1,1,1,1,0,1,0,0] (HY aS pb aK aE ag aN ao cT cR cn eT cp) (Ij aS pb aK aE ag aN ao cT cR cn eT cp) (gU,bB,eY) r:=fD (fun _=>Vc) h
def HZ (aS pc aK aE:Int)(ag aN ao:List Int)(cT:Bool)(cR:List Int)(eJ:Int)(bB:List Int)(cn:List ca)(eT:List (List bg))(cp:List Bool):Int→S:=fun mW=>eV [(0,.ref 0 0 0 0),(4,.n .i64 aS),(5,.ref 4 0 0 0),(149,.bC 5 0 0 bB.length),(150,.n .i64 pc),(151,.n .i64 mW)] [[ab.mk 5 [(d5 aK aE 1 0 0 ag.length 2 0 0 aN.length 3 0 0 ao.length)] .live],(av 1 I ag),(av 1 I aN),(av 1 I ao),[ab.mk 6 [(e4 6 0 0 cn.length cT cR 5 0 0 bB.length eJ 8 0 0 cp.length)] .live],(av 1 I bB),(av 1 (b3 7 0 2) cn),(de 2 aT eT),(av 1 dT cp)]
def Di (aS pc aK aE:Int)(ag aN ao:List Int)(cT:Bool)(cR:List Int)(eJ:Int)(bB:List Int)(cn:List ca)(eT:List (List bg))(cp:List Bool):((Unit)⊕(Unit))→e3
 | .inl a=>⟨some 6,[(0,.ref 0 0 0 0),(5,.ref 4 0 0 0)],[[ab.mk 5 [(d5 aK aE 1 0 0 ag.length 2 0 0 aN.length 3 0 0 ao.length)] .live],(av 1 I ag),(av 1 I aN),(av 1 I ao),[ab.mk 6 [(e4 5 0 0 cn.length cT cR 7 0 0 bB.length eJ 8 0 0 cp.length)] .live],(av 1 (b3 6 0 2) cn),(de 2 aT eT),(av 1 I bB),(av 1 dT cp)]⟩
 | .inr a=>⟨none,[(2,.ij),(3,.b false)],[[ab.mk 5 [(d5 aK aE 1 0 0 ag.length 2 0 0 aN.length 3 0 0 ao.length)] .live],(av 1 I ag),(av 1 I aN),(av 1 I ao)]⟩
def xH (aS pc aK aE:Int)(ag aN ao:List Int)(cT:Bool)(cR:List Int)(eJ:Int)(bB:List Int)(cn:List ca)(eT:List (List bg))(cp:List Bool)(mW:Int):Option ((Int)⊕((Unit)⊕(Unit))) :=
 if (decide (mW<pc))=true then
  if 0≤mW∧mW<(bB.length:Nat) then
  bB[(0+mW.toNat)]? >>= fun aQ =>
  if (decide (aE≤aQ))=true then
   if 0≤mW∧mW<(cn.length:Nat) then
   cn[(0+mW.toNat)]? >>= fun gR =>
   gR >>= fun CM =>
   eT[CM.1]? >>= fun FL =>
   if 0≤aS∧aS<(CM.2:Nat) then
   FL[(0+aS.toNat)]? >>= fun L6 =>
   o3 L6 >>= fun dy =>
   if (decide ((0:Int)<dy))=true then
    some (.inr (.inr ()))
   else
    some (.inl (U (mW+(1:Int))))
   else none
   else none
  else
   some (.inl (U (mW+(1:Int))))
  else none
 else
  some (.inr (.inl ()))
def DD (aS pc aK aE:Int)(ag aN ao:List Int)(cT:Bool)(cR:List Int)(eJ:Int)(bB:List Int)(cn:List ca)(eT:List (List bg))(cp:List Bool)(mW:Int):Option ((Unit)⊕(Unit)):=iter (fun w:Int=>xH aS pc aK aE ag aN ao cT cR eJ bB cn eT cp w) mW
theorem Vd {aS pc aK aE:Int}{ag aN ao:List Int}{cT:Bool}{cR:List Int}{eJ:Int}{bB:List Int}{cn:List ca}{eT:List (List bg)}{cp:List Bool}{mW:Int}:b1 (xH aS pc aK aE ag aN ao cT cR eJ bB cn eT cp mW) (fA bt 205 4 88 [1,1,1,1,1,1,1,0,1,0,0] (HZ aS pc aK aE ag aN ao cT cR eJ bB cn eT cp mW) (HZ aS pc aK aE ag aN ao cT cR eJ bB cn eT cp) (Di aS pc aK aE ag aN ao cT cR eJ bB cn eT cp)):=by
 unfold xH
 exact .ite (fun o =>
  .bq fun J =>
  .aw fun aQ ay =>
  (let t1:List cK:=[(ad 1),.aj true,.aG (bQ 2 (.cA (I aQ)) 2)];
  .ite (fun aI =>
  .bq fun bu =>
  .aw fun gR bn =>
  .aw fun CM cV =>
  .aw fun FL dg =>
  .bq fun ec =>
  .aw fun L6 gm =>
  .aw fun dy gG =>
  (let cC:=lT (iR .live 2 aT eT) ls dg;let t2:List cK:=t1.append [.aG (ae 13 (ah (.cA ((b3 7 0 2) gR)) (ae 1 (ah (.eR 169 (.bC 7 (CM.1+0) 0 CM.2) (.hv (ab.mk 2 (FL.map aT) .live) [])) (ah (.hv (ab.mk 2 (FL.map aT) .live) (aT L6)) (ah (bD 1 (.n .i64 dy) true) (ae 1 (ah (.aj true) []))))))))];
  have fW:=((.bj o J.1 J.2 (cD I ay) aI aI aI aI (.bj aI aI bu.1 bu.2 aI (cD (b3 7 0 2) bn) aI aI (.bj (o5 (et:=7) (c:=0) (sz:=2) cV) cC ec.1 ec.2 aI cC (cD aT gm) aI (.dn (s0 dy gG) (cz.n .i64 dy) aI aI)))):c1 _);
  .ite (fun jT =>
  .ret (bT (t2.append [.aj true,(ad 2),.bp [0,1,2,3] [.box [.id,.id,.id,.id,.id],.pure,.pure,.pure] (bO [2,3])]) (fW.aZ (.dn jT (aF 1 .live aD ag) (aF 1 .live aD aN) (aF 1 .live aD ao)))))
  (fun jT =>
  .ret (let aR:=dd [0,1,2,3,4,5,6,7,8];bT (t2.append [.aj false,(ad 2),.bp [0,1,2,3,4,5,6,7,8] [.box [.id,.id,.id,.id,.id],.pure,.pure,.pure,.box [.id,.id,.id,.id,.id,.id],.pure,.bw (av 1 (b3 7 0 2) cn),.bw (de 2 aT eT),.pure] (bO [0,4,5,149,150,151])]) (fW.aZ (.hB jT (aF 1 .live aD ag) (aF 1 .live aD aN) (aF 1 .live aD ao) (aF 1 .live aD bB) (e7 aR 7 7 0 2 rfl cn) (fb aR 2 er eT) (aF 1 .live ee cp)))))))
  (fun aI =>
  .ret (let bb:=dd [0,1,2,3,4,5,6,7,8];bT (t1.append [.aG (ae 7 (cm 12 (ah (.aj false) []))),.aj false,(ad 2),.bp [0,1,2,3,4,5,6,7,8] [.box [.id,.id,.id,.id,.id],.pure,.pure,.pure,.box [.id,.id,.id,.id,.id,.id],.pure,.bw (av 1 (b3 7 0 2) cn),.bw (de 2 aT eT),.pure] (bO [0,4,5,149,150,151])]) (.bj o J.1 J.2 (cD I ay) aI aI aI aI (.bj aI aI aI aI aI aI aI aI (.bj aI ez (aF 1 .live aD ag) (aF 1 .live aD aN) (aF 1 .live aD ao) (aF 1 .live aD bB) (e7 bb 7 7 0 2 rfl cn) (fb bb 2 er eT) (.az (aF 1 .live ee cp)))))))))
  (fun o =>
  .ret (let b7:=dd [0,1,2,3,4,6,7,5,8];bT [(ad 1),.aj false,.bp [0,1,2,3,4,6,7,5,8] [.box [.id,.id,.id,.id,.id],.pure,.pure,.pure,.box [.id,.id,.id,.id,.id,.id],.bw (av 1 (b3 6 0 2) cn),.bw (de 2 aT eT),.pure,.pure] (bO [0,5])] (.hB o (aF 1 .live aD ag) (aF 1 .live aD aN) (aF 1 .live aD ao) (e7 b7 6 7 0 2 rfl cn) (fb b7 2 er eT) (aF 1 .live aD bB) (aF 1 .live ee cp))))
theorem NO {aS pc aK aE:Int}{ag aN ao:List Int}{cT:Bool}{cR:List Int}{eJ:Int}{bB:List Int}{cn:List ca}{eT:List (List bg)}{cp:List Bool}{mW:Int}{r} (h:DD aS pc aK aE ag aN ao cT cR eJ bB cn eT cp mW=some r):fB bt 205 4 88 [1,1,1,1,1,1,1,0,1,0,0] (HZ aS pc aK aE ag aN ao cT cR eJ bB cn eT cp) (Di aS pc aK aE ag aN ao cT cR eJ bB cn eT cp) mW r:=fD (fun _=>Vd) h
def H0 (pd aK aE:Int)(ag aN ao:List Int)(cT:Bool)(cR:List Int)(eJ:Int)(bB:List ca)(eB:List (List bg))(dF:List Int):(Int×(List Bool))→S:=fun (ku,cp)=>eV [(0,.ref 0 0 0 0),(5,.ref 4 0 0 0),(181,.n .i64 pd),(182,.n .i64 ku)] [[ab.mk 5 [(d5 aK aE 1 0 0 ag.length 2 0 0 aN.length 3 0 0 ao.length)] .live],(av 1 I ag),(av 1 I aN),(av 1 I ao),[ab.mk 6 [(e4 5 0 0 bB.length cT cR 7 0 0 dF.length eJ 8 0 0 cp.length)] .live],(av 1 (b3 6 0 2) bB),(de 2 aT eB),(av 1 I dF),(av 1 dT cp)]
def Ik (pd aK aE:Int)(ag aN ao:List Int)(cT:Bool)(cR:List Int)(eJ:Int)(bB:List ca)(eB:List (List bg))(dF:List Int):(List Bool)→e3
 | a=>⟨some 8,[(0,.ref 0 0 0 0),(5,.ref 4 0 0 0)],[[ab.mk 5 [(d5 aK aE 1 0 0 ag.length 2 0 0 aN.length 3 0 0 ao.length)] .live],(av 1 I ag),(av 1 I aN),(av 1 I ao),[ab.mk 6 [(e4 5 0 0 bB.length cT cR 7 0 0 dF.length eJ 8 0 0 a.length)] .live],(av 1 (b3 6 0 2) bB),(de 2 aT eB),(av 1 I dF),(av 1 dT a)]⟩
def xI (pd aK aE:Int)(ag aN ao:List Int)(cT:Bool)(cR:List Int)(eJ:Int)(bB:List ca)(eB:List (List bg))(dF:List Int)(ku:Int)(cp:List Bool):Option ((Int×(List Bool))⊕((List Bool))) :=
 if (decide (ku<pd))=true then
  if 0≤ku∧ku<(cp.length:Nat) then
  if (0+ku.toNat)<cp.length then
  some (.inl (U (ku+(1:Int)),cp.set (0+ku.toNat) (decide (ku<aE))))
  else none
  else none
 else
  some (.inr cp)
def DE (pd aK aE:Int)(ag aN ao:List Int)(cT:Bool)(cR:List Int)(eJ:Int)(bB:List ca)(eB:List (List bg))(dF:List Int)(ku:Int)(cp:List Bool):Option ((List Bool)):=iter (fun w:Int×(List Bool)=>xI pd aK aE ag aN ao cT cR eJ bB eB dF w.1 w.2) (ku,cp)
theorem Ve {pd aK aE:Int}{ag aN ao:List Int}{cT:Bool}{cR:List Int}{eJ:Int}{bB:List ca}{eB:List (List bg)}{dF:List Int}{ku:Int}{cp:List Bool}:b1 (xI pd aK aE ag aN ao cT cR eJ bB eB dF ku cp) (fA bt 205 4 88 [1,1,1,1,1,1,1,1,0,1,0,0] (H0 pd aK aE ag aN ao cT cR eJ bB eB dF (ku,cp)) (H0 pd aK aE ag aN ao cT cR eJ bB eB dF) (Ik pd aK aE ag aN ao cT cR eJ bB eB dF)):=by
 unfold xI
 exact .ite (fun o =>
  .bq fun J =>
  .bq fun ak =>
  .ret (let aR:=dd [0,1,2,3,4,5,6,7,8];bT [(ad 1),.aj true,(ad 2),.aG (ae 12 (ah .cU [])),(ad 2),.bp [0,1,2,3,4,5,6,7,8] [.box [.id,.id,.id,.id,.id],.pure,.pure,.pure,.box [.id,.id,.id,.id,.id,.len ((cp.set (0+ku.toNat) (decide (ku<aE))).length)],.bw (av 1 (b3 6 0 2) bB),.bw (de 2 aT eB),.pure,.d3 (av 1 dT (cp.set (0+ku.toNat) (decide (ku<aE))))] (bO [0,5,181,182])] (.bj o J.1 J.2 (hk dT ak) (gL 1) (aF 1 .live aD ag) (aF 1 .live aD aN) (aF 1 .live aD ao) (.fq (gN (ft cp) (0+ku.toNat) (decide (ku<aE))) (e7 aR 6 6 0 2 rfl bB) (fb aR 2 er eB) (aF 1 .live aD dF) (eX 1 .live (fP (dV dT cp) (0+ku.toNat) (decide (ku<aE)))) (aF 1 .live ee (cp.set (0+ku.toNat) (decide (ku<aE))))))))
  (fun o =>
  .ret (let bb:=dd [0,1,2,3,4,5,6,7,8];bT [(ad 1),.aj false,.bp [0,1,2,3,4,5,6,7,8] [.box [.id,.id,.id,.id,.id],.pure,.pure,.pure,.box [.id,.id,.id,.id,.id,.id],.bw (av 1 (b3 6 0 2) bB),.bw (de 2 aT eB),.pure,.pure] (bO [0,5])] (.hB o (aF 1 .live aD ag) (aF 1 .live aD aN) (aF 1 .live aD ao) (e7 bb 6 6 0 2 rfl bB) (fb bb 2 er eB) (aF 1 .live aD dF) (aF 1 .live ee cp))))
theorem VX {pd aK aE:Int}{ag aN ao:List Int}{cT:Bool}{cR:List Int}{eJ:Int}{bB:List ca}{eB:List (List bg)}{dF:List Int}{ku:Int}{cp:List Bool}{r} (h:DE pd aK aE ag aN ao cT cR eJ bB eB dF ku cp=some r):fB bt 205 4 88 [1,1,1,1,1,1,1,1,0,1,0,0] (H0 pd aK aE ag aN ao cT cR eJ bB eB dF) (Ik pd aK aE ag aN ao cT cR eJ bB eB dF) (ku,cp) r:=fD (fun _=>Ve) h
def Aq (bY cg:Int)(cf d1 dh:List Int):Option ((Bool×(List Int)×Int×(List ca)×(List Int)×(List Bool)×(List (List bg)))⊕(Unit)) :=
 oi 1 >>= fun aq =>
 if 0≤(U (cg+bY))∧(1:Int)*(U (cg+bY))≤281474976710656∧(U (cg+bY))<9223372036854775808 then
 DB (U (cg+bY)) bY cg cf d1 dh aq.cY aq.cB (List.replicate (U (cg+bY)).toNat false:List Bool) 0 ([]:List ca) ([]:List (List bg)) ([]:List Int) >>= fun aW =>
 if 0≤(U (cg+bY))∧(8:Int)*(U (cg+bY))≤281474976710656∧(U (cg+bY))<9223372036854775808 then
 DC (U (cg+bY)) (((U (cg+bY)).toNat:Nat):Int) bY cg cf d1 dh aq.cY aq.cB aW.1 aW.2.1 aW.2.2 0 (List.replicate (U (cg+bY)).toNat 0:List Int) (List.replicate (U (cg+bY)).toNat false:List Bool) >>= fun bI =>
 sW aq.cY aq.cB (U (cg+bY)) aW.1 aW.2.1 aW.2.2 bI.2 bI.1 >>= fun bk =>
 DD (U (cg+bY)) ((bk.2.2.2.2.1.length:Nat):Int) bY cg cf d1 dh bk.2.1 bk.2.2.1 (U (cg+bY)) bk.2.2.2.2.1 aW.1 bk.2.2.2.1 bk.2.2.2.2.2 0 >>= fun cI =>
 match cI with
 | .inl p1=>(DE ((bk.2.2.2.2.2.length:Nat):Int) bY cg cf d1 dh bk.2.1 bk.2.2.1 (U (cg+bY)) aW.1 bk.2.2.2.1 bk.2.2.2.2.1 0 bk.2.2.2.2.2 >>= fun fJ =>
  z3 cg bk.2.1 bk.2.2.1 (U (cg+bY)) aW.1 bk.2.2.2.1 bk.2.2.2.2.1 fJ >>= fun dy =>
  some (.inl (dy.1,dy.2.1,(U (cg+bY)),dy.2.2.1,dy.2.2.2.2,fJ,dy.2.2.2.1)))
 | .inr p1=>(some (.inr ()))
 else none
 else none
set_option maxHeartbeats 4000000 in
theorem Ob {bY cg:Int}{cf d1 dh:List Int}:b1 (Aq bY cg cf d1 dh) (Sum.elim (fun a=>Con bt 88 [.ref 0 0 0 0] [[ab.mk 5 [(d5 bY cg 1 0 0 cf.length 2 0 0 d1.length 3 0 0 dh.length)] .live],(av 1 I cf),(av 1 I d1),(av 1 I dh)] (.df [.ref 4 0 0 0,.b true]) [[ab.mk 5 [(d5 bY cg 1 0 0 cf.length 2 0 0 d1.length 3 0 0 dh.length)] .live],(av 1 I cf),(av 1 I d1),(av 1 I dh),(ab.mk 6 [(e4 4 1 0 a.2.2.2.1.length a.1 a.2.1 4 2 0 a.2.2.2.2.1.length a.2.2.1 4 3 0 a.2.2.2.2.2.1.length)] .live::ab.mk 1 (a.2.2.2.1.map (b3 4 4 2)) .live::ab.mk 1 (a.2.2.2.2.1.map I) .live::ab.mk 1 (a.2.2.2.2.2.1.map dT) .live::(de 2 aT a.2.2.2.2.2.2))]) (fun a=>Con bt 88 [.ref 0 0 0 0] [[ab.mk 5 [(d5 bY cg 1 0 0 cf.length 2 0 0 d1.length 3 0 0 dh.length)] .live],(av 1 I cf),(av 1 I d1),(av 1 I dh)] (.df [.ij,.b false]) [[ab.mk 5 [(d5 bY cg 1 0 0 cf.length 2 0 0 d1.length 3 0 0 dh.length)] .live],(av 1 I cf),(av 1 I d1),(av 1 I dh)])):=by
 unfold Aq
 exact .aw fun aq J =>
  .bq fun ak =>
  .aw fun aW aI =>
  .bq fun bu =>
  .aw fun bI bn =>
  .aw fun bk cV =>
  .aw fun cI dg =>
  (let jV:=U (cg+bY);let re:=e4 1 0 0 aW.1.length bk.2.1 bk.2.2.1 3 0 0 bk.2.2.2.2.1.length jV 4 0 0 bk.2.2.2.2.2.length;let sM:=dd [0,1,2,3,21,28,29,30,19];let sN:=e4 6 0 0 aW.1.length bk.2.1 bk.2.2.1 8 0 0 bk.2.2.2.2.1.length jV 9 0 0 bk.2.2.2.2.2.length;let qy:=(List.replicate jV.toNat false:List Bool);let rf:=e4 1 0 0 aW.1.length aq.cY aq.cB 3 0 0 aW.2.2.length jV 4 0 0 bI.2.length;let zE:=e4 6 0 0 aW.1.length aq.cY aq.cB 8 0 0 aW.2.2.length jV 9 0 0 bI.2.length;let uI:=de 2 aT bk.2.2.2.1;let wu:=(List.replicate jV.toNat 0:List Int);let wv:=av 1 (b3 7 0 2) aW.1;let zF:=ke [4,6,7,8,9,5];let zG:=hK [4,6,7,8,9,5];let Cj:=dd [0,1,2,3,4,10,5,6,7,8];let Ck:=dd [0,1,2,3,4,8,6,7,9];let wx:=aF 1 .live aD cf;let L7:=aF 1 .live aD d1;let L8:=aF 1 .live aD dh;let SY:=av 1 (b3 2 0 2) aW.1;let t1:List cK:=[(ad 2),(ad 10),.aG (bQ 1 (bD 1 (.agg (aT aq)) false) 5),(ad 5),.FF 21 0 1,.LS,.FF 21 3 1,.bp [0,1,2,3,21,28,29,30,19] [.box [.id,.id,.id,.id,.id],.pure,.pure,.pure,.box [.len (([]:List ca).length),.id,.id,.len (([]:List Int).length),.id,.len (qy.length)],.bw (av 1 (b3 6 0 2) ([]:List ca)),.bw (de 2 aT ([]:List (List bg))),.d3 (av 1 I ([]:List Int)),.d3 (av 1 dT qy)] (bO [0,4,5,34,35]),(Ii jV bY cg cf d1 dh aq.cY aq.cB qy aW).gp,(ad 3),(ad 3),.bp [0,1,2,3,4,10,5,6,7,8] [.box [.id,.id,.id,.id,.id],.pure,.pure,.pure,.box [.id,.id,.id,.id,.id,.id],.d3 (av 1 I wu),.bw wv,.bw (de 2 aT aW.2.1),.pure,.pure] [(0,ii),(4,ii),(5,ii),(11,gQ (wu.length)),(117,ii),(118,ii)],(Ij jV ((jV.toNat:Nat):Int) bY cg cf d1 dh aq.cY aq.cB aW.1 aW.2.1 aW.2.2 bI).gp,.aG (ae 2 (ah (.call {aM:=(lh [4,6,7,8,9,5]),cr:=[.bw [ab.mk 6 [rf] .live],.bw SY,.bw (de 2 aT aW.2.1),.pure,.pure,.pure],ac:=[ii,ii],r:= .b bk.1,dj:=[[ab.mk 6 [re] .live],SY,uI,(av 1 I bk.2.2.2.2.1),(av 1 dT bk.2.2.2.2.2),(av 1 I bI.1)],eh:=ii,e1:=[.bw [ab.mk 6 [sN] .live],.bw wv,.bw uI,.pure,.pure,.pure],dv:=[4,5,6,7,8,9],dq:=false}) [])),(ad 6),.bp [0,1,2,3,4,8,6,7,9] [.box [.id,.id,.id,.id,.id],.pure,.pure,.pure,.box [.id,.id,.id,.id,.id,.id],.pure,.bw wv,.bw uI,.pure] (bO [0,4,5,149,150,151])];
  have a4:=((.bj (sl aq J) ak.1 (Int.le_refl jV) ak.2.1 ak.2.2 wx L7 L8 (.bj (my ca) (my Int) (k5 jV.toNat (false:Bool)) (el (rl (b6:=sM) 1 .live (b3 6 0 2) (tX (b3 29 0 2)) (Bo (rfl:sM 29=some 6))) (jG (b6:=sM))) (qO (b6:=sM) (aaE .live 2 aT) (mX er)) (eX 1 .live (tX I)) (aF 1 .live aD ([]:List Int)) (eX 1 .live (kS dT jV.toNat false)) (.bj (aF 1 .live ee qy) (VV aI) bu.1 (Int.le_refl jV) bu.2.1 bu.2.2 wx L7 (.bj L8 (eX 1 .live (kS I jV.toNat 0)) (aF 1 .live aD wu) (e7 Cj 7 6 0 2 rfl aW.1) (fb Cj 2 er aW.2.1) (aF 1 .live aD aW.2.2) (aF 1 .live ee qy) (k5 jV.toNat (0:Int)) (.bj (VW bn) (gS zF 6 [rf] [zE] rfl) (gT 6 [zE]) (e7 zF 2 7 0 2 rfl aW.1) (gT 1 (aW.1.map (b3 7 0 2))) (fb zF 2 er aW.2.1) (rm 2 aT aW.2.1) (eI 1 aD aW.2.2) (.bj (eI 1 ee bI.2) (eI 1 aD bI.1) (gS zG 6 [sN] [re] rfl) (gT 6 [re]) (e7 zG 7 2 0 2 rfl aW.1) (gT 1 (aW.1.map (b3 2 0 2))) (fb zG 2 er bk.2.2.2.1) (rm 2 aT bk.2.2.2.1) (.bj (eI 1 aD bk.2.2.2.2.1) (eI 1 ee bk.2.2.2.2.2) (eI 1 aD bI.1) (Hh bk cV) wx L7 L8 (aF 1 .live aD bk.2.2.2.2.1) (.b2 (e7 Ck 7 7 0 2 rfl aW.1) (fb Ck 2 er bk.2.2.2.1) (aF 1 .live ee bk.2.2.2.2.2))))))))):c1 _);
  (by
  rcases cI with p1|p1
  ·exact (.aw fun fJ gm =>
  .aw fun dy gG =>
  .ret (let aR:=d5 bY cg 1 0 0 cf.length 2 0 0 d1.length 3 0 0 dh.length;let b7:=de 2 aT dy.2.2.2.1;let cC:=U (cg+bY);let bb:=e4 1 0 0 dy.2.2.1.length dy.1 dy.2.1 3 0 0 dy.2.2.2.2.length cC 4 0 0 fJ.length;let en:=e4 1 0 0 aW.1.length bk.2.1 bk.2.2.1 3 0 0 bk.2.2.2.2.1.length cC 4 0 0 fJ.length;let gf:=e4 5 0 0 aW.1.length bk.2.1 bk.2.2.1 7 0 0 bk.2.2.2.2.1.length cC 8 0 0 fJ.length;let hc:=e4 5 0 0 dy.2.2.1.length dy.1 dy.2.1 7 0 0 dy.2.2.2.2.length cC 8 0 0 fJ.length;let fh:=dd [0,1,2,3,4];let hO:=ke [4,5,6,7,8];let iN:=hK [4,5,6,7,8];let kJ:=dd [0,1,2,3,4,5,6,7,8];let kK:=av 1 (b3 6 0 2) dy.2.2.1;let ng:=av 1 (b3 4 4 2) dy.2.2.1;let nh:=aF 1 .live aD cf;let l7:=aF 1 .live aD d1;let p3:=aF 1 .live aD dh;let n9:=de 2 aT bk.2.2.2.1;hE (t1.append [(Di cC ((bk.2.2.2.2.1.length:Nat):Int) bY cg cf d1 dh bk.2.1 bk.2.2.1 cC bk.2.2.2.2.1 aW.1 bk.2.2.2.1 bk.2.2.2.2.2 (.inl p1)).gp,(ad 6),.bp [0,1,2,3,4,5,6,7,8] [.box [.id,.id,.id,.id,.id],.pure,.pure,.pure,.box [.id,.id,.id,.id,.id,.id],.bw (av 1 (b3 6 0 2) aW.1),.bw n9,.pure,.pure] (bO [0,5,181,182]),(Ik ((bk.2.2.2.2.2.length:Nat):Int) bY cg cf d1 dh bk.2.1 bk.2.2.1 cC aW.1 bk.2.2.2.1 bk.2.2.2.2.1 fJ).gp,.aG (ae 5 (ah (.call {aM:=(lh [4,5,6,7,8]),cr:=[.bw [ab.mk 6 [en] .live],.bw (av 1 (b3 2 0 2) aW.1),.bw n9,.pure,.pure],ac:=[ii,ii],r:= .df [],dj:=[[ab.mk 6 [bb] .live],(av 1 (b3 2 0 2) dy.2.2.1),b7,(av 1 I dy.2.2.2.2),(av 1 dT fJ)],eh:=ii,e1:=[.bw [ab.mk 6 [hc] .live],.bw kK,.bw b7,.pure,.pure],dv:=[4,5,6,7,8],dq:=false}) [])),(ad 3),.Ch [{du:=some (0,0)},{du:=some (1,0)},{du:=some (2,0)},{du:=some (3,0)},{bo:=[(4,0),(5,0),(7,0),(8,0)],du:=some (6,0)}] [([],some (.bw [ab.mk 5 [aR] .live])),([],some (.pure)),([],some (.pure)),([],some (.pure)),([.box [.at_ 4 1 dy.2.2.1.length,.id,.id,.at_ 4 2 dy.2.2.2.2.length,.id,.at_ 4 3 fJ.length],.rx ng,.pure,.pure],some (.rx b7))] [(2,.bN (.cj (.at_ 4 0 0))),(3,ii)]]) [0,1,2,3,4] [.bw [ab.mk 5 [aR] .live],.pure,.pure,.pure,.bw (ab.mk 6 [(e4 4 1 0 dy.2.2.1.length dy.1 dy.2.1 4 2 0 dy.2.2.2.2.length cC 4 3 0 fJ.length)] .live::ab.mk 1 (dy.2.2.1.map (b3 4 4 2)) .live::ab.mk 1 (dy.2.2.2.2.map I) .live::ab.mk 1 (fJ.map dT) .live::b7)] (a4.aZ (.bj (NO dg) nh l7 p3 (e7 kJ 6 6 0 2 rfl aW.1) (fb kJ 2 er bk.2.2.2.1) (aF 1 .live aD bk.2.2.2.2.1) (aF 1 .live ee bk.2.2.2.2.2) (.bj (VX gm) (gS hO 6 [en] [gf] rfl) (gT 6 [gf]) (e7 hO 2 6 0 2 rfl aW.1) (gT 1 (aW.1.map (b3 6 0 2))) (fb hO 2 er bk.2.2.2.1) (rm 2 aT bk.2.2.2.1) (eI 1 aD bk.2.2.2.2.1) (.bj (eI 1 ee fJ) (gS iN 6 [hc] [bb] rfl) (gT 6 [bb]) (e7 iN 6 2 0 2 rfl dy.2.2.1) (gT 1 (dy.2.2.1.map (b3 2 0 2))) (fb iN 2 er dy.2.2.2.1) (rm 2 aT dy.2.2.2.1) (eI 1 aD dy.2.2.2.2) (.bj (eI 1 ee fJ) (U8 dy gG) (gS (uy 0 [{du:=some (0,0)},{du:=some (1,0)},{du:=some (2,0)},{du:=some (3,0)},{bo:=[(4,0),(5,0),(7,0),(8,0)],du:=some (6,0)}]) 5 [aR] [aR] rfl) nh l7 p3 (rfl:(jN [{du:=some (0,0)},{du:=some (1,0)},{du:=some (2,0)},{du:=some (3,0)},{bo:=[(4,0),(5,0),(7,0),(8,0)],du:=some (6,0)}]) 4 1=some (5,0)) (rfl:dy.2.2.1.length=dy.2.2.1.length) (.bj (rfl:(jN [{du:=some (0,0)},{du:=some (1,0)},{du:=some (2,0)},{du:=some (3,0)},{bo:=[(4,0),(5,0),(7,0),(8,0)],du:=some (6,0)}]) 4 2=some (7,0)) (rfl:dy.2.2.2.2.length=dy.2.2.2.2.length) (rfl:(jN [{du:=some (0,0)},{du:=some (1,0)},{du:=some (2,0)},{du:=some (3,0)},{bo:=[(4,0),(5,0),(7,0),(8,0)],du:=some (6,0)}]) 4 3=some (8,0)) (rfl:fJ.length=fJ.length) (QO (KV (jX:=(b3 4 4 2)) (dV (b3 6 0 2) dy.2.2.1) (fun _=>rfl) (fun x=>(RV (fun _=>rfl)) x)) Ro:sI (jN [{du:=some (0,0)},{du:=some (1,0)},{du:=some (2,0)},{du:=some (3,0)},{bo:=[(4,0),(5,0),(7,0),(8,0)],du:=some (6,0)}]) kK ng) (aF 1 .live aD dy.2.2.2.2) (aF 1 .live ee fJ) (QQ (iR .live 2 aT dy.2.2.2.1) (fun _=>rfl) er:sI (jN [{du:=some (0,0)},{du:=some (1,0)},{du:=some (2,0)},{du:=some (3,0)},{bo:=[(4,0),(5,0),(7,0),(8,0)],du:=some (6,0)}]) b7 b7) (.fq (rfl:(jN [{du:=some (0,0)},{du:=some (1,0)},{du:=some (2,0)},{du:=some (3,0)},{bo:=[(4,0),(5,0),(7,0),(8,0)],du:=some (6,0)}]) 4 0=some (4,0)) (gS fh 5 [aR] [aR] rfl) nh l7 p3 (el (show ab.mk 6 [(e4 4 1 0 dy.2.2.1.length dy.1 dy.2.1 4 2 0 dy.2.2.2.2.length (U (cg+bY)) 4 3 0 fJ.length)] .live=ko (dd [0,1,2,3,4]) (ab.mk 6 [(e4 4 1 0 dy.2.2.1.length dy.1 dy.2.1 4 2 0 dy.2.2.2.2.length (U (cg+bY)) 4 3 0 fJ.length)] .live) from rfl) (el (Ga fh 4 4 4 2 rfl dy.2.2.1) (el (fu fh 1 fj dy.2.2.2.2) (el (fu fh 1 KW fJ) (fb fh 2 er dy.2.2.2.1)))))))))))) (.comp [.cj .id,.cj .id])))
  ·exact (.ret (let ni:=d5 bY cg 1 0 0 cf.length 2 0 0 d1.length 3 0 0 dh.length;hE (t1.append [(Di (U (cg+bY)) ((bk.2.2.2.2.1.length:Nat):Int) bY cg cf d1 dh bk.2.1 bk.2.2.1 (U (cg+bY)) bk.2.2.2.2.1 aW.1 bk.2.2.2.1 bk.2.2.2.2.2 (.inr p1)).gp]) [0,1,2,3] [.bw [ab.mk 5 [ni] .live],.pure,.pure,.pure] (a4.aZ (.ej (NO dg) (gS (dd [0,1,2,3]) 5 [ni] [ni] rfl) (aF 1 .live aD cf) (aF 1 .live aD d1) (aF 1 .live aD dh)))))))
def o4 (aS:Int):Option (Option bF) :=
 oi aS >>= fun aq =>
 some (some (⟨aq,([1]:List Int)⟩:bF))
theorem sq {aS:Int}:b1 (o4 aS) (fun r=>Con bt 49 [.n .i64 aS] [] (dK 3 bh r) []):=by
 unfold o4
 exact .aw fun aq J =>
  .ret (bW [(ad 1),.aG (bQ 1 (bD 1 (.agg (aT aq)) false) 4)] (.ej (sl aq J) (lO (show [[.n .i64 (1:Int)]]=(([1]:List Int)).map I from rfl) (show 1=([1]:List Int).length from rfl)) (mN I 1) (e9 aD ([1]:List Int)) (kQ (kf (⟨aq,([1]:List Int)⟩:bF)):hl [[.b aq.cY,.isl 1 (aq.cB.map I),.isl 1 (([1]:List Int).map I)]])) (.bN (.tx [.id,.id,.gn (([1]:List Int).map I)])))
def H2:((List Int)×(List Int))→S:=fun (bf,bd)=>eV [(0,.isl 1 (bf.map I)),(1,.isl 1 (bd.map I))] []
def Il:(List Int)→e3
 | a=>⟨some 0,[(0,.isl 1 (a.map I))],[]⟩
def xJ (bf bd:List Int):Option (((List Int)×(List Int))⊕((List Int))) :=
 if (decide ((0:Int)<(len_ I bd)))=true then
  tc bf bd >>= fun bE =>
  some (.inl (bd,bE.2))
 else
  some (.inr bf)
def I7 (bf bd:List Int):Option ((List Int)):=iter (fun w:(List Int)×(List Int)=>xJ w.1 w.2) (bf,bd)
theorem Vf {bf bd:List Int}:b1 (xJ bf bd) (fA bt 19 0 94 [1,0,0,0] (H2 (bf,bd)) (H2) (Il)):=by
 unfold xJ
 exact .ite (fun o =>
  .aw fun bE ak =>
  .ret (bT [(ad 3),.aj true,.aG (bQ 2 (bD 2 (.df [.isl 1 (bE.1.map I),.isl 1 (bE.2.map I)]) false) 5),(ad 4),.bp [] [] (bO [0,1])] (.aH o (D0 bE ak))))
  (fun o =>
  .ret (bT [(ad 3),.aj false,.bp [] [] (bO [0])] (.az o)))
theorem VY {bf bd:List Int}{r} (h:I7 bf bd=some r):fB bt 19 0 94 [1,0,0,0] (H2) (Il) (bf,bd) r:=fD (fun _=>Vf) h
def yg (bf bd:List Int):Option (List Int) :=
 I7 bf bd >>= fun aq =>
 some aq
theorem Oc {bf bd:List Int}:b1 (yg bf bd) (fun r=>Con bt 94 [.isl 1 (bf.map I),.isl 1 (bd.map I)] [] (.isl 1 (r.map I)) []):=by
 unfold yg
 exact .aw fun aq J =>
  .ret (bW [(ad 1),.bp [] [] (bO [0,1]),(Il aq).gp,(ad 2)] (.az (VY J)))
def rz (rO:bg)(uv:List Int):Option (Option bF) :=
 if ((len_ I rO.cB) == (0:Int))=true then
  some (some (⟨(⟨false,([]:List Int)⟩:bg),([1]:List Int)⟩:bF))
 else
  yg rO.cB uv >>= fun bE =>
  qc bE ([1]:List Int) >>= fun aW =>
  if (aW == (0:Int))=true then
   some (some (⟨rO,uv⟩:bF))
  else
   tc rO.cB bE >>= fun bI =>
   tc uv bE >>= fun bk =>
   lu rO.cY bI.1 >>= fun cI =>
   some (some (⟨cI,bk.1⟩:bF))
theorem Jf {rO:bg}{uv:List Int}:b1 (rz rO uv) (fun r=>Con bt 90 [.agg (aT rO),.isl 1 (uv.map I)] [] (dK 3 bh r) []):=by
 unfold rz
 exact .ite (fun o =>
  .ret (bW [(ad 2),(ad 4),.aj true,(ad 4)] (.ej o (lO (show [[.n .i64 (1:Int)]]=(([1]:List Int)).map I from rfl) (show 1=([1]:List Int).length from rfl)) (mN I 1) (e9 aD ([1]:List Int)) (kQ (kf (⟨(⟨false,([]:List Int)⟩:bg),([1]:List Int)⟩:bF)):hl [[.b false,.isl 1 (([]:List Int).map I),.isl 1 (([1]:List Int).map I)]])) (.bN (.tx [.id,.fM 1,.gn (([1]:List Int).map I)]))))
  (fun o =>
  .aw fun bE ak =>
  .aw fun aW aI =>
  (let t1:List cK:=[(ad 2),(ad 4),.aj false,.aG (bQ 3 (bD 2 (.isl 1 (bE.map I)) false) 1),.aG (bQ 2 (.call {ac:=[ii,.bN (.cj (.gn (([1]:List Int).map I)))],r:= .n .i64 aW,dq:=true,dv:=[12]}) 1)];
  have a4:=((.fr o (Oc bE ak) (lO (show [[.n .i64 (1:Int)]]=(([1]:List Int)).map I from rfl) (show 1=([1]:List Int).length from rfl)) (mN I 1) (e9 aD ([1]:List Int)) (x1 aW aI) (cz.n .i64 aW)):c1 _);
  .ite (fun bu =>
  .ret (bW (t1.append [.aj true,(ad 5)]) (a4.aZ (.aH bu (kQ (kf (⟨rO,uv⟩:bF)):hl [[.b rO.cY,.isl 1 (rO.cB.map I),.isl 1 (uv.map I)]]))) (.bN (.tx [.id,.id,.id]))))
  (fun bu =>
  .aw fun bI bn =>
  .aw fun bk cV =>
  .aw fun cI dg =>
  .ret (bW (t1.append [.aj false,.aG (bQ 3 (bD 2 (.df [.isl 1 (bI.1.map I),.isl 1 (bI.2.map I)]) false) 5),.aG (bQ 2 (bD 2 (.df [.isl 1 (bk.1.map I),.isl 1 (bk.2.map I)]) false) 5),.aG (bQ 3 (bD 2 (.agg (aT cI)) false) 4)]) (a4.aZ (.ej bu (D0 bI bn) (D0 bk cV) (so cI dg) (kQ (kf (⟨cI,bk.1⟩:bF)):hl [[.b cI.cY,.isl 1 (cI.cB.map I),.isl 1 (bk.1.map I)]]))) (.bN (.tx [.id,.id,.id]))))))
def xX (ch eQ:Option bF):Option (Option bF) :=
 ch >>= fun eM =>
 eQ >>= fun mf =>
 o1 eM.qq mf.qq >>= fun ba =>
 qK eM.pQ mf.pQ >>= fun bI =>
 rz ba bI >>= fun bk =>
 some bk
theorem NJ {ch eQ:Option bF}:b1 (xX ch eQ) (fun r=>Con bt 81 [dK 3 bh ch,dK 3 bh eQ] [] (dK 3 bh r) []):=by
 unfold xX
 exact .aw fun eM J =>
  .aw fun mf ay =>
  .aw fun ba bu =>
  .aw fun bI bn =>
  .aw fun bk cV =>
  .ret (bW [(ad 1),.aG (ae 1 (ah (.eR 5 (.ef 3 (some (bh eM))) .cU) (ae 3 (ah (.eR 9 (.ef 3 (some (bh mf))) .cU) (ae 2 (ah (bD 2 (.agg (aT ba)) false) (ae 1 (ah (.eR 14 (.ef 3 (some (bh eM))) .cU) (ae 3 (ah (.eR 18 (.ef 3 (some (bh mf))) .cU) (ae 2 (ah (bD 2 (.isl 1 (bI.map I)) false) (ah (bD 2 (dK 3 bh bk) false) (ae 1 []))))))))))))))] (.fr (jo (sz:=3) (f:=bh) J) (jo (sz:=3) (f:=bh) ay) (u1 ba bu) (jo (sz:=3) (f:=bh) J) (jo (sz:=3) (f:=bh) ay) (DS bI bn) (Jf bk cV)))
def qG (ch:Option bF)(jm:List Int):Option bg :=
 ch >>= fun eM =>
 qK eM.qq.cB jm >>= fun a9 =>
 lu eM.qq.cY a9 >>= fun ba =>
 some ba
theorem Df {ch:Option bF}{jm:List Int}:b1 (qG ch jm) (fun r=>Con bt 72 [dK 3 bh ch,.isl 1 (jm.map I)] [] (.agg (aT r)) []):=by
 unfold qG
 exact .aw fun eM J =>
  .aw fun a9 ay =>
  .aw fun ba bu =>
  .ret (bW [(ad 1),.aG (ae 1 (ah (.eR 5 (.ef 3 (some (bh eM))) .cU) (ae 4 (ah (.eR 10 (.ef 3 (some (bh eM))) .cU) (ae 4 (ah (bD 2 (.isl 1 (a9.map I)) false) (ah (bD 2 (.agg (aT ba)) false) (ae 1 []))))))))] (.dn (jo (sz:=3) (f:=bh) J) (jo (sz:=3) (f:=bh) J) (DS a9 ay) (so ba bu)))
def x2 (ch eQ:Option bF):Option (Option bF) :=
 eQ >>= fun eM =>
 qG ch eM.pQ >>= fun a9 =>
 ch >>= fun me =>
 qG eQ me.pQ >>= fun bI =>
 ub a9 bI >>= fun bk =>
 qK me.pQ eM.pQ >>= fun cI =>
 rz bk cI >>= fun dp =>
 some dp
theorem NP {ch eQ:Option bF}:b1 (x2 ch eQ) (fun r=>Con bt 78 [dK 3 bh ch,dK 3 bh eQ] [] (dK 3 bh r) []):=by
 unfold x2
 exact .aw fun eM J =>
  .aw fun a9 ay =>
  .aw fun me bu =>
  .aw fun bI bn =>
  .aw fun bk cV =>
  .aw fun cI dg =>
  .aw fun dp eL =>
  .ret (bW [(ad 1),.aG (ae 2 (ah (.eR 6 (.ef 3 (some (bh eM))) .cU) (ae 2 (ah (bD 2 (.agg (aT a9)) false) (ae 2 (ah (.eR 12 (.ef 3 (some (bh me))) .cU) (ae 2 (ah (bD 2 (.agg (aT bI)) false) (ah (bD 2 (.agg (aT bk)) false) (ae 1 (ah (.eR 18 (.ef 3 (some (bh me))) .cU) (ae 3 (ah (.eR 22 (.ef 3 (some (bh eM))) .cU) (ae 2 (ah (bD 2 (.isl 1 (cI.map I)) false) (ah (bD 2 (dK 3 bh dp) false) (ae 1 [])))))))))))))))))] (.bj (jo (sz:=3) (f:=bh) J) (Df a9 ay) (jo (sz:=3) (f:=bh) bu) (Df bI bn) (NI bk cV) (jo (sz:=3) (f:=bh) bu) (jo (sz:=3) (f:=bh) J) (DS cI dg) (.az (Jf dp eL))))
end Go.Proofs.YtgfpnhmcmgnepaeGreat
namespace Go.Proofs.YtgfpnhmcmgnepaeGreat
set_option linter.unusedVariables false
set_option linter.unusedSimpArgs false
open Go Go.VL
def H3 (nU aK:Int)(ag aN ao:List Int)(eJ:Int)(cn:List ca):(Int×Bool×(List Int)×(List Int)×(List (List bg))×(List Int)×(List Bool))→S:=fun (k9,cT,cR,bB,eT,cp,eY)=>eV [(0,.ref 0 0 0 0),(5,.ref 4 0 0 0),(7,.bC 5 0 0 bB.length),(41,.n .i64 nU),(42,.n .i64 k9)] [[ab.mk 5 [(d5 aK nU 1 0 0 ag.length 2 0 0 aN.length 3 0 0 ao.length)] .live],(av 1 I ag),(av 1 I aN),(av 1 I ao),[ab.mk 6 [(e4 6 0 0 cn.length cT cR 8 0 0 cp.length eJ 9 0 0 eY.length)] .live],(av 1 I bB),(av 1 (b3 7 0 2) cn),(de 2 aT eT),(av 1 I cp),(av 1 dT eY)]
def Im (nU aK:Int)(ag aN ao:List Int)(eJ:Int)(cn:List ca):(Bool×(List Int)×(List (List bg))×(List Int)×(List Bool))→e3
 | a=>⟨some 0,[(0,.ref 0 0 0 0),(5,.ref 4 0 0 0)],[[ab.mk 5 [(d5 aK nU 1 0 0 ag.length 2 0 0 aN.length 3 0 0 ao.length)] .live],(av 1 I ag),(av 1 I aN),(av 1 I ao),[ab.mk 6 [(e4 5 0 0 cn.length a.1 a.2.1 7 0 0 a.2.2.2.1.length eJ 8 0 0 a.2.2.2.2.length)] .live],(av 1 (b3 6 0 2) cn),(de 2 aT a.2.2.1),(av 1 I a.2.2.2.1),(av 1 dT a.2.2.2.2)]⟩
def u2 (nU aK:Int)(ag aN ao:List Int)(eJ:Int)(cn:List ca)(k9:Int)(cT:Bool)(cR bB:List Int)(eT:List (List bg))(cp:List Int)(eY:List Bool):Option ((Int×Bool×(List Int)×(List Int)×(List (List bg))×(List Int)×(List Bool))⊕(Bool×(List Int)×(List (List bg))×(List Int)×(List Bool))) :=
 if (decide (k9<nU))=true then
  if 0≤k9∧k9<(bB.length:Nat) then
  if (0+k9.toNat)<(List.replicate bB.length 0:List Int).length then
  sW cT cR eJ cn eT cp eY ((List.replicate bB.length 0:List Int).set (0+k9.toNat) (-1)) >>= fun aW =>
  some (.inl (U (k9+(1:Int)),aW.2.1,aW.2.2.1,((List.replicate bB.length 0:List Int).set (0+k9.toNat) (-1)),aW.2.2.2.1,aW.2.2.2.2.1,aW.2.2.2.2.2))
  else none
  else none
 else
  some (.inr (cT,cR,eT,cp,eY))
def DF (nU aK:Int)(ag aN ao:List Int)(eJ:Int)(cn:List ca)(k9:Int)(cT:Bool)(cR bB:List Int)(eT:List (List bg))(cp:List Int)(eY:List Bool):Option (Bool×(List Int)×(List (List bg))×(List Int)×(List Bool)):=iter (fun w:Int×Bool×(List Int)×(List Int)×(List (List bg))×(List Int)×(List Bool)=>u2 nU aK ag aN ao eJ cn w.1 w.2.1 w.2.2.1 w.2.2.2.1 w.2.2.2.2.1 w.2.2.2.2.2.1 w.2.2.2.2.2.2) (k9,cT,cR,bB,eT,cp,eY)
theorem Vg {nU aK:Int}{ag aN ao:List Int}{eJ:Int}{cn:List ca}{k9:Int}{cT:Bool}{cR bB:List Int}{eT:List (List bg)}{cp:List Int}{eY:List Bool}:b1 (u2 nU aK ag aN ao eJ cn k9 cT cR bB eT cp eY) (fA bt 124 4 65 [1,1,1,1,1,1,0,1,0,0] (H3 nU aK ag aN ao eJ cn (k9,cT,cR,bB,eT,cp,eY)) (H3 nU aK ag aN ao eJ cn) (Im nU aK ag aN ao eJ cn)):=by
 unfold u2
 exact .ite (fun o =>
  .bq fun J =>
  .bq fun ak =>
  .aw fun aW aI =>
  .ret (let aR:=e4 1 0 0 cn.length aW.2.1 aW.2.2.1 3 0 0 aW.2.2.2.2.1.length eJ 4 0 0 aW.2.2.2.2.2.length;let bb:=(List.replicate bB.length 0:List Int);let b7:=e4 6 0 0 cn.length aW.2.1 aW.2.2.1 8 0 0 aW.2.2.2.2.1.length eJ 9 0 0 aW.2.2.2.2.2.length;let cC:=e4 1 0 0 cn.length cT cR 3 0 0 cp.length eJ 4 0 0 eY.length;let en:=e4 6 0 0 cn.length cT cR 8 0 0 cp.length eJ 9 0 0 eY.length;let gf:=de 2 aT aW.2.2.2.1;let hc:=ke [4,6,7,8,9,5];let fh:=hK [4,6,7,8,9,5];let hO:=(gN (k5 bB.length (0:Int)) (0+k9.toNat) (-1));let iN:=dd [0,1,2,3,4,5,6,7,8,9];let kJ:=av 1 I (bb.set (0+k9.toNat) (-1));let kK:=eI 1 aD (bb.set (0+k9.toNat) (-1));bT [(ad 1),.aj true,(ad 2),(ad 2),.aG (ae 3 (ah .cU [])),.aG (ae 2 (ah (.call {aM:=(lh [4,6,7,8,9,5]),cr:=[.bw [ab.mk 6 [cC] .live],.bw (av 1 (b3 2 0 2) cn),.bw (de 2 aT eT),.pure,.pure,.d3 kJ],ac:=[ii,.bN (.cj (.len ((bb.set (0+k9.toNat) (-1)).length)))],r:= .b aW.1,dj:=[[ab.mk 6 [aR] .live],(av 1 (b3 2 0 2) cn),gf,(av 1 I aW.2.2.2.2.1),(av 1 dT aW.2.2.2.2.2),kJ],eh:=ii,e1:=[.bw [ab.mk 6 [b7] .live],.bw (av 1 (b3 7 0 2) cn),.bw gf,.pure,.pure,.pure],dv:=[4,5,6,7,8,9],dq:=false}) [])),(ad 2),.bp [0,1,2,3,4,5,6,7,8,9] [.box [.id,.id,.id,.id,.id],.pure,.pure,.pure,.box [.id,.id,.id,.id,.id,.id],.pure,.bw (av 1 (b3 7 0 2) cn),.bw gf,.pure,.pure] [(0,ii),(5,ii),(7,gQ ((bb.set (0+k9.toNat) (-1)).length)),(41,ii),(42,ii)]] (.bj o (aaH (dV I bB) (ft bB)) J.1 J.2 (Be (kS I bB.length 0) ak) (gL 1) hO (gS hc 6 [cC] [en] rfl) (.bj (gT 6 [en]) (e7 hc 2 7 0 2 rfl cn) (gT 1 (cn.map (b3 7 0 2))) (fb hc 2 er eT) (rm 2 aT eT) (eI 1 aD cp) (eI 1 ee eY) (eX 1 .live (fP (kS I bB.length 0) (0+k9.toNat) (-1))) (.bj kK (gS fh 6 [b7] [aR] rfl) (gT 6 [aR]) (e7 fh 7 2 0 2 rfl cn) (gT 1 (cn.map (b3 2 0 2))) (fb fh 2 er aW.2.2.2.1) (rm 2 aT aW.2.2.2.1) (eI 1 aD aW.2.2.2.2.1) (.bj (eI 1 ee aW.2.2.2.2.2) kK (Hh aW aI) (aF 1 .live aD ag) (aF 1 .live aD aN) (aF 1 .live aD ao) (aF 1 .live aD (bb.set (0+k9.toNat) (-1))) (e7 iN 7 7 0 2 rfl cn) (.dn (fb iN 2 er aW.2.2.2.1) (aF 1 .live aD aW.2.2.2.2.1) (aF 1 .live ee aW.2.2.2.2.2) hO)))))))
  (fun o =>
  .ret (let ng:=dd [0,1,2,3,4,6,7,8,9];bT [(ad 1),.aj false,.bp [0,1,2,3,4,6,7,8,9] [.box [.id,.id,.id,.id,.id],.pure,.pure,.pure,.box [.id,.id,.id,.id,.id,.id],.bw (av 1 (b3 6 0 2) cn),.bw (de 2 aT eT),.pure,.pure] (bO [0,5])] (.hB o (aF 1 .live aD ag) (aF 1 .live aD aN) (aF 1 .live aD ao) (e7 ng 6 7 0 2 rfl cn) (fb ng 2 er eT) (aF 1 .live aD cp) (aF 1 .live ee eY))))
theorem VZ {nU aK:Int}{ag aN ao:List Int}{eJ:Int}{cn:List ca}{k9:Int}{cT:Bool}{cR bB:List Int}{eT:List (List bg)}{cp:List Int}{eY:List Bool}{r} (h:DF nU aK ag aN ao eJ cn k9 cT cR bB eT cp eY=some r):fB bt 124 4 65 [1,1,1,1,1,1,0,1,0,0] (H3 nU aK ag aN ao eJ cn) (Im nU aK ag aN ao eJ cn) (k9,cT,cR,bB,eT,cp,eY) r:=fD (fun _=>Vg) h
def H4 (pk aK aE:Int)(ag aN ao:List Int)(cT:Bool)(cR:List Int)(eJ:Int)(cn:List ca)(eT:List (List bg))(cp:List Int)(eY:List Bool):(Int×(List (Option bF)))→S:=fun (mq,bB)=>eV [(0,.ref 0 0 0 0),(5,.ref 4 0 0 0),(9,.bC 5 0 0 bB.length),(59,.n .i64 pk),(60,.n .i64 mq)] [[ab.mk 5 [(d5 aK aE 1 0 0 ag.length 2 0 0 aN.length 3 0 0 ao.length)] .live],(av 1 I ag),(av 1 I aN),(av 1 I ao),[ab.mk 6 [(e4 6 0 0 cn.length cT cR 8 0 0 cp.length eJ 9 0 0 eY.length)] .live],(av 1 (c0 3 bh) bB),(av 1 (b3 7 0 2) cn),(de 2 aT eT),(av 1 I cp),(av 1 dT eY)]
def Io (pk aK aE:Int)(ag aN ao:List Int)(cT:Bool)(cR:List Int)(eJ:Int)(cn:List ca)(eT:List (List bg))(cp:List Int)(eY:List Bool):(List (Option bF))→e3
 | a=>⟨some 2,[(0,.ref 0 0 0 0),(5,.ref 4 0 0 0),(9,.bC 5 0 0 a.length)],[[ab.mk 5 [(d5 aK aE 1 0 0 ag.length 2 0 0 aN.length 3 0 0 ao.length)] .live],(av 1 I ag),(av 1 I aN),(av 1 I ao),[ab.mk 6 [(e4 6 0 0 cn.length cT cR 8 0 0 cp.length eJ 9 0 0 eY.length)] .live],(av 1 (c0 3 bh) a),(av 1 (b3 7 0 2) cn),(de 2 aT eT),(av 1 I cp),(av 1 dT eY)]⟩
def xK (pk aK aE:Int)(ag aN ao:List Int)(cT:Bool)(cR:List Int)(eJ:Int)(cn:List ca)(eT:List (List bg))(cp:List Int)(eY:List Bool)(mq:Int)(bB:List (Option bF)):Option ((Int×(List (Option bF)))⊕((List (Option bF)))) :=
 if (decide (mq<pk))=true then
  o4 0 >>= fun bE =>
  if 0≤mq∧mq<(bB.length:Nat) then
  if (0+mq.toNat)<bB.length then
  some (.inl (U (mq+(1:Int)),bB.set (0+mq.toNat) bE))
  else none
  else none
 else
  some (.inr bB)
def DG (pk aK aE:Int)(ag aN ao:List Int)(cT:Bool)(cR:List Int)(eJ:Int)(cn:List ca)(eT:List (List bg))(cp:List Int)(eY:List Bool)(mq:Int)(bB:List (Option bF)):Option ((List (Option bF))):=iter (fun w:Int×(List (Option bF))=>xK pk aK aE ag aN ao cT cR eJ cn eT cp eY w.1 w.2) (mq,bB)
theorem Vh {pk aK aE:Int}{ag aN ao:List Int}{cT:Bool}{cR:List Int}{eJ:Int}{cn:List ca}{eT:List (List bg)}{cp:List Int}{eY:List Bool}{mq:Int}{bB:List (Option bF)}:b1 (xK pk aK aE ag aN ao cT cR eJ cn eT cp eY mq bB) (fA bt 124 4 65 [1,1,1,1,1,1,1,1,0,1,0,0] (H4 pk aK aE ag aN ao cT cR eJ cn eT cp eY (mq,bB)) (H4 pk aK aE ag aN ao cT cR eJ cn eT cp eY) (Io pk aK aE ag aN ao cT cR eJ cn eT cp eY)):=by
 unfold xK
 exact .ite (fun o =>
  .aw fun bE ak =>
  .bq fun ay =>
  .bq fun aI =>
  .ret (let aR:=dd [0,1,2,3,4,5,6,7,8,9];bT [(ad 1),.aj true,(ad 2),.aG (ae 2 (ah (bD 1 (dK 3 bh bE) false) (ae 1 (ah .cU [])))),(ad 2),.bp [0,1,2,3,4,5,6,7,8,9] [.box [.id,.id,.id,.id,.id],.pure,.pure,.pure,.box [.id,.id,.id,.id,.id,.id],.d3 (av 1 (c0 3 bh) (bB.set (0+mq.toNat) bE)),.bw (av 1 (b3 7 0 2) cn),.bw (de 2 aT eT),.pure,.pure] [(0,ii),(5,ii),(9,gQ ((bB.set (0+mq.toNat) bE).length)),(59,ii),(60,ii)]] (.bj o (sq bE ak) ay.1 ay.2 (hk (c0 3 bh) aI) (gL 1) (aF 1 .live aD ag) (aF 1 .live aD aN) (.hB (aF 1 .live aD ao) (eX 1 .live (fP (dV (c0 3 bh) bB) (0+mq.toNat) bE)) (aF 1 .live (lP (sz:=3) kf) (bB.set (0+mq.toNat) bE)) (e7 aR 7 7 0 2 rfl cn) (fb aR 2 er eT) (aF 1 .live aD cp) (aF 1 .live ee eY) (gN (ft bB) (0+mq.toNat) bE)))))
  (fun o =>
  .ret (let bb:=dd [0,1,2,3,4,5,6,7,8,9];bT [(ad 1),.aj false,.bp [0,1,2,3,4,5,6,7,8,9] [.box [.id,.id,.id,.id,.id],.pure,.pure,.pure,.box [.id,.id,.id,.id,.id,.id],.pure,.bw (av 1 (b3 7 0 2) cn),.bw (de 2 aT eT),.pure,.pure] (bO [0,5,9])] (.bj o (aF 1 .live aD ag) (aF 1 .live aD aN) (aF 1 .live aD ao) (aF 1 .live (lP (sz:=3) kf) bB) (e7 bb 7 7 0 2 rfl cn) (fb bb 2 er eT) (aF 1 .live aD cp) (.az (aF 1 .live ee eY)))))
theorem V0 {pk aK aE:Int}{ag aN ao:List Int}{cT:Bool}{cR:List Int}{eJ:Int}{cn:List ca}{eT:List (List bg)}{cp:List Int}{eY:List Bool}{mq:Int}{bB:List (Option bF)}{r} (h:DG pk aK aE ag aN ao cT cR eJ cn eT cp eY mq bB=some r):fB bt 124 4 65 [1,1,1,1,1,1,1,1,0,1,0,0] (H4 pk aK aE ag aN ao cT cR eJ cn eT cp eY) (Io pk aK aE ag aN ao cT cR eJ cn eT cp eY) (mq,bB) r:=fD (fun _=>Vh) h
def H5 (pn aK aE:Int)(ag aN ao:List Int)(cT:Bool)(cR:List Int)(eJ:Int)(cn:List Int)(dF:List ca)(nx:List (List bg))(eY:List Bool):(Int×(List (Option bF)))→S:=fun (ny,bB)=>eV [(0,.ref 0 0 0 0),(5,.ref 4 0 0 0),(9,.bC 5 0 0 bB.length),(71,.bC 6 0 0 cn.length),(72,.n .i64 pn),(73,.n .i64 ny)] [[ab.mk 5 [(d5 aK aE 1 0 0 ag.length 2 0 0 aN.length 3 0 0 ao.length)] .live],(av 1 I ag),(av 1 I aN),(av 1 I ao),[ab.mk 6 [(e4 7 0 0 dF.length cT cR 6 0 0 cn.length eJ 9 0 0 eY.length)] .live],(av 1 (c0 3 bh) bB),(av 1 I cn),(av 1 (b3 8 0 2) dF),(de 2 aT nx),(av 1 dT eY)]
def Ip (pn aK aE:Int)(ag aN ao:List Int)(cT:Bool)(cR:List Int)(eJ:Int)(cn:List Int)(dF:List ca)(nx:List (List bg))(eY:List Bool):(List (Option bF))→e3
 | a=>⟨some 4,[(0,.ref 0 0 0 0),(9,.bC 4 0 0 a.length)],[[ab.mk 5 [(d5 aK aE 1 0 0 ag.length 2 0 0 aN.length 3 0 0 ao.length)] .live],(av 1 I ag),(av 1 I aN),(av 1 I ao),(av 1 (c0 3 bh) a)]⟩
def xL (pn aK aE:Int)(ag aN ao:List Int)(cT:Bool)(cR:List Int)(eJ:Int)(cn:List Int)(dF:List ca)(nx:List (List bg))(eY:List Bool)(ny:Int)(bB:List (Option bF)):Option ((Int×(List (Option bF)))⊕((List (Option bF)))) :=
 if (decide (ny<pn))=true then
  if 0≤ny∧ny<(cn.length:Nat) then
  cn[(0+ny.toNat)]? >>= fun aQ =>
  if 0≤ny∧ny<(dF.length:Nat) then
  dF[(0+ny.toNat)]? >>= fun cP =>
  cP >>= fun rn =>
  nx[rn.1]? >>= fun FM =>
  if 0≤eJ∧eJ<(rn.2:Nat) then
  FM[(0+eJ.toNat)]? >>= fun nf =>
  rz nf cR >>= fun dS =>
  if 0≤aQ∧aQ<(bB.length:Nat) then
  if (0+aQ.toNat)<bB.length then
  some (.inl (U (ny+(1:Int)),bB.set (0+aQ.toNat) dS))
  else none
  else none
  else none
  else none
  else none
 else
  some (.inr bB)
def DH (pn aK aE:Int)(ag aN ao:List Int)(cT:Bool)(cR:List Int)(eJ:Int)(cn:List Int)(dF:List ca)(nx:List (List bg))(eY:List Bool)(ny:Int)(bB:List (Option bF)):Option ((List (Option bF))):=iter (fun w:Int×(List (Option bF))=>xL pn aK aE ag aN ao cT cR eJ cn dF nx eY w.1 w.2) (ny,bB)
theorem Vi {pn aK aE:Int}{ag aN ao:List Int}{cT:Bool}{cR:List Int}{eJ:Int}{cn:List Int}{dF:List ca}{nx:List (List bg)}{eY:List Bool}{ny:Int}{bB:List (Option bF)}:b1 (xL pn aK aE ag aN ao cT cR eJ cn dF nx eY ny bB) (fA bt 124 4 65 [1,1,1,1,1,1,1,1,1,0,1,0,0] (H5 pn aK aE ag aN ao cT cR eJ cn dF nx eY (ny,bB)) (H5 pn aK aE ag aN ao cT cR eJ cn dF nx eY) (Ip pn aK aE ag aN ao cT cR eJ cn dF nx eY)):=by
 unfold xL
 exact .ite (fun o =>
  .bq fun J =>
  .aw fun aQ ay =>
  .bq fun aI =>
  .aw fun cP bx =>
  .aw fun rn cd =>
  .aw fun FM cZ =>
  .bq fun dg =>
  .aw fun nf eL =>
  .aw fun dS jq =>
  .bq fun gG =>
  .bq fun jT =>
  .ret (let aR:=dd [0,1,2,3,4,5,6,7,8,9];let bb:=lT (iR .live 2 aT nx) ls cZ;bT [(ad 1),.aj true,.aG (bQ 2 (.cA (I aQ)) 2),.aG (ae 8 (ah (.cA ((b3 8 0 2) cP)) (ae 4 (ah (.eR 86 (.bC 8 (rn.1+0) 0 rn.2) (.hv (ab.mk 2 (FM.map aT) .live) [])) (ah (.hv (ab.mk 2 (FM.map aT) .live) (aT nf)) (ae 5 (ah (bD 2 (dK 3 bh dS) false) (ae 1 (ah .cU []))))))))),(ad 2),.bp [0,1,2,3,4,5,6,7,8,9] [.box [.id,.id,.id,.id,.id],.pure,.pure,.pure,.box [.id,.id,.id,.id,.id,.id],.d3 (av 1 (c0 3 bh) (bB.set (0+aQ.toNat) dS)),.pure,.bw (av 1 (b3 8 0 2) dF),.bw (de 2 aT nx),.pure] [(0,ii),(5,ii),(9,gQ ((bB.set (0+aQ.toNat) dS).length)),(71,ii),(72,ii),(73,ii)]] (.bj o J.1 J.2 (cD I ay) aI.1 aI.2 (cD (b3 8 0 2) bx) (o5 (et:=8) (c:=0) (sz:=2) cd) (.bj bb dg.1 dg.2 bb (cD aT eL) (Jf dS jq) gG.1 gG.2 (.bj (hk (c0 3 bh) jT) (gL 1) (aF 1 .live aD ag) (aF 1 .live aD aN) (aF 1 .live aD ao) (eX 1 .live (fP (dV (c0 3 bh) bB) (0+aQ.toNat) dS)) (aF 1 .live (lP (sz:=3) kf) (bB.set (0+aQ.toNat) dS)) (aF 1 .live aD cn) (.dn (e7 aR 8 8 0 2 rfl dF) (fb aR 2 er nx) (aF 1 .live ee eY) (gN (ft bB) (0+aQ.toNat) dS)))))))
  (fun o =>
  .ret (bT [(ad 1),.aj false,.bp [0,1,2,3,5] [.box [.id,.id,.id,.id,.id],.pure,.pure,.pure,.pure] (bO [0,9])] (.ej o (aF 1 .live aD ag) (aF 1 .live aD aN) (aF 1 .live aD ao) (aF 1 .live (lP (sz:=3) kf) bB))))
theorem V1 {pn aK aE:Int}{ag aN ao:List Int}{cT:Bool}{cR:List Int}{eJ:Int}{cn:List Int}{dF:List ca}{nx:List (List bg)}{eY:List Bool}{ny:Int}{bB:List (Option bF)}{r} (h:DH pn aK aE ag aN ao cT cR eJ cn dF nx eY ny bB=some r):fB bt 124 4 65 [1,1,1,1,1,1,1,1,1,0,1,0,0] (H5 pn aK aE ag aN ao cT cR eJ cn dF nx eY) (Ip pn aK aE ag aN ao cT cR eJ cn dF nx eY) (ny,bB) r:=fD (fun _=>Vi) h
def H6 (pe aK aE:Int)(ag aN ao:List Int)(a7:List (Option bF)):((Option bF)×Int)→S:=fun (i1,nw)=>eV [(0,.ref 0 0 0 0),(9,.bC 4 0 0 a7.length),(13,dK 3 bh i1),(102,.bC 4 0 0 a7.length),(103,.n .i64 pe),(104,.n .i64 nw)] [[ab.mk 5 [(d5 aK aE 1 0 0 ag.length 2 0 0 aN.length 3 0 0 ao.length)] .live],(av 1 I ag),(av 1 I aN),(av 1 I ao),(av 1 (c0 3 bh) a7)]
def Iq (pe aK aE:Int)(ag aN ao:List Int)(a7:List (Option bF)):(Option bF)→e3
 | a=>⟨some 6,[(9,.bC 4 0 0 a7.length),(13,dK 3 bh a)],[[ab.mk 5 [(d5 aK aE 1 0 0 ag.length 2 0 0 aN.length 3 0 0 ao.length)] .live],(av 1 I ag),(av 1 I aN),(av 1 I ao),(av 1 (c0 3 bh) a7)]⟩
def xM (pe aK aE:Int)(ag aN ao:List Int)(a7:List (Option bF))(i1:Option bF)(nw:Int):Option (((Option bF)×Int)⊕((Option bF))) :=
 if (decide (nw<pe))=true then
  if 0≤nw∧nw<(a7.length:Nat) then
  a7[(0+nw.toNat)]? >>= fun aQ =>
  if 0≤nw∧nw<(ao.length:Nat) then
  ao[(0+nw.toNat)]? >>= fun cP =>
  o4 cP >>= fun dW =>
  xX aQ dW >>= fun dc =>
  x2 i1 dc >>= fun eW =>
  some (.inl (eW,U (nw+(1:Int))))
  else none
  else none
 else
  some (.inr i1)
def DI (pe aK aE:Int)(ag aN ao:List Int)(a7:List (Option bF))(i1:Option bF)(nw:Int):Option ((Option bF)):=iter (fun w:(Option bF)×Int=>xM pe aK aE ag aN ao a7 w.1 w.2) (i1,nw)
theorem Vj {pe aK aE:Int}{ag aN ao:List Int}{a7:List (Option bF)}{i1:Option bF}{nw:Int}:b1 (xM pe aK aE ag aN ao a7 i1 nw) (fA bt 124 4 65 [1,1,1,1,1,1,1,1,1,1,1,0,1,0,0] (H6 pe aK aE ag aN ao a7 (i1,nw)) (H6 pe aK aE ag aN ao a7) (Iq pe aK aE ag aN ao a7)):=by
 unfold xM
 exact .ite (fun o =>
  .bq fun J =>
  .aw fun aQ ay =>
  .bq fun aI =>
  .aw fun cP bx =>
  .aw fun dW cd =>
  .aw fun dc cZ =>
  .aw fun eW ec =>
  .ret (bT [(ad 1),.aj true,.aG (bQ 2 (.cA ((c0 3 bh) aQ)) 2),.aG (ae 8 (ah (.cA (I cP)) (ah (bD 1 (dK 3 bh dW) false) (ah (bD 2 (dK 3 bh dc) false) (ah (bD 2 (dK 3 bh eW) false) (ae 1 [])))))),(ad 2),.bp [0,1,2,3,4] [.box [.id,.id,.id,.id,.id],.pure,.pure,.pure,.pure] (bO [0,9,13,102,103,104])] (.bj o J.1 J.2 (cD (c0 3 bh) ay) aI.1 aI.2 (cD I bx) (sq dW cd) (.fq (NJ dc cZ) (NP eW ec) (aF 1 .live aD ag) (aF 1 .live aD aN) (aF 1 .live aD ao) (aF 1 .live (lP (sz:=3) kf) a7)))))
  (fun o =>
  .ret (bT [(ad 1),.aj false,.bp [0,1,2,3,4] [.box [.id,.id,.id,.id,.id],.pure,.pure,.pure,.pure] (bO [9,13])] (.ej o (aF 1 .live aD ag) (aF 1 .live aD aN) (aF 1 .live aD ao) (aF 1 .live (lP (sz:=3) kf) a7))))
theorem V2 {pe aK aE:Int}{ag aN ao:List Int}{a7:List (Option bF)}{i1:Option bF}{nw:Int}{r} (h:DI pe aK aE ag aN ao a7 i1 nw=some r):fB bt 124 4 65 [1,1,1,1,1,1,1,1,1,1,1,0,1,0,0] (H6 pe aK aE ag aN ao a7) (Iq pe aK aE ag aN ao a7) (i1,nw) r:=fD (fun _=>Vj) h
def s8 (bY cg:Int)(cf d1 dh:List Int):Option (Int×(List (Option bF))×(Option bF)) :=
 Aq bY cg cf d1 dh >>= fun aq =>
 match aq with
 | .inl bK=>(if 0≤bK.2.2.1∧(8:Int)*bK.2.2.1≤281474976710656∧bK.2.2.1<9223372036854775808 then
  if dh.length≤bK.2.2.1.toNat then
  sW bK.1 bK.2.1 bK.2.2.1 bK.2.2.2.1 bK.2.2.2.2.2.2 bK.2.2.2.2.1 bK.2.2.2.2.2.1 (dh++(List.replicate bK.2.2.1.toNat 0:List Int).drop dh.length) >>= fun a5 =>
  if a5.1=true then
   DF cg bY cf d1 dh bK.2.2.1 bK.2.2.2.1 0 a5.2.1 a5.2.2.1 (dh++(List.replicate bK.2.2.1.toNat 0:List Int).drop dh.length) a5.2.2.2.1 a5.2.2.2.2.1 a5.2.2.2.2.2 >>= fun bk =>
   if 0≤cg∧(8:Int)*cg≤281474976710656∧cg<9223372036854775808 then
   DG ((cg.toNat:Nat):Int) bY cg cf d1 dh bk.1 bk.2.1 bK.2.2.1 bK.2.2.2.1 bk.2.2.1 bk.2.2.2.1 bk.2.2.2.2 0 (List.replicate cg.toNat (none:(Option bF)):List (Option bF)) >>= fun eW =>
   DH ((bk.2.2.2.1.length:Nat):Int) bY cg cf d1 dh bk.1 bk.2.1 bK.2.2.1 bk.2.2.2.1 bK.2.2.2.1 bk.2.2.1 bk.2.2.2.2 0 eW >>= fun fJ =>
   o4 0 >>= fun dy =>
   DI ((fJ.length:Nat):Int) bY cg cf d1 dh fJ dy 0 >>= fun d6 =>
   some (0,fJ,d6)
   else none
  else
   some (3,([]:List (Option bF)),(none:(Option bF)))
  else none
  else none)
 | .inr bK=>(some (2,([]:List (Option bF)),(none:(Option bF))))
set_option maxHeartbeats 4000000 in
theorem DJ {bY cg:Int}{cf d1 dh:List Int}:b1 (s8 bY cg cf d1 dh) (fun a=>Con bt 65 [.ref 0 0 0 0] [[ab.mk 5 [(d5 bY cg 1 0 0 cf.length 2 0 0 d1.length 3 0 0 dh.length)] .live],(av 1 I cf),(av 1 I d1),(av 1 I dh)] (.df [.n .i64 a.1,.isl 1 (a.2.1.map (c0 3 bh)),dK 3 bh a.2.2]) [[ab.mk 5 [(d5 bY cg 1 0 0 cf.length 2 0 0 d1.length 3 0 0 dh.length)] .live],(av 1 I cf),(av 1 I d1),(av 1 I dh)]):=by
 unfold s8
 exact .aw fun aq J =>
  (let wx:=d5 bY cg 1 0 0 cf.length 2 0 0 d1.length 3 0 0 dh.length;have cb:=((.ej (gS (ke [0,1,2,3]) 5 [wx] [wx] rfl) (gT 5 [wx]) (eI 1 aD cf) (eI 1 aD d1) (eI 1 aD dh)):c1 _);
  (by
  rcases aq with bK|bK
  ·exact (.bq fun ay =>
  .bq fun aI =>
  .aw fun a5 bx =>
  (let p3:=e4 1 0 0 bK.2.2.2.1.length a5.2.1 a5.2.2.1 3 0 0 a5.2.2.2.2.1.length bK.2.2.1 4 0 0 a5.2.2.2.2.2.length;let n9:=e4 4 1 0 bK.2.2.2.1.length bK.1 bK.2.1 4 2 0 bK.2.2.2.2.1.length bK.2.2.1 4 3 0 bK.2.2.2.2.2.1.length;let ni:=d5 bY cg 1 0 0 cf.length 2 0 0 d1.length 3 0 0 dh.length;let jV:=de 2 aT bK.2.2.2.2.2.2;let re:=(dh++(List.replicate bK.2.2.1.toNat 0:List Int).drop dh.length);let sM:=e4 5 0 0 bK.2.2.2.1.length a5.2.1 a5.2.2.1 6 0 0 a5.2.2.2.2.1.length bK.2.2.1 7 0 0 a5.2.2.2.2.2.length;let sN:=e4 1 0 0 bK.2.2.2.1.length bK.1 bK.2.1 3 0 0 bK.2.2.2.2.1.length bK.2.2.1 4 0 0 bK.2.2.2.2.2.1.length;let qy:=e4 5 0 0 bK.2.2.2.1.length bK.1 bK.2.1 6 0 0 bK.2.2.2.2.1.length bK.2.2.1 7 0 0 bK.2.2.2.2.2.1.length;let rf:=hK [0,1,2,3,8];let zE:=av 1 (b3 8 0 2) bK.2.2.2.1;let uI:=dd [0,1,2,3,8];let wu:=ke [4,5,8,6,7,15];let wv:=hK [4,5,8,6,7,15];let zF:=av 1 (b3 2 0 2) bK.2.2.2.1;let zG:=(k5 bK.2.2.1.toNat (0:Int));let Cj:=de 2 aT a5.2.2.2.1;let Ck:=kS I bK.2.2.1.toNat 0;let t2:List cK:=[(ad 3),.aG (bQ 1 (.call {aM:=(lh [0,1,2,3]),cr:=[.bw [ab.mk 5 [ni] .live],.pure,.pure,.pure],ac:=[ii],r:= .df [.ref 4 0 0 0,.b true],dj:=[[ab.mk 5 [ni] .live],(av 1 I cf),(av 1 I d1),(av 1 I dh),(ab.mk 6 [n9] .live::ab.mk 1 (bK.2.2.2.1.map (b3 4 4 2)) .live::ab.mk 1 (bK.2.2.2.2.1.map I) .live::ab.mk 1 (bK.2.2.2.2.2.1.map dT) .live::jV)],eh:= .comp [.cj .id,.cj .id],e1:=[.bw [ab.mk 5 [ni] .live],.pure,.pure,.pure,.bw (ab.mk 6 [(e4 8 1 0 bK.2.2.2.1.length bK.1 bK.2.1 8 2 0 bK.2.2.2.2.1.length bK.2.2.1 8 3 0 bK.2.2.2.2.2.1.length)] .live::ab.mk 1 (bK.2.2.2.1.map (b3 8 4 2)) .live::ab.mk 1 (bK.2.2.2.2.1.map I) .live::ab.mk 1 (bK.2.2.2.2.2.1.map dT) .live::jV)],dv:=[0,1,2,3],dq:=false}) 5),.bp [0,1,2,3,8] [.box [.id,.id,.id,.id,.id],.pure,.pure,.pure,.bw (ab.mk 6 [n9] .live::ab.mk 1 (bK.2.2.2.1.map (b3 4 4 2)) .live::ab.mk 1 (bK.2.2.2.2.1.map I) .live::ab.mk 1 (bK.2.2.2.2.2.1.map dT) .live::jV)] [(0,ii),(2,ii),(3,ii),(4,.bN (.cj (.ll 3))),(5,ii),(6,ii),(16,.comp [.cj .id,.cj .id]),(17,ii),(18,.comp [.cj .id,.cj .id]),(19,ii),(20,ii)],.Ch [{du:=some (0,0)},{du:=some (1,0)},{du:=some (2,0)},{du:=some (3,0)},{bo:=[(4,0)]},{bo:=[(4,1)]},{bo:=[(4,2)]},{bo:=[(4,3)]},{du:=some (4,4)}] [([],some (.box [.id,.id,.id,.id,.id])),([],some (.pure)),([],some (.pure)),([],some (.pure)),([.box [.at_ 5 0 bK.2.2.2.1.length,.id,.id,.at_ 6 0 bK.2.2.2.2.1.length,.id,.at_ 7 0 bK.2.2.2.2.2.1.length]],none),([.rx zE],none),([.pure],none),([.pure],none),([],some (.rx jV))] [(0,ii),(2,ii),(3,ii),(4,ii),(5,.bN (.cj (.at_ 4 0 0))),(6,ii),(16,.comp [.cj (.at_ 4 0 0),.cj .id]),(17,ii),(18,.comp [.cj (.at_ 4 0 0),.cj .id]),(19,.bN (.cj (.at_ 4 0 0))),(20,ii)],(ad 2),.aj false,(ad 6),(ad 6),.aG (bQ 2 (.call {aM:=(lh [4,5,8,6,7,15]),cr:=[.bw [ab.mk 6 [sN] .live],.bw zF,.bw jV,.pure,.pure,.d3 (av 1 I re)],ac:=[ii,.bN (.cj (.len (re.length)))],r:= .b a5.1,dj:=[[ab.mk 6 [p3] .live],zF,Cj,(av 1 I a5.2.2.2.2.1),(av 1 dT a5.2.2.2.2.2),(av 1 I re)],eh:=ii,e1:=[.bw [ab.mk 6 [sM] .live],.bw zE,.bw Cj,.pure,.pure,.pure],dv:=[4,5,6,7,8,15],dq:=false}) 1)];
  have fW:=cb.aZ (.bj (gS rf 5 [ni] [ni] rfl) (gT 5 [ni]) (eI 1 aD cf) (eI 1 aD d1) (eI 1 aD dh) (el (show ab.mk 6 [(e4 8 1 0 bK.2.2.2.1.length bK.1 bK.2.1 8 2 0 bK.2.2.2.2.1.length bK.2.2.1 8 3 0 bK.2.2.2.2.2.1.length)] .live=ko (hK [0,1,2,3,8]) (ab.mk 6 [(e4 4 1 0 bK.2.2.2.1.length bK.1 bK.2.1 4 2 0 bK.2.2.2.2.1.length bK.2.2.1 4 3 0 bK.2.2.2.2.2.1.length)] .live) from rfl) (el (Ga rf 8 4 4 2 rfl bK.2.2.2.1) (el (fu rf 1 fj bK.2.2.2.2.1) (el (fu rf 1 KW bK.2.2.2.2.2.1) (fb rf 2 er bK.2.2.2.2.2.2))))) ((hX rfl (hX rfl (hX rfl (hX rfl (PJ (iR .live 2 aT bK.2.2.2.2.2.2)))))):k7 (ab.mk 6 [n9] .live::ab.mk 1 (bK.2.2.2.1.map (b3 4 4 2)) .live::ab.mk 1 (bK.2.2.2.2.1.map I) .live::ab.mk 1 (bK.2.2.2.2.2.1.map dT) .live::jV)) (Ob (.inl bK) J) (.bj (aF 1 .live aD cf) (aF 1 .live aD d1) (aF 1 .live aD dh) (el (show ab.mk 6 [(e4 4 1 0 bK.2.2.2.1.length bK.1 bK.2.1 4 2 0 bK.2.2.2.2.1.length bK.2.2.1 4 3 0 bK.2.2.2.2.2.1.length)] .live=ko (dd [0,1,2,3,8]) (ab.mk 6 [(e4 8 1 0 bK.2.2.2.1.length bK.1 bK.2.1 8 2 0 bK.2.2.2.2.1.length bK.2.2.1 8 3 0 bK.2.2.2.2.2.1.length)] .live) from rfl) (el (Ga uI 4 8 4 2 rfl bK.2.2.2.1) (el (fu uI 1 fj bK.2.2.2.2.1) (el (fu uI 1 KW bK.2.2.2.2.2.1) (fb uI 2 er bK.2.2.2.2.2.2))))) (aF 1 .live aD cf) (aF 1 .live aD d1) (aF 1 .live aD dh) (rfl:(jN [{du:=some (0,0)},{du:=some (1,0)},{du:=some (2,0)},{du:=some (3,0)},{bo:=[(4,0)]},{bo:=[(4,1)]},{bo:=[(4,2)]},{bo:=[(4,3)]},{du:=some (4,4)}]) 5 0=some (4,1)) (.bj (rfl:bK.2.2.2.1.length=bK.2.2.2.1.length) (rfl:(jN [{du:=some (0,0)},{du:=some (1,0)},{du:=some (2,0)},{du:=some (3,0)},{bo:=[(4,0)]},{bo:=[(4,1)]},{bo:=[(4,2)]},{bo:=[(4,3)]},{du:=some (4,4)}]) 6 0=some (4,2)) (rfl:bK.2.2.2.2.1.length=bK.2.2.2.2.1.length) (rfl:(jN [{du:=some (0,0)},{du:=some (1,0)},{du:=some (2,0)},{du:=some (3,0)},{bo:=[(4,0)]},{bo:=[(4,1)]},{bo:=[(4,2)]},{bo:=[(4,3)]},{du:=some (4,4)}]) 7 0=some (4,3)) (rfl:bK.2.2.2.2.2.1.length=bK.2.2.2.2.2.1.length) (QO (KV (jX:=(b3 8 0 2)) (dV (b3 4 4 2) bK.2.2.2.1) (fun _=>rfl) (fun x=>(RV (fun _=>rfl)) x)) Ro:sI (jN [{du:=some (0,0)},{du:=some (1,0)},{du:=some (2,0)},{du:=some (3,0)},{bo:=[(4,0)]},{bo:=[(4,1)]},{bo:=[(4,2)]},{bo:=[(4,3)]},{du:=some (4,4)}]) (av 1 (b3 4 4 2) bK.2.2.2.1) zE) (aF 1 .live aD bK.2.2.2.2.1) (aF 1 .live ee bK.2.2.2.2.2.1) (.bj (QQ (iR .live 2 aT bK.2.2.2.2.2.2) (fun _=>rfl) er:sI (jN [{du:=some (0,0)},{du:=some (1,0)},{du:=some (2,0)},{du:=some (3,0)},{bo:=[(4,0)]},{bo:=[(4,1)]},{bo:=[(4,2)]},{bo:=[(4,3)]},{du:=some (4,4)}]) jV jV) (rfl:(jN [{du:=some (0,0)},{du:=some (1,0)},{du:=some (2,0)},{du:=some (3,0)},{bo:=[(4,0)]},{bo:=[(4,1)]},{bo:=[(4,2)]},{bo:=[(4,3)]},{du:=some (4,4)}]) 4 0=some (4,0)) (rfl:(jN [{du:=some (0,0)},{du:=some (1,0)},{du:=some (2,0)},{du:=some (3,0)},{bo:=[(4,0)]},{bo:=[(4,1)]},{bo:=[(4,2)]},{bo:=[(4,3)]},{du:=some (4,4)}]) 4 0=some (4,0)) (rfl:(jN [{du:=some (0,0)},{du:=some (1,0)},{du:=some (2,0)},{du:=some (3,0)},{bo:=[(4,0)]},{bo:=[(4,1)]},{bo:=[(4,2)]},{bo:=[(4,3)]},{du:=some (4,4)}]) 4 0=some (4,0)) (rfl:(jN [{du:=some (0,0)},{du:=some (1,0)},{du:=some (2,0)},{du:=some (3,0)},{bo:=[(4,0)]},{bo:=[(4,1)]},{bo:=[(4,2)]},{bo:=[(4,3)]},{du:=some (4,4)}]) 4 0=some (4,0)) ez ay.1 (Int.le_refl bK.2.2.1) (.bj ay.2.1 ay.2.2 (jA I dh) (aby (Bf (dV I dh) (ft dh)) aI) (vy Ck zG) (Rs zG (Nat.le_refl _) aI) (gS wu 6 [sN] [qy] rfl) (gT 6 [qy]) (.bj (e7 wu 2 8 0 2 rfl bK.2.2.2.1) (gT 1 (bK.2.2.2.1.map (b3 8 0 2))) (fb wu 2 er bK.2.2.2.2.2.2) (rm 2 aT bK.2.2.2.2.2.2) (eI 1 aD bK.2.2.2.2.1) (eI 1 ee bK.2.2.2.2.2.1) (eX 1 .live (aaG Ck (Bf (dV I dh) (ft dh)))) (eI 1 aD re) (.bj (gS wv 6 [sM] [p3] rfl) (gT 6 [p3]) (e7 wv 8 2 0 2 rfl bK.2.2.2.1) (gT 1 (bK.2.2.2.1.map (b3 2 0 2))) (fb wv 2 er a5.2.2.2.1) (rm 2 aT a5.2.2.2.1) (eI 1 aD a5.2.2.2.2.1) (eI 1 ee a5.2.2.2.2.2) (.aH (eI 1 aD re) (Hh a5 bx)))))))));
  .ite (fun bn =>
  .aw fun bk cV =>
  .bq fun cZ =>
  .aw fun eW ec =>
  .aw fun fJ gm =>
  .aw fun dy gG =>
  .aw fun d6 iM =>
  .ret (let aR:=d5 bY cg 1 0 0 cf.length 2 0 0 d1.length 3 0 0 dh.length;let bb:=(List.replicate cg.toNat (none:(Option bF)):List (Option bF));let b7:=aF 1 .live aD cf;let cC:=aF 1 .live aD d1;let en:=aF 1 .live aD dh;let gf:=(dh++(List.replicate bK.2.2.1.toNat 0:List Int).drop dh.length);let hc:=dd [0,1,2,3,4,15,5,8,6,7];let fh:=dd [0,1,2,3,4,13,5,6,7,8];let hO:=dd [0,1,2,3,4,5,8,6,7,9];let iN:=av 1 (b3 7 0 2) bK.2.2.2.1;let kJ:=aF 1 .live aD bk.2.2.2.1;let kK:=aF 1 .live ee bk.2.2.2.2;let ng:=de 2 aT bk.2.2.1;hE (t2.append [.aj false,(ad 5),.bp [0,1,2,3,4,15,5,8,6,7] [.box [.id,.id,.id,.id,.id],.pure,.pure,.pure,.box [.id,.id,.id,.id,.id,.id],.pure,.bw iN,.bw (de 2 aT a5.2.2.2.1),.pure,.pure] [(0,ii),(5,ii),(7,gQ (gf.length)),(41,ii),(42,ii)],(Im cg bY cf d1 dh bK.2.2.1 bK.2.2.2.1 bk).gp,.aG (bQ 4 (.cA [(dK 3 bh (none:(Option bF)))]) 1),(ad 3),.bp [0,1,2,3,4,13,5,6,7,8] [.box [.id,.id,.id,.id,.id],.pure,.pure,.pure,.box [.id,.id,.id,.id,.id,.id],.d3 (av 1 (c0 3 bh) bb),.bw iN,.bw ng,.pure,.pure] [(0,ii),(5,ii),(9,gQ (bb.length)),(59,ii),(60,ii)],(Io ((cg.toNat:Nat):Int) bY cg cf d1 dh bk.1 bk.2.1 bK.2.2.1 bK.2.2.2.1 bk.2.2.1 bk.2.2.2.1 bk.2.2.2.2 eW).gp,(ad 6),.bp [0,1,2,3,4,5,8,6,7,9] [.box [.id,.id,.id,.id,.id],.pure,.pure,.pure,.box [.id,.id,.id,.id,.id,.id],.pure,.pure,.bw (av 1 (b3 8 0 2) bK.2.2.2.1),.bw ng,.pure] (bO [0,5,9,71,72,73]),(Ip ((bk.2.2.2.1.length:Nat):Int) bY cg cf d1 dh bk.1 bk.2.1 bK.2.2.1 bk.2.2.2.1 bK.2.2.2.1 bk.2.2.1 bk.2.2.2.2 fJ).gp,.aG (ah (bD 1 (dK 3 bh dy) false) (ae 1 [])),(ad 3),.bp [0,1,2,3,4] [.box [.id,.id,.id,.id,.id],.pure,.pure,.pure,.pure] (bO [0,9,13,102,103,104]),(Iq ((fJ.length:Nat):Int) bY cg cf d1 dh fJ d6).gp,(ad 5)]) [0,1,2,3] [.bw [ab.mk 5 [aR] .live],.pure,.pure,.pure] (fW.aZ (.bj (dQ bn) b7 cC en (aF 1 .live aD gf) (e7 hc 7 8 0 2 rfl bK.2.2.2.1) (fb hc 2 er a5.2.2.2.1) (aF 1 .live aD a5.2.2.2.2.1) (.bj (aF 1 .live ee a5.2.2.2.2.2) (Rs (k5 bK.2.2.1.toNat (0:Int)) (Nat.le_refl _) aI) (VZ cV) cZ.1 (Int.le_refl cg) cZ.2.1 cZ.2.2 b7 (.bj cC en (eX 1 .live (kS (c0 3 bh) cg.toNat (none:(Option bF)))) (aF 1 .live (lP (sz:=3) kf) bb) (e7 fh 7 6 0 2 rfl bK.2.2.2.1) (fb fh 2 er bk.2.2.1) kJ kK (.bj (k5 cg.toNat ((none:(Option bF)):(Option bF))) (V0 ec) b7 cC en (aF 1 .live (lP (sz:=3) kf) eW) kJ (e7 hO 8 7 0 2 rfl bK.2.2.2.1) (.bj (fb hO 2 er bk.2.2.1) kK (V1 gm) (sq dy gG) b7 cC en (aF 1 .live (lP (sz:=3) kf) fJ) (.hB (V2 iM) (gS (dd [0,1,2,3]) 5 [aR] [aR] rfl) b7 cC en (kp (c0 3 bh) fJ) (jA (c0 3 bh) fJ) (e9 (lP (sz:=3) kf) fJ)))))))) (.comp [.cj .id,.cj (.gn (fJ.map (c0 3 bh))),.cj .id])))
  (fun bn =>
  .ret (let nh:=d5 bY cg 1 0 0 cf.length 2 0 0 d1.length 3 0 0 dh.length;hE (t2.append [.aj true,(ad 3)]) [0,1,2,3] [.bw [ab.mk 5 [nh] .live],.pure,.pure,.pure] (fW.aZ (.ej (dR bn) (gS (dd [0,1,2,3]) 5 [nh] [nh] rfl) (aF 1 .live aD cf) (aF 1 .live aD d1) (aF 1 .live aD dh))) (.comp [.cj .id,.cj (.fM 1),.cj (.ll 3)])))))
  ·exact (.ret (let l7:=d5 bY cg 1 0 0 cf.length 2 0 0 d1.length 3 0 0 dh.length;hE [(ad 3),.aG (bQ 1 (.call {aM:=(lh [0,1,2,3]),cr:=[.bw [ab.mk 5 [l7] .live],.pure,.pure,.pure],ac:=[ii],r:= .df [.ij,.b false],dj:=[[ab.mk 5 [l7] .live],(av 1 I cf),(av 1 I d1),(av 1 I dh)],eh:=ii,e1:=[.bw [ab.mk 5 [l7] .live],.pure,.pure,.pure],dv:=[0,1,2,3],dq:=false}) 5),(ad 2),.aj true,(ad 3)] [0,1,2,3] [.bw [ab.mk 5 [l7] .live],.pure,.pure,.pure] (cb.aZ (.bj (gS (hK [0,1,2,3]) 5 [l7] [l7] rfl) (gT 5 [l7]) (eI 1 aD cf) (eI 1 aD d1) (eI 1 aD dh) (Ob (.inr bK) J) bl (gS (dd [0,1,2,3]) 5 [l7] [l7] rfl) (.b2 (aF 1 .live aD cf) (aF 1 .live aD d1) (aF 1 .live aD dh)))) (.comp [.cj .id,.cj (.fM 1),.cj (.ll 3)])))))
def Ab (ch:bg):Option bg :=
 if (decide ((60:Int)<(len_ I ch.cB)))=true then
  some (⟨false,([]:List Int)⟩:bg)
 else
  vA ch.cB >>= fun bE =>
  some (⟨ch.cY,bE⟩:bg)
theorem VF {ch:bg}:b1 (Ab ch) (fun r=>Con bt 76 [.agg (aT ch)] [] (.agg (aT r)) []):=by
 unfold Ab
 exact .ite (fun o =>
  .ret (bW [(ad 2),(ad 4),.aj true,(ad 2)] (.az o) (.bN (.agg [.id,.fM 1]))))
  (fun o =>
  .aw fun bE ak =>
  .ret (bW [(ad 2),(ad 4),.aj false,.aG (bQ 4 (bD 1 (.isl 1 (bE.map I)) false) 2)] (.aH o (JM bE ak))))
def qL (ch:Option bF):Option c4 :=
 ch.elim
 (some (⟨(⟨false,([]:List Int)⟩:bg),([]:List Int)⟩:c4))
 fun dM =>
 Ab dM.qq >>= fun a9 =>
 vA dM.pQ >>= fun ba =>
 some (⟨a9,ba⟩:c4)
theorem uc {ch:Option bF}:b1 (qL ch) (fun r=>Con bt 47 [(dK 3 bh ch)] [] (.agg (da r)) []):=by
 unfold qL
 exact .l3 (fun o =>
  .ret (bW [(ad 1),.aG (ae 1 (ah (.eR 3 (.ef 3 none) .cU) [])),.aj true,(ad 2)] (.aH (pX (sz:=3) (f:=bh) o) bl) (.bN (.agg [.id,.fM 1,.fM 1]))))
  (fun dM o =>
  .aw fun a9 ay =>
  .aw fun ba bu =>
  .ret (bW [(ad 1),.aG (ae 1 (ah (.eR 3 (.ef 3 (some (bh dM))) .cU) [])),.aj false,.aG (ae 1 (ah (.eR 6 (.ef 3 (some (bh dM))) .cU) (ae 2 (ah (bD 1 (.agg (aT a9)) false) (ae 1 (ah (.eR 11 (.ef 3 (some (bh dM))) .cU) (bQ 2 (bD 1 (.isl 1 (ba.map I)) false) 2)))))))] (.fq (jo (sz:=3) (f:=bh) o) ez (jo (sz:=3) (f:=bh) o) (VF a9 ay) (jo (sz:=3) (f:=bh) o) (JM ba bu))))
def sm (aS:Int):Option c4 :=
 o4 aS >>= fun aq =>
 qL aq >>= fun a9 =>
 some a9
theorem xS {aS:Int}:b1 (sm aS) (fun r=>Con bt 17 [.n .i64 aS] [] (.agg (da r)) []):=by
 unfold sm
 exact .aw fun aq J =>
  .aw fun a9 ay =>
  .ret (bW [(ad 1),.aG (ae 1 (ah (bD 1 (dK 3 bh aq) false) (ah (bD 1 (.agg (da a9)) false) (ae 1 []))))] (.aH (sq aq J) (uc a9 ay)))
def vv (bf:Option bF):Option (Option bF) :=
 bf.elim
 (some (none:(Option bF)))
 fun dM =>
 qb dM.qq >>= fun a9 =>
 some (some (⟨a9,dM.pQ⟩:bF))
theorem D5 {bf:Option bF}:b1 (vv bf) (fun r=>Con bt 53 [(dK 3 bh bf)] [] (dK 3 bh r) []):=by
 unfold vv
 exact .l3 (fun o =>
  .ret (bW [(ad 1),.aG (ae 1 (ah (.eR 3 (.ef 3 none) .cU) [])),.aj true,(ad 1)] (.aH (pX (sz:=3) (f:=bh) o) bl) (.bN (.cj (.ll 3)))))
  (fun dM o =>
  .aw fun a9 ay =>
  .ret (bW [(ad 1),.aG (ae 1 (ah (.eR 3 (.ef 3 (some (bh dM))) .cU) [])),.aj false,.aG (ae 1 (ah (.eR 5 (.ef 3 (some (bh dM))) .cU) (ae 2 (ah (bD 1 (.agg (aT a9)) false) (bQ 1 (.eR 10 (.ef 3 (some (bh dM))) .cU) 5)))))] (.fq (jo (sz:=3) (f:=bh) o) ez (jo (sz:=3) (f:=bh) o) (C7 a9 ay) (jo (sz:=3) (f:=bh) o) (kQ (kf (⟨a9,dM.pQ⟩:bF)):hl [[.b a9.cY,.isl 1 (a9.cB.map I),.isl 1 (dM.pQ.map I)]])) (.bN (.tx [.id,.id,.id]))))
def sv (ch:Option bF):Option (Option bF) :=
 ch >>= fun eM =>
 if (decide ((24:Int)<(len_ I eM.qq.cB)))=true then
  some (none:(Option bF))
 else
  if (decide ((24:Int)<(len_ I eM.pQ)))=true then
   some (none:(Option bF))
  else
   some ch
theorem Aw {ch:Option bF}:b1 (sv ch) (fun r=>Con bt 66 [(dK 3 bh ch)] [] (dK 3 bh r) []):=by
 unfold sv
 exact .aw fun eM J =>
  (have cb:=((.az (jo (sz:=3) (f:=bh) J)):c1 _);
  .ite (fun ak =>
  .ret (bW [(ad 1),.aG (ae 1 (ah (.eR 3 (.ef 3 (some (bh eM))) .cU) (ae 6 (cm 6 (ah (.aj true) []))))),.aj true,(ad 1)] (cb.aZ (.hB ak ak ak ak ak ak ak bl)) (.bN (.cj (.ll 3)))))
  (fun ak =>
  (let t2:List cK:=[(ad 1),.aG (ae 1 (ah (.eR 3 (.ef 3 (some (bh eM))) .cU) (ae 7 (ah (.eR 11 (.ef 3 (some (bh eM))) .cU) (ae 4 (ah (.aj false) []))))))];
  have fW:=cb.aZ (.hB ak ak (jo (sz:=3) (f:=bh) J) ak ak ak ak ak);
  .ite (fun ay =>
  .ret (bW (t2.append [.aj true,(ad 1)]) (fW.aZ (.az ay)) (.bN (.cj (.ll 3)))))
  (fun ay =>
  .ret (bW (t2.append [.aj false,(ad 2)]) (fW.aZ (.az ay)))))))
def sX (aO:ck)(bV km kl:Int)(d7 cf d1:List Int):Option (Bool×(List Int)×(List Int)×Bool×(List Int)×(List Int)×Bool×Bool×Bool×(List Int)) :=
 t0 aO bV 1 km kl d7 cf d1 >>= fun aq =>
 s8 km kl d7 cf aq >>= fun a9 =>
 if (a9.1 == (2:Int))=true then
  some (false,([]:List Int),([]:List Int),false,([]:List Int),([]:List Int),false,false,false,aq)
 else
  if (a9.1 == (3:Int))=true then
   sm 0 >>= fun bI =>
   t0 aO bV (-1) km kl d7 cf aq >>= fun bk =>
   s8 km kl d7 cf bk >>= fun cI =>
   if (cI.1 == (3:Int))=true then
    some (bI.fN.cY,bI.fN.cB,bI.gE,bI.fN.cY,bI.fN.cB,bI.gE,true,true,true,bk)
   else
    vv cI.2.2 >>= fun fJ =>
    sv fJ >>= fun dy =>
    qL dy >>= fun d6 =>
    some (d6.fN.cY,d6.fN.cB,d6.gE,bI.fN.cY,bI.fN.cB,bI.gE,false,true,true,bk)
  else
   sv a9.2.2 >>= fun bI =>
   qL bI >>= fun bk =>
   t0 aO bV (-1) km kl d7 cf aq >>= fun cI =>
   s8 km kl d7 cf cI >>= fun dp =>
   if (dp.1 == (3:Int))=true then
    sm 0 >>= fun dy =>
    some (dy.fN.cY,dy.fN.cB,dy.gE,bk.fN.cY,bk.fN.cB,bk.gE,true,false,true,cI)
   else
    vv dp.2.2 >>= fun dy =>
    sv dy >>= fun d6 =>
    qL d6 >>= fun fw =>
    some (fw.fN.cY,fw.fN.cB,fw.gE,bk.fN.cY,bk.fN.cB,bk.gE,false,false,true,cI)
theorem UN {aO:ck}{bV km kl:Int}{d7 cf d1:List Int}:b1 (sX aO bV km kl d7 cf d1) (fun a=>Con bt 34 [.eE 2 [(gM aO)] 0 0,.agg (d5 km kl 0 0 0 d7.length 1 0 0 cf.length 2 0 0 d1.length),.n .i64 bV] [(av 1 I d7),(av 1 I cf),(av 1 I d1)] (.df [.agg [.b a.1,.isl 1 (a.2.1.map I),.isl 1 (a.2.2.1.map I),.b a.2.2.2.1,.isl 1 (a.2.2.2.2.1.map I),.isl 1 (a.2.2.2.2.2.1.map I),.b a.2.2.2.2.2.2.1,.b a.2.2.2.2.2.2.2.1],.b a.2.2.2.2.2.2.2.2.1]) [(av 1 I d7),(av 1 I cf),(av 1 I a.2.2.2.2.2.2.2.2.2)]):=by
 unfold sX
 exact .aw fun aq J =>
  .aw fun a9 ay =>
  (let n9:=d5 km kl 1 0 0 d7.length 2 0 0 cf.length 3 0 0 aq.length;let ni:=d5 km kl 0 0 0 d7.length 1 0 0 cf.length 2 0 0 aq.length;let jV:=d5 km kl 1 0 0 d7.length 2 0 0 cf.length 3 0 0 d1.length;let re:=d5 km kl 0 0 0 d7.length 1 0 0 cf.length 2 0 0 d1.length;let sM:=gS (hK [3,0,1,2]) 5 [ni] [n9] rfl;let sN:=eI 1 aD d7;let qy:=eI 1 aD cf;let rf:=eI 1 aD aq;let t1:List cK:=[(ad 3),(ad 1),.aG (ae 2 (ah (.call {aM:=(lh [3,0,1,2]),cr:=[.bw [ab.mk 5 [jV] .live],.pure,.pure,.pure],ac:=[ii,ii,ii,ii],r:= .df [],dj:=[[ab.mk 5 [n9] .live],(av 1 I d7),(av 1 I cf),(av 1 I aq)],eh:=ii,e1:=[.bw [ab.mk 5 [ni] .live],.pure,.pure,.pure],dv:=[0,1,2,3],dq:=false}) [])),.aG (ah (.call {aM:=(lh [3,0,1,2]),cr:=[.bw [ab.mk 5 [n9] .live],.pure,.pure,.pure],ac:=[ii],r:= .df [.n .i64 a9.1,.isl 1 (a9.2.1.map (c0 3 bh)),dK 3 bh a9.2.2],dj:=[[ab.mk 5 [n9] .live],(av 1 I d7),(av 1 I cf),(av 1 I aq)],eh:=ii,e1:=[.bw [ab.mk 5 [ni] .live],.pure,.pure,.pure],dv:=[0,1,2,3],dq:=false}) (ae 7 [])),(ad 1),(ad 2)];
  have a4:=((.bj (gS (ke [3,0,1,2]) 5 [jV] [re] rfl) (gT 5 [re]) sN qy (eI 1 aD d1) sM (gT 5 [n9]) sN (.bj qy rf (Ho aq J) (gS (ke [3,0,1,2]) 5 [n9] [ni] rfl) (gT 5 [ni]) sN qy rf (.fq sM (gT 5 [n9]) sN qy rf (DJ a9 ay)))):c1 _);
  .ite (fun aI =>
  .ret (hE (t1.append [.aj true,(ad 3)]) [0,1,2] [.pure,.pure,.pure] (a4.aZ (.dn aI (aF 1 .live aD d7) (aF 1 .live aD cf) (aF 1 .live aD aq))) (.comp [.agg [.id,.fM 1,.fM 1,.id,.fM 1,.fM 1,.id,.id],.cj .id])))
  (fun aI =>
  .ite (fun bu =>
  .aw fun bI bn =>
  .aw fun bk cV =>
  .aw fun cI dg =>
  (let aR:=d5 km kl 1 0 0 d7.length 2 0 0 cf.length 3 0 0 bk.length;let bb:=d5 km kl 0 0 0 d7.length 1 0 0 cf.length 2 0 0 bk.length;let b7:=d5 km kl 1 0 0 d7.length 2 0 0 cf.length 3 0 0 aq.length;let cC:=d5 km kl 0 0 0 d7.length 1 0 0 cf.length 2 0 0 aq.length;let en:=gS (hK [3,0,1,2]) 5 [bb] [aR] rfl;let gf:=eI 1 aD d7;let hc:=eI 1 aD cf;let fh:=eI 1 aD bk;let t3:List cK:=t1.append [.aj false,(ad 2),.aj true,.aG (ah (bD 1 (.agg (da bI)) false) (ae 4 [])),.aG (ae 2 (ah (.call {aM:=(lh [3,0,1,2]),cr:=[.bw [ab.mk 5 [b7] .live],.pure,.pure,.pure],ac:=[ii,ii,ii,ii],r:= .df [],dj:=[[ab.mk 5 [aR] .live],(av 1 I d7),(av 1 I cf),(av 1 I bk)],eh:=ii,e1:=[.bw [ab.mk 5 [bb] .live],.pure,.pure,.pure],dv:=[0,1,2,3],dq:=false}) [])),.aG (ah (.call {aM:=(lh [3,0,1,2]),cr:=[.bw [ab.mk 5 [aR] .live],.pure,.pure,.pure],ac:=[ii],r:= .df [.n .i64 cI.1,.isl 1 (cI.2.1.map (c0 3 bh)),dK 3 bh cI.2.2],dj:=[[ab.mk 5 [aR] .live],(av 1 I d7),(av 1 I cf),(av 1 I bk)],eh:=ii,e1:=[.bw [ab.mk 5 [bb] .live],.pure,.pure,.pure],dv:=[0,1,2,3],dq:=false}) (ae 6 [])),(ad 2)];
  have fK:=a4.aZ (.bj aI bu (xS bI bn) (gS (ke [3,0,1,2]) 5 [b7] [cC] rfl) (gT 5 [cC]) gf hc (eI 1 aD aq) (.bj en (gT 5 [aR]) gf hc fh (Ho bk cV) (gS (ke [3,0,1,2]) 5 [aR] [bb] rfl) (gT 5 [bb]) (.bj gf hc fh en (gT 5 [aR]) gf hc fh (.az (DJ cI dg)))));
  .ite (fun ec =>
  .ret (hE (t3.append [.aj true,.aG (ah (bD 1 (.agg (da bI)) false) (ae 4 [])),(ad 3)]) [0,1,2] [.pure,.pure,.pure] (fK.aZ (.ej ec (xS bI bn) (aF 1 .live aD d7) (aF 1 .live aD cf) (aF 1 .live aD bk)))))
  (fun ec =>
  .aw fun fJ gm =>
  .aw fun dy gG =>
  .aw fun d6 iM =>
  .ret (hE (t3.append [.aj false,.aG (ae 1 (ah (bD 1 (dK 3 bh fJ) false) (ah (bD 1 (dK 3 bh dy) false) (ah (bD 1 (.agg (da d6)) false) (ae 2 []))))),(ad 3)]) [0,1,2] [.pure,.pure,.pure] (fK.aZ (.fr ec (D5 fJ gm) (Aw dy gG) (uc d6 iM) (aF 1 .live aD d7) (aF 1 .live aD cf) (aF 1 .live aD bk)))))))
  (fun bu =>
  .aw fun bI bn =>
  .aw fun bk cV =>
  .aw fun cI dg =>
  .aw fun dp eL =>
  (let hO:=d5 km kl 1 0 0 d7.length 2 0 0 cf.length 3 0 0 cI.length;let iN:=d5 km kl 0 0 0 d7.length 1 0 0 cf.length 2 0 0 cI.length;let kJ:=d5 km kl 1 0 0 d7.length 2 0 0 cf.length 3 0 0 aq.length;let kK:=d5 km kl 0 0 0 d7.length 1 0 0 cf.length 2 0 0 aq.length;let ng:=gS (hK [3,0,1,2]) 5 [iN] [hO] rfl;let nh:=eI 1 aD d7;let l7:=eI 1 aD cf;let p3:=eI 1 aD cI;let t3:List cK:=t1.append [.aj false,(ad 2),.aj false,.aG (ae 1 (ah (bD 1 (dK 3 bh bI) false) (ah (bD 1 (.agg (da bk)) false) (ae 2 [])))),.aG (ae 2 (ah (.call {aM:=(lh [3,0,1,2]),cr:=[.bw [ab.mk 5 [kJ] .live],.pure,.pure,.pure],ac:=[ii,ii,ii,ii],r:= .df [],dj:=[[ab.mk 5 [hO] .live],(av 1 I d7),(av 1 I cf),(av 1 I cI)],eh:=ii,e1:=[.bw [ab.mk 5 [iN] .live],.pure,.pure,.pure],dv:=[0,1,2,3],dq:=false}) [])),.aG (ah (.call {aM:=(lh [3,0,1,2]),cr:=[.bw [ab.mk 5 [hO] .live],.pure,.pure,.pure],ac:=[ii],r:= .df [.n .i64 dp.1,.isl 1 (dp.2.1.map (c0 3 bh)),dK 3 bh dp.2.2],dj:=[[ab.mk 5 [hO] .live],(av 1 I d7),(av 1 I cf),(av 1 I cI)],eh:=ii,e1:=[.bw [ab.mk 5 [iN] .live],.pure,.pure,.pure],dv:=[0,1,2,3],dq:=false}) (ae 6 [])),(ad 2)];
  have fK:=a4.aZ (.bj aI bu (Aw bI bn) (uc bk cV) (gS (ke [3,0,1,2]) 5 [kJ] [kK] rfl) (gT 5 [kK]) nh l7 (.bj (eI 1 aD aq) ng (gT 5 [hO]) nh l7 p3 (Ho cI dg) (gS (ke [3,0,1,2]) 5 [hO] [iN] rfl) (.bj (gT 5 [iN]) nh l7 p3 ng (gT 5 [hO]) nh l7 (.aH p3 (DJ dp eL)))));
  .ite (fun gm =>
  .aw fun dy gG =>
  .ret (hE (t3.append [.aj true,.aG (ah (bD 1 (.agg (da dy)) false) (ae 4 [])),(ad 3)]) [0,1,2] [.pure,.pure,.pure] (fK.aZ (.ej gm (xS dy gG) (aF 1 .live aD d7) (aF 1 .live aD cf) (aF 1 .live aD cI)))))
  (fun gm =>
  .aw fun dy gG =>
  .aw fun d6 iM =>
  .aw fun fw mw =>
  .ret (hE (t3.append [.aj false,.aG (ae 1 (ah (bD 1 (dK 3 bh dy) false) (ah (bD 1 (dK 3 bh d6) false) (ah (bD 1 (.agg (da fw)) false) (ae 2 []))))),(ad 3)]) [0,1,2] [.pure,.pure,.pure] (fK.aZ (.fr gm (D5 dy gG) (Aw d6 iM) (uc fw mw) (aF 1 .live aD d7) (aF 1 .live aD cf) (aF 1 .live aD cI)))))))))
def Ac (aO:ck)(ki:List (List Int))(bV:Int):Option (rM×Bool) :=
 ye aO ki >>= fun aq =>
 if aq=true then
  if (decide (bV<(0:Int)))=true then
   some ((⟨(⟨(⟨false,([]:List Int)⟩:bg),([]:List Int)⟩:c4),(⟨(⟨false,([]:List Int)⟩:bg),([]:List Int)⟩:c4),false,false⟩:rM),false)
  else
   if (decide ((len_ dm aO.b5)≤bV))=true then
    some ((⟨(⟨(⟨false,([]:List Int)⟩:bg),([]:List Int)⟩:c4),(⟨(⟨false,([]:List Int)⟩:bg),([]:List Int)⟩:c4),false,false⟩:rM),false)
   else
    xd aO ki >>= fun a5 =>
    sX aO bV a5.1 a5.2.1 a5.2.2.1 a5.2.2.2.1 a5.2.2.2.2 >>= fun dW =>
    if a5.2.2.2.2.length=dW.2.2.2.2.2.2.2.2.2.length then
    some ((⟨(⟨(⟨dW.1,dW.2.1⟩:bg),dW.2.2.1⟩:c4),(⟨(⟨dW.2.2.2.1,dW.2.2.2.2.1⟩:bg),dW.2.2.2.2.2.1⟩:c4),dW.2.2.2.2.2.2.1,dW.2.2.2.2.2.2.2.1⟩:rM),dW.2.2.2.2.2.2.2.2.1)
    else none
 else
  some ((⟨(⟨(⟨false,([]:List Int)⟩:bg),([]:List Int)⟩:c4),(⟨(⟨false,([]:List Int)⟩:bg),([]:List Int)⟩:c4),false,false⟩:rM),false)
theorem VG {aO:ck}{ki:List (List Int)}{bV:Int}:b1 (Ac aO ki bV) (fun r=>Con bt 9 [.agg (gM aO),.isl 1 (ki.map (dL 1 I)),.n .i64 bV] [] (.df [.agg (um r.1),.b r.2]) []):=by
 unfold Ac
 exact .aw fun aq J =>
  (have cb:=((.b2 (kQ (o2 aO):hl [(gM aO)]) (N6 aq J) (cz.b aq)):c1 _);
  .ite (fun ak =>
  (have a4:=cb.aZ (.b2 (dQ ak) (dQ ak) (dQ ak));
  .ite (fun ay =>
  .ret (bW [(ad 3),.aG (ae 1 (ah (.call {ac:=[.bN (.ptr [.id,.id]),ii],r:= .b aq,dq:=true,dv:=[0]}) (ae 4 (ah (.aj false) (ae 1 (cm 5 (ah (.aj true) []))))))),.aj true,(ad 3)] (a4.aZ (.fr ay ay ay ay ay ay bl)) (.comp [.agg [.id,.fM 1,.fM 1,.id,.fM 1,.fM 1,.id,.id],.cj .id])))
  (fun ay =>
  (let t3:List cK:=[(ad 3),.aG (ae 1 (ah (.call {ac:=[.bN (.ptr [.id,.id]),ii],r:= .b aq,dq:=true,dv:=[0]}) (ae 4 (ah (.aj false) (ae 6 (ah (.aj false) []))))))];
  .ite (fun aI =>
  .ret (bW (t3.append [.aj true,(ad 3)]) (a4.aZ (.fr ay ay ay ay ay ay aI)) (.comp [.agg [.id,.fM 1,.fM 1,.id,.fM 1,.fM 1,.id,.id],.cj .id])))
  (fun aI =>
  .aw fun a5 bx =>
  .aw fun dW cd =>
  .bq fun cV =>
  .ret (let aR:=eI 1 aD a5.2.2.2.1;let bb:=eI 1 aD a5.2.2.1;bW (t3.append [.aj false,.hn 0,.aG (ae 1 (ah (.call {aM:=[],cr:=[],ac:=[.bN (.ptr [.id,.id]),ii],r:= .agg (d5 a5.1 a5.2.1 0 0 0 a5.2.2.1.length 0 1 0 a5.2.2.2.1.length 0 2 0 a5.2.2.2.2.length),dj:=[[ab.mk 1 (a5.2.2.1.map I) .live,ab.mk 1 (a5.2.2.2.1.map I) .live,ab.mk 1 (a5.2.2.2.2.map I) .live]],eh:= .bN (.agg [.id,.id,.id,.id,.id]),e1:=[.bw [ab.mk 1 (a5.2.2.1.map I) .live,ab.mk 1 (a5.2.2.2.1.map I) .live,ab.mk 1 (a5.2.2.2.2.map I) .live]],dv:=[0],dq:=true}) (bQ 1 (.call {aM:=[.af 18 0 (ab.mk 1 (a5.2.2.1.map I) .live),.af 18 1 (ab.mk 1 (a5.2.2.2.1.map I) .live),.af 18 2 (ab.mk 1 (a5.2.2.2.2.map I) .live)],cr:=[.pure,.pure,.pure],ac:=[.bN (.ptr [.id,.id]),.bN (.agg [.id,.id,.at_ 0 0 a5.2.2.1.length,.at_ 1 0 a5.2.2.2.1.length,.at_ 2 0 a5.2.2.2.2.length]),ii],r:= .df [.agg [.b dW.1,.isl 1 (dW.2.1.map I),.isl 1 (dW.2.2.1.map I),.b dW.2.2.2.1,.isl 1 (dW.2.2.2.2.1.map I),.isl 1 (dW.2.2.2.2.2.1.map I),.b dW.2.2.2.2.2.2.1,.b dW.2.2.2.2.2.2.2.1],.b dW.2.2.2.2.2.2.2.2.1],dj:=[(av 1 I a5.2.2.1),(av 1 I a5.2.2.2.1),(av 1 I dW.2.2.2.2.2.2.2.2.2)],eh:=ii,e1:=[.pure,.pure,.pure],dv:=[0,18],dq:=false}) 4)))]) (a4.aZ (.bj ay ay ay ay ay ay aI (kQ (o2 aO):hl [(gM aO)]) (.bj (el (fu (hK [18]) 1 fj a5.2.2.1) (el (fu (hK [18]) 1 fj a5.2.2.2.1) (el (fu (hK [18]) 1 fj a5.2.2.2.2) (jG (b6:=(hK [18])))))) ((hX rfl (hX rfl (hX rfl qf))):k7 [ab.mk 1 (a5.2.2.1.map I) .live,ab.mk 1 (a5.2.2.2.1.map I) .live,ab.mk 1 (a5.2.2.2.2.map I) .live]) (Nh a5 bx) (cz.agg (k4 (cz.n .i64 a5.1) (k4 (cz.n .i64 a5.2.1) (k4 (cz.bC 0 0 0 a5.2.2.1.length) (k4 (cz.bC 0 1 0 a5.2.2.2.1.length) (k4 (cz.bC 0 2 0 a5.2.2.2.2.length) yV)))))) ((yB (pG (o7 pJ) (pG (o7 pJ) (pG (o7 pJ) yK))) yJ):rZ [[ab.mk 1 (a5.2.2.1.map I) .live,ab.mk 1 (a5.2.2.2.1.map I) .live,ab.mk 1 (a5.2.2.2.2.map I) .live]]) (by decide:0≠1) (by decide:0≠2) (by decide:1≠2) (.bj (kQ (o2 aO):hl [(gM aO)]) (rfl:j7 [.af 18 0 (ab.mk 1 (a5.2.2.1.map I) .live),.af 18 1 (ab.mk 1 (a5.2.2.2.1.map I) .live),.af 18 2 (ab.mk 1 (a5.2.2.2.2.map I) .live)] 0 0=some (18,0)) (rfl:a5.2.2.1.length=a5.2.2.1.length) (rfl:j7 [.af 18 0 (ab.mk 1 (a5.2.2.1.map I) .live),.af 18 1 (ab.mk 1 (a5.2.2.2.1.map I) .live),.af 18 2 (ab.mk 1 (a5.2.2.2.2.map I) .live)] 1 0=some (18,1)) (rfl:a5.2.2.2.1.length=a5.2.2.2.1.length) (rfl:j7 [.af 18 0 (ab.mk 1 (a5.2.2.1.map I) .live),.af 18 1 (ab.mk 1 (a5.2.2.2.1.map I) .live),.af 18 2 (ab.mk 1 (a5.2.2.2.2.map I) .live)] 2 0=some (18,2)) (rfl:a5.2.2.2.2.length=a5.2.2.2.2.length) (rfl:di (some [ab.mk 1 (a5.2.2.1.map I) .live,ab.mk 1 (a5.2.2.2.1.map I) .live,ab.mk 1 (a5.2.2.2.2.map I) .live]) 0=some (ab.mk 1 (a5.2.2.1.map I) .live)) (.bj bb (rfl:di (some [ab.mk 1 (a5.2.2.1.map I) .live,ab.mk 1 (a5.2.2.2.1.map I) .live,ab.mk 1 (a5.2.2.2.2.map I) .live]) 1=some (ab.mk 1 (a5.2.2.2.1.map I) .live)) aR (rfl:di (some [ab.mk 1 (a5.2.2.1.map I) .live,ab.mk 1 (a5.2.2.2.1.map I) .live,ab.mk 1 (a5.2.2.2.2.map I) .live]) 2=some (ab.mk 1 (a5.2.2.2.2.map I) .live)) (eI 1 aD a5.2.2.2.2) bb aR (eI 1 aD dW.2.2.2.2.2.2.2.2.2) (.az (UN dW cd)))))))))))))
  (fun ak =>
  .ret (bW [(ad 3),.aG (ae 1 (ah (.call {ac:=[.bN (.ptr [.id,.id]),ii],r:= .b aq,dq:=true,dv:=[0]}) (ae 2 (cm 2 (ah (.aj true) (ae 1 (cm 5 (ae 1 [])))))))),.aj true,(ad 3)] (cb.aZ (.bj (dR ak) (dR ak) (dR ak) bl bl bl bl bl (.az bl))) (.comp [.agg [.id,.fM 1,.fM 1,.id,.fM 1,.fM 1,.id,.id],.cj .id]))))
def qg (bf bd:Option bF):Option (Option bF) :=
 bf.elim
 (some (none:(Option bF)))
 fun dM =>
 bd.elim
 (some (none:(Option bF)))
 fun oe =>
 x2 bf bd >>= fun ba =>
 sv ba >>= fun bI =>
 some bI
theorem vj {bf bd:Option bF}:b1 (qg bf bd) (fun r=>Con bt 48 [dK 3 bh bf,dK 3 bh bd] [] (dK 3 bh r) []):=by
 unfold qg
 exact .l3 (fun o =>
  .ret (bW [(ad 1),.aG (ae 1 (ah (.eR 5 (.ef 3 none) .cU) (ae 1 (cm 2 (ae 1 []))))),.aj true,(ad 1)] (.dn (pX (sz:=3) (f:=bh) o) bl bl bl) (.bN (.cj (.ll 3)))))
  (fun dM o =>
  (have cb:=((.b2 (jo (sz:=3) (f:=bh) o) ez ez):c1 _);
  .l3 (fun ak =>
  .ret (bW [(ad 1),.aG (ae 1 (ah (.eR 5 (.ef 3 (some (bh dM))) .cU) (bQ 2 (.eR 8 (.ef 3 none) .cU) 1))),.aj true,(ad 1)] (cb.aZ (.aH (pX (sz:=3) (f:=bh) ak) bl)) (.bN (.cj (.ll 3)))))
  (fun oe ak =>
  .aw fun ba bu =>
  .aw fun bI bn =>
  .ret (bW [(ad 1),.aG (ae 1 (ah (.eR 5 (.ef 3 (some (bh dM))) .cU) (bQ 2 (.eR 8 (.ef 3 (some (bh oe))) .cU) 1))),.aj false,.aG (ae 2 (ah (bD 2 (dK 3 bh ba) false) (ah (bD 1 (dK 3 bh bI) false) (ae 1 []))))] (cb.aZ (.dn (jo (sz:=3) (f:=bh) ak) ez (NP ba bu) (Aw bI bn)))))))
def He (ch:List (Option bF))(fU:List ev)(jJ:Int):(Int×(List (Option bF)))→S:=fun (gw,au)=>eV [(1,.isl 1 (ch.map (c0 3 bh))),(5,.bC 0 0 0 au.length),(16,.isl 2 (fU.map ek)),(17,.n .i64 jJ),(18,.n .i64 gw)] [(av 1 (c0 3 bh) au)]
def Hi (ch:List (Option bF))(fU:List ev)(jJ:Int):(List (Option bF))→e3
 | a=>⟨some 0,[(5,.bC 0 0 0 a.length)],[(av 1 (c0 3 bh) a)]⟩
def xl (ch:List (Option bF))(fU:List ev)(jJ gw:Int)(au:List (Option bF)):Option ((Int×(List (Option bF)))⊕((List (Option bF)))) :=
 if (decide (gw<jJ))=true then
  if 0≤gw∧gw<fU.length then
  fU[gw.toNat]? >>= fun aQ =>
  if 0≤gw∧gw<ch.length then
  ch[gw.toNat]? >>= fun cP =>
  if (decide (aQ.pM<(0:Int)))=true then
   vv cP >>= fun bk =>
   if 0≤aQ.hr∧aQ.hr<(au.length:Nat) then
   au[(0+aQ.hr.toNat)]? >>= fun zH =>
   zH.elim
   (if (0+aQ.hr.toNat)<au.length then
     some (.inl (U (gw+(1:Int)),au.set (0+aQ.hr.toNat) bk))
     else none)
   fun SZ =>
   qg zH bk >>= fun dy =>
   if (0+aQ.hr.toNat)<au.length then
   some (.inl (U (gw+(1:Int)),au.set (0+aQ.hr.toNat) dy))
   else none
   else none
  else
   if 0≤aQ.hr∧aQ.hr<(au.length:Nat) then
   au[(0+aQ.hr.toNat)]? >>= fun iY =>
   iY.elim
   (if (0+aQ.hr.toNat)<au.length then
     some (.inl (U (gw+(1:Int)),au.set (0+aQ.hr.toNat) cP))
     else none)
   fun S0 =>
   qg iY cP >>= fun fJ =>
   if (0+aQ.hr.toNat)<au.length then
   some (.inl (U (gw+(1:Int)),au.set (0+aQ.hr.toNat) fJ))
   else none
   else none
  else none
  else none
 else
  some (.inr au)
def Hv (ch:List (Option bF))(fU:List ev)(jJ gw:Int)(au:List (Option bF)):Option ((List (Option bF))):=iter (fun w:Int×(List (Option bF))=>xl ch fU jJ w.1 w.2) (gw,au)
theorem Uv {ch:List (Option bF)}{fU:List ev}{jJ gw:Int}{au:List (Option bF)}:b1 (xl ch fU jJ gw au) (fA bt 56 0 69 [1,1,0,1,0,0] (He ch fU jJ (gw,au)) (He ch fU jJ) (Hi ch fU jJ)):=by
 unfold xl
 exact .ite (fun o =>
  .bq fun J =>
  .aw fun aQ ay =>
  .bq fun aI =>
  .aw fun cP bx =>
  (let t1:List cK:=[(ad 1),.aj true,.aG (bQ 2 (.cA (ek aQ)) 3),.aG (bQ 3 (.cA ((c0 3 bh) cP)) 1),(ad 3)];
  have a4:=((.fr o J.1 (d9 ek J.2) (cD ek ay) aI.1 (d9 (c0 3 bh) aI.2) (cD (c0 3 bh) bx)):c1 _);
  .ite (fun bn =>
  .aw fun bk cV =>
  .bq fun cZ =>
  .aw fun zH ec =>
  (let t3:List cK:=t1.append [.aj true,.aG (bQ 1 (bD 1 (dK 3 bh bk) false) 1)];
  have fK:=a4.aZ (.ej bn (D5 bk cV) cZ.1 cZ.2 (cD (c0 3 bh) ec));
  .l3 (fun eL =>
  .bq fun jq =>
  .ret (bT (t3.append [.aG (ae 4 (ah (.cA ((c0 3 bh) zH)) (ah (.eR 36 (.ef 3 none) .cU) []))),.aj true,.aG (ae 5 (ah .cU [])),(ad 2),.bp [0] [.d3 (av 1 (c0 3 bh) (au.set (0+aQ.hr.toNat) bk))] [(1,ii),(5,gQ ((au.set (0+aQ.hr.toNat) bk).length)),(16,ii),(17,ii),(18,ii)]]) (fK.aZ (.bj (pX (sz:=3) (f:=bh) eL) bl cZ.1 cZ.2 (hk (c0 3 bh) jq) (gL 1) (eX 1 .live (fP (dV (c0 3 bh) au) (0+aQ.hr.toNat) bk)) (aF 1 .live (lP (sz:=3) kf) (au.set (0+aQ.hr.toNat) bk)) (.az (gN (ft au) (0+aQ.hr.toNat) bk))))))
  (fun SZ eL =>
  .aw fun dy gG =>
  .bq fun jT =>
  .ret (bT (t3.append [.aG (ae 4 (ah (.cA ((c0 3 bh) zH)) (ah (.eR 36 (.ef 3 (some (bh SZ))) .cU) []))),.aj false,.aG (ae 7 (ah (.cA ((c0 3 bh) zH)) (ae 1 (ah (bD 2 (dK 3 bh dy) false) (ae 1 (ah .cU [])))))),(ad 2),.bp [0] [.d3 (av 1 (c0 3 bh) (au.set (0+aQ.hr.toNat) dy))] [(1,ii),(5,gQ ((au.set (0+aQ.hr.toNat) dy).length)),(16,ii),(17,ii),(18,ii)]]) (fK.aZ (.bj (jo (sz:=3) (f:=bh) eL) ez cZ.1 cZ.2 (cD (c0 3 bh) ec) (vj dy gG) cZ.1 cZ.2 (.ej (hk (c0 3 bh) jT) (gL 1) (eX 1 .live (fP (dV (c0 3 bh) au) (0+aQ.hr.toNat) dy)) (aF 1 .live (lP (sz:=3) kf) (au.set (0+aQ.hr.toNat) dy)) (gN (ft au) (0+aQ.hr.toNat) dy))))))))
  (fun bn =>
  .bq fun cd =>
  .aw fun iY cZ =>
  (have fW:=a4.aZ (.dn bn cd.1 cd.2 (cD (c0 3 bh) cZ));
  .l3 (fun dg =>
  .bq fun eL =>
  .ret (bT (t1.append [.aj false,.aG (ae 4 (ah (.cA ((c0 3 bh) iY)) (ah (.eR 36 (.ef 3 none) .cU) []))),.aj true,.aG (ae 5 (ah .cU [])),(ad 2),.bp [0] [.d3 (av 1 (c0 3 bh) (au.set (0+aQ.hr.toNat) cP))] [(1,ii),(5,gQ ((au.set (0+aQ.hr.toNat) cP).length)),(16,ii),(17,ii),(18,ii)]]) (fW.aZ (.bj (pX (sz:=3) (f:=bh) dg) bl cd.1 cd.2 (hk (c0 3 bh) eL) (gL 1) (eX 1 .live (fP (dV (c0 3 bh) au) (0+aQ.hr.toNat) cP)) (aF 1 .live (lP (sz:=3) kf) (au.set (0+aQ.hr.toNat) cP)) (.az (gN (ft au) (0+aQ.hr.toNat) cP))))))
  (fun S0 dg =>
  .aw fun fJ gm =>
  .bq fun jq =>
  .ret (bT (t1.append [.aj false,.aG (ae 4 (ah (.cA ((c0 3 bh) iY)) (ah (.eR 36 (.ef 3 (some (bh S0))) .cU) []))),.aj false,.aG (ae 7 (ah (.cA ((c0 3 bh) iY)) (ae 1 (ah (bD 2 (dK 3 bh fJ) false) (ae 1 (ah .cU [])))))),(ad 2),.bp [0] [.d3 (av 1 (c0 3 bh) (au.set (0+aQ.hr.toNat) fJ))] [(1,ii),(5,gQ ((au.set (0+aQ.hr.toNat) fJ).length)),(16,ii),(17,ii),(18,ii)]]) (fW.aZ (.bj (jo (sz:=3) (f:=bh) dg) ez cd.1 cd.2 (cD (c0 3 bh) cZ) (vj fJ gm) cd.1 cd.2 (.ej (hk (c0 3 bh) jq) (gL 1) (eX 1 .live (fP (dV (c0 3 bh) au) (0+aQ.hr.toNat) fJ)) (aF 1 .live (lP (sz:=3) kf) (au.set (0+aQ.hr.toNat) fJ)) (gN (ft au) (0+aQ.hr.toNat) fJ))))))))))
  (fun o =>
  .ret (bT [(ad 1),.aj false,.bp [0] [.pure] (bO [5])] (.aH o (aF 1 .live (lP (sz:=3) kf) au))))
theorem UQ {ch:List (Option bF)}{fU:List ev}{jJ gw:Int}{au:List (Option bF)}{r} (h:Hv ch fU jJ gw au=some r):fB bt 56 0 69 [1,1,0,1,0,0] (He ch fU jJ) (Hi ch fU jJ) (gw,au) r:=fD (fun _=>Uv) h
def z6 (aO:ck)(ch:List (Option bF)):Option (List (Option bF)) :=
 if 0≤(len_ dm aO.b5)∧(8:Int)*(len_ dm aO.b5)≤281474976710656∧(len_ dm aO.b5)<9223372036854775808 then
 si aO >>= fun bE =>
 Hv ch bE (len_ ek bE) 0 (List.replicate (len_ dm aO.b5).toNat (none:(Option bF)):List (Option bF)) >>= fun aW =>
 some aW
 else none
theorem Vo {aO:ck}{ch:List (Option bF)}:b1 (z6 aO ch) (fun r=>Con bt 69 [.eE 2 [(gM aO)] 0 0,.isl 1 (ch.map (c0 3 bh))] [] (.isl 1 (r.map (c0 3 bh))) []):=by
 unfold z6
 exact .bq fun o =>
  .aw fun bE ak =>
  .aw fun aW aI =>
  .ret (let bb:=len_ dm aO.b5;let aR:=(List.replicate bb.toNat (none:(Option bF)):List (Option bF));bW [(ad 1),.aG (bQ 5 (.cA [(dK 3 bh (none:(Option bF)))]) 1),.aG (bQ 1 (bD 1 (.isl 2 (bE.map ek)) false) 2),.bp [6] [.d3 (av 1 (c0 3 bh) aR)] [(1,ii),(5,gQ (aR.length)),(16,ii),(17,ii),(18,ii)],(Hi ch bE (len_ ek bE) aW).gp,(ad 2)] (.bj o.1 (Int.le_refl bb) o.2.1 o.2.2 (xp bE ak) (eX 1 .live (kS (c0 3 bh) bb.toNat (none:(Option bF)))) (aF 1 .live (lP (sz:=3) kf) aR) (k5 bb.toNat ((none:(Option bF)):(Option bF))) (.dn (UQ aI) (kp (c0 3 bh) aW) (jA (c0 3 bh) aW) (e9 (lP (sz:=3) kf) aW))) (.bN (.cj (.gn (aW.map (c0 3 bh))))))
def sY (aO:ck)(km kl:Int)(d7 cf d1:List Int):Option ((List (Option bF))×(List (Option bF))×Bool) :=
 s8 km kl d7 cf d1 >>= fun aq =>
 if (aq.1 != (0:Int))=true then
  some (([]:List (Option bF)),([]:List (Option bF)),false)
 else
  si aO >>= fun aW =>
  if 0≤(len_ ek aW) then
  if 0≤(len_ ek aW).toNat∧(len_ ek aW).toNat≤aq.2.1.length then
  z6 aO ((aq.2.1.drop 0).take ((len_ ek aW).toNat-0)) >>= fun dW =>
  if (len_ ek aW).toNat≤aq.2.1.length then
  some (dW,(aq.2.1.drop ((len_ ek aW).toNat)).take ((aq.2.1.map (c0 3 bh)).length-(len_ ek aW).toNat),true)
  else none
  else none
  else none
theorem Nq {aO:ck}{km kl:Int}{d7 cf d1:List Int}:b1 (sY aO km kl d7 cf d1) (fun a=>Con bt 36 [.eE 2 [(gM aO)] 0 0,.agg (d5 km kl 0 0 0 d7.length 1 0 0 cf.length 2 0 0 d1.length)] [(av 1 I d7),(av 1 I cf),(av 1 I d1)] (.df [.isl 1 (a.1.map (c0 3 bh)),.isl 1 (a.2.1.map (c0 3 bh)),.b a.2.2]) [(av 1 I d7),(av 1 I cf),(av 1 I d1)]):=by
 unfold sY
 exact .aw fun aq J =>
  (let b7:=d5 km kl 1 0 0 d7.length 2 0 0 cf.length 3 0 0 d1.length;let cC:=d5 km kl 0 0 0 d7.length 1 0 0 cf.length 2 0 0 d1.length;let t1:List cK:=[(ad 4),.aG (ah (.call {aM:=(lh [3,0,1,2]),cr:=[.bw [ab.mk 5 [b7] .live],.pure,.pure,.pure],ac:=[ii],r:= .df [.n .i64 aq.1,.isl 1 (aq.2.1.map (c0 3 bh)),dK 3 bh aq.2.2],dj:=[[ab.mk 5 [b7] .live],(av 1 I d7),(av 1 I cf),(av 1 I d1)],eh:=ii,e1:=[.bw [ab.mk 5 [cC] .live],.pure,.pure,.pure],dv:=[0,1,2,3],dq:=false}) (ae 7 [])),(ad 2)];
  have a4:=((.bj (gS (ke [3,0,1,2]) 5 [b7] [cC] rfl) (gT 5 [cC]) (eI 1 aD d7) (eI 1 aD cf) (eI 1 aD d1) (gS (hK [3,0,1,2]) 5 [cC] [b7] rfl) (gT 5 [b7]) (eI 1 aD d7) (.b2 (eI 1 aD cf) (eI 1 aD d1) (DJ aq J))):c1 _);
  .ite (fun ak =>
  .ret (hE (t1.append [.aj true,(ad 3)]) [0,1,2] [.pure,.pure,.pure] (a4.aZ (.dn ak (aF 1 .live aD d7) (aF 1 .live aD cf) (aF 1 .live aD d1))) (.comp [.cj (.fM 1),.cj (.fM 1),.cj .id])))
  (fun ak =>
  .aw fun aW aI =>
  .bq fun bu =>
  .bq fun bx =>
  .aw fun dW cd =>
  .bq fun cV =>
  .ret (let aR:=len_ ek aW;let bb:=dV (c0 3 bh) aq.2.1;hE (t1.append [.aj false,.aG (bQ 1 (bD 1 (.isl 2 (aW.map ek)) false) 2),.aG (bQ 4 (.call {ac:=[ii,.bN (.cj (.d3 (.isl 1 (((aq.2.1.drop 0).take (aR.toNat-0)).map (c0 3 bh)))))],r:= .isl 1 (dW.map (c0 3 bh)),dq:=false}) 6)]) [0,1,2] [.pure,.pure,.pure] (a4.aZ (.bj ak (xp aW aI) bu bx.1 (uh bb bx.2) (congrArg (aA.isl 1) (pH bb 0 (aR.toNat-0)):(.isl 1 (((aq.2.1.map (c0 3 bh)).drop 0).take (aR.toNat-0)):aA) = .isl 1 (((aq.2.1.drop 0).take (aR.toNat-0)).map (c0 3 bh))) (Vo dW cd) bu (.fq (aaC bb▸cV:aR.toNat≤(aq.2.1.map (c0 3 bh)).length) (Nat.le_refl ((aq.2.1.map (c0 3 bh)).length)) (aF 1 .live aD d7) (aF 1 .live aD cf) (aF 1 .live aD d1) (congrArg (aA.isl 1) (pH bb (aR.toNat) ((aq.2.1.map (c0 3 bh)).length-aR.toNat)):(.isl 1 (((aq.2.1.map (c0 3 bh)).drop (aR.toNat)).take ((aq.2.1.map (c0 3 bh)).length-aR.toNat)):aA) = .isl 1 (((aq.2.1.drop (aR.toNat)).take ((aq.2.1.map (c0 3 bh)).length-aR.toNat)).map (c0 3 bh)))))) (.comp [.cj .id,.cj (.d3 (.isl 1 (((aq.2.1.drop (aR.toNat)).take ((aq.2.1.map (c0 3 bh)).length-aR.toNat)).map (c0 3 bh)))),.cj .id]))))
def Ir (ey:List (Option bF))(c6:Int):(Int×(List c4))→S:=fun (cL,au)=>eV [(4,.bC 0 0 0 au.length),(10,.isl 1 (ey.map (c0 3 bh))),(11,.n .i64 c6),(12,.n .i64 cL)] [(av 3 da au)]
def IB (ey:List (Option bF))(c6:Int):(((List c4))⊕(Unit))→e3
 | .inl a=>⟨some 0,[(4,.bC 0 0 0 a.length)],[(av 3 da a)]⟩
 | .inr a=>⟨none,[(2,.eK),(3,.b false)],[]⟩
def xQ (ey:List (Option bF))(c6 cL:Int)(au:List c4):Option ((Int×(List c4))⊕(((List c4))⊕(Unit))) :=
 if (decide (cL<c6))=true then
  if 0≤cL∧cL<ey.length then
  ey[cL.toNat]? >>= fun aQ =>
  aQ.elim
  (some (.inr (.inr ())))
  fun mQ =>
  qL aQ >>= fun bI =>
  if 0≤cL∧cL<(au.length:Nat) then
  if (0+cL.toNat)<au.length then
  some (.inl (U (cL+(1:Int)),au.set (0+cL.toNat) bI))
  else none
  else none
  else none
 else
  some (.inr (.inl au))
def Jg (ey:List (Option bF))(c6 cL:Int)(au:List c4):Option (((List c4))⊕(Unit)):=iter (fun w:Int×(List c4)=>xQ ey c6 w.1 w.2) (cL,au)
theorem Vp {ey:List (Option bF)}{c6 cL:Int}{au:List c4}:b1 (xQ ey c6 cL au) (fA bt 26 0 38 [1,1,0,1,0,0] (Ir ey c6 (cL,au)) (Ir ey c6) (IB ey c6)):=by
 unfold xQ
 exact .ite (fun o =>
  .bq fun J =>
  .aw fun aQ ay =>
  (let t1:List cK:=[(ad 1),.aj true,.aG (bQ 2 (.cA ((c0 3 bh) aQ)) 2)];
  have a4:=((.dn o J.1 (d9 (c0 3 bh) J.2) (cD (c0 3 bh) ay)):c1 _);
  .l3 (fun aI =>
  .ret (bT (t1.append [.aG (ae 1 (ah (.eR 17 (.ef 3 none) .cU) [])),.aj true,(ad 2),.bp [] [] (bO [2,3])]) (a4.aZ (.aH (pX (sz:=3) (f:=bh) aI) bl))))
  (fun mQ aI =>
  .aw fun bI bn =>
  .bq fun cd =>
  .bq fun cV =>
  .ret (bT (t1.append [.aG (ae 1 (ah (.eR 17 (.ef 3 (some (bh mQ))) .cU) [])),.aj false,.aG (ae 3 (ah (bD 1 (.agg (da bI)) false) (ae 1 (ah .cU [])))),(ad 2),.bp [0] [.d3 (av 3 da (au.set (0+cL.toNat) bI))] [(4,gQ ((au.set (0+cL.toNat) bI).length)),(10,ii),(11,ii),(12,ii)]]) (a4.aZ (.bj (jo (sz:=3) (f:=bh) aI) ez (uc bI bn) cd.1 cd.2 (hk da cV) (gL 3) (eX 3 .live (fP (dV da au) (0+cL.toNat) bI)) (.aH (aF 3 .live Eb (au.set (0+cL.toNat) bI)) (gN (ft au) (0+cL.toNat) bI))))))))
  (fun o =>
  .ret (bT [(ad 1),.aj false,.bp [0] [.pure] (bO [4])] (.aH o (aF 3 .live Eb au))))
theorem NS {ey:List (Option bF)}{c6 cL:Int}{au:List c4}{r} (h:Jg ey c6 cL au=some r):fB bt 26 0 38 [1,1,0,1,0,0] (Ir ey c6) (IB ey c6) (cL,au) r:=fD (fun _=>Vp) h
def ta (dl:List (Option bF)):Option ((List c4)×Bool) :=
 if 0≤(len_ (c0 3 bh) dl)∧(56:Int)*(len_ (c0 3 bh) dl)≤281474976710656∧(len_ (c0 3 bh) dl)<9223372036854775808 then
 Jg dl (len_ (c0 3 bh) dl) 0 (List.replicate (len_ (c0 3 bh) dl).toNat (⟨(⟨false,([]:List Int)⟩:bg),([]:List Int)⟩:c4):List c4) >>= fun bE =>
 match bE with
 | .inl f7=>(some (f7,true))
 | .inr f7=>(some (([]:List c4),false))
 else none
theorem DK {dl:List (Option bF)}:b1 (ta dl) (fun r=>Con bt 38 [.isl 1 (dl.map (c0 3 bh))] [] (.df [.isl 3 (r.1.map da),.b r.2]) []):=by
 unfold ta
 exact .bq fun o =>
  .aw fun bE ak =>
  (let bb:=len_ (c0 3 bh) dl;let aR:=(List.replicate bb.toNat (⟨(⟨false,([]:List Int)⟩:bg),([]:List Int)⟩:c4):List c4);let t1:List cK:=[(ad 2),.aG (bQ 2 (.cA [.b false,.isl 1 (([]:List Int).map I),.isl 1 (([]:List Int).map I)]) 1),(ad 3),.bp [4] [.d3 (av 3 da aR)] [(4,gQ (aR.length)),(10,ii),(11,ii),(12,ii)]];
  have a4:=((.fr o.1 (Int.le_refl bb) o.2.1 o.2.2 (eX 3 .live (kS da bb.toNat (⟨(⟨false,([]:List Int)⟩:bg),([]:List Int)⟩:c4))) (aF 3 .live Eb aR) (k5 bb.toNat ((⟨(⟨false,([]:List Int)⟩:bg),([]:List Int)⟩:c4):c4))):c1 _);
  (by
  rcases bE with f7|f7
  ·exact (.ret (bW (t1.append [(IB dl (len_ (c0 3 bh) dl) (.inl f7)).gp,(ad 3)]) (a4.aZ (.dn (NS ak) (kp da f7) (jA da f7) (e9 Eb f7))) (.comp [.cj (.gn (f7.map da)),.cj .id])))
  ·exact (.ret (bW (t1.append [.sub (.ret) [(2,.eK),(3,.b false)] []]) (a4.aZ (.az (NS ak))) (.comp [.cj (.fM 3),.cj .id])))))
def xY (aO:ck)(cG:List Int):Option ((List c4)×Bool) :=
 yh aO cG >>= fun aq =>
 if aq=true then
  uZ aO cG 0 0 >>= fun aW =>
  sY aO aW.1 aW.2.1 aW.2.2.1 aW.2.2.2.1 aW.2.2.2.2 >>= fun a5 =>
  if a5.2.2=true then
   ta a5.1 >>= fun bk =>
   some (bk.1,bk.2)
  else
   some (([]:List c4),false)
 else
  some (([]:List c4),false)
theorem VK {aO:ck}{cG:List Int}:b1 (xY aO cG) (fun r=>Con bt 10 [.agg (gM aO),.isl 1 (cG.map I)] [] (.df [.isl 3 (r.1.map da),.b r.2]) []):=by
 unfold xY
 exact .aw fun aq J =>
  (let t1:List cK:=[(ad 3),.aG (bQ 2 (bD 2 (.b aq) true) 1)];
  have a4:=((.aH (Of aq J) (cz.b aq)):c1 _);
  .ite (fun ak =>
  .aw fun aW aI =>
  .aw fun a5 bx =>
  (let aR:=eI 1 aD aW.2.2.2.1;let bb:=eI 1 aD aW.2.2.2.2;let b7:=eI 1 aD aW.2.2.1;let t3:List cK:=t1.append [.aj false,.hn 0,.aG (ae 1 (ah (.call {aM:=[],cr:=[],ac:=[.bN (.ptr [.id,.id]),ii,ii,ii],r:= .agg (d5 aW.1 aW.2.1 0 0 0 aW.2.2.1.length 0 1 0 aW.2.2.2.1.length 0 2 0 aW.2.2.2.2.length),dj:=[[ab.mk 1 (aW.2.2.1.map I) .live,ab.mk 1 (aW.2.2.2.1.map I) .live,ab.mk 1 (aW.2.2.2.2.map I) .live]],eh:= .bN (.agg [.id,.id,.id,.id,.id]),e1:=[.bw [ab.mk 1 (aW.2.2.1.map I) .live,ab.mk 1 (aW.2.2.2.1.map I) .live,ab.mk 1 (aW.2.2.2.2.map I) .live]],dv:=[0],dq:=true}) (ah (.call {aM:=[.af 8 0 (ab.mk 1 (aW.2.2.1.map I) .live),.af 8 1 (ab.mk 1 (aW.2.2.2.1.map I) .live),.af 8 2 (ab.mk 1 (aW.2.2.2.2.map I) .live)],cr:=[.pure,.pure,.pure],ac:=[.bN (.ptr [.id,.id]),.bN (.agg [.id,.id,.at_ 0 0 aW.2.2.1.length,.at_ 1 0 aW.2.2.2.1.length,.at_ 2 0 aW.2.2.2.2.length])],r:= .df [.isl 1 (a5.1.map (c0 3 bh)),.isl 1 (a5.2.1.map (c0 3 bh)),.b a5.2.2],dj:=[(av 1 I aW.2.2.1),(av 1 I aW.2.2.2.1),(av 1 I aW.2.2.2.2)],eh:=ii,e1:=[.pure,.pure,.pure],dv:=[0,8],dq:=false}) (ae 7 [])))),(ad 2)];
  have fK:=a4.aZ (.bj (dQ ak) (kQ (o2 aO):hl [(gM aO)]) (el (fu (hK [8]) 1 fj aW.2.2.1) (el (fu (hK [8]) 1 fj aW.2.2.2.1) (el (fu (hK [8]) 1 fj aW.2.2.2.2) (jG (b6:=(hK [8])))))) ((hX rfl (hX rfl (hX rfl qf))):k7 [ab.mk 1 (aW.2.2.1.map I) .live,ab.mk 1 (aW.2.2.2.1.map I) .live,ab.mk 1 (aW.2.2.2.2.map I) .live]) (Ng aW aI) (cz.agg (k4 (cz.n .i64 aW.1) (k4 (cz.n .i64 aW.2.1) (k4 (cz.bC 0 0 0 aW.2.2.1.length) (k4 (cz.bC 0 1 0 aW.2.2.2.1.length) (k4 (cz.bC 0 2 0 aW.2.2.2.2.length) yV)))))) ((yB (pG (o7 pJ) (pG (o7 pJ) (pG (o7 pJ) yK))) yJ):rZ [[ab.mk 1 (aW.2.2.1.map I) .live,ab.mk 1 (aW.2.2.2.1.map I) .live,ab.mk 1 (aW.2.2.2.2.map I) .live]]) (by decide:0≠1) (.bj (by decide:0≠2) (by decide:1≠2) (kQ (o2 aO):hl [(gM aO)]) (rfl:j7 [.af 8 0 (ab.mk 1 (aW.2.2.1.map I) .live),.af 8 1 (ab.mk 1 (aW.2.2.2.1.map I) .live),.af 8 2 (ab.mk 1 (aW.2.2.2.2.map I) .live)] 0 0=some (8,0)) (rfl:aW.2.2.1.length=aW.2.2.1.length) (rfl:j7 [.af 8 0 (ab.mk 1 (aW.2.2.1.map I) .live),.af 8 1 (ab.mk 1 (aW.2.2.2.1.map I) .live),.af 8 2 (ab.mk 1 (aW.2.2.2.2.map I) .live)] 1 0=some (8,1)) (rfl:aW.2.2.2.1.length=aW.2.2.2.1.length) (rfl:j7 [.af 8 0 (ab.mk 1 (aW.2.2.1.map I) .live),.af 8 1 (ab.mk 1 (aW.2.2.2.1.map I) .live),.af 8 2 (ab.mk 1 (aW.2.2.2.2.map I) .live)] 2 0=some (8,2)) (.bj (rfl:aW.2.2.2.2.length=aW.2.2.2.2.length) (rfl:di (some [ab.mk 1 (aW.2.2.1.map I) .live,ab.mk 1 (aW.2.2.2.1.map I) .live,ab.mk 1 (aW.2.2.2.2.map I) .live]) 0=some (ab.mk 1 (aW.2.2.1.map I) .live)) b7 (rfl:di (some [ab.mk 1 (aW.2.2.1.map I) .live,ab.mk 1 (aW.2.2.2.1.map I) .live,ab.mk 1 (aW.2.2.2.2.map I) .live]) 1=some (ab.mk 1 (aW.2.2.2.1.map I) .live)) aR (rfl:di (some [ab.mk 1 (aW.2.2.1.map I) .live,ab.mk 1 (aW.2.2.2.1.map I) .live,ab.mk 1 (aW.2.2.2.2.map I) .live]) 2=some (ab.mk 1 (aW.2.2.2.2.map I) .live)) bb b7 (.b2 aR bb (Nq a5 bx)))));
  .ite (fun bn =>
  .aw fun bk cV =>
  .ret (bW (t3.append [.aj false,.aG (bQ 1 (bD 1 (.df [.isl 3 (bk.1.map da),.b bk.2]) false) 4)]) (fK.aZ (.aH (dQ bn) (DK bk cV)))))
  (fun bn =>
  .ret (bW (t3.append [.aj true,(ad 2)]) (fK.aZ (.az (dR bn))) (.comp [.cj (.fM 3),.cj .id])))))
  (fun ak =>
  .ret (bW (t1.append [.aj true,(ad 2)]) (a4.aZ (.az (dR ak))) (.comp [.cj (.fM 3),.cj .id]))))
def Ar (aS:Int):Option Bool :=
 if (decide (aS<(0:Int)))=true then
  some true
 else
  some (decide ((1000000000:Int)≤aS))
theorem Wx {aS:Int}:b1 (Ar aS) (fun r=>Con bt 107 [.n .i64 aS] [] (.b r) []):=by
 unfold Ar
 exact .ite (fun o =>
  .ret (bW [(ad 1),.aG (ae 3 (cm 2 (ah (.aj true) (ae 1 []))))] (.b2 o o o)))
  (fun o =>
  .ret (bW [(ad 1),.aG (bQ 5 (.aj false) 1)] (.b2 o o o)))
def GM (aO:List Int)(eC:Int):Int→S:=fun eP=>eV [(0,.isl 1 (aO.map I)),(1,.fn 107 []),(7,.n .i64 eC),(8,.n .i64 eP)] []
def Ni (aO:List Int)(eC:Int):((Unit)⊕(Int))→e3
 | .inl a=>⟨some 0,[],[]⟩
 | .inr a=>⟨none,[(4,.n .i64 a)],[]⟩
def w9 (aO:List Int)(eC eP:Int):Option ((Int)⊕((Unit)⊕(Int))) :=
 if (decide (eP<eC))=true then
  if 0≤eP∧eP<aO.length then
  aO[eP.toNat]? >>= fun aQ =>
  Ar aQ >>= fun ba =>
  if ba=true then
   some (.inr (.inr eP))
  else
   some (.inl (U (eP+(1:Int))))
  else none
 else
  some (.inr (.inl ()))
def Hf (aO:List Int)(eC eP:Int):Option ((Unit)⊕(Int)):=iter (fun w:Int=>w9 aO eC w) eP
theorem T8 {aO:List Int}{eC eP:Int}:b1 (w9 aO eC eP) (fA bt 19 0 85 [1,0,1,0,0] (GM aO eC eP) (GM aO eC) (Ni aO eC)):=by
 unfold w9
 exact .ite (fun o =>
  .bq fun J =>
  .aw fun aQ ay =>
  .aw fun ba bu =>
  (let t1:List cK:=[(ad 1),.aj true,(ad 2),.aG (ae 4 (ah (.cA (I aQ)) (ah (bD 1 (.b ba) true) [])))];
  have a4:=((.fq o J.1 (d9 I J.2) (cD I ay) (Wx ba bu) (cz.b ba)):c1 _);
  .ite (fun bx =>
  .ret (bT (t1.append [.aj true,(ad 2),.bp [] [] (bO [4])]) (a4.aZ (.az bx))))
  (fun bx =>
  .ret (bT (t1.append [.aj false,(ad 2),.bp [] [] (bO [0,1,7,8])]) (a4.aZ (.az bx))))))
  (fun o =>
  .ret (bT [(ad 1),.aj false,.bp [] [] []] (.az o)))
theorem Nj {aO:List Int}{eC eP:Int}{r} (h:Hf aO eC eP=some r):fB bt 19 0 85 [1,0,1,0,0] (GM aO eC) (Ni aO eC) eP r:=fD (fun _=>T8) h
def C6 (aO:List Int):Option Int :=
 Hf aO (len_ I aO) 0 >>= fun aq =>
 match aq with
 | .inl bK=>(some (-1))
 | .inr bK=>(some bK)
theorem UC {aO:List Int}:b1 (C6 aO) (fun r=>Con bt 85 [.isl 1 (aO.map I),.fn 107 []] [] (.n .i64 r) []):=by
 unfold C6
 exact .aw fun aq J =>
  (let t1:List cK:=[(ad 1),(ad 3),.bp [] [] (bO [0,1,7,8])];
  (by
  rcases aq with bK|bK
  ·exact (.ret (bW (t1.append [.sub (.exit 0) [] [],(ad 1)]) (.az (Nj J))))
  ·exact (.ret (bW (t1.append [.sub (.ret) [(4,.n .i64 bK)] []]) (.az (Nj J))))))
def xm (aO:List Int):Option Bool :=
 C6 aO >>= fun aq =>
 some (decide ((0:Int)≤aq))
theorem Nk {aO:List Int}:b1 (xm aO) (fun r=>Con bt 55 [.isl 1 (aO.map I),.fn 107 []] [] (.b r) []):=by
 unfold xm
 exact .aw fun aq J =>
  .ret (bW [(ad 1),.aG (bQ 2 (bD 2 (.n .i64 aq) true) 2)] (.aH (UC aq J) (cz.n .i64 aq)))
def vn (bf:List Int):Option Bool :=
 if (decide ((60:Int)<(len_ I bf)))=true then
  some false
 else
  if (decide ((0:Int)<(len_ I bf)))=true then
   if 0≤(U ((len_ I bf)-(1:Int)))∧(U ((len_ I bf)-(1:Int)))<bf.length then
   bf[(U ((len_ I bf)-(1:Int))).toNat]? >>= fun gI =>
   if (gI == (0:Int))=true then
    some false
   else
    xm bf >>= fun bI =>
    some (!bI)
   else none
  else
   xm bf >>= fun a9 =>
   some (!a9)
theorem Ox {bf:List Int}:b1 (vn bf) (fun r=>Con bt 92 [.isl 1 (bf.map I)] [] (.b r) []):=by
 unfold vn
 exact .ite (fun o =>
  .ret (bW [(ad 1),.aG (ae 4 (cm 4 (ae 7 (cm 1 (ah (.aj true) []))))),.aj true,(ad 1)] (.fr o o o o o o bl)))
  (fun o =>
  .ite (fun J =>
  .bq fun ak =>
  .aw fun gI aI =>
  (let t1:List cK:=[(ad 1),.aG (ae 13 (ah (.cA (I gI)) (ae 1 (ah (.aj true) (ah (.aj false) [])))))];
  have a4:=((.bj o o o o J J J J (.bj J ak.1 (d9 I ak.2) J (cD I aI) J o J (.az o))):c1 _);
  .ite (fun bu =>
  .ret (bW (t1.append [.aj true,(ad 1)]) (a4.aZ (.az bu))))
  (fun bu =>
  .aw fun bI bn =>
  .ret (bW (t1.append [.aj false,.aG (bQ 1 (bD 2 (.b bI) true) 2)]) (a4.aZ (.b2 bu (Nk bI bn) (cz.b bI)))))))
  (fun J =>
  .aw fun a9 ay =>
  .ret (bW [(ad 1),.aG (ae 8 (cm 7 (ah (.aj false) (ah (.aj false) [])))),.aj false,.aG (bQ 1 (bD 2 (.b a9) true) 2)] (.bj o o o o J J J J (.bj J J J o J o ez (Nk a9 ay) (.az (cz.b a9)))))))
def Al (ch:bg):Option Bool :=
 vn ch.cB >>= fun aq =>
 if aq=true then
  if ch.cY=true then
   some (!((len_ I ch.cB) == (0:Int)))
  else
   some true
 else
  some false
theorem Wm {ch:bg}:b1 (Al ch) (fun r=>Con bt 91 [.agg (aT ch)] [] (.b r) []):=by
 unfold Al
 exact .aw fun aq J =>
  (have cb:=((.aH (Ox aq J) (cz.b aq)):c1 _);
  .ite (fun ak =>
  .ite (fun ay =>
  .ret (bW [(ad 2),.aG (ae 2 (ah (bD 1 (.b aq) true) (ae 8 (ah (.aj true) (bQ 1 (.aj true) 1)))))] (cb.aZ (.bj ak ak ak ay ay ay ay ak (.b2 ay ak ak)))))
  (fun ay =>
  .ret (bW [(ad 2),.aG (ae 2 (ah (bD 1 (.b aq) true) (ae 4 (cm 4 (ah (.aj false) (bQ 1 (.aj true) 1))))))] (cb.aZ (.bj ak ak ak ay ay ay ay ak (.b2 ay ak ak))))))
  (fun ak =>
  .ret (bW [(ad 2),.aG (ae 2 (ah (bD 1 (.b aq) true) (ae 1 (cm 3 (ae 4 (cm 2 (ah (.aj false) (ae 1 []))))))))] (cb.aZ (.fq ak ak ak ak ak ak)))))
def yq (c5:c4):Option Bool :=
 Al c5.fN >>= fun aq =>
 if aq=true then
  vn c5.gE >>= fun aW =>
  if aW=true then
   if ((len_ I c5.gE) == (0:Int))=true then
    some false
   else
    if (decide ((24:Int)<(len_ I c5.fN.cB)))=true then
     some false
    else
     if (decide ((24:Int)<(len_ I c5.gE)))=true then
      some false
     else
      yg c5.fN.cB c5.gE >>= fun dc =>
      qc dc ([1]:List Int) >>= fun eW =>
      some (eW == (0:Int))
  else
   some false
 else
  some false
theorem WR {c5:c4}:b1 (yq c5) (fun r=>Con bt 71 [.agg (da c5)] [] (.b r) []):=by
 unfold yq
 exact .aw fun aq J =>
  (have cb:=((.aH (Wm aq J) (cz.b aq)):c1 _);
  .ite (fun ak =>
  .aw fun aW aI =>
  (have a4:=cb.aZ (.fr (dQ ak) (dQ ak) (dQ ak) (Ox aW aI) (cz.b aW) (dQ ak) (dQ ak));
  .ite (fun bu =>
  (have fW:=a4.aZ (.ej (dQ bu) (dQ bu) (dQ bu) (dQ bu) (dQ bu));
  .ite (fun bx =>
  .ret (bW [(ad 2),.aG (ae 2 (ah (bD 1 (.b aq) true) (ae 4 (ah (bD 1 (.b aW) true) (ae 1 (ah (.aj false) (ae 5 (ah (.aj false) (ae 1 (cm 5 (ah (.aj true) (ae 1 (cm 4 (ae 1 [])))))))))))))),.aj true,(ad 1)] (fW.aZ (.bj bx bx bx bx bx bx bl bl (.b2 bl bl bl)))))
  (fun bx =>
  .ite (fun bn =>
  .ret (bW [(ad 2),.aG (ae 2 (ah (bD 1 (.b aq) true) (ae 4 (ah (bD 1 (.b aW) true) (ae 1 (ah (.aj false) (ae 5 (ah (.aj false) (ae 6 (ah (.aj false) (ae 1 (cm 4 (ah (.aj true) []))))))))))))),.aj true,(ad 1)] (fW.aZ (.bj bx bx bx bx bx bx bn bn (.dn bn bn bn bl)))))
  (fun bn =>
  (let t4:List cK:=[(ad 2),.aG (ae 2 (ah (bD 1 (.b aq) true) (ae 4 (ah (bD 1 (.b aW) true) (ae 1 (ah (.aj false) (ae 5 (ah (.aj false) (ae 6 (ah (.aj false) (ae 5 (ah (.aj false) []))))))))))))];
  have lM:=fW.aZ (.bj bx bx bx bx bx bx bn bn (.b2 bn bn bn));
  .ite (fun cd =>
  .ret (bW (t4.append [.aj true,(ad 1)]) (lM.aZ (.az cd))))
  (fun cd =>
  .aw fun dc cZ =>
  .aw fun eW ec =>
  .ret (bW (t4.append [.aj false,.aG (ae 5 (ah (bD 2 (.isl 1 (dc.map I)) false) (bQ 1 (.call {ac:=[ii,.bN (.cj (.gn (([1]:List Int).map I)))],r:= .n .i64 eW,dq:=true,dv:=[37]}) 2)))]) (lM.aZ (.fr cd (Oc dc cZ) (lO (show [[.n .i64 (1:Int)]]=(([1]:List Int)).map I from rfl) (show 1=([1]:List Int).length from rfl)) (mN I 1) (e9 aD ([1]:List Int)) (x1 eW ec) (cz.n .i64 eW))))))))))
  (fun bu =>
  .ret (bW [(ad 2),.aG (ae 2 (ah (bD 1 (.b aq) true) (ae 4 (ah (bD 1 (.b aW) true) (ae 1 (ah (.aj false) (ae 1 (cm 4 (ah (.aj true) (ae 1 (cm 5 (ae 2 (cm 4 (ae 1 [])))))))))))))),.aj true,(ad 1)] (a4.aZ (.bj (dR bu) (dR bu) (dR bu) (dR bu) (dR bu) bl bl bl (.fr bl bl bl bl bl bl bl)))))))
  (fun ak =>
  .ret (bW [(ad 2),.aG (ae 2 (ah (bD 1 (.b aq) true) (ae 2 (cm 4 (ah (.aj true) (ae 1 (cm 4 (ae 2 (cm 5 (ae 2 (cm 4 (ae 1 [])))))))))))),.aj true,(ad 1)] (cb.aZ (.bj (dR ak) (dR ak) (dR ak) (dR ak) (dR ak) bl bl bl (.bj bl bl bl bl bl bl bl bl (.b2 bl bl bl)))))))
def qd (c5:c4):Option (Option bF) :=
 yq c5 >>= fun aq =>
 if aq=true then
  some (some (⟨c5.fN,c5.gE⟩:bF))
 else
  some (none:(Option bF))
theorem ry {c5:c4}:b1 (qd c5) (fun r=>Con bt 40 [.agg (da c5)] [] (dK 3 bh r) []):=by
 unfold qd
 exact .aw fun aq J =>
  (let t1:List cK:=[(ad 2),.aG (bQ 1 (bD 1 (.b aq) true) 1)];
  have a4:=((.aH (WR aq J) (cz.b aq)):c1 _);
  .ite (fun ak =>
  .ret (bW (t1.append [.aj false,(ad 7)]) (a4.aZ (.aH (dQ ak) (kQ (kf (⟨c5.fN,c5.gE⟩:bF)):hl [(da c5)]))) (.bN (.tx [.id,.id,.id]))))
  (fun ak =>
  .ret (bW (t1.append [.aj true,(ad 1)]) (a4.aZ (.az (dR ak))) (.bN (.cj (.ll 3))))))
def ru (ch:Option bF):Option Int :=
 ch >>= fun eM =>
 o3 eM.qq >>= fun a9 =>
 some a9
theorem Aa {ch:Option bF}:b1 (ru ch) (fun r=>Con bt 46 [(dK 3 bh ch)] [] (.n .i64 r) []):=by
 unfold ru
 exact .aw fun eM J =>
  .aw fun a9 ay =>
  .ret (bW [(ad 1),.aG (ae 1 (ah (.eR 3 (.ef 3 (some (bh eM))) .cU) (bQ 2 (bD 1 (.n .i64 a9) true) 1)))] (.b2 (jo (sz:=3) (f:=bh) J) (s0 a9 ay) (cz.n .i64 a9)))
def s5 (ch eQ:Option bF):Option Int :=
 eQ >>= fun eM =>
 qG ch eM.pQ >>= fun a9 =>
 ch >>= fun me =>
 qG eQ me.pQ >>= fun bI =>
 sj a9 bI >>= fun bk =>
 some bk
theorem Du {ch eQ:Option bF}:b1 (s5 ch eQ) (fun r=>Con bt 41 [dK 3 bh ch,dK 3 bh eQ] [] (.n .i64 r) []):=by
 unfold s5
 exact .aw fun eM J =>
  .aw fun a9 ay =>
  .aw fun me bu =>
  .aw fun bI bn =>
  .aw fun bk cV =>
  .ret (bW [(ad 1),.aG (ae 2 (ah (.eR 6 (.ef 3 (some (bh eM))) .cU) (ae 2 (ah (bD 2 (.agg (aT a9)) false) (ae 2 (ah (.eR 12 (.ef 3 (some (bh me))) .cU) (ae 2 (ah (bD 2 (.agg (aT bI)) false) (ah (bD 2 (.n .i64 bk) true) (ae 1 []))))))))))] (.fq (jo (sz:=3) (f:=bh) J) (Df a9 ay) (jo (sz:=3) (f:=bh) bu) (Df bI bn) (Ny bk cV) (cz.n .i64 bk)))
def DL (ch:rM):Option ((Option bF)×(Option bF)×Bool) :=
 qd ch.sE >>= fun aq =>
 qd ch.rN >>= fun a9 =>
 aq.elim
 (some ((none:(Option bF)),(none:(Option bF)),false))
 fun mQ =>
 a9.elim
 (some ((none:(Option bF)),(none:(Option bF)),false))
 fun rn =>
 if ch.Bg=true then
  ru aq >>= fun dc =>
  if (dc != (0:Int))=true then
   some ((none:(Option bF)),(none:(Option bF)),false)
  else
   if ch.ui=true then
    ru a9 >>= fun fJ =>
    if (fJ != (0:Int))=true then
     some ((none:(Option bF)),(none:(Option bF)),false)
    else
     some (aq,a9,true)
   else
    some (aq,a9,true)
 else
  if ch.ui=true then
   ru a9 >>= fun cI =>
   if (cI != (0:Int))=true then
    some ((none:(Option bF)),(none:(Option bF)),false)
   else
    some (aq,a9,true)
  else
   s5 aq a9 >>= fun cI =>
   some (aq,a9,(decide (cI≤(0:Int))))
theorem Wb {ch:rM}:b1 (DL ch) (fun r=>Con bt 39 [.agg (um ch)] [] (.df [dK 3 bh r.1,dK 3 bh r.2.1,.b r.2.2]) []):=by
 unfold DL
 exact .aw fun aq J =>
  .aw fun a9 ay =>
  (let t1:List cK:=[(ad 4),.aG (ae 2 (ah (bD 1 (dK 3 bh aq) false) (bQ 2 (bD 1 (dK 3 bh a9) false) 2)))];
  have a4:=((.aH (ry aq J) (ry a9 ay)):c1 _);
  .l3 (fun aI =>
  .ret (bW (t1.append [.aG (ae 1 (ah (.eR 13 (.ef 3 none) .cU) (ae 1 (cm 2 (ae 2 (cm 3 (ae 3 (cm 1 (ae 2 (cm 3 (ae 3 (cm 1 (ae 1 []))))))))))))),.aj true,(ad 3)]) (a4.aZ (.bj (pX (sz:=3) (f:=bh) aI) bl bl bl bl bl bl bl (.dn bl bl bl bl))) (.comp [.cj (.ll 3),.cj (.ll 3),.cj .id])))
  (fun mQ aI =>
  (have fW:=a4.aZ (.b2 (jo (sz:=3) (f:=bh) aI) ez ez);
  .l3 (fun bx =>
  .ret (bW (t1.append [.aG (ae 1 (ah (.eR 13 (.ef 3 (some (bh mQ))) .cU) (ae 2 (ah (.eR 16 (.ef 3 none) .cU) (ae 2 (cm 3 (ae 3 (cm 1 (ae 2 (cm 3 (ae 3 (cm 1 (ae 1 []))))))))))))),.aj true,(ad 3)]) (fW.aZ (.bj (pX (sz:=3) (f:=bh) bx) bl bl bl bl bl bl bl (.aH bl bl))) (.comp [.cj (.ll 3),.cj (.ll 3),.cj .id])))
  (fun rn bx =>
  (have fK:=fW.aZ (.dn (jo (sz:=3) (f:=bh) bx) ez ez ez);
  .ite (fun cd =>
  .aw fun dc cZ =>
  (have lM:=fK.aZ (.fr cd cd (Aa dc cZ) (cz.n .i64 dc) cd ez cd);
  .ite (fun dg =>
  .ret (bW (t1.append [.aG (ae 1 (ah (.eR 13 (.ef 3 (some (bh mQ))) .cU) (ae 2 (ah (.eR 16 (.ef 3 (some (bh rn))) .cU) (ae 6 (ah (bD 1 (.n .i64 dc) true) (ae 1 (ah (.aj true) (ae 2 (cm 3 (ae 3 (cm 1 (ah (.aj true) []))))))))))))),.aj true,(ad 3)]) (lM.aZ (.fq dg dg dg dg dg bl)) (.comp [.cj (.ll 3),.cj (.ll 3),.cj .id])))
  (fun dg =>
  .ite (fun ec =>
  .aw fun fJ gm =>
  (let t6:List cK:=t1.append [.aG (ae 1 (ah (.eR 13 (.ef 3 (some (bh mQ))) .cU) (ae 2 (ah (.eR 16 (.ef 3 (some (bh rn))) .cU) (ae 6 (ah (bD 1 (.n .i64 dc) true) (ae 1 (ah (.aj true) (ae 6 (ah (bD 1 (.n .i64 fJ) true) (ae 1 (ah (.aj true) (ah (.aj false) [])))))))))))))];
  have CN:=lM.aZ (.bj dg dg dg ec ec (Aa fJ gm) (cz.n .i64 fJ) ec (.b2 dg ec dg));
  .ite (fun jq =>
  .ret (bW (t6.append [.aj true,(ad 3)]) (CN.aZ (.az jq)) (.comp [.cj (.ll 3),.cj (.ll 3),.cj .id])))
  (fun jq =>
  .ret (bW (t6.append [.aj false,.aG (ae 5 (cm 2 (ah (.aj true) (ae 1 (cm 4 (ae 4 []))))))]) (CN.aZ (.hB jq cd cd cd bl bl bl bl))))))
  (fun ec =>
  .ret (bW (t1.append [.aG (ae 1 (ah (.eR 13 (.ef 3 (some (bh mQ))) .cU) (ae 2 (ah (.eR 16 (.ef 3 (some (bh rn))) .cU) (ae 6 (ah (bD 1 (.n .i64 dc) true) (ae 1 (ah (.aj true) (ae 5 (cm 3 (ah (.aj false) (ah (.aj false) [])))))))))))),.aj false,.aG (ae 5 (cm 2 (ah (.aj true) (ae 1 (cm 4 (ae 4 []))))))]) (lM.aZ (.bj dg dg dg ec ec ec dg ec (.bj dg ez cd cd cd bl bl bl (.az bl)))))))))
  (fun cd =>
  .ite (fun cV =>
  .aw fun cI dg =>
  (let t5:List cK:=t1.append [.aG (ae 1 (ah (.eR 13 (.ef 3 (some (bh mQ))) .cU) (ae 2 (ah (.eR 16 (.ef 3 (some (bh rn))) .cU) (ae 5 (cm 3 (ah (.aj false) (ae 6 (ah (bD 1 (.n .i64 cI) true) (bQ 1 (.aj true) 1))))))))))];
  have od:=fK.aZ (.bj cd cd cd ez cd ez ez ez (.fr cV cV (Aa cI dg) (cz.n .i64 cI) cV ez cV));
  .ite (fun ec =>
  .ret (bW (t5.append [.aj true,(ad 3)]) (od.aZ (.az ec)) (.comp [.cj (.ll 3),.cj (.ll 3),.cj .id])))
  (fun ec =>
  .ret (bW (t5.append [.aj false,.aG (ae 7 (ah (.aj false) (ae 1 (cm 4 (ah (.aj true) (ae 3 []))))))]) (od.aZ (.bj ec cd cd cd cV cV cV cV (.az cV)))))))
  (fun cV =>
  .aw fun cI dg =>
  .ret (bW (t1.append [.aG (ae 1 (ah (.eR 13 (.ef 3 (some (bh mQ))) .cU) (ae 2 (ah (.eR 16 (.ef 3 (some (bh rn))) .cU) (ae 5 (cm 3 (ah (.aj false) (ae 5 (cm 3 (ah (.aj false) (ae 1 []))))))))))),.aj false,.aG (ae 7 (ah (.aj false) (ae 3 (ah (bD 2 (.n .i64 cI) true) (bQ 1 (.aj false) 3)))))]) (fK.aZ (.bj cd cd cd ez cd ez ez ez (.bj cV cV cV ez cV ez cd cd (.hB cd cV cV cV (Du cI dg) (cz.n .i64 cI) cV cV))))))))))))
def yj (ch:rM)(c5:c4):Option Bool :=
 DL ch >>= fun aq =>
 qd c5 >>= fun a9 =>
 if aq.2.2=true then
  a9.elim
  (some false)
  fun zR =>
  if ch.Bg=true then
   if ch.ui=true then
    some true
   else
    s5 a9 aq.2.1 >>= fun dc =>
    some (decide (dc≤(0:Int)))
  else
   s5 aq.1 a9 >>= fun bk =>
   if (decide (bk≤(0:Int)))=true then
    if ch.ui=true then
     some true
    else
     s5 a9 aq.2.1 >>= fun dp =>
     some (decide (dp≤(0:Int)))
   else
    some false
 else
  some false
theorem WI {ch:rM}{c5:c4}:b1 (yj ch c5) (fun r=>Con bt 11 [.agg (um ch),.agg (da c5)] [] (.b r) []):=by
 unfold yj
 exact .aw fun aq J =>
  .aw fun a9 ay =>
  (let t1:List cK:=[(ad 3),.aG (bQ 1 (bD 1 (.df [dK 3 bh aq.1,dK 3 bh aq.2.1,.b aq.2.2]) false) 7),.aG (bQ 1 (bD 1 (dK 3 bh a9) false) 1)];
  have a4:=((.aH (Wb aq J) (ry a9 ay)):c1 _);
  .ite (fun aI =>
  .l3 (fun bu =>
  .ret (bW (t1.append [.aG (ae 3 (ah (.eR 19 (.ef 3 none) .cU) (ah (.aj true) (ae 1 (cm 3 (ae 4 (cm 1 (ae 2 (cm 3 (ae 4 (cm 1 (ae 2 []))))))))))))]) (a4.aZ (.bj aI aI (pX (sz:=3) (f:=bh) bu) aI ez ez ez ez (.dn ez ez ez ez)))))
  (fun zR bu =>
  (have fW:=a4.aZ (.fr aI aI (jo (sz:=3) (f:=bh) bu) aI bl bl bl);
  .ite (fun bn =>
  (have fK:=fW.aZ (.bj bn bn bn bn bl bn bl bl (.az bl));
  .ite (fun cd =>
  .ret (bW (t1.append [.aG (ae 3 (ah (.eR 19 (.ef 3 (some (bh zR))) .cU) (ah (.aj true) (ae 4 (cm 4 (ah (.aj true) (ae 5 (cm 4 (ah (.aj true) (ae 2 []))))))))))]) (fK.aZ (.fq cd cd cd cd bl cd))))
  (fun cd =>
  .aw fun dc cZ =>
  .ret (bW (t1.append [.aG (ae 3 (ah (.eR 19 (.ef 3 (some (bh zR))) .cU) (ah (.aj true) (ae 4 (cm 4 (ah (.aj true) (ae 7 (ah (bD 2 (.n .i64 dc) true) (bQ 1 (.aj false) 2)))))))))]) (fK.aZ (.hB cd cd cd (Du dc cZ) (cz.n .i64 dc) cd bl cd))))))
  (fun bn =>
  .aw fun bk cV =>
  (have fK:=fW.aZ (.hB bn bn bn (Du bk cV) (cz.n .i64 bk) bn bl bn);
  .ite (fun cZ =>
  .ite (fun dg =>
  .ret (bW (t1.append [.aG (ae 3 (ah (.eR 19 (.ef 3 (some (bh zR))) .cU) (ah (.aj true) (ae 6 (ah (bD 2 (.n .i64 bk) true) (ae 1 (ah (.aj false) (ae 5 (cm 4 (ah (.aj true) (ah (.aj true) (ae 1 []))))))))))))]) (fK.aZ (.bj cZ cZ cZ dg dg dg dg cZ (.aH dg cZ)))))
  (fun dg =>
  .aw fun dp eL =>
  .ret (bW (t1.append [.aG (ae 3 (ah (.eR 19 (.ef 3 (some (bh zR))) .cU) (ah (.aj true) (ae 6 (ah (bD 2 (.n .i64 bk) true) (ae 1 (ah (.aj false) (ae 7 (ah (bD 2 (.n .i64 dp) true) (ae 1 (ah (.aj false) (ah (.aj true) (ae 1 [])))))))))))))]) (fK.aZ (.bj cZ cZ cZ dg dg dg (Du dp eL) (cz.n .i64 dp) (.dn dg cZ dg cZ))))))
  (fun cZ =>
  .ret (bW (t1.append [.aG (ae 3 (ah (.eR 19 (.ef 3 (some (bh zR))) .cU) (ah (.aj true) (ae 6 (ah (bD 2 (.n .i64 bk) true) (ae 1 (ah (.aj false) (ae 2 (cm 3 (ae 4 (cm 1 (ah (.aj false) (ae 1 [])))))))))))))]) (fK.aZ (.ej cZ cZ cZ cZ cZ)))))))))
  (fun aI =>
  .ret (bW (t1.append [.aG (ae 2 (cm 2 (ah (.aj false) (ae 1 (cm 3 (ae 4 (cm 1 (ae 2 (cm 3 (ae 4 (cm 1 (ae 2 []))))))))))))]) (a4.aZ (.bj aI aI aI ez ez ez ez ez (.b2 ez ez ez))))))
def JC (tl:Bool):Option Int :=
 if tl=true then
  some 1
 else
  some (-1)
theorem WJ {tl:Bool}:b1 (JC tl) (fun r=>Con bt 43 [.b tl] [] (.n .i64 r) []):=by
 unfold JC
 exact .ite (fun o =>
  .ret (bW [(ad 1),(ad 1),.aj true,(ad 1)] (.az o)))
  (fun o =>
  .ret (bW [(ad 1),(ad 1),.aj false,(ad 1)] (.az o)))
def GV (bV hs:Int)(c6:List ev)(cL aK aE:Int)(lz lA:List Int):(Int×(List Int))→S:=fun (bU,kk)=>eV [(1,.ref 0 0 0 0),(2,.n .i64 bV),(3,.n .i64 hs),(11,.isl 2 (c6.map ek)),(12,.n .i64 cL),(13,.n .i64 bU)] [[ab.mk 5 [(d5 aK aE 1 0 0 lz.length 1 1 0 lA.length 1 2 0 kk.length)] .live],[ab.mk 1 (lz.map I) .live,ab.mk 1 (lA.map I) .live,ab.mk 1 (kk.map I) .live]]
def G6 (bV hs:Int)(c6:List ev)(cL aK aE:Int)(lz lA:List Int):(List Int)→e3
 | a=>⟨some 0,[],[[ab.mk 5 [(d5 aK aE 1 0 0 lz.length 1 1 0 lA.length 1 2 0 a.length)] .live],[ab.mk 1 (lz.map I) .live,ab.mk 1 (lA.map I) .live,ab.mk 1 (a.map I) .live]]⟩
def GW (bV hs:Int)(c6:List ev)(cL aK aE:Int)(lz lA:List Int)(bU:Int)(kk:List Int):Option ((Int×(List Int))⊕((List Int))) :=
 if (decide (bU<cL))=true then
  if 0≤bU∧bU<c6.length then
  c6[bU.toNat]? >>= fun aQ =>
  if 0≤bU∧bU<(kk.length:Nat) then
  if (0+bU.toNat)<kk.length then
  if (aQ.hr == bV)=true then
   if (0+bU.toNat)<(kk.set (0+bU.toNat) 0).length then
   some (.inl (U (bU+(1:Int)),(kk.set (0+bU.toNat) 0).set (0+bU.toNat) (U (hs*aQ.pM))))
   else none
  else
   some (.inl (U (bU+(1:Int)),kk.set (0+bU.toNat) 0))
  else none
  else none
  else none
 else
  some (.inr kk)
def Nu (bV hs:Int)(c6:List ev)(cL aK aE:Int)(lz lA:List Int)(bU:Int)(kk:List Int):Option ((List Int)):=iter (fun w:Int×(List Int)=>GW bV hs c6 cL aK aE lz lA w.1 w.2) (bU,kk)
theorem Uk {bV hs:Int}{c6:List ev}{cL aK aE:Int}{lz lA:List Int}{bU:Int}{kk:List Int}:b1 (GW bV hs c6 cL aK aE lz lA bU kk) (fA bt 39 2 42 [1,0,0] (GV bV hs c6 cL aK aE lz lA (bU,kk)) (GV bV hs c6 cL aK aE lz lA) (G6 bV hs c6 cL aK aE lz lA)):=by
 unfold GW
 exact .ite (fun o =>
  .bq fun J =>
  .aw fun aQ ay =>
  .bq fun aI =>
  .bq fun bu =>
  (let t1:List cK:=[(ad 1),.aj true,.aG (bQ 2 (.cA (ek aQ)) 3),.aG (ae 6 (ah .cU [])),(ad 4)];
  have a4:=((.hB o J.1 (d9 ek J.2) (cD ek ay) aI.1 aI.2 (hk I bu) (gL 1)):c1 _);
  .ite (fun bx =>
  .bq fun bn =>
  .ret (let aR:=U (hs*aQ.pM);let bb:=dd [0,1];bT (t1.append [.aj true,.aG (ae 10 (ah .cU [])),(ad 2),.bp [0,1] [.box [.id,.id,.id,.id,.len (((kk.set (0+bU.toNat) 0).set (0+bU.toNat) aR).length)],.bw [ab.mk 1 (lz.map I) .live,ab.mk 1 (lA.map I) .live,ab.mk 1 (((kk.set (0+bU.toNat) 0).set (0+bU.toNat) aR).map I) .live]] (bO [1,2,3,11,12,13])]) (a4.aZ (.fr bx aI.1 aI.2 (Be (fP (dV I kk) (0+bU.toNat) 0) bn) (gL 1) (gN (gN (ft kk) (0+bU.toNat) 0) (0+bU.toNat) aR) (el (fu bb 1 fj lz) (el (fu bb 1 fj lA) (el (rl (b6:=bb) 1 .live I (fP (fP (dV I kk) (0+bU.toNat) 0) (0+bU.toNat) aR) (mX fj)) (jG (b6:=bb)))))))))
  (fun bx =>
  .ret (let b7:=dd [0,1];bT (t1.append [.aj false,(ad 2),.bp [0,1] [.box [.id,.id,.id,.id,.len ((kk.set (0+bU.toNat) 0).length)],.bw [ab.mk 1 (lz.map I) .live,ab.mk 1 (lA.map I) .live,ab.mk 1 ((kk.set (0+bU.toNat) 0).map I) .live]] (bO [1,2,3,11,12,13])]) (a4.aZ (.b2 bx (gN (ft kk) (0+bU.toNat) 0) (el (fu b7 1 fj lz) (el (fu b7 1 fj lA) (el (rl (b6:=b7) 1 .live I (fP (dV I kk) (0+bU.toNat) 0) (mX fj)) (jG (b6:=b7)))))))))))
  (fun o =>
  .ret (let cC:=dd [0,1];bT [(ad 1),.aj false,.bp [0,1] [.box [.id,.id,.id,.id,.id],.bw [ab.mk 1 (lz.map I) .live,ab.mk 1 (lA.map I) .live,ab.mk 1 (kk.map I) .live]] []] (.aH o (el (fu cC 1 fj lz) (el (fu cC 1 fj lA) (el (fu cC 1 fj kk) (jG (b6:=cC))))))))
theorem UD {bV hs:Int}{c6:List ev}{cL aK aE:Int}{lz lA:List Int}{bU:Int}{kk:List Int}{r} (h:Nu bV hs c6 cL aK aE lz lA bU kk=some r):fB bt 39 2 42 [1,0,0] (GV bV hs c6 cL aK aE lz lA) (G6 bV hs c6 cL aK aE lz lA) (bU,kk) r:=fD (fun _=>Uk) h
def z0 (aO:ck)(bV hs bY cg:Int)(k8 lD nT:List Int):Option (List Int) :=
 si aO >>= fun aq =>
 Nu bV hs aq (len_ ek aq) bY cg k8 lD 0 nT >>= fun a9 =>
 some a9
theorem UZ {aO:ck}{bV hs bY cg:Int}{k8 lD nT:List Int}:b1 (z0 aO bV hs bY cg k8 lD nT) (fun a=>Con bt 42 [.eE 2 [(gM aO)] 0 0,.ref 0 0 0 0,.n .i64 bV,.n .i64 hs] [[ab.mk 5 [(d5 bY cg 1 0 0 k8.length 1 1 0 lD.length 1 2 0 nT.length)] .live],[ab.mk 1 (k8.map I) .live,ab.mk 1 (lD.map I) .live,ab.mk 1 (nT.map I) .live]] (.df []) [[ab.mk 5 [(d5 bY cg 1 0 0 k8.length 1 1 0 lD.length 1 2 0 a.length)] .live],[ab.mk 1 (k8.map I) .live,ab.mk 1 (lD.map I) .live,ab.mk 1 (a.map I) .live]]):=by
 unfold z0
 exact .aw fun aq J =>
  .aw fun a9 ay =>
  .ret (let aR:=d5 bY cg 1 0 0 k8.length 1 1 0 lD.length 1 2 0 a9.length;let bb:=dd [0,1];hE [.aG (bQ 1 (bD 1 (.isl 2 (aq.map ek)) false) 2),.bp [0,1] [.box [.id,.id,.id,.id,.id],.bw [ab.mk 1 (k8.map I) .live,ab.mk 1 (lD.map I) .live,ab.mk 1 (nT.map I) .live]] (bO [1,2,3,11,12,13]),(G6 bV hs aq (len_ ek aq) bY cg k8 lD a9).gp] [0,1] [.bw [ab.mk 5 [aR] .live],.bw [ab.mk 1 (k8.map I) .live,ab.mk 1 (lD.map I) .live,ab.mk 1 (a9.map I) .live]] (.ej (xp aq J) (el (fu bb 1 fj k8) (el (fu bb 1 fj lD) (el (fu bb 1 fj nT) (jG (b6:=bb))))) (UD ay) (gS bb 5 [aR] [aR] rfl) (el (fu bb 1 fj k8) (el (fu bb 1 fj lD) (el (fu bb 1 fj a9) (jG (b6:=bb)))))))
def sk (aO:ck)(ki:List (List Int))(bV:Int)(tl:Bool):Option ((List c4)×(List c4)×Bool) :=
 ye aO ki >>= fun aq =>
 if aq=true then
  if (decide (bV<(0:Int)))=true then
   some (([]:List c4),([]:List c4),false)
  else
   if (decide ((len_ dm aO.b5)≤bV))=true then
    some (([]:List c4),([]:List c4),false)
   else
    xd aO ki >>= fun a5 =>
    JC tl >>= fun dW =>
    z0 aO bV dW a5.1 a5.2.1 a5.2.2.1 a5.2.2.2.1 a5.2.2.2.2 >>= fun dc =>
    sY aO a5.1 a5.2.1 a5.2.2.1 a5.2.2.2.1 dc >>= fun eW =>
    if eW.2.2=true then
     ta eW.1 >>= fun dS =>
     ta eW.2.1 >>= fun ix =>
     if dS.2=true then
      if ix.2=true then
       some (dS.1,ix.1,true)
      else
       some (([]:List c4),([]:List c4),false)
     else
      some (([]:List c4),([]:List c4),false)
    else
     some (([]:List c4),([]:List c4),false)
 else
  some (([]:List c4),([]:List c4),false)
theorem Vq {aO:ck}{ki:List (List Int)}{bV:Int}{tl:Bool}:b1 (sk aO ki bV tl) (fun r=>Con bt 12 [.agg (gM aO),.isl 1 (ki.map (dL 1 I)),.n .i64 bV,.b tl] [] (.df [.isl 3 (r.1.map da),.isl 3 (r.2.1.map da),.b r.2.2]) []):=by
 unfold sk
 exact .aw fun aq J =>
  (have cb:=((.b2 (kQ (o2 aO):hl [(gM aO)]) (N6 aq J) (cz.b aq)):c1 _);
  .ite (fun ak =>
  (have a4:=cb.aZ (.b2 (dQ ak) (dQ ak) (dQ ak));
  .ite (fun ay =>
  .ret (bW [(ad 4),.aG (ae 1 (ah (.call {ac:=[.bN (.ptr [.id,.id]),ii],r:= .b aq,dq:=true,dv:=[0]}) (ae 4 (ah (.aj false) (ae 1 (cm 5 (ah (.aj true) []))))))),.aj true,(ad 3)] (a4.aZ (.fr ay ay ay ay ay ay bl)) (.comp [.cj (.fM 3),.cj (.fM 3),.cj .id])))
  (fun ay =>
  (let t3:List cK:=[(ad 4),.aG (ae 1 (ah (.call {ac:=[.bN (.ptr [.id,.id]),ii],r:= .b aq,dq:=true,dv:=[0]}) (ae 4 (ah (.aj false) (ae 6 (ah (.aj false) []))))))];
  .ite (fun aI =>
  .ret (bW (t3.append [.aj true,(ad 3)]) (a4.aZ (.fr ay ay ay ay ay ay aI)) (.comp [.cj (.fM 3),.cj (.fM 3),.cj .id])))
  (fun aI =>
  .aw fun a5 bx =>
  .aw fun dW cd =>
  .aw fun dc cZ =>
  .aw fun eW ec =>
  (let aR:=d5 a5.1 a5.2.1 1 0 0 a5.2.2.1.length 1 1 0 a5.2.2.2.1.length 1 2 0 dc.length;let bb:=d5 a5.1 a5.2.1 19 0 0 a5.2.2.1.length 19 1 0 a5.2.2.2.1.length 19 2 0 a5.2.2.2.2.length;let b7:=d5 a5.1 a5.2.1 1 0 0 a5.2.2.1.length 1 1 0 a5.2.2.2.1.length 1 2 0 a5.2.2.2.2.length;let cC:=d5 a5.1 a5.2.1 19 0 0 a5.2.2.1.length 19 1 0 a5.2.2.2.1.length 19 2 0 dc.length;let en:=ke [20,19];let gf:=hK [20,19];let hc:=eI 1 aD a5.2.2.2.1;let fh:=eI 1 aD a5.2.2.1;let t4:List cK:=t3.append [.aj false,.aG (bQ 1 (.call {aM:=[],cr:=[],ac:=[.bN (.ptr [.id,.id]),ii],r:= .agg (d5 a5.1 a5.2.1 0 0 0 a5.2.2.1.length 0 1 0 a5.2.2.2.1.length 0 2 0 a5.2.2.2.2.length),dj:=[[ab.mk 1 (a5.2.2.1.map I) .live,ab.mk 1 (a5.2.2.2.1.map I) .live,ab.mk 1 (a5.2.2.2.2.map I) .live]],eh:= .bN (.agg [.id,.id,.id,.id,.id]),e1:=[.bw [ab.mk 1 (a5.2.2.1.map I) .live,ab.mk 1 (a5.2.2.2.1.map I) .live,ab.mk 1 (a5.2.2.2.2.map I) .live]],dv:=[0],dq:=true}) 2),.hn 0,.aG (ae 2 (ah (bD 1 (.n .i64 dW) true) (ah (.call {aM:=(lh [20,19]),cr:=[.bw [ab.mk 5 [b7] .live],.bw [ab.mk 1 (a5.2.2.1.map I) .live,ab.mk 1 (a5.2.2.2.1.map I) .live,ab.mk 1 (a5.2.2.2.2.map I) .live]],ac:=[.bN (.ptr [.id,.id]),ii,ii,ii],r:= .df [],dj:=[[ab.mk 5 [aR] .live],[ab.mk 1 (a5.2.2.1.map I) .live,ab.mk 1 (a5.2.2.2.1.map I) .live,ab.mk 1 (dc.map I) .live]],eh:=ii,e1:=[.bw [ab.mk 5 [cC] .live],.bw [ab.mk 1 (a5.2.2.1.map I) .live,ab.mk 1 (a5.2.2.2.1.map I) .live,ab.mk 1 (dc.map I) .live]],dv:=[0,19,20],dq:=false}) []))),.aG (bQ 1 (.call {aM:=[.af 19 0 (ab.mk 1 (a5.2.2.1.map I) .live),.af 19 1 (ab.mk 1 (a5.2.2.2.1.map I) .live),.af 19 2 (ab.mk 1 (dc.map I) .live)],cr:=[.pure,.pure,.pure],ac:=[.bN (.ptr [.id,.id]),.bN (.agg [.id,.id,.at_ 0 0 a5.2.2.1.length,.at_ 1 0 a5.2.2.2.1.length,.at_ 2 0 dc.length])],r:= .df [.isl 1 (eW.1.map (c0 3 bh)),.isl 1 (eW.2.1.map (c0 3 bh)),.b eW.2.2],dj:=[(av 1 I a5.2.2.1),(av 1 I a5.2.2.2.1),(av 1 I dc)],eh:=ii,e1:=[.pure,.pure,.pure],dv:=[0,19],dq:=false}) 7),(ad 2)];
  have lM:=a4.aZ (.bj ay ay ay ay ay ay aI (kQ (o2 aO):hl [(gM aO)]) (.bj (el (fu (hK [19]) 1 fj a5.2.2.1) (el (fu (hK [19]) 1 fj a5.2.2.2.1) (el (fu (hK [19]) 1 fj a5.2.2.2.2) (jG (b6:=(hK [19])))))) ((hX rfl (hX rfl (hX rfl qf))):k7 [ab.mk 1 (a5.2.2.1.map I) .live,ab.mk 1 (a5.2.2.2.1.map I) .live,ab.mk 1 (a5.2.2.2.2.map I) .live]) (Nh a5 bx) (cz.agg (k4 (cz.n .i64 a5.1) (k4 (cz.n .i64 a5.2.1) (k4 (cz.bC 0 0 0 a5.2.2.1.length) (k4 (cz.bC 0 1 0 a5.2.2.2.1.length) (k4 (cz.bC 0 2 0 a5.2.2.2.2.length) yV)))))) ((yB (pG (o7 pJ) (pG (o7 pJ) (pG (o7 pJ) yK))) yJ):rZ [[ab.mk 1 (a5.2.2.1.map I) .live,ab.mk 1 (a5.2.2.2.1.map I) .live,ab.mk 1 (a5.2.2.2.2.map I) .live]]) (WJ dW cd) (cz.n .i64 dW) (kQ (o2 aO):hl [(gM aO)]) (.bj (gS en 5 [b7] [bb] rfl) (gT 5 [bb]) (el (fu en 1 fj a5.2.2.1) (el (fu en 1 fj a5.2.2.2.1) (el (fu en 1 fj a5.2.2.2.2) (jG (b6:=en))))) ((hX rfl (hX rfl (hX rfl qf))):k7 [ab.mk 1 (a5.2.2.1.map I) .live,ab.mk 1 (a5.2.2.2.1.map I) .live,ab.mk 1 (a5.2.2.2.2.map I) .live]) (gS gf 5 [cC] [aR] rfl) (gT 5 [aR]) (el (fu gf 1 fj a5.2.2.1) (el (fu gf 1 fj a5.2.2.2.1) (el (fu gf 1 fj dc) (jG (b6:=gf))))) ((hX rfl (hX rfl (hX rfl qf))):k7 [ab.mk 1 (a5.2.2.1.map I) .live,ab.mk 1 (a5.2.2.2.1.map I) .live,ab.mk 1 (dc.map I) .live]) (.bj (UZ dc cZ) (by decide:0≠1) (by decide:0≠2) (by decide:1≠2) (kQ (o2 aO):hl [(gM aO)]) (rfl:j7 [.af 19 0 (ab.mk 1 (a5.2.2.1.map I) .live),.af 19 1 (ab.mk 1 (a5.2.2.2.1.map I) .live),.af 19 2 (ab.mk 1 (dc.map I) .live)] 0 0=some (19,0)) (rfl:a5.2.2.1.length=a5.2.2.1.length) (rfl:j7 [.af 19 0 (ab.mk 1 (a5.2.2.1.map I) .live),.af 19 1 (ab.mk 1 (a5.2.2.2.1.map I) .live),.af 19 2 (ab.mk 1 (dc.map I) .live)] 1 0=some (19,1)) (.bj (rfl:a5.2.2.2.1.length=a5.2.2.2.1.length) (rfl:j7 [.af 19 0 (ab.mk 1 (a5.2.2.1.map I) .live),.af 19 1 (ab.mk 1 (a5.2.2.2.1.map I) .live),.af 19 2 (ab.mk 1 (dc.map I) .live)] 2 0=some (19,2)) (rfl:dc.length=dc.length) (rfl:di (some [ab.mk 1 (a5.2.2.1.map I) .live,ab.mk 1 (a5.2.2.2.1.map I) .live,ab.mk 1 (dc.map I) .live]) 0=some (ab.mk 1 (a5.2.2.1.map I) .live)) fh (rfl:di (some [ab.mk 1 (a5.2.2.1.map I) .live,ab.mk 1 (a5.2.2.2.1.map I) .live,ab.mk 1 (dc.map I) .live]) 1=some (ab.mk 1 (a5.2.2.2.1.map I) .live)) hc (rfl:di (some [ab.mk 1 (a5.2.2.1.map I) .live,ab.mk 1 (a5.2.2.2.1.map I) .live,ab.mk 1 (dc.map I) .live]) 2=some (ab.mk 1 (dc.map I) .live)) (.ej (eI 1 aD dc) fh hc (eI 1 aD dc) (Nq eW ec)))))));
  .ite (fun eL =>
  .aw fun dS jq =>
  .aw fun ix jT =>
  (let t6:List cK:=t4.append [.aj false,.aG (bQ 1 (bD 1 (.df [.isl 3 (dS.1.map da),.b dS.2]) false) 5),.aG (bQ 1 (bD 1 (.df [.isl 3 (ix.1.map da),.b ix.2]) false) 5)];
  have CN:=lM.aZ (.b2 (dQ eL) (DK dS jq) (DK ix jT));
  .ite (fun iM =>
  (let t8:List cK:=t6.append [.aG (ae 5 (ah (.aj false) []))];
  have CO:=CN.aZ (.b2 (dQ iM) (dQ iM) (dQ iM));
  .ite (fun nd =>
  .ret (bW (t8.append [.aj false,(ad 5)]) (CO.aZ (.az (dQ nd)))))
  (fun nd =>
  .ret (bW (t8.append [.aj true,(ad 3)]) (CO.aZ (.az (dR nd))) (.comp [.cj (.fM 3),.cj (.fM 3),.cj .id])))))
  (fun iM =>
  .ret (bW (t6.append [.aG (ae 3 (cm 2 (ah (.aj true) []))),.aj true,(ad 3)]) (CN.aZ (.dn (dR iM) (dR iM) (dR iM) bl)) (.comp [.cj (.fM 3),.cj (.fM 3),.cj .id])))))
  (fun eL =>
  .ret (bW (t4.append [.aj true,(ad 3)]) (lM.aZ (.az (dR eL))) (.comp [.cj (.fM 3),.cj (.fM 3),.cj .id])))))))))
  (fun ak =>
  .ret (bW [(ad 4),.aG (ae 1 (ah (.call {ac:=[.bN (.ptr [.id,.id]),ii],r:= .b aq,dq:=true,dv:=[0]}) (ae 2 (cm 2 (ah (.aj true) (ae 1 (cm 5 (ae 1 [])))))))),.aj true,(ad 3)] (cb.aZ (.bj (dR ak) (dR ak) (dR ak) bl bl bl bl bl (.az bl))) (.comp [.cj (.fM 3),.cj (.fM 3),.cj .id]))))
def I8 (lF lX:List Int)(cL:Int):Int→S:=fun bU=>eV [(0,.isl 1 (lF.map I)),(1,.isl 1 (lX.map I)),(12,.n .i64 cL),(13,.n .i64 bU)] []
def Oh (lF lX:List Int)(cL:Int):((Unit)⊕(Unit))→e3
 | .inl a=>⟨some 0,[],[]⟩
 | .inr a=>⟨none,[(4,.b false)],[]⟩
def x3 (lF lX:List Int)(cL bU:Int):Option ((Int)⊕((Unit)⊕(Unit))) :=
 if (decide (bU<cL))=true then
  if 0≤bU∧bU<lF.length then
  lF[bU.toNat]? >>= fun aQ =>
  if 0≤bU∧bU<lX.length then
  lX[bU.toNat]? >>= fun cP =>
  if (aQ != cP)=true then
   some (.inr (.inr ()))
  else
   some (.inl (U (bU+(1:Int))))
  else none
  else none
 else
  some (.inr (.inl ()))
def JN (lF lX:List Int)(cL bU:Int):Option ((Unit)⊕(Unit)):=iter (fun w:Int=>x3 lF lX cL w) bU
theorem V3 {lF lX:List Int}{cL bU:Int}:b1 (x3 lF lX cL bU) (fA bt 26 0 44 [1,1,0,1,0,0] (I8 lF lX cL bU) (I8 lF lX cL) (Oh lF lX cL)):=by
 unfold x3
 exact .ite (fun o =>
  .bq fun J =>
  .aw fun aQ ay =>
  .bq fun aI =>
  .aw fun cP bx =>
  (let t1:List cK:=[(ad 1),.aj true,(ad 2),.aG (ae 3 (ah (.cA (I aQ)) (bQ 3 (.cA (I cP)) 1)))];
  have a4:=((.fr o J.1 (d9 I J.2) (cD I ay) aI.1 (d9 I aI.2) (cD I bx)):c1 _);
  .ite (fun bn =>
  .ret (bT (t1.append [.aj true,(ad 1),.bp [] [] (bO [4])]) (a4.aZ (.az bn))))
  (fun bn =>
  .ret (bT (t1.append [.aj false,(ad 2),.bp [] [] (bO [0,1,12,13])]) (a4.aZ (.az bn))))))
  (fun o =>
  .ret (bT [(ad 1),.aj false,.bp [] [] []] (.az o)))
theorem Oy {lF lX:List Int}{cL bU:Int}{r} (h:JN lF lX cL bU=some r):fB bt 26 0 44 [1,1,0,1,0,0] (I8 lF lX cL) (Oh lF lX cL) bU r:=fD (fun _=>V3) h
def yM (lF lX:List Int):Option Bool :=
 if ((len_ I lF) != (len_ I lX))=true then
  some false
 else
  JN lF lX (len_ I lF) 0 >>= fun bE =>
  match bE with
  | .inl f7=>(some true)
  | .inr f7=>(some false)
theorem Ph {lF lX:List Int}:b1 (yM lF lX) (fun r=>Con bt 44 [.isl 1 (lF.map I),.isl 1 (lX.map I)] [] (.b r) []):=by
 unfold yM
 exact .ite (fun o =>
  .ret (bW [(ad 1),(ad 5),.aj true,(ad 1)] (.az o)))
  (fun o =>
  .aw fun bE ak =>
  (let t1:List cK:=[(ad 1),(ad 5),.aj false,(ad 3),.bp [] [] (bO [0,1,12,13])];
  (by
  rcases bE with f7|f7
  ·exact (.ret (bW (t1.append [.sub (.exit 0) [] [],(ad 1)]) (.aH o (Oy ak))))
  ·exact (.ret (bW (t1.append [.sub (.ret) [(4,.b false)] []]) (.aH o (Oy ak)))))))
def s7 (c5 aO:c4):Option Bool :=
 if (c5.fN.cY == aO.fN.cY)=true then
  yM c5.fN.cB aO.fN.cB >>= fun bE =>
  if bE=true then
   yM c5.gE aO.gE >>= fun ba =>
   some ba
  else
   some false
 else
  some false
theorem IX {c5 aO:c4}:b1 (s7 c5 aO) (fun r=>Con bt 13 [.agg (da c5),.agg (da aO)] [] (.b r) []):=by
 unfold s7
 exact .ite (fun o =>
  .aw fun bE ak =>
  (have cb:=((.bj o o o o o o o (Ph bE ak) (.aH (cz.b bE) o)):c1 _);
  .ite (fun ay =>
  .aw fun ba bu =>
  .ret (bW [(ad 3),.aG (ae 14 (ah (bD 2 (.b bE) true) (ah (.aj true) (ae 5 (ah (bD 2 (.b ba) true) (ah (.aj true) (ae 1 [])))))))] (cb.aZ (.hB ay ay ay ay ay (Ph ba bu) (cz.b ba) ay))))
  (fun ay =>
  .ret (bW [(ad 3),.aG (ae 14 (ah (bD 2 (.b bE) true) (ah (.aj true) (ae 1 (cm 5 (ah (.aj false) (ae 1 [])))))))] (cb.aZ (.fq ay ay ay ay ay ay))))))
  (fun o =>
  .ret (bW [(ad 3),.aG (ae 8 (cm 7 (ah (.aj false) (ae 1 (cm 5 (ae 2 []))))))] (.bj o o o o o o o o (.ej ez ez ez ez ez))))
def IC (ey:List c4)(c6:Int):(Int×(List (Option bF)))→S:=fun (cL,au)=>eV [(4,.bC 0 0 0 au.length),(10,.isl 3 (ey.map da)),(11,.n .i64 c6),(12,.n .i64 cL)] [(av 1 (c0 3 bh) au)]
def IQ (ey:List c4)(c6:Int):(((List (Option bF)))⊕(Unit))→e3
 | .inl a=>⟨some 0,[(4,.bC 0 0 0 a.length)],[(av 1 (c0 3 bh) a)]⟩
 | .inr a=>⟨none,[(2,.eK),(3,.b false)],[]⟩
def xT (ey:List c4)(c6 cL:Int)(au:List (Option bF)):Option ((Int×(List (Option bF)))⊕(((List (Option bF)))⊕(Unit))) :=
 if (decide (cL<c6))=true then
  if 0≤cL∧cL<ey.length then
  ey[cL.toNat]? >>= fun aQ =>
  qd aQ >>= fun ba =>
  if 0≤cL∧cL<(au.length:Nat) then
  if (0+cL.toNat)<au.length then
  (au.set (0+cL.toNat) ba)[(0+cL.toNat)]? >>= fun gD =>
  gD.elim
  (some (.inr (.inr ())))
  fun S1 =>
  some (.inl (U (cL+(1:Int)),au.set (0+cL.toNat) ba))
  else none
  else none
  else none
 else
  some (.inr (.inl au))
def Jl (ey:List c4)(c6 cL:Int)(au:List (Option bF)):Option (((List (Option bF)))⊕(Unit)):=iter (fun w:Int×(List (Option bF))=>xT ey c6 w.1 w.2) (cL,au)
theorem Vw {ey:List c4}{c6 cL:Int}{au:List (Option bF)}:b1 (xT ey c6 cL au) (fA bt 29 0 74 [1,1,0,1,0,0] (IC ey c6 (cL,au)) (IC ey c6) (IQ ey c6)):=by
 unfold xT
 exact .ite (fun o =>
  .bq fun J =>
  .aw fun aQ ay =>
  .aw fun ba bu =>
  .bq fun bx =>
  .bq fun bn =>
  .aw fun gD cV =>
  (let t1:List cK:=[(ad 1),.aj true,.aG (bQ 2 (.cA (da aQ)) 3),.aG (ae 3 (ah (bD 1 (dK 3 bh ba) false) (ae 1 (ah .cU []))))];
  have a4:=((.bj o J.1 (d9 da J.2) (cD da ay) (ry ba bu) bx.1 bx.2 (hk (c0 3 bh) bn) (.dn (gL 1) bx.1 bx.2 (QK (fP (dV (c0 3 bh) au) (0+cL.toNat) ba) cV))):c1 _);
  .l3 (fun cZ =>
  .ret (bT (t1.append [.aG (ae 3 (ah (.cA ((c0 3 bh) gD)) (ah (.eR 25 (.ef 3 none) .cU) []))),.aj true,(ad 2),.bp [] [] (bO [2,3])]) (a4.aZ (.aH (pX (sz:=3) (f:=bh) cZ) bl))))
  (fun S1 cZ =>
  .ret (bT (t1.append [.aG (ae 3 (ah (.cA ((c0 3 bh) gD)) (ah (.eR 25 (.ef 3 (some (bh S1))) .cU) []))),.aj false,(ad 2),.bp [0] [.d3 (av 1 (c0 3 bh) (au.set (0+cL.toNat) ba))] [(4,gQ ((au.set (0+cL.toNat) ba).length)),(10,ii),(11,ii),(12,ii)]]) (a4.aZ (.ej (jo (sz:=3) (f:=bh) cZ) ez (eX 1 .live (fP (dV (c0 3 bh) au) (0+cL.toNat) ba)) (aF 1 .live (lP (sz:=3) kf) (au.set (0+cL.toNat) ba)) (gN (ft au) (0+cL.toNat) ba)))))))
  (fun o =>
  .ret (bT [(ad 1),.aj false,.bp [0] [.pure] (bO [4])] (.aH o (aF 1 .live (lP (sz:=3) kf) au))))
theorem N1 {ey:List c4}{c6 cL:Int}{au:List (Option bF)}{r} (h:Jl ey c6 cL au=some r):fB bt 29 0 74 [1,1,0,1,0,0] (IC ey c6) (IQ ey c6) (cL,au) r:=fD (fun _=>Vw) h
def AH (dl:List c4):Option ((List (Option bF))×Bool) :=
 if 0≤(len_ da dl)∧(8:Int)*(len_ da dl)≤281474976710656∧(len_ da dl)<9223372036854775808 then
 Jl dl (len_ da dl) 0 (List.replicate (len_ da dl).toNat (none:(Option bF)):List (Option bF)) >>= fun bE =>
 match bE with
 | .inl f7=>(some (f7,true))
 | .inr f7=>(some (([]:List (Option bF)),false))
 else none
theorem WS {dl:List c4}:b1 (AH dl) (fun r=>Con bt 74 [.isl 3 (dl.map da)] [] (.df [.isl 1 (r.1.map (c0 3 bh)),.b r.2]) []):=by
 unfold AH
 exact .bq fun o =>
  .aw fun bE ak =>
  (let aR:=(List.replicate (len_ da dl).toNat (none:(Option bF)):List (Option bF));let t1:List cK:=[(ad 2),.aG (bQ 2 (.cA [(dK 3 bh (none:(Option bF)))]) 1),(ad 3),.bp [4] [.d3 (av 1 (c0 3 bh) aR)] [(4,gQ (aR.length)),(10,ii),(11,ii),(12,ii)]];
  have a4:=((.fr o.1 (Int.le_refl (len_ da dl)) o.2.1 o.2.2 (eX 1 .live (kS (c0 3 bh) (len_ da dl).toNat (none:(Option bF)))) (aF 1 .live (lP (sz:=3) kf) aR) (k5 (len_ da dl).toNat ((none:(Option bF)):(Option bF)))):c1 _);
  (by
  rcases bE with f7|f7
  ·exact (.ret (bW (t1.append [(IQ dl (len_ da dl) (.inl f7)).gp,(ad 3)]) (a4.aZ (.dn (N1 ak) (kp (c0 3 bh) f7) (jA (c0 3 bh) f7) (e9 (lP (sz:=3) kf) f7))) (.comp [.cj (.gn (f7.map (c0 3 bh))),.cj .id])))
  ·exact (.ret (bW (t1.append [.sub (.ret) [(2,.eK),(3,.b false)] []]) (a4.aZ (.az (N1 ak))) (.comp [.cj (.fM 1),.cj .id])))))
def x9 (aO:ck)(fp:List c4):Option ((List (Option bF))×Bool) :=
 if ((len_ da fp) != (len_ dm aO.b5))=true then
  some (([]:List (Option bF)),false)
 else
  qH aO >>= fun bE =>
  if bE=true then
   AH fp >>= fun ba =>
   some (ba.1,ba.2)
  else
   some (([]:List (Option bF)),false)
theorem NT {aO:ck}{fp:List c4}:b1 (x9 aO fp) (fun r=>Con bt 45 [.eE 2 [(gM aO)] 0 0,.isl 3 (fp.map da)] [] (.df [.isl 1 (r.1.map (c0 3 bh)),.b r.2]) []):=by
 unfold x9
 exact .ite (fun o =>
  .ret (bW [(ad 2),.aG (ae 9 (cm 5 (ah (.aj true) []))),.aj true,(ad 2)] (.fr o o o o o o bl) (.comp [.cj (.fM 1),.cj .id])))
  (fun o =>
  .aw fun bE ak =>
  (let t1:List cK:=[(ad 2),.aG (ae 12 (ah (bD 1 (.b bE) true) (ae 1 (ah (.aj false) []))))];
  have a4:=((.hB o o o o (z5 bE ak) (cz.b bE) o o):c1 _);
  .ite (fun ay =>
  .aw fun ba bu =>
  .ret (bW (t1.append [.aj false,.aG (bQ 1 (bD 1 (.df [.isl 1 (ba.1.map (c0 3 bh)),.b ba.2]) false) 4)]) (a4.aZ (.aH (dQ ay) (WS ba bu)))))
  (fun ay =>
  .ret (bW (t1.append [.aj true,(ad 2)]) (a4.aZ (.az (dR ay))) (.comp [.cj (.fM 1),.cj .id])))))
def HG (oz:List (Option bF))(gw:List bP)(po:Int):Int→S:=fun iC=>eV [(5,.isl 1 (oz.map (c0 3 bh))),(18,.isl 3 (gw.map dm)),(19,.n .i64 po),(20,.n .i64 iC)] []
def NC (oz:List (Option bF))(gw:List bP)(po:Int):((Unit)⊕(Unit))→e3
 | .inl a=>⟨some 0,[],[]⟩
 | .inr a=>⟨none,[(4,.b false)],[]⟩
def xz (oz:List (Option bF))(gw:List bP)(po iC:Int):Option ((Int)⊕((Unit)⊕(Unit))) :=
 if (decide (iC<po))=true then
  if 0≤iC∧iC<gw.length then
  gw[iC.toNat]? >>= fun aQ =>
  if 0≤iC∧iC<oz.length then
  oz[iC.toNat]? >>= fun cP =>
  ru cP >>= fun dW =>
  if (aQ.jS == (1:Int))=true then
   if (decide (dW<(0:Int)))=true then
    some (.inr (.inr ()))
   else
    if (aQ.jS == (2:Int))=true then
     if (decide ((0:Int)<dW))=true then
      some (.inr (.inr ()))
     else
      some (.inl (U (iC+(1:Int))))
    else
     some (.inl (U (iC+(1:Int))))
  else
   if (aQ.jS == (2:Int))=true then
    if (decide ((0:Int)<dW))=true then
     some (.inr (.inr ()))
    else
     some (.inl (U (iC+(1:Int))))
   else
    some (.inl (U (iC+(1:Int))))
  else none
  else none
 else
  some (.inr (.inl ()))
def IY (oz:List (Option bF))(gw:List bP)(po iC:Int):Option ((Unit)⊕(Unit)):=iter (fun w:Int=>xz oz gw po w) iC
theorem U0 {oz:List (Option bF)}{gw:List bP}{po iC:Int}:b1 (xz oz gw po iC) (fA bt 47 0 14 [1,1,1,0,1,0,0] (HG oz gw po iC) (HG oz gw po) (NC oz gw po)):=by
 unfold xz
 exact .ite (fun o =>
  .bq fun J =>
  .aw fun aQ ay =>
  .bq fun aI =>
  .aw fun cP bx =>
  .aw fun dW cd =>
  (let t1:List cK:=[(ad 1),.aj true,.aG (bQ 2 (.cA (dm aQ)) 3),.aG (ae 3 (ah (.cA ((c0 3 bh) cP)) (ah (bD 1 (.n .i64 dW) true) (ae 1 []))))];
  have a4:=((.bj o J.1 (d9 dm J.2) (cD dm ay) aI.1 (d9 (c0 3 bh) aI.2) (cD (c0 3 bh) bx) (Aa dW cd) (.az (cz.n .i64 dW))):c1 _);
  .ite (fun cV =>
  .ite (fun cZ =>
  .ret (bT (t1.append [.aG (ae 6 (ah (.aj true) (ae 1 (cm 4 (ae 2 (cm 1 (ah (.aj true) []))))))),.aj true,(ad 1),.bp [] [] (bO [4])]) (a4.aZ (.bj cV cV cV cZ cZ cZ cZ cZ (.aH cZ bl)))))
  (fun cZ =>
  (have fW:=a4.aZ (.fr cV cV cV cZ cZ cZ cZ);
  .ite (fun dg =>
  (let t4:List cK:=t1.append [.aG (ae 6 (ah (.aj true) (ae 7 (ah (.aj true) (ah (.aj false) [])))))];
  .ite (fun ec =>
  .ret (bT (t4.append [.aj true,(ad 1),.bp [] [] (bO [4])]) (fW.aZ (.fq dg dg cZ dg cZ ec))))
  (fun ec =>
  .ret (bT (t4.append [.aj false,(ad 2),.bp [] [] (bO [5,18,19,20])]) (fW.aZ (.fq dg dg cZ dg cZ ec))))))
  (fun dg =>
  .ret (bT (t1.append [.aG (ae 6 (ah (.aj true) (ae 5 (cm 2 (ah (.aj false) (ah (.aj false) [])))))),.aj false,(ad 2),.bp [] [] (bO [5,18,19,20])]) (fW.aZ (.fq dg dg cZ dg cZ ez)))))))
  (fun cV =>
  .ite (fun cZ =>
  (let t3:List cK:=t1.append [.aG (ae 4 (cm 2 (ah (.aj false) (bQ 7 (.aj true) 1))))];
  have fK:=a4.aZ (.bj cV cV cV ez ez ez ez cZ (.b2 cZ ez cZ));
  .ite (fun dg =>
  .ret (bT (t3.append [.aj true,(ad 1),.bp [] [] (bO [4])]) (fK.aZ (.az dg))))
  (fun dg =>
  .ret (bT (t3.append [.aj false,(ad 2),.bp [] [] (bO [5,18,19,20])]) (fK.aZ (.az dg))))))
  (fun cZ =>
  .ret (bT (t1.append [.aG (ae 4 (cm 2 (ah (.aj false) (ae 5 (cm 2 (ah (.aj false) (ae 1 []))))))),.aj false,(ad 2),.bp [] [] (bO [5,18,19,20])]) (a4.aZ (.bj cV cV cV ez ez ez ez cZ (.dn cZ ez cZ ez))))))))
  (fun o =>
  .ret (bT [(ad 1),.aj false,.bp [] [] []] (.az o)))
theorem NK {oz:List (Option bF)}{gw:List bP}{po iC:Int}{r} (h:IY oz gw po iC=some r):fB bt 47 0 14 [1,1,1,0,1,0,0] (HG oz gw po) (NC oz gw po) iC r:=fD (fun _=>U0) h
def ya (aO:ck)(fp:List c4):Option Bool :=
 x9 aO fp >>= fun aq =>
 if aq.2=true then
  IY aq.1 aO.b5 (len_ dm aO.b5) 0 >>= fun aW =>
  match aW with
  | .inl wL=>(some true)
  | .inr wL=>(some false)
 else
  some false
theorem Wn {aO:ck}{fp:List c4}:b1 (ya aO fp) (fun r=>Con bt 14 [.agg (gM aO),.isl 3 (fp.map da)] [] (.b r) []):=by
 unfold ya
 exact .aw fun aq J =>
  (let t1:List cK:=[(ad 2),.hn 0,.aG (bQ 1 (.call {ac:=[.bN (.ptr [.id,.id]),ii],r:= .df [.isl 1 (aq.1.map (c0 3 bh)),.b aq.2],dq:=false,dv:=[0]}) 5),(ad 2)];
  have a4:=((.aH (kQ (o2 aO):hl [(gM aO)]) (NT aq J)):c1 _);
  .ite (fun ak =>
  .aw fun aW aI =>
  (let t3:List cK:=t1.append [.aj false,(ad 4),.bp [] [] (bO [5,18,19,20])];
  (by
  rcases aW with wL|wL
  ·exact (.ret (bW (t3.append [.sub (.exit 0) [] [],(ad 1)]) (a4.aZ (.aH (dQ ak) (NK aI)))))
  ·exact (.ret (bW (t3.append [.sub (.ret) [(4,.b false)] []]) (a4.aZ (.aH (dQ ak) (NK aI))))))))
  (fun ak =>
  .ret (bW (t1.append [.aj true,(ad 1)]) (a4.aZ (.az (dR ak))))))
def vf (c5:c4):Option Int :=
 qd c5 >>= fun aq =>
 aq.elim
 (some 0)
 fun oe =>
 ru aq >>= fun ba =>
 some ba
theorem Od {c5:c4}:b1 (vf c5) (fun r=>Con bt 15 [.agg (da c5)] [] (.n .i64 r) []):=by
 unfold vf
 exact .aw fun aq J =>
  (let t1:List cK:=[(ad 2),.aG (bQ 1 (bD 1 (dK 3 bh aq) false) 1)];
  .l3 (fun ak =>
  .ret (bW (t1.append [.aG (ae 1 (ah (.eR 6 (.ef 3 none) .cU) [])),.aj true,(ad 1)]) (.b2 (ry aq J) (pX (sz:=3) (f:=bh) ak) bl)))
  (fun oe ak =>
  .aw fun ba bu =>
  .ret (bW (t1.append [.aG (ae 1 (ah (.eR 6 (.ef 3 (some (bh oe))) .cU) [])),.aj false,.aG (bQ 1 (bD 1 (.n .i64 ba) true) 1)]) (.ej (ry aq J) (jo (sz:=3) (f:=bh) ak) ez (Aa ba bu) (cz.n .i64 ba)))))
def yk (c5 aO:c4):Option c4 :=
 qd c5 >>= fun aq =>
 qd aO >>= fun a9 =>
 qg aq a9 >>= fun ba =>
 qL ba >>= fun bI =>
 some bI
theorem Oi {c5 aO:c4}:b1 (yk c5 aO) (fun r=>Con bt 16 [.agg (da c5),.agg (da aO)] [] (.agg (da r)) []):=by
 unfold yk
 exact .aw fun aq J =>
  .aw fun a9 ay =>
  .aw fun ba bu =>
  .aw fun bI bn =>
  .ret (bW [(ad 3),.aG (ae 1 (ah (bD 1 (dK 3 bh aq) false) (ae 1 (ah (bD 1 (dK 3 bh a9) false) (ah (bD 2 (dK 3 bh ba) false) (ah (bD 1 (.agg (da bI)) false) (ae 1 [])))))))] (.dn (ry aq J) (ry a9 ay) (vj ba bu) (uc bI bn)))
def Af (aO:ck):Option (List Int) :=
 qH aO >>= fun aq =>
 if aq=true then
  tZ aO >>= fun aW =>
  some aW
 else
  some ([]:List Int)
theorem V4 {aO:ck}:b1 (Af aO) (fun r=>Con bt 18 [.agg (gM aO)] [] (.isl 1 (r.map I)) []):=by
 unfold Af
 exact .aw fun aq J =>
  (let t1:List cK:=[(ad 2),.aG (bQ 1 (bD 1 (.b aq) true) 1)];
  have a4:=((.aH (z5 aq J) (cz.b aq)):c1 _);
  .ite (fun ak =>
  .aw fun aW aI =>
  .ret (bW (t1.append [.aj false,.hn 0,.aG (ah (.call {ac:=[.bN (.ptr [.id,.id])],r:= .isl 1 (aW.map I),dq:=false,dv:=[0]}) (ae 1 []))]) (a4.aZ (.b2 (dQ ak) (kQ (o2 aO):hl [(gM aO)]) (C2 aW aI)))))
  (fun ak =>
  .ret (bW (t1.append [.aj true,(ad 1)]) (a4.aZ (.az (dR ak))) (.bN (.cj (.fM 1))))))
def tf (bf bd:Option bF):Option (Option bF) :=
 bf.elim
 (some (none:(Option bF)))
 fun dM =>
 bd.elim
 (some (none:(Option bF)))
 fun oe =>
 xX bf bd >>= fun ba =>
 sv ba >>= fun bI =>
 some bI
theorem Ax {bf bd:Option bF}:b1 (tf bf bd) (fun r=>Con bt 52 [dK 3 bh bf,dK 3 bh bd] [] (dK 3 bh r) []):=by
 unfold tf
 exact .l3 (fun o =>
  .ret (bW [(ad 1),.aG (ae 1 (ah (.eR 5 (.ef 3 none) .cU) (ae 1 (cm 2 (ae 1 []))))),.aj true,(ad 1)] (.dn (pX (sz:=3) (f:=bh) o) bl bl bl) (.bN (.cj (.ll 3)))))
  (fun dM o =>
  (have cb:=((.b2 (jo (sz:=3) (f:=bh) o) ez ez):c1 _);
  .l3 (fun ak =>
  .ret (bW [(ad 1),.aG (ae 1 (ah (.eR 5 (.ef 3 (some (bh dM))) .cU) (bQ 2 (.eR 8 (.ef 3 none) .cU) 1))),.aj true,(ad 1)] (cb.aZ (.aH (pX (sz:=3) (f:=bh) ak) bl)) (.bN (.cj (.ll 3)))))
  (fun oe ak =>
  .aw fun ba bu =>
  .aw fun bI bn =>
  .ret (bW [(ad 1),.aG (ae 1 (ah (.eR 5 (.ef 3 (some (bh dM))) .cU) (bQ 2 (.eR 8 (.ef 3 (some (bh oe))) .cU) 1))),.aj false,.aG (ae 2 (ah (bD 2 (dK 3 bh ba) false) (ah (bD 1 (dK 3 bh bI) false) (ae 1 []))))] (cb.aZ (.dn (jo (sz:=3) (f:=bh) ak) ez (NJ ba bu) (Aw bI bn)))))))
def Hg (c9:List br)(cS:List bP)(fp:List (Option bF))(kj iC:Int):((Option bF)×(Option bF)×Int)→S:=fun (ch,eQ,h5)=>eV [(0,.eE 2 [[.isl 4 (c9.map dz),.isl 3 (cS.map dm)]] 0 0),(1,.isl 1 (fp.map (c0 3 bh))),(2,.n .i64 kj),(8,dK 3 bh ch),(9,dK 3 bh eQ),(19,.isl 3 (cS.map dm)),(20,.n .i64 iC),(21,.n .i64 h5)] []
def Nr (c9:List br)(cS:List bP)(fp:List (Option bF))(kj iC:Int):((Option bF)×(Option bF))→e3
 | a=>⟨some 0,[(8,dK 3 bh a.1),(9,dK 3 bh a.2)],[]⟩
def xn (c9:List br)(cS:List bP)(fp:List (Option bF))(kj iC:Int)(ch eQ:Option bF)(h5:Int):Option (((Option bF)×(Option bF)×Int)⊕((Option bF)×(Option bF))) :=
 if (decide (h5<iC))=true then
  if 0≤h5∧h5<cS.length then
  cS[h5.toNat]? >>= fun aQ =>
  sZ (⟨c9,cS⟩:ck) h5 >>= fun ba =>
  if (kj == aQ.fX)=true then
   if 0≤h5∧h5<fp.length then
   fp[h5.toNat]? >>= fun gD =>
   o4 ba.1 >>= fun cI =>
   tf gD cI >>= fun dp =>
   qg ch dp >>= fun dS =>
   o4 ba.2 >>= fun ix =>
   tf gD ix >>= fun zI =>
   qg eQ zI >>= fun iX =>
   some (.inl (dS,iX,U (h5+(1:Int))))
   else none
  else
   if (kj == aQ.fY)=true then
    if 0≤h5∧h5<fp.length then
    fp[h5.toNat]? >>= fun iY =>
    o4 (U (0-ba.1)) >>= fun eW =>
    tf iY eW >>= fun fJ =>
    qg ch fJ >>= fun dy =>
    o4 (U (0-ba.2)) >>= fun d6 =>
    tf iY d6 >>= fun fw =>
    qg eQ fw >>= fun py =>
    some (.inl (dy,py,U (h5+(1:Int))))
    else none
   else
    some (.inl (ch,eQ,U (h5+(1:Int))))
  else none
 else
  some (.inr (ch,eQ))
def Hw (c9:List br)(cS:List bP)(fp:List (Option bF))(kj iC:Int)(ch eQ:Option bF)(h5:Int):Option ((Option bF)×(Option bF)):=iter (fun w:(Option bF)×(Option bF)×Int=>xn c9 cS fp kj iC w.1 w.2.1 w.2.2) (ch,eQ,h5)
theorem Uw {c9:List br}{cS:List bP}{fp:List (Option bF)}{kj iC:Int}{ch eQ:Option bF}{h5:Int}:b1 (xn c9 cS fp kj iC ch eQ h5) (fA bt 66 0 51 [1,1,0,1,0,0] (Hg c9 cS fp kj iC (ch,eQ,h5)) (Hg c9 cS fp kj iC) (Nr c9 cS fp kj iC)):=by
 unfold xn
 exact .ite (fun o =>
  .bq fun J =>
  .aw fun aQ ay =>
  .aw fun ba bu =>
  (let t1:List cK:=[(ad 1),.aj true,.aG (bQ 2 (.cA (dm aQ)) 3),.aG (bQ 2 (bD 2 (.df [.n .i64 ba.1,.n .i64 ba.2]) true) 5),(ad 1),(ad 4)];
  have a4:=((.fq o J.1 (d9 dm J.2) (cD dm ay) (Ns ba bu) (Rl (k4 (cz.n .i64 ba.1) (k4 (cz.n .i64 ba.2) yV)))):c1 _);
  .ite (fun bx =>
  .bq fun bn =>
  .aw fun gD cV =>
  .aw fun cI dg =>
  .aw fun dp eL =>
  .aw fun dS jq =>
  .aw fun ix jT =>
  .aw fun zI nd =>
  .aw fun iX lj =>
  .ret (bT (t1.append [.aj true,.aG (ae 4 (ah (.cA ((c0 3 bh) gD)) (ae 1 (ah (bD 1 (dK 3 bh cI) false) (ah (bD 2 (dK 3 bh dp) false) (ah (bD 2 (dK 3 bh dS) false) (ae 1 []))))))),.aG (ae 4 (ah (.cA ((c0 3 bh) gD)) (ae 1 (ah (bD 1 (dK 3 bh ix) false) (ah (bD 2 (dK 3 bh zI) false) (ah (bD 2 (dK 3 bh iX) false) (ae 1 []))))))),(ad 2),.bp [] [] (bO [0,1,2,8,9,19,20,21])]) (a4.aZ (.bj bx bn.1 (d9 (c0 3 bh) bn.2) (cD (c0 3 bh) cV) (sq cI dg) (Ax dp eL) (vj dS jq) bn.1 (.ej (d9 (c0 3 bh) bn.2) (cD (c0 3 bh) cV) (sq ix jT) (Ax zI nd) (vj iX lj))))))
  (fun bx =>
  .ite (fun bn =>
  .bq fun cd =>
  .aw fun iY cZ =>
  .aw fun eW ec =>
  .aw fun fJ gm =>
  .aw fun dy gG =>
  .aw fun d6 iM =>
  .aw fun fw mw =>
  .aw fun py hy =>
  .ret (bT (t1.append [.aj false,(ad 4),.aj true,(ad 6),.aG (ae 4 (ah (.cA ((c0 3 bh) iY)) (ae 1 (ah (bD 1 (dK 3 bh eW) false) (ah (bD 2 (dK 3 bh fJ) false) (ah (bD 2 (dK 3 bh dy) false) (ae 1 []))))))),.aG (ae 4 (ah (.cA ((c0 3 bh) iY)) (ae 1 (ah (bD 1 (dK 3 bh d6) false) (ah (bD 2 (dK 3 bh fw) false) (ah (bD 2 (dK 3 bh py) false) (ae 1 []))))))),(ad 2),.bp [] [] (bO [0,1,2,8,9,19,20,21])]) (a4.aZ (.bj bx bn cd.1 (d9 (c0 3 bh) cd.2) (cD (c0 3 bh) cZ) (sq eW ec) (Ax fJ gm) (vj dy gG) (.fq cd.1 (d9 (c0 3 bh) cd.2) (cD (c0 3 bh) cZ) (sq d6 iM) (Ax fw mw) (vj py hy))))))
  (fun bn =>
  .ret (bT (t1.append [.aj false,(ad 4),.aj false,(ad 2),.bp [] [] (bO [0,1,2,8,9,19,20,21])]) (a4.aZ (.aH bx bn)))))))
  (fun o =>
  .ret (bT [(ad 1),.aj false,.bp [] [] (bO [8,9])] (.az o)))
theorem UR {c9:List br}{cS:List bP}{fp:List (Option bF)}{kj iC:Int}{ch eQ:Option bF}{h5:Int}{r} (h:Hw c9 cS fp kj iC ch eQ h5=some r):fB bt 66 0 51 [1,1,0,1,0,0] (Hg c9 cS fp kj iC) (Nr c9 cS fp kj iC) (ch,eQ,h5) r:=fD (fun _=>Uw) h
def z7 (aO:ck)(fp:List (Option bF))(kj:Int):Option ((Option bF)×(Option bF)) :=
 o4 0 >>= fun aq =>
 Hw aO.cE aO.b5 fp kj (len_ dm aO.b5) aq aq 0 >>= fun a9 =>
 some (a9.1,a9.2)
theorem Vr {aO:ck}{fp:List (Option bF)}{kj:Int}:b1 (z7 aO fp kj) (fun r=>Con bt 51 [.eE 2 [(gM aO)] 0 0,.isl 1 (fp.map (c0 3 bh)),.n .i64 kj] [] (.df [dK 3 bh r.1,dK 3 bh r.2]) []):=by
 unfold z7
 exact .aw fun aq J =>
  .aw fun a9 ay =>
  .ret (bW [(ad 2),.aG (ah (bD 1 (dK 3 bh aq) false) (ah (bD 1 (dK 3 bh aq) false) (ae 2 []))),(ad 6),.bp [] [] (bO [0,1,2,8,9,19,20,21]),.sub (.exit 0) [(8,dK 3 bh a9.1),(9,dK 3 bh a9.2)] [],(ad 4)] (.b2 (sq aq J) (sq aq J) (UR ay)))
def Ay (aO:ck)(fp:List c4)(kj:Int):Option ((List c4)×Bool) :=
 x9 aO fp >>= fun aq =>
 if aq.2=true then
  if (decide (kj<(0:Int)))=true then
   some (([]:List c4),false)
  else
   if (decide ((len_ dz aO.cE)≤kj))=true then
    some (([]:List c4),false)
   else
    z7 aO aq.1 kj >>= fun a5 =>
    ta ([a5.1,a5.2]:List (Option bF)) >>= fun dW =>
    some (dW.1,dW.2)
 else
  some (([]:List c4),false)
theorem WK {aO:ck}{fp:List c4}{kj:Int}:b1 (Ay aO fp kj) (fun r=>Con bt 19 [.agg (gM aO),.isl 3 (fp.map da),.n .i64 kj] [] (.df [.isl 3 (r.1.map da),.b r.2]) []):=by
 unfold Ay
 exact .aw fun aq J =>
  (let t1:List cK:=[(ad 3),.hn 0,.aG (bQ 1 (.call {ac:=[.bN (.ptr [.id,.id]),ii],r:= .df [.isl 1 (aq.1.map (c0 3 bh)),.b aq.2],dq:=false,dv:=[0]}) 5)];
  have a4:=((.aH (kQ (o2 aO):hl [(gM aO)]) (NT aq J)):c1 _);
  .ite (fun ak =>
  (have fW:=a4.aZ (.b2 (dQ ak) (dQ ak) (dQ ak));
  .ite (fun ay =>
  .ret (bW (t1.append [.aG (ae 5 (ah (.aj false) (ae 1 (cm 5 (ah (.aj true) []))))),.aj true,(ad 2)]) (fW.aZ (.fr ay ay ay ay ay ay bl)) (.comp [.cj (.fM 3),.cj .id])))
  (fun ay =>
  (let t4:List cK:=t1.append [.aG (ae 5 (ah (.aj false) (ae 6 (ah (.aj false) []))))];
  .ite (fun aI =>
  .ret (bW (t4.append [.aj true,(ad 2)]) (fW.aZ (.fr ay ay ay ay ay ay aI)) (.comp [.cj (.fM 3),.cj .id])))
  (fun aI =>
  .aw fun a5 bx =>
  .aw fun dW cd =>
  .ret (bW (t4.append [.aj false,.aG (bQ 2 (.call {ac:=[.bN (.ptr [.id,.id]),ii,ii],r:= .df [dK 3 bh a5.1,dK 3 bh a5.2],dq:=false,dv:=[0]}) 5),.aG (bQ 3 (.sR 33 (.call {ac:=[.bN (.cj (.gn (([a5.1,a5.2]:List (Option bF)).map (c0 3 bh))))],r:= .df [.isl 3 (dW.1.map da),.b dW.2],dq:=false,dv:=[33]})) 4)]) (fW.aZ (.bj ay ay ay ay ay ay aI (kQ (o2 aO):hl [(gM aO)]) (.ej (Vr a5 bx) (lO (show [[(dK 3 bh a5.1)],[(dK 3 bh a5.2)]]=(([a5.1,a5.2]:List (Option bF))).map (c0 3 bh) from rfl) (show 2=([a5.1,a5.2]:List (Option bF)).length from rfl)) (nO (show [[(dK 3 bh a5.1)],[(dK 3 bh a5.2)]]=(([a5.1,a5.2]:List (Option bF))).map (c0 3 bh) from rfl) (show 2=([a5.1,a5.2]:List (Option bF)).length from rfl)) (e9 (lP (sz:=3) kf) ([a5.1,a5.2]:List (Option bF))) (DK dW cd))))))))))
  (fun ak =>
  .ret (bW (t1.append [.aG (ae 3 (cm 2 (ah (.aj true) (ae 1 (cm 5 (ae 1 [])))))),.aj true,(ad 2)]) (a4.aZ (.bj (dR ak) (dR ak) (dR ak) bl bl bl bl bl (.az bl))) (.comp [.cj (.fM 3),.cj .id]))))
def Az (c5 aO:c4):Option c4 :=
 qd c5 >>= fun aq =>
 qd aO >>= fun a9 =>
 tf aq a9 >>= fun ba =>
 qL ba >>= fun bI =>
 some bI
theorem Oj {c5 aO:c4}:b1 (Az c5 aO) (fun r=>Con bt 20 [.agg (da c5),.agg (da aO)] [] (.agg (da r)) []):=by
 unfold Az
 exact .aw fun aq J =>
  .aw fun a9 ay =>
  .aw fun ba bu =>
  .aw fun bI bn =>
  .ret (bW [(ad 3),.aG (ae 1 (ah (bD 1 (dK 3 bh aq) false) (ae 1 (ah (bD 1 (dK 3 bh a9) false) (ah (bD 2 (dK 3 bh ba) false) (ah (bD 1 (.agg (da bI)) false) (ae 1 [])))))))] (.dn (ry aq J) (ry a9 ay) (Ax ba bu) (uc bI bn)))
def D6 (c5:c4):Option c4 :=
 qd c5 >>= fun aq =>
 vv aq >>= fun a9 =>
 qL a9 >>= fun ba =>
 some ba
theorem WL {c5:c4}:b1 (D6 c5) (fun r=>Con bt 21 [.agg (da c5)] [] (.agg (da r)) []):=by
 unfold D6
 exact .aw fun aq J =>
  .aw fun a9 ay =>
  .aw fun ba bu =>
  .ret (bW [(ad 2),.aG (ae 1 (ah (bD 1 (dK 3 bh aq) false) (ah (bD 1 (dK 3 bh a9) false) (ah (bD 1 (.agg (da ba)) false) (ae 1 [])))))] (.b2 (ry aq J) (D5 a9 ay) (uc ba bu)))
def Hx (cG fv:List Int)(bV:Int)(oM:Bool)(aK:List br)(aE:List bP)(ag:List (List Int))(oH:Bool)(oA ov:List Int)(ou:Bool)(oq oo:List Int)(ol oj:Bool):Int→S:=fun oI=>eV [(3,.ref 0 0 0 0),(4,.isl 1 (cG.map I)),(5,.isl 1 (fv.map I)),(6,.n .i64 bV),(7,.bC 1 0 0 ag.length),(8,.ref 2 0 0 0),(9,.b oM),(59,.bC 1 0 0 ag.length),(60,.n .i64 (2:Int)),(61,.n .i64 oI)] [[ab.mk 2 [[.isl 4 (aK.map dz),.isl 3 (aE.map dm)]] .live],[ab.mk 1 (ag.map (dL 1 I)) .hn],[ab.mk 8 [[.b oH,.isl 1 (oA.map I),.isl 1 (ov.map I),.b ou,.isl 1 (oq.map I),.isl 1 (oo.map I),.b ol,.b oj]] .live]]
def HH (cG fv:List Int)(bV:Int)(oM:Bool)(aK:List br)(aE:List bP)(ag:List (List Int))(oH:Bool)(oA ov:List Int)(ou:Bool)(oq oo:List Int)(ol oj:Bool):((Unit)⊕(Unit))→e3
 | .inl a=>⟨some 0,[(3,.ref 0 0 0 0),(4,.isl 1 (cG.map I)),(5,.isl 1 (fv.map I)),(6,.n .i64 bV),(7,.bC 1 0 0 ag.length),(8,.ref 2 0 0 0),(9,.b oM)],[[ab.mk 2 [[.isl 4 (aK.map dz),.isl 3 (aE.map dm)]] .live],[ab.mk 1 (ag.map (dL 1 I)) .hn],[ab.mk 8 [[.b oH,.isl 1 (oA.map I),.isl 1 (ov.map I),.b ou,.isl 1 (oq.map I),.isl 1 (oo.map I),.b ol,.b oj]] .live]]⟩
 | .inr a=>⟨none,[(2,.b false)],[]⟩
def xt (cG fv:List Int)(bV:Int)(oM:Bool)(aK:List br)(aE:List bP)(ag:List (List Int))(oH:Bool)(oA ov:List Int)(ou:Bool)(oq oo:List Int)(ol oj:Bool)(oI:Int):Option ((Int)⊕((Unit)⊕(Unit))) :=
 if (decide (oI<(2:Int)))=true then
  if 0≤oI∧oI<(ag.length:Nat) then
  ag[(0+oI.toNat)]? >>= fun aQ =>
  xY (⟨aK,aE⟩:ck) aQ >>= fun ba =>
  if ba.2=true then
   if oM=true then
    if ((len_ da ba.1) != (len_ dm aE))=true then
     some (.inr (.inr ()))
    else
     if 0≤bV∧bV<ba.1.length then
     ba.1[bV.toNat]? >>= fun n6 =>
     yj (⟨(⟨(⟨oH,oA⟩:bg),ov⟩:c4),(⟨(⟨ou,oq⟩:bg),oo⟩:c4),ol,oj⟩:rM) n6 >>= fun dp =>
     if dp=true then
      some (.inl (U (oI+(1:Int))))
     else
      some (.inr (.inr ()))
     else none
   else
    some (.inr (.inr ()))
  else
   some (.inl (U (oI+(1:Int))))
  else none
 else
  some (.inr (.inl ()))
def Dv (cG fv:List Int)(bV:Int)(oM:Bool)(aK:List br)(aE:List bP)(ag:List (List Int))(oH:Bool)(oA ov:List Int)(ou:Bool)(oq oo:List Int)(ol oj:Bool)(oI:Int):Option ((Unit)⊕(Unit)):=iter (fun w:Int=>xt cG fv bV oM aK aE ag oH oA ov ou oq oo ol oj w) oI
theorem US {cG fv:List Int}{bV:Int}{oM:Bool}{aK:List br}{aE:List bP}{ag:List (List Int)}{oH:Bool}{oA ov:List Int}{ou:Bool}{oq oo:List Int}{ol oj:Bool}{oI:Int}:b1 (xt cG fv bV oM aK aE ag oH oA ov ou oq oo ol oj oI) (fA bt 234 0 3 [1,1,1,1,1,1,1,1,0,1,0,0] (Hx cG fv bV oM aK aE ag oH oA ov ou oq oo ol oj oI) (Hx cG fv bV oM aK aE ag oH oA ov ou oq oo ol oj) (HH cG fv bV oM aK aE ag oH oA ov ou oq oo ol oj)):=by
 unfold xt
 exact .ite (fun o =>
  .bq fun J =>
  .aw fun aQ ay =>
  .aw fun ba bu =>
  (let t1:List cK:=[(ad 1),.aj true,.aG (bQ 1 (.cA ((dL 1 I) aQ)) 1),.aG (bQ 2 (bD 2 (.df [.isl 3 (ba.1.map da),.b ba.2]) false) 5)];
  have a4:=((.ej o J.1 J.2 (cD (dL 1 I) ay) (VK ba bu)):c1 _);
  .ite (fun bx =>
  .ite (fun bn =>
  (have fW:=a4.aZ (.bj bx bx bx (dQ bn) (dQ bn) (dQ bn) (dQ bn) (dQ bn) (.dn (dQ bn) bx (dQ bn) bx));
  .ite (fun cd =>
  .ret (bT (t1.append [.aG (ae 11 (ah (.aj false) (ae 1 (cm 7 (ah (.aj true) (ah (.aj true) [])))))),.aj true,(ad 1),.bp [] [] (bO [2])]) (fW.aZ (.bj cd cd cd cd cd cd cd bx (.b2 cd bx bl)))))
  (fun cd =>
  .bq fun cV =>
  .aw fun n6 dg =>
  .aw fun dp eL =>
  (let t4:List cK:=t1.append [.aG (ae 11 (ah (.aj false) (ae 5 (ah (.cA (da n6)) (ah (bD 2 (.b dp) true) (ae 1 (ah (.aj false) (ah (.aj true) []))))))))];
  have lM:=fW.aZ (.bj cd cd cd cd cV.1 (d9 da cV.2) cd (cD da dg) (.fr cd (WI dp eL) (cz.b dp) cd bx cd bx));
  .ite (fun gm =>
  .ret (bT (t4.append [.aj false,(ad 2),.bp [0,1,2] [.box [.id,.id],.pure,.box [.id,.id,.id,.id,.id,.id,.id,.id]] (bO [3,4,5,6,7,8,9,59,60,61])]) (lM.aZ (.aH (dQ gm) (aF 1 .hn (mU (sz:=1) aD) ag)))))
  (fun gm =>
  .ret (bT (t4.append [.aj true,(ad 1),.bp [] [] (bO [2])]) (lM.aZ (.az (dR gm)))))))))
  (fun bn =>
  .ret (bT (t1.append [.aG (ae 5 (cm 6 (ah (.aj true) (ae 1 (cm 7 (ae 1 (ah (.aj true) []))))))),.aj true,(ad 1),.bp [] [] (bO [2])]) (a4.aZ (.bj bx bx bx (dR bn) (dR bn) (dR bn) (dR bn) (dR bn) (.bj (dR bn) bx (dR bn) bx bl bl bl bl (.fq bl bl bl bx bx bl)))))))
  (fun bx =>
  .ret (bT (t1.append [.aG (ae 2 (cm 3 (ae 6 (cm 2 (ae 7 (cm 1 (ah (.aj false) []))))))),.aj false,(ad 2),.bp [0,1,2] [.box [.id,.id],.pure,.box [.id,.id,.id,.id,.id,.id,.id,.id]] (bO [3,4,5,6,7,8,9,59,60,61])]) (a4.aZ (.bj bx bx bx bx bx bx bx ez (.az (aF 1 .hn (mU (sz:=1) aD) ag))))))))
  (fun o =>
  .ret (bT [(ad 1),.aj false,.bp [0,1,2] [.box [.id,.id],.pure,.box [.id,.id,.id,.id,.id,.id,.id,.id]] (bO [3,4,5,6,7,8,9])] (.aH o (aF 1 .hn (mU (sz:=1) aD) ag))))
theorem ND {cG fv:List Int}{bV:Int}{oM:Bool}{aK:List br}{aE:List bP}{ag:List (List Int)}{oH:Bool}{oA ov:List Int}{ou:Bool}{oq oo:List Int}{ol oj:Bool}{oI:Int}{r} (h:Dv cG fv bV oM aK aE ag oH oA ov ou oq oo ol oj oI=some r):fB bt 234 0 3 [1,1,1,1,1,1,1,1,0,1,0,0] (Hx cG fv bV oM aK aE ag oH oA ov ou oq oo ol oj) (HH cG fv bV oM aK aE ag oH oA ov ou oq oo ol oj) oI r:=fD (fun _=>US) h
def Hy (cG fv:List Int)(fp iO:List c4)(a8:Int)(oT:List c4)(i3:List Int)(jg jh:Int)(aK:List br)(aE:List bP):Int→S:=fun mn=>eV [(3,.ref 0 0 0 0),(4,.isl 1 (cG.map I)),(5,.isl 1 (fv.map I)),(14,.isl 3 (fp.map da)),(15,.isl 3 (iO.map da)),(18,.n .i64 a8),(19,.isl 3 (oT.map da)),(21,.n .i64 mn),(164,.isl 1 (i3.map I)),(165,.n .i64 jg),(166,.n .i64 jh)] [[ab.mk 2 [[.isl 4 (aK.map dz),.isl 3 (aE.map dm)]] .live]]
def HI (cG fv:List Int)(fp iO:List c4)(a8:Int)(oT:List c4)(i3:List Int)(jg jh:Int)(aK:List br)(aE:List bP):((Unit)⊕(Unit))→e3
 | .inl a=>⟨some 4,[(3,.ref 0 0 0 0),(4,.isl 1 (cG.map I)),(5,.isl 1 (fv.map I)),(14,.isl 3 (fp.map da)),(15,.isl 3 (iO.map da)),(164,.isl 1 (i3.map I)),(165,.n .i64 jg),(166,.n .i64 jh)],[[ab.mk 2 [[.isl 4 (aK.map dz),.isl 3 (aE.map dm)]] .live]]⟩
 | .inr a=>⟨none,[(2,.b false)],[]⟩
def xu (cG fv:List Int)(fp iO:List c4)(a8:Int)(oT:List c4)(i3:List Int)(jg jh:Int)(aK:List br)(aE:List bP)(mn:Int):Option ((Int)⊕((Unit)⊕(Unit))) :=
 if (decide (mn<(2:Int)))=true then
  if 0≤(0:Int)∧(0:Int)<iO.length then
  iO[0]? >>= fun aQ =>
  if 0≤(U ((U ((2:Int)*a8))+mn))∧(U ((U ((2:Int)*a8))+mn))<cG.length then
  cG[(U ((U ((2:Int)*a8))+mn)).toNat]? >>= fun cP =>
  sm cP >>= fun dW =>
  Az aQ dW >>= fun dc =>
  if 0≤(1:Int)∧(1:Int)<iO.length then
  iO[1]? >>= fun nf =>
  if 0≤(U ((U ((2:Int)*a8))+mn))∧(U ((U ((2:Int)*a8))+mn))<fv.length then
  fv[(U ((U ((2:Int)*a8))+mn)).toNat]? >>= fun lk =>
  sm lk >>= fun d6 =>
  Az nf d6 >>= fun fw =>
  yk dc fw >>= fun py =>
  D6 py >>= fun nF =>
  if 0≤mn∧mn<oT.length then
  oT[mn.toNat]? >>= fun L9 =>
  s7 nF L9 >>= fun Cl =>
  if Cl=true then
   some (.inl (U (mn+(1:Int))))
  else
   some (.inr (.inr ()))
  else none
  else none
  else none
  else none
  else none
 else
  some (.inr (.inl ()))
def Dw (cG fv:List Int)(fp iO:List c4)(a8:Int)(oT:List c4)(i3:List Int)(jg jh:Int)(aK:List br)(aE:List bP)(mn:Int):Option ((Unit)⊕(Unit)):=iter (fun w:Int=>xu cG fv fp iO a8 oT i3 jg jh aK aE w) mn
theorem UT {cG fv:List Int}{fp iO:List c4}{a8:Int}{oT:List c4}{i3:List Int}{jg jh:Int}{aK:List br}{aE:List bP}{mn:Int}:b1 (xu cG fv fp iO a8 oT i3 jg jh aK aE mn) (fA bt 234 0 3 [1,1,1,1,1,1,1,1,1,1,1,1,0,1,0,0,1,1,0,0,1,1,1,1,0,0] (Hy cG fv fp iO a8 oT i3 jg jh aK aE mn) (Hy cG fv fp iO a8 oT i3 jg jh aK aE) (HI cG fv fp iO a8 oT i3 jg jh aK aE)):=by
 unfold xu
 exact .ite (fun o =>
  .bq fun J =>
  .aw fun aQ ay =>
  .bq fun aI =>
  .aw fun cP bx =>
  .aw fun dW cd =>
  .aw fun dc cZ =>
  .bq fun dg =>
  .aw fun nf eL =>
  .bq fun gm =>
  .aw fun lk gG =>
  .aw fun d6 iM =>
  .aw fun fw mw =>
  .aw fun py hy =>
  .aw fun nF oS =>
  .bq fun zD =>
  .aw fun L9 adf =>
  .aw fun Cl jU =>
  (let t1:List cK:=[(ad 2),.aj true,.aG (ae 2 (ah (.cA (da aQ)) (ae 6 (ah (.cA (I cP)) (ah (bD 1 (.agg (da dW)) false) (ah (bD 2 (.agg (da dc)) false) (ae 2 (ah (.cA (da nf)) (ae 6 (ah (.cA (I lk)) (ah (bD 1 (.agg (da d6)) false) (ah (bD 2 (.agg (da fw)) false) (ah (bD 2 (.agg (da py)) false) (ae 2 [])))))))))))))),.aG (ae 1 (ah (bD 1 (.agg (da nF)) false) (ae 3 (ah (.cA (da L9)) (ah (bD 2 (.b Cl) true) (ae 1 []))))))];
  have a4:=((.bj o J.1 (d9 da J.2) (cD da ay) aI.1 (d9 I aI.2) (cD I bx) (xS dW cd) (.bj (Oj dc cZ) dg.1 (d9 da dg.2) (cD da eL) gm.1 (d9 I gm.2) (cD I gG) (xS d6 iM) (.hB (Oj fw mw) (Oi py hy) (WL nF oS) zD.1 (d9 da zD.2) (cD da adf) (IX Cl jU) (cz.b Cl)))):c1 _);
  .ite (fun ir =>
  .ret (bT (t1.append [.aj false,(ad 3),.bp [0] [.box [.id,.id]] (bO [3,4,5,14,15,18,19,21,164,165,166])]) (a4.aZ (.az (dQ ir)))))
  (fun ir =>
  .ret (bT (t1.append [.aj true,(ad 1),.bp [] [] (bO [2])]) (a4.aZ (.az (dR ir)))))))
  (fun o =>
  .ret (bT [(ad 2),.aj false,.bp [0] [.box [.id,.id]] (bO [3,4,5,14,15,164,165,166])] (.az o)))
theorem NE {cG fv:List Int}{fp iO:List c4}{a8:Int}{oT:List c4}{i3:List Int}{jg jh:Int}{aK:List br}{aE:List bP}{mn:Int}{r} (h:Dw cG fv fp iO a8 oT i3 jg jh aK aE mn=some r):fB bt 234 0 3 [1,1,1,1,1,1,1,1,1,1,1,1,0,1,0,0,1,1,0,0,1,1,1,1,0,0] (Hy cG fv fp iO a8 oT i3 jg jh aK aE) (HI cG fv fp iO a8 oT i3 jg jh aK aE) mn r:=fD (fun _=>UT) h
def Hz (cG fv:List Int)(fp iO:List c4)(i3:List Int)(jg:Int)(aK:List br)(aE:List bP):Int→S:=fun jh=>eV [(3,.ref 0 0 0 0),(4,.isl 1 (cG.map I)),(5,.isl 1 (fv.map I)),(14,.isl 3 (fp.map da)),(15,.isl 3 (iO.map da)),(164,.isl 1 (i3.map I)),(165,.n .i64 jg),(166,.n .i64 jh)] [[ab.mk 2 [[.isl 4 (aK.map dz),.isl 3 (aE.map dm)]] .live]]
def Nz (cG fv:List Int)(fp iO:List c4)(i3:List Int)(jg:Int)(aK:List br)(aE:List bP):((Unit)⊕(Unit))→e3
 | .inl a=>⟨some 2,[],[]⟩
 | .inr a=>⟨none,[(2,.b false)],[]⟩
def xv (cG fv:List Int)(fp iO:List c4)(i3:List Int)(jg:Int)(aK:List br)(aE:List bP)(jh:Int):Option ((Int)⊕((Unit)⊕(Unit))) :=
 if (decide (jh<jg))=true then
  if 0≤jh∧jh<i3.length then
  i3[jh.toNat]? >>= fun aQ =>
  Ay (⟨aK,aE⟩:ck) fp aQ >>= fun ba =>
  if ba.2=true then
   if ((len_ da ba.1) != (2:Int))=true then
    some (.inr (.inr ()))
   else
    if (decide (aQ<(0:Int)))=true then
     some (.inr (.inr ()))
    else
     if (decide ((len_ I cG)≤(U ((U ((2:Int)*aQ))+(1:Int)))))=true then
      some (.inr (.inr ()))
     else
      Dw cG fv fp iO aQ ba.1 i3 jg jh aK aE 0 >>= fun cI =>
      match cI with
      | .inl p1=>(some (.inl (U (jh+(1:Int)))))
      | .inr p1=>(some (.inr (.inr ())))
  else
   some (.inr (.inr ()))
  else none
 else
  some (.inr (.inl ()))
def Ad (cG fv:List Int)(fp iO:List c4)(i3:List Int)(jg:Int)(aK:List br)(aE:List bP)(jh:Int):Option ((Unit)⊕(Unit)):=iter (fun w:Int=>xv cG fv fp iO i3 jg aK aE w) jh
theorem UU {cG fv:List Int}{fp iO:List c4}{i3:List Int}{jg:Int}{aK:List br}{aE:List bP}{jh:Int}:b1 (xv cG fv fp iO i3 jg aK aE jh) (fA bt 234 0 3 [1,1,1,1,1,1,1,1,1,1,1,1,0,1,0,0] (Hz cG fv fp iO i3 jg aK aE jh) (Hz cG fv fp iO i3 jg aK aE) (Nz cG fv fp iO i3 jg aK aE)):=by
 unfold xv
 exact .ite (fun o =>
  .bq fun J =>
  .aw fun aQ ay =>
  .aw fun ba bu =>
  (let t1:List cK:=[(ad 1),.aj true,.aG (bQ 1 (.cA (I aQ)) 1),.aG (bQ 3 (bD 3 (.df [.isl 3 (ba.1.map da),.b ba.2]) false) 5)];
  have a4:=((.ej o J.1 (d9 I J.2) (cD I ay) (WK ba bu)):c1 _);
  .ite (fun bx =>
  (have fW:=a4.aZ (.dn (dQ bx) (dQ bx) (dQ bx) (dQ bx));
  .ite (fun bn =>
  .ret (bT (t1.append [.aG (ae 6 (ah (.aj false) (ae 1 (cm 2 (ah (.aj true) (ae 1 (cm 6 (ae 1 [])))))))),.aj true,(ad 1),.bp [] [] (bO [2])]) (fW.aZ (.bj bn bn bn bl bl bl bl bl (.aH bl bl)))))
  (fun bn =>
  .ite (fun cd =>
  .ret (bT (t1.append [.aG (ae 6 (ah (.aj false) (ae 3 (ah (.aj false) (ae 1 (cm 6 (ah (.aj true) []))))))),.aj true,(ad 1),.bp [] [] (bO [2])]) (fW.aZ (.bj bn bn bn cd cd cd cd cd (.b2 cd cd bl)))))
  (fun cd =>
  (let t4:List cK:=t1.append [.aG (ae 6 (ah (.aj false) (ae 3 (ah (.aj false) (ae 7 (ah (.aj false) []))))))];
  have lM:=fW.aZ (.bj bn bn bn cd cd cd cd cd (.aH cd cd));
  .ite (fun cV =>
  .ret (bT (t4.append [.aj true,(ad 1),.bp [] [] (bO [2])]) (lM.aZ (.az cV))))
  (fun cV =>
  .aw fun cI dg =>
  (let t6:List cK:=t4.append [.aj false,(ad 1),.bp [0] [.box [.id,.id]] (bO [3,4,5,14,15,18,19,21,164,165,166])];
  (by
  rcases cI with p1|p1
  ·exact (.ret (bT (t6.append [(HI cG fv fp iO aQ ba.1 i3 jg jh aK aE (.inl p1)).gp,(ad 2),.bp [0] [.box [.id,.id]] (bO [3,4,5,14,15,164,165,166])]) (lM.aZ (.aH cV (NE dg)))))
  ·exact (.ret (bT (t6.append [.sub (.ret) [(2,.b false)] [],.bp [] [] (bO [2])]) (lM.aZ (.aH cV (NE dg)))))))))))))
  (fun bx =>
  .ret (bT (t1.append [.aG (ae 3 (cm 3 (ah (.aj true) (ae 1 (cm 2 (ae 2 (cm 6 (ae 1 [])))))))),.aj true,(ad 1),.bp [] [] (bO [2])]) (a4.aZ (.bj (dR bx) (dR bx) (dR bx) (dR bx) bl bl bl bl (.ej bl bl bl bl bl)))))))
  (fun o =>
  .ret (bT [(ad 1),.aj false,.bp [] [] []] (.az o)))
theorem NF {cG fv:List Int}{fp iO:List c4}{i3:List Int}{jg:Int}{aK:List br}{aE:List bP}{jh:Int}{r} (h:Ad cG fv fp iO i3 jg aK aE jh=some r):fB bt 234 0 3 [1,1,1,1,1,1,1,1,1,1,1,1,0,1,0,0] (Hz cG fv fp iO i3 jg aK aE) (Nz cG fv fp iO i3 jg aK aE) jh r:=fD (fun _=>UU) h
def DM (fG:List Int):Option Bool :=
 if (decide ((1048576:Int)<(len_ eU8 fG)))=true then
  some true
 else
  DP fG >>= fun bE =>
  yh bE.1 bE.2 >>= fun aW =>
  if aW=true then
   qH bE.1 >>= fun bI =>
   if bI=true then
    DR fG 40 bE.1 >>= fun dc =>
    DY fG 50 >>= fun eW =>
    if (len_ dm bE.1.b5)≠0 then
    Ac bE.1 ([bE.2,dc]:List (List Int)) (eW.tmod (len_ dm bE.1.b5)) >>= fun dS =>
    Dv bE.2 dc (eW.tmod (len_ dm bE.1.b5)) dS.2 bE.1.cE bE.1.b5 ([bE.2,dc]:List (List Int)) dS.1.sE.fN.cY dS.1.sE.fN.cB dS.1.sE.gE dS.1.rN.fN.cY dS.1.rN.fN.cB dS.1.rN.gE dS.1.Bg dS.1.ui 0 >>= fun ix =>
    match ix with
    | .inl FN=>(sk bE.1 ([bE.2,dc]:List (List Int)) (eW.tmod (len_ dm bE.1.b5)) true >>= fun fw =>
     if fw.2.2=true then
      if ((len_ da fw.2.1) != (2:Int))=true then
       some false
      else
       if ((len_ da fw.1) != (len_ dm bE.1.b5))=true then
        some false
       else
        if 0≤(eW.tmod (len_ dm bE.1.b5))∧(eW.tmod (len_ dm bE.1.b5))<fw.1.length then
        fw.1[(eW.tmod (len_ dm bE.1.b5)).toNat]? >>= fun tK =>
        s7 tK dS.1.rN >>= fun jy =>
        if jy=true then
         ya bE.1 fw.1 >>= fun sO =>
         if sO=true then
          if 0≤(0:Int)∧(0:Int)<fw.2.1.length then
          fw.2.1[0]? >>= fun sP =>
          vf sP >>= fun tL =>
          if (decide (tL<(0:Int)))=true then
           some false
          else
           if 0≤(1:Int)∧(1:Int)<fw.2.1.length then
           fw.2.1[1]? >>= fun tM =>
           vf tM >>= fun uJ =>
           if (decide (uJ<(0:Int)))=true then
            some false
           else
            yk sP tM >>= fun zJ =>
            sm 1 >>= fun zK =>
            s7 zJ zK >>= fun qz =>
            if qz=true then
             Af bE.1 >>= fun uK =>
             Ad bE.2 dc fw.1 fw.2.1 uK (len_ I uK) bE.1.cE bE.1.b5 0 >>= fun Cm =>
             match Cm with
             | .inl Cn=>(some true)
             | .inr Cn=>(some false)
            else
             some false
           else none
          else none
         else
          some false
        else
         some false
        else none
     else
      if dS.2=true then
       some dS.1.ui
      else
       some true)
    | .inr FN=>(some false)
    else none
   else
    some false
  else
   some false
theorem Wc {fG:List Int}:b1 (DM fG) (fun r=>Con bt 3 [.isl 1 (fG.map eU8)] [] (.b r) []):=by
 unfold DM
 exact .ite (fun o =>
  .ret (bW [(ad 1),(ad 3),.aj true,(ad 1)] (.az o)))
  (fun o =>
  .aw fun bE ak =>
  .aw fun aW aI =>
  (let t1:List cK:=[(ad 1),(ad 3),.aj false,.aG (bQ 1 (bD 1 (.df [.agg (gM bE.1),.isl 1 (bE.2.map I)]) false) 6)];
  have a4:=((.dn o (Wg bE ak) (Of aW aI) (cz.b aW)):c1 _);
  .ite (fun bu =>
  .aw fun bI bn =>
  (let t3:List cK:=t1.append [.aG (ae 2 (ah (bD 2 (.b aW) true) (ae 3 (ah (bD 1 (.b bI) true) (ae 1 (ah (.aj false) []))))))];
  have fK:=a4.aZ (.fq (dQ bu) (dQ bu) (z5 bI bn) (cz.b bI) (dQ bu) (dQ bu));
  .ite (fun cd =>
  .aw fun dc cZ =>
  .aw fun eW ec =>
  .bq fun eL =>
  .aw fun dS jq =>
  .aw fun ix jT =>
  (let t5:List cK:=t3.append [.aj false,.aG (bQ 2 (bD 3 (.isl 1 (dc.map I)) false) 1),.aG (bQ 1 (bD 2 (.n .i64 eW) true) 5),(ad 4),.hn 34,.aG (bQ 3 (.call {ac:=[ii,.bN (.cj (.gn (([bE.2,dc]:List (List Int)).map (dL 1 I)))),ii],r:= .df [.agg (um dS.1),.b dS.2],dq:=false,dv:=[34]}) 6),(ad 3),.bp [9,34,43] [.box [.id,.id],.d3 [ab.mk 1 (([bE.2,dc]:List (List Int)).map (dL 1 I)) .hn],.box [.id,.id,.id,.id,.id,.id,.id,.id]] [(3,ii),(4,ii),(5,ii),(6,ii),(7,gQ (([bE.2,dc]:List (List Int)).length)),(8,ii),(9,ii),(59,gQ (([bE.2,dc]:List (List Int)).length)),(60,ii),(61,ii)]];
  have od:=fK.aZ (.bj (dQ cd) (Wi dc cZ) (Ws eW ec) (cz.n .i64 eW) eL (lO (show [[.isl 1 (bE.2.map I)],[.isl 1 (dc.map I)]]=(([bE.2,dc]:List (List Int))).map (dL 1 I) from rfl) (show 2=([bE.2,dc]:List (List Int)).length from rfl)) (nO (show [[.isl 1 (bE.2.map I)],[.isl 1 (dc.map I)]]=(([bE.2,dc]:List (List Int))).map (dL 1 I) from rfl) (show 2=([bE.2,dc]:List (List Int)).length from rfl)) (e9 (mU (sz:=1) aD) ([bE.2,dc]:List (List Int))) (.ej (VG dS jq) (eX 1 .hn (show [[.isl 1 (bE.2.map I)],[.isl 1 (dc.map I)]]=(([bE.2,dc]:List (List Int))).map (dL 1 I) from rfl)) (aF 1 .hn (mU (sz:=1) aD) ([bE.2,dc]:List (List Int))) (show 2=([bE.2,dc]:List (List Int)).length from rfl) (show 2=([bE.2,dc]:List (List Int)).length from rfl)));
  (by
  rcases ix with FN|FN
  ·exact (.aw fun fw mw =>
  (let t7:List cK:=t5.append [(HH bE.2 dc (eW.tmod (len_ dm bE.1.b5)) dS.2 bE.1.cE bE.1.b5 ([bE.2,dc]:List (List Int)) dS.1.sE.fN.cY dS.1.sE.fN.cB dS.1.sE.gE dS.1.rN.fN.cY dS.1.rN.fN.cB dS.1.rN.gE dS.1.Bg dS.1.ui (.inl FN)).gp,.aG (bQ 3 (.call {ac:=[ii,.bN (.cj (.gn (([bE.2,dc]:List (List Int)).map (dL 1 I)))),ii,ii],r:= .df [.isl 3 (fw.1.map da),.isl 3 (fw.2.1.map da),.b fw.2.2],dq:=false,dv:=[1]}) 7),(ad 2)];
  have Ge:=od.aZ (.ej (ND jT) (kp (dL 1 I) ([bE.2,dc]:List (List Int))) (jA (dL 1 I) ([bE.2,dc]:List (List Int))) (e9 (mU (sz:=1) aD) ([bE.2,dc]:List (List Int))) (Vq fw mw));
  .ite (fun lj =>
  .ite (fun hy =>
  .ret (bW (t7.append [.aj false,.aG (ae 4 (cm 6 (ah (.aj true) (ae 1 (cm 8 (ae 2 (cm 4 (ae 2 (cm 5 (ae 2 (cm 5 (ae 2 (cm 10 (ae 1 [])))))))))))))),.aj true,(ad 1)]) (Ge.aZ (.bj (dQ lj) hy hy hy hy hy hy hy (.bj bl bl bl bl bl bl bl bl (.bj bl bl bl bl bl bl bl bl (.bj bl bl bl bl bl bl bl bl (.bj bl bl bl bl bl bl bl bl (.az bl)))))))))
  (fun hy =>
  (have CO:=Ge.aZ (.hB (dQ lj) hy hy hy hy hy hy hy);
  .ite (fun lI =>
  .ret (bW (t7.append [.aj false,.aG (ae 10 (ah (.aj false) (ae 1 (cm 8 (ah (.aj true) (ae 1 (cm 4 (ae 2 (cm 5 (ae 2 (cm 5 (ae 2 (cm 10 (ae 1 [])))))))))))))),.aj true,(ad 1)]) (CO.aZ (.bj lI lI lI lI lI lI lI lI (.bj lI bl bl bl bl bl bl bl (.bj bl bl bl bl bl bl bl bl (.bj bl bl bl bl bl bl bl bl (.aH bl bl))))))))
  (fun lI =>
  .bq fun oS =>
  .aw fun tK wm =>
  .aw fun jy wo =>
  (have S2:=CO.aZ (.bj lI lI lI oS.1 (d9 da oS.2) lI (cD da wm) lI (.fq lI lI (IX jy wo) (cz.b jy) lI lI));
  .ite (fun jU =>
  .aw fun sO FK =>
  (have S3:=S2.aZ (.fr (dQ jU) (dQ jU) (dQ jU) (Wn sO FK) (cz.b sO) (dQ jU) (dQ jU));
  .ite (fun qA =>
  .bq fun zB =>
  .aw fun sP S4 =>
  .aw fun tL Ci =>
  (have S5:=S3.aZ (.bj (dQ qA) (dQ qA) zB.1 (d9 da zB.2) (dQ qA) (cD da S4) (dQ qA) (Od tL Ci) (.b2 (cz.n .i64 tL) (dQ qA) (dQ qA)));
  .ite (fun qB =>
  .ret (bW (t7.append [.aj false,.aG (ae 10 (ah (.aj false) (ae 4 (ah (.cA (da tK)) (ae 2 (ah (bD 2 (.b jy) true) (ae 1 (ah (.aj false) (ae 3 (ah (bD 2 (.b sO) true) (ae 1 (ah (.aj false) (ae 3 (ah (.cA (da sP)) (ah (bD 1 (.n .i64 tL) true) (ae 1 (ah (.aj false) (ae 1 (cm 5 (ah (.aj true) (ae 1 (cm 10 (ae 1 []))))))))))))))))))))))),.aj true,(ad 1)]) (S5.aZ (.bj qB qB qB qB qB qB bl bl (.bj bl bl bl bl bl bl bl bl (.az bl))))))
  (fun qB =>
  .bq fun FO =>
  .aw fun tM S6 =>
  .aw fun uJ adg =>
  (have S7:=S5.aZ (.bj qB qB FO.1 (d9 da FO.2) qB (cD da S6) qB (Od uJ adg) (.b2 (cz.n .i64 uJ) qB qB));
  .ite (fun lJ =>
  .ret (bW (t7.append [.aj false,.aG (ae 10 (ah (.aj false) (ae 4 (ah (.cA (da tK)) (ae 2 (ah (bD 2 (.b jy) true) (ae 1 (ah (.aj false) (ae 3 (ah (bD 2 (.b sO) true) (ae 1 (ah (.aj false) (ae 3 (ah (.cA (da sP)) (ah (bD 1 (.n .i64 tL) true) (ae 1 (ah (.aj false) (ae 3 (ah (.cA (da tM)) (ah (bD 1 (.n .i64 uJ) true) (ae 1 (ah (.aj false) (ae 1 (cm 10 (ah (.aj true) []))))))))))))))))))))))))),.aj true,(ad 1)]) (S7.aZ (.bj lJ lJ lJ lJ lJ lJ lJ lJ (.dn lJ lJ lJ bl)))))
  (fun lJ =>
  .aw fun zJ vZ =>
  .aw fun zK adh =>
  .aw fun qz adi =>
  (let t14:List cK:=t7.append [.aj false,.aG (ae 10 (ah (.aj false) (ae 4 (ah (.cA (da tK)) (ae 2 (ah (bD 2 (.b jy) true) (ae 1 (ah (.aj false) (ae 3 (ah (bD 2 (.b sO) true) (ae 1 (ah (.aj false) (ae 3 (ah (.cA (da sP)) (ah (bD 1 (.n .i64 tL) true) (ae 1 (ah (.aj false) (ae 3 (ah (.cA (da tM)) (ah (bD 1 (.n .i64 uJ) true) (ae 1 (ah (.aj false) (ae 3 (ah (.cA (da sP)) (ae 2 (ah (.cA (da tM)) (ah (bD 2 (.agg (da zJ)) false) (ah (bD 1 (.agg (da zK)) false) (ah (bD 2 (.b qz) true) (ae 1 (ah (.aj false) [])))))))))))))))))))))))))))))))];
  have S8:=S7.aZ (.bj lJ lJ zB.1 (d9 da zB.2) lJ (cD da S4) lJ lJ (.bj FO.1 (d9 da FO.2) lJ (cD da S6) lJ (Oi zJ vZ) lJ (xS zK adh) (.ej lJ (IX qz adi) (cz.b qz) lJ lJ)));
  .ite (fun Ma =>
  .aw fun uK adj =>
  .aw fun Cm S9 =>
  (let t16:List cK:=t14.append [.aj false,.aG (bQ 1 (bD 1 (.isl 1 (uK.map I)) false) 2),.bp [0] [.box [.id,.id]] (bO [3,4,5,14,15,164,165,166])];
  have Ta:=S8.aZ (.aH (dQ Ma) (V4 uK adj));
  (by
  rcases Cm with Cn|Cn
  ·exact (.ret (bW (t16.append [.sub (.exit 2) [] [],(ad 1)]) (Ta.aZ (.az (NF S9)))))
  ·exact (.ret (bW (t16.append [.sub (.ret) [(2,.b false)] []]) (Ta.aZ (.az (NF S9))))))))
  (fun Ma =>
  .ret (bW (t14.append [.aj true,(ad 1)]) (S8.aZ (.az (dR Ma)))))))))))
  (fun qA =>
  .ret (bW (t7.append [.aj false,.aG (ae 10 (ah (.aj false) (ae 4 (ah (.cA (da tK)) (ae 2 (ah (bD 2 (.b jy) true) (ae 1 (ah (.aj false) (ae 3 (ah (bD 2 (.b sO) true) (ae 1 (ah (.aj false) (ae 1 (cm 5 (ah (.aj true) (ae 1 (cm 5 (ae 2 (cm 10 (ae 1 [])))))))))))))))))))),.aj true,(ad 1)]) (S3.aZ (.bj (dR qA) (dR qA) (dR qA) (dR qA) (dR qA) (dR qA) bl bl (.bj bl bl bl bl bl bl bl bl (.fq bl bl bl bl bl bl))))))))
  (fun jU =>
  .ret (bW (t7.append [.aj false,.aG (ae 10 (ah (.aj false) (ae 4 (ah (.cA (da tK)) (ae 2 (ah (bD 2 (.b jy) true) (ae 1 (ah (.aj false) (ae 1 (cm 4 (ah (.aj true) (ae 1 (cm 5 (ae 2 (cm 5 (ae 2 (cm 10 (ae 1 [])))))))))))))))))),.aj true,(ad 1)]) (S2.aZ (.bj (dR jU) (dR jU) (dR jU) (dR jU) (dR jU) bl bl bl (.bj bl bl bl bl bl bl bl bl (.bj bl bl bl bl bl bl bl bl (.aH bl bl))))))))))))
  (fun lj =>
  .ite (fun hy =>
  .ret (bW (t7.append [.aj true,.aG (bQ 5 (.aj false) 1)]) (Ge.aZ (.dn (dR lj) (dQ hy) (dQ hy) (dQ hy)))))
  (fun hy =>
  .ret (bW (t7.append [.aj true,.aG (ae 3 (cm 2 (ah (.aj true) (ae 1 []))))]) (Ge.aZ (.dn (dR lj) (dR hy) (dR hy) (dR hy))))))))
  ·exact (.ret (bW (t5.append [.sub (.ret) [(2,.b false)] []]) (od.aZ (.az (ND jT))))))))
  (fun cd =>
  .ret (bW (t3.append [.aj true,(ad 1)]) (fK.aZ (.az (dR cd)))))))
  (fun bu =>
  .ret (bW (t1.append [.aG (ae 2 (ah (bD 2 (.b aW) true) (ae 2 (cm 3 (ah (.aj true) []))))),.aj true,(ad 1)]) (a4.aZ (.ej (dR bu) (dR bu) (dR bu) (dR bu) bl))))))
end Go.Proofs.YtgfpnhmcmgnepaeGreat
