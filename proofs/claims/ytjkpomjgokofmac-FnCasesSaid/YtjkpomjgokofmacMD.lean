/- Lemmas, plain functions of the program, and what they answer. No condition. -/
import Derived.Test.YtjkpomjgokofmacMC
namespace Go.Proofs.Ytjkpomjgokofmac
set_option linter.unusedVariables false
set_option linter.unusedSimpArgs false
open Go Go.VL
def BV (d5 dp:Nat)(dl:List Int)(iH hY:Int):(Int×Int×(List Int))→S:=fun (dt,ct,aq)=>er [(0,.bp 0 0 d5 dp),(1,.isl 1 (dl.map R)),(2,.n .i64 iH),(7,.n .i64 dt),(11,.isl 1 (dl.map R)),(12,.n .i64 hY),(13,.n .i64 ct)] [(aH 1 R aq)]
def Cb (d5 dp:Nat)(dl:List Int)(iH hY:Int):(Int×(List Int))→ex
 | a=>⟨some 0,[(0,.bp 0 0 d5 dp),(1,.isl 1 (dl.map R)),(7,.n .i64 a.1)],[(aH 1 R a.2)]⟩
def rh (d5 dp:Nat)(dl:List Int)(iH hY dt ct:Int)(aq:List Int):Option ((Int×Int×(List Int))⊕(Int×(List Int))) :=
 if (decide (ct<hY))=true then
  if 0≤ct∧ct<dl.length then
  dl[ct.toNat]? >>= fun a4 =>
  if 0≤ct∧ct<(dp:Nat) then
  aq[(d5+ct.toNat)]? >>= fun cC =>
  if (decide ((U ((U (cC-(U (iH*a4))))-dt))<(0:Int)))=true then
   if (d5+ct.toNat)<aq.length then
   some (.inl (U ((U ((999999999:Int)-(U ((U (cC-(U (iH*a4))))-dt)))).tdiv (1000000000:Int)),U (ct+(1:Int)),aq.set (d5+ct.toNat) (U ((U ((U (cC-(U (iH*a4))))-dt))+(U ((U ((U ((999999999:Int)-(U ((U (cC-(U (iH*a4))))-dt)))).tdiv (1000000000:Int)))*(1000000000:Int)))))))
   else none
  else
   if (d5+ct.toNat)<aq.length then
   some (.inl (0,U (ct+(1:Int)),aq.set (d5+ct.toNat) (U ((U (cC-(U (iH*a4))))-dt))))
   else none
  else none
  else none
 else
  some (.inr (dt,aq))
def CE (d5 dp:Nat)(dl:List Int)(iH hY dt ct:Int)(aq:List Int):Option (Int×(List Int)):=iter (fun w:Int×Int×(List Int)=>rh d5 dp dl iH hY w.1 w.2.1 w.2.2) (dt,ct,aq)
theorem MI {d5 dp:Nat}{dl:List Int}{iH hY dt ct:Int}{aq:List Int}:b2 (rh d5 dp dl iH hY dt ct aq) (e5 bz 56 1 78 [1,1,0,1,0,0] (BV d5 dp dl iH hY (dt,ct,aq)) (BV d5 dp dl iH hY) (Cb d5 dp dl iH hY)):=by
 unfold rh
 exact .ite (fun o =>
  .bk fun J =>
  .aI fun a4 aO =>
  .bk fun aM =>
  .aI fun cC bK =>
  (let t1:List cM:=[(ak 1),.aw true,.aY (b0 2 (.cy (R a4)) 2),.aY (b0 3 (.cy (R cC)) 7),(ak 1),(ak 2)];
  have a6:=((.fm o J.1 (d1 R J.2) (cr R aO) aM.1 aM.2 (cr R bK)):cF _);
  .ite (fun bG =>
  .bk fun d8 =>
  .ret (let aZ:=(U ((U ((U (cC-(U (iH*a4))))-dt))+(U ((U ((U ((999999999:Int)-(U ((U (cC-(U (iH*a4))))-dt)))).tdiv (1000000000:Int)))*(1000000000:Int)))));bP (t1.append [.aw true,(ak 4),(ak 5),.aY (aD 4 (aF .eV [])),(ak 2),.bi [0] [.dH (aH 1 R (aq.set (d5+ct.toNat) aZ))] (bI [0,1,2,7,11,12,13])]) (a6.bb (.ja bG (by decide:(1000000000:Int)≠0) aM.1 aM.2 (hJ R d8) (hl 1) (ey 1 .live (f7 (dQ R aq) (d5+ct.toNat) aZ)) (aU 1 .live a2 (aq.set (d5+ct.toNat) aZ))))))
  (fun bG =>
  .bk fun d8 =>
  .ret (let bg:=U ((U (cC-(U (iH*a4))))-dt);bP (t1.append [.aw false,.aY (aD 4 (aF .eV [])),(ak 2),.bi [0] [.dH (aH 1 R (aq.set (d5+ct.toNat) bg))] (bI [0,1,2,7,11,12,13])]) (a6.bb (.fm bG aM.1 aM.2 (hJ R d8) (hl 1) (ey 1 .live (f7 (dQ R aq) (d5+ct.toNat) bg)) (aU 1 .live a2 (aq.set (d5+ct.toNat) bg))))))))
  (fun o =>
  .ret (bP [(ak 1),.aw false,.bi [0] [.pure] (bI [0,1,7])] (.ay o (aU 1 .live a2 aq))))
theorem Nk {d5 dp:Nat}{dl:List Int}{iH hY dt ct:Int}{aq:List Int}{r} (h:CE d5 dp dl iH hY dt ct aq=some r):e6 bz 56 1 78 [1,1,0,1,0,0] (BV d5 dp dl iH hY) (Cb d5 dp dl iH hY) (dt,ct,aq) r:=e7 (fun _=>MI) h
def vy (dl:List Int)(iH:Int)(d5 dp:Nat)(f5:List Int):Option (Bool×(List Int)) :=
 CE d5 dp dl iH (len_ R dl) 0 0 f5 >>= fun ax =>
 if 0≤(len_ R dl)∧(len_ R dl)<(dp:Nat) then
 ax.2[(d5+(len_ R dl).toNat)]? >>= fun fM =>
 if (d5+(len_ R dl).toNat)<ax.2.length then
 (ax.2.set (d5+(len_ R dl).toNat) (U (fM-ax.1)))[(d5+(len_ R dl).toNat)]? >>= fun gj =>
 some ((decide (gj<(0:Int))),ax.2.set (d5+(len_ R dl).toNat) (U (fM-ax.1)))
 else none
 else none
theorem NQ {dl:List Int}{iH:Int}{d5 dp:Nat}{f5:List Int}:b2 (vy dl iH d5 dp f5) (fun a=>Con bz 78 (Tw 0 0 d5 dp dl iH) [(aH 1 R f5)] (.b a.1) [(aH 1 R a.2)]):=by
 unfold vy
 exact .aI fun ax J =>
  .bk fun ao =>
  .aI fun fM aM =>
  .bk fun bW =>
  .aI fun gj bG =>
  .ret (let aZ:=U (fM-ax.1);let bg:=len_ R dl;ik [(ak 1),(ak 1),(ak 3),.bi [0] [.pure] (bI [0,1,2,7,11,12,13]),(Cb d5 dp dl iH bg ax).fU,.aY (aD 4 (aF (.cy (R fM)) (aD 3 (aF .eV [])))),.aY (b0 4 (.cy (R gj)) 2)] [0] [.dH (aH 1 R (ax.2.set (d5+bg.toNat) aZ))] (.bF (aU 1 .live a2 f5) (Nk J) ao.1 ao.2 (cr R aM) ao.1 ao.2 (hJ R bW) (.eW (hl 1) ao.1 ao.2 (ID (f7 (dQ R ax.2) (d5+bg.toNat) aZ) bG) (ey 1 .live (f7 (dQ R ax.2) (d5+bg.toNat) aZ)) (aU 1 .live a2 (ax.2.set (d5+bg.toNat) aZ)))))
def BW (d5 dp:Nat)(dl:List Int)(eC:Int):(Int×Int×(List Int))→S:=fun (dt,ff,aq)=>er [(0,.bp 0 0 d5 dp),(1,.isl 1 (dl.map R)),(4,.n .i64 dt),(8,.isl 1 (dl.map R)),(9,.n .i64 eC),(10,.n .i64 ff)] [(aH 1 R aq)]
def Cc (d5 dp:Nat)(dl:List Int)(eC:Int):(Int×(List Int))→ex
 | a=>⟨some 0,[(0,.bp 0 0 d5 dp),(1,.isl 1 (dl.map R)),(4,.n .i64 a.1)],[(aH 1 R a.2)]⟩
def tm (d5 dp:Nat)(dl:List Int)(eC dt ff:Int)(aq:List Int):Option ((Int×Int×(List Int))⊕(Int×(List Int))) :=
 if (decide (ff<eC))=true then
  if 0≤ff∧ff<dl.length then
  dl[ff.toNat]? >>= fun a4 =>
  if 0≤ff∧ff<(dp:Nat) then
  aq[(d5+ff.toNat)]? >>= fun cC =>
  if (d5+ff.toNat)<aq.length then
  some (.inl (U ((U ((U (cC+a4))+dt)).tdiv (1000000000:Int)),U (ff+(1:Int)),aq.set (d5+ff.toNat) ((U ((U (cC+a4))+dt)).tmod (1000000000:Int))))
  else none
  else none
  else none
 else
  some (.inr (dt,aq))
def CF (d5 dp:Nat)(dl:List Int)(eC dt ff:Int)(aq:List Int):Option (Int×(List Int)):=iter (fun w:Int×Int×(List Int)=>tm d5 dp dl eC w.1 w.2.1 w.2.2) (dt,ff,aq)
theorem MJ {d5 dp:Nat}{dl:List Int}{eC dt ff:Int}{aq:List Int}:b2 (tm d5 dp dl eC dt ff aq) (e5 bz 39 1 79 [1,0,1,0,0] (BW d5 dp dl eC (dt,ff,aq)) (BW d5 dp dl eC) (Cc d5 dp dl eC)):=by
 unfold tm
 exact .ite (fun o =>
  .bk fun J =>
  .aI fun a4 aO =>
  .bk fun aM =>
  .aI fun cC bK =>
  .bk fun bG =>
  .ret (let aZ:=U ((U (cC+a4))+dt);bP [(ak 1),.aw true,.aY (b0 2 (.cy (R a4)) 2),.aY (b0 3 (.cy (R cC)) 5),.aY (b0 7 .eV 1),(ak 2),.bi [0] [.dH (aH 1 R (aq.set (d5+ff.toNat) (aZ.tmod (1000000000:Int))))] (bI [0,1,4,8,9,10])] (.bF o J.1 (d1 R J.2) (cr R aO) aM.1 aM.2 (cr R bK) (by decide:(1000000000:Int)≠0) (.fm (by decide:(1000000000:Int)≠0) aM.1 aM.2 (hJ R bG) (hl 1) (ey 1 .live (f7 (dQ R aq) (d5+ff.toNat) (aZ.tmod (1000000000:Int)))) (aU 1 .live a2 (aq.set (d5+ff.toNat) (aZ.tmod (1000000000:Int))))))))
  (fun o =>
  .ret (bP [(ak 1),.aw false,.bi [0] [.pure] (bI [0,1,4])] (.ay o (aU 1 .live a2 aq))))
theorem Nl {d5 dp:Nat}{dl:List Int}{eC dt ff:Int}{aq:List Int}{r} (h:CF d5 dp dl eC dt ff aq=some r):e6 bz 39 1 79 [1,0,1,0,0] (BW d5 dp dl eC) (Cc d5 dp dl eC) (dt,ff,aq) r:=e7 (fun _=>MJ) h
def tG (dl:List Int)(d5 dp:Nat)(f5:List Int):Option (List Int) :=
 CF d5 dp dl (len_ R dl) 0 0 f5 >>= fun ax =>
 if 0≤(len_ R dl)∧(len_ R dl)<(dp:Nat) then
 ax.2[(d5+(len_ R dl).toNat)]? >>= fun fM =>
 if (d5+(len_ R dl).toNat)<ax.2.length then
 some (ax.2.set (d5+(len_ R dl).toNat) (U (fM+ax.1)))
 else none
 else none
theorem NR {dl:List Int}{d5 dp:Nat}{f5:List Int}:b2 (tG dl d5 dp f5) (fun a=>Con bz 79 [.bp 0 0 d5 dp,.isl 1 (dl.map R)] [(aH 1 R f5)] (.dx []) [(aH 1 R a)]):=by
 unfold tG
 exact .aI fun ax J =>
  .bk fun ao =>
  .aI fun fM aM =>
  .bk fun bW =>
  .ret (let aZ:=U (fM+ax.1);let bg:=len_ R dl;ik [(ak 1),(ak 3),.bi [0] [.pure] (bI [0,1,4,8,9,10]),(Cc d5 dp dl bg ax).fU,.aY (aD 4 (aF (.cy (R fM)) (aD 3 (aF .eV []))))] [0] [.dH (aH 1 R (ax.2.set (d5+bg.toNat) aZ))] (.bF (aU 1 .live a2 f5) (Nl J) ao.1 ao.2 (cr R aM) ao.1 ao.2 (hJ R bW) (.bR (hl 1) (ey 1 .live (f7 (dQ R ax.2) (d5+bg.toNat) aZ)) (aU 1 .live a2 (ax.2.set (d5+bg.toNat) aZ)))))
def Cl (bt:List Int)(eP:Nat)(aq a7:List Int):(List Int)→S:=fun ag=>er [(0,.isl 1 (bt.map R)),(8,.bp 0 0 0 aq.length),(9,.bp 1 0 0 ag.length),(10,.bp 2 0 0 eP)] [(aH 1 R aq),(aH 1 R ag),(aH 1 R a7)]
def Cp (bt:List Int)(eP:Nat)(aq a7:List Int):(List Int)→ex
 | a=>⟨some 0,[(8,.bp 0 0 0 aq.length),(9,.bp 1 0 0 a.length),(10,.bp 2 0 0 eP)],[(aH 1 R aq),(aH 1 R a),(aH 1 R a7)]⟩
def x5 (bt:List Int)(eP:Nat)(aq a7 ag:List Int):Option (((List Int))⊕((List Int))) :=
 if (decide (((ag.length:Nat):Int)≤(len_ R bt)))=true then
  if (ag++([0]:List Int)).length*8≤140737488355328 then
  some (.inl (ag++([0]:List Int)))
  else none
 else
  some (.inr ag)
def yq (bt:List Int)(eP:Nat)(aq a7 ag:List Int):Option ((List Int)):=iter (fun w:(List Int)=>x5 bt eP aq a7 w) ag
theorem MT {bt:List Int}{eP:Nat}{aq a7 ag:List Int}:b2 (x5 bt eP aq a7 ag) (e5 bz 172 0 72 [1,1,1,1,1,0,0,0] (Cl bt eP aq a7 ag) (Cl bt eP aq a7) (Cp bt eP aq a7)):=by
 unfold x5
 exact .ite (fun o =>
  .bk fun J =>
  .ret (let aZ:=(ag++([0]:List Int));bP [(ak 5),.aw true,.aY (b0 2 (.bb (aZ.length)) 1),.bi [0,10,2] [.pure,.dH (aH 1 R aZ),.pure] (bI [0,8,9,10])] (.bF o (mo R 0) (oW R ag) (nk R ag 0) J (aU 1 .live a2 aq) (ey 1 .live (oX R ag 0)) (aU 1 .live a2 aZ) (.ar (aU 1 .live a2 a7)))))
  (fun o =>
  .ret (bP [(ak 5),.aw false,.bi [0,1,2] [.pure,.pure,.pure] (bI [8,9,10])] (.dc o (aU 1 .live a2 aq) (aU 1 .live a2 ag) (aU 1 .live a2 a7))))
theorem NE {bt:List Int}{eP:Nat}{aq a7 ag:List Int}{r} (h:yq bt eP aq a7 ag=some r):e6 bz 172 0 72 [1,1,1,1,1,0,0,0] (Cl bt eP aq a7) (Cp bt eP aq a7) ag r:=e7 (fun _=>MT) h
def Cm (dp eP:Nat)(aW di:Int)(aq ag a7 an:List Int):(Int×Int)→S:=fun (lD,g9)=>er [(8,.bp 0 0 0 aq.length),(9,.bp 1 0 0 dp),(10,.bp 2 0 0 eP),(11,.n .i64 aW),(12,.bp 3 0 0 an.length),(13,.n .i64 di),(15,.n .i64 lD),(16,.n .i64 g9)] [(aH 1 R aq),(aH 1 R ag),[ap.mk 1 (a7.map R) .hR],(aH 1 R an)]
def Cq (dp eP:Nat)(aW di:Int)(aq ag a7 an:List Int):Int→ex
 | a=>⟨some 4,[(8,.bp 0 0 0 aq.length),(9,.bp 1 0 0 dp),(10,.bp 2 0 0 eP),(11,.n .i64 aW),(12,.bp 3 0 0 an.length),(13,.n .i64 di),(15,.n .i64 a)],[(aH 1 R aq),(aH 1 R ag),[ap.mk 1 (a7.map R) .hR],(aH 1 R an)]⟩
def rj (dp eP:Nat)(aW di:Int)(aq ag a7 an:List Int)(lD g9:Int):Option ((Int×Int)⊕(Int)) :=
 if (decide ((1000000000:Int)≤lD))=true then
  if 0≤(U (aW-(1:Int)))∧(U (aW-(1:Int)))<(eP:Nat) then
  a7[(0+(U (aW-(1:Int))).toNat)]? >>= fun a4 =>
  if (decide ((1000000000:Int)≤(U (g9+a4))))=true then
   some (.inr (U (lD-(1:Int))))
  else
   some (.inl (U (lD-(1:Int)),U (g9+a4)))
  else none
 else
  if 0≤(U (aW-(2:Int)))∧(U (aW-(2:Int)))<(eP:Nat) then
  a7[(0+(U (aW-(2:Int))).toNat)]? >>= fun a4 =>
  if 0≤(U ((U (di+aW))-(2:Int)))∧(U ((U (di+aW))-(2:Int)))<(dp:Nat) then
  ag[(0+(U ((U (di+aW))-(2:Int))).toNat)]? >>= fun cC =>
  if (decide ((U ((U (g9*(1000000000:Int)))+cC))<(U (lD*a4))))=true then
   if 0≤(U (aW-(1:Int)))∧(U (aW-(1:Int)))<(eP:Nat) then
   a7[(0+(U (aW-(1:Int))).toNat)]? >>= fun j0 =>
   if (decide ((1000000000:Int)≤(U (g9+j0))))=true then
    some (.inr (U (lD-(1:Int))))
   else
    some (.inl (U (lD-(1:Int)),U (g9+j0)))
   else none
  else
   some (.inr lD)
  else none
  else none
def CN (dp eP:Nat)(aW di:Int)(aq ag a7 an:List Int)(lD g9:Int):Option (Int):=iter (fun w:Int×Int=>rj dp eP aW di aq ag a7 an w.1 w.2) (lD,g9)
theorem MU {dp eP:Nat}{aW di:Int}{aq ag a7 an:List Int}{lD g9:Int}:b2 (rj dp eP aW di aq ag a7 an lD g9) (e5 bz 172 0 72 [1,1,1,1,1,1,1,1,0,1,0,0,1,0,0,1,1,0,0,0] (Cm dp eP aW di aq ag a7 an (lD,g9)) (Cm dp eP aW di aq ag a7 an) (Cq dp eP aW di aq ag a7 an)):=by
 unfold rj
 exact .ite (fun o =>
  .bk fun J =>
  .aI fun a4 aO =>
  (let t1:List cM:=[.aY (aD 3 (dE 18 (aF (.aw true) []))),.aw true,(ak 3),.aY (b0 5 (.cy (R a4)) 2),(ak 2)];
  have a6:=((.bF o o o o o o o o (.bF o o o o o o o o (.fm o o o da J.1 J.2 (cr R aO)))):cF _);
  .ite (fun aM =>
  .ret (bP (t1.append [.aw true,.bi [0,1,2,3] [.pure,.pure,.pure,.pure] (bI [8,9,10,11,12,13,15])]) (a6.bb (.ed aM (aU 1 .live a2 aq) (aU 1 .live a2 ag) (aU 1 .hR a2 a7) (aU 1 .live a2 an)))))
  (fun aM =>
  .ret (bP (t1.append [.aw false,.bi [0,1,2,3] [.pure,.pure,.pure,.pure] (bI [8,9,10,11,12,13,15,16])]) (a6.bb (.ed aM (aU 1 .live a2 aq) (aU 1 .live a2 ag) (aU 1 .hR a2 a7) (aU 1 .live a2 an)))))))
  (fun o =>
  .bk fun J =>
  .aI fun a4 aO =>
  .bk fun aM =>
  .aI fun cC bK =>
  (let t1:List cM:=[.aY (aD 8 (aF (.cy (R a4)) (aD 9 (aF (.cy (R cC)) (aD 2 (aF (.aw false) []))))))];
  have a6:=((.bF o o o o o J.1 J.2 o (.bF (cr R aO) o o o o o o o (.bF o o aM.1 aM.2 o (cr R bK) o o (.ar o)))):cF _);
  .ite (fun bG =>
  .bk fun d8 =>
  .aI fun j0 dG =>
  (let t3:List cM:=t1.append [.aw true,(ak 3),.aY (b0 5 (.cy (R j0)) 2),(ak 2)];
  .ite (fun eT =>
  .ret (bP (t3.append [.aw true,.bi [0,1,2,3] [.pure,.pure,.pure,.pure] (bI [8,9,10,11,12,13,15])]) (a6.bb (.bF bG d8.1 d8.2 (cr R dG) eT (aU 1 .live a2 aq) (aU 1 .live a2 ag) (aU 1 .hR a2 a7) (.ar (aU 1 .live a2 an))))))
  (fun eT =>
  .ret (bP (t3.append [.aw false,.bi [0,1,2,3] [.pure,.pure,.pure,.pure] (bI [8,9,10,11,12,13,15,16])]) (a6.bb (.bF bG d8.1 d8.2 (cr R dG) eT (aU 1 .live a2 aq) (aU 1 .live a2 ag) (aU 1 .hR a2 a7) (.ar (aU 1 .live a2 an))))))))
  (fun bG =>
  .ret (bP (t1.append [.aw false,.bi [0,1,2,3] [.pure,.pure,.pure,.pure] (bI [8,9,10,11,12,13,15])]) (a6.bb (.ed bG (aU 1 .live a2 aq) (aU 1 .live a2 ag) (aU 1 .hR a2 a7) (aU 1 .live a2 an)))))))
theorem NF {dp eP:Nat}{aW di:Int}{aq ag a7 an:List Int}{lD g9:Int}{r} (h:CN dp eP aW di aq ag a7 an lD g9=some r):e6 bz 172 0 72 [1,1,1,1,1,1,1,1,0,1,0,0,1,0,0,1,1,0,0,0] (Cm dp eP aW di aq ag a7 an) (Cq dp eP aW di aq ag a7 an) (lD,g9) r:=e7 (fun _=>MU) h
def Cn (dp eP:Nat)(aW:Int)(aq a7:List Int):(Int×(List Int)×(List Int))→S:=fun (di,ag,an)=>er [(8,.bp 0 0 0 aq.length),(9,.bp 1 0 0 dp),(10,.bp 2 0 0 eP),(11,.n .i64 aW),(12,.bp 3 0 0 an.length),(13,.n .i64 di)] [(aH 1 R aq),(aH 1 R ag),[ap.mk 1 (a7.map R) .hR],(aH 1 R an)]
def Cr (dp eP:Nat)(aW:Int)(aq a7:List Int):((List Int)×(List Int))→ex
 | a=>⟨some 2,[(8,.bp 0 0 0 aq.length),(9,.bp 1 0 0 dp),(12,.bp 2 0 0 a.2.length)],[(aH 1 R aq),(aH 1 R a.1),(aH 1 R a.2)]⟩
def rk (dp eP:Nat)(aW:Int)(aq a7:List Int)(di:Int)(ag an:List Int):Option ((Int×(List Int)×(List Int))⊕((List Int)×(List Int))) :=
 if (decide ((0:Int)≤di))=true then
  if 0≤(U (di+aW))∧(U (di+aW))<(dp:Nat) then
  ag[(0+(U (di+aW)).toNat)]? >>= fun a4 =>
  if 0≤(U ((U (di+aW))-(1:Int)))∧(U ((U (di+aW))-(1:Int)))<(dp:Nat) then
  ag[(0+(U ((U (di+aW))-(1:Int))).toNat)]? >>= fun cC =>
  if 0≤(U (aW-(1:Int)))∧(U (aW-(1:Int)))<(eP:Nat) then
  a7[(0+(U (aW-(1:Int))).toNat)]? >>= fun fc =>
  if fc≠0 then
  CN dp eP aW di aq ag a7 an (U ((U ((U (a4*(1000000000:Int)))+cC)).tdiv fc)) ((U ((U (a4*(1000000000:Int)))+cC)).tmod fc) >>= fun fz =>
  if 0≤di then
  if di.toNat≤dp then
  if 0+eP≤a7.length then
  vy ((a7.drop 0).take eP) fz (0+di.toNat) (dp-di.toNat) ag >>= fun ku =>
  if ku.1=true then
   tG ((a7.drop 0).take eP) (0+di.toNat) (dp-di.toNat) ku.2 >>= fun jM =>
   if 0≤di∧di<(an.length:Nat) then
   if (0+di.toNat)<an.length then
   some (.inl (U (di-(1:Int)),jM,an.set (0+di.toNat) (U (fz-(1:Int)))))
   else none
   else none
  else
   if 0≤di∧di<(an.length:Nat) then
   if (0+di.toNat)<an.length then
   some (.inl (U (di-(1:Int)),ku.2,an.set (0+di.toNat) fz))
   else none
   else none
  else none
  else none
  else none
  else none
  else none
  else none
  else none
 else
  some (.inr (ag,an))
def CO (dp eP:Nat)(aW:Int)(aq a7:List Int)(di:Int)(ag an:List Int):Option ((List Int)×(List Int)):=iter (fun w:Int×(List Int)×(List Int)=>rk dp eP aW aq a7 w.1 w.2.1 w.2.2) (di,ag,an)
theorem MV {dp eP:Nat}{aW:Int}{aq a7:List Int}{di:Int}{ag an:List Int}:b2 (rk dp eP aW aq a7 di ag an) (e5 bz 172 0 72 [1,1,1,1,1,1,1,1,0,1,0,0] (Cn dp eP aW aq a7 (di,ag,an)) (Cn dp eP aW aq a7) (Cr dp eP aW aq a7)):=by
 unfold rk
 exact .ite (fun o =>
  .bk fun J =>
  .aI fun a4 aO =>
  .bk fun aM =>
  .aI fun cC bK =>
  .bk fun bG =>
  .aI fun fc dZ =>
  .bk fun dG =>
  .aI fun fz eM =>
  .bk fun dL =>
  .bk fun hg =>
  .bk fun lR =>
  .aI fun ku lS =>
  (let t1:List cM:=[(ak 2),.aw true,.aY (aD 5 (aF (.cy (R a4)) (b0 7 (.cy (R cC)) 2))),.aY (aD 5 (aF (.cy (R fc)) (b0 6 (.cy (R fc)) 3))),.bi [0,1,2,3] [.pure,.pure,.pure,.pure] (bI [8,9,10,11,12,13,15,16]),(Cq dp eP aW di aq ag a7 an fz).fU,.aY (aD 5 (aF (.call {aA:=[.row 1],b7:=[.pure],ac:=[ii,.bH (.c6 (.eZ (((a7.drop 0).take eP).map R))),ii],r:= .b ku.1,cY:=[(aH 1 R ku.2)],ec:=ii,eL:=[.pure],c4:=[1,2],cX:=false}) []))];
  have a6:=((.bF o J.1 J.2 (cr R aO) aM.1 aM.2 (cr R bK) bG.1 (.bF bG.2 (cr R dZ) dG bG.1 bG.2 (cr R dZ) dG (aU 1 .live a2 aq) (.bF (aU 1 .live a2 ag) (aU 1 .hR a2 a7) (aU 1 .live a2 an) (NF eM) dL hg (Nat.le_refl dp) (Dg (dQ R a7) 0 eP) (.ed (qq (dQ R a7) lR) (eu a2 ((a7.drop 0).take eP)) (i1 1 a2 ag) (i1 1 a2 ku.2) (NQ ku lS))))):cF _);
  .ite (fun kv =>
  .aI fun jM lp =>
  .bk fun hF =>
  .bk fun im =>
  .ret (let aZ:=(U (fz-(1:Int)));bP (t1.append [.aw true,(ak 3),.aY (aD 4 (aF (.call {aA:=[.row 1],b7:=[.pure],ac:=[ii,.bH (.c6 (.eZ (((a7.drop 0).take eP).map R)))],r:= .dx [],cY:=[(aH 1 R jM)],ec:=ii,eL:=[.pure],c4:=[1,2],cX:=false}) [])),.aY (aD 4 (aF .eV [])),(ak 3),.bi [0,1,2,3] [.pure,.pure,.pure,.dH (aH 1 R (an.set (0+di.toNat) aZ))] [(8,ii),(9,ii),(10,ii),(11,ii),(12,hf ((an.set (0+di.toNat) aZ).length)),(13,ii)]]) (a6.bb (.bF kv dL hg (Nat.le_refl dp) (Dg (dQ R a7) 0 eP) (qq (dQ R a7) lR) (eu a2 ((a7.drop 0).take eP)) (i1 1 a2 ku.2) (.bF (i1 1 a2 jM) (NR jM lp) hF.1 hF.2 (hJ R im) (hl 1) (aU 1 .live a2 aq) (aU 1 .live a2 jM) (.dc (aU 1 .hR a2 a7) (ey 1 .live (f7 (dQ R an) (0+di.toNat) aZ)) (aU 1 .live a2 (an.set (0+di.toNat) aZ)) (hL (fo an) (0+di.toNat) aZ)))))))
  (fun kv =>
  .bk fun kj =>
  .bk fun lp =>
  .ret (bP (t1.append [.aw false,.aY (aD 4 (aF .eV [])),(ak 3),.bi [0,1,2,3] [.pure,.pure,.pure,.dH (aH 1 R (an.set (0+di.toNat) fz))] [(8,ii),(9,ii),(10,ii),(11,ii),(12,hf ((an.set (0+di.toNat) fz).length)),(13,ii)]]) (a6.bb (.bF kv kj.1 kj.2 (hJ R lp) (hl 1) (aU 1 .live a2 aq) (aU 1 .live a2 ku.2) (aU 1 .hR a2 a7) (.bR (ey 1 .live (f7 (dQ R an) (0+di.toNat) fz)) (aU 1 .live a2 (an.set (0+di.toNat) fz)) (hL (fo an) (0+di.toNat) fz))))))))
  (fun o =>
  .ret (bP [(ak 2),.aw false,.bi [0,1,3] [.pure,.pure,.pure] (bI [8,9,12])] (.dc o (aU 1 .live a2 aq) (aU 1 .live a2 ag) (aU 1 .live a2 an))))
theorem NG {dp eP:Nat}{aW:Int}{aq a7:List Int}{di:Int}{ag an:List Int}{r} (h:CO dp eP aW aq a7 di ag an=some r):e6 bz 172 0 72 [1,1,1,1,1,1,1,1,0,1,0,0] (Cn dp eP aW aq a7) (Cr dp eP aW aq a7) (di,ag,an) r:=e7 (fun _=>MV) h
def tM (bt bf:List Int):Option ((List Int)×(List Int)) :=
 oo bt bf >>= fun ax =>
 if (decide (ax<(0:Int)))=true then
  vX bt >>= fun bl =>
  some (([]:List Int),bl)
 else
  if ((len_ R bf) == (1:Int))=true then
   if 0≤(0:Int)∧(0:Int)<bf.length then
   bf[0]? >>= fun cC =>
   tA bt cC >>= fun fu =>
   rr (IntKind.wrap .u64 fu.2) >>= fun fK =>
   some (fu.1,fK)
   else none
  else
   if 0≤(U ((len_ R bf)-(1:Int)))∧(U ((len_ R bf)-(1:Int)))<bf.length then
   bf[(U ((len_ R bf)-(1:Int))).toNat]? >>= fun cC =>
   if (U (cC+(1:Int)))≠0 then
   tF bt ([U ((1000000000:Int).tdiv (U (cC+(1:Int))))]:List Int) >>= fun bA =>
   if bA.1≤bA.2.length then
   if (bA.2.take bA.1++([0]:List Int)).length*8≤140737488355328 then
   tF bf ([U ((1000000000:Int).tdiv (U (cC+(1:Int))))]:List Int) >>= fun dk =>
   yq bt dk.1 ([U ((1000000000:Int).tdiv (U (cC+(1:Int))))]:List Int) dk.2 (bA.2.take bA.1++([0]:List Int)) >>= fun eR =>
   if 0≤(U (((eR.length:Nat):Int)-((dk.1:Nat):Int)))∧(8:Int)*(U (((eR.length:Nat):Int)-((dk.1:Nat):Int)))≤281474976710656∧(U (((eR.length:Nat):Int)-((dk.1:Nat):Int)))<9223372036854775808 then
   CO eR.length dk.1 ((dk.1:Nat):Int) ([U ((1000000000:Int).tdiv (U (cC+(1:Int))))]:List Int) dk.2 (U ((U (((eR.length:Nat):Int)-((dk.1:Nat):Int)))-(1:Int))) eR (List.replicate (U (((eR.length:Nat):Int)-((dk.1:Nat):Int))).toNat 0:List Int) >>= fun dT =>
   if 0+eR.length≤dT.1.length then
   nP ((dT.1.drop 0).take eR.length) >>= fun il =>
   if 0≤(0:Int)∧(0:Int)<(([U ((1000000000:Int).tdiv (U (cC+(1:Int))))]:List Int).length:Nat) then
   ([U ((1000000000:Int).tdiv (U (cC+(1:Int))))]:List Int)[0]? >>= fun mR =>
   tA il mR >>= fun jl =>
   nP dT.2 >>= fun ky =>
   some (ky,jl.1)
   else none
   else none
   else none
   else none
   else none
   else none
   else none
theorem N9 {bt bf:List Int}:b2 (tM bt bf) (fun r=>Con bz 72 [.isl 1 (bt.map R),.isl 1 (bf.map R)] [] (.dx [.isl 1 (r.1.map R),.isl 1 (r.2.map R)]) []):=by
 unfold tM
 exact .aI fun ax J =>
  (let t1:List cM:=[(ak 2),.aY (b0 2 (cT 2 (.n .i64 ax) true) 1)];
  have a6:=((.ay (yb ax J) (cx.n .i64 ax)):cF _);
  .ite (fun ao =>
  .aI fun bl aM =>
  .ret (cn (t1.append [.aw true,.aY (b0 1 (cT 1 (.isl 1 (bl.map R)) false) 2)]) (a6.bb (.ay ao (OX bl aM))) (.comp [.c6 (.lU 1),.c6 .id])))
  (fun ao =>
  .ite (fun aO =>
  .bk fun aM =>
  .aI fun cC bK =>
  .aI fun fu d8 =>
  .aI fun fK dG =>
  .ret (cn (t1.append [.aw false,(ak 3),.aw true,.aY (aD 3 (aF (.cy (R cC)) (aF (cT 2 (.dx [.isl 1 (fu.1.map R),.n .i64 fu.2]) false) (aD 5 [])))),.aY (b0 3 (cT 1 (.isl 1 (fK.map R)) false) 2)]) (a6.bb (.fm ao aO aM.1 (d1 R aM.2) (cr R bK) (Gr fu d8) (Cx fK dG)))))
  (fun aO =>
  .bk fun aM =>
  .aI fun cC bK =>
  .bk fun bG =>
  .aI fun bA dZ =>
  .bk fun dG =>
  .bk fun eT =>
  .aI fun dk dL =>
  .aI fun eR lR =>
  .bk fun fF =>
  .aI fun dT kv =>
  .bk fun kj =>
  .aI fun il hF =>
  .bk fun im =>
  .aI fun mR mS =>
  .aI fun jl sq =>
  .aI fun ky mT =>
  .ret (let aZ:=(U ((1000000000:Int).tdiv (U (cC+(1:Int)))));let bg:=(U (((eR.length:Nat):Int)-((dk.1:Nat):Int)));let ck:=(bA.2.take bA.1++([0]:List Int));let cS:=(List.replicate bg.toNat 0:List Int);let eB:=(aU 1 .live a2 ([aZ]:List Int));cn (t1.append [.aw false,(ak 3),.aw false,.aY (b0 5 (.cy (R cC)) 4),.aY (aD 2 (aF (.call {aA:=[],b7:=[],ac:=[ii,.bH (.c6 (.eZ (([aZ]:List Int).map R)))],r:= .bp 0 0 0 bA.1,cY:=[(aH 1 R bA.2)],ec:=ii,eL:=[.pure],c4:=[17],cX:=true}) (aD 1 (aF (.bb (ck.length)) (b0 2 (.call {aA:=[],b7:=[],ac:=[ii,.bH (.c6 (.eZ (([aZ]:List Int).map R)))],r:= .bp 0 0 0 dk.1,cY:=[(aH 1 R dk.2)],ec:=ii,eL:=[.pure],c4:=[17],cX:=true}) 2))))),.bi [17,23,26] [.dH (aH 1 R ([aZ]:List Int)),.dH (aH 1 R ck),.pure] [(0,ii),(8,hf (([aZ]:List Int).length)),(9,ii),(10,ii)],(Cp bt dk.1 ([aZ]:List Int) dk.2 eR).fU,(ak 3),(ak 6),(ak 6),.bi [0,1,2,10] [.pure,.pure,.pure,.dH (aH 1 R cS)] [(8,ii),(9,ii),(10,ii),(11,ii),(12,hf (cS.length)),(13,ii)],.hR 2,.bi [0,1,2,3] [.pure,.pure,.pure,.pure] (bI [8,9,10,11,12,13]),(Cr eR.length dk.1 ((dk.1:Nat):Int) ([aZ]:List Int) dk.2 dT).fU,.hR 1,.aY (aD 1 (aF (.call {ac:=[.bH (.c6 (.eZ (((dT.1.drop 0).take eR.length).map R)))],r:= .isl 1 (il.map R),cX:=false,c4:=[1]}) (aD 2 (aF (.cy (R mR)) (aF (cT 2 (.dx [.isl 1 (jl.1.map R),.n .i64 jl.2]) false) (aD 5 [])))))),.hR 2,.aY (b0 1 (.call {ac:=[.bH (.c6 (.eZ (dT.2.map R)))],r:= .isl 1 (ky.map R),cX:=false,c4:=[2]}) 3)]) (a6.bb (.bF ao aO aM.1 (d1 R aM.2) (cr R bK) bG (kn (show [[.n .i64 (U ((1000000000:Int).tdiv (U (cC+(1:Int)))))]]=(([(U ((1000000000:Int).tdiv (U (cC+(1:Int)))))]:List Int)).map R from rfl) (show 1=([(U ((1000000000:Int).tdiv (U (cC+(1:Int)))))]:List Int).length from rfl)) (mo R aZ) (.bF (eu a2 ([aZ]:List Int)) (i1 1 a2 bA.2) (GI bA dZ) (cx.bp 0 0 0 bA.1) ((Dj (Dk (y5 DR) Dt) Ds):qN [(aH 1 R bA.2)]) (mo R 0) (qq (dQ R bA.2) dG) (To R dG 0) (.bF eT (kn (show [[.n .i64 (U ((1000000000:Int).tdiv (U (cC+(1:Int)))))]]=(([(U ((1000000000:Int).tdiv (U (cC+(1:Int)))))]:List Int)).map R from rfl) (show 1=([(U ((1000000000:Int).tdiv (U (cC+(1:Int)))))]:List Int).length from rfl)) (mo R aZ) (eu a2 ([aZ]:List Int)) (i1 1 a2 dk.2) (GI dk dL) (cx.bp 0 0 0 dk.1) ((Dj (Dk (y5 DR) Dt) Ds):qN [(aH 1 R dk.2)]) (.bF (ey 1 .live (show [[.n .i64 (U ((1000000000:Int).tdiv (U (cC+(1:Int)))))]]=(([(U ((1000000000:Int).tdiv (U (cC+(1:Int)))))]:List Int)).map R from rfl)) eB (ey 1 .live (Dh (dQ R bA.2) bA.1 (sA R 0))) (aU 1 .live a2 ck) (aU 1 .live a2 dk.2) (show 1=([(U ((1000000000:Int).tdiv (U (cC+(1:Int)))))]:List Int).length from rfl) (NE lR) fF.1 (.bF (Int.le_refl bg) fF.2.1 fF.2.2 eB (aU 1 .live a2 eR) (aU 1 .live a2 dk.2) (ey 1 .live (lB R bg.toNat 0)) (aU 1 .live a2 cS) (.bF (l2 bg.toNat (0:Int)) eB (aU 1 .live a2 eR) (aU 1 .hR a2 dk.2) (aU 1 .live a2 cS) (NG kv) (Dg (dQ R dT.1) 0 eR.length) (qq (dQ R dT.1) kj) (.bF (eu a2 ((dT.1.drop 0).take eR.length)) (rs il hF) im.1 im.2 (cr R mS) (Gr jl sq) (iM R dT.2) (ib R dT.2) (.ay (eu a2 dT.2) (rs ky mT))))))))))))))
def qf (fp hT:ba):Option ba :=
 tM fp.db hT.db >>= fun ax =>
 k8 (!(fp.dj == hT.dj)) ax.1 >>= fun bh =>
 some bh
theorem Bh {fp hT:ba}:b2 (qf fp hT) (fun r=>Con bz 67 [.agg (aJ fp),.agg (aJ hT)] [] (.agg (aJ r)) []):=by
 unfold qf
 exact .aI fun ax J =>
  .aI fun bh aO =>
  .ret (cn [(ak 3),.aY (b0 4 (cT 2 (.dx [.isl 1 (ax.1.map R),.isl 1 (ax.2.map R)]) false) 5),.aY (b0 6 (cT 2 (.agg (aJ bh)) false) 1)] (.ay (N9 ax J) (qh bh aO)))
def AU (eN bO:Int)(fx h5:bL)(c2 dX mF:Int)(az:Bool)(aB:List Int)(bE:Int)(ag:List bL)(an:List Int)(au:List Bool)(hB:Bool)(hy:List Int)(ma:Bool)(l5:List Int):(Int×(List (List ba)))→S:=fun (eH,aR)=>er [(0,.ref 0 0 0 0),(1,.n .i64 eN),(2,.n .i64 bO),(6,k2 2 0 2 fx),(7,.ref 5 0 0 0),(9,k2 2 0 2 h5),(10,.ref 6 0 0 0),(30,.bp 1 0 0 ag.length),(31,.n .i64 c2),(32,.n .i64 dX),(45,.n .i64 mF),(46,.n .i64 eH)] [[ap.mk 6 [(eJ 1 0 0 ag.length az aB 3 0 0 an.length bE 4 0 0 au.length)] .live],(aH 1 (bN 2 0 2) ag),(cB 2 aJ aR),(aH 1 R an),(aH 1 df au),[ap.mk 2 [[.b hB,.isl 1 (hy.map R)]] .live],[ap.mk 2 [[.b ma,.isl 1 (l5.map R)]] .live]]
def A0 (eN bO:Int)(fx h5:bL)(c2 dX mF:Int)(az:Bool)(aB:List Int)(bE:Int)(ag:List bL)(an:List Int)(au:List Bool)(hB:Bool)(hy:List Int)(ma:Bool)(l5:List Int):(List (List ba))→ex
 | a=>⟨some 2,[(0,.ref 0 0 0 0),(1,.n .i64 eN),(2,.n .i64 bO),(6,k2 2 0 2 fx),(7,.ref 5 0 0 0),(30,.bp 1 0 0 ag.length),(31,.n .i64 c2),(32,.n .i64 dX)],[[ap.mk 6 [(eJ 1 0 0 ag.length az aB 3 0 0 an.length bE 4 0 0 au.length)] .live],(aH 1 (bN 2 0 2) ag),(cB 2 aJ a),(aH 1 R an),(aH 1 df au),[ap.mk 2 [[.b hB,.isl 1 (hy.map R)]] .live]]⟩
def sT (eN bO:Int)(fx h5:bL)(c2 dX mF:Int)(az:Bool)(aB:List Int)(bE:Int)(ag:List bL)(an:List Int)(au:List Bool)(hB:Bool)(hy:List Int)(ma:Bool)(l5:List Int)(eH:Int)(aR:List (List ba)):Option ((Int×(List (List ba)))⊕((List (List ba)))) :=
 if (decide (eH<mF))=true then
  h5 >>= fun fh =>
  aR[fh.1]? >>= fun ic =>
  if 0≤eH∧eH<(fh.2:Nat) then
  ic[(0+eH.toNat)]? >>= fun gj =>
  nl gj (⟨hB,hy⟩:ba) >>= fun bA =>
  mZ (⟨ma,l5⟩:ba) >>= fun dh =>
  if (dh != (0:Int))=true then
   fx >>= fun sr =>
   aR[sr.1]? >>= fun uQ =>
   if 0≤eH∧eH<(sr.2:Nat) then
   uQ[(0+eH.toNat)]? >>= fun oU =>
   mZ oU >>= fun il =>
   if (il != (0:Int))=true then
    nl (⟨ma,l5⟩:ba) oU >>= fun kY =>
    ri bA kY >>= fun jl =>
    qf jl (⟨az,aB⟩:ba) >>= fun ky =>
    some (.inl (U (eH+(1:Int)),aR.set fh.1 (ic.set (0+eH.toNat) ky)))
   else
    qf bA (⟨az,aB⟩:ba) >>= fun kY =>
    some (.inl (U (eH+(1:Int)),aR.set fh.1 (ic.set (0+eH.toNat) kY)))
   else none
  else
   qf bA (⟨az,aB⟩:ba) >>= fun iU =>
   some (.inl (U (eH+(1:Int)),aR.set fh.1 (ic.set (0+eH.toNat) iU)))
  else none
 else
  some (.inr aR)
def xR (eN bO:Int)(fx h5:bL)(c2 dX mF:Int)(az:Bool)(aB:List Int)(bE:Int)(ag:List bL)(an:List Int)(au:List Bool)(hB:Bool)(hy:List Int)(ma:Bool)(l5:List Int)(eH:Int)(aR:List (List ba)):Option ((List (List ba))):=iter (fun w:Int×(List (List ba))=>sT eN bO fx h5 c2 dX mF az aB bE ag an au hB hy ma l5 w.1 w.2) (eH,aR)
theorem LU {eN bO:Int}{fx h5:bL}{c2 dX mF:Int}{az:Bool}{aB:List Int}{bE:Int}{ag:List bL}{an:List Int}{au:List Bool}{hB:Bool}{hy:List Int}{ma:Bool}{l5:List Int}{eH:Int}{aR:List (List ba)}:b2 (sT eN bO fx h5 c2 dX mF az aB bE ag an au hB hy ma l5 eH aR) (e5 bz 128 5 62 [1,1,0,1,0,0,1,1,0,0,1,1,1,1,0,0] (AU eN bO fx h5 c2 dX mF az aB bE ag an au hB hy ma l5 (eH,aR)) (AU eN bO fx h5 c2 dX mF az aB bE ag an au hB hy ma l5) (A0 eN bO fx h5 c2 dX mF az aB bE ag an au hB hy ma l5)):=by
 unfold sT
 exact .ite (fun o =>
  .aI fun fh ao =>
  .aI fun ic aM =>
  .bk fun bW =>
  .aI fun gj bG =>
  .aI fun bA dZ =>
  .aI fun dh eT =>
  (let kz:=ke (hI .live 2 aJ aR) jQ aM;let t1:List cM:=[(ak 1),.aw true,(ak 2),.aY (aD 2 (aF (.kB 49 (.bp 2 (fh.1+0) 0 fh.2) (.gh (ap.mk 2 (ic.map aJ) .live) [])) (aF (.gh (ap.mk 2 (ic.map aJ) .live) (aJ gj)) (b0 1 (cT 2 (.agg (aJ bA)) false) 2))))];
  have a6:=((.bF o (m2 (dm:=2) (c:=0) (sz:=2) ao) kz bW.1 bW.2 kz (cr aJ bG) (tc bA dZ) (.ay (qe dh eT) (cx.n .i64 dh))):cF _);
  .ite (fun eM =>
  .aI fun sr hg =>
  .aI fun uQ fF =>
  .bk fun lS =>
  .aI fun oU kj =>
  .aI fun il hF =>
  (let h4:=ke (hI .live 2 aJ aR) jQ fF;let t3:List cM:=t1.append [.aY (aD 1 (aF (cT 1 (.n .i64 dh) true) (aD 4 (aF (.kB 59 (.bp 2 (sr.1+0) 0 sr.2) (.gh (ap.mk 2 (uQ.map aJ) .live) [])) (aF (.gh (ap.mk 2 (uQ.map aJ) .live) (aJ oU)) (aF (cT 1 (.n .i64 il) true) (aD 1 (aF (.aw true) []))))))))];
  have fN:=a6.bb (.bF eM eM eM (m2 (dm:=2) (c:=0) (sz:=2) hg) h4 lS.1 lS.2 eM (.fm h4 (cr aJ kj) eM (qe il hF) (cx.n .i64 il) eM eM));
  .ite (fun im =>
  .aI fun kY mS =>
  .aI fun jl sq =>
  .aI fun ky mT =>
  .ret (let aZ:=ke (hI .live 2 aJ aR) jQ fF;let bg:=ke (hI .live 2 aJ aR) jQ aM;let ck:=cR [0,1,2,3,4,5,6];bP (t3.append [.aw true,.aY (aD 4 (aF (.kB 68 (.bp 2 (sr.1+0) 0 sr.2) (.gh (ap.mk 2 (uQ.map aJ) .live) [])) (aF (.gh (ap.mk 2 (uQ.map aJ) .live) (aJ oU)) (aF (cT 2 (.agg (aJ kY)) false) (aF (cT 2 (.agg (aJ jl)) false) (aD 1 [])))))),.aY (aD 7 (aF (cT 2 (.agg (aJ ky)) false) (aF (.kB 74 (.bp 2 (fh.1+0) 0 fh.2) (.gh (ap.mk 2 (ic.map aJ) .live) [])) (aF (.gh (ap.mk 2 (ic.map aJ) .live) (aJ gj)) [])))),(ak 2),.bi [0,1,2,3,4,5,6] [.box [.id,.id,.id,.id,.id,.id],.bU (aH 1 (bN 2 0 2) ag),.bU (cB 2 aJ (aR.set fh.1 (ic.set (0+eH.toNat) ky))),.pure,.pure,.box [.id,.id],.box [.id,.id]] (bI [0,1,2,6,7,9,10,30,31,32,45,46])]) (fN.bb (.bF im (m2 (dm:=2) (c:=0) (sz:=2) hg) aZ lS.1 lS.2 aZ (cr aJ kj) (tc kY mS) (.bF (Ge jl sq) (Bh ky mT) (m2 (dm:=2) (c:=0) (sz:=2) ao) bg bW.1 bW.2 bg (cr aJ bG) (.dc (ez ck 2 2 0 2 rfl ag) (nQ (bQ:=ck) (pa (hI .live 2 aJ aR) fh.1 (o8 (dQ aJ ic) (0+eH.toNat) ky (rfl:(setCells (aJ gj) 0 (aJ ky))=aJ ky))) (nt dV)) (aU 1 .live a2 an) (aU 1 .live dI au)))))))
  (fun im =>
  .aI fun kY mS =>
  .ret (let cS:=ke (hI .live 2 aJ aR) jQ aM;let eB:=cR [0,1,2,3,4,5,6];bP (t3.append [.aw false,.aY (aD 7 (aF (cT 2 (.agg (aJ kY)) false) (aF (.kB 74 (.bp 2 (fh.1+0) 0 fh.2) (.gh (ap.mk 2 (ic.map aJ) .live) [])) (aF (.gh (ap.mk 2 (ic.map aJ) .live) (aJ gj)) [])))),(ak 2),.bi [0,1,2,3,4,5,6] [.box [.id,.id,.id,.id,.id,.id],.bU (aH 1 (bN 2 0 2) ag),.bU (cB 2 aJ (aR.set fh.1 (ic.set (0+eH.toNat) kY))),.pure,.pure,.box [.id,.id],.box [.id,.id]] (bI [0,1,2,6,7,9,10,30,31,32,45,46])]) (fN.bb (.bF im (Bh kY mS) (m2 (dm:=2) (c:=0) (sz:=2) ao) cS bW.1 bW.2 cS (cr aJ bG) (.dc (ez eB 2 2 0 2 rfl ag) (nQ (bQ:=eB) (pa (hI .live 2 aJ aR) fh.1 (o8 (dQ aJ ic) (0+eH.toNat) kY (rfl:(setCells (aJ gj) 0 (aJ kY))=aJ kY))) (nt dV)) (aU 1 .live a2 an) (aU 1 .live dI au))))))))
  (fun eM =>
  .aI fun iU hg =>
  .ret (let gI:=ke (hI .live 2 aJ aR) jQ aM;let i7:=cR [0,1,2,3,4,5,6];bP (t1.append [.aY (aD 1 (aF (cT 1 (.n .i64 dh) true) (aD 2 (dE 6 (aF (.aw false) []))))),.aw false,.aY (aD 7 (aF (cT 2 (.agg (aJ iU)) false) (aF (.kB 74 (.bp 2 (fh.1+0) 0 fh.2) (.gh (ap.mk 2 (ic.map aJ) .live) [])) (aF (.gh (ap.mk 2 (ic.map aJ) .live) (aJ gj)) [])))),(ak 2),.bi [0,1,2,3,4,5,6] [.box [.id,.id,.id,.id,.id,.id],.bU (aH 1 (bN 2 0 2) ag),.bU (cB 2 aJ (aR.set fh.1 (ic.set (0+eH.toNat) iU))),.pure,.pure,.box [.id,.id],.box [.id,.id]] (bI [0,1,2,6,7,9,10,30,31,32,45,46])]) (a6.bb (.bF eM eM eM eM eM eM eM iZ (.bF (Bh iU hg) (m2 (dm:=2) (c:=0) (sz:=2) ao) gI bW.1 bW.2 gI (cr aJ bG) (ez i7 2 2 0 2 rfl ag) (.bR (nQ (bQ:=i7) (pa (hI .live 2 aJ aR) fh.1 (o8 (dQ aJ ic) (0+eH.toNat) iU (rfl:(setCells (aJ gj) 0 (aJ iU))=aJ iU))) (nt dV)) (aU 1 .live a2 an) (aU 1 .live dI au)))))))))
  (fun o =>
  .ret (let fg:=cR [0,1,2,3,4,5];bP [(ak 1),.aw false,.bi [0,1,2,3,4,5] [.box [.id,.id,.id,.id,.id,.id],.bU (aH 1 (bN 2 0 2) ag),.bU (cB 2 aJ aR),.pure,.pure,.box [.id,.id]] (bI [0,1,2,6,7,30,31,32])] (.ed o (ez fg 2 2 0 2 rfl ag) (eF fg 2 dV aR) (aU 1 .live a2 an) (aU 1 .live dI au))))
theorem L9 {eN bO:Int}{fx h5:bL}{c2 dX mF:Int}{az:Bool}{aB:List Int}{bE:Int}{ag:List bL}{an:List Int}{au:List Bool}{hB:Bool}{hy:List Int}{ma:Bool}{l5:List Int}{eH:Int}{aR:List (List ba)}{r} (h:xR eN bO fx h5 c2 dX mF az aB bE ag an au hB hy ma l5 eH aR=some r):e6 bz 128 5 62 [1,1,0,1,0,0,1,1,0,0,1,1,1,1,0,0] (AU eN bO fx h5 c2 dX mF az aB bE ag an au hB hy ma l5) (A0 eN bO fx h5 c2 dX mF az aB bE ag an au hB hy ma l5) (eH,aR) r:=e7 (fun _=>LU) h
def AV (eN bO:Int)(fx:bL)(c2:Int)(az:Bool)(aB:List Int)(bE:Int)(ag:List bL)(an:List Int)(au:List Bool)(hB:Bool)(hy:List Int):(Int×(List (List ba)))→S:=fun (dX,aR)=>er [(0,.ref 0 0 0 0),(1,.n .i64 eN),(2,.n .i64 bO),(6,k2 2 0 2 fx),(7,.ref 5 0 0 0),(30,.bp 1 0 0 ag.length),(31,.n .i64 c2),(32,.n .i64 dX)] [[ap.mk 6 [(eJ 1 0 0 ag.length az aB 3 0 0 an.length bE 4 0 0 au.length)] .live],(aH 1 (bN 2 0 2) ag),(cB 2 aJ aR),(aH 1 R an),(aH 1 df au),[ap.mk 2 [[.b hB,.isl 1 (hy.map R)]] .live]]
def A1 (eN bO:Int)(fx:bL)(c2:Int)(az:Bool)(aB:List Int)(bE:Int)(ag:List bL)(an:List Int)(au:List Bool)(hB:Bool)(hy:List Int):(List (List ba))→ex
 | a=>⟨some 0,[(0,.ref 0 0 0 0),(1,.n .i64 eN),(2,.n .i64 bO),(7,.ref 5 0 0 0)],[[ap.mk 6 [(eJ 1 0 0 ag.length az aB 3 0 0 an.length bE 4 0 0 au.length)] .live],(aH 1 (bN 2 0 2) ag),(cB 2 aJ a),(aH 1 R an),(aH 1 df au),[ap.mk 2 [[.b hB,.isl 1 (hy.map R)]] .live]]⟩
def sU (eN bO:Int)(fx:bL)(c2:Int)(az:Bool)(aB:List Int)(bE:Int)(ag:List bL)(an:List Int)(au:List Bool)(hB:Bool)(hy:List Int)(dX:Int)(aR:List (List ba)):Option ((Int×(List (List ba)))⊕((List (List ba)))) :=
 if (decide (dX<c2))=true then
  if 0≤dX∧dX<(ag.length:Nat) then
  ag[(0+dX.toNat)]? >>= fun a4 =>
  if (dX == eN)=true then
   some (.inl (U (dX+(1:Int)),aR))
  else
   a4 >>= fun qa =>
   aR[qa.1]? >>= fun xy =>
   if 0≤bO∧bO<(qa.2:Nat) then
   xy[(0+bO.toNat)]? >>= fun nE =>
   xR eN bO fx a4 c2 dX ((qa.2:Nat):Int) az aB bE ag an au hB hy nE.dj nE.db 0 aR >>= fun dk =>
   some (.inl (U (dX+(1:Int)),dk))
   else none
  else none
 else
  some (.inr aR)
def xS (eN bO:Int)(fx:bL)(c2:Int)(az:Bool)(aB:List Int)(bE:Int)(ag:List bL)(an:List Int)(au:List Bool)(hB:Bool)(hy:List Int)(dX:Int)(aR:List (List ba)):Option ((List (List ba))):=iter (fun w:Int×(List (List ba))=>sU eN bO fx c2 az aB bE ag an au hB hy w.1 w.2) (dX,aR)
theorem LV {eN bO:Int}{fx:bL}{c2:Int}{az:Bool}{aB:List Int}{bE:Int}{ag:List bL}{an:List Int}{au:List Bool}{hB:Bool}{hy:List Int}{dX:Int}{aR:List (List ba)}:b2 (sU eN bO fx c2 az aB bE ag an au hB hy dX aR) (e5 bz 128 5 62 [1,1,0,1,0,0] (AV eN bO fx c2 az aB bE ag an au hB hy (dX,aR)) (AV eN bO fx c2 az aB bE ag an au hB hy) (A1 eN bO fx c2 az aB bE ag an au hB hy)):=by
 unfold sU
 exact .ite (fun o =>
  .bk fun J =>
  .aI fun a4 aO =>
  (let t1:List cM:=[(ak 1),.aw true,.aY (b0 2 (.cy ((bN 2 0 2) a4)) 2),(ak 3)];
  have a6:=((.dc o J.1 J.2 (cr (bN 2 0 2) aO)):cF _);
  .ite (fun aM =>
  .ret (let aZ:=cR [0,1,2,3,4,5];bP (t1.append [.aw true,(ak 2),.bi [0,1,2,3,4,5] [.box [.id,.id,.id,.id,.id,.id],.bU (aH 1 (bN 2 0 2) ag),.bU (cB 2 aJ aR),.pure,.pure,.box [.id,.id]] (bI [0,1,2,6,7,30,31,32])]) (a6.bb (.ed aM (ez aZ 2 2 0 2 rfl ag) (eF aZ 2 dV aR) (aU 1 .live a2 an) (aU 1 .live dI au)))))
  (fun aM =>
  .aI fun qa bK =>
  .aI fun xy d8 =>
  .bk fun dZ =>
  .aI fun nE eT =>
  .aI fun dk dL =>
  .ret (let bg:=ke (hI .live 2 aJ aR) jQ d8;let ck:=cR [0,1,2,3,4,5,19];let cS:=cR [0,1,2,3,4,5];bP (t1.append [.aw false,.aY (aD 2 (aF (.kB 40 (.bp 2 (qa.1+0) 0 qa.2) (.gh (ap.mk 2 (xy.map aJ) .live) [])) (aF (.gh (ap.mk 2 (xy.map aJ) .live) (aJ nE)) (aD 2 [])))),.aY (b0 1 (.kB 44 (.bp 2 (qa.1+0) 0 qa.2) (.gh (ap.mk 2 (xy.map aJ) .live) [])) 1),.bi [0,1,2,3,4,5,19] [.box [.id,.id,.id,.id,.id,.id],.bU (aH 1 (bN 2 0 2) ag),.bU (cB 2 aJ aR),.pure,.pure,.box [.id,.id],.box [.id,.id]] (bI [0,1,2,6,7,9,10,30,31,32,45,46]),(A0 eN bO fx a4 c2 dX ((qa.2:Nat):Int) az aB bE ag an au hB hy nE.dj nE.db dk).fU,(ak 2),.bi [0,1,2,3,4,5] [.box [.id,.id,.id,.id,.id,.id],.bU (aH 1 (bN 2 0 2) ag),.bU (cB 2 aJ dk),.pure,.pure,.box [.id,.id]] (bI [0,1,2,6,7,30,31,32])]) (a6.bb (.bF aM (m2 (dm:=2) (c:=0) (sz:=2) bK) bg dZ.1 dZ.2 bg (cr aJ eT) (m2 (dm:=2) (c:=0) (sz:=2) bK) (.bF bg (ez ck 2 2 0 2 rfl ag) (eF ck 2 dV aR) (aU 1 .live a2 an) (aU 1 .live dI au) (L9 dL) (ez cS 2 2 0 2 rfl ag) (eF cS 2 dV dk) (.ay (aU 1 .live a2 an) (aU 1 .live dI au)))))))))
  (fun o =>
  .ret (let eB:=cR [0,1,2,3,4,5];bP [(ak 1),.aw false,.bi [0,1,2,3,4,5] [.box [.id,.id,.id,.id,.id,.id],.bU (aH 1 (bN 2 0 2) ag),.bU (cB 2 aJ aR),.pure,.pure,.box [.id,.id]] (bI [0,1,2,7])] (.ed o (ez eB 2 2 0 2 rfl ag) (eF eB 2 dV aR) (aU 1 .live a2 an) (aU 1 .live dI au))))
theorem Ma {eN bO:Int}{fx:bL}{c2:Int}{az:Bool}{aB:List Int}{bE:Int}{ag:List bL}{an:List Int}{au:List Bool}{hB:Bool}{hy:List Int}{dX:Int}{aR:List (List ba)}{r} (h:xS eN bO fx c2 az aB bE ag an au hB hy dX aR=some r):e6 bz 128 5 62 [1,1,0,1,0,0] (AV eN bO fx c2 az aB bE ag an au hB hy) (A1 eN bO fx c2 az aB bE ag an au hB hy) (dX,aR) r:=e7 (fun _=>LV) h
def AW (h5:bL)(hN hO mw:Int)(az:Bool)(aB:List Int)(bE:Int)(ag:List bL)(an:List Int)(au:List Bool):(Int×(List (List ba)))→S:=fun (lc,aR)=>er [(14,k2 2 0 2 h5),(107,.bp 1 0 0 ag.length),(108,.n .i64 hN),(109,.n .i64 hO),(114,.n .i64 mw),(115,.n .i64 lc)] [[ap.mk 6 [(eJ 1 0 0 ag.length az aB 3 0 0 an.length bE 4 0 0 au.length)] .live],(aH 1 (bN 2 0 2) ag),(cB 2 aJ aR),(aH 1 R an),(aH 1 df au)]
def A2 (h5:bL)(hN hO mw:Int)(az:Bool)(aB:List Int)(bE:Int)(ag:List bL)(an:List Int)(au:List Bool):(List (List ba))→ex
 | a=>⟨some 6,[(107,.bp 1 0 0 ag.length),(108,.n .i64 hN),(109,.n .i64 hO)],[[ap.mk 6 [(eJ 1 0 0 ag.length az aB 3 0 0 an.length bE 4 0 0 au.length)] .live],(aH 1 (bN 2 0 2) ag),(cB 2 aJ a),(aH 1 R an),(aH 1 df au)]⟩
def sV (h5:bL)(hN hO mw:Int)(az:Bool)(aB:List Int)(bE:Int)(ag:List bL)(an:List Int)(au:List Bool)(lc:Int)(aR:List (List ba)):Option ((Int×(List (List ba)))⊕((List (List ba)))) :=
 if (decide (lc<mw))=true then
  h5 >>= fun fh =>
  aR[fh.1]? >>= fun ic =>
  if 0≤lc∧lc<(fh.2:Nat) then
  ic[(0+lc.toNat)]? >>= fun gj =>
  pu gj >>= fun bA =>
  some (.inl (U (lc+(1:Int)),aR.set fh.1 (ic.set (0+lc.toNat) bA)))
  else none
 else
  some (.inr aR)
def xT (h5:bL)(hN hO mw:Int)(az:Bool)(aB:List Int)(bE:Int)(ag:List bL)(an:List Int)(au:List Bool)(lc:Int)(aR:List (List ba)):Option ((List (List ba))):=iter (fun w:Int×(List (List ba))=>sV h5 hN hO mw az aB bE ag an au w.1 w.2) (lc,aR)
theorem LW {h5:bL}{hN hO mw:Int}{az:Bool}{aB:List Int}{bE:Int}{ag:List bL}{an:List Int}{au:List Bool}{lc:Int}{aR:List (List ba)}:b2 (sV h5 hN hO mw az aB bE ag an au lc aR) (e5 bz 128 5 62 [1,1,1,1,1,1,1,1,0,0,1,1,0,0,1,1,0,0] (AW h5 hN hO mw az aB bE ag an au (lc,aR)) (AW h5 hN hO mw az aB bE ag an au) (A2 h5 hN hO mw az aB bE ag an au)):=by
 unfold sV
 exact .ite (fun o =>
  .aI fun fh ao =>
  .aI fun ic aM =>
  .bk fun bW =>
  .aI fun gj bG =>
  .aI fun bA dZ =>
  .ret (let aZ:=ke (hI .live 2 aJ aR) jQ aM;bP [(ak 1),.aw true,(ak 2),.aY (aD 4 (aF (.kB 120 (.bp 2 (fh.1+0) 0 fh.2) (.gh (ap.mk 2 (ic.map aJ) .live) [])) (aF (.gh (ap.mk 2 (ic.map aJ) .live) (aJ gj)) (aF (cT 1 (.agg (aJ bA)) false) (aF (.kB 118 (.bp 2 (fh.1+0) 0 fh.2) (.gh (ap.mk 2 (ic.map aJ) .live) [])) (aF (.gh (ap.mk 2 (ic.map aJ) .live) (aJ gj)) [])))))),(ak 2),.bi [0,1,2,3,4] [.box [.id,.id,.id,.id,.id,.id],.bU (aH 1 (bN 2 0 2) ag),.bU (cB 2 aJ (aR.set fh.1 (ic.set (0+lc.toNat) bA))),.pure,.pure] (bI [14,107,108,109,114,115])] (.bF o (m2 (dm:=2) (c:=0) (sz:=2) ao) aZ bW.1 bW.2 aZ (cr aJ bG) (Bb bA dZ) (.bF (m2 (dm:=2) (c:=0) (sz:=2) ao) aZ bW.1 bW.2 aZ (cr aJ bG) (ez (cR [0,1,2,3,4]) 2 2 0 2 rfl ag) (nQ (bQ:=(cR [0,1,2,3,4])) (pa (hI .live 2 aJ aR) fh.1 (o8 (dQ aJ ic) (0+lc.toNat) bA (rfl:(setCells (aJ gj) 0 (aJ bA))=aJ bA))) (nt dV)) (.ay (aU 1 .live a2 an) (aU 1 .live dI au))))))
  (fun o =>
  .ret (bP [(ak 1),.aw false,.bi [0,1,2,3,4] [.box [.id,.id,.id,.id,.id,.id],.bU (aH 1 (bN 2 0 2) ag),.bU (cB 2 aJ aR),.pure,.pure] (bI [107,108,109])] (.ed o (ez (cR [0,1,2,3,4]) 2 2 0 2 rfl ag) (eF (cR [0,1,2,3,4]) 2 dV aR) (aU 1 .live a2 an) (aU 1 .live dI au))))
theorem Mb {h5:bL}{hN hO mw:Int}{az:Bool}{aB:List Int}{bE:Int}{ag:List bL}{an:List Int}{au:List Bool}{lc:Int}{aR:List (List ba)}{r} (h:xT h5 hN hO mw az aB bE ag an au lc aR=some r):e6 bz 128 5 62 [1,1,1,1,1,1,1,1,0,0,1,1,0,0,1,1,0,0] (AW h5 hN hO mw az aB bE ag an au) (A2 h5 hN hO mw az aB bE ag an au) (lc,aR) r:=e7 (fun _=>LW) h
def AX (hN:Int)(az:Bool)(aB:List Int)(bE:Int)(ag:List bL)(an:List Int)(au:List Bool):(Int×(List (List ba)))→S:=fun (hO,aR)=>er [(107,.bp 1 0 0 ag.length),(108,.n .i64 hN),(109,.n .i64 hO)] [[ap.mk 6 [(eJ 1 0 0 ag.length az aB 3 0 0 an.length bE 4 0 0 au.length)] .live],(aH 1 (bN 2 0 2) ag),(cB 2 aJ aR),(aH 1 R an),(aH 1 df au)]
def A3 (hN:Int)(az:Bool)(aB:List Int)(bE:Int)(ag:List bL)(an:List Int)(au:List Bool):(List (List ba))→ex
 | a=>⟨some 4,[],[[ap.mk 6 [(eJ 1 0 0 ag.length az aB 3 0 0 an.length bE 4 0 0 au.length)] .live],(aH 1 (bN 2 0 2) ag),(cB 2 aJ a),(aH 1 R an),(aH 1 df au)]⟩
def sW (hN:Int)(az:Bool)(aB:List Int)(bE:Int)(ag:List bL)(an:List Int)(au:List Bool)(hO:Int)(aR:List (List ba)):Option ((Int×(List (List ba)))⊕((List (List ba)))) :=
 if (decide (hO<hN))=true then
  if 0≤hO∧hO<(ag.length:Nat) then
  ag[(0+hO.toNat)]? >>= fun a4 =>
  a4 >>= fun oj =>
  aR[oj.1]? >>= fun jR =>
  xT a4 hN hO ((oj.2:Nat):Int) az aB bE ag an au 0 aR >>= fun bA =>
  some (.inl (U (hO+(1:Int)),bA))
  else none
 else
  some (.inr aR)
def vc (hN:Int)(az:Bool)(aB:List Int)(bE:Int)(ag:List bL)(an:List Int)(au:List Bool)(hO:Int)(aR:List (List ba)):Option ((List (List ba))):=iter (fun w:Int×(List (List ba))=>sW hN az aB bE ag an au w.1 w.2) (hO,aR)
theorem LX {hN:Int}{az:Bool}{aB:List Int}{bE:Int}{ag:List bL}{an:List Int}{au:List Bool}{hO:Int}{aR:List (List ba)}:b2 (sW hN az aB bE ag an au hO aR) (e5 bz 128 5 62 [1,1,1,1,1,1,1,1,0,0] (AX hN az aB bE ag an au (hO,aR)) (AX hN az aB bE ag an au) (A3 hN az aB bE ag an au)):=by
 unfold sW
 exact .ite (fun o =>
  .bk fun J =>
  .aI fun a4 aO =>
  .aI fun oj bW =>
  .aI fun jR bG =>
  .aI fun bA dZ =>
  .ret (let aZ:=cR [0,1,2,3,4];let bg:=ez aZ 2 2 0 2 rfl ag;bP [(ak 1),.aw true,.aY (b0 1 (.cy ((bN 2 0 2) a4)) 1),.aY (b0 1 (.kB 113 (.bp 2 (oj.1+0) 0 oj.2) (.gh (ap.mk 2 (jR.map aJ) .live) [])) 1),.bi [0,1,2,3,4] [.box [.id,.id,.id,.id,.id,.id],.bU (aH 1 (bN 2 0 2) ag),.bU (cB 2 aJ aR),.pure,.pure] (bI [14,107,108,109,114,115]),(A2 a4 hN hO ((oj.2:Nat):Int) az aB bE ag an au bA).fU,(ak 2),.bi [0,1,2,3,4] [.box [.id,.id,.id,.id,.id,.id],.bU (aH 1 (bN 2 0 2) ag),.bU (cB 2 aJ bA),.pure,.pure] (bI [107,108,109])] (.bF o J.1 J.2 (cr (bN 2 0 2) aO) (m2 (dm:=2) (c:=0) (sz:=2) bW) (ke (hI .live 2 aJ aR) jQ bG) bg (eF aZ 2 dV aR) (.fm (aU 1 .live a2 an) (aU 1 .live dI au) (Mb dZ) bg (eF aZ 2 dV bA) (aU 1 .live a2 an) (aU 1 .live dI au)))))
  (fun o =>
  .ret (bP [(ak 1),.aw false,.bi [0,1,2,3,4] [.box [.id,.id,.id,.id,.id,.id],.bU (aH 1 (bN 2 0 2) ag),.bU (cB 2 aJ aR),.pure,.pure] []] (.ed o (ez (cR [0,1,2,3,4]) 2 2 0 2 rfl ag) (eF (cR [0,1,2,3,4]) 2 dV aR) (aU 1 .live a2 an) (aU 1 .live dI au))))
theorem Mc {hN:Int}{az:Bool}{aB:List Int}{bE:Int}{ag:List bL}{an:List Int}{au:List Bool}{hO:Int}{aR:List (List ba)}{r} (h:vc hN az aB bE ag an au hO aR=some r):e6 bz 128 5 62 [1,1,1,1,1,1,1,1,0,0] (AX hN az aB bE ag an au) (A3 hN az aB bE ag an au) (hO,aR) r:=e7 (fun _=>LX) h
def td (eN bO:Int)(cp:Bool)(eA:List Int)(dA:Int)(e4:List bL)(j2:List (List ba))(gz:List Int)(f6:List Bool):Option (Bool×(List Int)×(List (List ba))×(List Int)) :=
 if 0≤eN∧eN<(e4.length:Nat) then
 e4[(0+eN.toNat)]? >>= fun ek =>
 ek >>= fun q3 =>
 j2[q3.1]? >>= fun uZ =>
 if 0≤bO∧bO<(q3.2:Nat) then
 uZ[(0+bO.toNat)]? >>= fun fc =>
 xS eN bO ek ((e4.length:Nat):Int) cp eA dA e4 gz f6 fc.dj fc.db 0 j2 >>= fun dh =>
 if 0≤eN∧eN<(gz.length:Nat) then
 if (0+eN.toNat)<gz.length then
 mZ fc >>= fun eR =>
 if (decide ((0:Int)<eR))=true then
  some (fc.dj,fc.db,dh,gz.set (0+eN.toNat) bO)
 else
  pu fc >>= fun dT =>
  vc ((e4.length:Nat):Int) dT.dj dT.db dA e4 (gz.set (0+eN.toNat) bO) f6 0 dh >>= fun jM =>
  some (dT.dj,dT.db,jM,gz.set (0+eN.toNat) bO)
 else none
 else none
 else none
 else none
theorem Gc {eN bO:Int}{cp:Bool}{eA:List Int}{dA:Int}{e4:List bL}{j2:List (List ba)}{gz:List Int}{f6:List Bool}:b2 (td eN bO cp eA dA e4 j2 gz f6) (fun a=>Con bz 62 [.ref 0 0 0 0,.n .i64 eN,.n .i64 bO] [[ap.mk 6 [(eJ 1 0 0 e4.length cp eA 3 0 0 gz.length dA 4 0 0 f6.length)] .live],(aH 1 (bN 2 0 2) e4),(cB 2 aJ j2),(aH 1 R gz),(aH 1 df f6)] (.dx []) [[ap.mk 6 [(eJ 1 0 0 e4.length a.1 a.2.1 3 0 0 a.2.2.2.length dA 4 0 0 f6.length)] .live],(aH 1 (bN 2 0 2) e4),(cB 2 aJ a.2.2.1),(aH 1 R a.2.2.2),(aH 1 df f6)]):=by
 unfold td
 exact .bk fun o =>
  .aI fun ek ao =>
  .aI fun q3 aM =>
  .aI fun uZ bK =>
  .bk fun bG =>
  .aI fun fc dZ =>
  .aI fun dh eT =>
  .bk fun eM =>
  .bk fun dL =>
  .aI fun eR lR =>
  (let eB:=ke (hI .live 2 aJ j2) jQ bK;let gI:=cR [0,1,2,3,4,17];let t1:List cM:=[.aY (b0 6 (.cy ((bN 2 0 2) ek)) 1),.aY (aD 2 (aF (.kB 23 (.bp 2 (q3.1+0) 0 q3.2) (.gh (ap.mk 2 (uZ.map aJ) .live) [])) (aF (.gh (ap.mk 2 (uZ.map aJ) .live) (aJ fc)) (aD 2 [])))),(ak 6),.bi [0,1,2,3,4,17] [.box [.id,.id,.id,.id,.id,.id],.bU (aH 1 (bN 2 0 2) e4),.bU (cB 2 aJ j2),.pure,.pure,.box [.id,.id]] (bI [0,1,2,6,7,30,31,32]),(A1 eN bO ek ((e4.length:Nat):Int) cp eA dA e4 gz f6 fc.dj fc.db dh).fU,(ak 5),.aY (aD 7 (aF .eV [])),.aY (b0 1 (cT 1 (.n .i64 eR) true) 1)];
  have a6:=((.bF o.1 o.2 (cr (bN 2 0 2) ao) (m2 (dm:=2) (c:=0) (sz:=2) aM) eB bG.1 bG.2 eB (.bF (cr aJ dZ) (ez gI 2 2 0 2 rfl e4) (eF gI 2 dV j2) (aU 1 .live a2 gz) (aU 1 .live dI f6) (Ma eT) eM.1 eM.2 (.dc (hJ R dL) (hl 1) (qe eR lR) (cx.n .i64 eR)))):cF _);
  .ite (fun fF =>
  .ret (ik (t1.append [.aw true]) [0,1,2,3,4] [.bU [ap.mk 6 [(eJ 1 0 0 e4.length fc.dj fc.db 3 0 0 ((gz.set (0+eN.toNat) bO).length) dA 4 0 0 f6.length)] .live],.bU (aH 1 (bN 2 0 2) e4),.bU (cB 2 aJ dh),.dH (aH 1 R (gz.set (0+eN.toNat) bO)),.pure] (a6.bb (.fm fF (ms (show ap.mk 6 [(eJ 1 0 0 e4.length fc.dj fc.db 3 0 0 ((gz.set (0+eN.toNat) bO).length) dA 4 0 0 f6.length)] .live=i5 (cR [0,1,2,3,4]) (ap.mk 6 [(eJ 1 0 0 e4.length fc.dj fc.db 3 0 0 gz.length dA 4 0 0 f6.length)] .live) from (congrArg (fun UI=>ap.mk 6 [(eJ 1 0 0 e4.length fc.dj fc.db 3 0 0 UI dA 4 0 0 f6.length)] .live) (hL (fo gz) (0+eN.toNat) bO).symm)) rM) (ez (cR [0,1,2,3,4]) 2 2 0 2 rfl e4) (eF (cR [0,1,2,3,4]) 2 dV dh) (ey 1 .live (f7 (dQ R gz) (0+eN.toNat) bO)) (aU 1 .live a2 (gz.set (0+eN.toNat) bO)) (aU 1 .live dI f6)))))
  (fun fF =>
  .aI fun dT kv =>
  .aI fun jM lp =>
  .ret (let aZ:=eJ 1 0 0 e4.length dT.dj dT.db 3 0 0 ((gz.set (0+eN.toNat) bO).length) dA 4 0 0 f6.length;let bg:=cR [0,1,2,3,4];let ck:=aU 1 .live a2 (gz.set (0+eN.toNat) bO);let cS:=ez bg 2 2 0 2 rfl e4;ik (t1.append [.aw false,.aY (b0 2 (cT 1 (.agg (aJ dT)) false) 3),(ak 6),.bi [0,1,2,3,4] [.box [.id,.id,.id,.len ((gz.set (0+eN.toNat) bO).length),.id,.id],.bU (aH 1 (bN 2 0 2) e4),.bU (cB 2 aJ dh),.dH (aH 1 R (gz.set (0+eN.toNat) bO)),.pure] (bI [107,108,109]),(A3 ((e4.length:Nat):Int) dT.dj dT.db dA e4 (gz.set (0+eN.toNat) bO) f6 jM).fU]) [0,1,2,3,4] [.bU [ap.mk 6 [aZ] .live],.bU (aH 1 (bN 2 0 2) e4),.bU (cB 2 aJ jM),.pure,.pure] (a6.bb (.bF fF (Bb dT kv) (hL (fo gz) (0+eN.toNat) bO) cS (eF bg 2 dV dh) (ey 1 .live (f7 (dQ R gz) (0+eN.toNat) bO)) ck (aU 1 .live dI f6) (.eW (Mc lp) (oh bg 6 [aZ] [aZ] rfl) cS (eF bg 2 dV jM) ck (aU 1 .live dI f6)))))))
def AF (ct:Int)(az:Bool)(aB:List Int)(ag:List bL)(aR:List (List ba))(an:List Int)(au:List Bool)(cI:List Int):Int→S:=fun b3=>er [(0,.ref 0 0 0 0),(1,.bp 5 0 0 cI.length),(5,.b false),(13,.n .i64 ct),(14,.n .i64 b3)] [[ap.mk 6 [(eJ 1 0 0 ag.length az aB 3 0 0 an.length ct 4 0 0 au.length)] .live],(aH 1 (bN 2 0 2) ag),(cB 2 aJ aR),(aH 1 R an),(aH 1 df au),(aH 1 R cI)]
def xK (ct:Int)(az:Bool)(aB:List Int)(ag:List bL)(aR:List (List ba))(an:List Int)(au:List Bool)(cI:List Int):((Bool×Bool×(List Int)×(List (List ba))×(List Int))⊕(Unit))→ex
 | .inl a=>⟨some 2,[(0,.ref 0 0 0 0),(1,.bp 5 0 0 cI.length),(5,.b a.1)],[[ap.mk 6 [(eJ 1 0 0 ag.length a.2.1 a.2.2.1 3 0 0 a.2.2.2.2.length ct 4 0 0 au.length)] .live],(aH 1 (bN 2 0 2) ag),(cB 2 aJ a.2.2.2.1),(aH 1 R a.2.2.2.2),(aH 1 df au),(aH 1 R cI)]⟩
 | .inr a=>⟨none,[(4,.b false)],[[ap.mk 6 [(eJ 1 0 0 ag.length az aB 3 0 0 an.length ct 4 0 0 au.length)] .live],(aH 1 (bN 2 0 2) ag),(cB 2 aJ aR),(aH 1 R an),(aH 1 df au),(aH 1 R cI)]⟩
def sP (ct:Int)(az:Bool)(aB:List Int)(ag:List bL)(aR:List (List ba))(an:List Int)(au:List Bool)(cI:List Int)(b3:Int):Option ((Int)⊕((Bool×Bool×(List Int)×(List (List ba))×(List Int))⊕(Unit))) :=
 if (decide (b3<ct))=true then
  if 0≤b3∧b3<(au.length:Nat) then
  au[(0+b3.toNat)]? >>= fun a4 =>
  if a4=true then
   tJ an b3 >>= fun cj =>
   if cj=true then
    some (.inl (U (b3+(1:Int))))
   else
    if ag.all (sk aR)=true then
    tr (⟨ag.map (ks aR),(⟨az,aB⟩:ba),an,ct,au⟩:ov) cI b3 >>= fun fK =>
    if (decide (fK≤(0:Int)))=true then
     some (.inl (U (b3+(1:Int))))
    else
     ve (⟨ag.map (ks aR),(⟨az,aB⟩:ba),an,ct,au⟩:ov) b3 >>= fun dk =>
     if (decide (dk<(0:Int)))=true then
      some (.inr (.inr ()))
     else
      td dk b3 az aB ct ag aR an au >>= fun et =>
      some (.inr (.inl (true,et.1,et.2.1,et.2.2.1,et.2.2.2)))
    else none
  else
   some (.inl (U (b3+(1:Int))))
  else none
 else
  some (.inr (.inl (false,az,aB,aR,an)))
def sY (ct:Int)(az:Bool)(aB:List Int)(ag:List bL)(aR:List (List ba))(an:List Int)(au:List Bool)(cI:List Int)(b3:Int):Option ((Bool×Bool×(List Int)×(List (List ba))×(List Int))⊕(Unit)):=iter (fun w:Int=>sP ct az aB ag aR an au cI w) b3
theorem LD {ct:Int}{az:Bool}{aB:List Int}{ag:List bL}{aR:List (List ba)}{an:List Int}{au:List Bool}{cI:List Int}{b3:Int}:b2 (sP ct az aB ag aR an au cI b3) (e5 bz 87 6 50 [1,0,1,0,0,1,0,1,1,0,0] (AF ct az aB ag aR an au cI b3) (AF ct az aB ag aR an au cI) (xK ct az aB ag aR an au cI)):=by
 unfold sP
 exact .ite (fun o =>
  .bk fun J =>
  .aI fun a4 aO =>
  (let t1:List cM:=[(ak 1),.aw true,(ak 2)];
  .ite (fun aM =>
  .aI fun cj bK =>
  (have a6:=((.bF o J.1 J.2 (cr df aO) (d3 aM) (d3 aM) (d3 aM) (d3 aM) (.ja (d3 aM) (d3 aM) (iM R an) (ib R an) (eu a2 an) (GQ cj bK) (cx.b cj) (d3 aM))):cF _);
  .ite (fun bG =>
  .ret (let aZ:=cR [0,1,2,3,4,5];bP (t1.append [.aY (aD 6 (aF (.cy (df a4)) (aD 7 (aF (.call {ac:=[.bH (.c6 (.eZ (an.map R))),ii],r:= .b cj,cX:=true,c4:=[3]}) (aF (.aw false) (aD 1 (dE 5 (aF (.aw true) [])))))))),.aw true,(ak 2),.bi [0,1,2,3,4,5] [.box [.id,.id,.id,.id,.id,.id],.bU (aH 1 (bN 2 0 2) ag),.bU (cB 2 aJ aR),.pure,.pure,.pure] (bI [0,1,5,13,14])]) (a6.bb (.bF bG bG bG bG bG bG da (ez aZ 2 2 0 2 rfl ag) (.dc (eF aZ 2 dV aR) (aU 1 .live a2 an) (aU 1 .live dI au) (aU 1 .live a2 cI))))))
  (fun bG =>
  .bk fun d8 =>
  .aI fun fK dG =>
  (let t3:List cM:=t1.append [.aY (aD 6 (aF (.cy (df a4)) (aD 7 (aF (.call {ac:=[.bH (.c6 (.eZ (an.map R))),ii],r:= .b cj,cX:=true,c4:=[3]}) (aF (.aw false) (aD 4 (aF (.call {ac:=[.bH (.ptr [.view 2 (ap.mk 1 (ag.map (bN 2 0 2)) .live) ((ag.map (ks aR)).map (cl 2 aJ)),.id,.id,.eZ (an.map R),.id,.eZ (au.map df)]),.bH (.c6 (.eZ (cI.map R))),ii],r:= .n .i64 fK,cX:=true,c4:=[0,1,2,3,4,5]}) (aD 1 (aF (.aw false) [])))))))))];
  have fN:=a6.bb (.bF bG bG bG bG (rfl:cz (some (aH 1 (bN 2 0 2) ag)) 0=some (ap.mk 1 (ag.map (bN 2 0 2)) .live)) (rfl:_=true) (ib (bN 2 0 2) ag) (eu (lC (sz:=2) pz) (ag.map (ks aR))) (.bF (y4 (dm:=2) (h9:=[]++(cB 2 aJ aR)) (bC:=kd) (sz:=1) (g:=(cl 2 aJ)) (dQ (bN 2 0 2) ag) (fun _=>rfl) (fun x aa=>(EH (dm:=2) (c:=0) (bC:=kd) (qA:=[]) (hI .live 2 aJ aR) pz rfl jQ rfl (DF d8 x aa))) (fo ag)) (iM R an) (ib R an) (eu a2 an) (iM df au) (ib df au) (eu dI au) (ly (Ct (⟨ag.map (ks aR),(⟨az,aB⟩:ba),an,ct,au⟩:ov)):gL [[.isl 1 ((ag.map (ks aR)).map (cl 2 aJ)),.b az,.isl 1 (aB.map R),.isl 1 (an.map R),.n .i64 ct,.isl 1 (au.map df)]]) (.fm (iM R cI) (ib R cI) (eu a2 cI) (Gf fK dG) (cx.n .i64 fK) bG bG)));
  .ite (fun eT =>
  .ret (let bg:=cR [0,1,2,3,4,5];bP (t3.append [.aw true,(ak 2),.bi [0,1,2,3,4,5] [.box [.id,.id,.id,.id,.id,.id],.bU (aH 1 (bN 2 0 2) ag),.bU (cB 2 aJ aR),.pure,.pure,.pure] (bI [0,1,5,13,14])]) (fN.bb (.eW eT (ez bg 2 2 0 2 rfl ag) (eF bg 2 dV aR) (aU 1 .live a2 an) (aU 1 .live dI au) (aU 1 .live a2 cI)))))
  (fun eT =>
  .aI fun dk dL =>
  (let t5:List cM:=t3.append [.aw false,.aY (b0 2 (.call {ac:=[.bH (.ptr [.view 2 (ap.mk 1 (ag.map (bN 2 0 2)) .live) ((ag.map (ks aR)).map (cl 2 aJ)),.id,.id,.eZ (an.map R),.id,.eZ (au.map df)]),ii],r:= .n .i64 dk,cX:=true,c4:=[0,1,2,3,4]}) 1),(ak 2)];
  have kl:=fN.bb (.bF eT (rfl:cz (some (aH 1 (bN 2 0 2) ag)) 0=some (ap.mk 1 (ag.map (bN 2 0 2)) .live)) (rfl:_=true) (ib (bN 2 0 2) ag) (eu (lC (sz:=2) pz) (ag.map (ks aR))) (y4 (dm:=2) (h9:=[]++(cB 2 aJ aR)) (bC:=kd) (sz:=1) (g:=(cl 2 aJ)) (dQ (bN 2 0 2) ag) (fun _=>rfl) (fun x aa=>(EH (dm:=2) (c:=0) (bC:=kd) (qA:=[]) (hI .live 2 aJ aR) pz rfl jQ rfl (DF d8 x aa))) (fo ag)) (iM R an) (ib R an) (.fm (eu a2 an) (iM df au) (ib df au) (eu dI au) (ly (Ct (⟨ag.map (ks aR),(⟨az,aB⟩:ba),an,ct,au⟩:ov)):gL [[.isl 1 ((ag.map (ks aR)).map (cl 2 aJ)),.b az,.isl 1 (aB.map R),.isl 1 (an.map R),.n .i64 ct,.isl 1 (au.map df)]]) (Mv dk dL) (cx.n .i64 dk)));
  .ite (fun hg =>
  .ret (let ck:=cR [0,1,2,3,4,5];bP (t5.append [.aw true,(ak 1),.bi [0,1,2,3,4,5] [.box [.id,.id,.id,.id,.id,.id],.bU (aH 1 (bN 2 0 2) ag),.bU (cB 2 aJ aR),.pure,.pure,.pure] (bI [4])]) (kl.bb (.eW hg (ez ck 2 2 0 2 rfl ag) (eF ck 2 dV aR) (aU 1 .live a2 an) (aU 1 .live dI au) (aU 1 .live a2 cI)))))
  (fun hg =>
  .aI fun et fF =>
  .ret (let cS:=eJ 1 0 0 ag.length et.1 et.2.1 3 0 0 et.2.2.2.length ct 4 0 0 au.length;let eB:=eJ 1 0 0 ag.length az aB 3 0 0 an.length ct 4 0 0 au.length;let gI:=aH 1 (bN 2 0 2) ag;let i7:=cB 2 aJ et.2.2.1;let fg:=Ac [0,1,2,3,4];let h4:=p8 [0,1,2,3,4];let kz:=nj 1 (ag.map (bN 2 0 2));let ia:=cR [0,1,2,3,4,5];bP (t5.append [.aw false,.aY (aD 3 (aF (.call {aA:=(sl [0,1,2,3,4]),b7:=[.bU [ap.mk 6 [eB] .live],.bU gI,.bU (cB 2 aJ aR),.pure,.pure],ac:=[ii,ii,ii],r:= .dx [],cY:=[[ap.mk 6 [cS] .live],gI,i7,(aH 1 R et.2.2.2),(aH 1 df au)],ec:=ii,eL:=[.bU [ap.mk 6 [cS] .live],.bU gI,.bU i7,.pure,.pure],c4:=[0,1,2,3,4],cX:=false}) [])),(ak 1),.bi [0,1,2,3,4,5] [.box [.id,.id,.id,.id,.id,.id],.bU gI,.bU i7,.pure,.pure,.pure] (bI [0,1,5])]) (kl.bb (.bF hg (oh fg 6 [eB] [eB] rfl) (nj 6 [eB]) (ez fg 2 2 0 2 rfl ag) kz (eF fg 2 dV aR) (qZ 2 aJ aR) (i1 1 a2 an) (.bF (i1 1 dI au) (oh h4 6 [cS] [cS] rfl) (nj 6 [cS]) (ez h4 2 2 0 2 rfl ag) kz (eF h4 2 dV et.2.2.1) (qZ 2 aJ et.2.2.1) (i1 1 a2 et.2.2.2) (.fm (i1 1 dI au) (Gc et fF) (ez ia 2 2 0 2 rfl ag) (eF ia 2 dV et.2.2.1) (aU 1 .live a2 et.2.2.2) (aU 1 .live dI au) (aU 1 .live a2 cI)))))))))))))
  (fun aM =>
  .ret (let pk:=cR [0,1,2,3,4,5];bP (t1.append [.aY (aD 6 (aF (.cy (df a4)) (aD 2 (dE 6 (aF (.aw true) (aD 1 (dE 5 (aD 1 [])))))))),.aw true,(ak 2),.bi [0,1,2,3,4,5] [.box [.id,.id,.id,.id,.id,.id],.bU (aH 1 (bN 2 0 2) ag),.bU (cB 2 aJ aR),.pure,.pure,.pure] (bI [0,1,5,13,14])]) (.bF o J.1 J.2 (cr df aO) (ea aM) (ea aM) (ea aM) (ea aM) (.bF (ea aM) (ea aM) (ea aM) da da da da da (.eW da (ez pk 2 2 0 2 rfl ag) (eF pk 2 dV aR) (aU 1 .live a2 an) (aU 1 .live dI au) (aU 1 .live a2 cI))))))))
  (fun o =>
  .ret (let qR:=cR [0,1,2,3,4,5];bP [(ak 1),.aw false,.bi [0,1,2,3,4,5] [.box [.id,.id,.id,.id,.id,.id],.bU (aH 1 (bN 2 0 2) ag),.bU (cB 2 aJ aR),.pure,.pure,.pure] (bI [0,1,5])] (.eW o (ez qR 2 2 0 2 rfl ag) (eF qR 2 dV aR) (aU 1 .live a2 an) (aU 1 .live dI au) (aU 1 .live a2 cI))))
theorem F3 {ct:Int}{az:Bool}{aB:List Int}{ag:List bL}{aR:List (List ba)}{an:List Int}{au:List Bool}{cI:List Int}{b3:Int}{r} (h:sY ct az aB ag aR an au cI b3=some r):e6 bz 87 6 50 [1,0,1,0,0,1,0,1,1,0,0] (AF ct az aB ag aR an au cI) (xK ct az aB ag aR an au cI) b3 r:=e7 (fun _=>LD) h
def AG (bE:Int)(ag:List bL)(au:List Bool)(cI:List Int):(Bool×Bool×(List Int)×(List (List ba))×(List Int))→S:=fun (ox,az,aB,aR,an)=>er [(0,.ref 0 0 0 0),(1,.bp 5 0 0 cI.length),(5,.b ox)] [[ap.mk 6 [(eJ 1 0 0 ag.length az aB 3 0 0 an.length bE 4 0 0 au.length)] .live],(aH 1 (bN 2 0 2) ag),(cB 2 aJ aR),(aH 1 R an),(aH 1 df au),(aH 1 R cI)]
def xL (bE:Int)(ag:List bL)(au:List Bool)(cI:List Int):((Bool×(List Int)×(List (List ba))×(List Int))⊕(Bool×(List Int)×(List (List ba))×(List Int)))→ex
 | .inl a=>⟨some 0,[(0,.ref 0 0 0 0),(1,.bp 5 0 0 cI.length)],[[ap.mk 6 [(eJ 1 0 0 ag.length a.1 a.2.1 3 0 0 a.2.2.2.length bE 4 0 0 au.length)] .live],(aH 1 (bN 2 0 2) ag),(cB 2 aJ a.2.2.1),(aH 1 R a.2.2.2),(aH 1 df au),(aH 1 R cI)]⟩
 | .inr a=>⟨none,[(4,.b false)],[[ap.mk 6 [(eJ 1 0 0 ag.length a.1 a.2.1 3 0 0 a.2.2.2.length bE 4 0 0 au.length)] .live],(aH 1 (bN 2 0 2) ag),(cB 2 aJ a.2.2.1),(aH 1 R a.2.2.2),(aH 1 df au),(aH 1 R cI)]⟩
def ra (bE:Int)(ag:List bL)(au:List Bool)(cI:List Int)(ox az:Bool)(aB:List Int)(aR:List (List ba))(an:List Int):Option ((Bool×Bool×(List Int)×(List (List ba))×(List Int))⊕((Bool×(List Int)×(List (List ba))×(List Int))⊕(Bool×(List Int)×(List (List ba))×(List Int)))) :=
 if ox=true then
  sY bE az aB ag aR an au cI 0 >>= fun bJ =>
  match bJ with
  | .inl gP=>(some (.inl (gP.1,gP.2.1,gP.2.2.1,gP.2.2.2.1,gP.2.2.2.2)))
  | .inr gP=>(some (.inr (.inr (az,aB,aR,an))))
 else
  some (.inr (.inl (az,aB,aR,an)))
def xP (bE:Int)(ag:List bL)(au:List Bool)(cI:List Int)(ox az:Bool)(aB:List Int)(aR:List (List ba))(an:List Int):Option ((Bool×(List Int)×(List (List ba))×(List Int))⊕(Bool×(List Int)×(List (List ba))×(List Int))):=iter (fun w:Bool×Bool×(List Int)×(List (List ba))×(List Int)=>ra bE ag au cI w.1 w.2.1 w.2.2.1 w.2.2.2.1 w.2.2.2.2) (ox,az,aB,aR,an)
theorem LF {bE:Int}{ag:List bL}{au:List Bool}{cI:List Int}{ox az:Bool}{aB:List Int}{aR:List (List ba)}{an:List Int}:b2 (ra bE ag au cI ox az aB aR an) (e5 bz 87 6 50 [1,0,1,0,0] (AG bE ag au cI (ox,az,aB,aR,an)) (AG bE ag au cI) (xL bE ag au cI)):=by
 unfold ra
 exact .ite (fun o =>
  .aI fun bJ ao =>
  (let cS:=cR [0,1,2,3,4,5];let t1:List cM:=[(ak 1),.aw true,(ak 1),(ak 5),.bi [0,1,2,3,4,5] [.box [.id,.id,.id,.id,.id,.id],.bU (aH 1 (bN 2 0 2) ag),.bU (cB 2 aJ aR),.pure,.pure,.pure] (bI [0,1,5,13,14])];
  have a6:=((.eW o (ez cS 2 2 0 2 rfl ag) (eF cS 2 dV aR) (aU 1 .live a2 an) (aU 1 .live dI au) (aU 1 .live a2 cI)):cF _);
  (by
  rcases bJ with gP|gP
  ·exact (.ret (let aZ:=cR [0,1,2,3,4,5];bP (t1.append [(xK bE az aB ag aR an au cI (.inl gP)).fU,.bi [0,1,2,3,4,5] [.box [.id,.id,.id,.id,.id,.id],.bU (aH 1 (bN 2 0 2) ag),.bU (cB 2 aJ gP.2.2.2.1),.pure,.pure,.pure] (bI [0,1,5])]) (a6.bb (.eW (F3 ao) (ez aZ 2 2 0 2 rfl ag) (eF aZ 2 dV gP.2.2.2.1) (aU 1 .live a2 gP.2.2.2.2) (aU 1 .live dI au) (aU 1 .live a2 cI)))))
  ·exact (.ret (let bg:=cR [0,1,2,3,4,5];bP (t1.append [(xK bE az aB ag aR an au cI (.inr gP)).fU,.bi [0,1,2,3,4,5] [.box [.id,.id,.id,.id,.id,.id],.bU (aH 1 (bN 2 0 2) ag),.bU (cB 2 aJ aR),.pure,.pure,.pure] (bI [4])]) (a6.bb (.eW (F3 ao) (ez bg 2 2 0 2 rfl ag) (eF bg 2 dV aR) (aU 1 .live a2 an) (aU 1 .live dI au) (aU 1 .live a2 cI))))))))
  (fun o =>
  .ret (let ck:=cR [0,1,2,3,4,5];bP [(ak 1),.aw false,.bi [0,1,2,3,4,5] [.box [.id,.id,.id,.id,.id,.id],.bU (aH 1 (bN 2 0 2) ag),.bU (cB 2 aJ aR),.pure,.pure,.pure] (bI [0,1])] (.eW o (ez ck 2 2 0 2 rfl ag) (eF ck 2 dV aR) (aU 1 .live a2 an) (aU 1 .live dI au) (aU 1 .live a2 cI))))
theorem F4 {bE:Int}{ag:List bL}{au:List Bool}{cI:List Int}{ox az:Bool}{aB:List Int}{aR:List (List ba)}{an:List Int}{r} (h:xP bE ag au cI ox az aB aR an=some r):e6 bz 87 6 50 [1,0,1,0,0] (AG bE ag au cI) (xL bE ag au cI) (ox,az,aB,aR,an) r:=e7 (fun _=>LF) h
def AH (eI:Int)(az:Bool)(aB:List Int)(ag:List bL)(aR:List (List ba))(an cI:List Int):(Int×(List Bool))→S:=fun (dW,au)=>er [(0,.ref 0 0 0 0),(1,.bp 5 0 0 cI.length),(53,.n .i64 eI),(54,.n .i64 dW)] [[ap.mk 6 [(eJ 1 0 0 ag.length az aB 3 0 0 an.length eI 4 0 0 au.length)] .live],(aH 1 (bN 2 0 2) ag),(cB 2 aJ aR),(aH 1 R an),(aH 1 df au),(aH 1 R cI)]
def AO (eI:Int)(az:Bool)(aB:List Int)(ag:List bL)(aR:List (List ba))(an cI:List Int):(List Bool)→ex
 | a=>⟨some 4,[],[[ap.mk 6 [(eJ 1 0 0 ag.length az aB 3 0 0 an.length eI 4 0 0 a.length)] .live],(aH 1 (bN 2 0 2) ag),(cB 2 aJ aR),(aH 1 R an),(aH 1 df a),(aH 1 R cI)]⟩
def sQ (eI:Int)(az:Bool)(aB:List Int)(ag:List bL)(aR:List (List ba))(an cI:List Int)(dW:Int)(au:List Bool):Option ((Int×(List Bool))⊕((List Bool))) :=
 if (decide (dW<eI))=true then
  if 0≤dW∧dW<(au.length:Nat) then
  au[(0+dW.toNat)]? >>= fun a4 =>
  if a4=true then
   tJ an dW >>= fun cj =>
   if cj=true then
    some (.inl (U (dW+(1:Int)),au))
   else
    if ag.all (sk aR)=true then
    tr (⟨ag.map (ks aR),(⟨az,aB⟩:ba),an,eI,au⟩:ov) cI dW >>= fun fK =>
    if (decide (fK<(0:Int)))=true then
     if (0+dW.toNat)<au.length then
     some (.inl (U (dW+(1:Int)),au.set (0+dW.toNat) false))
     else none
    else
     some (.inl (U (dW+(1:Int)),au))
    else none
  else
   some (.inl (U (dW+(1:Int)),au))
  else none
 else
  some (.inr au)
def xQ (eI:Int)(az:Bool)(aB:List Int)(ag:List bL)(aR:List (List ba))(an cI:List Int)(dW:Int)(au:List Bool):Option ((List Bool)):=iter (fun w:Int×(List Bool)=>sQ eI az aB ag aR an cI w.1 w.2) (dW,au)
theorem LG {eI:Int}{az:Bool}{aB:List Int}{ag:List bL}{aR:List (List ba)}{an cI:List Int}{dW:Int}{au:List Bool}:b2 (sQ eI az aB ag aR an cI dW au) (e5 bz 87 6 50 [1,1,0,1,0,0] (AH eI az aB ag aR an cI (dW,au)) (AH eI az aB ag aR an cI) (AO eI az aB ag aR an cI)):=by
 unfold sQ
 exact .ite (fun o =>
  .bk fun J =>
  .aI fun a4 aO =>
  (let t1:List cM:=[(ak 1),.aw true,(ak 2)];
  .ite (fun aM =>
  .aI fun cj bK =>
  (have a6:=((.bF o J.1 J.2 (cr df aO) aM aM aM aM (.bF aM aM (iM R an) (ib R an) (eu a2 an) (GQ cj bK) (cx.b cj) aM (.ar aM))):cF _);
  .ite (fun bG =>
  .ret (let aZ:=cR [0,1,2,3,4,5];bP (t1.append [.aY (aD 6 (aF (.cy (df a4)) (aD 6 (aF (.call {ac:=[.bH (.c6 (.eZ (an.map R))),ii],r:= .b cj,cX:=true,c4:=[3]}) (aD 1 (aF (.aw true) (aD 1 (dE 5 (aF (.aw false) []))))))))),.aw false,(ak 2),.bi [0,1,2,3,4,5] [.box [.id,.id,.id,.id,.id,.id],.bU (aH 1 (bN 2 0 2) ag),.bU (cB 2 aJ aR),.pure,.pure,.pure] (bI [0,1,53,54])]) (a6.bb (.bF (d3 bG) (d3 bG) (d3 bG) (d3 bG) (d3 bG) (d3 bG) iZ (ez aZ 2 2 0 2 rfl ag) (.dc (eF aZ 2 dV aR) (aU 1 .live a2 an) (aU 1 .live dI au) (aU 1 .live a2 cI))))))
  (fun bG =>
  .bk fun d8 =>
  .aI fun fK dG =>
  (let t3:List cM:=t1.append [.aY (aD 6 (aF (.cy (df a4)) (aD 6 (aF (.call {ac:=[.bH (.c6 (.eZ (an.map R))),ii],r:= .b cj,cX:=true,c4:=[3]}) (aD 1 (aF (.aw true) (aD 4 (aF (.call {ac:=[.bH (.ptr [.view 2 (ap.mk 1 (ag.map (bN 2 0 2)) .live) ((ag.map (ks aR)).map (cl 2 aJ)),.id,.id,.eZ (an.map R),.id,.eZ (au.map df)]),.bH (.c6 (.eZ (cI.map R))),ii],r:= .n .i64 fK,cX:=true,c4:=[0,1,2,3,4,5]}) (aD 1 (aF (.aw true) []))))))))))];
  have fN:=a6.bb (.bF (ea bG) (ea bG) (ea bG) (ea bG) (rfl:cz (some (aH 1 (bN 2 0 2) ag)) 0=some (ap.mk 1 (ag.map (bN 2 0 2)) .live)) (rfl:_=true) (ib (bN 2 0 2) ag) (eu (lC (sz:=2) pz) (ag.map (ks aR))) (.bF (y4 (dm:=2) (h9:=[]++(cB 2 aJ aR)) (bC:=kd) (sz:=1) (g:=(cl 2 aJ)) (dQ (bN 2 0 2) ag) (fun _=>rfl) (fun x aa=>(EH (dm:=2) (c:=0) (bC:=kd) (qA:=[]) (hI .live 2 aJ aR) pz rfl jQ rfl (DF d8 x aa))) (fo ag)) (iM R an) (ib R an) (eu a2 an) (iM df au) (ib df au) (eu dI au) (ly (Ct (⟨ag.map (ks aR),(⟨az,aB⟩:ba),an,eI,au⟩:ov)):gL [[.isl 1 ((ag.map (ks aR)).map (cl 2 aJ)),.b az,.isl 1 (aB.map R),.isl 1 (an.map R),.n .i64 eI,.isl 1 (au.map df)]]) (.fm (iM R cI) (ib R cI) (eu a2 cI) (Gf fK dG) (cx.n .i64 fK) (ea bG) (ea bG))));
  .ite (fun eT =>
  .bk fun eM =>
  .ret (let bg:=cR [0,1,2,3,4,5];bP (t3.append [.aw true,.aY (aD 6 (aF .eV [])),(ak 2),.bi [0,1,2,3,4,5] [.box [.id,.id,.id,.id,.id,.len ((au.set (0+dW.toNat) false).length)],.bU (aH 1 (bN 2 0 2) ag),.bU (cB 2 aJ aR),.pure,.dH (aH 1 df (au.set (0+dW.toNat) false)),.pure] (bI [0,1,53,54])]) (fN.bb (.bF eT J.1 J.2 (hJ df eM) (hl 1) (hL (fo au) (0+dW.toNat) false) (ez bg 2 2 0 2 rfl ag) (eF bg 2 dV aR) (.dc (aU 1 .live a2 an) (ey 1 .live (f7 (dQ df au) (0+dW.toNat) false)) (aU 1 .live dI (au.set (0+dW.toNat) false)) (aU 1 .live a2 cI))))))
  (fun eT =>
  .ret (let ck:=cR [0,1,2,3,4,5];bP (t3.append [.aw false,(ak 2),.bi [0,1,2,3,4,5] [.box [.id,.id,.id,.id,.id,.id],.bU (aH 1 (bN 2 0 2) ag),.bU (cB 2 aJ aR),.pure,.pure,.pure] (bI [0,1,53,54])]) (fN.bb (.eW eT (ez ck 2 2 0 2 rfl ag) (eF ck 2 dV aR) (aU 1 .live a2 an) (aU 1 .live dI au) (aU 1 .live a2 cI)))))))))
  (fun aM =>
  .ret (let cS:=cR [0,1,2,3,4,5];bP (t1.append [.aY (aD 6 (aF (.cy (df a4)) (aD 1 (dE 7 (aF (.aw false) (aD 1 (dE 5 (aD 1 [])))))))),.aw false,(ak 2),.bi [0,1,2,3,4,5] [.box [.id,.id,.id,.id,.id,.id],.bU (aH 1 (bN 2 0 2) ag),.bU (cB 2 aJ aR),.pure,.pure,.pure] (bI [0,1,53,54])]) (.bF o J.1 J.2 (cr df aO) aM aM aM aM (.bF aM aM aM aM iZ iZ iZ iZ (.fm iZ iZ (ez cS 2 2 0 2 rfl ag) (eF cS 2 dV aR) (aU 1 .live a2 an) (aU 1 .live dI au) (aU 1 .live a2 cI))))))))
  (fun o =>
  .ret (let eB:=cR [0,1,2,3,4,5];bP [(ak 1),.aw false,.bi [0,1,2,3,4,5] [.box [.id,.id,.id,.id,.id,.id],.bU (aH 1 (bN 2 0 2) ag),.bU (cB 2 aJ aR),.pure,.pure,.pure] []] (.eW o (ez eB 2 2 0 2 rfl ag) (eF eB 2 dV aR) (aU 1 .live a2 an) (aU 1 .live dI au) (aU 1 .live a2 cI))))
theorem L3 {eI:Int}{az:Bool}{aB:List Int}{ag:List bL}{aR:List (List ba)}{an cI:List Int}{dW:Int}{au:List Bool}{r} (h:xQ eI az aB ag aR an cI dW au=some r):e6 bz 87 6 50 [1,1,0,1,0,0] (AH eI az aB ag aR an cI) (AO eI az aB ag aR an cI) (dW,au) r:=e7 (fun _=>LG) h
def s4 (cp:Bool)(eA:List Int)(dA:Int)(e4:List bL)(j2:List (List ba))(gz:List Int)(f6:List Bool)(nh:List Int):Option (Bool×Bool×(List Int)×(List (List ba))×(List Int)×(List Bool)) :=
 xP dA e4 f6 nh true cp eA j2 gz >>= fun ax =>
 match ax with
 | .inl dn=>(xQ dA dn.1 dn.2.1 e4 dn.2.2.1 dn.2.2.2 nh 0 f6 >>= fun bl =>
  some (true,dn.1,dn.2.1,dn.2.2.1,dn.2.2.2,bl))
 | .inr dn=>(some (false,dn.1,dn.2.1,dn.2.2.1,dn.2.2.2,f6))
theorem Md {cp:Bool}{eA:List Int}{dA:Int}{e4:List bL}{j2:List (List ba)}{gz:List Int}{f6:List Bool}{nh:List Int}:b2 (s4 cp eA dA e4 j2 gz f6 nh) (fun a=>Con bz 50 [.ref 0 0 0 0,.bp 5 0 0 nh.length] [[ap.mk 6 [(eJ 1 0 0 e4.length cp eA 3 0 0 gz.length dA 4 0 0 f6.length)] .live],(aH 1 (bN 2 0 2) e4),(cB 2 aJ j2),(aH 1 R gz),(aH 1 df f6),(aH 1 R nh)] (.b a.1) [[ap.mk 6 [(eJ 1 0 0 e4.length a.2.1 a.2.2.1 3 0 0 a.2.2.2.2.1.length dA 4 0 0 a.2.2.2.2.2.length)] .live],(aH 1 (bN 2 0 2) e4),(cB 2 aJ a.2.2.2.1),(aH 1 R a.2.2.2.2.1),(aH 1 df a.2.2.2.2.2),(aH 1 R nh)]):=by
 unfold s4
 exact .aI fun ax J =>
  (let h4:=cR [0,1,2,3,4,5];let t1:List cM:=[(ak 1),(ak 1),.bi [0,1,2,3,4,5] [.box [.id,.id,.id,.id,.id,.id],.bU (aH 1 (bN 2 0 2) e4),.bU (cB 2 aJ j2),.pure,.pure,.pure] (bI [0,1,5])];
  have a6:=((.ed (ez h4 2 2 0 2 rfl e4) (eF h4 2 dV j2) (aU 1 .live a2 gz) (aU 1 .live dI f6) (aU 1 .live a2 nh)):cF _);
  (by
  rcases ax with dn|dn
  ·exact (.aI fun bl aM =>
  .ret (let aZ:=eJ 1 0 0 e4.length dn.1 dn.2.1 3 0 0 dn.2.2.2.length dA 4 0 0 bl.length;let bg:=cR [0,1,2,3,4,5];let ck:=aU 1 .live a2 dn.2.2.2;let cS:=eF bg 2 dV dn.2.2.1;let eB:=cB 2 aJ dn.2.2.1;let gI:=ez bg 2 2 0 2 rfl e4;ik (t1.append [(xL dA e4 f6 nh (.inl dn)).fU,(ak 5),.bi [0,1,2,3,4,5] [.box [.id,.id,.id,.id,.id,.id],.bU (aH 1 (bN 2 0 2) e4),.bU eB,.pure,.pure,.pure] (bI [0,1,53,54]),(AO dA dn.1 dn.2.1 e4 dn.2.2.1 dn.2.2.2 nh bl).fU,(ak 1)]) [0,1,2,3,4,5] [.bU [ap.mk 6 [aZ] .live],.bU (aH 1 (bN 2 0 2) e4),.bU eB,.pure,.pure,.pure] (a6.bb (.bF (F4 J) gI cS ck (aU 1 .live dI f6) (aU 1 .live a2 nh) (L3 aM) (oh bg 6 [aZ] [aZ] rfl) (.ed gI cS ck (aU 1 .live dI bl) (aU 1 .live a2 nh))))))
  ·exact (.ret (let i7:=eJ 1 0 0 e4.length dn.1 dn.2.1 3 0 0 dn.2.2.2.length dA 4 0 0 f6.length;let fg:=cR [0,1,2,3,4,5];ik (t1.append [(xL dA e4 f6 nh (.inr dn)).fU]) [0,1,2,3,4,5] [.bU [ap.mk 6 [i7] .live],.bU (aH 1 (bN 2 0 2) e4),.bU (cB 2 aJ dn.2.2.1),.pure,.pure,.pure] (a6.bb (.fm (F4 J) (oh fg 6 [i7] [i7] rfl) (ez fg 2 2 0 2 rfl e4) (eF fg 2 dV dn.2.2.1) (aU 1 .live a2 dn.2.2.2) (aU 1 .live dI f6) (aU 1 .live a2 nh)))))))
def AY (gp a0:Int)(az:Bool)(aB:List Int)(bE:Int)(ag:List bL)(aR:List (List ba))(an:List Int)(au:List Bool):Int→S:=fun bO=>er [(0,.ref 0 0 0 0),(1,.n .i64 gp),(4,.n .i64 a0),(5,.n .i64 bO)] [[ap.mk 6 [(eJ 1 0 0 ag.length az aB 3 0 0 an.length bE 4 0 0 au.length)] .live],(aH 1 (bN 2 0 2) ag),(cB 2 aJ aR),(aH 1 R an),(aH 1 df au)]
def A4 (gp a0:Int)(az:Bool)(aB:List Int)(bE:Int)(ag:List bL)(aR:List (List ba))(an:List Int)(au:List Bool):Int→ex
 | a=>⟨some 2,[(0,.ref 0 0 0 0),(1,.n .i64 gp),(4,.n .i64 a0),(5,.n .i64 a)],[[ap.mk 6 [(eJ 1 0 0 ag.length az aB 3 0 0 an.length bE 4 0 0 au.length)] .live],(aH 1 (bN 2 0 2) ag),(cB 2 aJ aR),(aH 1 R an),(aH 1 df au)]⟩
def sX (gp a0:Int)(az:Bool)(aB:List Int)(bE:Int)(ag:List bL)(aR:List (List ba))(an:List Int)(au:List Bool)(bO:Int):Option ((Int)⊕(Int)) :=
 if (decide (bO<gp))=true then
  if 0≤a0∧a0<(ag.length:Nat) then
  ag[(0+a0.toNat)]? >>= fun a4 =>
  a4 >>= fun oj =>
  aR[oj.1]? >>= fun jR =>
  if 0≤bO∧bO<(oj.2:Nat) then
  jR[(0+bO.toNat)]? >>= fun j0 =>
  mZ j0 >>= fun fz =>
  if (fz == (0:Int))=true then
   some (.inl (U (bO+(1:Int))))
  else
   some (.inr bO)
  else none
  else none
 else
  some (.inr bO)
def xU (gp a0:Int)(az:Bool)(aB:List Int)(bE:Int)(ag:List bL)(aR:List (List ba))(an:List Int)(au:List Bool)(bO:Int):Option (Int):=iter (fun w:Int=>sX gp a0 az aB bE ag aR an au w) bO
theorem LY {gp a0:Int}{az:Bool}{aB:List Int}{bE:Int}{ag:List bL}{aR:List (List ba)}{an:List Int}{au:List Bool}{bO:Int}:b2 (sX gp a0 az aB bE ag aR an au bO) (e5 bz 86 5 52 [1,0,0,1,0,1,1,0,0,0] (AY gp a0 az aB bE ag aR an au bO) (AY gp a0 az aB bE ag aR an au) (A4 gp a0 az aB bE ag aR an au)):=by
 unfold sX
 exact .ite (fun o =>
  .bk fun J =>
  .aI fun a4 aO =>
  .aI fun oj bW =>
  .aI fun jR bG =>
  .bk fun d8 =>
  .aI fun j0 dG =>
  .aI fun fz eM =>
  (let aZ:=ke (hI .live 2 aJ aR) jQ bG;let t1:List cM:=[.aY (aD 10 (aF (.cy ((bN 2 0 2) a4)) (aD 1 (aF (.kB 34 (.bp 2 (oj.1+0) 0 oj.2) (.gh (ap.mk 2 (jR.map aJ) .live) [])) (aF (.gh (ap.mk 2 (jR.map aJ) .live) (aJ j0)) (aF (cT 1 (.n .i64 fz) true) (aD 1 (aF (.aw true) []))))))))];
  have a6:=((.bF o o o o o o J.1 J.2 (.bF o (cr (bN 2 0 2) aO) o o (m2 (dm:=2) (c:=0) (sz:=2) bW) aZ d8.1 d8.2 (.ja o aZ (cr aJ dG) o (qe fz eM) (cx.n .i64 fz) o o))):cF _);
  .ite (fun dL =>
  .ret (bP (t1.append [.aw true,(ak 3),.bi [0,1,2,3,4] [.box [.id,.id,.id,.id,.id,.id],.bU (aH 1 (bN 2 0 2) ag),.bU (cB 2 aJ aR),.pure,.pure] (bI [0,1,4,5])]) (a6.bb (.ed dL (ez (cR [0,1,2,3,4]) 2 2 0 2 rfl ag) (eF (cR [0,1,2,3,4]) 2 dV aR) (aU 1 .live a2 an) (aU 1 .live dI au)))))
  (fun dL =>
  .ret (bP (t1.append [.aw false,.bi [0,1,2,3,4] [.box [.id,.id,.id,.id,.id,.id],.bU (aH 1 (bN 2 0 2) ag),.bU (cB 2 aJ aR),.pure,.pure] (bI [0,1,4,5])]) (a6.bb (.ed dL (ez (cR [0,1,2,3,4]) 2 2 0 2 rfl ag) (eF (cR [0,1,2,3,4]) 2 dV aR) (aU 1 .live a2 an) (aU 1 .live dI au)))))))
  (fun o =>
  .ret (bP [.aY (aD 4 (dE 12 (aF (.aw false) []))),.aw false,.bi [0,1,2,3,4] [.box [.id,.id,.id,.id,.id,.id],.bU (aH 1 (bN 2 0 2) ag),.bU (cB 2 aJ aR),.pure,.pure] (bI [0,1,4,5])] (.bF o o o o o o o o (.bF o o o o o iZ (ez (cR [0,1,2,3,4]) 2 2 0 2 rfl ag) (eF (cR [0,1,2,3,4]) 2 dV aR) (.ay (aU 1 .live a2 an) (aU 1 .live dI au))))))
theorem Me {gp a0:Int}{az:Bool}{aB:List Int}{bE:Int}{ag:List bL}{aR:List (List ba)}{an:List Int}{au:List Bool}{bO:Int}{r} (h:xU gp a0 az aB bE ag aR an au bO=some r):e6 bz 86 5 52 [1,0,0,1,0,1,1,0,0,0] (AY gp a0 az aB bE ag aR an au) (A4 gp a0 az aB bE ag aR an au) bO r:=e7 (fun _=>LY) h
def AZ (gp bE:Int)(au:List Bool):(Int×Bool×(List Int)×(List bL)×(List (List ba))×(List Int))→S:=fun (a0,az,aB,ag,aR,an)=>er [(0,.ref 0 0 0 0),(1,.n .i64 gp),(4,.n .i64 a0)] [[ap.mk 6 [(eJ 1 0 0 ag.length az aB 3 0 0 an.length bE 4 0 0 au.length)] .live],(aH 1 (bN 2 0 2) ag),(cB 2 aJ aR),(aH 1 R an),(aH 1 df au)]
def A5 (gp bE:Int)(au:List Bool):(Bool×(List Int)×(List bL)×(List (List ba))×(List Int))→ex
 | a=>⟨some 0,[],[[ap.mk 6 [(eJ 1 0 0 a.2.2.1.length a.1 a.2.1 3 0 0 a.2.2.2.2.length bE 4 0 0 au.length)] .live],(aH 1 (bN 2 0 2) a.2.2.1),(cB 2 aJ a.2.2.2.1),(aH 1 R a.2.2.2.2),(aH 1 df au)]⟩
def u7 (gp bE:Int)(au:List Bool)(a0:Int)(az:Bool)(aB:List Int)(ag:List bL)(aR:List (List ba))(an:List Int):Option ((Int×Bool×(List Int)×(List bL)×(List (List ba))×(List Int))⊕(Bool×(List Int)×(List bL)×(List (List ba))×(List Int))) :=
 if (decide (a0<((ag.length:Nat):Int)))=true then
  if 0≤a0∧a0<(an.length:Nat) then
  an[(0+a0.toNat)]? >>= fun a4 =>
  if (decide (a4<gp))=true then
   some (.inl (U (a0+(1:Int)),az,aB,ag,aR,an))
  else
   xU gp a0 az aB bE ag aR an au 0 >>= fun cj =>
   if (decide (cj<gp))=true then
    td a0 cj az aB bE ag aR an au >>= fun bA =>
    some (.inl (U (a0+(1:Int)),bA.1,bA.2.1,ag,bA.2.2.1,bA.2.2.2))
   else
    if 0≤a0 then
    if 0≤a0.toNat∧a0.toNat≤ag.length then
    if 0≤(U (a0+(1:Int))) then
    if (U (a0+(1:Int))).toNat≤ag.length then
    if (0+(U (a0+(1:Int))).toNat)+(ag.length-(U (a0+(1:Int))).toNat)≤ag.length then
    if (a0.toNat-0)+((ag.drop (0+(U (a0+(1:Int))).toNat)).take (ag.length-(U (a0+(1:Int))).toNat)).length≤ag.length then
    if ((ag.drop (0+(U (a0+(1:Int))).toNat)).take (ag.length-(U (a0+(1:Int))).toNat)).length*24≤140737488355328 then
    if 0≤a0.toNat∧a0.toNat≤an.length then
    if (U (a0+(1:Int))).toNat≤an.length then
    if (0+(U (a0+(1:Int))).toNat)+(an.length-(U (a0+(1:Int))).toNat)≤an.length then
    if (a0.toNat-0)+((an.drop (0+(U (a0+(1:Int))).toNat)).take (an.length-(U (a0+(1:Int))).toNat)).length≤an.length then
    if ((an.drop (0+(U (a0+(1:Int))).toNat)).take (an.length-(U (a0+(1:Int))).toNat)).length*8≤140737488355328 then
    some (.inl (a0,az,aB,ag.take (a0.toNat-0)++((ag.drop (0+(U (a0+(1:Int))).toNat)).take (ag.length-(U (a0+(1:Int))).toNat)),aR,an.take (a0.toNat-0)++((an.drop (0+(U (a0+(1:Int))).toNat)).take (an.length-(U (a0+(1:Int))).toNat))))
    else none
    else none
    else none
    else none
    else none
    else none
    else none
    else none
    else none
    else none
    else none
    else none
  else none
 else
  some (.inr (az,aB,ag,aR,an))
def Bd (gp bE:Int)(au:List Bool)(a0:Int)(az:Bool)(aB:List Int)(ag:List bL)(aR:List (List ba))(an:List Int):Option (Bool×(List Int)×(List bL)×(List (List ba))×(List Int)):=iter (fun w:Int×Bool×(List Int)×(List bL)×(List (List ba))×(List Int)=>u7 gp bE au w.1 w.2.1 w.2.2.1 w.2.2.2.1 w.2.2.2.2.1 w.2.2.2.2.2) (a0,az,aB,ag,aR,an)
theorem LZ {gp bE:Int}{au:List Bool}{a0:Int}{az:Bool}{aB:List Int}{ag:List bL}{aR:List (List ba)}{an:List Int}:b2 (u7 gp bE au a0 az aB ag aR an) (e5 bz 86 5 52 [1,0,0] (AZ gp bE au (a0,az,aB,ag,aR,an)) (AZ gp bE au) (A5 gp bE au)):=by
 unfold u7
 exact .ite (fun o =>
  .bk fun J =>
  .aI fun a4 aO =>
  (let t1:List cM:=[(ak 7),.aw true,.aY (b0 6 (.cy (R a4)) 2)];
  .ite (fun aM =>
  .ret (bP (t1.append [.aw true,(ak 3),.bi [0,1,2,3,4] [.box [.id,.id,.id,.id,.id,.id],.bU (aH 1 (bN 2 0 2) ag),.bU (cB 2 aJ aR),.pure,.pure] (bI [0,1,4])]) (.bF o J.1 J.2 (cr R aO) aM (ez (cR [0,1,2,3,4]) 2 2 0 2 rfl ag) (eF (cR [0,1,2,3,4]) 2 dV aR) (aU 1 .live a2 an) (.ar (aU 1 .live dI au)))))
  (fun aM =>
  .aI fun cj bK =>
  (let t2:List cM:=t1.append [.aw false,(ak 1),.bi [0,1,2,3,4] [.box [.id,.id,.id,.id,.id,.id],.bU (aH 1 (bN 2 0 2) ag),.bU (cB 2 aJ aR),.pure,.pure] (bI [0,1,4,5]),(A4 gp a0 az aB bE ag aR an au cj).fU,(ak 3)];
  have gO:=((.bF o J.1 J.2 (cr R aO) aM (ez (cR [0,1,2,3,4]) 2 2 0 2 rfl ag) (eF (cR [0,1,2,3,4]) 2 dV aR) (aU 1 .live a2 an) (.ay (aU 1 .live dI au) (Me bK))):cF _);
  .ite (fun bG =>
  .aI fun bA dZ =>
  .ret (let aZ:=eJ 1 0 0 ag.length bA.1 bA.2.1 3 0 0 bA.2.2.2.length bE 4 0 0 au.length;let bg:=eJ 1 0 0 ag.length az aB 3 0 0 an.length bE 4 0 0 au.length;let ck:=aH 1 (bN 2 0 2) ag;let cS:=cB 2 aJ bA.2.2.1;let eB:=Ac [0,1,2,3,4];let gI:=p8 [0,1,2,3,4];let i7:=nj 1 (ag.map (bN 2 0 2));bP (t2.append [.aw true,.aY (aD 3 (aF (.call {aA:=(sl [0,1,2,3,4]),b7:=[.bU [ap.mk 6 [bg] .live],.bU ck,.bU (cB 2 aJ aR),.pure,.pure],ac:=[ii,ii,ii],r:= .dx [],cY:=[[ap.mk 6 [aZ] .live],ck,cS,(aH 1 R bA.2.2.2),(aH 1 df au)],ec:=ii,eL:=[.bU [ap.mk 6 [aZ] .live],.bU ck,.bU cS,.pure,.pure],c4:=[0,1,2,3,4],cX:=false}) [])),(ak 3),.bi [0,1,2,3,4] [.box [.id,.id,.id,.id,.id,.id],.bU ck,.bU cS,.pure,.pure] (bI [0,1,4])]) (gO.bb (.bF bG (oh eB 6 [bg] [bg] rfl) (nj 6 [bg]) (ez eB 2 2 0 2 rfl ag) i7 (eF eB 2 dV aR) (qZ 2 aJ aR) (i1 1 a2 an) (.bF (i1 1 dI au) (oh gI 6 [aZ] [aZ] rfl) (nj 6 [aZ]) (ez gI 2 2 0 2 rfl ag) i7 (eF gI 2 dV bA.2.2.1) (qZ 2 aJ bA.2.2.1) (i1 1 a2 bA.2.2.2) (.eW (i1 1 dI au) (Gc bA dZ) (ez (cR [0,1,2,3,4]) 2 2 0 2 rfl ag) (eF (cR [0,1,2,3,4]) 2 dV bA.2.2.1) (aU 1 .live a2 bA.2.2.2) (aU 1 .live dI au)))))))
  (fun bG =>
  .bk fun d8 =>
  .bk fun dZ =>
  .bk fun dG =>
  .bk fun eT =>
  .bk fun eM =>
  .bk fun dL =>
  .bk fun hg =>
  .bk fun lR =>
  .bk fun fF =>
  .bk fun lS =>
  .bk fun kv =>
  .bk fun kj =>
  .ret (let fg:=(U (a0+(1:Int)));let h4:=dQ (bN 2 0 2) ag;let kz:=cR [0,1,2,3,4];let ia:=dQ R an;bP (t2.append [.aw false,.aY (b0 14 .eV 3),.aY (b0 14 .eV 3),.bi [0,1,2,3,4] [.box [.len ((ag.take (a0.toNat-0)++((ag.drop (0+fg.toNat)).take (ag.length-fg.toNat))).length),.id,.id,.len ((an.take (a0.toNat-0)++((an.drop (0+fg.toNat)).take (an.length-fg.toNat))).length),.id,.id],.bU (aH 1 (bN 2 0 2) (ag.take (a0.toNat-0)++((ag.drop (0+fg.toNat)).take (ag.length-fg.toNat)))),.bU (cB 2 aJ aR),.dH (aH 1 R (an.take (a0.toNat-0)++((an.drop (0+fg.toNat)).take (an.length-fg.toNat)))),.pure] (bI [0,1,4])]) (gO.bb (.bF bG d8 dZ.1 dZ.2 dG eT (Nat.le_refl ag.length) (qq h4 eM) (.bF (Jf h4 (nq h4 (0+fg.toNat) (ag.length-fg.toNat)) dL) (Ia (nq h4 (0+fg.toNat) (ag.length-fg.toNat)) hg) d8 lR.1 lR.2 dG fF (Nat.le_refl an.length) (.bF (qq ia lS) (Jf ia (nq ia (0+fg.toNat) (an.length-fg.toNat)) kv) (Ia (nq ia (0+fg.toNat) (an.length-fg.toNat)) kj) ((Di (Je dL) (nq h4 (0+fg.toNat) (ag.length-fg.toNat)):(ag.take (a0.toNat-0)++((ag.drop (0+fg.toNat)).take (ag.length-fg.toNat))).length=(a0.toNat-0)+(((ag.map (bN 2 0 2)).drop (0+fg.toNat)).take (ag.length-fg.toNat)).length).symm) ((Di (Je kv) (nq ia (0+fg.toNat) (an.length-fg.toNat)):(an.take (a0.toNat-0)++((an.drop (0+fg.toNat)).take (an.length-fg.toNat))).length=(a0.toNat-0)+(((an.map R).drop (0+fg.toNat)).take (an.length-fg.toNat)).length).symm) (ms (uW (bQ:=kz) 1 .live (bN 2 0 2) (Dh h4 (a0.toNat-0) (nq h4 (0+fg.toNat) (ag.length-fg.toNat))) (wq (rfl:kz 2=some 2))) (rM (bQ:=kz))) (eF kz 2 dV aR) (ey 1 .live (Dh ia (a0.toNat-0) (nq ia (0+fg.toNat) (an.length-fg.toNat)))) (.ay (aU 1 .live a2 (an.take (a0.toNat-0)++((an.drop (0+fg.toNat)).take (an.length-fg.toNat)))) (aU 1 .live dI au))))))))))))
  (fun o =>
  .ret (bP [(ak 7),.aw false,.bi [0,1,2,3,4] [.box [.id,.id,.id,.id,.id,.id],.bU (aH 1 (bN 2 0 2) ag),.bU (cB 2 aJ aR),.pure,.pure] []] (.ed o (ez (cR [0,1,2,3,4]) 2 2 0 2 rfl ag) (eF (cR [0,1,2,3,4]) 2 dV aR) (aU 1 .live a2 an) (aU 1 .live dI au))))
theorem Mf {gp bE:Int}{au:List Bool}{a0:Int}{az:Bool}{aB:List Int}{ag:List bL}{aR:List (List ba)}{an:List Int}{r} (h:Bd gp bE au a0 az aB ag aR an=some r):e6 bz 86 5 52 [1,0,0] (AZ gp bE au) (A5 gp bE au) (a0,az,aB,ag,aR,an) r:=e7 (fun _=>LZ) h
def vf (gp:Int)(cp:Bool)(eA:List Int)(dA:Int)(e4:List bL)(j2:List (List ba))(gz:List Int)(f6:List Bool):Option (Bool×(List Int)×(List bL)×(List (List ba))×(List Int)) :=
 Bd gp dA f6 0 cp eA e4 j2 gz >>= fun ax =>
 some (ax.1,ax.2.1,ax.2.2.1,ax.2.2.2.1,ax.2.2.2.2)
theorem My {gp:Int}{cp:Bool}{eA:List Int}{dA:Int}{e4:List bL}{j2:List (List ba)}{gz:List Int}{f6:List Bool}:b2 (vf gp cp eA dA e4 j2 gz f6) (fun a=>Con bz 52 [.ref 0 0 0 0,.n .i64 gp] [[ap.mk 6 [(eJ 1 0 0 e4.length cp eA 3 0 0 gz.length dA 4 0 0 f6.length)] .live],(aH 1 (bN 2 0 2) e4),(cB 2 aJ j2),(aH 1 R gz),(aH 1 df f6)] (.dx []) [[ap.mk 6 [(eJ 1 0 0 a.2.2.1.length a.1 a.2.1 3 0 0 a.2.2.2.2.length dA 4 0 0 f6.length)] .live],(aH 1 (bN 2 0 2) a.2.2.1),(cB 2 aJ a.2.2.2.1),(aH 1 R a.2.2.2.2),(aH 1 df f6)]):=by
 unfold vf
 exact .aI fun ax J =>
  .ret (let aZ:=eJ 1 0 0 ax.2.2.1.length ax.1 ax.2.1 3 0 0 ax.2.2.2.2.length dA 4 0 0 f6.length;let bg:=cR [0,1,2,3,4];ik [(ak 1),.bi [0,1,2,3,4] [.box [.id,.id,.id,.id,.id,.id],.bU (aH 1 (bN 2 0 2) e4),.bU (cB 2 aJ j2),.pure,.pure] (bI [0,1,4]),(A5 gp dA f6 ax).fU] [0,1,2,3,4] [.bU [ap.mk 6 [aZ] .live],.bU (aH 1 (bN 2 0 2) ax.2.2.1),.bU (cB 2 aJ ax.2.2.2.1),.pure,.pure] (.bF (ez bg 2 2 0 2 rfl e4) (eF bg 2 dV j2) (aU 1 .live a2 gz) (aU 1 .live dI f6) (Mf J) (oh bg 6 [aZ] [aZ] rfl) (ez bg 2 2 0 2 rfl ax.2.2.1) (eF bg 2 dV ax.2.2.2.1) (.ay (aU 1 .live a2 ax.2.2.2.2) (aU 1 .live dI f6))))
def BK (cP cd:Int)(c1 cV c0:List Int)(aW a0:Int)(gC hK:Nat)(hQ:List Int)(h8:Int)(az:Bool)(aB:List Int)(a7:List bL)(an:List Int)(au:List Bool):(Int×(List (List ba)))→S:=fun (eI,gT)=>er [(0,.dg 5 [[.n .i64 cP,.n .i64 cd,.isl 1 (c1.map R),.isl 1 (cV.map R),.isl 1 (c0.map R)]] 0 0),(4,.n .i64 aW),(5,.ref 0 0 0 0),(6,.n .i64 a0),(7,.bp 1 (gC+0) 0 hK),(8,.n .i64 (-1:Int)),(34,.n .i64 cP),(35,.n .i64 a0),(51,.isl 1 (hQ.map R)),(52,.n .i64 h8),(53,.n .i64 eI)] [[ap.mk 6 [(eJ 2 0 0 a7.length az aB 3 0 0 an.length aW 4 0 0 au.length)] .live],(cB 2 aJ gT),(aH 1 (bN 1 0 2) a7),(aH 1 R an),(aH 1 df au)]
def BX (cP cd:Int)(c1 cV c0:List Int)(aW a0:Int)(gC hK:Nat)(hQ:List Int)(h8:Int)(az:Bool)(aB:List Int)(a7:List bL)(an:List Int)(au:List Bool):(List (List ba))→ex
 | a=>⟨some 2,[(0,.dg 5 [[.n .i64 cP,.n .i64 cd,.isl 1 (c1.map R),.isl 1 (cV.map R),.isl 1 (c0.map R)]] 0 0),(4,.n .i64 aW),(5,.ref 0 0 0 0),(6,.n .i64 a0),(7,.bp 1 (gC+0) 0 hK),(8,.n .i64 (-1:Int)),(34,.n .i64 cP),(35,.n .i64 a0)],[[ap.mk 6 [(eJ 2 0 0 a7.length az aB 3 0 0 an.length aW 4 0 0 au.length)] .live],(cB 2 aJ a),(aH 1 (bN 1 0 2) a7),(aH 1 R an),(aH 1 df au)]⟩
def te (cP cd:Int)(c1 cV c0:List Int)(aW a0:Int)(gC hK:Nat)(hQ:List Int)(h8:Int)(az:Bool)(aB:List Int)(a7:List bL)(an:List Int)(au:List Bool)(eI:Int)(gT:List (List ba)):Option ((Int×(List (List ba)))⊕((List (List ba)))) :=
 if (decide (eI<h8))=true then
  if 0≤eI∧eI<hQ.length then
  hQ[eI.toNat]? >>= fun a4 =>
  mr (U ((-1:Int)*a4)) >>= fun br =>
  gT[gC]? >>= fun jR =>
  if 0≤eI∧eI<(hK:Nat) then
  jR[(0+eI.toNat)]? >>= fun j0 =>
  some (.inl (U (eI+(1:Int)),gT.set gC (jR.set (0+eI.toNat) br)))
  else none
  else none
 else
  some (.inr gT)
def yc (cP cd:Int)(c1 cV c0:List Int)(aW a0:Int)(gC hK:Nat)(hQ:List Int)(h8:Int)(az:Bool)(aB:List Int)(a7:List bL)(an:List Int)(au:List Bool)(eI:Int)(gT:List (List ba)):Option ((List (List ba))):=iter (fun w:Int×(List (List ba))=>te cP cd c1 cV c0 aW a0 gC hK hQ h8 az aB a7 an au w.1 w.2) (eI,gT)
theorem Mz {cP cd:Int}{c1 cV c0:List Int}{aW a0:Int}{gC hK:Nat}{hQ:List Int}{h8:Int}{az:Bool}{aB:List Int}{a7:List bL}{an:List Int}{au:List Bool}{eI:Int}{gT:List (List ba)}:b2 (te cP cd c1 cV c0 aW a0 gC hK hQ h8 az aB a7 an au eI gT) (e5 bz 205 0 36 [1,1,1,0,1,0,0,1,1,0,0,1,1,1,1,0,1,0,0] (BK cP cd c1 cV c0 aW a0 gC hK hQ h8 az aB a7 an au (eI,gT)) (BK cP cd c1 cV c0 aW a0 gC hK hQ h8 az aB a7 an au) (BX cP cd c1 cV c0 aW a0 gC hK hQ h8 az aB a7 an au)):=by
 unfold te
 exact .ite (fun o =>
  .bk fun J =>
  .aI fun a4 aO =>
  .aI fun br bW =>
  .aI fun jR bG =>
  .bk fun d8 =>
  .aI fun j0 dG =>
  .ret (let aZ:=ke (hI .live 2 aJ gT) jQ bG;bP [(ak 1),.aw true,.aY (b0 2 (.cy (R a4)) 2),.aY (aD 5 (aF (cT 1 (.agg (aJ br)) false) (aF (.gh (ap.mk 2 (jR.map aJ) .live) []) (aF (.gh (ap.mk 2 (jR.map aJ) .live) (aJ j0)) [])))),(ak 2),.bi [0,1,2,3,4] [.box [.id,.id,.id,.id,.id,.id],.bU (cB 2 aJ (gT.set gC (jR.set (0+eI.toNat) br))),.bU (aH 1 (bN 1 0 2) a7),.pure,.pure] (bI [0,4,5,6,7,8,34,35,51,52,53])] (.bF o J.1 (d1 R J.2) (cr R aO) (px br bW) aZ d8.1 d8.2 (.eW aZ (cr aJ dG) (nQ (bQ:=(cR [0,1,2,3,4])) (pa (hI .live 2 aJ gT) gC (o8 (dQ aJ jR) (0+eI.toNat) br (rfl:(setCells (aJ j0) 0 (aJ br))=aJ br))) (nt dV)) (ez (cR [0,1,2,3,4]) 1 1 0 2 rfl a7) (aU 1 .live a2 an) (aU 1 .live dI au)))))
  (fun o =>
  .ret (bP [(ak 1),.aw false,.bi [0,1,2,3,4] [.box [.id,.id,.id,.id,.id,.id],.bU (cB 2 aJ gT),.bU (aH 1 (bN 1 0 2) a7),.pure,.pure] (bI [0,4,5,6,7,8,34,35])] (.ed o (eF (cR [0,1,2,3,4]) 2 dV gT) (ez (cR [0,1,2,3,4]) 1 1 0 2 rfl a7) (aU 1 .live a2 an) (aU 1 .live dI au))))
theorem M9 {cP cd:Int}{c1 cV c0:List Int}{aW a0:Int}{gC hK:Nat}{hQ:List Int}{h8:Int}{az:Bool}{aB:List Int}{a7:List bL}{an:List Int}{au:List Bool}{eI:Int}{gT:List (List ba)}{r} (h:yc cP cd c1 cV c0 aW a0 gC hK hQ h8 az aB a7 an au eI gT=some r):e6 bz 205 0 36 [1,1,1,0,1,0,0,1,1,0,0,1,1,1,1,0,1,0,0] (BK cP cd c1 cV c0 aW a0 gC hK hQ h8 az aB a7 an au) (BX cP cd c1 cV c0 aW a0 gC hK hQ h8 az aB a7 an au) (eI,gT) r:=e7 (fun _=>Mz) h
def BL (cP cd:Int)(c1 cV c0:List Int)(aW a0:Int)(gC hK:Nat)(hQ:List Int)(h8:Int)(az:Bool)(aB:List Int)(a7:List bL)(an:List Int)(au:List Bool):(Int×(List (List ba)))→S:=fun (eI,gT)=>er [(0,.dg 5 [[.n .i64 cP,.n .i64 cd,.isl 1 (c1.map R),.isl 1 (cV.map R),.isl 1 (c0.map R)]] 0 0),(4,.n .i64 aW),(5,.ref 0 0 0 0),(6,.n .i64 a0),(7,.bp 1 (gC+0) 0 hK),(8,.n .i64 (1:Int)),(34,.n .i64 cP),(35,.n .i64 a0),(51,.isl 1 (hQ.map R)),(52,.n .i64 h8),(53,.n .i64 eI)] [[ap.mk 6 [(eJ 2 0 0 a7.length az aB 3 0 0 an.length aW 4 0 0 au.length)] .live],(cB 2 aJ gT),(aH 1 (bN 1 0 2) a7),(aH 1 R an),(aH 1 df au)]
def BZ (cP cd:Int)(c1 cV c0:List Int)(aW a0:Int)(gC hK:Nat)(hQ:List Int)(h8:Int)(az:Bool)(aB:List Int)(a7:List bL)(an:List Int)(au:List Bool):(List (List ba))→ex
 | a=>⟨some 2,[(0,.dg 5 [[.n .i64 cP,.n .i64 cd,.isl 1 (c1.map R),.isl 1 (cV.map R),.isl 1 (c0.map R)]] 0 0),(4,.n .i64 aW),(5,.ref 0 0 0 0),(6,.n .i64 a0),(7,.bp 1 (gC+0) 0 hK),(8,.n .i64 (1:Int)),(34,.n .i64 cP),(35,.n .i64 a0)],[[ap.mk 6 [(eJ 2 0 0 a7.length az aB 3 0 0 an.length aW 4 0 0 au.length)] .live],(cB 2 aJ a),(aH 1 (bN 1 0 2) a7),(aH 1 R an),(aH 1 df au)]⟩
def tf (cP cd:Int)(c1 cV c0:List Int)(aW a0:Int)(gC hK:Nat)(hQ:List Int)(h8:Int)(az:Bool)(aB:List Int)(a7:List bL)(an:List Int)(au:List Bool)(eI:Int)(gT:List (List ba)):Option ((Int×(List (List ba)))⊕((List (List ba)))) :=
 if (decide (eI<h8))=true then
  if 0≤eI∧eI<hQ.length then
  hQ[eI.toNat]? >>= fun a4 =>
  mr (U ((1:Int)*a4)) >>= fun br =>
  gT[gC]? >>= fun jR =>
  if 0≤eI∧eI<(hK:Nat) then
  jR[(0+eI.toNat)]? >>= fun j0 =>
  some (.inl (U (eI+(1:Int)),gT.set gC (jR.set (0+eI.toNat) br)))
  else none
  else none
 else
  some (.inr gT)
def yd (cP cd:Int)(c1 cV c0:List Int)(aW a0:Int)(gC hK:Nat)(hQ:List Int)(h8:Int)(az:Bool)(aB:List Int)(a7:List bL)(an:List Int)(au:List Bool)(eI:Int)(gT:List (List ba)):Option ((List (List ba))):=iter (fun w:Int×(List (List ba))=>tf cP cd c1 cV c0 aW a0 gC hK hQ h8 az aB a7 an au w.1 w.2) (eI,gT)
theorem MA {cP cd:Int}{c1 cV c0:List Int}{aW a0:Int}{gC hK:Nat}{hQ:List Int}{h8:Int}{az:Bool}{aB:List Int}{a7:List bL}{an:List Int}{au:List Bool}{eI:Int}{gT:List (List ba)}:b2 (tf cP cd c1 cV c0 aW a0 gC hK hQ h8 az aB a7 an au eI gT) (e5 bz 205 0 36 [1,1,1,0,1,0,0,1,1,0,0,1,1,1,1,0,1,0,0] (BL cP cd c1 cV c0 aW a0 gC hK hQ h8 az aB a7 an au (eI,gT)) (BL cP cd c1 cV c0 aW a0 gC hK hQ h8 az aB a7 an au) (BZ cP cd c1 cV c0 aW a0 gC hK hQ h8 az aB a7 an au)):=by
 unfold tf
 exact .ite (fun o =>
  .bk fun J =>
  .aI fun a4 aO =>
  .aI fun br bW =>
  .aI fun jR bG =>
  .bk fun d8 =>
  .aI fun j0 dG =>
  .ret (let aZ:=ke (hI .live 2 aJ gT) jQ bG;bP [(ak 1),.aw true,.aY (b0 2 (.cy (R a4)) 2),.aY (aD 5 (aF (cT 1 (.agg (aJ br)) false) (aF (.gh (ap.mk 2 (jR.map aJ) .live) []) (aF (.gh (ap.mk 2 (jR.map aJ) .live) (aJ j0)) [])))),(ak 2),.bi [0,1,2,3,4] [.box [.id,.id,.id,.id,.id,.id],.bU (cB 2 aJ (gT.set gC (jR.set (0+eI.toNat) br))),.bU (aH 1 (bN 1 0 2) a7),.pure,.pure] (bI [0,4,5,6,7,8,34,35,51,52,53])] (.bF o J.1 (d1 R J.2) (cr R aO) (px br bW) aZ d8.1 d8.2 (.eW aZ (cr aJ dG) (nQ (bQ:=(cR [0,1,2,3,4])) (pa (hI .live 2 aJ gT) gC (o8 (dQ aJ jR) (0+eI.toNat) br (rfl:(setCells (aJ j0) 0 (aJ br))=aJ br))) (nt dV)) (ez (cR [0,1,2,3,4]) 1 1 0 2 rfl a7) (aU 1 .live a2 an) (aU 1 .live dI au)))))
  (fun o =>
  .ret (bP [(ak 1),.aw false,.bi [0,1,2,3,4] [.box [.id,.id,.id,.id,.id,.id],.bU (cB 2 aJ gT),.bU (aH 1 (bN 1 0 2) a7),.pure,.pure] (bI [0,4,5,6,7,8,34,35])] (.ed o (eF (cR [0,1,2,3,4]) 2 dV gT) (ez (cR [0,1,2,3,4]) 1 1 0 2 rfl a7) (aU 1 .live a2 an) (aU 1 .live dI au))))
theorem Na {cP cd:Int}{c1 cV c0:List Int}{aW a0:Int}{gC hK:Nat}{hQ:List Int}{h8:Int}{az:Bool}{aB:List Int}{a7:List bL}{an:List Int}{au:List Bool}{eI:Int}{gT:List (List ba)}{r} (h:yd cP cd c1 cV c0 aW a0 gC hK hQ h8 az aB a7 an au eI gT=some r):e6 bz 205 0 36 [1,1,1,0,1,0,0,1,1,0,0,1,1,1,1,0,1,0,0] (BL cP cd c1 cV c0 aW a0 gC hK hQ h8 az aB a7 an au) (BZ cP cd c1 cV c0 aW a0 gC hK hQ h8 az aB a7 an au) (eI,gT) r:=e7 (fun _=>MA) h
def BM (cP cd:Int)(c1 cV c0:List Int)(aW:Int)(az:Bool)(aB:List Int)(au:List Bool):(Int×(List bL)×(List (List ba))×(List Int))→S:=fun (cD,ag,aR,an)=>er [(0,.dg 5 [[.n .i64 cP,.n .i64 cd,.isl 1 (c1.map R),.isl 1 (cV.map R),.isl 1 (c0.map R)]] 0 0),(4,.n .i64 aW),(5,.ref 0 0 0 0),(34,.n .i64 cP),(35,.n .i64 cD)] [[ap.mk 6 [(eJ 1 0 0 ag.length az aB 3 0 0 an.length aW 4 0 0 au.length)] .live],(aH 1 (bN 2 0 2) ag),(cB 2 aJ aR),(aH 1 R an),(aH 1 df au)]
def B0 (cP cd:Int)(c1 cV c0:List Int)(aW:Int)(az:Bool)(aB:List Int)(au:List Bool):((List bL)×(List (List ba))×(List Int))→ex
 | a=>⟨some 0,[(0,.dg 5 [[.n .i64 cP,.n .i64 cd,.isl 1 (c1.map R),.isl 1 (cV.map R),.isl 1 (c0.map R)]] 0 0),(4,.n .i64 aW),(5,.ref 0 0 0 0)],[[ap.mk 6 [(eJ 1 0 0 a.1.length az aB 3 0 0 a.2.2.length aW 4 0 0 au.length)] .live],(aH 1 (bN 2 0 2) a.1),(cB 2 aJ a.2.1),(aH 1 R a.2.2),(aH 1 df au)]⟩
def tg (cP cd:Int)(c1 cV c0:List Int)(aW:Int)(az:Bool)(aB:List Int)(au:List Bool)(cD:Int)(ag:List bL)(aR:List (List ba))(an:List Int):Option ((Int×(List bL)×(List (List ba))×(List Int))⊕((List bL)×(List (List ba))×(List Int))) :=
 if (decide (cD<cP))=true then
  if 0≤(U (aW+(1:Int)))∧(32:Int)*(U (aW+(1:Int)))≤281474976710656∧(U (aW+(1:Int)))<9223372036854775808 then
  if 0≤cD∧cD<cV.length then
  cV[cD.toNat]? >>= fun fM =>
  if (decide (fM<(0:Int)))=true then
   tt (⟨cP,cd,c1,cV,c0⟩:jt) cD >>= fun cu =>
   yc cP cd c1 cV c0 aW cD aR.length ((U (aW+(1:Int))).toNat) cu (len_ R cu) az aB ag an au 0 (aR++[(List.replicate (U (aW+(1:Int))).toNat (⟨false,([]:List Int)⟩:ba):List ba)]) >>= fun bA =>
   mr 1 >>= fun dh =>
   bA[aR.length]? >>= fun lT =>
   if 0≤(U (cd+cD))∧(U (cd+cD))<((U (aW+(1:Int))).toNat:Nat) then
   lT[(0+(U (cd+cD)).toNat)]? >>= fun kx =>
   mr (U ((-1:Int)*fM)) >>= fun dT =>
   (bA.set aR.length (lT.set (0+(U (cd+cD)).toNat) dh))[aR.length]? >>= fun mU =>
   if 0≤aW∧aW<((U (aW+(1:Int))).toNat:Nat) then
   mU[(0+aW.toNat)]? >>= fun ss =>
   if (ag++([(some (aR.length,(U (aW+(1:Int))).toNat))]:List bL)).length*24≤140737488355328 then
   if (an++([U (cd+cD)]:List Int)).length*8≤140737488355328 then
   some (.inl (U (cD+(1:Int)),ag++([(some (aR.length,(U (aW+(1:Int))).toNat))]:List bL),(bA.set aR.length (lT.set (0+(U (cd+cD)).toNat) dh)).set aR.length (mU.set (0+aW.toNat) dT),an++([U (cd+cD)]:List Int)))
   else none
   else none
   else none
   else none
  else
   tt (⟨cP,cd,c1,cV,c0⟩:jt) cD >>= fun cu =>
   yd cP cd c1 cV c0 aW cD aR.length ((U (aW+(1:Int))).toNat) cu (len_ R cu) az aB ag an au 0 (aR++[(List.replicate (U (aW+(1:Int))).toNat (⟨false,([]:List Int)⟩:ba):List ba)]) >>= fun bA =>
   mr 1 >>= fun dh =>
   bA[aR.length]? >>= fun lT =>
   if 0≤(U (cd+cD))∧(U (cd+cD))<((U (aW+(1:Int))).toNat:Nat) then
   lT[(0+(U (cd+cD)).toNat)]? >>= fun kx =>
   mr (U ((1:Int)*fM)) >>= fun dT =>
   (bA.set aR.length (lT.set (0+(U (cd+cD)).toNat) dh))[aR.length]? >>= fun mU =>
   if 0≤aW∧aW<((U (aW+(1:Int))).toNat:Nat) then
   mU[(0+aW.toNat)]? >>= fun ss =>
   if (ag++([(some (aR.length,(U (aW+(1:Int))).toNat))]:List bL)).length*24≤140737488355328 then
   if (an++([U (cd+cD)]:List Int)).length*8≤140737488355328 then
   some (.inl (U (cD+(1:Int)),ag++([(some (aR.length,(U (aW+(1:Int))).toNat))]:List bL),(bA.set aR.length (lT.set (0+(U (cd+cD)).toNat) dh)).set aR.length (mU.set (0+aW.toNat) dT),an++([U (cd+cD)]:List Int)))
   else none
   else none
   else none
   else none
  else none
  else none
 else
  some (.inr (ag,aR,an))
def ye (cP cd:Int)(c1 cV c0:List Int)(aW:Int)(az:Bool)(aB:List Int)(au:List Bool)(cD:Int)(ag:List bL)(aR:List (List ba))(an:List Int):Option ((List bL)×(List (List ba))×(List Int)):=iter (fun w:Int×(List bL)×(List (List ba))×(List Int)=>tg cP cd c1 cV c0 aW az aB au w.1 w.2.1 w.2.2.1 w.2.2.2) (cD,ag,aR,an)
theorem MB {cP cd:Int}{c1 cV c0:List Int}{aW:Int}{az:Bool}{aB:List Int}{au:List Bool}{cD:Int}{ag:List bL}{aR:List (List ba)}{an:List Int}:b2 (tg cP cd c1 cV c0 aW az aB au cD ag aR an) (e5 bz 205 0 36 [1,1,1,0,1,0,0] (BM cP cd c1 cV c0 aW az aB au (cD,ag,aR,an)) (BM cP cd c1 cV c0 aW az aB au) (B0 cP cd c1 cV c0 aW az aB au)):=by
 unfold tg
 exact .ite (fun o =>
  .bk fun J =>
  .bk fun ao =>
  .aI fun fM aM =>
  (let t1:List cM:=[(ak 1),.aw true,(ak 2),.aY (b0 2 (.xp 2 (aR.length+0) (.cy [.b false,.isl 1 (([]:List Int).map R)])) 1),(ak 1),.aY (b0 6 (.cy (R fM)) 1)];
  have a6:=((.bF o J.1 (Int.le_refl (U (aW+(1:Int)))) J.2.1 J.2.2 (congrArg (· + 0) (Rl (hI .live 2 aJ aR) rfl)) ao.1 (d1 R ao.2) (.ar (cr R aM))):cF _);
  .ite (fun bW =>
  .aI fun cu bG =>
  .aI fun bA dZ =>
  .aI fun dh eT =>
  .aI fun lT dL =>
  .bk fun hg =>
  .aI fun kx fF =>
  .aI fun dT kv =>
  .aI fun mU lp =>
  .bk fun hF =>
  .aI fun ss ET =>
  .bk fun mS =>
  .bk fun EU =>
  .ret (let bg:=(U (aW+(1:Int)));let ck:=U (cd+cD);let aZ:=(pa (hI .live 2 aJ bA) aR.length (o8 (dQ aJ lT) (0+ck.toNat) dh (rfl:(setCells (aJ kx) 0 (aJ dh))=aJ dh)));let cS:=cR [0,36,1,52,4];let eB:=(an++([ck]:List Int));let gI:=(ag++([(some (aR.length,bg.toNat))]:List bL));let i7:=ke (hI .live 2 aJ bA) jQ dL;bP (t1.append [.aw true,(ak 1),.aY (b0 2 (cT 2 (.isl 1 (cu.map R)) false) 2),.bi [0,2,1,3,4] [.box [.id,.id,.id,.id,.id,.id],.bU (cB 2 aJ (aR++[(List.replicate bg.toNat (⟨false,([]:List Int)⟩:ba):List ba)])),.bU (aH 1 (bN 1 0 2) ag),.pure,.pure] (bI [0,4,5,6,7,8,34,35,51,52,53]),(BX cP cd c1 cV c0 aW cD aR.length (bg.toNat) cu (len_ R cu) az aB ag an au bA).fU,.aY (aD 7 (aF (cT 1 (.agg (aJ dh)) false) (aF (.gh (ap.mk 2 (lT.map aJ) .live) []) (aF (.gh (ap.mk 2 (lT.map aJ) .live) (aJ kx)) [])))),.aY (aD 9 (aF (.cy (R fM)) (aD 1 (aF (cT 1 (.agg (aJ dT)) false) (aF (.gh (ap.mk 2 (mU.map aJ) .live) []) (aF (.gh (ap.mk 2 (mU.map aJ) .live) (aJ ss)) [])))))),.aY (aD 6 (aF (.kB 93 (k2 1 0 2 (some (aR.length,bg.toNat))) .none) (aF (.bb (gI.length)) (aD 3 [])))),.aY (b0 12 (.bb (eB.length)) 3),(ak 2),.bi [0,36,1,52,4] [.box [.id,.id,.id,.id,.id,.id],.bU (aH 1 (bN 2 0 2) gI),.bU (cB 2 aJ ((bA.set aR.length (lT.set (0+ck.toNat) dh)).set aR.length (mU.set (0+aW.toNat) dT))),.dH (aH 1 R eB),.pure] (bI [0,4,5,34,35])]) (a6.bb (.bF bW (Gj cu bG) (nQ (bQ:=(cR [0,2,1,3,4])) (Jb (hI .live 2 aJ aR) (JF pz 10 2 (aR.length+0) (lB aJ bg.toNat (⟨false,([]:List Int)⟩:ba)) (JG 10 2 (aR.length+0)))) (nt dV)) (ez (cR [0,2,1,3,4]) 1 2 0 2 rfl ag) (aU 1 .live a2 an) (aU 1 .live dI au) (M9 dZ) (px dh eT) (.bF i7 hg.1 hg.2 i7 (cr aJ fF) ao.1 (d1 R ao.2) (cr R aM) (.bF (px dT kv) (ke aZ jQ lp) hF.1 hF.2 (ke aZ jQ lp) (cr aJ ET) (.s2 1 0 2 aR.length (bg.toNat):i3 (.bp 1 (aR.length+0) 0 (bg.toNat)) (k2 1 0 2 (some (aR.length,bg.toNat)))) (mo (bN 1 0 2) (some (aR.length,bg.toNat))) (.bF (oW (bN 1 0 2) ag) (nk (bN 1 0 2) ag (some (aR.length,bg.toNat))) mS (mo R ck) (oW R an) (nk R an ck) EU (ms (uW (bQ:=cS) 1 .live (bN 2 0 2) (oX (bN 1 0 2) ag (some (aR.length,bg.toNat))) (wq (rfl:cS 1=some 2))) (rM (bQ:=cS))) (.dc (nQ (bQ:=cS) (pa aZ aR.length (o8 (dQ aJ mU) (0+aW.toNat) dT (rfl:(setCells (aJ ss) 0 (aJ dT))=aJ dT))) (nt dV)) (ey 1 .live (oX R an ck)) (aU 1 .live a2 eB) (aU 1 .live dI au)))))))))
  (fun bW =>
  .aI fun cu bG =>
  .aI fun bA dZ =>
  .aI fun dh eT =>
  .aI fun lT dL =>
  .bk fun hg =>
  .aI fun kx fF =>
  .aI fun dT kv =>
  .aI fun mU lp =>
  .bk fun hF =>
  .aI fun ss ET =>
  .bk fun mS =>
  .bk fun EU =>
  .ret (let h4:=(U (aW+(1:Int)));let kz:=U (cd+cD);let fg:=(pa (hI .live 2 aJ bA) aR.length (o8 (dQ aJ lT) (0+kz.toNat) dh (rfl:(setCells (aJ kx) 0 (aJ dh))=aJ dh)));let ia:=cR [0,36,1,52,4];let pk:=(an++([kz]:List Int));let qR:=(ag++([(some (aR.length,h4.toNat))]:List bL));let qS:=ke (hI .live 2 aJ bA) jQ dL;bP (t1.append [.aw false,.aY (b0 2 (cT 2 (.isl 1 (cu.map R)) false) 2),.bi [0,2,1,3,4] [.box [.id,.id,.id,.id,.id,.id],.bU (cB 2 aJ (aR++[(List.replicate h4.toNat (⟨false,([]:List Int)⟩:ba):List ba)])),.bU (aH 1 (bN 1 0 2) ag),.pure,.pure] (bI [0,4,5,6,7,8,34,35,51,52,53]),(BZ cP cd c1 cV c0 aW cD aR.length (h4.toNat) cu (len_ R cu) az aB ag an au bA).fU,.aY (aD 7 (aF (cT 1 (.agg (aJ dh)) false) (aF (.gh (ap.mk 2 (lT.map aJ) .live) []) (aF (.gh (ap.mk 2 (lT.map aJ) .live) (aJ kx)) [])))),.aY (aD 9 (aF (.cy (R fM)) (aD 1 (aF (cT 1 (.agg (aJ dT)) false) (aF (.gh (ap.mk 2 (mU.map aJ) .live) []) (aF (.gh (ap.mk 2 (mU.map aJ) .live) (aJ ss)) [])))))),.aY (aD 6 (aF (.kB 93 (k2 1 0 2 (some (aR.length,h4.toNat))) .none) (aF (.bb (qR.length)) (aD 3 [])))),.aY (b0 12 (.bb (pk.length)) 3),(ak 2),.bi [0,36,1,52,4] [.box [.id,.id,.id,.id,.id,.id],.bU (aH 1 (bN 2 0 2) qR),.bU (cB 2 aJ ((bA.set aR.length (lT.set (0+kz.toNat) dh)).set aR.length (mU.set (0+aW.toNat) dT))),.dH (aH 1 R pk),.pure] (bI [0,4,5,34,35])]) (a6.bb (.bF bW (Gj cu bG) (nQ (bQ:=(cR [0,2,1,3,4])) (Jb (hI .live 2 aJ aR) (JF pz 10 2 (aR.length+0) (lB aJ h4.toNat (⟨false,([]:List Int)⟩:ba)) (JG 10 2 (aR.length+0)))) (nt dV)) (ez (cR [0,2,1,3,4]) 1 2 0 2 rfl ag) (aU 1 .live a2 an) (aU 1 .live dI au) (Na dZ) (px dh eT) (.bF qS hg.1 hg.2 qS (cr aJ fF) ao.1 (d1 R ao.2) (cr R aM) (.bF (px dT kv) (ke fg jQ lp) hF.1 hF.2 (ke fg jQ lp) (cr aJ ET) (.s2 1 0 2 aR.length (h4.toNat):i3 (.bp 1 (aR.length+0) 0 (h4.toNat)) (k2 1 0 2 (some (aR.length,h4.toNat)))) (mo (bN 1 0 2) (some (aR.length,h4.toNat))) (.bF (oW (bN 1 0 2) ag) (nk (bN 1 0 2) ag (some (aR.length,h4.toNat))) mS (mo R kz) (oW R an) (nk R an kz) EU (ms (uW (bQ:=ia) 1 .live (bN 2 0 2) (oX (bN 1 0 2) ag (some (aR.length,h4.toNat))) (wq (rfl:ia 1=some 2))) (rM (bQ:=ia))) (.dc (nQ (bQ:=ia) (pa fg aR.length (o8 (dQ aJ mU) (0+aW.toNat) dT (rfl:(setCells (aJ ss) 0 (aJ dT))=aJ dT))) (nt dV)) (ey 1 .live (oX R an kz)) (aU 1 .live a2 pk) (aU 1 .live dI au)))))))))))
  (fun o =>
  .ret (bP [(ak 1),.aw false,.bi [0,1,2,3,4] [.box [.id,.id,.id,.id,.id,.id],.bU (aH 1 (bN 2 0 2) ag),.bU (cB 2 aJ aR),.pure,.pure] (bI [0,4,5])] (.ed o (ez (cR [0,1,2,3,4]) 2 2 0 2 rfl ag) (eF (cR [0,1,2,3,4]) 2 dV aR) (aU 1 .live a2 an) (aU 1 .live dI au))))
theorem Nb {cP cd:Int}{c1 cV c0:List Int}{aW:Int}{az:Bool}{aB:List Int}{au:List Bool}{cD:Int}{ag:List bL}{aR:List (List ba)}{an:List Int}{r} (h:ye cP cd c1 cV c0 aW az aB au cD ag aR an=some r):e6 bz 205 0 36 [1,1,1,0,1,0,0] (BM cP cd c1 cV c0 aW az aB au) (B0 cP cd c1 cV c0 aW az aB au) (cD,ag,aR,an) r:=e7 (fun _=>MB) h
def BN (cP cd:Int)(c1 cV c0:List Int)(aW mx:Int)(az:Bool)(aB:List Int)(a7:List bL)(fX:List (List ba))(au:List Int):(Int×(List Int)×(List Bool))→S:=fun (fw,ag,cI)=>er [(0,.dg 5 [[.n .i64 cP,.n .i64 cd,.isl 1 (c1.map R),.isl 1 (cV.map R),.isl 1 (c0.map R)]] 0 0),(4,.n .i64 aW),(5,.ref 0 0 0 0),(11,.bp 1 0 0 ag.length),(117,.n .i64 mx),(118,.n .i64 fw)] [[ap.mk 6 [(eJ 2 0 0 a7.length az aB 4 0 0 au.length aW 5 0 0 cI.length)] .live],(aH 1 R ag),(aH 1 (bN 3 0 2) a7),(cB 2 aJ fX),(aH 1 R au),(aH 1 df cI)]
def B1 (cP cd:Int)(c1 cV c0:List Int)(aW mx:Int)(az:Bool)(aB:List Int)(a7:List bL)(fX:List (List ba))(au:List Int):((List Int)×(List Bool))→ex
 | a=>⟨some 4,[(0,.dg 5 [[.n .i64 cP,.n .i64 cd,.isl 1 (c1.map R),.isl 1 (cV.map R),.isl 1 (c0.map R)]] 0 0),(4,.n .i64 aW),(5,.ref 0 0 0 0),(11,.bp 1 0 0 a.1.length)],[[ap.mk 6 [(eJ 2 0 0 a7.length az aB 4 0 0 au.length aW 5 0 0 a.2.length)] .live],(aH 1 R a.1),(aH 1 (bN 3 0 2) a7),(cB 2 aJ fX),(aH 1 R au),(aH 1 df a.2)]⟩
def th (cP cd:Int)(c1 cV c0:List Int)(aW mx:Int)(az:Bool)(aB:List Int)(a7:List bL)(fX:List (List ba))(au:List Int)(fw:Int)(ag:List Int)(cI:List Bool):Option ((Int×(List Int)×(List Bool))⊕((List Int)×(List Bool))) :=
 if (decide (fw<mx))=true then
  if 0≤fw∧fw<(cI.length:Nat) then
  if (0+fw.toNat)<cI.length then
  if (decide (cd≤fw))=true then
   if 0≤fw∧fw<(ag.length:Nat) then
   if (0+fw.toNat)<ag.length then
   some (.inl (U (fw+(1:Int)),ag.set (0+fw.toNat) (-1),cI.set (0+fw.toNat) (decide (fw<cd))))
   else none
   else none
  else
   some (.inl (U (fw+(1:Int)),ag,cI.set (0+fw.toNat) (decide (fw<cd))))
  else none
  else none
 else
  some (.inr (ag,cI))
def yf (cP cd:Int)(c1 cV c0:List Int)(aW mx:Int)(az:Bool)(aB:List Int)(a7:List bL)(fX:List (List ba))(au:List Int)(fw:Int)(ag:List Int)(cI:List Bool):Option ((List Int)×(List Bool)):=iter (fun w:Int×(List Int)×(List Bool)=>th cP cd c1 cV c0 aW mx az aB a7 fX au w.1 w.2.1 w.2.2) (fw,ag,cI)
theorem MC {cP cd:Int}{c1 cV c0:List Int}{aW mx:Int}{az:Bool}{aB:List Int}{a7:List bL}{fX:List (List ba)}{au:List Int}{fw:Int}{ag:List Int}{cI:List Bool}:b2 (th cP cd c1 cV c0 aW mx az aB a7 fX au fw ag cI) (e5 bz 205 0 36 [1,1,1,1,1,0,1,0,0] (BN cP cd c1 cV c0 aW mx az aB a7 fX au (fw,ag,cI)) (BN cP cd c1 cV c0 aW mx az aB a7 fX au) (B1 cP cd c1 cV c0 aW mx az aB a7 fX au)):=by
 unfold th
 exact .ite (fun o =>
  .bk fun J =>
  .bk fun ao =>
  (let t1:List cM:=[(ak 1),.aw true,(ak 2),.aY (aD 12 (aF .eV [])),(ak 6)];
  have a6:=((.ed o J.1 J.2 (hJ df ao) (hl 1)):cF _);
  .ite (fun aO =>
  .bk fun aM =>
  .bk fun bW =>
  .ret (let aZ:=cR [0,1,2,3,4,5];bP (t1.append [.aw true,.aY (aD 3 (aF .eV [])),(ak 2),.bi [0,1,2,3,4,5] [.box [.id,.id,.id,.id,.id,.len ((cI.set (0+fw.toNat) (decide (fw<cd))).length)],.dH (aH 1 R (ag.set (0+fw.toNat) (-1))),.bU (aH 1 (bN 3 0 2) a7),.bU (cB 2 aJ fX),.pure,.dH (aH 1 df (cI.set (0+fw.toNat) (decide (fw<cd))))] [(0,ii),(4,ii),(5,ii),(11,hf ((ag.set (0+fw.toNat) (-1)).length)),(117,ii),(118,ii)]]) (a6.bb (.bF aO aM.1 aM.2 (hJ R bW) (hl 1) (hL (fo cI) (0+fw.toNat) (decide (fw<cd))) (ey 1 .live (f7 (dQ R ag) (0+fw.toNat) (-1))) (aU 1 .live a2 (ag.set (0+fw.toNat) (-1))) (.eW (ez aZ 3 3 0 2 rfl a7) (eF aZ 2 dV fX) (aU 1 .live a2 au) (ey 1 .live (f7 (dQ df cI) (0+fw.toNat) (decide (fw<cd)))) (aU 1 .live dI (cI.set (0+fw.toNat) (decide (fw<cd)))) (hL (fo ag) (0+fw.toNat) (-1)))))))
  (fun aO =>
  .ret (let bg:=cR [0,1,2,3,4,5];bP (t1.append [.aw false,(ak 2),.bi [0,1,2,3,4,5] [.box [.id,.id,.id,.id,.id,.len ((cI.set (0+fw.toNat) (decide (fw<cd))).length)],.pure,.bU (aH 1 (bN 3 0 2) a7),.bU (cB 2 aJ fX),.pure,.dH (aH 1 df (cI.set (0+fw.toNat) (decide (fw<cd))))] (bI [0,4,5,11,117,118])]) (a6.bb (.ja aO (hL (fo cI) (0+fw.toNat) (decide (fw<cd))) (aU 1 .live a2 ag) (ez bg 3 3 0 2 rfl a7) (eF bg 2 dV fX) (aU 1 .live a2 au) (ey 1 .live (f7 (dQ df cI) (0+fw.toNat) (decide (fw<cd)))) (aU 1 .live dI (cI.set (0+fw.toNat) (decide (fw<cd))))))))))
  (fun o =>
  .ret (let ck:=cR [0,1,2,3,4,5];bP [(ak 1),.aw false,.bi [0,1,2,3,4,5] [.box [.id,.id,.id,.id,.id,.id],.pure,.bU (aH 1 (bN 3 0 2) a7),.bU (cB 2 aJ fX),.pure,.pure] (bI [0,4,5,11])] (.eW o (aU 1 .live a2 ag) (ez ck 3 3 0 2 rfl a7) (eF ck 2 dV fX) (aU 1 .live a2 au) (aU 1 .live dI cI))))
theorem Nc {cP cd:Int}{c1 cV c0:List Int}{aW mx:Int}{az:Bool}{aB:List Int}{a7:List bL}{fX:List (List ba)}{au:List Int}{fw:Int}{ag:List Int}{cI:List Bool}{r} (h:yf cP cd c1 cV c0 aW mx az aB a7 fX au fw ag cI=some r):e6 bz 205 0 36 [1,1,1,1,1,0,1,0,0] (BN cP cd c1 cV c0 aW mx az aB a7 fX au) (B1 cP cd c1 cV c0 aW mx az aB a7 fX au) (fw,ag,cI) r:=e7 (fun _=>MC) h
def BO (cP cd:Int)(c1 cV c0:List Int)(aW my:Int)(az:Bool)(aB:List Int)(bE:Int)(ag:List Int)(a7:List bL)(fX:List (List ba))(au:List Bool):Int→S:=fun kJ=>er [(0,.dg 5 [[.n .i64 cP,.n .i64 cd,.isl 1 (c1.map R),.isl 1 (cV.map R),.isl 1 (c0.map R)]] 0 0),(4,.n .i64 aW),(5,.ref 0 0 0 0),(149,.bp 1 0 0 ag.length),(150,.n .i64 my),(151,.n .i64 kJ)] [[ap.mk 6 [(eJ 2 0 0 a7.length az aB 1 0 0 ag.length bE 4 0 0 au.length)] .live],(aH 1 R ag),(aH 1 (bN 3 0 2) a7),(cB 2 aJ fX),(aH 1 df au)]
def B2 (cP cd:Int)(c1 cV c0:List Int)(aW my:Int)(az:Bool)(aB:List Int)(bE:Int)(ag:List Int)(a7:List bL)(fX:List (List ba))(au:List Bool):((Unit)⊕(Unit))→ex
 | .inl a=>⟨some 6,[(0,.dg 5 [[.n .i64 cP,.n .i64 cd,.isl 1 (c1.map R),.isl 1 (cV.map R),.isl 1 (c0.map R)]] 0 0),(5,.ref 0 0 0 0)],[[ap.mk 6 [(eJ 1 0 0 a7.length az aB 3 0 0 ag.length bE 4 0 0 au.length)] .live],(aH 1 (bN 2 0 2) a7),(cB 2 aJ fX),(aH 1 R ag),(aH 1 df au)]⟩
 | .inr a=>⟨none,[(2,.gv),(3,.b false)],[]⟩
def ti (cP cd:Int)(c1 cV c0:List Int)(aW my:Int)(az:Bool)(aB:List Int)(bE:Int)(ag:List Int)(a7:List bL)(fX:List (List ba))(au:List Bool)(kJ:Int):Option ((Int)⊕((Unit)⊕(Unit))) :=
 if (decide (kJ<my))=true then
  if 0≤kJ∧kJ<(ag.length:Nat) then
  ag[(0+kJ.toNat)]? >>= fun a4 =>
  if (decide (cd≤a4))=true then
   if 0≤kJ∧kJ<(a7.length:Nat) then
   a7[(0+kJ.toNat)]? >>= fun gj =>
   gj >>= fun xz =>
   fX[xz.1]? >>= fun zT =>
   if 0≤aW∧aW<(xz.2:Nat) then
   zT[(0+aW.toNat)]? >>= fun EV =>
   mZ EV >>= fun et =>
   if (decide ((0:Int)<et))=true then
    some (.inr (.inr ()))
   else
    some (.inl (U (kJ+(1:Int))))
   else none
   else none
  else
   some (.inl (U (kJ+(1:Int))))
  else none
 else
  some (.inr (.inl ()))
def yg (cP cd:Int)(c1 cV c0:List Int)(aW my:Int)(az:Bool)(aB:List Int)(bE:Int)(ag:List Int)(a7:List bL)(fX:List (List ba))(au:List Bool)(kJ:Int):Option ((Unit)⊕(Unit)):=iter (fun w:Int=>ti cP cd c1 cV c0 aW my az aB bE ag a7 fX au w) kJ
theorem MD {cP cd:Int}{c1 cV c0:List Int}{aW my:Int}{az:Bool}{aB:List Int}{bE:Int}{ag:List Int}{a7:List bL}{fX:List (List ba)}{au:List Bool}{kJ:Int}:b2 (ti cP cd c1 cV c0 aW my az aB bE ag a7 fX au kJ) (e5 bz 205 0 36 [1,1,1,1,1,1,1,0,1,0,0] (BO cP cd c1 cV c0 aW my az aB bE ag a7 fX au kJ) (BO cP cd c1 cV c0 aW my az aB bE ag a7 fX au) (B2 cP cd c1 cV c0 aW my az aB bE ag a7 fX au)):=by
 unfold ti
 exact .ite (fun o =>
  .bk fun J =>
  .aI fun a4 aO =>
  (let t1:List cM:=[(ak 1),.aw true,.aY (b0 2 (.cy (R a4)) 2)];
  .ite (fun aM =>
  .bk fun bW =>
  .aI fun gj bG =>
  .aI fun xz dZ =>
  .aI fun zT eT =>
  .bk fun eM =>
  .aI fun EV hg =>
  .aI fun et fF =>
  (let aZ:=ke (hI .live 2 aJ fX) jQ eT;let t2:List cM:=t1.append [.aY (aD 13 (aF (.cy ((bN 3 0 2) gj)) (aD 1 (aF (.kB 169 (.bp 3 (xz.1+0) 0 xz.2) (.gh (ap.mk 2 (zT.map aJ) .live) [])) (aF (.gh (ap.mk 2 (zT.map aJ) .live) (aJ EV)) (aF (cT 1 (.n .i64 et) true) (aD 1 (aF (.aw true) []))))))))];
  have gO:=((.bF o J.1 J.2 (cr R aO) aM aM aM aM (.bF aM aM bW.1 bW.2 aM (cr (bN 3 0 2) bG) aM aM (.bF (m2 (dm:=3) (c:=0) (sz:=2) dZ) aZ eM.1 eM.2 aM aZ (cr aJ hg) aM (.dc (qe et fF) (cx.n .i64 et) aM aM)))):cF _);
  .ite (fun lS =>
  .ret (bP (t2.append [.aw true,(ak 2),.bi [] [] (bI [2,3])]) (gO.bb (.ar lS))))
  (fun lS =>
  .ret (bP (t2.append [.aw false,(ak 2),.bi [0,1,2,3,4] [.box [.id,.id,.id,.id,.id,.id],.pure,.bU (aH 1 (bN 3 0 2) a7),.bU (cB 2 aJ fX),.pure] (bI [0,4,5,149,150,151])]) (gO.bb (.ed lS (aU 1 .live a2 ag) (ez (cR [0,1,2,3,4]) 3 3 0 2 rfl a7) (eF (cR [0,1,2,3,4]) 2 dV fX) (aU 1 .live dI au)))))))
  (fun aM =>
  .ret (bP (t1.append [.aY (aD 7 (dE 12 (aF (.aw false) []))),.aw false,(ak 2),.bi [0,1,2,3,4] [.box [.id,.id,.id,.id,.id,.id],.pure,.bU (aH 1 (bN 3 0 2) a7),.bU (cB 2 aJ fX),.pure] (bI [0,4,5,149,150,151])]) (.bF o J.1 J.2 (cr R aO) aM aM aM aM (.bF aM aM aM aM aM aM aM aM (.eW aM iZ (aU 1 .live a2 ag) (ez (cR [0,1,2,3,4]) 3 3 0 2 rfl a7) (eF (cR [0,1,2,3,4]) 2 dV fX) (aU 1 .live dI au))))))))
  (fun o =>
  .ret (bP [(ak 1),.aw false,.bi [0,2,3,1,4] [.box [.id,.id,.id,.id,.id,.id],.bU (aH 1 (bN 2 0 2) a7),.bU (cB 2 aJ fX),.pure,.pure] (bI [0,5])] (.ed o (ez (cR [0,2,3,1,4]) 2 3 0 2 rfl a7) (eF (cR [0,2,3,1,4]) 2 dV fX) (aU 1 .live a2 ag) (aU 1 .live dI au))))
theorem Gp {cP cd:Int}{c1 cV c0:List Int}{aW my:Int}{az:Bool}{aB:List Int}{bE:Int}{ag:List Int}{a7:List bL}{fX:List (List ba)}{au:List Bool}{kJ:Int}{r} (h:yg cP cd c1 cV c0 aW my az aB bE ag a7 fX au kJ=some r):e6 bz 205 0 36 [1,1,1,1,1,1,1,0,1,0,0] (BO cP cd c1 cV c0 aW my az aB bE ag a7 fX au) (B2 cP cd c1 cV c0 aW my az aB bE ag a7 fX au) kJ r:=e7 (fun _=>MD) h
def BP (cP cd:Int)(c1 cV c0:List Int)(mz:Int)(az:Bool)(aB:List Int)(bE:Int)(ag:List bL)(aR:List (List ba))(an:List Int):(Int×(List Bool))→S:=fun (iP,au)=>er [(0,.dg 5 [[.n .i64 cP,.n .i64 cd,.isl 1 (c1.map R),.isl 1 (cV.map R),.isl 1 (c0.map R)]] 0 0),(5,.ref 0 0 0 0),(181,.n .i64 mz),(182,.n .i64 iP)] [[ap.mk 6 [(eJ 1 0 0 ag.length az aB 3 0 0 an.length bE 4 0 0 au.length)] .live],(aH 1 (bN 2 0 2) ag),(cB 2 aJ aR),(aH 1 R an),(aH 1 df au)]
def B3 (cP cd:Int)(c1 cV c0:List Int)(mz:Int)(az:Bool)(aB:List Int)(bE:Int)(ag:List bL)(aR:List (List ba))(an:List Int):(List Bool)→ex
 | a=>⟨some 8,[(0,.dg 5 [[.n .i64 cP,.n .i64 cd,.isl 1 (c1.map R),.isl 1 (cV.map R),.isl 1 (c0.map R)]] 0 0),(5,.ref 0 0 0 0)],[[ap.mk 6 [(eJ 1 0 0 ag.length az aB 3 0 0 an.length bE 4 0 0 a.length)] .live],(aH 1 (bN 2 0 2) ag),(cB 2 aJ aR),(aH 1 R an),(aH 1 df a)]⟩
def tj (cP cd:Int)(c1 cV c0:List Int)(mz:Int)(az:Bool)(aB:List Int)(bE:Int)(ag:List bL)(aR:List (List ba))(an:List Int)(iP:Int)(au:List Bool):Option ((Int×(List Bool))⊕((List Bool))) :=
 if (decide (iP<mz))=true then
  if 0≤iP∧iP<(au.length:Nat) then
  if (0+iP.toNat)<au.length then
  some (.inl (U (iP+(1:Int)),au.set (0+iP.toNat) (decide (iP<cd))))
  else none
  else none
 else
  some (.inr au)
def yh (cP cd:Int)(c1 cV c0:List Int)(mz:Int)(az:Bool)(aB:List Int)(bE:Int)(ag:List bL)(aR:List (List ba))(an:List Int)(iP:Int)(au:List Bool):Option ((List Bool)):=iter (fun w:Int×(List Bool)=>tj cP cd c1 cV c0 mz az aB bE ag aR an w.1 w.2) (iP,au)
theorem ME {cP cd:Int}{c1 cV c0:List Int}{mz:Int}{az:Bool}{aB:List Int}{bE:Int}{ag:List bL}{aR:List (List ba)}{an:List Int}{iP:Int}{au:List Bool}:b2 (tj cP cd c1 cV c0 mz az aB bE ag aR an iP au) (e5 bz 205 0 36 [1,1,1,1,1,1,1,1,0,1,0,0] (BP cP cd c1 cV c0 mz az aB bE ag aR an (iP,au)) (BP cP cd c1 cV c0 mz az aB bE ag aR an) (B3 cP cd c1 cV c0 mz az aB bE ag aR an)):=by
 unfold tj
 exact .ite (fun o =>
  .bk fun J =>
  .bk fun ao =>
  .ret (bP [(ak 1),.aw true,(ak 2),.aY (aD 12 (aF .eV [])),(ak 2),.bi [0,1,2,3,4] [.box [.id,.id,.id,.id,.id,.len ((au.set (0+iP.toNat) (decide (iP<cd))).length)],.bU (aH 1 (bN 2 0 2) ag),.bU (cB 2 aJ aR),.pure,.dH (aH 1 df (au.set (0+iP.toNat) (decide (iP<cd))))] (bI [0,5,181,182])] (.bF o J.1 J.2 (hJ df ao) (hl 1) (hL (fo au) (0+iP.toNat) (decide (iP<cd))) (ez (cR [0,1,2,3,4]) 2 2 0 2 rfl ag) (eF (cR [0,1,2,3,4]) 2 dV aR) (.bR (aU 1 .live a2 an) (ey 1 .live (f7 (dQ df au) (0+iP.toNat) (decide (iP<cd)))) (aU 1 .live dI (au.set (0+iP.toNat) (decide (iP<cd))))))))
  (fun o =>
  .ret (bP [(ak 1),.aw false,.bi [0,1,2,3,4] [.box [.id,.id,.id,.id,.id,.id],.bU (aH 1 (bN 2 0 2) ag),.bU (cB 2 aJ aR),.pure,.pure] (bI [0,5])] (.ed o (ez (cR [0,1,2,3,4]) 2 2 0 2 rfl ag) (eF (cR [0,1,2,3,4]) 2 dV aR) (aU 1 .live a2 an) (aU 1 .live dI au))))
theorem Nd {cP cd:Int}{c1 cV c0:List Int}{mz:Int}{az:Bool}{aB:List Int}{bE:Int}{ag:List bL}{aR:List (List ba)}{an:List Int}{iP:Int}{au:List Bool}{r} (h:yh cP cd c1 cV c0 mz az aB bE ag aR an iP au=some r):e6 bz 205 0 36 [1,1,1,1,1,1,1,1,0,1,0,0] (BP cP cd c1 cV c0 mz az aB bE ag aR an) (B3 cP cd c1 cV c0 mz az aB bE ag aR an) (iP,au) r:=e7 (fun _=>ME) h
def vu (cw:jt):Option ((Bool×(List Int)×Int×(List bL)×(List Int)×(List Bool)×(List (List ba)))⊕(Unit)) :=
 mr 1 >>= fun ax =>
 if 0≤(U (cw.en+cw.fW))∧(1:Int)*(U (cw.en+cw.fW))≤281474976710656∧(U (cw.en+cw.fW))<9223372036854775808 then
 ye cw.fW cw.en cw.e1 cw.fH cw.kk (U (cw.en+cw.fW)) ax.dj ax.db (List.replicate (U (cw.en+cw.fW)).toNat false:List Bool) 0 ([]:List bL) ([]:List (List ba)) ([]:List Int) >>= fun bl =>
 if 0≤(U (cw.en+cw.fW))∧(8:Int)*(U (cw.en+cw.fW))≤281474976710656∧(U (cw.en+cw.fW))<9223372036854775808 then
 yf cw.fW cw.en cw.e1 cw.fH cw.kk (U (cw.en+cw.fW)) (((U (cw.en+cw.fW)).toNat:Nat):Int) ax.dj ax.db bl.1 bl.2.1 bl.2.2 0 (List.replicate (U (cw.en+cw.fW)).toNat 0:List Int) (List.replicate (U (cw.en+cw.fW)).toNat false:List Bool) >>= fun cu =>
 s4 ax.dj ax.db (U (cw.en+cw.fW)) bl.1 bl.2.1 bl.2.2 cu.2 cu.1 >>= fun bA =>
 yg cw.fW cw.en cw.e1 cw.fH cw.kk (U (cw.en+cw.fW)) ((bA.2.2.2.2.1.length:Nat):Int) bA.2.1 bA.2.2.1 (U (cw.en+cw.fW)) bA.2.2.2.2.1 bl.1 bA.2.2.2.1 bA.2.2.2.2.2 0 >>= fun dh =>
 match dh with
 | .inl qQ=>(yh cw.fW cw.en cw.e1 cw.fH cw.kk ((bA.2.2.2.2.2.length:Nat):Int) bA.2.1 bA.2.2.1 (U (cw.en+cw.fW)) bl.1 bA.2.2.2.1 bA.2.2.2.2.1 0 bA.2.2.2.2.2 >>= fun iU =>
  vf cw.en bA.2.1 bA.2.2.1 (U (cw.en+cw.fW)) bl.1 bA.2.2.2.1 bA.2.2.2.2.1 iU >>= fun et =>
  some (.inl (et.1,et.2.1,(U (cw.en+cw.fW)),et.2.2.1,et.2.2.2.2,iU,et.2.2.2.1)))
 | .inr qQ=>(some (.inr ()))
 else none
 else none
set_option maxHeartbeats 4000000 in
theorem GJ {cw:jt}:b2 (vu cw) (Sum.elim (fun a=>Con bz 36 [.dg 5 [(o4 cw)] 0 0] [] (.dx [.ref 0 0 0 0,.b true]) [(ap.mk 6 [(eJ 0 1 0 a.2.2.2.1.length a.1 a.2.1 0 2 0 a.2.2.2.2.1.length a.2.2.1 0 3 0 a.2.2.2.2.2.1.length)] .live::ap.mk 1 (a.2.2.2.1.map (bN 0 4 2)) .live::ap.mk 1 (a.2.2.2.2.1.map R) .live::ap.mk 1 (a.2.2.2.2.2.1.map df) .live::(cB 2 aJ a.2.2.2.2.2.2))]) (fun a=>Con bz 36 [.dg 5 [(o4 cw)] 0 0] [] (.dx [.gv,.b false]) [])):=by
 unfold vu
 exact .aI fun ax J =>
  .bk fun ao =>
  .aI fun bl aM =>
  .bk fun bW =>
  .aI fun cu bG =>
  .aI fun bA dZ =>
  .aI fun dh eT =>
  (let ia:=U (cw.en+cw.fW);let pk:=eJ 1 0 0 bl.1.length bA.2.1 bA.2.2.1 3 0 0 bA.2.2.2.2.1.length ia 4 0 0 bA.2.2.2.2.2.length;let qR:=eJ 2 0 0 bl.1.length bA.2.1 bA.2.2.1 4 0 0 bA.2.2.2.2.1.length ia 5 0 0 bA.2.2.2.2.2.length;let qS:=(List.replicate ia.toNat false:List Bool);let zU:=cR [17,24,25,26,15];let KF:=eJ 1 0 0 bl.1.length ax.dj ax.db 3 0 0 bl.2.2.length ia 4 0 0 cu.2.length;let KG:=eJ 2 0 0 bl.1.length ax.dj ax.db 4 0 0 bl.2.2.length ia 5 0 0 cu.2.length;let EW:=cB 2 aJ bA.2.2.2.1;let EX:=(List.replicate ia.toNat 0:List Int);let EY:=aH 1 (bN 3 0 2) bl.1;let EZ:=Ac [0,2,3,4,5,1];let E0:=p8 [0,2,3,4,5,1];let KH:=aH 1 (bN 2 0 2) bl.1;let KI:=cR [0,6,1,2,3,4];let t1:List cM:=[(ak 2),(ak 10),.aY (b0 1 (cT 1 (.agg (aJ ax)) false) 5),(ak 5),.zM 17 0 1,.EE,.zM 17 3 1,.bi [17,24,25,26,15] [.box [.len (([]:List bL).length),.id,.id,.len (([]:List Int).length),.id,.len (qS.length)],.bU (aH 1 (bN 2 0 2) ([]:List bL)),.bU (cB 2 aJ ([]:List (List ba))),.dH (aH 1 R ([]:List Int)),.dH (aH 1 df qS)] (bI [0,4,5,34,35]),(B0 cw.fW cw.en cw.e1 cw.fH cw.kk ia ax.dj ax.db qS bl).fU,(ak 3),(ak 3),.bi [0,6,1,2,3,4] [.box [.id,.id,.id,.id,.id,.id],.dH (aH 1 R EX),.bU EY,.bU (cB 2 aJ bl.2.1),.pure,.pure] [(0,ii),(4,ii),(5,ii),(11,hf (EX.length)),(117,ii),(118,ii)],(B1 cw.fW cw.en cw.e1 cw.fH cw.kk ia ((ia.toNat:Nat):Int) ax.dj ax.db bl.1 bl.2.1 bl.2.2 cu).fU,.aY (aD 2 (aF (.call {aA:=(sl [0,2,3,4,5,1]),b7:=[.bU [ap.mk 6 [KF] .live],.bU KH,.bU (cB 2 aJ bl.2.1),.pure,.pure,.pure],ac:=[ii,ii],r:= .b bA.1,cY:=[[ap.mk 6 [pk] .live],KH,EW,(aH 1 R bA.2.2.2.2.1),(aH 1 df bA.2.2.2.2.2),(aH 1 R cu.1)],ec:=ii,eL:=[.bU [ap.mk 6 [qR] .live],.bU EY,.bU EW,.pure,.pure,.pure],c4:=[0,1,2,3,4,5],cX:=false}) [])),(ak 6),.bi [0,4,2,3,5] [.box [.id,.id,.id,.id,.id,.id],.pure,.bU EY,.bU EW,.pure] (bI [0,4,5,149,150,151])];
  have a6:=((.bF (px ax J) ao.1 (Int.le_refl ia) ao.2.1 ao.2.2 (mn bL) (mn Int) (l2 ia.toNat (false:Bool)) (.bF (ms (uW (bQ:=zU) 1 .live (bN 2 0 2) (p9 (bN 25 0 2)) (wq (rfl:zU 25=some 2))) (rM (bQ:=zU))) (nQ (bQ:=zU) (Rk .live 2 aJ) (nt dV)) (ey 1 .live (p9 R)) (aU 1 .live a2 ([]:List Int)) (ey 1 .live (lB df ia.toNat false)) (aU 1 .live dI qS) (Nb aM) bW.1 (.bF (Int.le_refl ia) bW.2.1 bW.2.2 (ey 1 .live (lB R ia.toNat 0)) (aU 1 .live a2 EX) (ez KI 3 2 0 2 rfl bl.1) (eF KI 2 dV bl.2.1) (aU 1 .live a2 bl.2.2) (.bF (aU 1 .live dI qS) (l2 ia.toNat (0:Int)) (Nc bG) (oh EZ 6 [KF] [KG] rfl) (nj 6 [KG]) (ez EZ 2 3 0 2 rfl bl.1) (nj 1 (bl.1.map (bN 3 0 2))) (eF EZ 2 dV bl.2.1) (.bF (qZ 2 aJ bl.2.1) (i1 1 a2 bl.2.2) (i1 1 dI cu.2) (i1 1 a2 cu.1) (oh E0 6 [qR] [pk] rfl) (nj 6 [pk]) (ez E0 3 2 0 2 rfl bl.1) (nj 1 (bl.1.map (bN 2 0 2))) (.bF (eF E0 2 dV bA.2.2.2.1) (qZ 2 aJ bA.2.2.2.1) (i1 1 a2 bA.2.2.2.2.1) (i1 1 dI bA.2.2.2.2.2) (i1 1 a2 cu.1) (Md bA dZ) (aU 1 .live a2 bA.2.2.2.2.1) (ez (cR [0,4,2,3,5]) 3 3 0 2 rfl bl.1) (.ay (eF (cR [0,4,2,3,5]) 2 dV bA.2.2.2.1) (aU 1 .live dI bA.2.2.2.2.2)))))))):cF _);
  (by
  rcases dh with qQ|qQ
  ·exact (.aI fun iU hg =>
  .aI fun et fF =>
  .ret (let ck:=cB 2 aJ et.2.2.2.1;let cS:=aH 1 (bN 2 0 2) et.2.2.1;let eB:=U (cw.en+cw.fW);let aZ:=eJ 1 0 0 et.2.2.1.length et.1 et.2.1 3 0 0 et.2.2.2.2.length eB 4 0 0 iU.length;let bg:=eJ 1 0 0 bl.1.length bA.2.1 bA.2.2.1 3 0 0 bA.2.2.2.2.1.length eB 4 0 0 iU.length;let gI:=Ac [0,1,2,3,4];let i7:=p8 [0,1,2,3,4];let fg:=aH 1 (bN 0 4 2) et.2.2.1;let h4:=cB 2 aJ bA.2.2.2.1;let kz:=aH 1 (bN 2 0 2) bl.1;ik (t1.append [(B2 cw.fW cw.en cw.e1 cw.fH cw.kk eB ((bA.2.2.2.2.1.length:Nat):Int) bA.2.1 bA.2.2.1 eB bA.2.2.2.2.1 bl.1 bA.2.2.2.1 bA.2.2.2.2.2 (.inl qQ)).fU,(ak 6),.bi [0,1,2,3,4] [.box [.id,.id,.id,.id,.id,.id],.bU kz,.bU h4,.pure,.pure] (bI [0,5,181,182]),(B3 cw.fW cw.en cw.e1 cw.fH cw.kk ((bA.2.2.2.2.2.length:Nat):Int) bA.2.1 bA.2.2.1 eB bl.1 bA.2.2.2.1 bA.2.2.2.2.1 iU).fU,.aY (aD 5 (aF (.call {aA:=(sl [0,1,2,3,4]),b7:=[.bU [ap.mk 6 [bg] .live],.bU kz,.bU h4,.pure,.pure],ac:=[ii,ii],r:= .dx [],cY:=[[ap.mk 6 [aZ] .live],cS,ck,(aH 1 R et.2.2.2.2),(aH 1 df iU)],ec:=ii,eL:=[.bU [ap.mk 6 [aZ] .live],.bU cS,.bU ck,.pure,.pure],c4:=[0,1,2,3,4],cX:=false}) [])),(ak 3),.ED [{bq:=[(0,0),(1,0),(3,0),(4,0)],iW:=some (2,0)}] [([.box [.at_ 0 1 et.2.2.1.length,.id,.id,.at_ 0 2 et.2.2.2.2.length,.id,.at_ 0 3 iU.length],.rx fg,.pure,.pure],some (.rx ck))] [(2,.bH (.c6 (.at_ 0 0 0))),(3,ii)]]) [0] [.bU (ap.mk 6 [(eJ 0 1 0 et.2.2.1.length et.1 et.2.1 0 2 0 et.2.2.2.2.length eB 0 3 0 iU.length)] .live::ap.mk 1 (et.2.2.1.map (bN 0 4 2)) .live::ap.mk 1 (et.2.2.2.2.map R) .live::ap.mk 1 (iU.map df) .live::ck)] (a6.bb (.bF (Gp eT) (ez (cR [0,1,2,3,4]) 2 2 0 2 rfl bl.1) (eF (cR [0,1,2,3,4]) 2 dV bA.2.2.2.1) (aU 1 .live a2 bA.2.2.2.2.1) (aU 1 .live dI bA.2.2.2.2.2) (Nd hg) (oh gI 6 [bg] [bg] rfl) (nj 6 [bg]) (.bF (ez gI 2 2 0 2 rfl bl.1) (nj 1 (bl.1.map (bN 2 0 2))) (eF gI 2 dV bA.2.2.2.1) (qZ 2 aJ bA.2.2.2.1) (i1 1 a2 bA.2.2.2.2.1) (i1 1 dI iU) (oh i7 6 [aZ] [aZ] rfl) (nj 6 [aZ]) (.bF (ez i7 2 2 0 2 rfl et.2.2.1) (nj 1 (et.2.2.1.map (bN 2 0 2))) (eF i7 2 dV et.2.2.2.1) (qZ 2 aJ et.2.2.2.1) (i1 1 a2 et.2.2.2.2) (i1 1 dI iU) (My et fF) (rfl:(lo [{bq:=[(0,0),(1,0),(3,0),(4,0)],iW:=some (2,0)}]) 0 1=some (1,0)) (.bF (rfl:et.2.2.1.length=et.2.2.1.length) (rfl:(lo [{bq:=[(0,0),(1,0),(3,0),(4,0)],iW:=some (2,0)}]) 0 2=some (3,0)) (rfl:et.2.2.2.2.length=et.2.2.2.2.length) (rfl:(lo [{bq:=[(0,0),(1,0),(3,0),(4,0)],iW:=some (2,0)}]) 0 3=some (4,0)) (rfl:iU.length=iU.length) (QR (JI (iF:=(bN 0 4 2)) (dQ (bN 2 0 2) et.2.2.1) (fun _=>rfl) (fun x=>(RV (fun _=>rfl)) x)) Rm:qP (lo [{bq:=[(0,0),(1,0),(3,0),(4,0)],iW:=some (2,0)}]) cS fg) (aU 1 .live a2 et.2.2.2.2) (aU 1 .live dI iU) (.bR (QS (hI .live 2 aJ et.2.2.2.1) (fun _=>rfl) dV:qP (lo [{bq:=[(0,0),(1,0),(3,0),(4,0)],iW:=some (2,0)}]) ck ck) (rfl:(lo [{bq:=[(0,0),(1,0),(3,0),(4,0)],iW:=some (2,0)}]) 0 0=some (0,0)) (ms (show ap.mk 6 [(eJ 0 1 0 et.2.2.1.length et.1 et.2.1 0 2 0 et.2.2.2.2.length (U (cw.en+cw.fW)) 0 3 0 iU.length)] .live=i5 (cR [0]) (ap.mk 6 [(eJ 0 1 0 et.2.2.1.length et.1 et.2.1 0 2 0 et.2.2.2.2.length (U (cw.en+cw.fW)) 0 3 0 iU.length)] .live) from rfl) (ms (FB (cR [0]) 0 0 4 2 rfl et.2.2.1) (ms (Ad (cR [0]) 1 JJ et.2.2.2.2) (ms (Ad (cR [0]) 1 JK iU) (eF (cR [0]) 2 dV et.2.2.2.1))))))))))) (.comp [.c6 .id,.c6 .id])))
  ·exact (.ret (ik (t1.append [.sub (.ret) [(2,.gv),(3,.b false)] []]) [] [] (a6.bb (.ar (Gp eT)))))))
def qd (aT:cQ)(dq:List Int):Option Bool :=
 u9 aT dq 0 0 >>= fun ax =>
 vu ax >>= fun bh =>
 match bh with
 | .inl eX=>(some true)
 | .inr eX=>(some false)
theorem F9 {aT:cQ}{dq:List Int}:b2 (qd aT dq) (fun r=>Con bz 23 [.dg 2 [(gn aT)] 0 0,.isl 1 (dq.map R)] [] (.b r) []):=by
 unfold qd
 exact .aI fun ax J =>
  .aI fun bh aO =>
  (let t1:List cM:=[(ak 1),.aY (b0 2 (cT 4 (.agg (o4 ax)) false) 2),.hR 4];
  have a6:=((.ay (L1 ax J) (ly (NN ax):gL [(o4 ax)])):cF _);
  (by
  rcases bh with eX|eX
  ·exact (.ret (let aZ:=eJ 0 1 0 eX.2.2.2.1.length eX.1 eX.2.1 0 2 0 eX.2.2.2.2.1.length eX.2.2.1 0 3 0 eX.2.2.2.2.2.1.length;let bg:=cB 2 aJ eX.2.2.2.2.2.2;cn (t1.append [.aY (aF (.call {aA:=[],b7:=[],ac:=[.bH (.ptr [.id,.id,.id,.id,.id])],r:= .dx [.ref 0 0 0 0,.b true],cY:=[(ap.mk 6 [aZ] .live::ap.mk 1 (eX.2.2.2.1.map (bN 0 4 2)) .live::ap.mk 1 (eX.2.2.2.2.1.map R) .live::ap.mk 1 (eX.2.2.2.2.2.1.map df) .live::bg)],ec:= .comp [.c6 .id,.c6 .id],eL:=[.bU (ap.mk 6 [(eJ 6 1 0 eX.2.2.2.1.length eX.1 eX.2.1 6 2 0 eX.2.2.2.2.1.length eX.2.2.1 6 3 0 eX.2.2.2.2.2.1.length)] .live::ap.mk 1 (eX.2.2.2.1.map (bN 6 4 2)) .live::ap.mk 1 (eX.2.2.2.2.1.map R) .live::ap.mk 1 (eX.2.2.2.2.2.1.map df) .live::bg)],c4:=[4],cX:=false}) (aD 5 [])),(ak 2)]) (a6.bb (.bR (ms (show ap.mk 6 [(eJ 6 1 0 eX.2.2.2.1.length eX.1 eX.2.1 6 2 0 eX.2.2.2.2.1.length eX.2.2.1 6 3 0 eX.2.2.2.2.2.1.length)] .live=i5 (p8 [6]) (ap.mk 6 [(eJ 0 1 0 eX.2.2.2.1.length eX.1 eX.2.1 0 2 0 eX.2.2.2.2.1.length eX.2.2.1 0 3 0 eX.2.2.2.2.2.1.length)] .live) from rfl) (ms (FB (p8 [6]) 6 0 4 2 rfl eX.2.2.2.1) (ms (Ad (p8 [6]) 1 JJ eX.2.2.2.2.1) (ms (Ad (p8 [6]) 1 JK eX.2.2.2.2.2.1) (eF (p8 [6]) 2 dV eX.2.2.2.2.2.2))))) ((vK rfl (vK rfl (vK rfl (vK rfl (HO (hI .live 2 aJ eX.2.2.2.2.2.2)))))):nV (ap.mk 6 [aZ] .live::ap.mk 1 (eX.2.2.2.1.map (bN 0 4 2)) .live::ap.mk 1 (eX.2.2.2.2.1.map R) .live::ap.mk 1 (eX.2.2.2.2.2.1.map df) .live::bg)) (GJ (.inl eX) aO)))))
  ·exact (.ret (cn (t1.append [.aY (aF (.call {aA:=[],b7:=[],ac:=[.bH (.ptr [.id,.id,.id,.id,.id])],r:= .dx [.gv,.b false],cY:=[],ec:=ii,eL:=[],c4:=[4],cX:=false}) (aD 5 [])),(ak 2)]) (a6.bb (.ar (GJ (.inr eX) aO)))))))
def AP (c7:List a9)(cL:List bu)(dP:List (List Int))(dC:Int):Int→S:=fun eC=>er [(0,.dg 2 [[.isl 4 (c7.map cA),.isl 3 (cL.map dr)]] 0 0),(7,.isl 1 (dP.map (cl 1 R))),(8,.n .i64 dC),(9,.n .i64 eC)] []
def F5 (c7:List a9)(cL:List bu)(dP:List (List Int))(dC:Int):((Unit)⊕(Int))→ex
 | .inl a=>⟨some 0,[],[]⟩
 | .inr a=>⟨none,[(4,.n .i64 a)],[]⟩
def rb (c7:List a9)(cL:List bu)(dP:List (List Int))(dC eC:Int):Option ((Int)⊕((Unit)⊕(Int))) :=
 if (decide (eC<dC))=true then
  if 0≤eC∧eC<dP.length then
  dP[eC.toNat]? >>= fun a4 =>
  qd (⟨c7,cL⟩:cQ) a4 >>= fun br =>
  if br=true then
   some (.inl (U (eC+(1:Int))))
  else
   some (.inr (.inr eC))
  else none
 else
  some (.inr (.inl ()))
def A8 (c7:List a9)(cL:List bu)(dP:List (List Int))(dC eC:Int):Option ((Unit)⊕(Int)):=iter (fun w:Int=>rb c7 cL dP dC w) eC
theorem LN {c7:List a9}{cL:List bu}{dP:List (List Int)}{dC eC:Int}:b2 (rb c7 cL dP dC eC) (e5 bz 20 0 21 [1,0,1,0,0] (AP c7 cL dP dC eC) (AP c7 cL dP dC) (F5 c7 cL dP dC)):=by
 unfold rb
 exact .ite (fun o =>
  .bk fun J =>
  .aI fun a4 aO =>
  .aI fun br bW =>
  (let t1:List cM:=[(ak 1),.aw true,.aY (b0 2 (.cy ((cl 1 R) a4)) 2),.aY (b0 2 (cT 2 (.b br) true) 1)];
  have a6:=((.eW o J.1 (d1 (cl 1 R) J.2) (cr (cl 1 R) aO) (F9 br bW) (cx.b br)):cF _);
  .ite (fun bK =>
  .ret (bP (t1.append [.aw false,(ak 2),.bi [] [] (bI [0,7,8,9])]) (a6.bb (.ar (d3 bK)))))
  (fun bK =>
  .ret (bP (t1.append [.aw true,(ak 2),.bi [] [] (bI [4])]) (a6.bb (.ar (ea bK)))))))
  (fun o =>
  .ret (bP [(ak 1),.aw false,.bi [] [] []] (.ar o)))
theorem F7 {c7:List a9}{cL:List bu}{dP:List (List Int)}{dC eC:Int}{r} (h:A8 c7 cL dP dC eC=some r):e6 bz 20 0 21 [1,0,1,0,0] (AP c7 cL dP dC) (F5 c7 cL dP dC) eC r:=e7 (fun _=>LN) h
def s5 (aT:cQ)(f8:List (List Int)):Option Int :=
 A8 aT.cc aT.cK f8 (len_ (cl 1 R) f8) 0 >>= fun ax =>
 match ax with
 | .inl dn=>(some (-1))
 | .inr dn=>(some dn)
theorem Ga {aT:cQ}{f8:List (List Int)}:b2 (s5 aT f8) (fun r=>Con bz 21 [.dg 2 [(gn aT)] 0 0,.isl 1 (f8.map (cl 1 R))] [] (.n .i64 r) []):=by
 unfold s5
 exact .aI fun ax J =>
  (let t1:List cM:=[(ak 1),(ak 3),.bi [] [] (bI [0,7,8,9])];
  (by
  rcases ax with dn|dn
  ·exact (.ret (cn (t1.append [.sub (.exit 0) [] [],(ak 1)]) (.ar (F7 J))))
  ·exact (.ret (cn (t1.append [.sub (.ret) [(4,.n .i64 dn)] []]) (.ar (F7 J))))))
def x6 (aT:cQ)(f8:List (List Int)):Option Int :=
 rq aT f8 >>= fun ax =>
 if ax=true then
  s5 aT f8 >>= fun bl =>
  some bl
 else
  some (-1)
theorem MW {aT:cQ}{f8:List (List Int)}:b2 (x6 aT f8) (fun r=>Con bz 8 [.agg (gn aT),.isl 1 (f8.map (cl 1 R))] [] (.n .i64 r) []):=by
 unfold x6
 exact .aI fun ax J =>
  (let t1:List cM:=[(ak 2),.aY (b0 1 (.call {ac:=[.bH (.ptr [.id,.id]),ii],r:= .b ax,cX:=true,c4:=[0]}) 1)];
  have a6:=((.bR (ly (nN aT):gL [(gn aT)]) (Cv ax J) (cx.b ax)):cF _);
  .ite (fun ao =>
  .aI fun bl aM =>
  .ret (cn (t1.append [.aw false,.aY (b0 1 (.call {ac:=[.bH (.ptr [.id,.id]),ii],r:= .n .i64 bl,cX:=true,c4:=[0]}) 1)]) (a6.bb (.dc (d3 ao) (ly (nN aT):gL [(gn aT)]) (Ga bl aM) (cx.n .i64 bl)))))
  (fun ao =>
  .ret (cn (t1.append [.aw true,(ak 1)]) (a6.bb (.ar (ea ao))))))
def yr (aT:cQ)(f8:List (List Int)):Option Bool :=
 rq aT f8 >>= fun ax =>
 some ax
theorem NH {aT:cQ}{f8:List (List Int)}:b2 (yr aT f8) (fun r=>Con bz 9 [.agg (gn aT),.isl 1 (f8.map (cl 1 R))] [] (.b r) []):=by
 unfold yr
 exact .aI fun ax J =>
  .ret (cn [(ak 2),.aY (b0 1 (.call {ac:=[.bH (.ptr [.id,.id]),ii],r:= .b ax,cX:=true,c4:=[0]}) 1)] (.bR (ly (nN aT):gL [(gn aT)]) (Cv ax J) (cx.b ax)))
def yi (aT:cQ)(f8:List (List Int)):Option Bool :=
 rq aT f8 >>= fun ax =>
 if ax=true then
  s5 aT f8 >>= fun bl =>
  some (decide (bl<(0:Int)))
 else
  some false
theorem Nf {aT:cQ}{f8:List (List Int)}:b2 (yi aT f8) (fun r=>Con bz 10 [.agg (gn aT),.isl 1 (f8.map (cl 1 R))] [] (.b r) []):=by
 unfold yi
 exact .aI fun ax J =>
  (have bZ:=((.bR (ly (nN aT):gL [(gn aT)]) (Cv ax J) (cx.b ax)):cF _);
  .ite (fun ao =>
  .aI fun bl aM =>
  .ret (cn [(ak 2),.aY (aD 1 (aF (.call {ac:=[.bH (.ptr [.id,.id]),ii],r:= .b ax,cX:=true,c4:=[0]}) (aD 2 (aF (.call {ac:=[.bH (.ptr [.id,.id]),ii],r:= .n .i64 bl,cX:=true,c4:=[0]}) (b0 1 (.aw true) 1)))))] (bZ.bb (.fm ao ao (ly (nN aT):gL [(gn aT)]) (Ga bl aM) (cx.n .i64 bl) ao ao))))
  (fun ao =>
  .ret (cn [(ak 2),.aY (aD 1 (aF (.call {ac:=[.bH (.ptr [.id,.id]),ii],r:= .b ax,cX:=true,c4:=[0]}) (aD 1 (dE 3 (aF (.aw false) (aD 1 []))))))] (bZ.bb (.dc ao ao ao ao)))))
def yw (aT:cQ)(dq:List Int):Option Bool :=
 pw aT >>= fun ax =>
 if ax=true then
  om aT dq >>= fun bl =>
  some bl
 else
  some false
theorem NS {aT:cQ}{dq:List Int}:b2 (yw aT dq) (fun r=>Con bz 22 [.agg (gn aT),.isl 1 (dq.map R)] [] (.b r) []):=by
 unfold yw
 exact .aI fun ax J =>
  (have bZ:=((.ay (xX ax J) (cx.b ax)):cF _);
  .ite (fun ao =>
  .aI fun bl aM =>
  .ret (cn [(ak 2),.aY (aD 1 (aF (cT 1 (.b ax) true) (aD 2 (aF (.call {ac:=[.bH (.ptr [.id,.id]),ii],r:= .b bl,cX:=true,c4:=[0]}) (aF (.aw true) (aD 1 []))))))] (bZ.bb (.eW ao ao (ly (nN aT):gL [(gn aT)]) (ts bl aM) (cx.b bl) ao))))
  (fun ao =>
  .ret (cn [(ak 2),.aY (aD 1 (aF (cT 1 (.b ax) true) (aD 1 (dE 2 (aF (.aw false) (aD 1 []))))))] (bZ.bb (.bR ao ao ao)))))
def tB (aT:cQ)(dq:List Int):Option Bool :=
 yw aT dq >>= fun ax =>
 if ax=true then
  qd aT dq >>= fun bl =>
  some bl
 else
  some false
theorem Cs {aT:cQ}{dq:List Int}:b2 (tB aT dq) (fun r=>Con bz 11 [.agg (gn aT),.isl 1 (dq.map R)] [] (.b r) []):=by
 unfold tB
 exact .aI fun ax J =>
  (have bZ:=((.ay (NS ax J) (cx.b ax)):cF _);
  .ite (fun ao =>
  .aI fun bl aM =>
  .ret (cn [(ak 2),.aY (aD 2 (aF (cT 2 (.b ax) true) (aD 2 (aF (.call {ac:=[.bH (.ptr [.id,.id]),ii],r:= .b bl,cX:=true,c4:=[0]}) (aF (.aw true) (aD 1 []))))))] (bZ.bb (.eW ao ao (ly (nN aT):gL [(gn aT)]) (F9 bl aM) (cx.b bl) ao))))
  (fun ao =>
  .ret (cn [(ak 2),.aY (aD 2 (aF (cT 2 (.b ax) true) (aD 1 (dE 2 (aF (.aw false) (aD 1 []))))))] (bZ.bb (.bR ao ao ao)))))
def ys (ei:List Int):Option Bool :=
 if (decide ((1048576:Int)<(len_ eU8 ei)))=true then
  some true
 else
  yk ei >>= fun bJ =>
  yl ei 40 bJ.1 >>= fun bl =>
  vp ei 50 >>= fun cj =>
  vp ei 52 >>= fun fu =>
  vn bJ.1 ([bJ.2,bl]:List (List Int)) ([cj.tmod (4:Int),fu.tmod (4:Int)]:List Int) >>= fun fK =>
  x6 bJ.1 ([bJ.2,bl]:List (List Int)) >>= fun fz =>
  if fK.2=true then
   yr bJ.1 ([bJ.2,bl]:List (List Int)) >>= fun eR =>
   if eR=true then
    yi bJ.1 ([bJ.2,bl]:List (List Int)) >>= fun dT =>
    if (dT == (decide (fz<(0:Int))))=true then
     if (decide ((1:Int)<fz))=true then
      some false
     else
      if (decide ((0:Int)≤fz))=true then
       if 0≤fz∧fz<(2:Nat) then
       ([bJ.2,bl]:List (List Int))[(0+fz.toNat)]? >>= fun mR =>
       tB bJ.1 mR >>= fun jl =>
       if jl=true then
        if (decide (fz<(0:Int)))=true then
         tB bJ.1 fK.1 >>= fun xg =>
         some xg
        else
         some false
       else
        some true
       else none
      else
       if (decide (fz<(0:Int)))=true then
        tB bJ.1 fK.1 >>= fun kY =>
        some kY
       else
        some false
    else
     some false
   else
    some false
  else
   some false
theorem NI {ei:List Int}:b2 (ys ei) (fun r=>Con bz 3 [.isl 1 (ei.map eU8)] [] (.b r) []):=by
 unfold ys
 exact .ite (fun o =>
  .ret (cn [(ak 1),(ak 3),.aw true,(ak 1)] (.ar o)))
  (fun o =>
  .aI fun bJ ao =>
  .aI fun bl aM =>
  .aI fun cj bK =>
  .aI fun fu d8 =>
  .aI fun fK dG =>
  .aI fun fz eM =>
  (let t1:List cM:=[(ak 1),(ak 3),.aw false,.aY (b0 1 (cT 1 (.dx [.agg (gn bJ.1),.isl 1 (bJ.2.map R)]) false) 6),.aY (b0 2 (cT 3 (.isl 1 (bl.map R)) false) 1),(ak 4),.hR 18,.aY (aD 3 (aF (cT 2 (.n .i64 cj) true) (aD 2 (aF (cT 2 (.n .i64 fu) true) (b0 2 (.qW 28 (.call {ac:=[ii,.bH (.c6 (.eZ (([bJ.2,bl]:List (List Int)).map (cl 1 R)))),.bH (.c6 (.eZ (([cj.tmod (4:Int),fu.tmod (4:Int)]:List Int).map R)))],r:= .dx [.isl 1 (fK.1.map R),.b fK.2],cX:=false,c4:=[18,28]})) 5))))),.aY (b0 2 (.call {ac:=[ii,.bH (.c6 (.eZ (([bJ.2,bl]:List (List Int)).map (cl 1 R))))],r:= .n .i64 fz,cX:=true,c4:=[18]}) 1)];
  have a6:=((.bF o (Ns bJ ao) (Nt bl aM) (GC cj bK) (cx.n .i64 cj) (by decide:(4:Int)≠0) (GC fu d8) (cx.n .i64 fu) (.bF (by decide:(4:Int)≠0) (kn (show [[.isl 1 (bJ.2.map R)],[.isl 1 (bl.map R)]]=(([bJ.2,bl]:List (List Int))).map (cl 1 R) from rfl) (show 2=([bJ.2,bl]:List (List Int)).length from rfl)) (kI (show [[.isl 1 (bJ.2.map R)],[.isl 1 (bl.map R)]]=(([bJ.2,bl]:List (List Int))).map (cl 1 R) from rfl) (show 2=([bJ.2,bl]:List (List Int)).length from rfl)) (eu (lC (sz:=1) a2) ([bJ.2,bl]:List (List Int))) (kn (show [[.n .i64 (cj.tmod (4:Int))],[.n .i64 (fu.tmod (4:Int))]]=(([cj.tmod (4:Int),fu.tmod (4:Int)]:List Int)).map R from rfl) (show 2=([cj.tmod (4:Int),fu.tmod (4:Int)]:List Int).length from rfl)) (kI (show [[.n .i64 (cj.tmod (4:Int))],[.n .i64 (fu.tmod (4:Int))]]=(([cj.tmod (4:Int),fu.tmod (4:Int)]:List Int)).map R from rfl) (show 2=([cj.tmod (4:Int),fu.tmod (4:Int)]:List Int).length from rfl)) (eu a2 ([cj.tmod (4:Int),fu.tmod (4:Int)]:List Int)) (Nv fK dG) (.ed (kn (show [[.isl 1 (bJ.2.map R)],[.isl 1 (bl.map R)]]=(([bJ.2,bl]:List (List Int))).map (cl 1 R) from rfl) (show 2=([bJ.2,bl]:List (List Int)).length from rfl)) (kI (show [[.isl 1 (bJ.2.map R)],[.isl 1 (bl.map R)]]=(([bJ.2,bl]:List (List Int))).map (cl 1 R) from rfl) (show 2=([bJ.2,bl]:List (List Int)).length from rfl)) (eu (lC (sz:=1) a2) ([bJ.2,bl]:List (List Int))) (MW fz eM) (cx.n .i64 fz)))):cF _);
  .ite (fun dL =>
  .aI fun eR lR =>
  (have gO:=a6.bb (.bF (d3 dL) (d3 dL) (d3 dL) (kn (show [[.isl 1 (bJ.2.map R)],[.isl 1 (bl.map R)]]=(([bJ.2,bl]:List (List Int))).map (cl 1 R) from rfl) (show 2=([bJ.2,bl]:List (List Int)).length from rfl)) (kI (show [[.isl 1 (bJ.2.map R)],[.isl 1 (bl.map R)]]=(([bJ.2,bl]:List (List Int))).map (cl 1 R) from rfl) (show 2=([bJ.2,bl]:List (List Int)).length from rfl)) (eu (lC (sz:=1) a2) ([bJ.2,bl]:List (List Int))) (NH eR lR) (cx.b eR) (.ay (d3 dL) (d3 dL)));
  .ite (fun fF =>
  .aI fun dT kv =>
  (have fN:=gO.bb (.bF (d3 fF) (d3 fF) (d3 fF) (kn (show [[.isl 1 (bJ.2.map R)],[.isl 1 (bl.map R)]]=(([bJ.2,bl]:List (List Int))).map (cl 1 R) from rfl) (show 2=([bJ.2,bl]:List (List Int)).length from rfl)) (kI (show [[.isl 1 (bJ.2.map R)],[.isl 1 (bl.map R)]]=(([bJ.2,bl]:List (List Int))).map (cl 1 R) from rfl) (show 2=([bJ.2,bl]:List (List Int)).length from rfl)) (eu (lC (sz:=1) a2) ([bJ.2,bl]:List (List Int))) (Nf dT kv) (cx.b dT) (.dc (d3 fF) (d3 fF) (d3 fF) (d3 fF)));
  .ite (fun kj =>
  (let t5:List cM:=t1.append [.aY (aD 5 (aF (.call {ac:=[ii,.bH (.c6 (.eZ (([bJ.2,bl]:List (List Int)).map (cl 1 R))))],r:= .b eR,cX:=true,c4:=[18]}) (aD 1 (aF (.aw false) (aD 3 (aF (.call {ac:=[ii,.bH (.c6 (.eZ (([bJ.2,bl]:List (List Int)).map (cl 1 R))))],r:= .b dT,cX:=true,c4:=[18]}) (aD 3 (aF (.aw false) (aD 3 (aF (.aw false) []))))))))))];
  have kl:=fN.bb (.bR (d3 kj) (d3 kj) (d3 kj));
  .ite (fun lp =>
  .ret (cn (t5.append [.aw true,(ak 1)]) (kl.bb (.ar lp))))
  (fun lp =>
  .ite (fun hF =>
  .bk fun im =>
  .aI fun mR mS =>
  .aI fun jl sq =>
  (have xA:=kl.bb (.bF lp hF hF hF hF im.1 im.2 hF (.eW (ID (show [[.isl 1 (bJ.2.map R)],[.isl 1 (bl.map R)]]=(([bJ.2,bl]:List (List Int))).map (cl 1 R) from rfl) mS) hF (Cs jl sq) (cx.b jl) hF hF));
  .ite (fun nF =>
  (have Lk:=xA.bb (.bR (d3 nF) (d3 nF) (d3 nF));
  .ite (fun mT =>
  .aI fun xg gZ =>
  .ret (cn (t5.append [.aw false,.aY (aD 7 (aF (.cy ((cl 1 R) mR)) (aF (cT 2 (.b jl) true) (aD 1 (aF (.aw true) (aD 6 (aF (cT 2 (.b xg) true) (aF (.aw true) (aF (.aw false) (aD 1 []))))))))))]) (Lk.bb (.ja mT mT mT (Cs xg gZ) (cx.b xg) (d3 nF) mT (d3 nF)))))
  (fun mT =>
  .ret (cn (t5.append [.aw false,.aY (aD 7 (aF (.cy ((cl 1 R) mR)) (aF (cT 2 (.b jl) true) (aD 1 (aF (.aw true) (aD 4 (dE 3 (aF (.aw false) (aF (.aw false) (aD 1 []))))))))))]) (Lk.bb (.eW mT mT mT (d3 nF) mT (d3 nF)))))))
  (fun nF =>
  .ret (cn (t5.append [.aw false,.aY (aD 7 (aF (.cy ((cl 1 R) mR)) (aF (cT 2 (.b jl) true) (aD 1 (aF (.aw true) (aD 1 (dE 3 (aD 3 (dE 1 (aF (.aw true) (aD 1 [])))))))))))]) (xA.bb (.ed (ea nF) (ea nF) (ea nF) (ea nF) (ea nF)))))))
  (fun hF =>
  (have xA:=kl.bb (.bF lp hF hF hF hF hF hF hF (.dc hF iZ iZ iZ));
  .ite (fun im =>
  .aI fun kY mS =>
  .ret (cn (t5.append [.aw false,.aY (aD 3 (dE 7 (aF (.aw false) (aD 6 (aF (cT 2 (.b kY) true) (aF (.aw true) (aD 2 [])))))))]) (xA.bb (.fm im im im (Cs kY mS) (cx.b kY) iZ im))))
  (fun im =>
  .ret (cn (t5.append [.aw false,.aY (aD 3 (dE 7 (aF (.aw false) (aD 4 (dE 3 (aF (.aw false) (aD 2 [])))))))]) (xA.bb (.ed im im im iZ im)))))))))
  (fun kj =>
  .ret (cn (t1.append [.aY (aD 5 (aF (.call {ac:=[ii,.bH (.c6 (.eZ (([bJ.2,bl]:List (List Int)).map (cl 1 R))))],r:= .b eR,cX:=true,c4:=[18]}) (aD 1 (aF (.aw false) (aD 3 (aF (.call {ac:=[ii,.bH (.c6 (.eZ (([bJ.2,bl]:List (List Int)).map (cl 1 R))))],r:= .b dT,cX:=true,c4:=[18]}) (aD 3 (aF (.aw false) (aD 1 (dE 2 (aF (.aw true) []))))))))))),.aw true,(ak 1)]) (fN.bb (.dc (ea kj) (ea kj) (ea kj) da))))))
  (fun fF =>
  .ret (cn (t1.append [.aY (aD 5 (aF (.call {ac:=[ii,.bH (.c6 (.eZ (([bJ.2,bl]:List (List Int)).map (cl 1 R))))],r:= .b eR,cX:=true,c4:=[18]}) (aD 1 (aF (.aw false) (aD 1 (dE 6 (aF (.aw true) (aD 1 (dE 2 (aD 1 [])))))))))),.aw true,(ak 1)]) (gO.bb (.bF (ea fF) (ea fF) (ea fF) (ea fF) (ea fF) (ea fF) (ea fF) da (.ay da da)))))))
  (fun dL =>
  .ret (cn (t1.append [.aY (aD 3 (dE 4 (aF (.aw true) (aD 1 (dE 6 (aD 2 (dE 2 (aD 1 [])))))))),.aw true,(ak 1)]) (a6.bb (.bF (ea dL) (ea dL) (ea dL) (ea dL) (ea dL) da da da (.eW da da da da da da)))))))
end Go.Proofs.Ytjkpomjgokofmac
namespace Go.Proofs.Ytjkpomjgokofmac
set_option linter.unusedVariables false
set_option linter.unusedSimpArgs false
open Go Go.VL
def CW (cw:jt)(a0:Int):Option (List Int) :=
 if 0≤(U (a0*cw.en)) then
 if 0≤(U ((U (a0+(1:Int)))*cw.en)) then
 if (U (a0*cw.en)).toNat≤(U ((U (a0+(1:Int)))*cw.en)).toNat∧(U ((U (a0+(1:Int)))*cw.en)).toNat≤cw.e1.length then
 some ((cw.e1.drop ((U (a0*cw.en)).toNat)).take ((U ((U (a0+(1:Int)))*cw.en)).toNat-(U (a0*cw.en)).toNat))
 else none
 else none
 else none
def xY (bt bf:List Int)(a0:Int):Option ((Int)⊕((Unit)⊕(Int))) :=
 if (decide ((0:Int)≤a0))=true then
  if 0≤a0∧a0<bt.length then
  bt[a0.toNat]? >>= fun a4 =>
  if 0≤a0∧a0<bf.length then
  bf[a0.toNat]? >>= fun cC =>
  if (decide (a4<cC))=true then
   some (.inr (.inr (-1)))
  else
   if (decide (cC<a4))=true then
    some (.inr (.inr 1))
   else
    some (.inl (U (a0-(1:Int))))
  else none
  else none
 else
  some (.inr (.inl ()))
def GM (bt bf:List Int)(a0:Int):Option ((Unit)⊕(Int)):=iter (fun w:Int=>xY bt bf w) a0
def CX (bt bf:List Int):Option Int :=
 if ((len_ R bt) != (len_ R bf))=true then
  if (decide ((len_ R bt)<(len_ R bf)))=true then
   some (-1)
  else
   some 1
 else
  GM bt bf (U ((len_ R bt)-(1:Int))) >>= fun bJ =>
  match bJ with
  | .inl gP=>(some 0)
  | .inr gP=>(some gP)
def xV (bt:List Int)(xh g9 a0:Int)(aq:List Int):Option ((Int×Int×(List Int))⊕(Int×(List Int))) :=
 if (decide ((0:Int)≤a0))=true then
  if 0≤a0∧a0<bt.length then
  bt[a0.toNat]? >>= fun a4 =>
  if xh≠0 then
  if 0≤a0∧a0<(aq.length:Nat) then
  if (0+a0.toNat)<aq.length then
  some (.inl ((U ((U (g9*(1000000000:Int)))+a4)).tmod xh,U (a0-(1:Int)),aq.set (0+a0.toNat) (U ((U ((U (g9*(1000000000:Int)))+a4)).tdiv xh))))
  else none
  else none
  else none
  else none
 else
  some (.inr (g9,aq))
def GA (bt:List Int)(xh g9 a0:Int)(aq:List Int):Option (Int×(List Int)):=iter (fun w:Int×Int×(List Int)=>xV bt xh w.1 w.2.1 w.2.2) (g9,a0,aq)
def xZ (bf:List Int)(a0 fp:Int)(dS:List Int)(d6 hq dt cD:Int)(aq:List Int):Option ((Int×Int×(List Int))⊕(Int×(List Int))) :=
 if (decide (cD<hq))=true then
  if 0≤cD∧cD<bf.length then
  bf[cD.toNat]? >>= fun a4 =>
  if 0≤(U (a0+cD))∧(U (a0+cD))<(aq.length:Nat) then
  aq[(0+(U (a0+cD)).toNat)]? >>= fun cC =>
  if (0+(U (a0+cD)).toNat)<aq.length then
  some (.inl (U ((U ((U (cC+(U (fp*a4))))+dt)).tdiv (1000000000:Int)),U (cD+(1:Int)),aq.set (0+(U (a0+cD)).toNat) ((U ((U (cC+(U (fp*a4))))+dt)).tmod (1000000000:Int))))
  else none
  else none
  else none
 else
  some (.inr (dt,aq))
def GN (bf:List Int)(a0 fp:Int)(dS:List Int)(d6 hq dt cD:Int)(aq:List Int):Option (Int×(List Int)):=iter (fun w:Int×Int×(List Int)=>xZ bf a0 fp dS d6 hq w.1 w.2.1 w.2.2) (dt,cD,aq)
def B4 (bf dS:List Int)(d6 eY:Int)(aq:List Int):Option ((Int×(List Int))⊕((List Int))) :=
 if (decide (eY<d6))=true then
  if 0≤eY∧eY<dS.length then
  dS[eY.toNat]? >>= fun a4 =>
  GN bf eY a4 dS d6 (len_ R bf) 0 0 aq >>= fun br =>
  if 0≤(U (eY+(len_ R bf)))∧(U (eY+(len_ R bf)))<(br.2.length:Nat) then
  if (0+(U (eY+(len_ R bf))).toNat)<br.2.length then
  some (.inl (U (eY+(1:Int)),br.2.set (0+(U (eY+(len_ R bf))).toNat) br.1))
  else none
  else none
  else none
 else
  some (.inr aq)
def CG (bf dS:List Int)(d6 eY:Int)(aq:List Int):Option ((List Int)):=iter (fun w:Int×(List Int)=>B4 bf dS d6 w.1 w.2) (eY,aq)
theorem oE {n:Nat}(h:n≤10000000):U ((n:Int)+1)=((n+1:Nat):Int):=by rw [cN (by omega) (by omega)];rfl
theorem um {n:Nat}(h:n≤10000000):U ((n:Int)-1)=(n:Int)-1:=cN (by omega) (by omega)
theorem JL {n:Nat}(h:n≤10000000):U (((n+1:Nat):Int)-1)=n:=by rw [cN (by omega) (by omega)];omega
theorem iQ (l:List Int):len_ R l=l.length:=hX _ l
theorem t7 {l:List Int}(aG:cv l)(a5:l.length≤5000000):nP l=some (L (V l)):=by
 have : ∃r,iter (fun w:List Int=>tp w) l=some r∧r=L (V l):=by
  refine lz (d9:=fun w=> ∃k:Nat,w=l.take k∧k≤l.length∧V (l.take k)=V l) (m:=fun w:List Int=>w.length) _ ?_ _ ⟨l.length,by simp,by omega,by simp⟩
  rintro _ ⟨k,rfl,aV,aX⟩
  have hlen:(l.take k).length=k:=by simp;omega
  cases k with
  | zero =>
   refine .inr ⟨[],by simp [tp,iQ],?_⟩
   rw [← aX]
   simp [V,qu]
  | succ k =>
   have aa:=List.getElem?_eq_getElem (show k<l.length by omega)
   have cO:(l.take (k+1))[k]? = some l[k]:=by rw [List.getElem?_take];simp [aa]
   unfold tp
   simp only [iQ,hlen]
   rw [JL (by omega),if_pos (by simp),if_pos (by omega),Int.toNat_natCast,cO]
   by_cases h:l[k]=0
   ·refine .inl ⟨l.take k,by simp [h,List.take_take,Nat.min_eq_left],⟨k,rfl,by omega,?_⟩,by simp;omega⟩
    have:=rH aa
    rw [h] at this
    simp at this
    omega
   ·refine .inr ⟨l.take (k+1),by simp [h],?_⟩
    rcases gf.IJ aG k (fun x o=>by rw [aa] at o;simp at o;omega) with o|o
    ·exact zu o aX
    ·omega
 obtain ⟨r,ah,rfl⟩:=this
 unfold nP CM
 rw [ah]
 rfl
theorem Pu {l:List Int}(aG:cv l)(a5:l.length≤5000000): ∃k,vx l=some k∧k≤l.length∧l.take k=L (V l):=by
 have : ∃r,iter (fun w:Nat=>tl l w) l.length=some r∧r≤l.length∧l.take r=L (V l):=by
  refine lz (d9:=fun k=>k≤l.length∧V (l.take k)=V l) (m:=fun w:Nat=>w) _ ?_ _ ⟨by omega,by simp⟩
  rintro k ⟨aV,aX⟩
  cases k with
  | zero =>
   refine .inr ⟨0,by simp [tl],by omega,?_⟩
   rw [← aX]
   simp [V,qu]
  | succ k =>
   have aa:=List.getElem?_eq_getElem (show k<l.length by omega)
   unfold tl
   rw [JL (by omega),if_pos (by simp),if_pos (by omega),Int.toNat_natCast,Nat.zero_add,aa]
   by_cases h:l[k]=0
   ·refine .inl ⟨k,by simp [h],⟨by omega,?_⟩,by omega⟩
    have:=rH aa
    rw [h] at this
    simp at this
    omega
   ·refine .inr ⟨k+1,by simp [h],aV,?_⟩
    rcases gf.IJ aG k (fun x o=>by rw [aa] at o;simp at o;omega) with o|o
    ·exact zu o aX
    ·omega
 obtain ⟨r,ah,o,J⟩:=this
 unfold vx CD
 rw [ah]
 exact ⟨r,rfl,o,J⟩
theorem DK {a b:List Int}(bx:gf a)(aP:gf b)(a5:a.length≤5000000):CX a b=some (m9 (V a) (V b)):=by
 unfold CX m9
 simp only [iQ]
 by_cases o:a.length=b.length
 ·rw [if_neg (by simp [o])]
  have : ∃r,iter (fun w:Int=>xY a b w) ((a.length:Int)-1)=some r∧(r.elim (fun _=>V a=V b) (fun c=>(c = -1∧V a<V b)∨(c=1∧V b<V a))):=by
   refine lz (d9:=fun w:Int=> ∃k:Nat,w=(k:Int)-1∧k≤a.length∧V (a.drop k)=V (b.drop k)) (m:=fun w:Int=>(w+1).toNat) _ ?_ _ ⟨a.length,rfl,by omega,by rw [List.drop_length,o,List.drop_length]⟩
   rintro _ ⟨k,rfl,aV,aX⟩
   cases k with
   | zero=>exact .inr ⟨.inl (),by simp [xY],by simpa using aX⟩
   | succ k =>
    have aa:=List.getElem?_eq_getElem (show k<a.length by omega)
    have aN:=List.getElem?_eq_getElem (show k<b.length by omega)
    have e:((k+1:Nat):Int)-1=k:=by omega
    unfold xY
    rw [e,um (by omega),if_pos (by simp),if_pos (by omega),Int.toNat_natCast,aa]
    simp only [Option.bind_eq_bind,Option.bind_some]
    rw [if_pos (by omega),aN]
    by_cases J:a[k]<b[k]
    ·exact .inr ⟨.inr (-1),by simp [J],.inl ⟨rfl,IK bx.1 aP.1 aa aN aX J⟩⟩
    ·by_cases ao:b[k]<a[k]
     ·exact .inr ⟨.inr 1,by simp [J,ao],.inr ⟨rfl,IK aP.1 bx.1 aN aa aX.symm ao⟩⟩
     ·refine .inl ⟨(k:Int)-1,by simp [J,ao],⟨k,rfl,by omega,?_⟩,by omega⟩
      rw [nR aa,nR aN,aX,show a[k]=b[k] by omega]
  obtain ⟨r,ah,J⟩:=this
  unfold GM
  rw [um (by omega),ah]
  cases r with
  | inl u =>
   simp at J
   simp [J]
  | inr c =>
   rcases J with ⟨rfl,J⟩|⟨rfl,J⟩
   ·simp [J]
   ·simp [J];omega
 ·rw [if_pos (by simp;omega)]
  by_cases J:a.length<b.length
  ·have:=Dv bx aP J
   simp [J,this]
  ·have:=Dv aP bx (by omega)
   rw [if_neg (by simp;omega),if_neg (by omega),if_pos this]
theorem Oa:oo=CX:=rfl
theorem Hu {a b:List Int}(bx:gf a)(aP:gf b)(a5:a.length≤5000000):oo a b=some (m9 (V a) (V b)):=DK bx aP a5
theorem wg {x y:Int}(aa:0≤x∧x<1000000000)(aN:0≤y∧y<1000000000):0≤x*y∧x*y≤999999998000000001:=by
 have o:=Int.mul_nonneg aa.1 aN.1
 have J:x*y≤999999999*999999999:=Int.mul_le_mul (by omega) (by omega) aN.1 (by omega)
 omega
theorem sD {a b:Int}(h:0≤a):a.tmod b=a % b:=Int.tmod_eq_emod_of_nonneg h
theorem qb {a b:Int}(h:0≤a):a.tdiv b=a / b:=Int.tdiv_eq_ediv_of_nonneg h
theorem IQ (k:Nat)(x:Int)(q:List Int):(List.replicate (k+1) 0++q).set k x=List.replicate k 0++x::q:=by
 induction k with
 | zero=>rfl
 | succ k ih =>
  show (0::(List.replicate (k+1) 0++q)).set (k+1) x=_
  rw [List.set_cons_succ,ih];rfl
theorem OY {a:List Int}{d rest:Int}{row:List Int}{k:Nat}{x:Int}(aa:a[k]? = some x)(lP:0≤x∧x<1000000000)(bq:0<d∧d<1000000000)(ah:0≤rest∧rest<d)(cE:row.length=a.length)(a5:a.length≤1000000):
 xV a d rest (k:Int) row=some (.inl ((rest*1000000000+x) % d,(k:Int)-1,row.set k ((rest*1000000000+x) / d))):=by
 have aV:=e2 aa
 unfold xV
 rw [if_pos (by simp),if_pos (by omega),Int.toNat_natCast,aa]
 simp only [Option.bind_eq_bind,Option.bind_some]
 rw [if_pos (by omega),if_pos (by omega),if_pos (by omega),um (by omega)]
 have o:U (U (rest*1000000000)+x)=rest*1000000000+x:=by rw [cN (x:=rest*1000000000) (by omega) (by omega)];exact cN (by omega) (by omega)
 have J:0≤rest*1000000000+x:=by omega
 have ao:(rest*1000000000+x) / d≤rest*1000000000+x:=Int.ediv_le_self _ J
 have aO:0≤(rest*1000000000+x) / d:=Int.ediv_nonneg J (by omega)
 rw [o,sD J,qb J,cN (by omega) (by omega),Nat.zero_add]
theorem OZ {a:List Int}{d:Int}(bx:cv a)(bq:0<d∧d<1000000000)(a5:a.length≤1000000):
 ∃r,GA a d 0 ((a.length:Int)-1) (List.replicate a.length 0)=some r∧r.1=V a % d∧cv r.2∧r.2.length=a.length∧V r.2=V a / d:=by
 refine lz (d9:=fun w:Int×Int×List Int=> ∃(k:Nat) (q:List Int),w.2.1=(k:Int)-1∧k≤a.length∧w.2.2=List.replicate k 0++q∧q.length+k=a.length∧cv q∧0≤w.1∧w.1<d∧V (a.drop k)=V q*d+w.1) (m:=fun w:Int×Int×List Int=>(w.2.1+1).toNat) _ ?_ _ ⟨a.length,[],rfl,by omega,by simp,by simp,cv.nil,by omega,by omega,by simp [V]⟩
 rintro ⟨rest,i,row⟩ ⟨k,q,o,aV,J,a1,xi,ln,ij,aX⟩
 simp only at o J ln ij aX ⊢
 subst o J
 cases k with
 | zero =>
  refine .inr ⟨(rest,q),by simp [xV],?_,xi,by simpa using a1,?_⟩
  ·simp at aX
   rw [aX,Int.add_comm,Int.add_mul_emod_self_right]
   exact (Int.emod_eq_of_lt ln ij).symm
  ·simp at aX
   rw [aX,Int.add_comm,Int.add_mul_ediv_right _ _ (by omega),Int.ediv_eq_zero_of_lt ln ij]
   simp
 | succ k =>
  have aa:=List.getElem?_eq_getElem (show k<a.length by omega)
  have lP:=bx.get aa
  rw [show ((k+1:Nat):Int)-1=k by omega,OY aa lP bq ⟨ln,ij⟩ (by simp;omega) a5]
  refine .inl ⟨_,rfl,⟨k,(rest*1000000000+a[k]) / d::q,rfl,by omega,IQ _ _ _,by simp;omega,cv.cons ⟨Int.ediv_nonneg (by omega) (by omega),?_⟩ xi,Int.emod_nonneg _ (by omega),Int.emod_lt_of_pos _ bq.1,?_⟩,by simp⟩
  ·refine Int.ediv_lt_of_lt_mul bq.1 ?_
   omega
  ·rw [nR aa,aX,lb]
   have:=Int.mul_ediv_add_emod (rest*1000000000+a[k]) d
   generalize (rest*1000000000+a[k]) / d=u at *
   generalize (rest*1000000000+a[k]) % d=t at *
   grind
theorem NJ:Ck=GA:=rfl
theorem GW {a:List Int}{d:Int}(bx:cv a)(bq:0<d∧d<1000000000)(a5:a.length≤1000000):tA a d=some (L (V a / d),V a % d):=by
 obtain ⟨r,ah,o,J,ao,aO⟩:=OZ bx bq a5
 unfold tA
 simp only [iQ]
 rw [if_pos (by omega),um (by omega),Int.toNat_natCast,NJ,ah]
 simp only [Option.bind_eq_bind,Option.bind_some]
 rw [t7 J (by omega),o,aO]
 rfl
theorem Pv {b:List Int}{i j:Nat}{x y z carry:Int}{row t26:List Int}{t27:Int}(aN:b[j]? = some y)(b6:row[i+j]? = some z)(aa:0≤x∧x<1000000000)(pY:0≤y∧y<1000000000)(oL:0≤z∧z<1000000000)(aL:0≤carry∧carry<1000000000)(a5:row.length≤2000000):
 xZ b i x t26 t27 b.length carry j row=some (.inl ((z+x*y+carry) / 1000000000,((j+1:Nat):Int),row.set (i+j) ((z+x*y+carry) % 1000000000))):=by
 have av:=e2 aN
 have nC:=e2 b6
 obtain ⟨gG,fA⟩:=wg aa pY
 unfold xZ
 have e:U ((i:Int)+(j:Int))=((i+j:Nat):Int):=by rw [cN (by omega) (by omega)];rfl
 rw [if_pos (by simp;omega),if_pos (by omega),Int.toNat_natCast,aN]
 simp only [Option.bind_eq_bind,Option.bind_some,e,Int.toNat_natCast,Nat.zero_add]
 rw [if_pos (by omega),b6]
 simp only [Option.bind_some]
 rw [if_pos (by omega),oE (by omega),cN (x:=x*y) (by omega) (by omega),cN (x:=z+x*y) (by omega) (by omega),cN (x:=z+x*y+carry) (by omega) (by omega),sD (by omega),qb (by omega),cN (by omega) (by omega)]
theorem Pw {b:List Int}{i:Nat}{x:Int}{row t26:List Int}{t27:Int}(aP:cv b)(cE:cv row)(aa:0≤x∧x<1000000000)(aG:i+b.length<row.length)(a5:row.length≤2000000):
 ∃r,GN b i x t26 t27 b.length 0 0 row=some r∧0≤r.1∧r.1<1000000000∧cv r.2∧r.2.length=row.length∧V r.2+r.1*B (i+b.length)=V row+x*B i*V b∧ ∀j,i+b.length≤j→r.2[j]? = row[j]? := by
 refine lz (d9:=fun w:Int×Int×List Int=> ∃(j:Nat),w.2.1=(j:Int)∧j≤b.length∧0≤w.1∧w.1<1000000000∧cv w.2.2∧w.2.2.length=row.length∧V w.2.2+w.1*B (i+j)=V row+x*B i*V (b.take j)∧ ∀j,i+b.length≤j→w.2.2[j]? = row[j]?) (m:=fun w:Int×Int×List Int=>b.length-w.2.1.toNat) _ ?_ _ ⟨0,rfl,by omega,by simp,by simp,cE,rfl,by simp [V],fun _ _=>rfl⟩
 rintro ⟨carry,UJ,f5⟩ ⟨j,o,av,kQ,kT,jN,hlen,aX,ju⟩
 simp only at o kQ kT jN hlen aX ju ⊢
 subst o
 by_cases TA:j=b.length
 ·subst TA
  refine .inr ⟨(carry,f5),by simp [xZ],kQ,kT,jN,hlen,by simpa using aX,ju⟩
 ·have aN:=List.getElem?_eq_getElem (show j<b.length by omega)
  have b6:=List.getElem?_eq_getElem (show i+j<f5.length by omega)
  have pY:=aP.get aN
  have oL:=jN.get b6
  obtain ⟨gG,fA⟩:=wg aa pY
  rw [Pv aN b6 aa pY oL ⟨kQ,kT⟩ (by omega)]
  refine .inl ⟨_,rfl,⟨j+1,rfl,by omega,by simp only;omega,by simp only;omega,jN.set (by omega),by simpa using hlen,?_,fun gl qK=> ?_⟩,by simp;omega⟩
  ·simp only
   rw [pd b6,rH aN,← Nat.add_assoc,m3]
   rw [ze] at aX ⊢
   have:=Int.mul_ediv_add_emod (f5[i+j]+x*b[j]+carry) 1000000000
   generalize (f5[i+j]+x*b[j]+carry) / 1000000000=u at *
   generalize (f5[i+j]+x*b[j]+carry) % 1000000000=t at *
   grind
  ·rw [← ju gl qK]
   exact List.getElem?_set_ne (by omega)
theorem HQ {a b:List Int}(bx:cv a)(aP:cv b)(a5:a.length≤1000000)(hm:b.length≤1000000):
 ∃r,CG b a a.length 0 (List.replicate (a.length+b.length) 0)=some r∧cv r∧r.length=a.length+b.length∧V r=V a*V b:=by
 refine lz (d9:=fun w:Int×List Int=> ∃(i:Nat),w.1=(i:Int)∧i≤a.length∧cv w.2∧w.2.length=a.length+b.length∧V w.2=V (a.take i)*V b∧ ∀j,i+b.length≤j→j<a.length+b.length→w.2[j]? = some 0) (m:=fun w:Int×List Int=>a.length-w.1.toNat) _ ?_ _ ⟨0,rfl,by omega,cv.EI _,by simp,by simp [V,DS],fun j _ h=>by simp [List.getElem?_replicate,h]⟩
 rintro ⟨ii,row⟩ ⟨i,o,af,jN,hlen,aX,h0⟩
 simp only at o jN hlen aX h0 ⊢
 subst o
 by_cases TB:i=a.length
 ·subst TB
  refine .inr ⟨row,by simp [B4],jN,hlen,by simpa using aX⟩
 ·have aa:=List.getElem?_eq_getElem (show i<a.length by omega)
  have lP:=bx.get aa
  obtain ⟨r,ah,kQ,kT,Sr,Jv,r4,ju⟩:=Pw (i:=i) (t26:=a) (t27:=a.length) aP jN lP (by omega) (by omega)
  have e:U ((i:Int)+(b.length:Int))=((i+b.length:Nat):Int):=by rw [cN (by omega) (by omega)];rfl
  have b6:r.2[i+b.length]? = some 0:=by rw [ju _ (Nat.le_refl _)];exact h0 _ (Nat.le_refl _) (by omega)
  refine .inl ⟨(((i+1:Nat):Int),r.2.set (i+b.length) r.1),?_,⟨i+1,rfl,by omega,Sr.set ⟨kQ,kT⟩,by simp;omega,?_,fun j Ww TC=> ?_⟩,by simp;omega⟩
  ·unfold B4
   rw [if_pos (by simp;omega),if_pos (by omega),Int.toNat_natCast,aa]
   simp only [Option.bind_eq_bind,Option.bind_some,iQ]
   rw [ah]
   simp only [Option.bind_some,e,Int.toNat_natCast,Nat.zero_add]
   rw [if_pos (by omega),if_pos (by omega),oE (n:=i) (by omega)]
  ·simp only
   rw [pd b6,rH aa]
   grind
  ·simp only
   rw [List.getElem?_set_ne (by omega),ju _ (by omega)]
   exact h0 _ (by omega) TC
theorem Ox:CJ=CG:=rfl
theorem NY:Cz=CG:=rfl
theorem Qp {a b:List Int}(bx:cv a)(aP:cv b)(a5:a.length≤1000000)(hm:b.length≤1000000):vG a b=some (L (V a*V b)):=by
 unfold vG
 simp only [iQ]
 by_cases o:a=[]
 ·subst o
  simp [V,qu]
 ·by_cases J:b=[]
  ·subst J
   simp [o,V,qu]
  ·obtain ⟨r,ah,ao,aO,aM⟩:=HQ bx aP a5 hm
   have e:U ((a.length:Int)+(b.length:Int))=((a.length+b.length:Nat):Int):=by rw [cN (by omega) (by omega)];rfl
   rw [if_neg (by simp [o]),if_neg (by simp [J]),e,if_pos (by omega),Int.toNat_natCast,Ox,ah]
   simp only [Option.bind_eq_bind,Option.bind_some]
   rw [t7 ao (by omega),aM]
   rfl
theorem Hv {a b:List Int}(bx:cv a)(aP:cv b)(o:a≠[])(J:b≠[])(a5:a.length≤1000000)(hm:b.length≤1000000):
 ∃k r,tF a b=some (k,r)∧k≤r.length∧r.length=a.length+b.length∧r.take k=L (V a*V b)∧cv r:=by
 obtain ⟨r,ah,ao,aO,aM⟩:=HQ bx aP a5 hm
 obtain ⟨k,aV,bW,bK⟩:=Pu ao (by omega)
 refine ⟨k,r,?_,bW,aO,by rw [bK,aM],ao⟩
 unfold tF
 simp only [iQ]
 have e:U ((a.length:Int)+(b.length:Int))=((a.length+b.length:Nat):Int):=by rw [cN (by omega) (by omega)];rfl
 rw [if_neg (by simp [o]),if_neg (by simp [J]),e,if_pos (by omega),Int.toNat_natCast,NY,ah]
 simp only [Option.bind_eq_bind,Option.bind_some]
 rw [aV]
 rfl
theorem wx {x:Int}(o:0≤x)(J:x<18446744073709551616):IntKind.wrap .u64 x=x:=by
 simp only [IntKind.wrap,IntKind.signed,IntKind.bits]
 have:((2:Int) ^ 64)=18446744073709551616:=by decide
 simp
 omega
theorem RZ {x:Int}(o:-9223372036854775808≤x)(J:x<9223372036854775808):IntKind.wrap .i64 x=x:=cN o J
theorem gf.snoc {l:List Int}{x:Int}(h:cv l)(aa:0<x∧x<1000000000):gf (l++[x]):=⟨h.append (cv.cons (by omega) cv.nil),fun y aN=>by
 rw [List.getLast?_append] at aN
 simp at aN
 omega⟩
theorem Px {N:Int}(fb:N<18446744073709551616){n:Int}{row:List Int}(h:0≤n∧cv row∧V row+B row.length*n=N∧(n=0→gf row)∧((row.length=0∧n<18446744073709551616)∨(row.length=1∧n<20000000000)∨(row.length=2∧n<20)∨(row.length=3∧n=0)))(a5:0<n):
 (fun (n:Int) (row:List Int)=>0≤n∧cv row∧V row+B row.length*n=N∧(n=0→gf row)∧((row.length=0∧n<18446744073709551616)∨(row.length=1∧n<20000000000)∨(row.length=2∧n<20)∨(row.length=3∧n=0))) (n / 1000000000) (row++[n % 1000000000]):=by
 obtain ⟨h0,o,J,ao,aO⟩:=h
 refine ⟨by omega,o.append (cv.cons (by omega) cv.nil),?_,fun aM=>gf.snoc o (by omega),?_⟩
 ·rw [yN,List.length_append,List.length_singleton,m3,lb,RW]
  have:=Int.mul_ediv_add_emod n 1000000000
  generalize n / 1000000000=u at *
  generalize n % 1000000000=t at *
  grind
 ·rw [List.length_append,List.length_singleton]
  omega
theorem C4 {n:Int}(h:0≤n)(a5:n<18446744073709551616):rr n=some (L n):=by
 have : ∃r,iter (fun w:Int×List Int=>tb w.1 w.2) (n,[])=some r∧r=L n:=by
  refine lz (d9:=fun w:Int×List Int=>w.1≤n∧0≤w.1∧cv w.2∧V w.2+B w.2.length*w.1=n∧(w.1=0→gf w.2)∧((w.2.length=0∧w.1<18446744073709551616)∨(w.2.length=1∧w.1<20000000000)∨(w.2.length=2∧w.1<20)∨(w.2.length=3∧w.1=0))) (m:=fun w:Int×List Int=>w.1.toNat) _ ?_ _ ⟨Int.le_refl _,h,cv.nil,by simp [V,B],fun _=>gf.nil,.inl ⟨rfl,by simp only;omega⟩⟩
  rintro ⟨m,row⟩ ⟨hm,cZ⟩
  simp only at hm cZ
  obtain ⟨h0,o,J,ao,aO⟩:=id cZ
  by_cases iS:0<m
  ·have:=Px (by omega) cZ iS
   refine .inl ⟨(m / 1000000000,row++[m % 1000000000]),?_,⟨by simp only;omega,this⟩,by simp only;omega⟩
   unfold tb
   rw [if_pos (by simp;omega),sD (by omega),qb (by omega),RZ (x:=m % 1000000000) (by omega) (by omega),if_pos (by simp;omega),wx (by omega) (by omega)]
  ·refine .inr ⟨row,by simp [tb,iS],?_⟩
   have pV:m=0:=by omega
   refine zu (ao pV) ?_
   rw [pV] at J
   simpa using J
 obtain ⟨r,ah,rfl⟩:=this
 unfold rr Cw
 rw [ah]
 rfl
def Wb (x:Int):Bool:=decide (0≤x) && decide (x<1000000000)
theorem O0 {a:List Int}(h:a≠[]): ∃x,a[a.length-1]? = some x∧(gf a↔cv a∧x≠0):=by
 have ae:=List.length_pos_iff.mpr h
 refine ⟨a[a.length-1],List.getElem?_eq_getElem (by omega),?_⟩
 have e:a.getLast? = some a[a.length-1]:=by rw [List.getLast?_eq_getElem?];exact List.getElem?_eq_getElem (by omega)
 constructor
 ·exact fun h=>⟨h.1,h.2 _ e⟩
 ·refine fun h=>⟨h.1,fun x aa=> ?_⟩
  rw [e] at aa
  rw [← Option.some.inj aa]
  exact h.2
theorem Qq {b:List Int}{i:Nat}{y:Int}(o:∀z,b[i]? = some z→y=z)(J:b[i]? = none→y=0):V (b.take (i+1))=V (b.take i)+B i*y:=by
 cases h:b[i]? with
 | some z=>rw [o z h,rH h]
 | none =>
  rw [J h]
  have:b.length≤i:=by simpa using h
  rw [List.take_of_length_le (by omega),List.take_of_length_le (by omega)]
  simp
theorem qk {l:List Int}(h:cv l){k:Nat}(aV:k≤l.length):B k*V (l.drop k)≤V l∧V l<B k*(V (l.drop k)+1):=by
 have o:=tZ aV
 have J:=o9 (h.take k)
 have ao:=pe (h.take k)
 rw [List.length_take,Nat.min_eq_left aV] at ao
 rw [Int.mul_add,Int.mul_one]
 omega
theorem Dm {l:List Int}{k:Nat}{x:Int}(aa:l[k]? = some x)(aG:l.length=k+1):V (l.drop k)=x:=by
 rw [nR aa,List.drop_of_length_le (by omega)]
 simp [V]
theorem Ob {aE W t d P:Int}(fP:1≤P)(zV:P*t≤aE)(E1:aE<P*(t+1))(qT:P*d≤W)(zW:W<P*(d+1))(bq:0<d)(b1:0≤t)(E2:aE<1000000000*W):t / (d+1)≤aE / W∧aE / W≤t / d∧aE / W≤999999999:=by
 have hW:0<W:=by
  have:=Int.mul_pos (a:=P) (b:=d) (by omega) bq
  omega
 have ch:0≤aE:=by
  have:=Int.mul_nonneg (a:=P) (b:=t) (by omega) b1
  omega
 refine ⟨?_,?_,?_⟩
 ·apply (Int.le_ediv_iff_mul_le hW).2
  have o:t / (d+1)*(d+1)≤t:=Int.ediv_mul_le _ (by omega)
  have J:0≤t / (d+1):=Int.ediv_nonneg b1 (by omega)
  have ao:t / (d+1)*W≤t / (d+1)*(P*(d+1)):=Int.mul_le_mul_of_nonneg_left (by omega) J
  have aO:P*(t / (d+1)*(d+1))≤P*t:=Int.mul_le_mul_of_nonneg_left o (by omega)
  have aM:t / (d+1)*(P*(d+1))=P*(t / (d+1)*(d+1)):=by grind
  omega
 ·apply (Int.le_ediv_iff_mul_le bq).2
  have o:aE / W*W≤aE:=Int.ediv_mul_le _ (by omega)
  have J:0≤aE / W:=Int.ediv_nonneg ch (by omega)
  have ao:aE / W*(P*d)≤aE / W*W:=Int.mul_le_mul_of_nonneg_left qT J
  have aO:aE / W*(P*d)=P*(aE / W*d):=by grind
  have aM:P*(aE / W*d)<P*(t+1):=by omega
  have:=Int.lt_of_mul_lt_mul_left aM (by omega)
  omega
 ·have:=Int.ediv_lt_of_lt_mul hW E2
  omega
theorem yX {a b:Int}:m9 a b<0↔a<b:=by
 unfold m9
 by_cases h:a<b
 ·simp [h]
 ·by_cases J:b<a
  ·simp [h,J]
  ·simp [h,J]
theorem Jm {b:List Int}(aP:gf b)(oQ:b≠[]): ∃k d,b.length=k+1∧b[k]? = some d∧0<d∧d<1000000000∧V (b.drop k)=d:=by
 have ae:=List.length_pos_iff.mpr oQ
 obtain ⟨x,aa,h⟩:=O0 oQ
 have o:=h.1 aP
 have J:=o.1.get aa
 exact ⟨b.length-1,x,by omega,aa,by omega,J.2,Dm aa (by omega)⟩
def mM (p:Nat)(l:List Int):Prop:= ∀i z,i≠p→l[i]? = some z→0≤z∧z<1000000000
theorem mM.set {p:Nat}{l:List Int}(h:mM p l){k:Nat}{x:Int}(aa:0≤x∧x<1000000000):mM p (l.set k x):=fun i z af b6=>by
 by_cases aV:k=i
 ·subst aV
  rw [List.getElem?_set] at b6
  simp only [if_true] at b6
  split at b6
  ·rw [← Option.some.inj b6];exact aa
  ·simp at b6
 ·rw [List.getElem?_set_ne aV] at b6
  exact h i z af b6
theorem mM.J3 {p:Nat}{l:List Int}(h:mM p l){x:Int}:mM p (l.set p x):=fun i z af b6=>by
 rw [List.getElem?_set_ne (fun h=>af h.symm)] at b6
 exact h i z af b6
theorem cv.toE {l:List Int}(h:cv l)(p:Nat):mM p l:=fun _ _ _ b6=>h.get b6
theorem Py {v row:List Int}{bw kM i:Nat}{hh carry x y:Int}(aa:v[i]? = some x)(aN:row[bw+i]? = some y)(lP:0≤x∧x<1000000000)(pY:0≤y∧y<1000000000)(aP:0≤hh∧hh<1000000000)(aL:0≤carry∧carry<1000000000)(hu:i<kM)(a5:row.length≤5000000):
 ∃c z,rh bw kM v hh v.length carry i row=some (.inl (c,((i+1:Nat):Int),row.set (bw+i) z))∧0≤c∧c<1000000000∧0≤z∧z<1000000000∧z-1000000000*c=y-hh*x-carry:=by
 have af:=e2 aa
 have av:=e2 aN
 obtain ⟨gG,fA⟩:=wg aP lP
 have e:U (U (y-U (hh*x))-carry)=y-hh*x-carry:=by
  rw [cN (x:=hh*x) (by omega) (by omega),cN (x:=y-hh*x) (by omega) (by omega),cN (by omega) (by omega)]
 by_cases b1:y-hh*x-carry<0
 ·refine ⟨(999999999-(y-hh*x-carry)) / 1000000000,y-hh*x-carry+(999999999-(y-hh*x-carry)) / 1000000000*1000000000,?_,by omega,by omega,by omega,by omega,by omega⟩
  unfold rh
  rw [if_pos (by simp;omega),if_pos (by omega),Int.toNat_natCast,aa]
  simp only [Option.bind_eq_bind,Option.bind_some]
  rw [if_pos (by omega),aN]
  simp only [Option.bind_some,e]
  rw [if_pos (by simpa using b1),if_pos (by omega),oE (n:=i) (by omega),cN (x:=999999999-(y-hh*x-carry)) (by omega) (by omega),qb (by omega),cN (x:=(999999999-(y-hh*x-carry)) / 1000000000) (by omega) (by omega),cN (x:=(999999999-(y-hh*x-carry)) / 1000000000*1000000000) (by omega) (by omega),cN (by omega) (by omega)]
 ·refine ⟨0,y-hh*x-carry,?_,by omega,by omega,by omega,by omega,by omega⟩
  unfold rh
  rw [if_pos (by simp;omega),if_pos (by omega),Int.toNat_natCast,aa]
  simp only [Option.bind_eq_bind,Option.bind_some]
  rw [if_pos (by omega),aN]
  simp only [Option.bind_some,e]
  rw [if_neg (by simpa using b1),if_pos (by omega),oE (n:=i) (by omega)]
theorem Pz {v row:List Int}{bw kM:Nat}{hh:Int}(aX:cv v)(ah:cv row)(aP:0≤hh∧hh<1000000000)(hu:v.length<kM)(aG:bw+v.length<row.length)(a5:row.length≤5000000):
 ∃r,CE bw kM v hh v.length 0 0 row=some r∧0≤r.1∧r.1<1000000000∧cv r.2∧r.2.length=row.length∧V r.2=V row-hh*B bw*V v+r.1*B (bw+v.length)∧ ∀i,i<bw∨bw+v.length≤i→r.2[i]? = row[i]? := by
 refine lz (d9:=fun w:Int×Int×List Int=> ∃(i:Nat),w.2.1=(i:Int)∧i≤v.length∧0≤w.1∧w.1<1000000000∧cv w.2.2∧w.2.2.length=row.length∧V w.2.2=V row-hh*B bw*V (v.take i)+w.1*B (bw+i)∧ ∀i,i<bw∨bw+v.length≤i→w.2.2[i]? = row[i]?) (m:=fun w:Int×Int×List Int=>v.length-w.2.1.toNat) _ ?_ _ ⟨0,rfl,by omega,by simp,by simp,ah,rfl,by simp [V],fun _ _=>rfl⟩
 rintro ⟨carry,ii,f5⟩ ⟨i,o,af,kQ,kT,jN,hlen,hV,ju⟩
 simp only at o kQ kT jN hlen hV ju ⊢
 subst o
 by_cases E3:i=v.length
 ·subst E3
  exact .inr ⟨(carry,f5),by simp [rh],kQ,kT,jN,hlen,by simpa using hV,ju⟩
 ·have aa:=List.getElem?_eq_getElem (show i<v.length by omega)
  have aN:=List.getElem?_eq_getElem (show bw+i<f5.length by omega)
  obtain ⟨c,z,he,c6,bH,mn,mY,b6⟩:=Py (kM:=kM) aa aN (aX.get aa) (jN.get aN) aP ⟨kQ,kT⟩ (by omega) (by omega)
  rw [he]
  refine .inl ⟨_,rfl,⟨i+1,rfl,by omega,c6,bH,jN.set ⟨mn,mY⟩,by simpa using hlen,?_,fun k aV=> ?_⟩,by simp;omega⟩
  ·simp only
   rw [pd aN,rH aa,hV,← Nat.add_assoc,m3,ze]
   have sd:z=f5[bw+i]-hh*v[i]-carry+1000000000*c:=by omega
   rw [sd]
   grind
  ·simp only
   rw [List.getElem?_set_ne (by omega)]
   exact ju k aV
theorem Rr {v row:List Int}{bw kM:Nat}{hh:Int}(aX:cv v)(ah:cv row)(aP:0≤hh∧hh<1000000000)(hu:v.length<kM)(aG:bw+v.length<row.length)(a5:row.length≤5000000):
 ∃y c3,vy v hh bw kM row=some (decide (y<0),c3)∧c3.length=row.length∧mM (bw+v.length) c3∧c3[bw+v.length]? = some y∧ -1000000000<y∧y<1000000000∧V c3=V row-hh*B bw*V v∧ ∀i,i<bw∨bw+v.length<i→c3[i]? = row[i]? := by
 obtain ⟨r,ij,c6,bH,jN,hlen,hV,ju⟩:=Pz aX ah aP hu aG a5
 have aa:=List.getElem?_eq_getElem (show bw+v.length<r.2.length by omega)
 have lP:=jN.get aa
 refine ⟨r.2[bw+v.length]-r.1,r.2.set (bw+v.length) (r.2[bw+v.length]-r.1),?_,by simpa using hlen,(cv.toE jN _).J3,?_,by omega,by omega,?_,fun i af=> ?_⟩
 ·unfold vy
  simp only [iQ]
  rw [ij]
  simp only [Option.bind_eq_bind,Option.bind_some,Int.toNat_natCast]
  rw [if_pos (by omega),aa]
  simp only [Option.bind_some]
  rw [if_pos (by omega),cN (by omega) (by omega),List.getElem?_set,if_pos rfl,if_pos (by omega)]
  rfl
 ·rw [List.getElem?_set,if_pos rfl,if_pos (by omega)]
 ·rw [pd aa,hV]
  grind
 ·rw [List.getElem?_set_ne (by omega)]
  exact ju i (by omega)
theorem PA {v row:List Int}{bw kM:Nat}(aX:cv v)(ah:mM (bw+v.length) row)(hu:v.length<kM)(aG:bw+v.length<row.length)(a5:row.length≤5000000):
 ∃r,CF bw kM v v.length 0 0 row=some r∧0≤r.1∧r.1≤1∧mM (bw+v.length) r.2∧r.2.length=row.length∧V r.2=V row+B bw*V v-r.1*B (bw+v.length)∧ ∀i,i<bw∨bw+v.length≤i→r.2[i]? = row[i]? := by
 refine lz (d9:=fun w:Int×Int×List Int=> ∃(i:Nat),w.2.1=(i:Int)∧i≤v.length∧0≤w.1∧w.1≤1∧mM (bw+v.length) w.2.2∧w.2.2.length=row.length∧V w.2.2=V row+B bw*V (v.take i)-w.1*B (bw+i)∧ ∀i,i<bw∨bw+v.length≤i→w.2.2[i]? = row[i]?) (m:=fun w:Int×Int×List Int=>v.length-w.2.1.toNat) _ ?_ _ ⟨0,rfl,by omega,by simp,by simp,ah,rfl,by simp [V],fun _ _=>rfl⟩
 rintro ⟨carry,ii,f5⟩ ⟨i,o,af,kQ,kT,jN,hlen,hV,ju⟩
 simp only at o kQ kT jN hlen hV ju ⊢
 subst o
 by_cases E3:i=v.length
 ·subst E3
  exact .inr ⟨(carry,f5),by simp [tm],kQ,kT,jN,hlen,by simpa using hV,ju⟩
 ·have aa:=List.getElem?_eq_getElem (show i<v.length by omega)
  have aN:=List.getElem?_eq_getElem (show bw+i<f5.length by omega)
  have lP:=aX.get aa
  have pY:=jN _ _ (by omega) aN
  have he:tm bw kM v v.length carry i f5=some (.inl ((f5[bw+i]+v[i]+carry) / 1000000000,((i+1:Nat):Int),f5.set (bw+i) ((f5[bw+i]+v[i]+carry) % 1000000000))):=by
   unfold tm
   rw [if_pos (by simp;omega),if_pos (by omega),Int.toNat_natCast,aa]
   simp only [Option.bind_eq_bind,Option.bind_some]
   rw [if_pos (by omega),aN]
   simp only [Option.bind_some]
   rw [if_pos (by omega),cN (x:=f5[bw+i]+v[i]) (by omega) (by omega),cN (x:=f5[bw+i]+v[i]+carry) (by omega) (by omega),sD (by omega),qb (by omega),cN (by omega) (by omega),oE (n:=i) (by omega)]
  rw [he]
  refine .inl ⟨_,rfl,⟨i+1,rfl,by omega,by simp only;omega,by simp only;omega,jN.set (by omega),by simpa using hlen,?_,fun k aV=> ?_⟩,by simp;omega⟩
  ·simp only
   rw [pd aN,rH aa,hV,← Nat.add_assoc,m3,ze]
   have:=Int.mul_ediv_add_emod (f5[bw+i]+v[i]+carry) 1000000000
   generalize (f5[bw+i]+v[i]+carry) / 1000000000=q at *
   generalize (f5[bw+i]+v[i]+carry) % 1000000000=t at *
   have sd:t=f5[bw+i]+v[i]+carry-1000000000*q:=by omega
   rw [sd]
   grind
  ·simp only
   rw [List.getElem?_set_ne (by omega)]
   exact ju k aV
theorem Rs {v row:List Int}{bw kM:Nat}{y:Int}(aX:cv v)(ah:mM (bw+v.length) row)(hu:v.length<kM)(aG:bw+v.length<row.length)(a5:row.length≤5000000)(aN:row[bw+v.length]? = some y)(pY:-1000000000<y)(KJ:y<1000000000):
 ∃j4 c3,tG v bw kM row=some c3∧c3.length=row.length∧mM (bw+v.length) c3∧c3[bw+v.length]? = some j4∧V c3=V row+B bw*V v∧ ∀i,i<bw∨bw+v.length<i→c3[i]? = row[i]? := by
 obtain ⟨r,ij,c6,bH,jN,hlen,hV,ju⟩:=PA aX ah hu aG a5
 have aa:r.2[bw+v.length]? = some y:=by rw [ju _ (by omega)];exact aN
 refine ⟨y+r.1,r.2.set (bw+v.length) (y+r.1),?_,by simpa using hlen,jN.J3,?_,?_,fun i af=> ?_⟩
 ·unfold tG
  simp only [iQ]
  rw [ij]
  simp only [Option.bind_eq_bind,Option.bind_some,Int.toNat_natCast]
  rw [if_pos (by omega),aa]
  simp only [Option.bind_some]
  rw [if_pos (by omega),cN (by omega) (by omega)]
 ·rw [List.getElem?_set,if_pos rfl,if_pos (by omega)]
 ·rw [pd aa,hV]
  grind
 ·rw [List.getElem?_set_ne (by omega)]
  exact ju i (by omega)
theorem Qr {g q v1 v2 top fl rest aE W P:Int}(fP:1≤P)(dd:0≤g)(b1:g*v1+rest=top)(qT:P*(v1*1000000000+v2)≤W)(E1:aE<P*(top*1000000000+fl+1))(KK:q*W≤aE)(hW:0≤W)(h:rest*1000000000+fl<g*v2):q<g:=by
 apply Int.not_le.mp
 intro qU
 have o:g*W≤q*W:=Int.mul_le_mul_of_nonneg_right qU hW
 have J:g*(P*(v1*1000000000+v2))≤g*W:=Int.mul_le_mul_of_nonneg_left qT dd
 have ao:g*(P*(v1*1000000000+v2))=P*(g*(v1*1000000000+v2)):=by grind
 have aO:P*(g*(v1*1000000000+v2))<P*(top*1000000000+fl+1):=by omega
 have aM:=Int.lt_of_mul_lt_mul_left aO (by omega)
 have bW:g*(v1*1000000000+v2)=1000000000*(g*v1)+g*v2:=by grind
 omega
theorem HR {g v1 v2 top fl rest aE W P:Int}(fP:1≤P)(dd:0≤g)(qV:g≤999999999)(pZ:1≤v1)(xj:0≤v2)(b1:g*v1+rest=top)(qT:P*(v1*1000000000+v2)≤W)(zW:W<P*(v1*1000000000+v2+1))(zV:P*(top*1000000000+fl)≤aE)(h:g*v2≤rest*1000000000+fl):g≤aE / W+1:=by
 have xk:P*1000000000≤W:=by
  have o:P*1000000000≤P*(v1*1000000000+v2):=Int.mul_le_mul_of_nonneg_left (by omega) (by omega)
  omega
 have o:g*W≤g*(P*(v1*1000000000+v2+1)):=Int.mul_le_mul_of_nonneg_left (by omega) dd
 have J:g*(P*(v1*1000000000+v2+1))=P*(1000000000*(g*v1)+g*v2+g):=by grind
 have ao:P*(1000000000*(g*v1)+g*v2+g)≤P*(top*1000000000+fl+999999999):=Int.mul_le_mul_of_nonneg_left (by omega) (by omega)
 have aO:P*(top*1000000000+fl+999999999)=P*(top*1000000000+fl)+P*999999999:=by grind
 have aM:(g-1)*W=g*W-W:=by grind
 have:g-1≤aE / W:=(Int.le_ediv_iff_mul_le (by omega)).2 (by omega)
 omega
theorem O1 {aq u gQ an:List Int}{N n j:Nat}{v1 v2 fl top aE W P:Int}(a5:2≤n)(Em:n≤5000000)(xl:j+n<N)(fb:N≤5000000)(o:gQ[n-1]? = some v1)(J:gQ[n-2]? = some v2)(ao:u[j+n-2]? = some fl)
 (pZ:1≤v1∧v1<1000000000) (xj:0≤v2∧v2<1000000000) (Wx:0≤fl∧fl<1000000000) (fP:1≤P) (qT:P*(v1*1000000000+v2)≤W) (zW:W<P*(v1*1000000000+v2+1)) (zV:P*(top*1000000000+fl)≤aE) (E1:aE<P*(top*1000000000+fl+1)) (ch:0≤aE) (E2:aE<1000000000*W) (zX:0≤top) (Wy:top≤v1*1000000000+999999999) (a1:aE / W≤top / v1) :
 ∃g,CN N n n j aq u gQ an (top / v1) (top % v1)=some g∧(aE / W=g∨aE / W+1=g)∧0≤g∧g≤999999999:=by
 have xk:0<W:=by
  have o:P*1000000000≤P*(v1*1000000000+v2):=Int.mul_le_mul_of_nonneg_left (by omega) (by omega)
  omega
 have r2:0≤aE / W:=Int.ediv_nonneg ch (by omega)
 have r3:aE / W<1000000000:=Int.ediv_lt_of_lt_mul xk E2
 have KK:aE / W*W≤aE:=Int.ediv_mul_le _ (by omega)
 have TE:=Int.mul_ediv_add_emod top v1
 have pV:=Int.emod_nonneg top (b:=v1) (by omega)
 have uR:=Int.emod_lt_of_pos top (b:=v1) (by omega)
 have D8:U ((n:Int)-1)=((n-1:Nat):Int):=by rw [cN (by omega) (by omega)];omega
 have Ss:U ((n:Int)-2)=((n-2:Nat):Int):=by rw [cN (by omega) (by omega)];omega
 have St:U (U ((j:Int)+(n:Int))-2)=((j+n-2:Nat):Int):=by rw [cN (x:=(j:Int)+n) (by omega) (by omega),cN (by omega) (by omega)];omega
 have zv:top / v1≤top:=Int.ediv_le_self _ zX
 refine lz (d9:=fun w:Int×Int=>w.1*v1+w.2=top∧0≤w.2∧w.2<1000000000∧aE / W≤w.1∧w.1≤top) (m:=fun w:Int×Int=>w.1.toNat) _ ?_ _ ⟨by rw [Int.mul_comm];exact TE,pV,by simp only;omega,a1,zv⟩
 rintro ⟨g,rest⟩ ⟨mq,kZ,xB,p5,xC⟩
 simp only at mq kZ xB p5 xC ⊢
 have E4:U (rest+v1)=rest+v1:=cN (by omega) (by omega)
 have E5:U (g-1)=g-1:=cN (by omega) (by omega)
 have qV:(g-1)*v1+(rest+v1)=top:=by grind
 have Jn:aE / W≤g-1→1000000000≤rest+v1→(aE / W=g-1∨aE / W+1=g-1)∧0≤g-1∧g-1≤999999999:=by
  intro j5 jz
  have mX:(g-1)*v1<1000000000*v1:=by omega
  have FH:g-1<1000000000:=Int.lt_of_mul_lt_mul_right mX (by omega)
  have Ll:0≤g-1:=by omega
  have W8:=(wg ⟨Ll,FH⟩ xj).2
  have:=HR fP Ll (by omega) pZ.1 xj.1 qV qT zW zV (by omega)
  omega
 by_cases D9:1000000000≤g
 ·by_cases aP:1000000000≤rest+v1
  ·refine .inr ⟨g-1,?_,Jn (by omega) aP⟩
   unfold rj
   rw [if_pos (by simpa using D9),D8,if_pos (by omega),Nat.zero_add,Int.toNat_natCast,o]
   simp only [Option.bind_eq_bind,Option.bind_some,E4,E5]
   rw [if_pos (by simpa using aP)]
  ·refine .inl ⟨(g-1,rest+v1),?_,⟨qV,by simp only;omega,by simp only;omega,by simp only;omega,by simp only;omega⟩,by simp only;omega⟩
   unfold rj
   rw [if_pos (by simpa using D9),D8,if_pos (by omega),Nat.zero_add,Int.toNat_natCast,o]
   simp only [Option.bind_eq_bind,Option.bind_some,E4,E5]
   rw [if_neg (by simpa using aP)]
 ·have hv:0≤g:=by omega
  obtain ⟨gG,fA⟩:=wg ⟨hv,by omega⟩ xj
  have ar:U (U (rest*1000000000)+fl)=rest*1000000000+fl:=by rw [cN (x:=rest*1000000000) (by omega) (by omega),cN (by omega) (by omega)]
  have ay:U (g*v2)=g*v2:=cN (by omega) (by omega)
  have R0:rj N n n j aq u gQ an g rest=some (if rest*1000000000+fl<g*v2 then (if 1000000000≤rest+v1 then .inr (g-1) else .inl (g-1,rest+v1)) else .inr g):=by
   unfold rj
   rw [if_neg (by simpa using D9),Ss,if_pos (by omega),Nat.zero_add,Int.toNat_natCast,J]
   simp only [Option.bind_eq_bind,Option.bind_some]
   rw [St,if_pos (by omega),Nat.zero_add,Int.toNat_natCast,ao]
   simp only [Option.bind_some,ar,ay]
   by_cases aL:rest*1000000000+fl<g*v2
   ·rw [if_pos (by simpa using aL),if_pos aL,D8,if_pos (by omega),Nat.zero_add,Int.toNat_natCast,o]
    simp only [Option.bind_some,E4,E5]
    by_cases aP:1000000000≤rest+v1
    ·rw [if_pos (by simpa using aP),if_pos aP]
    ·rw [if_neg (by simpa using aP),if_neg aP]
   ·rw [if_neg (by simpa using aL),if_neg aL]
  rw [R0]
  by_cases aL:rest*1000000000+fl<g*v2
  ·have Wz:=Qr fP hv mq qT E1 KK (by omega) aL
   rw [if_pos aL]
   by_cases aP:1000000000≤rest+v1
   ·rw [if_pos aP]
    exact .inr ⟨g-1,rfl,Jn (by omega) aP⟩
   ·rw [if_neg aP]
    exact .inl ⟨(g-1,rest+v1),rfl,⟨qV,by simp only;omega,by simp only;omega,by simp only;omega,by simp only;omega⟩,by simp only;omega⟩
  ·rw [if_neg aL]
   have:=HR fP hv (by omega) pZ.1 xj.1 mq qT zW zV (by omega)
   exact .inr ⟨g,rfl,by omega,by omega,by omega⟩
theorem PB {a b:List Int}{k:Nat}(h:∀i,k≤i→a[i]? = b[i]?):a.drop k=b.drop k:=by
 apply List.ext_getElem?
 intro i
 rw [List.getElem?_drop,List.getElem?_drop]
 exact h _ (by omega)
theorem PC {a b:List Int}{k:Nat}(h:∀i,i<k→a[i]? = b[i]?):a.take k=b.take k:=by
 apply List.ext_getElem?
 intro i
 rw [List.getElem?_take,List.getElem?_take]
 by_cases af:i<k
 ·rw [if_pos af,if_pos af];exact h i af
 ·rw [if_neg af,if_neg af]
theorem KL {u w:List Int}{j n:Nat}{y c:Int}(hlen:w.length=u.length)(xl:j+n<u.length)(dz:mM (j+n) w)(aN:w[j+n]? = some y)(ju:∀i,i<j∨j+n<i→w[i]? = u[i]?)(h0:V (u.drop (j+n+1))=0)(hV:V w=V u-c*B j):
 V (w.drop j)=V (u.drop j)-c∧ ∃low,0≤low∧low<B n∧V (w.drop j)=low+B n*y:=by
 have o:=tZ (l:=u) (n:=j) (by omega)
 have J:=tZ (l:=w) (n:=j) (by omega)
 rw [PC (a:=w) (b:=u) (fun i af=>ju i (.inl af))] at J
 have ao:B j*V (w.drop j)=B j*(V (u.drop j)-c):=by grind
 have hk:=qB j
 have aO:V (w.drop j)=V (u.drop j)-c:=Int.eq_of_mul_eq_mul_left (by omega) ao
 refine ⟨aO,V ((w.drop j).take n),?_,?_,?_⟩
 ·refine o9 (fun x aa=> ?_)
  obtain ⟨i,af⟩:=List.mem_iff_getElem?.mp aa
  have kh:=e2 af
  simp at kh
  rw [List.getElem?_take,if_pos (by omega),List.getElem?_drop] at af
  exact dz _ _ (by omega) af
 ·have aG:cv ((w.drop j).take n):=fun x aa=>by
   obtain ⟨i,af⟩:=List.mem_iff_getElem?.mp aa
   have kh:=e2 af
   simp at kh
   rw [List.getElem?_take,if_pos (by omega),List.getElem?_drop] at af
   exact dz _ _ (by omega) af
  have:=pe aG
  rwa [List.length_take,Nat.min_eq_left (by simp;omega)] at this
 ·have aM:=tZ (l:=w.drop j) (n:=n) (by simp;omega)
  rw [List.drop_drop,nR aN,PB (a:=w) (b:=u) (k:=j+n+1) (fun i af=>ju i (.inr (by omega))),h0] at aM
  rw [aM]
  grind
theorem HS {w:List Int}{p:Nat}(dz:mM p w)(aN:w[p]? = some 0):cv w:=fun x aa=>by
 obtain ⟨i,af⟩:=List.mem_iff_getElem?.mp aa
 by_cases h:i=p
 ·subst h
  rw [aN] at af
  have:=Option.some.inj af
  omega
 ·exact dz i x h af
theorem Ig {low y X sE W:Int}(h0:0≤low)(o:low<sE)(Ag:X=low+sE*y)(J:0≤X)(ao:X<W)(aO:W≤sE):y=0:=by
 have c9:sE*y<sE*1:=by omega
 have aM:=Int.lt_of_mul_lt_mul_left c9 (by omega)
 have zK:sE*(-1)<sE*y:=by omega
 have bW:=Int.lt_of_mul_lt_mul_left zK (by omega)
 omega
theorem PD {aq u gQ an:List Int}{n j:Nat}{v1 W:Int}(a5:2≤n)(KM:n≤gQ.length)(aX:cv (gQ.take n))(hW:V (gQ.take n)=W)(pZ:gQ[n-1]? = some v1)(Ea:1≤v1)(hu:cv u)(st:u.length≤5000000)(xl:j+n<u.length)(c9:V (u.drop (j+1))<W)(WA:j<an.length):
 ∃nK,rk u.length n n aq gQ j u an=some (.inl ((j:Int)-1,nK,an.set j (V (u.drop j) / W)))∧cv nK∧nK.length=u.length∧V nK=V u-(V (u.drop j) / W)*B j*W∧V (nK.drop j)<W∧0≤V (u.drop j) / W∧V (u.drop j) / W<1000000000:=by
 obtain ⟨n,rfl⟩ : ∃m,n=m+2:=⟨n-2,by omega⟩
 have ny:(gQ.take (n+2)).length=n+2:=by simp;omega
 have qV:(gQ.take (n+2))[n+1]? = some v1:=by rw [List.getElem?_take,if_pos (by omega)];exact pZ
 have KN:=List.getElem?_eq_getElem (show n<gQ.length by omega)
 have J4:(gQ.take (n+2))[n]? = some gQ[n]:=by rw [List.getElem?_take,if_pos (by omega)];exact KN
 have Su:=aX.get qV
 have Sv:=aX.get J4
 have lP:=List.getElem?_eq_getElem (show j+(n+2)<u.length by omega)
 have E6:=List.getElem?_eq_getElem (show j+(n+1)<u.length by omega)
 have w7:=List.getElem?_eq_getElem (show j+n<u.length by omega)
 have KO:=List.getElem?_eq_getElem (show j<u.length by omega)
 have oQ:=hu.get lP
 have r8:=hu.get E6
 have uE:=hu.get w7
 have WB:=hu.get KO
 have xm:=qk aX (k:=n+1) (by omega)
 rw [Dm qV (by omega),hW] at xm
 have E7:=qk aX (k:=n) (by omega)
 rw [nR J4,Dm qV (by omega),hW] at E7
 have Eb:=pe aX
 rw [ny,hW] at Eb
 have WC:0≤W:=by rw [← hW];exact o9 aX
 have b6:=qk (hu.drop (j+1)) (k:=n+2) (by simp;omega)
 rw [List.drop_drop] at b6
 have TF:=o9 (hu.drop (j+1+(n+2)))
 have WD:=qB (n+2)
 have h0:V (u.drop (j+(n+2)+1))=0:=by
  rw [show j+(n+2)+1=j+1+(n+2) by omega]
  apply Int.le_antisymm _ TF
  apply Int.not_lt.mp
  intro h
  have:B (n+2)*1≤B (n+2)*V (u.drop (j+1+(n+2))):=Int.mul_le_mul_of_nonneg_left (by omega) (by omega)
  omega
 have zX:V (u.drop (j+(n+2)))=u[j+(n+2)]:=by rw [nR lP,h0];omega
 have zv:V (u.drop (j+(n+1)))=u[j+(n+1)]+1000000000*u[j+(n+2)]:=by rw [nR E6,show j+(n+1)+1=j+(n+2) by omega,zX]
 have iD:V (u.drop (j+n))=u[j+n]+1000000000*(u[j+(n+1)]+1000000000*u[j+(n+2)]):=by rw [nR w7,show j+n+1=j+(n+1) by omega,zv]
 have ij:=qk (hu.drop j) (k:=n+1) (by simp;omega)
 rw [List.drop_drop,zv] at ij
 have E8:=qk (hu.drop j) (k:=n) (by simp;omega)
 rw [List.drop_drop,iD] at E8
 have KP:=o9 (hu.drop j)
 have ch:V (u.drop j)<1000000000*W:=by rw [nR KO];omega
 have TG:=qB n
 have Sw:=qB (n+1)
 have sb:u[j+(n+2)]≤v1:=by
  have o:=qk (hu.drop (j+1)) (k:=n+1) (by simp;omega)
  rw [List.drop_drop,show j+1+(n+1)=j+(n+2) by omega,zX] at o
  have J:B (n+1)*u[j+(n+2)]<B (n+1)*(v1+1):=by omega
  have:=Int.lt_of_mul_lt_mul_left J (by omega)
  omega
 have Sx:=Ob Sw ij.1 ij.2 xm.1 xm.2 (by omega) (by omega) ch
 obtain ⟨g,dd,qU,TH,WE⟩:=O1 (aq:=aq) (an:=an) (N:=u.length) (n:=n+2) (j:=j) (v1:=v1) (v2:=gQ[n]) (fl:=u[j+n]) (top:=u[j+(n+1)]+1000000000*u[j+(n+2)]) (aE:=V (u.drop j)) (W:=W) (P:=B n) (u:=u) (gQ:=gQ) (by omega) (by omega) xl st pZ KN w7 ⟨Ea,Su.2⟩ Sv uE TG
  (by rw [Int.mul_comm v1,Int.add_comm];exact E7.1) (by rw [Int.mul_comm v1,Int.add_comm (1000000000*v1)];exact E7.2)
  (by rw [Int.mul_comm (u[j+(n+1)]+_),Int.add_comm];exact E8.1) (by rw [Int.mul_comm (u[j+(n+1)]+_),Int.add_comm (1000000000*_) u[j+n]];exact E8.2) KP ch (by omega) (by omega) Sx.2.1
 have xk:0<W:=by
  have:B (n+1)*1≤B (n+1)*v1:=Int.mul_le_mul_of_nonneg_left (by omega) (by omega)
  omega
 have r2:0≤V (u.drop j) / W:=Int.ediv_nonneg KP (by omega)
 have r3:V (u.drop j) / W<1000000000:=Int.ediv_lt_of_lt_mul xk ch
 have hm:=Int.mul_ediv_add_emod (V (u.drop j)) W
 have pV:=Int.emod_nonneg (V (u.drop j)) (b:=W) (by omega)
 have uR:=Int.emod_lt_of_pos (V (u.drop j)) xk
 obtain ⟨y,w,b1,KQ,zY,zZ,pY,KJ,z0,DL⟩:=Rr (v:=gQ.take (n+2)) (row:=u) (bw:=j) (kM:=u.length-j) (hh:=g) aX hu ⟨TH,by omega⟩ (by omega) (by omega) st
 rw [ny] at zY zZ DL
 rw [hW] at z0
 obtain ⟨z1,low,ll,z2,sc⟩:=KL (c:=g*W) KQ xl zY zZ DL h0 (by rw [z0];grind)
 have TI:U ((j:Int)-1)=(j:Int)-1:=um (by omega)
 have ar:U ((j:Int)+((n+2:Nat):Int))=((j+(n+2):Nat):Int):=by rw [cN (by omega) (by omega)];omega
 have ay:U (((j+(n+2):Nat):Int)-1)=((j+(n+1):Nat):Int):=by rw [cN (by omega) (by omega)];omega
 have bR:U (((n+2:Nat):Int)-1)=((n+1:Nat):Int):=by rw [cN (by omega) (by omega)];omega
 have dc:U (U (u[j+(n+2)]*1000000000)+u[j+(n+1)])=u[j+(n+1)]+1000000000*u[j+(n+2)]:=by
  rw [cN (x:=u[j+(n+2)]*1000000000) (by omega) (by omega),cN (by omega) (by omega)];omega
 have ed:0≤u[j+(n+1)]+1000000000*u[j+(n+2)]:=by omega
 have eW:(u[j+(n+1)]+1000000000*u[j+(n+2)]) / v1≤u[j+(n+1)]+1000000000*u[j+(n+2)]:=Int.ediv_le_self _ ed
 have fm:0≤(u[j+(n+1)]+1000000000*u[j+(n+2)]) / v1:=Int.ediv_nonneg ed (by omega)
 have Sy:gQ[n+1]? = some v1:=pZ
 have pre:rk u.length (n+2) ((n+2:Nat):Int) aq gQ j u an =
  (if (decide (y<0))=true then
    tG (gQ.take (n+2)) j (u.length-j) w >>= fun jM=>some (.inl ((j:Int)-1,jM,an.set j (U (g-1))))
  else some (.inl ((j:Int)-1,w,an.set j g))):=by
  unfold rk
  rw [if_pos (by simp)]
  simp only [ar,ay,bR,Int.toNat_natCast,Nat.zero_add,TI]
  rw [if_pos (by omega),lP]
  simp only [Option.bind_eq_bind,Option.bind_some]
  rw [if_pos (by omega),E6]
  simp only [Option.bind_some]
  rw [if_pos (by omega),Sy]
  simp only [Option.bind_some]
  rw [if_pos (by omega),dc,qb ed,sD ed,cN (by omega) (by omega),dd]
  simp only [Option.bind_some]
  rw [if_pos (by omega),if_pos (by omega),if_pos (by omega),List.drop_zero,b1]
  simp only [Option.bind_some]
  by_cases aN:y<0
  ·have bq:(decide (y<0))=true:=by simpa using aN
   simp only [if_pos bq]
   congr 1
   funext r
   rw [if_pos (by omega),if_pos (by omega)]
  ·have bq : ¬(decide (y<0))=true:=by simpa using aN
   simp only [if_neg bq]
   rw [if_pos (by omega),if_pos (by omega)]
 rcases qU with qU|qU
 ·subst qU
  have Ag:V (w.drop j)=V (u.drop j) % W:=by rw [z1];grind
  have aN:y=0:=Ig (W:=W) ll z2 sc (by rw [Ag];exact pV) (by rw [Ag];exact uR) (Int.le_of_lt Eb)
  subst aN
  refine ⟨w,?_,HS zY zZ,KQ,z0,by omega,r2,r3⟩
  rw [pre]
  rfl
 ·have Ag:V (w.drop j)=V (u.drop j) % W-W:=by rw [z1,← qU];grind
  have aN:y<0:=by
   apply Int.not_le.mp
   intro h
   have:0≤B (n+2)*y:=Int.mul_nonneg (by omega) h
   omega
  obtain ⟨j4,bm,lK,Wc,Ec,Ed,J5,IR⟩:=Rs (v:=gQ.take (n+2)) (row:=w) (bw:=j) (kM:=u.length-j) (y:=y) aX (by rw [ny];exact zY) (by omega) (by omega) (by omega) (by rw [ny];exact zZ) pY KJ
  rw [ny] at Ec Ed IR
  rw [hW] at J5
  have KR:V bm=V u-V (u.drop j) / W*B j*W:=by rw [J5,z0,← qU];grind
  obtain ⟨Sz,Wd,SA,SB,SC⟩:=KL (c:=V (u.drop j) / W*W) (by omega) xl Ec Ed (fun i af=>by rw [IR i af,DL i af]) h0 (by rw [KR];grind)
  have KS:V (bm.drop j)=V (u.drop j) % W:=by rw [Sz];grind
  have mP:j4=0:=Ig (W:=W) SA SB SC (by rw [KS];exact pV) (by rw [KS];exact uR) (Int.le_of_lt Eb)
  subst mP
  refine ⟨bm,?_,HS Ec Ed,by omega,KR,by omega,r2,r3⟩
  rw [pre,if_pos (by simpa using aN),lK]
  simp only [Option.bind_eq_bind,Option.bind_some]
  rw [cN (by omega) (by omega),show g-1=V (u.drop j) / W by omega]
theorem PE {aq gQ u:List Int}{n m:Nat}{v1 W:Int}(a5:2≤n)(KM:n≤gQ.length)(aX:cv (gQ.take n))(hW:V (gQ.take n)=W)(pZ:gQ[n-1]? = some v1)(Ea:1≤v1)(hu:cv u)(st:u.length≤5000000)(hm:m+n=u.length)(c9:V (u.drop m)<W):
 ∃r,CO u.length n n aq gQ ((m:Int)-1) u (List.replicate m 0)=some r∧cv r.1∧r.1.length=u.length∧V r.1<W∧cv r.2∧r.2.length=m∧V u=V r.2*W+V r.1:=by
 refine lz (d9:=fun w:Int×List Int×List Int=> ∃(k:Nat) (q:List Int),w.1=(k:Int)-1∧k≤m∧cv w.2.1∧w.2.1.length=u.length∧w.2.2=List.replicate k 0++q∧q.length+k=m∧cv q∧V (w.2.1.drop k)<W∧V u=V w.2.1+B k*V q*W) (m:=fun w:Int×List Int×List Int=>(w.1+1).toNat) _ ?_ _ ⟨m,[],rfl,by omega,hu,rfl,by simp,by simp,cv.nil,c9,by simp [V]⟩
 rintro ⟨UJ,nK,an⟩ ⟨k,q,o,aV,lh,hlen,ao,a1,xi,Ee,hV⟩
 simp only at o lh hlen ao Ee hV ⊢
 subst o ao
 cases k with
 | zero =>
  refine .inr ⟨(nK,q),by simp [rk],lh,hlen,by simpa using Ee,xi,by simpa using a1,?_⟩
  rw [hV]
  simp [B]
  omega
 | succ k =>
  obtain ⟨WG,he,s1,s2,sw,UK,UL,UM⟩:=PD (aq:=aq) (gQ:=gQ) (u:=nK) (an:=List.replicate (k+1) 0++q) (j:=k) a5 KM aX hW pZ Ea lh (by omega) (by omega) Ee (by simp;omega)
  rw [hlen] at he
  rw [show ((k+1:Nat):Int)-1=k by omega,he]
  refine .inl ⟨_,rfl,⟨k,V (nK.drop k) / W::q,rfl,by omega,s1,s2.trans hlen,IQ _ _ _,by simp;omega,cv.cons ⟨UL,UM⟩ xi,UK,?_⟩,by simp only;omega⟩
  simp only
  rw [hV,sw,lb,m3]
  grind
theorem Qs {a:List Int}(h:a.length≤900000):vX a=some a:=by
 unfold vX
 rw [if_pos (by omega)]
theorem O2 {a b q s:Int}(h:a=q*b+s)(h0:0≤s)(o:s<b):a / b=q∧a % b=s:=by
 subst h
 constructor
 ·rw [Int.add_comm,Int.add_mul_ediv_right _ _ (by omega),Int.ediv_eq_zero_of_lt h0 o]
  omega
 ·rw [Int.add_comm,Int.add_mul_emod_self_right]
  exact Int.emod_eq_of_lt h0 o
theorem QX {a b:List Int}(bx:gf a)(aP:gf b)(oQ:b≠[])(a5:a.length≤900000)(hm:b.length≤900000):tM a b=some (L (V a / V b),L (V a % V b)):=by
 have nG:=zf aP oQ
 have zC:=o9 bx.1
 unfold tM
 simp only [iQ]
 rw [Hu bx aP (by omega)]
 simp only [Option.bind_eq_bind,Option.bind_some]
 by_cases aL:V a<V b
 ·rw [if_pos (by simpa using yX.2 aL),Qs a5,Int.ediv_eq_zero_of_lt zC aL,Int.emod_eq_of_lt zC aL,qu,EJ bx]
  rfl
 ·rw [if_neg (fun h=>aL (yX.1 (by simpa using h)))]
  obtain ⟨k,d,aV,bq,zJ,TJ,KT⟩:=Jm aP oQ
  by_cases o:b.length=1
  ·have se:k=0:=by omega
   subst se
   have TK:V b=d:=by simpa using KT
   rw [if_pos (by simp [o]),if_pos (by omega),bq]
   simp only [Option.bind_some]
   have uR:=Int.emod_nonneg (V a) (b:=d) (by omega)
   have WH:=Int.emod_lt_of_pos (V a) zJ
   rw [GW bx.1 ⟨zJ,TJ⟩ (by omega)]
   simp only [Option.bind_some]
   rw [wx uR (by omega),C4 uR (by omega),TK]
   rfl
  ·have hw:U ((b.length:Int)-1)=(k:Int):=by rw [cN (by omega) (by omega)];omega
   have ar:U (d+1)=d+1:=cN (by omega) (by omega)
   have z3:1≤1000000000 / (d+1):=by
    apply (Int.le_ediv_iff_mul_le (by omega)).2
    omega
   have E9:1000000000 / (d+1)<1000000000:=by
    apply Int.ediv_lt_of_lt_mul (by omega)
    omega
   have TL:1000000000 / (d+1)*(d+1)≤1000000000:=Int.ediv_mul_le _ (by omega)
   have ay:U ((1000000000:Int).tdiv (d+1))=1000000000 / (d+1):=by rw [qb (by omega),cN (by omega) (by omega)]
   rw [if_neg (by simp;omega),hw,if_pos (by omega),Int.toNat_natCast,bq]
   simp only [Option.bind_some,ar,ay]
   generalize 1000000000 / (d+1)=f at *
   rw [if_pos (by omega)]
   have h1:cv [f]:=cv.cons (by omega) cv.nil
   have TM:V [f]=f:=by simp [V]
   have TN:a≠[]:=by
    intro h
    subst h
    simp [V] at aL
    omega
   obtain ⟨j6,sF,TO,WI,TP,z4,WJ⟩:=Hv bx.1 h1 TN (by simp) (by omega) (by simp)
   obtain ⟨xD,gQ,TQ,WK,TR,Fa,WL⟩:=Hv aP.1 h1 oQ (by simp) (by omega) (by simp)
   rw [TM] at z4 Fa
   rw [TO]
   simp only [Option.bind_some]
   simp only [List.length_singleton] at TP TR
   have WM:=qB k
   have TS:V b*f<B b.length:=by
    have J:=(qk aP.1 (k:=k) (by omega)).2
    rw [KT] at J
    have ao:V b*f≤(B k*(d+1)-1)*f:=Int.mul_le_mul_of_nonneg_right (by omega) (by omega)
    have aO:(B k*(d+1)-1)*f=B k*(f*(d+1))-f:=by grind
    have aM:B k*(f*(d+1))≤B k*1000000000:=Int.mul_le_mul_of_nonneg_left TL (by omega)
    rw [aV,m3]
    omega
   have WN:V b≤V b*f:=by
    have:V b*1≤V b*f:=Int.mul_le_mul_of_nonneg_left z3 (by omega)
    omega
   have WO:V a≤V a*f:=by
    have:V a*1≤V a*f:=Int.mul_le_mul_of_nonneg_left z3 (by omega)
    omega
   have Fb:0≤V b*f:=by omega
   have KU:0≤V a*f:=by omega
   have KV:xD=b.length:=by
    have J:(gQ.take xD).length=xD:=by simp;omega
    rw [Fa] at J
    have ao:=(qC Fb (k:=b.length)).2 TS
    have aO:=zt aP oQ
    have aM : ¬(L (V b*f)).length≤b.length-1:=fun h=>by
     have:=(qC Fb).1 h
     omega
    omega
   have TT:(L (V a*f)).length=j6:=by rw [← z4];simp;omega
   have J6:=pe (m5 (V a*f))
   rw [iA KU,TT] at J6
   have We:a.length≤j6:=bx.len.2 (by omega)
   have WQ:b.length≤a.length:=Nat.le_of_not_lt fun h=>by
    have:=Dv bx aP h
    omega
   rw [if_pos (by omega),if_pos (by simp;omega),TQ]
   simp only [Option.bind_some]
   have st:(sF.take j6++[0]).length=j6+1:=by simp;omega
   have Fc:yq a xD [f] gQ (sF.take j6++[0])=some (sF.take j6++[0]):=by
    unfold yq
    rw [iter]
    unfold x5
    simp only [iQ,st]
    rw [if_neg (by simp;omega)]
    rfl
   rw [Fc]
   simp only [Option.bind_some,st]
   have kR:U (((j6+1:Nat):Int)-((xD:Nat):Int))=((j6+1-b.length:Nat):Int):=by rw [cN (by omega) (by omega)];omega
   rw [kR,if_pos (by omega),um (by omega),Int.toNat_natCast]
   have JM:cv (sF.take j6++[0]):=by
    rw [z4]
    exact (m5 _).append (cv.cons (by omega) cv.nil)
   have KW:V (sF.take j6++[0])=V a*f:=by
    rw [yN,z4,iA KU]
    simp [V]
   have DM:gQ.take b.length=L (V b*f):=by rw [← KV];exact Fa
   have TU:V (gQ.take b.length)=V b*f:=by rw [DM,iA Fb]
   obtain ⟨cU,UN,kU,r1,Wf,Wg,Wh⟩:=Jm (nZ (V b*f)) (fun h=>by have:=wt.1 h;omega)
   rw [← DM] at kU r1
   have ny:(gQ.take b.length).length=b.length:=by simp;omega
   have xc:gQ[b.length-1]? = some UN:=by
    rw [List.getElem?_take] at r1
    rw [show b.length-1=cU by omega]
    split at r1
    ·exact r1
    ·simp at r1
   have SD:V ((sF.take j6++[0]).drop (j6+1-b.length))<V b*f:=by
    have J:=(qk JM (k:=j6+1-b.length) (by omega)).1
    rw [KW] at J
    have ao:=zt aP oQ
    have aO:B j6=B (j6+1-b.length)*B (b.length-1):=by rw [← ze];congr 1;omega
    rw [aO] at J6
    have aM:B (j6+1-b.length)*V ((sF.take j6++[0]).drop (j6+1-b.length))<B (j6+1-b.length)*B (b.length-1):=by omega
    have:=Int.lt_of_mul_lt_mul_left aM (by have:=qB (j6+1-b.length);omega)
    omega
   obtain ⟨r,ah,ax,bJ,bh,bl,br,cj⟩:=PE (aq:=[f]) (m:=j6+1-b.length) (by omega) (by omega) (by rw [DM];exact m5 _) TU xc (by omega) JM (by omega) (by omega) SD
   rw [st] at ah bJ
   rw [KV,ah]
   simp only [Option.bind_some]
   rw [if_pos (by omega),List.drop_zero,List.take_of_length_le (by omega),t7 ax (by omega)]
   simp only [Option.bind_some]
   have KX:=o9 ax
   rw [KW] at cj
   have bT:V r.1=(V a-V r.2*V b)*f:=by grind
   have TV:0≤V a-V r.2*V b:=by
    apply Int.not_lt.mp
    intro h
    have:(V a-V r.2*V b)*f≤(-1)*f:=Int.mul_le_mul_of_nonneg_right (by omega) (by omega)
    omega
   have z1:V a-V r.2*V b<V b:=by
    apply Int.lt_of_mul_lt_mul_right (a:=f) _ (by omega)
    omega
   obtain ⟨aZ,bg⟩:=O2 (a:=V a) (b:=V b) (q:=V r.2) (s:=V a-V r.2*V b) (by omega) TV z1
   rw [if_pos (by simp)]
   simp only [List.getElem?_cons_zero,Option.bind_some]
   have zS:(L (V r.1)).length≤j6+1:=(qC KX).2 (by have:=pe ax;rwa [bJ] at this)
   rw [GW (m5 _) ⟨by omega,E9⟩ (by omega),iA KX]
   simp only [Option.bind_some]
   rw [t7 bl (by omega)]
   simp only [Option.bind_some]
   rw [aZ,bg,bT,Int.mul_ediv_cancel _ (by omega)]
def iI (n:Int):ba:=⟨decide (n<0),L n.natAbs⟩
def eD (neg:Bool)(a:Int):Int:=if neg then -a else a
structure Fr (p:Int×Int):Prop where
 pos:0<p.2
 TW:Int.gcd p.1 p.2=1
 num:(p.1.natAbs:Int)<B 24
 den:p.2<B 24
theorem Qt {n:Int}:(iI n).db=L n.natAbs:=rfl
theorem Qu {n:Int}:(iI n).dj=decide (n<0):=rfl
theorem PF {n:Int}(h:0≤n):decide ((0:Int)<((L n).length:Nat))=decide (0<n):=by
 apply decide_eq_decide.2
 by_cases o:0<n
 ·have:(L n)≠[]:=fun J=>by have:=wt.1 J;omega
  have:=List.length_pos_iff.mpr this
  omega
 ·have:n=0:=by omega
  subst this
  simp [qu]
theorem SE {n:Int}(h:0≤n):(((L n).length:Nat):Int)=0↔n=0:=by
 constructor
 ·intro o
  have:L n=[]:=List.eq_nil_of_length_eq_zero (by omega)
  have:=wt.1 this
  omega
 ·rintro rfl
  simp [qu]
theorem Rt {neg:Bool}{a:Int}(h:0≤a):((eD neg a).natAbs:Int)=a:=by
 unfold eD
 cases neg<;>simp<;>omega
theorem QY {neg:Bool}{a:Int}(h:0≤a):(⟨neg && decide (0<a),L a⟩:ba)=iI (eD neg a):=by
 unfold iI
 rw [Rt h]
 congr 1
 unfold eD
 cases neg
 ·simp;omega
 ·simp
theorem pC {neg:Bool}{a:Int}(h:0≤a):k8 neg (L a)=some (iI (eD neg a)):=by
 unfold k8
 rw [← QY h,iQ,PF h]
 cases neg<;>simp
theorem Ru {a b:Int}:eD (!(decide (a<0) == decide (b<0))) ((a.natAbs:Int)*(b.natAbs:Int))=a*b:=by
 unfold eD
 by_cases bx:a<0
 ·have ar:(a.natAbs:Int) = -a:=by omega
  by_cases aP:b<0
  ·have ay:(b.natAbs:Int) = -b:=by omega
   rw [ar,ay]
   simp [bx,aP,Int.neg_mul,Int.mul_neg]
  ·have ay:(b.natAbs:Int)=b:=by omega
   rw [ar,ay]
   simp [bx,aP,Int.neg_mul,Int.mul_neg]
 ·have ar:(a.natAbs:Int)=a:=by omega
  by_cases aP:b<0
  ·have ay:(b.natAbs:Int) = -b:=by omega
   rw [ar,ay]
   simp [bx,aP,Int.neg_mul,Int.mul_neg]
  ·have ay:(b.natAbs:Int)=b:=by omega
   rw [ar,ay]
   simp [bx,aP,Int.neg_mul,Int.mul_neg]
theorem Qv {a c:Int}:m9 (-c) (-a)=m9 a c:=by
 unfold m9
 by_cases h:a<c
 ·have : -c < -a:=by omega
  simp [h,this]
 ·by_cases J:c<a
  ·have ao : ¬ -c < -a:=by omega
   have aO : -a < -c:=by omega
   simp [h,J,ao,aO]
  ·have ao : ¬ -c < -a:=by omega
   have aO : ¬ -a < -c:=by omega
   simp [h,J,ao,aO]
theorem Nm {a c:Int}(bx:(L a.natAbs).length≤5000000)(aL:(L c.natAbs).length≤5000000):pv (iI a) (iI c)=some (m9 a c):=by
 have bT:pv (iI a) (iI c)=if (decide (a<0) == decide (c<0))=true then (if decide (a<0)=true then (oo (L c.natAbs) (L a.natAbs)).bind (fun r=>some r) else (oo (L a.natAbs) (L c.natAbs)).bind (fun r=>some r)) else if decide (a<0)=true then some (-1) else some 1:=rfl
 rw [bT,Oa]
 by_cases o:a<0
 ·by_cases J:c<0
  ·rw [if_pos (by simp [o,J]),if_pos (by simpa using o),DK (nZ _) (nZ _) aL,iA (by omega),iA (by omega),show (c.natAbs:Int) = -c by omega,show (a.natAbs:Int) = -a by omega,Qv]
   rfl
  ·rw [if_neg (by simp [o,J]),if_pos (by simpa using o)]
   unfold m9
   rw [if_pos (by omega)]
 ·by_cases J:c<0
  ·rw [if_neg (by simp [o,J]),if_neg (by simpa using o)]
   unfold m9
   rw [if_neg (by omega),if_pos (by omega)]
  ·rw [if_pos (by simp [o,J]),if_neg (by simpa using o),DK (nZ _) (nZ _) bx,iA (by omega),iA (by omega),show (c.natAbs:Int)=c by omega,show (a.natAbs:Int)=a by omega]
   rfl
def fits (x:Int):Prop:=x<B 24
noncomputable instance (x:Int):Decidable (fits x):=Classical.propDecidable _
noncomputable def low (n d:Int):Option (Int×Int) :=
 if fits ((n / (Int.gcd n d:Int)).natAbs:Int)∧fits (d / (Int.gcd n d:Int)) then some (n / (Int.gcd n d:Int),d / (Int.gcd n d:Int)) else none
theorem PG {a b:Int}(bx:(L a.natAbs).length≤900000)(aP:(L b.natAbs).length≤900000):nl (iI a) (iI b)=some (iI (a*b)):=by
 unfold nl
 simp only [Qt,Qu]
 rw [Qp (m5 _) (m5 _) (by omega) (by omega),iA (by omega),iA (by omega)]
 simp only [Option.bind_eq_bind,Option.bind_some]
 rw [pC (Int.mul_nonneg (by omega) (by omega)),Ru]
 rfl
theorem O3 {n:Int}(h:uw n):mr n=some (iI n):=by
 obtain ⟨o,J⟩:=pE.1 h
 unfold mr
 by_cases a5:n<0
 ·rw [if_pos (by simpa using a5),cN (x:=n+1) (by omega) (by omega),cN (x:=0-(n+1)) (by omega) (by omega),wx (x:=0-(n+1)) (by omega) (by omega),wx (by omega) (by omega),C4 (by omega) (by omega)]
  simp only [Option.bind_eq_bind,Option.bind_some]
  rw [pC (by omega)]
  simp only [Option.bind_some]
  congr 2
  unfold eD
  simp
  omega
 ·rw [if_neg (by simpa using a5),wx (by omega) (by omega),C4 (by omega) (by omega)]
  simp only [Option.bind_eq_bind,Option.bind_some]
  rw [pC (by omega)]
  simp only [Option.bind_some]
  congr 2
theorem HT:maxLen=9223372036854775807:=by decide
def nS (eS:List a9)(m:bu):Bool :=
 decide (0≤m.e1∧m.e1<eS.length∧0≤m.fH∧m.fH<eS.length∧1≤m.l7∧m.l7≤3) &&
 match eS[m.e1.toNat]?,eS[m.fH.toNat]? with
 | some a,some b=> !(a.kF == b.kF && a.kG == b.kG) && !(a.l4 && b.l4)
 | _,_=>false
theorem Oy (s:cQ)(m:bu):vb s m=some (nS s.cc m):=by
 unfold vb nS
 simp only [hX]
 by_cases o:m.e1<0
 ·simp [o];omega
 by_cases J:(s.cc.length:Int)≤m.e1
 ·simp [o,J];omega
 by_cases ao:m.fH<0
 ·simp [o,J,ao];omega
 by_cases aO:(s.cc.length:Int)≤m.fH
 ·simp [o,J,ao,aO];omega
 by_cases aM:m.l7<1
 ·simp [o,J,ao,aO,aM];omega
 by_cases bW:3<m.l7
 ·simp [o,J,ao,aO,aM,bW];omega
 obtain ⟨x,aa⟩ : ∃x,s.cc[m.e1.toNat]? = some x:=⟨_,List.getElem?_eq_getElem (by omega)⟩
 obtain ⟨y,aN⟩ : ∃y,s.cc[m.fH.toNat]? = some y:=⟨_,List.getElem?_eq_getElem (by omega)⟩
 have bH:0≤m.e1∧m.e1<s.cc.length:=by omega
 have cq:0≤m.fH∧m.fH<s.cc.length:=by omega
 have mj:0≤m.e1∧m.e1<s.cc.length∧0≤m.fH∧m.fH<s.cc.length∧1≤m.l7∧m.l7≤3:=by omega
 rw [decide_eq_false o,decide_eq_false J,decide_eq_false ao,decide_eq_false aO,decide_eq_false aM,decide_eq_false bW,decide_eq_true mj,if_pos bH,aa]
 simp only [Bool.false_eq_true,if_false,Option.bind_eq_bind,Option.bind_some,Bool.true_and]
 rw [if_pos cq,aN]
 simp only [Option.bind_some]
 by_cases ar:x.kF=y.kF<;>by_cases ay:x.kG=y.kG<;>by_cases z3:x.l4=true<;>by_cases E9:y.l4=true<;>simp [ar,ay,z3,E9]
def ob (s:cQ):Prop:=(∀(n:Nat) j,s.cc[n]? = some j→ -50≤j.kF∧j.kF≤50∧ -50≤j.kG∧j.kG≤50)∧(∀(n:Nat) m,s.cK[n]? = some m→nS s.cc m=true)∧s.cc.length≤6∧s.cK.length≤8
theorem QZ (s:cQ)(h:ob s)(k:Int)(h0:0≤k)(o:k<s.cK.length):
 ∃x y,rf s k=some (x,y)∧(-100≤x∧x≤100)∧(-100≤y∧y≤100):=by
 obtain ⟨f1,f2,f3,f4⟩:=h
 obtain ⟨m,hm⟩ : ∃x,s.cK[k.toNat]? = some x:=⟨_,List.getElem?_eq_getElem (by omega)⟩
 have Fe:=f2 _ m hm
 unfold nS at Fe
 simp only [Bool.and_eq_true,decide_eq_true_eq] at Fe
 obtain ⟨⟨g1,g2,g3,g4,-⟩,-⟩:=Fe
 obtain ⟨a,bx⟩ : ∃x,s.cc[m.e1.toNat]? = some x:=⟨_,List.getElem?_eq_getElem (by omega)⟩
 obtain ⟨b,aP⟩ : ∃x,s.cc[m.fH.toNat]? = some x:=⟨_,List.getElem?_eq_getElem (by omega)⟩
 have W9:=f1 _ a bx
 have Xa:=f1 _ b aP
 have ar:U (b.kF-a.kF)=b.kF-a.kF:=cN (by omega) (by omega)
 have ay:U (b.kG-a.kG)=b.kG-a.kG:=cN (by omega) (by omega)
 have c6:0≤k∧k<s.cK.length:=⟨h0,o⟩
 have bH:0≤m.e1∧m.e1<s.cc.length:=⟨g1,g2⟩
 have cq:0≤m.fH∧m.fH<s.cc.length:=⟨g3,g4⟩
 refine ⟨b.kF-a.kF,b.kG-a.kG,?_,by omega,by omega⟩
 unfold rf
 simp only [if_pos c6,hm,if_pos bH,if_pos cq,bx,aP,Option.bind_eq_bind,Option.bind_some,ar,ay]
def q4 (l:List Int)(n:Nat)(x:Int):Prop:=0≤x∧x<1000000000∧(∀z,l[n]? = some z→x=z)∧(l[n]? = none→x=0)
theorem zi {l:List Int}(h:cv l){n:Nat}(a5:n<l.length):q4 l n l[n]:=by
 have aa:=List.getElem?_eq_getElem a5
 have h0:=h.get aa
 exact ⟨h0.1,h0.2,fun z b6=>by rw [aa] at b6;exact Option.some.inj b6,fun h=>by rw [aa] at h;simp at h⟩
theorem Jo {l:List Int}{n:Nat}(a5:¬n<l.length):q4 l n 0:=by
 have aa:l[n]? = none:=by simp;omega
 exact ⟨by omega,by omega,fun z b6=>by rw [aa] at b6;simp at b6,fun _=>rfl⟩
theorem q4.take {l:List Int}{n:Nat}{x:Int}(h:q4 l n x):V (l.take (n+1))=V (l.take n)+B n*x:=Qq h.2.2.1 h.2.2.2
theorem PH {a b row:List Int}{carry:Int}{n:Nat}(bx:cv a)(aP:cv b)(aL:carry=0∨carry=1)(pW:a.length≤1000000)(a5:n<a.length)(ah:n<row.length):
 ∃x y,q4 a n x∧q4 b n y∧tq a b a.length carry n row=some (.inl ((carry+x+y) / 1000000000,((n+1:Nat):Int),row.set n ((carry+x+y) % 1000000000))):=by
 have kQ:0≤carry∧carry≤1:=by omega
 have hA:=zi bx a5
 have aa:=List.getElem?_eq_getElem a5
 have hU:=hA.1
 have iK:=hA.2.1
 unfold tq
 simp only [iQ]
 rw [if_pos (by simp;omega),if_pos (by omega),Int.toNat_natCast,aa]
 simp only [Option.bind_eq_bind,Option.bind_some]
 by_cases J:n<b.length
 ·have hk:=zi aP J
  have aN:=List.getElem?_eq_getElem J
  have fB:=hk.1
  have gA:=hk.2.1
  refine ⟨a[n],b[n],hA,hk,?_⟩
  rw [if_pos (by simp;omega),if_pos (by omega),aN]
  simp only [Option.bind_some]
  rw [if_pos (by omega),if_pos (by omega),cN (x:=a[n]+carry) (by omega) (by omega),cN (x:=a[n]+carry+b[n]) (by omega) (by omega),sD (by omega),qb (by omega),cN (by omega) (by omega),oE (n:=n) (by omega),Nat.zero_add,Int.add_comm a[n] carry]
 ·refine ⟨a[n],0,hA,Jo J,?_⟩
  rw [if_neg (by simp;omega),if_pos (by omega),if_pos (by omega),cN (x:=a[n]+carry) (by omega) (by omega),sD (by omega),qb (by omega),cN (by omega) (by omega),oE (n:=n) (by omega),Nat.zero_add,Int.add_zero,Int.add_comm a[n] carry]
theorem PI {a b:List Int}(bx:cv a)(aP:cv b)(pW:a.length≤900000)(pi:b.length≤a.length):
 ∃r,vt a b a.length 0 0 (List.replicate (a.length+1) 0)=some r∧(r.1=0∨r.1=1)∧cv r.2∧r.2.length=a.length+1∧V r.2+r.1*B a.length=V a+V b∧r.2[a.length]? = some 0:=by
 refine lz (d9:=fun w:Int×Int×List Int=> ∃n:Nat,w.2.1=n∧n≤a.length∧(w.1=0∨w.1=1)∧cv w.2.2∧w.2.2.length=a.length+1∧V w.2.2+w.1*B n=V (a.take n)+V (b.take n)∧ ∀j,n≤j→j<a.length+1→w.2.2[j]? = some 0) (m:=fun w=>a.length-w.2.1.toNat) _ ?_ _ ⟨0,rfl,by omega,.inl rfl,cv.EI _,by simp,by simp [V,DS],fun j _ h=>by simp [List.getElem?_replicate];omega⟩
 rintro ⟨carry,ii,row⟩ ⟨n,ar,ay,bR,dc,ed,eW,fm⟩
 simp only at ar bR dc ed eW fm ⊢
 subst ar
 by_cases a5:n=a.length
 ·subst a5
  refine .inr ⟨(carry,row),by simp [tq],bR,dc,ed,?_,fm _ (Nat.le_refl _) (by omega)⟩
  rw [List.take_length,List.take_of_length_le pi] at eW
  exact eW
 ·obtain ⟨x,y,aa,aN,n4⟩:=PH (row:=row) (n:=n) bx aP bR (by omega) (by omega) (by omega)
  have x0:=aa.1
  have fq:=aa.2.1
  have UO:=aN.1
  have jr:=aN.2.1
  refine .inl ⟨_,n4,⟨n+1,rfl,by omega,by simp only;omega,dc.set (by omega),by simpa using ed,?_,fun j o J=> ?_⟩,by simp only;omega⟩
  ·simp only
   rw [pd (fm n (Nat.le_refl _) (by omega)),m3,aa.take,aN.take]
   have:=Int.mul_ediv_add_emod (carry+x+y) 1000000000
   generalize (carry+x+y) / 1000000000=u at *
   generalize (carry+x+y) % 1000000000=t at *
   have b1:t=carry+x+y-1000000000*u:=by omega
   rw [b1]
   grind
  ·simp only
   rw [List.getElem?_set_ne (by omega)]
   exact fm j (by omega) J
theorem HU {a b:List Int}(bx:cv a)(aP:cv b)(pW:a.length≤900000)(pi:b.length≤a.length):
 (if 0≤(U ((len_ R a)+(1:Int)))∧(8:Int)*(U ((len_ R a)+(1:Int)))≤281474976710656∧(U ((len_ R a)+(1:Int)))<9223372036854775808 then
   (vt a b (len_ R a) 0 0 (List.replicate (U ((len_ R a)+(1:Int))).toNat 0:List Int)).bind fun bh =>
   if 0≤(len_ R a)∧(len_ R a)<(bh.2.length:Nat) then
   if (0+(len_ R a).toNat)<bh.2.length then
   (nP (bh.2.set (0+(len_ R a).toNat) bh.1)).bind fun cu=>some cu
   else none
   else none
   else none)=some (L (V a+V b)):=by
 obtain ⟨r,ah,o,J,ao,aO,aM⟩:=PI bx aP pW pi
 rw [iQ,oE (by omega),if_pos (by omega),Int.toNat_natCast,ah,Option.bind_some,if_pos (by omega),Int.toNat_natCast,Nat.zero_add,if_pos (by omega)]
 have SF:cv (r.2.set a.length r.1):=J.set (by omega)
 rw [t7 SF (by simp;omega),pd aM,Option.bind_some]
 congr 2
 rw [← aO]
 grind
theorem Q0 {a b:List Int}(bx:cv a)(aP:cv b)(pW:a.length≤900000)(TX:b.length≤900000):tL a b=some (L (V a+V b)):=by
 unfold tL
 by_cases h:a.length<b.length
 ·rw [if_pos (by rw [iQ,iQ];simpa using h)]
  have:=HU aP bx TX (by omega)
  rw [Int.add_comm (V a)]
  exact this
 ·rw [if_neg (by rw [iQ,iQ];simpa using h)]
  exact HU bx aP pW (by omega)
theorem O4 {a b row:List Int}{less:Int}{n:Nat}(bx:cv a)(aP:cv b)(aG:less=0∨less=1)(pW:a.length≤1000000)(a5:n<a.length)(ah:n<row.length):
 ∃x y,q4 a n x∧q4 b n y∧tn b a a.length less n row=some (.inl (if x-less-y<0 then (1,((n+1:Nat):Int),row.set n (x-less-y+1000000000)) else (0,((n+1:Nat):Int),row.set n (x-less-y)))):=by
 have kQ:0≤less∧less≤1:=by omega
 have hA:=zi bx a5
 have aa:=List.getElem?_eq_getElem a5
 have hU:=hA.1
 have iK:=hA.2.1
 unfold tn
 simp only [iQ]
 rw [if_pos (by simp;omega),if_pos (by omega),Int.toNat_natCast,aa]
 simp only [Option.bind_eq_bind,Option.bind_some]
 by_cases J:n<b.length
 ·have hk:=zi aP J
  have aN:=List.getElem?_eq_getElem J
  have fB:=hk.1
  have gA:=hk.2.1
  refine ⟨a[n],b[n],hA,hk,?_⟩
  rw [if_pos (by simp;omega),if_pos (by omega),aN]
  simp only [Option.bind_some]
  rw [cN (x:=a[n]-less) (by omega) (by omega),cN (x:=a[n]-less-b[n]) (by omega) (by omega),oE (n:=n) (by omega),cN (x:=a[n]-less-b[n]+1000000000) (by omega) (by omega),Nat.zero_add]
  by_cases h:a[n]-less-b[n]<0
  ·rw [if_pos (by simpa using h),if_pos h,if_pos (by omega),if_pos (by omega)]
  ·rw [if_neg (by simpa using h),if_neg h,if_pos (by omega),if_pos (by omega)]
 ·refine ⟨a[n],0,hA,Jo J,?_⟩
  rw [if_neg (by simp;omega),cN (x:=a[n]-less) (by omega) (by omega),oE (n:=n) (by omega),cN (x:=a[n]-less+1000000000) (by omega) (by omega),Nat.zero_add,Int.sub_zero]
  by_cases h:a[n]-less<0
  ·rw [if_pos (by simpa using h),if_pos h,if_pos (by omega),if_pos (by omega)]
  ·rw [if_neg (by simpa using h),if_neg h,if_pos (by omega),if_pos (by omega)]
theorem Ih {a b:List Int}(bx:cv a)(aP:cv b)(hlen:b.length≤a.length)(pi:V b≤V a)(pW:a.length≤900000):qj a b=some (L (V a-V b)):=by
 have : ∃r,CK b a a.length 0 0 (List.replicate a.length 0)=some r∧cv r∧r.length=a.length∧V r=V a-V b:=by
  refine lz (d9:=fun w:Int×Int×List Int=> ∃n:Nat,w.2.1=n∧n≤a.length∧(w.1=0∨w.1=1)∧cv w.2.2∧w.2.2.length=a.length∧V w.2.2-w.1*B n=V (a.take n)-V (b.take n)∧ ∀j,n≤j→j<a.length→w.2.2[j]? = some 0) (m:=fun w=>a.length-w.2.1.toNat) _ ?_ _ ⟨0,rfl,by omega,.inl rfl,cv.EI _,by simp,by simp [V,DS],fun j _ h=>by simp [List.getElem?_replicate];omega⟩
  rintro ⟨less,ii,row⟩ ⟨n,ar,ay,bR,dc,ed,eW,fm⟩
  simp only at ar bR dc ed eW fm ⊢
  subst ar
  by_cases a5:n=a.length
  ·subst a5
   refine .inr ⟨row,by simp [tn],dc,ed,?_⟩
   rw [List.take_length,List.take_of_length_le hlen] at eW
   have J:=pe dc
   rw [ed] at J
   rcases bR with rfl|rfl<;>omega
  ·obtain ⟨x,y,aa,aN,n4⟩:=O4 (row:=row) (n:=n) bx aP bR (by omega) (by omega) (by omega)
   have x0:=aa.1
   have fq:=aa.2.1
   have UO:=aN.1
   have jr:=aN.2.1
   rw [n4]
   refine .inl ⟨_,rfl,?_⟩
   by_cases h:x-less-y<0
   ·rw [if_pos h]
    refine ⟨⟨n+1,rfl,by omega,.inr rfl,dc.set (by omega),by simpa using ed,?_,fun j o J=> ?_⟩,by simp only;omega⟩
    ·simp only
     rw [pd (fm n (Nat.le_refl _) (by omega)),m3,aa.take,aN.take]
     grind
    ·simp only
     rw [List.getElem?_set_ne (by omega)]
     exact fm j (by omega) J
   ·rw [if_neg h]
    refine ⟨⟨n+1,rfl,by omega,.inl rfl,dc.set (by omega),by simpa using ed,?_,fun j o J=> ?_⟩,by simp only;omega⟩
    ·simp only
     rw [pd (fm n (Nat.le_refl _) (by omega)),aa.take,aN.take]
     grind
    ·simp only
     rw [List.getElem?_set_ne (by omega)]
     exact fm j (by omega) J
 obtain ⟨r,ah,o,J,ao⟩:=this
 unfold qj
 simp only [iQ]
 rw [if_pos (by omega),Int.toNat_natCast,ah]
 simp only [Option.bind_eq_bind,Option.bind_some]
 rw [t7 o (by omega),ao]
 rfl
theorem Rv {a b:Int}(h:decide (a<0)=decide (b<0)):eD (decide (a<0)) ((a.natAbs:Int)+(b.natAbs:Int))=a+b:=by
 have bX:a<0↔b<0:=by simpa using h
 unfold eD
 by_cases o:a<0
 ·have:=bX.1 o
  simp only [o,decide_true,if_true]
  omega
 ·have : ¬b<0:=fun aP=>o (bX.2 aP)
  simp only [o,decide_false,Bool.false_eq_true,if_false]
  omega
theorem IU {a b:Int}(h:¬decide (a<0)=decide (b<0)):eD (decide (a<0)) ((a.natAbs:Int)-(b.natAbs:Int))=a+b∧eD (decide (b<0)) ((b.natAbs:Int)-(a.natAbs:Int))=a+b:=by
 have bX : ¬(a<0↔b<0):=by simpa using h
 unfold eD
 by_cases o:a<0
 ·have J : ¬b<0:=fun aP=>bX ⟨fun _=>aP,fun _=>o⟩
  simp only [o,J,decide_true,if_true,decide_false,Bool.false_eq_true,if_false]
  omega
 ·have J:b<0:=by
   apply Classical.byContradiction
   intro aP
   exact bX ⟨fun h=>absurd h o,fun h=>absurd h aP⟩
  simp only [o,J,decide_true,if_true,decide_false,Bool.false_eq_true,if_false]
  omega
theorem Ii {x y:Int}(aa:0≤x)(EK:x≤y):(L x).length≤(L y).length:=by
 apply (qC aa).2
 have:=pe (m5 y)
 rw [iA (by omega)] at this
 omega
theorem Qw {a b:Int}(bx:(a.natAbs:Int)<B 50)(aP:(b.natAbs:Int)<B 50):tu (iI a) (iI b)=some (iI (a+b)):=by
 have xE:=(qC (k:=50) (n:=a.natAbs) (by omega)).2 bx
 have Ah:=(qC (k:=50) (n:=b.natAbs) (by omega)).2 aP
 have bT:tu (iI a) (iI b)=((oo (L a.natAbs) (L b.natAbs)).bind fun ax=>if (decide (a<0) == decide (b<0))=true then (tL (L a.natAbs) (L b.natAbs)).bind fun bJ=>(k8 (decide (a<0)) bJ).bind fun bl=>some bl else if (decide ((0:Int)≤ax))=true then (qj (L a.natAbs) (L b.natAbs)).bind fun br=>(k8 (decide (a<0)) br).bind fun cu=>some cu else (qj (L b.natAbs) (L a.natAbs)).bind fun br=>(k8 (decide (b<0)) br).bind fun cu=>some cu):=rfl
 rw [bT,Hu (nZ _) (nZ _) (by omega),iA (by omega),iA (by omega),Option.bind_some]
 by_cases h:decide (a<0)=decide (b<0)
 ·rw [if_pos (by simpa using h),Q0 (m5 _) (m5 _) (by omega) (by omega),iA (by omega),iA (by omega),Option.bind_some,pC (by omega),Rv h]
  rfl
 ·rw [if_neg (by simpa using h)]
  by_cases aL:(b.natAbs:Int)≤a.natAbs
  ·have Ff:0≤m9 (a.natAbs:Int) b.natAbs:=by
    apply Int.not_lt.mp
    intro o
    have:=yX.1 o
    omega
   rw [if_pos (by simpa using Ff),Ih (m5 _) (m5 _) (Ii (by omega) aL) (by rw [iA (by omega),iA (by omega)];exact aL) (by omega),iA (by omega),iA (by omega),Option.bind_some,pC (by omega),(IU h).1]
   rfl
  ·have Ff : ¬0≤m9 (a.natAbs:Int) b.natAbs:=by
    have:=yX.2 (show (a.natAbs:Int)<b.natAbs by omega)
    omega
   rw [if_neg (by simpa using Ff),Ih (m5 _) (m5 _) (Ii (by omega) (by omega)) (by rw [iA (by omega),iA (by omega)];omega) (by omega),iA (by omega),iA (by omega),Option.bind_some,pC (by omega),(IU h).2]
   rfl
theorem Jp {b:Int}:eD (!(decide (b<0))) (b.natAbs:Int) = -b:=by
 unfold eD
 by_cases h:b<0
 ·simp only [h,decide_true,Bool.not_true,Bool.false_eq_true,if_false]
  omega
 ·simp only [h,decide_false,Bool.not_false,if_true]
  omega
theorem PJ {a b:Int}(bx:(a.natAbs:Int)<B 50)(aP:(b.natAbs:Int)<B 50):ri (iI a) (iI b)=some (iI (a-b)):=by
 have bT:ri (iI a) (iI b)=(((k8 (!(decide (b<0))) (L b.natAbs)).bind fun r=>some r).bind fun ax=>(tu (iI a) ax).bind fun bh=>some bh):=rfl
 rw [bT,pC (by omega),Jp,Option.bind_some,Option.bind_some,Qw bx (by omega),Option.bind_some,Int.sub_eq_add_neg]
theorem Fr.neg {q:Int×Int}(h:Fr q):Fr (-q.1,q.2):=⟨h.pos,by simp only;rw [Int.neg_gcd];exact h.TW,by simp only;have:=h.num;omega,h.den⟩
def qv (n:Int):Bool:=decide (-100≤n∧n≤100)
def zj (Ao:Nat)(l:List Int):Bool:=decide (l.length=2*Ao) && l.all qv
theorem O5 (n:Int):vr n=some (qv n):=by
 unfold vr qv
 by_cases h : -100≤n<;>simp [h]
theorem Oz (s:cQ)(FI:s.cc.length≤6)(l:List Int)(aG:l.length≤maxLen):om s l=some (zj s.cc.length l):=by
 have hm:=HT
 have hw:U (2*((s.cc.length:Nat):Int))=2*((s.cc.length:Nat):Int):=cN (by omega) (by omega)
 unfold om xJ xO zj
 simp only [hX,hw,Option.bind_eq_bind]
 obtain ⟨r,o,J⟩:=Po (f:=fun w=>sJ l (l.length:Nat) w) l (fun n=> !qv n) (fun n x aa=>by
  have c9:=e2 aa
  unfold sJ ya
  have c:(n:Int)<(l.length:Int):=by omega
  have c5:0≤(n:Int)∧(n:Int)<(l.length:Int):=by omega
  simp only [decide_eq_true c,if_true,if_pos c5,Int.toNat_natCast,aa,Option.bind_eq_bind,Option.bind_some,O5]
  rw [mq (by omega)]
  cases qv x<;>rfl) (by simp [sJ])
 have qL:AJ l (l.length:Nat) 0=some r:=o
 rw [qL]
 have SG:(l.any fun n=> !qv n) = !l.all qv:=by
  rw [List.not_all_eq_any_not]
 rw [SG] at J
 by_cases e:l.length=2*s.cc.length
 ·have c:((l.length:Int) == 2*(s.cc.length:Int))=true:=by simp;omega
  rw [c]
  rcases J with ⟨k,rfl,aV,bx⟩|⟨rfl,bx⟩
  ·simp only [Bool.not_eq_true'] at bx
   simp [e,bx,aV]
  ·simp only [Bool.not_eq_false'] at bx
   simp [e,bx]
 ·have c:((l.length:Int) == 2*(s.cc.length:Int))=false:=by simp;omega
  rw [c]
  simp [e]
theorem ol {i:Int}{a:Nat}(h0:0≤i)(o:i≤100)(bx:a≤1):U (U (2*i)+(a:Int))=(((2*i+a).toNat:Nat):Int):=by
 rw [cN (x:=2*i) (by omega) (by omega),cN (by omega) (by omega)]
 omega
def Fg (P:List (List Int)):bL→Prop
 | none=>True
 | some (k,c)=> ∃x,P[k]? = some x∧x.length=c∧c≤1048576
theorem Fg.set {P:List (List Int)}{k:Nat}{x y:List Int}(aa:P[k]? = some x)(aN:y.length=x.length){h:bL}(eK:Fg P h):Fg (P.set k y) h:=by
 cases h with
 | none=>trivial
 | some p =>
  obtain ⟨j,c⟩:=p
  obtain ⟨z,o,J,ao⟩:=eK
  by_cases av:k=j
  ·subst av
   rw [aa] at o
   obtain rfl:=Option.some.inj o
   exact ⟨y,by rw [List.getElem?_set,if_pos rfl,if_pos (e2 aa)],by omega,ao⟩
  ·exact ⟨z,by rw [List.getElem?_set,if_neg av];exact o,J,ao⟩
def jh:List a9→Nat→List Nat
 | [],_=>[]
 | x::l,n=>if x.l4 then jh l (n+1) else n::jh l (n+1)
theorem Dn : ∀(l:List a9) (n i:Nat),i∈jh l n→n≤i∧i<n+l.length
 | [],n,i,h=>by simp [jh] at h
 | x::l,n,i,h=>by
  rw [jh] at h
  simp only [List.length_cons]
  split at h
  ·have:=Dn l (n+1) i h;omega
  ·rcases List.mem_cons.1 h with h|h
   ·omega
   ·have:=Dn l (n+1) i h;omega
theorem Ij : ∀(l:List a9) (n:Nat),(jh l n).length≤l.length
 | [],n=>by simp [jh]
 | x::l,n=>by
  rw [jh]
  have:=Ij l (n+1)
  split<;>simp only [List.length_cons]<;>omega
theorem O6 {l:List a9}{n:Nat}{x:a9}(h:l[n]? = some x)(m:Nat):jh (l.drop n) m=if x.l4 then jh (l.drop (n+1)) (m+1) else m::jh (l.drop (n+1)) (m+1):=by
 rw [Ib h,jh]
theorem PK {f:Int×List Int→Option ((Int×List Int)⊕List Int)}(eS:List a9)(FI:eS.length≤1000)
 (h : ∀(n:Nat) acc x,eS[n]? = some x→f ((n:Int),acc)=if x.l4=true then some (.inl (U ((n:Int)+1),acc)) else if (acc++[(n:Int)]).length*8≤140737488355328 then some (.inl (U ((n:Int)+1),acc++[(n:Int)])) else none)
 (he : ∀acc,f ((eS.length:Int),acc)=some (.inr acc)):iter f ((0:Int),[])=some ((jh eS 0).map (fun n:Nat=>(n:Int))):=by
 obtain ⟨s,o,J⟩:=jc (fun (n:Nat) (acc:List Int)=>((n:Int),acc)) eS.length (fun n acc=>acc++(jh (eS.drop n) n).map (fun n:Nat=>(n:Int))=(jh eS 0).map (fun n:Nat=>(n:Int))∧acc.length≤n) (fun acc=>acc) (f:=f) (fun n a5 acc cZ=>by
  obtain ⟨cZ,aG⟩:=cZ
  have aa:=List.getElem?_eq_getElem a5
  rw [O6 aa] at cZ
  rw [h n acc _ aa,oE (by omega)]
  by_cases c:eS[n].l4=true
  ·rw [if_pos c] at cZ ⊢
   exact ⟨_,rfl,cZ,by omega⟩
  ·rw [if_neg c] at cZ ⊢
   rw [if_pos (by simp only [List.length_append,List.length_cons,List.length_nil];omega)]
   refine ⟨_,rfl,?_,by simp only [List.length_append,List.length_cons,List.length_nil];omega⟩
   rw [List.append_assoc]
   exact cZ) (fun acc _=>he acc) [] ⟨by rw [List.drop_zero];rfl,by simp⟩
 obtain ⟨J,-⟩:=J
 rw [List.drop_length] at J
 simp only [jh,List.map_nil,List.append_nil] at J
 subst J
 exact o
theorem GU (s:cQ)(FI:s.cc.length≤1000):sZ s=some ((jh s.cc 0).map (fun n:Nat=>(n:Int))):=by
 unfold sZ AR
 rw [hX,PK s.cc FI (fun n acc x aa=>by
  have a5:=e2 aa
  unfold u6
  exact dM (by omega) (bV (by omega) (aS (gt rfl aa) rfl))) (fun acc=>by
  unfold u6
  exact eb (by omega) rfl)]
 rfl
def hlen:bL→Nat
 | none=>0
 | some (_,c)=>c
def FJ (x:Rat):Int×Int:=(x.num,(x.den:Int))
def qG (x:Rat):Prop:=(x.num.natAbs:Int)<B 24∧(x.den:Int)<B 24
instance VD (x:Rat):Decidable (qG x):=by unfold qG;infer_instance
theorem qG.dB {x:Rat}(h:qG x):Fr (FJ x):=⟨by have:=x.den_pos;simp only [FJ];omega,by simp only [FJ];rw [Int.gcd,Int.natAbs_natCast];exact x.reduced,h.1,h.2⟩
theorem qG.neg {x:Rat}(h:qG x):qG (-x):=by
 unfold qG at h ⊢
 rw [Rat.neg_num,Rat.neg_den,Int.natAbs_neg];exact h
def j3 (x:Rat):Int:=if x=0 then 0 else if x<0 then -1 else 1
theorem vQ {x:Rat}:j3 x=0↔x=0:=by
 unfold j3
 split
 ·simp_all
 ·split<;>simp_all
theorem qs {x:Rat}:0<j3 x↔0<x:=by
 unfold j3
 split
 ·rename_i h;rw [h];simp
 ·split
  ·rename_i o J;constructor
   ·intro h;omega
   ·intro h;grind
  ·rename_i o J;constructor
   ·intro h;grind
   ·intro h;omega
def d7 (m:Nat)(t:b5):List Int:=bs m fun i=>((t.B i:Nat):Int)
theorem Ik {x y z w:Rat}(aN:0<y)(hw:0<w):(x / y≤z / w↔x*w≤z*y)∧(x / y=z / w↔x*w=z*y):=by
 have ar:x*w=(x / y)*(y*w):=by grind
 have ay:z*y=(z / w)*(y*w):=by grind
 have ae:0<y*w:=Rat.mul_pos aN hw
 constructor
 ·rw [ar,ay]
  constructor
  ·intro h;exact Rat.mul_le_mul_of_nonneg_right h (Rat.le_of_lt ae)
  ·intro h
   apply Classical.byContradiction
   intro c
   have:z / w<x / y:=by grind
   have:=Rat.mul_lt_mul_of_pos_right this ae
   grind
 ·rw [ar,ay]
  constructor
  ·intro h;rw [h]
  ·intro h
   have cf:y*w≠0:=by grind
   grind
def IV (m N:Nat)(t:b5)(j:Nat)(r:Int):Prop :=
 (r = -1∧ ∀i,i<m→ ¬0<t.T i j)∨ ∃b:Nat,r=b∧b<m∧0<t.T b j∧(∀i,i<m→0<t.T i j→t.T b N*t.T i j≤t.T i N*t.T b j)∧(∀i,i<m→0<t.T i j→t.T b N*t.T i j=t.T i N*t.T b j→t.B b≤t.B i)
structure nH (p:jt) (m n:Nat) (a:Nat→Nat→Int) (b:Nat→Int):Prop where
 rows:p.fW=m
 gV:p.en=n
 nk:p.e1.length=m*n
 J7 : ∀i,i<m→ ∀j,j<n→p.e1[i*n+j]? = some (a i j)
 Lm:p.fH.length=m
 zw : ∀i,i<m→p.fH[i]? = some (b i)
 hm:m≤20
 a5:n≤40
 xE : ∀i,i<m→ ∀j,j<n→ -100≤a i j∧a i j≤100
 Ah : ∀i,i<m→ -100≤b i∧b i≤100
theorem wy {p:jt}{m n:Nat}{a:Nat→Nat→Int}{b:Nat→Int}(h:nH p m n a b){i:Nat}(af:i<m)(j:Nat): -100≤lY m n a b i j∧lY m n a b i j≤100:=by
 have aP:=h.Ah i af
 unfold lY kt
 by_cases c:j<n
 ·have bx:=h.xE i af j c
  rw [if_pos c];split<;>omega
 ·rw [if_neg c]
  split
  ·split<;>omega
  ·split<;>omega
theorem R1 {p:jt}{m n:Nat}{a:Nat→Nat→Int}{b:Nat→Int}(h:nH p m n a b){i:Nat}(af:i<m)(j:Nat):el 100 (dR m n a b i j) :=
 ⟨lY m n a b i j,rfl,by have:=wy h af j;omega⟩
theorem Rw {p:jt}{m n:Nat}{a:Nat→Nat→Int}{b:Nat→Int}(h:nH p m n a b){i:Nat}(af:i<m):CW p i=some (bs n (a i)):=by
 have hm:=h.hm
 have a5:=h.a5
 have o:i*n≤20*40:=Nat.mul_le_mul (by omega) a5
 have J:(i+1)*n≤20*40:=Nat.mul_le_mul (by omega) a5
 have ao:(i+1)*n≤m*n:=Nat.mul_le_mul_right _ af
 have ar:U ((i:Int)*p.en)=((i*n:Nat):Int):=by
  rw [h.gV,← Int.natCast_mul,cN (by omega) (by omega)]
 have ay:U (U ((i:Int)+1)*p.en)=(((i+1)*n:Nat):Int):=by
  rw [h.gV,fS (by omega),← Int.natCast_mul,cN (by omega) (by omega)]
 have aO:(i+1)*n=i*n+n:=Nat.succ_mul i n
 unfold CW
 rw [ar,ay,Int.toNat_natCast,Int.toNat_natCast,h.nk]
 refine bV (by omega) (bV (by omega) (bV (by omega) ?_))
 congr 1
 apply List.ext_getElem?
 intro j
 rw [List.getElem?_take,List.getElem?_drop]
 by_cases c:j<n
 ·rw [if_pos (by omega),h.J7 i af j c,hM c]
 ·rw [if_neg (by omega)]
  symm
  rw [List.getElem?_eq_none_iff,ee];omega
@[irreducible] def gR:Nat:=oa 100 20
theorem DV:oa 100 20=gR:=by unfold gR;rfl
theorem pb:0<gR:=by decide +kernel
structure na (m N:Nat) (A:Nat→Nat→Rat) (t:b5):Prop where
 ok:e3 m m N A t
 k4:t.jv m N
 sG:t.D m A≠0
structure Small (m N:Nat) (A:Nat→Nat→Rat):Prop where
 hm:m≤20
 xF : ∀c,c<m→ ∀j,j≤N→el 100 (A c j)
theorem na.TY {m N:Nat}{A:Nat→Nat→Rat}(s:Small m N A){t:b5}(h:na m N A t):el gR (t.D m A):=by
 refine el.mono (y6 fun i af c aL=>s.xF c aL _ (Nat.le_of_lt (h.ok.jK i af))) (DV▸yO (by omega) s.hm)
theorem na.TZ {m N:Nat}{A:Nat→Nat→Rat}(s:Small m N A){t:b5}(h:na m N A t){i j:Nat}(af:i<m)(av:j≤N):el gR (t.T i j*t.D m A):=by
 rw [← h.ok.uY af av]
 refine el.mono (y6 fun k aV c aL=> ?_) (DV▸yO (by omega) s.hm)
 simp only [e8]
 split
 ·exact s.xF c aL j av
 ·exact s.xF c aL _ (Nat.le_of_lt (h.ok.jK k aV))
theorem na.fO {m N K:Nat}{A obj:Nat→Nat→Rat}{bC:Nat→Prop}{t:b5}(h:na m N A t){r k:Nat}(b:m6 m N K obj bC t r k):na m N A (t.cg r k) :=
 ⟨b.ok h.ok,b.wS h.k4,by
  rw [h.ok.wv b.ah b.bT]
  have o:=b.pos
  have J:=h.sG
  intro c
  have:t.T r k≠0:=by grind
  grind⟩
theorem SH {g:Nat→Rat}:gg 1 g↔0<g 0:=by
 constructor
 ·rintro ⟨l,o,J,-⟩;rw [show l=0 by omega] at J;exact J
 ·intro h;exact ⟨0,by omega,h,fun fa aG=>by omega⟩
theorem PL {p:jt}{m n:Nat}{a:Nat→Nat→Int}{b:Nat→Int}(h:nH p m n a b):Small m (n+m) (dR m n a b):=⟨h.hm,fun c aL j _=>R1 h aL j⟩
def bB (x:Rat):ba:=iI x.num
@[irreducible] def iN:Nat:=1000000000 ^ 40
theorem J8:((iN:Nat):Int)+((iN:Nat):Int)<B 50:=by decide +kernel
theorem Rx {K:Nat}{x:Rat}(h:el K x):((x.num:Int):Rat)=x∧x.num.natAbs≤K:=by
 obtain ⟨z,rfl,b6⟩:=h
 rw [Rat.num_intCast];exact ⟨rfl,b6⟩
theorem mA (z:Int):bB (z:Rat)=iI z:=by unfold bB;rw [Rat.num_intCast]
theorem uf {x:Rat}(h:el iN x):(L x.num.natAbs).length≤50:=by
 have:=J8
 have o:=(Rx h).2
 exact (qC (by omega)).2 (by omega)
theorem tR {x y:Rat}(aa:el iN x)(aN:el iN y):nl (bB x) (bB y)=some (bB (x*y)):=by
 have o:=uf aa
 have J:=uf aN
 obtain ⟨a,rfl,-⟩:=aa;obtain ⟨b,rfl,-⟩:=aN
 rw [Rat.num_intCast] at o J
 rw [mA,mA,← Rat.intCast_mul,mA]
 exact PG (by omega) (by omega)
theorem Il {x y:Rat}(aa:el iN x)(aN:el iN y):ri (bB x) (bB y)=some (bB (x-y)):=by
 have hk:=J8
 obtain ⟨a,rfl,bx⟩:=aa;obtain ⟨b,rfl,aP⟩:=aN
 rw [mA,mA,← Rat.intCast_sub,mA]
 exact PJ (by omega) (by omega)
theorem qt {x:Rat}(aa:el iN x):mZ (bB x)=some (j3 x):=by
 obtain ⟨a,rfl,bx⟩:=aa
 rw [mA]
 unfold mZ j3
 simp only [iQ]
 have e:(((L a.natAbs).length:Nat):Int)=0↔a=0:=by rw [SE (by omega)];omega
 show (if (((L a.natAbs).length:Int) == 0)=true then some 0 else if decide (a<0)=true then some (-1) else some 1)=_
 by_cases h0:a=0
 ·rw [if_pos (by rw [beq_iff_eq,e];exact h0),if_pos (by rw [h0];rfl)]
 ·have T0:(a:Rat)≠0:=fun c=>h0 (Rat.intCast_inj.1 (by rw [c];rfl))
  rw [if_neg (by rw [beq_iff_eq,e];exact h0),if_neg T0]
  have ay:(a:Rat)<0↔a<0:=by
   rw [show (0:Rat)=((0:Int):Rat) from rfl,Rat.intCast_lt_intCast]
  by_cases o:a<0
  ·rw [if_pos (decide_eq_true o),if_pos (ay.2 o)]
  ·rw [if_neg (by simpa using o),if_neg (fun c=>o (ay.1 c))]
theorem O7 {x y:Rat}(aa:el iN x)(aN:el iN y):pv (bB x) (bB y)=some (if x<y then -1 else if y<x then 1 else 0):=by
 have o:=uf aa
 have J:=uf aN
 obtain ⟨a,rfl,-⟩:=aa;obtain ⟨b,rfl,-⟩:=aN
 rw [Rat.num_intCast] at o J
 rw [mA,mA,Nm (by omega) (by omega)]
 unfold m9
 simp only [Rat.intCast_lt_intCast]
theorem Ha {x:Rat}(aa:el iN x):pu (bB x)=some (bB (-x)):=by
 obtain ⟨a,rfl,-⟩:=aa
 rw [mA,← Rat.intCast_neg,mA]
 unfold pu
 show (k8 (!(decide (a<0))) (L a.natAbs)).bind _=_
 rw [pC (by omega),Jp];rfl
theorem pB {n:Int}(h:uw n):mr n=some (bB (n:Rat)):=by rw [mA];exact O3 h
theorem O8 {x y:Rat}(aa:el iN x)(aN:el iN y)(EK:el iN (x*y))(h0:y≠0):qf (bB (x*y)) (bB y)=some (bB x):=by
 have o:=uf EK
 have J:=uf aN
 obtain ⟨a,rfl,-⟩:=aa;obtain ⟨b,rfl,-⟩:=aN
 rw [← Rat.intCast_mul] at o ⊢
 rw [Rat.num_intCast] at o J
 have aP:b≠0:=fun c=>h0 (by rw [c];rfl)
 rw [mA,mA,mA]
 unfold qf
 show (tM (L (a*b).natAbs) (L b.natAbs)).bind _=_
 rw [QX (nZ _) (nZ _) (fun c=>by have:=wt.1 c;omega) (by omega) (by omega),iA (by omega),iA (by omega)]
 have ar:((a*b).natAbs:Int) / (b.natAbs:Int)=(a.natAbs:Int):=by
  rw [Int.natAbs_mul,Int.natCast_mul];exact Int.mul_ediv_cancel _ (by omega)
 simp only [Option.bind_some]
 rw [ar]
 show (k8 (!(decide (a*b<0) == decide (b<0))) (L a.natAbs)).bind _=_
 rw [pC (by omega)]
 simp only [Option.bind_some]
 congr 2
 rcases Int.lt_or_gt_of_ne aP with c|c
 ·by_cases bx:a<0
  ·have : ¬a*b<0:=by have:=Int.mul_pos_of_neg_of_neg bx c;omega
   rw [decide_eq_false this,decide_eq_true c];simp only [eD,show (!(false == true))=true from rfl,if_true];omega
  ·by_cases b6:a=0
   ·subst b6;simp [eD]
   ·have:a*b<0:=Int.mul_neg_of_pos_of_neg (by omega) c
    rw [decide_eq_true this,decide_eq_true c];simp only [eD,BEq.rfl,Bool.not_true,Bool.false_eq_true,if_false];omega
 ·by_cases bx:a<0
  ·have:a*b<0:=Int.mul_neg_of_neg_of_pos bx c
   rw [decide_eq_true this,decide_eq_false (by omega)];simp only [eD,show (!(true == false))=true from rfl,if_true];omega
  ·have : ¬a*b<0:=by have:=Int.mul_nonneg (show 0≤a by omega) (show 0≤b by omega);omega
   rw [decide_eq_false this,decide_eq_false (by omega)];simp only [eD,BEq.rfl,Bool.not_true,Bool.false_eq_true,if_false];omega
def fE (N:Nat)(w:Rat)(t:b5)(i:Nat):List ba:=bs (N+1) fun j=>bB (t.T i j*w)
structure nb (m N:Nat) (w:Rat) (t:b5):Prop where
 pos:0<w
 hw:el (21*100*gR) w
 iD : ∀i,i<m→ ∀j,j≤N→el gR (t.T i j*w)
 hk : ∀i,i<m→t.B i<N
theorem wz:21*100*gR*(21*100*gR)+21*100*gR*(21*100*gR)≤iN:=by decide +kernel
theorem SI {q i:Nat}(a1:0<q)(af:i≤20):21*100*q*100+i*(q*100)≤21*100*q*(21*100*q):=by
 have o:i*(q*100)≤20*(q*100):=Nat.mul_le_mul_right _ af
 have J:21*100*q*2100≤21*100*q*(21*100*q):=Nat.mul_le_mul_left _ (by omega)
 generalize 21*100*q*(21*100*q)=z at *
 omega
theorem SJ {i:Nat}(af:i≤20):21*100*gR*100+i*(gR*100)≤iN :=
 Nat.le_trans (SI pb af) (Nat.le_trans (Nat.le_add_right _ _) wz)
theorem pR {K:Nat}(h:K≤21*100*gR):K≤iN:=by
 have T1:=wz
 have o:21*100*gR*1≤21*100*gR*(21*100*gR):=Nat.mul_le_mul_left _ (by have:=pb;generalize gR=q at *;omega)
 rw [Nat.mul_one] at o
 exact Nat.le_trans h (Nat.le_trans o (Nat.le_trans (Nat.le_add_right _ _) T1))
theorem IW {m N:Nat}(hm:m≤20)(fb:N<1000){w:Rat}{t:b5}(h:nb m N w t)(I:Nat→Int)(ad:∀j,j<N→ -100≤I j∧I j≤100)(hh:ba)(uy:hh=bB w)(gV:Int)(free:List Bool){k:Nat}(aV:k<N):
 tr ⟨bs m (fE N w t),hh,d7 m t,gV,free⟩ (bs N I) (k:Int)=some (j3 (t.cH m (fun j=>(I j:Rat)) k)):=by
 subst uy
 have WR:=pb
 have small : ∀ {x:Rat} {K:Nat},el K x→K≤21*100*gR→el iN x:=fun o J=>o.mono (pR J)
 have ab : ∀j,j<N→el 100 ((I j:Int):Rat):=fun j av=>⟨I j,rfl,by have:=ad j av;omega⟩
 have KY : ∀j,j<N→uw (I j):=fun j av=>by have:=ad j av;rw [pE];omega
 let S:Nat→Rat:=fun i=>w*(I k:Rat)-ca i (fun i=>(t.T i k*w)*(I (t.B i):Rat))
 have Ln : ∀i,i≤m→el iN (S i):=fun i af=>by
  have ar:el (21*100*gR*100) (w*(I k:Rat)):=h.hw.mul (ab k aV)
  have ay:el (i*(gR*100)) (ca i (fun i=>(t.T i k*w)*(I (t.B i):Rat))):=el.sum fun dU hS=>(h.iD dU (by omega) k (by omega)).mul (ab _ (h.hk dU (by omega)))
  exact (ar.sub ay).mono (SJ (by omega))
 unfold tr
 refine bV (by rw [ee];omega) (aS (x:=I k) (by rw [Int.toNat_natCast];exact hM aV) (aS (pB (KY k aV)) (aS (tR (small h.hw (Nat.le_refl _)) (small (ab k aV) (by omega))) ?_)))
 obtain ⟨s,e,-⟩:=jc (f:=fun q:Int×Bool×List Int=>s0 (bs m (fE N w t)) (bB w).dj (bB w).db (d7 m t) gV free (bs N I) (k:Int) ((m:Nat):Int) q.1 q.2.1 q.2.2)
  (fun (i:Nat) (_:Unit)=>((i:Int),(bB (S i)).dj,(bB (S i)).db)) m (fun _ _=>True) (fun _=>((bB (S m)).dj,(bB (S m)).db))
  (fun i af _ _=>by
    refine ⟨(),?_,trivial⟩
    have z5:=h.hk i af
    have Fh:S (i+1)=S i-(t.T i k*w)*(I (t.B i):Rat):=by simp only [S,ca];grind
    unfold s0
    refine dM (by simp only;omega) (bV (by unfold d7;rw [ee];simp only;omega) (aS (x:=((t.B i:Nat):Int)) (by simp only;rw [Int.toNat_natCast];exact hM af) (bV (by rw [ee];omega) (aS (x:=I (t.B i)) (by rw [Int.toNat_natCast];exact hM z5) (xw (fun c=> ?_) (fun c=> ?_))))))
    ·refine bV (by rw [ee];simp only;omega) (aS (x:=fE N w t i) (by simp only;rw [Int.toNat_natCast];exact hM af) (bV (by unfold fE;rw [ee];omega) (aS (x:=bB (t.T i k*w)) (by rw [Int.toNat_natCast];exact hM (by omega)) (aS (qt (small (h.iD i af k (by omega)) (by omega))) (xw (fun cq=> ?_) (fun cq=> ?_))))))
     ·refine aS (pB (KY _ z5)) (aS (tR (small (h.iD i af k (by omega)) (by omega)) (small (ab _ z5) (by omega))) (aS (Il (Ln i (by omega)) (by
       exact small ((h.iD i af k (by omega)).mul (ab _ z5)) (by omega))) ?_))
      simp only;rw [fS (by omega),Fh]
     ·have b6:t.T i k*w=0:=vQ.1 (by simpa using cq)
      simp only;rw [fS (by omega),Fh,b6,show S i-0*(I (t.B i):Rat)=S i by grind]
    ·have b6:I (t.B i)=0:=by simpa using c
     simp only;rw [fS (by omega),Fh,b6,show S i-t.T i k*w*((0:Int):Rat)=S i by rw [show ((0:Int):Rat)=0 from rfl];grind])
  (fun _ _=>by unfold s0;exact eb (by simp) rfl) () trivial
 have e0:S 0=w*(I k:Rat):=by simp only [S,ca];grind
 rw [e0] at e
 refine aS (x:=((bB (S m)).dj,(bB (S m)).db)) (by unfold BF;rw [iQ,show (d7 m t).length=m from ee ..];exact e) (aS (x:=j3 (S m)) (qt (Ln m (Nat.le_refl _))) ?_)
 congr 1
 have ay:S m=w*t.cH m (fun j=>(I j:Rat)) k:=by
  simp only [S]
  unfold b5.cH
  rw [fr (f:=fun i=>t.T i k*w*(I (t.B i):Rat)) (g:=fun i=>w*((I (t.B i):Rat)*t.T i k)) (fun i _=>by grind),hx];grind
 rw [ay]
 have ae:=h.pos
 unfold j3
 by_cases c:t.cH m (fun j=>(I j:Rat)) k=0
 ·rw [if_pos c,if_pos (by rw [c];grind)]
 ·rw [if_neg c,if_neg (by grind)]
  by_cases cq:t.cH m (fun j=>(I j:Rat)) k<0
  ·rw [if_pos cq,if_pos]
   have:=Rat.mul_pos ae (show 0 < -(t.cH m (fun j=>(I j:Rat)) k) by grind)
   grind
  ·rw [if_neg cq,if_neg]
   have:=Rat.mul_pos ae (show 0<t.cH m (fun j=>(I j:Rat)) k by grind)
   grind
theorem Im {x y z v w:Rat}(hw:0<w)(aN:0<y)(aX:0<v):(x*w)*(v*w)<(z*w)*(y*w)↔x / y<z / v:=by
 have ar:(x*w)*(v*w)=(x / y)*((y*v)*(w*w)):=by grind
 have ay:(z*w)*(y*w)=(z / v)*((y*v)*(w*w)):=by grind
 have ae:0<(y*v)*(w*w):=Rat.mul_pos (Rat.mul_pos aN aX) (Rat.mul_pos hw hw)
 rw [ar,ay]
 constructor
 ·intro h
  apply Classical.byContradiction
  intro c
  have:z / v≤x / y:=by grind
  have:=Rat.mul_le_mul_of_nonneg_right this (Rat.le_of_lt ae)
  grind
 ·intro h;exact Rat.mul_lt_mul_of_pos_right h ae
theorem t8 {x w:Rat}(hw:0<w):j3 (x*w)=j3 x:=by
 unfold j3
 by_cases c:x=0
 ·rw [if_pos c,if_pos (by rw [c];grind)]
 ·rw [if_neg c,if_neg (by grind)]
  by_cases cq:x<0
  ·rw [if_pos cq,if_pos]
   have:=Rat.mul_pos (show 0 < -x by grind) hw
   grind
  ·rw [if_neg cq,if_neg]
   have:=Rat.mul_pos (show 0<x by grind) hw
   grind
theorem O9 {m N:Nat}(hm:m≤20)(fb:N<1000){w:Rat}{t:b5}(h:nb m N w t)(hh:ba)(free:List Bool){k:Nat}(aV:k≤N):
 ∃r,ve ⟨bs m (fE N w t),hh,d7 m t,(N:Int),free⟩ (k:Int)=some r∧IV m N t k r:=by
 have hw:=h.pos
 have lZ : ∀i,i<m→ ∀j,j≤N→el iN (t.T i j*w):=fun i af j av=>(h.iD i af j av).mono (pR (by have:=pb;generalize gR=q at *;omega))
 have xG : ∀i,i<m→ ∀j,j≤N→ ∀dU,dU<m→ ∀gl,gl≤N→el iN (t.T i j*w*(t.T dU gl*w)):=fun i af j av dU hS gl qK=>((h.iD i af j av).mul (h.iD dU hS gl qK)).mono (by
  refine Nat.le_trans ?_ (Nat.le_trans (Nat.le_add_right _ _) wz)
  exact Nat.mul_le_mul (by generalize gR=q;omega) (by generalize gR=q;omega))
 unfold ve
 obtain ⟨r,e,ah⟩:=qn (f:=fun q:Int×Int=>sS (bs m (fE N w t)) hh.dj hh.db (d7 m t) (N:Int) free (k:Int) ((m:Nat):Int) q.1 q.2)
  (fun (i:Nat) (s:Int)=>(s,(i:Int))) m
  (fun n s=>(s = -1∧ ∀i,i<n→ ¬0<t.T i k)∨ ∃b:Nat,s=b∧b<n∧0<t.T b k∧ ∀i,i<n→0<t.T i k→t.T b N / t.T b k<t.T i N / t.T i k∨(t.T b N / t.T b k=t.T i N / t.T i k∧t.B b≤t.B i))
  (fun r=>IV m N t k r)
  (fun n a5 s cZ=>by
    left
    unfold sS
    have g1:0≤((n:Nat):Int)∧((n:Nat):Int)<((bs m (fE N w t)).length:Nat):=by rw [ee];omega
    have g2:(bs m (fE N w t))[((n:Nat):Int).toNat]? = some (fE N w t n):=by rw [Int.toNat_natCast];exact hM a5
    have g3 : ∀b,0≤((k:Nat):Int)∧((k:Nat):Int)<((fE N w t b).length:Nat):=fun b=>by unfold fE;rw [ee];omega
    have g4 : ∀b,(fE N w t b)[((k:Nat):Int).toNat]? = some (bB (t.T b k*w)):=fun b=>by rw [Int.toNat_natCast];exact hM (by omega)
    have g5 : ∀b,0≤((N:Nat):Int)∧((N:Nat):Int)<((fE N w t b).length:Nat):=fun b=>by unfold fE;rw [ee];omega
    have g6 : ∀b,(fE N w t b)[((N:Nat):Int).toNat]? = some (bB (t.T b N*w)):=fun b=>by rw [Int.toNat_natCast];exact hM (by omega)
    have k5:U ((n:Int)+1)=((n+1:Nat):Int):=fS (by omega)
    have oP:mZ (bB (t.T n k*w))=some (j3 (t.T n k)):=by rw [qt (lZ n a5 k aV),t8 hw]
    by_cases ae:0<t.T n k
    ·have bT : ¬j3 (t.T n k)≤0:=by have:=qs.2 ae;omega
     rcases cZ with ⟨o,J⟩|⟨b,o,aP,nG,ao⟩
     ·refine ⟨(n:Int),dM (by simp only;omega) (bV g1 (aS g2 (bV (g3 n) (aS (g4 n) (aS oP (eb bT (dM (by simp only;omega) ?_))))))),.inr ⟨n,rfl,by omega,ae,fun i af lq=> ?_⟩⟩
      ·simp only;rw [k5]
      ·by_cases c:i=n
       ·subst c;exact .inr ⟨rfl,Nat.le_refl _⟩
       ·exact (J i (by omega) lq).elim
     ·subst o
      have T2:0≤((b:Nat):Int)∧((b:Nat):Int)<((bs m (fE N w t)).length:Nat):=by rw [ee];omega
      have T3:(bs m (fE N w t))[((b:Nat):Int).toNat]? = some (fE N w t b):=by rw [Int.toNat_natCast];exact hM (by omega)
      have gc:pv (bB (t.T n N*w*(t.T b k*w))) (bB (t.T b N*w*(t.T n k*w)))=some (if t.T n N / t.T n k<t.T b N / t.T b k then -1 else if t.T b N / t.T b k<t.T n N / t.T n k then 1 else 0):=by
       rw [O7 (xG n a5 N (by omega) b (by omega) k aV) (xG b (by omega) N (by omega) n a5 k aV)]
       have ax:=Im (x:=t.T n N) (y:=t.T n k) (z:=t.T b N) (v:=t.T b k) hw ae nG
       have bJ:=Im (x:=t.T b N) (y:=t.T b k) (z:=t.T n N) (v:=t.T n k) hw nG ae
       by_cases bH:t.T n N / t.T n k<t.T b N / t.T b k
       ·rw [if_pos bH,if_pos (ax.2 bH)]
       ·rw [if_neg bH,if_neg (fun c=>bH (ax.1 c))]
        by_cases cq:t.T b N / t.T b k<t.T n N / t.T n k
        ·rw [if_pos cq,if_pos (bJ.2 cq)]
        ·rw [if_neg cq,if_neg (fun c=>cq (bJ.1 c))]
      have lead : ∀ {x r:Option ((Int×Int)⊕Int)} {f:Int→Option ((Int×Int)⊕Int)} {q:Int},pv (bB (t.T n N*w*(t.T b k*w))) (bB (t.T b N*w*(t.T n k*w)))=some q→f q=r →
       (if 0≤((N:Nat):Int)∧((N:Nat):Int)<((fE N w t n).length:Nat) then
         (fE N w t n)[((N:Nat):Int).toNat]? >>= fun oT =>
         if 0≤((b:Nat):Int)∧((b:Nat):Int)<((bs m (fE N w t)).length:Nat) then
         (bs m (fE N w t))[((b:Nat):Int).toNat]? >>= fun kx =>
         if 0≤((k:Nat):Int)∧((k:Nat):Int)<(kx.length:Nat) then
         kx[((k:Nat):Int).toNat]? >>= fun oU =>
         nl oT oU >>= fun il =>
         if 0≤((N:Nat):Int)∧((N:Nat):Int)<(kx.length:Nat) then
         kx[((N:Nat):Int).toNat]? >>= fun mR =>
         nl mR (bB (t.T n k*w)) >>= fun jl =>
         pv il jl >>= f
         else none else none else none else none)=r:=fun a1 bM =>
       bV (g5 n) (aS (g6 n) (bV T2 (aS T3 (bV (g3 b) (aS (g4 b) (aS (tR (lZ n a5 N (by omega)) (lZ b (by omega) k aV)) (bV (g5 b) (aS (g6 b) (aS (tR (lZ b (by omega) N (by omega)) (lZ n a5 k aV)) (aS a1 bM))))))))))
      by_cases bH:t.T n N / t.T n k<t.T b N / t.T b k
      ·rw [if_pos bH] at gc
       refine ⟨(n:Int),dM (by simp only;omega) (bV g1 (aS g2 (bV (g3 n) (aS (g4 n) (aS oP (eb bT (eb (by simp only;omega) (lead (x:=none) gc (dM (by omega) ?_))))))))),.inr ⟨n,rfl,by omega,ae,fun i af lq=> ?_⟩⟩
       ·simp only;rw [k5]
       ·by_cases c:i=n
        ·subst c;exact .inr ⟨rfl,Nat.le_refl _⟩
        ·rcases ao i (by omega) lq with h|⟨h,-⟩
         ·left;grind
         ·left;rw [← h];exact bH
      ·rw [if_neg bH] at gc
       by_cases cq:t.T b N / t.T b k<t.T n N / t.T n k
       ·rw [if_pos cq] at gc
        refine ⟨(b:Int),dM (by simp only;omega) (bV g1 (aS g2 (bV (g3 n) (aS (g4 n) (aS oP (eb bT (eb (by simp only;omega) (lead (x:=none) gc (eb (by omega) (jq (by decide) ?_)))))))))),.inr ⟨b,rfl,by omega,nG,fun i af lq=> ?_⟩⟩
        ·simp only;rw [k5]
        ·by_cases c:i=n
         ·subst c;exact .inl cq
         ·exact ao i (by omega) lq
       ·rw [if_neg cq] at gc
        have T4:t.T b N / t.T b k=t.T n N / t.T n k:=by grind
        have KZ:0≤((n:Nat):Int)∧((n:Nat):Int)<((d7 m t).length:Nat):=by unfold d7;rw [ee];omega
        have K0:(d7 m t)[((n:Nat):Int).toNat]? = some ((t.B n:Nat):Int):=by rw [Int.toNat_natCast];exact hM a5
        have K1:0≤((b:Nat):Int)∧((b:Nat):Int)<((d7 m t).length:Nat):=by unfold d7;rw [ee];omega
        have K2:(d7 m t)[((b:Nat):Int).toNat]? = some ((t.B b:Nat):Int):=by rw [Int.toNat_natCast];exact hM (by omega)
        by_cases mj:t.B n<t.B b
        ·refine ⟨(n:Int),dM (by simp only;omega) (bV g1 (aS g2 (bV (g3 n) (aS (g4 n) (aS oP (eb bT (eb (by simp only;omega) (lead (x:=none) gc (eb (by omega) (gm rfl (bV KZ (aS K0 (bV K1 (aS K2 (dM (by omega) ?_))))))))))))))),.inr ⟨n,rfl,by omega,ae,fun i af lq=> ?_⟩⟩
         ·simp only;rw [k5]
         ·by_cases c:i=n
          ·subst c;exact .inr ⟨rfl,Nat.le_refl _⟩
          ·rcases ao i (by omega) lq with h|⟨h,bX⟩
           ·left;grind
           ·right;exact ⟨by grind,by omega⟩
        ·refine ⟨(b:Int),dM (by simp only;omega) (bV g1 (aS g2 (bV (g3 n) (aS (g4 n) (aS oP (eb bT (eb (by simp only;omega) (lead (x:=none) gc (eb (by omega) (gm rfl (bV KZ (aS K0 (bV K1 (aS K2 (eb (by omega) ?_))))))))))))))),.inr ⟨b,rfl,by omega,nG,fun i af lq=> ?_⟩⟩
         ·simp only;rw [k5]
         ·by_cases c:i=n
          ·subst c;exact .inr ⟨T4,by omega⟩
          ·exact ao i (by omega) lq
    ·have bT:j3 (t.T n k)≤0:=by
      have : ¬0<j3 (t.T n k):=fun c=>ae (qs.1 c)
      omega
     refine ⟨s,dM (by simp only;omega) (bV g1 (aS g2 (bV (g3 n) (aS (g4 n) (aS oP (dM bT ?_)))))),?_⟩
     ·simp only;rw [k5]
     ·rcases cZ with ⟨o,J⟩|⟨b,o,aP,nG,ao⟩
      ·exact .inl ⟨o,fun i af=>if c:i=n then c▸ae else J i (by omega)⟩
      ·exact .inr ⟨b,o,by omega,nG,fun i af lq=>if c:i=n then (ae (c▸lq)).elim else ao i (by omega) lq⟩)
  (fun s cZ=>by
    refine ⟨s,by unfold sS;exact eb (by simp only;omega) rfl,?_⟩
    rcases cZ with ⟨o,J⟩|⟨b,o,aP,nG,ao⟩
    ·exact .inl ⟨o,J⟩
    ·refine .inr ⟨b,o,aP,nG,fun i af lq=> ?_,fun i af lq he=> ?_⟩
     ·rw [← (Ik nG lq).1]
      rcases ao i af lq with h|⟨h,-⟩
      ·exact Rat.le_of_lt h
      ·rw [h];exact Rat.le_refl
     ·rw [← (Ik nG lq).2] at he
      rcases ao i af lq with h|⟨-,h⟩
      ·rw [he] at h;grind
      ·exact h) (-1:Int) (.inl ⟨rfl,fun i af=>by omega⟩)
 refine ⟨r,aS ?_ rfl,ah⟩
 unfold Bc
 rw [hX,ee]
 exact e
end Go.Proofs.Ytjkpomjgokofmac
