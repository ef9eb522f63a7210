/- Lemmas, plain functions of the program, and what they answer. No condition. -/
import Derived.Test.YtgfpnhmcmgnepacGreatMC
namespace Go.Proofs.YtgfpnhmcmgnepacGreat
set_option linter.unusedVariables false
set_option linter.unusedSimpArgs false
open Go Go.VL
def sE (b8 dL:bg):Option bg :=
 p8 dL >>= fun an =>
 tJ b8 an >>= fun aZ =>
 some aZ
theorem Hg {b8 dL:bg}:b4 (sE b8 dL) (fun r=>Con bx 82 [.agg (aN b8),.agg (aN dL)] [] (.agg (aN r)) []):=by
 unfold sE
 exact .az fun an R =>
  .az fun aZ aD =>
  .ret (bM [(ab 3),.aE (ae 2 (ai (bA 1 (.agg (aN an)) false) (ai (bA 2 (.agg (aN aZ)) false) (ae 1 []))))] (.aC (CL an R) (MJ aZ aD)))
def GS (iY:List (List bg))(kg:Bool)(kd iW:List Int)(i5:Int)(kb:List Bool)(lJ:List Int)(ct pi:Int):(Int×Bool×(List Int))→S:=fun (iM,a8,aH)=>e2 [(0,.eu 6 [[.isl 1 (iY.map (fp 2 aN)),.b kg,.isl 1 (kd.map J),.isl 1 (iW.map J),.n .i64 i5,.isl 1 (kb.map dO)]] 0 0),(1,.isl 1 (lJ.map J)),(2,.n .i64 ct),(7,.ref 0 0 0 0),(23,.isl 1 (iW.map J)),(24,.n .i64 pi),(25,.n .i64 iM)] [[af.mk 2 [[.b a8,.isl 1 (aH.map J)]] .live]]
def Mw (iY:List (List bg))(kg:Bool)(kd iW:List Int)(i5:Int)(kb:List Bool)(lJ:List Int)(ct pi:Int):(Bool×(List Int))→e5
 | a=>⟨some 0,[(7,.ref 0 0 0 0)],[[af.mk 2 [[.b a.1,.isl 1 (a.2.map J)]] .live]]⟩
def w1 (iY:List (List bg))(kg:Bool)(kd iW:List Int)(i5:Int)(kb:List Bool)(lJ:List Int)(ct pi iM:Int)(a8:Bool)(aH:List Int):Option ((Int×Bool×(List Int))⊕(Bool×(List Int))) :=
 if (decide (iM<pi))=true then
  if 0≤iM∧iM<iW.length then
  iW[iM.toNat]? >>= fun aO =>
  if 0≤aO∧aO<lJ.length then
  lJ[aO.toNat]? >>= fun bO =>
  if (bO != (0:Int))=true then
   if 0≤iM∧iM<iY.length then
   iY[iM.toNat]? >>= fun jf =>
   if 0≤ct∧ct<jf.length then
   jf[ct.toNat]? >>= fun py =>
   o1 py >>= fun dY =>
   if (dY != (0:Int))=true then
    oq bO >>= fun ea =>
    o0 py ea >>= fun ir =>
    sE (⟨a8,aH⟩:bg) ir >>= fun pz =>
    some (.inl (U (iM+(1:Int)),pz.du,pz.cY))
   else
    some (.inl (U (iM+(1:Int)),a8,aH))
   else none
   else none
  else
   some (.inl (U (iM+(1:Int)),a8,aH))
  else none
  else none
 else
  some (.inr (a8,aH))
def Hh (iY:List (List bg))(kg:Bool)(kd iW:List Int)(i5:Int)(kb:List Bool)(lJ:List Int)(ct pi iM:Int)(a8:Bool)(aH:List Int):Option (Bool×(List Int)):=iter (fun w:Int×Bool×(List Int)=>w1 iY kg kd iW i5 kb lJ ct pi w.1 w.2.1 w.2.2) (iM,a8,aH)
theorem Tp {iY:List (List bg)}{kg:Bool}{kd iW:List Int}{i5:Int}{kb:List Bool}{lJ:List Int}{ct pi iM:Int}{a8:Bool}{aH:List Int}:b4 (w1 iY kg kd iW i5 kb lJ ct pi iM a8 aH) (fG bx 70 0 86 [1,1,0,1,0,0] (GS iY kg kd iW i5 kb lJ ct pi (iM,a8,aH)) (GS iY kg kd iW i5 kb lJ ct pi) (Mw iY kg kd iW i5 kb lJ ct pi)):=by
 unfold w1
 exact .ite (fun o =>
  .bl fun R =>
  .az fun aO aD =>
  .bl fun aM =>
  .az fun bO bQ =>
  (let t1:List cL:=[(ab 1),.al true,.aE (bT 2 (.cq (J aO)) 2)];
  have a9:=((.ff o R.1 (en J R.2) (cz J aD) aM.1 (en J aM.2) (cz J bQ)):c3 _);
  .ite (fun bn =>
  .bl fun cA =>
  .az fun jf cK =>
  .bl fun dc =>
  .az fun py e9 =>
  .az fun dY gM =>
  (let t3:List cL:=t1.append [.aE (ae 3 (ai (.cq (J bO)) (ae 8 (ai (.cq ((fp 2 aN) jf)) (ae 2 (ai (.cq (aN py)) (ai (bA 1 (.n .i64 dY) true) (ae 1 (ai (.al true) [])))))))))];
  have fv:=a9.aY (.bj bn bn bn bn bn bn cA.1 (en (fp 2 aN) cA.2) (.bj bn (cz (fp 2 aN) cK) bn bn dc.1 (en aN dc.2) bn (cz aN e9) (.dr bn (sC dY gM) (cf.n .i64 dY) bn bn)));
  .ite (fun gx =>
  .az fun ea j7 =>
  .az fun ir lS =>
  .az fun pz je =>
  .ret (b0 (t3.append [.al true,.aE (ae 7 (ai (.cq ((fp 2 aN) jf)) (ae 2 (ai (.cq (aN py)) (ae 3 (ai (.cq (J bO)) (ai (bA 1 (.agg (aN ea)) false) (ai (bA 2 (.agg (aN ir)) false) (ai (bA 2 (.agg (aN pz)) false) (ae 1 [])))))))))),(ab 2),.bm [0] [.box [.id,.id]] (bY [0,1,2,7,23,24,25])]) (fv.aY (.bj gx cA.1 (en (fp 2 aN) cA.2) (cz (fp 2 aN) cK) dc.1 (en aN dc.2) (cz aN e9) aM.1 (.dr (en J aM.2) (cz J bQ) (r2 ea j7) (uU ir lS) (Hg pz je))))))
  (fun gx =>
  .ret (b0 (t3.append [.al false,(ab 2),.bm [0] [.box [.id,.id]] (bY [0,1,2,7,23,24,25])]) (fv.aY (.aw gx))))))
  (fun bn =>
  .ret (b0 (t1.append [.aE (ae 3 (ai (.cq (J bO)) (ae 2 (cw 12 (ai (.al false) []))))),.al false,(ab 2),.bm [0] [.box [.id,.id]] (bY [0,1,2,7,23,24,25])]) (a9.aY (.bj bn bn bn bn bn bn bn bn (.eF bn bn bn bn bn dU)))))))
  (fun o =>
  .ret (b0 [(ab 1),.al false,.bm [0] [.box [.id,.id]] (bY [7])] (.aw o)))
theorem TN {iY:List (List bg)}{kg:Bool}{kd iW:List Int}{i5:Int}{kb:List Bool}{lJ:List Int}{ct pi iM:Int}{a8:Bool}{aH:List Int}{r} (h:Hh iY kg kd iW i5 kb lJ ct pi iM a8 aH=some r):fH bx 70 0 86 [1,1,0,1,0,0] (GS iY kg kd iW i5 kb lJ ct pi) (Mw iY kg kd iW i5 kb lJ ct pi) (iM,a8,aH) r:=fI (fun _=>Tp) h
def xu (mc:rq)(lJ:List Int)(ct:Int):Option Int :=
 if 0≤ct∧ct<lJ.length then
 lJ[ct.toNat]? >>= fun fy =>
 oq fy >>= fun bz =>
 o0 mc.vW bz >>= fun cT =>
 Hh mc.EI mc.vW.du mc.vW.cY mc.Ew mc.Kc mc.Kd lJ ct (len_ J mc.Ew) 0 cT.du cT.cY >>= fun fz =>
 o1 (⟨fz.1,fz.2⟩:bg) >>= fun fL =>
 some fL
 else none
theorem ME {mc:rq}{lJ:List Int}{ct:Int}:b4 (xu mc lJ ct) (fun r=>Con bx 86 [.eu 6 [(xP mc)] 0 0,.isl 1 (lJ.map J),.n .i64 ct] [] (.n .i64 r) []):=by
 unfold xu
 exact .bl fun o =>
  .az fun fy ad =>
  .az fun bz aM =>
  .az fun cT bQ =>
  .az fun fz cA =>
  .az fun fL cK =>
  .ret (bM [(ab 1),.aE (ae 7 (ai (.cq (J fy)) (ai (bA 1 (.agg (aN bz)) false) (ai (bA 2 (.agg (aN cT)) false) (ae 2 []))))),(ab 6),.bm [11] [.box [.id,.id]] (bY [0,1,2,7,23,24,25]),.sub (.exit 0) [(7,.ref 0 0 0 0)] [[af.mk 2 [[.b fz.1,.isl 1 (fz.2.map J)]] .live]],.aE (bT 1 (bA 1 (.n .i64 fL) true) 1)] (.gX o.1 (en J o.2) (cz J ad) (r2 bz aM) (uU cT bQ) (TN cA) (sC fL cK) (cf.n .i64 fL)))
def sD (b8 dL:bg):Option Int :=
 if (b8.du == dL.du)=true then
  if b8.du=true then
   p9 dL.cY b8.cY >>= fun aZ =>
   some aZ
  else
   p9 b8.cY dL.cY >>= fun aZ =>
   some aZ
 else
  if b8.du=true then
   some (-1)
  else
   some 1
theorem T4 {b8 dL:bg}:b4 (sD b8 dL) (fun r=>Con bx 99 [.agg (aN b8),.agg (aN dL)] [] (.n .i64 r) []):=by
 unfold sD
 exact .ite (fun o =>
  (let t1:List cL:=[(ab 3),.aE (ae 6 (cw 2 (ai (.al false) (ae 1 [])))),.al false,(ab 6),.al false,(ab 3)];
  have a9:=((.dr (cR o) (cR o) (cR o) dU (cR o)):c3 _);
  .ite (fun R =>
  .az fun aZ aD =>
  .ret (bM (t1.append [.al true,.aE (bT 4 (bA 2 (.n .i64 aZ) true) 1)]) (a9.aY (.b1 R (xy aZ aD) (cf.n .i64 aZ)))))
  (fun R =>
  .az fun aZ aD =>
  .ret (bM (t1.append [.al false,.aE (bT 4 (bA 2 (.n .i64 aZ) true) 1)]) (a9.aY (.b1 R (xy aZ aD) (cf.n .i64 aZ)))))))
  (fun o =>
  (let t1:List cL:=[(ab 3),.aE (bT 8 (.al true) 1)];
  have a9:=((.b1 (c2 o) (c2 o) (c2 o)):c3 _);
  .ite (fun R =>
  .ret (bM (t1.append [.al true,(ab 1)]) (a9.aY (.aw R))))
  (fun R =>
  .ret (bM (t1.append [.al false,(ab 6),.al true,(ab 1)]) (a9.aY (.aC R (c2 o)))))))
def Gw (iY:List (List bg))(kg:Bool)(kd iW:List Int)(i5:Int)(kb:List Bool)(ct da:Int):(Int×Int)→S:=fun (jm,cS)=>e2 [(0,.eu 6 [[.isl 1 (iY.map (fp 2 aN)),.b kg,.isl 1 (kd.map J),.isl 1 (iW.map J),.n .i64 i5,.isl 1 (kb.map dO)]] 0 0),(1,.n .i64 ct),(5,.n .i64 jm),(12,.isl 1 (iY.map (fp 2 aN))),(13,.n .i64 da),(14,.n .i64 cS)] []
def Mt (iY:List (List bg))(kg:Bool)(kd iW:List Int)(i5:Int)(kb:List Bool)(ct da:Int):Int→e5
 | a=>⟨some 0,[(5,.n .i64 a)],[]⟩
def wR (iY:List (List bg))(kg:Bool)(kd iW:List Int)(i5:Int)(kb:List Bool)(ct da jm cS:Int):Option ((Int×Int)⊕(Int)) :=
 if (decide (cS<da))=true then
  if 0≤cS∧cS<iY.length then
  iY[cS.toNat]? >>= fun aO =>
  if 0≤ct∧ct<aO.length then
  aO[ct.toNat]? >>= fun bO =>
  o1 bO >>= fun fz =>
  if (decide (fz≤(0:Int)))=true then
   some (.inl (jm,U (cS+(1:Int))))
  else
   if (decide (jm<(0:Int)))=true then
    some (.inl (cS,U (cS+(1:Int))))
   else
    if 0≤i5∧i5<aO.length then
    aO[i5.toNat]? >>= fun py =>
    if 0≤jm∧jm<iY.length then
    iY[jm.toNat]? >>= fun lA =>
    if 0≤ct∧ct<lA.length then
    lA[ct.toNat]? >>= fun rP =>
    o0 py rP >>= fun fW =>
    if 0≤i5∧i5<lA.length then
    lA[i5.toNat]? >>= fun tp =>
    o0 tp bO >>= fun lz =>
    sD fW lz >>= fun kL =>
    if (decide (kL<(0:Int)))=true then
     some (.inl (cS,U (cS+(1:Int))))
    else
     if (kL == (0:Int))=true then
      if 0≤cS∧cS<iW.length then
      iW[cS.toNat]? >>= fun Li =>
      if 0≤jm∧jm<iW.length then
      iW[jm.toNat]? >>= fun Lj =>
      if (decide (Li<Lj))=true then
       some (.inl (cS,U (cS+(1:Int))))
      else
       some (.inl (jm,U (cS+(1:Int))))
      else none
      else none
     else
      some (.inl (jm,U (cS+(1:Int))))
    else none
    else none
    else none
    else none
  else none
  else none
 else
  some (.inr jm)
def GY (iY:List (List bg))(kg:Bool)(kd iW:List Int)(i5:Int)(kb:List Bool)(ct da jm cS:Int):Option (Int):=iter (fun w:Int×Int=>wR iY kg kd iW i5 kb ct da w.1 w.2) (jm,cS)
theorem Tb {iY:List (List bg)}{kg:Bool}{kd iW:List Int}{i5:Int}{kb:List Bool}{ct da jm cS:Int}:b4 (wR iY kg kd iW i5 kb ct da jm cS) (fG bx 91 0 87 [1,1,0,1,0,0] (Gw iY kg kd iW i5 kb ct da (jm,cS)) (Gw iY kg kd iW i5 kb ct da) (Mt iY kg kd iW i5 kb ct da)):=by
 unfold wR
 exact .ite (fun o =>
  .bl fun R =>
  .az fun aO aD =>
  .bl fun aM =>
  .az fun bO bQ =>
  .az fun fz cA =>
  (let t1:List cL:=[(ab 1),.al true,.aE (bT 2 (.cq ((fp 2 aN) aO)) 2),.aE (ae 3 (ai (.cq (aN bO)) (ai (bA 1 (.n .i64 fz) true) (ae 1 []))))];
  have a9:=((.bj o R.1 (en (fp 2 aN) R.2) (cz (fp 2 aN) aD) aM.1 (en aN aM.2) (cz aN bQ) (sC fz cA) (.aw (cf.n .i64 fz))):c3 _);
  .ite (fun de =>
  .ret (b0 (t1.append [.al true,(ab 2),.bm [] [] (bY [0,1,5,12,13,14])]) (a9.aY (.aw de))))
  (fun de =>
  .ite (fun cK =>
  .ret (b0 (t1.append [.al false,(ab 2),.al true,(ab 2),(ab 2),.bm [] [] (bY [0,1,5,12,13,14])]) (a9.aY (.aC de cK))))
  (fun cK =>
  .bl fun dc =>
  .az fun py e9 =>
  .bl fun fZ =>
  .az fun lA gx =>
  .bl fun ia =>
  .az fun rP jJ =>
  .az fun fW hn =>
  .bl fun je =>
  .az fun tp kj =>
  .az fun lz nE =>
  .az fun kL lb =>
  (let aW:=fp 2 aN;let t3:List cL:=t1.append [.al false,(ab 2),.al false,.aE (ae 6 (ai (.cq (aN py)) (ae 6 (ai (.cq (aW lA)) (ae 2 (ai (.cq (aN rP)) (ai (bA 2 (.agg (aN fW)) false) (ae 6 (ai (.cq (aW lA)) (ae 5 (ai (.cq (aN tp)) (ae 3 (ai (.cq (aN bO)) (ai (bA 2 (.agg (aN lz)) false) (ai (bA 2 (.n .i64 kL) true) (ae 1 []))))))))))))))))];
  have fv:=a9.aY (.bj de cK dc.1 (en aN dc.2) (cz aN e9) fZ.1 (en aW fZ.2) (cz aW gx) (.bj ia.1 (en aN ia.2) (cz aN jJ) (uU fW hn) fZ.1 (en aW fZ.2) (cz aW gx) je.1 (.gX (en aN je.2) (cz aN kj) aM.1 (en aN aM.2) (cz aN bQ) (uU lz nE) (T4 kL lb) (cf.n .i64 kL))));
  .ite (fun kk =>
  .ret (b0 (t3.append [.aE (ae 3 (cw 3 (ae 15 (cw 1 (ai (.al true) []))))),.al true,(ab 2),(ab 2),.bm [] [] (bY [0,1,5,12,13,14])]) (fv.aY (.eF kk kk kk kk kk bP))))
  (fun kk =>
  .ite (fun gN =>
  .bl fun hd =>
  .az fun Li BP =>
  .bl fun pZ =>
  .az fun Lj Lk =>
  (let t5:List cL:=t3.append [.aE (ae 12 (ai (.cq (J Li)) (ae 6 (ai (.cq (J Lj)) (ae 1 (ai (.al true) (ai (.al false) [])))))))];
  have jj:=fv.aY (.bj kk kk kk gN gN gN gN gN (.bj gN hd.1 (en J hd.2) gN (cz J BP) gN gN gN (.bj gN gN gN pZ.1 (en J pZ.2) gN (cz J Lk) gN (.b1 kk gN kk))));
  .ite (fun Ll =>
  .ret (b0 (t5.append [.al true,(ab 2),(ab 2),.bm [] [] (bY [0,1,5,12,13,14])]) (jj.aY (.aw Ll))))
  (fun Ll =>
  .ret (b0 (t5.append [.al false,(ab 2),.bm [] [] (bY [0,1,5,12,13,14])]) (jj.aY (.aw Ll))))))
  (fun gN =>
  .ret (b0 (t3.append [.aE (ae 6 (cw 15 (ai (.al false) (ai (.al false) [])))),.al false,(ab 2),.bm [] [] (bY [0,1,5,12,13,14])]) (fv.aY (.bj kk kk kk gN gN gN gN gN (.bj gN gN gN gN gN gN gN gN (.eF gN gN kk gN kk dU))))))))))))
  (fun o =>
  .ret (b0 [(ab 1),.al false,.bm [] [] (bY [5])] (.aw o)))
theorem Tu {iY:List (List bg)}{kg:Bool}{kd iW:List Int}{i5:Int}{kb:List Bool}{ct da jm cS:Int}{r} (h:GY iY kg kd iW i5 kb ct da jm cS=some r):fH bx 91 0 87 [1,1,0,1,0,0] (Gw iY kg kd iW i5 kb ct da) (Mt iY kg kd iW i5 kb ct da) (jm,cS) r:=fI (fun _=>Tb) h
def zB (mc:rq)(ct:Int):Option Int :=
 GY mc.EI mc.vW.du mc.vW.cY mc.Ew mc.Kc mc.Kd ct (len_ (fp 2 aN) mc.EI) (-1) 0 >>= fun an =>
 some an
theorem TO {mc:rq}{ct:Int}:b4 (zB mc ct) (fun r=>Con bx 87 [.eu 6 [(xP mc)] 0 0,.n .i64 ct] [] (.n .i64 r) []):=by
 unfold zB
 exact .az fun an R =>
  .ret (bM [(ab 1),(ab 1),(ab 6),.bm [] [] (bY [0,1,5,12,13,14]),.sub (.exit 0) [(5,.n .i64 an)] [],(ab 2)] (.aw (Tu R)))
def vo (aI:List Int):Option (List Int) :=
 if aI.length*8≤140737488355328 then some aI else none
theorem W1:Con bx 70 [.ex] [] (.isl 1 (([]:List Int).map J)) []:=bM [(ab 1),(ab 2),.al true,(ab 1)] (.aw bP) (.bE (.cx (.lU 1)))
theorem W2:Con bx 70 [.iQ] [] (.isl 1 (([]:List Int).map J)) []:=(by
 have h:=fun (o:(([]:List Int)++([]:List Int)).length*8≤140737488355328)=>(bM [(ab 1),(ab 2),.al false,.aE (bT 2 (.aY ((([]:List Int)++([]:List Int)).length)) 1)] (.ff dU (vm (show []=(([]:List Int)).map J from rfl) (nm Int)) (ya (nm Int) (tD J):(([]:List Int)++([]:List Int)).length=0+([]:List (List ax)).length) o (gY (o3 (show []=(([]:List Int)).map J from rfl) (nm Int) (tD J)) (fq (([]:List Int)++([]:List Int)))) (iV (o3 (show []=(([]:List Int)).map J from rfl) (nm Int) (tD J)) (fq (([]:List Int)++([]:List Int)))) (d3 aF (([]:List Int)++([]:List Int)))) (.bE (.cx (.eU ((([]:List Int)++([]:List Int)).map J)))):Con bx 70 [.iQ] [] (.isl 1 ((([]:List Int)++([]:List Int)).map J)) [])
 exact h (by decide))
theorem W3 (x:Int)(l:List Int)(o:(([]:List Int)++(x::l)).length*8≤140737488355328):Con bx 70 [.isl 1 ((x::l).map J)] [] (.isl 1 ((([]:List Int)++(x::l)).map J)) []:=bM [(ab 1),.aE (ae 1 (ai .dh [])),.al false,.aE (bT 2 (.aY ((([]:List Int)++(x::l)).length)) 1)] (.gX (by simp:(x::l).map J≠[]) dU (vm (show []=(([]:List Int)).map J from rfl) (nm Int)) (ya (nm Int) (el J (x::l)):(([]:List Int)++(x::l)).length=0+((x::l).map J).length) o (gY (o3 (show []=(([]:List Int)).map J from rfl) (nm Int) (el J (x::l))) (fq (([]:List Int)++(x::l)))) (iV (o3 (show []=(([]:List Int)).map J from rfl) (nm Int) (el J (x::l))) (fq (([]:List Int)++(x::l)))) (d3 aF (([]:List Int)++(x::l)))) (.bE (.cx (.eU ((([]:List Int)++(x::l)).map J))))
theorem Jd {aI:List Int}:b4 (vo aI) (fun r=>Con bx 70 [.isl 1 (aI.map J)] [] (.isl 1 (r.map J)) []):=by
 unfold vo
 refine .bl fun h=> .ret ?_
 cases aI with
 | nil=>exact .kh W1 W2
 | cons x l =>
  have R:=W3 x l (by simpa using h)
  simpa using R
def G3 (a7:List Int)(aV:Int):(Int×Int×(List Int))→S:=fun (hZ,a3,au)=>e2 [(0,.isl 1 (a7.map J)),(1,.n .i64 aV),(6,.bF 0 0 0 au.length),(7,.n .i64 hZ),(8,.n .i64 a3)] [(ay 1 J au)]
def Ha (a7:List Int)(aV:Int):(Int×(List Int))→e5
 | a=>⟨some 0,[(6,.bF 0 0 0 a.2.length),(7,.n .i64 a.1)],[(ay 1 J a.2)]⟩
def G4 (a7:List Int)(aV hZ a3:Int)(au:List Int):Option ((Int×Int×(List Int))⊕(Int×(List Int))) :=
 if (decide ((0:Int)≤a3))=true then
  if 0≤a3∧a3<a7.length then
  a7[a3.toNat]? >>= fun aO =>
  if aV≠0 then
  if 0≤a3∧a3<(au.length:Nat) then
  if (0+a3.toNat)<au.length then
  some (.inl ((U ((U (hZ*(1000000000:Int)))+aO)).tmod aV,U (a3-(1:Int)),au.set (0+a3.toNat) (U ((U ((U (hZ*(1000000000:Int)))+aO)).tdiv aV))))
  else none
  else none
  else none
  else none
 else
  some (.inr (hZ,au))
def H9 (a7:List Int)(aV hZ a3:Int)(au:List Int):Option (Int×(List Int)):=iter (fun w:Int×Int×(List Int)=>G4 a7 aV w.1 w.2.1 w.2.2) (hZ,a3,au)
theorem TE {a7:List Int}{aV hZ a3:Int}{au:List Int}:b4 (G4 a7 aV hZ a3 au) (fG bx 39 0 101 [1,1,1,0,1,0,0] (G3 a7 aV (hZ,a3,au)) (G3 a7 aV) (Ha a7 aV)):=by
 unfold G4
 exact .ite (fun o =>
  .bl fun R =>
  .az fun aO aD =>
  .bl fun aM =>
  .bl fun bq =>
  .bl fun bQ =>
  .ret (let aW:=(U ((U ((U (hZ*(1000000000:Int)))+aO)).tdiv aV));b0 [(ab 2),.al true,.aE (bT 5 (.cq (J aO)) 2),.aE (bT 9 .dh 1),(ab 3),.bm [0] [.eg (ay 1 J (au.set (0+a3.toNat) aW))] [(0,ii),(1,ii),(6,ha ((au.set (0+a3.toNat) aW).length)),(7,ii),(8,ii)]] (.bj o R.1 (en J R.2) (cz J aD) aM aM bq.1 bq.2 (.dr (hR J bQ) (hG 1) (e6 1 .live (gE (el J au) (0+a3.toNat) aW)) (aG 1 .live aF (au.set (0+a3.toNat) aW)) (gZ (fq au) (0+a3.toNat) aW)))))
  (fun o =>
  .ret (b0 [(ab 2),.al false,.bm [0] [.pure] (bY [6,7])] (.aC o (aG 1 .live aF au))))
theorem Ul {a7:List Int}{aV hZ a3:Int}{au:List Int}{r} (h:H9 a7 aV hZ a3 au=some r):fH bx 39 0 101 [1,1,1,0,1,0,0] (G3 a7 aV) (Ha a7 aV) (hZ,a3,au) r:=fI (fun _=>TE) h
def xC (a7:List Int)(aV:Int):Option ((List Int)×Int) :=
 if 0≤(len_ J a7)∧(8:Int)*(len_ J a7)≤281474976710656∧(len_ J a7)<9223372036854775808 then
 H9 a7 aV 0 (U ((len_ J a7)-(1:Int))) (List.replicate (len_ J a7).toNat 0:List Int) >>= fun cb =>
 qL cb.2 >>= fun bz =>
 some (bz,cb.1)
 else none
theorem MQ {a7:List Int}{aV:Int}:b4 (xC a7 aV) (fun r=>Con bx 101 [.isl 1 (a7.map J),.n .i64 aV] [] (.dB [.isl 1 (r.1.map J),.n .i64 r.2]) []):=by
 unfold xC
 exact .bl fun o =>
  .az fun cb ad =>
  .az fun bz aM =>
  .ret (let aW:=(List.replicate (len_ J a7).toNat 0:List Int);bM [(ab 2),(ab 4),(ab 1),(ab 4),.bm [4] [.eg (ay 1 J aW)] [(0,ii),(1,ii),(6,ha (aW.length)),(7,ii),(8,ii)],(Ha a7 aV cb).gC,.iC 0,.aE (bT 1 (.call {ac:=[.bE (.cx (.eU (cb.2.map J)))],r:= .isl 1 (bz.map J),dD:=false,dG:=[0]}) 3)] (.bj o.1 (Int.le_refl (len_ J a7)) o.2.1 o.2.2 (e6 1 .live (lL J (len_ J a7).toNat 0)) (aG 1 .live aF aW) (lY (len_ J a7).toNat (0:Int)) (Ul ad) (.dn (lh J cb.2) (kp J cb.2) (d3 aF cb.2) (u5 bz aM))))
def Hz (au:List Int):Nat→S:=fun lZ=>e2 [(0,.bF 0 0 0 lZ)] [(ay 1 J au)]
def HV (au:List Int):Nat→e5
 | a=>⟨some 0,[(0,.bF 0 0 0 a)],[(ay 1 J au)]⟩
def xl (au:List Int)(lZ:Nat):Option ((Nat)⊕(Nat)) :=
 if (decide ((0:Int)<((lZ:Nat):Int)))=true then
  if 0≤(U (((lZ:Nat):Int)-(1:Int)))∧(U (((lZ:Nat):Int)-(1:Int)))<(lZ:Nat) then
  au[(0+(U (((lZ:Nat):Int)-(1:Int))).toNat)]? >>= fun aO =>
  if (aO == (0:Int))=true then
   if 0≤(U (((lZ:Nat):Int)-(1:Int))) then
   if 0≤(U (((lZ:Nat):Int)-(1:Int))).toNat∧(U (((lZ:Nat):Int)-(1:Int))).toNat≤lZ then
   some (.inl ((U (((lZ:Nat):Int)-(1:Int))).toNat-0))
   else none
   else none
  else
   some (.inr lZ)
  else none
 else
  some (.inr lZ)
def Ix (au:List Int)(lZ:Nat):Option (Nat):=iter (fun w:Nat=>xl au w) lZ
theorem T5 {au:List Int}{lZ:Nat}:b4 (xl au lZ) (fG bx 21 1 97 [1,0,0,0] (Hz au lZ) (Hz au) (HV au)):=by
 unfold xl
 exact .ite (fun o =>
  .bl fun R =>
  .az fun aO aD =>
  (let t1:List cL:=[.aE (ae 9 (ai (.cq (J aO)) (ae 1 (ai (.al true) []))))];
  have a9:=((.bj o o o o o R.1 R.2 o (.b1 (cz J aD) o o)):c3 _);
  .ite (fun aM =>
  .bl fun bq =>
  .bl fun bQ =>
  .ret (b0 (t1.append [.al true,(ab 6),.bm [0] [.pure] (bY [0])]) (a9.aY (.dr aM bq bQ.1 bQ.2 (aG 1 .live aF au)))))
  (fun aM =>
  .ret (b0 (t1.append [.al false,.bm [0] [.pure] (bY [0])]) (a9.aY (.aC aM (aG 1 .live aF au)))))))
  (fun o =>
  .ret (b0 [.aE (ae 4 (cw 7 (ai (.al false) []))),.al false,.bm [0] [.pure] (bY [0])] (.bj o o o o o o o o (.aC dU (aG 1 .live aF au)))))
theorem UN {au:List Int}{lZ:Nat}{r} (h:Ix au lZ=some r):fH bx 21 1 97 [1,0,0,0] (Hz au) (HV au) lZ r:=fI (fun _=>T5) h
def z3 (f6:List Int):Option Nat :=
 Ix f6 f6.length >>= fun an =>
 some an
theorem Vk {f6:List Int}:b4 (z3 f6) (fun a=>Con bx 97 [.bF 0 0 0 f6.length] [(ay 1 J f6)] (.bF 0 0 0 a) [(ay 1 J f6)]):=by
 unfold z3
 exact .az fun an R =>
  .ret (i1 [(ab 1),.bm [0] [.pure] (bY [0]),(HV f6 an).gC,(ab 2)] [0] [.pure] (.b1 (aG 1 .live aF f6) (UN R) (aG 1 .live aF f6)))
def Hi (aV:List Int)(a3 bc:Int)(dy:List Int)(dK d7:Int):(Int×Int×(List Int))→S:=fun (ew,dx,au)=>e2 [(1,.isl 1 (aV.map J)),(5,.bF 0 0 0 au.length),(6,.n .i64 a3),(7,.n .i64 bc),(8,.n .i64 ew),(26,.isl 1 (dy.map J)),(27,.n .i64 dK),(28,.n .i64 a3),(33,.isl 1 (aV.map J)),(34,.n .i64 d7),(35,.n .i64 dx)] [(ay 1 J au)]
def HA (aV:List Int)(a3 bc:Int)(dy:List Int)(dK d7:Int):(Int×(List Int))→e5
 | a=>⟨some 2,[(1,.isl 1 (aV.map J)),(5,.bF 0 0 0 a.2.length),(6,.n .i64 a3),(8,.n .i64 a.1),(26,.isl 1 (dy.map J)),(27,.n .i64 dK),(28,.n .i64 a3)],[(ay 1 J a.2)]⟩
def Hj (aV:List Int)(a3 bc:Int)(dy:List Int)(dK d7 ew dx:Int)(au:List Int):Option ((Int×Int×(List Int))⊕(Int×(List Int))) :=
 if (decide (dx<d7))=true then
  if 0≤dx∧dx<aV.length then
  aV[dx.toNat]? >>= fun aO =>
  if 0≤(U (a3+dx))∧(U (a3+dx))<(au.length:Nat) then
  au[(0+(U (a3+dx)).toNat)]? >>= fun bO =>
  if (0+(U (a3+dx)).toNat)<au.length then
  some (.inl (U ((U ((U (bO+(U (bc*aO))))+ew)).tdiv (1000000000:Int)),U (dx+(1:Int)),au.set (0+(U (a3+dx)).toNat) ((U ((U (bO+(U (bc*aO))))+ew)).tmod (1000000000:Int))))
  else none
  else none
  else none
 else
  some (.inr (ew,au))
def M3 (aV:List Int)(a3 bc:Int)(dy:List Int)(dK d7 ew dx:Int)(au:List Int):Option (Int×(List Int)):=iter (fun w:Int×Int×(List Int)=>Hj aV a3 bc dy dK d7 w.1 w.2.1 w.2.2) (ew,dx,au)
theorem TP {aV:List Int}{a3 bc:Int}{dy:List Int}{dK d7 ew dx:Int}{au:List Int}:b4 (Hj aV a3 bc dy dK d7 ew dx au) (fG bx 72 0 78 [1,1,1,0,1,0,0,1,1,0,0,1,1,0,1,0,0] (Hi aV a3 bc dy dK d7 (ew,dx,au)) (Hi aV a3 bc dy dK d7) (HA aV a3 bc dy dK d7)):=by
 unfold Hj
 exact .ite (fun o =>
  .bl fun R =>
  .az fun aO aD =>
  .bl fun aM =>
  .az fun bO bQ =>
  .bl fun bn =>
  .ret (let aW:=U ((U (bO+(U (bc*aO))))+ew);let bk:=U (a3+dx);b0 [(ab 1),.al true,.aE (bT 2 (.cq (J aO)) 2),.aE (bT 5 (.cq (J bO)) 7),.aE (bT 9 .dh 1),(ab 2),.bm [0] [.eg (ay 1 J (au.set (0+bk.toNat) (aW.tmod (1000000000:Int))))] [(1,ii),(5,ha ((au.set (0+bk.toNat) (aW.tmod (1000000000:Int))).length)),(6,ii),(7,ii),(8,ii),(26,ii),(27,ii),(28,ii),(33,ii),(34,ii),(35,ii)]] (.bj o R.1 (en J R.2) (cz J aD) aM.1 aM.2 (cz J bQ) (by decide:(1000000000:Int)≠0) (.gX (by decide:(1000000000:Int)≠0) aM.1 aM.2 (hR J bn) (hG 1) (e6 1 .live (gE (el J au) (0+bk.toNat) (aW.tmod (1000000000:Int)))) (aG 1 .live aF (au.set (0+bk.toNat) (aW.tmod (1000000000:Int)))) (gZ (fq au) (0+bk.toNat) (aW.tmod (1000000000:Int)))))))
  (fun o =>
  .ret (b0 [(ab 1),.al false,.bm [0] [.pure] (bY [1,5,6,8,26,27,28])] (.aC o (aG 1 .live aF au))))
theorem Ux {aV:List Int}{a3 bc:Int}{dy:List Int}{dK d7 ew dx:Int}{au:List Int}{r} (h:M3 aV a3 bc dy dK d7 ew dx au=some r):fH bx 72 0 78 [1,1,1,0,1,0,0,1,1,0,0,1,1,0,1,0,0] (Hi aV a3 bc dy dK d7) (HA aV a3 bc dy dK d7) (ew,dx,au) r:=fI (fun _=>TP) h
def Hk (aV dy:List Int)(dK:Int):(Int×(List Int))→S:=fun (eN,au)=>e2 [(1,.isl 1 (aV.map J)),(5,.bF 0 0 0 au.length),(26,.isl 1 (dy.map J)),(27,.n .i64 dK),(28,.n .i64 eN)] [(ay 1 J au)]
def HB (aV dy:List Int)(dK:Int):(List Int)→e5
 | a=>⟨some 0,[(5,.bF 0 0 0 a.length)],[(ay 1 J a)]⟩
def Hl (aV dy:List Int)(dK eN:Int)(au:List Int):Option ((Int×(List Int))⊕((List Int))) :=
 if (decide (eN<dK))=true then
  if 0≤eN∧eN<dy.length then
  dy[eN.toNat]? >>= fun aO =>
  M3 aV eN aO dy dK (len_ J aV) 0 0 au >>= fun bp =>
  if 0≤(U (eN+(len_ J aV)))∧(U (eN+(len_ J aV)))<(bp.2.length:Nat) then
  if (0+(U (eN+(len_ J aV))).toNat)<bp.2.length then
  some (.inl (U (eN+(1:Int)),bp.2.set (0+(U (eN+(len_ J aV))).toNat) bp.1))
  else none
  else none
  else none
 else
  some (.inr au)
def It (aV dy:List Int)(dK eN:Int)(au:List Int):Option ((List Int)):=iter (fun w:Int×(List Int)=>Hl aV dy dK w.1 w.2) (eN,au)
theorem TQ {aV dy:List Int}{dK eN:Int}{au:List Int}:b4 (Hl aV dy dK eN au) (fG bx 72 0 78 [1,1,1,0,1,0,0] (Hk aV dy dK (eN,au)) (Hk aV dy dK) (HB aV dy dK)):=by
 unfold Hl
 exact .ite (fun o =>
  .bl fun R =>
  .az fun aO aD =>
  .az fun bp bq =>
  .bl fun bQ =>
  .bl fun bn =>
  .ret (let aW:=U (eN+(len_ J aV));b0 [(ab 1),.al true,.aE (bT 2 (.cq (J aO)) 2),(ab 1),(ab 3),.bm [0] [.pure] (bY [1,5,6,7,8,26,27,28,33,34,35]),(HA aV eN aO dy dK (len_ J aV) bp).gC,.aE (ae 7 (ai .dh [])),(ab 2),.bm [0] [.eg (ay 1 J (bp.2.set (0+aW.toNat) bp.1))] [(1,ii),(5,ha ((bp.2.set (0+aW.toNat) bp.1).length)),(26,ii),(27,ii),(28,ii)]] (.bj o R.1 (en J R.2) (cz J aD) (aG 1 .live aF au) (Ux bq) bQ.1 bQ.2 (.dr (hR J bn) (hG 1) (e6 1 .live (gE (el J bp.2) (0+aW.toNat) bp.1)) (aG 1 .live aF (bp.2.set (0+aW.toNat) bp.1)) (gZ (fq bp.2) (0+aW.toNat) bp.1)))))
  (fun o =>
  .ret (b0 [(ab 1),.al false,.bm [0] [.pure] (bY [5])] (.aC o (aG 1 .live aF au))))
theorem Uy {aV dy:List Int}{dK eN:Int}{au:List Int}{r} (h:It aV dy dK eN au=some r):fH bx 72 0 78 [1,1,1,0,1,0,0] (Hk aV dy dK) (HB aV dy dK) (eN,au) r:=fI (fun _=>TQ) h
def xI (a7 aV:List Int):Option (Nat×(List Int)) :=
 if ((len_ J a7) == (0:Int))=true then
  none
 else
  if ((len_ J aV) == (0:Int))=true then
   none
  else
   if 0≤(U ((len_ J a7)+(len_ J aV)))∧(8:Int)*(U ((len_ J a7)+(len_ J aV)))≤281474976710656∧(U ((len_ J a7)+(len_ J aV)))<9223372036854775808 then
   It aV a7 (len_ J a7) 0 (List.replicate (U ((len_ J a7)+(len_ J aV))).toNat 0:List Int) >>= fun bz =>
   z3 bz >>= fun cT =>
   some (cT,bz)
   else none
theorem M4 {a7 aV:List Int}:b4 (xI a7 aV) (fun a=>Con bx 78 [.isl 1 (a7.map J),.isl 1 (aV.map J)] [] (.bF 0 0 0 a.1) [(ay 1 J a.2)]):=by
 unfold xI
 exact .ite (fun o =>
  .Rv)
  (fun o =>
  .ite (fun R =>
  .Rv)
  (fun R =>
  .bl fun ad =>
  .az fun bz aM =>
  .az fun cT bQ =>
  .ret (let aW:=U ((len_ J a7)+(len_ J aV));let bk:=(List.replicate aW.toNat 0:List Int);i1 [(ab 1),.aE (ae 7 (ai (.al false) [])),.al false,(ab 7),(ab 3),.bm [14] [.eg (ay 1 J bk)] [(1,ii),(5,ha (bk.length)),(26,ii),(27,ii),(28,ii)],(HB aV a7 (len_ J a7) bz).gC,.aE (bT 1 (.call {aQ:=[.row 0],cO:=[.pure],ac:=[ii],r:= .bF 0 0 0 cT,d4:=[(ay 1 J bz)],fu:=ii,gd:=[.pure],dG:=[0],dD:=false}) 1)] [0] [.pure] (.bj o o o o R ad.1 (Int.le_refl aW) ad.2.1 (.bj ad.2.2 (e6 1 .live (lL J aW.toNat 0)) (aG 1 .live aF bk) (lY aW.toNat (0:Int)) (Uy aM) (fa 1 aF bz) (fa 1 aF bz) (Vk cT bQ) (.aw (aG 1 .live aF bz)))))))
def HC (fb er:Nat)(df:List Int)(jI d1:Int):(Int×Int×(List Int))→S:=fun (ew,da,au)=>e2 [(0,.bF 0 0 fb er),(1,.isl 1 (df.map J)),(2,.n .i64 jI),(7,.n .i64 ew),(11,.isl 1 (df.map J)),(12,.n .i64 d1),(13,.n .i64 da)] [(ay 1 J au)]
def HW (fb er:Nat)(df:List Int)(jI d1:Int):(Int×(List Int))→e5
 | a=>⟨some 0,[(0,.bF 0 0 fb er),(1,.isl 1 (df.map J)),(7,.n .i64 a.1)],[(ay 1 J a.2)]⟩
def uX (fb er:Nat)(df:List Int)(jI d1 ew da:Int)(au:List Int):Option ((Int×Int×(List Int))⊕(Int×(List Int))) :=
 if (decide (da<d1))=true then
  if 0≤da∧da<df.length then
  df[da.toNat]? >>= fun aO =>
  if 0≤da∧da<(er:Nat) then
  au[(fb+da.toNat)]? >>= fun bO =>
  if (decide ((U ((U (bO-(U (jI*aO))))-ew))<(0:Int)))=true then
   if (fb+da.toNat)<au.length then
   some (.inl (U ((U ((999999999:Int)-(U ((U (bO-(U (jI*aO))))-ew)))).tdiv (1000000000:Int)),U (da+(1:Int)),au.set (fb+da.toNat) (U ((U ((U (bO-(U (jI*aO))))-ew))+(U ((U ((U ((999999999:Int)-(U ((U (bO-(U (jI*aO))))-ew)))).tdiv (1000000000:Int)))*(1000000000:Int)))))))
   else none
  else
   if (fb+da.toNat)<au.length then
   some (.inl (0,U (da+(1:Int)),au.set (fb+da.toNat) (U ((U (bO-(U (jI*aO))))-ew))))
   else none
  else none
  else none
 else
  some (.inr (ew,au))
def Iy (fb er:Nat)(df:List Int)(jI d1 ew da:Int)(au:List Int):Option (Int×(List Int)):=iter (fun w:Int×Int×(List Int)=>uX fb er df jI d1 w.1 w.2.1 w.2.2) (ew,da,au)
theorem T6 {fb er:Nat}{df:List Int}{jI d1 ew da:Int}{au:List Int}:b4 (uX fb er df jI d1 ew da au) (fG bx 56 1 102 [1,1,0,1,0,0] (HC fb er df jI d1 (ew,da,au)) (HC fb er df jI d1) (HW fb er df jI d1)):=by
 unfold uX
 exact .ite (fun o =>
  .bl fun R =>
  .az fun aO aD =>
  .bl fun aM =>
  .az fun bO bQ =>
  (let t1:List cL:=[(ab 1),.al true,.aE (bT 2 (.cq (J aO)) 2),.aE (bT 3 (.cq (J bO)) 7),(ab 1),(ab 2)];
  have a9:=((.ff o R.1 (en J R.2) (cz J aD) aM.1 aM.2 (cz J bQ)):c3 _);
  .ite (fun bn =>
  .bl fun cA =>
  .ret (let aW:=(U ((U ((U (bO-(U (jI*aO))))-ew))+(U ((U ((U ((999999999:Int)-(U ((U (bO-(U (jI*aO))))-ew)))).tdiv (1000000000:Int)))*(1000000000:Int)))));b0 (t1.append [.al true,(ab 4),(ab 5),.aE (ae 4 (ai .dh [])),(ab 2),.bm [0] [.eg (ay 1 J (au.set (fb+da.toNat) aW))] (bY [0,1,2,7,11,12,13])]) (a9.aY (.gX bn (by decide:(1000000000:Int)≠0) aM.1 aM.2 (hR J cA) (hG 1) (e6 1 .live (gE (el J au) (fb+da.toNat) aW)) (aG 1 .live aF (au.set (fb+da.toNat) aW))))))
  (fun bn =>
  .bl fun cA =>
  .ret (let bk:=U ((U (bO-(U (jI*aO))))-ew);b0 (t1.append [.al false,.aE (ae 4 (ai .dh [])),(ab 2),.bm [0] [.eg (ay 1 J (au.set (fb+da.toNat) bk))] (bY [0,1,2,7,11,12,13])]) (a9.aY (.ff bn aM.1 aM.2 (hR J cA) (hG 1) (e6 1 .live (gE (el J au) (fb+da.toNat) bk)) (aG 1 .live aF (au.set (fb+da.toNat) bk))))))))
  (fun o =>
  .ret (b0 [(ab 1),.al false,.bm [0] [.pure] (bY [0,1,7])] (.aC o (aG 1 .live aF au))))
theorem UO {fb er:Nat}{df:List Int}{jI d1 ew da:Int}{au:List Int}{r} (h:Iy fb er df jI d1 ew da au=some r):fH bx 56 1 102 [1,1,0,1,0,0] (HC fb er df jI d1) (HW fb er df jI d1) (ew,da,au) r:=fI (fun _=>T6) h
def z4 (df:List Int)(jI:Int)(fb er:Nat)(f6:List Int):Option (Bool×(List Int)) :=
 Iy fb er df jI (len_ J df) 0 0 f6 >>= fun an =>
 if 0≤(len_ J df)∧(len_ J df)<(er:Nat) then
 an.2[(fb+(len_ J df).toNat)]? >>= fun gj =>
 if (fb+(len_ J df).toNat)<an.2.length then
 (an.2.set (fb+(len_ J df).toNat) (U (gj-an.1)))[(fb+(len_ J df).toNat)]? >>= fun gO =>
 some ((decide (gO<(0:Int))),an.2.set (fb+(len_ J df).toNat) (U (gj-an.1)))
 else none
 else none
theorem Vl {df:List Int}{jI:Int}{fb er:Nat}{f6:List Int}:b4 (z4 df jI fb er f6) (fun a=>Con bx 102 (ab0 0 0 fb er df jI) [(ay 1 J f6)] (.b a.1) [(ay 1 J a.2)]):=by
 unfold z4
 exact .az fun an R =>
  .bl fun ad =>
  .az fun gj aM =>
  .bl fun bq =>
  .az fun gO bn =>
  .ret (let aW:=U (gj-an.1);let bk:=len_ J df;i1 [(ab 1),(ab 1),(ab 3),.bm [0] [.pure] (bY [0,1,2,7,11,12,13]),(HW fb er df jI bk an).gC,.aE (ae 4 (ai (.cq (J gj)) (ae 3 (ai .dh [])))),.aE (bT 4 (.cq (J gO)) 2)] [0] [.eg (ay 1 J (an.2.set (fb+bk.toNat) aW))] (.bj (aG 1 .live aF f6) (UO R) ad.1 ad.2 (cz J aM) ad.1 ad.2 (hR J bq) (.eF (hG 1) ad.1 ad.2 (ow (gE (el J an.2) (fb+bk.toNat) aW) bn) (e6 1 .live (gE (el J an.2) (fb+bk.toNat) aW)) (aG 1 .live aF (an.2.set (fb+bk.toNat) aW)))))
def HD (fb er:Nat)(df:List Int)(g8:Int):(Int×Int×(List Int))→S:=fun (ew,et,au)=>e2 [(0,.bF 0 0 fb er),(1,.isl 1 (df.map J)),(4,.n .i64 ew),(8,.isl 1 (df.map J)),(9,.n .i64 g8),(10,.n .i64 et)] [(ay 1 J au)]
def HX (fb er:Nat)(df:List Int)(g8:Int):(Int×(List Int))→e5
 | a=>⟨some 0,[(0,.bF 0 0 fb er),(1,.isl 1 (df.map J)),(4,.n .i64 a.1)],[(ay 1 J a.2)]⟩
def xm (fb er:Nat)(df:List Int)(g8 ew et:Int)(au:List Int):Option ((Int×Int×(List Int))⊕(Int×(List Int))) :=
 if (decide (et<g8))=true then
  if 0≤et∧et<df.length then
  df[et.toNat]? >>= fun aO =>
  if 0≤et∧et<(er:Nat) then
  au[(fb+et.toNat)]? >>= fun bO =>
  if (fb+et.toNat)<au.length then
  some (.inl (U ((U ((U (bO+aO))+ew)).tdiv (1000000000:Int)),U (et+(1:Int)),au.set (fb+et.toNat) ((U ((U (bO+aO))+ew)).tmod (1000000000:Int))))
  else none
  else none
  else none
 else
  some (.inr (ew,au))
def Iz (fb er:Nat)(df:List Int)(g8 ew et:Int)(au:List Int):Option (Int×(List Int)):=iter (fun w:Int×Int×(List Int)=>xm fb er df g8 w.1 w.2.1 w.2.2) (ew,et,au)
theorem T7 {fb er:Nat}{df:List Int}{g8 ew et:Int}{au:List Int}:b4 (xm fb er df g8 ew et au) (fG bx 39 1 103 [1,0,1,0,0] (HD fb er df g8 (ew,et,au)) (HD fb er df g8) (HX fb er df g8)):=by
 unfold xm
 exact .ite (fun o =>
  .bl fun R =>
  .az fun aO aD =>
  .bl fun aM =>
  .az fun bO bQ =>
  .bl fun bn =>
  .ret (let aW:=U ((U (bO+aO))+ew);b0 [(ab 1),.al true,.aE (bT 2 (.cq (J aO)) 2),.aE (bT 3 (.cq (J bO)) 5),.aE (bT 7 .dh 1),(ab 2),.bm [0] [.eg (ay 1 J (au.set (fb+et.toNat) (aW.tmod (1000000000:Int))))] (bY [0,1,4,8,9,10])] (.bj o R.1 (en J R.2) (cz J aD) aM.1 aM.2 (cz J bQ) (by decide:(1000000000:Int)≠0) (.ff (by decide:(1000000000:Int)≠0) aM.1 aM.2 (hR J bn) (hG 1) (e6 1 .live (gE (el J au) (fb+et.toNat) (aW.tmod (1000000000:Int)))) (aG 1 .live aF (au.set (fb+et.toNat) (aW.tmod (1000000000:Int))))))))
  (fun o =>
  .ret (b0 [(ab 1),.al false,.bm [0] [.pure] (bY [0,1,4])] (.aC o (aG 1 .live aF au))))
theorem UP {fb er:Nat}{df:List Int}{g8 ew et:Int}{au:List Int}{r} (h:Iz fb er df g8 ew et au=some r):fH bx 39 1 103 [1,0,1,0,0] (HD fb er df g8) (HX fb er df g8) (ew,et,au) r:=fI (fun _=>T7) h
def xL (df:List Int)(fb er:Nat)(f6:List Int):Option (List Int) :=
 Iz fb er df (len_ J df) 0 0 f6 >>= fun an =>
 if 0≤(len_ J df)∧(len_ J df)<(er:Nat) then
 an.2[(fb+(len_ J df).toNat)]? >>= fun gj =>
 if (fb+(len_ J df).toNat)<an.2.length then
 some (an.2.set (fb+(len_ J df).toNat) (U (gj+an.1)))
 else none
 else none
theorem Vm {df:List Int}{fb er:Nat}{f6:List Int}:b4 (xL df fb er f6) (fun a=>Con bx 103 [.bF 0 0 fb er,.isl 1 (df.map J)] [(ay 1 J f6)] (.dB []) [(ay 1 J a)]):=by
 unfold xL
 exact .az fun an R =>
  .bl fun ad =>
  .az fun gj aM =>
  .bl fun bq =>
  .ret (let aW:=U (gj+an.1);let bk:=len_ J df;i1 [(ab 1),(ab 3),.bm [0] [.pure] (bY [0,1,4,8,9,10]),(HX fb er df bk an).gC,.aE (ae 4 (ai (.cq (J gj)) (ae 3 (ai .dh []))))] [0] [.eg (ay 1 J (an.2.set (fb+bk.toNat) aW))] (.bj (aG 1 .live aF f6) (UP R) ad.1 ad.2 (cz J aM) ad.1 ad.2 (hR J bq) (.b1 (hG 1) (e6 1 .live (gE (el J an.2) (fb+bk.toNat) aW)) (aG 1 .live aF (an.2.set (fb+bk.toNat) aW)))))
def Ia (a7:List Int)(fV:Nat)(au aS:List Int):(List Int)→S:=fun ao=>e2 [(0,.isl 1 (a7.map J)),(8,.bF 0 0 0 au.length),(9,.bF 1 0 0 ao.length),(10,.bF 2 0 0 fV)] [(ay 1 J au),(ay 1 J ao),(ay 1 J aS)]
def Ii (a7:List Int)(fV:Nat)(au aS:List Int):(List Int)→e5
 | a=>⟨some 0,[(8,.bF 0 0 0 au.length),(9,.bF 1 0 0 a.length),(10,.bF 2 0 0 fV)],[(ay 1 J au),(ay 1 J a),(ay 1 J aS)]⟩
def C6 (a7:List Int)(fV:Nat)(au aS ao:List Int):Option (((List Int))⊕((List Int))) :=
 if (decide (((ao.length:Nat):Int)≤(len_ J a7)))=true then
  if (ao++([0]:List Int)).length*8≤140737488355328 then
  some (.inl (ao++([0]:List Int)))
  else none
 else
  some (.inr ao)
def Dz (a7:List Int)(fV:Nat)(au aS ao:List Int):Option ((List Int)):=iter (fun w:(List Int)=>C6 a7 fV au aS w) ao
theorem Um {a7:List Int}{fV:Nat}{au aS ao:List Int}:b4 (C6 a7 fV au aS ao) (fG bx 172 0 91 [1,1,1,1,1,0,0,0] (Ia a7 fV au aS ao) (Ia a7 fV au aS) (Ii a7 fV au aS)):=by
 unfold C6
 exact .ite (fun o =>
  .bl fun R =>
  .ret (let aW:=(ao++([0]:List Int));b0 [(ab 5),.al true,.aE (bT 2 (.aY (aW.length)) 1),.bm [0,10,2] [.pure,.eg (ay 1 J aW),.pure] (bY [0,8,9,10])] (.bj o (kO J 0) (sv J ao) (oi J ao 0) R (aG 1 .live aF au) (e6 1 .live (sw J ao 0)) (aG 1 .live aF aW) (.aw (aG 1 .live aF aS)))))
  (fun o =>
  .ret (b0 [(ab 5),.al false,.bm [0,1,2] [.pure,.pure,.pure] (bY [8,9,10])] (.dn o (aG 1 .live aF au) (aG 1 .live aF ao) (aG 1 .live aF aS))))
theorem Va {a7:List Int}{fV:Nat}{au aS ao:List Int}{r} (h:Dz a7 fV au aS ao=some r):fH bx 172 0 91 [1,1,1,1,1,0,0,0] (Ia a7 fV au aS) (Ii a7 fV au aS) ao r:=fI (fun _=>Um) h
def Ib (er fV:Nat)(bc ed:Int)(au ao aS aq:List Int):(Int×Int)→S:=fun (nQ,hZ)=>e2 [(8,.bF 0 0 0 au.length),(9,.bF 1 0 0 er),(10,.bF 2 0 0 fV),(11,.n .i64 bc),(12,.bF 3 0 0 aq.length),(13,.n .i64 ed),(15,.n .i64 nQ),(16,.n .i64 hZ)] [(ay 1 J au),(ay 1 J ao),[af.mk 1 (aS.map J) .iC],(ay 1 J aq)]
def Ij (er fV:Nat)(bc ed:Int)(au ao aS aq:List Int):Int→e5
 | a=>⟨some 4,[(8,.bF 0 0 0 au.length),(9,.bF 1 0 0 er),(10,.bF 2 0 0 fV),(11,.n .i64 bc),(12,.bF 3 0 0 aq.length),(13,.n .i64 ed),(15,.n .i64 a)],[(ay 1 J au),(ay 1 J ao),[af.mk 1 (aS.map J) .iC],(ay 1 J aq)]⟩
def uZ (er fV:Nat)(bc ed:Int)(au ao aS aq:List Int)(nQ hZ:Int):Option ((Int×Int)⊕(Int)) :=
 if (decide ((1000000000:Int)≤nQ))=true then
  if 0≤(U (bc-(1:Int)))∧(U (bc-(1:Int)))<(fV:Nat) then
  aS[(0+(U (bc-(1:Int))).toNat)]? >>= fun aO =>
  if (decide ((1000000000:Int)≤(U (hZ+aO))))=true then
   some (.inr (U (nQ-(1:Int))))
  else
   some (.inl (U (nQ-(1:Int)),U (hZ+aO)))
  else none
 else
  if 0≤(U (bc-(2:Int)))∧(U (bc-(2:Int)))<(fV:Nat) then
  aS[(0+(U (bc-(2:Int))).toNat)]? >>= fun aO =>
  if 0≤(U ((U (ed+bc))-(2:Int)))∧(U ((U (ed+bc))-(2:Int)))<(er:Nat) then
  ao[(0+(U ((U (ed+bc))-(2:Int))).toNat)]? >>= fun bO =>
  if (decide ((U ((U (hZ*(1000000000:Int)))+bO))<(U (nQ*aO))))=true then
   if 0≤(U (bc-(1:Int)))∧(U (bc-(1:Int)))<(fV:Nat) then
   aS[(0+(U (bc-(1:Int))).toNat)]? >>= fun jf =>
   if (decide ((1000000000:Int)≤(U (hZ+jf))))=true then
    some (.inr (U (nQ-(1:Int))))
   else
    some (.inl (U (nQ-(1:Int)),U (hZ+jf)))
   else none
  else
   some (.inr nQ)
  else none
  else none
def IR (er fV:Nat)(bc ed:Int)(au ao aS aq:List Int)(nQ hZ:Int):Option (Int):=iter (fun w:Int×Int=>uZ er fV bc ed au ao aS aq w.1 w.2) (nQ,hZ)
theorem Un {er fV:Nat}{bc ed:Int}{au ao aS aq:List Int}{nQ hZ:Int}:b4 (uZ er fV bc ed au ao aS aq nQ hZ) (fG bx 172 0 91 [1,1,1,1,1,1,1,1,0,1,0,0,1,0,0,1,1,0,0,0] (Ib er fV bc ed au ao aS aq (nQ,hZ)) (Ib er fV bc ed au ao aS aq) (Ij er fV bc ed au ao aS aq)):=by
 unfold uZ
 exact .ite (fun o =>
  .bl fun R =>
  .az fun aO aD =>
  (let t1:List cL:=[.aE (ae 3 (cw 18 (ai (.al true) []))),.al true,(ab 3),.aE (bT 5 (.cq (J aO)) 2),(ab 2)];
  have a9:=((.bj o o o o o o o o (.bj o o o o o o o o (.ff o o o bP R.1 R.2 (cz J aD)))):c3 _);
  .ite (fun aM =>
  .ret (b0 (t1.append [.al true,.bm [0,1,2,3] [.pure,.pure,.pure,.pure] (bY [8,9,10,11,12,13,15])]) (a9.aY (.dr aM (aG 1 .live aF au) (aG 1 .live aF ao) (aG 1 .iC aF aS) (aG 1 .live aF aq)))))
  (fun aM =>
  .ret (b0 (t1.append [.al false,.bm [0,1,2,3] [.pure,.pure,.pure,.pure] (bY [8,9,10,11,12,13,15,16])]) (a9.aY (.dr aM (aG 1 .live aF au) (aG 1 .live aF ao) (aG 1 .iC aF aS) (aG 1 .live aF aq)))))))
  (fun o =>
  .bl fun R =>
  .az fun aO aD =>
  .bl fun aM =>
  .az fun bO bQ =>
  (let t1:List cL:=[.aE (ae 8 (ai (.cq (J aO)) (ae 9 (ai (.cq (J bO)) (ae 2 (ai (.al false) []))))))];
  have a9:=((.bj o o o o o R.1 R.2 o (.bj (cz J aD) o o o o o o o (.bj o o aM.1 aM.2 o (cz J bQ) o o (.aw o)))):c3 _);
  .ite (fun bn =>
  .bl fun cA =>
  .az fun jf cK =>
  (let t3:List cL:=t1.append [.al true,(ab 3),.aE (bT 5 (.cq (J jf)) 2),(ab 2)];
  .ite (fun dc =>
  .ret (b0 (t3.append [.al true,.bm [0,1,2,3] [.pure,.pure,.pure,.pure] (bY [8,9,10,11,12,13,15])]) (a9.aY (.bj bn cA.1 cA.2 (cz J cK) dc (aG 1 .live aF au) (aG 1 .live aF ao) (aG 1 .iC aF aS) (.aw (aG 1 .live aF aq))))))
  (fun dc =>
  .ret (b0 (t3.append [.al false,.bm [0,1,2,3] [.pure,.pure,.pure,.pure] (bY [8,9,10,11,12,13,15,16])]) (a9.aY (.bj bn cA.1 cA.2 (cz J cK) dc (aG 1 .live aF au) (aG 1 .live aF ao) (aG 1 .iC aF aS) (.aw (aG 1 .live aF aq))))))))
  (fun bn =>
  .ret (b0 (t1.append [.al false,.bm [0,1,2,3] [.pure,.pure,.pure,.pure] (bY [8,9,10,11,12,13,15])]) (a9.aY (.dr bn (aG 1 .live aF au) (aG 1 .live aF ao) (aG 1 .iC aF aS) (aG 1 .live aF aq)))))))
theorem Vb {er fV:Nat}{bc ed:Int}{au ao aS aq:List Int}{nQ hZ:Int}{r} (h:IR er fV bc ed au ao aS aq nQ hZ=some r):fH bx 172 0 91 [1,1,1,1,1,1,1,1,0,1,0,0,1,0,0,1,1,0,0,0] (Ib er fV bc ed au ao aS aq) (Ij er fV bc ed au ao aS aq) (nQ,hZ) r:=fI (fun _=>Un) h
def Ic (er fV:Nat)(bc:Int)(au aS:List Int):(Int×(List Int)×(List Int))→S:=fun (ed,ao,aq)=>e2 [(8,.bF 0 0 0 au.length),(9,.bF 1 0 0 er),(10,.bF 2 0 0 fV),(11,.n .i64 bc),(12,.bF 3 0 0 aq.length),(13,.n .i64 ed)] [(ay 1 J au),(ay 1 J ao),[af.mk 1 (aS.map J) .iC],(ay 1 J aq)]
def Ik (er fV:Nat)(bc:Int)(au aS:List Int):((List Int)×(List Int))→e5
 | a=>⟨some 2,[(8,.bF 0 0 0 au.length),(9,.bF 1 0 0 er),(12,.bF 2 0 0 a.2.length)],[(ay 1 J au),(ay 1 J a.1),(ay 1 J a.2)]⟩
def u0 (er fV:Nat)(bc:Int)(au aS:List Int)(ed:Int)(ao aq:List Int):Option ((Int×(List Int)×(List Int))⊕((List Int)×(List Int))) :=
 if (decide ((0:Int)≤ed))=true then
  if 0≤(U (ed+bc))∧(U (ed+bc))<(er:Nat) then
  ao[(0+(U (ed+bc)).toNat)]? >>= fun aO =>
  if 0≤(U ((U (ed+bc))-(1:Int)))∧(U ((U (ed+bc))-(1:Int)))<(er:Nat) then
  ao[(0+(U ((U (ed+bc))-(1:Int))).toNat)]? >>= fun bO =>
  if 0≤(U (bc-(1:Int)))∧(U (bc-(1:Int)))<(fV:Nat) then
  aS[(0+(U (bc-(1:Int))).toNat)]? >>= fun gy =>
  if gy≠0 then
  IR er fV bc ed au ao aS aq (U ((U ((U (aO*(1000000000:Int)))+bO)).tdiv gy)) ((U ((U (aO*(1000000000:Int)))+bO)).tmod gy) >>= fun cC =>
  if 0≤ed then
  if ed.toNat≤er then
  if 0+fV≤aS.length then
  z4 ((aS.drop 0).take fV) cC (0+ed.toNat) (er-ed.toNat) ao >>= fun ft =>
  if ft.1=true then
   xL ((aS.drop 0).take fV) (0+ed.toNat) (er-ed.toNat) ft.2 >>= fun ir =>
   if 0≤ed∧ed<(aq.length:Nat) then
   if (0+ed.toNat)<aq.length then
   some (.inl (U (ed-(1:Int)),ir,aq.set (0+ed.toNat) (U (cC-(1:Int)))))
   else none
   else none
  else
   if 0≤ed∧ed<(aq.length:Nat) then
   if (0+ed.toNat)<aq.length then
   some (.inl (U (ed-(1:Int)),ft.2,aq.set (0+ed.toNat) cC))
   else none
   else none
  else none
  else none
  else none
  else none
  else none
  else none
  else none
 else
  some (.inr (ao,aq))
def IU (er fV:Nat)(bc:Int)(au aS:List Int)(ed:Int)(ao aq:List Int):Option ((List Int)×(List Int)):=iter (fun w:Int×(List Int)×(List Int)=>u0 er fV bc au aS w.1 w.2.1 w.2.2) (ed,ao,aq)
theorem Uo {er fV:Nat}{bc:Int}{au aS:List Int}{ed:Int}{ao aq:List Int}:b4 (u0 er fV bc au aS ed ao aq) (fG bx 172 0 91 [1,1,1,1,1,1,1,1,0,1,0,0] (Ic er fV bc au aS (ed,ao,aq)) (Ic er fV bc au aS) (Ik er fV bc au aS)):=by
 unfold u0
 exact .ite (fun o =>
  .bl fun R =>
  .az fun aO aD =>
  .bl fun aM =>
  .az fun bO bQ =>
  .bl fun bn =>
  .az fun gy de =>
  .bl fun cK =>
  .az fun cC dT =>
  .bl fun e9 =>
  .bl fun fZ =>
  .bl fun gM =>
  .az fun ft ia =>
  (let t1:List cL:=[(ab 2),.al true,.aE (ae 5 (ai (.cq (J aO)) (bT 7 (.cq (J bO)) 2))),.aE (ae 5 (ai (.cq (J gy)) (bT 6 (.cq (J gy)) 3))),.bm [0,1,2,3] [.pure,.pure,.pure,.pure] (bY [8,9,10,11,12,13,15,16]),(Ij er fV bc ed au ao aS aq cC).gC,.aE (ae 5 (ai (.call {aQ:=[.row 1],cO:=[.pure],ac:=[ii,.bE (.cx (.eU (((aS.drop 0).take fV).map J))),ii],r:= .b ft.1,d4:=[(ay 1 J ft.2)],fu:=ii,gd:=[.pure],dG:=[1,2],dD:=false}) []))];
  have a9:=((.bj o R.1 R.2 (cz J aD) aM.1 aM.2 (cz J bQ) bn.1 (.bj bn.2 (cz J de) cK bn.1 bn.2 (cz J de) cK (aG 1 .live aF au) (.bj (aG 1 .live aF ao) (aG 1 .iC aF aS) (aG 1 .live aF aq) (Vb dT) e9 fZ (Nat.le_refl er) (Jx (el J aS) 0 fV) (.dr (tR (el J aS) gM) (d3 aF ((aS.drop 0).take fV)) (fa 1 aF ao) (fa 1 aF ft.2) (Vl ft ia))))):c3 _);
  .ite (fun j7 =>
  .az fun ir lS =>
  .bl fun hn =>
  .bl fun je =>
  .ret (let aW:=(U (cC-(1:Int)));b0 (t1.append [.al true,(ab 3),.aE (ae 4 (ai (.call {aQ:=[.row 1],cO:=[.pure],ac:=[ii,.bE (.cx (.eU (((aS.drop 0).take fV).map J)))],r:= .dB [],d4:=[(ay 1 J ir)],fu:=ii,gd:=[.pure],dG:=[1,2],dD:=false}) [])),.aE (ae 4 (ai .dh [])),(ab 3),.bm [0,1,2,3] [.pure,.pure,.pure,.eg (ay 1 J (aq.set (0+ed.toNat) aW))] [(8,ii),(9,ii),(10,ii),(11,ii),(12,ha ((aq.set (0+ed.toNat) aW).length)),(13,ii)]]) (a9.aY (.bj j7 e9 fZ (Nat.le_refl er) (Jx (el J aS) 0 fV) (tR (el J aS) gM) (d3 aF ((aS.drop 0).take fV)) (fa 1 aF ft.2) (.bj (fa 1 aF ir) (Vm ir lS) hn.1 hn.2 (hR J je) (hG 1) (aG 1 .live aF au) (aG 1 .live aF ir) (.dn (aG 1 .iC aF aS) (e6 1 .live (gE (el J aq) (0+ed.toNat) aW)) (aG 1 .live aF (aq.set (0+ed.toNat) aW)) (gZ (fq aq) (0+ed.toNat) aW)))))))
  (fun j7 =>
  .bl fun jJ =>
  .bl fun lS =>
  .ret (b0 (t1.append [.al false,.aE (ae 4 (ai .dh [])),(ab 3),.bm [0,1,2,3] [.pure,.pure,.pure,.eg (ay 1 J (aq.set (0+ed.toNat) cC))] [(8,ii),(9,ii),(10,ii),(11,ii),(12,ha ((aq.set (0+ed.toNat) cC).length)),(13,ii)]]) (a9.aY (.bj j7 jJ.1 jJ.2 (hR J lS) (hG 1) (aG 1 .live aF au) (aG 1 .live aF ft.2) (aG 1 .iC aF aS) (.b1 (e6 1 .live (gE (el J aq) (0+ed.toNat) cC)) (aG 1 .live aF (aq.set (0+ed.toNat) cC)) (gZ (fq aq) (0+ed.toNat) cC))))))))
  (fun o =>
  .ret (b0 [(ab 2),.al false,.bm [0,1,3] [.pure,.pure,.pure] (bY [8,9,12])] (.dn o (aG 1 .live aF au) (aG 1 .live aF ao) (aG 1 .live aF aq))))
theorem Vc {er fV:Nat}{bc:Int}{au aS:List Int}{ed:Int}{ao aq:List Int}{r} (h:IU er fV bc au aS ed ao aq=some r):fH bx 172 0 91 [1,1,1,1,1,1,1,1,0,1,0,0] (Ic er fV bc au aS) (Ik er fV bc au aS) (ed,ao,aq) r:=fI (fun _=>Uo) h
def sO (a7 aV:List Int):Option ((List Int)×(List Int)) :=
 p9 a7 aV >>= fun an =>
 if (decide (an<(0:Int)))=true then
  vo a7 >>= fun bz =>
  some (([]:List Int),bz)
 else
  if ((len_ J aV) == (1:Int))=true then
   if 0≤(0:Int)∧(0:Int)<aV.length then
   aV[0]? >>= fun bO =>
   xC a7 bO >>= fun fz =>
   u4 (IntKind.wrap .u64 fz.2) >>= fun fL =>
   some (fz.1,fL)
   else none
  else
   if 0≤(U ((len_ J aV)-(1:Int)))∧(U ((len_ J aV)-(1:Int)))<aV.length then
   aV[(U ((len_ J aV)-(1:Int))).toNat]? >>= fun bO =>
   if (U (bO+(1:Int)))≠0 then
   xI a7 ([U ((1000000000:Int).tdiv (U (bO+(1:Int))))]:List Int) >>= fun bs =>
   if bs.1≤bs.2.length then
   if (bs.2.take bs.1++([0]:List Int)).length*8≤140737488355328 then
   xI aV ([U ((1000000000:Int).tdiv (U (bO+(1:Int))))]:List Int) >>= fun fF =>
   Dz a7 fF.1 ([U ((1000000000:Int).tdiv (U (bO+(1:Int))))]:List Int) fF.2 (bs.2.take bs.1++([0]:List Int)) >>= fun dY =>
   if 0≤(U (((dY.length:Nat):Int)-((fF.1:Nat):Int)))∧(8:Int)*(U (((dY.length:Nat):Int)-((fF.1:Nat):Int)))≤281474976710656∧(U (((dY.length:Nat):Int)-((fF.1:Nat):Int)))<9223372036854775808 then
   IU dY.length fF.1 ((fF.1:Nat):Int) ([U ((1000000000:Int).tdiv (U (bO+(1:Int))))]:List Int) fF.2 (U ((U (((dY.length:Nat):Int)-((fF.1:Nat):Int)))-(1:Int))) dY (List.replicate (U (((dY.length:Nat):Int)-((fF.1:Nat):Int))).toNat 0:List Int) >>= fun ea =>
   if 0+dY.length≤ea.1.length then
   qL ((ea.1.drop 0).take dY.length) >>= fun fW =>
   if 0≤(0:Int)∧(0:Int)<(([U ((1000000000:Int).tdiv (U (bO+(1:Int))))]:List Int).length:Nat) then
   ([U ((1000000000:Int).tdiv (U (bO+(1:Int))))]:List Int)[0]? >>= fun tp =>
   xC fW tp >>= fun lz =>
   qL ea.2 >>= fun kL =>
   some (kL,lz.1)
   else none
   else none
   else none
   else none
   else none
   else none
   else none
theorem DA {a7 aV:List Int}:b4 (sO a7 aV) (fun r=>Con bx 91 [.isl 1 (a7.map J),.isl 1 (aV.map J)] [] (.dB [.isl 1 (r.1.map J),.isl 1 (r.2.map J)]) []):=by
 unfold sO
 exact .az fun an R =>
  (let t1:List cL:=[(ab 2),.aE (bT 2 (bA 2 (.n .i64 an) true) 1)];
  have a9:=((.aC (xy an R) (cf.n .i64 an)):c3 _);
  .ite (fun ad =>
  .az fun bz aM =>
  .ret (bM (t1.append [.al true,.aE (bT 1 (bA 1 (.isl 1 (bz.map J)) false) 2)]) (a9.aY (.aC ad (Jd bz aM))) (.comp [.cx (.lU 1),.cx .id])))
  (fun ad =>
  .ite (fun aD =>
  .bl fun aM =>
  .az fun bO bQ =>
  .az fun fz cA =>
  .az fun fL cK =>
  .ret (bM (t1.append [.al false,(ab 3),.al true,.aE (ae 3 (ai (.cq (J bO)) (ai (bA 2 (.dB [.isl 1 (fz.1.map J),.n .i64 fz.2]) false) (ae 5 [])))),.aE (bT 3 (bA 1 (.isl 1 (fL.map J)) false) 2)]) (a9.aY (.ff ad aD aM.1 (en J aM.2) (cz J bQ) (MQ fz cA) (Ir fL cK)))))
  (fun aD =>
  .bl fun aM =>
  .az fun bO bQ =>
  .bl fun bn =>
  .az fun bs de =>
  .bl fun cK =>
  .bl fun dc =>
  .az fun fF e9 =>
  .az fun dY gM =>
  .bl fun gx =>
  .az fun ea j7 =>
  .bl fun jJ =>
  .az fun fW hn =>
  .bl fun je =>
  .az fun tp kj =>
  .az fun lz nE =>
  .az fun kL lb =>
  .ret (let aW:=(U ((1000000000:Int).tdiv (U (bO+(1:Int)))));let bk:=(U (((dY.length:Nat):Int)-((fF.1:Nat):Int)));let cc:=(bs.2.take bs.1++([0]:List Int));let cV:=(List.replicate bk.toNat 0:List Int);let d5:=(aG 1 .live aF ([aW]:List Int));bM (t1.append [.al false,(ab 3),.al false,.aE (bT 5 (.cq (J bO)) 4),.aE (ae 2 (ai (.call {aQ:=[],cO:=[],ac:=[ii,.bE (.cx (.eU (([aW]:List Int).map J)))],r:= .bF 0 0 0 bs.1,d4:=[(ay 1 J bs.2)],fu:=ii,gd:=[.pure],dG:=[17],dD:=true}) (ae 1 (ai (.aY (cc.length)) (bT 2 (.call {aQ:=[],cO:=[],ac:=[ii,.bE (.cx (.eU (([aW]:List Int).map J)))],r:= .bF 0 0 0 fF.1,d4:=[(ay 1 J fF.2)],fu:=ii,gd:=[.pure],dG:=[17],dD:=true}) 2))))),.bm [17,23,26] [.eg (ay 1 J ([aW]:List Int)),.eg (ay 1 J cc),.pure] [(0,ii),(8,ha (([aW]:List Int).length)),(9,ii),(10,ii)],(Ii a7 fF.1 ([aW]:List Int) fF.2 dY).gC,(ab 3),(ab 6),(ab 6),.bm [0,1,2,10] [.pure,.pure,.pure,.eg (ay 1 J cV)] [(8,ii),(9,ii),(10,ii),(11,ii),(12,ha (cV.length)),(13,ii)],.iC 2,.bm [0,1,2,3] [.pure,.pure,.pure,.pure] (bY [8,9,10,11,12,13]),(Ik dY.length fF.1 ((fF.1:Nat):Int) ([aW]:List Int) fF.2 ea).gC,.iC 1,.aE (ae 1 (ai (.call {ac:=[.bE (.cx (.eU (((ea.1.drop 0).take dY.length).map J)))],r:= .isl 1 (fW.map J),dD:=false,dG:=[1]}) (ae 2 (ai (.cq (J tp)) (ai (bA 2 (.dB [.isl 1 (lz.1.map J),.n .i64 lz.2]) false) (ae 5 [])))))),.iC 2,.aE (bT 1 (.call {ac:=[.bE (.cx (.eU (ea.2.map J)))],r:= .isl 1 (kL.map J),dD:=false,dG:=[2]}) 3)]) (a9.aY (.bj ad aD aM.1 (en J aM.2) (cz J bQ) bn (gY (show [[.n .i64 (U ((1000000000:Int).tdiv (U (bO+(1:Int)))))]]=(([(U ((1000000000:Int).tdiv (U (bO+(1:Int)))))]:List Int)).map J from rfl) (show 1=([(U ((1000000000:Int).tdiv (U (bO+(1:Int)))))]:List Int).length from rfl)) (kO J aW) (.bj (d3 aF ([aW]:List Int)) (fa 1 aF bs.2) (M4 bs de) (cf.bF 0 0 0 bs.1) ((Am (rs (qR rC) Ay) Ax):sm [(ay 1 J bs.2)]) (kO J 0) (tR (el J bs.2) cK) (abR J cK 0) (.bj dc (gY (show [[.n .i64 (U ((1000000000:Int).tdiv (U (bO+(1:Int)))))]]=(([(U ((1000000000:Int).tdiv (U (bO+(1:Int)))))]:List Int)).map J from rfl) (show 1=([(U ((1000000000:Int).tdiv (U (bO+(1:Int)))))]:List Int).length from rfl)) (kO J aW) (d3 aF ([aW]:List Int)) (fa 1 aF fF.2) (M4 fF e9) (cf.bF 0 0 0 fF.1) ((Am (rs (qR rC) Ay) Ax):sm [(ay 1 J fF.2)]) (.bj (e6 1 .live (show [[.n .i64 (U ((1000000000:Int).tdiv (U (bO+(1:Int)))))]]=(([(U ((1000000000:Int).tdiv (U (bO+(1:Int)))))]:List Int)).map J from rfl)) d5 (e6 1 .live (Jy (el J bs.2) bs.1 (rU J 0))) (aG 1 .live aF cc) (aG 1 .live aF fF.2) (show 1=([(U ((1000000000:Int).tdiv (U (bO+(1:Int)))))]:List Int).length from rfl) (Va gM) gx.1 (.bj (Int.le_refl bk) gx.2.1 gx.2.2 d5 (aG 1 .live aF dY) (aG 1 .live aF fF.2) (e6 1 .live (lL J bk.toNat 0)) (aG 1 .live aF cV) (.bj (lY bk.toNat (0:Int)) d5 (aG 1 .live aF dY) (aG 1 .iC aF fF.2) (aG 1 .live aF cV) (Vc j7) (Jx (el J ea.1) 0 dY.length) (tR (el J ea.1) jJ) (.bj (d3 aF ((ea.1.drop 0).take dY.length)) (u5 fW hn) je.1 je.2 (cz J kj) (MQ lz nE) (lh J ea.2) (kp J ea.2) (.aC (d3 aF ea.2) (u5 kL lb))))))))))))))
def tI (b8 dL:bg):Option bg :=
 sO b8.cY dL.cY >>= fun an =>
 lI (!(b8.du == dL.du)) an.1 >>= fun aZ =>
 some aZ
theorem G5 {b8 dL:bg}:b4 (tI b8 dL) (fun r=>Con bx 100 [.agg (aN b8),.agg (aN dL)] [] (.agg (aN r)) []):=by
 unfold tI
 exact .az fun an R =>
  .az fun aZ aD =>
  .ret (bM [(ab 3),.aE (bT 4 (bA 2 (.dB [.isl 1 (an.1.map J),.isl 1 (an.2.map J)]) false) 5),.aE (bT 6 (bA 2 (.agg (aN aZ)) false) 1)] (.aC (DA an R) (r6 aZ aD)))
def Gx (dS ct:Int)(gT jW:b6)(jF jc pj:Int)(a8:Bool)(aH:List Int)(c9:Int)(ao:List b6)(aq:List Int)(bb:List Bool)(jq:Bool)(jn:List Int)(oF:Bool)(oy:List Int):(Int×(List (List bg)))→S:=fun (fO,bC)=>e2 [(0,.ref 0 0 0 0),(1,.n .i64 dS),(2,.n .i64 ct),(6,nk 2 0 2 gT),(7,.ref 5 0 0 0),(9,nk 2 0 2 jW),(10,.ref 6 0 0 0),(30,.bF 1 0 0 ao.length),(31,.n .i64 jF),(32,.n .i64 jc),(45,.n .i64 pj),(46,.n .i64 fO)] [[af.mk 6 [(eJ 1 0 0 ao.length a8 aH 3 0 0 aq.length c9 4 0 0 bb.length)] .live],(ay 1 (bX 2 0 2) ao),(c6 2 aN bC),(ay 1 J aq),(ay 1 dO bb),[af.mk 2 [[.b jq,.isl 1 (jn.map J)]] .live],[af.mk 2 [[.b oF,.isl 1 (oy.map J)]] .live]]
def GF (dS ct:Int)(gT jW:b6)(jF jc pj:Int)(a8:Bool)(aH:List Int)(c9:Int)(ao:List b6)(aq:List Int)(bb:List Bool)(jq:Bool)(jn:List Int)(oF:Bool)(oy:List Int):(List (List bg))→e5
 | a=>⟨some 2,[(0,.ref 0 0 0 0),(1,.n .i64 dS),(2,.n .i64 ct),(6,nk 2 0 2 gT),(7,.ref 5 0 0 0),(30,.bF 1 0 0 ao.length),(31,.n .i64 jF),(32,.n .i64 jc)],[[af.mk 6 [(eJ 1 0 0 ao.length a8 aH 3 0 0 aq.length c9 4 0 0 bb.length)] .live],(ay 1 (bX 2 0 2) ao),(c6 2 aN a),(ay 1 J aq),(ay 1 dO bb),[af.mk 2 [[.b jq,.isl 1 (jn.map J)]] .live]]⟩
def wS (dS ct:Int)(gT jW:b6)(jF jc pj:Int)(a8:Bool)(aH:List Int)(c9:Int)(ao:List b6)(aq:List Int)(bb:List Bool)(jq:Bool)(jn:List Int)(oF:Bool)(oy:List Int)(fO:Int)(bC:List (List bg)):Option ((Int×(List (List bg)))⊕((List (List bg)))) :=
 if (decide (fO<pj))=true then
  jW >>= fun d6 =>
  bC[d6.1]? >>= fun j4 =>
  if 0≤fO∧fO<(d6.2:Nat) then
  j4[(0+fO.toNat)]? >>= fun gO =>
  o0 gO (⟨jq,jn⟩:bg) >>= fun bs =>
  o1 (⟨oF,oy⟩:bg) >>= fun fk =>
  if (fk != (0:Int))=true then
   gT >>= fun vY =>
   bC[vY.1]? >>= fun y6 =>
   if 0≤fO∧fO<(vY.2:Nat) then
   y6[(0+fO.toNat)]? >>= fun rP =>
   o1 rP >>= fun fW =>
   if (fW != (0:Int))=true then
    o0 (⟨oF,oy⟩:bg) rP >>= fun lc =>
    sE bs lc >>= fun lz =>
    tI lz (⟨a8,aH⟩:bg) >>= fun kL =>
    some (.inl (U (fO+(1:Int)),bC.set d6.1 (j4.set (0+fO.toNat) kL)))
   else
    tI bs (⟨a8,aH⟩:bg) >>= fun lc =>
    some (.inl (U (fO+(1:Int)),bC.set d6.1 (j4.set (0+fO.toNat) lc)))
   else none
  else
   tI bs (⟨a8,aH⟩:bg) >>= fun dm =>
   some (.inl (U (fO+(1:Int)),bC.set d6.1 (j4.set (0+fO.toNat) dm)))
  else none
 else
  some (.inr bC)
def CM (dS ct:Int)(gT jW:b6)(jF jc pj:Int)(a8:Bool)(aH:List Int)(c9:Int)(ao:List b6)(aq:List Int)(bb:List Bool)(jq:Bool)(jn:List Int)(oF:Bool)(oy:List Int)(fO:Int)(bC:List (List bg)):Option ((List (List bg))):=iter (fun w:Int×(List (List bg))=>wS dS ct gT jW jF jc pj a8 aH c9 ao aq bb jq jn oF oy w.1 w.2) (fO,bC)
theorem Tc {dS ct:Int}{gT jW:b6}{jF jc pj:Int}{a8:Bool}{aH:List Int}{c9:Int}{ao:List b6}{aq:List Int}{bb:List Bool}{jq:Bool}{jn:List Int}{oF:Bool}{oy:List Int}{fO:Int}{bC:List (List bg)}:b4 (wS dS ct gT jW jF jc pj a8 aH c9 ao aq bb jq jn oF oy fO bC) (fG bx 128 5 88 [1,1,0,1,0,0,1,1,0,0,1,1,1,1,0,0] (Gx dS ct gT jW jF jc pj a8 aH c9 ao aq bb jq jn oF oy (fO,bC)) (Gx dS ct gT jW jF jc pj a8 aH c9 ao aq bb jq jn oF oy) (GF dS ct gT jW jF jc pj a8 aH c9 ao aq bb jq jn oF oy)):=by
 unfold wS
 exact .ite (fun o =>
  .az fun d6 ad =>
  .az fun j4 aM =>
  .bl fun bq =>
  .az fun gO bn =>
  .az fun bs de =>
  .az fun fk dc =>
  (let jK:=l2 (iU .live 2 aN bC) lG aM;let t1:List cL:=[(ab 1),.al true,(ab 2),.aE (ae 2 (ai (.fe 49 (.bF 2 (d6.1+0) 0 d6.2) (.hz (af.mk 2 (j4.map aN) .live) [])) (ai (.hz (af.mk 2 (j4.map aN) .live) (aN gO)) (bT 1 (bA 2 (.agg (aN bs)) false) 2))))];
  have a9:=((.bj o (o5 (ek:=2) (c:=0) (sz:=2) ad) jK bq.1 bq.2 jK (cz aN bn) (uU bs de) (.aC (sC fk dc) (cf.n .i64 fk))):c3 _);
  .ite (fun dT =>
  .az fun vY fZ =>
  .az fun y6 gx =>
  .bl fun ia =>
  .az fun rP jJ =>
  .az fun fW hn =>
  (let jO:=l2 (iU .live 2 aN bC) lG gx;let t3:List cL:=t1.append [.aE (ae 1 (ai (bA 1 (.n .i64 fk) true) (ae 4 (ai (.fe 59 (.bF 2 (vY.1+0) 0 vY.2) (.hz (af.mk 2 (y6.map aN) .live) [])) (ai (.hz (af.mk 2 (y6.map aN) .live) (aN rP)) (ai (bA 1 (.n .i64 fW) true) (ae 1 (ai (.al true) []))))))))];
  have fv:=a9.aY (.bj dT dT dT (o5 (ek:=2) (c:=0) (sz:=2) fZ) jO ia.1 ia.2 dT (.ff jO (cz aN jJ) dT (sC fW hn) (cf.n .i64 fW) dT dT));
  .ite (fun je =>
  .az fun lc kj =>
  .az fun lz nE =>
  .az fun kL lb =>
  .ret (let aW:=l2 (iU .live 2 aN bC) lG gx;let bk:=l2 (iU .live 2 aN bC) lG aM;let cc:=c8 [0,1,2,3,4,5,6];b0 (t3.append [.al true,.aE (ae 4 (ai (.fe 68 (.bF 2 (vY.1+0) 0 vY.2) (.hz (af.mk 2 (y6.map aN) .live) [])) (ai (.hz (af.mk 2 (y6.map aN) .live) (aN rP)) (ai (bA 2 (.agg (aN lc)) false) (ai (bA 2 (.agg (aN lz)) false) (ae 1 [])))))),.aE (ae 7 (ai (bA 2 (.agg (aN kL)) false) (ai (.fe 74 (.bF 2 (d6.1+0) 0 d6.2) (.hz (af.mk 2 (j4.map aN) .live) [])) (ai (.hz (af.mk 2 (j4.map aN) .live) (aN gO)) [])))),(ab 2),.bm [0,1,2,3,4,5,6] [.box [.id,.id,.id,.id,.id,.id],.bD (ay 1 (bX 2 0 2) ao),.bD (c6 2 aN (bC.set d6.1 (j4.set (0+fO.toNat) kL))),.pure,.pure,.box [.id,.id],.box [.id,.id]] (bY [0,1,2,6,7,9,10,30,31,32,45,46])]) (fv.aY (.bj je (o5 (ek:=2) (c:=0) (sz:=2) fZ) aW ia.1 ia.2 aW (cz aN jJ) (uU lc kj) (.bj (Hg lz nE) (G5 kL lb) (o5 (ek:=2) (c:=0) (sz:=2) ad) bk bq.1 bq.2 bk (cz aN bn) (.dn (eW cc 2 2 0 2 rfl ao) (qO (b7:=cc) (sb (iU .live 2 aN bC) d6.1 (mU (el aN j4) (0+fO.toNat) kL (rfl:(setCells (aN gO) 0 (aN kL))=aN kL))) (oB ef)) (aG 1 .live aF aq) (aG 1 .live ec bb)))))))
  (fun je =>
  .az fun lc kj =>
  .ret (let cV:=l2 (iU .live 2 aN bC) lG aM;let d5:=c8 [0,1,2,3,4,5,6];b0 (t3.append [.al false,.aE (ae 7 (ai (bA 2 (.agg (aN lc)) false) (ai (.fe 74 (.bF 2 (d6.1+0) 0 d6.2) (.hz (af.mk 2 (j4.map aN) .live) [])) (ai (.hz (af.mk 2 (j4.map aN) .live) (aN gO)) [])))),(ab 2),.bm [0,1,2,3,4,5,6] [.box [.id,.id,.id,.id,.id,.id],.bD (ay 1 (bX 2 0 2) ao),.bD (c6 2 aN (bC.set d6.1 (j4.set (0+fO.toNat) lc))),.pure,.pure,.box [.id,.id],.box [.id,.id]] (bY [0,1,2,6,7,9,10,30,31,32,45,46])]) (fv.aY (.bj je (G5 lc kj) (o5 (ek:=2) (c:=0) (sz:=2) ad) cV bq.1 bq.2 cV (cz aN bn) (.dn (eW d5 2 2 0 2 rfl ao) (qO (b7:=d5) (sb (iU .live 2 aN bC) d6.1 (mU (el aN j4) (0+fO.toNat) lc (rfl:(setCells (aN gO) 0 (aN lc))=aN lc))) (oB ef)) (aG 1 .live aF aq) (aG 1 .live ec bb))))))))
  (fun dT =>
  .az fun dm fZ =>
  .ret (let fB:=l2 (iU .live 2 aN bC) lG aM;let hE:=c8 [0,1,2,3,4,5,6];b0 (t1.append [.aE (ae 1 (ai (bA 1 (.n .i64 fk) true) (ae 2 (cw 6 (ai (.al false) []))))),.al false,.aE (ae 7 (ai (bA 2 (.agg (aN dm)) false) (ai (.fe 74 (.bF 2 (d6.1+0) 0 d6.2) (.hz (af.mk 2 (j4.map aN) .live) [])) (ai (.hz (af.mk 2 (j4.map aN) .live) (aN gO)) [])))),(ab 2),.bm [0,1,2,3,4,5,6] [.box [.id,.id,.id,.id,.id,.id],.bD (ay 1 (bX 2 0 2) ao),.bD (c6 2 aN (bC.set d6.1 (j4.set (0+fO.toNat) dm))),.pure,.pure,.box [.id,.id],.box [.id,.id]] (bY [0,1,2,6,7,9,10,30,31,32,45,46])]) (a9.aY (.bj dT dT dT dT dT dT dT dU (.bj (G5 dm fZ) (o5 (ek:=2) (c:=0) (sz:=2) ad) fB bq.1 bq.2 fB (cz aN bn) (eW hE 2 2 0 2 rfl ao) (.b1 (qO (b7:=hE) (sb (iU .live 2 aN bC) d6.1 (mU (el aN j4) (0+fO.toNat) dm (rfl:(setCells (aN gO) 0 (aN dm))=aN dm))) (oB ef)) (aG 1 .live aF aq) (aG 1 .live ec bb)))))))))
  (fun o =>
  .ret (let fD:=c8 [0,1,2,3,4,5];b0 [(ab 1),.al false,.bm [0,1,2,3,4,5] [.box [.id,.id,.id,.id,.id,.id],.bD (ay 1 (bX 2 0 2) ao),.bD (c6 2 aN bC),.pure,.pure,.box [.id,.id]] (bY [0,1,2,6,7,30,31,32])] (.dr o (eW fD 2 2 0 2 rfl ao) (e1 fD 2 ef bC) (aG 1 .live aF aq) (aG 1 .live ec bb))))
theorem Tv {dS ct:Int}{gT jW:b6}{jF jc pj:Int}{a8:Bool}{aH:List Int}{c9:Int}{ao:List b6}{aq:List Int}{bb:List Bool}{jq:Bool}{jn:List Int}{oF:Bool}{oy:List Int}{fO:Int}{bC:List (List bg)}{r} (h:CM dS ct gT jW jF jc pj a8 aH c9 ao aq bb jq jn oF oy fO bC=some r):fH bx 128 5 88 [1,1,0,1,0,0,1,1,0,0,1,1,1,1,0,0] (Gx dS ct gT jW jF jc pj a8 aH c9 ao aq bb jq jn oF oy) (GF dS ct gT jW jF jc pj a8 aH c9 ao aq bb jq jn oF oy) (fO,bC) r:=fI (fun _=>Tc) h
def Gy (dS ct:Int)(gT:b6)(jF:Int)(a8:Bool)(aH:List Int)(c9:Int)(ao:List b6)(aq:List Int)(bb:List Bool)(jq:Bool)(jn:List Int):(Int×(List (List bg)))→S:=fun (jc,bC)=>e2 [(0,.ref 0 0 0 0),(1,.n .i64 dS),(2,.n .i64 ct),(6,nk 2 0 2 gT),(7,.ref 5 0 0 0),(30,.bF 1 0 0 ao.length),(31,.n .i64 jF),(32,.n .i64 jc)] [[af.mk 6 [(eJ 1 0 0 ao.length a8 aH 3 0 0 aq.length c9 4 0 0 bb.length)] .live],(ay 1 (bX 2 0 2) ao),(c6 2 aN bC),(ay 1 J aq),(ay 1 dO bb),[af.mk 2 [[.b jq,.isl 1 (jn.map J)]] .live]]
def GG (dS ct:Int)(gT:b6)(jF:Int)(a8:Bool)(aH:List Int)(c9:Int)(ao:List b6)(aq:List Int)(bb:List Bool)(jq:Bool)(jn:List Int):(List (List bg))→e5
 | a=>⟨some 0,[(0,.ref 0 0 0 0),(1,.n .i64 dS),(2,.n .i64 ct),(7,.ref 5 0 0 0)],[[af.mk 6 [(eJ 1 0 0 ao.length a8 aH 3 0 0 aq.length c9 4 0 0 bb.length)] .live],(ay 1 (bX 2 0 2) ao),(c6 2 aN a),(ay 1 J aq),(ay 1 dO bb),[af.mk 2 [[.b jq,.isl 1 (jn.map J)]] .live]]⟩
def wT (dS ct:Int)(gT:b6)(jF:Int)(a8:Bool)(aH:List Int)(c9:Int)(ao:List b6)(aq:List Int)(bb:List Bool)(jq:Bool)(jn:List Int)(jc:Int)(bC:List (List bg)):Option ((Int×(List (List bg)))⊕((List (List bg)))) :=
 if (decide (jc<jF))=true then
  if 0≤jc∧jc<(ao.length:Nat) then
  ao[(0+jc.toNat)]? >>= fun aO =>
  if (jc == dS)=true then
   some (.inl (U (jc+(1:Int)),bC))
  else
   aO >>= fun rl =>
   bC[rl.1]? >>= fun Co =>
   if 0≤ct∧ct<(rl.2:Nat) then
   Co[(0+ct.toNat)]? >>= fun ju =>
   CM dS ct gT aO jF jc ((rl.2:Nat):Int) a8 aH c9 ao aq bb jq jn ju.du ju.cY 0 bC >>= fun fF =>
   some (.inl (U (jc+(1:Int)),fF))
   else none
  else none
 else
  some (.inr bC)
def CN (dS ct:Int)(gT:b6)(jF:Int)(a8:Bool)(aH:List Int)(c9:Int)(ao:List b6)(aq:List Int)(bb:List Bool)(jq:Bool)(jn:List Int)(jc:Int)(bC:List (List bg)):Option ((List (List bg))):=iter (fun w:Int×(List (List bg))=>wT dS ct gT jF a8 aH c9 ao aq bb jq jn w.1 w.2) (jc,bC)
theorem Td {dS ct:Int}{gT:b6}{jF:Int}{a8:Bool}{aH:List Int}{c9:Int}{ao:List b6}{aq:List Int}{bb:List Bool}{jq:Bool}{jn:List Int}{jc:Int}{bC:List (List bg)}:b4 (wT dS ct gT jF a8 aH c9 ao aq bb jq jn jc bC) (fG bx 128 5 88 [1,1,0,1,0,0] (Gy dS ct gT jF a8 aH c9 ao aq bb jq jn (jc,bC)) (Gy dS ct gT jF a8 aH c9 ao aq bb jq jn) (GG dS ct gT jF a8 aH c9 ao aq bb jq jn)):=by
 unfold wT
 exact .ite (fun o =>
  .bl fun R =>
  .az fun aO aD =>
  (let t1:List cL:=[(ab 1),.al true,.aE (bT 2 (.cq ((bX 2 0 2) aO)) 2),(ab 3)];
  have a9:=((.dn o R.1 R.2 (cz (bX 2 0 2) aD)):c3 _);
  .ite (fun aM =>
  .ret (let aW:=c8 [0,1,2,3,4,5];b0 (t1.append [.al true,(ab 2),.bm [0,1,2,3,4,5] [.box [.id,.id,.id,.id,.id,.id],.bD (ay 1 (bX 2 0 2) ao),.bD (c6 2 aN bC),.pure,.pure,.box [.id,.id]] (bY [0,1,2,6,7,30,31,32])]) (a9.aY (.dr aM (eW aW 2 2 0 2 rfl ao) (e1 aW 2 ef bC) (aG 1 .live aF aq) (aG 1 .live ec bb)))))
  (fun aM =>
  .az fun rl bQ =>
  .az fun Co cA =>
  .bl fun de =>
  .az fun ju dc =>
  .az fun fF e9 =>
  .ret (let bk:=l2 (iU .live 2 aN bC) lG cA;let cc:=c8 [0,1,2,3,4,5,19];let cV:=c8 [0,1,2,3,4,5];b0 (t1.append [.al false,.aE (ae 2 (ai (.fe 40 (.bF 2 (rl.1+0) 0 rl.2) (.hz (af.mk 2 (Co.map aN) .live) [])) (ai (.hz (af.mk 2 (Co.map aN) .live) (aN ju)) (ae 2 [])))),.aE (bT 1 (.fe 44 (.bF 2 (rl.1+0) 0 rl.2) (.hz (af.mk 2 (Co.map aN) .live) [])) 1),.bm [0,1,2,3,4,5,19] [.box [.id,.id,.id,.id,.id,.id],.bD (ay 1 (bX 2 0 2) ao),.bD (c6 2 aN bC),.pure,.pure,.box [.id,.id],.box [.id,.id]] (bY [0,1,2,6,7,9,10,30,31,32,45,46]),(GF dS ct gT aO jF jc ((rl.2:Nat):Int) a8 aH c9 ao aq bb jq jn ju.du ju.cY fF).gC,(ab 2),.bm [0,1,2,3,4,5] [.box [.id,.id,.id,.id,.id,.id],.bD (ay 1 (bX 2 0 2) ao),.bD (c6 2 aN fF),.pure,.pure,.box [.id,.id]] (bY [0,1,2,6,7,30,31,32])]) (a9.aY (.bj aM (o5 (ek:=2) (c:=0) (sz:=2) bQ) bk de.1 de.2 bk (cz aN dc) (o5 (ek:=2) (c:=0) (sz:=2) bQ) (.bj bk (eW cc 2 2 0 2 rfl ao) (e1 cc 2 ef bC) (aG 1 .live aF aq) (aG 1 .live ec bb) (Tv e9) (eW cV 2 2 0 2 rfl ao) (e1 cV 2 ef fF) (.aC (aG 1 .live aF aq) (aG 1 .live ec bb)))))))))
  (fun o =>
  .ret (let d5:=c8 [0,1,2,3,4,5];b0 [(ab 1),.al false,.bm [0,1,2,3,4,5] [.box [.id,.id,.id,.id,.id,.id],.bD (ay 1 (bX 2 0 2) ao),.bD (c6 2 aN bC),.pure,.pure,.box [.id,.id]] (bY [0,1,2,7])] (.dr o (eW d5 2 2 0 2 rfl ao) (e1 d5 2 ef bC) (aG 1 .live aF aq) (aG 1 .live ec bb))))
theorem Tw {dS ct:Int}{gT:b6}{jF:Int}{a8:Bool}{aH:List Int}{c9:Int}{ao:List b6}{aq:List Int}{bb:List Bool}{jq:Bool}{jn:List Int}{jc:Int}{bC:List (List bg)}{r} (h:CN dS ct gT jF a8 aH c9 ao aq bb jq jn jc bC=some r):fH bx 128 5 88 [1,1,0,1,0,0] (Gy dS ct gT jF a8 aH c9 ao aq bb jq jn) (GG dS ct gT jF a8 aH c9 ao aq bb jq jn) (jc,bC) r:=fI (fun _=>Td) h
def Gz (jW:b6)(jB jC pa:Int)(a8:Bool)(aH:List Int)(c9:Int)(ao:List b6)(aq:List Int)(bb:List Bool):(Int×(List (List bg)))→S:=fun (nt,bC)=>e2 [(14,nk 2 0 2 jW),(107,.bF 1 0 0 ao.length),(108,.n .i64 jB),(109,.n .i64 jC),(114,.n .i64 pa),(115,.n .i64 nt)] [[af.mk 6 [(eJ 1 0 0 ao.length a8 aH 3 0 0 aq.length c9 4 0 0 bb.length)] .live],(ay 1 (bX 2 0 2) ao),(c6 2 aN bC),(ay 1 J aq),(ay 1 dO bb)]
def GH (jW:b6)(jB jC pa:Int)(a8:Bool)(aH:List Int)(c9:Int)(ao:List b6)(aq:List Int)(bb:List Bool):(List (List bg))→e5
 | a=>⟨some 6,[(107,.bF 1 0 0 ao.length),(108,.n .i64 jB),(109,.n .i64 jC)],[[af.mk 6 [(eJ 1 0 0 ao.length a8 aH 3 0 0 aq.length c9 4 0 0 bb.length)] .live],(ay 1 (bX 2 0 2) ao),(c6 2 aN a),(ay 1 J aq),(ay 1 dO bb)]⟩
def wU (jW:b6)(jB jC pa:Int)(a8:Bool)(aH:List Int)(c9:Int)(ao:List b6)(aq:List Int)(bb:List Bool)(nt:Int)(bC:List (List bg)):Option ((Int×(List (List bg)))⊕((List (List bg)))) :=
 if (decide (nt<pa))=true then
  jW >>= fun d6 =>
  bC[d6.1]? >>= fun j4 =>
  if 0≤nt∧nt<(d6.2:Nat) then
  j4[(0+nt.toNat)]? >>= fun gO =>
  p8 gO >>= fun bs =>
  some (.inl (U (nt+(1:Int)),bC.set d6.1 (j4.set (0+nt.toNat) bs)))
  else none
 else
  some (.inr bC)
def CO (jW:b6)(jB jC pa:Int)(a8:Bool)(aH:List Int)(c9:Int)(ao:List b6)(aq:List Int)(bb:List Bool)(nt:Int)(bC:List (List bg)):Option ((List (List bg))):=iter (fun w:Int×(List (List bg))=>wU jW jB jC pa a8 aH c9 ao aq bb w.1 w.2) (nt,bC)
theorem Te {jW:b6}{jB jC pa:Int}{a8:Bool}{aH:List Int}{c9:Int}{ao:List b6}{aq:List Int}{bb:List Bool}{nt:Int}{bC:List (List bg)}:b4 (wU jW jB jC pa a8 aH c9 ao aq bb nt bC) (fG bx 128 5 88 [1,1,1,1,1,1,1,1,0,0,1,1,0,0,1,1,0,0] (Gz jW jB jC pa a8 aH c9 ao aq bb (nt,bC)) (Gz jW jB jC pa a8 aH c9 ao aq bb) (GH jW jB jC pa a8 aH c9 ao aq bb)):=by
 unfold wU
 exact .ite (fun o =>
  .az fun d6 ad =>
  .az fun j4 aM =>
  .bl fun bq =>
  .az fun gO bn =>
  .az fun bs de =>
  .ret (let aW:=l2 (iU .live 2 aN bC) lG aM;b0 [(ab 1),.al true,(ab 2),.aE (ae 4 (ai (.fe 120 (.bF 2 (d6.1+0) 0 d6.2) (.hz (af.mk 2 (j4.map aN) .live) [])) (ai (.hz (af.mk 2 (j4.map aN) .live) (aN gO)) (ai (bA 1 (.agg (aN bs)) false) (ai (.fe 118 (.bF 2 (d6.1+0) 0 d6.2) (.hz (af.mk 2 (j4.map aN) .live) [])) (ai (.hz (af.mk 2 (j4.map aN) .live) (aN gO)) [])))))),(ab 2),.bm [0,1,2,3,4] [.box [.id,.id,.id,.id,.id,.id],.bD (ay 1 (bX 2 0 2) ao),.bD (c6 2 aN (bC.set d6.1 (j4.set (0+nt.toNat) bs))),.pure,.pure] (bY [14,107,108,109,114,115])] (.bj o (o5 (ek:=2) (c:=0) (sz:=2) ad) aW bq.1 bq.2 aW (cz aN bn) (CL bs de) (.bj (o5 (ek:=2) (c:=0) (sz:=2) ad) aW bq.1 bq.2 aW (cz aN bn) (eW (c8 [0,1,2,3,4]) 2 2 0 2 rfl ao) (qO (b7:=(c8 [0,1,2,3,4])) (sb (iU .live 2 aN bC) d6.1 (mU (el aN j4) (0+nt.toNat) bs (rfl:(setCells (aN gO) 0 (aN bs))=aN bs))) (oB ef)) (.aC (aG 1 .live aF aq) (aG 1 .live ec bb))))))
  (fun o =>
  .ret (b0 [(ab 1),.al false,.bm [0,1,2,3,4] [.box [.id,.id,.id,.id,.id,.id],.bD (ay 1 (bX 2 0 2) ao),.bD (c6 2 aN bC),.pure,.pure] (bY [107,108,109])] (.dr o (eW (c8 [0,1,2,3,4]) 2 2 0 2 rfl ao) (e1 (c8 [0,1,2,3,4]) 2 ef bC) (aG 1 .live aF aq) (aG 1 .live ec bb))))
theorem Tx {jW:b6}{jB jC pa:Int}{a8:Bool}{aH:List Int}{c9:Int}{ao:List b6}{aq:List Int}{bb:List Bool}{nt:Int}{bC:List (List bg)}{r} (h:CO jW jB jC pa a8 aH c9 ao aq bb nt bC=some r):fH bx 128 5 88 [1,1,1,1,1,1,1,1,0,0,1,1,0,0,1,1,0,0] (Gz jW jB jC pa a8 aH c9 ao aq bb) (GH jW jB jC pa a8 aH c9 ao aq bb) (nt,bC) r:=fI (fun _=>Te) h
def GA (jB:Int)(a8:Bool)(aH:List Int)(c9:Int)(ao:List b6)(aq:List Int)(bb:List Bool):(Int×(List (List bg)))→S:=fun (jC,bC)=>e2 [(107,.bF 1 0 0 ao.length),(108,.n .i64 jB),(109,.n .i64 jC)] [[af.mk 6 [(eJ 1 0 0 ao.length a8 aH 3 0 0 aq.length c9 4 0 0 bb.length)] .live],(ay 1 (bX 2 0 2) ao),(c6 2 aN bC),(ay 1 J aq),(ay 1 dO bb)]
def GI (jB:Int)(a8:Bool)(aH:List Int)(c9:Int)(ao:List b6)(aq:List Int)(bb:List Bool):(List (List bg))→e5
 | a=>⟨some 4,[],[[af.mk 6 [(eJ 1 0 0 ao.length a8 aH 3 0 0 aq.length c9 4 0 0 bb.length)] .live],(ay 1 (bX 2 0 2) ao),(c6 2 aN a),(ay 1 J aq),(ay 1 dO bb)]⟩
def wV (jB:Int)(a8:Bool)(aH:List Int)(c9:Int)(ao:List b6)(aq:List Int)(bb:List Bool)(jC:Int)(bC:List (List bg)):Option ((Int×(List (List bg)))⊕((List (List bg)))) :=
 if (decide (jC<jB))=true then
  if 0≤jC∧jC<(ao.length:Nat) then
  ao[(0+jC.toNat)]? >>= fun aO =>
  aO >>= fun lH =>
  bC[lH.1]? >>= fun lV =>
  CO aO jB jC ((lH.2:Nat):Int) a8 aH c9 ao aq bb 0 bC >>= fun bs =>
  some (.inl (U (jC+(1:Int)),bs))
  else none
 else
  some (.inr bC)
def zz (jB:Int)(a8:Bool)(aH:List Int)(c9:Int)(ao:List b6)(aq:List Int)(bb:List Bool)(jC:Int)(bC:List (List bg)):Option ((List (List bg))):=iter (fun w:Int×(List (List bg))=>wV jB a8 aH c9 ao aq bb w.1 w.2) (jC,bC)
theorem Tf {jB:Int}{a8:Bool}{aH:List Int}{c9:Int}{ao:List b6}{aq:List Int}{bb:List Bool}{jC:Int}{bC:List (List bg)}:b4 (wV jB a8 aH c9 ao aq bb jC bC) (fG bx 128 5 88 [1,1,1,1,1,1,1,1,0,0] (GA jB a8 aH c9 ao aq bb (jC,bC)) (GA jB a8 aH c9 ao aq bb) (GI jB a8 aH c9 ao aq bb)):=by
 unfold wV
 exact .ite (fun o =>
  .bl fun R =>
  .az fun aO aD =>
  .az fun lH bq =>
  .az fun lV bn =>
  .az fun bs de =>
  .ret (let aW:=c8 [0,1,2,3,4];let bk:=eW aW 2 2 0 2 rfl ao;b0 [(ab 1),.al true,.aE (bT 1 (.cq ((bX 2 0 2) aO)) 1),.aE (bT 1 (.fe 113 (.bF 2 (lH.1+0) 0 lH.2) (.hz (af.mk 2 (lV.map aN) .live) [])) 1),.bm [0,1,2,3,4] [.box [.id,.id,.id,.id,.id,.id],.bD (ay 1 (bX 2 0 2) ao),.bD (c6 2 aN bC),.pure,.pure] (bY [14,107,108,109,114,115]),(GH aO jB jC ((lH.2:Nat):Int) a8 aH c9 ao aq bb bs).gC,(ab 2),.bm [0,1,2,3,4] [.box [.id,.id,.id,.id,.id,.id],.bD (ay 1 (bX 2 0 2) ao),.bD (c6 2 aN bs),.pure,.pure] (bY [107,108,109])] (.bj o R.1 R.2 (cz (bX 2 0 2) aD) (o5 (ek:=2) (c:=0) (sz:=2) bq) (l2 (iU .live 2 aN bC) lG bn) bk (e1 aW 2 ef bC) (.ff (aG 1 .live aF aq) (aG 1 .live ec bb) (Tx de) bk (e1 aW 2 ef bs) (aG 1 .live aF aq) (aG 1 .live ec bb)))))
  (fun o =>
  .ret (b0 [(ab 1),.al false,.bm [0,1,2,3,4] [.box [.id,.id,.id,.id,.id,.id],.bD (ay 1 (bX 2 0 2) ao),.bD (c6 2 aN bC),.pure,.pure] []] (.dr o (eW (c8 [0,1,2,3,4]) 2 2 0 2 rfl ao) (e1 (c8 [0,1,2,3,4]) 2 ef bC) (aG 1 .live aF aq) (aG 1 .live ec bb))))
theorem Ty {jB:Int}{a8:Bool}{aH:List Int}{c9:Int}{ao:List b6}{aq:List Int}{bb:List Bool}{jC:Int}{bC:List (List bg)}{r} (h:zz jB a8 aH c9 ao aq bb jC bC=some r):fH bx 128 5 88 [1,1,1,1,1,1,1,1,0,0] (GA jB a8 aH c9 ao aq bb) (GI jB a8 aH c9 ao aq bb) (jC,bC) r:=fI (fun _=>Tf) h
def w9 (dS ct:Int)(cg:Bool)(cH:List Int)(fJ:Int)(cW:List b6)(me:List (List bg))(dg:List Int)(hD:List Bool):Option (Bool×(List Int)×(List (List bg))×(List Int)) :=
 if 0≤dS∧dS<(cW.length:Nat) then
 cW[(0+dS.toNat)]? >>= fun fy =>
 fy >>= fun ol =>
 me[ol.1]? >>= fun zj =>
 if 0≤ct∧ct<(ol.2:Nat) then
 zj[(0+ct.toNat)]? >>= fun gy =>
 CN dS ct fy ((cW.length:Nat):Int) cg cH fJ cW dg hD gy.du gy.cY 0 me >>= fun fk =>
 if 0≤dS∧dS<(dg.length:Nat) then
 if (0+dS.toNat)<dg.length then
 o1 gy >>= fun dY =>
 if (decide ((0:Int)<dY))=true then
  some (gy.du,gy.cY,fk,dg.set (0+dS.toNat) ct)
 else
  p8 gy >>= fun ea =>
  zz ((cW.length:Nat):Int) ea.du ea.cY fJ cW (dg.set (0+dS.toNat) ct) hD 0 fk >>= fun ir =>
  some (ea.du,ea.cY,ir,dg.set (0+dS.toNat) ct)
 else none
 else none
 else none
 else none
theorem Mx {dS ct:Int}{cg:Bool}{cH:List Int}{fJ:Int}{cW:List b6}{me:List (List bg)}{dg:List Int}{hD:List Bool}:b4 (w9 dS ct cg cH fJ cW me dg hD) (fun a=>Con bx 88 [.ref 0 0 0 0,.n .i64 dS,.n .i64 ct] [[af.mk 6 [(eJ 1 0 0 cW.length cg cH 3 0 0 dg.length fJ 4 0 0 hD.length)] .live],(ay 1 (bX 2 0 2) cW),(c6 2 aN me),(ay 1 J dg),(ay 1 dO hD)] (.dB []) [[af.mk 6 [(eJ 1 0 0 cW.length a.1 a.2.1 3 0 0 a.2.2.2.length fJ 4 0 0 hD.length)] .live],(ay 1 (bX 2 0 2) cW),(c6 2 aN a.2.2.1),(ay 1 J a.2.2.2),(ay 1 dO hD)]):=by
 unfold w9
 exact .bl fun o =>
  .az fun fy ad =>
  .az fun ol aM =>
  .az fun zj bQ =>
  .bl fun bn =>
  .az fun gy de =>
  .az fun fk dc =>
  .bl fun dT =>
  .bl fun e9 =>
  .az fun dY gM =>
  (let d5:=l2 (iU .live 2 aN me) lG bQ;let fB:=c8 [0,1,2,3,4,17];let t1:List cL:=[.aE (bT 6 (.cq ((bX 2 0 2) fy)) 1),.aE (ae 2 (ai (.fe 23 (.bF 2 (ol.1+0) 0 ol.2) (.hz (af.mk 2 (zj.map aN) .live) [])) (ai (.hz (af.mk 2 (zj.map aN) .live) (aN gy)) (ae 2 [])))),(ab 6),.bm [0,1,2,3,4,17] [.box [.id,.id,.id,.id,.id,.id],.bD (ay 1 (bX 2 0 2) cW),.bD (c6 2 aN me),.pure,.pure,.box [.id,.id]] (bY [0,1,2,6,7,30,31,32]),(GG dS ct fy ((cW.length:Nat):Int) cg cH fJ cW dg hD gy.du gy.cY fk).gC,(ab 5),.aE (ae 7 (ai .dh [])),.aE (bT 1 (bA 1 (.n .i64 dY) true) 1)];
  have a9:=((.bj o.1 o.2 (cz (bX 2 0 2) ad) (o5 (ek:=2) (c:=0) (sz:=2) aM) d5 bn.1 bn.2 d5 (.bj (cz aN de) (eW fB 2 2 0 2 rfl cW) (e1 fB 2 ef me) (aG 1 .live aF dg) (aG 1 .live ec hD) (Tw dc) dT.1 dT.2 (.dn (hR J e9) (hG 1) (sC dY gM) (cf.n .i64 dY)))):c3 _);
  .ite (fun gx =>
  .ret (i1 (t1.append [.al true]) [0,1,2,3,4] [.bD [af.mk 6 [(eJ 1 0 0 cW.length gy.du gy.cY 3 0 0 ((dg.set (0+dS.toNat) ct).length) fJ 4 0 0 hD.length)] .live],.bD (ay 1 (bX 2 0 2) cW),.bD (c6 2 aN fk),.eg (ay 1 J (dg.set (0+dS.toNat) ct)),.pure] (a9.aY (.ff gx (eM (show af.mk 6 [(eJ 1 0 0 cW.length gy.du gy.cY 3 0 0 ((dg.set (0+dS.toNat) ct).length) fJ 4 0 0 hD.length)] .live=ku (c8 [0,1,2,3,4]) (af.mk 6 [(eJ 1 0 0 cW.length gy.du gy.cY 3 0 0 dg.length fJ 4 0 0 hD.length)] .live) from (congrArg (fun ac8=>af.mk 6 [(eJ 1 0 0 cW.length gy.du gy.cY 3 0 0 ac8 fJ 4 0 0 hD.length)] .live) (gZ (fq dg) (0+dS.toNat) ct).symm)) kE) (eW (c8 [0,1,2,3,4]) 2 2 0 2 rfl cW) (e1 (c8 [0,1,2,3,4]) 2 ef fk) (e6 1 .live (gE (el J dg) (0+dS.toNat) ct)) (aG 1 .live aF (dg.set (0+dS.toNat) ct)) (aG 1 .live ec hD)))))
  (fun gx =>
  .az fun ea j7 =>
  .az fun ir lS =>
  .ret (let aW:=eJ 1 0 0 cW.length ea.du ea.cY 3 0 0 ((dg.set (0+dS.toNat) ct).length) fJ 4 0 0 hD.length;let bk:=c8 [0,1,2,3,4];let cc:=aG 1 .live aF (dg.set (0+dS.toNat) ct);let cV:=eW bk 2 2 0 2 rfl cW;i1 (t1.append [.al false,.aE (bT 2 (bA 1 (.agg (aN ea)) false) 3),(ab 6),.bm [0,1,2,3,4] [.box [.id,.id,.id,.len ((dg.set (0+dS.toNat) ct).length),.id,.id],.bD (ay 1 (bX 2 0 2) cW),.bD (c6 2 aN fk),.eg (ay 1 J (dg.set (0+dS.toNat) ct)),.pure] (bY [107,108,109]),(GI ((cW.length:Nat):Int) ea.du ea.cY fJ cW (dg.set (0+dS.toNat) ct) hD ir).gC]) [0,1,2,3,4] [.bD [af.mk 6 [aW] .live],.bD (ay 1 (bX 2 0 2) cW),.bD (c6 2 aN ir),.pure,.pure] (a9.aY (.bj gx (CL ea j7) (gZ (fq dg) (0+dS.toNat) ct) cV (e1 bk 2 ef fk) (e6 1 .live (gE (el J dg) (0+dS.toNat) ct)) cc (aG 1 .live ec hD) (.eF (Ty lS) (iK bk 6 [aW] [aW] rfl) cV (e1 bk 2 ef ir) cc (aG 1 .live ec hD)))))))
def Gk (da:Int)(a8:Bool)(aH:List Int)(ao:List b6)(bC:List (List bg))(aq:List Int)(bb:List Bool)(bw:List Int):Int→S:=fun cS=>e2 [(0,.ref 0 0 0 0),(1,.bF 5 0 0 bw.length),(5,.b false),(13,.n .i64 da),(14,.n .i64 cS)] [[af.mk 6 [(eJ 1 0 0 ao.length a8 aH 3 0 0 aq.length da 4 0 0 bb.length)] .live],(ay 1 (bX 2 0 2) ao),(c6 2 aN bC),(ay 1 J aq),(ay 1 dO bb),(ay 1 J bw)]
def CC (da:Int)(a8:Bool)(aH:List Int)(ao:List b6)(bC:List (List bg))(aq:List Int)(bb:List Bool)(bw:List Int):((Bool×Bool×(List Int)×(List (List bg))×(List Int))⊕(Unit))→e5
 | .inl a=>⟨some 2,[(0,.ref 0 0 0 0),(1,.bF 5 0 0 bw.length),(5,.b a.1)],[[af.mk 6 [(eJ 1 0 0 ao.length a.2.1 a.2.2.1 3 0 0 a.2.2.2.2.length da 4 0 0 bb.length)] .live],(ay 1 (bX 2 0 2) ao),(c6 2 aN a.2.2.2.1),(ay 1 J a.2.2.2.2),(ay 1 dO bb),(ay 1 J bw)]⟩
 | .inr a=>⟨none,[(4,.b false)],[[af.mk 6 [(eJ 1 0 0 ao.length a8 aH 3 0 0 aq.length da 4 0 0 bb.length)] .live],(ay 1 (bX 2 0 2) ao),(c6 2 aN bC),(ay 1 J aq),(ay 1 dO bb),(ay 1 J bw)]⟩
def wO (da:Int)(a8:Bool)(aH:List Int)(ao:List b6)(bC:List (List bg))(aq:List Int)(bb:List Bool)(bw:List Int)(cS:Int):Option ((Int)⊕((Bool×Bool×(List Int)×(List (List bg))×(List Int))⊕(Unit))) :=
 if (decide (cS<da))=true then
  if 0≤cS∧cS<(bb.length:Nat) then
  bb[(0+cS.toNat)]? >>= fun aO =>
  if aO=true then
   xQ aq cS >>= fun cT =>
   if cT=true then
    some (.inl (U (cS+(1:Int))))
   else
    if ao.all (vV bC)=true then
    xu (⟨ao.map (mL bC),(⟨a8,aH⟩:bg),aq,da,bb⟩:rq) bw cS >>= fun fL =>
    if (decide (fL≤(0:Int)))=true then
     some (.inl (U (cS+(1:Int))))
    else
     zB (⟨ao.map (mL bC),(⟨a8,aH⟩:bg),aq,da,bb⟩:rq) cS >>= fun fF =>
     if (decide (fF<(0:Int)))=true then
      some (.inr (.inr ()))
     else
      w9 fF cS a8 aH da ao bC aq bb >>= fun cl =>
      some (.inr (.inl (true,cl.1,cl.2.1,cl.2.2.1,cl.2.2.2)))
    else none
  else
   some (.inl (U (cS+(1:Int))))
  else none
 else
  some (.inr (.inl (false,a8,aH,bC,aq)))
def w0 (da:Int)(a8:Bool)(aH:List Int)(ao:List b6)(bC:List (List bg))(aq:List Int)(bb:List Bool)(bw:List Int)(cS:Int):Option ((Bool×Bool×(List Int)×(List (List bg))×(List Int))⊕(Unit)):=iter (fun w:Int=>wO da a8 aH ao bC aq bb bw w) cS
theorem SZ {da:Int}{a8:Bool}{aH:List Int}{ao:List b6}{bC:List (List bg)}{aq:List Int}{bb:List Bool}{bw:List Int}{cS:Int}:b4 (wO da a8 aH ao bC aq bb bw cS) (fG bx 87 6 64 [1,0,1,0,0,1,0,1,1,0,0] (Gk da a8 aH ao bC aq bb bw cS) (Gk da a8 aH ao bC aq bb bw) (CC da a8 aH ao bC aq bb bw)):=by
 unfold wO
 exact .ite (fun o =>
  .bl fun R =>
  .az fun aO aD =>
  (let t1:List cL:=[(ab 1),.al true,(ab 2)];
  .ite (fun aM =>
  .az fun cT bQ =>
  (have a9:=((.bj o R.1 R.2 (cz dO aD) (cR aM) (cR aM) (cR aM) (cR aM) (.gX (cR aM) (cR aM) (lh J aq) (kp J aq) (d3 aF aq) (Ni cT bQ) (cf.b cT) (cR aM))):c3 _);
  .ite (fun bn =>
  .ret (let aW:=c8 [0,1,2,3,4,5];b0 (t1.append [.aE (ae 6 (ai (.cq (dO aO)) (ae 7 (ai (.call {ac:=[.bE (.cx (.eU (aq.map J))),ii],r:= .b cT,dD:=true,dG:=[3]}) (ai (.al false) (ae 1 (cw 5 (ai (.al true) [])))))))),.al true,(ab 2),.bm [0,1,2,3,4,5] [.box [.id,.id,.id,.id,.id,.id],.bD (ay 1 (bX 2 0 2) ao),.bD (c6 2 aN bC),.pure,.pure,.pure] (bY [0,1,5,13,14])]) (a9.aY (.bj bn bn bn bn bn bn bP (eW aW 2 2 0 2 rfl ao) (.dn (e1 aW 2 ef bC) (aG 1 .live aF aq) (aG 1 .live ec bb) (aG 1 .live aF bw))))))
  (fun bn =>
  .bl fun cA =>
  .az fun fL cK =>
  (let t3:List cL:=t1.append [.aE (ae 6 (ai (.cq (dO aO)) (ae 7 (ai (.call {ac:=[.bE (.cx (.eU (aq.map J))),ii],r:= .b cT,dD:=true,dG:=[3]}) (ai (.al false) (ae 4 (ai (.call {ac:=[.bE (.ptr [.view 2 (af.mk 1 (ao.map (bX 2 0 2)) .live) ((ao.map (mL bC)).map (fp 2 aN)),.id,.id,.eU (aq.map J),.id,.eU (bb.map dO)]),.bE (.cx (.eU (bw.map J))),ii],r:= .n .i64 fL,dD:=true,dG:=[0,1,2,3,4,5]}) (ae 1 (ai (.al false) [])))))))))];
  have fv:=a9.aY (.bj bn bn bn bn (rfl:dk (some (ay 1 (bX 2 0 2) ao)) 0=some (af.mk 1 (ao.map (bX 2 0 2)) .live)) (rfl:_=true) (kp (bX 2 0 2) ao) (d3 (qf (sz:=2) sI) (ao.map (mL bC))) (.bj (Eu (ek:=2) (j0:=[]++(c6 2 aN bC)) (bS:=mw) (sz:=1) (g:=(fp 2 aN)) (el (bX 2 0 2) ao) (fun _=>rfl) (fun x aa=>(La (ek:=2) (c:=0) (bS:=mw) (ua:=[]) (iU .live 2 aN bC) sI rfl lG rfl (JX cA x aa))) (fq ao)) (lh J aq) (kp J aq) (d3 aF aq) (lh dO bb) (kp dO bb) (d3 ec bb) (jA (Ip (⟨ao.map (mL bC),(⟨a8,aH⟩:bg),aq,da,bb⟩:rq)):gr [[.isl 1 ((ao.map (mL bC)).map (fp 2 aN)),.b a8,.isl 1 (aH.map J),.isl 1 (aq.map J),.n .i64 da,.isl 1 (bb.map dO)]]) (.ff (lh J bw) (kp J bw) (d3 aF bw) (ME fL cK) (cf.n .i64 fL) bn bn)));
  .ite (fun dc =>
  .ret (let bk:=c8 [0,1,2,3,4,5];b0 (t3.append [.al true,(ab 2),.bm [0,1,2,3,4,5] [.box [.id,.id,.id,.id,.id,.id],.bD (ay 1 (bX 2 0 2) ao),.bD (c6 2 aN bC),.pure,.pure,.pure] (bY [0,1,5,13,14])]) (fv.aY (.eF dc (eW bk 2 2 0 2 rfl ao) (e1 bk 2 ef bC) (aG 1 .live aF aq) (aG 1 .live ec bb) (aG 1 .live aF bw)))))
  (fun dc =>
  .az fun fF e9 =>
  (let t5:List cL:=t3.append [.al false,.aE (bT 2 (.call {ac:=[.bE (.ptr [.view 2 (af.mk 1 (ao.map (bX 2 0 2)) .live) ((ao.map (mL bC)).map (fp 2 aN)),.id,.id,.eU (aq.map J),.id,.eU (bb.map dO)]),ii],r:= .n .i64 fF,dD:=true,dG:=[0,1,2,3,4]}) 1),(ab 2)];
  have jj:=fv.aY (.bj dc (rfl:dk (some (ay 1 (bX 2 0 2) ao)) 0=some (af.mk 1 (ao.map (bX 2 0 2)) .live)) (rfl:_=true) (kp (bX 2 0 2) ao) (d3 (qf (sz:=2) sI) (ao.map (mL bC))) (Eu (ek:=2) (j0:=[]++(c6 2 aN bC)) (bS:=mw) (sz:=1) (g:=(fp 2 aN)) (el (bX 2 0 2) ao) (fun _=>rfl) (fun x aa=>(La (ek:=2) (c:=0) (bS:=mw) (ua:=[]) (iU .live 2 aN bC) sI rfl lG rfl (JX cA x aa))) (fq ao)) (lh J aq) (kp J aq) (.ff (d3 aF aq) (lh dO bb) (kp dO bb) (d3 ec bb) (jA (Ip (⟨ao.map (mL bC),(⟨a8,aH⟩:bg),aq,da,bb⟩:rq)):gr [[.isl 1 ((ao.map (mL bC)).map (fp 2 aN)),.b a8,.isl 1 (aH.map J),.isl 1 (aq.map J),.n .i64 da,.isl 1 (bb.map dO)]]) (TO fF e9) (cf.n .i64 fF)));
  .ite (fun fZ =>
  .ret (let cc:=c8 [0,1,2,3,4,5];b0 (t5.append [.al true,(ab 1),.bm [0,1,2,3,4,5] [.box [.id,.id,.id,.id,.id,.id],.bD (ay 1 (bX 2 0 2) ao),.bD (c6 2 aN bC),.pure,.pure,.pure] (bY [4])]) (jj.aY (.eF fZ (eW cc 2 2 0 2 rfl ao) (e1 cc 2 ef bC) (aG 1 .live aF aq) (aG 1 .live ec bb) (aG 1 .live aF bw)))))
  (fun fZ =>
  .az fun cl gx =>
  .ret (let cV:=eJ 1 0 0 ao.length cl.1 cl.2.1 3 0 0 cl.2.2.2.length da 4 0 0 bb.length;let d5:=eJ 1 0 0 ao.length a8 aH 3 0 0 aq.length da 4 0 0 bb.length;let fB:=ay 1 (bX 2 0 2) ao;let hE:=c6 2 aN cl.2.2.1;let fD:=oV [0,1,2,3,4];let jO:=hN [0,1,2,3,4];let jK:=i4 1 (ao.map (bX 2 0 2));let kX:=c8 [0,1,2,3,4,5];b0 (t5.append [.al false,.aE (ae 3 (ai (.call {aQ:=(ob [0,1,2,3,4]),cO:=[.bD [af.mk 6 [d5] .live],.bD fB,.bD (c6 2 aN bC),.pure,.pure],ac:=[ii,ii,ii],r:= .dB [],d4:=[[af.mk 6 [cV] .live],fB,hE,(ay 1 J cl.2.2.2),(ay 1 dO bb)],fu:=ii,gd:=[.bD [af.mk 6 [cV] .live],.bD fB,.bD hE,.pure,.pure],dG:=[0,1,2,3,4],dD:=false}) [])),(ab 1),.bm [0,1,2,3,4,5] [.box [.id,.id,.id,.id,.id,.id],.bD fB,.bD hE,.pure,.pure,.pure] (bY [0,1,5])]) (jj.aY (.bj fZ (iK fD 6 [d5] [d5] rfl) (i4 6 [d5]) (eW fD 2 2 0 2 rfl ao) jK (e1 fD 2 ef bC) (rk 2 aN bC) (fa 1 aF aq) (.bj (fa 1 ec bb) (iK jO 6 [cV] [cV] rfl) (i4 6 [cV]) (eW jO 2 2 0 2 rfl ao) jK (e1 jO 2 ef cl.2.2.1) (rk 2 aN cl.2.2.1) (fa 1 aF cl.2.2.2) (.ff (fa 1 ec bb) (Mx cl gx) (eW kX 2 2 0 2 rfl ao) (e1 kX 2 ef cl.2.2.1) (aG 1 .live aF cl.2.2.2) (aG 1 .live ec bb) (aG 1 .live aF bw)))))))))))))
  (fun aM =>
  .ret (let kY:=c8 [0,1,2,3,4,5];b0 (t1.append [.aE (ae 6 (ai (.cq (dO aO)) (ae 2 (cw 6 (ai (.al true) (ae 1 (cw 5 (ae 1 [])))))))),.al true,(ab 2),.bm [0,1,2,3,4,5] [.box [.id,.id,.id,.id,.id,.id],.bD (ay 1 (bX 2 0 2) ao),.bD (c6 2 aN bC),.pure,.pure,.pure] (bY [0,1,5,13,14])]) (.bj o R.1 R.2 (cz dO aD) (c2 aM) (c2 aM) (c2 aM) (c2 aM) (.bj (c2 aM) (c2 aM) (c2 aM) bP bP bP bP bP (.eF bP (eW kY 2 2 0 2 rfl ao) (e1 kY 2 ef bC) (aG 1 .live aF aq) (aG 1 .live ec bb) (aG 1 .live aF bw))))))))
  (fun o =>
  .ret (let mC:=c8 [0,1,2,3,4,5];b0 [(ab 1),.al false,.bm [0,1,2,3,4,5] [.box [.id,.id,.id,.id,.id,.id],.bD (ay 1 (bX 2 0 2) ao),.bD (c6 2 aN bC),.pure,.pure,.pure] (bY [0,1,5])] (.eF o (eW mC 2 2 0 2 rfl ao) (e1 mC 2 ef bC) (aG 1 .live aF aq) (aG 1 .live ec bb) (aG 1 .live aF bw))))
theorem Mr {da:Int}{a8:Bool}{aH:List Int}{ao:List b6}{bC:List (List bg)}{aq:List Int}{bb:List Bool}{bw:List Int}{cS:Int}{r} (h:w0 da a8 aH ao bC aq bb bw cS=some r):fH bx 87 6 64 [1,0,1,0,0,1,0,1,1,0,0] (Gk da a8 aH ao bC aq bb bw) (CC da a8 aH ao bC aq bb bw) cS r:=fI (fun _=>SZ) h
def Gl (c9:Int)(ao:List b6)(bb:List Bool)(bw:List Int):(Bool×Bool×(List Int)×(List (List bg))×(List Int))→S:=fun (ru,a8,aH,bC,aq)=>e2 [(0,.ref 0 0 0 0),(1,.bF 5 0 0 bw.length),(5,.b ru)] [[af.mk 6 [(eJ 1 0 0 ao.length a8 aH 3 0 0 aq.length c9 4 0 0 bb.length)] .live],(ay 1 (bX 2 0 2) ao),(c6 2 aN bC),(ay 1 J aq),(ay 1 dO bb),(ay 1 J bw)]
def CD (c9:Int)(ao:List b6)(bb:List Bool)(bw:List Int):((Bool×(List Int)×(List (List bg))×(List Int))⊕(Bool×(List Int)×(List (List bg))×(List Int)))→e5
 | .inl a=>⟨some 0,[(0,.ref 0 0 0 0),(1,.bF 5 0 0 bw.length)],[[af.mk 6 [(eJ 1 0 0 ao.length a.1 a.2.1 3 0 0 a.2.2.2.length c9 4 0 0 bb.length)] .live],(ay 1 (bX 2 0 2) ao),(c6 2 aN a.2.2.1),(ay 1 J a.2.2.2),(ay 1 dO bb),(ay 1 J bw)]⟩
 | .inr a=>⟨none,[(4,.b false)],[[af.mk 6 [(eJ 1 0 0 ao.length a.1 a.2.1 3 0 0 a.2.2.2.length c9 4 0 0 bb.length)] .live],(ay 1 (bX 2 0 2) ao),(c6 2 aN a.2.2.1),(ay 1 J a.2.2.2),(ay 1 dO bb),(ay 1 J bw)]⟩
def uO (c9:Int)(ao:List b6)(bb:List Bool)(bw:List Int)(ru a8:Bool)(aH:List Int)(bC:List (List bg))(aq:List Int):Option ((Bool×Bool×(List Int)×(List (List bg))×(List Int))⊕((Bool×(List Int)×(List (List bg))×(List Int))⊕(Bool×(List Int)×(List (List bg))×(List Int)))) :=
 if ru=true then
  w0 c9 a8 aH ao bC aq bb bw 0 >>= fun cb =>
  match cb with
  | .inl gq=>(some (.inl (gq.1,gq.2.1,gq.2.2.1,gq.2.2.2.1,gq.2.2.2.2)))
  | .inr gq=>(some (.inr (.inr (a8,aH,bC,aq))))
 else
  some (.inr (.inl (a8,aH,bC,aq)))
def CH (c9:Int)(ao:List b6)(bb:List Bool)(bw:List Int)(ru a8:Bool)(aH:List Int)(bC:List (List bg))(aq:List Int):Option ((Bool×(List Int)×(List (List bg))×(List Int))⊕(Bool×(List Int)×(List (List bg))×(List Int))):=iter (fun w:Bool×Bool×(List Int)×(List (List bg))×(List Int)=>uO c9 ao bb bw w.1 w.2.1 w.2.2.1 w.2.2.2.1 w.2.2.2.2) (ru,a8,aH,bC,aq)
theorem S0 {c9:Int}{ao:List b6}{bb:List Bool}{bw:List Int}{ru a8:Bool}{aH:List Int}{bC:List (List bg)}{aq:List Int}:b4 (uO c9 ao bb bw ru a8 aH bC aq) (fG bx 87 6 64 [1,0,1,0,0] (Gl c9 ao bb bw (ru,a8,aH,bC,aq)) (Gl c9 ao bb bw) (CD c9 ao bb bw)):=by
 unfold uO
 exact .ite (fun o =>
  .az fun cb ad =>
  (let cV:=c8 [0,1,2,3,4,5];let t1:List cL:=[(ab 1),.al true,(ab 1),(ab 5),.bm [0,1,2,3,4,5] [.box [.id,.id,.id,.id,.id,.id],.bD (ay 1 (bX 2 0 2) ao),.bD (c6 2 aN bC),.pure,.pure,.pure] (bY [0,1,5,13,14])];
  have a9:=((.eF o (eW cV 2 2 0 2 rfl ao) (e1 cV 2 ef bC) (aG 1 .live aF aq) (aG 1 .live ec bb) (aG 1 .live aF bw)):c3 _);
  (by
  rcases cb with gq|gq
  ·exact (.ret (let aW:=c8 [0,1,2,3,4,5];b0 (t1.append [(CC c9 a8 aH ao bC aq bb bw (.inl gq)).gC,.bm [0,1,2,3,4,5] [.box [.id,.id,.id,.id,.id,.id],.bD (ay 1 (bX 2 0 2) ao),.bD (c6 2 aN gq.2.2.2.1),.pure,.pure,.pure] (bY [0,1,5])]) (a9.aY (.eF (Mr ad) (eW aW 2 2 0 2 rfl ao) (e1 aW 2 ef gq.2.2.2.1) (aG 1 .live aF gq.2.2.2.2) (aG 1 .live ec bb) (aG 1 .live aF bw)))))
  ·exact (.ret (let bk:=c8 [0,1,2,3,4,5];b0 (t1.append [(CC c9 a8 aH ao bC aq bb bw (.inr gq)).gC,.bm [0,1,2,3,4,5] [.box [.id,.id,.id,.id,.id,.id],.bD (ay 1 (bX 2 0 2) ao),.bD (c6 2 aN bC),.pure,.pure,.pure] (bY [4])]) (a9.aY (.eF (Mr ad) (eW bk 2 2 0 2 rfl ao) (e1 bk 2 ef bC) (aG 1 .live aF aq) (aG 1 .live ec bb) (aG 1 .live aF bw))))))))
  (fun o =>
  .ret (let cc:=c8 [0,1,2,3,4,5];b0 [(ab 1),.al false,.bm [0,1,2,3,4,5] [.box [.id,.id,.id,.id,.id,.id],.bD (ay 1 (bX 2 0 2) ao),.bD (c6 2 aN bC),.pure,.pure,.pure] (bY [0,1])] (.eF o (eW cc 2 2 0 2 rfl ao) (e1 cc 2 ef bC) (aG 1 .live aF aq) (aG 1 .live ec bb) (aG 1 .live aF bw))))
theorem Ms {c9:Int}{ao:List b6}{bb:List Bool}{bw:List Int}{ru a8:Bool}{aH:List Int}{bC:List (List bg)}{aq:List Int}{r} (h:CH c9 ao bb bw ru a8 aH bC aq=some r):fH bx 87 6 64 [1,0,1,0,0] (Gl c9 ao bb bw) (CD c9 ao bb bw) (ru,a8,aH,bC,aq) r:=fI (fun _=>S0) h
def Gm (fP:Int)(a8:Bool)(aH:List Int)(ao:List b6)(bC:List (List bg))(aq bw:List Int):(Int×(List Bool))→S:=fun (hP,bb)=>e2 [(0,.ref 0 0 0 0),(1,.bF 5 0 0 bw.length),(53,.n .i64 fP),(54,.n .i64 hP)] [[af.mk 6 [(eJ 1 0 0 ao.length a8 aH 3 0 0 aq.length fP 4 0 0 bb.length)] .live],(ay 1 (bX 2 0 2) ao),(c6 2 aN bC),(ay 1 J aq),(ay 1 dO bb),(ay 1 J bw)]
def Gq (fP:Int)(a8:Bool)(aH:List Int)(ao:List b6)(bC:List (List bg))(aq bw:List Int):(List Bool)→e5
 | a=>⟨some 4,[],[[af.mk 6 [(eJ 1 0 0 ao.length a8 aH 3 0 0 aq.length fP 4 0 0 a.length)] .live],(ay 1 (bX 2 0 2) ao),(c6 2 aN bC),(ay 1 J aq),(ay 1 dO a),(ay 1 J bw)]⟩
def wP (fP:Int)(a8:Bool)(aH:List Int)(ao:List b6)(bC:List (List bg))(aq bw:List Int)(hP:Int)(bb:List Bool):Option ((Int×(List Bool))⊕((List Bool))) :=
 if (decide (hP<fP))=true then
  if 0≤hP∧hP<(bb.length:Nat) then
  bb[(0+hP.toNat)]? >>= fun aO =>
  if aO=true then
   xQ aq hP >>= fun cT =>
   if cT=true then
    some (.inl (U (hP+(1:Int)),bb))
   else
    if ao.all (vV bC)=true then
    xu (⟨ao.map (mL bC),(⟨a8,aH⟩:bg),aq,fP,bb⟩:rq) bw hP >>= fun fL =>
    if (decide (fL<(0:Int)))=true then
     if (0+hP.toNat)<bb.length then
     some (.inl (U (hP+(1:Int)),bb.set (0+hP.toNat) false))
     else none
    else
     some (.inl (U (hP+(1:Int)),bb))
    else none
  else
   some (.inl (U (hP+(1:Int)),bb))
  else none
 else
  some (.inr bb)
def CI (fP:Int)(a8:Bool)(aH:List Int)(ao:List b6)(bC:List (List bg))(aq bw:List Int)(hP:Int)(bb:List Bool):Option ((List Bool)):=iter (fun w:Int×(List Bool)=>wP fP a8 aH ao bC aq bw w.1 w.2) (hP,bb)
theorem S1 {fP:Int}{a8:Bool}{aH:List Int}{ao:List b6}{bC:List (List bg)}{aq bw:List Int}{hP:Int}{bb:List Bool}:b4 (wP fP a8 aH ao bC aq bw hP bb) (fG bx 87 6 64 [1,1,0,1,0,0] (Gm fP a8 aH ao bC aq bw (hP,bb)) (Gm fP a8 aH ao bC aq bw) (Gq fP a8 aH ao bC aq bw)):=by
 unfold wP
 exact .ite (fun o =>
  .bl fun R =>
  .az fun aO aD =>
  (let t1:List cL:=[(ab 1),.al true,(ab 2)];
  .ite (fun aM =>
  .az fun cT bQ =>
  (have a9:=((.bj o R.1 R.2 (cz dO aD) aM aM aM aM (.bj aM aM (lh J aq) (kp J aq) (d3 aF aq) (Ni cT bQ) (cf.b cT) aM (.aw aM))):c3 _);
  .ite (fun bn =>
  .ret (let aW:=c8 [0,1,2,3,4,5];b0 (t1.append [.aE (ae 6 (ai (.cq (dO aO)) (ae 6 (ai (.call {ac:=[.bE (.cx (.eU (aq.map J))),ii],r:= .b cT,dD:=true,dG:=[3]}) (ae 1 (ai (.al true) (ae 1 (cw 5 (ai (.al false) []))))))))),.al false,(ab 2),.bm [0,1,2,3,4,5] [.box [.id,.id,.id,.id,.id,.id],.bD (ay 1 (bX 2 0 2) ao),.bD (c6 2 aN bC),.pure,.pure,.pure] (bY [0,1,53,54])]) (a9.aY (.bj (cR bn) (cR bn) (cR bn) (cR bn) (cR bn) (cR bn) dU (eW aW 2 2 0 2 rfl ao) (.dn (e1 aW 2 ef bC) (aG 1 .live aF aq) (aG 1 .live ec bb) (aG 1 .live aF bw))))))
  (fun bn =>
  .bl fun cA =>
  .az fun fL cK =>
  (let t3:List cL:=t1.append [.aE (ae 6 (ai (.cq (dO aO)) (ae 6 (ai (.call {ac:=[.bE (.cx (.eU (aq.map J))),ii],r:= .b cT,dD:=true,dG:=[3]}) (ae 1 (ai (.al true) (ae 4 (ai (.call {ac:=[.bE (.ptr [.view 2 (af.mk 1 (ao.map (bX 2 0 2)) .live) ((ao.map (mL bC)).map (fp 2 aN)),.id,.id,.eU (aq.map J),.id,.eU (bb.map dO)]),.bE (.cx (.eU (bw.map J))),ii],r:= .n .i64 fL,dD:=true,dG:=[0,1,2,3,4,5]}) (ae 1 (ai (.al true) []))))))))))];
  have fv:=a9.aY (.bj (c2 bn) (c2 bn) (c2 bn) (c2 bn) (rfl:dk (some (ay 1 (bX 2 0 2) ao)) 0=some (af.mk 1 (ao.map (bX 2 0 2)) .live)) (rfl:_=true) (kp (bX 2 0 2) ao) (d3 (qf (sz:=2) sI) (ao.map (mL bC))) (.bj (Eu (ek:=2) (j0:=[]++(c6 2 aN bC)) (bS:=mw) (sz:=1) (g:=(fp 2 aN)) (el (bX 2 0 2) ao) (fun _=>rfl) (fun x aa=>(La (ek:=2) (c:=0) (bS:=mw) (ua:=[]) (iU .live 2 aN bC) sI rfl lG rfl (JX cA x aa))) (fq ao)) (lh J aq) (kp J aq) (d3 aF aq) (lh dO bb) (kp dO bb) (d3 ec bb) (jA (Ip (⟨ao.map (mL bC),(⟨a8,aH⟩:bg),aq,fP,bb⟩:rq)):gr [[.isl 1 ((ao.map (mL bC)).map (fp 2 aN)),.b a8,.isl 1 (aH.map J),.isl 1 (aq.map J),.n .i64 fP,.isl 1 (bb.map dO)]]) (.ff (lh J bw) (kp J bw) (d3 aF bw) (ME fL cK) (cf.n .i64 fL) (c2 bn) (c2 bn))));
  .ite (fun dc =>
  .bl fun dT =>
  .ret (let bk:=c8 [0,1,2,3,4,5];b0 (t3.append [.al true,.aE (ae 6 (ai .dh [])),(ab 2),.bm [0,1,2,3,4,5] [.box [.id,.id,.id,.id,.id,.len ((bb.set (0+hP.toNat) false).length)],.bD (ay 1 (bX 2 0 2) ao),.bD (c6 2 aN bC),.pure,.eg (ay 1 dO (bb.set (0+hP.toNat) false)),.pure] (bY [0,1,53,54])]) (fv.aY (.bj dc R.1 R.2 (hR dO dT) (hG 1) (gZ (fq bb) (0+hP.toNat) false) (eW bk 2 2 0 2 rfl ao) (e1 bk 2 ef bC) (.dn (aG 1 .live aF aq) (e6 1 .live (gE (el dO bb) (0+hP.toNat) false)) (aG 1 .live ec (bb.set (0+hP.toNat) false)) (aG 1 .live aF bw))))))
  (fun dc =>
  .ret (let cc:=c8 [0,1,2,3,4,5];b0 (t3.append [.al false,(ab 2),.bm [0,1,2,3,4,5] [.box [.id,.id,.id,.id,.id,.id],.bD (ay 1 (bX 2 0 2) ao),.bD (c6 2 aN bC),.pure,.pure,.pure] (bY [0,1,53,54])]) (fv.aY (.eF dc (eW cc 2 2 0 2 rfl ao) (e1 cc 2 ef bC) (aG 1 .live aF aq) (aG 1 .live ec bb) (aG 1 .live aF bw)))))))))
  (fun aM =>
  .ret (let cV:=c8 [0,1,2,3,4,5];b0 (t1.append [.aE (ae 6 (ai (.cq (dO aO)) (ae 1 (cw 7 (ai (.al false) (ae 1 (cw 5 (ae 1 [])))))))),.al false,(ab 2),.bm [0,1,2,3,4,5] [.box [.id,.id,.id,.id,.id,.id],.bD (ay 1 (bX 2 0 2) ao),.bD (c6 2 aN bC),.pure,.pure,.pure] (bY [0,1,53,54])]) (.bj o R.1 R.2 (cz dO aD) aM aM aM aM (.bj aM aM aM aM dU dU dU dU (.ff dU dU (eW cV 2 2 0 2 rfl ao) (e1 cV 2 ef bC) (aG 1 .live aF aq) (aG 1 .live ec bb) (aG 1 .live aF bw))))))))
  (fun o =>
  .ret (let d5:=c8 [0,1,2,3,4,5];b0 [(ab 1),.al false,.bm [0,1,2,3,4,5] [.box [.id,.id,.id,.id,.id,.id],.bD (ay 1 (bX 2 0 2) ao),.bD (c6 2 aN bC),.pure,.pure,.pure] []] (.eF o (eW d5 2 2 0 2 rfl ao) (e1 d5 2 ef bC) (aG 1 .live aF aq) (aG 1 .live ec bb) (aG 1 .live aF bw))))
theorem Tn {fP:Int}{a8:Bool}{aH:List Int}{ao:List b6}{bC:List (List bg)}{aq bw:List Int}{hP:Int}{bb:List Bool}{r} (h:CI fP a8 aH ao bC aq bw hP bb=some r):fH bx 87 6 64 [1,1,0,1,0,0] (Gm fP a8 aH ao bC aq bw) (Gq fP a8 aH ao bC aq bw) (hP,bb) r:=fI (fun _=>S1) h
def sB (cg:Bool)(cH:List Int)(fJ:Int)(cW:List b6)(me:List (List bg))(dg:List Int)(hD:List Bool)(p1:List Int):Option (Bool×Bool×(List Int)×(List (List bg))×(List Int)×(List Bool)) :=
 CH fJ cW hD p1 true cg cH me dg >>= fun an =>
 match an with
 | .inl bI=>(CI fJ bI.1 bI.2.1 cW bI.2.2.1 bI.2.2.2 p1 0 hD >>= fun bz =>
  some (true,bI.1,bI.2.1,bI.2.2.1,bI.2.2.2,bz))
 | .inr bI=>(some (false,bI.1,bI.2.1,bI.2.2.1,bI.2.2.2,hD))
theorem GP {cg:Bool}{cH:List Int}{fJ:Int}{cW:List b6}{me:List (List bg)}{dg:List Int}{hD:List Bool}{p1:List Int}:b4 (sB cg cH fJ cW me dg hD p1) (fun a=>Con bx 64 [.ref 0 0 0 0,.bF 5 0 0 p1.length] [[af.mk 6 [(eJ 1 0 0 cW.length cg cH 3 0 0 dg.length fJ 4 0 0 hD.length)] .live],(ay 1 (bX 2 0 2) cW),(c6 2 aN me),(ay 1 J dg),(ay 1 dO hD),(ay 1 J p1)] (.b a.1) [[af.mk 6 [(eJ 1 0 0 cW.length a.2.1 a.2.2.1 3 0 0 a.2.2.2.2.1.length fJ 4 0 0 a.2.2.2.2.2.length)] .live],(ay 1 (bX 2 0 2) cW),(c6 2 aN a.2.2.2.1),(ay 1 J a.2.2.2.2.1),(ay 1 dO a.2.2.2.2.2),(ay 1 J p1)]):=by
 unfold sB
 exact .az fun an R =>
  (let jO:=c8 [0,1,2,3,4,5];let t1:List cL:=[(ab 1),(ab 1),.bm [0,1,2,3,4,5] [.box [.id,.id,.id,.id,.id,.id],.bD (ay 1 (bX 2 0 2) cW),.bD (c6 2 aN me),.pure,.pure,.pure] (bY [0,1,5])];
  have a9:=((.dr (eW jO 2 2 0 2 rfl cW) (e1 jO 2 ef me) (aG 1 .live aF dg) (aG 1 .live ec hD) (aG 1 .live aF p1)):c3 _);
  (by
  rcases an with bI|bI
  ·exact (.az fun bz aM =>
  .ret (let aW:=eJ 1 0 0 cW.length bI.1 bI.2.1 3 0 0 bI.2.2.2.length fJ 4 0 0 bz.length;let bk:=c8 [0,1,2,3,4,5];let cc:=aG 1 .live aF bI.2.2.2;let cV:=e1 bk 2 ef bI.2.2.1;let d5:=c6 2 aN bI.2.2.1;let fB:=eW bk 2 2 0 2 rfl cW;i1 (t1.append [(CD fJ cW hD p1 (.inl bI)).gC,(ab 5),.bm [0,1,2,3,4,5] [.box [.id,.id,.id,.id,.id,.id],.bD (ay 1 (bX 2 0 2) cW),.bD d5,.pure,.pure,.pure] (bY [0,1,53,54]),(Gq fJ bI.1 bI.2.1 cW bI.2.2.1 bI.2.2.2 p1 bz).gC,(ab 1)]) [0,1,2,3,4,5] [.bD [af.mk 6 [aW] .live],.bD (ay 1 (bX 2 0 2) cW),.bD d5,.pure,.pure,.pure] (a9.aY (.bj (Ms R) fB cV cc (aG 1 .live ec hD) (aG 1 .live aF p1) (Tn aM) (iK bk 6 [aW] [aW] rfl) (.dr fB cV cc (aG 1 .live ec bz) (aG 1 .live aF p1))))))
  ·exact (.ret (let hE:=eJ 1 0 0 cW.length bI.1 bI.2.1 3 0 0 bI.2.2.2.length fJ 4 0 0 hD.length;let fD:=c8 [0,1,2,3,4,5];i1 (t1.append [(CD fJ cW hD p1 (.inr bI)).gC]) [0,1,2,3,4,5] [.bD [af.mk 6 [hE] .live],.bD (ay 1 (bX 2 0 2) cW),.bD (c6 2 aN bI.2.2.1),.pure,.pure,.pure] (a9.aY (.ff (Ms R) (iK fD 6 [hE] [hE] rfl) (eW fD 2 2 0 2 rfl cW) (e1 fD 2 ef bI.2.2.1) (aG 1 .live aF bI.2.2.2) (aG 1 .live ec hD) (aG 1 .live aF p1)))))))
def GB (h7 a3:Int)(a8:Bool)(aH:List Int)(c9:Int)(ao:List b6)(bC:List (List bg))(aq:List Int)(bb:List Bool):Int→S:=fun ct=>e2 [(0,.ref 0 0 0 0),(1,.n .i64 h7),(4,.n .i64 a3),(5,.n .i64 ct)] [[af.mk 6 [(eJ 1 0 0 ao.length a8 aH 3 0 0 aq.length c9 4 0 0 bb.length)] .live],(ay 1 (bX 2 0 2) ao),(c6 2 aN bC),(ay 1 J aq),(ay 1 dO bb)]
def GJ (h7 a3:Int)(a8:Bool)(aH:List Int)(c9:Int)(ao:List b6)(bC:List (List bg))(aq:List Int)(bb:List Bool):Int→e5
 | a=>⟨some 2,[(0,.ref 0 0 0 0),(1,.n .i64 h7),(4,.n .i64 a3),(5,.n .i64 a)],[[af.mk 6 [(eJ 1 0 0 ao.length a8 aH 3 0 0 aq.length c9 4 0 0 bb.length)] .live],(ay 1 (bX 2 0 2) ao),(c6 2 aN bC),(ay 1 J aq),(ay 1 dO bb)]⟩
def wW (h7 a3:Int)(a8:Bool)(aH:List Int)(c9:Int)(ao:List b6)(bC:List (List bg))(aq:List Int)(bb:List Bool)(ct:Int):Option ((Int)⊕(Int)) :=
 if (decide (ct<h7))=true then
  if 0≤a3∧a3<(ao.length:Nat) then
  ao[(0+a3.toNat)]? >>= fun aO =>
  aO >>= fun lH =>
  bC[lH.1]? >>= fun lV =>
  if 0≤ct∧ct<(lH.2:Nat) then
  lV[(0+ct.toNat)]? >>= fun jf =>
  o1 jf >>= fun cC =>
  if (cC == (0:Int))=true then
   some (.inl (U (ct+(1:Int))))
  else
   some (.inr ct)
  else none
  else none
 else
  some (.inr ct)
def CP (h7 a3:Int)(a8:Bool)(aH:List Int)(c9:Int)(ao:List b6)(bC:List (List bg))(aq:List Int)(bb:List Bool)(ct:Int):Option (Int):=iter (fun w:Int=>wW h7 a3 a8 aH c9 ao bC aq bb w) ct
theorem Tg {h7 a3:Int}{a8:Bool}{aH:List Int}{c9:Int}{ao:List b6}{bC:List (List bg)}{aq:List Int}{bb:List Bool}{ct:Int}:b4 (wW h7 a3 a8 aH c9 ao bC aq bb ct) (fG bx 86 5 83 [1,0,0,1,0,1,1,0,0,0] (GB h7 a3 a8 aH c9 ao bC aq bb ct) (GB h7 a3 a8 aH c9 ao bC aq bb) (GJ h7 a3 a8 aH c9 ao bC aq bb)):=by
 unfold wW
 exact .ite (fun o =>
  .bl fun R =>
  .az fun aO aD =>
  .az fun lH bq =>
  .az fun lV bn =>
  .bl fun cA =>
  .az fun jf cK =>
  .az fun cC dT =>
  (let aW:=l2 (iU .live 2 aN bC) lG bn;let t1:List cL:=[.aE (ae 10 (ai (.cq ((bX 2 0 2) aO)) (ae 1 (ai (.fe 34 (.bF 2 (lH.1+0) 0 lH.2) (.hz (af.mk 2 (lV.map aN) .live) [])) (ai (.hz (af.mk 2 (lV.map aN) .live) (aN jf)) (ai (bA 1 (.n .i64 cC) true) (ae 1 (ai (.al true) []))))))))];
  have a9:=((.bj o o o o o o R.1 R.2 (.bj o (cz (bX 2 0 2) aD) o o (o5 (ek:=2) (c:=0) (sz:=2) bq) aW cA.1 cA.2 (.gX o aW (cz aN cK) o (sC cC dT) (cf.n .i64 cC) o o))):c3 _);
  .ite (fun e9 =>
  .ret (b0 (t1.append [.al true,(ab 3),.bm [0,1,2,3,4] [.box [.id,.id,.id,.id,.id,.id],.bD (ay 1 (bX 2 0 2) ao),.bD (c6 2 aN bC),.pure,.pure] (bY [0,1,4,5])]) (a9.aY (.dr e9 (eW (c8 [0,1,2,3,4]) 2 2 0 2 rfl ao) (e1 (c8 [0,1,2,3,4]) 2 ef bC) (aG 1 .live aF aq) (aG 1 .live ec bb)))))
  (fun e9 =>
  .ret (b0 (t1.append [.al false,.bm [0,1,2,3,4] [.box [.id,.id,.id,.id,.id,.id],.bD (ay 1 (bX 2 0 2) ao),.bD (c6 2 aN bC),.pure,.pure] (bY [0,1,4,5])]) (a9.aY (.dr e9 (eW (c8 [0,1,2,3,4]) 2 2 0 2 rfl ao) (e1 (c8 [0,1,2,3,4]) 2 ef bC) (aG 1 .live aF aq) (aG 1 .live ec bb)))))))
  (fun o =>
  .ret (b0 [.aE (ae 4 (cw 12 (ai (.al false) []))),.al false,.bm [0,1,2,3,4] [.box [.id,.id,.id,.id,.id,.id],.bD (ay 1 (bX 2 0 2) ao),.bD (c6 2 aN bC),.pure,.pure] (bY [0,1,4,5])] (.bj o o o o o o o o (.bj o o o o o dU (eW (c8 [0,1,2,3,4]) 2 2 0 2 rfl ao) (e1 (c8 [0,1,2,3,4]) 2 ef bC) (.aC (aG 1 .live aF aq) (aG 1 .live ec bb))))))
theorem Tz {h7 a3:Int}{a8:Bool}{aH:List Int}{c9:Int}{ao:List b6}{bC:List (List bg)}{aq:List Int}{bb:List Bool}{ct:Int}{r} (h:CP h7 a3 a8 aH c9 ao bC aq bb ct=some r):fH bx 86 5 83 [1,0,0,1,0,1,1,0,0,0] (GB h7 a3 a8 aH c9 ao bC aq bb) (GJ h7 a3 a8 aH c9 ao bC aq bb) ct r:=fI (fun _=>Tg) h
def GC (h7 c9:Int)(bb:List Bool):(Int×Bool×(List Int)×(List b6)×(List (List bg))×(List Int))→S:=fun (a3,a8,aH,ao,bC,aq)=>e2 [(0,.ref 0 0 0 0),(1,.n .i64 h7),(4,.n .i64 a3)] [[af.mk 6 [(eJ 1 0 0 ao.length a8 aH 3 0 0 aq.length c9 4 0 0 bb.length)] .live],(ay 1 (bX 2 0 2) ao),(c6 2 aN bC),(ay 1 J aq),(ay 1 dO bb)]
def GK (h7 c9:Int)(bb:List Bool):(Bool×(List Int)×(List b6)×(List (List bg))×(List Int))→e5
 | a=>⟨some 0,[],[[af.mk 6 [(eJ 1 0 0 a.2.2.1.length a.1 a.2.1 3 0 0 a.2.2.2.2.length c9 4 0 0 bb.length)] .live],(ay 1 (bX 2 0 2) a.2.2.1),(c6 2 aN a.2.2.2.1),(ay 1 J a.2.2.2.2),(ay 1 dO bb)]⟩
def zv (h7 c9:Int)(bb:List Bool)(a3:Int)(a8:Bool)(aH:List Int)(ao:List b6)(bC:List (List bg))(aq:List Int):Option ((Int×Bool×(List Int)×(List b6)×(List (List bg))×(List Int))⊕(Bool×(List Int)×(List b6)×(List (List bg))×(List Int))) :=
 if (decide (a3<((ao.length:Nat):Int)))=true then
  if 0≤a3∧a3<(aq.length:Nat) then
  aq[(0+a3.toNat)]? >>= fun aO =>
  if (decide (aO<h7))=true then
   some (.inl (U (a3+(1:Int)),a8,aH,ao,bC,aq))
  else
   CP h7 a3 a8 aH c9 ao bC aq bb 0 >>= fun cT =>
   if (decide (cT<h7))=true then
    w9 a3 cT a8 aH c9 ao bC aq bb >>= fun bs =>
    some (.inl (U (a3+(1:Int)),bs.1,bs.2.1,ao,bs.2.2.1,bs.2.2.2))
   else
    if 0≤a3 then
    if 0≤a3.toNat∧a3.toNat≤ao.length then
    if 0≤(U (a3+(1:Int))) then
    if (U (a3+(1:Int))).toNat≤ao.length then
    if (0+(U (a3+(1:Int))).toNat)+(ao.length-(U (a3+(1:Int))).toNat)≤ao.length then
    if (a3.toNat-0)+((ao.drop (0+(U (a3+(1:Int))).toNat)).take (ao.length-(U (a3+(1:Int))).toNat)).length≤ao.length then
    if ((ao.drop (0+(U (a3+(1:Int))).toNat)).take (ao.length-(U (a3+(1:Int))).toNat)).length*24≤140737488355328 then
    if 0≤a3.toNat∧a3.toNat≤aq.length then
    if (U (a3+(1:Int))).toNat≤aq.length then
    if (0+(U (a3+(1:Int))).toNat)+(aq.length-(U (a3+(1:Int))).toNat)≤aq.length then
    if (a3.toNat-0)+((aq.drop (0+(U (a3+(1:Int))).toNat)).take (aq.length-(U (a3+(1:Int))).toNat)).length≤aq.length then
    if ((aq.drop (0+(U (a3+(1:Int))).toNat)).take (aq.length-(U (a3+(1:Int))).toNat)).length*8≤140737488355328 then
    some (.inl (a3,a8,aH,ao.take (a3.toNat-0)++((ao.drop (0+(U (a3+(1:Int))).toNat)).take (ao.length-(U (a3+(1:Int))).toNat)),bC,aq.take (a3.toNat-0)++((aq.drop (0+(U (a3+(1:Int))).toNat)).take (aq.length-(U (a3+(1:Int))).toNat))))
    else none
    else none
    else none
    else none
    else none
    else none
    else none
    else none
    else none
    else none
    else none
    else none
  else none
 else
  some (.inr (a8,aH,ao,bC,aq))
def GZ (h7 c9:Int)(bb:List Bool)(a3:Int)(a8:Bool)(aH:List Int)(ao:List b6)(bC:List (List bg))(aq:List Int):Option (Bool×(List Int)×(List b6)×(List (List bg))×(List Int)):=iter (fun w:Int×Bool×(List Int)×(List b6)×(List (List bg))×(List Int)=>zv h7 c9 bb w.1 w.2.1 w.2.2.1 w.2.2.2.1 w.2.2.2.2.1 w.2.2.2.2.2) (a3,a8,aH,ao,bC,aq)
theorem Th {h7 c9:Int}{bb:List Bool}{a3:Int}{a8:Bool}{aH:List Int}{ao:List b6}{bC:List (List bg)}{aq:List Int}:b4 (zv h7 c9 bb a3 a8 aH ao bC aq) (fG bx 86 5 83 [1,0,0] (GC h7 c9 bb (a3,a8,aH,ao,bC,aq)) (GC h7 c9 bb) (GK h7 c9 bb)):=by
 unfold zv
 exact .ite (fun o =>
  .bl fun R =>
  .az fun aO aD =>
  (let t1:List cL:=[(ab 7),.al true,.aE (bT 6 (.cq (J aO)) 2)];
  .ite (fun aM =>
  .ret (b0 (t1.append [.al true,(ab 3),.bm [0,1,2,3,4] [.box [.id,.id,.id,.id,.id,.id],.bD (ay 1 (bX 2 0 2) ao),.bD (c6 2 aN bC),.pure,.pure] (bY [0,1,4])]) (.bj o R.1 R.2 (cz J aD) aM (eW (c8 [0,1,2,3,4]) 2 2 0 2 rfl ao) (e1 (c8 [0,1,2,3,4]) 2 ef bC) (aG 1 .live aF aq) (.aw (aG 1 .live ec bb)))))
  (fun aM =>
  .az fun cT bQ =>
  (let t2:List cL:=t1.append [.al false,(ab 1),.bm [0,1,2,3,4] [.box [.id,.id,.id,.id,.id,.id],.bD (ay 1 (bX 2 0 2) ao),.bD (c6 2 aN bC),.pure,.pure] (bY [0,1,4,5]),(GJ h7 a3 a8 aH c9 ao bC aq bb cT).gC,(ab 3)];
  have fR:=((.bj o R.1 R.2 (cz J aD) aM (eW (c8 [0,1,2,3,4]) 2 2 0 2 rfl ao) (e1 (c8 [0,1,2,3,4]) 2 ef bC) (aG 1 .live aF aq) (.aC (aG 1 .live ec bb) (Tz bQ))):c3 _);
  .ite (fun bn =>
  .az fun bs de =>
  .ret (let aW:=eJ 1 0 0 ao.length bs.1 bs.2.1 3 0 0 bs.2.2.2.length c9 4 0 0 bb.length;let bk:=eJ 1 0 0 ao.length a8 aH 3 0 0 aq.length c9 4 0 0 bb.length;let cc:=ay 1 (bX 2 0 2) ao;let cV:=c6 2 aN bs.2.2.1;let d5:=oV [0,1,2,3,4];let fB:=hN [0,1,2,3,4];let hE:=i4 1 (ao.map (bX 2 0 2));b0 (t2.append [.al true,.aE (ae 3 (ai (.call {aQ:=(ob [0,1,2,3,4]),cO:=[.bD [af.mk 6 [bk] .live],.bD cc,.bD (c6 2 aN bC),.pure,.pure],ac:=[ii,ii,ii],r:= .dB [],d4:=[[af.mk 6 [aW] .live],cc,cV,(ay 1 J bs.2.2.2),(ay 1 dO bb)],fu:=ii,gd:=[.bD [af.mk 6 [aW] .live],.bD cc,.bD cV,.pure,.pure],dG:=[0,1,2,3,4],dD:=false}) [])),(ab 3),.bm [0,1,2,3,4] [.box [.id,.id,.id,.id,.id,.id],.bD cc,.bD cV,.pure,.pure] (bY [0,1,4])]) (fR.aY (.bj bn (iK d5 6 [bk] [bk] rfl) (i4 6 [bk]) (eW d5 2 2 0 2 rfl ao) hE (e1 d5 2 ef bC) (rk 2 aN bC) (fa 1 aF aq) (.bj (fa 1 ec bb) (iK fB 6 [aW] [aW] rfl) (i4 6 [aW]) (eW fB 2 2 0 2 rfl ao) hE (e1 fB 2 ef bs.2.2.1) (rk 2 aN bs.2.2.1) (fa 1 aF bs.2.2.2) (.eF (fa 1 ec bb) (Mx bs de) (eW (c8 [0,1,2,3,4]) 2 2 0 2 rfl ao) (e1 (c8 [0,1,2,3,4]) 2 ef bs.2.2.1) (aG 1 .live aF bs.2.2.2) (aG 1 .live ec bb)))))))
  (fun bn =>
  .bl fun cA =>
  .bl fun de =>
  .bl fun cK =>
  .bl fun dc =>
  .bl fun dT =>
  .bl fun e9 =>
  .bl fun fZ =>
  .bl fun gM =>
  .bl fun gx =>
  .bl fun ia =>
  .bl fun j7 =>
  .bl fun jJ =>
  .ret (let fD:=(U (a3+(1:Int)));let jO:=el (bX 2 0 2) ao;let jK:=c8 [0,1,2,3,4];let kX:=el J aq;b0 (t2.append [.al false,.aE (bT 14 .dh 3),.aE (bT 14 .dh 3),.bm [0,1,2,3,4] [.box [.len ((ao.take (a3.toNat-0)++((ao.drop (0+fD.toNat)).take (ao.length-fD.toNat))).length),.id,.id,.len ((aq.take (a3.toNat-0)++((aq.drop (0+fD.toNat)).take (aq.length-fD.toNat))).length),.id,.id],.bD (ay 1 (bX 2 0 2) (ao.take (a3.toNat-0)++((ao.drop (0+fD.toNat)).take (ao.length-fD.toNat)))),.bD (c6 2 aN bC),.eg (ay 1 J (aq.take (a3.toNat-0)++((aq.drop (0+fD.toNat)).take (aq.length-fD.toNat)))),.pure] (bY [0,1,4])]) (fR.aY (.bj bn cA de.1 de.2 cK dc (Nat.le_refl ao.length) (tR jO dT) (.bj (Qa jO (pN jO (0+fD.toNat) (ao.length-fD.toNat)) e9) (OZ (pN jO (0+fD.toNat) (ao.length-fD.toNat)) fZ) cA gM.1 gM.2 cK gx (Nat.le_refl aq.length) (.bj (tR kX ia) (Qa kX (pN kX (0+fD.toNat) (aq.length-fD.toNat)) j7) (OZ (pN kX (0+fD.toNat) (aq.length-fD.toNat)) jJ) ((Jz (P9 e9) (pN jO (0+fD.toNat) (ao.length-fD.toNat)):(ao.take (a3.toNat-0)++((ao.drop (0+fD.toNat)).take (ao.length-fD.toNat))).length=(a3.toNat-0)+(((ao.map (bX 2 0 2)).drop (0+fD.toNat)).take (ao.length-fD.toNat)).length).symm) ((Jz (P9 j7) (pN kX (0+fD.toNat) (aq.length-fD.toNat)):(aq.take (a3.toNat-0)++((aq.drop (0+fD.toNat)).take (aq.length-fD.toNat))).length=(a3.toNat-0)+(((aq.map J).drop (0+fD.toNat)).take (aq.length-fD.toNat)).length).symm) (eM (tC (b7:=jK) 1 .live (bX 2 0 2) (Jy jO (a3.toNat-0) (pN jO (0+fD.toNat) (ao.length-fD.toNat))) (AW (rfl:jK 2=some 2))) (kE (b7:=jK))) (e1 jK 2 ef bC) (e6 1 .live (Jy kX (a3.toNat-0) (pN kX (0+fD.toNat) (aq.length-fD.toNat)))) (.aC (aG 1 .live aF (aq.take (a3.toNat-0)++((aq.drop (0+fD.toNat)).take (aq.length-fD.toNat)))) (aG 1 .live ec bb))))))))))))
  (fun o =>
  .ret (b0 [(ab 7),.al false,.bm [0,1,2,3,4] [.box [.id,.id,.id,.id,.id,.id],.bD (ay 1 (bX 2 0 2) ao),.bD (c6 2 aN bC),.pure,.pure] []] (.dr o (eW (c8 [0,1,2,3,4]) 2 2 0 2 rfl ao) (e1 (c8 [0,1,2,3,4]) 2 ef bC) (aG 1 .live aF aq) (aG 1 .live ec bb))))
theorem TA {h7 c9:Int}{bb:List Bool}{a3:Int}{a8:Bool}{aH:List Int}{ao:List b6}{bC:List (List bg)}{aq:List Int}{r} (h:GZ h7 c9 bb a3 a8 aH ao bC aq=some r):fH bx 86 5 83 [1,0,0] (GC h7 c9 bb) (GK h7 c9 bb) (a3,a8,aH,ao,bC,aq) r:=fI (fun _=>Th) h
def zC (h7:Int)(cg:Bool)(cH:List Int)(fJ:Int)(cW:List b6)(me:List (List bg))(dg:List Int)(hD:List Bool):Option (Bool×(List Int)×(List b6)×(List (List bg))×(List Int)) :=
 GZ h7 fJ hD 0 cg cH cW me dg >>= fun an =>
 some (an.1,an.2.1,an.2.2.1,an.2.2.2.1,an.2.2.2.2)
theorem TR {h7:Int}{cg:Bool}{cH:List Int}{fJ:Int}{cW:List b6}{me:List (List bg)}{dg:List Int}{hD:List Bool}:b4 (zC h7 cg cH fJ cW me dg hD) (fun a=>Con bx 83 [.ref 0 0 0 0,.n .i64 h7] [[af.mk 6 [(eJ 1 0 0 cW.length cg cH 3 0 0 dg.length fJ 4 0 0 hD.length)] .live],(ay 1 (bX 2 0 2) cW),(c6 2 aN me),(ay 1 J dg),(ay 1 dO hD)] (.dB []) [[af.mk 6 [(eJ 1 0 0 a.2.2.1.length a.1 a.2.1 3 0 0 a.2.2.2.2.length fJ 4 0 0 hD.length)] .live],(ay 1 (bX 2 0 2) a.2.2.1),(c6 2 aN a.2.2.2.1),(ay 1 J a.2.2.2.2),(ay 1 dO hD)]):=by
 unfold zC
 exact .az fun an R =>
  .ret (let aW:=eJ 1 0 0 an.2.2.1.length an.1 an.2.1 3 0 0 an.2.2.2.2.length fJ 4 0 0 hD.length;let bk:=c8 [0,1,2,3,4];i1 [(ab 1),.bm [0,1,2,3,4] [.box [.id,.id,.id,.id,.id,.id],.bD (ay 1 (bX 2 0 2) cW),.bD (c6 2 aN me),.pure,.pure] (bY [0,1,4]),(GK h7 fJ hD an).gC] [0,1,2,3,4] [.bD [af.mk 6 [aW] .live],.bD (ay 1 (bX 2 0 2) an.2.2.1),.bD (c6 2 aN an.2.2.2.1),.pure,.pure] (.bj (eW bk 2 2 0 2 rfl cW) (e1 bk 2 ef me) (aG 1 .live aF dg) (aG 1 .live ec hD) (TA R) (iK bk 6 [aW] [aW] rfl) (eW bk 2 2 0 2 rfl an.2.2.1) (e1 bk 2 ef an.2.2.2.1) (.aC (aG 1 .live aF an.2.2.2.2) (aG 1 .live ec hD))))
def Hm (bc a3:Int)(ix gK:Nat)(d7:Int)(jV jU:Nat)(jZ aH:Int)(ao aS aq:List Int)(cM:Bool)(cJ:List Int)(cj:List b6)(dA:List Int)(ck:List Bool):(Int×(List (List bg)))→S:=fun (fP,iN)=>e2 [(0,.ref 0 0 0 0),(4,.n .i64 bc),(5,.ref 4 0 0 0),(6,.n .i64 a3),(7,.bF 5 (ix+0) 0 gK),(8,.n .i64 (-1:Int)),(34,.n .i64 d7),(35,.n .i64 a3),(51,.bF 1 0 jV jU),(52,.n .i64 jZ),(53,.n .i64 fP)] [[af.mk 5 [(fA d7 aH 1 0 0 ao.length 2 0 0 aS.length 3 0 0 aq.length)] .live],(ay 1 J ao),(ay 1 J aS),(ay 1 J aq),[af.mk 6 [(eJ 6 0 0 cj.length cM cJ 7 0 0 dA.length bc 8 0 0 ck.length)] .live],(c6 2 aN iN),(ay 1 (bX 5 0 2) cj),(ay 1 J dA),(ay 1 dO ck)]
def HE (bc a3:Int)(ix gK:Nat)(d7:Int)(jV jU:Nat)(jZ aH:Int)(ao aS aq:List Int)(cM:Bool)(cJ:List Int)(cj:List b6)(dA:List Int)(ck:List Bool):(List (List bg))→e5
 | a=>⟨some 2,[(0,.ref 0 0 0 0),(4,.n .i64 bc),(5,.ref 4 0 0 0),(6,.n .i64 a3),(7,.bF 5 (ix+0) 0 gK),(8,.n .i64 (-1:Int)),(34,.n .i64 d7),(35,.n .i64 a3)],[[af.mk 5 [(fA d7 aH 1 0 0 ao.length 2 0 0 aS.length 3 0 0 aq.length)] .live],(ay 1 J ao),(ay 1 J aS),(ay 1 J aq),[af.mk 6 [(eJ 6 0 0 cj.length cM cJ 7 0 0 dA.length bc 8 0 0 ck.length)] .live],(c6 2 aN a),(ay 1 (bX 5 0 2) cj),(ay 1 J dA),(ay 1 dO ck)]⟩
def xa (bc a3:Int)(ix gK:Nat)(d7:Int)(jV jU:Nat)(jZ aH:Int)(ao aS aq:List Int)(cM:Bool)(cJ:List Int)(cj:List b6)(dA:List Int)(ck:List Bool)(fP:Int)(iN:List (List bg)):Option ((Int×(List (List bg)))⊕((List (List bg)))) :=
 if (decide (fP<jZ))=true then
  if 0≤fP∧fP<(jU:Nat) then
  ao[(jV+fP.toNat)]? >>= fun aO =>
  oq (U ((-1:Int)*aO)) >>= fun bp =>
  iN[ix]? >>= fun lV =>
  if 0≤fP∧fP<(gK:Nat) then
  lV[(0+fP.toNat)]? >>= fun jf =>
  some (.inl (U (fP+(1:Int)),iN.set ix (lV.set (0+fP.toNat) bp)))
  else none
  else none
 else
  some (.inr iN)
def Dc (bc a3:Int)(ix gK:Nat)(d7:Int)(jV jU:Nat)(jZ aH:Int)(ao aS aq:List Int)(cM:Bool)(cJ:List Int)(cj:List b6)(dA:List Int)(ck:List Bool)(fP:Int)(iN:List (List bg)):Option ((List (List bg))):=iter (fun w:Int×(List (List bg))=>xa bc a3 ix gK d7 jV jU jZ aH ao aS aq cM cJ cj dA ck w.1 w.2) (fP,iN)
theorem TS {bc a3:Int}{ix gK:Nat}{d7:Int}{jV jU:Nat}{jZ aH:Int}{ao aS aq:List Int}{cM:Bool}{cJ:List Int}{cj:List b6}{dA:List Int}{ck:List Bool}{fP:Int}{iN:List (List bg)}:b4 (xa bc a3 ix gK d7 jV jU jZ aH ao aS aq cM cJ cj dA ck fP iN) (fG bx 205 4 59 [1,1,1,0,1,0,0,1,1,0,0,1,1,1,1,0,1,0,0] (Hm bc a3 ix gK d7 jV jU jZ aH ao aS aq cM cJ cj dA ck (fP,iN)) (Hm bc a3 ix gK d7 jV jU jZ aH ao aS aq cM cJ cj dA ck) (HE bc a3 ix gK d7 jV jU jZ aH ao aS aq cM cJ cj dA ck)):=by
 unfold xa
 exact .ite (fun o =>
  .bl fun R =>
  .az fun aO aD =>
  .az fun bp bq =>
  .az fun lV bn =>
  .bl fun cA =>
  .az fun jf cK =>
  .ret (let aW:=c8 [0,1,2,3,4,5,6,7,8];let bk:=l2 (iU .live 2 aN iN) lG bn;b0 [(ab 1),.al true,.aE (bT 2 (.cq (J aO)) 2),.aE (ae 5 (ai (bA 1 (.agg (aN bp)) false) (ai (.hz (af.mk 2 (lV.map aN) .live) []) (ai (.hz (af.mk 2 (lV.map aN) .live) (aN jf)) [])))),(ab 2),.bm [0,1,2,3,4,5,6,7,8] [.box [.id,.id,.id,.id,.id],.pure,.pure,.pure,.box [.id,.id,.id,.id,.id,.id],.bD (c6 2 aN (iN.set ix (lV.set (0+fP.toNat) bp))),.bD (ay 1 (bX 5 0 2) cj),.pure,.pure] (bY [0,4,5,6,7,8,34,35,51,52,53])] (.bj o R.1 R.2 (cz J aD) (r2 bp bq) bk cA.1 cA.2 (.bj bk (cz aN cK) (aG 1 .live aF ao) (aG 1 .live aF aS) (aG 1 .live aF aq) (qO (b7:=aW) (sb (iU .live 2 aN iN) ix (mU (el aN lV) (0+fP.toNat) bp (rfl:(setCells (aN jf) 0 (aN bp))=aN bp))) (oB ef)) (eW aW 5 5 0 2 rfl cj) (aG 1 .live aF dA) (.aw (aG 1 .live ec ck))))))
  (fun o =>
  .ret (let cc:=c8 [0,1,2,3,4,5,6,7,8];b0 [(ab 1),.al false,.bm [0,1,2,3,4,5,6,7,8] [.box [.id,.id,.id,.id,.id],.pure,.pure,.pure,.box [.id,.id,.id,.id,.id,.id],.bD (c6 2 aN iN),.bD (ay 1 (bX 5 0 2) cj),.pure,.pure] (bY [0,4,5,6,7,8,34,35])] (.gX o (aG 1 .live aF ao) (aG 1 .live aF aS) (aG 1 .live aF aq) (e1 cc 2 ef iN) (eW cc 5 5 0 2 rfl cj) (aG 1 .live aF dA) (aG 1 .live ec ck))))
theorem Uz {bc a3:Int}{ix gK:Nat}{d7:Int}{jV jU:Nat}{jZ aH:Int}{ao aS aq:List Int}{cM:Bool}{cJ:List Int}{cj:List b6}{dA:List Int}{ck:List Bool}{fP:Int}{iN:List (List bg)}{r} (h:Dc bc a3 ix gK d7 jV jU jZ aH ao aS aq cM cJ cj dA ck fP iN=some r):fH bx 205 4 59 [1,1,1,0,1,0,0,1,1,0,0,1,1,1,1,0,1,0,0] (Hm bc a3 ix gK d7 jV jU jZ aH ao aS aq cM cJ cj dA ck) (HE bc a3 ix gK d7 jV jU jZ aH ao aS aq cM cJ cj dA ck) (fP,iN) r:=fI (fun _=>TS) h
def Hn (bc a3:Int)(ix gK:Nat)(d7:Int)(jV jU:Nat)(jZ aH:Int)(ao aS aq:List Int)(cM:Bool)(cJ:List Int)(cj:List b6)(dA:List Int)(ck:List Bool):(Int×(List (List bg)))→S:=fun (fP,iN)=>e2 [(0,.ref 0 0 0 0),(4,.n .i64 bc),(5,.ref 4 0 0 0),(6,.n .i64 a3),(7,.bF 5 (ix+0) 0 gK),(8,.n .i64 (1:Int)),(34,.n .i64 d7),(35,.n .i64 a3),(51,.bF 1 0 jV jU),(52,.n .i64 jZ),(53,.n .i64 fP)] [[af.mk 5 [(fA d7 aH 1 0 0 ao.length 2 0 0 aS.length 3 0 0 aq.length)] .live],(ay 1 J ao),(ay 1 J aS),(ay 1 J aq),[af.mk 6 [(eJ 6 0 0 cj.length cM cJ 7 0 0 dA.length bc 8 0 0 ck.length)] .live],(c6 2 aN iN),(ay 1 (bX 5 0 2) cj),(ay 1 J dA),(ay 1 dO ck)]
def HF (bc a3:Int)(ix gK:Nat)(d7:Int)(jV jU:Nat)(jZ aH:Int)(ao aS aq:List Int)(cM:Bool)(cJ:List Int)(cj:List b6)(dA:List Int)(ck:List Bool):(List (List bg))→e5
 | a=>⟨some 2,[(0,.ref 0 0 0 0),(4,.n .i64 bc),(5,.ref 4 0 0 0),(6,.n .i64 a3),(7,.bF 5 (ix+0) 0 gK),(8,.n .i64 (1:Int)),(34,.n .i64 d7),(35,.n .i64 a3)],[[af.mk 5 [(fA d7 aH 1 0 0 ao.length 2 0 0 aS.length 3 0 0 aq.length)] .live],(ay 1 J ao),(ay 1 J aS),(ay 1 J aq),[af.mk 6 [(eJ 6 0 0 cj.length cM cJ 7 0 0 dA.length bc 8 0 0 ck.length)] .live],(c6 2 aN a),(ay 1 (bX 5 0 2) cj),(ay 1 J dA),(ay 1 dO ck)]⟩
def xb (bc a3:Int)(ix gK:Nat)(d7:Int)(jV jU:Nat)(jZ aH:Int)(ao aS aq:List Int)(cM:Bool)(cJ:List Int)(cj:List b6)(dA:List Int)(ck:List Bool)(fP:Int)(iN:List (List bg)):Option ((Int×(List (List bg)))⊕((List (List bg)))) :=
 if (decide (fP<jZ))=true then
  if 0≤fP∧fP<(jU:Nat) then
  ao[(jV+fP.toNat)]? >>= fun aO =>
  oq (U ((1:Int)*aO)) >>= fun bp =>
  iN[ix]? >>= fun lV =>
  if 0≤fP∧fP<(gK:Nat) then
  lV[(0+fP.toNat)]? >>= fun jf =>
  some (.inl (U (fP+(1:Int)),iN.set ix (lV.set (0+fP.toNat) bp)))
  else none
  else none
 else
  some (.inr iN)
def Dd (bc a3:Int)(ix gK:Nat)(d7:Int)(jV jU:Nat)(jZ aH:Int)(ao aS aq:List Int)(cM:Bool)(cJ:List Int)(cj:List b6)(dA:List Int)(ck:List Bool)(fP:Int)(iN:List (List bg)):Option ((List (List bg))):=iter (fun w:Int×(List (List bg))=>xb bc a3 ix gK d7 jV jU jZ aH ao aS aq cM cJ cj dA ck w.1 w.2) (fP,iN)
theorem TT {bc a3:Int}{ix gK:Nat}{d7:Int}{jV jU:Nat}{jZ aH:Int}{ao aS aq:List Int}{cM:Bool}{cJ:List Int}{cj:List b6}{dA:List Int}{ck:List Bool}{fP:Int}{iN:List (List bg)}:b4 (xb bc a3 ix gK d7 jV jU jZ aH ao aS aq cM cJ cj dA ck fP iN) (fG bx 205 4 59 [1,1,1,0,1,0,0,1,1,0,0,1,1,1,1,0,1,0,0] (Hn bc a3 ix gK d7 jV jU jZ aH ao aS aq cM cJ cj dA ck (fP,iN)) (Hn bc a3 ix gK d7 jV jU jZ aH ao aS aq cM cJ cj dA ck) (HF bc a3 ix gK d7 jV jU jZ aH ao aS aq cM cJ cj dA ck)):=by
 unfold xb
 exact .ite (fun o =>
  .bl fun R =>
  .az fun aO aD =>
  .az fun bp bq =>
  .az fun lV bn =>
  .bl fun cA =>
  .az fun jf cK =>
  .ret (let aW:=c8 [0,1,2,3,4,5,6,7,8];let bk:=l2 (iU .live 2 aN iN) lG bn;b0 [(ab 1),.al true,.aE (bT 2 (.cq (J aO)) 2),.aE (ae 5 (ai (bA 1 (.agg (aN bp)) false) (ai (.hz (af.mk 2 (lV.map aN) .live) []) (ai (.hz (af.mk 2 (lV.map aN) .live) (aN jf)) [])))),(ab 2),.bm [0,1,2,3,4,5,6,7,8] [.box [.id,.id,.id,.id,.id],.pure,.pure,.pure,.box [.id,.id,.id,.id,.id,.id],.bD (c6 2 aN (iN.set ix (lV.set (0+fP.toNat) bp))),.bD (ay 1 (bX 5 0 2) cj),.pure,.pure] (bY [0,4,5,6,7,8,34,35,51,52,53])] (.bj o R.1 R.2 (cz J aD) (r2 bp bq) bk cA.1 cA.2 (.bj bk (cz aN cK) (aG 1 .live aF ao) (aG 1 .live aF aS) (aG 1 .live aF aq) (qO (b7:=aW) (sb (iU .live 2 aN iN) ix (mU (el aN lV) (0+fP.toNat) bp (rfl:(setCells (aN jf) 0 (aN bp))=aN bp))) (oB ef)) (eW aW 5 5 0 2 rfl cj) (aG 1 .live aF dA) (.aw (aG 1 .live ec ck))))))
  (fun o =>
  .ret (let cc:=c8 [0,1,2,3,4,5,6,7,8];b0 [(ab 1),.al false,.bm [0,1,2,3,4,5,6,7,8] [.box [.id,.id,.id,.id,.id],.pure,.pure,.pure,.box [.id,.id,.id,.id,.id,.id],.bD (c6 2 aN iN),.bD (ay 1 (bX 5 0 2) cj),.pure,.pure] (bY [0,4,5,6,7,8,34,35])] (.gX o (aG 1 .live aF ao) (aG 1 .live aF aS) (aG 1 .live aF aq) (e1 cc 2 ef iN) (eW cc 5 5 0 2 rfl cj) (aG 1 .live aF dA) (aG 1 .live ec ck))))
theorem UA {bc a3:Int}{ix gK:Nat}{d7:Int}{jV jU:Nat}{jZ aH:Int}{ao aS aq:List Int}{cM:Bool}{cJ:List Int}{cj:List b6}{dA:List Int}{ck:List Bool}{fP:Int}{iN:List (List bg)}{r} (h:Dd bc a3 ix gK d7 jV jU jZ aH ao aS aq cM cJ cj dA ck fP iN=some r):fH bx 205 4 59 [1,1,1,0,1,0,0,1,1,0,0,1,1,1,1,0,1,0,0] (Hn bc a3 ix gK d7 jV jU jZ aH ao aS aq cM cJ cj dA ck) (HF bc a3 ix gK d7 jV jU jZ aH ao aS aq cM cJ cj dA ck) (fP,iN) r:=fI (fun _=>TT) h
def Ho (bc d7 aH:Int)(ao aS aq:List Int)(cM:Bool)(cJ:List Int)(ck:List Bool):(Int×(List b6)×(List (List bg))×(List Int))→S:=fun (dx,bw,ey,dA)=>e2 [(0,.ref 0 0 0 0),(4,.n .i64 bc),(5,.ref 4 0 0 0),(34,.n .i64 d7),(35,.n .i64 dx)] [[af.mk 5 [(fA d7 aH 1 0 0 ao.length 2 0 0 aS.length 3 0 0 aq.length)] .live],(ay 1 J ao),(ay 1 J aS),(ay 1 J aq),[af.mk 6 [(eJ 5 0 0 bw.length cM cJ 7 0 0 dA.length bc 8 0 0 ck.length)] .live],(ay 1 (bX 6 0 2) bw),(c6 2 aN ey),(ay 1 J dA),(ay 1 dO ck)]
def HG (bc d7 aH:Int)(ao aS aq:List Int)(cM:Bool)(cJ:List Int)(ck:List Bool):((List b6)×(List (List bg))×(List Int))→e5
 | a=>⟨some 0,[(0,.ref 0 0 0 0),(4,.n .i64 bc),(5,.ref 4 0 0 0)],[[af.mk 5 [(fA d7 aH 1 0 0 ao.length 2 0 0 aS.length 3 0 0 aq.length)] .live],(ay 1 J ao),(ay 1 J aS),(ay 1 J aq),[af.mk 6 [(eJ 5 0 0 a.1.length cM cJ 7 0 0 a.2.2.length bc 8 0 0 ck.length)] .live],(ay 1 (bX 6 0 2) a.1),(c6 2 aN a.2.1),(ay 1 J a.2.2),(ay 1 dO ck)]⟩
def xc (bc d7 aH:Int)(ao aS aq:List Int)(cM:Bool)(cJ:List Int)(ck:List Bool)(dx:Int)(bw:List b6)(ey:List (List bg))(dA:List Int):Option ((Int×(List b6)×(List (List bg))×(List Int))⊕((List b6)×(List (List bg))×(List Int))) :=
 if (decide (dx<d7))=true then
  if 0≤(U (bc+(1:Int)))∧(32:Int)*(U (bc+(1:Int)))≤281474976710656∧(U (bc+(1:Int)))<9223372036854775808 then
  if 0≤dx∧dx<(aS.length:Nat) then
  aS[(0+dx.toNat)]? >>= fun gj =>
  if (decide (gj<(0:Int)))=true then
   CV dx d7 aH ao aS aq >>= fun bH =>
   Dc bc dx ey.length ((U (bc+(1:Int))).toNat) d7 bH.1 bH.2 ((bH.2:Nat):Int) aH ao aS aq cM cJ bw dA ck 0 (ey++[(List.replicate (U (bc+(1:Int))).toNat (⟨false,([]:List Int)⟩:bg):List bg)]) >>= fun bs =>
   oq 1 >>= fun fk =>
   bs[ey.length]? >>= fun og =>
   if 0≤(U (aH+dx))∧(U (aH+dx))<((U (bc+(1:Int))).toNat:Nat) then
   og[(0+(U (aH+dx)).toNat)]? >>= fun lA =>
   oq (U ((-1:Int)*gj)) >>= fun ea =>
   (bs.set ey.length (og.set (0+(U (aH+dx)).toNat) fk))[ey.length]? >>= fun pA =>
   if 0≤bc∧bc<((U (bc+(1:Int))).toNat:Nat) then
   pA[(0+bc.toNat)]? >>= fun eZ =>
   if (bw++([(some (ey.length,(U (bc+(1:Int))).toNat))]:List b6)).length*24≤140737488355328 then
   if (dA++([U (aH+dx)]:List Int)).length*8≤140737488355328 then
   some (.inl (U (dx+(1:Int)),bw++([(some (ey.length,(U (bc+(1:Int))).toNat))]:List b6),(bs.set ey.length (og.set (0+(U (aH+dx)).toNat) fk)).set ey.length (pA.set (0+bc.toNat) ea),dA++([U (aH+dx)]:List Int)))
   else none
   else none
   else none
   else none
  else
   CV dx d7 aH ao aS aq >>= fun bH =>
   Dd bc dx ey.length ((U (bc+(1:Int))).toNat) d7 bH.1 bH.2 ((bH.2:Nat):Int) aH ao aS aq cM cJ bw dA ck 0 (ey++[(List.replicate (U (bc+(1:Int))).toNat (⟨false,([]:List Int)⟩:bg):List bg)]) >>= fun bs =>
   oq 1 >>= fun fk =>
   bs[ey.length]? >>= fun og =>
   if 0≤(U (aH+dx))∧(U (aH+dx))<((U (bc+(1:Int))).toNat:Nat) then
   og[(0+(U (aH+dx)).toNat)]? >>= fun lA =>
   oq (U ((1:Int)*gj)) >>= fun ea =>
   (bs.set ey.length (og.set (0+(U (aH+dx)).toNat) fk))[ey.length]? >>= fun pA =>
   if 0≤bc∧bc<((U (bc+(1:Int))).toNat:Nat) then
   pA[(0+bc.toNat)]? >>= fun eZ =>
   if (bw++([(some (ey.length,(U (bc+(1:Int))).toNat))]:List b6)).length*24≤140737488355328 then
   if (dA++([U (aH+dx)]:List Int)).length*8≤140737488355328 then
   some (.inl (U (dx+(1:Int)),bw++([(some (ey.length,(U (bc+(1:Int))).toNat))]:List b6),(bs.set ey.length (og.set (0+(U (aH+dx)).toNat) fk)).set ey.length (pA.set (0+bc.toNat) ea),dA++([U (aH+dx)]:List Int)))
   else none
   else none
   else none
   else none
  else none
  else none
 else
  some (.inr (bw,ey,dA))
def De (bc d7 aH:Int)(ao aS aq:List Int)(cM:Bool)(cJ:List Int)(ck:List Bool)(dx:Int)(bw:List b6)(ey:List (List bg))(dA:List Int):Option ((List b6)×(List (List bg))×(List Int)):=iter (fun w:Int×(List b6)×(List (List bg))×(List Int)=>xc bc d7 aH ao aS aq cM cJ ck w.1 w.2.1 w.2.2.1 w.2.2.2) (dx,bw,ey,dA)
set_option maxHeartbeats 4000000 in
theorem TU {bc d7 aH:Int}{ao aS aq:List Int}{cM:Bool}{cJ:List Int}{ck:List Bool}{dx:Int}{bw:List b6}{ey:List (List bg)}{dA:List Int}:b4 (xc bc d7 aH ao aS aq cM cJ ck dx bw ey dA) (fG bx 205 4 59 [1,1,1,0,1,0,0] (Ho bc d7 aH ao aS aq cM cJ ck (dx,bw,ey,dA)) (Ho bc d7 aH ao aS aq cM cJ ck) (HG bc d7 aH ao aS aq cM cJ ck)):=by
 unfold xc
 exact .ite (fun o =>
  .bl fun R =>
  .bl fun ad =>
  .az fun gj aM =>
  (let t1:List cL:=[(ab 1),.al true,(ab 2),.aE (bT 2 (.Cc 6 (ey.length+0) (.cq [.b false,.isl 1 (([]:List Int).map J)])) 1),(ab 1),.aE (bT 6 (.cq (J gj)) 1)];
  have a9:=((.bj o R.1 (Int.le_refl (U (bc+(1:Int)))) R.2.1 R.2.2 (congrArg (· + 0) (Zw (iU .live 2 aN ey) rfl)) ad.1 ad.2 (.aw (cz J aM))):c3 _);
  .ite (fun bq =>
  .az fun bH bn =>
  .az fun bs de =>
  .az fun fk dc =>
  .az fun og e9 =>
  .bl fun fZ =>
  .az fun lA gx =>
  .az fun ea j7 =>
  .az fun pA lS =>
  .bl fun hn =>
  .az fun eZ oP =>
  .bl fun kj =>
  .bl fun qy =>
  .ret (let aW:=fA d7 aH 1 0 0 ao.length 2 0 0 aS.length 3 0 0 aq.length;let cc:=(U (bc+(1:Int)));let cV:=c8 [0,1,2,3,4,40,5,56,8];let d5:=U (aH+dx);let bk:=(sb (iU .live 2 aN bs) ey.length (mU (el aN og) (0+d5.toNat) fk (rfl:(setCells (aN lA) 0 (aN fk))=aN fk)));let fB:=(dA++([d5]:List Int));let hE:=(bw++([(some (ey.length,cc.toNat))]:List b6));let fD:=c8 [0,1,2,3,4,6,5,7,8];let jO:=l2 (iU .live 2 aN bs) lG e9;b0 (t1.append [.al true,(ab 1),.aE (bT 2 (.call {aQ:=(ob [0,1,2,3]),cO:=[.bD [af.mk 5 [aW] .live],.pure,.pure,.pure],ac:=[ii,ii],r:= .bF 1 0 bH.1 bH.2,d4:=[[af.mk 5 [aW] .live],(ay 1 J ao),(ay 1 J aS),(ay 1 J aq)],fu:=ii,gd:=[.bD [af.mk 5 [aW] .live],.pure,.pure,.pure],dG:=[0,1,2,3],dD:=false}) 2),.bm [0,1,2,3,4,6,5,7,8] [.box [.id,.id,.id,.id,.id],.pure,.pure,.pure,.box [.id,.id,.id,.id,.id,.id],.bD (c6 2 aN (ey++[(List.replicate cc.toNat (⟨false,([]:List Int)⟩:bg):List bg)])),.bD (ay 1 (bX 5 0 2) bw),.pure,.pure] (bY [0,4,5,6,7,8,34,35,51,52,53]),(HE bc dx ey.length (cc.toNat) d7 bH.1 bH.2 ((bH.2:Nat):Int) aH ao aS aq cM cJ bw dA ck bs).gC,.aE (ae 7 (ai (bA 1 (.agg (aN fk)) false) (ai (.hz (af.mk 2 (og.map aN) .live) []) (ai (.hz (af.mk 2 (og.map aN) .live) (aN lA)) [])))),.aE (ae 9 (ai (.cq (J gj)) (ae 1 (ai (bA 1 (.agg (aN ea)) false) (ai (.hz (af.mk 2 (pA.map aN) .live) []) (ai (.hz (af.mk 2 (pA.map aN) .live) (aN eZ)) [])))))),.aE (ae 6 (ai (.fe 93 (nk 5 0 2 (some (ey.length,cc.toNat))) .none) (ai (.aY (hE.length)) (ae 3 [])))),.aE (bT 12 (.aY (fB.length)) 3),(ab 2),.bm [0,1,2,3,4,40,5,56,8] [.box [.id,.id,.id,.id,.id],.pure,.pure,.pure,.box [.id,.id,.id,.id,.id,.id],.bD (ay 1 (bX 6 0 2) hE),.bD (c6 2 aN ((bs.set ey.length (og.set (0+d5.toNat) fk)).set ey.length (pA.set (0+bc.toNat) ea))),.eg (ay 1 J fB),.pure] (bY [0,4,5,34,35])]) (a9.aY (.bj bq (iK (oV [0,1,2,3]) 5 [aW] [aW] rfl) (i4 5 [aW]) (fa 1 aF ao) (fa 1 aF aS) (fa 1 aF aq) (iK (hN [0,1,2,3]) 5 [aW] [aW] rfl) (i4 5 [aW]) (.bj (fa 1 aF ao) (fa 1 aF aS) (fa 1 aF aq) (Mz bH bn) (aG 1 .live aF ao) (aG 1 .live aF aS) (aG 1 .live aF aq) (qO (b7:=fD) (P5 (iU .live 2 aN ey) (QF sI 14 6 (ey.length+0) (lL aN cc.toNat (⟨false,([]:List Int)⟩:bg)) (QG 14 6 (ey.length+0)))) (oB ef)) (.bj (eW fD 5 6 0 2 rfl bw) (aG 1 .live aF dA) (aG 1 .live ec ck) (Uz de) (r2 fk dc) jO fZ.1 fZ.2 (.bj jO (cz aN gx) ad.1 ad.2 (cz J aM) (r2 ea j7) (l2 bk lG lS) hn.1 (.bj hn.2 (l2 bk lG lS) (cz aN oP) (.s2 5 0 2 ey.length (cc.toNat):kS (.bF 5 (ey.length+0) 0 (cc.toNat)) (nk 5 0 2 (some (ey.length,cc.toNat)))) (kO (bX 5 0 2) (some (ey.length,cc.toNat))) (sv (bX 5 0 2) bw) (oi (bX 5 0 2) bw (some (ey.length,cc.toNat))) kj (.bj (kO J d5) (sv J dA) (oi J dA d5) qy (aG 1 .live aF ao) (aG 1 .live aF aS) (aG 1 .live aF aq) (eM (tC (b7:=cV) 1 .live (bX 6 0 2) (sw (bX 5 0 2) bw (some (ey.length,cc.toNat))) (AW (rfl:cV 5=some 6))) (kE (b7:=cV))) (.dn (qO (b7:=cV) (sb bk ey.length (mU (el aN pA) (0+bc.toNat) ea (rfl:(setCells (aN eZ) 0 (aN ea))=aN ea))) (oB ef)) (e6 1 .live (sw J dA d5)) (aG 1 .live aF fB) (aG 1 .live ec ck)))))))))))
  (fun bq =>
  .az fun bH bn =>
  .az fun bs de =>
  .az fun fk dc =>
  .az fun og e9 =>
  .bl fun fZ =>
  .az fun lA gx =>
  .az fun ea j7 =>
  .az fun pA lS =>
  .bl fun hn =>
  .az fun eZ oP =>
  .bl fun kj =>
  .bl fun qy =>
  .ret (let jK:=fA d7 aH 1 0 0 ao.length 2 0 0 aS.length 3 0 0 aq.length;let kY:=(U (bc+(1:Int)));let mC:=c8 [0,1,2,3,4,40,5,56,8];let od:=U (aH+dx);let kX:=(sb (iU .live 2 aN bs) ey.length (mU (el aN og) (0+od.toNat) fk (rfl:(setCells (aN lA) 0 (aN fk))=aN fk)));let mb:=(dA++([od]:List Int));let qx:=(bw++([(some (ey.length,kY.toNat))]:List b6));let tq:=c8 [0,1,2,3,4,6,5,7,8];let qz:=l2 (iU .live 2 aN bs) lG e9;b0 (t1.append [.al false,.aE (bT 2 (.call {aQ:=(ob [0,1,2,3]),cO:=[.bD [af.mk 5 [jK] .live],.pure,.pure,.pure],ac:=[ii,ii],r:= .bF 1 0 bH.1 bH.2,d4:=[[af.mk 5 [jK] .live],(ay 1 J ao),(ay 1 J aS),(ay 1 J aq)],fu:=ii,gd:=[.bD [af.mk 5 [jK] .live],.pure,.pure,.pure],dG:=[0,1,2,3],dD:=false}) 2),.bm [0,1,2,3,4,6,5,7,8] [.box [.id,.id,.id,.id,.id],.pure,.pure,.pure,.box [.id,.id,.id,.id,.id,.id],.bD (c6 2 aN (ey++[(List.replicate kY.toNat (⟨false,([]:List Int)⟩:bg):List bg)])),.bD (ay 1 (bX 5 0 2) bw),.pure,.pure] (bY [0,4,5,6,7,8,34,35,51,52,53]),(HF bc dx ey.length (kY.toNat) d7 bH.1 bH.2 ((bH.2:Nat):Int) aH ao aS aq cM cJ bw dA ck bs).gC,.aE (ae 7 (ai (bA 1 (.agg (aN fk)) false) (ai (.hz (af.mk 2 (og.map aN) .live) []) (ai (.hz (af.mk 2 (og.map aN) .live) (aN lA)) [])))),.aE (ae 9 (ai (.cq (J gj)) (ae 1 (ai (bA 1 (.agg (aN ea)) false) (ai (.hz (af.mk 2 (pA.map aN) .live) []) (ai (.hz (af.mk 2 (pA.map aN) .live) (aN eZ)) [])))))),.aE (ae 6 (ai (.fe 93 (nk 5 0 2 (some (ey.length,kY.toNat))) .none) (ai (.aY (qx.length)) (ae 3 [])))),.aE (bT 12 (.aY (mb.length)) 3),(ab 2),.bm [0,1,2,3,4,40,5,56,8] [.box [.id,.id,.id,.id,.id],.pure,.pure,.pure,.box [.id,.id,.id,.id,.id,.id],.bD (ay 1 (bX 6 0 2) qx),.bD (c6 2 aN ((bs.set ey.length (og.set (0+od.toNat) fk)).set ey.length (pA.set (0+bc.toNat) ea))),.eg (ay 1 J mb),.pure] (bY [0,4,5,34,35])]) (a9.aY (.bj bq (iK (oV [0,1,2,3]) 5 [jK] [jK] rfl) (i4 5 [jK]) (fa 1 aF ao) (fa 1 aF aS) (fa 1 aF aq) (iK (hN [0,1,2,3]) 5 [jK] [jK] rfl) (i4 5 [jK]) (.bj (fa 1 aF ao) (fa 1 aF aS) (fa 1 aF aq) (Mz bH bn) (aG 1 .live aF ao) (aG 1 .live aF aS) (aG 1 .live aF aq) (qO (b7:=tq) (P5 (iU .live 2 aN ey) (QF sI 14 6 (ey.length+0) (lL aN kY.toNat (⟨false,([]:List Int)⟩:bg)) (QG 14 6 (ey.length+0)))) (oB ef)) (.bj (eW tq 5 6 0 2 rfl bw) (aG 1 .live aF dA) (aG 1 .live ec ck) (UA de) (r2 fk dc) qz fZ.1 fZ.2 (.bj qz (cz aN gx) ad.1 ad.2 (cz J aM) (r2 ea j7) (l2 kX lG lS) hn.1 (.bj hn.2 (l2 kX lG lS) (cz aN oP) (.s2 5 0 2 ey.length (kY.toNat):kS (.bF 5 (ey.length+0) 0 (kY.toNat)) (nk 5 0 2 (some (ey.length,kY.toNat)))) (kO (bX 5 0 2) (some (ey.length,kY.toNat))) (sv (bX 5 0 2) bw) (oi (bX 5 0 2) bw (some (ey.length,kY.toNat))) kj (.bj (kO J od) (sv J dA) (oi J dA od) qy (aG 1 .live aF ao) (aG 1 .live aF aS) (aG 1 .live aF aq) (eM (tC (b7:=mC) 1 .live (bX 6 0 2) (sw (bX 5 0 2) bw (some (ey.length,kY.toNat))) (AW (rfl:mC 5=some 6))) (kE (b7:=mC))) (.dn (qO (b7:=mC) (sb kX ey.length (mU (el aN pA) (0+bc.toNat) ea (rfl:(setCells (aN eZ) 0 (aN ea))=aN ea))) (oB ef)) (e6 1 .live (sw J dA od)) (aG 1 .live aF mb) (aG 1 .live ec ck)))))))))))))
  (fun o =>
  .ret (let kM:=c8 [0,1,2,3,4,5,6,7,8];b0 [(ab 1),.al false,.bm [0,1,2,3,4,5,6,7,8] [.box [.id,.id,.id,.id,.id],.pure,.pure,.pure,.box [.id,.id,.id,.id,.id,.id],.bD (ay 1 (bX 6 0 2) bw),.bD (c6 2 aN ey),.pure,.pure] (bY [0,4,5])] (.gX o (aG 1 .live aF ao) (aG 1 .live aF aS) (aG 1 .live aF aq) (eW kM 6 6 0 2 rfl bw) (e1 kM 2 ef ey) (aG 1 .live aF dA) (aG 1 .live ec ck))))
theorem UB {bc d7 aH:Int}{ao aS aq:List Int}{cM:Bool}{cJ:List Int}{ck:List Bool}{dx:Int}{bw:List b6}{ey:List (List bg)}{dA:List Int}{r} (h:De bc d7 aH ao aS aq cM cJ ck dx bw ey dA=some r):fH bx 205 4 59 [1,1,1,0,1,0,0] (Ho bc d7 aH ao aS aq cM cJ ck) (HG bc d7 aH ao aS aq cM cJ ck) (dx,bw,ey,dA) r:=fI (fun _=>TU) h
def Hp (bc pb a8 aH:Int)(ao aS aq:List Int)(cM:Bool)(cJ:List Int)(cj:List b6)(eO:List (List bg))(ck:List Int):(Int×(List Int)×(List Bool))→S:=fun (gQ,bw,eR)=>e2 [(0,.ref 0 0 0 0),(4,.n .i64 bc),(5,.ref 4 0 0 0),(11,.bF 5 0 0 bw.length),(117,.n .i64 pb),(118,.n .i64 gQ)] [[af.mk 5 [(fA a8 aH 1 0 0 ao.length 2 0 0 aS.length 3 0 0 aq.length)] .live],(ay 1 J ao),(ay 1 J aS),(ay 1 J aq),[af.mk 6 [(eJ 6 0 0 cj.length cM cJ 8 0 0 ck.length bc 9 0 0 eR.length)] .live],(ay 1 J bw),(ay 1 (bX 7 0 2) cj),(c6 2 aN eO),(ay 1 J ck),(ay 1 dO eR)]
def HH (bc pb a8 aH:Int)(ao aS aq:List Int)(cM:Bool)(cJ:List Int)(cj:List b6)(eO:List (List bg))(ck:List Int):((List Int)×(List Bool))→e5
 | a=>⟨some 4,[(0,.ref 0 0 0 0),(4,.n .i64 bc),(5,.ref 4 0 0 0),(11,.bF 5 0 0 a.1.length)],[[af.mk 5 [(fA a8 aH 1 0 0 ao.length 2 0 0 aS.length 3 0 0 aq.length)] .live],(ay 1 J ao),(ay 1 J aS),(ay 1 J aq),[af.mk 6 [(eJ 6 0 0 cj.length cM cJ 8 0 0 ck.length bc 9 0 0 a.2.length)] .live],(ay 1 J a.1),(ay 1 (bX 7 0 2) cj),(c6 2 aN eO),(ay 1 J ck),(ay 1 dO a.2)]⟩
def xd (bc pb a8 aH:Int)(ao aS aq:List Int)(cM:Bool)(cJ:List Int)(cj:List b6)(eO:List (List bg))(ck:List Int)(gQ:Int)(bw:List Int)(eR:List Bool):Option ((Int×(List Int)×(List Bool))⊕((List Int)×(List Bool))) :=
 if (decide (gQ<pb))=true then
  if 0≤gQ∧gQ<(eR.length:Nat) then
  if (0+gQ.toNat)<eR.length then
  if (decide (aH≤gQ))=true then
   if 0≤gQ∧gQ<(bw.length:Nat) then
   if (0+gQ.toNat)<bw.length then
   some (.inl (U (gQ+(1:Int)),bw.set (0+gQ.toNat) (-1),eR.set (0+gQ.toNat) (decide (gQ<aH))))
   else none
   else none
  else
   some (.inl (U (gQ+(1:Int)),bw,eR.set (0+gQ.toNat) (decide (gQ<aH))))
  else none
  else none
 else
  some (.inr (bw,eR))
def Df (bc pb a8 aH:Int)(ao aS aq:List Int)(cM:Bool)(cJ:List Int)(cj:List b6)(eO:List (List bg))(ck:List Int)(gQ:Int)(bw:List Int)(eR:List Bool):Option ((List Int)×(List Bool)):=iter (fun w:Int×(List Int)×(List Bool)=>xd bc pb a8 aH ao aS aq cM cJ cj eO ck w.1 w.2.1 w.2.2) (gQ,bw,eR)
theorem TV {bc pb a8 aH:Int}{ao aS aq:List Int}{cM:Bool}{cJ:List Int}{cj:List b6}{eO:List (List bg)}{ck:List Int}{gQ:Int}{bw:List Int}{eR:List Bool}:b4 (xd bc pb a8 aH ao aS aq cM cJ cj eO ck gQ bw eR) (fG bx 205 4 59 [1,1,1,1,1,0,1,0,0] (Hp bc pb a8 aH ao aS aq cM cJ cj eO ck (gQ,bw,eR)) (Hp bc pb a8 aH ao aS aq cM cJ cj eO ck) (HH bc pb a8 aH ao aS aq cM cJ cj eO ck)):=by
 unfold xd
 exact .ite (fun o =>
  .bl fun R =>
  .bl fun ad =>
  (let t1:List cL:=[(ab 1),.al true,(ab 2),.aE (ae 12 (ai .dh [])),(ab 6)];
  have a9:=((.dr o R.1 R.2 (hR dO ad) (hG 1)):c3 _);
  .ite (fun aD =>
  .bl fun aM =>
  .bl fun bq =>
  .ret (let aW:=c8 [0,1,2,3,4,5,6,7,8,9];b0 (t1.append [.al true,.aE (ae 3 (ai .dh [])),(ab 2),.bm [0,1,2,3,4,5,6,7,8,9] [.box [.id,.id,.id,.id,.id],.pure,.pure,.pure,.box [.id,.id,.id,.id,.id,.len ((eR.set (0+gQ.toNat) (decide (gQ<aH))).length)],.eg (ay 1 J (bw.set (0+gQ.toNat) (-1))),.bD (ay 1 (bX 7 0 2) cj),.bD (c6 2 aN eO),.pure,.eg (ay 1 dO (eR.set (0+gQ.toNat) (decide (gQ<aH))))] [(0,ii),(4,ii),(5,ii),(11,ha ((bw.set (0+gQ.toNat) (-1)).length)),(117,ii),(118,ii)]]) (a9.aY (.bj aD aM.1 aM.2 (hR J bq) (hG 1) (aG 1 .live aF ao) (aG 1 .live aF aS) (aG 1 .live aF aq) (.bj (gZ (fq eR) (0+gQ.toNat) (decide (gQ<aH))) (e6 1 .live (gE (el J bw) (0+gQ.toNat) (-1))) (aG 1 .live aF (bw.set (0+gQ.toNat) (-1))) (eW aW 7 7 0 2 rfl cj) (e1 aW 2 ef eO) (aG 1 .live aF ck) (e6 1 .live (gE (el dO eR) (0+gQ.toNat) (decide (gQ<aH)))) (aG 1 .live ec (eR.set (0+gQ.toNat) (decide (gQ<aH)))) (.aw (gZ (fq bw) (0+gQ.toNat) (-1))))))))
  (fun aD =>
  .ret (let bk:=c8 [0,1,2,3,4,5,6,7,8,9];b0 (t1.append [.al false,(ab 2),.bm [0,1,2,3,4,5,6,7,8,9] [.box [.id,.id,.id,.id,.id],.pure,.pure,.pure,.box [.id,.id,.id,.id,.id,.len ((eR.set (0+gQ.toNat) (decide (gQ<aH))).length)],.pure,.bD (ay 1 (bX 7 0 2) cj),.bD (c6 2 aN eO),.pure,.eg (ay 1 dO (eR.set (0+gQ.toNat) (decide (gQ<aH))))] (bY [0,4,5,11,117,118])]) (a9.aY (.bj aD (aG 1 .live aF ao) (aG 1 .live aF aS) (aG 1 .live aF aq) (gZ (fq eR) (0+gQ.toNat) (decide (gQ<aH))) (aG 1 .live aF bw) (eW bk 7 7 0 2 rfl cj) (e1 bk 2 ef eO) (.b1 (aG 1 .live aF ck) (e6 1 .live (gE (el dO eR) (0+gQ.toNat) (decide (gQ<aH)))) (aG 1 .live ec (eR.set (0+gQ.toNat) (decide (gQ<aH)))))))))))
  (fun o =>
  .ret (let cc:=c8 [0,1,2,3,4,5,6,7,8,9];b0 [(ab 1),.al false,.bm [0,1,2,3,4,5,6,7,8,9] [.box [.id,.id,.id,.id,.id],.pure,.pure,.pure,.box [.id,.id,.id,.id,.id,.id],.pure,.bD (ay 1 (bX 7 0 2) cj),.bD (c6 2 aN eO),.pure,.pure] (bY [0,4,5,11])] (.bj o (aG 1 .live aF ao) (aG 1 .live aF aS) (aG 1 .live aF aq) (aG 1 .live aF bw) (eW cc 7 7 0 2 rfl cj) (e1 cc 2 ef eO) (aG 1 .live aF ck) (.aw (aG 1 .live ec eR)))))
theorem UC {bc pb a8 aH:Int}{ao aS aq:List Int}{cM:Bool}{cJ:List Int}{cj:List b6}{eO:List (List bg)}{ck:List Int}{gQ:Int}{bw:List Int}{eR:List Bool}{r} (h:Df bc pb a8 aH ao aS aq cM cJ cj eO ck gQ bw eR=some r):fH bx 205 4 59 [1,1,1,1,1,0,1,0,0] (Hp bc pb a8 aH ao aS aq cM cJ cj eO ck) (HH bc pb a8 aH ao aS aq cM cJ cj eO ck) (gQ,bw,eR) r:=fI (fun _=>TV) h
def Hq (bc pc a8 aH:Int)(ao aS aq:List Int)(cM:Bool)(cJ:List Int)(eE:Int)(bw:List Int)(cj:List b6)(eO:List (List bg))(ck:List Bool):Int→S:=fun mW=>e2 [(0,.ref 0 0 0 0),(4,.n .i64 bc),(5,.ref 4 0 0 0),(149,.bF 5 0 0 bw.length),(150,.n .i64 pc),(151,.n .i64 mW)] [[af.mk 5 [(fA a8 aH 1 0 0 ao.length 2 0 0 aS.length 3 0 0 aq.length)] .live],(ay 1 J ao),(ay 1 J aS),(ay 1 J aq),[af.mk 6 [(eJ 6 0 0 cj.length cM cJ 5 0 0 bw.length eE 8 0 0 ck.length)] .live],(ay 1 J bw),(ay 1 (bX 7 0 2) cj),(c6 2 aN eO),(ay 1 dO ck)]
def CW (bc pc a8 aH:Int)(ao aS aq:List Int)(cM:Bool)(cJ:List Int)(eE:Int)(bw:List Int)(cj:List b6)(eO:List (List bg))(ck:List Bool):((Unit)⊕(Unit))→e5
 | .inl a=>⟨some 6,[(0,.ref 0 0 0 0),(5,.ref 4 0 0 0)],[[af.mk 5 [(fA a8 aH 1 0 0 ao.length 2 0 0 aS.length 3 0 0 aq.length)] .live],(ay 1 J ao),(ay 1 J aS),(ay 1 J aq),[af.mk 6 [(eJ 5 0 0 cj.length cM cJ 7 0 0 bw.length eE 8 0 0 ck.length)] .live],(ay 1 (bX 6 0 2) cj),(c6 2 aN eO),(ay 1 J bw),(ay 1 dO ck)]⟩
 | .inr a=>⟨none,[(2,.ik),(3,.b false)],[[af.mk 5 [(fA a8 aH 1 0 0 ao.length 2 0 0 aS.length 3 0 0 aq.length)] .live],(ay 1 J ao),(ay 1 J aS),(ay 1 J aq)]⟩
def xe (bc pc a8 aH:Int)(ao aS aq:List Int)(cM:Bool)(cJ:List Int)(eE:Int)(bw:List Int)(cj:List b6)(eO:List (List bg))(ck:List Bool)(mW:Int):Option ((Int)⊕((Unit)⊕(Unit))) :=
 if (decide (mW<pc))=true then
  if 0≤mW∧mW<(bw.length:Nat) then
  bw[(0+mW.toNat)]? >>= fun aO =>
  if (decide (aH≤aO))=true then
   if 0≤mW∧mW<(cj.length:Nat) then
   cj[(0+mW.toNat)]? >>= fun gO =>
   gO >>= fun Cp =>
   eO[Cp.1]? >>= fun Fk =>
   if 0≤bc∧bc<(Cp.2:Nat) then
   Fk[(0+bc.toNat)]? >>= fun eG =>
   o1 eG >>= fun cl =>
   if (decide ((0:Int)<cl))=true then
    some (.inr (.inr ()))
   else
    some (.inl (U (mW+(1:Int))))
   else none
   else none
  else
   some (.inl (U (mW+(1:Int))))
  else none
 else
  some (.inr (.inl ()))
def Dg (bc pc a8 aH:Int)(ao aS aq:List Int)(cM:Bool)(cJ:List Int)(eE:Int)(bw:List Int)(cj:List b6)(eO:List (List bg))(ck:List Bool)(mW:Int):Option ((Unit)⊕(Unit)):=iter (fun w:Int=>xe bc pc a8 aH ao aS aq cM cJ eE bw cj eO ck w) mW
theorem TW {bc pc a8 aH:Int}{ao aS aq:List Int}{cM:Bool}{cJ:List Int}{eE:Int}{bw:List Int}{cj:List b6}{eO:List (List bg)}{ck:List Bool}{mW:Int}:b4 (xe bc pc a8 aH ao aS aq cM cJ eE bw cj eO ck mW) (fG bx 205 4 59 [1,1,1,1,1,1,1,0,1,0,0] (Hq bc pc a8 aH ao aS aq cM cJ eE bw cj eO ck mW) (Hq bc pc a8 aH ao aS aq cM cJ eE bw cj eO ck) (CW bc pc a8 aH ao aS aq cM cJ eE bw cj eO ck)):=by
 unfold xe
 exact .ite (fun o =>
  .bl fun R =>
  .az fun aO aD =>
  (let t1:List cL:=[(ab 1),.al true,.aE (bT 2 (.cq (J aO)) 2)];
  .ite (fun aM =>
  .bl fun bq =>
  .az fun gO bn =>
  .az fun Cp de =>
  .az fun Fk dc =>
  .bl fun dT =>
  .az fun eG fZ =>
  .az fun cl gx =>
  (let cV:=l2 (iU .live 2 aN eO) lG dc;let t2:List cL:=t1.append [.aE (ae 13 (ai (.cq ((bX 7 0 2) gO)) (ae 1 (ai (.fe 169 (.bF 7 (Cp.1+0) 0 Cp.2) (.hz (af.mk 2 (Fk.map aN) .live) [])) (ai (.hz (af.mk 2 (Fk.map aN) .live) (aN eG)) (ai (bA 1 (.n .i64 cl) true) (ae 1 (ai (.al true) []))))))))];
  have fR:=((.bj o R.1 R.2 (cz J aD) aM aM aM aM (.bj aM aM bq.1 bq.2 aM (cz (bX 7 0 2) bn) aM aM (.bj (o5 (ek:=7) (c:=0) (sz:=2) de) cV dT.1 dT.2 aM cV (cz aN fZ) aM (.dn (sC cl gx) (cf.n .i64 cl) aM aM)))):c3 _);
  .ite (fun ia =>
  .ret (b0 (t2.append [.al true,(ab 2),.bm [0,1,2,3] [.box [.id,.id,.id,.id,.id],.pure,.pure,.pure] (bY [2,3])]) (fR.aY (.dn ia (aG 1 .live aF ao) (aG 1 .live aF aS) (aG 1 .live aF aq)))))
  (fun ia =>
  .ret (let aW:=c8 [0,1,2,3,4,5,6,7,8];b0 (t2.append [.al false,(ab 2),.bm [0,1,2,3,4,5,6,7,8] [.box [.id,.id,.id,.id,.id],.pure,.pure,.pure,.box [.id,.id,.id,.id,.id,.id],.pure,.bD (ay 1 (bX 7 0 2) cj),.bD (c6 2 aN eO),.pure] (bY [0,4,5,149,150,151])]) (fR.aY (.gX ia (aG 1 .live aF ao) (aG 1 .live aF aS) (aG 1 .live aF aq) (aG 1 .live aF bw) (eW aW 7 7 0 2 rfl cj) (e1 aW 2 ef eO) (aG 1 .live ec ck)))))))
  (fun aM =>
  .ret (let bk:=c8 [0,1,2,3,4,5,6,7,8];b0 (t1.append [.aE (ae 7 (cw 12 (ai (.al false) []))),.al false,(ab 2),.bm [0,1,2,3,4,5,6,7,8] [.box [.id,.id,.id,.id,.id],.pure,.pure,.pure,.box [.id,.id,.id,.id,.id,.id],.pure,.bD (ay 1 (bX 7 0 2) cj),.bD (c6 2 aN eO),.pure] (bY [0,4,5,149,150,151])]) (.bj o R.1 R.2 (cz J aD) aM aM aM aM (.bj aM aM aM aM aM aM aM aM (.bj aM dU (aG 1 .live aF ao) (aG 1 .live aF aS) (aG 1 .live aF aq) (aG 1 .live aF bw) (eW bk 7 7 0 2 rfl cj) (e1 bk 2 ef eO) (.aw (aG 1 .live ec ck)))))))))
  (fun o =>
  .ret (let cc:=c8 [0,1,2,3,4,6,7,5,8];b0 [(ab 1),.al false,.bm [0,1,2,3,4,6,7,5,8] [.box [.id,.id,.id,.id,.id],.pure,.pure,.pure,.box [.id,.id,.id,.id,.id,.id],.bD (ay 1 (bX 6 0 2) cj),.bD (c6 2 aN eO),.pure,.pure] (bY [0,5])] (.gX o (aG 1 .live aF ao) (aG 1 .live aF aS) (aG 1 .live aF aq) (eW cc 6 7 0 2 rfl cj) (e1 cc 2 ef eO) (aG 1 .live aF bw) (aG 1 .live ec ck))))
theorem MO {bc pc a8 aH:Int}{ao aS aq:List Int}{cM:Bool}{cJ:List Int}{eE:Int}{bw:List Int}{cj:List b6}{eO:List (List bg)}{ck:List Bool}{mW:Int}{r} (h:Dg bc pc a8 aH ao aS aq cM cJ eE bw cj eO ck mW=some r):fH bx 205 4 59 [1,1,1,1,1,1,1,0,1,0,0] (Hq bc pc a8 aH ao aS aq cM cJ eE bw cj eO ck) (CW bc pc a8 aH ao aS aq cM cJ eE bw cj eO ck) mW r:=fI (fun _=>TW) h
def Hr (pd a8 aH:Int)(ao aS aq:List Int)(cM:Bool)(cJ:List Int)(eE:Int)(bw:List b6)(ey:List (List bg))(dA:List Int):(Int×(List Bool))→S:=fun (kG,ck)=>e2 [(0,.ref 0 0 0 0),(5,.ref 4 0 0 0),(181,.n .i64 pd),(182,.n .i64 kG)] [[af.mk 5 [(fA a8 aH 1 0 0 ao.length 2 0 0 aS.length 3 0 0 aq.length)] .live],(ay 1 J ao),(ay 1 J aS),(ay 1 J aq),[af.mk 6 [(eJ 5 0 0 bw.length cM cJ 7 0 0 dA.length eE 8 0 0 ck.length)] .live],(ay 1 (bX 6 0 2) bw),(c6 2 aN ey),(ay 1 J dA),(ay 1 dO ck)]
def HI (pd a8 aH:Int)(ao aS aq:List Int)(cM:Bool)(cJ:List Int)(eE:Int)(bw:List b6)(ey:List (List bg))(dA:List Int):(List Bool)→e5
 | a=>⟨some 8,[(0,.ref 0 0 0 0),(5,.ref 4 0 0 0)],[[af.mk 5 [(fA a8 aH 1 0 0 ao.length 2 0 0 aS.length 3 0 0 aq.length)] .live],(ay 1 J ao),(ay 1 J aS),(ay 1 J aq),[af.mk 6 [(eJ 5 0 0 bw.length cM cJ 7 0 0 dA.length eE 8 0 0 a.length)] .live],(ay 1 (bX 6 0 2) bw),(c6 2 aN ey),(ay 1 J dA),(ay 1 dO a)]⟩
def xf (pd a8 aH:Int)(ao aS aq:List Int)(cM:Bool)(cJ:List Int)(eE:Int)(bw:List b6)(ey:List (List bg))(dA:List Int)(kG:Int)(ck:List Bool):Option ((Int×(List Bool))⊕((List Bool))) :=
 if (decide (kG<pd))=true then
  if 0≤kG∧kG<(ck.length:Nat) then
  if (0+kG.toNat)<ck.length then
  some (.inl (U (kG+(1:Int)),ck.set (0+kG.toNat) (decide (kG<aH))))
  else none
  else none
 else
  some (.inr ck)
def Dh (pd a8 aH:Int)(ao aS aq:List Int)(cM:Bool)(cJ:List Int)(eE:Int)(bw:List b6)(ey:List (List bg))(dA:List Int)(kG:Int)(ck:List Bool):Option ((List Bool)):=iter (fun w:Int×(List Bool)=>xf pd a8 aH ao aS aq cM cJ eE bw ey dA w.1 w.2) (kG,ck)
theorem TX {pd a8 aH:Int}{ao aS aq:List Int}{cM:Bool}{cJ:List Int}{eE:Int}{bw:List b6}{ey:List (List bg)}{dA:List Int}{kG:Int}{ck:List Bool}:b4 (xf pd a8 aH ao aS aq cM cJ eE bw ey dA kG ck) (fG bx 205 4 59 [1,1,1,1,1,1,1,1,0,1,0,0] (Hr pd a8 aH ao aS aq cM cJ eE bw ey dA (kG,ck)) (Hr pd a8 aH ao aS aq cM cJ eE bw ey dA) (HI pd a8 aH ao aS aq cM cJ eE bw ey dA)):=by
 unfold xf
 exact .ite (fun o =>
  .bl fun R =>
  .bl fun ad =>
  .ret (let aW:=c8 [0,1,2,3,4,5,6,7,8];b0 [(ab 1),.al true,(ab 2),.aE (ae 12 (ai .dh [])),(ab 2),.bm [0,1,2,3,4,5,6,7,8] [.box [.id,.id,.id,.id,.id],.pure,.pure,.pure,.box [.id,.id,.id,.id,.id,.len ((ck.set (0+kG.toNat) (decide (kG<aH))).length)],.bD (ay 1 (bX 6 0 2) bw),.bD (c6 2 aN ey),.pure,.eg (ay 1 dO (ck.set (0+kG.toNat) (decide (kG<aH))))] (bY [0,5,181,182])] (.bj o R.1 R.2 (hR dO ad) (hG 1) (aG 1 .live aF ao) (aG 1 .live aF aS) (aG 1 .live aF aq) (.eF (gZ (fq ck) (0+kG.toNat) (decide (kG<aH))) (eW aW 6 6 0 2 rfl bw) (e1 aW 2 ef ey) (aG 1 .live aF dA) (e6 1 .live (gE (el dO ck) (0+kG.toNat) (decide (kG<aH)))) (aG 1 .live ec (ck.set (0+kG.toNat) (decide (kG<aH))))))))
  (fun o =>
  .ret (let bk:=c8 [0,1,2,3,4,5,6,7,8];b0 [(ab 1),.al false,.bm [0,1,2,3,4,5,6,7,8] [.box [.id,.id,.id,.id,.id],.pure,.pure,.pure,.box [.id,.id,.id,.id,.id,.id],.bD (ay 1 (bX 6 0 2) bw),.bD (c6 2 aN ey),.pure,.pure] (bY [0,5])] (.gX o (aG 1 .live aF ao) (aG 1 .live aF aS) (aG 1 .live aF aq) (eW bk 6 6 0 2 rfl bw) (e1 bk 2 ef ey) (aG 1 .live aF dA) (aG 1 .live ec ck))))
theorem UD {pd a8 aH:Int}{ao aS aq:List Int}{cM:Bool}{cJ:List Int}{eE:Int}{bw:List b6}{ey:List (List bg)}{dA:List Int}{kG:Int}{ck:List Bool}{r} (h:Dh pd a8 aH ao aS aq cM cJ eE bw ey dA kG ck=some r):fH bx 205 4 59 [1,1,1,1,1,1,1,1,0,1,0,0] (Hr pd a8 aH ao aS aq cM cJ eE bw ey dA) (HI pd a8 aH ao aS aq cM cJ eE bw ey dA) (kG,ck) r:=fI (fun _=>TX) h
def xJ (cg cH:Int)(cW e3 dg:List Int):Option ((Bool×(List Int)×Int×(List b6)×(List Int)×(List Bool)×(List (List bg)))⊕(Unit)) :=
 oq 1 >>= fun an =>
 if 0≤(U (cH+cg))∧(1:Int)*(U (cH+cg))≤281474976710656∧(U (cH+cg))<9223372036854775808 then
 De (U (cH+cg)) cg cH cW e3 dg an.du an.cY (List.replicate (U (cH+cg)).toNat false:List Bool) 0 ([]:List b6) ([]:List (List bg)) ([]:List Int) >>= fun bz =>
 if 0≤(U (cH+cg))∧(8:Int)*(U (cH+cg))≤281474976710656∧(U (cH+cg))<9223372036854775808 then
 Df (U (cH+cg)) (((U (cH+cg)).toNat:Nat):Int) cg cH cW e3 dg an.du an.cY bz.1 bz.2.1 bz.2.2 0 (List.replicate (U (cH+cg)).toNat 0:List Int) (List.replicate (U (cH+cg)).toNat false:List Bool) >>= fun bH =>
 sB an.du an.cY (U (cH+cg)) bz.1 bz.2.1 bz.2.2 bH.2 bH.1 >>= fun bs =>
 Dg (U (cH+cg)) ((bs.2.2.2.2.1.length:Nat):Int) cg cH cW e3 dg bs.2.1 bs.2.2.1 (U (cH+cg)) bs.2.2.2.2.1 bz.1 bs.2.2.2.1 bs.2.2.2.2.2 0 >>= fun fk =>
 match fk with
 | .inl tm=>(Dh ((bs.2.2.2.2.2.length:Nat):Int) cg cH cW e3 dg bs.2.1 bs.2.2.1 (U (cH+cg)) bz.1 bs.2.2.2.1 bs.2.2.2.2.1 0 bs.2.2.2.2.2 >>= fun dm =>
  zC cH bs.2.1 bs.2.2.1 (U (cH+cg)) bz.1 bs.2.2.2.1 bs.2.2.2.2.1 dm >>= fun cl =>
  some (.inl (cl.1,cl.2.1,(U (cH+cg)),cl.2.2.1,cl.2.2.2.2,dm,cl.2.2.2.1)))
 | .inr tm=>(some (.inr ()))
 else none
 else none
set_option maxHeartbeats 4000000 in
theorem Di {cg cH:Int}{cW e3 dg:List Int}:b4 (xJ cg cH cW e3 dg) (Sum.elim (fun a=>Con bx 59 [.ref 0 0 0 0] [[af.mk 5 [(fA cg cH 1 0 0 cW.length 2 0 0 e3.length 3 0 0 dg.length)] .live],(ay 1 J cW),(ay 1 J e3),(ay 1 J dg)] (.dB [.ref 4 0 0 0,.b true]) [[af.mk 5 [(fA cg cH 1 0 0 cW.length 2 0 0 e3.length 3 0 0 dg.length)] .live],(ay 1 J cW),(ay 1 J e3),(ay 1 J dg),(af.mk 6 [(eJ 4 1 0 a.2.2.2.1.length a.1 a.2.1 4 2 0 a.2.2.2.2.1.length a.2.2.1 4 3 0 a.2.2.2.2.2.1.length)] .live::af.mk 1 (a.2.2.2.1.map (bX 4 4 2)) .live::af.mk 1 (a.2.2.2.2.1.map J) .live::af.mk 1 (a.2.2.2.2.2.1.map dO) .live::(c6 2 aN a.2.2.2.2.2.2))]) (fun a=>Con bx 59 [.ref 0 0 0 0] [[af.mk 5 [(fA cg cH 1 0 0 cW.length 2 0 0 e3.length 3 0 0 dg.length)] .live],(ay 1 J cW),(ay 1 J e3),(ay 1 J dg)] (.dB [.ik,.b false]) [[af.mk 5 [(fA cg cH 1 0 0 cW.length 2 0 0 e3.length 3 0 0 dg.length)] .live],(ay 1 J cW),(ay 1 J e3),(ay 1 J dg)])):=by
 unfold xJ
 exact .az fun an R =>
  .bl fun ad =>
  .az fun bz aM =>
  .bl fun bq =>
  .az fun bH bn =>
  .az fun bs de =>
  .az fun fk dc =>
  (let kM:=U (cH+cg);let tr:=eJ 1 0 0 bz.1.length bs.2.1 bs.2.2.1 3 0 0 bs.2.2.2.2.1.length kM 4 0 0 bs.2.2.2.2.2.length;let vZ:=c8 [0,1,2,3,21,28,29,30,19];let BQ:=eJ 6 0 0 bz.1.length bs.2.1 bs.2.2.1 8 0 0 bs.2.2.2.2.1.length kM 9 0 0 bs.2.2.2.2.2.length;let uA:=(List.replicate kM.toNat false:List Bool);let uB:=eJ 1 0 0 bz.1.length an.du an.cY 3 0 0 bz.2.2.length kM 4 0 0 bH.2.length;let y7:=eJ 6 0 0 bz.1.length an.du an.cY 8 0 0 bz.2.2.length kM 9 0 0 bH.2.length;let uC:=c6 2 aN bs.2.2.2.1;let v5:=(List.replicate kM.toNat 0:List Int);let v7:=ay 1 (bX 7 0 2) bz.1;let y8:=oV [4,6,7,8,9,5];let y9:=hN [4,6,7,8,9,5];let BR:=c8 [0,1,2,3,4,10,5,6,7,8];let BS:=c8 [0,1,2,3,4,8,6,7,9];let v8:=aG 1 .live aF cW;let Lm:=aG 1 .live aF e3;let Ln:=aG 1 .live aF dg;let RG:=ay 1 (bX 2 0 2) bz.1;let t1:List cL:=[(ab 2),(ab 10),.aE (bT 1 (bA 1 (.agg (aN an)) false) 5),(ab 5),.Fe 21 0 1,.K8,.Fe 21 3 1,.bm [0,1,2,3,21,28,29,30,19] [.box [.id,.id,.id,.id,.id],.pure,.pure,.pure,.box [.len (([]:List b6).length),.id,.id,.len (([]:List Int).length),.id,.len (uA.length)],.bD (ay 1 (bX 6 0 2) ([]:List b6)),.bD (c6 2 aN ([]:List (List bg))),.eg (ay 1 J ([]:List Int)),.eg (ay 1 dO uA)] (bY [0,4,5,34,35]),(HG kM cg cH cW e3 dg an.du an.cY uA bz).gC,(ab 3),(ab 3),.bm [0,1,2,3,4,10,5,6,7,8] [.box [.id,.id,.id,.id,.id],.pure,.pure,.pure,.box [.id,.id,.id,.id,.id,.id],.eg (ay 1 J v5),.bD v7,.bD (c6 2 aN bz.2.1),.pure,.pure] [(0,ii),(4,ii),(5,ii),(11,ha (v5.length)),(117,ii),(118,ii)],(HH kM ((kM.toNat:Nat):Int) cg cH cW e3 dg an.du an.cY bz.1 bz.2.1 bz.2.2 bH).gC,.aE (ae 2 (ai (.call {aQ:=(ob [4,6,7,8,9,5]),cO:=[.bD [af.mk 6 [uB] .live],.bD RG,.bD (c6 2 aN bz.2.1),.pure,.pure,.pure],ac:=[ii,ii],r:= .b bs.1,d4:=[[af.mk 6 [tr] .live],RG,uC,(ay 1 J bs.2.2.2.2.1),(ay 1 dO bs.2.2.2.2.2),(ay 1 J bH.1)],fu:=ii,gd:=[.bD [af.mk 6 [BQ] .live],.bD v7,.bD uC,.pure,.pure,.pure],dG:=[4,5,6,7,8,9],dD:=false}) [])),(ab 6),.bm [0,1,2,3,4,8,6,7,9] [.box [.id,.id,.id,.id,.id],.pure,.pure,.pure,.box [.id,.id,.id,.id,.id,.id],.pure,.bD v7,.bD uC,.pure] (bY [0,4,5,149,150,151])];
  have a9:=((.bj (r2 an R) ad.1 (Int.le_refl kM) ad.2.1 ad.2.2 v8 Lm Ln (.bj (nm b6) (nm Int) (lY kM.toNat (false:Bool)) (eM (tC (b7:=vZ) 1 .live (bX 6 0 2) (tD (bX 29 0 2)) (AW (rfl:vZ 29=some 6))) (kE (b7:=vZ))) (qO (b7:=vZ) (Zv .live 2 aN) (oB ef)) (e6 1 .live (tD J)) (aG 1 .live aF ([]:List Int)) (e6 1 .live (lL dO kM.toNat false)) (.bj (aG 1 .live ec uA) (UB aM) bq.1 (Int.le_refl kM) bq.2.1 bq.2.2 v8 Lm (.bj Ln (e6 1 .live (lL J kM.toNat 0)) (aG 1 .live aF v5) (eW BR 7 6 0 2 rfl bz.1) (e1 BR 2 ef bz.2.1) (aG 1 .live aF bz.2.2) (aG 1 .live ec uA) (lY kM.toNat (0:Int)) (.bj (UC bn) (iK y8 6 [uB] [y7] rfl) (i4 6 [y7]) (eW y8 2 7 0 2 rfl bz.1) (i4 1 (bz.1.map (bX 7 0 2))) (e1 y8 2 ef bz.2.1) (rk 2 aN bz.2.1) (fa 1 aF bz.2.2) (.bj (fa 1 ec bH.2) (fa 1 aF bH.1) (iK y9 6 [BQ] [tr] rfl) (i4 6 [tr]) (eW y9 7 2 0 2 rfl bz.1) (i4 1 (bz.1.map (bX 2 0 2))) (e1 y9 2 ef bs.2.2.2.1) (rk 2 aN bs.2.2.2.1) (.bj (fa 1 aF bs.2.2.2.2.1) (fa 1 ec bs.2.2.2.2.2) (fa 1 aF bH.1) (GP bs de) v8 Lm Ln (aG 1 .live aF bs.2.2.2.2.1) (.b1 (eW BS 7 7 0 2 rfl bz.1) (e1 BS 2 ef bs.2.2.2.1) (aG 1 .live ec bs.2.2.2.2.2))))))))):c3 _);
  (by
  rcases fk with tm|tm
  ·exact (.az fun dm fZ =>
  .az fun cl gx =>
  .ret (let aW:=fA cg cH 1 0 0 cW.length 2 0 0 e3.length 3 0 0 dg.length;let cc:=c6 2 aN cl.2.2.2.1;let cV:=U (cH+cg);let bk:=eJ 1 0 0 cl.2.2.1.length cl.1 cl.2.1 3 0 0 cl.2.2.2.2.length cV 4 0 0 dm.length;let d5:=eJ 1 0 0 bz.1.length bs.2.1 bs.2.2.1 3 0 0 bs.2.2.2.2.1.length cV 4 0 0 dm.length;let fB:=eJ 5 0 0 bz.1.length bs.2.1 bs.2.2.1 7 0 0 bs.2.2.2.2.1.length cV 8 0 0 dm.length;let hE:=eJ 5 0 0 cl.2.2.1.length cl.1 cl.2.1 7 0 0 cl.2.2.2.2.length cV 8 0 0 dm.length;let fD:=c8 [0,1,2,3,4];let jO:=oV [4,5,6,7,8];let jK:=hN [4,5,6,7,8];let kX:=c8 [0,1,2,3,4,5,6,7,8];let kY:=ay 1 (bX 6 0 2) cl.2.2.1;let mC:=ay 1 (bX 4 4 2) cl.2.2.1;let od:=aG 1 .live aF cW;let mb:=aG 1 .live aF e3;let qx:=aG 1 .live aF dg;let tq:=c6 2 aN bs.2.2.2.1;i1 (t1.append [(CW cV ((bs.2.2.2.2.1.length:Nat):Int) cg cH cW e3 dg bs.2.1 bs.2.2.1 cV bs.2.2.2.2.1 bz.1 bs.2.2.2.1 bs.2.2.2.2.2 (.inl tm)).gC,(ab 6),.bm [0,1,2,3,4,5,6,7,8] [.box [.id,.id,.id,.id,.id],.pure,.pure,.pure,.box [.id,.id,.id,.id,.id,.id],.bD (ay 1 (bX 6 0 2) bz.1),.bD tq,.pure,.pure] (bY [0,5,181,182]),(HI ((bs.2.2.2.2.2.length:Nat):Int) cg cH cW e3 dg bs.2.1 bs.2.2.1 cV bz.1 bs.2.2.2.1 bs.2.2.2.2.1 dm).gC,.aE (ae 5 (ai (.call {aQ:=(ob [4,5,6,7,8]),cO:=[.bD [af.mk 6 [d5] .live],.bD (ay 1 (bX 2 0 2) bz.1),.bD tq,.pure,.pure],ac:=[ii,ii],r:= .dB [],d4:=[[af.mk 6 [bk] .live],(ay 1 (bX 2 0 2) cl.2.2.1),cc,(ay 1 J cl.2.2.2.2),(ay 1 dO dm)],fu:=ii,gd:=[.bD [af.mk 6 [hE] .live],.bD kY,.bD cc,.pure,.pure],dG:=[4,5,6,7,8],dD:=false}) [])),(ab 3),.y1 [{dd:=some (0,0)},{dd:=some (1,0)},{dd:=some (2,0)},{dd:=some (3,0)},{bh:=[(4,0),(5,0),(7,0),(8,0)],dd:=some (6,0)}] [([],some (.bD [af.mk 5 [aW] .live])),([],some (.pure)),([],some (.pure)),([],some (.pure)),([.box [.at_ 4 1 cl.2.2.1.length,.id,.id,.at_ 4 2 cl.2.2.2.2.length,.id,.at_ 4 3 dm.length],.rx mC,.pure,.pure],some (.rx cc))] [(2,.bE (.cx (.at_ 4 0 0))),(3,ii)]]) [0,1,2,3,4] [.bD [af.mk 5 [aW] .live],.pure,.pure,.pure,.bD (af.mk 6 [(eJ 4 1 0 cl.2.2.1.length cl.1 cl.2.1 4 2 0 cl.2.2.2.2.length cV 4 3 0 dm.length)] .live::af.mk 1 (cl.2.2.1.map (bX 4 4 2)) .live::af.mk 1 (cl.2.2.2.2.map J) .live::af.mk 1 (dm.map dO) .live::cc)] (a9.aY (.bj (MO dc) od mb qx (eW kX 6 6 0 2 rfl bz.1) (e1 kX 2 ef bs.2.2.2.1) (aG 1 .live aF bs.2.2.2.2.1) (aG 1 .live ec bs.2.2.2.2.2) (.bj (UD fZ) (iK jO 6 [d5] [fB] rfl) (i4 6 [fB]) (eW jO 2 6 0 2 rfl bz.1) (i4 1 (bz.1.map (bX 6 0 2))) (e1 jO 2 ef bs.2.2.2.1) (rk 2 aN bs.2.2.2.1) (fa 1 aF bs.2.2.2.2.1) (.bj (fa 1 ec dm) (iK jK 6 [hE] [bk] rfl) (i4 6 [bk]) (eW jK 6 2 0 2 rfl cl.2.2.1) (i4 1 (cl.2.2.1.map (bX 2 0 2))) (e1 jK 2 ef cl.2.2.2.1) (rk 2 aN cl.2.2.2.1) (fa 1 aF cl.2.2.2.2) (.bj (fa 1 ec dm) (TR cl gx) (iK (ui 0 [{dd:=some (0,0)},{dd:=some (1,0)},{dd:=some (2,0)},{dd:=some (3,0)},{bh:=[(4,0),(5,0),(7,0),(8,0)],dd:=some (6,0)}]) 5 [aW] [aW] rfl) od mb qx (rfl:(iT [{dd:=some (0,0)},{dd:=some (1,0)},{dd:=some (2,0)},{dd:=some (3,0)},{bh:=[(4,0),(5,0),(7,0),(8,0)],dd:=some (6,0)}]) 4 1=some (5,0)) (rfl:cl.2.2.1.length=cl.2.2.1.length) (.bj (rfl:(iT [{dd:=some (0,0)},{dd:=some (1,0)},{dd:=some (2,0)},{dd:=some (3,0)},{bh:=[(4,0),(5,0),(7,0),(8,0)],dd:=some (6,0)}]) 4 2=some (7,0)) (rfl:cl.2.2.2.2.length=cl.2.2.2.2.length) (rfl:(iT [{dd:=some (0,0)},{dd:=some (1,0)},{dd:=some (2,0)},{dd:=some (3,0)},{bh:=[(4,0),(5,0),(7,0),(8,0)],dd:=some (6,0)}]) 4 3=some (8,0)) (rfl:dm.length=dm.length) (Py (Ka (j9:=(bX 4 4 2)) (el (bX 6 0 2) cl.2.2.1) (fun _=>rfl) (fun x=>(QI (fun _=>rfl)) x)) P7:sn (iT [{dd:=some (0,0)},{dd:=some (1,0)},{dd:=some (2,0)},{dd:=some (3,0)},{bh:=[(4,0),(5,0),(7,0),(8,0)],dd:=some (6,0)}]) kY mC) (aG 1 .live aF cl.2.2.2.2) (aG 1 .live ec dm) (PA (iU .live 2 aN cl.2.2.2.1) (fun _=>rfl) ef:sn (iT [{dd:=some (0,0)},{dd:=some (1,0)},{dd:=some (2,0)},{dd:=some (3,0)},{bh:=[(4,0),(5,0),(7,0),(8,0)],dd:=some (6,0)}]) cc cc) (.eF (rfl:(iT [{dd:=some (0,0)},{dd:=some (1,0)},{dd:=some (2,0)},{dd:=some (3,0)},{bh:=[(4,0),(5,0),(7,0),(8,0)],dd:=some (6,0)}]) 4 0=some (4,0)) (iK fD 5 [aW] [aW] rfl) od mb qx (eM (show af.mk 6 [(eJ 4 1 0 cl.2.2.1.length cl.1 cl.2.1 4 2 0 cl.2.2.2.2.length (U (cH+cg)) 4 3 0 dm.length)] .live=ku (c8 [0,1,2,3,4]) (af.mk 6 [(eJ 4 1 0 cl.2.2.1.length cl.1 cl.2.1 4 2 0 cl.2.2.2.2.length (U (cH+cg)) 4 3 0 dm.length)] .live) from rfl) (eM (Cj fD 4 4 4 2 rfl cl.2.2.1) (eM (fM fD 1 fN cl.2.2.2.2) (eM (fM fD 1 EH dm) (e1 fD 2 ef cl.2.2.2.1)))))))))))) (.comp [.cx .id,.cx .id])))
  ·exact (.ret (let qz:=fA cg cH 1 0 0 cW.length 2 0 0 e3.length 3 0 0 dg.length;i1 (t1.append [(CW (U (cH+cg)) ((bs.2.2.2.2.1.length:Nat):Int) cg cH cW e3 dg bs.2.1 bs.2.2.1 (U (cH+cg)) bs.2.2.2.2.1 bz.1 bs.2.2.2.1 bs.2.2.2.2.2 (.inr tm)).gC]) [0,1,2,3] [.bD [af.mk 5 [qz] .live],.pure,.pure,.pure] (a9.aY (.dr (MO dc) (iK (c8 [0,1,2,3]) 5 [qz] [qz] rfl) (aG 1 .live aF cW) (aG 1 .live aF e3) (aG 1 .live aF dg)))))))
def mn (bc:Int):Option (Option bB) :=
 oq bc >>= fun an =>
 some (some (⟨an,([1]:List Int)⟩:bB))
theorem o2 {bc:Int}:b4 (mn bc) (fun r=>Con bx 25 [.n .i64 bc] [] (dQ 3 bd r) []):=by
 unfold mn
 exact .az fun an R =>
  .ret (bM [(ab 1),.aE (bT 1 (bA 1 (.agg (aN an)) false) 4)] (.dr (r2 an R) (gY (show [[.n .i64 (1:Int)]]=(([1]:List Int)).map J from rfl) (show 1=([1]:List Int).length from rfl)) (kO J 1) (d3 aF ([1]:List Int)) (jA (kA (⟨an,([1]:List Int)⟩:bB)):gr [[.b an.du,.isl 1 (an.cY.map J),.isl 1 (([1]:List Int).map J)]])) (.bE (.s8 [.id,.id,.eU (([1]:List Int).map J)])))
def Hs:((List Int)×(List Int))→S:=fun (a7,aV)=>e2 [(0,.isl 1 (a7.map J)),(1,.isl 1 (aV.map J))] []
def HJ:(List Int)→e5
 | a=>⟨some 0,[(0,.isl 1 (a.map J))],[]⟩
def xg (a7 aV:List Int):Option (((List Int)×(List Int))⊕((List Int))) :=
 if (decide ((0:Int)<(len_ J aV)))=true then
  sO a7 aV >>= fun cb =>
  some (.inl (aV,cb.2))
 else
  some (.inr a7)
def Iu (a7 aV:List Int):Option ((List Int)):=iter (fun w:(List Int)×(List Int)=>xg w.1 w.2) (a7,aV)
theorem TY {a7 aV:List Int}:b4 (xg a7 aV) (fG bx 19 0 89 [1,0,0,0] (Hs (a7,aV)) (Hs) (HJ)):=by
 unfold xg
 exact .ite (fun o =>
  .az fun cb ad =>
  .ret (b0 [(ab 3),.al true,.aE (bT 2 (bA 2 (.dB [.isl 1 (cb.1.map J),.isl 1 (cb.2.map J)]) false) 5),(ab 4),.bm [] [] (bY [0,1])] (.aC o (DA cb ad))))
  (fun o =>
  .ret (b0 [(ab 3),.al false,.bm [] [] (bY [0])] (.aw o)))
theorem UE {a7 aV:List Int}{r} (h:Iu a7 aV=some r):fH bx 19 0 89 [1,0,0,0] (Hs) (HJ) (a7,aV) r:=fI (fun _=>TY) h
def xK (a7 aV:List Int):Option (List Int) :=
 Iu a7 aV >>= fun an =>
 some an
theorem M5 {a7 aV:List Int}:b4 (xK a7 aV) (fun r=>Con bx 89 [.isl 1 (a7.map J),.isl 1 (aV.map J)] [] (.isl 1 (r.map J)) []):=by
 unfold xK
 exact .az fun an R =>
  .ret (bM [(ab 1),.bm [] [] (bY [0,1]),(HJ an).gC,(ab 2)] (.aw (UE R)))
def qa (rE:bg)(uc:List Int):Option (Option bB) :=
 if ((len_ J rE.cY) == (0:Int))=true then
  some (some (⟨(⟨false,([]:List Int)⟩:bg),([1]:List Int)⟩:bB))
 else
  xK rE.cY uc >>= fun cb =>
  p9 cb ([1]:List Int) >>= fun bz =>
  if (bz == (0:Int))=true then
   some (some (⟨rE,uc⟩:bB))
  else
   sO rE.cY cb >>= fun bH =>
   sO uc cb >>= fun bs =>
   lI rE.du bH.1 >>= fun fk =>
   some (some (⟨fk,bs.1⟩:bB))
theorem Dn {rE:bg}{uc:List Int}:b4 (qa rE uc) (fun r=>Con bx 65 [.agg (aN rE),.isl 1 (uc.map J)] [] (dQ 3 bd r) []):=by
 unfold qa
 exact .ite (fun o =>
  .ret (bM [(ab 2),(ab 4),.al true,(ab 4)] (.dr o (gY (show [[.n .i64 (1:Int)]]=(([1]:List Int)).map J from rfl) (show 1=([1]:List Int).length from rfl)) (kO J 1) (d3 aF ([1]:List Int)) (jA (kA (⟨(⟨false,([]:List Int)⟩:bg),([1]:List Int)⟩:bB)):gr [[.b false,.isl 1 (([]:List Int).map J),.isl 1 (([1]:List Int).map J)]])) (.bE (.s8 [.id,.lU 1,.eU (([1]:List Int).map J)]))))
  (fun o =>
  .az fun cb ad =>
  .az fun bz aM =>
  (let t1:List cL:=[(ab 2),(ab 4),.al false,.aE (bT 3 (bA 2 (.isl 1 (cb.map J)) false) 1),.aE (bT 2 (.call {ac:=[ii,.bE (.cx (.eU (([1]:List Int).map J)))],r:= .n .i64 bz,dD:=true,dG:=[12]}) 1)];
  have a9:=((.ff o (M5 cb ad) (gY (show [[.n .i64 (1:Int)]]=(([1]:List Int)).map J from rfl) (show 1=([1]:List Int).length from rfl)) (kO J 1) (d3 aF ([1]:List Int)) (xy bz aM) (cf.n .i64 bz)):c3 _);
  .ite (fun bq =>
  .ret (bM (t1.append [.al true,(ab 5)]) (a9.aY (.aC bq (jA (kA (⟨rE,uc⟩:bB)):gr [[.b rE.du,.isl 1 (rE.cY.map J),.isl 1 (uc.map J)]]))) (.bE (.s8 [.id,.id,.id]))))
  (fun bq =>
  .az fun bH bn =>
  .az fun bs de =>
  .az fun fk dc =>
  .ret (bM (t1.append [.al false,.aE (bT 3 (bA 2 (.dB [.isl 1 (bH.1.map J),.isl 1 (bH.2.map J)]) false) 5),.aE (bT 2 (bA 2 (.dB [.isl 1 (bs.1.map J),.isl 1 (bs.2.map J)]) false) 5),.aE (bT 3 (bA 2 (.agg (aN fk)) false) 4)]) (a9.aY (.dr bq (DA bH bn) (DA bs de) (r6 fk dc) (jA (kA (⟨fk,bs.1⟩:bB)):gr [[.b fk.du,.isl 1 (fk.cY.map J),.isl 1 (bs.1.map J)]]))) (.bE (.s8 [.id,.id,.id]))))))
def xw (b8 dL:Option bB):Option (Option bB) :=
 b8 >>= fun fh =>
 dL >>= fun mS =>
 o0 fh.qo mS.qo >>= fun bp =>
 pM fh.oJ mS.oJ >>= fun bH =>
 qa bp bH >>= fun bs =>
 some bs
theorem MK {b8 dL:Option bB}:b4 (xw b8 dL) (fun r=>Con bx 55 [dQ 3 bd b8,dQ 3 bd dL] [] (dQ 3 bd r) []):=by
 unfold xw
 exact .az fun fh R =>
  .az fun mS aD =>
  .az fun bp bq =>
  .az fun bH bn =>
  .az fun bs de =>
  .ret (bM [(ab 1),.aE (ae 1 (ai (.fe 5 (.eP 3 (some (bd fh))) .dh) (ae 3 (ai (.fe 9 (.eP 3 (some (bd mS))) .dh) (ae 2 (ai (bA 2 (.agg (aN bp)) false) (ae 1 (ai (.fe 14 (.eP 3 (some (bd fh))) .dh) (ae 3 (ai (.fe 18 (.eP 3 (some (bd mS))) .dh) (ae 2 (ai (bA 2 (.isl 1 (bH.map J)) false) (ai (bA 2 (dQ 3 bd bs) false) (ae 1 []))))))))))))))] (.ff (jd (sz:=3) (f:=bd) R) (jd (sz:=3) (f:=bd) aD) (uU bp bq) (jd (sz:=3) (f:=bd) R) (jd (sz:=3) (f:=bd) aD) (zR bH bn) (Dn bs de)))
def qI (b8:Option bB)(jI:List Int):Option bg :=
 b8 >>= fun fh =>
 pM fh.qo.cY jI >>= fun aZ =>
 lI fh.qo.du aZ >>= fun bp =>
 some bp
theorem CT {b8:Option bB}{jI:List Int}:b4 (qI b8 jI) (fun r=>Con bx 81 [dQ 3 bd b8,.isl 1 (jI.map J)] [] (.agg (aN r)) []):=by
 unfold qI
 exact .az fun fh R =>
  .az fun aZ aD =>
  .az fun bp bq =>
  .ret (bM [(ab 1),.aE (ae 1 (ai (.fe 5 (.eP 3 (some (bd fh))) .dh) (ae 4 (ai (.fe 10 (.eP 3 (some (bd fh))) .dh) (ae 4 (ai (bA 2 (.isl 1 (aZ.map J)) false) (ai (bA 2 (.agg (aN bp)) false) (ae 1 []))))))))] (.dn (jd (sz:=3) (f:=bd) R) (jd (sz:=3) (f:=bd) R) (zR aZ aD) (r6 bp bq)))
def xz (b8 dL:Option bB):Option (Option bB) :=
 dL >>= fun fh =>
 qI b8 fh.oJ >>= fun aZ =>
 b8 >>= fun lH =>
 qI dL lH.oJ >>= fun bH =>
 tJ aZ bH >>= fun bs =>
 pM lH.oJ fh.oJ >>= fun fk =>
 qa bs fk >>= fun fF =>
 some fF
theorem MP {b8 dL:Option bB}:b4 (xz b8 dL) (fun r=>Con bx 66 [dQ 3 bd b8,dQ 3 bd dL] [] (dQ 3 bd r) []):=by
 unfold xz
 exact .az fun fh R =>
  .az fun aZ aD =>
  .az fun lH bq =>
  .az fun bH bn =>
  .az fun bs de =>
  .az fun fk dc =>
  .az fun fF e9 =>
  .ret (bM [(ab 1),.aE (ae 2 (ai (.fe 6 (.eP 3 (some (bd fh))) .dh) (ae 2 (ai (bA 2 (.agg (aN aZ)) false) (ae 2 (ai (.fe 12 (.eP 3 (some (bd lH))) .dh) (ae 2 (ai (bA 2 (.agg (aN bH)) false) (ai (bA 2 (.agg (aN bs)) false) (ae 1 (ai (.fe 18 (.eP 3 (some (bd lH))) .dh) (ae 3 (ai (.fe 22 (.eP 3 (some (bd fh))) .dh) (ae 2 (ai (bA 2 (.isl 1 (fk.map J)) false) (ai (bA 2 (dQ 3 bd fF) false) (ae 1 [])))))))))))))))))] (.bj (jd (sz:=3) (f:=bd) R) (CT aZ aD) (jd (sz:=3) (f:=bd) bq) (CT bH bn) (MJ bs de) (jd (sz:=3) (f:=bd) bq) (jd (sz:=3) (f:=bd) R) (zR fk dc) (.aw (Dn fF e9))))
end Go.Proofs.YtgfpnhmcmgnepacGreat
namespace Go.Proofs.YtgfpnhmcmgnepacGreat
set_option linter.unusedVariables false
set_option linter.unusedSimpArgs false
open Go Go.VL
def Ht (nW a8:Int)(ao aS aq:List Int)(eE:Int)(cj:List b6):(Int×Bool×(List Int)×(List Int)×(List (List bg))×(List Int)×(List Bool))→S:=fun (lo,cM,cJ,bw,eO,ck,eR)=>e2 [(0,.ref 0 0 0 0),(5,.ref 4 0 0 0),(7,.bF 5 0 0 bw.length),(41,.n .i64 nW),(42,.n .i64 lo)] [[af.mk 5 [(fA a8 nW 1 0 0 ao.length 2 0 0 aS.length 3 0 0 aq.length)] .live],(ay 1 J ao),(ay 1 J aS),(ay 1 J aq),[af.mk 6 [(eJ 6 0 0 cj.length cM cJ 8 0 0 ck.length eE 9 0 0 eR.length)] .live],(ay 1 J bw),(ay 1 (bX 7 0 2) cj),(c6 2 aN eO),(ay 1 J ck),(ay 1 dO eR)]
def HK (nW a8:Int)(ao aS aq:List Int)(eE:Int)(cj:List b6):(Bool×(List Int)×(List (List bg))×(List Int)×(List Bool))→e5
 | a=>⟨some 0,[(0,.ref 0 0 0 0),(5,.ref 4 0 0 0)],[[af.mk 5 [(fA a8 nW 1 0 0 ao.length 2 0 0 aS.length 3 0 0 aq.length)] .live],(ay 1 J ao),(ay 1 J aS),(ay 1 J aq),[af.mk 6 [(eJ 5 0 0 cj.length a.1 a.2.1 7 0 0 a.2.2.2.1.length eE 8 0 0 a.2.2.2.2.length)] .live],(ay 1 (bX 6 0 2) cj),(c6 2 aN a.2.2.1),(ay 1 J a.2.2.2.1),(ay 1 dO a.2.2.2.2)]⟩
def uV (nW a8:Int)(ao aS aq:List Int)(eE:Int)(cj:List b6)(lo:Int)(cM:Bool)(cJ bw:List Int)(eO:List (List bg))(ck:List Int)(eR:List Bool):Option ((Int×Bool×(List Int)×(List Int)×(List (List bg))×(List Int)×(List Bool))⊕(Bool×(List Int)×(List (List bg))×(List Int)×(List Bool))) :=
 if (decide (lo<nW))=true then
  if 0≤lo∧lo<(bw.length:Nat) then
  if (0+lo.toNat)<(List.replicate bw.length 0:List Int).length then
  sB cM cJ eE cj eO ck eR ((List.replicate bw.length 0:List Int).set (0+lo.toNat) (-1)) >>= fun bz =>
  some (.inl (U (lo+(1:Int)),bz.2.1,bz.2.2.1,((List.replicate bw.length 0:List Int).set (0+lo.toNat) (-1)),bz.2.2.2.1,bz.2.2.2.2.1,bz.2.2.2.2.2))
  else none
  else none
 else
  some (.inr (cM,cJ,eO,ck,eR))
def Dj (nW a8:Int)(ao aS aq:List Int)(eE:Int)(cj:List b6)(lo:Int)(cM:Bool)(cJ bw:List Int)(eO:List (List bg))(ck:List Int)(eR:List Bool):Option (Bool×(List Int)×(List (List bg))×(List Int)×(List Bool)):=iter (fun w:Int×Bool×(List Int)×(List Int)×(List (List bg))×(List Int)×(List Bool)=>uV nW a8 ao aS aq eE cj w.1 w.2.1 w.2.2.1 w.2.2.2.1 w.2.2.2.2.1 w.2.2.2.2.2.1 w.2.2.2.2.2.2) (lo,cM,cJ,bw,eO,ck,eR)
theorem TZ {nW a8:Int}{ao aS aq:List Int}{eE:Int}{cj:List b6}{lo:Int}{cM:Bool}{cJ bw:List Int}{eO:List (List bg)}{ck:List Int}{eR:List Bool}:b4 (uV nW a8 ao aS aq eE cj lo cM cJ bw eO ck eR) (fG bx 124 4 37 [1,1,1,1,1,1,0,1,0,0] (Ht nW a8 ao aS aq eE cj (lo,cM,cJ,bw,eO,ck,eR)) (Ht nW a8 ao aS aq eE cj) (HK nW a8 ao aS aq eE cj)):=by
 unfold uV
 exact .ite (fun o =>
  .bl fun R =>
  .bl fun ad =>
  .az fun bz aM =>
  .ret (let aW:=eJ 1 0 0 cj.length bz.2.1 bz.2.2.1 3 0 0 bz.2.2.2.2.1.length eE 4 0 0 bz.2.2.2.2.2.length;let bk:=(List.replicate bw.length 0:List Int);let cc:=eJ 6 0 0 cj.length bz.2.1 bz.2.2.1 8 0 0 bz.2.2.2.2.1.length eE 9 0 0 bz.2.2.2.2.2.length;let cV:=eJ 1 0 0 cj.length cM cJ 3 0 0 ck.length eE 4 0 0 eR.length;let d5:=eJ 6 0 0 cj.length cM cJ 8 0 0 ck.length eE 9 0 0 eR.length;let fB:=c6 2 aN bz.2.2.2.1;let hE:=oV [4,6,7,8,9,5];let fD:=hN [4,6,7,8,9,5];let jO:=(gZ (lY bw.length (0:Int)) (0+lo.toNat) (-1));let jK:=c8 [0,1,2,3,4,5,6,7,8,9];let kX:=ay 1 J (bk.set (0+lo.toNat) (-1));let kY:=fa 1 aF (bk.set (0+lo.toNat) (-1));b0 [(ab 1),.al true,(ab 2),(ab 2),.aE (ae 3 (ai .dh [])),.aE (ae 2 (ai (.call {aQ:=(ob [4,6,7,8,9,5]),cO:=[.bD [af.mk 6 [cV] .live],.bD (ay 1 (bX 2 0 2) cj),.bD (c6 2 aN eO),.pure,.pure,.eg kX],ac:=[ii,.bE (.cx (.len ((bk.set (0+lo.toNat) (-1)).length)))],r:= .b bz.1,d4:=[[af.mk 6 [aW] .live],(ay 1 (bX 2 0 2) cj),fB,(ay 1 J bz.2.2.2.2.1),(ay 1 dO bz.2.2.2.2.2),kX],fu:=ii,gd:=[.bD [af.mk 6 [cc] .live],.bD (ay 1 (bX 7 0 2) cj),.bD fB,.pure,.pure,.pure],dG:=[4,5,6,7,8,9],dD:=false}) [])),(ab 2),.bm [0,1,2,3,4,5,6,7,8,9] [.box [.id,.id,.id,.id,.id],.pure,.pure,.pure,.box [.id,.id,.id,.id,.id,.id],.pure,.bD (ay 1 (bX 7 0 2) cj),.bD fB,.pure,.pure] [(0,ii),(5,ii),(7,ha ((bk.set (0+lo.toNat) (-1)).length)),(41,ii),(42,ii)]] (.bj o (Zy (el J bw) (fq bw)) R.1 R.2 (P4 (lL J bw.length 0) ad) (hG 1) jO (iK hE 6 [cV] [d5] rfl) (.bj (i4 6 [d5]) (eW hE 2 7 0 2 rfl cj) (i4 1 (cj.map (bX 7 0 2))) (e1 hE 2 ef eO) (rk 2 aN eO) (fa 1 aF ck) (fa 1 ec eR) (e6 1 .live (gE (lL J bw.length 0) (0+lo.toNat) (-1))) (.bj kY (iK fD 6 [cc] [aW] rfl) (i4 6 [aW]) (eW fD 7 2 0 2 rfl cj) (i4 1 (cj.map (bX 2 0 2))) (e1 fD 2 ef bz.2.2.2.1) (rk 2 aN bz.2.2.2.1) (fa 1 aF bz.2.2.2.2.1) (.bj (fa 1 ec bz.2.2.2.2.2) kY (GP bz aM) (aG 1 .live aF ao) (aG 1 .live aF aS) (aG 1 .live aF aq) (aG 1 .live aF (bk.set (0+lo.toNat) (-1))) (eW jK 7 7 0 2 rfl cj) (.dn (e1 jK 2 ef bz.2.2.2.1) (aG 1 .live aF bz.2.2.2.2.1) (aG 1 .live ec bz.2.2.2.2.2) jO)))))))
  (fun o =>
  .ret (let mC:=c8 [0,1,2,3,4,6,7,8,9];b0 [(ab 1),.al false,.bm [0,1,2,3,4,6,7,8,9] [.box [.id,.id,.id,.id,.id],.pure,.pure,.pure,.box [.id,.id,.id,.id,.id,.id],.bD (ay 1 (bX 6 0 2) cj),.bD (c6 2 aN eO),.pure,.pure] (bY [0,5])] (.gX o (aG 1 .live aF ao) (aG 1 .live aF aS) (aG 1 .live aF aq) (eW mC 6 7 0 2 rfl cj) (e1 mC 2 ef eO) (aG 1 .live aF ck) (aG 1 .live ec eR))))
theorem UF {nW a8:Int}{ao aS aq:List Int}{eE:Int}{cj:List b6}{lo:Int}{cM:Bool}{cJ bw:List Int}{eO:List (List bg)}{ck:List Int}{eR:List Bool}{r} (h:Dj nW a8 ao aS aq eE cj lo cM cJ bw eO ck eR=some r):fH bx 124 4 37 [1,1,1,1,1,1,0,1,0,0] (Ht nW a8 ao aS aq eE cj) (HK nW a8 ao aS aq eE cj) (lo,cM,cJ,bw,eO,ck,eR) r:=fI (fun _=>TZ) h
def Hu (pk a8 aH:Int)(ao aS aq:List Int)(cM:Bool)(cJ:List Int)(eE:Int)(cj:List b6)(eO:List (List bg))(ck:List Int)(eR:List Bool):(Int×(List (Option bB)))→S:=fun (mx,bw)=>e2 [(0,.ref 0 0 0 0),(5,.ref 4 0 0 0),(9,.bF 5 0 0 bw.length),(59,.n .i64 pk),(60,.n .i64 mx)] [[af.mk 5 [(fA a8 aH 1 0 0 ao.length 2 0 0 aS.length 3 0 0 aq.length)] .live],(ay 1 J ao),(ay 1 J aS),(ay 1 J aq),[af.mk 6 [(eJ 6 0 0 cj.length cM cJ 8 0 0 ck.length eE 9 0 0 eR.length)] .live],(ay 1 (cN 3 bd) bw),(ay 1 (bX 7 0 2) cj),(c6 2 aN eO),(ay 1 J ck),(ay 1 dO eR)]
def HL (pk a8 aH:Int)(ao aS aq:List Int)(cM:Bool)(cJ:List Int)(eE:Int)(cj:List b6)(eO:List (List bg))(ck:List Int)(eR:List Bool):(List (Option bB))→e5
 | a=>⟨some 2,[(0,.ref 0 0 0 0),(5,.ref 4 0 0 0),(9,.bF 5 0 0 a.length)],[[af.mk 5 [(fA a8 aH 1 0 0 ao.length 2 0 0 aS.length 3 0 0 aq.length)] .live],(ay 1 J ao),(ay 1 J aS),(ay 1 J aq),[af.mk 6 [(eJ 6 0 0 cj.length cM cJ 8 0 0 ck.length eE 9 0 0 eR.length)] .live],(ay 1 (cN 3 bd) a),(ay 1 (bX 7 0 2) cj),(c6 2 aN eO),(ay 1 J ck),(ay 1 dO eR)]⟩
def xh (pk a8 aH:Int)(ao aS aq:List Int)(cM:Bool)(cJ:List Int)(eE:Int)(cj:List b6)(eO:List (List bg))(ck:List Int)(eR:List Bool)(mx:Int)(bw:List (Option bB)):Option ((Int×(List (Option bB)))⊕((List (Option bB)))) :=
 if (decide (mx<pk))=true then
  mn 0 >>= fun cb =>
  if 0≤mx∧mx<(bw.length:Nat) then
  if (0+mx.toNat)<bw.length then
  some (.inl (U (mx+(1:Int)),bw.set (0+mx.toNat) cb))
  else none
  else none
 else
  some (.inr bw)
def Dk (pk a8 aH:Int)(ao aS aq:List Int)(cM:Bool)(cJ:List Int)(eE:Int)(cj:List b6)(eO:List (List bg))(ck:List Int)(eR:List Bool)(mx:Int)(bw:List (Option bB)):Option ((List (Option bB))):=iter (fun w:Int×(List (Option bB))=>xh pk a8 aH ao aS aq cM cJ eE cj eO ck eR w.1 w.2) (mx,bw)
theorem T0 {pk a8 aH:Int}{ao aS aq:List Int}{cM:Bool}{cJ:List Int}{eE:Int}{cj:List b6}{eO:List (List bg)}{ck:List Int}{eR:List Bool}{mx:Int}{bw:List (Option bB)}:b4 (xh pk a8 aH ao aS aq cM cJ eE cj eO ck eR mx bw) (fG bx 124 4 37 [1,1,1,1,1,1,1,1,0,1,0,0] (Hu pk a8 aH ao aS aq cM cJ eE cj eO ck eR (mx,bw)) (Hu pk a8 aH ao aS aq cM cJ eE cj eO ck eR) (HL pk a8 aH ao aS aq cM cJ eE cj eO ck eR)):=by
 unfold xh
 exact .ite (fun o =>
  .az fun cb ad =>
  .bl fun aD =>
  .bl fun aM =>
  .ret (let aW:=c8 [0,1,2,3,4,5,6,7,8,9];b0 [(ab 1),.al true,(ab 2),.aE (ae 2 (ai (bA 1 (dQ 3 bd cb) false) (ae 1 (ai .dh [])))),(ab 2),.bm [0,1,2,3,4,5,6,7,8,9] [.box [.id,.id,.id,.id,.id],.pure,.pure,.pure,.box [.id,.id,.id,.id,.id,.id],.eg (ay 1 (cN 3 bd) (bw.set (0+mx.toNat) cb)),.bD (ay 1 (bX 7 0 2) cj),.bD (c6 2 aN eO),.pure,.pure] [(0,ii),(5,ii),(9,ha ((bw.set (0+mx.toNat) cb).length)),(59,ii),(60,ii)]] (.bj o (o2 cb ad) aD.1 aD.2 (hR (cN 3 bd) aM) (hG 1) (aG 1 .live aF ao) (aG 1 .live aF aS) (.gX (aG 1 .live aF aq) (e6 1 .live (gE (el (cN 3 bd) bw) (0+mx.toNat) cb)) (aG 1 .live (ms (sz:=3) kA) (bw.set (0+mx.toNat) cb)) (eW aW 7 7 0 2 rfl cj) (e1 aW 2 ef eO) (aG 1 .live aF ck) (aG 1 .live ec eR) (gZ (fq bw) (0+mx.toNat) cb)))))
  (fun o =>
  .ret (let bk:=c8 [0,1,2,3,4,5,6,7,8,9];b0 [(ab 1),.al false,.bm [0,1,2,3,4,5,6,7,8,9] [.box [.id,.id,.id,.id,.id],.pure,.pure,.pure,.box [.id,.id,.id,.id,.id,.id],.pure,.bD (ay 1 (bX 7 0 2) cj),.bD (c6 2 aN eO),.pure,.pure] (bY [0,5,9])] (.bj o (aG 1 .live aF ao) (aG 1 .live aF aS) (aG 1 .live aF aq) (aG 1 .live (ms (sz:=3) kA) bw) (eW bk 7 7 0 2 rfl cj) (e1 bk 2 ef eO) (aG 1 .live aF ck) (.aw (aG 1 .live ec eR)))))
theorem UG {pk a8 aH:Int}{ao aS aq:List Int}{cM:Bool}{cJ:List Int}{eE:Int}{cj:List b6}{eO:List (List bg)}{ck:List Int}{eR:List Bool}{mx:Int}{bw:List (Option bB)}{r} (h:Dk pk a8 aH ao aS aq cM cJ eE cj eO ck eR mx bw=some r):fH bx 124 4 37 [1,1,1,1,1,1,1,1,0,1,0,0] (Hu pk a8 aH ao aS aq cM cJ eE cj eO ck eR) (HL pk a8 aH ao aS aq cM cJ eE cj eO ck eR) (mx,bw) r:=fI (fun _=>T0) h
def Hv (pn a8 aH:Int)(ao aS aq:List Int)(cM:Bool)(cJ:List Int)(eE:Int)(cj:List Int)(dA:List b6)(nw:List (List bg))(eR:List Bool):(Int×(List (Option bB)))→S:=fun (nx,bw)=>e2 [(0,.ref 0 0 0 0),(5,.ref 4 0 0 0),(9,.bF 5 0 0 bw.length),(71,.bF 6 0 0 cj.length),(72,.n .i64 pn),(73,.n .i64 nx)] [[af.mk 5 [(fA a8 aH 1 0 0 ao.length 2 0 0 aS.length 3 0 0 aq.length)] .live],(ay 1 J ao),(ay 1 J aS),(ay 1 J aq),[af.mk 6 [(eJ 7 0 0 dA.length cM cJ 6 0 0 cj.length eE 9 0 0 eR.length)] .live],(ay 1 (cN 3 bd) bw),(ay 1 J cj),(ay 1 (bX 8 0 2) dA),(c6 2 aN nw),(ay 1 dO eR)]
def HM (pn a8 aH:Int)(ao aS aq:List Int)(cM:Bool)(cJ:List Int)(eE:Int)(cj:List Int)(dA:List b6)(nw:List (List bg))(eR:List Bool):(List (Option bB))→e5
 | a=>⟨some 4,[(0,.ref 0 0 0 0),(9,.bF 4 0 0 a.length)],[[af.mk 5 [(fA a8 aH 1 0 0 ao.length 2 0 0 aS.length 3 0 0 aq.length)] .live],(ay 1 J ao),(ay 1 J aS),(ay 1 J aq),(ay 1 (cN 3 bd) a)]⟩
def xi (pn a8 aH:Int)(ao aS aq:List Int)(cM:Bool)(cJ:List Int)(eE:Int)(cj:List Int)(dA:List b6)(nw:List (List bg))(eR:List Bool)(nx:Int)(bw:List (Option bB)):Option ((Int×(List (Option bB)))⊕((List (Option bB)))) :=
 if (decide (nx<pn))=true then
  if 0≤nx∧nx<(cj.length:Nat) then
  cj[(0+nx.toNat)]? >>= fun aO =>
  if 0≤nx∧nx<(dA.length:Nat) then
  dA[(0+nx.toNat)]? >>= fun bO =>
  bO >>= fun Cq =>
  nw[Cq.1]? >>= fun Fl =>
  if 0≤eE∧eE<(Cq.2:Nat) then
  Fl[(0+eE.toNat)]? >>= fun py =>
  qa py cJ >>= fun dY =>
  if 0≤aO∧aO<(bw.length:Nat) then
  if (0+aO.toNat)<bw.length then
  some (.inl (U (nx+(1:Int)),bw.set (0+aO.toNat) dY))
  else none
  else none
  else none
  else none
  else none
 else
  some (.inr bw)
def Dl (pn a8 aH:Int)(ao aS aq:List Int)(cM:Bool)(cJ:List Int)(eE:Int)(cj:List Int)(dA:List b6)(nw:List (List bg))(eR:List Bool)(nx:Int)(bw:List (Option bB)):Option ((List (Option bB))):=iter (fun w:Int×(List (Option bB))=>xi pn a8 aH ao aS aq cM cJ eE cj dA nw eR w.1 w.2) (nx,bw)
theorem T1 {pn a8 aH:Int}{ao aS aq:List Int}{cM:Bool}{cJ:List Int}{eE:Int}{cj:List Int}{dA:List b6}{nw:List (List bg)}{eR:List Bool}{nx:Int}{bw:List (Option bB)}:b4 (xi pn a8 aH ao aS aq cM cJ eE cj dA nw eR nx bw) (fG bx 124 4 37 [1,1,1,1,1,1,1,1,1,0,1,0,0] (Hv pn a8 aH ao aS aq cM cJ eE cj dA nw eR (nx,bw)) (Hv pn a8 aH ao aS aq cM cJ eE cj dA nw eR) (HM pn a8 aH ao aS aq cM cJ eE cj dA nw eR)):=by
 unfold xi
 exact .ite (fun o =>
  .bl fun R =>
  .az fun aO aD =>
  .bl fun aM =>
  .az fun bO bQ =>
  .az fun Cq cA =>
  .az fun Fl cK =>
  .bl fun dc =>
  .az fun py e9 =>
  .az fun dY gM =>
  .bl fun gx =>
  .bl fun ia =>
  .ret (let aW:=c8 [0,1,2,3,4,5,6,7,8,9];let bk:=l2 (iU .live 2 aN nw) lG cK;b0 [(ab 1),.al true,.aE (bT 2 (.cq (J aO)) 2),.aE (ae 8 (ai (.cq ((bX 8 0 2) bO)) (ae 4 (ai (.fe 86 (.bF 8 (Cq.1+0) 0 Cq.2) (.hz (af.mk 2 (Fl.map aN) .live) [])) (ai (.hz (af.mk 2 (Fl.map aN) .live) (aN py)) (ae 5 (ai (bA 2 (dQ 3 bd dY) false) (ae 1 (ai .dh []))))))))),(ab 2),.bm [0,1,2,3,4,5,6,7,8,9] [.box [.id,.id,.id,.id,.id],.pure,.pure,.pure,.box [.id,.id,.id,.id,.id,.id],.eg (ay 1 (cN 3 bd) (bw.set (0+aO.toNat) dY)),.pure,.bD (ay 1 (bX 8 0 2) dA),.bD (c6 2 aN nw),.pure] [(0,ii),(5,ii),(9,ha ((bw.set (0+aO.toNat) dY).length)),(71,ii),(72,ii),(73,ii)]] (.bj o R.1 R.2 (cz J aD) aM.1 aM.2 (cz (bX 8 0 2) bQ) (o5 (ek:=8) (c:=0) (sz:=2) cA) (.bj bk dc.1 dc.2 bk (cz aN e9) (Dn dY gM) gx.1 gx.2 (.bj (hR (cN 3 bd) ia) (hG 1) (aG 1 .live aF ao) (aG 1 .live aF aS) (aG 1 .live aF aq) (e6 1 .live (gE (el (cN 3 bd) bw) (0+aO.toNat) dY)) (aG 1 .live (ms (sz:=3) kA) (bw.set (0+aO.toNat) dY)) (aG 1 .live aF cj) (.dn (eW aW 8 8 0 2 rfl dA) (e1 aW 2 ef nw) (aG 1 .live ec eR) (gZ (fq bw) (0+aO.toNat) dY)))))))
  (fun o =>
  .ret (b0 [(ab 1),.al false,.bm [0,1,2,3,5] [.box [.id,.id,.id,.id,.id],.pure,.pure,.pure,.pure] (bY [0,9])] (.dr o (aG 1 .live aF ao) (aG 1 .live aF aS) (aG 1 .live aF aq) (aG 1 .live (ms (sz:=3) kA) bw))))
theorem UH {pn a8 aH:Int}{ao aS aq:List Int}{cM:Bool}{cJ:List Int}{eE:Int}{cj:List Int}{dA:List b6}{nw:List (List bg)}{eR:List Bool}{nx:Int}{bw:List (Option bB)}{r} (h:Dl pn a8 aH ao aS aq cM cJ eE cj dA nw eR nx bw=some r):fH bx 124 4 37 [1,1,1,1,1,1,1,1,1,0,1,0,0] (Hv pn a8 aH ao aS aq cM cJ eE cj dA nw eR) (HM pn a8 aH ao aS aq cM cJ eE cj dA nw eR) (nx,bw) r:=fI (fun _=>T1) h
def Hw (pe a8 aH:Int)(ao aS aq:List Int)(bb:List (Option bB)):((Option bB)×Int)→S:=fun (jm,nu)=>e2 [(0,.ref 0 0 0 0),(9,.bF 4 0 0 bb.length),(13,dQ 3 bd jm),(102,.bF 4 0 0 bb.length),(103,.n .i64 pe),(104,.n .i64 nu)] [[af.mk 5 [(fA a8 aH 1 0 0 ao.length 2 0 0 aS.length 3 0 0 aq.length)] .live],(ay 1 J ao),(ay 1 J aS),(ay 1 J aq),(ay 1 (cN 3 bd) bb)]
def HN (pe a8 aH:Int)(ao aS aq:List Int)(bb:List (Option bB)):(Option bB)→e5
 | a=>⟨some 6,[(9,.bF 4 0 0 bb.length),(13,dQ 3 bd a)],[[af.mk 5 [(fA a8 aH 1 0 0 ao.length 2 0 0 aS.length 3 0 0 aq.length)] .live],(ay 1 J ao),(ay 1 J aS),(ay 1 J aq),(ay 1 (cN 3 bd) bb)]⟩
def xj (pe a8 aH:Int)(ao aS aq:List Int)(bb:List (Option bB))(jm:Option bB)(nu:Int):Option (((Option bB)×Int)⊕((Option bB))) :=
 if (decide (nu<pe))=true then
  if 0≤nu∧nu<(bb.length:Nat) then
  bb[(0+nu.toNat)]? >>= fun aO =>
  if 0≤nu∧nu<(aq.length:Nat) then
  aq[(0+nu.toNat)]? >>= fun bO =>
  mn bO >>= fun fz =>
  xw aO fz >>= fun fL =>
  xz jm fL >>= fun cC =>
  some (.inl (cC,U (nu+(1:Int))))
  else none
  else none
 else
  some (.inr jm)
def Dm (pe a8 aH:Int)(ao aS aq:List Int)(bb:List (Option bB))(jm:Option bB)(nu:Int):Option ((Option bB)):=iter (fun w:(Option bB)×Int=>xj pe a8 aH ao aS aq bb w.1 w.2) (jm,nu)
theorem T2 {pe a8 aH:Int}{ao aS aq:List Int}{bb:List (Option bB)}{jm:Option bB}{nu:Int}:b4 (xj pe a8 aH ao aS aq bb jm nu) (fG bx 124 4 37 [1,1,1,1,1,1,1,1,1,1,1,0,1,0,0] (Hw pe a8 aH ao aS aq bb (jm,nu)) (Hw pe a8 aH ao aS aq bb) (HN pe a8 aH ao aS aq bb)):=by
 unfold xj
 exact .ite (fun o =>
  .bl fun R =>
  .az fun aO aD =>
  .bl fun aM =>
  .az fun bO bQ =>
  .az fun fz cA =>
  .az fun fL cK =>
  .az fun cC dT =>
  .ret (b0 [(ab 1),.al true,.aE (bT 2 (.cq ((cN 3 bd) aO)) 2),.aE (ae 8 (ai (.cq (J bO)) (ai (bA 1 (dQ 3 bd fz) false) (ai (bA 2 (dQ 3 bd fL) false) (ai (bA 2 (dQ 3 bd cC) false) (ae 1 [])))))),(ab 2),.bm [0,1,2,3,4] [.box [.id,.id,.id,.id,.id],.pure,.pure,.pure,.pure] (bY [0,9,13,102,103,104])] (.bj o R.1 R.2 (cz (cN 3 bd) aD) aM.1 aM.2 (cz J bQ) (o2 fz cA) (.eF (MK fL cK) (MP cC dT) (aG 1 .live aF ao) (aG 1 .live aF aS) (aG 1 .live aF aq) (aG 1 .live (ms (sz:=3) kA) bb)))))
  (fun o =>
  .ret (b0 [(ab 1),.al false,.bm [0,1,2,3,4] [.box [.id,.id,.id,.id,.id],.pure,.pure,.pure,.pure] (bY [9,13])] (.dr o (aG 1 .live aF ao) (aG 1 .live aF aS) (aG 1 .live aF aq) (aG 1 .live (ms (sz:=3) kA) bb))))
theorem UI {pe a8 aH:Int}{ao aS aq:List Int}{bb:List (Option bB)}{jm:Option bB}{nu:Int}{r} (h:Dm pe a8 aH ao aS aq bb jm nu=some r):fH bx 124 4 37 [1,1,1,1,1,1,1,1,1,1,1,0,1,0,0] (Hw pe a8 aH ao aS aq bb) (HN pe a8 aH ao aS aq bb) (jm,nu) r:=fI (fun _=>T2) h
def zY (cg cH:Int)(cW e3 dg:List Int):Option (Int×(List (Option bB))×(Option bB)) :=
 xJ cg cH cW e3 dg >>= fun an =>
 match an with
 | .inl bI=>(if 0≤bI.2.2.1∧(8:Int)*bI.2.2.1≤281474976710656∧bI.2.2.1<9223372036854775808 then
  if dg.length≤bI.2.2.1.toNat then
  sB bI.1 bI.2.1 bI.2.2.1 bI.2.2.2.1 bI.2.2.2.2.2.2 bI.2.2.2.2.1 bI.2.2.2.2.2.1 (dg++(List.replicate bI.2.2.1.toNat 0:List Int).drop dg.length) >>= fun cT =>
  if cT.1=true then
   Dj cH cg cW e3 dg bI.2.2.1 bI.2.2.2.1 0 cT.2.1 cT.2.2.1 (dg++(List.replicate bI.2.2.1.toNat 0:List Int).drop dg.length) cT.2.2.2.1 cT.2.2.2.2.1 cT.2.2.2.2.2 >>= fun bs =>
   if 0≤cH∧(8:Int)*cH≤281474976710656∧cH<9223372036854775808 then
   Dk ((cH.toNat:Nat):Int) cg cH cW e3 dg bs.1 bs.2.1 bI.2.2.1 bI.2.2.2.1 bs.2.2.1 bs.2.2.2.1 bs.2.2.2.2 0 (List.replicate cH.toNat (none:(Option bB)):List (Option bB)) >>= fun cC =>
   Dl ((bs.2.2.2.1.length:Nat):Int) cg cH cW e3 dg bs.1 bs.2.1 bI.2.2.1 bs.2.2.2.1 bI.2.2.2.1 bs.2.2.1 bs.2.2.2.2 0 cC >>= fun dm =>
   mn 0 >>= fun cl =>
   Dm ((dm.length:Nat):Int) cg cH cW e3 dg dm cl 0 >>= fun ea =>
   some (0,dm,ea)
   else none
  else
   some (3,([]:List (Option bB)),(none:(Option bB)))
  else none
  else none)
 | .inr bI=>(some (2,([]:List (Option bB)),(none:(Option bB))))
set_option maxHeartbeats 4000000 in
theorem Vd {cg cH:Int}{cW e3 dg:List Int}:b4 (zY cg cH cW e3 dg) (fun a=>Con bx 37 [.ref 0 0 0 0] [[af.mk 5 [(fA cg cH 1 0 0 cW.length 2 0 0 e3.length 3 0 0 dg.length)] .live],(ay 1 J cW),(ay 1 J e3),(ay 1 J dg)] (.dB [.n .i64 a.1,.isl 1 (a.2.1.map (cN 3 bd)),dQ 3 bd a.2.2]) [[af.mk 5 [(fA cg cH 1 0 0 cW.length 2 0 0 e3.length 3 0 0 dg.length)] .live],(ay 1 J cW),(ay 1 J e3),(ay 1 J dg)]):=by
 unfold zY
 exact .az fun an R =>
  (let v8:=fA cg cH 1 0 0 cW.length 2 0 0 e3.length 3 0 0 dg.length;have b3:=((.dr (iK (oV [0,1,2,3]) 5 [v8] [v8] rfl) (i4 5 [v8]) (fa 1 aF cW) (fa 1 aF e3) (fa 1 aF dg)):c3 _);
  (by
  rcases an with bI|bI
  ·exact (.bl fun aD =>
  .bl fun aM =>
  .az fun cT bQ =>
  (let qx:=eJ 1 0 0 bI.2.2.2.1.length cT.2.1 cT.2.2.1 3 0 0 cT.2.2.2.2.1.length bI.2.2.1 4 0 0 cT.2.2.2.2.2.length;let tq:=eJ 4 1 0 bI.2.2.2.1.length bI.1 bI.2.1 4 2 0 bI.2.2.2.2.1.length bI.2.2.1 4 3 0 bI.2.2.2.2.2.1.length;let qz:=fA cg cH 1 0 0 cW.length 2 0 0 e3.length 3 0 0 dg.length;let kM:=c6 2 aN bI.2.2.2.2.2.2;let tr:=(dg++(List.replicate bI.2.2.1.toNat 0:List Int).drop dg.length);let vZ:=eJ 5 0 0 bI.2.2.2.1.length cT.2.1 cT.2.2.1 6 0 0 cT.2.2.2.2.1.length bI.2.2.1 7 0 0 cT.2.2.2.2.2.length;let BQ:=eJ 1 0 0 bI.2.2.2.1.length bI.1 bI.2.1 3 0 0 bI.2.2.2.2.1.length bI.2.2.1 4 0 0 bI.2.2.2.2.2.1.length;let uA:=eJ 5 0 0 bI.2.2.2.1.length bI.1 bI.2.1 6 0 0 bI.2.2.2.2.1.length bI.2.2.1 7 0 0 bI.2.2.2.2.2.1.length;let uB:=hN [0,1,2,3,8];let y7:=ay 1 (bX 8 0 2) bI.2.2.2.1;let uC:=c8 [0,1,2,3,8];let v5:=oV [4,5,8,6,7,15];let v7:=hN [4,5,8,6,7,15];let y8:=ay 1 (bX 2 0 2) bI.2.2.2.1;let y9:=(lY bI.2.2.1.toNat (0:Int));let BR:=c6 2 aN cT.2.2.2.1;let BS:=lL J bI.2.2.1.toNat 0;let t2:List cL:=[(ab 3),.aE (bT 1 (.call {aQ:=(ob [0,1,2,3]),cO:=[.bD [af.mk 5 [qz] .live],.pure,.pure,.pure],ac:=[ii],r:= .dB [.ref 4 0 0 0,.b true],d4:=[[af.mk 5 [qz] .live],(ay 1 J cW),(ay 1 J e3),(ay 1 J dg),(af.mk 6 [tq] .live::af.mk 1 (bI.2.2.2.1.map (bX 4 4 2)) .live::af.mk 1 (bI.2.2.2.2.1.map J) .live::af.mk 1 (bI.2.2.2.2.2.1.map dO) .live::kM)],fu:= .comp [.cx .id,.cx .id],gd:=[.bD [af.mk 5 [qz] .live],.pure,.pure,.pure,.bD (af.mk 6 [(eJ 8 1 0 bI.2.2.2.1.length bI.1 bI.2.1 8 2 0 bI.2.2.2.2.1.length bI.2.2.1 8 3 0 bI.2.2.2.2.2.1.length)] .live::af.mk 1 (bI.2.2.2.1.map (bX 8 4 2)) .live::af.mk 1 (bI.2.2.2.2.1.map J) .live::af.mk 1 (bI.2.2.2.2.2.1.map dO) .live::kM)],dG:=[0,1,2,3],dD:=false}) 5),.bm [0,1,2,3,8] [.box [.id,.id,.id,.id,.id],.pure,.pure,.pure,.bD (af.mk 6 [tq] .live::af.mk 1 (bI.2.2.2.1.map (bX 4 4 2)) .live::af.mk 1 (bI.2.2.2.2.1.map J) .live::af.mk 1 (bI.2.2.2.2.2.1.map dO) .live::kM)] [(0,ii),(2,ii),(3,ii),(4,.bE (.cx (.oR 3))),(5,ii),(6,ii),(16,.comp [.cx .id,.cx .id]),(17,ii),(18,.comp [.cx .id,.cx .id]),(19,ii),(20,ii)],.y1 [{dd:=some (0,0)},{dd:=some (1,0)},{dd:=some (2,0)},{dd:=some (3,0)},{bh:=[(4,0)]},{bh:=[(4,1)]},{bh:=[(4,2)]},{bh:=[(4,3)]},{dd:=some (4,4)}] [([],some (.box [.id,.id,.id,.id,.id])),([],some (.pure)),([],some (.pure)),([],some (.pure)),([.box [.at_ 5 0 bI.2.2.2.1.length,.id,.id,.at_ 6 0 bI.2.2.2.2.1.length,.id,.at_ 7 0 bI.2.2.2.2.2.1.length]],none),([.rx y7],none),([.pure],none),([.pure],none),([],some (.rx kM))] [(0,ii),(2,ii),(3,ii),(4,ii),(5,.bE (.cx (.at_ 4 0 0))),(6,ii),(16,.comp [.cx (.at_ 4 0 0),.cx .id]),(17,ii),(18,.comp [.cx (.at_ 4 0 0),.cx .id]),(19,.bE (.cx (.at_ 4 0 0))),(20,ii)],(ab 2),.al false,(ab 6),(ab 6),.aE (bT 2 (.call {aQ:=(ob [4,5,8,6,7,15]),cO:=[.bD [af.mk 6 [BQ] .live],.bD y8,.bD kM,.pure,.pure,.eg (ay 1 J tr)],ac:=[ii,.bE (.cx (.len (tr.length)))],r:= .b cT.1,d4:=[[af.mk 6 [qx] .live],y8,BR,(ay 1 J cT.2.2.2.2.1),(ay 1 dO cT.2.2.2.2.2),(ay 1 J tr)],fu:=ii,gd:=[.bD [af.mk 6 [vZ] .live],.bD y7,.bD BR,.pure,.pure,.pure],dG:=[4,5,6,7,8,15],dD:=false}) 1)];
  have fR:=b3.aY (.bj (iK uB 5 [qz] [qz] rfl) (i4 5 [qz]) (fa 1 aF cW) (fa 1 aF e3) (fa 1 aF dg) (eM (show af.mk 6 [(eJ 8 1 0 bI.2.2.2.1.length bI.1 bI.2.1 8 2 0 bI.2.2.2.2.1.length bI.2.2.1 8 3 0 bI.2.2.2.2.2.1.length)] .live=ku (hN [0,1,2,3,8]) (af.mk 6 [(eJ 4 1 0 bI.2.2.2.1.length bI.1 bI.2.1 4 2 0 bI.2.2.2.2.1.length bI.2.2.1 4 3 0 bI.2.2.2.2.2.1.length)] .live) from rfl) (eM (Cj uB 8 4 4 2 rfl bI.2.2.2.1) (eM (fM uB 1 fN bI.2.2.2.2.1) (eM (fM uB 1 EH bI.2.2.2.2.2.1) (e1 uB 2 ef bI.2.2.2.2.2.2))))) ((lj rfl (lj rfl (lj rfl (lj rfl (Jl (iU .live 2 aN bI.2.2.2.2.2.2)))))):nv (af.mk 6 [tq] .live::af.mk 1 (bI.2.2.2.1.map (bX 4 4 2)) .live::af.mk 1 (bI.2.2.2.2.1.map J) .live::af.mk 1 (bI.2.2.2.2.2.1.map dO) .live::kM)) (Di (.inl bI) R) (.bj (aG 1 .live aF cW) (aG 1 .live aF e3) (aG 1 .live aF dg) (eM (show af.mk 6 [(eJ 4 1 0 bI.2.2.2.1.length bI.1 bI.2.1 4 2 0 bI.2.2.2.2.1.length bI.2.2.1 4 3 0 bI.2.2.2.2.2.1.length)] .live=ku (c8 [0,1,2,3,8]) (af.mk 6 [(eJ 8 1 0 bI.2.2.2.1.length bI.1 bI.2.1 8 2 0 bI.2.2.2.2.1.length bI.2.2.1 8 3 0 bI.2.2.2.2.2.1.length)] .live) from rfl) (eM (Cj uC 4 8 4 2 rfl bI.2.2.2.1) (eM (fM uC 1 fN bI.2.2.2.2.1) (eM (fM uC 1 EH bI.2.2.2.2.2.1) (e1 uC 2 ef bI.2.2.2.2.2.2))))) (aG 1 .live aF cW) (aG 1 .live aF e3) (aG 1 .live aF dg) (rfl:(iT [{dd:=some (0,0)},{dd:=some (1,0)},{dd:=some (2,0)},{dd:=some (3,0)},{bh:=[(4,0)]},{bh:=[(4,1)]},{bh:=[(4,2)]},{bh:=[(4,3)]},{dd:=some (4,4)}]) 5 0=some (4,1)) (.bj (rfl:bI.2.2.2.1.length=bI.2.2.2.1.length) (rfl:(iT [{dd:=some (0,0)},{dd:=some (1,0)},{dd:=some (2,0)},{dd:=some (3,0)},{bh:=[(4,0)]},{bh:=[(4,1)]},{bh:=[(4,2)]},{bh:=[(4,3)]},{dd:=some (4,4)}]) 6 0=some (4,2)) (rfl:bI.2.2.2.2.1.length=bI.2.2.2.2.1.length) (rfl:(iT [{dd:=some (0,0)},{dd:=some (1,0)},{dd:=some (2,0)},{dd:=some (3,0)},{bh:=[(4,0)]},{bh:=[(4,1)]},{bh:=[(4,2)]},{bh:=[(4,3)]},{dd:=some (4,4)}]) 7 0=some (4,3)) (rfl:bI.2.2.2.2.2.1.length=bI.2.2.2.2.2.1.length) (Py (Ka (j9:=(bX 8 0 2)) (el (bX 4 4 2) bI.2.2.2.1) (fun _=>rfl) (fun x=>(QI (fun _=>rfl)) x)) P7:sn (iT [{dd:=some (0,0)},{dd:=some (1,0)},{dd:=some (2,0)},{dd:=some (3,0)},{bh:=[(4,0)]},{bh:=[(4,1)]},{bh:=[(4,2)]},{bh:=[(4,3)]},{dd:=some (4,4)}]) (ay 1 (bX 4 4 2) bI.2.2.2.1) y7) (aG 1 .live aF bI.2.2.2.2.1) (aG 1 .live ec bI.2.2.2.2.2.1) (.bj (PA (iU .live 2 aN bI.2.2.2.2.2.2) (fun _=>rfl) ef:sn (iT [{dd:=some (0,0)},{dd:=some (1,0)},{dd:=some (2,0)},{dd:=some (3,0)},{bh:=[(4,0)]},{bh:=[(4,1)]},{bh:=[(4,2)]},{bh:=[(4,3)]},{dd:=some (4,4)}]) kM kM) (rfl:(iT [{dd:=some (0,0)},{dd:=some (1,0)},{dd:=some (2,0)},{dd:=some (3,0)},{bh:=[(4,0)]},{bh:=[(4,1)]},{bh:=[(4,2)]},{bh:=[(4,3)]},{dd:=some (4,4)}]) 4 0=some (4,0)) (rfl:(iT [{dd:=some (0,0)},{dd:=some (1,0)},{dd:=some (2,0)},{dd:=some (3,0)},{bh:=[(4,0)]},{bh:=[(4,1)]},{bh:=[(4,2)]},{bh:=[(4,3)]},{dd:=some (4,4)}]) 4 0=some (4,0)) (rfl:(iT [{dd:=some (0,0)},{dd:=some (1,0)},{dd:=some (2,0)},{dd:=some (3,0)},{bh:=[(4,0)]},{bh:=[(4,1)]},{bh:=[(4,2)]},{bh:=[(4,3)]},{dd:=some (4,4)}]) 4 0=some (4,0)) (rfl:(iT [{dd:=some (0,0)},{dd:=some (1,0)},{dd:=some (2,0)},{dd:=some (3,0)},{bh:=[(4,0)]},{bh:=[(4,1)]},{bh:=[(4,2)]},{bh:=[(4,3)]},{dd:=some (4,4)}]) 4 0=some (4,0)) dU aD.1 (Int.le_refl bI.2.2.1) (.bj aD.2.1 aD.2.2 (kp J dg) (aap (AM (el J dg) (fq dg)) aM) (vm BS y9) (Qb y9 (Nat.le_refl _) aM) (iK v5 6 [BQ] [uA] rfl) (i4 6 [uA]) (.bj (eW v5 2 8 0 2 rfl bI.2.2.2.1) (i4 1 (bI.2.2.2.1.map (bX 8 0 2))) (e1 v5 2 ef bI.2.2.2.2.2.2) (rk 2 aN bI.2.2.2.2.2.2) (fa 1 aF bI.2.2.2.2.1) (fa 1 ec bI.2.2.2.2.2.1) (e6 1 .live (Zx BS (AM (el J dg) (fq dg)))) (fa 1 aF tr) (.bj (iK v7 6 [vZ] [qx] rfl) (i4 6 [qx]) (eW v7 8 2 0 2 rfl bI.2.2.2.1) (i4 1 (bI.2.2.2.1.map (bX 2 0 2))) (e1 v7 2 ef cT.2.2.2.1) (rk 2 aN cT.2.2.2.1) (fa 1 aF cT.2.2.2.2.1) (fa 1 ec cT.2.2.2.2.2) (.aC (fa 1 aF tr) (GP cT bQ)))))))));
  .ite (fun bn =>
  .az fun bs de =>
  .bl fun cK =>
  .az fun cC dT =>
  .az fun dm fZ =>
  .az fun cl gx =>
  .az fun ea j7 =>
  .ret (let aW:=fA cg cH 1 0 0 cW.length 2 0 0 e3.length 3 0 0 dg.length;let bk:=(List.replicate cH.toNat (none:(Option bB)):List (Option bB));let cc:=aG 1 .live aF cW;let cV:=aG 1 .live aF e3;let d5:=aG 1 .live aF dg;let fB:=(dg++(List.replicate bI.2.2.1.toNat 0:List Int).drop dg.length);let hE:=c8 [0,1,2,3,4,15,5,8,6,7];let fD:=c8 [0,1,2,3,4,13,5,6,7,8];let jO:=c8 [0,1,2,3,4,5,8,6,7,9];let jK:=ay 1 (bX 7 0 2) bI.2.2.2.1;let kX:=aG 1 .live aF bs.2.2.2.1;let kY:=aG 1 .live ec bs.2.2.2.2;let mC:=c6 2 aN bs.2.2.1;i1 (t2.append [.al false,(ab 5),.bm [0,1,2,3,4,15,5,8,6,7] [.box [.id,.id,.id,.id,.id],.pure,.pure,.pure,.box [.id,.id,.id,.id,.id,.id],.pure,.bD jK,.bD (c6 2 aN cT.2.2.2.1),.pure,.pure] [(0,ii),(5,ii),(7,ha (fB.length)),(41,ii),(42,ii)],(HK cH cg cW e3 dg bI.2.2.1 bI.2.2.2.1 bs).gC,.aE (bT 4 (.cq [(dQ 3 bd (none:(Option bB)))]) 1),(ab 3),.bm [0,1,2,3,4,13,5,6,7,8] [.box [.id,.id,.id,.id,.id],.pure,.pure,.pure,.box [.id,.id,.id,.id,.id,.id],.eg (ay 1 (cN 3 bd) bk),.bD jK,.bD mC,.pure,.pure] [(0,ii),(5,ii),(9,ha (bk.length)),(59,ii),(60,ii)],(HL ((cH.toNat:Nat):Int) cg cH cW e3 dg bs.1 bs.2.1 bI.2.2.1 bI.2.2.2.1 bs.2.2.1 bs.2.2.2.1 bs.2.2.2.2 cC).gC,(ab 6),.bm [0,1,2,3,4,5,8,6,7,9] [.box [.id,.id,.id,.id,.id],.pure,.pure,.pure,.box [.id,.id,.id,.id,.id,.id],.pure,.pure,.bD (ay 1 (bX 8 0 2) bI.2.2.2.1),.bD mC,.pure] (bY [0,5,9,71,72,73]),(HM ((bs.2.2.2.1.length:Nat):Int) cg cH cW e3 dg bs.1 bs.2.1 bI.2.2.1 bs.2.2.2.1 bI.2.2.2.1 bs.2.2.1 bs.2.2.2.2 dm).gC,.aE (ai (bA 1 (dQ 3 bd cl) false) (ae 1 [])),(ab 3),.bm [0,1,2,3,4] [.box [.id,.id,.id,.id,.id],.pure,.pure,.pure,.pure] (bY [0,9,13,102,103,104]),(HN ((dm.length:Nat):Int) cg cH cW e3 dg dm ea).gC,(ab 5)]) [0,1,2,3] [.bD [af.mk 5 [aW] .live],.pure,.pure,.pure] (fR.aY (.bj (cR bn) cc cV d5 (aG 1 .live aF fB) (eW hE 7 8 0 2 rfl bI.2.2.2.1) (e1 hE 2 ef cT.2.2.2.1) (aG 1 .live aF cT.2.2.2.2.1) (.bj (aG 1 .live ec cT.2.2.2.2.2) (Qb (lY bI.2.2.1.toNat (0:Int)) (Nat.le_refl _) aM) (UF de) cK.1 (Int.le_refl cH) cK.2.1 cK.2.2 cc (.bj cV d5 (e6 1 .live (lL (cN 3 bd) cH.toNat (none:(Option bB)))) (aG 1 .live (ms (sz:=3) kA) bk) (eW fD 7 6 0 2 rfl bI.2.2.2.1) (e1 fD 2 ef bs.2.2.1) kX kY (.bj (lY cH.toNat ((none:(Option bB)):(Option bB))) (UG dT) cc cV d5 (aG 1 .live (ms (sz:=3) kA) cC) kX (eW jO 8 7 0 2 rfl bI.2.2.2.1) (.bj (e1 jO 2 ef bs.2.2.1) kY (UH fZ) (o2 cl gx) cc cV d5 (aG 1 .live (ms (sz:=3) kA) dm) (.gX (UI j7) (iK (c8 [0,1,2,3]) 5 [aW] [aW] rfl) cc cV d5 (lh (cN 3 bd) dm) (kp (cN 3 bd) dm) (d3 (ms (sz:=3) kA) dm)))))))) (.comp [.cx .id,.cx (.eU (dm.map (cN 3 bd))),.cx .id])))
  (fun bn =>
  .ret (let od:=fA cg cH 1 0 0 cW.length 2 0 0 e3.length 3 0 0 dg.length;i1 (t2.append [.al true,(ab 3)]) [0,1,2,3] [.bD [af.mk 5 [od] .live],.pure,.pure,.pure] (fR.aY (.dr (c2 bn) (iK (c8 [0,1,2,3]) 5 [od] [od] rfl) (aG 1 .live aF cW) (aG 1 .live aF e3) (aG 1 .live aF dg))) (.comp [.cx .id,.cx (.lU 1),.cx (.oR 3)])))))
  ·exact (.ret (let mb:=fA cg cH 1 0 0 cW.length 2 0 0 e3.length 3 0 0 dg.length;i1 [(ab 3),.aE (bT 1 (.call {aQ:=(ob [0,1,2,3]),cO:=[.bD [af.mk 5 [mb] .live],.pure,.pure,.pure],ac:=[ii],r:= .dB [.ik,.b false],d4:=[[af.mk 5 [mb] .live],(ay 1 J cW),(ay 1 J e3),(ay 1 J dg)],fu:=ii,gd:=[.bD [af.mk 5 [mb] .live],.pure,.pure,.pure],dG:=[0,1,2,3],dD:=false}) 5),(ab 2),.al true,(ab 3)] [0,1,2,3] [.bD [af.mk 5 [mb] .live],.pure,.pure,.pure] (b3.aY (.bj (iK (hN [0,1,2,3]) 5 [mb] [mb] rfl) (i4 5 [mb]) (fa 1 aF cW) (fa 1 aF e3) (fa 1 aF dg) (Di (.inr bI) R) bP (iK (c8 [0,1,2,3]) 5 [mb] [mb] rfl) (.b1 (aG 1 .live aF cW) (aG 1 .live aF e3) (aG 1 .live aF dg)))) (.comp [.cx .id,.cx (.lU 1),.cx (.oR 3)])))))
def D2 (a7:Option bB):Option (Option bB) :=
 a7.elim
 (some (none:(Option bB)))
 fun d6 =>
 p8 d6.qo >>= fun aZ =>
 some (some (⟨aZ,d6.oJ⟩:bB))
theorem V4 {a7:Option bB}:b4 (D2 a7) (fun r=>Con bx 67 [(dQ 3 bd a7)] [] (dQ 3 bd r) []):=by
 unfold D2
 exact .nd (fun o =>
  .ret (bM [(ab 1),.aE (ae 1 (ai (.fe 3 (.eP 3 none) .dh) [])),.al true,(ab 1)] (.aC (pX (sz:=3) (f:=bd) o) bP) (.bE (.cx (.oR 3)))))
  (fun d6 o =>
  .az fun aZ aD =>
  .ret (bM [(ab 1),.aE (ae 1 (ai (.fe 3 (.eP 3 (some (bd d6))) .dh) [])),.al false,.aE (ae 1 (ai (.fe 5 (.eP 3 (some (bd d6))) .dh) (ae 2 (ai (bA 1 (.agg (aN aZ)) false) (bT 1 (.fe 10 (.eP 3 (some (bd d6))) .dh) 5)))))] (.eF (jd (sz:=3) (f:=bd) o) dU (jd (sz:=3) (f:=bd) o) (CL aZ aD) (jd (sz:=3) (f:=bd) o) (jA (kA (⟨aZ,d6.oJ⟩:bB)):gr [[.b aZ.du,.isl 1 (aZ.cY.map J),.isl 1 (d6.oJ.map J)]])) (.bE (.s8 [.id,.id,.id]))))
def tP (b8:Option bB):Option (Option bB) :=
 b8 >>= fun fh =>
 if (decide ((24:Int)<(len_ J fh.qo.cY)))=true then
  some (none:(Option bB))
 else
  if (decide ((24:Int)<(len_ J fh.oJ)))=true then
   some (none:(Option bB))
  else
   some b8
theorem I3 {b8:Option bB}:b4 (tP b8) (fun r=>Con bx 54 [(dQ 3 bd b8)] [] (dQ 3 bd r) []):=by
 unfold tP
 exact .az fun fh R =>
  (have b3:=((.aw (jd (sz:=3) (f:=bd) R)):c3 _);
  .ite (fun ad =>
  .ret (bM [(ab 1),.aE (ae 1 (ai (.fe 3 (.eP 3 (some (bd fh))) .dh) (ae 6 (cw 6 (ai (.al true) []))))),.al true,(ab 1)] (b3.aY (.gX ad ad ad ad ad ad ad bP)) (.bE (.cx (.oR 3)))))
  (fun ad =>
  (let t2:List cL:=[(ab 1),.aE (ae 1 (ai (.fe 3 (.eP 3 (some (bd fh))) .dh) (ae 7 (ai (.fe 11 (.eP 3 (some (bd fh))) .dh) (ae 4 (ai (.al false) []))))))];
  have fR:=b3.aY (.gX ad ad (jd (sz:=3) (f:=bd) R) ad ad ad ad ad);
  .ite (fun aD =>
  .ret (bM (t2.append [.al true,(ab 1)]) (fR.aY (.aw aD)) (.bE (.cx (.oR 3)))))
  (fun aD =>
  .ret (bM (t2.append [.al false,(ab 2)]) (fR.aY (.aw aD)))))))
def o4 (a7 aV:Option bB):Option (Option bB) :=
 a7.elim
 (some (none:(Option bB)))
 fun d6 =>
 aV.elim
 (some (none:(Option bB)))
 fun ol =>
 xz a7 aV >>= fun bp =>
 tP bp >>= fun bH =>
 some bH
theorem tK {a7 aV:Option bB}:b4 (o4 a7 aV) (fun r=>Con bx 51 [dQ 3 bd a7,dQ 3 bd aV] [] (dQ 3 bd r) []):=by
 unfold o4
 exact .nd (fun o =>
  .ret (bM [(ab 1),.aE (ae 1 (ai (.fe 5 (.eP 3 none) .dh) (ae 1 (cw 2 (ae 1 []))))),.al true,(ab 1)] (.dn (pX (sz:=3) (f:=bd) o) bP bP bP) (.bE (.cx (.oR 3)))))
  (fun d6 o =>
  (have b3:=((.b1 (jd (sz:=3) (f:=bd) o) dU dU):c3 _);
  .nd (fun ad =>
  .ret (bM [(ab 1),.aE (ae 1 (ai (.fe 5 (.eP 3 (some (bd d6))) .dh) (bT 2 (.fe 8 (.eP 3 none) .dh) 1))),.al true,(ab 1)] (b3.aY (.aC (pX (sz:=3) (f:=bd) ad) bP)) (.bE (.cx (.oR 3)))))
  (fun ol ad =>
  .az fun bp bq =>
  .az fun bH bn =>
  .ret (bM [(ab 1),.aE (ae 1 (ai (.fe 5 (.eP 3 (some (bd d6))) .dh) (bT 2 (.fe 8 (.eP 3 (some (bd ol))) .dh) 1))),.al false,.aE (ae 2 (ai (bA 2 (dQ 3 bd bp) false) (ai (bA 1 (dQ 3 bd bH) false) (ae 1 []))))] (b3.aY (.dn (jd (sz:=3) (f:=bd) ad) dU (MP bp bq) (I3 bH bn)))))))
def GL (b8:List (Option bB))(gF:List d8)(hi:Int):(Int×(List (Option bB)))→S:=fun (gn,au)=>e2 [(1,.isl 1 (b8.map (cN 3 bd))),(5,.bF 0 0 0 au.length),(16,.isl 2 (gF.map ev)),(17,.n .i64 hi),(18,.n .i64 gn)] [(ay 1 (cN 3 bd) au)]
def GQ (b8:List (Option bB))(gF:List d8)(hi:Int):(List (Option bB))→e5
 | a=>⟨some 0,[(5,.bF 0 0 0 a.length)],[(ay 1 (cN 3 bd) a)]⟩
def wX (b8:List (Option bB))(gF:List d8)(hi gn:Int)(au:List (Option bB)):Option ((Int×(List (Option bB)))⊕((List (Option bB)))) :=
 if (decide (gn<hi))=true then
  if 0≤gn∧gn<gF.length then
  gF[gn.toNat]? >>= fun aO =>
  if 0≤gn∧gn<b8.length then
  b8[gn.toNat]? >>= fun bO =>
  if (decide (aO.sf<(0:Int)))=true then
   D2 bO >>= fun bs =>
   if 0≤aO.hx∧aO.hx<(au.length:Nat) then
   au[(0+aO.hx.toNat)]? >>= fun za =>
   za.elim
   (if (0+aO.hx.toNat)<au.length then
     some (.inl (U (gn+(1:Int)),au.set (0+aO.hx.toNat) bs))
     else none)
   fun RH =>
   o4 za bs >>= fun cl =>
   if (0+aO.hx.toNat)<au.length then
   some (.inl (U (gn+(1:Int)),au.set (0+aO.hx.toNat) cl))
   else none
   else none
  else
   if 0≤aO.hx∧aO.hx<(au.length:Nat) then
   au[(0+aO.hx.toNat)]? >>= fun jf =>
   jf.elim
   (if (0+aO.hx.toNat)<au.length then
     some (.inl (U (gn+(1:Int)),au.set (0+aO.hx.toNat) bO))
     else none)
   fun RI =>
   o4 jf bO >>= fun dm =>
   if (0+aO.hx.toNat)<au.length then
   some (.inl (U (gn+(1:Int)),au.set (0+aO.hx.toNat) dm))
   else none
   else none
  else none
  else none
 else
  some (.inr au)
def G6 (b8:List (Option bB))(gF:List d8)(hi gn:Int)(au:List (Option bB)):Option ((List (Option bB))):=iter (fun w:Int×(List (Option bB))=>wX b8 gF hi w.1 w.2) (gn,au)
theorem Tk {b8:List (Option bB)}{gF:List d8}{hi gn:Int}{au:List (Option bB)}:b4 (wX b8 gF hi gn au) (fG bx 56 0 39 [1,1,0,1,0,0] (GL b8 gF hi (gn,au)) (GL b8 gF hi) (GQ b8 gF hi)):=by
 unfold wX
 exact .ite (fun o =>
  .bl fun R =>
  .az fun aO aD =>
  .bl fun aM =>
  .az fun bO bQ =>
  (let t1:List cL:=[(ab 1),.al true,.aE (bT 2 (.cq (ev aO)) 3),.aE (bT 3 (.cq ((cN 3 bd) bO)) 1),(ab 3)];
  have a9:=((.ff o R.1 (en ev R.2) (cz ev aD) aM.1 (en (cN 3 bd) aM.2) (cz (cN 3 bd) bQ)):c3 _);
  .ite (fun bn =>
  .az fun bs de =>
  .bl fun cK =>
  .az fun za dT =>
  (let t3:List cL:=t1.append [.al true,.aE (bT 1 (bA 1 (dQ 3 bd bs) false) 1)];
  have fv:=a9.aY (.dr bn (V4 bs de) cK.1 cK.2 (cz (cN 3 bd) dT));
  .nd (fun e9 =>
  .bl fun gM =>
  .ret (b0 (t3.append [.aE (ae 4 (ai (.cq ((cN 3 bd) za)) (ai (.fe 36 (.eP 3 none) .dh) []))),.al true,.aE (ae 5 (ai .dh [])),(ab 2),.bm [0] [.eg (ay 1 (cN 3 bd) (au.set (0+aO.hx.toNat) bs))] [(1,ii),(5,ha ((au.set (0+aO.hx.toNat) bs).length)),(16,ii),(17,ii),(18,ii)]]) (fv.aY (.bj (pX (sz:=3) (f:=bd) e9) bP cK.1 cK.2 (hR (cN 3 bd) gM) (hG 1) (e6 1 .live (gE (el (cN 3 bd) au) (0+aO.hx.toNat) bs)) (aG 1 .live (ms (sz:=3) kA) (au.set (0+aO.hx.toNat) bs)) (.aw (gZ (fq au) (0+aO.hx.toNat) bs))))))
  (fun RH e9 =>
  .az fun cl gx =>
  .bl fun ia =>
  .ret (b0 (t3.append [.aE (ae 4 (ai (.cq ((cN 3 bd) za)) (ai (.fe 36 (.eP 3 (some (bd RH))) .dh) []))),.al false,.aE (ae 7 (ai (.cq ((cN 3 bd) za)) (ae 1 (ai (bA 2 (dQ 3 bd cl) false) (ae 1 (ai .dh [])))))),(ab 2),.bm [0] [.eg (ay 1 (cN 3 bd) (au.set (0+aO.hx.toNat) cl))] [(1,ii),(5,ha ((au.set (0+aO.hx.toNat) cl).length)),(16,ii),(17,ii),(18,ii)]]) (fv.aY (.bj (jd (sz:=3) (f:=bd) e9) dU cK.1 cK.2 (cz (cN 3 bd) dT) (tK cl gx) cK.1 cK.2 (.dr (hR (cN 3 bd) ia) (hG 1) (e6 1 .live (gE (el (cN 3 bd) au) (0+aO.hx.toNat) cl)) (aG 1 .live (ms (sz:=3) kA) (au.set (0+aO.hx.toNat) cl)) (gZ (fq au) (0+aO.hx.toNat) cl))))))))
  (fun bn =>
  .bl fun cA =>
  .az fun jf cK =>
  (have fR:=a9.aY (.dn bn cA.1 cA.2 (cz (cN 3 bd) cK));
  .nd (fun dc =>
  .bl fun e9 =>
  .ret (b0 (t1.append [.al false,.aE (ae 4 (ai (.cq ((cN 3 bd) jf)) (ai (.fe 36 (.eP 3 none) .dh) []))),.al true,.aE (ae 5 (ai .dh [])),(ab 2),.bm [0] [.eg (ay 1 (cN 3 bd) (au.set (0+aO.hx.toNat) bO))] [(1,ii),(5,ha ((au.set (0+aO.hx.toNat) bO).length)),(16,ii),(17,ii),(18,ii)]]) (fR.aY (.bj (pX (sz:=3) (f:=bd) dc) bP cA.1 cA.2 (hR (cN 3 bd) e9) (hG 1) (e6 1 .live (gE (el (cN 3 bd) au) (0+aO.hx.toNat) bO)) (aG 1 .live (ms (sz:=3) kA) (au.set (0+aO.hx.toNat) bO)) (.aw (gZ (fq au) (0+aO.hx.toNat) bO))))))
  (fun RI dc =>
  .az fun dm fZ =>
  .bl fun gM =>
  .ret (b0 (t1.append [.al false,.aE (ae 4 (ai (.cq ((cN 3 bd) jf)) (ai (.fe 36 (.eP 3 (some (bd RI))) .dh) []))),.al false,.aE (ae 7 (ai (.cq ((cN 3 bd) jf)) (ae 1 (ai (bA 2 (dQ 3 bd dm) false) (ae 1 (ai .dh [])))))),(ab 2),.bm [0] [.eg (ay 1 (cN 3 bd) (au.set (0+aO.hx.toNat) dm))] [(1,ii),(5,ha ((au.set (0+aO.hx.toNat) dm).length)),(16,ii),(17,ii),(18,ii)]]) (fR.aY (.bj (jd (sz:=3) (f:=bd) dc) dU cA.1 cA.2 (cz (cN 3 bd) cK) (tK dm fZ) cA.1 cA.2 (.dr (hR (cN 3 bd) gM) (hG 1) (e6 1 .live (gE (el (cN 3 bd) au) (0+aO.hx.toNat) dm)) (aG 1 .live (ms (sz:=3) kA) (au.set (0+aO.hx.toNat) dm)) (gZ (fq au) (0+aO.hx.toNat) dm))))))))))
  (fun o =>
  .ret (b0 [(ab 1),.al false,.bm [0] [.pure] (bY [5])] (.aC o (aG 1 .live (ms (sz:=3) kA) au))))
theorem TF {b8:List (Option bB)}{gF:List d8}{hi gn:Int}{au:List (Option bB)}{r} (h:G6 b8 gF hi gn au=some r):fH bx 56 0 39 [1,1,0,1,0,0] (GL b8 gF hi) (GQ b8 gF hi) (gn,au) r:=fI (fun _=>Tk) h
def zF (aI:ca)(b8:List (Option bB)):Option (List (Option bB)) :=
 if 0≤(len_ db aI.b2)∧(8:Int)*(len_ db aI.b2)≤281474976710656∧(len_ db aI.b2)<9223372036854775808 then
 tH aI >>= fun cb =>
 G6 b8 cb (len_ ev cb) 0 (List.replicate (len_ db aI.b2).toNat (none:(Option bB)):List (Option bB)) >>= fun bz =>
 some bz
 else none
theorem T8 {aI:ca}{b8:List (Option bB)}:b4 (zF aI b8) (fun r=>Con bx 39 [.eu 2 [(ga aI)] 0 0,.isl 1 (b8.map (cN 3 bd))] [] (.isl 1 (r.map (cN 3 bd))) []):=by
 unfold zF
 exact .bl fun o =>
  .az fun cb ad =>
  .az fun bz aM =>
  .ret (let bk:=len_ db aI.b2;let aW:=(List.replicate bk.toNat (none:(Option bB)):List (Option bB));bM [(ab 1),.aE (bT 5 (.cq [(dQ 3 bd (none:(Option bB)))]) 1),.aE (bT 1 (bA 1 (.isl 2 (cb.map ev)) false) 2),.bm [6] [.eg (ay 1 (cN 3 bd) aW)] [(1,ii),(5,ha (aW.length)),(16,ii),(17,ii),(18,ii)],(GQ b8 cb (len_ ev cb) bz).gC,(ab 2)] (.bj o.1 (Int.le_refl bk) o.2.1 o.2.2 (CJ cb ad) (e6 1 .live (lL (cN 3 bd) bk.toNat (none:(Option bB)))) (aG 1 .live (ms (sz:=3) kA) aW) (lY bk.toNat ((none:(Option bB)):(Option bB))) (.dn (TF aM) (lh (cN 3 bd) bz) (kp (cN 3 bd) bz) (d3 (ms (sz:=3) kA) bz))) (.bE (.cx (.eU (bz.map (cN 3 bd))))))
def uS (aI:ca)(yG yz:Int)(f6 cW e3:List Int):Option ((List (Option bB))×(List (Option bB))×Bool) :=
 zY yG yz f6 cW e3 >>= fun an =>
 if (an.1 != (0:Int))=true then
  some (([]:List (Option bB)),([]:List (Option bB)),false)
 else
  tH aI >>= fun bz =>
  if 0≤(len_ ev bz) then
  if 0≤(len_ ev bz).toNat∧(len_ ev bz).toNat≤an.2.1.length then
  zF aI ((an.2.1.drop 0).take ((len_ ev bz).toNat-0)) >>= fun fz =>
  if (len_ ev bz).toNat≤an.2.1.length then
  some (fz,(an.2.1.drop ((len_ ev bz).toNat)).take ((an.2.1.map (cN 3 bd)).length-(len_ ev bz).toNat),true)
  else none
  else none
  else none
theorem TB {aI:ca}{yG yz:Int}{f6 cW e3:List Int}:b4 (uS aI yG yz f6 cW e3) (fun a=>Con bx 16 [.eu 2 [(ga aI)] 0 0,.agg (fA yG yz 0 0 0 f6.length 1 0 0 cW.length 2 0 0 e3.length)] [(ay 1 J f6),(ay 1 J cW),(ay 1 J e3)] (.dB [.isl 1 (a.1.map (cN 3 bd)),.isl 1 (a.2.1.map (cN 3 bd)),.b a.2.2]) [(ay 1 J f6),(ay 1 J cW),(ay 1 J e3)]):=by
 unfold uS
 exact .az fun an R =>
  (let cc:=fA yG yz 1 0 0 f6.length 2 0 0 cW.length 3 0 0 e3.length;let cV:=fA yG yz 0 0 0 f6.length 1 0 0 cW.length 2 0 0 e3.length;let t1:List cL:=[(ab 4),.aE (ai (.call {aQ:=(ob [3,0,1,2]),cO:=[.bD [af.mk 5 [cc] .live],.pure,.pure,.pure],ac:=[ii],r:= .dB [.n .i64 an.1,.isl 1 (an.2.1.map (cN 3 bd)),dQ 3 bd an.2.2],d4:=[[af.mk 5 [cc] .live],(ay 1 J f6),(ay 1 J cW),(ay 1 J e3)],fu:=ii,gd:=[.bD [af.mk 5 [cV] .live],.pure,.pure,.pure],dG:=[0,1,2,3],dD:=false}) (ae 7 [])),(ab 2)];
  have a9:=((.bj (iK (oV [3,0,1,2]) 5 [cc] [cV] rfl) (i4 5 [cV]) (fa 1 aF f6) (fa 1 aF cW) (fa 1 aF e3) (iK (hN [3,0,1,2]) 5 [cV] [cc] rfl) (i4 5 [cc]) (fa 1 aF f6) (.b1 (fa 1 aF cW) (fa 1 aF e3) (Vd an R))):c3 _);
  .ite (fun ad =>
  .ret (i1 (t1.append [.al true,(ab 3)]) [0,1,2] [.pure,.pure,.pure] (a9.aY (.dn ad (aG 1 .live aF f6) (aG 1 .live aF cW) (aG 1 .live aF e3))) (.comp [.cx (.lU 1),.cx (.lU 1),.cx .id])))
  (fun ad =>
  .az fun bz aM =>
  .bl fun bq =>
  .bl fun bQ =>
  .az fun fz cA =>
  .bl fun de =>
  .ret (let aW:=len_ ev bz;let bk:=el (cN 3 bd) an.2.1;i1 (t1.append [.al false,.aE (bT 1 (bA 1 (.isl 2 (bz.map ev)) false) 2),.aE (bT 4 (.call {ac:=[ii,.bE (.cx (.eg (.isl 1 (((an.2.1.drop 0).take (aW.toNat-0)).map (cN 3 bd)))))],r:= .isl 1 (fz.map (cN 3 bd)),dD:=false}) 6)]) [0,1,2] [.pure,.pure,.pure] (a9.aY (.bj ad (CJ bz aM) bq bQ.1 (tR bk bQ.2) (congrArg (ax.isl 1) (pN bk 0 (aW.toNat-0)):(.isl 1 (((an.2.1.map (cN 3 bd)).drop 0).take (aW.toNat-0)):ax) = .isl 1 (((an.2.1.drop 0).take (aW.toNat-0)).map (cN 3 bd))) (T8 fz cA) bq (.eF (Zt bk▸de:aW.toNat≤(an.2.1.map (cN 3 bd)).length) (Nat.le_refl ((an.2.1.map (cN 3 bd)).length)) (aG 1 .live aF f6) (aG 1 .live aF cW) (aG 1 .live aF e3) (congrArg (ax.isl 1) (pN bk (aW.toNat) ((an.2.1.map (cN 3 bd)).length-aW.toNat)):(.isl 1 (((an.2.1.map (cN 3 bd)).drop (aW.toNat)).take ((an.2.1.map (cN 3 bd)).length-aW.toNat)):ax) = .isl 1 (((an.2.1.drop (aW.toNat)).take ((an.2.1.map (cN 3 bd)).length-aW.toNat)).map (cN 3 bd)))))) (.comp [.cx .id,.cx (.eg (.isl 1 (((an.2.1.drop (aW.toNat)).take ((an.2.1.map (cN 3 bd)).length-aW.toNat)).map (cN 3 bd)))),.cx .id]))))
def zL (b8:bg):Option bg :=
 if (decide ((60:Int)<(len_ J b8.cY)))=true then
  some (⟨false,([]:List Int)⟩:bg)
 else
  vo b8.cY >>= fun cb =>
  some (⟨b8.du,cb⟩:bg)
theorem Up {b8:bg}:b4 (zL b8) (fun r=>Con bx 69 [.agg (aN b8)] [] (.agg (aN r)) []):=by
 unfold zL
 exact .ite (fun o =>
  .ret (bM [(ab 2),(ab 4),.al true,(ab 2)] (.aw o) (.bE (.agg [.id,.lU 1]))))
  (fun o =>
  .az fun cb ad =>
  .ret (bM [(ab 2),(ab 4),.al false,.aE (bT 4 (bA 1 (.isl 1 (cb.map J)) false) 2)] (.aC o (Jd cb ad))))
def Ad (b8:Option bB):Option gb :=
 b8.elim
 (some (⟨(⟨false,([]:List Int)⟩:bg),([]:List Int)⟩:gb))
 fun d6 =>
 zL d6.qo >>= fun aZ =>
 vo d6.oJ >>= fun bp =>
 some (⟨aZ,bp⟩:gb)
theorem Vt {b8:Option bB}:b4 (Ad b8) (fun r=>Con bx 42 [(dQ 3 bd b8)] [] (.agg (g7 r)) []):=by
 unfold Ad
 exact .nd (fun o =>
  .ret (bM [(ab 1),.aE (ae 1 (ai (.fe 3 (.eP 3 none) .dh) [])),.al true,(ab 2)] (.aC (pX (sz:=3) (f:=bd) o) bP) (.bE (.agg [.id,.lU 1,.lU 1]))))
  (fun d6 o =>
  .az fun aZ aD =>
  .az fun bp bq =>
  .ret (bM [(ab 1),.aE (ae 1 (ai (.fe 3 (.eP 3 (some (bd d6))) .dh) [])),.al false,.aE (ae 1 (ai (.fe 6 (.eP 3 (some (bd d6))) .dh) (ae 2 (ai (bA 1 (.agg (aN aZ)) false) (ae 1 (ai (.fe 11 (.eP 3 (some (bd d6))) .dh) (bT 2 (bA 1 (.isl 1 (bp.map J)) false) 2)))))))] (.eF (jd (sz:=3) (f:=bd) o) dU (jd (sz:=3) (f:=bd) o) (Up aZ aD) (jd (sz:=3) (f:=bd) o) (Jd bp bq))))
def HO (et:List (Option bB))(dZ:Int):(Int×(List gb))→S:=fun (d1,au)=>e2 [(4,.bF 0 0 0 au.length),(10,.isl 1 (et.map (cN 3 bd))),(11,.n .i64 dZ),(12,.n .i64 d1)] [(ay 3 g7 au)]
def HY (et:List (Option bB))(dZ:Int):(((List gb))⊕(Unit))→e5
 | .inl a=>⟨some 0,[(4,.bF 0 0 0 a.length)],[(ay 3 g7 a)]⟩
 | .inr a=>⟨none,[(2,.ex),(3,.b false)],[]⟩
def xn (et:List (Option bB))(dZ d1:Int)(au:List gb):Option ((Int×(List gb))⊕(((List gb))⊕(Unit))) :=
 if (decide (d1<dZ))=true then
  if 0≤d1∧d1<et.length then
  et[d1.toNat]? >>= fun aO =>
  aO.elim
  (some (.inr (.inr ())))
  fun rl =>
  Ad aO >>= fun bH =>
  if 0≤d1∧d1<(au.length:Nat) then
  if (0+d1.toNat)<au.length then
  some (.inl (U (d1+(1:Int)),au.set (0+d1.toNat) bH))
  else none
  else none
  else none
 else
  some (.inr (.inl au))
def IA (et:List (Option bB))(dZ d1:Int)(au:List gb):Option (((List gb))⊕(Unit)):=iter (fun w:Int×(List gb)=>xn et dZ w.1 w.2) (d1,au)
theorem T9 {et:List (Option bB)}{dZ d1:Int}{au:List gb}:b4 (xn et dZ d1 au) (fG bx 26 0 18 [1,1,0,1,0,0] (HO et dZ (d1,au)) (HO et dZ) (HY et dZ)):=by
 unfold xn
 exact .ite (fun o =>
  .bl fun R =>
  .az fun aO aD =>
  (let t1:List cL:=[(ab 1),.al true,.aE (bT 2 (.cq ((cN 3 bd) aO)) 2)];
  have a9:=((.dn o R.1 (en (cN 3 bd) R.2) (cz (cN 3 bd) aD)):c3 _);
  .nd (fun aM =>
  .ret (b0 (t1.append [.aE (ae 1 (ai (.fe 17 (.eP 3 none) .dh) [])),.al true,(ab 2),.bm [] [] (bY [2,3])]) (a9.aY (.aC (pX (sz:=3) (f:=bd) aM) bP))))
  (fun rl aM =>
  .az fun bH bn =>
  .bl fun cA =>
  .bl fun de =>
  .ret (b0 (t1.append [.aE (ae 1 (ai (.fe 17 (.eP 3 (some (bd rl))) .dh) [])),.al false,.aE (ae 3 (ai (bA 1 (.agg (g7 bH)) false) (ae 1 (ai .dh [])))),(ab 2),.bm [0] [.eg (ay 3 g7 (au.set (0+d1.toNat) bH))] [(4,ha ((au.set (0+d1.toNat) bH).length)),(10,ii),(11,ii),(12,ii)]]) (a9.aY (.bj (jd (sz:=3) (f:=bd) aM) dU (Vt bH bn) cA.1 cA.2 (hR g7 de) (hG 3) (e6 3 .live (gE (el g7 au) (0+d1.toNat) bH)) (.aC (aG 3 .live DI (au.set (0+d1.toNat) bH)) (gZ (fq au) (0+d1.toNat) bH))))))))
  (fun o =>
  .ret (b0 [(ab 1),.al false,.bm [0] [.pure] (bY [4])] (.aC o (aG 3 .live DI au))))
theorem MR {et:List (Option bB)}{dZ d1:Int}{au:List gb}{r} (h:IA et dZ d1 au=some r):fH bx 26 0 18 [1,1,0,1,0,0] (HO et dZ) (HY et dZ) (d1,au) r:=fI (fun _=>T9) h
def z5 (df:List (Option bB)):Option ((List gb)×Bool) :=
 if 0≤(len_ (cN 3 bd) df)∧(56:Int)*(len_ (cN 3 bd) df)≤281474976710656∧(len_ (cN 3 bd) df)<9223372036854775808 then
 IA df (len_ (cN 3 bd) df) 0 (List.replicate (len_ (cN 3 bd) df).toNat (⟨(⟨false,([]:List Int)⟩:bg),([]:List Int)⟩:gb):List gb) >>= fun cb =>
 match cb with
 | .inl gq=>(some (gq,true))
 | .inr gq=>(some (([]:List gb),false))
 else none
theorem Vn {df:List (Option bB)}:b4 (z5 df) (fun r=>Con bx 18 [.isl 1 (df.map (cN 3 bd))] [] (.dB [.isl 3 (r.1.map g7),.b r.2]) []):=by
 unfold z5
 exact .bl fun o =>
  .az fun cb ad =>
  (let bk:=len_ (cN 3 bd) df;let aW:=(List.replicate bk.toNat (⟨(⟨false,([]:List Int)⟩:bg),([]:List Int)⟩:gb):List gb);let t1:List cL:=[(ab 2),.aE (bT 2 (.cq [.b false,.isl 1 (([]:List Int).map J),.isl 1 (([]:List Int).map J)]) 1),(ab 3),.bm [4] [.eg (ay 3 g7 aW)] [(4,ha (aW.length)),(10,ii),(11,ii),(12,ii)]];
  have a9:=((.ff o.1 (Int.le_refl bk) o.2.1 o.2.2 (e6 3 .live (lL g7 bk.toNat (⟨(⟨false,([]:List Int)⟩:bg),([]:List Int)⟩:gb))) (aG 3 .live DI aW) (lY bk.toNat ((⟨(⟨false,([]:List Int)⟩:bg),([]:List Int)⟩:gb):gb))):c3 _);
  (by
  rcases cb with gq|gq
  ·exact (.ret (bM (t1.append [(HY df (len_ (cN 3 bd) df) (.inl gq)).gC,(ab 3)]) (a9.aY (.dn (MR ad) (lh g7 gq) (kp g7 gq) (d3 DI gq))) (.comp [.cx (.eU (gq.map g7)),.cx .id])))
  ·exact (.ret (bM (t1.append [.sub (.ret) [(2,.ex),(3,.b false)] []]) (a9.aY (.aw (MR ad))) (.comp [.cx (.lU 3),.cx .id])))))
def pI (aI:ca)(cy:List Int)(fm:List bu):Option ((List gb)×Bool) :=
 z2 aI cy >>= fun an =>
 if an=true then
  xD aI fm >>= fun bz =>
  if bz=true then
   zu aI cy fm >>= fun bH =>
   uS aI bH.1 bH.2.1 bH.2.2.1 bH.2.2.2.1 bH.2.2.2.2 >>= fun bs =>
   if bs.2.2=true then
    z5 bs.1 >>= fun cC =>
    some (cC.1,cC.2)
   else
    some (([]:List gb),false)
  else
   some (([]:List gb),false)
 else
  some (([]:List gb),false)
theorem zw {aI:ca}{cy:List Int}{fm:List bu}:b4 (pI aI cy fm) (fun r=>Con bx 5 [.agg (ga aI),.isl 1 (cy.map J),.isl 4 (fm.map cG)] [] (.dB [.isl 3 (r.1.map g7),.b r.2]) []):=by
 unfold pI
 exact .az fun an R =>
  (have b3:=((.aC (M7 an R) (cf.b an)):c3 _);
  .ite (fun ad =>
  .az fun bz aM =>
  (let t2:List cL:=[(ab 3),.aE (ae 2 (ai (bA 2 (.b an) true) (ae 4 (ai (bA 2 (.b bz) true) (ae 1 (ai (.al false) []))))))];
  have fR:=b3.aY (.ff (cR ad) (cR ad) (cR ad) (MV bz aM) (cf.b bz) (cR ad) (cR ad));
  .ite (fun bq =>
  .az fun bH bn =>
  .az fun bs de =>
  (let aW:=fa 1 aF bH.2.2.2.1;let bk:=fa 1 aF bH.2.2.2.2;let cc:=fa 1 aF bH.2.2.1;let t4:List cL:=t2.append [.al false,.iC 0,.aE (ae 2 (ai (.call {aQ:=[],cO:=[],ac:=[.bE (.ptr [.id,.id]),ii,ii],r:= .agg (fA bH.1 bH.2.1 0 0 0 bH.2.2.1.length 0 1 0 bH.2.2.2.1.length 0 2 0 bH.2.2.2.2.length),d4:=[[af.mk 1 (bH.2.2.1.map J) .live,af.mk 1 (bH.2.2.2.1.map J) .live,af.mk 1 (bH.2.2.2.2.map J) .live]],fu:= .bE (.agg [.id,.id,.id,.id,.id]),gd:=[.bD [af.mk 1 (bH.2.2.1.map J) .live,af.mk 1 (bH.2.2.2.1.map J) .live,af.mk 1 (bH.2.2.2.2.map J) .live]],dG:=[0],dD:=true}) (ai (.call {aQ:=[.aj 15 0 (af.mk 1 (bH.2.2.1.map J) .live),.aj 15 1 (af.mk 1 (bH.2.2.2.1.map J) .live),.aj 15 2 (af.mk 1 (bH.2.2.2.2.map J) .live)],cO:=[.pure,.pure,.pure],ac:=[.bE (.ptr [.id,.id]),.bE (.agg [.id,.id,.at_ 0 0 bH.2.2.1.length,.at_ 1 0 bH.2.2.2.1.length,.at_ 2 0 bH.2.2.2.2.length])],r:= .dB [.isl 1 (bs.1.map (cN 3 bd)),.isl 1 (bs.2.1.map (cN 3 bd)),.b bs.2.2],d4:=[(ay 1 J bH.2.2.1),(ay 1 J bH.2.2.2.1),(ay 1 J bH.2.2.2.2)],fu:=ii,gd:=[.pure,.pure,.pure],dG:=[0,15],dD:=false}) (ae 7 [])))),(ab 2)];
  have nn:=fR.aY (.bj (cR bq) (jA (mm aI):gr [(ga aI)]) (eM (fM (hN [15]) 1 fN bH.2.2.1) (eM (fM (hN [15]) 1 fN bH.2.2.2.1) (eM (fM (hN [15]) 1 fN bH.2.2.2.2) (kE (b7:=(hN [15])))))) ((lj rfl (lj rfl (lj rfl x2))):nv [af.mk 1 (bH.2.2.1.map J) .live,af.mk 1 (bH.2.2.2.1.map J) .live,af.mk 1 (bH.2.2.2.2.map J) .live]) (S9 bH bn) (cf.agg (mr (cf.n .i64 bH.1) (mr (cf.n .i64 bH.2.1) (mr (cf.bF 0 0 0 bH.2.2.1.length) (mr (cf.bF 0 1 0 bH.2.2.2.1.length) (mr (cf.bF 0 2 0 bH.2.2.2.2.length) ym)))))) ((Am (rs (qR rC) (rs (qR rC) (rs (qR rC) Ay))) Ax):sm [[af.mk 1 (bH.2.2.1.map J) .live,af.mk 1 (bH.2.2.2.1.map J) .live,af.mk 1 (bH.2.2.2.2.map J) .live]]) (by decide:0≠1) (.bj (by decide:0≠2) (by decide:1≠2) (jA (mm aI):gr [(ga aI)]) (rfl:lR [.aj 15 0 (af.mk 1 (bH.2.2.1.map J) .live),.aj 15 1 (af.mk 1 (bH.2.2.2.1.map J) .live),.aj 15 2 (af.mk 1 (bH.2.2.2.2.map J) .live)] 0 0=some (15,0)) (rfl:bH.2.2.1.length=bH.2.2.1.length) (rfl:lR [.aj 15 0 (af.mk 1 (bH.2.2.1.map J) .live),.aj 15 1 (af.mk 1 (bH.2.2.2.1.map J) .live),.aj 15 2 (af.mk 1 (bH.2.2.2.2.map J) .live)] 1 0=some (15,1)) (rfl:bH.2.2.2.1.length=bH.2.2.2.1.length) (rfl:lR [.aj 15 0 (af.mk 1 (bH.2.2.1.map J) .live),.aj 15 1 (af.mk 1 (bH.2.2.2.1.map J) .live),.aj 15 2 (af.mk 1 (bH.2.2.2.2.map J) .live)] 2 0=some (15,2)) (.bj (rfl:bH.2.2.2.2.length=bH.2.2.2.2.length) (rfl:dk (some [af.mk 1 (bH.2.2.1.map J) .live,af.mk 1 (bH.2.2.2.1.map J) .live,af.mk 1 (bH.2.2.2.2.map J) .live]) 0=some (af.mk 1 (bH.2.2.1.map J) .live)) cc (rfl:dk (some [af.mk 1 (bH.2.2.1.map J) .live,af.mk 1 (bH.2.2.2.1.map J) .live,af.mk 1 (bH.2.2.2.2.map J) .live]) 1=some (af.mk 1 (bH.2.2.2.1.map J) .live)) aW (rfl:dk (some [af.mk 1 (bH.2.2.1.map J) .live,af.mk 1 (bH.2.2.2.1.map J) .live,af.mk 1 (bH.2.2.2.2.map J) .live]) 2=some (af.mk 1 (bH.2.2.2.2.map J) .live)) bk cc (.b1 aW bk (TB bs de)))));
  .ite (fun cK =>
  .az fun cC dT =>
  .ret (bM (t4.append [.al false,.aE (bT 1 (bA 1 (.dB [.isl 3 (cC.1.map g7),.b cC.2]) false) 4)]) (nn.aY (.aC (cR cK) (Vn cC dT)))))
  (fun cK =>
  .ret (bM (t4.append [.al true,(ab 2)]) (nn.aY (.aw (c2 cK))) (.comp [.cx (.lU 3),.cx .id])))))
  (fun bq =>
  .ret (bM (t2.append [.al true,(ab 2)]) (fR.aY (.aw (c2 bq))) (.comp [.cx (.lU 3),.cx .id])))))
  (fun ad =>
  .ret (bM [(ab 3),.aE (ae 2 (ai (bA 2 (.b an) true) (ae 2 (cw 4 (ai (.al true) []))))),.al true,(ab 2)] (b3.aY (.eF (c2 ad) (c2 ad) (c2 ad) (c2 ad) (c2 ad) bP)) (.comp [.cx (.lU 3),.cx .id]))))
def zZ (bc:Int):Option Bool :=
 if (decide (bc<(0:Int)))=true then
  some true
 else
  some (decide ((1000000000:Int)≤bc))
theorem Ve {bc:Int}:b4 (zZ bc) (fun r=>Con bx 108 [.n .i64 bc] [] (.b r) []):=by
 unfold zZ
 exact .ite (fun o =>
  .ret (bM [(ab 1),.aE (ae 3 (cw 2 (ai (.al true) (ae 1 []))))] (.b1 o o o)))
  (fun o =>
  .ret (bM [(ab 1),.aE (bT 5 (.al false) 1)] (.b1 o o o)))
def Gj (aI:List Int)(ez:Int):Int→S:=fun eI=>e2 [(0,.isl 1 (aI.map J)),(1,.fn 108 []),(7,.n .i64 ez),(8,.n .i64 eI)] []
def Mn (aI:List Int)(ez:Int):((Unit)⊕(Int))→e5
 | .inl a=>⟨some 0,[],[]⟩
 | .inr a=>⟨none,[(4,.n .i64 a)],[]⟩
def wN (aI:List Int)(ez eI:Int):Option ((Int)⊕((Unit)⊕(Int))) :=
 if (decide (eI<ez))=true then
  if 0≤eI∧eI<aI.length then
  aI[eI.toNat]? >>= fun aO =>
  zZ aO >>= fun bp =>
  if bp=true then
   some (.inr (.inr eI))
  else
   some (.inl (U (eI+(1:Int))))
  else none
 else
  some (.inr (.inl ()))
def GM (aI:List Int)(ez eI:Int):Option ((Unit)⊕(Int)):=iter (fun w:Int=>wN aI ez w) eI
theorem SY {aI:List Int}{ez eI:Int}:b4 (wN aI ez eI) (fG bx 19 0 84 [1,0,1,0,0] (Gj aI ez eI) (Gj aI ez) (Mn aI ez)):=by
 unfold wN
 exact .ite (fun o =>
  .bl fun R =>
  .az fun aO aD =>
  .az fun bp bq =>
  (let t1:List cL:=[(ab 1),.al true,(ab 2),.aE (ae 4 (ai (.cq (J aO)) (ai (bA 1 (.b bp) true) [])))];
  have a9:=((.eF o R.1 (en J R.2) (cz J aD) (Ve bp bq) (cf.b bp)):c3 _);
  .ite (fun bQ =>
  .ret (b0 (t1.append [.al true,(ab 2),.bm [] [] (bY [4])]) (a9.aY (.aw bQ))))
  (fun bQ =>
  .ret (b0 (t1.append [.al false,(ab 2),.bm [] [] (bY [0,1,7,8])]) (a9.aY (.aw bQ))))))
  (fun o =>
  .ret (b0 [(ab 1),.al false,.bm [] [] []] (.aw o)))
theorem Mo {aI:List Int}{ez eI:Int}{r} (h:GM aI ez eI=some r):fH bx 19 0 84 [1,0,1,0,0] (Gj aI ez) (Mn aI ez) eI r:=fI (fun _=>SY) h
def CK (aI:List Int):Option Int :=
 GM aI (len_ J aI) 0 >>= fun an =>
 match an with
 | .inl bI=>(some (-1))
 | .inr bI=>(some bI)
theorem Ts {aI:List Int}:b4 (CK aI) (fun r=>Con bx 84 [.isl 1 (aI.map J),.fn 108 []] [] (.n .i64 r) []):=by
 unfold CK
 exact .az fun an R =>
  (let t1:List cL:=[(ab 1),(ab 3),.bm [] [] (bY [0,1,7,8])];
  (by
  rcases an with bI|bI
  ·exact (.ret (bM (t1.append [.sub (.exit 0) [] [],(ab 1)]) (.aw (Mo R))))
  ·exact (.ret (bM (t1.append [.sub (.ret) [(4,.n .i64 bI)] []]) (.aw (Mo R))))))
def wY (aI:List Int):Option Bool :=
 CK aI >>= fun an =>
 some (decide ((0:Int)≤an))
theorem Mp {aI:List Int}:b4 (wY aI) (fun r=>Con bx 61 [.isl 1 (aI.map J),.fn 108 []] [] (.b r) []):=by
 unfold wY
 exact .az fun an R =>
  .ret (bM [(ab 1),.aE (bT 2 (bA 2 (.n .i64 an) true) 2)] (.aC (Ts an R) (cf.n .i64 an)))
def vd (a7:List Int):Option Bool :=
 if (decide ((60:Int)<(len_ J a7)))=true then
  some false
 else
  if (decide ((0:Int)<(len_ J a7)))=true then
   if 0≤(U ((len_ J a7)-(1:Int)))∧(U ((len_ J a7)-(1:Int)))<a7.length then
   a7[(U ((len_ J a7)-(1:Int))).toNat]? >>= fun gj =>
   if (gj == (0:Int))=true then
    some false
   else
    wY a7 >>= fun bH =>
    some (!bH)
   else none
  else
   wY a7 >>= fun aZ =>
   some (!aZ)
theorem Nl {a7:List Int}:b4 (vd a7) (fun r=>Con bx 107 [.isl 1 (a7.map J)] [] (.b r) []):=by
 unfold vd
 exact .ite (fun o =>
  .ret (bM [(ab 1),.aE (ae 4 (cw 4 (ae 7 (cw 1 (ai (.al true) []))))),.al true,(ab 1)] (.ff o o o o o o bP)))
  (fun o =>
  .ite (fun R =>
  .bl fun ad =>
  .az fun gj aM =>
  (let t1:List cL:=[(ab 1),.aE (ae 13 (ai (.cq (J gj)) (ae 1 (ai (.al true) (ai (.al false) [])))))];
  have a9:=((.bj o o o o R R R R (.bj R ad.1 (en J ad.2) R (cz J aM) R o R (.aw o))):c3 _);
  .ite (fun bq =>
  .ret (bM (t1.append [.al true,(ab 1)]) (a9.aY (.aw bq))))
  (fun bq =>
  .az fun bH bn =>
  .ret (bM (t1.append [.al false,.aE (bT 1 (bA 2 (.b bH) true) 2)]) (a9.aY (.b1 bq (Mp bH bn) (cf.b bH)))))))
  (fun R =>
  .az fun aZ aD =>
  .ret (bM [(ab 1),.aE (ae 8 (cw 7 (ai (.al false) (ai (.al false) [])))),.al false,.aE (bT 1 (bA 2 (.b aZ) true) 2)] (.bj o o o o R R R R (.bj R R R o R o dU (Mp aZ aD) (.aw (cf.b aZ)))))))
def zS (b8:bg):Option Bool :=
 vd b8.cY >>= fun an =>
 if an=true then
  if b8.du=true then
   some (!((len_ J b8.cY) == (0:Int)))
  else
   some true
 else
  some false
theorem U0 {b8:bg}:b4 (zS b8) (fun r=>Con bx 106 [.agg (aN b8)] [] (.b r) []):=by
 unfold zS
 exact .az fun an R =>
  (have b3:=((.aC (Nl an R) (cf.b an)):c3 _);
  .ite (fun ad =>
  .ite (fun aD =>
  .ret (bM [(ab 2),.aE (ae 2 (ai (bA 1 (.b an) true) (ae 8 (ai (.al true) (bT 1 (.al true) 1)))))] (b3.aY (.bj ad ad ad aD aD aD aD ad (.b1 aD ad ad)))))
  (fun aD =>
  .ret (bM [(ab 2),.aE (ae 2 (ai (bA 1 (.b an) true) (ae 4 (cw 4 (ai (.al false) (bT 1 (.al true) 1))))))] (b3.aY (.bj ad ad ad aD aD aD aD ad (.b1 aD ad ad))))))
  (fun ad =>
  .ret (bM [(ab 2),.aE (ae 2 (ai (bA 1 (.b an) true) (ae 1 (cw 3 (ae 4 (cw 2 (ai (.al false) (ae 1 []))))))))] (b3.aY (.eF ad ad ad ad ad ad)))))
def xR (dS:gb):Option Bool :=
 zS dS.dW >>= fun an =>
 if an=true then
  vd dS.dX >>= fun bz =>
  if bz=true then
   if ((len_ J dS.dX) == (0:Int))=true then
    some false
   else
    if (decide ((24:Int)<(len_ J dS.dW.cY)))=true then
     some false
    else
     if (decide ((24:Int)<(len_ J dS.dX)))=true then
      some false
     else
      xK dS.dW.cY dS.dX >>= fun fL =>
      p9 fL ([1]:List Int) >>= fun cC =>
      some (cC == (0:Int))
  else
   some false
 else
  some false
theorem Vu {dS:gb}:b4 (xR dS) (fun r=>Con bx 96 [.agg (g7 dS)] [] (.b r) []):=by
 unfold xR
 exact .az fun an R =>
  (have b3:=((.aC (U0 an R) (cf.b an)):c3 _);
  .ite (fun ad =>
  .az fun bz aM =>
  (have a9:=b3.aY (.ff (cR ad) (cR ad) (cR ad) (Nl bz aM) (cf.b bz) (cR ad) (cR ad));
  .ite (fun bq =>
  (have fR:=a9.aY (.dr (cR bq) (cR bq) (cR bq) (cR bq) (cR bq));
  .ite (fun bQ =>
  .ret (bM [(ab 2),.aE (ae 2 (ai (bA 1 (.b an) true) (ae 4 (ai (bA 1 (.b bz) true) (ae 1 (ai (.al false) (ae 5 (ai (.al false) (ae 1 (cw 5 (ai (.al true) (ae 1 (cw 4 (ae 1 [])))))))))))))),.al true,(ab 1)] (fR.aY (.bj bQ bQ bQ bQ bQ bQ bP bP (.b1 bP bP bP)))))
  (fun bQ =>
  .ite (fun bn =>
  .ret (bM [(ab 2),.aE (ae 2 (ai (bA 1 (.b an) true) (ae 4 (ai (bA 1 (.b bz) true) (ae 1 (ai (.al false) (ae 5 (ai (.al false) (ae 6 (ai (.al false) (ae 1 (cw 4 (ai (.al true) []))))))))))))),.al true,(ab 1)] (fR.aY (.bj bQ bQ bQ bQ bQ bQ bn bn (.dn bn bn bn bP)))))
  (fun bn =>
  (let t4:List cL:=[(ab 2),.aE (ae 2 (ai (bA 1 (.b an) true) (ae 4 (ai (bA 1 (.b bz) true) (ae 1 (ai (.al false) (ae 5 (ai (.al false) (ae 6 (ai (.al false) (ae 5 (ai (.al false) []))))))))))))];
  have nn:=fR.aY (.bj bQ bQ bQ bQ bQ bQ bn bn (.b1 bn bn bn));
  .ite (fun cA =>
  .ret (bM (t4.append [.al true,(ab 1)]) (nn.aY (.aw cA))))
  (fun cA =>
  .az fun fL cK =>
  .az fun cC dT =>
  .ret (bM (t4.append [.al false,.aE (ae 5 (ai (bA 2 (.isl 1 (fL.map J)) false) (bT 1 (.call {ac:=[ii,.bE (.cx (.eU (([1]:List Int).map J)))],r:= .n .i64 cC,dD:=true,dG:=[37]}) 2)))]) (nn.aY (.ff cA (M5 fL cK) (gY (show [[.n .i64 (1:Int)]]=(([1]:List Int)).map J from rfl) (show 1=([1]:List Int).length from rfl)) (kO J 1) (d3 aF ([1]:List Int)) (xy cC dT) (cf.n .i64 cC))))))))))
  (fun bq =>
  .ret (bM [(ab 2),.aE (ae 2 (ai (bA 1 (.b an) true) (ae 4 (ai (bA 1 (.b bz) true) (ae 1 (ai (.al false) (ae 1 (cw 4 (ai (.al true) (ae 1 (cw 5 (ae 2 (cw 4 (ae 1 [])))))))))))))),.al true,(ab 1)] (a9.aY (.bj (c2 bq) (c2 bq) (c2 bq) (c2 bq) (c2 bq) bP bP bP (.ff bP bP bP bP bP bP bP)))))))
  (fun ad =>
  .ret (bM [(ab 2),.aE (ae 2 (ai (bA 1 (.b an) true) (ae 2 (cw 4 (ai (.al true) (ae 1 (cw 4 (ae 2 (cw 5 (ae 2 (cw 4 (ae 1 [])))))))))))),.al true,(ab 1)] (b3.aY (.bj (c2 ad) (c2 ad) (c2 ad) (c2 ad) (c2 ad) bP bP bP (.bj bP bP bP bP bP bP bP bP (.b1 bP bP bP)))))))
def DT (dS:gb):Option (Option bB) :=
 xR dS >>= fun an =>
 if an=true then
  some (some (⟨dS.dW,dS.dX⟩:bB))
 else
  some (none:(Option bB))
theorem VH {dS:gb}:b4 (DT dS) (fun r=>Con bx 76 [.agg (g7 dS)] [] (dQ 3 bd r) []):=by
 unfold DT
 exact .az fun an R =>
  (let t1:List cL:=[(ab 2),.aE (bT 1 (bA 1 (.b an) true) 1)];
  have a9:=((.aC (Vu an R) (cf.b an)):c3 _);
  .ite (fun ad =>
  .ret (bM (t1.append [.al false,(ab 7)]) (a9.aY (.aC (cR ad) (jA (kA (⟨dS.dW,dS.dX⟩:bB)):gr [(g7 dS)]))) (.bE (.s8 [.id,.id,.id]))))
  (fun ad =>
  .ret (bM (t1.append [.al true,(ab 1)]) (a9.aY (.aw (c2 ad))) (.bE (.cx (.oR 3))))))
def HZ (et:List gb)(dZ:Int):(Int×(List (Option bB)))→S:=fun (d1,au)=>e2 [(4,.bF 0 0 0 au.length),(10,.isl 3 (et.map g7)),(11,.n .i64 dZ),(12,.n .i64 d1)] [(ay 1 (cN 3 bd) au)]
def Ie (et:List gb)(dZ:Int):(((List (Option bB)))⊕(Unit))→e5
 | .inl a=>⟨some 0,[(4,.bF 0 0 0 a.length)],[(ay 1 (cN 3 bd) a)]⟩
 | .inr a=>⟨none,[(2,.ex),(3,.b false)],[]⟩
def xp (et:List gb)(dZ d1:Int)(au:List (Option bB)):Option ((Int×(List (Option bB)))⊕(((List (Option bB)))⊕(Unit))) :=
 if (decide (d1<dZ))=true then
  if 0≤d1∧d1<et.length then
  et[d1.toNat]? >>= fun aO =>
  DT aO >>= fun bp =>
  if 0≤d1∧d1<(au.length:Nat) then
  if (0+d1.toNat)<au.length then
  (au.set (0+d1.toNat) bp)[(0+d1.toNat)]? >>= fun gy =>
  gy.elim
  (some (.inr (.inr ())))
  fun BT =>
  some (.inl (U (d1+(1:Int)),au.set (0+d1.toNat) bp))
  else none
  else none
  else none
 else
  some (.inr (.inl au))
def IG (et:List gb)(dZ d1:Int)(au:List (Option bB)):Option (((List (Option bB)))⊕(Unit)):=iter (fun w:Int×(List (Option bB))=>xp et dZ w.1 w.2) (d1,au)
theorem Ug {et:List gb}{dZ d1:Int}{au:List (Option bB)}:b4 (xp et dZ d1 au) (fG bx 29 0 52 [1,1,0,1,0,0] (HZ et dZ (d1,au)) (HZ et dZ) (Ie et dZ)):=by
 unfold xp
 exact .ite (fun o =>
  .bl fun R =>
  .az fun aO aD =>
  .az fun bp bq =>
  .bl fun bQ =>
  .bl fun bn =>
  .az fun gy de =>
  (let t1:List cL:=[(ab 1),.al true,.aE (bT 2 (.cq (g7 aO)) 3),.aE (ae 3 (ai (bA 1 (dQ 3 bd bp) false) (ae 1 (ai .dh []))))];
  have a9:=((.bj o R.1 (en g7 R.2) (cz g7 aD) (VH bp bq) bQ.1 bQ.2 (hR (cN 3 bd) bn) (.dn (hG 1) bQ.1 bQ.2 (ow (gE (el (cN 3 bd) au) (0+d1.toNat) bp) de))):c3 _);
  .nd (fun cK =>
  .ret (b0 (t1.append [.aE (ae 3 (ai (.cq ((cN 3 bd) gy)) (ai (.fe 25 (.eP 3 none) .dh) []))),.al true,(ab 2),.bm [] [] (bY [2,3])]) (a9.aY (.aC (pX (sz:=3) (f:=bd) cK) bP))))
  (fun BT cK =>
  .ret (b0 (t1.append [.aE (ae 3 (ai (.cq ((cN 3 bd) gy)) (ai (.fe 25 (.eP 3 (some (bd BT))) .dh) []))),.al false,(ab 2),.bm [0] [.eg (ay 1 (cN 3 bd) (au.set (0+d1.toNat) bp))] [(4,ha ((au.set (0+d1.toNat) bp).length)),(10,ii),(11,ii),(12,ii)]]) (a9.aY (.dr (jd (sz:=3) (f:=bd) cK) dU (e6 1 .live (gE (el (cN 3 bd) au) (0+d1.toNat) bp)) (aG 1 .live (ms (sz:=3) kA) (au.set (0+d1.toNat) bp)) (gZ (fq au) (0+d1.toNat) bp)))))))
  (fun o =>
  .ret (b0 [(ab 1),.al false,.bm [0] [.pure] (bY [4])] (.aC o (aG 1 .live (ms (sz:=3) kA) au))))
theorem MW {et:List gb}{dZ d1:Int}{au:List (Option bB)}{r} (h:IG et dZ d1 au=some r):fH bx 29 0 52 [1,1,0,1,0,0] (HZ et dZ) (Ie et dZ) (d1,au) r:=fI (fun _=>Ug) h
def Ae (df:List gb):Option ((List (Option bB))×Bool) :=
 if 0≤(len_ g7 df)∧(8:Int)*(len_ g7 df)≤281474976710656∧(len_ g7 df)<9223372036854775808 then
 IG df (len_ g7 df) 0 (List.replicate (len_ g7 df).toNat (none:(Option bB)):List (Option bB)) >>= fun cb =>
 match cb with
 | .inl gq=>(some (gq,true))
 | .inr gq=>(some (([]:List (Option bB)),false))
 else none
theorem Vv {df:List gb}:b4 (Ae df) (fun r=>Con bx 52 [.isl 3 (df.map g7)] [] (.dB [.isl 1 (r.1.map (cN 3 bd)),.b r.2]) []):=by
 unfold Ae
 exact .bl fun o =>
  .az fun cb ad =>
  (let aW:=(List.replicate (len_ g7 df).toNat (none:(Option bB)):List (Option bB));let t1:List cL:=[(ab 2),.aE (bT 2 (.cq [(dQ 3 bd (none:(Option bB)))]) 1),(ab 3),.bm [4] [.eg (ay 1 (cN 3 bd) aW)] [(4,ha (aW.length)),(10,ii),(11,ii),(12,ii)]];
  have a9:=((.ff o.1 (Int.le_refl (len_ g7 df)) o.2.1 o.2.2 (e6 1 .live (lL (cN 3 bd) (len_ g7 df).toNat (none:(Option bB)))) (aG 1 .live (ms (sz:=3) kA) aW) (lY (len_ g7 df).toNat ((none:(Option bB)):(Option bB)))):c3 _);
  (by
  rcases cb with gq|gq
  ·exact (.ret (bM (t1.append [(Ie df (len_ g7 df) (.inl gq)).gC,(ab 3)]) (a9.aY (.dn (MW ad) (lh (cN 3 bd) gq) (kp (cN 3 bd) gq) (d3 (ms (sz:=3) kA) gq))) (.comp [.cx (.eU (gq.map (cN 3 bd))),.cx .id])))
  ·exact (.ret (bM (t1.append [.sub (.ret) [(2,.ex),(3,.b false)] []]) (a9.aY (.aw (MW ad))) (.comp [.cx (.lU 1),.cx .id])))))
def u2 (aI:ca)(gV:List gb):Option ((List (Option bB))×Bool) :=
 if ((len_ g7 gV) != (len_ db aI.b2))=true then
  some (([]:List (Option bB)),false)
 else
  pJ aI >>= fun cb =>
  if cb=true then
   Ae gV >>= fun bp =>
   some (bp.1,bp.2)
  else
   some (([]:List (Option bB)),false)
theorem Ig {aI:ca}{gV:List gb}:b4 (u2 aI gV) (fun r=>Con bx 22 [.eu 2 [(ga aI)] 0 0,.isl 3 (gV.map g7)] [] (.dB [.isl 1 (r.1.map (cN 3 bd)),.b r.2]) []):=by
 unfold u2
 exact .ite (fun o =>
  .ret (bM [(ab 2),.aE (ae 9 (cw 5 (ai (.al true) []))),.al true,(ab 2)] (.ff o o o o o o bP) (.comp [.cx (.lU 1),.cx .id])))
  (fun o =>
  .az fun cb ad =>
  (let t1:List cL:=[(ab 2),.aE (ae 12 (ai (bA 1 (.b cb) true) (ae 1 (ai (.al false) []))))];
  have a9:=((.gX o o o o (zE cb ad) (cf.b cb) o o):c3 _);
  .ite (fun aD =>
  .az fun bp bq =>
  .ret (bM (t1.append [.al false,.aE (bT 1 (bA 1 (.dB [.isl 1 (bp.1.map (cN 3 bd)),.b bp.2]) false) 4)]) (a9.aY (.aC (cR aD) (Vv bp bq)))))
  (fun aD =>
  .ret (bM (t1.append [.al true,(ab 2)]) (a9.aY (.aw (c2 aD))) (.comp [.cx (.lU 1),.cx .id])))))
def qN (a7 aV:Option bB):Option (Option bB) :=
 a7.elim
 (some (none:(Option bB)))
 fun d6 =>
 aV.elim
 (some (none:(Option bB)))
 fun ol =>
 xw a7 aV >>= fun bp =>
 tP bp >>= fun bH =>
 some bH
theorem tL {a7 aV:Option bB}:b4 (qN a7 aV) (fun r=>Con bx 24 [dQ 3 bd a7,dQ 3 bd aV] [] (dQ 3 bd r) []):=by
 unfold qN
 exact .nd (fun o =>
  .ret (bM [(ab 1),.aE (ae 1 (ai (.fe 5 (.eP 3 none) .dh) (ae 1 (cw 2 (ae 1 []))))),.al true,(ab 1)] (.dn (pX (sz:=3) (f:=bd) o) bP bP bP) (.bE (.cx (.oR 3)))))
  (fun d6 o =>
  (have b3:=((.b1 (jd (sz:=3) (f:=bd) o) dU dU):c3 _);
  .nd (fun ad =>
  .ret (bM [(ab 1),.aE (ae 1 (ai (.fe 5 (.eP 3 (some (bd d6))) .dh) (bT 2 (.fe 8 (.eP 3 none) .dh) 1))),.al true,(ab 1)] (b3.aY (.aC (pX (sz:=3) (f:=bd) ad) bP)) (.bE (.cx (.oR 3)))))
  (fun ol ad =>
  .az fun bp bq =>
  .az fun bH bn =>
  .ret (bM [(ab 1),.aE (ae 1 (ai (.fe 5 (.eP 3 (some (bd d6))) .dh) (bT 2 (.fe 8 (.eP 3 (some (bd ol))) .dh) 1))),.al false,.aE (ae 2 (ai (bA 2 (dQ 3 bd bp) false) (ai (bA 1 (dQ 3 bd bH) false) (ae 1 []))))] (b3.aY (.dn (jd (sz:=3) (f:=bd) ad) dU (MK bp bq) (I3 bH bn)))))))
def GN (cZ:List aU)(cD:List a5)(gV:List (Option bB))(kD iO:Int):((Option bB)×(Option bB)×Int)→S:=fun (b8,dL,ij)=>e2 [(0,.eu 2 [[.isl 4 (cZ.map dJ),.isl 3 (cD.map db)]] 0 0),(1,.isl 1 (gV.map (cN 3 bd))),(2,.n .i64 kD),(8,dQ 3 bd b8),(9,dQ 3 bd dL),(19,.isl 3 (cD.map db)),(20,.n .i64 iO),(21,.n .i64 ij)] []
def Mu (cZ:List aU)(cD:List a5)(gV:List (Option bB))(kD iO:Int):((Option bB)×(Option bB))→e5
 | a=>⟨some 0,[(8,dQ 3 bd a.1),(9,dQ 3 bd a.2)],[]⟩
def wZ (cZ:List aU)(cD:List a5)(gV:List (Option bB))(kD iO:Int)(b8 dL:Option bB)(ij:Int):Option (((Option bB)×(Option bB)×Int)⊕((Option bB)×(Option bB))) :=
 if (decide (ij<iO))=true then
  if 0≤ij∧ij<cD.length then
  cD[ij.toNat]? >>= fun aO =>
  oY (⟨cZ,cD⟩:ca) ij >>= fun bp =>
  if (kD == aO.c0)=true then
   if 0≤ij∧ij<gV.length then
   gV[ij.toNat]? >>= fun gy =>
   mn bp.1 >>= fun fk =>
   qN gy fk >>= fun fF =>
   o4 b8 fF >>= fun dY =>
   mn bp.2 >>= fun ft =>
   qN gy ft >>= fun e8 =>
   o4 dL e8 >>= fun fW =>
   some (.inl (dY,fW,U (ij+(1:Int))))
   else none
  else
   if (kD == aO.c1)=true then
    if 0≤ij∧ij<gV.length then
    gV[ij.toNat]? >>= fun jf =>
    mn (U (0-bp.1)) >>= fun cC =>
    qN jf cC >>= fun dm =>
    o4 b8 dm >>= fun cl =>
    mn (U (0-bp.2)) >>= fun ea =>
    qN jf ea >>= fun ir =>
    o4 dL ir >>= fun pz =>
    some (.inl (cl,pz,U (ij+(1:Int))))
    else none
   else
    some (.inl (b8,dL,U (ij+(1:Int))))
  else none
 else
  some (.inr (b8,dL))
def G7 (cZ:List aU)(cD:List a5)(gV:List (Option bB))(kD iO:Int)(b8 dL:Option bB)(ij:Int):Option ((Option bB)×(Option bB)):=iter (fun w:(Option bB)×(Option bB)×Int=>wZ cZ cD gV kD iO w.1 w.2.1 w.2.2) (b8,dL,ij)
theorem Tl {cZ:List aU}{cD:List a5}{gV:List (Option bB)}{kD iO:Int}{b8 dL:Option bB}{ij:Int}:b4 (wZ cZ cD gV kD iO b8 dL ij) (fG bx 66 0 49 [1,1,0,1,0,0] (GN cZ cD gV kD iO (b8,dL,ij)) (GN cZ cD gV kD iO) (Mu cZ cD gV kD iO)):=by
 unfold wZ
 exact .ite (fun o =>
  .bl fun R =>
  .az fun aO aD =>
  .az fun bp bq =>
  (let t1:List cL:=[(ab 1),.al true,.aE (bT 2 (.cq (db aO)) 3),.aE (bT 2 (bA 2 (.dB [.n .i64 bp.1,.n .i64 bp.2]) true) 5),(ab 1),(ab 4)];
  have a9:=((.eF o R.1 (en db R.2) (cz db aD) (GV bp bq) (JW (mr (cf.n .i64 bp.1) (mr (cf.n .i64 bp.2) ym)))):c3 _);
  .ite (fun bQ =>
  .bl fun bn =>
  .az fun gy de =>
  .az fun fk dc =>
  .az fun fF e9 =>
  .az fun dY gM =>
  .az fun ft ia =>
  .az fun e8 jJ =>
  .az fun fW hn =>
  .ret (b0 (t1.append [.al true,.aE (ae 4 (ai (.cq ((cN 3 bd) gy)) (ae 1 (ai (bA 1 (dQ 3 bd fk) false) (ai (bA 2 (dQ 3 bd fF) false) (ai (bA 2 (dQ 3 bd dY) false) (ae 1 []))))))),.aE (ae 4 (ai (.cq ((cN 3 bd) gy)) (ae 1 (ai (bA 1 (dQ 3 bd ft) false) (ai (bA 2 (dQ 3 bd e8) false) (ai (bA 2 (dQ 3 bd fW) false) (ae 1 []))))))),(ab 2),.bm [] [] (bY [0,1,2,8,9,19,20,21])]) (a9.aY (.bj bQ bn.1 (en (cN 3 bd) bn.2) (cz (cN 3 bd) de) (o2 fk dc) (tL fF e9) (tK dY gM) bn.1 (.dr (en (cN 3 bd) bn.2) (cz (cN 3 bd) de) (o2 ft ia) (tL e8 jJ) (tK fW hn))))))
  (fun bQ =>
  .ite (fun bn =>
  .bl fun cA =>
  .az fun jf cK =>
  .az fun cC dT =>
  .az fun dm fZ =>
  .az fun cl gx =>
  .az fun ea j7 =>
  .az fun ir lS =>
  .az fun pz je =>
  .ret (b0 (t1.append [.al false,(ab 4),.al true,(ab 6),.aE (ae 4 (ai (.cq ((cN 3 bd) jf)) (ae 1 (ai (bA 1 (dQ 3 bd cC) false) (ai (bA 2 (dQ 3 bd dm) false) (ai (bA 2 (dQ 3 bd cl) false) (ae 1 []))))))),.aE (ae 4 (ai (.cq ((cN 3 bd) jf)) (ae 1 (ai (bA 1 (dQ 3 bd ea) false) (ai (bA 2 (dQ 3 bd ir) false) (ai (bA 2 (dQ 3 bd pz) false) (ae 1 []))))))),(ab 2),.bm [] [] (bY [0,1,2,8,9,19,20,21])]) (a9.aY (.bj bQ bn cA.1 (en (cN 3 bd) cA.2) (cz (cN 3 bd) cK) (o2 cC dT) (tL dm fZ) (tK cl gx) (.eF cA.1 (en (cN 3 bd) cA.2) (cz (cN 3 bd) cK) (o2 ea j7) (tL ir lS) (tK pz je))))))
  (fun bn =>
  .ret (b0 (t1.append [.al false,(ab 4),.al false,(ab 2),.bm [] [] (bY [0,1,2,8,9,19,20,21])]) (a9.aY (.aC bQ bn)))))))
  (fun o =>
  .ret (b0 [(ab 1),.al false,.bm [] [] (bY [8,9])] (.aw o)))
theorem TG {cZ:List aU}{cD:List a5}{gV:List (Option bB)}{kD iO:Int}{b8 dL:Option bB}{ij:Int}{r} (h:G7 cZ cD gV kD iO b8 dL ij=some r):fH bx 66 0 49 [1,1,0,1,0,0] (GN cZ cD gV kD iO) (Mu cZ cD gV kD iO) (b8,dL,ij) r:=fI (fun _=>Tl) h
def zG (aI:ca)(gV:List (Option bB))(kD:Int):Option ((Option bB)×(Option bB)) :=
 mn 0 >>= fun an =>
 G7 aI.c7 aI.b2 gV kD (len_ db aI.b2) an an 0 >>= fun aZ =>
 some (aZ.1,aZ.2)
theorem Ua {aI:ca}{gV:List (Option bB)}{kD:Int}:b4 (zG aI gV kD) (fun r=>Con bx 49 [.eu 2 [(ga aI)] 0 0,.isl 1 (gV.map (cN 3 bd)),.n .i64 kD] [] (.dB [dQ 3 bd r.1,dQ 3 bd r.2]) []):=by
 unfold zG
 exact .az fun an R =>
  .az fun aZ aD =>
  .ret (bM [(ab 2),.aE (ai (bA 1 (dQ 3 bd an) false) (ai (bA 1 (dQ 3 bd an) false) (ae 2 []))),(ab 6),.bm [] [] (bY [0,1,2,8,9,19,20,21]),.sub (.exit 0) [(8,dQ 3 bd aZ.1),(9,dQ 3 bd aZ.2)] [],(ab 4)] (.b1 (o2 an R) (o2 an R) (TG aD)))
def r3 (b8:Option bB):Option Int :=
 b8 >>= fun fh =>
 o1 fh.qo >>= fun aZ =>
 some aZ
theorem zJ {b8:Option bB}:b4 (r3 b8) (fun r=>Con bx 23 [(dQ 3 bd b8)] [] (.n .i64 r) []):=by
 unfold r3
 exact .az fun fh R =>
  .az fun aZ aD =>
  .ret (bM [(ab 1),.aE (ae 1 (ai (.fe 3 (.eP 3 (some (bd fh))) .dh) (bT 2 (bA 1 (.n .i64 aZ) true) 1)))] (.b1 (jd (sz:=3) (f:=bd) R) (sC aZ aD) (cf.n .i64 aZ)))
def z6 (b8:Option bB):Option Bool :=
 b8.elim
 (some false)
 fun d6 =>
 r3 b8 >>= fun aZ =>
 some (aZ == (0:Int))
theorem M9 {b8:Option bB}:b4 (z6 b8) (fun r=>Con bx 50 [(dQ 3 bd b8)] [] (.b r) []):=by
 unfold z6
 exact .nd (fun o =>
  .ret (bM [(ab 1),.aE (ae 1 (ai (.fe 3 (.eP 3 none) .dh) (ae 1 (cw 3 (ae 2 [])))))] (.dn (pX (sz:=3) (f:=bd) o) dU dU dU)))
  (fun d6 o =>
  .az fun aZ aD =>
  .ret (bM [(ab 1),.aE (ae 1 (ai (.fe 3 (.eP 3 (some (bd d6))) .dh) (bT 2 (bA 1 (.n .i64 aZ) true) 3)))] (.eF (jd (sz:=3) (f:=bd) o) bP bP (zJ aZ aD) (cf.n .i64 aZ) bP)))
def G0 (cy:List Int)(fm:List (Option bB))(iM:List Int)(dy:Int)(a8:List aU)(aH:List a5):Int→S:=fun dK=>e2 [(1,.isl 1 (cy.map J)),(3,.ref 0 0 0 0),(7,.isl 1 (fm.map (cN 3 bd))),(25,.isl 1 (iM.map J)),(26,.n .i64 dy),(27,.n .i64 dK)] [[af.mk 2 [[.isl 4 (a8.map dJ),.isl 3 (aH.map db)]] .iC]]
def MA (cy:List Int)(fm:List (Option bB))(iM:List Int)(dy:Int)(a8:List aU)(aH:List a5):((Unit)⊕(Unit))→e5
 | .inl a=>⟨some 0,[],[]⟩
 | .inr a=>⟨none,[(6,.b false)],[]⟩
def w3 (cy:List Int)(fm:List (Option bB))(iM:List Int)(dy:Int)(a8:List aU)(aH:List a5)(dK:Int):Option ((Int)⊕((Unit)⊕(Unit))) :=
 if (decide (dK<dy))=true then
  if 0≤dK∧dK<iM.length then
  iM[dK.toNat]? >>= fun aO =>
  zG (⟨a8,aH⟩:ca) fm aO >>= fun bp =>
  if 0≤(U ((2:Int)*aO))∧(U ((2:Int)*aO))<cy.length then
  cy[(U ((2:Int)*aO)).toNat]? >>= fun kx =>
  mn kx >>= fun fL =>
  o4 bp.1 fL >>= fun cC =>
  z6 cC >>= fun dm =>
  if dm=true then
   if 0≤(U ((U ((2:Int)*aO))+(1:Int)))∧(U ((U ((2:Int)*aO))+(1:Int)))<cy.length then
   cy[(U ((U ((2:Int)*aO))+(1:Int))).toNat]? >>= fun uz =>
   mn uz >>= fun ir =>
   o4 bp.2 ir >>= fun pz =>
   z6 pz >>= fun lc =>
   if lc=true then
    some (.inl (U (dK+(1:Int))))
   else
    some (.inr (.inr ()))
   else none
  else
   some (.inr (.inr ()))
  else none
  else none
 else
  some (.inr (.inl ()))
def H0 (cy:List Int)(fm:List (Option bB))(iM:List Int)(dy:Int)(a8:List aU)(aH:List a5)(dK:Int):Option ((Unit)⊕(Unit)):=iter (fun w:Int=>w3 cy fm iM dy a8 aH w) dK
theorem TC {cy:List Int}{fm:List (Option bB)}{iM:List Int}{dy:Int}{a8:List aU}{aH:List a5}{dK:Int}:b4 (w3 cy fm iM dy a8 aH dK) (fG bx 61 0 20 [1,1,1,0,1,0,0] (G0 cy fm iM dy a8 aH dK) (G0 cy fm iM dy a8 aH) (MA cy fm iM dy a8 aH)):=by
 unfold w3
 exact .ite (fun o =>
  .bl fun R =>
  .az fun aO aD =>
  .az fun bp bq =>
  .bl fun bQ =>
  .az fun kx cA =>
  .az fun fL cK =>
  .az fun cC dT =>
  .az fun dm fZ =>
  (let t1:List cL:=[(ab 1),.al true,.aE (bT 1 (.cq (J aO)) 1),.aE (bT 2 (.call {ac:=[.bE (.ptr [.id,.id]),ii,ii],r:= .dB [dQ 3 bd bp.1,dQ 3 bd bp.2],dD:=false,dG:=[0]}) 5)];
  have a9:=((.bj o R.1 (en J R.2) (cz J aD) (jA (mm (⟨a8,aH⟩:ca)):gr [[.isl 4 (a8.map dJ),.isl 3 (aH.map db)]]) (Ua bp bq) bQ.1 (en J bQ.2) (.dr (cz J cA) (o2 fL cK) (tK cC dT) (M9 dm fZ) (cf.b dm))):c3 _);
  .ite (fun gM =>
  .bl fun gx =>
  .az fun uz j7 =>
  .az fun ir lS =>
  .az fun pz je =>
  .az fun lc kj =>
  (let t3:List cL:=t1.append [.aE (ae 5 (ai (.cq (J kx)) (ai (bA 1 (dQ 3 bd fL) false) (ai (bA 2 (dQ 3 bd cC) false) (ai (bA 1 (.b dm) true) (ae 8 (ai (.cq (J uz)) (ai (bA 1 (dQ 3 bd ir) false) (ai (bA 2 (dQ 3 bd pz) false) (ai (bA 1 (.b lc) true) (ae 1 (ai (.al false) []))))))))))))];
  have fv:=a9.aY (.bj (cR gM) (cR gM) (cR gM) (cR gM) (cR gM) (cR gM) gx.1 (en J gx.2) (.bj (cR gM) (cz J j7) (cR gM) (o2 ir lS) (cR gM) (tK pz je) (cR gM) (M9 lc kj) (.b1 (cf.b lc) (cR gM) (cR gM))));
  .ite (fun qy =>
  .ret (b0 (t3.append [.al false,(ab 2),.bm [0] [.box [.id,.id]] (bY [1,3,7,25,26,27])]) (fv.aY (.aw (cR qy)))))
  (fun qy =>
  .ret (b0 (t3.append [.al true,(ab 1),.bm [] [] (bY [6])]) (fv.aY (.aw (c2 qy)))))))
  (fun gM =>
  .ret (b0 (t1.append [.aE (ae 5 (ai (.cq (J kx)) (ai (bA 1 (dQ 3 bd fL) false) (ai (bA 2 (dQ 3 bd cC) false) (ai (bA 1 (.b dm) true) (ae 2 (cw 11 (ai (.al true) [])))))))),.al true,(ab 1),.bm [] [] (bY [6])]) (a9.aY (.bj (c2 gM) (c2 gM) (c2 gM) (c2 gM) (c2 gM) (c2 gM) (c2 gM) (c2 gM) (.dr (c2 gM) (c2 gM) (c2 gM) (c2 gM) bP)))))))
  (fun o =>
  .ret (b0 [(ab 1),.al false,.bm [] [] []] (.aw o)))
theorem MB {cy:List Int}{fm:List (Option bB)}{iM:List Int}{dy:Int}{a8:List aU}{aH:List a5}{dK:Int}{r} (h:H0 cy fm iM dy a8 aH dK=some r):fH bx 61 0 20 [1,1,1,0,1,0,0] (G0 cy fm iM dy a8 aH) (MA cy fm iM dy a8 aH) dK r:=fI (fun _=>TC) h
def zO (aI:ca)(cy:List Int)(gV:List gb):Option Bool :=
 u2 aI gV >>= fun an =>
 if an.2=true then
  sJ aI cy >>= fun bz =>
  if bz=true then
   uR aI >>= fun bH =>
   H0 cy an.1 bH (len_ J bH) aI.c7 aI.b2 0 >>= fun bs =>
   match bs with
   | .inl vX=>(some true)
   | .inr vX=>(some false)
  else
   some false
 else
  some false
theorem UJ {aI:ca}{cy:List Int}{gV:List gb}:b4 (zO aI cy gV) (fun r=>Con bx 20 [.agg (ga aI),.isl 1 (cy.map J),.isl 3 (gV.map g7)] [] (.b r) []):=by
 unfold zO
 exact .az fun an R =>
  (let t1:List cL:=[(ab 2),.iC 0,.aE (bT 1 (.call {ac:=[.bE (.ptr [.id,.id]),ii],r:= .dB [.isl 1 (an.1.map (cN 3 bd)),.b an.2],dD:=false,dG:=[0]}) 5)];
  have a9:=((.aC (jA (mm aI):gr [(ga aI)]) (Ig an R)):c3 _);
  .ite (fun ad =>
  .az fun bz aM =>
  (let t3:List cL:=t1.append [.aE (ae 4 (ai (.call {ac:=[.bE (.ptr [.id,.id]),ii],r:= .b bz,dD:=true,dG:=[0]}) (ae 1 (ai (.al false) []))))];
  have fv:=a9.aY (.ff (cR ad) (cR ad) (jA (mm aI):gr [(ga aI)]) (MT bz aM) (cf.b bz) (cR ad) (cR ad));
  .ite (fun bq =>
  .az fun bH bn =>
  .az fun bs de =>
  (let t5:List cL:=t3.append [.al false,.aE (ai (.call {ac:=[.bE (.ptr [.id,.id])],r:= .isl 1 (bH.map J),dD:=false,dG:=[0]}) (ae 2 [])),.bm [0] [.box [.id,.id]] (bY [1,3,7,25,26,27])];
  have jj:=fv.aY (.b1 (cR bq) (jA (mm aI):gr [(ga aI)]) (Gv bH bn));
  (by
  rcases bs with vX|vX
  ·exact (.ret (bM (t5.append [.sub (.exit 0) [] [],(ab 1)]) (jj.aY (.aw (MB de)))))
  ·exact (.ret (bM (t5.append [.sub (.ret) [(6,.b false)] []]) (jj.aY (.aw (MB de))))))))
  (fun bq =>
  .ret (bM (t3.append [.al true,(ab 1)]) (fv.aY (.aw (c2 bq)))))))
  (fun ad =>
  .ret (bM (t1.append [.aE (ae 3 (cw 3 (ai (.al true) []))),.al true,(ab 1)]) (a9.aY (.dr (c2 ad) (c2 ad) (c2 ad) (c2 ad) bP)))))
def Hb (fm:List (Option bB))(gn:List a5)(po:Int):Int→S:=fun iO=>e2 [(5,.isl 1 (fm.map (cN 3 bd))),(18,.isl 3 (gn.map db)),(19,.n .i64 po),(20,.n .i64 iO)] []
def MF (fm:List (Option bB))(gn:List a5)(po:Int):((Unit)⊕(Unit))→e5
 | .inl a=>⟨some 0,[],[]⟩
 | .inr a=>⟨none,[(4,.b false)],[]⟩
def w7 (fm:List (Option bB))(gn:List a5)(po iO:Int):Option ((Int)⊕((Unit)⊕(Unit))) :=
 if (decide (iO<po))=true then
  if 0≤iO∧iO<gn.length then
  gn[iO.toNat]? >>= fun aO =>
  if 0≤iO∧iO<fm.length then
  fm[iO.toNat]? >>= fun bO =>
  r3 bO >>= fun fz =>
  if (aO.h8 == (1:Int))=true then
   if (decide (fz<(0:Int)))=true then
    some (.inr (.inr ()))
   else
    if (aO.h8 == (2:Int))=true then
     if (decide ((0:Int)<fz))=true then
      some (.inr (.inr ()))
     else
      some (.inl (U (iO+(1:Int))))
    else
     some (.inl (U (iO+(1:Int))))
  else
   if (aO.h8 == (2:Int))=true then
    if (decide ((0:Int)<fz))=true then
     some (.inr (.inr ()))
    else
     some (.inl (U (iO+(1:Int))))
   else
    some (.inl (U (iO+(1:Int))))
  else none
  else none
 else
  some (.inr (.inl ()))
def Il (fm:List (Option bB))(gn:List a5)(po iO:Int):Option ((Unit)⊕(Unit)):=iter (fun w:Int=>w7 fm gn po w) iO
theorem TK {fm:List (Option bB)}{gn:List a5}{po iO:Int}:b4 (w7 fm gn po iO) (fG bx 47 0 21 [1,1,1,0,1,0,0] (Hb fm gn po iO) (Hb fm gn po) (MF fm gn po)):=by
 unfold w7
 exact .ite (fun o =>
  .bl fun R =>
  .az fun aO aD =>
  .bl fun aM =>
  .az fun bO bQ =>
  .az fun fz cA =>
  (let t1:List cL:=[(ab 1),.al true,.aE (bT 2 (.cq (db aO)) 3),.aE (ae 3 (ai (.cq ((cN 3 bd) bO)) (ai (bA 1 (.n .i64 fz) true) (ae 1 []))))];
  have a9:=((.bj o R.1 (en db R.2) (cz db aD) aM.1 (en (cN 3 bd) aM.2) (cz (cN 3 bd) bQ) (zJ fz cA) (.aw (cf.n .i64 fz))):c3 _);
  .ite (fun de =>
  .ite (fun cK =>
  .ret (b0 (t1.append [.aE (ae 6 (ai (.al true) (ae 1 (cw 4 (ae 2 (cw 1 (ai (.al true) []))))))),.al true,(ab 1),.bm [] [] (bY [4])]) (a9.aY (.bj de de de cK cK cK cK cK (.aC cK bP)))))
  (fun cK =>
  (have fR:=a9.aY (.ff de de de cK cK cK cK);
  .ite (fun dc =>
  (let t4:List cL:=t1.append [.aE (ae 6 (ai (.al true) (ae 7 (ai (.al true) (ai (.al false) [])))))];
  .ite (fun dT =>
  .ret (b0 (t4.append [.al true,(ab 1),.bm [] [] (bY [4])]) (fR.aY (.eF dc dc cK dc cK dT))))
  (fun dT =>
  .ret (b0 (t4.append [.al false,(ab 2),.bm [] [] (bY [5,18,19,20])]) (fR.aY (.eF dc dc cK dc cK dT))))))
  (fun dc =>
  .ret (b0 (t1.append [.aE (ae 6 (ai (.al true) (ae 5 (cw 2 (ai (.al false) (ai (.al false) [])))))),.al false,(ab 2),.bm [] [] (bY [5,18,19,20])]) (fR.aY (.eF dc dc cK dc cK dU)))))))
  (fun de =>
  .ite (fun cK =>
  (let t3:List cL:=t1.append [.aE (ae 4 (cw 2 (ai (.al false) (bT 7 (.al true) 1))))];
  have fv:=a9.aY (.bj de de de dU dU dU dU cK (.b1 cK dU cK));
  .ite (fun dc =>
  .ret (b0 (t3.append [.al true,(ab 1),.bm [] [] (bY [4])]) (fv.aY (.aw dc))))
  (fun dc =>
  .ret (b0 (t3.append [.al false,(ab 2),.bm [] [] (bY [5,18,19,20])]) (fv.aY (.aw dc))))))
  (fun cK =>
  .ret (b0 (t1.append [.aE (ae 4 (cw 2 (ai (.al false) (ae 5 (cw 2 (ai (.al false) (ae 1 []))))))),.al false,(ab 2),.bm [] [] (bY [5,18,19,20])]) (a9.aY (.bj de de de dU dU dU dU cK (.dn cK dU cK dU))))))))
  (fun o =>
  .ret (b0 [(ab 1),.al false,.bm [] [] []] (.aw o)))
theorem ML {fm:List (Option bB)}{gn:List a5}{po iO:Int}{r} (h:Il fm gn po iO=some r):fH bx 47 0 21 [1,1,1,0,1,0,0] (Hb fm gn po) (MF fm gn po) iO r:=fI (fun _=>TK) h
def zT (aI:ca)(gV:List gb):Option Bool :=
 u2 aI gV >>= fun an =>
 if an.2=true then
  Il an.1 aI.b2 (len_ db aI.b2) 0 >>= fun bz =>
  match bz with
  | .inl wt=>(some true)
  | .inr wt=>(some false)
 else
  some false
theorem U1 {aI:ca}{gV:List gb}:b4 (zT aI gV) (fun r=>Con bx 21 [.agg (ga aI),.isl 3 (gV.map g7)] [] (.b r) []):=by
 unfold zT
 exact .az fun an R =>
  (let t1:List cL:=[(ab 2),.iC 0,.aE (bT 1 (.call {ac:=[.bE (.ptr [.id,.id]),ii],r:= .dB [.isl 1 (an.1.map (cN 3 bd)),.b an.2],dD:=false,dG:=[0]}) 5),(ab 2)];
  have a9:=((.aC (jA (mm aI):gr [(ga aI)]) (Ig an R)):c3 _);
  .ite (fun ad =>
  .az fun bz aM =>
  (let t3:List cL:=t1.append [.al false,(ab 4),.bm [] [] (bY [5,18,19,20])];
  (by
  rcases bz with wt|wt
  ·exact (.ret (bM (t3.append [.sub (.exit 0) [] [],(ab 1)]) (a9.aY (.aC (cR ad) (ML aM)))))
  ·exact (.ret (bM (t3.append [.sub (.ret) [(4,.b false)] []]) (a9.aY (.aC (cR ad) (ML aM))))))))
  (fun ad =>
  .ret (bM (t1.append [.al true,(ab 1)]) (a9.aY (.aw (c2 ad))))))
def C1 (aI:ca)(cy:List Int)(gV:List gb):Option Bool :=
 zO aI cy gV >>= fun an =>
 if an=true then
  zT aI gV >>= fun bz =>
  some bz
 else
  some false
theorem Uh {aI:ca}{cy:List Int}{gV:List gb}:b4 (C1 aI cy gV) (fun r=>Con bx 7 [.agg (ga aI),.isl 1 (cy.map J),.isl 3 (gV.map g7)] [] (.b r) []):=by
 unfold C1
 exact .az fun an R =>
  (have b3:=((.aC (UJ an R) (cf.b an)):c3 _);
  .ite (fun ad =>
  .az fun bz aM =>
  .ret (bM [(ab 2),.aE (ae 3 (ai (bA 3 (.b an) true) (ae 3 (ai (bA 2 (.b bz) true) (ai (.al true) (ae 1 []))))))] (b3.aY (.eF ad ad ad (U1 bz aM) (cf.b bz) ad))))
  (fun ad =>
  .ret (bM [(ab 2),.aE (ae 3 (ai (bA 3 (.b an) true) (ae 1 (cw 3 (ai (.al false) (ae 1 []))))))] (b3.aY (.dn ad ad ad ad)))))
def zM (b8 dL:Option bB):Option (Option bB) :=
 dL >>= fun fh =>
 qI b8 fh.oJ >>= fun aZ =>
 b8 >>= fun lH =>
 qI dL lH.oJ >>= fun bH =>
 sE aZ bH >>= fun bs =>
 pM lH.oJ fh.oJ >>= fun fk =>
 qa bs fk >>= fun fF =>
 some fF
theorem Ur {b8 dL:Option bB}:b4 (zM b8 dL) (fun r=>Con bx 58 [dQ 3 bd b8,dQ 3 bd dL] [] (dQ 3 bd r) []):=by
 unfold zM
 exact .az fun fh R =>
  .az fun aZ aD =>
  .az fun lH bq =>
  .az fun bH bn =>
  .az fun bs de =>
  .az fun fk dc =>
  .az fun fF e9 =>
  .ret (bM [(ab 1),.aE (ae 2 (ai (.fe 6 (.eP 3 (some (bd fh))) .dh) (ae 2 (ai (bA 2 (.agg (aN aZ)) false) (ae 2 (ai (.fe 12 (.eP 3 (some (bd lH))) .dh) (ae 2 (ai (bA 2 (.agg (aN bH)) false) (ai (bA 2 (.agg (aN bs)) false) (ae 1 (ai (.fe 18 (.eP 3 (some (bd lH))) .dh) (ae 3 (ai (.fe 22 (.eP 3 (some (bd fh))) .dh) (ae 2 (ai (bA 2 (.isl 1 (fk.map J)) false) (ai (bA 2 (dQ 3 bd fF) false) (ae 1 [])))))))))))))))))] (.bj (jd (sz:=3) (f:=bd) R) (CT aZ aD) (jd (sz:=3) (f:=bd) bq) (CT bH bn) (Hg bs de) (jd (sz:=3) (f:=bd) bq) (jd (sz:=3) (f:=bd) R) (zR fk dc) (.aw (Dn fF e9))))
def D3 (a7 aV:Option bB):Option (Option bB) :=
 a7.elim
 (some (none:(Option bB)))
 fun d6 =>
 aV.elim
 (some (none:(Option bB)))
 fun ol =>
 zM a7 aV >>= fun bp =>
 tP bp >>= fun bH =>
 some bH
theorem V5 {a7 aV:Option bB}:b4 (D3 a7 aV) (fun r=>Con bx 28 [dQ 3 bd a7,dQ 3 bd aV] [] (dQ 3 bd r) []):=by
 unfold D3
 exact .nd (fun o =>
  .ret (bM [(ab 1),.aE (ae 1 (ai (.fe 5 (.eP 3 none) .dh) (ae 1 (cw 2 (ae 1 []))))),.al true,(ab 1)] (.dn (pX (sz:=3) (f:=bd) o) bP bP bP) (.bE (.cx (.oR 3)))))
  (fun d6 o =>
  (have b3:=((.b1 (jd (sz:=3) (f:=bd) o) dU dU):c3 _);
  .nd (fun ad =>
  .ret (bM [(ab 1),.aE (ae 1 (ai (.fe 5 (.eP 3 (some (bd d6))) .dh) (bT 2 (.fe 8 (.eP 3 none) .dh) 1))),.al true,(ab 1)] (b3.aY (.aC (pX (sz:=3) (f:=bd) ad) bP)) (.bE (.cx (.oR 3)))))
  (fun ol ad =>
  .az fun bp bq =>
  .az fun bH bn =>
  .ret (bM [(ab 1),.aE (ae 1 (ai (.fe 5 (.eP 3 (some (bd d6))) .dh) (bT 2 (.fe 8 (.eP 3 (some (bd ol))) .dh) 1))),.al false,.aE (ae 2 (ai (bA 2 (dQ 3 bd bp) false) (ai (bA 1 (dQ 3 bd bH) false) (ae 1 []))))] (b3.aY (.dn (jd (sz:=3) (f:=bd) ad) dU (Ur bp bq) (I3 bH bn)))))))
def xv (b8 dL:Option bB)(cx:bu):Option Bool :=
 mn cx.dX >>= fun an =>
 qN an b8 >>= fun aZ =>
 mn cx.dW >>= fun bp =>
 qN bp dL >>= fun bH =>
 D3 aZ bH >>= fun bs =>
 bs.elim
 (some false)
 fun BT =>
 r3 bs >>= fun fF =>
 some (decide (fF≤(0:Int)))
theorem MG {b8 dL:Option bB}{cx:bu}:b4 (xv b8 dL cx) (fun r=>Con bx 27 [dQ 3 bd b8,dQ 3 bd dL,.eu 4 [(cG cx)] 0 0] [] (.b r) []):=by
 unfold xv
 exact .az fun an R =>
  .az fun aZ aD =>
  .az fun bp bq =>
  .az fun bH bn =>
  .az fun bs de =>
  (let t1:List cL:=[(ab 1),.aE (ae 2 (ai (bA 1 (dQ 3 bd an) false) (ae 1 (ai (bA 2 (dQ 3 bd aZ) false) (ae 2 (ai (bA 1 (dQ 3 bd bp) false) (ae 1 (ai (bA 2 (dQ 3 bd bH) false) (ai (bA 2 (dQ 3 bd bs) false) (ae 1 []))))))))))];
  have a9:=((.dr (o2 an R) (tL aZ aD) (o2 bp bq) (tL bH bn) (V5 bs de)):c3 _);
  .nd (fun cK =>
  .ret (bM (t1.append [.aE (ae 1 (ai (.fe 18 (.eP 3 none) .dh) (ae 1 (cw 3 (ae 2 [])))))]) (a9.aY (.dn (pX (sz:=3) (f:=bd) cK) dU dU dU))))
  (fun BT cK =>
  .az fun fF e9 =>
  .ret (bM (t1.append [.aE (ae 1 (ai (.fe 18 (.eP 3 (some (bd BT))) .dh) (bT 2 (bA 1 (.n .i64 fF) true) 3)))]) (a9.aY (.eF (jd (sz:=3) (f:=bd) cK) bP bP (zJ fF e9) (cf.n .i64 fF) bP)))))
def zP (aI:ca)(aV:bu)(gV:List gb):Option Bool :=
 u2 aI gV >>= fun an =>
 if an.2=true then
  sL aI aV >>= fun bz =>
  if bz=true then
   if 0≤aV.c0∧aV.c0<an.1.length then
   an.1[aV.c0.toNat]? >>= fun kx =>
   r3 kx >>= fun fL =>
   if (decide (fL<(0:Int)))=true then
    some false
   else
    if 0≤aV.c1∧aV.c1<an.1.length then
    an.1[aV.c1.toNat]? >>= fun eG =>
    r3 eG >>= fun cl =>
    if (decide (cl<(0:Int)))=true then
     some false
    else
     ml aI aV.c0 >>= fun e8 =>
     mn e8 >>= fun fW =>
     qN kx fW >>= fun la =>
     ml aI aV.c1 >>= fun rb =>
     mn rb >>= fun sr =>
     qN eG sr >>= fun BU =>
     xv la BU aV >>= fun zb =>
     if zb=true then
      xv BU la aV >>= fun BV =>
      some BV
     else
      some false
    else none
   else none
  else
   some false
 else
  some false
theorem UK {aI:ca}{aV:bu}{gV:List gb}:b4 (zP aI aV gV) (fun r=>Con bx 8 [.agg (ga aI),.agg (cG aV),.isl 3 (gV.map g7)] [] (.b r) []):=by
 unfold zP
 exact .az fun an R =>
  (let t1:List cL:=[(ab 3),.iC 0,.aE (bT 1 (.call {ac:=[.bE (.ptr [.id,.id]),ii],r:= .dB [.isl 1 (an.1.map (cN 3 bd)),.b an.2],dD:=false,dG:=[0]}) 5)];
  have a9:=((.aC (jA (mm aI):gr [(ga aI)]) (Ig an R)):c3 _);
  .ite (fun ad =>
  .az fun bz aM =>
  (have fR:=a9.aY (.ff (cR ad) (cR ad) (cR ad) (Db bz aM) (cf.b bz) (cR ad) (cR ad));
  .ite (fun bq =>
  .bl fun bQ =>
  .az fun kx cA =>
  .az fun fL cK =>
  (have fv:=fR.aY (.bj (cR bq) (cR bq) (cR bq) (cR bq) bQ.1 (en (cN 3 bd) bQ.2) (cR bq) (cz (cN 3 bd) cA) (.dr (cR bq) (zJ fL cK) (cf.n .i64 fL) (cR bq) (cR bq)));
  .ite (fun dc =>
  .ret (bM (t1.append [.aE (ae 5 (ai (bA 2 (.b bz) true) (ae 1 (ai (.al false) (ae 5 (ai (.cq ((cN 3 bd) kx)) (ai (bA 1 (.n .i64 fL) true) (ae 1 (ai (.al false) (ae 1 (cw 7 (ai (.al true) [])))))))))))),.al true,(ab 1)]) (fv.aY (.bj dc dc dc dc dc dc dc dc (.aw bP)))))
  (fun dc =>
  .bl fun dT =>
  .az fun eG fZ =>
  .az fun cl gx =>
  (let t5:List cL:=t1.append [.aE (ae 5 (ai (bA 2 (.b bz) true) (ae 1 (ai (.al false) (ae 5 (ai (.cq ((cN 3 bd) kx)) (ai (bA 1 (.n .i64 fL) true) (ae 1 (ai (.al false) (ae 5 (ai (.cq ((cN 3 bd) eG)) (ai (bA 1 (.n .i64 cl) true) (ae 1 (ai (.al false) []))))))))))))))];
  have jj:=fv.aY (.bj dc dc dc dc dT.1 (en (cN 3 bd) dT.2) dc (cz (cN 3 bd) fZ) (.dr dc (zJ cl gx) (cf.n .i64 cl) dc dc));
  .ite (fun ia =>
  .ret (bM (t5.append [.al true,(ab 1)]) (jj.aY (.aw ia))))
  (fun ia =>
  .az fun e8 jJ =>
  .az fun fW hn =>
  .az fun la oP =>
  .az fun rb qy =>
  .az fun sr oe =>
  .az fun BU kk =>
  .az fun zb hd =>
  (let t7:List cL:=t5.append [.al false,.aE (ae 4 (ai (.cq ((cN 3 bd) kx)) (ae 2 (ai (.call {ac:=[.bE (.ptr [.id,.id]),ii],r:= .n .i64 e8,dD:=true,dG:=[0]}) (ai (bA 1 (dQ 3 bd fW) false) (ai (bA 2 (dQ 3 bd la) false) (ae 1 []))))))),.aE (ae 4 (ai (.cq ((cN 3 bd) eG)) (ae 2 (ai (.call {ac:=[.bE (.ptr [.id,.id]),ii],r:= .n .i64 rb,dD:=true,dG:=[0]}) (ai (bA 1 (dQ 3 bd sr) false) (ai (bA 2 (dQ 3 bd BU) false) (ae 1 []))))))),(ab 2)];
  have Cr:=jj.aY (.bj ia bQ.1 (en (cN 3 bd) bQ.2) (cz (cN 3 bd) cA) (jA (mm aI):gr [(ga aI)]) (sA e8 jJ) (cf.n .i64 e8) (o2 fW hn) (.bj (tL la oP) dT.1 (en (cN 3 bd) dT.2) (cz (cN 3 bd) fZ) (jA (mm aI):gr [(ga aI)]) (sA rb qy) (cf.n .i64 rb) (o2 sr oe) (.dn (tL BU kk) (jA (nM aV):gr [(cG aV)]) (MG zb hd) (cf.b zb))));
  .ite (fun rQ =>
  .az fun BV pZ =>
  .ret (bM (t7.append [.aE (ae 3 (ai (.call {ac:=[ii,ii,.bE (.ptr [.id,.id,.id,.id])],r:= .b zb,dD:=true,dG:=[1]}) (ae 4 (ai (.call {ac:=[ii,ii,.bE (.ptr [.id,.id,.id,.id])],r:= .b BV,dD:=true,dG:=[1]}) (ai (.al true) (ae 1 []))))))]) (Cr.aY (.gX rQ rQ rQ rQ (jA (nM aV):gr [(cG aV)]) (MG BV pZ) (cf.b BV) rQ))))
  (fun rQ =>
  .ret (bM (t7.append [.aE (ae 3 (ai (.call {ac:=[ii,ii,.bE (.ptr [.id,.id,.id,.id])],r:= .b zb,dD:=true,dG:=[1]}) (ae 1 (cw 4 (ai (.al false) (ae 1 []))))))]) (Cr.aY (.dr rQ rQ rQ rQ rQ))))))))))
  (fun bq =>
  .ret (bM (t1.append [.aE (ae 5 (ai (bA 2 (.b bz) true) (ae 1 (ai (.al false) (ae 1 (cw 7 (ai (.al true) (ae 1 (cw 7 (ae 1 [])))))))))),.al true,(ab 1)]) (fR.aY (.bj (c2 bq) (c2 bq) (c2 bq) (c2 bq) (c2 bq) (c2 bq) (c2 bq) (c2 bq) (.gX bP bP bP bP bP bP bP bP)))))))
  (fun ad =>
  .ret (bM (t1.append [.aE (ae 3 (cw 4 (ai (.al true) (ae 1 (cw 7 (ae 2 (cw 7 (ae 1 [])))))))),.al true,(ab 1)]) (a9.aY (.bj (c2 ad) (c2 ad) (c2 ad) (c2 ad) (c2 ad) bP bP bP (.bj bP bP bP bP bP bP bP bP (.dn bP bP bP bP)))))))
def w4 (aI:ca)(cy:List Int):Option Bool :=
 uP aI cy 0 0 >>= fun an =>
 xJ an.1 an.2.1 an.2.2.1 an.2.2.2.1 an.2.2.2.2 >>= fun aZ =>
 match aZ with
 | .inl gD=>(some true)
 | .inr gD=>(some false)
theorem TH {aI:ca}{cy:List Int}:b4 (w4 aI cy) (fun r=>Con bx 29 [.eu 2 [(ga aI)] 0 0,.isl 1 (cy.map J)] [] (.b r) []):=by
 unfold w4
 exact .az fun an R =>
  .az fun aZ aD =>
  (let fB:=fA an.1 an.2.1 1 0 0 an.2.2.1.length 2 0 0 an.2.2.2.1.length 3 0 0 an.2.2.2.2.length;let hE:=c8 [4,3];let t1:List cL:=[(ab 1),.aE (bT 2 (.call {aQ:=[],cO:=[],ac:=[ii,ii,ii,ii],r:= .agg (fA an.1 an.2.1 0 0 0 an.2.2.1.length 0 1 0 an.2.2.2.1.length 0 2 0 an.2.2.2.2.length),d4:=[[af.mk 1 (an.2.2.1.map J) .live,af.mk 1 (an.2.2.2.1.map J) .live,af.mk 1 (an.2.2.2.2.map J) .live]],fu:= .bE (.agg [.id,.id,.id,.id,.id]),gd:=[.bD [af.mk 1 (an.2.2.1.map J) .live,af.mk 1 (an.2.2.2.1.map J) .live,af.mk 1 (an.2.2.2.2.map J) .live]],dG:=[],dD:=true}) 2),.bm [4,3] [.box [.id,.id,.id,.id,.id],.bD [af.mk 1 (an.2.2.1.map J) .live,af.mk 1 (an.2.2.2.1.map J) .live,af.mk 1 (an.2.2.2.2.map J) .live]] [(0,ii),(1,ii),(4,ii),(5,ii),(8,ii),(9,ii),(10,.bE (.agg [.id,.id,.id,.id,.id]))],.y1 [{dd:=some (0,0)},{bh:=[(1,0)]},{bh:=[(1,1)]},{bh:=[(1,2)]}] [([],some (.box [.id,.id,.at_ 1 0 an.2.2.1.length,.at_ 2 0 an.2.2.2.1.length,.at_ 3 0 an.2.2.2.2.length])),([.pure],none),([.pure],none),([.pure],none)] [(0,ii),(1,ii),(4,ii),(5,ii),(8,ii),(9,ii),(10,.bE (.agg [.id,.id,.at_ 1 0 an.2.2.1.length,.at_ 2 0 an.2.2.2.1.length,.at_ 3 0 an.2.2.2.2.length]))]];
  have a9:=((.bj (eM (fM (hN [3]) 1 fN an.2.2.1) (eM (fM (hN [3]) 1 fN an.2.2.2.1) (eM (fM (hN [3]) 1 fN an.2.2.2.2) (kE (b7:=(hN [3])))))) ((lj rfl (lj rfl (lj rfl x2))):nv [af.mk 1 (an.2.2.1.map J) .live,af.mk 1 (an.2.2.2.1.map J) .live,af.mk 1 (an.2.2.2.2.map J) .live]) (Mm an R) (cf.agg (mr (cf.n .i64 an.1) (mr (cf.n .i64 an.2.1) (mr (cf.bF 0 0 0 an.2.2.1.length) (mr (cf.bF 0 1 0 an.2.2.2.1.length) (mr (cf.bF 0 2 0 an.2.2.2.2.length) ym)))))) ((Am (rs (qR rC) (rs (qR rC) (rs (qR rC) Ay))) Ax):sm [[af.mk 1 (an.2.2.1.map J) .live,af.mk 1 (an.2.2.2.1.map J) .live,af.mk 1 (an.2.2.2.2.map J) .live]]) (eM (fM hE 1 fN an.2.2.1) (eM (fM hE 1 fN an.2.2.2.1) (eM (fM hE 1 fN an.2.2.2.2) (kE (b7:=hE))))) (rfl:(iT [{dd:=some (0,0)},{bh:=[(1,0)]},{bh:=[(1,1)]},{bh:=[(1,2)]}]) 1 0=some (1,0)) (rfl:an.2.2.1.length=an.2.2.1.length) (.bj (rfl:(iT [{dd:=some (0,0)},{bh:=[(1,0)]},{bh:=[(1,1)]},{bh:=[(1,2)]}]) 2 0=some (1,1)) (rfl:an.2.2.2.1.length=an.2.2.2.1.length) (rfl:(iT [{dd:=some (0,0)},{bh:=[(1,0)]},{bh:=[(1,1)]},{bh:=[(1,2)]}]) 3 0=some (1,2)) (rfl:an.2.2.2.2.length=an.2.2.2.2.length) (aG 1 .live aF an.2.2.1) (aG 1 .live aF an.2.2.2.1) (aG 1 .live aF an.2.2.2.2) (rfl:(iT [{dd:=some (0,0)},{bh:=[(1,0)]},{bh:=[(1,1)]},{bh:=[(1,2)]}]) 1 0=some (1,0)) (.bj (rfl:an.2.2.1.length=an.2.2.1.length) (rfl:(iT [{dd:=some (0,0)},{bh:=[(1,0)]},{bh:=[(1,1)]},{bh:=[(1,2)]}]) 2 0=some (1,1)) (rfl:an.2.2.2.1.length=an.2.2.2.1.length) (rfl:(iT [{dd:=some (0,0)},{bh:=[(1,0)]},{bh:=[(1,1)]},{bh:=[(1,2)]}]) 3 0=some (1,2)) (rfl:an.2.2.2.2.length=an.2.2.2.2.length) (iK (oV [0,1,2,3]) 5 [fB] [fB] rfl) (i4 5 [fB]) (fa 1 aF an.2.2.1) (.aC (fa 1 aF an.2.2.2.1) (fa 1 aF an.2.2.2.2))))):c3 _);
  (by
  rcases aZ with gD|gD
  ·exact (.ret (let aW:=fA an.1 an.2.1 1 0 0 an.2.2.1.length 2 0 0 an.2.2.2.1.length 3 0 0 an.2.2.2.2.length;let bk:=eJ 4 1 0 gD.2.2.2.1.length gD.1 gD.2.1 4 2 0 gD.2.2.2.2.1.length gD.2.2.1 4 3 0 gD.2.2.2.2.2.1.length;let cc:=hN [0,1,2,3,4];let cV:=c6 2 aN gD.2.2.2.2.2.2;bM (t1.append [.aE (ai (.call {aQ:=(ob [0,1,2,3]),cO:=[.bD [af.mk 5 [aW] .live],.pure,.pure,.pure],ac:=[ii],r:= .dB [.ref 4 0 0 0,.b true],d4:=[[af.mk 5 [aW] .live],(ay 1 J an.2.2.1),(ay 1 J an.2.2.2.1),(ay 1 J an.2.2.2.2),(af.mk 6 [bk] .live::af.mk 1 (gD.2.2.2.1.map (bX 4 4 2)) .live::af.mk 1 (gD.2.2.2.2.1.map J) .live::af.mk 1 (gD.2.2.2.2.2.1.map dO) .live::cV)],fu:= .comp [.cx .id,.cx .id],gd:=[.bD [af.mk 5 [aW] .live],.pure,.pure,.pure,.bD (af.mk 6 [bk] .live::af.mk 1 (gD.2.2.2.1.map (bX 4 4 2)) .live::af.mk 1 (gD.2.2.2.2.1.map J) .live::af.mk 1 (gD.2.2.2.2.2.1.map dO) .live::cV)],dG:=[0,1,2,3],dD:=false}) (ae 5 [])),(ab 2)]) (a9.aY (.gX (iK cc 5 [aW] [aW] rfl) (i4 5 [aW]) (fa 1 aF an.2.2.1) (fa 1 aF an.2.2.2.1) (fa 1 aF an.2.2.2.2) (eM (show af.mk 6 [(eJ 4 1 0 gD.2.2.2.1.length gD.1 gD.2.1 4 2 0 gD.2.2.2.2.1.length gD.2.2.1 4 3 0 gD.2.2.2.2.2.1.length)] .live=ku (hN [0,1,2,3,4]) (af.mk 6 [(eJ 4 1 0 gD.2.2.2.1.length gD.1 gD.2.1 4 2 0 gD.2.2.2.2.1.length gD.2.2.1 4 3 0 gD.2.2.2.2.2.1.length)] .live) from rfl) (eM (Cj cc 4 4 4 2 rfl gD.2.2.2.1) (eM (fM cc 1 fN gD.2.2.2.2.1) (eM (fM cc 1 EH gD.2.2.2.2.2.1) (e1 cc 2 ef gD.2.2.2.2.2.2))))) ((lj rfl (lj rfl (lj rfl (lj rfl (Jl (iU .live 2 aN gD.2.2.2.2.2.2)))))):nv (af.mk 6 [bk] .live::af.mk 1 (gD.2.2.2.1.map (bX 4 4 2)) .live::af.mk 1 (gD.2.2.2.2.1.map J) .live::af.mk 1 (gD.2.2.2.2.2.1.map dO) .live::cV)) (Di (.inl gD) aD)))))
  ·exact (.ret (let d5:=fA an.1 an.2.1 1 0 0 an.2.2.1.length 2 0 0 an.2.2.2.1.length 3 0 0 an.2.2.2.2.length;bM (t1.append [.aE (ai (.call {aQ:=(ob [0,1,2,3]),cO:=[.bD [af.mk 5 [d5] .live],.pure,.pure,.pure],ac:=[ii],r:= .dB [.ik,.b false],d4:=[[af.mk 5 [d5] .live],(ay 1 J an.2.2.1),(ay 1 J an.2.2.2.1),(ay 1 J an.2.2.2.2)],fu:=ii,gd:=[.bD [af.mk 5 [d5] .live],.pure,.pure,.pure],dG:=[0,1,2,3],dD:=false}) (ae 5 [])),(ab 2)]) (a9.aY (.eF (iK (hN [0,1,2,3]) 5 [d5] [d5] rfl) (i4 5 [d5]) (fa 1 aF an.2.2.1) (fa 1 aF an.2.2.2.1) (fa 1 aF an.2.2.2.2) (Di (.inr gD) aD)))))))
def Dt (aI:ca)(cy:List Int):Option Bool :=
 z2 aI cy >>= fun an =>
 if an=true then
  w4 aI cy >>= fun bz =>
  some bz
 else
  some false
theorem U2 {aI:ca}{cy:List Int}:b4 (Dt aI cy) (fun r=>Con bx 9 [.agg (ga aI),.isl 1 (cy.map J)] [] (.b r) []):=by
 unfold Dt
 exact .az fun an R =>
  (have b3:=((.aC (M7 an R) (cf.b an)):c3 _);
  .ite (fun ad =>
  .az fun bz aM =>
  .ret (bM [(ab 2),.aE (ae 2 (ai (bA 2 (.b an) true) (ae 2 (ai (.call {ac:=[.bE (.ptr [.id,.id]),ii],r:= .b bz,dD:=true,dG:=[0]}) (ai (.al true) (ae 1 []))))))] (b3.aY (.eF ad ad (jA (mm aI):gr [(ga aI)]) (TH bz aM) (cf.b bz) ad))))
  (fun ad =>
  .ret (bM [(ab 2),.aE (ae 2 (ai (bA 2 (.b an) true) (ae 1 (cw 2 (ai (.al false) (ae 1 []))))))] (b3.aY (.b1 ad ad ad)))))
def GD (cy:List Int)(dy:List bu)(dK:Int)(a8:List aU)(aH:List a5):(Int×(List bu))→S:=fun (eN,ao)=>e2 [(1,.isl 1 (cy.map J)),(3,.ref 0 0 0 0),(9,.bF 1 0 0 ao.length),(26,.isl 4 (dy.map cG)),(27,.n .i64 dK),(28,.n .i64 eN)] [[af.mk 2 [[.isl 4 (a8.map dJ),.isl 3 (aH.map db)]] .live],(ay 4 cG ao)]
def GO (cy:List Int)(dy:List bu)(dK:Int)(a8:List aU)(aH:List a5):(List bu)→e5
 | a=>⟨some 0,[(1,.isl 1 (cy.map J)),(3,.ref 0 0 0 0),(9,.bF 1 0 0 a.length)],[[af.mk 2 [[.isl 4 (a8.map dJ),.isl 3 (aH.map db)]] .live],(ay 4 cG a)]⟩
def uQ (cy:List Int)(dy:List bu)(dK:Int)(a8:List aU)(aH:List a5)(eN:Int)(ao:List bu):Option ((Int×(List bu))⊕((List bu))) :=
 if (decide (eN<dK))=true then
  if 0≤eN∧eN<dy.length then
  dy[eN.toNat]? >>= fun aO =>
  if 0≤eN∧eN<(ao.length:Nat) then
  if (0+eN.toNat)<ao.length then
  some (.inl (U (eN+(1:Int)),ao.set (0+eN.toNat) (⟨aO.c0,aO.c1,1,1⟩:bu)))
  else none
  else none
  else none
 else
  some (.inr ao)
def G1 (cy:List Int)(dy:List bu)(dK:Int)(a8:List aU)(aH:List a5)(eN:Int)(ao:List bu):Option ((List bu)):=iter (fun w:Int×(List bu)=>uQ cy dy dK a8 aH w.1 w.2) (eN,ao)
theorem Ti {cy:List Int}{dy:List bu}{dK:Int}{a8:List aU}{aH:List a5}{eN:Int}{ao:List bu}:b4 (uQ cy dy dK a8 aH eN ao) (fG bx 51 0 12 [1,1,1,0,1,0,0] (GD cy dy dK a8 aH (eN,ao)) (GD cy dy dK a8 aH) (GO cy dy dK a8 aH)):=by
 unfold uQ
 exact .ite (fun o =>
  .bl fun R =>
  .az fun aO aD =>
  .bl fun aM =>
  .bl fun bq =>
  .ret (b0 [(ab 1),.al true,.aE (bT 2 (.cq (cG aO)) 3),.aE (ae 8 (ai .dh [])),(ab 2),.bm [0,1] [.box [.id,.id],.eg (ay 4 cG (ao.set (0+eN.toNat) (⟨aO.c0,aO.c1,1,1⟩:bu)))] [(1,ii),(3,ii),(9,ha ((ao.set (0+eN.toNat) (⟨aO.c0,aO.c1,1,1⟩:bu)).length)),(26,ii),(27,ii),(28,ii)]] (.bj o R.1 (en cG R.2) (cz cG aD) aM.1 aM.2 (hR cG bq) (hG 4) (.b1 (e6 4 .live (gE (el cG ao) (0+eN.toNat) (⟨aO.c0,aO.c1,1,1⟩:bu))) (aG 4 .live nM (ao.set (0+eN.toNat) (⟨aO.c0,aO.c1,1,1⟩:bu))) (gZ (fq ao) (0+eN.toNat) (⟨aO.c0,aO.c1,1,1⟩:bu))))))
  (fun o =>
  .ret (b0 [(ab 1),.al false,.bm [0,1] [.box [.id,.id],.pure] (bY [1,3,9])] (.aC o (aG 4 .live nM ao))))
theorem TD {cy:List Int}{dy:List bu}{dK:Int}{a8:List aU}{aH:List a5}{eN:Int}{ao:List bu}{r} (h:G1 cy dy dK a8 aH eN ao=some r):fH bx 51 0 12 [1,1,1,0,1,0,0] (GD cy dy dK a8 aH) (GO cy dy dK a8 aH) (eN,ao) r:=fI (fun _=>Ti) h
def uW (aI:ca)(cy:List Int)(fm:List bu):Option Bool :=
 pI aI cy fm >>= fun an =>
 if an.2=true then
  if 0≤(len_ cG fm)∧(32:Int)*(len_ cG fm)≤281474976710656∧(len_ cG fm)<9223372036854775808 then
  G1 cy fm (len_ cG fm) aI.c7 aI.b2 0 (List.replicate (len_ cG fm).toNat (⟨0,0,0,0⟩:bu):List bu) >>= fun bp =>
  pI aI cy bp >>= fun bH =>
  some (!bH.2)
  else none
 else
  some false
theorem G2 {aI:ca}{cy:List Int}{fm:List bu}:b4 (uW aI cy fm) (fun r=>Con bx 12 [.agg (ga aI),.isl 1 (cy.map J),.isl 4 (fm.map cG)] [] (.b r) []):=by
 unfold uW
 exact .az fun an R =>
  (let t1:List cL:=[(ab 2),.aE (bT 3 (bA 3 (.dB [.isl 3 (an.1.map g7),.b an.2]) false) 5),(ab 2)];
  have a9:=((.aw (zw an R)):c3 _);
  .ite (fun ad =>
  .bl fun aD =>
  .az fun bp bq =>
  .az fun bH bn =>
  .ret (let bk:=len_ cG fm;let aW:=(List.replicate bk.toNat (⟨0,0,0,0⟩:bu):List bu);bM (t1.append [.al false,(ab 4),(ab 3),.bm [0,15] [.box [.id,.id],.eg (ay 4 cG aW)] [(1,ii),(3,ii),(9,ha (aW.length)),(26,ii),(27,ii),(28,ii)],(GO cy fm bk aI.c7 aI.b2 bp).gC,.iC 1,.aE (bT 3 (.call {ac:=[ii,ii,.bE (.cx (.eU (bp.map cG)))],r:= .dB [.isl 3 (bH.1.map g7),.b bH.2],dD:=false,dG:=[1]}) 5),(ab 3)]) (a9.aY (.bj (cR ad) aD.1 (Int.le_refl bk) aD.2.1 aD.2.2 (e6 4 .live (lL cG bk.toNat (⟨0,0,0,0⟩:bu))) (aG 4 .live nM aW) (lY bk.toNat ((⟨0,0,0,0⟩:bu):bu)) (.dr (TD bq) (lh cG bp) (kp cG bp) (d3 nM bp) (zw bH bn))))))
  (fun ad =>
  .ret (bM (t1.append [.al true,(ab 1)]) (a9.aY (.aw (c2 ad))))))
def IB (aI:ca)(ct:Int):Option Bool :=
 if (decide ((0:Int)≤ct))=true then
  if (decide (ct<(len_ db aI.b2)))=true then
   pJ aI >>= fun aZ =>
   some aZ
  else
   some false
 else
  some false
theorem UQ {aI:ca}{ct:Int}:b4 (IB aI ct) (fun r=>Con bx 32 [.eu 2 [(ga aI)] 0 0,.n .i64 ct] [] (.b r) []):=by
 unfold IB
 exact .ite (fun o =>
  .ite (fun R =>
  .az fun aZ aD =>
  .ret (bM [(ab 1),.aE (ae 10 (ai (.al true) (ae 4 (ai (bA 1 (.b aZ) true) (ai (.al true) (ae 1 []))))))] (.bj o o o o o o o o (.ff R R R R (zE aZ aD) (cf.b aZ) R))))
  (fun R =>
  .ret (bM [(ab 1),.aE (ae 10 (ai (.al true) (ae 1 (cw 4 (ai (.al false) (ae 1 []))))))] (.bj o o o o o o o o (.dr R R R R R)))))
  (fun o =>
  .ret (bM [(ab 1),.aE (ae 3 (cw 7 (ai (.al false) (ae 1 (cw 4 (ae 2 []))))))] (.bj o o o o o o o o (.dn dU dU dU dU))))
def xE (aI:ca)(ct:Int):Option Int :=
 IB aI ct >>= fun an =>
 if an=true then
  ml aI ct >>= fun bz =>
  some bz
 else
  some 0
theorem C8 {aI:ca}{ct:Int}:b4 (xE aI ct) (fun r=>Con bx 11 [.agg (ga aI),.n .i64 ct] [] (.n .i64 r) []):=by
 unfold xE
 exact .az fun an R =>
  (let t1:List cL:=[(ab 2),.aE (bT 1 (.call {ac:=[.bE (.ptr [.id,.id]),ii],r:= .b an,dD:=true,dG:=[0]}) 1)];
  have a9:=((.b1 (jA (mm aI):gr [(ga aI)]) (UQ an R) (cf.b an)):c3 _);
  .ite (fun ad =>
  .az fun bz aM =>
  .ret (bM (t1.append [.al false,.aE (bT 1 (.call {ac:=[.bE (.ptr [.id,.id]),ii],r:= .n .i64 bz,dD:=true,dG:=[0]}) 1)]) (a9.aY (.dn (cR ad) (jA (mm aI):gr [(ga aI)]) (sA bz aM) (cf.n .i64 bz)))))
  (fun ad =>
  .ret (bM (t1.append [.al true,(ab 1)]) (a9.aY (.aw (c2 ad))))))
def Du (ie:List Int):Option Bool :=
 if (decide ((1048576:Int)<(len_ eU8 ie)))=true then
  some true
 else
  C9 ie >>= fun cb =>
  pI cb.1 cb.2.1 cb.2.2 >>= fun bz =>
  xD cb.1 cb.2.2 >>= fun cT =>
  if cT=true then
   if bz.2=true then
    C1 cb.1 cb.2.1 bz.1 >>= fun fL =>
    if fL=true then
     if 0≤(0:Int)∧(0:Int)<cb.2.2.length then
     cb.2.2[0]? >>= fun eG =>
     zP cb.1 eG bz.1 >>= fun cl =>
     if cl=true then
      Dt cb.1 cb.2.1 >>= fun e8 =>
      if e8=true then
       if 0≤(0:Int)∧(0:Int)<(1:Nat) then
       ([eG]:List bu)[0]? >>= fun eZ =>
       (([eG]:List bu).set 0 (⟨eZ.c0,eZ.c1,U (eZ.dW+(1:Int)),eZ.dX⟩:bu))[0]? >>= fun Lo =>
       sL cb.1 Lo >>= fun sr =>
       if sr=true then
        pI cb.1 cb.2.1 (([eG]:List bu).set 0 (⟨eZ.c0,eZ.c1,U (eZ.dW+(1:Int)),eZ.dX⟩:bu)) >>= fun rc =>
        if rc.2=true then
         uW cb.1 cb.2.1 cb.2.2 >>= fun re =>
         if re=true then
          uW cb.1 cb.2.1 (([eG]:List bu).set 0 (⟨eZ.c0,eZ.c1,U (eZ.dW+(1:Int)),eZ.dX⟩:bu)) >>= fun BW =>
          some BW
         else
          some true
        else
         some false
       else
        xE cb.1 0 >>= fun rc =>
        if (decide ((0:Int)<rc))=true then
         xE cb.1 1 >>= fun re =>
         some (decide ((0:Int)<re))
        else
         some false
       else none
      else
       some false
     else
      some false
     else none
    else
     some false
   else
    if 0≤(0:Int)∧(0:Int)<cb.2.2.length then
    cb.2.2[0]? >>= fun ju =>
    if 0≤(0:Int)∧(0:Int)<(1:Nat) then
    ([ju]:List bu)[0]? >>= fun eG =>
    (([ju]:List bu).set 0 (⟨eG.c0,eG.c1,U (eG.dW+(1:Int)),eG.dX⟩:bu))[0]? >>= fun lA =>
    sL cb.1 lA >>= fun ea =>
    if ea=true then
     pI cb.1 cb.2.1 (([ju]:List bu).set 0 (⟨eG.c0,eG.c1,U (eG.dW+(1:Int)),eG.dX⟩:bu)) >>= fun fW =>
     uW cb.1 cb.2.1 cb.2.2 >>= fun la =>
     if la=true then
      some false
     else
      some true
    else
     xE cb.1 0 >>= fun fW =>
     if (decide ((0:Int)<fW))=true then
      xE cb.1 1 >>= fun lc =>
      some (decide ((0:Int)<lc))
     else
      some false
    else none
    else none
  else
   some false
theorem U3 {ie:List Int}:b4 (Du ie) (fun r=>Con bx 3 [.isl 1 (ie.map eU8)] [] (.b r) []):=by
 unfold Du
 exact .ite (fun o =>
  .ret (bM [(ab 1),(ab 3),.al true,(ab 1)] (.aw o)))
  (fun o =>
  .az fun cb ad =>
  .az fun bz aM =>
  .az fun cT bQ =>
  (let t1:List cL:=[(ab 1),(ab 3),.al false,.aE (bT 1 (bA 1 (.dB [.agg (ga cb.1),.isl 1 (cb.2.1.map J),.isl 4 (cb.2.2.map cG)]) false) 8),.aE (bT 3 (bA 3 (.dB [.isl 3 (bz.1.map g7),.b bz.2]) false) 5)];
  have a9:=((.dr o (Us cb ad) (zw bz aM) (MV cT bQ) (cf.b cT)):c3 _);
  .ite (fun bn =>
  .ite (fun cA =>
  .az fun fL cK =>
  (have fR:=a9.aY (.bj (cR bn) (cR bn) cA cA cA cA (Uh fL cK) (cf.b fL) (.aC cA cA));
  .ite (fun dc =>
  .bl fun dT =>
  .az fun eG fZ =>
  .az fun cl gx =>
  (have fv:=fR.aY (.bj (cR dc) (cR dc) (cR dc) dT.1 (en cG dT.2) (cR dc) (cz cG fZ) (cR dc) (.ff (cR dc) (UK cl gx) (cf.b cl) (cR dc) cA (cR dc) cA));
  .ite (fun ia =>
  .az fun e8 jJ =>
  (let t5:List cL:=t1.append [.aE (ae 2 (ai (bA 2 (.b cT) true) (ae 7 (ai (bA 3 (.b fL) true) (ae 5 (ai (.cq (cG eG)) (ae 1 (ai (bA 3 (.b cl) true) (ae 1 (ai (.al false) (ae 3 (ai (bA 2 (.b e8) true) (ae 1 (ai (.al false) (ai (.al true) (ai (.al false) []))))))))))))))))];
  have jj:=fv.aY (.bj (cR ia) (cR ia) (cR ia) (U2 e8 jJ) (cf.b e8) (cR ia) cA (cR ia) (.b1 (cR bn) cA (cR bn)));
  .ite (fun lS =>
  .bl fun hn =>
  .az fun eZ oP =>
  .az fun Lo qy =>
  .az fun sr oe =>
  (let t7:List cL:=t5.append [.al false,.aE (bT 2 (.cq (cG eG)) 2),.aE (ae 2 (ai (.cq (cG eZ)) (ai (.cq (cG eZ)) (ae 2 (ai (.cq (cG eZ)) (ai (.cq (cG eZ)) [])))))),.aE (ae 3 (ai (.cq (cG Lo)) (ai (bA 2 (.b sr) true) (ae 1 []))))];
  have Cr:=jj.aY (.bj (cR lS) dT.1 (en cG dT.2) (cz cG fZ) hn.1 hn.2 (ow (show [(cG eG)]=(([eG]:List bu)).map cG from rfl) oP) (ow (show [(cG eG)]=(([eG]:List bu)).map cG from rfl) oP) (.bj hn.1 hn.2 (ow (show [(cG eG)]=(([eG]:List bu)).map cG from rfl) oP) (ow (show [(cG eG)]=(([eG]:List bu)).map cG from rfl) oP) hn.1 hn.2 (ow (mU (show [(cG eG)]=(([eG]:List bu)).map cG from rfl) 0 (⟨eZ.c0,eZ.c1,U (eZ.dW+(1:Int)),eZ.dX⟩:bu) (rfl:(setCells (cG eZ) 2 [.n .i64 (U (eZ.dW+(1:Int)))])=cG (⟨eZ.c0,eZ.c1,U (eZ.dW+(1:Int)),eZ.dX⟩:bu))) qy) (Db sr oe) (.aw (cf.b sr))));
  .ite (fun lb =>
  .az fun rc gN =>
  (let cc:=(mU (show [(cG eG)]=(([eG]:List bu)).map cG from rfl) 0 (⟨eZ.c0,eZ.c1,U (eZ.dW+(1:Int)),eZ.dX⟩:bu) (rfl:(setCells (cG eZ) 2 [.n .i64 (U (eZ.dW+(1:Int)))])=cG (⟨eZ.c0,eZ.c1,U (eZ.dW+(1:Int)),eZ.dX⟩:bu)));let cV:=(gZ (show 1=([eG]:List bu).length from rfl) 0 (⟨eZ.c0,eZ.c1,U (eZ.dW+(1:Int)),eZ.dX⟩:bu));let t9:List cL:=t7.append [.al false,.iC 55,.aE (bT 3 (.call {ac:=[ii,ii,.bE (.cx (.eU ((([eG]:List bu).set 0 (⟨eZ.c0,eZ.c1,U (eZ.dW+(1:Int)),eZ.dX⟩:bu)).map cG)))],r:= .dB [.isl 3 (rc.1.map g7),.b rc.2],dD:=false,dG:=[55]}) 5)];
  have RJ:=Cr.aY (.ff (cR lb) (gY cc cV) (iV cc cV) (d3 nM (([eG]:List bu).set 0 (⟨eZ.c0,eZ.c1,U (eZ.dW+(1:Int)),eZ.dX⟩:bu))) (zw rc gN) (cR cA) (cR cA));
  .ite (fun hd =>
  .az fun re BP =>
  (have tn:=RJ.aY (.gX hd hd hd hd (G2 re BP) (cf.b re) hd hd);
  .ite (fun pZ =>
  .az fun BW Lk =>
  .ret (let aW:=(mU (show [(cG eG)]=(([eG]:List bu)).map cG from rfl) 0 (⟨eZ.c0,eZ.c1,U (eZ.dW+(1:Int)),eZ.dX⟩:bu) (rfl:(setCells (cG eZ) 2 [.n .i64 (U (eZ.dW+(1:Int)))])=cG (⟨eZ.c0,eZ.c1,U (eZ.dW+(1:Int)),eZ.dX⟩:bu)));let bk:=(gZ (show 1=([eG]:List bu).length from rfl) 0 (⟨eZ.c0,eZ.c1,U (eZ.dW+(1:Int)),eZ.dX⟩:bu));bM (t9.append [.aE (ae 4 (ai (.al false) (ae 4 (ai (bA 3 (.b re) true) (ae 7 (ai (.call {ac:=[ii,ii,.bE (.cx (.eU ((([eG]:List bu).set 0 (⟨eZ.c0,eZ.c1,U (eZ.dW+(1:Int)),eZ.dX⟩:bu)).map cG)))],r:= .b BW,dD:=true,dG:=[55]}) (ai (.al true) (ai (.al false) (ai (.al true) (ae 1 []))))))))))]) (tn.aY (.bj (cR pZ) (cR pZ) cA cA cA cA (gY aW bk) (iV aW bk) (.gX (d3 nM (([eG]:List bu).set 0 (⟨eZ.c0,eZ.c1,U (eZ.dW+(1:Int)),eZ.dX⟩:bu))) (G2 BW Lk) (cf.b BW) (cR pZ) cA hd (cR pZ) hd)))))
  (fun pZ =>
  .ret (bM (t9.append [.aE (ae 4 (ai (.al false) (ae 4 (ai (bA 3 (.b re) true) (ae 2 (cw 2 (ae 4 (cw 1 (ai (.al true) (ai (.al true) (ae 1 [])))))))))))]) (tn.aY (.eF (c2 pZ) (c2 pZ) (c2 pZ) hd (c2 pZ) hd))))))
  (fun hd =>
  .ret (bM (t9.append [.aE (ae 4 (ai (.al false) (ae 1 (cw 6 (ae 7 (cw 1 (ai (.al false) (ae 1 []))))))))]) (RJ.aY (.gX hd hd hd hd hd hd hd hd))))))
  (fun lb =>
  .az fun rc gN =>
  (have Cn:=Cr.aY (.b1 (c2 lb) (C8 rc gN) (cf.n .i64 rc));
  .ite (fun hd =>
  .az fun re BP =>
  .ret (bM (t7.append [.al true,.aE (ae 1 (ai (bA 2 (.n .i64 rc) true) (ae 3 (ai (bA 2 (.n .i64 re) true) (bT 1 (.al true) 1)))))]) (Cn.aY (.eF hd hd (C8 re BP) (cf.n .i64 re) hd hd))))
  (fun hd =>
  .ret (bM (t7.append [.al true,.aE (ae 1 (ai (bA 2 (.n .i64 rc) true) (ae 2 (cw 3 (ai (.al false) (ae 1 []))))))]) (Cn.aY (.dn hd hd hd hd))))))))
  (fun lS =>
  .ret (bM (t5.append [.al true,(ab 1)]) (jj.aY (.aw (c2 lS)))))))
  (fun ia =>
  .ret (bM (t1.append [.aE (ae 2 (ai (bA 2 (.b cT) true) (ae 7 (ai (bA 3 (.b fL) true) (ae 5 (ai (.cq (cG eG)) (ae 1 (ai (bA 3 (.b cl) true) (ae 1 (ai (.al false) (ae 1 (cw 4 (ai (.al true) (ai (.al true) (ai (.al false) []))))))))))))))),.al true,(ab 1)]) (fv.aY (.bj (c2 ia) (c2 ia) (c2 ia) (c2 ia) cA (c2 ia) (cR bn) cA (.aC (cR bn) bP)))))))
  (fun dc =>
  .ret (bM (t1.append [.aE (ae 2 (ai (bA 2 (.b cT) true) (ae 7 (ai (bA 3 (.b fL) true) (ae 2 (cw 7 (ai (.al true) (ae 1 (cw 4 (ae 1 (ai (.al true) (ai (.al false) [])))))))))))),.al true,(ab 1)]) (fR.aY (.bj (c2 dc) (c2 dc) (c2 dc) (c2 dc) (c2 dc) (c2 dc) (c2 dc) cA (.bj (c2 dc) cA bP bP bP bP cA (cR bn) (.b1 cA (cR bn) bP))))))))
  (fun cA =>
  .bl fun de =>
  .az fun ju dc =>
  .bl fun dT =>
  .az fun eG fZ =>
  .az fun lA gx =>
  .az fun ea j7 =>
  (let t3:List cL:=t1.append [.aE (ae 2 (ai (bA 2 (.b cT) true) (ae 4 (cw 6 (ae 7 (cw 2 (ae 4 (cw 1 (ai (.al false) (ai (.al false) [])))))))))),.al false,.aE (bT 2 (.cq (cG ju)) 2),.aE (ae 2 (ai (.cq (cG eG)) (ai (.cq (cG eG)) (ae 2 (ai (.cq (cG eG)) (ai (.cq (cG eG)) [])))))),.aE (ae 3 (ai (.cq (cG lA)) (ai (bA 2 (.b ea) true) (ae 1 []))))];
  have fv:=a9.aY (.bj (cR bn) (cR bn) cA cA cA cA cA cA (.bj cA cA cA (cR bn) cA (cR bn) dU de.1 (.bj (en cG de.2) (cz cG dc) dT.1 dT.2 (ow (show [(cG ju)]=(([ju]:List bu)).map cG from rfl) fZ) (ow (show [(cG ju)]=(([ju]:List bu)).map cG from rfl) fZ) dT.1 dT.2 (.ff (ow (show [(cG ju)]=(([ju]:List bu)).map cG from rfl) fZ) (ow (show [(cG ju)]=(([ju]:List bu)).map cG from rfl) fZ) dT.1 dT.2 (ow (mU (show [(cG ju)]=(([ju]:List bu)).map cG from rfl) 0 (⟨eG.c0,eG.c1,U (eG.dW+(1:Int)),eG.dX⟩:bu) (rfl:(setCells (cG eG) 2 [.n .i64 (U (eG.dW+(1:Int)))])=cG (⟨eG.c0,eG.c1,U (eG.dW+(1:Int)),eG.dX⟩:bu))) gx) (Db ea j7) (cf.b ea)))));
  .ite (fun jJ =>
  .az fun fW hn =>
  .az fun la oP =>
  (let d5:=(mU (show [(cG ju)]=(([ju]:List bu)).map cG from rfl) 0 (⟨eG.c0,eG.c1,U (eG.dW+(1:Int)),eG.dX⟩:bu) (rfl:(setCells (cG eG) 2 [.n .i64 (U (eG.dW+(1:Int)))])=cG (⟨eG.c0,eG.c1,U (eG.dW+(1:Int)),eG.dX⟩:bu)));let fB:=(gZ (show 1=([ju]:List bu).length from rfl) 0 (⟨eG.c0,eG.c1,U (eG.dW+(1:Int)),eG.dX⟩:bu));let t5:List cL:=t3.append [.al false,.iC 55,.aE (bT 3 (.call {ac:=[ii,ii,.bE (.cx (.eU ((([ju]:List bu).set 0 (⟨eG.c0,eG.c1,U (eG.dW+(1:Int)),eG.dX⟩:bu)).map cG)))],r:= .dB [.isl 3 (fW.1.map g7),.b fW.2],dD:=false,dG:=[55]}) 5)];
  have jj:=fv.aY (.bj (cR jJ) (gY d5 fB) (iV d5 fB) (d3 nM (([ju]:List bu).set 0 (⟨eG.c0,eG.c1,U (eG.dW+(1:Int)),eG.dX⟩:bu))) (zw fW hn) (c2 cA) (c2 cA) bP (.ff bP bP bP (G2 la oP) (cf.b la) bP bP));
  .ite (fun kj =>
  .ret (bM (t5.append [.aE (ae 3 (cw 1 (ai (.al true) (ae 4 (ai (bA 3 (.b la) true) (ae 4 (cw 4 (ai (.al false) (ai (.al false) (ae 2 []))))))))))]) (jj.aY (.bj (cR kj) (cR kj) cA cA cA cA (cR kj) cA (.aC bP (cR kj))))))
  (fun kj =>
  .ret (bM (t5.append [.aE (ae 3 (cw 1 (ai (.al true) (ae 4 (ai (bA 3 (.b la) true) (ae 2 (cw 2 (ae 4 (cw 1 (ai (.al true) (ae 2 [])))))))))))]) (jj.aY (.dr (c2 kj) (c2 kj) (c2 kj) bP (c2 kj)))))))
  (fun jJ =>
  .az fun fW hn =>
  (have nn:=fv.aY (.b1 (c2 jJ) (C8 fW hn) (cf.n .i64 fW));
  .ite (fun je =>
  .az fun lc kj =>
  .ret (bM (t3.append [.al true,.aE (ae 1 (ai (bA 2 (.n .i64 fW) true) (ae 3 (ai (bA 2 (.n .i64 lc) true) (bT 1 (.al true) 1)))))]) (nn.aY (.eF je je (C8 lc kj) (cf.n .i64 lc) je je))))
  (fun je =>
  .ret (bM (t3.append [.al true,.aE (ae 1 (ai (bA 2 (.n .i64 fW) true) (ae 2 (cw 3 (ai (.al false) (ae 1 []))))))]) (nn.aY (.dn je je je je)))))))))
  (fun bn =>
  .ret (bM (t1.append [.aE (ae 2 (ai (bA 2 (.b cT) true) (ae 2 (cw 2 (ae 20 (cw 1 (ai (.al true) []))))))),.al true,(ab 1)]) (a9.aY (.dr (c2 bn) (c2 bn) (c2 bn) (c2 bn) bP))))))
end Go.Proofs.YtgfpnhmcmgnepacGreat
