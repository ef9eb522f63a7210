/- Lemmas, plain functions of the program, and what they answer. No condition. -/
import Derived.Test.YtgfpnhmcmgnepabMC
namespace Go.Proofs.Ytgfpnhmcmgnepab
set_option linter.unusedVariables false
set_option linter.unusedSimpArgs false
open Go Go.VL
def Hc (a1 en:List Int)(cN:Int):(Int×Int×(List Int))→S:=fun (mi,cQ,ar)=>e1 [(1,.isl 1 (a1.map J)),(5,.bm 0 0 0 ar.length),(6,.n .i64 mi),(12,.isl 1 (en.map J)),(13,.n .i64 cN),(14,.n .i64 cQ)] [(av 1 J ar)]
def Hn (a1 en:List Int)(cN:Int):(List Int)→e5
 | a=>⟨some 0,[(5,.bm 0 0 0 a.length)],[(av 1 J a)]⟩
def w9 (a1 en:List Int)(cN mi cQ:Int)(ar:List Int):Option ((Int×Int×(List Int))⊕((List Int))) :=
 if (decide (cQ<cN))=true then
  if 0≤cQ∧cQ<en.length then
  en[cQ.toNat]? >>= fun aV =>
  if (decide (cQ<(len_ J a1)))=true then
   if 0≤cQ∧cQ<a1.length then
   a1[cQ.toNat]? >>= fun gx =>
   if (decide ((U ((U (aV-mi))-gx))<(0:Int)))=true then
    if 0≤cQ∧cQ<(ar.length:Nat) then
    if (0+cQ.toNat)<ar.length then
    some (.inl (1,U (cQ+(1:Int)),ar.set (0+cQ.toNat) (U ((U ((U (aV-mi))-gx))+(1000000000:Int)))))
    else none
    else none
   else
    if 0≤cQ∧cQ<(ar.length:Nat) then
    if (0+cQ.toNat)<ar.length then
    some (.inl (0,U (cQ+(1:Int)),ar.set (0+cQ.toNat) (U ((U (aV-mi))-gx))))
    else none
    else none
   else none
  else
   if (decide ((U (aV-mi))<(0:Int)))=true then
    if 0≤cQ∧cQ<(ar.length:Nat) then
    if (0+cQ.toNat)<ar.length then
    some (.inl (1,U (cQ+(1:Int)),ar.set (0+cQ.toNat) (U ((U (aV-mi))+(1000000000:Int)))))
    else none
    else none
   else
    if 0≤cQ∧cQ<(ar.length:Nat) then
    if (0+cQ.toNat)<ar.length then
    some (.inl (0,U (cQ+(1:Int)),ar.set (0+cQ.toNat) (U (aV-mi))))
    else none
    else none
  else none
 else
  some (.inr ar)
def HQ (a1 en:List Int)(cN mi cQ:Int)(ar:List Int):Option ((List Int)):=iter (fun w:Int×Int×(List Int)=>w9 a1 en cN w.1 w.2.1 w.2.2) (mi,cQ,ar)
theorem Tx {a1 en:List Int}{cN mi cQ:Int}{ar:List Int}:b6 (w9 a1 en cN mi cQ ar) (fG bC 43 0 98 [1,1,1,0,1,0,0] (Hc a1 en cN (mi,cQ,ar)) (Hc a1 en cN) (Hn a1 en cN)):=by
 unfold w9
 exact .ite (fun o =>
  .bn fun R =>
  .aC fun aV aB =>
  (let t1:List c5:=[(ag 1),.ao true,.aH (bU 2 (.cK (J aV)) 2),(ag 4),(ag 4)];
  have bg:=((.du o R.1 (eR J R.2) (cP J aB)):c9 _);
  .ite (fun aK =>
  .bn fun bF =>
  .aC fun gx bx =>
  (let t3:List c5:=t1.append [.ao true,.aH (bU 4 (.cK (J gx)) 2),(ag 1),(ag 2)];
  have f7:=bg.bb (.du aK bF.1 (eR J bF.2) (cP J bx));
  .ite (fun dy =>
  .bn fun dQ =>
  .bn fun dC =>
  .ret (let aW:=(U ((U ((U (aV-mi))-gx))+(1000000000:Int)));b5 (t3.append [.ao true,(ag 3),(ag 1),.aH (an 4 (aq .dO [])),(ag 2),.br [0] [.da (av 1 J (ar.set (0+cQ.toNat) aW))] [(1,ii),(5,gX ((ar.set (0+cQ.toNat) aW).length)),(6,ii),(12,ii),(13,ii),(14,ii)]]) (f7.bb (.hq dy dQ.1 dQ.2 (hM J dC) (hr 1) (dF 1 .live (gy (cW J ar) (0+cQ.toNat) aW)) (aA 1 .live aE (ar.set (0+cQ.toNat) aW)) (hQ (fO ar) (0+cQ.toNat) aW)))))
  (fun dy =>
  .bn fun dQ =>
  .bn fun dC =>
  .ret (let bi:=U ((U (aV-mi))-gx);b5 (t3.append [.ao false,.aH (an 4 (aq .dO [])),(ag 2),.br [0] [.da (av 1 J (ar.set (0+cQ.toNat) bi))] [(1,ii),(5,gX ((ar.set (0+cQ.toNat) bi).length)),(6,ii),(12,ii),(13,ii),(14,ii)]]) (f7.bb (.hq dy dQ.1 dQ.2 (hM J dC) (hr 1) (dF 1 .live (gy (cW J ar) (0+cQ.toNat) bi)) (aA 1 .live aE (ar.set (0+cQ.toNat) bi)) (hQ (fO ar) (0+cQ.toNat) bi)))))))
  (fun aK =>
  (let t3:List c5:=t1.append [.ao false,(ag 1),(ag 2)];
  .ite (fun bF =>
  .bn fun bS =>
  .bn fun bx =>
  .ret (let cd:=(U ((U (aV-mi))+(1000000000:Int)));b5 (t3.append [.ao true,(ag 3),(ag 1),.aH (an 4 (aq .dO [])),(ag 2),.br [0] [.da (av 1 J (ar.set (0+cQ.toNat) cd))] [(1,ii),(5,gX ((ar.set (0+cQ.toNat) cd).length)),(6,ii),(12,ii),(13,ii),(14,ii)]]) (bg.bb (.bh aK bF bS.1 bS.2 (hM J bx) (hr 1) (dF 1 .live (gy (cW J ar) (0+cQ.toNat) cd)) (aA 1 .live aE (ar.set (0+cQ.toNat) cd)) (.ay (hQ (fO ar) (0+cQ.toNat) cd))))))
  (fun bF =>
  .bn fun bS =>
  .bn fun bx =>
  .ret (let cV:=U (aV-mi);b5 (t3.append [.ao false,.aH (an 4 (aq .dO [])),(ag 2),.br [0] [.da (av 1 J (ar.set (0+cQ.toNat) cV))] [(1,ii),(5,gX ((ar.set (0+cQ.toNat) cV).length)),(6,ii),(12,ii),(13,ii),(14,ii)]]) (bg.bb (.bh aK bF bS.1 bS.2 (hM J bx) (hr 1) (dF 1 .live (gy (cW J ar) (0+cQ.toNat) cV)) (aA 1 .live aE (ar.set (0+cQ.toNat) cV)) (.ay (hQ (fO ar) (0+cQ.toNat) cV))))))))))
  (fun o =>
  .ret (b5 [(ag 1),.ao false,.br [0] [.pure] (b2 [5])] (.aD o (aA 1 .live aE ar))))
theorem T9 {a1 en:List Int}{cN mi cQ:Int}{ar:List Int}{r} (h:HQ a1 en cN mi cQ ar=some r):fH bC 43 0 98 [1,1,1,0,1,0,0] (Hc a1 en cN) (Hn a1 en cN) (mi,cQ,ar) r:=fI (fun _=>Tx) h
def tw (a9 a1:List Int):Option (List Int) :=
 if 0≤(len_ J a9)∧(8:Int)*(len_ J a9)≤281474976710656∧(len_ J a9)<9223372036854775808 then
 HQ a1 a9 (len_ J a9) 0 0 (List.replicate (len_ J a9).toNat 0:List Int) >>= fun cH =>
 qw cH >>= fun bP =>
 some bP
 else none
theorem Mo {a9 a1:List Int}:b6 (tw a9 a1) (fun r=>Con bC 98 [.isl 1 (a9.map J),.isl 1 (a1.map J)] [] (.isl 1 (r.map J)) []):=by
 unfold tw
 exact .bn fun o =>
  .aC fun cH ah =>
  .aC fun bP aK =>
  .ret (let bi:=len_ J a9;let aW:=(List.replicate bi.toNat 0:List Int);bY [(ag 1),(ag 4),(ag 1),(ag 3),.br [3] [.da (av 1 J aW)] [(1,ii),(5,gX (aW.length)),(6,ii),(12,ii),(13,ii),(14,ii)],(Hn a1 a9 bi cH).gr,.iW 0,.aH (bU 1 (.call {ac:=[.bp (.b4 (.ej (cH.map J)))],r:= .isl 1 (bP.map J),dt:=false,dA:=[0]}) 1)] (.bh o.1 (Int.le_refl bi) o.2.1 o.2.2 (dF 1 .live (lE J bi.toNat 0)) (aA 1 .live aE aW) (l3 bi.toNat (0:Int)) (T9 ah) (.du (jT J cH) (jg J cH) (dP aE cH) (uJ bP aK))))
def tt (cy eM:bc):Option bc :=
 pN cy.cS eM.cS >>= fun ax =>
 if (cy.dg == eM.dg)=true then
  xG cy.cS eM.cS >>= fun bP =>
  lj cy.dg bP >>= fun c0 =>
  some c0
 else
  if (decide ((0:Int)≤ax))=true then
   tw cy.cS eM.cS >>= fun bD =>
   lj cy.dg bD >>= fun bL =>
   some bL
  else
   tw eM.cS cy.cS >>= fun bD =>
   lj eM.dg bD >>= fun bL =>
   some bL
theorem LO {cy eM:bc}:b6 (tt cy eM) (fun r=>Con bC 89 [.agg (aN cy),.agg (aN eM)] [] (.agg (aN r)) []):=by
 unfold tt
 exact .aC fun ax R =>
  (let t1:List c5:=[(ag 3),.aH (bU 4 (b3 2 (.n .i64 ax) true) 1),(ag 6)];
  have bg:=((.aD (xg ax R) (cn.n .i64 ax)):c9 _);
  .ite (fun ah =>
  .aC fun bP aK =>
  .aC fun c0 bS =>
  .ret (bY (t1.append [.ao true,.aH (an 6 (aq (b3 2 (.isl 1 (bP.map J)) false) (aq (b3 2 (.agg (aN c0)) false) (an 1 []))))]) (bg.bb (.bV ah (UP bP aK) (rR c0 bS)))))
  (fun ah =>
  .ite (fun aB =>
  .aC fun bD bF =>
  .aC fun bL bx =>
  .ret (bY (t1.append [.ao false,(ag 3),.ao true,.aH (an 6 (aq (b3 2 (.isl 1 (bD.map J)) false) (aq (b3 2 (.agg (aN bL)) false) (an 1 []))))]) (bg.bb (.du ah aB (Mo bD bF) (rR bL bx)))))
  (fun aB =>
  .aC fun bD bF =>
  .aC fun bL bx =>
  .ret (bY (t1.append [.ao false,(ag 3),.ao false,.aH (an 6 (aq (b3 2 (.isl 1 (bD.map J)) false) (aq (b3 2 (.agg (aN bL)) false) (an 1 []))))]) (bg.bb (.du ah aB (Mo bD bF) (rR bL bx)))))))
def uC (cy eM:bc):Option bc :=
 pM eM >>= fun ax =>
 tt cy ax >>= fun a6 =>
 some a6
theorem LJ {cy eM:bc}:b6 (uC cy eM) (fun r=>Con bC 94 [.agg (aN cy),.agg (aN eM)] [] (.agg (aN r)) []):=by
 unfold uC
 exact .aC fun ax R =>
  .aC fun a6 aB =>
  .ret (bY [(ag 3),.aH (an 2 (aq (b3 1 (.agg (aN ax)) false) (aq (b3 2 (.agg (aN a6)) false) (an 1 []))))] (.aD (B8 ax R) (LO a6 aB)))
def Ge (iJ:List (List bc))(j1:Bool)(jY iH:List Int)(iP:Int)(jW:List Bool)(lk:List Int)(cm oP:Int):(Int×Bool×(List Int))→S:=fun (ml,bd,aI)=>e1 [(0,.eB 6 [[.isl 1 (iJ.map (fg 2 aN)),.b j1,.isl 1 (jY.map J),.isl 1 (iH.map J),.n .i64 iP,.isl 1 (jW.map dM)]] 0 0),(1,.isl 1 (lk.map J)),(2,.n .i64 cm),(7,.ref 0 0 0 0),(23,.isl 1 (iH.map J)),(24,.n .i64 oP),(25,.n .i64 ml)] [[ab.mk 2 [[.b bd,.isl 1 (aI.map J)]] .live]]
def LB (iJ:List (List bc))(j1:Bool)(jY iH:List Int)(iP:Int)(jW:List Bool)(lk:List Int)(cm oP:Int):(Bool×(List Int))→e5
 | a=>⟨some 0,[(7,.ref 0 0 0 0)],[[ab.mk 2 [[.b a.1,.isl 1 (a.2.map J)]] .live]]⟩
def wP (iJ:List (List bc))(j1:Bool)(jY iH:List Int)(iP:Int)(jW:List Bool)(lk:List Int)(cm oP ml:Int)(bd:Bool)(aI:List Int):Option ((Int×Bool×(List Int))⊕(Bool×(List Int))) :=
 if (decide (ml<oP))=true then
  if 0≤ml∧ml<iH.length then
  iH[ml.toNat]? >>= fun aV =>
  if 0≤aV∧aV<lk.length then
  lk[aV.toNat]? >>= fun aF =>
  if (aF != (0:Int))=true then
   if 0≤ml∧ml<iJ.length then
   iJ[ml.toNat]? >>= fun j6 =>
   if 0≤cm∧cm<j6.length then
   j6[cm.toNat]? >>= fun o4 =>
   pb o4 >>= fun d2 =>
   if (d2 != (0:Int))=true then
    nW aF >>= fun dU =>
    oy o4 dU >>= fun iF =>
    uC (⟨bd,aI⟩:bc) iF >>= fun pw =>
    some (.inl (U (ml+(1:Int)),pw.dg,pw.cS))
   else
    some (.inl (U (ml+(1:Int)),bd,aI))
   else none
   else none
  else
   some (.inl (U (ml+(1:Int)),bd,aI))
  else none
  else none
 else
  some (.inr (bd,aI))
def Gx (iJ:List (List bc))(j1:Bool)(jY iH:List Int)(iP:Int)(jW:List Bool)(lk:List Int)(cm oP ml:Int)(bd:Bool)(aI:List Int):Option (Bool×(List Int)):=iter (fun w:Int×Bool×(List Int)=>wP iJ j1 jY iH iP jW lk cm oP w.1 w.2.1 w.2.2) (ml,bd,aI)
theorem SL {iJ:List (List bc)}{j1:Bool}{jY iH:List Int}{iP:Int}{jW:List Bool}{lk:List Int}{cm oP ml:Int}{bd:Bool}{aI:List Int}:b6 (wP iJ j1 jY iH iP jW lk cm oP ml bd aI) (fG bC 70 0 85 [1,1,0,1,0,0] (Ge iJ j1 jY iH iP jW lk cm oP (ml,bd,aI)) (Ge iJ j1 jY iH iP jW lk cm oP) (LB iJ j1 jY iH iP jW lk cm oP)):=by
 unfold wP
 exact .ite (fun o =>
  .bn fun R =>
  .aC fun aV aB =>
  .bn fun aK =>
  .aC fun aF bS =>
  (let t1:List c5:=[(ag 1),.ao true,.aH (bU 2 (.cK (J aV)) 2)];
  have bg:=((.fu o R.1 (eR J R.2) (cP J aB) aK.1 (eR J aK.2) (cP J bS)):c9 _);
  .ite (fun bx =>
  .bn fun dy =>
  .aC fun j6 dC =>
  .bn fun fr =>
  .aC fun o4 eQ =>
  .aC fun d2 hJ =>
  (let t3:List c5:=t1.append [.aH (an 3 (aq (.cK (J aF)) (an 8 (aq (.cK ((fg 2 aN) j6)) (an 2 (aq (.cK (aN o4)) (aq (b3 1 (.n .i64 d2) true) (an 1 (aq (.ao true) [])))))))))];
  have f7:=bg.bb (.bh bx bx bx bx bx bx dy.1 (eR (fg 2 aN) dy.2) (.bh bx (cP (fg 2 aN) dC) bx bx fr.1 (eR aN fr.2) bx (cP aN eQ) (.dV bx (tq d2 hJ) (cn.n .i64 d2) bx bx)));
  .ite (fun fS =>
  .aC fun dU kf =>
  .aC fun iF nO =>
  .aC fun pw lx =>
  .ret (b5 (t3.append [.ao true,.aH (an 7 (aq (.cK ((fg 2 aN) j6)) (an 2 (aq (.cK (aN o4)) (an 3 (aq (.cK (J aF)) (aq (b3 1 (.agg (aN dU)) false) (aq (b3 2 (.agg (aN iF)) false) (aq (b3 2 (.agg (aN pw)) false) (an 1 [])))))))))),(ag 2),.br [0] [.box [.id,.id]] (b2 [0,1,2,7,23,24,25])]) (f7.bb (.bh fS dy.1 (eR (fg 2 aN) dy.2) (cP (fg 2 aN) dC) fr.1 (eR aN fr.2) (cP aN eQ) aK.1 (.dV (eR J aK.2) (cP J bS) (rO dU kf) (uy iF nO) (LJ pw lx))))))
  (fun fS =>
  .ret (b5 (t3.append [.ao false,(ag 2),.br [0] [.box [.id,.id]] (b2 [0,1,2,7,23,24,25])]) (f7.bb (.ay fS))))))
  (fun bx =>
  .ret (b5 (t1.append [.aH (an 3 (aq (.cK (J aF)) (an 2 (c3 12 (aq (.ao false) []))))),.ao false,(ag 2),.br [0] [.box [.id,.id]] (b2 [0,1,2,7,23,24,25])]) (bg.bb (.bh bx bx bx bx bx bx bx bx (.eK bx bx bx bx bx d3)))))))
  (fun o =>
  .ret (b5 [(ag 1),.ao false,.br [0] [.box [.id,.id]] (b2 [7])] (.ay o)))
theorem S6 {iJ:List (List bc)}{j1:Bool}{jY iH:List Int}{iP:Int}{jW:List Bool}{lk:List Int}{cm oP ml:Int}{bd:Bool}{aI:List Int}{r} (h:Gx iJ j1 jY iH iP jW lk cm oP ml bd aI=some r):fH bC 70 0 85 [1,1,0,1,0,0] (Ge iJ j1 jY iH iP jW lk cm oP) (LB iJ j1 jY iH iP jW lk cm oP) (ml,bd,aI) r:=fI (fun _=>SL) h
def xd (lS:q7)(lk:List Int)(cm:Int):Option Int :=
 if 0≤cm∧cm<lk.length then
 lk[cm.toNat]? >>= fun fm =>
 nW fm >>= fun bP =>
 oy lS.vG bP >>= fun c0 =>
 Gx lS.D4 lS.vG.dg lS.vG.cS lS.DS lS.Jn lS.Jo lk cm (len_ J lS.DS) 0 c0.dg c0.cS >>= fun fQ =>
 pb (⟨fQ.1,fQ.2⟩:bc) >>= fun hn =>
 some hn
 else none
theorem LK {lS:q7}{lk:List Int}{cm:Int}:b6 (xd lS lk cm) (fun r=>Con bC 85 [.eB 6 [(xA lS)] 0 0,.isl 1 (lk.map J),.n .i64 cm] [] (.n .i64 r) []):=by
 unfold xd
 exact .bn fun o =>
  .aC fun fm ah =>
  .aC fun bP aK =>
  .aC fun c0 bS =>
  .aC fun fQ dy =>
  .aC fun hn dC =>
  .ret (bY [(ag 1),.aH (an 7 (aq (.cK (J fm)) (aq (b3 1 (.agg (aN bP)) false) (aq (b3 2 (.agg (aN c0)) false) (an 2 []))))),(ag 6),.br [11] [.box [.id,.id]] (b2 [0,1,2,7,23,24,25]),.sub (.exit 0) [(7,.ref 0 0 0 0)] [[ab.mk 2 [[.b fQ.1,.isl 1 (fQ.2.map J)]] .live]],.aH (bU 1 (b3 1 (.n .i64 hn) true) 1)] (.hq o.1 (eR J o.2) (cP J ah) (rO bP aK) (uy c0 bS) (S6 dy) (tq hn dC) (cn.n .i64 hn)))
def sj (cy eM:bc):Option Int :=
 if (cy.dg == eM.dg)=true then
  if cy.dg=true then
   pN eM.cS cy.cS >>= fun a6 =>
   some a6
  else
   pN cy.cS eM.cS >>= fun a6 =>
   some a6
 else
  if cy.dg=true then
   some (-1)
  else
   some 1
theorem Tn {cy eM:bc}:b6 (sj cy eM) (fun r=>Con bC 95 [.agg (aN cy),.agg (aN eM)] [] (.n .i64 r) []):=by
 unfold sj
 exact .ite (fun o =>
  (let t1:List c5:=[(ag 3),.aH (an 6 (c3 2 (aq (.ao false) (an 1 [])))),.ao false,(ag 6),.ao false,(ag 3)];
  have bg:=((.dV (e3 o) (e3 o) (e3 o) d3 (e3 o)):c9 _);
  .ite (fun R =>
  .aC fun a6 aB =>
  .ret (bY (t1.append [.ao true,.aH (bU 4 (b3 2 (.n .i64 a6) true) 1)]) (bg.bb (.bV R (xg a6 aB) (cn.n .i64 a6)))))
  (fun R =>
  .aC fun a6 aB =>
  .ret (bY (t1.append [.ao false,.aH (bU 4 (b3 2 (.n .i64 a6) true) 1)]) (bg.bb (.bV R (xg a6 aB) (cn.n .i64 a6)))))))
  (fun o =>
  (let t1:List c5:=[(ag 3),.aH (bU 8 (.ao true) 1)];
  have bg:=((.bV (e6 o) (e6 o) (e6 o)):c9 _);
  .ite (fun R =>
  .ret (bY (t1.append [.ao true,(ag 1)]) (bg.bb (.ay R))))
  (fun R =>
  .ret (bY (t1.append [.ao false,(ag 6),.ao true,(ag 1)]) (bg.bb (.aD R (e6 o)))))))
def FU (iJ:List (List bc))(j1:Bool)(jY iH:List Int)(iP:Int)(jW:List Bool)(cm cN:Int):(Int×Int)→S:=fun (i4,cQ)=>e1 [(0,.eB 6 [[.isl 1 (iJ.map (fg 2 aN)),.b j1,.isl 1 (jY.map J),.isl 1 (iH.map J),.n .i64 iP,.isl 1 (jW.map dM)]] 0 0),(1,.n .i64 cm),(5,.n .i64 i4),(12,.isl 1 (iJ.map (fg 2 aN))),(13,.n .i64 cN),(14,.n .i64 cQ)] []
def Ly (iJ:List (List bc))(j1:Bool)(jY iH:List Int)(iP:Int)(jW:List Bool)(cm cN:Int):Int→e5
 | a=>⟨some 0,[(5,.n .i64 a)],[]⟩
def wF (iJ:List (List bc))(j1:Bool)(jY iH:List Int)(iP:Int)(jW:List Bool)(cm cN i4 cQ:Int):Option ((Int×Int)⊕(Int)) :=
 if (decide (cQ<cN))=true then
  if 0≤cQ∧cQ<iJ.length then
  iJ[cQ.toNat]? >>= fun aV =>
  if 0≤cm∧cm<aV.length then
  aV[cm.toNat]? >>= fun aF =>
  pb aF >>= fun fQ =>
  if (decide (fQ≤(0:Int)))=true then
   some (.inl (i4,U (cQ+(1:Int))))
  else
   if (decide (i4<(0:Int)))=true then
    some (.inl (cQ,U (cQ+(1:Int))))
   else
    if 0≤iP∧iP<aV.length then
    aV[iP.toNat]? >>= fun o4 =>
    if 0≤i4∧i4<iJ.length then
    iJ[i4.toNat]? >>= fun kH =>
    if 0≤cm∧cm<kH.length then
    kH[cm.toNat]? >>= fun rB =>
    oy o4 rB >>= fun hl =>
    if 0≤iP∧iP<kH.length then
    kH[iP.toNat]? >>= fun s8 =>
    oy s8 aF >>= fun k9 =>
    sj hl k9 >>= fun jr =>
    if (decide (jr<(0:Int)))=true then
     some (.inl (cQ,U (cQ+(1:Int))))
    else
     if (jr == (0:Int))=true then
      if 0≤cQ∧cQ<iH.length then
      iH[cQ.toNat]? >>= fun Kl =>
      if 0≤i4∧i4<iH.length then
      iH[i4.toNat]? >>= fun Km =>
      if (decide (Kl<Km))=true then
       some (.inl (cQ,U (cQ+(1:Int))))
      else
       some (.inl (i4,U (cQ+(1:Int))))
      else none
      else none
     else
      some (.inl (i4,U (cQ+(1:Int))))
    else none
    else none
    else none
    else none
  else none
  else none
 else
  some (.inr i4)
def Gi (iJ:List (List bc))(j1:Bool)(jY iH:List Int)(iP:Int)(jW:List Bool)(cm cN i4 cQ:Int):Option (Int):=iter (fun w:Int×Int=>wF iJ j1 jY iH iP jW cm cN w.1 w.2) (i4,cQ)
theorem Sy {iJ:List (List bc)}{j1:Bool}{jY iH:List Int}{iP:Int}{jW:List Bool}{cm cN i4 cQ:Int}:b6 (wF iJ j1 jY iH iP jW cm cN i4 cQ) (fG bC 91 0 86 [1,1,0,1,0,0] (FU iJ j1 jY iH iP jW cm cN (i4,cQ)) (FU iJ j1 jY iH iP jW cm cN) (Ly iJ j1 jY iH iP jW cm cN)):=by
 unfold wF
 exact .ite (fun o =>
  .bn fun R =>
  .aC fun aV aB =>
  .bn fun aK =>
  .aC fun aF bS =>
  .aC fun fQ dy =>
  (let t1:List c5:=[(ag 1),.ao true,.aH (bU 2 (.cK ((fg 2 aN) aV)) 2),.aH (an 3 (aq (.cK (aN aF)) (aq (b3 1 (.n .i64 fQ) true) (an 1 []))))];
  have bg:=((.bh o R.1 (eR (fg 2 aN) R.2) (cP (fg 2 aN) aB) aK.1 (eR aN aK.2) (cP aN bS) (tq fQ dy) (.ay (cn.n .i64 fQ))):c9 _);
  .ite (fun dQ =>
  .ret (b5 (t1.append [.ao true,(ag 2),.br [] [] (b2 [0,1,5,12,13,14])]) (bg.bb (.ay dQ))))
  (fun dQ =>
  .ite (fun dC =>
  .ret (b5 (t1.append [.ao false,(ag 2),.ao true,(ag 2),(ag 2),.br [] [] (b2 [0,1,5,12,13,14])]) (bg.bb (.aD dQ dC))))
  (fun dC =>
  .bn fun fr =>
  .aC fun o4 eQ =>
  .bn fun gk =>
  .aC fun kH fS =>
  .bn fun ku =>
  .aC fun rB kV =>
  .aC fun hl jc =>
  .bn fun lx =>
  .aC fun s8 nh =>
  .aC fun k9 mr =>
  .aC fun jr ly =>
  (let aW:=fg 2 aN;let t3:List c5:=t1.append [.ao false,(ag 2),.ao false,.aH (an 6 (aq (.cK (aN o4)) (an 6 (aq (.cK (aW kH)) (an 2 (aq (.cK (aN rB)) (aq (b3 2 (.agg (aN hl)) false) (an 6 (aq (.cK (aW kH)) (an 5 (aq (.cK (aN s8)) (an 3 (aq (.cK (aN aF)) (aq (b3 2 (.agg (aN k9)) false) (aq (b3 2 (.n .i64 jr) true) (an 1 []))))))))))))))))];
  have f7:=bg.bb (.bh dQ dC fr.1 (eR aN fr.2) (cP aN eQ) gk.1 (eR aW gk.2) (cP aW fS) (.bh ku.1 (eR aN ku.2) (cP aN kV) (uy hl jc) gk.1 (eR aW gk.2) (cP aW fS) lx.1 (.hq (eR aN lx.2) (cP aN nh) aK.1 (eR aN aK.2) (cP aN bS) (uy k9 mr) (Tn jr ly) (cn.n .i64 jr))));
  .ite (fun j5 =>
  .ret (b5 (t3.append [.aH (an 3 (c3 3 (an 15 (c3 1 (aq (.ao true) []))))),.ao true,(ag 2),(ag 2),.br [] [] (b2 [0,1,5,12,13,14])]) (f7.bb (.eK j5 j5 j5 j5 j5 ch))))
  (fun j5 =>
  .ite (fun gK =>
  .bn fun ni =>
  .aC fun Kl Kn =>
  .bn fun px =>
  .aC fun Km Ko =>
  (let t5:List c5:=t3.append [.aH (an 12 (aq (.cK (J Kl)) (an 6 (aq (.cK (J Km)) (an 1 (aq (.ao true) (aq (.ao false) [])))))))];
  have kc:=f7.bb (.bh j5 j5 j5 gK gK gK gK gK (.bh gK ni.1 (eR J ni.2) gK (cP J Kn) gK gK gK (.bh gK gK gK px.1 (eR J px.2) gK (cP J Ko) gK (.bV j5 gK j5))));
  .ite (fun mU =>
  .ret (b5 (t5.append [.ao true,(ag 2),(ag 2),.br [] [] (b2 [0,1,5,12,13,14])]) (kc.bb (.ay mU))))
  (fun mU =>
  .ret (b5 (t5.append [.ao false,(ag 2),.br [] [] (b2 [0,1,5,12,13,14])]) (kc.bb (.ay mU))))))
  (fun gK =>
  .ret (b5 (t3.append [.aH (an 6 (c3 15 (aq (.ao false) (aq (.ao false) [])))),.ao false,(ag 2),.br [] [] (b2 [0,1,5,12,13,14])]) (f7.bb (.bh j5 j5 j5 gK gK gK gK gK (.bh gK gK gK gK gK gK gK gK (.eK gK gK j5 gK j5 d3))))))))))))
  (fun o =>
  .ret (b5 [(ag 1),.ao false,.br [] [] (b2 [5])] (.ay o)))
theorem SQ {iJ:List (List bc)}{j1:Bool}{jY iH:List Int}{iP:Int}{jW:List Bool}{cm cN i4 cQ:Int}{r} (h:Gi iJ j1 jY iH iP jW cm cN i4 cQ=some r):fH bC 91 0 86 [1,1,0,1,0,0] (FU iJ j1 jY iH iP jW cm cN) (Ly iJ j1 jY iH iP jW cm cN) (i4,cQ) r:=fI (fun _=>Sy) h
def zj (lS:q7)(cm:Int):Option Int :=
 Gi lS.D4 lS.vG.dg lS.vG.cS lS.DS lS.Jn lS.Jo cm (len_ (fg 2 aN) lS.D4) (-1) 0 >>= fun ax =>
 some ax
theorem S7 {lS:q7}{cm:Int}:b6 (zj lS cm) (fun r=>Con bC 86 [.eB 6 [(xA lS)] 0 0,.n .i64 cm] [] (.n .i64 r) []):=by
 unfold zj
 exact .aC fun ax R =>
  .ret (bY [(ag 1),(ag 1),(ag 6),.br [] [] (b2 [0,1,5,12,13,14]),.sub (.exit 0) [(5,.n .i64 ax)] [],(ag 2)] (.ay (SQ R)))
def u3 (aX:List Int):Option (List Int) :=
 if aX.length*8≤140737488355328 then some aX else none
theorem V5:Con bC 49 [.ex] [] (.isl 1 (([]:List Int).map J)) []:=bY [(ag 1),(ag 2),.ao true,(ag 1)] (.ay ch) (.bp (.b4 (.mv 1)))
theorem V6:Con bC 49 [.iC] [] (.isl 1 (([]:List Int).map J)) []:=(by
 have h:=fun (o:(([]:List Int)++([]:List Int)).length*8≤140737488355328)=>(bY [(ag 1),(ag 2),.ao false,.aH (bU 2 (.bb ((([]:List Int)++([]:List Int)).length)) 1)] (.fu d3 (u1 (show []=(([]:List Int)).map J from rfl) (ot Int)) (xS (ot Int) (tl J):(([]:List Int)++([]:List Int)).length=0+([]:List (List aw)).length) o (pg (q9 (show []=(([]:List Int)).map J from rfl) (ot Int) (tl J)) (fO (([]:List Int)++([]:List Int)))) (sx (q9 (show []=(([]:List Int)).map J from rfl) (ot Int) (tl J)) (fO (([]:List Int)++([]:List Int)))) (dP aE (([]:List Int)++([]:List Int)))) (.bp (.b4 (.ej ((([]:List Int)++([]:List Int)).map J)))):Con bC 49 [.iC] [] (.isl 1 ((([]:List Int)++([]:List Int)).map J)) [])
 exact h (by decide))
theorem V7 (x:Int)(l:List Int)(o:(([]:List Int)++(x::l)).length*8≤140737488355328):Con bC 49 [.isl 1 ((x::l).map J)] [] (.isl 1 ((([]:List Int)++(x::l)).map J)) []:=bY [(ag 1),.aH (an 1 (aq .dO [])),.ao false,.aH (bU 2 (.bb ((([]:List Int)++(x::l)).length)) 1)] (.hq (by simp:(x::l).map J≠[]) d3 (u1 (show []=(([]:List Int)).map J from rfl) (ot Int)) (xS (ot Int) (cW J (x::l)):(([]:List Int)++(x::l)).length=0+((x::l).map J).length) o (pg (q9 (show []=(([]:List Int)).map J from rfl) (ot Int) (cW J (x::l))) (fO (([]:List Int)++(x::l)))) (sx (q9 (show []=(([]:List Int)).map J from rfl) (ot Int) (cW J (x::l))) (fO (([]:List Int)++(x::l)))) (dP aE (([]:List Int)++(x::l)))) (.bp (.b4 (.ej ((([]:List Int)++(x::l)).map J))))
theorem Il {aX:List Int}:b6 (u3 aX) (fun r=>Con bC 49 [.isl 1 (aX.map J)] [] (.isl 1 (r.map J)) []):=by
 unfold u3
 refine .bn fun h=> .ret ?_
 cases aX with
 | nil=>exact .j2 V5 V6
 | cons x l =>
  have R:=V7 x l (by simpa using h)
  simpa using R
def Gl (a9:List Int)(a1:Int):(Int×Int×(List Int))→S:=fun (hH,a2,ar)=>e1 [(0,.isl 1 (a9.map J)),(1,.n .i64 a1),(6,.bm 0 0 0 ar.length),(7,.n .i64 hH),(8,.n .i64 a2)] [(av 1 J ar)]
def Gs (a9:List Int)(a1:Int):(Int×(List Int))→e5
 | a=>⟨some 0,[(6,.bm 0 0 0 a.2.length),(7,.n .i64 a.1)],[(av 1 J a.2)]⟩
def Gm (a9:List Int)(a1 hH a2:Int)(ar:List Int):Option ((Int×Int×(List Int))⊕(Int×(List Int))) :=
 if (decide ((0:Int)≤a2))=true then
  if 0≤a2∧a2<a9.length then
  a9[a2.toNat]? >>= fun aV =>
  if a1≠0 then
  if 0≤a2∧a2<(ar.length:Nat) then
  if (0+a2.toNat)<ar.length then
  some (.inl ((U ((U (hH*(1000000000:Int)))+aV)).tmod a1,U (a2-(1:Int)),ar.set (0+a2.toNat) (U ((U ((U (hH*(1000000000:Int)))+aV)).tdiv a1))))
  else none
  else none
  else none
  else none
 else
  some (.inr (hH,ar))
def Ho (a9:List Int)(a1 hH a2:Int)(ar:List Int):Option (Int×(List Int)):=iter (fun w:Int×Int×(List Int)=>Gm a9 a1 w.1 w.2.1 w.2.2) (hH,a2,ar)
theorem S0 {a9:List Int}{a1 hH a2:Int}{ar:List Int}:b6 (Gm a9 a1 hH a2 ar) (fG bC 39 0 78 [1,1,1,0,1,0,0] (Gl a9 a1 (hH,a2,ar)) (Gl a9 a1) (Gs a9 a1)):=by
 unfold Gm
 exact .ite (fun o =>
  .bn fun R =>
  .aC fun aV aB =>
  .bn fun aK =>
  .bn fun bF =>
  .bn fun bS =>
  .ret (let aW:=(U ((U ((U (hH*(1000000000:Int)))+aV)).tdiv a1));b5 [(ag 2),.ao true,.aH (bU 5 (.cK (J aV)) 2),.aH (bU 9 .dO 1),(ag 3),.br [0] [.da (av 1 J (ar.set (0+a2.toNat) aW))] [(0,ii),(1,ii),(6,gX ((ar.set (0+a2.toNat) aW).length)),(7,ii),(8,ii)]] (.bh o R.1 (eR J R.2) (cP J aB) aK aK bF.1 bF.2 (.dV (hM J bS) (hr 1) (dF 1 .live (gy (cW J ar) (0+a2.toNat) aW)) (aA 1 .live aE (ar.set (0+a2.toNat) aW)) (hQ (fO ar) (0+a2.toNat) aW)))))
  (fun o =>
  .ret (b5 [(ag 2),.ao false,.br [0] [.pure] (b2 [6,7])] (.aD o (aA 1 .live aE ar))))
theorem TB {a9:List Int}{a1 hH a2:Int}{ar:List Int}{r} (h:Ho a9 a1 hH a2 ar=some r):fH bC 39 0 78 [1,1,1,0,1,0,0] (Gl a9 a1) (Gs a9 a1) (hH,a2,ar) r:=fI (fun _=>S0) h
def xm (a9:List Int)(a1:Int):Option ((List Int)×Int) :=
 if 0≤(len_ J a9)∧(8:Int)*(len_ J a9)≤281474976710656∧(len_ J a9)<9223372036854775808 then
 Ho a9 a1 0 (U ((len_ J a9)-(1:Int))) (List.replicate (len_ J a9).toNat 0:List Int) >>= fun cH =>
 qw cH.2 >>= fun bP =>
 some (bP,cH.1)
 else none
theorem LW {a9:List Int}{a1:Int}:b6 (xm a9 a1) (fun r=>Con bC 78 [.isl 1 (a9.map J),.n .i64 a1] [] (.dK [.isl 1 (r.1.map J),.n .i64 r.2]) []):=by
 unfold xm
 exact .bn fun o =>
  .aC fun cH ah =>
  .aC fun bP aK =>
  .ret (let aW:=(List.replicate (len_ J a9).toNat 0:List Int);bY [(ag 2),(ag 4),(ag 1),(ag 4),.br [4] [.da (av 1 J aW)] [(0,ii),(1,ii),(6,gX (aW.length)),(7,ii),(8,ii)],(Gs a9 a1 cH).gr,.iW 0,.aH (bU 1 (.call {ac:=[.bp (.b4 (.ej (cH.2.map J)))],r:= .isl 1 (bP.map J),dt:=false,dA:=[0]}) 3)] (.bh o.1 (Int.le_refl (len_ J a9)) o.2.1 o.2.2 (dF 1 .live (lE J (len_ J a9).toNat 0)) (aA 1 .live aE aW) (l3 (len_ J a9).toNat (0:Int)) (TB ah) (.du (jT J cH.2) (jg J cH.2) (dP aE cH.2) (uJ bP aK))))
def GQ (ar:List Int):Nat→S:=fun lF=>e1 [(0,.bm 0 0 0 lF)] [(av 1 J ar)]
def Hd (ar:List Int):Nat→e5
 | a=>⟨some 0,[(0,.bm 0 0 0 a)],[(av 1 J ar)]⟩
def w6 (ar:List Int)(lF:Nat):Option ((Nat)⊕(Nat)) :=
 if (decide ((0:Int)<((lF:Nat):Int)))=true then
  if 0≤(U (((lF:Nat):Int)-(1:Int)))∧(U (((lF:Nat):Int)-(1:Int)))<(lF:Nat) then
  ar[(0+(U (((lF:Nat):Int)-(1:Int))).toNat)]? >>= fun aV =>
  if (aV == (0:Int))=true then
   if 0≤(U (((lF:Nat):Int)-(1:Int))) then
   if 0≤(U (((lF:Nat):Int)-(1:Int))).toNat∧(U (((lF:Nat):Int)-(1:Int))).toNat≤lF then
   some (.inl ((U (((lF:Nat):Int)-(1:Int))).toNat-0))
   else none
   else none
  else
   some (.inr lF)
  else none
 else
  some (.inr lF)
def HI (ar:List Int)(lF:Nat):Option (Nat):=iter (fun w:Nat=>w6 ar w) lF
theorem To {ar:List Int}{lF:Nat}:b6 (w6 ar lF) (fG bC 21 1 81 [1,0,0,0] (GQ ar lF) (GQ ar) (Hd ar)):=by
 unfold w6
 exact .ite (fun o =>
  .bn fun R =>
  .aC fun aV aB =>
  (let t1:List c5:=[.aH (an 9 (aq (.cK (J aV)) (an 1 (aq (.ao true) []))))];
  have bg:=((.bh o o o o o R.1 R.2 o (.bV (cP J aB) o o)):c9 _);
  .ite (fun aK =>
  .bn fun bF =>
  .bn fun bS =>
  .ret (b5 (t1.append [.ao true,(ag 6),.br [0] [.pure] (b2 [0])]) (bg.bb (.dV aK bF bS.1 bS.2 (aA 1 .live aE ar)))))
  (fun aK =>
  .ret (b5 (t1.append [.ao false,.br [0] [.pure] (b2 [0])]) (bg.bb (.aD aK (aA 1 .live aE ar)))))))
  (fun o =>
  .ret (b5 [.aH (an 4 (c3 7 (aq (.ao false) []))),.ao false,.br [0] [.pure] (b2 [0])] (.bh o o o o o o o o (.aD d3 (aA 1 .live aE ar)))))
theorem TY {ar:List Int}{lF:Nat}{r} (h:HI ar lF=some r):fH bC 21 1 81 [1,0,0,0] (GQ ar) (Hd ar) lF r:=fI (fun _=>To) h
def zD (fT:List Int):Option Nat :=
 HI fT fT.length >>= fun ax =>
 some ax
theorem Uu {fT:List Int}:b6 (zD fT) (fun a=>Con bC 81 [.bm 0 0 0 fT.length] [(av 1 J fT)] (.bm 0 0 0 a) [(av 1 J fT)]):=by
 unfold zD
 exact .aC fun ax R =>
  .ret (iu [(ag 1),.br [0] [.pure] (b2 [0]),(Hd fT ax).gr,(ag 2)] [0] [.pure] (.bV (aA 1 .live aE fT) (TY R) (aA 1 .live aE fT)))
def Gy (a1:List Int)(a2 ba:Int)(dZ:List Int)(ec dW:Int):(Int×Int×(List Int))→S:=fun (el,dp,ar)=>e1 [(1,.isl 1 (a1.map J)),(5,.bm 0 0 0 ar.length),(6,.n .i64 a2),(7,.n .i64 ba),(8,.n .i64 el),(26,.isl 1 (dZ.map J)),(27,.n .i64 ec),(28,.n .i64 a2),(33,.isl 1 (a1.map J)),(34,.n .i64 dW),(35,.n .i64 dp)] [(av 1 J ar)]
def GR (a1:List Int)(a2 ba:Int)(dZ:List Int)(ec dW:Int):(Int×(List Int))→e5
 | a=>⟨some 2,[(1,.isl 1 (a1.map J)),(5,.bm 0 0 0 a.2.length),(6,.n .i64 a2),(8,.n .i64 a.1),(26,.isl 1 (dZ.map J)),(27,.n .i64 ec),(28,.n .i64 a2)],[(av 1 J a.2)]⟩
def Gz (a1:List Int)(a2 ba:Int)(dZ:List Int)(ec dW el dp:Int)(ar:List Int):Option ((Int×Int×(List Int))⊕(Int×(List Int))) :=
 if (decide (dp<dW))=true then
  if 0≤dp∧dp<a1.length then
  a1[dp.toNat]? >>= fun aV =>
  if 0≤(U (a2+dp))∧(U (a2+dp))<(ar.length:Nat) then
  ar[(0+(U (a2+dp)).toNat)]? >>= fun aF =>
  if (0+(U (a2+dp)).toNat)<ar.length then
  some (.inl (U ((U ((U (aF+(U (ba*aV))))+el)).tdiv (1000000000:Int)),U (dp+(1:Int)),ar.set (0+(U (a2+dp)).toNat) ((U ((U (aF+(U (ba*aV))))+el)).tmod (1000000000:Int))))
  else none
  else none
  else none
 else
  some (.inr (el,ar))
def L8 (a1:List Int)(a2 ba:Int)(dZ:List Int)(ec dW el dp:Int)(ar:List Int):Option (Int×(List Int)):=iter (fun w:Int×Int×(List Int)=>Gz a1 a2 ba dZ ec dW w.1 w.2.1 w.2.2) (el,dp,ar)
theorem S8 {a1:List Int}{a2 ba:Int}{dZ:List Int}{ec dW el dp:Int}{ar:List Int}:b6 (Gz a1 a2 ba dZ ec dW el dp ar) (fG bC 72 0 74 [1,1,1,0,1,0,0,1,1,0,0,1,1,0,1,0,0] (Gy a1 a2 ba dZ ec dW (el,dp,ar)) (Gy a1 a2 ba dZ ec dW) (GR a1 a2 ba dZ ec dW)):=by
 unfold Gz
 exact .ite (fun o =>
  .bn fun R =>
  .aC fun aV aB =>
  .bn fun aK =>
  .aC fun aF bS =>
  .bn fun bx =>
  .ret (let aW:=U ((U (aF+(U (ba*aV))))+el);let bi:=U (a2+dp);b5 [(ag 1),.ao true,.aH (bU 2 (.cK (J aV)) 2),.aH (bU 5 (.cK (J aF)) 7),.aH (bU 9 .dO 1),(ag 2),.br [0] [.da (av 1 J (ar.set (0+bi.toNat) (aW.tmod (1000000000:Int))))] [(1,ii),(5,gX ((ar.set (0+bi.toNat) (aW.tmod (1000000000:Int))).length)),(6,ii),(7,ii),(8,ii),(26,ii),(27,ii),(28,ii),(33,ii),(34,ii),(35,ii)]] (.bh o R.1 (eR J R.2) (cP J aB) aK.1 aK.2 (cP J bS) (by decide:(1000000000:Int)≠0) (.hq (by decide:(1000000000:Int)≠0) aK.1 aK.2 (hM J bx) (hr 1) (dF 1 .live (gy (cW J ar) (0+bi.toNat) (aW.tmod (1000000000:Int)))) (aA 1 .live aE (ar.set (0+bi.toNat) (aW.tmod (1000000000:Int)))) (hQ (fO ar) (0+bi.toNat) (aW.tmod (1000000000:Int)))))))
  (fun o =>
  .ret (b5 [(ag 1),.ao false,.br [0] [.pure] (b2 [1,5,6,8,26,27,28])] (.aD o (aA 1 .live aE ar))))
theorem TL {a1:List Int}{a2 ba:Int}{dZ:List Int}{ec dW el dp:Int}{ar:List Int}{r} (h:L8 a1 a2 ba dZ ec dW el dp ar=some r):fH bC 72 0 74 [1,1,1,0,1,0,0,1,1,0,0,1,1,0,1,0,0] (Gy a1 a2 ba dZ ec dW) (GR a1 a2 ba dZ ec dW) (el,dp,ar) r:=fI (fun _=>S8) h
def GA (a1 dZ:List Int)(ec:Int):(Int×(List Int))→S:=fun (eE,ar)=>e1 [(1,.isl 1 (a1.map J)),(5,.bm 0 0 0 ar.length),(26,.isl 1 (dZ.map J)),(27,.n .i64 ec),(28,.n .i64 eE)] [(av 1 J ar)]
def GS (a1 dZ:List Int)(ec:Int):(List Int)→e5
 | a=>⟨some 0,[(5,.bm 0 0 0 a.length)],[(av 1 J a)]⟩
def GB (a1 dZ:List Int)(ec eE:Int)(ar:List Int):Option ((Int×(List Int))⊕((List Int))) :=
 if (decide (eE<ec))=true then
  if 0≤eE∧eE<dZ.length then
  dZ[eE.toNat]? >>= fun aV =>
  L8 a1 eE aV dZ ec (len_ J a1) 0 0 ar >>= fun bD =>
  if 0≤(U (eE+(len_ J a1)))∧(U (eE+(len_ J a1)))<(bD.2.length:Nat) then
  if (0+(U (eE+(len_ J a1))).toNat)<bD.2.length then
  some (.inl (U (eE+(1:Int)),bD.2.set (0+(U (eE+(len_ J a1))).toNat) bD.1))
  else none
  else none
  else none
 else
  some (.inr ar)
def HD (a1 dZ:List Int)(ec eE:Int)(ar:List Int):Option ((List Int)):=iter (fun w:Int×(List Int)=>GB a1 dZ ec w.1 w.2) (eE,ar)
theorem S9 {a1 dZ:List Int}{ec eE:Int}{ar:List Int}:b6 (GB a1 dZ ec eE ar) (fG bC 72 0 74 [1,1,1,0,1,0,0] (GA a1 dZ ec (eE,ar)) (GA a1 dZ ec) (GS a1 dZ ec)):=by
 unfold GB
 exact .ite (fun o =>
  .bn fun R =>
  .aC fun aV aB =>
  .aC fun bD bF =>
  .bn fun bS =>
  .bn fun bx =>
  .ret (let aW:=U (eE+(len_ J a1));b5 [(ag 1),.ao true,.aH (bU 2 (.cK (J aV)) 2),(ag 1),(ag 3),.br [0] [.pure] (b2 [1,5,6,7,8,26,27,28,33,34,35]),(GR a1 eE aV dZ ec (len_ J a1) bD).gr,.aH (an 7 (aq .dO [])),(ag 2),.br [0] [.da (av 1 J (bD.2.set (0+aW.toNat) bD.1))] [(1,ii),(5,gX ((bD.2.set (0+aW.toNat) bD.1).length)),(26,ii),(27,ii),(28,ii)]] (.bh o R.1 (eR J R.2) (cP J aB) (aA 1 .live aE ar) (TL bF) bS.1 bS.2 (.dV (hM J bx) (hr 1) (dF 1 .live (gy (cW J bD.2) (0+aW.toNat) bD.1)) (aA 1 .live aE (bD.2.set (0+aW.toNat) bD.1)) (hQ (fO bD.2) (0+aW.toNat) bD.1)))))
  (fun o =>
  .ret (b5 [(ag 1),.ao false,.br [0] [.pure] (b2 [5])] (.aD o (aA 1 .live aE ar))))
theorem TM {a1 dZ:List Int}{ec eE:Int}{ar:List Int}{r} (h:HD a1 dZ ec eE ar=some r):fH bC 72 0 74 [1,1,1,0,1,0,0] (GA a1 dZ ec) (GS a1 dZ ec) (eE,ar) r:=fI (fun _=>S9) h
def xt (a9 a1:List Int):Option (Nat×(List Int)) :=
 if ((len_ J a9) == (0:Int))=true then
  none
 else
  if ((len_ J a1) == (0:Int))=true then
   none
  else
   if 0≤(U ((len_ J a9)+(len_ J a1)))∧(8:Int)*(U ((len_ J a9)+(len_ J a1)))≤281474976710656∧(U ((len_ J a9)+(len_ J a1)))<9223372036854775808 then
   HD a1 a9 (len_ J a9) 0 (List.replicate (U ((len_ J a9)+(len_ J a1))).toNat 0:List Int) >>= fun bP =>
   zD bP >>= fun c0 =>
   some (c0,bP)
   else none
theorem L9 {a9 a1:List Int}:b6 (xt a9 a1) (fun a=>Con bC 74 [.isl 1 (a9.map J),.isl 1 (a1.map J)] [] (.bm 0 0 0 a.1) [(av 1 J a.2)]):=by
 unfold xt
 exact .ite (fun o =>
  .QT)
  (fun o =>
  .ite (fun R =>
  .QT)
  (fun R =>
  .bn fun ah =>
  .aC fun bP aK =>
  .aC fun c0 bS =>
  .ret (let aW:=U ((len_ J a9)+(len_ J a1));let bi:=(List.replicate aW.toNat 0:List Int);iu [(ag 1),.aH (an 7 (aq (.ao false) [])),.ao false,(ag 7),(ag 3),.br [14] [.da (av 1 J bi)] [(1,ii),(5,gX (bi.length)),(26,ii),(27,ii),(28,ii)],(GS a1 a9 (len_ J a9) bP).gr,.aH (bU 1 (.call {aM:=[.row 0],cM:=[.pure],ac:=[ii],r:= .bm 0 0 0 c0,dT:=[(av 1 J bP)],ff:=ii,fR:=[.pure],dA:=[0],dt:=false}) 1)] [0] [.pure] (.bh o o o o R ah.1 (Int.le_refl aW) ah.2.1 (.bh ah.2.2 (dF 1 .live (lE J aW.toNat 0)) (aA 1 .live aE bi) (l3 aW.toNat (0:Int)) (TM aK) (fs 1 aE bP) (fs 1 aE bP) (Uu c0 bS) (.ay (aA 1 .live aE bP)))))))
def GU (eZ ei:Nat)(dJ:List Int)(jq en:Int):(Int×Int×(List Int))→S:=fun (el,cN,ar)=>e1 [(0,.bm 0 0 eZ ei),(1,.isl 1 (dJ.map J)),(2,.n .i64 jq),(7,.n .i64 el),(11,.isl 1 (dJ.map J)),(12,.n .i64 en),(13,.n .i64 cN)] [(av 1 J ar)]
def He (eZ ei:Nat)(dJ:List Int)(jq en:Int):(Int×(List Int))→e5
 | a=>⟨some 0,[(0,.bm 0 0 eZ ei),(1,.isl 1 (dJ.map J)),(7,.n .i64 a.1)],[(av 1 J a.2)]⟩
def uA (eZ ei:Nat)(dJ:List Int)(jq en el cN:Int)(ar:List Int):Option ((Int×Int×(List Int))⊕(Int×(List Int))) :=
 if (decide (cN<en))=true then
  if 0≤cN∧cN<dJ.length then
  dJ[cN.toNat]? >>= fun aV =>
  if 0≤cN∧cN<(ei:Nat) then
  ar[(eZ+cN.toNat)]? >>= fun aF =>
  if (decide ((U ((U (aF-(U (jq*aV))))-el))<(0:Int)))=true then
   if (eZ+cN.toNat)<ar.length then
   some (.inl (U ((U ((999999999:Int)-(U ((U (aF-(U (jq*aV))))-el)))).tdiv (1000000000:Int)),U (cN+(1:Int)),ar.set (eZ+cN.toNat) (U ((U ((U (aF-(U (jq*aV))))-el))+(U ((U ((U ((999999999:Int)-(U ((U (aF-(U (jq*aV))))-el)))).tdiv (1000000000:Int)))*(1000000000:Int)))))))
   else none
  else
   if (eZ+cN.toNat)<ar.length then
   some (.inl (0,U (cN+(1:Int)),ar.set (eZ+cN.toNat) (U ((U (aF-(U (jq*aV))))-el))))
   else none
  else none
  else none
 else
  some (.inr (el,ar))
def HJ (eZ ei:Nat)(dJ:List Int)(jq en el cN:Int)(ar:List Int):Option (Int×(List Int)):=iter (fun w:Int×Int×(List Int)=>uA eZ ei dJ jq en w.1 w.2.1 w.2.2) (el,cN,ar)
theorem Tp {eZ ei:Nat}{dJ:List Int}{jq en el cN:Int}{ar:List Int}:b6 (uA eZ ei dJ jq en el cN ar) (fG bC 56 1 79 [1,1,0,1,0,0] (GU eZ ei dJ jq en (el,cN,ar)) (GU eZ ei dJ jq en) (He eZ ei dJ jq en)):=by
 unfold uA
 exact .ite (fun o =>
  .bn fun R =>
  .aC fun aV aB =>
  .bn fun aK =>
  .aC fun aF bS =>
  (let t1:List c5:=[(ag 1),.ao true,.aH (bU 2 (.cK (J aV)) 2),.aH (bU 3 (.cK (J aF)) 7),(ag 1),(ag 2)];
  have bg:=((.fu o R.1 (eR J R.2) (cP J aB) aK.1 aK.2 (cP J bS)):c9 _);
  .ite (fun bx =>
  .bn fun dy =>
  .ret (let aW:=(U ((U ((U (aF-(U (jq*aV))))-el))+(U ((U ((U ((999999999:Int)-(U ((U (aF-(U (jq*aV))))-el)))).tdiv (1000000000:Int)))*(1000000000:Int)))));b5 (t1.append [.ao true,(ag 4),(ag 5),.aH (an 4 (aq .dO [])),(ag 2),.br [0] [.da (av 1 J (ar.set (eZ+cN.toNat) aW))] (b2 [0,1,2,7,11,12,13])]) (bg.bb (.hq bx (by decide:(1000000000:Int)≠0) aK.1 aK.2 (hM J dy) (hr 1) (dF 1 .live (gy (cW J ar) (eZ+cN.toNat) aW)) (aA 1 .live aE (ar.set (eZ+cN.toNat) aW))))))
  (fun bx =>
  .bn fun dy =>
  .ret (let bi:=U ((U (aF-(U (jq*aV))))-el);b5 (t1.append [.ao false,.aH (an 4 (aq .dO [])),(ag 2),.br [0] [.da (av 1 J (ar.set (eZ+cN.toNat) bi))] (b2 [0,1,2,7,11,12,13])]) (bg.bb (.fu bx aK.1 aK.2 (hM J dy) (hr 1) (dF 1 .live (gy (cW J ar) (eZ+cN.toNat) bi)) (aA 1 .live aE (ar.set (eZ+cN.toNat) bi))))))))
  (fun o =>
  .ret (b5 [(ag 1),.ao false,.br [0] [.pure] (b2 [0,1,7])] (.aD o (aA 1 .live aE ar))))
theorem TZ {eZ ei:Nat}{dJ:List Int}{jq en el cN:Int}{ar:List Int}{r} (h:HJ eZ ei dJ jq en el cN ar=some r):fH bC 56 1 79 [1,1,0,1,0,0] (GU eZ ei dJ jq en) (He eZ ei dJ jq en) (el,cN,ar) r:=fI (fun _=>Tp) h
def zE (dJ:List Int)(jq:Int)(eZ ei:Nat)(fT:List Int):Option (Bool×(List Int)) :=
 HJ eZ ei dJ jq (len_ J dJ) 0 0 fT >>= fun ax =>
 if 0≤(len_ J dJ)∧(len_ J dJ)<(ei:Nat) then
 ax.2[(eZ+(len_ J dJ).toNat)]? >>= fun f6 =>
 if (eZ+(len_ J dJ).toNat)<ax.2.length then
 (ax.2.set (eZ+(len_ J dJ).toNat) (U (f6-ax.1)))[(eZ+(len_ J dJ).toNat)]? >>= fun gx =>
 some ((decide (gx<(0:Int))),ax.2.set (eZ+(len_ J dJ).toNat) (U (f6-ax.1)))
 else none
 else none
theorem Uv {dJ:List Int}{jq:Int}{eZ ei:Nat}{fT:List Int}:b6 (zE dJ jq eZ ei fT) (fun a=>Con bC 79 (aaW 0 0 eZ ei dJ jq) [(av 1 J fT)] (.b a.1) [(av 1 J a.2)]):=by
 unfold zE
 exact .aC fun ax R =>
  .bn fun ah =>
  .aC fun f6 aK =>
  .bn fun bF =>
  .aC fun gx bx =>
  .ret (let aW:=U (f6-ax.1);let bi:=len_ J dJ;iu [(ag 1),(ag 1),(ag 3),.br [0] [.pure] (b2 [0,1,2,7,11,12,13]),(He eZ ei dJ jq bi ax).gr,.aH (an 4 (aq (.cK (J f6)) (an 3 (aq .dO [])))),.aH (bU 4 (.cK (J gx)) 2)] [0] [.da (av 1 J (ax.2.set (eZ+bi.toNat) aW))] (.bh (aA 1 .live aE fT) (TZ R) ah.1 ah.2 (cP J aK) ah.1 ah.2 (hM J bF) (.eK (hr 1) ah.1 ah.2 (z3 (gy (cW J ax.2) (eZ+bi.toNat) aW) bx) (dF 1 .live (gy (cW J ax.2) (eZ+bi.toNat) aW)) (aA 1 .live aE (ax.2.set (eZ+bi.toNat) aW)))))
def GV (eZ ei:Nat)(dJ:List Int)(gH:Int):(Int×Int×(List Int))→S:=fun (el,e8,ar)=>e1 [(0,.bm 0 0 eZ ei),(1,.isl 1 (dJ.map J)),(4,.n .i64 el),(8,.isl 1 (dJ.map J)),(9,.n .i64 gH),(10,.n .i64 e8)] [(av 1 J ar)]
def Hf (eZ ei:Nat)(dJ:List Int)(gH:Int):(Int×(List Int))→e5
 | a=>⟨some 0,[(0,.bm 0 0 eZ ei),(1,.isl 1 (dJ.map J)),(4,.n .i64 a.1)],[(av 1 J a.2)]⟩
def w7 (eZ ei:Nat)(dJ:List Int)(gH el e8:Int)(ar:List Int):Option ((Int×Int×(List Int))⊕(Int×(List Int))) :=
 if (decide (e8<gH))=true then
  if 0≤e8∧e8<dJ.length then
  dJ[e8.toNat]? >>= fun aV =>
  if 0≤e8∧e8<(ei:Nat) then
  ar[(eZ+e8.toNat)]? >>= fun aF =>
  if (eZ+e8.toNat)<ar.length then
  some (.inl (U ((U ((U (aF+aV))+el)).tdiv (1000000000:Int)),U (e8+(1:Int)),ar.set (eZ+e8.toNat) ((U ((U (aF+aV))+el)).tmod (1000000000:Int))))
  else none
  else none
  else none
 else
  some (.inr (el,ar))
def HK (eZ ei:Nat)(dJ:List Int)(gH el e8:Int)(ar:List Int):Option (Int×(List Int)):=iter (fun w:Int×Int×(List Int)=>w7 eZ ei dJ gH w.1 w.2.1 w.2.2) (el,e8,ar)
theorem Tq {eZ ei:Nat}{dJ:List Int}{gH el e8:Int}{ar:List Int}:b6 (w7 eZ ei dJ gH el e8 ar) (fG bC 39 1 80 [1,0,1,0,0] (GV eZ ei dJ gH (el,e8,ar)) (GV eZ ei dJ gH) (Hf eZ ei dJ gH)):=by
 unfold w7
 exact .ite (fun o =>
  .bn fun R =>
  .aC fun aV aB =>
  .bn fun aK =>
  .aC fun aF bS =>
  .bn fun bx =>
  .ret (let aW:=U ((U (aF+aV))+el);b5 [(ag 1),.ao true,.aH (bU 2 (.cK (J aV)) 2),.aH (bU 3 (.cK (J aF)) 5),.aH (bU 7 .dO 1),(ag 2),.br [0] [.da (av 1 J (ar.set (eZ+e8.toNat) (aW.tmod (1000000000:Int))))] (b2 [0,1,4,8,9,10])] (.bh o R.1 (eR J R.2) (cP J aB) aK.1 aK.2 (cP J bS) (by decide:(1000000000:Int)≠0) (.fu (by decide:(1000000000:Int)≠0) aK.1 aK.2 (hM J bx) (hr 1) (dF 1 .live (gy (cW J ar) (eZ+e8.toNat) (aW.tmod (1000000000:Int)))) (aA 1 .live aE (ar.set (eZ+e8.toNat) (aW.tmod (1000000000:Int))))))))
  (fun o =>
  .ret (b5 [(ag 1),.ao false,.br [0] [.pure] (b2 [0,1,4])] (.aD o (aA 1 .live aE ar))))
theorem T0 {eZ ei:Nat}{dJ:List Int}{gH el e8:Int}{ar:List Int}{r} (h:HK eZ ei dJ gH el e8 ar=some r):fH bC 39 1 80 [1,0,1,0,0] (GV eZ ei dJ gH) (Hf eZ ei dJ gH) (el,e8,ar) r:=fI (fun _=>Tq) h
def xv (dJ:List Int)(eZ ei:Nat)(fT:List Int):Option (List Int) :=
 HK eZ ei dJ (len_ J dJ) 0 0 fT >>= fun ax =>
 if 0≤(len_ J dJ)∧(len_ J dJ)<(ei:Nat) then
 ax.2[(eZ+(len_ J dJ).toNat)]? >>= fun f6 =>
 if (eZ+(len_ J dJ).toNat)<ax.2.length then
 some (ax.2.set (eZ+(len_ J dJ).toNat) (U (f6+ax.1)))
 else none
 else none
theorem Uw {dJ:List Int}{eZ ei:Nat}{fT:List Int}:b6 (xv dJ eZ ei fT) (fun a=>Con bC 80 [.bm 0 0 eZ ei,.isl 1 (dJ.map J)] [(av 1 J fT)] (.dK []) [(av 1 J a)]):=by
 unfold xv
 exact .aC fun ax R =>
  .bn fun ah =>
  .aC fun f6 aK =>
  .bn fun bF =>
  .ret (let aW:=U (f6+ax.1);let bi:=len_ J dJ;iu [(ag 1),(ag 3),.br [0] [.pure] (b2 [0,1,4,8,9,10]),(Hf eZ ei dJ bi ax).gr,.aH (an 4 (aq (.cK (J f6)) (an 3 (aq .dO []))))] [0] [.da (av 1 J (ax.2.set (eZ+bi.toNat) aW))] (.bh (aA 1 .live aE fT) (T0 R) ah.1 ah.2 (cP J aK) ah.1 ah.2 (hM J bF) (.bV (hr 1) (dF 1 .live (gy (cW J ax.2) (eZ+bi.toNat) aW)) (aA 1 .live aE (ax.2.set (eZ+bi.toNat) aW)))))
def Hp (a9:List Int)(fN:Nat)(ar aQ:List Int):(List Int)→S:=fun aj=>e1 [(0,.isl 1 (a9.map J)),(8,.bm 0 0 0 ar.length),(9,.bm 1 0 0 aj.length),(10,.bm 2 0 0 fN)] [(av 1 J ar),(av 1 J aj),(av 1 J aQ)]
def Hu (a9:List Int)(fN:Nat)(ar aQ:List Int):(List Int)→e5
 | a=>⟨some 0,[(8,.bm 0 0 0 ar.length),(9,.bm 1 0 0 a.length),(10,.bm 2 0 0 fN)],[(av 1 J ar),(av 1 J a),(av 1 J aQ)]⟩
def Cu (a9:List Int)(fN:Nat)(ar aQ aj:List Int):Option (((List Int))⊕((List Int))) :=
 if (decide (((aj.length:Nat):Int)≤(len_ J a9)))=true then
  if (aj++([0]:List Int)).length*8≤140737488355328 then
  some (.inl (aj++([0]:List Int)))
  else none
 else
  some (.inr aj)
def CU (a9:List Int)(fN:Nat)(ar aQ aj:List Int):Option ((List Int)):=iter (fun w:(List Int)=>Cu a9 fN ar aQ w) aj
theorem TC {a9:List Int}{fN:Nat}{ar aQ aj:List Int}:b6 (Cu a9 fN ar aQ aj) (fG bC 172 0 56 [1,1,1,1,1,0,0,0] (Hp a9 fN ar aQ aj) (Hp a9 fN ar aQ) (Hu a9 fN ar aQ)):=by
 unfold Cu
 exact .ite (fun o =>
  .bn fun R =>
  .ret (let aW:=(aj++([0]:List Int));b5 [(ag 5),.ao true,.aH (bU 2 (.bb (aW.length)) 1),.br [0,10,2] [.pure,.da (av 1 J aW),.pure] (b2 [0,8,9,10])] (.bh o (m1 J 0) (se J aj) (ou J aj 0) R (aA 1 .live aE ar) (dF 1 .live (sf J aj 0)) (aA 1 .live aE aW) (.ay (aA 1 .live aE aQ)))))
  (fun o =>
  .ret (b5 [(ag 5),.ao false,.br [0,1,2] [.pure,.pure,.pure] (b2 [8,9,10])] (.du o (aA 1 .live aE ar) (aA 1 .live aE aj) (aA 1 .live aE aQ))))
theorem Uj {a9:List Int}{fN:Nat}{ar aQ aj:List Int}{r} (h:CU a9 fN ar aQ aj=some r):fH bC 172 0 56 [1,1,1,1,1,0,0,0] (Hp a9 fN ar aQ) (Hu a9 fN ar aQ) aj r:=fI (fun _=>TC) h
def Hq (ei fN:Nat)(ba d6:Int)(ar aj aQ al:List Int):(Int×Int)→S:=fun (nt,hH)=>e1 [(8,.bm 0 0 0 ar.length),(9,.bm 1 0 0 ei),(10,.bm 2 0 0 fN),(11,.n .i64 ba),(12,.bm 3 0 0 al.length),(13,.n .i64 d6),(15,.n .i64 nt),(16,.n .i64 hH)] [(av 1 J ar),(av 1 J aj),[ab.mk 1 (aQ.map J) .iW],(av 1 J al)]
def Hv (ei fN:Nat)(ba d6:Int)(ar aj aQ al:List Int):Int→e5
 | a=>⟨some 4,[(8,.bm 0 0 0 ar.length),(9,.bm 1 0 0 ei),(10,.bm 2 0 0 fN),(11,.n .i64 ba),(12,.bm 3 0 0 al.length),(13,.n .i64 d6),(15,.n .i64 a)],[(av 1 J ar),(av 1 J aj),[ab.mk 1 (aQ.map J) .iW],(av 1 J al)]⟩
def uD (ei fN:Nat)(ba d6:Int)(ar aj aQ al:List Int)(nt hH:Int):Option ((Int×Int)⊕(Int)) :=
 if (decide ((1000000000:Int)≤nt))=true then
  if 0≤(U (ba-(1:Int)))∧(U (ba-(1:Int)))<(fN:Nat) then
  aQ[(0+(U (ba-(1:Int))).toNat)]? >>= fun aV =>
  if (decide ((1000000000:Int)≤(U (hH+aV))))=true then
   some (.inr (U (nt-(1:Int))))
  else
   some (.inl (U (nt-(1:Int)),U (hH+aV)))
  else none
 else
  if 0≤(U (ba-(2:Int)))∧(U (ba-(2:Int)))<(fN:Nat) then
  aQ[(0+(U (ba-(2:Int))).toNat)]? >>= fun aV =>
  if 0≤(U ((U (d6+ba))-(2:Int)))∧(U ((U (d6+ba))-(2:Int)))<(ei:Nat) then
  aj[(0+(U ((U (d6+ba))-(2:Int))).toNat)]? >>= fun aF =>
  if (decide ((U ((U (hH*(1000000000:Int)))+aF))<(U (nt*aV))))=true then
   if 0≤(U (ba-(1:Int)))∧(U (ba-(1:Int)))<(fN:Nat) then
   aQ[(0+(U (ba-(1:Int))).toNat)]? >>= fun j6 =>
   if (decide ((1000000000:Int)≤(U (hH+j6))))=true then
    some (.inr (U (nt-(1:Int))))
   else
    some (.inl (U (nt-(1:Int)),U (hH+j6)))
   else none
  else
   some (.inr nt)
  else none
  else none
def H0 (ei fN:Nat)(ba d6:Int)(ar aj aQ al:List Int)(nt hH:Int):Option (Int):=iter (fun w:Int×Int=>uD ei fN ba d6 ar aj aQ al w.1 w.2) (nt,hH)
theorem TD {ei fN:Nat}{ba d6:Int}{ar aj aQ al:List Int}{nt hH:Int}:b6 (uD ei fN ba d6 ar aj aQ al nt hH) (fG bC 172 0 56 [1,1,1,1,1,1,1,1,0,1,0,0,1,0,0,1,1,0,0,0] (Hq ei fN ba d6 ar aj aQ al (nt,hH)) (Hq ei fN ba d6 ar aj aQ al) (Hv ei fN ba d6 ar aj aQ al)):=by
 unfold uD
 exact .ite (fun o =>
  .bn fun R =>
  .aC fun aV aB =>
  (let t1:List c5:=[.aH (an 3 (c3 18 (aq (.ao true) []))),.ao true,(ag 3),.aH (bU 5 (.cK (J aV)) 2),(ag 2)];
  have bg:=((.bh o o o o o o o o (.bh o o o o o o o o (.fu o o o ch R.1 R.2 (cP J aB)))):c9 _);
  .ite (fun aK =>
  .ret (b5 (t1.append [.ao true,.br [0,1,2,3] [.pure,.pure,.pure,.pure] (b2 [8,9,10,11,12,13,15])]) (bg.bb (.dV aK (aA 1 .live aE ar) (aA 1 .live aE aj) (aA 1 .iW aE aQ) (aA 1 .live aE al)))))
  (fun aK =>
  .ret (b5 (t1.append [.ao false,.br [0,1,2,3] [.pure,.pure,.pure,.pure] (b2 [8,9,10,11,12,13,15,16])]) (bg.bb (.dV aK (aA 1 .live aE ar) (aA 1 .live aE aj) (aA 1 .iW aE aQ) (aA 1 .live aE al)))))))
  (fun o =>
  .bn fun R =>
  .aC fun aV aB =>
  .bn fun aK =>
  .aC fun aF bS =>
  (let t1:List c5:=[.aH (an 8 (aq (.cK (J aV)) (an 9 (aq (.cK (J aF)) (an 2 (aq (.ao false) []))))))];
  have bg:=((.bh o o o o o R.1 R.2 o (.bh (cP J aB) o o o o o o o (.bh o o aK.1 aK.2 o (cP J bS) o o (.ay o)))):c9 _);
  .ite (fun bx =>
  .bn fun dy =>
  .aC fun j6 dC =>
  (let t3:List c5:=t1.append [.ao true,(ag 3),.aH (bU 5 (.cK (J j6)) 2),(ag 2)];
  .ite (fun fr =>
  .ret (b5 (t3.append [.ao true,.br [0,1,2,3] [.pure,.pure,.pure,.pure] (b2 [8,9,10,11,12,13,15])]) (bg.bb (.bh bx dy.1 dy.2 (cP J dC) fr (aA 1 .live aE ar) (aA 1 .live aE aj) (aA 1 .iW aE aQ) (.ay (aA 1 .live aE al))))))
  (fun fr =>
  .ret (b5 (t3.append [.ao false,.br [0,1,2,3] [.pure,.pure,.pure,.pure] (b2 [8,9,10,11,12,13,15,16])]) (bg.bb (.bh bx dy.1 dy.2 (cP J dC) fr (aA 1 .live aE ar) (aA 1 .live aE aj) (aA 1 .iW aE aQ) (.ay (aA 1 .live aE al))))))))
  (fun bx =>
  .ret (b5 (t1.append [.ao false,.br [0,1,2,3] [.pure,.pure,.pure,.pure] (b2 [8,9,10,11,12,13,15])]) (bg.bb (.dV bx (aA 1 .live aE ar) (aA 1 .live aE aj) (aA 1 .iW aE aQ) (aA 1 .live aE al)))))))
theorem Uk {ei fN:Nat}{ba d6:Int}{ar aj aQ al:List Int}{nt hH:Int}{r} (h:H0 ei fN ba d6 ar aj aQ al nt hH=some r):fH bC 172 0 56 [1,1,1,1,1,1,1,1,0,1,0,0,1,0,0,1,1,0,0,0] (Hq ei fN ba d6 ar aj aQ al) (Hv ei fN ba d6 ar aj aQ al) (nt,hH) r:=fI (fun _=>TD) h
def Hr (ei fN:Nat)(ba:Int)(ar aQ:List Int):(Int×(List Int)×(List Int))→S:=fun (d6,aj,al)=>e1 [(8,.bm 0 0 0 ar.length),(9,.bm 1 0 0 ei),(10,.bm 2 0 0 fN),(11,.n .i64 ba),(12,.bm 3 0 0 al.length),(13,.n .i64 d6)] [(av 1 J ar),(av 1 J aj),[ab.mk 1 (aQ.map J) .iW],(av 1 J al)]
def Hw (ei fN:Nat)(ba:Int)(ar aQ:List Int):((List Int)×(List Int))→e5
 | a=>⟨some 2,[(8,.bm 0 0 0 ar.length),(9,.bm 1 0 0 ei),(12,.bm 2 0 0 a.2.length)],[(av 1 J ar),(av 1 J a.1),(av 1 J a.2)]⟩
def uE (ei fN:Nat)(ba:Int)(ar aQ:List Int)(d6:Int)(aj al:List Int):Option ((Int×(List Int)×(List Int))⊕((List Int)×(List Int))) :=
 if (decide ((0:Int)≤d6))=true then
  if 0≤(U (d6+ba))∧(U (d6+ba))<(ei:Nat) then
  aj[(0+(U (d6+ba)).toNat)]? >>= fun aV =>
  if 0≤(U ((U (d6+ba))-(1:Int)))∧(U ((U (d6+ba))-(1:Int)))<(ei:Nat) then
  aj[(0+(U ((U (d6+ba))-(1:Int))).toNat)]? >>= fun aF =>
  if 0≤(U (ba-(1:Int)))∧(U (ba-(1:Int)))<(fN:Nat) then
  aQ[(0+(U (ba-(1:Int))).toNat)]? >>= fun hz =>
  if hz≠0 then
  H0 ei fN ba d6 ar aj aQ al (U ((U ((U (aV*(1000000000:Int)))+aF)).tdiv hz)) ((U ((U (aV*(1000000000:Int)))+aF)).tmod hz) >>= fun cO =>
  if 0≤d6 then
  if d6.toNat≤ei then
  if 0+fN≤aQ.length then
  zE ((aQ.drop 0).take fN) cO (0+d6.toNat) (ei-d6.toNat) aj >>= fun fB =>
  if fB.1=true then
   xv ((aQ.drop 0).take fN) (0+d6.toNat) (ei-d6.toNat) fB.2 >>= fun iF =>
   if 0≤d6∧d6<(al.length:Nat) then
   if (0+d6.toNat)<al.length then
   some (.inl (U (d6-(1:Int)),iF,al.set (0+d6.toNat) (U (cO-(1:Int)))))
   else none
   else none
  else
   if 0≤d6∧d6<(al.length:Nat) then
   if (0+d6.toNat)<al.length then
   some (.inl (U (d6-(1:Int)),fB.2,al.set (0+d6.toNat) cO))
   else none
   else none
  else none
  else none
  else none
  else none
  else none
  else none
  else none
 else
  some (.inr (aj,al))
def H2 (ei fN:Nat)(ba:Int)(ar aQ:List Int)(d6:Int)(aj al:List Int):Option ((List Int)×(List Int)):=iter (fun w:Int×(List Int)×(List Int)=>uE ei fN ba ar aQ w.1 w.2.1 w.2.2) (d6,aj,al)
theorem TE {ei fN:Nat}{ba:Int}{ar aQ:List Int}{d6:Int}{aj al:List Int}:b6 (uE ei fN ba ar aQ d6 aj al) (fG bC 172 0 56 [1,1,1,1,1,1,1,1,0,1,0,0] (Hr ei fN ba ar aQ (d6,aj,al)) (Hr ei fN ba ar aQ) (Hw ei fN ba ar aQ)):=by
 unfold uE
 exact .ite (fun o =>
  .bn fun R =>
  .aC fun aV aB =>
  .bn fun aK =>
  .aC fun aF bS =>
  .bn fun bx =>
  .aC fun hz dQ =>
  .bn fun dC =>
  .aC fun cO eC =>
  .bn fun eQ =>
  .bn fun gk =>
  .bn fun hJ =>
  .aC fun fB ku =>
  (let t1:List c5:=[(ag 2),.ao true,.aH (an 5 (aq (.cK (J aV)) (bU 7 (.cK (J aF)) 2))),.aH (an 5 (aq (.cK (J hz)) (bU 6 (.cK (J hz)) 3))),.br [0,1,2,3] [.pure,.pure,.pure,.pure] (b2 [8,9,10,11,12,13,15,16]),(Hv ei fN ba d6 ar aj aQ al cO).gr,.aH (an 5 (aq (.call {aM:=[.row 1],cM:=[.pure],ac:=[ii,.bp (.b4 (.ej (((aQ.drop 0).take fN).map J))),ii],r:= .b fB.1,dT:=[(av 1 J fB.2)],ff:=ii,fR:=[.pure],dA:=[1,2],dt:=false}) []))];
  have bg:=((.bh o R.1 R.2 (cP J aB) aK.1 aK.2 (cP J bS) bx.1 (.bh bx.2 (cP J dQ) dC bx.1 bx.2 (cP J dQ) dC (aA 1 .live aE ar) (.bh (aA 1 .live aE aj) (aA 1 .iW aE aQ) (aA 1 .live aE al) (Uk eC) eQ gk (Nat.le_refl ei) (iO (cW J aQ) 0 fN) (.dV (hZ (cW J aQ) hJ) (dP aE ((aQ.drop 0).take fN)) (fs 1 aE aj) (fs 1 aE fB.2) (Uv fB ku))))):c9 _);
  .ite (fun kf =>
  .aC fun iF nO =>
  .bn fun jc =>
  .bn fun lx =>
  .ret (let aW:=(U (cO-(1:Int)));b5 (t1.append [.ao true,(ag 3),.aH (an 4 (aq (.call {aM:=[.row 1],cM:=[.pure],ac:=[ii,.bp (.b4 (.ej (((aQ.drop 0).take fN).map J)))],r:= .dK [],dT:=[(av 1 J iF)],ff:=ii,fR:=[.pure],dA:=[1,2],dt:=false}) [])),.aH (an 4 (aq .dO [])),(ag 3),.br [0,1,2,3] [.pure,.pure,.pure,.da (av 1 J (al.set (0+d6.toNat) aW))] [(8,ii),(9,ii),(10,ii),(11,ii),(12,gX ((al.set (0+d6.toNat) aW).length)),(13,ii)]]) (bg.bb (.bh kf eQ gk (Nat.le_refl ei) (iO (cW J aQ) 0 fN) (hZ (cW J aQ) hJ) (dP aE ((aQ.drop 0).take fN)) (fs 1 aE fB.2) (.bh (fs 1 aE iF) (Uw iF nO) jc.1 jc.2 (hM J lx) (hr 1) (aA 1 .live aE ar) (aA 1 .live aE iF) (.du (aA 1 .iW aE aQ) (dF 1 .live (gy (cW J al) (0+d6.toNat) aW)) (aA 1 .live aE (al.set (0+d6.toNat) aW)) (hQ (fO al) (0+d6.toNat) aW)))))))
  (fun kf =>
  .bn fun kV =>
  .bn fun nO =>
  .ret (b5 (t1.append [.ao false,.aH (an 4 (aq .dO [])),(ag 3),.br [0,1,2,3] [.pure,.pure,.pure,.da (av 1 J (al.set (0+d6.toNat) cO))] [(8,ii),(9,ii),(10,ii),(11,ii),(12,gX ((al.set (0+d6.toNat) cO).length)),(13,ii)]]) (bg.bb (.bh kf kV.1 kV.2 (hM J nO) (hr 1) (aA 1 .live aE ar) (aA 1 .live aE fB.2) (aA 1 .iW aE aQ) (.bV (dF 1 .live (gy (cW J al) (0+d6.toNat) cO)) (aA 1 .live aE (al.set (0+d6.toNat) cO)) (hQ (fO al) (0+d6.toNat) cO))))))))
  (fun o =>
  .ret (b5 [(ag 2),.ao false,.br [0,1,3] [.pure,.pure,.pure] (b2 [8,9,12])] (.du o (aA 1 .live aE ar) (aA 1 .live aE aj) (aA 1 .live aE al))))
theorem Ul {ei fN:Nat}{ba:Int}{ar aQ:List Int}{d6:Int}{aj al:List Int}{r} (h:H2 ei fN ba ar aQ d6 aj al=some r):fH bC 172 0 56 [1,1,1,1,1,1,1,1,0,1,0,0] (Hr ei fN ba ar aQ) (Hw ei fN ba ar aQ) (d6,aj,al) r:=fI (fun _=>TE) h
def sw (a9 a1:List Int):Option ((List Int)×(List Int)) :=
 pN a9 a1 >>= fun ax =>
 if (decide (ax<(0:Int)))=true then
  u3 a9 >>= fun bP =>
  some (([]:List Int),bP)
 else
  if ((len_ J a1) == (1:Int))=true then
   if 0≤(0:Int)∧(0:Int)<a1.length then
   a1[0]? >>= fun aF =>
   xm a9 aF >>= fun fQ =>
   uI (IntKind.wrap .u64 fQ.2) >>= fun hn =>
   some (fQ.1,hn)
   else none
  else
   if 0≤(U ((len_ J a1)-(1:Int)))∧(U ((len_ J a1)-(1:Int)))<a1.length then
   a1[(U ((len_ J a1)-(1:Int))).toNat]? >>= fun aF =>
   if (U (aF+(1:Int)))≠0 then
   xt a9 ([U ((1000000000:Int).tdiv (U (aF+(1:Int))))]:List Int) >>= fun bA =>
   if bA.1≤bA.2.length then
   if (bA.2.take bA.1++([0]:List Int)).length*8≤140737488355328 then
   xt a1 ([U ((1000000000:Int).tdiv (U (aF+(1:Int))))]:List Int) >>= fun gQ =>
   CU a9 gQ.1 ([U ((1000000000:Int).tdiv (U (aF+(1:Int))))]:List Int) gQ.2 (bA.2.take bA.1++([0]:List Int)) >>= fun d2 =>
   if 0≤(U (((d2.length:Nat):Int)-((gQ.1:Nat):Int)))∧(8:Int)*(U (((d2.length:Nat):Int)-((gQ.1:Nat):Int)))≤281474976710656∧(U (((d2.length:Nat):Int)-((gQ.1:Nat):Int)))<9223372036854775808 then
   H2 d2.length gQ.1 ((gQ.1:Nat):Int) ([U ((1000000000:Int).tdiv (U (aF+(1:Int))))]:List Int) gQ.2 (U ((U (((d2.length:Nat):Int)-((gQ.1:Nat):Int)))-(1:Int))) d2 (List.replicate (U (((d2.length:Nat):Int)-((gQ.1:Nat):Int))).toNat 0:List Int) >>= fun dU =>
   if 0+d2.length≤dU.1.length then
   qw ((dU.1.drop 0).take d2.length) >>= fun hl =>
   if 0≤(0:Int)∧(0:Int)<(([U ((1000000000:Int).tdiv (U (aF+(1:Int))))]:List Int).length:Nat) then
   ([U ((1000000000:Int).tdiv (U (aF+(1:Int))))]:List Int)[0]? >>= fun s8 =>
   xm hl s8 >>= fun k9 =>
   qw dU.2 >>= fun jr =>
   some (jr,k9.1)
   else none
   else none
   else none
   else none
   else none
   else none
   else none
theorem CV {a9 a1:List Int}:b6 (sw a9 a1) (fun r=>Con bC 56 [.isl 1 (a9.map J),.isl 1 (a1.map J)] [] (.dK [.isl 1 (r.1.map J),.isl 1 (r.2.map J)]) []):=by
 unfold sw
 exact .aC fun ax R =>
  (let t1:List c5:=[(ag 2),.aH (bU 2 (b3 2 (.n .i64 ax) true) 1)];
  have bg:=((.aD (xg ax R) (cn.n .i64 ax)):c9 _);
  .ite (fun ah =>
  .aC fun bP aK =>
  .ret (bY (t1.append [.ao true,.aH (bU 1 (b3 1 (.isl 1 (bP.map J)) false) 2)]) (bg.bb (.aD ah (Il bP aK))) (.comp [.b4 (.mv 1),.b4 .id])))
  (fun ah =>
  .ite (fun aB =>
  .bn fun aK =>
  .aC fun aF bS =>
  .aC fun fQ dy =>
  .aC fun hn dC =>
  .ret (bY (t1.append [.ao false,(ag 3),.ao true,.aH (an 3 (aq (.cK (J aF)) (aq (b3 2 (.dK [.isl 1 (fQ.1.map J),.n .i64 fQ.2]) false) (an 5 [])))),.aH (bU 3 (b3 1 (.isl 1 (hn.map J)) false) 2)]) (bg.bb (.fu ah aB aK.1 (eR J aK.2) (cP J bS) (LW fQ dy) (HB hn dC)))))
  (fun aB =>
  .bn fun aK =>
  .aC fun aF bS =>
  .bn fun bx =>
  .aC fun bA dQ =>
  .bn fun dC =>
  .bn fun fr =>
  .aC fun gQ eQ =>
  .aC fun d2 hJ =>
  .bn fun fS =>
  .aC fun dU kf =>
  .bn fun kV =>
  .aC fun hl jc =>
  .bn fun lx =>
  .aC fun s8 nh =>
  .aC fun k9 mr =>
  .aC fun jr ly =>
  .ret (let aW:=(U ((1000000000:Int).tdiv (U (aF+(1:Int)))));let bi:=(U (((d2.length:Nat):Int)-((gQ.1:Nat):Int)));let cd:=(bA.2.take bA.1++([0]:List Int));let cV:=(List.replicate bi.toNat 0:List Int);let dX:=(aA 1 .live aE ([aW]:List Int));bY (t1.append [.ao false,(ag 3),.ao false,.aH (bU 5 (.cK (J aF)) 4),.aH (an 2 (aq (.call {aM:=[],cM:=[],ac:=[ii,.bp (.b4 (.ej (([aW]:List Int).map J)))],r:= .bm 0 0 0 bA.1,dT:=[(av 1 J bA.2)],ff:=ii,fR:=[.pure],dA:=[17],dt:=true}) (an 1 (aq (.bb (cd.length)) (bU 2 (.call {aM:=[],cM:=[],ac:=[ii,.bp (.b4 (.ej (([aW]:List Int).map J)))],r:= .bm 0 0 0 gQ.1,dT:=[(av 1 J gQ.2)],ff:=ii,fR:=[.pure],dA:=[17],dt:=true}) 2))))),.br [17,23,26] [.da (av 1 J ([aW]:List Int)),.da (av 1 J cd),.pure] [(0,ii),(8,gX (([aW]:List Int).length)),(9,ii),(10,ii)],(Hu a9 gQ.1 ([aW]:List Int) gQ.2 d2).gr,(ag 3),(ag 6),(ag 6),.br [0,1,2,10] [.pure,.pure,.pure,.da (av 1 J cV)] [(8,ii),(9,ii),(10,ii),(11,ii),(12,gX (cV.length)),(13,ii)],.iW 2,.br [0,1,2,3] [.pure,.pure,.pure,.pure] (b2 [8,9,10,11,12,13]),(Hw d2.length gQ.1 ((gQ.1:Nat):Int) ([aW]:List Int) gQ.2 dU).gr,.iW 1,.aH (an 1 (aq (.call {ac:=[.bp (.b4 (.ej (((dU.1.drop 0).take d2.length).map J)))],r:= .isl 1 (hl.map J),dt:=false,dA:=[1]}) (an 2 (aq (.cK (J s8)) (aq (b3 2 (.dK [.isl 1 (k9.1.map J),.n .i64 k9.2]) false) (an 5 [])))))),.iW 2,.aH (bU 1 (.call {ac:=[.bp (.b4 (.ej (dU.2.map J)))],r:= .isl 1 (jr.map J),dt:=false,dA:=[2]}) 3)]) (bg.bb (.bh ah aB aK.1 (eR J aK.2) (cP J bS) bx (pg (show [[.n .i64 (U ((1000000000:Int).tdiv (U (aF+(1:Int)))))]]=(([(U ((1000000000:Int).tdiv (U (aF+(1:Int)))))]:List Int)).map J from rfl) (show 1=([(U ((1000000000:Int).tdiv (U (aF+(1:Int)))))]:List Int).length from rfl)) (m1 J aW) (.bh (dP aE ([aW]:List Int)) (fs 1 aE bA.2) (L9 bA dQ) (cn.bm 0 0 0 bA.1) ((xL (nZ (nu rZ) xV) xU):rs [(av 1 J bA.2)]) (m1 J 0) (hZ (cW J bA.2) dC) (aaN J dC 0) (.bh fr (pg (show [[.n .i64 (U ((1000000000:Int).tdiv (U (aF+(1:Int)))))]]=(([(U ((1000000000:Int).tdiv (U (aF+(1:Int)))))]:List Int)).map J from rfl) (show 1=([(U ((1000000000:Int).tdiv (U (aF+(1:Int)))))]:List Int).length from rfl)) (m1 J aW) (dP aE ([aW]:List Int)) (fs 1 aE gQ.2) (L9 gQ eQ) (cn.bm 0 0 0 gQ.1) ((xL (nZ (nu rZ) xV) xU):rs [(av 1 J gQ.2)]) (.bh (dF 1 .live (show [[.n .i64 (U ((1000000000:Int).tdiv (U (aF+(1:Int)))))]]=(([(U ((1000000000:Int).tdiv (U (aF+(1:Int)))))]:List Int)).map J from rfl)) dX (dF 1 .live (IG (cW J bA.2) bA.1 (rG J 0))) (aA 1 .live aE cd) (aA 1 .live aE gQ.2) (show 1=([(U ((1000000000:Int).tdiv (U (aF+(1:Int)))))]:List Int).length from rfl) (Uj hJ) fS.1 (.bh (Int.le_refl bi) fS.2.1 fS.2.2 dX (aA 1 .live aE d2) (aA 1 .live aE gQ.2) (dF 1 .live (lE J bi.toNat 0)) (aA 1 .live aE cV) (.bh (l3 bi.toNat (0:Int)) dX (aA 1 .live aE d2) (aA 1 .iW aE gQ.2) (aA 1 .live aE cV) (Ul kf) (iO (cW J dU.1) 0 d2.length) (hZ (cW J dU.1) kV) (.bh (dP aE ((dU.1.drop 0).take d2.length)) (uJ hl jc) lx.1 lx.2 (cP J nh) (LW k9 mr) (jT J dU.2) (jg J dU.2) (.aD (dP aE dU.2) (uJ jr ly))))))))))))))
def tr (cy eM:bc):Option bc :=
 sw cy.cS eM.cS >>= fun ax =>
 lj (!(cy.dg == eM.dg)) ax.1 >>= fun a6 =>
 some a6
theorem Gn {cy eM:bc}:b6 (tr cy eM) (fun r=>Con bC 96 [.agg (aN cy),.agg (aN eM)] [] (.agg (aN r)) []):=by
 unfold tr
 exact .aC fun ax R =>
  .aC fun a6 aB =>
  .ret (bY [(ag 3),.aH (bU 4 (b3 2 (.dK [.isl 1 (ax.1.map J),.isl 1 (ax.2.map J)]) false) 5),.aH (bU 6 (b3 2 (.agg (aN a6)) false) 1)] (.aD (CV ax R) (rR a6 aB)))
def FV (dh cm:Int)(gB jI:bX)(jm iV oQ:Int)(bd:Bool)(aI:List Int)(c8:Int)(aj:List bX)(al:List Int)(a8:List Bool)(i7:Bool)(i5:List Int)(n8:Bool)(n2:List Int):(Int×(List (List bc)))→S:=fun (fy,bz)=>e1 [(0,.ref 0 0 0 0),(1,.n .i64 dh),(2,.n .i64 cm),(6,mZ 2 0 2 gB),(7,.ref 5 0 0 0),(9,mZ 2 0 2 jI),(10,.ref 6 0 0 0),(30,.bm 1 0 0 aj.length),(31,.n .i64 jm),(32,.n .i64 iV),(45,.n .i64 oQ),(46,.n .i64 fy)] [[ab.mk 6 [(eL 1 0 0 aj.length bd aI 3 0 0 al.length c8 4 0 0 a8.length)] .live],(av 1 (bR 2 0 2) aj),(c6 2 aN bz),(av 1 J al),(av 1 dM a8),[ab.mk 2 [[.b i7,.isl 1 (i5.map J)]] .live],[ab.mk 2 [[.b n8,.isl 1 (n2.map J)]] .live]]
def F2 (dh cm:Int)(gB jI:bX)(jm iV oQ:Int)(bd:Bool)(aI:List Int)(c8:Int)(aj:List bX)(al:List Int)(a8:List Bool)(i7:Bool)(i5:List Int)(n8:Bool)(n2:List Int):(List (List bc))→e5
 | a=>⟨some 2,[(0,.ref 0 0 0 0),(1,.n .i64 dh),(2,.n .i64 cm),(6,mZ 2 0 2 gB),(7,.ref 5 0 0 0),(30,.bm 1 0 0 aj.length),(31,.n .i64 jm),(32,.n .i64 iV)],[[ab.mk 6 [(eL 1 0 0 aj.length bd aI 3 0 0 al.length c8 4 0 0 a8.length)] .live],(av 1 (bR 2 0 2) aj),(c6 2 aN a),(av 1 J al),(av 1 dM a8),[ab.mk 2 [[.b i7,.isl 1 (i5.map J)]] .live]]⟩
def wG (dh cm:Int)(gB jI:bX)(jm iV oQ:Int)(bd:Bool)(aI:List Int)(c8:Int)(aj:List bX)(al:List Int)(a8:List Bool)(i7:Bool)(i5:List Int)(n8:Bool)(n2:List Int)(fy:Int)(bz:List (List bc)):Option ((Int×(List (List bc)))⊕((List (List bc)))) :=
 if (decide (fy<oQ))=true then
  jI >>= fun ef =>
  bz[ef.1]? >>= fun jP =>
  if 0≤fy∧fy<(ef.2:Nat) then
  jP[(0+fy.toNat)]? >>= fun gx =>
  oy gx (⟨i7,i5⟩:bc) >>= fun bA =>
  pb (⟨n8,n2⟩:bc) >>= fun eU =>
  if (eU != (0:Int))=true then
   gB >>= fun vI =>
   bz[vI.1]? >>= fun yP =>
   if 0≤fy∧fy<(vI.2:Nat) then
   yP[(0+fy.toNat)]? >>= fun rB =>
   pb rB >>= fun hl =>
   if (hl != (0:Int))=true then
    oy (⟨n8,n2⟩:bc) rB >>= fun qd =>
    uC bA qd >>= fun k9 =>
    tr k9 (⟨bd,aI⟩:bc) >>= fun jr =>
    some (.inl (U (fy+(1:Int)),bz.set ef.1 (jP.set (0+fy.toNat) jr)))
   else
    tr bA (⟨bd,aI⟩:bc) >>= fun qd =>
    some (.inl (U (fy+(1:Int)),bz.set ef.1 (jP.set (0+fy.toNat) qd)))
   else none
  else
   tr bA (⟨bd,aI⟩:bc) >>= fun dG =>
   some (.inl (U (fy+(1:Int)),bz.set ef.1 (jP.set (0+fy.toNat) dG)))
  else none
 else
  some (.inr bz)
def B9 (dh cm:Int)(gB jI:bX)(jm iV oQ:Int)(bd:Bool)(aI:List Int)(c8:Int)(aj:List bX)(al:List Int)(a8:List Bool)(i7:Bool)(i5:List Int)(n8:Bool)(n2:List Int)(fy:Int)(bz:List (List bc)):Option ((List (List bc))):=iter (fun w:Int×(List (List bc))=>wG dh cm gB jI jm iV oQ bd aI c8 aj al a8 i7 i5 n8 n2 w.1 w.2) (fy,bz)
theorem Sz {dh cm:Int}{gB jI:bX}{jm iV oQ:Int}{bd:Bool}{aI:List Int}{c8:Int}{aj:List bX}{al:List Int}{a8:List Bool}{i7:Bool}{i5:List Int}{n8:Bool}{n2:List Int}{fy:Int}{bz:List (List bc)}:b6 (wG dh cm gB jI jm iV oQ bd aI c8 aj al a8 i7 i5 n8 n2 fy bz) (fG bC 128 5 87 [1,1,0,1,0,0,1,1,0,0,1,1,1,1,0,0] (FV dh cm gB jI jm iV oQ bd aI c8 aj al a8 i7 i5 n8 n2 (fy,bz)) (FV dh cm gB jI jm iV oQ bd aI c8 aj al a8 i7 i5 n8 n2) (F2 dh cm gB jI jm iV oQ bd aI c8 aj al a8 i7 i5 n8 n2)):=by
 unfold wG
 exact .ite (fun o =>
  .aC fun ef ah =>
  .aC fun jP aK =>
  .bn fun bF =>
  .aC fun gx bx =>
  .aC fun bA dQ =>
  .aC fun eU fr =>
  (let hT:=lI (iN .live 2 aN bz) lg aK;let t1:List c5:=[(ag 1),.ao true,(ag 2),.aH (an 2 (aq (.fX 49 (.bm 2 (ef.1+0) 0 ef.2) (.hd (ab.mk 2 (jP.map aN) .live) [])) (aq (.hd (ab.mk 2 (jP.map aN) .live) (aN gx)) (bU 1 (b3 2 (.agg (aN bA)) false) 2))))];
  have bg:=((.bh o (oB (ed:=2) (c:=0) (sz:=2) ah) hT bF.1 bF.2 hT (cP aN bx) (uy bA dQ) (.aD (tq eU fr) (cn.n .i64 eU))):c9 _);
  .ite (fun eC =>
  .aC fun vI gk =>
  .aC fun yP fS =>
  .bn fun ku =>
  .aC fun rB kV =>
  .aC fun hl jc =>
  (let hy:=lI (iN .live 2 aN bz) lg fS;let t3:List c5:=t1.append [.aH (an 1 (aq (b3 1 (.n .i64 eU) true) (an 4 (aq (.fX 59 (.bm 2 (vI.1+0) 0 vI.2) (.hd (ab.mk 2 (yP.map aN) .live) [])) (aq (.hd (ab.mk 2 (yP.map aN) .live) (aN rB)) (aq (b3 1 (.n .i64 hl) true) (an 1 (aq (.ao true) []))))))))];
  have f7:=bg.bb (.bh eC eC eC (oB (ed:=2) (c:=0) (sz:=2) gk) hy ku.1 ku.2 eC (.fu hy (cP aN kV) eC (tq hl jc) (cn.n .i64 hl) eC eC));
  .ite (fun lx =>
  .aC fun qd nh =>
  .aC fun k9 mr =>
  .aC fun jr ly =>
  .ret (let aW:=lI (iN .live 2 aN bz) lg fS;let bi:=lI (iN .live 2 aN bz) lg aK;let cd:=cX [0,1,2,3,4,5,6];b5 (t3.append [.ao true,.aH (an 4 (aq (.fX 68 (.bm 2 (vI.1+0) 0 vI.2) (.hd (ab.mk 2 (yP.map aN) .live) [])) (aq (.hd (ab.mk 2 (yP.map aN) .live) (aN rB)) (aq (b3 2 (.agg (aN qd)) false) (aq (b3 2 (.agg (aN k9)) false) (an 1 [])))))),.aH (an 7 (aq (b3 2 (.agg (aN jr)) false) (aq (.fX 74 (.bm 2 (ef.1+0) 0 ef.2) (.hd (ab.mk 2 (jP.map aN) .live) [])) (aq (.hd (ab.mk 2 (jP.map aN) .live) (aN gx)) [])))),(ag 2),.br [0,1,2,3,4,5,6] [.box [.id,.id,.id,.id,.id,.id],.bt (av 1 (bR 2 0 2) aj),.bt (c6 2 aN (bz.set ef.1 (jP.set (0+fy.toNat) jr))),.pure,.pure,.box [.id,.id],.box [.id,.id]] (b2 [0,1,2,6,7,9,10,30,31,32,45,46])]) (f7.bb (.bh lx (oB (ed:=2) (c:=0) (sz:=2) gk) aW ku.1 ku.2 aW (cP aN kV) (uy qd nh) (.bh (LJ k9 mr) (Gn jr ly) (oB (ed:=2) (c:=0) (sz:=2) ah) bi bF.1 bF.2 bi (cP aN bx) (.du (eP cd 2 2 0 2 rfl aj) (qy (bQ:=cd) (rW (iN .live 2 aN bz) ef.1 (lD (cW aN jP) (0+fy.toNat) jr (rfl:(setCells (aN gx) 0 (aN jr))=aN jr))) (n5 eb)) (aA 1 .live aE al) (aA 1 .live d5 a8)))))))
  (fun lx =>
  .aC fun qd nh =>
  .ret (let cV:=lI (iN .live 2 aN bz) lg aK;let dX:=cX [0,1,2,3,4,5,6];b5 (t3.append [.ao false,.aH (an 7 (aq (b3 2 (.agg (aN qd)) false) (aq (.fX 74 (.bm 2 (ef.1+0) 0 ef.2) (.hd (ab.mk 2 (jP.map aN) .live) [])) (aq (.hd (ab.mk 2 (jP.map aN) .live) (aN gx)) [])))),(ag 2),.br [0,1,2,3,4,5,6] [.box [.id,.id,.id,.id,.id,.id],.bt (av 1 (bR 2 0 2) aj),.bt (c6 2 aN (bz.set ef.1 (jP.set (0+fy.toNat) qd))),.pure,.pure,.box [.id,.id],.box [.id,.id]] (b2 [0,1,2,6,7,9,10,30,31,32,45,46])]) (f7.bb (.bh lx (Gn qd nh) (oB (ed:=2) (c:=0) (sz:=2) ah) cV bF.1 bF.2 cV (cP aN bx) (.du (eP dX 2 2 0 2 rfl aj) (qy (bQ:=dX) (rW (iN .live 2 aN bz) ef.1 (lD (cW aN jP) (0+fy.toNat) qd (rfl:(setCells (aN gx) 0 (aN qd))=aN qd))) (n5 eb)) (aA 1 .live aE al) (aA 1 .live d5 a8))))))))
  (fun eC =>
  .aC fun dG gk =>
  .ret (let fD:=lI (iN .live 2 aN bz) lg aK;let gR:=cX [0,1,2,3,4,5,6];b5 (t1.append [.aH (an 1 (aq (b3 1 (.n .i64 eU) true) (an 2 (c3 6 (aq (.ao false) []))))),.ao false,.aH (an 7 (aq (b3 2 (.agg (aN dG)) false) (aq (.fX 74 (.bm 2 (ef.1+0) 0 ef.2) (.hd (ab.mk 2 (jP.map aN) .live) [])) (aq (.hd (ab.mk 2 (jP.map aN) .live) (aN gx)) [])))),(ag 2),.br [0,1,2,3,4,5,6] [.box [.id,.id,.id,.id,.id,.id],.bt (av 1 (bR 2 0 2) aj),.bt (c6 2 aN (bz.set ef.1 (jP.set (0+fy.toNat) dG))),.pure,.pure,.box [.id,.id],.box [.id,.id]] (b2 [0,1,2,6,7,9,10,30,31,32,45,46])]) (bg.bb (.bh eC eC eC eC eC eC eC d3 (.bh (Gn dG gk) (oB (ed:=2) (c:=0) (sz:=2) ah) fD bF.1 bF.2 fD (cP aN bx) (eP gR 2 2 0 2 rfl aj) (.bV (qy (bQ:=gR) (rW (iN .live 2 aN bz) ef.1 (lD (cW aN jP) (0+fy.toNat) dG (rfl:(setCells (aN gx) 0 (aN dG))=aN dG))) (n5 eb)) (aA 1 .live aE al) (aA 1 .live d5 a8)))))))))
  (fun o =>
  .ret (let e2:=cX [0,1,2,3,4,5];b5 [(ag 1),.ao false,.br [0,1,2,3,4,5] [.box [.id,.id,.id,.id,.id,.id],.bt (av 1 (bR 2 0 2) aj),.bt (c6 2 aN bz),.pure,.pure,.box [.id,.id]] (b2 [0,1,2,6,7,30,31,32])] (.dV o (eP e2 2 2 0 2 rfl aj) (eW e2 2 eb bz) (aA 1 .live aE al) (aA 1 .live d5 a8))))
theorem SR {dh cm:Int}{gB jI:bX}{jm iV oQ:Int}{bd:Bool}{aI:List Int}{c8:Int}{aj:List bX}{al:List Int}{a8:List Bool}{i7:Bool}{i5:List Int}{n8:Bool}{n2:List Int}{fy:Int}{bz:List (List bc)}{r} (h:B9 dh cm gB jI jm iV oQ bd aI c8 aj al a8 i7 i5 n8 n2 fy bz=some r):fH bC 128 5 87 [1,1,0,1,0,0,1,1,0,0,1,1,1,1,0,0] (FV dh cm gB jI jm iV oQ bd aI c8 aj al a8 i7 i5 n8 n2) (F2 dh cm gB jI jm iV oQ bd aI c8 aj al a8 i7 i5 n8 n2) (fy,bz) r:=fI (fun _=>Sz) h
def FW (dh cm:Int)(gB:bX)(jm:Int)(bd:Bool)(aI:List Int)(c8:Int)(aj:List bX)(al:List Int)(a8:List Bool)(i7:Bool)(i5:List Int):(Int×(List (List bc)))→S:=fun (iV,bz)=>e1 [(0,.ref 0 0 0 0),(1,.n .i64 dh),(2,.n .i64 cm),(6,mZ 2 0 2 gB),(7,.ref 5 0 0 0),(30,.bm 1 0 0 aj.length),(31,.n .i64 jm),(32,.n .i64 iV)] [[ab.mk 6 [(eL 1 0 0 aj.length bd aI 3 0 0 al.length c8 4 0 0 a8.length)] .live],(av 1 (bR 2 0 2) aj),(c6 2 aN bz),(av 1 J al),(av 1 dM a8),[ab.mk 2 [[.b i7,.isl 1 (i5.map J)]] .live]]
def F3 (dh cm:Int)(gB:bX)(jm:Int)(bd:Bool)(aI:List Int)(c8:Int)(aj:List bX)(al:List Int)(a8:List Bool)(i7:Bool)(i5:List Int):(List (List bc))→e5
 | a=>⟨some 0,[(0,.ref 0 0 0 0),(1,.n .i64 dh),(2,.n .i64 cm),(7,.ref 5 0 0 0)],[[ab.mk 6 [(eL 1 0 0 aj.length bd aI 3 0 0 al.length c8 4 0 0 a8.length)] .live],(av 1 (bR 2 0 2) aj),(c6 2 aN a),(av 1 J al),(av 1 dM a8),[ab.mk 2 [[.b i7,.isl 1 (i5.map J)]] .live]]⟩
def wH (dh cm:Int)(gB:bX)(jm:Int)(bd:Bool)(aI:List Int)(c8:Int)(aj:List bX)(al:List Int)(a8:List Bool)(i7:Bool)(i5:List Int)(iV:Int)(bz:List (List bc)):Option ((Int×(List (List bc)))⊕((List (List bc)))) :=
 if (decide (iV<jm))=true then
  if 0≤iV∧iV<(aj.length:Nat) then
  aj[(0+iV.toNat)]? >>= fun aV =>
  if (iV == dh)=true then
   some (.inl (U (iV+(1:Int)),bz))
  else
   aV >>= fun q2 =>
   bz[q2.1]? >>= fun BK =>
   if 0≤cm∧cm<(q2.2:Nat) then
   BK[(0+cm.toNat)]? >>= fun qc =>
   B9 dh cm gB aV jm iV ((q2.2:Nat):Int) bd aI c8 aj al a8 i7 i5 qc.dg qc.cS 0 bz >>= fun gQ =>
   some (.inl (U (iV+(1:Int)),gQ))
   else none
  else none
 else
  some (.inr bz)
def Ca (dh cm:Int)(gB:bX)(jm:Int)(bd:Bool)(aI:List Int)(c8:Int)(aj:List bX)(al:List Int)(a8:List Bool)(i7:Bool)(i5:List Int)(iV:Int)(bz:List (List bc)):Option ((List (List bc))):=iter (fun w:Int×(List (List bc))=>wH dh cm gB jm bd aI c8 aj al a8 i7 i5 w.1 w.2) (iV,bz)
theorem SA {dh cm:Int}{gB:bX}{jm:Int}{bd:Bool}{aI:List Int}{c8:Int}{aj:List bX}{al:List Int}{a8:List Bool}{i7:Bool}{i5:List Int}{iV:Int}{bz:List (List bc)}:b6 (wH dh cm gB jm bd aI c8 aj al a8 i7 i5 iV bz) (fG bC 128 5 87 [1,1,0,1,0,0] (FW dh cm gB jm bd aI c8 aj al a8 i7 i5 (iV,bz)) (FW dh cm gB jm bd aI c8 aj al a8 i7 i5) (F3 dh cm gB jm bd aI c8 aj al a8 i7 i5)):=by
 unfold wH
 exact .ite (fun o =>
  .bn fun R =>
  .aC fun aV aB =>
  (let t1:List c5:=[(ag 1),.ao true,.aH (bU 2 (.cK ((bR 2 0 2) aV)) 2),(ag 3)];
  have bg:=((.du o R.1 R.2 (cP (bR 2 0 2) aB)):c9 _);
  .ite (fun aK =>
  .ret (let aW:=cX [0,1,2,3,4,5];b5 (t1.append [.ao true,(ag 2),.br [0,1,2,3,4,5] [.box [.id,.id,.id,.id,.id,.id],.bt (av 1 (bR 2 0 2) aj),.bt (c6 2 aN bz),.pure,.pure,.box [.id,.id]] (b2 [0,1,2,6,7,30,31,32])]) (bg.bb (.dV aK (eP aW 2 2 0 2 rfl aj) (eW aW 2 eb bz) (aA 1 .live aE al) (aA 1 .live d5 a8)))))
  (fun aK =>
  .aC fun q2 bS =>
  .aC fun BK dy =>
  .bn fun dQ =>
  .aC fun qc fr =>
  .aC fun gQ eQ =>
  .ret (let bi:=lI (iN .live 2 aN bz) lg dy;let cd:=cX [0,1,2,3,4,5,19];let cV:=cX [0,1,2,3,4,5];b5 (t1.append [.ao false,.aH (an 2 (aq (.fX 40 (.bm 2 (q2.1+0) 0 q2.2) (.hd (ab.mk 2 (BK.map aN) .live) [])) (aq (.hd (ab.mk 2 (BK.map aN) .live) (aN qc)) (an 2 [])))),.aH (bU 1 (.fX 44 (.bm 2 (q2.1+0) 0 q2.2) (.hd (ab.mk 2 (BK.map aN) .live) [])) 1),.br [0,1,2,3,4,5,19] [.box [.id,.id,.id,.id,.id,.id],.bt (av 1 (bR 2 0 2) aj),.bt (c6 2 aN bz),.pure,.pure,.box [.id,.id],.box [.id,.id]] (b2 [0,1,2,6,7,9,10,30,31,32,45,46]),(F2 dh cm gB aV jm iV ((q2.2:Nat):Int) bd aI c8 aj al a8 i7 i5 qc.dg qc.cS gQ).gr,(ag 2),.br [0,1,2,3,4,5] [.box [.id,.id,.id,.id,.id,.id],.bt (av 1 (bR 2 0 2) aj),.bt (c6 2 aN gQ),.pure,.pure,.box [.id,.id]] (b2 [0,1,2,6,7,30,31,32])]) (bg.bb (.bh aK (oB (ed:=2) (c:=0) (sz:=2) bS) bi dQ.1 dQ.2 bi (cP aN fr) (oB (ed:=2) (c:=0) (sz:=2) bS) (.bh bi (eP cd 2 2 0 2 rfl aj) (eW cd 2 eb bz) (aA 1 .live aE al) (aA 1 .live d5 a8) (SR eQ) (eP cV 2 2 0 2 rfl aj) (eW cV 2 eb gQ) (.aD (aA 1 .live aE al) (aA 1 .live d5 a8)))))))))
  (fun o =>
  .ret (let dX:=cX [0,1,2,3,4,5];b5 [(ag 1),.ao false,.br [0,1,2,3,4,5] [.box [.id,.id,.id,.id,.id,.id],.bt (av 1 (bR 2 0 2) aj),.bt (c6 2 aN bz),.pure,.pure,.box [.id,.id]] (b2 [0,1,2,7])] (.dV o (eP dX 2 2 0 2 rfl aj) (eW dX 2 eb bz) (aA 1 .live aE al) (aA 1 .live d5 a8))))
theorem SS {dh cm:Int}{gB:bX}{jm:Int}{bd:Bool}{aI:List Int}{c8:Int}{aj:List bX}{al:List Int}{a8:List Bool}{i7:Bool}{i5:List Int}{iV:Int}{bz:List (List bc)}{r} (h:Ca dh cm gB jm bd aI c8 aj al a8 i7 i5 iV bz=some r):fH bC 128 5 87 [1,1,0,1,0,0] (FW dh cm gB jm bd aI c8 aj al a8 i7 i5) (F3 dh cm gB jm bd aI c8 aj al a8 i7 i5) (iV,bz) r:=fI (fun _=>SA) h
def FX (jI:bX)(ji jj oF:Int)(bd:Bool)(aI:List Int)(c8:Int)(aj:List bX)(al:List Int)(a8:List Bool):(Int×(List (List bc)))→S:=fun (m5,bz)=>e1 [(14,mZ 2 0 2 jI),(107,.bm 1 0 0 aj.length),(108,.n .i64 ji),(109,.n .i64 jj),(114,.n .i64 oF),(115,.n .i64 m5)] [[ab.mk 6 [(eL 1 0 0 aj.length bd aI 3 0 0 al.length c8 4 0 0 a8.length)] .live],(av 1 (bR 2 0 2) aj),(c6 2 aN bz),(av 1 J al),(av 1 dM a8)]
def F4 (jI:bX)(ji jj oF:Int)(bd:Bool)(aI:List Int)(c8:Int)(aj:List bX)(al:List Int)(a8:List Bool):(List (List bc))→e5
 | a=>⟨some 6,[(107,.bm 1 0 0 aj.length),(108,.n .i64 ji),(109,.n .i64 jj)],[[ab.mk 6 [(eL 1 0 0 aj.length bd aI 3 0 0 al.length c8 4 0 0 a8.length)] .live],(av 1 (bR 2 0 2) aj),(c6 2 aN a),(av 1 J al),(av 1 dM a8)]⟩
def wI (jI:bX)(ji jj oF:Int)(bd:Bool)(aI:List Int)(c8:Int)(aj:List bX)(al:List Int)(a8:List Bool)(m5:Int)(bz:List (List bc)):Option ((Int×(List (List bc)))⊕((List (List bc)))) :=
 if (decide (m5<oF))=true then
  jI >>= fun ef =>
  bz[ef.1]? >>= fun jP =>
  if 0≤m5∧m5<(ef.2:Nat) then
  jP[(0+m5.toNat)]? >>= fun gx =>
  pM gx >>= fun bA =>
  some (.inl (U (m5+(1:Int)),bz.set ef.1 (jP.set (0+m5.toNat) bA)))
  else none
 else
  some (.inr bz)
def Cb (jI:bX)(ji jj oF:Int)(bd:Bool)(aI:List Int)(c8:Int)(aj:List bX)(al:List Int)(a8:List Bool)(m5:Int)(bz:List (List bc)):Option ((List (List bc))):=iter (fun w:Int×(List (List bc))=>wI jI ji jj oF bd aI c8 aj al a8 w.1 w.2) (m5,bz)
theorem SB {jI:bX}{ji jj oF:Int}{bd:Bool}{aI:List Int}{c8:Int}{aj:List bX}{al:List Int}{a8:List Bool}{m5:Int}{bz:List (List bc)}:b6 (wI jI ji jj oF bd aI c8 aj al a8 m5 bz) (fG bC 128 5 87 [1,1,1,1,1,1,1,1,0,0,1,1,0,0,1,1,0,0] (FX jI ji jj oF bd aI c8 aj al a8 (m5,bz)) (FX jI ji jj oF bd aI c8 aj al a8) (F4 jI ji jj oF bd aI c8 aj al a8)):=by
 unfold wI
 exact .ite (fun o =>
  .aC fun ef ah =>
  .aC fun jP aK =>
  .bn fun bF =>
  .aC fun gx bx =>
  .aC fun bA dQ =>
  .ret (let aW:=lI (iN .live 2 aN bz) lg aK;b5 [(ag 1),.ao true,(ag 2),.aH (an 4 (aq (.fX 120 (.bm 2 (ef.1+0) 0 ef.2) (.hd (ab.mk 2 (jP.map aN) .live) [])) (aq (.hd (ab.mk 2 (jP.map aN) .live) (aN gx)) (aq (b3 1 (.agg (aN bA)) false) (aq (.fX 118 (.bm 2 (ef.1+0) 0 ef.2) (.hd (ab.mk 2 (jP.map aN) .live) [])) (aq (.hd (ab.mk 2 (jP.map aN) .live) (aN gx)) [])))))),(ag 2),.br [0,1,2,3,4] [.box [.id,.id,.id,.id,.id,.id],.bt (av 1 (bR 2 0 2) aj),.bt (c6 2 aN (bz.set ef.1 (jP.set (0+m5.toNat) bA))),.pure,.pure] (b2 [14,107,108,109,114,115])] (.bh o (oB (ed:=2) (c:=0) (sz:=2) ah) aW bF.1 bF.2 aW (cP aN bx) (B8 bA dQ) (.bh (oB (ed:=2) (c:=0) (sz:=2) ah) aW bF.1 bF.2 aW (cP aN bx) (eP (cX [0,1,2,3,4]) 2 2 0 2 rfl aj) (qy (bQ:=(cX [0,1,2,3,4])) (rW (iN .live 2 aN bz) ef.1 (lD (cW aN jP) (0+m5.toNat) bA (rfl:(setCells (aN gx) 0 (aN bA))=aN bA))) (n5 eb)) (.aD (aA 1 .live aE al) (aA 1 .live d5 a8))))))
  (fun o =>
  .ret (b5 [(ag 1),.ao false,.br [0,1,2,3,4] [.box [.id,.id,.id,.id,.id,.id],.bt (av 1 (bR 2 0 2) aj),.bt (c6 2 aN bz),.pure,.pure] (b2 [107,108,109])] (.dV o (eP (cX [0,1,2,3,4]) 2 2 0 2 rfl aj) (eW (cX [0,1,2,3,4]) 2 eb bz) (aA 1 .live aE al) (aA 1 .live d5 a8))))
theorem SU {jI:bX}{ji jj oF:Int}{bd:Bool}{aI:List Int}{c8:Int}{aj:List bX}{al:List Int}{a8:List Bool}{m5:Int}{bz:List (List bc)}{r} (h:Cb jI ji jj oF bd aI c8 aj al a8 m5 bz=some r):fH bC 128 5 87 [1,1,1,1,1,1,1,1,0,0,1,1,0,0,1,1,0,0] (FX jI ji jj oF bd aI c8 aj al a8) (F4 jI ji jj oF bd aI c8 aj al a8) (m5,bz) r:=fI (fun _=>SB) h
def FY (ji:Int)(bd:Bool)(aI:List Int)(c8:Int)(aj:List bX)(al:List Int)(a8:List Bool):(Int×(List (List bc)))→S:=fun (jj,bz)=>e1 [(107,.bm 1 0 0 aj.length),(108,.n .i64 ji),(109,.n .i64 jj)] [[ab.mk 6 [(eL 1 0 0 aj.length bd aI 3 0 0 al.length c8 4 0 0 a8.length)] .live],(av 1 (bR 2 0 2) aj),(c6 2 aN bz),(av 1 J al),(av 1 dM a8)]
def F5 (ji:Int)(bd:Bool)(aI:List Int)(c8:Int)(aj:List bX)(al:List Int)(a8:List Bool):(List (List bc))→e5
 | a=>⟨some 4,[],[[ab.mk 6 [(eL 1 0 0 aj.length bd aI 3 0 0 al.length c8 4 0 0 a8.length)] .live],(av 1 (bR 2 0 2) aj),(c6 2 aN a),(av 1 J al),(av 1 dM a8)]⟩
def wJ (ji:Int)(bd:Bool)(aI:List Int)(c8:Int)(aj:List bX)(al:List Int)(a8:List Bool)(jj:Int)(bz:List (List bc)):Option ((Int×(List (List bc)))⊕((List (List bc)))) :=
 if (decide (jj<ji))=true then
  if 0≤jj∧jj<(aj.length:Nat) then
  aj[(0+jj.toNat)]? >>= fun aV =>
  aV >>= fun nn =>
  bz[nn.1]? >>= fun lA =>
  Cb aV ji jj ((nn.2:Nat):Int) bd aI c8 aj al a8 0 bz >>= fun bA =>
  some (.inl (U (jj+(1:Int)),bA))
  else none
 else
  some (.inr bz)
def zh (ji:Int)(bd:Bool)(aI:List Int)(c8:Int)(aj:List bX)(al:List Int)(a8:List Bool)(jj:Int)(bz:List (List bc)):Option ((List (List bc))):=iter (fun w:Int×(List (List bc))=>wJ ji bd aI c8 aj al a8 w.1 w.2) (jj,bz)
theorem SC {ji:Int}{bd:Bool}{aI:List Int}{c8:Int}{aj:List bX}{al:List Int}{a8:List Bool}{jj:Int}{bz:List (List bc)}:b6 (wJ ji bd aI c8 aj al a8 jj bz) (fG bC 128 5 87 [1,1,1,1,1,1,1,1,0,0] (FY ji bd aI c8 aj al a8 (jj,bz)) (FY ji bd aI c8 aj al a8) (F5 ji bd aI c8 aj al a8)):=by
 unfold wJ
 exact .ite (fun o =>
  .bn fun R =>
  .aC fun aV aB =>
  .aC fun nn bF =>
  .aC fun lA bx =>
  .aC fun bA dQ =>
  .ret (let aW:=cX [0,1,2,3,4];let bi:=eP aW 2 2 0 2 rfl aj;b5 [(ag 1),.ao true,.aH (bU 1 (.cK ((bR 2 0 2) aV)) 1),.aH (bU 1 (.fX 113 (.bm 2 (nn.1+0) 0 nn.2) (.hd (ab.mk 2 (lA.map aN) .live) [])) 1),.br [0,1,2,3,4] [.box [.id,.id,.id,.id,.id,.id],.bt (av 1 (bR 2 0 2) aj),.bt (c6 2 aN bz),.pure,.pure] (b2 [14,107,108,109,114,115]),(F4 aV ji jj ((nn.2:Nat):Int) bd aI c8 aj al a8 bA).gr,(ag 2),.br [0,1,2,3,4] [.box [.id,.id,.id,.id,.id,.id],.bt (av 1 (bR 2 0 2) aj),.bt (c6 2 aN bA),.pure,.pure] (b2 [107,108,109])] (.bh o R.1 R.2 (cP (bR 2 0 2) aB) (oB (ed:=2) (c:=0) (sz:=2) bF) (lI (iN .live 2 aN bz) lg bx) bi (eW aW 2 eb bz) (.fu (aA 1 .live aE al) (aA 1 .live d5 a8) (SU dQ) bi (eW aW 2 eb bA) (aA 1 .live aE al) (aA 1 .live d5 a8)))))
  (fun o =>
  .ret (b5 [(ag 1),.ao false,.br [0,1,2,3,4] [.box [.id,.id,.id,.id,.id,.id],.bt (av 1 (bR 2 0 2) aj),.bt (c6 2 aN bz),.pure,.pure] []] (.dV o (eP (cX [0,1,2,3,4]) 2 2 0 2 rfl aj) (eW (cX [0,1,2,3,4]) 2 eb bz) (aA 1 .live aE al) (aA 1 .live d5 a8))))
theorem SV {ji:Int}{bd:Bool}{aI:List Int}{c8:Int}{aj:List bX}{al:List Int}{a8:List Bool}{jj:Int}{bz:List (List bc)}{r} (h:zh ji bd aI c8 aj al a8 jj bz=some r):fH bC 128 5 87 [1,1,1,1,1,1,1,1,0,0] (FY ji bd aI c8 aj al a8) (F5 ji bd aI c8 aj al a8) (jj,bz) r:=fI (fun _=>SC) h
def wU (dh cm:Int)(cb:Bool)(cB:List Int)(ft:Int)(cT:List bX)(lT:List (List bc))(dc:List Int)(hh:List Bool):Option (Bool×(List Int)×(List (List bc))×(List Int)) :=
 if 0≤dh∧dh<(cT.length:Nat) then
 cT[(0+dh.toNat)]? >>= fun fm =>
 fm >>= fun pF =>
 lT[pF.1]? >>= fun y5 =>
 if 0≤cm∧cm<(pF.2:Nat) then
 y5[(0+cm.toNat)]? >>= fun hz =>
 Ca dh cm fm ((cT.length:Nat):Int) cb cB ft cT dc hh hz.dg hz.cS 0 lT >>= fun eU =>
 if 0≤dh∧dh<(dc.length:Nat) then
 if (0+dh.toNat)<dc.length then
 pb hz >>= fun d2 =>
 if (decide ((0:Int)<d2))=true then
  some (hz.dg,hz.cS,eU,dc.set (0+dh.toNat) cm)
 else
  pM hz >>= fun dU =>
  zh ((cT.length:Nat):Int) dU.dg dU.cS ft cT (dc.set (0+dh.toNat) cm) hh 0 eU >>= fun iF =>
  some (dU.dg,dU.cS,iF,dc.set (0+dh.toNat) cm)
 else none
 else none
 else none
 else none
theorem LC {dh cm:Int}{cb:Bool}{cB:List Int}{ft:Int}{cT:List bX}{lT:List (List bc)}{dc:List Int}{hh:List Bool}:b6 (wU dh cm cb cB ft cT lT dc hh) (fun a=>Con bC 87 [.ref 0 0 0 0,.n .i64 dh,.n .i64 cm] [[ab.mk 6 [(eL 1 0 0 cT.length cb cB 3 0 0 dc.length ft 4 0 0 hh.length)] .live],(av 1 (bR 2 0 2) cT),(c6 2 aN lT),(av 1 J dc),(av 1 dM hh)] (.dK []) [[ab.mk 6 [(eL 1 0 0 cT.length a.1 a.2.1 3 0 0 a.2.2.2.length ft 4 0 0 hh.length)] .live],(av 1 (bR 2 0 2) cT),(c6 2 aN a.2.2.1),(av 1 J a.2.2.2),(av 1 dM hh)]):=by
 unfold wU
 exact .bn fun o =>
  .aC fun fm ah =>
  .aC fun pF aK =>
  .aC fun y5 bS =>
  .bn fun bx =>
  .aC fun hz dQ =>
  .aC fun eU fr =>
  .bn fun eC =>
  .bn fun eQ =>
  .aC fun d2 hJ =>
  (let dX:=lI (iN .live 2 aN lT) lg bS;let fD:=cX [0,1,2,3,4,17];let t1:List c5:=[.aH (bU 6 (.cK ((bR 2 0 2) fm)) 1),.aH (an 2 (aq (.fX 23 (.bm 2 (pF.1+0) 0 pF.2) (.hd (ab.mk 2 (y5.map aN) .live) [])) (aq (.hd (ab.mk 2 (y5.map aN) .live) (aN hz)) (an 2 [])))),(ag 6),.br [0,1,2,3,4,17] [.box [.id,.id,.id,.id,.id,.id],.bt (av 1 (bR 2 0 2) cT),.bt (c6 2 aN lT),.pure,.pure,.box [.id,.id]] (b2 [0,1,2,6,7,30,31,32]),(F3 dh cm fm ((cT.length:Nat):Int) cb cB ft cT dc hh hz.dg hz.cS eU).gr,(ag 5),.aH (an 7 (aq .dO [])),.aH (bU 1 (b3 1 (.n .i64 d2) true) 1)];
  have bg:=((.bh o.1 o.2 (cP (bR 2 0 2) ah) (oB (ed:=2) (c:=0) (sz:=2) aK) dX bx.1 bx.2 dX (.bh (cP aN dQ) (eP fD 2 2 0 2 rfl cT) (eW fD 2 eb lT) (aA 1 .live aE dc) (aA 1 .live d5 hh) (SS fr) eC.1 eC.2 (.du (hM J eQ) (hr 1) (tq d2 hJ) (cn.n .i64 d2)))):c9 _);
  .ite (fun fS =>
  .ret (iu (t1.append [.ao true]) [0,1,2,3,4] [.bt [ab.mk 6 [(eL 1 0 0 cT.length hz.dg hz.cS 3 0 0 ((dc.set (0+dh.toNat) cm).length) ft 4 0 0 hh.length)] .live],.bt (av 1 (bR 2 0 2) cT),.bt (c6 2 aN eU),.da (av 1 J (dc.set (0+dh.toNat) cm)),.pure] (bg.bb (.fu fS (c4 (show ab.mk 6 [(eL 1 0 0 cT.length hz.dg hz.cS 3 0 0 ((dc.set (0+dh.toNat) cm).length) ft 4 0 0 hh.length)] .live=kt (cX [0,1,2,3,4]) (ab.mk 6 [(eL 1 0 0 cT.length hz.dg hz.cS 3 0 0 dc.length ft 4 0 0 hh.length)] .live) from (congrArg (fun ab8=>ab.mk 6 [(eL 1 0 0 cT.length hz.dg hz.cS 3 0 0 ab8 ft 4 0 0 hh.length)] .live) (hQ (fO dc) (0+dh.toNat) cm).symm)) ib) (eP (cX [0,1,2,3,4]) 2 2 0 2 rfl cT) (eW (cX [0,1,2,3,4]) 2 eb eU) (dF 1 .live (gy (cW J dc) (0+dh.toNat) cm)) (aA 1 .live aE (dc.set (0+dh.toNat) cm)) (aA 1 .live d5 hh)))))
  (fun fS =>
  .aC fun dU kf =>
  .aC fun iF nO =>
  .ret (let aW:=eL 1 0 0 cT.length dU.dg dU.cS 3 0 0 ((dc.set (0+dh.toNat) cm).length) ft 4 0 0 hh.length;let bi:=cX [0,1,2,3,4];let cd:=aA 1 .live aE (dc.set (0+dh.toNat) cm);let cV:=eP bi 2 2 0 2 rfl cT;iu (t1.append [.ao false,.aH (bU 2 (b3 1 (.agg (aN dU)) false) 3),(ag 6),.br [0,1,2,3,4] [.box [.id,.id,.id,.len ((dc.set (0+dh.toNat) cm).length),.id,.id],.bt (av 1 (bR 2 0 2) cT),.bt (c6 2 aN eU),.da (av 1 J (dc.set (0+dh.toNat) cm)),.pure] (b2 [107,108,109]),(F5 ((cT.length:Nat):Int) dU.dg dU.cS ft cT (dc.set (0+dh.toNat) cm) hh iF).gr]) [0,1,2,3,4] [.bt [ab.mk 6 [aW] .live],.bt (av 1 (bR 2 0 2) cT),.bt (c6 2 aN iF),.pure,.pure] (bg.bb (.bh fS (B8 dU kf) (hQ (fO dc) (0+dh.toNat) cm) cV (eW bi 2 eb eU) (dF 1 .live (gy (cW J dc) (0+dh.toNat) cm)) cd (aA 1 .live d5 hh) (.eK (SV nO) (i1 bi 6 [aW] [aW] rfl) cV (eW bi 2 eb iF) cd (aA 1 .live d5 hh)))))))
def FJ (cN:Int)(bd:Bool)(aI:List Int)(aj:List bX)(bz:List (List bc))(al:List Int)(a8:List Bool)(bs:List Int):Int→S:=fun cQ=>e1 [(0,.ref 0 0 0 0),(1,.bm 5 0 0 bs.length),(5,.b false),(13,.n .i64 cN),(14,.n .i64 cQ)] [[ab.mk 6 [(eL 1 0 0 aj.length bd aI 3 0 0 al.length cN 4 0 0 a8.length)] .live],(av 1 (bR 2 0 2) aj),(c6 2 aN bz),(av 1 J al),(av 1 dM a8),(av 1 J bs)]
def BX (cN:Int)(bd:Bool)(aI:List Int)(aj:List bX)(bz:List (List bc))(al:List Int)(a8:List Bool)(bs:List Int):((Bool×Bool×(List Int)×(List (List bc))×(List Int))⊕(Unit))→e5
 | .inl a=>⟨some 2,[(0,.ref 0 0 0 0),(1,.bm 5 0 0 bs.length),(5,.b a.1)],[[ab.mk 6 [(eL 1 0 0 aj.length a.2.1 a.2.2.1 3 0 0 a.2.2.2.2.length cN 4 0 0 a8.length)] .live],(av 1 (bR 2 0 2) aj),(c6 2 aN a.2.2.2.1),(av 1 J a.2.2.2.2),(av 1 dM a8),(av 1 J bs)]⟩
 | .inr a=>⟨none,[(4,.b false)],[[ab.mk 6 [(eL 1 0 0 aj.length bd aI 3 0 0 al.length cN 4 0 0 a8.length)] .live],(av 1 (bR 2 0 2) aj),(c6 2 aN bz),(av 1 J al),(av 1 dM a8),(av 1 J bs)]⟩
def wC (cN:Int)(bd:Bool)(aI:List Int)(aj:List bX)(bz:List (List bc))(al:List Int)(a8:List Bool)(bs:List Int)(cQ:Int):Option ((Int)⊕((Bool×Bool×(List Int)×(List (List bc))×(List Int))⊕(Unit))) :=
 if (decide (cQ<cN))=true then
  if 0≤cQ∧cQ<(a8.length:Nat) then
  a8[(0+cQ.toNat)]? >>= fun aV =>
  if aV=true then
   xB al cQ >>= fun c0 =>
   if c0=true then
    some (.inl (U (cQ+(1:Int))))
   else
    if aj.all (vE bz)=true then
    xd (⟨aj.map (mq bz),(⟨bd,aI⟩:bc),al,cN,a8⟩:q7) bs cQ >>= fun hn =>
    if (decide (hn≤(0:Int)))=true then
     some (.inl (U (cQ+(1:Int))))
    else
     zj (⟨aj.map (mq bz),(⟨bd,aI⟩:bc),al,cN,a8⟩:q7) cQ >>= fun gQ =>
     if (decide (gQ<(0:Int)))=true then
      some (.inr (.inr ()))
     else
      wU gQ cQ bd aI cN aj bz al a8 >>= fun cA =>
      some (.inr (.inl (true,cA.1,cA.2.1,cA.2.2.1,cA.2.2.2)))
    else none
  else
   some (.inl (U (cQ+(1:Int))))
  else none
 else
  some (.inr (.inl (false,bd,aI,bz,al)))
def wN (cN:Int)(bd:Bool)(aI:List Int)(aj:List bX)(bz:List (List bc))(al:List Int)(a8:List Bool)(bs:List Int)(cQ:Int):Option ((Bool×Bool×(List Int)×(List (List bc))×(List Int))⊕(Unit)):=iter (fun w:Int=>wC cN bd aI aj bz al a8 bs w) cQ
theorem Sl {cN:Int}{bd:Bool}{aI:List Int}{aj:List bX}{bz:List (List bc)}{al:List Int}{a8:List Bool}{bs:List Int}{cQ:Int}:b6 (wC cN bd aI aj bz al a8 bs cQ) (fG bC 87 6 61 [1,0,1,0,0,1,0,1,1,0,0] (FJ cN bd aI aj bz al a8 bs cQ) (FJ cN bd aI aj bz al a8 bs) (BX cN bd aI aj bz al a8 bs)):=by
 unfold wC
 exact .ite (fun o =>
  .bn fun R =>
  .aC fun aV aB =>
  (let t1:List c5:=[(ag 1),.ao true,(ag 2)];
  .ite (fun aK =>
  .aC fun c0 bS =>
  (have bg:=((.bh o R.1 R.2 (cP dM aB) (e3 aK) (e3 aK) (e3 aK) (e3 aK) (.hq (e3 aK) (e3 aK) (jT J al) (jg J al) (dP aE al) (Mm c0 bS) (cn.b c0) (e3 aK))):c9 _);
  .ite (fun bx =>
  .ret (let aW:=cX [0,1,2,3,4,5];b5 (t1.append [.aH (an 6 (aq (.cK (dM aV)) (an 7 (aq (.call {ac:=[.bp (.b4 (.ej (al.map J))),ii],r:= .b c0,dt:=true,dA:=[3]}) (aq (.ao false) (an 1 (c3 5 (aq (.ao true) [])))))))),.ao true,(ag 2),.br [0,1,2,3,4,5] [.box [.id,.id,.id,.id,.id,.id],.bt (av 1 (bR 2 0 2) aj),.bt (c6 2 aN bz),.pure,.pure,.pure] (b2 [0,1,5,13,14])]) (bg.bb (.bh bx bx bx bx bx bx ch (eP aW 2 2 0 2 rfl aj) (.du (eW aW 2 eb bz) (aA 1 .live aE al) (aA 1 .live d5 a8) (aA 1 .live aE bs))))))
  (fun bx =>
  .bn fun dy =>
  .aC fun hn dC =>
  (let t3:List c5:=t1.append [.aH (an 6 (aq (.cK (dM aV)) (an 7 (aq (.call {ac:=[.bp (.b4 (.ej (al.map J))),ii],r:= .b c0,dt:=true,dA:=[3]}) (aq (.ao false) (an 4 (aq (.call {ac:=[.bp (.ptr [.view 2 (ab.mk 1 (aj.map (bR 2 0 2)) .live) ((aj.map (mq bz)).map (fg 2 aN)),.id,.id,.ej (al.map J),.id,.ej (a8.map dM)]),.bp (.b4 (.ej (bs.map J))),ii],r:= .n .i64 hn,dt:=true,dA:=[0,1,2,3,4,5]}) (an 1 (aq (.ao false) [])))))))))];
  have f7:=bg.bb (.bh bx bx bx bx (rfl:de (some (av 1 (bR 2 0 2) aj)) 0=some (ab.mk 1 (aj.map (bR 2 0 2)) .live)) (rfl:_=true) (jg (bR 2 0 2) aj) (dP (pT (sz:=2) so) (aj.map (mq bz))) (.bh (DQ (ed:=2) (jM:=[]++(c6 2 aN bz)) (bM:=l6) (sz:=1) (g:=(fg 2 aN)) (cW (bR 2 0 2) aj) (fun _=>rfl) (fun x aa=>(Kb (ed:=2) (c:=0) (bM:=l6) (tI:=[]) (iN .live 2 aN bz) so rfl lg rfl (I9 dy x aa))) (fO aj)) (jT J al) (jg J al) (dP aE al) (jT dM a8) (jg dM a8) (dP d5 a8) (lC (Hz (⟨aj.map (mq bz),(⟨bd,aI⟩:bc),al,cN,a8⟩:q7)):hs [[.isl 1 ((aj.map (mq bz)).map (fg 2 aN)),.b bd,.isl 1 (aI.map J),.isl 1 (al.map J),.n .i64 cN,.isl 1 (a8.map dM)]]) (.fu (jT J bs) (jg J bs) (dP aE bs) (LK hn dC) (cn.n .i64 hn) bx bx)));
  .ite (fun fr =>
  .ret (let bi:=cX [0,1,2,3,4,5];b5 (t3.append [.ao true,(ag 2),.br [0,1,2,3,4,5] [.box [.id,.id,.id,.id,.id,.id],.bt (av 1 (bR 2 0 2) aj),.bt (c6 2 aN bz),.pure,.pure,.pure] (b2 [0,1,5,13,14])]) (f7.bb (.eK fr (eP bi 2 2 0 2 rfl aj) (eW bi 2 eb bz) (aA 1 .live aE al) (aA 1 .live d5 a8) (aA 1 .live aE bs)))))
  (fun fr =>
  .aC fun gQ eQ =>
  (let t5:List c5:=t3.append [.ao false,.aH (bU 2 (.call {ac:=[.bp (.ptr [.view 2 (ab.mk 1 (aj.map (bR 2 0 2)) .live) ((aj.map (mq bz)).map (fg 2 aN)),.id,.id,.ej (al.map J),.id,.ej (a8.map dM)]),ii],r:= .n .i64 gQ,dt:=true,dA:=[0,1,2,3,4]}) 1),(ag 2)];
  have kc:=f7.bb (.bh fr (rfl:de (some (av 1 (bR 2 0 2) aj)) 0=some (ab.mk 1 (aj.map (bR 2 0 2)) .live)) (rfl:_=true) (jg (bR 2 0 2) aj) (dP (pT (sz:=2) so) (aj.map (mq bz))) (DQ (ed:=2) (jM:=[]++(c6 2 aN bz)) (bM:=l6) (sz:=1) (g:=(fg 2 aN)) (cW (bR 2 0 2) aj) (fun _=>rfl) (fun x aa=>(Kb (ed:=2) (c:=0) (bM:=l6) (tI:=[]) (iN .live 2 aN bz) so rfl lg rfl (I9 dy x aa))) (fO aj)) (jT J al) (jg J al) (.fu (dP aE al) (jT dM a8) (jg dM a8) (dP d5 a8) (lC (Hz (⟨aj.map (mq bz),(⟨bd,aI⟩:bc),al,cN,a8⟩:q7)):hs [[.isl 1 ((aj.map (mq bz)).map (fg 2 aN)),.b bd,.isl 1 (aI.map J),.isl 1 (al.map J),.n .i64 cN,.isl 1 (a8.map dM)]]) (S7 gQ eQ) (cn.n .i64 gQ)));
  .ite (fun gk =>
  .ret (let cd:=cX [0,1,2,3,4,5];b5 (t5.append [.ao true,(ag 1),.br [0,1,2,3,4,5] [.box [.id,.id,.id,.id,.id,.id],.bt (av 1 (bR 2 0 2) aj),.bt (c6 2 aN bz),.pure,.pure,.pure] (b2 [4])]) (kc.bb (.eK gk (eP cd 2 2 0 2 rfl aj) (eW cd 2 eb bz) (aA 1 .live aE al) (aA 1 .live d5 a8) (aA 1 .live aE bs)))))
  (fun gk =>
  .aC fun cA fS =>
  .ret (let cV:=eL 1 0 0 aj.length cA.1 cA.2.1 3 0 0 cA.2.2.2.length cN 4 0 0 a8.length;let dX:=eL 1 0 0 aj.length bd aI 3 0 0 al.length cN 4 0 0 a8.length;let fD:=av 1 (bR 2 0 2) aj;let gR:=c6 2 aN cA.2.2.1;let e2:=o9 [0,1,2,3,4];let hy:=f8 [0,1,2,3,4];let hT:=jt 1 (aj.map (bR 2 0 2));let jz:=cX [0,1,2,3,4,5];b5 (t5.append [.ao false,.aH (an 3 (aq (.call {aM:=(o1 [0,1,2,3,4]),cM:=[.bt [ab.mk 6 [dX] .live],.bt fD,.bt (c6 2 aN bz),.pure,.pure],ac:=[ii,ii,ii],r:= .dK [],dT:=[[ab.mk 6 [cV] .live],fD,gR,(av 1 J cA.2.2.2),(av 1 dM a8)],ff:=ii,fR:=[.bt [ab.mk 6 [cV] .live],.bt fD,.bt gR,.pure,.pure],dA:=[0,1,2,3,4],dt:=false}) [])),(ag 1),.br [0,1,2,3,4,5] [.box [.id,.id,.id,.id,.id,.id],.bt fD,.bt gR,.pure,.pure,.pure] (b2 [0,1,5])]) (kc.bb (.bh gk (i1 e2 6 [dX] [dX] rfl) (jt 6 [dX]) (eP e2 2 2 0 2 rfl aj) hT (eW e2 2 eb bz) (q1 2 aN bz) (fs 1 aE al) (.bh (fs 1 d5 a8) (i1 hy 6 [cV] [cV] rfl) (jt 6 [cV]) (eP hy 2 2 0 2 rfl aj) hT (eW hy 2 eb cA.2.2.1) (q1 2 aN cA.2.2.1) (fs 1 aE cA.2.2.2) (.fu (fs 1 d5 a8) (LC cA fS) (eP jz 2 2 0 2 rfl aj) (eW jz 2 eb cA.2.2.1) (aA 1 .live aE cA.2.2.2) (aA 1 .live d5 a8) (aA 1 .live aE bs)))))))))))))
  (fun aK =>
  .ret (let jA:=cX [0,1,2,3,4,5];b5 (t1.append [.aH (an 6 (aq (.cK (dM aV)) (an 2 (c3 6 (aq (.ao true) (an 1 (c3 5 (an 1 [])))))))),.ao true,(ag 2),.br [0,1,2,3,4,5] [.box [.id,.id,.id,.id,.id,.id],.bt (av 1 (bR 2 0 2) aj),.bt (c6 2 aN bz),.pure,.pure,.pure] (b2 [0,1,5,13,14])]) (.bh o R.1 R.2 (cP dM aB) (e6 aK) (e6 aK) (e6 aK) (e6 aK) (.bh (e6 aK) (e6 aK) (e6 aK) ch ch ch ch ch (.eK ch (eP jA 2 2 0 2 rfl aj) (eW jA 2 eb bz) (aA 1 .live aE al) (aA 1 .live d5 a8) (aA 1 .live aE bs))))))))
  (fun o =>
  .ret (let mc:=cX [0,1,2,3,4,5];b5 [(ag 1),.ao false,.br [0,1,2,3,4,5] [.box [.id,.id,.id,.id,.id,.id],.bt (av 1 (bR 2 0 2) aj),.bt (c6 2 aN bz),.pure,.pure,.pure] (b2 [0,1,5])] (.eK o (eP mc 2 2 0 2 rfl aj) (eW mc 2 eb bz) (aA 1 .live aE al) (aA 1 .live d5 a8) (aA 1 .live aE bs))))
theorem Lv {cN:Int}{bd:Bool}{aI:List Int}{aj:List bX}{bz:List (List bc)}{al:List Int}{a8:List Bool}{bs:List Int}{cQ:Int}{r} (h:wN cN bd aI aj bz al a8 bs cQ=some r):fH bC 87 6 61 [1,0,1,0,0,1,0,1,1,0,0] (FJ cN bd aI aj bz al a8 bs) (BX cN bd aI aj bz al a8 bs) cQ r:=fI (fun _=>Sl) h
def FK (c8:Int)(aj:List bX)(a8:List Bool)(bs:List Int):(Bool×Bool×(List Int)×(List (List bc))×(List Int))→S:=fun (ra,bd,aI,bz,al)=>e1 [(0,.ref 0 0 0 0),(1,.bm 5 0 0 bs.length),(5,.b ra)] [[ab.mk 6 [(eL 1 0 0 aj.length bd aI 3 0 0 al.length c8 4 0 0 a8.length)] .live],(av 1 (bR 2 0 2) aj),(c6 2 aN bz),(av 1 J al),(av 1 dM a8),(av 1 J bs)]
def BZ (c8:Int)(aj:List bX)(a8:List Bool)(bs:List Int):((Bool×(List Int)×(List (List bc))×(List Int))⊕(Bool×(List Int)×(List (List bc))×(List Int)))→e5
 | .inl a=>⟨some 0,[(0,.ref 0 0 0 0),(1,.bm 5 0 0 bs.length)],[[ab.mk 6 [(eL 1 0 0 aj.length a.1 a.2.1 3 0 0 a.2.2.2.length c8 4 0 0 a8.length)] .live],(av 1 (bR 2 0 2) aj),(c6 2 aN a.2.2.1),(av 1 J a.2.2.2),(av 1 dM a8),(av 1 J bs)]⟩
 | .inr a=>⟨none,[(4,.b false)],[[ab.mk 6 [(eL 1 0 0 aj.length a.1 a.2.1 3 0 0 a.2.2.2.length c8 4 0 0 a8.length)] .live],(av 1 (bR 2 0 2) aj),(c6 2 aN a.2.2.1),(av 1 J a.2.2.2),(av 1 dM a8),(av 1 J bs)]⟩
def us (c8:Int)(aj:List bX)(a8:List Bool)(bs:List Int)(ra bd:Bool)(aI:List Int)(bz:List (List bc))(al:List Int):Option ((Bool×Bool×(List Int)×(List (List bc))×(List Int))⊕((Bool×(List Int)×(List (List bc))×(List Int))⊕(Bool×(List Int)×(List (List bc))×(List Int)))) :=
 if ra=true then
  wN c8 bd aI aj bz al a8 bs 0 >>= fun cH =>
  match cH with
  | .inl bl=>(some (.inl (bl.1,bl.2.1,bl.2.2.1,bl.2.2.2.1,bl.2.2.2.2)))
  | .inr bl=>(some (.inr (.inr (bd,aI,bz,al))))
 else
  some (.inr (.inl (bd,aI,bz,al)))
def B4 (c8:Int)(aj:List bX)(a8:List Bool)(bs:List Int)(ra bd:Bool)(aI:List Int)(bz:List (List bc))(al:List Int):Option ((Bool×(List Int)×(List (List bc))×(List Int))⊕(Bool×(List Int)×(List (List bc))×(List Int))):=iter (fun w:Bool×Bool×(List Int)×(List (List bc))×(List Int)=>us c8 aj a8 bs w.1 w.2.1 w.2.2.1 w.2.2.2.1 w.2.2.2.2) (ra,bd,aI,bz,al)
theorem Sm {c8:Int}{aj:List bX}{a8:List Bool}{bs:List Int}{ra bd:Bool}{aI:List Int}{bz:List (List bc)}{al:List Int}:b6 (us c8 aj a8 bs ra bd aI bz al) (fG bC 87 6 61 [1,0,1,0,0] (FK c8 aj a8 bs (ra,bd,aI,bz,al)) (FK c8 aj a8 bs) (BZ c8 aj a8 bs)):=by
 unfold us
 exact .ite (fun o =>
  .aC fun cH ah =>
  (let cV:=cX [0,1,2,3,4,5];let t1:List c5:=[(ag 1),.ao true,(ag 1),(ag 5),.br [0,1,2,3,4,5] [.box [.id,.id,.id,.id,.id,.id],.bt (av 1 (bR 2 0 2) aj),.bt (c6 2 aN bz),.pure,.pure,.pure] (b2 [0,1,5,13,14])];
  have bg:=((.eK o (eP cV 2 2 0 2 rfl aj) (eW cV 2 eb bz) (aA 1 .live aE al) (aA 1 .live d5 a8) (aA 1 .live aE bs)):c9 _);
  (by
  rcases cH with bl|bl
  ·exact (.ret (let aW:=cX [0,1,2,3,4,5];b5 (t1.append [(BX c8 bd aI aj bz al a8 bs (.inl bl)).gr,.br [0,1,2,3,4,5] [.box [.id,.id,.id,.id,.id,.id],.bt (av 1 (bR 2 0 2) aj),.bt (c6 2 aN bl.2.2.2.1),.pure,.pure,.pure] (b2 [0,1,5])]) (bg.bb (.eK (Lv ah) (eP aW 2 2 0 2 rfl aj) (eW aW 2 eb bl.2.2.2.1) (aA 1 .live aE bl.2.2.2.2) (aA 1 .live d5 a8) (aA 1 .live aE bs)))))
  ·exact (.ret (let bi:=cX [0,1,2,3,4,5];b5 (t1.append [(BX c8 bd aI aj bz al a8 bs (.inr bl)).gr,.br [0,1,2,3,4,5] [.box [.id,.id,.id,.id,.id,.id],.bt (av 1 (bR 2 0 2) aj),.bt (c6 2 aN bz),.pure,.pure,.pure] (b2 [4])]) (bg.bb (.eK (Lv ah) (eP bi 2 2 0 2 rfl aj) (eW bi 2 eb bz) (aA 1 .live aE al) (aA 1 .live d5 a8) (aA 1 .live aE bs))))))))
  (fun o =>
  .ret (let cd:=cX [0,1,2,3,4,5];b5 [(ag 1),.ao false,.br [0,1,2,3,4,5] [.box [.id,.id,.id,.id,.id,.id],.bt (av 1 (bR 2 0 2) aj),.bt (c6 2 aN bz),.pure,.pure,.pure] (b2 [0,1])] (.eK o (eP cd 2 2 0 2 rfl aj) (eW cd 2 eb bz) (aA 1 .live aE al) (aA 1 .live d5 a8) (aA 1 .live aE bs))))
theorem Lw {c8:Int}{aj:List bX}{a8:List Bool}{bs:List Int}{ra bd:Bool}{aI:List Int}{bz:List (List bc)}{al:List Int}{r} (h:B4 c8 aj a8 bs ra bd aI bz al=some r):fH bC 87 6 61 [1,0,1,0,0] (FK c8 aj a8 bs) (BZ c8 aj a8 bs) (ra,bd,aI,bz,al) r:=fI (fun _=>Sm) h
def FL (fz:Int)(bd:Bool)(aI:List Int)(aj:List bX)(bz:List (List bc))(al bs:List Int):(Int×(List Bool))→S:=fun (hx,a8)=>e1 [(0,.ref 0 0 0 0),(1,.bm 5 0 0 bs.length),(53,.n .i64 fz),(54,.n .i64 hx)] [[ab.mk 6 [(eL 1 0 0 aj.length bd aI 3 0 0 al.length fz 4 0 0 a8.length)] .live],(av 1 (bR 2 0 2) aj),(c6 2 aN bz),(av 1 J al),(av 1 dM a8),(av 1 J bs)]
def FO (fz:Int)(bd:Bool)(aI:List Int)(aj:List bX)(bz:List (List bc))(al bs:List Int):(List Bool)→e5
 | a=>⟨some 4,[],[[ab.mk 6 [(eL 1 0 0 aj.length bd aI 3 0 0 al.length fz 4 0 0 a.length)] .live],(av 1 (bR 2 0 2) aj),(c6 2 aN bz),(av 1 J al),(av 1 dM a),(av 1 J bs)]⟩
def wD (fz:Int)(bd:Bool)(aI:List Int)(aj:List bX)(bz:List (List bc))(al bs:List Int)(hx:Int)(a8:List Bool):Option ((Int×(List Bool))⊕((List Bool))) :=
 if (decide (hx<fz))=true then
  if 0≤hx∧hx<(a8.length:Nat) then
  a8[(0+hx.toNat)]? >>= fun aV =>
  if aV=true then
   xB al hx >>= fun c0 =>
   if c0=true then
    some (.inl (U (hx+(1:Int)),a8))
   else
    if aj.all (vE bz)=true then
    xd (⟨aj.map (mq bz),(⟨bd,aI⟩:bc),al,fz,a8⟩:q7) bs hx >>= fun hn =>
    if (decide (hn<(0:Int)))=true then
     if (0+hx.toNat)<a8.length then
     some (.inl (U (hx+(1:Int)),a8.set (0+hx.toNat) false))
     else none
    else
     some (.inl (U (hx+(1:Int)),a8))
    else none
  else
   some (.inl (U (hx+(1:Int)),a8))
  else none
 else
  some (.inr a8)
def B5 (fz:Int)(bd:Bool)(aI:List Int)(aj:List bX)(bz:List (List bc))(al bs:List Int)(hx:Int)(a8:List Bool):Option ((List Bool)):=iter (fun w:Int×(List Bool)=>wD fz bd aI aj bz al bs w.1 w.2) (hx,a8)
theorem Sn {fz:Int}{bd:Bool}{aI:List Int}{aj:List bX}{bz:List (List bc)}{al bs:List Int}{hx:Int}{a8:List Bool}:b6 (wD fz bd aI aj bz al bs hx a8) (fG bC 87 6 61 [1,1,0,1,0,0] (FL fz bd aI aj bz al bs (hx,a8)) (FL fz bd aI aj bz al bs) (FO fz bd aI aj bz al bs)):=by
 unfold wD
 exact .ite (fun o =>
  .bn fun R =>
  .aC fun aV aB =>
  (let t1:List c5:=[(ag 1),.ao true,(ag 2)];
  .ite (fun aK =>
  .aC fun c0 bS =>
  (have bg:=((.bh o R.1 R.2 (cP dM aB) aK aK aK aK (.bh aK aK (jT J al) (jg J al) (dP aE al) (Mm c0 bS) (cn.b c0) aK (.ay aK))):c9 _);
  .ite (fun bx =>
  .ret (let aW:=cX [0,1,2,3,4,5];b5 (t1.append [.aH (an 6 (aq (.cK (dM aV)) (an 6 (aq (.call {ac:=[.bp (.b4 (.ej (al.map J))),ii],r:= .b c0,dt:=true,dA:=[3]}) (an 1 (aq (.ao true) (an 1 (c3 5 (aq (.ao false) []))))))))),.ao false,(ag 2),.br [0,1,2,3,4,5] [.box [.id,.id,.id,.id,.id,.id],.bt (av 1 (bR 2 0 2) aj),.bt (c6 2 aN bz),.pure,.pure,.pure] (b2 [0,1,53,54])]) (bg.bb (.bh (e3 bx) (e3 bx) (e3 bx) (e3 bx) (e3 bx) (e3 bx) d3 (eP aW 2 2 0 2 rfl aj) (.du (eW aW 2 eb bz) (aA 1 .live aE al) (aA 1 .live d5 a8) (aA 1 .live aE bs))))))
  (fun bx =>
  .bn fun dy =>
  .aC fun hn dC =>
  (let t3:List c5:=t1.append [.aH (an 6 (aq (.cK (dM aV)) (an 6 (aq (.call {ac:=[.bp (.b4 (.ej (al.map J))),ii],r:= .b c0,dt:=true,dA:=[3]}) (an 1 (aq (.ao true) (an 4 (aq (.call {ac:=[.bp (.ptr [.view 2 (ab.mk 1 (aj.map (bR 2 0 2)) .live) ((aj.map (mq bz)).map (fg 2 aN)),.id,.id,.ej (al.map J),.id,.ej (a8.map dM)]),.bp (.b4 (.ej (bs.map J))),ii],r:= .n .i64 hn,dt:=true,dA:=[0,1,2,3,4,5]}) (an 1 (aq (.ao true) []))))))))))];
  have f7:=bg.bb (.bh (e6 bx) (e6 bx) (e6 bx) (e6 bx) (rfl:de (some (av 1 (bR 2 0 2) aj)) 0=some (ab.mk 1 (aj.map (bR 2 0 2)) .live)) (rfl:_=true) (jg (bR 2 0 2) aj) (dP (pT (sz:=2) so) (aj.map (mq bz))) (.bh (DQ (ed:=2) (jM:=[]++(c6 2 aN bz)) (bM:=l6) (sz:=1) (g:=(fg 2 aN)) (cW (bR 2 0 2) aj) (fun _=>rfl) (fun x aa=>(Kb (ed:=2) (c:=0) (bM:=l6) (tI:=[]) (iN .live 2 aN bz) so rfl lg rfl (I9 dy x aa))) (fO aj)) (jT J al) (jg J al) (dP aE al) (jT dM a8) (jg dM a8) (dP d5 a8) (lC (Hz (⟨aj.map (mq bz),(⟨bd,aI⟩:bc),al,fz,a8⟩:q7)):hs [[.isl 1 ((aj.map (mq bz)).map (fg 2 aN)),.b bd,.isl 1 (aI.map J),.isl 1 (al.map J),.n .i64 fz,.isl 1 (a8.map dM)]]) (.fu (jT J bs) (jg J bs) (dP aE bs) (LK hn dC) (cn.n .i64 hn) (e6 bx) (e6 bx))));
  .ite (fun fr =>
  .bn fun eC =>
  .ret (let bi:=cX [0,1,2,3,4,5];b5 (t3.append [.ao true,.aH (an 6 (aq .dO [])),(ag 2),.br [0,1,2,3,4,5] [.box [.id,.id,.id,.id,.id,.len ((a8.set (0+hx.toNat) false).length)],.bt (av 1 (bR 2 0 2) aj),.bt (c6 2 aN bz),.pure,.da (av 1 dM (a8.set (0+hx.toNat) false)),.pure] (b2 [0,1,53,54])]) (f7.bb (.bh fr R.1 R.2 (hM dM eC) (hr 1) (hQ (fO a8) (0+hx.toNat) false) (eP bi 2 2 0 2 rfl aj) (eW bi 2 eb bz) (.du (aA 1 .live aE al) (dF 1 .live (gy (cW dM a8) (0+hx.toNat) false)) (aA 1 .live d5 (a8.set (0+hx.toNat) false)) (aA 1 .live aE bs))))))
  (fun fr =>
  .ret (let cd:=cX [0,1,2,3,4,5];b5 (t3.append [.ao false,(ag 2),.br [0,1,2,3,4,5] [.box [.id,.id,.id,.id,.id,.id],.bt (av 1 (bR 2 0 2) aj),.bt (c6 2 aN bz),.pure,.pure,.pure] (b2 [0,1,53,54])]) (f7.bb (.eK fr (eP cd 2 2 0 2 rfl aj) (eW cd 2 eb bz) (aA 1 .live aE al) (aA 1 .live d5 a8) (aA 1 .live aE bs)))))))))
  (fun aK =>
  .ret (let cV:=cX [0,1,2,3,4,5];b5 (t1.append [.aH (an 6 (aq (.cK (dM aV)) (an 1 (c3 7 (aq (.ao false) (an 1 (c3 5 (an 1 [])))))))),.ao false,(ag 2),.br [0,1,2,3,4,5] [.box [.id,.id,.id,.id,.id,.id],.bt (av 1 (bR 2 0 2) aj),.bt (c6 2 aN bz),.pure,.pure,.pure] (b2 [0,1,53,54])]) (.bh o R.1 R.2 (cP dM aB) aK aK aK aK (.bh aK aK aK aK d3 d3 d3 d3 (.fu d3 d3 (eP cV 2 2 0 2 rfl aj) (eW cV 2 eb bz) (aA 1 .live aE al) (aA 1 .live d5 a8) (aA 1 .live aE bs))))))))
  (fun o =>
  .ret (let dX:=cX [0,1,2,3,4,5];b5 [(ag 1),.ao false,.br [0,1,2,3,4,5] [.box [.id,.id,.id,.id,.id,.id],.bt (av 1 (bR 2 0 2) aj),.bt (c6 2 aN bz),.pure,.pure,.pure] []] (.eK o (eP dX 2 2 0 2 rfl aj) (eW dX 2 eb bz) (aA 1 .live aE al) (aA 1 .live d5 a8) (aA 1 .live aE bs))))
theorem SJ {fz:Int}{bd:Bool}{aI:List Int}{aj:List bX}{bz:List (List bc)}{al bs:List Int}{hx:Int}{a8:List Bool}{r} (h:B5 fz bd aI aj bz al bs hx a8=some r):fH bC 87 6 61 [1,1,0,1,0,0] (FL fz bd aI aj bz al bs) (FO fz bd aI aj bz al bs) (hx,a8) r:=fI (fun _=>Sn) h
def si (cb:Bool)(cB:List Int)(ft:Int)(cT:List bX)(lT:List (List bc))(dc:List Int)(hh:List Bool)(py:List Int):Option (Bool×Bool×(List Int)×(List (List bc))×(List Int)×(List Bool)) :=
 B4 ft cT hh py true cb cB lT dc >>= fun ax =>
 match ax with
 | .inl bG=>(B5 ft bG.1 bG.2.1 cT bG.2.2.1 bG.2.2.2 py 0 hh >>= fun bP =>
  some (true,bG.1,bG.2.1,bG.2.2.1,bG.2.2.2,bP))
 | .inr bG=>(some (false,bG.1,bG.2.1,bG.2.2.1,bG.2.2.2,hh))
theorem Gb {cb:Bool}{cB:List Int}{ft:Int}{cT:List bX}{lT:List (List bc)}{dc:List Int}{hh:List Bool}{py:List Int}:b6 (si cb cB ft cT lT dc hh py) (fun a=>Con bC 61 [.ref 0 0 0 0,.bm 5 0 0 py.length] [[ab.mk 6 [(eL 1 0 0 cT.length cb cB 3 0 0 dc.length ft 4 0 0 hh.length)] .live],(av 1 (bR 2 0 2) cT),(c6 2 aN lT),(av 1 J dc),(av 1 dM hh),(av 1 J py)] (.b a.1) [[ab.mk 6 [(eL 1 0 0 cT.length a.2.1 a.2.2.1 3 0 0 a.2.2.2.2.1.length ft 4 0 0 a.2.2.2.2.2.length)] .live],(av 1 (bR 2 0 2) cT),(c6 2 aN a.2.2.2.1),(av 1 J a.2.2.2.2.1),(av 1 dM a.2.2.2.2.2),(av 1 J py)]):=by
 unfold si
 exact .aC fun ax R =>
  (let hy:=cX [0,1,2,3,4,5];let t1:List c5:=[(ag 1),(ag 1),.br [0,1,2,3,4,5] [.box [.id,.id,.id,.id,.id,.id],.bt (av 1 (bR 2 0 2) cT),.bt (c6 2 aN lT),.pure,.pure,.pure] (b2 [0,1,5])];
  have bg:=((.dV (eP hy 2 2 0 2 rfl cT) (eW hy 2 eb lT) (aA 1 .live aE dc) (aA 1 .live d5 hh) (aA 1 .live aE py)):c9 _);
  (by
  rcases ax with bG|bG
  ·exact (.aC fun bP aK =>
  .ret (let aW:=eL 1 0 0 cT.length bG.1 bG.2.1 3 0 0 bG.2.2.2.length ft 4 0 0 bP.length;let bi:=cX [0,1,2,3,4,5];let cd:=aA 1 .live aE bG.2.2.2;let cV:=eW bi 2 eb bG.2.2.1;let dX:=c6 2 aN bG.2.2.1;let fD:=eP bi 2 2 0 2 rfl cT;iu (t1.append [(BZ ft cT hh py (.inl bG)).gr,(ag 5),.br [0,1,2,3,4,5] [.box [.id,.id,.id,.id,.id,.id],.bt (av 1 (bR 2 0 2) cT),.bt dX,.pure,.pure,.pure] (b2 [0,1,53,54]),(FO ft bG.1 bG.2.1 cT bG.2.2.1 bG.2.2.2 py bP).gr,(ag 1)]) [0,1,2,3,4,5] [.bt [ab.mk 6 [aW] .live],.bt (av 1 (bR 2 0 2) cT),.bt dX,.pure,.pure,.pure] (bg.bb (.bh (Lw R) fD cV cd (aA 1 .live d5 hh) (aA 1 .live aE py) (SJ aK) (i1 bi 6 [aW] [aW] rfl) (.dV fD cV cd (aA 1 .live d5 bP) (aA 1 .live aE py))))))
  ·exact (.ret (let gR:=eL 1 0 0 cT.length bG.1 bG.2.1 3 0 0 bG.2.2.2.length ft 4 0 0 hh.length;let e2:=cX [0,1,2,3,4,5];iu (t1.append [(BZ ft cT hh py (.inr bG)).gr]) [0,1,2,3,4,5] [.bt [ab.mk 6 [gR] .live],.bt (av 1 (bR 2 0 2) cT),.bt (c6 2 aN bG.2.2.1),.pure,.pure,.pure] (bg.bb (.fu (Lw R) (i1 e2 6 [gR] [gR] rfl) (eP e2 2 2 0 2 rfl cT) (eW e2 2 eb bG.2.2.1) (aA 1 .live aE bG.2.2.2) (aA 1 .live d5 hh) (aA 1 .live aE py)))))))
def FZ (hR a2:Int)(bd:Bool)(aI:List Int)(c8:Int)(aj:List bX)(bz:List (List bc))(al:List Int)(a8:List Bool):Int→S:=fun cm=>e1 [(0,.ref 0 0 0 0),(1,.n .i64 hR),(4,.n .i64 a2),(5,.n .i64 cm)] [[ab.mk 6 [(eL 1 0 0 aj.length bd aI 3 0 0 al.length c8 4 0 0 a8.length)] .live],(av 1 (bR 2 0 2) aj),(c6 2 aN bz),(av 1 J al),(av 1 dM a8)]
def F6 (hR a2:Int)(bd:Bool)(aI:List Int)(c8:Int)(aj:List bX)(bz:List (List bc))(al:List Int)(a8:List Bool):Int→e5
 | a=>⟨some 2,[(0,.ref 0 0 0 0),(1,.n .i64 hR),(4,.n .i64 a2),(5,.n .i64 a)],[[ab.mk 6 [(eL 1 0 0 aj.length bd aI 3 0 0 al.length c8 4 0 0 a8.length)] .live],(av 1 (bR 2 0 2) aj),(c6 2 aN bz),(av 1 J al),(av 1 dM a8)]⟩
def wK (hR a2:Int)(bd:Bool)(aI:List Int)(c8:Int)(aj:List bX)(bz:List (List bc))(al:List Int)(a8:List Bool)(cm:Int):Option ((Int)⊕(Int)) :=
 if (decide (cm<hR))=true then
  if 0≤a2∧a2<(aj.length:Nat) then
  aj[(0+a2.toNat)]? >>= fun aV =>
  aV >>= fun nn =>
  bz[nn.1]? >>= fun lA =>
  if 0≤cm∧cm<(nn.2:Nat) then
  lA[(0+cm.toNat)]? >>= fun j6 =>
  pb j6 >>= fun cO =>
  if (cO == (0:Int))=true then
   some (.inl (U (cm+(1:Int))))
  else
   some (.inr cm)
  else none
  else none
 else
  some (.inr cm)
def Cc (hR a2:Int)(bd:Bool)(aI:List Int)(c8:Int)(aj:List bX)(bz:List (List bc))(al:List Int)(a8:List Bool)(cm:Int):Option (Int):=iter (fun w:Int=>wK hR a2 bd aI c8 aj bz al a8 w) cm
theorem SD {hR a2:Int}{bd:Bool}{aI:List Int}{c8:Int}{aj:List bX}{bz:List (List bc)}{al:List Int}{a8:List Bool}{cm:Int}:b6 (wK hR a2 bd aI c8 aj bz al a8 cm) (fG bC 86 5 83 [1,0,0,1,0,1,1,0,0,0] (FZ hR a2 bd aI c8 aj bz al a8 cm) (FZ hR a2 bd aI c8 aj bz al a8) (F6 hR a2 bd aI c8 aj bz al a8)):=by
 unfold wK
 exact .ite (fun o =>
  .bn fun R =>
  .aC fun aV aB =>
  .aC fun nn bF =>
  .aC fun lA bx =>
  .bn fun dy =>
  .aC fun j6 dC =>
  .aC fun cO eC =>
  (let aW:=lI (iN .live 2 aN bz) lg bx;let t1:List c5:=[.aH (an 10 (aq (.cK ((bR 2 0 2) aV)) (an 1 (aq (.fX 34 (.bm 2 (nn.1+0) 0 nn.2) (.hd (ab.mk 2 (lA.map aN) .live) [])) (aq (.hd (ab.mk 2 (lA.map aN) .live) (aN j6)) (aq (b3 1 (.n .i64 cO) true) (an 1 (aq (.ao true) []))))))))];
  have bg:=((.bh o o o o o o R.1 R.2 (.bh o (cP (bR 2 0 2) aB) o o (oB (ed:=2) (c:=0) (sz:=2) bF) aW dy.1 dy.2 (.hq o aW (cP aN dC) o (tq cO eC) (cn.n .i64 cO) o o))):c9 _);
  .ite (fun eQ =>
  .ret (b5 (t1.append [.ao true,(ag 3),.br [0,1,2,3,4] [.box [.id,.id,.id,.id,.id,.id],.bt (av 1 (bR 2 0 2) aj),.bt (c6 2 aN bz),.pure,.pure] (b2 [0,1,4,5])]) (bg.bb (.dV eQ (eP (cX [0,1,2,3,4]) 2 2 0 2 rfl aj) (eW (cX [0,1,2,3,4]) 2 eb bz) (aA 1 .live aE al) (aA 1 .live d5 a8)))))
  (fun eQ =>
  .ret (b5 (t1.append [.ao false,.br [0,1,2,3,4] [.box [.id,.id,.id,.id,.id,.id],.bt (av 1 (bR 2 0 2) aj),.bt (c6 2 aN bz),.pure,.pure] (b2 [0,1,4,5])]) (bg.bb (.dV eQ (eP (cX [0,1,2,3,4]) 2 2 0 2 rfl aj) (eW (cX [0,1,2,3,4]) 2 eb bz) (aA 1 .live aE al) (aA 1 .live d5 a8)))))))
  (fun o =>
  .ret (b5 [.aH (an 4 (c3 12 (aq (.ao false) []))),.ao false,.br [0,1,2,3,4] [.box [.id,.id,.id,.id,.id,.id],.bt (av 1 (bR 2 0 2) aj),.bt (c6 2 aN bz),.pure,.pure] (b2 [0,1,4,5])] (.bh o o o o o o o o (.bh o o o o o d3 (eP (cX [0,1,2,3,4]) 2 2 0 2 rfl aj) (eW (cX [0,1,2,3,4]) 2 eb bz) (.aD (aA 1 .live aE al) (aA 1 .live d5 a8))))))
theorem SW {hR a2:Int}{bd:Bool}{aI:List Int}{c8:Int}{aj:List bX}{bz:List (List bc)}{al:List Int}{a8:List Bool}{cm:Int}{r} (h:Cc hR a2 bd aI c8 aj bz al a8 cm=some r):fH bC 86 5 83 [1,0,0,1,0,1,1,0,0,0] (FZ hR a2 bd aI c8 aj bz al a8) (F6 hR a2 bd aI c8 aj bz al a8) cm r:=fI (fun _=>SD) h
def F0 (hR c8:Int)(a8:List Bool):(Int×Bool×(List Int)×(List bX)×(List (List bc))×(List Int))→S:=fun (a2,bd,aI,aj,bz,al)=>e1 [(0,.ref 0 0 0 0),(1,.n .i64 hR),(4,.n .i64 a2)] [[ab.mk 6 [(eL 1 0 0 aj.length bd aI 3 0 0 al.length c8 4 0 0 a8.length)] .live],(av 1 (bR 2 0 2) aj),(c6 2 aN bz),(av 1 J al),(av 1 dM a8)]
def F7 (hR c8:Int)(a8:List Bool):(Bool×(List Int)×(List bX)×(List (List bc))×(List Int))→e5
 | a=>⟨some 0,[],[[ab.mk 6 [(eL 1 0 0 a.2.2.1.length a.1 a.2.1 3 0 0 a.2.2.2.2.length c8 4 0 0 a8.length)] .live],(av 1 (bR 2 0 2) a.2.2.1),(c6 2 aN a.2.2.2.1),(av 1 J a.2.2.2.2),(av 1 dM a8)]⟩
def ze (hR c8:Int)(a8:List Bool)(a2:Int)(bd:Bool)(aI:List Int)(aj:List bX)(bz:List (List bc))(al:List Int):Option ((Int×Bool×(List Int)×(List bX)×(List (List bc))×(List Int))⊕(Bool×(List Int)×(List bX)×(List (List bc))×(List Int))) :=
 if (decide (a2<((aj.length:Nat):Int)))=true then
  if 0≤a2∧a2<(al.length:Nat) then
  al[(0+a2.toNat)]? >>= fun aV =>
  if (decide (aV<hR))=true then
   some (.inl (U (a2+(1:Int)),bd,aI,aj,bz,al))
  else
   Cc hR a2 bd aI c8 aj bz al a8 0 >>= fun c0 =>
   if (decide (c0<hR))=true then
    wU a2 c0 bd aI c8 aj bz al a8 >>= fun bA =>
    some (.inl (U (a2+(1:Int)),bA.1,bA.2.1,aj,bA.2.2.1,bA.2.2.2))
   else
    if 0≤a2 then
    if 0≤a2.toNat∧a2.toNat≤aj.length then
    if 0≤(U (a2+(1:Int))) then
    if (U (a2+(1:Int))).toNat≤aj.length then
    if (0+(U (a2+(1:Int))).toNat)+(aj.length-(U (a2+(1:Int))).toNat)≤aj.length then
    if (a2.toNat-0)+((aj.drop (0+(U (a2+(1:Int))).toNat)).take (aj.length-(U (a2+(1:Int))).toNat)).length≤aj.length then
    if ((aj.drop (0+(U (a2+(1:Int))).toNat)).take (aj.length-(U (a2+(1:Int))).toNat)).length*24≤140737488355328 then
    if 0≤a2.toNat∧a2.toNat≤al.length then
    if (U (a2+(1:Int))).toNat≤al.length then
    if (0+(U (a2+(1:Int))).toNat)+(al.length-(U (a2+(1:Int))).toNat)≤al.length then
    if (a2.toNat-0)+((al.drop (0+(U (a2+(1:Int))).toNat)).take (al.length-(U (a2+(1:Int))).toNat)).length≤al.length then
    if ((al.drop (0+(U (a2+(1:Int))).toNat)).take (al.length-(U (a2+(1:Int))).toNat)).length*8≤140737488355328 then
    some (.inl (a2,bd,aI,aj.take (a2.toNat-0)++((aj.drop (0+(U (a2+(1:Int))).toNat)).take (aj.length-(U (a2+(1:Int))).toNat)),bz,al.take (a2.toNat-0)++((al.drop (0+(U (a2+(1:Int))).toNat)).take (al.length-(U (a2+(1:Int))).toNat))))
    else none
    else none
    else none
    else none
    else none
    else none
    else none
    else none
    else none
    else none
    else none
    else none
  else none
 else
  some (.inr (bd,aI,aj,bz,al))
def Gj (hR c8:Int)(a8:List Bool)(a2:Int)(bd:Bool)(aI:List Int)(aj:List bX)(bz:List (List bc))(al:List Int):Option (Bool×(List Int)×(List bX)×(List (List bc))×(List Int)):=iter (fun w:Int×Bool×(List Int)×(List bX)×(List (List bc))×(List Int)=>ze hR c8 a8 w.1 w.2.1 w.2.2.1 w.2.2.2.1 w.2.2.2.2.1 w.2.2.2.2.2) (a2,bd,aI,aj,bz,al)
theorem SE {hR c8:Int}{a8:List Bool}{a2:Int}{bd:Bool}{aI:List Int}{aj:List bX}{bz:List (List bc)}{al:List Int}:b6 (ze hR c8 a8 a2 bd aI aj bz al) (fG bC 86 5 83 [1,0,0] (F0 hR c8 a8 (a2,bd,aI,aj,bz,al)) (F0 hR c8 a8) (F7 hR c8 a8)):=by
 unfold ze
 exact .ite (fun o =>
  .bn fun R =>
  .aC fun aV aB =>
  (let t1:List c5:=[(ag 7),.ao true,.aH (bU 6 (.cK (J aV)) 2)];
  .ite (fun aK =>
  .ret (b5 (t1.append [.ao true,(ag 3),.br [0,1,2,3,4] [.box [.id,.id,.id,.id,.id,.id],.bt (av 1 (bR 2 0 2) aj),.bt (c6 2 aN bz),.pure,.pure] (b2 [0,1,4])]) (.bh o R.1 R.2 (cP J aB) aK (eP (cX [0,1,2,3,4]) 2 2 0 2 rfl aj) (eW (cX [0,1,2,3,4]) 2 eb bz) (aA 1 .live aE al) (.ay (aA 1 .live d5 a8)))))
  (fun aK =>
  .aC fun c0 bS =>
  (let t2:List c5:=t1.append [.ao false,(ag 1),.br [0,1,2,3,4] [.box [.id,.id,.id,.id,.id,.id],.bt (av 1 (bR 2 0 2) aj),.bt (c6 2 aN bz),.pure,.pure] (b2 [0,1,4,5]),(F6 hR a2 bd aI c8 aj bz al a8 c0).gr,(ag 3)];
  have fK:=((.bh o R.1 R.2 (cP J aB) aK (eP (cX [0,1,2,3,4]) 2 2 0 2 rfl aj) (eW (cX [0,1,2,3,4]) 2 eb bz) (aA 1 .live aE al) (.aD (aA 1 .live d5 a8) (SW bS))):c9 _);
  .ite (fun bx =>
  .aC fun bA dQ =>
  .ret (let aW:=eL 1 0 0 aj.length bA.1 bA.2.1 3 0 0 bA.2.2.2.length c8 4 0 0 a8.length;let bi:=eL 1 0 0 aj.length bd aI 3 0 0 al.length c8 4 0 0 a8.length;let cd:=av 1 (bR 2 0 2) aj;let cV:=c6 2 aN bA.2.2.1;let dX:=o9 [0,1,2,3,4];let fD:=f8 [0,1,2,3,4];let gR:=jt 1 (aj.map (bR 2 0 2));b5 (t2.append [.ao true,.aH (an 3 (aq (.call {aM:=(o1 [0,1,2,3,4]),cM:=[.bt [ab.mk 6 [bi] .live],.bt cd,.bt (c6 2 aN bz),.pure,.pure],ac:=[ii,ii,ii],r:= .dK [],dT:=[[ab.mk 6 [aW] .live],cd,cV,(av 1 J bA.2.2.2),(av 1 dM a8)],ff:=ii,fR:=[.bt [ab.mk 6 [aW] .live],.bt cd,.bt cV,.pure,.pure],dA:=[0,1,2,3,4],dt:=false}) [])),(ag 3),.br [0,1,2,3,4] [.box [.id,.id,.id,.id,.id,.id],.bt cd,.bt cV,.pure,.pure] (b2 [0,1,4])]) (fK.bb (.bh bx (i1 dX 6 [bi] [bi] rfl) (jt 6 [bi]) (eP dX 2 2 0 2 rfl aj) gR (eW dX 2 eb bz) (q1 2 aN bz) (fs 1 aE al) (.bh (fs 1 d5 a8) (i1 fD 6 [aW] [aW] rfl) (jt 6 [aW]) (eP fD 2 2 0 2 rfl aj) gR (eW fD 2 eb bA.2.2.1) (q1 2 aN bA.2.2.1) (fs 1 aE bA.2.2.2) (.eK (fs 1 d5 a8) (LC bA dQ) (eP (cX [0,1,2,3,4]) 2 2 0 2 rfl aj) (eW (cX [0,1,2,3,4]) 2 eb bA.2.2.1) (aA 1 .live aE bA.2.2.2) (aA 1 .live d5 a8)))))))
  (fun bx =>
  .bn fun dy =>
  .bn fun dQ =>
  .bn fun dC =>
  .bn fun fr =>
  .bn fun eC =>
  .bn fun eQ =>
  .bn fun gk =>
  .bn fun hJ =>
  .bn fun fS =>
  .bn fun ku =>
  .bn fun kf =>
  .bn fun kV =>
  .ret (let e2:=(U (a2+(1:Int)));let hy:=cW (bR 2 0 2) aj;let hT:=cX [0,1,2,3,4];let jz:=cW J al;b5 (t2.append [.ao false,.aH (bU 14 .dO 3),.aH (bU 14 .dO 3),.br [0,1,2,3,4] [.box [.len ((aj.take (a2.toNat-0)++((aj.drop (0+e2.toNat)).take (aj.length-e2.toNat))).length),.id,.id,.len ((al.take (a2.toNat-0)++((al.drop (0+e2.toNat)).take (al.length-e2.toNat))).length),.id,.id],.bt (av 1 (bR 2 0 2) (aj.take (a2.toNat-0)++((aj.drop (0+e2.toNat)).take (aj.length-e2.toNat)))),.bt (c6 2 aN bz),.da (av 1 J (al.take (a2.toNat-0)++((al.drop (0+e2.toNat)).take (al.length-e2.toNat)))),.pure] (b2 [0,1,4])]) (fK.bb (.bh bx dy dQ.1 dQ.2 dC fr (Nat.le_refl aj.length) (hZ hy eC) (.bh (Pw hy (ph hy (0+e2.toNat) (aj.length-e2.toNat)) eQ) (N9 (ph hy (0+e2.toNat) (aj.length-e2.toNat)) gk) dy hJ.1 hJ.2 dC fS (Nat.le_refl al.length) (.bh (hZ jz ku) (Pw jz (ph jz (0+e2.toNat) (al.length-e2.toNat)) kf) (N9 (ph jz (0+e2.toNat) (al.length-e2.toNat)) kV) ((IH (Pv eQ) (ph hy (0+e2.toNat) (aj.length-e2.toNat)):(aj.take (a2.toNat-0)++((aj.drop (0+e2.toNat)).take (aj.length-e2.toNat))).length=(a2.toNat-0)+(((aj.map (bR 2 0 2)).drop (0+e2.toNat)).take (aj.length-e2.toNat)).length).symm) ((IH (Pv kf) (ph jz (0+e2.toNat) (al.length-e2.toNat)):(al.take (a2.toNat-0)++((al.drop (0+e2.toNat)).take (al.length-e2.toNat))).length=(a2.toNat-0)+(((al.map J).drop (0+e2.toNat)).take (al.length-e2.toNat)).length).symm) (c4 (tk (bQ:=hT) 1 .live (bR 2 0 2) (IG hy (a2.toNat-0) (ph hy (0+e2.toNat) (aj.length-e2.toNat))) (Ao (rfl:hT 2=some 2))) (ib (bQ:=hT))) (eW hT 2 eb bz) (dF 1 .live (IG jz (a2.toNat-0) (ph jz (0+e2.toNat) (al.length-e2.toNat)))) (.aD (aA 1 .live aE (al.take (a2.toNat-0)++((al.drop (0+e2.toNat)).take (al.length-e2.toNat)))) (aA 1 .live d5 a8))))))))))))
  (fun o =>
  .ret (b5 [(ag 7),.ao false,.br [0,1,2,3,4] [.box [.id,.id,.id,.id,.id,.id],.bt (av 1 (bR 2 0 2) aj),.bt (c6 2 aN bz),.pure,.pure] []] (.dV o (eP (cX [0,1,2,3,4]) 2 2 0 2 rfl aj) (eW (cX [0,1,2,3,4]) 2 eb bz) (aA 1 .live aE al) (aA 1 .live d5 a8))))
theorem SX {hR c8:Int}{a8:List Bool}{a2:Int}{bd:Bool}{aI:List Int}{aj:List bX}{bz:List (List bc)}{al:List Int}{r} (h:Gj hR c8 a8 a2 bd aI aj bz al=some r):fH bC 86 5 83 [1,0,0] (F0 hR c8 a8) (F7 hR c8 a8) (a2,bd,aI,aj,bz,al) r:=fI (fun _=>SE) h
def zk (hR:Int)(cb:Bool)(cB:List Int)(ft:Int)(cT:List bX)(lT:List (List bc))(dc:List Int)(hh:List Bool):Option (Bool×(List Int)×(List bX)×(List (List bc))×(List Int)) :=
 Gj hR ft hh 0 cb cB cT lT dc >>= fun ax =>
 some (ax.1,ax.2.1,ax.2.2.1,ax.2.2.2.1,ax.2.2.2.2)
theorem Ta {hR:Int}{cb:Bool}{cB:List Int}{ft:Int}{cT:List bX}{lT:List (List bc)}{dc:List Int}{hh:List Bool}:b6 (zk hR cb cB ft cT lT dc hh) (fun a=>Con bC 83 [.ref 0 0 0 0,.n .i64 hR] [[ab.mk 6 [(eL 1 0 0 cT.length cb cB 3 0 0 dc.length ft 4 0 0 hh.length)] .live],(av 1 (bR 2 0 2) cT),(c6 2 aN lT),(av 1 J dc),(av 1 dM hh)] (.dK []) [[ab.mk 6 [(eL 1 0 0 a.2.2.1.length a.1 a.2.1 3 0 0 a.2.2.2.2.length ft 4 0 0 hh.length)] .live],(av 1 (bR 2 0 2) a.2.2.1),(c6 2 aN a.2.2.2.1),(av 1 J a.2.2.2.2),(av 1 dM hh)]):=by
 unfold zk
 exact .aC fun ax R =>
  .ret (let aW:=eL 1 0 0 ax.2.2.1.length ax.1 ax.2.1 3 0 0 ax.2.2.2.2.length ft 4 0 0 hh.length;let bi:=cX [0,1,2,3,4];iu [(ag 1),.br [0,1,2,3,4] [.box [.id,.id,.id,.id,.id,.id],.bt (av 1 (bR 2 0 2) cT),.bt (c6 2 aN lT),.pure,.pure] (b2 [0,1,4]),(F7 hR ft hh ax).gr] [0,1,2,3,4] [.bt [ab.mk 6 [aW] .live],.bt (av 1 (bR 2 0 2) ax.2.2.1),.bt (c6 2 aN ax.2.2.2.1),.pure,.pure] (.bh (eP bi 2 2 0 2 rfl cT) (eW bi 2 eb lT) (aA 1 .live aE dc) (aA 1 .live d5 hh) (SX R) (i1 bi 6 [aW] [aW] rfl) (eP bi 2 2 0 2 rfl ax.2.2.1) (eW bi 2 eb ax.2.2.2.1) (.aD (aA 1 .live aE ax.2.2.2.2) (aA 1 .live d5 hh))))
end Go.Proofs.Ytgfpnhmcmgnepab
namespace Go.Proofs.Ytgfpnhmcmgnepab
set_option linter.unusedVariables false
set_option linter.unusedSimpArgs false
open Go Go.VL
def GC (ba a2:Int)(h9 gv:Nat)(dW:Int)(jH jG:Nat)(jL aI:Int)(aj aQ al:List Int)(cJ:Bool)(cI:List Int)(cf:List bX)(dr:List Int)(cg:List Bool):(Int×(List (List bc)))→S:=fun (fz,iA)=>e1 [(0,.ref 0 0 0 0),(4,.n .i64 ba),(5,.ref 4 0 0 0),(6,.n .i64 a2),(7,.bm 5 (h9+0) 0 gv),(8,.n .i64 (-1:Int)),(34,.n .i64 dW),(35,.n .i64 a2),(51,.bm 1 0 jH jG),(52,.n .i64 jL),(53,.n .i64 fz)] [[ab.mk 5 [(fE dW aI 1 0 0 aj.length 2 0 0 aQ.length 3 0 0 al.length)] .live],(av 1 J aj),(av 1 J aQ),(av 1 J al),[ab.mk 6 [(eL 6 0 0 cf.length cJ cI 7 0 0 dr.length ba 8 0 0 cg.length)] .live],(c6 2 aN iA),(av 1 (bR 5 0 2) cf),(av 1 J dr),(av 1 dM cg)]
def GW (ba a2:Int)(h9 gv:Nat)(dW:Int)(jH jG:Nat)(jL aI:Int)(aj aQ al:List Int)(cJ:Bool)(cI:List Int)(cf:List bX)(dr:List Int)(cg:List Bool):(List (List bc))→e5
 | a=>⟨some 2,[(0,.ref 0 0 0 0),(4,.n .i64 ba),(5,.ref 4 0 0 0),(6,.n .i64 a2),(7,.bm 5 (h9+0) 0 gv),(8,.n .i64 (-1:Int)),(34,.n .i64 dW),(35,.n .i64 a2)],[[ab.mk 5 [(fE dW aI 1 0 0 aj.length 2 0 0 aQ.length 3 0 0 al.length)] .live],(av 1 J aj),(av 1 J aQ),(av 1 J al),[ab.mk 6 [(eL 6 0 0 cf.length cJ cI 7 0 0 dr.length ba 8 0 0 cg.length)] .live],(c6 2 aN a),(av 1 (bR 5 0 2) cf),(av 1 J dr),(av 1 dM cg)]⟩
def wV (ba a2:Int)(h9 gv:Nat)(dW:Int)(jH jG:Nat)(jL aI:Int)(aj aQ al:List Int)(cJ:Bool)(cI:List Int)(cf:List bX)(dr:List Int)(cg:List Bool)(fz:Int)(iA:List (List bc)):Option ((Int×(List (List bc)))⊕((List (List bc)))) :=
 if (decide (fz<jL))=true then
  if 0≤fz∧fz<(jG:Nat) then
  aj[(jH+fz.toNat)]? >>= fun aV =>
  nW (U ((-1:Int)*aV)) >>= fun bD =>
  iA[h9]? >>= fun lA =>
  if 0≤fz∧fz<(gv:Nat) then
  lA[(0+fz.toNat)]? >>= fun j6 =>
  some (.inl (U (fz+(1:Int)),iA.set h9 (lA.set (0+fz.toNat) bD)))
  else none
  else none
 else
  some (.inr iA)
def Cy (ba a2:Int)(h9 gv:Nat)(dW:Int)(jH jG:Nat)(jL aI:Int)(aj aQ al:List Int)(cJ:Bool)(cI:List Int)(cf:List bX)(dr:List Int)(cg:List Bool)(fz:Int)(iA:List (List bc)):Option ((List (List bc))):=iter (fun w:Int×(List (List bc))=>wV ba a2 h9 gv dW jH jG jL aI aj aQ al cJ cI cf dr cg w.1 w.2) (fz,iA)
theorem Tb {ba a2:Int}{h9 gv:Nat}{dW:Int}{jH jG:Nat}{jL aI:Int}{aj aQ al:List Int}{cJ:Bool}{cI:List Int}{cf:List bX}{dr:List Int}{cg:List Bool}{fz:Int}{iA:List (List bc)}:b6 (wV ba a2 h9 gv dW jH jG jL aI aj aQ al cJ cI cf dr cg fz iA) (fG bC 205 4 60 [1,1,1,0,1,0,0,1,1,0,0,1,1,1,1,0,1,0,0] (GC ba a2 h9 gv dW jH jG jL aI aj aQ al cJ cI cf dr cg (fz,iA)) (GC ba a2 h9 gv dW jH jG jL aI aj aQ al cJ cI cf dr cg) (GW ba a2 h9 gv dW jH jG jL aI aj aQ al cJ cI cf dr cg)):=by
 unfold wV
 exact .ite (fun o =>
  .bn fun R =>
  .aC fun aV aB =>
  .aC fun bD bF =>
  .aC fun lA bx =>
  .bn fun dy =>
  .aC fun j6 dC =>
  .ret (let aW:=cX [0,1,2,3,4,5,6,7,8];let bi:=lI (iN .live 2 aN iA) lg bx;b5 [(ag 1),.ao true,.aH (bU 2 (.cK (J aV)) 2),.aH (an 5 (aq (b3 1 (.agg (aN bD)) false) (aq (.hd (ab.mk 2 (lA.map aN) .live) []) (aq (.hd (ab.mk 2 (lA.map aN) .live) (aN j6)) [])))),(ag 2),.br [0,1,2,3,4,5,6,7,8] [.box [.id,.id,.id,.id,.id],.pure,.pure,.pure,.box [.id,.id,.id,.id,.id,.id],.bt (c6 2 aN (iA.set h9 (lA.set (0+fz.toNat) bD))),.bt (av 1 (bR 5 0 2) cf),.pure,.pure] (b2 [0,4,5,6,7,8,34,35,51,52,53])] (.bh o R.1 R.2 (cP J aB) (rO bD bF) bi dy.1 dy.2 (.bh bi (cP aN dC) (aA 1 .live aE aj) (aA 1 .live aE aQ) (aA 1 .live aE al) (qy (bQ:=aW) (rW (iN .live 2 aN iA) h9 (lD (cW aN lA) (0+fz.toNat) bD (rfl:(setCells (aN j6) 0 (aN bD))=aN bD))) (n5 eb)) (eP aW 5 5 0 2 rfl cf) (aA 1 .live aE dr) (.ay (aA 1 .live d5 cg))))))
  (fun o =>
  .ret (let cd:=cX [0,1,2,3,4,5,6,7,8];b5 [(ag 1),.ao false,.br [0,1,2,3,4,5,6,7,8] [.box [.id,.id,.id,.id,.id],.pure,.pure,.pure,.box [.id,.id,.id,.id,.id,.id],.bt (c6 2 aN iA),.bt (av 1 (bR 5 0 2) cf),.pure,.pure] (b2 [0,4,5,6,7,8,34,35])] (.hq o (aA 1 .live aE aj) (aA 1 .live aE aQ) (aA 1 .live aE al) (eW cd 2 eb iA) (eP cd 5 5 0 2 rfl cf) (aA 1 .live aE dr) (aA 1 .live d5 cg))))
theorem TN {ba a2:Int}{h9 gv:Nat}{dW:Int}{jH jG:Nat}{jL aI:Int}{aj aQ al:List Int}{cJ:Bool}{cI:List Int}{cf:List bX}{dr:List Int}{cg:List Bool}{fz:Int}{iA:List (List bc)}{r} (h:Cy ba a2 h9 gv dW jH jG jL aI aj aQ al cJ cI cf dr cg fz iA=some r):fH bC 205 4 60 [1,1,1,0,1,0,0,1,1,0,0,1,1,1,1,0,1,0,0] (GC ba a2 h9 gv dW jH jG jL aI aj aQ al cJ cI cf dr cg) (GW ba a2 h9 gv dW jH jG jL aI aj aQ al cJ cI cf dr cg) (fz,iA) r:=fI (fun _=>Tb) h
def GD (ba a2:Int)(h9 gv:Nat)(dW:Int)(jH jG:Nat)(jL aI:Int)(aj aQ al:List Int)(cJ:Bool)(cI:List Int)(cf:List bX)(dr:List Int)(cg:List Bool):(Int×(List (List bc)))→S:=fun (fz,iA)=>e1 [(0,.ref 0 0 0 0),(4,.n .i64 ba),(5,.ref 4 0 0 0),(6,.n .i64 a2),(7,.bm 5 (h9+0) 0 gv),(8,.n .i64 (1:Int)),(34,.n .i64 dW),(35,.n .i64 a2),(51,.bm 1 0 jH jG),(52,.n .i64 jL),(53,.n .i64 fz)] [[ab.mk 5 [(fE dW aI 1 0 0 aj.length 2 0 0 aQ.length 3 0 0 al.length)] .live],(av 1 J aj),(av 1 J aQ),(av 1 J al),[ab.mk 6 [(eL 6 0 0 cf.length cJ cI 7 0 0 dr.length ba 8 0 0 cg.length)] .live],(c6 2 aN iA),(av 1 (bR 5 0 2) cf),(av 1 J dr),(av 1 dM cg)]
def GX (ba a2:Int)(h9 gv:Nat)(dW:Int)(jH jG:Nat)(jL aI:Int)(aj aQ al:List Int)(cJ:Bool)(cI:List Int)(cf:List bX)(dr:List Int)(cg:List Bool):(List (List bc))→e5
 | a=>⟨some 2,[(0,.ref 0 0 0 0),(4,.n .i64 ba),(5,.ref 4 0 0 0),(6,.n .i64 a2),(7,.bm 5 (h9+0) 0 gv),(8,.n .i64 (1:Int)),(34,.n .i64 dW),(35,.n .i64 a2)],[[ab.mk 5 [(fE dW aI 1 0 0 aj.length 2 0 0 aQ.length 3 0 0 al.length)] .live],(av 1 J aj),(av 1 J aQ),(av 1 J al),[ab.mk 6 [(eL 6 0 0 cf.length cJ cI 7 0 0 dr.length ba 8 0 0 cg.length)] .live],(c6 2 aN a),(av 1 (bR 5 0 2) cf),(av 1 J dr),(av 1 dM cg)]⟩
def wW (ba a2:Int)(h9 gv:Nat)(dW:Int)(jH jG:Nat)(jL aI:Int)(aj aQ al:List Int)(cJ:Bool)(cI:List Int)(cf:List bX)(dr:List Int)(cg:List Bool)(fz:Int)(iA:List (List bc)):Option ((Int×(List (List bc)))⊕((List (List bc)))) :=
 if (decide (fz<jL))=true then
  if 0≤fz∧fz<(jG:Nat) then
  aj[(jH+fz.toNat)]? >>= fun aV =>
  nW (U ((1:Int)*aV)) >>= fun bD =>
  iA[h9]? >>= fun lA =>
  if 0≤fz∧fz<(gv:Nat) then
  lA[(0+fz.toNat)]? >>= fun j6 =>
  some (.inl (U (fz+(1:Int)),iA.set h9 (lA.set (0+fz.toNat) bD)))
  else none
  else none
 else
  some (.inr iA)
def Cz (ba a2:Int)(h9 gv:Nat)(dW:Int)(jH jG:Nat)(jL aI:Int)(aj aQ al:List Int)(cJ:Bool)(cI:List Int)(cf:List bX)(dr:List Int)(cg:List Bool)(fz:Int)(iA:List (List bc)):Option ((List (List bc))):=iter (fun w:Int×(List (List bc))=>wW ba a2 h9 gv dW jH jG jL aI aj aQ al cJ cI cf dr cg w.1 w.2) (fz,iA)
theorem Tc {ba a2:Int}{h9 gv:Nat}{dW:Int}{jH jG:Nat}{jL aI:Int}{aj aQ al:List Int}{cJ:Bool}{cI:List Int}{cf:List bX}{dr:List Int}{cg:List Bool}{fz:Int}{iA:List (List bc)}:b6 (wW ba a2 h9 gv dW jH jG jL aI aj aQ al cJ cI cf dr cg fz iA) (fG bC 205 4 60 [1,1,1,0,1,0,0,1,1,0,0,1,1,1,1,0,1,0,0] (GD ba a2 h9 gv dW jH jG jL aI aj aQ al cJ cI cf dr cg (fz,iA)) (GD ba a2 h9 gv dW jH jG jL aI aj aQ al cJ cI cf dr cg) (GX ba a2 h9 gv dW jH jG jL aI aj aQ al cJ cI cf dr cg)):=by
 unfold wW
 exact .ite (fun o =>
  .bn fun R =>
  .aC fun aV aB =>
  .aC fun bD bF =>
  .aC fun lA bx =>
  .bn fun dy =>
  .aC fun j6 dC =>
  .ret (let aW:=cX [0,1,2,3,4,5,6,7,8];let bi:=lI (iN .live 2 aN iA) lg bx;b5 [(ag 1),.ao true,.aH (bU 2 (.cK (J aV)) 2),.aH (an 5 (aq (b3 1 (.agg (aN bD)) false) (aq (.hd (ab.mk 2 (lA.map aN) .live) []) (aq (.hd (ab.mk 2 (lA.map aN) .live) (aN j6)) [])))),(ag 2),.br [0,1,2,3,4,5,6,7,8] [.box [.id,.id,.id,.id,.id],.pure,.pure,.pure,.box [.id,.id,.id,.id,.id,.id],.bt (c6 2 aN (iA.set h9 (lA.set (0+fz.toNat) bD))),.bt (av 1 (bR 5 0 2) cf),.pure,.pure] (b2 [0,4,5,6,7,8,34,35,51,52,53])] (.bh o R.1 R.2 (cP J aB) (rO bD bF) bi dy.1 dy.2 (.bh bi (cP aN dC) (aA 1 .live aE aj) (aA 1 .live aE aQ) (aA 1 .live aE al) (qy (bQ:=aW) (rW (iN .live 2 aN iA) h9 (lD (cW aN lA) (0+fz.toNat) bD (rfl:(setCells (aN j6) 0 (aN bD))=aN bD))) (n5 eb)) (eP aW 5 5 0 2 rfl cf) (aA 1 .live aE dr) (.ay (aA 1 .live d5 cg))))))
  (fun o =>
  .ret (let cd:=cX [0,1,2,3,4,5,6,7,8];b5 [(ag 1),.ao false,.br [0,1,2,3,4,5,6,7,8] [.box [.id,.id,.id,.id,.id],.pure,.pure,.pure,.box [.id,.id,.id,.id,.id,.id],.bt (c6 2 aN iA),.bt (av 1 (bR 5 0 2) cf),.pure,.pure] (b2 [0,4,5,6,7,8,34,35])] (.hq o (aA 1 .live aE aj) (aA 1 .live aE aQ) (aA 1 .live aE al) (eW cd 2 eb iA) (eP cd 5 5 0 2 rfl cf) (aA 1 .live aE dr) (aA 1 .live d5 cg))))
theorem TO {ba a2:Int}{h9 gv:Nat}{dW:Int}{jH jG:Nat}{jL aI:Int}{aj aQ al:List Int}{cJ:Bool}{cI:List Int}{cf:List bX}{dr:List Int}{cg:List Bool}{fz:Int}{iA:List (List bc)}{r} (h:Cz ba a2 h9 gv dW jH jG jL aI aj aQ al cJ cI cf dr cg fz iA=some r):fH bC 205 4 60 [1,1,1,0,1,0,0,1,1,0,0,1,1,1,1,0,1,0,0] (GD ba a2 h9 gv dW jH jG jL aI aj aQ al cJ cI cf dr cg) (GX ba a2 h9 gv dW jH jG jL aI aj aQ al cJ cI cf dr cg) (fz,iA) r:=fI (fun _=>Tc) h
def GF (ba dW aI:Int)(aj aQ al:List Int)(cJ:Bool)(cI:List Int)(cg:List Bool):(Int×(List bX)×(List (List bc))×(List Int))→S:=fun (dp,bs,eo,dr)=>e1 [(0,.ref 0 0 0 0),(4,.n .i64 ba),(5,.ref 4 0 0 0),(34,.n .i64 dW),(35,.n .i64 dp)] [[ab.mk 5 [(fE dW aI 1 0 0 aj.length 2 0 0 aQ.length 3 0 0 al.length)] .live],(av 1 J aj),(av 1 J aQ),(av 1 J al),[ab.mk 6 [(eL 5 0 0 bs.length cJ cI 7 0 0 dr.length ba 8 0 0 cg.length)] .live],(av 1 (bR 6 0 2) bs),(c6 2 aN eo),(av 1 J dr),(av 1 dM cg)]
def GY (ba dW aI:Int)(aj aQ al:List Int)(cJ:Bool)(cI:List Int)(cg:List Bool):((List bX)×(List (List bc))×(List Int))→e5
 | a=>⟨some 0,[(0,.ref 0 0 0 0),(4,.n .i64 ba),(5,.ref 4 0 0 0)],[[ab.mk 5 [(fE dW aI 1 0 0 aj.length 2 0 0 aQ.length 3 0 0 al.length)] .live],(av 1 J aj),(av 1 J aQ),(av 1 J al),[ab.mk 6 [(eL 5 0 0 a.1.length cJ cI 7 0 0 a.2.2.length ba 8 0 0 cg.length)] .live],(av 1 (bR 6 0 2) a.1),(c6 2 aN a.2.1),(av 1 J a.2.2),(av 1 dM cg)]⟩
def wX (ba dW aI:Int)(aj aQ al:List Int)(cJ:Bool)(cI:List Int)(cg:List Bool)(dp:Int)(bs:List bX)(eo:List (List bc))(dr:List Int):Option ((Int×(List bX)×(List (List bc))×(List Int))⊕((List bX)×(List (List bc))×(List Int))) :=
 if (decide (dp<dW))=true then
  if 0≤(U (ba+(1:Int)))∧(32:Int)*(U (ba+(1:Int)))≤281474976710656∧(U (ba+(1:Int)))<9223372036854775808 then
  if 0≤dp∧dp<(aQ.length:Nat) then
  aQ[(0+dp.toNat)]? >>= fun f6 =>
  if (decide (f6<(0:Int)))=true then
   Cj dp dW aI aj aQ al >>= fun bL =>
   Cy ba dp eo.length ((U (ba+(1:Int))).toNat) dW bL.1 bL.2 ((bL.2:Nat):Int) aI aj aQ al cJ cI bs dr cg 0 (eo++[(List.replicate (U (ba+(1:Int))).toNat (⟨false,([]:List Int)⟩:bc):List bc)]) >>= fun bA =>
   nW 1 >>= fun eU =>
   bA[eo.length]? >>= fun nP =>
   if 0≤(U (aI+dp))∧(U (aI+dp))<((U (ba+(1:Int))).toNat:Nat) then
   nP[(0+(U (aI+dp)).toNat)]? >>= fun kH =>
   nW (U ((-1:Int)*f6)) >>= fun dU =>
   (bA.set eo.length (nP.set (0+(U (aI+dp)).toNat) eU))[eo.length]? >>= fun o5 =>
   if 0≤ba∧ba<((U (ba+(1:Int))).toNat:Nat) then
   o5[(0+ba.toNat)]? >>= fun vJ =>
   if (bs++([(some (eo.length,(U (ba+(1:Int))).toNat))]:List bX)).length*24≤140737488355328 then
   if (dr++([U (aI+dp)]:List Int)).length*8≤140737488355328 then
   some (.inl (U (dp+(1:Int)),bs++([(some (eo.length,(U (ba+(1:Int))).toNat))]:List bX),(bA.set eo.length (nP.set (0+(U (aI+dp)).toNat) eU)).set eo.length (o5.set (0+ba.toNat) dU),dr++([U (aI+dp)]:List Int)))
   else none
   else none
   else none
   else none
  else
   Cj dp dW aI aj aQ al >>= fun bL =>
   Cz ba dp eo.length ((U (ba+(1:Int))).toNat) dW bL.1 bL.2 ((bL.2:Nat):Int) aI aj aQ al cJ cI bs dr cg 0 (eo++[(List.replicate (U (ba+(1:Int))).toNat (⟨false,([]:List Int)⟩:bc):List bc)]) >>= fun bA =>
   nW 1 >>= fun eU =>
   bA[eo.length]? >>= fun nP =>
   if 0≤(U (aI+dp))∧(U (aI+dp))<((U (ba+(1:Int))).toNat:Nat) then
   nP[(0+(U (aI+dp)).toNat)]? >>= fun kH =>
   nW (U ((1:Int)*f6)) >>= fun dU =>
   (bA.set eo.length (nP.set (0+(U (aI+dp)).toNat) eU))[eo.length]? >>= fun o5 =>
   if 0≤ba∧ba<((U (ba+(1:Int))).toNat:Nat) then
   o5[(0+ba.toNat)]? >>= fun vJ =>
   if (bs++([(some (eo.length,(U (ba+(1:Int))).toNat))]:List bX)).length*24≤140737488355328 then
   if (dr++([U (aI+dp)]:List Int)).length*8≤140737488355328 then
   some (.inl (U (dp+(1:Int)),bs++([(some (eo.length,(U (ba+(1:Int))).toNat))]:List bX),(bA.set eo.length (nP.set (0+(U (aI+dp)).toNat) eU)).set eo.length (o5.set (0+ba.toNat) dU),dr++([U (aI+dp)]:List Int)))
   else none
   else none
   else none
   else none
  else none
  else none
 else
  some (.inr (bs,eo,dr))
def CA (ba dW aI:Int)(aj aQ al:List Int)(cJ:Bool)(cI:List Int)(cg:List Bool)(dp:Int)(bs:List bX)(eo:List (List bc))(dr:List Int):Option ((List bX)×(List (List bc))×(List Int)):=iter (fun w:Int×(List bX)×(List (List bc))×(List Int)=>wX ba dW aI aj aQ al cJ cI cg w.1 w.2.1 w.2.2.1 w.2.2.2) (dp,bs,eo,dr)
set_option maxHeartbeats 4000000 in
theorem Td {ba dW aI:Int}{aj aQ al:List Int}{cJ:Bool}{cI:List Int}{cg:List Bool}{dp:Int}{bs:List bX}{eo:List (List bc)}{dr:List Int}:b6 (wX ba dW aI aj aQ al cJ cI cg dp bs eo dr) (fG bC 205 4 60 [1,1,1,0,1,0,0] (GF ba dW aI aj aQ al cJ cI cg (dp,bs,eo,dr)) (GF ba dW aI aj aQ al cJ cI cg) (GY ba dW aI aj aQ al cJ cI cg)):=by
 unfold wX
 exact .ite (fun o =>
  .bn fun R =>
  .bn fun ah =>
  .aC fun f6 aK =>
  (let t1:List c5:=[(ag 1),.ao true,(ag 2),.aH (bU 2 (.BC 6 (eo.length+0) (.cK [.b false,.isl 1 (([]:List Int).map J)])) 1),(ag 1),.aH (bU 6 (.cK (J f6)) 1)];
  have bg:=((.bh o R.1 (Int.le_refl (U (ba+(1:Int)))) R.2.1 R.2.2 (congrArg (· + 0) (Yr (iN .live 2 aN eo) rfl)) ah.1 ah.2 (.ay (cP J aK))):c9 _);
  .ite (fun bF =>
  .aC fun bL bx =>
  .aC fun bA dQ =>
  .aC fun eU fr =>
  .aC fun nP eQ =>
  .bn fun gk =>
  .aC fun kH fS =>
  .aC fun dU kf =>
  .aC fun o5 nO =>
  .bn fun jc =>
  .aC fun vJ qV =>
  .bn fun nh =>
  .bn fun vH =>
  .ret (let aW:=fE dW aI 1 0 0 aj.length 2 0 0 aQ.length 3 0 0 al.length;let cd:=(U (ba+(1:Int)));let cV:=cX [0,1,2,3,4,40,5,56,8];let dX:=U (aI+dp);let bi:=(rW (iN .live 2 aN bA) eo.length (lD (cW aN nP) (0+dX.toNat) eU (rfl:(setCells (aN kH) 0 (aN eU))=aN eU)));let fD:=(dr++([dX]:List Int));let gR:=(bs++([(some (eo.length,cd.toNat))]:List bX));let e2:=cX [0,1,2,3,4,6,5,7,8];let hy:=lI (iN .live 2 aN bA) lg eQ;b5 (t1.append [.ao true,(ag 1),.aH (bU 2 (.call {aM:=(o1 [0,1,2,3]),cM:=[.bt [ab.mk 5 [aW] .live],.pure,.pure,.pure],ac:=[ii,ii],r:= .bm 1 0 bL.1 bL.2,dT:=[[ab.mk 5 [aW] .live],(av 1 J aj),(av 1 J aQ),(av 1 J al)],ff:=ii,fR:=[.bt [ab.mk 5 [aW] .live],.pure,.pure,.pure],dA:=[0,1,2,3],dt:=false}) 2),.br [0,1,2,3,4,6,5,7,8] [.box [.id,.id,.id,.id,.id],.pure,.pure,.pure,.box [.id,.id,.id,.id,.id,.id],.bt (c6 2 aN (eo++[(List.replicate cd.toNat (⟨false,([]:List Int)⟩:bc):List bc)])),.bt (av 1 (bR 5 0 2) bs),.pure,.pure] (b2 [0,4,5,6,7,8,34,35,51,52,53]),(GW ba dp eo.length (cd.toNat) dW bL.1 bL.2 ((bL.2:Nat):Int) aI aj aQ al cJ cI bs dr cg bA).gr,.aH (an 7 (aq (b3 1 (.agg (aN eU)) false) (aq (.hd (ab.mk 2 (nP.map aN) .live) []) (aq (.hd (ab.mk 2 (nP.map aN) .live) (aN kH)) [])))),.aH (an 9 (aq (.cK (J f6)) (an 1 (aq (b3 1 (.agg (aN dU)) false) (aq (.hd (ab.mk 2 (o5.map aN) .live) []) (aq (.hd (ab.mk 2 (o5.map aN) .live) (aN vJ)) [])))))),.aH (an 6 (aq (.fX 93 (mZ 5 0 2 (some (eo.length,cd.toNat))) .none) (aq (.bb (gR.length)) (an 3 [])))),.aH (bU 12 (.bb (fD.length)) 3),(ag 2),.br [0,1,2,3,4,40,5,56,8] [.box [.id,.id,.id,.id,.id],.pure,.pure,.pure,.box [.id,.id,.id,.id,.id,.id],.bt (av 1 (bR 6 0 2) gR),.bt (c6 2 aN ((bA.set eo.length (nP.set (0+dX.toNat) eU)).set eo.length (o5.set (0+ba.toNat) dU))),.da (av 1 J fD),.pure] (b2 [0,4,5,34,35])]) (bg.bb (.bh bF (i1 (o9 [0,1,2,3]) 5 [aW] [aW] rfl) (jt 5 [aW]) (fs 1 aE aj) (fs 1 aE aQ) (fs 1 aE al) (i1 (f8 [0,1,2,3]) 5 [aW] [aW] rfl) (jt 5 [aW]) (.bh (fs 1 aE aj) (fs 1 aE aQ) (fs 1 aE al) (LF bL bx) (aA 1 .live aE aj) (aA 1 .live aE aQ) (aA 1 .live aE al) (qy (bQ:=e2) (Pr (iN .live 2 aN eo) (P0 so 14 6 (eo.length+0) (lE aN cd.toNat (⟨false,([]:List Int)⟩:bc)) (P1 14 6 (eo.length+0)))) (n5 eb)) (.bh (eP e2 5 6 0 2 rfl bs) (aA 1 .live aE dr) (aA 1 .live d5 cg) (TN dQ) (rO eU fr) hy gk.1 gk.2 (.bh hy (cP aN fS) ah.1 ah.2 (cP J aK) (rO dU kf) (lI bi lg nO) jc.1 (.bh jc.2 (lI bi lg nO) (cP aN qV) (.s2 5 0 2 eo.length (cd.toNat):kC (.bm 5 (eo.length+0) 0 (cd.toNat)) (mZ 5 0 2 (some (eo.length,cd.toNat)))) (m1 (bR 5 0 2) (some (eo.length,cd.toNat))) (se (bR 5 0 2) bs) (ou (bR 5 0 2) bs (some (eo.length,cd.toNat))) nh (.bh (m1 J dX) (se J dr) (ou J dr dX) vH (aA 1 .live aE aj) (aA 1 .live aE aQ) (aA 1 .live aE al) (c4 (tk (bQ:=cV) 1 .live (bR 6 0 2) (sf (bR 5 0 2) bs (some (eo.length,cd.toNat))) (Ao (rfl:cV 5=some 6))) (ib (bQ:=cV))) (.du (qy (bQ:=cV) (rW bi eo.length (lD (cW aN o5) (0+ba.toNat) dU (rfl:(setCells (aN vJ) 0 (aN dU))=aN dU))) (n5 eb)) (dF 1 .live (sf J dr dX)) (aA 1 .live aE fD) (aA 1 .live d5 cg)))))))))))
  (fun bF =>
  .aC fun bL bx =>
  .aC fun bA dQ =>
  .aC fun eU fr =>
  .aC fun nP eQ =>
  .bn fun gk =>
  .aC fun kH fS =>
  .aC fun dU kf =>
  .aC fun o5 nO =>
  .bn fun jc =>
  .aC fun vJ qV =>
  .bn fun nh =>
  .bn fun vH =>
  .ret (let hT:=fE dW aI 1 0 0 aj.length 2 0 0 aQ.length 3 0 0 al.length;let jA:=(U (ba+(1:Int)));let mc:=cX [0,1,2,3,4,40,5,56,8];let pz:=U (aI+dp);let jz:=(rW (iN .live 2 aN bA) eo.length (lD (cW aN nP) (0+pz.toNat) eU (rfl:(setCells (aN kH) 0 (aN eU))=aN eU)));let nQ:=(dr++([pz]:List Int));let r9:=(bs++([(some (eo.length,jA.toNat))]:List bX));let s9:=cX [0,1,2,3,4,6,5,7,8];let qe:=lI (iN .live 2 aN bA) lg eQ;b5 (t1.append [.ao false,.aH (bU 2 (.call {aM:=(o1 [0,1,2,3]),cM:=[.bt [ab.mk 5 [hT] .live],.pure,.pure,.pure],ac:=[ii,ii],r:= .bm 1 0 bL.1 bL.2,dT:=[[ab.mk 5 [hT] .live],(av 1 J aj),(av 1 J aQ),(av 1 J al)],ff:=ii,fR:=[.bt [ab.mk 5 [hT] .live],.pure,.pure,.pure],dA:=[0,1,2,3],dt:=false}) 2),.br [0,1,2,3,4,6,5,7,8] [.box [.id,.id,.id,.id,.id],.pure,.pure,.pure,.box [.id,.id,.id,.id,.id,.id],.bt (c6 2 aN (eo++[(List.replicate jA.toNat (⟨false,([]:List Int)⟩:bc):List bc)])),.bt (av 1 (bR 5 0 2) bs),.pure,.pure] (b2 [0,4,5,6,7,8,34,35,51,52,53]),(GX ba dp eo.length (jA.toNat) dW bL.1 bL.2 ((bL.2:Nat):Int) aI aj aQ al cJ cI bs dr cg bA).gr,.aH (an 7 (aq (b3 1 (.agg (aN eU)) false) (aq (.hd (ab.mk 2 (nP.map aN) .live) []) (aq (.hd (ab.mk 2 (nP.map aN) .live) (aN kH)) [])))),.aH (an 9 (aq (.cK (J f6)) (an 1 (aq (b3 1 (.agg (aN dU)) false) (aq (.hd (ab.mk 2 (o5.map aN) .live) []) (aq (.hd (ab.mk 2 (o5.map aN) .live) (aN vJ)) [])))))),.aH (an 6 (aq (.fX 93 (mZ 5 0 2 (some (eo.length,jA.toNat))) .none) (aq (.bb (r9.length)) (an 3 [])))),.aH (bU 12 (.bb (nQ.length)) 3),(ag 2),.br [0,1,2,3,4,40,5,56,8] [.box [.id,.id,.id,.id,.id],.pure,.pure,.pure,.box [.id,.id,.id,.id,.id,.id],.bt (av 1 (bR 6 0 2) r9),.bt (c6 2 aN ((bA.set eo.length (nP.set (0+pz.toNat) eU)).set eo.length (o5.set (0+ba.toNat) dU))),.da (av 1 J nQ),.pure] (b2 [0,4,5,34,35])]) (bg.bb (.bh bF (i1 (o9 [0,1,2,3]) 5 [hT] [hT] rfl) (jt 5 [hT]) (fs 1 aE aj) (fs 1 aE aQ) (fs 1 aE al) (i1 (f8 [0,1,2,3]) 5 [hT] [hT] rfl) (jt 5 [hT]) (.bh (fs 1 aE aj) (fs 1 aE aQ) (fs 1 aE al) (LF bL bx) (aA 1 .live aE aj) (aA 1 .live aE aQ) (aA 1 .live aE al) (qy (bQ:=s9) (Pr (iN .live 2 aN eo) (P0 so 14 6 (eo.length+0) (lE aN jA.toNat (⟨false,([]:List Int)⟩:bc)) (P1 14 6 (eo.length+0)))) (n5 eb)) (.bh (eP s9 5 6 0 2 rfl bs) (aA 1 .live aE dr) (aA 1 .live d5 cg) (TO dQ) (rO eU fr) qe gk.1 gk.2 (.bh qe (cP aN fS) ah.1 ah.2 (cP J aK) (rO dU kf) (lI jz lg nO) jc.1 (.bh jc.2 (lI jz lg nO) (cP aN qV) (.s2 5 0 2 eo.length (jA.toNat):kC (.bm 5 (eo.length+0) 0 (jA.toNat)) (mZ 5 0 2 (some (eo.length,jA.toNat)))) (m1 (bR 5 0 2) (some (eo.length,jA.toNat))) (se (bR 5 0 2) bs) (ou (bR 5 0 2) bs (some (eo.length,jA.toNat))) nh (.bh (m1 J pz) (se J dr) (ou J dr pz) vH (aA 1 .live aE aj) (aA 1 .live aE aQ) (aA 1 .live aE al) (c4 (tk (bQ:=mc) 1 .live (bR 6 0 2) (sf (bR 5 0 2) bs (some (eo.length,jA.toNat))) (Ao (rfl:mc 5=some 6))) (ib (bQ:=mc))) (.du (qy (bQ:=mc) (rW jz eo.length (lD (cW aN o5) (0+ba.toNat) dU (rfl:(setCells (aN vJ) 0 (aN dU))=aN dU))) (n5 eb)) (dF 1 .live (sf J dr pz)) (aA 1 .live aE nQ) (aA 1 .live d5 cg)))))))))))))
  (fun o =>
  .ret (let kv:=cX [0,1,2,3,4,5,6,7,8];b5 [(ag 1),.ao false,.br [0,1,2,3,4,5,6,7,8] [.box [.id,.id,.id,.id,.id],.pure,.pure,.pure,.box [.id,.id,.id,.id,.id,.id],.bt (av 1 (bR 6 0 2) bs),.bt (c6 2 aN eo),.pure,.pure] (b2 [0,4,5])] (.hq o (aA 1 .live aE aj) (aA 1 .live aE aQ) (aA 1 .live aE al) (eP kv 6 6 0 2 rfl bs) (eW kv 2 eb eo) (aA 1 .live aE dr) (aA 1 .live d5 cg))))
theorem TP {ba dW aI:Int}{aj aQ al:List Int}{cJ:Bool}{cI:List Int}{cg:List Bool}{dp:Int}{bs:List bX}{eo:List (List bc)}{dr:List Int}{r} (h:CA ba dW aI aj aQ al cJ cI cg dp bs eo dr=some r):fH bC 205 4 60 [1,1,1,0,1,0,0] (GF ba dW aI aj aQ al cJ cI cg) (GY ba dW aI aj aQ al cJ cI cg) (dp,bs,eo,dr) r:=fI (fun _=>Td) h
def GG (ba oG bd aI:Int)(aj aQ al:List Int)(cJ:Bool)(cI:List Int)(cf:List bX)(eF:List (List bc))(cg:List Int):(Int×(List Int)×(List Bool))→S:=fun (gz,bs,eH)=>e1 [(0,.ref 0 0 0 0),(4,.n .i64 ba),(5,.ref 4 0 0 0),(11,.bm 5 0 0 bs.length),(117,.n .i64 oG),(118,.n .i64 gz)] [[ab.mk 5 [(fE bd aI 1 0 0 aj.length 2 0 0 aQ.length 3 0 0 al.length)] .live],(av 1 J aj),(av 1 J aQ),(av 1 J al),[ab.mk 6 [(eL 6 0 0 cf.length cJ cI 8 0 0 cg.length ba 9 0 0 eH.length)] .live],(av 1 J bs),(av 1 (bR 7 0 2) cf),(c6 2 aN eF),(av 1 J cg),(av 1 dM eH)]
def GZ (ba oG bd aI:Int)(aj aQ al:List Int)(cJ:Bool)(cI:List Int)(cf:List bX)(eF:List (List bc))(cg:List Int):((List Int)×(List Bool))→e5
 | a=>⟨some 4,[(0,.ref 0 0 0 0),(4,.n .i64 ba),(5,.ref 4 0 0 0),(11,.bm 5 0 0 a.1.length)],[[ab.mk 5 [(fE bd aI 1 0 0 aj.length 2 0 0 aQ.length 3 0 0 al.length)] .live],(av 1 J aj),(av 1 J aQ),(av 1 J al),[ab.mk 6 [(eL 6 0 0 cf.length cJ cI 8 0 0 cg.length ba 9 0 0 a.2.length)] .live],(av 1 J a.1),(av 1 (bR 7 0 2) cf),(c6 2 aN eF),(av 1 J cg),(av 1 dM a.2)]⟩
def wY (ba oG bd aI:Int)(aj aQ al:List Int)(cJ:Bool)(cI:List Int)(cf:List bX)(eF:List (List bc))(cg:List Int)(gz:Int)(bs:List Int)(eH:List Bool):Option ((Int×(List Int)×(List Bool))⊕((List Int)×(List Bool))) :=
 if (decide (gz<oG))=true then
  if 0≤gz∧gz<(eH.length:Nat) then
  if (0+gz.toNat)<eH.length then
  if (decide (aI≤gz))=true then
   if 0≤gz∧gz<(bs.length:Nat) then
   if (0+gz.toNat)<bs.length then
   some (.inl (U (gz+(1:Int)),bs.set (0+gz.toNat) (-1),eH.set (0+gz.toNat) (decide (gz<aI))))
   else none
   else none
  else
   some (.inl (U (gz+(1:Int)),bs,eH.set (0+gz.toNat) (decide (gz<aI))))
  else none
  else none
 else
  some (.inr (bs,eH))
def CB (ba oG bd aI:Int)(aj aQ al:List Int)(cJ:Bool)(cI:List Int)(cf:List bX)(eF:List (List bc))(cg:List Int)(gz:Int)(bs:List Int)(eH:List Bool):Option ((List Int)×(List Bool)):=iter (fun w:Int×(List Int)×(List Bool)=>wY ba oG bd aI aj aQ al cJ cI cf eF cg w.1 w.2.1 w.2.2) (gz,bs,eH)
theorem Te {ba oG bd aI:Int}{aj aQ al:List Int}{cJ:Bool}{cI:List Int}{cf:List bX}{eF:List (List bc)}{cg:List Int}{gz:Int}{bs:List Int}{eH:List Bool}:b6 (wY ba oG bd aI aj aQ al cJ cI cf eF cg gz bs eH) (fG bC 205 4 60 [1,1,1,1,1,0,1,0,0] (GG ba oG bd aI aj aQ al cJ cI cf eF cg (gz,bs,eH)) (GG ba oG bd aI aj aQ al cJ cI cf eF cg) (GZ ba oG bd aI aj aQ al cJ cI cf eF cg)):=by
 unfold wY
 exact .ite (fun o =>
  .bn fun R =>
  .bn fun ah =>
  (let t1:List c5:=[(ag 1),.ao true,(ag 2),.aH (an 12 (aq .dO [])),(ag 6)];
  have bg:=((.dV o R.1 R.2 (hM dM ah) (hr 1)):c9 _);
  .ite (fun aB =>
  .bn fun aK =>
  .bn fun bF =>
  .ret (let aW:=cX [0,1,2,3,4,5,6,7,8,9];b5 (t1.append [.ao true,.aH (an 3 (aq .dO [])),(ag 2),.br [0,1,2,3,4,5,6,7,8,9] [.box [.id,.id,.id,.id,.id],.pure,.pure,.pure,.box [.id,.id,.id,.id,.id,.len ((eH.set (0+gz.toNat) (decide (gz<aI))).length)],.da (av 1 J (bs.set (0+gz.toNat) (-1))),.bt (av 1 (bR 7 0 2) cf),.bt (c6 2 aN eF),.pure,.da (av 1 dM (eH.set (0+gz.toNat) (decide (gz<aI))))] [(0,ii),(4,ii),(5,ii),(11,gX ((bs.set (0+gz.toNat) (-1)).length)),(117,ii),(118,ii)]]) (bg.bb (.bh aB aK.1 aK.2 (hM J bF) (hr 1) (aA 1 .live aE aj) (aA 1 .live aE aQ) (aA 1 .live aE al) (.bh (hQ (fO eH) (0+gz.toNat) (decide (gz<aI))) (dF 1 .live (gy (cW J bs) (0+gz.toNat) (-1))) (aA 1 .live aE (bs.set (0+gz.toNat) (-1))) (eP aW 7 7 0 2 rfl cf) (eW aW 2 eb eF) (aA 1 .live aE cg) (dF 1 .live (gy (cW dM eH) (0+gz.toNat) (decide (gz<aI)))) (aA 1 .live d5 (eH.set (0+gz.toNat) (decide (gz<aI)))) (.ay (hQ (fO bs) (0+gz.toNat) (-1))))))))
  (fun aB =>
  .ret (let bi:=cX [0,1,2,3,4,5,6,7,8,9];b5 (t1.append [.ao false,(ag 2),.br [0,1,2,3,4,5,6,7,8,9] [.box [.id,.id,.id,.id,.id],.pure,.pure,.pure,.box [.id,.id,.id,.id,.id,.len ((eH.set (0+gz.toNat) (decide (gz<aI))).length)],.pure,.bt (av 1 (bR 7 0 2) cf),.bt (c6 2 aN eF),.pure,.da (av 1 dM (eH.set (0+gz.toNat) (decide (gz<aI))))] (b2 [0,4,5,11,117,118])]) (bg.bb (.bh aB (aA 1 .live aE aj) (aA 1 .live aE aQ) (aA 1 .live aE al) (hQ (fO eH) (0+gz.toNat) (decide (gz<aI))) (aA 1 .live aE bs) (eP bi 7 7 0 2 rfl cf) (eW bi 2 eb eF) (.bV (aA 1 .live aE cg) (dF 1 .live (gy (cW dM eH) (0+gz.toNat) (decide (gz<aI)))) (aA 1 .live d5 (eH.set (0+gz.toNat) (decide (gz<aI)))))))))))
  (fun o =>
  .ret (let cd:=cX [0,1,2,3,4,5,6,7,8,9];b5 [(ag 1),.ao false,.br [0,1,2,3,4,5,6,7,8,9] [.box [.id,.id,.id,.id,.id],.pure,.pure,.pure,.box [.id,.id,.id,.id,.id,.id],.pure,.bt (av 1 (bR 7 0 2) cf),.bt (c6 2 aN eF),.pure,.pure] (b2 [0,4,5,11])] (.bh o (aA 1 .live aE aj) (aA 1 .live aE aQ) (aA 1 .live aE al) (aA 1 .live aE bs) (eP cd 7 7 0 2 rfl cf) (eW cd 2 eb eF) (aA 1 .live aE cg) (.ay (aA 1 .live d5 eH)))))
theorem TQ {ba oG bd aI:Int}{aj aQ al:List Int}{cJ:Bool}{cI:List Int}{cf:List bX}{eF:List (List bc)}{cg:List Int}{gz:Int}{bs:List Int}{eH:List Bool}{r} (h:CB ba oG bd aI aj aQ al cJ cI cf eF cg gz bs eH=some r):fH bC 205 4 60 [1,1,1,1,1,0,1,0,0] (GG ba oG bd aI aj aQ al cJ cI cf eF cg) (GZ ba oG bd aI aj aQ al cJ cI cf eF cg) (gz,bs,eH) r:=fI (fun _=>Te) h
def GH (ba oH bd aI:Int)(aj aQ al:List Int)(cJ:Bool)(cI:List Int)(ew:Int)(bs:List Int)(cf:List bX)(eF:List (List bc))(cg:List Bool):Int→S:=fun mE=>e1 [(0,.ref 0 0 0 0),(4,.n .i64 ba),(5,.ref 4 0 0 0),(149,.bm 5 0 0 bs.length),(150,.n .i64 oH),(151,.n .i64 mE)] [[ab.mk 5 [(fE bd aI 1 0 0 aj.length 2 0 0 aQ.length 3 0 0 al.length)] .live],(av 1 J aj),(av 1 J aQ),(av 1 J al),[ab.mk 6 [(eL 6 0 0 cf.length cJ cI 5 0 0 bs.length ew 8 0 0 cg.length)] .live],(av 1 J bs),(av 1 (bR 7 0 2) cf),(c6 2 aN eF),(av 1 dM cg)]
def Ck (ba oH bd aI:Int)(aj aQ al:List Int)(cJ:Bool)(cI:List Int)(ew:Int)(bs:List Int)(cf:List bX)(eF:List (List bc))(cg:List Bool):((Unit)⊕(Unit))→e5
 | .inl a=>⟨some 6,[(0,.ref 0 0 0 0),(5,.ref 4 0 0 0)],[[ab.mk 5 [(fE bd aI 1 0 0 aj.length 2 0 0 aQ.length 3 0 0 al.length)] .live],(av 1 J aj),(av 1 J aQ),(av 1 J al),[ab.mk 6 [(eL 5 0 0 cf.length cJ cI 7 0 0 bs.length ew 8 0 0 cg.length)] .live],(av 1 (bR 6 0 2) cf),(c6 2 aN eF),(av 1 J bs),(av 1 dM cg)]⟩
 | .inr a=>⟨none,[(2,.ic),(3,.b false)],[[ab.mk 5 [(fE bd aI 1 0 0 aj.length 2 0 0 aQ.length 3 0 0 al.length)] .live],(av 1 J aj),(av 1 J aQ),(av 1 J al)]⟩
def wZ (ba oH bd aI:Int)(aj aQ al:List Int)(cJ:Bool)(cI:List Int)(ew:Int)(bs:List Int)(cf:List bX)(eF:List (List bc))(cg:List Bool)(mE:Int):Option ((Int)⊕((Unit)⊕(Unit))) :=
 if (decide (mE<oH))=true then
  if 0≤mE∧mE<(bs.length:Nat) then
  bs[(0+mE.toNat)]? >>= fun aV =>
  if (decide (aI≤aV))=true then
   if 0≤mE∧mE<(cf.length:Nat) then
   cf[(0+mE.toNat)]? >>= fun gx =>
   gx >>= fun BL =>
   eF[BL.1]? >>= fun EI =>
   if 0≤ba∧ba<(BL.2:Nat) then
   EI[(0+ba.toNat)]? >>= fun Kp =>
   pb Kp >>= fun cA =>
   if (decide ((0:Int)<cA))=true then
    some (.inr (.inr ()))
   else
    some (.inl (U (mE+(1:Int))))
   else none
   else none
  else
   some (.inl (U (mE+(1:Int))))
  else none
 else
  some (.inr (.inl ()))
def CC (ba oH bd aI:Int)(aj aQ al:List Int)(cJ:Bool)(cI:List Int)(ew:Int)(bs:List Int)(cf:List bX)(eF:List (List bc))(cg:List Bool)(mE:Int):Option ((Unit)⊕(Unit)):=iter (fun w:Int=>wZ ba oH bd aI aj aQ al cJ cI ew bs cf eF cg w) mE
theorem Tf {ba oH bd aI:Int}{aj aQ al:List Int}{cJ:Bool}{cI:List Int}{ew:Int}{bs:List Int}{cf:List bX}{eF:List (List bc)}{cg:List Bool}{mE:Int}:b6 (wZ ba oH bd aI aj aQ al cJ cI ew bs cf eF cg mE) (fG bC 205 4 60 [1,1,1,1,1,1,1,0,1,0,0] (GH ba oH bd aI aj aQ al cJ cI ew bs cf eF cg mE) (GH ba oH bd aI aj aQ al cJ cI ew bs cf eF cg) (Ck ba oH bd aI aj aQ al cJ cI ew bs cf eF cg)):=by
 unfold wZ
 exact .ite (fun o =>
  .bn fun R =>
  .aC fun aV aB =>
  (let t1:List c5:=[(ag 1),.ao true,.aH (bU 2 (.cK (J aV)) 2)];
  .ite (fun aK =>
  .bn fun bF =>
  .aC fun gx bx =>
  .aC fun BL dQ =>
  .aC fun EI fr =>
  .bn fun eC =>
  .aC fun Kp gk =>
  .aC fun cA fS =>
  (let cV:=lI (iN .live 2 aN eF) lg fr;let t2:List c5:=t1.append [.aH (an 13 (aq (.cK ((bR 7 0 2) gx)) (an 1 (aq (.fX 169 (.bm 7 (BL.1+0) 0 BL.2) (.hd (ab.mk 2 (EI.map aN) .live) [])) (aq (.hd (ab.mk 2 (EI.map aN) .live) (aN Kp)) (aq (b3 1 (.n .i64 cA) true) (an 1 (aq (.ao true) []))))))))];
  have fK:=((.bh o R.1 R.2 (cP J aB) aK aK aK aK (.bh aK aK bF.1 bF.2 aK (cP (bR 7 0 2) bx) aK aK (.bh (oB (ed:=7) (c:=0) (sz:=2) dQ) cV eC.1 eC.2 aK cV (cP aN gk) aK (.du (tq cA fS) (cn.n .i64 cA) aK aK)))):c9 _);
  .ite (fun ku =>
  .ret (b5 (t2.append [.ao true,(ag 2),.br [0,1,2,3] [.box [.id,.id,.id,.id,.id],.pure,.pure,.pure] (b2 [2,3])]) (fK.bb (.du ku (aA 1 .live aE aj) (aA 1 .live aE aQ) (aA 1 .live aE al)))))
  (fun ku =>
  .ret (let aW:=cX [0,1,2,3,4,5,6,7,8];b5 (t2.append [.ao false,(ag 2),.br [0,1,2,3,4,5,6,7,8] [.box [.id,.id,.id,.id,.id],.pure,.pure,.pure,.box [.id,.id,.id,.id,.id,.id],.pure,.bt (av 1 (bR 7 0 2) cf),.bt (c6 2 aN eF),.pure] (b2 [0,4,5,149,150,151])]) (fK.bb (.hq ku (aA 1 .live aE aj) (aA 1 .live aE aQ) (aA 1 .live aE al) (aA 1 .live aE bs) (eP aW 7 7 0 2 rfl cf) (eW aW 2 eb eF) (aA 1 .live d5 cg)))))))
  (fun aK =>
  .ret (let bi:=cX [0,1,2,3,4,5,6,7,8];b5 (t1.append [.aH (an 7 (c3 12 (aq (.ao false) []))),.ao false,(ag 2),.br [0,1,2,3,4,5,6,7,8] [.box [.id,.id,.id,.id,.id],.pure,.pure,.pure,.box [.id,.id,.id,.id,.id,.id],.pure,.bt (av 1 (bR 7 0 2) cf),.bt (c6 2 aN eF),.pure] (b2 [0,4,5,149,150,151])]) (.bh o R.1 R.2 (cP J aB) aK aK aK aK (.bh aK aK aK aK aK aK aK aK (.bh aK d3 (aA 1 .live aE aj) (aA 1 .live aE aQ) (aA 1 .live aE al) (aA 1 .live aE bs) (eP bi 7 7 0 2 rfl cf) (eW bi 2 eb eF) (.ay (aA 1 .live d5 cg)))))))))
  (fun o =>
  .ret (let cd:=cX [0,1,2,3,4,6,7,5,8];b5 [(ag 1),.ao false,.br [0,1,2,3,4,6,7,5,8] [.box [.id,.id,.id,.id,.id],.pure,.pure,.pure,.box [.id,.id,.id,.id,.id,.id],.bt (av 1 (bR 6 0 2) cf),.bt (c6 2 aN eF),.pure,.pure] (b2 [0,5])] (.hq o (aA 1 .live aE aj) (aA 1 .live aE aQ) (aA 1 .live aE al) (eP cd 6 7 0 2 rfl cf) (eW cd 2 eb eF) (aA 1 .live aE bs) (aA 1 .live d5 cg))))
theorem LS {ba oH bd aI:Int}{aj aQ al:List Int}{cJ:Bool}{cI:List Int}{ew:Int}{bs:List Int}{cf:List bX}{eF:List (List bc)}{cg:List Bool}{mE:Int}{r} (h:CC ba oH bd aI aj aQ al cJ cI ew bs cf eF cg mE=some r):fH bC 205 4 60 [1,1,1,1,1,1,1,0,1,0,0] (GH ba oH bd aI aj aQ al cJ cI ew bs cf eF cg) (Ck ba oH bd aI aj aQ al cJ cI ew bs cf eF cg) mE r:=fI (fun _=>Tf) h
def GI (oI bd aI:Int)(aj aQ al:List Int)(cJ:Bool)(cI:List Int)(ew:Int)(bs:List bX)(eo:List (List bc))(dr:List Int):(Int×(List Bool))→S:=fun (ko,cg)=>e1 [(0,.ref 0 0 0 0),(5,.ref 4 0 0 0),(181,.n .i64 oI),(182,.n .i64 ko)] [[ab.mk 5 [(fE bd aI 1 0 0 aj.length 2 0 0 aQ.length 3 0 0 al.length)] .live],(av 1 J aj),(av 1 J aQ),(av 1 J al),[ab.mk 6 [(eL 5 0 0 bs.length cJ cI 7 0 0 dr.length ew 8 0 0 cg.length)] .live],(av 1 (bR 6 0 2) bs),(c6 2 aN eo),(av 1 J dr),(av 1 dM cg)]
def G0 (oI bd aI:Int)(aj aQ al:List Int)(cJ:Bool)(cI:List Int)(ew:Int)(bs:List bX)(eo:List (List bc))(dr:List Int):(List Bool)→e5
 | a=>⟨some 8,[(0,.ref 0 0 0 0),(5,.ref 4 0 0 0)],[[ab.mk 5 [(fE bd aI 1 0 0 aj.length 2 0 0 aQ.length 3 0 0 al.length)] .live],(av 1 J aj),(av 1 J aQ),(av 1 J al),[ab.mk 6 [(eL 5 0 0 bs.length cJ cI 7 0 0 dr.length ew 8 0 0 a.length)] .live],(av 1 (bR 6 0 2) bs),(c6 2 aN eo),(av 1 J dr),(av 1 dM a)]⟩
def w0 (oI bd aI:Int)(aj aQ al:List Int)(cJ:Bool)(cI:List Int)(ew:Int)(bs:List bX)(eo:List (List bc))(dr:List Int)(ko:Int)(cg:List Bool):Option ((Int×(List Bool))⊕((List Bool))) :=
 if (decide (ko<oI))=true then
  if 0≤ko∧ko<(cg.length:Nat) then
  if (0+ko.toNat)<cg.length then
  some (.inl (U (ko+(1:Int)),cg.set (0+ko.toNat) (decide (ko<aI))))
  else none
  else none
 else
  some (.inr cg)
def CD (oI bd aI:Int)(aj aQ al:List Int)(cJ:Bool)(cI:List Int)(ew:Int)(bs:List bX)(eo:List (List bc))(dr:List Int)(ko:Int)(cg:List Bool):Option ((List Bool)):=iter (fun w:Int×(List Bool)=>w0 oI bd aI aj aQ al cJ cI ew bs eo dr w.1 w.2) (ko,cg)
theorem Tg {oI bd aI:Int}{aj aQ al:List Int}{cJ:Bool}{cI:List Int}{ew:Int}{bs:List bX}{eo:List (List bc)}{dr:List Int}{ko:Int}{cg:List Bool}:b6 (w0 oI bd aI aj aQ al cJ cI ew bs eo dr ko cg) (fG bC 205 4 60 [1,1,1,1,1,1,1,1,0,1,0,0] (GI oI bd aI aj aQ al cJ cI ew bs eo dr (ko,cg)) (GI oI bd aI aj aQ al cJ cI ew bs eo dr) (G0 oI bd aI aj aQ al cJ cI ew bs eo dr)):=by
 unfold w0
 exact .ite (fun o =>
  .bn fun R =>
  .bn fun ah =>
  .ret (let aW:=cX [0,1,2,3,4,5,6,7,8];b5 [(ag 1),.ao true,(ag 2),.aH (an 12 (aq .dO [])),(ag 2),.br [0,1,2,3,4,5,6,7,8] [.box [.id,.id,.id,.id,.id],.pure,.pure,.pure,.box [.id,.id,.id,.id,.id,.len ((cg.set (0+ko.toNat) (decide (ko<aI))).length)],.bt (av 1 (bR 6 0 2) bs),.bt (c6 2 aN eo),.pure,.da (av 1 dM (cg.set (0+ko.toNat) (decide (ko<aI))))] (b2 [0,5,181,182])] (.bh o R.1 R.2 (hM dM ah) (hr 1) (aA 1 .live aE aj) (aA 1 .live aE aQ) (aA 1 .live aE al) (.eK (hQ (fO cg) (0+ko.toNat) (decide (ko<aI))) (eP aW 6 6 0 2 rfl bs) (eW aW 2 eb eo) (aA 1 .live aE dr) (dF 1 .live (gy (cW dM cg) (0+ko.toNat) (decide (ko<aI)))) (aA 1 .live d5 (cg.set (0+ko.toNat) (decide (ko<aI))))))))
  (fun o =>
  .ret (let bi:=cX [0,1,2,3,4,5,6,7,8];b5 [(ag 1),.ao false,.br [0,1,2,3,4,5,6,7,8] [.box [.id,.id,.id,.id,.id],.pure,.pure,.pure,.box [.id,.id,.id,.id,.id,.id],.bt (av 1 (bR 6 0 2) bs),.bt (c6 2 aN eo),.pure,.pure] (b2 [0,5])] (.hq o (aA 1 .live aE aj) (aA 1 .live aE aQ) (aA 1 .live aE al) (eP bi 6 6 0 2 rfl bs) (eW bi 2 eb eo) (aA 1 .live aE dr) (aA 1 .live d5 cg))))
theorem TR {oI bd aI:Int}{aj aQ al:List Int}{cJ:Bool}{cI:List Int}{ew:Int}{bs:List bX}{eo:List (List bc)}{dr:List Int}{ko:Int}{cg:List Bool}{r} (h:CD oI bd aI aj aQ al cJ cI ew bs eo dr ko cg=some r):fH bC 205 4 60 [1,1,1,1,1,1,1,1,0,1,0,0] (GI oI bd aI aj aQ al cJ cI ew bs eo dr) (G0 oI bd aI aj aQ al cJ cI ew bs eo dr) (ko,cg) r:=fI (fun _=>Tg) h
def zy (cb cB:Int)(cT eT dc:List Int):Option ((Bool×(List Int)×Int×(List bX)×(List Int)×(List Bool)×(List (List bc)))⊕(Unit)) :=
 nW 1 >>= fun ax =>
 if 0≤(U (cB+cb))∧(1:Int)*(U (cB+cb))≤281474976710656∧(U (cB+cb))<9223372036854775808 then
 CA (U (cB+cb)) cb cB cT eT dc ax.dg ax.cS (List.replicate (U (cB+cb)).toNat false:List Bool) 0 ([]:List bX) ([]:List (List bc)) ([]:List Int) >>= fun bP =>
 if 0≤(U (cB+cb))∧(8:Int)*(U (cB+cb))≤281474976710656∧(U (cB+cb))<9223372036854775808 then
 CB (U (cB+cb)) (((U (cB+cb)).toNat:Nat):Int) cb cB cT eT dc ax.dg ax.cS bP.1 bP.2.1 bP.2.2 0 (List.replicate (U (cB+cb)).toNat 0:List Int) (List.replicate (U (cB+cb)).toNat false:List Bool) >>= fun bL =>
 si ax.dg ax.cS (U (cB+cb)) bP.1 bP.2.1 bP.2.2 bL.2 bL.1 >>= fun bA =>
 CC (U (cB+cb)) ((bA.2.2.2.2.1.length:Nat):Int) cb cB cT eT dc bA.2.1 bA.2.2.1 (U (cB+cb)) bA.2.2.2.2.1 bP.1 bA.2.2.2.1 bA.2.2.2.2.2 0 >>= fun eU =>
 match eU with
 | .inl s7=>(CD ((bA.2.2.2.2.2.length:Nat):Int) cb cB cT eT dc bA.2.1 bA.2.2.1 (U (cB+cb)) bP.1 bA.2.2.2.1 bA.2.2.2.2.1 0 bA.2.2.2.2.2 >>= fun dG =>
  zk cB bA.2.1 bA.2.2.1 (U (cB+cb)) bP.1 bA.2.2.2.1 bA.2.2.2.2.1 dG >>= fun cA =>
  some (.inl (cA.1,cA.2.1,(U (cB+cb)),cA.2.2.1,cA.2.2.2.2,dG,cA.2.2.2.1)))
 | .inr s7=>(some (.inr ()))
 else none
 else none
set_option maxHeartbeats 4000000 in
theorem Ma {cb cB:Int}{cT eT dc:List Int}:b6 (zy cb cB cT eT dc) (Sum.elim (fun a=>Con bC 60 [.ref 0 0 0 0] [[ab.mk 5 [(fE cb cB 1 0 0 cT.length 2 0 0 eT.length 3 0 0 dc.length)] .live],(av 1 J cT),(av 1 J eT),(av 1 J dc)] (.dK [.ref 4 0 0 0,.b true]) [[ab.mk 5 [(fE cb cB 1 0 0 cT.length 2 0 0 eT.length 3 0 0 dc.length)] .live],(av 1 J cT),(av 1 J eT),(av 1 J dc),(ab.mk 6 [(eL 4 1 0 a.2.2.2.1.length a.1 a.2.1 4 2 0 a.2.2.2.2.1.length a.2.2.1 4 3 0 a.2.2.2.2.2.1.length)] .live::ab.mk 1 (a.2.2.2.1.map (bR 4 4 2)) .live::ab.mk 1 (a.2.2.2.2.1.map J) .live::ab.mk 1 (a.2.2.2.2.2.1.map dM) .live::(c6 2 aN a.2.2.2.2.2.2))]) (fun a=>Con bC 60 [.ref 0 0 0 0] [[ab.mk 5 [(fE cb cB 1 0 0 cT.length 2 0 0 eT.length 3 0 0 dc.length)] .live],(av 1 J cT),(av 1 J eT),(av 1 J dc)] (.dK [.ic,.b false]) [[ab.mk 5 [(fE cb cB 1 0 0 cT.length 2 0 0 eT.length 3 0 0 dc.length)] .live],(av 1 J cT),(av 1 J eT),(av 1 J dc)])):=by
 unfold zy
 exact .aC fun ax R =>
  .bn fun ah =>
  .aC fun bP aK =>
  .bn fun bF =>
  .aC fun bL bx =>
  .aC fun bA dQ =>
  .aC fun eU fr =>
  (let kv:=U (cB+cb);let ta:=eL 1 0 0 bP.1.length bA.2.1 bA.2.2.1 3 0 0 bA.2.2.2.2.1.length kv 4 0 0 bA.2.2.2.2.2.length;let vK:=cX [0,1,2,3,21,28,29,30,19];let Bi:=eL 6 0 0 bP.1.length bA.2.1 bA.2.2.1 8 0 0 bA.2.2.2.2.1.length kv 9 0 0 bA.2.2.2.2.2.length;let t0:=(List.replicate kv.toNat false:List Bool);let t7:=eL 1 0 0 bP.1.length ax.dg ax.cS 3 0 0 bP.2.2.length kv 4 0 0 bL.2.length;let yQ:=eL 6 0 0 bP.1.length ax.dg ax.cS 8 0 0 bP.2.2.length kv 9 0 0 bL.2.length;let t9:=c6 2 aN bA.2.2.2.1;let vL:=(List.replicate kv.toNat 0:List Int);let vM:=av 1 (bR 7 0 2) bP.1;let yR:=o9 [4,6,7,8,9,5];let yS:=f8 [4,6,7,8,9,5];let Bj:=cX [0,1,2,3,4,10,5,6,7,8];let Bk:=cX [0,1,2,3,4,8,6,7,9];let vN:=aA 1 .live aE cT;let Kq:=aA 1 .live aE eT;let Kr:=aA 1 .live aE dc;let Q5:=av 1 (bR 2 0 2) bP.1;let t1:List c5:=[(ag 2),(ag 10),.aH (bU 1 (b3 1 (.agg (aN ax)) false) 5),(ag 5),.EB 21 0 1,.J9,.EB 21 3 1,.br [0,1,2,3,21,28,29,30,19] [.box [.id,.id,.id,.id,.id],.pure,.pure,.pure,.box [.len (([]:List bX).length),.id,.id,.len (([]:List Int).length),.id,.len (t0.length)],.bt (av 1 (bR 6 0 2) ([]:List bX)),.bt (c6 2 aN ([]:List (List bc))),.da (av 1 J ([]:List Int)),.da (av 1 dM t0)] (b2 [0,4,5,34,35]),(GY kv cb cB cT eT dc ax.dg ax.cS t0 bP).gr,(ag 3),(ag 3),.br [0,1,2,3,4,10,5,6,7,8] [.box [.id,.id,.id,.id,.id],.pure,.pure,.pure,.box [.id,.id,.id,.id,.id,.id],.da (av 1 J vL),.bt vM,.bt (c6 2 aN bP.2.1),.pure,.pure] [(0,ii),(4,ii),(5,ii),(11,gX (vL.length)),(117,ii),(118,ii)],(GZ kv ((kv.toNat:Nat):Int) cb cB cT eT dc ax.dg ax.cS bP.1 bP.2.1 bP.2.2 bL).gr,.aH (an 2 (aq (.call {aM:=(o1 [4,6,7,8,9,5]),cM:=[.bt [ab.mk 6 [t7] .live],.bt Q5,.bt (c6 2 aN bP.2.1),.pure,.pure,.pure],ac:=[ii,ii],r:= .b bA.1,dT:=[[ab.mk 6 [ta] .live],Q5,t9,(av 1 J bA.2.2.2.2.1),(av 1 dM bA.2.2.2.2.2),(av 1 J bL.1)],ff:=ii,fR:=[.bt [ab.mk 6 [Bi] .live],.bt vM,.bt t9,.pure,.pure,.pure],dA:=[4,5,6,7,8,9],dt:=false}) [])),(ag 6),.br [0,1,2,3,4,8,6,7,9] [.box [.id,.id,.id,.id,.id],.pure,.pure,.pure,.box [.id,.id,.id,.id,.id,.id],.pure,.bt vM,.bt t9,.pure] (b2 [0,4,5,149,150,151])];
  have bg:=((.bh (rO ax R) ah.1 (Int.le_refl kv) ah.2.1 ah.2.2 vN Kq Kr (.bh (ot bX) (ot Int) (l3 kv.toNat (false:Bool)) (c4 (tk (bQ:=vK) 1 .live (bR 6 0 2) (tl (bR 29 0 2)) (Ao (rfl:vK 29=some 6))) (ib (bQ:=vK))) (qy (bQ:=vK) (Yq .live 2 aN) (n5 eb)) (dF 1 .live (tl J)) (aA 1 .live aE ([]:List Int)) (dF 1 .live (lE dM kv.toNat false)) (.bh (aA 1 .live d5 t0) (TP aK) bF.1 (Int.le_refl kv) bF.2.1 bF.2.2 vN Kq (.bh Kr (dF 1 .live (lE J kv.toNat 0)) (aA 1 .live aE vL) (eP Bj 7 6 0 2 rfl bP.1) (eW Bj 2 eb bP.2.1) (aA 1 .live aE bP.2.2) (aA 1 .live d5 t0) (l3 kv.toNat (0:Int)) (.bh (TQ bx) (i1 yR 6 [t7] [yQ] rfl) (jt 6 [yQ]) (eP yR 2 7 0 2 rfl bP.1) (jt 1 (bP.1.map (bR 7 0 2))) (eW yR 2 eb bP.2.1) (q1 2 aN bP.2.1) (fs 1 aE bP.2.2) (.bh (fs 1 d5 bL.2) (fs 1 aE bL.1) (i1 yS 6 [Bi] [ta] rfl) (jt 6 [ta]) (eP yS 7 2 0 2 rfl bP.1) (jt 1 (bP.1.map (bR 2 0 2))) (eW yS 2 eb bA.2.2.2.1) (q1 2 aN bA.2.2.2.1) (.bh (fs 1 aE bA.2.2.2.2.1) (fs 1 d5 bA.2.2.2.2.2) (fs 1 aE bL.1) (Gb bA dQ) vN Kq Kr (aA 1 .live aE bA.2.2.2.2.1) (.bV (eP Bk 7 7 0 2 rfl bP.1) (eW Bk 2 eb bA.2.2.2.1) (aA 1 .live d5 bA.2.2.2.2.2))))))))):c9 _);
  (by
  rcases eU with s7|s7
  ·exact (.aC fun dG gk =>
  .aC fun cA fS =>
  .ret (let aW:=fE cb cB 1 0 0 cT.length 2 0 0 eT.length 3 0 0 dc.length;let cd:=c6 2 aN cA.2.2.2.1;let cV:=U (cB+cb);let bi:=eL 1 0 0 cA.2.2.1.length cA.1 cA.2.1 3 0 0 cA.2.2.2.2.length cV 4 0 0 dG.length;let dX:=eL 1 0 0 bP.1.length bA.2.1 bA.2.2.1 3 0 0 bA.2.2.2.2.1.length cV 4 0 0 dG.length;let fD:=eL 5 0 0 bP.1.length bA.2.1 bA.2.2.1 7 0 0 bA.2.2.2.2.1.length cV 8 0 0 dG.length;let gR:=eL 5 0 0 cA.2.2.1.length cA.1 cA.2.1 7 0 0 cA.2.2.2.2.length cV 8 0 0 dG.length;let e2:=cX [0,1,2,3,4];let hy:=o9 [4,5,6,7,8];let hT:=f8 [4,5,6,7,8];let jz:=cX [0,1,2,3,4,5,6,7,8];let jA:=av 1 (bR 6 0 2) cA.2.2.1;let mc:=av 1 (bR 4 4 2) cA.2.2.1;let pz:=aA 1 .live aE cT;let nQ:=aA 1 .live aE eT;let r9:=aA 1 .live aE dc;let s9:=c6 2 aN bA.2.2.2.1;iu (t1.append [(Ck cV ((bA.2.2.2.2.1.length:Nat):Int) cb cB cT eT dc bA.2.1 bA.2.2.1 cV bA.2.2.2.2.1 bP.1 bA.2.2.2.1 bA.2.2.2.2.2 (.inl s7)).gr,(ag 6),.br [0,1,2,3,4,5,6,7,8] [.box [.id,.id,.id,.id,.id],.pure,.pure,.pure,.box [.id,.id,.id,.id,.id,.id],.bt (av 1 (bR 6 0 2) bP.1),.bt s9,.pure,.pure] (b2 [0,5,181,182]),(G0 ((bA.2.2.2.2.2.length:Nat):Int) cb cB cT eT dc bA.2.1 bA.2.2.1 cV bP.1 bA.2.2.2.1 bA.2.2.2.2.1 dG).gr,.aH (an 5 (aq (.call {aM:=(o1 [4,5,6,7,8]),cM:=[.bt [ab.mk 6 [dX] .live],.bt (av 1 (bR 2 0 2) bP.1),.bt s9,.pure,.pure],ac:=[ii,ii],r:= .dK [],dT:=[[ab.mk 6 [bi] .live],(av 1 (bR 2 0 2) cA.2.2.1),cd,(av 1 J cA.2.2.2.2),(av 1 dM dG)],ff:=ii,fR:=[.bt [ab.mk 6 [gR] .live],.bt jA,.bt cd,.pure,.pure],dA:=[4,5,6,7,8],dt:=false}) [])),(ag 3),.qa [{bN:=some (0,0)},{bN:=some (1,0)},{bN:=some (2,0)},{bN:=some (3,0)},{aU:=[(4,0),(5,0),(7,0),(8,0)],bN:=some (6,0)}] [([],some (.bt [ab.mk 5 [aW] .live])),([],some (.pure)),([],some (.pure)),([],some (.pure)),([.box [.at_ 4 1 cA.2.2.1.length,.id,.id,.at_ 4 2 cA.2.2.2.2.length,.id,.at_ 4 3 dG.length],.rx mc,.pure,.pure],some (.rx cd))] [(2,.bp (.b4 (.at_ 4 0 0))),(3,ii)]]) [0,1,2,3,4] [.bt [ab.mk 5 [aW] .live],.pure,.pure,.pure,.bt (ab.mk 6 [(eL 4 1 0 cA.2.2.1.length cA.1 cA.2.1 4 2 0 cA.2.2.2.2.length cV 4 3 0 dG.length)] .live::ab.mk 1 (cA.2.2.1.map (bR 4 4 2)) .live::ab.mk 1 (cA.2.2.2.2.map J) .live::ab.mk 1 (dG.map dM) .live::cd)] (bg.bb (.bh (LS fr) pz nQ r9 (eP jz 6 6 0 2 rfl bP.1) (eW jz 2 eb bA.2.2.2.1) (aA 1 .live aE bA.2.2.2.2.1) (aA 1 .live d5 bA.2.2.2.2.2) (.bh (TR gk) (i1 hy 6 [dX] [fD] rfl) (jt 6 [fD]) (eP hy 2 6 0 2 rfl bP.1) (jt 1 (bP.1.map (bR 6 0 2))) (eW hy 2 eb bA.2.2.2.1) (q1 2 aN bA.2.2.2.1) (fs 1 aE bA.2.2.2.2.1) (.bh (fs 1 d5 dG) (i1 hT 6 [gR] [bi] rfl) (jt 6 [bi]) (eP hT 6 2 0 2 rfl cA.2.2.1) (jt 1 (cA.2.2.1.map (bR 2 0 2))) (eW hT 2 eb cA.2.2.2.1) (q1 2 aN cA.2.2.2.1) (fs 1 aE cA.2.2.2.2) (.bh (fs 1 d5 dG) (Ta cA fS) (i1 (tP 0 [{bN:=some (0,0)},{bN:=some (1,0)},{bN:=some (2,0)},{bN:=some (3,0)},{aU:=[(4,0),(5,0),(7,0),(8,0)],bN:=some (6,0)}]) 5 [aW] [aW] rfl) pz nQ r9 (rfl:(fb [{bN:=some (0,0)},{bN:=some (1,0)},{bN:=some (2,0)},{bN:=some (3,0)},{aU:=[(4,0),(5,0),(7,0),(8,0)],bN:=some (6,0)}]) 4 1=some (5,0)) (rfl:cA.2.2.1.length=cA.2.2.1.length) (.bh (rfl:(fb [{bN:=some (0,0)},{bN:=some (1,0)},{bN:=some (2,0)},{bN:=some (3,0)},{aU:=[(4,0),(5,0),(7,0),(8,0)],bN:=some (6,0)}]) 4 2=some (7,0)) (rfl:cA.2.2.2.2.length=cA.2.2.2.2.length) (rfl:(fb [{bN:=some (0,0)},{bN:=some (1,0)},{bN:=some (2,0)},{bN:=some (3,0)},{aU:=[(4,0),(5,0),(7,0),(8,0)],bN:=some (6,0)}]) 4 3=some (8,0)) (rfl:dG.length=dG.length) (OR (Jk (jS:=(bR 4 4 2)) (cW (bR 6 0 2) cA.2.2.1) (fun _=>rfl) (fun x=>(P3 (fun _=>rfl)) x)) Pt:r6 (fb [{bN:=some (0,0)},{bN:=some (1,0)},{bN:=some (2,0)},{bN:=some (3,0)},{aU:=[(4,0),(5,0),(7,0),(8,0)],bN:=some (6,0)}]) jA mc) (aA 1 .live aE cA.2.2.2.2) (aA 1 .live d5 dG) (OT (iN .live 2 aN cA.2.2.2.1) (fun _=>rfl) eb:r6 (fb [{bN:=some (0,0)},{bN:=some (1,0)},{bN:=some (2,0)},{bN:=some (3,0)},{aU:=[(4,0),(5,0),(7,0),(8,0)],bN:=some (6,0)}]) cd cd) (.eK (rfl:(fb [{bN:=some (0,0)},{bN:=some (1,0)},{bN:=some (2,0)},{bN:=some (3,0)},{aU:=[(4,0),(5,0),(7,0),(8,0)],bN:=some (6,0)}]) 4 0=some (4,0)) (i1 e2 5 [aW] [aW] rfl) pz nQ r9 (c4 (show ab.mk 6 [(eL 4 1 0 cA.2.2.1.length cA.1 cA.2.1 4 2 0 cA.2.2.2.2.length (U (cB+cb)) 4 3 0 dG.length)] .live=kt (cX [0,1,2,3,4]) (ab.mk 6 [(eL 4 1 0 cA.2.2.1.length cA.1 cA.2.1 4 2 0 cA.2.2.2.2.length (U (cB+cb)) 4 3 0 dG.length)] .live) from rfl) (c4 (E4 e2 4 4 4 2 rfl cA.2.2.1) (c4 (dm e2 1 fa cA.2.2.2.2) (c4 (dm e2 1 Jl dG) (eW e2 2 eb cA.2.2.2.1)))))))))))) (.comp [.b4 .id,.b4 .id])))
  ·exact (.ret (let qe:=fE cb cB 1 0 0 cT.length 2 0 0 eT.length 3 0 0 dc.length;iu (t1.append [(Ck (U (cB+cb)) ((bA.2.2.2.2.1.length:Nat):Int) cb cB cT eT dc bA.2.1 bA.2.2.1 (U (cB+cb)) bA.2.2.2.2.1 bP.1 bA.2.2.2.1 bA.2.2.2.2.2 (.inr s7)).gr]) [0,1,2,3] [.bt [ab.mk 5 [qe] .live],.pure,.pure,.pure] (bg.bb (.dV (LS fr) (i1 (cX [0,1,2,3]) 5 [qe] [qe] rfl) (aA 1 .live aE cT) (aA 1 .live aE eT) (aA 1 .live aE dc)))))))
def st (ba:Int):Option (Option cv) :=
 nW ba >>= fun ax =>
 some (some (⟨ax,([1]:List Int)⟩:cv))
theorem CP {ba:Int}:b6 (st ba) (fun r=>Con bC 24 [.n .i64 ba] [] (gh 3 bT r) []):=by
 unfold st
 exact .aC fun ax R =>
  .ret (bY [(ag 1),.aH (bU 1 (b3 1 (.agg (aN ax)) false) 4)] (.dV (rO ax R) (pg (show [[.n .i64 (1:Int)]]=(([1]:List Int)).map J from rfl) (show 1=([1]:List Int).length from rfl)) (m1 J 1) (dP aE ([1]:List Int)) (lC (li (⟨ax,([1]:List Int)⟩:cv)):hs [[.b ax.dg,.isl 1 (ax.cS.map J),.isl 1 (([1]:List Int).map J)]])) (.bp (.sS [.id,.id,.ej (([1]:List Int).map J)])))
def GJ:((List Int)×(List Int))→S:=fun (a9,a1)=>e1 [(0,.isl 1 (a9.map J)),(1,.isl 1 (a1.map J))] []
def G1:(List Int)→e5
 | a=>⟨some 0,[(0,.isl 1 (a.map J))],[]⟩
def w1 (a9 a1:List Int):Option (((List Int)×(List Int))⊕((List Int))) :=
 if (decide ((0:Int)<(len_ J a1)))=true then
  sw a9 a1 >>= fun cH =>
  some (.inl (a1,cH.2))
 else
  some (.inr a9)
def HE (a9 a1:List Int):Option ((List Int)):=iter (fun w:(List Int)×(List Int)=>w1 w.1 w.2) (a9,a1)
theorem Th {a9 a1:List Int}:b6 (w1 a9 a1) (fG bC 19 0 30 [1,0,0,0] (GJ (a9,a1)) (GJ) (G1)):=by
 unfold w1
 exact .ite (fun o =>
  .aC fun cH ah =>
  .ret (b5 [(ag 3),.ao true,.aH (bU 2 (b3 2 (.dK [.isl 1 (cH.1.map J),.isl 1 (cH.2.map J)]) false) 5),(ag 4),.br [] [] (b2 [0,1])] (.aD o (CV cH ah))))
  (fun o =>
  .ret (b5 [(ag 3),.ao false,.br [] [] (b2 [0])] (.ay o)))
theorem TS {a9 a1:List Int}{r} (h:HE a9 a1=some r):fH bC 19 0 30 [1,0,0,0] (GJ) (G1) (a9,a1) r:=fI (fun _=>Th) h
def xu (a9 a1:List Int):Option (List Int) :=
 HE a9 a1 >>= fun ax =>
 some ax
theorem Mb {a9 a1:List Int}:b6 (xu a9 a1) (fun r=>Con bC 30 [.isl 1 (a9.map J),.isl 1 (a1.map J)] [] (.isl 1 (r.map J)) []):=by
 unfold xu
 exact .aC fun ax R =>
  .ret (bY [(ag 1),.br [] [] (b2 [0,1]),(G1 ax).gr,(ag 2)] (.ay (TS R)))
def q6 (rj:bc)(tK:List Int):Option (Option cv) :=
 if ((len_ J rj.cS) == (0:Int))=true then
  some (some (⟨(⟨false,([]:List Int)⟩:bc),([1]:List Int)⟩:cv))
 else
  xu rj.cS tK >>= fun cH =>
  pN cH ([1]:List Int) >>= fun bP =>
  if (bP == (0:Int))=true then
   some (some (⟨rj,tK⟩:cv))
  else
   sw rj.cS cH >>= fun bL =>
   sw tK cH >>= fun bA =>
   lj rj.dg bL.1 >>= fun eU =>
   some (some (⟨eU,bA.1⟩:cv))
theorem HL {rj:bc}{tK:List Int}:b6 (q6 rj tK) (fun r=>Con bC 62 [.agg (aN rj),.isl 1 (tK.map J)] [] (gh 3 bT r) []):=by
 unfold q6
 exact .ite (fun o =>
  .ret (bY [(ag 2),(ag 4),.ao true,(ag 4)] (.dV o (pg (show [[.n .i64 (1:Int)]]=(([1]:List Int)).map J from rfl) (show 1=([1]:List Int).length from rfl)) (m1 J 1) (dP aE ([1]:List Int)) (lC (li (⟨(⟨false,([]:List Int)⟩:bc),([1]:List Int)⟩:cv)):hs [[.b false,.isl 1 (([]:List Int).map J),.isl 1 (([1]:List Int).map J)]])) (.bp (.sS [.id,.mv 1,.ej (([1]:List Int).map J)]))))
  (fun o =>
  .aC fun cH ah =>
  .aC fun bP aK =>
  (let t1:List c5:=[(ag 2),(ag 4),.ao false,.aH (bU 3 (b3 2 (.isl 1 (cH.map J)) false) 1),.aH (bU 2 (.call {ac:=[ii,.bp (.b4 (.ej (([1]:List Int).map J)))],r:= .n .i64 bP,dt:=true,dA:=[12]}) 1)];
  have bg:=((.fu o (Mb cH ah) (pg (show [[.n .i64 (1:Int)]]=(([1]:List Int)).map J from rfl) (show 1=([1]:List Int).length from rfl)) (m1 J 1) (dP aE ([1]:List Int)) (xg bP aK) (cn.n .i64 bP)):c9 _);
  .ite (fun bF =>
  .ret (bY (t1.append [.ao true,(ag 5)]) (bg.bb (.aD bF (lC (li (⟨rj,tK⟩:cv)):hs [[.b rj.dg,.isl 1 (rj.cS.map J),.isl 1 (tK.map J)]]))) (.bp (.sS [.id,.id,.id]))))
  (fun bF =>
  .aC fun bL bx =>
  .aC fun bA dQ =>
  .aC fun eU fr =>
  .ret (bY (t1.append [.ao false,.aH (bU 3 (b3 2 (.dK [.isl 1 (bL.1.map J),.isl 1 (bL.2.map J)]) false) 5),.aH (bU 2 (b3 2 (.dK [.isl 1 (bA.1.map J),.isl 1 (bA.2.map J)]) false) 5),.aH (bU 3 (b3 2 (.agg (aN eU)) false) 4)]) (bg.bb (.dV bF (CV bL bx) (CV bA dQ) (rR eU fr) (lC (li (⟨eU,bA.1⟩:cv)):hs [[.b eU.dg,.isl 1 (eU.cS.map J),.isl 1 (bA.1.map J)]]))) (.bp (.sS [.id,.id,.id]))))))
def xe (cy eM:Option cv):Option (Option cv) :=
 cy >>= fun fM =>
 eM >>= fun mA =>
 oy fM.qK mA.qK >>= fun bD =>
 qu fM.qL mA.qL >>= fun bL =>
 q6 bD bL >>= fun bA =>
 some bA
theorem LP {cy eM:Option cv}:b6 (xe cy eM) (fun r=>Con bC 51 [gh 3 bT cy,gh 3 bT eM] [] (gh 3 bT r) []):=by
 unfold xe
 exact .aC fun fM R =>
  .aC fun mA aB =>
  .aC fun bD bF =>
  .aC fun bL bx =>
  .aC fun bA dQ =>
  .ret (bY [(ag 1),.aH (an 1 (aq (.fX 5 (.fp 3 (some (bT fM))) .dO) (an 3 (aq (.fX 9 (.fp 3 (some (bT mA))) .dO) (an 2 (aq (b3 2 (.agg (aN bD)) false) (an 1 (aq (.fX 14 (.fp 3 (some (bT fM))) .dO) (an 3 (aq (.fX 18 (.fp 3 (some (bT mA))) .dO) (an 2 (aq (b3 2 (.isl 1 (bL.map J)) false) (aq (b3 2 (gh 3 bT bA) false) (an 1 []))))))))))))))] (.fu (kU (sz:=3) (f:=bT) R) (kU (sz:=3) (f:=bT) aB) (uy bD bF) (kU (sz:=3) (f:=bT) R) (kU (sz:=3) (f:=bT) aB) (CO bL bx) (HL bA dQ)))
def ts (cy:Option cv)(jq:List Int):Option bc :=
 cy >>= fun fM =>
 qu fM.qK.cS jq >>= fun a6 =>
 lj fM.qK.dg a6 >>= fun bD =>
 some bD
theorem LL {cy:Option cv}{jq:List Int}:b6 (ts cy jq) (fun r=>Con bC 88 [gh 3 bT cy,.isl 1 (jq.map J)] [] (.agg (aN r)) []):=by
 unfold ts
 exact .aC fun fM R =>
  .aC fun a6 aB =>
  .aC fun bD bF =>
  .ret (bY [(ag 1),.aH (an 1 (aq (.fX 5 (.fp 3 (some (bT fM))) .dO) (an 4 (aq (.fX 10 (.fp 3 (some (bT fM))) .dO) (an 4 (aq (b3 2 (.isl 1 (a6.map J)) false) (aq (b3 2 (.agg (aN bD)) false) (an 1 []))))))))] (.du (kU (sz:=3) (f:=bT) R) (kU (sz:=3) (f:=bT) R) (CO a6 aB) (rR bD bF)))
def xh (cy eM:Option cv):Option (Option cv) :=
 eM >>= fun fM =>
 ts cy fM.qL >>= fun a6 =>
 cy >>= fun nn =>
 ts eM nn.qL >>= fun bL =>
 tt a6 bL >>= fun bA =>
 qu nn.qL fM.qL >>= fun eU =>
 q6 bA eU >>= fun gQ =>
 some gQ
theorem LU {cy eM:Option cv}:b6 (xh cy eM) (fun r=>Con bC 63 [gh 3 bT cy,gh 3 bT eM] [] (gh 3 bT r) []):=by
 unfold xh
 exact .aC fun fM R =>
  .aC fun a6 aB =>
  .aC fun nn bF =>
  .aC fun bL bx =>
  .aC fun bA dQ =>
  .aC fun eU fr =>
  .aC fun gQ eQ =>
  .ret (bY [(ag 1),.aH (an 2 (aq (.fX 6 (.fp 3 (some (bT fM))) .dO) (an 2 (aq (b3 2 (.agg (aN a6)) false) (an 2 (aq (.fX 12 (.fp 3 (some (bT nn))) .dO) (an 2 (aq (b3 2 (.agg (aN bL)) false) (aq (b3 2 (.agg (aN bA)) false) (an 1 (aq (.fX 18 (.fp 3 (some (bT nn))) .dO) (an 3 (aq (.fX 22 (.fp 3 (some (bT fM))) .dO) (an 2 (aq (b3 2 (.isl 1 (eU.map J)) false) (aq (b3 2 (gh 3 bT gQ) false) (an 1 [])))))))))))))))))] (.bh (kU (sz:=3) (f:=bT) R) (LL a6 aB) (kU (sz:=3) (f:=bT) bF) (LL bL bx) (LO bA dQ) (kU (sz:=3) (f:=bT) bF) (kU (sz:=3) (f:=bT) R) (CO eU fr) (.ay (HL gQ eQ))))
def GK (nA bd:Int)(aj aQ al:List Int)(ew:Int)(cf:List bX):(Int×Bool×(List Int)×(List Int)×(List (List bc))×(List Int)×(List Bool))→S:=fun (k3,cJ,cI,bs,eF,cg,eH)=>e1 [(0,.ref 0 0 0 0),(5,.ref 4 0 0 0),(7,.bm 5 0 0 bs.length),(41,.n .i64 nA),(42,.n .i64 k3)] [[ab.mk 5 [(fE bd nA 1 0 0 aj.length 2 0 0 aQ.length 3 0 0 al.length)] .live],(av 1 J aj),(av 1 J aQ),(av 1 J al),[ab.mk 6 [(eL 6 0 0 cf.length cJ cI 8 0 0 cg.length ew 9 0 0 eH.length)] .live],(av 1 J bs),(av 1 (bR 7 0 2) cf),(c6 2 aN eF),(av 1 J cg),(av 1 dM eH)]
def G2 (nA bd:Int)(aj aQ al:List Int)(ew:Int)(cf:List bX):(Bool×(List Int)×(List (List bc))×(List Int)×(List Bool))→e5
 | a=>⟨some 0,[(0,.ref 0 0 0 0),(5,.ref 4 0 0 0)],[[ab.mk 5 [(fE bd nA 1 0 0 aj.length 2 0 0 aQ.length 3 0 0 al.length)] .live],(av 1 J aj),(av 1 J aQ),(av 1 J al),[ab.mk 6 [(eL 5 0 0 cf.length a.1 a.2.1 7 0 0 a.2.2.2.1.length ew 8 0 0 a.2.2.2.2.length)] .live],(av 1 (bR 6 0 2) cf),(c6 2 aN a.2.2.1),(av 1 J a.2.2.2.1),(av 1 dM a.2.2.2.2)]⟩
def uz (nA bd:Int)(aj aQ al:List Int)(ew:Int)(cf:List bX)(k3:Int)(cJ:Bool)(cI bs:List Int)(eF:List (List bc))(cg:List Int)(eH:List Bool):Option ((Int×Bool×(List Int)×(List Int)×(List (List bc))×(List Int)×(List Bool))⊕(Bool×(List Int)×(List (List bc))×(List Int)×(List Bool))) :=
 if (decide (k3<nA))=true then
  if 0≤k3∧k3<(bs.length:Nat) then
  if (0+k3.toNat)<(List.replicate bs.length 0:List Int).length then
  si cJ cI ew cf eF cg eH ((List.replicate bs.length 0:List Int).set (0+k3.toNat) (-1)) >>= fun bP =>
  some (.inl (U (k3+(1:Int)),bP.2.1,bP.2.2.1,((List.replicate bs.length 0:List Int).set (0+k3.toNat) (-1)),bP.2.2.2.1,bP.2.2.2.2.1,bP.2.2.2.2.2))
  else none
  else none
 else
  some (.inr (cJ,cI,eF,cg,eH))
def CE (nA bd:Int)(aj aQ al:List Int)(ew:Int)(cf:List bX)(k3:Int)(cJ:Bool)(cI bs:List Int)(eF:List (List bc))(cg:List Int)(eH:List Bool):Option (Bool×(List Int)×(List (List bc))×(List Int)×(List Bool)):=iter (fun w:Int×Bool×(List Int)×(List Int)×(List (List bc))×(List Int)×(List Bool)=>uz nA bd aj aQ al ew cf w.1 w.2.1 w.2.2.1 w.2.2.2.1 w.2.2.2.2.1 w.2.2.2.2.2.1 w.2.2.2.2.2.2) (k3,cJ,cI,bs,eF,cg,eH)
theorem Ti {nA bd:Int}{aj aQ al:List Int}{ew:Int}{cf:List bX}{k3:Int}{cJ:Bool}{cI bs:List Int}{eF:List (List bc)}{cg:List Int}{eH:List Bool}:b6 (uz nA bd aj aQ al ew cf k3 cJ cI bs eF cg eH) (fG bC 124 4 36 [1,1,1,1,1,1,0,1,0,0] (GK nA bd aj aQ al ew cf (k3,cJ,cI,bs,eF,cg,eH)) (GK nA bd aj aQ al ew cf) (G2 nA bd aj aQ al ew cf)):=by
 unfold uz
 exact .ite (fun o =>
  .bn fun R =>
  .bn fun ah =>
  .aC fun bP aK =>
  .ret (let aW:=eL 1 0 0 cf.length bP.2.1 bP.2.2.1 3 0 0 bP.2.2.2.2.1.length ew 4 0 0 bP.2.2.2.2.2.length;let bi:=(List.replicate bs.length 0:List Int);let cd:=eL 6 0 0 cf.length bP.2.1 bP.2.2.1 8 0 0 bP.2.2.2.2.1.length ew 9 0 0 bP.2.2.2.2.2.length;let cV:=eL 1 0 0 cf.length cJ cI 3 0 0 cg.length ew 4 0 0 eH.length;let dX:=eL 6 0 0 cf.length cJ cI 8 0 0 cg.length ew 9 0 0 eH.length;let fD:=c6 2 aN bP.2.2.2.1;let gR:=o9 [4,6,7,8,9,5];let e2:=f8 [4,6,7,8,9,5];let hy:=(hQ (l3 bs.length (0:Int)) (0+k3.toNat) (-1));let hT:=cX [0,1,2,3,4,5,6,7,8,9];let jz:=av 1 J (bi.set (0+k3.toNat) (-1));let jA:=fs 1 aE (bi.set (0+k3.toNat) (-1));b5 [(ag 1),.ao true,(ag 2),(ag 2),.aH (an 3 (aq .dO [])),.aH (an 2 (aq (.call {aM:=(o1 [4,6,7,8,9,5]),cM:=[.bt [ab.mk 6 [cV] .live],.bt (av 1 (bR 2 0 2) cf),.bt (c6 2 aN eF),.pure,.pure,.da jz],ac:=[ii,.bp (.b4 (.len ((bi.set (0+k3.toNat) (-1)).length)))],r:= .b bP.1,dT:=[[ab.mk 6 [aW] .live],(av 1 (bR 2 0 2) cf),fD,(av 1 J bP.2.2.2.2.1),(av 1 dM bP.2.2.2.2.2),jz],ff:=ii,fR:=[.bt [ab.mk 6 [cd] .live],.bt (av 1 (bR 7 0 2) cf),.bt fD,.pure,.pure,.pure],dA:=[4,5,6,7,8,9],dt:=false}) [])),(ag 2),.br [0,1,2,3,4,5,6,7,8,9] [.box [.id,.id,.id,.id,.id],.pure,.pure,.pure,.box [.id,.id,.id,.id,.id,.id],.pure,.bt (av 1 (bR 7 0 2) cf),.bt fD,.pure,.pure] [(0,ii),(5,ii),(7,gX ((bi.set (0+k3.toNat) (-1)).length)),(41,ii),(42,ii)]] (.bh o (Yt (cW J bs) (fO bs)) R.1 R.2 (Pq (lE J bs.length 0) ah) (hr 1) hy (i1 gR 6 [cV] [dX] rfl) (.bh (jt 6 [dX]) (eP gR 2 7 0 2 rfl cf) (jt 1 (cf.map (bR 7 0 2))) (eW gR 2 eb eF) (q1 2 aN eF) (fs 1 aE cg) (fs 1 d5 eH) (dF 1 .live (gy (lE J bs.length 0) (0+k3.toNat) (-1))) (.bh jA (i1 e2 6 [cd] [aW] rfl) (jt 6 [aW]) (eP e2 7 2 0 2 rfl cf) (jt 1 (cf.map (bR 2 0 2))) (eW e2 2 eb bP.2.2.2.1) (q1 2 aN bP.2.2.2.1) (fs 1 aE bP.2.2.2.2.1) (.bh (fs 1 d5 bP.2.2.2.2.2) jA (Gb bP aK) (aA 1 .live aE aj) (aA 1 .live aE aQ) (aA 1 .live aE al) (aA 1 .live aE (bi.set (0+k3.toNat) (-1))) (eP hT 7 7 0 2 rfl cf) (.du (eW hT 2 eb bP.2.2.2.1) (aA 1 .live aE bP.2.2.2.2.1) (aA 1 .live d5 bP.2.2.2.2.2) hy)))))))
  (fun o =>
  .ret (let mc:=cX [0,1,2,3,4,6,7,8,9];b5 [(ag 1),.ao false,.br [0,1,2,3,4,6,7,8,9] [.box [.id,.id,.id,.id,.id],.pure,.pure,.pure,.box [.id,.id,.id,.id,.id,.id],.bt (av 1 (bR 6 0 2) cf),.bt (c6 2 aN eF),.pure,.pure] (b2 [0,5])] (.hq o (aA 1 .live aE aj) (aA 1 .live aE aQ) (aA 1 .live aE al) (eP mc 6 7 0 2 rfl cf) (eW mc 2 eb eF) (aA 1 .live aE cg) (aA 1 .live d5 eH))))
theorem TT {nA bd:Int}{aj aQ al:List Int}{ew:Int}{cf:List bX}{k3:Int}{cJ:Bool}{cI bs:List Int}{eF:List (List bc)}{cg:List Int}{eH:List Bool}{r} (h:CE nA bd aj aQ al ew cf k3 cJ cI bs eF cg eH=some r):fH bC 124 4 36 [1,1,1,1,1,1,0,1,0,0] (GK nA bd aj aQ al ew cf) (G2 nA bd aj aQ al ew cf) (k3,cJ,cI,bs,eF,cg,eH) r:=fI (fun _=>Ti) h
def GL (oR bd aI:Int)(aj aQ al:List Int)(cJ:Bool)(cI:List Int)(ew:Int)(cf:List bX)(eF:List (List bc))(cg:List Int)(eH:List Bool):(Int×(List (Option cv)))→S:=fun (l7,bs)=>e1 [(0,.ref 0 0 0 0),(5,.ref 4 0 0 0),(9,.bm 5 0 0 bs.length),(59,.n .i64 oR),(60,.n .i64 l7)] [[ab.mk 5 [(fE bd aI 1 0 0 aj.length 2 0 0 aQ.length 3 0 0 al.length)] .live],(av 1 J aj),(av 1 J aQ),(av 1 J al),[ab.mk 6 [(eL 6 0 0 cf.length cJ cI 8 0 0 cg.length ew 9 0 0 eH.length)] .live],(av 1 (d8 3 bT) bs),(av 1 (bR 7 0 2) cf),(c6 2 aN eF),(av 1 J cg),(av 1 dM eH)]
def G3 (oR bd aI:Int)(aj aQ al:List Int)(cJ:Bool)(cI:List Int)(ew:Int)(cf:List bX)(eF:List (List bc))(cg:List Int)(eH:List Bool):(List (Option cv))→e5
 | a=>⟨some 2,[(0,.ref 0 0 0 0),(5,.ref 4 0 0 0),(9,.bm 5 0 0 a.length)],[[ab.mk 5 [(fE bd aI 1 0 0 aj.length 2 0 0 aQ.length 3 0 0 al.length)] .live],(av 1 J aj),(av 1 J aQ),(av 1 J al),[ab.mk 6 [(eL 6 0 0 cf.length cJ cI 8 0 0 cg.length ew 9 0 0 eH.length)] .live],(av 1 (d8 3 bT) a),(av 1 (bR 7 0 2) cf),(c6 2 aN eF),(av 1 J cg),(av 1 dM eH)]⟩
def w2 (oR bd aI:Int)(aj aQ al:List Int)(cJ:Bool)(cI:List Int)(ew:Int)(cf:List bX)(eF:List (List bc))(cg:List Int)(eH:List Bool)(l7:Int)(bs:List (Option cv)):Option ((Int×(List (Option cv)))⊕((List (Option cv)))) :=
 if (decide (l7<oR))=true then
  st 0 >>= fun cH =>
  if 0≤l7∧l7<(bs.length:Nat) then
  if (0+l7.toNat)<bs.length then
  some (.inl (U (l7+(1:Int)),bs.set (0+l7.toNat) cH))
  else none
  else none
 else
  some (.inr bs)
def CF (oR bd aI:Int)(aj aQ al:List Int)(cJ:Bool)(cI:List Int)(ew:Int)(cf:List bX)(eF:List (List bc))(cg:List Int)(eH:List Bool)(l7:Int)(bs:List (Option cv)):Option ((List (Option cv))):=iter (fun w:Int×(List (Option cv))=>w2 oR bd aI aj aQ al cJ cI ew cf eF cg eH w.1 w.2) (l7,bs)
theorem Tj {oR bd aI:Int}{aj aQ al:List Int}{cJ:Bool}{cI:List Int}{ew:Int}{cf:List bX}{eF:List (List bc)}{cg:List Int}{eH:List Bool}{l7:Int}{bs:List (Option cv)}:b6 (w2 oR bd aI aj aQ al cJ cI ew cf eF cg eH l7 bs) (fG bC 124 4 36 [1,1,1,1,1,1,1,1,0,1,0,0] (GL oR bd aI aj aQ al cJ cI ew cf eF cg eH (l7,bs)) (GL oR bd aI aj aQ al cJ cI ew cf eF cg eH) (G3 oR bd aI aj aQ al cJ cI ew cf eF cg eH)):=by
 unfold w2
 exact .ite (fun o =>
  .aC fun cH ah =>
  .bn fun aB =>
  .bn fun aK =>
  .ret (let aW:=cX [0,1,2,3,4,5,6,7,8,9];b5 [(ag 1),.ao true,(ag 2),.aH (an 2 (aq (b3 1 (gh 3 bT cH) false) (an 1 (aq .dO [])))),(ag 2),.br [0,1,2,3,4,5,6,7,8,9] [.box [.id,.id,.id,.id,.id],.pure,.pure,.pure,.box [.id,.id,.id,.id,.id,.id],.da (av 1 (d8 3 bT) (bs.set (0+l7.toNat) cH)),.bt (av 1 (bR 7 0 2) cf),.bt (c6 2 aN eF),.pure,.pure] [(0,ii),(5,ii),(9,gX ((bs.set (0+l7.toNat) cH).length)),(59,ii),(60,ii)]] (.bh o (CP cH ah) aB.1 aB.2 (hM (d8 3 bT) aK) (hr 1) (aA 1 .live aE aj) (aA 1 .live aE aQ) (.hq (aA 1 .live aE al) (dF 1 .live (gy (cW (d8 3 bT) bs) (0+l7.toNat) cH)) (aA 1 .live (ns (sz:=3) li) (bs.set (0+l7.toNat) cH)) (eP aW 7 7 0 2 rfl cf) (eW aW 2 eb eF) (aA 1 .live aE cg) (aA 1 .live d5 eH) (hQ (fO bs) (0+l7.toNat) cH)))))
  (fun o =>
  .ret (let bi:=cX [0,1,2,3,4,5,6,7,8,9];b5 [(ag 1),.ao false,.br [0,1,2,3,4,5,6,7,8,9] [.box [.id,.id,.id,.id,.id],.pure,.pure,.pure,.box [.id,.id,.id,.id,.id,.id],.pure,.bt (av 1 (bR 7 0 2) cf),.bt (c6 2 aN eF),.pure,.pure] (b2 [0,5,9])] (.bh o (aA 1 .live aE aj) (aA 1 .live aE aQ) (aA 1 .live aE al) (aA 1 .live (ns (sz:=3) li) bs) (eP bi 7 7 0 2 rfl cf) (eW bi 2 eb eF) (aA 1 .live aE cg) (.ay (aA 1 .live d5 eH)))))
theorem TU {oR bd aI:Int}{aj aQ al:List Int}{cJ:Bool}{cI:List Int}{ew:Int}{cf:List bX}{eF:List (List bc)}{cg:List Int}{eH:List Bool}{l7:Int}{bs:List (Option cv)}{r} (h:CF oR bd aI aj aQ al cJ cI ew cf eF cg eH l7 bs=some r):fH bC 124 4 36 [1,1,1,1,1,1,1,1,0,1,0,0] (GL oR bd aI aj aQ al cJ cI ew cf eF cg eH) (G3 oR bd aI aj aQ al cJ cI ew cf eF cg eH) (l7,bs) r:=fI (fun _=>Tj) h
def GM (oS bd aI:Int)(aj aQ al:List Int)(cJ:Bool)(cI:List Int)(ew:Int)(cf:List Int)(dr:List bX)(m7:List (List bc))(eH:List Bool):(Int×(List (Option cv)))→S:=fun (m8,bs)=>e1 [(0,.ref 0 0 0 0),(5,.ref 4 0 0 0),(9,.bm 5 0 0 bs.length),(71,.bm 6 0 0 cf.length),(72,.n .i64 oS),(73,.n .i64 m8)] [[ab.mk 5 [(fE bd aI 1 0 0 aj.length 2 0 0 aQ.length 3 0 0 al.length)] .live],(av 1 J aj),(av 1 J aQ),(av 1 J al),[ab.mk 6 [(eL 7 0 0 dr.length cJ cI 6 0 0 cf.length ew 9 0 0 eH.length)] .live],(av 1 (d8 3 bT) bs),(av 1 J cf),(av 1 (bR 8 0 2) dr),(c6 2 aN m7),(av 1 dM eH)]
def G4 (oS bd aI:Int)(aj aQ al:List Int)(cJ:Bool)(cI:List Int)(ew:Int)(cf:List Int)(dr:List bX)(m7:List (List bc))(eH:List Bool):(List (Option cv))→e5
 | a=>⟨some 4,[(0,.ref 0 0 0 0),(9,.bm 4 0 0 a.length)],[[ab.mk 5 [(fE bd aI 1 0 0 aj.length 2 0 0 aQ.length 3 0 0 al.length)] .live],(av 1 J aj),(av 1 J aQ),(av 1 J al),(av 1 (d8 3 bT) a)]⟩
def w3 (oS bd aI:Int)(aj aQ al:List Int)(cJ:Bool)(cI:List Int)(ew:Int)(cf:List Int)(dr:List bX)(m7:List (List bc))(eH:List Bool)(m8:Int)(bs:List (Option cv)):Option ((Int×(List (Option cv)))⊕((List (Option cv)))) :=
 if (decide (m8<oS))=true then
  if 0≤m8∧m8<(cf.length:Nat) then
  cf[(0+m8.toNat)]? >>= fun aV =>
  if 0≤m8∧m8<(dr.length:Nat) then
  dr[(0+m8.toNat)]? >>= fun aF =>
  aF >>= fun BM =>
  m7[BM.1]? >>= fun EJ =>
  if 0≤ew∧ew<(BM.2:Nat) then
  EJ[(0+ew.toNat)]? >>= fun o4 =>
  q6 o4 cI >>= fun d2 =>
  if 0≤aV∧aV<(bs.length:Nat) then
  if (0+aV.toNat)<bs.length then
  some (.inl (U (m8+(1:Int)),bs.set (0+aV.toNat) d2))
  else none
  else none
  else none
  else none
  else none
 else
  some (.inr bs)
def CG (oS bd aI:Int)(aj aQ al:List Int)(cJ:Bool)(cI:List Int)(ew:Int)(cf:List Int)(dr:List bX)(m7:List (List bc))(eH:List Bool)(m8:Int)(bs:List (Option cv)):Option ((List (Option cv))):=iter (fun w:Int×(List (Option cv))=>w3 oS bd aI aj aQ al cJ cI ew cf dr m7 eH w.1 w.2) (m8,bs)
theorem Tk {oS bd aI:Int}{aj aQ al:List Int}{cJ:Bool}{cI:List Int}{ew:Int}{cf:List Int}{dr:List bX}{m7:List (List bc)}{eH:List Bool}{m8:Int}{bs:List (Option cv)}:b6 (w3 oS bd aI aj aQ al cJ cI ew cf dr m7 eH m8 bs) (fG bC 124 4 36 [1,1,1,1,1,1,1,1,1,0,1,0,0] (GM oS bd aI aj aQ al cJ cI ew cf dr m7 eH (m8,bs)) (GM oS bd aI aj aQ al cJ cI ew cf dr m7 eH) (G4 oS bd aI aj aQ al cJ cI ew cf dr m7 eH)):=by
 unfold w3
 exact .ite (fun o =>
  .bn fun R =>
  .aC fun aV aB =>
  .bn fun aK =>
  .aC fun aF bS =>
  .aC fun BM dy =>
  .aC fun EJ dC =>
  .bn fun fr =>
  .aC fun o4 eQ =>
  .aC fun d2 hJ =>
  .bn fun fS =>
  .bn fun ku =>
  .ret (let aW:=cX [0,1,2,3,4,5,6,7,8,9];let bi:=lI (iN .live 2 aN m7) lg dC;b5 [(ag 1),.ao true,.aH (bU 2 (.cK (J aV)) 2),.aH (an 8 (aq (.cK ((bR 8 0 2) aF)) (an 4 (aq (.fX 86 (.bm 8 (BM.1+0) 0 BM.2) (.hd (ab.mk 2 (EJ.map aN) .live) [])) (aq (.hd (ab.mk 2 (EJ.map aN) .live) (aN o4)) (an 5 (aq (b3 2 (gh 3 bT d2) false) (an 1 (aq .dO []))))))))),(ag 2),.br [0,1,2,3,4,5,6,7,8,9] [.box [.id,.id,.id,.id,.id],.pure,.pure,.pure,.box [.id,.id,.id,.id,.id,.id],.da (av 1 (d8 3 bT) (bs.set (0+aV.toNat) d2)),.pure,.bt (av 1 (bR 8 0 2) dr),.bt (c6 2 aN m7),.pure] [(0,ii),(5,ii),(9,gX ((bs.set (0+aV.toNat) d2).length)),(71,ii),(72,ii),(73,ii)]] (.bh o R.1 R.2 (cP J aB) aK.1 aK.2 (cP (bR 8 0 2) bS) (oB (ed:=8) (c:=0) (sz:=2) dy) (.bh bi fr.1 fr.2 bi (cP aN eQ) (HL d2 hJ) fS.1 fS.2 (.bh (hM (d8 3 bT) ku) (hr 1) (aA 1 .live aE aj) (aA 1 .live aE aQ) (aA 1 .live aE al) (dF 1 .live (gy (cW (d8 3 bT) bs) (0+aV.toNat) d2)) (aA 1 .live (ns (sz:=3) li) (bs.set (0+aV.toNat) d2)) (aA 1 .live aE cf) (.du (eP aW 8 8 0 2 rfl dr) (eW aW 2 eb m7) (aA 1 .live d5 eH) (hQ (fO bs) (0+aV.toNat) d2)))))))
  (fun o =>
  .ret (b5 [(ag 1),.ao false,.br [0,1,2,3,5] [.box [.id,.id,.id,.id,.id],.pure,.pure,.pure,.pure] (b2 [0,9])] (.dV o (aA 1 .live aE aj) (aA 1 .live aE aQ) (aA 1 .live aE al) (aA 1 .live (ns (sz:=3) li) bs))))
theorem TV {oS bd aI:Int}{aj aQ al:List Int}{cJ:Bool}{cI:List Int}{ew:Int}{cf:List Int}{dr:List bX}{m7:List (List bc)}{eH:List Bool}{m8:Int}{bs:List (Option cv)}{r} (h:CG oS bd aI aj aQ al cJ cI ew cf dr m7 eH m8 bs=some r):fH bC 124 4 36 [1,1,1,1,1,1,1,1,1,0,1,0,0] (GM oS bd aI aj aQ al cJ cI ew cf dr m7 eH) (G4 oS bd aI aj aQ al cJ cI ew cf dr m7 eH) (m8,bs) r:=fI (fun _=>Tk) h
def GN (oJ bd aI:Int)(aj aQ al:List Int)(a8:List (Option cv)):((Option cv)×Int)→S:=fun (i4,m6)=>e1 [(0,.ref 0 0 0 0),(9,.bm 4 0 0 a8.length),(13,gh 3 bT i4),(102,.bm 4 0 0 a8.length),(103,.n .i64 oJ),(104,.n .i64 m6)] [[ab.mk 5 [(fE bd aI 1 0 0 aj.length 2 0 0 aQ.length 3 0 0 al.length)] .live],(av 1 J aj),(av 1 J aQ),(av 1 J al),(av 1 (d8 3 bT) a8)]
def G5 (oJ bd aI:Int)(aj aQ al:List Int)(a8:List (Option cv)):(Option cv)→e5
 | a=>⟨some 6,[(9,.bm 4 0 0 a8.length),(13,gh 3 bT a)],[[ab.mk 5 [(fE bd aI 1 0 0 aj.length 2 0 0 aQ.length 3 0 0 al.length)] .live],(av 1 J aj),(av 1 J aQ),(av 1 J al),(av 1 (d8 3 bT) a8)]⟩
def w4 (oJ bd aI:Int)(aj aQ al:List Int)(a8:List (Option cv))(i4:Option cv)(m6:Int):Option (((Option cv)×Int)⊕((Option cv))) :=
 if (decide (m6<oJ))=true then
  if 0≤m6∧m6<(a8.length:Nat) then
  a8[(0+m6.toNat)]? >>= fun aV =>
  if 0≤m6∧m6<(al.length:Nat) then
  al[(0+m6.toNat)]? >>= fun aF =>
  st aF >>= fun fQ =>
  xe aV fQ >>= fun hn =>
  xh i4 hn >>= fun cO =>
  some (.inl (cO,U (m6+(1:Int))))
  else none
  else none
 else
  some (.inr i4)
def CH (oJ bd aI:Int)(aj aQ al:List Int)(a8:List (Option cv))(i4:Option cv)(m6:Int):Option ((Option cv)):=iter (fun w:(Option cv)×Int=>w4 oJ bd aI aj aQ al a8 w.1 w.2) (i4,m6)
theorem Tl {oJ bd aI:Int}{aj aQ al:List Int}{a8:List (Option cv)}{i4:Option cv}{m6:Int}:b6 (w4 oJ bd aI aj aQ al a8 i4 m6) (fG bC 124 4 36 [1,1,1,1,1,1,1,1,1,1,1,0,1,0,0] (GN oJ bd aI aj aQ al a8 (i4,m6)) (GN oJ bd aI aj aQ al a8) (G5 oJ bd aI aj aQ al a8)):=by
 unfold w4
 exact .ite (fun o =>
  .bn fun R =>
  .aC fun aV aB =>
  .bn fun aK =>
  .aC fun aF bS =>
  .aC fun fQ dy =>
  .aC fun hn dC =>
  .aC fun cO eC =>
  .ret (b5 [(ag 1),.ao true,.aH (bU 2 (.cK ((d8 3 bT) aV)) 2),.aH (an 8 (aq (.cK (J aF)) (aq (b3 1 (gh 3 bT fQ) false) (aq (b3 2 (gh 3 bT hn) false) (aq (b3 2 (gh 3 bT cO) false) (an 1 [])))))),(ag 2),.br [0,1,2,3,4] [.box [.id,.id,.id,.id,.id],.pure,.pure,.pure,.pure] (b2 [0,9,13,102,103,104])] (.bh o R.1 R.2 (cP (d8 3 bT) aB) aK.1 aK.2 (cP J bS) (CP fQ dy) (.eK (LP hn dC) (LU cO eC) (aA 1 .live aE aj) (aA 1 .live aE aQ) (aA 1 .live aE al) (aA 1 .live (ns (sz:=3) li) a8)))))
  (fun o =>
  .ret (b5 [(ag 1),.ao false,.br [0,1,2,3,4] [.box [.id,.id,.id,.id,.id],.pure,.pure,.pure,.pure] (b2 [9,13])] (.dV o (aA 1 .live aE aj) (aA 1 .live aE aQ) (aA 1 .live aE al) (aA 1 .live (ns (sz:=3) li) a8))))
theorem TW {oJ bd aI:Int}{aj aQ al:List Int}{a8:List (Option cv)}{i4:Option cv}{m6:Int}{r} (h:CH oJ bd aI aj aQ al a8 i4 m6=some r):fH bC 124 4 36 [1,1,1,1,1,1,1,1,1,1,1,0,1,0,0] (GN oJ bd aI aj aQ al a8) (G5 oJ bd aI aj aQ al a8) (i4,m6) r:=fI (fun _=>Tl) h
def zz (cb cB:Int)(cT eT dc:List Int):Option (Int×(List (Option cv))×(Option cv)) :=
 zy cb cB cT eT dc >>= fun ax =>
 match ax with
 | .inl bG=>(if 0≤bG.2.2.1∧(8:Int)*bG.2.2.1≤281474976710656∧bG.2.2.1<9223372036854775808 then
  if dc.length≤bG.2.2.1.toNat then
  si bG.1 bG.2.1 bG.2.2.1 bG.2.2.2.1 bG.2.2.2.2.2.2 bG.2.2.2.2.1 bG.2.2.2.2.2.1 (dc++(List.replicate bG.2.2.1.toNat 0:List Int).drop dc.length) >>= fun c0 =>
  if c0.1=true then
   CE cB cb cT eT dc bG.2.2.1 bG.2.2.2.1 0 c0.2.1 c0.2.2.1 (dc++(List.replicate bG.2.2.1.toNat 0:List Int).drop dc.length) c0.2.2.2.1 c0.2.2.2.2.1 c0.2.2.2.2.2 >>= fun bA =>
   if 0≤cB∧(8:Int)*cB≤281474976710656∧cB<9223372036854775808 then
   CF ((cB.toNat:Nat):Int) cb cB cT eT dc bA.1 bA.2.1 bG.2.2.1 bG.2.2.2.1 bA.2.2.1 bA.2.2.2.1 bA.2.2.2.2 0 (List.replicate cB.toNat (none:(Option cv)):List (Option cv)) >>= fun cO =>
   CG ((bA.2.2.2.1.length:Nat):Int) cb cB cT eT dc bA.1 bA.2.1 bG.2.2.1 bA.2.2.2.1 bG.2.2.2.1 bA.2.2.1 bA.2.2.2.2 0 cO >>= fun dG =>
   st 0 >>= fun cA =>
   CH ((dG.length:Nat):Int) cb cB cT eT dc dG cA 0 >>= fun dU =>
   some (0,dG,dU)
   else none
  else
   some (3,([]:List (Option cv)),(none:(Option cv)))
  else none
  else none)
 | .inr bG=>(some (2,([]:List (Option cv)),(none:(Option cv))))
set_option maxHeartbeats 4000000 in
theorem Um {cb cB:Int}{cT eT dc:List Int}:b6 (zz cb cB cT eT dc) (fun a=>Con bC 36 [.ref 0 0 0 0] [[ab.mk 5 [(fE cb cB 1 0 0 cT.length 2 0 0 eT.length 3 0 0 dc.length)] .live],(av 1 J cT),(av 1 J eT),(av 1 J dc)] (.dK [.n .i64 a.1,.isl 1 (a.2.1.map (d8 3 bT)),gh 3 bT a.2.2]) [[ab.mk 5 [(fE cb cB 1 0 0 cT.length 2 0 0 eT.length 3 0 0 dc.length)] .live],(av 1 J cT),(av 1 J eT),(av 1 J dc)]):=by
 unfold zz
 exact .aC fun ax R =>
  (let vN:=fE cb cB 1 0 0 cT.length 2 0 0 eT.length 3 0 0 dc.length;have b0:=((.dV (i1 (o9 [0,1,2,3]) 5 [vN] [vN] rfl) (jt 5 [vN]) (fs 1 aE cT) (fs 1 aE eT) (fs 1 aE dc)):c9 _);
  (by
  rcases ax with bG|bG
  ·exact (.bn fun aB =>
  .bn fun aK =>
  .aC fun c0 bS =>
  (let r9:=eL 1 0 0 bG.2.2.2.1.length c0.2.1 c0.2.2.1 3 0 0 c0.2.2.2.2.1.length bG.2.2.1 4 0 0 c0.2.2.2.2.2.length;let s9:=eL 4 1 0 bG.2.2.2.1.length bG.1 bG.2.1 4 2 0 bG.2.2.2.2.1.length bG.2.2.1 4 3 0 bG.2.2.2.2.2.1.length;let qe:=fE cb cB 1 0 0 cT.length 2 0 0 eT.length 3 0 0 dc.length;let kv:=c6 2 aN bG.2.2.2.2.2.2;let ta:=(dc++(List.replicate bG.2.2.1.toNat 0:List Int).drop dc.length);let vK:=eL 5 0 0 bG.2.2.2.1.length c0.2.1 c0.2.2.1 6 0 0 c0.2.2.2.2.1.length bG.2.2.1 7 0 0 c0.2.2.2.2.2.length;let Bi:=eL 1 0 0 bG.2.2.2.1.length bG.1 bG.2.1 3 0 0 bG.2.2.2.2.1.length bG.2.2.1 4 0 0 bG.2.2.2.2.2.1.length;let t0:=eL 5 0 0 bG.2.2.2.1.length bG.1 bG.2.1 6 0 0 bG.2.2.2.2.1.length bG.2.2.1 7 0 0 bG.2.2.2.2.2.1.length;let t7:=f8 [0,1,2,3,8];let yQ:=av 1 (bR 8 0 2) bG.2.2.2.1;let t9:=cX [0,1,2,3,8];let vL:=o9 [4,5,8,6,7,15];let vM:=f8 [4,5,8,6,7,15];let yR:=av 1 (bR 2 0 2) bG.2.2.2.1;let yS:=(l3 bG.2.2.1.toNat (0:Int));let Bj:=c6 2 aN c0.2.2.2.1;let Bk:=lE J bG.2.2.1.toNat 0;let t2:List c5:=[(ag 3),.aH (bU 1 (.call {aM:=(o1 [0,1,2,3]),cM:=[.bt [ab.mk 5 [qe] .live],.pure,.pure,.pure],ac:=[ii],r:= .dK [.ref 4 0 0 0,.b true],dT:=[[ab.mk 5 [qe] .live],(av 1 J cT),(av 1 J eT),(av 1 J dc),(ab.mk 6 [s9] .live::ab.mk 1 (bG.2.2.2.1.map (bR 4 4 2)) .live::ab.mk 1 (bG.2.2.2.2.1.map J) .live::ab.mk 1 (bG.2.2.2.2.2.1.map dM) .live::kv)],ff:= .comp [.b4 .id,.b4 .id],fR:=[.bt [ab.mk 5 [qe] .live],.pure,.pure,.pure,.bt (ab.mk 6 [(eL 8 1 0 bG.2.2.2.1.length bG.1 bG.2.1 8 2 0 bG.2.2.2.2.1.length bG.2.2.1 8 3 0 bG.2.2.2.2.2.1.length)] .live::ab.mk 1 (bG.2.2.2.1.map (bR 8 4 2)) .live::ab.mk 1 (bG.2.2.2.2.1.map J) .live::ab.mk 1 (bG.2.2.2.2.2.1.map dM) .live::kv)],dA:=[0,1,2,3],dt:=false}) 5),.br [0,1,2,3,8] [.box [.id,.id,.id,.id,.id],.pure,.pure,.pure,.bt (ab.mk 6 [s9] .live::ab.mk 1 (bG.2.2.2.1.map (bR 4 4 2)) .live::ab.mk 1 (bG.2.2.2.2.1.map J) .live::ab.mk 1 (bG.2.2.2.2.2.1.map dM) .live::kv)] [(0,ii),(2,ii),(3,ii),(4,.bp (.b4 (.pC 3))),(5,ii),(6,ii),(16,.comp [.b4 .id,.b4 .id]),(17,ii),(18,.comp [.b4 .id,.b4 .id]),(19,ii),(20,ii)],.qa [{bN:=some (0,0)},{bN:=some (1,0)},{bN:=some (2,0)},{bN:=some (3,0)},{aU:=[(4,0)]},{aU:=[(4,1)]},{aU:=[(4,2)]},{aU:=[(4,3)]},{bN:=some (4,4)}] [([],some (.box [.id,.id,.id,.id,.id])),([],some (.pure)),([],some (.pure)),([],some (.pure)),([.box [.at_ 5 0 bG.2.2.2.1.length,.id,.id,.at_ 6 0 bG.2.2.2.2.1.length,.id,.at_ 7 0 bG.2.2.2.2.2.1.length]],none),([.rx yQ],none),([.pure],none),([.pure],none),([],some (.rx kv))] [(0,ii),(2,ii),(3,ii),(4,ii),(5,.bp (.b4 (.at_ 4 0 0))),(6,ii),(16,.comp [.b4 (.at_ 4 0 0),.b4 .id]),(17,ii),(18,.comp [.b4 (.at_ 4 0 0),.b4 .id]),(19,.bp (.b4 (.at_ 4 0 0))),(20,ii)],(ag 2),.ao false,(ag 6),(ag 6),.aH (bU 2 (.call {aM:=(o1 [4,5,8,6,7,15]),cM:=[.bt [ab.mk 6 [Bi] .live],.bt yR,.bt kv,.pure,.pure,.da (av 1 J ta)],ac:=[ii,.bp (.b4 (.len (ta.length)))],r:= .b c0.1,dT:=[[ab.mk 6 [r9] .live],yR,Bj,(av 1 J c0.2.2.2.2.1),(av 1 dM c0.2.2.2.2.2),(av 1 J ta)],ff:=ii,fR:=[.bt [ab.mk 6 [vK] .live],.bt yQ,.bt Bj,.pure,.pure,.pure],dA:=[4,5,6,7,8,15],dt:=false}) 1)];
  have fK:=b0.bb (.bh (i1 t7 5 [qe] [qe] rfl) (jt 5 [qe]) (fs 1 aE cT) (fs 1 aE eT) (fs 1 aE dc) (c4 (show ab.mk 6 [(eL 8 1 0 bG.2.2.2.1.length bG.1 bG.2.1 8 2 0 bG.2.2.2.2.1.length bG.2.2.1 8 3 0 bG.2.2.2.2.2.1.length)] .live=kt (f8 [0,1,2,3,8]) (ab.mk 6 [(eL 4 1 0 bG.2.2.2.1.length bG.1 bG.2.1 4 2 0 bG.2.2.2.2.1.length bG.2.2.1 4 3 0 bG.2.2.2.2.2.1.length)] .live) from rfl) (c4 (E4 t7 8 4 4 2 rfl bG.2.2.2.1) (c4 (dm t7 1 fa bG.2.2.2.2.1) (c4 (dm t7 1 Jl bG.2.2.2.2.2.1) (eW t7 2 eb bG.2.2.2.2.2.2))))) ((jh rfl (jh rfl (jh rfl (jh rfl (NI (iN .live 2 aN bG.2.2.2.2.2.2)))))):mj (ab.mk 6 [s9] .live::ab.mk 1 (bG.2.2.2.1.map (bR 4 4 2)) .live::ab.mk 1 (bG.2.2.2.2.1.map J) .live::ab.mk 1 (bG.2.2.2.2.2.1.map dM) .live::kv)) (Ma (.inl bG) R) (.bh (aA 1 .live aE cT) (aA 1 .live aE eT) (aA 1 .live aE dc) (c4 (show ab.mk 6 [(eL 4 1 0 bG.2.2.2.1.length bG.1 bG.2.1 4 2 0 bG.2.2.2.2.1.length bG.2.2.1 4 3 0 bG.2.2.2.2.2.1.length)] .live=kt (cX [0,1,2,3,8]) (ab.mk 6 [(eL 8 1 0 bG.2.2.2.1.length bG.1 bG.2.1 8 2 0 bG.2.2.2.2.1.length bG.2.2.1 8 3 0 bG.2.2.2.2.2.1.length)] .live) from rfl) (c4 (E4 t9 4 8 4 2 rfl bG.2.2.2.1) (c4 (dm t9 1 fa bG.2.2.2.2.1) (c4 (dm t9 1 Jl bG.2.2.2.2.2.1) (eW t9 2 eb bG.2.2.2.2.2.2))))) (aA 1 .live aE cT) (aA 1 .live aE eT) (aA 1 .live aE dc) (rfl:(fb [{bN:=some (0,0)},{bN:=some (1,0)},{bN:=some (2,0)},{bN:=some (3,0)},{aU:=[(4,0)]},{aU:=[(4,1)]},{aU:=[(4,2)]},{aU:=[(4,3)]},{bN:=some (4,4)}]) 5 0=some (4,1)) (.bh (rfl:bG.2.2.2.1.length=bG.2.2.2.1.length) (rfl:(fb [{bN:=some (0,0)},{bN:=some (1,0)},{bN:=some (2,0)},{bN:=some (3,0)},{aU:=[(4,0)]},{aU:=[(4,1)]},{aU:=[(4,2)]},{aU:=[(4,3)]},{bN:=some (4,4)}]) 6 0=some (4,2)) (rfl:bG.2.2.2.2.1.length=bG.2.2.2.2.1.length) (rfl:(fb [{bN:=some (0,0)},{bN:=some (1,0)},{bN:=some (2,0)},{bN:=some (3,0)},{aU:=[(4,0)]},{aU:=[(4,1)]},{aU:=[(4,2)]},{aU:=[(4,3)]},{bN:=some (4,4)}]) 7 0=some (4,3)) (rfl:bG.2.2.2.2.2.1.length=bG.2.2.2.2.2.1.length) (OR (Jk (jS:=(bR 8 0 2)) (cW (bR 4 4 2) bG.2.2.2.1) (fun _=>rfl) (fun x=>(P3 (fun _=>rfl)) x)) Pt:r6 (fb [{bN:=some (0,0)},{bN:=some (1,0)},{bN:=some (2,0)},{bN:=some (3,0)},{aU:=[(4,0)]},{aU:=[(4,1)]},{aU:=[(4,2)]},{aU:=[(4,3)]},{bN:=some (4,4)}]) (av 1 (bR 4 4 2) bG.2.2.2.1) yQ) (aA 1 .live aE bG.2.2.2.2.1) (aA 1 .live d5 bG.2.2.2.2.2.1) (.bh (OT (iN .live 2 aN bG.2.2.2.2.2.2) (fun _=>rfl) eb:r6 (fb [{bN:=some (0,0)},{bN:=some (1,0)},{bN:=some (2,0)},{bN:=some (3,0)},{aU:=[(4,0)]},{aU:=[(4,1)]},{aU:=[(4,2)]},{aU:=[(4,3)]},{bN:=some (4,4)}]) kv kv) (rfl:(fb [{bN:=some (0,0)},{bN:=some (1,0)},{bN:=some (2,0)},{bN:=some (3,0)},{aU:=[(4,0)]},{aU:=[(4,1)]},{aU:=[(4,2)]},{aU:=[(4,3)]},{bN:=some (4,4)}]) 4 0=some (4,0)) (rfl:(fb [{bN:=some (0,0)},{bN:=some (1,0)},{bN:=some (2,0)},{bN:=some (3,0)},{aU:=[(4,0)]},{aU:=[(4,1)]},{aU:=[(4,2)]},{aU:=[(4,3)]},{bN:=some (4,4)}]) 4 0=some (4,0)) (rfl:(fb [{bN:=some (0,0)},{bN:=some (1,0)},{bN:=some (2,0)},{bN:=some (3,0)},{aU:=[(4,0)]},{aU:=[(4,1)]},{aU:=[(4,2)]},{aU:=[(4,3)]},{bN:=some (4,4)}]) 4 0=some (4,0)) (rfl:(fb [{bN:=some (0,0)},{bN:=some (1,0)},{bN:=some (2,0)},{bN:=some (3,0)},{aU:=[(4,0)]},{aU:=[(4,1)]},{aU:=[(4,2)]},{aU:=[(4,3)]},{bN:=some (4,4)}]) 4 0=some (4,0)) d3 aB.1 (Int.le_refl bG.2.2.1) (.bh aB.2.1 aB.2.2 (jg J dc) (Zj (Ag (cW J dc) (fO dc)) aK) (u1 Bk yS) (Px yS (Nat.le_refl _) aK) (i1 vL 6 [Bi] [t0] rfl) (jt 6 [t0]) (.bh (eP vL 2 8 0 2 rfl bG.2.2.2.1) (jt 1 (bG.2.2.2.1.map (bR 8 0 2))) (eW vL 2 eb bG.2.2.2.2.2.2) (q1 2 aN bG.2.2.2.2.2.2) (fs 1 aE bG.2.2.2.2.1) (fs 1 d5 bG.2.2.2.2.2.1) (dF 1 .live (Ys Bk (Ag (cW J dc) (fO dc)))) (fs 1 aE ta) (.bh (i1 vM 6 [vK] [r9] rfl) (jt 6 [r9]) (eP vM 8 2 0 2 rfl bG.2.2.2.1) (jt 1 (bG.2.2.2.1.map (bR 2 0 2))) (eW vM 2 eb c0.2.2.2.1) (q1 2 aN c0.2.2.2.1) (fs 1 aE c0.2.2.2.2.1) (fs 1 d5 c0.2.2.2.2.2) (.aD (fs 1 aE ta) (Gb c0 bS)))))))));
  .ite (fun bx =>
  .aC fun bA dQ =>
  .bn fun dC =>
  .aC fun cO eC =>
  .aC fun dG gk =>
  .aC fun cA fS =>
  .aC fun dU kf =>
  .ret (let aW:=fE cb cB 1 0 0 cT.length 2 0 0 eT.length 3 0 0 dc.length;let bi:=(List.replicate cB.toNat (none:(Option cv)):List (Option cv));let cd:=aA 1 .live aE cT;let cV:=aA 1 .live aE eT;let dX:=aA 1 .live aE dc;let fD:=(dc++(List.replicate bG.2.2.1.toNat 0:List Int).drop dc.length);let gR:=cX [0,1,2,3,4,15,5,8,6,7];let e2:=cX [0,1,2,3,4,13,5,6,7,8];let hy:=cX [0,1,2,3,4,5,8,6,7,9];let hT:=av 1 (bR 7 0 2) bG.2.2.2.1;let jz:=aA 1 .live aE bA.2.2.2.1;let jA:=aA 1 .live d5 bA.2.2.2.2;let mc:=c6 2 aN bA.2.2.1;iu (t2.append [.ao false,(ag 5),.br [0,1,2,3,4,15,5,8,6,7] [.box [.id,.id,.id,.id,.id],.pure,.pure,.pure,.box [.id,.id,.id,.id,.id,.id],.pure,.bt hT,.bt (c6 2 aN c0.2.2.2.1),.pure,.pure] [(0,ii),(5,ii),(7,gX (fD.length)),(41,ii),(42,ii)],(G2 cB cb cT eT dc bG.2.2.1 bG.2.2.2.1 bA).gr,.aH (bU 4 (.cK [(gh 3 bT (none:(Option cv)))]) 1),(ag 3),.br [0,1,2,3,4,13,5,6,7,8] [.box [.id,.id,.id,.id,.id],.pure,.pure,.pure,.box [.id,.id,.id,.id,.id,.id],.da (av 1 (d8 3 bT) bi),.bt hT,.bt mc,.pure,.pure] [(0,ii),(5,ii),(9,gX (bi.length)),(59,ii),(60,ii)],(G3 ((cB.toNat:Nat):Int) cb cB cT eT dc bA.1 bA.2.1 bG.2.2.1 bG.2.2.2.1 bA.2.2.1 bA.2.2.2.1 bA.2.2.2.2 cO).gr,(ag 6),.br [0,1,2,3,4,5,8,6,7,9] [.box [.id,.id,.id,.id,.id],.pure,.pure,.pure,.box [.id,.id,.id,.id,.id,.id],.pure,.pure,.bt (av 1 (bR 8 0 2) bG.2.2.2.1),.bt mc,.pure] (b2 [0,5,9,71,72,73]),(G4 ((bA.2.2.2.1.length:Nat):Int) cb cB cT eT dc bA.1 bA.2.1 bG.2.2.1 bA.2.2.2.1 bG.2.2.2.1 bA.2.2.1 bA.2.2.2.2 dG).gr,.aH (aq (b3 1 (gh 3 bT cA) false) (an 1 [])),(ag 3),.br [0,1,2,3,4] [.box [.id,.id,.id,.id,.id],.pure,.pure,.pure,.pure] (b2 [0,9,13,102,103,104]),(G5 ((dG.length:Nat):Int) cb cB cT eT dc dG dU).gr,(ag 5)]) [0,1,2,3] [.bt [ab.mk 5 [aW] .live],.pure,.pure,.pure] (fK.bb (.bh (e3 bx) cd cV dX (aA 1 .live aE fD) (eP gR 7 8 0 2 rfl bG.2.2.2.1) (eW gR 2 eb c0.2.2.2.1) (aA 1 .live aE c0.2.2.2.2.1) (.bh (aA 1 .live d5 c0.2.2.2.2.2) (Px (l3 bG.2.2.1.toNat (0:Int)) (Nat.le_refl _) aK) (TT dQ) dC.1 (Int.le_refl cB) dC.2.1 dC.2.2 cd (.bh cV dX (dF 1 .live (lE (d8 3 bT) cB.toNat (none:(Option cv)))) (aA 1 .live (ns (sz:=3) li) bi) (eP e2 7 6 0 2 rfl bG.2.2.2.1) (eW e2 2 eb bA.2.2.1) jz jA (.bh (l3 cB.toNat ((none:(Option cv)):(Option cv))) (TU eC) cd cV dX (aA 1 .live (ns (sz:=3) li) cO) jz (eP hy 8 7 0 2 rfl bG.2.2.2.1) (.bh (eW hy 2 eb bA.2.2.1) jA (TV gk) (CP cA fS) cd cV dX (aA 1 .live (ns (sz:=3) li) dG) (.hq (TW kf) (i1 (cX [0,1,2,3]) 5 [aW] [aW] rfl) cd cV dX (jT (d8 3 bT) dG) (jg (d8 3 bT) dG) (dP (ns (sz:=3) li) dG)))))))) (.comp [.b4 .id,.b4 (.ej (dG.map (d8 3 bT))),.b4 .id])))
  (fun bx =>
  .ret (let pz:=fE cb cB 1 0 0 cT.length 2 0 0 eT.length 3 0 0 dc.length;iu (t2.append [.ao true,(ag 3)]) [0,1,2,3] [.bt [ab.mk 5 [pz] .live],.pure,.pure,.pure] (fK.bb (.dV (e6 bx) (i1 (cX [0,1,2,3]) 5 [pz] [pz] rfl) (aA 1 .live aE cT) (aA 1 .live aE eT) (aA 1 .live aE dc))) (.comp [.b4 .id,.b4 (.mv 1),.b4 (.pC 3)])))))
  ·exact (.ret (let nQ:=fE cb cB 1 0 0 cT.length 2 0 0 eT.length 3 0 0 dc.length;iu [(ag 3),.aH (bU 1 (.call {aM:=(o1 [0,1,2,3]),cM:=[.bt [ab.mk 5 [nQ] .live],.pure,.pure,.pure],ac:=[ii],r:= .dK [.ic,.b false],dT:=[[ab.mk 5 [nQ] .live],(av 1 J cT),(av 1 J eT),(av 1 J dc)],ff:=ii,fR:=[.bt [ab.mk 5 [nQ] .live],.pure,.pure,.pure],dA:=[0,1,2,3],dt:=false}) 5),(ag 2),.ao true,(ag 3)] [0,1,2,3] [.bt [ab.mk 5 [nQ] .live],.pure,.pure,.pure] (b0.bb (.bh (i1 (f8 [0,1,2,3]) 5 [nQ] [nQ] rfl) (jt 5 [nQ]) (fs 1 aE cT) (fs 1 aE eT) (fs 1 aE dc) (Ma (.inr bG) R) ch (i1 (cX [0,1,2,3]) 5 [nQ] [nQ] rfl) (.bV (aA 1 .live aE cT) (aA 1 .live aE eT) (aA 1 .live aE dc)))) (.comp [.b4 .id,.b4 (.mv 1),.b4 (.pC 3)])))))
def Dn (a9:Option cv):Option (Option cv) :=
 a9.elim
 (some (none:(Option cv)))
 fun ef =>
 pM ef.qK >>= fun a6 =>
 some (some (⟨a6,ef.qL⟩:cv))
theorem Vc {a9:Option cv}:b6 (Dn a9) (fun r=>Con bC 64 [(gh 3 bT a9)] [] (gh 3 bT r) []):=by
 unfold Dn
 exact .pu (fun o =>
  .ret (bY [(ag 1),.aH (an 1 (aq (.fX 3 (.fp 3 none) .dO) [])),.ao true,(ag 1)] (.aD (s5 (sz:=3) (f:=bT) o) ch) (.bp (.b4 (.pC 3)))))
  (fun ef o =>
  .aC fun a6 aB =>
  .ret (bY [(ag 1),.aH (an 1 (aq (.fX 3 (.fp 3 (some (bT ef))) .dO) [])),.ao false,.aH (an 1 (aq (.fX 5 (.fp 3 (some (bT ef))) .dO) (an 2 (aq (b3 1 (.agg (aN a6)) false) (bU 1 (.fX 10 (.fp 3 (some (bT ef))) .dO) 5)))))] (.eK (kU (sz:=3) (f:=bT) o) d3 (kU (sz:=3) (f:=bT) o) (B8 a6 aB) (kU (sz:=3) (f:=bT) o) (lC (li (⟨a6,ef.qL⟩:cv)):hs [[.b a6.dg,.isl 1 (a6.cS.map J),.isl 1 (ef.qL.map J)]])) (.bp (.sS [.id,.id,.id]))))
def uX (cy:Option cv):Option (Option cv) :=
 cy >>= fun fM =>
 if (decide ((24:Int)<(len_ J fM.qK.cS)))=true then
  some (none:(Option cv))
 else
  if (decide ((24:Int)<(len_ J fM.qL)))=true then
   some (none:(Option cv))
  else
   some cy
theorem MM {cy:Option cv}:b6 (uX cy) (fun r=>Con bC 50 [(gh 3 bT cy)] [] (gh 3 bT r) []):=by
 unfold uX
 exact .aC fun fM R =>
  (have b0:=((.ay (kU (sz:=3) (f:=bT) R)):c9 _);
  .ite (fun ah =>
  .ret (bY [(ag 1),.aH (an 1 (aq (.fX 3 (.fp 3 (some (bT fM))) .dO) (an 6 (c3 6 (aq (.ao true) []))))),.ao true,(ag 1)] (b0.bb (.hq ah ah ah ah ah ah ah ch)) (.bp (.b4 (.pC 3)))))
  (fun ah =>
  (let t2:List c5:=[(ag 1),.aH (an 1 (aq (.fX 3 (.fp 3 (some (bT fM))) .dO) (an 7 (aq (.fX 11 (.fp 3 (some (bT fM))) .dO) (an 4 (aq (.ao false) []))))))];
  have fK:=b0.bb (.hq ah ah (kU (sz:=3) (f:=bT) R) ah ah ah ah ah);
  .ite (fun aB =>
  .ret (bY (t2.append [.ao true,(ag 1)]) (fK.bb (.ay aB)) (.bp (.b4 (.pC 3)))))
  (fun aB =>
  .ret (bY (t2.append [.ao false,(ag 2)]) (fK.bb (.ay aB)))))))
def uY (a9 a1:Option cv):Option (Option cv) :=
 a9.elim
 (some (none:(Option cv)))
 fun ef =>
 a1.elim
 (some (none:(Option cv)))
 fun pF =>
 xh a9 a1 >>= fun bD =>
 uX bD >>= fun bL =>
 some bL
theorem MN {a9 a1:Option cv}:b6 (uY a9 a1) (fun r=>Con bC 65 [gh 3 bT a9,gh 3 bT a1] [] (gh 3 bT r) []):=by
 unfold uY
 exact .pu (fun o =>
  .ret (bY [(ag 1),.aH (an 1 (aq (.fX 5 (.fp 3 none) .dO) (an 1 (c3 2 (an 1 []))))),.ao true,(ag 1)] (.du (s5 (sz:=3) (f:=bT) o) ch ch ch) (.bp (.b4 (.pC 3)))))
  (fun ef o =>
  (have b0:=((.bV (kU (sz:=3) (f:=bT) o) d3 d3):c9 _);
  .pu (fun ah =>
  .ret (bY [(ag 1),.aH (an 1 (aq (.fX 5 (.fp 3 (some (bT ef))) .dO) (bU 2 (.fX 8 (.fp 3 none) .dO) 1))),.ao true,(ag 1)] (b0.bb (.aD (s5 (sz:=3) (f:=bT) ah) ch)) (.bp (.b4 (.pC 3)))))
  (fun pF ah =>
  .aC fun bD bF =>
  .aC fun bL bx =>
  .ret (bY [(ag 1),.aH (an 1 (aq (.fX 5 (.fp 3 (some (bT ef))) .dO) (bU 2 (.fX 8 (.fp 3 (some (bT pF))) .dO) 1))),.ao false,.aH (an 2 (aq (b3 2 (gh 3 bT bD) false) (aq (b3 1 (gh 3 bT bL) false) (an 1 []))))] (b0.bb (.du (kU (sz:=3) (f:=bT) ah) d3 (LU bD bF) (MM bL bx)))))))
def F8 (cy:List (Option cv))(gl:List dY)(gU:Int):(Int×(List (Option cv)))→S:=fun (iq,ar)=>e1 [(1,.isl 1 (cy.map (d8 3 bT))),(5,.bm 0 0 0 ar.length),(16,.isl 2 (gl.map ek)),(17,.n .i64 gU),(18,.n .i64 iq)] [(av 1 (d8 3 bT) ar)]
def Gc (cy:List (Option cv))(gl:List dY)(gU:Int):(List (Option cv))→e5
 | a=>⟨some 0,[(5,.bm 0 0 0 a.length)],[(av 1 (d8 3 bT) a)]⟩
def wL (cy:List (Option cv))(gl:List dY)(gU iq:Int)(ar:List (Option cv)):Option ((Int×(List (Option cv)))⊕((List (Option cv)))) :=
 if (decide (iq<gU))=true then
  if 0≤iq∧iq<gl.length then
  gl[iq.toNat]? >>= fun aV =>
  if 0≤iq∧iq<cy.length then
  cy[iq.toNat]? >>= fun aF =>
  if (decide (aV.sN<(0:Int)))=true then
   Dn aF >>= fun bA =>
   if 0≤aV.hj∧aV.hj<(ar.length:Nat) then
   ar[(0+aV.hj.toNat)]? >>= fun yT =>
   yT.elim
   (if (0+aV.hj.toNat)<ar.length then
     some (.inl (U (iq+(1:Int)),ar.set (0+aV.hj.toNat) bA))
     else none)
   fun Q6 =>
   uY yT bA >>= fun cA =>
   if (0+aV.hj.toNat)<ar.length then
   some (.inl (U (iq+(1:Int)),ar.set (0+aV.hj.toNat) cA))
   else none
   else none
  else
   if 0≤aV.hj∧aV.hj<(ar.length:Nat) then
   ar[(0+aV.hj.toNat)]? >>= fun j6 =>
   j6.elim
   (if (0+aV.hj.toNat)<ar.length then
     some (.inl (U (iq+(1:Int)),ar.set (0+aV.hj.toNat) aF))
     else none)
   fun Q7 =>
   uY j6 aF >>= fun dG =>
   if (0+aV.hj.toNat)<ar.length then
   some (.inl (U (iq+(1:Int)),ar.set (0+aV.hj.toNat) dG))
   else none
   else none
  else none
  else none
 else
  some (.inr ar)
def Gp (cy:List (Option cv))(gl:List dY)(gU iq:Int)(ar:List (Option cv)):Option ((List (Option cv))):=iter (fun w:Int×(List (Option cv))=>wL cy gl gU w.1 w.2) (iq,ar)
theorem SH {cy:List (Option cv)}{gl:List dY}{gU iq:Int}{ar:List (Option cv)}:b6 (wL cy gl gU iq ar) (fG bC 56 0 38 [1,1,0,1,0,0] (F8 cy gl gU (iq,ar)) (F8 cy gl gU) (Gc cy gl gU)):=by
 unfold wL
 exact .ite (fun o =>
  .bn fun R =>
  .aC fun aV aB =>
  .bn fun aK =>
  .aC fun aF bS =>
  (let t1:List c5:=[(ag 1),.ao true,.aH (bU 2 (.cK (ek aV)) 3),.aH (bU 3 (.cK ((d8 3 bT) aF)) 1),(ag 3)];
  have bg:=((.fu o R.1 (eR ek R.2) (cP ek aB) aK.1 (eR (d8 3 bT) aK.2) (cP (d8 3 bT) bS)):c9 _);
  .ite (fun bx =>
  .aC fun bA dQ =>
  .bn fun dC =>
  .aC fun yT eC =>
  (let t3:List c5:=t1.append [.ao true,.aH (bU 1 (b3 1 (gh 3 bT bA) false) 1)];
  have f7:=bg.bb (.dV bx (Vc bA dQ) dC.1 dC.2 (cP (d8 3 bT) eC));
  .pu (fun eQ =>
  .bn fun hJ =>
  .ret (b5 (t3.append [.aH (an 4 (aq (.cK ((d8 3 bT) yT)) (aq (.fX 36 (.fp 3 none) .dO) []))),.ao true,.aH (an 5 (aq .dO [])),(ag 2),.br [0] [.da (av 1 (d8 3 bT) (ar.set (0+aV.hj.toNat) bA))] [(1,ii),(5,gX ((ar.set (0+aV.hj.toNat) bA).length)),(16,ii),(17,ii),(18,ii)]]) (f7.bb (.bh (s5 (sz:=3) (f:=bT) eQ) ch dC.1 dC.2 (hM (d8 3 bT) hJ) (hr 1) (dF 1 .live (gy (cW (d8 3 bT) ar) (0+aV.hj.toNat) bA)) (aA 1 .live (ns (sz:=3) li) (ar.set (0+aV.hj.toNat) bA)) (.ay (hQ (fO ar) (0+aV.hj.toNat) bA))))))
  (fun Q6 eQ =>
  .aC fun cA fS =>
  .bn fun ku =>
  .ret (b5 (t3.append [.aH (an 4 (aq (.cK ((d8 3 bT) yT)) (aq (.fX 36 (.fp 3 (some (bT Q6))) .dO) []))),.ao false,.aH (an 7 (aq (.cK ((d8 3 bT) yT)) (an 1 (aq (b3 2 (gh 3 bT cA) false) (an 1 (aq .dO [])))))),(ag 2),.br [0] [.da (av 1 (d8 3 bT) (ar.set (0+aV.hj.toNat) cA))] [(1,ii),(5,gX ((ar.set (0+aV.hj.toNat) cA).length)),(16,ii),(17,ii),(18,ii)]]) (f7.bb (.bh (kU (sz:=3) (f:=bT) eQ) d3 dC.1 dC.2 (cP (d8 3 bT) eC) (MN cA fS) dC.1 dC.2 (.dV (hM (d8 3 bT) ku) (hr 1) (dF 1 .live (gy (cW (d8 3 bT) ar) (0+aV.hj.toNat) cA)) (aA 1 .live (ns (sz:=3) li) (ar.set (0+aV.hj.toNat) cA)) (hQ (fO ar) (0+aV.hj.toNat) cA))))))))
  (fun bx =>
  .bn fun dy =>
  .aC fun j6 dC =>
  (have fK:=bg.bb (.du bx dy.1 dy.2 (cP (d8 3 bT) dC));
  .pu (fun fr =>
  .bn fun eQ =>
  .ret (b5 (t1.append [.ao false,.aH (an 4 (aq (.cK ((d8 3 bT) j6)) (aq (.fX 36 (.fp 3 none) .dO) []))),.ao true,.aH (an 5 (aq .dO [])),(ag 2),.br [0] [.da (av 1 (d8 3 bT) (ar.set (0+aV.hj.toNat) aF))] [(1,ii),(5,gX ((ar.set (0+aV.hj.toNat) aF).length)),(16,ii),(17,ii),(18,ii)]]) (fK.bb (.bh (s5 (sz:=3) (f:=bT) fr) ch dy.1 dy.2 (hM (d8 3 bT) eQ) (hr 1) (dF 1 .live (gy (cW (d8 3 bT) ar) (0+aV.hj.toNat) aF)) (aA 1 .live (ns (sz:=3) li) (ar.set (0+aV.hj.toNat) aF)) (.ay (hQ (fO ar) (0+aV.hj.toNat) aF))))))
  (fun Q7 fr =>
  .aC fun dG gk =>
  .bn fun hJ =>
  .ret (b5 (t1.append [.ao false,.aH (an 4 (aq (.cK ((d8 3 bT) j6)) (aq (.fX 36 (.fp 3 (some (bT Q7))) .dO) []))),.ao false,.aH (an 7 (aq (.cK ((d8 3 bT) j6)) (an 1 (aq (b3 2 (gh 3 bT dG) false) (an 1 (aq .dO [])))))),(ag 2),.br [0] [.da (av 1 (d8 3 bT) (ar.set (0+aV.hj.toNat) dG))] [(1,ii),(5,gX ((ar.set (0+aV.hj.toNat) dG).length)),(16,ii),(17,ii),(18,ii)]]) (fK.bb (.bh (kU (sz:=3) (f:=bT) fr) d3 dy.1 dy.2 (cP (d8 3 bT) dC) (MN dG gk) dy.1 dy.2 (.dV (hM (d8 3 bT) hJ) (hr 1) (dF 1 .live (gy (cW (d8 3 bT) ar) (0+aV.hj.toNat) dG)) (aA 1 .live (ns (sz:=3) li) (ar.set (0+aV.hj.toNat) dG)) (hQ (fO ar) (0+aV.hj.toNat) dG))))))))))
  (fun o =>
  .ret (b5 [(ag 1),.ao false,.br [0] [.pure] (b2 [5])] (.aD o (aA 1 .live (ns (sz:=3) li) ar))))
theorem S1 {cy:List (Option cv)}{gl:List dY}{gU iq:Int}{ar:List (Option cv)}{r} (h:Gp cy gl gU iq ar=some r):fH bC 56 0 38 [1,1,0,1,0,0] (F8 cy gl gU) (Gc cy gl gU) (iq,ar) r:=fI (fun _=>SH) h
def zm (aX:ct)(cy:List (Option cv)):Option (List (Option cv)) :=
 if 0≤(len_ cq aX.cx)∧(8:Int)*(len_ cq aX.cx)≤281474976710656∧(len_ cq aX.cx)<9223372036854775808 then
 tp aX >>= fun cH =>
 Gp cy cH (len_ ek cH) 0 (List.replicate (len_ cq aX.cx).toNat (none:(Option cv)):List (Option cv)) >>= fun bP =>
 some bP
 else none
theorem Tr {aX:ct}{cy:List (Option cv)}:b6 (zm aX cy) (fun r=>Con bC 38 [.eB 2 [(hY aX)] 0 0,.isl 1 (cy.map (d8 3 bT))] [] (.isl 1 (r.map (d8 3 bT))) []):=by
 unfold zm
 exact .bn fun o =>
  .aC fun cH ah =>
  .aC fun bP aK =>
  .ret (let bi:=len_ cq aX.cx;let aW:=(List.replicate bi.toNat (none:(Option cv)):List (Option cv));bY [(ag 1),.aH (bU 5 (.cK [(gh 3 bT (none:(Option cv)))]) 1),.aH (bU 1 (b3 1 (.isl 2 (cH.map ek)) false) 2),.br [6] [.da (av 1 (d8 3 bT) aW)] [(1,ii),(5,gX (aW.length)),(16,ii),(17,ii),(18,ii)],(Gc cy cH (len_ ek cH) bP).gr,(ag 2)] (.bh o.1 (Int.le_refl bi) o.2.1 o.2.2 (B6 cH ah) (dF 1 .live (lE (d8 3 bT) bi.toNat (none:(Option cv)))) (aA 1 .live (ns (sz:=3) li) aW) (l3 bi.toNat ((none:(Option cv)):(Option cv))) (.du (S1 aK) (jT (d8 3 bT) bP) (jg (d8 3 bT) bP) (dP (ns (sz:=3) li) bP))) (.bp (.b4 (.ej (bP.map (d8 3 bT))))))
def uw (aX:ct)(yr yi:Int)(fT cT eT:List Int):Option ((List (Option cv))×(List (Option cv))×Bool) :=
 zz yr yi fT cT eT >>= fun ax =>
 if (ax.1 != (0:Int))=true then
  some (([]:List (Option cv)),([]:List (Option cv)),false)
 else
  tp aX >>= fun bP =>
  if 0≤(len_ ek bP) then
  if 0≤(len_ ek bP).toNat∧(len_ ek bP).toNat≤ax.2.1.length then
  zm aX ((ax.2.1.drop 0).take ((len_ ek bP).toNat-0)) >>= fun fQ =>
  if (len_ ek bP).toNat≤ax.2.1.length then
  some (fQ,(ax.2.1.drop ((len_ ek bP).toNat)).take ((ax.2.1.map (d8 3 bT)).length-(len_ ek bP).toNat),true)
  else none
  else none
  else none
theorem SY {aX:ct}{yr yi:Int}{fT cT eT:List Int}:b6 (uw aX yr yi fT cT eT) (fun a=>Con bC 16 [.eB 2 [(hY aX)] 0 0,.agg (fE yr yi 0 0 0 fT.length 1 0 0 cT.length 2 0 0 eT.length)] [(av 1 J fT),(av 1 J cT),(av 1 J eT)] (.dK [.isl 1 (a.1.map (d8 3 bT)),.isl 1 (a.2.1.map (d8 3 bT)),.b a.2.2]) [(av 1 J fT),(av 1 J cT),(av 1 J eT)]):=by
 unfold uw
 exact .aC fun ax R =>
  (let cd:=fE yr yi 1 0 0 fT.length 2 0 0 cT.length 3 0 0 eT.length;let cV:=fE yr yi 0 0 0 fT.length 1 0 0 cT.length 2 0 0 eT.length;let t1:List c5:=[(ag 4),.aH (aq (.call {aM:=(o1 [3,0,1,2]),cM:=[.bt [ab.mk 5 [cd] .live],.pure,.pure,.pure],ac:=[ii],r:= .dK [.n .i64 ax.1,.isl 1 (ax.2.1.map (d8 3 bT)),gh 3 bT ax.2.2],dT:=[[ab.mk 5 [cd] .live],(av 1 J fT),(av 1 J cT),(av 1 J eT)],ff:=ii,fR:=[.bt [ab.mk 5 [cV] .live],.pure,.pure,.pure],dA:=[0,1,2,3],dt:=false}) (an 7 [])),(ag 2)];
  have bg:=((.bh (i1 (o9 [3,0,1,2]) 5 [cd] [cV] rfl) (jt 5 [cV]) (fs 1 aE fT) (fs 1 aE cT) (fs 1 aE eT) (i1 (f8 [3,0,1,2]) 5 [cV] [cd] rfl) (jt 5 [cd]) (fs 1 aE fT) (.bV (fs 1 aE cT) (fs 1 aE eT) (Um ax R))):c9 _);
  .ite (fun ah =>
  .ret (iu (t1.append [.ao true,(ag 3)]) [0,1,2] [.pure,.pure,.pure] (bg.bb (.du ah (aA 1 .live aE fT) (aA 1 .live aE cT) (aA 1 .live aE eT))) (.comp [.b4 (.mv 1),.b4 (.mv 1),.b4 .id])))
  (fun ah =>
  .aC fun bP aK =>
  .bn fun bF =>
  .bn fun bS =>
  .aC fun fQ dy =>
  .bn fun dQ =>
  .ret (let aW:=len_ ek bP;let bi:=cW (d8 3 bT) ax.2.1;iu (t1.append [.ao false,.aH (bU 1 (b3 1 (.isl 2 (bP.map ek)) false) 2),.aH (bU 4 (.call {ac:=[ii,.bp (.b4 (.da (.isl 1 (((ax.2.1.drop 0).take (aW.toNat-0)).map (d8 3 bT)))))],r:= .isl 1 (fQ.map (d8 3 bT)),dt:=false}) 6)]) [0,1,2] [.pure,.pure,.pure] (bg.bb (.bh ah (B6 bP aK) bF bS.1 (hZ bi bS.2) (congrArg (aw.isl 1) (ph bi 0 (aW.toNat-0)):(.isl 1 (((ax.2.1.map (d8 3 bT)).drop 0).take (aW.toNat-0)):aw) = .isl 1 (((ax.2.1.drop 0).take (aW.toNat-0)).map (d8 3 bT))) (Tr fQ dy) bF (.eK (Yo bi▸dQ:aW.toNat≤(ax.2.1.map (d8 3 bT)).length) (Nat.le_refl ((ax.2.1.map (d8 3 bT)).length)) (aA 1 .live aE fT) (aA 1 .live aE cT) (aA 1 .live aE eT) (congrArg (aw.isl 1) (ph bi (aW.toNat) ((ax.2.1.map (d8 3 bT)).length-aW.toNat)):(.isl 1 (((ax.2.1.map (d8 3 bT)).drop (aW.toNat)).take ((ax.2.1.map (d8 3 bT)).length-aW.toNat)):aw) = .isl 1 (((ax.2.1.drop (aW.toNat)).take ((ax.2.1.map (d8 3 bT)).length-aW.toNat)).map (d8 3 bT)))))) (.comp [.b4 .id,.b4 (.da (.isl 1 (((ax.2.1.drop (aW.toNat)).take ((ax.2.1.map (d8 3 bT)).length-aW.toNat)).map (d8 3 bT)))),.b4 .id]))))
def zr (cy:bc):Option bc :=
 if (decide ((60:Int)<(len_ J cy.cS)))=true then
  some (⟨false,([]:List Int)⟩:bc)
 else
  u3 cy.cS >>= fun cH =>
  some (⟨cy.dg,cH⟩:bc)
theorem TF {cy:bc}:b6 (zr cy) (fun r=>Con bC 48 [.agg (aN cy)] [] (.agg (aN r)) []):=by
 unfold zr
 exact .ite (fun o =>
  .ret (bY [(ag 2),(ag 4),.ao true,(ag 2)] (.ay o) (.bp (.agg [.id,.mv 1]))))
  (fun o =>
  .aC fun cH ah =>
  .ret (bY [(ag 2),(ag 4),.ao false,.aH (bU 4 (b3 1 (.isl 1 (cH.map J)) false) 2)] (.aD o (Il cH ah))))
def uP (cy:Option cv):Option gC :=
 cy.elim
 (some (⟨(⟨false,([]:List Int)⟩:bc),([]:List Int)⟩:gC))
 fun ef =>
 zr ef.qK >>= fun a6 =>
 u3 ef.qL >>= fun bD =>
 some (⟨a6,bD⟩:gC)
theorem HR {cy:Option cv}:b6 (uP cy) (fun r=>Con bC 21 [(gh 3 bT cy)] [] (.agg (fZ r)) []):=by
 unfold uP
 exact .pu (fun o =>
  .ret (bY [(ag 1),.aH (an 1 (aq (.fX 3 (.fp 3 none) .dO) [])),.ao true,(ag 2)] (.aD (s5 (sz:=3) (f:=bT) o) ch) (.bp (.agg [.id,.mv 1,.mv 1]))))
  (fun ef o =>
  .aC fun a6 aB =>
  .aC fun bD bF =>
  .ret (bY [(ag 1),.aH (an 1 (aq (.fX 3 (.fp 3 (some (bT ef))) .dO) [])),.ao false,.aH (an 1 (aq (.fX 6 (.fp 3 (some (bT ef))) .dO) (an 2 (aq (b3 1 (.agg (aN a6)) false) (an 1 (aq (.fX 11 (.fp 3 (some (bT ef))) .dO) (bU 2 (b3 1 (.isl 1 (bD.map J)) false) 2)))))))] (.eK (kU (sz:=3) (f:=bT) o) d3 (kU (sz:=3) (f:=bT) o) (TF a6 aB) (kU (sz:=3) (f:=bT) o) (Il bD bF))))
def G6 (e8:List (Option cv))(ez:Int):(Int×(List gC))→S:=fun (en,ar)=>e1 [(4,.bm 0 0 0 ar.length),(10,.isl 1 (e8.map (d8 3 bT))),(11,.n .i64 ez),(12,.n .i64 en)] [(av 3 fZ ar)]
def Hg (e8:List (Option cv))(ez:Int):(((List gC))⊕(Unit))→e5
 | .inl a=>⟨some 0,[(4,.bm 0 0 0 a.length)],[(av 3 fZ a)]⟩
 | .inr a=>⟨none,[(2,.ex),(3,.b false)],[]⟩
def w8 (e8:List (Option cv))(ez en:Int)(ar:List gC):Option ((Int×(List gC))⊕(((List gC))⊕(Unit))) :=
 if (decide (en<ez))=true then
  if 0≤en∧en<e8.length then
  e8[en.toNat]? >>= fun aV =>
  aV.elim
  (some (.inr (.inr ())))
  fun q2 =>
  uP aV >>= fun bL =>
  if 0≤en∧en<(ar.length:Nat) then
  if (0+en.toNat)<ar.length then
  some (.inl (U (en+(1:Int)),ar.set (0+en.toNat) bL))
  else none
  else none
  else none
 else
  some (.inr (.inl ar))
def HM (e8:List (Option cv))(ez en:Int)(ar:List gC):Option (((List gC))⊕(Unit)):=iter (fun w:Int×(List gC)=>w8 e8 ez w.1 w.2) (en,ar)
theorem Ts {e8:List (Option cv)}{ez en:Int}{ar:List gC}:b6 (w8 e8 ez en ar) (fG bC 26 0 18 [1,1,0,1,0,0] (G6 e8 ez (en,ar)) (G6 e8 ez) (Hg e8 ez)):=by
 unfold w8
 exact .ite (fun o =>
  .bn fun R =>
  .aC fun aV aB =>
  (let t1:List c5:=[(ag 1),.ao true,.aH (bU 2 (.cK ((d8 3 bT) aV)) 2)];
  have bg:=((.du o R.1 (eR (d8 3 bT) R.2) (cP (d8 3 bT) aB)):c9 _);
  .pu (fun aK =>
  .ret (b5 (t1.append [.aH (an 1 (aq (.fX 17 (.fp 3 none) .dO) [])),.ao true,(ag 2),.br [] [] (b2 [2,3])]) (bg.bb (.aD (s5 (sz:=3) (f:=bT) aK) ch))))
  (fun q2 aK =>
  .aC fun bL bx =>
  .bn fun dy =>
  .bn fun dQ =>
  .ret (b5 (t1.append [.aH (an 1 (aq (.fX 17 (.fp 3 (some (bT q2))) .dO) [])),.ao false,.aH (an 3 (aq (b3 1 (.agg (fZ bL)) false) (an 1 (aq .dO [])))),(ag 2),.br [0] [.da (av 3 fZ (ar.set (0+en.toNat) bL))] [(4,gX ((ar.set (0+en.toNat) bL).length)),(10,ii),(11,ii),(12,ii)]]) (bg.bb (.bh (kU (sz:=3) (f:=bT) aK) d3 (HR bL bx) dy.1 dy.2 (hM fZ dQ) (hr 3) (dF 3 .live (gy (cW fZ ar) (0+en.toNat) bL)) (.aD (aA 3 .live C5 (ar.set (0+en.toNat) bL)) (hQ (fO ar) (0+en.toNat) bL))))))))
  (fun o =>
  .ret (b5 [(ag 1),.ao false,.br [0] [.pure] (b2 [4])] (.aD o (aA 3 .live C5 ar))))
theorem LX {e8:List (Option cv)}{ez en:Int}{ar:List gC}{r} (h:HM e8 ez en ar=some r):fH bC 26 0 18 [1,1,0,1,0,0] (G6 e8 ez) (Hg e8 ez) (en,ar) r:=fI (fun _=>Ts) h
def zF (dJ:List (Option cv)):Option ((List gC)×Bool) :=
 if 0≤(len_ (d8 3 bT) dJ)∧(56:Int)*(len_ (d8 3 bT) dJ)≤281474976710656∧(len_ (d8 3 bT) dJ)<9223372036854775808 then
 HM dJ (len_ (d8 3 bT) dJ) 0 (List.replicate (len_ (d8 3 bT) dJ).toNat (⟨(⟨false,([]:List Int)⟩:bc),([]:List Int)⟩:gC):List gC) >>= fun cH =>
 match cH with
 | .inl bl=>(some (bl,true))
 | .inr bl=>(some (([]:List gC),false))
 else none
theorem Ux {dJ:List (Option cv)}:b6 (zF dJ) (fun r=>Con bC 18 [.isl 1 (dJ.map (d8 3 bT))] [] (.dK [.isl 3 (r.1.map fZ),.b r.2]) []):=by
 unfold zF
 exact .bn fun o =>
  .aC fun cH ah =>
  (let bi:=len_ (d8 3 bT) dJ;let aW:=(List.replicate bi.toNat (⟨(⟨false,([]:List Int)⟩:bc),([]:List Int)⟩:gC):List gC);let t1:List c5:=[(ag 2),.aH (bU 2 (.cK [.b false,.isl 1 (([]:List Int).map J),.isl 1 (([]:List Int).map J)]) 1),(ag 3),.br [4] [.da (av 3 fZ aW)] [(4,gX (aW.length)),(10,ii),(11,ii),(12,ii)]];
  have bg:=((.fu o.1 (Int.le_refl bi) o.2.1 o.2.2 (dF 3 .live (lE fZ bi.toNat (⟨(⟨false,([]:List Int)⟩:bc),([]:List Int)⟩:gC))) (aA 3 .live C5 aW) (l3 bi.toNat ((⟨(⟨false,([]:List Int)⟩:bc),([]:List Int)⟩:gC):gC))):c9 _);
  (by
  rcases cH with bl|bl
  ·exact (.ret (bY (t1.append [(Hg dJ (len_ (d8 3 bT) dJ) (.inl bl)).gr,(ag 3)]) (bg.bb (.du (LX ah) (jT fZ bl) (jg fZ bl) (dP C5 bl))) (.comp [.b4 (.ej (bl.map fZ)),.b4 .id])))
  ·exact (.ret (bY (t1.append [.sub (.ret) [(2,.ex),(3,.b false)] []]) (bg.bb (.ay (LX ah))) (.comp [.b4 (.mv 3),.b4 .id])))))
def qp (aX:ct)(dl:List Int)(iz:List bu):Option ((List gC)×Bool) :=
 CZ aX dl >>= fun ax =>
 if ax=true then
  tu aX iz >>= fun bP =>
  if bP=true then
   zd aX dl iz >>= fun bL =>
   uw aX bL.1 bL.2.1 bL.2.2.1 bL.2.2.2.1 bL.2.2.2.2 >>= fun bA =>
   if bA.2.2=true then
    zF bA.1 >>= fun cO =>
    some (cO.1,cO.2)
   else
    some (([]:List gC),false)
  else
   some (([]:List gC),false)
 else
  some (([]:List gC),false)
theorem B3 {aX:ct}{dl:List Int}{iz:List bu}:b6 (qp aX dl iz) (fun r=>Con bC 5 [.agg (hY aX),.isl 1 (dl.map J),.isl 4 (iz.map cL)] [] (.dK [.isl 3 (r.1.map fZ),.b r.2]) []):=by
 unfold qp
 exact .aC fun ax R =>
  (have b0:=((.aD (Ut ax R) (cn.b ax)):c9 _);
  .ite (fun ah =>
  .aC fun bP aK =>
  (let t2:List c5:=[(ag 3),.aH (an 2 (aq (b3 2 (.b ax) true) (an 4 (aq (b3 2 (.b bP) true) (an 1 (aq (.ao false) []))))))];
  have fK:=b0.bb (.fu (e3 ah) (e3 ah) (e3 ah) (Hs bP aK) (cn.b bP) (e3 ah) (e3 ah));
  .ite (fun bF =>
  .aC fun bL bx =>
  .aC fun bA dQ =>
  (let aW:=fs 1 aE bL.2.2.2.1;let bi:=fs 1 aE bL.2.2.2.2;let cd:=fs 1 aE bL.2.2.1;let t4:List c5:=t2.append [.ao false,.iW 0,.aH (an 2 (aq (.call {aM:=[],cM:=[],ac:=[.bp (.ptr [.id,.id]),ii,ii],r:= .agg (fE bL.1 bL.2.1 0 0 0 bL.2.2.1.length 0 1 0 bL.2.2.2.1.length 0 2 0 bL.2.2.2.2.length),dT:=[[ab.mk 1 (bL.2.2.1.map J) .live,ab.mk 1 (bL.2.2.2.1.map J) .live,ab.mk 1 (bL.2.2.2.2.map J) .live]],ff:= .bp (.agg [.id,.id,.id,.id,.id]),fR:=[.bt [ab.mk 1 (bL.2.2.1.map J) .live,ab.mk 1 (bL.2.2.2.1.map J) .live,ab.mk 1 (bL.2.2.2.2.map J) .live]],dA:=[0],dt:=true}) (aq (.call {aM:=[.af 15 0 (ab.mk 1 (bL.2.2.1.map J) .live),.af 15 1 (ab.mk 1 (bL.2.2.2.1.map J) .live),.af 15 2 (ab.mk 1 (bL.2.2.2.2.map J) .live)],cM:=[.pure,.pure,.pure],ac:=[.bp (.ptr [.id,.id]),.bp (.agg [.id,.id,.at_ 0 0 bL.2.2.1.length,.at_ 1 0 bL.2.2.2.1.length,.at_ 2 0 bL.2.2.2.2.length])],r:= .dK [.isl 1 (bA.1.map (d8 3 bT)),.isl 1 (bA.2.1.map (d8 3 bT)),.b bA.2.2],dT:=[(av 1 J bL.2.2.1),(av 1 J bL.2.2.2.1),(av 1 J bL.2.2.2.2)],ff:=ii,fR:=[.pure,.pure,.pure],dA:=[0,15],dt:=false}) (an 7 [])))),(ag 2)];
  have lY:=fK.bb (.bh (e3 bF) (lC (qs aX):hs [(hY aX)]) (c4 (dm (f8 [15]) 1 fa bL.2.2.1) (c4 (dm (f8 [15]) 1 fa bL.2.2.2.1) (c4 (dm (f8 [15]) 1 fa bL.2.2.2.2) (ib (bQ:=(f8 [15])))))) ((jh rfl (jh rfl (jh rfl sy))):mj [ab.mk 1 (bL.2.2.1.map J) .live,ab.mk 1 (bL.2.2.2.1.map J) .live,ab.mk 1 (bL.2.2.2.2.map J) .live]) (Sw bL bx) (cn.agg (k1 (cn.n .i64 bL.1) (k1 (cn.n .i64 bL.2.1) (k1 (cn.bm 0 0 0 bL.2.2.1.length) (k1 (cn.bm 0 1 0 bL.2.2.2.1.length) (k1 (cn.bm 0 2 0 bL.2.2.2.2.length) tB)))))) ((xL (nZ (nu rZ) (nZ (nu rZ) (nZ (nu rZ) xV))) xU):rs [[ab.mk 1 (bL.2.2.1.map J) .live,ab.mk 1 (bL.2.2.2.1.map J) .live,ab.mk 1 (bL.2.2.2.2.map J) .live]]) (by decide:0≠1) (.bh (by decide:0≠2) (by decide:1≠2) (lC (qs aX):hs [(hY aX)]) (rfl:lv [.af 15 0 (ab.mk 1 (bL.2.2.1.map J) .live),.af 15 1 (ab.mk 1 (bL.2.2.2.1.map J) .live),.af 15 2 (ab.mk 1 (bL.2.2.2.2.map J) .live)] 0 0=some (15,0)) (rfl:bL.2.2.1.length=bL.2.2.1.length) (rfl:lv [.af 15 0 (ab.mk 1 (bL.2.2.1.map J) .live),.af 15 1 (ab.mk 1 (bL.2.2.2.1.map J) .live),.af 15 2 (ab.mk 1 (bL.2.2.2.2.map J) .live)] 1 0=some (15,1)) (rfl:bL.2.2.2.1.length=bL.2.2.2.1.length) (rfl:lv [.af 15 0 (ab.mk 1 (bL.2.2.1.map J) .live),.af 15 1 (ab.mk 1 (bL.2.2.2.1.map J) .live),.af 15 2 (ab.mk 1 (bL.2.2.2.2.map J) .live)] 2 0=some (15,2)) (.bh (rfl:bL.2.2.2.2.length=bL.2.2.2.2.length) (rfl:de (some [ab.mk 1 (bL.2.2.1.map J) .live,ab.mk 1 (bL.2.2.2.1.map J) .live,ab.mk 1 (bL.2.2.2.2.map J) .live]) 0=some (ab.mk 1 (bL.2.2.1.map J) .live)) cd (rfl:de (some [ab.mk 1 (bL.2.2.1.map J) .live,ab.mk 1 (bL.2.2.2.1.map J) .live,ab.mk 1 (bL.2.2.2.2.map J) .live]) 1=some (ab.mk 1 (bL.2.2.2.1.map J) .live)) aW (rfl:de (some [ab.mk 1 (bL.2.2.1.map J) .live,ab.mk 1 (bL.2.2.2.1.map J) .live,ab.mk 1 (bL.2.2.2.2.map J) .live]) 2=some (ab.mk 1 (bL.2.2.2.2.map J) .live)) bi cd (.bV aW bi (SY bA dQ)))));
  .ite (fun dC =>
  .aC fun cO eC =>
  .ret (bY (t4.append [.ao false,.aH (bU 1 (b3 1 (.dK [.isl 3 (cO.1.map fZ),.b cO.2]) false) 4)]) (lY.bb (.aD (e3 dC) (Ux cO eC)))))
  (fun dC =>
  .ret (bY (t4.append [.ao true,(ag 2)]) (lY.bb (.ay (e6 dC))) (.comp [.b4 (.mv 3),.b4 .id])))))
  (fun bF =>
  .ret (bY (t2.append [.ao true,(ag 2)]) (fK.bb (.ay (e6 bF))) (.comp [.b4 (.mv 3),.b4 .id])))))
  (fun ah =>
  .ret (bY [(ag 3),.aH (an 2 (aq (b3 2 (.b ax) true) (an 2 (c3 4 (aq (.ao true) []))))),.ao true,(ag 2)] (b0.bb (.eK (e6 ah) (e6 ah) (e6 ah) (e6 ah) (e6 ah) ch)) (.comp [.b4 (.mv 3),.b4 .id]))))
def CI (aX:ct)(cm:Int):Option Bool :=
 if (decide ((0:Int)≤cm))=true then
  if (decide (cm<(len_ cq aX.cx)))=true then
   sk aX >>= fun a6 =>
   some a6
  else
   some false
 else
  some false
theorem T1 {aX:ct}{cm:Int}:b6 (CI aX cm) (fun r=>Con bC 25 [.eB 2 [(hY aX)] 0 0,.n .i64 cm] [] (.b r) []):=by
 unfold CI
 exact .ite (fun o =>
  .ite (fun R =>
  .aC fun a6 aB =>
  .ret (bY [(ag 1),.aH (an 10 (aq (.ao true) (an 4 (aq (b3 1 (.b a6) true) (aq (.ao true) (an 1 []))))))] (.bh o o o o o o o o (.fu R R R R (Ci a6 aB) (cn.b a6) R))))
  (fun R =>
  .ret (bY [(ag 1),.aH (an 10 (aq (.ao true) (an 1 (c3 4 (aq (.ao false) (an 1 []))))))] (.bh o o o o o o o o (.dV R R R R R)))))
  (fun o =>
  .ret (bY [(ag 1),.aH (an 3 (c3 7 (aq (.ao false) (an 1 (c3 4 (an 2 []))))))] (.bh o o o o o o o o (.du d3 d3 d3 d3))))
def rS (aX:ct)(cm:Int):Option Int :=
 CI aX cm >>= fun ax =>
 if ax=true then
  mC aX cm >>= fun bP =>
  some bP
 else
  some 0
theorem Cw {aX:ct}{cm:Int}:b6 (rS aX cm) (fun r=>Con bC 10 [.agg (hY aX),.n .i64 cm] [] (.n .i64 r) []):=by
 unfold rS
 exact .aC fun ax R =>
  (let t1:List c5:=[(ag 2),.aH (bU 1 (.call {ac:=[.bp (.ptr [.id,.id]),ii],r:= .b ax,dt:=true,dA:=[0]}) 1)];
  have bg:=((.bV (lC (qs aX):hs [(hY aX)]) (T1 ax R) (cn.b ax)):c9 _);
  .ite (fun ah =>
  .aC fun bP aK =>
  .ret (bY (t1.append [.ao false,.aH (bU 1 (.call {ac:=[.bp (.ptr [.id,.id]),ii],r:= .n .i64 bP,dt:=true,dA:=[0]}) 1)]) (bg.bb (.du (e3 ah) (lC (qs aX):hs [(hY aX)]) (uv bP aK) (cn.n .i64 bP)))))
  (fun ah =>
  .ret (bY (t1.append [.ao true,(ag 1)]) (bg.bb (.ay (e6 ah))))))
def sl (ba:Int):Option gC :=
 st ba >>= fun ax =>
 uP ax >>= fun a6 =>
 some a6
theorem Cp {ba:Int}:b6 (sl ba) (fun r=>Con bC 9 [.n .i64 ba] [] (.agg (fZ r)) []):=by
 unfold sl
 exact .aC fun ax R =>
  .aC fun a6 aB =>
  .ret (bY [(ag 1),.aH (an 1 (aq (b3 1 (gh 3 bT ax) false) (aq (b3 1 (.agg (fZ a6)) false) (an 1 []))))] (.aD (CP ax R) (HR a6 aB)))
def zA (ba:Int):Option Bool :=
 if (decide (ba<(0:Int)))=true then
  some true
 else
  some (decide ((1000000000:Int)≤ba))
theorem Un {ba:Int}:b6 (zA ba) (fun r=>Con bC 55 [.n .i64 ba] [] (.b r) []):=by
 unfold zA
 exact .ite (fun o =>
  .ret (bY [(ag 1),.aH (an 3 (c3 2 (aq (.ao true) (an 1 []))))] (.bV o o o)))
  (fun o =>
  .ret (bY [(ag 1),.aH (bU 5 (.ao false) 1)] (.bV o o o)))
def FI (aX:List Int)(ep:Int):Int→S:=fun eA=>e1 [(0,.isl 1 (aX.map J)),(1,.fn 55 []),(7,.n .i64 ep),(8,.n .i64 eA)] []
def Lr (aX:List Int)(ep:Int):((Unit)⊕(Int))→e5
 | .inl a=>⟨some 0,[],[]⟩
 | .inr a=>⟨none,[(4,.n .i64 a)],[]⟩
def wB (aX:List Int)(ep eA:Int):Option ((Int)⊕((Unit)⊕(Int))) :=
 if (decide (eA<ep))=true then
  if 0≤eA∧eA<aX.length then
  aX[eA.toNat]? >>= fun aV =>
  zA aV >>= fun bD =>
  if bD=true then
   some (.inr (.inr eA))
  else
   some (.inl (U (eA+(1:Int))))
  else none
 else
  some (.inr (.inl ()))
def F9 (aX:List Int)(ep eA:Int):Option ((Unit)⊕(Int)):=iter (fun w:Int=>wB aX ep w) eA
theorem Sk {aX:List Int}{ep eA:Int}:b6 (wB aX ep eA) (fG bC 19 0 77 [1,0,1,0,0] (FI aX ep eA) (FI aX ep) (Lr aX ep)):=by
 unfold wB
 exact .ite (fun o =>
  .bn fun R =>
  .aC fun aV aB =>
  .aC fun bD bF =>
  (let t1:List c5:=[(ag 1),.ao true,(ag 2),.aH (an 4 (aq (.cK (J aV)) (aq (b3 1 (.b bD) true) [])))];
  have bg:=((.eK o R.1 (eR J R.2) (cP J aB) (Un bD bF) (cn.b bD)):c9 _);
  .ite (fun bS =>
  .ret (b5 (t1.append [.ao true,(ag 2),.br [] [] (b2 [4])]) (bg.bb (.ay bS))))
  (fun bS =>
  .ret (b5 (t1.append [.ao false,(ag 2),.br [] [] (b2 [0,1,7,8])]) (bg.bb (.ay bS))))))
  (fun o =>
  .ret (b5 [(ag 1),.ao false,.br [] [] []] (.ay o)))
theorem Ls {aX:List Int}{ep eA:Int}{r} (h:F9 aX ep eA=some r):fH bC 19 0 77 [1,0,1,0,0] (FI aX ep) (Lr aX ep) eA r:=fI (fun _=>Sk) h
def B7 (aX:List Int):Option Int :=
 F9 aX (len_ J aX) 0 >>= fun ax =>
 match ax with
 | .inl bG=>(some (-1))
 | .inr bG=>(some bG)
theorem SO {aX:List Int}:b6 (B7 aX) (fun r=>Con bC 77 [.isl 1 (aX.map J),.fn 55 []] [] (.n .i64 r) []):=by
 unfold B7
 exact .aC fun ax R =>
  (let t1:List c5:=[(ag 1),(ag 3),.br [] [] (b2 [0,1,7,8])];
  (by
  rcases ax with bG|bG
  ·exact (.ret (bY (t1.append [.sub (.exit 0) [] [],(ag 1)]) (.ay (Ls R))))
  ·exact (.ret (bY (t1.append [.sub (.ret) [(4,.n .i64 bG)] []]) (.ay (Ls R))))))
def wM (aX:List Int):Option Bool :=
 B7 aX >>= fun ax =>
 some (decide ((0:Int)≤ax))
theorem Lt {aX:List Int}:b6 (wM aX) (fun r=>Con bC 54 [.isl 1 (aX.map J),.fn 55 []] [] (.b r) []):=by
 unfold wM
 exact .aC fun ax R =>
  .ret (bY [(ag 1),.aH (bU 2 (b3 2 (.n .i64 ax) true) 2)] (.aD (SO ax R) (cn.n .i64 ax)))
def uQ (a9:List Int):Option Bool :=
 if (decide ((60:Int)<(len_ J a9)))=true then
  some false
 else
  if (decide ((0:Int)<(len_ J a9)))=true then
   if 0≤(U ((len_ J a9)-(1:Int)))∧(U ((len_ J a9)-(1:Int)))<a9.length then
   a9[(U ((len_ J a9)-(1:Int))).toNat]? >>= fun f6 =>
   if (f6 == (0:Int))=true then
    some false
   else
    wM a9 >>= fun bL =>
    some (!bL)
   else none
  else
   wM a9 >>= fun a6 =>
   some (!a6)
theorem Mp {a9:List Int}:b6 (uQ a9) (fun r=>Con bC 28 [.isl 1 (a9.map J)] [] (.b r) []):=by
 unfold uQ
 exact .ite (fun o =>
  .ret (bY [(ag 1),.aH (an 4 (c3 4 (an 7 (c3 1 (aq (.ao true) []))))),.ao true,(ag 1)] (.fu o o o o o o ch)))
  (fun o =>
  .ite (fun R =>
  .bn fun ah =>
  .aC fun f6 aK =>
  (let t1:List c5:=[(ag 1),.aH (an 13 (aq (.cK (J f6)) (an 1 (aq (.ao true) (aq (.ao false) [])))))];
  have bg:=((.bh o o o o R R R R (.bh R ah.1 (eR J ah.2) R (cP J aK) R o R (.ay o))):c9 _);
  .ite (fun bF =>
  .ret (bY (t1.append [.ao true,(ag 1)]) (bg.bb (.ay bF))))
  (fun bF =>
  .aC fun bL bx =>
  .ret (bY (t1.append [.ao false,.aH (bU 1 (b3 2 (.b bL) true) 2)]) (bg.bb (.bV bF (Lt bL bx) (cn.b bL)))))))
  (fun R =>
  .aC fun a6 aB =>
  .ret (bY [(ag 1),.aH (an 8 (c3 7 (aq (.ao false) (aq (.ao false) [])))),.ao false,.aH (bU 1 (b3 2 (.b a6) true) 2)] (.bh o o o o R R R R (.bh R R R o R o d3 (Lt a6 aB) (.ay (cn.b a6)))))))
def zt (cy:bc):Option Bool :=
 uQ cy.cS >>= fun ax =>
 if ax=true then
  if cy.dg=true then
   some (!((len_ J cy.cS) == (0:Int)))
  else
   some true
 else
  some false
theorem Ua {cy:bc}:b6 (zt cy) (fun r=>Con bC 27 [.agg (aN cy)] [] (.b r) []):=by
 unfold zt
 exact .aC fun ax R =>
  (have b0:=((.aD (Mp ax R) (cn.b ax)):c9 _);
  .ite (fun ah =>
  .ite (fun aB =>
  .ret (bY [(ag 2),.aH (an 2 (aq (b3 1 (.b ax) true) (an 8 (aq (.ao true) (bU 1 (.ao true) 1)))))] (b0.bb (.bh ah ah ah aB aB aB aB ah (.bV aB ah ah)))))
  (fun aB =>
  .ret (bY [(ag 2),.aH (an 2 (aq (b3 1 (.b ax) true) (an 4 (c3 4 (aq (.ao false) (bU 1 (.ao true) 1))))))] (b0.bb (.bh ah ah ah aB aB aB aB ah (.bV aB ah ah))))))
  (fun ah =>
  .ret (bY [(ag 2),.aH (an 2 (aq (b3 1 (.b ax) true) (an 1 (c3 3 (an 4 (c3 2 (aq (.ao false) (an 1 []))))))))] (b0.bb (.eK ah ah ah ah ah ah)))))
def su (dh:gC):Option Bool :=
 zt dh.fA >>= fun ax =>
 if ax=true then
  uQ dh.b9 >>= fun bP =>
  if bP=true then
   if ((len_ J dh.b9) == (0:Int))=true then
    some false
   else
    if (decide ((24:Int)<(len_ J dh.fA.cS)))=true then
     some false
    else
     if (decide ((24:Int)<(len_ J dh.b9)))=true then
      some false
     else
      xu dh.fA.cS dh.b9 >>= fun hn =>
      pN hn ([1]:List Int) >>= fun cO =>
      some (cO == (0:Int))
  else
   some false
 else
  some false
theorem HS {dh:gC}:b6 (su dh) (fun r=>Con bC 11 [.agg (fZ dh)] [] (.b r) []):=by
 unfold su
 exact .aC fun ax R =>
  (have b0:=((.aD (Ua ax R) (cn.b ax)):c9 _);
  .ite (fun ah =>
  .aC fun bP aK =>
  (have bg:=b0.bb (.fu (e3 ah) (e3 ah) (e3 ah) (Mp bP aK) (cn.b bP) (e3 ah) (e3 ah));
  .ite (fun bF =>
  (have fK:=bg.bb (.dV (e3 bF) (e3 bF) (e3 bF) (e3 bF) (e3 bF));
  .ite (fun bS =>
  .ret (bY [(ag 2),.aH (an 2 (aq (b3 1 (.b ax) true) (an 4 (aq (b3 1 (.b bP) true) (an 1 (aq (.ao false) (an 5 (aq (.ao false) (an 1 (c3 5 (aq (.ao true) (an 1 (c3 4 (an 1 [])))))))))))))),.ao true,(ag 1)] (fK.bb (.bh bS bS bS bS bS bS ch ch (.bV ch ch ch)))))
  (fun bS =>
  .ite (fun bx =>
  .ret (bY [(ag 2),.aH (an 2 (aq (b3 1 (.b ax) true) (an 4 (aq (b3 1 (.b bP) true) (an 1 (aq (.ao false) (an 5 (aq (.ao false) (an 6 (aq (.ao false) (an 1 (c3 4 (aq (.ao true) []))))))))))))),.ao true,(ag 1)] (fK.bb (.bh bS bS bS bS bS bS bx bx (.du bx bx bx ch)))))
  (fun bx =>
  (let t4:List c5:=[(ag 2),.aH (an 2 (aq (b3 1 (.b ax) true) (an 4 (aq (b3 1 (.b bP) true) (an 1 (aq (.ao false) (an 5 (aq (.ao false) (an 6 (aq (.ao false) (an 5 (aq (.ao false) []))))))))))))];
  have lY:=fK.bb (.bh bS bS bS bS bS bS bx bx (.bV bx bx bx));
  .ite (fun dy =>
  .ret (bY (t4.append [.ao true,(ag 1)]) (lY.bb (.ay dy))))
  (fun dy =>
  .aC fun hn dC =>
  .aC fun cO eC =>
  .ret (bY (t4.append [.ao false,.aH (an 5 (aq (b3 2 (.isl 1 (hn.map J)) false) (bU 1 (.call {ac:=[ii,.bp (.b4 (.ej (([1]:List Int).map J)))],r:= .n .i64 cO,dt:=true,dA:=[37]}) 2)))]) (lY.bb (.fu dy (Mb hn dC) (pg (show [[.n .i64 (1:Int)]]=(([1]:List Int)).map J from rfl) (show 1=([1]:List Int).length from rfl)) (m1 J 1) (dP aE ([1]:List Int)) (xg cO eC) (cn.n .i64 cO))))))))))
  (fun bF =>
  .ret (bY [(ag 2),.aH (an 2 (aq (b3 1 (.b ax) true) (an 4 (aq (b3 1 (.b bP) true) (an 1 (aq (.ao false) (an 1 (c3 4 (aq (.ao true) (an 1 (c3 5 (an 2 (c3 4 (an 1 [])))))))))))))),.ao true,(ag 1)] (bg.bb (.bh (e6 bF) (e6 bF) (e6 bF) (e6 bF) (e6 bF) ch ch ch (.fu ch ch ch ch ch ch ch)))))))
  (fun ah =>
  .ret (bY [(ag 2),.aH (an 2 (aq (b3 1 (.b ax) true) (an 2 (c3 4 (aq (.ao true) (an 1 (c3 4 (an 2 (c3 5 (an 2 (c3 4 (an 1 [])))))))))))),.ao true,(ag 1)] (b0.bb (.bh (e6 ah) (e6 ah) (e6 ah) (e6 ah) (e6 ah) ch ch ch (.bh ch ch ch ch ch ch ch ch (.bV ch ch ch)))))))
def zP (dh:gC):Option (Option cv) :=
 su dh >>= fun ax =>
 if ax=true then
  some (some (⟨dh.fA,dh.b9⟩:cv))
 else
  some (none:(Option cv))
theorem Mv {dh:gC}:b6 (zP dh) (fun r=>Con bC 23 [.agg (fZ dh)] [] (gh 3 bT r) []):=by
 unfold zP
 exact .aC fun ax R =>
  (let t1:List c5:=[(ag 2),.aH (bU 1 (b3 1 (.b ax) true) 1)];
  have bg:=((.aD (HS ax R) (cn.b ax)):c9 _);
  .ite (fun ah =>
  .ret (bY (t1.append [.ao false,(ag 7)]) (bg.bb (.aD (e3 ah) (lC (li (⟨dh.fA,dh.b9⟩:cv)):hs [(fZ dh)]))) (.bp (.sS [.id,.id,.id]))))
  (fun ah =>
  .ret (bY (t1.append [.ao true,(ag 1)]) (bg.bb (.ay (e6 ah))) (.bp (.b4 (.pC 3))))))
def Dp (a9 a1:Option cv):Option (Option cv) :=
 a9.elim
 (some (none:(Option cv)))
 fun ef =>
 a1.elim
 (some (none:(Option cv)))
 fun pF =>
 xe a9 a1 >>= fun bD =>
 uX bD >>= fun bL =>
 some bL
theorem Vd {a9 a1:Option cv}:b6 (Dp a9 a1) (fun r=>Con bC 22 [gh 3 bT a9,gh 3 bT a1] [] (gh 3 bT r) []):=by
 unfold Dp
 exact .pu (fun o =>
  .ret (bY [(ag 1),.aH (an 1 (aq (.fX 5 (.fp 3 none) .dO) (an 1 (c3 2 (an 1 []))))),.ao true,(ag 1)] (.du (s5 (sz:=3) (f:=bT) o) ch ch ch) (.bp (.b4 (.pC 3)))))
  (fun ef o =>
  (have b0:=((.bV (kU (sz:=3) (f:=bT) o) d3 d3):c9 _);
  .pu (fun ah =>
  .ret (bY [(ag 1),.aH (an 1 (aq (.fX 5 (.fp 3 (some (bT ef))) .dO) (bU 2 (.fX 8 (.fp 3 none) .dO) 1))),.ao true,(ag 1)] (b0.bb (.aD (s5 (sz:=3) (f:=bT) ah) ch)) (.bp (.b4 (.pC 3)))))
  (fun pF ah =>
  .aC fun bD bF =>
  .aC fun bL bx =>
  .ret (bY [(ag 1),.aH (an 1 (aq (.fX 5 (.fp 3 (some (bT ef))) .dO) (bU 2 (.fX 8 (.fp 3 (some (bT pF))) .dO) 1))),.ao false,.aH (an 2 (aq (b3 2 (gh 3 bT bD) false) (aq (b3 1 (gh 3 bT bL) false) (an 1 []))))] (b0.bb (.du (kU (sz:=3) (f:=bT) ah) d3 (LP bD bF) (MM bL bx)))))))
def ss (dh aX:gC):Option gC :=
 zP dh >>= fun ax =>
 zP aX >>= fun a6 =>
 Dp ax a6 >>= fun bD =>
 uP bD >>= fun bL =>
 some bL
theorem CJ {dh aX:gC}:b6 (ss dh aX) (fun r=>Con bC 8 [.agg (fZ dh),.agg (fZ aX)] [] (.agg (fZ r)) []):=by
 unfold ss
 exact .aC fun ax R =>
  .aC fun a6 aB =>
  .aC fun bD bF =>
  .aC fun bL bx =>
  .ret (bY [(ag 3),.aH (an 1 (aq (b3 1 (gh 3 bT ax) false) (an 1 (aq (b3 1 (gh 3 bT a6) false) (aq (b3 2 (gh 3 bT bD) false) (aq (b3 1 (.agg (fZ bL)) false) (an 1 [])))))))] (.du (Mv ax R) (Mv a6 aB) (Vd bD bF) (HR bL bx)))
def HF (lr lM:List Int)(en:Int):Int→S:=fun cN=>e1 [(0,.isl 1 (lr.map J)),(1,.isl 1 (lM.map J)),(12,.n .i64 en),(13,.n .i64 cN)] []
def Me (lr lM:List Int)(en:Int):((Unit)⊕(Unit))→e5
 | .inl a=>⟨some 0,[],[]⟩
 | .inr a=>⟨none,[(4,.b false)],[]⟩
def xi (lr lM:List Int)(en cN:Int):Option ((Int)⊕((Unit)⊕(Unit))) :=
 if (decide (cN<en))=true then
  if 0≤cN∧cN<lr.length then
  lr[cN.toNat]? >>= fun aV =>
  if 0≤cN∧cN<lM.length then
  lM[cN.toNat]? >>= fun aF =>
  if (aV != aF)=true then
   some (.inr (.inr ()))
  else
   some (.inl (U (cN+(1:Int))))
  else none
  else none
 else
  some (.inr (.inl ()))
def Im (lr lM:List Int)(en cN:Int):Option ((Unit)⊕(Unit)):=iter (fun w:Int=>xi lr lM en w) cN
theorem TX {lr lM:List Int}{en cN:Int}:b6 (xi lr lM en cN) (fG bC 26 0 31 [1,1,0,1,0,0] (HF lr lM en cN) (HF lr lM en) (Me lr lM en)):=by
 unfold xi
 exact .ite (fun o =>
  .bn fun R =>
  .aC fun aV aB =>
  .bn fun aK =>
  .aC fun aF bS =>
  (let t1:List c5:=[(ag 1),.ao true,(ag 2),.aH (an 3 (aq (.cK (J aV)) (bU 3 (.cK (J aF)) 1)))];
  have bg:=((.fu o R.1 (eR J R.2) (cP J aB) aK.1 (eR J aK.2) (cP J bS)):c9 _);
  .ite (fun bx =>
  .ret (b5 (t1.append [.ao true,(ag 1),.br [] [] (b2 [4])]) (bg.bb (.ay bx))))
  (fun bx =>
  .ret (b5 (t1.append [.ao false,(ag 2),.br [] [] (b2 [0,1,12,13])]) (bg.bb (.ay bx))))))
  (fun o =>
  .ret (b5 [(ag 1),.ao false,.br [] [] []] (.ay o)))
theorem Mq {lr lM:List Int}{en cN:Int}{r} (h:Im lr lM en cN=some r):fH bC 26 0 31 [1,1,0,1,0,0] (HF lr lM en) (Me lr lM en) cN r:=fI (fun _=>TX) h
def xX (lr lM:List Int):Option Bool :=
 if ((len_ J lr) != (len_ J lM))=true then
  some false
 else
  Im lr lM (len_ J lr) 0 >>= fun cH =>
  match cH with
  | .inl bl=>(some true)
  | .inr bl=>(some false)
theorem Nf {lr lM:List Int}:b6 (xX lr lM) (fun r=>Con bC 31 [.isl 1 (lr.map J),.isl 1 (lM.map J)] [] (.b r) []):=by
 unfold xX
 exact .ite (fun o =>
  .ret (bY [(ag 1),(ag 5),.ao true,(ag 1)] (.ay o)))
  (fun o =>
  .aC fun cH ah =>
  (let t1:List c5:=[(ag 1),(ag 5),.ao false,(ag 3),.br [] [] (b2 [0,1,12,13])];
  (by
  rcases cH with bl|bl
  ·exact (.ret (bY (t1.append [.sub (.exit 0) [] [],(ag 1)]) (.aD o (Mq ah))))
  ·exact (.ret (bY (t1.append [.sub (.ret) [(4,.b false)] []]) (.aD o (Mq ah)))))))
def uG (dh aX:gC):Option Bool :=
 if (dh.fA.dg == aX.fA.dg)=true then
  xX dh.fA.cS aX.fA.cS >>= fun cH =>
  if cH=true then
   xX dh.b9 aX.b9 >>= fun bD =>
   some bD
  else
   some false
 else
  some false
theorem L1 {dh aX:gC}:b6 (uG dh aX) (fun r=>Con bC 12 [.agg (fZ dh),.agg (fZ aX)] [] (.b r) []):=by
 unfold uG
 exact .ite (fun o =>
  .aC fun cH ah =>
  (have b0:=((.bh o o o o o o o (Nf cH ah) (.aD (cn.b cH) o)):c9 _);
  .ite (fun aB =>
  .aC fun bD bF =>
  .ret (bY [(ag 3),.aH (an 14 (aq (b3 2 (.b cH) true) (aq (.ao true) (an 5 (aq (b3 2 (.b bD) true) (aq (.ao true) (an 1 [])))))))] (b0.bb (.hq aB aB aB aB aB (Nf bD bF) (cn.b bD) aB))))
  (fun aB =>
  .ret (bY [(ag 3),.aH (an 14 (aq (b3 2 (.b cH) true) (aq (.ao true) (an 1 (c3 5 (aq (.ao false) (an 1 [])))))))] (b0.bb (.eK aB aB aB aB aB aB))))))
  (fun o =>
  .ret (bY [(ag 3),.aH (an 8 (c3 7 (aq (.ao false) (an 1 (c3 5 (an 2 []))))))] (.bh o o o o o o o o (.dV d3 d3 d3 d3 d3))))
def F1 (dl:List Int)(dZ:List bu)(ec:Int)(bd:List aT)(aI:List bk):(Int×(List bu))→S:=fun (eE,aj)=>e1 [(1,.isl 1 (dl.map J)),(3,.ref 0 0 0 0),(9,.bm 1 0 0 aj.length),(26,.isl 4 (dZ.map cL)),(27,.n .i64 ec),(28,.n .i64 eE)] [[ab.mk 2 [[.isl 4 (bd.map cu),.isl 3 (aI.map cq)]] .live],(av 4 cL aj)]
def Ga (dl:List Int)(dZ:List bu)(ec:Int)(bd:List aT)(aI:List bk):(List bu)→e5
 | a=>⟨some 0,[(1,.isl 1 (dl.map J)),(3,.ref 0 0 0 0),(9,.bm 1 0 0 a.length)],[[ab.mk 2 [[.isl 4 (bd.map cu),.isl 3 (aI.map cq)]] .live],(av 4 cL a)]⟩
def uu (dl:List Int)(dZ:List bu)(ec:Int)(bd:List aT)(aI:List bk)(eE:Int)(aj:List bu):Option ((Int×(List bu))⊕((List bu))) :=
 if (decide (eE<ec))=true then
  if 0≤eE∧eE<dZ.length then
  dZ[eE.toNat]? >>= fun aV =>
  if 0≤eE∧eE<(aj.length:Nat) then
  if (0+eE.toNat)<aj.length then
  some (.inl (U (eE+(1:Int)),aj.set (0+eE.toNat) (⟨aV.cE,aV.cF,1,1⟩:bu)))
  else none
  else none
  else none
 else
  some (.inr aj)
def Gk (dl:List Int)(dZ:List bu)(ec:Int)(bd:List aT)(aI:List bk)(eE:Int)(aj:List bu):Option ((List bu)):=iter (fun w:Int×(List bu)=>uu dl dZ ec bd aI w.1 w.2) (eE,aj)
theorem SF {dl:List Int}{dZ:List bu}{ec:Int}{bd:List aT}{aI:List bk}{eE:Int}{aj:List bu}:b6 (uu dl dZ ec bd aI eE aj) (fG bC 51 0 7 [1,1,1,0,1,0,0] (F1 dl dZ ec bd aI (eE,aj)) (F1 dl dZ ec bd aI) (Ga dl dZ ec bd aI)):=by
 unfold uu
 exact .ite (fun o =>
  .bn fun R =>
  .aC fun aV aB =>
  .bn fun aK =>
  .bn fun bF =>
  .ret (b5 [(ag 1),.ao true,.aH (bU 2 (.cK (cL aV)) 3),.aH (an 8 (aq .dO [])),(ag 2),.br [0,1] [.box [.id,.id],.da (av 4 cL (aj.set (0+eE.toNat) (⟨aV.cE,aV.cF,1,1⟩:bu)))] [(1,ii),(3,ii),(9,gX ((aj.set (0+eE.toNat) (⟨aV.cE,aV.cF,1,1⟩:bu)).length)),(26,ii),(27,ii),(28,ii)]] (.bh o R.1 (eR cL R.2) (cP cL aB) aK.1 aK.2 (hM cL bF) (hr 4) (.bV (dF 4 .live (gy (cW cL aj) (0+eE.toNat) (⟨aV.cE,aV.cF,1,1⟩:bu))) (aA 4 .live mh (aj.set (0+eE.toNat) (⟨aV.cE,aV.cF,1,1⟩:bu))) (hQ (fO aj) (0+eE.toNat) (⟨aV.cE,aV.cF,1,1⟩:bu))))))
  (fun o =>
  .ret (b5 [(ag 1),.ao false,.br [0,1] [.box [.id,.id],.pure] (b2 [1,3,9])] (.aD o (aA 4 .live mh aj))))
theorem SZ {dl:List Int}{dZ:List bu}{ec:Int}{bd:List aT}{aI:List bk}{eE:Int}{aj:List bu}{r} (h:Gk dl dZ ec bd aI eE aj=some r):fH bC 51 0 7 [1,1,1,0,1,0,0] (F1 dl dZ ec bd aI) (Ga dl dZ ec bd aI) (eE,aj) r:=fI (fun _=>SF) h
def qq (aX:ct)(dl:List Int)(iz:List bu):Option Bool :=
 qp aX dl iz >>= fun ax =>
 if ax.2=true then
  if 0≤(len_ cL iz)∧(32:Int)*(len_ cL iz)≤281474976710656∧(len_ cL iz)<9223372036854775808 then
  Gk dl iz (len_ cL iz) aX.dd aX.cx 0 (List.replicate (len_ cL iz).toNat (⟨0,0,0,0⟩:bu):List bu) >>= fun bD =>
  qp aX dl bD >>= fun bL =>
  some (!bL.2)
  else none
 else
  some false
theorem Cd {aX:ct}{dl:List Int}{iz:List bu}:b6 (qq aX dl iz) (fun r=>Con bC 7 [.agg (hY aX),.isl 1 (dl.map J),.isl 4 (iz.map cL)] [] (.b r) []):=by
 unfold qq
 exact .aC fun ax R =>
  (let t1:List c5:=[(ag 2),.aH (bU 3 (b3 3 (.dK [.isl 3 (ax.1.map fZ),.b ax.2]) false) 5),(ag 2)];
  have bg:=((.ay (B3 ax R)):c9 _);
  .ite (fun ah =>
  .bn fun aB =>
  .aC fun bD bF =>
  .aC fun bL bx =>
  .ret (let bi:=len_ cL iz;let aW:=(List.replicate bi.toNat (⟨0,0,0,0⟩:bu):List bu);bY (t1.append [.ao false,(ag 4),(ag 3),.br [0,15] [.box [.id,.id],.da (av 4 cL aW)] [(1,ii),(3,ii),(9,gX (aW.length)),(26,ii),(27,ii),(28,ii)],(Ga dl iz bi aX.dd aX.cx bD).gr,.iW 1,.aH (bU 3 (.call {ac:=[ii,ii,.bp (.b4 (.ej (bD.map cL)))],r:= .dK [.isl 3 (bL.1.map fZ),.b bL.2],dt:=false,dA:=[1]}) 5),(ag 3)]) (bg.bb (.bh (e3 ah) aB.1 (Int.le_refl bi) aB.2.1 aB.2.2 (dF 4 .live (lE cL bi.toNat (⟨0,0,0,0⟩:bu))) (aA 4 .live mh aW) (l3 bi.toNat ((⟨0,0,0,0⟩:bu):bu)) (.dV (SZ bF) (jT cL bD) (jg cL bD) (dP mh bD) (B3 bL bx))))))
  (fun ah =>
  .ret (bY (t1.append [.ao true,(ag 1)]) (bg.bb (.ay (e6 ah))))))
def C0 (hv:List Int):Option Bool :=
 if (decide ((1048576:Int)<(len_ eU8 hv)))=true then
  some true
 else
  zq hv >>= fun cH =>
  match cH with
  | .inl bl=>(if 0≤(0:Int)∧(0:Int)<(1:Nat) then
   bl.2.2.2[0]? >>= fun aF =>
   if 0+4≤bl.1.length then
   if 0+8≤bl.2.2.1.length then
   if 0+1≤(bl.2.2.2.set 0 (⟨aF.cE,aF.cF,aF.b9,aF.b9⟩:bu)).length then
   qp (⟨(bl.1.drop 0).take 4,bl.2.1⟩:ct) ((bl.2.2.1.drop 0).take 8) (((bl.2.2.2.set 0 (⟨aF.cE,aF.cF,aF.b9,aF.b9⟩:bu)).drop 0).take 1) >>= fun eU =>
   if eU.2=true then
    if ((len_ fZ eU.1) != ((bl.2.1.length:Nat):Int))=true then
     some false
    else
     if 0≤(0:Int)∧(0:Int)<eU.1.length then
     eU.1[0]? >>= fun kH =>
     rS (⟨(bl.1.drop 0).take 4,bl.2.1⟩:ct) 0 >>= fun dU =>
     sl dU >>= fun iF =>
     ss kH iF >>= fun pw =>
     if 0≤(1:Int)∧(1:Int)<eU.1.length then
     eU.1[1]? >>= fun Bl =>
     rS (⟨(bl.1.drop 0).take 4,bl.2.1⟩:ct) 1 >>= fun vO =>
     sl vO >>= fun yU =>
     ss Bl yU >>= fun yV =>
     su pw >>= fun tb =>
     if tb=true then
      uG pw yV >>= fun ua =>
      if ua=true then
       qq (⟨(bl.1.drop 0).take 4,bl.2.1⟩:ct) ((bl.2.2.1.drop 0).take 8) (((bl.2.2.2.set 0 (⟨aF.cE,aF.cF,aF.b9,aF.b9⟩:bu)).drop 0).take 1) >>= fun vP =>
       some (!vP)
      else
       some false
     else
      some false
     else none
     else none
   else
    tu (⟨(bl.1.drop 0).take 4,bl.2.1⟩:ct) (((bl.2.2.2.set 0 (⟨aF.cE,aF.cF,aF.b9,aF.b9⟩:bu)).drop 0).take 1) >>= fun dG =>
    if dG=true then
     qq (⟨(bl.1.drop 0).take 4,bl.2.1⟩:ct) ((bl.2.2.1.drop 0).take 8) (((bl.2.2.2.set 0 (⟨aF.cE,aF.cF,aF.b9,aF.b9⟩:bu)).drop 0).take 1) >>= fun fB =>
     some (!fB)
    else
     some false
   else none
   else none
   else none
   else none)
  | .inr bl=>(if 0≤(0:Int)∧(0:Int)<(1:Nat) then
   bl.2.2.2[0]? >>= fun aF =>
   if 0+4≤bl.1.length then
   if 0+2≤bl.2.1.length then
   if 0+8≤bl.2.2.1.length then
   if 0+1≤(bl.2.2.2.set 0 (⟨aF.cE,aF.cF,aF.b9,aF.b9⟩:bu)).length then
   qp (⟨(bl.1.drop 0).take 4,(bl.2.1.drop 0).take 2⟩:ct) ((bl.2.2.1.drop 0).take 8) (((bl.2.2.2.set 0 (⟨aF.cE,aF.cF,aF.b9,aF.b9⟩:bu)).drop 0).take 1) >>= fun cO =>
   if cO.2=true then
    if ((len_ fZ cO.1) != (2:Int))=true then
     some false
    else
     if 0≤(0:Int)∧(0:Int)<cO.1.length then
     cO.1[0]? >>= fun Ks =>
     rS (⟨(bl.1.drop 0).take 4,(bl.2.1.drop 0).take 2⟩:ct) 0 >>= fun fw =>
     sl fw >>= fun hl =>
     ss Ks hl >>= fun ng =>
     if 0≤(1:Int)∧(1:Int)<cO.1.length then
     cO.1[1]? >>= fun Kt =>
     rS (⟨(bl.1.drop 0).take 4,(bl.2.1.drop 0).take 2⟩:ct) 1 >>= fun jr =>
     sl jr >>= fun EK =>
     ss Kt EK >>= fun EL =>
     su ng >>= fun vQ =>
     if vQ=true then
      uG ng EL >>= fun yW =>
      if yW=true then
       qq (⟨(bl.1.drop 0).take 4,(bl.2.1.drop 0).take 2⟩:ct) ((bl.2.2.1.drop 0).take 8) (((bl.2.2.2.set 0 (⟨aF.cE,aF.cF,aF.b9,aF.b9⟩:bu)).drop 0).take 1) >>= fun Bm =>
       some (!Bm)
      else
       some false
     else
      some false
     else none
     else none
   else
    tu (⟨(bl.1.drop 0).take 4,(bl.2.1.drop 0).take 2⟩:ct) (((bl.2.2.2.set 0 (⟨aF.cE,aF.cF,aF.b9,aF.b9⟩:bu)).drop 0).take 1) >>= fun d2 =>
    if d2=true then
     qq (⟨(bl.1.drop 0).take 4,(bl.2.1.drop 0).take 2⟩:ct) ((bl.2.2.1.drop 0).take 8) (((bl.2.2.2.set 0 (⟨aF.cE,aF.cF,aF.b9,aF.b9⟩:bu)).drop 0).take 1) >>= fun dU =>
     some (!dU)
    else
     some false
   else none
   else none
   else none
   else none
   else none)
set_option maxHeartbeats 4000000 in
theorem Uy {hv:List Int}:b6 (C0 hv) (fun r=>Con bC 3 [.isl 1 (hv.map eU8)] [] (.b r) []):=by
 unfold C0
 exact .ite (fun o =>
  .ret (bY [(ag 1),(ag 3),.ao true,(ag 1)] (.ay o)))
  (fun o =>
  .aC fun cH ah =>
  (let t1:List c5:=[(ag 1),(ag 3),.ao false];
  (by
  rcases cH with bl|bl
  ·exact (.bn fun aK =>
  .aC fun aF bS =>
  .bn fun bx =>
  .bn fun dy =>
  .bn fun dQ =>
  .aC fun eU fr =>
  (let gR:=(lD (cW cL bl.2.2.2) 0 (⟨aF.cE,aF.cF,aF.b9,aF.b9⟩:bu) (rfl:(setCells (cL aF) 2 [.n .i64 aF.b9])=cL (⟨aF.cE,aF.cF,aF.b9,aF.b9⟩:bu)));let e2:=cP cL bS;let t2:List c5:=t1.append [.aH (bU 1 (.call {aM:=[],cM:=[],ac:=[ii],r:= .dK [.agg [.bm 0 0 0 4,.bm 0 1 0 bl.2.1.length],.bm 0 2 0 8,.bm 0 3 0 1],dT:=[[ab.mk 4 (bl.1.map cu) .live,ab.mk 3 (bl.2.1.map cq) .live,ab.mk 1 (bl.2.2.1.map J) .live,ab.mk 4 (bl.2.2.2.map cL) .live]],ff:= .comp [.agg [.id,.id],.b4 .id,.b4 .id],fR:=[.bt [ab.mk 4 (bl.1.map cu) .live,ab.mk 3 (bl.2.1.map cq) .live,ab.mk 1 (bl.2.2.1.map J) .live,ab.mk 4 (bl.2.2.2.map cL) .live]],dA:=[],dt:=true}) 8),.aH (an 3 (aq (.cK (cL aF)) (aq (.cK (cL aF)) (an 1 (aq (.cK (cL aF)) (aq (.cK (cL aF)) [])))))),.iW 5,.aH (bU 3 (.call {ac:=[.bp (.agg [.ej (((bl.1.drop 0).take 4).map cu),.ej (bl.2.1.map cq)]),.bp (.b4 (.ej (((bl.2.2.1.drop 0).take 8).map J))),.bp (.b4 (.ej ((((bl.2.2.2.set 0 (⟨aF.cE,aF.cF,aF.b9,aF.b9⟩:bu)).drop 0).take 1).map cL)))],r:= .dK [.isl 3 (eU.1.map fZ),.b eU.2],dt:=false,dA:=[5]}) 5),(ag 2)];
  have fK:=((.bh o (c4 (dm (f8 [5]) 4 pe bl.1) (c4 (dm (f8 [5]) 3 pd bl.2.1) (c4 (dm (f8 [5]) 1 fa bl.2.2.1) (c4 (dm (f8 [5]) 4 pf bl.2.2.2) (ib (bQ:=(f8 [5]))))))) ((jh rfl (jh rfl (jh rfl (jh rfl sy)))):mj [ab.mk 4 (bl.1.map cu) .live,ab.mk 3 (bl.2.1.map cq) .live,ab.mk 1 (bl.2.2.1.map J) .live,ab.mk 4 (bl.2.2.2.map cL) .live]) (LG (.inl bl) ah) (DP (k1 (cn.agg (k1 (cn.bm 0 0 0 4) (k1 (cn.bm 0 1 0 bl.2.1.length) tB))) (k1 (cn.bm 0 2 0 8) (k1 (cn.bm 0 3 0 1) tB)))) ((xL (nZ (nu Nc) (nZ (nu ML) (nZ (nu rZ) (nZ (nu Nd) xV)))) xU):rs [[ab.mk 4 (bl.1.map cu) .live,ab.mk 3 (bl.2.1.map cq) .live,ab.mk 1 (bl.2.2.1.map J) .live,ab.mk 4 (bl.2.2.2.map cL) .live]]) aK.1 aK.2 (.bh e2 e2 aK.1 aK.2 e2 e2 (iO (cW cu bl.1) 0 4) (hZ (cW cu bl.1) bx) (.bh (dP l1 ((bl.1.drop 0).take 4)) (jT cq bl.2.1) (jg cq bl.2.1) (dP l0 bl.2.1) (iO (cW J bl.2.2.1) 0 8) (hZ (cW J bl.2.2.1) dy) (dP aE ((bl.2.2.1.drop 0).take 8)) (iO gR 0 1) (.bV (hZ gR dQ) (dP mh (((bl.2.2.2.set 0 (⟨aF.cE,aF.cF,aF.b9,aF.b9⟩:bu)).drop 0).take 1)) (B3 eU fr))))):c9 _);
  .ite (fun eC =>
  .ite (fun eQ =>
  .ret (bY (t2.append [.ao false,(ag 6),.ao true,(ag 1)]) (fK.bb (.aD (e3 eC) eQ))))
  (fun eQ =>
  .bn fun gk =>
  .aC fun kH fS =>
  .aC fun dU kf =>
  .aC fun iF nO =>
  .aC fun pw lx =>
  .bn fun qV =>
  .aC fun Bl vH =>
  .aC fun vO o3 =>
  .aC fun yU j5 =>
  .aC fun yV ni =>
  .aC fun tb Kn =>
  (let dX:=cW cu bl.1;let t4:List c5:=t2.append [.ao false,(ag 6),.ao false,.aH (an 2 (aq (.cK (fZ kH)) (an 1 (aq (.call {ac:=[.bp (.agg [.ej (((bl.1.drop 0).take 4).map cu),.ej (bl.2.1.map cq)]),ii],r:= .n .i64 dU,dt:=true,dA:=[5]}) (aq (b3 1 (.agg (fZ iF)) false) (aq (b3 2 (.agg (fZ pw)) false) (an 2 []))))))),.aH (an 2 (aq (.cK (fZ Bl)) (an 1 (aq (.call {ac:=[.bp (.agg [.ej (((bl.1.drop 0).take 4).map cu),.ej (bl.2.1.map cq)]),ii],r:= .n .i64 vO,dt:=true,dA:=[5]}) (aq (b3 1 (.agg (fZ yU)) false) (aq (b3 2 (.agg (fZ yV)) false) (an 2 [])))))))];
  have lY:=fK.bb (.bh (e3 eC) eQ gk.1 (eR fZ gk.2) (cP fZ fS) (iO dX 0 4) (hZ dX bx) (dP l1 ((bl.1.drop 0).take 4)) (.bh (jT cq bl.2.1) (jg cq bl.2.1) (dP l0 bl.2.1) (Cw dU kf) (cn.n .i64 dU) (Cp iF nO) (CJ pw lx) qV.1 (.bh (eR fZ qV.2) (cP fZ vH) (iO dX 0 4) (hZ dX bx) (dP l1 ((bl.1.drop 0).take 4)) (jT cq bl.2.1) (jg cq bl.2.1) (dP l0 bl.2.1) (.eK (Cw vO o3) (cn.n .i64 vO) (Cp yU j5) (CJ yV ni) (HS tb Kn) (cn.b tb)))));
  .ite (fun px =>
  .aC fun ua Ko =>
  (have kc:=lY.bb (.eK px px px (L1 ua Ko) (cn.b ua) px);
  .ite (fun mU =>
  .aC fun vP aaY =>
  .ret (let aW:=(lD (cW cL bl.2.2.2) 0 (⟨aF.cE,aF.cF,aF.b9,aF.b9⟩:bu) (rfl:(setCells (cL aF) 2 [.n .i64 aF.b9])=cL (⟨aF.cE,aF.cF,aF.b9,aF.b9⟩:bu)));bY (t4.append [.aH (an 1 (aq (b3 1 (.b tb) true) (an 3 (aq (b3 2 (.b ua) true) (aq (.ao true) (an 4 (aq (.call {ac:=[.bp (.agg [.ej (((bl.1.drop 0).take 4).map cu),.ej (bl.2.1.map cq)]),.bp (.b4 (.ej (((bl.2.2.1.drop 0).take 8).map J))),.bp (.b4 (.ej ((((bl.2.2.2.set 0 (⟨aF.cE,aF.cF,aF.b9,aF.b9⟩:bu)).drop 0).take 1).map cL)))],r:= .b vP,dt:=true,dA:=[5]}) (bU 1 (.ao true) 1))))))))]) (kc.bb (.bh mU mU mU mU (iO (cW cu bl.1) 0 4) (hZ (cW cu bl.1) bx) (dP l1 ((bl.1.drop 0).take 4)) (jT cq bl.2.1) (.bh (jg cq bl.2.1) (dP l0 bl.2.1) (iO (cW J bl.2.2.1) 0 8) (hZ (cW J bl.2.2.1) dy) (dP aE ((bl.2.2.1.drop 0).take 8)) (iO aW 0 1) (hZ aW dQ) (dP mh (((bl.2.2.2.set 0 (⟨aF.cE,aF.cF,aF.b9,aF.b9⟩:bu)).drop 0).take 1)) (.du (Cd vP aaY) (cn.b vP) mU mU))))))
  (fun mU =>
  .ret (bY (t4.append [.aH (an 1 (aq (b3 1 (.b tb) true) (an 3 (aq (b3 2 (.b ua) true) (aq (.ao true) (an 1 (c3 5 (aq (.ao false) (an 1 [])))))))))]) (kc.bb (.eK mU mU mU mU mU mU))))))
  (fun px =>
  .ret (bY (t4.append [.aH (an 1 (aq (b3 1 (.b tb) true) (an 1 (c3 3 (aq (.ao false) (an 1 (c3 5 (an 2 []))))))))]) (lY.bb (.bh px px px px d3 d3 d3 d3 (.ay d3))))))))
  (fun eC =>
  .aC fun dG gk =>
  (let fD:=(lD (cW cL bl.2.2.2) 0 (⟨aF.cE,aF.cF,aF.b9,aF.b9⟩:bu) (rfl:(setCells (cL aF) 2 [.n .i64 aF.b9])=cL (⟨aF.cE,aF.cF,aF.b9,aF.b9⟩:bu)));have f7:=fK.bb (.bh (e6 eC) (iO (cW cu bl.1) 0 4) (hZ (cW cu bl.1) bx) (dP l1 ((bl.1.drop 0).take 4)) (jT cq bl.2.1) (jg cq bl.2.1) (dP l0 bl.2.1) (iO fD 0 1) (.du (hZ fD dQ) (dP mh (((bl.2.2.2.set 0 (⟨aF.cE,aF.cF,aF.b9,aF.b9⟩:bu)).drop 0).take 1)) (Hs dG gk) (cn.b dG)));
  .ite (fun hJ =>
  .aC fun fB ku =>
  .ret (let bi:=(lD (cW cL bl.2.2.2) 0 (⟨aF.cE,aF.cF,aF.b9,aF.b9⟩:bu) (rfl:(setCells (cL aF) 2 [.n .i64 aF.b9])=cL (⟨aF.cE,aF.cF,aF.b9,aF.b9⟩:bu)));bY (t2.append [.ao true,.aH (an 2 (aq (.call {ac:=[.bp (.agg [.ej (((bl.1.drop 0).take 4).map cu),.ej (bl.2.1.map cq)]),.bp (.b4 (.ej ((((bl.2.2.2.set 0 (⟨aF.cE,aF.cF,aF.b9,aF.b9⟩:bu)).drop 0).take 1).map cL)))],r:= .b dG,dt:=true,dA:=[5]}) (an 4 (aq (.call {ac:=[.bp (.agg [.ej (((bl.1.drop 0).take 4).map cu),.ej (bl.2.1.map cq)]),.bp (.b4 (.ej (((bl.2.2.1.drop 0).take 8).map J))),.bp (.b4 (.ej ((((bl.2.2.2.set 0 (⟨aF.cE,aF.cF,aF.b9,aF.b9⟩:bu)).drop 0).take 1).map cL)))],r:= .b fB,dt:=true,dA:=[5]}) (bU 1 (.ao true) 1)))))]) (f7.bb (.bh hJ hJ hJ hJ (iO (cW cu bl.1) 0 4) (hZ (cW cu bl.1) bx) (dP l1 ((bl.1.drop 0).take 4)) (jT cq bl.2.1) (.bh (jg cq bl.2.1) (dP l0 bl.2.1) (iO (cW J bl.2.2.1) 0 8) (hZ (cW J bl.2.2.1) dy) (dP aE ((bl.2.2.1.drop 0).take 8)) (iO bi 0 1) (hZ bi dQ) (dP mh (((bl.2.2.2.set 0 (⟨aF.cE,aF.cF,aF.b9,aF.b9⟩:bu)).drop 0).take 1)) (.du (Cd fB ku) (cn.b fB) hJ hJ))))))
  (fun hJ =>
  .ret (bY (t2.append [.ao true,.aH (an 2 (aq (.call {ac:=[.bp (.agg [.ej (((bl.1.drop 0).take 4).map cu),.ej (bl.2.1.map cq)]),.bp (.b4 (.ej ((((bl.2.2.2.set 0 (⟨aF.cE,aF.cF,aF.b9,aF.b9⟩:bu)).drop 0).take 1).map cL)))],r:= .b dG,dt:=true,dA:=[5]}) (an 1 (c3 5 (aq (.ao false) (an 1 []))))))]) (f7.bb (.eK hJ hJ hJ hJ hJ hJ))))))))
  ·exact (.bn fun aK =>
  .aC fun aF bS =>
  .bn fun bx =>
  .bn fun dy =>
  .bn fun dQ =>
  .bn fun dC =>
  .aC fun cO eC =>
  (let jA:=(lD (cW cL bl.2.2.2) 0 (⟨aF.cE,aF.cF,aF.b9,aF.b9⟩:bu) (rfl:(setCells (cL aF) 2 [.n .i64 aF.b9])=cL (⟨aF.cE,aF.cF,aF.b9,aF.b9⟩:bu)));let mc:=cP cL bS;let t2:List c5:=t1.append [.aH (bU 1 (.call {aM:=[],cM:=[],ac:=[ii],r:= .dK [.agg [.bm 0 0 0 4,.bm 0 1 0 2],.bm 0 2 0 8,.bm 0 3 0 1],dT:=[[ab.mk 4 (bl.1.map cu) .live,ab.mk 3 (bl.2.1.map cq) .live,ab.mk 1 (bl.2.2.1.map J) .live,ab.mk 4 (bl.2.2.2.map cL) .live]],ff:= .comp [.agg [.id,.id],.b4 .id,.b4 .id],fR:=[.bt [ab.mk 4 (bl.1.map cu) .live,ab.mk 3 (bl.2.1.map cq) .live,ab.mk 1 (bl.2.2.1.map J) .live,ab.mk 4 (bl.2.2.2.map cL) .live]],dA:=[],dt:=true}) 8),.aH (an 3 (aq (.cK (cL aF)) (aq (.cK (cL aF)) (an 1 (aq (.cK (cL aF)) (aq (.cK (cL aF)) [])))))),.iW 5,.aH (bU 3 (.call {ac:=[.bp (.agg [.ej (((bl.1.drop 0).take 4).map cu),.ej (((bl.2.1.drop 0).take 2).map cq)]),.bp (.b4 (.ej (((bl.2.2.1.drop 0).take 8).map J))),.bp (.b4 (.ej ((((bl.2.2.2.set 0 (⟨aF.cE,aF.cF,aF.b9,aF.b9⟩:bu)).drop 0).take 1).map cL)))],r:= .dK [.isl 3 (cO.1.map fZ),.b cO.2],dt:=false,dA:=[5]}) 5),(ag 2)];
  have fK:=((.bh o (c4 (dm (f8 [5]) 4 pe bl.1) (c4 (dm (f8 [5]) 3 pd bl.2.1) (c4 (dm (f8 [5]) 1 fa bl.2.2.1) (c4 (dm (f8 [5]) 4 pf bl.2.2.2) (ib (bQ:=(f8 [5]))))))) ((jh rfl (jh rfl (jh rfl (jh rfl sy)))):mj [ab.mk 4 (bl.1.map cu) .live,ab.mk 3 (bl.2.1.map cq) .live,ab.mk 1 (bl.2.2.1.map J) .live,ab.mk 4 (bl.2.2.2.map cL) .live]) (LG (.inr bl) ah) (DP (k1 (cn.agg (k1 (cn.bm 0 0 0 4) (k1 (cn.bm 0 1 0 2) tB))) (k1 (cn.bm 0 2 0 8) (k1 (cn.bm 0 3 0 1) tB)))) ((xL (nZ (nu Nc) (nZ (nu ML) (nZ (nu rZ) (nZ (nu Nd) xV)))) xU):rs [[ab.mk 4 (bl.1.map cu) .live,ab.mk 3 (bl.2.1.map cq) .live,ab.mk 1 (bl.2.2.1.map J) .live,ab.mk 4 (bl.2.2.2.map cL) .live]]) aK.1 aK.2 (.bh mc mc aK.1 aK.2 mc mc (iO (cW cu bl.1) 0 4) (hZ (cW cu bl.1) bx) (.bh (dP l1 ((bl.1.drop 0).take 4)) (iO (cW cq bl.2.1) 0 2) (hZ (cW cq bl.2.1) dy) (dP l0 ((bl.2.1.drop 0).take 2)) (iO (cW J bl.2.2.1) 0 8) (hZ (cW J bl.2.2.1) dQ) (dP aE ((bl.2.2.1.drop 0).take 8)) (iO jA 0 1) (.bV (hZ jA dC) (dP mh (((bl.2.2.2.set 0 (⟨aF.cE,aF.cF,aF.b9,aF.b9⟩:bu)).drop 0).take 1)) (B3 cO eC))))):c9 _);
  .ite (fun eQ =>
  .ite (fun gk =>
  .ret (bY (t2.append [.ao false,(ag 6),.ao true,(ag 1)]) (fK.bb (.aD (e3 eQ) gk))))
  (fun gk =>
  .bn fun hJ =>
  .aC fun Ks ku =>
  .aC fun fw kV =>
  .aC fun hl jc =>
  .aC fun ng qV =>
  .bn fun nh =>
  .aC fun Kt mr =>
  .aC fun jr ly =>
  .aC fun EK gK =>
  .aC fun EL aaZ =>
  .aC fun vQ px =>
  (let hy:=cW cq bl.2.1;let hT:=cW cu bl.1;let t4:List c5:=t2.append [.ao false,(ag 6),.ao false,.aH (an 2 (aq (.cK (fZ Ks)) (an 1 (aq (.call {ac:=[.bp (.agg [.ej (((bl.1.drop 0).take 4).map cu),.ej (((bl.2.1.drop 0).take 2).map cq)]),ii],r:= .n .i64 fw,dt:=true,dA:=[5]}) (aq (b3 1 (.agg (fZ hl)) false) (aq (b3 2 (.agg (fZ ng)) false) (an 2 []))))))),.aH (an 2 (aq (.cK (fZ Kt)) (an 1 (aq (.call {ac:=[.bp (.agg [.ej (((bl.1.drop 0).take 4).map cu),.ej (((bl.2.1.drop 0).take 2).map cq)]),ii],r:= .n .i64 jr,dt:=true,dA:=[5]}) (aq (b3 1 (.agg (fZ EK)) false) (aq (b3 2 (.agg (fZ EL)) false) (an 2 [])))))))];
  have lY:=fK.bb (.bh (e3 eQ) gk hJ.1 (eR fZ hJ.2) (cP fZ ku) (iO hT 0 4) (hZ hT bx) (dP l1 ((bl.1.drop 0).take 4)) (.bh (iO hy 0 2) (hZ hy dy) (dP l0 ((bl.2.1.drop 0).take 2)) (Cw fw kV) (cn.n .i64 fw) (Cp hl jc) (CJ ng qV) nh.1 (.bh (eR fZ nh.2) (cP fZ mr) (iO hT 0 4) (hZ hT bx) (dP l1 ((bl.1.drop 0).take 4)) (iO hy 0 2) (hZ hy dy) (dP l0 ((bl.2.1.drop 0).take 2)) (.eK (Cw jr ly) (cn.n .i64 jr) (Cp EK gK) (CJ EL aaZ) (HS vQ px) (cn.b vQ)))));
  .ite (fun tc =>
  .aC fun yW mU =>
  (have kc:=lY.bb (.eK tc tc tc (L1 yW mU) (cn.b yW) tc);
  .ite (fun qf =>
  .aC fun Bm aa0 =>
  .ret (let cd:=(lD (cW cL bl.2.2.2) 0 (⟨aF.cE,aF.cF,aF.b9,aF.b9⟩:bu) (rfl:(setCells (cL aF) 2 [.n .i64 aF.b9])=cL (⟨aF.cE,aF.cF,aF.b9,aF.b9⟩:bu)));bY (t4.append [.aH (an 1 (aq (b3 1 (.b vQ) true) (an 3 (aq (b3 2 (.b yW) true) (aq (.ao true) (an 4 (aq (.call {ac:=[.bp (.agg [.ej (((bl.1.drop 0).take 4).map cu),.ej (((bl.2.1.drop 0).take 2).map cq)]),.bp (.b4 (.ej (((bl.2.2.1.drop 0).take 8).map J))),.bp (.b4 (.ej ((((bl.2.2.2.set 0 (⟨aF.cE,aF.cF,aF.b9,aF.b9⟩:bu)).drop 0).take 1).map cL)))],r:= .b Bm,dt:=true,dA:=[5]}) (bU 1 (.ao true) 1))))))))]) (kc.bb (.bh qf qf qf qf (iO (cW cu bl.1) 0 4) (hZ (cW cu bl.1) bx) (dP l1 ((bl.1.drop 0).take 4)) (iO (cW cq bl.2.1) 0 2) (.bh (hZ (cW cq bl.2.1) dy) (dP l0 ((bl.2.1.drop 0).take 2)) (iO (cW J bl.2.2.1) 0 8) (hZ (cW J bl.2.2.1) dQ) (dP aE ((bl.2.2.1.drop 0).take 8)) (iO cd 0 1) (hZ cd dC) (dP mh (((bl.2.2.2.set 0 (⟨aF.cE,aF.cF,aF.b9,aF.b9⟩:bu)).drop 0).take 1)) (.du (Cd Bm aa0) (cn.b Bm) qf qf))))))
  (fun qf =>
  .ret (bY (t4.append [.aH (an 1 (aq (b3 1 (.b vQ) true) (an 3 (aq (b3 2 (.b yW) true) (aq (.ao true) (an 1 (c3 5 (aq (.ao false) (an 1 [])))))))))]) (kc.bb (.eK qf qf qf qf qf qf))))))
  (fun tc =>
  .ret (bY (t4.append [.aH (an 1 (aq (b3 1 (.b vQ) true) (an 1 (c3 3 (aq (.ao false) (an 1 (c3 5 (an 2 []))))))))]) (lY.bb (.bh tc tc tc tc d3 d3 d3 d3 (.ay d3))))))))
  (fun eQ =>
  .aC fun d2 hJ =>
  (let jz:=(lD (cW cL bl.2.2.2) 0 (⟨aF.cE,aF.cF,aF.b9,aF.b9⟩:bu) (rfl:(setCells (cL aF) 2 [.n .i64 aF.b9])=cL (⟨aF.cE,aF.cF,aF.b9,aF.b9⟩:bu)));have f7:=fK.bb (.bh (e6 eQ) (iO (cW cu bl.1) 0 4) (hZ (cW cu bl.1) bx) (dP l1 ((bl.1.drop 0).take 4)) (iO (cW cq bl.2.1) 0 2) (hZ (cW cq bl.2.1) dy) (dP l0 ((bl.2.1.drop 0).take 2)) (iO jz 0 1) (.du (hZ jz dC) (dP mh (((bl.2.2.2.set 0 (⟨aF.cE,aF.cF,aF.b9,aF.b9⟩:bu)).drop 0).take 1)) (Hs d2 hJ) (cn.b d2)));
  .ite (fun fS =>
  .aC fun dU kf =>
  .ret (let cV:=(lD (cW cL bl.2.2.2) 0 (⟨aF.cE,aF.cF,aF.b9,aF.b9⟩:bu) (rfl:(setCells (cL aF) 2 [.n .i64 aF.b9])=cL (⟨aF.cE,aF.cF,aF.b9,aF.b9⟩:bu)));bY (t2.append [.ao true,.aH (an 2 (aq (.call {ac:=[.bp (.agg [.ej (((bl.1.drop 0).take 4).map cu),.ej (((bl.2.1.drop 0).take 2).map cq)]),.bp (.b4 (.ej ((((bl.2.2.2.set 0 (⟨aF.cE,aF.cF,aF.b9,aF.b9⟩:bu)).drop 0).take 1).map cL)))],r:= .b d2,dt:=true,dA:=[5]}) (an 4 (aq (.call {ac:=[.bp (.agg [.ej (((bl.1.drop 0).take 4).map cu),.ej (((bl.2.1.drop 0).take 2).map cq)]),.bp (.b4 (.ej (((bl.2.2.1.drop 0).take 8).map J))),.bp (.b4 (.ej ((((bl.2.2.2.set 0 (⟨aF.cE,aF.cF,aF.b9,aF.b9⟩:bu)).drop 0).take 1).map cL)))],r:= .b dU,dt:=true,dA:=[5]}) (bU 1 (.ao true) 1)))))]) (f7.bb (.bh fS fS fS fS (iO (cW cu bl.1) 0 4) (hZ (cW cu bl.1) bx) (dP l1 ((bl.1.drop 0).take 4)) (iO (cW cq bl.2.1) 0 2) (.bh (hZ (cW cq bl.2.1) dy) (dP l0 ((bl.2.1.drop 0).take 2)) (iO (cW J bl.2.2.1) 0 8) (hZ (cW J bl.2.2.1) dQ) (dP aE ((bl.2.2.1.drop 0).take 8)) (iO cV 0 1) (hZ cV dC) (dP mh (((bl.2.2.2.set 0 (⟨aF.cE,aF.cF,aF.b9,aF.b9⟩:bu)).drop 0).take 1)) (.du (Cd dU kf) (cn.b dU) fS fS))))))
  (fun fS =>
  .ret (bY (t2.append [.ao true,.aH (an 2 (aq (.call {ac:=[.bp (.agg [.ej (((bl.1.drop 0).take 4).map cu),.ej (((bl.2.1.drop 0).take 2).map cq)]),.bp (.b4 (.ej ((((bl.2.2.2.set 0 (⟨aF.cE,aF.cF,aF.b9,aF.b9⟩:bu)).drop 0).take 1).map cL)))],r:= .b d2,dt:=true,dA:=[5]}) (an 1 (c3 5 (aq (.ao false) (an 1 []))))))]) (f7.bb (.eK fS fS fS fS fS fS)))))))))))
end Go.Proofs.Ytgfpnhmcmgnepab
