/- Lemmas, plain functions of the program, and what they answer. No condition. -/
import Derived.Test.YtfdnefmiaihfcaaGreatMD
namespace Go.Proofs.YtfdnefmiaihfcaaGreat
set_option linter.unusedVariables false
set_option linter.unusedSimpArgs false
open Go Go.VL
def Hm (aZ rc r6:Int):Option Bool :=
 if (decide (rc≤aZ))=true then
  some (decide (aZ≤r6))
 else
  some false
def xX (a7:List Int)(aZ:Int):Option ((Int)⊕(Int)) :=
 if (decide ((0:Int)<aZ))=true then
  if 0≤(U (aZ-(1:Int)))∧(U (aZ-(1:Int)))<a7.length then
  a7[(U (aZ-(1:Int))).toNat]? >>= fun a2 =>
  if (a2 == (0:Int))=true then
   some (.inl (U (aZ-(1:Int))))
  else
   some (.inr aZ)
  else none
 else
  some (.inr aZ)
def Lw (a7:List Int)(aZ:Int):Option (Int):=iter (fun w:Int=>xX a7 w) aZ
def tF (a7:List Int):Option (List Int) :=
 Lw a7 (len_ J a7) >>= fun ad =>
 if 0≤ad then
 if 0≤ad.toNat∧ad.toNat≤a7.length then
 some ((a7.drop 0).take (ad.toNat-0))
 else none
 else none
def Bq (aZ:Int)(az:List Int):Option ((Int×(List Int))⊕((List Int))) :=
 if (decide ((0:Int)<aZ))=true then
  if (az++([aZ.tmod (1000000000:Int)]:List Int)).length*8≤140737488355328 then
  some (.inl (U (aZ.tdiv (1000000000:Int)),az++([aZ.tmod (1000000000:Int)]:List Int)))
  else none
 else
  some (.inr az)
def LK (aZ:Int)(az:List Int):Option ((List Int)):=iter (fun w:Int×(List Int)=>Bq w.1 w.2) (aZ,az)
def wm (aZ:Int):Option (List Int) :=
 LK aZ ([]:List Int) >>= fun ad =>
 some ad
def He (a7:List Int):Option Bool :=
 if ((len_ J a7) == (1:Int))=true then
  if 0≤(0:Int)∧(0:Int)<a7.length then
  a7[0]? >>= fun a2 =>
  some (a2 == (1:Int))
  else none
 else
  some false
def Bj (a7 a6:List Int)(bc:Int):Option ((Int)⊕((Unit)⊕(Int))) :=
 if (decide ((0:Int)≤bc))=true then
  if 0≤bc∧bc<a7.length then
  a7[bc.toNat]? >>= fun a2 =>
  if 0≤bc∧bc<a6.length then
  a6[bc.toNat]? >>= fun cX =>
  if (decide (a2<cX))=true then
   some (.inr (.inr (-1)))
  else
   if (decide (cX<a2))=true then
    some (.inr (.inr 1))
   else
    some (.inl (U (bc-(1:Int))))
  else none
  else none
 else
  some (.inr (.inl ()))
def Lz (a7 a6:List Int)(bc:Int):Option ((Unit)⊕(Int)):=iter (fun w:Int=>Bj a7 a6 w) bc
def wg (a7 a6:List Int):Option Int :=
 if ((len_ J a7) != (len_ J a6))=true then
  if (decide ((len_ J a7)<(len_ J a6)))=true then
   some (-1)
  else
   some 1
 else
  Lz a7 a6 (U ((len_ J a7)-(1:Int))) >>= fun b3 =>
  match b3 with
  | .inl hJ=>(some 0)
  | .inr hJ=>(some hJ)
def xY (a7 a6:List Int)(du pO d8:Int)(az:List Int):Option ((Int×Int×(List Int))⊕((List Int))) :=
 if (decide (d8<du))=true then
  if 0≤d8∧d8<a7.length then
  a7[d8.toNat]? >>= fun a2 =>
  if (decide (d8<(len_ J a6)))=true then
   if 0≤d8∧d8<a6.length then
   a6[d8.toNat]? >>= fun f7 =>
   if (decide ((U ((U (a2-pO))-f7))<(0:Int)))=true then
    if (az++([U ((U ((U (a2-pO))-f7))+(1000000000:Int))]:List Int)).length*8≤140737488355328 then
    some (.inl (1,U (d8+(1:Int)),az++([U ((U ((U (a2-pO))-f7))+(1000000000:Int))]:List Int)))
    else none
   else
    if (az++([U ((U (a2-pO))-f7)]:List Int)).length*8≤140737488355328 then
    some (.inl (0,U (d8+(1:Int)),az++([U ((U (a2-pO))-f7)]:List Int)))
    else none
   else none
  else
   if (decide ((U (a2-pO))<(0:Int)))=true then
    if (az++([U ((U (a2-pO))+(1000000000:Int))]:List Int)).length*8≤140737488355328 then
    some (.inl (1,U (d8+(1:Int)),az++([U ((U (a2-pO))+(1000000000:Int))]:List Int)))
    else none
   else
    if (az++([U (a2-pO)]:List Int)).length*8≤140737488355328 then
    some (.inl (0,U (d8+(1:Int)),az++([U (a2-pO)]:List Int)))
    else none
  else none
 else
  some (.inr az)
def LA (a7 a6:List Int)(du pO d8:Int)(az:List Int):Option ((List Int)):=iter (fun w:Int×Int×(List Int)=>xY a7 a6 du w.1 w.2.1 w.2.2) (pO,d8,az)
def Hf (a7 a6:List Int):Option (List Int) :=
 LA a7 a6 (len_ J a7) 0 0 ([]:List Int) >>= fun ad =>
 tF ad >>= fun bg =>
 some bg
def Br (a7:List Int)(kQ cZ:Int):Option ((Int)⊕((Unit)⊕(Unit))) :=
 if (decide (cZ<kQ))=true then
  if 0≤cZ∧cZ<a7.length then
  a7[cZ.toNat]? >>= fun a2 =>
  Hm a2 0 999999999 >>= fun bt =>
  if bt=true then
   some (.inl (U (cZ+(1:Int))))
  else
   some (.inr (.inr ()))
  else none
 else
  some (.inr (.inl ()))
def LL (a7:List Int)(kQ cZ:Int):Option ((Unit)⊕(Unit)):=iter (fun w:Int=>Br a7 kQ w) cZ
def wo (a7:List Int):Option Bool :=
 LL a7 (len_ J a7) 0 >>= fun ad =>
 match ad with
 | .inl bs=>(if (decide ((len_ J a7)≤(60:Int)))=true then
  if ((len_ J a7) == (0:Int))=true then
   some true
  else
   if 0≤(U ((len_ J a7)-(1:Int)))∧(U ((len_ J a7)-(1:Int)))<a7.length then
   a7[(U ((len_ J a7)-(1:Int))).toNat]? >>= fun f7 =>
   some (f7 != (0:Int))
   else none
  else
   some false)
 | .inr bs=>(some false)
def Bd (a7:List Int)(aZ bc:Int):Option ((Int×Int)⊕(Int)) :=
 if (decide ((0:Int)≤bc))=true then
  if 0≤bc∧bc<a7.length then
  a7[bc.toNat]? >>= fun a2 =>
  some (.inl (U ((U (aZ*(1000000000:Int)))+a2),U (bc-(1:Int))))
  else none
 else
  some (.inr aZ)
def Ll (a7:List Int)(aZ bc:Int):Option (Int):=iter (fun w:Int×Int=>Bd a7 w.1 w.2) (aZ,bc)
def BX (a7:List Int):Option (Int×Bool) :=
 wo a7 >>= fun ad =>
 if ad=true then
  wg a7 ([854775807,223372036,9]:List Int) >>= fun bl =>
  if (decide ((0:Int)<bl))=true then
   some (0,false)
  else
   Ll a7 0 (U ((len_ J a7)-(1:Int))) >>= fun bS =>
   some (bS,true)
 else
  some (0,false)
def Be (cD e3:Int):Option ((Int×Int)⊕(Int)) :=
 if (decide ((0:Int)<e3))=true then
  if e3≠0 then
  some (.inl (e3,cD.tmod e3))
  else none
 else
  some (.inr cD)
def Lm (cD e3:Int):Option (Int):=iter (fun w:Int×Int=>Be w.1 w.2) (cD,e3)
def GW (cD e3:Int):Option (List Int) :=
 Lm cD e3 >>= fun ad =>
 wm ad >>= fun bg =>
 some bg
def Bf (a7:List Int)(uJ gV bc:Int)(az:List Int):Option ((Int×Int×(List Int))⊕(Int×(List Int))) :=
 if (decide ((0:Int)≤bc))=true then
  if 0≤bc∧bc<a7.length then
  a7[bc.toNat]? >>= fun a2 =>
  if uJ≠0 then
  if 0≤bc∧bc<(az.length:Nat) then
  if (0+bc.toNat)<az.length then
  some (.inl ((U ((U (gV*(1000000000:Int)))+a2)).tmod uJ,U (bc-(1:Int)),az.set (0+bc.toNat) (U ((U ((U (gV*(1000000000:Int)))+a2)).tdiv uJ))))
  else none
  else none
  else none
  else none
 else
  some (.inr (gV,az))
def Gy (a7:List Int)(uJ gV bc:Int)(az:List Int):Option (Int×(List Int)):=iter (fun w:Int×Int×(List Int)=>Bf a7 uJ w.1 w.2.1 w.2.2) (gV,bc,az)
def GX (a7:List Int)(uJ:Int):Option ((List Int)×Int) :=
 if 0≤(len_ J a7)∧(8:Int)*(len_ J a7)≤281474976710656∧(len_ J a7)<9223372036854775808 then
 Gy a7 uJ 0 (U ((len_ J a7)-(1:Int))) (List.replicate (len_ J a7).toNat 0:List Int) >>= fun b3 =>
 tF b3.2 >>= fun bl =>
 some (bl,b3.1)
 else none
def Bk (a6:List Int)(bc cD:Int)(eC:List Int)(eK dA dX c7:Int)(az:List Int):Option ((Int×Int×(List Int))⊕(Int×(List Int))) :=
 if (decide (c7<dA))=true then
  if 0≤c7∧c7<a6.length then
  a6[c7.toNat]? >>= fun a2 =>
  if 0≤(U (bc+c7))∧(U (bc+c7))<(az.length:Nat) then
  az[(0+(U (bc+c7)).toNat)]? >>= fun cX =>
  if (0+(U (bc+c7)).toNat)<az.length then
  some (.inl (U ((U ((U (cX+(U (cD*a2))))+dX)).tdiv (1000000000:Int)),U (c7+(1:Int)),az.set (0+(U (bc+c7)).toNat) ((U ((U (cX+(U (cD*a2))))+dX)).tmod (1000000000:Int))))
  else none
  else none
  else none
 else
  some (.inr (dX,az))
def LB (a6:List Int)(bc cD:Int)(eC:List Int)(eK dA dX c7:Int)(az:List Int):Option (Int×(List Int)):=iter (fun w:Int×Int×(List Int)=>Bk a6 bc cD eC eK dA w.1 w.2.1 w.2.2) (dX,c7,az)
def F6 (a6 eC:List Int)(eK fG:Int)(az:List Int):Option ((Int×(List Int))⊕((List Int))) :=
 if (decide (fG<eK))=true then
  if 0≤fG∧fG<eC.length then
  eC[fG.toNat]? >>= fun a2 =>
  LB a6 fG a2 eC eK (len_ J a6) 0 0 az >>= fun bt =>
  if 0≤(U (fG+(len_ J a6)))∧(U (fG+(len_ J a6)))<(bt.2.length:Nat) then
  if (0+(U (fG+(len_ J a6))).toNat)<bt.2.length then
  some (.inl (U (fG+(1:Int)),bt.2.set (0+(U (fG+(len_ J a6))).toNat) bt.1))
  else none
  else none
  else none
 else
  some (.inr az)
def BO (a6 eC:List Int)(eK fG:Int)(az:List Int):Option ((List Int)):=iter (fun w:Int×(List Int)=>F6 a6 eC eK w.1 w.2) (fG,az)
def B9 (a7 a6:List Int):Option (List Int) :=
 if ((len_ J a7) == (0:Int))=true then
  some ([]:List Int)
 else
  if ((len_ J a6) == (0:Int))=true then
   some ([]:List Int)
  else
   if 0≤(U ((len_ J a7)+(len_ J a6)))∧(8:Int)*(U ((len_ J a7)+(len_ J a6)))≤281474976710656∧(U ((len_ J a7)+(len_ J a6)))<9223372036854775808 then
   BO a6 a7 (len_ J a7) 0 (List.replicate (U ((len_ J a7)+(len_ J a6))).toNat 0:List Int) >>= fun bl =>
   tF bl >>= fun bw =>
   some bw
   else none
def xU (dg a6:List Int)(rc r6:Int):Option ((Int×Int)⊕(Int)) :=
 if (decide (rc<r6))=true then
  wm (U ((U ((U (rc+r6))+(1:Int))).tdiv (2:Int))) >>= fun b3 =>
  B9 a6 b3 >>= fun bl =>
  wg bl dg >>= fun bw =>
  if (decide (bw≤(0:Int)))=true then
   some (.inl (U ((U ((U (rc+r6))+(1:Int))).tdiv (2:Int)),r6))
  else
   some (.inl (rc,U ((U ((U ((U (rc+r6))+(1:Int))).tdiv (2:Int)))-(1:Int))))
 else
  some (.inr rc)
def Gz (dg a6:List Int)(rc r6:Int):Option (Int):=iter (fun w:Int×Int=>xU dg a6 w.1 w.2) (rc,r6)
def GY (dg a6:List Int):Option Int :=
 if 0≤(U ((len_ J a6)-(1:Int)))∧(U ((len_ J a6)-(1:Int)))<dg.length then
 dg[(U ((len_ J a6)-(1:Int))).toNat]? >>= fun eN =>
 if (decide ((len_ J a6)<(len_ J dg)))=true then
  if 0≤(len_ J a6)∧(len_ J a6)<dg.length then
  dg[(len_ J a6).toNat]? >>= fun cX =>
  if 0≤(U ((len_ J a6)-(1:Int)))∧(U ((len_ J a6)-(1:Int)))<a6.length then
  a6[(U ((len_ J a6)-(1:Int))).toNat]? >>= fun gS =>
  if (U (gS+(1:Int)))≠0 then
  if gS≠0 then
  Gz dg a6 (U ((U (eN+(U (cX*(1000000000:Int))))).tdiv (U (gS+(1:Int))))) (if (U ((U (eN+(U (cX*(1000000000:Int))))).tdiv gS))<(999999999:Int) then (U ((U (eN+(U (cX*(1000000000:Int))))).tdiv gS)) else (999999999:Int)) >>= fun de =>
  some de
  else none
  else none
  else none
  else none
 else
  if 0≤(U ((len_ J a6)-(1:Int)))∧(U ((len_ J a6)-(1:Int)))<a6.length then
  a6[(U ((len_ J a6)-(1:Int))).toNat]? >>= fun cX =>
  if (U (cX+(1:Int)))≠0 then
  if cX≠0 then
  Gz dg a6 (U (eN.tdiv (U (cX+(1:Int))))) (if (U (eN.tdiv cX))<(999999999:Int) then (U (eN.tdiv cX)) else (999999999:Int)) >>= fun fc =>
  some fc
  else none
  else none
  else none
 else none
def Bl (a7 a6 gV:List Int)(bc:Int)(az:List Int):Option (((List Int)×Int×(List Int))⊕((List Int)×(List Int))) :=
 if (decide ((0:Int)≤bc))=true then
  if 0≤bc∧bc<a7.length then
  a7[bc.toNat]? >>= fun a2 =>
  if (([a2]:List Int)++gV).length*8≤140737488355328 then
  tF (([a2]:List Int)++gV) >>= fun bw =>
  wg bw a6 >>= fun eh =>
  if (decide (eh<(0:Int)))=true then
   some (.inl (bw,U (bc-(1:Int)),az))
  else
   GY bw a6 >>= fun cr =>
   if 0≤bc∧bc<(az.length:Nat) then
   if (0+bc.toNat)<az.length then
   wm cr >>= fun fk =>
   B9 a6 fk >>= fun hc =>
   Hf bw hc >>= fun ZF =>
   some (.inl (ZF,U (bc-(1:Int)),az.set (0+bc.toNat) cr))
   else none
   else none
  else none
  else none
 else
  some (.inr (gV,az))
def LC (a7 a6 gV:List Int)(bc:Int)(az:List Int):Option ((List Int)×(List Int)):=iter (fun w:(List Int)×Int×(List Int)=>Bl a7 a6 w.1 w.2.1 w.2.2) (gV,bc,az)
def Ca (a7 a6:List Int):Option ((List Int)×(List Int)) :=
 if ((len_ J a6) == (1:Int))=true then
  if 0≤(0:Int)∧(0:Int)<a6.length then
  a6[0]? >>= fun a2 =>
  GX a7 a2 >>= fun bt =>
  wm bt.2 >>= fun bS =>
  some (bt.1,bS)
  else none
 else
  if 0≤(len_ J a7)∧(8:Int)*(len_ J a7)≤281474976710656∧(len_ J a7)<9223372036854775808 then
  LC a7 a6 ([]:List Int) (U ((len_ J a7)-(1:Int))) (List.replicate (len_ J a7).toNat 0:List Int) >>= fun bg =>
  tF bg.2 >>= fun bt =>
  some (bt,bg.1)
  else none
def xZ (cD e3:List Int):Option (((List Int)×(List Int))⊕(((List Int))⊕((List Int)))) :=
 if (decide ((0:Int)<(len_ J e3)))=true then
  if (decide ((len_ J cD)<(3:Int)))=true then
   if (decide ((len_ J e3)<(3:Int)))=true then
    BX cD >>= fun bl =>
    BX e3 >>= fun bw =>
    GW bl.1 bw.1 >>= fun eh =>
    some (.inr (.inr eh))
   else
    Ca cD e3 >>= fun bl =>
    some (.inl (e3,bl.2))
  else
   Ca cD e3 >>= fun bg =>
   some (.inl (e3,bg.2))
 else
  some (.inr (.inl cD))
def LD (cD e3:List Int):Option (((List Int))⊕((List Int))):=iter (fun w:(List Int)×(List Int)=>xZ w.1 w.2) (cD,e3)
def Hg (a7 a6:List Int):Option (List Int) :=
 if (([]:List Int)++a7).length*8≤140737488355328 then
 if (([]:List Int)++a6).length*8≤140737488355328 then
 LD (([]:List Int)++a7) (([]:List Int)++a6) >>= fun bg =>
 match bg with
 | .inl fJ=>(some fJ)
 | .inr fJ=>(some fJ)
 else none
 else none
def GZ (cD:a5):Option Bool :=
 wo cD.cy >>= fun ad =>
 if ad=true then
  if cD.cU=true then
   some (decide ((0:Int)<(len_ J cD.cy)))
  else
   some true
 else
  some false
def Mv (dg:j5):Option Bool :=
 GZ dg.gW >>= fun ad =>
 if ad=true then
  wo dg.hb >>= fun bl =>
  if bl=true then
   if ((len_ J dg.hb) == (0:Int))=true then
    some false
   else
    if (decide ((24:Int)<(len_ J dg.hb)))=true then
     some false
    else
     if (decide ((24:Int)<(len_ J dg.gW.cy)))=true then
      some false
     else
      Hg dg.gW.cy dg.hb >>= fun fc =>
      He fc >>= fun f6 =>
      some f6
  else
   some false
 else
  some false
theorem pb {n:Nat}(h:n≤10000000):U ((n:Int)+1)=((n+1:Nat):Int):=by rw [cP (by omega) (by omega)];rfl
theorem pT {n:Nat}(h:n≤10000000):U ((n:Int)-1)=(n:Int)-1:=cP (by omega) (by omega)
theorem Iv {n:Nat}(h:n≤10000000):U (((n+1:Nat):Int)-1)=n:=by rw [cP (by omega) (by omega)];omega
theorem fY (l:List Int):len_ J l=l.length:=g8 _ l
theorem UX {l:List Int}{k:Nat}{x:Int}(aa:l[k]? = some x)(a1:l.length≤5000000):xX l ((k+1:Nat):Int)=some (if x=0 then .inl (k:Int) else .inr ((k+1:Nat):Int)):=by
 have aU:=ft aa
 unfold xX
 rw [Iv (by omega),if_pos (by simp),if_pos (by omega),Int.toNat_natCast,aa]
 by_cases h:x=0<;>simp [h]
theorem yz {l:List Int}(aG:cz l)(a1:l.length≤5000000):tF l=some (L (V l)):=by
 have : ∃r,iter (fun w:Int=>xX l w) (l.length:Int)=some r∧ ∃k:Nat,r=k∧k≤l.length∧l.take k=L (V l):=by
  refine jJ (ei:=fun w:Int=> ∃k:Nat,w=k∧k≤l.length∧V (l.take k)=V l) (m:=fun w:Int=>w.toNat) _ ?_ _ ⟨l.length,rfl,by omega,by simp⟩
  rintro _ ⟨k,rfl,aU,aY⟩
  cases k with
  | zero =>
   refine .inr ⟨0,by simp [xX],0,rfl,by omega,?_⟩
   rw [← aY]
   simp [V,oG]
  | succ k =>
   have aa:=List.getElem?_eq_getElem (show k<l.length by omega)
   rw [UX aa a1]
   by_cases h:l[k]=0
   ·refine .inl ⟨_,by simp [h],⟨k,rfl,by omega,?_⟩,by omega⟩
    have:=rO aa
    rw [h] at this
    simp at this
    omega
   ·refine .inr ⟨_,by simp [h],k+1,rfl,aU,?_⟩
    rcases eE.HT aG k (fun x o=>by rw [aa] at o;simp at o;omega) with o|o
    ·exact uj o aY
    ·omega
 obtain ⟨r,an,k,rfl,o,R⟩:=this
 unfold tF Lw
 rw [fY,an]
 simp [o,R]
theorem wI {l:List Int}(aG:cz l)(a1:l.length≤5000000):pE l=some (L (V l)):=by
 have : ∃r,iter (fun w:List Int=>vP w) l=some r∧r=L (V l):=by
  refine jJ (ei:=fun w=> ∃k:Nat,w=l.take k∧k≤l.length∧V (l.take k)=V l) (m:=fun w:List Int=>w.length) _ ?_ _ ⟨l.length,by simp,by omega,by simp⟩
  rintro _ ⟨k,rfl,aU,aY⟩
  have hlen:(l.take k).length=k:=by simp;omega
  cases k with
  | zero =>
   refine .inr ⟨[],by simp [vP,fY],?_⟩
   rw [← aY]
   simp [V,oG]
  | succ k =>
   have aa:=List.getElem?_eq_getElem (show k<l.length by omega)
   have df:(l.take (k+1))[k]? = some l[k]:=by rw [List.getElem?_take];simp [aa]
   unfold vP
   simp only [fY,hlen]
   rw [Iv (by omega),if_pos (by simp),if_pos (by omega),Int.toNat_natCast,df]
   by_cases h:l[k]=0
   ·refine .inl ⟨l.take k,by simp [h,List.take_take,Nat.min_eq_left],⟨k,rfl,by omega,?_⟩,by simp;omega⟩
    have:=rO aa
    rw [h] at this
    simp at this
    omega
   ·refine .inr ⟨l.take (k+1),by simp [h],?_⟩
    rcases eE.HT aG k (fun x o=>by rw [aa] at o;simp at o;omega) with o|o
    ·exact uj o aY
    ·omega
 obtain ⟨r,an,rfl⟩:=this
 unfold pE G2
 rw [an]
 rfl
theorem UY {l:List Int}(aG:cz l)(a1:l.length≤5000000): ∃k,yp l=some k∧k≤l.length∧l.take k=L (V l):=by
 have : ∃r,iter (fun w:Nat=>vL l w) l.length=some r∧r≤l.length∧l.take r=L (V l):=by
  refine jJ (ei:=fun k=>k≤l.length∧V (l.take k)=V l) (m:=fun w:Nat=>w) _ ?_ _ ⟨by omega,by simp⟩
  rintro k ⟨aU,aY⟩
  cases k with
  | zero =>
   refine .inr ⟨0,by simp [vL],by omega,?_⟩
   rw [← aY]
   simp [V,oG]
  | succ k =>
   have aa:=List.getElem?_eq_getElem (show k<l.length by omega)
   unfold vL
   rw [Iv (by omega),if_pos (by simp),if_pos (by omega),Int.toNat_natCast,Nat.zero_add,aa]
   by_cases h:l[k]=0
   ·refine .inl ⟨k,by simp [h],⟨by omega,?_⟩,by omega⟩
    have:=rO aa
    rw [h] at this
    simp at this
    omega
   ·refine .inr ⟨k+1,by simp [h],aU,?_⟩
    rcases eE.HT aG k (fun x o=>by rw [aa] at o;simp at o;omega) with o|o
    ·exact uj o aY
    ·omega
 obtain ⟨r,an,o,R⟩:=this
 unfold yp GL
 rw [an]
 exact ⟨r,rfl,o,R⟩
theorem wR {a b:List Int}(bA:eE a)(aM:eE b)(a1:a.length≤5000000):wg a b=some (ly (V a) (V b)):=by
 unfold wg ly
 simp only [fY]
 by_cases o:a.length=b.length
 ·rw [if_neg (by simp [o])]
  have : ∃r,iter (fun w:Int=>Bj a b w) ((a.length:Int)-1)=some r∧(r.elim (fun _=>V a=V b) (fun c=>(c = -1∧V a<V b)∨(c=1∧V b<V a))):=by
   refine jJ (ei:=fun w:Int=> ∃k:Nat,w=(k:Int)-1∧k≤a.length∧V (a.drop k)=V (b.drop k)) (m:=fun w:Int=>(w+1).toNat) _ ?_ _ ⟨a.length,rfl,by omega,by rw [List.drop_length,o,List.drop_length]⟩
   rintro _ ⟨k,rfl,aU,aY⟩
   cases k with
   | zero=>exact .inr ⟨.inl (),by simp [Bj],by simpa using aY⟩
   | succ k =>
    have aa:=List.getElem?_eq_getElem (show k<a.length by omega)
    have aS:=List.getElem?_eq_getElem (show k<b.length by omega)
    have e:((k+1:Nat):Int)-1=k:=by omega
    unfold Bj
    rw [e,pT (by omega),if_pos (by simp),if_pos (by omega),Int.toNat_natCast,aa]
    simp only [Option.bind_eq_bind,Option.bind_some]
    rw [if_pos (by omega),aS]
    by_cases R:a[k]<b[k]
    ·exact .inr ⟨.inr (-1),by simp [R],.inl ⟨rfl,NU bA.1 aM.1 aa aS aY R⟩⟩
    ·by_cases ae:b[k]<a[k]
     ·exact .inr ⟨.inr 1,by simp [R,ae],.inr ⟨rfl,NU aM.1 bA.1 aS aa aY.symm ae⟩⟩
     ·refine .inl ⟨(k:Int)-1,by simp [R,ae],⟨k,rfl,by omega,?_⟩,by omega⟩
      rw [nW aa,nW aS,aY,show a[k]=b[k] by omega]
  obtain ⟨r,an,R⟩:=this
  unfold Lz
  rw [pT (by omega),an]
  cases r with
  | inl u =>
   simp at R
   simp [R]
  | inr c =>
   rcases R with ⟨rfl,R⟩|⟨rfl,R⟩
   ·simp [R]
   ·simp [R];omega
 ·rw [if_pos (by simp;omega)]
  by_cases R:a.length<b.length
  ·have:=CH bA aM R
   simp [R,this]
  ·have:=CH aM bA (by omega)
   rw [if_neg (by simp;omega),if_neg (by omega),if_pos this]
theorem TJ:o2=wg:=rfl
theorem Ce {a b:List Int}(bA:eE a)(aM:eE b)(a1:a.length≤5000000):o2 a b=some (ly (V a) (V b)):=wR bA aM a1
theorem za {x y:Int}(aa:0≤x∧x<1000000000)(aS:0≤y∧y<1000000000):0≤x*y∧x*y≤999999998000000001:=by
 have o:=Int.mul_nonneg aa.1 aS.1
 have R:x*y≤999999999*999999999:=Int.mul_le_mul (by omega) (by omega) aS.1 (by omega)
 omega
theorem st {a b:Int}(h:0≤a):a.tmod b=a % b:=Int.tmod_eq_emod_of_nonneg h
theorem oC {a b:Int}(h:0≤a):a.tdiv b=a / b:=Int.tdiv_eq_ediv_of_nonneg h
theorem HU (k:Nat)(x:Int)(q:List Int):(List.replicate (k+1) 0++q).set k x=List.replicate k 0++x::q:=by
 induction k with
 | zero=>rfl
 | succ k ih =>
  show (0::(List.replicate (k+1) 0++q)).set (k+1) x=_
  rw [List.set_cons_succ,ih];rfl
theorem Uq {a:List Int}{d rest:Int}{row:List Int}{k:Nat}{x:Int}(aa:a[k]? = some x)(h3:0≤x∧x<1000000000)(ba:0<d∧d<1000000000)(an:0≤rest∧rest<d)(c8:row.length=a.length)(a1:a.length≤1000000):
 Bf a d rest (k:Int) row=some (.inl ((rest*1000000000+x) % d,(k:Int)-1,row.set k ((rest*1000000000+x) / d))):=by
 have aU:=ft aa
 unfold Bf
 rw [if_pos (by simp),if_pos (by omega),Int.toNat_natCast,aa]
 simp only [Option.bind_eq_bind,Option.bind_some]
 rw [if_pos (by omega),if_pos (by omega),if_pos (by omega),pT (by omega)]
 have o:U (U (rest*1000000000)+x)=rest*1000000000+x:=by rw [cP (x:=rest*1000000000) (by omega) (by omega)];exact cP (by omega) (by omega)
 have R:0≤rest*1000000000+x:=by omega
 have ae:(rest*1000000000+x) / d≤rest*1000000000+x:=Int.ediv_le_self _ R
 have ay:0≤(rest*1000000000+x) / d:=Int.ediv_nonneg R (by omega)
 rw [o,st R,oC R,cP (by omega) (by omega),Nat.zero_add]
theorem Mw {a:List Int}{d:Int}(bA:cz a)(ba:0<d∧d<1000000000)(a1:a.length≤1000000):
 ∃r,Gy a d 0 ((a.length:Int)-1) (List.replicate a.length 0)=some r∧r.1=V a % d∧cz r.2∧r.2.length=a.length∧V r.2=V a / d:=by
 refine jJ (ei:=fun w:Int×Int×List Int=> ∃(k:Nat) (q:List Int),w.2.1=(k:Int)-1∧k≤a.length∧w.2.2=List.replicate k 0++q∧q.length+k=a.length∧cz q∧0≤w.1∧w.1<d∧V (a.drop k)=V q*d+w.1) (m:=fun w:Int×Int×List Int=>(w.2.1+1).toNat) _ ?_ _ ⟨a.length,[],rfl,by omega,by simp,by simp,cz.nil,by omega,by omega,by simp [V]⟩
 rintro ⟨rest,i,row⟩ ⟨k,q,o,aU,R,a8,si,kj,hR,aY⟩
 simp only at o R kj hR aY ⊢
 subst o R
 cases k with
 | zero =>
  refine .inr ⟨(rest,q),by simp [Bf],?_,si,by simpa using a8,?_⟩
  ·simp at aY
   rw [aY,Int.add_comm,Int.add_mul_emod_self_right]
   exact (Int.emod_eq_of_lt kj hR).symm
  ·simp at aY
   rw [aY,Int.add_comm,Int.add_mul_ediv_right _ _ (by omega),Int.ediv_eq_zero_of_lt kj hR]
   simp
 | succ k =>
  have aa:=List.getElem?_eq_getElem (show k<a.length by omega)
  have h3:=bA.get aa
  rw [show ((k+1:Nat):Int)-1=k by omega,Uq aa h3 ba ⟨kj,hR⟩ (by simp;omega) a1]
  refine .inl ⟨_,rfl,⟨k,(rest*1000000000+a[k]) / d::q,rfl,by omega,HU _ _ _,by simp;omega,cz.cons ⟨Int.ediv_nonneg (by omega) (by omega),?_⟩ si,Int.emod_nonneg _ (by omega),Int.emod_lt_of_pos _ ba.1,?_⟩,by simp⟩
  ·refine Int.ediv_lt_of_lt_mul ba.1 ?_
   omega
  ·rw [nW aa,aY,kx]
   have:=Int.mul_ediv_add_emod (rest*1000000000+a[k]) d
   generalize (rest*1000000000+a[k]) / d=u at *
   generalize (rest*1000000000+a[k]) % d=t at *
   grind
theorem VV {a:List Int}{d:Int}(bA:cz a)(ba:0<d∧d<1000000000)(a1:a.length≤1000000):GX a d=some (L (V a / d),V a % d):=by
 obtain ⟨r,an,o,R,ae,ay⟩:=Mw bA ba a1
 unfold GX
 simp only [fY]
 rw [if_pos (by omega),pT (by omega),Int.toNat_natCast,an]
 simp only [Option.bind_eq_bind,Option.bind_some]
 rw [yz R (by omega),o,ay]
 rfl
theorem Tj:Gn=Gy:=rfl
theorem LO {a:List Int}{d:Int}(bA:cz a)(ba:0<d∧d<1000000000)(a1:a.length≤1000000):vX a d=some (L (V a / d),V a % d):=by
 obtain ⟨r,an,o,R,ae,ay⟩:=Mw bA ba a1
 unfold vX
 simp only [fY]
 rw [if_pos (by omega),pT (by omega),Int.toNat_natCast,Tj,an]
 simp only [Option.bind_eq_bind,Option.bind_some]
 rw [wI R (by omega),o,ay]
 rfl
theorem UZ {b:List Int}{i j:Nat}{x y z carry:Int}{row t26:List Int}{t27:Int}(aS:b[j]? = some y)(cd:row[i+j]? = some z)(aa:0≤x∧x<1000000000)(nG:0≤y∧y<1000000000)(qD:0≤z∧z<1000000000)(aP:0≤carry∧carry<1000000000)(a1:row.length≤2000000):
 Bk b i x t26 t27 b.length carry j row=some (.inl ((z+x*y+carry) / 1000000000,((j+1:Nat):Int),row.set (i+j) ((z+x*y+carry) % 1000000000))):=by
 have aC:=ft aS
 have pn:=ft cd
 obtain ⟨hd,fW⟩:=za aa nG
 unfold Bk
 have e:U ((i:Int)+(j:Int))=((i+j:Nat):Int):=by rw [cP (by omega) (by omega)];rfl
 rw [if_pos (by simp;omega),if_pos (by omega),Int.toNat_natCast,aS]
 simp only [Option.bind_eq_bind,Option.bind_some,e,Int.toNat_natCast,Nat.zero_add]
 rw [if_pos (by omega),cd]
 simp only [Option.bind_some]
 rw [if_pos (by omega),pb (by omega),cP (x:=x*y) (by omega) (by omega),cP (x:=z+x*y) (by omega) (by omega),cP (x:=z+x*y+carry) (by omega) (by omega),st (by omega),oC (by omega),cP (by omega) (by omega)]
theorem U0 {b:List Int}{i:Nat}{x:Int}{row t26:List Int}{t27:Int}(aM:cz b)(c8:cz row)(aa:0≤x∧x<1000000000)(aG:i+b.length<row.length)(a1:row.length≤2000000):
 ∃r,LB b i x t26 t27 b.length 0 0 row=some r∧0≤r.1∧r.1<1000000000∧cz r.2∧r.2.length=row.length∧V r.2+r.1*B (i+b.length)=V row+x*B i*V b∧ ∀j,i+b.length≤j→r.2[j]? = row[j]? := by
 refine jJ (ei:=fun w:Int×Int×List Int=> ∃(j:Nat),w.2.1=(j:Int)∧j≤b.length∧0≤w.1∧w.1<1000000000∧cz w.2.2∧w.2.2.length=row.length∧V w.2.2+w.1*B (i+j)=V row+x*B i*V (b.take j)∧ ∀j,i+b.length≤j→w.2.2[j]? = row[j]?) (m:=fun w:Int×Int×List Int=>b.length-w.2.1.toNat) _ ?_ _ ⟨0,rfl,by omega,by simp,by simp,c8,rfl,by simp [V],fun _ _=>rfl⟩
 rintro ⟨carry,aaT,en⟩ ⟨j,o,aC,l1,l4,jk,hlen,aY,kf⟩
 simp only at o l1 l4 jk hlen aY kf ⊢
 subst o
 by_cases ZG:j=b.length
 ·subst ZG
  refine .inr ⟨(carry,en),by simp [Bk],l1,l4,jk,hlen,by simpa using aY,kf⟩
 ·have aS:=List.getElem?_eq_getElem (show j<b.length by omega)
  have cd:=List.getElem?_eq_getElem (show i+j<en.length by omega)
  have nG:=aM.get aS
  have qD:=jk.get cd
  obtain ⟨hd,fW⟩:=za aa nG
  rw [UZ aS cd aa nG qD ⟨l1,l4⟩ (by omega)]
  refine .inl ⟨_,rfl,⟨j+1,rfl,by omega,by simp only;omega,by simp only;omega,jk.set (by omega),by simpa using hlen,?_,fun g7 rh=> ?_⟩,by simp;omega⟩
  ·simp only
   rw [ra cd,rO aS,← Nat.add_assoc,lQ]
   rw [zi] at aY ⊢
   have:=Int.mul_ediv_add_emod (en[i+j]+x*b[j]+carry) 1000000000
   generalize (en[i+j]+x*b[j]+carry) / 1000000000=u at *
   generalize (en[i+j]+x*b[j]+carry) % 1000000000=t at *
   grind
  ·rw [← kf g7 rh]
   exact List.getElem?_set_ne (by omega)
theorem Hu {a b:List Int}(bA:cz a)(aM:cz b)(a1:a.length≤1000000)(hm:b.length≤1000000):
 ∃r,BO b a a.length 0 (List.replicate (a.length+b.length) 0)=some r∧cz r∧r.length=a.length+b.length∧V r=V a*V b:=by
 refine jJ (ei:=fun w:Int×List Int=> ∃(i:Nat),w.1=(i:Int)∧i≤a.length∧cz w.2∧w.2.length=a.length+b.length∧V w.2=V (a.take i)*V b∧ ∀j,i+b.length≤j→j<a.length+b.length→w.2[j]? = some 0) (m:=fun w:Int×List Int=>a.length-w.1.toNat) _ ?_ _ ⟨0,rfl,by omega,cz.Jv _,by simp,by simp [V,Is],fun j _ h=>by simp [List.getElem?_replicate,h]⟩
 rintro ⟨ii,row⟩ ⟨i,o,af,jk,hlen,aY,h0⟩
 simp only at o jk hlen aY h0 ⊢
 subst o
 by_cases Al:i=a.length
 ·subst Al
  refine .inr ⟨row,by simp [F6],jk,hlen,by simpa using aY⟩
 ·have aa:=List.getElem?_eq_getElem (show i<a.length by omega)
  have h3:=bA.get aa
  obtain ⟨r,an,l1,l4,Yx,OM,zQ,kf⟩:=U0 (i:=i) (t26:=a) (t27:=a.length) aM jk h3 (by omega) (by omega)
  have e:U ((i:Int)+(b.length:Int))=((i+b.length:Nat):Int):=by rw [cP (by omega) (by omega)];rfl
  have cd:r.2[i+b.length]? = some 0:=by rw [kf _ (Nat.le_refl _)];exact h0 _ (Nat.le_refl _) (by omega)
  refine .inl ⟨(((i+1:Nat):Int),r.2.set (i+b.length) r.1),?_,⟨i+1,rfl,by omega,Yx.set ⟨l1,l4⟩,by simp;omega,?_,fun j acC ZH=> ?_⟩,by simp;omega⟩
  ·unfold F6
   rw [if_pos (by simp;omega),if_pos (by omega),Int.toNat_natCast,aa]
   simp only [Option.bind_eq_bind,Option.bind_some,fY]
   rw [an]
   simp only [Option.bind_some,e,Int.toNat_natCast,Nat.zero_add]
   rw [if_pos (by omega),if_pos (by omega),pb (n:=i) (by omega)]
  ·simp only
   rw [ra cd,rO aa]
   grind
  ·simp only
   rw [List.getElem?_set_ne (by omega),kf _ (by omega)]
   exact h0 _ (by omega) ZH
theorem mul_eq {a b:List Int}(bA:cz a)(aM:cz b)(a1:a.length≤1000000)(hm:b.length≤1000000):B9 a b=some (L (V a*V b)):=by
 unfold B9
 simp only [fY]
 by_cases o:a=[]
 ·subst o
  simp [V,oG]
 ·by_cases R:b=[]
  ·subst R
   simp [o,V,oG]
  ·obtain ⟨r,an,ae,ay,aK⟩:=Hu bA aM a1 hm
   have e:U ((a.length:Int)+(b.length:Int))=((a.length+b.length:Nat):Int):=by rw [cP (by omega) (by omega)];rfl
   rw [if_neg (by simp [o]),if_neg (by simp [R]),e,if_pos (by omega),Int.toNat_natCast,an]
   simp only [Option.bind_eq_bind,Option.bind_some]
   rw [yz ae (by omega),aK]
   rfl
theorem T3:GU=BO:=rfl
theorem Ty:GF=BO:=rfl
theorem Cx {a b:List Int}(bA:cz a)(aM:cz b)(a1:a.length≤1000000)(hm:b.length≤1000000):pD a b=some (L (V a*V b)):=by
 unfold pD
 simp only [fY]
 by_cases o:a=[]
 ·subst o
  simp [V,oG]
 ·by_cases R:b=[]
  ·subst R
   simp [o,V,oG]
  ·obtain ⟨r,an,ae,ay,aK⟩:=Hu bA aM a1 hm
   have e:U ((a.length:Int)+(b.length:Int))=((a.length+b.length:Nat):Int):=by rw [cP (by omega) (by omega)];rfl
   rw [if_neg (by simp [o]),if_neg (by simp [R]),e,if_pos (by omega),Int.toNat_natCast,T3,an]
   simp only [Option.bind_eq_bind,Option.bind_some]
   rw [wI ae (by omega),aK]
   rfl
theorem Mx {a b:List Int}(bA:cz a)(aM:cz b)(o:a≠[])(R:b≠[])(a1:a.length≤1000000)(hm:b.length≤1000000):
 ∃k r,wa a b=some (k,r)∧k≤r.length∧r.length=a.length+b.length∧r.take k=L (V a*V b)∧cz r:=by
 obtain ⟨r,an,ae,ay,aK⟩:=Hu bA aM a1 hm
 obtain ⟨k,aU,bI,bQ⟩:=UY ae (by omega)
 refine ⟨k,r,?_,bI,ay,by rw [bQ,aK],ae⟩
 unfold wa
 simp only [fY]
 have e:U ((a.length:Int)+(b.length:Int))=((a.length+b.length:Nat):Int):=by rw [cP (by omega) (by omega)];rfl
 rw [if_neg (by simp [o]),if_neg (by simp [R]),e,if_pos (by omega),Int.toNat_natCast,Ty,an]
 simp only [Option.bind_eq_bind,Option.bind_some]
 rw [aU]
 rfl
theorem zn {x:Int}(o:0≤x)(R:x<18446744073709551616):IntKind.wrap .u64 x=x:=by
 simp only [IntKind.wrap,IntKind.signed,IntKind.bits]
 have:((2:Int) ^ 64)=18446744073709551616:=by decide
 simp
 omega
theorem X2 {x:Int}(o:-9223372036854775808≤x)(R:x<9223372036854775808):IntKind.wrap .i64 x=x:=cP o R
theorem eE.snoc {l:List Int}{x:Int}(h:cz l)(aa:0<x∧x<1000000000):eE (l++[x]):=⟨h.append (cz.cons (by omega) cz.nil),fun y aS=>by
 rw [List.getLast?_append] at aS
 simp at aS
 omega⟩
theorem MX {N:Int}(fO:N<18446744073709551616){n:Int}{row:List Int}(h:0≤n∧cz row∧V row+B row.length*n=N∧(n=0→eE row)∧((row.length=0∧n<18446744073709551616)∨(row.length=1∧n<20000000000)∨(row.length=2∧n<20)∨(row.length=3∧n=0)))(a1:0<n):
 (fun (n:Int) (row:List Int)=>0≤n∧cz row∧V row+B row.length*n=N∧(n=0→eE row)∧((row.length=0∧n<18446744073709551616)∨(row.length=1∧n<20000000000)∨(row.length=2∧n<20)∨(row.length=3∧n=0))) (n / 1000000000) (row++[n % 1000000000]):=by
 obtain ⟨h0,o,R,ae,ay⟩:=h
 refine ⟨by omega,o.append (cz.cons (by omega) cz.nil),?_,fun aK=>eE.snoc o (by omega),?_⟩
 ·rw [wA,List.length_append,List.length_singleton,lQ,kx,zj]
  have:=Int.mul_ediv_add_emod n 1000000000
  generalize n / 1000000000=u at *
  generalize n % 1000000000=t at *
  grind
 ·rw [List.length_append,List.length_singleton]
  omega
theorem Cy {n:Int}(h:0≤n)(a1:n<9223372036854775808):wm n=some (L n):=by
 have : ∃r,iter (fun w:Int×List Int=>Bq w.1 w.2) (n,[])=some r∧r=L n:=by
  refine jJ (ei:=fun w:Int×List Int=>w.1≤n∧0≤w.1∧cz w.2∧V w.2+B w.2.length*w.1=n∧(w.1=0→eE w.2)∧((w.2.length=0∧w.1<18446744073709551616)∨(w.2.length=1∧w.1<20000000000)∨(w.2.length=2∧w.1<20)∨(w.2.length=3∧w.1=0))) (m:=fun w:Int×List Int=>w.1.toNat) _ ?_ _ ⟨Int.le_refl _,h,cz.nil,by simp [V,B],fun _=>eE.nil,.inl ⟨rfl,by simp only;omega⟩⟩
  rintro ⟨m,row⟩ ⟨hm,cW⟩
  simp only at hm cW
  obtain ⟨h0,o,R,ae,ay⟩:=id cW
  by_cases iM:0<m
  ·have:=MX (by omega) cW iM
   refine .inl ⟨(m / 1000000000,row++[m % 1000000000]),?_,⟨by simp only;omega,this⟩,by simp only;omega⟩
   unfold Bq
   rw [if_pos (by simp;omega),st (by omega),oC (by omega),if_pos (by simp;omega),cP (by omega) (by omega)]
  ·refine .inr ⟨row,by simp [Bq,iM],?_⟩
   have m1:m=0:=by omega
   refine uj (ae m1) ?_
   rw [m1] at R
   simpa using R
 obtain ⟨r,an,rfl⟩:=this
 unfold wm LK
 rw [an]
 rfl
theorem Hn {n:Int}(h:0≤n)(a1:n<18446744073709551616):tD n=some (L n):=by
 have : ∃r,iter (fun w:Int×List Int=>vx w.1 w.2) (n,[])=some r∧r=L n:=by
  refine jJ (ei:=fun w:Int×List Int=>w.1≤n∧0≤w.1∧cz w.2∧V w.2+B w.2.length*w.1=n∧(w.1=0→eE w.2)∧((w.2.length=0∧w.1<18446744073709551616)∨(w.2.length=1∧w.1<20000000000)∨(w.2.length=2∧w.1<20)∨(w.2.length=3∧w.1=0))) (m:=fun w:Int×List Int=>w.1.toNat) _ ?_ _ ⟨Int.le_refl _,h,cz.nil,by simp [V,B],fun _=>eE.nil,.inl ⟨rfl,by simp only;omega⟩⟩
  rintro ⟨m,row⟩ ⟨hm,cW⟩
  simp only at hm cW
  obtain ⟨h0,o,R,ae,ay⟩:=id cW
  by_cases iM:0<m
  ·have:=MX (by omega) cW iM
   refine .inl ⟨(m / 1000000000,row++[m % 1000000000]),?_,⟨by simp only;omega,this⟩,by simp only;omega⟩
   unfold vx
   rw [if_pos (by simp;omega),st (by omega),oC (by omega),X2 (x:=m % 1000000000) (by omega) (by omega),if_pos (by simp;omega),zn (by omega) (by omega)]
  ·refine .inr ⟨row,by simp [vx,iM],?_⟩
   have m1:m=0:=by omega
   refine uj (ae m1) ?_
   rw [m1] at R
   simpa using R
 obtain ⟨r,an,rfl⟩:=this
 unfold tD GC
 rw [an]
 rfl
def oo (x:Int):Bool:=decide (0≤x) && decide (x<1000000000)
theorem HV (l:List Int):l.all oo=true↔cz l:=by
 simp [oo,cz]
theorem Ho {a:List Int}(h:a≠[]): ∃x,a[a.length-1]? = some x∧(eE a↔cz a∧x≠0):=by
 have ak:=List.length_pos_iff.mpr h
 refine ⟨a[a.length-1],List.getElem?_eq_getElem (by omega),?_⟩
 have e:a.getLast? = some a[a.length-1]:=by rw [List.getLast?_eq_getElem?];exact List.getElem?_eq_getElem (by omega)
 constructor
 ·exact fun h=>⟨h.1,h.2 _ e⟩
 ·refine fun h=>⟨h.1,fun x aa=> ?_⟩
  rw [e] at aa
  rw [← Option.some.inj aa]
  exact h.2
theorem O1 {a:List Int}(h:a≠[])(hm:(a.length:Int)<9223372036854775807):U ((a.length:Int)-1)=((a.length-1:Nat):Int):=by
 have ak:=List.length_pos_iff.mpr h
 rw [cP (by omega) (by omega)]
 omega
theorem Ur (x:Int):Hm x 0 999999999=some (oo x):=by
 unfold Hm oo
 by_cases h:0≤x
 ·simp [h];omega
 ·simp [h]
theorem My {a:List Int}(hm:(a.length:Int)<9223372036854775807): ∃ok,wo a=some ok∧(ok=true↔eE a∧a.length≤60):=by
 have o:iter (fun w:Int=>Br a a.length w) 0=some (if a.all oo then .inl () else .inr ()):=by
  refine VH a oo (fun n x aa=> ?_) (by simp [Br])
  have:=ft aa
  unfold Br
  rw [if_pos (by simp;omega),if_pos (by omega),Int.toNat_natCast,aa]
  simp only [Option.bind_eq_bind,Option.bind_some,Ur]
  rw [nc (by omega)]
  cases oo x<;>rfl
 unfold wo LL
 simp only [fY]
 rw [o]
 by_cases qe:a.all oo=true
 ·have zN:=(HV a).1 qe
  simp only [qe,if_true,Option.bind_eq_bind,Option.bind_some]
  by_cases xy:a.length≤60
  ·rw [if_pos (by simp;omega)]
   by_cases h0:a=[]
   ·subst h0
    exact ⟨true,rfl,by simp [eE.nil]⟩
   ·obtain ⟨x,aa,a1⟩:=Ho h0
    have ak:=List.length_pos_iff.mpr h0
    rw [if_neg (by simp [h0]),O1 h0 hm,if_pos (by omega),Int.toNat_natCast,aa]
    refine ⟨_,rfl,?_⟩
    rw [a1]
    simp [zN,xy]
  ·rw [if_neg (by simp;omega)]
   exact ⟨false,rfl,by simp;omega⟩
 ·have zN : ¬cz a:=fun h=>qe ((HV a).2 h)
  simp only [Bool.not_eq_true] at qe
  refine ⟨false,by simp [qe],?_⟩
  simp only [Bool.false_eq_true,false_iff]
  exact fun h=>zN h.1.1
theorem Us (x:Int):yl x=some (!oo x):=by
 unfold yl oo
 by_cases h:x<0
 ·simp [h]
 ·rw [if_neg (by simp [h])]
  congr 1
  rw [Bool.eq_iff_iff]
  simp
  omega
theorem L6 {a:List Int}(hm:(a.length:Int)<9223372036854775807):vm a=some (!(a.all oo)):=by
 obtain ⟨r,an,h⟩:=MW (f:=fun w:Int=>va a a.length w) a (fun x=> !oo x) (fun n x aa=>by
  have:=ft aa
  unfold va
  rw [if_pos (by simp;omega),if_pos (by omega),Int.toNat_natCast,aa]
  simp only [Option.bind_eq_bind,Option.bind_some,Us]
  rw [nc (by omega)]
  cases oo x<;>rfl) (by simp [va])
 have e:a.any (fun x=> !oo x) = !(a.all oo):=by rw [List.not_all_eq_any_not]
 rw [e] at h
 unfold vm A7 E1
 simp only [fY]
 rw [an]
 rcases h with ⟨k,rfl,aU,h⟩|⟨rfl,h⟩
 ·simp only [Option.bind_eq_bind,Option.bind_some]
  rw [h]
  simp [aU]
 ·simp only [Option.bind_eq_bind,Option.bind_some]
  rw [h]
  rfl
theorem Ut {a:List Int}(hm:(a.length:Int)<9223372036854775807): ∃ok,tM a=some ok∧(ok=true↔eE a∧a.length≤60):=by
 unfold tM
 simp only [fY]
 by_cases xy:60<a.length
 ·rw [if_pos (by simp;omega)]
  exact ⟨false,rfl,by simp;omega⟩
 ·rw [if_neg (by simp;omega)]
  by_cases h0:a=[]
  ·subst h0
   exact ⟨true,by simp [L6],by simp [eE.nil]⟩
  ·obtain ⟨x,aa,a1⟩:=Ho h0
   have ak:=List.length_pos_iff.mpr h0
   rw [if_pos (by simp;omega),O1 h0 hm,if_pos (by omega),Int.toNat_natCast,aa]
   simp only [Option.bind_eq_bind,Option.bind_some]
   rw [a1]
   by_cases h3:x=0
   ·exact ⟨false,by simp [h3],by simp [h3]⟩
   ·rw [if_neg (by simp [h3]),L6 hm]
    refine ⟨_,rfl,?_⟩
    rw [← HV]
    simp [h3]
    omega
theorem Mz {a:List Int}(hm:(a.length:Int)<9223372036854775807): ∃ok,wo a=some ok∧tM a=some ok∧(ok=true↔eE a∧a.length≤60):=by
 obtain ⟨bY,o,R⟩:=My hm
 obtain ⟨a9,ae,ay⟩:=Ut hm
 have:a9=bY:=Bool.eq_iff_iff.mpr (ay.trans R.symm)
 exact ⟨bY,o,this▸ae,R⟩
theorem L7 {a:List Int}(bA:eE a)(xy:a.length≤60)(aY:V a<9223372036854775808):BX a=some (V a,true):=by
 obtain ⟨ok,o,R⟩:=My (a:=a) (by omega)
 have lZ:ok=true:=R.2 ⟨bA,xy⟩
 subst lZ
 have aP:eE [854775807,223372036,9]:=⟨by intro x aa;simp at aa;omega,by simp⟩
 have JM:V [854775807,223372036,9]=9223372036854775807:=by decide
 unfold BX
 rw [o]
 simp only [Option.bind_eq_bind,Option.bind_some,if_true]
 rw [wR bA aP (by omega),JM]
 have : ∃r,iter (fun w:Int×Int=>Bd a w.1 w.2) (0,(a.length:Int)-1)=some r∧r=V a:=by
  refine jJ (ei:=fun w:Int×Int=> ∃k:Nat,w.2=(k:Int)-1∧k≤a.length∧w.1=V (a.drop k)) (m:=fun w:Int×Int=>(w.2+1).toNat) _ ?_ _ ⟨a.length,rfl,by omega,by simp [V]⟩
  rintro ⟨n,i⟩ ⟨k,ae,aU,ay⟩
  simp only at ae ay
  subst ae ay
  cases k with
  | zero=>exact .inr ⟨V a,by simp [Bd],rfl⟩
  | succ k =>
   have aa:=List.getElem?_eq_getElem (show k<a.length by omega)
   have h3:=bA.1.get aa
   have aK:=nW aa
   have bI:=ke (bA.1.drop (k+1))
   have bQ:V (a.drop k)≤V a:=by
    have bE:=tV (l:=a) (n:=k) (by omega)
    have c6:=ke (bA.1.take k)
    have dj:=ke (bA.1.drop k)
    have eu:1*V (a.drop k)≤B k*V (a.drop k):=Int.mul_le_mul_of_nonneg_right (n8 k) dj
    omega
   refine .inl ⟨(V (a.drop k),(k:Int)-1),?_,⟨k,rfl,by omega,rfl⟩,by simp only;omega⟩
   unfold Bd
   rw [show ((k+1:Nat):Int)-1=k by omega,if_pos (by simp),if_pos (by omega),Int.toNat_natCast,aa]
   simp only [Option.bind_eq_bind,Option.bind_some]
   rw [pT (by omega),cP (x:=V (a.drop (k+1))*1000000000) (by omega) (by omega),cP (by omega) (by omega),aK]
   congr 3
   omega
 obtain ⟨r,an,rfl⟩:=this
 unfold ly Ll
 simp only [fY]
 rw [pT (by omega),an]
 have ae : ¬(9223372036854775807:Int)<V a:=by omega
 by_cases ay:V a<9223372036854775807<;>simp [ae,ay]
theorem VW {a b row:List Int}{less x:Int}{i:Nat}(aM:cz b)(aa:a[i]? = some x)(h3:0≤x∧x<1000000000)(aG:less=0∨less=1)(a1:a.length≤1000000)(hm:b.length≤1000000)(an:row.length≤1000000):
 ∃y,0≤y∧y<1000000000∧(∀z,b[i]? = some z→y=z)∧(b[i]? = none→y=0) ∧
 xY a b a.length less i row=some (.inl (if x-less-y<0 then (1,((i+1:Nat):Int),row++[x-less-y+1000000000]) else (0,((i+1:Nat):Int),row++[x-less-y]))):=by
 have af:=ft aa
 unfold xY
 rw [if_pos (by simp;omega),if_pos (by omega),Int.toNat_natCast,aa]
 simp only [Option.bind_eq_bind,Option.bind_some,fY]
 by_cases ZI:i<b.length
 ·have aS:=List.getElem?_eq_getElem ZI
  have nG:=aM.get aS
  refine ⟨b[i],nG.1,nG.2,fun z cd=>by rw [aS] at cd;exact Option.some.inj cd,fun h=>by rw [aS] at h;simp at h,?_⟩
  rw [if_pos (by simp;omega),if_pos (by omega),aS]
  simp only [Option.bind_some]
  rw [cP (x:=x-less) (by omega) (by omega),cP (x:=x-less-b[i]) (by omega) (by omega),pb (n:=i) (by omega),cP (x:=x-less-b[i]+1000000000) (by omega) (by omega)]
  by_cases h:x-less-b[i]<0
  ·rw [if_pos (by simp [h]),if_pos (by simp;omega)]
   simp [h]
  ·rw [if_neg (by simp [h]),if_pos (by simp;omega)]
   simp [h]
 ·have aS:b[i]? = none:=by simp;omega
  refine ⟨0,by omega,by omega,fun z cd=>by rw [aS] at cd;simp at cd,fun _=>rfl,?_⟩
  rw [if_neg (by simp;omega),cP (x:=x-less) (by omega) (by omega),pb (n:=i) (by omega),cP (x:=x-less+1000000000) (by omega) (by omega),Int.sub_zero]
  by_cases h:x-less<0
  ·rw [if_pos (by simp [h]),if_pos (by simp;omega)]
   simp [h]
  ·rw [if_neg (by simp [h]),if_pos (by simp;omega)]
   simp [h]
theorem Nn {b:List Int}{i:Nat}{y:Int}(o:∀z,b[i]? = some z→y=z)(R:b[i]? = none→y=0):V (b.take (i+1))=V (b.take i)+B i*y:=by
 cases h:b[i]? with
 | some z=>rw [o z h,rO h]
 | none =>
  rw [R h]
  have:b.length≤i:=by simpa using h
  rw [List.take_of_length_le (by omega),List.take_of_length_le (by omega)]
  simp
theorem sub_eq {a b:List Int}(bA:cz a)(aM:cz b)(hlen:b.length≤a.length)(qI:V b≤V a)(a1:a.length≤1000000):Hf a b=some (L (V a-V b)):=by
 have : ∃r,iter (fun w:Int×Int×List Int=>xY a b a.length w.1 w.2.1 w.2.2) (0,0,[])=some r∧cz r∧r.length=a.length∧V r=V a-V b:=by
  refine jJ (ei:=fun w:Int×Int×List Int=> ∃i:Nat,w.2.1=i∧i≤a.length∧(w.1=0∨w.1=1)∧cz w.2.2∧w.2.2.length=i∧V w.2.2-w.1*B i=V (a.take i)-V (b.take i)) (m:=fun w:Int×Int×List Int=>a.length-w.2.1.toNat) _ ?_ _ ⟨0,rfl,by omega,.inl rfl,cz.nil,rfl,by simp [V]⟩
  rintro ⟨less,ii,row⟩ ⟨i,o,af,aG,jk,uK,aY⟩
  simp only at o aG jk uK aY ⊢
  subst o
  by_cases Al:i=a.length
  ·refine .inr ⟨row,by simp [xY,Al],jk,by omega,?_⟩
   rw [Al] at aY
   rw [List.take_length,List.take_of_length_le hlen] at aY
   have R:=lV jk
   rw [uK,Al] at R
   rcases aG with rfl|rfl<;>omega
  ·have aa:=List.getElem?_eq_getElem (show i<a.length by omega)
   have h3:=bA.get aa
   obtain ⟨y,Am,acD,ZJ,ZK,he⟩:=VW (row:=row) aM aa h3 aG a1 (by omega) (by omega)
   rw [he]
   refine .inl ⟨_,rfl,?_⟩
   have ae:=rO aa
   have ay:=Nn ZJ ZK
   by_cases h:a[i]-less-y<0
   ·rw [if_pos h]
    refine ⟨⟨i+1,rfl,by omega,.inr rfl,jk.append (cz.cons (by omega) cz.nil),by simp [uK],?_⟩,by simp only;omega⟩
    simp only
    rw [ae,ay,wA,uK,lQ,kx,zj]
    grind
   ·rw [if_neg h]
    refine ⟨⟨i+1,rfl,by omega,.inl rfl,jk.append (cz.cons (by omega) cz.nil),by simp [uK],?_⟩,by simp only;omega⟩
    simp only
    rw [ae,ay,wA,uK,kx,zj]
    grind
 obtain ⟨r,an,o,R,ae⟩:=this
 unfold Hf LA
 simp only [fY]
 rw [an]
 simp only [Option.bind_eq_bind,Option.bind_some]
 rw [yz o (by omega),ae]
 rfl
theorem q2 {l:List Int}(h:cz l){k:Nat}(aU:k≤l.length):B k*V (l.drop k)≤V l∧V l<B k*(V (l.drop k)+1):=by
 have o:=tV aU
 have R:=ke (h.take k)
 have ae:=lV (h.take k)
 rw [List.length_take,Nat.min_eq_left aU] at ae
 rw [Int.mul_add,Int.mul_one]
 omega
theorem yK {l:List Int}{k:Nat}{x:Int}(aa:l[k]? = some x)(aG:l.length=k+1):V (l.drop k)=x:=by
 rw [nW aa,List.drop_of_length_le (by omega)]
 simp [V]
theorem LP {aR W t d P:Int}(fF:1≤P)(DJ:P*t≤aR)(JN:aR<P*(t+1))(tb:P*d≤W)(DK:W<P*(d+1))(ba:0<d)(ch:0≤t)(JO:aR<1000000000*W):t / (d+1)≤aR / W∧aR / W≤t / d∧aR / W≤999999999:=by
 have hW:0<W:=by
  have:=Int.mul_pos (a:=P) (b:=d) (by omega) ba
  omega
 have cK:0≤aR:=by
  have:=Int.mul_nonneg (a:=P) (b:=t) (by omega) ch
  omega
 refine ⟨?_,?_,?_⟩
 ·apply (Int.le_ediv_iff_mul_le hW).2
  have o:t / (d+1)*(d+1)≤t:=Int.ediv_mul_le _ (by omega)
  have R:0≤t / (d+1):=Int.ediv_nonneg ch (by omega)
  have ae:t / (d+1)*W≤t / (d+1)*(P*(d+1)):=Int.mul_le_mul_of_nonneg_left (by omega) R
  have ay:P*(t / (d+1)*(d+1))≤P*t:=Int.mul_le_mul_of_nonneg_left o (by omega)
  have aK:t / (d+1)*(P*(d+1))=P*(t / (d+1)*(d+1)):=by grind
  omega
 ·apply (Int.le_ediv_iff_mul_le ba).2
  have o:aR / W*W≤aR:=Int.ediv_mul_le _ (by omega)
  have R:0≤aR / W:=Int.ediv_nonneg cK (by omega)
  have ae:aR / W*(P*d)≤aR / W*W:=Int.mul_le_mul_of_nonneg_left tb R
  have ay:aR / W*(P*d)=P*(aR / W*d):=by grind
  have aK:P*(aR / W*d)<P*(t+1):=by omega
  have:=Int.lt_of_mul_lt_mul_left aK (by omega)
  omega
 ·have:=Int.ediv_lt_of_lt_mul hW JO
  omega
theorem NX {a b:Int}:ly a b≤0↔a≤b:=by
 unfold ly
 by_cases h:a<b
 ·simp [h];omega
 ·by_cases R:b<a
  ·simp [h,R]
  ·simp [h,R];omega
theorem wJ {a b:Int}:ly a b<0↔a<b:=by
 unfold ly
 by_cases h:a<b
 ·simp [h]
 ·by_cases R:b<a
  ·simp [h,R]
  ·simp [h,R]
theorem Hv {a b:Int}:ly a b=0↔a=b:=by
 unfold ly
 by_cases h:a<b
 ·simp [h];omega
 ·by_cases R:b<a
  ·simp [h,R];omega
  ·simp [h,R];omega
theorem MA {r b:List Int}(an:eE r)(aM:eE b)(kl:b≠[])(a1:r.length≤1000000)(hm:b.length≤1000000){bD af:Int}(h0:0≤bD)(o:bD≤V r / V b)(R:V r / V b≤af)(ae:af≤999999999):Gz r b bD af=some (V r / V b):=by
 have lq:=qu aM kl
 have : ∃q,iter (fun w:Int×Int=>xU r b w.1 w.2) (bD,af)=some q∧q=V r / V b:=by
  refine jJ (ei:=fun w:Int×Int=>0≤w.1∧w.1≤V r / V b∧V r / V b≤w.2∧w.2≤999999999) (m:=fun w:Int×Int=>(w.2-w.1).toNat) _ ?_ _ ⟨h0,o,R,ae⟩
  rintro ⟨l,h⟩ ⟨g0,g1,g2,g3⟩
  simp only at g0 g1 g2 g3
  by_cases di:l<h
  ·have ax:U ((U ((U (l+h))+(1:Int))).tdiv (2:Int))=(l+h+1) / 2:=by
    rw [cP (x:=l+h) (by omega) (by omega),cP (x:=l+h+1) (by omega) (by omega),oC (by omega),cP (by omega) (by omega)]
   have m1:0≤(l+h+1) / 2:=by omega
   have qa:(l+h+1) / 2<1000000000:=by omega
   have PF:(L ((l+h+1) / 2)).length≤1:=(hE m1).2 (by simpa [B] using qa)
   have aF:xU r b l h=some (.inl (if V b*((l+h+1) / 2)≤V r then ((l+h+1) / 2,h) else (l,(l+h+1) / 2-1))):=by
    unfold xU
    rw [if_pos (by simp [di]),ax,Cy m1 (by omega)]
    simp only [Option.bind_eq_bind,Option.bind_some]
    rw [mul_eq aM.1 (j1 _) hm (by omega),fa m1]
    simp only [Option.bind_some]
    have ak:0≤V b*((l+h+1) / 2):=Int.mul_nonneg (by omega) m1
    have hlen:(L (V b*((l+h+1) / 2))).length≤b.length+1:=(hE ak).2 (by
     rw [lQ]
     have aK:=lV aM.1
     have:V b*((l+h+1) / 2)≤V b*1000000000:=Int.mul_le_mul_of_nonneg_left (by omega) (by omega)
     omega)
    rw [wR (iX _) an (by omega),fa ak]
    simp only [Option.bind_some]
    by_cases aP:V b*((l+h+1) / 2)≤V r
    ·rw [if_pos (by simpa using NX.2 aP),if_pos aP]
    ·rw [if_neg (fun h=>aP (NX.1 (by simpa using h))),if_neg aP,cP (by omega) (by omega)]
   rw [aF]
   refine .inl ⟨_,rfl,?_⟩
   by_cases aP:V b*((l+h+1) / 2)≤V r
   ·rw [if_pos aP]
    have:(l+h+1) / 2≤V r / V b:=(Int.le_ediv_iff_mul_le lq).2 (by rw [Int.mul_comm];exact aP)
    exact ⟨⟨by simp only;omega,this,g2,g3⟩,by simp only;omega⟩
   ·rw [if_neg aP]
    have:V r / V b<(l+h+1) / 2:=(Int.ediv_lt_iff_lt_mul lq).2 (by rw [Int.mul_comm];omega)
    exact ⟨⟨g0,g1,by simp only;omega,by simp only;omega⟩,by simp only;omega⟩
  ·exact .inr ⟨l,by simp [xU,di],by omega⟩
 obtain ⟨q,a8,rfl⟩:=this
 exact a8
theorem C1 {b:List Int}(aM:eE b)(kl:b≠[]): ∃k d,b.length=k+1∧b[k]? = some d∧0<d∧d<1000000000∧V (b.drop k)=d:=by
 have ak:=List.length_pos_iff.mpr kl
 obtain ⟨x,aa,h⟩:=Ho kl
 have o:=h.1 aM
 have R:=o.1.get aa
 exact ⟨b.length-1,x,by omega,aa,by omega,R.2,yK aa (by omega)⟩
theorem VX {r b:List Int}(an:eE r)(aM:eE b)(kl:b≠[])(a1:r.length≤1000000)(hm:b.length≤1000000)(o:V b≤V r)(R:V r<1000000000*V b):GY r b=some (V r / V b):=by
 obtain ⟨k,d,aU,ba,p1,qb,tc⟩:=C1 aM kl
 have Px:b.length≤r.length:=Nat.le_of_not_lt fun h=>by
  have:=CH an aM h
  omega
 have Py:r.length≤b.length+1:=an.len.2 (by
  have:=lV aM.1
  rw [lQ]
  omega)
 have rf:=q2 aM.1 (k:=k) (by omega)
 rw [tc] at rf
 have hR:=q2 an.1 (k:=k) (by omega)
 have aa:=List.getElem?_eq_getElem (show k<r.length by omega)
 have h3:=an.1.get aa
 have hw:U ((b.length:Int)-1)=(k:Int):=by rw [cP (by omega) (by omega)];omega
 have lE:=ke (an.1.drop k)
 have DL:=LP (n8 k) hR.1 hR.2 rf.1 rf.2 p1 lE R
 have acE:=ke an.1
 have hW:=qu aM kl
 unfold GY
 simp only [fY,hw]
 rw [if_pos (by omega),Int.toNat_natCast,aa]
 simp only [Option.bind_eq_bind,Option.bind_some]
 by_cases hlen:b.length<r.length
 ·have aS:=List.getElem?_eq_getElem hlen
  have nG:=an.1.get aS
  have m3:V (r.drop (k+1))=r[b.length]:=by
   rw [← aU]
   exact yK aS (by omega)
  have ch:V (r.drop k)=r[k]+1000000000*r[b.length]:=by rw [nW aa,m3]
  rw [ch] at DL lE
  have nB:0≤(r[k]+1000000000*r[b.length]) / (d+1):=Int.ediv_nonneg lE (by omega)
  have qB:(r[k]+1000000000*r[b.length]) / (d+1)≤r[k]+1000000000*r[b.length]:=Int.ediv_le_self _ lE
  have w9:0≤(r[k]+1000000000*r[b.length]) / d:=Int.ediv_nonneg lE (by omega)
  have ZL:(r[k]+1000000000*r[b.length]) / d≤r[k]+1000000000*r[b.length]:=Int.ediv_le_self _ lE
  rw [if_pos (by simp;omega),if_pos (by omega),Int.toNat_natCast,aS]
  simp only [Option.bind_some]
  rw [if_pos (by omega),ba]
  simp only [Option.bind_some]
  have ax:U (d+1)=d+1:=cP (by omega) (by omega)
  have aF:U (r[k]+U (r[b.length]*1000000000))=r[k]+1000000000*r[b.length]:=by
   rw [cP (x:=r[b.length]*1000000000) (by omega) (by omega),cP (by omega) (by omega),Int.mul_comm]
  rw [ax,if_pos (by omega),if_pos (by omega),aF,oC lE,oC lE,cP (by omega) (by omega),cP (x:=(r[k]+1000000000*r[b.length]) / d) (by omega) (by omega)]
  rw [MA an aM kl a1 hm nB DL.1 (by split<;>omega) (by split<;>omega)]
  rfl
 ·have ch:V (r.drop k)=r[k]:=yK aa (by omega)
  rw [ch] at DL lE
  have nB:0≤r[k] / (d+1):=Int.ediv_nonneg lE (by omega)
  have qB:r[k] / (d+1)≤r[k]:=Int.ediv_le_self _ lE
  have w9:0≤r[k] / d:=Int.ediv_nonneg lE (by omega)
  have ZL:r[k] / d≤r[k]:=Int.ediv_le_self _ lE
  rw [if_neg (by simp;omega),if_pos (by omega),ba]
  simp only [Option.bind_some]
  have ax:U (d+1)=d+1:=cP (by omega) (by omega)
  rw [ax,if_pos (by omega),if_pos (by omega),oC lE,oC lE,cP (by omega) (by omega),cP (x:=r[k] / d) (by omega) (by omega)]
  rw [MA an aM kl a1 hm nB DL.1 (by split<;>omega) (by split<;>omega)]
  rfl
theorem VY {a b:List Int}(bA:eE a)(aM:eE b)(kl:b≠[])(a1:a.length≤900000)(hm:b.length≤900000):
 ∃r,LC a b [] ((a.length:Int)-1) (List.replicate a.length 0)=some r∧r.1=L (V a % V b)∧cz r.2∧r.2.length=a.length∧V r.2=V a / V b:=by
 have lq:=qu aM kl
 refine jJ (ei:=fun w:List Int×Int×List Int=> ∃(k:Nat) (q:List Int),w.2.1=(k:Int)-1∧k≤a.length∧w.2.2=List.replicate k 0++q∧q.length+k=a.length∧cz q∧eE w.1∧V w.1<V b∧V (a.drop k)=V q*V b+V w.1) (m:=fun w:List Int×Int×List Int=>(w.2.1+1).toNat) _ ?_ _ ⟨a.length,[],rfl,by omega,by simp,by simp,cz.nil,eE.nil,by simpa [V] using lq,by simp [V]⟩
 rintro ⟨rest,i,row⟩ ⟨k,q,o,aU,R,a8,si,kj,hR,aY⟩
 simp only at o R kj hR aY ⊢
 subst o R
 have An:=ke kj.1
 cases k with
 | zero =>
  simp at aY
  refine .inr ⟨(rest,q),by simp [Bl],?_,si,by simpa using a8,?_⟩
  ·refine uj kj ?_
   rw [aY,Int.add_comm,Int.add_mul_emod_self_right]
   exact (Int.emod_eq_of_lt An hR).symm
  ·rw [aY,Int.add_comm,Int.add_mul_ediv_right _ _ (by omega),Int.ediv_eq_zero_of_lt An hR]
   simp
 | succ k =>
  have aa:=List.getElem?_eq_getElem (show k<a.length by omega)
  have h3:=bA.1.get aa
  have uK:rest.length≤b.length:=kj.len.2 (by have:=lV aM.1;omega)
  have hG:cz (a[k]::rest):=cz.cons h3 kj.1
  have JM:V (a[k]::rest)=a[k]+1000000000*V rest:=kx _ _
  have oy:0≤a[k]+1000000000*V rest:=by omega
  have acF:(L (a[k]+1000000000*V rest)).length≤b.length+1:=(hE oy).2 (by
   have:=lV aM.1
   rw [lQ]
   omega)
  have ba:=nW aa
  have Iw:Bl a b rest (k:Int) (List.replicate (k+1) 0++q)=some (.inl (if a[k]+1000000000*V rest<V b then (L (a[k]+1000000000*V rest),(k:Int)-1,List.replicate (k+1) 0++q) else (L ((a[k]+1000000000*V rest) % V b),(k:Int)-1,(List.replicate (k+1) 0++q).set k ((a[k]+1000000000*V rest) / V b)))):=by
   unfold Bl
   rw [if_pos (by simp),if_pos (by omega),Int.toNat_natCast,aa]
   simp only [Option.bind_eq_bind,Option.bind_some,List.singleton_append]
   rw [if_pos (by simp;omega),yz hG (by simp;omega),JM]
   simp only [Option.bind_some]
   rw [wR (iX _) aM (by omega),fa oy]
   simp only [Option.bind_some]
   by_cases aP:a[k]+1000000000*V rest<V b
   ·rw [if_pos (by simpa using wJ.2 aP),if_pos aP,pT (by omega)]
   ·rw [if_neg (fun h=>aP (wJ.1 (by simpa using h))),if_neg aP]
    have di:a[k]+1000000000*V rest<1000000000*V b:=by omega
    rw [VX (iX _) aM kl (by omega) (by omega) (by rw [fa oy];omega) (by rw [fa oy];exact di),fa oy]
    simp only [Option.bind_some]
    have nB:0≤(a[k]+1000000000*V rest) / V b:=Int.ediv_nonneg oy (by omega)
    have qB:(a[k]+1000000000*V rest) / V b<1000000000:=Int.ediv_lt_of_lt_mul lq di
    have acG:(L ((a[k]+1000000000*V rest) / V b)).length≤1:=(hE nB).2 (by simpa [B] using qB)
    have qa:=Int.mul_ediv_add_emod (a[k]+1000000000*V rest) (V b)
    have Ao:=Int.emod_nonneg (a[k]+1000000000*V rest) (b:=V b) (by omega)
    have Ap:0≤V b*((a[k]+1000000000*V rest) / V b):=Int.mul_nonneg (by omega) nB
    rw [if_pos (by simp;omega),if_pos (by simp;omega),Cy nB (by omega)]
    simp only [Option.bind_some]
    rw [mul_eq aM.1 (j1 _) (by omega) (by omega),fa nB]
    simp only [Option.bind_some]
    rw [sub_eq (j1 _) (j1 _) ((hE Ap).2 (by
     have:=lV (j1 (a[k]+1000000000*V rest))
     rw [fa oy] at this
     omega)) (by rw [fa oy,fa Ap];omega) (by omega),fa oy,fa Ap]
    simp only [Option.bind_some]
    rw [pT (by omega),Nat.zero_add]
    congr 4
    omega
  rw [show ((k+1:Nat):Int)-1=k by omega,Iw]
  refine .inl ⟨_,rfl,?_⟩
  by_cases aP:a[k]+1000000000*V rest<V b
  ·rw [if_pos aP]
   refine ⟨⟨k,0::q,rfl,by omega,?_,by simp;omega,cz.cons (by omega) si,iX _,by rw [fa oy];exact aP,?_⟩,by simp⟩
   ·simp only
    rw [List.replicate_succ',List.append_assoc];rfl
   ·simp only
    rw [ba,aY,kx,fa oy]
    grind
  ·rw [if_neg aP]
   have di:a[k]+1000000000*V rest<1000000000*V b:=by omega
   have Ao:=Int.emod_nonneg (a[k]+1000000000*V rest) (b:=V b) (by omega)
   refine ⟨⟨k,(a[k]+1000000000*V rest) / V b::q,rfl,by omega,HU _ _ _,by simp;omega,cz.cons ⟨Int.ediv_nonneg oy (by omega),Int.ediv_lt_of_lt_mul lq di⟩ si,iX _,by rw [fa Ao];exact Int.emod_lt_of_pos _ lq,?_⟩,by simp⟩
   simp only
   rw [ba,aY,kx,fa Ao]
   have qa:=Int.mul_ediv_add_emod (a[k]+1000000000*V rest) (V b)
   generalize (a[k]+1000000000*V rest) / V b=u at *
   generalize (a[k]+1000000000*V rest) % V b=t at *
   grind
theorem div_eq {a b:List Int}(bA:eE a)(aM:eE b)(kl:b≠[])(a1:a.length≤900000)(hm:b.length≤900000):Ca a b=some (L (V a / V b),L (V a % V b)):=by
 unfold Ca
 simp only [fY]
 by_cases o:b.length=1
 ·obtain ⟨k,d,aU,ba,p1,qb,tc⟩:=C1 aM kl
  have sb:k=0:=by omega
  subst sb
  have JP:V b=d:=by simpa using tc
  rw [if_pos (by simp [o]),if_pos (by omega),ba]
  simp only [Option.bind_eq_bind,Option.bind_some]
  have qa:=Int.emod_nonneg (V a) (b:=d) (by omega)
  have Ao:=Int.emod_lt_of_pos (V a) p1
  rw [VV bA.1 ⟨p1,qb⟩ (by omega)]
  simp only [Option.bind_some]
  rw [Cy qa (by omega),JP]
  rfl
 ·obtain ⟨r,an,ax,aF,b4,dy⟩:=VY bA aM kl a1 hm
  rw [if_neg (by simp;omega),if_pos (by omega),pT (by omega),Int.toNat_natCast,an]
  simp only [Option.bind_eq_bind,Option.bind_some]
  rw [yz aF (by omega),dy,ax]
  rfl
theorem HL {x y:Int}(aa:0≤x):Int.gcd y (x % y)=Int.gcd x y:=by
 have:=Nat.gcd_rec y.natAbs x.natAbs
 simp only [Int.gcd]
 rw [Nat.gcd_comm x.natAbs,this,Int.natAbs_emod_of_nonneg aa,Nat.gcd_comm]
theorem CN {x:Int}(aa:0≤x):(Int.gcd x 0:Int)=x:=by
 rw [Int.gcd_zero_right];omega
theorem VZ {x y:Int}(aa:0≤x)(aS:0≤y)(Aq:x<9223372036854775808)(Am:y<9223372036854775808):GW x y=some (L (Int.gcd x y)):=by
 have : ∃r,iter (fun w:Int×Int=>Be w.1 w.2) (x,y)=some r∧(r=(Int.gcd x y:Int)∧r<9223372036854775808):=by
  refine jJ (ei:=fun w:Int×Int=>0≤w.1∧0≤w.2∧w.1<9223372036854775808∧w.2<9223372036854775808∧Int.gcd w.1 w.2=Int.gcd x y) (m:=fun w:Int×Int=>w.2.toNat) _ ?_ _ ⟨aa,aS,Aq,Am,rfl⟩
  rintro ⟨u,v⟩ ⟨o,R,ae,ay,aK⟩
  simp only at o R ae ay aK
  by_cases aY:0<v
  ·have bI:=Int.emod_nonneg u (b:=v) (by omega)
   have bQ:=Int.emod_lt_of_pos u aY
   refine .inl ⟨(v,u % v),?_,⟨R,bI,ay,by simp only;omega,by rw [← aK];exact HL o⟩,by simp only;omega⟩
   unfold Be
   rw [if_pos (by simpa using aY),if_pos (by omega),st o]
  ·have PX:v=0:=by omega
   subst PX
   refine .inr ⟨u,by simp [Be],?_,ae⟩
   rw [← aK,CN o]
 obtain ⟨r,an,rfl,h⟩:=this
 unfold GW Lm
 rw [an]
 simp only [Option.bind_eq_bind,Option.bind_some]
 rw [Cy (by omega) h]
 rfl
theorem C2 {a:List Int}(bA:eE a)(h:a.length<3):V a<9223372036854775808:=by
 have o:=lV bA.1
 have R:=sL (m:=a.length) (n:=2) (by omega)
 have ae:B 2=1000000000000000000:=by decide
 omega
theorem Xh {a b:List Int}(bA:eE a)(aM:eE b)(a1:a.length≤900000)(hm:b.length≤900000):Hg a b=some (L (Int.gcd (V a) (V b))):=by
 have : ∃r,iter (fun w:List Int×List Int=>xZ w.1 w.2) (a,b)=some r∧r.elim id id=L (Int.gcd (V a) (V b)):=by
  refine jJ (ei:=fun w:List Int×List Int=>eE w.1∧eE w.2∧w.1.length≤900000∧w.2.length≤900000∧Int.gcd (V w.1) (V w.2)=Int.gcd (V a) (V b)) (m:=fun w:List Int×List Int=>(V w.2).toNat) _ ?_ _ ⟨bA,aM,a1,hm,rfl⟩
  rintro ⟨x,y⟩ ⟨o,R,ae,ay,aK⟩
  simp only at o R ae ay aK ⊢
  have h3:=ke o.1
  have nG:=ke R.1
  by_cases aS:y=[]
  ·subst aS
   refine .inr ⟨.inl x,by simp [xZ,fY],?_⟩
   rw [← aK,zj,CN h3]
   exact (se o).symm
  ·have JQ:=qu R aS
   have ZM:=List.length_pos_iff.mpr aS
   by_cases bR:x.length<3∧y.length<3
   ·refine .inr ⟨.inr (L (Int.gcd (V a) (V b))),?_,rfl⟩
    unfold xZ
    simp only [fY]
    rw [if_pos (by simp;omega),if_pos (by simp;omega),if_pos (by simp;omega),L7 o (by omega) (C2 o bR.1)]
    simp only [Option.bind_eq_bind,Option.bind_some]
    rw [L7 R (by omega) (C2 R bR.2)]
    simp only [Option.bind_some]
    rw [VZ h3 nG (C2 o bR.1) (C2 R bR.2),aK]
    rfl
   ·have uL:=Int.emod_nonneg (V x) (b:=V y) (by omega)
    have ZN:=Int.emod_lt_of_pos (V x) JQ
    refine .inl ⟨(y,L (V x % V y)),?_,⟨R,iX _,ay,(hE uL).2 ?_,?_⟩,?_⟩
    ·unfold xZ
     simp only [fY]
     rw [if_pos (by simp;omega),div_eq o R aS ae ay]
     by_cases Ar:x.length<3
     ·rw [if_pos (by simp;omega),if_neg (by simp;omega)]
      rfl
     ·rw [if_neg (by simp;omega)]
      rfl
    ·have:=lV R.1
     have:=sL ay
     omega
    ·simp only
     rw [fa uL,← aK]
     exact HL h3
    ·simp only
     rw [fa uL]
     omega
 obtain ⟨r,an,h⟩:=this
 unfold Hg LD
 rw [List.nil_append,List.nil_append,if_pos (by omega),if_pos (by omega),an]
 cases r with
 | inl r=>exact congrArg some h
 | inr r=>exact congrArg some h
def oq (p:Nat)(l:List Int):Prop:= ∀i z,i≠p→l[i]? = some z→0≤z∧z<1000000000
theorem oq.set {p:Nat}{l:List Int}(h:oq p l){k:Nat}{x:Int}(aa:0≤x∧x<1000000000):oq p (l.set k x):=fun i z af cd=>by
 by_cases aU:k=i
 ·subst aU
  rw [List.getElem?_set] at cd
  simp only [if_true] at cd
  split at cd
  ·rw [← Option.some.inj cd];exact aa
  ·simp at cd
 ·rw [List.getElem?_set_ne aU] at cd
  exact h i z af cd
theorem oq.Pn {p:Nat}{l:List Int}(h:oq p l){x:Int}:oq p (l.set p x):=fun i z af cd=>by
 rw [List.getElem?_set_ne (fun h=>af h.symm)] at cd
 exact h i z af cd
theorem cz.toE {l:List Int}(h:cz l)(p:Nat):oq p l:=fun _ _ _ cd=>h.get cd
theorem U1 {v row:List Int}{bD lW i:Nat}{h5 carry x y:Int}(aa:v[i]? = some x)(aS:row[bD+i]? = some y)(h3:0≤x∧x<1000000000)(nG:0≤y∧y<1000000000)(aM:0≤h5∧h5<1000000000)(aP:0≤carry∧carry<1000000000)(hu:i<lW)(a1:row.length≤5000000):
 ∃c z,tx bD lW v h5 v.length carry i row=some (.inl (c,((i+1:Nat):Int),row.set (bD+i) z))∧0≤c∧c<1000000000∧0≤z∧z<1000000000∧z-1000000000*c=y-h5*x-carry:=by
 have af:=ft aa
 have aC:=ft aS
 obtain ⟨hd,fW⟩:=za aM h3
 have e:U (U (y-U (h5*x))-carry)=y-h5*x-carry:=by
  rw [cP (x:=h5*x) (by omega) (by omega),cP (x:=y-h5*x) (by omega) (by omega),cP (by omega) (by omega)]
 by_cases ch:y-h5*x-carry<0
 ·refine ⟨(999999999-(y-h5*x-carry)) / 1000000000,y-h5*x-carry+(999999999-(y-h5*x-carry)) / 1000000000*1000000000,?_,by omega,by omega,by omega,by omega,by omega⟩
  unfold tx
  rw [if_pos (by simp;omega),if_pos (by omega),Int.toNat_natCast,aa]
  simp only [Option.bind_eq_bind,Option.bind_some]
  rw [if_pos (by omega),aS]
  simp only [Option.bind_some,e]
  rw [if_pos (by simpa using ch),if_pos (by omega),pb (n:=i) (by omega),cP (x:=999999999-(y-h5*x-carry)) (by omega) (by omega),oC (by omega),cP (x:=(999999999-(y-h5*x-carry)) / 1000000000) (by omega) (by omega),cP (x:=(999999999-(y-h5*x-carry)) / 1000000000*1000000000) (by omega) (by omega),cP (by omega) (by omega)]
 ·refine ⟨0,y-h5*x-carry,?_,by omega,by omega,by omega,by omega,by omega⟩
  unfold tx
  rw [if_pos (by simp;omega),if_pos (by omega),Int.toNat_natCast,aa]
  simp only [Option.bind_eq_bind,Option.bind_some]
  rw [if_pos (by omega),aS]
  simp only [Option.bind_some,e]
  rw [if_neg (by simpa using ch),if_pos (by omega),pb (n:=i) (by omega)]
theorem U2 {v row:List Int}{bD lW:Nat}{h5:Int}(aY:cz v)(an:cz row)(aM:0≤h5∧h5<1000000000)(hu:v.length<lW)(aG:bD+v.length<row.length)(a1:row.length≤5000000):
 ∃r,GM bD lW v h5 v.length 0 0 row=some r∧0≤r.1∧r.1<1000000000∧cz r.2∧r.2.length=row.length∧V r.2=V row-h5*B bD*V v+r.1*B (bD+v.length)∧ ∀i,i<bD∨bD+v.length≤i→r.2[i]? = row[i]? := by
 refine jJ (ei:=fun w:Int×Int×List Int=> ∃(i:Nat),w.2.1=(i:Int)∧i≤v.length∧0≤w.1∧w.1<1000000000∧cz w.2.2∧w.2.2.length=row.length∧V w.2.2=V row-h5*B bD*V (v.take i)+w.1*B (bD+i)∧ ∀i,i<bD∨bD+v.length≤i→w.2.2[i]? = row[i]?) (m:=fun w:Int×Int×List Int=>v.length-w.2.1.toNat) _ ?_ _ ⟨0,rfl,by omega,by simp,by simp,an,rfl,by simp [V],fun _ _=>rfl⟩
 rintro ⟨carry,ii,en⟩ ⟨i,o,af,l1,l4,jk,hlen,hV,kf⟩
 simp only at o l1 l4 jk hlen hV kf ⊢
 subst o
 by_cases JR:i=v.length
 ·subst JR
  exact .inr ⟨(carry,en),by simp [tx],l1,l4,jk,hlen,by simpa using hV,kf⟩
 ·have aa:=List.getElem?_eq_getElem (show i<v.length by omega)
  have aS:=List.getElem?_eq_getElem (show bD+i<en.length by omega)
  obtain ⟨c,z,he,cu,bF,jI,oD,cd⟩:=U1 (lW:=lW) aa aS (aY.get aa) (jk.get aS) aM ⟨l1,l4⟩ (by omega) (by omega)
  rw [he]
  refine .inl ⟨_,rfl,⟨i+1,rfl,by omega,cu,bF,jk.set ⟨jI,oD⟩,by simpa using hlen,?_,fun k aU=> ?_⟩,by simp;omega⟩
  ·simp only
   rw [ra aS,rO aa,hV,← Nat.add_assoc,lQ,zi]
   have uv:z=en[bD+i]-h5*v[i]-carry+1000000000*c:=by omega
   rw [uv]
   grind
  ·simp only
   rw [List.getElem?_set_ne (by omega)]
   exact kf k aU
theorem Xi {v row:List Int}{bD lW:Nat}{h5:Int}(aY:cz v)(an:cz row)(aM:0≤h5∧h5<1000000000)(hu:v.length<lW)(aG:bD+v.length<row.length)(a1:row.length≤5000000):
 ∃y dv,yq v h5 bD lW row=some (decide (y<0),dv)∧dv.length=row.length∧oq (bD+v.length) dv∧dv[bD+v.length]? = some y∧ -1000000000<y∧y<1000000000∧V dv=V row-h5*B bD*V v∧ ∀i,i<bD∨bD+v.length<i→dv[i]? = row[i]? := by
 obtain ⟨r,hR,cu,bF,jk,hlen,hV,kf⟩:=U2 aY an aM hu aG a1
 have aa:=List.getElem?_eq_getElem (show bD+v.length<r.2.length by omega)
 have h3:=jk.get aa
 refine ⟨r.2[bD+v.length]-r.1,r.2.set (bD+v.length) (r.2[bD+v.length]-r.1),?_,by simpa using hlen,(cz.toE jk _).Pn,?_,by omega,by omega,?_,fun i af=> ?_⟩
 ·unfold yq
  simp only [fY]
  rw [hR]
  simp only [Option.bind_eq_bind,Option.bind_some,Int.toNat_natCast]
  rw [if_pos (by omega),aa]
  simp only [Option.bind_some]
  rw [if_pos (by omega),cP (by omega) (by omega),List.getElem?_set,if_pos rfl,if_pos (by omega)]
  rfl
 ·rw [List.getElem?_set,if_pos rfl,if_pos (by omega)]
 ·rw [ra aa,hV]
  grind
 ·rw [List.getElem?_set_ne (by omega)]
  exact kf i (by omega)
theorem U3 {v row:List Int}{bD lW:Nat}(aY:cz v)(an:oq (bD+v.length) row)(hu:v.length<lW)(aG:bD+v.length<row.length)(a1:row.length≤5000000):
 ∃r,GN bD lW v v.length 0 0 row=some r∧0≤r.1∧r.1≤1∧oq (bD+v.length) r.2∧r.2.length=row.length∧V r.2=V row+B bD*V v-r.1*B (bD+v.length)∧ ∀i,i<bD∨bD+v.length≤i→r.2[i]? = row[i]? := by
 refine jJ (ei:=fun w:Int×Int×List Int=> ∃(i:Nat),w.2.1=(i:Int)∧i≤v.length∧0≤w.1∧w.1≤1∧oq (bD+v.length) w.2.2∧w.2.2.length=row.length∧V w.2.2=V row+B bD*V (v.take i)-w.1*B (bD+i)∧ ∀i,i<bD∨bD+v.length≤i→w.2.2[i]? = row[i]?) (m:=fun w:Int×Int×List Int=>v.length-w.2.1.toNat) _ ?_ _ ⟨0,rfl,by omega,by simp,by simp,an,rfl,by simp [V],fun _ _=>rfl⟩
 rintro ⟨carry,ii,en⟩ ⟨i,o,af,l1,l4,jk,hlen,hV,kf⟩
 simp only at o l1 l4 jk hlen hV kf ⊢
 subst o
 by_cases JR:i=v.length
 ·subst JR
  exact .inr ⟨(carry,en),by simp [vM],l1,l4,jk,hlen,by simpa using hV,kf⟩
 ·have aa:=List.getElem?_eq_getElem (show i<v.length by omega)
  have aS:=List.getElem?_eq_getElem (show bD+i<en.length by omega)
  have h3:=aY.get aa
  have nG:=jk _ _ (by omega) aS
  have he:vM bD lW v v.length carry i en=some (.inl ((en[bD+i]+v[i]+carry) / 1000000000,((i+1:Nat):Int),en.set (bD+i) ((en[bD+i]+v[i]+carry) % 1000000000))):=by
   unfold vM
   rw [if_pos (by simp;omega),if_pos (by omega),Int.toNat_natCast,aa]
   simp only [Option.bind_eq_bind,Option.bind_some]
   rw [if_pos (by omega),aS]
   simp only [Option.bind_some]
   rw [if_pos (by omega),cP (x:=en[bD+i]+v[i]) (by omega) (by omega),cP (x:=en[bD+i]+v[i]+carry) (by omega) (by omega),st (by omega),oC (by omega),cP (by omega) (by omega),pb (n:=i) (by omega)]
  rw [he]
  refine .inl ⟨_,rfl,⟨i+1,rfl,by omega,by simp only;omega,by simp only;omega,jk.set (by omega),by simpa using hlen,?_,fun k aU=> ?_⟩,by simp;omega⟩
  ·simp only
   rw [ra aS,rO aa,hV,← Nat.add_assoc,lQ,zi]
   have:=Int.mul_ediv_add_emod (en[bD+i]+v[i]+carry) 1000000000
   generalize (en[bD+i]+v[i]+carry) / 1000000000=q at *
   generalize (en[bD+i]+v[i]+carry) % 1000000000=t at *
   have uv:t=en[bD+i]+v[i]+carry-1000000000*q:=by omega
   rw [uv]
   grind
  ·simp only
   rw [List.getElem?_set_ne (by omega)]
   exact kf k aU
theorem Xj {v row:List Int}{bD lW:Nat}{y:Int}(aY:cz v)(an:oq (bD+v.length) row)(hu:v.length<lW)(aG:bD+v.length<row.length)(a1:row.length≤5000000)(aS:row[bD+v.length]? = some y)(nG:-1000000000<y)(Am:y<1000000000):
 ∃k1 dv,we v bD lW row=some dv∧dv.length=row.length∧oq (bD+v.length) dv∧dv[bD+v.length]? = some k1∧V dv=V row+B bD*V v∧ ∀i,i<bD∨bD+v.length<i→dv[i]? = row[i]? := by
 obtain ⟨r,hR,cu,bF,jk,hlen,hV,kf⟩:=U3 aY an hu aG a1
 have aa:r.2[bD+v.length]? = some y:=by rw [kf _ (by omega)];exact aS
 refine ⟨y+r.1,r.2.set (bD+v.length) (y+r.1),?_,by simpa using hlen,jk.Pn,?_,?_,fun i af=> ?_⟩
 ·unfold we
  simp only [fY]
  rw [hR]
  simp only [Option.bind_eq_bind,Option.bind_some,Int.toNat_natCast]
  rw [if_pos (by omega),aa]
  simp only [Option.bind_some]
  rw [if_pos (by omega),cP (by omega) (by omega)]
 ·rw [List.getElem?_set,if_pos rfl,if_pos (by omega)]
 ·rw [ra aa,hV]
  grind
 ·rw [List.getElem?_set_ne (by omega)]
  exact kf i (by omega)
theorem V0 {g q v1 v2 top gg rest aR W P:Int}(fF:1≤P)(dt:0≤g)(ch:g*v1+rest=top)(tb:P*(v1*1000000000+v2)≤W)(JN:aR<P*(top*1000000000+gg+1))(P2:q*W≤aR)(hW:0≤W)(h:rest*1000000000+gg<g*v2):q<g:=by
 apply Int.not_le.mp
 intro td
 have o:g*W≤q*W:=Int.mul_le_mul_of_nonneg_right td hW
 have R:g*(P*(v1*1000000000+v2))≤g*W:=Int.mul_le_mul_of_nonneg_left tb dt
 have ae:g*(P*(v1*1000000000+v2))=P*(g*(v1*1000000000+v2)):=by grind
 have ay:P*(g*(v1*1000000000+v2))<P*(top*1000000000+gg+1):=by omega
 have aK:=Int.lt_of_mul_lt_mul_left ay (by omega)
 have bI:g*(v1*1000000000+v2)=1000000000*(g*v1)+g*v2:=by grind
 omega
theorem MY {g v1 v2 top gg rest aR W P:Int}(fF:1≤P)(dt:0≤g)(te:g≤999999999)(qM:1≤v1)(As:0≤v2)(ch:g*v1+rest=top)(tb:P*(v1*1000000000+v2)≤W)(DK:W<P*(v1*1000000000+v2+1))(DJ:P*(top*1000000000+gg)≤aR)(h:g*v2≤rest*1000000000+gg):g≤aR / W+1:=by
 have At:P*1000000000≤W:=by
  have o:P*1000000000≤P*(v1*1000000000+v2):=Int.mul_le_mul_of_nonneg_left (by omega) (by omega)
  omega
 have o:g*W≤g*(P*(v1*1000000000+v2+1)):=Int.mul_le_mul_of_nonneg_left (by omega) dt
 have R:g*(P*(v1*1000000000+v2+1))=P*(1000000000*(g*v1)+g*v2+g):=by grind
 have ae:P*(1000000000*(g*v1)+g*v2+g)≤P*(top*1000000000+gg+999999999):=Int.mul_le_mul_of_nonneg_left (by omega) (by omega)
 have ay:P*(top*1000000000+gg+999999999)=P*(top*1000000000+gg)+P*999999999:=by grind
 have aK:(g-1)*W=g*W-W:=by grind
 have:g-1≤aR / W:=(Int.le_ediv_iff_mul_le (by omega)).2 (by omega)
 omega
theorem Uu {az u hL ai:List Int}{N n j:Nat}{v1 v2 gg top aR W P:Int}(a1:2≤n)(Jc:n≤5000000)(Au:j+n<N)(fO:N≤5000000)(o:hL[n-1]? = some v1)(R:hL[n-2]? = some v2)(ae:u[j+n-2]? = some gg)
 (qM:1≤v1∧v1<1000000000) (As:0≤v2∧v2<1000000000) (acH:0≤gg∧gg<1000000000) (fF:1≤P) (tb:P*(v1*1000000000+v2)≤W) (DK:W<P*(v1*1000000000+v2+1)) (DJ:P*(top*1000000000+gg)≤aR) (JN:aR<P*(top*1000000000+gg+1)) (cK:0≤aR) (JO:aR<1000000000*W) (lE:0≤top) (acI:top≤v1*1000000000+999999999) (a8:aR / W≤top / v1) :
 ∃g,G3 N n n j az u hL ai (top / v1) (top % v1)=some g∧(aR / W=g∨aR / W+1=g)∧0≤g∧g≤999999999:=by
 have At:0<W:=by
  have o:P*1000000000≤P*(v1*1000000000+v2):=Int.mul_le_mul_of_nonneg_left (by omega) (by omega)
  omega
 have nB:0≤aR / W:=Int.ediv_nonneg cK (by omega)
 have qB:aR / W<1000000000:=Int.ediv_lt_of_lt_mul At JO
 have P2:aR / W*W≤aR:=Int.ediv_mul_le _ (by omega)
 have ZP:=Int.mul_ediv_add_emod top v1
 have m1:=Int.emod_nonneg top (b:=v1) (by omega)
 have qa:=Int.emod_lt_of_pos top (b:=v1) (by omega)
 have IQ:U ((n:Int)-1)=((n-1:Nat):Int):=by rw [cP (by omega) (by omega)];omega
 have Yy:U ((n:Int)-2)=((n-2:Nat):Int):=by rw [cP (by omega) (by omega)];omega
 have Yz:U (U ((j:Int)+(n:Int))-2)=((j+n-2:Nat):Int):=by rw [cP (x:=(j:Int)+n) (by omega) (by omega),cP (by omega) (by omega)];omega
 have Dp:top / v1≤top:=Int.ediv_le_self _ lE
 refine jJ (ei:=fun w:Int×Int=>w.1*v1+w.2=top∧0≤w.2∧w.2<1000000000∧aR / W≤w.1∧w.1≤top) (m:=fun w:Int×Int=>w.1.toNat) _ ?_ _ ⟨by rw [Int.mul_comm];exact ZP,m1,by simp only;omega,a8,Dp⟩
 rintro ⟨g,rest⟩ ⟨nc,mF,AP,so,AQ⟩
 simp only at nc mF AP so AQ ⊢
 have JS:U (rest+v1)=rest+v1:=cP (by omega) (by omega)
 have JT:U (g-1)=g-1:=cP (by omega) (by omega)
 have te:(g-1)*v1+(rest+v1)=top:=by grind
 have OA:aR / W≤g-1→1000000000≤rest+v1→(aR / W=g-1∨aR / W+1=g-1)∧0≤g-1∧g-1≤999999999:=by
  intro ka jV
  have lM:(g-1)*v1<1000000000*v1:=by omega
  have Kv:g-1<1000000000:=Int.lt_of_mul_lt_mul_right lM (by omega)
  have QA:0≤g-1:=by omega
  have adk:=(za ⟨QA,Kv⟩ As).2
  have:=MY fF QA (by omega) qM.1 As.1 te tb DK DJ (by omega)
  omega
 by_cases IR:1000000000≤g
 ·by_cases aM:1000000000≤rest+v1
  ·refine .inr ⟨g-1,?_,OA (by omega) aM⟩
   unfold tz
   rw [if_pos (by simpa using IR),IQ,if_pos (by omega),Nat.zero_add,Int.toNat_natCast,o]
   simp only [Option.bind_eq_bind,Option.bind_some,JS,JT]
   rw [if_pos (by simpa using aM)]
  ·refine .inl ⟨(g-1,rest+v1),?_,⟨te,by simp only;omega,by simp only;omega,by simp only;omega,by simp only;omega⟩,by simp only;omega⟩
   unfold tz
   rw [if_pos (by simpa using IR),IQ,if_pos (by omega),Nat.zero_add,Int.toNat_natCast,o]
   simp only [Option.bind_eq_bind,Option.bind_some,JS,JT]
   rw [if_neg (by simpa using aM)]
 ·have iq:0≤g:=by omega
  obtain ⟨hd,fW⟩:=za ⟨iq,by omega⟩ As
  have ax:U (U (rest*1000000000)+gg)=rest*1000000000+gg:=by rw [cP (x:=rest*1000000000) (by omega) (by omega),cP (by omega) (by omega)]
  have aF:U (g*v2)=g*v2:=cP (by omega) (by omega)
  have Iw:tz N n n j az u hL ai g rest=some (if rest*1000000000+gg<g*v2 then (if 1000000000≤rest+v1 then .inr (g-1) else .inl (g-1,rest+v1)) else .inr g):=by
   unfold tz
   rw [if_neg (by simpa using IR),Yy,if_pos (by omega),Nat.zero_add,Int.toNat_natCast,R]
   simp only [Option.bind_eq_bind,Option.bind_some]
   rw [Yz,if_pos (by omega),Nat.zero_add,Int.toNat_natCast,ae]
   simp only [Option.bind_some,ax,aF]
   by_cases aP:rest*1000000000+gg<g*v2
   ·rw [if_pos (by simpa using aP),if_pos aP,IQ,if_pos (by omega),Nat.zero_add,Int.toNat_natCast,o]
    simp only [Option.bind_some,JS,JT]
    by_cases aM:1000000000≤rest+v1
    ·rw [if_pos (by simpa using aM),if_pos aM]
    ·rw [if_neg (by simpa using aM),if_neg aM]
   ·rw [if_neg (by simpa using aP),if_neg aP]
  rw [Iw]
  by_cases aP:rest*1000000000+gg<g*v2
  ·have acJ:=V0 fF iq nc tb JN P2 (by omega) aP
   rw [if_pos aP]
   by_cases aM:1000000000≤rest+v1
   ·rw [if_pos aM]
    exact .inr ⟨g-1,rfl,OA (by omega) aM⟩
   ·rw [if_neg aM]
    exact .inl ⟨(g-1,rest+v1),rfl,⟨te,by simp only;omega,by simp only;omega,by simp only;omega,by simp only;omega⟩,by simp only;omega⟩
  ·rw [if_neg aP]
   have:=MY fF iq (by omega) qM.1 As.1 nc tb DK DJ (by omega)
   exact .inr ⟨g,rfl,by omega,by omega,by omega⟩
theorem U4 {a b:List Int}{k:Nat}(h:∀i,k≤i→a[i]? = b[i]?):a.drop k=b.drop k:=by
 apply List.ext_getElem?
 intro i
 rw [List.getElem?_drop,List.getElem?_drop]
 exact h _ (by omega)
theorem U5 {a b:List Int}{k:Nat}(h:∀i,i<k→a[i]? = b[i]?):a.take k=b.take k:=by
 apply List.ext_getElem?
 intro i
 rw [List.getElem?_take,List.getElem?_take]
 by_cases af:i<k
 ·rw [if_pos af,if_pos af];exact h i af
 ·rw [if_neg af,if_neg af]
theorem P3 {u w:List Int}{j n:Nat}{y c:Int}(hlen:w.length=u.length)(Au:j+n<u.length)(dJ:oq (j+n) w)(aS:w[j+n]? = some y)(kf:∀i,i<j∨j+n<i→w[i]? = u[i]?)(h0:V (u.drop (j+n+1))=0)(hV:V w=V u-c*B j):
 V (w.drop j)=V (u.drop j)-c∧ ∃low,0≤low∧low<B n∧V (w.drop j)=low+B n*y:=by
 have o:=tV (l:=u) (n:=j) (by omega)
 have R:=tV (l:=w) (n:=j) (by omega)
 rw [U5 (a:=w) (b:=u) (fun i af=>kf i (.inl af))] at R
 have ae:B j*V (w.drop j)=B j*(V (u.drop j)-c):=by grind
 have gw:=n8 j
 have ay:V (w.drop j)=V (u.drop j)-c:=Int.eq_of_mul_eq_mul_left (by omega) ae
 refine ⟨ay,V ((w.drop j).take n),?_,?_,?_⟩
 ·refine ke (fun x aa=> ?_)
  obtain ⟨i,af⟩:=List.mem_iff_getElem?.mp aa
  have lm:=ft af
  simp at lm
  rw [List.getElem?_take,if_pos (by omega),List.getElem?_drop] at af
  exact dJ _ _ (by omega) af
 ·have aG:cz ((w.drop j).take n):=fun x aa=>by
   obtain ⟨i,af⟩:=List.mem_iff_getElem?.mp aa
   have lm:=ft af
   simp at lm
   rw [List.getElem?_take,if_pos (by omega),List.getElem?_drop] at af
   exact dJ _ _ (by omega) af
  have:=lV aG
  rwa [List.length_take,Nat.min_eq_left (by simp;omega)] at this
 ·have aK:=tV (l:=w.drop j) (n:=n) (by simp;omega)
  rw [List.drop_drop,nW aS,U4 (a:=w) (b:=u) (k:=j+n+1) (fun i af=>kf i (.inr (by omega))),h0] at aK
  rw [aK]
  grind
theorem MZ {w:List Int}{p:Nat}(dJ:oq p w)(aS:w[p]? = some 0):cz w:=fun x aa=>by
 obtain ⟨i,af⟩:=List.mem_iff_getElem?.mp aa
 by_cases h:i=p
 ·subst h
  rw [aS] at af
  have:=Option.some.inj af
  omega
 ·exact dJ i x h af
theorem Np {low y X uV W:Int}(h0:0≤low)(o:low<uV)(D3:X=low+uV*y)(R:0≤X)(ae:X<W)(ay:W≤uV):y=0:=by
 have di:uV*y<uV*1:=by omega
 have aK:=Int.lt_of_mul_lt_mul_left di (by omega)
 have DB:uV*(-1)<uV*y:=by omega
 have bI:=Int.lt_of_mul_lt_mul_left DB (by omega)
 omega
theorem U6 {az u hL ai:List Int}{n j:Nat}{v1 W:Int}(a1:2≤n)(DM:n≤hL.length)(aY:cz (hL.take n))(hW:V (hL.take n)=W)(qM:hL[n-1]? = some v1)(IU:1≤v1)(hu:cz u)(uM:u.length≤5000000)(Au:j+n<u.length)(di:V (u.drop (j+1))<W)(acK:j<ai.length):
 ∃kb,tA u.length n n az hL j u ai=some (.inl ((j:Int)-1,kb,ai.set j (V (u.drop j) / W)))∧cz kb∧kb.length=u.length∧V kb=V u-(V (u.drop j) / W)*B j*W∧V (kb.drop j)<W∧0≤V (u.drop j) / W∧V (u.drop j) / W<1000000000:=by
 obtain ⟨n,rfl⟩ : ∃m,n=m+2:=⟨n-2,by omega⟩
 have pg:(hL.take (n+2)).length=n+2:=by simp;omega
 have te:(hL.take (n+2))[n+1]? = some v1:=by rw [List.getElem?_take,if_pos (by omega)];exact qM
 have P4:=List.getElem?_eq_getElem (show n<hL.length by omega)
 have Po:(hL.take (n+2))[n]? = some hL[n]:=by rw [List.getElem?_take,if_pos (by omega)];exact P4
 have YA:=aY.get te
 have YB:=aY.get Po
 have h3:=List.getElem?_eq_getElem (show j+(n+2)<u.length by omega)
 have Aq:=List.getElem?_eq_getElem (show j+(n+1)<u.length by omega)
 have z4:=List.getElem?_eq_getElem (show j+n<u.length by omega)
 have P5:=List.getElem?_eq_getElem (show j<u.length by omega)
 have kl:=hu.get h3
 have rf:=hu.get Aq
 have z0:=hu.get z4
 have acL:=hu.get P5
 have Av:=q2 aY (k:=n+1) (by omega)
 rw [yK te (by omega),hW] at Av
 have JU:=q2 aY (k:=n) (by omega)
 rw [nW Po,yK te (by omega),hW] at JU
 have IV:=lV aY
 rw [pg,hW] at IV
 have acM:0≤W:=by rw [← hW];exact ke aY
 have cd:=q2 (hu.drop (j+1)) (k:=n+2) (by simp;omega)
 rw [List.drop_drop] at cd
 have ZQ:=ke (hu.drop (j+1+(n+2)))
 have acN:=n8 (n+2)
 have h0:V (u.drop (j+(n+2)+1))=0:=by
  rw [show j+(n+2)+1=j+1+(n+2) by omega]
  apply Int.le_antisymm _ ZQ
  apply Int.not_lt.mp
  intro h
  have:B (n+2)*1≤B (n+2)*V (u.drop (j+1+(n+2))):=Int.mul_le_mul_of_nonneg_left (by omega) (by omega)
  omega
 have lE:V (u.drop (j+(n+2)))=u[j+(n+2)]:=by rw [nW h3,h0];omega
 have Dp:V (u.drop (j+(n+1)))=u[j+(n+1)]+1000000000*u[j+(n+2)]:=by rw [nW Aq,show j+(n+1)+1=j+(n+2) by omega,lE]
 have iC:V (u.drop (j+n))=u[j+n]+1000000000*(u[j+(n+1)]+1000000000*u[j+(n+2)]):=by rw [nW z4,show j+n+1=j+(n+1) by omega,Dp]
 have hR:=q2 (hu.drop j) (k:=n+1) (by simp;omega)
 rw [List.drop_drop,Dp] at hR
 have JV:=q2 (hu.drop j) (k:=n) (by simp;omega)
 rw [List.drop_drop,iC] at JV
 have oy:=ke (hu.drop j)
 have cK:V (u.drop j)<1000000000*W:=by rw [nW P5];omega
 have ZR:=n8 n
 have YC:=n8 (n+1)
 have us:u[j+(n+2)]≤v1:=by
  have o:=q2 (hu.drop (j+1)) (k:=n+1) (by simp;omega)
  rw [List.drop_drop,show j+1+(n+1)=j+(n+2) by omega,lE] at o
  have R:B (n+1)*u[j+(n+2)]<B (n+1)*(v1+1):=by omega
  have:=Int.lt_of_mul_lt_mul_left R (by omega)
  omega
 have YD:=LP YC hR.1 hR.2 Av.1 Av.2 (by omega) (by omega) cK
 obtain ⟨g,dt,td,ZS,acO⟩:=Uu (az:=az) (ai:=ai) (N:=u.length) (n:=n+2) (j:=j) (v1:=v1) (v2:=hL[n]) (gg:=u[j+n]) (top:=u[j+(n+1)]+1000000000*u[j+(n+2)]) (aR:=V (u.drop j)) (W:=W) (P:=B n) (u:=u) (hL:=hL) (by omega) (by omega) Au uM qM P4 z4 ⟨IU,YA.2⟩ YB z0 ZR
  (by rw [Int.mul_comm v1,Int.add_comm];exact JU.1) (by rw [Int.mul_comm v1,Int.add_comm (1000000000*v1)];exact JU.2)
  (by rw [Int.mul_comm (u[j+(n+1)]+_),Int.add_comm];exact JV.1) (by rw [Int.mul_comm (u[j+(n+1)]+_),Int.add_comm (1000000000*_) u[j+n]];exact JV.2) oy cK (by omega) (by omega) YD.2.1
 have At:0<W:=by
  have:B (n+1)*1≤B (n+1)*v1:=Int.mul_le_mul_of_nonneg_left (by omega) (by omega)
  omega
 have nB:0≤V (u.drop j) / W:=Int.ediv_nonneg oy (by omega)
 have qB:V (u.drop j) / W<1000000000:=Int.ediv_lt_of_lt_mul At cK
 have hm:=Int.mul_ediv_add_emod (V (u.drop j)) W
 have m1:=Int.emod_nonneg (V (u.drop j)) (b:=W) (by omega)
 have qa:=Int.emod_lt_of_pos (V (u.drop j)) At
 obtain ⟨y,w,ch,P6,DN,DO,nG,Am,DP,Ih⟩:=Xi (v:=hL.take (n+2)) (row:=u) (bD:=j) (lW:=u.length-j) (h5:=g) aY hu ⟨ZS,by omega⟩ (by omega) (by omega) uM
 rw [pg] at DN DO Ih
 rw [hW] at DP
 obtain ⟨Ar,low,mA,JW,uu⟩:=P3 (c:=g*W) P6 Au DN DO Ih h0 (by rw [DP];grind)
 have ZT:U ((j:Int)-1)=(j:Int)-1:=pT (by omega)
 have ax:U ((j:Int)+((n+2:Nat):Int))=((j+(n+2):Nat):Int):=by rw [cP (by omega) (by omega)];omega
 have aF:U (((j+(n+2):Nat):Int)-1)=((j+(n+1):Nat):Int):=by rw [cP (by omega) (by omega)];omega
 have b4:U (((n+2:Nat):Int)-1)=((n+1:Nat):Int):=by rw [cP (by omega) (by omega)];omega
 have dy:U (U (u[j+(n+2)]*1000000000)+u[j+(n+1)])=u[j+(n+1)]+1000000000*u[j+(n+2)]:=by
  rw [cP (x:=u[j+(n+2)]*1000000000) (by omega) (by omega),cP (by omega) (by omega)];omega
 have ea:0≤u[j+(n+1)]+1000000000*u[j+(n+2)]:=by omega
 have e7:(u[j+(n+1)]+1000000000*u[j+(n+2)]) / v1≤u[j+(n+1)]+1000000000*u[j+(n+2)]:=Int.ediv_le_self _ ea
 have eT:0≤(u[j+(n+1)]+1000000000*u[j+(n+2)]) / v1:=Int.ediv_nonneg ea (by omega)
 have YE:hL[n+1]? = some v1:=qM
 have pre:tA u.length (n+2) ((n+2:Nat):Int) az hL j u ai =
  (if (decide (y<0))=true then
    we (hL.take (n+2)) j (u.length-j) w >>= fun hT=>some (.inl ((j:Int)-1,hT,ai.set j (U (g-1))))
  else some (.inl ((j:Int)-1,w,ai.set j g))):=by
  unfold tA
  rw [if_pos (by simp)]
  simp only [ax,aF,b4,Int.toNat_natCast,Nat.zero_add,ZT]
  rw [if_pos (by omega),h3]
  simp only [Option.bind_eq_bind,Option.bind_some]
  rw [if_pos (by omega),Aq]
  simp only [Option.bind_some]
  rw [if_pos (by omega),YE]
  simp only [Option.bind_some]
  rw [if_pos (by omega),dy,oC ea,st ea,cP (by omega) (by omega),dt]
  simp only [Option.bind_some]
  rw [if_pos (by omega),if_pos (by omega),if_pos (by omega),List.drop_zero,ch]
  simp only [Option.bind_some]
  by_cases aS:y<0
  ·have ba:(decide (y<0))=true:=by simpa using aS
   simp only [if_pos ba]
   congr 1
   funext r
   rw [if_pos (by omega),if_pos (by omega)]
  ·have ba : ¬(decide (y<0))=true:=by simpa using aS
   simp only [if_neg ba]
   rw [if_pos (by omega),if_pos (by omega)]
 rcases td with td|td
 ·subst td
  have D3:V (w.drop j)=V (u.drop j) % W:=by rw [Ar];grind
  have aS:y=0:=Np (W:=W) mA JW uu (by rw [D3];exact m1) (by rw [D3];exact qa) (Int.le_of_lt IV)
  subst aS
  refine ⟨w,?_,MZ DN DO,P6,DP,by omega,nB,qB⟩
  rw [pre]
  rfl
 ·have D3:V (w.drop j)=V (u.drop j) % W-W:=by rw [Ar,← td];grind
  have aS:y<0:=by
   apply Int.not_le.mp
   intro h
   have:0≤B (n+2)*y:=Int.mul_nonneg (by omega) h
   omega
  obtain ⟨k1,bx,mW,ach,IW,IX,Pp,NY⟩:=Xj (v:=hL.take (n+2)) (row:=w) (bD:=j) (lW:=u.length-j) (y:=y) aY (by rw [pg];exact DN) (by omega) (by omega) (by omega) (by rw [pg];exact DO) nG Am
  rw [pg] at IW IX NY
  rw [hW] at Pp
  have P7:V bx=V u-V (u.drop j) / W*B j*W:=by rw [Pp,DP,← td];grind
  obtain ⟨YF,aci,YG,YH,YI⟩:=P3 (c:=V (u.drop j) / W*W) (by omega) Au IW IX (fun i af=>by rw [NY i af,Ih i af]) h0 (by rw [P7];grind)
  have P8:V (bx.drop j)=V (u.drop j) % W:=by rw [YF];grind
  have m3:k1=0:=Np (W:=W) YG YH YI (by rw [P8];exact m1) (by rw [P8];exact qa) (Int.le_of_lt IV)
  subst m3
  refine ⟨bx,?_,MZ IW IX,by omega,P7,by omega,nB,qB⟩
  rw [pre,if_pos (by simpa using aS),mW]
  simp only [Option.bind_eq_bind,Option.bind_some]
  rw [cP (by omega) (by omega),show g-1=V (u.drop j) / W by omega]
theorem U7 {az hL u:List Int}{n m:Nat}{v1 W:Int}(a1:2≤n)(DM:n≤hL.length)(aY:cz (hL.take n))(hW:V (hL.take n)=W)(qM:hL[n-1]? = some v1)(IU:1≤v1)(hu:cz u)(uM:u.length≤5000000)(hm:m+n=u.length)(di:V (u.drop m)<W):
 ∃r,G4 u.length n n az hL ((m:Int)-1) u (List.replicate m 0)=some r∧cz r.1∧r.1.length=u.length∧V r.1<W∧cz r.2∧r.2.length=m∧V u=V r.2*W+V r.1:=by
 refine jJ (ei:=fun w:Int×List Int×List Int=> ∃(k:Nat) (q:List Int),w.1=(k:Int)-1∧k≤m∧cz w.2.1∧w.2.1.length=u.length∧w.2.2=List.replicate k 0++q∧q.length+k=m∧cz q∧V (w.2.1.drop k)<W∧V u=V w.2.1+B k*V q*W) (m:=fun w:Int×List Int×List Int=>(w.1+1).toNat) _ ?_ _ ⟨m,[],rfl,by omega,hu,rfl,by simp,by simp,cz.nil,di,by simp [V]⟩
 rintro ⟨aaT,kb,ai⟩ ⟨k,q,o,aU,nC,hlen,ae,a8,si,IY,hV⟩
 simp only at o nC hlen ae IY hV ⊢
 subst o ae
 cases k with
 | zero =>
  refine .inr ⟨(kb,q),by simp [tA],nC,hlen,by simpa using IY,si,by simpa using a8,?_⟩
  rw [hV]
  simp [B]
  omega
 | succ k =>
  obtain ⟨acP,he,s1,s2,uP,aaU,aaV,aaW⟩:=U6 (az:=az) (hL:=hL) (u:=kb) (ai:=List.replicate (k+1) 0++q) (j:=k) a1 DM aY hW qM IU nC (by omega) (by omega) IY (by simp;omega)
  rw [hlen] at he
  rw [show ((k+1:Nat):Int)-1=k by omega,he]
  refine .inl ⟨_,rfl,⟨k,V (kb.drop k) / W::q,rfl,by omega,s1,s2.trans hlen,HU _ _ _,by simp;omega,cz.cons ⟨aaV,aaW⟩ si,aaU,?_⟩,by simp only;omega⟩
  simp only
  rw [hV,uP,kx,lQ]
  grind
theorem HM {a:List Int}(h:a.length≤900000):tX a=some a:=by
 unfold tX
 rw [if_pos (by omega)]
theorem Uv {a b q s:Int}(h:a=q*b+s)(h0:0≤s)(o:s<b):a / b=q∧a % b=s:=by
 subst h
 constructor
 ·rw [Int.add_comm,Int.add_mul_ediv_right _ _ (by omega),Int.ediv_eq_zero_of_lt h0 o]
  omega
 ·rw [Int.add_comm,Int.add_mul_emod_self_right]
  exact Int.emod_eq_of_lt h0 o
theorem CO {a b:List Int}(bA:eE a)(aM:eE b)(kl:b≠[])(a1:a.length≤900000)(hm:b.length≤900000):rK a b=some (L (V a / V b),L (V a % V b)):=by
 have lq:=qu aM kl
 have Dw:=ke bA.1
 unfold rK
 simp only [fY]
 rw [Ce bA aM (by omega)]
 simp only [Option.bind_eq_bind,Option.bind_some]
 by_cases aP:V a<V b
 ·rw [if_pos (by simpa using wJ.2 aP),HM a1,Int.ediv_eq_zero_of_lt Dw aP,Int.emod_eq_of_lt Dw aP,oG,se bA]
  rfl
 ·rw [if_neg (fun h=>aP (wJ.1 (by simpa using h)))]
  obtain ⟨k,d,aU,ba,p1,qb,tc⟩:=C1 aM kl
  by_cases o:b.length=1
  ·have sb:k=0:=by omega
   subst sb
   have JP:V b=d:=by simpa using tc
   rw [if_pos (by simp [o]),if_pos (by omega),ba]
   simp only [Option.bind_some]
   have qa:=Int.emod_nonneg (V a) (b:=d) (by omega)
   have Ao:=Int.emod_lt_of_pos (V a) p1
   rw [LO bA.1 ⟨p1,qb⟩ (by omega)]
   simp only [Option.bind_some]
   rw [zn qa (by omega),Hn qa (by omega),JP]
   rfl
  ·have hw:U ((b.length:Int)-1)=(k:Int):=by rw [cP (by omega) (by omega)];omega
   have ax:U (d+1)=d+1:=cP (by omega) (by omega)
   have DQ:1≤1000000000 / (d+1):=by
    apply (Int.le_ediv_iff_mul_le (by omega)).2
    omega
   have JX:1000000000 / (d+1)<1000000000:=by
    apply Int.ediv_lt_of_lt_mul (by omega)
    omega
   have ZU:1000000000 / (d+1)*(d+1)≤1000000000:=Int.ediv_mul_le _ (by omega)
   have aF:U ((1000000000:Int).tdiv (d+1))=1000000000 / (d+1):=by rw [oC (by omega),cP (by omega) (by omega)]
   rw [if_neg (by simp;omega),hw,if_pos (by omega),Int.toNat_natCast,ba]
   simp only [Option.bind_some,ax,aF]
   generalize 1000000000 / (d+1)=f at *
   rw [if_pos (by omega)]
   have iO:cz [f]:=cz.cons (by omega) cz.nil
   have ZV:V [f]=f:=by simp [V]
   have ZW:a≠[]:=by
    intro h
    subst h
    simp [V] at aP
    omega
   obtain ⟨k5,uW,ZX,acQ,ZY,DR,acR⟩:=Mx bA.1 iO ZW (by simp) (by omega) (by simp)
   obtain ⟨AR,hL,ZZ,acS,Z0,JY,acT⟩:=Mx aM.1 iO kl (by simp) (by omega) (by simp)
   rw [ZV] at DR JY
   rw [ZX]
   simp only [Option.bind_some]
   simp only [List.length_singleton] at ZY Z0
   have acU:=n8 k
   have Z1:V b*f<B b.length:=by
    have R:=(q2 aM.1 (k:=k) (by omega)).2
    rw [tc] at R
    have ae:V b*f≤(B k*(d+1)-1)*f:=Int.mul_le_mul_of_nonneg_right (by omega) (by omega)
    have ay:(B k*(d+1)-1)*f=B k*(f*(d+1))-f:=by grind
    have aK:B k*(f*(d+1))≤B k*1000000000:=Int.mul_le_mul_of_nonneg_left ZU (by omega)
    rw [aU,lQ]
    omega
   have acV:V b≤V b*f:=by
    have:V b*1≤V b*f:=Int.mul_le_mul_of_nonneg_left DQ (by omega)
    omega
   have acW:V a≤V a*f:=by
    have:V a*1≤V a*f:=Int.mul_le_mul_of_nonneg_left DQ (by omega)
    omega
   have JZ:0≤V b*f:=by omega
   have P9:0≤V a*f:=by omega
   have Qa:AR=b.length:=by
    have R:(hL.take AR).length=AR:=by simp;omega
    rw [JY] at R
    have ae:=(hE JZ (k:=b.length)).2 Z1
    have ay:=Dn aM kl
    have aK : ¬(L (V b*f)).length≤b.length-1:=fun h=>by
     have:=(hE JZ).1 h
     omega
    omega
   have Z2:(L (V a*f)).length=k5:=by rw [← DR];simp;omega
   have Pq:=lV (j1 (V a*f))
   rw [fa P9,Z2] at Pq
   have acj:a.length≤k5:=bA.len.2 (by omega)
   have acX:b.length≤a.length:=Nat.le_of_not_lt fun h=>by
    have:=CH bA aM h
    omega
   rw [if_pos (by omega),if_pos (by simp;omega),ZZ]
   simp only [Option.bind_some]
   have uM:(uW.take k5++[0]).length=k5+1:=by simp;omega
   have J0:B2 a AR [f] hL (uW.take k5++[0])=some (uW.take k5++[0]):=by
    unfold B2
    rw [iter]
    unfold Bv
    simp only [fY,uM]
    rw [if_neg (by simp;omega)]
    rfl
   rw [J0]
   simp only [Option.bind_some,uM]
   have l2:U (((k5+1:Nat):Int)-((AR:Nat):Int))=((k5+1-b.length:Nat):Int):=by rw [cP (by omega) (by omega)];omega
   rw [l2,if_pos (by omega),pT (by omega),Int.toNat_natCast]
   have O2:cz (uW.take k5++[0]):=by
    rw [DR]
    exact (j1 _).append (cz.cons (by omega) cz.nil)
   have Qb:V (uW.take k5++[0])=V a*f:=by
    rw [wA,DR,fa P9]
    simp [V]
   have Ii:hL.take b.length=L (V b*f):=by rw [← Qa];exact JY
   have Z3:V (hL.take b.length)=V b*f:=by rw [Ii,fa JZ]
   obtain ⟨dl,uX,l5,r9,ack,acm,acn⟩:=C1 (iX (V b*f)) (fun h=>by have:=sT.1 h;omega)
   rw [← Ii] at l5 r9
   have pg:(hL.take b.length).length=b.length:=by simp;omega
   have ux:hL[b.length-1]? = some uX:=by
    rw [List.getElem?_take] at r9
    rw [show b.length-1=dl by omega]
    split at r9
    ·exact r9
    ·simp at r9
   have YJ:V ((uW.take k5++[0]).drop (k5+1-b.length))<V b*f:=by
    have R:=(q2 O2 (k:=k5+1-b.length) (by omega)).1
    rw [Qb] at R
    have ae:=Dn aM kl
    have ay:B k5=B (k5+1-b.length)*B (b.length-1):=by rw [← zi];congr 1;omega
    rw [ay] at Pq
    have aK:B (k5+1-b.length)*V ((uW.take k5++[0]).drop (k5+1-b.length))<B (k5+1-b.length)*B (b.length-1):=by omega
    have:=Int.lt_of_mul_lt_mul_left aK (by have:=n8 (k5+1-b.length);omega)
    omega
   obtain ⟨r,an,ad,b3,bg,bl,bt,bw⟩:=U7 (az:=[f]) (m:=k5+1-b.length) (by omega) (by omega) (by rw [Ii];exact j1 _) Z3 ux (by omega) O2 (by omega) (by omega) YJ
   rw [uM] at an b3
   rw [Qa,an]
   simp only [Option.bind_some]
   rw [if_pos (by omega),List.drop_zero,List.take_of_length_le (by omega),wI ad (by omega)]
   simp only [Option.bind_some]
   have An:=ke ad
   rw [Qb] at bw
   have bR:V r.1=(V a-V r.2*V b)*f:=by grind
   have Z4:0≤V a-V r.2*V b:=by
    apply Int.not_lt.mp
    intro h
    have:(V a-V r.2*V b)*f≤(-1)*f:=Int.mul_le_mul_of_nonneg_right (by omega) (by omega)
    omega
   have Ar:V a-V r.2*V b<V b:=by
    apply Int.lt_of_mul_lt_mul_right (a:=f) _ (by omega)
    omega
   obtain ⟨aW,bh⟩:=Uv (a:=V a) (b:=V b) (q:=V r.2) (s:=V a-V r.2*V b) (by omega) Z4 Ar
   rw [if_pos (by simp)]
   simp only [List.getElem?_cons_zero,Option.bind_some]
   have DG:(L (V r.1)).length≤k5+1:=(hE An).2 (by have:=lV ad;rwa [b3] at this)
   rw [LO (j1 _) ⟨by omega,JX⟩ (by omega),fa An]
   simp only [Option.bind_some]
   rw [wI bl (by omega)]
   simp only [Option.bind_some]
   rw [aW,bh,bR,Int.mul_ediv_cancel _ (by omega)]
theorem MB {a b:List Int}(bA:eE a)(aM:eE b)(a1:a.length≤900000)(hm:b.length≤900000):wc a b=some (L (Int.gcd (V a) (V b))):=by
 have : ∃r,iter (fun w:List Int×List Int=>vG w.1 w.2) (a,b)=some r∧r=L (Int.gcd (V a) (V b)):=by
  refine jJ (ei:=fun w:List Int×List Int=>eE w.1∧eE w.2∧w.1.length≤900000∧w.2.length≤900000∧Int.gcd (V w.1) (V w.2)=Int.gcd (V a) (V b)) (m:=fun w:List Int×List Int=>(V w.2).toNat) _ ?_ _ ⟨bA,aM,a1,hm,rfl⟩
  rintro ⟨x,y⟩ ⟨o,R,ae,ay,aK⟩
  simp only at o R ae ay aK ⊢
  have h3:=ke o.1
  have nG:=ke R.1
  by_cases aS:y=[]
  ·subst aS
   refine .inr ⟨x,by simp [vG,fY],?_⟩
   rw [← aK,zj,CN h3]
   exact (se o).symm
  ·have JQ:=qu R aS
   have ZM:=List.length_pos_iff.mpr aS
   have uL:=Int.emod_nonneg (V x) (b:=V y) (by omega)
   have ZN:=Int.emod_lt_of_pos (V x) JQ
   refine .inl ⟨(y,L (V x % V y)),?_,⟨R,iX _,ay,(hE uL).2 ?_,?_⟩,?_⟩
   ·unfold vG
    simp only [fY]
    rw [if_pos (by simp;omega),CO o R aS ae ay]
    rfl
   ·have:=lV R.1
    have:=sL ay
    omega
   ·simp only
    rw [fa uL,← aK]
    exact HL h3
   ·simp only
    rw [fa uL]
    omega
 obtain ⟨r,an,rfl⟩:=this
 unfold wc GG
 rw [an]
 rfl
def gr (n:Int):a5:=⟨decide (n<0),L n.natAbs⟩
def eD (neg:Bool)(a:Int):Int:=if neg then -a else a
def mk (p:Int×Int):j5:=⟨gr p.1,L p.2⟩
def jU (p:Int×Int):c3:=⟨gr p.1,L p.2⟩
def YK (x:Option (Int×Int)):Option c3:=x.map jU
structure Fr (p:Int×Int):Prop where
 pos:0<p.2
 Qc:Int.gcd p.1 p.2=1
 num:(p.1.natAbs:Int)<B 24
 den:p.2<B 24
theorem yL {n:Int}:(gr n).cy=L n.natAbs:=rfl
theorem Cz {n:Int}:(gr n).cU=decide (n<0):=rfl
theorem U8 {n:Int}(h:0≤n):decide ((0:Int)<((L n).length:Nat))=decide (0<n):=by
 apply decide_eq_decide.2
 by_cases o:0<n
 ·have:(L n)≠[]:=fun R=>by have:=sT.1 R;omega
  have:=List.length_pos_iff.mpr this
  omega
 ·have:n=0:=by omega
  subst this
  simp [oG]
theorem IZ {n:Int}(h:0≤n):(((L n).length:Nat):Int)=0↔n=0:=by
 constructor
 ·intro o
  have:L n=[]:=List.eq_nil_of_length_eq_zero (by omega)
  have:=sT.1 this
  omega
 ·rintro rfl
  simp [oG]
theorem C3 {neg:Bool}{a:Int}(h:0≤a):((eD neg a).natAbs:Int)=a:=by
 unfold eD
 cases neg<;>simp<;>omega
theorem Wz {neg:Bool}{a:Int}(h:0≤a):(⟨neg && decide (0<a),L a⟩:a5)=gr (eD neg a):=by
 unfold gr
 rw [C3 h]
 congr 1
 unfold eD
 cases neg
 ·simp;omega
 ·simp
theorem pF {neg:Bool}{a:Int}(h:0≤a):ku neg (L a)=some (gr (eD neg a)):=by
 unfold ku
 rw [← Wz h,fY,U8 h]
 cases neg<;>simp
theorem Xk {a b:Int}:eD (!(decide (a<0) == decide (b<0))) ((a.natAbs:Int)*(b.natAbs:Int))=a*b:=by
 unfold eD
 by_cases bA:a<0
 ·have ax:(a.natAbs:Int) = -a:=by omega
  by_cases aM:b<0
  ·have aF:(b.natAbs:Int) = -b:=by omega
   rw [ax,aF]
   simp [bA,aM,Int.neg_mul,Int.mul_neg]
  ·have aF:(b.natAbs:Int)=b:=by omega
   rw [ax,aF]
   simp [bA,aM,Int.neg_mul,Int.mul_neg]
 ·have ax:(a.natAbs:Int)=a:=by omega
  by_cases aM:b<0
  ·have aF:(b.natAbs:Int) = -b:=by omega
   rw [ax,aF]
   simp [bA,aM,Int.neg_mul,Int.mul_neg]
  ·have aF:(b.natAbs:Int)=b:=by omega
   rw [ax,aF]
   simp [bA,aM,Int.neg_mul,Int.mul_neg]
theorem WA {a b:Int}:eD (decide (a<0)) ((a.natAbs:Int)*b)=a*b:=by
 unfold eD
 by_cases bA:a<0
 ·have ax:(a.natAbs:Int) = -a:=by omega
  rw [ax]
  simp [bA,Int.neg_mul,Int.mul_neg]
 ·have ax:(a.natAbs:Int)=a:=by omega
  rw [ax]
  simp [bA,Int.neg_mul,Int.mul_neg]
theorem V1 {a c:Int}:ly (-c) (-a)=ly a c:=by
 unfold ly
 by_cases h:a<c
 ·have : -c < -a:=by omega
  simp [h,this]
 ·by_cases R:c<a
  ·have ae : ¬ -c < -a:=by omega
   have ay : -a < -c:=by omega
   simp [h,R,ae,ay]
  ·have ae : ¬ -c < -a:=by omega
   have ay : ¬ -a < -c:=by omega
   simp [h,R,ae,ay]
theorem Li {a c:Int}(bA:(L a.natAbs).length≤5000000)(aP:(L c.natAbs).length≤5000000):qW (gr a) (gr c)=some (ly a c):=by
 have bR:qW (gr a) (gr c)=if (decide (a<0) == decide (c<0))=true then (if decide (a<0)=true then (o2 (L c.natAbs) (L a.natAbs)).bind (fun r=>some r) else (o2 (L a.natAbs) (L c.natAbs)).bind (fun r=>some r)) else if decide (a<0)=true then some (-1) else some 1:=rfl
 rw [bR,TJ]
 by_cases o:a<0
 ·by_cases R:c<0
  ·rw [if_pos (by simp [o,R]),if_pos (by simpa using o),wR (iX _) (iX _) aP,fa (by omega),fa (by omega),show (c.natAbs:Int) = -c by omega,show (a.natAbs:Int) = -a by omega,V1]
   rfl
  ·rw [if_neg (by simp [o,R]),if_pos (by simpa using o)]
   unfold ly
   rw [if_pos (by omega)]
 ·by_cases R:c<0
  ·rw [if_neg (by simp [o,R]),if_neg (by simpa using o)]
   unfold ly
   rw [if_neg (by omega),if_pos (by omega)]
  ·rw [if_pos (by simp [o,R]),if_neg (by simpa using o),wR (iX _) (iX _) bA,fa (by omega),fa (by omega),show (c.natAbs:Int)=c by omega,show (a.natAbs:Int)=a by omega]
   rfl
def fits (x:Int):Prop:=x<B 24
noncomputable instance (x:Int):Decidable (fits x):=Classical.propDecidable _
noncomputable def low (n d:Int):Option (Int×Int) :=
 if fits ((n / (Int.gcd n d:Int)).natAbs:Int)∧fits (d / (Int.gcd n d:Int)) then some (n / (Int.gcd n d:Int),d / (Int.gcd n d:Int)) else none
theorem HW {n d:Int}(h:0<d):(0:Int)<Int.gcd n d:=by
 have:Int.gcd n d≠0:=by
  rw [Ne,Int.gcd_eq_zero_iff]
  omega
 omega
theorem WB {n d:Int}(h:0<d): ∃m e,n / (Int.gcd n d:Int)=m∧d / (Int.gcd n d:Int)=e∧n=Int.gcd n d*m∧d=Int.gcd n d*e∧0<e∧(n.natAbs:Int) / (Int.gcd n d:Int)=m.natAbs:=by
 have dt:=HW (n:=n) h
 obtain ⟨m,hm⟩:=Int.gcd_dvd_left (a:=n) (b:=d)
 obtain ⟨e,he⟩:=Int.gcd_dvd_right (a:=n) (b:=d)
 refine ⟨m,e,?_,?_,hm,he,?_,?_⟩
 ·conv=>lhs;lhs;rw [hm]
  exact Int.mul_ediv_cancel_left _ (by omega)
 ·conv=>lhs;lhs;rw [he]
  exact Int.mul_ediv_cancel_left _ (by omega)
 ·apply Int.not_le.mp
  intro o
  have:(Int.gcd n d:Int)*e≤Int.gcd n d*0:=Int.mul_le_mul_of_nonneg_left o (by omega)
  omega
 ·have ax:(n.natAbs:Int)=Int.gcd n d*m.natAbs:=by
   conv=>lhs;rw [hm]
   rw [Int.natAbs_mul]
   simp
  rw [ax]
  exact Int.mul_ediv_cancel_left _ (by omega)
theorem Xl {a:Int}(h:0≤a):He (L a)=some (decide (a=1)):=by
 unfold He
 simp only [fY]
 by_cases o:(L a).length=1
 ·have R:=(hE (k:=1) h).1 (by omega)
  have ae:0<a:=by
   apply Int.not_le.mp
   intro ay
   rw [O0 ay] at o
   simp at o
  have aK:a<1000000000:=by simpa [B] using R
  rw [CG ⟨ae,aK⟩]
  by_cases bI:a=1<;>simp [bI]
 ·rw [if_neg (by simp;omega)]
  have:a≠1:=by
   rintro rfl
   rw [CG (by omega)] at o
   simp at o
  simp [this]
theorem NZ {n d:Int}(h:0≤d):Int.gcd (n.natAbs:Int) d=Int.gcd n d:=by
 simp [Int.gcd]
theorem Xm {neg:Bool}{p m g:Int}(ak:0≤p)(dt:0<g)(hm:eD neg p=g*m):eD neg (m.natAbs:Int)=m:=by
 unfold eD at hm ⊢
 cases neg
 ·simp at hm ⊢
  have:0≤m:=by
   apply Int.not_lt.mp
   intro o
   have:g*m≤g*(-1):=Int.mul_le_mul_of_nonneg_left (by omega) (by omega)
   omega
  omega
 ·simp at hm ⊢
  have:m≤0:=by
   apply Int.not_lt.mp
   intro o
   have:g*1≤g*m:=Int.mul_le_mul_of_nonneg_left (by omega) (by omega)
   omega
  omega
end Go.Proofs.YtfdnefmiaihfcaaGreat
namespace Go.Proofs.YtfdnefmiaihfcaaGreat
set_option linter.unusedVariables false
set_option linter.unusedSimpArgs false
open Go Go.VL
theorem X3 {neg:Bool}{a:Int}(h:0≤a)(R:neg=true→0<a):decide (eD neg a<0)=neg:=by
 unfold eD
 cases neg
 ·simp;omega
 ·have:=R rfl
  simp;omega
theorem N0 {neg:Bool}{l:List Int}(aG:eE l)(R:neg=true→l≠[]):(⟨neg,l⟩:a5)=gr (eD neg (V l)):=by
 have h:=ke aG.1
 unfold gr
 rw [C3 h,se aG,X3 h (fun a1=>qu aG (R a1))]
theorem Tz {x:a5}(hm:(x.cy.length:Int)<9223372036854775807): ∃ok,GZ x=some ok∧ye x=some ok∧(ok=true↔ ∃n,x=gr n∧(L n.natAbs).length≤60):=by
 obtain ⟨I,o,R,ae⟩:=Mz hm
 unfold GZ ye
 rw [o,R]
 simp only [Option.bind_eq_bind,Option.bind_some,fY]
 obtain ⟨neg,Aw⟩:=x
 simp only at ae ⊢
 have iM:decide ((0:Int)<(Aw.length:Nat)) = !((((Aw.length:Nat):Int) == 0)):=by
  by_cases h:Aw=[]
  ·subst h;rfl
  ·have:=List.length_pos_iff.mpr h
   rw [decide_eq_true (by omega)]
   symm
   simp
   omega
 by_cases aj:I=true
 ·obtain ⟨ay,aK⟩:=ae.1 aj
  subst aj
  cases neg
  ·refine ⟨true,rfl,rfl,?_⟩
   simp only [true_iff]
   refine ⟨_,N0 ay (fun h=>by simp at h),?_⟩
   rw [C3 (ke ay.1),se ay]
   exact aK
  ·refine ⟨decide ((0:Int)<(Aw.length:Nat)),rfl,by rw [iM];rfl,?_⟩
   rw [decide_eq_true_iff]
   constructor
   ·intro ak
    refine ⟨_,N0 ay (fun _ h=>by subst h;simp at ak),?_⟩
    rw [C3 (ke ay.1),se ay]
    exact aK
   ·rintro ⟨n,a1,-⟩
    have ax:=congrArg a5.cU a1
    have aF:=congrArg a5.cy a1
    simp only [Cz,yL] at ax aF
    have b4:n<0:=by simpa using ax.symm
    have:Aw≠[]:=by
     rw [aF]
     intro h
     have:=sT.1 h
     omega
    have:=List.length_pos_iff.mpr this
    omega
 ·refine ⟨false,by simp [aj],by simp [aj],?_⟩
  simp only [Bool.false_eq_true,false_iff]
  rintro ⟨n,a1,xy⟩
  have aF:=congrArg a5.cy a1
  simp only [yL] at aF
  exact aj (ae.2 (aF▸⟨iX _,xy⟩))
theorem Uw {r:j5}(hm:r.gW.cy.length≤2000000)(ba:r.hb.length≤2000000): ∃ok,Mv r=some ok∧wk r=some ok∧(ok=true↔ ∃p,Fr p∧r=mk p):=by
 obtain ⟨bY,hn,im,bs⟩:=Tz (x:=r.gW) (by omega)
 obtain ⟨a9,gF,h8,lK⟩:=Mz (a:=r.hb) (by omega)
 unfold Mv wk
 rw [hn,im]
 simp only [Option.bind_eq_bind,Option.bind_some,fY]
 by_cases o:bY=true
 ·rw [if_pos o,if_pos o,gF,h8]
  simp only [Option.bind_some]
  by_cases R:a9=true
  ·rw [if_pos R,if_pos R]
   obtain ⟨n,a1,aco⟩:=bs.1 o
   obtain ⟨qb,acp⟩:=lK.1 R
   have tc:=ke qb.1
   have Qd:r.hb=L (V r.hb):=(se qb).symm
   have DM:r.gW.cy=L n.natAbs:=by rw [a1];rfl
   by_cases ae:r.hb=[]
   ·rw [if_pos (by simp [ae]),if_pos (by simp [ae])]
    refine ⟨false,rfl,rfl,?_⟩
    simp only [Bool.false_eq_true,false_iff]
    rintro ⟨p,ak,an⟩
    have e:r.hb=L p.2:=by rw [an];rfl
    rw [ae] at e
    have:=sT.1 e.symm
    have:=ak.pos
    omega
   ·have J1:=qu qb ae
    have acY:=List.length_pos_iff.mpr ae
    have p1 : ¬((((r.hb.length:Nat):Int) == 0)=true):=by simp [ae]
    rw [if_neg p1,if_neg p1]
    by_cases ay:24<r.hb.length
    ·rw [if_pos (by simp;omega)]
     have gu : ¬∃p,Fr p∧r=mk p:=by
      rintro ⟨p,ak,an⟩
      have e:r.hb=L p.2:=by rw [an];rfl
      have:=(hE (k:=24) (by have:=ak.pos;omega)).2 ak.den
      rw [← e] at this
      omega
     refine ⟨false,rfl,?_,by simp [gu]⟩
     by_cases aK:24<r.gW.cy.length
     ·rw [if_pos (by simp;omega)]
     ·rw [if_neg (by simp;omega),if_pos (by simp;omega)]
    ·rw [if_neg (by simp;omega)]
     by_cases aK:24<r.gW.cy.length
     ·rw [if_pos (by simp;omega),if_pos (by simp;omega)]
      refine ⟨false,rfl,rfl,?_⟩
      simp only [Bool.false_eq_true,false_iff]
      rintro ⟨p,ak,an⟩
      have e:r.gW.cy=L p.1.natAbs:=by rw [an];rfl
      have:=(hE (k:=24) (by omega)).2 ak.num
      rw [← e] at this
      omega
     ·rw [if_neg (by simp;omega),if_neg (by simp;omega),if_neg (by simp;omega)]
      rw [DM] at aK ⊢
      rw [Xh (iX _) qb (by omega) (by omega),MB (iX _) qb (by omega) (by omega),fa (by omega),NZ tc]
      simp only [Option.bind_some]
      have dt:=HW (n:=n) J1
      have Z5:eE [1]:=eE.one (by omega)
      have DS:(L (Int.gcd n (V r.hb))).length≤5000000:=by
       have bQ:(Int.gcd n (V r.hb):Int)≤V r.hb:=Int.le_of_dvd J1 (Int.gcd_dvd_right ..)
       have:=(hE (k:=24) (by omega)).2 (show (Int.gcd n (V r.hb):Int)<B 24 by
        have:=(qb.len (k:=24)).1 (by omega)
        omega)
       omega
      rw [Xl (by omega),Ce (iX _) Z5 DS,fa (by omega)]
      have qM:V [1]=1:=by decide
      rw [qM]
      simp only [Option.bind_some]
      refine ⟨decide ((Int.gcd n (V r.hb):Int)=1),rfl,?_,?_⟩
      ·congr 1
       rw [Bool.eq_iff_iff]
       simp [Hv]
      ·rw [decide_eq_true_iff]
       constructor
       ·intro hu
        refine ⟨(n,V r.hb),⟨J1,by simp only;omega,(hE (by omega)).1 (by simp only;omega),(qb.len).1 (by omega)⟩,?_⟩
        obtain ⟨num,den⟩:=r
        simp only at a1 Qd ⊢
        unfold mk
        simp only
        rw [← Qd,← a1]
       ·rintro ⟨p,ak,an⟩
        have e:r.hb=L p.2:=by rw [an];rfl
        have aF:r.gW=gr p.1:=by rw [an];rfl
        have b4:V r.hb=p.2:=by rw [e,fa (by have:=ak.pos;omega)]
        have dy:n=p.1:=by
         rw [a1] at aF
         have f1:=congrArg a5.cU aF
         have f2:=congrArg a5.cy aF
         simp only [Cz,yL] at f1 f2
         have f3:=congrArg V f2
         rw [fa (by omega),fa (by omega)] at f3
         have f4:n<0↔p.1<0:=by
          constructor
          ·intro h;simpa [h] using f1.symm
          ·intro h;simpa [h] using f1
         omega
        rw [b4,dy,ak.Qc]
        rfl
  ·refine ⟨false,by simp [R],by simp [R],?_⟩
   simp only [Bool.false_eq_true,false_iff]
   rintro ⟨p,ak,an⟩
   have e:r.hb=L p.2:=by rw [an];rfl
   have:=(hE (k:=24) (by have:=ak.pos;omega)).2 ak.den
   exact R (lK.2 (e▸⟨iX _,by omega⟩))
 ·refine ⟨false,by simp [o],by simp [o],?_⟩
  simp only [Bool.false_eq_true,false_iff]
  rintro ⟨p,ak,an⟩
  have aF:r.gW=gr p.1:=by rw [an];rfl
  have:=(hE (k:=24) (n:=p.1.natAbs) (by omega)).2 ak.num
  exact o (bs.2 ⟨p.1,aF,by omega⟩)
theorem Fr.sZ {p:Int×Int}(h:Fr p):(L p.1.natAbs).length≤24:=(hE (by omega)).2 h.num
theorem Fr.s0 {p:Int×Int}(h:Fr p):(L p.2).length≤24:=(hE (by have:=h.pos;omega)).2 h.den
theorem X4 (m n:Nat):B m*B n=B (m+n):=(zi m n).symm
theorem HX {x y:Int}{m n:Nat}(aa:0≤x)(aS:0≤y)(o:x<B m)(R:y<B n):(L (x*y)).length≤m+n:=by
 apply (hE (Int.mul_nonneg aa aS)).2
 rw [← X4]
 have ae:x*y≤(B m-1)*(B n-1):=Int.mul_le_mul (by omega) (by omega) aS (by omega)
 have ay:(B m-1)*(B n-1)=B m*B n-B m-B n+1:=by grind
 have aK:=n8 m
 have bI:=n8 n
 omega
theorem U9 {n d:Int}(ba:0<d)(z8:(L n.natAbs).length≤900000)(J2:(L d).length≤900000):qj (gr n) (L d)=some (some (jU (n / (Int.gcd n d:Int),d / (Int.gcd n d:Int)))):=by
 obtain ⟨m,e,o,R,ae,ay,aK,bI⟩:=WB (n:=n) ba
 have dt:=HW (n:=n) ba
 rw [o,R]
 unfold qj
 simp only [yL,Cz,fY]
 by_cases a1:n=0
 ·subst a1
  have Z6:(Int.gcd 0 d:Int)=d:=by rw [Int.gcd_comm,CN (by omega)]
  rw [Z6] at ae ay
  have hm:m=0:=by
   rcases Int.mul_eq_zero.1 ae.symm with h|h<;>omega
  have he:e=1:=by
   have:d*e=d*1:=by omega
   exact Int.eq_of_mul_eq_mul_left (by omega) this
  subst hm he
  rw [if_pos (by simp [oG])]
  unfold jU gr
  simp only [Int.natAbs_zero]
  rw [CG (x:=1) (by omega),show ((0:Nat):Int)=0 from rfl,oG]
  rfl
 ·have YL : ¬((((L n.natAbs).length:Nat):Int) == 0)=true:=by
   simp only [beq_iff_eq]
   intro h
   have:=(IZ (n:=n.natAbs) (by omega)).1 h
   omega
  rw [if_neg YL,MB (iX _) (iX _) z8 J2,fa (by omega),fa (by omega),NZ (by omega)]
  simp only [Option.bind_eq_bind,Option.bind_some]
  have DS:(L (Int.gcd n d)).length≤900000:=by
   have bQ:(Int.gcd n d:Int)≤d:=Int.le_of_dvd ba (Int.gcd_dvd_right ..)
   apply (hE (by omega)).2
   have:=(hE (n:=d) (by omega)).1 J2
   omega
  rw [Ce (iX _) (eE.one (by omega)) (by omega),fa (by omega),show V [1]=1 by decide]
  simp only [Option.bind_some]
  by_cases hu:(Int.gcd n d:Int)=1
  ·rw [if_pos (by simpa using Hv.2 hu)]
   rw [hu] at ae ay
   rw [Int.one_mul] at ae ay
   subst ae ay
   rfl
  ·rw [if_neg (fun h=>hu (Hv.1 (by simpa using h)))]
   have Qe:L (Int.gcd n d)≠[]:=fun h=>by
    have:=sT.1 h
    omega
   rw [CO (iX _) (iX _) Qe z8 DS,fa (by omega),fa (by omega)]
   simp only [Option.bind_some]
   rw [CO (iX _) (iX _) Qe J2 DS,fa (by omega),fa (by omega)]
   simp only [Option.bind_some]
   rw [bI,R,pF (by omega)]
   simp only [Option.bind_some]
   have bR:eD (decide (n<0)) (m.natAbs:Int)=m:=by
    refine Xm (p:=n.natAbs) (g:=Int.gcd n d) (by omega) dt ?_
    rw [← ae]
    unfold eD
    by_cases h:n<0<;>simp [h]<;>omega
   rw [bR]
   rfl
theorem Xn {m e:Int}(he:0≤e):sF (some (jU (m,e)))=some (YK (if fits (m.natAbs:Int)∧fits e then some (m,e) else none)):=by
 have bR:sF (some (jU (m,e)))=if (decide ((24:Int)<len_ J (L m.natAbs)))=true then some none else if (decide ((24:Int)<len_ J (L e)))=true then some none else some (some (jU (m,e))):=rfl
 rw [bR,fY,fY]
 by_cases o:fits (m.natAbs:Int)
 ·have R:=(hE (by omega)).2 o
  rw [if_neg (by simp;omega)]
  by_cases ae:fits e
  ·have ay:=(hE he).2 ae
   rw [if_neg (by simp;omega),if_pos ⟨o,ae⟩]
   rfl
  ·have ay : ¬(L e).length≤24:=fun h=>ae ((hE he).1 h)
   rw [if_pos (by simp;omega),if_neg (fun h=>ae h.2)]
   rfl
 ·have ay : ¬(L m.natAbs).length≤24:=fun h=>o ((hE (by omega)).1 h)
  rw [if_pos (by simp;omega),if_neg (fun h=>o h.1)]
  rfl
theorem M0 {a b:Int}(bA:(L a.natAbs).length≤900000)(aM:(L b.natAbs).length≤900000):nO (gr a) (gr b)=some (gr (a*b)):=by
 unfold nO
 simp only [yL,Cz]
 rw [Cx (j1 _) (j1 _) (by omega) (by omega),fa (by omega),fa (by omega)]
 simp only [Option.bind_eq_bind,Option.bind_some]
 rw [pF (Int.mul_nonneg (by omega) (by omega)),Xk]
 rfl
theorem WC:(1000000000000000000000000000:Int)≤B 24:=by
 have h:B 3≤B 24:=sL (by omega)
 have ae:B 3=1000000000000000000000000000:=by decide
 omega
theorem MC {n:Int}(h:qz n):nj n=some (gr n):=by
 obtain ⟨o,R⟩:=nT.1 h
 unfold nj
 by_cases a1:n<0
 ·rw [if_pos (by simpa using a1),cP (x:=n+1) (by omega) (by omega),cP (x:=0-(n+1)) (by omega) (by omega),zn (x:=0-(n+1)) (by omega) (by omega),zn (by omega) (by omega),Hn (by omega) (by omega)]
  simp only [Option.bind_eq_bind,Option.bind_some]
  rw [pF (by omega)]
  simp only [Option.bind_some]
  congr 2
  unfold eD
  simp
  omega
 ·rw [if_neg (by simpa using a1),zn (by omega) (by omega),Hn (by omega) (by omega)]
  simp only [Option.bind_eq_bind,Option.bind_some]
  rw [pF (by omega)]
  simp only [Option.bind_some]
  congr 2
theorem X5:L 1=[1]:=CG (by omega)
theorem V2 {n:Int}(h:qz n):rI n=some (some (jU (n,1))):=by
 unfold rI
 rw [MC h]
 simp only [Option.bind_eq_bind,Option.bind_some,jU,X5]
theorem Xo {n:Int}(h:qz n):Fr (n,1):=by
 obtain ⟨o,R⟩:=nT.1 h
 have aM:=WC
 exact ⟨by simp,by simp,by simp only;omega,by simp only;omega⟩
theorem Cn {p:Int×Int}{d:Int}(ba:0≤d)(o:(L p.1.natAbs).length≤900000)(R:(L d).length≤900000):pB (some (jU p)) (L d)=some (gr (p.1*d)):=by
 have ax:pD (jU p).pf.cy (L d)=some (L ((p.1.natAbs:Int)*d)):=by
  show pD (L p.1.natAbs) (L d)=_
  rw [Cx (j1 _) (j1 _) (by omega) (by omega),fa (by omega),fa (by omega)]
 have D4:0≤(p.1.natAbs:Int)*d:=Int.mul_nonneg (by omega) (by omega)
 have b4:ku (jU p).pf.cU (L ((p.1.natAbs:Int)*d))=some (gr (p.1*d)):=by
  show ku (decide (p.1<0)) _=_
  rw [pF D4,WA]
 unfold pB
 rw [Option.bind_eq_bind,Option.bind_some,ax,Option.bind_eq_bind,Option.bind_some,b4]
 rfl
theorem Ij {a d:Int}(ba:0≤d):((a*d).natAbs:Int)=(a.natAbs:Int)*d:=by
 rw [Int.natAbs_mul,Int.natCast_mul]
 congr 1
 omega
theorem TK {p q:Int×Int}{i j k l:Nat}(ak:0<p.2)(a8:0<q.2)(o:(p.1.natAbs:Int)<B i)(R:p.2<B j)(ae:(q.1.natAbs:Int)<B k)(ay:q.2<B l)(af:i≤1000)(aC:j≤1000)(aU:k≤1000)(aG:l≤1000):vY (some (jU p)) (some (jU q))=some (ly (p.1*q.2) (q.1*p.2)):=by
 have me:=(hE (by omega)).2 o
 have oW:=(hE (by omega)).2 R
 have D2:=(hE (by omega)).2 ae
 have iR:=(hE (by omega)).2 ay
 have bQ:=HX (x:=p.1.natAbs) (y:=q.2) (by omega) (by omega) o ay
 have bE:=HX (x:=q.1.natAbs) (y:=p.2) (by omega) (by omega) ae R
 unfold vY
 rw [Option.bind_eq_bind,Option.bind_some]
 show (pB (some (jU p)) (L q.2)).bind _=_
 rw [Cn (by omega) (by omega) (by omega),Option.bind_some,Option.bind_eq_bind,Option.bind_some]
 show (pB (some (jU q)) (L p.2)).bind _=_
 rw [Cn (by omega) (by omega) (by omega),Option.bind_some,Li (by rw [Ij (by omega)];omega) (by rw [Ij (by omega)];omega)]
 rfl
theorem Hw:maxLen=9223372036854775807:=by decide
def pK (fC:List bb)(m:bB):Bool :=
 decide (0≤m.f8∧m.f8<fC.length∧0≤m.f9∧m.f9<fC.length∧1≤m.lg∧m.lg≤3) &&
 match fC[m.f8.toNat]?,fC[m.f9.toNat]? with
 | some a,some b=> !(a.lN == b.lN && a.lO == b.lO) && !(a.np && b.np)
 | _,_=>false
theorem T4 (s:cw)(m:bB):xR s m=some (pK s.cx m):=by
 unfold xR pK
 simp only [g8]
 by_cases o:m.f8<0
 ·simp [o];omega
 by_cases R:(s.cx.length:Int)≤m.f8
 ·simp [o,R];omega
 by_cases ae:m.f9<0
 ·simp [o,R,ae];omega
 by_cases ay:(s.cx.length:Int)≤m.f9
 ·simp [o,R,ae,ay];omega
 by_cases aK:m.lg<1
 ·simp [o,R,ae,ay,aK];omega
 by_cases bI:3<m.lg
 ·simp [o,R,ae,ay,aK,bI];omega
 obtain ⟨x,aa⟩ : ∃x,s.cx[m.f8.toNat]? = some x:=⟨_,List.getElem?_eq_getElem (by omega)⟩
 obtain ⟨y,aS⟩ : ∃y,s.cx[m.f9.toNat]? = some y:=⟨_,List.getElem?_eq_getElem (by omega)⟩
 have bF:0≤m.f8∧m.f8<s.cx.length:=by omega
 have cN:0≤m.f9∧m.f9<s.cx.length:=by omega
 have na:0≤m.f8∧m.f8<s.cx.length∧0≤m.f9∧m.f9<s.cx.length∧1≤m.lg∧m.lg≤3:=by omega
 rw [decide_eq_false o,decide_eq_false R,decide_eq_false ae,decide_eq_false ay,decide_eq_false aK,decide_eq_false bI,decide_eq_true na,if_pos bF,aa]
 simp only [Bool.false_eq_true,if_false,Option.bind_eq_bind,Option.bind_some,Bool.true_and]
 rw [if_pos cN,aS]
 simp only [Option.bind_some]
 by_cases ax:x.lN=y.lN<;>by_cases aF:x.lO=y.lO<;>by_cases DQ:x.np=true<;>by_cases JX:y.np=true<;>simp [ax,aF,DQ,JX]
def mc (s:cw):Prop:=(∀(n:Nat) j,s.cx[n]? = some j→ -50≤j.lN∧j.lN≤50∧ -50≤j.lO∧j.lO≤50)∧(∀(n:Nat) m,s.b8[n]? = some m→pK s.cx m=true)∧s.cx.length≤6∧s.b8.length≤8
theorem WD (s:cw)(h:mc s)(k:Int)(h0:0≤k)(o:k<s.b8.length):
 ∃x y,tt s k=some (x,y)∧(-100≤x∧x≤100)∧(-100≤y∧y≤100):=by
 obtain ⟨f1,f2,f3,f4⟩:=h
 obtain ⟨m,hm⟩ : ∃x,s.b8[k.toNat]? = some x:=⟨_,List.getElem?_eq_getElem (by omega)⟩
 have J3:=f2 _ m hm
 unfold pK at J3
 simp only [Bool.and_eq_true,decide_eq_true_eq] at J3
 obtain ⟨⟨g1,g2,g3,g4,-⟩,-⟩:=J3
 obtain ⟨a,bA⟩ : ∃x,s.cx[m.f8.toNat]? = some x:=⟨_,List.getElem?_eq_getElem (by omega)⟩
 obtain ⟨b,aM⟩ : ∃x,s.cx[m.f9.toNat]? = some x:=⟨_,List.getElem?_eq_getElem (by omega)⟩
 have adl:=f1 _ a bA
 have adm:=f1 _ b aM
 have ax:U (b.lN-a.lN)=b.lN-a.lN:=cP (by omega) (by omega)
 have aF:U (b.lO-a.lO)=b.lO-a.lO:=cP (by omega) (by omega)
 have cu:0≤k∧k<s.b8.length:=⟨h0,o⟩
 have bF:0≤m.f8∧m.f8<s.cx.length:=⟨g1,g2⟩
 have cN:0≤m.f9∧m.f9<s.cx.length:=⟨g3,g4⟩
 refine ⟨b.lN-a.lN,b.lO-a.lO,?_,by omega,by omega⟩
 unfold tt
 simp only [if_pos cu,hm,if_pos bF,if_pos cN,bA,aM,Option.bind_eq_bind,Option.bind_some,ax,aF]
def O3 (p:Int×Int):Option c3:=some (jU p)
def tk (l:List Int)(n:Nat)(x:Int):Prop:=0≤x∧x<1000000000∧(∀z,l[n]? = some z→x=z)∧(l[n]? = none→x=0)
theorem De {l:List Int}(h:cz l){n:Nat}(a1:n<l.length):tk l n l[n]:=by
 have aa:=List.getElem?_eq_getElem a1
 have h0:=h.get aa
 exact ⟨h0.1,h0.2,fun z cd=>by rw [aa] at cd;exact Option.some.inj cd,fun h=>by rw [aa] at h;simp at h⟩
theorem OB {l:List Int}{n:Nat}(a1:¬n<l.length):tk l n 0:=by
 have aa:l[n]? = none:=by simp;omega
 exact ⟨by omega,by omega,fun z cd=>by rw [aa] at cd;simp at cd,fun _=>rfl⟩
theorem tk.take {l:List Int}{n:Nat}{x:Int}(h:tk l n x):V (l.take (n+1))=V (l.take n)+B n*x:=Nn h.2.2.1 h.2.2.2
theorem Va {a b row:List Int}{carry:Int}{n:Nat}(bA:cz a)(aM:cz b)(aP:carry=0∨carry=1)(sd:a.length≤1000000)(a1:n<a.length)(an:n<row.length):
 ∃x y,tk a n x∧tk b n y∧vQ a b a.length carry n row=some (.inl ((carry+x+y) / 1000000000,((n+1:Nat):Int),row.set n ((carry+x+y) % 1000000000))):=by
 have l1:0≤carry∧carry≤1:=by omega
 have hA:=De bA a1
 have aa:=List.getElem?_eq_getElem a1
 have hn:=hA.1
 have im:=hA.2.1
 unfold vQ
 simp only [fY]
 rw [if_pos (by simp;omega),if_pos (by omega),Int.toNat_natCast,aa]
 simp only [Option.bind_eq_bind,Option.bind_some]
 by_cases R:n<b.length
 ·have gw:=De aM R
  have aS:=List.getElem?_eq_getElem R
  have gF:=gw.1
  have h8:=gw.2.1
  refine ⟨a[n],b[n],hA,gw,?_⟩
  rw [if_pos (by simp;omega),if_pos (by omega),aS]
  simp only [Option.bind_some]
  rw [if_pos (by omega),if_pos (by omega),cP (x:=a[n]+carry) (by omega) (by omega),cP (x:=a[n]+carry+b[n]) (by omega) (by omega),st (by omega),oC (by omega),cP (by omega) (by omega),pb (n:=n) (by omega),Nat.zero_add,Int.add_comm a[n] carry]
 ·refine ⟨a[n],0,hA,OB R,?_⟩
  rw [if_neg (by simp;omega),if_pos (by omega),if_pos (by omega),cP (x:=a[n]+carry) (by omega) (by omega),st (by omega),oC (by omega),cP (by omega) (by omega),pb (n:=n) (by omega),Nat.zero_add,Int.add_zero,Int.add_comm a[n] carry]
theorem Vb {a b:List Int}(bA:cz a)(aM:cz b)(sd:a.length≤900000)(qI:b.length≤a.length):
 ∃r,yj a b a.length 0 0 (List.replicate (a.length+1) 0)=some r∧(r.1=0∨r.1=1)∧cz r.2∧r.2.length=a.length+1∧V r.2+r.1*B a.length=V a+V b∧r.2[a.length]? = some 0:=by
 refine jJ (ei:=fun w:Int×Int×List Int=> ∃n:Nat,w.2.1=n∧n≤a.length∧(w.1=0∨w.1=1)∧cz w.2.2∧w.2.2.length=a.length+1∧V w.2.2+w.1*B n=V (a.take n)+V (b.take n)∧ ∀j,n≤j→j<a.length+1→w.2.2[j]? = some 0) (m:=fun w=>a.length-w.2.1.toNat) _ ?_ _ ⟨0,rfl,by omega,.inl rfl,cz.Jv _,by simp,by simp [V,Is],fun j _ h=>by simp [List.getElem?_replicate];omega⟩
 rintro ⟨carry,ii,row⟩ ⟨n,ax,aF,b4,dy,ea,e7,eT⟩
 simp only at ax b4 dy ea e7 eT ⊢
 subst ax
 by_cases a1:n=a.length
 ·subst a1
  refine .inr ⟨(carry,row),by simp [vQ],b4,dy,ea,?_,eT _ (Nat.le_refl _) (by omega)⟩
  rw [List.take_length,List.take_of_length_le qI] at e7
  exact e7
 ·obtain ⟨x,y,aa,aS,pY⟩:=Va (row:=row) (n:=n) bA aM b4 (by omega) (by omega) (by omega)
  have x0:=aa.1
  have fm:=aa.2.1
  have aaX:=aS.1
  have eQ:=aS.2.1
  refine .inl ⟨_,pY,⟨n+1,rfl,by omega,by simp only;omega,dy.set (by omega),by simpa using ea,?_,fun j o R=> ?_⟩,by simp only;omega⟩
  ·simp only
   rw [ra (eT n (Nat.le_refl _) (by omega)),lQ,aa.take,aS.take]
   have:=Int.mul_ediv_add_emod (carry+x+y) 1000000000
   generalize (carry+x+y) / 1000000000=u at *
   generalize (carry+x+y) % 1000000000=t at *
   have ch:t=carry+x+y-1000000000*u:=by omega
   rw [ch]
   grind
  ·simp only
   rw [List.getElem?_set_ne (by omega)]
   exact eT j (by omega) R
theorem M1 {a b:List Int}(bA:cz a)(aM:cz b)(sd:a.length≤900000)(qI:b.length≤a.length):
 (if 0≤(U ((len_ J a)+(1:Int)))∧(8:Int)*(U ((len_ J a)+(1:Int)))≤281474976710656∧(U ((len_ J a)+(1:Int)))<9223372036854775808 then
   (yj a b (len_ J a) 0 0 (List.replicate (U ((len_ J a)+(1:Int))).toNat 0:List Int)).bind fun bg =>
   if 0≤(len_ J a)∧(len_ J a)<(bg.2.length:Nat) then
   if (0+(len_ J a).toNat)<bg.2.length then
   (pE (bg.2.set (0+(len_ J a).toNat) bg.1)).bind fun bS=>some bS
   else none
   else none
   else none)=some (L (V a+V b)):=by
 obtain ⟨r,an,o,R,ae,ay,aK⟩:=Vb bA aM sd qI
 rw [fY,pb (by omega),if_pos (by omega),Int.toNat_natCast,an,Option.bind_some,if_pos (by omega),Int.toNat_natCast,Nat.zero_add,if_pos (by omega)]
 have zN:cz (r.2.set a.length r.1):=R.set (by omega)
 rw [wI zN (by simp;omega),ra aK,Option.bind_some]
 congr 2
 rw [← ay]
 grind
theorem WE {a b:List Int}(bA:cz a)(aM:cz b)(sd:a.length≤900000)(Z7:b.length≤900000):wt a b=some (L (V a+V b)):=by
 unfold wt
 by_cases h:a.length<b.length
 ·rw [if_pos (by rw [fY,fY];simpa using h)]
  have:=M1 aM bA Z7 (by omega)
  rw [Int.add_comm (V a)]
  exact this
 ·rw [if_neg (by rw [fY,fY];simpa using h)]
  exact M1 bA aM sd (by omega)
theorem Ux {a b row:List Int}{less:Int}{n:Nat}(bA:cz a)(aM:cz b)(aG:less=0∨less=1)(sd:a.length≤1000000)(a1:n<a.length)(an:n<row.length):
 ∃x y,tk a n x∧tk b n y∧vO b a a.length less n row=some (.inl (if x-less-y<0 then (1,((n+1:Nat):Int),row.set n (x-less-y+1000000000)) else (0,((n+1:Nat):Int),row.set n (x-less-y)))):=by
 have l1:0≤less∧less≤1:=by omega
 have hA:=De bA a1
 have aa:=List.getElem?_eq_getElem a1
 have hn:=hA.1
 have im:=hA.2.1
 unfold vO
 simp only [fY]
 rw [if_pos (by simp;omega),if_pos (by omega),Int.toNat_natCast,aa]
 simp only [Option.bind_eq_bind,Option.bind_some]
 by_cases R:n<b.length
 ·have gw:=De aM R
  have aS:=List.getElem?_eq_getElem R
  have gF:=gw.1
  have h8:=gw.2.1
  refine ⟨a[n],b[n],hA,gw,?_⟩
  rw [if_pos (by simp;omega),if_pos (by omega),aS]
  simp only [Option.bind_some]
  rw [cP (x:=a[n]-less) (by omega) (by omega),cP (x:=a[n]-less-b[n]) (by omega) (by omega),pb (n:=n) (by omega),cP (x:=a[n]-less-b[n]+1000000000) (by omega) (by omega),Nat.zero_add]
  by_cases h:a[n]-less-b[n]<0
  ·rw [if_pos (by simpa using h),if_pos h,if_pos (by omega),if_pos (by omega)]
  ·rw [if_neg (by simpa using h),if_neg h,if_pos (by omega),if_pos (by omega)]
 ·refine ⟨a[n],0,hA,OB R,?_⟩
  rw [if_neg (by simp;omega),cP (x:=a[n]-less) (by omega) (by omega),pb (n:=n) (by omega),cP (x:=a[n]-less+1000000000) (by omega) (by omega),Nat.zero_add,Int.sub_zero]
  by_cases h:a[n]-less<0
  ·rw [if_pos (by simpa using h),if_pos h,if_pos (by omega),if_pos (by omega)]
  ·rw [if_neg (by simpa using h),if_neg h,if_pos (by omega),if_pos (by omega)]
theorem Nq {a b:List Int}(bA:cz a)(aM:cz b)(hlen:b.length≤a.length)(qI:V b≤V a)(sd:a.length≤900000):sC a b=some (L (V a-V b)):=by
 have : ∃r,GV b a a.length 0 0 (List.replicate a.length 0)=some r∧cz r∧r.length=a.length∧V r=V a-V b:=by
  refine jJ (ei:=fun w:Int×Int×List Int=> ∃n:Nat,w.2.1=n∧n≤a.length∧(w.1=0∨w.1=1)∧cz w.2.2∧w.2.2.length=a.length∧V w.2.2-w.1*B n=V (a.take n)-V (b.take n)∧ ∀j,n≤j→j<a.length→w.2.2[j]? = some 0) (m:=fun w=>a.length-w.2.1.toNat) _ ?_ _ ⟨0,rfl,by omega,.inl rfl,cz.Jv _,by simp,by simp [V,Is],fun j _ h=>by simp [List.getElem?_replicate];omega⟩
  rintro ⟨less,ii,row⟩ ⟨n,ax,aF,b4,dy,ea,e7,eT⟩
  simp only at ax b4 dy ea e7 eT ⊢
  subst ax
  by_cases a1:n=a.length
  ·subst a1
   refine .inr ⟨row,by simp [vO],dy,ea,?_⟩
   rw [List.take_length,List.take_of_length_le hlen] at e7
   have R:=lV dy
   rw [ea] at R
   rcases b4 with rfl|rfl<;>omega
  ·obtain ⟨x,y,aa,aS,pY⟩:=Ux (row:=row) (n:=n) bA aM b4 (by omega) (by omega) (by omega)
   have x0:=aa.1
   have fm:=aa.2.1
   have aaX:=aS.1
   have eQ:=aS.2.1
   rw [pY]
   refine .inl ⟨_,rfl,?_⟩
   by_cases h:x-less-y<0
   ·rw [if_pos h]
    refine ⟨⟨n+1,rfl,by omega,.inr rfl,dy.set (by omega),by simpa using ea,?_,fun j o R=> ?_⟩,by simp only;omega⟩
    ·simp only
     rw [ra (eT n (Nat.le_refl _) (by omega)),lQ,aa.take,aS.take]
     grind
    ·simp only
     rw [List.getElem?_set_ne (by omega)]
     exact eT j (by omega) R
   ·rw [if_neg h]
    refine ⟨⟨n+1,rfl,by omega,.inl rfl,dy.set (by omega),by simpa using ea,?_,fun j o R=> ?_⟩,by simp only;omega⟩
    ·simp only
     rw [ra (eT n (Nat.le_refl _) (by omega)),aa.take,aS.take]
     grind
    ·simp only
     rw [List.getElem?_set_ne (by omega)]
     exact eT j (by omega) R
 obtain ⟨r,an,o,R,ae⟩:=this
 unfold sC
 simp only [fY]
 rw [if_pos (by omega),Int.toNat_natCast,an]
 simp only [Option.bind_eq_bind,Option.bind_some]
 rw [wI o (by omega),ae]
 rfl
theorem Xp {a b:Int}(h:decide (a<0)=decide (b<0)):eD (decide (a<0)) ((a.natAbs:Int)+(b.natAbs:Int))=a+b:=by
 have cj:a<0↔b<0:=by simpa using h
 unfold eD
 by_cases o:a<0
 ·have:=cj.1 o
  simp only [o,decide_true,if_true]
  omega
 ·have : ¬b<0:=fun aM=>o (cj.2 aM)
  simp only [o,decide_false,Bool.false_eq_true,if_false]
  omega
theorem N1 {a b:Int}(h:¬decide (a<0)=decide (b<0)):eD (decide (a<0)) ((a.natAbs:Int)-(b.natAbs:Int))=a+b∧eD (decide (b<0)) ((b.natAbs:Int)-(a.natAbs:Int))=a+b:=by
 have cj : ¬(a<0↔b<0):=by simpa using h
 unfold eD
 by_cases o:a<0
 ·have R : ¬b<0:=fun aM=>cj ⟨fun _=>aM,fun _=>o⟩
  simp only [o,R,decide_true,if_true,decide_false,Bool.false_eq_true,if_false]
  omega
 ·have R:b<0:=by
   apply Classical.byContradiction
   intro aM
   exact cj ⟨fun h=>absurd h o,fun h=>absurd h aM⟩
  simp only [o,R,decide_true,if_true,decide_false,Bool.false_eq_true,if_false]
  omega
theorem Nr {x y:Int}(aa:0≤x)(Jw:x≤y):(L x).length≤(L y).length:=by
 apply (hE aa).2
 have:=lV (j1 y)
 rw [fa (by omega)] at this
 omega
theorem Ns {a b:Int}(bA:(a.natAbs:Int)<B 50)(aM:(b.natAbs:Int)<B 50):sx (gr a) (gr b)=some (gr (a+b)):=by
 have xG:=(hE (k:=50) (n:=a.natAbs) (by omega)).2 bA
 have AS:=(hE (k:=50) (n:=b.natAbs) (by omega)).2 aM
 have bR:sx (gr a) (gr b)=((o2 (L a.natAbs) (L b.natAbs)).bind fun ad=>if (decide (a<0) == decide (b<0))=true then (wt (L a.natAbs) (L b.natAbs)).bind fun b3=>(ku (decide (a<0)) b3).bind fun bl=>some bl else if (decide ((0:Int)≤ad))=true then (sC (L a.natAbs) (L b.natAbs)).bind fun bt=>(ku (decide (a<0)) bt).bind fun bS=>some bS else (sC (L b.natAbs) (L a.natAbs)).bind fun bt=>(ku (decide (b<0)) bt).bind fun bS=>some bS):=rfl
 rw [bR,Ce (iX _) (iX _) (by omega),fa (by omega),fa (by omega),Option.bind_some]
 by_cases h:decide (a<0)=decide (b<0)
 ·rw [if_pos (by simpa using h),WE (j1 _) (j1 _) (by omega) (by omega),fa (by omega),fa (by omega),Option.bind_some,pF (by omega),Xp h]
  rfl
 ·rw [if_neg (by simpa using h)]
  by_cases aP:(b.natAbs:Int)≤a.natAbs
  ·have J4:0≤ly (a.natAbs:Int) b.natAbs:=by
    apply Int.not_lt.mp
    intro o
    have:=wJ.1 o
    omega
   rw [if_pos (by simpa using J4),Nq (j1 _) (j1 _) (Nr (by omega) aP) (by rw [fa (by omega),fa (by omega)];exact aP) (by omega),fa (by omega),fa (by omega),Option.bind_some,pF (by omega),(N1 h).1]
   rfl
  ·have J4 : ¬0≤ly (a.natAbs:Int) b.natAbs:=by
    have:=wJ.2 (show (a.natAbs:Int)<b.natAbs by omega)
    omega
   rw [if_neg (by simpa using J4),Nq (j1 _) (j1 _) (Nr (by omega) (by omega)) (by rw [fa (by omega),fa (by omega)];omega) (by omega),fa (by omega),fa (by omega),Option.bind_some,pF (by omega),(N1 h).2]
   rfl
theorem OC {b:Int}:eD (!(decide (b<0))) (b.natAbs:Int) = -b:=by
 unfold eD
 by_cases h:b<0
 ·simp only [h,decide_true,Bool.not_true,Bool.false_eq_true,if_false]
  omega
 ·simp only [h,decide_false,Bool.not_false,if_true]
  omega
theorem Vc {a b:Int}(bA:(a.natAbs:Int)<B 50)(aM:(b.natAbs:Int)<B 50):ty (gr a) (gr b)=some (gr (a-b)):=by
 have bR:ty (gr a) (gr b)=(((ku (!(decide (b<0))) (L b.natAbs)).bind fun r=>some r).bind fun ad=>(sx (gr a) ad).bind fun bg=>some bg):=rfl
 rw [bR,pF (by omega),OC,Option.bind_some,Option.bind_some,Ns bA (by omega),Option.bind_some,Int.sub_eq_add_neg]
theorem Fr.neg {q:Int×Int}(h:Fr q):Fr (-q.1,q.2):=⟨h.pos,by simp only;rw [Int.neg_gcd];exact h.Qc,by simp only;have:=h.num;omega,h.den⟩
theorem Nt {p q:Int×Int}(ak:Fr p)(a8:Fr q):((p.1*q.2).natAbs:Int)<B 48∧(L (p.1.natAbs*q.2:Int)).length≤48∧0≤(p.1.natAbs*q.2:Int):=by
 have bI:=a8.pos
 have bQ:=HX (x:=p.1.natAbs) (y:=q.2) (by omega) (by omega) ak.num a8.den
 have D4:0≤(p.1.natAbs:Int)*q.2:=Int.mul_nonneg (by omega) (by omega)
 rw [Ij (by omega)]
 exact ⟨(hE D4).1 bQ,bQ,D4⟩
theorem OD:B 48+B 48≤B 50:=by
 have o:B 49≤B 50:=sL (by omega)
 have R:=n8 48
 rw [lQ] at o
 omega
def kU (n:Int):Int:=if n=0 then 0 else if n<0 then -1 else 1
theorem Vd {p:Int×Int}:rA (O3 p)=some (kU p.1):=by
 have bR:rA (O3 p)=((if ((len_ J (L p.1.natAbs)) == (0:Int))=true then some 0 else if (decide (p.1<0))=true then some (-1) else some 1:Option Int)).bind (fun r=>some r):=rfl
 rw [bR,fY]
 unfold kU
 by_cases h:p.1=0
 ·rw [if_pos (by rw [h];simp [oG]),if_pos h]
  rfl
 ·rw [if_neg (by simp only [beq_iff_eq];intro R;have:=(IZ (n:=p.1.natAbs) (by omega)).1 R;omega),if_neg h]
  by_cases ae:p.1<0
  ·rw [if_pos (by simpa using ae),if_pos ae]
   rfl
  ·rw [if_neg (by simpa using ae),if_neg ae]
   rfl
def rS (n:Int):Bool:=decide (-100≤n∧n≤100)
def w0 (Ec:Nat)(l:List Int):Bool:=decide (l.length=2*Ec) && l.all rS
theorem Uy (n:Int):yi n=some (rS n):=by
 unfold yi rS
 by_cases h : -100≤n<;>simp [h]
theorem L8 (s:cw)(Kw:s.cx.length≤6)(l:List Int)(aG:l.length≤maxLen):vZ s l=some (w0 s.cx.length l):=by
 have hm:=Hw
 have hw:U (2*((s.cx.length:Nat):Int))=2*((s.cx.length:Nat):Int):=cP (by omega) (by omega)
 unfold vZ AY A4 w0
 simp only [g8,hw,Option.bind_eq_bind]
 obtain ⟨r,o,R⟩:=MW (f:=fun w=>u6 l (l.length:Nat) w) l (fun n=> !rS n) (fun n x aa=>by
  have di:=ft aa
  unfold u6 Bz
  have c:(n:Int)<(l.length:Int):=by omega
  have dw:0≤(n:Int)∧(n:Int)<(l.length:Int):=by omega
  simp only [decide_eq_true c,if_true,if_pos dw,Int.toNat_natCast,aa,Option.bind_eq_bind,Option.bind_some,Uy]
  rw [nc (by omega)]
  cases rS x<;>rfl) (by simp [u6])
 have xg:EF l (l.length:Nat) 0=some r:=o
 rw [xg]
 have YM:(l.any fun n=> !rS n) = !l.all rS:=by
  rw [List.not_all_eq_any_not]
 rw [YM] at R
 by_cases e:l.length=2*s.cx.length
 ·have c:((l.length:Int) == 2*(s.cx.length:Int))=true:=by simp;omega
  rw [c]
  rcases R with ⟨k,rfl,aU,bA⟩|⟨rfl,bA⟩
  ·simp only [Bool.not_eq_true'] at bA
   simp [e,bA,aU]
  ·simp only [Bool.not_eq_false'] at bA
   simp [e,bA]
 ·have c:((l.length:Int) == 2*(s.cx.length:Int))=false:=by simp;omega
  rw [c]
  simp [e]
theorem pw {i:Int}{a:Nat}(h0:0≤i)(o:i≤100)(bA:a≤1):U (U (2*i)+(a:Int))=(((2*i+a).toNat:Nat):Int):=by
 rw [cP (x:=2*i) (by omega) (by omega),cP (by omega) (by omega)]
 omega
def J5 (P:List (List Int)):bZ→Prop
 | none=>True
 | some (k,c)=> ∃x,P[k]? = some x∧x.length=c∧c≤1048576
theorem J5.set {P:List (List Int)}{k:Nat}{x y:List Int}(aa:P[k]? = some x)(aS:y.length=x.length){h:bZ}(eO:J5 P h):J5 (P.set k y) h:=by
 cases h with
 | none=>trivial
 | some p =>
  obtain ⟨j,c⟩:=p
  obtain ⟨z,o,R,ae⟩:=eO
  by_cases aC:k=j
  ·subst aC
   rw [aa] at o
   obtain rfl:=Option.some.inj o
   exact ⟨y,by rw [List.getElem?_set,if_pos rfl,if_pos (ft aa)],by omega,ae⟩
  ·exact ⟨z,by rw [List.getElem?_set,if_neg aC];exact o,R,ae⟩
def j4:List bb→Nat→List Nat
 | [],_=>[]
 | x::l,n=>if x.np then j4 l (n+1) else n::j4 l (n+1)
theorem HN : ∀(l:List bb) (n i:Nat),i∈j4 l n→n≤i∧i<n+l.length
 | [],n,i,h=>by simp [j4] at h
 | x::l,n,i,h=>by
  rw [j4] at h
  simp only [List.length_cons]
  split at h
  ·have:=HN l (n+1) i h;omega
  ·rcases List.mem_cons.1 h with h|h
   ·omega
   ·have:=HN l (n+1) i h;omega
theorem Nu : ∀(l:List bb) (n:Nat),(j4 l n).length≤l.length
 | [],n=>by simp [j4]
 | x::l,n=>by
  rw [j4]
  have:=Nu l (n+1)
  split<;>simp only [List.length_cons]<;>omega
theorem Uz {l:List bb}{n:Nat}{x:bb}(h:l[n]? = some x)(m:Nat):j4 (l.drop n) m=if x.np then j4 (l.drop (n+1)) (m+1) else m::j4 (l.drop (n+1)) (m+1):=by
 rw [Nk h,j4]
theorem Ve {f:Int×List Int→Option ((Int×List Int)⊕List Int)}(fC:List bb)(Kw:fC.length≤1000)
 (h : ∀(n:Nat) acc x,fC[n]? = some x→f ((n:Int),acc)=if x.np=true then some (.inl (U ((n:Int)+1),acc)) else if (acc++[(n:Int)]).length*8≤140737488355328 then some (.inl (U ((n:Int)+1),acc++[(n:Int)])) else none)
 (he : ∀acc,f ((fC.length:Int),acc)=some (.inr acc)):iter f ((0:Int),[])=some ((j4 fC 0).map (fun n:Nat=>(n:Int))):=by
 obtain ⟨s,o,R⟩:=jb (fun (n:Nat) (acc:List Int)=>((n:Int),acc)) fC.length (fun n acc=>acc++(j4 (fC.drop n) n).map (fun n:Nat=>(n:Int))=(j4 fC 0).map (fun n:Nat=>(n:Int))∧acc.length≤n) (fun acc=>acc) (f:=f) (fun n a1 acc cW=>by
  obtain ⟨cW,aG⟩:=cW
  have aa:=List.getElem?_eq_getElem a1
  rw [Uz aa] at cW
  rw [h n acc _ aa,pb (by omega)]
  by_cases c:fC[n].np=true
  ·rw [if_pos c] at cW ⊢
   exact ⟨_,rfl,cW,by omega⟩
  ·rw [if_neg c] at cW ⊢
   rw [if_pos (by simp only [List.length_append,List.length_cons,List.length_nil];omega)]
   refine ⟨_,rfl,?_,by simp only [List.length_append,List.length_cons,List.length_nil];omega⟩
   rw [List.append_assoc]
   exact cW) (fun acc _=>he acc) [] ⟨by rw [List.drop_zero];rfl,by simp⟩
 obtain ⟨R,-⟩:=R
 rw [List.drop_length] at R
 simp only [j4,List.map_nil,List.append_nil] at R
 subst R
 exact o
theorem LM (s:cw)(Kw:s.cx.length≤1000):vo s=some ((j4 s.cx 0).map (fun n:Nat=>(n:Int))):=by
 unfold vo EJ
 rw [g8,Ve s.cx Kw (fun n acc x aa=>by
  have a1:=ft aa
  unfold xM
  exact dQ (by omega) (b2 (by omega) (aE (gt rfl aa) rfl))) (fun acc=>by
  unfold xM
  exact dR (by omega) rfl)]
 rfl
def hlen:bZ→Nat
 | none=>0
 | some (_,c)=>c
def gn (x:Rat):Int×Int:=(x.num,(x.den:Int))
def hP (x:Rat):Prop:=(x.num.natAbs:Int)<B 24∧(x.den:Int)<B 24
def k6 (x:Rat):j5:=mk (gn x)
instance abO (x:Rat):Decidable (hP x):=by unfold hP;infer_instance
theorem hP.c5 {x:Rat}(h:hP x):Fr (gn x):=⟨by have:=x.den_pos;simp only [gn];omega,by simp only [gn];rw [Int.gcd,Int.natAbs_natCast];exact x.reduced,h.1,h.2⟩
theorem CP (x:Rat):((x.den:Int):Rat)*x=((x.num:Int):Rat):=by
 have h:x=(x.num:Rat) / ((x.den:Int):Rat):=by rw [← Rat.divInt_eq_div,Rat.num_divInt_den]
 have ba:((x.den:Int):Rat)≠0:=fun c=>by
  have:(x.den:Int)=0:=Rat.intCast_inj.1 (by rw [c];rfl)
  have:=x.den_pos
  omega
 conv=>lhs;rhs;rw [h]
 grind
theorem hP.neg {x:Rat}(h:hP x):hP (-x):=by
 unfold hP at h ⊢
 rw [Rat.neg_num,Rat.neg_den,Int.natAbs_neg];exact h
def k0 (x:Rat):Int:=if x=0 then 0 else if x<0 then -1 else 1
theorem N2 {n:Int}(h:qz n):hP (n:Rat):=by
 have:=Xo h
 unfold hP
 rw [Rat.num_intCast,Rat.den_intCast];exact ⟨this.num,this.den⟩
theorem V3 {n d:Int}{x:Rat}(h0:d≠0)(e:(d:Rat)*x=n)(a1:(n.natAbs:Int)<B 24)(ba:(d.natAbs:Int)<B 24):hP x:=by
 have r9:(d:Rat)≠0:=fun c=>h0 (Rat.intCast_inj.1 (by rw [c];rfl))
 have aa:x=Rat.divInt n d:=by rw [Rat.divInt_eq_div,← e];grind
 rw [aa]
 unfold hP
 rw [Rat.num_divInt,Rat.den_divInt,if_neg h0]
 constructor
 ·have o:(d.sign*n / (d.gcd n:Int)).natAbs≤(d.sign*n).natAbs:=Int.natAbs_ediv_le_natAbs _ _
  have R:(d.sign*n).natAbs≤n.natAbs:=by
   rw [Int.natAbs_mul]
   have:d.sign.natAbs≤1:=by rw [Int.natAbs_sign];split<;>omega
   exact Nat.le_trans (Nat.mul_le_mul_right _ this) (by omega)
  omega
 ·have:d.natAbs / d.gcd n≤d.natAbs:=Nat.div_le_self _ _
  omega
theorem yM {x:Rat}:k0 x=0↔x=0:=by
 unfold k0
 split
 ·simp_all
 ·split<;>simp_all
theorem sJ {x:Rat}:0<k0 x↔0<x:=by
 unfold k0
 split
 ·rename_i h;rw [h];simp
 ·split
  ·rename_i o R;constructor
   ·intro h;omega
   ·intro h;grind
  ·rename_i o R;constructor
   ·intro h;grind
   ·intro h;omega
def d1 (m:Nat)(t:ck):List Int:=bk m fun i=>((t.B i:Nat):Int)
theorem Nv {x y z w:Rat}(aS:0<y)(hw:0<w):(x / y≤z / w↔x*w≤z*y)∧(x / y=z / w↔x*w=z*y):=by
 have ax:x*w=(x / y)*(y*w):=by grind
 have aF:z*y=(z / w)*(y*w):=by grind
 have ak:0<y*w:=Rat.mul_pos aS hw
 constructor
 ·rw [ax,aF]
  constructor
  ·intro h;exact Rat.mul_le_mul_of_nonneg_right h (Rat.le_of_lt ak)
  ·intro h
   apply Classical.byContradiction
   intro c
   have:z / w<x / y:=by grind
   have:=Rat.mul_lt_mul_of_pos_right this ak
   grind
 ·rw [ax,aF]
  constructor
  ·intro h;rw [h]
  ·intro h
   have cF:y*w≠0:=by grind
   grind
def N3 (m N:Nat)(t:ck)(j:Nat)(r:Int):Prop :=
 (r = -1∧ ∀i,i<m→ ¬0<t.T i j)∨ ∃b:Nat,r=b∧b<m∧0<t.T b j∧(∀i,i<m→0<t.T i j→t.T b N*t.T i j≤t.T i N*t.T b j)∧(∀i,i<m→0<t.T i j→t.T b N*t.T i j=t.T i N*t.T b j→t.B b≤t.B i)
structure oz (p:nn) (m n:Nat) (a:Nat→Nat→Int) (b:Nat→Int):Prop where
 rows:p.j2=m
 gX:p.jh=n
 mI:p.f8.length=m*n
 Dq : ∀i,i<m→ ∀j,j<n→p.f8[i*n+j]? = some (a i j)
 Kx:p.f9.length=m
 I0 : ∀i,i<m→p.f9[i]? = some (b i)
 hm:m≤20
 a1:n≤40
 xG : ∀i,i<m→ ∀j,j<n→ -100≤a i j∧a i j≤100
 AS : ∀i,i<m→ -100≤b i∧b i≤100
theorem zo {p:nn}{m n:Nat}{a:Nat→Nat→Int}{b:Nat→Int}(h:oz p m n a b){i:Nat}(af:i<m)(j:Nat): -100≤nd m n a b i j∧nd m n a b i j≤100:=by
 have aM:=h.AS i af
 unfold nd kV
 by_cases c:j<n
 ·have bA:=h.xG i af j c
  rw [if_pos c];split<;>omega
 ·rw [if_neg c]
  split
  ·split<;>omega
  ·split<;>omega
theorem X6 {p:nn}{m n:Nat}{a:Nat→Nat→Int}{b:Nat→Int}(h:oz p m n a b){i:Nat}(af:i<m)(j:Nat):eg 100 (dS m n a b i j) :=
 ⟨nd m n a b i j,rfl,by have:=zo h af j;omega⟩
theorem Ix {K:Nat}{d x y:Rat}(ba:eg K d)(aS:eg K y)(h0:d≠0)(e:d*x=y)(ho:(K:Int)<B 24):hP x:=by
 obtain ⟨z,rfl,cd⟩:=ba
 obtain ⟨w,rfl,hw⟩:=aS
 exact V3 (n:=w) (d:=z) (fun c=>h0 (by rw [c];rfl)) e (by omega) (by omega)
@[irreducible] def eF:Nat:=p7 100 20
theorem Iy:p7 100 20=eF:=by unfold eF;rfl
theorem Xq:((21*100*(eF*eF):Nat):Int)<B 24:=by decide +kernel
theorem pP:0<eF:=by decide +kernel
structure oN (m N:Nat) (A:Nat→Nat→Rat) (t:ck):Prop where
 ok:fH m m N A t
 k2:t.kh m N
 uY:t.D m A≠0
structure Small (m N:Nat) (A:Nat→Nat→Rat):Prop where
 hm:m≤20
 AU : ∀c,c<m→ ∀j,j≤N→eg 100 (A c j)
theorem oN.Z8 {m N:Nat}{A:Nat→Nat→Rat}(s:Small m N A){t:ck}(h:oN m N A t):eg eF (t.D m A):=by
 refine eg.mono (CY fun i af c aP=>s.AU c aP _ (Nat.le_of_lt (h.ok.jC i af))) (Iy▸Cw (by omega) s.hm)
theorem oN.Z9 {m N:Nat}{A:Nat→Nat→Rat}(s:Small m N A){t:ck}(h:oN m N A t){i j:Nat}(af:i<m)(aC:j≤N):eg eF (t.T i j*t.D m A):=by
 rw [← h.ok.xE af aC]
 refine eg.mono (CY fun k aU c aP=> ?_) (Iy▸Cw (by omega) s.hm)
 simp only [fK]
 split
 ·exact s.AU c aP j aC
 ·exact s.AU c aP _ (Nat.le_of_lt (h.ok.jC k aU))
theorem zp {k:Nat}(h:k≤21*100*(eF*eF)):((k:Nat):Int)<B 24:=by have:=Xq;omega
theorem Pr:eF≤21*100*(eF*eF):=by
 have o:eF*1≤eF*eF:=Nat.mul_le_mul_left _ pP
 omega
theorem Dr:21*100*eF≤21*100*(eF*eF):=by
 have o:eF*1≤eF*eF:=Nat.mul_le_mul_left _ pP
 omega
theorem oN.gk {m N K:Nat}{A obj:Nat→Nat→Rat}{bL:Nat→Prop}{t:ck}(h:oN m N A t){r k:Nat}(b:oI m N K obj bL t r k):oN m N A (t.cJ r k) :=
 ⟨b.ok h.ok,b.zK h.k2,by
  rw [h.ok.zl b.an b.bR]
  have o:=b.pos
  have R:=h.uY
  intro c
  have:t.T r k≠0:=by grind
  grind⟩
theorem YN {g:Nat→Rat}:gO 1 g↔0<g 0:=by
 constructor
 ·rintro ⟨l,o,R,-⟩;rw [show l=0 by omega] at R;exact R
 ·intro h;exact ⟨0,by omega,h,fun fM aG=>by omega⟩
theorem M2 {p:nn}{m n:Nat}{a:Nat→Nat→Int}{b:Nat→Int}(h:oz p m n a b):Small m (n+m) (dS m n a b):=⟨h.hm,fun c aP j _=>X6 h aP j⟩
def bK (x:Rat):a5:=gr x.num
@[irreducible] def jt:Nat:=1000000000 ^ 40
theorem Ps:((jt:Nat):Int)+((jt:Nat):Int)<B 50:=by decide +kernel
theorem Ik {K:Nat}{x:Rat}(h:eg K x):((x.num:Int):Rat)=x∧x.num.natAbs≤K:=by
 obtain ⟨z,rfl,cd⟩:=h
 rw [Rat.num_intCast];exact ⟨rfl,cd⟩
theorem n6 (z:Int):bK (z:Rat)=gr z:=by unfold bK;rw [Rat.num_intCast]
theorem wS {x:Rat}(h:eg jt x):(L x.num.natAbs).length≤50:=by
 have:=Ps
 have o:=(Ik h).2
 exact (hE (by omega)).2 (by omega)
theorem wC {x y:Rat}(aa:eg jt x)(aS:eg jt y):nO (bK x) (bK y)=some (bK (x*y)):=by
 have o:=wS aa
 have R:=wS aS
 obtain ⟨a,rfl,-⟩:=aa;obtain ⟨b,rfl,-⟩:=aS
 rw [Rat.num_intCast] at o R
 rw [n6,n6,← Rat.intCast_mul,n6]
 exact M0 (by omega) (by omega)
theorem Nw {x y:Rat}(aa:eg jt x)(aS:eg jt y):ty (bK x) (bK y)=some (bK (x-y)):=by
 have gw:=Ps
 obtain ⟨a,rfl,bA⟩:=aa;obtain ⟨b,rfl,aM⟩:=aS
 rw [n6,n6,← Rat.intCast_sub,n6]
 exact Vc (by omega) (by omega)
theorem sK {x:Rat}(aa:eg jt x):nP (bK x)=some (k0 x):=by
 obtain ⟨a,rfl,bA⟩:=aa
 rw [n6]
 unfold nP k0
 simp only [fY]
 have e:(((L a.natAbs).length:Nat):Int)=0↔a=0:=by rw [IZ (by omega)];omega
 show (if (((L a.natAbs).length:Int) == 0)=true then some 0 else if decide (a<0)=true then some (-1) else some 1)=_
 by_cases h0:a=0
 ·rw [if_pos (by rw [beq_iff_eq,e];exact h0),if_pos (by rw [h0];rfl)]
 ·have aaa:(a:Rat)≠0:=fun c=>h0 (Rat.intCast_inj.1 (by rw [c];rfl))
  rw [if_neg (by rw [beq_iff_eq,e];exact h0),if_neg aaa]
  have aF:(a:Rat)<0↔a<0:=by
   rw [show (0:Rat)=((0:Int):Rat) from rfl,Rat.intCast_lt_intCast]
  by_cases o:a<0
  ·rw [if_pos (decide_eq_true o),if_pos (aF.2 o)]
  ·rw [if_neg (by simpa using o),if_neg (fun c=>o (aF.1 c))]
theorem UA {x y:Rat}(aa:eg jt x)(aS:eg jt y):qW (bK x) (bK y)=some (if x<y then -1 else if y<x then 1 else 0):=by
 have o:=wS aa
 have R:=wS aS
 obtain ⟨a,rfl,-⟩:=aa;obtain ⟨b,rfl,-⟩:=aS
 rw [Rat.num_intCast] at o R
 rw [n6,n6,Li (by omega) (by omega)]
 unfold ly
 simp only [Rat.intCast_lt_intCast]
theorem L9 {x:Rat}(aa:eg jt x):o1 (bK x)=some (bK (-x)):=by
 obtain ⟨a,rfl,-⟩:=aa
 rw [n6,← Rat.intCast_neg,n6]
 unfold o1
 show (ku (!(decide (a<0))) (L a.natAbs)).bind _=_
 rw [pF (by omega),OC];rfl
theorem rJ {n:Int}(h:qz n):nj n=some (bK (n:Rat)):=by rw [n6];exact MC h
theorem UB {x y:Rat}(aa:eg jt x)(aS:eg jt y)(Jw:eg jt (x*y))(h0:y≠0):sv (bK (x*y)) (bK y)=some (bK x):=by
 have o:=wS Jw
 have R:=wS aS
 obtain ⟨a,rfl,-⟩:=aa;obtain ⟨b,rfl,-⟩:=aS
 rw [← Rat.intCast_mul] at o ⊢
 rw [Rat.num_intCast] at o R
 have aM:b≠0:=fun c=>h0 (by rw [c];rfl)
 rw [n6,n6,n6]
 unfold sv
 show (rK (L (a*b).natAbs) (L b.natAbs)).bind _=_
 rw [CO (iX _) (iX _) (fun c=>by have:=sT.1 c;omega) (by omega) (by omega),fa (by omega),fa (by omega)]
 have ax:((a*b).natAbs:Int) / (b.natAbs:Int)=(a.natAbs:Int):=by
  rw [Int.natAbs_mul,Int.natCast_mul];exact Int.mul_ediv_cancel _ (by omega)
 simp only [Option.bind_some]
 rw [ax]
 show (ku (!(decide (a*b<0) == decide (b<0))) (L a.natAbs)).bind _=_
 rw [pF (by omega)]
 simp only [Option.bind_some]
 congr 2
 rcases Int.lt_or_gt_of_ne aM with c|c
 ·by_cases bA:a<0
  ·have : ¬a*b<0:=by have:=Int.mul_pos_of_neg_of_neg bA c;omega
   rw [decide_eq_false this,decide_eq_true c];simp only [eD,show (!(false == true))=true from rfl,if_true];omega
  ·by_cases cd:a=0
   ·subst cd;simp [eD]
   ·have:a*b<0:=Int.mul_neg_of_pos_of_neg (by omega) c
    rw [decide_eq_true this,decide_eq_true c];simp only [eD,BEq.rfl,Bool.not_true,Bool.false_eq_true,if_false];omega
 ·by_cases bA:a<0
  ·have:a*b<0:=Int.mul_neg_of_neg_of_pos bA c
   rw [decide_eq_true this,decide_eq_false (by omega)];simp only [eD,show (!(true == false))=true from rfl,if_true];omega
  ·have : ¬a*b<0:=by have:=Int.mul_nonneg (show 0≤a by omega) (show 0≤b by omega);omega
   rw [decide_eq_false this,decide_eq_false (by omega)];simp only [eD,BEq.rfl,Bool.not_true,Bool.false_eq_true,if_false];omega
def gj (N:Nat)(w:Rat)(t:ck)(i:Nat):List a5:=bk (N+1) fun j=>bK (t.T i j*w)
structure nz (m N:Nat) (w:Rat) (t:ck):Prop where
 pos:0<w
 hw:eg (21*100*eF) w
 iC : ∀i,i<m→ ∀j,j≤N→eg eF (t.T i j*w)
 gw : ∀i,i<m→t.B i<N
theorem zq:21*100*eF*(21*100*eF)+21*100*eF*(21*100*eF)≤jt:=by decide +kernel
theorem YO {q i:Nat}(a8:0<q)(af:i≤20):21*100*q*100+i*(q*100)≤21*100*q*(21*100*q):=by
 have o:i*(q*100)≤20*(q*100):=Nat.mul_le_mul_right _ af
 have R:21*100*q*2100≤21*100*q*(21*100*q):=Nat.mul_le_mul_left _ (by omega)
 generalize 21*100*q*(21*100*q)=z at *
 omega
theorem YP {i:Nat}(af:i≤20):21*100*eF*100+i*(eF*100)≤jt :=
 Nat.le_trans (YO pP af) (Nat.le_trans (Nat.le_add_right _ _) zq)
theorem r7 {K:Nat}(h:K≤21*100*eF):K≤jt:=by
 have aab:=zq
 have o:21*100*eF*1≤21*100*eF*(21*100*eF):=Nat.mul_le_mul_left _ (by have:=pP;generalize eF=q at *;omega)
 rw [Nat.mul_one] at o
 exact Nat.le_trans h (Nat.le_trans o (Nat.le_trans (Nat.le_add_right _ _) aab))
theorem N4 {m N:Nat}(hm:m≤20)(fO:N<1000){w:Rat}{t:ck}(h:nz m N w t)(I:Nat→Int)(aj:∀j,j<N→ -100≤I j∧I j≤100)(h5:a5)(xa:h5=bK w)(gX:Int)(free:List Bool){k:Nat}(aU:k<N):
 vR ⟨bk m (gj N w t),h5,d1 m t,gX,free⟩ (bk N I) (k:Int)=some (k0 (t.c9 m (fun j=>(I j:Rat)) k)):=by
 subst xa
 have acZ:=pP
 have small : ∀ {x:Rat} {K:Nat},eg K x→K≤21*100*eF→eg jt x:=fun o R=>o.mono (r7 R)
 have ah : ∀j,j<N→eg 100 ((I j:Int):Rat):=fun j aC=>⟨I j,rfl,by have:=aj j aC;omega⟩
 have Qf : ∀j,j<N→qz (I j):=fun j aC=>by have:=aj j aC;rw [nT];omega
 let S:Nat→Rat:=fun i=>w*(I k:Rat)-cn i (fun i=>(t.T i k*w)*(I (t.B i):Rat))
 have ng : ∀i,i≤m→eg jt (S i):=fun i af=>by
  have ax:eg (21*100*eF*100) (w*(I k:Rat)):=h.hw.mul (ah k aU)
  have aF:eg (i*(eF*100)) (cn i (fun i=>(t.T i k*w)*(I (t.B i):Rat))):=eg.sum fun eI i1=>(h.iC eI (by omega) k (by omega)).mul (ah _ (h.gw eI (by omega)))
  exact (ax.sub aF).mono (YP (by omega))
 unfold vR
 refine b2 (by rw [dG];omega) (aE (x:=I k) (by rw [Int.toNat_natCast];exact iL aU) (aE (rJ (Qf k aU)) (aE (wC (small h.hw (Nat.le_refl _)) (small (ah k aU) (by omega))) ?_)))
 obtain ⟨s,e,-⟩:=jb (f:=fun q:Int×Bool×List Int=>vp (bk m (gj N w t)) (bK w).cU (bK w).cy (d1 m t) gX free (bk N I) (k:Int) ((m:Nat):Int) q.1 q.2.1 q.2.2)
  (fun (i:Nat) (_:Unit)=>((i:Int),(bK (S i)).cU,(bK (S i)).cy)) m (fun _ _=>True) (fun _=>((bK (S m)).cU,(bK (S m)).cy))
  (fun i af _ _=>by
    refine ⟨(),?_,trivial⟩
    have DT:=h.gw i af
    have Ax:S (i+1)=S i-(t.T i k*w)*(I (t.B i):Rat):=by simp only [S,cn];grind
    unfold vp
    refine dQ (by simp only;omega) (b2 (by unfold d1;rw [dG];simp only;omega) (aE (x:=((t.B i:Nat):Int)) (by simp only;rw [Int.toNat_natCast];exact iL af) (b2 (by rw [dG];omega) (aE (x:=I (t.B i)) (by rw [Int.toNat_natCast];exact iL DT) (AJ (fun c=> ?_) (fun c=> ?_))))))
    ·refine b2 (by rw [dG];simp only;omega) (aE (x:=gj N w t i) (by simp only;rw [Int.toNat_natCast];exact iL af) (b2 (by unfold gj;rw [dG];omega) (aE (x:=bK (t.T i k*w)) (by rw [Int.toNat_natCast];exact iL (by omega)) (aE (sK (small (h.iC i af k (by omega)) (by omega))) (AJ (fun cN=> ?_) (fun cN=> ?_))))))
     ·refine aE (rJ (Qf _ DT)) (aE (wC (small (h.iC i af k (by omega)) (by omega)) (small (ah _ DT) (by omega))) (aE (Nw (ng i (by omega)) (by
       exact small ((h.iC i af k (by omega)).mul (ah _ DT)) (by omega))) ?_))
      simp only;rw [fZ (by omega),Ax]
     ·have cd:t.T i k*w=0:=yM.1 (by simpa using cN)
      simp only;rw [fZ (by omega),Ax,cd,show S i-0*(I (t.B i):Rat)=S i by grind]
    ·have cd:I (t.B i)=0:=by simpa using c
     simp only;rw [fZ (by omega),Ax,cd,show S i-t.T i k*w*((0:Int):Rat)=S i by rw [show ((0:Int):Rat)=0 from rfl];grind])
  (fun _ _=>by unfold vp;exact dR (by simp) rfl) () trivial
 have e0:S 0=w*(I k:Rat):=by simp only [S,cn];grind
 rw [e0] at e
 refine aE (x:=((bK (S m)).cU,(bK (S m)).cy)) (by unfold Fy;rw [fY,show (d1 m t).length=m from dG ..];exact e) (aE (x:=k0 (S m)) (sK (ng m (Nat.le_refl _))) ?_)
 congr 1
 have aF:S m=w*t.c9 m (fun j=>(I j:Rat)) k:=by
  simp only [S]
  unfold ck.c9
  rw [fv (f:=fun i=>t.T i k*w*(I (t.B i):Rat)) (g:=fun i=>w*((I (t.B i):Rat)*t.T i k)) (fun i _=>by grind),hY];grind
 rw [aF]
 have ak:=h.pos
 unfold k0
 by_cases c:t.c9 m (fun j=>(I j:Rat)) k=0
 ·rw [if_pos c,if_pos (by rw [c];grind)]
 ·rw [if_neg c,if_neg (by grind)]
  by_cases cN:t.c9 m (fun j=>(I j:Rat)) k<0
  ·rw [if_pos cN,if_pos]
   have:=Rat.mul_pos ak (show 0 < -(t.c9 m (fun j=>(I j:Rat)) k) by grind)
   grind
  ·rw [if_neg cN,if_neg]
   have:=Rat.mul_pos ak (show 0<t.c9 m (fun j=>(I j:Rat)) k by grind)
   grind
theorem Nx {x y z v w:Rat}(hw:0<w)(aS:0<y)(aY:0<v):(x*w)*(v*w)<(z*w)*(y*w)↔x / y<z / v:=by
 have ax:(x*w)*(v*w)=(x / y)*((y*v)*(w*w)):=by grind
 have aF:(z*w)*(y*w)=(z / v)*((y*v)*(w*w)):=by grind
 have ak:0<(y*v)*(w*w):=Rat.mul_pos (Rat.mul_pos aS aY) (Rat.mul_pos hw hw)
 rw [ax,aF]
 constructor
 ·intro h
  apply Classical.byContradiction
  intro c
  have:z / v≤x / y:=by grind
  have:=Rat.mul_le_mul_of_nonneg_right this (Rat.le_of_lt ak)
  grind
 ·intro h;exact Rat.mul_lt_mul_of_pos_right h ak
theorem wK {x w:Rat}(hw:0<w):k0 (x*w)=k0 x:=by
 unfold k0
 by_cases c:x=0
 ·rw [if_pos c,if_pos (by rw [c];grind)]
 ·rw [if_neg c,if_neg (by grind)]
  by_cases cN:x<0
  ·rw [if_pos cN,if_pos]
   have:=Rat.mul_pos (show 0 < -x by grind) hw
   grind
  ·rw [if_neg cN,if_neg]
   have:=Rat.mul_pos (show 0<x by grind) hw
   grind
theorem UC {m N:Nat}(hm:m≤20)(fO:N<1000){w:Rat}{t:ck}(h:nz m N w t)(h5:a5)(free:List Bool){k:Nat}(aU:k≤N):
 ∃r,xV ⟨bk m (gj N w t),h5,d1 m t,(N:Int),free⟩ (k:Int)=some r∧N3 m N t k r:=by
 have hw:=h.pos
 have nh : ∀i,i<m→ ∀j,j≤N→eg jt (t.T i j*w):=fun i af j aC=>(h.iC i af j aC).mono (r7 (by have:=pP;generalize eF=q at *;omega))
 have AV : ∀i,i<m→ ∀j,j≤N→ ∀eI,eI<m→ ∀g7,g7≤N→eg jt (t.T i j*w*(t.T eI g7*w)):=fun i af j aC eI i1 g7 rh=>((h.iC i af j aC).mul (h.iC eI i1 g7 rh)).mono (by
  refine Nat.le_trans ?_ (Nat.le_trans (Nat.le_add_right _ _) zq)
  exact Nat.mul_le_mul (by generalize eF=q;omega) (by generalize eF=q;omega))
 unfold xV
 obtain ⟨r,e,an⟩:=pG (f:=fun q:Int×Int=>ve (bk m (gj N w t)) h5.cU h5.cy (d1 m t) (N:Int) free (k:Int) ((m:Nat):Int) q.1 q.2)
  (fun (i:Nat) (s:Int)=>(s,(i:Int))) m
  (fun n s=>(s = -1∧ ∀i,i<n→ ¬0<t.T i k)∨ ∃b:Nat,s=b∧b<n∧0<t.T b k∧ ∀i,i<n→0<t.T i k→t.T b N / t.T b k<t.T i N / t.T i k∨(t.T b N / t.T b k=t.T i N / t.T i k∧t.B b≤t.B i))
  (fun r=>N3 m N t k r)
  (fun n a1 s cW=>by
    left
    unfold ve
    have g1:0≤((n:Nat):Int)∧((n:Nat):Int)<((bk m (gj N w t)).length:Nat):=by rw [dG];omega
    have g2:(bk m (gj N w t))[((n:Nat):Int).toNat]? = some (gj N w t n):=by rw [Int.toNat_natCast];exact iL a1
    have g3 : ∀b,0≤((k:Nat):Int)∧((k:Nat):Int)<((gj N w t b).length:Nat):=fun b=>by unfold gj;rw [dG];omega
    have g4 : ∀b,(gj N w t b)[((k:Nat):Int).toNat]? = some (bK (t.T b k*w)):=fun b=>by rw [Int.toNat_natCast];exact iL (by omega)
    have g5 : ∀b,0≤((N:Nat):Int)∧((N:Nat):Int)<((gj N w t b).length:Nat):=fun b=>by unfold gj;rw [dG];omega
    have g6 : ∀b,(gj N w t b)[((N:Nat):Int).toNat]? = some (bK (t.T b N*w)):=fun b=>by rw [Int.toNat_natCast];exact iL (by omega)
    have iS:U ((n:Int)+1)=((n+1:Nat):Int):=fZ (by omega)
    have qH:nP (bK (t.T n k*w))=some (k0 (t.T n k)):=by rw [sK (nh n a1 k aU),wK hw]
    by_cases ak:0<t.T n k
    ·have bR : ¬k0 (t.T n k)≤0:=by have:=sJ.2 ak;omega
     rcases cW with ⟨o,R⟩|⟨b,o,aM,lq,ae⟩
     ·refine ⟨(n:Int),dQ (by simp only;omega) (b2 g1 (aE g2 (b2 (g3 n) (aE (g4 n) (aE qH (dR bR (dQ (by simp only;omega) ?_))))))),.inr ⟨n,rfl,by omega,ak,fun i af mC=> ?_⟩⟩
      ·simp only;rw [iS]
      ·by_cases c:i=n
       ·subst c;exact .inr ⟨rfl,Nat.le_refl _⟩
       ·exact (R i (by omega) mC).elim
     ·subst o
      have aac:0≤((b:Nat):Int)∧((b:Nat):Int)<((bk m (gj N w t)).length:Nat):=by rw [dG];omega
      have aad:(bk m (gj N w t))[((b:Nat):Int).toNat]? = some (gj N w t b):=by rw [Int.toNat_natCast];exact iL (by omega)
      have gc:qW (bK (t.T n N*w*(t.T b k*w))) (bK (t.T b N*w*(t.T n k*w)))=some (if t.T n N / t.T n k<t.T b N / t.T b k then -1 else if t.T b N / t.T b k<t.T n N / t.T n k then 1 else 0):=by
       rw [UA (AV n a1 N (by omega) b (by omega) k aU) (AV b (by omega) N (by omega) n a1 k aU)]
       have ad:=Nx (x:=t.T n N) (y:=t.T n k) (z:=t.T b N) (v:=t.T b k) hw ak lq
       have b3:=Nx (x:=t.T b N) (y:=t.T b k) (z:=t.T n N) (v:=t.T n k) hw lq ak
       by_cases bF:t.T n N / t.T n k<t.T b N / t.T b k
       ·rw [if_pos bF,if_pos (ad.2 bF)]
       ·rw [if_neg bF,if_neg (fun c=>bF (ad.1 c))]
        by_cases cN:t.T b N / t.T b k<t.T n N / t.T n k
        ·rw [if_pos cN,if_pos (b3.2 cN)]
        ·rw [if_neg cN,if_neg (fun c=>cN (b3.1 c))]
      have lead : ∀ {x r:Option ((Int×Int)⊕Int)} {f:Int→Option ((Int×Int)⊕Int)} {q:Int},qW (bK (t.T n N*w*(t.T b k*w))) (bK (t.T b N*w*(t.T n k*w)))=some q→f q=r →
       (if 0≤((N:Nat):Int)∧((N:Nat):Int)<((gj N w t n).length:Nat) then
         (gj N w t n)[((N:Nat):Int).toNat]? >>= fun ow =>
         if 0≤((b:Nat):Int)∧((b:Nat):Int)<((bk m (gj N w t)).length:Nat) then
         (bk m (gj N w t))[((b:Nat):Int).toNat]? >>= fun lC =>
         if 0≤((k:Nat):Int)∧((k:Nat):Int)<(lC.length:Nat) then
         lC[((k:Nat):Int).toNat]? >>= fun qK =>
         nO ow qK >>= fun i6 =>
         if 0≤((N:Nat):Int)∧((N:Nat):Int)<(lC.length:Nat) then
         lC[((N:Nat):Int).toNat]? >>= fun sg =>
         nO sg (bK (t.T n k*w)) >>= fun m6 =>
         qW i6 m6 >>= f
         else none else none else none else none)=r:=fun a8 b7 =>
       b2 (g5 n) (aE (g6 n) (b2 aac (aE aad (b2 (g3 b) (aE (g4 b) (aE (wC (nh n a1 N (by omega)) (nh b (by omega) k aU)) (b2 (g5 b) (aE (g6 b) (aE (wC (nh b (by omega) N (by omega)) (nh n a1 k aU)) (aE a8 b7))))))))))
      by_cases bF:t.T n N / t.T n k<t.T b N / t.T b k
      ·rw [if_pos bF] at gc
       refine ⟨(n:Int),dQ (by simp only;omega) (b2 g1 (aE g2 (b2 (g3 n) (aE (g4 n) (aE qH (dR bR (dR (by simp only;omega) (lead (x:=none) gc (dQ (by omega) ?_))))))))),.inr ⟨n,rfl,by omega,ak,fun i af mC=> ?_⟩⟩
       ·simp only;rw [iS]
       ·by_cases c:i=n
        ·subst c;exact .inr ⟨rfl,Nat.le_refl _⟩
        ·rcases ae i (by omega) mC with h|⟨h,-⟩
         ·left;grind
         ·left;rw [← h];exact bF
      ·rw [if_neg bF] at gc
       by_cases cN:t.T b N / t.T b k<t.T n N / t.T n k
       ·rw [if_pos cN] at gc
        refine ⟨(b:Int),dQ (by simp only;omega) (b2 g1 (aE g2 (b2 (g3 n) (aE (g4 n) (aE qH (dR bR (dR (by simp only;omega) (lead (x:=none) gc (dR (by omega) (fB (by decide) ?_)))))))))),.inr ⟨b,rfl,by omega,lq,fun i af mC=> ?_⟩⟩
        ·simp only;rw [iS]
        ·by_cases c:i=n
         ·subst c;exact .inl cN
         ·exact ae i (by omega) mC
       ·rw [if_neg cN] at gc
        have aae:t.T b N / t.T b k=t.T n N / t.T n k:=by grind
        have Qg:0≤((n:Nat):Int)∧((n:Nat):Int)<((d1 m t).length:Nat):=by unfold d1;rw [dG];omega
        have Qh:(d1 m t)[((n:Nat):Int).toNat]? = some ((t.B n:Nat):Int):=by rw [Int.toNat_natCast];exact iL a1
        have Qi:0≤((b:Nat):Int)∧((b:Nat):Int)<((d1 m t).length:Nat):=by unfold d1;rw [dG];omega
        have Qj:(d1 m t)[((b:Nat):Int).toNat]? = some ((t.B b:Nat):Int):=by rw [Int.toNat_natCast];exact iL (by omega)
        by_cases na:t.B n<t.B b
        ·refine ⟨(n:Int),dQ (by simp only;omega) (b2 g1 (aE g2 (b2 (g3 n) (aE (g4 n) (aE qH (dR bR (dR (by simp only;omega) (lead (x:=none) gc (dR (by omega) (ep rfl (b2 Qg (aE Qh (b2 Qi (aE Qj (dQ (by omega) ?_))))))))))))))),.inr ⟨n,rfl,by omega,ak,fun i af mC=> ?_⟩⟩
         ·simp only;rw [iS]
         ·by_cases c:i=n
          ·subst c;exact .inr ⟨rfl,Nat.le_refl _⟩
          ·rcases ae i (by omega) mC with h|⟨h,cj⟩
           ·left;grind
           ·right;exact ⟨by grind,by omega⟩
        ·refine ⟨(b:Int),dQ (by simp only;omega) (b2 g1 (aE g2 (b2 (g3 n) (aE (g4 n) (aE qH (dR bR (dR (by simp only;omega) (lead (x:=none) gc (dR (by omega) (ep rfl (b2 Qg (aE Qh (b2 Qi (aE Qj (dR (by omega) ?_))))))))))))))),.inr ⟨b,rfl,by omega,lq,fun i af mC=> ?_⟩⟩
         ·simp only;rw [iS]
         ·by_cases c:i=n
          ·subst c;exact .inr ⟨aae,by omega⟩
          ·exact ae i (by omega) mC
    ·have bR:k0 (t.T n k)≤0:=by
      have : ¬0<k0 (t.T n k):=fun c=>ak (sJ.1 c)
      omega
     refine ⟨s,dQ (by simp only;omega) (b2 g1 (aE g2 (b2 (g3 n) (aE (g4 n) (aE qH (dQ bR ?_)))))),?_⟩
     ·simp only;rw [iS]
     ·rcases cW with ⟨o,R⟩|⟨b,o,aM,lq,ae⟩
      ·exact .inl ⟨o,fun i af=>if c:i=n then c▸ak else R i (by omega)⟩
      ·exact .inr ⟨b,o,by omega,lq,fun i af mC=>if c:i=n then (ak (c▸mC)).elim else ae i (by omega) mC⟩)
  (fun s cW=>by
    refine ⟨s,by unfold ve;exact dR (by simp only;omega) rfl,?_⟩
    rcases cW with ⟨o,R⟩|⟨b,o,aM,lq,ae⟩
    ·exact .inl ⟨o,R⟩
    ·refine .inr ⟨b,o,aM,lq,fun i af mC=> ?_,fun i af mC he=> ?_⟩
     ·rw [← (Nv lq mC).1]
      rcases ae i af mC with h|⟨h,-⟩
      ·exact Rat.le_of_lt h
      ·rw [h];exact Rat.le_refl
     ·rw [← (Nv lq mC).2] at he
      rcases ae i af mC with h|⟨-,h⟩
      ·rw [he] at h;grind
      ·exact h) (-1:Int) (.inl ⟨rfl,fun i af=>by omega⟩)
 refine ⟨r,aE ?_ rfl,an⟩
 unfold E9
 rw [g8,dG]
 exact e
def fV (m N:Nat)(h:Nat→Nat):List bZ:=bk m fun i=>some (h i,N+1)
structure jN (m N M:Nat) (h:Nat→Nat) (w:Rat) (t:ck) (dC:List (List a5)):Prop where
 len:dC.length=M
 row : ∀i,i<m→dC[h i]? = some (gj N w t i)
theorem B5 {α:Type}{l:List α}{i:Nat}{x y:α}(h:l[i]? = some x):(l.set i y)[i]? = some y:=by
 rw [List.getElem?_set,if_pos rfl,if_pos (List.getElem?_eq_some_iff.1 h).1]
theorem Hp {α:Type}{l:List α}{i k:Nat}{y:α}(h:i≠k):(l.set i y)[k]? = l[k]? := by
 rw [List.getElem?_set,if_neg h]
theorem set_set {α:Type}(l:List α)(i:Nat)(x y:α):(l.set i x).set i y=l.set i y:=by
 rw [List.set_set]
structure r8 (m N:Nat) (w:Rat) (t:ck) (r k:Nat):Prop where
 an:r<m
 aU:k<N
 ak:t.T r k≠0
 xz : ∀i,i<m→ ∀j,j≤N→eg eF ((t.cJ r k).T i j*(t.T r k*w))
theorem V4 {m N:Nat}(fO:N<1000){h:Nat→Nat}{w:Rat}{t:ck}{r k:Nat}(f:nz m N w t)(g:r8 m N w t r k){i:Nat}(af:i<m)(aaf:i≠r)(cF:h i≠h r){dC:List (List a5)}(o:dC[h i]? = some (gj N w t i))(R:dC[h r]? = some (gj N w t r))
 (fm eN:Int) (a2:Int) (aW:List bZ) (bh:List Int) (cf:List Bool) (v1 v2:Int) :
 A9 v1 v2 (some (h r,N+1)) (some (h i,N+1)) fm eN (((N+1:Nat):Nat):Int) (bK w).cU (bK w).cy a2 aW bh cf (bK (t.T r k*w)).cU (bK (t.T r k*w)).cy (bK (t.T i k*w)).cU (bK (t.T i k*w)).cy 0 dC=some (dC.set (h i) (gj N (t.T r k*w) (t.cJ r k) i)):=by
 have hw:=f.pos
 have nh : ∀i,i<m→ ∀j,j≤N→eg jt (t.T i j*w):=fun i af j aC=>(f.iC i af j aC).mono (r7 (by have:=pP;generalize eF=q at *;omega))
 have aaY:eg jt w:=f.hw.mono (r7 (Nat.le_refl _))
 have aaZ : ∀i,i<m→ ∀j,j≤N→eg jt ((t.cJ r k).T i j*(t.T r k*w)):=fun i af j aC=>(g.xz i af j aC).mono (r7 (by have:=pP;generalize eF=q at *;omega))
 have AV : ∀i,i<m→ ∀j,j≤N→ ∀eI,eI<m→ ∀g7,g7≤N→eg jt (t.T i j*w*(t.T eI g7*w)):=fun i af j aC eI i1 g7 rh=>((f.iC i af j aC).mul (f.iC eI i1 g7 rh)).mono (by
  refine Nat.le_trans ?_ (Nat.le_trans (Nat.le_add_right _ _) zq)
  exact Nat.mul_le_mul (by generalize eF=q;omega) (by generalize eF=q;omega))
 have aag : ∀j,j≤N→eg jt ((t.cJ r k).T i j*(t.T r k*w)*w):=fun j aC=>((g.xz i af j aC).mul f.hw).mono (by
  refine Nat.le_trans ?_ (Nat.le_trans (Nat.le_add_right _ _) zq)
  exact Nat.mul_le_mul (by generalize eF=q;omega) (Nat.le_refl _))
 have an:=g.an
 have aU:=g.aU
 have ak:=g.ak
 have Ky : ∀j,(t.cJ r k).T i j=t.T i j-t.T i k*(t.T r j / t.T r k):=fun j=>by simp [ck.cJ,aaf]
 have Jb:w≠0:=by grind
 unfold A9
 obtain ⟨s,e,-⟩:=jb (f:=fun q:Int×List (List a5)=>vf v1 v2 (some (h r,N+1)) (some (h i,N+1)) fm eN (((N+1:Nat):Nat):Int) (bK w).cU (bK w).cy a2 aW bh cf (bK (t.T r k*w)).cU (bK (t.T r k*w)).cy (bK (t.T i k*w)).cU (bK (t.T i k*w)).cy q.1 q.2)
  (fun (c:Nat) (_:Unit)=>((c:Int),dC.set (h i) (bk (N+1) fun j=>if j<c then bK ((t.cJ r k).T i j*(t.T r k*w)) else bK (t.T i j*w)))) (N+1) (fun _ _=>True)
  (fun _=>dC.set (h i) (gj N (t.T r k*w) (t.cJ r k) i))
  (fun c aP _ _=>by
    refine ⟨(),?_,trivial⟩
    have fin:(some (Sum.inl (U ((c:Int)+1),(dC.set (h i) (bk (N+1) fun j=>if j<c then bK ((t.cJ r k).T i j*(t.T r k*w)) else bK (t.T i j*w))).set (h i) ((bk (N+1) fun j=>if j<c then bK ((t.cJ r k).T i j*(t.T r k*w)) else bK (t.T i j*w)).set (0+((c:Int)).toNat) (bK ((t.cJ r k).T i c*(t.T r k*w)))))):Option ((Int×List (List a5))⊕List (List a5))) =
     some (Sum.inl (((c+1:Nat):Int),dC.set (h i) (bk (N+1) fun j=>if j<c+1 then bK ((t.cJ r k).T i j*(t.T r k*w)) else bK (t.T i j*w)))):=by
     rw [fZ (by omega),Int.toNat_natCast,Nat.zero_add,set_set,lb]
     congr 4
     refine fD fun j _=> ?_
     by_cases bF:j=c
     ·subst bF;rw [if_pos rfl,if_pos (by omega)]
     ·rw [if_neg bF]
      by_cases cN:j<c
      ·rw [if_pos cN,if_pos (by omega)]
      ·rw [if_neg cN,if_neg (by omega)]
    have hf:sv (bK ((t.cJ r k).T i c*(t.T r k*w)*w)) (bK w)=some (bK ((t.cJ r k).T i c*(t.T r k*w))):=UB (aaZ i af c (by omega)) aaY (aag c (by omega)) Jb
    unfold vf
    refine dQ (by simp only;omega) (aE (x:=(h i,N+1)) rfl (aE (x:=bk (N+1) fun j=>if j<c then bK ((t.cJ r k).T i j*(t.T r k*w)) else bK (t.T i j*w)) (by simp only;exact B5 o) (b2 (by simp only;omega) (aE (x:=bK (t.T i c*w)) (by simp only;rw [Int.toNat_natCast,jd aP,if_neg (by omega)]) ?_))))
    refine aE (wC (nh i af c (by omega)) (nh r an k (by omega))) (aE (sK (nh i af k (by omega))) (AJ (fun d=> ?_) (fun d=> ?_)))
    ·refine aE (x:=(h r,N+1)) rfl (aE (x:=gj N w t r) (by simp only;rw [Hp cF];exact R) (b2 (by simp only;omega) (aE (x:=bK (t.T r c*w)) (by simp only;rw [Int.toNat_natCast];exact jd aP) (aE (sK (nh r an c (by omega))) (AJ (fun qd=> ?_) (fun qd=> ?_))))))
     ·refine aE (wC (nh i af k (by omega)) (nh r an c (by omega))) (aE (Nw (AV i af c (by omega) r an k (by omega)) (AV i af k (by omega) r an c (by omega))) (aE ?_ fin))
      rw [show t.T i c*w*(t.T r k*w)-t.T i k*w*(t.T r c*w)=(t.cJ r k).T i c*(t.T r k*w)*w by rw [Ky];grind]
      exact hf
     ·have cd:t.T r c=0:=by have:=yM.1 (by simpa using qd);grind
      refine aE ?_ fin
      rw [show t.T i c*w*(t.T r k*w)=(t.cJ r k).T i c*(t.T r k*w)*w by rw [Ky,cd];grind]
      exact hf
    ·have cd:t.T i k=0:=by have:=yM.1 (by simpa using d);grind
     refine aE ?_ fin
     rw [show t.T i c*w*(t.T r k*w)=(t.cJ r k).T i c*(t.T r k*w)*w by rw [Ky,cd];grind]
     exact hf)
  (fun _ _=>by
    unfold vf
    refine dR (by simp) ?_
    simp only
    congr 3
    exact fD fun j aC=>by rw [if_pos aC]) () trivial
 have e0:dC.set (h i) (bk (N+1) fun j=>if j<0 then bK ((t.cJ r k).T i j*(t.T r k*w)) else bK (t.T i j*w))=dC:=by
  have:(bk (N+1) fun j=>if j<0 then bK ((t.cJ r k).T i j*(t.T r k*w)) else bK (t.T i j*w))=gj N w t i:=fD fun j _=>by rw [if_neg (by omega)]
  rw [this]
  apply List.ext_getElem?
  intro c
  rw [List.getElem?_set]
  split
  ·rename_i e;subst e
   rw [if_pos (List.getElem?_eq_some_iff.1 o).1,o]
  ·rfl
 rw [e0] at e
 exact e
theorem V5 {m N:Nat}(fO:N<1000){h:Nat→Nat}{w:Rat}{t:ck}(iC:∀i,i<m→ ∀j,j≤N→eg eF (t.T i j*w)){i:Nat}(af:i<m){dC:List (List a5)}(o:dC[h i]? = some (gj N w t i))
 (fm eN:Int) (gF:Bool) (h8:List Int) (a2:Int) (aW:List bZ) (bh:List Int) (cf:List Bool) :
 Bb (some (h i,N+1)) fm eN (((N+1:Nat):Nat):Int) gF h8 a2 aW bh cf 0 dC=some (dC.set (h i) (gj N (-w) t i)):=by
 have nh : ∀j,j≤N→eg jt (t.T i j*w):=fun j aC=>(iC i af j aC).mono (r7 (by have:=pP;generalize eF=q at *;omega))
 unfold Bb
 obtain ⟨s,e,-⟩:=jb (f:=fun q:Int×List (List a5)=>vh (some (h i,N+1)) fm eN (((N+1:Nat):Nat):Int) gF h8 a2 aW bh cf q.1 q.2)
  (fun (c:Nat) (_:Unit)=>((c:Int),dC.set (h i) (bk (N+1) fun j=>if j<c then bK (t.T i j * -w) else bK (t.T i j*w)))) (N+1) (fun _ _=>True)
  (fun _=>dC.set (h i) (gj N (-w) t i))
  (fun c aP _ _=>by
    refine ⟨(),?_,trivial⟩
    unfold vh
    refine dQ (by simp only;omega) (aE (x:=(h i,N+1)) rfl (aE (x:=bk (N+1) fun j=>if j<c then bK (t.T i j * -w) else bK (t.T i j*w)) (by simp only;exact B5 o) (b2 (by simp only;omega) (aE (x:=bK (t.T i c*w)) (by simp only;rw [Int.toNat_natCast,jd aP,if_neg (by omega)]) (aE (L9 (nh c (by omega))) ?_)))))
    simp only
    rw [fZ (by omega),Int.toNat_natCast,Nat.zero_add,set_set,lb]
    congr 4
    refine fD fun j _=> ?_
    by_cases bF:j=c
    ·subst bF;rw [if_pos rfl,if_pos (by omega)];congr 1;grind
    ·rw [if_neg bF]
     by_cases cN:j<c
     ·rw [if_pos cN,if_pos (by omega)]
     ·rw [if_neg cN,if_neg (by omega)])
  (fun _ _=>by
    unfold vh
    refine dR (by simp) ?_
    simp only
    congr 3
    exact fD fun j aC=>by rw [if_pos aC]) () trivial
 have e0:dC.set (h i) (bk (N+1) fun j=>if j<0 then bK (t.T i j * -w) else bK (t.T i j*w))=dC:=by
  have:(bk (N+1) fun j=>if j<0 then bK (t.T i j * -w) else bK (t.T i j*w))=gj N w t i:=fD fun j _=>by rw [if_neg (by omega)]
  rw [this]
  apply List.ext_getElem?
  intro c
  rw [List.getElem?_set]
  split
  ·rename_i e;subst e
   rw [if_pos (List.getElem?_eq_some_iff.1 o).1,o]
  ·rfl
 rw [e0] at e
 exact e
def ot (w:Rat)(t:ck)(r k:Nat):Rat:=if 0<t.T r k then t.T r k*w else -(t.T r k*w)
theorem N5 {m N M:Nat}(hm:m≤20)(fO:N<1000){h:Nat→Nat}(inj:∀i,i<m→ ∀k,k<m→h i=h k→i=k){w:Rat}{t:ck}{r k:Nat}(f:nz m N w t)(g:r8 m N w t r k){dC:List (List a5)}(fF:jN m N M h w t dC)(gX:Int)(free:List Bool):
 ∃iJ,vy r k (bK w).cU (bK w).cy gX (fV m N h) dC (d1 m t) free=some ((bK (ot w t r k)).cU,(bK (ot w t r k)).cy,iJ,d1 m (t.cJ r k))∧jN m N M h (ot w t r k) (t.cJ r k) iJ:=by
 have an:=g.an
 have aU:=g.aU
 have ak:=g.ak
 have hw:=f.pos
 have nh : ∀i,i<m→ ∀j,j≤N→eg jt (t.T i j*w):=fun i af j aC=>(f.iC i af j aC).mono (r7 (by have:=pP;generalize eF=q at *;omega))
 have QB:gj N (t.T r k*w) (t.cJ r k) r=gj N w t r:=fD fun j _=>by
  simp only [ck.cJ,if_true];congr 1;grind
 have xH:(fV m N h).length=m:=dG ..
 unfold vy
 obtain ⟨gK,ax,me,ad⟩:=jb (f:=fun q:Int×List (List a5)=>vg (r:Int) (k:Int) (some (h r,N+1)) ((m:Nat):Int) (bK w).cU (bK w).cy gX (fV m N h) (d1 m t) free (bK (t.T r k*w)).cU (bK (t.T r k*w)).cy q.1 q.2)
  (fun (i:Nat) (p:List (List a5))=>((i:Int),p)) m (fun n p=>p.length=M∧ ∀i,i<m→p[h i]? = some (if i=r∨i<n then gj N (t.T r k*w) (t.cJ r k) i else gj N w t i)) (fun p=>p)
  (fun n a1 p cW=>by
    obtain ⟨aG,cW⟩:=cW
    unfold vg
    by_cases c:n=r
    ·subst c
     refine ⟨p,dQ (by simp only;omega) (b2 (by rw [xH];simp only;omega) (aE (x:=some (h n,N+1)) (by simp only;rw [Int.toNat_natCast];exact jd a1) (ep (by simp) ?_))),aG,fun i af=> ?_⟩
     ·simp only;rw [fZ (by omega)]
     ·rw [cW i af]
      by_cases bF:i=n∨i<n
      ·rw [if_pos bF,if_pos (by omega)]
      ·rw [if_neg bF,if_neg (by omega)]
    ·have cF:h n≠h r:=fun e=>c (inj n a1 r an e)
     have o:p[h n]? = some (gj N w t n):=by rw [cW n a1,if_neg (by omega)]
     have R:p[h r]? = some (gj N w t r):=by rw [cW r an,if_pos (.inl rfl),QB]
     refine ⟨p.set (h n) (gj N (t.T r k*w) (t.cJ r k) n),dQ (by simp only;omega) (b2 (by rw [xH];simp only;omega) (aE (x:=some (h n,N+1)) (by simp only;rw [Int.toNat_natCast];exact jd a1) (fB (by simp;omega) (aE (x:=(h n,N+1)) rfl (aE o (b2 (by simp only;omega) (aE (x:=bK (t.T n k*w)) (by rw [Int.toNat_natCast];exact jd (by omega)) (aE (V4 fO f g a1 c cF o R _ _ _ _ _ _ _ _) ?_)))))))),by rw [List.length_set];exact aG,fun i af=> ?_⟩
     ·simp only;rw [fZ (by omega)]
     ·by_cases bF:i=n
      ·subst bF;rw [B5 o,if_pos (.inr (by omega))]
      ·rw [Hp (fun e=>bF (inj i af n a1 e.symm)),cW i af]
       by_cases cN:i=r∨i<n
       ·rw [if_pos cN,if_pos (by omega)]
       ·rw [if_neg cN,if_neg (by omega)])
  (fun p _=>by unfold vg;exact dR (by simp) rfl) dC ⟨fF.len,fun i af=>by
    rw [fF.row i af]
    by_cases c:i=r
    ·rw [if_pos (.inl c),c,QB]
    ·rw [if_neg (by omega)]⟩
 have Qk : ∀i,i<m→gK[h i]? = some (gj N (t.T r k*w) (t.cJ r k) i):=fun i af=>by rw [ad i af,if_pos (.inr af)]
 have YQ:(d1 m t).set (0+((r:Int)).toNat) (k:Int)=d1 m (t.cJ r k):=by
  rw [Int.toNat_natCast,Nat.zero_add]
  unfold d1
  rw [lb]
  exact fD fun i _=>by
   simp only [ck.cJ]
   split<;>rfl
 have lead :
  (if 0≤(r:Int)∧(r:Int)<((fV m N h).length:Nat) then
    (fV m N h)[(0+((r:Int)).toNat)]? >>= fun eN =>
    eN >>= fun qQ =>
    dC[qQ.1]? >>= fun xF =>
    if 0≤(k:Int)∧(k:Int)<(qQ.2:Nat) then
    xF[(0+((k:Int)).toNat)]? >>= fun gS =>
    Ba (r:Int) (k:Int) eN (((fV m N h).length:Nat):Int) (bK w).cU (bK w).cy gX (fV m N h) (d1 m t) free gS.cU gS.cy 0 dC >>= fun cr =>
    if 0≤(r:Int)∧(r:Int)<((d1 m t).length:Nat) then
    if (0+((r:Int)).toNat)<(d1 m t).length then
    nP gS >>= fun fk =>
    if (decide ((0:Int)<fk))=true then
     some (gS.cU,gS.cy,cr,(d1 m t).set (0+((r:Int)).toNat) (k:Int))
    else
     o1 gS >>= fun d2 =>
     xS (((fV m N h).length:Nat):Int) d2.cU d2.cy gX (fV m N h) ((d1 m t).set (0+((r:Int)).toNat) (k:Int)) free 0 cr >>= fun hT =>
     some (d2.cU,d2.cy,hT,(d1 m t).set (0+((r:Int)).toNat) (k:Int))
    else none else none else none else none)=(if (decide ((0:Int)<k0 (t.T r k)))=true then
     some ((bK (t.T r k*w)).cU,(bK (t.T r k*w)).cy,gK,d1 m (t.cJ r k))
    else
     o1 (bK (t.T r k*w)) >>= fun d2 =>
     xS ((m:Nat):Int) d2.cU d2.cy gX (fV m N h) (d1 m (t.cJ r k)) free 0 gK >>= fun hT =>
     some (d2.cU,d2.cy,hT,d1 m (t.cJ r k))):=by
  refine b2 (by rw [xH];omega) (aE (x:=some (h r,N+1)) (by rw [Int.toNat_natCast];exact jd an) (aE (x:=(h r,N+1)) rfl (aE (fF.row r an) (b2 (by simp only;omega) (aE (x:=bK (t.T r k*w)) (by rw [Int.toNat_natCast];exact jd (by omega)) (aE (x:=gK) (by unfold Ba;rw [xH];exact ax) (b2 (by unfold d1;rw [dG];omega) (b2 (by unfold d1;rw [dG,Int.toNat_natCast];omega) (aE (sK (nh r an k (by omega))) ?_)))))))))
  rw [wK hw,YQ,xH]
 by_cases iM:0<t.T r k
 ·have tl:ot w t r k=t.T r k*w:=if_pos iM
  refine ⟨gK,lead.trans ?_,me,fun i af=>by rw [tl];exact Qk i af⟩
  rw [tl]
  exact dQ (sJ.2 iM) rfl
 ·have tl:ot w t r k = -(t.T r k*w):=if_neg iM
  obtain ⟨h7,aF,oW,b3⟩:=jb (f:=fun q:Int×List (List a5)=>vi ((m:Nat):Int) (bK (-(t.T r k*w))).cU (bK (-(t.T r k*w))).cy gX (fV m N h) (d1 m (t.cJ r k)) free q.1 q.2)
   (fun (i:Nat) (p:List (List a5))=>((i:Int),p)) m (fun n p=>p.length=M∧ ∀i,i<m→p[h i]? = some (if i<n then gj N (-(t.T r k*w)) (t.cJ r k) i else gj N (t.T r k*w) (t.cJ r k) i)) (fun p=>p)
   (fun n a1 p cW=>by
     obtain ⟨aG,cW⟩:=cW
     have o:p[h n]? = some (gj N (t.T r k*w) (t.cJ r k) n):=by rw [cW n a1,if_neg (by omega)]
     unfold vi
     refine ⟨p.set (h n) (gj N (-(t.T r k*w)) (t.cJ r k) n),dQ (by simp only;omega) (b2 (by rw [xH];simp only;omega) (aE (x:=some (h n,N+1)) (by simp only;rw [Int.toNat_natCast];exact jd a1) (aE (x:=(h n,N+1)) rfl (aE o (aE (V5 fO g.xz a1 o _ _ _ _ _ _ _ _) ?_))))),by rw [List.length_set];exact aG,fun i af=> ?_⟩
     ·simp only;rw [fZ (by omega)]
     ·by_cases bF:i=n
      ·subst bF;rw [B5 o,if_pos (by omega)]
      ·rw [Hp (fun e=>bF (inj i af n a1 e.symm)),cW i af]
       by_cases cN:i<n
       ·rw [if_pos cN,if_pos (by omega)]
       ·rw [if_neg cN,if_neg (by omega)])
   (fun p _=>by unfold vi;exact dR (by simp) rfl) gK ⟨me,fun i af=>by rw [Qk i af,if_neg (by omega)]⟩
  refine ⟨h7,lead.trans ?_,oW,fun i af=>by rw [tl,b3 i af,if_pos af]⟩
  rw [tl]
  exact dR (fun c=>iM (sJ.1 c)) (aE (L9 (nh r an k (by omega))) (aE (x:=h7) (by unfold xS;exact aF) rfl))
theorem LQ {m:Nat}(hm:m≤1000)(t:ck)(j:Nat): ∃b,rH (d1 m t) (j:Int)=some b∧(b=true↔ ∃i,i<m∧t.B i=j):=by
 unfold rH yW Cd
 obtain ⟨r,e,h⟩:=pG (f:=fun w:Int=>rz (d1 m t) (j:Int) ((m:Nat):Int) w) (fun (i:Nat) (_:Unit)=>(i:Int)) m (fun i _=> ∀k,k<i→t.B k≠j)
  (fun r=>(∃i:Nat,r = .inr (i:Int)∧i<m∧t.B i=j)∨(r = .inl ()∧ ¬∃i,i<m∧t.B i=j))
  (fun i af _ cW=>by
    unfold rz
    by_cases c:t.B i=j
    ·right
     exact ⟨_,dQ (by omega) (b2 (by unfold d1;rw [dG];omega) (aE (x:=((t.B i:Nat):Int)) (by rw [Int.toNat_natCast];exact iL af) (ep (by simp [c]) rfl))),.inl ⟨i,rfl,af,c⟩⟩
    ·left
     refine ⟨(),dQ (by omega) (b2 (by unfold d1;rw [dG];omega) (aE (x:=((t.B i:Nat):Int)) (by rw [Int.toNat_natCast];exact iL af) (fB (by simp;omega) (by rw [fZ (by omega)])))),fun k aU=> ?_⟩
     by_cases e:k=i
     ·rw [e];exact c
     ·exact cW k (by omega))
  (fun _ cW=>⟨_,by unfold rz;exact dR (by omega) rfl,.inr ⟨rfl,fun ⟨i,af,e⟩=>cW i af e⟩⟩) () (fun k aU=>by omega)
 rw [fY,show (d1 m t).length=m from dG ..]
 rcases h with ⟨i,rfl,o,R⟩|⟨rfl,h⟩
 ·exact ⟨true,aE (x:=(i:Int)) (aE e rfl) (by simp),by simp only [true_iff];exact ⟨i,o,R⟩⟩
 ·exact ⟨false,aE (x:=(-1:Int)) (aE e rfl) rfl,by simp [h]⟩
theorem yY {m N M:Nat}{h:Nat→Nat}{w:Rat}{t:ck}{dC:List (List a5)}(fF:jN m N M h w t dC):(fV m N h).all (uC dC)=true:=by
 rw [List.all_eq_true]
 intro x aa
 obtain ⟨i,af,rfl⟩:=Wv.1 aa
 simp only [uC]
 have o:=fF.row i af
 have R:dC.getD (h i) []=gj N w t i:=by rw [List.getD_eq_getElem?_getD,o];rfl
 rw [R,show (gj N w t i).length=N+1 from dG ..]
 simp [(List.getElem?_eq_some_iff.1 o).1]
theorem tY {m N M:Nat}{h:Nat→Nat}{w:Rat}{t:ck}{dC:List (List a5)}(fF:jN m N M h w t dC):(fV m N h).map (lA dC)=bk m (gj N w t):=by
 unfold fV
 rw [Ww]
 exact fD fun i af=>by
  have R:dC.getD (h i) []=gj N w t i:=by rw [List.getD_eq_getElem?_getD,fF.row i af];rfl
  simp only [lA]
  rw [R]
  exact List.take_of_length_le (Nat.le_of_eq (dG ..))
theorem Ql {m:Nat}{I:Nat→Rat}{t:ck}{j:Nat}:t.D0 m 1 (fun _=>I) j↔0<t.c9 m I j:=YN (g:=fun _=>t.c9 m I j)
theorem UD {dM m N M:Nat}{A:Nat→Nat→Rat}(hm:m≤20)(fO:N<1000){h:Nat→Nat}(inj:∀i,i<m→ ∀k,k<m→h i=h k→i=k){w:Rat}{t:ck}(ok:fH dM m N A t)(f:nz m N w t)(I:Nat→Int)(aj:∀j,j<N→ -100≤I j∧I j≤100)(c5:Nat→Bool)
 (aa0 : ∀r s,oI m N 1 (fun _ j=>(I j:Rat)) (fun j=>c5 j=true) t r s→r8 m N w t r s) {dC:List (List a5)} (fF:jN m N M h w t dC) :
 ∃x,vn (N:Int) (bK w).cU (bK w).cy (fV m N h) dC (d1 m t) (bk N c5) (bk N I) 0=some x ∧
  ((x = .inl (false,(bK w).cU,(bK w).cy,dC,d1 m t)∧ ∀j,j<N→c5 j=true→ ¬0<t.c9 m (fun j=>(I j:Rat)) j) ∨
   (∃r s iJ,x = .inl (true,(bK (ot w t r s)).cU,(bK (ot w t r s)).cy,iJ,d1 m (t.cJ r s))∧oI m N 1 (fun _ j=>(I j:Rat)) (fun j=>c5 j=true) t r s∧jN m N M h (ot w t r s) (t.cJ r s) iJ) ∨
   (x = .inr ()∧ ∃s,s<N∧c5 s=true∧0<t.c9 m (fun j=>(I j:Rat)) s∧ ∀i,i<m→ ¬0<t.T i s)):=by
 unfold vn
 refine pG (f:=fun q:Int=>vb (N:Int) (bK w).cU (bK w).cy (fV m N h) dC (d1 m t) (bk N c5) (bk N I) q) (fun (i:Nat) (_:Unit)=>(i:Int)) N
  (fun n _=> ∀j,j<n→c5 j=true→ ¬0<t.c9 m (fun j=>(I j:Rat)) j) _ (fun n a1 _ cW=> ?_) (fun _ cW=> ?_) () (fun j aC=>by omega)
 ·have next : ∀(gu:c5 n=true→ ¬0<t.c9 m (fun j=>(I j:Rat)) n),∀j,j<n+1→c5 j=true→ ¬0<t.c9 m (fun j=>(I j:Rat)) j:=fun gu j aC=>by
   by_cases c:j=n
   ·subst c;exact gu
   ·exact cW j (by omega)
  have g1:0≤((n:Nat):Int)∧((n:Nat):Int)<((bk N c5).length:Nat):=by rw [dG];omega
  have g2:(bk N c5)[(0+((n:Nat):Int).toNat)]? = some (c5 n):=by rw [Int.toNat_natCast];exact jd a1
  have iS:U ((n:Int)+1)=((n+1:Nat):Int):=fZ (by omega)
  unfold vb
  by_cases px:c5 n=true
  ·obtain ⟨b,gF,h8⟩:=LQ (m:=m) (by omega) t n
   cases b with
   | true =>
    obtain ⟨i,af,gw⟩:=h8.1 rfl
    left
    refine ⟨(),dQ (by omega) (b2 g1 (aE g2 (ep px (aE gF (ep rfl (by rw [iS])))))),next fun _=> ?_⟩
    rw [← gw,ok.wi _ af];grind
   | false =>
    have dt:=N4 hm fO f I aj ((⟨(bK w).cU,(bK w).cy⟩:a5)) rfl (N:Int) (bk N c5) a1
    by_cases rs:0<t.c9 m (fun j=>(I j:Rat)) n
    ·obtain ⟨q,aW,bh⟩:=UC hm fO f ((⟨(bK w).cU,(bK w).cy⟩:a5)) (bk N c5) (k:=n) (by omega)
     have bR : ¬k0 (t.c9 m (fun j=>(I j:Rat)) n)≤0:=by have:=sJ.2 rs;omega
     right
     rcases bh with ⟨rfl,R⟩|⟨b,rfl,aM,lq,ae,ay⟩
     ·exact ⟨_,dQ (by omega) (b2 g1 (aE g2 (ep px (aE gF (fB rfl (b2 (yY fF) (aE (by rw [tY fF];exact dt) (dR bR (aE (by rw [tY fF];exact aW) (dQ (by decide) rfl)))))))))),.inr (.inr ⟨rfl,n,a1,px,rs,R⟩)⟩
     ·have cM:oI m N 1 (fun _ j=>(I j:Rat)) (fun j=>c5 j=true) t b n:=⟨a1,px,Ql.2 rs,fun j aC b7 dt=>cW j aC b7 (Ql.1 dt),aM,lq,ae,ay⟩
      obtain ⟨iJ,ax,aF⟩:=N5 hm fO inj f (aa0 b n cM) fF (N:Int) (bk N c5)
      exact ⟨_,dQ (by omega) (b2 g1 (aE g2 (ep px (aE gF (fB rfl (b2 (yY fF) (aE (by rw [tY fF];exact dt) (dR bR (aE (by rw [tY fF];exact aW) (dR (by omega) (aE ax rfl))))))))))),.inr (.inl ⟨b,n,iJ,rfl,cM,aF⟩)⟩
    ·left
     have bR:k0 (t.c9 m (fun j=>(I j:Rat)) n)≤0:=by
      have : ¬0<k0 (t.c9 m (fun j=>(I j:Rat)) n):=fun c=>rs (sJ.1 c)
      omega
     exact ⟨(),dQ (by omega) (b2 g1 (aE g2 (ep px (aE gF (fB rfl (b2 (yY fF) (aE (by rw [tY fF];exact dt) (dQ bR (by rw [iS]))))))))),next fun _=>rs⟩
  ·left
   have DU:c5 n=false:=by simpa using px
   exact ⟨(),dQ (by omega) (b2 g1 (aE g2 (fB DU (by rw [iS])))),next fun c=>(px c).elim⟩
 ·exact ⟨_,by unfold vb;exact dR (by omega) rfl,.inl ⟨rfl,cW⟩⟩
def s3 (N:Int)(pX:List bZ)(free:List Bool)(obj:List Int)(s:Bool×List Int×List (List a5)×List Int):Option ((Bool×List Int×List (List a5)×List Int)⊕((Bool×List Int×List (List a5)×List Int)⊕(Bool×List Int×List (List a5)×List Int))) :=
 match vn N s.1 s.2.1 pX s.2.2.1 s.2.2.2 free obj 0 with
 | none=>none
 | some (.inl (true,bG))=>some (.inl bG)
 | some (.inl (false,bG))=>some (.inr (.inl bG))
 | some (.inr ())=>some (.inr (.inr s))
theorem V6 {N:Int}{pX:List bZ}{free:List Bool}{obj:List Int}: ∀s r,iter (s3 N pX free obj) s=some r→A5 N pX free obj true s.1 s.2.1 s.2.2.1 s.2.2.2=some r:=by
 unfold A5
 apply iter.partial_correctness (s3 N pX free obj) (fun s r=>iter (fun w:Bool×Bool×(List Int)×(List (List a5))×(List Int)=>tq N pX free obj w.1 w.2.1 w.2.2.1 w.2.2.2.1 w.2.2.2.2) (true,s.1,s.2.1,s.2.2.1,s.2.2.2)=some r)
 intro it ih s r an
 cases aa:vn N s.1 s.2.1 pX s.2.2.1 s.2.2.2 free obj 0 with
 | none=>unfold s3 at an;rw [aa] at an;simp at an
 | some x =>
  have hm:tq N pX free obj true s.1 s.2.1 s.2.2.1 s.2.2.2=match x with
   | .inl hJ=>(some (.inl (hJ.1,hJ.2.1,hJ.2.2.1,hJ.2.2.2.1,hJ.2.2.2.2)))
   | .inr hJ=>(some (.inr (.inr (s.1,s.2.1,s.2.2.1,s.2.2.2)))):=by
   unfold tq
   refine ep rfl ?_
   cases x with
   | inl a=>exact aE aa rfl
   | inr a=>exact aE aa rfl
  unfold s3 at an
  rw [aa] at an
  rw [iter]
  simp only
  rw [hm]
  match x,an with
  | .inl (true,bG),an=>exact ih _ _ an
  | .inl (false,bG),an =>
   simp at an
   subst an
   show iter _ (false,bG.1,bG.2.1,bG.2.2.1,bG.2.2.2)=_
   rw [iter]
   simp only
   unfold tq
   rfl
  | .inr (),an =>
   simp at an
   subst an
   rfl
theorem V7 {dM m N M:Nat}{A:Nat→Nat→Rat}(hm:m≤20)(fO:N<1000){h:Nat→Nat}{w:Rat}{t:ck}(ok:fH dM m N A t)(f:nz m N w t)(I:Nat→Int)(aj:∀j,j<N→ -100≤I j∧I j≤100)(c5:Nat→Bool){dC:List (List a5)}(fF:jN m N M h w t dC):
 A6 (N:Int) (bK w).cU (bK w).cy (fV m N h) dC (d1 m t) (bk N I) 0 (bk N c5)=some (bk N fun j=>c5 j && !decide (t.c9 m (fun j=>(I j:Rat)) j<0)):=by
 unfold A6
 obtain ⟨s,e,-⟩:=jb (f:=fun q:Int×List Bool=>vc (N:Int) (bK w).cU (bK w).cy (fV m N h) dC (d1 m t) (bk N I) q.1 q.2)
  (fun (i:Nat) (_:Unit)=>((i:Int),bk N fun j=>if j<i then c5 j && !decide (t.c9 m (fun j=>(I j:Rat)) j<0) else c5 j)) N (fun _ _=>True) (fun _=>bk N fun j=>c5 j && !decide (t.c9 m (fun j=>(I j:Rat)) j<0))
  (fun n a1 _ _=>by
    refine ⟨(),?_,trivial⟩
    have same:c5 n=(c5 n && !decide (t.c9 m (fun j=>(I j:Rat)) n<0))→(U ((n:Int)+1),bk N fun j=>if j<n then c5 j && !decide (t.c9 m (fun j=>(I j:Rat)) j<0) else c5 j)=(((n+1:Nat):Int),bk N fun j=>if j<n+1 then c5 j && !decide (t.c9 m (fun j=>(I j:Rat)) j<0) else c5 j):=fun he=>by
     rw [fZ (by omega)]
     congr 1
     refine fD fun j _=> ?_
     by_cases c:j=n
     ·subst c;rw [if_neg (by omega),if_pos (by omega)];exact he
     ·by_cases cN:j<n
      ·rw [if_pos cN,if_pos (by omega)]
      ·rw [if_neg cN,if_neg (by omega)]
    have g1 : ∀F:Nat→Bool,0≤((n:Nat):Int)∧((n:Nat):Int)<((bk N F).length:Nat):=fun F=>by rw [dG];omega
    have g2:(bk N fun j=>if j<n then c5 j && !decide (t.c9 m (fun j=>(I j:Rat)) j<0) else c5 j)[(0+((n:Nat):Int).toNat)]? = some (c5 n):=by rw [Int.toNat_natCast,jd a1,if_neg (by omega)]
    unfold vc
    by_cases px:c5 n=true
    ·obtain ⟨b,gF,h8⟩:=LQ (m:=m) (by omega) t n
     cases b with
     | true =>
      obtain ⟨i,af,gw⟩:=h8.1 rfl
      refine dQ (by simp only;omega) (b2 (g1 _) (aE g2 (ep px (aE gF (ep rfl ?_)))))
      simp only
      rw [same]
      rw [← gw,ok.wi _ af,decide_eq_false (by grind)];simp
     | false =>
      have dt:=N4 hm fO f I aj ((⟨(bK w).cU,(bK w).cy⟩:a5)) rfl (N:Int) (bk N fun j=>if j<n then c5 j && !decide (t.c9 m (fun j=>(I j:Rat)) j<0) else c5 j) a1
      have bR:k0 (t.c9 m (fun j=>(I j:Rat)) n)<0↔t.c9 m (fun j=>(I j:Rat)) n<0:=by
       unfold k0
       by_cases c:t.c9 m (fun j=>(I j:Rat)) n=0
       ·rw [if_pos c,c];constructor
        ·intro h;omega
        ·intro h;grind
       ·rw [if_neg c]
        by_cases cN:t.c9 m (fun j=>(I j:Rat)) n<0
        ·rw [if_pos cN];simp [cN]
        ·rw [if_neg cN];constructor
         ·intro h;omega
         ·intro h;exact (cN h).elim
      by_cases rs:t.c9 m (fun j=>(I j:Rat)) n<0
      ·refine dQ (by simp only;omega) (b2 (g1 _) (aE g2 (ep px (aE gF (fB rfl (b2 (yY fF) (aE (by rw [tY fF];exact dt) (dQ (bR.2 rs) (b2 (by rw [dG,Int.toNat_natCast];omega) ?_)))))))))
       simp only
       rw [fZ (by omega),Int.toNat_natCast,Nat.zero_add,lb]
       congr 3
       refine fD fun j _=> ?_
       by_cases c:j=n
       ·subst c;rw [if_pos rfl,if_pos (by omega),decide_eq_true rs];simp
       ·rw [if_neg c]
        by_cases cN:j<n
        ·rw [if_pos cN,if_pos (by omega)]
        ·rw [if_neg cN,if_neg (by omega)]
      ·refine dQ (by simp only;omega) (b2 (g1 _) (aE g2 (ep px (aE gF (fB rfl (b2 (yY fF) (aE (by rw [tY fF];exact dt) (dR (fun c=>rs (bR.1 c)) ?_))))))))
       simp only
       rw [same]
       rw [decide_eq_false rs];simp
    ·have DU:c5 n=false:=by simpa using px
     refine dQ (by simp only;omega) (b2 (g1 _) (aE g2 (fB DU ?_)))
     simp only
     rw [same]
     rw [DU];simp)
  (fun _ _=>by
    unfold vc
    refine dR (by simp) ?_
    simp only
    congr 2
    exact fD fun j aC=>by rw [if_pos aC]) () trivial
 have e0:(bk N fun j=>if j<0 then c5 j && !decide (t.c9 m (fun j=>(I j:Rat)) j<0) else c5 j)=bk N c5:=fD fun j _=>by rw [if_neg (by omega)]
 rw [e0] at e
 exact e
theorem Ma {dM m N M:Nat}{A:Nat→Nat→Rat}(hm:m≤20)(fO:N<1000){h:Nat→Nat}(inj:∀i,i<m→ ∀k,k<m→h i=h k→i=k)(I:Nat→Int)(aj:∀j,j<N→ -100≤I j∧I j≤100)(c5:Nat→Bool)
 (Inv:Rat→ck→Prop) (inv : ∀w t,Inv w t→fH dM m N A t∧t.kh m N∧nz m N w t)
 (gk : ∀w t r s,Inv w t→oI m N 1 (fun _ j=>(I j:Rat)) (fun j=>c5 j=true) t r s→r8 m N w t r s∧Inv (ot w t r s) (t.cJ r s)) {w:Rat} {t:ck} (cW:Inv w t) {dC:List (List a5)} (fF:jN m N M h w t dC) :
 ∃b bx dc iJ jQ,rv (bK w).cU (bK w).cy (N:Int) (fV m N h) dC (d1 m t) (bk N c5) (bk N I)=some (b,(bK bx).cU,(bK bx).cy,iJ,d1 m dc,bk N jQ)∧Inv bx dc∧jN m N M h bx dc iJ ∧
  ((b=true∧(∀j,j<N→c5 j=true→ ¬0<dc.c9 m (fun j=>(I j:Rat)) j)∧jQ=fun j=>c5 j && !decide (dc.c9 m (fun j=>(I j:Rat)) j<0))∨(b=false∧ ∃s,s<N∧c5 s=true∧0<dc.c9 m (fun j=>(I j:Rat)) s∧ ∀i,i<m→ ¬0<dc.T i s)):=by
 obtain ⟨ok,k2,AB⟩:=inv w t cW
 obtain ⟨x,dp,dc,e,-,-,-,bx,iJ,o,R,ae⟩:=Un (dM:=dM) (m:=m) (N:=N) (K:=1) (A:=A) (obj:=fun _ j=>(I j:Rat)) (bL:=fun j=>c5 j=true)
  (f:=s3 (N:Int) (fV m N h) (bk N c5) (bk N I))
  (fun s t=> ∃w dC,s=((bK w).cU,(bK w).cy,dC,d1 m t)∧Inv w t∧jN m N M h w t dC)
  (fun s x t=> ∃w dC,Inv w t∧jN m N M h w t dC∧((x = .inl ((bK w).cU,(bK w).cy,dC,d1 m t)∧ ∀j,j<N→c5 j=true→ ¬0<t.c9 m (fun j=>(I j:Rat)) j) ∨
    (x = .inr ((bK w).cU,(bK w).cy,dC,d1 m t)∧ ∃s,s<N∧c5 s=true∧0<t.c9 m (fun j=>(I j:Rat)) s∧ ∀i,i<m→ ¬0<t.T i s)))
  (fun s t cK ok _=>by
    obtain ⟨w,dC,rfl,cW,fF⟩:=cK
    obtain ⟨x,e,aa⟩:=UD hm fO inj ok (inv w t cW).2.2 I aj c5 (fun r s b=>(gk w t r s cW b).1) fF
    rcases aa with ⟨rfl,aa⟩|⟨r,s,iJ,rfl,cM,Ay⟩|⟨rfl,aa⟩
    ·left
     exact ⟨_,by unfold s3;simp only;rw [e],w,dC,cW,fF,.inl ⟨rfl,aa⟩⟩
    ·right
     exact ⟨_,r,s,by unfold s3;simp only;rw [e],cM,ot w t r s,iJ,rfl,(gk w t r s cW cM).2,Ay⟩
    ·left
     exact ⟨_,by unfold s3;simp only;rw [e],w,dC,cW,fF,.inr ⟨rfl,aa⟩⟩)
  (a:=((bK w).cU,(bK w).cy,dC,d1 m t)) (t:=t) ⟨w,dC,rfl,cW,fF⟩ ok k2
 have aF:=V6 _ _ e
 obtain ⟨jO,ac0,aah⟩:=inv bx dc o
 rcases ae with ⟨rfl,ae⟩|⟨rfl,ae⟩
 ·refine ⟨true,bx,dc,iJ,_,?_,o,R,.inl ⟨rfl,ae,rfl⟩⟩
  unfold rv
  exact aE aF (aE (V7 hm fO jO aah I aj c5 R) rfl)
 ·refine ⟨false,bx,dc,iJ,c5,?_,o,R,.inr ⟨rfl,ae⟩⟩
  unfold rv
  exact aE aF rfl
def gp (m:Nat)(A:Nat→Nat→Rat)(t:ck):Rat:=if 0<t.D m A then t.D m A else -(t.D m A)
theorem Xr {m N:Nat}{A:Nat→Nat→Rat}{t:ck}(h:t.D m A≠0):0<gp m A t:=by
 unfold gp;split<;>grind
theorem O4 {m K:Nat}{A:Nat→Nat→Rat}{t:ck}{x:Rat}(h:eg K (x*t.D m A)):eg K (x*gp m A t):=by
 unfold gp;split
 ·exact h
 ·have:=h.neg
  rw [show x * -(t.D m A) = -(x*t.D m A) by grind];exact this
theorem oN.pW {m N:Nat}{A:Nat→Nat→Rat}(s:Small m N A){t:ck}(h:oN m N A t):nz m N (gp m A t) t where
 pos:=Xr (N:=N) h.uY
 hw:=by
  have o:eg eF (1*t.D m A):=by rw [Rat.one_mul];exact h.Z8 s
  have:=O4 o
  rw [Rat.one_mul] at this
  exact this.mono (by generalize eF=q;omega)
 iC:=fun i af j aC=>O4 (h.Z9 s af aC)
 gw:=h.ok.jC
theorem oN.uk {m N:Nat}{A:Nat→Nat→Rat}(s:Small m N A){t:ck}(h:oN m N A t){r k:Nat}(an:r<m)(aU:k<N)(ak:t.T r k≠0):r8 m N (gp m A t) t r k where
 an:=an
 aU:=aU
 ak:=ak
 xz:=fun i af j aC=>by
  have jO:=h.ok.cJ an aU ak
  have o:eg eF ((t.cJ r k).T i j*(t.cJ r k).D m A):=by
   rw [← jO.xE af aC]
   refine eg.mono (CY fun dl l5 c aP=> ?_) (Iy▸Cw (by omega) s.hm)
   simp only [fK]
   split
   ·exact s.AU c aP j aC
   ·exact s.AU c aP _ (Nat.le_of_lt (jO.jC dl l5))
  rw [h.ok.zl an aU] at o
  unfold gp
  split
  ·exact o
  ·have:=o.neg
   rw [show (t.cJ r k).T i j*(t.T r k * -(t.D m A)) = -((t.cJ r k).T i j*(t.T r k*t.D m A)) by grind];exact this
theorem Il {m N:Nat}{A:Nat→Nat→Rat}{t:ck}(h:fH m m N A t)(ba:t.D m A≠0){r k:Nat}(an:r<m)(aU:k<N)(ak:t.T r k≠0):ot (gp m A t) t r k=gp m A (t.cJ r k):=by
 have e:=h.zl an aU
 unfold ot gp
 rw [e]
 by_cases bF:0<t.T r k<;>by_cases cN:0<t.D m A
 ·rw [if_pos bF,if_pos cN,if_pos (Rat.mul_pos bF cN)]
 ·have:=Rat.mul_pos bF (show 0 < -(t.D m A) by grind)
  rw [if_pos bF,if_neg cN,if_neg (by grind)];grind
 ·have:=Rat.mul_pos (show 0 < -(t.T r k) by grind) cN
  rw [if_neg bF,if_pos cN,if_neg (by grind)]
 ·have:=Rat.mul_pos (show 0 < -(t.T r k) by grind) (show 0 < -(t.D m A) by grind)
  rw [if_neg bF,if_neg cN,if_pos (by grind)];grind
def hv (h:Nat→Nat)(t:ck):ck:=⟨fun i j=>t.T (h i) j,fun i=>t.B (h i)⟩
theorem yN {h:Nat→Nat}{t:ck}{r k i:Nat}(eO:h i=h r→i=r):(∀j,((hv h t).cJ r k).T i j=(hv h (t.cJ (h r) k)).T i j)∧((hv h t).cJ r k).B i=(hv h (t.cJ (h r) k)).B i:=by
 simp only [ck.cJ,hv]
 by_cases c:i=r
 ·subst c;simp
 ·have:h i≠h r:=fun e=>c (eO e)
  simp [c,this]
theorem MD {α:Type}{m i:Nat}(af:i<m)(f:Nat→α):(bk m f).take (i-0)++((bk m f).drop (0+(i+1))).take (m-(i+1))=bk (m-1) (skip i f):=by
 apply List.ext_getElem?
 intro j
 rw [Nat.sub_zero,Nat.zero_add]
 have aG:((bk m f).take i).length=i:=by rw [List.length_take,dG];omega
 by_cases c:j<i
 ·rw [List.getElem?_append_left (by omega),List.getElem?_take,if_pos c,iL (by omega),iL (by omega)]
  simp only [skip];rw [if_pos c]
 ·rw [List.getElem?_append_right (by omega),aG,List.getElem?_take,List.getElem?_drop]
  by_cases cN:j<m-1
  ·rw [if_pos (by omega),iL (by omega),iL cN]
   simp only [skip];rw [if_neg c];congr 2;omega
  ·rw [if_neg (by omega)]
   symm
   rw [List.getElem?_eq_none_iff,dG];omega
theorem T5 {m N M n:Nat}(fO:N<1000)(a1:n≤N){h:Nat→Nat}{w:Rat}{t:ck}(f:nz m N w t){dC:List (List a5)}(fF:jN m N M h w t dC){i:Nat}(af:i<m)(gF:Bool)(h8:List Int)(a2:Int)(bh:List Int)(cf:List Bool):
 ∃k:Nat,Bc (n:Int) (i:Int) gF h8 a2 (fV m N h) dC bh cf 0=some (k:Int)∧k≤n∧(k<n→t.T i k≠0)∧ ∀j,j<k→t.T i j=0:=by
 unfold Bc
 obtain ⟨r,e,k,rfl,o,R,ae⟩:=pG (f:=fun q:Int=>vj (n:Int) (i:Int) gF h8 a2 (fV m N h) dC bh cf q) (fun (c:Nat) (_:Unit)=>(c:Int)) n (fun c _=> ∀j,j<c→t.T i j=0)
  (fun r=> ∃k:Nat,r=(k:Int)∧k≤n∧(k<n→t.T i k≠0)∧ ∀j,j<k→t.T i j=0)
  (fun c aP _ cW=>by
    have hw:=f.pos
    have bR:=sK ((f.iC i af c (by omega)).mono (r7 (by have:=pP;generalize eF=q at *;omega)))
    unfold vj
    by_cases D5:t.T i c=0
    ·left
     refine ⟨(),dQ (by omega) (b2 (by unfold fV;rw [dG];omega) (aE (x:=some (h i,N+1)) (by rw [Int.toNat_natCast];exact jd af) (aE (x:=(h i,N+1)) rfl (aE (fF.row i af) (b2 (by simp only;omega) (aE (x:=bK (t.T i c*w)) (by rw [Int.toNat_natCast];exact jd (by omega)) (aE bR (ep (by rw [wK hw,yM.2 D5];rfl) (by rw [fZ (by omega)]))))))))),fun j aC=> ?_⟩
     by_cases e:j=c
     ·rw [e];exact D5
     ·exact cW j (by omega)
    ·right
     exact ⟨_,dQ (by omega) (b2 (by unfold fV;rw [dG];omega) (aE (x:=some (h i,N+1)) (by rw [Int.toNat_natCast];exact jd af) (aE (x:=(h i,N+1)) rfl (aE (fF.row i af) (b2 (by simp only;omega) (aE (x:=bK (t.T i c*w)) (by rw [Int.toNat_natCast];exact jd (by omega)) (aE bR (fB (by rw [wK hw];exact Ae (fun c=>D5 (yM.1 c))) rfl)))))))),c,rfl,by omega,fun _=>D5,cW⟩)
  (fun _ cW=>⟨_,by unfold vj;exact dR (by omega) rfl,n,rfl,Nat.le_refl _,fun c=>by omega,cW⟩) () (fun j aC=>by omega)
 exact ⟨k,e,o,R,ae⟩
structure mS (m n N:Nat) (A:Nat→Nat→Rat) (t:ck) (a0:Nat) (h:Nat→Nat):Prop where
 inv:oN m N A t
 z : ∀i,i<m→n≤t.B i→t.T i N=0
 le:a0≤m
 lt : ∀i,i<a0→h i<m
 inj : ∀i,i<a0→ ∀k,k<a0→h i=h k→i=k
 dead : ∀d,d<m→(∀i,i<a0→h i≠d)→n≤t.B d∧ ∀j,j<n→t.T d j=0
theorem mS.pW {m n N a0:Nat}{A:Nat→Nat→Rat}{t:ck}{h:Nat→Nat}(s:Small m N A)(a:mS m n N A t a0 h):nz a0 N (gp m A t) (hv h t) :=
 have f:=a.inv.pW s
 ⟨f.pos,f.hw,fun i af j aC=>f.iC (h i) (a.lt i af) j aC,fun i af=>f.gw (h i) (a.lt i af)⟩
theorem mS.uk {m n N a0:Nat}{A:Nat→Nat→Rat}{t:ck}{h:Nat→Nat}(s:Small m N A)(a:mS m n N A t a0 h){r k:Nat}(an:r<a0)(aU:k<N)(ak:t.T (h r) k≠0):r8 a0 N (gp m A t) (hv h t) r k :=
 have f:=a.inv.uk s (a.lt r an) aU ak
 ⟨an,aU,ak,fun i af j aC=>by
  rw [(yN (t:=t) (k:=k) (a.inj i af r an)).1 j]
  exact f.xz (h i) (a.lt i af) j aC⟩
theorem mS.cJ {m n N a0:Nat}{A:Nat→Nat→Rat}{t:ck}{h:Nat→Nat}(J6:n≤N)(a:mS m n N A t a0 h){r k:Nat}(an:r<a0)(aU:k<n)(aM:n≤t.B (h r))(ak:t.T (h r) k≠0):mS m n N A (t.cJ (h r) k) a0 h:=by
 have cd:=a.z (h r) (a.lt r an) aM
 have fl : ∀i,(t.cJ (h r) k).T i N=t.T i N:=fun i=>by
  simp only [ck.cJ]
  split
  ·rename_i e;rw [e,cd];grind
  ·rw [cd];grind
 refine ⟨⟨a.inv.ok.cJ (a.lt r an) (by omega) ak,fun i af=>by rw [fl];exact a.inv.k2 i af,?_⟩,fun i af gw=> ?_,a.le,a.lt,a.inj,fun d ba gu=> ?_⟩
 ·rw [a.inv.ok.zl (a.lt r an) (by omega)]
  have:=a.inv.uY
  grind
 ·rw [fl]
  simp only [ck.cJ] at gw
  by_cases c:i=h r
  ·rw [if_pos c] at gw;omega
  ·rw [if_neg c] at gw;exact a.z i af gw
 ·obtain ⟨o,R⟩:=a.dead d ba gu
  have cF:d≠h r:=fun e=>gu r an e.symm
  simp only [ck.cJ,if_neg cF]
  refine ⟨o,fun j aC=> ?_⟩
  rw [R j aC,R k aU];grind
theorem Vf {m n N:Nat}{A:Nat→Nat→Rat}(s:Small m N A)(fO:N<1000)(J6:n≤N)(free:List Bool){t:ck}(ch:oN m N A t)(cd:∀i,i<m→n≤t.B i→t.T i N=0){dC:List (List a5)}(fF:jN m N m (fun i=>i) (gp m A t) t dC):
 ∃dc a0 h iJ,xW (n:Int) (bK (gp m A t)).cU (bK (gp m A t)).cy (N:Int) (fV m N fun i=>i) dC (d1 m t) free=some ((bK (gp m A dc)).cU,(bK (gp m A dc)).cy,fV a0 N h,iJ,d1 a0 (hv h dc)) ∧
  mS m n N A dc a0 h∧(∀i,i<a0→dc.B (h i)<n)∧jN a0 N m h (gp m A dc) (hv h dc) iJ:=by
 have hm:=s.hm
 unfold xW Fa
 obtain ⟨x,e,dc,a0,h,iJ,rfl,o,R,ae⟩:=jJ (f:=fun w:Int×Bool×(List Int)×(List bZ)×(List (List a5))×(List Int)=>xO (n:Int) (N:Int) free w.1 w.2.1 w.2.2.1 w.2.2.2.1 w.2.2.2.2.1 w.2.2.2.2.2)
  (fun w=> ∃(i a0:Nat) (h:Nat→Nat) (t:ck) (p:List (List a5)),w=((i:Int),(bK (gp m A t)).cU,(bK (gp m A t)).cy,fV a0 N h,p,d1 a0 (hv h t))∧i≤a0∧mS m n N A t a0 h∧(∀q,q<i→t.B (h q)<n)∧jN a0 N m h (gp m A t) (hv h t) p)
  (fun w=>w.2.2.2.1.length-w.1.toNat)
  (fun x=> ∃dc a0 h iJ,x=((bK (gp m A dc)).cU,(bK (gp m A dc)).cy,fV a0 N h,iJ,d1 a0 (hv h dc))∧mS m n N A dc a0 h∧(∀i,i<a0→dc.B (h i)<n)∧jN a0 N m h (gp m A dc) (hv h dc) iJ)
  (fun w hw=>by
    obtain ⟨i,a0,h,t,p,rfl,af,bA,a8,ak⟩:=hw
    have jP:=bA.le
    have sj:(fV a0 N h).length=a0:=dG ..
    have J7:(d1 a0 (hv h t)).length=a0:=dG ..
    simp only
    unfold xO
    by_cases c:i<a0
    ·left
     have g1:0≤(i:Int)∧(i:Int)<((d1 a0 (hv h t)).length:Nat):=by rw [J7];omega
     have g2:(d1 a0 (hv h t))[(0+((i:Int)).toNat)]? = some ((t.B (h i):Nat):Int):=by rw [Int.toNat_natCast];exact jd c
     by_cases D6:t.B (h i)<n
     ·refine ⟨(((i+1:Nat):Int),(bK (gp m A t)).cU,(bK (gp m A t)).cy,fV a0 N h,p,d1 a0 (hv h t)),dQ (by rw [sj];omega) (b2 g1 (aE g2 (dQ (by omega) (by rw [fZ (by omega)])))),⟨i+1,a0,h,t,p,rfl,by omega,bA,fun q my=> ?_,ak⟩,by simp only [sj];omega⟩
      by_cases e:q=i
      ·rw [e];exact D6
      ·exact a8 q (by omega)
     ·obtain ⟨k,ka,jV,lM,Kv⟩:=T5 fO J6 (bA.pW s) ak c (bK (gp m A t)).cU (bK (gp m A t)).cy (N:Int) (d1 a0 (hv h t)) free
      by_cases Kz:k<n
      ·have J8:t.T (h i) k≠0:=lM Kz
       obtain ⟨jl,ax,aF⟩:=N5 (by omega) fO bA.inj (bA.pW s) (bA.uk s c (by omega) J8) ak (N:Int) free
       have tl:ot (gp m A t) (hv h t) i k=gp m A (t.cJ (h i) k):=Il bA.inv.ok bA.inv.uY (bA.lt i c) (by omega) J8
       have aa1:d1 a0 ((hv h t).cJ i k)=d1 a0 (hv h (t.cJ (h i) k)):=fD fun q my=>by
        have:=(yN (t:=t) (k:=k) (bA.inj q my i c)).2
        rw [this]
       rw [tl,aa1] at ax
       rw [tl] at aF
       refine ⟨(((i+1:Nat):Int),(bK (gp m A (t.cJ (h i) k))).cU,(bK (gp m A (t.cJ (h i) k))).cy,fV a0 N h,jl,d1 a0 (hv h (t.cJ (h i) k))),dQ (by rw [sj];omega) (b2 g1 (aE g2 (dR (by omega) (aE ka (dQ (by omega) (aE ax (by rw [fZ (by omega)]))))))),⟨i+1,a0,h,t.cJ (h i) k,jl,rfl,by omega,bA.cJ J6 c Kz (by omega) J8,fun q my=> ?_,aF.len,fun q my=> ?_⟩,by simp only [sj];omega⟩
       ·simp only [ck.cJ]
        split
        ·exact Kz
        ·rename_i cF
         have:q≠i:=fun e=>cF (by rw [e])
         exact a8 q (by omega)
       ·rw [aF.row q my]
        congr 1
        exact fD fun j _=>by rw [(yN (t:=t) (k:=k) (bA.inj q my i c)).1 j]
      ·have ac1:k=n:=by omega
       have Av:U ((i:Int)+1)=((i+1:Nat):Int):=fZ (by omega)
       have JW:(((fV a0 N h).drop (0+(i+1))).take (a0-(i+1))).length=a0-(i+1):=by rw [List.length_take,List.length_drop,sj];omega
       have DG:(((d1 a0 (hv h t)).drop (0+(i+1))).take (a0-(i+1))).length=a0-(i+1):=by rw [List.length_take,List.length_drop,J7];omega
       have bN:(fV a0 N h).take (i-0)++((fV a0 N h).drop (0+(i+1))).take (a0-(i+1))=fV (a0-1) N (skip i h):=MD c _
       have dk:(d1 a0 (hv h t)).take (i-0)++((d1 a0 (hv h t)).drop (0+(i+1))).take (a0-(i+1))=d1 (a0-1) (hv (skip i h) t):=MD c _
       refine ⟨((i:Int),(bK (gp m A t)).cU,(bK (gp m A t)).cy,fV (a0-1) N (skip i h),p,d1 (a0-1) (hv (skip i h) t)),dQ (by rw [sj];omega) (b2 g1 (aE g2 (dR (by omega) (aE ka (dR (by omega) ?_))))),⟨i,a0-1,skip i h,t,p,rfl,by omega,⟨bA.inv,bA.z,by omega,fun q my=> ?_,fun q my bh w9 e=> ?_,fun d ba gu=> ?_⟩,fun q my=> ?_,ak.len,fun q my=> ?_⟩,?_⟩
       ·rw [Av,Int.toNat_natCast,Int.toNat_natCast,sj,J7,JW,DG,bN,dk]
        exact b2 (by omega) (b2 (by omega) (b2 (by omega) (b2 (by omega) (b2 (by omega) (b2 (by omega) (b2 (by omega) (b2 (by omega) (b2 (by omega) (b2 (by omega) (b2 (by omega) (b2 (by omega) rfl)))))))))))
       ·simp only [skip];split<;>exact bA.lt _ (by omega)
       ·simp only [skip] at e
        have:=bA.inj _ (by split<;>omega) _ (by split<;>omega) e
        split at this<;>split at this<;>omega
       ·by_cases QC:d=h i
        ·rw [QC]
         exact ⟨by omega,fun j aC=>Kv j (by omega)⟩
        ·refine bA.dead d ba fun q my=> ?_
         by_cases bF:q<i
         ·have:=gu q (by omega);simp only [skip] at this;rw [if_pos bF] at this;exact this
         ·by_cases cN:q=i
          ·rw [cN];exact fun e=>QC e.symm
          ·have:=gu (q-1) (by omega);simp only [skip] at this;rw [if_neg (by omega),show q-1+1=q by omega] at this;exact this
       ·simp only [skip];rw [if_pos my];exact a8 q my
       ·simp only [skip]
        by_cases bF:q<i
        ·rw [if_pos bF,ak.row q (by omega)];congr 1
         exact fD fun j _=>by simp only [hv,skip];rw [if_pos bF]
        ·rw [if_neg bF,ak.row (q+1) (by omega)];congr 1
         exact fD fun j _=>by simp only [hv,skip];rw [if_neg bF]
       ·simp only [sj,show (fV (a0-1) N (skip i h)).length=a0-1 from dG ..];omega
    ·right
     have aai:i=a0:=by omega
     subst aai
     exact ⟨_,dR (by rw [sj];omega) rfl,t,i,h,p,rfl,bA,a8,ak⟩)
  ((0:Int),(bK (gp m A t)).cU,(bK (gp m A t)).cy,fV m N (fun i=>i),dC,d1 m t)
  ⟨0,m,fun i=>i,t,dC,rfl,by omega,⟨ch,cd,Nat.le_refl _,fun i af=>af,fun i _ k _ e=>e,fun d ba gu=>(gu d ba rfl).elim⟩,fun q a8=>by omega,fF.len,fF.row⟩
 exact ⟨dc,a0,h,iJ,aE e rfl,o,R,ae⟩
theorem N6:(⟨false,([]:List Int)⟩:a5)=bK 0:=by
 show _=gr (0:Rat).num
 rw [show (0:Rat).num=0 from rfl]
 unfold gr
 rw [show L ((0:Int).natAbs:Int)=[] from sT.2 (by simp)];rfl
theorem HY {α:Type}(l:List α)(x:α):(l++[x])[l.length]? = some x:=by simp
theorem wL {α:Type}(l:List α)(x y:α):(l++[x]).set l.length y=l++[y]:=by simp
theorem N7 {p:nn}{m n:Nat}{a:Nat→Nat→Int}{b:Nat→Int}(h:oz p m n a b){i:Nat}(af:i<m):vN i p.j2 p.jh p.f8 p.f9 p.kG=some (i*n,n):=by
 have hm:=h.hm
 have a1:=h.a1
 have o:i*n≤20*40:=Nat.mul_le_mul (by omega) a1
 have R:(i+1)*n≤20*40:=Nat.mul_le_mul (by omega) a1
 have ae:(i+1)*n≤m*n:=Nat.mul_le_mul_right _ af
 have ax:U ((i:Int)*p.jh)=((i*n:Nat):Int):=by
  rw [h.gX,← Int.natCast_mul,cP (by omega) (by omega)]
 have aF:U (U ((i:Int)+1)*p.jh)=(((i+1)*n:Nat):Int):=by
  rw [h.gX,fZ (by omega),← Int.natCast_mul,cP (by omega) (by omega)]
 have ay:(i+1)*n=i*n+n:=Nat.succ_mul i n
 unfold vN
 rw [ax,aF,Int.toNat_natCast,Int.toNat_natCast,h.mI]
 refine b2 (by omega) (b2 (by omega) (b2 ⟨by omega,ae⟩ ?_))
 rw [show 0+i*n=i*n by omega,show (i+1)*n-i*n=n by omega]
end Go.Proofs.YtfdnefmiaihfcaaGreat
namespace Go.Proofs.YtfdnefmiaihfcaaGreat
set_option linter.unusedVariables false
set_option linter.unusedSimpArgs false
open Go Go.VL
theorem TL {p:nn}{m n:Nat}{a:Nat→Nat→Int}{b:Nat→Int}(h:oz p m n a b){i:Nat}(af:i<m)(aM:b i<0)(x0:Int)(eQ:Bool)(d6:List Int)(bh:List bZ)(cI:List Int)(ee:List Bool)(P:List (List a5)):
 BA x0 (i:Int) P.length (n+m+1) p.j2 (i*n) n ((n:Nat):Int) p.jh p.f8 p.f9 p.kG eQ d6 bh cI ee 0 (P++[bk (n+m+1) fun _=>bK 0])=some (P++[bk (n+m+1) fun j=>if j<n then bK (dS m n a b i j) else bK 0]):=by
 have hm:=h.hm
 have a1:=h.a1
 have bR:kV (b i) = -1:=by unfold kV;rw [if_pos aM]
 unfold BA
 obtain ⟨s1,ax,-⟩:=jb (f:=fun w:Int×List (List a5)=>vz x0 (i:Int) P.length (n+m+1) p.j2 (i*n) n ((n:Nat):Int) p.jh p.f8 p.f9 p.kG eQ d6 bh cI ee w.1 w.2)
  (fun (k:Nat) (_:Unit)=>((k:Int),P++[bk (n+m+1) fun j=>if j<k then bK (dS m n a b i j) else bK 0])) n (fun _ _=>True) (fun _=>P++[bk (n+m+1) fun j=>if j<n then bK (dS m n a b i j) else bK 0])
  (fun k aU _ _=>by
    refine ⟨(),?_,trivial⟩
    have bA:=h.xG i af k aU
    have e:U ((-1:Int)*a i k)=nd m n a b i k:=by
     rw [cP (by omega) (by omega)];unfold nd;rw [if_pos aU,bR]
    unfold vz
    refine dQ (by simp only;omega) (b2 (by simp only;omega) (aE (x:=a i k) (by simp only;rw [Int.toNat_natCast];exact h.Dq i af k aU) (aE (x:=bK (dS m n a b i k)) (by rw [e];exact rJ (by have:=zo h af k;rw [nT];omega)) (aE (HY _ _) (b2 (by simp only;omega) (aE (by simp only;rw [Int.toNat_natCast];exact jd (by omega)) ?_))))))
    simp only
    rw [fZ (by omega),Int.toNat_natCast,Nat.zero_add,lb,wL]
    congr 5
    refine fD fun j _=> ?_
    by_cases bF:j=k
    ·subst bF;rw [if_pos rfl,if_pos (by omega)]
    ·rw [if_neg bF]
     by_cases cN:j<k
     ·rw [if_pos cN,if_pos (by omega)]
     ·rw [if_neg cN,if_neg (by omega)])
  (fun _ _=>by unfold vz;exact dR (by simp) rfl) () trivial
 have e0:(bk (n+m+1) fun j=>if j<0 then bK (dS m n a b i j) else bK 0)=bk (n+m+1) fun _=>bK 0:=fD fun j _=>by rw [if_neg (by omega)]
 rw [e0] at ax
 exact ax
theorem TM {p:nn}{m n:Nat}{a:Nat→Nat→Int}{b:Nat→Int}(h:oz p m n a b){i:Nat}(af:i<m)(aM:¬b i<0)(x0:Int)(eQ:Bool)(d6:List Int)(bh:List bZ)(cI:List Int)(ee:List Bool)(P:List (List a5)):
 BB x0 (i:Int) P.length (n+m+1) p.j2 (i*n) n ((n:Nat):Int) p.jh p.f8 p.f9 p.kG eQ d6 bh cI ee 0 (P++[bk (n+m+1) fun _=>bK 0])=some (P++[bk (n+m+1) fun j=>if j<n then bK (dS m n a b i j) else bK 0]):=by
 have hm:=h.hm
 have a1:=h.a1
 have bR:kV (b i)=1:=by unfold kV;rw [if_neg aM]
 unfold BB
 obtain ⟨s1,ax,-⟩:=jb (f:=fun w:Int×List (List a5)=>vA x0 (i:Int) P.length (n+m+1) p.j2 (i*n) n ((n:Nat):Int) p.jh p.f8 p.f9 p.kG eQ d6 bh cI ee w.1 w.2)
  (fun (k:Nat) (_:Unit)=>((k:Int),P++[bk (n+m+1) fun j=>if j<k then bK (dS m n a b i j) else bK 0])) n (fun _ _=>True) (fun _=>P++[bk (n+m+1) fun j=>if j<n then bK (dS m n a b i j) else bK 0])
  (fun k aU _ _=>by
    refine ⟨(),?_,trivial⟩
    have bA:=h.xG i af k aU
    have e:U ((1:Int)*a i k)=nd m n a b i k:=by
     rw [cP (by omega) (by omega)];unfold nd;rw [if_pos aU,bR]
    unfold vA
    refine dQ (by simp only;omega) (b2 (by simp only;omega) (aE (x:=a i k) (by simp only;rw [Int.toNat_natCast];exact h.Dq i af k aU) (aE (x:=bK (dS m n a b i k)) (by rw [e];exact rJ (by have:=zo h af k;rw [nT];omega)) (aE (HY _ _) (b2 (by simp only;omega) (aE (by simp only;rw [Int.toNat_natCast];exact jd (by omega)) ?_))))))
    simp only
    rw [fZ (by omega),Int.toNat_natCast,Nat.zero_add,lb,wL]
    congr 5
    refine fD fun j _=> ?_
    by_cases bF:j=k
    ·subst bF;rw [if_pos rfl,if_pos (by omega)]
    ·rw [if_neg bF]
     by_cases cN:j<k
     ·rw [if_pos cN,if_pos (by omega)]
     ·rw [if_neg cN,if_neg (by omega)])
  (fun _ _=>by unfold vA;exact dR (by simp) rfl) () trivial
 have e0:(bk (n+m+1) fun j=>if j<0 then bK (dS m n a b i j) else bK 0)=bk (n+m+1) fun _=>bK 0:=fD fun j _=>by rw [if_neg (by omega)]
 rw [e0] at ax
 exact ax
theorem pL {α:Type}(n:Nat)(x:α):List.replicate n x=bk n fun _=>x:=by
 apply List.ext_getElem?
 intro i
 by_cases c:i<n
 ·rw [iL c];simp [c]
 ·rw [List.getElem?_eq_none_iff.2 (by simp;omega),List.getElem?_eq_none_iff.2 (by rw [dG];omega)]
theorem LR {p:nn}{m n:Nat}{a:Nat→Nat→Int}{b:Nat→Int}(h:oz p m n a b)(eQ:Bool)(d6:List Int)(ee:List Bool):
 BC ((n+m:Nat):Int) p.j2 p.jh p.f8 p.f9 p.kG eQ d6 ee 0 ([]:List bZ) ([]:List (List a5)) ([]:List Int)=some (fV m (n+m) (fun i=>i),bk m (fun i=>bk (n+m+1) fun j=>bK (dS m n a b i j)),d1 m (ol m n a b)):=by
 have hm:=h.hm
 have a1:=h.a1
 unfold BC
 obtain ⟨s,e,-⟩:=jb (f:=fun w:Int×(List bZ)×(List (List a5))×(List Int)=>vB ((n+m:Nat):Int) p.j2 p.jh p.f8 p.f9 p.kG eQ d6 ee w.1 w.2.1 w.2.2.1 w.2.2.2)
  (fun (i:Nat) (_:Unit)=>((i:Int),bk i (fun k=>(some (k,n+m+1):bZ)),bk i (fun i=>bk (n+m+1) fun j=>bK (dS m n a b i j)),bk i (fun k=>((n+k:Nat):Int)))) m (fun _ _=>True)
  (fun _=>(fV m (n+m) (fun i=>i),bk m (fun i=>bk (n+m+1) fun j=>bK (dS m n a b i j)),d1 m (ol m n a b)))
  (fun i af _ _=>by
    refine ⟨(),?_,trivial⟩
    have aM:=h.AS i af
    have iS:U (((n+m:Nat):Int)+1)=((n+m+1:Nat):Int):=fZ (by omega)
    have hw:U (p.jh+(i:Int))=((n+i:Nat):Int):=by rw [h.gX,← Int.natCast_add,cP (by omega) (by omega)]
    have Qm:(bk i (fun i=>bk (n+m+1) fun j=>bK (dS m n a b i j))).length=i:=dG ..
    have rp:nd m n a b i (n+m)=kV (b i)*b i:=by unfold nd;rw [if_neg (by omega),if_pos rfl]
    have c8:((bk (n+m+1) fun j=>if j<n then bK (dS m n a b i j) else bK 0).set (n+i) (bK ((1:Int):Rat))).set (n+m) (bK (dS m n a b i (n+m)))=bk (n+m+1) fun j=>bK (dS m n a b i j):=by
     rw [lb,lb]
     refine fD fun j aC=> ?_
     by_cases bF:j=n+m
     ·rw [if_pos bF,bF]
     ·rw [if_neg bF]
      by_cases cN:j=n+i
      ·rw [if_pos cN,cN,ua af,if_pos rfl];rfl
      ·rw [if_neg cN]
       by_cases na:j<n
       ·rw [if_pos na]
       ·rw [if_neg na]
        obtain ⟨k,rfl⟩ : ∃k,j=n+k:=⟨j-n,by omega⟩
        rw [ua (by omega),if_neg (by omega)]
    unfold vB
    rw [iS,hw,Int.toNat_natCast]
    refine dQ (by simp only;rw [h.rows];omega) (b2 (by omega) (b2 (by simp only;rw [h.Kx];omega) (aE (x:=b i) (by simp only [Int.toNat_natCast,Nat.zero_add];exact h.I0 i af) ?_)))
    have fin:(some (Sum.inl (U ((i:Int)+1),(bk i (fun k=>(some (k,n+m+1):bZ)))++[some (i,n+m+1)],(bk i (fun i=>bk (n+m+1) fun j=>bK (dS m n a b i j)))++[bk (n+m+1) fun j=>bK (dS m n a b i j)],(bk i fun k=>((n+k:Nat):Int))++[((n+i:Nat):Int)])):Option ((Int×(List bZ)×(List (List a5))×(List Int))⊕((List bZ)×(List (List a5))×(List Int)))) =
     some (Sum.inl (((i+1:Nat):Int),bk (i+1) (fun k=>(some (k,n+m+1):bZ)),bk (i+1) (fun i=>bk (n+m+1) fun j=>bK (dS m n a b i j)),bk (i+1) (fun k=>((n+k:Nat):Int)))):=by
     rw [fZ (by omega),yI i (fun k=>(some (k,n+m+1):bZ)),yI i (fun i=>bk (n+m+1) fun j=>bK (dS m n a b i j)),yI i (fun k=>((n+k:Nat):Int))]
    have aa : ∀(P:List (List a5)) (F:List a5→Option ((Int×(List bZ)×(List (List a5))×(List Int))⊕((List bZ)×(List (List a5))×(List Int)))) (x:List a5) r,F x=r→(P++[x])[P.length]? >>= F=r:=fun P F x r AG=>aE (HY P x) AG
    refine AJ (fun c=> ?_) (fun c=> ?_)
    ·have pV:b i<0:=of_decide_eq_true c
     have bR:kV (b i) = -1:=by unfold kV;rw [if_pos pV]
     refine aE (N7 h af) (aE (by rw [N6,pL];exact TL h af pV _ _ _ _ _ _ _) (aE (rJ (n:=1) (by rw [nT];omega)) (aa _ _ _ _ ?_)))
     refine b2 (by omega) (aE (x:=bK 0) (by rw [Int.toNat_natCast,jd (by omega),if_neg (by omega)]) (aE (x:=bK (dS m n a b i (n+m))) (by
      have e:U ((-1:Int)*b i)=nd m n a b i (n+m):=by rw [rp,bR,cP (by omega) (by omega)]
      rw [e];exact rJ (by have:=zo h af (n+m);rw [nT];omega)) ?_))
     rw [wL,Int.toNat_natCast,Nat.zero_add,Int.toNat_natCast,Nat.zero_add]
     refine aa _ _ _ _ (b2 (by omega) ?_)
     obtain ⟨v,aY⟩ : ∃v,((bk (n+m+1) fun j=>if j<n then bK (dS m n a b i j) else bK 0).set (n+i) (bK ((1:Int):Rat)))[n+m]? = some v:=by
      rw [lb,iL (by omega)];exact ⟨_,rfl⟩
     refine aE aY (b2 (by simp only [List.length_append,dG,List.length_cons,List.length_nil];omega) (b2 (by simp only [List.length_append,dG,List.length_cons,List.length_nil];omega) ?_))
     rw [wL]
     simp only [Int.toNat_natCast,Nat.zero_add]
     rw [c8,Qm]
     exact fin
    ·have pV : ¬b i<0:=of_decide_eq_false c
     have bR:kV (b i)=1:=by unfold kV;rw [if_neg pV]
     refine aE (N7 h af) (aE (by rw [N6,pL];exact TM h af pV _ _ _ _ _ _ _) (aE (rJ (n:=1) (by rw [nT];omega)) (aa _ _ _ _ ?_)))
     refine b2 (by omega) (aE (x:=bK 0) (by rw [Int.toNat_natCast,jd (by omega),if_neg (by omega)]) (aE (x:=bK (dS m n a b i (n+m))) (by
      have e:U ((1:Int)*b i)=nd m n a b i (n+m):=by rw [rp,bR,cP (by omega) (by omega)]
      rw [e];exact rJ (by have:=zo h af (n+m);rw [nT];omega)) ?_))
     rw [wL,Int.toNat_natCast,Nat.zero_add,Int.toNat_natCast,Nat.zero_add]
     refine aa _ _ _ _ (b2 (by omega) ?_)
     obtain ⟨v,aY⟩ : ∃v,((bk (n+m+1) fun j=>if j<n then bK (dS m n a b i j) else bK 0).set (n+i) (bK ((1:Int):Rat)))[n+m]? = some v:=by
      rw [lb,iL (by omega)];exact ⟨_,rfl⟩
     refine aE aY (b2 (by simp only [List.length_append,dG,List.length_cons,List.length_nil];omega) (b2 (by simp only [List.length_append,dG,List.length_cons,List.length_nil];omega) ?_))
     rw [wL]
     simp only [Int.toNat_natCast,Nat.zero_add]
     rw [c8,Qm]
     exact fin)
  (fun _ _=>by unfold vB;exact dR (by simp only;rw [h.rows];omega) rfl) () trivial
 exact e
def py (n j:Nat):Int:=if n≤j then -1 else 0
theorem OE {m n j:Nat}(aC:j<n+m):((py n j:Int):Rat)=ht m n j:=by
 unfold py ht
 by_cases c:n≤j
 ·rw [if_pos c,if_pos ⟨c,aC⟩];rfl
 ·rw [if_neg c,if_neg (by omega)];rfl
theorem N8 {m n:Nat}{t:ck}(gw:∀i,i<m→t.B i<n+m){j:Nat}(aC:j<n+m):t.c9 m (fun j=>((py n j:Int):Rat)) j=t.c9 m (ht m n) j:=by
 unfold ck.c9
 simp only
 rw [OE aC,fv (g:=fun i=>ht m n (t.B i)*t.T i j) fun i af=>by rw [OE (gw i af)]]
theorem Mb {p:nn}{m n:Nat}{a:Nat→Nat→Int}{b:Nat→Int}(h:oz p m n a b)(x0:Int)(eQ:Bool)(d6:List Int)(bh:List bZ)(cf:List (List a5))(cI:List Int):
 BD x0 ((n+m:Nat):Int) p.j2 p.jh p.f8 p.f9 p.kG eQ d6 bh cf cI 0 (bk (n+m) fun _=>(0:Int)) (bk (n+m) fun _=>false)=some (bk (n+m) (py n),bk (n+m) fun j=>decide (j<n)):=by
 have hm:=h.hm
 have a1:=h.a1
 unfold BD
 obtain ⟨s,e,-⟩:=jb (f:=fun w:Int×List Int×List Bool=>vC x0 ((n+m:Nat):Int) p.j2 p.jh p.f8 p.f9 p.kG eQ d6 bh cf cI w.1 w.2.1 w.2.2)
  (fun (k:Nat) (_:Unit)=>((k:Int),(bk (n+m) fun j=>if j<k then py n j else 0),bk (n+m) fun j=>if j<k then decide (j<n) else false)) (n+m) (fun _ _=>True) (fun _=>(bk (n+m) (py n),bk (n+m) fun j=>decide (j<n)))
  (fun k aU _ _=>by
    refine ⟨(),?_,trivial⟩
    have aF:(bk (n+m) fun j=>if j<k then decide (j<n) else false).set (0+((k:Int)).toNat) (decide (k<n))=bk (n+m) fun j=>if j<k+1 then decide (j<n) else false:=by
     rw [Int.toNat_natCast,Nat.zero_add,lb]
     refine fD fun j _=> ?_
     by_cases c:j=k
     ·subst c;rw [if_pos rfl,if_pos (by omega)]
     ·rw [if_neg c]
      by_cases cN:j<k
      ·rw [if_pos cN,if_pos (by omega)]
      ·rw [if_neg cN,if_neg (by omega)]
    have KA:decide ((k:Int)<p.jh)=decide (k<n):=by rw [h.gX];simp
    unfold vC
    simp only
    rw [KA,aF,fZ (by omega)]
    refine dQ (by omega) (b2 (by rw [dG];omega) (b2 (by rw [dG,Int.toNat_natCast];omega) ?_))
    by_cases c:n≤k
    ·refine dQ (by rw [h.gX];omega) (b2 (by rw [dG];omega) (b2 (by rw [dG,Int.toNat_natCast];omega) ?_))
     rw [Int.toNat_natCast,Nat.zero_add,lb]
     congr 4
     refine fD fun j _=> ?_
     by_cases bF:j=k
     ·subst bF;rw [if_pos rfl,if_pos (by omega)];unfold py;rw [if_pos c]
     ·rw [if_neg bF]
      by_cases cN:j<k
      ·rw [if_pos cN,if_pos (by omega)]
      ·rw [if_neg cN,if_neg (by omega)]
    ·refine dR (by rw [h.gX];omega) ?_
     congr 4
     refine fD fun j _=> ?_
     by_cases bF:j=k
     ·subst bF;rw [if_neg (by omega),if_pos (by omega)];unfold py;rw [if_neg c]
     ·by_cases cN:j<k
      ·rw [if_pos cN,if_pos (by omega)]
      ·rw [if_neg cN,if_neg (by omega)])
  (fun _ _=>by
    unfold vC
    refine dR (by simp) ?_
    simp only
    congr 3
    ·exact fD fun j aC=>by rw [if_pos aC]
    ·exact fD fun j aC=>by rw [if_pos aC]) () trivial
 have oD:(bk (n+m) fun j=>if j<0 then py n j else 0)=bk (n+m) fun _=>(0:Int):=fD fun j _=>by rw [if_neg (by omega)]
 have tm:(bk (n+m) fun j=>if j<0 then decide (j<n) else false)=bk (n+m) fun _=>false:=fD fun j _=>by rw [if_neg (by omega)]
 rw [oD,tm] at e
 exact e
theorem TN {p:nn}{m n:Nat}{a:Nat→Nat→Int}{b:Nat→Int}(h:oz p m n a b){w:Rat}{t:ck}(f:nz m (n+m) w t){dC:List (List a5)}(fF:jN m (n+m) m (fun i=>i) w t dC)(eQ:Bool)(d6:List Int)(x0:Int)(q:List Bool):
 ∃r,BE ((n+m:Nat):Int) ((m:Nat):Int) p.j2 p.jh p.f8 p.f9 p.kG eQ d6 x0 (d1 m t) (fV m (n+m) fun i=>i) dC q 0=some r∧((r = .inr ()∧ ∃i,i<m∧n≤t.B i∧0<t.T i (n+m))∨(r = .inl ()∧ ∀i,i<m→n≤t.B i→ ¬0<t.T i (n+m))):=by
 have hm:=h.hm
 have a1:=h.a1
 have hw:=f.pos
 unfold BE
 exact pG (f:=fun w:Int=>vD ((n+m:Nat):Int) ((m:Nat):Int) p.j2 p.jh p.f8 p.f9 p.kG eQ d6 x0 (d1 m t) (fV m (n+m) fun i=>i) dC q w) (fun (i:Nat) (_:Unit)=>(i:Int)) m (fun k _=> ∀i,i<k→n≤t.B i→ ¬0<t.T i (n+m)) _
  (fun i af _ cW=>by
    have bR:=sK ((f.iC i af (n+m) (Nat.le_refl _)).mono (r7 (by have:=pP;generalize eF=q at *;omega)))
    have g1:0≤(i:Int)∧(i:Int)<((d1 m t).length:Nat):=by unfold d1;rw [dG];omega
    have g2:(d1 m t)[(0+((i:Int)).toNat)]? = some ((t.B i:Nat):Int):=by rw [Int.toNat_natCast];exact jd af
    have g3:0≤(i:Int)∧(i:Int)<((fV m (n+m) fun i=>i).length:Nat):=by unfold fV;rw [dG];omega
    have g4:(fV m (n+m) fun i=>i)[(0+((i:Int)).toNat)]? = some (some (i,n+m+1)):=by rw [Int.toNat_natCast];exact jd af
    unfold vD
    by_cases D6:n≤t.B i
    ·by_cases js:0<t.T i (n+m)
     ·right
      exact ⟨_,dQ (by omega) (b2 g1 (aE g2 (dQ (by rw [h.gX];omega) (b2 g3 (aE g4 (aE (x:=(i,n+m+1)) rfl (aE (fF.row i af) (b2 (by simp only;omega) (aE (x:=bK (t.T i (n+m)*w)) (by rw [Int.toNat_natCast];exact jd (by omega)) (aE bR (dQ (by rw [wK hw];exact sJ.2 js) rfl))))))))))),.inl ⟨rfl,i,af,D6,js⟩⟩
     ·left
      refine ⟨(),dQ (by omega) (b2 g1 (aE g2 (dQ (by rw [h.gX];omega) (b2 g3 (aE g4 (aE (x:=(i,n+m+1)) rfl (aE (fF.row i af) (b2 (by simp only;omega) (aE (x:=bK (t.T i (n+m)*w)) (by rw [Int.toNat_natCast];exact jd (by omega)) (aE bR (dR (by rw [wK hw];exact fun c=>js (sJ.1 c)) (by rw [fZ (by omega)])))))))))))),fun k aU=> ?_⟩
      by_cases e:k=i
      ·rw [e];exact fun _=>js
      ·exact cW k (by omega)
    ·left
     refine ⟨(),dQ (by omega) (b2 g1 (aE g2 (dR (by rw [h.gX];omega) (by rw [fZ (by omega)])))),fun k aU=> ?_⟩
     by_cases e:k=i
     ·rw [e];exact fun c=>(D6 c).elim
     ·exact cW k (by omega))
  (fun _ cW=>⟨_,by unfold vD;exact dR (by omega) rfl,.inr ⟨rfl,cW⟩⟩) () (fun k aU=>by omega)
theorem TO {p:nn}{m n:Nat}{a:Nat→Nat→Int}{b:Nat→Int}(h:oz p m n a b)(F:Nat→Bool)(eQ:Bool)(d6:List Int)(x0:Int)(bh:List bZ)(cf:List (List a5))(cI:List Int):
 BF ((n+m:Nat):Int) p.j2 p.jh p.f8 p.f9 p.kG eQ d6 x0 bh cf cI 0 (bk (n+m) F)=some (bk (n+m) fun j=>decide (j<n)):=by
 have hm:=h.hm
 have a1:=h.a1
 unfold BF
 obtain ⟨s,e,-⟩:=jb (f:=fun w:Int×List Bool=>vE ((n+m:Nat):Int) p.j2 p.jh p.f8 p.f9 p.kG eQ d6 x0 bh cf cI w.1 w.2)
  (fun (k:Nat) (_:Unit)=>((k:Int),bk (n+m) fun j=>if j<k then decide (j<n) else F j)) (n+m) (fun _ _=>True) (fun _=>bk (n+m) fun j=>decide (j<n))
  (fun k aU _ _=>by
    refine ⟨(),?_,trivial⟩
    have KA:decide ((k:Int)<p.jh)=decide (k<n):=by rw [h.gX];simp
    unfold vE
    simp only
    rw [KA,fZ (by omega)]
    refine dQ (by omega) (b2 (by rw [dG];omega) (b2 (by rw [dG,Int.toNat_natCast];omega) ?_))
    rw [Int.toNat_natCast,Nat.zero_add,lb]
    congr 3
    refine fD fun j _=> ?_
    by_cases c:j=k
    ·subst c;rw [if_pos rfl,if_pos (by omega)]
    ·rw [if_neg c]
     by_cases cN:j<k
     ·rw [if_pos cN,if_pos (by omega)]
     ·rw [if_neg cN,if_neg (by omega)])
  (fun _ _=>by
    unfold vE
    refine dR (by simp) ?_
    simp only
    congr 2
    exact fD fun j aC=>by rw [if_pos aC]) () trivial
 have oD:(bk (n+m) fun j=>if j<0 then decide (j<n) else F j)=bk (n+m) F:=fD fun j _=>by rw [if_neg (by omega)]
 rw [oD] at e
 exact e
theorem Qn {m n:Nat}{a:Nat→Nat→Int}{b:Nat→Int}:gp m (dS m n a b) (ol m n a b)=1:=by
 unfold gp;rw [Oz,if_pos (by grind)]
theorem Ny {p:nn}{m n:Nat}{a:Nat→Nat→Int}{b:Nat→Int}(h:oz p m n a b):
 ∃r,wb p.j2 p.jh p.f8 p.f9 p.kG=some r∧((oL m n a b∧ ∃t a0 g dC,r = .inl ((bK (gp m (dS m n a b) t)).cU,(bK (gp m (dS m n a b) t)).cy,((n+m:Nat):Int),fV a0 (n+m) g,d1 a0 (hv g t),bk (n+m) (fun j=>decide (j<n)),dC) ∧
  mS m n (n+m) (dS m n a b) t a0 g∧(∀i,i<a0→t.B (g i)<n)∧jN a0 (n+m) m g (gp m (dS m n a b) t) (hv g t) dC)∨(¬oL m n a b∧r = .inr ())):=by
 have hm:=h.hm
 have a1:=h.a1
 have ml:=M2 h
 have fO:U (p.jh+p.j2)=((n+m:Nat):Int):=by rw [h.gX,h.rows,← Int.natCast_add,cP (by omega) (by omega)]
 have aaj:jN m (n+m) m (fun i=>i) (gp m (dS m n a b) (ol m n a b)) (ol m n a b) (bk m (fun i=>bk (n+m+1) fun j=>bK (dS m n a b i j))):=⟨dG ..,fun i af=>by
  rw [iL af,Qn]
  congr 1
  exact fD fun j _=>by
   show bK (dS m n a b i j)=bK (dS m n a b i j*1)
   congr 1;grind⟩
 obtain ⟨q,bx,t,dC,jQ,e,⟨cW,rfl⟩,fF,dJ⟩:=Ma (dM:=m) (m:=m) (N:=n+m) (M:=m) (A:=dS m n a b) hm (by omega) (h:=fun i=>i) (fun i _ k _ e=>e) (py n) (fun j _=>by unfold py;split<;>omega) (fun j=>decide (j<n))
  (fun w t=>oN m (n+m) (dS m n a b) t∧w=gp m (dS m n a b) t) (fun w t cW=>⟨cW.1.ok,cW.1.k2,cW.2▸cW.1.pW ml⟩)
  (fun w t r s cW b=>by
    obtain ⟨o,rfl⟩:=cW
    have ak:t.T r s≠0:=by have:=b.pos;grind
    exact ⟨o.uk ml b.an b.bR ak,o.gk b,Il o.ok o.uY b.an b.bR ak⟩)
  (w:=gp m (dS m n a b) (ol m n a b)) (t:=ol m n a b) ⟨⟨Wy,UR,VS⟩,rfl⟩ aaj
 rw [Qn] at e
 have I1 : ∀j,j<n→t.c9 m (ht m n) j≤0:=by
  rcases dJ with ⟨-,dJ,-⟩|⟨-,s,bR,-,dt,gu⟩
  ·intro j aC
   have:=dJ j (by omega) (by simpa using aC)
   rw [N8 cW.ok.jC (by omega)] at this
   grind
  ·rw [N8 cW.ok.jC bR] at dt
   obtain ⟨i,af,ak⟩:=TH cW.ok bR dt
   exact (gu i af ak).elim
 have ax:nj 1=some (bK 1):=by
  have:=rJ (n:=1) (by rw [nT];omega)
  rw [show ((1:Int):Rat)=1 from rfl] at this
  exact this
 obtain ⟨r,ad,b3⟩:=TN h (cW.pW ml) fF (bK (gp m (dS m n a b) t)).cU (bK (gp m (dS m n a b) t)).cy ((n+m:Nat):Int) (bk (n+m) jQ)
 unfold wb
 rw [fO]
 rcases b3 with ⟨rfl,i,af,gw,iC⟩|⟨rfl,gu⟩
 ·have zR : ¬oL m n a b:=fun bR=>by
   have:=T2 cW.k2 (Uo cW.ok cW.k2 I1 bR) cW.ok.jC i af gw
   grind
  refine ⟨_,aE ax (b2 (by omega) (aE (LR h _ _ _) (b2 (by omega) (aE (x:=(bk (n+m) (py n),bk (n+m) fun j=>decide (j<n))) (by rw [Int.toNat_natCast,pL,pL];exact Mb h _ _ _ _ _ _) (aE e ?_))))),.inr ⟨zR,rfl⟩⟩
  refine aE (x:= .inr ()) ?_ rfl
  simp only
  rw [show ((d1 m t).length:Nat)=m from dG ..]
  exact ad
 ·have cd : ∀i,i<m→n≤t.B i→t.T i (n+m)=0:=fun i af gw=>by
   have o:=gu i af gw
   have R:=cW.k2 i af
   grind
  have bR:oL m n a b:=T1 cW.ok cW.k2 cd
  obtain ⟨dc,a0,g,iJ,me,oW,D2,iR⟩:=Vf (n:=n) ml (by omega) (by omega) (bk (n+m) fun j=>decide (j<n)) cW cd fF
  refine ⟨_,aE ax (b2 (by omega) (aE (LR h _ _ _) (b2 (by omega) (aE (x:=(bk (n+m) (py n),bk (n+m) fun j=>decide (j<n))) (by rw [Int.toNat_natCast,pL,pL];exact Mb h _ _ _ _ _ _) (aE e ?_))))),.inl ⟨bR,dc,a0,g,iJ,rfl,oW,D2,iR⟩⟩
  refine aE (x:= .inl ()) ?_ ?_
  ·simp only
   rw [show ((d1 m t).length:Nat)=m from dG ..]
   exact ad
  ·simp only
   rw [show ((bk (n+m) jQ).length:Nat)=n+m from dG ..]
   refine aE (TO h jQ _ _ _ _ _ _) ?_
   rw [h.gX]
   exact aE me rfl
structure oA (m:Nat) (u v:ck):Prop where
 T : ∀i,i<m→ ∀j,u.T i j=v.T i j
 B : ∀i,i<m→u.B i=v.B i
theorem oA.pW {m N:Nat}{w:Rat}{u v:ck}(s:oA m u v)(h:nz m N w v):nz m N w u :=
 ⟨h.pos,h.hw,fun i af j aC=>by rw [s.T i af];exact h.iC i af j aC,fun i af=>by rw [s.B i af];exact h.gw i af⟩
theorem oA.cJ {m:Nat}{u v:ck}(s:oA m u v){r:Nat}(an:r<m)(k:Nat):oA m (u.cJ r k) (v.cJ r k) where
 T:=fun i af j=>by simp only [ck.cJ,s.T i af,s.T r an]
 B:=fun i af=>by simp only [ck.cJ,s.B i af]
theorem oA.uk {m N:Nat}{w:Rat}{u v:ck}(s:oA m u v){r k:Nat}(h:r8 m N w v r k):r8 m N w u r k :=
 ⟨h.an,h.aU,by rw [s.T r h.an];exact h.ak,fun i af j aC=>by rw [(s.cJ h.an k).T i af,s.T r h.an];exact h.xz i af j aC⟩
theorem oA.trans {m:Nat}{u v t:ck}(a:oA m u v)(b:oA m v t):oA m u t:=⟨fun i af j=>(a.T i af j).trans (b.T i af j),fun i af=>(a.B i af).trans (b.B i af)⟩
theorem WG {a0:Nat}{g:Nat→Nat}(inj:∀i,i<a0→ ∀k,k<a0→g i=g k→i=k)(t:ck){r:Nat}(an:r<a0)(k:Nat):oA a0 ((hv g t).cJ r k) (hv g (t.cJ (g r) k)) :=
 ⟨fun i af j=>(yN (t:=t) (k:=k) (inj i af r an)).1 j,fun i af=>(yN (t:=t) (k:=k) (inj i af r an)).2⟩
theorem OG {m n:Nat}{a:Nat→Nat→Int}{b:Nat→Int}{x:Nat→Rat}{c:Nat}:cn n (fun j=>dS m n a b c j*x j)=((kV (b c):Int):Rat)*cn n (fun j=>(a c j:Rat)*x j):=by
 rw [← hY]
 exact fv fun j aC=>by rw [Ie aC];grind
theorem mS.Xs {m n:Nat}{a:Nat→Nat→Int}{b:Nat→Int}{t:ck}{a0:Nat}{g:Nat→Nat}(h:mS m n (n+m) (dS m n a b) t a0 g)(gw:∀i,i<a0→t.B (g i)<n):LT m n a b a0 (n+m) (hv g t) where
 eqv:=fun x=>by
  have key:(∀i,i<m→cn n (fun j=>(a i j:Rat)*x j)=(b i:Rat))↔ ∀i,i<m→cn n (fun j=>dS m n a b i j*x j)=dS m n a b i (n+m):=by
   constructor
   ·intro aa i af;rw [OG,CZ,aa i af]
   ·intro aa i af
    have:=aa i af
    rw [OG,CZ] at this
    have h0:=Oy (b i)
    have e:((kV (b i):Int):Rat)*(cn n (fun j=>(a i j:Rat)*x j)-(b i:Rat))=0:=by grind
    rcases Rat.mul_eq_zero.1 e with e|e
    ·exact (h0 e).elim
    ·grind
  rw [key]
  constructor
  ·intro aa i af
   obtain ⟨W,hW⟩:=h.inv.ok.row
   show cn n (fun j=>t.T (g i) j*x j)=t.T (g i) (n+m)
   rw [hW (g i) (h.lt i af) (n+m) (Nat.le_refl _),fv (g:=fun j=>cn m (fun c=>W (g i) c*(dS m n a b c j*x j))) (fun j aC=>by
    rw [hW (g i) (h.lt i af) j (by omega),← yy];exact fv fun c _=>by grind),o3]
   exact fv fun c aP=>by rw [hY,aa c aP]
  ·intro aa c aP
   have row : ∀i,i<m→cn n (fun j=>t.T i j*x j)=t.T i (n+m):=fun i af=>by
    by_cases bL : ∃q,q<a0∧g q=i
    ·obtain ⟨q,a8,rfl⟩:=bL
     exact aa q a8
    ·obtain ⟨ss,qd⟩:=h.dead i af fun q a8 e=>bL ⟨q,a8,e⟩
     rw [h.z i af ss]
     exact nQ fun j aC=>by rw [qd j aC];grind
   rw [h.inv.ok.p6 c aP (n+m) (Nat.le_refl _),fv (g:=fun j=>cn m (fun i=>dS m n a b c (t.B i)*(t.T i j*x j))) (fun j aC=>by
    rw [h.inv.ok.p6 c aP j (by omega),← yy];exact fv fun i _=>by grind),o3]
   exact fv fun i af=>by rw [hY,row i af]
 unit:=fun i af k aU=>by
  show t.T (g i) (t.B (g k))=_
  rw [h.inv.ok.unit _ (h.lt i af) _ (h.lt k aU)]
  by_cases c:i=k
  ·rw [if_pos c,if_pos (by rw [c])]
  ·rw [if_neg c,if_neg fun e=>c (h.inj i af k aU e)]
 jC:=gw
 k2:=fun i af=>h.inv.k2 _ (h.lt i af)
 Kq:=by omega
theorem mS.step {m n:Nat}{a:Nat→Nat→Int}{b:Nat→Int}{t:ck}{a0:Nat}{g:Nat→Nat}{K:Nat}{obj:Nat→Nat→Rat}{bL:Nat→Prop}(h:mS m n (n+m) (dS m n a b) t a0 g)(gw:∀i,i<a0→t.B (g i)<n){u:ck}(bR:oA a0 u (hv g t)){r s:Nat}(cM:oI a0 (n+m) K obj bL u r s)(uA:s<n):
 mS m n (n+m) (dS m n a b) (t.cJ (g r) s) a0 g∧(∀i,i<a0→(t.cJ (g r) s).B (g i)<n)∧oA a0 (u.cJ r s) (hv g (t.cJ (g r) s)):=by
 have an:=cM.an
 have ak:0<t.T (g r) s:=by have:=cM.pos;rw [bR.T r an] at this;exact this
 have Ap:t.T (g r) s≠0:=by grind
 have Pt:=(bR.cJ an s).trans (WG h.inj t an s)
 have D7 : ∀d,d<m→(∀i,i<a0→g i≠d)→ ∀j,(t.cJ (g r) s).T d j=t.T d j∧(t.cJ (g r) s).B d=t.B d:=fun d ba gu j=>by
  obtain ⟨ss,qd⟩:=h.dead d ba gu
  simp only [ck.cJ]
  rw [if_neg fun e=>gu r an e.symm,if_neg fun e=>gu r an e.symm,qd s uA]
  exact ⟨by grind,rfl⟩
 have pY : ∀i,i<a0→(t.cJ (g r) s).B (g i)<n:=fun i af=>by
  simp only [ck.cJ]
  split
  ·exact uA
  ·exact gw i af
 have aak:(u.cJ r s).kh a0 (n+m):=cM.zK fun i af=>by rw [bR.T i af];exact h.inv.k2 _ (h.lt i af)
 refine ⟨⟨⟨h.inv.ok.cJ (h.lt r an) (by omega) Ap,fun i af=> ?_,?_⟩,fun i af a1=> ?_,h.le,h.lt,h.inj,fun d ba gu=> ?_⟩,pY,Pt⟩
 ·by_cases bL : ∃q,q<a0∧g q=i
  ·obtain ⟨q,a8,rfl⟩:=bL
   have:=aak q a8
   rw [Pt.T q a8] at this;exact this
  ·rw [(D7 i af (fun q a8 e=>bL ⟨q,a8,e⟩) _).1];exact h.inv.k2 i af
 ·rw [h.inv.ok.zl (h.lt r an) (by omega)]
  have:=h.inv.uY
  grind
 ·by_cases bL : ∃q,q<a0∧g q=i
  ·obtain ⟨q,a8,rfl⟩:=bL
   have:=pY q a8;omega
  ·have gu : ∀q,q<a0→g q≠i:=fun q a8 e=>bL ⟨q,a8,e⟩
   obtain ⟨ax,aF⟩:=D7 i af gu (n+m)
   rw [ax]
   rw [aF] at a1
   exact h.z i af a1
 ·obtain ⟨ss,qd⟩:=h.dead d ba gu
  refine ⟨by rw [(D7 d ba gu 0).2];exact ss,fun j aC=>by rw [(D7 d ba gu j).1];exact qd j aC⟩
structure ps (m n:Nat) (a:Nat→Nat→Int) (b:Nat→Int) (a0:Nat) (g:Nat→Nat) (hU:Nat→Nat→Rat) (c5:Nat→Bool) (w:Rat) (u:ck):Prop where
 bL : ∃t,mS m n (n+m) (dS m n a b) t a0 g∧(∀i,i<a0→t.B (g i)<n)∧oA a0 u (hv g t)∧w=gp m (dS m n a b) t
 lt:LT m n a b a0 (n+m) u
 ok:fH a0 a0 (n+m) hU u
 KB : ∀i,i<a0→c5 (u.B i)=true
theorem ps.pW {m n:Nat}{a:Nat→Nat→Int}{b:Nat→Int}{a0:Nat}{g:Nat→Nat}{hU:Nat→Nat→Rat}{c5:Nat→Bool}{w:Rat}{u:ck}(ml:Small m (n+m) (dS m n a b))(h:ps m n a b a0 g hU c5 w u):nz a0 (n+m) w u:=by
 obtain ⟨t,o,R,ae,rfl⟩:=h.bL
 exact ae.pW (o.pW ml)
theorem ps.gk {m n:Nat}{a:Nat→Nat→Int}{b:Nat→Int}{a0:Nat}{g:Nat→Nat}{hU:Nat→Nat→Rat}{c5 jQ:Nat→Bool}{w:Rat}{u:ck}{obj:Nat→Nat→Rat}{K:Nat}(ml:Small m (n+m) (dS m n a b))(h:ps m n a b a0 g hU jQ w u)(oR:∀j,j<n+m→c5 j=true→j<n)(aal:∀j,c5 j=true→jQ j=true){r s:Nat}(cM:oI a0 (n+m) K obj (fun j=>c5 j=true) u r s):
 r8 a0 (n+m) w u r s∧ps m n a b a0 g hU jQ (ot w u r s) (u.cJ r s):=by
 obtain ⟨t,o,R,ae,ay⟩:=h.bL
 have uA:=oR s cM.bR cM.DF
 obtain ⟨g1,g2,g3⟩:=o.step R ae cM uA
 have ak:=cM.pos
 have Qo:t.T (g r) s≠0:=by rw [ae.T r cM.an] at ak;show t.T (g r) s≠0;have:0<t.T (g r) s:=ak;grind
 refine ⟨ay▸ae.uk (o.uk ml cM.an (by omega) Qo),⟨t.cJ (g r) s,g1,g2,g3,?_⟩,h.lt.cJ cM.an uA (by grind) (cM.zK h.lt.k2),cM.ok h.ok,fun i af=> ?_⟩
 ·rw [← Il o.inv.ok o.inv.uY (o.lt r cM.an) (show s<n+m by omega) Qo,ay]
  unfold ot
  rw [ae.T r cM.an];rfl
 ·simp only [ck.cJ]
  split
  ·exact aal s cM.DF
  ·exact h.KB i af
theorem Nz {m n:Nat}{a:Nat→Nat→Int}{b:Nat→Int}{a0:Nat}{g:Nat→Nat}(hm:m≤20)(a1:n≤40)(ml:Small m (n+m) (dS m n a b)){hU:Nat→Nat→Rat}{c5:Nat→Bool}{w:Rat}{u:ck}(h:ps m n a b a0 g hU c5 w u)(oR:∀j,j<n+m→c5 j=true→j<n)(inj:∀i,i<a0→ ∀k,k<a0→g i=g k→i=k)(jP:a0≤m)
 (I:Nat→Int) (aj : ∀j,-100≤I j∧I j≤100) {c:Nat→Rat} {l:Nat} {V:Nat→Rat} (aam : ∀j,((I j:Int):Rat)=hl c l j) (s:ov m n a b c l c5 V) {dC:List (List a5)} (fF:jN a0 (n+m) m g w u dC) :
 ∃ok bx kb iJ jQ,rv (bK w).cU (bK w).cy ((n+m:Nat):Int) (fV a0 (n+m) g) dC (d1 a0 u) (bk (n+m) c5) (bk (n+m) I)=some (ok,(bK bx).cU,(bK bx).cy,iJ,d1 a0 kb,bk (n+m) jQ)∧jN a0 (n+m) m g bx kb iJ ∧
  ((ok=true∧ps m n a b a0 g hU jQ bx kb∧(∀j,j<n+m→jQ j=true→j<n)∧ ∃AL,ov m n a b c (l+1) jQ AL)∨(ok=false∧LT m n a b a0 (n+m) kb∧ ∃q,q<n∧0<kb.c9 a0 (hl c l) q∧ ∀i,i<a0→ ¬0<kb.T i q)):=by
 have aan:(fun j=>((I j:Int):Rat))=hl c l:=funext aam
 obtain ⟨ok,bx,kb,iJ,jQ,e,cW,Ay,dJ⟩:=Ma (dM:=a0) (m:=a0) (N:=n+m) (M:=m) (A:=hU) (h:=g) (by omega) (by omega) inj I (fun j _=>aj j) c5
  (fun w u=>ps m n a b a0 g hU c5 w u) (fun w u dd=>⟨dd.ok,dd.lt.k2,dd.pW ml⟩)
  (fun w u r q dd cM=>dd.gk ml oR (fun j aC=>aC) cM) h fF
 rw [aan] at dJ
 refine ⟨ok,bx,kb,iJ,jQ,e,Ay,?_⟩
 rcases dJ with ⟨o,R,ae⟩|⟨o,q,R,b7,ae,ay⟩
 ·left
  have I2 : ∀j,jQ j=true→c5 j=true:=fun j aC=>by rw [ae,Bool.and_eq_true] at aC;exact aC.1
  refine ⟨o,⟨cW.bL,cW.lt,cW.ok,fun i af=> ?_⟩,fun j aC rh=>oR j aC (I2 j rh),ov.next cW.lt s (fun j aC b7=>R j (by omega) b7) (fun j aC=>by rw [ae])⟩
  rw [ae]
  simp only
  rw [cW.KB i af,cW.lt.wi _ af,decide_eq_false (by grind)];rfl
 ·right
  exact ⟨o,cW.lt,q,oR q R b7,ae,ay⟩
def gI (x:Rat):Option c3:=some (jU (gn x))
theorem Xt {n d:Int}{x:Rat}(ba:0<d)(e:(d:Rat)*x=n):(n / (Int.gcd n d:Int),d / (Int.gcd n d:Int))=gn x:=by
 have r9:(d:Rat)≠0:=fun c=>by
  have:d=0:=Rat.intCast_inj.1 (by rw [c];rfl)
  omega
 have aa:x=Rat.divInt n d:=by rw [Rat.divInt_eq_div,← e];grind
 have ax:(Rat.divInt n d).num=n / (Int.gcd n d:Int):=by rw [Rat.num_divInt,Int.sign_eq_one_of_pos ba,Int.one_mul,Int.gcd_comm]
 have aF:((Rat.divInt n d).den:Int)=d / (Int.gcd n d:Int):=by
  rw [Rat.den_divInt,if_neg (by omega),Int.gcd_comm]
  rw [Int.natCast_ediv,Int.natAbs_of_nonneg (by omega)]
 rw [aa];unfold gn;rw [ax,aF]
theorem HO {n d:Int}{x:Rat}(ba:0<d)(e:(d:Rat)*x=n)(a1:(n.natAbs:Int)<B 50)(ux:d<B 50):qj (gr n) (L d)=some (gI x):=by
 have me:=(hE (k:=50) (by omega)).2 a1
 have oW:=(hE (k:=50) (by omega)).2 ux
 rw [U9 ba (by omega) (by omega),Xt ba e];rfl
theorem CQ {n:Int}(h:qz n):rI n=some (gI (n:Rat)):=by
 rw [V2 h];unfold gI gn;rw [Rat.num_intCast,Rat.den_intCast];rfl
theorem HP {a b:Int}(bA:0≤a)(aM:0≤b)(o:a<B 24)(R:b<B 24):a*b<B 48:=by
 have e:B 48=B 24*B 24:=by decide +kernel
 rw [e]
 exact Int.lt_of_le_of_lt (Int.mul_le_mul_of_nonneg_left (Int.le_of_lt R) bA) (Int.mul_lt_mul_of_pos_right o (by omega))
theorem WH {x y:Rat}(aa:hP x)(aS:hP y):x5 (gI x) (gI y)=some (gI (x*y)):=by
 have p:=aa.c5
 have q:=aS.c5
 have o:=p.sZ
 have R:=p.s0
 have ae:=q.sZ
 have ay:=q.s0
 have aK:=p.pos
 have bI:=q.pos
 have gw:=OD
 have YR:=n8 48
 have hd:=HP (by omega) (by omega) p.num q.num
 have fW:=HP (by omega) (by omega) p.den q.den
 have pv:(((gn x).1*(gn y).1).natAbs:Int)<B 48:=by rw [Int.natAbs_mul];exact hd
 have bR:x5 (some (jU (gn x))) (some (jU (gn y)))=((nO (gr (gn x).1) (gr (gn y).1)).bind fun bt=>(pD (L (gn x).2) (L (gn y).2)).bind fun bS=>(qj bt bS).bind fun bf=>some bf):=rfl
 unfold gI
 rw [bR,M0 (by omega) (by omega),Option.bind_some,Cx (j1 _) (j1 _) (by omega) (by omega),fa (by omega),fa (by omega),Option.bind_some,HO (x:=x*y) (Int.mul_pos aK bI) ?_ (by omega) (by omega)]
 ·rfl
 ·have:=CP x
  have:=CP y
  simp only [gn,Rat.intCast_mul]
  grind
theorem Xu {x y:Rat}(aa:hP x)(aS:hP y):x7 (gI x) (gI y)=some (gI (x+y)):=by
 have p:=aa.c5
 have q:=aS.c5
 have o:=p.sZ
 have R:=p.s0
 have ae:=q.sZ
 have ay:=q.s0
 have aK:=p.pos
 have bI:=q.pos
 have gw:=OD
 have YR:=n8 48
 obtain ⟨bF,-,-⟩:=Nt p q
 obtain ⟨ss,-,-⟩:=Nt q p
 have fW:=HP (by omega) (by omega) p.den q.den
 have bR:x7 (some (jU (gn x))) (some (jU (gn y)))=((pB (some (jU (gn x))) (L (gn y).2)).bind fun bg=>(pB (some (jU (gn y))) (L (gn x).2)).bind fun bS=>(sx bg bS).bind fun bf=>(pD (L (gn x).2) (L (gn y).2)).bind fun cr=>(qj bf cr).bind fun de=>some de):=rfl
 unfold gI
 rw [bR,Cn (by omega) (by omega) (by omega),Option.bind_some,Cn (by omega) (by omega) (by omega),Option.bind_some,Ns (by omega) (by omega),Option.bind_some,Cx (j1 _) (j1 _) (by omega) (by omega),fa (by omega),fa (by omega),Option.bind_some,HO (x:=x+y) (Int.mul_pos aK bI) ?_ (by omega) (by omega)]
 ·rfl
 ·have:=CP x
  have:=CP y
  simp only [gn,Rat.intCast_mul,Rat.intCast_add]
  grind
theorem Df {x:Rat}(h:hP x):sF (gI x)=some (gI x):=by
 have:=h.c5
 unfold gI
 rw [show jU (gn x)=jU ((gn x).1,(gn x).2) from rfl,Xn (Int.le_of_lt this.pos),if_pos ⟨this.num,this.den⟩];rfl
def nA (n:Nat)(c:Nat→Int)(l j:Nat):Int:=match l with
 | 0=>if j<n then c j else 0
 | l+1=>if j=l then -1 else 0
def oZ (n:Nat)(c:Nat→Int)(j:Nat):Rat:=((nA n c 0 j:Int):Rat)
theorem NA (n:Nat)(c:Nat→Int)(l j:Nat):((nA n c l j:Int):Rat)=hl (oZ n c) l j:=by
 cases l with
 | zero=>rfl
 | succ l=>simp only [nA,hl];split<;>rfl
theorem N9 {n:Nat}{c:Nat→Int}(h:∀j,j<n→ -100≤c j∧c j≤100)(l j:Nat): -100≤nA n c l j∧nA n c l j≤100:=by
 cases l with
 | zero =>
  simp only [nA]
  split
  ·exact h j ‹_›
  ·omega
 | succ l=>simp only [nA];split<;>omega
def I3 (m n:Nat)(a:Nat→Nat→Int)(b c:Nat→Int)(a0:Nat)(g:Nat→Nat)(hU:Nat→Nat→Rat)(l:Nat)(s:Bool×List Int×List Int×List (List a5)×List Int×List Bool):Prop :=
 ∃w u dC c5 V I,s=((bK w).cU,(bK w).cy,bk (n+m) I,dC,d1 a0 u,bk (n+m) c5)∧ps m n a b a0 g hU c5 w u∧(∀j,j<n+m→c5 j=true→j<n)∧jN a0 (n+m) m g w u dC∧ov m n a b (oZ n c) l c5 V
section
variable {m n:Nat} {a:Nat→Nat→Int} {b:Nat→Int} {c:Nat→Int} {a0:Nat} {g:Nat→Nat} {hU:Nat→Nat→Rat}
theorem UE (hm:m≤20)(a1:n≤40)(ml:Small m (n+m) (dS m n a b))(aP:∀j,j<n→ -100≤c j∧c j≤100)(x0:Int)(eQ d6 k4:List Int)(k:Nat)(aU:k<n)(s:Bool×List Int×List Int×List (List a5)×List Int×List Bool)(bR:I3 m n a b c a0 g hU (k+1) s):
 ∃bG,tw (n:Int) x0 eQ d6 k4 ((n+m:Nat):Int) (fV a0 (n+m) g) (k:Int) s.1 s.2.1 s.2.2.1 s.2.2.2.1 s.2.2.2.2.1 s.2.2.2.2.2=some (.inl (((k+1:Nat):Int),bG))∧I3 m n a b c a0 g hU (k+2) bG:=by
 obtain ⟨w,u,dC,c5,V,I,rfl,dd,oR,fF,ng⟩:=bR
 obtain ⟨t,bL,-⟩:=dd.bL
 obtain ⟨ok,bx,kb,iJ,jQ,e,Ay,dJ⟩:=Nz hm a1 ml dd oR bL.inj bL.le (nA n c (k+1)) (N9 aP (k+1)) (NA n c (k+1)) ng fF
 rcases dJ with ⟨rfl,xj,I2,AL,aao⟩|⟨-,qe,q,a8,dt,gu⟩
 ·refine ⟨((bK bx).cU,(bK bx).cy,bk (n+m) (nA n c (k+1)),iJ,d1 a0 kb,bk (n+m) jQ),?_,bx,kb,iJ,jQ,AL,_,rfl,xj,I2,Ay,aao⟩
  have AW:(List.replicate (bk (n+m) I).length 0:List Int).set (0+((k:Int)).toNat) (-1)=bk (n+m) (nA n c (k+1)):=by
   rw [dG,pL,Int.toNat_natCast,Nat.zero_add,lb];exact fD fun j _=>rfl
  unfold tw
  simp only
  rw [AW]
  refine dQ (by omega) (b2 (by rw [dG];omega) (b2 (by rw [List.length_replicate,dG,Int.toNat_natCast];omega) (aE e ?_)))
  rw [fZ (by omega)]
 ·obtain ⟨i,af,ak⟩:=qe.US dt
  exact (gu i af ak).elim
theorem V8 (hm:m≤20)(a1:n≤40)(ml:Small m (n+m) (dS m n a b))(aP:∀j,j<n→ -100≤c j∧c j≤100)(x0:Int)(eQ d6 k4:List Int){w:Rat}{u:ck}{dC:List (List a5)}{c5:Nat→Bool}{V:Nat→Rat}{I:Nat→Int}(dd:ps m n a b a0 g hU c5 w u)(oR:∀j,j<n+m→c5 j=true→j<n)(fF:jN a0 (n+m) m g w u dC)(ng:ov m n a b (oZ n c) 1 c5 V):
 ∃iS i2 sV rn,BI (n:Int) x0 eQ d6 k4 ((n+m:Nat):Int) (fV a0 (n+m) g) 0 (bK w).cU (bK w).cy (bk (n+m) I) dC (d1 a0 u) (bk (n+m) c5)=some ((bK iS).cU,(bK iS).cy,sV,d1 a0 i2,bk (n+m) rn)∧ps m n a b a0 g hU rn iS i2∧jN a0 (n+m) m g iS i2 sV∧ ∃V,ov m n a b (oZ n c) (n+1) rn V:=by
 unfold BI
 obtain ⟨r,e,an⟩:=pG (f:=fun w:Int×Bool×(List Int)×(List Int)×(List (List a5))×(List Int)×(List Bool)=>tw (n:Int) x0 eQ d6 k4 ((n+m:Nat):Int) (fV a0 (n+m) g) w.1 w.2.1 w.2.2.1 w.2.2.2.1 w.2.2.2.2.1 w.2.2.2.2.2.1 w.2.2.2.2.2.2)
  (fun (k:Nat) (s:Bool×List Int×List Int×List (List a5)×List Int×List Bool)=>((k:Int),s)) n (fun k s=>I3 m n a b c a0 g hU (k+1) s)
  (fun r=> ∃iS i2 sV rn,r=((bK iS).cU,(bK iS).cy,sV,d1 a0 i2,bk (n+m) rn)∧ps m n a b a0 g hU rn iS i2∧jN a0 (n+m) m g iS i2 sV∧ ∃V,ov m n a b (oZ n c) (n+1) rn V)
  (fun k aU s bR=> .inl (UE hm a1 ml aP x0 eQ d6 k4 k aU s bR))
  (fun s bR=>by
    obtain ⟨w,u,dC,c5,V,I,rfl,dd,oR,fF,ng⟩:=bR
    exact ⟨_,by unfold tw;exact dR (by simp) rfl,w,u,dC,c5,rfl,dd,fF,V,ng⟩)
  ((bK w).cU,(bK w).cy,bk (n+m) I,dC,d1 a0 u,bk (n+m) c5) ⟨w,u,dC,c5,V,I,rfl,dd,oR,fF,ng⟩
 obtain ⟨iS,i2,sV,rn,rfl,o,R,ae⟩:=an
 exact ⟨iS,i2,sV,rn,e,o,R,ae⟩
end
theorem Xv:B 24≤B 50:=by decide +kernel
theorem Xw:2≤eF:=by decide +kernel
theorem Pu:40*(eF*100)≤21*100*(eF*eF):=by
 have:=Nat.mul_le_mul_left eF Xw
 omega
section
variable {m n:Nat} {a:Nat→Nat→Int} {b:Nat→Int} {a0 N:Nat} {g:Nat→Nat} {w:Rat} {u:ck}
theorem V9 (x0 fm:Int)(eQ d6 k4:List Int)(oD:Bool)(tm:List Int)(D8:Int)(aW:List bZ)(bh:List (List a5))(cf:List Int)(cI:List Bool)(a1:n≤40):
 BJ (n:Int) x0 fm eQ d6 k4 oD tm D8 aW bh cf cI 0 (List.replicate n (none:Option c3))=some (bk n fun _=>gI 0):=by
 unfold BJ
 obtain ⟨s,e,-⟩:=jb (f:=fun w:Int×(List (Option c3))=>vH (n:Int) x0 fm eQ d6 k4 oD tm D8 aW bh cf cI w.1 w.2)
  (fun (k:Nat) (_:Unit)=>((k:Int),bk n fun j=>if j<k then gI 0 else none)) n (fun _ _=>True) (fun _=>bk n fun _=>gI 0)
  (fun k aU _ _=>by
    refine ⟨(),?_,trivial⟩
    unfold vH
    refine dQ (by simp only;omega) (aE (x:=gI 0) (CQ (n:=0) (by rw [nT];omega)) (b2 (by simp only;rw [dG];omega) (b2 (by simp only;rw [dG,Int.toNat_natCast];omega) ?_)))
    simp only
    rw [fZ (by omega),Int.toNat_natCast,Nat.zero_add,lb]
    congr 3
    refine fD fun j _=> ?_
    by_cases bF:j=k
    ·subst bF;rw [if_pos rfl,if_pos (by omega)]
    ·rw [if_neg bF]
     by_cases cN:j<k
     ·rw [if_pos cN,if_pos (by omega)]
     ·rw [if_neg cN,if_neg (by omega)])
  (fun _ _=>by
    unfold vH
    refine dR (by simp) ?_
    simp only
    congr 2
    exact fD fun j aC=>by rw [if_pos aC]) () trivial
 have e0:(bk n fun j=>if j<0 then gI 0 else none)=List.replicate n none:=by
  rw [pL];exact fD fun j _=>by rw [if_neg (by omega)]
 rw [← e0];exact e
theorem Wa {t:ck}{N i j:Nat}:t.f5 (i+1) N j=t.f5 i N j+if t.B i=j then t.T i N else 0:=rfl
theorem OH (h:LT m n a b a0 N u){i k:Nat}(af:i<a0)(aU:k<a0)(e:u.B i=u.B k):i=k:=by
 by_cases c:i=k
 ·exact c
 ·have o:=h.unit i af k aU
  rw [← e,h.unit i af i af,if_pos rfl,if_neg c] at o
  grind
theorem Vg (x0 fm:Int)(eQ d6 k4:List Int)(oD:Bool)(cI:List Bool)(hm:a0≤20)(fO:N≤1000)(aG:LT m n a b a0 N u)(f:nz a0 N w u){M:Nat}{dC:List (List a5)}(fF:jN a0 N M g w u dC)(a1:n≤40):
 BK (a0:Int) x0 fm eQ d6 k4 oD (bK w).cy (N:Int) (d1 a0 u) (fV a0 N g) dC cI 0 (bk n fun _=>gI 0)=some (bk n fun j=>gI (u.f5 a0 N j)):=by
 have hw:=Ik f.hw
 have aap:0<w.num:=by
  have:(0:Rat)<((w.num:Int):Rat):=by rw [hw.1];exact f.pos
  exact Rat.intCast_lt_intCast.1 (by rw [show ((0:Int):Rat)=0 from rfl];exact this)
 have YS:(bK w).cy=L w.num:=by
  show L (w.num.natAbs:Int)=_
  rw [Int.natAbs_of_nonneg (by omega)]
 have jV:=zp Dr
 have ka:=zp Pr
 have ac2:=Xv
 rw [YS]
 unfold BK
 obtain ⟨s,e,-⟩:=jb (f:=fun v:Int×(List (Option c3))=>vI (a0:Int) x0 fm eQ d6 k4 oD (L w.num) (N:Int) (d1 a0 u) (fV a0 N g) dC cI v.1 v.2)
  (fun (k:Nat) (_:Unit)=>((k:Int),bk n fun j=>gI (u.f5 k N j))) a0 (fun _ _=>True) (fun _=>bk n fun j=>gI (u.f5 a0 N j))
  (fun k aU _ _=>by
    refine ⟨(),?_,trivial⟩
    have gw:=aG.jC k aU
    have iC:=Ik (f.iC k aU N (Nat.le_refl _))
    have cd:u.f5 k N (u.B k)=0:=ck.G0 fun i af e=>by have:=OH aG (by omega) aU e;omega
    have II:qj (bK (u.T k N*w)) (L w.num)=some (gI (u.T k N)):=by
     refine HO aap ?_ (by omega) (by omega)
     rw [hw.1,iC.1];grind
    unfold vI
    simp only
    refine dQ (by omega) (b2 (by unfold d1;rw [dG];omega) (aE (x:=((u.B k:Nat):Int)) (by rw [Int.toNat_natCast];exact jd aU) (b2 (by unfold fV;rw [dG];omega) (aE (x:=some (g k,N+1)) (by rw [Int.toNat_natCast];exact jd aU) (aE (x:=(g k,N+1)) rfl (aE (fF.row k aU) (b2 (by simp only;omega) (aE (x:=bK (u.T k N*w)) (by rw [Int.toNat_natCast];exact jd (by omega)) (aE II (b2 (by rw [dG];omega) (b2 (by rw [dG,Int.toNat_natCast];omega) ?_)))))))))))
    rw [fZ (by omega),Int.toNat_natCast,Nat.zero_add,lb]
    congr 3
    refine fD fun j _=> ?_
    rw [Wa]
    by_cases bF:j=u.B k
    ·subst bF
     rw [if_pos rfl,if_pos rfl,cd]
     congr 1;grind
    ·rw [if_neg bF,if_neg (fun e=>bF e.symm)]
     congr 1;grind)
  (fun _ _=>by unfold vI;exact dR (by simp) rfl) () trivial
 exact e
theorem Xx (aG:LT m n a b a0 N u)(f:nz a0 N w u)(j:Nat):eg eF (u.f5 a0 N j*w):=by
 by_cases c : ∃i,i<a0∧u.B i=j
 ·obtain ⟨i,af,rfl⟩:=c
  have:u.f5 a0 N (u.B i)=u.T i N:=by
   unfold ck.f5
   rw [jw af (f:=fun k=>if u.B k=u.B i then u.T k N else 0) (fun k aU cF=>if_neg fun e=>cF (OH aG aU af e)),if_pos rfl]
  rw [this];exact f.iC i af N (Nat.le_refl _)
 ·rw [ck.G0 fun i af e=>c ⟨i,af,e⟩]
  exact ⟨0,by rw [Rat.zero_mul];rfl,by simp⟩
theorem Oa {x:Nat→Rat}{c:Nat→Int}(hw:eg (21*100*eF) w)(ak:0<w)(aa:∀j,eg eF (x j*w))(aP:∀j,j<n→ -100≤c j∧c j≤100){k:Nat}(aU:k≤n)(a1:n≤40):hP (cn k fun j=>x j*(c j:Rat)):=by
 have o:eg (k*(eF*100)) (cn k fun j=>x j*w*(c j:Rat)):=eg.sum fun j aC=>(aa j).mul ⟨c j,rfl,by have:=aP j (by omega);omega⟩
 have R:k*(eF*100)≤40*(eF*100):=Nat.mul_le_mul_right _ (by omega)
 refine Ix (K:=21*100*(eF*eF)) (hw.mono Dr) (o.mono (Nat.le_trans R Pu)) (by grind) ?_ (zp (Nat.le_refl _))
 rw [← hY]
 exact fv fun j _=>by grind
theorem O5 {x:Rat}(hw:eg (21*100*eF) w)(ak:0<w)(aa:eg eF (x*w)):hP x :=
 Ix (K:=21*100*(eF*eF)) (hw.mono Dr) (aa.mono Pr) (by grind) (by grind) (zp (Nat.le_refl _))
theorem Xy {x:Rat}{c:Int}(hw:eg (21*100*eF) w)(ak:0<w)(aa:eg eF (x*w))(aP:-100≤c∧c≤100):hP (x*(c:Rat)):=by
 have:=aa.mul (show eg 100 (c:Rat) from ⟨c,rfl,by omega⟩)
 exact Ix (K:=21*100*(eF*eF)) (hw.mono Dr) (this.mono (by have:=Pu;omega)) (by grind) (by grind) (zp (Nat.le_refl _))
theorem WI (x0 fm:Int)(eQ d6 k4:List Int){x:Nat→Rat}{c:Nat→Int}(aS:k4=bk n c)(hw:eg (21*100*eF) w)(ak:0<w)(aa:∀j,eg eF (x j*w))(aP:∀j,j<n→ -100≤c j∧c j≤100)(a1:n≤40):
 BL (n:Int) x0 fm eQ d6 k4 (bk n fun j=>gI (x j)) (gI 0) 0=some (gI (cn n fun j=>x j*(c j:Rat))):=by
 subst aS
 unfold BL
 obtain ⟨s,e,-⟩:=jb (f:=fun v:(Option c3)×Int=>vJ (n:Int) x0 fm eQ d6 (bk n c) (bk n fun j=>gI (x j)) v.1 v.2)
  (fun (k:Nat) (_:Unit)=>(gI (cn k fun j=>x j*(c j:Rat)),(k:Int))) n (fun _ _=>True) (fun _=>gI (cn n fun j=>x j*(c j:Rat)))
  (fun k aU _ _=>by
    refine ⟨(),?_,trivial⟩
    have aaq:=aP k aU
    have af:qz (c k):=by rw [nT];omega
    unfold vJ
    simp only
    refine dQ (by omega) (b2 (by rw [dG];omega) (aE (x:=gI (x k)) (by rw [Int.toNat_natCast];exact jd aU) (b2 (by rw [dG];omega) (aE (x:=c k) (by rw [Int.toNat_natCast];exact jd aU) (aE (CQ af) (aE (WH (O5 hw ak (aa k)) (N2 af)) (aE (Xu (Oa hw ak aa aP (Nat.le_of_lt aU) a1) (Xy hw ak (aa k) aaq)) ?_)))))))
    rw [fZ (by omega)];rfl)
  (fun _ _=>by unfold vJ;exact dR (by simp) rfl) () trivial
 exact e
end
theorem Xz {m n:Nat}{a:Nat→Nat→Int}{b:Nat→Int}{a0 N:Nat}{u:ck}(h:LT m n a b a0 N u)(a1:n≤N):fH a0 a0 N u.T u where
 p6:=fun c aP j _=>by
  rw [jw aP (f:=fun i=>u.T c (u.B i)*u.T i j) (fun i af cF=>by rw [h.unit c aP i af,if_neg (fun e=>cF e.symm)];grind),h.unit c aP c aP,if_pos rfl];grind
 row:=⟨fun i c=>if i=c then 1 else 0,fun i af j _=>by
  rw [jw af (f:=fun c=>(if i=c then (1:Rat) else 0)*u.T c j) (fun c _ cF=>by rw [if_neg (Ne.symm cF)];grind),if_pos rfl];grind⟩
 unit:=h.unit
 jC:=fun i af=>Nat.lt_of_lt_of_le (h.jC i af) a1
theorem Wb {p:nn}{m n:Nat}{a:Nat→Nat→Int}{b:Nat→Int}(h:oz p m n a b){c:Nat→Int}(uZ:p.kG=bk n c)(aP:∀j,j<n→ -100≤c j∧c j≤100):
 ∃r,sy p.j2 p.jh p.f8 p.f9 p.kG=some r∧((¬oL m n a b∧r=(2,[],none))∨(oL m n a b∧ ¬Bounded m n a b (oZ n c)∧r=(3,[],none)) ∨
  (∃x,sM m n a b (oZ n c) x∧(∀j,hP (x j))∧hP (val n (oZ n c) x)∧r=(0,bk n (fun j=>gI (x j)),gI (val n (oZ n c) x)))):=by
 have hm:=h.hm
 have a1:=h.a1
 have ml:=M2 h
 obtain ⟨r,e,an⟩:=Ny h
 unfold sy
 rcases an with ⟨bR,t,a0,g,dC,rfl,bL,gw,fF⟩|⟨bR,rfl⟩
 ·have aG:=bL.Xs gw
  have dd:ps m n a b a0 g (hv g t).T (fun j=>decide (j<n)) (gp m (dS m n a b) t) (hv g t) :=
   ⟨⟨t,bL,gw,⟨fun _ _ _=>rfl,fun _ _=>rfl⟩,rfl⟩,aG,Xz aG (by omega),fun i af=>decide_eq_true (gw i af)⟩
  obtain ⟨ok,iS,i2,sV,rn,ax,aar,dJ⟩:=Nz hm a1 ml dd (fun j _ aC=>of_decide_eq_true aC) bL.inj bL.le (nA n c 0) (N9 aP 0) (NA n c 0) (ov.zero (c:=oZ n c) (fun j aC=>decide_eq_true aC) (fun _=>0)) fF
  have AW:p.kG++(List.replicate (n+m) 0:List Int).drop p.kG.length=bk (n+m) (nA n c 0):=by
   rw [uZ,dG]
   apply List.ext_getElem?
   intro i
   by_cases ci:i<n
   ·rw [List.getElem?_append_left (by rw [dG];exact ci),iL ci,iL (by omega)];simp only [nA];rw [if_pos ci]
   ·rw [List.getElem?_append_right (by rw [dG];omega),dG,List.getElem?_drop,show n+(i-n)=i by omega]
    by_cases J9:i<n+m
    ·rw [List.getElem?_replicate,if_pos J9,iL J9];simp only [nA];rw [if_neg ci]
    ·rw [List.getElem?_replicate,if_neg J9,List.getElem?_eq_none_iff.2 (by rw [dG];omega)]
  have Qp:p.kG.length=n:=by rw [uZ,dG]
  rcases dJ with ⟨rfl,oQ,YT,adn,Ax⟩|⟨rfl,qe,q,a8,dt,gu⟩
  ·obtain ⟨pw,lI,br,ac3,aF,uB,aas,ado,aat⟩:=V8 (I:=nA n c 0) hm a1 ml aP p.j2 p.f8 p.f9 p.kG oQ YT aar Ax
   have f2:=uB.pW ml
   have I1:=aat.s8 uB.lt uB.KB
   have aa:=Xx uB.lt f2
   have aY:cn n (fun j=>lI.f5 a0 (n+m) j*(c j:Rat))=val n (oZ n c) (lI.f5 a0 (n+m)):=fv fun j aC=>by
    have:oZ n c j=(c j:Rat):=by unfold oZ nA;simp only;rw [if_pos aC]
    rw [this];exact Rat.mul_comm _ _
   refine ⟨_,aE e ?_,.inr (.inr ⟨lI.f5 a0 (n+m),I1,fun j=>O5 f2.hw f2.pos (aa j),?_,rfl⟩)⟩
   ·simp only
    refine b2 (by omega) (b2 (by rw [Qp,Int.toNat_natCast];omega) (aE (by rw [Int.toNat_natCast,AW];exact ax) (ep rfl ?_)))
    rw [h.gX,Int.toNat_natCast,Int.toNat_natCast,AW]
    refine aE aF (b2 (by omega) (aE (V9 _ _ _ _ _ _ _ _ _ _ _ _ a1) (aE (x:=bk n fun j=>gI (lI.f5 a0 (n+m) j)) ?_ (aE (x:=gI 0) (CQ (n:=0) (by rw [nT];omega)) (aE (x:=gI (val n (oZ n c) (lI.f5 a0 (n+m)))) ?_ rfl)))))
    ·simp only
     rw [show ((d1 a0 lI).length:Nat)=a0 from dG ..]
     exact Vg _ _ _ _ _ _ _ (by have:=bL.le;omega) (by omega) uB.lt f2 aas a1
    ·rw [dG,← aY]
     exact WI _ _ _ _ _ uZ f2.hw f2.pos aa aP a1
   ·rw [← aY];exact Oa f2.hw f2.pos aa aP (Nat.le_refl _) a1
  ·refine ⟨_,aE e ?_,.inr (.inl ⟨bR,qe.JB _ a8 dt gu,rfl⟩)⟩
   simp only
   exact b2 (by omega) (b2 (by rw [Qp,Int.toNat_natCast];omega) (aE (by rw [Int.toNat_natCast,AW];exact ax) (fB rfl rfl)))
 ·exact ⟨_,aE e rfl,.inl ⟨bR,rfl⟩⟩
def w7 (k:Nat)(x:bB):List eG:=(if x.lg=2 then [] else [⟨(k:Int),1⟩])++(if x.lg=1 then [] else [⟨(k:Int),-1⟩])
def oO (fz:List bB):Nat→List eG
 | 0=>[]
 | n+1=>oO fz n++(match fz[n]? with
  | some x=>w7 n x
  | none=>[])
theorem HQ (fz:List bB): ∀n,(oO fz n).length≤2*n
 | 0=>by simp [oO]
 | n+1=>by
  have:=HQ fz n
  rw [oO,List.length_append]
  have R:(match fz[n]? with
   | some x=>w7 n x
   | none=>[]).length≤2:=by
   split
   ·rename_i x _;unfold w7;rw [List.length_append];split<;>split<;>simp
   ·simp
  omega
theorem NB {fz:List bB}: ∀ {n:Nat} {c:eG},n≤fz.length→c∈oO fz n→ ∃k:Nat,c.tW=k∧k<n∧(c.r2=1∨c.r2 = -1)
 | 0,c,_,h=>by simp [oO] at h
 | n+1,c,a1,h=>by
  rw [oO,List.mem_append] at h
  rcases h with h|h
  ·obtain ⟨k,o,R,ae⟩:=NB (by omega) h
   exact ⟨k,o,by omega,ae⟩
  ·rw [List.getElem?_eq_getElem (by omega)] at h
   simp only [w7,List.mem_append] at h
   rcases h with h|h
   ·split at h
    ·simp at h
    ·simp at h;subst h;exact ⟨n,rfl,by omega,.inl rfl⟩
   ·split at h
    ·simp at h
    ·simp at h;subst h;exact ⟨n,rfl,by omega,.inr rfl⟩
theorem ME (s:cw)(dd:s.b8.length≤1000):vt s=some (oO s.b8 s.b8.length):=by
 unfold vt E4
 rw [g8]
 obtain ⟨x,e,-⟩:=jb (f:=fun w:Int×List eG=>vd s.b8 (s.b8.length:Nat) w.1 w.2) (fun (n:Nat) (_:Unit)=>((n:Int),oO s.b8 n)) s.b8.length (fun _ _=>True) (fun _=>oO s.b8 s.b8.length)
  (fun n a1 _ _=>by
    refine ⟨(),?_,trivial⟩
    have aa:=List.getElem?_eq_getElem a1
    have aG:=HQ s.b8 n
    have ax:oO s.b8 (n+1)=oO s.b8 n++w7 n s.b8[n]:=by rw [oO,aa]
    unfold vd
    refine dQ (by simp only;omega) (b2 (by simp only;omega) (aE (x:=s.b8[n]) (by simp only;rw [Int.toNat_natCast];exact aa) ?_))
    simp only
    rw [fZ (by omega),ax]
    unfold w7
    by_cases bF:s.b8[n].lg=2
    ·rw [if_pos bF]
     refine fB (Jz bF) (ep (Jy (by omega)) (b2 (by simp only [List.length_append,List.length_cons,List.length_nil];omega) ?_))
     rw [if_neg (by omega)];simp
    ·rw [if_neg bF]
     refine ep (Jy bF) (b2 (by simp only [List.length_append,List.length_cons,List.length_nil];omega) ?_)
     by_cases cN:s.b8[n].lg=1
     ·refine fB (Jz cN) ?_
      rw [if_pos cN];simp
     ·refine ep (Jy cN) (b2 (by simp only [List.length_append,List.length_cons,List.length_nil];omega) ?_)
      rw [if_neg cN];simp)
  (fun _ _=>by unfold vd;exact dR (by simp) rfl) () trivial
 exact aE e rfl
def nx (s:cw)(k:Nat):Int×Int:=(tt s k).getD (0,0)
theorem NC (s:cw)(h:mc s)(k:Nat)(aU:k<s.b8.length):tt s k=some (nx s k)∧(-100≤(nx s k).1∧(nx s k).1≤100)∧(-100≤(nx s k).2∧(nx s k).2≤100):=by
 obtain ⟨x,y,o,ae,ay⟩:=WD s h k (by omega) (by omega)
 have e:nx s k=(x,y):=by unfold nx;rw [o];rfl
 rw [e];exact ⟨o,ae,ay⟩
def km (s:cw)(j:Int)(ks k:Nat):Int :=
 match s.b8[k]? with
 | none=>0
 | some x=>if j=x.f8 then (if ks=0 then (nx s k).1 else (nx s k).2) else if j=x.f9 then -(if ks=0 then (nx s k).1 else (nx s k).2) else 0
theorem XA (s:cw)(h:mc s)(j:Int)(ks k:Nat): -100≤km s j ks k∧km s j ks k≤100:=by
 unfold km
 split
 ·omega
 ·rename_i x aa
  obtain ⟨-,ae,ay⟩:=NC s h k (ft aa)
  split
  ·split<;>omega
  ·split
   ·split<;>omega
   ·omega
theorem WJ (s:cw)(h:mc s)(j:Int)(aW:List Int)(bh cf:Int)(cI:List (List Int)):
 A2 s.cx s.b8 j aW bh cf (len_ c2 s.b8) cI 0 (bk s.b8.length fun _=>(0:Int)) (bk s.b8.length fun _=>(0:Int))=some (bk s.b8.length (km s j 0),bk s.b8.length (km s j 1)):=by
 obtain ⟨-,-,f3,f4⟩:=id h
 unfold A2
 rw [g8]
 obtain ⟨x,e,-⟩:=jb (f:=fun w:Int×List Int×List Int=>u7 s.cx s.b8 j aW bh cf (s.b8.length:Nat) cI w.1 w.2.1 w.2.2) (fun (n:Nat) (_:Unit)=>((n:Int),(bk s.b8.length fun k=>if k<n then km s j 0 k else 0),bk s.b8.length fun k=>if k<n then km s j 1 k else 0)) s.b8.length (fun _ _=>True) (fun _=>(bk s.b8.length (km s j 0),bk s.b8.length (km s j 1)))
  (fun n a1 _ _=>by
    refine ⟨(),?_,trivial⟩
    have aa:=List.getElem?_eq_getElem a1
    obtain ⟨v1,v3,v4⟩:=NC s h n a1
    have cM : ∀ks v,v=km s j ks n→(bk s.b8.length fun k=>if k<n then km s j ks k else 0).set n v=bk s.b8.length fun k=>if k<n+1 then km s j ks k else 0:=fun ks v aY=>by
     rw [lb]
     refine fD fun k _=> ?_
     by_cases c:k=n
     ·subst c;rw [if_pos rfl,if_pos (by omega)];exact aY
     ·rw [if_neg c]
      by_cases cN:k<n
      ·rw [if_pos cN,if_pos (by omega)]
      ·rw [if_neg cN,if_neg (by omega)]
    have g1 : ∀F:Nat→Int,0≤((n:Nat):Int)∧((n:Nat):Int)<((bk s.b8.length F).length:Nat):=fun F=>by rw [dG];omega
    have g2 : ∀F:Nat→Int,0+((n:Nat):Int).toNat<(bk s.b8.length F).length:=fun F=>by rw [dG,Int.toNat_natCast];omega
    unfold u7
    refine dQ (by simp only;omega) (b2 (by simp only;omega) (aE (x:=s.b8[n]) (by simp only;rw [Int.toNat_natCast];exact aa) (aE (x:=nx s n) v1 ?_)))
    simp only
    by_cases bF:j=s.b8[n].f8
    ·have e0 : ∀ks,km s j ks n=if ks=0 then (nx s n).1 else (nx s n).2:=fun ks=>by unfold km;rw [aa];simp only [if_pos bF]
     refine ep (Jx bF) (b2 (g1 _) (b2 (g2 _) (b2 (g1 _) (b2 (g2 _) ?_))))
     rw [fZ (by omega),Int.toNat_natCast,Nat.zero_add,cM 0 _ (by rw [e0];rfl),cM 1 _ (by rw [e0];rfl)]
    ·refine fB (Ae bF) ?_
     by_cases cN:j=s.b8[n].f9
     ·have e0 : ∀ks,km s j ks n = -(if ks=0 then (nx s n).1 else (nx s n).2):=fun ks=>by unfold km;rw [aa];simp only [if_neg bF,if_pos cN]
      refine ep (Jx cN) (b2 (g1 _) (b2 (g2 _) (b2 (g1 _) (b2 (g2 _) ?_))))
      rw [fZ (by omega),Int.toNat_natCast,Nat.zero_add,cP (by omega) (by omega),cP (by omega) (by omega),cM 0 _ (by rw [e0];simp),cM 1 _ (by rw [e0];simp)]
     ·have e0 : ∀ks,km s j ks n=0:=fun ks=>by unfold km;rw [aa];simp only [if_neg bF,if_neg cN]
      refine fB (Ae cN) ?_
      rw [fZ (by omega)]
      congr 4
      ·refine fD fun k _=> ?_
       by_cases c:k=n
       ·subst c;rw [if_neg (by omega),if_pos (by omega),e0]
       ·by_cases cN:k<n
        ·rw [if_pos cN,if_pos (by omega)]
        ·rw [if_neg cN,if_neg (by omega)]
      ·refine fD fun k _=> ?_
       by_cases c:k=n
       ·subst c;rw [if_neg (by omega),if_pos (by omega),e0]
       ·by_cases cN:k<n
        ·rw [if_pos cN,if_pos (by omega)]
        ·rw [if_neg cN,if_neg (by omega)])
  (fun _ _=>by
    unfold u7
    refine dR (by simp) ?_
    simp only
    congr 3
    ·exact fD fun k aU=>by rw [if_pos aU]
    ·exact fD fun k aU=>by rw [if_pos aU]) () trivial
 have z : ∀ks,(bk s.b8.length fun k=>if k<0 then km s j ks k else 0)=bk s.b8.length fun _=>(0:Int):=fun ks=>fD fun k _=>by rw [if_neg (by omega)]
 rw [z,z] at e
 exact e
def jD (s:cw)(q:Nat):Nat:=(j4 s.cx 0).getD q 0
def fe (s:cw):Nat:=(j4 s.cx 0).length
def nH (s:cw)(r k:Nat):Int:=km s (jD s (r / 2)) (r % 2) k
theorem ND (s:cw):(j4 s.cx 0).map (fun n:Nat=>(n:Int))=bk (fe s) fun q=>((jD s q:Nat):Int):=by
 apply List.ext_getElem?
 intro q
 rw [List.getElem?_map]
 by_cases c:q<fe s
 ·rw [iL c]
  have h:(j4 s.cx 0)[q]? = some (j4 s.cx 0)[q]:=List.getElem?_eq_getElem c
  unfold jD
  rw [List.getD_eq_getElem?_getD,h];rfl
 ·rw [List.getElem?_eq_none_iff.2 (by unfold fe at c;omega),List.getElem?_eq_none_iff.2 (by rw [dG];omega)];rfl
theorem XB (s:cw){q:Nat}(h:q<fe s):jD s q<s.cx.length:=by
 have o:(j4 s.cx 0)[q]? = some (j4 s.cx 0)[q]:=List.getElem?_eq_getElem h
 have R:jD s q=(j4 s.cx 0)[q]:=by unfold jD;rw [List.getD_eq_getElem?_getD,o];rfl
 have:=HN s.cx 0 _ (List.mem_of_getElem? o)
 omega
theorem Iz (s:cw):fe s≤s.cx.length:=Nu s.cx 0
theorem Tt (s:cw)(h:mc s):xQ s=some (bk (2*fe s) fun r=>bk s.b8.length (nH s r)):=by
 obtain ⟨-,-,f3,f4⟩:=id h
 have AG:=Iz s
 unfold xQ
 refine aE (LM s (by omega)) ?_
 rw [ND,fY,dG]
 unfold EI
 obtain ⟨x,e,-⟩:=jb (f:=fun w:Int×List (List Int)=>u9 s.cx s.b8 (bk (fe s) fun q=>((jD s q:Nat):Int)) ((fe s:Nat):Int) w.1 w.2) (fun (n:Nat) (_:Unit)=>((n:Int),bk (2*n) fun r=>bk s.b8.length (nH s r))) (fe s) (fun _ _=>True) (fun _=>bk (2*fe s) fun r=>bk s.b8.length (nH s r))
  (fun n a1 _ _=>by
    refine ⟨(),?_,trivial⟩
    unfold u9
    refine dQ (by simp only;omega) (b2 (by rw [dG];simp only;omega) (aE (x:=((jD s n:Nat):Int)) (by simp only;rw [Int.toNat_natCast];exact iL a1) (b2 (by rw [g8];omega) ?_)))
    refine aE (x:=(bk s.b8.length (km s (jD s n) 0),bk s.b8.length (km s (jD s n) 1))) (by rw [show (len_ c2 s.b8).toNat=s.b8.length by rw [g8,Int.toNat_natCast],pL];exact WJ s h _ _ _ _ _) (b2 (by simp only [List.length_append,dG,List.length_cons,List.length_nil];omega) ?_)
    simp only
    rw [fZ (by omega),show 2*(n+1)=2*n+1+1 by omega,yI (2*n+1),yI (2*n)]
    have ad:bk s.b8.length (km s (jD s n) 0)=bk s.b8.length (nH s (2*n)):=fD fun k _=>by
     unfold nH;rw [show 2*n / 2=n by omega,show 2*n % 2=0 by omega]
    have b3:bk s.b8.length (km s (jD s n) 1)=bk s.b8.length (nH s (2*n+1)):=fD fun k _=>by
     unfold nH;rw [show (2*n+1) / 2=n by omega,show (2*n+1) % 2=1 by omega]
    rw [ad,b3];simp)
  (fun _ _=>by unfold u9;exact dR (by simp) rfl) () trivial
 exact aE e rfl
def gX (s:cw):List eG:=oO s.b8 s.b8.length
def dq (s:cw):Nat:=(gX s).length
def qR (s:cw)(c:Nat):Nat:=((gX s).getD c ⟨0,0⟩).tW.toNat
def ru (s:cw)(c:Nat):Int:=((gX s).getD c ⟨0,0⟩).r2
def nN (s:cw)(i c:Nat):Int:=ru s c*nH s i (qR s c)
def pz (s:cw)(l:List Int)(i:Nat):Int:= -(l.getD (2*jD s (i / 2)+i % 2) 0)
theorem C4 (s:cw){c:Nat}(aP:c<dq s):(gX s)[c]? = some ⟨(qR s c:Int),ru s c⟩∧qR s c<s.b8.length∧(ru s c=1∨ru s c = -1):=by
 have o:(gX s)[c]? = some (gX s)[c]:=List.getElem?_eq_getElem aP
 have R:(gX s).getD c ⟨0,0⟩=(gX s)[c]:=by rw [List.getD_eq_getElem?_getD,o];rfl
 obtain ⟨k,ax,aF,b4⟩:=NB (Nat.le_refl _) (List.mem_of_getElem? o)
 have dy:qR s c=k:=by unfold qR;rw [R,ax];rfl
 have ea:ru s c=((gX s)[c]).r2:=by unfold ru;rw [R]
 refine ⟨?_,by omega,by rw [ea];exact b4⟩
 rw [o,dy,ea,← ax]
theorem IA (s:cw):dq s≤2*s.b8.length:=HQ _ _
theorem O6 (s:cw)(h:mc s)(i:Nat){c:Nat}(aP:c<dq s): -100≤nN s i c∧nN s i c≤100:=by
 have o:=XA s h (jD s (i / 2)) (i % 2) (qR s c)
 unfold nN nH
 rcases (C4 s aP).2.2 with e|e<;>rw [e]<;>omega
def kt (s:cw)(l:List Int):nn:=⟨((2*fe s:Nat):Int),(dq s:Int),bk (2*fe s*dq s) (fun x=>nN s (x / dq s) (x % dq s)),bk (2*fe s) (pz s l),bk (dq s) fun _=>0⟩
theorem OI (s:cw)(h:mc s)(l:List Int)(aM:∀x∈l,-100≤x∧x≤100):oz (kt s l) (2*fe s) (dq s) (nN s) (pz s l) where
 rows:=rfl
 gX:=rfl
 mI:=dG ..
 Dq:=fun i af j aC=>by
  have o:i*dq s+j<2*fe s*dq s:=by
   have:(i+1)*dq s≤2*fe s*dq s:=Nat.mul_le_mul_right _ af
   rw [Nat.succ_mul] at this;omega
  show (bk _ _)[_]? = _
  rw [iL o]
  have R:(i*dq s+j) / dq s=i:=by rw [Nat.mul_comm,Nat.mul_add_div (by omega),Nat.div_eq_of_lt aC];rfl
  have ae:(i*dq s+j) % dq s=j:=by rw [Nat.mul_comm,Nat.mul_add_mod,Nat.mod_eq_of_lt aC]
  rw [R,ae]
 Kx:=dG ..
 I0:=fun i af=>iL af
 hm:=by
  obtain ⟨-,-,f3,f4⟩:=id h
  have:=Iz s;omega
 a1:=by
  obtain ⟨-,-,f3,f4⟩:=id h
  have:=IA s;omega
 xG:=fun i _ j aC=>O6 s h i aC
 AS:=fun i _=>by
  unfold pz
  rw [List.getD_eq_getElem?_getD]
  cases c:l[2*jD s (i / 2)+i % 2]? with
  | none=>simp
  | some x =>
   have:=aM x (List.mem_of_getElem? c)
   simp only [Option.getD_some];omega
def tn (s:cw)(r c:Nat):Int:=if r<2*fe s∧c<dq s then nN s r c else 0
def mj (s:cw)(l:List Int)(r:Nat):Int:=if r<2*fe s then pz s l r else 0
def o0 (s:cw)(N i c x:Nat):Int:=if (x / N<i∨(x / N=i∧x % N<c))∧x % N<dq s then nN s (x / N) (x % N) else 0
theorem XC (s:cw){T N i c:Nat}(aP:c<dq s)(fO:dq s≤N)(iC:i*N+c<T){v:Int}(aY:v=nN s i c):(bk T (o0 s N i c)).set (i*N+c) v=bk T (o0 s N i (c+1)):=by
 have R:(i*N+c) / N=i:=by rw [Nat.mul_comm,Nat.mul_add_div (by omega),Nat.div_eq_of_lt (by omega)];rfl
 have ae:(i*N+c) % N=c:=by rw [Nat.mul_comm,Nat.mul_add_mod,Nat.mod_eq_of_lt (by omega)]
 rw [lb]
 refine fD fun x _=> ?_
 unfold o0
 by_cases e:x=i*N+c
 ·rw [if_pos e,e,R,ae,if_pos ⟨.inr ⟨rfl,by omega⟩,aP⟩,aY]
 ·rw [if_neg e]
  have cF : ¬(x / N=i∧x % N=c):=fun ⟨a,b⟩=>e (by rw [← Nat.div_add_mod x N,a,b,Nat.mul_comm])
  by_cases d:(x / N<i∨(x / N=i∧x % N<c))∧x % N<dq s
  ·rw [if_pos d,if_pos ⟨by omega,d.2⟩]
  ·rw [if_neg d,if_neg (fun uX=>d ⟨by omega,uX.2⟩)]
theorem XD (s:cw)(T N i:Nat):bk T (o0 s N i (dq s))=bk T (o0 s N (i+1) 0):=by
 refine fD fun x _=> ?_
 unfold o0
 by_cases d:(x / N<i∨(x / N=i∧x % N<dq s))∧x % N<dq s
 ·rw [if_pos d,if_pos ⟨by omega,d.2⟩]
 ·rw [if_neg d,if_neg (fun uX=>d ⟨by omega,uX.2⟩)]
theorem WK (s:cw)(T N:Nat):bk T (o0 s N 0 0)=bk T fun _=>0:=fD fun x _=>by
 unfold o0
 rw [if_neg (fun h=>by rcases h.1 with h|h;exact Nat.not_lt_zero _ h;exact Nat.not_lt_zero _ h.2)]
theorem XE (s:cw)(T N:Nat):bk T (o0 s N (2*fe s) 0)=bk T fun x=>tn s (x / N) (x % N):=fD fun x _=>by
 unfold o0 tn
 by_cases d:x / N<2*fe s∧x % N<dq s
 ·rw [if_pos d,if_pos ⟨.inl d.1,d.2⟩]
 ·rw [if_neg d,if_neg (fun uX=>d ⟨by omega,uX.2⟩)]
theorem WL (s:cw)(l:List Int)(M:Nat):(bk M fun x=>if x<0 then mj s l x else 0)=bk M fun _=>0:=fD fun j _=>by rw [if_neg (by omega)]
theorem XF (s:cw)(l:List Int)(M:Nat):(bk M fun x=>if x<2*fe s then mj s l x else 0)=bk M (mj s l):=fD fun j _=>by
 by_cases c:j<2*fe s
 ·rw [if_pos c]
 ·rw [if_neg c];unfold mj;rw [if_neg c]
theorem Vh (s:cw)(h:mc s)(l:List Int)(aG:l.length=2*s.cx.length)(aM:∀x∈l,-100≤x∧x≤100)(dM ju:Nat)(ac4:dM≤100)(ac5:ju≤100):
 tr s l (dM:Int) (ju:Int)=some (((2*fe s+ju:Nat):Int),((dq s+dM:Nat):Int),bk ((2*fe s+ju)*(dq s+dM)) (fun x=>tn s (x / (dq s+dM)) (x % (dq s+dM))),bk (2*fe s+ju) (mj s l),bk (dq s+dM) fun _=>0):=by
 obtain ⟨-,-,f3,f4⟩:=id h
 have AG:=Iz s
 have uZ:=IA s
 have ac6:(2*fe s+ju)*(dq s+dM)≤112*116:=Nat.mul_le_mul (by omega) (by omega)
 unfold tr
 refine aE (Tt s h) (aE (x:=gX s) (ME s (by omega)) ?_)
 have iS:U ((len_ (eR 1 J) (bk (2*fe s) fun r=>bk s.b8.length (nH s r)))+(ju:Int))=((2*fe s+ju:Nat):Int):=by rw [g8,dG,cP (by omega) (by omega)];omega
 have pw:U ((len_ fq (gX s))+(dM:Int))=((dq s+dM:Nat):Int):=by
  rw [g8];show U (((dq s:Nat):Int)+(dM:Int))=_
  rw [cP (by omega) (by omega)];omega
 have xI:U (((2*fe s+ju:Nat):Int)*((dq s+dM:Nat):Int))=(((2*fe s+ju)*(dq s+dM):Nat):Int):=by rw [← Int.natCast_mul,cP (by omega) (by omega)]
 rw [iS,pw,xI,Int.toNat_natCast,Int.toNat_natCast,Int.toNat_natCast,pL,pL,pL,g8,dG]
 refine b2 (by omega) (b2 (by omega) (b2 (by omega) ?_))
 refine aE (x:=bk ((2*fe s+ju)*(dq s+dM)) (fun x=>tn s (x / (dq s+dM)) (x % (dq s+dM)))) ?_ ?_
 ·unfold Ey
  obtain ⟨x,e,-⟩:=jb (f:=fun w:Int×List Int=>u3 s.cx s.b8 l (gX s) (bk (2*fe s) fun r=>bk s.b8.length (nH s r)) ((2*fe s:Nat):Int) ((2*fe s+ju:Nat):Int) ((dq s+dM:Nat):Int) (bk (2*fe s+ju) fun _=>0) (bk (dq s+dM) fun _=>0) w.1 w.2) (fun (i:Nat) (_:Unit)=>((i:Int),bk ((2*fe s+ju)*(dq s+dM)) (o0 s (dq s+dM) i 0))) (2*fe s) (fun _ _=>True) (fun _=>bk ((2*fe s+ju)*(dq s+dM)) (fun x=>tn s (x / (dq s+dM)) (x % (dq s+dM))))
   (fun i af _ _=>by
     refine ⟨(),?_,trivial⟩
     have p4:(i+1)*(dq s+dM)≤(2*fe s+ju)*(dq s+dM):=Nat.mul_le_mul_right _ (by omega)
     rw [Nat.succ_mul] at p4
     obtain ⟨y,aF,-⟩:=jb (f:=fun w:Int×List Int=>u2 s.cx s.b8 l (gX s) (i:Int) (bk s.b8.length (nH s i)) (bk (2*fe s) fun r=>bk s.b8.length (nH s r)) ((2*fe s:Nat):Int) ((dq s:Nat):Int) ((2*fe s+ju:Nat):Int) ((dq s+dM:Nat):Int) (bk (2*fe s+ju) fun _=>0) (bk (dq s+dM) fun _=>0) w.1 w.2) (fun (c:Nat) (_:Unit)=>((c:Int),bk ((2*fe s+ju)*(dq s+dM)) (o0 s (dq s+dM) i c))) (dq s) (fun _ _=>True) (fun _=>bk ((2*fe s+ju)*(dq s+dM)) (o0 s (dq s+dM) i (dq s)))
      (fun c aP _ _=>by
        refine ⟨(),?_,trivial⟩
        obtain ⟨ka,jV,lM⟩:=C4 s aP
        have ac7:=O6 s h i aP
        have aa2:U (U ((i:Int)*((dq s+dM:Nat):Int))+((c:Nat):Int))=((i*(dq s+dM)+c:Nat):Int):=by
         rw [← Int.natCast_mul,cP (x:=((i*(dq s+dM):Nat):Int)) (by omega) (by omega),cP (by omega) (by omega)];omega
        unfold u2
        refine dQ (by simp only;omega) (b2 (by show _∧((c:Nat):Int)<((dq s:Nat):Int);simp only;omega) (aE (x:=⟨(qR s c:Int),ru s c⟩) (by simp only;rw [Int.toNat_natCast];exact ka) (b2 (by rw [dG];simp only;omega) (aE (x:=nH s i (qR s c)) (by simp only;rw [Int.toNat_natCast];exact iL jV) ?_))))
        simp only
        rw [aa2]
        refine b2 (by rw [dG];omega) (b2 (by rw [dG,Int.toNat_natCast];omega) ?_)
        rw [fZ (by omega),Int.toNat_natCast,Nat.zero_add,show ru s c*nH s i (qR s c)=nN s i c from rfl,cP (by omega) (by omega),XC s aP (by omega) (by omega) rfl])
      (fun _ _=>by unfold u2;exact dR (by simp) rfl) () trivial
     unfold u3
     refine dQ (by simp only;omega) (b2 (by rw [dG];simp only;omega) (aE (x:=bk s.b8.length (nH s i)) (by simp only;rw [Int.toNat_natCast];exact iL af) (aE (x:=bk ((2*fe s+ju)*(dq s+dM)) (o0 s (dq s+dM) i (dq s))) (by unfold Ex;rw [g8];exact aF) ?_)))
     simp only
     rw [fZ (by omega),XD])
   (fun _ _=>by
     unfold u3
     refine dR (by simp) ?_
     simp only
     rw [XE]) () trivial
  rw [WK] at e
  exact e
 refine aE (LM s (by omega)) ?_
 rw [ND,fY,dG]
 refine aE (x:=bk (2*fe s+ju) (mj s l)) ?_ rfl
 unfold Ez
 obtain ⟨x,e,-⟩:=jb (f:=fun w:Int×List Int=>u4 l (bk (fe s) fun q=>((jD s q:Nat):Int)) ((fe s:Nat):Int) ((2*fe s+ju:Nat):Int) ((dq s+dM:Nat):Int) (bk ((2*fe s+ju)*(dq s+dM)) (fun x=>tn s (x / (dq s+dM)) (x % (dq s+dM)))) (bk (dq s+dM) fun _=>0) w.1 w.2) (fun (n:Nat) (_:Unit)=>((n:Int),bk (2*fe s+ju) fun x=>if x<2*n then mj s l x else 0)) (fe s) (fun _ _=>True) (fun _=>bk (2*fe s+ju) (mj s l))
  (fun n a1 _ _=>by
    refine ⟨(),?_,trivial⟩
    have b7:=XB s a1
    have pw : ∀a:Nat,a≤1000→U ((2:Int)*((a:Nat):Int))=((2*a:Nat):Int):=fun a bA=>by rw [cP (by omega) (by omega)];omega
    have fm:=aM l[2*jD s n] (List.getElem_mem (by omega))
    have eN:=aM l[2*jD s n+1] (List.getElem_mem (by omega))
    have gK:mj s l (2*n) = -l[2*jD s n]:=by
     unfold mj pz
     rw [if_pos (by omega),show 2*n / 2=n by omega,show 2*n % 2=0 by omega,Nat.add_zero,List.getD_eq_getElem?_getD,List.getElem?_eq_getElem (by omega)];rfl
    have h7:mj s l (2*n+1) = -l[2*jD s n+1]:=by
     unfold mj pz
     rw [if_pos (by omega),show (2*n+1) / 2=n by omega,show (2*n+1) % 2=1 by omega,List.getD_eq_getElem?_getD,List.getElem?_eq_getElem (by omega)];rfl
    have cM : ∀k v,v=mj s l k→(bk (2*fe s+ju) fun x=>if x<k then mj s l x else 0).set k v=bk (2*fe s+ju) fun x=>if x<k+1 then mj s l x else 0:=fun k v aY=>by
     rw [lb]
     refine fD fun j _=> ?_
     by_cases c:j=k
     ·subst c;rw [if_pos rfl,if_pos (by omega)];exact aY
     ·rw [if_neg c]
      by_cases cN:j<k
      ·rw [if_pos cN,if_pos (by omega)]
      ·rw [if_neg cN,if_neg (by omega)]
    unfold u4
    refine dQ (by simp only;omega) (b2 (by rw [dG];simp only;omega) (aE (x:=((jD s n:Nat):Int)) (by simp only;rw [Int.toNat_natCast];exact iL a1) ?_))
    simp only
    rw [pw (jD s n) (by omega),pw n (by omega),fZ (n:=2*jD s n) (by omega),fZ (n:=2*n) (by omega)]
    refine b2 (by omega) (aE (x:=l[2*jD s n]) (by rw [Int.toNat_natCast];exact List.getElem?_eq_getElem (by omega)) (b2 (by omega) (aE (x:=l[2*jD s n+1]) (by rw [Int.toNat_natCast];exact List.getElem?_eq_getElem (by omega)) ?_)))
    refine b2 (by rw [dG];omega) (b2 (by rw [dG,Int.toNat_natCast];omega) (b2 (by rw [dG];omega) (b2 (by rw [List.length_set,dG,Int.toNat_natCast];omega) ?_)))
    rw [fZ (by omega),cP (x:=0-l[2*jD s n]) (by omega) (by omega),cP (x:=0-l[2*jD s n+1]) (by omega) (by omega),Int.toNat_natCast,Int.toNat_natCast,Nat.zero_add,Nat.zero_add,cM _ _ (by rw [gK];omega),cM _ _ (by rw [h7];omega),show 2*(n+1)=2*n+1+1 by omega])
  (fun _ _=>by
    unfold u4
    refine dR (by simp) ?_
    simp only
    rw [XF]) () trivial
 rw [Nat.mul_zero,WL] at e
 exact e
theorem Hx (s:cw)(h:mc s)(l:List Int)(aG:l.length=2*s.cx.length)(aM:∀x∈l,-100≤x∧x≤100):
 tr s l 0 0=some ((kt s l).j2,(kt s l).jh,(kt s l).f8,(kt s l).f9,(kt s l).kG):=by
 have e:=Vh s h l aG aM 0 0 (by omega) (by omega)
 rw [show ((0:Nat):Int)=0 from rfl] at e
 have hA:bk (2*fe s*dq s) (fun x=>tn s (x / dq s) (x % dq s))=bk (2*fe s*dq s) (fun x=>nN s (x / dq s) (x % dq s)):=fD fun x aa=>by
  have uZ:0<dq s:=by
   rcases Nat.eq_zero_or_pos (dq s) with c|c
   ·rw [c,Nat.mul_zero] at aa;omega
   ·exact c
  unfold tn
  rw [if_pos ⟨Nat.div_lt_of_lt_mul (by rw [Nat.mul_comm];exact aa),Nat.mod_lt _ uZ⟩]
 have gw:bk (2*fe s) (mj s l)=bk (2*fe s) (pz s l):=fD fun x aa=>by unfold mj;rw [if_pos aa]
 rw [e]
 simp only [Nat.add_zero,kt]
 rw [hA,gw]
theorem Wc {x:Rat}(h:hP x):wk (k6 x)=some true:=by
 have p:=h.c5
 have o:=p.sZ
 have R:=p.s0
 obtain ⟨I,-,e,k⟩:=Uw (r:=k6 x) (show (L (gn x).1.natAbs).length≤_ by omega) (show (L (gn x).2).length≤_ by omega)
 rw [e,k.2 ⟨gn x,p,rfl⟩]
theorem mM {x:Rat}(h:hP x):wu (k6 x)=some (gI x):=aE (Wc h) (ep rfl rfl)
theorem Im (x:Rat):rA (gI x)=some (kU (gn x).1):=Vd
theorem yD {x:Rat}(h:hP x):ym (k6 x)=some (kU (gn x).1):=aE (mM h) (aE (Im x) rfl)
theorem X7 {x y:Rat}(aa:hP x)(aS:hP y): ∃c,vY (gI x) (gI y)=some c:=by
 have p:=aa.c5
 have q:=aS.c5
 have o:=p.sZ
 have R:=p.s0
 have ae:=q.sZ
 have ay:=q.s0
 exact ⟨_,TK p.pos q.pos p.num p.den q.num q.den (by omega) (by omega) (by omega) (by omega)⟩
theorem yZ {x:Rat}(h:hP x):tL (gI x)=some (k6 x):=by
 have p:=h.c5
 have o:=p.sZ
 have R:=p.s0
 refine aE (I:=x2 (jU (gn x)).pf) (x:=gr (gn x).1) ?_ (aE (x:=L (gn x).2) (HM (a:=L (gn x).2) (by omega)) rfl)
 unfold x2
 exact dR (by rw [fY];show ¬(60:Int)<((L ((gn x).1.natAbs:Int)).length:Nat);omega) (aE (x:=L ((gn x).1.natAbs:Int)) (HM (a:=L ((gn x).1.natAbs:Int)) (by omega)) rfl)
theorem O7 (x:Rat):yJ (gI x)=some (gI (-x)):=by
 have e:o1 (gr x.num)=some (gr (-x.num)):=by
  have:o1 (gr x.num)=(ku (!(decide (x.num<0))) (L (x.num.natAbs:Int))).bind fun r=>some r:=rfl
  rw [this,pF (by omega)]
  have:eD (!(decide (x.num<0))) (x.num.natAbs:Int) = -x.num:=by
   unfold eD
   by_cases c:x.num<0
   ·rw [decide_eq_true c];simp;omega
   ·rw [decide_eq_false c];simp;omega
  rw [this];rfl
 refine aE (I:=o1 (gr x.num)) e ?_
 unfold gI gn
 rw [Rat.neg_num,Rat.neg_den];rfl
theorem yO:hP 0:=N2 (n:=0) (by rw [nT];omega)
theorem I4:x8 0=some (k6 0):=aE (CQ (n:=0) (by rw [nT];omega)) (aE (yZ yO) rfl)
def lX (s:cw)(k sign:Int)(c:Nat):Int:=if (qR s c:Int)=k then sign*ru s c else 0
theorem WM (s:cw)(k:Int){sign:Int}(h:sign=1∨sign = -1){c:Nat}(aP:c<dq s): -1≤lX s k sign c∧lX s k sign c≤1:=by
 obtain ⟨-,-,lM⟩:=C4 s aP
 unfold lX
 split
 ·rcases h with rfl|rfl<;>rcases lM with e|e<;>rw [e]<;>omega
 ·omega
theorem OJ (s:cw)(v:mc s)(k sign:Int)(bR:sign=1∨sign = -1)(x0 fm:Int)(eQ d6:List Int)(f:Nat→Int):tv s k sign x0 fm eQ d6 (bk (dq s) f)=some (bk (dq s) (lX s k sign)):=by
 have uZ:=IA s
 have v4:=v.2.2.2
 unfold tv
 refine aE (x:=gX s) (ME s (by omega)) (aE ?_ rfl)
 unfold Fc
 have aG:len_ fq (gX s)=((dq s:Nat):Int):=g8 ..
 rw [aG]
 obtain ⟨x,e,-⟩:=jb (f:=fun w:Int×List Int=>vk k sign (gX s) ((dq s:Nat):Int) x0 fm eQ d6 w.1 w.2) (fun (n:Nat) (_:Unit)=>((n:Int),bk (dq s) fun j=>if j<n then lX s k sign j else f j)) (dq s) (fun _ _=>True) (fun _=>bk (dq s) (lX s k sign))
  (fun n a1 _ _=>by
    refine ⟨(),?_,trivial⟩
    obtain ⟨ka,jV,lM⟩:=C4 s a1
    have cM : ∀a,(bk (dq s) fun j=>if j<n then lX s k sign j else f j).set n a=bk (dq s) fun j=>if j=n then a else if j<n then lX s k sign j else f j:=fun a=>lb ..
    have fin : ∀a,a=lX s k sign n→(bk (dq s) fun j=>if j=n then a else if j<n then lX s k sign j else f j)=bk (dq s) fun j=>if j<n+1 then lX s k sign j else f j:=fun a bA=>fD fun j _=>by
     by_cases c:j=n
     ·subst c;rw [if_pos rfl,if_pos (by omega),bA]
     ·rw [if_neg c]
      by_cases d:j<n
      ·rw [if_pos d,if_pos (by omega)]
      ·rw [if_neg d,if_neg (by omega)]
    unfold vk
    simp only
    rw [fZ (by omega),Int.toNat_natCast,Nat.zero_add,cM]
    refine dQ (by omega) (b2 (by show _∧((n:Nat):Int)<((dq s:Nat):Int);omega) (aE ka (b2 (by rw [dG];omega) (b2 (by rw [dG];omega) ?_))))
    by_cases c:(qR s n:Int)=k
    ·refine ep (by simp only;rw [c];simp) (b2 (by rw [dG];omega) ?_)
     rw [lb,cP (by rcases bR with rfl|rfl<;>rcases lM with e|e<;>simp only [e]<;>omega) (by rcases bR with rfl|rfl<;>rcases lM with e|e<;>simp only [e]<;>omega)]
     congr 3
     rw [← fin (sign*ru s n) (by unfold lX;rw [if_pos c])]
     exact fD fun j _=>by
      by_cases d:j=n
      ·rw [if_pos d,if_pos d]
      ·rw [if_neg d,if_neg d,if_neg d]
    ·refine fB (by simp only;exact beq_false_of_ne c) ?_
     rw [fin 0 (by unfold lX;rw [if_neg c])])
  (fun _ _=>by
    unfold vk
    refine dR (by simp) ?_
    simp only
    congr 2
    exact fD fun j aC=>by rw [if_pos aC]) () trivial
 have e0:(bk (dq s) fun j=>if j<0 then lX s k sign j else f j)=bk (dq s) f:=fD fun j _=>by rw [if_neg (by omega)]
 rw [← e0];exact e
theorem X8 {p:nn}{m n:Nat}{a:Nat→Nat→Int}{b:Nat→Int}(h:oz p m n a b)(C:List Int):oz ⟨p.j2,p.jh,p.f8,p.f9,C⟩ m n a b :=
 ⟨h.rows,h.gX,h.mI,h.Dq,h.Kx,h.I0,h.hm,h.a1,h.xG,h.AS⟩
theorem M3 (s:cw)(v:mc s)(l:List Int)(aM:∀x∈l,-100≤x∧x≤100)(ng:oL (2*fe s) (dq s) (nN s) (pz s l))(k:Int){sign:Int}(bR:sign=1∨sign = -1):
 ∃r,sy (kt s l).j2 (kt s l).jh (kt s l).f8 (kt s l).f9 (bk (dq s) (lX s k sign))=some r∧(r=(3,[],none)∨ ∃X y,hP y∧r=(0,X,gI y)):=by
 obtain ⟨r,e,h⟩:=Wb (X8 (OI s v l aM) (bk (dq s) (lX s k sign))) (c:=lX s k sign) rfl (fun j aC=>by have:=WM s k bR aC;omega)
 refine ⟨r,e,?_⟩
 rcases h with ⟨h,-⟩|⟨-,-,h⟩|⟨x,-,-,o,R⟩
 ·exact (h ng).elim
 ·exact .inl h
 ·exact .inr ⟨_,_,o,R⟩
theorem WN (s:cw)(v:mc s)(l:List Int)(aM:∀x∈l,-100≤x∧x≤100)(ng:oL (2*fe s) (dq s) (nN s) (pz s l))(k:Int):
 ∃bD af gm pA C,hP bD∧hP af∧C.length=dq s∧xT s k (kt s l).j2 (kt s l).jh (kt s l).f8 (kt s l).f9 (kt s l).kG=some ((k6 bD).gW.cU,(k6 bD).gW.cy,(k6 bD).hb,(k6 af).gW.cU,(k6 af).gW.cy,(k6 af).hb,gm,pA,true,C):=by
 obtain ⟨ad,ax,o⟩:=M3 s v l aM ng k (sign:=1) (.inl rfl)
 obtain ⟨b3,aF,R⟩:=M3 s v l aM ng k (sign:= -1) (.inr rfl)
 have hn:=OJ s v k 1 (.inl rfl) (kt s l).j2 (kt s l).jh (kt s l).f8 (kt s l).f9 (fun _=>0)
 have im:=OJ s v k (-1) (.inr rfl) (kt s l).j2 (kt s l).jh (kt s l).f8 (kt s l).f9 (lX s k 1)
 have aP:(bk (dq s) (lX s k (-1))).length=dq s:=dG ..
 unfold xT
 rcases o with rfl|⟨X,y,aS,rfl⟩<;>rcases R with rfl|⟨Z,z,cd,rfl⟩
 ·exact ⟨0,0,true,true,_,yO,yO,aP,aE hn (aE ax (fB rfl (ep rfl (aE I4 (aE im (aE aF (ep rfl rfl)))))))⟩
 ·exact ⟨-z,0,false,true,_,cd.neg,yO,aP,aE hn (aE ax (fB rfl (ep rfl (aE I4 (aE im (aE aF (fB rfl (aE (O7 z) (aE (Df cd.neg) (aE (yZ cd.neg) rfl))))))))))⟩
 ·exact ⟨0,y,true,false,_,yO,aS,aP,aE hn (aE ax (fB rfl (fB rfl (aE (Df aS) (aE (yZ aS) (aE im (aE aF (ep rfl (aE I4 rfl)))))))))⟩
 ·exact ⟨-z,y,false,false,_,cd.neg,aS,aP,aE hn (aE ax (fB rfl (fB rfl (aE (Df aS) (aE (yZ aS) (aE im (aE aF (fB rfl (aE (O7 z) (aE (Df cd.neg) (aE (yZ cd.neg) rfl)))))))))))⟩
theorem WO {bD af:Rat}(aG:hP bD)(eO:hP af)(gm pA:Bool): ∃b,yr ⟨k6 bD,k6 af,gm,pA⟩=some b:=by
 have he : ∃e,BN ⟨k6 bD,k6 af,gm,pA⟩=some e:=by
  obtain ⟨c,aP⟩:=X7 aG eO
  have s1:=Im bD
  have s2:=Im af
  cases gm<;>cases pA
  ·exact ⟨_,aE (mM aG) (aE (mM eO) (aE aP rfl))⟩
  ·by_cases q:(kU (gn af).1 != 0)=true
   ·exact ⟨_,aE (mM aG) (aE (mM eO) (aE s2 (ep q rfl)))⟩
   ·exact ⟨_,aE (mM aG) (aE (mM eO) (aE s2 (fB (by simpa using q) rfl)))⟩
  ·by_cases q:(kU (gn bD).1 != 0)=true
   ·exact ⟨_,aE (mM aG) (aE (mM eO) (aE s1 (ep q rfl)))⟩
   ·exact ⟨_,aE (mM aG) (aE (mM eO) (aE s1 (fB (by simpa using q) rfl)))⟩
  ·by_cases q:(kU (gn bD).1 != 0)=true
   ·exact ⟨_,aE (mM aG) (aE (mM eO) (aE s1 (ep q rfl)))⟩
   ·by_cases bh:(kU (gn af).1 != 0)=true
    ·exact ⟨_,aE (mM aG) (aE (mM eO) (aE s1 (fB (by simpa using q) (aE s2 (ep bh rfl)))))⟩
    ·exact ⟨_,aE (mM aG) (aE (mM eO) (aE s1 (fB (by simpa using q) (aE s2 (fB (by simpa using bh) rfl)))))⟩
 obtain ⟨e,he⟩:=he
 have aU:B8 ⟨k6 bD,k6 af,gm,pA⟩=some e.2.2:=aE he rfl
 unfold yr
 cases q:e.2.2 with
 | false=>rw [q] at aU;exact ⟨_,aE aU (fB rfl rfl)⟩
 | true =>
  rw [q] at aU
  cases gm with
  | true=>exact ⟨_,aE aU (ep rfl (ep rfl rfl))⟩
  | false=>exact ⟨_,aE aU (ep rfl (fB rfl rfl))⟩
def pt (fz:List bB)(list:List Int):Nat→List bB
 | 0=>[]
 | n+1=>pt fz list n++(match fz[n]? with
  | some x=>if (n:Int)∈list then [] else [x]
  | none=>[])
theorem HZ (fz:List bB)(list:List Int): ∀n,(pt fz list n).length≤n
 | 0=>by simp [pt]
 | n+1=>by
  have:=HZ fz list n
  rw [pt,List.length_append]
  have R:(match fz[n]? with
   | some x=>if (n:Int)∈list then [] else [x]
   | none=>[]).length≤1:=by
   split
   ·split<;>simp
   ·simp
  omega
theorem Ob {fz:List bB}{list:List Int}: ∀ {n:Nat} {m:bB},m∈pt fz list n→m∈fz
 | 0,m,h=>by simp [pt] at h
 | n+1,m,h=>by
  rw [pt,List.mem_append] at h
  rcases h with h|h
  ·exact Ob h
  ·split at h
   ·rename_i x aa
    split at h
    ·simp at h
    ·simp at h;subst h;exact List.mem_of_getElem? aa
   ·simp at h
def tf (s:cw)(list:List Int):cw:=⟨s.cx,pt s.b8 list s.b8.length⟩
theorem I5 {n:Nat}(h:n<1000000000000):U ((n:Int)+1)=((n+1:Nat):Int):=by
 rw [cP (by omega) (by omega)];omega
theorem T6 (list:List Int)(aG:list.length≤1048576)(k:Int):rH list k=some (decide (k∈list)):=by
 unfold rH yW Cd
 rw [fY]
 obtain ⟨r,e,h⟩:=pG (f:=fun w:Int=>rz list k (list.length:Nat) w) (fun (i:Nat) (_:Unit)=>(i:Int)) list.length (fun i _=> ∀j,j<i→list[j]? ≠ some k) (fun r=>(∃i:Nat,r = .inr (i:Int)∧k∈list)∨(r = .inl ()∧k ∉ list))
  (fun i af _ cW=>by
    have aa:=List.getElem?_eq_getElem af
    unfold rz
    by_cases c:list[i]=k
    ·right
     exact ⟨_,dQ (by omega) (b2 (by omega) (aE (x:=list[i]) (by rw [Int.toNat_natCast];exact aa) (ep (Jx c.symm) rfl))),.inl ⟨i,rfl,c▸List.getElem_mem af⟩⟩
    ·left
     refine ⟨(),dQ (by omega) (b2 (by omega) (aE (x:=list[i]) (by rw [Int.toNat_natCast];exact aa) (fB (Ae (Ne.symm c)) (by rw [I5 (by omega)])))),fun j aC=> ?_⟩
     by_cases e:j=i
     ·rw [e,aa];exact fun h=>c (Option.some.inj h)
     ·exact cW j (by omega))
  (fun _ cW=>⟨_,by unfold rz;exact dR (by omega) rfl,.inr ⟨rfl,fun aU=>by
    obtain ⟨j,aC,e⟩:=List.getElem_of_mem aU
    exact cW j aC (by rw [List.getElem?_eq_getElem aC,e])⟩⟩) () (fun j aC=>by omega)
 rcases h with ⟨i,rfl,h⟩|⟨rfl,h⟩
 ·exact aE (x:=(i:Int)) (aE e rfl) (by rw [decide_eq_true h];simp)
 ·exact aE (x:=(-1:Int)) (aE e rfl) (by rw [decide_eq_false h];rfl)
theorem T7 (s:cw)(aC:s.cx.length≤1000)(hm:s.b8.length≤1000)(list:List Int)(aG:list.length≤1048576):su s list=some (tf s list):=by
 unfold su Fh BT
 rw [g8]
 refine aE (x:=s.cx) (b2 (by omega) rfl) ?_
 obtain ⟨x,e,-⟩:=jb (f:=fun w:Int×List bB=>vl list s.b8 (s.b8.length:Nat) s.cx w.1 w.2) (fun (i:Nat) (_:Unit)=>((i:Int),pt s.b8 list i)) s.b8.length (fun _ _=>True) (fun _=>pt s.b8 list s.b8.length)
  (fun i af _ _=>by
    refine ⟨(),?_,trivial⟩
    have aa:=List.getElem?_eq_getElem af
    have hw:=HZ s.b8 list i
    have ax:pt s.b8 list (i+1)=pt s.b8 list i++(if (i:Int)∈list then [] else [s.b8[i]]):=by rw [pt,aa]
    unfold vl
    refine dQ (by simp only;omega) (b2 (by simp only;omega) (aE (x:=s.b8[i]) (by simp only;rw [Int.toNat_natCast];exact aa) (aE (T6 list aG _) ?_)))
    simp only
    rw [fZ (by omega),ax]
    by_cases c:(i:Int)∈list
    ·rw [if_pos c]
     exact ep (decide_eq_true c) (by rw [List.append_nil])
    ·rw [if_neg c]
     exact fB (decide_eq_false c) (b2 (by simp only [List.length_append,List.length_cons,List.length_nil];omega) rfl))
  (fun _ _=>by unfold vl;exact dR (by simp) rfl) () trivial
 exact aE e rfl
def lx (fz:List bB)(k:Int):Bool:=decide (0≤k) && (match fz[k.toNat]? with|some m=>m.lg == 1|none=>false)
theorem Hy (s:cw)(k:Int):vw s k=some (lx s.b8 k):=by
 unfold vw lx
 by_cases h0:0≤k
 ·refine dQ h0 ?_
  by_cases o:k<s.b8.length
  ·have aa:=List.getElem?_eq_getElem (show k.toNat<s.b8.length by omega)
   refine dQ (by rw [g8];exact o) (b2 ⟨h0,o⟩ (aE aa ?_))
   rw [decide_eq_true h0,aa];simp
  ·refine dR (by rw [g8];exact o) ?_
   rw [List.getElem?_eq_none (by omega)];simp
 ·refine dR h0 ?_
  rw [decide_eq_false h0];simp
theorem Vi (s:cw)(hm:s.b8.length≤8)(list:List Int)(aG:list.length≤1048576):xN list s=some (!(list.all (lx s.b8))):=by
 have no : ∀ {i:Nat} {x:Int},list[i]? = some x→lx s.b8 x=false→list.all (lx s.b8)=false:=fun aa h=>by
  rw [List.all_eq_false];exact ⟨_,List.mem_of_getElem? aa,by rw [h];simp⟩
 have yes:(∀i,i<list.length→ ∀x,list[i]? = some x→lx s.b8 x=true)→list.all (lx s.b8)=true:=fun h=>by
  rw [List.all_eq_true];intro x aa
  obtain ⟨i,af⟩:=List.getElem?_of_mem aa
  exact h i (ft af) x af
 obtain ⟨r,e,h⟩:=pG (f:=fun w:Int=>u5 list s.cx s.b8 (list.length:Nat) w) (fun (i:Nat) (_:Unit)=>(i:Int)) list.length (fun i _=> ∀j,j<i→ ∀x,list[j]? = some x→lx s.b8 x=true) (fun r=>(∃i:Nat,r = .inr (i:Int)∧list.all (lx s.b8)=false)∨(r = .inl ()∧list.all (lx s.b8)=true))
  (fun i af _ cW=>by
    have aa:=List.getElem?_eq_getElem af
    unfold u5 Bw
    by_cases c:lx s.b8 list[i]=true
    ·left
     refine ⟨(),dQ (by omega) (b2 (by omega) (aE (x:=list[i]) (by rw [Int.toNat_natCast];exact aa) (aE (x:=false) (aE (Hy _ _) (by rw [c];rfl)) (fB rfl (by rw [I5 (by omega)]))))),fun j aC x zY=> ?_⟩
     by_cases e:j=i
     ·rw [e,aa] at zY;obtain rfl:=Option.some.inj zY;exact c
     ·exact cW j (by omega) x zY
    ·right
     rw [Bool.not_eq_true] at c
     exact ⟨_,dQ (by omega) (b2 (by omega) (aE (x:=list[i]) (by rw [Int.toNat_natCast];exact aa) (aE (x:=true) (aE (Hy _ _) (by rw [c];rfl)) (ep rfl rfl)))),.inl ⟨i,rfl,no aa c⟩⟩)
  (fun _ cW=>⟨_,by unfold u5;exact dR (by omega) rfl,.inr ⟨rfl,yes fun i af=>cW i af⟩⟩) () (fun j aC=>by omega)
 unfold xN A3 EA
 rw [fY]
 rcases h with ⟨i,rfl,h⟩|⟨rfl,h⟩
 ·exact aE (x:=(i:Int)) (aE e rfl) (by rw [h];simp)
 ·exact aE (x:=(-1:Int)) (aE e rfl) (by rw [h];rfl)
def kB (p:Nat→Bool):Nat→List Int
 | 0=>[]
 | n+1=>if p n then kB p n++[(n:Int)] else kB p n
theorem yP (p:Nat→Bool): ∀n,(kB p n).length≤n
 | 0=>Nat.le_refl _
 | n+1=>by
  have:=yP p n
  rw [kB]
  split
  ·rw [List.length_append,List.length_singleton];omega
  ·omega
theorem NE {f:Int×List Int→Option ((Int×List Int)⊕List Int)}(p:Nat→Bool)(N:Nat)
 (h : ∀n,n<N→f ((n:Int),kB p n)=some (.inl (((n+1:Nat):Int),if p n then kB p n++[(n:Int)] else kB p n)))
 (he:f ((N:Int),kB p N)=some (.inr (kB p N))):iter f (0,[])=some (kB p N):=by
 obtain ⟨x,e,-⟩:=jb (f:=f) (fun (i:Nat) (_:Unit)=>((i:Int),kB p i)) N (fun _ _=>True) (fun _=>kB p N) (fun n a1 _ _=>⟨(),h n a1,trivial⟩) (fun _ _=>he) () trivial
 exact e
theorem OK (x:Int):0≤U (((BitVec.ofInt (IntKind.bits .i64) x &&& BitVec.ofInt (IntKind.bits .i64) (255:Int)).toNat:Int))∧U (((BitVec.ofInt (IntKind.bits .i64) x &&& BitVec.ofInt (IntKind.bits .i64) (255:Int)).toNat:Int))≤255:=by
 have h:(BitVec.ofInt (IntKind.bits .i64) x &&& BitVec.ofInt (IntKind.bits .i64) (255:Int)).toNat≤255:=by
  rw [BitVec.toNat_and]
  exact Nat.le_trans Nat.and_le_right (Nat.le_of_eq (by decide))
 rw [cP (by omega) (by omega)]
 omega
theorem WQ (c:List Int)(aP:c.length≤1048576)(i h:Int)(af:0≤i): ∃b eI cj,rC c i h=some (b,eI,cj)∧(0≤b∧b≤255)∧0≤eI:=by
 unfold rC
 by_cases e:i<c.length
 ·have aa:=List.getElem?_eq_getElem (show i.toNat<c.length by omega)
  exact ⟨_,_,_,dQ (by show i<((c.map eU8).length:Nat);rw [List.length_map];exact e) (b2 ⟨af,e⟩ (aE aa rfl)),OK _,by rw [cP (by omega) (by omega)];omega⟩
 ·exact ⟨_,_,_,dR (by show ¬i<((c.map eU8).length:Nat);rw [List.length_map];exact e) rfl,OK _,af⟩
theorem la (n:Int)(o:1≤n)(R:n≤256)(c:List Int)(aP:c.length≤1048576)(i h:Int)(af:0≤i): ∃b eI cj,jZ n c i h=some (b,eI,cj)∧(0≤b∧b<n)∧0≤eI:=by
 obtain ⟨b,eI,cj,e,aM,i1⟩:=WQ c aP i h af
 unfold jZ
 refine ⟨b.tmod n,eI,cj,dR (by omega) (dQ R (aE e (b2 (by omega) rfl))),?_,i1⟩
 rw [Int.tmod_eq_emod_of_nonneg aM.1]
 exact ⟨Int.emod_nonneg _ (by omega),Int.emod_lt_of_pos _ (by omega)⟩
theorem H0 (n:Int)(o:1≤n)(R:n≤256)(c:List Int)(aP:c.length≤1048576)(i h:Int)(af:0≤i): ∃b eI cj,vV n c i h=some (b,eI,cj)∧0≤eI:=by
 obtain ⟨b,eI,cj,e,-,i1⟩:=la n o R c aP i h af
 exact ⟨b == 0,eI,cj,aE e rfl,i1⟩
theorem H2 (l:List Int)(o:1≤l.length)(R:l.length≤256)(c:List Int)(aP:c.length≤1048576)(i h:Int)(af:0≤i): ∃b eI cj,vW l c i h=some (b,eI,cj)∧b∈l∧0≤eI:=by
 obtain ⟨b,eI,cj,e,aM,i1⟩:=la (len_ J l) (by rw [g8];omega) (by rw [g8];omega) c aP i h af
 rw [g8] at aM
 have aa:=List.getElem?_eq_getElem (show b.toNat<l.length by omega)
 exact ⟨_,eI,cj,aE e (b2 (by simp only;omega) (aE aa rfl)),List.getElem_mem _,i1⟩
theorem XG (c:List Int)(aP:c.length≤1048576): ∃h,BQ c=some h:=by
 obtain ⟨r,e,-⟩:=pG (f:=fun w:Int×Int=>vu c w.1 w.2) (fun (n:Nat) (s:Int)=>(s,(n:Int))) c.length (fun _ _=>True) (fun _=>True)
  (fun n a1 s _=>by
    have aa:=List.getElem?_eq_getElem a1
    simp only
    unfold vu
    have aG:(n:Int)<len_ eU8 c:=by rw [g8];omega
    by_cases d:(n:Int)<4000
    ·exact .inl ⟨_,dQ aG (dQ d (b2 (by omega) (aE (gt rfl aa) (by rw [nc (by omega)])))),trivial⟩
    ·exact .inr ⟨_,dQ aG (dR d rfl),trivial⟩)
  (fun s _=>⟨_,by simp only;unfold vu;exact dR (by rw [g8];omega) rfl,trivial⟩) (U ((1975:Int)+len_ eU8 c)) trivial
 exact ⟨r,aE e rfl⟩
theorem OL (s:cw)(v:mc s)(a1:∀(n:Nat) j,s.cx[n]? = some j→tI j.mO=some true)(ba:∀(i k:Nat) x y,s.cx[i]? = some x→s.cx[k]? = some y→i≠k→(x.mO.toList == y.mO.toList)=false):sw s=some true:=by
 obtain ⟨f1,f2,f3,f4⟩:=v
 have J0:Bh s.cx (len_ cS s.cx) s.b8 0=some (.inl ()):=by
  unfold Bh
  rw [g8]
  obtain ⟨_,e,-⟩:=jb (f:=fun w:Int=>vq s.cx (s.cx.length:Nat) s.b8 w) (fun (i:Nat) (_:Unit)=>(i:Int)) s.cx.length (fun _ _=>True) (fun _=>(Sum.inl ():Unit⊕Unit))
   (fun i af _ _=>by
     refine ⟨(),?_,trivial⟩
     have aa:=List.getElem?_eq_getElem af
     obtain ⟨gF,h8,lK,qS⟩:=f1 i _ aa
     have aC:yh s.cx[i]=some true:=by
      unfold yh
      have p : ∀n:Int,-50≤n→n≤50→v9 n=some true:=fun n o R=>by
       unfold v9
       exact dQ o (by rw [decide_eq_true R])
      exact aE (a1 i _ aa) (ep rfl (aE (p _ gF h8) (ep rfl (aE (p _ lK qS) rfl))))
     have aU:x6 ⟨s.cx,s.b8⟩ s.cx[i].mO=some (i:Int):=by
      unfold x6 A1 Ew
      obtain ⟨r,e,rfl⟩:=pG (f:=fun w:Int=>xK s.cx s.cx[i].mO (s.cx.length:Nat) w) (fun (k:Nat) (_:Unit)=>(k:Int)) s.cx.length (fun k _=>k≤i) (fun r=>r=(Sum.inr (i:Int):Unit⊕Int))
       (fun k aU _ ac8=>by
         have aS:=List.getElem?_eq_getElem aU
         unfold xK Bu
         by_cases c:k=i
         ·subst c
          exact .inr ⟨_,dQ (by omega) (b2 (by omega) (aE (gt rfl aS) (aE rfl (ep (by simp) rfl)))),rfl⟩
         ·exact .inl ⟨(),dQ (by omega) (b2 (by omega) (aE (gt rfl aS) (aE rfl (fB (ba k i _ _ aS aa c) (by rw [fZ (by omega)]))))),by omega⟩)
       (fun _ h=>by omega) () (Nat.zero_le _)
      rw [g8]
      exact aE (x:=(i:Int)) (aE e rfl) rfl
     unfold vq
     exact dQ (by omega) (b2 (by omega) (aE (gt rfl aa) (aE aC (ep rfl (aE aU (fB (Jz rfl) (by rw [fZ (by omega)]))))))))
   (fun _ _=>by unfold vq;exact dR (by omega) rfl) () trivial
  exact e
 have pU : ∀m∈s.b8,pK s.cx m=true:=fun m hm=>by
  obtain ⟨n,a1⟩:=List.getElem?_of_mem hm
  exact f2 n m a1
 have a8:xL s.b8 s=some false:=by
  unfold xL AX Et
  rw [g8]
  obtain ⟨x,e,-⟩:=jb (f:=fun w:Int=>u1 s.b8 s.cx s.b8 (s.b8.length:Nat) w) (fun (i:Nat) (_:Unit)=>(i:Int)) s.b8.length (fun _ _=>True) (fun _=>(Sum.inl ():Unit⊕Int))
   (fun i af _ _=>by
     refine ⟨(),?_,trivial⟩
     have aa:=List.getElem?_eq_getElem af
     have aM:=pU s.b8[i] (List.getElem_mem af)
     unfold u1 Bm
     refine dQ (by omega) (b2 (by omega) (aE (gt rfl aa) (aE (x:=false) (aE (T4 _ _) (by simp [aM])) (fB rfl (by rw [fZ (by omega)]))))))
   (fun _ _=>by unfold u1;exact dR (by omega) rfl) () trivial
  exact aE (x:=(-1:Int)) (aE e rfl) rfl
 unfold sw
 exact dR (by rw [g8];omega) (dR (by rw [g8];omega) (aE J0 (aE a8 rfl)))
def oU:List ByteArray:=[⟨#[97]⟩,⟨#[98]⟩,⟨#[99]⟩,⟨#[100]⟩]
theorem M4 {k:Nat}{x:ByteArray}(h:oU[k]? = some x):tI x=some true:=by
 have key : ∀u:UInt8,97≤u.toNat→u.toNat≤122→tI ⟨#[u]⟩=some true:=fun u o R=>by
  unfold tI GK
  obtain ⟨_,e,-⟩:=jb (f:=fun w:Int=>vK ⟨#[u]⟩ (((⟨#[u]⟩:ByteArray).size:Nat):Int) w) (fun (i:Nat) (_:Unit)=>(i:Int)) 1 (fun _ _=>True) (fun _=>(Sum.inl ():Unit⊕Unit))
   (fun i af _ _=>by
     obtain rfl:i=0:=by omega
     refine ⟨(),?_,trivial⟩
     unfold vK
     have bR:(((⟨#[u]⟩:ByteArray).size:Nat):Int)=1:=rfl
     rw [bR]
     refine dQ (by omega) (b2 (by omega) (aE (x:=true) ?_ (ep rfl rfl)))
     unfold BS
     have dt:((⟨#[u]⟩:ByteArray).data.toList.getD (((0:Nat):Int)).toNat 0)=u:=rfl
     rw [dt]
     exact dQ (by omega) (by rw [decide_eq_true (by omega)]))
   (fun _ _=>by unfold vK;exact dR (by show ¬(1:Int)<1;omega) rfl) () trivial
  refine aE e ?_
  simp only
  have cF:((⟨#[u]⟩:ByteArray).toList == (⟨#[]⟩:ByteArray).toList)=false:=by
   simp [ByteArray.toList,ByteArray.toList.loop,ByteArray.size]
  rw [cF];rfl
 match k,h with
 | 0,h=>obtain rfl:=Option.some.inj h;exact key 97 (by decide) (by decide)
 | 1,h=>obtain rfl:=Option.some.inj h;exact key 98 (by decide) (by decide)
 | 2,h=>obtain rfl:=Option.some.inj h;exact key 99 (by decide) (by decide)
 | 3,h=>obtain rfl:=Option.some.inj h;exact key 100 (by decide) (by decide)
 | k+4,h=>simp [oU] at h
theorem O8 {i k:Nat}{x y:ByteArray}(h:oU[i]? = some x)(cj:oU[k]? = some y)(cF:i≠k):(x.toList == y.toList)=false:=by
 have af:=ft h
 have aU:=ft cj
 have key : ∀i k:Fin 4,i≠k→((oU[i.1]!).toList == (oU[k.1]!).toList)=false:=by decide +kernel
 have ax:oU[i]! = x:=by simp [h]
 have aF:oU[k]! = y:=by simp [cj]
 have:=key ⟨i,by simpa [oU] using af⟩ ⟨k,by simpa [oU] using aU⟩ (fun e=>cF (by simpa using congrArg Fin.val e))
 rw [ax,aF] at this
 exact this
structure m9 (s:cw):Prop where
 v:mc s
 ok:sw s=some true
 KC:3≤s.cx.length
 fW:2≤s.b8.length
 aa3:s.cx.map (·.mO)=oU.take s.cx.length
theorem Io (s:cw)(aC:∀j∈s.cx,-50≤j.lN∧j.lN≤50∧ -50≤j.lO∧j.lO≤50)(hm:∀m∈s.b8,pK s.cx m=true)(bI:s.cx.length≤4)(bE:s.b8.length≤8)(a1:s.cx.map (·.mO)=oU.take s.cx.length)(KC:3≤s.cx.length)(fW:2≤s.b8.length):m9 s:=by
 have v:mc s:=⟨fun n j h=>aC j (List.mem_of_getElem? h),fun n m h=>hm m (List.mem_of_getElem? h),by omega,bE⟩
 have name : ∀(n:Nat) j,s.cx[n]? = some j→oU[n]? = some j.mO:=fun n j h=>by
  have aG:=ft h
  have e:(s.cx.map (·.mO))[n]? = some j.mO:=by rw [List.getElem?_map,h];rfl
  rw [a1,List.getElem?_take,if_pos aG] at e
  exact e
 exact ⟨v,OL s v (fun n j h=>M4 (name n j h)) (fun i k x y aa aS cF=>O8 (name i x aa) (name k y aS) cF),KC,fW,a1⟩
theorem XH (c:List Int)(aP:c.length≤1048576)(i h:Int)(af:0≤i): ∃fC fz eI cj,yd c i h=some (fC,fz,eI,cj)∧m9 ⟨fC,fz⟩∧0≤eI:=by
 unfold yd
 obtain ⟨gF,nc,o,ax,rf,p4⟩:=la 3 (by omega) (by omega) c aP i h af
 obtain ⟨h8,mF,R,aF,z0,pk⟩:=la 3 (by omega) (by omega) c aP nc o p4
 obtain ⟨lK,AP,ae,b4,aau,xm⟩:=la 2 (by omega) (by omega) c aP mF R pk
 obtain ⟨qS,so,ay,dy,aav,Ka⟩:=la 3 (by omega) (by omega) c aP AP ae xm
 obtain ⟨qT,AQ,aK,ea,aaw,Kb⟩:=la 2 (by omega) (by omega) c aP so ay Ka
 obtain ⟨qU,KD,bI,e7,aax,Kc⟩:=la 3 (by omega) (by omega) c aP AQ aK Kb
 obtain ⟨tp,KE,bQ,eT,Kd,Ke⟩:=H2 [1,2,3] (by simp) (by simp) c aP KD bI Kc
 obtain ⟨KF,i8,bE,gH,aay,DV⟩:=la 3 (by omega) (by omega) c aP KE bQ Ke
 have iS:U ((-1:Int)-qS) = -1-qS:=cP (by omega) (by omega)
 have pw:U ((3:Int)+qT)=3+qT:=cP (by omega) (by omega)
 have xI:U ((-1:Int)-qU) = -1-qU:=cP (by omega) (by omega)
 have aaz:1≤tp∧tp≤3:=by simp at Kd;omega
 obtain ⟨fC,j7⟩ : ∃fC:List bb,fC=([(⟨(⟨#[97]⟩:ByteArray),(-2),gF,true⟩:bb),(⟨(⟨#[98]⟩:ByteArray),6,h8,true⟩:bb),(⟨(⟨#[99]⟩:ByteArray),lK,-1-qS,false⟩:bb),(⟨(⟨#[100]⟩:ByteArray),3+qT,-1-qU,false⟩:bb)]:List bb):=⟨_,rfl⟩
 have g0:fC[0]? = some ⟨⟨#[97]⟩,-2,gF,true⟩:=by rw [j7];rfl
 have g1:fC[1]? = some ⟨⟨#[98]⟩,6,h8,true⟩:=by rw [j7];rfl
 have g2:fC[2]? = some ⟨⟨#[99]⟩,lK,-1-qS,false⟩:=by rw [j7];rfl
 have g3:fC[3]? = some ⟨⟨#[100]⟩,3+qT,-1-qU,false⟩:=by rw [j7];rfl
 have aG:fC.length=4:=by rw [j7];rfl
 have D9 : ∀a b k:Int,(a=0∨a=1∨a=2∨a=3)→(b=2∨b=3∨b=1)→(b=1→a=3)→(a=2→b=3)→(a=3→b=1)→1≤k→k≤3→pK fC ⟨a,b,k⟩=true:=fun a b k bA aM qI lp ij ac9 PV=>by
  unfold pK
  simp only
  rw [aG,decide_eq_true (by omega),Bool.true_and]
  rcases bA with rfl|rfl|rfl|rfl
  ·rcases aM with rfl|rfl|rfl
   ·rw [show (0:Int).toNat=0 from rfl,show (2:Int).toNat=2 from rfl,g0,g2];simp;omega
   ·rw [show (0:Int).toNat=0 from rfl,show (3:Int).toNat=3 from rfl,g0,g3];simp;omega
   ·exact absurd (qI rfl) (by omega)
  ·rcases aM with rfl|rfl|rfl
   ·rw [show (1:Int).toNat=1 from rfl,show (2:Int).toNat=2 from rfl,g1,g2];simp;omega
   ·rw [show (1:Int).toNat=1 from rfl,show (3:Int).toNat=3 from rfl,g1,g3];simp;omega
   ·exact absurd (qI rfl) (by omega)
  ·obtain rfl:=lp rfl
   rw [show (2:Int).toNat=2 from rfl,show (3:Int).toNat=3 from rfl,g2,g3];simp;omega
  ·obtain rfl:=ij rfl
   rw [show (3:Int).toNat=3 from rfl,show (1:Int).toNat=1 from rfl,g3,g1];simp;omega
 obtain ⟨⟨n,j,fz⟩,e,aa⟩:=jJ (f:=fun w:Int×Int×Int×(List bB)=>vv c fC w.1 w.2.1 w.2.2.1 w.2.2.2) (fun w=>0≤w.1∧0≤w.2.1∧w.2.2.2.length+w.1.toNat≤8∧2≤w.2.2.2.length∧ ∀m∈w.2.2.2,pK fC m=true) (fun w=>w.1.toNat) (fun r=>0≤r.1∧r.2.2.length≤8∧2≤r.2.2.length∧ ∀m∈r.2.2,pK fC m=true)
  (fun w hw=>by
    obtain ⟨n,j,g,fz⟩:=w
    obtain ⟨hn,im,bs,hJ,fJ⟩:=hw
    simp only at hn im bs hJ fJ
    by_cases d:0<n
    ·obtain ⟨fm,eQ,oD,gK,aW,ad⟩:=la 2 (by omega) (by omega) c aP j g im
     obtain ⟨eN,d6,tm,h7,bh,b3⟩:=la 2 (by omega) (by omega) c aP eQ oD ad
     obtain ⟨a2,k4,D8,qc,cf,bg⟩:=la 3 (by omega) (by omega) c aP d6 tm b3
     have v1:U ((2:Int)+eN)=2+eN:=cP (by omega) (by omega)
     have v2:U ((1:Int)+a2)=1+a2:=cP (by omega) (by omega)
     refine .inl ⟨(n-1,k4,D8,fz++[⟨fm,2+eN,1+a2⟩]),?_,⟨by simp only;omega,bg,by simp only [List.length_append,List.length_singleton];omega,by simp only [List.length_append,List.length_singleton];omega,fun m hm=> ?_⟩,by simp only;omega⟩
     ·simp only
      unfold vv
      refine dQ d (aE gK (aE h7 (aE qc ?_)))
      simp only
      rw [v1,v2,cP (x:=n-1) (by omega) (by omega)]
      exact b2 (by simp only [List.length_append,List.length_singleton];omega) rfl
     ·simp only [List.mem_append,List.mem_singleton] at hm
      rcases hm with hm|rfl
      ·exact fJ m hm
      ·exact D9 _ _ _ (by omega) (by omega) (by omega) (by omega) (by omega) (by omega) (by omega)
    ·refine .inr ⟨(j,g,fz),by simp only;unfold vv;exact dR d rfl,im,by simp only;omega,hJ,fJ⟩)
  (KF,i8,bE,[⟨0,2,1⟩,⟨2,3,tp⟩,⟨3,1,1⟩]) ⟨aay.1,DV,by simp;omega,by simp,fun m hm=>by
    simp at hm
    rcases hm with rfl|rfl|rfl
    ·exact D9 _ _ _ (by omega) (by omega) (by omega) (by omega) (by omega) (by omega) (by omega)
    ·exact D9 _ _ _ (by omega) (by omega) (by omega) (by omega) (by omega) (by omega) (by omega)
    ·exact D9 _ _ _ (by omega) (by omega) (by omega) (by omega) (by omega) (by omega) (by omega)⟩
 obtain ⟨aW,bh,cf,cI⟩:=aa
 refine ⟨fC,fz,n,j,aE ax (aE aF (aE b4 (aE dy (aE ea (aE e7 (aE eT (aE gH ?_))))))),Io _ (fun j aC=> ?_) cI (by simp only;omega) bh ?_ (by simp only;omega) cf,aW⟩
 ·simp only
  rw [iS,pw,xI,← j7]
  exact aE (x:=(n,j,fz)) e rfl
 ·rw [j7] at aC
  simp at aC
  rcases aC with rfl|rfl|rfl|rfl<;>simp<;>omega
 ·simp only
  rw [aG,j7];rfl
theorem WR (c:List Int)(aP:c.length≤1048576)(i h:Int)(af:0≤i): ∃fC fz eI cj,x9 c i h=some (fC,fz,eI,cj)∧m9 ⟨fC,fz⟩∧0≤eI:=by
 unfold x9
 obtain ⟨gF,nc,o,ax,rf,p4⟩:=la 4 (by omega) (by omega) c aP i h af
 obtain ⟨h8,mF,R,aF,z0,pk⟩:=la 3 (by omega) (by omega) c aP nc o p4
 obtain ⟨lK,AP,ae,b4,aau,xm⟩:=la 4 (by omega) (by omega) c aP mF R pk
 obtain ⟨qS,so,ay,dy,aav,Ka⟩:=la 3 (by omega) (by omega) c aP AP ae xm
 obtain ⟨qT,AQ,aK,ea,aaw,Kb⟩:=la 4 (by omega) (by omega) c aP so ay Ka
 obtain ⟨qU,KD,bI,e7,aax,Kc⟩:=la 4 (by omega) (by omega) c aP AQ aK Kb
 obtain ⟨tp,KE,bQ,eT,Kd,Ke⟩:=H2 [1,1,1,3] (by simp) (by simp) c aP KD bI Kc
 obtain ⟨KF,i8,bE,gH,DV⟩:=H0 2 (by omega) (by omega) c aP KE bQ Ke
 have iS:U ((-1:Int)-gF) = -1-gF:=cP (by omega) (by omega)
 have pw:U ((3:Int)+lK)=3+lK:=cP (by omega) (by omega)
 have xI:U (qT-(1:Int))=qT-1:=cP (by omega) (by omega)
 have QD:U ((-1:Int)-qU) = -1-qU:=cP (by omega) (by omega)
 have aaz:1≤tp∧tp≤3:=by simp at Kd;omega
 cases KF with
 | false =>
  obtain ⟨fC,j7⟩ : ∃fC:List bb,fC=([(⟨(⟨#[97]⟩:ByteArray),-1-gF,h8,true⟩:bb),(⟨(⟨#[98]⟩:ByteArray),3+lK,qS,true⟩:bb),(⟨(⟨#[99]⟩:ByteArray),qT-1,-1-qU,false⟩:bb)]:List bb):=⟨_,rfl⟩
  have g0:fC[0]? = some ⟨⟨#[97]⟩,-1-gF,h8,true⟩:=by rw [j7];rfl
  have g1:fC[1]? = some ⟨⟨#[98]⟩,3+lK,qS,true⟩:=by rw [j7];rfl
  have g2:fC[2]? = some ⟨⟨#[99]⟩,qT-1,-1-qU,false⟩:=by rw [j7];rfl
  have aG:fC.length=3:=by rw [j7];rfl
  refine ⟨fC,[⟨0,2,1⟩,⟨1,2,tp⟩],i8,bE,aE ax (aE aF (aE b4 (aE dy (aE ea (aE e7 (aE eT (aE gH (fB rfl ?_)))))))),Io _ (fun j aC=> ?_) (fun m hm=> ?_) (by simp only;omega) (by simp) ?_ (by simp only;omega) (by simp),DV⟩
  ·simp only
   rw [iS,pw,xI,QD,← j7]
  ·rw [j7] at aC
   simp at aC
   rcases aC with rfl|rfl|rfl<;>simp<;>omega
  ·simp at hm
   unfold pK
   rcases hm with rfl|rfl
   ·simp only
    rw [aG,decide_eq_true (by omega),Bool.true_and,show (0:Int).toNat=0 from rfl,show (2:Int).toNat=2 from rfl,g0,g2];simp;omega
   ·simp only
    rw [aG,decide_eq_true (by omega),Bool.true_and,show (1:Int).toNat=1 from rfl,show (2:Int).toNat=2 from rfl,g1,g2];simp;omega
  ·simp only
   rw [aG,j7];rfl
 | true =>
  obtain ⟨Ea,aa4,c6,aa5,ada,aaA⟩:=la 5 (by omega) (by omega) c aP i8 bE DV
  obtain ⟨Kf,aaB,dj,aaC,YU,YV⟩:=H2 [1,2,3] (by simp) (by simp) c aP aa4 c6 aaA
  have aa6:U (Ea-(1:Int))=Ea-1:=cP (by omega) (by omega)
  have acq:1≤Kf∧Kf≤3:=by simp at YU;omega
  obtain ⟨fC,j7⟩ : ∃fC:List bb,fC=([(⟨(⟨#[97]⟩:ByteArray),-1-gF,h8,true⟩:bb),(⟨(⟨#[98]⟩:ByteArray),3+lK,qS,true⟩:bb),(⟨(⟨#[99]⟩:ByteArray),qT-1,-1-qU,false⟩:bb)]:List bb)++([(⟨(⟨#[100]⟩:ByteArray),Ea-1,(-7),true⟩:bb)]:List bb):=⟨_,rfl⟩
  have g0:fC[0]? = some ⟨⟨#[97]⟩,-1-gF,h8,true⟩:=by rw [j7];rfl
  have g1:fC[1]? = some ⟨⟨#[98]⟩,3+lK,qS,true⟩:=by rw [j7];rfl
  have g2:fC[2]? = some ⟨⟨#[99]⟩,qT-1,-1-qU,false⟩:=by rw [j7];rfl
  have g3:fC[3]? = some ⟨⟨#[100]⟩,Ea-1,-7,true⟩:=by rw [j7];rfl
  have aG:fC.length=4:=by rw [j7];rfl
  refine ⟨fC,([⟨0,2,1⟩,⟨1,2,tp⟩]:List bB)++[⟨3,2,Kf⟩],aaB,dj,aE ax (aE aF (aE b4 (aE dy (aE ea (aE e7 (aE eT (aE gH (ep rfl (aE aa5 ?_))))))))),Io _ (fun j aC=> ?_) (fun m hm=> ?_) (by simp only;omega) (by simp) ?_ (by simp only;omega) (by simp),YV⟩
  ·simp only
   rw [iS,pw,xI,QD,aa6,← j7]
   exact b2 (by rw [aG];omega) (aE aaC (b2 (by simp) rfl))
  ·rw [j7] at aC
   simp at aC
   rcases aC with rfl|rfl|rfl|rfl<;>simp<;>omega
  ·simp at hm
   unfold pK
   rcases hm with rfl|rfl|rfl
   ·simp only
    rw [aG,decide_eq_true (by omega),Bool.true_and,show (0:Int).toNat=0 from rfl,show (2:Int).toNat=2 from rfl,g0,g2];simp;omega
   ·simp only
    rw [aG,decide_eq_true (by omega),Bool.true_and,show (1:Int).toNat=1 from rfl,show (2:Int).toNat=2 from rfl,g1,g2];simp;omega
   ·simp only
    rw [aG,decide_eq_true (by omega),Bool.true_and,show (3:Int).toNat=3 from rfl,show (2:Int).toNat=2 from rfl,g3,g2];simp;omega
  ·simp only
   rw [aG,j7];rfl
end Go.Proofs.YtfdnefmiaihfcaaGreat
