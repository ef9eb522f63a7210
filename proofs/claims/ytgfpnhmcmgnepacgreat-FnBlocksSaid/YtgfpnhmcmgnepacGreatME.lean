/- Lemmas, plain functions of the program, and what they answer. No condition. -/
import Derived.Test.YtgfpnhmcmgnepacGreatMD
namespace Go.Proofs.YtgfpnhmcmgnepacGreat
set_option linter.unusedVariables false
set_option linter.unusedSimpArgs false
open Go Go.VL
def Je (bc sj tb:Int):Option Bool :=
 if (decide (sj≤bc))=true then
  some (decide (bc≤tb))
 else
  some false
def zD (a7:List Int)(bc:Int):Option ((Int)⊕(Int)) :=
 if (decide ((0:Int)<bc))=true then
  if 0≤(U (bc-(1:Int)))∧(U (bc-(1:Int)))<a7.length then
  a7[(U (bc-(1:Int))).toNat]? >>= fun aO =>
  if (aO == (0:Int))=true then
   some (.inl (U (bc-(1:Int))))
  else
   some (.inr bc)
  else none
 else
  some (.inr bc)
def M6 (a7:List Int)(bc:Int):Option (Int):=iter (fun w:Int=>zD a7 w) bc
def u6 (a7:List Int):Option (List Int) :=
 M6 a7 (len_ J a7) >>= fun an =>
 if 0≤an then
 if 0≤an.toNat∧an.toNat≤a7.length then
 some ((a7.drop 0).take (an.toNat-0))
 else none
 else none
def C2 (bc:Int)(au:List Int):Option ((Int×(List Int))⊕((List Int))) :=
 if (decide ((0:Int)<bc))=true then
  if (au++([bc.tmod (1000000000:Int)]:List Int)).length*8≤140737488355328 then
  some (.inl (U (bc.tdiv (1000000000:Int)),au++([bc.tmod (1000000000:Int)]:List Int)))
  else none
 else
  some (.inr au)
def Nm (bc:Int)(au:List Int):Option ((List Int)):=iter (fun w:Int×(List Int)=>C2 w.1 w.2) (bc,au)
def xS (bc:Int):Option (List Int) :=
 Nm bc ([]:List Int) >>= fun an =>
 some an
def I4 (a7:List Int):Option Bool :=
 if ((len_ J a7) == (1:Int))=true then
  if 0≤(0:Int)∧(0:Int)<a7.length then
  a7[0]? >>= fun aO =>
  some (aO == (1:Int))
  else none
 else
  some false
def CX (a7 aV:List Int)(a3:Int):Option ((Int)⊕((Unit)⊕(Int))) :=
 if (decide ((0:Int)≤a3))=true then
  if 0≤a3∧a3<a7.length then
  a7[a3.toNat]? >>= fun aO =>
  if 0≤a3∧a3<aV.length then
  aV[a3.toNat]? >>= fun bO =>
  if (decide (aO<bO))=true then
   some (.inr (.inr (-1)))
  else
   if (decide (bO<aO))=true then
    some (.inr (.inr 1))
   else
    some (.inl (U (a3-(1:Int))))
  else none
  else none
 else
  some (.inr (.inl ()))
def Na (a7 aV:List Int)(a3:Int):Option ((Unit)⊕(Int)):=iter (fun w:Int=>CX a7 aV w) a3
def xM (a7 aV:List Int):Option Int :=
 if ((len_ J a7) != (len_ J aV))=true then
  if (decide ((len_ J a7)<(len_ J aV)))=true then
   some (-1)
  else
   some 1
 else
  Na a7 aV (U ((len_ J a7)-(1:Int))) >>= fun cb =>
  match cb with
  | .inl gq=>(some 0)
  | .inr gq=>(some gq)
def zH (a7 aV:List Int)(dZ qS d1:Int)(au:List Int):Option ((Int×Int×(List Int))⊕((List Int))) :=
 if (decide (d1<dZ))=true then
  if 0≤d1∧d1<a7.length then
  a7[d1.toNat]? >>= fun aO =>
  if (decide (d1<(len_ J aV)))=true then
   if 0≤d1∧d1<aV.length then
   aV[d1.toNat]? >>= fun gO =>
   if (decide ((U ((U (aO-qS))-gO))<(0:Int)))=true then
    if (au++([U ((U ((U (aO-qS))-gO))+(1000000000:Int))]:List Int)).length*8≤140737488355328 then
    some (.inl (1,U (d1+(1:Int)),au++([U ((U ((U (aO-qS))-gO))+(1000000000:Int))]:List Int)))
    else none
   else
    if (au++([U ((U (aO-qS))-gO)]:List Int)).length*8≤140737488355328 then
    some (.inl (0,U (d1+(1:Int)),au++([U ((U (aO-qS))-gO)]:List Int)))
    else none
   else none
  else
   if (decide ((U (aO-qS))<(0:Int)))=true then
    if (au++([U ((U (aO-qS))+(1000000000:Int))]:List Int)).length*8≤140737488355328 then
    some (.inl (1,U (d1+(1:Int)),au++([U ((U (aO-qS))+(1000000000:Int))]:List Int)))
    else none
   else
    if (au++([U (aO-qS)]:List Int)).length*8≤140737488355328 then
    some (.inl (0,U (d1+(1:Int)),au++([U (aO-qS)]:List Int)))
    else none
  else none
 else
  some (.inr au)
def Nb (a7 aV:List Int)(dZ qS d1:Int)(au:List Int):Option ((List Int)):=iter (fun w:Int×Int×(List Int)=>zH a7 aV dZ w.1 w.2.1 w.2.2) (qS,d1,au)
def I5 (a7 aV:List Int):Option (List Int) :=
 Nb a7 aV (len_ J a7) 0 0 ([]:List Int) >>= fun an =>
 u6 an >>= fun aZ =>
 some aZ
def C3 (a7:List Int)(l5 ez:Int):Option ((Int)⊕((Unit)⊕(Unit))) :=
 if (decide (ez<l5))=true then
  if 0≤ez∧ez<a7.length then
  a7[ez.toNat]? >>= fun aO =>
  Je aO 0 999999999 >>= fun bp =>
  if bp=true then
   some (.inl (U (ez+(1:Int))))
  else
   some (.inr (.inr ()))
  else none
 else
  some (.inr (.inl ()))
def Nn (a7:List Int)(l5 ez:Int):Option ((Unit)⊕(Unit)):=iter (fun w:Int=>C3 a7 l5 w) ez
def xT (a7:List Int):Option Bool :=
 Nn a7 (len_ J a7) 0 >>= fun an =>
 match an with
 | .inl bI=>(if (decide ((len_ J a7)≤(60:Int)))=true then
  if ((len_ J a7) == (0:Int))=true then
   some true
  else
   if 0≤(U ((len_ J a7)-(1:Int)))∧(U ((len_ J a7)-(1:Int)))<a7.length then
   a7[(U ((len_ J a7)-(1:Int))).toNat]? >>= fun gO =>
   some (gO != (0:Int))
   else none
  else
   some false)
 | .inr bI=>(some false)
def CQ (a7:List Int)(bc a3:Int):Option ((Int×Int)⊕(Int)) :=
 if (decide ((0:Int)≤a3))=true then
  if 0≤a3∧a3<a7.length then
  a7[a3.toNat]? >>= fun aO =>
  some (.inl (U ((U (bc*(1000000000:Int)))+aO),U (a3-(1:Int))))
  else none
 else
  some (.inr bc)
def MX (a7:List Int)(bc a3:Int):Option (Int):=iter (fun w:Int×Int=>CQ a7 w.1 w.2) (bc,a3)
def Dv (a7:List Int):Option (Int×Bool) :=
 xT a7 >>= fun an =>
 if an=true then
  xM a7 ([854775807,223372036,9]:List Int) >>= fun bz =>
  if (decide ((0:Int)<bz))=true then
   some (0,false)
  else
   MX a7 0 (U ((len_ J a7)-(1:Int))) >>= fun bH =>
   some (bH,true)
 else
  some (0,false)
def CR (b8 dL:Int):Option ((Int×Int)⊕(Int)) :=
 if (decide ((0:Int)<dL))=true then
  if dL≠0 then
  some (.inl (dL,b8.tmod dL))
  else none
 else
  some (.inr b8)
def MY (b8 dL:Int):Option (Int):=iter (fun w:Int×Int=>CR w.1 w.2) (b8,dL)
def IH (b8 dL:Int):Option (List Int) :=
 MY b8 dL >>= fun an =>
 xS an >>= fun aZ =>
 some aZ
def CS (a7:List Int)(v9 hZ a3:Int)(au:List Int):Option ((Int×Int×(List Int))⊕(Int×(List Int))) :=
 if (decide ((0:Int)≤a3))=true then
  if 0≤a3∧a3<a7.length then
  a7[a3.toNat]? >>= fun aO =>
  if v9≠0 then
  if 0≤a3∧a3<(au.length:Nat) then
  if (0+a3.toNat)<au.length then
  some (.inl ((U ((U (hZ*(1000000000:Int)))+aO)).tmod v9,U (a3-(1:Int)),au.set (0+a3.toNat) (U ((U ((U (hZ*(1000000000:Int)))+aO)).tdiv v9))))
  else none
  else none
  else none
  else none
 else
  some (.inr (hZ,au))
def Im (a7:List Int)(v9 hZ a3:Int)(au:List Int):Option (Int×(List Int)):=iter (fun w:Int×Int×(List Int)=>CS a7 v9 w.1 w.2.1 w.2.2) (hZ,a3,au)
def II (a7:List Int)(v9:Int):Option ((List Int)×Int) :=
 if 0≤(len_ J a7)∧(8:Int)*(len_ J a7)≤281474976710656∧(len_ J a7)<9223372036854775808 then
 Im a7 v9 0 (U ((len_ J a7)-(1:Int))) (List.replicate (len_ J a7).toNat 0:List Int) >>= fun cb =>
 u6 cb.2 >>= fun bz =>
 some (bz,cb.1)
 else none
def CY (aV:List Int)(a3 b8:Int)(dy:List Int)(dK d7 ew dx:Int)(au:List Int):Option ((Int×Int×(List Int))⊕(Int×(List Int))) :=
 if (decide (dx<d7))=true then
  if 0≤dx∧dx<aV.length then
  aV[dx.toNat]? >>= fun aO =>
  if 0≤(U (a3+dx))∧(U (a3+dx))<(au.length:Nat) then
  au[(0+(U (a3+dx)).toNat)]? >>= fun bO =>
  if (0+(U (a3+dx)).toNat)<au.length then
  some (.inl (U ((U ((U (bO+(U (b8*aO))))+ew)).tdiv (1000000000:Int)),U (dx+(1:Int)),au.set (0+(U (a3+dx)).toNat) ((U ((U (bO+(U (b8*aO))))+ew)).tmod (1000000000:Int))))
  else none
  else none
  else none
 else
  some (.inr (ew,au))
def Nc (aV:List Int)(a3 b8:Int)(dy:List Int)(dK d7 ew dx:Int)(au:List Int):Option (Int×(List Int)):=iter (fun w:Int×Int×(List Int)=>CY aV a3 b8 dy dK d7 w.1 w.2.1 w.2.2) (ew,dx,au)
def HP (aV dy:List Int)(dK eN:Int)(au:List Int):Option ((Int×(List Int))⊕((List Int))) :=
 if (decide (eN<dK))=true then
  if 0≤eN∧eN<dy.length then
  dy[eN.toNat]? >>= fun aO =>
  Nc aV eN aO dy dK (len_ J aV) 0 0 au >>= fun bp =>
  if 0≤(U (eN+(len_ J aV)))∧(U (eN+(len_ J aV)))<(bp.2.length:Nat) then
  if (0+(U (eN+(len_ J aV))).toNat)<bp.2.length then
  some (.inl (U (eN+(1:Int)),bp.2.set (0+(U (eN+(len_ J aV))).toNat) bp.1))
  else none
  else none
  else none
 else
  some (.inr au)
def Dp (aV dy:List Int)(dK eN:Int)(au:List Int):Option ((List Int)):=iter (fun w:Int×(List Int)=>HP aV dy dK w.1 w.2) (eN,au)
def DE (a7 aV:List Int):Option (List Int) :=
 if ((len_ J a7) == (0:Int))=true then
  some ([]:List Int)
 else
  if ((len_ J aV) == (0:Int))=true then
   some ([]:List Int)
  else
   if 0≤(U ((len_ J a7)+(len_ J aV)))∧(8:Int)*(U ((len_ J a7)+(len_ J aV)))≤281474976710656∧(U ((len_ J a7)+(len_ J aV)))<9223372036854775808 then
   Dp aV a7 (len_ J a7) 0 (List.replicate (U ((len_ J a7)+(len_ J aV))).toNat 0:List Int) >>= fun bz =>
   u6 bz >>= fun cT =>
   some cT
   else none
def zA (dS aV:List Int)(sj tb:Int):Option ((Int×Int)⊕(Int)) :=
 if (decide (sj<tb))=true then
  xS (U ((U ((U (sj+tb))+(1:Int))).tdiv (2:Int))) >>= fun cb =>
  DE aV cb >>= fun bz =>
  xM bz dS >>= fun cT =>
  if (decide (cT≤(0:Int)))=true then
   some (.inl (U ((U ((U (sj+tb))+(1:Int))).tdiv (2:Int)),tb))
  else
   some (.inl (sj,U ((U ((U ((U (sj+tb))+(1:Int))).tdiv (2:Int)))-(1:Int))))
 else
  some (.inr sj)
def Io (dS aV:List Int)(sj tb:Int):Option (Int):=iter (fun w:Int×Int=>zA dS aV w.1 w.2) (sj,tb)
def IJ (dS aV:List Int):Option Int :=
 if 0≤(U ((len_ J aV)-(1:Int)))∧(U ((len_ J aV)-(1:Int)))<dS.length then
 dS[(U ((len_ J aV)-(1:Int))).toNat]? >>= fun fy =>
 if (decide ((len_ J aV)<(len_ J dS)))=true then
  if 0≤(len_ J aV)∧(len_ J aV)<dS.length then
  dS[(len_ J aV).toNat]? >>= fun bO =>
  if 0≤(U ((len_ J aV)-(1:Int)))∧(U ((len_ J aV)-(1:Int)))<aV.length then
  aV[(U ((len_ J aV)-(1:Int))).toNat]? >>= fun gy =>
  if (U (gy+(1:Int)))≠0 then
  if gy≠0 then
  Io dS aV (U ((U (fy+(U (bO*(1000000000:Int))))).tdiv (U (gy+(1:Int))))) (if (U ((U (fy+(U (bO*(1000000000:Int))))).tdiv gy))<(999999999:Int) then (U ((U (fy+(U (bO*(1000000000:Int))))).tdiv gy)) else (999999999:Int)) >>= fun fF =>
  some fF
  else none
  else none
  else none
  else none
 else
  if 0≤(U ((len_ J aV)-(1:Int)))∧(U ((len_ J aV)-(1:Int)))<aV.length then
  aV[(U ((len_ J aV)-(1:Int))).toNat]? >>= fun bO =>
  if (U (bO+(1:Int)))≠0 then
  if bO≠0 then
  Io dS aV (U (fy.tdiv (U (bO+(1:Int))))) (if (U (fy.tdiv bO))<(999999999:Int) then (U (fy.tdiv bO)) else (999999999:Int)) >>= fun fL =>
  some fL
  else none
  else none
  else none
 else none
def CZ (a7 aV hZ:List Int)(a3:Int)(au:List Int):Option (((List Int)×Int×(List Int))⊕((List Int)×(List Int))) :=
 if (decide ((0:Int)≤a3))=true then
  if 0≤a3∧a3<a7.length then
  a7[a3.toNat]? >>= fun aO =>
  if (([aO]:List Int)++hZ).length*8≤140737488355328 then
  u6 (([aO]:List Int)++hZ) >>= fun cT =>
  xM cT aV >>= fun fz =>
  if (decide (fz<(0:Int)))=true then
   some (.inl (cT,U (a3-(1:Int)),au))
  else
   IJ cT aV >>= fun fk =>
   if 0≤a3∧a3<(au.length:Nat) then
   if (0+a3.toNat)<au.length then
   xS fk >>= fun dY =>
   DE aV dY >>= fun ft =>
   I5 cT ft >>= fun e8 =>
   some (.inl (e8,U (a3-(1:Int)),au.set (0+a3.toNat) fk))
   else none
   else none
  else none
  else none
 else
  some (.inr (hZ,au))
def Nd (a7 aV hZ:List Int)(a3:Int)(au:List Int):Option ((List Int)×(List Int)):=iter (fun w:(List Int)×Int×(List Int)=>CZ a7 aV w.1 w.2.1 w.2.2) (hZ,a3,au)
def DF (a7 aV:List Int):Option ((List Int)×(List Int)) :=
 if ((len_ J aV) == (1:Int))=true then
  if 0≤(0:Int)∧(0:Int)<aV.length then
  aV[0]? >>= fun aO =>
  II a7 aO >>= fun bp =>
  xS bp.2 >>= fun bH =>
  some (bp.1,bH)
  else none
 else
  if 0≤(len_ J a7)∧(8:Int)*(len_ J a7)≤281474976710656∧(len_ J a7)<9223372036854775808 then
  Nd a7 aV ([]:List Int) (U ((len_ J a7)-(1:Int))) (List.replicate (len_ J a7).toNat 0:List Int) >>= fun aZ =>
  u6 aZ.2 >>= fun bp =>
  some (bp,aZ.1)
  else none
def zI (b8 dL:List Int):Option (((List Int)×(List Int))⊕(((List Int))⊕((List Int)))) :=
 if (decide ((0:Int)<(len_ J dL)))=true then
  if (decide ((len_ J b8)<(3:Int)))=true then
   if (decide ((len_ J dL)<(3:Int)))=true then
    Dv b8 >>= fun bz =>
    Dv dL >>= fun cT =>
    IH bz.1 cT.1 >>= fun fz =>
    some (.inr (.inr fz))
   else
    DF b8 dL >>= fun bz =>
    some (.inl (dL,bz.2))
  else
   DF b8 dL >>= fun aZ =>
   some (.inl (dL,aZ.2))
 else
  some (.inr (.inl b8))
def Nf (b8 dL:List Int):Option (((List Int))⊕((List Int))):=iter (fun w:(List Int)×(List Int)=>zI w.1 w.2) (b8,dL)
def I6 (a7 aV:List Int):Option (List Int) :=
 if (([]:List Int)++a7).length*8≤140737488355328 then
 if (([]:List Int)++aV).length*8≤140737488355328 then
 Nf (([]:List Int)++a7) (([]:List Int)++aV) >>= fun aZ =>
 match aZ with
 | .inl gD=>(some gD)
 | .inr gD=>(some gD)
 else none
 else none
def IK (b8:bg):Option Bool :=
 xT b8.cY >>= fun an =>
 if an=true then
  if b8.du=true then
   some (decide ((0:Int)<(len_ J b8.cY)))
  else
   some true
 else
  some false
def N2 (dS:gb):Option Bool :=
 IK dS.dW >>= fun an =>
 if an=true then
  xT dS.dX >>= fun bz =>
  if bz=true then
   if ((len_ J dS.dX) == (0:Int))=true then
    some false
   else
    if (decide ((24:Int)<(len_ J dS.dX)))=true then
     some false
    else
     if (decide ((24:Int)<(len_ J dS.dW.cY)))=true then
      some false
     else
      I6 dS.dW.cY dS.dX >>= fun fL =>
      I4 fL >>= fun cC =>
      some cC
  else
   some false
 else
  some false
theorem qj {n:Nat}(h:n≤10000000):U ((n:Int)+1)=((n+1:Nat):Int):=by rw [cQ (by omega) (by omega)];rfl
theorem qY {n:Nat}(h:n≤10000000):U ((n:Int)-1)=(n:Int)-1:=cQ (by omega) (by omega)
theorem Ke {n:Nat}(h:n≤10000000):U (((n+1:Nat):Int)-1)=n:=by rw [cQ (by omega) (by omega)];omega
theorem gR (l:List Int):len_ J l=l.length:=h6 _ l
theorem W4 {l:List Int}{k:Nat}{x:Int}(aa:l[k]? = some x)(a1:l.length≤5000000):zD l ((k+1:Nat):Int)=some (if x=0 then .inl (k:Int) else .inr ((k+1:Nat):Int)):=by
 have aX:=fE aa
 unfold zD
 rw [Ke (by omega),if_pos (by simp),if_pos (by omega),Int.toNat_natCast,aa]
 by_cases h:x=0<;>simp [h]
theorem Af {l:List Int}(aL:cE l)(a1:l.length≤5000000):u6 l=some (L (V l)):=by
 have : ∃r,iter (fun w:Int=>zD l w) (l.length:Int)=some r∧ ∃k:Nat,r=k∧k≤l.length∧l.take k=L (V l):=by
  refine kQ (eL:=fun w:Int=> ∃k:Nat,w=k∧k≤l.length∧V (l.take k)=V l) (m:=fun w:Int=>w.toNat) _ ?_ _ ⟨l.length,rfl,by omega,by simp⟩
  rintro _ ⟨k,rfl,aX,a2⟩
  cases k with
  | zero =>
   refine .inr ⟨0,by simp [zD],0,rfl,by omega,?_⟩
   rw [← a2]
   simp [V,pO]
  | succ k =>
   have aa:=List.getElem?_eq_getElem (show k<l.length by omega)
   rw [W4 aa a1]
   by_cases h:l[k]=0
   ·refine .inl ⟨_,by simp [h],⟨k,rfl,by omega,?_⟩,by omega⟩
    have:=sS aa
    rw [h] at this
    simp at this
    omega
   ·refine .inr ⟨_,by simp [h],k+1,rfl,aX,?_⟩
    rcases e7.JK aL k (fun x o=>by rw [aa] at o;simp at o;omega) with o|o
    ·exact vE o a2
    ·omega
 obtain ⟨r,ap,k,rfl,o,R⟩:=this
 unfold u6 M6
 rw [gR,ap]
 simp [o,R]
theorem yd {l:List Int}(aL:cE l)(a1:l.length≤5000000):qL l=some (L (V l)):=by
 have : ∃r,iter (fun w:List Int=>xr w) l=some r∧r=L (V l):=by
  refine kQ (eL:=fun w=> ∃k:Nat,w=l.take k∧k≤l.length∧V (l.take k)=V l) (m:=fun w:List Int=>w.length) _ ?_ _ ⟨l.length,by simp,by omega,by simp⟩
  rintro _ ⟨k,rfl,aX,a2⟩
  have hlen:(l.take k).length=k:=by simp;omega
  cases k with
  | zero =>
   refine .inr ⟨[],by simp [xr,gR],?_⟩
   rw [← a2]
   simp [V,pO]
  | succ k =>
   have aa:=List.getElem?_eq_getElem (show k<l.length by omega)
   have dH:(l.take (k+1))[k]? = some l[k]:=by rw [List.getElem?_take];simp [aa]
   unfold xr
   simp only [gR,hlen]
   rw [Ke (by omega),if_pos (by simp),if_pos (by omega),Int.toNat_natCast,dH]
   by_cases h:l[k]=0
   ·refine .inl ⟨l.take k,by simp [h,List.take_take,Nat.min_eq_left],⟨k,rfl,by omega,?_⟩,by simp;omega⟩
    have:=sS aa
    rw [h] at this
    simp at this
    omega
   ·refine .inr ⟨l.take (k+1),by simp [h],?_⟩
    rcases e7.JK aL k (fun x o=>by rw [aa] at o;simp at o;omega) with o|o
    ·exact vE o a2
    ·omega
 obtain ⟨r,ap,rfl⟩:=this
 unfold qL IQ
 rw [ap]
 rfl
theorem W5 {l:List Int}(aL:cE l)(a1:l.length≤5000000): ∃k,z3 l=some k∧k≤l.length∧l.take k=L (V l):=by
 have : ∃r,iter (fun w:Nat=>xl l w) l.length=some r∧r≤l.length∧l.take r=L (V l):=by
  refine kQ (eL:=fun k=>k≤l.length∧V (l.take k)=V l) (m:=fun w:Nat=>w) _ ?_ _ ⟨by omega,by simp⟩
  rintro k ⟨aX,a2⟩
  cases k with
  | zero =>
   refine .inr ⟨0,by simp [xl],by omega,?_⟩
   rw [← a2]
   simp [V,pO]
  | succ k =>
   have aa:=List.getElem?_eq_getElem (show k<l.length by omega)
   unfold xl
   rw [Ke (by omega),if_pos (by simp),if_pos (by omega),Int.toNat_natCast,Nat.zero_add,aa]
   by_cases h:l[k]=0
   ·refine .inl ⟨k,by simp [h],⟨by omega,?_⟩,by omega⟩
    have:=sS aa
    rw [h] at this
    simp at this
    omega
   ·refine .inr ⟨k+1,by simp [h],aX,?_⟩
    rcases e7.JK aL k (fun x o=>by rw [aa] at o;simp at o;omega) with o|o
    ·exact vE o a2
    ·omega
 obtain ⟨r,ap,o,R⟩:=this
 unfold z3 Ix
 rw [ap]
 exact ⟨r,rfl,o,R⟩
theorem yp {a b:List Int}(bt:e7 a)(aJ:e7 b)(a1:a.length≤5000000):xM a b=some (m1 (V a) (V b)):=by
 unfold xM m1
 simp only [gR]
 by_cases o:a.length=b.length
 ·rw [if_neg (by simp [o])]
  have : ∃r,iter (fun w:Int=>CX a b w) ((a.length:Int)-1)=some r∧(r.elim (fun _=>V a=V b) (fun c=>(c = -1∧V a<V b)∨(c=1∧V b<V a))):=by
   refine kQ (eL:=fun w:Int=> ∃k:Nat,w=(k:Int)-1∧k≤a.length∧V (a.drop k)=V (b.drop k)) (m:=fun w:Int=>(w+1).toNat) _ ?_ _ ⟨a.length,rfl,by omega,by rw [List.drop_length,o,List.drop_length]⟩
   rintro _ ⟨k,rfl,aX,a2⟩
   cases k with
   | zero=>exact .inr ⟨.inl (),by simp [CX],by simpa using a2⟩
   | succ k =>
    have aa:=List.getElem?_eq_getElem (show k<a.length by omega)
    have aK:=List.getElem?_eq_getElem (show k<b.length by omega)
    have e:((k+1:Nat):Int)-1=k:=by omega
    unfold CX
    rw [e,qY (by omega),if_pos (by simp),if_pos (by omega),Int.toNat_natCast,aa]
    simp only [Option.bind_eq_bind,Option.bind_some]
    rw [if_pos (by omega),aK]
    by_cases R:a[k]<b[k]
    ·exact .inr ⟨.inr (-1),by simp [R],.inl ⟨rfl,PB bt.1 aJ.1 aa aK a2 R⟩⟩
    ·by_cases ad:b[k]<a[k]
     ·exact .inr ⟨.inr 1,by simp [R,ad],.inr ⟨rfl,PB aJ.1 bt.1 aK aa a2.symm ad⟩⟩
     ·refine .inl ⟨(k:Int)-1,by simp [R,ad],⟨k,rfl,by omega,?_⟩,by omega⟩
      rw [o6 aa,o6 aK,a2,show a[k]=b[k] by omega]
  obtain ⟨r,ap,R⟩:=this
  unfold Na
  rw [qY (by omega),ap]
  cases r with
  | inl u =>
   simp at R
   simp [R]
  | inr c =>
   rcases R with ⟨rfl,R⟩|⟨rfl,R⟩
   ·simp [R]
   ·simp [R];omega
 ·rw [if_pos (by simp;omega)]
  by_cases R:a.length<b.length
  ·have:=Eh bt aJ R
   simp [R,this]
  ·have:=Eh aJ bt (by omega)
   rw [if_neg (by simp;omega),if_neg (by omega),if_pos this]
theorem VI:p9=xM:=rfl
theorem DJ {a b:List Int}(bt:e7 a)(aJ:e7 b)(a1:a.length≤5000000):p9 a b=some (m1 (V a) (V b)):=yp bt aJ a1
theorem AN {x y:Int}(aa:0≤x∧x<1000000000)(aK:0≤y∧y<1000000000):0≤x*y∧x*y≤999999998000000001:=by
 have o:=Int.mul_nonneg aa.1 aK.1
 have R:x*y≤999999999*999999999:=Int.mul_le_mul (by omega) (by omega) aK.1 (by omega)
 omega
theorem tE {a b:Int}(h:0≤a):a.tmod b=a % b:=Int.tmod_eq_emod_of_nonneg h
theorem pG {a b:Int}(h:0≤a):a.tdiv b=a / b:=Int.tdiv_eq_ediv_of_nonneg h
theorem JL (k:Nat)(x:Int)(q:List Int):(List.replicate (k+1) 0++q).set k x=List.replicate k 0++x::q:=by
 induction k with
 | zero=>rfl
 | succ k ih =>
  show (0::(List.replicate (k+1) 0++q)).set (k+1) x=_
  rw [List.set_cons_succ,ih];rfl
theorem Wv {a:List Int}{d rest:Int}{row:List Int}{k:Nat}{x:Int}(aa:a[k]? = some x)(iZ:0≤x∧x<1000000000)(bh:0<d∧d<1000000000)(ap:0≤rest∧rest<d)(dt:row.length=a.length)(a1:a.length≤1000000):
 CS a d rest (k:Int) row=some (.inl ((rest*1000000000+x) % d,(k:Int)-1,row.set k ((rest*1000000000+x) / d))):=by
 have aX:=fE aa
 unfold CS
 rw [if_pos (by simp),if_pos (by omega),Int.toNat_natCast,aa]
 simp only [Option.bind_eq_bind,Option.bind_some]
 rw [if_pos (by omega),if_pos (by omega),if_pos (by omega),qY (by omega)]
 have o:U (U (rest*1000000000)+x)=rest*1000000000+x:=by rw [cQ (x:=rest*1000000000) (by omega) (by omega)];exact cQ (by omega) (by omega)
 have R:0≤rest*1000000000+x:=by omega
 have ad:(rest*1000000000+x) / d≤rest*1000000000+x:=Int.ediv_le_self _ R
 have aD:0≤(rest*1000000000+x) / d:=Int.ediv_nonneg R (by omega)
 rw [o,tE R,pG R,cQ (by omega) (by omega),Nat.zero_add]
theorem N3 {a:List Int}{d:Int}(bt:cE a)(bh:0<d∧d<1000000000)(a1:a.length≤1000000):
 ∃r,Im a d 0 ((a.length:Int)-1) (List.replicate a.length 0)=some r∧r.1=V a % d∧cE r.2∧r.2.length=a.length∧V r.2=V a / d:=by
 refine kQ (eL:=fun w:Int×Int×List Int=> ∃(k:Nat) (q:List Int),w.2.1=(k:Int)-1∧k≤a.length∧w.2.2=List.replicate k 0++q∧q.length+k=a.length∧cE q∧0≤w.1∧w.1<d∧V (a.drop k)=V q*d+w.1) (m:=fun w:Int×Int×List Int=>(w.2.1+1).toNat) _ ?_ _ ⟨a.length,[],rfl,by omega,by simp,by simp,cE.nil,by omega,by omega,by simp [V]⟩
 rintro ⟨rest,i,row⟩ ⟨k,q,o,aX,R,a6,ts,lv,iS,a2⟩
 simp only at o R lv iS a2 ⊢
 subst o R
 cases k with
 | zero =>
  refine .inr ⟨(rest,q),by simp [CS],?_,ts,by simpa using a6,?_⟩
  ·simp at a2
   rw [a2,Int.add_comm,Int.add_mul_emod_self_right]
   exact (Int.emod_eq_of_lt lv iS).symm
  ·simp at a2
   rw [a2,Int.add_comm,Int.add_mul_ediv_right _ _ (by omega),Int.ediv_eq_zero_of_lt lv iS]
   simp
 | succ k =>
  have aa:=List.getElem?_eq_getElem (show k<a.length by omega)
  have iZ:=bt.get aa
  rw [show ((k+1:Nat):Int)-1=k by omega,Wv aa iZ bh ⟨lv,iS⟩ (by simp;omega) a1]
  refine .inl ⟨_,rfl,⟨k,(rest*1000000000+a[k]) / d::q,rfl,by omega,JL _ _ _,by simp;omega,cE.cons ⟨Int.ediv_nonneg (by omega) (by omega),?_⟩ ts,Int.emod_nonneg _ (by omega),Int.emod_lt_of_pos _ bh.1,?_⟩,by simp⟩
  ·refine Int.ediv_lt_of_lt_mul bh.1 ?_
   omega
  ·rw [o6 aa,a2,lM]
   have:=Int.mul_ediv_add_emod (rest*1000000000+a[k]) d
   generalize (rest*1000000000+a[k]) / d=u at *
   generalize (rest*1000000000+a[k]) % d=t at *
   grind
theorem X3 {a:List Int}{d:Int}(bt:cE a)(bh:0<d∧d<1000000000)(a1:a.length≤1000000):II a d=some (L (V a / d),V a % d):=by
 obtain ⟨r,ap,o,R,ad,aD⟩:=N3 bt bh a1
 unfold II
 simp only [gR]
 rw [if_pos (by omega),qY (by omega),Int.toNat_natCast,ap]
 simp only [Option.bind_eq_bind,Option.bind_some]
 rw [Af R (by omega),o,aD]
 rfl
theorem Vf:H9=Im:=rfl
theorem Nq {a:List Int}{d:Int}(bt:cE a)(bh:0<d∧d<1000000000)(a1:a.length≤1000000):xC a d=some (L (V a / d),V a % d):=by
 obtain ⟨r,ap,o,R,ad,aD⟩:=N3 bt bh a1
 unfold xC
 simp only [gR]
 rw [if_pos (by omega),qY (by omega),Int.toNat_natCast,Vf,ap]
 simp only [Option.bind_eq_bind,Option.bind_some]
 rw [yd R (by omega),o,aD]
 rfl
theorem W6 {b:List Int}{i j:Nat}{x y z carry:Int}{row t26:List Int}{t27:Int}(aK:b[j]? = some y)(cd:row[i+j]? = some z)(aa:0≤x∧x<1000000000)(oQ:0≤y∧y<1000000000)(rK:0≤z∧z<1000000000)(aP:0≤carry∧carry<1000000000)(a1:row.length≤2000000):
 CY b i x t26 t27 b.length carry j row=some (.inl ((z+x*y+carry) / 1000000000,((j+1:Nat):Int),row.set (i+j) ((z+x*y+carry) % 1000000000))):=by
 have aA:=fE aK
 have qv:=fE cd
 obtain ⟨gi,gB⟩:=AN aa oQ
 unfold CY
 have e:U ((i:Int)+(j:Int))=((i+j:Nat):Int):=by rw [cQ (by omega) (by omega)];rfl
 rw [if_pos (by simp;omega),if_pos (by omega),Int.toNat_natCast,aK]
 simp only [Option.bind_eq_bind,Option.bind_some,e,Int.toNat_natCast,Nat.zero_add]
 rw [if_pos (by omega),cd]
 simp only [Option.bind_some]
 rw [if_pos (by omega),qj (by omega),cQ (x:=x*y) (by omega) (by omega),cQ (x:=z+x*y) (by omega) (by omega),cQ (x:=z+x*y+carry) (by omega) (by omega),tE (by omega),pG (by omega),cQ (by omega) (by omega)]
theorem W7 {b:List Int}{i:Nat}{x:Int}{row t26:List Int}{t27:Int}(aJ:cE b)(dt:cE row)(aa:0≤x∧x<1000000000)(aL:i+b.length<row.length)(a1:row.length≤2000000):
 ∃r,Nc b i x t26 t27 b.length 0 0 row=some r∧0≤r.1∧r.1<1000000000∧cE r.2∧r.2.length=row.length∧V r.2+r.1*B (i+b.length)=V row+x*B i*V b∧ ∀j,i+b.length≤j→r.2[j]? = row[j]? := by
 refine kQ (eL:=fun w:Int×Int×List Int=> ∃(j:Nat),w.2.1=(j:Int)∧j≤b.length∧0≤w.1∧w.1<1000000000∧cE w.2.2∧w.2.2.length=row.length∧V w.2.2+w.1*B (i+j)=V row+x*B i*V (b.take j)∧ ∀j,i+b.length≤j→w.2.2[j]? = row[j]?) (m:=fun w:Int×Int×List Int=>b.length-w.2.1.toNat) _ ?_ _ ⟨0,rfl,by omega,by simp,by simp,dt,rfl,by simp [V],fun _ _=>rfl⟩
 rintro ⟨carry,ac9,f6⟩ ⟨j,o,aA,m6,m8,kl,hlen,a2,lm⟩
 simp only at o m6 m8 kl hlen a2 lm ⊢
 subst o
 by_cases ab2:j=b.length
 ·subst ab2
  refine .inr ⟨(carry,f6),by simp [CY],m6,m8,kl,hlen,by simpa using a2,lm⟩
 ·have aK:=List.getElem?_eq_getElem (show j<b.length by omega)
  have cd:=List.getElem?_eq_getElem (show i+j<f6.length by omega)
  have oQ:=aJ.get aK
  have rK:=kl.get cd
  obtain ⟨gi,gB⟩:=AN aa oQ
  rw [W6 aK cd aa oQ rK ⟨m6,m8⟩ (by omega)]
  refine .inl ⟨_,rfl,⟨j+1,rfl,by omega,by simp only;omega,by simp only;omega,kl.set (by omega),by simpa using hlen,?_,fun h2 sl=> ?_⟩,by simp;omega⟩
  ·simp only
   rw [se cd,sS aK,← Nat.add_assoc,mV]
   rw [AX] at a2 ⊢
   have:=Int.mul_ediv_add_emod (f6[i+j]+x*b[j]+carry) 1000000000
   generalize (f6[i+j]+x*b[j]+carry) / 1000000000=u at *
   generalize (f6[i+j]+x*b[j]+carry) % 1000000000=t at *
   grind
  ·rw [← lm h2 sl]
   exact List.getElem?_set_ne (by omega)
theorem Jn {a b:List Int}(bt:cE a)(aJ:cE b)(a1:a.length≤1000000)(hm:b.length≤1000000):
 ∃r,Dp b a a.length 0 (List.replicate (a.length+b.length) 0)=some r∧cE r∧r.length=a.length+b.length∧V r=V a*V b:=by
 refine kQ (eL:=fun w:Int×List Int=> ∃(i:Nat),w.1=(i:Int)∧i≤a.length∧cE w.2∧w.2.length=a.length+b.length∧V w.2=V (a.take i)*V b∧ ∀j,i+b.length≤j→j<a.length+b.length→w.2[j]? = some 0) (m:=fun w:Int×List Int=>a.length-w.1.toNat) _ ?_ _ ⟨0,rfl,by omega,cE.Lb _,by simp,by simp [V,Kb],fun j _ h=>by simp [List.getElem?_replicate,h]⟩
 rintro ⟨ii,row⟩ ⟨i,o,ag,kl,hlen,a2,h0⟩
 simp only at o kl hlen a2 h0 ⊢
 subst o
 by_cases BX:i=a.length
 ·subst BX
  refine .inr ⟨row,by simp [HP],kl,hlen,by simpa using a2⟩
 ·have aa:=List.getElem?_eq_getElem (show i<a.length by omega)
  have iZ:=bt.get aa
  obtain ⟨r,ap,m6,m8,aaX,Qv,Bt,lm⟩:=W7 (i:=i) (t26:=a) (t27:=a.length) aJ kl iZ (by omega) (by omega)
  have e:U ((i:Int)+(b.length:Int))=((i+b.length:Nat):Int):=by rw [cQ (by omega) (by omega)];rfl
  have cd:r.2[i+b.length]? = some 0:=by rw [lm _ (Nat.le_refl _)];exact h0 _ (Nat.le_refl _) (by omega)
  refine .inl ⟨(((i+1:Nat):Int),r.2.set (i+b.length) r.1),?_,⟨i+1,rfl,by omega,aaX.set ⟨m6,m8⟩,by simp;omega,?_,fun j aeU ab3=> ?_⟩,by simp;omega⟩
  ·unfold HP
   rw [if_pos (by simp;omega),if_pos (by omega),Int.toNat_natCast,aa]
   simp only [Option.bind_eq_bind,Option.bind_some,gR]
   rw [ap]
   simp only [Option.bind_some,e,Int.toNat_natCast,Nat.zero_add]
   rw [if_pos (by omega),if_pos (by omega),qj (n:=i) (by omega)]
  ·simp only
   rw [se cd,sS aa]
   grind
  ·simp only
   rw [List.getElem?_set_ne (by omega),lm _ (by omega)]
   exact h0 _ (by omega) ab3
theorem mul_eq {a b:List Int}(bt:cE a)(aJ:cE b)(a1:a.length≤1000000)(hm:b.length≤1000000):DE a b=some (L (V a*V b)):=by
 unfold DE
 simp only [gR]
 by_cases o:a=[]
 ·subst o
  simp [V,pO]
 ·by_cases R:b=[]
  ·subst R
   simp [o,V,pO]
  ·obtain ⟨r,ap,ad,aD,aM⟩:=Jn bt aJ a1 hm
   have e:U ((a.length:Int)+(b.length:Int))=((a.length+b.length:Nat):Int):=by rw [cQ (by omega) (by omega)];rfl
   rw [if_neg (by simp [o]),if_neg (by simp [R]),e,if_pos (by omega),Int.toNat_natCast,ap]
   simp only [Option.bind_eq_bind,Option.bind_some]
   rw [Af ad (by omega),aM]
   rfl
theorem V6:IE=Dp:=rfl
theorem Vw:It=Dp:=rfl
theorem Ap {a b:List Int}(bt:cE a)(aJ:cE b)(a1:a.length≤1000000)(hm:b.length≤1000000):pM a b=some (L (V a*V b)):=by
 unfold pM
 simp only [gR]
 by_cases o:a=[]
 ·subst o
  simp [V,pO]
 ·by_cases R:b=[]
  ·subst R
   simp [o,V,pO]
  ·obtain ⟨r,ap,ad,aD,aM⟩:=Jn bt aJ a1 hm
   have e:U ((a.length:Int)+(b.length:Int))=((a.length+b.length:Nat):Int):=by rw [cQ (by omega) (by omega)];rfl
   rw [if_neg (by simp [o]),if_neg (by simp [R]),e,if_pos (by omega),Int.toNat_natCast,V6,ap]
   simp only [Option.bind_eq_bind,Option.bind_some]
   rw [yd ad (by omega),aM]
   rfl
theorem N4 {a b:List Int}(bt:cE a)(aJ:cE b)(o:a≠[])(R:b≠[])(a1:a.length≤1000000)(hm:b.length≤1000000):
 ∃k r,xI a b=some (k,r)∧k≤r.length∧r.length=a.length+b.length∧r.take k=L (V a*V b)∧cE r:=by
 obtain ⟨r,ap,ad,aD,aM⟩:=Jn bt aJ a1 hm
 obtain ⟨k,aX,bq,bQ⟩:=W5 ad (by omega)
 refine ⟨k,r,?_,bq,aD,by rw [bQ,aM],ad⟩
 unfold xI
 simp only [gR]
 have e:U ((a.length:Int)+(b.length:Int))=((a.length+b.length:Nat):Int):=by rw [cQ (by omega) (by omega)];rfl
 rw [if_neg (by simp [o]),if_neg (by simp [R]),e,if_pos (by omega),Int.toNat_natCast,Vw,ap]
 simp only [Option.bind_eq_bind,Option.bind_some]
 rw [aX]
 rfl
theorem A1 {x:Int}(o:0≤x)(R:x<18446744073709551616):IntKind.wrap .u64 x=x:=by
 simp only [IntKind.wrap,IntKind.signed,IntKind.bits]
 have:((2:Int) ^ 64)=18446744073709551616:=by decide
 simp
 omega
theorem aar {x:Int}(o:-9223372036854775808≤x)(R:x<9223372036854775808):IntKind.wrap .i64 x=x:=cQ o R
theorem e7.snoc {l:List Int}{x:Int}(h:cE l)(aa:0<x∧x<1000000000):e7 (l++[x]):=⟨h.append (cE.cons (by omega) cE.nil),fun y aK=>by
 rw [List.getLast?_append] at aK
 simp at aK
 omega⟩
theorem Oy {N:Int}(fC:N<18446744073709551616){n:Int}{row:List Int}(h:0≤n∧cE row∧V row+B row.length*n=N∧(n=0→e7 row)∧((row.length=0∧n<18446744073709551616)∨(row.length=1∧n<20000000000)∨(row.length=2∧n<20)∨(row.length=3∧n=0)))(a1:0<n):
 (fun (n:Int) (row:List Int)=>0≤n∧cE row∧V row+B row.length*n=N∧(n=0→e7 row)∧((row.length=0∧n<18446744073709551616)∨(row.length=1∧n<20000000000)∨(row.length=2∧n<20)∨(row.length=3∧n=0))) (n / 1000000000) (row++[n % 1000000000]):=by
 obtain ⟨h0,o,R,ad,aD⟩:=h
 refine ⟨by omega,o.append (cE.cons (by omega) cE.nil),?_,fun aM=>e7.snoc o (by omega),?_⟩
 ·rw [x3,List.length_append,List.length_singleton,mV,lM,AY]
  have:=Int.mul_ediv_add_emod n 1000000000
  generalize n / 1000000000=u at *
  generalize n % 1000000000=t at *
  grind
 ·rw [List.length_append,List.length_singleton]
  omega
theorem D4 {n:Int}(h:0≤n)(a1:n<9223372036854775808):xS n=some (L n):=by
 have : ∃r,iter (fun w:Int×List Int=>C2 w.1 w.2) (n,[])=some r∧r=L n:=by
  refine kQ (eL:=fun w:Int×List Int=>w.1≤n∧0≤w.1∧cE w.2∧V w.2+B w.2.length*w.1=n∧(w.1=0→e7 w.2)∧((w.2.length=0∧w.1<18446744073709551616)∨(w.2.length=1∧w.1<20000000000)∨(w.2.length=2∧w.1<20)∨(w.2.length=3∧w.1=0))) (m:=fun w:Int×List Int=>w.1.toNat) _ ?_ _ ⟨Int.le_refl _,h,cE.nil,by simp [V,B],fun _=>e7.nil,.inl ⟨rfl,by simp only;omega⟩⟩
  rintro ⟨m,row⟩ ⟨hm,dv⟩
  simp only at hm dv
  obtain ⟨h0,o,R,ad,aD⟩:=id dv
  by_cases jP:0<m
  ·have:=Oy (by omega) dv jP
   refine .inl ⟨(m / 1000000000,row++[m % 1000000000]),?_,⟨by simp only;omega,this⟩,by simp only;omega⟩
   unfold C2
   rw [if_pos (by simp;omega),tE (by omega),pG (by omega),if_pos (by simp;omega),cQ (by omega) (by omega)]
  ·refine .inr ⟨row,by simp [C2,jP],?_⟩
   have n8:m=0:=by omega
   refine vE (ad n8) ?_
   rw [n8] at R
   simpa using R
 obtain ⟨r,ap,rfl⟩:=this
 unfold xS Nm
 rw [ap]
 rfl
theorem Jf {n:Int}(h:0≤n)(a1:n<18446744073709551616):u4 n=some (L n):=by
 have : ∃r,iter (fun w:Int×List Int=>w8 w.1 w.2) (n,[])=some r∧r=L n:=by
  refine kQ (eL:=fun w:Int×List Int=>w.1≤n∧0≤w.1∧cE w.2∧V w.2+B w.2.length*w.1=n∧(w.1=0→e7 w.2)∧((w.2.length=0∧w.1<18446744073709551616)∨(w.2.length=1∧w.1<20000000000)∨(w.2.length=2∧w.1<20)∨(w.2.length=3∧w.1=0))) (m:=fun w:Int×List Int=>w.1.toNat) _ ?_ _ ⟨Int.le_refl _,h,cE.nil,by simp [V,B],fun _=>e7.nil,.inl ⟨rfl,by simp only;omega⟩⟩
  rintro ⟨m,row⟩ ⟨hm,dv⟩
  simp only at hm dv
  obtain ⟨h0,o,R,ad,aD⟩:=id dv
  by_cases jP:0<m
  ·have:=Oy (by omega) dv jP
   refine .inl ⟨(m / 1000000000,row++[m % 1000000000]),?_,⟨by simp only;omega,this⟩,by simp only;omega⟩
   unfold w8
   rw [if_pos (by simp;omega),tE (by omega),pG (by omega),aar (x:=m % 1000000000) (by omega) (by omega),if_pos (by simp;omega),A1 (by omega) (by omega)]
  ·refine .inr ⟨row,by simp [w8,jP],?_⟩
   have n8:m=0:=by omega
   refine vE (ad n8) ?_
   rw [n8] at R
   simpa using R
 obtain ⟨r,ap,rfl⟩:=this
 unfold u4 Iq
 rw [ap]
 rfl
def pt (x:Int):Bool:=decide (0≤x) && decide (x<1000000000)
theorem JM (l:List Int):l.all pt=true↔cE l:=by
 simp [pt,cE]
theorem Jg {a:List Int}(h:a≠[]): ∃x,a[a.length-1]? = some x∧(e7 a↔cE a∧x≠0):=by
 have ah:=List.length_pos_iff.mpr h
 refine ⟨a[a.length-1],List.getElem?_eq_getElem (by omega),?_⟩
 have e:a.getLast? = some a[a.length-1]:=by rw [List.getLast?_eq_getElem?];exact List.getElem?_eq_getElem (by omega)
 constructor
 ·exact fun h=>⟨h.1,h.2 _ e⟩
 ·refine fun h=>⟨h.1,fun x aa=> ?_⟩
  rw [e] at aa
  rw [← Option.some.inj aa]
  exact h.2
theorem QK {a:List Int}(h:a≠[])(hm:(a.length:Int)<9223372036854775807):U ((a.length:Int)-1)=((a.length-1:Nat):Int):=by
 have ah:=List.length_pos_iff.mpr h
 rw [cQ (by omega) (by omega)]
 omega
theorem Ww (x:Int):Je x 0 999999999=some (pt x):=by
 unfold Je pt
 by_cases h:0≤x
 ·simp [h];omega
 ·simp [h]
theorem N5 {a:List Int}(hm:(a.length:Int)<9223372036854775807): ∃ok,xT a=some ok∧(ok=true↔e7 a∧a.length≤60):=by
 have o:iter (fun w:Int=>C3 a a.length w) 0=some (if a.all pt then .inl () else .inr ()):=by
  refine XQ a pt (fun n x aa=> ?_) (by simp [C3])
  have:=fE aa
  unfold C3
  rw [if_pos (by simp;omega),if_pos (by omega),Int.toNat_natCast,aa]
  simp only [Option.bind_eq_bind,Option.bind_some,Ww]
  rw [oW (by omega)]
  cases pt x<;>rfl
 unfold xT Nn
 simp only [gR]
 rw [o]
 by_cases rj:a.all pt=true
 ·have Bq:=(JM a).1 rj
  simp only [rj,if_true,Option.bind_eq_bind,Option.bind_some]
  by_cases zc:a.length≤60
  ·rw [if_pos (by simp;omega)]
   by_cases h0:a=[]
   ·subst h0
    exact ⟨true,rfl,by simp [e7.nil]⟩
   ·obtain ⟨x,aa,a1⟩:=Jg h0
    have ah:=List.length_pos_iff.mpr h0
    rw [if_neg (by simp [h0]),QK h0 hm,if_pos (by omega),Int.toNat_natCast,aa]
    refine ⟨_,rfl,?_⟩
    rw [a1]
    simp [Bq,zc]
  ·rw [if_neg (by simp;omega)]
   exact ⟨false,rfl,by simp;omega⟩
 ·have Bq : ¬cE a:=fun h=>rj ((JM a).2 h)
  simp only [Bool.not_eq_true] at rj
  refine ⟨false,by simp [rj],?_⟩
  simp only [Bool.false_eq_true,false_iff]
  exact fun h=>Bq h.1.1
theorem Wx (x:Int):zZ x=some (!pt x):=by
 unfold zZ pt
 by_cases h:x<0
 ·simp [h]
 ·rw [if_neg (by simp [h])]
  congr 1
  rw [Bool.eq_iff_iff]
  simp
  omega
theorem NF {a:List Int}(hm:(a.length:Int)<9223372036854775807):wY a=some (!(a.all pt)):=by
 obtain ⟨r,ap,h⟩:=Ox (f:=fun w:Int=>wN a a.length w) a (fun x=> !pt x) (fun n x aa=>by
  have:=fE aa
  unfold wN
  rw [if_pos (by simp;omega),if_pos (by omega),Int.toNat_natCast,aa]
  simp only [Option.bind_eq_bind,Option.bind_some,Wx]
  rw [oW (by omega)]
  cases pt x<;>rfl) (by simp [wN])
 have e:a.any (fun x=> !pt x) = !(a.all pt):=by rw [List.not_all_eq_any_not]
 rw [e] at h
 unfold wY CK GM
 simp only [gR]
 rw [ap]
 rcases h with ⟨k,rfl,aX,h⟩|⟨rfl,h⟩
 ·simp only [Option.bind_eq_bind,Option.bind_some]
  rw [h]
  simp [aX]
 ·simp only [Option.bind_eq_bind,Option.bind_some]
  rw [h]
  rfl
theorem Wy {a:List Int}(hm:(a.length:Int)<9223372036854775807): ∃ok,vd a=some ok∧(ok=true↔e7 a∧a.length≤60):=by
 unfold vd
 simp only [gR]
 by_cases zc:60<a.length
 ·rw [if_pos (by simp;omega)]
  exact ⟨false,rfl,by simp;omega⟩
 ·rw [if_neg (by simp;omega)]
  by_cases h0:a=[]
  ·subst h0
   exact ⟨true,by simp [NF],by simp [e7.nil]⟩
  ·obtain ⟨x,aa,a1⟩:=Jg h0
   have ah:=List.length_pos_iff.mpr h0
   rw [if_pos (by simp;omega),QK h0 hm,if_pos (by omega),Int.toNat_natCast,aa]
   simp only [Option.bind_eq_bind,Option.bind_some]
   rw [a1]
   by_cases iZ:x=0
   ·exact ⟨false,by simp [iZ],by simp [iZ]⟩
   ·rw [if_neg (by simp [iZ]),NF hm]
    refine ⟨_,rfl,?_⟩
    rw [← JM]
    simp [iZ]
    omega
theorem N6 {a:List Int}(hm:(a.length:Int)<9223372036854775807): ∃ok,xT a=some ok∧vd a=some ok∧(ok=true↔e7 a∧a.length≤60):=by
 obtain ⟨b3,o,R⟩:=N5 hm
 obtain ⟨a9,ad,aD⟩:=Wy hm
 have:a9=b3:=Bool.eq_iff_iff.mpr (aD.trans R.symm)
 exact ⟨b3,o,this▸ad,R⟩
theorem NG {a:List Int}(bt:e7 a)(zc:a.length≤60)(a2:V a<9223372036854775808):Dv a=some (V a,true):=by
 obtain ⟨ok,o,R⟩:=N5 (a:=a) (by omega)
 have m4:ok=true:=R.2 ⟨bt,zc⟩
 subst m4
 have aP:e7 [854775807,223372036,9]:=⟨by intro x aa;simp at aa;omega,by simp⟩
 have Lp:V [854775807,223372036,9]=9223372036854775807:=by decide
 unfold Dv
 rw [o]
 simp only [Option.bind_eq_bind,Option.bind_some,if_true]
 rw [yp bt aP (by omega),Lp]
 have : ∃r,iter (fun w:Int×Int=>CQ a w.1 w.2) (0,(a.length:Int)-1)=some r∧r=V a:=by
  refine kQ (eL:=fun w:Int×Int=> ∃k:Nat,w.2=(k:Int)-1∧k≤a.length∧w.1=V (a.drop k)) (m:=fun w:Int×Int=>(w.2+1).toNat) _ ?_ _ ⟨a.length,rfl,by omega,by simp [V]⟩
  rintro ⟨n,i⟩ ⟨k,ad,aX,aD⟩
  simp only at ad aD
  subst ad aD
  cases k with
  | zero=>exact .inr ⟨V a,by simp [CQ],rfl⟩
  | succ k =>
   have aa:=List.getElem?_eq_getElem (show k<a.length by omega)
   have iZ:=bt.1.get aa
   have aM:=o6 aa
   have bq:=lk (bt.1.drop (k+1))
   have bQ:V (a.drop k)≤V a:=by
    have bn:=vn (l:=a) (n:=k) (by omega)
    have cA:=lk (bt.1.take k)
    have de:=lk (bt.1.drop k)
    have cK:1*V (a.drop k)≤B k*V (a.drop k):=Int.mul_le_mul_of_nonneg_right (oC k) de
    omega
   refine .inl ⟨(V (a.drop k),(k:Int)-1),?_,⟨k,rfl,by omega,rfl⟩,by simp only;omega⟩
   unfold CQ
   rw [show ((k+1:Nat):Int)-1=k by omega,if_pos (by simp),if_pos (by omega),Int.toNat_natCast,aa]
   simp only [Option.bind_eq_bind,Option.bind_some]
   rw [qY (by omega),cQ (x:=V (a.drop (k+1))*1000000000) (by omega) (by omega),cQ (by omega) (by omega),aM]
   congr 3
   omega
 obtain ⟨r,ap,rfl⟩:=this
 unfold m1 MX
 simp only [gR]
 rw [qY (by omega),ap]
 have ad : ¬(9223372036854775807:Int)<V a:=by omega
 by_cases aD:V a<9223372036854775807<;>simp [ad,aD]
theorem X4 {a b row:List Int}{less x:Int}{i:Nat}(aJ:cE b)(aa:a[i]? = some x)(iZ:0≤x∧x<1000000000)(aL:less=0∨less=1)(a1:a.length≤1000000)(hm:b.length≤1000000)(ap:row.length≤1000000):
 ∃y,0≤y∧y<1000000000∧(∀z,b[i]? = some z→y=z)∧(b[i]? = none→y=0) ∧
 zH a b a.length less i row=some (.inl (if x-less-y<0 then (1,((i+1:Nat):Int),row++[x-less-y+1000000000]) else (0,((i+1:Nat):Int),row++[x-less-y]))):=by
 have ag:=fE aa
 unfold zH
 rw [if_pos (by simp;omega),if_pos (by omega),Int.toNat_natCast,aa]
 simp only [Option.bind_eq_bind,Option.bind_some,gR]
 by_cases ab4:i<b.length
 ·have aK:=List.getElem?_eq_getElem ab4
  have oQ:=aJ.get aK
  refine ⟨b[i],oQ.1,oQ.2,fun z cd=>by rw [aK] at cd;exact Option.some.inj cd,fun h=>by rw [aK] at h;simp at h,?_⟩
  rw [if_pos (by simp;omega),if_pos (by omega),aK]
  simp only [Option.bind_some]
  rw [cQ (x:=x-less) (by omega) (by omega),cQ (x:=x-less-b[i]) (by omega) (by omega),qj (n:=i) (by omega),cQ (x:=x-less-b[i]+1000000000) (by omega) (by omega)]
  by_cases h:x-less-b[i]<0
  ·rw [if_pos (by simp [h]),if_pos (by simp;omega)]
   simp [h]
  ·rw [if_neg (by simp [h]),if_pos (by simp;omega)]
   simp [h]
 ·have aK:b[i]? = none:=by simp;omega
  refine ⟨0,by omega,by omega,fun z cd=>by rw [aK] at cd;simp at cd,fun _=>rfl,?_⟩
  rw [if_neg (by simp;omega),cQ (x:=x-less) (by omega) (by omega),qj (n:=i) (by omega),cQ (x:=x-less+1000000000) (by omega) (by omega),Int.sub_zero]
  by_cases h:x-less<0
  ·rw [if_pos (by simp [h]),if_pos (by simp;omega)]
   simp [h]
  ·rw [if_neg (by simp [h]),if_pos (by simp;omega)]
   simp [h]
theorem O3 {b:List Int}{i:Nat}{y:Int}(o:∀z,b[i]? = some z→y=z)(R:b[i]? = none→y=0):V (b.take (i+1))=V (b.take i)+B i*y:=by
 cases h:b[i]? with
 | some z=>rw [o z h,sS h]
 | none =>
  rw [R h]
  have:b.length≤i:=by simpa using h
  rw [List.take_of_length_le (by omega),List.take_of_length_le (by omega)]
  simp
theorem sub_eq {a b:List Int}(bt:cE a)(aJ:cE b)(hlen:b.length≤a.length)(uy:V b≤V a)(a1:a.length≤1000000):I5 a b=some (L (V a-V b)):=by
 have : ∃r,iter (fun w:Int×Int×List Int=>zH a b a.length w.1 w.2.1 w.2.2) (0,0,[])=some r∧cE r∧r.length=a.length∧V r=V a-V b:=by
  refine kQ (eL:=fun w:Int×Int×List Int=> ∃i:Nat,w.2.1=i∧i≤a.length∧(w.1=0∨w.1=1)∧cE w.2.2∧w.2.2.length=i∧V w.2.2-w.1*B i=V (a.take i)-V (b.take i)) (m:=fun w:Int×Int×List Int=>a.length-w.2.1.toNat) _ ?_ _ ⟨0,rfl,by omega,.inl rfl,cE.nil,rfl,by simp [V]⟩
  rintro ⟨less,ii,row⟩ ⟨i,o,ag,aL,kl,wa,a2⟩
  simp only at o aL kl wa a2 ⊢
  subst o
  by_cases BX:i=a.length
  ·refine .inr ⟨row,by simp [zH,BX],kl,by omega,?_⟩
   rw [BX] at a2
   rw [List.take_length,List.take_of_length_le hlen] at a2
   have R:=m0 kl
   rw [wa,BX] at R
   rcases aL with rfl|rfl<;>omega
  ·have aa:=List.getElem?_eq_getElem (show i<a.length by omega)
   have iZ:=bt.get aa
   obtain ⟨y,BZ,aeV,ab5,ab6,he⟩:=X4 (row:=row) aJ aa iZ aL a1 (by omega) (by omega)
   rw [he]
   refine .inl ⟨_,rfl,?_⟩
   have ad:=sS aa
   have aD:=O3 ab5 ab6
   by_cases h:a[i]-less-y<0
   ·rw [if_pos h]
    refine ⟨⟨i+1,rfl,by omega,.inr rfl,kl.append (cE.cons (by omega) cE.nil),by simp [wa],?_⟩,by simp only;omega⟩
    simp only
    rw [ad,aD,x3,wa,mV,lM,AY]
    grind
   ·rw [if_neg h]
    refine ⟨⟨i+1,rfl,by omega,.inl rfl,kl.append (cE.cons (by omega) cE.nil),by simp [wa],?_⟩,by simp only;omega⟩
    simp only
    rw [ad,aD,x3,wa,lM,AY]
    grind
 obtain ⟨r,ap,o,R,ad⟩:=this
 unfold I5 Nb
 simp only [gR]
 rw [ap]
 simp only [Option.bind_eq_bind,Option.bind_some]
 rw [Af o (by omega),ad]
 rfl
theorem r7 {l:List Int}(h:cE l){k:Nat}(aX:k≤l.length):B k*V (l.drop k)≤V l∧V l<B k*(V (l.drop k)+1):=by
 have o:=vn aX
 have R:=lk (h.take k)
 have ad:=m0 (h.take k)
 rw [List.length_take,Nat.min_eq_left aX] at ad
 rw [Int.mul_add,Int.mul_one]
 omega
theorem Aq {l:List Int}{k:Nat}{x:Int}(aa:l[k]? = some x)(aL:l.length=k+1):V (l.drop k)=x:=by
 rw [o6 aa,List.drop_of_length_le (by omega)]
 simp [V]
theorem Nr {aR W t d P:Int}(f9:1≤P)(Fm:P*t≤aR)(Lq:aR<P*(t+1))(uD:P*d≤W)(Fo:W<P*(d+1))(bh:0<d)(cp:0≤t)(Lr:aR<1000000000*W):t / (d+1)≤aR / W∧aR / W≤t / d∧aR / W≤999999999:=by
 have hW:0<W:=by
  have:=Int.mul_pos (a:=P) (b:=d) (by omega) bh
  omega
 have cX:0≤aR:=by
  have:=Int.mul_nonneg (a:=P) (b:=t) (by omega) cp
  omega
 refine ⟨?_,?_,?_⟩
 ·apply (Int.le_ediv_iff_mul_le hW).2
  have o:t / (d+1)*(d+1)≤t:=Int.ediv_mul_le _ (by omega)
  have R:0≤t / (d+1):=Int.ediv_nonneg cp (by omega)
  have ad:t / (d+1)*W≤t / (d+1)*(P*(d+1)):=Int.mul_le_mul_of_nonneg_left (by omega) R
  have aD:P*(t / (d+1)*(d+1))≤P*t:=Int.mul_le_mul_of_nonneg_left o (by omega)
  have aM:t / (d+1)*(P*(d+1))=P*(t / (d+1)*(d+1)):=by grind
  omega
 ·apply (Int.le_ediv_iff_mul_le bh).2
  have o:aR / W*W≤aR:=Int.ediv_mul_le _ (by omega)
  have R:0≤aR / W:=Int.ediv_nonneg cX (by omega)
  have ad:aR / W*(P*d)≤aR / W*W:=Int.mul_le_mul_of_nonneg_left uD R
  have aD:aR / W*(P*d)=P*(aR / W*d):=by grind
  have aM:P*(aR / W*d)<P*(t+1):=by omega
  have:=Int.lt_of_mul_lt_mul_left aM (by omega)
  omega
 ·have:=Int.ediv_lt_of_lt_mul hW Lr
  omega
theorem PE {a b:Int}:m1 a b≤0↔a≤b:=by
 unfold m1
 by_cases h:a<b
 ·simp [h];omega
 ·by_cases R:b<a
  ·simp [h,R]
  ·simp [h,R];omega
theorem ye {a b:Int}:m1 a b<0↔a<b:=by
 unfold m1
 by_cases h:a<b
 ·simp [h]
 ·by_cases R:b<a
  ·simp [h,R]
  ·simp [h,R]
theorem Jo {a b:Int}:m1 a b=0↔a=b:=by
 unfold m1
 by_cases h:a<b
 ·simp [h];omega
 ·by_cases R:b<a
  ·simp [h,R];omega
  ·simp [h,R];omega
theorem N7 {r b:List Int}(ap:e7 r)(aJ:e7 b)(lx:b≠[])(a1:r.length≤1000000)(hm:b.length≤1000000){bV ag:Int}(h0:0≤bV)(o:bV≤V r / V b)(R:V r / V b≤ag)(ad:ag≤999999999):Io r b bV ag=some (V r / V b):=by
 have mD:=rD aJ lx
 have : ∃q,iter (fun w:Int×Int=>zA r b w.1 w.2) (bV,ag)=some q∧q=V r / V b:=by
  refine kQ (eL:=fun w:Int×Int=>0≤w.1∧w.1≤V r / V b∧V r / V b≤w.2∧w.2≤999999999) (m:=fun w:Int×Int=>(w.2-w.1).toNat) _ ?_ _ ⟨h0,o,R,ad⟩
  rintro ⟨l,h⟩ ⟨g0,g1,g2,g3⟩
  simp only at g0 g1 g2 g3
  by_cases dC:l<h
  ·have aw:U ((U ((U (l+h))+(1:Int))).tdiv (2:Int))=(l+h+1) / 2:=by
    rw [cQ (x:=l+h) (by omega) (by omega),cQ (x:=l+h+1) (by omega) (by omega),pG (by omega),cQ (by omega) (by omega)]
   have n8:0≤(l+h+1) / 2:=by omega
   have rf:(l+h+1) / 2<1000000000:=by omega
   have Rl:(L ((l+h+1) / 2)).length≤1:=(jo n8).2 (by simpa [B] using rf)
   have aC:zA r b l h=some (.inl (if V b*((l+h+1) / 2)≤V r then ((l+h+1) / 2,h) else (l,(l+h+1) / 2-1))):=by
    unfold zA
    rw [if_pos (by simp [dC]),aw,D4 n8 (by omega)]
    simp only [Option.bind_eq_bind,Option.bind_some]
    rw [mul_eq aJ.1 (kI _) hm (by omega),fs n8]
    simp only [Option.bind_some]
    have ah:0≤V b*((l+h+1) / 2):=Int.mul_nonneg (by omega) n8
    have hlen:(L (V b*((l+h+1) / 2))).length≤b.length+1:=(jo ah).2 (by
     rw [mV]
     have aM:=m0 aJ.1
     have:V b*((l+h+1) / 2)≤V b*1000000000:=Int.mul_le_mul_of_nonneg_left (by omega) (by omega)
     omega)
    rw [yp (jX _) ap (by omega),fs ah]
    simp only [Option.bind_some]
    by_cases aP:V b*((l+h+1) / 2)≤V r
    ·rw [if_pos (by simpa using PE.2 aP),if_pos aP]
    ·rw [if_neg (fun h=>aP (PE.1 (by simpa using h))),if_neg aP,cQ (by omega) (by omega)]
   rw [aC]
   refine .inl ⟨_,rfl,?_⟩
   by_cases aP:V b*((l+h+1) / 2)≤V r
   ·rw [if_pos aP]
    have:(l+h+1) / 2≤V r / V b:=(Int.le_ediv_iff_mul_le mD).2 (by rw [Int.mul_comm];exact aP)
    exact ⟨⟨by simp only;omega,this,g2,g3⟩,by simp only;omega⟩
   ·rw [if_neg aP]
    have:V r / V b<(l+h+1) / 2:=(Int.ediv_lt_iff_lt_mul mD).2 (by rw [Int.mul_comm];omega)
    exact ⟨⟨g0,g1,by simp only;omega,by simp only;omega⟩,by simp only;omega⟩
  ·exact .inr ⟨l,by simp [zA,dC],by omega⟩
 obtain ⟨q,a6,rfl⟩:=this
 exact a6
theorem Ex {b:List Int}(aJ:e7 b)(lx:b≠[]): ∃k d,b.length=k+1∧b[k]? = some d∧0<d∧d<1000000000∧V (b.drop k)=d:=by
 have ah:=List.length_pos_iff.mpr lx
 obtain ⟨x,aa,h⟩:=Jg lx
 have o:=h.1 aJ
 have R:=o.1.get aa
 exact ⟨b.length-1,x,by omega,aa,by omega,R.2,Aq aa (by omega)⟩
theorem X5 {r b:List Int}(ap:e7 r)(aJ:e7 b)(lx:b≠[])(a1:r.length≤1000000)(hm:b.length≤1000000)(o:V b≤V r)(R:V r<1000000000*V b):IJ r b=some (V r / V b):=by
 obtain ⟨k,d,aX,bh,q6,rh,uE⟩:=Ex aJ lx
 have Rd:b.length≤r.length:=Nat.le_of_not_lt fun h=>by
  have:=Eh ap aJ h
  omega
 have Re:r.length≤b.length+1:=ap.len.2 (by
  have:=m0 aJ.1
  rw [mV]
  omega)
 have uu:=r7 aJ.1 (k:=k) (by omega)
 rw [uE] at uu
 have iS:=r7 ap.1 (k:=k) (by omega)
 have aa:=List.getElem?_eq_getElem (show k<r.length by omega)
 have iZ:=ap.1.get aa
 have hw:U ((b.length:Int)-1)=(k:Int):=by rw [cQ (by omega) (by omega)];omega
 have mM:=lk (ap.1.drop k)
 have Fp:=Nr (oC k) iS.1 iS.2 uu.1 uu.2 q6 mM R
 have aeW:=lk ap.1
 have hW:=rD aJ lx
 unfold IJ
 simp only [gR,hw]
 rw [if_pos (by omega),Int.toNat_natCast,aa]
 simp only [Option.bind_eq_bind,Option.bind_some]
 by_cases hlen:b.length<r.length
 ·have aK:=List.getElem?_eq_getElem hlen
  have oQ:=ap.1.get aK
  have oa:V (r.drop (k+1))=r[b.length]:=by
   rw [← aX]
   exact Aq aK (by omega)
  have cp:V (r.drop k)=r[k]+1000000000*r[b.length]:=by rw [o6 aa,oa]
  rw [cp] at Fp mM
  have n3:0≤(r[k]+1000000000*r[b.length]) / (d+1):=Int.ediv_nonneg mM (by omega)
  have rI:(r[k]+1000000000*r[b.length]) / (d+1)≤r[k]+1000000000*r[b.length]:=Int.ediv_le_self _ mM
  have yK:0≤(r[k]+1000000000*r[b.length]) / d:=Int.ediv_nonneg mM (by omega)
  have ab7:(r[k]+1000000000*r[b.length]) / d≤r[k]+1000000000*r[b.length]:=Int.ediv_le_self _ mM
  rw [if_pos (by simp;omega),if_pos (by omega),Int.toNat_natCast,aK]
  simp only [Option.bind_some]
  rw [if_pos (by omega),bh]
  simp only [Option.bind_some]
  have aw:U (d+1)=d+1:=cQ (by omega) (by omega)
  have aC:U (r[k]+U (r[b.length]*1000000000))=r[k]+1000000000*r[b.length]:=by
   rw [cQ (x:=r[b.length]*1000000000) (by omega) (by omega),cQ (by omega) (by omega),Int.mul_comm]
  rw [aw,if_pos (by omega),if_pos (by omega),aC,pG mM,pG mM,cQ (by omega) (by omega),cQ (x:=(r[k]+1000000000*r[b.length]) / d) (by omega) (by omega)]
  rw [N7 ap aJ lx a1 hm n3 Fp.1 (by split<;>omega) (by split<;>omega)]
  rfl
 ·have cp:V (r.drop k)=r[k]:=Aq aa (by omega)
  rw [cp] at Fp mM
  have n3:0≤r[k] / (d+1):=Int.ediv_nonneg mM (by omega)
  have rI:r[k] / (d+1)≤r[k]:=Int.ediv_le_self _ mM
  have yK:0≤r[k] / d:=Int.ediv_nonneg mM (by omega)
  have ab7:r[k] / d≤r[k]:=Int.ediv_le_self _ mM
  rw [if_neg (by simp;omega),if_pos (by omega),bh]
  simp only [Option.bind_some]
  have aw:U (d+1)=d+1:=cQ (by omega) (by omega)
  rw [aw,if_pos (by omega),if_pos (by omega),pG mM,pG mM,cQ (by omega) (by omega),cQ (x:=r[k] / d) (by omega) (by omega)]
  rw [N7 ap aJ lx a1 hm n3 Fp.1 (by split<;>omega) (by split<;>omega)]
  rfl
theorem X6 {a b:List Int}(bt:e7 a)(aJ:e7 b)(lx:b≠[])(a1:a.length≤900000)(hm:b.length≤900000):
 ∃r,Nd a b [] ((a.length:Int)-1) (List.replicate a.length 0)=some r∧r.1=L (V a % V b)∧cE r.2∧r.2.length=a.length∧V r.2=V a / V b:=by
 have mD:=rD aJ lx
 refine kQ (eL:=fun w:List Int×Int×List Int=> ∃(k:Nat) (q:List Int),w.2.1=(k:Int)-1∧k≤a.length∧w.2.2=List.replicate k 0++q∧q.length+k=a.length∧cE q∧e7 w.1∧V w.1<V b∧V (a.drop k)=V q*V b+V w.1) (m:=fun w:List Int×Int×List Int=>(w.2.1+1).toNat) _ ?_ _ ⟨a.length,[],rfl,by omega,by simp,by simp,cE.nil,e7.nil,by simpa [V] using mD,by simp [V]⟩
 rintro ⟨rest,i,row⟩ ⟨k,q,o,aX,R,a6,ts,lv,iS,a2⟩
 simp only at o R lv iS a2 ⊢
 subst o R
 have B0:=lk lv.1
 cases k with
 | zero =>
  simp at a2
  refine .inr ⟨(rest,q),by simp [CZ],?_,ts,by simpa using a6,?_⟩
  ·refine vE lv ?_
   rw [a2,Int.add_comm,Int.add_mul_emod_self_right]
   exact (Int.emod_eq_of_lt B0 iS).symm
  ·rw [a2,Int.add_comm,Int.add_mul_ediv_right _ _ (by omega),Int.ediv_eq_zero_of_lt B0 iS]
   simp
 | succ k =>
  have aa:=List.getElem?_eq_getElem (show k<a.length by omega)
  have iZ:=bt.1.get aa
  have wa:rest.length≤b.length:=lv.len.2 (by have:=m0 aJ.1;omega)
  have hr:cE (a[k]::rest):=cE.cons iZ lv.1
  have Lp:V (a[k]::rest)=a[k]+1000000000*V rest:=lM _ _
  have pB:0≤a[k]+1000000000*V rest:=by omega
  have aeX:(L (a[k]+1000000000*V rest)).length≤b.length+1:=(jo pB).2 (by
   have:=m0 aJ.1
   rw [mV]
   omega)
  have bh:=o6 aa
  have Kf:CZ a b rest (k:Int) (List.replicate (k+1) 0++q)=some (.inl (if a[k]+1000000000*V rest<V b then (L (a[k]+1000000000*V rest),(k:Int)-1,List.replicate (k+1) 0++q) else (L ((a[k]+1000000000*V rest) % V b),(k:Int)-1,(List.replicate (k+1) 0++q).set k ((a[k]+1000000000*V rest) / V b)))):=by
   unfold CZ
   rw [if_pos (by simp),if_pos (by omega),Int.toNat_natCast,aa]
   simp only [Option.bind_eq_bind,Option.bind_some,List.singleton_append]
   rw [if_pos (by simp;omega),Af hr (by simp;omega),Lp]
   simp only [Option.bind_some]
   rw [yp (jX _) aJ (by omega),fs pB]
   simp only [Option.bind_some]
   by_cases aP:a[k]+1000000000*V rest<V b
   ·rw [if_pos (by simpa using ye.2 aP),if_pos aP,qY (by omega)]
   ·rw [if_neg (fun h=>aP (ye.1 (by simpa using h))),if_neg aP]
    have dC:a[k]+1000000000*V rest<1000000000*V b:=by omega
    rw [X5 (jX _) aJ lx (by omega) (by omega) (by rw [fs pB];omega) (by rw [fs pB];exact dC),fs pB]
    simp only [Option.bind_some]
    have n3:0≤(a[k]+1000000000*V rest) / V b:=Int.ediv_nonneg pB (by omega)
    have rI:(a[k]+1000000000*V rest) / V b<1000000000:=Int.ediv_lt_of_lt_mul mD dC
    have aeY:(L ((a[k]+1000000000*V rest) / V b)).length≤1:=(jo n3).2 (by simpa [B] using rI)
    have rf:=Int.mul_ediv_add_emod (a[k]+1000000000*V rest) (V b)
    have B1:=Int.emod_nonneg (a[k]+1000000000*V rest) (b:=V b) (by omega)
    have zd:0≤V b*((a[k]+1000000000*V rest) / V b):=Int.mul_nonneg (by omega) n3
    rw [if_pos (by simp;omega),if_pos (by simp;omega),D4 n3 (by omega)]
    simp only [Option.bind_some]
    rw [mul_eq aJ.1 (kI _) (by omega) (by omega),fs n3]
    simp only [Option.bind_some]
    rw [sub_eq (kI _) (kI _) ((jo zd).2 (by
     have:=m0 (kI (a[k]+1000000000*V rest))
     rw [fs pB] at this
     omega)) (by rw [fs pB,fs zd];omega) (by omega),fs pB,fs zd]
    simp only [Option.bind_some]
    rw [qY (by omega),Nat.zero_add]
    congr 4
    omega
  rw [show ((k+1:Nat):Int)-1=k by omega,Kf]
  refine .inl ⟨_,rfl,?_⟩
  by_cases aP:a[k]+1000000000*V rest<V b
  ·rw [if_pos aP]
   refine ⟨⟨k,0::q,rfl,by omega,?_,by simp;omega,cE.cons (by omega) ts,jX _,by rw [fs pB];exact aP,?_⟩,by simp⟩
   ·simp only
    rw [List.replicate_succ',List.append_assoc];rfl
   ·simp only
    rw [bh,a2,lM,fs pB]
    grind
  ·rw [if_neg aP]
   have dC:a[k]+1000000000*V rest<1000000000*V b:=by omega
   have B1:=Int.emod_nonneg (a[k]+1000000000*V rest) (b:=V b) (by omega)
   refine ⟨⟨k,(a[k]+1000000000*V rest) / V b::q,rfl,by omega,JL _ _ _,by simp;omega,cE.cons ⟨Int.ediv_nonneg pB (by omega),Int.ediv_lt_of_lt_mul mD dC⟩ ts,jX _,by rw [fs B1];exact Int.emod_lt_of_pos _ mD,?_⟩,by simp⟩
   simp only
   rw [bh,a2,lM,fs B1]
   have rf:=Int.mul_ediv_add_emod (a[k]+1000000000*V rest) (V b)
   generalize (a[k]+1000000000*V rest) / V b=u at *
   generalize (a[k]+1000000000*V rest) % V b=t at *
   grind
theorem div_eq {a b:List Int}(bt:e7 a)(aJ:e7 b)(lx:b≠[])(a1:a.length≤900000)(hm:b.length≤900000):DF a b=some (L (V a / V b),L (V a % V b)):=by
 unfold DF
 simp only [gR]
 by_cases o:b.length=1
 ·obtain ⟨k,d,aX,bh,q6,rh,uE⟩:=Ex aJ lx
  have ti:k=0:=by omega
  subst ti
  have Ls:V b=d:=by simpa using uE
  rw [if_pos (by simp [o]),if_pos (by omega),bh]
  simp only [Option.bind_eq_bind,Option.bind_some]
  have rf:=Int.emod_nonneg (V a) (b:=d) (by omega)
  have B1:=Int.emod_lt_of_pos (V a) q6
  rw [X3 bt.1 ⟨q6,rh⟩ (by omega)]
  simp only [Option.bind_some]
  rw [D4 rf (by omega),Ls]
  rfl
 ·obtain ⟨r,ap,aw,aC,b1,dn⟩:=X6 bt aJ lx a1 hm
  rw [if_neg (by simp;omega),if_pos (by omega),qY (by omega),Int.toNat_natCast,ap]
  simp only [Option.bind_eq_bind,Option.bind_some]
  rw [Af aC (by omega),dn,aw]
  rfl
theorem JB {x y:Int}(aa:0≤x):Int.gcd y (x % y)=Int.gcd x y:=by
 have:=Nat.gcd_rec y.natAbs x.natAbs
 simp only [Int.gcd]
 rw [Nat.gcd_comm x.natAbs,this,Int.natAbs_emod_of_nonneg aa,Nat.gcd_comm]
theorem Em {x:Int}(aa:0≤x):(Int.gcd x 0:Int)=x:=by
 rw [Int.gcd_zero_right];omega
theorem X7 {x y:Int}(aa:0≤x)(aK:0≤y)(B2:x<9223372036854775808)(BZ:y<9223372036854775808):IH x y=some (L (Int.gcd x y)):=by
 have : ∃r,iter (fun w:Int×Int=>CR w.1 w.2) (x,y)=some r∧(r=(Int.gcd x y:Int)∧r<9223372036854775808):=by
  refine kQ (eL:=fun w:Int×Int=>0≤w.1∧0≤w.2∧w.1<9223372036854775808∧w.2<9223372036854775808∧Int.gcd w.1 w.2=Int.gcd x y) (m:=fun w:Int×Int=>w.2.toNat) _ ?_ _ ⟨aa,aK,B2,BZ,rfl⟩
  rintro ⟨u,v⟩ ⟨o,R,ad,aD,aM⟩
  simp only at o R ad aD aM
  by_cases a2:0<v
  ·have bq:=Int.emod_nonneg u (b:=v) (by omega)
   have bQ:=Int.emod_lt_of_pos u a2
   refine .inl ⟨(v,u % v),?_,⟨R,bq,aD,by simp only;omega,by rw [← aM];exact JB o⟩,by simp only;omega⟩
   unfold CR
   rw [if_pos (by simpa using a2),if_pos (by omega),tE o]
  ·have RC:v=0:=by omega
   subst RC
   refine .inr ⟨u,by simp [CR],?_,ad⟩
   rw [← aM,Em o]
 obtain ⟨r,ap,rfl,h⟩:=this
 unfold IH MY
 rw [ap]
 simp only [Option.bind_eq_bind,Option.bind_some]
 rw [D4 (by omega) h]
 rfl
theorem Ey {a:List Int}(bt:e7 a)(h:a.length<3):V a<9223372036854775808:=by
 have o:=m0 bt.1
 have R:=tV (m:=a.length) (n:=2) (by omega)
 have ad:B 2=1000000000000000000:=by decide
 omega
theorem ZC {a b:List Int}(bt:e7 a)(aJ:e7 b)(a1:a.length≤900000)(hm:b.length≤900000):I6 a b=some (L (Int.gcd (V a) (V b))):=by
 have : ∃r,iter (fun w:List Int×List Int=>zI w.1 w.2) (a,b)=some r∧r.elim id id=L (Int.gcd (V a) (V b)):=by
  refine kQ (eL:=fun w:List Int×List Int=>e7 w.1∧e7 w.2∧w.1.length≤900000∧w.2.length≤900000∧Int.gcd (V w.1) (V w.2)=Int.gcd (V a) (V b)) (m:=fun w:List Int×List Int=>(V w.2).toNat) _ ?_ _ ⟨bt,aJ,a1,hm,rfl⟩
  rintro ⟨x,y⟩ ⟨o,R,ad,aD,aM⟩
  simp only at o R ad aD aM ⊢
  have iZ:=lk o.1
  have oQ:=lk R.1
  by_cases aK:y=[]
  ·subst aK
   refine .inr ⟨.inl x,by simp [zI,gR],?_⟩
   rw [← aM,AY,Em iZ]
   exact (tl o).symm
  ·have Lt:=rD R aK
   have ab8:=List.length_pos_iff.mpr aK
   by_cases bW:x.length<3∧y.length<3
   ·refine .inr ⟨.inr (L (Int.gcd (V a) (V b))),?_,rfl⟩
    unfold zI
    simp only [gR]
    rw [if_pos (by simp;omega),if_pos (by simp;omega),if_pos (by simp;omega),NG o (by omega) (Ey o bW.1)]
    simp only [Option.bind_eq_bind,Option.bind_some]
    rw [NG R (by omega) (Ey R bW.2)]
    simp only [Option.bind_some]
    rw [X7 iZ oQ (Ey o bW.1) (Ey R bW.2),aM]
    rfl
   ·have wb:=Int.emod_nonneg (V x) (b:=V y) (by omega)
    have ab9:=Int.emod_lt_of_pos (V x) Lt
    refine .inl ⟨(y,L (V x % V y)),?_,⟨R,jX _,aD,(jo wb).2 ?_,?_⟩,?_⟩
    ·unfold zI
     simp only [gR]
     rw [if_pos (by simp;omega),div_eq o R aK ad aD]
     by_cases B3:x.length<3
     ·rw [if_pos (by simp;omega),if_neg (by simp;omega)]
      rfl
     ·rw [if_neg (by simp;omega)]
      rfl
    ·have:=m0 R.1
     have:=tV aD
     omega
    ·simp only
     rw [fs wb,← aM]
     exact JB iZ
    ·simp only
     rw [fs wb]
     omega
 obtain ⟨r,ap,h⟩:=this
 unfold I6 Nf
 rw [List.nil_append,List.nil_append,if_pos (by omega),if_pos (by omega),ap]
 cases r with
 | inl r=>exact congrArg some h
 | inr r=>exact congrArg some h
def pu (p:Nat)(l:List Int):Prop:= ∀i z,i≠p→l[i]? = some z→0≤z∧z<1000000000
theorem pu.set {p:Nat}{l:List Int}(h:pu p l){k:Nat}{x:Int}(aa:0≤x∧x<1000000000):pu p (l.set k x):=fun i z ag cd=>by
 by_cases aX:k=i
 ·subst aX
  rw [List.getElem?_set] at cd
  simp only [if_true] at cd
  split at cd
  ·rw [← Option.some.inj cd];exact aa
  ·simp at cd
 ·rw [List.getElem?_set_ne aX] at cd
  exact h i z ag cd
theorem pu.Q2 {p:Nat}{l:List Int}(h:pu p l){x:Int}:pu p (l.set p x):=fun i z ag cd=>by
 rw [List.getElem?_set_ne (fun h=>ag h.symm)] at cd
 exact h i z ag cd
theorem cE.toE {l:List Int}(h:cE l)(p:Nat):pu p l:=fun _ _ _ cd=>h.get cd
theorem W8 {v row:List Int}{bV m2 i:Nat}{i2 carry x y:Int}(aa:v[i]? = some x)(aK:row[bV+i]? = some y)(iZ:0≤x∧x<1000000000)(oQ:0≤y∧y<1000000000)(aJ:0≤i2∧i2<1000000000)(aP:0≤carry∧carry<1000000000)(hu:i<m2)(a1:row.length≤5000000):
 ∃c z,uX bV m2 v i2 v.length carry i row=some (.inl (c,((i+1:Nat):Int),row.set (bV+i) z))∧0≤c∧c<1000000000∧0≤z∧z<1000000000∧z-1000000000*c=y-i2*x-carry:=by
 have ag:=fE aa
 have aA:=fE aK
 obtain ⟨gi,gB⟩:=AN aJ iZ
 have e:U (U (y-U (i2*x))-carry)=y-i2*x-carry:=by
  rw [cQ (x:=i2*x) (by omega) (by omega),cQ (x:=y-i2*x) (by omega) (by omega),cQ (by omega) (by omega)]
 by_cases cp:y-i2*x-carry<0
 ·refine ⟨(999999999-(y-i2*x-carry)) / 1000000000,y-i2*x-carry+(999999999-(y-i2*x-carry)) / 1000000000*1000000000,?_,by omega,by omega,by omega,by omega,by omega⟩
  unfold uX
  rw [if_pos (by simp;omega),if_pos (by omega),Int.toNat_natCast,aa]
  simp only [Option.bind_eq_bind,Option.bind_some]
  rw [if_pos (by omega),aK]
  simp only [Option.bind_some,e]
  rw [if_pos (by simpa using cp),if_pos (by omega),qj (n:=i) (by omega),cQ (x:=999999999-(y-i2*x-carry)) (by omega) (by omega),pG (by omega),cQ (x:=(999999999-(y-i2*x-carry)) / 1000000000) (by omega) (by omega),cQ (x:=(999999999-(y-i2*x-carry)) / 1000000000*1000000000) (by omega) (by omega),cQ (by omega) (by omega)]
 ·refine ⟨0,y-i2*x-carry,?_,by omega,by omega,by omega,by omega,by omega⟩
  unfold uX
  rw [if_pos (by simp;omega),if_pos (by omega),Int.toNat_natCast,aa]
  simp only [Option.bind_eq_bind,Option.bind_some]
  rw [if_pos (by omega),aK]
  simp only [Option.bind_some,e]
  rw [if_neg (by simpa using cp),if_pos (by omega),qj (n:=i) (by omega)]
theorem W9 {v row:List Int}{bV m2:Nat}{i2:Int}(a2:cE v)(ap:cE row)(aJ:0≤i2∧i2<1000000000)(hu:v.length<m2)(aL:bV+v.length<row.length)(a1:row.length≤5000000):
 ∃r,Iy bV m2 v i2 v.length 0 0 row=some r∧0≤r.1∧r.1<1000000000∧cE r.2∧r.2.length=row.length∧V r.2=V row-i2*B bV*V v+r.1*B (bV+v.length)∧ ∀i,i<bV∨bV+v.length≤i→r.2[i]? = row[i]? := by
 refine kQ (eL:=fun w:Int×Int×List Int=> ∃(i:Nat),w.2.1=(i:Int)∧i≤v.length∧0≤w.1∧w.1<1000000000∧cE w.2.2∧w.2.2.length=row.length∧V w.2.2=V row-i2*B bV*V (v.take i)+w.1*B (bV+i)∧ ∀i,i<bV∨bV+v.length≤i→w.2.2[i]? = row[i]?) (m:=fun w:Int×Int×List Int=>v.length-w.2.1.toNat) _ ?_ _ ⟨0,rfl,by omega,by simp,by simp,ap,rfl,by simp [V],fun _ _=>rfl⟩
 rintro ⟨carry,ii,f6⟩ ⟨i,o,ag,m6,m8,kl,hlen,hV,lm⟩
 simp only at o m6 m8 kl hlen hV lm ⊢
 subst o
 by_cases yN:i=v.length
 ·subst yN
  exact .inr ⟨(carry,f6),by simp [uX],m6,m8,kl,hlen,by simpa using hV,lm⟩
 ·have aa:=List.getElem?_eq_getElem (show i<v.length by omega)
  have aK:=List.getElem?_eq_getElem (show bV+i<f6.length by omega)
  obtain ⟨c,z,he,cx,bE,nm,rX,cd⟩:=W8 (m2:=m2) aa aK (a2.get aa) (kl.get aK) aJ ⟨m6,m8⟩ (by omega) (by omega)
  rw [he]
  refine .inl ⟨_,rfl,⟨i+1,rfl,by omega,cx,bE,kl.set ⟨nm,rX⟩,by simpa using hlen,?_,fun k aX=> ?_⟩,by simp;omega⟩
  ·simp only
   rw [se aK,sS aa,hV,← Nat.add_assoc,mV,AX]
   have vN:z=f6[bV+i]-i2*v[i]-carry+1000000000*c:=by omega
   rw [vN]
   grind
  ·simp only
   rw [List.getElem?_set_ne (by omega)]
   exact lm k aX
theorem ZD {v row:List Int}{bV m2:Nat}{i2:Int}(a2:cE v)(ap:cE row)(aJ:0≤i2∧i2<1000000000)(hu:v.length<m2)(aL:bV+v.length<row.length)(a1:row.length≤5000000):
 ∃y dV,z4 v i2 bV m2 row=some (decide (y<0),dV)∧dV.length=row.length∧pu (bV+v.length) dV∧dV[bV+v.length]? = some y∧ -1000000000<y∧y<1000000000∧V dV=V row-i2*B bV*V v∧ ∀i,i<bV∨bV+v.length<i→dV[i]? = row[i]? := by
 obtain ⟨r,iS,cx,bE,kl,hlen,hV,lm⟩:=W9 a2 ap aJ hu aL a1
 have aa:=List.getElem?_eq_getElem (show bV+v.length<r.2.length by omega)
 have iZ:=kl.get aa
 refine ⟨r.2[bV+v.length]-r.1,r.2.set (bV+v.length) (r.2[bV+v.length]-r.1),?_,by simpa using hlen,(cE.toE kl _).Q2,?_,by omega,by omega,?_,fun i ag=> ?_⟩
 ·unfold z4
  simp only [gR]
  rw [iS]
  simp only [Option.bind_eq_bind,Option.bind_some,Int.toNat_natCast]
  rw [if_pos (by omega),aa]
  simp only [Option.bind_some]
  rw [if_pos (by omega),cQ (by omega) (by omega),List.getElem?_set,if_pos rfl,if_pos (by omega)]
  rfl
 ·rw [List.getElem?_set,if_pos rfl,if_pos (by omega)]
 ·rw [se aa,hV]
  grind
 ·rw [List.getElem?_set_ne (by omega)]
  exact lm i (by omega)
theorem Xa {v row:List Int}{bV m2:Nat}(a2:cE v)(ap:pu (bV+v.length) row)(hu:v.length<m2)(aL:bV+v.length<row.length)(a1:row.length≤5000000):
 ∃r,Iz bV m2 v v.length 0 0 row=some r∧0≤r.1∧r.1≤1∧pu (bV+v.length) r.2∧r.2.length=row.length∧V r.2=V row+B bV*V v-r.1*B (bV+v.length)∧ ∀i,i<bV∨bV+v.length≤i→r.2[i]? = row[i]? := by
 refine kQ (eL:=fun w:Int×Int×List Int=> ∃(i:Nat),w.2.1=(i:Int)∧i≤v.length∧0≤w.1∧w.1≤1∧pu (bV+v.length) w.2.2∧w.2.2.length=row.length∧V w.2.2=V row+B bV*V (v.take i)-w.1*B (bV+i)∧ ∀i,i<bV∨bV+v.length≤i→w.2.2[i]? = row[i]?) (m:=fun w:Int×Int×List Int=>v.length-w.2.1.toNat) _ ?_ _ ⟨0,rfl,by omega,by simp,by simp,ap,rfl,by simp [V],fun _ _=>rfl⟩
 rintro ⟨carry,ii,f6⟩ ⟨i,o,ag,m6,m8,kl,hlen,hV,lm⟩
 simp only at o m6 m8 kl hlen hV lm ⊢
 subst o
 by_cases yN:i=v.length
 ·subst yN
  exact .inr ⟨(carry,f6),by simp [xm],m6,m8,kl,hlen,by simpa using hV,lm⟩
 ·have aa:=List.getElem?_eq_getElem (show i<v.length by omega)
  have aK:=List.getElem?_eq_getElem (show bV+i<f6.length by omega)
  have iZ:=a2.get aa
  have oQ:=kl _ _ (by omega) aK
  have he:xm bV m2 v v.length carry i f6=some (.inl ((f6[bV+i]+v[i]+carry) / 1000000000,((i+1:Nat):Int),f6.set (bV+i) ((f6[bV+i]+v[i]+carry) % 1000000000))):=by
   unfold xm
   rw [if_pos (by simp;omega),if_pos (by omega),Int.toNat_natCast,aa]
   simp only [Option.bind_eq_bind,Option.bind_some]
   rw [if_pos (by omega),aK]
   simp only [Option.bind_some]
   rw [if_pos (by omega),cQ (x:=f6[bV+i]+v[i]) (by omega) (by omega),cQ (x:=f6[bV+i]+v[i]+carry) (by omega) (by omega),tE (by omega),pG (by omega),cQ (by omega) (by omega),qj (n:=i) (by omega)]
  rw [he]
  refine .inl ⟨_,rfl,⟨i+1,rfl,by omega,by simp only;omega,by simp only;omega,kl.set (by omega),by simpa using hlen,?_,fun k aX=> ?_⟩,by simp;omega⟩
  ·simp only
   rw [se aK,sS aa,hV,← Nat.add_assoc,mV,AX]
   have:=Int.mul_ediv_add_emod (f6[bV+i]+v[i]+carry) 1000000000
   generalize (f6[bV+i]+v[i]+carry) / 1000000000=q at *
   generalize (f6[bV+i]+v[i]+carry) % 1000000000=t at *
   have vN:t=f6[bV+i]+v[i]+carry-1000000000*q:=by omega
   rw [vN]
   grind
  ·simp only
   rw [List.getElem?_set_ne (by omega)]
   exact lm k aX
theorem ZE {v row:List Int}{bV m2:Nat}{y:Int}(a2:cE v)(ap:pu (bV+v.length) row)(hu:v.length<m2)(aL:bV+v.length<row.length)(a1:row.length≤5000000)(aK:row[bV+v.length]? = some y)(oQ:-1000000000<y)(BZ:y<1000000000):
 ∃mg dV,xL v bV m2 row=some dV∧dV.length=row.length∧pu (bV+v.length) dV∧dV[bV+v.length]? = some mg∧V dV=V row+B bV*V v∧ ∀i,i<bV∨bV+v.length<i→dV[i]? = row[i]? := by
 obtain ⟨r,iS,cx,bE,kl,hlen,hV,lm⟩:=Xa a2 ap hu aL a1
 have aa:r.2[bV+v.length]? = some y:=by rw [lm _ (by omega)];exact aK
 refine ⟨y+r.1,r.2.set (bV+v.length) (y+r.1),?_,by simpa using hlen,kl.Q2,?_,?_,fun i ag=> ?_⟩
 ·unfold xL
  simp only [gR]
  rw [iS]
  simp only [Option.bind_eq_bind,Option.bind_some,Int.toNat_natCast]
  rw [if_pos (by omega),aa]
  simp only [Option.bind_some]
  rw [if_pos (by omega),cQ (by omega) (by omega)]
 ·rw [List.getElem?_set,if_pos rfl,if_pos (by omega)]
 ·rw [se aa,hV]
  grind
 ·rw [List.getElem?_set_ne (by omega)]
  exact lm i (by omega)
theorem X8 {g q v1 v2 top gW rest aR W P:Int}(f9:1≤P)(dN:0≤g)(cp:g*v1+rest=top)(uD:P*(v1*1000000000+v2)≤W)(Lq:aR<P*(top*1000000000+gW+1))(RK:q*W≤aR)(hW:0≤W)(h:rest*1000000000+gW<g*v2):q<g:=by
 apply Int.not_le.mp
 intro uF
 have o:g*W≤q*W:=Int.mul_le_mul_of_nonneg_right uF hW
 have R:g*(P*(v1*1000000000+v2))≤g*W:=Int.mul_le_mul_of_nonneg_left uD dN
 have ad:g*(P*(v1*1000000000+v2))=P*(g*(v1*1000000000+v2)):=by grind
 have aD:P*(g*(v1*1000000000+v2))<P*(top*1000000000+gW+1):=by omega
 have aM:=Int.lt_of_mul_lt_mul_left aD (by omega)
 have bq:g*(v1*1000000000+v2)=1000000000*(g*v1)+g*v2:=by grind
 omega
theorem Oz {g v1 v2 top gW rest aR W P:Int}(f9:1≤P)(dN:0≤g)(uG:g≤999999999)(rR:1≤v1)(B4:0≤v2)(cp:g*v1+rest=top)(uD:P*(v1*1000000000+v2)≤W)(Fo:W<P*(v1*1000000000+v2+1))(Fm:P*(top*1000000000+gW)≤aR)(h:g*v2≤rest*1000000000+gW):g≤aR / W+1:=by
 have B5:P*1000000000≤W:=by
  have o:P*1000000000≤P*(v1*1000000000+v2):=Int.mul_le_mul_of_nonneg_left (by omega) (by omega)
  omega
 have o:g*W≤g*(P*(v1*1000000000+v2+1)):=Int.mul_le_mul_of_nonneg_left (by omega) dN
 have R:g*(P*(v1*1000000000+v2+1))=P*(1000000000*(g*v1)+g*v2+g):=by grind
 have ad:P*(1000000000*(g*v1)+g*v2+g)≤P*(top*1000000000+gW+999999999):=Int.mul_le_mul_of_nonneg_left (by omega) (by omega)
 have aD:P*(top*1000000000+gW+999999999)=P*(top*1000000000+gW)+P*999999999:=by grind
 have aM:(g-1)*W=g*W-W:=by grind
 have:g-1≤aR / W:=(Int.le_ediv_iff_mul_le (by omega)).2 (by omega)
 omega
theorem Wz {au u iL aq:List Int}{N n j:Nat}{v1 v2 gW top aR W P:Int}(a1:2≤n)(KQ:n≤5000000)(B6:j+n<N)(fC:N≤5000000)(o:iL[n-1]? = some v1)(R:iL[n-2]? = some v2)(ad:u[j+n-2]? = some gW)
 (rR:1≤v1∧v1<1000000000) (B4:0≤v2∧v2<1000000000) (aeZ:0≤gW∧gW<1000000000) (f9:1≤P) (uD:P*(v1*1000000000+v2)≤W) (Fo:W<P*(v1*1000000000+v2+1)) (Fm:P*(top*1000000000+gW)≤aR) (Lq:aR<P*(top*1000000000+gW+1)) (cX:0≤aR) (Lr:aR<1000000000*W) (mM:0≤top) (ae0:top≤v1*1000000000+999999999) (a6:aR / W≤top / v1) :
 ∃g,IR N n n j au u iL aq (top / v1) (top % v1)=some g∧(aR / W=g∨aR / W+1=g)∧0≤g∧g≤999999999:=by
 have B5:0<W:=by
  have o:P*1000000000≤P*(v1*1000000000+v2):=Int.mul_le_mul_of_nonneg_left (by omega) (by omega)
  omega
 have n3:0≤aR / W:=Int.ediv_nonneg cX (by omega)
 have rI:aR / W<1000000000:=Int.ediv_lt_of_lt_mul B5 Lr
 have RK:aR / W*W≤aR:=Int.ediv_mul_le _ (by omega)
 have acb:=Int.mul_ediv_add_emod top v1
 have n8:=Int.emod_nonneg top (b:=v1) (by omega)
 have rf:=Int.emod_lt_of_pos top (b:=v1) (by omega)
 have Kv:U ((n:Int)-1)=((n-1:Nat):Int):=by rw [cQ (by omega) (by omega)];omega
 have aaY:U ((n:Int)-2)=((n-2:Nat):Int):=by rw [cQ (by omega) (by omega)];omega
 have aaZ:U (U ((j:Int)+(n:Int))-2)=((j+n-2:Nat):Int):=by rw [cQ (x:=(j:Int)+n) (by omega) (by omega),cQ (by omega) (by omega)];omega
 have EW:top / v1≤top:=Int.ediv_le_self _ mM
 refine kQ (eL:=fun w:Int×Int=>w.1*v1+w.2=top∧0≤w.2∧w.2<1000000000∧aR / W≤w.1∧w.1≤top) (m:=fun w:Int×Int=>w.1.toNat) _ ?_ _ ⟨by rw [Int.mul_comm];exact acb,n8,by simp only;omega,a6,EW⟩
 rintro ⟨g,rest⟩ ⟨oW,qC,rm,qD,uL⟩
 simp only at oW qC rm qD uL ⊢
 have Lu:U (rest+v1)=rest+v1:=cQ (by omega) (by omega)
 have Lv:U (g-1)=g-1:=cQ (by omega) (by omega)
 have uG:(g-1)*v1+(rest+v1)=top:=by grind
 have Qh:aR / W≤g-1→1000000000≤rest+v1→(aR / W=g-1∨aR / W+1=g-1)∧0≤g-1∧g-1≤999999999:=by
  intro j8 jM
  have nJ:(g-1)*v1<1000000000*v1:=by omega
  have Cs:g-1<1000000000:=Int.lt_of_mul_lt_mul_right nJ (by omega)
  have Sm:0≤g-1:=by omega
  have afA:=(AN ⟨Sm,Cs⟩ B4).2
  have:=Oz f9 Sm (by omega) rR.1 B4.1 uG uD Fo Fm (by omega)
  omega
 by_cases Kw:1000000000≤g
 ·by_cases aJ:1000000000≤rest+v1
  ·refine .inr ⟨g-1,?_,Qh (by omega) aJ⟩
   unfold uZ
   rw [if_pos (by simpa using Kw),Kv,if_pos (by omega),Nat.zero_add,Int.toNat_natCast,o]
   simp only [Option.bind_eq_bind,Option.bind_some,Lu,Lv]
   rw [if_pos (by simpa using aJ)]
  ·refine .inl ⟨(g-1,rest+v1),?_,⟨uG,by simp only;omega,by simp only;omega,by simp only;omega,by simp only;omega⟩,by simp only;omega⟩
   unfold uZ
   rw [if_pos (by simpa using Kw),Kv,if_pos (by omega),Nat.zero_add,Int.toNat_natCast,o]
   simp only [Option.bind_eq_bind,Option.bind_some,Lu,Lv]
   rw [if_neg (by simpa using aJ)]
 ·have ji:0≤g:=by omega
  obtain ⟨gi,gB⟩:=AN ⟨ji,by omega⟩ B4
  have aw:U (U (rest*1000000000)+gW)=rest*1000000000+gW:=by rw [cQ (x:=rest*1000000000) (by omega) (by omega),cQ (by omega) (by omega)]
  have aC:U (g*v2)=g*v2:=cQ (by omega) (by omega)
  have Kf:uZ N n n j au u iL aq g rest=some (if rest*1000000000+gW<g*v2 then (if 1000000000≤rest+v1 then .inr (g-1) else .inl (g-1,rest+v1)) else .inr g):=by
   unfold uZ
   rw [if_neg (by simpa using Kw),aaY,if_pos (by omega),Nat.zero_add,Int.toNat_natCast,R]
   simp only [Option.bind_eq_bind,Option.bind_some]
   rw [aaZ,if_pos (by omega),Nat.zero_add,Int.toNat_natCast,ad]
   simp only [Option.bind_some,aw,aC]
   by_cases aP:rest*1000000000+gW<g*v2
   ·rw [if_pos (by simpa using aP),if_pos aP,Kv,if_pos (by omega),Nat.zero_add,Int.toNat_natCast,o]
    simp only [Option.bind_some,Lu,Lv]
    by_cases aJ:1000000000≤rest+v1
    ·rw [if_pos (by simpa using aJ),if_pos aJ]
    ·rw [if_neg (by simpa using aJ),if_neg aJ]
   ·rw [if_neg (by simpa using aP),if_neg aP]
  rw [Kf]
  by_cases aP:rest*1000000000+gW<g*v2
  ·have ae1:=X8 f9 ji oW uD Lq RK (by omega) aP
   rw [if_pos aP]
   by_cases aJ:1000000000≤rest+v1
   ·rw [if_pos aJ]
    exact .inr ⟨g-1,rfl,Qh (by omega) aJ⟩
   ·rw [if_neg aJ]
    exact .inl ⟨(g-1,rest+v1),rfl,⟨uG,by simp only;omega,by simp only;omega,by simp only;omega,by simp only;omega⟩,by simp only;omega⟩
  ·rw [if_neg aP]
   have:=Oz f9 ji (by omega) rR.1 B4.1 oW uD Fo Fm (by omega)
   exact .inr ⟨g,rfl,by omega,by omega,by omega⟩
theorem Xb {a b:List Int}{k:Nat}(h:∀i,k≤i→a[i]? = b[i]?):a.drop k=b.drop k:=by
 apply List.ext_getElem?
 intro i
 rw [List.getElem?_drop,List.getElem?_drop]
 exact h _ (by omega)
theorem Xc {a b:List Int}{k:Nat}(h:∀i,i<k→a[i]? = b[i]?):a.take k=b.take k:=by
 apply List.ext_getElem?
 intro i
 rw [List.getElem?_take,List.getElem?_take]
 by_cases ag:i<k
 ·rw [if_pos ag,if_pos ag];exact h i ag
 ·rw [if_neg ag,if_neg ag]
theorem RL {u w:List Int}{j n:Nat}{y c:Int}(hlen:w.length=u.length)(B6:j+n<u.length)(ee:pu (j+n) w)(aK:w[j+n]? = some y)(lm:∀i,i<j∨j+n<i→w[i]? = u[i]?)(h0:V (u.drop (j+n+1))=0)(hV:V w=V u-c*B j):
 V (w.drop j)=V (u.drop j)-c∧ ∃low,0≤low∧low<B n∧V (w.drop j)=low+B n*y:=by
 have o:=vn (l:=u) (n:=j) (by omega)
 have R:=vn (l:=w) (n:=j) (by omega)
 rw [Xc (a:=w) (b:=u) (fun i ag=>lm i (.inl ag))] at R
 have ad:B j*V (w.drop j)=B j*(V (u.drop j)-c):=by grind
 have f8:=oC j
 have aD:V (w.drop j)=V (u.drop j)-c:=Int.eq_of_mul_eq_mul_left (by omega) ad
 refine ⟨aD,V ((w.drop j).take n),?_,?_,?_⟩
 ·refine lk (fun x aa=> ?_)
  obtain ⟨i,ag⟩:=List.mem_iff_getElem?.mp aa
  have mA:=fE ag
  simp at mA
  rw [List.getElem?_take,if_pos (by omega),List.getElem?_drop] at ag
  exact ee _ _ (by omega) ag
 ·have aL:cE ((w.drop j).take n):=fun x aa=>by
   obtain ⟨i,ag⟩:=List.mem_iff_getElem?.mp aa
   have mA:=fE ag
   simp at mA
   rw [List.getElem?_take,if_pos (by omega),List.getElem?_drop] at ag
   exact ee _ _ (by omega) ag
  have:=m0 aL
  rwa [List.length_take,Nat.min_eq_left (by simp;omega)] at this
 ·have aM:=vn (l:=w.drop j) (n:=n) (by simp;omega)
  rw [List.drop_drop,o6 aK,Xb (a:=w) (b:=u) (k:=j+n+1) (fun i ag=>lm i (.inr (by omega))),h0] at aM
  rw [aM]
  grind
theorem OA {w:List Int}{p:Nat}(ee:pu p w)(aK:w[p]? = some 0):cE w:=fun x aa=>by
 obtain ⟨i,ag⟩:=List.mem_iff_getElem?.mp aa
 by_cases h:i=p
 ·subst h
  rw [aK] at ag
  have:=Option.some.inj ag
  omega
 ·exact ee i x h ag
theorem O4 {low y X wv W:Int}(h0:0≤low)(o:low<wv)(FJ:X=low+wv*y)(R:0≤X)(ad:X<W)(aD:W≤wv):y=0:=by
 have dC:wv*y<wv*1:=by omega
 have aM:=Int.lt_of_mul_lt_mul_left dC (by omega)
 have Fb:wv*(-1)<wv*y:=by omega
 have bq:=Int.lt_of_mul_lt_mul_left Fb (by omega)
 omega
theorem Xd {au u iL aq:List Int}{n j:Nat}{v1 W:Int}(a1:2≤n)(Fq:n≤iL.length)(a2:cE (iL.take n))(hW:V (iL.take n)=W)(rR:iL[n-1]? = some v1)(Kx:1≤v1)(hu:cE u)(wc:u.length≤5000000)(B6:j+n<u.length)(dC:V (u.drop (j+1))<W)(ae2:j<aq.length):
 ∃lg,u0 u.length n n au iL j u aq=some (.inl ((j:Int)-1,lg,aq.set j (V (u.drop j) / W)))∧cE lg∧lg.length=u.length∧V lg=V u-(V (u.drop j) / W)*B j*W∧V (lg.drop j)<W∧0≤V (u.drop j) / W∧V (u.drop j) / W<1000000000:=by
 obtain ⟨n,rfl⟩ : ∃m,n=m+2:=⟨n-2,by omega⟩
 have qq:(iL.take (n+2)).length=n+2:=by simp;omega
 have uG:(iL.take (n+2))[n+1]? = some v1:=by rw [List.getElem?_take,if_pos (by omega)];exact rR
 have RM:=List.getElem?_eq_getElem (show n<iL.length by omega)
 have Q3:(iL.take (n+2))[n]? = some iL[n]:=by rw [List.getElem?_take,if_pos (by omega)];exact RM
 have aa0:=a2.get uG
 have aa1:=a2.get Q3
 have iZ:=List.getElem?_eq_getElem (show j+(n+2)<u.length by omega)
 have B2:=List.getElem?_eq_getElem (show j+(n+1)<u.length by omega)
 have BF:=List.getElem?_eq_getElem (show j+n<u.length by omega)
 have RN:=List.getElem?_eq_getElem (show j<u.length by omega)
 have lx:=hu.get iZ
 have uu:=hu.get B2
 have KX:=hu.get BF
 have ae3:=hu.get RN
 have we:=r7 a2 (k:=n+1) (by omega)
 rw [Aq uG (by omega),hW] at we
 have Lw:=r7 a2 (k:=n) (by omega)
 rw [o6 Q3,Aq uG (by omega),hW] at Lw
 have Ky:=m0 a2
 rw [qq,hW] at Ky
 have ae4:0≤W:=by rw [← hW];exact lk a2
 have cd:=r7 (hu.drop (j+1)) (k:=n+2) (by simp;omega)
 rw [List.drop_drop] at cd
 have acd:=lk (hu.drop (j+1+(n+2)))
 have ae5:=oC (n+2)
 have h0:V (u.drop (j+(n+2)+1))=0:=by
  rw [show j+(n+2)+1=j+1+(n+2) by omega]
  apply Int.le_antisymm _ acd
  apply Int.not_lt.mp
  intro h
  have:B (n+2)*1≤B (n+2)*V (u.drop (j+1+(n+2))):=Int.mul_le_mul_of_nonneg_left (by omega) (by omega)
  omega
 have mM:V (u.drop (j+(n+2)))=u[j+(n+2)]:=by rw [o6 iZ,h0];omega
 have EW:V (u.drop (j+(n+1)))=u[j+(n+1)]+1000000000*u[j+(n+2)]:=by rw [o6 B2,show j+(n+1)+1=j+(n+2) by omega,mM]
 have ht:V (u.drop (j+n))=u[j+n]+1000000000*(u[j+(n+1)]+1000000000*u[j+(n+2)]):=by rw [o6 BF,show j+n+1=j+(n+1) by omega,EW]
 have iS:=r7 (hu.drop j) (k:=n+1) (by simp;omega)
 rw [List.drop_drop,EW] at iS
 have Lx:=r7 (hu.drop j) (k:=n) (by simp;omega)
 rw [List.drop_drop,ht] at Lx
 have pB:=lk (hu.drop j)
 have cX:V (u.drop j)<1000000000*W:=by rw [o6 RN];omega
 have ace:=oC n
 have aa2:=oC (n+1)
 have vL:u[j+(n+2)]≤v1:=by
  have o:=r7 (hu.drop (j+1)) (k:=n+1) (by simp;omega)
  rw [List.drop_drop,show j+1+(n+1)=j+(n+2) by omega,mM] at o
  have R:B (n+1)*u[j+(n+2)]<B (n+1)*(v1+1):=by omega
  have:=Int.lt_of_mul_lt_mul_left R (by omega)
  omega
 have aa3:=Nr aa2 iS.1 iS.2 we.1 we.2 (by omega) (by omega) cX
 obtain ⟨g,dN,uF,acf,ae6⟩:=Wz (au:=au) (aq:=aq) (N:=u.length) (n:=n+2) (j:=j) (v1:=v1) (v2:=iL[n]) (gW:=u[j+n]) (top:=u[j+(n+1)]+1000000000*u[j+(n+2)]) (aR:=V (u.drop j)) (W:=W) (P:=B n) (u:=u) (iL:=iL) (by omega) (by omega) B6 wc rR RM BF ⟨Kx,aa0.2⟩ aa1 KX ace
  (by rw [Int.mul_comm v1,Int.add_comm];exact Lw.1) (by rw [Int.mul_comm v1,Int.add_comm (1000000000*v1)];exact Lw.2)
  (by rw [Int.mul_comm (u[j+(n+1)]+_),Int.add_comm];exact Lx.1) (by rw [Int.mul_comm (u[j+(n+1)]+_),Int.add_comm (1000000000*_) u[j+n]];exact Lx.2) pB cX (by omega) (by omega) aa3.2.1
 have B5:0<W:=by
  have:B (n+1)*1≤B (n+1)*v1:=Int.mul_le_mul_of_nonneg_left (by omega) (by omega)
  omega
 have n3:0≤V (u.drop j) / W:=Int.ediv_nonneg pB (by omega)
 have rI:V (u.drop j) / W<1000000000:=Int.ediv_lt_of_lt_mul B5 cX
 have hm:=Int.mul_ediv_add_emod (V (u.drop j)) W
 have n8:=Int.emod_nonneg (V (u.drop j)) (b:=W) (by omega)
 have rf:=Int.emod_lt_of_pos (V (u.drop j)) B5
 obtain ⟨y,w,cp,RO,Fs,Ft,oQ,BZ,Fu,J2⟩:=ZD (v:=iL.take (n+2)) (row:=u) (bV:=j) (m2:=u.length-j) (i2:=g) a2 hu ⟨acf,by omega⟩ (by omega) (by omega) wc
 rw [qq] at Fs Ft J2
 rw [hW] at Fu
 obtain ⟨B3,low,nC,Ly,vM⟩:=RL (c:=g*W) RO B6 Fs Ft J2 h0 (by rw [Fu];grind)
 have acg:U ((j:Int)-1)=(j:Int)-1:=qY (by omega)
 have aw:U ((j:Int)+((n+2:Nat):Int))=((j+(n+2):Nat):Int):=by rw [cQ (by omega) (by omega)];omega
 have aC:U (((j+(n+2):Nat):Int)-1)=((j+(n+1):Nat):Int):=by rw [cQ (by omega) (by omega)];omega
 have b1:U (((n+2:Nat):Int)-1)=((n+1:Nat):Int):=by rw [cQ (by omega) (by omega)];omega
 have dn:U (U (u[j+(n+2)]*1000000000)+u[j+(n+1)])=u[j+(n+1)]+1000000000*u[j+(n+2)]:=by
  rw [cQ (x:=u[j+(n+2)]*1000000000) (by omega) (by omega),cQ (by omega) (by omega)];omega
 have dr:0≤u[j+(n+1)]+1000000000*u[j+(n+2)]:=by omega
 have eF:(u[j+(n+1)]+1000000000*u[j+(n+2)]) / v1≤u[j+(n+1)]+1000000000*u[j+(n+2)]:=Int.ediv_le_self _ dr
 have ff:0≤(u[j+(n+1)]+1000000000*u[j+(n+2)]) / v1:=Int.ediv_nonneg dr (by omega)
 have aa4:iL[n+1]? = some v1:=rR
 have pre:u0 u.length (n+2) ((n+2:Nat):Int) au iL j u aq =
  (if (decide (y<0))=true then
    xL (iL.take (n+2)) j (u.length-j) w >>= fun ir=>some (.inl ((j:Int)-1,ir,aq.set j (U (g-1))))
  else some (.inl ((j:Int)-1,w,aq.set j g))):=by
  unfold u0
  rw [if_pos (by simp)]
  simp only [aw,aC,b1,Int.toNat_natCast,Nat.zero_add,acg]
  rw [if_pos (by omega),iZ]
  simp only [Option.bind_eq_bind,Option.bind_some]
  rw [if_pos (by omega),B2]
  simp only [Option.bind_some]
  rw [if_pos (by omega),aa4]
  simp only [Option.bind_some]
  rw [if_pos (by omega),dn,pG dr,tE dr,cQ (by omega) (by omega),dN]
  simp only [Option.bind_some]
  rw [if_pos (by omega),if_pos (by omega),if_pos (by omega),List.drop_zero,cp]
  simp only [Option.bind_some]
  by_cases aK:y<0
  ·have bh:(decide (y<0))=true:=by simpa using aK
   simp only [if_pos bh]
   congr 1
   funext r
   rw [if_pos (by omega),if_pos (by omega)]
  ·have bh : ¬(decide (y<0))=true:=by simpa using aK
   simp only [if_neg bh]
   rw [if_pos (by omega),if_pos (by omega)]
 rcases uF with uF|uF
 ·subst uF
  have FJ:V (w.drop j)=V (u.drop j) % W:=by rw [B3];grind
  have aK:y=0:=O4 (W:=W) nC Ly vM (by rw [FJ];exact n8) (by rw [FJ];exact rf) (Int.le_of_lt Ky)
  subst aK
  refine ⟨w,?_,OA Fs Ft,RO,Fu,by omega,n3,rI⟩
  rw [pre]
  rfl
 ·have FJ:V (w.drop j)=V (u.drop j) % W-W:=by rw [B3,← uF];grind
  have aK:y<0:=by
   apply Int.not_le.mp
   intro h
   have:0≤B (n+2)*y:=Int.mul_nonneg (by omega) h
   omega
  obtain ⟨mg,bG,n4,aeC,Kz,KA,Q4,PF⟩:=ZE (v:=iL.take (n+2)) (row:=w) (bV:=j) (m2:=u.length-j) (y:=y) a2 (by rw [qq];exact Fs) (by omega) (by omega) (by omega) (by rw [qq];exact Ft) oQ BZ
  rw [qq] at Kz KA PF
  rw [hW] at Q4
  have RP:V bG=V u-V (u.drop j) / W*B j*W:=by rw [Q4,Fu,← uF];grind
  obtain ⟨aa5,aeD,aa6,aa7,aa8⟩:=RL (c:=V (u.drop j) / W*W) (by omega) B6 Kz KA (fun i ag=>by rw [PF i ag,J2 i ag]) h0 (by rw [RP];grind)
  have RQ:V (bG.drop j)=V (u.drop j) % W:=by rw [aa5];grind
  have oa:mg=0:=O4 (W:=W) aa6 aa7 aa8 (by rw [RQ];exact n8) (by rw [RQ];exact rf) (Int.le_of_lt Ky)
  subst oa
  refine ⟨bG,?_,OA Kz KA,by omega,RP,by omega,n3,rI⟩
  rw [pre,if_pos (by simpa using aK),n4]
  simp only [Option.bind_eq_bind,Option.bind_some]
  rw [cQ (by omega) (by omega),show g-1=V (u.drop j) / W by omega]
theorem Xe {au iL u:List Int}{n m:Nat}{v1 W:Int}(a1:2≤n)(Fq:n≤iL.length)(a2:cE (iL.take n))(hW:V (iL.take n)=W)(rR:iL[n-1]? = some v1)(Kx:1≤v1)(hu:cE u)(wc:u.length≤5000000)(hm:m+n=u.length)(dC:V (u.drop m)<W):
 ∃r,IU u.length n n au iL ((m:Int)-1) u (List.replicate m 0)=some r∧cE r.1∧r.1.length=u.length∧V r.1<W∧cE r.2∧r.2.length=m∧V u=V r.2*W+V r.1:=by
 refine kQ (eL:=fun w:Int×List Int×List Int=> ∃(k:Nat) (q:List Int),w.1=(k:Int)-1∧k≤m∧cE w.2.1∧w.2.1.length=u.length∧w.2.2=List.replicate k 0++q∧q.length+k=m∧cE q∧V (w.2.1.drop k)<W∧V u=V w.2.1+B k*V q*W) (m:=fun w:Int×List Int×List Int=>(w.1+1).toNat) _ ?_ _ ⟨m,[],rfl,by omega,hu,rfl,by simp,by simp,cE.nil,dC,by simp [V]⟩
 rintro ⟨ac9,lg,aq⟩ ⟨k,q,o,aX,oL,hlen,ad,a6,ts,KB,hV⟩
 simp only at o oL hlen ad KB hV ⊢
 subst o ad
 cases k with
 | zero =>
  refine .inr ⟨(lg,q),by simp [u0],oL,hlen,by simpa using KB,ts,by simpa using a6,?_⟩
  rw [hV]
  simp [B]
  omega
 | succ k =>
  obtain ⟨ae7,he,s1,s2,wj,ada,adb,ade⟩:=Xd (au:=au) (iL:=iL) (u:=lg) (aq:=List.replicate (k+1) 0++q) (j:=k) a1 Fq a2 hW rR Kx oL (by omega) (by omega) KB (by simp;omega)
  rw [hlen] at he
  rw [show ((k+1:Nat):Int)-1=k by omega,he]
  refine .inl ⟨_,rfl,⟨k,V (lg.drop k) / W::q,rfl,by omega,s1,s2.trans hlen,JL _ _ _,by simp;omega,cE.cons ⟨adb,ade⟩ ts,ada,?_⟩,by simp only;omega⟩
  simp only
  rw [hV,wj,lM,mV]
  grind
theorem JC {a:List Int}(h:a.length≤900000):vo a=some a:=by
 unfold vo
 rw [if_pos (by omega)]
theorem WA {a b q s:Int}(h:a=q*b+s)(h0:0≤s)(o:s<b):a / b=q∧a % b=s:=by
 subst h
 constructor
 ·rw [Int.add_comm,Int.add_mul_ediv_right _ _ (by omega),Int.ediv_eq_zero_of_lt h0 o]
  omega
 ·rw [Int.add_comm,Int.add_mul_emod_self_right]
  exact Int.emod_eq_of_lt h0 o
theorem En {a b:List Int}(bt:e7 a)(aJ:e7 b)(lx:b≠[])(a1:a.length≤900000)(hm:b.length≤900000):sO a b=some (L (V a / V b),L (V a % V b)):=by
 have mD:=rD aJ lx
 have E6:=lk bt.1
 unfold sO
 simp only [gR]
 rw [DJ bt aJ (by omega)]
 simp only [Option.bind_eq_bind,Option.bind_some]
 by_cases aP:V a<V b
 ·rw [if_pos (by simpa using ye.2 aP),JC a1,Int.ediv_eq_zero_of_lt E6 aP,Int.emod_eq_of_lt E6 aP,pO,tl bt]
  rfl
 ·rw [if_neg (fun h=>aP (ye.1 (by simpa using h)))]
  obtain ⟨k,d,aX,bh,q6,rh,uE⟩:=Ex aJ lx
  by_cases o:b.length=1
  ·have ti:k=0:=by omega
   subst ti
   have Ls:V b=d:=by simpa using uE
   rw [if_pos (by simp [o]),if_pos (by omega),bh]
   simp only [Option.bind_some]
   have rf:=Int.emod_nonneg (V a) (b:=d) (by omega)
   have B1:=Int.emod_lt_of_pos (V a) q6
   rw [Nq bt.1 ⟨q6,rh⟩ (by omega)]
   simp only [Option.bind_some]
   rw [A1 rf (by omega),Jf rf (by omega),Ls]
   rfl
  ·have hw:U ((b.length:Int)-1)=(k:Int):=by rw [cQ (by omega) (by omega)];omega
   have aw:U (d+1)=d+1:=cQ (by omega) (by omega)
   have Fv:1≤1000000000 / (d+1):=by
    apply (Int.le_ediv_iff_mul_le (by omega)).2
    omega
   have Lz:1000000000 / (d+1)<1000000000:=by
    apply Int.ediv_lt_of_lt_mul (by omega)
    omega
   have ach:1000000000 / (d+1)*(d+1)≤1000000000:=Int.ediv_mul_le _ (by omega)
   have aC:U ((1000000000:Int).tdiv (d+1))=1000000000 / (d+1):=by rw [pG (by omega),cQ (by omega) (by omega)]
   rw [if_neg (by simp;omega),hw,if_pos (by omega),Int.toNat_natCast,bh]
   simp only [Option.bind_some,aw,aC]
   generalize 1000000000 / (d+1)=f at *
   rw [if_pos (by omega)]
   have jR:cE [f]:=cE.cons (by omega) cE.nil
   have aci:V [f]=f:=by simp [V]
   have acj:a≠[]:=by
    intro h
    subst h
    simp [V] at aP
    omega
   obtain ⟨mi,wx,ack,ae8,acm,Fw,ae9⟩:=N4 bt.1 jR acj (by simp) (by omega) (by simp)
   obtain ⟨Ct,iL,acn,afa,aco,LA,afb⟩:=N4 aJ.1 jR lx (by simp) (by omega) (by simp)
   rw [aci] at Fw LA
   rw [ack]
   simp only [Option.bind_some]
   simp only [List.length_singleton] at acm aco
   have afc:=oC k
   have acp:V b*f<B b.length:=by
    have R:=(r7 aJ.1 (k:=k) (by omega)).2
    rw [uE] at R
    have ad:V b*f≤(B k*(d+1)-1)*f:=Int.mul_le_mul_of_nonneg_right (by omega) (by omega)
    have aD:(B k*(d+1)-1)*f=B k*(f*(d+1))-f:=by grind
    have aM:B k*(f*(d+1))≤B k*1000000000:=Int.mul_le_mul_of_nonneg_left ach (by omega)
    rw [aX,mV]
    omega
   have afd:V b≤V b*f:=by
    have:V b*1≤V b*f:=Int.mul_le_mul_of_nonneg_left Fv (by omega)
    omega
   have afe:V a≤V a*f:=by
    have:V a*1≤V a*f:=Int.mul_le_mul_of_nonneg_left Fv (by omega)
    omega
   have LB:0≤V b*f:=by omega
   have RR:0≤V a*f:=by omega
   have RS:Ct=b.length:=by
    have R:(iL.take Ct).length=Ct:=by simp;omega
    rw [LA] at R
    have ad:=(jo LB (k:=b.length)).2 acp
    have aD:=EV aJ lx
    have aM : ¬(L (V b*f)).length≤b.length-1:=fun h=>by
     have:=(jo LB).1 h
     omega
    omega
   have acq:(L (V a*f)).length=mi:=by rw [← Fw];simp;omega
   have Q5:=m0 (kI (V a*f))
   rw [fs RR,acq] at Q5
   have aeE:a.length≤mi:=bt.len.2 (by omega)
   have aff:b.length≤a.length:=Nat.le_of_not_lt fun h=>by
    have:=Eh bt aJ h
    omega
   rw [if_pos (by omega),if_pos (by simp;omega),acn]
   simp only [Option.bind_some]
   have wc:(wx.take mi++[0]).length=mi+1:=by simp;omega
   have LC:Dz a Ct [f] iL (wx.take mi++[0])=some (wx.take mi++[0]):=by
    unfold Dz
    rw [iter]
    unfold C6
    simp only [gR,wc]
    rw [if_neg (by simp;omega)]
    rfl
   rw [LC]
   simp only [Option.bind_some,wc]
   have m7:U (((mi+1:Nat):Int)-((Ct:Nat):Int))=((mi+1-b.length:Nat):Int):=by rw [cQ (by omega) (by omega)];omega
   rw [m7,if_pos (by omega),qY (by omega),Int.toNat_natCast]
   have QL:cE (wx.take mi++[0]):=by
    rw [Fw]
    exact (kI _).append (cE.cons (by omega) cE.nil)
   have RT:V (wx.take mi++[0])=V a*f:=by
    rw [x3,Fw,fs RR]
    simp [V]
   have J3:iL.take b.length=L (V b*f):=by rw [← RS];exact LA
   have acr:V (iL.take b.length)=V b*f:=by rw [J3,fs LB]
   obtain ⟨dI,wy,m9,tf,aeF,aeG,aeH⟩:=Ex (jX (V b*f)) (fun h=>by have:=ub.1 h;omega)
   rw [← J3] at m9 tf
   have qq:(iL.take b.length).length=b.length:=by simp;omega
   have vP:iL[b.length-1]? = some wy:=by
    rw [List.getElem?_take] at tf
    rw [show b.length-1=dI by omega]
    split at tf
    ·exact tf
    ·simp at tf
   have aa9:V ((wx.take mi++[0]).drop (mi+1-b.length))<V b*f:=by
    have R:=(r7 QL (k:=mi+1-b.length) (by omega)).1
    rw [RT] at R
    have ad:=EV aJ lx
    have aD:B mi=B (mi+1-b.length)*B (b.length-1):=by rw [← AX];congr 1;omega
    rw [aD] at Q5
    have aM:B (mi+1-b.length)*V ((wx.take mi++[0]).drop (mi+1-b.length))<B (mi+1-b.length)*B (b.length-1):=by omega
    have:=Int.lt_of_mul_lt_mul_left aM (by have:=oC (mi+1-b.length);omega)
    omega
   obtain ⟨r,ap,an,cb,aZ,bz,bp,cT⟩:=Xe (au:=[f]) (m:=mi+1-b.length) (by omega) (by omega) (by rw [J3];exact kI _) acr vP (by omega) QL (by omega) (by omega) aa9
   rw [wc] at ap cb
   rw [RS,ap]
   simp only [Option.bind_some]
   rw [if_pos (by omega),List.drop_zero,List.take_of_length_le (by omega),yd an (by omega)]
   simp only [Option.bind_some]
   have B0:=lk an
   rw [RT] at cT
   have bW:V r.1=(V a-V r.2*V b)*f:=by grind
   have acs:0≤V a-V r.2*V b:=by
    apply Int.not_lt.mp
    intro h
    have:(V a-V r.2*V b)*f≤(-1)*f:=Int.mul_le_mul_of_nonneg_right (by omega) (by omega)
    omega
   have B3:V a-V r.2*V b<V b:=by
    apply Int.lt_of_mul_lt_mul_right (a:=f) _ (by omega)
    omega
   obtain ⟨aW,bk⟩:=WA (a:=V a) (b:=V b) (q:=V r.2) (s:=V a-V r.2*V b) (by omega) acs B3
   rw [if_pos (by simp)]
   simp only [List.getElem?_cons_zero,Option.bind_some]
   have Fi:(L (V r.1)).length≤mi+1:=(jo B0).2 (by have:=m0 an;rwa [cb] at this)
   rw [Nq (kI _) ⟨by omega,Lz⟩ (by omega),fs B0]
   simp only [Option.bind_some]
   rw [yd bz (by omega)]
   simp only [Option.bind_some]
   rw [aW,bk,bW,Int.mul_ediv_cancel _ (by omega)]
theorem N8 {a b:List Int}(bt:e7 a)(aJ:e7 b)(a1:a.length≤900000)(hm:b.length≤900000):xK a b=some (L (Int.gcd (V a) (V b))):=by
 have : ∃r,iter (fun w:List Int×List Int=>xg w.1 w.2) (a,b)=some r∧r=L (Int.gcd (V a) (V b)):=by
  refine kQ (eL:=fun w:List Int×List Int=>e7 w.1∧e7 w.2∧w.1.length≤900000∧w.2.length≤900000∧Int.gcd (V w.1) (V w.2)=Int.gcd (V a) (V b)) (m:=fun w:List Int×List Int=>(V w.2).toNat) _ ?_ _ ⟨bt,aJ,a1,hm,rfl⟩
  rintro ⟨x,y⟩ ⟨o,R,ad,aD,aM⟩
  simp only at o R ad aD aM ⊢
  have iZ:=lk o.1
  have oQ:=lk R.1
  by_cases aK:y=[]
  ·subst aK
   refine .inr ⟨x,by simp [xg,gR],?_⟩
   rw [← aM,AY,Em iZ]
   exact (tl o).symm
  ·have Lt:=rD R aK
   have ab8:=List.length_pos_iff.mpr aK
   have wb:=Int.emod_nonneg (V x) (b:=V y) (by omega)
   have ab9:=Int.emod_lt_of_pos (V x) Lt
   refine .inl ⟨(y,L (V x % V y)),?_,⟨R,jX _,aD,(jo wb).2 ?_,?_⟩,?_⟩
   ·unfold xg
    simp only [gR]
    rw [if_pos (by simp;omega),En o R aK ad aD]
    rfl
   ·have:=m0 R.1
    have:=tV aD
    omega
   ·simp only
    rw [fs wb,← aM]
    exact JB iZ
   ·simp only
    rw [fs wb]
    omega
 obtain ⟨r,ap,rfl⟩:=this
 unfold xK Iu
 rw [ap]
 rfl
def hk (n:Int):bg:=⟨decide (n<0),L n.natAbs⟩
def e4 (neg:Bool)(a:Int):Int:=if neg then -a else a
def mk (p:Int×Int):gb:=⟨hk p.1,L p.2⟩
def kZ (p:Int×Int):bB:=⟨hk p.1,L p.2⟩
def aba (x:Option (Int×Int)):Option bB:=x.map kZ
structure Fr (p:Int×Int):Prop where
 pos:0<p.2
 RU:Int.gcd p.1 p.2=1
 num:(p.1.natAbs:Int)<B 24
 den:p.2<B 24
theorem Ar {n:Int}:(hk n).cY=L n.natAbs:=rfl
theorem D5 {n:Int}:(hk n).du=decide (n<0):=rfl
theorem Xf {n:Int}(h:0≤n):decide ((0:Int)<((L n).length:Nat))=decide (0<n):=by
 apply decide_eq_decide.2
 by_cases o:0<n
 ·have:(L n)≠[]:=fun R=>by have:=ub.1 R;omega
  have:=List.length_pos_iff.mpr this
  omega
 ·have:n=0:=by omega
  subst this
  simp [pO]
theorem KC {n:Int}(h:0≤n):(((L n).length:Nat):Int)=0↔n=0:=by
 constructor
 ·intro o
  have:L n=[]:=List.eq_nil_of_length_eq_zero (by omega)
  have:=ub.1 this
  omega
 ·rintro rfl
  simp [pO]
theorem Ez {neg:Bool}{a:Int}(h:0≤a):((e4 neg a).natAbs:Int)=a:=by
 unfold e4
 cases neg<;>simp<;>omega
theorem YO {neg:Bool}{a:Int}(h:0≤a):(⟨neg && decide (0<a),L a⟩:bg)=hk (e4 neg a):=by
 unfold hk
 rw [Ez h]
 congr 1
 unfold e4
 cases neg
 ·simp;omega
 ·simp
theorem qM {neg:Bool}{a:Int}(h:0≤a):lI neg (L a)=some (hk (e4 neg a)):=by
 unfold lI
 rw [← YO h,gR,Xf h]
 cases neg<;>simp
theorem ZF {a b:Int}:e4 (!(decide (a<0) == decide (b<0))) ((a.natAbs:Int)*(b.natAbs:Int))=a*b:=by
 unfold e4
 by_cases bt:a<0
 ·have aw:(a.natAbs:Int) = -a:=by omega
  by_cases aJ:b<0
  ·have aC:(b.natAbs:Int) = -b:=by omega
   rw [aw,aC]
   simp [bt,aJ,Int.neg_mul,Int.mul_neg]
  ·have aC:(b.natAbs:Int)=b:=by omega
   rw [aw,aC]
   simp [bt,aJ,Int.neg_mul,Int.mul_neg]
 ·have aw:(a.natAbs:Int)=a:=by omega
  by_cases aJ:b<0
  ·have aC:(b.natAbs:Int) = -b:=by omega
   rw [aw,aC]
   simp [bt,aJ,Int.neg_mul,Int.mul_neg]
  ·have aC:(b.natAbs:Int)=b:=by omega
   rw [aw,aC]
   simp [bt,aJ,Int.neg_mul,Int.mul_neg]
theorem YP {a b:Int}:e4 (decide (a<0)) ((a.natAbs:Int)*b)=a*b:=by
 unfold e4
 by_cases bt:a<0
 ·have aw:(a.natAbs:Int) = -a:=by omega
  rw [aw]
  simp [bt,Int.neg_mul,Int.mul_neg]
 ·have aw:(a.natAbs:Int)=a:=by omega
  rw [aw]
  simp [bt,Int.neg_mul,Int.mul_neg]
theorem X9 {a c:Int}:m1 (-c) (-a)=m1 a c:=by
 unfold m1
 by_cases h:a<c
 ·have : -c < -a:=by omega
  simp [h,this]
 ·by_cases R:c<a
  ·have ad : ¬ -c < -a:=by omega
   have aD : -a < -c:=by omega
   simp [h,R,ad,aD]
  ·have ad : ¬ -c < -a:=by omega
   have aD : ¬ -a < -c:=by omega
   simp [h,R,ad,aD]
theorem UR {a c:Int}(bt:(L a.natAbs).length≤5000000)(aP:(L c.natAbs).length≤5000000):sD (hk a) (hk c)=some (m1 a c):=by
 have bW:sD (hk a) (hk c)=if (decide (a<0) == decide (c<0))=true then (if decide (a<0)=true then (p9 (L c.natAbs) (L a.natAbs)).bind (fun r=>some r) else (p9 (L a.natAbs) (L c.natAbs)).bind (fun r=>some r)) else if decide (a<0)=true then some (-1) else some 1:=rfl
 rw [bW,VI]
 by_cases o:a<0
 ·by_cases R:c<0
  ·rw [if_pos (by simp [o,R]),if_pos (by simpa using o),yp (jX _) (jX _) aP,fs (by omega),fs (by omega),show (c.natAbs:Int) = -c by omega,show (a.natAbs:Int) = -a by omega,X9]
   rfl
  ·rw [if_neg (by simp [o,R]),if_pos (by simpa using o)]
   unfold m1
   rw [if_pos (by omega)]
 ·by_cases R:c<0
  ·rw [if_neg (by simp [o,R]),if_neg (by simpa using o)]
   unfold m1
   rw [if_neg (by omega),if_pos (by omega)]
  ·rw [if_pos (by simp [o,R]),if_neg (by simpa using o),yp (jX _) (jX _) bt,fs (by omega),fs (by omega),show (c.natAbs:Int)=c by omega,show (a.natAbs:Int)=a by omega]
   rfl
def fits (x:Int):Prop:=x<B 24
noncomputable instance (x:Int):Decidable (fits x):=Classical.propDecidable _
noncomputable def low (n d:Int):Option (Int×Int) :=
 if fits ((n / (Int.gcd n d:Int)).natAbs:Int)∧fits (d / (Int.gcd n d:Int)) then some (n / (Int.gcd n d:Int),d / (Int.gcd n d:Int)) else none
theorem JN {n d:Int}(h:0<d):(0:Int)<Int.gcd n d:=by
 have:Int.gcd n d≠0:=by
  rw [Ne,Int.gcd_eq_zero_iff]
  omega
 omega
theorem YQ {n d:Int}(h:0<d): ∃m e,n / (Int.gcd n d:Int)=m∧d / (Int.gcd n d:Int)=e∧n=Int.gcd n d*m∧d=Int.gcd n d*e∧0<e∧(n.natAbs:Int) / (Int.gcd n d:Int)=m.natAbs:=by
 have dN:=JN (n:=n) h
 obtain ⟨m,hm⟩:=Int.gcd_dvd_left (a:=n) (b:=d)
 obtain ⟨e,he⟩:=Int.gcd_dvd_right (a:=n) (b:=d)
 refine ⟨m,e,?_,?_,hm,he,?_,?_⟩
 ·conv=>lhs;lhs;rw [hm]
  exact Int.mul_ediv_cancel_left _ (by omega)
 ·conv=>lhs;lhs;rw [he]
  exact Int.mul_ediv_cancel_left _ (by omega)
 ·apply Int.not_le.mp
  intro o
  have:(Int.gcd n d:Int)*e≤Int.gcd n d*0:=Int.mul_le_mul_of_nonneg_left o (by omega)
  omega
 ·have aw:(n.natAbs:Int)=Int.gcd n d*m.natAbs:=by
   conv=>lhs;rw [hm]
   rw [Int.natAbs_mul]
   simp
  rw [aw]
  exact Int.mul_ediv_cancel_left _ (by omega)
theorem ZG {a:Int}(h:0≤a):I4 (L a)=some (decide (a=1)):=by
 unfold I4
 simp only [gR]
 by_cases o:(L a).length=1
 ·have R:=(jo (k:=1) h).1 (by omega)
  have ad:0<a:=by
   apply Int.not_le.mp
   intro aD
   rw [QJ aD] at o
   simp at o
  have aM:a<1000000000:=by simpa [B] using R
  rw [Eg ⟨ad,aM⟩]
  by_cases bq:a=1<;>simp [bq]
 ·rw [if_neg (by simp;omega)]
  have:a≠1:=by
   rintro rfl
   rw [Eg (by omega)] at o
   simp at o
  simp [this]
theorem PG {n d:Int}(h:0≤d):Int.gcd (n.natAbs:Int) d=Int.gcd n d:=by
 simp [Int.gcd]
theorem ZH {neg:Bool}{p m g:Int}(ah:0≤p)(dN:0<g)(hm:e4 neg p=g*m):e4 neg (m.natAbs:Int)=m:=by
 unfold e4 at hm ⊢
 cases neg
 ·simp at hm ⊢
  have:0≤m:=by
   apply Int.not_lt.mp
   intro o
   have:g*m≤g*(-1):=Int.mul_le_mul_of_nonneg_left (by omega) (by omega)
   omega
  omega
 ·simp at hm ⊢
  have:m≤0:=by
   apply Int.not_lt.mp
   intro o
   have:g*1≤g*m:=Int.mul_le_mul_of_nonneg_left (by omega) (by omega)
   omega
  omega
end Go.Proofs.YtgfpnhmcmgnepacGreat
namespace Go.Proofs.YtgfpnhmcmgnepacGreat
set_option linter.unusedVariables false
set_option linter.unusedSimpArgs false
open Go Go.VL
theorem aas {neg:Bool}{a:Int}(h:0≤a)(R:neg=true→0<a):decide (e4 neg a<0)=neg:=by
 unfold e4
 cases neg
 ·simp;omega
 ·have:=R rfl
  simp;omega
theorem PH {neg:Bool}{l:List Int}(aL:e7 l)(R:neg=true→l≠[]):(⟨neg,l⟩:bg)=hk (e4 neg (V l)):=by
 have h:=lk aL.1
 unfold hk
 rw [Ez h,tl aL,aas h (fun a1=>rD aL (R a1))]
theorem Vx {x:bg}(hm:(x.cY.length:Int)<9223372036854775807): ∃ok,IK x=some ok∧zS x=some ok∧(ok=true↔ ∃n,x=hk n∧(L n.natAbs).length≤60):=by
 obtain ⟨I,o,R,ad⟩:=N6 hm
 unfold IK zS
 rw [o,R]
 simp only [Option.bind_eq_bind,Option.bind_some,gR]
 obtain ⟨neg,B7⟩:=x
 simp only at ad ⊢
 have jP:decide ((0:Int)<(B7.length:Nat)) = !((((B7.length:Nat):Int) == 0)):=by
  by_cases h:B7=[]
  ·subst h;rfl
  ·have:=List.length_pos_iff.mpr h
   rw [decide_eq_true (by omega)]
   symm
   simp
   omega
 by_cases ak:I=true
 ·obtain ⟨aD,aM⟩:=ad.1 ak
  subst ak
  cases neg
  ·refine ⟨true,rfl,rfl,?_⟩
   simp only [true_iff]
   refine ⟨_,PH aD (fun h=>by simp at h),?_⟩
   rw [Ez (lk aD.1),tl aD]
   exact aM
  ·refine ⟨decide ((0:Int)<(B7.length:Nat)),rfl,by rw [jP];rfl,?_⟩
   rw [decide_eq_true_iff]
   constructor
   ·intro ah
    refine ⟨_,PH aD (fun _ h=>by subst h;simp at ah),?_⟩
    rw [Ez (lk aD.1),tl aD]
    exact aM
   ·rintro ⟨n,a1,-⟩
    have aw:=congrArg bg.du a1
    have aC:=congrArg bg.cY a1
    simp only [D5,Ar] at aw aC
    have b1:n<0:=by simpa using aw.symm
    have:B7≠[]:=by
     rw [aC]
     intro h
     have:=ub.1 h
     omega
    have:=List.length_pos_iff.mpr this
    omega
 ·refine ⟨false,by simp [ak],by simp [ak],?_⟩
  simp only [Bool.false_eq_true,false_iff]
  rintro ⟨n,a1,zc⟩
  have aC:=congrArg bg.cY a1
  simp only [Ar] at aC
  exact ak (ad.2 (aC▸⟨jX _,zc⟩))
theorem WB {r:gb}(hm:r.dW.cY.length≤2000000)(bh:r.dX.length≤2000000): ∃ok,N2 r=some ok∧xR r=some ok∧(ok=true↔ ∃p,Fr p∧r=mk p):=by
 obtain ⟨b3,h3,j2,bI⟩:=Vx (x:=r.dW) (by omega)
 obtain ⟨a9,hQ,ko,rT⟩:=N6 (a:=r.dX) (by omega)
 unfold N2 xR
 rw [h3,j2]
 simp only [Option.bind_eq_bind,Option.bind_some,gR]
 by_cases o:b3=true
 ·rw [if_pos o,if_pos o,hQ,ko]
  simp only [Option.bind_some]
  by_cases R:a9=true
  ·rw [if_pos R,if_pos R]
   obtain ⟨n,a1,aeI⟩:=bI.1 o
   obtain ⟨rh,aeJ⟩:=rT.1 R
   have uE:=lk rh.1
   have RV:r.dX=L (V r.dX):=(tl rh).symm
   have Fq:r.dW.cY=L n.natAbs:=by rw [a1];rfl
   by_cases ad:r.dX=[]
   ·rw [if_pos (by simp [ad]),if_pos (by simp [ad])]
    refine ⟨false,rfl,rfl,?_⟩
    simp only [Bool.false_eq_true,false_iff]
    rintro ⟨p,ah,ap⟩
    have e:r.dX=L p.2:=by rw [ap];rfl
    rw [ad] at e
    have:=ub.1 e.symm
    have:=ah.pos
    omega
   ·have LD:=rD rh ad
    have afg:=List.length_pos_iff.mpr ad
    have q6 : ¬((((r.dX.length:Nat):Int) == 0)=true):=by simp [ad]
    rw [if_neg q6,if_neg q6]
    by_cases aD:24<r.dX.length
    ·rw [if_pos (by simp;omega)]
     have hl : ¬∃p,Fr p∧r=mk p:=by
      rintro ⟨p,ah,ap⟩
      have e:r.dX=L p.2:=by rw [ap];rfl
      have:=(jo (k:=24) (by have:=ah.pos;omega)).2 ah.den
      rw [← e] at this
      omega
     refine ⟨false,rfl,?_,by simp [hl]⟩
     by_cases aM:24<r.dW.cY.length
     ·rw [if_pos (by simp;omega)]
     ·rw [if_neg (by simp;omega),if_pos (by simp;omega)]
    ·rw [if_neg (by simp;omega)]
     by_cases aM:24<r.dW.cY.length
     ·rw [if_pos (by simp;omega),if_pos (by simp;omega)]
      refine ⟨false,rfl,rfl,?_⟩
      simp only [Bool.false_eq_true,false_iff]
      rintro ⟨p,ah,ap⟩
      have e:r.dW.cY=L p.1.natAbs:=by rw [ap];rfl
      have:=(jo (k:=24) (by omega)).2 ah.num
      rw [← e] at this
      omega
     ·rw [if_neg (by simp;omega),if_neg (by simp;omega),if_neg (by simp;omega)]
      rw [Fq] at aM ⊢
      rw [ZC (jX _) rh (by omega) (by omega),N8 (jX _) rh (by omega) (by omega),fs (by omega),PG uE]
      simp only [Option.bind_some]
      have dN:=JN (n:=n) LD
      have acu:e7 [1]:=e7.one (by omega)
      have Fx:(L (Int.gcd n (V r.dX))).length≤5000000:=by
       have bQ:(Int.gcd n (V r.dX):Int)≤V r.dX:=Int.le_of_dvd LD (Int.gcd_dvd_right ..)
       have:=(jo (k:=24) (by omega)).2 (show (Int.gcd n (V r.dX):Int)<B 24 by
        have:=(rh.len (k:=24)).1 (by omega)
        omega)
       omega
      rw [ZG (by omega),DJ (jX _) acu Fx,fs (by omega)]
      have rR:V [1]=1:=by decide
      rw [rR]
      simp only [Option.bind_some]
      refine ⟨decide ((Int.gcd n (V r.dX):Int)=1),rfl,?_,?_⟩
      ·congr 1
       rw [Bool.eq_iff_iff]
       simp [Jo]
      ·rw [decide_eq_true_iff]
       constructor
       ·intro hu
        refine ⟨(n,V r.dX),⟨LD,by simp only;omega,(jo (by omega)).1 (by simp only;omega),(rh.len).1 (by omega)⟩,?_⟩
        obtain ⟨num,den⟩:=r
        simp only at a1 RV ⊢
        unfold mk
        simp only
        rw [← RV,← a1]
       ·rintro ⟨p,ah,ap⟩
        have e:r.dX=L p.2:=by rw [ap];rfl
        have aC:r.dW=hk p.1:=by rw [ap];rfl
        have b1:V r.dX=p.2:=by rw [e,fs (by have:=ah.pos;omega)]
        have dn:n=p.1:=by
         rw [a1] at aC
         have f1:=congrArg bg.du aC
         have f2:=congrArg bg.cY aC
         simp only [D5,Ar] at f1 f2
         have f3:=congrArg V f2
         rw [fs (by omega),fs (by omega)] at f3
         have f4:n<0↔p.1<0:=by
          constructor
          ·intro h;simpa [h] using f1.symm
          ·intro h;simpa [h] using f1
         omega
        rw [b1,dn,ah.RU]
        rfl
  ·refine ⟨false,by simp [R],by simp [R],?_⟩
   simp only [Bool.false_eq_true,false_iff]
   rintro ⟨p,ah,ap⟩
   have e:r.dX=L p.2:=by rw [ap];rfl
   have:=(jo (k:=24) (by have:=ah.pos;omega)).2 ah.den
   exact R (rT.2 (e▸⟨jX _,by omega⟩))
 ·refine ⟨false,by simp [o],by simp [o],?_⟩
  simp only [Bool.false_eq_true,false_iff]
  rintro ⟨p,ah,ap⟩
  have aC:r.dW=hk p.1:=by rw [ap];rfl
  have:=(jo (k:=24) (n:=p.1.natAbs) (by omega)).2 ah.num
  exact o (bI.2 ⟨p.1,aC,by omega⟩)
theorem Fr.ul {p:Int×Int}(h:Fr p):(L p.1.natAbs).length≤24:=(jo (by omega)).2 h.num
theorem Fr.um {p:Int×Int}(h:Fr p):(L p.2).length≤24:=(jo (by have:=h.pos;omega)).2 h.den
theorem aat (m n:Nat):B m*B n=B (m+n):=(AX m n).symm
theorem YR {x y:Int}{m n:Nat}(aa:0≤x)(aK:0≤y)(o:x<B m)(R:y<B n):(L (x*y)).length≤m+n:=by
 apply (jo (Int.mul_nonneg aa aK)).2
 rw [← aat]
 have ad:x*y≤(B m-1)*(B n-1):=Int.mul_le_mul (by omega) (by omega) aK (by omega)
 have aD:(B m-1)*(B n-1)=B m*B n-B m-B n+1:=by grind
 have aM:=oC m
 have bq:=oC n
 omega
theorem Xg {n d:Int}(bh:0<d)(BJ:(L n.natAbs).length≤900000)(LF:(L d).length≤900000):qa (hk n) (L d)=some (some (kZ (n / (Int.gcd n d:Int),d / (Int.gcd n d:Int)))):=by
 obtain ⟨m,e,o,R,ad,aD,aM,bq⟩:=YQ (n:=n) bh
 have dN:=JN (n:=n) bh
 rw [o,R]
 unfold qa
 simp only [Ar,D5,gR]
 by_cases a1:n=0
 ·subst a1
  have acv:(Int.gcd 0 d:Int)=d:=by rw [Int.gcd_comm,Em (by omega)]
  rw [acv] at ad aD
  have hm:m=0:=by
   rcases Int.mul_eq_zero.1 ad.symm with h|h<;>omega
  have he:e=1:=by
   have:d*e=d*1:=by omega
   exact Int.eq_of_mul_eq_mul_left (by omega) this
  subst hm he
  rw [if_pos (by simp [pO])]
  unfold kZ hk
  simp only [Int.natAbs_zero]
  rw [Eg (x:=1) (by omega),show ((0:Nat):Int)=0 from rfl,pO]
  rfl
 ·have abb : ¬((((L n.natAbs).length:Nat):Int) == 0)=true:=by
   simp only [beq_iff_eq]
   intro h
   have:=(KC (n:=n.natAbs) (by omega)).1 h
   omega
  rw [if_neg abb,N8 (jX _) (jX _) BJ LF,fs (by omega),fs (by omega),PG (by omega)]
  simp only [Option.bind_eq_bind,Option.bind_some]
  have Fx:(L (Int.gcd n d)).length≤900000:=by
   have bQ:(Int.gcd n d:Int)≤d:=Int.le_of_dvd bh (Int.gcd_dvd_right ..)
   apply (jo (by omega)).2
   have:=(jo (n:=d) (by omega)).1 LF
   omega
  rw [DJ (jX _) (e7.one (by omega)) (by omega),fs (by omega),show V [1]=1 by decide]
  simp only [Option.bind_some]
  by_cases hu:(Int.gcd n d:Int)=1
  ·rw [if_pos (by simpa using Jo.2 hu)]
   rw [hu] at ad aD
   rw [Int.one_mul] at ad aD
   subst ad aD
   rfl
  ·rw [if_neg (fun h=>hu (Jo.1 (by simpa using h)))]
   have RW:L (Int.gcd n d)≠[]:=fun h=>by
    have:=ub.1 h
    omega
   rw [En (jX _) (jX _) RW BJ Fx,fs (by omega),fs (by omega)]
   simp only [Option.bind_some]
   rw [En (jX _) (jX _) RW LF Fx,fs (by omega),fs (by omega)]
   simp only [Option.bind_some]
   rw [bq,R,qM (by omega)]
   simp only [Option.bind_some]
   have bW:e4 (decide (n<0)) (m.natAbs:Int)=m:=by
    refine ZH (p:=n.natAbs) (g:=Int.gcd n d) (by omega) dN ?_
    rw [← ad]
    unfold e4
    by_cases h:n<0<;>simp [h]<;>omega
   rw [bW]
   rfl
theorem ZI {m e:Int}(he:0≤e):tP (some (kZ (m,e)))=some (aba (if fits (m.natAbs:Int)∧fits e then some (m,e) else none)):=by
 have bW:tP (some (kZ (m,e)))=if (decide ((24:Int)<len_ J (L m.natAbs)))=true then some none else if (decide ((24:Int)<len_ J (L e)))=true then some none else some (some (kZ (m,e))):=rfl
 rw [bW,gR,gR]
 by_cases o:fits (m.natAbs:Int)
 ·have R:=(jo (by omega)).2 o
  rw [if_neg (by simp;omega)]
  by_cases ad:fits e
  ·have aD:=(jo he).2 ad
   rw [if_neg (by simp;omega),if_pos ⟨o,ad⟩]
   rfl
  ·have aD : ¬(L e).length≤24:=fun h=>ad ((jo he).1 h)
   rw [if_pos (by simp;omega),if_neg (fun h=>ad h.2)]
   rfl
 ·have aD : ¬(L m.natAbs).length≤24:=fun h=>o ((jo (by omega)).1 h)
  rw [if_pos (by simp;omega),if_neg (fun h=>o h.1)]
  rfl
theorem OB {a b:Int}(bt:(L a.natAbs).length≤900000)(aJ:(L b.natAbs).length≤900000):o0 (hk a) (hk b)=some (hk (a*b)):=by
 unfold o0
 simp only [Ar,D5]
 rw [Ap (kI _) (kI _) (by omega) (by omega),fs (by omega),fs (by omega)]
 simp only [Option.bind_eq_bind,Option.bind_some]
 rw [qM (Int.mul_nonneg (by omega) (by omega)),ZF]
 rfl
theorem YS:(1000000000000000000000000000:Int)≤B 24:=by
 have h:B 3≤B 24:=tV (by omega)
 have ad:B 3=1000000000000000000000000000:=by decide
 omega
theorem N9 {n:Int}(h:mZ n):oq n=some (hk n):=by
 obtain ⟨o,R⟩:=mq.1 h
 unfold oq
 by_cases a1:n<0
 ·rw [if_pos (by simpa using a1),cQ (x:=n+1) (by omega) (by omega),cQ (x:=0-(n+1)) (by omega) (by omega),A1 (x:=0-(n+1)) (by omega) (by omega),A1 (by omega) (by omega),Jf (by omega) (by omega)]
  simp only [Option.bind_eq_bind,Option.bind_some]
  rw [qM (by omega)]
  simp only [Option.bind_some]
  congr 2
  unfold e4
  simp
  omega
 ·rw [if_neg (by simpa using a1),A1 (by omega) (by omega),Jf (by omega) (by omega)]
  simp only [Option.bind_eq_bind,Option.bind_some]
  rw [qM (by omega)]
  simp only [Option.bind_some]
  congr 2
theorem aau:L 1=[1]:=Eg (by omega)
theorem Ya {n:Int}(h:mZ n):mn n=some (some (kZ (n,1))):=by
 unfold mn
 rw [N9 h]
 simp only [Option.bind_eq_bind,Option.bind_some,kZ,aau]
theorem ZJ {n:Int}(h:mZ n):Fr (n,1):=by
 obtain ⟨o,R⟩:=mq.1 h
 have aJ:=YS
 exact ⟨by simp,by simp,by simp only;omega,by simp only;omega⟩
theorem DU {p:Int×Int}{d:Int}(bh:0≤d)(o:(L p.1.natAbs).length≤900000)(R:(L d).length≤900000):qI (some (kZ p)) (L d)=some (hk (p.1*d)):=by
 have aw:pM (kZ p).qo.cY (L d)=some (L ((p.1.natAbs:Int)*d)):=by
  show pM (L p.1.natAbs) (L d)=_
  rw [Ap (kI _) (kI _) (by omega) (by omega),fs (by omega),fs (by omega)]
 have FK:0≤(p.1.natAbs:Int)*d:=Int.mul_nonneg (by omega) (by omega)
 have b1:lI (kZ p).qo.du (L ((p.1.natAbs:Int)*d))=some (hk (p.1*d)):=by
  show lI (decide (p.1<0)) _=_
  rw [qM FK,YP]
 unfold qI
 rw [Option.bind_eq_bind,Option.bind_some,aw,Option.bind_eq_bind,Option.bind_some,b1]
 rfl
theorem ZK {a d:Int}(bh:0≤d):((a*d).natAbs:Int)=(a.natAbs:Int)*d:=by
 rw [Int.natAbs_mul,Int.natCast_mul]
 congr 1
 omega
theorem OC:maxLen=9223372036854775807:=by decide
def qg (lW:List aU)(m:a5):Bool :=
 decide (0≤m.c0∧m.c0<lW.length∧0≤m.c1∧m.c1<lW.length∧1≤m.h8∧m.h8≤3) &&
 match lW[m.c0.toNat]?,lW[m.c1.toNat]? with
 | some a,some b=> !(a.hH == b.hH && a.mR == b.mR) && !(a.iF && b.iF)
 | _,_=>false
theorem V7 (s:ca)(m:a5):zy s m=some (qg s.c7 m):=by
 unfold zy qg
 simp only [h6]
 by_cases o:m.c0<0
 ·simp [o];omega
 by_cases R:(s.c7.length:Int)≤m.c0
 ·simp [o,R];omega
 by_cases ad:m.c1<0
 ·simp [o,R,ad];omega
 by_cases aD:(s.c7.length:Int)≤m.c1
 ·simp [o,R,ad,aD];omega
 by_cases aM:m.h8<1
 ·simp [o,R,ad,aD,aM];omega
 by_cases bq:3<m.h8
 ·simp [o,R,ad,aD,aM,bq];omega
 obtain ⟨x,aa⟩ : ∃x,s.c7[m.c0.toNat]? = some x:=⟨_,List.getElem?_eq_getElem (by omega)⟩
 obtain ⟨y,aK⟩ : ∃y,s.c7[m.c1.toNat]? = some y:=⟨_,List.getElem?_eq_getElem (by omega)⟩
 have bE:0≤m.c0∧m.c0<s.c7.length:=by omega
 have cU:0≤m.c1∧m.c1<s.c7.length:=by omega
 have nI:0≤m.c0∧m.c0<s.c7.length∧0≤m.c1∧m.c1<s.c7.length∧1≤m.h8∧m.h8≤3:=by omega
 rw [decide_eq_false o,decide_eq_false R,decide_eq_false ad,decide_eq_false aD,decide_eq_false aM,decide_eq_false bq,decide_eq_true nI,if_pos bE,aa]
 simp only [Bool.false_eq_true,if_false,Option.bind_eq_bind,Option.bind_some,Bool.true_and]
 rw [if_pos cU,aK]
 simp only [Option.bind_some]
 by_cases aw:x.hH=y.hH<;>by_cases aC:x.mR=y.mR<;>by_cases Fv:x.iF=true<;>by_cases Lz:y.iF=true<;>simp [aw,aC,Fv,Lz]
def lB (s:ca):Prop:=(∀(n:Nat) j,s.c7[n]? = some j→ -50≤j.hH∧j.hH≤50∧ -50≤j.mR∧j.mR≤50)∧(∀(n:Nat) m,s.b2[n]? = some m→qg s.c7 m=true)∧s.c7.length≤6∧s.b2.length≤8
theorem YT (s:ca)(h:lB s)(k:Int)(h0:0≤k)(o:k<s.b2.length):
 ∃x y,oY s k=some (x,y)∧(-100≤x∧x≤100)∧(-100≤y∧y≤100):=by
 obtain ⟨f1,f2,f3,f4⟩:=h
 obtain ⟨m,hm⟩ : ∃x,s.b2[k.toNat]? = some x:=⟨_,List.getElem?_eq_getElem (by omega)⟩
 have LG:=f2 _ m hm
 unfold qg at LG
 simp only [Bool.and_eq_true,decide_eq_true_eq] at LG
 obtain ⟨⟨g1,g2,g3,g4,-⟩,-⟩:=LG
 obtain ⟨a,bt⟩ : ∃x,s.c7[m.c0.toNat]? = some x:=⟨_,List.getElem?_eq_getElem (by omega)⟩
 obtain ⟨b,aJ⟩ : ∃x,s.c7[m.c1.toNat]? = some x:=⟨_,List.getElem?_eq_getElem (by omega)⟩
 have afB:=f1 _ a bt
 have afC:=f1 _ b aJ
 have aw:U (b.hH-a.hH)=b.hH-a.hH:=cQ (by omega) (by omega)
 have aC:U (b.mR-a.mR)=b.mR-a.mR:=cQ (by omega) (by omega)
 have cx:0≤k∧k<s.b2.length:=⟨h0,o⟩
 have bE:0≤m.c0∧m.c0<s.c7.length:=⟨g1,g2⟩
 have cU:0≤m.c1∧m.c1<s.c7.length:=⟨g3,g4⟩
 refine ⟨b.hH-a.hH,b.mR-a.mR,?_,by omega,by omega⟩
 unfold oY
 simp only [if_pos cx,hm,if_pos bE,if_pos cU,bt,aJ,Option.bind_eq_bind,Option.bind_some,aw,aC]
theorem aav {j k:Int}(h0:0≤j)(h:j<k):j*j<k*k:=Int.mul_self_lt_mul_self h0 h
theorem ud {j k:Int}(h0:0≤j)(h:j≤k):j*j≤k*k:=Int.mul_self_le_mul_self h0 h
theorem O5 {x:Int}(aa:-100≤x∧x≤100):x*x≤10000∧0≤x*x:=by
 rcases Int.le_total 0 x with h|h
 ·have:=ud h aa.2;exact ⟨by omega,Int.mul_nonneg h h⟩
 ·have:=ud (j:= -x) (k:=100) (by omega) (by omega)
  rw [Int.neg_mul_neg] at this
  exact ⟨by omega,Int.mul_nonneg_of_nonpos_of_nonpos h h⟩
def QM (p:Int×Int):Option bB:=some (kZ p)
def uM (l:List Int)(n:Nat)(x:Int):Prop:=0≤x∧x<1000000000∧(∀z,l[n]? = some z→x=z)∧(l[n]? = none→x=0)
theorem EK {l:List Int}(h:cE l){n:Nat}(a1:n<l.length):uM l n l[n]:=by
 have aa:=List.getElem?_eq_getElem a1
 have h0:=h.get aa
 exact ⟨h0.1,h0.2,fun z cd=>by rw [aa] at cd;exact Option.some.inj cd,fun h=>by rw [aa] at h;simp at h⟩
theorem Qi {l:List Int}{n:Nat}(a1:¬n<l.length):uM l n 0:=by
 have aa:l[n]? = none:=by simp;omega
 exact ⟨by omega,by omega,fun z cd=>by rw [aa] at cd;simp at cd,fun _=>rfl⟩
theorem uM.take {l:List Int}{n:Nat}{x:Int}(h:uM l n x):V (l.take (n+1))=V (l.take n)+B n*x:=O3 h.2.2.1 h.2.2.2
theorem Xh {a b row:List Int}{carry:Int}{n:Nat}(bt:cE a)(aJ:cE b)(aP:carry=0∨carry=1)(tk:a.length≤1000000)(a1:n<a.length)(ap:n<row.length):
 ∃x y,uM a n x∧uM b n y∧xt a b a.length carry n row=some (.inl ((carry+x+y) / 1000000000,((n+1:Nat):Int),row.set n ((carry+x+y) % 1000000000))):=by
 have m6:0≤carry∧carry≤1:=by omega
 have hA:=EK bt a1
 have aa:=List.getElem?_eq_getElem a1
 have h3:=hA.1
 have j2:=hA.2.1
 unfold xt
 simp only [gR]
 rw [if_pos (by simp;omega),if_pos (by omega),Int.toNat_natCast,aa]
 simp only [Option.bind_eq_bind,Option.bind_some]
 by_cases R:n<b.length
 ·have f8:=EK aJ R
  have aK:=List.getElem?_eq_getElem R
  have hQ:=f8.1
  have ko:=f8.2.1
  refine ⟨a[n],b[n],hA,f8,?_⟩
  rw [if_pos (by simp;omega),if_pos (by omega),aK]
  simp only [Option.bind_some]
  rw [if_pos (by omega),if_pos (by omega),cQ (x:=a[n]+carry) (by omega) (by omega),cQ (x:=a[n]+carry+b[n]) (by omega) (by omega),tE (by omega),pG (by omega),cQ (by omega) (by omega),qj (n:=n) (by omega),Nat.zero_add,Int.add_comm a[n] carry]
 ·refine ⟨a[n],0,hA,Qi R,?_⟩
  rw [if_neg (by simp;omega),if_pos (by omega),if_pos (by omega),cQ (x:=a[n]+carry) (by omega) (by omega),tE (by omega),pG (by omega),cQ (by omega) (by omega),qj (n:=n) (by omega),Nat.zero_add,Int.add_zero,Int.add_comm a[n] carry]
theorem Xi {a b:List Int}(bt:cE a)(aJ:cE b)(tk:a.length≤900000)(uy:b.length≤a.length):
 ∃r,zX a b a.length 0 0 (List.replicate (a.length+1) 0)=some r∧(r.1=0∨r.1=1)∧cE r.2∧r.2.length=a.length+1∧V r.2+r.1*B a.length=V a+V b∧r.2[a.length]? = some 0:=by
 refine kQ (eL:=fun w:Int×Int×List Int=> ∃n:Nat,w.2.1=n∧n≤a.length∧(w.1=0∨w.1=1)∧cE w.2.2∧w.2.2.length=a.length+1∧V w.2.2+w.1*B n=V (a.take n)+V (b.take n)∧ ∀j,n≤j→j<a.length+1→w.2.2[j]? = some 0) (m:=fun w=>a.length-w.2.1.toNat) _ ?_ _ ⟨0,rfl,by omega,.inl rfl,cE.Lb _,by simp,by simp [V,Kb],fun j _ h=>by simp [List.getElem?_replicate];omega⟩
 rintro ⟨carry,ii,row⟩ ⟨n,aw,aC,b1,dn,dr,eF,ff⟩
 simp only at aw b1 dn dr eF ff ⊢
 subst aw
 by_cases a1:n=a.length
 ·subst a1
  refine .inr ⟨(carry,row),by simp [xt],b1,dn,dr,?_,ff _ (Nat.le_refl _) (by omega)⟩
  rw [List.take_length,List.take_of_length_le uy] at eF
  exact eF
 ·obtain ⟨x,y,aa,aK,pU⟩:=Xh (row:=row) (n:=n) bt aJ b1 (by omega) (by omega) (by omega)
  have x0:=aa.1
  have gp:=aa.2.1
  have tF:=aK.1
  have fh:=aK.2.1
  refine .inl ⟨_,pU,⟨n+1,rfl,by omega,by simp only;omega,dn.set (by omega),by simpa using dr,?_,fun j o R=> ?_⟩,by simp only;omega⟩
  ·simp only
   rw [se (ff n (Nat.le_refl _) (by omega)),mV,aa.take,aK.take]
   have:=Int.mul_ediv_add_emod (carry+x+y) 1000000000
   generalize (carry+x+y) / 1000000000=u at *
   generalize (carry+x+y) % 1000000000=t at *
   have cp:t=carry+x+y-1000000000*u:=by omega
   rw [cp]
   grind
  ·simp only
   rw [List.getElem?_set_ne (by omega)]
   exact ff j (by omega) R
theorem OD {a b:List Int}(bt:cE a)(aJ:cE b)(tk:a.length≤900000)(uy:b.length≤a.length):
 (if 0≤(U ((len_ J a)+(1:Int)))∧(8:Int)*(U ((len_ J a)+(1:Int)))≤281474976710656∧(U ((len_ J a)+(1:Int)))<9223372036854775808 then
   (zX a b (len_ J a) 0 0 (List.replicate (U ((len_ J a)+(1:Int))).toNat 0:List Int)).bind fun aZ =>
   if 0≤(len_ J a)∧(len_ J a)<(aZ.2.length:Nat) then
   if (0+(len_ J a).toNat)<aZ.2.length then
   (qL (aZ.2.set (0+(len_ J a).toNat) aZ.1)).bind fun bH=>some bH
   else none
   else none
   else none)=some (L (V a+V b)):=by
 obtain ⟨r,ap,o,R,ad,aD,aM⟩:=Xi bt aJ tk uy
 rw [gR,qj (by omega),if_pos (by omega),Int.toNat_natCast,ap,Option.bind_some,if_pos (by omega),Int.toNat_natCast,Nat.zero_add,if_pos (by omega)]
 have Bq:cE (r.2.set a.length r.1):=R.set (by omega)
 rw [yd Bq (by simp;omega),se aM,Option.bind_some]
 congr 2
 rw [← aD]
 grind
theorem YU {a b:List Int}(bt:cE a)(aJ:cE b)(tk:a.length≤900000)(acw:b.length≤900000):xW a b=some (L (V a+V b)):=by
 unfold xW
 by_cases h:a.length<b.length
 ·rw [if_pos (by rw [gR,gR];simpa using h)]
  have:=OD aJ bt acw (by omega)
  rw [Int.add_comm (V a)]
  exact this
 ·rw [if_neg (by rw [gR,gR];simpa using h)]
  exact OD bt aJ tk (by omega)
theorem WC {a b row:List Int}{less:Int}{n:Nat}(bt:cE a)(aJ:cE b)(aL:less=0∨less=1)(tk:a.length≤1000000)(a1:n<a.length)(ap:n<row.length):
 ∃x y,uM a n x∧uM b n y∧xo b a a.length less n row=some (.inl (if x-less-y<0 then (1,((n+1:Nat):Int),row.set n (x-less-y+1000000000)) else (0,((n+1:Nat):Int),row.set n (x-less-y)))):=by
 have m6:0≤less∧less≤1:=by omega
 have hA:=EK bt a1
 have aa:=List.getElem?_eq_getElem a1
 have h3:=hA.1
 have j2:=hA.2.1
 unfold xo
 simp only [gR]
 rw [if_pos (by simp;omega),if_pos (by omega),Int.toNat_natCast,aa]
 simp only [Option.bind_eq_bind,Option.bind_some]
 by_cases R:n<b.length
 ·have f8:=EK aJ R
  have aK:=List.getElem?_eq_getElem R
  have hQ:=f8.1
  have ko:=f8.2.1
  refine ⟨a[n],b[n],hA,f8,?_⟩
  rw [if_pos (by simp;omega),if_pos (by omega),aK]
  simp only [Option.bind_some]
  rw [cQ (x:=a[n]-less) (by omega) (by omega),cQ (x:=a[n]-less-b[n]) (by omega) (by omega),qj (n:=n) (by omega),cQ (x:=a[n]-less-b[n]+1000000000) (by omega) (by omega),Nat.zero_add]
  by_cases h:a[n]-less-b[n]<0
  ·rw [if_pos (by simpa using h),if_pos h,if_pos (by omega),if_pos (by omega)]
  ·rw [if_neg (by simpa using h),if_neg h,if_pos (by omega),if_pos (by omega)]
 ·refine ⟨a[n],0,hA,Qi R,?_⟩
  rw [if_neg (by simp;omega),cQ (x:=a[n]-less) (by omega) (by omega),qj (n:=n) (by omega),cQ (x:=a[n]-less+1000000000) (by omega) (by omega),Nat.zero_add,Int.sub_zero]
  by_cases h:a[n]-less<0
  ·rw [if_pos (by simpa using h),if_pos h,if_pos (by omega),if_pos (by omega)]
  ·rw [if_neg (by simpa using h),if_neg h,if_pos (by omega),if_pos (by omega)]
theorem O6 {a b:List Int}(bt:cE a)(aJ:cE b)(hlen:b.length≤a.length)(uy:V b≤V a)(tk:a.length≤900000):tN a b=some (L (V a-V b)):=by
 have : ∃r,IF b a a.length 0 0 (List.replicate a.length 0)=some r∧cE r∧r.length=a.length∧V r=V a-V b:=by
  refine kQ (eL:=fun w:Int×Int×List Int=> ∃n:Nat,w.2.1=n∧n≤a.length∧(w.1=0∨w.1=1)∧cE w.2.2∧w.2.2.length=a.length∧V w.2.2-w.1*B n=V (a.take n)-V (b.take n)∧ ∀j,n≤j→j<a.length→w.2.2[j]? = some 0) (m:=fun w=>a.length-w.2.1.toNat) _ ?_ _ ⟨0,rfl,by omega,.inl rfl,cE.Lb _,by simp,by simp [V,Kb],fun j _ h=>by simp [List.getElem?_replicate];omega⟩
  rintro ⟨less,ii,row⟩ ⟨n,aw,aC,b1,dn,dr,eF,ff⟩
  simp only at aw b1 dn dr eF ff ⊢
  subst aw
  by_cases a1:n=a.length
  ·subst a1
   refine .inr ⟨row,by simp [xo],dn,dr,?_⟩
   rw [List.take_length,List.take_of_length_le hlen] at eF
   have R:=m0 dn
   rw [dr] at R
   rcases b1 with rfl|rfl<;>omega
  ·obtain ⟨x,y,aa,aK,pU⟩:=WC (row:=row) (n:=n) bt aJ b1 (by omega) (by omega) (by omega)
   have x0:=aa.1
   have gp:=aa.2.1
   have tF:=aK.1
   have fh:=aK.2.1
   rw [pU]
   refine .inl ⟨_,rfl,?_⟩
   by_cases h:x-less-y<0
   ·rw [if_pos h]
    refine ⟨⟨n+1,rfl,by omega,.inr rfl,dn.set (by omega),by simpa using dr,?_,fun j o R=> ?_⟩,by simp only;omega⟩
    ·simp only
     rw [se (ff n (Nat.le_refl _) (by omega)),mV,aa.take,aK.take]
     grind
    ·simp only
     rw [List.getElem?_set_ne (by omega)]
     exact ff j (by omega) R
   ·rw [if_neg h]
    refine ⟨⟨n+1,rfl,by omega,.inl rfl,dn.set (by omega),by simpa using dr,?_,fun j o R=> ?_⟩,by simp only;omega⟩
    ·simp only
     rw [se (ff n (Nat.le_refl _) (by omega)),aa.take,aK.take]
     grind
    ·simp only
     rw [List.getElem?_set_ne (by omega)]
     exact ff j (by omega) R
 obtain ⟨r,ap,o,R,ad⟩:=this
 unfold tN
 simp only [gR]
 rw [if_pos (by omega),Int.toNat_natCast,ap]
 simp only [Option.bind_eq_bind,Option.bind_some]
 rw [yd o (by omega),ad]
 rfl
theorem ZL {a b:Int}(h:decide (a<0)=decide (b<0)):e4 (decide (a<0)) ((a.natAbs:Int)+(b.natAbs:Int))=a+b:=by
 have cv:a<0↔b<0:=by simpa using h
 unfold e4
 by_cases o:a<0
 ·have:=cv.1 o
  simp only [o,decide_true,if_true]
  omega
 ·have : ¬b<0:=fun aJ=>o (cv.2 aJ)
  simp only [o,decide_false,Bool.false_eq_true,if_false]
  omega
theorem PI {a b:Int}(h:¬decide (a<0)=decide (b<0)):e4 (decide (a<0)) ((a.natAbs:Int)-(b.natAbs:Int))=a+b∧e4 (decide (b<0)) ((b.natAbs:Int)-(a.natAbs:Int))=a+b:=by
 have cv : ¬(a<0↔b<0):=by simpa using h
 unfold e4
 by_cases o:a<0
 ·have R : ¬b<0:=fun aJ=>cv ⟨fun _=>aJ,fun _=>o⟩
  simp only [o,R,decide_true,if_true,decide_false,Bool.false_eq_true,if_false]
  omega
 ·have R:b<0:=by
   apply Classical.byContradiction
   intro aJ
   exact cv ⟨fun h=>absurd h o,fun h=>absurd h aJ⟩
  simp only [o,R,decide_true,if_true,decide_false,Bool.false_eq_true,if_false]
  omega
theorem O7 {x y:Int}(aa:0≤x)(BN:x≤y):(L x).length≤(L y).length:=by
 apply (jo aa).2
 have:=m0 (kI y)
 rw [fs (by omega)] at this
 omega
theorem O8 {a b:Int}(bt:(a.natAbs:Int)<B 50)(aJ:(b.natAbs:Int)<B 50):tJ (hk a) (hk b)=some (hk (a+b)):=by
 have zk:=(jo (k:=50) (n:=a.natAbs) (by omega)).2 bt
 have Cu:=(jo (k:=50) (n:=b.natAbs) (by omega)).2 aJ
 have bW:tJ (hk a) (hk b)=((p9 (L a.natAbs) (L b.natAbs)).bind fun an=>if (decide (a<0) == decide (b<0))=true then (xW (L a.natAbs) (L b.natAbs)).bind fun cb=>(lI (decide (a<0)) cb).bind fun bz=>some bz else if (decide ((0:Int)≤an))=true then (tN (L a.natAbs) (L b.natAbs)).bind fun bp=>(lI (decide (a<0)) bp).bind fun bH=>some bH else (tN (L b.natAbs) (L a.natAbs)).bind fun bp=>(lI (decide (b<0)) bp).bind fun bH=>some bH):=rfl
 rw [bW,DJ (jX _) (jX _) (by omega),fs (by omega),fs (by omega),Option.bind_some]
 by_cases h:decide (a<0)=decide (b<0)
 ·rw [if_pos (by simpa using h),YU (kI _) (kI _) (by omega) (by omega),fs (by omega),fs (by omega),Option.bind_some,qM (by omega),ZL h]
  rfl
 ·rw [if_neg (by simpa using h)]
  by_cases aP:(b.natAbs:Int)≤a.natAbs
  ·have tt:0≤m1 (a.natAbs:Int) b.natAbs:=by
    apply Int.not_lt.mp
    intro o
    have:=ye.1 o
    omega
   rw [if_pos (by simpa using tt),O6 (kI _) (kI _) (O7 (by omega) aP) (by rw [fs (by omega),fs (by omega)];exact aP) (by omega),fs (by omega),fs (by omega),Option.bind_some,qM (by omega),(PI h).1]
   rfl
  ·have tt : ¬0≤m1 (a.natAbs:Int) b.natAbs:=by
    have:=ye.2 (show (a.natAbs:Int)<b.natAbs by omega)
    omega
   rw [if_neg (by simpa using tt),O6 (kI _) (kI _) (O7 (by omega) (by omega)) (by rw [fs (by omega),fs (by omega)];omega) (by omega),fs (by omega),fs (by omega),Option.bind_some,qM (by omega),(PI h).2]
   rfl
theorem Qj {b:Int}:e4 (!(decide (b<0))) (b.natAbs:Int) = -b:=by
 unfold e4
 by_cases h:b<0
 ·simp only [h,decide_true,Bool.not_true,Bool.false_eq_true,if_false]
  omega
 ·simp only [h,decide_false,Bool.not_false,if_true]
  omega
theorem OE {a b:Int}(bt:(a.natAbs:Int)<B 50)(aJ:(b.natAbs:Int)<B 50):sE (hk a) (hk b)=some (hk (a-b)):=by
 have bW:sE (hk a) (hk b)=(((lI (!(decide (b<0))) (L b.natAbs)).bind fun r=>some r).bind fun an=>(tJ (hk a) an).bind fun aZ=>some aZ):=rfl
 rw [bW,qM (by omega),Qj,Option.bind_some,Option.bind_some,O8 bt (by omega),Option.bind_some,Int.sub_eq_add_neg]
theorem Fr.neg {q:Int×Int}(h:Fr q):Fr (-q.1,q.2):=⟨h.pos,by simp only;rw [Int.neg_gcd];exact h.RU,by simp only;have:=h.num;omega,h.den⟩
theorem D6 {p q:Int×Int}(ah:Fr p)(a6:Fr q):((p.1*q.2).natAbs:Int)<B 48∧(L (p.1.natAbs*q.2:Int)).length≤48∧0≤(p.1.natAbs*q.2:Int):=by
 have bq:=a6.pos
 have bQ:=YR (x:=p.1.natAbs) (y:=q.2) (by omega) (by omega) ah.num a6.den
 have FK:0≤(p.1.natAbs:Int)*q.2:=Int.mul_nonneg (by omega) (by omega)
 rw [ZK (by omega)]
 exact ⟨(jo FK).1 bQ,bQ,FK⟩
theorem J4:B 48+B 48≤B 50:=by
 have o:B 49≤B 50:=tV (by omega)
 have R:=oC 48
 rw [mV] at o
 omega
theorem V8 {k N:Int}(h0:0≤k)(fC:N≤20000)(h:k*k≤N):k≤141:=by
 rcases Int.lt_or_le 141 k with o|o
 ·have:=ud (j:=142) (k:=k) (by omega) (by omega)
  omega
 ·exact o
theorem Xj (x y:Int)(aa:-100≤x∧x≤100)(aK:-100≤y∧y≤100): ∃n,GW x y 0=some n∧(0≤n∧n≤142∧x*x+y*y≤n*n∧ ∀j,0≤j→j<n→j*j<x*x+y*y):=by
 have adf:x*x≤10000∧0≤x*x:=by
  rcases Int.le_total 0 x with h|h
  ·have:=ud h aa.2;exact ⟨by omega,Int.mul_nonneg h h⟩
  ·have:=ud (j:= -x) (k:=100) (by omega) (by omega)
   rw [Int.neg_mul_neg] at this
   exact ⟨by omega,Int.mul_nonneg_of_nonpos_of_nonpos h h⟩
 have adg:y*y≤10000∧0≤y*y:=by
  rcases Int.le_total 0 y with h|h
  ·have:=ud h aK.2;exact ⟨by omega,Int.mul_nonneg h h⟩
  ·have:=ud (j:= -y) (k:=100) (by omega) (by omega)
   rw [Int.neg_mul_neg] at this
   exact ⟨by omega,Int.mul_nonneg_of_nonpos_of_nonpos h h⟩
 have aw:U (x*x)=x*x:=cQ (by omega) (by omega)
 have aC:U (y*y)=y*y:=cQ (by omega) (by omega)
 have b1:U (x*x+y*y)=x*x+y*y:=cQ (by omega) (by omega)
 exact kQ (f:=fun w=>zt x y w) (fun n=>0≤n∧n≤142∧ ∀j,0≤j→j<n→j*j<x*x+y*y) (fun n=>(142-n).toNat)
  (fun n=>0≤n∧n≤142∧x*x+y*y≤n*n∧ ∀j,0≤j→j<n→j*j<x*x+y*y) (fun n a1=>by
  obtain ⟨o,R,ad⟩:=a1
  have afh:n*n≤142*142:=ud o R
  have E4:0≤n*n:=Int.mul_nonneg o o
  have hw:U (n*n)=n*n:=cQ (by omega) (by omega)
  have we:U (n+1)=n+1:=cQ (by omega) (by omega)
  unfold zt
  rw [aw,aC,b1,hw,we]
  by_cases a:n*n<x*x+y*y
  ·have:=V8 (N:=20000) o (by omega) (by omega)
   refine .inl ⟨n+1,by simp [a],⟨by omega,by omega,fun j Sn zh=> ?_⟩,by omega⟩
   rcases Int.lt_or_le j n with c|c
   ·exact ad j Sn c
   ·have:j=n:=by omega
    subst this;omega
  ·exact .inr ⟨n,by simp [a],o,R,by omega,ad⟩) 0 ⟨by omega,by omega,fun j Sn zh=>by omega⟩
def nf (n:Int):Int:=if n=0 then 0 else if n<0 then -1 else 1
theorem Xk {p:Int×Int}:r3 (QM p)=some (nf p.1):=by
 have bW:r3 (QM p)=((if ((len_ J (L p.1.natAbs)) == (0:Int))=true then some 0 else if (decide (p.1<0))=true then some (-1) else some 1:Option Int)).bind (fun r=>some r):=rfl
 rw [bW,gR]
 unfold nf
 by_cases h:p.1=0
 ·rw [if_pos (by rw [h];simp [pO]),if_pos h]
  rfl
 ·rw [if_neg (by simp only [beq_iff_eq];intro R;have:=(KC (n:=p.1.natAbs) (by omega)).1 R;omega),if_neg h]
  by_cases ad:p.1<0
  ·rw [if_pos (by simpa using ad),if_pos ad]
   rfl
  ·rw [if_neg (by simpa using ad),if_neg ad]
   rfl
def tW (n:Int):Bool:=decide (-100≤n∧n≤100)
def EL (FT:Nat)(l:List Int):Bool:=decide (l.length=2*FT) && l.all tW
theorem WD (n:Int):zW n=some (tW n):=by
 unfold zW tW
 by_cases h : -100≤n<;>simp [h]
theorem V9 (s:ca)(L5:s.c7.length≤6)(l:List Int)(aL:l.length≤maxLen):sJ s l=some (EL s.c7.length l):=by
 have hm:=OC
 have hw:U (2*((s.c7.length:Nat):Int))=2*((s.c7.length:Nat):Int):=cQ (by omega) (by omega)
 unfold sJ CB CG EL
 simp only [h6,hw,Option.bind_eq_bind]
 obtain ⟨r,o,R⟩:=Ox (f:=fun w=>wK l (l.length:Nat) w) l (fun n=> !tW n) (fun n x aa=>by
  have dC:=fE aa
  unfold wK Da
  have c:(n:Int)<(l.length:Int):=by omega
  have dM:0≤(n:Int)∧(n:Int)<(l.length:Int):=by omega
  simp only [decide_eq_true c,if_true,if_pos dM,Int.toNat_natCast,aa,Option.bind_eq_bind,Option.bind_some,WD]
  rw [oW (by omega)]
  cases tW x<;>rfl) (by simp [wK])
 have yT:Gn l (l.length:Nat) 0=some r:=o
 rw [yT]
 have abc:(l.any fun n=> !tW n) = !l.all tW:=by
  rw [List.not_all_eq_any_not]
 rw [abc] at R
 by_cases e:l.length=2*s.c7.length
 ·have c:((l.length:Int) == 2*(s.c7.length:Int))=true:=by simp;omega
  rw [c]
  rcases R with ⟨k,rfl,aX,bt⟩|⟨rfl,bt⟩
  ·simp only [Bool.not_eq_true'] at bt
   simp [e,bt,aX]
  ·simp only [Bool.not_eq_false'] at bt
   simp [e,bt]
 ·have c:((l.length:Int) == 2*(s.c7.length:Int))=false:=by simp;omega
  rw [c]
  simp [e]
theorem p3 {i:Int}{a:Nat}(h0:0≤i)(o:i≤100)(bt:a≤1):U (U (2*i)+(a:Int))=(((2*i+a).toNat:Nat):Int):=by
 rw [cQ (x:=2*i) (by omega) (by omega),cQ (by omega) (by omega)]
 omega
def LH (P:List (List Int)):b6→Prop
 | none=>True
 | some (k,c)=> ∃x,P[k]? = some x∧x.length=c∧c≤1048576
theorem LH.set {P:List (List Int)}{k:Nat}{x y:List Int}(aa:P[k]? = some x)(aK:y.length=x.length){h:b6}(fQ:LH P h):LH (P.set k y) h:=by
 cases h with
 | none=>trivial
 | some p =>
  obtain ⟨j,c⟩:=p
  obtain ⟨z,o,R,ad⟩:=fQ
  by_cases aA:k=j
  ·subst aA
   rw [aa] at o
   obtain rfl:=Option.some.inj o
   exact ⟨y,by rw [List.getElem?_set,if_pos rfl,if_pos (fE aa)],by omega,ad⟩
  ·exact ⟨z,by rw [List.getElem?_set,if_neg aA];exact o,R,ad⟩
def k9:List aU→Nat→List Nat
 | [],_=>[]
 | x::l,n=>if x.iF then k9 l (n+1) else n::k9 l (n+1)
theorem JD : ∀(l:List aU) (n i:Nat),i∈k9 l n→n≤i∧i<n+l.length
 | [],n,i,h=>by simp [k9] at h
 | x::l,n,i,h=>by
  rw [k9] at h
  simp only [List.length_cons]
  split at h
  ·have:=JD l (n+1) i h;omega
  ·rcases List.mem_cons.1 h with h|h
   ·omega
   ·have:=JD l (n+1) i h;omega
theorem O9 : ∀(l:List aU) (n:Nat),(k9 l n).length≤l.length
 | [],n=>by simp [k9]
 | x::l,n=>by
  rw [k9]
  have:=O9 l (n+1)
  split<;>simp only [List.length_cons]<;>omega
theorem WE {l:List aU}{n:Nat}{x:aU}(h:l[n]? = some x)(m:Nat):k9 (l.drop n) m=if x.iF then k9 (l.drop (n+1)) (m+1) else m::k9 (l.drop (n+1)) (m+1):=by
 rw [O0 h,k9]
theorem Xl {f:Int×List Int→Option ((Int×List Int)⊕List Int)}(lW:List aU)(L5:lW.length≤1000)
 (h : ∀(n:Nat) acc x,lW[n]? = some x→f ((n:Int),acc)=if x.iF=true then some (.inl (U ((n:Int)+1),acc)) else if (acc++[(n:Int)]).length*8≤140737488355328 then some (.inl (U ((n:Int)+1),acc++[(n:Int)])) else none)
 (he : ∀acc,f ((lW.length:Int),acc)=some (.inr acc)):iter f ((0:Int),[])=some ((k9 lW 0).map (fun n:Nat=>(n:Int))):=by
 obtain ⟨s,o,R⟩:=jz (fun (n:Nat) (acc:List Int)=>((n:Int),acc)) lW.length (fun n acc=>acc++(k9 (lW.drop n) n).map (fun n:Nat=>(n:Int))=(k9 lW 0).map (fun n:Nat=>(n:Int))∧acc.length≤n) (fun acc=>acc) (f:=f) (fun n a1 acc dv=>by
  obtain ⟨dv,aL⟩:=dv
  have aa:=List.getElem?_eq_getElem a1
  rw [WE aa] at dv
  rw [h n acc _ aa,qj (by omega)]
  by_cases c:lW[n].iF=true
  ·rw [if_pos c] at dv ⊢
   exact ⟨_,rfl,dv,by omega⟩
  ·rw [if_neg c] at dv ⊢
   rw [if_pos (by simp only [List.length_append,List.length_cons,List.length_nil];omega)]
   refine ⟨_,rfl,?_,by simp only [List.length_append,List.length_cons,List.length_nil];omega⟩
   rw [List.append_assoc]
   exact dv) (fun acc _=>he acc) [] ⟨by rw [List.drop_zero];rfl,by simp⟩
 obtain ⟨R,-⟩:=R
 rw [List.drop_length] at R
 simp only [k9,List.map_nil,List.append_nil] at R
 subst R
 exact o
theorem IL (s:ca)(L5:s.c7.length≤1000):uR s=some ((k9 s.c7 0).map (fun n:Nat=>(n:Int))):=by
 unfold uR Gu
 rw [h6,Xl s.c7 L5 (fun n acc x aa=>by
  have a1:=fE aa
  unfold zr
  exact eh (by omega) (bK (by omega) (aB (gt rfl aa) rfl))) (fun acc=>by
  unfold zr
  exact eK (by omega) rfl)]
 rfl
def hlen:b6→Nat
 | none=>0
 | some (_,c)=>c
def gz (x:Rat):Int×Int:=(x.num,(x.den:Int))
def fS (x:Rat):Prop:=(x.num.natAbs:Int)<B 24∧(x.den:Int)<B 24
def np (x:Rat):gb:=mk (gz x)
instance aec (x:Rat):Decidable (fS x):=by unfold fS;infer_instance
theorem fS.dj {x:Rat}(h:fS x):Fr (gz x):=⟨by have:=x.den_pos;simp only [gz];omega,by simp only [gz];rw [Int.gcd,Int.natAbs_natCast];exact x.reduced,h.1,h.2⟩
theorem yf (x:Rat):((x.den:Int):Rat)*x=((x.num:Int):Rat):=by
 have h:x=(x.num:Rat) / ((x.den:Int):Rat):=by rw [← Rat.divInt_eq_div,Rat.num_divInt_den]
 have bh:((x.den:Int):Rat)≠0:=fun c=>by
  have:(x.den:Int)=0:=Rat.intCast_inj.1 (by rw [c];rfl)
  have:=x.den_pos
  omega
 conv=>lhs;rhs;rw [h]
 grind
theorem fS.neg {x:Rat}(h:fS x):fS (-x):=by
 unfold fS at h ⊢
 rw [Rat.neg_num,Rat.neg_den,Int.natAbs_neg];exact h
def mf (x:Rat):Int:=if x=0 then 0 else if x<0 then -1 else 1
theorem tS {n:Int}(h:mZ n):fS (n:Rat):=by
 have:=ZJ h
 unfold fS
 rw [Rat.num_intCast,Rat.den_intCast];exact ⟨this.num,this.den⟩
theorem Yb {n d:Int}{x:Rat}(h0:d≠0)(e:(d:Rat)*x=n)(a1:(n.natAbs:Int)<B 24)(bh:(d.natAbs:Int)<B 24):fS x:=by
 have tf:(d:Rat)≠0:=fun c=>h0 (Rat.intCast_inj.1 (by rw [c];rfl))
 have aa:x=Rat.divInt n d:=by rw [Rat.divInt_eq_div,← e];grind
 rw [aa]
 unfold fS
 rw [Rat.num_divInt,Rat.den_divInt,if_neg h0]
 constructor
 ·have o:(d.sign*n / (d.gcd n:Int)).natAbs≤(d.sign*n).natAbs:=Int.natAbs_ediv_le_natAbs _ _
  have R:(d.sign*n).natAbs≤n.natAbs:=by
   rw [Int.natAbs_mul]
   have:d.sign.natAbs≤1:=by rw [Int.natAbs_sign];split<;>omega
   exact Nat.le_trans (Nat.mul_le_mul_right _ this) (by omega)
  omega
 ·have:d.natAbs / d.gcd n≤d.natAbs:=Nat.div_le_self _ _
  omega
theorem As {x:Rat}:mf x=0↔x=0:=by
 unfold mf
 split
 ·simp_all
 ·split<;>simp_all
theorem tT {x:Rat}:0<mf x↔0<x:=by
 unfold mf
 split
 ·rename_i h;rw [h];simp
 ·split
  ·rename_i o R;constructor
   ·intro h;omega
   ·intro h;grind
  ·rename_i o R;constructor
   ·intro h;grind
   ·intro h;omega
def eA (m:Nat)(t:cm):List Int:=bf m fun i=>((t.B i:Nat):Int)
theorem Pa {x y z w:Rat}(aK:0<y)(hw:0<w):(x / y≤z / w↔x*w≤z*y)∧(x / y=z / w↔x*w=z*y):=by
 have aw:x*w=(x / y)*(y*w):=by grind
 have aC:z*y=(z / w)*(y*w):=by grind
 have ah:0<y*w:=Rat.mul_pos aK hw
 constructor
 ·rw [aw,aC]
  constructor
  ·intro h;exact Rat.mul_le_mul_of_nonneg_right h (Rat.le_of_lt ah)
  ·intro h
   apply Classical.byContradiction
   intro c
   have:z / w<x / y:=by grind
   have:=Rat.mul_lt_mul_of_pos_right this ah
   grind
 ·rw [aw,aC]
  constructor
  ·intro h;rw [h]
  ·intro h
   have cu:y*w≠0:=by grind
   grind
def PJ (m N:Nat)(t:cm)(j:Nat)(r:Int):Prop :=
 (r = -1∧ ∀i,i<m→ ¬0<t.T i j)∨ ∃b:Nat,r=b∧b<m∧0<t.T b j∧(∀i,i<m→0<t.T i j→t.T b N*t.T i j≤t.T i N*t.T b j)∧(∀i,i<m→0<t.T i j→t.T b N*t.T i j=t.T i N*t.T b j→t.B b≤t.B i)
structure pC (p:ov) (m n:Nat) (a:Nat→Nat→Int) (b:Nat→Int):Prop where
 rows:p.ln=m
 gw:p.ks=n
 oi:p.c0.length=m*n
 EX : ∀i,i<m→ ∀j,j<n→p.c0[i*n+j]? = some (a i j)
 zl:p.c1.length=m
 KD : ∀i,i<m→p.c1[i]? = some (b i)
 hm:m≤20
 a1:n≤40
 zk : ∀i,i<m→ ∀j,j<n→ -100≤a i j∧a i j≤100
 Cu : ∀i,i<m→ -100≤b i∧b i≤100
theorem A2 {p:ov}{m n:Nat}{a:Nat→Nat→Int}{b:Nat→Int}(h:pC p m n a b){i:Nat}(ag:i<m)(j:Nat): -100≤oj m n a b i j∧oj m n a b i j≤100:=by
 have aJ:=h.Cu i ag
 unfold oj ma
 by_cases c:j<n
 ·have bt:=h.zk i ag j c
  rw [if_pos c];split<;>omega
 ·rw [if_neg c]
  split
  ·split<;>omega
  ·split<;>omega
theorem aaw {p:ov}{m n:Nat}{a:Nat→Nat→Int}{b:Nat→Int}(h:pC p m n a b){i:Nat}(ag:i<m)(j:Nat):dw 100 (ej m n a b i j) :=
 ⟨oj m n a b i j,rfl,by have:=A2 h ag j;omega⟩
theorem A3 {K:Nat}{d x y:Rat}(bh:dw K d)(aK:dw K y)(h0:d≠0)(e:d*x=y)(hF:(K:Int)<B 24):fS x:=by
 obtain ⟨z,rfl,cd⟩:=bh
 obtain ⟨w,rfl,hw⟩:=aK
 exact Yb (n:=w) (d:=z) (fun c=>h0 (by rw [c];rfl)) e (by omega) (by omega)
@[irreducible] def eo:Nat:=ly 100 20
theorem EM:ly 100 20=eo:=by unfold eo;rfl
theorem ZM:((21*100*(eo*eo):Nat):Int)<B 24:=by decide +kernel
theorem qT:0<eo:=by decide +kernel
structure pT (m N:Nat) (A:Nat→Nat→Rat) (t:cm):Prop where
 ok:gf m m N A t
 mh:t.lq m N
 wz:t.D m A≠0
structure Small (m N:Nat) (A:Nat→Nat→Rat):Prop where
 hm:m≤20
 nK : ∀c,c<m→ ∀j,j≤N→dw 100 (A c j)
theorem pT.acx {m N:Nat}{A:Nat→Nat→Rat}(s:Small m N A){t:cm}(h:pT m N A t):dw eo (t.D m A):=by
 refine dw.mono (yn fun i ag c aP=>s.nK c aP _ (Nat.le_of_lt (h.ok.ki i ag))) (EM▸An (by omega) s.hm)
theorem pT.acy {m N:Nat}{A:Nat→Nat→Rat}(s:Small m N A){t:cm}(h:pT m N A t){i j:Nat}(ag:i<m)(aA:j≤N):dw eo (t.T i j*t.D m A):=by
 rw [← h.ok.wq ag aA]
 refine dw.mono (yn fun k aX c aP=> ?_) (EM▸An (by omega) s.hm)
 simp only [gh]
 split
 ·exact s.nK c aP j aA
 ·exact s.nK c aP _ (Nat.le_of_lt (h.ok.ki k aX))
theorem vA {k:Nat}(h:k≤21*100*(eo*eo)):((k:Nat):Int)<B 24:=by have:=ZM;omega
theorem KE:eo≤21*100*(eo*eo):=by
 have o:eo*1≤eo*eo:=Nat.mul_le_mul_left _ qT
 omega
theorem EY:21*100*eo≤21*100*(eo*eo):=by
 have o:eo*1≤eo*eo:=Nat.mul_le_mul_left _ qT
 omega
theorem pT.hb {m N K:Nat}{A obj:Nat→Nat→Rat}{bS:Nat→Prop}{t:cm}(h:pT m N A t){r k:Nat}(b:pP m N K obj bS t r k):pT m N A (t.c4 r k) :=
 ⟨b.ok h.ok,b.Bo h.mh,by
  rw [h.ok.A0 b.ap b.bW]
  have o:=b.pos
  have R:=h.wz
  intro c
  have:t.T r k≠0:=by grind
  grind⟩
theorem abd {g:Nat→Rat}:hO 1 g↔0<g 0:=by
 constructor
 ·rintro ⟨l,o,R,-⟩;rw [show l=0 by omega] at R;exact R
 ·intro h;exact ⟨0,by omega,h,fun gl aL=>by omega⟩
theorem OG {p:ov}{m n:Nat}{a:Nat→Nat→Int}{b:Nat→Int}(h:pC p m n a b):Small m (n+m) (ej m n a b):=⟨h.hm,fun c aP j _=>aaw h aP j⟩
def bR (x:Rat):bg:=hk x.num
@[irreducible] def ky:Nat:=1000000000 ^ 40
theorem Q6:((ky:Nat):Int)+((ky:Nat):Int)<B 50:=by decide +kernel
theorem J5 {K:Nat}{x:Rat}(h:dw K x):((x.num:Int):Rat)=x∧x.num.natAbs≤K:=by
 obtain ⟨z,rfl,cd⟩:=h
 rw [Rat.num_intCast];exact ⟨rfl,cd⟩
theorem pf (z:Int):bR (z:Rat)=hk z:=by unfold bR;rw [Rat.num_intCast]
theorem yq {x:Rat}(h:dw ky x):(L x.num.natAbs).length≤50:=by
 have:=Q6
 have o:=(J5 h).2
 exact (jo (by omega)).2 (by omega)
theorem x4 {x y:Rat}(aa:dw ky x)(aK:dw ky y):o0 (bR x) (bR y)=some (bR (x*y)):=by
 have o:=yq aa
 have R:=yq aK
 obtain ⟨a,rfl,-⟩:=aa;obtain ⟨b,rfl,-⟩:=aK
 rw [Rat.num_intCast] at o R
 rw [pf,pf,← Rat.intCast_mul,pf]
 exact OB (by omega) (by omega)
theorem Pb {x y:Rat}(aa:dw ky x)(aK:dw ky y):sE (bR x) (bR y)=some (bR (x-y)):=by
 have f8:=Q6
 obtain ⟨a,rfl,bt⟩:=aa;obtain ⟨b,rfl,aJ⟩:=aK
 rw [pf,pf,← Rat.intCast_sub,pf]
 exact OE (by omega) (by omega)
theorem tU {x:Rat}(aa:dw ky x):o1 (bR x)=some (mf x):=by
 obtain ⟨a,rfl,bt⟩:=aa
 rw [pf]
 unfold o1 mf
 simp only [gR]
 have e:(((L a.natAbs).length:Nat):Int)=0↔a=0:=by rw [KC (by omega)];omega
 show (if (((L a.natAbs).length:Int) == 0)=true then some 0 else if decide (a<0)=true then some (-1) else some 1)=_
 by_cases h0:a=0
 ·rw [if_pos (by rw [beq_iff_eq,e];exact h0),if_pos (by rw [h0];rfl)]
 ·have acz:(a:Rat)≠0:=fun c=>h0 (Rat.intCast_inj.1 (by rw [c];rfl))
  rw [if_neg (by rw [beq_iff_eq,e];exact h0),if_neg acz]
  have aC:(a:Rat)<0↔a<0:=by
   rw [show (0:Rat)=((0:Int):Rat) from rfl,Rat.intCast_lt_intCast]
  by_cases o:a<0
  ·rw [if_pos (decide_eq_true o),if_pos (aC.2 o)]
  ·rw [if_neg (by simpa using o),if_neg (fun c=>o (aC.1 c))]
theorem WG {x y:Rat}(aa:dw ky x)(aK:dw ky y):sD (bR x) (bR y)=some (if x<y then -1 else if y<x then 1 else 0):=by
 have o:=yq aa
 have R:=yq aK
 obtain ⟨a,rfl,-⟩:=aa;obtain ⟨b,rfl,-⟩:=aK
 rw [Rat.num_intCast] at o R
 rw [pf,pf,UR (by omega) (by omega)]
 unfold m1
 simp only [Rat.intCast_lt_intCast]
theorem NH {x:Rat}(aa:dw ky x):p8 (bR x)=some (bR (-x)):=by
 obtain ⟨a,rfl,-⟩:=aa
 rw [pf,← Rat.intCast_neg,pf]
 unfold p8
 show (lI (!(decide (a<0))) (L a.natAbs)).bind _=_
 rw [qM (by omega),Qj];rfl
theorem sN {n:Int}(h:mZ n):oq n=some (bR (n:Rat)):=by rw [pf];exact N9 h
theorem WH {x y:Rat}(aa:dw ky x)(aK:dw ky y)(BN:dw ky (x*y))(h0:y≠0):tI (bR (x*y)) (bR y)=some (bR x):=by
 have o:=yq BN
 have R:=yq aK
 obtain ⟨a,rfl,-⟩:=aa;obtain ⟨b,rfl,-⟩:=aK
 rw [← Rat.intCast_mul] at o ⊢
 rw [Rat.num_intCast] at o R
 have aJ:b≠0:=fun c=>h0 (by rw [c];rfl)
 rw [pf,pf,pf]
 unfold tI
 show (sO (L (a*b).natAbs) (L b.natAbs)).bind _=_
 rw [En (jX _) (jX _) (fun c=>by have:=ub.1 c;omega) (by omega) (by omega),fs (by omega),fs (by omega)]
 have aw:((a*b).natAbs:Int) / (b.natAbs:Int)=(a.natAbs:Int):=by
  rw [Int.natAbs_mul,Int.natCast_mul];exact Int.mul_ediv_cancel _ (by omega)
 simp only [Option.bind_some]
 rw [aw]
 show (lI (!(decide (a*b<0) == decide (b<0))) (L a.natAbs)).bind _=_
 rw [qM (by omega)]
 simp only [Option.bind_some]
 congr 2
 rcases Int.lt_or_gt_of_ne aJ with c|c
 ·by_cases bt:a<0
  ·have : ¬a*b<0:=by have:=Int.mul_pos_of_neg_of_neg bt c;omega
   rw [decide_eq_false this,decide_eq_true c];simp only [e4,show (!(false == true))=true from rfl,if_true];omega
  ·by_cases cd:a=0
   ·subst cd;simp [e4]
   ·have:a*b<0:=Int.mul_neg_of_pos_of_neg (by omega) c
    rw [decide_eq_true this,decide_eq_true c];simp only [e4,BEq.rfl,Bool.not_true,Bool.false_eq_true,if_false];omega
 ·by_cases bt:a<0
  ·have:a*b<0:=Int.mul_neg_of_neg_of_pos bt c
   rw [decide_eq_true this,decide_eq_false (by omega)];simp only [e4,show (!(true == false))=true from rfl,if_true];omega
  ·have : ¬a*b<0:=by have:=Int.mul_nonneg (show 0≤a by omega) (show 0≤b by omega);omega
   rw [decide_eq_false this,decide_eq_false (by omega)];simp only [e4,BEq.rfl,Bool.not_true,Bool.false_eq_true,if_false];omega
def g9 (N:Nat)(w:Rat)(t:cm)(i:Nat):List bg:=bf (N+1) fun j=>bR (t.T i j*w)
structure oK (m N:Nat) (w:Rat) (t:cm):Prop where
 pos:0<w
 hw:dw (21*100*eo) w
 ht : ∀i,i<m→ ∀j,j≤N→dw eo (t.T i j*w)
 f8 : ∀i,i<m→t.B i<N
theorem A4:21*100*eo*(21*100*eo)+21*100*eo*(21*100*eo)≤ky:=by decide +kernel
theorem abe {q i:Nat}(a6:0<q)(ag:i≤20):21*100*q*100+i*(q*100)≤21*100*q*(21*100*q):=by
 have o:i*(q*100)≤20*(q*100):=Nat.mul_le_mul_right _ ag
 have R:21*100*q*2100≤21*100*q*(21*100*q):=Nat.mul_le_mul_left _ (by omega)
 generalize 21*100*q*(21*100*q)=z at *
 omega
theorem abf {i:Nat}(ag:i≤20):21*100*eo*100+i*(eo*100)≤ky :=
 Nat.le_trans (abe qT ag) (Nat.le_trans (Nat.le_add_right _ _) A4)
theorem tc {K:Nat}(h:K≤21*100*eo):K≤ky:=by
 have acA:=A4
 have o:21*100*eo*1≤21*100*eo*(21*100*eo):=Nat.mul_le_mul_left _ (by have:=qT;generalize eo=q at *;omega)
 rw [Nat.mul_one] at o
 exact Nat.le_trans h (Nat.le_trans o (Nat.le_trans (Nat.le_add_right _ _) acA))
theorem PK {m N:Nat}(hm:m≤20)(fC:N<1000){w:Rat}{t:cm}(h:oK m N w t)(I:Nat→Int)(ak:∀j,j<N→ -100≤I j∧I j≤100)(i2:bg)(yL:i2=bR w)(gw:Int)(free:List Bool){k:Nat}(aX:k<N):
 xu ⟨bf m (g9 N w t),i2,eA m t,gw,free⟩ (bf N I) (k:Int)=some (mf (t.dz m (fun j=>(I j:Rat)) k)):=by
 subst yL
 have afi:=qT
 have small : ∀ {x:Rat} {K:Nat},dw K x→K≤21*100*eo→dw ky x:=fun o R=>o.mono (tc R)
 have aj : ∀j,j<N→dw 100 ((I j:Int):Rat):=fun j aA=>⟨I j,rfl,by have:=ak j aA;omega⟩
 have RX : ∀j,j<N→mZ (I j):=fun j aA=>by have:=ak j aA;rw [mq];omega
 let S:Nat→Rat:=fun i=>w*(I k:Rat)-bZ i (fun i=>(t.T i k*w)*(I (t.B i):Rat))
 have sx : ∀i,i≤m→dw ky (S i):=fun i ag=>by
  have aw:dw (21*100*eo*100) (w*(I k:Rat)):=h.hw.mul (aj k aX)
  have aC:dw (i*(eo*100)) (bZ i (fun i=>(t.T i k*w)*(I (t.B i):Rat))):=dw.sum fun fx j1=>(h.ht fx (by omega) k (by omega)).mul (aj _ (h.f8 fx (by omega)))
  exact (aw.sub aC).mono (abf (by omega))
 unfold xu
 refine bK (by rw [dp];omega) (aB (x:=I k) (by rw [Int.toNat_natCast];exact hq aX) (aB (sN (RX k aX)) (aB (x4 (small h.hw (Nat.le_refl _)) (small (aj k aX) (by omega))) ?_)))
 obtain ⟨s,e,-⟩:=jz (f:=fun q:Int×Bool×List Int=>w1 (bf m (g9 N w t)) (bR w).du (bR w).cY (eA m t) gw free (bf N I) (k:Int) ((m:Nat):Int) q.1 q.2.1 q.2.2)
  (fun (i:Nat) (_:Unit)=>((i:Int),(bR (S i)).du,(bR (S i)).cY)) m (fun _ _=>True) (fun _=>((bR (S m)).du,(bR (S m)).cY))
  (fun i ag _ _=>by
    refine ⟨(),?_,trivial⟩
    have Fy:=h.f8 i ag
    have B8:S (i+1)=S i-(t.T i k*w)*(I (t.B i):Rat):=by simp only [S,bZ];grind
    unfold w1
    refine eh (by simp only;omega) (bK (by unfold eA;rw [dp];simp only;omega) (aB (x:=((t.B i:Nat):Int)) (by simp only;rw [Int.toNat_natCast];exact hq ag) (bK (by rw [dp];omega) (aB (x:=I (t.B i)) (by rw [Int.toNat_natCast];exact hq Fy) (Ck (fun c=> ?_) (fun c=> ?_))))))
    ·refine bK (by rw [dp];simp only;omega) (aB (x:=g9 N w t i) (by simp only;rw [Int.toNat_natCast];exact hq ag) (bK (by unfold g9;rw [dp];omega) (aB (x:=bR (t.T i k*w)) (by rw [Int.toNat_natCast];exact hq (by omega)) (aB (tU (small (h.ht i ag k (by omega)) (by omega))) (Ck (fun cU=> ?_) (fun cU=> ?_))))))
     ·refine aB (sN (RX _ Fy)) (aB (x4 (small (h.ht i ag k (by omega)) (by omega)) (small (aj _ Fy) (by omega))) (aB (Pb (sx i (by omega)) (by
       exact small ((h.ht i ag k (by omega)).mul (aj _ Fy)) (by omega))) ?_))
      simp only;rw [gv (by omega),B8]
     ·have cd:t.T i k*w=0:=As.1 (by simpa using cU)
      simp only;rw [gv (by omega),B8,cd,show S i-0*(I (t.B i):Rat)=S i by grind]
    ·have cd:I (t.B i)=0:=by simpa using c
     simp only;rw [gv (by omega),B8,cd,show S i-t.T i k*w*((0:Int):Rat)=S i by rw [show ((0:Int):Rat)=0 from rfl];grind])
  (fun _ _=>by unfold w1;exact eK (by simp) rfl) () trivial
 have e0:S 0=w*(I k:Rat):=by simp only [S,bZ];grind
 rw [e0] at e
 refine aB (x:=((bR (S m)).du,(bR (S m)).cY)) (by unfold Hh;rw [gR,show (eA m t).length=m from dp ..];exact e) (aB (x:=mf (S m)) (tU (sx m (Nat.le_refl _))) ?_)
 congr 1
 have aC:S m=w*t.dz m (fun j=>(I j:Rat)) k:=by
  simp only [S]
  unfold cm.dz
  rw [fi (f:=fun i=>t.T i k*w*(I (t.B i):Rat)) (g:=fun i=>w*((I (t.B i):Rat)*t.T i k)) (fun i _=>by grind),ic];grind
 rw [aC]
 have ah:=h.pos
 unfold mf
 by_cases c:t.dz m (fun j=>(I j:Rat)) k=0
 ·rw [if_pos c,if_pos (by rw [c];grind)]
 ·rw [if_neg c,if_neg (by grind)]
  by_cases cU:t.dz m (fun j=>(I j:Rat)) k<0
  ·rw [if_pos cU,if_pos]
   have:=Rat.mul_pos ah (show 0 < -(t.dz m (fun j=>(I j:Rat)) k) by grind)
   grind
  ·rw [if_neg cU,if_neg]
   have:=Rat.mul_pos ah (show 0<t.dz m (fun j=>(I j:Rat)) k by grind)
   grind
theorem Pc {x y z v w:Rat}(hw:0<w)(aK:0<y)(a2:0<v):(x*w)*(v*w)<(z*w)*(y*w)↔x / y<z / v:=by
 have aw:(x*w)*(v*w)=(x / y)*((y*v)*(w*w)):=by grind
 have aC:(z*w)*(y*w)=(z / v)*((y*v)*(w*w)):=by grind
 have ah:0<(y*v)*(w*w):=Rat.mul_pos (Rat.mul_pos aK a2) (Rat.mul_pos hw hw)
 rw [aw,aC]
 constructor
 ·intro h
  apply Classical.byContradiction
  intro c
  have:z / v≤x / y:=by grind
  have:=Rat.mul_le_mul_of_nonneg_right this (Rat.le_of_lt ah)
  grind
 ·intro h;exact Rat.mul_lt_mul_of_pos_right h ah
theorem yg {x w:Rat}(hw:0<w):mf (x*w)=mf x:=by
 unfold mf
 by_cases c:x=0
 ·rw [if_pos c,if_pos (by rw [c];grind)]
 ·rw [if_neg c,if_neg (by grind)]
  by_cases cU:x<0
  ·rw [if_pos cU,if_pos]
   have:=Rat.mul_pos (show 0 < -x by grind) hw
   grind
  ·rw [if_neg cU,if_neg]
   have:=Rat.mul_pos (show 0<x by grind) hw
   grind
theorem WI {m N:Nat}(hm:m≤20)(fC:N<1000){w:Rat}{t:cm}(h:oK m N w t)(i2:bg)(free:List Bool){k:Nat}(aX:k≤N):
 ∃r,zB ⟨bf m (g9 N w t),i2,eA m t,(N:Int),free⟩ (k:Int)=some r∧PJ m N t k r:=by
 have hw:=h.pos
 have om : ∀i,i<m→ ∀j,j≤N→dw ky (t.T i j*w):=fun i ag j aA=>(h.ht i ag j aA).mono (tc (by have:=qT;generalize eo=q at *;omega))
 have Cv : ∀i,i<m→ ∀j,j≤N→ ∀fx,fx<m→ ∀h2,h2≤N→dw ky (t.T i j*w*(t.T fx h2*w)):=fun i ag j aA fx j1 h2 sl=>((h.ht i ag j aA).mul (h.ht fx j1 h2 sl)).mono (by
  refine Nat.le_trans ?_ (Nat.le_trans (Nat.le_add_right _ _) A4)
  exact Nat.mul_le_mul (by generalize eo=q;omega) (by generalize eo=q;omega))
 unfold zB
 obtain ⟨r,e,ap⟩:=sP (f:=fun q:Int×Int=>wR (bf m (g9 N w t)) i2.du i2.cY (eA m t) (N:Int) free (k:Int) ((m:Nat):Int) q.1 q.2)
  (fun (i:Nat) (s:Int)=>(s,(i:Int))) m
  (fun n s=>(s = -1∧ ∀i,i<n→ ¬0<t.T i k)∨ ∃b:Nat,s=b∧b<n∧0<t.T b k∧ ∀i,i<n→0<t.T i k→t.T b N / t.T b k<t.T i N / t.T i k∨(t.T b N / t.T b k=t.T i N / t.T i k∧t.B b≤t.B i))
  (fun r=>PJ m N t k r)
  (fun n a1 s dv=>by
    left
    unfold wR
    have g1:0≤((n:Nat):Int)∧((n:Nat):Int)<((bf m (g9 N w t)).length:Nat):=by rw [dp];omega
    have g2:(bf m (g9 N w t))[((n:Nat):Int).toNat]? = some (g9 N w t n):=by rw [Int.toNat_natCast];exact hq a1
    have g3 : ∀b,0≤((k:Nat):Int)∧((k:Nat):Int)<((g9 N w t b).length:Nat):=fun b=>by unfold g9;rw [dp];omega
    have g4 : ∀b,(g9 N w t b)[((k:Nat):Int).toNat]? = some (bR (t.T b k*w)):=fun b=>by rw [Int.toNat_natCast];exact hq (by omega)
    have g5 : ∀b,0≤((N:Nat):Int)∧((N:Nat):Int)<((g9 N w t b).length:Nat):=fun b=>by unfold g9;rw [dp];omega
    have g6 : ∀b,(g9 N w t b)[((N:Nat):Int).toNat]? = some (bR (t.T b N*w)):=fun b=>by rw [Int.toNat_natCast];exact hq (by omega)
    have jy:U ((n:Int)+1)=((n+1:Nat):Int):=gv (by omega)
    have oO:o1 (bR (t.T n k*w))=some (mf (t.T n k)):=by rw [tU (om n a1 k aX),yg hw]
    by_cases ah:0<t.T n k
    ·have bW : ¬mf (t.T n k)≤0:=by have:=tT.2 ah;omega
     rcases dv with ⟨o,R⟩|⟨b,o,aJ,mD,ad⟩
     ·refine ⟨(n:Int),eh (by simp only;omega) (bK g1 (aB g2 (bK (g3 n) (aB (g4 n) (aB oO (eK bW (eh (by simp only;omega) ?_))))))),.inr ⟨n,rfl,by omega,ah,fun i ag nF=> ?_⟩⟩
      ·simp only;rw [jy]
      ·by_cases c:i=n
       ·subst c;exact .inr ⟨rfl,Nat.le_refl _⟩
       ·exact (R i (by omega) nF).elim
     ·subst o
      have acB:0≤((b:Nat):Int)∧((b:Nat):Int)<((bf m (g9 N w t)).length:Nat):=by rw [dp];omega
      have acC:(bf m (g9 N w t))[((b:Nat):Int).toNat]? = some (g9 N w t b):=by rw [Int.toNat_natCast];exact hq (by omega)
      have gc:sD (bR (t.T n N*w*(t.T b k*w))) (bR (t.T b N*w*(t.T n k*w)))=some (if t.T n N / t.T n k<t.T b N / t.T b k then -1 else if t.T b N / t.T b k<t.T n N / t.T n k then 1 else 0):=by
       rw [WG (Cv n a1 N (by omega) b (by omega) k aX) (Cv b (by omega) N (by omega) n a1 k aX)]
       have an:=Pc (x:=t.T n N) (y:=t.T n k) (z:=t.T b N) (v:=t.T b k) hw ah mD
       have cb:=Pc (x:=t.T b N) (y:=t.T b k) (z:=t.T n N) (v:=t.T n k) hw mD ah
       by_cases bE:t.T n N / t.T n k<t.T b N / t.T b k
       ·rw [if_pos bE,if_pos (an.2 bE)]
       ·rw [if_neg bE,if_neg (fun c=>bE (an.1 c))]
        by_cases cU:t.T b N / t.T b k<t.T n N / t.T n k
        ·rw [if_pos cU,if_pos (cb.2 cU)]
        ·rw [if_neg cU,if_neg (fun c=>cU (cb.1 c))]
      have lead : ∀ {x r:Option ((Int×Int)⊕Int)} {f:Int→Option ((Int×Int)⊕Int)} {q:Int},sD (bR (t.T n N*w*(t.T b k*w))) (bR (t.T b N*w*(t.T n k*w)))=some q→f q=r →
       (if 0≤((N:Nat):Int)∧((N:Nat):Int)<((g9 N w t n).length:Nat) then
         (g9 N w t n)[((N:Nat):Int).toNat]? >>= fun py =>
         if 0≤((b:Nat):Int)∧((b:Nat):Int)<((bf m (g9 N w t)).length:Nat) then
         (bf m (g9 N w t))[((b:Nat):Int).toNat]? >>= fun lA =>
         if 0≤((k:Nat):Int)∧((k:Nat):Int)<(lA.length:Nat) then
         lA[((k:Nat):Int).toNat]? >>= fun rP =>
         o0 py rP >>= fun fW =>
         if 0≤((N:Nat):Int)∧((N:Nat):Int)<(lA.length:Nat) then
         lA[((N:Nat):Int).toNat]? >>= fun tp =>
         o0 tp (bR (t.T n k*w)) >>= fun lz =>
         sD fW lz >>= f
         else none else none else none else none)=r:=fun a6 b9 =>
       bK (g5 n) (aB (g6 n) (bK acB (aB acC (bK (g3 b) (aB (g4 b) (aB (x4 (om n a1 N (by omega)) (om b (by omega) k aX)) (bK (g5 b) (aB (g6 b) (aB (x4 (om b (by omega) N (by omega)) (om n a1 k aX)) (aB a6 b9))))))))))
      by_cases bE:t.T n N / t.T n k<t.T b N / t.T b k
      ·rw [if_pos bE] at gc
       refine ⟨(n:Int),eh (by simp only;omega) (bK g1 (aB g2 (bK (g3 n) (aB (g4 n) (aB oO (eK bW (eK (by simp only;omega) (lead (x:=none) gc (eh (by omega) ?_))))))))),.inr ⟨n,rfl,by omega,ah,fun i ag nF=> ?_⟩⟩
       ·simp only;rw [jy]
       ·by_cases c:i=n
        ·subst c;exact .inr ⟨rfl,Nat.le_refl _⟩
        ·rcases ad i (by omega) nF with h|⟨h,-⟩
         ·left;grind
         ·left;rw [← h];exact bE
      ·rw [if_neg bE] at gc
       by_cases cU:t.T b N / t.T b k<t.T n N / t.T n k
       ·rw [if_pos cU] at gc
        refine ⟨(b:Int),eh (by simp only;omega) (bK g1 (aB g2 (bK (g3 n) (aB (g4 n) (aB oO (eK bW (eK (by simp only;omega) (lead (x:=none) gc (eK (by omega) (hp (by decide) ?_)))))))))),.inr ⟨b,rfl,by omega,mD,fun i ag nF=> ?_⟩⟩
        ·simp only;rw [jy]
        ·by_cases c:i=n
         ·subst c;exact .inl cU
         ·exact ad i (by omega) nF
       ·rw [if_neg cU] at gc
        have acD:t.T b N / t.T b k=t.T n N / t.T n k:=by grind
        have RY:0≤((n:Nat):Int)∧((n:Nat):Int)<((eA m t).length:Nat):=by unfold eA;rw [dp];omega
        have RZ:(eA m t)[((n:Nat):Int).toNat]? = some ((t.B n:Nat):Int):=by rw [Int.toNat_natCast];exact hq a1
        have R0:0≤((b:Nat):Int)∧((b:Nat):Int)<((eA m t).length:Nat):=by unfold eA;rw [dp];omega
        have R1:(eA m t)[((b:Nat):Int).toNat]? = some ((t.B b:Nat):Int):=by rw [Int.toNat_natCast];exact hq (by omega)
        by_cases nI:t.B n<t.B b
        ·refine ⟨(n:Int),eh (by simp only;omega) (bK g1 (aB g2 (bK (g3 n) (aB (g4 n) (aB oO (eK bW (eK (by simp only;omega) (lead (x:=none) gc (eK (by omega) (eX rfl (bK RY (aB RZ (bK R0 (aB R1 (eh (by omega) ?_))))))))))))))),.inr ⟨n,rfl,by omega,ah,fun i ag nF=> ?_⟩⟩
         ·simp only;rw [jy]
         ·by_cases c:i=n
          ·subst c;exact .inr ⟨rfl,Nat.le_refl _⟩
          ·rcases ad i (by omega) nF with h|⟨h,cv⟩
           ·left;grind
           ·right;exact ⟨by grind,by omega⟩
        ·refine ⟨(b:Int),eh (by simp only;omega) (bK g1 (aB g2 (bK (g3 n) (aB (g4 n) (aB oO (eK bW (eK (by simp only;omega) (lead (x:=none) gc (eK (by omega) (eX rfl (bK RY (aB RZ (bK R0 (aB R1 (eK (by omega) ?_))))))))))))))),.inr ⟨b,rfl,by omega,mD,fun i ag nF=> ?_⟩⟩
         ·simp only;rw [jy]
         ·by_cases c:i=n
          ·subst c;exact .inr ⟨acD,by omega⟩
          ·exact ad i (by omega) nF
    ·have bW:mf (t.T n k)≤0:=by
      have : ¬0<mf (t.T n k):=fun c=>ah (tT.1 c)
      omega
     refine ⟨s,eh (by simp only;omega) (bK g1 (aB g2 (bK (g3 n) (aB (g4 n) (aB oO (eh bW ?_)))))),?_⟩
     ·simp only;rw [jy]
     ·rcases dv with ⟨o,R⟩|⟨b,o,aJ,mD,ad⟩
      ·exact .inl ⟨o,fun i ag=>if c:i=n then c▸ah else R i (by omega)⟩
      ·exact .inr ⟨b,o,by omega,mD,fun i ag nF=>if c:i=n then (ah (c▸nF)).elim else ad i (by omega) nF⟩)
  (fun s dv=>by
    refine ⟨s,by unfold wR;exact eK (by simp only;omega) rfl,?_⟩
    rcases dv with ⟨o,R⟩|⟨b,o,aJ,mD,ad⟩
    ·exact .inl ⟨o,R⟩
    ·refine .inr ⟨b,o,aJ,mD,fun i ag nF=> ?_,fun i ag nF he=> ?_⟩
     ·rw [← (Pa mD nF).1]
      rcases ad i ag nF with h|⟨h,-⟩
      ·exact Rat.le_of_lt h
      ·rw [h];exact Rat.le_refl
     ·rw [← (Pa mD nF).2] at he
      rcases ad i ag nF with h|⟨-,h⟩
      ·rw [he] at h;grind
      ·exact h) (-1:Int) (.inl ⟨rfl,fun i ag=>by omega⟩)
 refine ⟨r,aB ?_ rfl,ap⟩
 unfold GY
 rw [h6,dp]
 exact e
def gA (m N:Nat)(h:Nat→Nat):List b6:=bf m fun i=>some (h i,N+1)
structure kT (m N M:Nat) (h:Nat→Nat) (w:Rat) (t:cm) (d9:List (List bg)):Prop where
 len:d9.length=M
 row : ∀i,i<m→d9[h i]? = some (g9 N w t i)
theorem DB {α:Type}{l:List α}{i:Nat}{x y:α}(h:l[i]? = some x):(l.set i y)[i]? = some y:=by
 rw [List.getElem?_set,if_pos rfl,if_pos (List.getElem?_eq_some_iff.1 h).1]
theorem Jh {α:Type}{l:List α}{i k:Nat}{y:α}(h:i≠k):(l.set i y)[k]? = l[k]? := by
 rw [List.getElem?_set,if_neg h]
theorem set_set {α:Type}(l:List α)(i:Nat)(x y:α):(l.set i x).set i y=l.set i y:=by
 rw [List.set_set]
structure td (m N:Nat) (w:Rat) (t:cm) (r k:Nat):Prop where
 ap:r<m
 aX:k<N
 ah:t.T r k≠0
 ze : ∀i,i<m→ ∀j,j≤N→dw eo ((t.c4 r k).T i j*(t.T r k*w))
theorem Yc {m N:Nat}(fC:N<1000){h:Nat→Nat}{w:Rat}{t:cm}{r k:Nat}(f:oK m N w t)(g:td m N w t r k){i:Nat}(ag:i<m)(acE:i≠r)(cu:h i≠h r){d9:List (List bg)}(o:d9[h i]? = some (g9 N w t i))(R:d9[h r]? = some (g9 N w t r))
 (gp fy:Int) (aO:Int) (aW:List b6) (bk:List Int) (cc:List Bool) (v1 v2:Int) :
 CM v1 v2 (some (h r,N+1)) (some (h i,N+1)) gp fy (((N+1:Nat):Nat):Int) (bR w).du (bR w).cY aO aW bk cc (bR (t.T r k*w)).du (bR (t.T r k*w)).cY (bR (t.T i k*w)).du (bR (t.T i k*w)).cY 0 d9=some (d9.set (h i) (g9 N (t.T r k*w) (t.c4 r k) i)):=by
 have hw:=f.pos
 have om : ∀i,i<m→ ∀j,j≤N→dw ky (t.T i j*w):=fun i ag j aA=>(f.ht i ag j aA).mono (tc (by have:=qT;generalize eo=q at *;omega))
 have adh:dw ky w:=f.hw.mono (tc (Nat.le_refl _))
 have adi : ∀i,i<m→ ∀j,j≤N→dw ky ((t.c4 r k).T i j*(t.T r k*w)):=fun i ag j aA=>(g.ze i ag j aA).mono (tc (by have:=qT;generalize eo=q at *;omega))
 have Cv : ∀i,i<m→ ∀j,j≤N→ ∀fx,fx<m→ ∀h2,h2≤N→dw ky (t.T i j*w*(t.T fx h2*w)):=fun i ag j aA fx j1 h2 sl=>((f.ht i ag j aA).mul (f.ht fx j1 h2 sl)).mono (by
  refine Nat.le_trans ?_ (Nat.le_trans (Nat.le_add_right _ _) A4)
  exact Nat.mul_le_mul (by generalize eo=q;omega) (by generalize eo=q;omega))
 have acF : ∀j,j≤N→dw ky ((t.c4 r k).T i j*(t.T r k*w)*w):=fun j aA=>((g.ze i ag j aA).mul f.hw).mono (by
  refine Nat.le_trans ?_ (Nat.le_trans (Nat.le_add_right _ _) A4)
  exact Nat.mul_le_mul (by generalize eo=q;omega) (Nat.le_refl _))
 have ap:=g.ap
 have aX:=g.aX
 have ah:=g.ah
 have L6 : ∀j,(t.c4 r k).T i j=t.T i j-t.T i k*(t.T r j / t.T r k):=fun j=>by simp [cm.c4,acE]
 have KP:w≠0:=by grind
 unfold CM
 obtain ⟨s,e,-⟩:=jz (f:=fun q:Int×List (List bg)=>wS v1 v2 (some (h r,N+1)) (some (h i,N+1)) gp fy (((N+1:Nat):Nat):Int) (bR w).du (bR w).cY aO aW bk cc (bR (t.T r k*w)).du (bR (t.T r k*w)).cY (bR (t.T i k*w)).du (bR (t.T i k*w)).cY q.1 q.2)
  (fun (c:Nat) (_:Unit)=>((c:Int),d9.set (h i) (bf (N+1) fun j=>if j<c then bR ((t.c4 r k).T i j*(t.T r k*w)) else bR (t.T i j*w)))) (N+1) (fun _ _=>True)
  (fun _=>d9.set (h i) (g9 N (t.T r k*w) (t.c4 r k) i))
  (fun c aP _ _=>by
    refine ⟨(),?_,trivial⟩
    have fin:(some (Sum.inl (U ((c:Int)+1),(d9.set (h i) (bf (N+1) fun j=>if j<c then bR ((t.c4 r k).T i j*(t.T r k*w)) else bR (t.T i j*w))).set (h i) ((bf (N+1) fun j=>if j<c then bR ((t.c4 r k).T i j*(t.T r k*w)) else bR (t.T i j*w)).set (0+((c:Int)).toNat) (bR ((t.c4 r k).T i c*(t.T r k*w)))))):Option ((Int×List (List bg))⊕List (List bg))) =
     some (Sum.inl (((c+1:Nat):Int),d9.set (h i) (bf (N+1) fun j=>if j<c+1 then bR ((t.c4 r k).T i j*(t.T r k*w)) else bR (t.T i j*w)))):=by
     rw [gv (by omega),Int.toNat_natCast,Nat.zero_add,set_set,ll]
     congr 4
     refine fr fun j _=> ?_
     by_cases bE:j=c
     ·subst bE;rw [if_pos rfl,if_pos (by omega)]
     ·rw [if_neg bE]
      by_cases cU:j<c
      ·rw [if_pos cU,if_pos (by omega)]
      ·rw [if_neg cU,if_neg (by omega)]
    have ib:tI (bR ((t.c4 r k).T i c*(t.T r k*w)*w)) (bR w)=some (bR ((t.c4 r k).T i c*(t.T r k*w))):=WH (adi i ag c (by omega)) adh (acF c (by omega)) KP
    unfold wS
    refine eh (by simp only;omega) (aB (x:=(h i,N+1)) rfl (aB (x:=bf (N+1) fun j=>if j<c then bR ((t.c4 r k).T i j*(t.T r k*w)) else bR (t.T i j*w)) (by simp only;exact DB o) (bK (by simp only;omega) (aB (x:=bR (t.T i c*w)) (by simp only;rw [Int.toNat_natCast,j5 aP,if_neg (by omega)]) ?_))))
    refine aB (x4 (om i ag c (by omega)) (om r ap k (by omega))) (aB (tU (om i ag k (by omega))) (Ck (fun d=> ?_) (fun d=> ?_)))
    ·refine aB (x:=(h r,N+1)) rfl (aB (x:=g9 N w t r) (by simp only;rw [Jh cu];exact R) (bK (by simp only;omega) (aB (x:=bR (t.T r c*w)) (by simp only;rw [Int.toNat_natCast];exact j5 aP) (aB (tU (om r ap c (by omega))) (Ck (fun pF=> ?_) (fun pF=> ?_))))))
     ·refine aB (x4 (om i ag k (by omega)) (om r ap c (by omega))) (aB (Pb (Cv i ag c (by omega) r ap k (by omega)) (Cv i ag k (by omega) r ap c (by omega))) (aB ?_ fin))
      rw [show t.T i c*w*(t.T r k*w)-t.T i k*w*(t.T r c*w)=(t.c4 r k).T i c*(t.T r k*w)*w by rw [L6];grind]
      exact ib
     ·have cd:t.T r c=0:=by have:=As.1 (by simpa using pF);grind
      refine aB ?_ fin
      rw [show t.T i c*w*(t.T r k*w)=(t.c4 r k).T i c*(t.T r k*w)*w by rw [L6,cd];grind]
      exact ib
    ·have cd:t.T i k=0:=by have:=As.1 (by simpa using d);grind
     refine aB ?_ fin
     rw [show t.T i c*w*(t.T r k*w)=(t.c4 r k).T i c*(t.T r k*w)*w by rw [L6,cd];grind]
     exact ib)
  (fun _ _=>by
    unfold wS
    refine eK (by simp) ?_
    simp only
    congr 3
    exact fr fun j aA=>by rw [if_pos aA]) () trivial
 have e0:d9.set (h i) (bf (N+1) fun j=>if j<0 then bR ((t.c4 r k).T i j*(t.T r k*w)) else bR (t.T i j*w))=d9:=by
  have:(bf (N+1) fun j=>if j<0 then bR ((t.c4 r k).T i j*(t.T r k*w)) else bR (t.T i j*w))=g9 N w t i:=fr fun j _=>by rw [if_neg (by omega)]
  rw [this]
  apply List.ext_getElem?
  intro c
  rw [List.getElem?_set]
  split
  ·rename_i e;subst e
   rw [if_pos (List.getElem?_eq_some_iff.1 o).1,o]
  ·rfl
 rw [e0] at e
 exact e
theorem Yd {m N:Nat}(fC:N<1000){h:Nat→Nat}{w:Rat}{t:cm}(ht:∀i,i<m→ ∀j,j≤N→dw eo (t.T i j*w)){i:Nat}(ag:i<m){d9:List (List bg)}(o:d9[h i]? = some (g9 N w t i))
 (gp fy:Int) (hQ:Bool) (ko:List Int) (aO:Int) (aW:List b6) (bk:List Int) (cc:List Bool) :
 CO (some (h i,N+1)) gp fy (((N+1:Nat):Nat):Int) hQ ko aO aW bk cc 0 d9=some (d9.set (h i) (g9 N (-w) t i)):=by
 have om : ∀j,j≤N→dw ky (t.T i j*w):=fun j aA=>(ht i ag j aA).mono (tc (by have:=qT;generalize eo=q at *;omega))
 unfold CO
 obtain ⟨s,e,-⟩:=jz (f:=fun q:Int×List (List bg)=>wU (some (h i,N+1)) gp fy (((N+1:Nat):Nat):Int) hQ ko aO aW bk cc q.1 q.2)
  (fun (c:Nat) (_:Unit)=>((c:Int),d9.set (h i) (bf (N+1) fun j=>if j<c then bR (t.T i j * -w) else bR (t.T i j*w)))) (N+1) (fun _ _=>True)
  (fun _=>d9.set (h i) (g9 N (-w) t i))
  (fun c aP _ _=>by
    refine ⟨(),?_,trivial⟩
    unfold wU
    refine eh (by simp only;omega) (aB (x:=(h i,N+1)) rfl (aB (x:=bf (N+1) fun j=>if j<c then bR (t.T i j * -w) else bR (t.T i j*w)) (by simp only;exact DB o) (bK (by simp only;omega) (aB (x:=bR (t.T i c*w)) (by simp only;rw [Int.toNat_natCast,j5 aP,if_neg (by omega)]) (aB (NH (om c (by omega))) ?_)))))
    simp only
    rw [gv (by omega),Int.toNat_natCast,Nat.zero_add,set_set,ll]
    congr 4
    refine fr fun j _=> ?_
    by_cases bE:j=c
    ·subst bE;rw [if_pos rfl,if_pos (by omega)];congr 1;grind
    ·rw [if_neg bE]
     by_cases cU:j<c
     ·rw [if_pos cU,if_pos (by omega)]
     ·rw [if_neg cU,if_neg (by omega)])
  (fun _ _=>by
    unfold wU
    refine eK (by simp) ?_
    simp only
    congr 3
    exact fr fun j aA=>by rw [if_pos aA]) () trivial
 have e0:d9.set (h i) (bf (N+1) fun j=>if j<0 then bR (t.T i j * -w) else bR (t.T i j*w))=d9:=by
  have:(bf (N+1) fun j=>if j<0 then bR (t.T i j * -w) else bR (t.T i j*w))=g9 N w t i:=fr fun j _=>by rw [if_neg (by omega)]
  rw [this]
  apply List.ext_getElem?
  intro c
  rw [List.getElem?_set]
  split
  ·rename_i e;subst e
   rw [if_pos (List.getElem?_eq_some_iff.1 o).1,o]
  ·rfl
 rw [e0] at e
 exact e
def pv (w:Rat)(t:cm)(r k:Nat):Rat:=if 0<t.T r k then t.T r k*w else -(t.T r k*w)
theorem PL {m N M:Nat}(hm:m≤20)(fC:N<1000){h:Nat→Nat}(inj:∀i,i<m→ ∀k,k<m→h i=h k→i=k){w:Rat}{t:cm}{r k:Nat}(f:oK m N w t)(g:td m N w t r k){d9:List (List bg)}(f9:kT m N M h w t d9)(gw:Int)(free:List Bool):
 ∃jG,w9 r k (bR w).du (bR w).cY gw (gA m N h) d9 (eA m t) free=some ((bR (pv w t r k)).du,(bR (pv w t r k)).cY,jG,eA m (t.c4 r k))∧kT m N M h (pv w t r k) (t.c4 r k) jG:=by
 have ap:=g.ap
 have aX:=g.aX
 have ah:=g.ah
 have hw:=f.pos
 have om : ∀i,i<m→ ∀j,j≤N→dw ky (t.T i j*w):=fun i ag j aA=>(f.ht i ag j aA).mono (tc (by have:=qT;generalize eo=q at *;omega))
 have So:g9 N (t.T r k*w) (t.c4 r k) r=g9 N w t r:=fr fun j _=>by
  simp only [cm.c4,if_true];congr 1;grind
 have zm:(gA m N h).length=m:=dp ..
 unfold w9
 obtain ⟨hf,aw,mG,an⟩:=jz (f:=fun q:Int×List (List bg)=>wT (r:Int) (k:Int) (some (h r,N+1)) ((m:Nat):Int) (bR w).du (bR w).cY gw (gA m N h) (eA m t) free (bR (t.T r k*w)).du (bR (t.T r k*w)).cY q.1 q.2)
  (fun (i:Nat) (p:List (List bg))=>((i:Int),p)) m (fun n p=>p.length=M∧ ∀i,i<m→p[h i]? = some (if i=r∨i<n then g9 N (t.T r k*w) (t.c4 r k) i else g9 N w t i)) (fun p=>p)
  (fun n a1 p dv=>by
    obtain ⟨aL,dv⟩:=dv
    unfold wT
    by_cases c:n=r
    ·subst c
     refine ⟨p,eh (by simp only;omega) (bK (by rw [zm];simp only;omega) (aB (x:=some (h n,N+1)) (by simp only;rw [Int.toNat_natCast];exact j5 a1) (eX (by simp) ?_))),aL,fun i ag=> ?_⟩
     ·simp only;rw [gv (by omega)]
     ·rw [dv i ag]
      by_cases bE:i=n∨i<n
      ·rw [if_pos bE,if_pos (by omega)]
      ·rw [if_neg bE,if_neg (by omega)]
    ·have cu:h n≠h r:=fun e=>c (inj n a1 r ap e)
     have o:p[h n]? = some (g9 N w t n):=by rw [dv n a1,if_neg (by omega)]
     have R:p[h r]? = some (g9 N w t r):=by rw [dv r ap,if_pos (.inl rfl),So]
     refine ⟨p.set (h n) (g9 N (t.T r k*w) (t.c4 r k) n),eh (by simp only;omega) (bK (by rw [zm];simp only;omega) (aB (x:=some (h n,N+1)) (by simp only;rw [Int.toNat_natCast];exact j5 a1) (hp (by simp;omega) (aB (x:=(h n,N+1)) rfl (aB o (bK (by simp only;omega) (aB (x:=bR (t.T n k*w)) (by rw [Int.toNat_natCast];exact j5 (by omega)) (aB (Yc fC f g a1 c cu o R _ _ _ _ _ _ _ _) ?_)))))))),by rw [List.length_set];exact aL,fun i ag=> ?_⟩
     ·simp only;rw [gv (by omega)]
     ·by_cases bE:i=n
      ·subst bE;rw [DB o,if_pos (.inr (by omega))]
      ·rw [Jh (fun e=>bE (inj i ag n a1 e.symm)),dv i ag]
       by_cases cU:i=r∨i<n
       ·rw [if_pos cU,if_pos (by omega)]
       ·rw [if_neg cU,if_neg (by omega)])
  (fun p _=>by unfold wT;exact eK (by simp) rfl) d9 ⟨f9.len,fun i ag=>by
    rw [f9.row i ag]
    by_cases c:i=r
    ·rw [if_pos (.inl c),c,So]
    ·rw [if_neg (by omega)]⟩
 have R2 : ∀i,i<m→hf[h i]? = some (g9 N (t.T r k*w) (t.c4 r k) i):=fun i ag=>by rw [an i ag,if_pos (.inr ag)]
 have abg:(eA m t).set (0+((r:Int)).toNat) (k:Int)=eA m (t.c4 r k):=by
  rw [Int.toNat_natCast,Nat.zero_add]
  unfold eA
  rw [ll]
  exact fr fun i _=>by
   simp only [cm.c4]
   split<;>rfl
 have lead :
  (if 0≤(r:Int)∧(r:Int)<((gA m N h).length:Nat) then
    (gA m N h)[(0+((r:Int)).toNat)]? >>= fun fy =>
    fy >>= fun ol =>
    d9[ol.1]? >>= fun zj =>
    if 0≤(k:Int)∧(k:Int)<(ol.2:Nat) then
    zj[(0+((k:Int)).toNat)]? >>= fun gy =>
    CN (r:Int) (k:Int) fy (((gA m N h).length:Nat):Int) (bR w).du (bR w).cY gw (gA m N h) (eA m t) free gy.du gy.cY 0 d9 >>= fun fk =>
    if 0≤(r:Int)∧(r:Int)<((eA m t).length:Nat) then
    if (0+((r:Int)).toNat)<(eA m t).length then
    o1 gy >>= fun dY =>
    if (decide ((0:Int)<dY))=true then
     some (gy.du,gy.cY,fk,(eA m t).set (0+((r:Int)).toNat) (k:Int))
    else
     p8 gy >>= fun ea =>
     zz (((gA m N h).length:Nat):Int) ea.du ea.cY gw (gA m N h) ((eA m t).set (0+((r:Int)).toNat) (k:Int)) free 0 fk >>= fun ir =>
     some (ea.du,ea.cY,ir,(eA m t).set (0+((r:Int)).toNat) (k:Int))
    else none else none else none else none)=(if (decide ((0:Int)<mf (t.T r k)))=true then
     some ((bR (t.T r k*w)).du,(bR (t.T r k*w)).cY,hf,eA m (t.c4 r k))
    else
     p8 (bR (t.T r k*w)) >>= fun ea =>
     zz ((m:Nat):Int) ea.du ea.cY gw (gA m N h) (eA m (t.c4 r k)) free 0 hf >>= fun ir =>
     some (ea.du,ea.cY,ir,eA m (t.c4 r k))):=by
  refine bK (by rw [zm];omega) (aB (x:=some (h r,N+1)) (by rw [Int.toNat_natCast];exact j5 ap) (aB (x:=(h r,N+1)) rfl (aB (f9.row r ap) (bK (by simp only;omega) (aB (x:=bR (t.T r k*w)) (by rw [Int.toNat_natCast];exact j5 (by omega)) (aB (x:=hf) (by unfold CN;rw [zm];exact aw) (bK (by unfold eA;rw [dp];omega) (bK (by unfold eA;rw [dp,Int.toNat_natCast];omega) (aB (tU (om r ap k (by omega))) ?_)))))))))
  rw [yg hw,abg,zm]
 by_cases jP:0<t.T r k
 ·have uN:pv w t r k=t.T r k*w:=if_pos jP
  refine ⟨hf,lead.trans ?_,mG,fun i ag=>by rw [uN];exact R2 i ag⟩
  rw [uN]
  exact eh (tT.2 jP) rfl
 ·have uN:pv w t r k = -(t.T r k*w):=if_neg jP
  obtain ⟨iI,aC,qB,cb⟩:=jz (f:=fun q:Int×List (List bg)=>wV ((m:Nat):Int) (bR (-(t.T r k*w))).du (bR (-(t.T r k*w))).cY gw (gA m N h) (eA m (t.c4 r k)) free q.1 q.2)
   (fun (i:Nat) (p:List (List bg))=>((i:Int),p)) m (fun n p=>p.length=M∧ ∀i,i<m→p[h i]? = some (if i<n then g9 N (-(t.T r k*w)) (t.c4 r k) i else g9 N (t.T r k*w) (t.c4 r k) i)) (fun p=>p)
   (fun n a1 p dv=>by
     obtain ⟨aL,dv⟩:=dv
     have o:p[h n]? = some (g9 N (t.T r k*w) (t.c4 r k) n):=by rw [dv n a1,if_neg (by omega)]
     unfold wV
     refine ⟨p.set (h n) (g9 N (-(t.T r k*w)) (t.c4 r k) n),eh (by simp only;omega) (bK (by rw [zm];simp only;omega) (aB (x:=some (h n,N+1)) (by simp only;rw [Int.toNat_natCast];exact j5 a1) (aB (x:=(h n,N+1)) rfl (aB o (aB (Yd fC g.ze a1 o _ _ _ _ _ _ _ _) ?_))))),by rw [List.length_set];exact aL,fun i ag=> ?_⟩
     ·simp only;rw [gv (by omega)]
     ·by_cases bE:i=n
      ·subst bE;rw [DB o,if_pos (by omega)]
      ·rw [Jh (fun e=>bE (inj i ag n a1 e.symm)),dv i ag]
       by_cases cU:i<n
       ·rw [if_pos cU,if_pos (by omega)]
       ·rw [if_neg cU,if_neg (by omega)])
   (fun p _=>by unfold wV;exact eK (by simp) rfl) hf ⟨mG,fun i ag=>by rw [R2 i ag,if_neg (by omega)]⟩
  refine ⟨iI,lead.trans ?_,qB,fun i ag=>by rw [uN,cb i ag,if_pos ag]⟩
  rw [uN]
  exact eK (fun c=>jP (tT.1 c)) (aB (NH (om r ap k (by omega))) (aB (x:=iI) (by unfold zz;exact aC) rfl))
theorem Ns {m:Nat}(hm:m≤1000)(t:cm)(j:Nat): ∃b,xQ (eA m t) (j:Int)=some b∧(b=true↔ ∃i,i<m∧t.B i=j):=by
 unfold xQ El Jc
 obtain ⟨r,e,h⟩:=sP (f:=fun w:Int=>xx (eA m t) (j:Int) ((m:Nat):Int) w) (fun (i:Nat) (_:Unit)=>(i:Int)) m (fun i _=> ∀k,k<i→t.B k≠j)
  (fun r=>(∃i:Nat,r = .inr (i:Int)∧i<m∧t.B i=j)∨(r = .inl ()∧ ¬∃i,i<m∧t.B i=j))
  (fun i ag _ dv=>by
    unfold xx
    by_cases c:t.B i=j
    ·right
     exact ⟨_,eh (by omega) (bK (by unfold eA;rw [dp];omega) (aB (x:=((t.B i:Nat):Int)) (by rw [Int.toNat_natCast];exact hq ag) (eX (by simp [c]) rfl))),.inl ⟨i,rfl,ag,c⟩⟩
    ·left
     refine ⟨(),eh (by omega) (bK (by unfold eA;rw [dp];omega) (aB (x:=((t.B i:Nat):Int)) (by rw [Int.toNat_natCast];exact hq ag) (hp (by simp;omega) (by rw [gv (by omega)])))),fun k aX=> ?_⟩
     by_cases e:k=i
     ·rw [e];exact c
     ·exact dv k (by omega))
  (fun _ dv=>⟨_,by unfold xx;exact eK (by omega) rfl,.inr ⟨rfl,fun ⟨i,ag,e⟩=>dv i ag e⟩⟩) () (fun k aX=>by omega)
 rw [gR,show (eA m t).length=m from dp ..]
 rcases h with ⟨i,rfl,o,R⟩|⟨rfl,h⟩
 ·exact ⟨true,aB (x:=(i:Int)) (aB e rfl) (by simp),by simp only [true_iff];exact ⟨i,o,R⟩⟩
 ·exact ⟨false,aB (x:=(-1:Int)) (aB e rfl) rfl,by simp [h]⟩
theorem AA {m N M:Nat}{h:Nat→Nat}{w:Rat}{t:cm}{d9:List (List bg)}(f9:kT m N M h w t d9):(gA m N h).all (vV d9)=true:=by
 rw [List.all_eq_true]
 intro x aa
 obtain ⟨i,ag,rfl⟩:=YK.1 aa
 simp only [vV]
 have o:=f9.row i ag
 have R:d9.getD (h i) []=g9 N w t i:=by rw [List.getD_eq_getElem?_getD,o];rfl
 rw [R,show (g9 N w t i).length=N+1 from dp ..]
 simp [(List.getElem?_eq_some_iff.1 o).1]
theorem vp {m N M:Nat}{h:Nat→Nat}{w:Rat}{t:cm}{d9:List (List bg)}(f9:kT m N M h w t d9):(gA m N h).map (mL d9)=bf m (g9 N w t):=by
 unfold gA
 rw [YL]
 exact fr fun i ag=>by
  have R:d9.getD (h i) []=g9 N w t i:=by rw [List.getD_eq_getElem?_getD,f9.row i ag];rfl
  simp only [mL]
  rw [R]
  exact List.take_of_length_le (Nat.le_of_eq (dp ..))
theorem R3 {m:Nat}{I:Nat→Rat}{t:cm}{j:Nat}:t.FH m 1 (fun _=>I) j↔0<t.dz m I j:=abd (g:=fun _=>t.dz m I j)
theorem WJ {ei m N M:Nat}{A:Nat→Nat→Rat}(hm:m≤20)(fC:N<1000){h:Nat→Nat}(inj:∀i,i<m→ ∀k,k<m→h i=h k→i=k){w:Rat}{t:cm}(ok:gf ei m N A t)(f:oK m N w t)(I:Nat→Int)(ak:∀j,j<N→ -100≤I j∧I j≤100)(dj:Nat→Bool)
 (adj : ∀r s,pP m N 1 (fun _ j=>(I j:Rat)) (fun j=>dj j=true) t r s→td m N w t r s) {d9:List (List bg)} (f9:kT m N M h w t d9) :
 ∃x,w0 (N:Int) (bR w).du (bR w).cY (gA m N h) d9 (eA m t) (bf N dj) (bf N I) 0=some x ∧
  ((x = .inl (false,(bR w).du,(bR w).cY,d9,eA m t)∧ ∀j,j<N→dj j=true→ ¬0<t.dz m (fun j=>(I j:Rat)) j) ∨
   (∃r s jG,x = .inl (true,(bR (pv w t r s)).du,(bR (pv w t r s)).cY,jG,eA m (t.c4 r s))∧pP m N 1 (fun _ j=>(I j:Rat)) (fun j=>dj j=true) t r s∧kT m N M h (pv w t r s) (t.c4 r s) jG) ∨
   (x = .inr ()∧ ∃s,s<N∧dj s=true∧0<t.dz m (fun j=>(I j:Rat)) s∧ ∀i,i<m→ ¬0<t.T i s)):=by
 unfold w0
 refine sP (f:=fun q:Int=>wO (N:Int) (bR w).du (bR w).cY (gA m N h) d9 (eA m t) (bf N dj) (bf N I) q) (fun (i:Nat) (_:Unit)=>(i:Int)) N
  (fun n _=> ∀j,j<n→dj j=true→ ¬0<t.dz m (fun j=>(I j:Rat)) j) _ (fun n a1 _ dv=> ?_) (fun _ dv=> ?_) () (fun j aA=>by omega)
 ·have next : ∀(hl:dj n=true→ ¬0<t.dz m (fun j=>(I j:Rat)) n),∀j,j<n+1→dj j=true→ ¬0<t.dz m (fun j=>(I j:Rat)) j:=fun hl j aA=>by
   by_cases c:j=n
   ·subst c;exact hl
   ·exact dv j (by omega)
  have g1:0≤((n:Nat):Int)∧((n:Nat):Int)<((bf N dj).length:Nat):=by rw [dp];omega
  have g2:(bf N dj)[(0+((n:Nat):Int).toNat)]? = some (dj n):=by rw [Int.toNat_natCast];exact j5 a1
  have jy:U ((n:Int)+1)=((n+1:Nat):Int):=gv (by omega)
  unfold wO
  by_cases qG:dj n=true
  ·obtain ⟨b,hQ,ko⟩:=Ns (m:=m) (by omega) t n
   cases b with
   | true =>
    obtain ⟨i,ag,f8⟩:=ko.1 rfl
    left
    refine ⟨(),eh (by omega) (bK g1 (aB g2 (eX qG (aB hQ (eX rfl (by rw [jy])))))),next fun _=> ?_⟩
    rw [← f8,ok.xO _ ag];grind
   | false =>
    have dN:=PK hm fC f I ak ((⟨(bR w).du,(bR w).cY⟩:bg)) rfl (N:Int) (bf N dj) a1
    by_cases sy:0<t.dz m (fun j=>(I j:Rat)) n
    ·obtain ⟨q,aW,bk⟩:=WI hm fC f ((⟨(bR w).du,(bR w).cY⟩:bg)) (bf N dj) (k:=n) (by omega)
     have bW : ¬mf (t.dz m (fun j=>(I j:Rat)) n)≤0:=by have:=tT.2 sy;omega
     right
     rcases bk with ⟨rfl,R⟩|⟨b,rfl,aJ,mD,ad,aD⟩
     ·exact ⟨_,eh (by omega) (bK g1 (aB g2 (eX qG (aB hQ (hp rfl (bK (AA f9) (aB (by rw [vp f9];exact dN) (eK bW (aB (by rw [vp f9];exact aW) (eh (by decide) rfl)))))))))),.inr (.inr ⟨rfl,n,a1,qG,sy,R⟩)⟩
     ·have c5:pP m N 1 (fun _ j=>(I j:Rat)) (fun j=>dj j=true) t b n:=⟨a1,qG,R3.2 sy,fun j aA b9 dN=>dv j aA b9 (R3.1 dN),aJ,mD,ad,aD⟩
      obtain ⟨jG,aw,aC⟩:=PL hm fC inj f (adj b n c5) f9 (N:Int) (bf N dj)
      exact ⟨_,eh (by omega) (bK g1 (aB g2 (eX qG (aB hQ (hp rfl (bK (AA f9) (aB (by rw [vp f9];exact dN) (eK bW (aB (by rw [vp f9];exact aW) (eK (by omega) (aB aw rfl))))))))))),.inr (.inl ⟨b,n,jG,rfl,c5,aC⟩)⟩
    ·left
     have bW:mf (t.dz m (fun j=>(I j:Rat)) n)≤0:=by
      have : ¬0<mf (t.dz m (fun j=>(I j:Rat)) n):=fun c=>sy (tT.1 c)
      omega
     exact ⟨(),eh (by omega) (bK g1 (aB g2 (eX qG (aB hQ (hp rfl (bK (AA f9) (aB (by rw [vp f9];exact dN) (eh bW (by rw [jy]))))))))),next fun _=>sy⟩
  ·left
   have Fz:dj n=false:=by simpa using qG
   exact ⟨(),eh (by omega) (bK g1 (aB g2 (hp Fz (by rw [jy])))),next fun c=>(qG c).elim⟩
 ·exact ⟨_,by unfold wO;exact eK (by omega) rfl,.inl ⟨rfl,dv⟩⟩
def uo (N:Int)(q4:List b6)(free:List Bool)(obj:List Int)(s:Bool×List Int×List (List bg)×List Int):Option ((Bool×List Int×List (List bg)×List Int)⊕((Bool×List Int×List (List bg)×List Int)⊕(Bool×List Int×List (List bg)×List Int))) :=
 match w0 N s.1 s.2.1 q4 s.2.2.1 s.2.2.2 free obj 0 with
 | none=>none
 | some (.inl (true,bL))=>some (.inl bL)
 | some (.inl (false,bL))=>some (.inr (.inl bL))
 | some (.inr ())=>some (.inr (.inr s))
theorem Ye {N:Int}{q4:List b6}{free:List Bool}{obj:List Int}: ∀s r,iter (uo N q4 free obj) s=some r→CH N q4 free obj true s.1 s.2.1 s.2.2.1 s.2.2.2=some r:=by
 unfold CH
 apply iter.partial_correctness (uo N q4 free obj) (fun s r=>iter (fun w:Bool×Bool×(List Int)×(List (List bg))×(List Int)=>uO N q4 free obj w.1 w.2.1 w.2.2.1 w.2.2.2.1 w.2.2.2.2) (true,s.1,s.2.1,s.2.2.1,s.2.2.2)=some r)
 intro it ih s r ap
 cases aa:w0 N s.1 s.2.1 q4 s.2.2.1 s.2.2.2 free obj 0 with
 | none=>unfold uo at ap;rw [aa] at ap;simp at ap
 | some x =>
  have hm:uO N q4 free obj true s.1 s.2.1 s.2.2.1 s.2.2.2=match x with
   | .inl gq=>(some (.inl (gq.1,gq.2.1,gq.2.2.1,gq.2.2.2.1,gq.2.2.2.2)))
   | .inr gq=>(some (.inr (.inr (s.1,s.2.1,s.2.2.1,s.2.2.2)))):=by
   unfold uO
   refine eX rfl ?_
   cases x with
   | inl a=>exact aB aa rfl
   | inr a=>exact aB aa rfl
  unfold uo at ap
  rw [aa] at ap
  rw [iter]
  simp only
  rw [hm]
  match x,ap with
  | .inl (true,bL),ap=>exact ih _ _ ap
  | .inl (false,bL),ap =>
   simp at ap
   subst ap
   show iter _ (false,bL.1,bL.2.1,bL.2.2.1,bL.2.2.2)=_
   rw [iter]
   simp only
   unfold uO
   rfl
  | .inr (),ap =>
   simp at ap
   subst ap
   rfl
theorem Yf {ei m N M:Nat}{A:Nat→Nat→Rat}(hm:m≤20)(fC:N<1000){h:Nat→Nat}{w:Rat}{t:cm}(ok:gf ei m N A t)(f:oK m N w t)(I:Nat→Int)(ak:∀j,j<N→ -100≤I j∧I j≤100)(dj:Nat→Bool){d9:List (List bg)}(f9:kT m N M h w t d9):
 CI (N:Int) (bR w).du (bR w).cY (gA m N h) d9 (eA m t) (bf N I) 0 (bf N dj)=some (bf N fun j=>dj j && !decide (t.dz m (fun j=>(I j:Rat)) j<0)):=by
 unfold CI
 obtain ⟨s,e,-⟩:=jz (f:=fun q:Int×List Bool=>wP (N:Int) (bR w).du (bR w).cY (gA m N h) d9 (eA m t) (bf N I) q.1 q.2)
  (fun (i:Nat) (_:Unit)=>((i:Int),bf N fun j=>if j<i then dj j && !decide (t.dz m (fun j=>(I j:Rat)) j<0) else dj j)) N (fun _ _=>True) (fun _=>bf N fun j=>dj j && !decide (t.dz m (fun j=>(I j:Rat)) j<0))
  (fun n a1 _ _=>by
    refine ⟨(),?_,trivial⟩
    have same:dj n=(dj n && !decide (t.dz m (fun j=>(I j:Rat)) n<0))→(U ((n:Int)+1),bf N fun j=>if j<n then dj j && !decide (t.dz m (fun j=>(I j:Rat)) j<0) else dj j)=(((n+1:Nat):Int),bf N fun j=>if j<n+1 then dj j && !decide (t.dz m (fun j=>(I j:Rat)) j<0) else dj j):=fun he=>by
     rw [gv (by omega)]
     congr 1
     refine fr fun j _=> ?_
     by_cases c:j=n
     ·subst c;rw [if_neg (by omega),if_pos (by omega)];exact he
     ·by_cases cU:j<n
      ·rw [if_pos cU,if_pos (by omega)]
      ·rw [if_neg cU,if_neg (by omega)]
    have g1 : ∀F:Nat→Bool,0≤((n:Nat):Int)∧((n:Nat):Int)<((bf N F).length:Nat):=fun F=>by rw [dp];omega
    have g2:(bf N fun j=>if j<n then dj j && !decide (t.dz m (fun j=>(I j:Rat)) j<0) else dj j)[(0+((n:Nat):Int).toNat)]? = some (dj n):=by rw [Int.toNat_natCast,j5 a1,if_neg (by omega)]
    unfold wP
    by_cases qG:dj n=true
    ·obtain ⟨b,hQ,ko⟩:=Ns (m:=m) (by omega) t n
     cases b with
     | true =>
      obtain ⟨i,ag,f8⟩:=ko.1 rfl
      refine eh (by simp only;omega) (bK (g1 _) (aB g2 (eX qG (aB hQ (eX rfl ?_)))))
      simp only
      rw [same]
      rw [← f8,ok.xO _ ag,decide_eq_false (by grind)];simp
     | false =>
      have dN:=PK hm fC f I ak ((⟨(bR w).du,(bR w).cY⟩:bg)) rfl (N:Int) (bf N fun j=>if j<n then dj j && !decide (t.dz m (fun j=>(I j:Rat)) j<0) else dj j) a1
      have bW:mf (t.dz m (fun j=>(I j:Rat)) n)<0↔t.dz m (fun j=>(I j:Rat)) n<0:=by
       unfold mf
       by_cases c:t.dz m (fun j=>(I j:Rat)) n=0
       ·rw [if_pos c,c];constructor
        ·intro h;omega
        ·intro h;grind
       ·rw [if_neg c]
        by_cases cU:t.dz m (fun j=>(I j:Rat)) n<0
        ·rw [if_pos cU];simp [cU]
        ·rw [if_neg cU];constructor
         ·intro h;omega
         ·intro h;exact (cU h).elim
      by_cases sy:t.dz m (fun j=>(I j:Rat)) n<0
      ·refine eh (by simp only;omega) (bK (g1 _) (aB g2 (eX qG (aB hQ (hp rfl (bK (AA f9) (aB (by rw [vp f9];exact dN) (eh (bW.2 sy) (bK (by rw [dp,Int.toNat_natCast];omega) ?_)))))))))
       simp only
       rw [gv (by omega),Int.toNat_natCast,Nat.zero_add,ll]
       congr 3
       refine fr fun j _=> ?_
       by_cases c:j=n
       ·subst c;rw [if_pos rfl,if_pos (by omega),decide_eq_true sy];simp
       ·rw [if_neg c]
        by_cases cU:j<n
        ·rw [if_pos cU,if_pos (by omega)]
        ·rw [if_neg cU,if_neg (by omega)]
      ·refine eh (by simp only;omega) (bK (g1 _) (aB g2 (eX qG (aB hQ (hp rfl (bK (AA f9) (aB (by rw [vp f9];exact dN) (eK (fun c=>sy (bW.1 c)) ?_))))))))
       simp only
       rw [same]
       rw [decide_eq_false sy];simp
    ·have Fz:dj n=false:=by simpa using qG
     refine eh (by simp only;omega) (bK (g1 _) (aB g2 (hp Fz ?_)))
     simp only
     rw [same]
     rw [Fz];simp)
  (fun _ _=>by
    unfold wP
    refine eK (by simp) ?_
    simp only
    congr 2
    exact fr fun j aA=>by rw [if_pos aA]) () trivial
 have e0:(bf N fun j=>if j<0 then dj j && !decide (t.dz m (fun j=>(I j:Rat)) j<0) else dj j)=bf N dj:=fr fun j _=>by rw [if_neg (by omega)]
 rw [e0] at e
 exact e
theorem NI {ei m N M:Nat}{A:Nat→Nat→Rat}(hm:m≤20)(fC:N<1000){h:Nat→Nat}(inj:∀i,i<m→ ∀k,k<m→h i=h k→i=k)(I:Nat→Int)(ak:∀j,j<N→ -100≤I j∧I j≤100)(dj:Nat→Bool)
 (Inv:Rat→cm→Prop) (inv : ∀w t,Inv w t→gf ei m N A t∧t.lq m N∧oK m N w t)
 (hb : ∀w t r s,Inv w t→pP m N 1 (fun _ j=>(I j:Rat)) (fun j=>dj j=true) t r s→td m N w t r s∧Inv (pv w t r s) (t.c4 r s)) {w:Rat} {t:cm} (dv:Inv w t) {d9:List (List bg)} (f9:kT m N M h w t d9) :
 ∃b bG dE jG kW,sB (bR w).du (bR w).cY (N:Int) (gA m N h) d9 (eA m t) (bf N dj) (bf N I)=some (b,(bR bG).du,(bR bG).cY,jG,eA m dE,bf N kW)∧Inv bG dE∧kT m N M h bG dE jG ∧
  ((b=true∧(∀j,j<N→dj j=true→ ¬0<dE.dz m (fun j=>(I j:Rat)) j)∧kW=fun j=>dj j && !decide (dE.dz m (fun j=>(I j:Rat)) j<0))∨(b=false∧ ∃s,s<N∧dj s=true∧0<dE.dz m (fun j=>(I j:Rat)) s∧ ∀i,i<m→ ¬0<dE.T i s)):=by
 obtain ⟨ok,mh,Ce⟩:=inv w t dv
 obtain ⟨x,dl,dE,e,-,-,-,bG,jG,o,R,ad⟩:=Ws (ei:=ei) (m:=m) (N:=N) (K:=1) (A:=A) (obj:=fun _ j=>(I j:Rat)) (bS:=fun j=>dj j=true)
  (f:=uo (N:Int) (gA m N h) (bf N dj) (bf N I))
  (fun s t=> ∃w d9,s=((bR w).du,(bR w).cY,d9,eA m t)∧Inv w t∧kT m N M h w t d9)
  (fun s x t=> ∃w d9,Inv w t∧kT m N M h w t d9∧((x = .inl ((bR w).du,(bR w).cY,d9,eA m t)∧ ∀j,j<N→dj j=true→ ¬0<t.dz m (fun j=>(I j:Rat)) j) ∨
    (x = .inr ((bR w).du,(bR w).cY,d9,eA m t)∧ ∃s,s<N∧dj s=true∧0<t.dz m (fun j=>(I j:Rat)) s∧ ∀i,i<m→ ¬0<t.T i s)))
  (fun s t cX ok _=>by
    obtain ⟨w,d9,rfl,dv,f9⟩:=cX
    obtain ⟨x,e,aa⟩:=WJ hm fC inj ok (inv w t dv).2.2 I ak dj (fun r s b=>(hb w t r s dv b).1) f9
    rcases aa with ⟨rfl,aa⟩|⟨r,s,jG,rfl,c5,B9⟩|⟨rfl,aa⟩
    ·left
     exact ⟨_,by unfold uo;simp only;rw [e],w,d9,dv,f9,.inl ⟨rfl,aa⟩⟩
    ·right
     exact ⟨_,r,s,by unfold uo;simp only;rw [e],c5,pv w t r s,jG,rfl,(hb w t r s dv c5).2,B9⟩
    ·left
     exact ⟨_,by unfold uo;simp only;rw [e],w,d9,dv,f9,.inr ⟨rfl,aa⟩⟩)
  (a:=((bR w).du,(bR w).cY,d9,eA m t)) (t:=t) ⟨w,d9,rfl,dv,f9⟩ ok mh
 have aC:=Ye _ _ e
 obtain ⟨kU,afj,acG⟩:=inv bG dE o
 rcases ad with ⟨rfl,ad⟩|⟨rfl,ad⟩
 ·refine ⟨true,bG,dE,jG,_,?_,o,R,.inl ⟨rfl,ad,rfl⟩⟩
  unfold sB
  exact aB aC (aB (Yf hm fC kU acG I ak dj R) rfl)
 ·refine ⟨false,bG,dE,jG,dj,?_,o,R,.inr ⟨rfl,ad⟩⟩
  unfold sB
  exact aB aC rfl
def hg (m:Nat)(A:Nat→Nat→Rat)(t:cm):Rat:=if 0<t.D m A then t.D m A else -(t.D m A)
theorem ZN {m N:Nat}{A:Nat→Nat→Rat}{t:cm}(h:t.D m A≠0):0<hg m A t:=by
 unfold hg;split<;>grind
theorem EN {m K:Nat}{A:Nat→Nat→Rat}{t:cm}{x:Rat}(h:dw K (x*t.D m A)):dw K (x*hg m A t):=by
 unfold hg;split
 ·exact h
 ·have:=h.neg
  rw [show x * -(t.D m A) = -(x*t.D m A) by grind];exact this
theorem pT.q2 {m N:Nat}{A:Nat→Nat→Rat}(s:Small m N A){t:cm}(h:pT m N A t):oK m N (hg m A t) t where
 pos:=ZN (N:=N) h.wz
 hw:=by
  have o:dw eo (1*t.D m A):=by rw [Rat.one_mul];exact h.acx s
  have:=EN o
  rw [Rat.one_mul] at this
  exact this.mono (by generalize eo=q;omega)
 ht:=fun i ag j aA=>EN (h.acy s ag aA)
 f8:=h.ok.ki
theorem pT.vF {m N:Nat}{A:Nat→Nat→Rat}(s:Small m N A){t:cm}(h:pT m N A t){r k:Nat}(ap:r<m)(aX:k<N)(ah:t.T r k≠0):td m N (hg m A t) t r k where
 ap:=ap
 aX:=aX
 ah:=ah
 ze:=fun i ag j aA=>by
  have kU:=h.ok.c4 ap aX ah
  have o:dw eo ((t.c4 r k).T i j*(t.c4 r k).D m A):=by
   rw [← kU.wq ag aA]
   refine dw.mono (yn fun dI m9 c aP=> ?_) (EM▸An (by omega) s.hm)
   simp only [gh]
   split
   ·exact s.nK c aP j aA
   ·exact s.nK c aP _ (Nat.le_of_lt (kU.ki dI m9))
  rw [h.ok.A0 ap aX] at o
  unfold hg
  split
  ·exact o
  ·have:=o.neg
   rw [show (t.c4 r k).T i j*(t.T r k * -(t.D m A)) = -((t.c4 r k).T i j*(t.T r k*t.D m A)) by grind];exact this
theorem J6 {m N:Nat}{A:Nat→Nat→Rat}{t:cm}(h:gf m m N A t)(bh:t.D m A≠0){r k:Nat}(ap:r<m)(aX:k<N)(ah:t.T r k≠0):pv (hg m A t) t r k=hg m A (t.c4 r k):=by
 have e:=h.A0 ap aX
 unfold pv hg
 rw [e]
 by_cases bE:0<t.T r k<;>by_cases cU:0<t.D m A
 ·rw [if_pos bE,if_pos cU,if_pos (Rat.mul_pos bE cU)]
 ·have:=Rat.mul_pos bE (show 0 < -(t.D m A) by grind)
  rw [if_pos bE,if_neg cU,if_neg (by grind)];grind
 ·have:=Rat.mul_pos (show 0 < -(t.T r k) by grind) cU
  rw [if_neg bE,if_pos cU,if_neg (by grind)]
 ·have:=Rat.mul_pos (show 0 < -(t.T r k) by grind) (show 0 < -(t.D m A) by grind)
  rw [if_neg bE,if_neg cU,if_pos (by grind)];grind
def iB (h:Nat→Nat)(t:cm):cm:=⟨fun i j=>t.T (h i) j,fun i=>t.B (h i)⟩
theorem At {h:Nat→Nat}{t:cm}{r k i:Nat}(fQ:h i=h r→i=r):(∀j,((iB h t).c4 r k).T i j=(iB h (t.c4 (h r) k)).T i j)∧((iB h t).c4 r k).B i=(iB h (t.c4 (h r) k)).B i:=by
 simp only [cm.c4,iB]
 by_cases c:i=r
 ·subst c;simp
 ·have:h i≠h r:=fun e=>c (fQ e)
  simp [c,this]
theorem Oa {α:Type}{m i:Nat}(ag:i<m)(f:Nat→α):(bf m f).take (i-0)++((bf m f).drop (0+(i+1))).take (m-(i+1))=bf (m-1) (skip i f):=by
 apply List.ext_getElem?
 intro j
 rw [Nat.sub_zero,Nat.zero_add]
 have aL:((bf m f).take i).length=i:=by rw [List.length_take,dp];omega
 by_cases c:j<i
 ·rw [List.getElem?_append_left (by omega),List.getElem?_take,if_pos c,hq (by omega),hq (by omega)]
  simp only [skip];rw [if_pos c]
 ·rw [List.getElem?_append_right (by omega),aL,List.getElem?_take,List.getElem?_drop]
  by_cases cU:j<m-1
  ·rw [if_pos (by omega),hq (by omega),hq cU]
   simp only [skip];rw [if_neg c];congr 2;omega
  ·rw [if_neg (by omega)]
   symm
   rw [List.getElem?_eq_none_iff,dp];omega
theorem Wa {m N M n:Nat}(fC:N<1000)(a1:n≤N){h:Nat→Nat}{w:Rat}{t:cm}(f:oK m N w t){d9:List (List bg)}(f9:kT m N M h w t d9){i:Nat}(ag:i<m)(hQ:Bool)(ko:List Int)(aO:Int)(bk:List Int)(cc:List Bool):
 ∃k:Nat,CP (n:Int) (i:Int) hQ ko aO (gA m N h) d9 bk cc 0=some (k:Int)∧k≤n∧(k<n→t.T i k≠0)∧ ∀j,j<k→t.T i j=0:=by
 unfold CP
 obtain ⟨r,e,k,rfl,o,R,ad⟩:=sP (f:=fun q:Int=>wW (n:Int) (i:Int) hQ ko aO (gA m N h) d9 bk cc q) (fun (c:Nat) (_:Unit)=>(c:Int)) n (fun c _=> ∀j,j<c→t.T i j=0)
  (fun r=> ∃k:Nat,r=(k:Int)∧k≤n∧(k<n→t.T i k≠0)∧ ∀j,j<k→t.T i j=0)
  (fun c aP _ dv=>by
    have hw:=f.pos
    have bW:=tU ((f.ht i ag c (by omega)).mono (tc (by have:=qT;generalize eo=q at *;omega)))
    unfold wW
    by_cases FL:t.T i c=0
    ·left
     refine ⟨(),eh (by omega) (bK (by unfold gA;rw [dp];omega) (aB (x:=some (h i,N+1)) (by rw [Int.toNat_natCast];exact j5 ag) (aB (x:=(h i,N+1)) rfl (aB (f9.row i ag) (bK (by simp only;omega) (aB (x:=bR (t.T i c*w)) (by rw [Int.toNat_natCast];exact j5 (by omega)) (aB bW (eX (by rw [yg hw,As.2 FL];rfl) (by rw [gv (by omega)]))))))))),fun j aA=> ?_⟩
     by_cases e:j=c
     ·rw [e];exact FL
     ·exact dv j (by omega)
    ·right
     exact ⟨_,eh (by omega) (bK (by unfold gA;rw [dp];omega) (aB (x:=some (h i,N+1)) (by rw [Int.toNat_natCast];exact j5 ag) (aB (x:=(h i,N+1)) rfl (aB (f9.row i ag) (bK (by simp only;omega) (aB (x:=bR (t.T i c*w)) (by rw [Int.toNat_natCast];exact j5 (by omega)) (aB bW (hp (by rw [yg hw];exact ux (fun c=>FL (As.1 c))) rfl)))))))),c,rfl,by omega,fun _=>FL,dv⟩)
  (fun _ dv=>⟨_,by unfold wW;exact eK (by omega) rfl,n,rfl,Nat.le_refl _,fun c=>by omega,dv⟩) () (fun j aA=>by omega)
 exact ⟨k,e,o,R,ad⟩
structure nX (m n N:Nat) (A:Nat→Nat→Rat) (t:cm) (a4:Nat) (h:Nat→Nat):Prop where
 inv:pT m N A t
 z : ∀i,i<m→n≤t.B i→t.T i N=0
 le:a4≤m
 lt : ∀i,i<a4→h i<m
 inj : ∀i,i<a4→ ∀k,k<a4→h i=h k→i=k
 dead : ∀d,d<m→(∀i,i<a4→h i≠d)→n≤t.B d∧ ∀j,j<n→t.T d j=0
theorem nX.q2 {m n N a4:Nat}{A:Nat→Nat→Rat}{t:cm}{h:Nat→Nat}(s:Small m N A)(a:nX m n N A t a4 h):oK a4 N (hg m A t) (iB h t) :=
 have f:=a.inv.q2 s
 ⟨f.pos,f.hw,fun i ag j aA=>f.ht (h i) (a.lt i ag) j aA,fun i ag=>f.f8 (h i) (a.lt i ag)⟩
theorem nX.vF {m n N a4:Nat}{A:Nat→Nat→Rat}{t:cm}{h:Nat→Nat}(s:Small m N A)(a:nX m n N A t a4 h){r k:Nat}(ap:r<a4)(aX:k<N)(ah:t.T (h r) k≠0):td a4 N (hg m A t) (iB h t) r k :=
 have f:=a.inv.vF s (a.lt r ap) aX ah
 ⟨ap,aX,ah,fun i ag j aA=>by
  rw [(At (t:=t) (k:=k) (a.inj i ag r ap)).1 j]
  exact f.ze (h i) (a.lt i ag) j aA⟩
theorem nX.c4 {m n N a4:Nat}{A:Nat→Nat→Rat}{t:cm}{h:Nat→Nat}(LI:n≤N)(a:nX m n N A t a4 h){r k:Nat}(ap:r<a4)(aX:k<n)(aJ:n≤t.B (h r))(ah:t.T (h r) k≠0):nX m n N A (t.c4 (h r) k) a4 h:=by
 have cd:=a.z (h r) (a.lt r ap) aJ
 have fq : ∀i,(t.c4 (h r) k).T i N=t.T i N:=fun i=>by
  simp only [cm.c4]
  split
  ·rename_i e;rw [e,cd];grind
  ·rw [cd];grind
 refine ⟨⟨a.inv.ok.c4 (a.lt r ap) (by omega) ah,fun i ag=>by rw [fq];exact a.inv.mh i ag,?_⟩,fun i ag f8=> ?_,a.le,a.lt,a.inj,fun d bh hl=> ?_⟩
 ·rw [a.inv.ok.A0 (a.lt r ap) (by omega)]
  have:=a.inv.wz
  grind
 ·rw [fq]
  simp only [cm.c4] at f8
  by_cases c:i=h r
  ·rw [if_pos c] at f8;omega
  ·rw [if_neg c] at f8;exact a.z i ag f8
 ·obtain ⟨o,R⟩:=a.dead d bh hl
  have cu:d≠h r:=fun e=>hl r ap e.symm
  simp only [cm.c4,if_neg cu]
  refine ⟨o,fun j aA=> ?_⟩
  rw [R j aA,R k aX];grind
theorem Xm {m n N:Nat}{A:Nat→Nat→Rat}(s:Small m N A)(fC:N<1000)(LI:n≤N)(free:List Bool){t:cm}(cp:pT m N A t)(cd:∀i,i<m→n≤t.B i→t.T i N=0){d9:List (List bg)}(f9:kT m N m (fun i=>i) (hg m A t) t d9):
 ∃dE a4 h jG,zC (n:Int) (bR (hg m A t)).du (bR (hg m A t)).cY (N:Int) (gA m N fun i=>i) d9 (eA m t) free=some ((bR (hg m A dE)).du,(bR (hg m A dE)).cY,gA a4 N h,jG,eA a4 (iB h dE)) ∧
  nX m n N A dE a4 h∧(∀i,i<a4→dE.B (h i)<n)∧kT a4 N m h (hg m A dE) (iB h dE) jG:=by
 have hm:=s.hm
 unfold zC GZ
 obtain ⟨x,e,dE,a4,h,jG,rfl,o,R,ad⟩:=kQ (f:=fun w:Int×Bool×(List Int)×(List b6)×(List (List bg))×(List Int)=>zv (n:Int) (N:Int) free w.1 w.2.1 w.2.2.1 w.2.2.2.1 w.2.2.2.2.1 w.2.2.2.2.2)
  (fun w=> ∃(i a4:Nat) (h:Nat→Nat) (t:cm) (p:List (List bg)),w=((i:Int),(bR (hg m A t)).du,(bR (hg m A t)).cY,gA a4 N h,p,eA a4 (iB h t))∧i≤a4∧nX m n N A t a4 h∧(∀q,q<i→t.B (h q)<n)∧kT a4 N m h (hg m A t) (iB h t) p)
  (fun w=>w.2.2.2.1.length-w.1.toNat)
  (fun x=> ∃dE a4 h jG,x=((bR (hg m A dE)).du,(bR (hg m A dE)).cY,gA a4 N h,jG,eA a4 (iB h dE))∧nX m n N A dE a4 h∧(∀i,i<a4→dE.B (h i)<n)∧kT a4 N m h (hg m A dE) (iB h dE) jG)
  (fun w hw=>by
    obtain ⟨i,a4,h,t,p,rfl,ag,bt,a6,ah⟩:=hw
    have kV:=bt.le
    have tu:(gA a4 N h).length=a4:=dp ..
    have LJ:(eA a4 (iB h t)).length=a4:=dp ..
    simp only
    unfold zv
    by_cases c:i<a4
    ·left
     have g1:0≤(i:Int)∧(i:Int)<((eA a4 (iB h t)).length:Nat):=by rw [LJ];omega
     have g2:(eA a4 (iB h t))[(0+((i:Int)).toNat)]? = some ((t.B (h i):Nat):Int):=by rw [Int.toNat_natCast];exact j5 c
     by_cases FM:t.B (h i)<n
     ·refine ⟨(((i+1:Nat):Int),(bR (hg m A t)).du,(bR (hg m A t)).cY,gA a4 N h,p,eA a4 (iB h t)),eh (by rw [tu];omega) (bK g1 (aB g2 (eh (by omega) (by rw [gv (by omega)])))),⟨i+1,a4,h,t,p,rfl,by omega,bt,fun q nA=> ?_,ah⟩,by simp only [tu];omega⟩
      by_cases e:q=i
      ·rw [e];exact FM
      ·exact a6 q (by omega)
     ·obtain ⟨k,j8,jM,nJ,Cs⟩:=Wa fC LI (bt.q2 s) ah c (bR (hg m A t)).du (bR (hg m A t)).cY (N:Int) (eA a4 (iB h t)) free
      by_cases L7:k<n
      ·have LK:t.T (h i) k≠0:=nJ L7
       obtain ⟨km,aw,aC⟩:=PL (by omega) fC bt.inj (bt.q2 s) (bt.vF s c (by omega) LK) ah (N:Int) free
       have uN:pv (hg m A t) (iB h t) i k=hg m A (t.c4 (h i) k):=J6 bt.inv.ok bt.inv.wz (bt.lt i c) (by omega) LK
       have rY:eA a4 ((iB h t).c4 i k)=eA a4 (iB h (t.c4 (h i) k)):=fr fun q nA=>by
        have:=(At (t:=t) (k:=k) (bt.inj q nA i c)).2
        rw [this]
       rw [uN,rY] at aw
       rw [uN] at aC
       refine ⟨(((i+1:Nat):Int),(bR (hg m A (t.c4 (h i) k))).du,(bR (hg m A (t.c4 (h i) k))).cY,gA a4 N h,km,eA a4 (iB h (t.c4 (h i) k))),eh (by rw [tu];omega) (bK g1 (aB g2 (eK (by omega) (aB j8 (eh (by omega) (aB aw (by rw [gv (by omega)]))))))),⟨i+1,a4,h,t.c4 (h i) k,km,rfl,by omega,bt.c4 LI c L7 (by omega) LK,fun q nA=> ?_,aC.len,fun q nA=> ?_⟩,by simp only [tu];omega⟩
       ·simp only [cm.c4]
        split
        ·exact L7
        ·rename_i cu
         have:q≠i:=fun e=>cu (by rw [e])
         exact a6 q (by omega)
       ·rw [aC.row q nA]
        congr 1
        exact fr fun j _=>by rw [(At (t:=t) (k:=k) (bt.inj q nA i c)).1 j]
      ·have afk:k=n:=by omega
       have we:U ((i:Int)+1)=((i+1:Nat):Int):=gv (by omega)
       have Ly:(((gA a4 N h).drop (0+(i+1))).take (a4-(i+1))).length=a4-(i+1):=by rw [List.length_take,List.length_drop,tu];omega
       have Fi:(((eA a4 (iB h t)).drop (0+(i+1))).take (a4-(i+1))).length=a4-(i+1):=by rw [List.length_take,List.length_drop,LJ];omega
       have bX:(gA a4 N h).take (i-0)++((gA a4 N h).drop (0+(i+1))).take (a4-(i+1))=gA (a4-1) N (skip i h):=Oa c _
       have dO:(eA a4 (iB h t)).take (i-0)++((eA a4 (iB h t)).drop (0+(i+1))).take (a4-(i+1))=eA (a4-1) (iB (skip i h) t):=Oa c _
       refine ⟨((i:Int),(bR (hg m A t)).du,(bR (hg m A t)).cY,gA (a4-1) N (skip i h),p,eA (a4-1) (iB (skip i h) t)),eh (by rw [tu];omega) (bK g1 (aB g2 (eK (by omega) (aB j8 (eK (by omega) ?_))))),⟨i,a4-1,skip i h,t,p,rfl,by omega,⟨bt.inv,bt.z,by omega,fun q nA=> ?_,fun q nA bk yK e=> ?_,fun d bh hl=> ?_⟩,fun q nA=> ?_,ah.len,fun q nA=> ?_⟩,?_⟩
       ·rw [we,Int.toNat_natCast,Int.toNat_natCast,tu,LJ,Ly,Fi,bX,dO]
        exact bK (by omega) (bK (by omega) (bK (by omega) (bK (by omega) (bK (by omega) (bK (by omega) (bK (by omega) (bK (by omega) (bK (by omega) (bK (by omega) (bK (by omega) (bK (by omega) rfl)))))))))))
       ·simp only [skip];split<;>exact bt.lt _ (by omega)
       ·simp only [skip] at e
        have:=bt.inj _ (by split<;>omega) _ (by split<;>omega) e
        split at this<;>split at this<;>omega
       ·by_cases Sp:d=h i
        ·rw [Sp]
         exact ⟨by omega,fun j aA=>Cs j (by omega)⟩
        ·refine bt.dead d bh fun q nA=> ?_
         by_cases bE:q<i
         ·have:=hl q (by omega);simp only [skip] at this;rw [if_pos bE] at this;exact this
         ·by_cases cU:q=i
          ·rw [cU];exact fun e=>Sp e.symm
          ·have:=hl (q-1) (by omega);simp only [skip] at this;rw [if_neg (by omega),show q-1+1=q by omega] at this;exact this
       ·simp only [skip];rw [if_pos nA];exact a6 q nA
       ·simp only [skip]
        by_cases bE:q<i
        ·rw [if_pos bE,ah.row q (by omega)];congr 1
         exact fr fun j _=>by simp only [iB,skip];rw [if_pos bE]
        ·rw [if_neg bE,ah.row (q+1) (by omega)];congr 1
         exact fr fun j _=>by simp only [iB,skip];rw [if_neg bE]
       ·simp only [tu,show (gA (a4-1) N (skip i h)).length=a4-1 from dp ..];omega
    ·right
     have acH:i=a4:=by omega
     subst acH
     exact ⟨_,eK (by rw [tu];omega) rfl,t,i,h,p,rfl,bt,a6,ah⟩)
  ((0:Int),(bR (hg m A t)).du,(bR (hg m A t)).cY,gA m N (fun i=>i),d9,eA m t)
  ⟨0,m,fun i=>i,t,d9,rfl,by omega,⟨cp,cd,Nat.le_refl _,fun i ag=>ag,fun i _ k _ e=>e,fun d bh hl=>(hl d bh rfl).elim⟩,fun q a6=>by omega,f9.len,f9.row⟩
 exact ⟨dE,a4,h,jG,aB e rfl,o,R,ad⟩
end Go.Proofs.YtgfpnhmcmgnepacGreat
namespace Go.Proofs.YtgfpnhmcmgnepacGreat
set_option linter.unusedVariables false
set_option linter.unusedSimpArgs false
open Go Go.VL
theorem PM:(⟨false,([]:List Int)⟩:bg)=bR 0:=by
 show _=hk (0:Rat).num
 rw [show (0:Rat).num=0 from rfl]
 unfold hk
 rw [show L ((0:Int).natAbs:Int)=[] from ub.2 (by simp)];rfl
theorem JO {α:Type}(l:List α)(x:α):(l++[x])[l.length]? = some x:=by simp
theorem yh {α:Type}(l:List α)(x y:α):(l++[x]).set l.length y=l++[y]:=by simp
theorem PN {p:ov}{m n:Nat}{a:Nat→Nat→Int}{b:Nat→Int}(h:pC p m n a b){i:Nat}(ag:i<m):uY i p.ln p.ks p.c0 p.c1 p.kP=some (i*n,n):=by
 have hm:=h.hm
 have a1:=h.a1
 have o:i*n≤20*40:=Nat.mul_le_mul (by omega) a1
 have R:(i+1)*n≤20*40:=Nat.mul_le_mul (by omega) a1
 have ad:(i+1)*n≤m*n:=Nat.mul_le_mul_right _ ag
 have aw:U ((i:Int)*p.ks)=((i*n:Nat):Int):=by
  rw [h.gw,← Int.natCast_mul,cQ (by omega) (by omega)]
 have aC:U (U ((i:Int)+1)*p.ks)=(((i+1)*n:Nat):Int):=by
  rw [h.gw,gv (by omega),← Int.natCast_mul,cQ (by omega) (by omega)]
 have aD:(i+1)*n=i*n+n:=Nat.succ_mul i n
 unfold uY
 rw [aw,aC,Int.toNat_natCast,Int.toNat_natCast,h.oi]
 refine bK (by omega) (bK (by omega) (bK ⟨by omega,ad⟩ ?_))
 rw [show 0+i*n=i*n by omega,show (i+1)*n-i*n=n by omega]
theorem VJ {p:ov}{m n:Nat}{a:Nat→Nat→Int}{b:Nat→Int}(h:pC p m n a b){i:Nat}(ag:i<m)(aJ:b i<0)(x0:Int)(fh:Bool)(d6:List Int)(bk:List b6)(cV:List Int)(d5:List Bool)(P:List (List bg)):
 Dc x0 (i:Int) P.length (n+m+1) p.ln (i*n) n ((n:Nat):Int) p.ks p.c0 p.c1 p.kP fh d6 bk cV d5 0 (P++[bf (n+m+1) fun _=>bR 0])=some (P++[bf (n+m+1) fun j=>if j<n then bR (ej m n a b i j) else bR 0]):=by
 have hm:=h.hm
 have a1:=h.a1
 have bW:ma (b i) = -1:=by unfold ma;rw [if_pos aJ]
 unfold Dc
 obtain ⟨s1,aw,-⟩:=jz (f:=fun w:Int×List (List bg)=>xa x0 (i:Int) P.length (n+m+1) p.ln (i*n) n ((n:Nat):Int) p.ks p.c0 p.c1 p.kP fh d6 bk cV d5 w.1 w.2)
  (fun (k:Nat) (_:Unit)=>((k:Int),P++[bf (n+m+1) fun j=>if j<k then bR (ej m n a b i j) else bR 0])) n (fun _ _=>True) (fun _=>P++[bf (n+m+1) fun j=>if j<n then bR (ej m n a b i j) else bR 0])
  (fun k aX _ _=>by
    refine ⟨(),?_,trivial⟩
    have bt:=h.zk i ag k aX
    have e:U ((-1:Int)*a i k)=oj m n a b i k:=by
     rw [cQ (by omega) (by omega)];unfold oj;rw [if_pos aX,bW]
    unfold xa
    refine eh (by simp only;omega) (bK (by simp only;omega) (aB (x:=a i k) (by simp only;rw [Int.toNat_natCast];exact h.EX i ag k aX) (aB (x:=bR (ej m n a b i k)) (by rw [e];exact sN (by have:=A2 h ag k;rw [mq];omega)) (aB (JO _ _) (bK (by simp only;omega) (aB (by simp only;rw [Int.toNat_natCast];exact j5 (by omega)) ?_))))))
    simp only
    rw [gv (by omega),Int.toNat_natCast,Nat.zero_add,ll,yh]
    congr 5
    refine fr fun j _=> ?_
    by_cases bE:j=k
    ·subst bE;rw [if_pos rfl,if_pos (by omega)]
    ·rw [if_neg bE]
     by_cases cU:j<k
     ·rw [if_pos cU,if_pos (by omega)]
     ·rw [if_neg cU,if_neg (by omega)])
  (fun _ _=>by unfold xa;exact eK (by simp) rfl) () trivial
 have e0:(bf (n+m+1) fun j=>if j<0 then bR (ej m n a b i j) else bR 0)=bf (n+m+1) fun _=>bR 0:=fr fun j _=>by rw [if_neg (by omega)]
 rw [e0] at aw
 exact aw
theorem VK {p:ov}{m n:Nat}{a:Nat→Nat→Int}{b:Nat→Int}(h:pC p m n a b){i:Nat}(ag:i<m)(aJ:¬b i<0)(x0:Int)(fh:Bool)(d6:List Int)(bk:List b6)(cV:List Int)(d5:List Bool)(P:List (List bg)):
 Dd x0 (i:Int) P.length (n+m+1) p.ln (i*n) n ((n:Nat):Int) p.ks p.c0 p.c1 p.kP fh d6 bk cV d5 0 (P++[bf (n+m+1) fun _=>bR 0])=some (P++[bf (n+m+1) fun j=>if j<n then bR (ej m n a b i j) else bR 0]):=by
 have hm:=h.hm
 have a1:=h.a1
 have bW:ma (b i)=1:=by unfold ma;rw [if_neg aJ]
 unfold Dd
 obtain ⟨s1,aw,-⟩:=jz (f:=fun w:Int×List (List bg)=>xb x0 (i:Int) P.length (n+m+1) p.ln (i*n) n ((n:Nat):Int) p.ks p.c0 p.c1 p.kP fh d6 bk cV d5 w.1 w.2)
  (fun (k:Nat) (_:Unit)=>((k:Int),P++[bf (n+m+1) fun j=>if j<k then bR (ej m n a b i j) else bR 0])) n (fun _ _=>True) (fun _=>P++[bf (n+m+1) fun j=>if j<n then bR (ej m n a b i j) else bR 0])
  (fun k aX _ _=>by
    refine ⟨(),?_,trivial⟩
    have bt:=h.zk i ag k aX
    have e:U ((1:Int)*a i k)=oj m n a b i k:=by
     rw [cQ (by omega) (by omega)];unfold oj;rw [if_pos aX,bW]
    unfold xb
    refine eh (by simp only;omega) (bK (by simp only;omega) (aB (x:=a i k) (by simp only;rw [Int.toNat_natCast];exact h.EX i ag k aX) (aB (x:=bR (ej m n a b i k)) (by rw [e];exact sN (by have:=A2 h ag k;rw [mq];omega)) (aB (JO _ _) (bK (by simp only;omega) (aB (by simp only;rw [Int.toNat_natCast];exact j5 (by omega)) ?_))))))
    simp only
    rw [gv (by omega),Int.toNat_natCast,Nat.zero_add,ll,yh]
    congr 5
    refine fr fun j _=> ?_
    by_cases bE:j=k
    ·subst bE;rw [if_pos rfl,if_pos (by omega)]
    ·rw [if_neg bE]
     by_cases cU:j<k
     ·rw [if_pos cU,if_pos (by omega)]
     ·rw [if_neg cU,if_neg (by omega)])
  (fun _ _=>by unfold xb;exact eK (by simp) rfl) () trivial
 have e0:(bf (n+m+1) fun j=>if j<0 then bR (ej m n a b i j) else bR 0)=bf (n+m+1) fun _=>bR 0:=fr fun j _=>by rw [if_neg (by omega)]
 rw [e0] at aw
 exact aw
theorem o7 {α:Type}(n:Nat)(x:α):List.replicate n x=bf n fun _=>x:=by
 apply List.ext_getElem?
 intro i
 by_cases c:i<n
 ·rw [hq c];simp [c]
 ·rw [List.getElem?_eq_none_iff.2 (by simp;omega),List.getElem?_eq_none_iff.2 (by rw [dp];omega)]
theorem Nt {p:ov}{m n:Nat}{a:Nat→Nat→Int}{b:Nat→Int}(h:pC p m n a b)(fh:Bool)(d6:List Int)(d5:List Bool):
 De ((n+m:Nat):Int) p.ln p.ks p.c0 p.c1 p.kP fh d6 d5 0 ([]:List b6) ([]:List (List bg)) ([]:List Int)=some (gA m (n+m) (fun i=>i),bf m (fun i=>bf (n+m+1) fun j=>bR (ej m n a b i j)),eA m (pr m n a b)):=by
 have hm:=h.hm
 have a1:=h.a1
 unfold De
 obtain ⟨s,e,-⟩:=jz (f:=fun w:Int×(List b6)×(List (List bg))×(List Int)=>xc ((n+m:Nat):Int) p.ln p.ks p.c0 p.c1 p.kP fh d6 d5 w.1 w.2.1 w.2.2.1 w.2.2.2)
  (fun (i:Nat) (_:Unit)=>((i:Int),bf i (fun k=>(some (k,n+m+1):b6)),bf i (fun i=>bf (n+m+1) fun j=>bR (ej m n a b i j)),bf i (fun k=>((n+k:Nat):Int)))) m (fun _ _=>True)
  (fun _=>(gA m (n+m) (fun i=>i),bf m (fun i=>bf (n+m+1) fun j=>bR (ej m n a b i j)),eA m (pr m n a b)))
  (fun i ag _ _=>by
    refine ⟨(),?_,trivial⟩
    have aJ:=h.Cu i ag
    have jy:U (((n+m:Nat):Int)+1)=((n+m+1:Nat):Int):=gv (by omega)
    have hw:U (p.ks+(i:Int))=((n+i:Nat):Int):=by rw [h.gw,← Int.natCast_add,cQ (by omega) (by omega)]
    have R4:(bf i (fun i=>bf (n+m+1) fun j=>bR (ej m n a b i j))).length=i:=dp ..
    have st:oj m n a b i (n+m)=ma (b i)*b i:=by unfold oj;rw [if_neg (by omega),if_pos rfl]
    have dt:((bf (n+m+1) fun j=>if j<n then bR (ej m n a b i j) else bR 0).set (n+i) (bR ((1:Int):Rat))).set (n+m) (bR (ej m n a b i (n+m)))=bf (n+m+1) fun j=>bR (ej m n a b i j):=by
     rw [ll,ll]
     refine fr fun j aA=> ?_
     by_cases bE:j=n+m
     ·rw [if_pos bE,bE]
     ·rw [if_neg bE]
      by_cases cU:j=n+i
      ·rw [if_pos cU,cU,vu ag,if_pos rfl];rfl
      ·rw [if_neg cU]
       by_cases nI:j<n
       ·rw [if_pos nI]
       ·rw [if_neg nI]
        obtain ⟨k,rfl⟩ : ∃k,j=n+k:=⟨j-n,by omega⟩
        rw [vu (by omega),if_neg (by omega)]
    unfold xc
    rw [jy,hw,Int.toNat_natCast]
    refine eh (by simp only;rw [h.rows];omega) (bK (by omega) (bK (by simp only;rw [h.zl];omega) (aB (x:=b i) (by simp only [Int.toNat_natCast,Nat.zero_add];exact h.KD i ag) ?_)))
    have fin:(some (Sum.inl (U ((i:Int)+1),(bf i (fun k=>(some (k,n+m+1):b6)))++[some (i,n+m+1)],(bf i (fun i=>bf (n+m+1) fun j=>bR (ej m n a b i j)))++[bf (n+m+1) fun j=>bR (ej m n a b i j)],(bf i fun k=>((n+k:Nat):Int))++[((n+i:Nat):Int)])):Option ((Int×(List b6)×(List (List bg))×(List Int))⊕((List b6)×(List (List bg))×(List Int)))) =
     some (Sum.inl (((i+1:Nat):Int),bf (i+1) (fun k=>(some (k,n+m+1):b6)),bf (i+1) (fun i=>bf (n+m+1) fun j=>bR (ej m n a b i j)),bf (i+1) (fun k=>((n+k:Nat):Int)))):=by
     rw [gv (by omega),Ao i (fun k=>(some (k,n+m+1):b6)),Ao i (fun i=>bf (n+m+1) fun j=>bR (ej m n a b i j)),Ao i (fun k=>((n+k:Nat):Int))]
    have aa : ∀(P:List (List bg)) (F:List bg→Option ((Int×(List b6)×(List (List bg))×(List Int))⊕((List b6)×(List (List bg))×(List Int)))) (x:List bg) r,F x=r→(P++[x])[P.length]? >>= F=r:=fun P F x r tB=>aB (JO P x) tB
    refine Ck (fun c=> ?_) (fun c=> ?_)
    ·have q1:b i<0:=of_decide_eq_true c
     have bW:ma (b i) = -1:=by unfold ma;rw [if_pos q1]
     refine aB (PN h ag) (aB (by rw [PM,o7];exact VJ h ag q1 _ _ _ _ _ _ _) (aB (sN (n:=1) (by rw [mq];omega)) (aa _ _ _ _ ?_)))
     refine bK (by omega) (aB (x:=bR 0) (by rw [Int.toNat_natCast,j5 (by omega),if_neg (by omega)]) (aB (x:=bR (ej m n a b i (n+m))) (by
      have e:U ((-1:Int)*b i)=oj m n a b i (n+m):=by rw [st,bW,cQ (by omega) (by omega)]
      rw [e];exact sN (by have:=A2 h ag (n+m);rw [mq];omega)) ?_))
     rw [yh,Int.toNat_natCast,Nat.zero_add,Int.toNat_natCast,Nat.zero_add]
     refine aa _ _ _ _ (bK (by omega) ?_)
     obtain ⟨v,a2⟩ : ∃v,((bf (n+m+1) fun j=>if j<n then bR (ej m n a b i j) else bR 0).set (n+i) (bR ((1:Int):Rat)))[n+m]? = some v:=by
      rw [ll,hq (by omega)];exact ⟨_,rfl⟩
     refine aB a2 (bK (by simp only [List.length_append,dp,List.length_cons,List.length_nil];omega) (bK (by simp only [List.length_append,dp,List.length_cons,List.length_nil];omega) ?_))
     rw [yh]
     simp only [Int.toNat_natCast,Nat.zero_add]
     rw [dt,R4]
     exact fin
    ·have q1 : ¬b i<0:=of_decide_eq_false c
     have bW:ma (b i)=1:=by unfold ma;rw [if_neg q1]
     refine aB (PN h ag) (aB (by rw [PM,o7];exact VK h ag q1 _ _ _ _ _ _ _) (aB (sN (n:=1) (by rw [mq];omega)) (aa _ _ _ _ ?_)))
     refine bK (by omega) (aB (x:=bR 0) (by rw [Int.toNat_natCast,j5 (by omega),if_neg (by omega)]) (aB (x:=bR (ej m n a b i (n+m))) (by
      have e:U ((1:Int)*b i)=oj m n a b i (n+m):=by rw [st,bW,cQ (by omega) (by omega)]
      rw [e];exact sN (by have:=A2 h ag (n+m);rw [mq];omega)) ?_))
     rw [yh,Int.toNat_natCast,Nat.zero_add,Int.toNat_natCast,Nat.zero_add]
     refine aa _ _ _ _ (bK (by omega) ?_)
     obtain ⟨v,a2⟩ : ∃v,((bf (n+m+1) fun j=>if j<n then bR (ej m n a b i j) else bR 0).set (n+i) (bR ((1:Int):Rat)))[n+m]? = some v:=by
      rw [ll,hq (by omega)];exact ⟨_,rfl⟩
     refine aB a2 (bK (by simp only [List.length_append,dp,List.length_cons,List.length_nil];omega) (bK (by simp only [List.length_append,dp,List.length_cons,List.length_nil];omega) ?_))
     rw [yh]
     simp only [Int.toNat_natCast,Nat.zero_add]
     rw [dt,R4]
     exact fin)
  (fun _ _=>by unfold xc;exact eK (by simp only;rw [h.rows];omega) rfl) () trivial
 exact e
def qH (n j:Nat):Int:=if n≤j then -1 else 0
theorem Qk {m n j:Nat}(aA:j<n+m):((qH n j:Int):Rat)=iA m n j:=by
 unfold qH iA
 by_cases c:n≤j
 ·rw [if_pos c,if_pos ⟨c,aA⟩];rfl
 ·rw [if_neg c,if_neg (by omega)];rfl
theorem PO {m n:Nat}{t:cm}(f8:∀i,i<m→t.B i<n+m){j:Nat}(aA:j<n+m):t.dz m (fun j=>((qH n j:Int):Rat)) j=t.dz m (iA m n) j:=by
 unfold cm.dz
 simp only
 rw [Qk aA,fi (g:=fun i=>iA m n (t.B i)*t.T i j) fun i ag=>by rw [Qk (f8 i ag)]]
theorem NJ {p:ov}{m n:Nat}{a:Nat→Nat→Int}{b:Nat→Int}(h:pC p m n a b)(x0:Int)(fh:Bool)(d6:List Int)(bk:List b6)(cc:List (List bg))(cV:List Int):
 Df x0 ((n+m:Nat):Int) p.ln p.ks p.c0 p.c1 p.kP fh d6 bk cc cV 0 (bf (n+m) fun _=>(0:Int)) (bf (n+m) fun _=>false)=some (bf (n+m) (qH n),bf (n+m) fun j=>decide (j<n)):=by
 have hm:=h.hm
 have a1:=h.a1
 unfold Df
 obtain ⟨s,e,-⟩:=jz (f:=fun w:Int×List Int×List Bool=>xd x0 ((n+m:Nat):Int) p.ln p.ks p.c0 p.c1 p.kP fh d6 bk cc cV w.1 w.2.1 w.2.2)
  (fun (k:Nat) (_:Unit)=>((k:Int),(bf (n+m) fun j=>if j<k then qH n j else 0),bf (n+m) fun j=>if j<k then decide (j<n) else false)) (n+m) (fun _ _=>True) (fun _=>(bf (n+m) (qH n),bf (n+m) fun j=>decide (j<n)))
  (fun k aX _ _=>by
    refine ⟨(),?_,trivial⟩
    have aC:(bf (n+m) fun j=>if j<k then decide (j<n) else false).set (0+((k:Int)).toNat) (decide (k<n))=bf (n+m) fun j=>if j<k+1 then decide (j<n) else false:=by
     rw [Int.toNat_natCast,Nat.zero_add,ll]
     refine fr fun j _=> ?_
     by_cases c:j=k
     ·subst c;rw [if_pos rfl,if_pos (by omega)]
     ·rw [if_neg c]
      by_cases cU:j<k
      ·rw [if_pos cU,if_pos (by omega)]
      ·rw [if_neg cU,if_neg (by omega)]
    have L8:decide ((k:Int)<p.ks)=decide (k<n):=by rw [h.gw];simp
    unfold xd
    simp only
    rw [L8,aC,gv (by omega)]
    refine eh (by omega) (bK (by rw [dp];omega) (bK (by rw [dp,Int.toNat_natCast];omega) ?_))
    by_cases c:n≤k
    ·refine eh (by rw [h.gw];omega) (bK (by rw [dp];omega) (bK (by rw [dp,Int.toNat_natCast];omega) ?_))
     rw [Int.toNat_natCast,Nat.zero_add,ll]
     congr 4
     refine fr fun j _=> ?_
     by_cases bE:j=k
     ·subst bE;rw [if_pos rfl,if_pos (by omega)];unfold qH;rw [if_pos c]
     ·rw [if_neg bE]
      by_cases cU:j<k
      ·rw [if_pos cU,if_pos (by omega)]
      ·rw [if_neg cU,if_neg (by omega)]
    ·refine eK (by rw [h.gw];omega) ?_
     congr 4
     refine fr fun j _=> ?_
     by_cases bE:j=k
     ·subst bE;rw [if_neg (by omega),if_pos (by omega)];unfold qH;rw [if_neg c]
     ·by_cases cU:j<k
      ·rw [if_pos cU,if_pos (by omega)]
      ·rw [if_neg cU,if_neg (by omega)])
  (fun _ _=>by
    unfold xd
    refine eK (by simp) ?_
    simp only
    congr 3
    ·exact fr fun j aA=>by rw [if_pos aA]
    ·exact fr fun j aA=>by rw [if_pos aA]) () trivial
 have rX:(bf (n+m) fun j=>if j<0 then qH n j else 0)=bf (n+m) fun _=>(0:Int):=fr fun j _=>by rw [if_neg (by omega)]
 have Cw:(bf (n+m) fun j=>if j<0 then decide (j<n) else false)=bf (n+m) fun _=>false:=fr fun j _=>by rw [if_neg (by omega)]
 rw [rX,Cw] at e
 exact e
theorem VM {p:ov}{m n:Nat}{a:Nat→Nat→Int}{b:Nat→Int}(h:pC p m n a b){w:Rat}{t:cm}(f:oK m (n+m) w t){d9:List (List bg)}(f9:kT m (n+m) m (fun i=>i) w t d9)(fh:Bool)(d6:List Int)(x0:Int)(q:List Bool):
 ∃r,Dg ((n+m:Nat):Int) ((m:Nat):Int) p.ln p.ks p.c0 p.c1 p.kP fh d6 x0 (eA m t) (gA m (n+m) fun i=>i) d9 q 0=some r∧((r = .inr ()∧ ∃i,i<m∧n≤t.B i∧0<t.T i (n+m))∨(r = .inl ()∧ ∀i,i<m→n≤t.B i→ ¬0<t.T i (n+m))):=by
 have hm:=h.hm
 have a1:=h.a1
 have hw:=f.pos
 unfold Dg
 exact sP (f:=fun w:Int=>xe ((n+m:Nat):Int) ((m:Nat):Int) p.ln p.ks p.c0 p.c1 p.kP fh d6 x0 (eA m t) (gA m (n+m) fun i=>i) d9 q w) (fun (i:Nat) (_:Unit)=>(i:Int)) m (fun k _=> ∀i,i<k→n≤t.B i→ ¬0<t.T i (n+m)) _
  (fun i ag _ dv=>by
    have bW:=tU ((f.ht i ag (n+m) (Nat.le_refl _)).mono (tc (by have:=qT;generalize eo=q at *;omega)))
    have g1:0≤(i:Int)∧(i:Int)<((eA m t).length:Nat):=by unfold eA;rw [dp];omega
    have g2:(eA m t)[(0+((i:Int)).toNat)]? = some ((t.B i:Nat):Int):=by rw [Int.toNat_natCast];exact j5 ag
    have g3:0≤(i:Int)∧(i:Int)<((gA m (n+m) fun i=>i).length:Nat):=by unfold gA;rw [dp];omega
    have g4:(gA m (n+m) fun i=>i)[(0+((i:Int)).toNat)]? = some (some (i,n+m+1)):=by rw [Int.toNat_natCast];exact j5 ag
    unfold xe
    by_cases FM:n≤t.B i
    ·by_cases kw:0<t.T i (n+m)
     ·right
      exact ⟨_,eh (by omega) (bK g1 (aB g2 (eh (by rw [h.gw];omega) (bK g3 (aB g4 (aB (x:=(i,n+m+1)) rfl (aB (f9.row i ag) (bK (by simp only;omega) (aB (x:=bR (t.T i (n+m)*w)) (by rw [Int.toNat_natCast];exact j5 (by omega)) (aB bW (eh (by rw [yg hw];exact tT.2 kw) rfl))))))))))),.inl ⟨rfl,i,ag,FM,kw⟩⟩
     ·left
      refine ⟨(),eh (by omega) (bK g1 (aB g2 (eh (by rw [h.gw];omega) (bK g3 (aB g4 (aB (x:=(i,n+m+1)) rfl (aB (f9.row i ag) (bK (by simp only;omega) (aB (x:=bR (t.T i (n+m)*w)) (by rw [Int.toNat_natCast];exact j5 (by omega)) (aB bW (eK (by rw [yg hw];exact fun c=>kw (tT.1 c)) (by rw [gv (by omega)])))))))))))),fun k aX=> ?_⟩
      by_cases e:k=i
      ·rw [e];exact fun _=>kw
      ·exact dv k (by omega)
    ·left
     refine ⟨(),eh (by omega) (bK g1 (aB g2 (eK (by rw [h.gw];omega) (by rw [gv (by omega)])))),fun k aX=> ?_⟩
     by_cases e:k=i
     ·rw [e];exact fun c=>(FM c).elim
     ·exact dv k (by omega))
  (fun _ dv=>⟨_,by unfold xe;exact eK (by omega) rfl,.inr ⟨rfl,dv⟩⟩) () (fun k aX=>by omega)
theorem VN {p:ov}{m n:Nat}{a:Nat→Nat→Int}{b:Nat→Int}(h:pC p m n a b)(F:Nat→Bool)(fh:Bool)(d6:List Int)(x0:Int)(bk:List b6)(cc:List (List bg))(cV:List Int):
 Dh ((n+m:Nat):Int) p.ln p.ks p.c0 p.c1 p.kP fh d6 x0 bk cc cV 0 (bf (n+m) F)=some (bf (n+m) fun j=>decide (j<n)):=by
 have hm:=h.hm
 have a1:=h.a1
 unfold Dh
 obtain ⟨s,e,-⟩:=jz (f:=fun w:Int×List Bool=>xf ((n+m:Nat):Int) p.ln p.ks p.c0 p.c1 p.kP fh d6 x0 bk cc cV w.1 w.2)
  (fun (k:Nat) (_:Unit)=>((k:Int),bf (n+m) fun j=>if j<k then decide (j<n) else F j)) (n+m) (fun _ _=>True) (fun _=>bf (n+m) fun j=>decide (j<n))
  (fun k aX _ _=>by
    refine ⟨(),?_,trivial⟩
    have L8:decide ((k:Int)<p.ks)=decide (k<n):=by rw [h.gw];simp
    unfold xf
    simp only
    rw [L8,gv (by omega)]
    refine eh (by omega) (bK (by rw [dp];omega) (bK (by rw [dp,Int.toNat_natCast];omega) ?_))
    rw [Int.toNat_natCast,Nat.zero_add,ll]
    congr 3
    refine fr fun j _=> ?_
    by_cases c:j=k
    ·subst c;rw [if_pos rfl,if_pos (by omega)]
    ·rw [if_neg c]
     by_cases cU:j<k
     ·rw [if_pos cU,if_pos (by omega)]
     ·rw [if_neg cU,if_neg (by omega)])
  (fun _ _=>by
    unfold xf
    refine eK (by simp) ?_
    simp only
    congr 2
    exact fr fun j aA=>by rw [if_pos aA]) () trivial
 have rX:(bf (n+m) fun j=>if j<0 then decide (j<n) else F j)=bf (n+m) F:=fr fun j _=>by rw [if_neg (by omega)]
 rw [rX] at e
 exact e
theorem R5 {m n:Nat}{a:Nat→Nat→Int}{b:Nat→Int}:hg m (ej m n a b) (pr m n a b)=1:=by
 unfold hg;rw [Qg,if_pos (by grind)]
theorem Pd {p:ov}{m n:Nat}{a:Nat→Nat→Int}{b:Nat→Int}(h:pC p m n a b):
 ∃r,xJ p.ln p.ks p.c0 p.c1 p.kP=some r∧((oI m n a b∧ ∃t a4 g d9,r = .inl ((bR (hg m (ej m n a b) t)).du,(bR (hg m (ej m n a b) t)).cY,((n+m:Nat):Int),gA a4 (n+m) g,eA a4 (iB g t),bf (n+m) (fun j=>decide (j<n)),d9) ∧
  nX m n (n+m) (ej m n a b) t a4 g∧(∀i,i<a4→t.B (g i)<n)∧kT a4 (n+m) m g (hg m (ej m n a b) t) (iB g t) d9)∨(¬oI m n a b∧r = .inr ())):=by
 have hm:=h.hm
 have a1:=h.a1
 have li:=OG h
 have fC:U (p.ks+p.ln)=((n+m:Nat):Int):=by rw [h.gw,h.rows,← Int.natCast_add,cQ (by omega) (by omega)]
 have acI:kT m (n+m) m (fun i=>i) (hg m (ej m n a b) (pr m n a b)) (pr m n a b) (bf m (fun i=>bf (n+m+1) fun j=>bR (ej m n a b i j))):=⟨dp ..,fun i ag=>by
  rw [hq ag,R5]
  congr 1
  exact fr fun j _=>by
   show bR (ej m n a b i j)=bR (ej m n a b i j*1)
   congr 1;grind⟩
 obtain ⟨q,bG,t,d9,kW,e,⟨dv,rfl⟩,f9,ee⟩:=NI (ei:=m) (m:=m) (N:=n+m) (M:=m) (A:=ej m n a b) hm (by omega) (h:=fun i=>i) (fun i _ k _ e=>e) (qH n) (fun j _=>by unfold qH;split<;>omega) (fun j=>decide (j<n))
  (fun w t=>pT m (n+m) (ej m n a b) t∧w=hg m (ej m n a b) t) (fun w t dv=>⟨dv.1.ok,dv.1.mh,dv.2▸dv.1.q2 li⟩)
  (fun w t r s dv b=>by
    obtain ⟨o,rfl⟩:=dv
    have ah:t.T r s≠0:=by have:=b.pos;grind
    exact ⟨o.vF li b.ap b.bW ah,o.hb b,J6 o.ok o.wz b.ap b.bW ah⟩)
  (w:=hg m (ej m n a b) (pr m n a b)) (t:=pr m n a b) ⟨⟨YN,WZ,X0⟩,rfl⟩ acI
 rw [R5] at e
 have KF : ∀j,j<n→t.dz m (iA m n) j≤0:=by
  rcases ee with ⟨-,ee,-⟩|⟨-,s,bW,-,dN,hl⟩
  ·intro j aA
   have:=ee j (by omega) (by simpa using aA)
   rw [PO dv.ok.ki (by omega)] at this
   grind
  ·rw [PO dv.ok.ki bW] at dN
   obtain ⟨i,ag,ah⟩:=VF dv.ok bW dN
   exact (hl i ag ah).elim
 have aw:oq 1=some (bR 1):=by
  have:=sN (n:=1) (by rw [mq];omega)
  rw [show ((1:Int):Rat)=1 from rfl] at this
  exact this
 obtain ⟨r,an,cb⟩:=VM h (dv.q2 li) f9 (bR (hg m (ej m n a b) t)).du (bR (hg m (ej m n a b) t)).cY ((n+m:Nat):Int) (bf (n+m) kW)
 unfold xJ
 rw [fC]
 rcases cb with ⟨rfl,i,ag,f8,ht⟩|⟨rfl,hl⟩
 ·have Bu : ¬oI m n a b:=fun bW=>by
   have:=V3 dv.mh (Wt dv.ok dv.mh KF bW) dv.ok.ki i ag f8
   grind
  refine ⟨_,aB aw (bK (by omega) (aB (Nt h _ _ _) (bK (by omega) (aB (x:=(bf (n+m) (qH n),bf (n+m) fun j=>decide (j<n))) (by rw [Int.toNat_natCast,o7,o7];exact NJ h _ _ _ _ _ _) (aB e ?_))))),.inr ⟨Bu,rfl⟩⟩
  refine aB (x:= .inr ()) ?_ rfl
  simp only
  rw [show ((eA m t).length:Nat)=m from dp ..]
  exact an
 ·have cd : ∀i,i<m→n≤t.B i→t.T i (n+m)=0:=fun i ag f8=>by
   have o:=hl i ag f8
   have R:=dv.mh i ag
   grind
  have bW:oI m n a b:=V2 dv.ok dv.mh cd
  obtain ⟨dE,a4,g,jG,mG,qB,L2,j4⟩:=Xm (n:=n) li (by omega) (by omega) (bf (n+m) fun j=>decide (j<n)) dv cd f9
  refine ⟨_,aB aw (bK (by omega) (aB (Nt h _ _ _) (bK (by omega) (aB (x:=(bf (n+m) (qH n),bf (n+m) fun j=>decide (j<n))) (by rw [Int.toNat_natCast,o7,o7];exact NJ h _ _ _ _ _ _) (aB e ?_))))),.inl ⟨bW,dE,a4,g,jG,rfl,qB,L2,j4⟩⟩
  refine aB (x:= .inl ()) ?_ ?_
  ·simp only
   rw [show ((eA m t).length:Nat)=m from dp ..]
   exact an
  ·simp only
   rw [show ((bf (n+m) kW).length:Nat)=n+m from dp ..]
   refine aB (VN h kW _ _ _ _ _ _) ?_
   rw [h.gw]
   exact aB mG rfl
structure pD (m:Nat) (u v:cm):Prop where
 T : ∀i,i<m→ ∀j,u.T i j=v.T i j
 B : ∀i,i<m→u.B i=v.B i
theorem pD.q2 {m N:Nat}{w:Rat}{u v:cm}(s:pD m u v)(h:oK m N w v):oK m N w u :=
 ⟨h.pos,h.hw,fun i ag j aA=>by rw [s.T i ag];exact h.ht i ag j aA,fun i ag=>by rw [s.B i ag];exact h.f8 i ag⟩
theorem pD.c4 {m:Nat}{u v:cm}(s:pD m u v){r:Nat}(ap:r<m)(k:Nat):pD m (u.c4 r k) (v.c4 r k) where
 T:=fun i ag j=>by simp only [cm.c4,s.T i ag,s.T r ap]
 B:=fun i ag=>by simp only [cm.c4,s.B i ag]
theorem pD.vF {m N:Nat}{w:Rat}{u v:cm}(s:pD m u v){r k:Nat}(h:td m N w v r k):td m N w u r k :=
 ⟨h.ap,h.aX,by rw [s.T r h.ap];exact h.ah,fun i ag j aA=>by rw [(s.c4 h.ap k).T i ag,s.T r h.ap];exact h.ze i ag j aA⟩
theorem pD.trans {m:Nat}{u v t:cm}(a:pD m u v)(b:pD m v t):pD m u t:=⟨fun i ag j=>(a.T i ag j).trans (b.T i ag j),fun i ag=>(a.B i ag).trans (b.B i ag)⟩
theorem YV {a4:Nat}{g:Nat→Nat}(inj:∀i,i<a4→ ∀k,k<a4→g i=g k→i=k)(t:cm){r:Nat}(ap:r<a4)(k:Nat):pD a4 ((iB g t).c4 r k) (iB g (t.c4 (g r) k)) :=
 ⟨fun i ag j=>(At (t:=t) (k:=k) (inj i ag r ap)).1 j,fun i ag=>(At (t:=t) (k:=k) (inj i ag r ap)).2⟩
theorem Ql {m n:Nat}{a:Nat→Nat→Int}{b:Nat→Int}{x:Nat→Rat}{c:Nat}:bZ n (fun j=>ej m n a b c j*x j)=((ma (b c):Int):Rat)*bZ n (fun j=>(a c j:Rat)*x j):=by
 rw [← ic]
 exact fi fun j aA=>by rw [J1 aA];grind
theorem nX.ZO {m n:Nat}{a:Nat→Nat→Int}{b:Nat→Int}{t:cm}{a4:Nat}{g:Nat→Nat}(h:nX m n (n+m) (ej m n a b) t a4 g)(f8:∀i,i<a4→t.B (g i)<n):LT m n a b a4 (n+m) (iB g t) where
 eqv:=fun x=>by
  have key:(∀i,i<m→bZ n (fun j=>(a i j:Rat)*x j)=(b i:Rat))↔ ∀i,i<m→bZ n (fun j=>ej m n a b i j*x j)=ej m n a b i (n+m):=by
   constructor
   ·intro aa i ag;rw [Ql,Ev,aa i ag]
   ·intro aa i ag
    have:=aa i ag
    rw [Ql,Ev] at this
    have h0:=Qf (b i)
    have e:((ma (b i):Int):Rat)*(bZ n (fun j=>(a i j:Rat)*x j)-(b i:Rat))=0:=by grind
    rcases Rat.mul_eq_zero.1 e with e|e
    ·exact (h0 e).elim
    ·grind
  rw [key]
  constructor
  ·intro aa i ag
   obtain ⟨W,hW⟩:=h.inv.ok.row
   show bZ n (fun j=>t.T (g i) j*x j)=t.T (g i) (n+m)
   rw [hW (g i) (h.lt i ag) (n+m) (Nat.le_refl _),fi (g:=fun j=>bZ m (fun c=>W (g i) c*(ej m n a b c j*x j))) (fun j aA=>by
    rw [hW (g i) (h.lt i ag) j (by omega),← vc];exact fi fun c _=>by grind),pL]
   exact fi fun c aP=>by rw [ic,aa c aP]
  ·intro aa c aP
   have row : ∀i,i<m→bZ n (fun j=>t.T i j*x j)=t.T i (n+m):=fun i ag=>by
    by_cases bS : ∃q,q<a4∧g q=i
    ·obtain ⟨q,a6,rfl⟩:=bS
     exact aa q a6
    ·obtain ⟨qE,pF⟩:=h.dead i ag fun q a6 e=>bS ⟨q,a6,e⟩
     rw [h.z i ag qE]
     exact nN fun j aA=>by rw [pF j aA];grind
   rw [h.inv.ok.ra c aP (n+m) (Nat.le_refl _),fi (g:=fun j=>bZ m (fun i=>ej m n a b c (t.B i)*(t.T i j*x j))) (fun j aA=>by
    rw [h.inv.ok.ra c aP j (by omega),← vc];exact fi fun i _=>by grind),pL]
   exact fi fun i ag=>by rw [ic,row i ag]
 unit:=fun i ag k aX=>by
  show t.T (g i) (t.B (g k))=_
  rw [h.inv.ok.unit _ (h.lt i ag) _ (h.lt k aX)]
  by_cases c:i=k
  ·rw [if_pos c,if_pos (by rw [c])]
  ·rw [if_neg c,if_neg fun e=>c (h.inj i ag k aX e)]
 ki:=f8
 mh:=fun i ag=>h.inv.mh _ (h.lt i ag)
 L1:=by omega
theorem nX.step {m n:Nat}{a:Nat→Nat→Int}{b:Nat→Int}{t:cm}{a4:Nat}{g:Nat→Nat}{K:Nat}{obj:Nat→Nat→Rat}{bS:Nat→Prop}(h:nX m n (n+m) (ej m n a b) t a4 g)(f8:∀i,i<a4→t.B (g i)<n){u:cm}(bW:pD a4 u (iB g t)){r s:Nat}(c5:pP a4 (n+m) K obj bS u r s)(vU:s<n):
 nX m n (n+m) (ej m n a b) (t.c4 (g r) s) a4 g∧(∀i,i<a4→(t.c4 (g r) s).B (g i)<n)∧pD a4 (u.c4 r s) (iB g (t.c4 (g r) s)):=by
 have ap:=c5.ap
 have ah:0<t.T (g r) s:=by have:=c5.pos;rw [bW.T r ap] at this;exact this
 have zd:t.T (g r) s≠0:=by grind
 have Q7:=(bW.c4 ap s).trans (YV h.inj t ap s)
 have FN : ∀d,d<m→(∀i,i<a4→g i≠d)→ ∀j,(t.c4 (g r) s).T d j=t.T d j∧(t.c4 (g r) s).B d=t.B d:=fun d bh hl j=>by
  obtain ⟨qE,pF⟩:=h.dead d bh hl
  simp only [cm.c4]
  rw [if_neg fun e=>hl r ap e.symm,if_neg fun e=>hl r ap e.symm,pF s vU]
  exact ⟨by grind,rfl⟩
 have pU : ∀i,i<a4→(t.c4 (g r) s).B (g i)<n:=fun i ag=>by
  simp only [cm.c4]
  split
  ·exact vU
  ·exact f8 i ag
 have acJ:(u.c4 r s).lq a4 (n+m):=c5.Bo fun i ag=>by rw [bW.T i ag];exact h.inv.mh _ (h.lt i ag)
 refine ⟨⟨⟨h.inv.ok.c4 (h.lt r ap) (by omega) zd,fun i ag=> ?_,?_⟩,fun i ag a1=> ?_,h.le,h.lt,h.inj,fun d bh hl=> ?_⟩,pU,Q7⟩
 ·by_cases bS : ∃q,q<a4∧g q=i
  ·obtain ⟨q,a6,rfl⟩:=bS
   have:=acJ q a6
   rw [Q7.T q a6] at this;exact this
  ·rw [(FN i ag (fun q a6 e=>bS ⟨q,a6,e⟩) _).1];exact h.inv.mh i ag
 ·rw [h.inv.ok.A0 (h.lt r ap) (by omega)]
  have:=h.inv.wz
  grind
 ·by_cases bS : ∃q,q<a4∧g q=i
  ·obtain ⟨q,a6,rfl⟩:=bS
   have:=pU q a6;omega
  ·have hl : ∀q,q<a4→g q≠i:=fun q a6 e=>bS ⟨q,a6,e⟩
   obtain ⟨aw,aC⟩:=FN i ag hl (n+m)
   rw [aw]
   rw [aC] at a1
   exact h.z i ag a1
 ·obtain ⟨qE,pF⟩:=h.dead d bh hl
  refine ⟨by rw [(FN d bh hl 0).2];exact qE,fun j aA=>by rw [(FN d bh hl j).1];exact pF j aA⟩
structure pE (m n:Nat) (a:Nat→Nat→Int) (b:Nat→Int) (a4:Nat) (g:Nat→Nat) (iu:Nat→Nat→Rat) (dj:Nat→Bool) (w:Rat) (u:cm):Prop where
 bS : ∃t,nX m n (n+m) (ej m n a b) t a4 g∧(∀i,i<a4→t.B (g i)<n)∧pD a4 u (iB g t)∧w=hg m (ej m n a b) t
 lt:LT m n a b a4 (n+m) u
 ok:gf a4 a4 (n+m) iu u
 L9 : ∀i,i<a4→dj (u.B i)=true
theorem pE.q2 {m n:Nat}{a:Nat→Nat→Int}{b:Nat→Int}{a4:Nat}{g:Nat→Nat}{iu:Nat→Nat→Rat}{dj:Nat→Bool}{w:Rat}{u:cm}(li:Small m (n+m) (ej m n a b))(h:pE m n a b a4 g iu dj w u):oK a4 (n+m) w u:=by
 obtain ⟨t,o,R,ad,rfl⟩:=h.bS
 exact ad.q2 (o.q2 li)
theorem pE.hb {m n:Nat}{a:Nat→Nat→Int}{b:Nat→Int}{a4:Nat}{g:Nat→Nat}{iu:Nat→Nat→Rat}{dj kW:Nat→Bool}{w:Rat}{u:cm}{obj:Nat→Nat→Rat}{K:Nat}(li:Small m (n+m) (ej m n a b))(h:pE m n a b a4 g iu kW w u)(pY:∀j,j<n+m→dj j=true→j<n)(acK:∀j,dj j=true→kW j=true){r s:Nat}(c5:pP a4 (n+m) K obj (fun j=>dj j=true) u r s):
 td a4 (n+m) w u r s∧pE m n a b a4 g iu kW (pv w u r s) (u.c4 r s):=by
 obtain ⟨t,o,R,ad,aD⟩:=h.bS
 have vU:=pY s c5.bW c5.Fh
 obtain ⟨g1,g2,g3⟩:=o.step R ad c5 vU
 have ah:=c5.pos
 have R6:t.T (g r) s≠0:=by rw [ad.T r c5.ap] at ah;show t.T (g r) s≠0;have:0<t.T (g r) s:=ah;grind
 refine ⟨aD▸ad.vF (o.vF li c5.ap (by omega) R6),⟨t.c4 (g r) s,g1,g2,g3,?_⟩,h.lt.c4 c5.ap vU (by grind) (c5.Bo h.lt.mh),c5.ok h.ok,fun i ag=> ?_⟩
 ·rw [← J6 o.inv.ok o.inv.wz (o.lt r c5.ap) (show s<n+m by omega) R6,aD]
  unfold pv
  rw [ad.T r c5.ap];rfl
 ·simp only [cm.c4]
  split
  ·exact acK s c5.Fh
  ·exact h.L9 i ag
theorem Pe {m n:Nat}{a:Nat→Nat→Int}{b:Nat→Int}{a4:Nat}{g:Nat→Nat}(hm:m≤20)(a1:n≤40)(li:Small m (n+m) (ej m n a b)){iu:Nat→Nat→Rat}{dj:Nat→Bool}{w:Rat}{u:cm}(h:pE m n a b a4 g iu dj w u)(pY:∀j,j<n+m→dj j=true→j<n)(inj:∀i,i<a4→ ∀k,k<a4→g i=g k→i=k)(kV:a4≤m)
 (I:Nat→Int) (ak : ∀j,-100≤I j∧I j≤100) {c:Nat→Rat} {l:Nat} {V:Nat→Rat} (acL : ∀j,((I j:Int):Rat)=iq c l j) (s:px m n a b c l dj V) {d9:List (List bg)} (f9:kT a4 (n+m) m g w u d9) :
 ∃ok bG lg jG kW,sB (bR w).du (bR w).cY ((n+m:Nat):Int) (gA a4 (n+m) g) d9 (eA a4 u) (bf (n+m) dj) (bf (n+m) I)=some (ok,(bR bG).du,(bR bG).cY,jG,eA a4 lg,bf (n+m) kW)∧kT a4 (n+m) m g bG lg jG ∧
  ((ok=true∧pE m n a b a4 g iu kW bG lg∧(∀j,j<n+m→kW j=true→j<n)∧ ∃Cm,px m n a b c (l+1) kW Cm)∨(ok=false∧LT m n a b a4 (n+m) lg∧ ∃q,q<n∧0<lg.dz a4 (iq c l) q∧ ∀i,i<a4→ ¬0<lg.T i q)):=by
 have acM:(fun j=>((I j:Int):Rat))=iq c l:=funext acL
 obtain ⟨ok,bG,lg,jG,kW,e,dv,B9,ee⟩:=NI (ei:=a4) (m:=a4) (N:=n+m) (M:=m) (A:=iu) (h:=g) (by omega) (by omega) inj I (fun j _=>ak j) dj
  (fun w u=>pE m n a b a4 g iu dj w u) (fun w u dq=>⟨dq.ok,dq.lt.mh,dq.q2 li⟩)
  (fun w u r q dq c5=>dq.hb li pY (fun j aA=>aA) c5) h f9
 rw [acM] at ee
 refine ⟨ok,bG,lg,jG,kW,e,B9,?_⟩
 rcases ee with ⟨o,R,ad⟩|⟨o,q,R,b9,ad,aD⟩
 ·left
  have KG : ∀j,kW j=true→dj j=true:=fun j aA=>by rw [ad,Bool.and_eq_true] at aA;exact aA.1
  refine ⟨o,⟨dv.bS,dv.lt,dv.ok,fun i ag=> ?_⟩,fun j aA sl=>pY j aA (KG j sl),px.next dv.lt s (fun j aA b9=>R j (by omega) b9) (fun j aA=>by rw [ad])⟩
  rw [ad]
  simp only
  rw [dv.L9 i ag,dv.lt.xO _ ag,decide_eq_false (by grind)];rfl
 ·right
  exact ⟨o,dv.lt,q,pY q R b9,ad,aD⟩
def di (x:Rat):Option bB:=some (kZ (gz x))
theorem ZP {n d:Int}{x:Rat}(bh:0<d)(e:(d:Rat)*x=n):(n / (Int.gcd n d:Int),d / (Int.gcd n d:Int))=gz x:=by
 have tf:(d:Rat)≠0:=fun c=>by
  have:d=0:=Rat.intCast_inj.1 (by rw [c];rfl)
  omega
 have aa:x=Rat.divInt n d:=by rw [Rat.divInt_eq_div,← e];grind
 have aw:(Rat.divInt n d).num=n / (Int.gcd n d:Int):=by rw [Rat.num_divInt,Int.sign_eq_one_of_pos bh,Int.one_mul,Int.gcd_comm]
 have aC:((Rat.divInt n d).den:Int)=d / (Int.gcd n d:Int):=by
  rw [Rat.den_divInt,if_neg (by omega),Int.gcd_comm]
  rw [Int.natCast_ediv,Int.natAbs_of_nonneg (by omega)]
 rw [aa];unfold gz;rw [aw,aC]
theorem D7 {n d:Int}{x:Rat}(bh:0<d)(e:(d:Rat)*x=n)(a1:(n.natAbs:Int)<B 50)(vP:d<B 50):qa (hk n) (L d)=some (di x):=by
 have mG:=(jo (k:=50) (by omega)).2 a1
 have qB:=(jo (k:=50) (by omega)).2 vP
 rw [Xg bh (by omega) (by omega),ZP bh e];rfl
theorem sa {n:Int}(h:mZ n):mn n=some (di (n:Rat)):=by
 rw [Ya h];unfold di gz;rw [Rat.num_intCast,Rat.den_intCast];rfl
theorem D8 {a b:Int}(bt:0≤a)(aJ:0≤b)(o:a<B 24)(R:b<B 24):a*b<B 48:=by
 have e:B 48=B 24*B 24:=by decide +kernel
 rw [e]
 exact Int.lt_of_le_of_lt (Int.mul_le_mul_of_nonneg_left (Int.le_of_lt R) bt) (Int.mul_lt_mul_of_pos_right o (by omega))
theorem PP {x y:Rat}(aa:fS x)(aK:fS y):xw (di x) (di y)=some (di (x*y)):=by
 have p:=aa.dj
 have q:=aK.dj
 have o:=p.ul
 have R:=p.um
 have ad:=q.ul
 have aD:=q.um
 have aM:=p.pos
 have bq:=q.pos
 have f8:=J4
 have Q8:=oC 48
 have gi:=D8 (by omega) (by omega) p.num q.num
 have gB:=D8 (by omega) (by omega) p.den q.den
 have qF:(((gz x).1*(gz y).1).natAbs:Int)<B 48:=by rw [Int.natAbs_mul];exact gi
 have bW:xw (some (kZ (gz x))) (some (kZ (gz y)))=((o0 (hk (gz x).1) (hk (gz y).1)).bind fun bp=>(pM (L (gz x).2) (L (gz y).2)).bind fun bH=>(qa bp bH).bind fun bs=>some bs):=rfl
 unfold di
 rw [bW,OB (by omega) (by omega),Option.bind_some,Ap (kI _) (kI _) (by omega) (by omega),fs (by omega),fs (by omega),Option.bind_some,D7 (x:=x*y) (Int.mul_pos aM bq) ?_ (by omega) (by omega)]
 ·rfl
 ·have:=yf x
  have:=yf y
  simp only [gz,Rat.intCast_mul]
  grind
theorem Qm {x y:Rat}(aa:fS x)(aK:fS y):xz (di x) (di y)=some (di (x+y)):=by
 have p:=aa.dj
 have q:=aK.dj
 have o:=p.ul
 have R:=p.um
 have ad:=q.ul
 have aD:=q.um
 have aM:=p.pos
 have bq:=q.pos
 have f8:=J4
 have Q8:=oC 48
 obtain ⟨bE,-,-⟩:=D6 p q
 obtain ⟨qE,-,-⟩:=D6 q p
 have gB:=D8 (by omega) (by omega) p.den q.den
 have bW:xz (some (kZ (gz x))) (some (kZ (gz y)))=((qI (some (kZ (gz x))) (L (gz y).2)).bind fun aZ=>(qI (some (kZ (gz y))) (L (gz x).2)).bind fun bH=>(tJ aZ bH).bind fun bs=>(pM (L (gz x).2) (L (gz y).2)).bind fun fk=>(qa bs fk).bind fun fF=>some fF):=rfl
 unfold di
 rw [bW,DU (by omega) (by omega) (by omega),Option.bind_some,DU (by omega) (by omega) (by omega),Option.bind_some,O8 (by omega) (by omega),Option.bind_some,Ap (kI _) (kI _) (by omega) (by omega),fs (by omega),fs (by omega),Option.bind_some,D7 (x:=x+y) (Int.mul_pos aM bq) ?_ (by omega) (by omega)]
 ·rfl
 ·have:=yf x
  have:=yf y
  simp only [gz,Rat.intCast_mul,Rat.intCast_add]
  grind
theorem Kg {x:Rat}(h:fS x):tP (di x)=some (di x):=by
 have:=h.dj
 unfold di
 rw [show kZ (gz x)=kZ ((gz x).1,(gz x).2) from rfl,ZI (Int.le_of_lt this.pos),if_pos ⟨this.num,this.den⟩];rfl
def n2 (n:Nat)(c:Nat→Int)(l j:Nat):Int:=match l with
 | 0=>if j<n then c j else 0
 | l+1=>if j=l then -1 else 0
def mT (n:Nat)(c:Nat→Int)(j:Nat):Rat:=((n2 n c 0 j:Int):Rat)
theorem Pf (n:Nat)(c:Nat→Int)(l j:Nat):((n2 n c l j:Int):Rat)=iq (mT n c) l j:=by
 cases l with
 | zero=>rfl
 | succ l=>simp only [n2,iq];split<;>rfl
theorem PQ {n:Nat}{c:Nat→Int}(h:∀j,j<n→ -100≤c j∧c j≤100)(l j:Nat): -100≤n2 n c l j∧n2 n c l j≤100:=by
 cases l with
 | zero =>
  simp only [n2]
  split
  ·exact h j ‹_›
  ·omega
 | succ l=>simp only [n2];split<;>omega
def KH (m n:Nat)(a:Nat→Nat→Int)(b c:Nat→Int)(a4:Nat)(g:Nat→Nat)(iu:Nat→Nat→Rat)(l:Nat)(s:Bool×List Int×List Int×List (List bg)×List Int×List Bool):Prop :=
 ∃w u d9 dj V I,s=((bR w).du,(bR w).cY,bf (n+m) I,d9,eA a4 u,bf (n+m) dj)∧pE m n a b a4 g iu dj w u∧(∀j,j<n+m→dj j=true→j<n)∧kT a4 (n+m) m g w u d9∧px m n a b (mT n c) l dj V
theorem WK {m n:Nat}{a:Nat→Nat→Int}{b c:Nat→Int}{a4:Nat}{g:Nat→Nat}{iu:Nat→Nat→Rat}(hm:m≤20)(a1:n≤40)(li:Small m (n+m) (ej m n a b))(aP:∀j,j<n→ -100≤c j∧c j≤100)(x0:Int)(fh d6 mS:List Int)(k:Nat)(aX:k<n)(s:Bool×List Int×List Int×List (List bg)×List Int×List Bool)(bW:KH m n a b c a4 g iu (k+1) s):
 ∃bL,uV (n:Int) x0 fh d6 mS ((n+m:Nat):Int) (gA a4 (n+m) g) (k:Int) s.1 s.2.1 s.2.2.1 s.2.2.2.1 s.2.2.2.2.1 s.2.2.2.2.2=some (.inl (((k+1:Nat):Int),bL))∧KH m n a b c a4 g iu (k+2) bL:=by
 obtain ⟨w,u,d9,dj,V,I,rfl,dq,pY,f9,sx⟩:=bW
 obtain ⟨t,bS,-⟩:=dq.bS
 obtain ⟨ok,bG,lg,jG,kW,e,B9,ee⟩:=Pe hm a1 li dq pY bS.inj bS.le (n2 n c (k+1)) (PQ aP (k+1)) (Pf n c (k+1)) sx f9
 rcases ee with ⟨rfl,yW,KG,Cm,acN⟩|⟨-,rj,q,a6,dN,hl⟩
 ·refine ⟨((bR bG).du,(bR bG).cY,bf (n+m) (n2 n c (k+1)),jG,eA a4 lg,bf (n+m) kW),?_,bG,lg,jG,kW,Cm,_,rfl,yW,KG,B9,acN⟩
  have Cx:(List.replicate (bf (n+m) I).length 0:List Int).set (0+((k:Int)).toNat) (-1)=bf (n+m) (n2 n c (k+1)):=by
   rw [dp,o7,Int.toNat_natCast,Nat.zero_add,ll];exact fr fun j _=>rfl
  unfold uV
  simp only
  rw [Cx]
  refine eh (by omega) (bK (by rw [dp];omega) (bK (by rw [List.length_replicate,dp,Int.toNat_natCast];omega) (aB e ?_)))
  rw [gv (by omega)]
 ·obtain ⟨i,ag,ah⟩:=rj.W0 dN
  exact (hl i ag ah).elim
theorem Yg {m n:Nat}{a:Nat→Nat→Int}{b c:Nat→Int}{a4:Nat}{g:Nat→Nat}{iu:Nat→Nat→Rat}(hm:m≤20)(a1:n≤40)(li:Small m (n+m) (ej m n a b))(aP:∀j,j<n→ -100≤c j∧c j≤100)(x0:Int)(fh d6 mS:List Int){w:Rat}{u:cm}{d9:List (List bg)}{dj:Nat→Bool}{V:Nat→Rat}{I:Nat→Int}(dq:pE m n a b a4 g iu dj w u)(pY:∀j,j<n+m→dj j=true→j<n)(f9:kT a4 (n+m) m g w u d9)(sx:px m n a b (mT n c) 1 dj V):
 ∃jy j3 ue ss,Dj (n:Int) x0 fh d6 mS ((n+m:Nat):Int) (gA a4 (n+m) g) 0 (bR w).du (bR w).cY (bf (n+m) I) d9 (eA a4 u) (bf (n+m) dj)=some ((bR jy).du,(bR jy).cY,ue,eA a4 j3,bf (n+m) ss)∧pE m n a b a4 g iu ss jy j3∧kT a4 (n+m) m g jy j3 ue∧ ∃V,px m n a b (mT n c) (n+1) ss V:=by
 unfold Dj
 obtain ⟨r,e,ap⟩:=sP (f:=fun w:Int×Bool×(List Int)×(List Int)×(List (List bg))×(List Int)×(List Bool)=>uV (n:Int) x0 fh d6 mS ((n+m:Nat):Int) (gA a4 (n+m) g) w.1 w.2.1 w.2.2.1 w.2.2.2.1 w.2.2.2.2.1 w.2.2.2.2.2.1 w.2.2.2.2.2.2)
  (fun (k:Nat) (s:Bool×List Int×List Int×List (List bg)×List Int×List Bool)=>((k:Int),s)) n (fun k s=>KH m n a b c a4 g iu (k+1) s)
  (fun r=> ∃jy j3 ue ss,r=((bR jy).du,(bR jy).cY,ue,eA a4 j3,bf (n+m) ss)∧pE m n a b a4 g iu ss jy j3∧kT a4 (n+m) m g jy j3 ue∧ ∃V,px m n a b (mT n c) (n+1) ss V)
  (fun k aX s bW=> .inl (WK hm a1 li aP x0 fh d6 mS k aX s bW))
  (fun s bW=>by
    obtain ⟨w,u,d9,dj,V,I,rfl,dq,pY,f9,sx⟩:=bW
    exact ⟨_,by unfold uV;exact eK (by simp) rfl,w,u,d9,dj,rfl,dq,f9,V,sx⟩)
  ((bR w).du,(bR w).cY,bf (n+m) I,d9,eA a4 u,bf (n+m) dj) ⟨w,u,d9,dj,V,I,rfl,dq,pY,f9,sx⟩
 obtain ⟨jy,j3,ue,ss,rfl,o,R,ad⟩:=ap
 exact ⟨jy,j3,ue,ss,e,o,R,ad⟩
theorem ZQ:B 24≤B 50:=by decide +kernel
theorem ZR:2≤eo:=by decide +kernel
theorem KI:40*(eo*100)≤21*100*(eo*eo):=by
 have:=Nat.mul_le_mul_left eo ZR
 omega
theorem Yh {n:Nat}(x0 gp:Int)(fh d6 mS:List Int)(rX:Bool)(Cw:List Int)(FO:Int)(aW:List b6)(bk:List (List bg))(cc:List Int)(cV:List Bool)(a1:n≤40):
 Dk (n:Int) x0 gp fh d6 mS rX Cw FO aW bk cc cV 0 (List.replicate n (none:Option bB))=some (bf n fun _=>di 0):=by
 unfold Dk
 obtain ⟨s,e,-⟩:=jz (f:=fun w:Int×(List (Option bB))=>xh (n:Int) x0 gp fh d6 mS rX Cw FO aW bk cc cV w.1 w.2)
  (fun (k:Nat) (_:Unit)=>((k:Int),bf n fun j=>if j<k then di 0 else none)) n (fun _ _=>True) (fun _=>bf n fun _=>di 0)
  (fun k aX _ _=>by
    refine ⟨(),?_,trivial⟩
    unfold xh
    refine eh (by simp only;omega) (aB (x:=di 0) (sa (n:=0) (by rw [mq];omega)) (bK (by simp only;rw [dp];omega) (bK (by simp only;rw [dp,Int.toNat_natCast];omega) ?_)))
    simp only
    rw [gv (by omega),Int.toNat_natCast,Nat.zero_add,ll]
    congr 3
    refine fr fun j _=> ?_
    by_cases bE:j=k
    ·subst bE;rw [if_pos rfl,if_pos (by omega)]
    ·rw [if_neg bE]
     by_cases cU:j<k
     ·rw [if_pos cU,if_pos (by omega)]
     ·rw [if_neg cU,if_neg (by omega)])
  (fun _ _=>by
    unfold xh
    refine eK (by simp) ?_
    simp only
    congr 2
    exact fr fun j aA=>by rw [if_pos aA]) () trivial
 have e0:(bf n fun j=>if j<0 then di 0 else none)=List.replicate n none:=by
  rw [o7];exact fr fun j _=>by rw [if_neg (by omega)]
 rw [← e0];exact e
theorem Yi {t:cm}{N i j:Nat}:t.gH (i+1) N j=t.gH i N j+if t.B i=j then t.T i N else 0:=rfl
theorem Qn {m n:Nat}{a:Nat→Nat→Int}{b:Nat→Int}{a4 N:Nat}{u:cm}(h:LT m n a b a4 N u){i k:Nat}(ag:i<a4)(aX:k<a4)(e:u.B i=u.B k):i=k:=by
 by_cases c:i=k
 ·exact c
 ·have o:=h.unit i ag k aX
  rw [← e,h.unit i ag i ag,if_pos rfl,if_neg c] at o
  grind
theorem Xn {m n a4 N:Nat}{a:Nat→Nat→Int}{b:Nat→Int}{g:Nat→Nat}{w:Rat}{u:cm}(x0 gp:Int)(fh d6 mS:List Int)(rX:Bool)(cV:List Bool)(hm:a4≤20)(fC:N≤1000)(aL:LT m n a b a4 N u)(f:oK a4 N w u){M:Nat}{d9:List (List bg)}(f9:kT a4 N M g w u d9)(a1:n≤40):
 Dl (a4:Int) x0 gp fh d6 mS rX (bR w).cY (N:Int) (eA a4 u) (gA a4 N g) d9 cV 0 (bf n fun _=>di 0)=some (bf n fun j=>di (u.gH a4 N j)):=by
 have hw:=J5 f.hw
 have acO:0<w.num:=by
  have:(0:Rat)<((w.num:Int):Rat):=by rw [hw.1];exact f.pos
  exact Rat.intCast_lt_intCast.1 (by rw [show ((0:Int):Rat)=0 from rfl];exact this)
 have abh:(bR w).cY=L w.num:=by
  show L (w.num.natAbs:Int)=_
  rw [Int.natAbs_of_nonneg (by omega)]
 have jM:=vA EY
 have j8:=vA KE
 have afl:=ZQ
 rw [abh]
 unfold Dl
 obtain ⟨s,e,-⟩:=jz (f:=fun v:Int×(List (Option bB))=>xi (a4:Int) x0 gp fh d6 mS rX (L w.num) (N:Int) (eA a4 u) (gA a4 N g) d9 cV v.1 v.2)
  (fun (k:Nat) (_:Unit)=>((k:Int),bf n fun j=>di (u.gH k N j))) a4 (fun _ _=>True) (fun _=>bf n fun j=>di (u.gH a4 N j))
  (fun k aX _ _=>by
    refine ⟨(),?_,trivial⟩
    have f8:=aL.ki k aX
    have ht:=J5 (f.ht k aX N (Nat.le_refl _))
    have cd:u.gH k N (u.B k)=0:=cm.IM fun i ag e=>by have:=Qn aL (by omega) aX e;omega
    have Kp:qa (bR (u.T k N*w)) (L w.num)=some (di (u.T k N)):=by
     refine D7 acO ?_ (by omega) (by omega)
     rw [hw.1,ht.1];grind
    unfold xi
    simp only
    refine eh (by omega) (bK (by unfold eA;rw [dp];omega) (aB (x:=((u.B k:Nat):Int)) (by rw [Int.toNat_natCast];exact j5 aX) (bK (by unfold gA;rw [dp];omega) (aB (x:=some (g k,N+1)) (by rw [Int.toNat_natCast];exact j5 aX) (aB (x:=(g k,N+1)) rfl (aB (f9.row k aX) (bK (by simp only;omega) (aB (x:=bR (u.T k N*w)) (by rw [Int.toNat_natCast];exact j5 (by omega)) (aB Kp (bK (by rw [dp];omega) (bK (by rw [dp,Int.toNat_natCast];omega) ?_)))))))))))
    rw [gv (by omega),Int.toNat_natCast,Nat.zero_add,ll]
    congr 3
    refine fr fun j _=> ?_
    rw [Yi]
    by_cases bE:j=u.B k
    ·subst bE
     rw [if_pos rfl,if_pos rfl,cd]
     congr 1;grind
    ·rw [if_neg bE,if_neg (fun e=>bE e.symm)]
     congr 1;grind)
  (fun _ _=>by unfold xi;exact eK (by simp) rfl) () trivial
 exact e
theorem PR {m n:Nat}{a:Nat→Nat→Int}{b:Nat→Int}{a4 N:Nat}{w:Rat}{u:cm}{K:Nat}(aL:LT m n a b a4 N u)(f:∀i,i<a4→dw K (u.T i N*w))(j:Nat):dw K (u.gH a4 N j*w):=by
 by_cases c : ∃i,i<a4∧u.B i=j
 ·obtain ⟨i,ag,rfl⟩:=c
  have:u.gH a4 N (u.B i)=u.T i N:=by
   unfold cm.gH
   rw [kq ag (f:=fun k=>if u.B k=u.B i then u.T k N else 0) (fun k aX cu=>if_neg fun e=>cu (Qn aL aX ag e)),if_pos rfl]
  rw [this];exact f i ag
 ·rw [cm.IM fun i ag e=>c ⟨i,ag,e⟩]
  exact ⟨0,by rw [Rat.zero_mul];rfl,by simp⟩
theorem ZS {m n:Nat}{a:Nat→Nat→Int}{b:Nat→Int}{a4 N:Nat}{w:Rat}{u:cm}(aL:LT m n a b a4 N u)(f:oK a4 N w u)(j:Nat):dw eo (u.gH a4 N j*w):=PR aL (fun i ag=>f.ht i ag N (Nat.le_refl _)) j
theorem pE.EZ {m n:Nat}{a:Nat→Nat→Int}{b:Nat→Int}{a4:Nat}{g:Nat→Nat}{w:Rat}{u:cm}{iu:Nat→Nat→Rat}{dj:Nat→Bool}(li:Small m (n+m) (ej m n a b))(h:pE m n a b a4 g iu dj w u):dw (ly 100 m) w∧ ∀i,i<a4→dw (ly 100 m) (u.T i (n+m)*w):=by
 obtain ⟨t,bS,-,bW,rfl⟩:=h.bS
 have ri:dw (ly 100 m) (1*t.D m (ej m n a b)):=by
  rw [Rat.one_mul]
  exact yn fun i ag c aP=>li.nK c aP _ (Nat.le_of_lt (bS.inv.ok.ki i ag))
 refine ⟨by have:=EN ri;rw [Rat.one_mul] at this;exact this,fun i ag=> ?_⟩
 rw [bW.T i ag]
 refine EN ?_
 show dw (ly 100 m) (t.T (g i) (n+m)*_)
 rw [← bS.inv.ok.wq (bS.lt i ag) (Nat.le_refl _)]
 refine yn fun k aX c aP=> ?_
 simp only [gh]
 split
 ·exact li.nK c aP _ (Nat.le_refl _)
 ·exact li.nK c aP _ (Nat.le_of_lt (bS.inv.ok.ki k aX))
theorem PS {n:Nat}{w:Rat}{x:Nat→Rat}{c:Nat→Int}(hw:dw (21*100*eo) w)(ah:0<w)(aa:∀j,dw eo (x j*w))(aP:∀j,j<n→ -100≤c j∧c j≤100){k:Nat}(aX:k≤n)(a1:n≤40):fS (bZ k fun j=>x j*(c j:Rat)):=by
 have o:dw (k*(eo*100)) (bZ k fun j=>x j*w*(c j:Rat)):=dw.sum fun j aA=>(aa j).mul ⟨c j,rfl,by have:=aP j (by omega);omega⟩
 have R:k*(eo*100)≤40*(eo*100):=Nat.mul_le_mul_right _ (by omega)
 refine A3 (K:=21*100*(eo*eo)) (hw.mono EY) (o.mono (Nat.le_trans R KI)) (by grind) ?_ (vA (Nat.le_refl _))
 rw [← ic]
 exact fi fun j _=>by grind
theorem QN {w x:Rat}(hw:dw (21*100*eo) w)(ah:0<w)(aa:dw eo (x*w)):fS x :=
 A3 (K:=21*100*(eo*eo)) (hw.mono EY) (aa.mono KE) (by grind) (by grind) (vA (Nat.le_refl _))
theorem ZT {w x:Rat}{c:Int}(hw:dw (21*100*eo) w)(ah:0<w)(aa:dw eo (x*w))(aP:-100≤c∧c≤100):fS (x*(c:Rat)):=by
 have:=aa.mul (show dw 100 (c:Rat) from ⟨c,rfl,by omega⟩)
 exact A3 (K:=21*100*(eo*eo)) (hw.mono EY) (this.mono (by have:=KI;omega)) (by grind) (by grind) (vA (Nat.le_refl _))
theorem YW {n:Nat}{w:Rat}(x0 gp:Int)(fh d6 mS:List Int){x:Nat→Rat}{c:Nat→Int}(aK:mS=bf n c)(hw:dw (21*100*eo) w)(ah:0<w)(aa:∀j,dw eo (x j*w))(aP:∀j,j<n→ -100≤c j∧c j≤100)(a1:n≤40):
 Dm (n:Int) x0 gp fh d6 mS (bf n fun j=>di (x j)) (di 0) 0=some (di (bZ n fun j=>x j*(c j:Rat))):=by
 subst aK
 unfold Dm
 obtain ⟨s,e,-⟩:=jz (f:=fun v:(Option bB)×Int=>xj (n:Int) x0 gp fh d6 (bf n c) (bf n fun j=>di (x j)) v.1 v.2)
  (fun (k:Nat) (_:Unit)=>(di (bZ k fun j=>x j*(c j:Rat)),(k:Int))) n (fun _ _=>True) (fun _=>di (bZ n fun j=>x j*(c j:Rat)))
  (fun k aX _ _=>by
    refine ⟨(),?_,trivial⟩
    have acP:=aP k aX
    have ag:mZ (c k):=by rw [mq];omega
    unfold xj
    simp only
    refine eh (by omega) (bK (by rw [dp];omega) (aB (x:=di (x k)) (by rw [Int.toNat_natCast];exact j5 aX) (bK (by rw [dp];omega) (aB (x:=c k) (by rw [Int.toNat_natCast];exact j5 aX) (aB (sa ag) (aB (PP (QN hw ah (aa k)) (tS ag)) (aB (Qm (PS hw ah aa aP (Nat.le_of_lt aX) a1) (ZT hw ah (aa k) acP)) ?_)))))))
    rw [gv (by omega)];rfl)
  (fun _ _=>by unfold xj;exact eK (by simp) rfl) () trivial
 exact e
theorem ZU {m n:Nat}{a:Nat→Nat→Int}{b:Nat→Int}{a4 N:Nat}{u:cm}(h:LT m n a b a4 N u)(a1:n≤N):gf a4 a4 N u.T u where
 ra:=fun c aP j _=>by
  rw [kq aP (f:=fun i=>u.T c (u.B i)*u.T i j) (fun i ag cu=>by rw [h.unit c aP i ag,if_neg (fun e=>cu e.symm)];grind),h.unit c aP c aP,if_pos rfl];grind
 row:=⟨fun i c=>if i=c then 1 else 0,fun i ag j _=>by
  rw [kq ag (f:=fun c=>(if i=c then (1:Rat) else 0)*u.T c j) (fun c _ cu=>by rw [if_neg (Ne.symm cu)];grind),if_pos rfl];grind⟩
 unit:=h.unit
 ki:=fun i ag=>Nat.lt_of_lt_of_le (h.ki i ag) a1
theorem Yj {p:ov}{m n:Nat}{a:Nat→Nat→Int}{b:Nat→Int}(h:pC p m n a b){c:Nat→Int}(mH:p.kP=bf n c)(aP:∀j,j<n→ -100≤c j∧c j≤100):
 ∃r,zY p.ln p.ks p.c0 p.c1 p.kP=some r∧((¬oI m n a b∧r=(2,[],none))∨(oI m n a b∧ ¬Bounded m n a b (mT n c)∧r=(3,[],none)) ∨
  (∃x w,sU m n a b (mT n c) x∧(0<w∧dw (ly 100 m) w∧ ∀j,dw (ly 100 m) (x j*w))∧(∀j,fS (x j))∧fS (val n (mT n c) x)∧r=(0,bf n (fun j=>di (x j)),di (val n (mT n c) x)))):=by
 have hm:=h.hm
 have a1:=h.a1
 have li:=OG h
 obtain ⟨r,e,ap⟩:=Pd h
 unfold zY
 rcases ap with ⟨bW,t,a4,g,d9,rfl,bS,f8,f9⟩|⟨bW,rfl⟩
 ·have aL:=bS.ZO f8
  have dq:pE m n a b a4 g (iB g t).T (fun j=>decide (j<n)) (hg m (ej m n a b) t) (iB g t) :=
   ⟨⟨t,bS,f8,⟨fun _ _ _=>rfl,fun _ _=>rfl⟩,rfl⟩,aL,ZU aL (by omega),fun i ag=>decide_eq_true (f8 i ag)⟩
  obtain ⟨ok,jy,j3,ue,ss,aw,acQ,ee⟩:=Pe hm a1 li dq (fun j _ aA=>of_decide_eq_true aA) bS.inj bS.le (n2 n c 0) (PQ aP 0) (Pf n c 0) (px.zero (c:=mT n c) (fun j aA=>decide_eq_true aA) (fun _=>0)) f9
  have Cx:p.kP++(List.replicate (n+m) 0:List Int).drop p.kP.length=bf (n+m) (n2 n c 0):=by
   rw [mH,dp]
   apply List.ext_getElem?
   intro i
   by_cases ci:i<n
   ·rw [List.getElem?_append_left (by rw [dp];exact ci),hq ci,hq (by omega)];simp only [n2];rw [if_pos ci]
   ·rw [List.getElem?_append_right (by rw [dp];omega),dp,List.getElem?_drop,show n+(i-n)=i by omega]
    by_cases LL:i<n+m
    ·rw [List.getElem?_replicate,if_pos LL,hq LL];simp only [n2];rw [if_neg ci]
    ·rw [List.getElem?_replicate,if_neg LL,List.getElem?_eq_none_iff.2 (by rw [dp];omega)]
  have R7:p.kP.length=n:=by rw [mH,dp]
  rcases ee with ⟨rfl,pW,abi,afD,B8⟩|⟨rfl,rj,q,a6,dN,hl⟩
  ·obtain ⟨p3,mP,bC,afm,aC,sq,acR,afE,acS⟩:=Yg (I:=n2 n c 0) hm a1 li aP p.ln p.c0 p.c1 p.kP pW abi acQ B8
   have f2:=sq.q2 li
   have KF:=acS.nd sq.lt sq.L9
   have aa:=ZS sq.lt f2
   have a2:bZ n (fun j=>mP.gH a4 (n+m) j*(c j:Rat))=val n (mT n c) (mP.gH a4 (n+m)):=fi fun j aA=>by
    have:mT n c j=(c j:Rat):=by unfold mT n2;simp only;rw [if_pos aA]
    rw [this];exact Rat.mul_comm _ _
   refine ⟨_,aB e ?_,.inr (.inr ⟨mP.gH a4 (n+m),p3,KF,⟨f2.pos,(sq.EZ li).1,fun j=>PR sq.lt (sq.EZ li).2 j⟩,fun j=>QN f2.hw f2.pos (aa j),?_,rfl⟩)⟩
   ·simp only
    refine bK (by omega) (bK (by rw [R7,Int.toNat_natCast];omega) (aB (by rw [Int.toNat_natCast,Cx];exact aw) (eX rfl ?_)))
    rw [h.gw,Int.toNat_natCast,Int.toNat_natCast,Cx]
    refine aB aC (bK (by omega) (aB (Yh _ _ _ _ _ _ _ _ _ _ _ _ a1) (aB (x:=bf n fun j=>di (mP.gH a4 (n+m) j)) ?_ (aB (x:=di 0) (sa (n:=0) (by rw [mq];omega)) (aB (x:=di (val n (mT n c) (mP.gH a4 (n+m)))) ?_ rfl)))))
    ·simp only
     rw [show ((eA a4 mP).length:Nat)=a4 from dp ..]
     exact Xn _ _ _ _ _ _ _ (by have:=bS.le;omega) (by omega) sq.lt f2 acR a1
    ·rw [dp,← a2]
     exact YW _ _ _ _ _ mH f2.hw f2.pos aa aP a1
   ·rw [← a2];exact PS f2.hw f2.pos aa aP (Nat.le_refl _) a1
  ·refine ⟨_,aB e ?_,.inr (.inl ⟨bW,rj.Le _ a6 dN hl,rfl⟩)⟩
   simp only
   exact bK (by omega) (bK (by rw [R7,Int.toNat_natCast];omega) (aB (by rw [Int.toNat_natCast,Cx];exact aw) (hp rfl rfl)))
 ·exact ⟨_,aB e rfl,.inl ⟨bW,rfl⟩⟩
def te (k:Nat)(x:a5):List d8:=(if x.h8=2 then [] else [⟨(k:Int),1⟩])++(if x.h8=1 then [] else [⟨(k:Int),-1⟩])
def lr (fT:List a5):Nat→List d8
 | 0=>[]
 | n+1=>lr fT n++(match fT[n]? with
  | some x=>te n x
  | none=>[])
theorem JE (fT:List a5): ∀n,(lr fT n).length≤2*n
 | 0=>by simp [lr]
 | n+1=>by
  have:=JE fT n
  rw [lr,List.length_append]
  have R:(match fT[n]? with
   | some x=>te n x
   | none=>[]).length≤2:=by
   split
   ·rename_i x _;unfold te;rw [List.length_append];split<;>split<;>simp
   ·simp
  omega
theorem Pg {fT:List a5}: ∀ {n:Nat} {c:d8},n≤fT.length→c∈lr fT n→ ∃k:Nat,c.hx=k∧k<n∧(c.sf=1∨c.sf = -1)
 | 0,c,_,h=>by simp [lr] at h
 | n+1,c,a1,h=>by
  rw [lr,List.mem_append] at h
  rcases h with h|h
  ·obtain ⟨k,o,R,ad⟩:=Pg (by omega) h
   exact ⟨k,o,by omega,ad⟩
  ·rw [List.getElem?_eq_getElem (by omega)] at h
   simp only [te,List.mem_append] at h
   rcases h with h|h
   ·split at h
    ·simp at h
    ·simp at h;subst h;exact ⟨n,rfl,by omega,.inl rfl⟩
   ·split at h
    ·simp at h
    ·simp at h;subst h;exact ⟨n,rfl,by omega,.inr rfl⟩
theorem DK (s:ca)(dq:s.b2.length≤1000):tH s=some (lr s.b2 s.b2.length):=by
 unfold tH GR
 rw [h6]
 obtain ⟨x,e,-⟩:=jz (f:=fun w:Int×List d8=>wQ s.b2 (s.b2.length:Nat) w.1 w.2) (fun (n:Nat) (_:Unit)=>((n:Int),lr s.b2 n)) s.b2.length (fun _ _=>True) (fun _=>lr s.b2 s.b2.length)
  (fun n a1 _ _=>by
    refine ⟨(),?_,trivial⟩
    have aa:=List.getElem?_eq_getElem a1
    have aL:=JE s.b2 n
    have aw:lr s.b2 (n+1)=lr s.b2 n++te n s.b2[n]:=by rw [lr,aa]
    unfold wQ
    refine eh (by simp only;omega) (bK (by simp only;omega) (aB (x:=s.b2[n]) (by simp only;rw [Int.toNat_natCast];exact aa) ?_))
    simp only
    rw [gv (by omega),aw]
    unfold te
    by_cases bE:s.b2[n].h8=2
    ·rw [if_pos bE]
     refine hp (BO bE) (eX (Lc (by omega)) (bK (by simp only [List.length_append,List.length_cons,List.length_nil];omega) ?_))
     rw [if_neg (by omega)];simp
    ·rw [if_neg bE]
     refine eX (Lc bE) (bK (by simp only [List.length_append,List.length_cons,List.length_nil];omega) ?_)
     by_cases cU:s.b2[n].h8=1
     ·refine hp (BO cU) ?_
      rw [if_pos cU];simp
     ·refine eX (Lc cU) (bK (by simp only [List.length_append,List.length_cons,List.length_nil];omega) ?_)
      rw [if_neg cU];simp)
  (fun _ _=>by unfold wQ;exact eK (by simp) rfl) () trivial
 exact aB e rfl
def lp (s:ca)(k:Nat):Int×Int:=(oY s k).getD (0,0)
theorem JF (s:ca)(h:lB s)(k:Nat)(aX:k<s.b2.length):oY s k=some (lp s k)∧(-100≤(lp s k).1∧(lp s k).1≤100)∧(-100≤(lp s k).2∧(lp s k).2≤100):=by
 obtain ⟨x,y,o,ad,aD⟩:=YT s h k (by omega) (by omega)
 have e:lp s k=(x,y):=by unfold lp;rw [o];rfl
 rw [e];exact ⟨o,ad,aD⟩
def hK (s:ca)(j:Int)(fX k:Nat):Int :=
 match s.b2[k]? with
 | none=>0
 | some x=>if j=x.c0 then (if fX=0 then (lp s k).1 else (lp s k).2) else if j=x.c1 then -(if fX=0 then (lp s k).1 else (lp s k).2) else 0
theorem yr (s:ca)(h:lB s)(j:Int)(fX k:Nat): -100≤hK s j fX k∧hK s j fX k≤100:=by
 unfold hK
 split
 ·omega
 ·rename_i x aa
  obtain ⟨-,ad,aD⟩:=JF s h k (fE aa)
  split
  ·split<;>omega
  ·split
   ·split<;>omega
   ·omega
theorem YX (s:ca)(h:lB s)(j:Int)(aW:List Int)(bk cc:Int)(cV:List (List Int)):
 CF s.c7 s.b2 j aW bk cc (len_ db s.b2) cV 0 (bf s.b2.length fun _=>(0:Int)) (bf s.b2.length fun _=>(0:Int))=some (bf s.b2.length (hK s j 0),bf s.b2.length (hK s j 1)):=by
 obtain ⟨-,-,f3,f4⟩:=id h
 unfold CF
 rw [h6]
 obtain ⟨x,e,-⟩:=jz (f:=fun w:Int×List Int×List Int=>wL s.c7 s.b2 j aW bk cc (s.b2.length:Nat) cV w.1 w.2.1 w.2.2) (fun (n:Nat) (_:Unit)=>((n:Int),(bf s.b2.length fun k=>if k<n then hK s j 0 k else 0),bf s.b2.length fun k=>if k<n then hK s j 1 k else 0)) s.b2.length (fun _ _=>True) (fun _=>(bf s.b2.length (hK s j 0),bf s.b2.length (hK s j 1)))
  (fun n a1 _ _=>by
    refine ⟨(),?_,trivial⟩
    have aa:=List.getElem?_eq_getElem a1
    obtain ⟨v1,v3,v4⟩:=JF s h n a1
    have c5 : ∀fX v,v=hK s j fX n→(bf s.b2.length fun k=>if k<n then hK s j fX k else 0).set n v=bf s.b2.length fun k=>if k<n+1 then hK s j fX k else 0:=fun fX v a2=>by
     rw [ll]
     refine fr fun k _=> ?_
     by_cases c:k=n
     ·subst c;rw [if_pos rfl,if_pos (by omega)];exact a2
     ·rw [if_neg c]
      by_cases cU:k<n
      ·rw [if_pos cU,if_pos (by omega)]
      ·rw [if_neg cU,if_neg (by omega)]
    have g1 : ∀F:Nat→Int,0≤((n:Nat):Int)∧((n:Nat):Int)<((bf s.b2.length F).length:Nat):=fun F=>by rw [dp];omega
    have g2 : ∀F:Nat→Int,0+((n:Nat):Int).toNat<(bf s.b2.length F).length:=fun F=>by rw [dp,Int.toNat_natCast];omega
    unfold wL
    refine eh (by simp only;omega) (bK (by simp only;omega) (aB (x:=s.b2[n]) (by simp only;rw [Int.toNat_natCast];exact aa) (aB (x:=lp s n) v1 ?_)))
    simp only
    by_cases bE:j=s.b2[n].c0
    ·have e0 : ∀fX,hK s j fX n=if fX=0 then (lp s n).1 else (lp s n).2:=fun fX=>by unfold hK;rw [aa];simp only [if_pos bE]
     refine eX (y5 bE) (bK (g1 _) (bK (g2 _) (bK (g1 _) (bK (g2 _) ?_))))
     rw [gv (by omega),Int.toNat_natCast,Nat.zero_add,c5 0 _ (by rw [e0];rfl),c5 1 _ (by rw [e0];rfl)]
    ·refine hp (ux bE) ?_
     by_cases cU:j=s.b2[n].c1
     ·have e0 : ∀fX,hK s j fX n = -(if fX=0 then (lp s n).1 else (lp s n).2):=fun fX=>by unfold hK;rw [aa];simp only [if_neg bE,if_pos cU]
      refine eX (y5 cU) (bK (g1 _) (bK (g2 _) (bK (g1 _) (bK (g2 _) ?_))))
      rw [gv (by omega),Int.toNat_natCast,Nat.zero_add,cQ (by omega) (by omega),cQ (by omega) (by omega),c5 0 _ (by rw [e0];simp),c5 1 _ (by rw [e0];simp)]
     ·have e0 : ∀fX,hK s j fX n=0:=fun fX=>by unfold hK;rw [aa];simp only [if_neg bE,if_neg cU]
      refine hp (ux cU) ?_
      rw [gv (by omega)]
      congr 4
      ·refine fr fun k _=> ?_
       by_cases c:k=n
       ·subst c;rw [if_neg (by omega),if_pos (by omega),e0]
       ·by_cases cU:k<n
        ·rw [if_pos cU,if_pos (by omega)]
        ·rw [if_neg cU,if_neg (by omega)]
      ·refine fr fun k _=> ?_
       by_cases c:k=n
       ·subst c;rw [if_neg (by omega),if_pos (by omega),e0]
       ·by_cases cU:k<n
        ·rw [if_pos cU,if_pos (by omega)]
        ·rw [if_neg cU,if_neg (by omega)])
  (fun _ _=>by
    unfold wL
    refine eK (by simp) ?_
    simp only
    congr 3
    ·exact fr fun k aX=>by rw [if_pos aX]
    ·exact fr fun k aX=>by rw [if_pos aX]) () trivial
 have z : ∀fX,(bf s.b2.length fun k=>if k<0 then hK s j fX k else 0)=bf s.b2.length fun _=>(0:Int):=fun fX=>fr fun k _=>by rw [if_neg (by omega)]
 rw [z,z] at e
 exact e
def h1 (s:ca)(q:Nat):Nat:=(k9 s.c7 0).getD q 0
def cP (s:ca):Nat:=(k9 s.c7 0).length
def mE (s:ca)(r k:Nat):Int:=hK s (h1 s (r / 2)) (r % 2) k
theorem JG (s:ca):(k9 s.c7 0).map (fun n:Nat=>(n:Int))=bf (cP s) fun q=>((h1 s q:Nat):Int):=by
 apply List.ext_getElem?
 intro q
 rw [List.getElem?_map]
 by_cases c:q<cP s
 ·rw [hq c]
  have h:(k9 s.c7 0)[q]? = some (k9 s.c7 0)[q]:=List.getElem?_eq_getElem c
  unfold h1
  rw [List.getD_eq_getElem?_getD,h];rfl
 ·rw [List.getElem?_eq_none_iff.2 (by unfold cP at c;omega),List.getElem?_eq_none_iff.2 (by rw [dp];omega)];rfl
theorem Qo (s:ca){q:Nat}(h:q<cP s):h1 s q<s.c7.length:=by
 have o:(k9 s.c7 0)[q]? = some (k9 s.c7 0)[q]:=List.getElem?_eq_getElem h
 have R:h1 s q=(k9 s.c7 0)[q]:=by unfold h1;rw [List.getD_eq_getElem?_getD,o];rfl
 have:=JD s.c7 0 _ (List.mem_of_getElem? o)
 omega
theorem uf (s:ca):cP s≤s.c7.length:=O9 s.c7 0
theorem Vo (s:ca)(h:lB s):zx s=some (bf (2*cP s) fun r=>bf s.b2.length (mE s r)):=by
 obtain ⟨-,-,f3,f4⟩:=id h
 have tB:=uf s
 unfold zx
 refine aB (IL s (by omega)) ?_
 rw [JG,gR,dp]
 unfold Gs
 obtain ⟨x,e,-⟩:=jz (f:=fun w:Int×List (List Int)=>wM s.c7 s.b2 (bf (cP s) fun q=>((h1 s q:Nat):Int)) ((cP s:Nat):Int) w.1 w.2) (fun (n:Nat) (_:Unit)=>((n:Int),bf (2*n) fun r=>bf s.b2.length (mE s r))) (cP s) (fun _ _=>True) (fun _=>bf (2*cP s) fun r=>bf s.b2.length (mE s r))
  (fun n a1 _ _=>by
    refine ⟨(),?_,trivial⟩
    unfold wM
    refine eh (by simp only;omega) (bK (by rw [dp];simp only;omega) (aB (x:=((h1 s n:Nat):Int)) (by simp only;rw [Int.toNat_natCast];exact hq a1) (bK (by rw [h6];omega) ?_)))
    refine aB (x:=(bf s.b2.length (hK s (h1 s n) 0),bf s.b2.length (hK s (h1 s n) 1))) (by rw [show (len_ db s.b2).toNat=s.b2.length by rw [h6,Int.toNat_natCast],o7];exact YX s h _ _ _ _ _) (bK (by simp only [List.length_append,dp,List.length_cons,List.length_nil];omega) ?_)
    simp only
    rw [gv (by omega),show 2*(n+1)=2*n+1+1 by omega,Ao (2*n+1),Ao (2*n)]
    have an:bf s.b2.length (hK s (h1 s n) 0)=bf s.b2.length (mE s (2*n)):=fr fun k _=>by
     unfold mE;rw [show 2*n / 2=n by omega,show 2*n % 2=0 by omega]
    have cb:bf s.b2.length (hK s (h1 s n) 1)=bf s.b2.length (mE s (2*n+1)):=fr fun k _=>by
     unfold mE;rw [show (2*n+1) / 2=n by omega,show (2*n+1) % 2=1 by omega]
    rw [an,cb];simp)
  (fun _ _=>by unfold wM;exact eK (by simp) rfl) () trivial
 exact aB e rfl
def gw (s:ca):List d8:=lr s.b2 s.b2.length
def bU (s:ca):Nat:=(gw s).length
def gP (s:ca)(c:Nat):Nat:=((gw s).getD c ⟨0,0⟩).hx.toNat
def oX (s:ca)(c:Nat):Int:=((gw s).getD c ⟨0,0⟩).sf
def mj (s:ca)(i c:Nat):Int:=oX s c*mE s i (gP s c)
def oo (s:ca)(l:List Int)(i:Nat):Int:= -(l.getD (2*h1 s (i / 2)+i % 2) 0)
theorem sV (s:ca){c:Nat}(aP:c<bU s):(gw s)[c]? = some ⟨(gP s c:Int),oX s c⟩∧gP s c<s.b2.length∧(oX s c=1∨oX s c = -1):=by
 have o:(gw s)[c]? = some (gw s)[c]:=List.getElem?_eq_getElem aP
 have R:(gw s).getD c ⟨0,0⟩=(gw s)[c]:=by rw [List.getD_eq_getElem?_getD,o];rfl
 obtain ⟨k,aw,aC,b1⟩:=Pg (Nat.le_refl _) (List.mem_of_getElem? o)
 have dn:gP s c=k:=by unfold gP;rw [R,aw];rfl
 have dr:oX s c=((gw s)[c]).sf:=by unfold oX;rw [R]
 refine ⟨?_,by omega,by rw [dr];exact b1⟩
 rw [o,dn,dr,← aw]
theorem si (s:ca):bU s≤2*s.b2.length:=JE _ _
theorem Kh (s:ca)(h:lB s)(i:Nat){c:Nat}(aP:c<bU s): -100≤mj s i c∧mj s i c≤100:=by
 have o:=yr s h (h1 s (i / 2)) (i % 2) (gP s c)
 unfold mj mE
 rcases (sV s aP).2.2 with e|e<;>rw [e]<;>omega
def wA (s:ca)(l:List Int):ov:=⟨((2*cP s:Nat):Int),(bU s:Int),bf (2*cP s*bU s) (fun x=>mj s (x / bU s) (x % bU s)),bf (2*cP s) (oo s l),bf (bU s) fun _=>0⟩
theorem ZV (s:ca)(h:lB s)(l:List Int)(aJ:∀x∈l,-100≤x∧x≤100):pC (wA s l) (2*cP s) (bU s) (mj s) (oo s l) where
 rows:=rfl
 gw:=rfl
 oi:=dp ..
 EX:=fun i ag j aA=>by
  have o:i*bU s+j<2*cP s*bU s:=by
   have:(i+1)*bU s≤2*cP s*bU s:=Nat.mul_le_mul_right _ ag
   rw [Nat.succ_mul] at this;omega
  show (bf _ _)[_]? = _
  rw [hq o]
  have R:(i*bU s+j) / bU s=i:=by rw [Nat.mul_comm,Nat.mul_add_div (by omega),Nat.div_eq_of_lt aA];rfl
  have ad:(i*bU s+j) % bU s=j:=by rw [Nat.mul_comm,Nat.mul_add_mod,Nat.mod_eq_of_lt aA]
  rw [R,ad]
 zl:=dp ..
 KD:=fun i ag=>hq ag
 hm:=by
  obtain ⟨-,-,f3,f4⟩:=id h
  have:=uf s;omega
 a1:=by
  obtain ⟨-,-,f3,f4⟩:=id h
  have:=si s;omega
 zk:=fun i _ j aA=>Kh s h i aA
 Cu:=fun i _=>by
  unfold oo
  rw [List.getD_eq_getElem?_getD]
  cases c:l[2*h1 s (i / 2)+i % 2]? with
  | none=>simp
  | some x =>
   have:=aJ x (List.mem_of_getElem? c)
   simp only [Option.getD_some];omega
def nL (s:ca)(r c:Nat):Int:=if r<2*cP s∧c<bU s then mj s r c else 0
def iw (s:ca)(l:List Int)(r:Nat):Int:=if r<2*cP s then oo s l r else 0
def p4 (s:ca)(N i c x:Nat):Int:=if (x / N<i∨(x / N=i∧x % N<c))∧x % N<bU s then mj s (x / N) (x % N) else 0
theorem ZW (s:ca){T N i c:Nat}(aP:c<bU s)(fC:bU s≤N)(ht:i*N+c<T){v:Int}(a2:v=mj s i c):(bf T (p4 s N i c)).set (i*N+c) v=bf T (p4 s N i (c+1)):=by
 have R:(i*N+c) / N=i:=by rw [Nat.mul_comm,Nat.mul_add_div (by omega),Nat.div_eq_of_lt (by omega)];rfl
 have ad:(i*N+c) % N=c:=by rw [Nat.mul_comm,Nat.mul_add_mod,Nat.mod_eq_of_lt (by omega)]
 rw [ll]
 refine fr fun x _=> ?_
 unfold p4
 by_cases e:x=i*N+c
 ·rw [if_pos e,e,R,ad,if_pos ⟨.inr ⟨rfl,by omega⟩,aP⟩,a2]
 ·rw [if_neg e]
  have cu : ¬(x / N=i∧x % N=c):=fun ⟨a,b⟩=>e (by rw [← Nat.div_add_mod x N,a,b,Nat.mul_comm])
  by_cases d:(x / N<i∨(x / N=i∧x % N<c))∧x % N<bU s
  ·rw [if_pos d,if_pos ⟨by omega,d.2⟩]
  ·rw [if_neg d,if_neg (fun wy=>d ⟨by omega,wy.2⟩)]
theorem ZX (s:ca)(T N i:Nat):bf T (p4 s N i (bU s))=bf T (p4 s N (i+1) 0):=by
 refine fr fun x _=> ?_
 unfold p4
 by_cases d:(x / N<i∨(x / N=i∧x % N<bU s))∧x % N<bU s
 ·rw [if_pos d,if_pos ⟨by omega,d.2⟩]
 ·rw [if_neg d,if_neg (fun wy=>d ⟨by omega,wy.2⟩)]
theorem YY (s:ca)(T N:Nat):bf T (p4 s N 0 0)=bf T fun _=>0:=fr fun x _=>by
 unfold p4
 rw [if_neg (fun h=>by rcases h.1 with h|h;exact Nat.not_lt_zero _ h;exact Nat.not_lt_zero _ h.2)]
theorem ZY (s:ca)(T N:Nat):bf T (p4 s N (2*cP s) 0)=bf T fun x=>nL s (x / N) (x % N):=fr fun x _=>by
 unfold p4 nL
 by_cases d:x / N<2*cP s∧x % N<bU s
 ·rw [if_pos d,if_pos ⟨.inl d.1,d.2⟩]
 ·rw [if_neg d,if_neg (fun wy=>d ⟨by omega,wy.2⟩)]
theorem YZ (s:ca)(l:List Int)(M:Nat):(bf M fun x=>if x<0 then iw s l x else 0)=bf M fun _=>0:=fr fun j _=>by rw [if_neg (by omega)]
theorem ZZ (s:ca)(l:List Int)(M:Nat):(bf M fun x=>if x<2*cP s then iw s l x else 0)=bf M (iw s l):=fr fun j _=>by
 by_cases c:j<2*cP s
 ·rw [if_pos c]
 ·rw [if_neg c];unfold iw;rw [if_neg c]
theorem OH (s:ca)(h:lB s)(l:List Int)(aL:l.length=2*s.c7.length)(aJ:∀x∈l,-100≤x∧x≤100)(ei kz:Nat)(afn:ei≤100)(afo:kz≤100):
 uP s l (ei:Int) (kz:Int)=some (((2*cP s+kz:Nat):Int),((bU s+ei:Nat):Int),bf ((2*cP s+kz)*(bU s+ei)) (fun x=>nL s (x / (bU s+ei)) (x % (bU s+ei))),bf (2*cP s+kz) (iw s l),bf (bU s+ei) fun _=>0):=by
 obtain ⟨-,-,f3,f4⟩:=id h
 have tB:=uf s
 have mH:=si s
 have acT:(2*cP s+kz)*(bU s+ei)≤112*116:=Nat.mul_le_mul (by omega) (by omega)
 unfold uP
 refine aB (Vo s h) (aB (x:=gw s) (DK s (by omega)) ?_)
 have jy:U ((len_ (fp 1 J) (bf (2*cP s) fun r=>bf s.b2.length (mE s r)))+(kz:Int))=((2*cP s+kz:Nat):Int):=by rw [h6,dp,cQ (by omega) (by omega)];omega
 have p3:U ((len_ ev (gw s))+(ei:Int))=((bU s+ei:Nat):Int):=by
  rw [h6];show U (((bU s:Nat):Int)+(ei:Int))=_
  rw [cQ (by omega) (by omega)];omega
 have FP:U (((2*cP s+kz:Nat):Int)*((bU s+ei:Nat):Int))=(((2*cP s+kz)*(bU s+ei):Nat):Int):=by rw [← Int.natCast_mul,cQ (by omega) (by omega)]
 rw [jy,p3,FP,Int.toNat_natCast,Int.toNat_natCast,Int.toNat_natCast,o7,o7,o7,h6,dp]
 refine bK (by omega) (bK (by omega) (bK (by omega) ?_))
 refine aB (x:=bf ((2*cP s+kz)*(bU s+ei)) (fun x=>nL s (x / (bU s+ei)) (x % (bU s+ei)))) ?_ ?_
 ·unfold Gg
  obtain ⟨x,e,-⟩:=jz (f:=fun w:Int×List Int=>wF s.c7 s.b2 l (gw s) (bf (2*cP s) fun r=>bf s.b2.length (mE s r)) ((2*cP s:Nat):Int) ((2*cP s+kz:Nat):Int) ((bU s+ei:Nat):Int) (bf (2*cP s+kz) fun _=>0) (bf (bU s+ei) fun _=>0) w.1 w.2) (fun (i:Nat) (_:Unit)=>((i:Int),bf ((2*cP s+kz)*(bU s+ei)) (p4 s (bU s+ei) i 0))) (2*cP s) (fun _ _=>True) (fun _=>bf ((2*cP s+kz)*(bU s+ei)) (fun x=>nL s (x / (bU s+ei)) (x % (bU s+ei))))
   (fun i ag _ _=>by
     refine ⟨(),?_,trivial⟩
     have vQ:(i+1)*(bU s+ei)≤(2*cP s+kz)*(bU s+ei):=Nat.mul_le_mul_right _ (by omega)
     rw [Nat.succ_mul] at vQ
     obtain ⟨y,aC,-⟩:=jz (f:=fun w:Int×List Int=>wE s.c7 s.b2 l (gw s) (i:Int) (bf s.b2.length (mE s i)) (bf (2*cP s) fun r=>bf s.b2.length (mE s r)) ((2*cP s:Nat):Int) ((bU s:Nat):Int) ((2*cP s+kz:Nat):Int) ((bU s+ei:Nat):Int) (bf (2*cP s+kz) fun _=>0) (bf (bU s+ei) fun _=>0) w.1 w.2) (fun (c:Nat) (_:Unit)=>((c:Int),bf ((2*cP s+kz)*(bU s+ei)) (p4 s (bU s+ei) i c))) (bU s) (fun _ _=>True) (fun _=>bf ((2*cP s+kz)*(bU s+ei)) (p4 s (bU s+ei) i (bU s)))
      (fun c aP _ _=>by
        refine ⟨(),?_,trivial⟩
        obtain ⟨j8,jM,nJ⟩:=sV s aP
        have afp:=Kh s h i aP
        have Ma:U (U ((i:Int)*((bU s+ei:Nat):Int))+((c:Nat):Int))=((i*(bU s+ei)+c:Nat):Int):=by
         rw [← Int.natCast_mul,cQ (x:=((i*(bU s+ei):Nat):Int)) (by omega) (by omega),cQ (by omega) (by omega)];omega
        unfold wE
        refine eh (by simp only;omega) (bK (by show _∧((c:Nat):Int)<((bU s:Nat):Int);simp only;omega) (aB (x:=⟨(gP s c:Int),oX s c⟩) (by simp only;rw [Int.toNat_natCast];exact j8) (bK (by rw [dp];simp only;omega) (aB (x:=mE s i (gP s c)) (by simp only;rw [Int.toNat_natCast];exact hq jM) ?_))))
        simp only
        rw [Ma]
        refine bK (by rw [dp];omega) (bK (by rw [dp,Int.toNat_natCast];omega) ?_)
        rw [gv (by omega),Int.toNat_natCast,Nat.zero_add,show oX s c*mE s i (gP s c)=mj s i c from rfl,cQ (by omega) (by omega),ZW s aP (by omega) (by omega) rfl])
      (fun _ _=>by unfold wE;exact eK (by simp) rfl) () trivial
     unfold wF
     refine eh (by simp only;omega) (bK (by rw [dp];simp only;omega) (aB (x:=bf s.b2.length (mE s i)) (by simp only;rw [Int.toNat_natCast];exact hq ag) (aB (x:=bf ((2*cP s+kz)*(bU s+ei)) (p4 s (bU s+ei) i (bU s))) (by unfold Gf;rw [h6];exact aC) ?_)))
     simp only
     rw [gv (by omega),ZX])
   (fun _ _=>by
     unfold wF
     refine eK (by simp) ?_
     simp only
     rw [ZY]) () trivial
  rw [YY] at e
  exact e
 refine aB (IL s (by omega)) ?_
 rw [JG,gR,dp]
 refine aB (x:=bf (2*cP s+kz) (iw s l)) ?_ rfl
 unfold Gh
 obtain ⟨x,e,-⟩:=jz (f:=fun w:Int×List Int=>wG l (bf (cP s) fun q=>((h1 s q:Nat):Int)) ((cP s:Nat):Int) ((2*cP s+kz:Nat):Int) ((bU s+ei:Nat):Int) (bf ((2*cP s+kz)*(bU s+ei)) (fun x=>nL s (x / (bU s+ei)) (x % (bU s+ei)))) (bf (bU s+ei) fun _=>0) w.1 w.2) (fun (n:Nat) (_:Unit)=>((n:Int),bf (2*cP s+kz) fun x=>if x<2*n then iw s l x else 0)) (cP s) (fun _ _=>True) (fun _=>bf (2*cP s+kz) (iw s l))
  (fun n a1 _ _=>by
    refine ⟨(),?_,trivial⟩
    have b9:=Qo s a1
    have p3 : ∀a:Nat,a≤1000→U ((2:Int)*((a:Nat):Int))=((2*a:Nat):Int):=fun a bt=>by rw [cQ (by omega) (by omega)];omega
    have gp:=aJ l[2*h1 s n] (List.getElem_mem (by omega))
    have fy:=aJ l[2*h1 s n+1] (List.getElem_mem (by omega))
    have hf:iw s l (2*n) = -l[2*h1 s n]:=by
     unfold iw oo
     rw [if_pos (by omega),show 2*n / 2=n by omega,show 2*n % 2=0 by omega,Nat.add_zero,List.getD_eq_getElem?_getD,List.getElem?_eq_getElem (by omega)];rfl
    have iI:iw s l (2*n+1) = -l[2*h1 s n+1]:=by
     unfold iw oo
     rw [if_pos (by omega),show (2*n+1) / 2=n by omega,show (2*n+1) % 2=1 by omega,List.getD_eq_getElem?_getD,List.getElem?_eq_getElem (by omega)];rfl
    have c5 : ∀k v,v=iw s l k→(bf (2*cP s+kz) fun x=>if x<k then iw s l x else 0).set k v=bf (2*cP s+kz) fun x=>if x<k+1 then iw s l x else 0:=fun k v a2=>by
     rw [ll]
     refine fr fun j _=> ?_
     by_cases c:j=k
     ·subst c;rw [if_pos rfl,if_pos (by omega)];exact a2
     ·rw [if_neg c]
      by_cases cU:j<k
      ·rw [if_pos cU,if_pos (by omega)]
      ·rw [if_neg cU,if_neg (by omega)]
    unfold wG
    refine eh (by simp only;omega) (bK (by rw [dp];simp only;omega) (aB (x:=((h1 s n:Nat):Int)) (by simp only;rw [Int.toNat_natCast];exact hq a1) ?_))
    simp only
    rw [p3 (h1 s n) (by omega),p3 n (by omega),gv (n:=2*h1 s n) (by omega),gv (n:=2*n) (by omega)]
    refine bK (by omega) (aB (x:=l[2*h1 s n]) (by rw [Int.toNat_natCast];exact List.getElem?_eq_getElem (by omega)) (bK (by omega) (aB (x:=l[2*h1 s n+1]) (by rw [Int.toNat_natCast];exact List.getElem?_eq_getElem (by omega)) ?_)))
    refine bK (by rw [dp];omega) (bK (by rw [dp,Int.toNat_natCast];omega) (bK (by rw [dp];omega) (bK (by rw [List.length_set,dp,Int.toNat_natCast];omega) ?_)))
    rw [gv (by omega),cQ (x:=0-l[2*h1 s n]) (by omega) (by omega),cQ (x:=0-l[2*h1 s n+1]) (by omega) (by omega),Int.toNat_natCast,Int.toNat_natCast,Nat.zero_add,Nat.zero_add,c5 _ _ (by rw [hf];omega),c5 _ _ (by rw [iI];omega),show 2*(n+1)=2*n+1+1 by omega])
  (fun _ _=>by
    unfold wG
    refine eK (by simp) ?_
    simp only
    rw [ZZ]) () trivial
 rw [Nat.mul_zero,YZ] at e
 exact e
theorem OI (s:ca)(h:lB s)(l:List Int)(aL:l.length=2*s.c7.length)(aJ:∀x∈l,-100≤x∧x≤100):
 uP s l 0 0=some ((wA s l).ln,(wA s l).ks,(wA s l).c0,(wA s l).c1,(wA s l).kP):=by
 have e:=OH s h l aL aJ 0 0 (by omega) (by omega)
 rw [show ((0:Nat):Int)=0 from rfl] at e
 have hA:bf (2*cP s*bU s) (fun x=>nL s (x / bU s) (x % bU s))=bf (2*cP s*bU s) (fun x=>mj s (x / bU s) (x % bU s)):=fr fun x aa=>by
  have mH:0<bU s:=by
   rcases Nat.eq_zero_or_pos (bU s) with c|c
   ·rw [c,Nat.mul_zero] at aa;omega
   ·exact c
  unfold nL
  rw [if_pos ⟨Nat.div_lt_of_lt_mul (by rw [Nat.mul_comm];exact aa),Nat.mod_lt _ mH⟩]
 have f8:bf (2*cP s) (iw s l)=bf (2*cP s) (oo s l):=fr fun x aa=>by unfold iw;rw [if_pos aa]
 rw [e]
 simp only [Nat.add_zero,wA]
 rw [hA,f8]
theorem Yk {x:Rat}(h:fS x):xR (np x)=some true:=by
 have p:=h.dj
 have o:=p.ul
 have R:=p.um
 obtain ⟨I,-,e,k⟩:=WB (r:=np x) (show (L (gz x).1.natAbs).length≤_ by omega) (show (L (gz x).2).length≤_ by omega)
 rw [e,k.2 ⟨gz x,p,rfl⟩]
theorem Z0 {x:Rat}(h:fS x):DT (np x)=some (di x):=aB (Yk h) (eX rfl rfl)
theorem AO (x:Rat):r3 (di x)=some (nf (gz x).1):=Xk
theorem Y0 {x:Rat}(h:fS x):Ad (di x)=some (np x):=by
 have p:=h.dj
 have o:=p.ul
 have R:=p.um
 refine aB (I:=zL (kZ (gz x)).qo) (x:=hk (gz x).1) ?_ (aB (x:=L (gz x).2) (JC (a:=L (gz x).2) (by omega)) rfl)
 unfold zL
 exact eK (by rw [gR];show ¬(60:Int)<((L ((gz x).1.natAbs:Int)).length:Nat);omega) (aB (x:=L ((gz x).1.natAbs:Int)) (JC (a:=L ((gz x).1.natAbs:Int)) (by omega)) rfl)
theorem aax (x:Rat):D2 (di x)=some (di (-x)):=by
 have e:p8 (hk x.num)=some (hk (-x.num)):=by
  have:p8 (hk x.num)=(lI (!(decide (x.num<0))) (L (x.num.natAbs:Int))).bind fun r=>some r:=rfl
  rw [this,qM (by omega)]
  have:e4 (!(decide (x.num<0))) (x.num.natAbs:Int) = -x.num:=by
   unfold e4
   by_cases c:x.num<0
   ·rw [decide_eq_true c];simp;omega
   ·rw [decide_eq_false c];simp;omega
  rw [this];rfl
 refine aB (I:=p8 (hk x.num)) e ?_
 unfold di gz
 rw [Rat.neg_num,Rat.neg_den];rfl
theorem Yl:fS 0:=tS (n:=0) (by rw [mq];omega)
theorem OJ {fT:List a5}{k:Nat}: ∀ {n:Nat},k<n→n≤fT.length→ ∃x∈lr fT n,x.hx=(k:Int)
 | 0,h,_=>by omega
 | n+1,h,a1=>by
  rw [lr,List.getElem?_eq_getElem (show n<fT.length by omega)]
  by_cases e:k=n
  ·subst e
   simp only
   unfold te
   by_cases c:fT[k].h8=2
   ·exact ⟨⟨(k:Int),-1⟩,by rw [List.mem_append,List.mem_append,if_neg (show ¬fT[k].h8=1 by omega)];exact .inr (.inr (by simp)),rfl⟩
   ·exact ⟨⟨(k:Int),1⟩,by rw [List.mem_append,List.mem_append,if_neg c];exact .inr (.inl (by simp)),rfl⟩
  ·obtain ⟨x,o,R⟩:=OJ (fT:=fT) (k:=k) (n:=n) (by omega) (by omega)
   exact ⟨x,List.mem_append_left _ o,R⟩
theorem Ym (s:ca){k:Nat}(aX:k<s.b2.length): ∃c,c<bU s∧gP s c=k:=by
 obtain ⟨x,o,R⟩:=OJ aX (Nat.le_refl _)
 obtain ⟨c,aP⟩:=List.getElem?_of_mem o
 have aL:c<bU s:=fE aP
 obtain ⟨e,-,-⟩:=sV s aL
 have aC:(gw s)[c]? = some x:=aP
 rw [aC] at e
 have:=Option.some.inj e
 rw [this] at R
 exact ⟨c,aL,by simp only at R;omega⟩
def gg (s:ca)(x:Nat→Rat)(c k:Nat):Rat:=bZ c fun j=>if gP s j=k then (oX s j:Rat)*x j else 0
def rn (s:ca)(c k:Nat):Bool:=(List.range c).any fun j=>gP s j == k
theorem Y1 (s:ca)(c k:Nat):rn s (c+1) k=(rn s c k || (gP s c == k)):=by
 unfold rn;rw [List.range_succ,List.any_append];simp
theorem aay {s:ca}{x:Nat→Rat}{c k:Nat}(h:rn s c k=false):gg s x c k=0:=by
 unfold rn at h
 rw [List.any_eq_false] at h
 exact nN fun j aA=>if_neg fun e=>h j (List.mem_range.2 aA) (by rw [e];simp)
theorem Z1 (s:ca){k:Nat}(aX:k<s.b2.length):rn s (bU s) k=true:=by
 obtain ⟨c,o,R⟩:=Ym s aX
 unfold rn
 exact List.any_eq_true.2 ⟨c,List.mem_range.2 o,by rw [R];simp⟩
theorem QO {s:ca}{x:Nat→Rat}{w:Rat}{K:Nat}(aa:∀j,dw K (x j*w)): ∀ {c:Nat} (k:Nat),c≤bU s→dw (c*K) (gg s x c k*w):=fun {c} k aP=>by
 have:gg s x c k*w=bZ c fun j=>(if gP s j=k then (oX s j:Rat)*x j else 0)*w:=by
  unfold gg
  rw [Rat.mul_comm,← ic]
  exact fi fun j _=>Rat.mul_comm _ _
 rw [this]
 refine dw.sum fun j aA=> ?_
 obtain ⟨-,-,e⟩:=sV s (show j<bU s by omega)
 split
 ·rcases e with e|e<;>rw [e]
  ·rw [show ((1:Int):Rat)*x j*w=x j*w by grind];exact aa j
  ·rw [show ((-1:Int):Rat)*x j*w = -(x j*w) by grind];exact (aa j).neg
 ·exact ⟨0,by rw [Rat.zero_mul];rfl,by simp⟩
theorem Ki {x y:Rat}(aa:fS x)(aK:fS y)(h:fS (x+y)):o4 (di x) (di y)=some (di (x+y)):=aB (Qm aa aK) (aB (Kg h) rfl)
def q3 (s:ca)(x:Nat→Rat)(c:Nat):List (Option bB):=bf s.b2.length fun k=>if rn s c k then di (gg s x c k) else none
theorem Y2 (s:ca)(v:lB s){x:Nat→Rat}(aa:∀j,fS (x j))(bh:∀c k,c≤bU s→fS (gg s x c k)):zF s (bf (bU s) fun j=>di (x j))=some (bf s.b2.length fun k=>di (gg s x (bU s) k)):=by
 have bn:=v.2.2.2
 have mH:=si s
 have aL:len_ db s.b2=((s.b2.length:Nat):Int):=h6 ..
 have hr:len_ ev (gw s)=((bU s:Nat):Int):=h6 ..
 unfold zF
 rw [aL]
 refine bK (by omega) (aB (x:=gw s) (DK s (by omega)) (aB ?_ rfl))
 unfold G6
 rw [hr]
 obtain ⟨z,e,-⟩:=jz (f:=fun w:Int×(List (Option bB))=>wX (bf (bU s) fun j=>di (x j)) (gw s) ((bU s:Nat):Int) w.1 w.2) (fun (c:Nat) (_:Unit)=>((c:Int),q3 s x c)) (bU s) (fun _ _=>True) (fun _=>bf s.b2.length fun k=>di (gg s x (bU s) k))
  (fun c aP _ _=>by
    refine ⟨(),?_,trivial⟩
    obtain ⟨j8,jM,nJ⟩:=sV s aP
    have fin : ∀y,y=di (gg s x (c+1) (gP s c))→(q3 s x c).set (gP s c) y=q3 s x (c+1):=fun y aK=>by
     unfold q3
     rw [ll]
     refine fr fun k _=> ?_
     rw [Y1]
     by_cases e:k=gP s c
     ·subst e;rw [if_pos rfl,aK];simp
     ·have aC:gg s x (c+1) k=gg s x c k:=by
       show gg s x c k+(if gP s c=k then _ else _)=_
       rw [if_neg (fun q=>e q.symm)];grind
      rw [if_neg e,aC,show (gP s c == k)=false from beq_false_of_ne (fun q=>e q.symm),Bool.or_false]
    have last:gg s x (c+1) (gP s c)=gg s x c (gP s c)+(oX s c:Rat)*x c:=by
     show gg s x c _+(if gP s c=gP s c then _ else _)=_
     rw [if_pos rfl]
    have hlen:(q3 s x c).length=s.b2.length:=dp ..
    have Q9:(q3 s x c)[0+((gP s c:Nat):Int).toNat]? = some (if rn s c (gP s c) then di (gg s x c (gP s c)) else none):=by
     rw [Int.toNat_natCast];exact j5 jM
    have put : ∀ {F:Option (Option bB)→Prop} {y:Rat},y=(oX s c:Rat)*x c→fS y →
     ((if rn s c (gP s c) then di (gg s x c (gP s c)) else none:Option bB).elim (if (0+((gP s c:Nat):Int).toNat)<(q3 s x c).length then some (Sum.inl (U ((c:Int)+(1:Int)),(q3 s x c).set (0+((gP s c:Nat):Int).toNat) (di y))) else none)
       fun _=>o4 (if rn s c (gP s c) then di (gg s x c (gP s c)) else none) (di y) >>= fun cl=>if (0+((gP s c:Nat):Int).toNat)<(q3 s x c).length then some (Sum.inl (U ((c:Int)+(1:Int)),(q3 s x c).set (0+((gP s c:Nat):Int).toNat) cl)) else none)
     = some (Sum.inl (((c+1:Nat):Int),q3 s x (c+1)):(Int×(List (Option bB)))⊕((List (Option bB)))):=fun {F y} aK adk=>by
     rw [gv (by omega),Int.toNat_natCast,Nat.zero_add]
     cases q:rn s c (gP s c) with
     | false =>
      rw [if_neg (by simp)]
      show (if _ then _ else _)=_
      rw [if_pos (by rw [hlen];exact jM),fin _ (by rw [last,aay q,aK];congr 1;grind)]
     | true =>
      rw [if_pos rfl]
      show (o4 (di (gg s x c (gP s c))) (di y) >>= _)=_
      have bW:fS (gg s x c (gP s c)+y):=by rw [aK,← last];exact bh _ _ aP
      refine aB (Ki (bh _ _ (Nat.le_of_lt aP)) adk bW) ?_
      rw [if_pos (by rw [hlen];exact jM),fin _ (by rw [last,aK])]
    unfold wX
    simp only
    refine eh (by omega) (bK (by show _∧((c:Nat):Int)<((bU s:Nat):Int);omega) (aB j8 (bK (by rw [dp];omega) (aB (x:=di (x c)) (by rw [Int.toNat_natCast];exact hq aP) ?_))))
    rcases nJ with e|e
    ·refine eK (by simp only;omega) (bK (by rw [hlen];simp only;omega) (aB Q9 ?_))
     exact put (F:=fun _=>True) (by rw [e];grind) (aa c)
    ·refine eh (by simp only;omega) (aB (aax (x c)) (bK (by rw [hlen];simp only;omega) (aB Q9 ?_)))
     exact put (F:=fun _=>True) (by rw [e];grind) (aa c).neg)
  (fun _ _=>by
    unfold wX
    refine eK (by simp) ?_
    simp only
    congr 2
    exact fr fun k aX=>by rw [Z1 s aX,if_pos rfl]) () trivial
 have e0:q3 s x 0=List.replicate (((s.b2.length:Nat):Int).toNat) none:=by
  rw [Int.toNat_natCast,o7];exact fr fun k _=>rfl
 rw [← e0];exact e
theorem Xo {n:Nat}(a1:n≤40){y:Nat→Rat}(aK:∀k,k<n→fS (y k)):z5 (bf n fun k=>di (y k))=some (bf n (fun k=>np (y k)),true):=by
 have aL:len_ (cN 3 bd) (bf n fun k=>di (y k))=((n:Nat):Int):=by rw [h6,dp]
 unfold z5
 rw [aL]
 refine bK (by omega) (aB (x:= .inl (bf n fun k=>np (y k))) ?_ rfl)
 unfold IA
 obtain ⟨z,e,-⟩:=jz (f:=fun w:Int×(List gb)=>xn (bf n fun k=>di (y k)) ((n:Nat):Int) w.1 w.2) (fun (k:Nat) (_:Unit)=>((k:Int),bf n fun j=>if j<k then np (y j) else (⟨⟨false,[]⟩,[]⟩:gb))) n (fun _ _=>True) (fun _=>(.inl (bf n fun k=>np (y k)):(List gb)⊕Unit))
  (fun k aX _ _=>by
    refine ⟨(),?_,trivial⟩
    unfold xn
    simp only
    refine eh (by omega) (bK (by rw [dp];omega) (aB (x:=di (y k)) (by rw [Int.toNat_natCast];exact hq aX) ?_))
    show (Ad (di (y k)) >>= _)=_
    refine aB (Y0 (aK k aX)) (bK (by rw [dp];omega) (bK (by rw [dp,Int.toNat_natCast];omega) ?_))
    rw [gv (by omega),Int.toNat_natCast,Nat.zero_add,ll]
    congr 3
    refine fr fun j _=> ?_
    by_cases bE:j=k
    ·subst bE;rw [if_pos rfl,if_pos (by omega)]
    ·rw [if_neg bE]
     by_cases cU:j<k
     ·rw [if_pos cU,if_pos (by omega)]
     ·rw [if_neg cU,if_neg (by omega)])
  (fun _ _=>by
    unfold xn
    refine eK (by simp) ?_
    simp only
    congr 3
    exact fr fun j aA=>by rw [if_pos aA]) () trivial
 have e0:(bf n fun j=>if j<0 then np (y j) else (⟨⟨false,[]⟩,[]⟩:gb))=List.replicate (((n:Nat):Int).toNat) ⟨⟨false,[]⟩,[]⟩:=by
  rw [Int.toNat_natCast,o7];exact fr fun j _=>by rw [if_neg (by omega)]
 rw [← e0];exact e
structure KJ (m n:Nat) (a:Nat→Nat→Int) (b:Nat→Int) (c:Nat→Rat) (x:Nat→Rat) (w:Rat):Prop where
 nd:sU m n a b c x
 pos:0<w
 nK:dw (ly 100 m) w
 Sq : ∀j,dw (ly 100 m) (x j*w)
 fit : ∀j,fS (x j)
theorem Qp {m:Nat}(hm:m≤20):ly 100 m≤eo:=EM▸An (by omega) hm
theorem Qq {s:ca}{x:Nat→Rat}{w:Rat}{m:Nat}(hm:m≤20)(mH:bU s≤16)(ah:0<w)(hw:dw (ly 100 m) w)(aa:∀j,dw (ly 100 m) (x j*w)){c:Nat}(k:Nat)(aP:c≤bU s):fS (gg s x c k):=by
 have o:=QO aa k aP
 have hF:=Qp hm
 have R:c*ly 100 m≤16*eo:=Nat.mul_le_mul (by omega) hF
 have ad:16*eo≤40*(eo*100):=by omega
 exact A3 (K:=21*100*(eo*eo)) (hw.mono (Nat.le_trans hF KE)) (o.mono (Nat.le_trans R (Nat.le_trans ad KI))) (by grind) (by grind) (vA (Nat.le_refl _))
theorem Yn {α:Type}{T n:Nat}(f:Nat→α)(h:n≤T):(bf T f).take n=bf n f:=by
 apply List.ext_getElem?
 intro i
 by_cases c:i<n
 ·rw [List.getElem?_take,if_pos c,hq (by omega),hq c]
 ·rw [List.getElem?_take,if_neg c,List.getElem?_eq_none_iff.2 (by rw [dp];omega)]
theorem Y3 (s:ca)(v:lB s){p:ov}{m n:Nat}{a:Nat→Nat→Int}{b:Nat→Int}(h:pC p m n a b){c:Nat→Int}(mH:p.kP=bf n c)(aP:∀j,j<n→ -100≤c j∧c j≤100)(a1:bU s≤n):
 (¬oI m n a b∧uS s p.ln p.ks p.c0 p.c1 p.kP=some ([],[],false))∨(oI m n a b∧ ¬Bounded m n a b (mT n c)∧uS s p.ln p.ks p.c0 p.c1 p.kP=some ([],[],false)) ∨
   ∃x w r,KJ m n a b (mT n c) x w∧uS s p.ln p.ks p.c0 p.c1 p.kP=some (bf s.b2.length (fun k=>di (gg s x (bU s) k)),r,true):=by
 have bn:=v.2.2.2
 have afq:=si s
 obtain ⟨r,e,ap⟩:=Yj h mH aP
 rcases ap with ⟨q,rfl⟩|⟨q,bk,rfl⟩|⟨x,w,q,⟨jy,p3,FP⟩,cc,cV,rfl⟩
 ·exact .inl ⟨q,aB e (eX rfl rfl)⟩
 ·exact .inr (.inl ⟨q,bk,aB e (eX rfl rfl)⟩)
 ·have hr:len_ ev (gw s)=((bU s:Nat):Int):=h6 ..
  have b9:=Y2 s v cc (fun c k aP=>Qq h.hm (by omega) jy p3 FP k aP)
  have key : ∃r,uS s p.ln p.ks p.c0 p.c1 p.kP=some (bf s.b2.length (fun k=>di (gg s x (bU s) k)),r,true):=by
   refine ⟨((bf n fun j=>di (x j)).drop (bU s)).take (((bf n fun j=>di (x j)).map (cN 3 bd)).length-bU s),aB e (hp rfl (aB (x:=gw s) (DK s (by omega)) ?_))⟩
   rw [hr]
   simp only [Int.toNat_natCast]
   refine bK (by omega) (bK (by simp only [dp];omega) (aB ?_ (bK (by simp only [dp];omega) rfl)))
   simp only [List.drop_zero,Nat.sub_zero]
   rw [Yn _ a1]
   exact b9
  obtain ⟨r,ap⟩:=key
  exact .inr (.inr ⟨x,w,r,⟨q,jy,p3,FP,cc⟩,ap⟩)
theorem VO {m n:Nat}{a:Nat→Nat→Int}{b:Nat→Int}:Bounded m n a b (mT n fun _=>0):=⟨0,fun y _=>by
 unfold val
 rw [nN fun j aA=> ?_]
 ·exact Rat.le_refl
 ·have:mT n (fun _=>0) j=0:=by unfold mT n2;simp only;split<;>rfl
  rw [this];grind⟩
theorem Y4 (M N:Nat){i:Nat}(ag:i<M)(dq:M≤1000)(fC:N≤1000)(row:List Int)(aL:row.length=M*N)(aW bk:List Int):uY (i:Int) (M:Int) (N:Int) row aW bk=some (0+i*N,N):=by
 have o:i*N≤1000*1000:=Nat.mul_le_mul (by omega) fC
 have R:(i+1)*N≤1001*1000:=Nat.mul_le_mul (by omega) fC
 have ad:(i+1)*N≤M*N:=Nat.mul_le_mul_right _ ag
 have aD:(i+1)*N=i*N+N:=Nat.succ_mul i N
 have aw:U ((i:Int)*(N:Int))=((i*N:Nat):Int):=by rw [← Int.natCast_mul,cQ (by omega) (by omega)]
 have aC:U (U ((i:Int)+1)*(N:Int))=(((i+1)*N:Nat):Int):=by rw [gv (by omega),← Int.natCast_mul,cQ (by omega) (by omega)]
 unfold uY
 rw [aw,aC,Int.toNat_natCast,Int.toNat_natCast,aL]
 refine bK (by omega) (bK (by omega) (bK (by omega) ?_))
 rw [show (i+1)*N-i*N=N by omega]
noncomputable def hh (s:ca)(k:Int):Int:=(ml s k).getD 0
noncomputable def hN (s:ca)(x y d n:Int)(q:Nat):Int:=if (gP s q:Int)=x then d*hh s x else if (gP s q:Int)=y then (0-n)*hh s y else 0
def iE (list:List bu)(i:Nat):bu:=list.getD i ⟨0,0,0,0⟩
noncomputable def h4 (s:ca)(list:List bu)(r q:Nat):Int :=
 if r<2*cP s then nL s r q else if q<bU s then (if (r-2*cP s) % 2=0 then hN s (iE list ((r-2*cP s) / 2)).c0 (iE list ((r-2*cP s) / 2)).c1 (iE list ((r-2*cP s) / 2)).dX (iE list ((r-2*cP s) / 2)).dW q else hN s (iE list ((r-2*cP s) / 2)).c1 (iE list ((r-2*cP s) / 2)).c0 (iE list ((r-2*cP s) / 2)).dX (iE list ((r-2*cP s) / 2)).dW q)
  else if q-bU s=r-2*cP s then 1 else 0
def eY (s:ca)(k:Nat):Nat:=bU s+2*k
def hS (s:ca)(k:Nat):Nat:=2*cP s+2*k
noncomputable def k2 (s:ca)(list:List bu)(N r c x:Nat):Int:=if x / N<r∨(x / N=r∧x % N<c) then h4 s list (x / N) (x % N) else nL s (x / N) (x % N)
theorem Y5 (s:ca)(list:List bu)(T N:Nat):bf T (k2 s list N (2*cP s) 0)=bf T fun x=>nL s (x / N) (x % N):=fr fun x _=>by
 unfold k2
 by_cases c:x / N<2*cP s
 ·rw [if_pos (.inl c)];unfold h4;rw [if_pos c]
 ·rw [if_neg (fun h=>h.elim c fun h=>Nat.not_lt_zero _ h.2)]
theorem Qr (s:ca)(list:List bu){T N r c:Nat}(aP:c<N){v:Int}(a2:v=h4 s list r c):(bf T (k2 s list N r c)).set (r*N+c) v=bf T (k2 s list N r (c+1)):=by
 have R:(r*N+c) / N=r:=by rw [Nat.mul_comm,Nat.mul_add_div (by omega),Nat.div_eq_of_lt aP];rfl
 have ad:(r*N+c) % N=c:=by rw [Nat.mul_comm,Nat.mul_add_mod,Nat.mod_eq_of_lt aP]
 rw [ll]
 refine fr fun x _=> ?_
 by_cases e:x=r*N+c
 ·rw [if_pos e,e]
  unfold k2
  rw [R,ad,if_pos (.inr ⟨rfl,by omega⟩),a2]
 ·rw [if_neg e]
  have cu : ¬(x / N=r∧x % N=c):=fun ⟨a,b⟩=>e (by rw [← Nat.div_add_mod x N,a,b,Nat.mul_comm])
  unfold k2
  by_cases g:x / N<r∨(x / N=r∧x % N<c)
  ·rw [if_pos g,if_pos (by omega)]
  ·rw [if_neg g,if_neg (by omega)]
theorem Y6 (s:ca)(list:List bu){T N r c:Nat}(a2:nL s r c=h4 s list r c):bf T (k2 s list N r c)=bf T (k2 s list N r (c+1)):=fr fun x _=>by
 unfold k2
 by_cases g:x / N<r∨(x / N=r∧x % N<c)
 ·rw [if_pos g,if_pos (by omega)]
 ·rw [if_neg g]
  by_cases e:x / N=r∧x % N=c
  ·rw [if_pos (.inr ⟨e.1,by omega⟩),e.1,e.2,a2]
  ·rw [if_neg (by omega)]
theorem Y7 (s:ca)(list:List bu){T N r b:Nat}(fC:N=eY s list.length)(aJ:b<2*list.length)(ap:r=2*cP s+b):(bf T (k2 s list N r (bU s))).set (r*N+(bU s+b)) 1=bf T (k2 s list N (r+1) 0):=by
 have dC:bU s+b<N:=by rw [fC];unfold eY;omega
 have R:(r*N+(bU s+b)) / N=r:=by rw [Nat.mul_comm,Nat.mul_add_div (by omega),Nat.div_eq_of_lt dC];rfl
 have ad:(r*N+(bU s+b)) % N=bU s+b:=by rw [Nat.mul_comm,Nat.mul_add_mod,Nat.mod_eq_of_lt dC]
 rw [ll]
 refine fr fun x _=> ?_
 by_cases e:x=r*N+(bU s+b)
 ·rw [if_pos e,e]
  unfold k2
  rw [R,ad,if_pos (.inl (by omega))]
  unfold h4
  rw [if_neg (by omega),if_neg (by omega),if_pos (by omega)]
 ·rw [if_neg e]
  have cu : ¬(x / N=r∧x % N=bU s+b):=fun ⟨a,b⟩=>e (by rw [← Nat.div_add_mod x N,a,b,Nat.mul_comm])
  unfold k2
  by_cases g:x / N<r∨(x / N=r∧x % N<bU s)
  ·rw [if_pos g,if_pos (by omega)]
  ·rw [if_neg g]
   by_cases d:x / N=r
   ·rw [if_pos (.inl (by omega)),d]
    unfold nL h4
    rw [if_neg (by omega),if_neg (by omega),if_neg (by omega),if_neg (by omega)]
   ·rw [if_neg (by omega)]
theorem Ob (s:ca)(v:lB s)(list:List bu){N T r:Nat}{x y d n:Int}(fC:bU s≤N)(ht:(r+1)*N≤T)(acU:T≤100000)(ap:2*cP s≤r)(aa:ml s x=some (hh s x))(aK:ml s y=some (hh s y))
 (hQ:0≤d*hh s x∧d*hh s x≤100) (ko:0≤n*hh s y∧n*hh s y≤100) (rT:0≤n∧n≤100) (acV : ∀q,q<bU s→h4 s list r q=hN s x y d n q) (f1 f2 i0 Sr:Int) (t37:List bu) (t38 h3 j2 bE cU:Int) (aW bk:List Int) :
 zs s.c7 s.b2 (gw s) f1 f2 i0 Sr (r*N) N t37 t38 h3 j2 (bU s:Int) bE cU n d x y aW bk 0 (bf T (k2 s list N r 0))=some (bf T (k2 s list N r (bU s))):=by
 have mH:=si s
 have bn:=v.2.2.2
 have dN : ∀q,nL s r q=0:=fun q=>by unfold nL;rw [if_neg (by omega)]
 unfold zs
 obtain ⟨z,e,-⟩:=jz (f:=fun w:Int×List Int=>wH s.c7 s.b2 (gw s) f1 f2 i0 Sr (r*N) N t37 t38 h3 j2 (bU s:Int) bE cU n d x y aW bk w.1 w.2) (fun (c:Nat) (_:Unit)=>((c:Int),bf T (k2 s list N r c))) (bU s) (fun _ _=>True) (fun _=>bf T (k2 s list N r (bU s)))
  (fun c aP _ _=>by
    refine ⟨(),?_,trivial⟩
    obtain ⟨j8,jM,nJ⟩:=sV s aP
    have aJ:=acV c aP
    have dC:r*N+c<T:=by rw [Nat.succ_mul] at ht;omega
    unfold wH
    simp only
    rw [gv (by omega)]
    refine eh (by omega) (bK (by show _∧((c:Nat):Int)<((bU s:Nat):Int);omega) (aB j8 ?_))
    unfold hN at aJ
    by_cases aw:(gP s c:Int)=x
    ·rw [if_pos aw] at aJ
     refine eX (by simp only;rw [aw];simp) (aB aa (bK (by omega) (bK (by rw [dp,Int.toNat_natCast];omega) ?_)))
     rw [Int.toNat_natCast,cQ (by omega) (by omega),Qr s list (by omega) aJ.symm]
    ·rw [if_neg aw] at aJ
     refine hp (by simp only;exact beq_false_of_ne aw) ?_
     by_cases aC:(gP s c:Int)=y
     ·rw [if_pos aC] at aJ
      refine eX (by simp only;rw [aC];simp) (aB aK (bK (by omega) (bK (by rw [dp,Int.toNat_natCast];omega) ?_)))
      have hm:(0-n)*hh s y = -(n*hh s y):=by rw [Int.zero_sub,Int.neg_mul]
      rw [Int.toNat_natCast,cQ (x:=0-n) (by omega) (by omega),cQ (by omega) (by omega),Qr s list (by omega) aJ.symm]
     ·rw [if_neg aC] at aJ
      refine hp (by simp only;exact beq_false_of_ne aC) ?_
      rw [Y6 s list (by rw [dN,aJ])])
  (fun _ _=>by unfold wH;exact eK (by simp) rfl) () trivial
 exact e
structure E0 (s:ca) (b:bu):Prop where
 oi:ml s b.c0=some (hh s b.c0)
 zl:ml s b.c1=some (hh s b.c1)
 adl:0≤b.dX*hh s b.c0∧b.dX*hh s b.c0≤100
 adm:0≤b.dX*hh s b.c1∧b.dX*hh s b.c1≤100
 adn:0≤b.dW*hh s b.c0∧b.dW*hh s b.c0≤100
 ado:0≤b.dW*hh s b.c1∧b.dW*hh s b.c1≤100
 n:0≤b.dW∧b.dW≤100
theorem Ph (s:ca)(list:List bu)(i:Nat){q:Nat}(a6:q<bU s):h4 s list (2*cP s+2*i) q=hN s (iE list i).c0 (iE list i).c1 (iE list i).dX (iE list i).dW q:=by
 unfold h4
 rw [if_neg (by omega),if_pos a6,if_pos (by omega),show (2*cP s+2*i-2*cP s) / 2=i by omega]
theorem Pj (s:ca)(list:List bu)(i:Nat){q:Nat}(a6:q<bU s):h4 s list (2*cP s+2*i+1) q=hN s (iE list i).c1 (iE list i).c0 (iE list i).dX (iE list i).dW q:=by
 unfold h4
 rw [if_neg (by omega),if_pos a6,if_neg (by omega),show (2*cP s+2*i+1-2*cP s) / 2=i by omega]
theorem Wb (s:ca)(v:lB s)(list:List bu)(ad:list.length≤3){i:Nat}(ag:i<list.length)(aJ:E0 s (iE list i))(t37:List bu)(t38:Int)(aW bk:List Int):
 Cz s.c7 s.b2 (gw s) ((2*cP s:Nat):Int) (bU s:Int) (i:Int) t37 t38 (iE list i).c0 (iE list i).c1 (hS s list.length:Int) (eY s list.length:Int) (iE list i).dW (iE list i).dX aW bk 0 (bf (hS s list.length*eY s list.length) (k2 s list (eY s list.length) (2*cP s+2*i) 0)) =
  some (bf (hS s list.length*eY s list.length) (k2 s list (eY s list.length) (2*cP s+2*(i+1)) 0)):=by
 have mH:=si s
 have tB:=uf s
 obtain ⟨-,-,bq,bn⟩:=id v
 have dq:hS s list.length≤18:=by unfold hS;omega
 have fC:eY s list.length≤22:=by unfold eY;omega
 have R8:bU s≤eY s list.length:=by unfold eY;omega
 have acT:hS s list.length*eY s list.length≤18*22:=Nat.mul_le_mul dq fC
 have hr:len_ ev (gw s)=((bU s:Nat):Int):=h6 ..
 have Ma:U ((2:Int)*(i:Int))=((2*i:Nat):Int):=by rw [cQ (by omega) (by omega)];omega
 unfold Cz
 obtain ⟨z,e,-⟩:=jz (f:=fun w:Int×List Int=>wI s.c7 s.b2 (gw s) ((2*cP s:Nat):Int) (bU s:Int) (i:Int) t37 t38 (iE list i).c0 (iE list i).c1 (hS s list.length:Int) (eY s list.length:Int) (iE list i).dW (iE list i).dX aW bk w.1 w.2)
  (fun (k:Nat) (_:Unit)=>((k:Int),bf (hS s list.length*eY s list.length) (k2 s list (eY s list.length) (2*cP s+2*i+k) 0))) 2 (fun _ _=>True) (fun _=>bf (hS s list.length*eY s list.length) (k2 s list (eY s list.length) (2*cP s+2*(i+1)) 0))
  (fun k aX _ _=>by
    refine ⟨(),?_,trivial⟩
    have ap:2*cP s+2*i+k<hS s list.length:=by unfold hS;omega
    have jy:U (U (((2*cP s:Nat):Int)+((2*i:Nat):Int))+(k:Int))=((2*cP s+2*i+k:Nat):Int):=by
     rw [cQ (x:=((2*cP s:Nat):Int)+((2*i:Nat):Int)) (by omega) (by omega),cQ (by omega) (by omega)];omega
    have p3:U (U ((bU s:Int)+((2*i:Nat):Int))+(k:Int))=((bU s+(2*i+k):Nat):Int):=by
     rw [cQ (x:=(bU s:Int)+((2*i:Nat):Int)) (by omega) (by omega),cQ (by omega) (by omega)];omega
    have dt:=Y4 (hS s list.length) (eY s list.length) ap (by omega) (by omega) (bf (hS s list.length*eY s list.length) (k2 s list (eY s list.length) (2*cP s+2*i+k) 0)) (dp ..) aW bk
    rw [Nat.zero_add] at dt
    have ht:(2*cP s+2*i+k+1)*eY s list.length≤hS s list.length*eY s list.length:=Nat.mul_le_mul_right _ ap
    have acU:(2*cP s+2*i+k)*eY s list.length+eY s list.length≤hS s list.length*eY s list.length:=by rw [← Nat.succ_mul];exact ht
    have dC:bU s+(2*i+k)<eY s list.length:=by unfold eY;omega
    have abj:zs s.c7 s.b2 (gw s) ((2*cP s:Nat):Int) (bU s:Int) (i:Int) (k:Int) ((2*cP s+2*i+k)*eY s list.length) (eY s list.length) t37 t38 (iE list i).c0 (iE list i).c1 (bU s:Int) (hS s list.length:Int) (eY s list.length:Int) (iE list i).dW (iE list i).dX (if (k:Int)=0 then (iE list i).c0 else (iE list i).c1) (if (k:Int)=0 then (iE list i).c1 else (iE list i).c0) aW bk 0 (bf (hS s list.length*eY s list.length) (k2 s list (eY s list.length) (2*cP s+2*i+k) 0)) =
     some (bf (hS s list.length*eY s list.length) (k2 s list (eY s list.length) (2*cP s+2*i+k) (bU s))):=by
     have:k=0∨k=1:=by omega
     rcases this with rfl|rfl
     ·rw [if_pos (by simp),if_pos (by simp)]
      exact Ob s v list R8 ht (by omega) (by omega) aJ.oi aJ.zl aJ.adl aJ.ado aJ.n (fun q a6=>Ph s list i a6) _ _ _ _ _ _ _ _ _ _ _ _
     ·rw [if_neg (by simp),if_neg (by simp)]
      exact Ob s v list R8 ht (by omega) (by omega) aJ.zl aJ.oi aJ.adm aJ.adn aJ.n (fun q a6=>Pj s list i a6) _ _ _ _ _ _ _ _ _ _ _ _
    unfold wI
    simp only
    rw [Ma,jy,p3,hr,gv (by omega)]
    refine eh (by omega) (bK (by omega) (aB dt (aB abj (bK (by simp only;omega) (bK (by rw [dp,Int.toNat_natCast];simp only;omega) ?_)))))
    simp only
    rw [Int.toNat_natCast,Y7 s list rfl (by omega) (by omega)];rfl)
  (fun _ _=>by
    unfold wI
    refine eK (by simp) ?_
    simp only
    rw [show 2*cP s+2*i+2=2*cP s+2*(i+1) by omega]) () trivial
 exact e
theorem Z2 {list:List bu}{i:Nat}(ag:i<list.length):list[i]? = some (iE list i):=by
 unfold iE
 rw [List.getD_eq_getElem?_getD,List.getElem?_eq_getElem ag];rfl
theorem U4 (s:ca)(v:lB s)(l:List Int)(aL:l.length=2*s.c7.length)(aJ:∀x∈l,-100≤x∧x≤100)(list:List bu)(ad:list.length≤3)(f8:∀b∈list,E0 s b):
 zu s l list=some ((hS s list.length:Int),(eY s list.length:Int),bf (hS s list.length*eY s list.length) (fun x=>h4 s list (x / eY s list.length) (x % eY s list.length)),bf (hS s list.length) (iw s l),bf (eY s list.length) fun _=>0):=by
 have mH:=si s
 have tB:=uf s
 obtain ⟨-,-,bq,bn⟩:=id v
 have adp:U ((2:Int)*(len_ cG list))=((2*list.length:Nat):Int):=by rw [h6,cQ (by omega) (by omega)];omega
 have b9:=OH s v l aL aJ (2*list.length) (2*list.length) (by omega) (by omega)
 have wr:U (((2*cP s+2*list.length:Nat):Int)-((2*list.length:Nat):Int))=((2*cP s:Nat):Int):=by rw [cQ (by omega) (by omega)];omega
 have hr:len_ ev (gw s)=((bU s:Nat):Int):=h6 ..
 unfold zu
 rw [adp]
 refine aB (x:=gw s) (DK s (by omega)) ?_
 rw [hr]
 refine aB b9 ?_
 simp only
 rw [wr]
 refine aB (x:=bf (hS s list.length*eY s list.length) (fun x=>h4 s list (x / eY s list.length) (x % eY s list.length))) ?_ rfl
 unfold Gi
 rw [h6]
 obtain ⟨z,e,-⟩:=jz (f:=fun w:Int×List Int=>wJ s.c7 s.b2 (gw s) ((2*cP s:Nat):Int) (bU s:Int) list (list.length:Int) (hS s list.length:Int) (eY s list.length:Int) (bf (hS s list.length) (iw s l)) (bf (eY s list.length) fun _=>0) w.1 w.2)
  (fun (i:Nat) (_:Unit)=>((i:Int),bf (hS s list.length*eY s list.length) (k2 s list (eY s list.length) (2*cP s+2*i) 0))) list.length (fun _ _=>True) (fun _=>bf (hS s list.length*eY s list.length) (fun x=>h4 s list (x / eY s list.length) (x % eY s list.length)))
  (fun i ag _ _=>by
    refine ⟨(),?_,trivial⟩
    have dN:=Z2 ag
    have bW:=Wb s v list ad ag (f8 _ (List.mem_of_getElem? dN)) list (list.length:Int) (bf (hS s list.length) (iw s l)) (bf (eY s list.length) fun _=>0)
    unfold wJ
    simp only
    rw [gv (by omega)]
    exact eh (by omega) (bK (by omega) (aB (x:=iE list i) (by rw [Int.toNat_natCast];exact dN) (aB bW rfl)))
  )
  (fun _ _=>by
    unfold wJ
    refine eK (by simp) ?_
    simp only
    congr 2
    refine fr fun x aa=> ?_
    have ap:x / eY s list.length<2*cP s+2*list.length:=Nat.div_lt_of_lt_mul (by rw [Nat.mul_comm];exact aa)
    unfold k2
    rw [if_pos (.inl ap)]) () trivial
 have e0:=Y5 s list (hS s list.length*eY s list.length) (eY s list.length)
 rw [Nat.mul_zero,Nat.add_zero,e0] at e
 exact e
theorem Qs (x:Int):0≤U (((BitVec.ofInt (IntKind.bits .i64) x &&& BitVec.ofInt (IntKind.bits .i64) (255:Int)).toNat:Int))∧U (((BitVec.ofInt (IntKind.bits .i64) x &&& BitVec.ofInt (IntKind.bits .i64) (255:Int)).toNat:Int))≤255:=by
 have h:(BitVec.ofInt (IntKind.bits .i64) x &&& BitVec.ofInt (IntKind.bits .i64) (255:Int)).toNat≤255:=by
  rw [BitVec.toNat_and]
  exact Nat.le_trans Nat.and_le_right (Nat.le_of_eq (by decide))
 rw [cQ (by omega) (by omega)]
 omega
theorem Y8 (c:List Int)(aP:c.length≤1048576)(i h:Int)(ag:0≤i): ∃b fx cv,sG c i h=some (b,fx,cv)∧(0≤b∧b≤255)∧0≤fx:=by
 unfold sG
 by_cases e:i<c.length
 ·have aa:=List.getElem?_eq_getElem (show i.toNat<c.length by omega)
  exact ⟨_,_,_,eh (by show i<((c.map eU8).length:Nat);rw [List.length_map];exact e) (bK ⟨ag,e⟩ (aB aa rfl)),Qs _,by rw [cQ (by omega) (by omega)];omega⟩
 ·exact ⟨_,_,_,eK (by show ¬i<((c.map eU8).length:Nat);rw [List.length_map];exact e) rfl,Qs _,ag⟩
theorem x5 (n:Int)(o:1≤n)(R:n≤256)(c:List Int)(aP:c.length≤1048576)(i h:Int)(ag:0≤i): ∃b fx cv,lX n c i h=some (b,fx,cv)∧(0≤b∧b<n)∧0≤fx:=by
 obtain ⟨b,fx,cv,e,aJ,j1⟩:=Y8 c aP i h ag
 unfold lX
 refine ⟨b.tmod n,fx,cv,eK (by omega) (eh R (aB e (bK (by omega) rfl))),?_,j1⟩
 rw [Int.tmod_eq_emod_of_nonneg aJ.1]
 exact ⟨Int.emod_nonneg _ (by omega),Int.emod_lt_of_pos _ (by omega)⟩
theorem PT (n:Int)(o:1≤n)(R:n≤256)(c:List Int)(aP:c.length≤1048576)(i h:Int)(ag:0≤i): ∃b fx cv,r5 n c i h=some (b,fx,cv)∧0≤fx:=by
 obtain ⟨b,fx,cv,e,-,j1⟩:=x5 n o R c aP i h ag
 exact ⟨b == 0,fx,cv,aB e rfl,j1⟩
theorem JP (l:List Int)(o:1≤l.length)(R:l.length≤256)(c:List Int)(aP:c.length≤1048576)(i h:Int)(ag:0≤i): ∃b fx cv,xB l c i h=some (b,fx,cv)∧b∈l∧0≤fx:=by
 obtain ⟨b,fx,cv,e,aJ,j1⟩:=x5 (len_ J l) (by rw [h6];omega) (by rw [h6];omega) c aP i h ag
 rw [h6] at aJ
 have aa:=List.getElem?_eq_getElem (show b.toNat<l.length by omega)
 exact ⟨_,fx,cv,aB e (bK (by simp only;omega) (aB aa rfl)),List.getElem_mem _,j1⟩
theorem Z3 (c:List Int)(aP:c.length≤1048576): ∃h,Dr c=some h:=by
 obtain ⟨r,e,-⟩:=sP (f:=fun w:Int×Int=>w5 c w.1 w.2) (fun (n:Nat) (s:Int)=>(s,(n:Int))) c.length (fun _ _=>True) (fun _=>True)
  (fun n a1 s _=>by
    have aa:=List.getElem?_eq_getElem a1
    simp only
    unfold w5
    have aL:(n:Int)<len_ eU8 c:=by rw [h6];omega
    by_cases d:(n:Int)<4000
    ·exact .inl ⟨_,eh aL (eh d (bK (by omega) (aB (gt rfl aa) (by rw [oW (by omega)])))),trivial⟩
    ·exact .inr ⟨_,eh aL (eK d rfl),trivial⟩)
  (fun s _=>⟨_,by simp only;unfold w5;exact eK (by rw [h6];omega) rfl,trivial⟩) (U ((1975:Int)+len_ eU8 c)) trivial
 exact ⟨r,aB e rfl⟩
end Go.Proofs.YtgfpnhmcmgnepacGreat
