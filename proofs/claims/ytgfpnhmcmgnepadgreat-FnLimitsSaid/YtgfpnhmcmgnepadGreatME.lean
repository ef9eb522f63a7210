/- Lemmas, plain functions of the program, and what they answer. No condition. -/
import Derived.Test.YtgfpnhmcmgnepadGreatMD
namespace Go.Proofs.YtgfpnhmcmgnepadGreat
set_option linter.unusedVariables false
set_option linter.unusedSimpArgs false
open Go Go.VL
def Im (a0 rl sc:Int):Option Bool :=
 if (decide (rl≤a0))=true then
  some (decide (a0≤sc))
 else
  some false
def yN (ba:List Int)(a0:Int):Option ((Int)⊕(Int)) :=
 if (decide ((0:Int)<a0))=true then
  if 0≤(U (a0-(1:Int)))∧(U (a0-(1:Int)))<ba.length then
  ba[(U (a0-(1:Int))).toNat]? >>= fun aU =>
  if (aU == (0:Int))=true then
   some (.inl (U (a0-(1:Int))))
  else
   some (.inr a0)
  else none
 else
  some (.inr a0)
def ML (ba:List Int)(a0:Int):Option (Int):=iter (fun w:Int=>yN ba w) a0
def tO (ba:List Int):Option (List Int) :=
 ML ba (len_ J ba) >>= fun ak =>
 if 0≤ak then
 if 0≤ak.toNat∧ak.toNat≤ba.length then
 some ((ba.drop 0).take (ak.toNat-0))
 else none
 else none
def Ca (a0:Int)(aj:List Int):Option ((Int×(List Int))⊕((List Int))) :=
 if (decide ((0:Int)<a0))=true then
  if (aj++([a0.tmod (1000000000:Int)]:List Int)).length*8≤140737488355328 then
  some (.inl (U (a0.tdiv (1000000000:Int)),aj++([a0.tmod (1000000000:Int)]:List Int)))
  else none
 else
  some (.inr aj)
def M1 (a0:Int)(aj:List Int):Option ((List Int)):=iter (fun w:Int×(List Int)=>Ca w.1 w.2) (a0,aj)
def w6 (a0:Int):Option (List Int) :=
 M1 a0 ([]:List Int) >>= fun ak =>
 some ak
def Ia (ba:List Int):Option Bool :=
 if ((len_ J ba) == (1:Int))=true then
  if 0≤(0:Int)∧(0:Int)<ba.length then
  ba[0]? >>= fun aU =>
  some (aU == (1:Int))
  else none
 else
  some false
def B5 (ba a9:List Int)(bd:Int):Option ((Int)⊕((Unit)⊕(Int))) :=
 if (decide ((0:Int)≤bd))=true then
  if 0≤bd∧bd<ba.length then
  ba[bd.toNat]? >>= fun aU =>
  if 0≤bd∧bd<a9.length then
  a9[bd.toNat]? >>= fun cd =>
  if (decide (aU<cd))=true then
   some (.inr (.inr (-1)))
  else
   if (decide (cd<aU))=true then
    some (.inr (.inr 1))
   else
    some (.inl (U (bd-(1:Int))))
  else none
  else none
 else
  some (.inr (.inl ()))
def MP (ba a9:List Int)(bd:Int):Option ((Unit)⊕(Int)):=iter (fun w:Int=>B5 ba a9 w) bd
def wY (ba a9:List Int):Option Int :=
 if ((len_ J ba) != (len_ J a9))=true then
  if (decide ((len_ J ba)<(len_ J a9)))=true then
   some (-1)
  else
   some 1
 else
  MP ba a9 (U ((len_ J ba)-(1:Int))) >>= fun bm =>
  match bm with
  | .inl fD=>(some 0)
  | .inr fD=>(some fD)
def yP (ba a9:List Int)(dG pP dH:Int)(aj:List Int):Option ((Int×Int×(List Int))⊕((List Int))) :=
 if (decide (dH<dG))=true then
  if 0≤dH∧dH<ba.length then
  ba[dH.toNat]? >>= fun aU =>
  if (decide (dH<(len_ J a9)))=true then
   if 0≤dH∧dH<a9.length then
   a9[dH.toNat]? >>= fun fY =>
   if (decide ((U ((U (aU-pP))-fY))<(0:Int)))=true then
    if (aj++([U ((U ((U (aU-pP))-fY))+(1000000000:Int))]:List Int)).length*8≤140737488355328 then
    some (.inl (1,U (dH+(1:Int)),aj++([U ((U ((U (aU-pP))-fY))+(1000000000:Int))]:List Int)))
    else none
   else
    if (aj++([U ((U (aU-pP))-fY)]:List Int)).length*8≤140737488355328 then
    some (.inl (0,U (dH+(1:Int)),aj++([U ((U (aU-pP))-fY)]:List Int)))
    else none
   else none
  else
   if (decide ((U (aU-pP))<(0:Int)))=true then
    if (aj++([U ((U (aU-pP))+(1000000000:Int))]:List Int)).length*8≤140737488355328 then
    some (.inl (1,U (dH+(1:Int)),aj++([U ((U (aU-pP))+(1000000000:Int))]:List Int)))
    else none
   else
    if (aj++([U (aU-pP)]:List Int)).length*8≤140737488355328 then
    some (.inl (0,U (dH+(1:Int)),aj++([U (aU-pP)]:List Int)))
    else none
  else none
 else
  some (.inr aj)
def MQ (ba a9:List Int)(dG pP dH:Int)(aj:List Int):Option ((List Int)):=iter (fun w:Int×Int×(List Int)=>yP ba a9 dG w.1 w.2.1 w.2.2) (pP,dH,aj)
def Ib (ba a9:List Int):Option (List Int) :=
 MQ ba a9 (len_ J ba) 0 0 ([]:List Int) >>= fun ak =>
 tO ak >>= fun bk =>
 some bk
def Cb (ba:List Int)(lh dz:Int):Option ((Int)⊕((Unit)⊕(Unit))) :=
 if (decide (dz<lh))=true then
  if 0≤dz∧dz<ba.length then
  ba[dz.toNat]? >>= fun aU =>
  Im aU 0 999999999 >>= fun bh =>
  if bh=true then
   some (.inl (U (dz+(1:Int))))
  else
   some (.inr (.inr ()))
  else none
 else
  some (.inr (.inl ()))
def M2 (ba:List Int)(lh dz:Int):Option ((Unit)⊕(Unit)):=iter (fun w:Int=>Cb ba lh w) dz
def w7 (ba:List Int):Option Bool :=
 M2 ba (len_ J ba) 0 >>= fun ak =>
 match ak with
 | .inl bs=>(if (decide ((len_ J ba)≤(60:Int)))=true then
  if ((len_ J ba) == (0:Int))=true then
   some true
  else
   if 0≤(U ((len_ J ba)-(1:Int)))∧(U ((len_ J ba)-(1:Int)))<ba.length then
   ba[(U ((len_ J ba)-(1:Int))).toNat]? >>= fun fY =>
   some (fY != (0:Int))
   else none
  else
   some false)
 | .inr bs=>(some false)
def BV (ba:List Int)(a0 bd:Int):Option ((Int×Int)⊕(Int)) :=
 if (decide ((0:Int)≤bd))=true then
  if 0≤bd∧bd<ba.length then
  ba[bd.toNat]? >>= fun aU =>
  some (.inl (U ((U (a0*(1000000000:Int)))+aU),U (bd-(1:Int))))
  else none
 else
  some (.inr a0)
def MB (ba:List Int)(a0 bd:Int):Option (Int):=iter (fun w:Int×Int=>BV ba w.1 w.2) (a0,bd)
def CD (ba:List Int):Option (Int×Bool) :=
 w7 ba >>= fun ak =>
 if ak=true then
  wY ba ([854775807,223372036,9]:List Int) >>= fun aX =>
  if (decide ((0:Int)<aX))=true then
   some (0,false)
  else
   MB ba 0 (U ((len_ J ba)-(1:Int))) >>= fun bK =>
   some (bK,true)
 else
  some (0,false)
def BW (b2 eH:Int):Option ((Int×Int)⊕(Int)) :=
 if (decide ((0:Int)<eH))=true then
  if eH≠0 then
  some (.inl (eH,b2.tmod eH))
  else none
 else
  some (.inr b2)
def MC (b2 eH:Int):Option (Int):=iter (fun w:Int×Int=>BW w.1 w.2) (b2,eH)
def HS (b2 eH:Int):Option (List Int) :=
 MC b2 eH >>= fun ak =>
 w6 ak >>= fun bk =>
 some bk
def BX (ba:List Int)(u4 hj bd:Int)(aj:List Int):Option ((Int×Int×(List Int))⊕(Int×(List Int))) :=
 if (decide ((0:Int)≤bd))=true then
  if 0≤bd∧bd<ba.length then
  ba[bd.toNat]? >>= fun aU =>
  if u4≠0 then
  if 0≤bd∧bd<(aj.length:Nat) then
  if (0+bd.toNat)<aj.length then
  some (.inl ((U ((U (hj*(1000000000:Int)))+aU)).tmod u4,U (bd-(1:Int)),aj.set (0+bd.toNat) (U ((U ((U (hj*(1000000000:Int)))+aU)).tdiv u4))))
  else none
  else none
  else none
  else none
 else
  some (.inr (hj,aj))
def Hu (ba:List Int)(u4 hj bd:Int)(aj:List Int):Option (Int×(List Int)):=iter (fun w:Int×Int×(List Int)=>BX ba u4 w.1 w.2.1 w.2.2) (hj,bd,aj)
def HT (ba:List Int)(u4:Int):Option ((List Int)×Int) :=
 if 0≤(len_ J ba)∧(8:Int)*(len_ J ba)≤281474976710656∧(len_ J ba)<9223372036854775808 then
 Hu ba u4 0 (U ((len_ J ba)-(1:Int))) (List.replicate (len_ J ba).toNat 0:List Int) >>= fun bm =>
 tO bm.2 >>= fun aX =>
 some (aX,bm.1)
 else none
def B6 (a9:List Int)(bd b2:Int)(dC:List Int)(dp dL ed dg:Int)(aj:List Int):Option ((Int×Int×(List Int))⊕(Int×(List Int))) :=
 if (decide (dg<dL))=true then
  if 0≤dg∧dg<a9.length then
  a9[dg.toNat]? >>= fun aU =>
  if 0≤(U (bd+dg))∧(U (bd+dg))<(aj.length:Nat) then
  aj[(0+(U (bd+dg)).toNat)]? >>= fun cd =>
  if (0+(U (bd+dg)).toNat)<aj.length then
  some (.inl (U ((U ((U (cd+(U (b2*aU))))+ed)).tdiv (1000000000:Int)),U (dg+(1:Int)),aj.set (0+(U (bd+dg)).toNat) ((U ((U (cd+(U (b2*aU))))+ed)).tmod (1000000000:Int))))
  else none
  else none
  else none
 else
  some (.inr (ed,aj))
def MR (a9:List Int)(bd b2:Int)(dC:List Int)(dp dL ed dg:Int)(aj:List Int):Option (Int×(List Int)):=iter (fun w:Int×Int×(List Int)=>B6 a9 bd b2 dC dp dL w.1 w.2.1 w.2.2) (ed,dg,aj)
def GY (a9 dC:List Int)(dp d6:Int)(aj:List Int):Option ((Int×(List Int))⊕((List Int))) :=
 if (decide (d6<dp))=true then
  if 0≤d6∧d6<dC.length then
  dC[d6.toNat]? >>= fun aU =>
  MR a9 d6 aU dC dp (len_ J a9) 0 0 aj >>= fun bh =>
  if 0≤(U (d6+(len_ J a9)))∧(U (d6+(len_ J a9)))<(bh.2.length:Nat) then
  if (0+(U (d6+(len_ J a9))).toNat)<bh.2.length then
  some (.inl (U (d6+(1:Int)),bh.2.set (0+(U (d6+(len_ J a9))).toNat) bh.1))
  else none
  else none
  else none
 else
  some (.inr aj)
def Cw (a9 dC:List Int)(dp d6:Int)(aj:List Int):Option ((List Int)):=iter (fun w:Int×(List Int)=>GY a9 dC dp w.1 w.2) (d6,aj)
def CN (ba a9:List Int):Option (List Int) :=
 if ((len_ J ba) == (0:Int))=true then
  some ([]:List Int)
 else
  if ((len_ J a9) == (0:Int))=true then
   some ([]:List Int)
  else
   if 0≤(U ((len_ J ba)+(len_ J a9)))∧(8:Int)*(U ((len_ J ba)+(len_ J a9)))≤281474976710656∧(U ((len_ J ba)+(len_ J a9)))<9223372036854775808 then
   Cw a9 ba (len_ J ba) 0 (List.replicate (U ((len_ J ba)+(len_ J a9))).toNat 0:List Int) >>= fun aX =>
   tO aX >>= fun cj =>
   some cj
   else none
def yK (de a9:List Int)(rl sc:Int):Option ((Int×Int)⊕(Int)) :=
 if (decide (rl<sc))=true then
  w6 (U ((U ((U (rl+sc))+(1:Int))).tdiv (2:Int))) >>= fun bm =>
  CN a9 bm >>= fun aX =>
  wY aX de >>= fun cj =>
  if (decide (cj≤(0:Int)))=true then
   some (.inl (U ((U ((U (rl+sc))+(1:Int))).tdiv (2:Int)),sc))
  else
   some (.inl (rl,U ((U ((U ((U (rl+sc))+(1:Int))).tdiv (2:Int)))-(1:Int))))
 else
  some (.inr rl)
def Hv (de a9:List Int)(rl sc:Int):Option (Int):=iter (fun w:Int×Int=>yK de a9 w.1 w.2) (rl,sc)
def HU (de a9:List Int):Option Int :=
 if 0≤(U ((len_ J a9)-(1:Int)))∧(U ((len_ J a9)-(1:Int)))<de.length then
 de[(U ((len_ J a9)-(1:Int))).toNat]? >>= fun e1 =>
 if (decide ((len_ J a9)<(len_ J de)))=true then
  if 0≤(len_ J a9)∧(len_ J a9)<de.length then
  de[(len_ J a9).toNat]? >>= fun cd =>
  if 0≤(U ((len_ J a9)-(1:Int)))∧(U ((len_ J a9)-(1:Int)))<a9.length then
  a9[(U ((len_ J a9)-(1:Int))).toNat]? >>= fun gK =>
  if (U (gK+(1:Int)))≠0 then
  if gK≠0 then
  Hv de a9 (U ((U (e1+(U (cd*(1000000000:Int))))).tdiv (U (gK+(1:Int))))) (if (U ((U (e1+(U (cd*(1000000000:Int))))).tdiv gK))<(999999999:Int) then (U ((U (e1+(U (cd*(1000000000:Int))))).tdiv gK)) else (999999999:Int)) >>= fun dv =>
  some dv
  else none
  else none
  else none
  else none
 else
  if 0≤(U ((len_ J a9)-(1:Int)))∧(U ((len_ J a9)-(1:Int)))<a9.length then
  a9[(U ((len_ J a9)-(1:Int))).toNat]? >>= fun cd =>
  if (U (cd+(1:Int)))≠0 then
  if cd≠0 then
  Hv de a9 (U (e1.tdiv (U (cd+(1:Int))))) (if (U (e1.tdiv cd))<(999999999:Int) then (U (e1.tdiv cd)) else (999999999:Int)) >>= fun en =>
  some en
  else none
  else none
  else none
 else none
def B7 (ba a9 hj:List Int)(bd:Int)(aj:List Int):Option (((List Int)×Int×(List Int))⊕((List Int)×(List Int))) :=
 if (decide ((0:Int)≤bd))=true then
  if 0≤bd∧bd<ba.length then
  ba[bd.toNat]? >>= fun aU =>
  if (([aU]:List Int)++hj).length*8≤140737488355328 then
  tO (([aU]:List Int)++hj) >>= fun cj =>
  wY cj a9 >>= fun eQ =>
  if (decide (eQ<(0:Int)))=true then
   some (.inl (cj,U (bd-(1:Int)),aj))
  else
   HU cj a9 >>= fun c0 =>
   if 0≤bd∧bd<(aj.length:Nat) then
   if (0+bd.toNat)<aj.length then
   w6 c0 >>= fun eX =>
   CN a9 eX >>= fun i7 =>
   Ib cj i7 >>= fun abI =>
   some (.inl (abI,U (bd-(1:Int)),aj.set (0+bd.toNat) c0))
   else none
   else none
  else none
  else none
 else
  some (.inr (hj,aj))
def MS (ba a9 hj:List Int)(bd:Int)(aj:List Int):Option ((List Int)×(List Int)):=iter (fun w:(List Int)×Int×(List Int)=>B7 ba a9 w.1 w.2.1 w.2.2) (hj,bd,aj)
def CO (ba a9:List Int):Option ((List Int)×(List Int)) :=
 if ((len_ J a9) == (1:Int))=true then
  if 0≤(0:Int)∧(0:Int)<a9.length then
  a9[0]? >>= fun aU =>
  HT ba aU >>= fun bh =>
  w6 bh.2 >>= fun bK =>
  some (bh.1,bK)
  else none
 else
  if 0≤(len_ J ba)∧(8:Int)*(len_ J ba)≤281474976710656∧(len_ J ba)<9223372036854775808 then
  MS ba a9 ([]:List Int) (U ((len_ J ba)-(1:Int))) (List.replicate (len_ J ba).toNat 0:List Int) >>= fun bk =>
  tO bk.2 >>= fun bh =>
  some (bh,bk.1)
  else none
def yQ (b2 eH:List Int):Option (((List Int)×(List Int))⊕(((List Int))⊕((List Int)))) :=
 if (decide ((0:Int)<(len_ J eH)))=true then
  if (decide ((len_ J b2)<(3:Int)))=true then
   if (decide ((len_ J eH)<(3:Int)))=true then
    CD b2 >>= fun aX =>
    CD eH >>= fun cj =>
    HS aX.1 cj.1 >>= fun eQ =>
    some (.inr (.inr eQ))
   else
    CO b2 eH >>= fun aX =>
    some (.inl (eH,aX.2))
  else
   CO b2 eH >>= fun bk =>
   some (.inl (eH,bk.2))
 else
  some (.inr (.inl b2))
def MT (b2 eH:List Int):Option (((List Int))⊕((List Int))):=iter (fun w:(List Int)×(List Int)=>yQ w.1 w.2) (b2,eH)
def Ic (ba a9:List Int):Option (List Int) :=
 if (([]:List Int)++ba).length*8≤140737488355328 then
 if (([]:List Int)++a9).length*8≤140737488355328 then
 MT (([]:List Int)++ba) (([]:List Int)++a9) >>= fun bk =>
 match bk with
 | .inl m0=>(some m0)
 | .inr m0=>(some m0)
 else none
 else none
def HV (b2:bc):Option Bool :=
 w7 b2.cK >>= fun ak =>
 if ak=true then
  if b2.c6=true then
   some (decide ((0:Int)<(len_ J b2.cK)))
  else
   some true
 else
  some false
def NP (de:dX):Option Bool :=
 HV de.mM >>= fun ak =>
 if ak=true then
  w7 de.jJ >>= fun aX =>
  if aX=true then
   if ((len_ J de.jJ) == (0:Int))=true then
    some false
   else
    if (decide ((24:Int)<(len_ J de.jJ)))=true then
     some false
    else
     if (decide ((24:Int)<(len_ J de.mM.cK)))=true then
      some false
     else
      Ic de.mM.cK de.jJ >>= fun en =>
      Ia en >>= fun gW =>
      some gW
  else
   some false
 else
  some false
theorem pj {n:Nat}(h:n≤10000000):U ((n:Int)+1)=((n+1:Nat):Int):=by rw [cO (by omega) (by omega)];rfl
theorem pV {n:Nat}(h:n≤10000000):U ((n:Int)-1)=(n:Int)-1:=cO (by omega) (by omega)
theorem Jw {n:Nat}(h:n≤10000000):U (((n+1:Nat):Int)-1)=n:=by rw [cO (by omega) (by omega)];omega
theorem gk (l:List Int):len_ J l=l.length:=gY _ l
theorem WT {l:List Int}{k:Nat}{x:Int}(aa:l[k]? = some x)(a5:l.length≤5000000):yN l ((k+1:Nat):Int)=some (if x=0 then .inl (k:Int) else .inr ((k+1:Nat):Int)):=by
 have aJ:=fI aa
 unfold yN
 rw [Jw (by omega),if_pos (by simp),if_pos (by omega),Int.toNat_natCast,aa]
 by_cases h:x=0<;>simp [h]
theorem zs {l:List Int}(aO:cA l)(a5:l.length≤5000000):tO l=some (L (V l)):=by
 have : ∃r,iter (fun w:Int=>yN l w) (l.length:Int)=some r∧ ∃k:Nat,r=k∧k≤l.length∧l.take k=L (V l):=by
  refine jO (et:=fun w:Int=> ∃k:Nat,w=k∧k≤l.length∧V (l.take k)=V l) (m:=fun w:Int=>w.toNat) _ ?_ _ ⟨l.length,rfl,by omega,by simp⟩
  rintro _ ⟨k,rfl,aJ,a3⟩
  cases k with
  | zero =>
   refine .inr ⟨0,by simp [yN],0,rfl,by omega,?_⟩
   rw [← a3]
   simp [V,n9]
  | succ k =>
   have aa:=List.getElem?_eq_getElem (show k<l.length by omega)
   rw [WT aa a5]
   by_cases h:l[k]=0
   ·refine .inl ⟨_,by simp [h],⟨k,rfl,by omega,?_⟩,by omega⟩
    have:=rT aa
    rw [h] at this
    simp at this
    omega
   ·refine .inr ⟨_,by simp [h],k+1,rfl,aJ,?_⟩
    rcases eV.IZ aO k (fun x o=>by rw [aa] at o;simp at o;omega) with o|o
    ·exact uB o a3
    ·omega
 obtain ⟨r,al,k,rfl,o,R⟩:=this
 unfold tO ML
 rw [gk,al]
 simp [o,R]
theorem xp {l:List Int}(aO:cA l)(a5:l.length≤5000000):pJ l=some (L (V l)):=by
 have : ∃r,iter (fun w:List Int=>wy w) l=some r∧r=L (V l):=by
  refine jO (et:=fun w=> ∃k:Nat,w=l.take k∧k≤l.length∧V (l.take k)=V l) (m:=fun w:List Int=>w.length) _ ?_ _ ⟨l.length,by simp,by omega,by simp⟩
  rintro _ ⟨k,rfl,aJ,a3⟩
  have hlen:(l.take k).length=k:=by simp;omega
  cases k with
  | zero =>
   refine .inr ⟨[],by simp [wy,gk],?_⟩
   rw [← a3]
   simp [V,n9]
  | succ k =>
   have aa:=List.getElem?_eq_getElem (show k<l.length by omega)
   have dr:(l.take (k+1))[k]? = some l[k]:=by rw [List.getElem?_take];simp [aa]
   unfold wy
   simp only [gk,hlen]
   rw [Jw (by omega),if_pos (by simp),if_pos (by omega),Int.toNat_natCast,dr]
   by_cases h:l[k]=0
   ·refine .inl ⟨l.take k,by simp [h,List.take_take,Nat.min_eq_left],⟨k,rfl,by omega,?_⟩,by simp;omega⟩
    have:=rT aa
    rw [h] at this
    simp at this
    omega
   ·refine .inr ⟨l.take (k+1),by simp [h],?_⟩
    rcases eV.IZ aO k (fun x o=>by rw [aa] at o;simp at o;omega) with o|o
    ·exact uB o a3
    ·omega
 obtain ⟨r,al,rfl⟩:=this
 unfold pJ HY
 rw [al]
 rfl
theorem WU {l:List Int}(aO:cA l)(a5:l.length≤5000000): ∃k,zh l=some k∧k≤l.length∧l.take k=L (V l):=by
 have : ∃r,iter (fun w:Nat=>wk l w) l.length=some r∧r≤l.length∧l.take r=L (V l):=by
  refine jO (et:=fun k=>k≤l.length∧V (l.take k)=V l) (m:=fun w:Nat=>w) _ ?_ _ ⟨by omega,by simp⟩
  rintro k ⟨aJ,a3⟩
  cases k with
  | zero =>
   refine .inr ⟨0,by simp [wk],by omega,?_⟩
   rw [← a3]
   simp [V,n9]
  | succ k =>
   have aa:=List.getElem?_eq_getElem (show k<l.length by omega)
   unfold wk
   rw [Jw (by omega),if_pos (by simp),if_pos (by omega),Int.toNat_natCast,Nat.zero_add,aa]
   by_cases h:l[k]=0
   ·refine .inl ⟨k,by simp [h],⟨by omega,?_⟩,by omega⟩
    have:=rT aa
    rw [h] at this
    simp at this
    omega
   ·refine .inr ⟨k+1,by simp [h],aJ,?_⟩
    rcases eV.IZ aO k (fun x o=>by rw [aa] at o;simp at o;omega) with o|o
    ·exact uB o a3
    ·omega
 obtain ⟨r,al,o,R⟩:=this
 unfold zh HF
 rw [al]
 exact ⟨r,rfl,o,R⟩
theorem xA {a b:List Int}(bE:eV a)(aV:eV b)(a5:a.length≤5000000):wY a b=some (ku (V a) (V b)):=by
 unfold wY ku
 simp only [gk]
 by_cases o:a.length=b.length
 ·rw [if_neg (by simp [o])]
  have : ∃r,iter (fun w:Int=>B5 a b w) ((a.length:Int)-1)=some r∧(r.elim (fun _=>V a=V b) (fun c=>(c = -1∧V a<V b)∨(c=1∧V b<V a))):=by
   refine jO (et:=fun w:Int=> ∃k:Nat,w=(k:Int)-1∧k≤a.length∧V (a.drop k)=V (b.drop k)) (m:=fun w:Int=>(w+1).toNat) _ ?_ _ ⟨a.length,rfl,by omega,by rw [List.drop_length,o,List.drop_length]⟩
   rintro _ ⟨k,rfl,aJ,a3⟩
   cases k with
   | zero=>exact .inr ⟨.inl (),by simp [B5],by simpa using a3⟩
   | succ k =>
    have aa:=List.getElem?_eq_getElem (show k<a.length by omega)
    have aP:=List.getElem?_eq_getElem (show k<b.length by omega)
    have e:((k+1:Nat):Int)-1=k:=by omega
    unfold B5
    rw [e,pV (by omega),if_pos (by simp),if_pos (by omega),Int.toNat_natCast,aa]
    simp only [Option.bind_eq_bind,Option.bind_some]
    rw [if_pos (by omega),aP]
    by_cases R:a[k]<b[k]
    ·exact .inr ⟨.inr (-1),by simp [R],.inl ⟨rfl,Pm bE.1 aV.1 aa aP a3 R⟩⟩
    ·by_cases ab:b[k]<a[k]
     ·exact .inr ⟨.inr 1,by simp [R,ab],.inr ⟨rfl,Pm aV.1 bE.1 aP aa a3.symm ab⟩⟩
     ·refine .inl ⟨(k:Int)-1,by simp [R,ab],⟨k,rfl,by omega,?_⟩,by omega⟩
      rw [n8 aa,n8 aP,a3,show a[k]=b[k] by omega]
  obtain ⟨r,al,R⟩:=this
  unfold MP
  rw [pV (by omega),al]
  cases r with
  | inl u =>
   simp at R
   simp [R]
  | inr c =>
   rcases R with ⟨rfl,R⟩|⟨rfl,R⟩
   ·simp [R]
   ·simp [R];omega
 ·rw [if_pos (by simp;omega)]
  by_cases R:a.length<b.length
  ·have:=Dj bE aV R
   simp [R,this]
  ·have:=Dj aV bE (by omega)
   rw [if_neg (by simp;omega),if_neg (by omega),if_pos this]
theorem Vx:o8=wY:=rfl
theorem CS {a b:List Int}(bE:eV a)(aV:eV b)(a5:a.length≤5000000):o8 a b=some (ku (V a) (V b)):=xA bE aV a5
theorem zY {x y:Int}(aa:0≤x∧x<1000000000)(aP:0≤y∧y<1000000000):0≤x*y∧x*y≤999999998000000001:=by
 have o:=Int.mul_nonneg aa.1 aP.1
 have R:x*y≤999999999*999999999:=Int.mul_le_mul (by omega) (by omega) aP.1 (by omega)
 omega
theorem sB {a b:Int}(h:0≤a):a.tmod b=a % b:=Int.tmod_eq_emod_of_nonneg h
theorem oI {a b:Int}(h:0≤a):a.tdiv b=a / b:=Int.tdiv_eq_ediv_of_nonneg h
theorem I0 (k:Nat)(x:Int)(q:List Int):(List.replicate (k+1) 0++q).set k x=List.replicate k 0++x::q:=by
 induction k with
 | zero=>rfl
 | succ k ih =>
  show (0::(List.replicate (k+1) 0++q)).set (k+1) x=_
  rw [List.set_cons_succ,ih];rfl
theorem Wk {a:List Int}{d rest:Int}{row:List Int}{k:Nat}{x:Int}(aa:a[k]? = some x)(iq:0≤x∧x<1000000000)(bg:0<d∧d<1000000000)(al:0≤rest∧rest<d)(dh:row.length=a.length)(a5:a.length≤1000000):
 BX a d rest (k:Int) row=some (.inl ((rest*1000000000+x) % d,(k:Int)-1,row.set k ((rest*1000000000+x) / d))):=by
 have aJ:=fI aa
 unfold BX
 rw [if_pos (by simp),if_pos (by omega),Int.toNat_natCast,aa]
 simp only [Option.bind_eq_bind,Option.bind_some]
 rw [if_pos (by omega),if_pos (by omega),if_pos (by omega),pV (by omega)]
 have o:U (U (rest*1000000000)+x)=rest*1000000000+x:=by rw [cO (x:=rest*1000000000) (by omega) (by omega)];exact cO (by omega) (by omega)
 have R:0≤rest*1000000000+x:=by omega
 have ab:(rest*1000000000+x) / d≤rest*1000000000+x:=Int.ediv_le_self _ R
 have aA:0≤(rest*1000000000+x) / d:=Int.ediv_nonneg R (by omega)
 rw [o,sB R,oI R,cO (by omega) (by omega),Nat.zero_add]
theorem NQ {a:List Int}{d:Int}(bE:cA a)(bg:0<d∧d<1000000000)(a5:a.length≤1000000):
 ∃r,Hu a d 0 ((a.length:Int)-1) (List.replicate a.length 0)=some r∧r.1=V a % d∧cA r.2∧r.2.length=a.length∧V r.2=V a / d:=by
 refine jO (et:=fun w:Int×Int×List Int=> ∃(k:Nat) (q:List Int),w.2.1=(k:Int)-1∧k≤a.length∧w.2.2=List.replicate k 0++q∧q.length+k=a.length∧cA q∧0≤w.1∧w.1<d∧V (a.drop k)=V q*d+w.1) (m:=fun w:Int×Int×List Int=>(w.2.1+1).toNat) _ ?_ _ ⟨a.length,[],rfl,by omega,by simp,by simp,cA.nil,by omega,by omega,by simp [V]⟩
 rintro ⟨rest,i,row⟩ ⟨k,q,o,aJ,R,bb,sq,kI,h4,a3⟩
 simp only at o R kI h4 a3 ⊢
 subst o R
 cases k with
 | zero =>
  refine .inr ⟨(rest,q),by simp [BX],?_,sq,by simpa using bb,?_⟩
  ·simp at a3
   rw [a3,Int.add_comm,Int.add_mul_emod_self_right]
   exact (Int.emod_eq_of_lt kI h4).symm
  ·simp at a3
   rw [a3,Int.add_comm,Int.add_mul_ediv_right _ _ (by omega),Int.ediv_eq_zero_of_lt kI h4]
   simp
 | succ k =>
  have aa:=List.getElem?_eq_getElem (show k<a.length by omega)
  have iq:=bE.get aa
  rw [show ((k+1:Nat):Int)-1=k by omega,Wk aa iq bg ⟨kI,h4⟩ (by simp;omega) a5]
  refine .inl ⟨_,rfl,⟨k,(rest*1000000000+a[k]) / d::q,rfl,by omega,I0 _ _ _,by simp;omega,cA.cons ⟨Int.ediv_nonneg (by omega) (by omega),?_⟩ sq,Int.emod_nonneg _ (by omega),Int.emod_lt_of_pos _ bg.1,?_⟩,by simp⟩
  ·refine Int.ediv_lt_of_lt_mul bg.1 ?_
   omega
  ·rw [n8 aa,a3,kV]
   have:=Int.mul_ediv_add_emod (rest*1000000000+a[k]) d
   generalize (rest*1000000000+a[k]) / d=u at *
   generalize (rest*1000000000+a[k]) % d=t at *
   grind
theorem XS {a:List Int}{d:Int}(bE:cA a)(bg:0<d∧d<1000000000)(a5:a.length≤1000000):HT a d=some (L (V a / d),V a % d):=by
 obtain ⟨r,al,o,R,ab,aA⟩:=NQ bE bg a5
 unfold HT
 simp only [gk]
 rw [if_pos (by omega),pV (by omega),Int.toNat_natCast,al]
 simp only [Option.bind_eq_bind,Option.bind_some]
 rw [zs R (by omega),o,aA]
 rfl
theorem U2:Hi=Hu:=rfl
theorem M6 {a:List Int}{d:Int}(bE:cA a)(bg:0<d∧d<1000000000)(a5:a.length≤1000000):wL a d=some (L (V a / d),V a % d):=by
 obtain ⟨r,al,o,R,ab,aA⟩:=NQ bE bg a5
 unfold wL
 simp only [gk]
 rw [if_pos (by omega),pV (by omega),Int.toNat_natCast,U2,al]
 simp only [Option.bind_eq_bind,Option.bind_some]
 rw [xp R (by omega),o,aA]
 rfl
theorem WV {b:List Int}{i j:Nat}{x y z carry:Int}{row t26:List Int}{t27:Int}(aP:b[j]? = some y)(cn:row[i+j]? = some z)(aa:0≤x∧x<1000000000)(nU:0≤y∧y<1000000000)(qH:0≤z∧z<1000000000)(aN:0≤carry∧carry<1000000000)(a5:row.length≤2000000):
 B6 b i x t26 t27 b.length carry j row=some (.inl ((z+x*y+carry) / 1000000000,((j+1:Nat):Int),row.set (i+j) ((z+x*y+carry) % 1000000000))):=by
 have aB:=fI aP
 have pv:=fI cn
 obtain ⟨hn,fS⟩:=zY aa nU
 unfold B6
 have e:U ((i:Int)+(j:Int))=((i+j:Nat):Int):=by rw [cO (by omega) (by omega)];rfl
 rw [if_pos (by simp;omega),if_pos (by omega),Int.toNat_natCast,aP]
 simp only [Option.bind_eq_bind,Option.bind_some,e,Int.toNat_natCast,Nat.zero_add]
 rw [if_pos (by omega),cn]
 simp only [Option.bind_some]
 rw [if_pos (by omega),pj (by omega),cO (x:=x*y) (by omega) (by omega),cO (x:=z+x*y) (by omega) (by omega),cO (x:=z+x*y+carry) (by omega) (by omega),sB (by omega),oI (by omega),cO (by omega) (by omega)]
theorem WW {b:List Int}{i:Nat}{x:Int}{row t26:List Int}{t27:Int}(aV:cA b)(dh:cA row)(aa:0≤x∧x<1000000000)(aO:i+b.length<row.length)(a5:row.length≤2000000):
 ∃r,MR b i x t26 t27 b.length 0 0 row=some r∧0≤r.1∧r.1<1000000000∧cA r.2∧r.2.length=row.length∧V r.2+r.1*B (i+b.length)=V row+x*B i*V b∧ ∀j,i+b.length≤j→r.2[j]? = row[j]? := by
 refine jO (et:=fun w:Int×Int×List Int=> ∃(j:Nat),w.2.1=(j:Int)∧j≤b.length∧0≤w.1∧w.1<1000000000∧cA w.2.2∧w.2.2.length=row.length∧V w.2.2+w.1*B (i+j)=V row+x*B i*V (b.take j)∧ ∀j,i+b.length≤j→w.2.2[j]? = row[j]?) (m:=fun w:Int×Int×List Int=>b.length-w.2.1.toNat) _ ?_ _ ⟨0,rfl,by omega,by simp,by simp,dh,rfl,by simp [V],fun _ _=>rfl⟩
 rintro ⟨carry,acZ,fJ⟩ ⟨j,o,aB,mf,mh,jL,hlen,a3,kC⟩
 simp only at o mf mh jL hlen a3 kC ⊢
 subst o
 by_cases abJ:j=b.length
 ·subst abJ
  refine .inr ⟨(carry,fJ),by simp [B6],mf,mh,jL,hlen,by simpa using a3,kC⟩
 ·have aP:=List.getElem?_eq_getElem (show j<b.length by omega)
  have cn:=List.getElem?_eq_getElem (show i+j<fJ.length by omega)
  have nU:=aV.get aP
  have qH:=jL.get cn
  obtain ⟨hn,fS⟩:=zY aa nU
  rw [WV aP cn aa nU qH ⟨mf,mh⟩ (by omega)]
  refine .inl ⟨_,rfl,⟨j+1,rfl,by omega,by simp only;omega,by simp only;omega,jL.set (by omega),by simpa using hlen,?_,fun hl rp=> ?_⟩,by simp;omega⟩
  ·simp only
   rw [rj cn,rT aP,← Nat.add_assoc,l5]
   rw [z7] at a3 ⊢
   have:=Int.mul_ediv_add_emod (fJ[i+j]+x*b[j]+carry) 1000000000
   generalize (fJ[i+j]+x*b[j]+carry) / 1000000000=u at *
   generalize (fJ[i+j]+x*b[j]+carry) % 1000000000=t at *
   grind
  ·rw [← kC hl rp]
   exact List.getElem?_set_ne (by omega)
theorem Ix {a b:List Int}(bE:cA a)(aV:cA b)(a5:a.length≤1000000)(hm:b.length≤1000000):
 ∃r,Cw b a a.length 0 (List.replicate (a.length+b.length) 0)=some r∧cA r∧r.length=a.length+b.length∧V r=V a*V b:=by
 refine jO (et:=fun w:Int×List Int=> ∃(i:Nat),w.1=(i:Int)∧i≤a.length∧cA w.2∧w.2.length=a.length+b.length∧V w.2=V (a.take i)*V b∧ ∀j,i+b.length≤j→j<a.length+b.length→w.2[j]? = some 0) (m:=fun w:Int×List Int=>a.length-w.1.toNat) _ ?_ _ ⟨0,rfl,by omega,cA.Km _,by simp,by simp [V,Jt],fun j _ h=>by simp [List.getElem?_replicate,h]⟩
 rintro ⟨ii,row⟩ ⟨i,o,ah,jL,hlen,a3,h0⟩
 simp only at o jL hlen a3 h0 ⊢
 subst o
 by_cases A9:i=a.length
 ·subst A9
  refine .inr ⟨row,by simp [GY],jL,hlen,by simpa using a3⟩
 ·have aa:=List.getElem?_eq_getElem (show i<a.length by omega)
  have iq:=bE.get aa
  obtain ⟨r,al,mf,mh,aaz,Qd,AB,kC⟩:=WW (i:=i) (t26:=a) (t27:=a.length) aV jL iq (by omega) (by omega)
  have e:U ((i:Int)+(b.length:Int))=((i+b.length:Nat):Int):=by rw [cO (by omega) (by omega)];rfl
  have cn:r.2[i+b.length]? = some 0:=by rw [kC _ (Nat.le_refl _)];exact h0 _ (Nat.le_refl _) (by omega)
  refine .inl ⟨(((i+1:Nat):Int),r.2.set (i+b.length) r.1),?_,⟨i+1,rfl,by omega,aaz.set ⟨mf,mh⟩,by simp;omega,?_,fun j aeJ abK=> ?_⟩,by simp;omega⟩
  ·unfold GY
   rw [if_pos (by simp;omega),if_pos (by omega),Int.toNat_natCast,aa]
   simp only [Option.bind_eq_bind,Option.bind_some,gk]
   rw [al]
   simp only [Option.bind_some,e,Int.toNat_natCast,Nat.zero_add]
   rw [if_pos (by omega),if_pos (by omega),pj (n:=i) (by omega)]
  ·simp only
   rw [rj cn,rT aa]
   grind
  ·simp only
   rw [List.getElem?_set_ne (by omega),kC _ (by omega)]
   exact h0 _ (by omega) abK
theorem mul_eq {a b:List Int}(bE:cA a)(aV:cA b)(a5:a.length≤1000000)(hm:b.length≤1000000):CN a b=some (L (V a*V b)):=by
 unfold CN
 simp only [gk]
 by_cases o:a=[]
 ·subst o
  simp [V,n9]
 ·by_cases R:b=[]
  ·subst R
   simp [o,V,n9]
  ·obtain ⟨r,al,ab,aA,aF⟩:=Ix bE aV a5 hm
   have e:U ((a.length:Int)+(b.length:Int))=((a.length+b.length:Nat):Int):=by rw [cO (by omega) (by omega)];rfl
   rw [if_neg (by simp [o]),if_neg (by simp [R]),e,if_pos (by omega),Int.toNat_natCast,al]
   simp only [Option.bind_eq_bind,Option.bind_some]
   rw [zs ab (by omega),aF]
   rfl
theorem VW:HN=Cw:=rfl
theorem Vk:HA=Cw:=rfl
theorem xh {a b:List Int}(bE:cA a)(aV:cA b)(a5:a.length≤1000000)(hm:b.length≤1000000):mE a b=some (L (V a*V b)):=by
 unfold mE
 simp only [gk]
 by_cases o:a=[]
 ·subst o
  simp [V,n9]
 ·by_cases R:b=[]
  ·subst R
   simp [o,V,n9]
  ·obtain ⟨r,al,ab,aA,aF⟩:=Ix bE aV a5 hm
   have e:U ((a.length:Int)+(b.length:Int))=((a.length+b.length:Nat):Int):=by rw [cO (by omega) (by omega)];rfl
   rw [if_neg (by simp [o]),if_neg (by simp [R]),e,if_pos (by omega),Int.toNat_natCast,VW,al]
   simp only [Option.bind_eq_bind,Option.bind_some]
   rw [xp ab (by omega),aF]
   rfl
theorem NR {a b:List Int}(bE:cA a)(aV:cA b)(o:a≠[])(R:b≠[])(a5:a.length≤1000000)(hm:b.length≤1000000):
 ∃k r,wS a b=some (k,r)∧k≤r.length∧r.length=a.length+b.length∧r.take k=L (V a*V b)∧cA r:=by
 obtain ⟨r,al,ab,aA,aF⟩:=Ix bE aV a5 hm
 obtain ⟨k,aJ,br,bU⟩:=WU ab (by omega)
 refine ⟨k,r,?_,br,aA,by rw [bU,aF],ab⟩
 unfold wS
 simp only [gk]
 have e:U ((a.length:Int)+(b.length:Int))=((a.length+b.length:Nat):Int):=by rw [cO (by omega) (by omega)];rfl
 rw [if_neg (by simp [o]),if_neg (by simp [R]),e,if_pos (by omega),Int.toNat_natCast,Vk,al]
 simp only [Option.bind_eq_bind,Option.bind_some]
 rw [aJ]
 rfl
theorem Ab {x:Int}(o:0≤x)(R:x<18446744073709551616):IntKind.wrap .u64 x=x:=by
 simp only [IntKind.wrap,IntKind.signed,IntKind.bits]
 have:((2:Int) ^ 64)=18446744073709551616:=by decide
 simp
 omega
theorem Z3 {x:Int}(o:-9223372036854775808≤x)(R:x<9223372036854775808):IntKind.wrap .i64 x=x:=cO o R
theorem eV.snoc {l:List Int}{x:Int}(h:cA l)(aa:0<x∧x<1000000000):eV (l++[x]):=⟨h.append (cA.cons (by omega) cA.nil),fun y aP=>by
 rw [List.getLast?_append] at aP
 simp at aP
 omega⟩
theorem Oj {N:Int}(fV:N<18446744073709551616){n:Int}{row:List Int}(h:0≤n∧cA row∧V row+B row.length*n=N∧(n=0→eV row)∧((row.length=0∧n<18446744073709551616)∨(row.length=1∧n<20000000000)∨(row.length=2∧n<20)∨(row.length=3∧n=0)))(a5:0<n):
 (fun (n:Int) (row:List Int)=>0≤n∧cA row∧V row+B row.length*n=N∧(n=0→eV row)∧((row.length=0∧n<18446744073709551616)∨(row.length=1∧n<20000000000)∨(row.length=2∧n<20)∨(row.length=3∧n=0))) (n / 1000000000) (row++[n % 1000000000]):=by
 obtain ⟨h0,o,R,ab,aA⟩:=h
 refine ⟨by omega,o.append (cA.cons (by omega) cA.nil),?_,fun aF=>eV.snoc o (by omega),?_⟩
 ·rw [xf,List.length_append,List.length_singleton,l5,kV,z8]
  have:=Int.mul_ediv_add_emod n 1000000000
  generalize n / 1000000000=u at *
  generalize n % 1000000000=t at *
  grind
 ·rw [List.length_append,List.length_singleton]
  omega
theorem Da {n:Int}(h:0≤n)(a5:n<9223372036854775808):w6 n=some (L n):=by
 have : ∃r,iter (fun w:Int×List Int=>Ca w.1 w.2) (n,[])=some r∧r=L n:=by
  refine jO (et:=fun w:Int×List Int=>w.1≤n∧0≤w.1∧cA w.2∧V w.2+B w.2.length*w.1=n∧(w.1=0→eV w.2)∧((w.2.length=0∧w.1<18446744073709551616)∨(w.2.length=1∧w.1<20000000000)∨(w.2.length=2∧w.1<20)∨(w.2.length=3∧w.1=0))) (m:=fun w:Int×List Int=>w.1.toNat) _ ?_ _ ⟨Int.le_refl _,h,cA.nil,by simp [V,B],fun _=>eV.nil,.inl ⟨rfl,by simp only;omega⟩⟩
  rintro ⟨m,row⟩ ⟨hm,cV⟩
  simp only at hm cV
  obtain ⟨h0,o,R,ab,aA⟩:=id cV
  by_cases i3:0<m
  ·have:=Oj (by omega) cV i3
   refine .inl ⟨(m / 1000000000,row++[m % 1000000000]),?_,⟨by simp only;omega,this⟩,by simp only;omega⟩
   unfold Ca
   rw [if_pos (by simp;omega),sB (by omega),oI (by omega),if_pos (by simp;omega),cO (by omega) (by omega)]
  ·refine .inr ⟨row,by simp [Ca,i3],?_⟩
   have lR:m=0:=by omega
   refine uB (ab lR) ?_
   rw [lR] at R
   simpa using R
 obtain ⟨r,al,rfl⟩:=this
 unfold w6 M1
 rw [al]
 rfl
theorem Io {n:Int}(h:0≤n)(a5:n<18446744073709551616):tM n=some (L n):=by
 have : ∃r,iter (fun w:Int×List Int=>vZ w.1 w.2) (n,[])=some r∧r=L n:=by
  refine jO (et:=fun w:Int×List Int=>w.1≤n∧0≤w.1∧cA w.2∧V w.2+B w.2.length*w.1=n∧(w.1=0→eV w.2)∧((w.2.length=0∧w.1<18446744073709551616)∨(w.2.length=1∧w.1<20000000000)∨(w.2.length=2∧w.1<20)∨(w.2.length=3∧w.1=0))) (m:=fun w:Int×List Int=>w.1.toNat) _ ?_ _ ⟨Int.le_refl _,h,cA.nil,by simp [V,B],fun _=>eV.nil,.inl ⟨rfl,by simp only;omega⟩⟩
  rintro ⟨m,row⟩ ⟨hm,cV⟩
  simp only at hm cV
  obtain ⟨h0,o,R,ab,aA⟩:=id cV
  by_cases i3:0<m
  ·have:=Oj (by omega) cV i3
   refine .inl ⟨(m / 1000000000,row++[m % 1000000000]),?_,⟨by simp only;omega,this⟩,by simp only;omega⟩
   unfold vZ
   rw [if_pos (by simp;omega),sB (by omega),oI (by omega),Z3 (x:=m % 1000000000) (by omega) (by omega),if_pos (by simp;omega),Ab (by omega) (by omega)]
  ·refine .inr ⟨row,by simp [vZ,i3],?_⟩
   have lR:m=0:=by omega
   refine uB (ab lR) ?_
   rw [lR] at R
   simpa using R
 obtain ⟨r,al,rfl⟩:=this
 unfold tM Hx
 rw [al]
 rfl
def oy (x:Int):Bool:=decide (0≤x) && decide (x<1000000000)
theorem I1 (l:List Int):l.all oy=true↔cA l:=by
 simp [oy,cA]
theorem Ip {a:List Int}(h:a≠[]): ∃x,a[a.length-1]? = some x∧(eV a↔cA a∧x≠0):=by
 have af:=List.length_pos_iff.mpr h
 refine ⟨a[a.length-1],List.getElem?_eq_getElem (by omega),?_⟩
 have e:a.getLast? = some a[a.length-1]:=by rw [List.getLast?_eq_getElem?];exact List.getElem?_eq_getElem (by omega)
 constructor
 ·exact fun h=>⟨h.1,h.2 _ e⟩
 ·refine fun h=>⟨h.1,fun x aa=> ?_⟩
  rw [e] at aa
  rw [← Option.some.inj aa]
  exact h.2
theorem Qs {a:List Int}(h:a≠[])(hm:(a.length:Int)<9223372036854775807):U ((a.length:Int)-1)=((a.length-1:Nat):Int):=by
 have af:=List.length_pos_iff.mpr h
 rw [cO (by omega) (by omega)]
 omega
theorem Wl (x:Int):Im x 0 999999999=some (oy x):=by
 unfold Im oy
 by_cases h:0≤x
 ·simp [h];omega
 ·simp [h]
theorem NS {a:List Int}(hm:(a.length:Int)<9223372036854775807): ∃ok,w7 a=some ok∧(ok=true↔eV a∧a.length≤60):=by
 have o:iter (fun w:Int=>Cb a a.length w) 0=some (if a.all oy then .inl () else .inr ()):=by
  refine XF a oy (fun n x aa=> ?_) (by simp [Cb])
  have:=fI aa
  unfold Cb
  rw [if_pos (by simp;omega),if_pos (by omega),Int.toNat_natCast,aa]
  simp only [Option.bind_eq_bind,Option.bind_some,Wl]
  rw [mZ (by omega)]
  cases oy x<;>rfl
 unfold w7 M2
 simp only [gk]
 rw [o]
 by_cases qh:a.all oy=true
 ·have Az:=(I1 a).1 qh
  simp only [qh,if_true,Option.bind_eq_bind,Option.bind_some]
  by_cases yp:a.length≤60
  ·rw [if_pos (by simp;omega)]
   by_cases h0:a=[]
   ·subst h0
    exact ⟨true,rfl,by simp [eV.nil]⟩
   ·obtain ⟨x,aa,a5⟩:=Ip h0
    have af:=List.length_pos_iff.mpr h0
    rw [if_neg (by simp [h0]),Qs h0 hm,if_pos (by omega),Int.toNat_natCast,aa]
    refine ⟨_,rfl,?_⟩
    rw [a5]
    simp [Az,yp]
  ·rw [if_neg (by simp;omega)]
   exact ⟨false,rfl,by simp;omega⟩
 ·have Az : ¬cA a:=fun h=>qh ((I1 a).2 h)
  simp only [Bool.not_eq_true] at qh
  refine ⟨false,by simp [qh],?_⟩
  simp only [Bool.false_eq_true,false_iff]
  exact fun h=>Az h.1.1
theorem Wm (x:Int):zb x=some (!oy x):=by
 unfold zb oy
 by_cases h:x<0
 ·simp [h]
 ·rw [if_neg (by simp [h])]
  congr 1
  rw [Bool.eq_iff_iff]
  simp
  omega
theorem Ns {a:List Int}(hm:(a.length:Int)<9223372036854775807):vL a=some (!(a.all oy)):=by
 obtain ⟨r,al,h⟩:=Oi (f:=fun w:Int=>vz a a.length w) a (fun x=> !oy x) (fun n x aa=>by
  have:=fI aa
  unfold vz
  rw [if_pos (by simp;omega),if_pos (by omega),Int.toNat_natCast,aa]
  simp only [Option.bind_eq_bind,Option.bind_some,Wm]
  rw [mZ (by omega)]
  cases oy x<;>rfl) (by simp [vz])
 have e:a.any (fun x=> !oy x) = !(a.all oy):=by rw [List.not_all_eq_any_not]
 rw [e] at h
 unfold vL BO FG
 simp only [gk]
 rw [al]
 rcases h with ⟨k,rfl,aJ,h⟩|⟨rfl,h⟩
 ·simp only [Option.bind_eq_bind,Option.bind_some]
  rw [h]
  simp [aJ]
 ·simp only [Option.bind_eq_bind,Option.bind_some]
  rw [h]
  rfl
theorem Wn {a:List Int}(hm:(a.length:Int)<9223372036854775807): ∃ok,tU a=some ok∧(ok=true↔eV a∧a.length≤60):=by
 unfold tU
 simp only [gk]
 by_cases yp:60<a.length
 ·rw [if_pos (by simp;omega)]
  exact ⟨false,rfl,by simp;omega⟩
 ·rw [if_neg (by simp;omega)]
  by_cases h0:a=[]
  ·subst h0
   exact ⟨true,by simp [Ns],by simp [eV.nil]⟩
  ·obtain ⟨x,aa,a5⟩:=Ip h0
   have af:=List.length_pos_iff.mpr h0
   rw [if_pos (by simp;omega),Qs h0 hm,if_pos (by omega),Int.toNat_natCast,aa]
   simp only [Option.bind_eq_bind,Option.bind_some]
   rw [a5]
   by_cases iq:x=0
   ·exact ⟨false,by simp [iq],by simp [iq]⟩
   ·rw [if_neg (by simp [iq]),Ns hm]
    refine ⟨_,rfl,?_⟩
    rw [← I1]
    simp [iq]
    omega
theorem NT {a:List Int}(hm:(a.length:Int)<9223372036854775807): ∃ok,w7 a=some ok∧tU a=some ok∧(ok=true↔eV a∧a.length≤60):=by
 obtain ⟨b3,o,R⟩:=NS hm
 obtain ⟨a6,ab,aA⟩:=Wn hm
 have:a6=b3:=Bool.eq_iff_iff.mpr (aA.trans R.symm)
 exact ⟨b3,o,this▸ab,R⟩
theorem Nt {a:List Int}(bE:eV a)(yp:a.length≤60)(a3:V a<9223372036854775808):CD a=some (V a,true):=by
 obtain ⟨ok,o,R⟩:=NS (a:=a) (by omega)
 have mc:ok=true:=R.2 ⟨bE,yp⟩
 subst mc
 have aN:eV [854775807,223372036,9]:=⟨by intro x aa;simp at aa;omega,by simp⟩
 have KK:V [854775807,223372036,9]=9223372036854775807:=by decide
 unfold CD
 rw [o]
 simp only [Option.bind_eq_bind,Option.bind_some,if_true]
 rw [xA bE aN (by omega),KK]
 have : ∃r,iter (fun w:Int×Int=>BV a w.1 w.2) (0,(a.length:Int)-1)=some r∧r=V a:=by
  refine jO (et:=fun w:Int×Int=> ∃k:Nat,w.2=(k:Int)-1∧k≤a.length∧w.1=V (a.drop k)) (m:=fun w:Int×Int=>(w.2+1).toNat) _ ?_ _ ⟨a.length,rfl,by omega,by simp [V]⟩
  rintro ⟨n,i⟩ ⟨k,ab,aJ,aA⟩
  simp only at ab aA
  subst ab aA
  cases k with
  | zero=>exact .inr ⟨V a,by simp [BV],rfl⟩
  | succ k =>
   have aa:=List.getElem?_eq_getElem (show k<a.length by omega)
   have iq:=bE.1.get aa
   have aF:=n8 aa
   have br:=kA (bE.1.drop (k+1))
   have bU:V (a.drop k)≤V a:=by
    have bx:=uh (l:=a) (n:=k) (by omega)
    have c2:=kA (bE.1.take k)
    have dO:=kA (bE.1.drop k)
    have d2:1*V (a.drop k)≤B k*V (a.drop k):=Int.mul_le_mul_of_nonneg_right (ol k) dO
    omega
   refine .inl ⟨(V (a.drop k),(k:Int)-1),?_,⟨k,rfl,by omega,rfl⟩,by simp only;omega⟩
   unfold BV
   rw [show ((k+1:Nat):Int)-1=k by omega,if_pos (by simp),if_pos (by omega),Int.toNat_natCast,aa]
   simp only [Option.bind_eq_bind,Option.bind_some]
   rw [pV (by omega),cO (x:=V (a.drop (k+1))*1000000000) (by omega) (by omega),cO (by omega) (by omega),aF]
   congr 3
   omega
 obtain ⟨r,al,rfl⟩:=this
 unfold ku MB
 simp only [gk]
 rw [pV (by omega),al]
 have ab : ¬(9223372036854775807:Int)<V a:=by omega
 by_cases aA:V a<9223372036854775807<;>simp [ab,aA]
theorem XT {a b row:List Int}{less x:Int}{i:Nat}(aV:cA b)(aa:a[i]? = some x)(iq:0≤x∧x<1000000000)(aO:less=0∨less=1)(a5:a.length≤1000000)(hm:b.length≤1000000)(al:row.length≤1000000):
 ∃y,0≤y∧y<1000000000∧(∀z,b[i]? = some z→y=z)∧(b[i]? = none→y=0) ∧
 yP a b a.length less i row=some (.inl (if x-less-y<0 then (1,((i+1:Nat):Int),row++[x-less-y+1000000000]) else (0,((i+1:Nat):Int),row++[x-less-y]))):=by
 have ah:=fI aa
 unfold yP
 rw [if_pos (by simp;omega),if_pos (by omega),Int.toNat_natCast,aa]
 simp only [Option.bind_eq_bind,Option.bind_some,gk]
 by_cases abL:i<b.length
 ·have aP:=List.getElem?_eq_getElem abL
  have nU:=aV.get aP
  refine ⟨b[i],nU.1,nU.2,fun z cn=>by rw [aP] at cn;exact Option.some.inj cn,fun h=>by rw [aP] at h;simp at h,?_⟩
  rw [if_pos (by simp;omega),if_pos (by omega),aP]
  simp only [Option.bind_some]
  rw [cO (x:=x-less) (by omega) (by omega),cO (x:=x-less-b[i]) (by omega) (by omega),pj (n:=i) (by omega),cO (x:=x-less-b[i]+1000000000) (by omega) (by omega)]
  by_cases h:x-less-b[i]<0
  ·rw [if_pos (by simp [h]),if_pos (by simp;omega)]
   simp [h]
  ·rw [if_neg (by simp [h]),if_pos (by simp;omega)]
   simp [h]
 ·have aP:b[i]? = none:=by simp;omega
  refine ⟨0,by omega,by omega,fun z cn=>by rw [aP] at cn;simp at cn,fun _=>rfl,?_⟩
  rw [if_neg (by simp;omega),cO (x:=x-less) (by omega) (by omega),pj (n:=i) (by omega),cO (x:=x-less+1000000000) (by omega) (by omega),Int.sub_zero]
  by_cases h:x-less<0
  ·rw [if_pos (by simp [h]),if_pos (by simp;omega)]
   simp [h]
  ·rw [if_neg (by simp [h]),if_pos (by simp;omega)]
   simp [h]
theorem OQ {b:List Int}{i:Nat}{y:Int}(o:∀z,b[i]? = some z→y=z)(R:b[i]? = none→y=0):V (b.take (i+1))=V (b.take i)+B i*y:=by
 cases h:b[i]? with
 | some z=>rw [o z h,rT h]
 | none =>
  rw [R h]
  have:b.length≤i:=by simpa using h
  rw [List.take_of_length_le (by omega),List.take_of_length_le (by omega)]
  simp
theorem sub_eq {a b:List Int}(bE:cA a)(aV:cA b)(hlen:b.length≤a.length)(qM:V b≤V a)(a5:a.length≤1000000):Ib a b=some (L (V a-V b)):=by
 have : ∃r,iter (fun w:Int×Int×List Int=>yP a b a.length w.1 w.2.1 w.2.2) (0,0,[])=some r∧cA r∧r.length=a.length∧V r=V a-V b:=by
  refine jO (et:=fun w:Int×Int×List Int=> ∃i:Nat,w.2.1=i∧i≤a.length∧(w.1=0∨w.1=1)∧cA w.2.2∧w.2.2.length=i∧V w.2.2-w.1*B i=V (a.take i)-V (b.take i)) (m:=fun w:Int×Int×List Int=>a.length-w.2.1.toNat) _ ?_ _ ⟨0,rfl,by omega,.inl rfl,cA.nil,rfl,by simp [V]⟩
  rintro ⟨less,ii,row⟩ ⟨i,o,ah,aO,jL,u5,a3⟩
  simp only at o aO jL u5 a3 ⊢
  subst o
  by_cases A9:i=a.length
  ·refine .inr ⟨row,by simp [yP,A9],jL,by omega,?_⟩
   rw [A9] at a3
   rw [List.take_length,List.take_of_length_le hlen] at a3
   have R:=l9 jL
   rw [u5,A9] at R
   rcases aO with rfl|rfl<;>omega
  ·have aa:=List.getElem?_eq_getElem (show i<a.length by omega)
   have iq:=bE.get aa
   obtain ⟨y,Ba,aeK,abM,abN,he⟩:=XT (row:=row) aV aa iq aO a5 (by omega) (by omega)
   rw [he]
   refine .inl ⟨_,rfl,?_⟩
   have ab:=rT aa
   have aA:=OQ abM abN
   by_cases h:a[i]-less-y<0
   ·rw [if_pos h]
    refine ⟨⟨i+1,rfl,by omega,.inr rfl,jL.append (cA.cons (by omega) cA.nil),by simp [u5],?_⟩,by simp only;omega⟩
    simp only
    rw [ab,aA,xf,u5,l5,kV,z8]
    grind
   ·rw [if_neg h]
    refine ⟨⟨i+1,rfl,by omega,.inl rfl,jL.append (cA.cons (by omega) cA.nil),by simp [u5],?_⟩,by simp only;omega⟩
    simp only
    rw [ab,aA,xf,u5,kV,z8]
    grind
 obtain ⟨r,al,o,R,ab⟩:=this
 unfold Ib MQ
 simp only [gk]
 rw [al]
 simp only [Option.bind_eq_bind,Option.bind_some]
 rw [zs o (by omega),ab]
 rfl
theorem q9 {l:List Int}(h:cA l){k:Nat}(aJ:k≤l.length):B k*V (l.drop k)≤V l∧V l<B k*(V (l.drop k)+1):=by
 have o:=uh aJ
 have R:=kA (h.take k)
 have ab:=l9 (h.take k)
 rw [List.length_take,Nat.min_eq_left aJ] at ab
 rw [Int.mul_add,Int.mul_one]
 omega
theorem zB {l:List Int}{k:Nat}{x:Int}(aa:l[k]? = some x)(aO:l.length=k+1):V (l.drop k)=x:=by
 rw [n8 aa,List.drop_of_length_le (by omega)]
 simp [V]
theorem M7 {aK W t d P:Int}(fL:1≤P)(Eo:P*t≤aK)(KL:aK<P*(t+1))(tf:P*d≤W)(yq:W<P*(d+1))(bg:0<d)(cr:0≤t)(KM:aK<1000000000*W):t / (d+1)≤aK / W∧aK / W≤t / d∧aK / W≤999999999:=by
 have hW:0<W:=by
  have:=Int.mul_pos (a:=P) (b:=d) (by omega) bg
  omega
 have cJ:0≤aK:=by
  have:=Int.mul_nonneg (a:=P) (b:=t) (by omega) cr
  omega
 refine ⟨?_,?_,?_⟩
 ·apply (Int.le_ediv_iff_mul_le hW).2
  have o:t / (d+1)*(d+1)≤t:=Int.ediv_mul_le _ (by omega)
  have R:0≤t / (d+1):=Int.ediv_nonneg cr (by omega)
  have ab:t / (d+1)*W≤t / (d+1)*(P*(d+1)):=Int.mul_le_mul_of_nonneg_left (by omega) R
  have aA:P*(t / (d+1)*(d+1))≤P*t:=Int.mul_le_mul_of_nonneg_left o (by omega)
  have aF:t / (d+1)*(P*(d+1))=P*(t / (d+1)*(d+1)):=by grind
  omega
 ·apply (Int.le_ediv_iff_mul_le bg).2
  have o:aK / W*W≤aK:=Int.ediv_mul_le _ (by omega)
  have R:0≤aK / W:=Int.ediv_nonneg cJ (by omega)
  have ab:aK / W*(P*d)≤aK / W*W:=Int.mul_le_mul_of_nonneg_left tf R
  have aA:aK / W*(P*d)=P*(aK / W*d):=by grind
  have aF:P*(aK / W*d)<P*(t+1):=by omega
  have:=Int.lt_of_mul_lt_mul_left aF (by omega)
  omega
 ·have:=Int.ediv_lt_of_lt_mul hW KM
  omega
theorem Pp {a b:Int}:ku a b≤0↔a≤b:=by
 unfold ku
 by_cases h:a<b
 ·simp [h];omega
 ·by_cases R:b<a
  ·simp [h,R]
  ·simp [h,R];omega
theorem uj {a b:Int}:ku a b<0↔a<b:=by
 unfold ku
 by_cases h:a<b
 ·simp [h]
 ·by_cases R:b<a
  ·simp [h,R]
  ·simp [h,R]
theorem XU {a b:Int}:0<ku a b↔b<a:=by
 unfold ku
 by_cases h:a<b
 ·simp [h];omega
 ·by_cases R:b<a
  ·simp [h,R]
  ·simp [h,R]
theorem Iy {a b:Int}:ku a b=0↔a=b:=by
 unfold ku
 by_cases h:a<b
 ·simp [h];omega
 ·by_cases R:b<a
  ·simp [h,R];omega
  ·simp [h,R];omega
theorem NU {r b:List Int}(al:eV r)(aV:eV b)(kJ:b≠[])(a5:r.length≤1000000)(hm:b.length≤1000000){bV ah:Int}(h0:0≤bV)(o:bV≤V r / V b)(R:V r / V b≤ah)(ab:ah≤999999999):Hv r b bV ah=some (V r / V b):=by
 have lJ:=qz aV kJ
 have : ∃q,iter (fun w:Int×Int=>yK r b w.1 w.2) (bV,ah)=some q∧q=V r / V b:=by
  refine jO (et:=fun w:Int×Int=>0≤w.1∧w.1≤V r / V b∧V r / V b≤w.2∧w.2≤999999999) (m:=fun w:Int×Int=>(w.2-w.1).toNat) _ ?_ _ ⟨h0,o,R,ab⟩
  rintro ⟨l,h⟩ ⟨g0,g1,g2,g3⟩
  simp only at g0 g1 g2 g3
  by_cases du:l<h
  ·have ax:U ((U ((U (l+h))+(1:Int))).tdiv (2:Int))=(l+h+1) / 2:=by
    rw [cO (x:=l+h) (by omega) (by omega),cO (x:=l+h+1) (by omega) (by omega),oI (by omega),cO (by omega) (by omega)]
   have lR:0≤(l+h+1) / 2:=by omega
   have qc:(l+h+1) / 2<1000000000:=by omega
   have Q8:(L ((l+h+1) / 2)).length≤1:=(hx lR).2 (by simpa [B] using qc)
   have aC:yK r b l h=some (.inl (if V b*((l+h+1) / 2)≤V r then ((l+h+1) / 2,h) else (l,(l+h+1) / 2-1))):=by
    unfold yK
    rw [if_pos (by simp [du]),ax,Da lR (by omega)]
    simp only [Option.bind_eq_bind,Option.bind_some]
    rw [mul_eq aV.1 (jG _) hm (by omega),fe lR]
    simp only [Option.bind_some]
    have af:0≤V b*((l+h+1) / 2):=Int.mul_nonneg (by omega) lR
    have hlen:(L (V b*((l+h+1) / 2))).length≤b.length+1:=(hx af).2 (by
     rw [l5]
     have aF:=l9 aV.1
     have:V b*((l+h+1) / 2)≤V b*1000000000:=Int.mul_le_mul_of_nonneg_left (by omega) (by omega)
     omega)
    rw [xA (jh _) al (by omega),fe af]
    simp only [Option.bind_some]
    by_cases aN:V b*((l+h+1) / 2)≤V r
    ·rw [if_pos (by simpa using Pp.2 aN),if_pos aN]
    ·rw [if_neg (fun h=>aN (Pp.1 (by simpa using h))),if_neg aN,cO (by omega) (by omega)]
   rw [aC]
   refine .inl ⟨_,rfl,?_⟩
   by_cases aN:V b*((l+h+1) / 2)≤V r
   ·rw [if_pos aN]
    have:(l+h+1) / 2≤V r / V b:=(Int.le_ediv_iff_mul_le lJ).2 (by rw [Int.mul_comm];exact aN)
    exact ⟨⟨by simp only;omega,this,g2,g3⟩,by simp only;omega⟩
   ·rw [if_neg aN]
    have:V r / V b<(l+h+1) / 2:=(Int.ediv_lt_iff_lt_mul lJ).2 (by rw [Int.mul_comm];omega)
    exact ⟨⟨g0,g1,by simp only;omega,by simp only;omega⟩,by simp only;omega⟩
  ·exact .inr ⟨l,by simp [yK,du],by omega⟩
 obtain ⟨q,bb,rfl⟩:=this
 exact bb
theorem DC {b:List Int}(aV:eV b)(kJ:b≠[]): ∃k d,b.length=k+1∧b[k]? = some d∧0<d∧d<1000000000∧V (b.drop k)=d:=by
 have af:=List.length_pos_iff.mpr kJ
 obtain ⟨x,aa,h⟩:=Ip kJ
 have o:=h.1 aV
 have R:=o.1.get aa
 exact ⟨b.length-1,x,by omega,aa,by omega,R.2,zB aa (by omega)⟩
theorem XV {r b:List Int}(al:eV r)(aV:eV b)(kJ:b≠[])(a5:r.length≤1000000)(hm:b.length≤1000000)(o:V b≤V r)(R:V r<1000000000*V b):HU r b=some (V r / V b):=by
 obtain ⟨k,d,aJ,bg,p6,qd,tg⟩:=DC aV kJ
 have Q0:b.length≤r.length:=Nat.le_of_not_lt fun h=>by
  have:=Dj al aV h
  omega
 have Q1:r.length≤b.length+1:=al.len.2 (by
  have:=l9 aV.1
  rw [l5]
  omega)
 have rn:=q9 aV.1 (k:=k) (by omega)
 rw [tg] at rn
 have h4:=q9 al.1 (k:=k) (by omega)
 have aa:=List.getElem?_eq_getElem (show k<r.length by omega)
 have iq:=al.1.get aa
 have hw:U ((b.length:Int)-1)=(k:Int):=by rw [cO (by omega) (by omega)];omega
 have lW:=kA (al.1.drop k)
 have Ep:=M7 (ol k) h4.1 h4.2 rn.1 rn.2 p6 lW R
 have aeL:=kA al.1
 have hW:=qz aV kJ
 unfold HU
 simp only [gk,hw]
 rw [if_pos (by omega),Int.toNat_natCast,aa]
 simp only [Option.bind_eq_bind,Option.bind_some]
 by_cases hlen:b.length<r.length
 ·have aP:=List.getElem?_eq_getElem hlen
  have nU:=al.1.get aP
  have nn:V (r.drop (k+1))=r[b.length]:=by
   rw [← aJ]
   exact zB aP (by omega)
  have cr:V (r.drop k)=r[k]+1000000000*r[b.length]:=by rw [n8 aa,nn]
  rw [cr] at Ep lW
  have lF:0≤(r[k]+1000000000*r[b.length]) / (d+1):=Int.ediv_nonneg lW (by omega)
  have qF:(r[k]+1000000000*r[b.length]) / (d+1)≤r[k]+1000000000*r[b.length]:=Int.ediv_le_self _ lW
  have xV:0≤(r[k]+1000000000*r[b.length]) / d:=Int.ediv_nonneg lW (by omega)
  have abO:(r[k]+1000000000*r[b.length]) / d≤r[k]+1000000000*r[b.length]:=Int.ediv_le_self _ lW
  rw [if_pos (by simp;omega),if_pos (by omega),Int.toNat_natCast,aP]
  simp only [Option.bind_some]
  rw [if_pos (by omega),bg]
  simp only [Option.bind_some]
  have ax:U (d+1)=d+1:=cO (by omega) (by omega)
  have aC:U (r[k]+U (r[b.length]*1000000000))=r[k]+1000000000*r[b.length]:=by
   rw [cO (x:=r[b.length]*1000000000) (by omega) (by omega),cO (by omega) (by omega),Int.mul_comm]
  rw [ax,if_pos (by omega),if_pos (by omega),aC,oI lW,oI lW,cO (by omega) (by omega),cO (x:=(r[k]+1000000000*r[b.length]) / d) (by omega) (by omega)]
  rw [NU al aV kJ a5 hm lF Ep.1 (by split<;>omega) (by split<;>omega)]
  rfl
 ·have cr:V (r.drop k)=r[k]:=zB aa (by omega)
  rw [cr] at Ep lW
  have lF:0≤r[k] / (d+1):=Int.ediv_nonneg lW (by omega)
  have qF:r[k] / (d+1)≤r[k]:=Int.ediv_le_self _ lW
  have xV:0≤r[k] / d:=Int.ediv_nonneg lW (by omega)
  have abO:r[k] / d≤r[k]:=Int.ediv_le_self _ lW
  rw [if_neg (by simp;omega),if_pos (by omega),bg]
  simp only [Option.bind_some]
  have ax:U (d+1)=d+1:=cO (by omega) (by omega)
  rw [ax,if_pos (by omega),if_pos (by omega),oI lW,oI lW,cO (by omega) (by omega),cO (x:=r[k] / d) (by omega) (by omega)]
  rw [NU al aV kJ a5 hm lF Ep.1 (by split<;>omega) (by split<;>omega)]
  rfl
theorem XW {a b:List Int}(bE:eV a)(aV:eV b)(kJ:b≠[])(a5:a.length≤900000)(hm:b.length≤900000):
 ∃r,MS a b [] ((a.length:Int)-1) (List.replicate a.length 0)=some r∧r.1=L (V a % V b)∧cA r.2∧r.2.length=a.length∧V r.2=V a / V b:=by
 have lJ:=qz aV kJ
 refine jO (et:=fun w:List Int×Int×List Int=> ∃(k:Nat) (q:List Int),w.2.1=(k:Int)-1∧k≤a.length∧w.2.2=List.replicate k 0++q∧q.length+k=a.length∧cA q∧eV w.1∧V w.1<V b∧V (a.drop k)=V q*V b+V w.1) (m:=fun w:List Int×Int×List Int=>(w.2.1+1).toNat) _ ?_ _ ⟨a.length,[],rfl,by omega,by simp,by simp,cA.nil,eV.nil,by simpa [V] using lJ,by simp [V]⟩
 rintro ⟨rest,i,row⟩ ⟨k,q,o,aJ,R,bb,sq,kI,h4,a3⟩
 simp only at o R kI h4 a3 ⊢
 subst o R
 have Bb:=kA kI.1
 cases k with
 | zero =>
  simp at a3
  refine .inr ⟨(rest,q),by simp [B7],?_,sq,by simpa using bb,?_⟩
  ·refine uB kI ?_
   rw [a3,Int.add_comm,Int.add_mul_emod_self_right]
   exact (Int.emod_eq_of_lt Bb h4).symm
  ·rw [a3,Int.add_comm,Int.add_mul_ediv_right _ _ (by omega),Int.ediv_eq_zero_of_lt Bb h4]
   simp
 | succ k =>
  have aa:=List.getElem?_eq_getElem (show k<a.length by omega)
  have iq:=bE.1.get aa
  have u5:rest.length≤b.length:=kI.len.2 (by have:=l9 aV.1;omega)
  have hk:cA (a[k]::rest):=cA.cons iq kI.1
  have KK:V (a[k]::rest)=a[k]+1000000000*V rest:=kV _ _
  have mq:0≤a[k]+1000000000*V rest:=by omega
  have aeM:(L (a[k]+1000000000*V rest)).length≤b.length+1:=(hx mq).2 (by
   have:=l9 aV.1
   rw [l5]
   omega)
  have bg:=n8 aa
  have Jx:B7 a b rest (k:Int) (List.replicate (k+1) 0++q)=some (.inl (if a[k]+1000000000*V rest<V b then (L (a[k]+1000000000*V rest),(k:Int)-1,List.replicate (k+1) 0++q) else (L ((a[k]+1000000000*V rest) % V b),(k:Int)-1,(List.replicate (k+1) 0++q).set k ((a[k]+1000000000*V rest) / V b)))):=by
   unfold B7
   rw [if_pos (by simp),if_pos (by omega),Int.toNat_natCast,aa]
   simp only [Option.bind_eq_bind,Option.bind_some,List.singleton_append]
   rw [if_pos (by simp;omega),zs hk (by simp;omega),KK]
   simp only [Option.bind_some]
   rw [xA (jh _) aV (by omega),fe mq]
   simp only [Option.bind_some]
   by_cases aN:a[k]+1000000000*V rest<V b
   ·rw [if_pos (by simpa using uj.2 aN),if_pos aN,pV (by omega)]
   ·rw [if_neg (fun h=>aN (uj.1 (by simpa using h))),if_neg aN]
    have du:a[k]+1000000000*V rest<1000000000*V b:=by omega
    rw [XV (jh _) aV kJ (by omega) (by omega) (by rw [fe mq];omega) (by rw [fe mq];exact du),fe mq]
    simp only [Option.bind_some]
    have lF:0≤(a[k]+1000000000*V rest) / V b:=Int.ediv_nonneg mq (by omega)
    have qF:(a[k]+1000000000*V rest) / V b<1000000000:=Int.ediv_lt_of_lt_mul lJ du
    have aeN:(L ((a[k]+1000000000*V rest) / V b)).length≤1:=(hx lF).2 (by simpa [B] using qF)
    have qc:=Int.mul_ediv_add_emod (a[k]+1000000000*V rest) (V b)
    have Bc:=Int.emod_nonneg (a[k]+1000000000*V rest) (b:=V b) (by omega)
    have oX:0≤V b*((a[k]+1000000000*V rest) / V b):=Int.mul_nonneg (by omega) lF
    rw [if_pos (by simp;omega),if_pos (by simp;omega),Da lF (by omega)]
    simp only [Option.bind_some]
    rw [mul_eq aV.1 (jG _) (by omega) (by omega),fe lF]
    simp only [Option.bind_some]
    rw [sub_eq (jG _) (jG _) ((hx oX).2 (by
     have:=l9 (jG (a[k]+1000000000*V rest))
     rw [fe mq] at this
     omega)) (by rw [fe mq,fe oX];omega) (by omega),fe mq,fe oX]
    simp only [Option.bind_some]
    rw [pV (by omega),Nat.zero_add]
    congr 4
    omega
  rw [show ((k+1:Nat):Int)-1=k by omega,Jx]
  refine .inl ⟨_,rfl,?_⟩
  by_cases aN:a[k]+1000000000*V rest<V b
  ·rw [if_pos aN]
   refine ⟨⟨k,0::q,rfl,by omega,?_,by simp;omega,cA.cons (by omega) sq,jh _,by rw [fe mq];exact aN,?_⟩,by simp⟩
   ·simp only
    rw [List.replicate_succ',List.append_assoc];rfl
   ·simp only
    rw [bg,a3,kV,fe mq]
    grind
  ·rw [if_neg aN]
   have du:a[k]+1000000000*V rest<1000000000*V b:=by omega
   have Bc:=Int.emod_nonneg (a[k]+1000000000*V rest) (b:=V b) (by omega)
   refine ⟨⟨k,(a[k]+1000000000*V rest) / V b::q,rfl,by omega,I0 _ _ _,by simp;omega,cA.cons ⟨Int.ediv_nonneg mq (by omega),Int.ediv_lt_of_lt_mul lJ du⟩ sq,jh _,by rw [fe Bc];exact Int.emod_lt_of_pos _ lJ,?_⟩,by simp⟩
   simp only
   rw [bg,a3,kV,fe Bc]
   have qc:=Int.mul_ediv_add_emod (a[k]+1000000000*V rest) (V b)
   generalize (a[k]+1000000000*V rest) / V b=u at *
   generalize (a[k]+1000000000*V rest) % V b=t at *
   grind
theorem div_eq {a b:List Int}(bE:eV a)(aV:eV b)(kJ:b≠[])(a5:a.length≤900000)(hm:b.length≤900000):CO a b=some (L (V a / V b),L (V a % V b)):=by
 unfold CO
 simp only [gk]
 by_cases o:b.length=1
 ·obtain ⟨k,d,aJ,bg,p6,qd,tg⟩:=DC aV kJ
  have p4:k=0:=by omega
  subst p4
  have KN:V b=d:=by simpa using tg
  rw [if_pos (by simp [o]),if_pos (by omega),bg]
  simp only [Option.bind_eq_bind,Option.bind_some]
  have qc:=Int.emod_nonneg (V a) (b:=d) (by omega)
  have Bc:=Int.emod_lt_of_pos (V a) p6
  rw [XS bE.1 ⟨p6,qd⟩ (by omega)]
  simp only [Option.bind_some]
  rw [Da qc (by omega),KN]
  rfl
 ·obtain ⟨r,al,ax,aC,bZ,c8⟩:=XW bE aV kJ a5 hm
  rw [if_neg (by simp;omega),if_pos (by omega),pV (by omega),Int.toNat_natCast,al]
  simp only [Option.bind_eq_bind,Option.bind_some]
  rw [zs aC (by omega),c8,ax]
  rfl
theorem IL {x y:Int}(aa:0≤x):Int.gcd y (x % y)=Int.gcd x y:=by
 have:=Nat.gcd_rec y.natAbs x.natAbs
 simp only [Int.gcd]
 rw [Nat.gcd_comm x.natAbs,this,Int.natAbs_emod_of_nonneg aa,Nat.gcd_comm]
theorem Dp {x:Int}(aa:0≤x):(Int.gcd x 0:Int)=x:=by
 rw [Int.gcd_zero_right];omega
theorem XX {x y:Int}(aa:0≤x)(aP:0≤y)(Bd:x<9223372036854775808)(Ba:y<9223372036854775808):HS x y=some (L (Int.gcd x y)):=by
 have : ∃r,iter (fun w:Int×Int=>BW w.1 w.2) (x,y)=some r∧(r=(Int.gcd x y:Int)∧r<9223372036854775808):=by
  refine jO (et:=fun w:Int×Int=>0≤w.1∧0≤w.2∧w.1<9223372036854775808∧w.2<9223372036854775808∧Int.gcd w.1 w.2=Int.gcd x y) (m:=fun w:Int×Int=>w.2.toNat) _ ?_ _ ⟨aa,aP,Bd,Ba,rfl⟩
  rintro ⟨u,v⟩ ⟨o,R,ab,aA,aF⟩
  simp only at o R ab aA aF
  by_cases a3:0<v
  ·have br:=Int.emod_nonneg u (b:=v) (by omega)
   have bU:=Int.emod_lt_of_pos u a3
   refine .inl ⟨(v,u % v),?_,⟨R,br,aA,by simp only;omega,by rw [← aF];exact IL o⟩,by simp only;omega⟩
   unfold BW
   rw [if_pos (by simpa using a3),if_pos (by omega),sB o]
  ·have Rq:v=0:=by omega
   subst Rq
   refine .inr ⟨u,by simp [BW],?_,ab⟩
   rw [← aF,Dp o]
 obtain ⟨r,al,rfl,h⟩:=this
 unfold HS MC
 rw [al]
 simp only [Option.bind_eq_bind,Option.bind_some]
 rw [Da (by omega) h]
 rfl
theorem DD {a:List Int}(bE:eV a)(h:a.length<3):V a<9223372036854775808:=by
 have o:=l9 bE.1
 have R:=sR (m:=a.length) (n:=2) (by omega)
 have ab:B 2=1000000000000000000:=by decide
 omega
theorem Zf {a b:List Int}(bE:eV a)(aV:eV b)(a5:a.length≤900000)(hm:b.length≤900000):Ic a b=some (L (Int.gcd (V a) (V b))):=by
 have : ∃r,iter (fun w:List Int×List Int=>yQ w.1 w.2) (a,b)=some r∧r.elim id id=L (Int.gcd (V a) (V b)):=by
  refine jO (et:=fun w:List Int×List Int=>eV w.1∧eV w.2∧w.1.length≤900000∧w.2.length≤900000∧Int.gcd (V w.1) (V w.2)=Int.gcd (V a) (V b)) (m:=fun w:List Int×List Int=>(V w.2).toNat) _ ?_ _ ⟨bE,aV,a5,hm,rfl⟩
  rintro ⟨x,y⟩ ⟨o,R,ab,aA,aF⟩
  simp only at o R ab aA aF ⊢
  have iq:=kA o.1
  have nU:=kA R.1
  by_cases aP:y=[]
  ·subst aP
   refine .inr ⟨.inl x,by simp [yQ,gk],?_⟩
   rw [← aF,z8,Dp iq]
   exact (sj o).symm
  ·have KO:=qz R aP
   have abP:=List.length_pos_iff.mpr aP
   by_cases bX:x.length<3∧y.length<3
   ·refine .inr ⟨.inr (L (Int.gcd (V a) (V b))),?_,rfl⟩
    unfold yQ
    simp only [gk]
    rw [if_pos (by simp;omega),if_pos (by simp;omega),if_pos (by simp;omega),Nt o (by omega) (DD o bX.1)]
    simp only [Option.bind_eq_bind,Option.bind_some]
    rw [Nt R (by omega) (DD R bX.2)]
    simp only [Option.bind_some]
    rw [XX iq nU (DD o bX.1) (DD R bX.2),aF]
    rfl
   ·have u6:=Int.emod_nonneg (V x) (b:=V y) (by omega)
    have abQ:=Int.emod_lt_of_pos (V x) KO
    refine .inl ⟨(y,L (V x % V y)),?_,⟨R,jh _,aA,(hx u6).2 ?_,?_⟩,?_⟩
    ·unfold yQ
     simp only [gk]
     rw [if_pos (by simp;omega),div_eq o R aP ab aA]
     by_cases Be:x.length<3
     ·rw [if_pos (by simp;omega),if_neg (by simp;omega)]
      rfl
     ·rw [if_neg (by simp;omega)]
      rfl
    ·have:=l9 R.1
     have:=sR aA
     omega
    ·simp only
     rw [fe u6,← aF]
     exact IL iq
    ·simp only
     rw [fe u6]
     omega
 obtain ⟨r,al,h⟩:=this
 unfold Ic MT
 rw [List.nil_append,List.nil_append,if_pos (by omega),if_pos (by omega),al]
 cases r with
 | inl r=>exact congrArg some h
 | inr r=>exact congrArg some h
def oz (p:Nat)(l:List Int):Prop:= ∀i z,i≠p→l[i]? = some z→0≤z∧z<1000000000
theorem oz.set {p:Nat}{l:List Int}(h:oz p l){k:Nat}{x:Int}(aa:0≤x∧x<1000000000):oz p (l.set k x):=fun i z ah cn=>by
 by_cases aJ:k=i
 ·subst aJ
  rw [List.getElem?_set] at cn
  simp only [if_true] at cn
  split at cn
  ·rw [← Option.some.inj cn];exact aa
  ·simp at cn
 ·rw [List.getElem?_set_ne aJ] at cn
  exact h i z ah cn
theorem oz.QP {p:Nat}{l:List Int}(h:oz p l){x:Int}:oz p (l.set p x):=fun i z ah cn=>by
 rw [List.getElem?_set_ne (fun h=>ah h.symm)] at cn
 exact h i z ah cn
theorem cA.toE {l:List Int}(h:cA l)(p:Nat):oz p l:=fun _ _ _ cn=>h.get cn
theorem WX {v row:List Int}{bV ma i:Nat}{ir carry x y:Int}(aa:v[i]? = some x)(aP:row[bV+i]? = some y)(iq:0≤x∧x<1000000000)(nU:0≤y∧y<1000000000)(aV:0≤ir∧ir<1000000000)(aN:0≤carry∧carry<1000000000)(hu:i<ma)(a5:row.length≤5000000):
 ∃c z,tB bV ma v ir v.length carry i row=some (.inl (c,((i+1:Nat):Int),row.set (bV+i) z))∧0≤c∧c<1000000000∧0≤z∧z<1000000000∧z-1000000000*c=y-ir*x-carry:=by
 have ah:=fI aa
 have aB:=fI aP
 obtain ⟨hn,fS⟩:=zY aV iq
 have e:U (U (y-U (ir*x))-carry)=y-ir*x-carry:=by
  rw [cO (x:=ir*x) (by omega) (by omega),cO (x:=y-ir*x) (by omega) (by omega),cO (by omega) (by omega)]
 by_cases cr:y-ir*x-carry<0
 ·refine ⟨(999999999-(y-ir*x-carry)) / 1000000000,y-ir*x-carry+(999999999-(y-ir*x-carry)) / 1000000000*1000000000,?_,by omega,by omega,by omega,by omega,by omega⟩
  unfold tB
  rw [if_pos (by simp;omega),if_pos (by omega),Int.toNat_natCast,aa]
  simp only [Option.bind_eq_bind,Option.bind_some]
  rw [if_pos (by omega),aP]
  simp only [Option.bind_some,e]
  rw [if_pos (by simpa using cr),if_pos (by omega),pj (n:=i) (by omega),cO (x:=999999999-(y-ir*x-carry)) (by omega) (by omega),oI (by omega),cO (x:=(999999999-(y-ir*x-carry)) / 1000000000) (by omega) (by omega),cO (x:=(999999999-(y-ir*x-carry)) / 1000000000*1000000000) (by omega) (by omega),cO (by omega) (by omega)]
 ·refine ⟨0,y-ir*x-carry,?_,by omega,by omega,by omega,by omega,by omega⟩
  unfold tB
  rw [if_pos (by simp;omega),if_pos (by omega),Int.toNat_natCast,aa]
  simp only [Option.bind_eq_bind,Option.bind_some]
  rw [if_pos (by omega),aP]
  simp only [Option.bind_some,e]
  rw [if_neg (by simpa using cr),if_pos (by omega),pj (n:=i) (by omega)]
theorem WY {v row:List Int}{bV ma:Nat}{ir:Int}(a3:cA v)(al:cA row)(aV:0≤ir∧ir<1000000000)(hu:v.length<ma)(aO:bV+v.length<row.length)(a5:row.length≤5000000):
 ∃r,HG bV ma v ir v.length 0 0 row=some r∧0≤r.1∧r.1<1000000000∧cA r.2∧r.2.length=row.length∧V r.2=V row-ir*B bV*V v+r.1*B (bV+v.length)∧ ∀i,i<bV∨bV+v.length≤i→r.2[i]? = row[i]? := by
 refine jO (et:=fun w:Int×Int×List Int=> ∃(i:Nat),w.2.1=(i:Int)∧i≤v.length∧0≤w.1∧w.1<1000000000∧cA w.2.2∧w.2.2.length=row.length∧V w.2.2=V row-ir*B bV*V (v.take i)+w.1*B (bV+i)∧ ∀i,i<bV∨bV+v.length≤i→w.2.2[i]? = row[i]?) (m:=fun w:Int×Int×List Int=>v.length-w.2.1.toNat) _ ?_ _ ⟨0,rfl,by omega,by simp,by simp,al,rfl,by simp [V],fun _ _=>rfl⟩
 rintro ⟨carry,ii,fJ⟩ ⟨i,o,ah,mf,mh,jL,hlen,hV,kC⟩
 simp only at o mf mh jL hlen hV kC ⊢
 subst o
 by_cases xX:i=v.length
 ·subst xX
  exact .inr ⟨(carry,fJ),by simp [tB],mf,mh,jL,hlen,by simpa using hV,kC⟩
 ·have aa:=List.getElem?_eq_getElem (show i<v.length by omega)
  have aP:=List.getElem?_eq_getElem (show bV+i<fJ.length by omega)
  obtain ⟨c,z,he,b9,bF,mB,nx,cn⟩:=WX (ma:=ma) aa aP (a3.get aa) (jL.get aP) aV ⟨mf,mh⟩ (by omega) (by omega)
  rw [he]
  refine .inl ⟨_,rfl,⟨i+1,rfl,by omega,b9,bF,jL.set ⟨mB,nx⟩,by simpa using hlen,?_,fun k aJ=> ?_⟩,by simp;omega⟩
  ·simp only
   rw [rj aP,rT aa,hV,← Nat.add_assoc,l5,z7]
   have uO:z=fJ[bV+i]-ir*v[i]-carry+1000000000*c:=by omega
   rw [uO]
   grind
  ·simp only
   rw [List.getElem?_set_ne (by omega)]
   exact kC k aJ
theorem Zg {v row:List Int}{bV ma:Nat}{ir:Int}(a3:cA v)(al:cA row)(aV:0≤ir∧ir<1000000000)(hu:v.length<ma)(aO:bV+v.length<row.length)(a5:row.length≤5000000):
 ∃y dD,zi v ir bV ma row=some (decide (y<0),dD)∧dD.length=row.length∧oz (bV+v.length) dD∧dD[bV+v.length]? = some y∧ -1000000000<y∧y<1000000000∧V dD=V row-ir*B bV*V v∧ ∀i,i<bV∨bV+v.length<i→dD[i]? = row[i]? := by
 obtain ⟨r,h4,b9,bF,jL,hlen,hV,kC⟩:=WY a3 al aV hu aO a5
 have aa:=List.getElem?_eq_getElem (show bV+v.length<r.2.length by omega)
 have iq:=jL.get aa
 refine ⟨r.2[bV+v.length]-r.1,r.2.set (bV+v.length) (r.2[bV+v.length]-r.1),?_,by simpa using hlen,(cA.toE jL _).QP,?_,by omega,by omega,?_,fun i ah=> ?_⟩
 ·unfold zi
  simp only [gk]
  rw [h4]
  simp only [Option.bind_eq_bind,Option.bind_some,Int.toNat_natCast]
  rw [if_pos (by omega),aa]
  simp only [Option.bind_some]
  rw [if_pos (by omega),cO (by omega) (by omega),List.getElem?_set,if_pos rfl,if_pos (by omega)]
  rfl
 ·rw [List.getElem?_set,if_pos rfl,if_pos (by omega)]
 ·rw [rj aa,hV]
  grind
 ·rw [List.getElem?_set_ne (by omega)]
  exact kC i (by omega)
theorem WZ {v row:List Int}{bV ma:Nat}(a3:cA v)(al:oz (bV+v.length) row)(hu:v.length<ma)(aO:bV+v.length<row.length)(a5:row.length≤5000000):
 ∃r,HH bV ma v v.length 0 0 row=some r∧0≤r.1∧r.1≤1∧oz (bV+v.length) r.2∧r.2.length=row.length∧V r.2=V row+B bV*V v-r.1*B (bV+v.length)∧ ∀i,i<bV∨bV+v.length≤i→r.2[i]? = row[i]? := by
 refine jO (et:=fun w:Int×Int×List Int=> ∃(i:Nat),w.2.1=(i:Int)∧i≤v.length∧0≤w.1∧w.1≤1∧oz (bV+v.length) w.2.2∧w.2.2.length=row.length∧V w.2.2=V row+B bV*V (v.take i)-w.1*B (bV+i)∧ ∀i,i<bV∨bV+v.length≤i→w.2.2[i]? = row[i]?) (m:=fun w:Int×Int×List Int=>v.length-w.2.1.toNat) _ ?_ _ ⟨0,rfl,by omega,by simp,by simp,al,rfl,by simp [V],fun _ _=>rfl⟩
 rintro ⟨carry,ii,fJ⟩ ⟨i,o,ah,mf,mh,jL,hlen,hV,kC⟩
 simp only at o mf mh jL hlen hV kC ⊢
 subst o
 by_cases xX:i=v.length
 ·subst xX
  exact .inr ⟨(carry,fJ),by simp [wm],mf,mh,jL,hlen,by simpa using hV,kC⟩
 ·have aa:=List.getElem?_eq_getElem (show i<v.length by omega)
  have aP:=List.getElem?_eq_getElem (show bV+i<fJ.length by omega)
  have iq:=a3.get aa
  have nU:=jL _ _ (by omega) aP
  have he:wm bV ma v v.length carry i fJ=some (.inl ((fJ[bV+i]+v[i]+carry) / 1000000000,((i+1:Nat):Int),fJ.set (bV+i) ((fJ[bV+i]+v[i]+carry) % 1000000000))):=by
   unfold wm
   rw [if_pos (by simp;omega),if_pos (by omega),Int.toNat_natCast,aa]
   simp only [Option.bind_eq_bind,Option.bind_some]
   rw [if_pos (by omega),aP]
   simp only [Option.bind_some]
   rw [if_pos (by omega),cO (x:=fJ[bV+i]+v[i]) (by omega) (by omega),cO (x:=fJ[bV+i]+v[i]+carry) (by omega) (by omega),sB (by omega),oI (by omega),cO (by omega) (by omega),pj (n:=i) (by omega)]
  rw [he]
  refine .inl ⟨_,rfl,⟨i+1,rfl,by omega,by simp only;omega,by simp only;omega,jL.set (by omega),by simpa using hlen,?_,fun k aJ=> ?_⟩,by simp;omega⟩
  ·simp only
   rw [rj aP,rT aa,hV,← Nat.add_assoc,l5,z7]
   have:=Int.mul_ediv_add_emod (fJ[bV+i]+v[i]+carry) 1000000000
   generalize (fJ[bV+i]+v[i]+carry) / 1000000000=q at *
   generalize (fJ[bV+i]+v[i]+carry) % 1000000000=t at *
   have uO:t=fJ[bV+i]+v[i]+carry-1000000000*q:=by omega
   rw [uO]
   grind
  ·simp only
   rw [List.getElem?_set_ne (by omega)]
   exact kC k aJ
theorem Zh {v row:List Int}{bV ma:Nat}{y:Int}(a3:cA v)(al:oz (bV+v.length) row)(hu:v.length<ma)(aO:bV+v.length<row.length)(a5:row.length≤5000000)(aP:row[bV+v.length]? = some y)(nU:-1000000000<y)(Ba:y<1000000000):
 ∃lq dD,wV v bV ma row=some dD∧dD.length=row.length∧oz (bV+v.length) dD∧dD[bV+v.length]? = some lq∧V dD=V row+B bV*V v∧ ∀i,i<bV∨bV+v.length<i→dD[i]? = row[i]? := by
 obtain ⟨r,h4,b9,bF,jL,hlen,hV,kC⟩:=WZ a3 al hu aO a5
 have aa:r.2[bV+v.length]? = some y:=by rw [kC _ (by omega)];exact aP
 refine ⟨y+r.1,r.2.set (bV+v.length) (y+r.1),?_,by simpa using hlen,jL.QP,?_,?_,fun i ah=> ?_⟩
 ·unfold wV
  simp only [gk]
  rw [h4]
  simp only [Option.bind_eq_bind,Option.bind_some,Int.toNat_natCast]
  rw [if_pos (by omega),aa]
  simp only [Option.bind_some]
  rw [if_pos (by omega),cO (by omega) (by omega)]
 ·rw [List.getElem?_set,if_pos rfl,if_pos (by omega)]
 ·rw [rj aa,hV]
  grind
 ·rw [List.getElem?_set_ne (by omega)]
  exact kC i (by omega)
theorem XY {g q v1 v2 top gq rest aK W P:Int}(fL:1≤P)(dy:0≤g)(cr:g*v1+rest=top)(tf:P*(v1*1000000000+v2)≤W)(KL:aK<P*(top*1000000000+gq+1))(RB:q*W≤aK)(hW:0≤W)(h:rest*1000000000+gq<g*v2):q<g:=by
 apply Int.not_le.mp
 intro th
 have o:g*W≤q*W:=Int.mul_le_mul_of_nonneg_right th hW
 have R:g*(P*(v1*1000000000+v2))≤g*W:=Int.mul_le_mul_of_nonneg_left tf dy
 have ab:g*(P*(v1*1000000000+v2))=P*(g*(v1*1000000000+v2)):=by grind
 have aA:P*(g*(v1*1000000000+v2))<P*(top*1000000000+gq+1):=by omega
 have aF:=Int.lt_of_mul_lt_mul_left aA (by omega)
 have br:g*(v1*1000000000+v2)=1000000000*(g*v1)+g*v2:=by grind
 omega
theorem Ok {g v1 v2 top gq rest aK W P:Int}(fL:1≤P)(dy:0≤g)(ti:g≤999999999)(qQ:1≤v1)(Bf:0≤v2)(cr:g*v1+rest=top)(tf:P*(v1*1000000000+v2)≤W)(yq:W<P*(v1*1000000000+v2+1))(Eo:P*(top*1000000000+gq)≤aK)(h:g*v2≤rest*1000000000+gq):g≤aK / W+1:=by
 have Bg:P*1000000000≤W:=by
  have o:P*1000000000≤P*(v1*1000000000+v2):=Int.mul_le_mul_of_nonneg_left (by omega) (by omega)
  omega
 have o:g*W≤g*(P*(v1*1000000000+v2+1)):=Int.mul_le_mul_of_nonneg_left (by omega) dy
 have R:g*(P*(v1*1000000000+v2+1))=P*(1000000000*(g*v1)+g*v2+g):=by grind
 have ab:P*(1000000000*(g*v1)+g*v2+g)≤P*(top*1000000000+gq+999999999):=Int.mul_le_mul_of_nonneg_left (by omega) (by omega)
 have aA:P*(top*1000000000+gq+999999999)=P*(top*1000000000+gq)+P*999999999:=by grind
 have aF:(g-1)*W=g*W-W:=by grind
 have:g-1≤aK / W:=(Int.le_ediv_iff_mul_le (by omega)).2 (by omega)
 omega
theorem Wo {aj u hU an:List Int}{N n j:Nat}{v1 v2 gq top aK W P:Int}(a5:2≤n)(J3:n≤5000000)(Bh:j+n<N)(fV:N≤5000000)(o:hU[n-1]? = some v1)(R:hU[n-2]? = some v2)(ab:u[j+n-2]? = some gq)
 (qQ:1≤v1∧v1<1000000000) (Bf:0≤v2∧v2<1000000000) (aeO:0≤gq∧gq<1000000000) (fL:1≤P) (tf:P*(v1*1000000000+v2)≤W) (yq:W<P*(v1*1000000000+v2+1)) (Eo:P*(top*1000000000+gq)≤aK) (KL:aK<P*(top*1000000000+gq+1)) (cJ:0≤aK) (KM:aK<1000000000*W) (lW:0≤top) (aeP:top≤v1*1000000000+999999999) (bb:aK / W≤top / v1) :
 ∃g,HZ N n n j aj u hU an (top / v1) (top % v1)=some g∧(aK / W=g∨aK / W+1=g)∧0≤g∧g≤999999999:=by
 have Bg:0<W:=by
  have o:P*1000000000≤P*(v1*1000000000+v2):=Int.mul_le_mul_of_nonneg_left (by omega) (by omega)
  omega
 have lF:0≤aK / W:=Int.ediv_nonneg cJ (by omega)
 have qF:aK / W<1000000000:=Int.ediv_lt_of_lt_mul Bg KM
 have RB:aK / W*W≤aK:=Int.ediv_mul_le _ (by omega)
 have abS:=Int.mul_ediv_add_emod top v1
 have lR:=Int.emod_nonneg top (b:=v1) (by omega)
 have qc:=Int.emod_lt_of_pos top (b:=v1) (by omega)
 have JJ:U ((n:Int)-1)=((n-1:Nat):Int):=by rw [cO (by omega) (by omega)];omega
 have aaA:U ((n:Int)-2)=((n-2:Nat):Int):=by rw [cO (by omega) (by omega)];omega
 have aaB:U (U ((j:Int)+(n:Int))-2)=((j+n-2:Nat):Int):=by rw [cO (x:=(j:Int)+n) (by omega) (by omega),cO (by omega) (by omega)];omega
 have D1:top / v1≤top:=Int.ediv_le_self _ lW
 refine jO (et:=fun w:Int×Int=>w.1*v1+w.2=top∧0≤w.2∧w.2<1000000000∧aK / W≤w.1∧w.1≤top) (m:=fun w:Int×Int=>w.1.toNat) _ ?_ _ ⟨by rw [Int.mul_comm];exact abS,lR,by simp only;omega,bb,D1⟩
 rintro ⟨g,rest⟩ ⟨mZ,mX,Bx,sv,Bz⟩
 simp only at mZ mX Bx sv Bz ⊢
 have KP:U (rest+v1)=rest+v1:=cO (by omega) (by omega)
 have KQ:U (g-1)=g-1:=cO (by omega) (by omega)
 have ti:(g-1)*v1+(rest+v1)=top:=by grind
 have P0:aK / W≤g-1→1000000000≤rest+v1→(aK / W=g-1∨aK / W+1=g-1)∧0≤g-1∧g-1≤999999999:=by
  intro ka jq
  have nu:(g-1)*v1<1000000000*v1:=by omega
  have Lq:g-1<1000000000:=Int.lt_of_mul_lt_mul_right nu (by omega)
  have Sb:0≤g-1:=by omega
  have afs:=(zY ⟨Sb,Lq⟩ Bf).2
  have:=Ok fL Sb (by omega) qQ.1 Bf.1 ti tf yq Eo (by omega)
  omega
 by_cases JK:1000000000≤g
 ·by_cases aV:1000000000≤rest+v1
  ·refine .inr ⟨g-1,?_,P0 (by omega) aV⟩
   unfold tD
   rw [if_pos (by simpa using JK),JJ,if_pos (by omega),Nat.zero_add,Int.toNat_natCast,o]
   simp only [Option.bind_eq_bind,Option.bind_some,KP,KQ]
   rw [if_pos (by simpa using aV)]
  ·refine .inl ⟨(g-1,rest+v1),?_,⟨ti,by simp only;omega,by simp only;omega,by simp only;omega,by simp only;omega⟩,by simp only;omega⟩
   unfold tD
   rw [if_pos (by simpa using JK),JJ,if_pos (by omega),Nat.zero_add,Int.toNat_natCast,o]
   simp only [Option.bind_eq_bind,Option.bind_some,KP,KQ]
   rw [if_neg (by simpa using aV)]
 ·have hS:0≤g:=by omega
  obtain ⟨hn,fS⟩:=zY ⟨hS,by omega⟩ Bf
  have ax:U (U (rest*1000000000)+gq)=rest*1000000000+gq:=by rw [cO (x:=rest*1000000000) (by omega) (by omega),cO (by omega) (by omega)]
  have aC:U (g*v2)=g*v2:=cO (by omega) (by omega)
  have Jx:tD N n n j aj u hU an g rest=some (if rest*1000000000+gq<g*v2 then (if 1000000000≤rest+v1 then .inr (g-1) else .inl (g-1,rest+v1)) else .inr g):=by
   unfold tD
   rw [if_neg (by simpa using JK),aaA,if_pos (by omega),Nat.zero_add,Int.toNat_natCast,R]
   simp only [Option.bind_eq_bind,Option.bind_some]
   rw [aaB,if_pos (by omega),Nat.zero_add,Int.toNat_natCast,ab]
   simp only [Option.bind_some,ax,aC]
   by_cases aN:rest*1000000000+gq<g*v2
   ·rw [if_pos (by simpa using aN),if_pos aN,JJ,if_pos (by omega),Nat.zero_add,Int.toNat_natCast,o]
    simp only [Option.bind_some,KP,KQ]
    by_cases aV:1000000000≤rest+v1
    ·rw [if_pos (by simpa using aV),if_pos aV]
    ·rw [if_neg (by simpa using aV),if_neg aV]
   ·rw [if_neg (by simpa using aN),if_neg aN]
  rw [Jx]
  by_cases aN:rest*1000000000+gq<g*v2
  ·have aeQ:=XY fL hS mZ tf KL RB (by omega) aN
   rw [if_pos aN]
   by_cases aV:1000000000≤rest+v1
   ·rw [if_pos aV]
    exact .inr ⟨g-1,rfl,P0 (by omega) aV⟩
   ·rw [if_neg aV]
    exact .inl ⟨(g-1,rest+v1),rfl,⟨ti,by simp only;omega,by simp only;omega,by simp only;omega,by simp only;omega⟩,by simp only;omega⟩
  ·rw [if_neg aN]
   have:=Ok fL hS (by omega) qQ.1 Bf.1 mZ tf yq Eo (by omega)
   exact .inr ⟨g,rfl,by omega,by omega,by omega⟩
theorem W0 {a b:List Int}{k:Nat}(h:∀i,k≤i→a[i]? = b[i]?):a.drop k=b.drop k:=by
 apply List.ext_getElem?
 intro i
 rw [List.getElem?_drop,List.getElem?_drop]
 exact h _ (by omega)
theorem W1 {a b:List Int}{k:Nat}(h:∀i,i<k→a[i]? = b[i]?):a.take k=b.take k:=by
 apply List.ext_getElem?
 intro i
 rw [List.getElem?_take,List.getElem?_take]
 by_cases ah:i<k
 ·rw [if_pos ah,if_pos ah];exact h i ah
 ·rw [if_neg ah,if_neg ah]
theorem RC {u w:List Int}{j n:Nat}{y c:Int}(hlen:w.length=u.length)(Bh:j+n<u.length)(dW:oz (j+n) w)(aP:w[j+n]? = some y)(kC:∀i,i<j∨j+n<i→w[i]? = u[i]?)(h0:V (u.drop (j+n+1))=0)(hV:V w=V u-c*B j):
 V (w.drop j)=V (u.drop j)-c∧ ∃low,0≤low∧low<B n∧V (w.drop j)=low+B n*y:=by
 have o:=uh (l:=u) (n:=j) (by omega)
 have R:=uh (l:=w) (n:=j) (by omega)
 rw [W1 (a:=w) (b:=u) (fun i ah=>kC i (.inl ah))] at R
 have ab:B j*V (w.drop j)=B j*(V (u.drop j)-c):=by grind
 have gO:=ol j
 have aA:V (w.drop j)=V (u.drop j)-c:=Int.eq_of_mul_eq_mul_left (by omega) ab
 refine ⟨aA,V ((w.drop j).take n),?_,?_,?_⟩
 ·refine kA (fun x aa=> ?_)
  obtain ⟨i,ah⟩:=List.mem_iff_getElem?.mp aa
  have kk:=fI ah
  simp at kk
  rw [List.getElem?_take,if_pos (by omega),List.getElem?_drop] at ah
  exact dW _ _ (by omega) ah
 ·have aO:cA ((w.drop j).take n):=fun x aa=>by
   obtain ⟨i,ah⟩:=List.mem_iff_getElem?.mp aa
   have kk:=fI ah
   simp at kk
   rw [List.getElem?_take,if_pos (by omega),List.getElem?_drop] at ah
   exact dW _ _ (by omega) ah
  have:=l9 aO
  rwa [List.length_take,Nat.min_eq_left (by simp;omega)] at this
 ·have aF:=uh (l:=w.drop j) (n:=n) (by simp;omega)
  rw [List.drop_drop,n8 aP,W0 (a:=w) (b:=u) (k:=j+n+1) (fun i ah=>kC i (.inr (by omega))),h0] at aF
  rw [aF]
  grind
theorem Ol {w:List Int}{p:Nat}(dW:oz p w)(aP:w[p]? = some 0):cA w:=fun x aa=>by
 obtain ⟨i,ah⟩:=List.mem_iff_getElem?.mp aa
 by_cases h:i=p
 ·subst h
  rw [aP] at ah
  have:=Option.some.inj ah
  omega
 ·exact dW i x h ah
theorem OR {low y X vk W:Int}(h0:0≤low)(o:low<vk)(EI:X=low+vk*y)(R:0≤X)(ab:X<W)(aA:W≤vk):y=0:=by
 have du:vk*y<vk*1:=by omega
 have aF:=Int.lt_of_mul_lt_mul_left du (by omega)
 have Ed:vk*(-1)<vk*y:=by omega
 have br:=Int.lt_of_mul_lt_mul_left Ed (by omega)
 omega
theorem W2 {aj u hU an:List Int}{n j:Nat}{v1 W:Int}(a5:2≤n)(Er:n≤hU.length)(a3:cA (hU.take n))(hW:V (hU.take n)=W)(qQ:hU[n-1]? = some v1)(JL:1≤v1)(hu:cA u)(u7:u.length≤5000000)(Bh:j+n<u.length)(du:V (u.drop (j+1))<W)(aeR:j<an.length):
 ∃ky,tE u.length n n aj hU j u an=some (.inl ((j:Int)-1,ky,an.set j (V (u.drop j) / W)))∧cA ky∧ky.length=u.length∧V ky=V u-(V (u.drop j) / W)*B j*W∧V (ky.drop j)<W∧0≤V (u.drop j) / W∧V (u.drop j) / W<1000000000:=by
 obtain ⟨n,rfl⟩ : ∃m,n=m+2:=⟨n-2,by omega⟩
 have pq:(hU.take (n+2)).length=n+2:=by simp;omega
 have ti:(hU.take (n+2))[n+1]? = some v1:=by rw [List.getElem?_take,if_pos (by omega)];exact qQ
 have RD:=List.getElem?_eq_getElem (show n<hU.length by omega)
 have QQ:(hU.take (n+2))[n]? = some hU[n]:=by rw [List.getElem?_take,if_pos (by omega)];exact RD
 have aaC:=a3.get ti
 have aaD:=a3.get QQ
 have iq:=List.getElem?_eq_getElem (show j+(n+2)<u.length by omega)
 have Bd:=List.getElem?_eq_getElem (show j+(n+1)<u.length by omega)
 have AP:=List.getElem?_eq_getElem (show j+n<u.length by omega)
 have RE:=List.getElem?_eq_getElem (show j<u.length by omega)
 have kJ:=hu.get iq
 have rn:=hu.get Bd
 have AL:=hu.get AP
 have aeS:=hu.get RE
 have u9:=q9 a3 (k:=n+1) (by omega)
 rw [zB ti (by omega),hW] at u9
 have KR:=q9 a3 (k:=n) (by omega)
 rw [n8 QQ,zB ti (by omega),hW] at KR
 have JM:=l9 a3
 rw [pq,hW] at JM
 have aeT:0≤W:=by rw [← hW];exact kA a3
 have cn:=q9 (hu.drop (j+1)) (k:=n+2) (by simp;omega)
 rw [List.drop_drop] at cn
 have abT:=kA (hu.drop (j+1+(n+2)))
 have aeU:=ol (n+2)
 have h0:V (u.drop (j+(n+2)+1))=0:=by
  rw [show j+(n+2)+1=j+1+(n+2) by omega]
  apply Int.le_antisymm _ abT
  apply Int.not_lt.mp
  intro h
  have:B (n+2)*1≤B (n+2)*V (u.drop (j+1+(n+2))):=Int.mul_le_mul_of_nonneg_left (by omega) (by omega)
  omega
 have lW:V (u.drop (j+(n+2)))=u[j+(n+2)]:=by rw [n8 iq,h0];omega
 have D1:V (u.drop (j+(n+1)))=u[j+(n+1)]+1000000000*u[j+(n+2)]:=by rw [n8 Bd,show j+(n+1)+1=j+(n+2) by omega,lW]
 have hF:V (u.drop (j+n))=u[j+n]+1000000000*(u[j+(n+1)]+1000000000*u[j+(n+2)]):=by rw [n8 AP,show j+n+1=j+(n+1) by omega,D1]
 have h4:=q9 (hu.drop j) (k:=n+1) (by simp;omega)
 rw [List.drop_drop,D1] at h4
 have KS:=q9 (hu.drop j) (k:=n) (by simp;omega)
 rw [List.drop_drop,hF] at KS
 have mq:=kA (hu.drop j)
 have cJ:V (u.drop j)<1000000000*W:=by rw [n8 RE];omega
 have abU:=ol n
 have aaE:=ol (n+1)
 have uM:u[j+(n+2)]≤v1:=by
  have o:=q9 (hu.drop (j+1)) (k:=n+1) (by simp;omega)
  rw [List.drop_drop,show j+1+(n+1)=j+(n+2) by omega,lW] at o
  have R:B (n+1)*u[j+(n+2)]<B (n+1)*(v1+1):=by omega
  have:=Int.lt_of_mul_lt_mul_left R (by omega)
  omega
 have aaF:=M7 aaE h4.1 h4.2 u9.1 u9.2 (by omega) (by omega) cJ
 obtain ⟨g,dy,th,abV,aeV⟩:=Wo (aj:=aj) (an:=an) (N:=u.length) (n:=n+2) (j:=j) (v1:=v1) (v2:=hU[n]) (gq:=u[j+n]) (top:=u[j+(n+1)]+1000000000*u[j+(n+2)]) (aK:=V (u.drop j)) (W:=W) (P:=B n) (u:=u) (hU:=hU) (by omega) (by omega) Bh u7 qQ RD AP ⟨JL,aaC.2⟩ aaD AL abU
  (by rw [Int.mul_comm v1,Int.add_comm];exact KR.1) (by rw [Int.mul_comm v1,Int.add_comm (1000000000*v1)];exact KR.2)
  (by rw [Int.mul_comm (u[j+(n+1)]+_),Int.add_comm];exact KS.1) (by rw [Int.mul_comm (u[j+(n+1)]+_),Int.add_comm (1000000000*_) u[j+n]];exact KS.2) mq cJ (by omega) (by omega) aaF.2.1
 have Bg:0<W:=by
  have:B (n+1)*1≤B (n+1)*v1:=Int.mul_le_mul_of_nonneg_left (by omega) (by omega)
  omega
 have lF:0≤V (u.drop j) / W:=Int.ediv_nonneg mq (by omega)
 have qF:V (u.drop j) / W<1000000000:=Int.ediv_lt_of_lt_mul Bg cJ
 have hm:=Int.mul_ediv_add_emod (V (u.drop j)) W
 have lR:=Int.emod_nonneg (V (u.drop j)) (b:=W) (by omega)
 have qc:=Int.emod_lt_of_pos (V (u.drop j)) Bg
 obtain ⟨y,w,cr,RF,Es,Et,nU,Ba,Eu,Jg⟩:=Zg (v:=hU.take (n+2)) (row:=u) (bV:=j) (ma:=u.length-j) (ir:=g) a3 hu ⟨abV,by omega⟩ (by omega) (by omega) u7
 rw [pq] at Es Et Jg
 rw [hW] at Eu
 obtain ⟨Be,low,mS,KT,uN⟩:=RC (c:=g*W) RF Bh Es Et Jg h0 (by rw [Eu];grind)
 have abW:U ((j:Int)-1)=(j:Int)-1:=pV (by omega)
 have ax:U ((j:Int)+((n+2:Nat):Int))=((j+(n+2):Nat):Int):=by rw [cO (by omega) (by omega)];omega
 have aC:U (((j+(n+2):Nat):Int)-1)=((j+(n+1):Nat):Int):=by rw [cO (by omega) (by omega)];omega
 have bZ:U (((n+2:Nat):Int)-1)=((n+1:Nat):Int):=by rw [cO (by omega) (by omega)];omega
 have c8:U (U (u[j+(n+2)]*1000000000)+u[j+(n+1)])=u[j+(n+1)]+1000000000*u[j+(n+2)]:=by
  rw [cO (x:=u[j+(n+2)]*1000000000) (by omega) (by omega),cO (by omega) (by omega)];omega
 have ep:0≤u[j+(n+1)]+1000000000*u[j+(n+2)]:=by omega
 have fb:(u[j+(n+1)]+1000000000*u[j+(n+2)]) / v1≤u[j+(n+1)]+1000000000*u[j+(n+2)]:=Int.ediv_le_self _ ep
 have e2:0≤(u[j+(n+1)]+1000000000*u[j+(n+2)]) / v1:=Int.ediv_nonneg ep (by omega)
 have aaG:hU[n+1]? = some v1:=qQ
 have pre:tE u.length (n+2) ((n+2:Nat):Int) aj hU j u an =
  (if (decide (y<0))=true then
    wV (hU.take (n+2)) j (u.length-j) w >>= fun i9=>some (.inl ((j:Int)-1,i9,an.set j (U (g-1))))
  else some (.inl ((j:Int)-1,w,an.set j g))):=by
  unfold tE
  rw [if_pos (by simp)]
  simp only [ax,aC,bZ,Int.toNat_natCast,Nat.zero_add,abW]
  rw [if_pos (by omega),iq]
  simp only [Option.bind_eq_bind,Option.bind_some]
  rw [if_pos (by omega),Bd]
  simp only [Option.bind_some]
  rw [if_pos (by omega),aaG]
  simp only [Option.bind_some]
  rw [if_pos (by omega),c8,oI ep,sB ep,cO (by omega) (by omega),dy]
  simp only [Option.bind_some]
  rw [if_pos (by omega),if_pos (by omega),if_pos (by omega),List.drop_zero,cr]
  simp only [Option.bind_some]
  by_cases aP:y<0
  ·have bg:(decide (y<0))=true:=by simpa using aP
   simp only [if_pos bg]
   congr 1
   funext r
   rw [if_pos (by omega),if_pos (by omega)]
  ·have bg : ¬(decide (y<0))=true:=by simpa using aP
   simp only [if_neg bg]
   rw [if_pos (by omega),if_pos (by omega)]
 rcases th with th|th
 ·subst th
  have EI:V (w.drop j)=V (u.drop j) % W:=by rw [Be];grind
  have aP:y=0:=OR (W:=W) mS KT uN (by rw [EI];exact lR) (by rw [EI];exact qc) (Int.le_of_lt JM)
  subst aP
  refine ⟨w,?_,Ol Es Et,RF,Eu,by omega,lF,qF⟩
  rw [pre]
  rfl
 ·have EI:V (w.drop j)=V (u.drop j) % W-W:=by rw [Be,← th];grind
  have aP:y<0:=by
   apply Int.not_le.mp
   intro h
   have:0≤B (n+2)*y:=Int.mul_nonneg (by omega) h
   omega
  obtain ⟨lq,bD,ni,aeo,JN,JO,QR,Pq⟩:=Zh (v:=hU.take (n+2)) (row:=w) (bV:=j) (ma:=u.length-j) (y:=y) a3 (by rw [pq];exact Es) (by omega) (by omega) (by omega) (by rw [pq];exact Et) nU Ba
  rw [pq] at JN JO Pq
  rw [hW] at QR
  have RG:V bD=V u-V (u.drop j) / W*B j*W:=by rw [QR,Eu,← th];grind
  obtain ⟨aaH,aep,aaI,aaJ,aaK⟩:=RC (c:=V (u.drop j) / W*W) (by omega) Bh JN JO (fun i ah=>by rw [Pq i ah,Jg i ah]) h0 (by rw [RG];grind)
  have RH:V (bD.drop j)=V (u.drop j) % W:=by rw [aaH];grind
  have nn:lq=0:=OR (W:=W) aaI aaJ aaK (by rw [RH];exact lR) (by rw [RH];exact qc) (Int.le_of_lt JM)
  subst nn
  refine ⟨bD,?_,Ol JN JO,by omega,RG,by omega,lF,qF⟩
  rw [pre,if_pos (by simpa using aP),ni]
  simp only [Option.bind_eq_bind,Option.bind_some]
  rw [cO (by omega) (by omega),show g-1=V (u.drop j) / W by omega]
theorem W3 {aj hU u:List Int}{n m:Nat}{v1 W:Int}(a5:2≤n)(Er:n≤hU.length)(a3:cA (hU.take n))(hW:V (hU.take n)=W)(qQ:hU[n-1]? = some v1)(JL:1≤v1)(hu:cA u)(u7:u.length≤5000000)(hm:m+n=u.length)(du:V (u.drop m)<W):
 ∃r,H0 u.length n n aj hU ((m:Int)-1) u (List.replicate m 0)=some r∧cA r.1∧r.1.length=u.length∧V r.1<W∧cA r.2∧r.2.length=m∧V u=V r.2*W+V r.1:=by
 refine jO (et:=fun w:Int×List Int×List Int=> ∃(k:Nat) (q:List Int),w.1=(k:Int)-1∧k≤m∧cA w.2.1∧w.2.1.length=u.length∧w.2.2=List.replicate k 0++q∧q.length+k=m∧cA q∧V (w.2.1.drop k)<W∧V u=V w.2.1+B k*V q*W) (m:=fun w:Int×List Int×List Int=>(w.1+1).toNat) _ ?_ _ ⟨m,[],rfl,by omega,hu,rfl,by simp,by simp,cA.nil,du,by simp [V]⟩
 rintro ⟨acZ,ky,an⟩ ⟨k,q,o,aJ,nP,hlen,ab,bb,sq,JP,hV⟩
 simp only at o nP hlen ab JP hV ⊢
 subst o ab
 cases k with
 | zero =>
  refine .inr ⟨(ky,q),by simp [tE],nP,hlen,by simpa using JP,sq,by simpa using bb,?_⟩
  rw [hV]
  simp [B]
  omega
 | succ k =>
  obtain ⟨aeW,he,s1,s2,vd,ac0,ac1,ac2⟩:=W2 (aj:=aj) (hU:=hU) (u:=ky) (an:=List.replicate (k+1) 0++q) (j:=k) a5 Er a3 hW qQ JL nP (by omega) (by omega) JP (by simp;omega)
  rw [hlen] at he
  rw [show ((k+1:Nat):Int)-1=k by omega,he]
  refine .inl ⟨_,rfl,⟨k,V (ky.drop k) / W::q,rfl,by omega,s1,s2.trans hlen,I0 _ _ _,by simp;omega,cA.cons ⟨ac1,ac2⟩ sq,ac0,?_⟩,by simp only;omega⟩
  simp only
  rw [hV,vd,kV,l5]
  grind
theorem IM {a:List Int}(h:a.length≤900000):ui a=some a:=by
 unfold ui
 rw [if_pos (by omega)]
theorem Wp {a b q s:Int}(h:a=q*b+s)(h0:0≤s)(o:s<b):a / b=q∧a % b=s:=by
 subst h
 constructor
 ·rw [Int.add_comm,Int.add_mul_ediv_right _ _ (by omega),Int.ediv_eq_zero_of_lt h0 o]
  omega
 ·rw [Int.add_comm,Int.add_mul_emod_self_right]
  exact Int.emod_eq_of_lt h0 o
theorem Dq {a b:List Int}(bE:eV a)(aV:eV b)(kJ:b≠[])(a5:a.length≤900000)(hm:b.length≤900000):rO a b=some (L (V a / V b),L (V a % V b)):=by
 have lJ:=qz aV kJ
 have D8:=kA bE.1
 unfold rO
 simp only [gk]
 rw [CS bE aV (by omega)]
 simp only [Option.bind_eq_bind,Option.bind_some]
 by_cases aN:V a<V b
 ·rw [if_pos (by simpa using uj.2 aN),IM a5,Int.ediv_eq_zero_of_lt D8 aN,Int.emod_eq_of_lt D8 aN,n9,sj bE]
  rfl
 ·rw [if_neg (fun h=>aN (uj.1 (by simpa using h)))]
  obtain ⟨k,d,aJ,bg,p6,qd,tg⟩:=DC aV kJ
  by_cases o:b.length=1
  ·have p4:k=0:=by omega
   subst p4
   have KN:V b=d:=by simpa using tg
   rw [if_pos (by simp [o]),if_pos (by omega),bg]
   simp only [Option.bind_some]
   have qc:=Int.emod_nonneg (V a) (b:=d) (by omega)
   have Bc:=Int.emod_lt_of_pos (V a) p6
   rw [M6 bE.1 ⟨p6,qd⟩ (by omega)]
   simp only [Option.bind_some]
   rw [Ab qc (by omega),Io qc (by omega),KN]
   rfl
  ·have hw:U ((b.length:Int)-1)=(k:Int):=by rw [cO (by omega) (by omega)];omega
   have ax:U (d+1)=d+1:=cO (by omega) (by omega)
   have Ev:1≤1000000000 / (d+1):=by
    apply (Int.le_ediv_iff_mul_le (by omega)).2
    omega
   have KU:1000000000 / (d+1)<1000000000:=by
    apply Int.ediv_lt_of_lt_mul (by omega)
    omega
   have abX:1000000000 / (d+1)*(d+1)≤1000000000:=Int.ediv_mul_le _ (by omega)
   have aC:U ((1000000000:Int).tdiv (d+1))=1000000000 / (d+1):=by rw [oI (by omega),cO (by omega) (by omega)]
   rw [if_neg (by simp;omega),hw,if_pos (by omega),Int.toNat_natCast,bg]
   simp only [Option.bind_some,ax,aC]
   generalize 1000000000 / (d+1)=f at *
   rw [if_pos (by omega)]
   have i5:cA [f]:=cA.cons (by omega) cA.nil
   have abY:V [f]=f:=by simp [V]
   have abZ:a≠[]:=by
    intro h
    subst h
    simp [V] at aN
    omega
   obtain ⟨lv,vl,ab0,aeX,ab1,Ew,aeY⟩:=NR bE.1 i5 abZ (by simp) (by omega) (by simp)
   obtain ⟨BA,hU,ab2,aeZ,ab3,KV,ae0⟩:=NR aV.1 i5 kJ (by simp) (by omega) (by simp)
   rw [abY] at Ew KV
   rw [ab0]
   simp only [Option.bind_some]
   simp only [List.length_singleton] at ab1 ab3
   have ae1:=ol k
   have ab4:V b*f<B b.length:=by
    have R:=(q9 aV.1 (k:=k) (by omega)).2
    rw [tg] at R
    have ab:V b*f≤(B k*(d+1)-1)*f:=Int.mul_le_mul_of_nonneg_right (by omega) (by omega)
    have aA:(B k*(d+1)-1)*f=B k*(f*(d+1))-f:=by grind
    have aF:B k*(f*(d+1))≤B k*1000000000:=Int.mul_le_mul_of_nonneg_left abX (by omega)
    rw [aJ,l5]
    omega
   have ae2:V b≤V b*f:=by
    have:V b*1≤V b*f:=Int.mul_le_mul_of_nonneg_left Ev (by omega)
    omega
   have ae3:V a≤V a*f:=by
    have:V a*1≤V a*f:=Int.mul_le_mul_of_nonneg_left Ev (by omega)
    omega
   have KW:0≤V b*f:=by omega
   have RI:0≤V a*f:=by omega
   have RJ:BA=b.length:=by
    have R:(hU.take BA).length=BA:=by simp;omega
    rw [KV] at R
    have ab:=(hx KW (k:=b.length)).2 ab4
    have aA:=D0 aV kJ
    have aF : ¬(L (V b*f)).length≤b.length-1:=fun h=>by
     have:=(hx KW).1 h
     omega
    omega
   have ab5:(L (V a*f)).length=lv:=by rw [← Ew];simp;omega
   have QS:=l9 (jG (V a*f))
   rw [fe RI,ab5] at QS
   have aeq:a.length≤lv:=bE.len.2 (by omega)
   have ae4:b.length≤a.length:=Nat.le_of_not_lt fun h=>by
    have:=Dj bE aV h
    omega
   rw [if_pos (by omega),if_pos (by simp;omega),ab2]
   simp only [Option.bind_some]
   have u7:(vl.take lv++[0]).length=lv+1:=by simp;omega
   have KX:CH a BA [f] hU (vl.take lv++[0])=some (vl.take lv++[0]):=by
    unfold CH
    rw [iter]
    unfold Cf
    simp only [gk,u7]
    rw [if_neg (by simp;omega)]
    rfl
   rw [KX]
   simp only [Option.bind_some,u7]
   have mg:U (((lv+1:Nat):Int)-((BA:Nat):Int))=((lv+1-b.length:Nat):Int):=by rw [cO (by omega) (by omega)];omega
   rw [mg,if_pos (by omega),pV (by omega),Int.toNat_natCast]
   have Qt:cA (vl.take lv++[0]):=by
    rw [Ew]
    exact (jG _).append (cA.cons (by omega) cA.nil)
   have RK:V (vl.take lv++[0])=V a*f:=by
    rw [xf,Ew,fe RI]
    simp [V]
   have Jh:hU.take b.length=L (V b*f):=by rw [← RJ];exact KV
   have ab6:V (hU.take b.length)=V b*f:=by rw [Jh,fe KW]
   obtain ⟨dt,vm,mi,sf,aer,aes,aet⟩:=DC (jh (V b*f)) (fun h=>by have:=sX.1 h;omega)
   rw [← Jh] at mi sf
   have pq:(hU.take b.length).length=b.length:=by simp;omega
   have uQ:hU[b.length-1]? = some vm:=by
    rw [List.getElem?_take] at sf
    rw [show b.length-1=dt by omega]
    split at sf
    ·exact sf
    ·simp at sf
   have aaL:V ((vl.take lv++[0]).drop (lv+1-b.length))<V b*f:=by
    have R:=(q9 Qt (k:=lv+1-b.length) (by omega)).1
    rw [RK] at R
    have ab:=D0 aV kJ
    have aA:B lv=B (lv+1-b.length)*B (b.length-1):=by rw [← z7];congr 1;omega
    rw [aA] at QS
    have aF:B (lv+1-b.length)*V ((vl.take lv++[0]).drop (lv+1-b.length))<B (lv+1-b.length)*B (b.length-1):=by omega
    have:=Int.lt_of_mul_lt_mul_left aF (by have:=ol (lv+1-b.length);omega)
    omega
   obtain ⟨r,al,ak,bm,bk,aX,bh,cj⟩:=W3 (aj:=[f]) (m:=lv+1-b.length) (by omega) (by omega) (by rw [Jh];exact jG _) ab6 uQ (by omega) Qt (by omega) (by omega) aaL
   rw [u7] at al bm
   rw [RJ,al]
   simp only [Option.bind_some]
   rw [if_pos (by omega),List.drop_zero,List.take_of_length_le (by omega),xp ak (by omega)]
   simp only [Option.bind_some]
   have Bb:=kA ak
   rw [RK] at cj
   have bX:V r.1=(V a-V r.2*V b)*f:=by grind
   have ab7:0≤V a-V r.2*V b:=by
    apply Int.not_lt.mp
    intro h
    have:(V a-V r.2*V b)*f≤(-1)*f:=Int.mul_le_mul_of_nonneg_right (by omega) (by omega)
    omega
   have Be:V a-V r.2*V b<V b:=by
    apply Int.lt_of_mul_lt_mul_right (a:=f) _ (by omega)
    omega
   obtain ⟨aW,bl⟩:=Wp (a:=V a) (b:=V b) (q:=V r.2) (s:=V a-V r.2*V b) (by omega) ab7 Be
   rw [if_pos (by simp)]
   simp only [List.getElem?_cons_zero,Option.bind_some]
   have Ek:(L (V r.1)).length≤lv+1:=(hx Bb).2 (by have:=l9 ak;rwa [bm] at this)
   rw [M6 (jG _) ⟨by omega,KU⟩ (by omega),fe Bb]
   simp only [Option.bind_some]
   rw [xp aX (by omega)]
   simp only [Option.bind_some]
   rw [aW,bl,bX,Int.mul_ediv_cancel _ (by omega)]
theorem NV {a b:List Int}(bE:eV a)(aV:eV b)(a5:a.length≤900000)(hm:b.length≤900000):wT a b=some (L (Int.gcd (V a) (V b))):=by
 have : ∃r,iter (fun w:List Int×List Int=>we w.1 w.2) (a,b)=some r∧r=L (Int.gcd (V a) (V b)):=by
  refine jO (et:=fun w:List Int×List Int=>eV w.1∧eV w.2∧w.1.length≤900000∧w.2.length≤900000∧Int.gcd (V w.1) (V w.2)=Int.gcd (V a) (V b)) (m:=fun w:List Int×List Int=>(V w.2).toNat) _ ?_ _ ⟨bE,aV,a5,hm,rfl⟩
  rintro ⟨x,y⟩ ⟨o,R,ab,aA,aF⟩
  simp only at o R ab aA aF ⊢
  have iq:=kA o.1
  have nU:=kA R.1
  by_cases aP:y=[]
  ·subst aP
   refine .inr ⟨x,by simp [we,gk],?_⟩
   rw [← aF,z8,Dp iq]
   exact (sj o).symm
  ·have KO:=qz R aP
   have abP:=List.length_pos_iff.mpr aP
   have u6:=Int.emod_nonneg (V x) (b:=V y) (by omega)
   have abQ:=Int.emod_lt_of_pos (V x) KO
   refine .inl ⟨(y,L (V x % V y)),?_,⟨R,jh _,aA,(hx u6).2 ?_,?_⟩,?_⟩
   ·unfold we
    simp only [gk]
    rw [if_pos (by simp;omega),Dq o R aP ab aA]
    rfl
   ·have:=l9 R.1
    have:=sR aA
    omega
   ·simp only
    rw [fe u6,← aF]
    exact IL iq
   ·simp only
    rw [fe u6]
    omega
 obtain ⟨r,al,rfl⟩:=this
 unfold wT HB
 rw [al]
 rfl
def gF (n:Int):bc:=⟨decide (n<0),L n.natAbs⟩
def eO (neg:Bool)(a:Int):Int:=if neg then -a else a
def mk (p:Int×Int):dX:=⟨gF p.1,L p.2⟩
def ja (p:Int×Int):bq:=⟨gF p.1,L p.2⟩
def aaM (x:Option (Int×Int)):Option bq:=x.map ja
structure Fr (p:Int×Int):Prop where
 pos:0<p.2
 RL:Int.gcd p.1 p.2=1
 num:(p.1.natAbs:Int)<B 24
 den:p.2<B 24
theorem zC {n:Int}:(gF n).cK=L n.natAbs:=rfl
theorem Db {n:Int}:(gF n).c6=decide (n<0):=rfl
theorem W4 {n:Int}(h:0≤n):decide ((0:Int)<((L n).length:Nat))=decide (0<n):=by
 apply decide_eq_decide.2
 by_cases o:0<n
 ·have:(L n)≠[]:=fun R=>by have:=sX.1 R;omega
  have:=List.length_pos_iff.mpr this
  omega
 ·have:n=0:=by omega
  subst this
  simp [n9]
theorem D2 {n:Int}(h:0≤n):(((L n).length:Nat):Int)=0↔n=0:=by
 constructor
 ·intro o
  have:L n=[]:=List.eq_nil_of_length_eq_zero (by omega)
  have:=sX.1 this
  omega
 ·rintro rfl
  simp [n9]
theorem DE {neg:Bool}{a:Int}(h:0≤a):((eO neg a).natAbs:Int)=a:=by
 unfold eO
 cases neg<;>simp<;>omega
theorem YD {neg:Bool}{a:Int}(h:0≤a):(⟨neg && decide (0<a),L a⟩:bc)=gF (eO neg a):=by
 unfold gF
 rw [DE h]
 congr 1
 unfold eO
 cases neg
 ·simp;omega
 ·simp
theorem pa {neg:Bool}{a:Int}(h:0≤a):kd neg (L a)=some (gF (eO neg a)):=by
 unfold kd
 rw [← YD h,gk,W4 h]
 cases neg<;>simp
theorem Zi {a b:Int}:eO (!(decide (a<0) == decide (b<0))) ((a.natAbs:Int)*(b.natAbs:Int))=a*b:=by
 unfold eO
 by_cases bE:a<0
 ·have ax:(a.natAbs:Int) = -a:=by omega
  by_cases aV:b<0
  ·have aC:(b.natAbs:Int) = -b:=by omega
   rw [ax,aC]
   simp [bE,aV,Int.neg_mul,Int.mul_neg]
  ·have aC:(b.natAbs:Int)=b:=by omega
   rw [ax,aC]
   simp [bE,aV,Int.neg_mul,Int.mul_neg]
 ·have ax:(a.natAbs:Int)=a:=by omega
  by_cases aV:b<0
  ·have aC:(b.natAbs:Int) = -b:=by omega
   rw [ax,aC]
   simp [bE,aV,Int.neg_mul,Int.mul_neg]
  ·have aC:(b.natAbs:Int)=b:=by omega
   rw [ax,aC]
   simp [bE,aV,Int.neg_mul,Int.mul_neg]
theorem YE {a b:Int}:eO (decide (a<0)) ((a.natAbs:Int)*b)=a*b:=by
 unfold eO
 by_cases bE:a<0
 ·have ax:(a.natAbs:Int) = -a:=by omega
  rw [ax]
  simp [bE,Int.neg_mul,Int.mul_neg]
 ·have ax:(a.natAbs:Int)=a:=by omega
  rw [ax]
  simp [bE,Int.neg_mul,Int.mul_neg]
theorem XZ {a c:Int}:ku (-c) (-a)=ku a c:=by
 unfold ku
 by_cases h:a<c
 ·have : -c < -a:=by omega
  simp [h,this]
 ·by_cases R:c<a
  ·have ab : ¬ -c < -a:=by omega
   have aA : -a < -c:=by omega
   simp [h,R,ab,aA]
  ·have ab : ¬ -c < -a:=by omega
   have aA : ¬ -a < -c:=by omega
   simp [h,R,ab,aA]
theorem Ms {a c:Int}(bE:(L a.natAbs).length≤5000000)(aN:(L c.natAbs).length≤5000000):q2 (gF a) (gF c)=some (ku a c):=by
 have bX:q2 (gF a) (gF c)=if (decide (a<0) == decide (c<0))=true then (if decide (a<0)=true then (o8 (L c.natAbs) (L a.natAbs)).bind (fun r=>some r) else (o8 (L a.natAbs) (L c.natAbs)).bind (fun r=>some r)) else if decide (a<0)=true then some (-1) else some 1:=rfl
 rw [bX,Vx]
 by_cases o:a<0
 ·by_cases R:c<0
  ·rw [if_pos (by simp [o,R]),if_pos (by simpa using o),xA (jh _) (jh _) aN,fe (by omega),fe (by omega),show (c.natAbs:Int) = -c by omega,show (a.natAbs:Int) = -a by omega,XZ]
   rfl
  ·rw [if_neg (by simp [o,R]),if_pos (by simpa using o)]
   unfold ku
   rw [if_pos (by omega)]
 ·by_cases R:c<0
  ·rw [if_neg (by simp [o,R]),if_neg (by simpa using o)]
   unfold ku
   rw [if_neg (by omega),if_pos (by omega)]
  ·rw [if_pos (by simp [o,R]),if_neg (by simpa using o),xA (jh _) (jh _) bE,fe (by omega),fe (by omega),show (c.natAbs:Int)=c by omega,show (a.natAbs:Int)=a by omega]
   rfl
def fits (x:Int):Prop:=x<B 24
noncomputable instance (x:Int):Decidable (fits x):=Classical.propDecidable _
noncomputable def low (n d:Int):Option (Int×Int) :=
 if fits ((n / (Int.gcd n d:Int)).natAbs:Int)∧fits (d / (Int.gcd n d:Int)) then some (n / (Int.gcd n d:Int),d / (Int.gcd n d:Int)) else none
theorem Dr {n d:Int}(h:0<d):(0:Int)<Int.gcd n d:=by
 have:Int.gcd n d≠0:=by
  rw [Ne,Int.gcd_eq_zero_iff]
  omega
 omega
theorem Pr {n d:Int}(h:0<d): ∃m e,n / (Int.gcd n d:Int)=m∧d / (Int.gcd n d:Int)=e∧n=Int.gcd n d*m∧d=Int.gcd n d*e∧0<e∧(n.natAbs:Int) / (Int.gcd n d:Int)=m.natAbs:=by
 have dy:=Dr (n:=n) h
 obtain ⟨m,hm⟩:=Int.gcd_dvd_left (a:=n) (b:=d)
 obtain ⟨e,he⟩:=Int.gcd_dvd_right (a:=n) (b:=d)
 refine ⟨m,e,?_,?_,hm,he,?_,?_⟩
 ·conv=>lhs;lhs;rw [hm]
  exact Int.mul_ediv_cancel_left _ (by omega)
 ·conv=>lhs;lhs;rw [he]
  exact Int.mul_ediv_cancel_left _ (by omega)
 ·apply Int.not_le.mp
  intro o
  have:(Int.gcd n d:Int)*e≤Int.gcd n d*0:=Int.mul_le_mul_of_nonneg_left o (by omega)
  omega
 ·have ax:(n.natAbs:Int)=Int.gcd n d*m.natAbs:=by
   conv=>lhs;rw [hm]
   rw [Int.natAbs_mul]
   simp
  rw [ax]
  exact Int.mul_ediv_cancel_left _ (by omega)
theorem Zj {a:Int}(h:0≤a):Ia (L a)=some (decide (a=1)):=by
 unfold Ia
 simp only [gk]
 by_cases o:(L a).length=1
 ·have R:=(hx (k:=1) h).1 (by omega)
  have ab:0<a:=by
   apply Int.not_le.mp
   intro aA
   rw [Qr aA] at o
   simp at o
  have aF:a<1000000000:=by simpa [B] using R
  rw [Di ⟨ab,aF⟩]
  by_cases br:a=1<;>simp [br]
 ·rw [if_neg (by simp;omega)]
  have:a≠1:=by
   rintro rfl
   rw [Di (by omega)] at o
   simp at o
  simp [this]
theorem Ps {n d:Int}(h:0≤d):Int.gcd (n.natAbs:Int) d=Int.gcd n d:=by
 simp [Int.gcd]
theorem Zk {neg:Bool}{p m g:Int}(af:0≤p)(dy:0<g)(hm:eO neg p=g*m):eO neg (m.natAbs:Int)=m:=by
 unfold eO at hm ⊢
 cases neg
 ·simp at hm ⊢
  have:0≤m:=by
   apply Int.not_lt.mp
   intro o
   have:g*m≤g*(-1):=Int.mul_le_mul_of_nonneg_left (by omega) (by omega)
   omega
  omega
 ·simp at hm ⊢
  have:m≤0:=by
   apply Int.not_lt.mp
   intro o
   have:g*1≤g*m:=Int.mul_le_mul_of_nonneg_left (by omega) (by omega)
   omega
  omega
end Go.Proofs.YtgfpnhmcmgnepadGreat
namespace Go.Proofs.YtgfpnhmcmgnepadGreat
set_option linter.unusedVariables false
set_option linter.unusedSimpArgs false
open Go Go.VL
theorem Z4 {neg:Bool}{a:Int}(h:0≤a)(R:neg=true→0<a):decide (eO neg a<0)=neg:=by
 unfold eO
 cases neg
 ·simp;omega
 ·have:=R rfl
  simp;omega
theorem Pt {neg:Bool}{l:List Int}(aO:eV l)(R:neg=true→l≠[]):(⟨neg,l⟩:bc)=gF (eO neg (V l)):=by
 have h:=kA aO.1
 unfold gF
 rw [DE h,sj aO,Z4 h (fun a5=>qz aO (R a5))]
theorem Vl {x:bc}(hm:(x.cK.length:Int)<9223372036854775807): ∃ok,HV x=some ok∧y3 x=some ok∧(ok=true↔ ∃n,x=gF n∧(L n.natAbs).length≤60):=by
 obtain ⟨I,o,R,ab⟩:=NT hm
 unfold HV y3
 rw [o,R]
 simp only [Option.bind_eq_bind,Option.bind_some,gk]
 obtain ⟨neg,Bi⟩:=x
 simp only at ab ⊢
 have i3:decide ((0:Int)<(Bi.length:Nat)) = !((((Bi.length:Nat):Int) == 0)):=by
  by_cases h:Bi=[]
  ·subst h;rfl
  ·have:=List.length_pos_iff.mpr h
   rw [decide_eq_true (by omega)]
   symm
   simp
   omega
 by_cases ai:I=true
 ·obtain ⟨aA,aF⟩:=ab.1 ai
  subst ai
  cases neg
  ·refine ⟨true,rfl,rfl,?_⟩
   simp only [true_iff]
   refine ⟨_,Pt aA (fun h=>by simp at h),?_⟩
   rw [DE (kA aA.1),sj aA]
   exact aF
  ·refine ⟨decide ((0:Int)<(Bi.length:Nat)),rfl,by rw [i3];rfl,?_⟩
   rw [decide_eq_true_iff]
   constructor
   ·intro af
    refine ⟨_,Pt aA (fun _ h=>by subst h;simp at af),?_⟩
    rw [DE (kA aA.1),sj aA]
    exact aF
   ·rintro ⟨n,a5,-⟩
    have ax:=congrArg bc.c6 a5
    have aC:=congrArg bc.cK a5
    simp only [Db,zC] at ax aC
    have bZ:n<0:=by simpa using ax.symm
    have:Bi≠[]:=by
     rw [aC]
     intro h
     have:=sX.1 h
     omega
    have:=List.length_pos_iff.mpr this
    omega
 ·refine ⟨false,by simp [ai],by simp [ai],?_⟩
  simp only [Bool.false_eq_true,false_iff]
  rintro ⟨n,a5,yp⟩
  have aC:=congrArg bc.cK a5
  simp only [zC] at aC
  exact ai (ab.2 (aC▸⟨jh _,yp⟩))
theorem Wq {r:dX}(hm:r.mM.cK.length≤2000000)(bg:r.jJ.length≤2000000): ∃ok,NP r=some ok∧w5 r=some ok∧(ok=true↔ ∃p,Fr p∧r=mk p):=by
 obtain ⟨b3,hG,iw,bs⟩:=Vl (x:=r.mM) (by omega)
 obtain ⟨a6,gQ,h8,lr⟩:=NT (a:=r.jJ) (by omega)
 unfold NP w5
 rw [hG,iw]
 simp only [Option.bind_eq_bind,Option.bind_some,gk]
 by_cases o:b3=true
 ·rw [if_pos o,if_pos o,gQ,h8]
  simp only [Option.bind_some]
  by_cases R:a6=true
  ·rw [if_pos R,if_pos R]
   obtain ⟨n,a5,aeu⟩:=bs.1 o
   obtain ⟨qd,aev⟩:=lr.1 R
   have tg:=kA qd.1
   have RM:r.jJ=L (V r.jJ):=(sj qd).symm
   have Er:r.mM.cK=L n.natAbs:=by rw [a5];rfl
   by_cases ab:r.jJ=[]
   ·rw [if_pos (by simp [ab]),if_pos (by simp [ab])]
    refine ⟨false,rfl,rfl,?_⟩
    simp only [Bool.false_eq_true,false_iff]
    rintro ⟨p,af,al⟩
    have e:r.jJ=L p.2:=by rw [al];rfl
    rw [ab] at e
    have:=sX.1 e.symm
    have:=af.pos
    omega
   ·have KY:=qz qd ab
    have ae5:=List.length_pos_iff.mpr ab
    have p6 : ¬((((r.jJ.length:Nat):Int) == 0)=true):=by simp [ab]
    rw [if_neg p6,if_neg p6]
    by_cases aA:24<r.jJ.length
    ·rw [if_pos (by simp;omega)]
     have gM : ¬∃p,Fr p∧r=mk p:=by
      rintro ⟨p,af,al⟩
      have e:r.jJ=L p.2:=by rw [al];rfl
      have:=(hx (k:=24) (by have:=af.pos;omega)).2 af.den
      rw [← e] at this
      omega
     refine ⟨false,rfl,?_,by simp [gM]⟩
     by_cases aF:24<r.mM.cK.length
     ·rw [if_pos (by simp;omega)]
     ·rw [if_neg (by simp;omega),if_pos (by simp;omega)]
    ·rw [if_neg (by simp;omega)]
     by_cases aF:24<r.mM.cK.length
     ·rw [if_pos (by simp;omega),if_pos (by simp;omega)]
      refine ⟨false,rfl,rfl,?_⟩
      simp only [Bool.false_eq_true,false_iff]
      rintro ⟨p,af,al⟩
      have e:r.mM.cK=L p.1.natAbs:=by rw [al];rfl
      have:=(hx (k:=24) (by omega)).2 af.num
      rw [← e] at this
      omega
     ·rw [if_neg (by simp;omega),if_neg (by simp;omega),if_neg (by simp;omega)]
      rw [Er] at aF ⊢
      rw [Zf (jh _) qd (by omega) (by omega),NV (jh _) qd (by omega) (by omega),fe (by omega),Ps tg]
      simp only [Option.bind_some]
      have dy:=Dr (n:=n) KY
      have ab8:eV [1]:=eV.one (by omega)
      have Ex:(L (Int.gcd n (V r.jJ))).length≤5000000:=by
       have bU:(Int.gcd n (V r.jJ):Int)≤V r.jJ:=Int.le_of_dvd KY (Int.gcd_dvd_right ..)
       have:=(hx (k:=24) (by omega)).2 (show (Int.gcd n (V r.jJ):Int)<B 24 by
        have:=(qd.len (k:=24)).1 (by omega)
        omega)
       omega
      rw [Zj (by omega),CS (jh _) ab8 Ex,fe (by omega)]
      have qQ:V [1]=1:=by decide
      rw [qQ]
      simp only [Option.bind_some]
      refine ⟨decide ((Int.gcd n (V r.jJ):Int)=1),rfl,?_,?_⟩
      ·congr 1
       rw [Bool.eq_iff_iff]
       simp [Iy]
      ·rw [decide_eq_true_iff]
       constructor
       ·intro hu
        refine ⟨(n,V r.jJ),⟨KY,by simp only;omega,(hx (by omega)).1 (by simp only;omega),(qd.len).1 (by omega)⟩,?_⟩
        obtain ⟨num,den⟩:=r
        simp only at a5 RM ⊢
        unfold mk
        simp only
        rw [← RM,← a5]
       ·rintro ⟨p,af,al⟩
        have e:r.jJ=L p.2:=by rw [al];rfl
        have aC:r.mM=gF p.1:=by rw [al];rfl
        have bZ:V r.jJ=p.2:=by rw [e,fe (by have:=af.pos;omega)]
        have c8:n=p.1:=by
         rw [a5] at aC
         have f1:=congrArg bc.c6 aC
         have f2:=congrArg bc.cK aC
         simp only [Db,zC] at f1 f2
         have f3:=congrArg V f2
         rw [fe (by omega),fe (by omega)] at f3
         have f4:n<0↔p.1<0:=by
          constructor
          ·intro h;simpa [h] using f1.symm
          ·intro h;simpa [h] using f1
         omega
        rw [bZ,c8,af.RL]
        rfl
  ·refine ⟨false,by simp [R],by simp [R],?_⟩
   simp only [Bool.false_eq_true,false_iff]
   rintro ⟨p,af,al⟩
   have e:r.jJ=L p.2:=by rw [al];rfl
   have:=(hx (k:=24) (by have:=af.pos;omega)).2 af.den
   exact R (lr.2 (e▸⟨jh _,by omega⟩))
 ·refine ⟨false,by simp [o],by simp [o],?_⟩
  simp only [Bool.false_eq_true,false_iff]
  rintro ⟨p,af,al⟩
  have aC:r.mM=gF p.1:=by rw [al];rfl
  have:=(hx (k:=24) (n:=p.1.natAbs) (by omega)).2 af.num
  exact o (bs.2 ⟨p.1,aC,by omega⟩)
theorem Fr.uC {p:Int×Int}(h:Fr p):(L p.1.natAbs).length≤24:=(hx (by omega)).2 h.num
theorem Fr.uD {p:Int×Int}(h:Fr p):(L p.2).length≤24:=(hx (by have:=h.pos;omega)).2 h.den
theorem Z5 (m n:Nat):B m*B n=B (m+n):=(z7 m n).symm
theorem Ds {x y:Int}{m n:Nat}(aa:0≤x)(aP:0≤y)(o:x<B m)(R:y<B n):(L (x*y)).length≤m+n:=by
 apply (hx (Int.mul_nonneg aa aP)).2
 rw [← Z5]
 have ab:x*y≤(B m-1)*(B n-1):=Int.mul_le_mul (by omega) (by omega) aP (by omega)
 have aA:(B m-1)*(B n-1)=B m*B n-B m-B n+1:=by grind
 have aF:=ol m
 have br:=ol n
 omega
theorem Om {n d:Int}(bg:0<d)(AU:(L n.natAbs).length≤900000)(KZ:(L d).length≤900000):pI (gF n) (L d)=some (some (ja (n / (Int.gcd n d:Int),d / (Int.gcd n d:Int)))):=by
 obtain ⟨m,e,o,R,ab,aA,aF,br⟩:=Pr (n:=n) bg
 have dy:=Dr (n:=n) bg
 rw [o,R]
 unfold pI
 simp only [zC,Db,gk]
 by_cases a5:n=0
 ·subst a5
  have ab9:(Int.gcd 0 d:Int)=d:=by rw [Int.gcd_comm,Dp (by omega)]
  rw [ab9] at ab aA
  have hm:m=0:=by
   rcases Int.mul_eq_zero.1 ab.symm with h|h<;>omega
  have he:e=1:=by
   have:d*e=d*1:=by omega
   exact Int.eq_of_mul_eq_mul_left (by omega) this
  subst hm he
  rw [if_pos (by simp [n9])]
  unfold ja gF
  simp only [Int.natAbs_zero]
  rw [Di (x:=1) (by omega),show ((0:Nat):Int)=0 from rfl,n9]
  rfl
 ·have aaN : ¬((((L n.natAbs).length:Nat):Int) == 0)=true:=by
   simp only [beq_iff_eq]
   intro h
   have:=(D2 (n:=n.natAbs) (by omega)).1 h
   omega
  rw [if_neg aaN,NV (jh _) (jh _) AU KZ,fe (by omega),fe (by omega),Ps (by omega)]
  simp only [Option.bind_eq_bind,Option.bind_some]
  have Ex:(L (Int.gcd n d)).length≤900000:=by
   have bU:(Int.gcd n d:Int)≤d:=Int.le_of_dvd bg (Int.gcd_dvd_right ..)
   apply (hx (by omega)).2
   have:=(hx (n:=d) (by omega)).1 KZ
   omega
  rw [CS (jh _) (eV.one (by omega)) (by omega),fe (by omega),show V [1]=1 by decide]
  simp only [Option.bind_some]
  by_cases hu:(Int.gcd n d:Int)=1
  ·rw [if_pos (by simpa using Iy.2 hu)]
   rw [hu] at ab aA
   rw [Int.one_mul] at ab aA
   subst ab aA
   rfl
  ·rw [if_neg (fun h=>hu (Iy.1 (by simpa using h)))]
   have RN:L (Int.gcd n d)≠[]:=fun h=>by
    have:=sX.1 h
    omega
   rw [Dq (jh _) (jh _) RN AU Ex,fe (by omega),fe (by omega)]
   simp only [Option.bind_some]
   rw [Dq (jh _) (jh _) RN KZ Ex,fe (by omega),fe (by omega)]
   simp only [Option.bind_some]
   rw [br,R,pa (by omega)]
   simp only [Option.bind_some]
   have bX:eO (decide (n<0)) (m.natAbs:Int)=m:=by
    refine Zk (p:=n.natAbs) (g:=Int.gcd n d) (by omega) dy ?_
    rw [← ab]
    unfold eO
    by_cases h:n<0<;>simp [h]<;>omega
   rw [bX]
   rfl
theorem Zl {m e:Int}(he:0≤e):ua (some (ja (m,e)))=some (aaM (if fits (m.natAbs:Int)∧fits e then some (m,e) else none)):=by
 have bX:ua (some (ja (m,e)))=if (decide ((24:Int)<len_ J (L m.natAbs)))=true then some none else if (decide ((24:Int)<len_ J (L e)))=true then some none else some (some (ja (m,e))):=rfl
 rw [bX,gk,gk]
 by_cases o:fits (m.natAbs:Int)
 ·have R:=(hx (by omega)).2 o
  rw [if_neg (by simp;omega)]
  by_cases ab:fits e
  ·have aA:=(hx he).2 ab
   rw [if_neg (by simp;omega),if_pos ⟨o,ab⟩]
   rfl
  ·have aA : ¬(L e).length≤24:=fun h=>ab ((hx he).1 h)
   rw [if_pos (by simp;omega),if_neg (fun h=>ab h.2)]
   rfl
 ·have aA : ¬(L m.natAbs).length≤24:=fun h=>o ((hx (by omega)).1 h)
  rw [if_pos (by simp;omega),if_neg (fun h=>o h.1)]
  rfl
theorem On {a b:Int}(bE:(L a.natAbs).length≤900000)(aV:(L b.natAbs).length≤900000):n4 (gF a) (gF b)=some (gF (a*b)):=by
 unfold n4
 simp only [zC,Db]
 rw [xh (jG _) (jG _) (by omega) (by omega),fe (by omega),fe (by omega)]
 simp only [Option.bind_eq_bind,Option.bind_some]
 rw [pa (Int.mul_nonneg (by omega) (by omega)),Zi]
 rfl
theorem YF:(1000000000000000000000000000:Int)≤B 24:=by
 have h:B 3≤B 24:=sR (by omega)
 have ab:B 3=1000000000000000000000000000:=by decide
 omega
theorem NW {n:Int}(h:ng n):nz n=some (gF n):=by
 obtain ⟨o,R⟩:=lM.1 h
 unfold nz
 by_cases a5:n<0
 ·rw [if_pos (by simpa using a5),cO (x:=n+1) (by omega) (by omega),cO (x:=0-(n+1)) (by omega) (by omega),Ab (x:=0-(n+1)) (by omega) (by omega),Ab (by omega) (by omega),Io (by omega) (by omega)]
  simp only [Option.bind_eq_bind,Option.bind_some]
  rw [pa (by omega)]
  simp only [Option.bind_some]
  congr 2
  unfold eO
  simp
  omega
 ·rw [if_neg (by simpa using a5),Ab (by omega) (by omega),Io (by omega) (by omega)]
  simp only [Option.bind_eq_bind,Option.bind_some]
  rw [pa (by omega)]
  simp only [Option.bind_some]
  congr 2
theorem Qu:L 1=[1]:=Di (by omega)
theorem Dc {n:Int}(h:ng n):nB n=some (some (ja (n,1))):=by
 unfold nB
 rw [NW h]
 simp only [Option.bind_eq_bind,Option.bind_some,ja,Qu]
theorem Ji {n:Int}(h:ng n):Fr (n,1):=by
 obtain ⟨o,R⟩:=lM.1 h
 have aV:=YF
 exact ⟨by simp,by simp,by simp only;omega,by simp only;omega⟩
theorem C1 {p:Int×Int}{d:Int}(bg:0≤d)(o:(L p.1.natAbs).length≤900000)(R:(L d).length≤900000):pF (some (ja p)) (L d)=some (gF (p.1*d)):=by
 have ax:mE (ja p).lD.cK (L d)=some (L ((p.1.natAbs:Int)*d)):=by
  show mE (L p.1.natAbs) (L d)=_
  rw [xh (jG _) (jG _) (by omega) (by omega),fe (by omega),fe (by omega)]
 have EJ:0≤(p.1.natAbs:Int)*d:=Int.mul_nonneg (by omega) (by omega)
 have bZ:kd (ja p).lD.c6 (L ((p.1.natAbs:Int)*d))=some (gF (p.1*d)):=by
  show kd (decide (p.1<0)) _=_
  rw [pa EJ,YE]
 unfold pF
 rw [Option.bind_eq_bind,Option.bind_some,ax,Option.bind_eq_bind,Option.bind_some,bZ]
 rfl
theorem Jj {a d:Int}(bg:0≤d):((a*d).natAbs:Int)=(a.natAbs:Int)*d:=by
 rw [Int.natAbs_mul,Int.natCast_mul]
 congr 1
 omega
theorem H2 {p q:Int×Int}{i j k l:Nat}(af:0<p.2)(bb:0<q.2)(o:(p.1.natAbs:Int)<B i)(R:p.2<B j)(ab:(q.1.natAbs:Int)<B k)(aA:q.2<B l)(ah:i≤1000)(aB:j≤1000)(aJ:k≤1000)(aO:l≤1000):q7 (some (ja p)) (some (ja q))=some (ku (p.1*q.2) (q.1*p.2)):=by
 have mu:=(hx (by omega)).2 o
 have o2:=(hx (by omega)).2 R
 have EH:=(hx (by omega)).2 ab
 have jc:=(hx (by omega)).2 aA
 have bU:=Ds (x:=p.1.natAbs) (y:=q.2) (by omega) (by omega) o aA
 have bx:=Ds (x:=q.1.natAbs) (y:=p.2) (by omega) (by omega) ab R
 unfold q7
 rw [Option.bind_eq_bind,Option.bind_some]
 show (pF (some (ja p)) (L q.2)).bind _=_
 rw [C1 (by omega) (by omega) (by omega),Option.bind_some,Option.bind_eq_bind,Option.bind_some]
 show (pF (some (ja q)) (L p.2)).bind _=_
 rw [C1 (by omega) (by omega) (by omega),Option.bind_some,Ms (by rw [Jj (by omega)];omega) (by rw [Jj (by omega)];omega)]
 rfl
theorem Wr (n:Int):zd n=some (decide (0≤n∧n≤1000)):=by
 unfold zd
 by_cases h:0≤n<;>simp [h]
theorem Oo:maxLen=9223372036854775807:=by decide
def pM (fH:List bA)(m:b4):Bool :=
 decide (0≤m.gr∧m.gr<fH.length∧0≤m.gu∧m.gu<fH.length∧1≤m.mJ∧m.mJ≤3) &&
 match fH[m.gr.toNat]?,fH[m.gu.toNat]? with
 | some a,some b=> !(a.l0 == b.l0 && a.l1 == b.l1) && !(a.nE && b.nE)
 | _,_=>false
theorem VX (s:cz)(m:b4):yI s m=some (pM s.cR m):=by
 unfold yI pM
 simp only [gY]
 by_cases o:m.gr<0
 ·simp [o];omega
 by_cases R:(s.cR.length:Int)≤m.gr
 ·simp [o,R];omega
 by_cases ab:m.gu<0
 ·simp [o,R,ab];omega
 by_cases aA:(s.cR.length:Int)≤m.gu
 ·simp [o,R,ab,aA];omega
 by_cases aF:m.mJ<1
 ·simp [o,R,ab,aA,aF];omega
 by_cases br:3<m.mJ
 ·simp [o,R,ab,aA,aF,br];omega
 obtain ⟨x,aa⟩ : ∃x,s.cR[m.gr.toNat]? = some x:=⟨_,List.getElem?_eq_getElem (by omega)⟩
 obtain ⟨y,aP⟩ : ∃y,s.cR[m.gu.toNat]? = some y:=⟨_,List.getElem?_eq_getElem (by omega)⟩
 have bF:0≤m.gr∧m.gr<s.cR.length:=by omega
 have cI:0≤m.gu∧m.gu<s.cR.length:=by omega
 have mv:0≤m.gr∧m.gr<s.cR.length∧0≤m.gu∧m.gu<s.cR.length∧1≤m.mJ∧m.mJ≤3:=by omega
 rw [decide_eq_false o,decide_eq_false R,decide_eq_false ab,decide_eq_false aA,decide_eq_false aF,decide_eq_false br,decide_eq_true mv,if_pos bF,aa]
 simp only [Bool.false_eq_true,if_false,Option.bind_eq_bind,Option.bind_some,Bool.true_and]
 rw [if_pos cI,aP]
 simp only [Option.bind_some]
 by_cases ax:x.l0=y.l0<;>by_cases aC:x.l1=y.l1<;>by_cases Ev:x.nE=true<;>by_cases KU:y.nE=true<;>simp [ax,aC,Ev,KU]
def mr (s:cz):Prop:=(∀(n:Nat) j,s.cR[n]? = some j→ -50≤j.l0∧j.l0≤50∧ -50≤j.l1∧j.l1≤50)∧(∀(n:Nat) m,s.bB[n]? = some m→pM s.cR m=true)∧s.cR.length≤6∧s.bB.length≤8
theorem YG (s:cz)(h:mr s)(k:Int)(h0:0≤k)(o:k<s.bB.length):
 ∃x y,sD s k=some (x,y)∧(-100≤x∧x≤100)∧(-100≤y∧y≤100):=by
 obtain ⟨f1,f2,f3,f4⟩:=h
 obtain ⟨m,hm⟩ : ∃x,s.bB[k.toNat]? = some x:=⟨_,List.getElem?_eq_getElem (by omega)⟩
 have K0:=f2 _ m hm
 unfold pM at K0
 simp only [Bool.and_eq_true,decide_eq_true_eq] at K0
 obtain ⟨⟨g1,g2,g3,g4,-⟩,-⟩:=K0
 obtain ⟨a,bE⟩ : ∃x,s.cR[m.gr.toNat]? = some x:=⟨_,List.getElem?_eq_getElem (by omega)⟩
 obtain ⟨b,aV⟩ : ∃x,s.cR[m.gu.toNat]? = some x:=⟨_,List.getElem?_eq_getElem (by omega)⟩
 have aft:=f1 _ a bE
 have afu:=f1 _ b aV
 have ax:U (b.l0-a.l0)=b.l0-a.l0:=cO (by omega) (by omega)
 have aC:U (b.l1-a.l1)=b.l1-a.l1:=cO (by omega) (by omega)
 have b9:0≤k∧k<s.bB.length:=⟨h0,o⟩
 have bF:0≤m.gr∧m.gr<s.cR.length:=⟨g1,g2⟩
 have cI:0≤m.gu∧m.gu<s.cR.length:=⟨g3,g4⟩
 refine ⟨b.l0-a.l0,b.l1-a.l1,?_,by omega,by omega⟩
 unfold sD
 simp only [if_pos b9,hm,if_pos bF,if_pos cI,bE,aV,Option.bind_eq_bind,Option.bind_some,ax,aC]
theorem Qv {j k:Int}(h0:0≤j)(h:j≤k):j*j≤k*k:=Int.mul_self_le_mul_self h0 h
theorem OS {x:Int}(aa:-100≤x∧x≤100):x*x≤10000∧0≤x*x:=by
 rcases Int.le_total 0 x with h|h
 ·have:=Qv h aa.2;exact ⟨by omega,Int.mul_nonneg h h⟩
 ·have:=Qv (j:= -x) (k:=100) (by omega) (by omega)
  rw [Int.neg_mul_neg] at this
  exact ⟨by omega,Int.mul_nonneg_of_nonpos_of_nonpos h h⟩
def na (p:Int×Int):Option bq:=some (ja p)
def tq (l:List Int)(n:Nat)(x:Int):Prop:=0≤x∧x<1000000000∧(∀z,l[n]? = some z→x=z)∧(l[n]? = none→x=0)
theorem DO {l:List Int}(h:cA l){n:Nat}(a5:n<l.length):tq l n l[n]:=by
 have aa:=List.getElem?_eq_getElem a5
 have h0:=h.get aa
 exact ⟨h0.1,h0.2,fun z cn=>by rw [aa] at cn;exact Option.some.inj cn,fun h=>by rw [aa] at h;simp at h⟩
theorem P1 {l:List Int}{n:Nat}(a5:¬n<l.length):tq l n 0:=by
 have aa:l[n]? = none:=by simp;omega
 exact ⟨by omega,by omega,fun z cn=>by rw [aa] at cn;simp at cn,fun _=>rfl⟩
theorem tq.take {l:List Int}{n:Nat}{x:Int}(h:tq l n x):V (l.take (n+1))=V (l.take n)+B n*x:=OQ h.2.2.1 h.2.2.2
theorem W5 {a b row:List Int}{carry:Int}{n:Nat}(bE:cA a)(aV:cA b)(aN:carry=0∨carry=1)(si:a.length≤1000000)(a5:n<a.length)(al:n<row.length):
 ∃x y,tq a n x∧tq b n y∧wz a b a.length carry n row=some (.inl ((carry+x+y) / 1000000000,((n+1:Nat):Int),row.set n ((carry+x+y) % 1000000000))):=by
 have mf:0≤carry∧carry≤1:=by omega
 have hA:=DO bE a5
 have aa:=List.getElem?_eq_getElem a5
 have hG:=hA.1
 have iw:=hA.2.1
 unfold wz
 simp only [gk]
 rw [if_pos (by simp;omega),if_pos (by omega),Int.toNat_natCast,aa]
 simp only [Option.bind_eq_bind,Option.bind_some]
 by_cases R:n<b.length
 ·have gO:=DO aV R
  have aP:=List.getElem?_eq_getElem R
  have gQ:=gO.1
  have h8:=gO.2.1
  refine ⟨a[n],b[n],hA,gO,?_⟩
  rw [if_pos (by simp;omega),if_pos (by omega),aP]
  simp only [Option.bind_some]
  rw [if_pos (by omega),if_pos (by omega),cO (x:=a[n]+carry) (by omega) (by omega),cO (x:=a[n]+carry+b[n]) (by omega) (by omega),sB (by omega),oI (by omega),cO (by omega) (by omega),pj (n:=n) (by omega),Nat.zero_add,Int.add_comm a[n] carry]
 ·refine ⟨a[n],0,hA,P1 R,?_⟩
  rw [if_neg (by simp;omega),if_pos (by omega),if_pos (by omega),cO (x:=a[n]+carry) (by omega) (by omega),sB (by omega),oI (by omega),cO (by omega) (by omega),pj (n:=n) (by omega),Nat.zero_add,Int.add_zero,Int.add_comm a[n] carry]
theorem W6 {a b:List Int}(bE:cA a)(aV:cA b)(si:a.length≤900000)(qM:b.length≤a.length):
 ∃r,y8 a b a.length 0 0 (List.replicate (a.length+1) 0)=some r∧(r.1=0∨r.1=1)∧cA r.2∧r.2.length=a.length+1∧V r.2+r.1*B a.length=V a+V b∧r.2[a.length]? = some 0:=by
 refine jO (et:=fun w:Int×Int×List Int=> ∃n:Nat,w.2.1=n∧n≤a.length∧(w.1=0∨w.1=1)∧cA w.2.2∧w.2.2.length=a.length+1∧V w.2.2+w.1*B n=V (a.take n)+V (b.take n)∧ ∀j,n≤j→j<a.length+1→w.2.2[j]? = some 0) (m:=fun w=>a.length-w.2.1.toNat) _ ?_ _ ⟨0,rfl,by omega,.inl rfl,cA.Km _,by simp,by simp [V,Jt],fun j _ h=>by simp [List.getElem?_replicate];omega⟩
 rintro ⟨carry,ii,row⟩ ⟨n,ax,aC,bZ,c8,ep,fb,e2⟩
 simp only at ax bZ c8 ep fb e2 ⊢
 subst ax
 by_cases a5:n=a.length
 ·subst a5
  refine .inr ⟨(carry,row),by simp [wz],bZ,c8,ep,?_,e2 _ (Nat.le_refl _) (by omega)⟩
  rw [List.take_length,List.take_of_length_le qM] at fb
  exact fb
 ·obtain ⟨x,y,aa,aP,p2⟩:=W5 (row:=row) (n:=n) bE aV bZ (by omega) (by omega) (by omega)
  have x0:=aa.1
  have fB:=aa.2.1
  have ac3:=aP.1
  have eK:=aP.2.1
  refine .inl ⟨_,p2,⟨n+1,rfl,by omega,by simp only;omega,c8.set (by omega),by simpa using ep,?_,fun j o R=> ?_⟩,by simp only;omega⟩
  ·simp only
   rw [rj (e2 n (Nat.le_refl _) (by omega)),l5,aa.take,aP.take]
   have:=Int.mul_ediv_add_emod (carry+x+y) 1000000000
   generalize (carry+x+y) / 1000000000=u at *
   generalize (carry+x+y) % 1000000000=t at *
   have cr:t=carry+x+y-1000000000*u:=by omega
   rw [cr]
   grind
  ·simp only
   rw [List.getElem?_set_ne (by omega)]
   exact e2 j (by omega) R
theorem Oq {a b:List Int}(bE:cA a)(aV:cA b)(si:a.length≤900000)(qM:b.length≤a.length):
 (if 0≤(U ((len_ J a)+(1:Int)))∧(8:Int)*(U ((len_ J a)+(1:Int)))≤281474976710656∧(U ((len_ J a)+(1:Int)))<9223372036854775808 then
   (y8 a b (len_ J a) 0 0 (List.replicate (U ((len_ J a)+(1:Int))).toNat 0:List Int)).bind fun bk =>
   if 0≤(len_ J a)∧(len_ J a)<(bk.2.length:Nat) then
   if (0+(len_ J a).toNat)<bk.2.length then
   (pJ (bk.2.set (0+(len_ J a).toNat) bk.1)).bind fun bK=>some bK
   else none
   else none
   else none)=some (L (V a+V b)):=by
 obtain ⟨r,al,o,R,ab,aA,aF⟩:=W6 bE aV si qM
 rw [gk,pj (by omega),if_pos (by omega),Int.toNat_natCast,al,Option.bind_some,if_pos (by omega),Int.toNat_natCast,Nat.zero_add,if_pos (by omega)]
 have Az:cA (r.2.set a.length r.1):=R.set (by omega)
 rw [xp Az (by simp;omega),rj aF,Option.bind_some]
 congr 2
 rw [← aA]
 grind
theorem YH {a b:List Int}(bE:cA a)(aV:cA b)(si:a.length≤900000)(aca:b.length≤900000):xa a b=some (L (V a+V b)):=by
 unfold xa
 by_cases h:a.length<b.length
 ·rw [if_pos (by rw [gk,gk];simpa using h)]
  have:=Oq aV bE aca (by omega)
  rw [Int.add_comm (V a)]
  exact this
 ·rw [if_neg (by rw [gk,gk];simpa using h)]
  exact Oq bE aV si (by omega)
theorem Ws {a b row:List Int}{less:Int}{n:Nat}(bE:cA a)(aV:cA b)(aO:less=0∨less=1)(si:a.length≤1000000)(a5:n<a.length)(al:n<row.length):
 ∃x y,tq a n x∧tq b n y∧wu b a a.length less n row=some (.inl (if x-less-y<0 then (1,((n+1:Nat):Int),row.set n (x-less-y+1000000000)) else (0,((n+1:Nat):Int),row.set n (x-less-y)))):=by
 have mf:0≤less∧less≤1:=by omega
 have hA:=DO bE a5
 have aa:=List.getElem?_eq_getElem a5
 have hG:=hA.1
 have iw:=hA.2.1
 unfold wu
 simp only [gk]
 rw [if_pos (by simp;omega),if_pos (by omega),Int.toNat_natCast,aa]
 simp only [Option.bind_eq_bind,Option.bind_some]
 by_cases R:n<b.length
 ·have gO:=DO aV R
  have aP:=List.getElem?_eq_getElem R
  have gQ:=gO.1
  have h8:=gO.2.1
  refine ⟨a[n],b[n],hA,gO,?_⟩
  rw [if_pos (by simp;omega),if_pos (by omega),aP]
  simp only [Option.bind_some]
  rw [cO (x:=a[n]-less) (by omega) (by omega),cO (x:=a[n]-less-b[n]) (by omega) (by omega),pj (n:=n) (by omega),cO (x:=a[n]-less-b[n]+1000000000) (by omega) (by omega),Nat.zero_add]
  by_cases h:a[n]-less-b[n]<0
  ·rw [if_pos (by simpa using h),if_pos h,if_pos (by omega),if_pos (by omega)]
  ·rw [if_neg (by simpa using h),if_neg h,if_pos (by omega),if_pos (by omega)]
 ·refine ⟨a[n],0,hA,P1 R,?_⟩
  rw [if_neg (by simp;omega),cO (x:=a[n]-less) (by omega) (by omega),pj (n:=n) (by omega),cO (x:=a[n]-less+1000000000) (by omega) (by omega),Nat.zero_add,Int.sub_zero]
  by_cases h:a[n]-less<0
  ·rw [if_pos (by simpa using h),if_pos h,if_pos (by omega),if_pos (by omega)]
  ·rw [if_neg (by simpa using h),if_neg h,if_pos (by omega),if_pos (by omega)]
theorem OT {a b:List Int}(bE:cA a)(aV:cA b)(hlen:b.length≤a.length)(qM:V b≤V a)(si:a.length≤900000):sJ a b=some (L (V a-V b)):=by
 have : ∃r,HO b a a.length 0 0 (List.replicate a.length 0)=some r∧cA r∧r.length=a.length∧V r=V a-V b:=by
  refine jO (et:=fun w:Int×Int×List Int=> ∃n:Nat,w.2.1=n∧n≤a.length∧(w.1=0∨w.1=1)∧cA w.2.2∧w.2.2.length=a.length∧V w.2.2-w.1*B n=V (a.take n)-V (b.take n)∧ ∀j,n≤j→j<a.length→w.2.2[j]? = some 0) (m:=fun w=>a.length-w.2.1.toNat) _ ?_ _ ⟨0,rfl,by omega,.inl rfl,cA.Km _,by simp,by simp [V,Jt],fun j _ h=>by simp [List.getElem?_replicate];omega⟩
  rintro ⟨less,ii,row⟩ ⟨n,ax,aC,bZ,c8,ep,fb,e2⟩
  simp only at ax bZ c8 ep fb e2 ⊢
  subst ax
  by_cases a5:n=a.length
  ·subst a5
   refine .inr ⟨row,by simp [wu],c8,ep,?_⟩
   rw [List.take_length,List.take_of_length_le hlen] at fb
   have R:=l9 c8
   rw [ep] at R
   rcases bZ with rfl|rfl<;>omega
  ·obtain ⟨x,y,aa,aP,p2⟩:=Ws (row:=row) (n:=n) bE aV bZ (by omega) (by omega) (by omega)
   have x0:=aa.1
   have fB:=aa.2.1
   have ac3:=aP.1
   have eK:=aP.2.1
   rw [p2]
   refine .inl ⟨_,rfl,?_⟩
   by_cases h:x-less-y<0
   ·rw [if_pos h]
    refine ⟨⟨n+1,rfl,by omega,.inr rfl,c8.set (by omega),by simpa using ep,?_,fun j o R=> ?_⟩,by simp only;omega⟩
    ·simp only
     rw [rj (e2 n (Nat.le_refl _) (by omega)),l5,aa.take,aP.take]
     grind
    ·simp only
     rw [List.getElem?_set_ne (by omega)]
     exact e2 j (by omega) R
   ·rw [if_neg h]
    refine ⟨⟨n+1,rfl,by omega,.inl rfl,c8.set (by omega),by simpa using ep,?_,fun j o R=> ?_⟩,by simp only;omega⟩
    ·simp only
     rw [rj (e2 n (Nat.le_refl _) (by omega)),aa.take,aP.take]
     grind
    ·simp only
     rw [List.getElem?_set_ne (by omega)]
     exact e2 j (by omega) R
 obtain ⟨r,al,o,R,ab⟩:=this
 unfold sJ
 simp only [gk]
 rw [if_pos (by omega),Int.toNat_natCast,al]
 simp only [Option.bind_eq_bind,Option.bind_some]
 rw [xp o (by omega),ab]
 rfl
theorem Zm {a b:Int}(h:decide (a<0)=decide (b<0)):eO (decide (a<0)) ((a.natAbs:Int)+(b.natAbs:Int))=a+b:=by
 have ch:a<0↔b<0:=by simpa using h
 unfold eO
 by_cases o:a<0
 ·have:=ch.1 o
  simp only [o,decide_true,if_true]
  omega
 ·have : ¬b<0:=fun aV=>o (ch.2 aV)
  simp only [o,decide_false,Bool.false_eq_true,if_false]
  omega
theorem Pu {a b:Int}(h:¬decide (a<0)=decide (b<0)):eO (decide (a<0)) ((a.natAbs:Int)-(b.natAbs:Int))=a+b∧eO (decide (b<0)) ((b.natAbs:Int)-(a.natAbs:Int))=a+b:=by
 have ch : ¬(a<0↔b<0):=by simpa using h
 unfold eO
 by_cases o:a<0
 ·have R : ¬b<0:=fun aV=>ch ⟨fun _=>aV,fun _=>o⟩
  simp only [o,R,decide_true,if_true,decide_false,Bool.false_eq_true,if_false]
  omega
 ·have R:b<0:=by
   apply Classical.byContradiction
   intro aV
   exact ch ⟨fun h=>absurd h o,fun h=>absurd h aV⟩
  simp only [o,R,decide_true,if_true,decide_false,Bool.false_eq_true,if_false]
  omega
theorem OU {x y:Int}(aa:0≤x)(Kn:x≤y):(L x).length≤(L y).length:=by
 apply (hx aa).2
 have:=l9 (jG y)
 rw [fe (by omega)] at this
 omega
theorem OV {a b:Int}(bE:(a.natAbs:Int)<B 50)(aV:(b.natAbs:Int)<B 50):sG (gF a) (gF b)=some (gF (a+b)):=by
 have BB:=(hx (k:=50) (n:=a.natAbs) (by omega)).2 bE
 have EK:=(hx (k:=50) (n:=b.natAbs) (by omega)).2 aV
 have bX:sG (gF a) (gF b)=((o8 (L a.natAbs) (L b.natAbs)).bind fun ak=>if (decide (a<0) == decide (b<0))=true then (xa (L a.natAbs) (L b.natAbs)).bind fun bm=>(kd (decide (a<0)) bm).bind fun aX=>some aX else if (decide ((0:Int)≤ak))=true then (sJ (L a.natAbs) (L b.natAbs)).bind fun bh=>(kd (decide (a<0)) bh).bind fun bK=>some bK else (sJ (L b.natAbs) (L a.natAbs)).bind fun bh=>(kd (decide (b<0)) bh).bind fun bK=>some bK):=rfl
 rw [bX,CS (jh _) (jh _) (by omega),fe (by omega),fe (by omega),Option.bind_some]
 by_cases h:decide (a<0)=decide (b<0)
 ·rw [if_pos (by simpa using h),YH (jG _) (jG _) (by omega) (by omega),fe (by omega),fe (by omega),Option.bind_some,pa (by omega),Zm h]
  rfl
 ·rw [if_neg (by simpa using h)]
  by_cases aN:(b.natAbs:Int)≤a.natAbs
  ·have K1:0≤ku (a.natAbs:Int) b.natAbs:=by
    apply Int.not_lt.mp
    intro o
    have:=uj.1 o
    omega
   rw [if_pos (by simpa using K1),OT (jG _) (jG _) (OU (by omega) aN) (by rw [fe (by omega),fe (by omega)];exact aN) (by omega),fe (by omega),fe (by omega),Option.bind_some,pa (by omega),(Pu h).1]
   rfl
  ·have K1 : ¬0≤ku (a.natAbs:Int) b.natAbs:=by
    have:=uj.2 (show (a.natAbs:Int)<b.natAbs by omega)
    omega
   rw [if_neg (by simpa using K1),OT (jG _) (jG _) (OU (by omega) (by omega)) (by rw [fe (by omega),fe (by omega)];omega) (by omega),fe (by omega),fe (by omega),Option.bind_some,pa (by omega),(Pu h).2]
   rfl
theorem P2 {b:Int}:eO (!(decide (b<0))) (b.natAbs:Int) = -b:=by
 unfold eO
 by_cases h:b<0
 ·simp only [h,decide_true,Bool.not_true,Bool.false_eq_true,if_false]
  omega
 ·simp only [h,decide_false,Bool.not_false,if_true]
  omega
theorem W7 {a b:Int}(bE:(a.natAbs:Int)<B 50)(aV:(b.natAbs:Int)<B 50):tC (gF a) (gF b)=some (gF (a-b)):=by
 have bX:tC (gF a) (gF b)=(((kd (!(decide (b<0))) (L b.natAbs)).bind fun r=>some r).bind fun ak=>(sG (gF a) ak).bind fun bk=>some bk):=rfl
 rw [bX,pa (by omega),P2,Option.bind_some,Option.bind_some,OV bE (by omega),Option.bind_some,Int.sub_eq_add_neg]
theorem Fr.neg {q:Int×Int}(h:Fr q):Fr (-q.1,q.2):=⟨h.pos,by simp only;rw [Int.neg_gcd];exact h.RL,by simp only;have:=h.num;omega,h.den⟩
theorem OW {p q:Int×Int}(af:Fr p)(bb:Fr q):((p.1*q.2).natAbs:Int)<B 48∧(L (p.1.natAbs*q.2:Int)).length≤48∧0≤(p.1.natAbs*q.2:Int):=by
 have br:=bb.pos
 have bU:=Ds (x:=p.1.natAbs) (y:=q.2) (by omega) (by omega) af.num bb.den
 have EJ:0≤(p.1.natAbs:Int)*q.2:=Int.mul_nonneg (by omega) (by omega)
 rw [Jj (by omega)]
 exact ⟨(hx EJ).1 bU,bU,EJ⟩
theorem P3:B 48+B 48≤B 50:=by
 have o:B 49≤B 50:=sR (by omega)
 have R:=ol 48
 rw [l5] at o
 omega
def lT (n:Int):Int:=if n=0 then 0 else if n<0 then -1 else 1
theorem W8 {p:Int×Int}:rH (na p)=some (lT p.1):=by
 have bX:rH (na p)=((if ((len_ J (L p.1.natAbs)) == (0:Int))=true then some 0 else if (decide (p.1<0))=true then some (-1) else some 1:Option Int)).bind (fun r=>some r):=rfl
 rw [bX,gk]
 unfold lT
 by_cases h:p.1=0
 ·rw [if_pos (by rw [h];simp [n9]),if_pos h]
  rfl
 ·rw [if_neg (by simp only [beq_iff_eq];intro R;have:=(D2 (n:=p.1.natAbs) (by omega)).1 R;omega),if_neg h]
  by_cases ab:p.1<0
  ·rw [if_pos (by simpa using ab),if_pos ab]
   rfl
  ·rw [if_neg (by simpa using ab),if_neg ab]
   rfl
def sS (n:Int):Bool:=decide (-100≤n∧n≤100)
def DP (EU:Nat)(l:List Int):Bool:=decide (l.length=2*EU) && l.all sS
theorem Wt (n:Int):y7 n=some (sS n):=by
 unfold y7 sS
 by_cases h : -100≤n<;>simp [h]
theorem VY (s:cz)(Lr:s.cR.length≤6)(l:List Int)(aO:l.length≤maxLen):wN s l=some (DP s.cR.length l):=by
 have hm:=Oo
 have hw:U (2*((s.cR.length:Nat):Int))=2*((s.cR.length:Nat):Int):=cO (by omega) (by omega)
 unfold wN BF BK DP
 simp only [gY,hw,Option.bind_eq_bind]
 obtain ⟨r,o,R⟩:=Oi (f:=fun w=>vw l (l.length:Nat) w) l (fun n=> !sS n) (fun n x aa=>by
  have du:=fI aa
  unfold vw Ci
  have c:(n:Int)<(l.length:Int):=by omega
  have dI:0≤(n:Int)∧(n:Int)<(l.length:Int):=by omega
  simp only [decide_eq_true c,if_true,if_pos dI,Int.toNat_natCast,aa,Option.bind_eq_bind,Option.bind_some,Wt]
  rw [mZ (by omega)]
  cases sS x<;>rfl) (by simp [vw])
 have x5:Fl l (l.length:Nat) 0=some r:=o
 rw [x5]
 have aaO:(l.any fun n=> !sS n) = !l.all sS:=by
  rw [List.not_all_eq_any_not]
 rw [aaO] at R
 by_cases e:l.length=2*s.cR.length
 ·have c:((l.length:Int) == 2*(s.cR.length:Int))=true:=by simp;omega
  rw [c]
  rcases R with ⟨k,rfl,aJ,bE⟩|⟨rfl,bE⟩
  ·simp only [Bool.not_eq_true'] at bE
   simp [e,bE,aJ]
  ·simp only [Bool.not_eq_false'] at bE
   simp [e,bE]
 ·have c:((l.length:Int) == 2*(s.cR.length:Int))=false:=by simp;omega
  rw [c]
  simp [e]
theorem lx {i:Int}{a:Nat}(h0:0≤i)(o:i≤100)(bE:a≤1):U (U (2*i)+(a:Int))=(((2*i+a).toNat:Nat):Int):=by
 rw [cO (x:=2*i) (by omega) (by omega),cO (by omega) (by omega)]
 omega
def K2 (P:List (List Int)):b0→Prop
 | none=>True
 | some (k,c)=> ∃x,P[k]? = some x∧x.length=c∧c≤1048576
theorem K2.set {P:List (List Int)}{k:Nat}{x y:List Int}(aa:P[k]? = some x)(aP:y.length=x.length){h:b0}(fv:K2 P h):K2 (P.set k y) h:=by
 cases h with
 | none=>trivial
 | some p =>
  obtain ⟨j,c⟩:=p
  obtain ⟨z,o,R,ab⟩:=fv
  by_cases aB:k=j
  ·subst aB
   rw [aa] at o
   obtain rfl:=Option.some.inj o
   exact ⟨y,by rw [List.getElem?_set,if_pos rfl,if_pos (fI aa)],by omega,ab⟩
  ·exact ⟨z,by rw [List.getElem?_set,if_neg aB];exact o,R,ab⟩
def xT (y:Int×Int)(r:Int):Prop:=0≤r∧r≤1001∧(∀j,0≤j→j<r→j*j*y.2<y.1)∧(r≤1000→y.1≤r*r*y.2)
theorem P4 {n:Int}(h0:0≤n)(o:n≤1000):0≤n*n∧n*n≤1000000:=by
 have:=Int.mul_le_mul o o h0 (by omega)
 exact ⟨Int.mul_nonneg h0 h0,by omega⟩
theorem W9 {y:Int×Int}(aP:Fr y): ∃r,xT y r∧wW (na y)=some (if r≤1000 then (r,true) else (0,false)):=by
 obtain ⟨r,ak,bm⟩:=jO (f:=fun w:Int=>wq (na y) w) (et:=fun n=>0≤n∧n≤1001∧ ∀j,0≤j→j<n→j*j*y.2<y.1) (m:=fun n=>(1001-n).toNat)
  (fun r=>r.elim (fun _=>xT y 1001) (fun n=>n≤1000∧xT y n)) (by
    intro n a5
    obtain ⟨o,R,ab⟩:=a5
    by_cases c:n<1001
    ·obtain ⟨s1,s2⟩:=P4 o (by omega)
     have kk:ng (n*n):=lM.2 (by omega)
     have bX:Fr (n*n,1):=Ji kk
     have aV:wq (na y) n=some (if 0≤ku (n*n*y.2) (y.1*1) then .inr (.inr n) else .inl (n+1)):=by
      unfold wq
      rw [if_pos (by simpa using c),cO (x:=n*n) (by omega) (by omega),Dc kk]
      simp only [Option.bind_eq_bind,Option.bind_some,na]
      rw [H2 bX.pos aP.pos bX.num bX.den aP.num aP.den (by omega) (by omega) (by omega) (by omega),cO (x:=n+1) (by omega) (by omega)]
      simp only [Option.bind_some]
      by_cases d:0≤ku (n*n*y.2) (y.1*1)
      ·rw [if_pos (by simpa using d),if_pos d]
      ·rw [if_neg (by simpa using d),if_neg d]
     have du:=uj (a:=n*n*y.2) (b:=y.1*1)
     rw [aV]
     by_cases d:0≤ku (n*n*y.2) (y.1*1)
     ·exact .inr ⟨.inr n,by rw [if_pos d],by omega,o,R,ab,fun _=>by omega⟩
     ·refine .inl ⟨n+1,by rw [if_neg d],⟨by omega,by omega,fun j EL yv=> ?_⟩,by omega⟩
      rcases Int.lt_or_le j n with e|e
      ·exact ab j EL e
      ·have:j=n:=by omega
       subst this
       omega
    ·have:n=1001:=by omega
     subst this
     exact .inr ⟨.inl (),rfl,o,R,ab,fun h=>by omega⟩) 0 ⟨by omega,by omega,fun j EL yv=>by omega⟩
 unfold wW HJ
 rw [ak]
 cases r with
 | inl _=>exact ⟨1001,bm,rfl⟩
 | inr n=>exact ⟨n,bm.2,by rw [if_pos bm.1];rfl⟩
def kt:List bA→Nat→List Nat
 | [],_=>[]
 | x::l,n=>if x.nE then kt l (n+1) else n::kt l (n+1)
theorem IP : ∀(l:List bA) (n i:Nat),i∈kt l n→n≤i∧i<n+l.length
 | [],n,i,h=>by simp [kt] at h
 | x::l,n,i,h=>by
  rw [kt] at h
  simp only [List.length_cons]
  split at h
  ·have:=IP l (n+1) i h;omega
  ·rcases List.mem_cons.1 h with h|h
   ·omega
   ·have:=IP l (n+1) i h;omega
theorem OX : ∀(l:List bA) (n:Nat),(kt l n).length≤l.length
 | [],n=>by simp [kt]
 | x::l,n=>by
  rw [kt]
  have:=OX l (n+1)
  split<;>simp only [List.length_cons]<;>omega
theorem Wu {l:List bA}{n:Nat}{x:bA}(h:l[n]? = some x)(m:Nat):kt (l.drop n) m=if x.nE then kt (l.drop (n+1)) (m+1) else m::kt (l.drop (n+1)) (m+1):=by
 rw [ON h,kt]
theorem Xa {f:Int×List Int→Option ((Int×List Int)⊕List Int)}(fH:List bA)(Lr:fH.length≤1000)
 (h : ∀(n:Nat) acc x,fH[n]? = some x→f ((n:Int),acc)=if x.nE=true then some (.inl (U ((n:Int)+1),acc)) else if (acc++[(n:Int)]).length*8≤140737488355328 then some (.inl (U ((n:Int)+1),acc++[(n:Int)])) else none)
 (he : ∀acc,f ((fH.length:Int),acc)=some (.inr acc)):iter f ((0:Int),[])=some ((kt fH 0).map (fun n:Nat=>(n:Int))):=by
 obtain ⟨s,o,R⟩:=iG (fun (n:Nat) (acc:List Int)=>((n:Int),acc)) fH.length (fun n acc=>acc++(kt (fH.drop n) n).map (fun n:Nat=>(n:Int))=(kt fH 0).map (fun n:Nat=>(n:Int))∧acc.length≤n) (fun acc=>acc) (f:=f) (fun n a5 acc cV=>by
  obtain ⟨cV,aO⟩:=cV
  have aa:=List.getElem?_eq_getElem a5
  rw [Wu aa] at cV
  rw [h n acc _ aa,pj (by omega)]
  by_cases c:fH[n].nE=true
  ·rw [if_pos c] at cV ⊢
   exact ⟨_,rfl,cV,by omega⟩
  ·rw [if_neg c] at cV ⊢
   rw [if_pos (by simp only [List.length_append,List.length_cons,List.length_nil];omega)]
   refine ⟨_,rfl,?_,by simp only [List.length_append,List.length_cons,List.length_nil];omega⟩
   rw [List.append_assoc]
   exact cV) (fun acc _=>he acc) [] ⟨by rw [List.drop_zero];rfl,by simp⟩
 obtain ⟨R,-⟩:=R
 rw [List.drop_length] at R
 simp only [kt,List.map_nil,List.append_nil] at R
 subst R
 exact o
theorem M3 (s:cz)(Lr:s.cR.length≤1000):vO s=some ((kt s.cR 0).map (fun n:Nat=>(n:Int))):=by
 unfold vO Fq
 rw [gY,Xa s.cR Lr (fun n acc x aa=>by
  have a5:=fI aa
  unfold yE
  exact dM (by omega) (bO (by omega) (aI (gt rfl aa) rfl))) (fun acc=>by
  unfold yE
  exact er (by omega) rfl)]
 rfl
theorem aaP:Fr ((0:Int),1):=Ji (lM.2 (by omega))
def hlen:b0→Nat
 | none=>0
 | some (_,c)=>c
def f7 (x:Rat):Int×Int:=(x.num,(x.den:Int))
def gy (x:Rat):Prop:=(x.num.natAbs:Int)<B 24∧(x.den:Int)<B 24
def iR (x:Rat):dX:=mk (f7 x)
instance adY (x:Rat):Decidable (gy x):=by unfold gy;infer_instance
theorem gy.c1 {x:Rat}(h:gy x):Fr (f7 x):=⟨by have:=x.den_pos;simp only [f7];omega,by simp only [f7];rw [Int.gcd,Int.natAbs_natCast];exact x.reduced,h.1,h.2⟩
theorem Dt (x:Rat):((x.den:Int):Rat)*x=((x.num:Int):Rat):=by
 have h:x=(x.num:Rat) / ((x.den:Int):Rat):=by rw [← Rat.divInt_eq_div,Rat.num_divInt_den]
 have bg:((x.den:Int):Rat)≠0:=fun c=>by
  have:(x.den:Int)=0:=Rat.intCast_inj.1 (by rw [c];rfl)
  have:=x.den_pos
  omega
 conv=>lhs;rhs;rw [h]
 grind
theorem gy.neg {x:Rat}(h:gy x):gy (-x):=by
 unfold gy at h ⊢
 rw [Rat.neg_num,Rat.neg_den,Int.natAbs_neg];exact h
def lp (x:Rat):Int:=if x=0 then 0 else if x<0 then -1 else 1
theorem zL {n:Int}(h:ng n):gy (n:Rat):=by
 have:=Ji h
 unfold gy
 rw [Rat.num_intCast,Rat.den_intCast];exact ⟨this.num,this.den⟩
theorem X0 {n d:Int}{x:Rat}(h0:d≠0)(e:(d:Rat)*x=n)(a5:(n.natAbs:Int)<B 24)(bg:(d.natAbs:Int)<B 24):gy x:=by
 have sf:(d:Rat)≠0:=fun c=>h0 (Rat.intCast_inj.1 (by rw [c];rfl))
 have aa:x=Rat.divInt n d:=by rw [Rat.divInt_eq_div,← e];grind
 rw [aa]
 unfold gy
 rw [Rat.num_divInt,Rat.den_divInt,if_neg h0]
 constructor
 ·have o:(d.sign*n / (d.gcd n:Int)).natAbs≤(d.sign*n).natAbs:=Int.natAbs_ediv_le_natAbs _ _
  have R:(d.sign*n).natAbs≤n.natAbs:=by
   rw [Int.natAbs_mul]
   have:d.sign.natAbs≤1:=by rw [Int.natAbs_sign];split<;>omega
   exact Nat.le_trans (Nat.mul_le_mul_right _ this) (by omega)
  omega
 ·have:d.natAbs / d.gcd n≤d.natAbs:=Nat.div_le_self _ _
  omega
theorem zD {x:Rat}:lp x=0↔x=0:=by
 unfold lp
 split
 ·simp_all
 ·split<;>simp_all
theorem sO {x:Rat}:0<lp x↔0<x:=by
 unfold lp
 split
 ·rename_i h;rw [h];simp
 ·split
  ·rename_i o R;constructor
   ·intro h;omega
   ·intro h;grind
  ·rename_i o R;constructor
   ·intro h;grind
   ·intro h;omega
def ef (m:Nat)(t:ck):List Int:=a7 m fun i=>((t.B i:Nat):Int)
theorem OY {x y z w:Rat}(aP:0<y)(hw:0<w):(x / y≤z / w↔x*w≤z*y)∧(x / y=z / w↔x*w=z*y):=by
 have ax:x*w=(x / y)*(y*w):=by grind
 have aC:z*y=(z / w)*(y*w):=by grind
 have af:0<y*w:=Rat.mul_pos aP hw
 constructor
 ·rw [ax,aC]
  constructor
  ·intro h;exact Rat.mul_le_mul_of_nonneg_right h (Rat.le_of_lt af)
  ·intro h
   apply Classical.byContradiction
   intro c
   have:z / w<x / y:=by grind
   have:=Rat.mul_lt_mul_of_pos_right this af
   grind
 ·rw [ax,aC]
  constructor
  ·intro h;rw [h]
  ·intro h
   have cH:y*w≠0:=by grind
   grind
def Pv (m N:Nat)(t:ck)(j:Nat)(r:Int):Prop :=
 (r = -1∧ ∀i,i<m→ ¬0<t.T i j)∨ ∃b:Nat,r=b∧b<m∧0<t.T b j∧(∀i,i<m→0<t.T i j→t.T b N*t.T i j≤t.T i N*t.T b j)∧(∀i,i<m→0<t.T i j→t.T b N*t.T i j=t.T i N*t.T b j→t.B b≤t.B i)
structure oY (p:nD) (m n:Nat) (a:Nat→Nat→Int) (b:Nat→Int):Prop where
 rows:p.kD=m
 gZ:p.jQ=n
 nt:p.gr.length=m*n
 JQ : ∀i,i<m→ ∀j,j<n→p.gr[i*n+j]? = some (a i j)
 Sc:p.gu.length=m
 QT : ∀i,i<m→p.gu[i]? = some (b i)
 hm:m≤20
 a5:n≤40
 BB : ∀i,i<m→ ∀j,j<n→ -100≤a i j∧a i j≤100
 EK : ∀i,i<m→ -100≤b i∧b i≤100
theorem Ac {p:nD}{m n:Nat}{a:Nat→Nat→Int}{b:Nat→Int}(h:oY p m n a b){i:Nat}(ah:i<m)(j:Nat): -100≤nv m n a b i j∧nv m n a b i j≤100:=by
 have aV:=h.EK i ah
 unfold nv lm
 by_cases c:j<n
 ·have bE:=h.BB i ah j c
  rw [if_pos c];split<;>omega
 ·rw [if_neg c]
  split
  ·split<;>omega
  ·split<;>omega
theorem Z6 {p:nD}{m n:Nat}{a:Nat→Nat→Int}{b:Nat→Int}(h:oY p m n a b){i:Nat}(ah:i<m)(j:Nat):dl 100 (dZ m n a b i j) :=
 ⟨nv m n a b i j,rfl,by have:=Ac h ah j;omega⟩
theorem xK {K:Nat}{d x y:Rat}(bg:dl K d)(aP:dl K y)(h0:d≠0)(e:d*x=y)(gJ:(K:Int)<B 24):gy x:=by
 obtain ⟨z,rfl,cn⟩:=bg
 obtain ⟨w,rfl,hw⟩:=aP
 exact X0 (n:=w) (d:=z) (fun c=>h0 (by rw [c];rfl)) e (by omega) (by omega)
@[irreducible] def dR:Nat:=jT 100 20
theorem DQ:jT 100 20=dR:=by unfold dR;rfl
theorem Zn:((21*100*(dR*dR):Nat):Int)<B 24:=by decide +kernel
theorem pQ:0<dR:=by decide +kernel
structure oQ (m N:Nat) (A:Nat→Nat→Rat) (t:ck):Prop where
 ok:fN m m N A t
 ls:t.kF m N
 vn:t.D m A≠0
structure Small (m N:Nat) (A:Nat→Nat→Rat):Prop where
 hm:m≤20
 n3 : ∀c,c<m→ ∀j,j≤N→dl 100 (A c j)
theorem oQ.acb {m N:Nat}{A:Nat→Nat→Rat}(s:Small m N A){t:ck}(h:oQ m N A t):dl dR (t.D m A):=by
 refine dl.mono (xy fun i ah c aN=>s.n3 c aN _ (Nat.le_of_lt (h.ok.jK i ah))) (DQ▸xg (by omega) s.hm)
theorem oQ.acd {m N:Nat}{A:Nat→Nat→Rat}(s:Small m N A){t:ck}(h:oQ m N A t){i j:Nat}(ah:i<m)(aB:j≤N):dl dR (t.T i j*t.D m A):=by
 rw [← h.ok.vj ah aB]
 refine dl.mono (xy fun k aJ c aN=> ?_) (DQ▸xg (by omega) s.hm)
 simp only [fP]
 split
 ·exact s.n3 c aN j aB
 ·exact s.n3 c aN _ (Nat.le_of_lt (h.ok.jK k aJ))
theorem s0 {k:Nat}(h:k≤21*100*(dR*dR)):((k:Nat):Int)<B 24:=by have:=Zn;omega
theorem JR:dR≤21*100*(dR*dR):=by
 have o:dR*1≤dR*dR:=Nat.mul_le_mul_left _ pQ
 omega
theorem D3:21*100*dR≤21*100*(dR*dR):=by
 have o:dR*1≤dR*dR:=Nat.mul_le_mul_left _ pQ
 omega
theorem oQ.gD {m N K:Nat}{A obj:Nat→Nat→Rat}{bN:Nat→Prop}{t:ck}(h:oQ m N A t){r k:Nat}(b:oL m N K obj bN t r k):oQ m N A (t.cP r k) :=
 ⟨b.ok h.ok,b.Ax h.ls,by
  rw [h.ok.Aa b.al b.bX]
  have o:=b.pos
  have R:=h.vn
  intro c
  have:t.T r k≠0:=by grind
  grind⟩
theorem aaQ {g:Nat→Rat}:hd 1 g↔0<g 0:=by
 constructor
 ·rintro ⟨l,o,R,-⟩;rw [show l=0 by omega] at R;exact R
 ·intro h;exact ⟨0,by omega,h,fun fU aO=>by omega⟩
theorem Ot {p:nD}{m n:Nat}{a:Nat→Nat→Int}{b:Nat→Int}(h:oY p m n a b):Small m (n+m) (dZ m n a b):=⟨h.hm,fun c aN j _=>Z6 h aN j⟩
def bL (x:Rat):bc:=gF x.num
@[irreducible] def jW:Nat:=1000000000 ^ 40
theorem QU:((jW:Nat):Int)+((jW:Nat):Int)<B 50:=by decide +kernel
theorem Jk {K:Nat}{x:Rat}(h:dl K x):((x.num:Int):Rat)=x∧x.num.natAbs≤K:=by
 obtain ⟨z,rfl,cn⟩:=h
 rw [Rat.num_intCast];exact ⟨rfl,cn⟩
theorem oj (z:Int):bL (z:Rat)=gF z:=by unfold bL;rw [Rat.num_intCast]
theorem xB {x:Rat}(h:dl jW x):(L x.num.natAbs).length≤50:=by
 have:=QU
 have o:=(Jk h).2
 exact (hx (by omega)).2 (by omega)
theorem xi {x y:Rat}(aa:dl jW x)(aP:dl jW y):n4 (bL x) (bL y)=some (bL (x*y)):=by
 have o:=xB aa
 have R:=xB aP
 obtain ⟨a,rfl,-⟩:=aa;obtain ⟨b,rfl,-⟩:=aP
 rw [Rat.num_intCast] at o R
 rw [oj,oj,← Rat.intCast_mul,oj]
 exact On (by omega) (by omega)
theorem OZ {x y:Rat}(aa:dl jW x)(aP:dl jW y):tC (bL x) (bL y)=some (bL (x-y)):=by
 have gO:=QU
 obtain ⟨a,rfl,bE⟩:=aa;obtain ⟨b,rfl,aV⟩:=aP
 rw [oj,oj,← Rat.intCast_sub,oj]
 exact W7 (by omega) (by omega)
theorem sP {x:Rat}(aa:dl jW x):n5 (bL x)=some (lp x):=by
 obtain ⟨a,rfl,bE⟩:=aa
 rw [oj]
 unfold n5 lp
 simp only [gk]
 have e:(((L a.natAbs).length:Nat):Int)=0↔a=0:=by rw [D2 (by omega)];omega
 show (if (((L a.natAbs).length:Int) == 0)=true then some 0 else if decide (a<0)=true then some (-1) else some 1)=_
 by_cases h0:a=0
 ·rw [if_pos (by rw [beq_iff_eq,e];exact h0),if_pos (by rw [h0];rfl)]
 ·have ace:(a:Rat)≠0:=fun c=>h0 (Rat.intCast_inj.1 (by rw [c];rfl))
  rw [if_neg (by rw [beq_iff_eq,e];exact h0),if_neg ace]
  have aC:(a:Rat)<0↔a<0:=by
   rw [show (0:Rat)=((0:Int):Rat) from rfl,Rat.intCast_lt_intCast]
  by_cases o:a<0
  ·rw [if_pos (decide_eq_true o),if_pos (aC.2 o)]
  ·rw [if_neg (by simpa using o),if_neg (fun c=>o (aC.1 c))]
theorem Wv {x y:Rat}(aa:dl jW x)(aP:dl jW y):q2 (bL x) (bL y)=some (if x<y then -1 else if y<x then 1 else 0):=by
 have o:=xB aa
 have R:=xB aP
 obtain ⟨a,rfl,-⟩:=aa;obtain ⟨b,rfl,-⟩:=aP
 rw [Rat.num_intCast] at o R
 rw [oj,oj,Ms (by omega) (by omega)]
 unfold ku
 simp only [Rat.intCast_lt_intCast]
theorem Nu {x:Rat}(aa:dl jW x):o7 (bL x)=some (bL (-x)):=by
 obtain ⟨a,rfl,-⟩:=aa
 rw [oj,← Rat.intCast_neg,oj]
 unfold o7
 show (kd (!(decide (a<0))) (L a.natAbs)).bind _=_
 rw [pa (by omega),P2];rfl
theorem rN {n:Int}(h:ng n):nz n=some (bL (n:Rat)):=by rw [oj];exact NW h
theorem Ww {x y:Rat}(aa:dl jW x)(aP:dl jW y)(Kn:dl jW (x*y))(h0:y≠0):sE (bL (x*y)) (bL y)=some (bL x):=by
 have o:=xB Kn
 have R:=xB aP
 obtain ⟨a,rfl,-⟩:=aa;obtain ⟨b,rfl,-⟩:=aP
 rw [← Rat.intCast_mul] at o ⊢
 rw [Rat.num_intCast] at o R
 have aV:b≠0:=fun c=>h0 (by rw [c];rfl)
 rw [oj,oj,oj]
 unfold sE
 show (rO (L (a*b).natAbs) (L b.natAbs)).bind _=_
 rw [Dq (jh _) (jh _) (fun c=>by have:=sX.1 c;omega) (by omega) (by omega),fe (by omega),fe (by omega)]
 have ax:((a*b).natAbs:Int) / (b.natAbs:Int)=(a.natAbs:Int):=by
  rw [Int.natAbs_mul,Int.natCast_mul];exact Int.mul_ediv_cancel _ (by omega)
 simp only [Option.bind_some]
 rw [ax]
 show (kd (!(decide (a*b<0) == decide (b<0))) (L a.natAbs)).bind _=_
 rw [pa (by omega)]
 simp only [Option.bind_some]
 congr 2
 rcases Int.lt_or_gt_of_ne aV with c|c
 ·by_cases bE:a<0
  ·have : ¬a*b<0:=by have:=Int.mul_pos_of_neg_of_neg bE c;omega
   rw [decide_eq_false this,decide_eq_true c];simp only [eO,show (!(false == true))=true from rfl,if_true];omega
  ·by_cases cn:a=0
   ·subst cn;simp [eO]
   ·have:a*b<0:=Int.mul_neg_of_pos_of_neg (by omega) c
    rw [decide_eq_true this,decide_eq_true c];simp only [eO,BEq.rfl,Bool.not_true,Bool.false_eq_true,if_false];omega
 ·by_cases bE:a<0
  ·have:a*b<0:=Int.mul_neg_of_neg_of_pos bE c
   rw [decide_eq_true this,decide_eq_false (by omega)];simp only [eO,show (!(true == false))=true from rfl,if_true];omega
  ·have : ¬a*b<0:=by have:=Int.mul_nonneg (show 0≤a by omega) (show 0≤b by omega);omega
   rw [decide_eq_false this,decide_eq_false (by omega)];simp only [eO,BEq.rfl,Bool.not_true,Bool.false_eq_true,if_false];omega
def gz (N:Nat)(w:Rat)(t:ck)(i:Nat):List bc:=a7 (N+1) fun j=>bL (t.T i j*w)
structure nM (m N:Nat) (w:Rat) (t:ck):Prop where
 pos:0<w
 hw:dl (21*100*dR) w
 hF : ∀i,i<m→ ∀j,j≤N→dl dR (t.T i j*w)
 gO : ∀i,i<m→t.B i<N
theorem Ad:21*100*dR*(21*100*dR)+21*100*dR*(21*100*dR)≤jW:=by decide +kernel
theorem aaR {q i:Nat}(bb:0<q)(ah:i≤20):21*100*q*100+i*(q*100)≤21*100*q*(21*100*q):=by
 have o:i*(q*100)≤20*(q*100):=Nat.mul_le_mul_right _ ah
 have R:21*100*q*2100≤21*100*q*(21*100*q):=Nat.mul_le_mul_left _ (by omega)
 generalize 21*100*q*(21*100*q)=z at *
 omega
theorem aaS {i:Nat}(ah:i≤20):21*100*dR*100+i*(dR*100)≤jW :=
 Nat.le_trans (aaR pQ ah) (Nat.le_trans (Nat.le_add_right _ _) Ad)
theorem sd {K:Nat}(h:K≤21*100*dR):K≤jW:=by
 have acf:=Ad
 have o:21*100*dR*1≤21*100*dR*(21*100*dR):=Nat.mul_le_mul_left _ (by have:=pQ;generalize dR=q at *;omega)
 rw [Nat.mul_one] at o
 exact Nat.le_trans h (Nat.le_trans o (Nat.le_trans (Nat.le_add_right _ _) acf))
theorem Pw {m N:Nat}(hm:m≤20)(fV:N<1000){w:Rat}{t:ck}(h:nM m N w t)(I:Nat→Int)(ai:∀j,j<N→ -100≤I j∧I j≤100)(ir:bc)(xW:ir=bL w)(gZ:Int)(free:List Bool){k:Nat}(aJ:k<N):
 wA ⟨a7 m (gz N w t),ir,ef m t,gZ,free⟩ (a7 N I) (k:Int)=some (lp (t.di m (fun j=>(I j:Rat)) k)):=by
 subst xW
 have ae6:=pQ
 have small : ∀ {x:Rat} {K:Nat},dl K x→K≤21*100*dR→dl jW x:=fun o R=>o.mono (sd R)
 have ag : ∀j,j<N→dl 100 ((I j:Int):Rat):=fun j aB=>⟨I j,rfl,by have:=ai j aB;omega⟩
 have RO : ∀j,j<N→ng (I j):=fun j aB=>by have:=ai j aB;rw [lM];omega
 let S:Nat→Rat:=fun i=>w*(I k:Rat)-ct i (fun i=>(t.T i k*w)*(I (t.B i):Rat))
 have tr : ∀i,i≤m→dl jW (S i):=fun i ah=>by
  have ax:dl (21*100*dR*100) (w*(I k:Rat)):=h.hw.mul (ag k aJ)
  have aC:dl (i*(dR*100)) (ct i (fun i=>(t.T i k*w)*(I (t.B i):Rat))):=dl.sum fun eI iE=>(h.hF eI (by omega) k (by omega)).mul (ag _ (h.gO eI (by omega)))
  exact (ax.sub aC).mono (aaS (by omega))
 unfold wA
 refine bO (by rw [cQ];omega) (aI (x:=I k) (by rw [Int.toNat_natCast];exact ga aJ) (aI (rN (RO k aJ)) (aI (xi (small h.hw (Nat.le_refl _)) (small (ag k aJ) (by omega))) ?_)))
 obtain ⟨s,e,-⟩:=iG (f:=fun q:Int×Bool×List Int=>vP (a7 m (gz N w t)) (bL w).c6 (bL w).cK (ef m t) gZ free (a7 N I) (k:Int) ((m:Nat):Int) q.1 q.2.1 q.2.2)
  (fun (i:Nat) (_:Unit)=>((i:Int),(bL (S i)).c6,(bL (S i)).cK)) m (fun _ _=>True) (fun _=>((bL (S m)).c6,(bL (S m)).cK))
  (fun i ah _ _=>by
    refine ⟨(),?_,trivial⟩
    have Ey:=h.gO i ah
    have Bj:S (i+1)=S i-(t.T i k*w)*(I (t.B i):Rat):=by simp only [S,ct];grind
    unfold vP
    refine dM (by simp only;omega) (bO (by unfold ef;rw [cQ];simp only;omega) (aI (x:=((t.B i:Nat):Int)) (by simp only;rw [Int.toNat_natCast];exact ga ah) (bO (by rw [cQ];omega) (aI (x:=I (t.B i)) (by rw [Int.toNat_natCast];exact ga Ey) (Bt (fun c=> ?_) (fun c=> ?_))))))
    ·refine bO (by rw [cQ];simp only;omega) (aI (x:=gz N w t i) (by simp only;rw [Int.toNat_natCast];exact ga ah) (bO (by unfold gz;rw [cQ];omega) (aI (x:=bL (t.T i k*w)) (by rw [Int.toNat_natCast];exact ga (by omega)) (aI (sP (small (h.hF i ah k (by omega)) (by omega))) (Bt (fun cI=> ?_) (fun cI=> ?_))))))
     ·refine aI (rN (RO _ Ey)) (aI (xi (small (h.hF i ah k (by omega)) (by omega)) (small (ag _ Ey) (by omega))) (aI (OZ (tr i (by omega)) (by
       exact small ((h.hF i ah k (by omega)).mul (ag _ Ey)) (by omega))) ?_))
      simp only;rw [fM (by omega),Bj]
     ·have cn:t.T i k*w=0:=zD.1 (by simpa using cI)
      simp only;rw [fM (by omega),Bj,cn,show S i-0*(I (t.B i):Rat)=S i by grind]
    ·have cn:I (t.B i)=0:=by simpa using c
     simp only;rw [fM (by omega),Bj,cn,show S i-t.T i k*w*((0:Int):Rat)=S i by rw [show ((0:Int):Rat)=0 from rfl];grind])
  (fun _ _=>by unfold vP;exact er (by simp) rfl) () trivial
 have e0:S 0=w*(I k:Rat):=by simp only [S,ct];grind
 rw [e0] at e
 refine aI (x:=((bL (S m)).c6,(bL (S m)).cK)) (by unfold Gj;rw [gk,show (ef m t).length=m from cQ ..];exact e) (aI (x:=lp (S m)) (sP (tr m (Nat.le_refl _))) ?_)
 congr 1
 have aC:S m=w*t.di m (fun j=>(I j:Rat)) k:=by
  simp only [S]
  unfold ck.di
  rw [fA (f:=fun i=>t.T i k*w*(I (t.B i):Rat)) (g:=fun i=>w*((I (t.B i):Rat)*t.T i k)) (fun i _=>by grind),hX];grind
 rw [aC]
 have af:=h.pos
 unfold lp
 by_cases c:t.di m (fun j=>(I j:Rat)) k=0
 ·rw [if_pos c,if_pos (by rw [c];grind)]
 ·rw [if_neg c,if_neg (by grind)]
  by_cases cI:t.di m (fun j=>(I j:Rat)) k<0
  ·rw [if_pos cI,if_pos]
   have:=Rat.mul_pos af (show 0 < -(t.di m (fun j=>(I j:Rat)) k) by grind)
   grind
  ·rw [if_neg cI,if_neg]
   have:=Rat.mul_pos af (show 0<t.di m (fun j=>(I j:Rat)) k by grind)
   grind
theorem O0 {x y z v w:Rat}(hw:0<w)(aP:0<y)(a3:0<v):(x*w)*(v*w)<(z*w)*(y*w)↔x / y<z / v:=by
 have ax:(x*w)*(v*w)=(x / y)*((y*v)*(w*w)):=by grind
 have aC:(z*w)*(y*w)=(z / v)*((y*v)*(w*w)):=by grind
 have af:0<(y*v)*(w*w):=Rat.mul_pos (Rat.mul_pos aP a3) (Rat.mul_pos hw hw)
 rw [ax,aC]
 constructor
 ·intro h
  apply Classical.byContradiction
  intro c
  have:z / v≤x / y:=by grind
  have:=Rat.mul_le_mul_of_nonneg_right this (Rat.le_of_lt af)
  grind
 ·intro h;exact Rat.mul_lt_mul_of_pos_right h af
theorem xq {x w:Rat}(hw:0<w):lp (x*w)=lp x:=by
 unfold lp
 by_cases c:x=0
 ·rw [if_pos c,if_pos (by rw [c];grind)]
 ·rw [if_neg c,if_neg (by grind)]
  by_cases cI:x<0
  ·rw [if_pos cI,if_pos]
   have:=Rat.mul_pos (show 0 < -x by grind) hw
   grind
  ·rw [if_neg cI,if_neg]
   have:=Rat.mul_pos (show 0<x by grind) hw
   grind
theorem Wx {m N:Nat}(hm:m≤20)(fV:N<1000){w:Rat}{t:ck}(h:nM m N w t)(ir:bc)(free:List Bool){k:Nat}(aJ:k≤N):
 ∃r,yL ⟨a7 m (gz N w t),ir,ef m t,(N:Int),free⟩ (k:Int)=some r∧Pv m N t k r:=by
 have hw:=h.pos
 have ny : ∀i,i<m→ ∀j,j≤N→dl jW (t.T i j*w):=fun i ah j aB=>(h.hF i ah j aB).mono (sd (by have:=pQ;generalize dR=q at *;omega))
 have BC : ∀i,i<m→ ∀j,j≤N→ ∀eI,eI<m→ ∀hl,hl≤N→dl jW (t.T i j*w*(t.T eI hl*w)):=fun i ah j aB eI iE hl rp=>((h.hF i ah j aB).mul (h.hF eI iE hl rp)).mono (by
  refine Nat.le_trans ?_ (Nat.le_trans (Nat.le_add_right _ _) Ad)
  exact Nat.mul_le_mul (by generalize dR=q;omega) (by generalize dR=q;omega))
 unfold yL
 obtain ⟨r,e,al⟩:=pK (f:=fun q:Int×Int=>vE (a7 m (gz N w t)) ir.c6 ir.cK (ef m t) (N:Int) free (k:Int) ((m:Nat):Int) q.1 q.2)
  (fun (i:Nat) (s:Int)=>(s,(i:Int))) m
  (fun n s=>(s = -1∧ ∀i,i<n→ ¬0<t.T i k)∨ ∃b:Nat,s=b∧b<n∧0<t.T b k∧ ∀i,i<n→0<t.T i k→t.T b N / t.T b k<t.T i N / t.T i k∨(t.T b N / t.T b k=t.T i N / t.T i k∧t.B b≤t.B i))
  (fun r=>Pv m N t k r)
  (fun n a5 s cV=>by
    left
    unfold vE
    have g1:0≤((n:Nat):Int)∧((n:Nat):Int)<((a7 m (gz N w t)).length:Nat):=by rw [cQ];omega
    have g2:(a7 m (gz N w t))[((n:Nat):Int).toNat]? = some (gz N w t n):=by rw [Int.toNat_natCast];exact ga a5
    have g3 : ∀b,0≤((k:Nat):Int)∧((k:Nat):Int)<((gz N w t b).length:Nat):=fun b=>by unfold gz;rw [cQ];omega
    have g4 : ∀b,(gz N w t b)[((k:Nat):Int).toNat]? = some (bL (t.T b k*w)):=fun b=>by rw [Int.toNat_natCast];exact ga (by omega)
    have g5 : ∀b,0≤((N:Nat):Int)∧((N:Nat):Int)<((gz N w t b).length:Nat):=fun b=>by unfold gz;rw [cQ];omega
    have g6 : ∀b,(gz N w t b)[((N:Nat):Int).toNat]? = some (bL (t.T b N*w)):=fun b=>by rw [Int.toNat_natCast];exact ga (by omega)
    have ic:U ((n:Int)+1)=((n+1:Nat):Int):=fM (by omega)
    have qL:n5 (bL (t.T n k*w))=some (lp (t.T n k)):=by rw [sP (ny n a5 k aJ),xq hw]
    by_cases af:0<t.T n k
    ·have bX : ¬lp (t.T n k)≤0:=by have:=sO.2 af;omega
     rcases cV with ⟨o,R⟩|⟨b,o,aV,lJ,ab⟩
     ·refine ⟨(n:Int),dM (by simp only;omega) (bO g1 (aI g2 (bO (g3 n) (aI (g4 n) (aI qL (er bX (dM (by simp only;omega) ?_))))))),.inr ⟨n,rfl,by omega,af,fun i ah mV=> ?_⟩⟩
      ·simp only;rw [ic]
      ·by_cases c:i=n
       ·subst c;exact .inr ⟨rfl,Nat.le_refl _⟩
       ·exact (R i (by omega) mV).elim
     ·subst o
      have acg:0≤((b:Nat):Int)∧((b:Nat):Int)<((a7 m (gz N w t)).length:Nat):=by rw [cQ];omega
      have ach:(a7 m (gz N w t))[((b:Nat):Int).toNat]? = some (gz N w t b):=by rw [Int.toNat_natCast];exact ga (by omega)
      have gc:q2 (bL (t.T n N*w*(t.T b k*w))) (bL (t.T b N*w*(t.T n k*w)))=some (if t.T n N / t.T n k<t.T b N / t.T b k then -1 else if t.T b N / t.T b k<t.T n N / t.T n k then 1 else 0):=by
       rw [Wv (BC n a5 N (by omega) b (by omega) k aJ) (BC b (by omega) N (by omega) n a5 k aJ)]
       have ak:=O0 (x:=t.T n N) (y:=t.T n k) (z:=t.T b N) (v:=t.T b k) hw af lJ
       have bm:=O0 (x:=t.T b N) (y:=t.T b k) (z:=t.T n N) (v:=t.T n k) hw lJ af
       by_cases bF:t.T n N / t.T n k<t.T b N / t.T b k
       ·rw [if_pos bF,if_pos (ak.2 bF)]
       ·rw [if_neg bF,if_neg (fun c=>bF (ak.1 c))]
        by_cases cI:t.T b N / t.T b k<t.T n N / t.T n k
        ·rw [if_pos cI,if_pos (bm.2 cI)]
        ·rw [if_neg cI,if_neg (fun c=>cI (bm.1 c))]
      have lead : ∀ {x r:Option ((Int×Int)⊕Int)} {f:Int→Option ((Int×Int)⊕Int)} {q:Int},q2 (bL (t.T n N*w*(t.T b k*w))) (bL (t.T b N*w*(t.T n k*w)))=some q→f q=r →
       (if 0≤((N:Nat):Int)∧((N:Nat):Int)<((gz N w t n).length:Nat) then
         (gz N w t n)[((N:Nat):Int).toNat]? >>= fun mo =>
         if 0≤((b:Nat):Int)∧((b:Nat):Int)<((a7 m (gz N w t)).length:Nat) then
         (a7 m (gz N w t))[((b:Nat):Int).toNat]? >>= fun jU =>
         if 0≤((k:Nat):Int)∧((k:Nat):Int)<(jU.length:Nat) then
         jU[((k:Nat):Int).toNat]? >>= fun qO =>
         n4 mo qO >>= fun jw =>
         if 0≤((N:Nat):Int)∧((N:Nat):Int)<(jU.length:Nat) then
         jU[((N:Nat):Int).toNat]? >>= fun sl =>
         n4 sl (bL (t.T n k*w)) >>= fun k1 =>
         q2 jw k1 >>= f
         else none else none else none else none)=r:=fun bb b5 =>
       bO (g5 n) (aI (g6 n) (bO acg (aI ach (bO (g3 b) (aI (g4 b) (aI (xi (ny n a5 N (by omega)) (ny b (by omega) k aJ)) (bO (g5 b) (aI (g6 b) (aI (xi (ny b (by omega) N (by omega)) (ny n a5 k aJ)) (aI bb b5))))))))))
      by_cases bF:t.T n N / t.T n k<t.T b N / t.T b k
      ·rw [if_pos bF] at gc
       refine ⟨(n:Int),dM (by simp only;omega) (bO g1 (aI g2 (bO (g3 n) (aI (g4 n) (aI qL (er bX (er (by simp only;omega) (lead (x:=none) gc (dM (by omega) ?_))))))))),.inr ⟨n,rfl,by omega,af,fun i ah mV=> ?_⟩⟩
       ·simp only;rw [ic]
       ·by_cases c:i=n
        ·subst c;exact .inr ⟨rfl,Nat.le_refl _⟩
        ·rcases ab i (by omega) mV with h|⟨h,-⟩
         ·left;grind
         ·left;rw [← h];exact bF
      ·rw [if_neg bF] at gc
       by_cases cI:t.T b N / t.T b k<t.T n N / t.T n k
       ·rw [if_pos cI] at gc
        refine ⟨(b:Int),dM (by simp only;omega) (bO g1 (aI g2 (bO (g3 n) (aI (g4 n) (aI qL (er bX (er (by simp only;omega) (lead (x:=none) gc (er (by omega) (ib (by decide) ?_)))))))))),.inr ⟨b,rfl,by omega,lJ,fun i ah mV=> ?_⟩⟩
        ·simp only;rw [ic]
        ·by_cases c:i=n
         ·subst c;exact .inl cI
         ·exact ab i (by omega) mV
       ·rw [if_neg cI] at gc
        have aci:t.T b N / t.T b k=t.T n N / t.T n k:=by grind
        have RP:0≤((n:Nat):Int)∧((n:Nat):Int)<((ef m t).length:Nat):=by unfold ef;rw [cQ];omega
        have RQ:(ef m t)[((n:Nat):Int).toNat]? = some ((t.B n:Nat):Int):=by rw [Int.toNat_natCast];exact ga a5
        have RR:0≤((b:Nat):Int)∧((b:Nat):Int)<((ef m t).length:Nat):=by unfold ef;rw [cQ];omega
        have RS:(ef m t)[((b:Nat):Int).toNat]? = some ((t.B b:Nat):Int):=by rw [Int.toNat_natCast];exact ga (by omega)
        by_cases mv:t.B n<t.B b
        ·refine ⟨(n:Int),dM (by simp only;omega) (bO g1 (aI g2 (bO (g3 n) (aI (g4 n) (aI qL (er bX (er (by simp only;omega) (lead (x:=none) gc (er (by omega) (fw rfl (bO RP (aI RQ (bO RR (aI RS (dM (by omega) ?_))))))))))))))),.inr ⟨n,rfl,by omega,af,fun i ah mV=> ?_⟩⟩
         ·simp only;rw [ic]
         ·by_cases c:i=n
          ·subst c;exact .inr ⟨rfl,Nat.le_refl _⟩
          ·rcases ab i (by omega) mV with h|⟨h,ch⟩
           ·left;grind
           ·right;exact ⟨by grind,by omega⟩
        ·refine ⟨(b:Int),dM (by simp only;omega) (bO g1 (aI g2 (bO (g3 n) (aI (g4 n) (aI qL (er bX (er (by simp only;omega) (lead (x:=none) gc (er (by omega) (fw rfl (bO RP (aI RQ (bO RR (aI RS (er (by omega) ?_))))))))))))))),.inr ⟨b,rfl,by omega,lJ,fun i ah mV=> ?_⟩⟩
         ·simp only;rw [ic]
         ·by_cases c:i=n
          ·subst c;exact .inr ⟨aci,by omega⟩
          ·exact ab i (by omega) mV
    ·have bX:lp (t.T n k)≤0:=by
      have : ¬0<lp (t.T n k):=fun c=>af (sO.1 c)
      omega
     refine ⟨s,dM (by simp only;omega) (bO g1 (aI g2 (bO (g3 n) (aI (g4 n) (aI qL (dM bX ?_)))))),?_⟩
     ·simp only;rw [ic]
     ·rcases cV with ⟨o,R⟩|⟨b,o,aV,lJ,ab⟩
      ·exact .inl ⟨o,fun i ah=>if c:i=n then c▸af else R i (by omega)⟩
      ·exact .inr ⟨b,o,by omega,lJ,fun i ah mV=>if c:i=n then (af (c▸mV)).elim else ab i (by omega) mV⟩)
  (fun s cV=>by
    refine ⟨s,by unfold vE;exact er (by simp only;omega) rfl,?_⟩
    rcases cV with ⟨o,R⟩|⟨b,o,aV,lJ,ab⟩
    ·exact .inl ⟨o,R⟩
    ·refine .inr ⟨b,o,aV,lJ,fun i ah mV=> ?_,fun i ah mV he=> ?_⟩
     ·rw [← (OY lJ mV).1]
      rcases ab i ah mV with h|⟨h,-⟩
      ·exact Rat.le_of_lt h
      ·rw [h];exact Rat.le_refl
     ·rw [← (OY lJ mV).2] at he
      rcases ab i ah mV with h|⟨-,h⟩
      ·rw [he] at h;grind
      ·exact h) (-1:Int) (.inl ⟨rfl,fun i ah=>by omega⟩)
 refine ⟨r,aI ?_ rfl,al⟩
 unfold FU
 rw [gY,cQ]
 exact e
def f8 (m N:Nat)(h:Nat→Nat):List b0:=a7 m fun i=>some (h i,N+1)
structure kh (m N M:Nat) (h:Nat→Nat) (w:Rat) (t:ck) (dN:List (List bc)):Prop where
 len:dN.length=M
 row : ∀i,i<m→dN[h i]? = some (gz N w t i)
theorem CJ {α:Type}{l:List α}{i:Nat}{x y:α}(h:l[i]? = some x):(l.set i y)[i]? = some y:=by
 rw [List.getElem?_set,if_pos rfl,if_pos (List.getElem?_eq_some_iff.1 h).1]
theorem Iq {α:Type}{l:List α}{i k:Nat}{y:α}(h:i≠k):(l.set i y)[k]? = l[k]? := by
 rw [List.getElem?_set,if_neg h]
theorem set_set {α:Type}(l:List α)(i:Nat)(x y:α):(l.set i x).set i y=l.set i y:=by
 rw [List.set_set]
structure se (m N:Nat) (w:Rat) (t:ck) (r k:Nat):Prop where
 al:r<m
 aJ:k<N
 af:t.T r k≠0
 yr : ∀i,i<m→ ∀j,j≤N→dl dR ((t.cP r k).T i j*(t.T r k*w))
theorem X1 {m N:Nat}(fV:N<1000){h:Nat→Nat}{w:Rat}{t:ck}{r k:Nat}(f:nM m N w t)(g:se m N w t r k){i:Nat}(ah:i<m)(acj:i≠r)(cH:h i≠h r){dN:List (List bc)}(o:dN[h i]? = some (gz N w t i))(R:dN[h r]? = some (gz N w t r))
 (fB e1:Int) (aU:Int) (aW:List b0) (bl:List Int) (cc:List Bool) (v1 v2:Int) :
 BR v1 v2 (some (h r,N+1)) (some (h i,N+1)) fB e1 (((N+1:Nat):Nat):Int) (bL w).c6 (bL w).cK aU aW bl cc (bL (t.T r k*w)).c6 (bL (t.T r k*w)).cK (bL (t.T i k*w)).c6 (bL (t.T i k*w)).cK 0 dN=some (dN.set (h i) (gz N (t.T r k*w) (t.cP r k) i)):=by
 have hw:=f.pos
 have ny : ∀i,i<m→ ∀j,j≤N→dl jW (t.T i j*w):=fun i ah j aB=>(f.hF i ah j aB).mono (sd (by have:=pQ;generalize dR=q at *;omega))
 have ac4:dl jW w:=f.hw.mono (sd (Nat.le_refl _))
 have ac5 : ∀i,i<m→ ∀j,j≤N→dl jW ((t.cP r k).T i j*(t.T r k*w)):=fun i ah j aB=>(g.yr i ah j aB).mono (sd (by have:=pQ;generalize dR=q at *;omega))
 have BC : ∀i,i<m→ ∀j,j≤N→ ∀eI,eI<m→ ∀hl,hl≤N→dl jW (t.T i j*w*(t.T eI hl*w)):=fun i ah j aB eI iE hl rp=>((f.hF i ah j aB).mul (f.hF eI iE hl rp)).mono (by
  refine Nat.le_trans ?_ (Nat.le_trans (Nat.le_add_right _ _) Ad)
  exact Nat.mul_le_mul (by generalize dR=q;omega) (by generalize dR=q;omega))
 have ack : ∀j,j≤N→dl jW ((t.cP r k).T i j*(t.T r k*w)*w):=fun j aB=>((g.yr i ah j aB).mul f.hw).mono (by
  refine Nat.le_trans ?_ (Nat.le_trans (Nat.le_add_right _ _) Ad)
  exact Nat.mul_le_mul (by generalize dR=q;omega) (Nat.le_refl _))
 have al:=g.al
 have aJ:=g.aJ
 have af:=g.af
 have Ls : ∀j,(t.cP r k).T i j=t.T i j-t.T i k*(t.T r j / t.T r k):=fun j=>by simp [ck.cP,acj]
 have x3:w≠0:=by grind
 unfold BR
 obtain ⟨s,e,-⟩:=iG (f:=fun q:Int×List (List bc)=>vF v1 v2 (some (h r,N+1)) (some (h i,N+1)) fB e1 (((N+1:Nat):Nat):Int) (bL w).c6 (bL w).cK aU aW bl cc (bL (t.T r k*w)).c6 (bL (t.T r k*w)).cK (bL (t.T i k*w)).c6 (bL (t.T i k*w)).cK q.1 q.2)
  (fun (c:Nat) (_:Unit)=>((c:Int),dN.set (h i) (a7 (N+1) fun j=>if j<c then bL ((t.cP r k).T i j*(t.T r k*w)) else bL (t.T i j*w)))) (N+1) (fun _ _=>True)
  (fun _=>dN.set (h i) (gz N (t.T r k*w) (t.cP r k) i))
  (fun c aN _ _=>by
    refine ⟨(),?_,trivial⟩
    have fin:(some (Sum.inl (U ((c:Int)+1),(dN.set (h i) (a7 (N+1) fun j=>if j<c then bL ((t.cP r k).T i j*(t.T r k*w)) else bL (t.T i j*w))).set (h i) ((a7 (N+1) fun j=>if j<c then bL ((t.cP r k).T i j*(t.T r k*w)) else bL (t.T i j*w)).set (0+((c:Int)).toNat) (bL ((t.cP r k).T i c*(t.T r k*w)))))):Option ((Int×List (List bc))⊕List (List bc))) =
     some (Sum.inl (((c+1:Nat):Int),dN.set (h i) (a7 (N+1) fun j=>if j<c+1 then bL ((t.cP r k).T i j*(t.T r k*w)) else bL (t.T i j*w)))):=by
     rw [fM (by omega),Int.toNat_natCast,Nat.zero_add,set_set,ke]
     congr 4
     refine fc fun j _=> ?_
     by_cases bF:j=c
     ·subst bF;rw [if_pos rfl,if_pos (by omega)]
     ·rw [if_neg bF]
      by_cases cI:j<c
      ·rw [if_pos cI,if_pos (by omega)]
      ·rw [if_neg cI,if_neg (by omega)]
    have hs:sE (bL ((t.cP r k).T i c*(t.T r k*w)*w)) (bL w)=some (bL ((t.cP r k).T i c*(t.T r k*w))):=Ww (ac5 i ah c (by omega)) ac4 (ack c (by omega)) x3
    unfold vF
    refine dM (by simp only;omega) (aI (x:=(h i,N+1)) rfl (aI (x:=a7 (N+1) fun j=>if j<c then bL ((t.cP r k).T i j*(t.T r k*w)) else bL (t.T i j*w)) (by simp only;exact CJ o) (bO (by simp only;omega) (aI (x:=bL (t.T i c*w)) (by simp only;rw [Int.toNat_natCast,jt aN,if_neg (by omega)]) ?_))))
    refine aI (xi (ny i ah c (by omega)) (ny r al k (by omega))) (aI (sP (ny i ah k (by omega))) (Bt (fun d=> ?_) (fun d=> ?_)))
    ·refine aI (x:=(h r,N+1)) rfl (aI (x:=gz N w t r) (by simp only;rw [Iq cH];exact R) (bO (by simp only;omega) (aI (x:=bL (t.T r c*w)) (by simp only;rw [Int.toNat_natCast];exact jt aN) (aI (sP (ny r al c (by omega))) (Bt (fun qf=> ?_) (fun qf=> ?_))))))
     ·refine aI (xi (ny i ah k (by omega)) (ny r al c (by omega))) (aI (OZ (BC i ah c (by omega) r al k (by omega)) (BC i ah k (by omega) r al c (by omega))) (aI ?_ fin))
      rw [show t.T i c*w*(t.T r k*w)-t.T i k*w*(t.T r c*w)=(t.cP r k).T i c*(t.T r k*w)*w by rw [Ls];grind]
      exact hs
     ·have cn:t.T r c=0:=by have:=zD.1 (by simpa using qf);grind
      refine aI ?_ fin
      rw [show t.T i c*w*(t.T r k*w)=(t.cP r k).T i c*(t.T r k*w)*w by rw [Ls,cn];grind]
      exact hs
    ·have cn:t.T i k=0:=by have:=zD.1 (by simpa using d);grind
     refine aI ?_ fin
     rw [show t.T i c*w*(t.T r k*w)=(t.cP r k).T i c*(t.T r k*w)*w by rw [Ls,cn];grind]
     exact hs)
  (fun _ _=>by
    unfold vF
    refine er (by simp) ?_
    simp only
    congr 3
    exact fc fun j aB=>by rw [if_pos aB]) () trivial
 have e0:dN.set (h i) (a7 (N+1) fun j=>if j<0 then bL ((t.cP r k).T i j*(t.T r k*w)) else bL (t.T i j*w))=dN:=by
  have:(a7 (N+1) fun j=>if j<0 then bL ((t.cP r k).T i j*(t.T r k*w)) else bL (t.T i j*w))=gz N w t i:=fc fun j _=>by rw [if_neg (by omega)]
  rw [this]
  apply List.ext_getElem?
  intro c
  rw [List.getElem?_set]
  split
  ·rename_i e;subst e
   rw [if_pos (List.getElem?_eq_some_iff.1 o).1,o]
  ·rfl
 rw [e0] at e
 exact e
theorem X2 {m N:Nat}(fV:N<1000){h:Nat→Nat}{w:Rat}{t:ck}(hF:∀i,i<m→ ∀j,j≤N→dl dR (t.T i j*w)){i:Nat}(ah:i<m){dN:List (List bc)}(o:dN[h i]? = some (gz N w t i))
 (fB e1:Int) (gQ:Bool) (h8:List Int) (aU:Int) (aW:List b0) (bl:List Int) (cc:List Bool) :
 BT (some (h i,N+1)) fB e1 (((N+1:Nat):Nat):Int) gQ h8 aU aW bl cc 0 dN=some (dN.set (h i) (gz N (-w) t i)):=by
 have ny : ∀j,j≤N→dl jW (t.T i j*w):=fun j aB=>(hF i ah j aB).mono (sd (by have:=pQ;generalize dR=q at *;omega))
 unfold BT
 obtain ⟨s,e,-⟩:=iG (f:=fun q:Int×List (List bc)=>vH (some (h i,N+1)) fB e1 (((N+1:Nat):Nat):Int) gQ h8 aU aW bl cc q.1 q.2)
  (fun (c:Nat) (_:Unit)=>((c:Int),dN.set (h i) (a7 (N+1) fun j=>if j<c then bL (t.T i j * -w) else bL (t.T i j*w)))) (N+1) (fun _ _=>True)
  (fun _=>dN.set (h i) (gz N (-w) t i))
  (fun c aN _ _=>by
    refine ⟨(),?_,trivial⟩
    unfold vH
    refine dM (by simp only;omega) (aI (x:=(h i,N+1)) rfl (aI (x:=a7 (N+1) fun j=>if j<c then bL (t.T i j * -w) else bL (t.T i j*w)) (by simp only;exact CJ o) (bO (by simp only;omega) (aI (x:=bL (t.T i c*w)) (by simp only;rw [Int.toNat_natCast,jt aN,if_neg (by omega)]) (aI (Nu (ny c (by omega))) ?_)))))
    simp only
    rw [fM (by omega),Int.toNat_natCast,Nat.zero_add,set_set,ke]
    congr 4
    refine fc fun j _=> ?_
    by_cases bF:j=c
    ·subst bF;rw [if_pos rfl,if_pos (by omega)];congr 1;grind
    ·rw [if_neg bF]
     by_cases cI:j<c
     ·rw [if_pos cI,if_pos (by omega)]
     ·rw [if_neg cI,if_neg (by omega)])
  (fun _ _=>by
    unfold vH
    refine er (by simp) ?_
    simp only
    congr 3
    exact fc fun j aB=>by rw [if_pos aB]) () trivial
 have e0:dN.set (h i) (a7 (N+1) fun j=>if j<0 then bL (t.T i j * -w) else bL (t.T i j*w))=dN:=by
  have:(a7 (N+1) fun j=>if j<0 then bL (t.T i j * -w) else bL (t.T i j*w))=gz N w t i:=fc fun j _=>by rw [if_neg (by omega)]
  rw [this]
  apply List.ext_getElem?
  intro c
  rw [List.getElem?_set]
  split
  ·rename_i e;subst e
   rw [if_pos (List.getElem?_eq_some_iff.1 o).1,o]
  ·rfl
 rw [e0] at e
 exact e
def oA (w:Rat)(t:ck)(r k:Nat):Rat:=if 0<t.T r k then t.T r k*w else -(t.T r k*w)
theorem Px {m N M:Nat}(hm:m≤20)(fV:N<1000){h:Nat→Nat}(inj:∀i,i<m→ ∀k,k<m→h i=h k→i=k){w:Rat}{t:ck}{r k:Nat}(f:nM m N w t)(g:se m N w t r k){dN:List (List bc)}(fL:kh m N M h w t dN)(gZ:Int)(free:List Bool):
 ∃iX,v5 r k (bL w).c6 (bL w).cK gZ (f8 m N h) dN (ef m t) free=some ((bL (oA w t r k)).c6,(bL (oA w t r k)).cK,iX,ef m (t.cP r k))∧kh m N M h (oA w t r k) (t.cP r k) iX:=by
 have al:=g.al
 have aJ:=g.aJ
 have af:=g.af
 have hw:=f.pos
 have ny : ∀i,i<m→ ∀j,j≤N→dl jW (t.T i j*w):=fun i ah j aB=>(f.hF i ah j aB).mono (sd (by have:=pQ;generalize dR=q at *;omega))
 have Sd:gz N (t.T r k*w) (t.cP r k) r=gz N w t r:=fc fun j _=>by
  simp only [ck.cP,if_true];congr 1;grind
 have yA:(f8 m N h).length=m:=cQ ..
 unfold v5
 obtain ⟨gN,ax,mu,ak⟩:=iG (f:=fun q:Int×List (List bc)=>vG (r:Int) (k:Int) (some (h r,N+1)) ((m:Nat):Int) (bL w).c6 (bL w).cK gZ (f8 m N h) (ef m t) free (bL (t.T r k*w)).c6 (bL (t.T r k*w)).cK q.1 q.2)
  (fun (i:Nat) (p:List (List bc))=>((i:Int),p)) m (fun n p=>p.length=M∧ ∀i,i<m→p[h i]? = some (if i=r∨i<n then gz N (t.T r k*w) (t.cP r k) i else gz N w t i)) (fun p=>p)
  (fun n a5 p cV=>by
    obtain ⟨aO,cV⟩:=cV
    unfold vG
    by_cases c:n=r
    ·subst c
     refine ⟨p,dM (by simp only;omega) (bO (by rw [yA];simp only;omega) (aI (x:=some (h n,N+1)) (by simp only;rw [Int.toNat_natCast];exact jt a5) (fw (by simp) ?_))),aO,fun i ah=> ?_⟩
     ·simp only;rw [fM (by omega)]
     ·rw [cV i ah]
      by_cases bF:i=n∨i<n
      ·rw [if_pos bF,if_pos (by omega)]
      ·rw [if_neg bF,if_neg (by omega)]
    ·have cH:h n≠h r:=fun e=>c (inj n a5 r al e)
     have o:p[h n]? = some (gz N w t n):=by rw [cV n a5,if_neg (by omega)]
     have R:p[h r]? = some (gz N w t r):=by rw [cV r al,if_pos (.inl rfl),Sd]
     refine ⟨p.set (h n) (gz N (t.T r k*w) (t.cP r k) n),dM (by simp only;omega) (bO (by rw [yA];simp only;omega) (aI (x:=some (h n,N+1)) (by simp only;rw [Int.toNat_natCast];exact jt a5) (ib (by simp;omega) (aI (x:=(h n,N+1)) rfl (aI o (bO (by simp only;omega) (aI (x:=bL (t.T n k*w)) (by rw [Int.toNat_natCast];exact jt (by omega)) (aI (X1 fV f g a5 c cH o R _ _ _ _ _ _ _ _) ?_)))))))),by rw [List.length_set];exact aO,fun i ah=> ?_⟩
     ·simp only;rw [fM (by omega)]
     ·by_cases bF:i=n
      ·subst bF;rw [CJ o,if_pos (.inr (by omega))]
      ·rw [Iq (fun e=>bF (inj i ah n a5 e.symm)),cV i ah]
       by_cases cI:i=r∨i<n
       ·rw [if_pos cI,if_pos (by omega)]
       ·rw [if_neg cI,if_neg (by omega)])
  (fun p _=>by unfold vG;exact er (by simp) rfl) dN ⟨fL.len,fun i ah=>by
    rw [fL.row i ah]
    by_cases c:i=r
    ·rw [if_pos (.inl c),c,Sd]
    ·rw [if_neg (by omega)]⟩
 have RT : ∀i,i<m→gN[h i]? = some (gz N (t.T r k*w) (t.cP r k) i):=fun i ah=>by rw [ak i ah,if_pos (.inr ah)]
 have aaT:(ef m t).set (0+((r:Int)).toNat) (k:Int)=ef m (t.cP r k):=by
  rw [Int.toNat_natCast,Nat.zero_add]
  unfold ef
  rw [ke]
  exact fc fun i _=>by
   simp only [ck.cP]
   split<;>rfl
 have lead :
  (if 0≤(r:Int)∧(r:Int)<((f8 m N h).length:Nat) then
    (f8 m N h)[(0+((r:Int)).toNat)]? >>= fun e1 =>
    e1 >>= fun nw =>
    dN[nw.1]? >>= fun yz =>
    if 0≤(k:Int)∧(k:Int)<(nw.2:Nat) then
    yz[(0+((k:Int)).toNat)]? >>= fun gK =>
    BS (r:Int) (k:Int) e1 (((f8 m N h).length:Nat):Int) (bL w).c6 (bL w).cK gZ (f8 m N h) (ef m t) free gK.c6 gK.cK 0 dN >>= fun c0 =>
    if 0≤(r:Int)∧(r:Int)<((ef m t).length:Nat) then
    if (0+((r:Int)).toNat)<(ef m t).length then
    n5 gK >>= fun eX =>
    if (decide ((0:Int)<eX))=true then
     some (gK.c6,gK.cK,c0,(ef m t).set (0+((r:Int)).toNat) (k:Int))
    else
     o7 gK >>= fun eZ =>
     yJ (((f8 m N h).length:Nat):Int) eZ.c6 eZ.cK gZ (f8 m N h) ((ef m t).set (0+((r:Int)).toNat) (k:Int)) free 0 c0 >>= fun i9 =>
     some (eZ.c6,eZ.cK,i9,(ef m t).set (0+((r:Int)).toNat) (k:Int))
    else none else none else none else none)=(if (decide ((0:Int)<lp (t.T r k)))=true then
     some ((bL (t.T r k*w)).c6,(bL (t.T r k*w)).cK,gN,ef m (t.cP r k))
    else
     o7 (bL (t.T r k*w)) >>= fun eZ =>
     yJ ((m:Nat):Int) eZ.c6 eZ.cK gZ (f8 m N h) (ef m (t.cP r k)) free 0 gN >>= fun i9 =>
     some (eZ.c6,eZ.cK,i9,ef m (t.cP r k))):=by
  refine bO (by rw [yA];omega) (aI (x:=some (h r,N+1)) (by rw [Int.toNat_natCast];exact jt al) (aI (x:=(h r,N+1)) rfl (aI (fL.row r al) (bO (by simp only;omega) (aI (x:=bL (t.T r k*w)) (by rw [Int.toNat_natCast];exact jt (by omega)) (aI (x:=gN) (by unfold BS;rw [yA];exact ax) (bO (by unfold ef;rw [cQ];omega) (bO (by unfold ef;rw [cQ,Int.toNat_natCast];omega) (aI (sP (ny r al k (by omega))) ?_)))))))))
  rw [xq hw,aaT,yA]
 by_cases i3:0<t.T r k
 ·have ts:oA w t r k=t.T r k*w:=if_pos i3
  refine ⟨gN,lead.trans ?_,mu,fun i ah=>by rw [ts];exact RT i ah⟩
  rw [ts]
  exact dM (sO.2 i3) rfl
 ·have ts:oA w t r k = -(t.T r k*w):=if_neg i3
  obtain ⟨h7,aC,o2,bm⟩:=iG (f:=fun q:Int×List (List bc)=>vI ((m:Nat):Int) (bL (-(t.T r k*w))).c6 (bL (-(t.T r k*w))).cK gZ (f8 m N h) (ef m (t.cP r k)) free q.1 q.2)
   (fun (i:Nat) (p:List (List bc))=>((i:Int),p)) m (fun n p=>p.length=M∧ ∀i,i<m→p[h i]? = some (if i<n then gz N (-(t.T r k*w)) (t.cP r k) i else gz N (t.T r k*w) (t.cP r k) i)) (fun p=>p)
   (fun n a5 p cV=>by
     obtain ⟨aO,cV⟩:=cV
     have o:p[h n]? = some (gz N (t.T r k*w) (t.cP r k) n):=by rw [cV n a5,if_neg (by omega)]
     unfold vI
     refine ⟨p.set (h n) (gz N (-(t.T r k*w)) (t.cP r k) n),dM (by simp only;omega) (bO (by rw [yA];simp only;omega) (aI (x:=some (h n,N+1)) (by simp only;rw [Int.toNat_natCast];exact jt a5) (aI (x:=(h n,N+1)) rfl (aI o (aI (X2 fV g.yr a5 o _ _ _ _ _ _ _ _) ?_))))),by rw [List.length_set];exact aO,fun i ah=> ?_⟩
     ·simp only;rw [fM (by omega)]
     ·by_cases bF:i=n
      ·subst bF;rw [CJ o,if_pos (by omega)]
      ·rw [Iq (fun e=>bF (inj i ah n a5 e.symm)),cV i ah]
       by_cases cI:i<n
       ·rw [if_pos cI,if_pos (by omega)]
       ·rw [if_neg cI,if_neg (by omega)])
   (fun p _=>by unfold vI;exact er (by simp) rfl) gN ⟨mu,fun i ah=>by rw [RT i ah,if_neg (by omega)]⟩
  refine ⟨h7,lead.trans ?_,o2,fun i ah=>by rw [ts,bm i ah,if_pos ah]⟩
  rw [ts]
  exact er (fun c=>i3 (sO.1 c)) (aI (Nu (ny r al k (by omega))) (aI (x:=h7) (by unfold yJ;exact aC) rfl))
theorem M8 {m:Nat}(hm:m≤1000)(t:ck)(j:Nat): ∃b,w4 (ef m t) (j:Int)=some b∧(b=true↔ ∃i,i<m∧t.B i=j):=by
 unfold w4 Dn Ik
 obtain ⟨r,e,h⟩:=pK (f:=fun w:Int=>wE (ef m t) (j:Int) ((m:Nat):Int) w) (fun (i:Nat) (_:Unit)=>(i:Int)) m (fun i _=> ∀k,k<i→t.B k≠j)
  (fun r=>(∃i:Nat,r = .inr (i:Int)∧i<m∧t.B i=j)∨(r = .inl ()∧ ¬∃i,i<m∧t.B i=j))
  (fun i ah _ cV=>by
    unfold wE
    by_cases c:t.B i=j
    ·right
     exact ⟨_,dM (by omega) (bO (by unfold ef;rw [cQ];omega) (aI (x:=((t.B i:Nat):Int)) (by rw [Int.toNat_natCast];exact ga ah) (fw (by simp [c]) rfl))),.inl ⟨i,rfl,ah,c⟩⟩
    ·left
     refine ⟨(),dM (by omega) (bO (by unfold ef;rw [cQ];omega) (aI (x:=((t.B i:Nat):Int)) (by rw [Int.toNat_natCast];exact ga ah) (ib (by simp;omega) (by rw [fM (by omega)])))),fun k aJ=> ?_⟩
     by_cases e:k=i
     ·rw [e];exact c
     ·exact cV k (by omega))
  (fun _ cV=>⟨_,by unfold wE;exact er (by omega) rfl,.inr ⟨rfl,fun ⟨i,ah,e⟩=>cV i ah e⟩⟩) () (fun k aJ=>by omega)
 rw [gk,show (ef m t).length=m from cQ ..]
 rcases h with ⟨i,rfl,o,R⟩|⟨rfl,h⟩
 ·exact ⟨true,aI (x:=(i:Int)) (aI e rfl) (by simp),by simp only [true_iff];exact ⟨i,o,R⟩⟩
 ·exact ⟨false,aI (x:=(-1:Int)) (aI e rfl) rfl,by simp [h]⟩
theorem zM {m N M:Nat}{h:Nat→Nat}{w:Rat}{t:ck}{dN:List (List bc)}(fL:kh m N M h w t dN):(f8 m N h).all (uU dN)=true:=by
 rw [List.all_eq_true]
 intro x aa
 obtain ⟨i,ah,rfl⟩:=Yz.1 aa
 simp only [uU]
 have o:=fL.row i ah
 have R:dN.getD (h i) []=gz N w t i:=by rw [List.getD_eq_getElem?_getD,o];rfl
 rw [R,show (gz N w t i).length=N+1 from cQ ..]
 simp [(List.getElem?_eq_some_iff.1 o).1]
theorem uk {m N M:Nat}{h:Nat→Nat}{w:Rat}{t:ck}{dN:List (List bc)}(fL:kh m N M h w t dN):(f8 m N h).map (lS dN)=a7 m (gz N w t):=by
 unfold f8
 rw [YA]
 exact fc fun i ah=>by
  have R:dN.getD (h i) []=gz N w t i:=by rw [List.getD_eq_getElem?_getD,fL.row i ah];rfl
  simp only [lS]
  rw [R]
  exact List.take_of_length_le (Nat.le_of_eq (cQ ..))
theorem RU {m:Nat}{I:Nat→Rat}{t:ck}{j:Nat}:t.EF m 1 (fun _=>I) j↔0<t.di m I j:=aaQ (g:=fun _=>t.di m I j)
theorem Wy {dY m N M:Nat}{A:Nat→Nat→Rat}(hm:m≤20)(fV:N<1000){h:Nat→Nat}(inj:∀i,i<m→ ∀k,k<m→h i=h k→i=k){w:Rat}{t:ck}(ok:fN dY m N A t)(f:nM m N w t)(I:Nat→Int)(ai:∀j,j<N→ -100≤I j∧I j≤100)(c1:Nat→Bool)
 (ac6 : ∀r s,oL m N 1 (fun _ j=>(I j:Rat)) (fun j=>c1 j=true) t r s→se m N w t r s) {dN:List (List bc)} (fL:kh m N M h w t dN) :
 ∃x,vM (N:Int) (bL w).c6 (bL w).cK (f8 m N h) dN (ef m t) (a7 N c1) (a7 N I) 0=some x ∧
  ((x = .inl (false,(bL w).c6,(bL w).cK,dN,ef m t)∧ ∀j,j<N→c1 j=true→ ¬0<t.di m (fun j=>(I j:Rat)) j) ∨
   (∃r s iX,x = .inl (true,(bL (oA w t r s)).c6,(bL (oA w t r s)).cK,iX,ef m (t.cP r s))∧oL m N 1 (fun _ j=>(I j:Rat)) (fun j=>c1 j=true) t r s∧kh m N M h (oA w t r s) (t.cP r s) iX) ∨
   (x = .inr ()∧ ∃s,s<N∧c1 s=true∧0<t.di m (fun j=>(I j:Rat)) s∧ ∀i,i<m→ ¬0<t.T i s)):=by
 unfold vM
 refine pK (f:=fun q:Int=>vA (N:Int) (bL w).c6 (bL w).cK (f8 m N h) dN (ef m t) (a7 N c1) (a7 N I) q) (fun (i:Nat) (_:Unit)=>(i:Int)) N
  (fun n _=> ∀j,j<n→c1 j=true→ ¬0<t.di m (fun j=>(I j:Rat)) j) _ (fun n a5 _ cV=> ?_) (fun _ cV=> ?_) () (fun j aB=>by omega)
 ·have next : ∀(gM:c1 n=true→ ¬0<t.di m (fun j=>(I j:Rat)) n),∀j,j<n+1→c1 j=true→ ¬0<t.di m (fun j=>(I j:Rat)) j:=fun gM j aB=>by
   by_cases c:j=n
   ·subst c;exact gM
   ·exact cV j (by omega)
  have g1:0≤((n:Nat):Int)∧((n:Nat):Int)<((a7 N c1).length:Nat):=by rw [cQ];omega
  have g2:(a7 N c1)[(0+((n:Nat):Int).toNat)]? = some (c1 n):=by rw [Int.toNat_natCast];exact jt a5
  have ic:U ((n:Int)+1)=((n+1:Nat):Int):=fM (by omega)
  unfold vA
  by_cases pC:c1 n=true
  ·obtain ⟨b,gQ,h8⟩:=M8 (m:=m) (by omega) t n
   cases b with
   | true =>
    obtain ⟨i,ah,gO⟩:=h8.1 rfl
    left
    refine ⟨(),dM (by omega) (bO g1 (aI g2 (fw pC (aI gQ (fw rfl (by rw [ic])))))),next fun _=> ?_⟩
    rw [← gO,ok.w2 _ ah];grind
   | false =>
    have dy:=Pw hm fV f I ai ((⟨(bL w).c6,(bL w).cK⟩:bc)) rfl (N:Int) (a7 N c1) a5
    by_cases rC:0<t.di m (fun j=>(I j:Rat)) n
    ·obtain ⟨q,aW,bl⟩:=Wx hm fV f ((⟨(bL w).c6,(bL w).cK⟩:bc)) (a7 N c1) (k:=n) (by omega)
     have bX : ¬lp (t.di m (fun j=>(I j:Rat)) n)≤0:=by have:=sO.2 rC;omega
     right
     rcases bl with ⟨rfl,R⟩|⟨b,rfl,aV,lJ,ab,aA⟩
     ·exact ⟨_,dM (by omega) (bO g1 (aI g2 (fw pC (aI gQ (ib rfl (bO (zM fL) (aI (by rw [uk fL];exact dy) (er bX (aI (by rw [uk fL];exact aW) (dM (by decide) rfl)))))))))),.inr (.inr ⟨rfl,n,a5,pC,rC,R⟩)⟩
     ·have cS:oL m N 1 (fun _ j=>(I j:Rat)) (fun j=>c1 j=true) t b n:=⟨a5,pC,RU.2 rC,fun j aB b5 dy=>cV j aB b5 (RU.1 dy),aV,lJ,ab,aA⟩
      obtain ⟨iX,ax,aC⟩:=Px hm fV inj f (ac6 b n cS) fL (N:Int) (a7 N c1)
      exact ⟨_,dM (by omega) (bO g1 (aI g2 (fw pC (aI gQ (ib rfl (bO (zM fL) (aI (by rw [uk fL];exact dy) (er bX (aI (by rw [uk fL];exact aW) (er (by omega) (aI ax rfl))))))))))),.inr (.inl ⟨b,n,iX,rfl,cS,aC⟩)⟩
    ·left
     have bX:lp (t.di m (fun j=>(I j:Rat)) n)≤0:=by
      have : ¬0<lp (t.di m (fun j=>(I j:Rat)) n):=fun c=>rC (sO.1 c)
      omega
     exact ⟨(),dM (by omega) (bO g1 (aI g2 (fw pC (aI gQ (ib rfl (bO (zM fL) (aI (by rw [uk fL];exact dy) (dM bX (by rw [ic]))))))))),next fun _=>rC⟩
  ·left
   have Ez:c1 n=false:=by simpa using pC
   exact ⟨(),dM (by omega) (bO g1 (aI g2 (ib Ez (by rw [ic])))),next fun c=>(pC c).elim⟩
 ·exact ⟨_,by unfold vA;exact er (by omega) rfl,.inl ⟨rfl,cV⟩⟩
def s7 (N:Int)(p1:List b0)(free:List Bool)(obj:List Int)(s:Bool×List Int×List (List bc)×List Int):Option ((Bool×List Int×List (List bc)×List Int)⊕((Bool×List Int×List (List bc)×List Int)⊕(Bool×List Int×List (List bc)×List Int))) :=
 match vM N s.1 s.2.1 p1 s.2.2.1 s.2.2.2 free obj 0 with
 | none=>none
 | some (.inl (true,bI))=>some (.inl bI)
 | some (.inl (false,bI))=>some (.inr (.inl bI))
 | some (.inr ())=>some (.inr (.inr s))
theorem X3 {N:Int}{p1:List b0}{free:List Bool}{obj:List Int}: ∀s r,iter (s7 N p1 free obj) s=some r→BM N p1 free obj true s.1 s.2.1 s.2.2.1 s.2.2.2=some r:=by
 unfold BM
 apply iter.partial_correctness (s7 N p1 free obj) (fun s r=>iter (fun w:Bool×Bool×(List Int)×(List (List bc))×(List Int)=>tv N p1 free obj w.1 w.2.1 w.2.2.1 w.2.2.2.1 w.2.2.2.2) (true,s.1,s.2.1,s.2.2.1,s.2.2.2)=some r)
 intro it ih s r al
 cases aa:vM N s.1 s.2.1 p1 s.2.2.1 s.2.2.2 free obj 0 with
 | none=>unfold s7 at al;rw [aa] at al;simp at al
 | some x =>
  have hm:tv N p1 free obj true s.1 s.2.1 s.2.2.1 s.2.2.2=match x with
   | .inl fD=>(some (.inl (fD.1,fD.2.1,fD.2.2.1,fD.2.2.2.1,fD.2.2.2.2)))
   | .inr fD=>(some (.inr (.inr (s.1,s.2.1,s.2.2.1,s.2.2.2)))):=by
   unfold tv
   refine fw rfl ?_
   cases x with
   | inl a=>exact aI aa rfl
   | inr a=>exact aI aa rfl
  unfold s7 at al
  rw [aa] at al
  rw [iter]
  simp only
  rw [hm]
  match x,al with
  | .inl (true,bI),al=>exact ih _ _ al
  | .inl (false,bI),al =>
   simp at al
   subst al
   show iter _ (false,bI.1,bI.2.1,bI.2.2.1,bI.2.2.2)=_
   rw [iter]
   simp only
   unfold tv
   rfl
  | .inr (),al =>
   simp at al
   subst al
   rfl
theorem X4 {dY m N M:Nat}{A:Nat→Nat→Rat}(hm:m≤20)(fV:N<1000){h:Nat→Nat}{w:Rat}{t:ck}(ok:fN dY m N A t)(f:nM m N w t)(I:Nat→Int)(ai:∀j,j<N→ -100≤I j∧I j≤100)(c1:Nat→Bool){dN:List (List bc)}(fL:kh m N M h w t dN):
 BN (N:Int) (bL w).c6 (bL w).cK (f8 m N h) dN (ef m t) (a7 N I) 0 (a7 N c1)=some (a7 N fun j=>c1 j && !decide (t.di m (fun j=>(I j:Rat)) j<0)):=by
 unfold BN
 obtain ⟨s,e,-⟩:=iG (f:=fun q:Int×List Bool=>vB (N:Int) (bL w).c6 (bL w).cK (f8 m N h) dN (ef m t) (a7 N I) q.1 q.2)
  (fun (i:Nat) (_:Unit)=>((i:Int),a7 N fun j=>if j<i then c1 j && !decide (t.di m (fun j=>(I j:Rat)) j<0) else c1 j)) N (fun _ _=>True) (fun _=>a7 N fun j=>c1 j && !decide (t.di m (fun j=>(I j:Rat)) j<0))
  (fun n a5 _ _=>by
    refine ⟨(),?_,trivial⟩
    have same:c1 n=(c1 n && !decide (t.di m (fun j=>(I j:Rat)) n<0))→(U ((n:Int)+1),a7 N fun j=>if j<n then c1 j && !decide (t.di m (fun j=>(I j:Rat)) j<0) else c1 j)=(((n+1:Nat):Int),a7 N fun j=>if j<n+1 then c1 j && !decide (t.di m (fun j=>(I j:Rat)) j<0) else c1 j):=fun he=>by
     rw [fM (by omega)]
     congr 1
     refine fc fun j _=> ?_
     by_cases c:j=n
     ·subst c;rw [if_neg (by omega),if_pos (by omega)];exact he
     ·by_cases cI:j<n
      ·rw [if_pos cI,if_pos (by omega)]
      ·rw [if_neg cI,if_neg (by omega)]
    have g1 : ∀F:Nat→Bool,0≤((n:Nat):Int)∧((n:Nat):Int)<((a7 N F).length:Nat):=fun F=>by rw [cQ];omega
    have g2:(a7 N fun j=>if j<n then c1 j && !decide (t.di m (fun j=>(I j:Rat)) j<0) else c1 j)[(0+((n:Nat):Int).toNat)]? = some (c1 n):=by rw [Int.toNat_natCast,jt a5,if_neg (by omega)]
    unfold vB
    by_cases pC:c1 n=true
    ·obtain ⟨b,gQ,h8⟩:=M8 (m:=m) (by omega) t n
     cases b with
     | true =>
      obtain ⟨i,ah,gO⟩:=h8.1 rfl
      refine dM (by simp only;omega) (bO (g1 _) (aI g2 (fw pC (aI gQ (fw rfl ?_)))))
      simp only
      rw [same]
      rw [← gO,ok.w2 _ ah,decide_eq_false (by grind)];simp
     | false =>
      have dy:=Pw hm fV f I ai ((⟨(bL w).c6,(bL w).cK⟩:bc)) rfl (N:Int) (a7 N fun j=>if j<n then c1 j && !decide (t.di m (fun j=>(I j:Rat)) j<0) else c1 j) a5
      have bX:lp (t.di m (fun j=>(I j:Rat)) n)<0↔t.di m (fun j=>(I j:Rat)) n<0:=by
       unfold lp
       by_cases c:t.di m (fun j=>(I j:Rat)) n=0
       ·rw [if_pos c,c];constructor
        ·intro h;omega
        ·intro h;grind
       ·rw [if_neg c]
        by_cases cI:t.di m (fun j=>(I j:Rat)) n<0
        ·rw [if_pos cI];simp [cI]
        ·rw [if_neg cI];constructor
         ·intro h;omega
         ·intro h;exact (cI h).elim
      by_cases rC:t.di m (fun j=>(I j:Rat)) n<0
      ·refine dM (by simp only;omega) (bO (g1 _) (aI g2 (fw pC (aI gQ (ib rfl (bO (zM fL) (aI (by rw [uk fL];exact dy) (dM (bX.2 rC) (bO (by rw [cQ,Int.toNat_natCast];omega) ?_)))))))))
       simp only
       rw [fM (by omega),Int.toNat_natCast,Nat.zero_add,ke]
       congr 3
       refine fc fun j _=> ?_
       by_cases c:j=n
       ·subst c;rw [if_pos rfl,if_pos (by omega),decide_eq_true rC];simp
       ·rw [if_neg c]
        by_cases cI:j<n
        ·rw [if_pos cI,if_pos (by omega)]
        ·rw [if_neg cI,if_neg (by omega)]
      ·refine dM (by simp only;omega) (bO (g1 _) (aI g2 (fw pC (aI gQ (ib rfl (bO (zM fL) (aI (by rw [uk fL];exact dy) (er (fun c=>rC (bX.1 c)) ?_))))))))
       simp only
       rw [same]
       rw [decide_eq_false rC];simp
    ·have Ez:c1 n=false:=by simpa using pC
     refine dM (by simp only;omega) (bO (g1 _) (aI g2 (ib Ez ?_)))
     simp only
     rw [same]
     rw [Ez];simp)
  (fun _ _=>by
    unfold vB
    refine er (by simp) ?_
    simp only
    congr 2
    exact fc fun j aB=>by rw [if_pos aB]) () trivial
 have e0:(a7 N fun j=>if j<0 then c1 j && !decide (t.di m (fun j=>(I j:Rat)) j<0) else c1 j)=a7 N c1:=fc fun j _=>by rw [if_neg (by omega)]
 rw [e0] at e
 exact e
theorem Nv {dY m N M:Nat}{A:Nat→Nat→Rat}(hm:m≤20)(fV:N<1000){h:Nat→Nat}(inj:∀i,i<m→ ∀k,k<m→h i=h k→i=k)(I:Nat→Int)(ai:∀j,j<N→ -100≤I j∧I j≤100)(c1:Nat→Bool)
 (Inv:Rat→ck→Prop) (inv : ∀w t,Inv w t→fN dY m N A t∧t.kF m N∧nM m N w t)
 (gD : ∀w t r s,Inv w t→oL m N 1 (fun _ j=>(I j:Rat)) (fun j=>c1 j=true) t r s→se m N w t r s∧Inv (oA w t r s) (t.cP r s)) {w:Rat} {t:ck} (cV:Inv w t) {dN:List (List bc)} (fL:kh m N M h w t dN) :
 ∃b bD dm iX kl,rE (bL w).c6 (bL w).cK (N:Int) (f8 m N h) dN (ef m t) (a7 N c1) (a7 N I)=some (b,(bL bD).c6,(bL bD).cK,iX,ef m dm,a7 N kl)∧Inv bD dm∧kh m N M h bD dm iX ∧
  ((b=true∧(∀j,j<N→c1 j=true→ ¬0<dm.di m (fun j=>(I j:Rat)) j)∧kl=fun j=>c1 j && !decide (dm.di m (fun j=>(I j:Rat)) j<0))∨(b=false∧ ∃s,s<N∧c1 s=true∧0<dm.di m (fun j=>(I j:Rat)) s∧ ∀i,i<m→ ¬0<dm.T i s)):=by
 obtain ⟨ok,ls,Bn⟩:=inv w t cV
 obtain ⟨x,dx,dm,e,-,-,-,bD,iX,o,R,ab⟩:=Wh (dY:=dY) (m:=m) (N:=N) (K:=1) (A:=A) (obj:=fun _ j=>(I j:Rat)) (bN:=fun j=>c1 j=true)
  (f:=s7 (N:Int) (f8 m N h) (a7 N c1) (a7 N I))
  (fun s t=> ∃w dN,s=((bL w).c6,(bL w).cK,dN,ef m t)∧Inv w t∧kh m N M h w t dN)
  (fun s x t=> ∃w dN,Inv w t∧kh m N M h w t dN∧((x = .inl ((bL w).c6,(bL w).cK,dN,ef m t)∧ ∀j,j<N→c1 j=true→ ¬0<t.di m (fun j=>(I j:Rat)) j) ∨
    (x = .inr ((bL w).c6,(bL w).cK,dN,ef m t)∧ ∃s,s<N∧c1 s=true∧0<t.di m (fun j=>(I j:Rat)) s∧ ∀i,i<m→ ¬0<t.T i s)))
  (fun s t cJ ok _=>by
    obtain ⟨w,dN,rfl,cV,fL⟩:=cJ
    obtain ⟨x,e,aa⟩:=Wy hm fV inj ok (inv w t cV).2.2 I ai c1 (fun r s b=>(gD w t r s cV b).1) fL
    rcases aa with ⟨rfl,aa⟩|⟨r,s,iX,rfl,cS,Bk⟩|⟨rfl,aa⟩
    ·left
     exact ⟨_,by unfold s7;simp only;rw [e],w,dN,cV,fL,.inl ⟨rfl,aa⟩⟩
    ·right
     exact ⟨_,r,s,by unfold s7;simp only;rw [e],cS,oA w t r s,iX,rfl,(gD w t r s cV cS).2,Bk⟩
    ·left
     exact ⟨_,by unfold s7;simp only;rw [e],w,dN,cV,fL,.inr ⟨rfl,aa⟩⟩)
  (a:=((bL w).c6,(bL w).cK,dN,ef m t)) (t:=t) ⟨w,dN,rfl,cV,fL⟩ ok ls
 have aC:=X3 _ _ e
 obtain ⟨ki,ae7,acm⟩:=inv bD dm o
 rcases ab with ⟨rfl,ab⟩|⟨rfl,ab⟩
 ·refine ⟨true,bD,dm,iX,_,?_,o,R,.inl ⟨rfl,ab,rfl⟩⟩
  unfold rE
  exact aI aC (aI (X4 hm fV ki acm I ai c1 R) rfl)
 ·refine ⟨false,bD,dm,iX,c1,?_,o,R,.inr ⟨rfl,ab⟩⟩
  unfold rE
  exact aI aC rfl
def gL (m:Nat)(A:Nat→Nat→Rat)(t:ck):Rat:=if 0<t.D m A then t.D m A else -(t.D m A)
theorem Zo {m N:Nat}{A:Nat→Nat→Rat}{t:ck}(h:t.D m A≠0):0<gL m A t:=by
 unfold gL;split<;>grind
theorem DR {m K:Nat}{A:Nat→Nat→Rat}{t:ck}{x:Rat}(h:dl K (x*t.D m A)):dl K (x*gL m A t):=by
 unfold gL;split
 ·exact h
 ·have:=h.neg
  rw [show x * -(t.D m A) = -(x*t.D m A) by grind];exact this
theorem oQ.pY {m N:Nat}{A:Nat→Nat→Rat}(s:Small m N A){t:ck}(h:oQ m N A t):nM m N (gL m A t) t where
 pos:=Zo (N:=N) h.vn
 hw:=by
  have o:dl dR (1*t.D m A):=by rw [Rat.one_mul];exact h.acb s
  have:=DR o
  rw [Rat.one_mul] at this
  exact this.mono (by generalize dR=q;omega)
 hF:=fun i ah j aB=>DR (h.acd s ah aB)
 gO:=h.ok.jK
theorem oQ.uE {m N:Nat}{A:Nat→Nat→Rat}(s:Small m N A){t:ck}(h:oQ m N A t){r k:Nat}(al:r<m)(aJ:k<N)(af:t.T r k≠0):se m N (gL m A t) t r k where
 al:=al
 aJ:=aJ
 af:=af
 yr:=fun i ah j aB=>by
  have ki:=h.ok.cP al aJ af
  have o:dl dR ((t.cP r k).T i j*(t.cP r k).D m A):=by
   rw [← ki.vj ah aB]
   refine dl.mono (xy fun dt mi c aN=> ?_) (DQ▸xg (by omega) s.hm)
   simp only [fP]
   split
   ·exact s.n3 c aN j aB
   ·exact s.n3 c aN _ (Nat.le_of_lt (ki.jK dt mi))
  rw [h.ok.Aa al aJ] at o
  unfold gL
  split
  ·exact o
  ·have:=o.neg
   rw [show (t.cP r k).T i j*(t.T r k * -(t.D m A)) = -((t.cP r k).T i j*(t.T r k*t.D m A)) by grind];exact this
theorem Jl {m N:Nat}{A:Nat→Nat→Rat}{t:ck}(h:fN m m N A t)(bg:t.D m A≠0){r k:Nat}(al:r<m)(aJ:k<N)(af:t.T r k≠0):oA (gL m A t) t r k=gL m A (t.cP r k):=by
 have e:=h.Aa al aJ
 unfold oA gL
 rw [e]
 by_cases bF:0<t.T r k<;>by_cases cI:0<t.D m A
 ·rw [if_pos bF,if_pos cI,if_pos (Rat.mul_pos bF cI)]
 ·have:=Rat.mul_pos bF (show 0 < -(t.D m A) by grind)
  rw [if_pos bF,if_neg cI,if_neg (by grind)];grind
 ·have:=Rat.mul_pos (show 0 < -(t.T r k) by grind) cI
  rw [if_neg bF,if_pos cI,if_neg (by grind)]
 ·have:=Rat.mul_pos (show 0 < -(t.T r k) by grind) (show 0 < -(t.D m A) by grind)
  rw [if_neg bF,if_neg cI,if_pos (by grind)];grind
def hM (h:Nat→Nat)(t:ck):ck:=⟨fun i j=>t.T (h i) j,fun i=>t.B (h i)⟩
theorem zE {h:Nat→Nat}{t:ck}{r k i:Nat}(fv:h i=h r→i=r):(∀j,((hM h t).cP r k).T i j=(hM h (t.cP (h r) k)).T i j)∧((hM h t).cP r k).B i=(hM h (t.cP (h r) k)).B i:=by
 simp only [ck.cP,hM]
 by_cases c:i=r
 ·subst c;simp
 ·have:h i≠h r:=fun e=>c (fv e)
  simp [c,this]
theorem NX {α:Type}{m i:Nat}(ah:i<m)(f:Nat→α):(a7 m f).take (i-0)++((a7 m f).drop (0+(i+1))).take (m-(i+1))=a7 (m-1) (skip i f):=by
 apply List.ext_getElem?
 intro j
 rw [Nat.sub_zero,Nat.zero_add]
 have aO:((a7 m f).take i).length=i:=by rw [List.length_take,cQ];omega
 by_cases c:j<i
 ·rw [List.getElem?_append_left (by omega),List.getElem?_take,if_pos c,ga (by omega),ga (by omega)]
  simp only [skip];rw [if_pos c]
 ·rw [List.getElem?_append_right (by omega),aO,List.getElem?_take,List.getElem?_drop]
  by_cases cI:j<m-1
  ·rw [if_pos (by omega),ga (by omega),ga cI]
   simp only [skip];rw [if_neg c];congr 2;omega
  ·rw [if_neg (by omega)]
   symm
   rw [List.getElem?_eq_none_iff,cQ];omega
theorem VZ {m N M n:Nat}(fV:N<1000)(a5:n≤N){h:Nat→Nat}{w:Rat}{t:ck}(f:nM m N w t){dN:List (List bc)}(fL:kh m N M h w t dN){i:Nat}(ah:i<m)(gQ:Bool)(h8:List Int)(aU:Int)(bl:List Int)(cc:List Bool):
 ∃k:Nat,BU (n:Int) (i:Int) gQ h8 aU (f8 m N h) dN bl cc 0=some (k:Int)∧k≤n∧(k<n→t.T i k≠0)∧ ∀j,j<k→t.T i j=0:=by
 unfold BU
 obtain ⟨r,e,k,rfl,o,R,ab⟩:=pK (f:=fun q:Int=>vJ (n:Int) (i:Int) gQ h8 aU (f8 m N h) dN bl cc q) (fun (c:Nat) (_:Unit)=>(c:Int)) n (fun c _=> ∀j,j<c→t.T i j=0)
  (fun r=> ∃k:Nat,r=(k:Int)∧k≤n∧(k<n→t.T i k≠0)∧ ∀j,j<k→t.T i j=0)
  (fun c aN _ cV=>by
    have hw:=f.pos
    have bX:=sP ((f.hF i ah c (by omega)).mono (sd (by have:=pQ;generalize dR=q at *;omega)))
    unfold vJ
    by_cases EM:t.T i c=0
    ·left
     refine ⟨(),dM (by omega) (bO (by unfold f8;rw [cQ];omega) (aI (x:=some (h i,N+1)) (by rw [Int.toNat_natCast];exact jt ah) (aI (x:=(h i,N+1)) rfl (aI (fL.row i ah) (bO (by simp only;omega) (aI (x:=bL (t.T i c*w)) (by rw [Int.toNat_natCast];exact jt (by omega)) (aI bX (fw (by rw [xq hw,zD.2 EM];rfl) (by rw [fM (by omega)]))))))))),fun j aB=> ?_⟩
     by_cases e:j=c
     ·rw [e];exact EM
     ·exact cV j (by omega)
    ·right
     exact ⟨_,dM (by omega) (bO (by unfold f8;rw [cQ];omega) (aI (x:=some (h i,N+1)) (by rw [Int.toNat_natCast];exact jt ah) (aI (x:=(h i,N+1)) rfl (aI (fL.row i ah) (bO (by simp only;omega) (aI (x:=bL (t.T i c*w)) (by rw [Int.toNat_natCast];exact jt (by omega)) (aI bX (ib (by rw [xq hw];exact AZ (fun c=>EM (zD.1 c))) rfl)))))))),c,rfl,by omega,fun _=>EM,cV⟩)
  (fun _ cV=>⟨_,by unfold vJ;exact er (by omega) rfl,n,rfl,Nat.le_refl _,fun c=>by omega,cV⟩) () (fun j aB=>by omega)
 exact ⟨k,e,o,R,ab⟩
structure nb (m n N:Nat) (A:Nat→Nat→Rat) (t:ck) (a1:Nat) (h:Nat→Nat):Prop where
 inv:oQ m N A t
 z : ∀i,i<m→n≤t.B i→t.T i N=0
 le:a1≤m
 lt : ∀i,i<a1→h i<m
 inj : ∀i,i<a1→ ∀k,k<a1→h i=h k→i=k
 dead : ∀d,d<m→(∀i,i<a1→h i≠d)→n≤t.B d∧ ∀j,j<n→t.T d j=0
theorem nb.pY {m n N a1:Nat}{A:Nat→Nat→Rat}{t:ck}{h:Nat→Nat}(s:Small m N A)(a:nb m n N A t a1 h):nM a1 N (gL m A t) (hM h t) :=
 have f:=a.inv.pY s
 ⟨f.pos,f.hw,fun i ah j aB=>f.hF (h i) (a.lt i ah) j aB,fun i ah=>f.gO (h i) (a.lt i ah)⟩
theorem nb.uE {m n N a1:Nat}{A:Nat→Nat→Rat}{t:ck}{h:Nat→Nat}(s:Small m N A)(a:nb m n N A t a1 h){r k:Nat}(al:r<a1)(aJ:k<N)(af:t.T (h r) k≠0):se a1 N (gL m A t) (hM h t) r k :=
 have f:=a.inv.uE s (a.lt r al) aJ af
 ⟨al,aJ,af,fun i ah j aB=>by
  rw [(zE (t:=t) (k:=k) (a.inj i ah r al)).1 j]
  exact f.yr (h i) (a.lt i ah) j aB⟩
theorem nb.cP {m n N a1:Nat}{A:Nat→Nat→Rat}{t:ck}{h:Nat→Nat}(K3:n≤N)(a:nb m n N A t a1 h){r k:Nat}(al:r<a1)(aJ:k<n)(aV:n≤t.B (h r))(af:t.T (h r) k≠0):nb m n N A (t.cP (h r) k) a1 h:=by
 have cn:=a.z (h r) (a.lt r al) aV
 have fq : ∀i,(t.cP (h r) k).T i N=t.T i N:=fun i=>by
  simp only [ck.cP]
  split
  ·rename_i e;rw [e,cn];grind
  ·rw [cn];grind
 refine ⟨⟨a.inv.ok.cP (a.lt r al) (by omega) af,fun i ah=>by rw [fq];exact a.inv.ls i ah,?_⟩,fun i ah gO=> ?_,a.le,a.lt,a.inj,fun d bg gM=> ?_⟩
 ·rw [a.inv.ok.Aa (a.lt r al) (by omega)]
  have:=a.inv.vn
  grind
 ·rw [fq]
  simp only [ck.cP] at gO
  by_cases c:i=h r
  ·rw [if_pos c] at gO;omega
  ·rw [if_neg c] at gO;exact a.z i ah gO
 ·obtain ⟨o,R⟩:=a.dead d bg gM
  have cH:d≠h r:=fun e=>gM r al e.symm
  simp only [ck.cP,if_neg cH]
  refine ⟨o,fun j aB=> ?_⟩
  rw [R j aB,R k aJ];grind
theorem Xb {m n N:Nat}{A:Nat→Nat→Rat}(s:Small m N A)(fV:N<1000)(K3:n≤N)(free:List Bool){t:ck}(cr:oQ m N A t)(cn:∀i,i<m→n≤t.B i→t.T i N=0){dN:List (List bc)}(fL:kh m N m (fun i=>i) (gL m A t) t dN):
 ∃dm a1 h iX,yM (n:Int) (bL (gL m A t)).c6 (bL (gL m A t)).cK (N:Int) (f8 m N fun i=>i) dN (ef m t) free=some ((bL (gL m A dm)).c6,(bL (gL m A dm)).cK,f8 a1 N h,iX,ef a1 (hM h dm)) ∧
  nb m n N A dm a1 h∧(∀i,i<a1→dm.B (h i)<n)∧kh a1 N m h (gL m A dm) (hM h dm) iX:=by
 have hm:=s.hm
 unfold yM FV
 obtain ⟨x,e,dm,a1,h,iX,rfl,o,R,ab⟩:=jO (f:=fun w:Int×Bool×(List Int)×(List b0)×(List (List bc))×(List Int)=>yG (n:Int) (N:Int) free w.1 w.2.1 w.2.2.1 w.2.2.2.1 w.2.2.2.2.1 w.2.2.2.2.2)
  (fun w=> ∃(i a1:Nat) (h:Nat→Nat) (t:ck) (p:List (List bc)),w=((i:Int),(bL (gL m A t)).c6,(bL (gL m A t)).cK,f8 a1 N h,p,ef a1 (hM h t))∧i≤a1∧nb m n N A t a1 h∧(∀q,q<i→t.B (h q)<n)∧kh a1 N m h (gL m A t) (hM h t) p)
  (fun w=>w.2.2.2.1.length-w.1.toNat)
  (fun x=> ∃dm a1 h iX,x=((bL (gL m A dm)).c6,(bL (gL m A dm)).cK,f8 a1 N h,iX,ef a1 (hM h dm))∧nb m n N A dm a1 h∧(∀i,i<a1→dm.B (h i)<n)∧kh a1 N m h (gL m A dm) (hM h dm) iX)
  (fun w hw=>by
    obtain ⟨i,a1,h,t,p,rfl,ah,bE,bb,af⟩:=hw
    have kj:=bE.le
    have sr:(f8 a1 N h).length=a1:=cQ ..
    have K4:(ef a1 (hM h t)).length=a1:=cQ ..
    simp only
    unfold yG
    by_cases c:i<a1
    ·left
     have g1:0≤(i:Int)∧(i:Int)<((ef a1 (hM h t)).length:Nat):=by rw [K4];omega
     have g2:(ef a1 (hM h t))[(0+((i:Int)).toNat)]? = some ((t.B (h i):Nat):Int):=by rw [Int.toNat_natCast];exact jt c
     by_cases EN:t.B (h i)<n
     ·refine ⟨(((i+1:Nat):Int),(bL (gL m A t)).c6,(bL (gL m A t)).cK,f8 a1 N h,p,ef a1 (hM h t)),dM (by rw [sr];omega) (bO g1 (aI g2 (dM (by omega) (by rw [fM (by omega)])))),⟨i+1,a1,h,t,p,rfl,by omega,bE,fun q mQ=> ?_,af⟩,by simp only [sr];omega⟩
      by_cases e:q=i
      ·rw [e];exact EN
      ·exact bb q (by omega)
     ·obtain ⟨k,ka,jq,nu,Lq⟩:=VZ fV K3 (bE.pY s) af c (bL (gL m A t)).c6 (bL (gL m A t)).cK (N:Int) (ef a1 (hM h t)) free
      by_cases Lt:k<n
      ·have K5:t.T (h i) k≠0:=nu Lt
       obtain ⟨jM,ax,aC⟩:=Px (by omega) fV bE.inj (bE.pY s) (bE.uE s c (by omega) K5) af (N:Int) free
       have ts:oA (gL m A t) (hM h t) i k=gL m A (t.cP (h i) k):=Jl bE.inv.ok bE.inv.vn (bE.lt i c) (by omega) K5
       have ac7:ef a1 ((hM h t).cP i k)=ef a1 (hM h (t.cP (h i) k)):=fc fun q mQ=>by
        have:=(zE (t:=t) (k:=k) (bE.inj q mQ i c)).2
        rw [this]
       rw [ts,ac7] at ax
       rw [ts] at aC
       refine ⟨(((i+1:Nat):Int),(bL (gL m A (t.cP (h i) k))).c6,(bL (gL m A (t.cP (h i) k))).cK,f8 a1 N h,jM,ef a1 (hM h (t.cP (h i) k))),dM (by rw [sr];omega) (bO g1 (aI g2 (er (by omega) (aI ka (dM (by omega) (aI ax (by rw [fM (by omega)]))))))),⟨i+1,a1,h,t.cP (h i) k,jM,rfl,by omega,bE.cP K3 c Lt (by omega) K5,fun q mQ=> ?_,aC.len,fun q mQ=> ?_⟩,by simp only [sr];omega⟩
       ·simp only [ck.cP]
        split
        ·exact Lt
        ·rename_i cH
         have:q≠i:=fun e=>cH (by rw [e])
         exact bb q (by omega)
       ·rw [aC.row q mQ]
        congr 1
        exact fc fun j _=>by rw [(zE (t:=t) (k:=k) (bE.inj q mQ i c)).1 j]
      ·have ae8:k=n:=by omega
       have u9:U ((i:Int)+1)=((i+1:Nat):Int):=fM (by omega)
       have KT:(((f8 a1 N h).drop (0+(i+1))).take (a1-(i+1))).length=a1-(i+1):=by rw [List.length_take,List.length_drop,sr];omega
       have Ek:(((ef a1 (hM h t)).drop (0+(i+1))).take (a1-(i+1))).length=a1-(i+1):=by rw [List.length_take,List.length_drop,K4];omega
       have bW:(f8 a1 N h).take (i-0)++((f8 a1 N h).drop (0+(i+1))).take (a1-(i+1))=f8 (a1-1) N (skip i h):=NX c _
       have dB:(ef a1 (hM h t)).take (i-0)++((ef a1 (hM h t)).drop (0+(i+1))).take (a1-(i+1))=ef (a1-1) (hM (skip i h) t):=NX c _
       refine ⟨((i:Int),(bL (gL m A t)).c6,(bL (gL m A t)).cK,f8 (a1-1) N (skip i h),p,ef (a1-1) (hM (skip i h) t)),dM (by rw [sr];omega) (bO g1 (aI g2 (er (by omega) (aI ka (er (by omega) ?_))))),⟨i,a1-1,skip i h,t,p,rfl,by omega,⟨bE.inv,bE.z,by omega,fun q mQ=> ?_,fun q mQ bl xV e=> ?_,fun d bg gM=> ?_⟩,fun q mQ=> ?_,af.len,fun q mQ=> ?_⟩,?_⟩
       ·rw [u9,Int.toNat_natCast,Int.toNat_natCast,sr,K4,KT,Ek,bW,dB]
        exact bO (by omega) (bO (by omega) (bO (by omega) (bO (by omega) (bO (by omega) (bO (by omega) (bO (by omega) (bO (by omega) (bO (by omega) (bO (by omega) (bO (by omega) (bO (by omega) rfl)))))))))))
       ·simp only [skip];split<;>exact bE.lt _ (by omega)
       ·simp only [skip] at e
        have:=bE.inj _ (by split<;>omega) _ (by split<;>omega) e
        split at this<;>split at this<;>omega
       ·by_cases Se:d=h i
        ·rw [Se]
         exact ⟨by omega,fun j aB=>Lq j (by omega)⟩
        ·refine bE.dead d bg fun q mQ=> ?_
         by_cases bF:q<i
         ·have:=gM q (by omega);simp only [skip] at this;rw [if_pos bF] at this;exact this
         ·by_cases cI:q=i
          ·rw [cI];exact fun e=>Se e.symm
          ·have:=gM (q-1) (by omega);simp only [skip] at this;rw [if_neg (by omega),show q-1+1=q by omega] at this;exact this
       ·simp only [skip];rw [if_pos mQ];exact bb q mQ
       ·simp only [skip]
        by_cases bF:q<i
        ·rw [if_pos bF,af.row q (by omega)];congr 1
         exact fc fun j _=>by simp only [hM,skip];rw [if_pos bF]
        ·rw [if_neg bF,af.row (q+1) (by omega)];congr 1
         exact fc fun j _=>by simp only [hM,skip];rw [if_neg bF]
       ·simp only [sr,show (f8 (a1-1) N (skip i h)).length=a1-1 from cQ ..];omega
    ·right
     have acn:i=a1:=by omega
     subst acn
     exact ⟨_,er (by rw [sr];omega) rfl,t,i,h,p,rfl,bE,bb,af⟩)
  ((0:Int),(bL (gL m A t)).c6,(bL (gL m A t)).cK,f8 m N (fun i=>i),dN,ef m t)
  ⟨0,m,fun i=>i,t,dN,rfl,by omega,⟨cr,cn,Nat.le_refl _,fun i ah=>ah,fun i _ k _ e=>e,fun d bg gM=>(gM d bg rfl).elim⟩,fun q bb=>by omega,fL.len,fL.row⟩
 exact ⟨dm,a1,h,iX,aI e rfl,o,R,ab⟩
end Go.Proofs.YtgfpnhmcmgnepadGreat
