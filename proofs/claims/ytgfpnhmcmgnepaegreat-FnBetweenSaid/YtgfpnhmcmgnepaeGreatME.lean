/- Lemmas, plain functions of the program, and what they answer. No condition. -/
import Derived.Test.YtgfpnhmcmgnepaeGreatMD
namespace Go.Proofs.YtgfpnhmcmgnepaeGreat
set_option linter.unusedVariables false
set_option linter.unusedSimpArgs false
open Go Go.VL
def JO (aS sF tA:Int):Option Bool :=
 if (decide (sF≤aS))=true then
  some (decide (aS≤tA))
 else
  some false
def z4 (bf:List Int)(aS:Int):Option ((Int)⊕(Int)) :=
 if (decide ((0:Int)<aS))=true then
  if 0≤(U (aS-(1:Int)))∧(U (aS-(1:Int)))<bf.length then
  bf[(U (aS-(1:Int))).toNat]? >>= fun aQ =>
  if (aQ == (0:Int))=true then
   some (.inl (U (aS-(1:Int))))
  else
   some (.inr aS)
  else none
 else
  some (.inr aS)
def Oe (bf:List Int)(aS:Int):Option (Int):=iter (fun w:Int=>z4 bf w) aS
def vg (bf:List Int):Option (List Int) :=
 Oe bf (len_ I bf) >>= fun aq =>
 if 0≤aq then
 if 0≤aq.toNat∧aq.toNat≤bf.length then
 some ((bf.drop 0).take (aq.toNat-0))
 else none
 else none
def Dn (aS:Int)(au:List Int):Option ((Int×(List Int))⊕((List Int))) :=
 if (decide ((0:Int)<aS))=true then
  if (au++([aS.tmod (1000000000:Int)]:List Int)).length*8≤140737488355328 then
  some (.inl (U (aS.tdiv (1000000000:Int)),au++([aS.tmod (1000000000:Int)]:List Int)))
  else none
 else
  some (.inr au)
def Oz (aS:Int)(au:List Int):Option ((List Int)):=iter (fun w:Int×(List Int)=>Dn w.1 w.2) (aS,au)
def yr (aS:Int):Option (List Int) :=
 Oz aS ([]:List Int) >>= fun aq =>
 some aq
def JD (bf:List Int):Option Bool :=
 if ((len_ I bf) == (1:Int))=true then
  if 0≤(0:Int)∧(0:Int)<bf.length then
  bf[0]? >>= fun aQ =>
  some (aQ == (1:Int))
  else none
 else
  some false
def Dj (bf bd:List Int)(a8:Int):Option ((Int)⊕((Unit)⊕(Int))) :=
 if (decide ((0:Int)≤a8))=true then
  if 0≤a8∧a8<bf.length then
  bf[a8.toNat]? >>= fun aQ =>
  if 0≤a8∧a8<bd.length then
  bd[a8.toNat]? >>= fun cP =>
  if (decide (aQ<cP))=true then
   some (.inr (.inr (-1)))
  else
   if (decide (cP<aQ))=true then
    some (.inr (.inr 1))
   else
    some (.inl (U (a8-(1:Int))))
  else none
  else none
 else
  some (.inr (.inl ()))
def Ok (bf bd:List Int)(a8:Int):Option ((Unit)⊕(Int)):=iter (fun w:Int=>Dj bf bd w) a8
def yl (bf bd:List Int):Option Int :=
 if ((len_ I bf) != (len_ I bd))=true then
  if (decide ((len_ I bf)<(len_ I bd)))=true then
   some (-1)
  else
   some 1
 else
  Ok bf bd (U ((len_ I bf)-(1:Int))) >>= fun bE =>
  match bE with
  | .inl f7=>(some 0)
  | .inr f7=>(some f7)
def z8 (bf bd:List Int)(c6 qS cL:Int)(au:List Int):Option ((Int×Int×(List Int))⊕((List Int))) :=
 if (decide (cL<c6))=true then
  if 0≤cL∧cL<bf.length then
  bf[cL.toNat]? >>= fun aQ =>
  if (decide (cL<(len_ I bd)))=true then
   if 0≤cL∧cL<bd.length then
   bd[cL.toNat]? >>= fun gR =>
   if (decide ((U ((U (aQ-qS))-gR))<(0:Int)))=true then
    if (au++([U ((U ((U (aQ-qS))-gR))+(1000000000:Int))]:List Int)).length*8≤140737488355328 then
    some (.inl (1,U (cL+(1:Int)),au++([U ((U ((U (aQ-qS))-gR))+(1000000000:Int))]:List Int)))
    else none
   else
    if (au++([U ((U (aQ-qS))-gR)]:List Int)).length*8≤140737488355328 then
    some (.inl (0,U (cL+(1:Int)),au++([U ((U (aQ-qS))-gR)]:List Int)))
    else none
   else none
  else
   if (decide ((U (aQ-qS))<(0:Int)))=true then
    if (au++([U ((U (aQ-qS))+(1000000000:Int))]:List Int)).length*8≤140737488355328 then
    some (.inl (1,U (cL+(1:Int)),au++([U ((U (aQ-qS))+(1000000000:Int))]:List Int)))
    else none
   else
    if (au++([U (aQ-qS)]:List Int)).length*8≤140737488355328 then
    some (.inl (0,U (cL+(1:Int)),au++([U (aQ-qS)]:List Int)))
    else none
  else none
 else
  some (.inr au)
def Ol (bf bd:List Int)(c6 qS cL:Int)(au:List Int):Option ((List Int)):=iter (fun w:Int×Int×(List Int)=>z8 bf bd c6 w.1 w.2.1 w.2.2) (qS,cL,au)
def JE (bf bd:List Int):Option (List Int) :=
 Ol bf bd (len_ I bf) 0 0 ([]:List Int) >>= fun aq =>
 vg aq >>= fun a9 =>
 some a9
def Dp (bf:List Int)(lW eC:Int):Option ((Int)⊕((Unit)⊕(Unit))) :=
 if (decide (eC<lW))=true then
  if 0≤eC∧eC<bf.length then
  bf[eC.toNat]? >>= fun aQ =>
  JO aQ 0 999999999 >>= fun ba =>
  if ba=true then
   some (.inl (U (eC+(1:Int))))
  else
   some (.inr (.inr ()))
  else none
 else
  some (.inr (.inl ()))
def OA (bf:List Int)(lW eC:Int):Option ((Unit)⊕(Unit)):=iter (fun w:Int=>Dp bf lW w) eC
def ys (bf:List Int):Option Bool :=
 OA bf (len_ I bf) 0 >>= fun aq =>
 match aq with
 | .inl bK=>(if (decide ((len_ I bf)≤(60:Int)))=true then
  if ((len_ I bf) == (0:Int))=true then
   some true
  else
   if 0≤(U ((len_ I bf)-(1:Int)))∧(U ((len_ I bf)-(1:Int)))<bf.length then
   bf[(U ((len_ I bf)-(1:Int))).toNat]? >>= fun gR =>
   some (gR != (0:Int))
   else none
  else
   some false)
 | .inr bK=>(some false)
def Dc (bf:List Int)(aS a8:Int):Option ((Int×Int)⊕(Int)) :=
 if (decide ((0:Int)≤a8))=true then
  if 0≤a8∧a8<bf.length then
  bf[a8.toNat]? >>= fun aQ =>
  some (.inl (U ((U (aS*(1000000000:Int)))+aQ),U (a8-(1:Int))))
  else none
 else
  some (.inr aS)
def N2 (bf:List Int)(aS a8:Int):Option (Int):=iter (fun w:Int×Int=>Dc bf w.1 w.2) (aS,a8)
def DT (bf:List Int):Option (Int×Bool) :=
 ys bf >>= fun aq =>
 if aq=true then
  yl bf ([854775807,223372036,9]:List Int) >>= fun aW =>
  if (decide ((0:Int)<aW))=true then
   some (0,false)
  else
   N2 bf 0 (U ((len_ I bf)-(1:Int))) >>= fun bI =>
   some (bI,true)
 else
  some (0,false)
def Dd (ch eQ:Int):Option ((Int×Int)⊕(Int)) :=
 if (decide ((0:Int)<eQ))=true then
  if eQ≠0 then
  some (.inl (eQ,ch.tmod eQ))
  else none
 else
  some (.inr ch)
def N3 (ch eQ:Int):Option (Int):=iter (fun w:Int×Int=>Dd w.1 w.2) (ch,eQ)
def Jm (ch eQ:Int):Option (List Int) :=
 N3 ch eQ >>= fun aq =>
 yr aq >>= fun a9 =>
 some a9
def De (bf:List Int)(wy hQ a8:Int)(au:List Int):Option ((Int×Int×(List Int))⊕(Int×(List Int))) :=
 if (decide ((0:Int)≤a8))=true then
  if 0≤a8∧a8<bf.length then
  bf[a8.toNat]? >>= fun aQ =>
  if wy≠0 then
  if 0≤a8∧a8<(au.length:Nat) then
  if (0+a8.toNat)<au.length then
  some (.inl ((U ((U (hQ*(1000000000:Int)))+aQ)).tmod wy,U (a8-(1:Int)),au.set (0+a8.toNat) (U ((U ((U (hQ*(1000000000:Int)))+aQ)).tdiv wy))))
  else none
  else none
  else none
  else none
 else
  some (.inr (hQ,au))
def IZ (bf:List Int)(wy hQ a8:Int)(au:List Int):Option (Int×(List Int)):=iter (fun w:Int×Int×(List Int)=>De bf wy w.1 w.2.1 w.2.2) (hQ,a8,au)
def Jn (bf:List Int)(wy:Int):Option ((List Int)×Int) :=
 if 0≤(len_ I bf)∧(8:Int)*(len_ I bf)≤281474976710656∧(len_ I bf)<9223372036854775808 then
 IZ bf wy 0 (U ((len_ I bf)-(1:Int))) (List.replicate (len_ I bf).toNat 0:List Int) >>= fun bE =>
 vg bE.2 >>= fun aW =>
 some (aW,bE.1)
 else none
def Dk (bd:List Int)(a8 ch:Int)(dA:List Int)(d2 dx eA db:Int)(au:List Int):Option ((Int×Int×(List Int))⊕(Int×(List Int))) :=
 if (decide (db<dx))=true then
  if 0≤db∧db<bd.length then
  bd[db.toNat]? >>= fun aQ =>
  if 0≤(U (a8+db))∧(U (a8+db))<(au.length:Nat) then
  au[(0+(U (a8+db)).toNat)]? >>= fun cP =>
  if (0+(U (a8+db)).toNat)<au.length then
  some (.inl (U ((U ((U (cP+(U (ch*aQ))))+eA)).tdiv (1000000000:Int)),U (db+(1:Int)),au.set (0+(U (a8+db)).toNat) ((U ((U (cP+(U (ch*aQ))))+eA)).tmod (1000000000:Int))))
  else none
  else none
  else none
 else
  some (.inr (eA,au))
def Om (bd:List Int)(a8 ch:Int)(dA:List Int)(d2 dx eA db:Int)(au:List Int):Option (Int×(List Int)):=iter (fun w:Int×Int×(List Int)=>Dk bd a8 ch dA d2 dx w.1 w.2.1 w.2.2) (eA,db,au)
def Is (bd dA:List Int)(d2 gi:Int)(au:List Int):Option ((Int×(List Int))⊕((List Int))) :=
 if (decide (gi<d2))=true then
  if 0≤gi∧gi<dA.length then
  dA[gi.toNat]? >>= fun aQ =>
  Om bd gi aQ dA d2 (len_ I bd) 0 0 au >>= fun ba =>
  if 0≤(U (gi+(len_ I bd)))∧(U (gi+(len_ I bd)))<(ba.2.length:Nat) then
  if (0+(U (gi+(len_ I bd))).toNat)<ba.2.length then
  some (.inl (U (gi+(1:Int)),ba.2.set (0+(U (gi+(len_ I bd))).toNat) ba.1))
  else none
  else none
  else none
 else
  some (.inr au)
def DN (bd dA:List Int)(d2 gi:Int)(au:List Int):Option ((List Int)):=iter (fun w:Int×(List Int)=>Is bd dA d2 w.1 w.2) (gi,au)
def D7 (bf bd:List Int):Option (List Int) :=
 if ((len_ I bf) == (0:Int))=true then
  some ([]:List Int)
 else
  if ((len_ I bd) == (0:Int))=true then
   some ([]:List Int)
  else
   if 0≤(U ((len_ I bf)+(len_ I bd)))∧(8:Int)*(U ((len_ I bf)+(len_ I bd)))≤281474976710656∧(U ((len_ I bf)+(len_ I bd)))<9223372036854775808 then
   DN bd bf (len_ I bf) 0 (List.replicate (U ((len_ I bf)+(len_ I bd))).toNat 0:List Int) >>= fun aW =>
   vg aW >>= fun a5 =>
   some a5
   else none
def z1 (c5 bd:List Int)(sF tA:Int):Option ((Int×Int)⊕(Int)) :=
 if (decide (sF<tA))=true then
  yr (U ((U ((U (sF+tA))+(1:Int))).tdiv (2:Int))) >>= fun bE =>
  D7 bd bE >>= fun aW =>
  yl aW c5 >>= fun a5 =>
  if (decide (a5≤(0:Int)))=true then
   some (.inl (U ((U ((U (sF+tA))+(1:Int))).tdiv (2:Int)),tA))
  else
   some (.inl (sF,U ((U ((U ((U (sF+tA))+(1:Int))).tdiv (2:Int)))-(1:Int))))
 else
  some (.inr sF)
def I0 (c5 bd:List Int)(sF tA:Int):Option (Int):=iter (fun w:Int×Int=>z1 c5 bd w.1 w.2) (sF,tA)
def Jo (c5 bd:List Int):Option Int :=
 if 0≤(U ((len_ I bd)-(1:Int)))∧(U ((len_ I bd)-(1:Int)))<c5.length then
 c5[(U ((len_ I bd)-(1:Int))).toNat]? >>= fun fk =>
 if (decide ((len_ I bd)<(len_ I c5)))=true then
  if 0≤(len_ I bd)∧(len_ I bd)<c5.length then
  c5[(len_ I bd).toNat]? >>= fun cP =>
  if 0≤(U ((len_ I bd)-(1:Int)))∧(U ((len_ I bd)-(1:Int)))<bd.length then
  bd[(U ((len_ I bd)-(1:Int))).toNat]? >>= fun gD =>
  if (U (gD+(1:Int)))≠0 then
  if gD≠0 then
  I0 c5 bd (U ((U (fk+(U (cP*(1000000000:Int))))).tdiv (U (gD+(1:Int))))) (if (U ((U (fk+(U (cP*(1000000000:Int))))).tdiv gD))<(999999999:Int) then (U ((U (fk+(U (cP*(1000000000:Int))))).tdiv gD)) else (999999999:Int)) >>= fun dp =>
  some dp
  else none
  else none
  else none
  else none
 else
  if 0≤(U ((len_ I bd)-(1:Int)))∧(U ((len_ I bd)-(1:Int)))<bd.length then
  bd[(U ((len_ I bd)-(1:Int))).toNat]? >>= fun cP =>
  if (U (cP+(1:Int)))≠0 then
  if cP≠0 then
  I0 c5 bd (U (fk.tdiv (U (cP+(1:Int))))) (if (U (fk.tdiv cP))<(999999999:Int) then (U (fk.tdiv cP)) else (999999999:Int)) >>= fun dc =>
  some dc
  else none
  else none
  else none
 else none
def Dl (bf bd hQ:List Int)(a8:Int)(au:List Int):Option (((List Int)×Int×(List Int))⊕((List Int)×(List Int))) :=
 if (decide ((0:Int)≤a8))=true then
  if 0≤a8∧a8<bf.length then
  bf[a8.toNat]? >>= fun aQ =>
  if (([aQ]:List Int)++hQ).length*8≤140737488355328 then
  vg (([aQ]:List Int)++hQ) >>= fun a5 =>
  yl a5 bd >>= fun dW =>
  if (decide (dW<(0:Int)))=true then
   some (.inl (a5,U (a8-(1:Int)),au))
  else
   Jo a5 bd >>= fun cI =>
   if 0≤a8∧a8<(au.length:Nat) then
   if (0+a8.toNat)<au.length then
   yr cI >>= fun dS =>
   D7 bd dS >>= fun ix =>
   JE a5 ix >>= fun zI =>
   some (.inl (zI,U (a8-(1:Int)),au.set (0+a8.toNat) cI))
   else none
   else none
  else none
  else none
 else
  some (.inr (hQ,au))
def On (bf bd hQ:List Int)(a8:Int)(au:List Int):Option ((List Int)×(List Int)):=iter (fun w:(List Int)×Int×(List Int)=>Dl bf bd w.1 w.2.1 w.2.2) (hQ,a8,au)
def D8 (bf bd:List Int):Option ((List Int)×(List Int)) :=
 if ((len_ I bd) == (1:Int))=true then
  if 0≤(0:Int)∧(0:Int)<bd.length then
  bd[0]? >>= fun aQ =>
  Jn bf aQ >>= fun ba =>
  yr ba.2 >>= fun bI =>
  some (ba.1,bI)
  else none
 else
  if 0≤(len_ I bf)∧(8:Int)*(len_ I bf)≤281474976710656∧(len_ I bf)<9223372036854775808 then
  On bf bd ([]:List Int) (U ((len_ I bf)-(1:Int))) (List.replicate (len_ I bf).toNat 0:List Int) >>= fun a9 =>
  vg a9.2 >>= fun ba =>
  some (ba,a9.1)
  else none
def z9 (ch eQ:List Int):Option (((List Int)×(List Int))⊕(((List Int))⊕((List Int)))) :=
 if (decide ((0:Int)<(len_ I eQ)))=true then
  if (decide ((len_ I ch)<(3:Int)))=true then
   if (decide ((len_ I eQ)<(3:Int)))=true then
    DT ch >>= fun aW =>
    DT eQ >>= fun a5 =>
    Jm aW.1 a5.1 >>= fun dW =>
    some (.inr (.inr dW))
   else
    D8 ch eQ >>= fun aW =>
    some (.inl (eQ,aW.2))
  else
   D8 ch eQ >>= fun a9 =>
   some (.inl (eQ,a9.2))
 else
  some (.inr (.inl ch))
def Oo (ch eQ:List Int):Option (((List Int))⊕((List Int))):=iter (fun w:(List Int)×(List Int)=>z9 w.1 w.2) (ch,eQ)
def JF (bf bd:List Int):Option (List Int) :=
 if (([]:List Int)++bf).length*8≤140737488355328 then
 if (([]:List Int)++bd).length*8≤140737488355328 then
 Oo (([]:List Int)++bf) (([]:List Int)++bd) >>= fun a9 =>
 match a9 with
 | .inl nK=>(some nK)
 | .inr nK=>(some nK)
 else none
 else none
def Jp (ch:bg):Option Bool :=
 ys ch.cB >>= fun aq =>
 if aq=true then
  if ch.cY=true then
   some (decide ((0:Int)<(len_ I ch.cB)))
  else
   some true
 else
  some false
def Pj (c5:c4):Option Bool :=
 Jp c5.fN >>= fun aq =>
 if aq=true then
  ys c5.gE >>= fun aW =>
  if aW=true then
   if ((len_ I c5.gE) == (0:Int))=true then
    some false
   else
    if (decide ((24:Int)<(len_ I c5.gE)))=true then
     some false
    else
     if (decide ((24:Int)<(len_ I c5.fN.cB)))=true then
      some false
     else
      JF c5.fN.cB c5.gE >>= fun dc =>
      JD dc >>= fun eW =>
      some eW
  else
   some false
 else
  some false
theorem ql {n:Nat}(h:n≤10000000):U ((n:Int)+1)=((n+1:Nat):Int):=by rw [cX (by omega) (by omega)];rfl
theorem qY {n:Nat}(h:n≤10000000):U ((n:Int)-1)=(n:Int)-1:=cX (by omega) (by omega)
theorem K0 {n:Nat}(h:n≤10000000):U (((n+1:Nat):Int)-1)=n:=by rw [cX (by omega) (by omega)];omega
theorem gP (l:List Int):len_ I l=l.length:=gv _ l
theorem Yn {l:List Int}{k:Nat}{x:Int}(aa:l[k]? = some x)(a0:l.length≤5000000):z4 l ((k+1:Nat):Int)=some (if x=0 then .inl (k:Int) else .inr ((k+1:Nat):Int)):=by
 have aX:=f9 aa
 unfold z4
 rw [K0 (by omega),if_pos (by simp),if_pos (by omega),Int.toNat_natCast,aa]
 by_cases h:x=0<;>simp [h]
theorem AJ {l:List Int}(aL:cN l)(a0:l.length≤5000000):vg l=some (L (V l)):=by
 have : ∃r,iter (fun w:Int=>z4 l w) (l.length:Int)=some r∧ ∃k:Nat,r=k∧k≤l.length∧l.take k=L (V l):=by
  refine kB (eS:=fun w:Int=> ∃k:Nat,w=k∧k≤l.length∧V (l.take k)=V l) (m:=fun w:Int=>w.toNat) _ ?_ _ ⟨l.length,rfl,by omega,by simp⟩
  rintro _ ⟨k,rfl,aX,a3⟩
  cases k with
  | zero =>
   refine .inr ⟨0,by simp [z4],0,rfl,by omega,?_⟩
   rw [← a3]
   simp [V,pI]
  | succ k =>
   have aa:=List.getElem?_eq_getElem (show k<l.length by omega)
   rw [Yn aa a0]
   by_cases h:l[k]=0
   ·refine .inl ⟨_,by simp [h],⟨k,rfl,by omega,?_⟩,by omega⟩
    have:=ti aa
    rw [h] at this
    simp at this
    omega
   ·refine .inr ⟨_,by simp [h],k+1,rfl,aX,?_⟩
    rcases fg.Ko aL k (fun x o=>by rw [aa] at o;simp at o;omega) with o|o
    ·exact vR o a3
    ·omega
 obtain ⟨r,ap,k,rfl,o,J⟩:=this
 unfold vg Oe
 rw [gP,ap]
 simp [o,J]
theorem yN {l:List Int}(aL:cN l)(a0:l.length≤5000000):qM l=some (L (V l)):=by
 have : ∃r,iter (fun w:List Int=>xU w) l=some r∧r=L (V l):=by
  refine kB (eS:=fun w=> ∃k:Nat,w=l.take k∧k≤l.length∧V (l.take k)=V l) (m:=fun w:List Int=>w.length) _ ?_ _ ⟨l.length,by simp,by omega,by simp⟩
  rintro _ ⟨k,rfl,aX,a3⟩
  have hlen:(l.take k).length=k:=by simp;omega
  cases k with
  | zero =>
   refine .inr ⟨[],by simp [xU,gP],?_⟩
   rw [← a3]
   simp [V,pI]
  | succ k =>
   have aa:=List.getElem?_eq_getElem (show k<l.length by omega)
   have dI:(l.take (k+1))[k]? = some l[k]:=by rw [List.getElem?_take];simp [aa]
   unfold xU
   simp only [gP,hlen]
   rw [K0 (by omega),if_pos (by simp),if_pos (by omega),Int.toNat_natCast,dI]
   by_cases h:l[k]=0
   ·refine .inl ⟨l.take k,by simp [h,List.take_take,Nat.min_eq_left],⟨k,rfl,by omega,?_⟩,by simp;omega⟩
    have:=ti aa
    rw [h] at this
    simp at this
    omega
   ·refine .inr ⟨l.take (k+1),by simp [h],?_⟩
    rcases fg.Ko aL k (fun x o=>by rw [aa] at o;simp at o;omega) with o|o
    ·exact vR o a3
    ·omega
 obtain ⟨r,ap,rfl⟩:=this
 unfold qM Jt
 rw [ap]
 rfl
theorem Yo {l:List Int}(aL:cN l)(a0:l.length≤5000000): ∃k,Au l=some k∧k≤l.length∧l.take k=L (V l):=by
 have : ∃r,iter (fun w:Nat=>xO l w) l.length=some r∧r≤l.length∧l.take r=L (V l):=by
  refine kB (eS:=fun k=>k≤l.length∧V (l.take k)=V l) (m:=fun w:Nat=>w) _ ?_ _ ⟨by omega,by simp⟩
  rintro k ⟨aX,a3⟩
  cases k with
  | zero =>
   refine .inr ⟨0,by simp [xO],by omega,?_⟩
   rw [← a3]
   simp [V,pI]
  | succ k =>
   have aa:=List.getElem?_eq_getElem (show k<l.length by omega)
   unfold xO
   rw [K0 (by omega),if_pos (by simp),if_pos (by omega),Int.toNat_natCast,Nat.zero_add,aa]
   by_cases h:l[k]=0
   ·refine .inl ⟨k,by simp [h],⟨by omega,?_⟩,by omega⟩
    have:=ti aa
    rw [h] at this
    simp at this
    omega
   ·refine .inr ⟨k+1,by simp [h],aX,?_⟩
    rcases fg.Ko aL k (fun x o=>by rw [aa] at o;simp at o;omega) with o|o
    ·exact vR o a3
    ·omega
 obtain ⟨r,ap,o,J⟩:=this
 unfold Au Jc
 rw [ap]
 exact ⟨r,rfl,o,J⟩
theorem yY {a b:List Int}(bH:fg a)(aY:fg b)(a0:a.length≤5000000):yl a b=some (lE (V a) (V b)):=by
 unfold yl lE
 simp only [gP]
 by_cases o:a.length=b.length
 ·rw [if_neg (by simp [o])]
  have : ∃r,iter (fun w:Int=>Dj a b w) ((a.length:Int)-1)=some r∧(r.elim (fun _=>V a=V b) (fun c=>(c = -1∧V a<V b)∨(c=1∧V b<V a))):=by
   refine kB (eS:=fun w:Int=> ∃k:Nat,w=(k:Int)-1∧k≤a.length∧V (a.drop k)=V (b.drop k)) (m:=fun w:Int=>(w+1).toNat) _ ?_ _ ⟨a.length,rfl,by omega,by rw [List.drop_length,o,List.drop_length]⟩
   rintro _ ⟨k,rfl,aX,a3⟩
   cases k with
   | zero=>exact .inr ⟨.inl (),by simp [Dj],by simpa using a3⟩
   | succ k =>
    have aa:=List.getElem?_eq_getElem (show k<a.length by omega)
    have aP:=List.getElem?_eq_getElem (show k<b.length by omega)
    have e:((k+1:Nat):Int)-1=k:=by omega
    unfold Dj
    rw [e,qY (by omega),if_pos (by simp),if_pos (by omega),Int.toNat_natCast,aa]
    simp only [Option.bind_eq_bind,Option.bind_some]
    rw [if_pos (by omega),aP]
    by_cases J:a[k]<b[k]
    ·exact .inr ⟨.inr (-1),by simp [J],.inl ⟨rfl,QR bH.1 aY.1 aa aP a3 J⟩⟩
    ·by_cases ak:b[k]<a[k]
     ·exact .inr ⟨.inr 1,by simp [J,ak],.inr ⟨rfl,QR aY.1 bH.1 aP aa a3.symm ak⟩⟩
     ·refine .inl ⟨(k:Int)-1,by simp [J,ak],⟨k,rfl,by omega,?_⟩,by omega⟩
      rw [o6 aa,o6 aP,a3,show a[k]=b[k] by omega]
  obtain ⟨r,ap,J⟩:=this
  unfold Ok
  rw [qY (by omega),ap]
  cases r with
  | inl u =>
   simp at J
   simp [J]
  | inr c =>
   rcases J with ⟨rfl,J⟩|⟨rfl,J⟩
   ·simp [J]
   ·simp [J];omega
 ·rw [if_pos (by simp;omega)]
  by_cases J:a.length<b.length
  ·have:=EG bH aY J
   simp [J,this]
  ·have:=EG aY bH (by omega)
   rw [if_neg (by simp;omega),if_neg (by omega),if_pos this]
theorem W4:qc=yl:=rfl
theorem Ec {a b:List Int}(bH:fg a)(aY:fg b)(a0:a.length≤5000000):qc a b=some (lE (V a) (V b)):=yY bH aY a0
theorem Bh {x y:Int}(aa:0≤x∧x<1000000000)(aP:0≤y∧y<1000000000):0≤x*y∧x*y≤999999998000000001:=by
 have o:=Int.mul_nonneg aa.1 aP.1
 have J:x*y≤999999999*999999999:=Int.mul_le_mul (by omega) (by omega) aP.1 (by omega)
 omega
theorem tY {a b:Int}(h:0≤a):a.tmod b=a % b:=Int.tmod_eq_emod_of_nonneg h
theorem nL {a b:Int}(h:0≤a):a.tdiv b=a / b:=Int.tdiv_eq_ediv_of_nonneg h
theorem Kp (k:Nat)(x:Int)(q:List Int):(List.replicate (k+1) 0++q).set k x=List.replicate k 0++x::q:=by
 induction k with
 | zero=>rfl
 | succ k ih =>
  show (0::(List.replicate (k+1) 0++q)).set (k+1) x=_
  rw [List.set_cons_succ,ih];rfl
theorem XO {a:List Int}{d rest:Int}{row:List Int}{k:Nat}{x:Int}(aa:a[k]? = some x)(iL:0≤x∧x<1000000000)(bo:0<d∧d<1000000000)(ap:0≤rest∧rest<d)(dD:row.length=a.length)(a0:a.length≤1000000):
 De a d rest (k:Int) row=some (.inl ((rest*1000000000+x) % d,(k:Int)-1,row.set k ((rest*1000000000+x) / d))):=by
 have aX:=f9 aa
 unfold De
 rw [if_pos (by simp),if_pos (by omega),Int.toNat_natCast,aa]
 simp only [Option.bind_eq_bind,Option.bind_some]
 rw [if_pos (by omega),if_pos (by omega),if_pos (by omega),qY (by omega)]
 have o:U (U (rest*1000000000)+x)=rest*1000000000+x:=by rw [cX (x:=rest*1000000000) (by omega) (by omega)];exact cX (by omega) (by omega)
 have J:0≤rest*1000000000+x:=by omega
 have ak:(rest*1000000000+x) / d≤rest*1000000000+x:=Int.ediv_le_self _ J
 have ay:0≤(rest*1000000000+x) / d:=Int.ediv_nonneg J (by omega)
 rw [o,tY J,nL J,cX (by omega) (by omega),Nat.zero_add]
theorem Pk {a:List Int}{d:Int}(bH:cN a)(bo:0<d∧d<1000000000)(a0:a.length≤1000000):
 ∃r,IZ a d 0 ((a.length:Int)-1) (List.replicate a.length 0)=some r∧r.1=V a % d∧cN r.2∧r.2.length=a.length∧V r.2=V a / d:=by
 refine kB (eS:=fun w:Int×Int×List Int=> ∃(k:Nat) (q:List Int),w.2.1=(k:Int)-1∧k≤a.length∧w.2.2=List.replicate k 0++q∧q.length+k=a.length∧cN q∧0≤w.1∧w.1<d∧V (a.drop k)=V q*d+w.1) (m:=fun w:Int×Int×List Int=>(w.2.1+1).toNat) _ ?_ _ ⟨a.length,[],rfl,by omega,by simp,by simp,cN.nil,by omega,by omega,by simp [V]⟩
 rintro ⟨rest,i,row⟩ ⟨k,q,o,aX,J,bi,tN,lg,iG,a3⟩
 simp only at o J lg iG a3 ⊢
 subst o J
 cases k with
 | zero =>
  refine .inr ⟨(rest,q),by simp [De],?_,tN,by simpa using bi,?_⟩
  ·simp at a3
   rw [a3,Int.add_comm,Int.add_mul_emod_self_right]
   exact (Int.emod_eq_of_lt lg iG).symm
  ·simp at a3
   rw [a3,Int.add_comm,Int.add_mul_ediv_right _ _ (by omega),Int.ediv_eq_zero_of_lt lg iG]
   simp
 | succ k =>
  have aa:=List.getElem?_eq_getElem (show k<a.length by omega)
  have iL:=bH.get aa
  rw [show ((k+1:Nat):Int)-1=k by omega,XO aa iL bo ⟨lg,iG⟩ (by simp;omega) a0]
  refine .inl ⟨_,rfl,⟨k,(rest*1000000000+a[k]) / d::q,rfl,by omega,Kp _ _ _,by simp;omega,cN.cons ⟨Int.ediv_nonneg (by omega) (by omega),?_⟩ tN,Int.emod_nonneg _ (by omega),Int.emod_lt_of_pos _ bo.1,?_⟩,by simp⟩
  ·refine Int.ediv_lt_of_lt_mul bo.1 ?_
   omega
  ·rw [o6 aa,a3,ly]
   have:=Int.mul_ediv_add_emod (rest*1000000000+a[k]) d
   generalize (rest*1000000000+a[k]) / d=u at *
   generalize (rest*1000000000+a[k]) % d=t at *
   grind
theorem Zj {a:List Int}{d:Int}(bH:cN a)(bo:0<d∧d<1000000000)(a0:a.length≤1000000):Jn a d=some (L (V a / d),V a % d):=by
 obtain ⟨r,ap,o,J,ak,ay⟩:=Pk bH bo a0
 unfold Jn
 simp only [gP]
 rw [if_pos (by omega),qY (by omega),Int.toNat_natCast,ap]
 simp only [Option.bind_eq_bind,Option.bind_some]
 rw [AJ J (by omega),o,ay]
 rfl
theorem Wy:IK=IZ:=rfl
theorem OC {a:List Int}{d:Int}(bH:cN a)(bo:0<d∧d<1000000000)(a0:a.length≤1000000):x8 a d=some (L (V a / d),V a % d):=by
 obtain ⟨r,ap,o,J,ak,ay⟩:=Pk bH bo a0
 unfold x8
 simp only [gP]
 rw [if_pos (by omega),qY (by omega),Int.toNat_natCast,Wy,ap]
 simp only [Option.bind_eq_bind,Option.bind_some]
 rw [yN J (by omega),o,ay]
 rfl
theorem Yp {b:List Int}{i j:Nat}{x y z carry:Int}{row t26:List Int}{t27:Int}(aP:b[j]? = some y)(cv:row[i+j]? = some z)(aa:0≤x∧x<1000000000)(oU:0≤y∧y<1000000000)(rW:0≤z∧z<1000000000)(aJ:0≤carry∧carry<1000000000)(a0:row.length≤2000000):
 Dk b i x t26 t27 b.length carry j row=some (.inl ((z+x*y+carry) / 1000000000,((j+1:Nat):Int),row.set (i+j) ((z+x*y+carry) % 1000000000))):=by
 have aC:=f9 aP
 have qw:=f9 cv
 obtain ⟨h3,gC⟩:=Bh aa oU
 unfold Dk
 have e:U ((i:Int)+(j:Int))=((i+j:Nat):Int):=by rw [cX (by omega) (by omega)];rfl
 rw [if_pos (by simp;omega),if_pos (by omega),Int.toNat_natCast,aP]
 simp only [Option.bind_eq_bind,Option.bind_some,e,Int.toNat_natCast,Nat.zero_add]
 rw [if_pos (by omega),cv]
 simp only [Option.bind_some]
 rw [if_pos (by omega),ql (by omega),cX (x:=x*y) (by omega) (by omega),cX (x:=z+x*y) (by omega) (by omega),cX (x:=z+x*y+carry) (by omega) (by omega),tY (by omega),nL (by omega),cX (by omega) (by omega)]
theorem Yq {b:List Int}{i:Nat}{x:Int}{row t26:List Int}{t27:Int}(aY:cN b)(dD:cN row)(aa:0≤x∧x<1000000000)(aL:i+b.length<row.length)(a0:row.length≤2000000):
 ∃r,Om b i x t26 t27 b.length 0 0 row=some r∧0≤r.1∧r.1<1000000000∧cN r.2∧r.2.length=row.length∧V r.2+r.1*B (i+b.length)=V row+x*B i*V b∧ ∀j,i+b.length≤j→r.2[j]? = row[j]? := by
 refine kB (eS:=fun w:Int×Int×List Int=> ∃(j:Nat),w.2.1=(j:Int)∧j≤b.length∧0≤w.1∧w.1<1000000000∧cN w.2.2∧w.2.2.length=row.length∧V w.2.2+w.1*B (i+j)=V row+x*B i*V (b.take j)∧ ∀j,i+b.length≤j→w.2.2[j]? = row[j]?) (m:=fun w:Int×Int×List Int=>b.length-w.2.1.toNat) _ ?_ _ ⟨0,rfl,by omega,by simp,by simp,dD,rfl,by simp [V],fun _ _=>rfl⟩
 rintro ⟨carry,aeA,d7⟩ ⟨j,o,aC,m6,m8,j9,hlen,a3,k6⟩
 simp only at o m6 m8 j9 hlen a3 k6 ⊢
 subst o
 by_cases adk:j=b.length
 ·subst adk
  refine .inr ⟨(carry,d7),by simp [Dk],m6,m8,j9,hlen,by simpa using a3,k6⟩
 ·have aP:=List.getElem?_eq_getElem (show j<b.length by omega)
  have cv:=List.getElem?_eq_getElem (show i+j<d7.length by omega)
  have oU:=aY.get aP
  have rW:=j9.get cv
  obtain ⟨h3,gC⟩:=Bh aa oU
  rw [Yp aP cv aa oU rW ⟨m6,m8⟩ (by omega)]
  refine .inl ⟨_,rfl,⟨j+1,rfl,by omega,by simp only;omega,by simp only;omega,j9.set (by omega),by simpa using hlen,?_,fun hS sH=> ?_⟩,by simp;omega⟩
  ·simp only
   rw [sD cv,ti aP,← Nat.add_assoc,mV]
   rw [Bp] at a3 ⊢
   have:=Int.mul_ediv_add_emod (d7[i+j]+x*b[j]+carry) 1000000000
   generalize (d7[i+j]+x*b[j]+carry) / 1000000000=u at *
   generalize (d7[i+j]+x*b[j]+carry) % 1000000000=t at *
   grind
  ·rw [← k6 hS sH]
   exact List.getElem?_set_ne (by omega)
theorem JW {a b:List Int}(bH:cN a)(aY:cN b)(a0:a.length≤1000000)(hm:b.length≤1000000):
 ∃r,DN b a a.length 0 (List.replicate (a.length+b.length) 0)=some r∧cN r∧r.length=a.length+b.length∧V r=V a*V b:=by
 refine kB (eS:=fun w:Int×List Int=> ∃(i:Nat),w.1=(i:Int)∧i≤a.length∧cN w.2∧w.2.length=a.length+b.length∧V w.2=V (a.take i)*V b∧ ∀j,i+b.length≤j→j<a.length+b.length→w.2[j]? = some 0) (m:=fun w:Int×List Int=>a.length-w.1.toNat) _ ?_ _ ⟨0,rfl,by omega,cN.LW _,by simp,by simp [V,KX],fun j _ h=>by simp [List.getElem?_replicate,h]⟩
 rintro ⟨ii,row⟩ ⟨i,o,ai,j9,hlen,a3,h0⟩
 simp only at o j9 hlen a3 h0 ⊢
 subst o
 by_cases Co:i=a.length
 ·subst Co
  refine .inr ⟨row,by simp [Is],j9,hlen,by simpa using a3⟩
 ·have aa:=List.getElem?_eq_getElem (show i<a.length by omega)
  have iL:=bH.get aa
  obtain ⟨r,ap,m6,m8,ab4,RI,BZ,k6⟩:=Yq (i:=i) (t26:=a) (t27:=a.length) aY j9 iL (by omega) (by omega)
  have e:U ((i:Int)+(b.length:Int))=((i+b.length:Nat):Int):=by rw [cX (by omega) (by omega)];rfl
  have cv:r.2[i+b.length]? = some 0:=by rw [k6 _ (Nat.le_refl _)];exact h0 _ (Nat.le_refl _) (by omega)
  refine .inl ⟨(((i+1:Nat):Int),r.2.set (i+b.length) r.1),?_,⟨i+1,rfl,by omega,ab4.set ⟨m6,m8⟩,by simp;omega,?_,fun j agb adl=> ?_⟩,by simp;omega⟩
  ·unfold Is
   rw [if_pos (by simp;omega),if_pos (by omega),Int.toNat_natCast,aa]
   simp only [Option.bind_eq_bind,Option.bind_some,gP]
   rw [ap]
   simp only [Option.bind_some,e,Int.toNat_natCast,Nat.zero_add]
   rw [if_pos (by omega),if_pos (by omega),ql (n:=i) (by omega)]
  ·simp only
   rw [sD cv,ti aa]
   grind
  ·simp only
   rw [List.getElem?_set_ne (by omega),k6 _ (by omega)]
   exact h0 _ (by omega) adl
theorem mul_eq {a b:List Int}(bH:cN a)(aY:cN b)(a0:a.length≤1000000)(hm:b.length≤1000000):D7 a b=some (L (V a*V b)):=by
 unfold D7
 simp only [gP]
 by_cases o:a=[]
 ·subst o
  simp [V,pI]
 ·by_cases J:b=[]
  ·subst J
   simp [o,V,pI]
  ·obtain ⟨r,ap,ak,ay,aI⟩:=JW bH aY a0 hm
   have e:U ((a.length:Int)+(b.length:Int))=((a.length+b.length:Nat):Int):=by rw [cX (by omega) (by omega)];rfl
   rw [if_neg (by simp [o]),if_neg (by simp [J]),e,if_pos (by omega),Int.toNat_natCast,ap]
   simp only [Option.bind_eq_bind,Option.bind_some]
   rw [AJ ak (by omega),aI]
   rfl
theorem Xq:Jj=DN:=rfl
theorem WT:I6=DN:=rfl
theorem Ex {a b:List Int}(bH:cN a)(aY:cN b)(a0:a.length≤1000000)(hm:b.length≤1000000):qK a b=some (L (V a*V b)):=by
 unfold qK
 simp only [gP]
 by_cases o:a=[]
 ·subst o
  simp [V,pI]
 ·by_cases J:b=[]
  ·subst J
   simp [o,V,pI]
  ·obtain ⟨r,ap,ak,ay,aI⟩:=JW bH aY a0 hm
   have e:U ((a.length:Int)+(b.length:Int))=((a.length+b.length:Nat):Int):=by rw [cX (by omega) (by omega)];rfl
   rw [if_neg (by simp [o]),if_neg (by simp [J]),e,if_pos (by omega),Int.toNat_natCast,Xq,ap]
   simp only [Option.bind_eq_bind,Option.bind_some]
   rw [yN ak (by omega),aI]
   rfl
theorem Pl {a b:List Int}(bH:cN a)(aY:cN b)(o:a≠[])(J:b≠[])(a0:a.length≤1000000)(hm:b.length≤1000000):
 ∃k r,yf a b=some (k,r)∧k≤r.length∧r.length=a.length+b.length∧r.take k=L (V a*V b)∧cN r:=by
 obtain ⟨r,ap,ak,ay,aI⟩:=JW bH aY a0 hm
 obtain ⟨k,aX,bu,bx⟩:=Yo ak (by omega)
 refine ⟨k,r,?_,bu,ay,by rw [bx,aI],ak⟩
 unfold yf
 simp only [gP]
 have e:U ((a.length:Int)+(b.length:Int))=((a.length+b.length:Nat):Int):=by rw [cX (by omega) (by omega)];rfl
 rw [if_neg (by simp [o]),if_neg (by simp [J]),e,if_pos (by omega),Int.toNat_natCast,WT,ap]
 simp only [Option.bind_eq_bind,Option.bind_some]
 rw [aX]
 rfl
theorem Bt {x:Int}(o:0≤x)(J:x<18446744073709551616):IntKind.wrap .u64 x=x:=by
 simp only [IntKind.wrap,IntKind.signed,IntKind.bits]
 have:((2:Int) ^ 64)=18446744073709551616:=by decide
 simp
 omega
theorem abA {x:Int}(o:-9223372036854775808≤x)(J:x<9223372036854775808):IntKind.wrap .i64 x=x:=cX o J
theorem fg.snoc {l:List Int}{x:Int}(h:cN l)(aa:0<x∧x<1000000000):fg (l++[x]):=⟨h.append (cN.cons (by omega) cN.nil),fun y aP=>by
 rw [List.getLast?_append] at aP
 simp at aP
 omega⟩
theorem PM {N:Int}(fF:N<18446744073709551616){n:Int}{row:List Int}(h:0≤n∧cN row∧V row+B row.length*n=N∧(n=0→fg row)∧((row.length=0∧n<18446744073709551616)∨(row.length=1∧n<20000000000)∨(row.length=2∧n<20)∨(row.length=3∧n=0)))(a0:0<n):
 (fun (n:Int) (row:List Int)=>0≤n∧cN row∧V row+B row.length*n=N∧(n=0→fg row)∧((row.length=0∧n<18446744073709551616)∨(row.length=1∧n<20000000000)∨(row.length=2∧n<20)∨(row.length=3∧n=0))) (n / 1000000000) (row++[n % 1000000000]):=by
 obtain ⟨h0,o,J,ak,ay⟩:=h
 refine ⟨by omega,o.append (cN.cons (by omega) cN.nil),?_,fun aI=>fg.snoc o (by omega),?_⟩
 ·rw [yC,List.length_append,List.length_singleton,mV,ly,Bq]
  have:=Int.mul_ediv_add_emod n 1000000000
  generalize n / 1000000000=u at *
  generalize n % 1000000000=t at *
  grind
 ·rw [List.length_append,List.length_singleton]
  omega
theorem Ey {n:Int}(h:0≤n)(a0:n<9223372036854775808):yr n=some (L n):=by
 have : ∃r,iter (fun w:Int×List Int=>Dn w.1 w.2) (n,[])=some r∧r=L n:=by
  refine kB (eS:=fun w:Int×List Int=>w.1≤n∧0≤w.1∧cN w.2∧V w.2+B w.2.length*w.1=n∧(w.1=0→fg w.2)∧((w.2.length=0∧w.1<18446744073709551616)∨(w.2.length=1∧w.1<20000000000)∨(w.2.length=2∧w.1<20)∨(w.2.length=3∧w.1=0))) (m:=fun w:Int×List Int=>w.1.toNat) _ ?_ _ ⟨Int.le_refl _,h,cN.nil,by simp [V,B],fun _=>fg.nil,.inl ⟨rfl,by simp only;omega⟩⟩
  rintro ⟨m,row⟩ ⟨hm,dw⟩
  simp only at hm dw
  obtain ⟨h0,o,J,ak,ay⟩:=id dw
  by_cases ju:0<m
  ·have:=PM (by omega) dw ju
   refine .inl ⟨(m / 1000000000,row++[m % 1000000000]),?_,⟨by simp only;omega,this⟩,by simp only;omega⟩
   unfold Dn
   rw [if_pos (by simp;omega),tY (by omega),nL (by omega),if_pos (by simp;omega),cX (by omega) (by omega)]
  ·refine .inr ⟨row,by simp [Dn,ju],?_⟩
   have n4:m=0:=by omega
   refine vR (ak n4) ?_
   rw [n4] at J
   simpa using J
 obtain ⟨r,ap,rfl⟩:=this
 unfold yr Oz
 rw [ap]
 rfl
theorem JP {n:Int}(h:0≤n)(a0:n<18446744073709551616):vd n=some (L n):=by
 have : ∃r,iter (fun w:Int×List Int=>xB w.1 w.2) (n,[])=some r∧r=L n:=by
  refine kB (eS:=fun w:Int×List Int=>w.1≤n∧0≤w.1∧cN w.2∧V w.2+B w.2.length*w.1=n∧(w.1=0→fg w.2)∧((w.2.length=0∧w.1<18446744073709551616)∨(w.2.length=1∧w.1<20000000000)∨(w.2.length=2∧w.1<20)∨(w.2.length=3∧w.1=0))) (m:=fun w:Int×List Int=>w.1.toNat) _ ?_ _ ⟨Int.le_refl _,h,cN.nil,by simp [V,B],fun _=>fg.nil,.inl ⟨rfl,by simp only;omega⟩⟩
  rintro ⟨m,row⟩ ⟨hm,dw⟩
  simp only at hm dw
  obtain ⟨h0,o,J,ak,ay⟩:=id dw
  by_cases ju:0<m
  ·have:=PM (by omega) dw ju
   refine .inl ⟨(m / 1000000000,row++[m % 1000000000]),?_,⟨by simp only;omega,this⟩,by simp only;omega⟩
   unfold xB
   rw [if_pos (by simp;omega),tY (by omega),nL (by omega),abA (x:=m % 1000000000) (by omega) (by omega),if_pos (by simp;omega),Bt (by omega) (by omega)]
  ·refine .inr ⟨row,by simp [xB,ju],?_⟩
   have n4:m=0:=by omega
   refine vR (ak n4) ?_
   rw [n4] at J
   simpa using J
 obtain ⟨r,ap,rfl⟩:=this
 unfold vd I3
 rw [ap]
 rfl
def pt (x:Int):Bool:=decide (0≤x) && decide (x<1000000000)
theorem Kq (l:List Int):l.all pt=true↔cN l:=by
 simp [pt,cN]
theorem JQ {a:List Int}(h:a≠[]): ∃x,a[a.length-1]? = some x∧(fg a↔cN a∧x≠0):=by
 have al:=List.length_pos_iff.mpr h
 refine ⟨a[a.length-1],List.getElem?_eq_getElem (by omega),?_⟩
 have e:a.getLast? = some a[a.length-1]:=by rw [List.getLast?_eq_getElem?];exact List.getElem?_eq_getElem (by omega)
 constructor
 ·exact fun h=>⟨h.1,h.2 _ e⟩
 ·refine fun h=>⟨h.1,fun x aa=> ?_⟩
  rw [e] at aa
  rw [← Option.some.inj aa]
  exact h.2
theorem RX {a:List Int}(h:a≠[])(hm:(a.length:Int)<9223372036854775807):U ((a.length:Int)-1)=((a.length-1:Nat):Int):=by
 have al:=List.length_pos_iff.mpr h
 rw [cX (by omega) (by omega)]
 omega
theorem XP (x:Int):JO x 0 999999999=some (pt x):=by
 unfold JO pt
 by_cases h:0≤x
 ·simp [h];omega
 ·simp [h]
theorem Pm {a:List Int}(hm:(a.length:Int)<9223372036854775807): ∃ok,ys a=some ok∧(ok=true↔fg a∧a.length≤60):=by
 have o:iter (fun w:Int=>Dp a a.length w) 0=some (if a.all pt then .inl () else .inr ()):=by
  refine Qd a pt (fun n x aa=> ?_) (by simp [Dp])
  have:=f9 aa
  unfold Dp
  rw [if_pos (by simp;omega),if_pos (by omega),Int.toNat_natCast,aa]
  simp only [Option.bind_eq_bind,Option.bind_some,XP]
  rw [kA (by omega)]
  cases pt x<;>rfl
 unfold ys OA
 simp only [gP]
 rw [o]
 by_cases jY:a.all pt=true
 ·have BT:=(Kq a).1 jY
  simp only [jY,if_true,Option.bind_eq_bind,Option.bind_some]
  by_cases zL:a.length≤60
  ·rw [if_pos (by simp;omega)]
   by_cases h0:a=[]
   ·subst h0
    exact ⟨true,rfl,by simp [fg.nil]⟩
   ·obtain ⟨x,aa,a0⟩:=JQ h0
    have al:=List.length_pos_iff.mpr h0
    rw [if_neg (by simp [h0]),RX h0 hm,if_pos (by omega),Int.toNat_natCast,aa]
    refine ⟨_,rfl,?_⟩
    rw [a0]
    simp [BT,zL]
  ·rw [if_neg (by simp;omega)]
   exact ⟨false,rfl,by simp;omega⟩
 ·have BT : ¬cN a:=fun h=>jY ((Kq a).2 h)
  simp only [Bool.not_eq_true] at jY
  refine ⟨false,by simp [jY],?_⟩
  simp only [Bool.false_eq_true,false_iff]
  exact fun h=>BT h.1.1
theorem XQ (x:Int):Ar x=some (!pt x):=by
 unfold Ar pt
 by_cases h:x<0
 ·simp [h]
 ·rw [if_neg (by simp [h])]
  congr 1
  rw [Bool.eq_iff_iff]
  simp
  omega
theorem OT {a:List Int}(hm:(a.length:Int)<9223372036854775807):xm a=some (!(a.all pt)):=by
 obtain ⟨r,ap,h⟩:=PL (f:=fun w:Int=>w9 a a.length w) a (fun x=> !pt x) (fun n x aa=>by
  have:=f9 aa
  unfold w9
  rw [if_pos (by simp;omega),if_pos (by omega),Int.toNat_natCast,aa]
  simp only [Option.bind_eq_bind,Option.bind_some,XQ]
  rw [kA (by omega)]
  cases pt x<;>rfl) (by simp [w9])
 have e:a.any (fun x=> !pt x) = !(a.all pt):=by rw [List.not_all_eq_any_not]
 rw [e] at h
 unfold xm C6 Hf
 simp only [gP]
 rw [ap]
 rcases h with ⟨k,rfl,aX,h⟩|⟨rfl,h⟩
 ·simp only [Option.bind_eq_bind,Option.bind_some]
  rw [h]
  simp [aX]
 ·simp only [Option.bind_eq_bind,Option.bind_some]
  rw [h]
  rfl
theorem XR {a:List Int}(hm:(a.length:Int)<9223372036854775807): ∃ok,vn a=some ok∧(ok=true↔fg a∧a.length≤60):=by
 unfold vn
 simp only [gP]
 by_cases zL:60<a.length
 ·rw [if_pos (by simp;omega)]
  exact ⟨false,rfl,by simp;omega⟩
 ·rw [if_neg (by simp;omega)]
  by_cases h0:a=[]
  ·subst h0
   exact ⟨true,by simp [OT],by simp [fg.nil]⟩
  ·obtain ⟨x,aa,a0⟩:=JQ h0
   have al:=List.length_pos_iff.mpr h0
   rw [if_pos (by simp;omega),RX h0 hm,if_pos (by omega),Int.toNat_natCast,aa]
   simp only [Option.bind_eq_bind,Option.bind_some]
   rw [a0]
   by_cases iL:x=0
   ·exact ⟨false,by simp [iL],by simp [iL]⟩
   ·rw [if_neg (by simp [iL]),OT hm]
    refine ⟨_,rfl,?_⟩
    rw [← Kq]
    simp [iL]
    omega
theorem Pn {a:List Int}(hm:(a.length:Int)<9223372036854775807): ∃ok,ys a=some ok∧vn a=some ok∧(ok=true↔fg a∧a.length≤60):=by
 obtain ⟨cb,o,J⟩:=Pm hm
 obtain ⟨a4,ak,ay⟩:=XR hm
 have:a4=cb:=Bool.eq_iff_iff.mpr (ay.trans J.symm)
 exact ⟨cb,o,this▸ak,J⟩
theorem OU {a:List Int}(bH:fg a)(zL:a.length≤60)(a3:V a<9223372036854775808):DT a=some (V a,true):=by
 obtain ⟨ok,o,J⟩:=Pm (a:=a) (by omega)
 have m4:ok=true:=J.2 ⟨bH,zL⟩
 subst m4
 have aJ:fg [854775807,223372036,9]:=⟨by intro x aa;simp at aa;omega,by simp⟩
 have Mb:V [854775807,223372036,9]=9223372036854775807:=by decide
 unfold DT
 rw [o]
 simp only [Option.bind_eq_bind,Option.bind_some,if_true]
 rw [yY bH aJ (by omega),Mb]
 have : ∃r,iter (fun w:Int×Int=>Dc a w.1 w.2) (0,(a.length:Int)-1)=some r∧r=V a:=by
  refine kB (eS:=fun w:Int×Int=> ∃k:Nat,w.2=(k:Int)-1∧k≤a.length∧w.1=V (a.drop k)) (m:=fun w:Int×Int=>(w.2+1).toNat) _ ?_ _ ⟨a.length,rfl,by omega,by simp [V]⟩
  rintro ⟨n,i⟩ ⟨k,ak,aX,ay⟩
  simp only at ak ay
  subst ak ay
  cases k with
  | zero=>exact .inr ⟨V a,by simp [Dc],rfl⟩
  | succ k =>
   have aa:=List.getElem?_eq_getElem (show k<a.length by omega)
   have iL:=bH.1.get aa
   have aI:=o6 aa
   have bu:=k3 (bH.1.drop (k+1))
   have bx:V (a.drop k)≤V a:=by
    have bn:=vz (l:=a) (n:=k) (by omega)
    have cd:=k3 (bH.1.take k)
    have cV:=k3 (bH.1.drop k)
    have cZ:1*V (a.drop k)≤B k*V (a.drop k):=Int.mul_le_mul_of_nonneg_right (pg k) cV
    omega
   refine .inl ⟨(V (a.drop k),(k:Int)-1),?_,⟨k,rfl,by omega,rfl⟩,by simp only;omega⟩
   unfold Dc
   rw [show ((k+1:Nat):Int)-1=k by omega,if_pos (by simp),if_pos (by omega),Int.toNat_natCast,aa]
   simp only [Option.bind_eq_bind,Option.bind_some]
   rw [qY (by omega),cX (x:=V (a.drop (k+1))*1000000000) (by omega) (by omega),cX (by omega) (by omega),aI]
   congr 3
   omega
 obtain ⟨r,ap,rfl⟩:=this
 unfold lE N2
 simp only [gP]
 rw [qY (by omega),ap]
 have ak : ¬(9223372036854775807:Int)<V a:=by omega
 by_cases ay:V a<9223372036854775807<;>simp [ak,ay]
theorem Zk {a b row:List Int}{less x:Int}{i:Nat}(aY:cN b)(aa:a[i]? = some x)(iL:0≤x∧x<1000000000)(aL:less=0∨less=1)(a0:a.length≤1000000)(hm:b.length≤1000000)(ap:row.length≤1000000):
 ∃y,0≤y∧y<1000000000∧(∀z,b[i]? = some z→y=z)∧(b[i]? = none→y=0) ∧
 z8 a b a.length less i row=some (.inl (if x-less-y<0 then (1,((i+1:Nat):Int),row++[x-less-y+1000000000]) else (0,((i+1:Nat):Int),row++[x-less-y]))):=by
 have ai:=f9 aa
 unfold z8
 rw [if_pos (by simp;omega),if_pos (by omega),Int.toNat_natCast,aa]
 simp only [Option.bind_eq_bind,Option.bind_some,gP]
 by_cases adm:i<b.length
 ·have aP:=List.getElem?_eq_getElem adm
  have oU:=aY.get aP
  refine ⟨b[i],oU.1,oU.2,fun z cv=>by rw [aP] at cv;exact Option.some.inj cv,fun h=>by rw [aP] at h;simp at h,?_⟩
  rw [if_pos (by simp;omega),if_pos (by omega),aP]
  simp only [Option.bind_some]
  rw [cX (x:=x-less) (by omega) (by omega),cX (x:=x-less-b[i]) (by omega) (by omega),ql (n:=i) (by omega),cX (x:=x-less-b[i]+1000000000) (by omega) (by omega)]
  by_cases h:x-less-b[i]<0
  ·rw [if_pos (by simp [h]),if_pos (by simp;omega)]
   simp [h]
  ·rw [if_neg (by simp [h]),if_pos (by simp;omega)]
   simp [h]
 ·have aP:b[i]? = none:=by simp;omega
  refine ⟨0,by omega,by omega,fun z cv=>by rw [aP] at cv;simp at cv,fun _=>rfl,?_⟩
  rw [if_neg (by simp;omega),cX (x:=x-less) (by omega) (by omega),ql (n:=i) (by omega),cX (x:=x-less+1000000000) (by omega) (by omega),Int.sub_zero]
  by_cases h:x-less<0
  ·rw [if_pos (by simp [h]),if_pos (by simp;omega)]
   simp [h]
  ·rw [if_neg (by simp [h]),if_pos (by simp;omega)]
   simp [h]
theorem Qh {b:List Int}{i:Nat}{y:Int}(o:∀z,b[i]? = some z→y=z)(J:b[i]? = none→y=0):V (b.take (i+1))=V (b.take i)+B i*y:=by
 cases h:b[i]? with
 | some z=>rw [o z h,ti h]
 | none =>
  rw [J h]
  have:b.length≤i:=by simpa using h
  rw [List.take_of_length_le (by omega),List.take_of_length_le (by omega)]
  simp
theorem sub_eq {a b:List Int}(bH:cN a)(aY:cN b)(hlen:b.length≤a.length)(r4:V b≤V a)(a0:a.length≤1000000):JE a b=some (L (V a-V b)):=by
 have : ∃r,iter (fun w:Int×Int×List Int=>z8 a b a.length w.1 w.2.1 w.2.2) (0,0,[])=some r∧cN r∧r.length=a.length∧V r=V a-V b:=by
  refine kB (eS:=fun w:Int×Int×List Int=> ∃i:Nat,w.2.1=i∧i≤a.length∧(w.1=0∨w.1=1)∧cN w.2.2∧w.2.2.length=i∧V w.2.2-w.1*B i=V (a.take i)-V (b.take i)) (m:=fun w:Int×Int×List Int=>a.length-w.2.1.toNat) _ ?_ _ ⟨0,rfl,by omega,.inl rfl,cN.nil,rfl,by simp [V]⟩
  rintro ⟨less,ii,row⟩ ⟨i,o,ai,aL,j9,wz,a3⟩
  simp only at o aL j9 wz a3 ⊢
  subst o
  by_cases Co:i=a.length
  ·refine .inr ⟨row,by simp [z8,Co],j9,by omega,?_⟩
   rw [Co] at a3
   rw [List.take_length,List.take_of_length_le hlen] at a3
   have J:=m0 j9
   rw [wz,Co] at J
   rcases aL with rfl|rfl<;>omega
  ·have aa:=List.getElem?_eq_getElem (show i<a.length by omega)
   have iL:=bH.get aa
   obtain ⟨y,Cp,agc,adn,ado,he⟩:=Zk (row:=row) aY aa iL aL a0 (by omega) (by omega)
   rw [he]
   refine .inl ⟨_,rfl,?_⟩
   have ak:=ti aa
   have ay:=Qh adn ado
   by_cases h:a[i]-less-y<0
   ·rw [if_pos h]
    refine ⟨⟨i+1,rfl,by omega,.inr rfl,j9.append (cN.cons (by omega) cN.nil),by simp [wz],?_⟩,by simp only;omega⟩
    simp only
    rw [ak,ay,yC,wz,mV,ly,Bq]
    grind
   ·rw [if_neg h]
    refine ⟨⟨i+1,rfl,by omega,.inl rfl,j9.append (cN.cons (by omega) cN.nil),by simp [wz],?_⟩,by simp only;omega⟩
    simp only
    rw [ak,ay,yC,wz,ly,Bq]
    grind
 obtain ⟨r,ap,o,J,ak⟩:=this
 unfold JE Ol
 simp only [gP]
 rw [ap]
 simp only [Option.bind_eq_bind,Option.bind_some]
 rw [AJ o (by omega),ak]
 rfl
theorem sr {l:List Int}(h:cN l){k:Nat}(aX:k≤l.length):B k*V (l.drop k)≤V l∧V l<B k*(V (l.drop k)+1):=by
 have o:=vz aX
 have J:=k3 (h.take k)
 have ak:=m0 (h.take k)
 rw [List.length_take,Nat.min_eq_left aX] at ak
 rw [Int.mul_add,Int.mul_one]
 omega
theorem AS {l:List Int}{k:Nat}{x:Int}(aa:l[k]? = some x)(aL:l.length=k+1):V (l.drop k)=x:=by
 rw [o6 aa,List.drop_of_length_le (by omega)]
 simp [V]
theorem OD {aU W t d P:Int}(gg:1≤P)(FP:P*t≤aU)(Mc:aU<P*(t+1))(uL:P*d≤W)(FQ:W<P*(d+1))(bo:0<d)(cq:0≤t)(Md:aU<1000000000*W):t / (d+1)≤aU / W∧aU / W≤t / d∧aU / W≤999999999:=by
 have hW:0<W:=by
  have:=Int.mul_pos (a:=P) (b:=d) (by omega) bo
  omega
 have c3:0≤aU:=by
  have:=Int.mul_nonneg (a:=P) (b:=t) (by omega) cq
  omega
 refine ⟨?_,?_,?_⟩
 ·apply (Int.le_ediv_iff_mul_le hW).2
  have o:t / (d+1)*(d+1)≤t:=Int.ediv_mul_le _ (by omega)
  have J:0≤t / (d+1):=Int.ediv_nonneg cq (by omega)
  have ak:t / (d+1)*W≤t / (d+1)*(P*(d+1)):=Int.mul_le_mul_of_nonneg_left (by omega) J
  have ay:P*(t / (d+1)*(d+1))≤P*t:=Int.mul_le_mul_of_nonneg_left o (by omega)
  have aI:t / (d+1)*(P*(d+1))=P*(t / (d+1)*(d+1)):=by grind
  omega
 ·apply (Int.le_ediv_iff_mul_le bo).2
  have o:aU / W*W≤aU:=Int.ediv_mul_le _ (by omega)
  have J:0≤aU / W:=Int.ediv_nonneg c3 (by omega)
  have ak:aU / W*(P*d)≤aU / W*W:=Int.mul_le_mul_of_nonneg_left uL J
  have ay:aU / W*(P*d)=P*(aU / W*d):=by grind
  have aI:P*(aU / W*d)<P*(t+1):=by omega
  have:=Int.lt_of_mul_lt_mul_left aI (by omega)
  omega
 ·have:=Int.ediv_lt_of_lt_mul hW Md
  omega
theorem QV {a b:Int}:lE a b≤0↔a≤b:=by
 unfold lE
 by_cases h:a<b
 ·simp [h];omega
 ·by_cases J:b<a
  ·simp [h,J]
  ·simp [h,J];omega
theorem yO {a b:Int}:lE a b<0↔a<b:=by
 unfold lE
 by_cases h:a<b
 ·simp [h]
 ·by_cases J:b<a
  ·simp [h,J]
  ·simp [h,J]
theorem Zl {a b:Int}:0<lE a b↔b<a:=by
 unfold lE
 by_cases h:a<b
 ·simp [h];omega
 ·by_cases J:b<a
  ·simp [h,J]
  ·simp [h,J]
theorem JX {a b:Int}:lE a b=0↔a=b:=by
 unfold lE
 by_cases h:a<b
 ·simp [h];omega
 ·by_cases J:b<a
  ·simp [h,J];omega
  ·simp [h,J];omega
theorem Po {r b:List Int}(ap:fg r)(aY:fg b)(li:b≠[])(a0:r.length≤1000000)(hm:b.length≤1000000){bZ ai:Int}(h0:0≤bZ)(o:bZ≤V r / V b)(J:V r / V b≤ai)(ak:ai≤999999999):I0 r b bZ ai=some (V r / V b):=by
 have mx:=rL aY li
 have : ∃q,iter (fun w:Int×Int=>z1 r b w.1 w.2) (bZ,ai)=some q∧q=V r / V b:=by
  refine kB (eS:=fun w:Int×Int=>0≤w.1∧w.1≤V r / V b∧V r / V b≤w.2∧w.2≤999999999) (m:=fun w:Int×Int=>(w.2-w.1).toNat) _ ?_ _ ⟨h0,o,J,ak⟩
  rintro ⟨l,h⟩ ⟨g0,g1,g2,g3⟩
  simp only at g0 g1 g2 g3
  by_cases dB:l<h
  ·have az:U ((U ((U (l+h))+(1:Int))).tdiv (2:Int))=(l+h+1) / 2:=by
    rw [cX (x:=l+h) (by omega) (by omega),cX (x:=l+h+1) (by omega) (by omega),nL (by omega),cX (by omega) (by omega)]
   have n4:0≤(l+h+1) / 2:=by omega
   have rh:(l+h+1) / 2<1000000000:=by omega
   have SC:(L ((l+h+1) / 2)).length≤1:=(iw n4).2 (by simpa [B] using rh)
   have aH:z1 r b l h=some (.inl (if V b*((l+h+1) / 2)≤V r then ((l+h+1) / 2,h) else (l,(l+h+1) / 2-1))):=by
    unfold z1
    rw [if_pos (by simp [dB]),az,Ey n4 (by omega)]
    simp only [Option.bind_eq_bind,Option.bind_some]
    rw [mul_eq aY.1 (kT _) hm (by omega),fL n4]
    simp only [Option.bind_some]
    have al:0≤V b*((l+h+1) / 2):=Int.mul_nonneg (by omega) n4
    have hlen:(L (V b*((l+h+1) / 2))).length≤b.length+1:=(iw al).2 (by
     rw [mV]
     have aI:=m0 aY.1
     have:V b*((l+h+1) / 2)≤V b*1000000000:=Int.mul_le_mul_of_nonneg_left (by omega) (by omega)
     omega)
    rw [yY (jH _) ap (by omega),fL al]
    simp only [Option.bind_some]
    by_cases aJ:V b*((l+h+1) / 2)≤V r
    ·rw [if_pos (by simpa using QV.2 aJ),if_pos aJ]
    ·rw [if_neg (fun h=>aJ (QV.1 (by simpa using h))),if_neg aJ,cX (by omega) (by omega)]
   rw [aH]
   refine .inl ⟨_,rfl,?_⟩
   by_cases aJ:V b*((l+h+1) / 2)≤V r
   ·rw [if_pos aJ]
    have:(l+h+1) / 2≤V r / V b:=(Int.le_ediv_iff_mul_le mx).2 (by rw [Int.mul_comm];exact aJ)
    exact ⟨⟨by simp only;omega,this,g2,g3⟩,by simp only;omega⟩
   ·rw [if_neg aJ]
    have:V r / V b<(l+h+1) / 2:=(Int.ediv_lt_iff_lt_mul mx).2 (by rw [Int.mul_comm];omega)
    exact ⟨⟨g0,g1,by simp only;omega,by simp only;omega⟩,by simp only;omega⟩
  ·exact .inr ⟨l,by simp [z1,dB],by omega⟩
 obtain ⟨q,bi,rfl⟩:=this
 exact bi
theorem EY {b:List Int}(aY:fg b)(li:b≠[]): ∃k d,b.length=k+1∧b[k]? = some d∧0<d∧d<1000000000∧V (b.drop k)=d:=by
 have al:=List.length_pos_iff.mpr li
 obtain ⟨x,aa,h⟩:=JQ li
 have o:=h.1 aY
 have J:=o.1.get aa
 exact ⟨b.length-1,x,by omega,aa,by omega,J.2,AS aa (by omega)⟩
theorem Zm {r b:List Int}(ap:fg r)(aY:fg b)(li:b≠[])(a0:r.length≤1000000)(hm:b.length≤1000000)(o:V b≤V r)(J:V r<1000000000*V b):Jo r b=some (V r / V b):=by
 obtain ⟨k,d,aX,bo,q8,ri,uM⟩:=EY aY li
 have Su:b.length≤r.length:=Nat.le_of_not_lt fun h=>by
  have:=EG ap aY h
  omega
 have Sv:r.length≤b.length+1:=ap.len.2 (by
  have:=m0 aY.1
  rw [mV]
  omega)
 have rY:=sr aY.1 (k:=k) (by omega)
 rw [uM] at rY
 have iG:=sr ap.1 (k:=k) (by omega)
 have aa:=List.getElem?_eq_getElem (show k<r.length by omega)
 have iL:=ap.1.get aa
 have hw:U ((b.length:Int)-1)=(k:Int):=by rw [cX (by omega) (by omega)];omega
 have mI:=k3 (ap.1.drop k)
 have FR:=OD (pg k) iG.1 iG.2 rY.1 rY.2 q8 mI J
 have agd:=k3 ap.1
 have hW:=rL aY li
 unfold Jo
 simp only [gP,hw]
 rw [if_pos (by omega),Int.toNat_natCast,aa]
 simp only [Option.bind_eq_bind,Option.bind_some]
 by_cases hlen:b.length<r.length
 ·have aP:=List.getElem?_eq_getElem hlen
  have oU:=ap.1.get aP
  have l2:V (r.drop (k+1))=r[b.length]:=by
   rw [← aX]
   exact AS aP (by omega)
  have cq:V (r.drop k)=r[k]+1000000000*r[b.length]:=by rw [o6 aa,l2]
  rw [cq] at FR mI
  have oO:0≤(r[k]+1000000000*r[b.length]) / (d+1):=Int.ediv_nonneg mI (by omega)
  have rU:(r[k]+1000000000*r[b.length]) / (d+1)≤r[k]+1000000000*r[b.length]:=Int.ediv_le_self _ mI
  have zg:0≤(r[k]+1000000000*r[b.length]) / d:=Int.ediv_nonneg mI (by omega)
  have adp:(r[k]+1000000000*r[b.length]) / d≤r[k]+1000000000*r[b.length]:=Int.ediv_le_self _ mI
  rw [if_pos (by simp;omega),if_pos (by omega),Int.toNat_natCast,aP]
  simp only [Option.bind_some]
  rw [if_pos (by omega),bo]
  simp only [Option.bind_some]
  have az:U (d+1)=d+1:=cX (by omega) (by omega)
  have aH:U (r[k]+U (r[b.length]*1000000000))=r[k]+1000000000*r[b.length]:=by
   rw [cX (x:=r[b.length]*1000000000) (by omega) (by omega),cX (by omega) (by omega),Int.mul_comm]
  rw [az,if_pos (by omega),if_pos (by omega),aH,nL mI,nL mI,cX (by omega) (by omega),cX (x:=(r[k]+1000000000*r[b.length]) / d) (by omega) (by omega)]
  rw [Po ap aY li a0 hm oO FR.1 (by split<;>omega) (by split<;>omega)]
  rfl
 ·have cq:V (r.drop k)=r[k]:=AS aa (by omega)
  rw [cq] at FR mI
  have oO:0≤r[k] / (d+1):=Int.ediv_nonneg mI (by omega)
  have rU:r[k] / (d+1)≤r[k]:=Int.ediv_le_self _ mI
  have zg:0≤r[k] / d:=Int.ediv_nonneg mI (by omega)
  have adp:r[k] / d≤r[k]:=Int.ediv_le_self _ mI
  rw [if_neg (by simp;omega),if_pos (by omega),bo]
  simp only [Option.bind_some]
  have az:U (d+1)=d+1:=cX (by omega) (by omega)
  rw [az,if_pos (by omega),if_pos (by omega),nL mI,nL mI,cX (by omega) (by omega),cX (x:=r[k] / d) (by omega) (by omega)]
  rw [Po ap aY li a0 hm oO FR.1 (by split<;>omega) (by split<;>omega)]
  rfl
theorem Zn {a b:List Int}(bH:fg a)(aY:fg b)(li:b≠[])(a0:a.length≤900000)(hm:b.length≤900000):
 ∃r,On a b [] ((a.length:Int)-1) (List.replicate a.length 0)=some r∧r.1=L (V a % V b)∧cN r.2∧r.2.length=a.length∧V r.2=V a / V b:=by
 have mx:=rL aY li
 refine kB (eS:=fun w:List Int×Int×List Int=> ∃(k:Nat) (q:List Int),w.2.1=(k:Int)-1∧k≤a.length∧w.2.2=List.replicate k 0++q∧q.length+k=a.length∧cN q∧fg w.1∧V w.1<V b∧V (a.drop k)=V q*V b+V w.1) (m:=fun w:List Int×Int×List Int=>(w.2.1+1).toNat) _ ?_ _ ⟨a.length,[],rfl,by omega,by simp,by simp,cN.nil,fg.nil,by simpa [V] using mx,by simp [V]⟩
 rintro ⟨rest,i,row⟩ ⟨k,q,o,aX,J,bi,tN,lg,iG,a3⟩
 simp only at o J lg iG a3 ⊢
 subst o J
 have Cq:=k3 lg.1
 cases k with
 | zero =>
  simp at a3
  refine .inr ⟨(rest,q),by simp [Dl],?_,tN,by simpa using bi,?_⟩
  ·refine vR lg ?_
   rw [a3,Int.add_comm,Int.add_mul_emod_self_right]
   exact (Int.emod_eq_of_lt Cq iG).symm
  ·rw [a3,Int.add_comm,Int.add_mul_ediv_right _ _ (by omega),Int.ediv_eq_zero_of_lt Cq iG]
   simp
 | succ k =>
  have aa:=List.getElem?_eq_getElem (show k<a.length by omega)
  have iL:=bH.1.get aa
  have wz:rest.length≤b.length:=lg.len.2 (by have:=m0 aY.1;omega)
  have hC:cN (a[k]::rest):=cN.cons iL lg.1
  have Mb:V (a[k]::rest)=a[k]+1000000000*V rest:=ly _ _
  have pA:0≤a[k]+1000000000*V rest:=by omega
  have age:(L (a[k]+1000000000*V rest)).length≤b.length+1:=(iw pA).2 (by
   have:=m0 aY.1
   rw [mV]
   omega)
  have bo:=o6 aa
  have K1:Dl a b rest (k:Int) (List.replicate (k+1) 0++q)=some (.inl (if a[k]+1000000000*V rest<V b then (L (a[k]+1000000000*V rest),(k:Int)-1,List.replicate (k+1) 0++q) else (L ((a[k]+1000000000*V rest) % V b),(k:Int)-1,(List.replicate (k+1) 0++q).set k ((a[k]+1000000000*V rest) / V b)))):=by
   unfold Dl
   rw [if_pos (by simp),if_pos (by omega),Int.toNat_natCast,aa]
   simp only [Option.bind_eq_bind,Option.bind_some,List.singleton_append]
   rw [if_pos (by simp;omega),AJ hC (by simp;omega),Mb]
   simp only [Option.bind_some]
   rw [yY (jH _) aY (by omega),fL pA]
   simp only [Option.bind_some]
   by_cases aJ:a[k]+1000000000*V rest<V b
   ·rw [if_pos (by simpa using yO.2 aJ),if_pos aJ,qY (by omega)]
   ·rw [if_neg (fun h=>aJ (yO.1 (by simpa using h))),if_neg aJ]
    have dB:a[k]+1000000000*V rest<1000000000*V b:=by omega
    rw [Zm (jH _) aY li (by omega) (by omega) (by rw [fL pA];omega) (by rw [fL pA];exact dB),fL pA]
    simp only [Option.bind_some]
    have oO:0≤(a[k]+1000000000*V rest) / V b:=Int.ediv_nonneg pA (by omega)
    have rU:(a[k]+1000000000*V rest) / V b<1000000000:=Int.ediv_lt_of_lt_mul mx dB
    have agf:(L ((a[k]+1000000000*V rest) / V b)).length≤1:=(iw oO).2 (by simpa [B] using rU)
    have rh:=Int.mul_ediv_add_emod (a[k]+1000000000*V rest) (V b)
    have Cr:=Int.emod_nonneg (a[k]+1000000000*V rest) (b:=V b) (by omega)
    have Cs:0≤V b*((a[k]+1000000000*V rest) / V b):=Int.mul_nonneg (by omega) oO
    rw [if_pos (by simp;omega),if_pos (by simp;omega),Ey oO (by omega)]
    simp only [Option.bind_some]
    rw [mul_eq aY.1 (kT _) (by omega) (by omega),fL oO]
    simp only [Option.bind_some]
    rw [sub_eq (kT _) (kT _) ((iw Cs).2 (by
     have:=m0 (kT (a[k]+1000000000*V rest))
     rw [fL pA] at this
     omega)) (by rw [fL pA,fL Cs];omega) (by omega),fL pA,fL Cs]
    simp only [Option.bind_some]
    rw [qY (by omega),Nat.zero_add]
    congr 4
    omega
  rw [show ((k+1:Nat):Int)-1=k by omega,K1]
  refine .inl ⟨_,rfl,?_⟩
  by_cases aJ:a[k]+1000000000*V rest<V b
  ·rw [if_pos aJ]
   refine ⟨⟨k,0::q,rfl,by omega,?_,by simp;omega,cN.cons (by omega) tN,jH _,by rw [fL pA];exact aJ,?_⟩,by simp⟩
   ·simp only
    rw [List.replicate_succ',List.append_assoc];rfl
   ·simp only
    rw [bo,a3,ly,fL pA]
    grind
  ·rw [if_neg aJ]
   have dB:a[k]+1000000000*V rest<1000000000*V b:=by omega
   have Cr:=Int.emod_nonneg (a[k]+1000000000*V rest) (b:=V b) (by omega)
   refine ⟨⟨k,(a[k]+1000000000*V rest) / V b::q,rfl,by omega,Kp _ _ _,by simp;omega,cN.cons ⟨Int.ediv_nonneg pA (by omega),Int.ediv_lt_of_lt_mul mx dB⟩ tN,jH _,by rw [fL Cr];exact Int.emod_lt_of_pos _ mx,?_⟩,by simp⟩
   simp only
   rw [bo,a3,ly,fL Cr]
   have rh:=Int.mul_ediv_add_emod (a[k]+1000000000*V rest) (V b)
   generalize (a[k]+1000000000*V rest) / V b=u at *
   generalize (a[k]+1000000000*V rest) % V b=t at *
   grind
theorem div_eq {a b:List Int}(bH:fg a)(aY:fg b)(li:b≠[])(a0:a.length≤900000)(hm:b.length≤900000):D8 a b=some (L (V a / V b),L (V a % V b)):=by
 unfold D8
 simp only [gP]
 by_cases o:b.length=1
 ·obtain ⟨k,d,aX,bo,q8,ri,uM⟩:=EY aY li
  have tG:k=0:=by omega
  subst tG
  have Me:V b=d:=by simpa using uM
  rw [if_pos (by simp [o]),if_pos (by omega),bo]
  simp only [Option.bind_eq_bind,Option.bind_some]
  have rh:=Int.emod_nonneg (V a) (b:=d) (by omega)
  have Cr:=Int.emod_lt_of_pos (V a) q8
  rw [Zj bH.1 ⟨q8,ri⟩ (by omega)]
  simp only [Option.bind_some]
  rw [Ey rh (by omega),Me]
  rfl
 ·obtain ⟨r,ap,az,aH,b2,dn⟩:=Zn bH aY li a0 hm
  rw [if_neg (by simp;omega),if_pos (by omega),qY (by omega),Int.toNat_natCast,ap]
  simp only [Option.bind_eq_bind,Option.bind_some]
  rw [AJ aH (by omega),dn,az]
  rfl
theorem Ka {x y:Int}(aa:0≤x):Int.gcd y (x % y)=Int.gcd x y:=by
 have:=Nat.gcd_rec y.natAbs x.natAbs
 simp only [Int.gcd]
 rw [Nat.gcd_comm x.natAbs,this,Int.natAbs_emod_of_nonneg aa,Nat.gcd_comm]
theorem EL {x:Int}(aa:0≤x):(Int.gcd x 0:Int)=x:=by
 rw [Int.gcd_zero_right];omega
theorem Zo {x y:Int}(aa:0≤x)(aP:0≤y)(Ct:x<9223372036854775808)(Cp:y<9223372036854775808):Jm x y=some (L (Int.gcd x y)):=by
 have : ∃r,iter (fun w:Int×Int=>Dd w.1 w.2) (x,y)=some r∧(r=(Int.gcd x y:Int)∧r<9223372036854775808):=by
  refine kB (eS:=fun w:Int×Int=>0≤w.1∧0≤w.2∧w.1<9223372036854775808∧w.2<9223372036854775808∧Int.gcd w.1 w.2=Int.gcd x y) (m:=fun w:Int×Int=>w.2.toNat) _ ?_ _ ⟨aa,aP,Ct,Cp,rfl⟩
  rintro ⟨u,v⟩ ⟨o,J,ak,ay,aI⟩
  simp only at o J ak ay aI
  by_cases a3:0<v
  ·have bu:=Int.emod_nonneg u (b:=v) (by omega)
   have bx:=Int.emod_lt_of_pos u a3
   refine .inl ⟨(v,u % v),?_,⟨J,bu,ay,by simp only;omega,by rw [← aI];exact Ka o⟩,by simp only;omega⟩
   unfold Dd
   rw [if_pos (by simpa using a3),if_pos (by omega),tY o]
  ·have SV:v=0:=by omega
   subst SV
   refine .inr ⟨u,by simp [Dd],?_,ak⟩
   rw [← aI,EL o]
 obtain ⟨r,ap,rfl,h⟩:=this
 unfold Jm N3
 rw [ap]
 simp only [Option.bind_eq_bind,Option.bind_some]
 rw [Ey (by omega) h]
 rfl
theorem EZ {a:List Int}(bH:fg a)(h:a.length<3):V a<9223372036854775808:=by
 have o:=m0 bH.1
 have J:=ul (m:=a.length) (n:=2) (by omega)
 have ak:B 2=1000000000000000000:=by decide
 omega
theorem aaL {a b:List Int}(bH:fg a)(aY:fg b)(a0:a.length≤900000)(hm:b.length≤900000):JF a b=some (L (Int.gcd (V a) (V b))):=by
 have : ∃r,iter (fun w:List Int×List Int=>z9 w.1 w.2) (a,b)=some r∧r.elim id id=L (Int.gcd (V a) (V b)):=by
  refine kB (eS:=fun w:List Int×List Int=>fg w.1∧fg w.2∧w.1.length≤900000∧w.2.length≤900000∧Int.gcd (V w.1) (V w.2)=Int.gcd (V a) (V b)) (m:=fun w:List Int×List Int=>(V w.2).toNat) _ ?_ _ ⟨bH,aY,a0,hm,rfl⟩
  rintro ⟨x,y⟩ ⟨o,J,ak,ay,aI⟩
  simp only at o J ak ay aI ⊢
  have iL:=k3 o.1
  have oU:=k3 J.1
  by_cases aP:y=[]
  ·subst aP
   refine .inr ⟨.inl x,by simp [z9,gP],?_⟩
   rw [← aI,Bq,EL iL]
   exact (tI o).symm
  ·have Mf:=rL J aP
   have adq:=List.length_pos_iff.mpr aP
   by_cases b4:x.length<3∧y.length<3
   ·refine .inr ⟨.inr (L (Int.gcd (V a) (V b))),?_,rfl⟩
    unfold z9
    simp only [gP]
    rw [if_pos (by simp;omega),if_pos (by simp;omega),if_pos (by simp;omega),OU o (by omega) (EZ o b4.1)]
    simp only [Option.bind_eq_bind,Option.bind_some]
    rw [OU J (by omega) (EZ J b4.2)]
    simp only [Option.bind_some]
    rw [Zo iL oU (EZ o b4.1) (EZ J b4.2),aI]
    rfl
   ·have wA:=Int.emod_nonneg (V x) (b:=V y) (by omega)
    have adr:=Int.emod_lt_of_pos (V x) Mf
    refine .inl ⟨(y,L (V x % V y)),?_,⟨J,jH _,ay,(iw wA).2 ?_,?_⟩,?_⟩
    ·unfold z9
     simp only [gP]
     rw [if_pos (by simp;omega),div_eq o J aP ak ay]
     by_cases Cu:x.length<3
     ·rw [if_pos (by simp;omega),if_neg (by simp;omega)]
      rfl
     ·rw [if_neg (by simp;omega)]
      rfl
    ·have:=m0 J.1
     have:=ul ay
     omega
    ·simp only
     rw [fL wA,← aI]
     exact Ka iL
    ·simp only
     rw [fL wA]
     omega
 obtain ⟨r,ap,h⟩:=this
 unfold JF Oo
 rw [List.nil_append,List.nil_append,if_pos (by omega),if_pos (by omega),ap]
 cases r with
 | inl r=>exact congrArg some h
 | inr r=>exact congrArg some h
def pu (p:Nat)(l:List Int):Prop:= ∀i z,i≠p→l[i]? = some z→0≤z∧z<1000000000
theorem pu.set {p:Nat}{l:List Int}(h:pu p l){k:Nat}{x:Int}(aa:0≤x∧x<1000000000):pu p (l.set k x):=fun i z ai cv=>by
 by_cases aX:k=i
 ·subst aX
  rw [List.getElem?_set] at cv
  simp only [if_true] at cv
  split at cv
  ·rw [← Option.some.inj cv];exact aa
  ·simp at cv
 ·rw [List.getElem?_set_ne aX] at cv
  exact h i z ai cv
theorem pu.Si {p:Nat}{l:List Int}(h:pu p l){x:Int}:pu p (l.set p x):=fun i z ai cv=>by
 rw [List.getElem?_set_ne (fun h=>ai h.symm)] at cv
 exact h i z ai cv
theorem cN.toE {l:List Int}(h:cN l)(p:Nat):pu p l:=fun _ _ _ cv=>h.get cv
theorem Yr {v row:List Int}{bZ m1 i:Nat}{iP carry x y:Int}(aa:v[i]? = some x)(aP:row[bZ+i]? = some y)(iL:0≤x∧x<1000000000)(oU:0≤y∧y<1000000000)(aY:0≤iP∧iP<1000000000)(aJ:0≤carry∧carry<1000000000)(hu:i<m1)(a0:row.length≤5000000):
 ∃c z,u3 bZ m1 v iP v.length carry i row=some (.inl (c,((i+1:Nat):Int),row.set (bZ+i) z))∧0≤c∧c<1000000000∧0≤z∧z<1000000000∧z-1000000000*c=y-iP*x-carry:=by
 have ai:=f9 aa
 have aC:=f9 aP
 obtain ⟨h3,gC⟩:=Bh aY iL
 have e:U (U (y-U (iP*x))-carry)=y-iP*x-carry:=by
  rw [cX (x:=iP*x) (by omega) (by omega),cX (x:=y-iP*x) (by omega) (by omega),cX (by omega) (by omega)]
 by_cases cq:y-iP*x-carry<0
 ·refine ⟨(999999999-(y-iP*x-carry)) / 1000000000,y-iP*x-carry+(999999999-(y-iP*x-carry)) / 1000000000*1000000000,?_,by omega,by omega,by omega,by omega,by omega⟩
  unfold u3
  rw [if_pos (by simp;omega),if_pos (by omega),Int.toNat_natCast,aa]
  simp only [Option.bind_eq_bind,Option.bind_some]
  rw [if_pos (by omega),aP]
  simp only [Option.bind_some,e]
  rw [if_pos (by simpa using cq),if_pos (by omega),ql (n:=i) (by omega),cX (x:=999999999-(y-iP*x-carry)) (by omega) (by omega),nL (by omega),cX (x:=(999999999-(y-iP*x-carry)) / 1000000000) (by omega) (by omega),cX (x:=(999999999-(y-iP*x-carry)) / 1000000000*1000000000) (by omega) (by omega),cX (by omega) (by omega)]
 ·refine ⟨0,y-iP*x-carry,?_,by omega,by omega,by omega,by omega,by omega⟩
  unfold u3
  rw [if_pos (by simp;omega),if_pos (by omega),Int.toNat_natCast,aa]
  simp only [Option.bind_eq_bind,Option.bind_some]
  rw [if_pos (by omega),aP]
  simp only [Option.bind_some,e]
  rw [if_neg (by simpa using cq),if_pos (by omega),ql (n:=i) (by omega)]
theorem Ys {v row:List Int}{bZ m1:Nat}{iP:Int}(a3:cN v)(ap:cN row)(aY:0≤iP∧iP<1000000000)(hu:v.length<m1)(aL:bZ+v.length<row.length)(a0:row.length≤5000000):
 ∃r,Jd bZ m1 v iP v.length 0 0 row=some r∧0≤r.1∧r.1<1000000000∧cN r.2∧r.2.length=row.length∧V r.2=V row-iP*B bZ*V v+r.1*B (bZ+v.length)∧ ∀i,i<bZ∨bZ+v.length≤i→r.2[i]? = row[i]? := by
 refine kB (eS:=fun w:Int×Int×List Int=> ∃(i:Nat),w.2.1=(i:Int)∧i≤v.length∧0≤w.1∧w.1<1000000000∧cN w.2.2∧w.2.2.length=row.length∧V w.2.2=V row-iP*B bZ*V (v.take i)+w.1*B (bZ+i)∧ ∀i,i<bZ∨bZ+v.length≤i→w.2.2[i]? = row[i]?) (m:=fun w:Int×Int×List Int=>v.length-w.2.1.toNat) _ ?_ _ ⟨0,rfl,by omega,by simp,by simp,ap,rfl,by simp [V],fun _ _=>rfl⟩
 rintro ⟨carry,ii,d7⟩ ⟨i,o,ai,m6,m8,j9,hlen,hV,k6⟩
 simp only at o m6 m8 j9 hlen hV k6 ⊢
 subst o
 by_cases zi:i=v.length
 ·subst zi
  exact .inr ⟨(carry,d7),by simp [u3],m6,m8,j9,hlen,by simpa using hV,k6⟩
 ·have aa:=List.getElem?_eq_getElem (show i<v.length by omega)
  have aP:=List.getElem?_eq_getElem (show bZ+i<d7.length by omega)
  obtain ⟨c,z,he,cj,bN,my,nM,cv⟩:=Yr (m1:=m1) aa aP (a3.get aa) (j9.get aP) aY ⟨m6,m8⟩ (by omega) (by omega)
  rw [he]
  refine .inl ⟨_,rfl,⟨i+1,rfl,by omega,cj,bN,j9.set ⟨my,nM⟩,by simpa using hlen,?_,fun k aX=> ?_⟩,by simp;omega⟩
  ·simp only
   rw [sD aP,ti aa,hV,← Nat.add_assoc,mV,Bp]
   have wa:z=d7[bZ+i]-iP*v[i]-carry+1000000000*c:=by omega
   rw [wa]
   grind
  ·simp only
   rw [List.getElem?_set_ne (by omega)]
   exact k6 k aX
theorem aaM {v row:List Int}{bZ m1:Nat}{iP:Int}(a3:cN v)(ap:cN row)(aY:0≤iP∧iP<1000000000)(hu:v.length<m1)(aL:bZ+v.length<row.length)(a0:row.length≤5000000):
 ∃y dU,Av v iP bZ m1 row=some (decide (y<0),dU)∧dU.length=row.length∧pu (bZ+v.length) dU∧dU[bZ+v.length]? = some y∧ -1000000000<y∧y<1000000000∧V dU=V row-iP*B bZ*V v∧ ∀i,i<bZ∨bZ+v.length<i→dU[i]? = row[i]? := by
 obtain ⟨r,iG,cj,bN,j9,hlen,hV,k6⟩:=Ys a3 ap aY hu aL a0
 have aa:=List.getElem?_eq_getElem (show bZ+v.length<r.2.length by omega)
 have iL:=j9.get aa
 refine ⟨r.2[bZ+v.length]-r.1,r.2.set (bZ+v.length) (r.2[bZ+v.length]-r.1),?_,by simpa using hlen,(cN.toE j9 _).Si,?_,by omega,by omega,?_,fun i ai=> ?_⟩
 ·unfold Av
  simp only [gP]
  rw [iG]
  simp only [Option.bind_eq_bind,Option.bind_some,Int.toNat_natCast]
  rw [if_pos (by omega),aa]
  simp only [Option.bind_some]
  rw [if_pos (by omega),cX (by omega) (by omega),List.getElem?_set,if_pos rfl,if_pos (by omega)]
  rfl
 ·rw [List.getElem?_set,if_pos rfl,if_pos (by omega)]
 ·rw [sD aa,hV]
  grind
 ·rw [List.getElem?_set_ne (by omega)]
  exact k6 i (by omega)
theorem Yt {v row:List Int}{bZ m1:Nat}(a3:cN v)(ap:pu (bZ+v.length) row)(hu:v.length<m1)(aL:bZ+v.length<row.length)(a0:row.length≤5000000):
 ∃r,Je bZ m1 v v.length 0 0 row=some r∧0≤r.1∧r.1≤1∧pu (bZ+v.length) r.2∧r.2.length=row.length∧V r.2=V row+B bZ*V v-r.1*B (bZ+v.length)∧ ∀i,i<bZ∨bZ+v.length≤i→r.2[i]? = row[i]? := by
 refine kB (eS:=fun w:Int×Int×List Int=> ∃(i:Nat),w.2.1=(i:Int)∧i≤v.length∧0≤w.1∧w.1≤1∧pu (bZ+v.length) w.2.2∧w.2.2.length=row.length∧V w.2.2=V row+B bZ*V (v.take i)-w.1*B (bZ+i)∧ ∀i,i<bZ∨bZ+v.length≤i→w.2.2[i]? = row[i]?) (m:=fun w:Int×Int×List Int=>v.length-w.2.1.toNat) _ ?_ _ ⟨0,rfl,by omega,by simp,by simp,ap,rfl,by simp [V],fun _ _=>rfl⟩
 rintro ⟨carry,ii,d7⟩ ⟨i,o,ai,m6,m8,j9,hlen,hV,k6⟩
 simp only at o m6 m8 j9 hlen hV k6 ⊢
 subst o
 by_cases zi:i=v.length
 ·subst zi
  exact .inr ⟨(carry,d7),by simp [xP],m6,m8,j9,hlen,by simpa using hV,k6⟩
 ·have aa:=List.getElem?_eq_getElem (show i<v.length by omega)
  have aP:=List.getElem?_eq_getElem (show bZ+i<d7.length by omega)
  have iL:=a3.get aa
  have oU:=j9 _ _ (by omega) aP
  have he:xP bZ m1 v v.length carry i d7=some (.inl ((d7[bZ+i]+v[i]+carry) / 1000000000,((i+1:Nat):Int),d7.set (bZ+i) ((d7[bZ+i]+v[i]+carry) % 1000000000))):=by
   unfold xP
   rw [if_pos (by simp;omega),if_pos (by omega),Int.toNat_natCast,aa]
   simp only [Option.bind_eq_bind,Option.bind_some]
   rw [if_pos (by omega),aP]
   simp only [Option.bind_some]
   rw [if_pos (by omega),cX (x:=d7[bZ+i]+v[i]) (by omega) (by omega),cX (x:=d7[bZ+i]+v[i]+carry) (by omega) (by omega),tY (by omega),nL (by omega),cX (by omega) (by omega),ql (n:=i) (by omega)]
  rw [he]
  refine .inl ⟨_,rfl,⟨i+1,rfl,by omega,by simp only;omega,by simp only;omega,j9.set (by omega),by simpa using hlen,?_,fun k aX=> ?_⟩,by simp;omega⟩
  ·simp only
   rw [sD aP,ti aa,hV,← Nat.add_assoc,mV,Bp]
   have:=Int.mul_ediv_add_emod (d7[bZ+i]+v[i]+carry) 1000000000
   generalize (d7[bZ+i]+v[i]+carry) / 1000000000=q at *
   generalize (d7[bZ+i]+v[i]+carry) % 1000000000=t at *
   have wa:t=d7[bZ+i]+v[i]+carry-1000000000*q:=by omega
   rw [wa]
   grind
  ·simp only
   rw [List.getElem?_set_ne (by omega)]
   exact k6 k aX
theorem aaN {v row:List Int}{bZ m1:Nat}{y:Int}(a3:cN v)(ap:pu (bZ+v.length) row)(hu:v.length<m1)(aL:bZ+v.length<row.length)(a0:row.length≤5000000)(aP:row[bZ+v.length]? = some y)(oU:-1000000000<y)(Cp:y<1000000000):
 ∃ln dU,yi v bZ m1 row=some dU∧dU.length=row.length∧pu (bZ+v.length) dU∧dU[bZ+v.length]? = some ln∧V dU=V row+B bZ*V v∧ ∀i,i<bZ∨bZ+v.length<i→dU[i]? = row[i]? := by
 obtain ⟨r,iG,cj,bN,j9,hlen,hV,k6⟩:=Yt a3 ap hu aL a0
 have aa:r.2[bZ+v.length]? = some y:=by rw [k6 _ (by omega)];exact aP
 refine ⟨y+r.1,r.2.set (bZ+v.length) (y+r.1),?_,by simpa using hlen,j9.Si,?_,?_,fun i ai=> ?_⟩
 ·unfold yi
  simp only [gP]
  rw [iG]
  simp only [Option.bind_eq_bind,Option.bind_some,Int.toNat_natCast]
  rw [if_pos (by omega),aa]
  simp only [Option.bind_some]
  rw [if_pos (by omega),cX (by omega) (by omega)]
 ·rw [List.getElem?_set,if_pos rfl,if_pos (by omega)]
 ·rw [sD aa,hV]
  grind
 ·rw [List.getElem?_set_ne (by omega)]
  exact k6 i (by omega)
theorem Zp {g q v1 v2 top gK rest aU W P:Int}(gg:1≤P)(dN:0≤g)(cq:g*v1+rest=top)(uL:P*(v1*1000000000+v2)≤W)(Mc:aU<P*(top*1000000000+gK+1))(Tb:q*W≤aU)(hW:0≤W)(h:rest*1000000000+gK<g*v2):q<g:=by
 apply Int.not_le.mp
 intro uN
 have o:g*W≤q*W:=Int.mul_le_mul_of_nonneg_right uN hW
 have J:g*(P*(v1*1000000000+v2))≤g*W:=Int.mul_le_mul_of_nonneg_left uL dN
 have ak:g*(P*(v1*1000000000+v2))=P*(g*(v1*1000000000+v2)):=by grind
 have ay:P*(g*(v1*1000000000+v2))<P*(top*1000000000+gK+1):=by omega
 have aI:=Int.lt_of_mul_lt_mul_left ay (by omega)
 have bu:g*(v1*1000000000+v2)=1000000000*(g*v1)+g*v2:=by grind
 omega
theorem PN {g v1 v2 top gK rest aU W P:Int}(gg:1≤P)(dN:0≤g)(uO:g≤999999999)(r6:1≤v1)(Cv:0≤v2)(cq:g*v1+rest=top)(uL:P*(v1*1000000000+v2)≤W)(FQ:W<P*(v1*1000000000+v2+1))(FP:P*(top*1000000000+gK)≤aU)(h:g*v2≤rest*1000000000+gK):g≤aU / W+1:=by
 have Cw:P*1000000000≤W:=by
  have o:P*1000000000≤P*(v1*1000000000+v2):=Int.mul_le_mul_of_nonneg_left (by omega) (by omega)
  omega
 have o:g*W≤g*(P*(v1*1000000000+v2+1)):=Int.mul_le_mul_of_nonneg_left (by omega) dN
 have J:g*(P*(v1*1000000000+v2+1))=P*(1000000000*(g*v1)+g*v2+g):=by grind
 have ak:P*(1000000000*(g*v1)+g*v2+g)≤P*(top*1000000000+gK+999999999):=Int.mul_le_mul_of_nonneg_left (by omega) (by omega)
 have ay:P*(top*1000000000+gK+999999999)=P*(top*1000000000+gK)+P*999999999:=by grind
 have aI:(g-1)*W=g*W-W:=by grind
 have:g-1≤aU / W:=(Int.le_ediv_iff_mul_le (by omega)).2 (by omega)
 omega
theorem XS {au u iz ao:List Int}{N n j:Nat}{v1 v2 gK top aU W P:Int}(a0:2≤n)(LC:n≤5000000)(Cx:j+n<N)(fF:N≤5000000)(o:iz[n-1]? = some v1)(J:iz[n-2]? = some v2)(ak:u[j+n-2]? = some gK)
 (r6:1≤v1∧v1<1000000000) (Cv:0≤v2∧v2<1000000000) (agh:0≤gK∧gK<1000000000) (gg:1≤P) (uL:P*(v1*1000000000+v2)≤W) (FQ:W<P*(v1*1000000000+v2+1)) (FP:P*(top*1000000000+gK)≤aU) (Mc:aU<P*(top*1000000000+gK+1)) (c3:0≤aU) (Md:aU<1000000000*W) (mI:0≤top) (agi:top≤v1*1000000000+999999999) (bi:aU / W≤top / v1) :
 ∃g,Ju N n n j au u iz ao (top / v1) (top % v1)=some g∧(aU / W=g∨aU / W+1=g)∧0≤g∧g≤999999999:=by
 have Cw:0<W:=by
  have o:P*1000000000≤P*(v1*1000000000+v2):=Int.mul_le_mul_of_nonneg_left (by omega) (by omega)
  omega
 have oO:0≤aU / W:=Int.ediv_nonneg c3 (by omega)
 have rU:aU / W<1000000000:=Int.ediv_lt_of_lt_mul Cw Md
 have Tb:aU / W*W≤aU:=Int.ediv_mul_le _ (by omega)
 have adt:=Int.mul_ediv_add_emod top v1
 have n4:=Int.emod_nonneg top (b:=v1) (by omega)
 have rh:=Int.emod_lt_of_pos top (b:=v1) (by omega)
 have Lh:U ((n:Int)-1)=((n-1:Nat):Int):=by rw [cX (by omega) (by omega)];omega
 have ab5:U ((n:Int)-2)=((n-2:Nat):Int):=by rw [cX (by omega) (by omega)];omega
 have ab6:U (U ((j:Int)+(n:Int))-2)=((j+n-2:Nat):Int):=by rw [cX (x:=(j:Int)+n) (by omega) (by omega),cX (by omega) (by omega)];omega
 have Fp:top / v1≤top:=Int.ediv_le_self _ mI
 refine kB (eS:=fun w:Int×Int=>w.1*v1+w.2=top∧0≤w.2∧w.2<1000000000∧aU / W≤w.1∧w.1≤top) (m:=fun w:Int×Int=>w.1.toNat) _ ?_ _ ⟨by rw [Int.mul_comm];exact adt,n4,by simp only;omega,bi,Fp⟩
 rintro ⟨g,rest⟩ ⟨kA,lo,wN,tS,CP⟩
 simp only at kA lo wN tS CP ⊢
 have Mg:U (rest+v1)=rest+v1:=cX (by omega) (by omega)
 have Mh:U (g-1)=g-1:=cX (by omega) (by omega)
 have uO:(g-1)*v1+(rest+v1)=top:=by grind
 have Ry:aU / W≤g-1→1000000000≤rest+v1→(aU / W=g-1∨aU / W+1=g-1)∧0≤g-1∧g-1≤999999999:=by
  intro kc jz
  have ma:(g-1)*v1<1000000000*v1:=by omega
  have MU:g-1<1000000000:=Int.lt_of_mul_lt_mul_right ma (by omega)
  have TL:0≤g-1:=by omega
  have agT:=(Bh ⟨TL,MU⟩ Cv).2
  have:=PN gg TL (by omega) r6.1 Cv.1 uO uL FQ FP (by omega)
  omega
 by_cases Li:1000000000≤g
 ·by_cases aY:1000000000≤rest+v1
  ·refine .inr ⟨g-1,?_,Ry (by omega) aY⟩
   unfold u5
   rw [if_pos (by simpa using Li),Lh,if_pos (by omega),Nat.zero_add,Int.toNat_natCast,o]
   simp only [Option.bind_eq_bind,Option.bind_some,Mg,Mh]
   rw [if_pos (by simpa using aY)]
  ·refine .inl ⟨(g-1,rest+v1),?_,⟨uO,by simp only;omega,by simp only;omega,by simp only;omega,by simp only;omega⟩,by simp only;omega⟩
   unfold u5
   rw [if_pos (by simpa using Li),Lh,if_pos (by omega),Nat.zero_add,Int.toNat_natCast,o]
   simp only [Option.bind_eq_bind,Option.bind_some,Mg,Mh]
   rw [if_neg (by simpa using aY)]
 ·have hU:0≤g:=by omega
  obtain ⟨h3,gC⟩:=Bh ⟨hU,by omega⟩ Cv
  have az:U (U (rest*1000000000)+gK)=rest*1000000000+gK:=by rw [cX (x:=rest*1000000000) (by omega) (by omega),cX (by omega) (by omega)]
  have aH:U (g*v2)=g*v2:=cX (by omega) (by omega)
  have K1:u5 N n n j au u iz ao g rest=some (if rest*1000000000+gK<g*v2 then (if 1000000000≤rest+v1 then .inr (g-1) else .inl (g-1,rest+v1)) else .inr g):=by
   unfold u5
   rw [if_neg (by simpa using Li),ab5,if_pos (by omega),Nat.zero_add,Int.toNat_natCast,J]
   simp only [Option.bind_eq_bind,Option.bind_some]
   rw [ab6,if_pos (by omega),Nat.zero_add,Int.toNat_natCast,ak]
   simp only [Option.bind_some,az,aH]
   by_cases aJ:rest*1000000000+gK<g*v2
   ·rw [if_pos (by simpa using aJ),if_pos aJ,Lh,if_pos (by omega),Nat.zero_add,Int.toNat_natCast,o]
    simp only [Option.bind_some,Mg,Mh]
    by_cases aY:1000000000≤rest+v1
    ·rw [if_pos (by simpa using aY),if_pos aY]
    ·rw [if_neg (by simpa using aY),if_neg aY]
   ·rw [if_neg (by simpa using aJ),if_neg aJ]
  rw [K1]
  by_cases aJ:rest*1000000000+gK<g*v2
  ·have agj:=Zp gg hU kA uL Mc Tb (by omega) aJ
   rw [if_pos aJ]
   by_cases aY:1000000000≤rest+v1
   ·rw [if_pos aY]
    exact .inr ⟨g-1,rfl,Ry (by omega) aY⟩
   ·rw [if_neg aY]
    exact .inl ⟨(g-1,rest+v1),rfl,⟨uO,by simp only;omega,by simp only;omega,by simp only;omega,by simp only;omega⟩,by simp only;omega⟩
  ·rw [if_neg aJ]
   have:=PN gg hU (by omega) r6.1 Cv.1 kA uL FQ FP (by omega)
   exact .inr ⟨g,rfl,by omega,by omega,by omega⟩
theorem Yu {a b:List Int}{k:Nat}(h:∀i,k≤i→a[i]? = b[i]?):a.drop k=b.drop k:=by
 apply List.ext_getElem?
 intro i
 rw [List.getElem?_drop,List.getElem?_drop]
 exact h _ (by omega)
theorem Yv {a b:List Int}{k:Nat}(h:∀i,i<k→a[i]? = b[i]?):a.take k=b.take k:=by
 apply List.ext_getElem?
 intro i
 rw [List.getElem?_take,List.getElem?_take]
 by_cases ai:i<k
 ·rw [if_pos ai,if_pos ai];exact h i ai
 ·rw [if_neg ai,if_neg ai]
theorem Tc {u w:List Int}{j n:Nat}{y c:Int}(hlen:w.length=u.length)(Cx:j+n<u.length)(ei:pu (j+n) w)(aP:w[j+n]? = some y)(k6:∀i,i<j∨j+n<i→w[i]? = u[i]?)(h0:V (u.drop (j+n+1))=0)(hV:V w=V u-c*B j):
 V (w.drop j)=V (u.drop j)-c∧ ∃low,0≤low∧low<B n∧V (w.drop j)=low+B n*y:=by
 have o:=vz (l:=u) (n:=j) (by omega)
 have J:=vz (l:=w) (n:=j) (by omega)
 rw [Yv (a:=w) (b:=u) (fun i ai=>k6 i (.inl ai))] at J
 have ak:B j*V (w.drop j)=B j*(V (u.drop j)-c):=by grind
 have hj:=pg j
 have ay:V (w.drop j)=V (u.drop j)-c:=Int.eq_of_mul_eq_mul_left (by omega) ak
 refine ⟨ay,V ((w.drop j).take n),?_,?_,?_⟩
 ·refine k3 (fun x aa=> ?_)
  obtain ⟨i,ai⟩:=List.mem_iff_getElem?.mp aa
  have mu:=f9 ai
  simp at mu
  rw [List.getElem?_take,if_pos (by omega),List.getElem?_drop] at ai
  exact ei _ _ (by omega) ai
 ·have aL:cN ((w.drop j).take n):=fun x aa=>by
   obtain ⟨i,ai⟩:=List.mem_iff_getElem?.mp aa
   have mu:=f9 ai
   simp at mu
   rw [List.getElem?_take,if_pos (by omega),List.getElem?_drop] at ai
   exact ei _ _ (by omega) ai
  have:=m0 aL
  rwa [List.length_take,Nat.min_eq_left (by simp;omega)] at this
 ·have aI:=vz (l:=w.drop j) (n:=n) (by simp;omega)
  rw [List.drop_drop,o6 aP,Yu (a:=w) (b:=u) (k:=j+n+1) (fun i ai=>k6 i (.inr (by omega))),h0] at aI
  rw [aI]
  grind
theorem PO {w:List Int}{p:Nat}(ei:pu p w)(aP:w[p]? = some 0):cN w:=fun x aa=>by
 obtain ⟨i,ai⟩:=List.mem_iff_getElem?.mp aa
 by_cases h:i=p
 ·subst h
  rw [aP] at ai
  have:=Option.some.inj ai
  omega
 ·exact ei i x h ai
theorem Qi {low y X wO W:Int}(h0:0≤low)(o:low<wO)(Gf:X=low+wO*y)(J:0≤X)(ak:X<W)(ay:W≤wO):y=0:=by
 have dB:wO*y<wO*1:=by omega
 have aI:=Int.lt_of_mul_lt_mul_left dB (by omega)
 have FD:wO*(-1)<wO*y:=by omega
 have bu:=Int.lt_of_mul_lt_mul_left FD (by omega)
 omega
theorem Yw {au u iz ao:List Int}{n j:Nat}{v1 W:Int}(a0:2≤n)(FT:n≤iz.length)(a3:cN (iz.take n))(hW:V (iz.take n)=W)(r6:iz[n-1]? = some v1)(Lj:1≤v1)(hu:cN u)(wB:u.length≤5000000)(Cx:j+n<u.length)(dB:V (u.drop (j+1))<W)(agk:j<ao.length):
 ∃k0,u6 u.length n n au iz j u ao=some (.inl ((j:Int)-1,k0,ao.set j (V (u.drop j) / W)))∧cN k0∧k0.length=u.length∧V k0=V u-(V (u.drop j) / W)*B j*W∧V (k0.drop j)<W∧0≤V (u.drop j) / W∧V (u.drop j) / W<1000000000:=by
 obtain ⟨n,rfl⟩ : ∃m,n=m+2:=⟨n-2,by omega⟩
 have qs:(iz.take (n+2)).length=n+2:=by simp;omega
 have uO:(iz.take (n+2))[n+1]? = some v1:=by rw [List.getElem?_take,if_pos (by omega)];exact r6
 have Td:=List.getElem?_eq_getElem (show n<iz.length by omega)
 have Sj:(iz.take (n+2))[n]? = some iz[n]:=by rw [List.getElem?_take,if_pos (by omega)];exact Td
 have ab7:=a3.get uO
 have ab8:=a3.get Sj
 have iL:=List.getElem?_eq_getElem (show j+(n+2)<u.length by omega)
 have Ct:=List.getElem?_eq_getElem (show j+(n+1)<u.length by omega)
 have B9:=List.getElem?_eq_getElem (show j+n<u.length by omega)
 have Te:=List.getElem?_eq_getElem (show j<u.length by omega)
 have li:=hu.get iL
 have rY:=hu.get Ct
 have zo:=hu.get B9
 have agl:=hu.get Te
 have Cy:=sr a3 (k:=n+1) (by omega)
 rw [AS uO (by omega),hW] at Cy
 have Mi:=sr a3 (k:=n) (by omega)
 rw [o6 Sj,AS uO (by omega),hW] at Mi
 have Lk:=m0 a3
 rw [qs,hW] at Lk
 have agm:0≤W:=by rw [← hW];exact k3 a3
 have cv:=sr (hu.drop (j+1)) (k:=n+2) (by simp;omega)
 rw [List.drop_drop] at cv
 have adu:=k3 (hu.drop (j+1+(n+2)))
 have agn:=pg (n+2)
 have h0:V (u.drop (j+(n+2)+1))=0:=by
  rw [show j+(n+2)+1=j+1+(n+2) by omega]
  apply Int.le_antisymm _ adu
  apply Int.not_lt.mp
  intro h
  have:B (n+2)*1≤B (n+2)*V (u.drop (j+1+(n+2))):=Int.mul_le_mul_of_nonneg_left (by omega) (by omega)
  omega
 have mI:V (u.drop (j+(n+2)))=u[j+(n+2)]:=by rw [o6 iL,h0];omega
 have Fp:V (u.drop (j+(n+1)))=u[j+(n+1)]+1000000000*u[j+(n+2)]:=by rw [o6 Ct,show j+(n+1)+1=j+(n+2) by omega,mI]
 have ia:V (u.drop (j+n))=u[j+n]+1000000000*(u[j+(n+1)]+1000000000*u[j+(n+2)]):=by rw [o6 B9,show j+n+1=j+(n+1) by omega,Fp]
 have iG:=sr (hu.drop j) (k:=n+1) (by simp;omega)
 rw [List.drop_drop,Fp] at iG
 have Mj:=sr (hu.drop j) (k:=n) (by simp;omega)
 rw [List.drop_drop,ia] at Mj
 have pA:=k3 (hu.drop j)
 have c3:V (u.drop j)<1000000000*W:=by rw [o6 Te];omega
 have adv:=pg n
 have ab9:=pg (n+1)
 have v8:u[j+(n+2)]≤v1:=by
  have o:=sr (hu.drop (j+1)) (k:=n+1) (by simp;omega)
  rw [List.drop_drop,show j+1+(n+1)=j+(n+2) by omega,mI] at o
  have J:B (n+1)*u[j+(n+2)]<B (n+1)*(v1+1):=by omega
  have:=Int.lt_of_mul_lt_mul_left J (by omega)
  omega
 have aca:=OD ab9 iG.1 iG.2 Cy.1 Cy.2 (by omega) (by omega) c3
 obtain ⟨g,dN,uN,adw,ago⟩:=XS (au:=au) (ao:=ao) (N:=u.length) (n:=n+2) (j:=j) (v1:=v1) (v2:=iz[n]) (gK:=u[j+n]) (top:=u[j+(n+1)]+1000000000*u[j+(n+2)]) (aU:=V (u.drop j)) (W:=W) (P:=B n) (u:=u) (iz:=iz) (by omega) (by omega) Cx wB r6 Td B9 ⟨Lj,ab7.2⟩ ab8 zo adv
  (by rw [Int.mul_comm v1,Int.add_comm];exact Mi.1) (by rw [Int.mul_comm v1,Int.add_comm (1000000000*v1)];exact Mi.2)
  (by rw [Int.mul_comm (u[j+(n+1)]+_),Int.add_comm];exact Mj.1) (by rw [Int.mul_comm (u[j+(n+1)]+_),Int.add_comm (1000000000*_) u[j+n]];exact Mj.2) pA c3 (by omega) (by omega) aca.2.1
 have Cw:0<W:=by
  have:B (n+1)*1≤B (n+1)*v1:=Int.mul_le_mul_of_nonneg_left (by omega) (by omega)
  omega
 have oO:0≤V (u.drop j) / W:=Int.ediv_nonneg pA (by omega)
 have rU:V (u.drop j) / W<1000000000:=Int.ediv_lt_of_lt_mul Cw c3
 have hm:=Int.mul_ediv_add_emod (V (u.drop j)) W
 have n4:=Int.emod_nonneg (V (u.drop j)) (b:=W) (by omega)
 have rh:=Int.emod_lt_of_pos (V (u.drop j)) Cw
 obtain ⟨y,w,cq,Tf,FU,FV,oU,Cp,FW,KI⟩:=aaM (v:=iz.take (n+2)) (row:=u) (bZ:=j) (m1:=u.length-j) (iP:=g) a3 hu ⟨adw,by omega⟩ (by omega) (by omega) wB
 rw [qs] at FU FV KI
 rw [hW] at FW
 obtain ⟨Cu,low,nD,Mk,v9⟩:=Tc (c:=g*W) Tf Cx FU FV KI h0 (by rw [FW];grind)
 have adx:U ((j:Int)-1)=(j:Int)-1:=qY (by omega)
 have az:U ((j:Int)+((n+2:Nat):Int))=((j+(n+2):Nat):Int):=by rw [cX (by omega) (by omega)];omega
 have aH:U (((j+(n+2):Nat):Int)-1)=((j+(n+1):Nat):Int):=by rw [cX (by omega) (by omega)];omega
 have b2:U (((n+2:Nat):Int)-1)=((n+1:Nat):Int):=by rw [cX (by omega) (by omega)];omega
 have dn:U (U (u[j+(n+2)]*1000000000)+u[j+(n+1)])=u[j+(n+1)]+1000000000*u[j+(n+2)]:=by
  rw [cX (x:=u[j+(n+2)]*1000000000) (by omega) (by omega),cX (by omega) (by omega)];omega
 have ej:0≤u[j+(n+1)]+1000000000*u[j+(n+2)]:=by omega
 have fq:(u[j+(n+1)]+1000000000*u[j+(n+2)]) / v1≤u[j+(n+1)]+1000000000*u[j+(n+2)]:=Int.ediv_le_self _ ej
 have fr:0≤(u[j+(n+1)]+1000000000*u[j+(n+2)]) / v1:=Int.ediv_nonneg ej (by omega)
 have acb:iz[n+1]? = some v1:=r6
 have pre:u6 u.length (n+2) ((n+2:Nat):Int) au iz j u ao =
  (if (decide (y<0))=true then
    yi (iz.take (n+2)) j (u.length-j) w >>= fun fw=>some (.inl ((j:Int)-1,fw,ao.set j (U (g-1))))
  else some (.inl ((j:Int)-1,w,ao.set j g))):=by
  unfold u6
  rw [if_pos (by simp)]
  simp only [az,aH,b2,Int.toNat_natCast,Nat.zero_add,adx]
  rw [if_pos (by omega),iL]
  simp only [Option.bind_eq_bind,Option.bind_some]
  rw [if_pos (by omega),Ct]
  simp only [Option.bind_some]
  rw [if_pos (by omega),acb]
  simp only [Option.bind_some]
  rw [if_pos (by omega),dn,nL ej,tY ej,cX (by omega) (by omega),dN]
  simp only [Option.bind_some]
  rw [if_pos (by omega),if_pos (by omega),if_pos (by omega),List.drop_zero,cq]
  simp only [Option.bind_some]
  by_cases aP:y<0
  ·have bo:(decide (y<0))=true:=by simpa using aP
   simp only [if_pos bo]
   congr 1
   funext r
   rw [if_pos (by omega),if_pos (by omega)]
  ·have bo : ¬(decide (y<0))=true:=by simpa using aP
   simp only [if_neg bo]
   rw [if_pos (by omega),if_pos (by omega)]
 rcases uN with uN|uN
 ·subst uN
  have Gf:V (w.drop j)=V (u.drop j) % W:=by rw [Cu];grind
  have aP:y=0:=Qi (W:=W) nD Mk v9 (by rw [Gf];exact n4) (by rw [Gf];exact rh) (Int.le_of_lt Lk)
  subst aP
  refine ⟨w,?_,PO FU FV,Tf,FW,by omega,oO,rU⟩
  rw [pre]
  rfl
 ·have Gf:V (w.drop j)=V (u.drop j) % W-W:=by rw [Cu,← uN];grind
  have aP:y<0:=by
   apply Int.not_le.mp
   intro h
   have:0≤B (n+2)*y:=Int.mul_nonneg (by omega) h
   omega
  obtain ⟨ln,bJ,nZ,afS,Ll,Lm,Sk,QW⟩:=aaN (v:=iz.take (n+2)) (row:=w) (bZ:=j) (m1:=u.length-j) (y:=y) a3 (by rw [qs];exact FU) (by omega) (by omega) (by omega) (by rw [qs];exact FV) oU Cp
  rw [qs] at Ll Lm QW
  rw [hW] at Sk
  have Tg:V bJ=V u-V (u.drop j) / W*B j*W:=by rw [Sk,FW,← uN];grind
  obtain ⟨acd,afT,ace,acf,acg⟩:=Tc (c:=V (u.drop j) / W*W) (by omega) Cx Ll Lm (fun i ai=>by rw [QW i ai,KI i ai]) h0 (by rw [Tg];grind)
  have Th:V (bJ.drop j)=V (u.drop j) % W:=by rw [acd];grind
  have l2:ln=0:=Qi (W:=W) ace acf acg (by rw [Th];exact n4) (by rw [Th];exact rh) (Int.le_of_lt Lk)
  subst l2
  refine ⟨bJ,?_,PO Ll Lm,by omega,Tg,by omega,oO,rU⟩
  rw [pre,if_pos (by simpa using aP),nZ]
  simp only [Option.bind_eq_bind,Option.bind_some]
  rw [cX (by omega) (by omega),show g-1=V (u.drop j) / W by omega]
theorem Yx {au iz u:List Int}{n m:Nat}{v1 W:Int}(a0:2≤n)(FT:n≤iz.length)(a3:cN (iz.take n))(hW:V (iz.take n)=W)(r6:iz[n-1]? = some v1)(Lj:1≤v1)(hu:cN u)(wB:u.length≤5000000)(hm:m+n=u.length)(dB:V (u.drop m)<W):
 ∃r,Jv u.length n n au iz ((m:Int)-1) u (List.replicate m 0)=some r∧cN r.1∧r.1.length=u.length∧V r.1<W∧cN r.2∧r.2.length=m∧V u=V r.2*W+V r.1:=by
 refine kB (eS:=fun w:Int×List Int×List Int=> ∃(k:Nat) (q:List Int),w.1=(k:Int)-1∧k≤m∧cN w.2.1∧w.2.1.length=u.length∧w.2.2=List.replicate k 0++q∧q.length+k=m∧cN q∧V (w.2.1.drop k)<W∧V u=V w.2.1+B k*V q*W) (m:=fun w:Int×List Int×List Int=>(w.1+1).toNat) _ ?_ _ ⟨m,[],rfl,by omega,hu,rfl,by simp,by simp,cN.nil,dB,by simp [V]⟩
 rintro ⟨aeA,k0,ao⟩ ⟨k,q,o,aX,oP,hlen,ak,bi,tN,Ln,hV⟩
 simp only at o oP hlen ak Ln hV ⊢
 subst o ak
 cases k with
 | zero =>
  refine .inr ⟨(k0,q),by simp [u6],oP,hlen,by simpa using Ln,tN,by simpa using bi,?_⟩
  rw [hV]
  simp [B]
  omega
 | succ k =>
  obtain ⟨agp,he,s1,s2,wE,aeB,aeC,aeD⟩:=Yw (au:=au) (iz:=iz) (u:=k0) (ao:=List.replicate (k+1) 0++q) (j:=k) a0 FT a3 hW r6 Lj oP (by omega) (by omega) Ln (by simp;omega)
  rw [hlen] at he
  rw [show ((k+1:Nat):Int)-1=k by omega,he]
  refine .inl ⟨_,rfl,⟨k,V (k0.drop k) / W::q,rfl,by omega,s1,s2.trans hlen,Kp _ _ _,by simp;omega,cN.cons ⟨aeC,aeD⟩ tN,aeB,?_⟩,by simp only;omega⟩
  simp only
  rw [hV,wE,ly,mV]
  grind
theorem Kb {a:List Int}(h:a.length≤900000):vA a=some a:=by
 unfold vA
 rw [if_pos (by omega)]
theorem XT {a b q s:Int}(h:a=q*b+s)(h0:0≤s)(o:s<b):a / b=q∧a % b=s:=by
 subst h
 constructor
 ·rw [Int.add_comm,Int.add_mul_ediv_right _ _ (by omega),Int.ediv_eq_zero_of_lt h0 o]
  omega
 ·rw [Int.add_comm,Int.add_mul_emod_self_right]
  exact Int.emod_eq_of_lt h0 o
theorem EM {a b:List Int}(bH:fg a)(aY:fg b)(li:b≠[])(a0:a.length≤900000)(hm:b.length≤900000):tc a b=some (L (V a / V b),L (V a % V b)):=by
 have mx:=rL aY li
 have Fx:=k3 bH.1
 unfold tc
 simp only [gP]
 rw [Ec bH aY (by omega)]
 simp only [Option.bind_eq_bind,Option.bind_some]
 by_cases aJ:V a<V b
 ·rw [if_pos (by simpa using yO.2 aJ),Kb a0,Int.ediv_eq_zero_of_lt Fx aJ,Int.emod_eq_of_lt Fx aJ,pI,tI bH]
  rfl
 ·rw [if_neg (fun h=>aJ (yO.1 (by simpa using h)))]
  obtain ⟨k,d,aX,bo,q8,ri,uM⟩:=EY aY li
  by_cases o:b.length=1
  ·have tG:k=0:=by omega
   subst tG
   have Me:V b=d:=by simpa using uM
   rw [if_pos (by simp [o]),if_pos (by omega),bo]
   simp only [Option.bind_some]
   have rh:=Int.emod_nonneg (V a) (b:=d) (by omega)
   have Cr:=Int.emod_lt_of_pos (V a) q8
   rw [OC bH.1 ⟨q8,ri⟩ (by omega)]
   simp only [Option.bind_some]
   rw [Bt rh (by omega),JP rh (by omega),Me]
   rfl
  ·have hw:U ((b.length:Int)-1)=(k:Int):=by rw [cX (by omega) (by omega)];omega
   have az:U (d+1)=d+1:=cX (by omega) (by omega)
   have FX:1≤1000000000 / (d+1):=by
    apply (Int.le_ediv_iff_mul_le (by omega)).2
    omega
   have Ml:1000000000 / (d+1)<1000000000:=by
    apply Int.ediv_lt_of_lt_mul (by omega)
    omega
   have ady:1000000000 / (d+1)*(d+1)≤1000000000:=Int.ediv_mul_le _ (by omega)
   have aH:U ((1000000000:Int).tdiv (d+1))=1000000000 / (d+1):=by rw [nL (by omega),cX (by omega) (by omega)]
   rw [if_neg (by simp;omega),hw,if_pos (by omega),Int.toNat_natCast,bo]
   simp only [Option.bind_some,az,aH]
   generalize 1000000000 / (d+1)=f at *
   rw [if_pos (by omega)]
   have jw:cN [f]:=cN.cons (by omega) cN.nil
   have adz:V [f]=f:=by simp [V]
   have adA:a≠[]:=by
    intro h
    subst h
    simp [V] at aJ
    omega
   obtain ⟨mg,wP,adB,agq,adC,FY,agr⟩:=Pl bH.1 jw adA (by simp) (by omega) (by simp)
   obtain ⟨CQ,iz,adD,ags,adE,Mm,agt⟩:=Pl aY.1 jw li (by simp) (by omega) (by simp)
   rw [adz] at FY Mm
   rw [adB]
   simp only [Option.bind_some]
   simp only [List.length_singleton] at adC adE
   have agu:=pg k
   have adF:V b*f<B b.length:=by
    have J:=(sr aY.1 (k:=k) (by omega)).2
    rw [uM] at J
    have ak:V b*f≤(B k*(d+1)-1)*f:=Int.mul_le_mul_of_nonneg_right (by omega) (by omega)
    have ay:(B k*(d+1)-1)*f=B k*(f*(d+1))-f:=by grind
    have aI:B k*(f*(d+1))≤B k*1000000000:=Int.mul_le_mul_of_nonneg_left ady (by omega)
    rw [aX,mV]
    omega
   have agv:V b≤V b*f:=by
    have:V b*1≤V b*f:=Int.mul_le_mul_of_nonneg_left FX (by omega)
    omega
   have agw:V a≤V a*f:=by
    have:V a*1≤V a*f:=Int.mul_le_mul_of_nonneg_left FX (by omega)
    omega
   have Mn:0≤V b*f:=by omega
   have Ti:0≤V a*f:=by omega
   have Tj:CQ=b.length:=by
    have J:(iz.take CQ).length=CQ:=by simp;omega
    rw [Mm] at J
    have ak:=(iw Mn (k:=b.length)).2 adF
    have ay:=Fm aY li
    have aI : ¬(L (V b*f)).length≤b.length-1:=fun h=>by
     have:=(iw Mn).1 h
     omega
    omega
   have adG:(L (V a*f)).length=mg:=by rw [← FY];simp;omega
   have Sl:=m0 (kT (V a*f))
   rw [fL Ti,adG] at Sl
   have afU:a.length≤mg:=bH.len.2 (by omega)
   have agx:b.length≤a.length:=Nat.le_of_not_lt fun h=>by
    have:=EG bH aY h
    omega
   rw [if_pos (by omega),if_pos (by simp;omega),adD]
   simp only [Option.bind_some]
   have wB:(wP.take mg++[0]).length=mg+1:=by simp;omega
   have Mo:DZ a CQ [f] iz (wP.take mg++[0])=some (wP.take mg++[0]):=by
    unfold DZ
    rw [iter]
    unfold Dt
    simp only [gP,wB]
    rw [if_neg (by simp;omega)]
    rfl
   rw [Mo]
   simp only [Option.bind_some,wB]
   have m7:U (((mg+1:Nat):Int)-((CQ:Nat):Int))=((mg+1-b.length:Nat):Int):=by rw [cX (by omega) (by omega)];omega
   rw [m7,if_pos (by omega),qY (by omega),Int.toNat_natCast]
   have RY:cN (wP.take mg++[0]):=by
    rw [FY]
    exact (kT _).append (cN.cons (by omega) cN.nil)
   have Tk:V (wP.take mg++[0])=V a*f:=by
    rw [yC,FY,fL Ti]
    simp [V]
   have KJ:iz.take b.length=L (V b*f):=by rw [← Tj];exact Mm
   have adH:V (iz.take b.length)=V b*f:=by rw [KJ,fL Mn]
   obtain ⟨dJ,wQ,m9,tE,afV,afW,afX⟩:=EY (jH (V b*f)) (fun h=>by have:=uu.1 h;omega)
   rw [← KJ] at m9 tE
   have qs:(iz.take b.length).length=b.length:=by simp;omega
   have wc:iz[b.length-1]? = some wQ:=by
    rw [List.getElem?_take] at tE
    rw [show b.length-1=dJ by omega]
    split at tE
    ·exact tE
    ·simp at tE
   have ach:V ((wP.take mg++[0]).drop (mg+1-b.length))<V b*f:=by
    have J:=(sr RY (k:=mg+1-b.length) (by omega)).1
    rw [Tk] at J
    have ak:=Fm aY li
    have ay:B mg=B (mg+1-b.length)*B (b.length-1):=by rw [← Bp];congr 1;omega
    rw [ay] at Sl
    have aI:B (mg+1-b.length)*V ((wP.take mg++[0]).drop (mg+1-b.length))<B (mg+1-b.length)*B (b.length-1):=by omega
    have:=Int.lt_of_mul_lt_mul_left aI (by have:=pg (mg+1-b.length);omega)
    omega
   obtain ⟨r,ap,aq,bE,a9,aW,ba,a5⟩:=Yx (au:=[f]) (m:=mg+1-b.length) (by omega) (by omega) (by rw [KJ];exact kT _) adH wc (by omega) RY (by omega) (by omega) ach
   rw [wB] at ap bE
   rw [Tj,ap]
   simp only [Option.bind_some]
   rw [if_pos (by omega),List.drop_zero,List.take_of_length_le (by omega),yN aq (by omega)]
   simp only [Option.bind_some]
   have Cq:=k3 aq
   rw [Tk] at a5
   have b4:V r.1=(V a-V r.2*V b)*f:=by grind
   have adI:0≤V a-V r.2*V b:=by
    apply Int.not_lt.mp
    intro h
    have:(V a-V r.2*V b)*f≤(-1)*f:=Int.mul_le_mul_of_nonneg_right (by omega) (by omega)
    omega
   have Cu:V a-V r.2*V b<V b:=by
    apply Int.lt_of_mul_lt_mul_right (a:=f) _ (by omega)
    omega
   obtain ⟨aR,bb⟩:=XT (a:=V a) (b:=V b) (q:=V r.2) (s:=V a-V r.2*V b) (by omega) adI Cu
   rw [if_pos (by simp)]
   simp only [List.getElem?_cons_zero,Option.bind_some]
   have FJ:(L (V r.1)).length≤mg+1:=(iw Cq).2 (by have:=m0 aq;rwa [bE] at this)
   rw [OC (kT _) ⟨by omega,Ml⟩ (by omega),fL Cq]
   simp only [Option.bind_some]
   rw [yN aW (by omega)]
   simp only [Option.bind_some]
   rw [aR,bb,b4,Int.mul_ediv_cancel _ (by omega)]
theorem Pp {a b:List Int}(bH:fg a)(aY:fg b)(a0:a.length≤900000)(hm:b.length≤900000):yg a b=some (L (Int.gcd (V a) (V b))):=by
 have : ∃r,iter (fun w:List Int×List Int=>xJ w.1 w.2) (a,b)=some r∧r=L (Int.gcd (V a) (V b)):=by
  refine kB (eS:=fun w:List Int×List Int=>fg w.1∧fg w.2∧w.1.length≤900000∧w.2.length≤900000∧Int.gcd (V w.1) (V w.2)=Int.gcd (V a) (V b)) (m:=fun w:List Int×List Int=>(V w.2).toNat) _ ?_ _ ⟨bH,aY,a0,hm,rfl⟩
  rintro ⟨x,y⟩ ⟨o,J,ak,ay,aI⟩
  simp only at o J ak ay aI ⊢
  have iL:=k3 o.1
  have oU:=k3 J.1
  by_cases aP:y=[]
  ·subst aP
   refine .inr ⟨x,by simp [xJ,gP],?_⟩
   rw [← aI,Bq,EL iL]
   exact (tI o).symm
  ·have Mf:=rL J aP
   have adq:=List.length_pos_iff.mpr aP
   have wA:=Int.emod_nonneg (V x) (b:=V y) (by omega)
   have adr:=Int.emod_lt_of_pos (V x) Mf
   refine .inl ⟨(y,L (V x % V y)),?_,⟨J,jH _,ay,(iw wA).2 ?_,?_⟩,?_⟩
   ·unfold xJ
    simp only [gP]
    rw [if_pos (by simp;omega),EM o J aP ak ay]
    rfl
   ·have:=m0 J.1
    have:=ul ay
    omega
   ·simp only
    rw [fL wA,← aI]
    exact Ka iL
   ·simp only
    rw [fL wA]
    omega
 obtain ⟨r,ap,rfl⟩:=this
 unfold yg I7
 rw [ap]
 rfl
def hg (n:Int):bg:=⟨decide (n<0),L n.natAbs⟩
def fa (neg:Bool)(a:Int):Int:=if neg then -a else a
def mk (p:Int×Int):c4:=⟨hg p.1,L p.2⟩
def kL (p:Int×Int):bF:=⟨hg p.1,L p.2⟩
def aci (x:Option (Int×Int)):Option bF:=x.map kL
structure Fr (p:Int×Int):Prop where
 pos:0<p.2
 Tl:Int.gcd p.1 p.2=1
 num:(p.1.natAbs:Int)<B 24
 den:p.2<B 24
theorem AU {n:Int}:(hg n).cB=L n.natAbs:=rfl
theorem Ez {n:Int}:(hg n).cY=decide (n<0):=rfl
theorem Yy {n:Int}(h:0≤n):decide ((0:Int)<((L n).length:Nat))=decide (0<n):=by
 apply decide_eq_decide.2
 by_cases o:0<n
 ·have:(L n)≠[]:=fun J=>by have:=uu.1 J;omega
  have:=List.length_pos_iff.mpr this
  omega
 ·have:n=0:=by omega
  subst this
  simp [pI]
theorem Lo {n:Int}(h:0≤n):(((L n).length:Nat):Int)=0↔n=0:=by
 constructor
 ·intro o
  have:L n=[]:=List.eq_nil_of_length_eq_zero (by omega)
  have:=uu.1 this
  omega
 ·rintro rfl
  simp [pI]
theorem E0 {neg:Bool}{a:Int}(h:0≤a):((fa neg a).natAbs:Int)=a:=by
 unfold fa
 cases neg<;>simp<;>omega
theorem Z1 {neg:Bool}{a:Int}(h:0≤a):(⟨neg && decide (0<a),L a⟩:bg)=hg (fa neg a):=by
 unfold hg
 rw [E0 h]
 congr 1
 unfold fa
 cases neg
 ·simp;omega
 ·simp
theorem qN {neg:Bool}{a:Int}(h:0≤a):lu neg (L a)=some (hg (fa neg a)):=by
 unfold lu
 rw [← Z1 h,gP,Yy h]
 cases neg<;>simp
theorem aaO {a b:Int}:fa (!(decide (a<0) == decide (b<0))) ((a.natAbs:Int)*(b.natAbs:Int))=a*b:=by
 unfold fa
 by_cases bH:a<0
 ·have az:(a.natAbs:Int) = -a:=by omega
  by_cases aY:b<0
  ·have aH:(b.natAbs:Int) = -b:=by omega
   rw [az,aH]
   simp [bH,aY,Int.neg_mul,Int.mul_neg]
  ·have aH:(b.natAbs:Int)=b:=by omega
   rw [az,aH]
   simp [bH,aY,Int.neg_mul,Int.mul_neg]
 ·have az:(a.natAbs:Int)=a:=by omega
  by_cases aY:b<0
  ·have aH:(b.natAbs:Int) = -b:=by omega
   rw [az,aH]
   simp [bH,aY,Int.neg_mul,Int.mul_neg]
  ·have aH:(b.natAbs:Int)=b:=by omega
   rw [az,aH]
   simp [bH,aY,Int.neg_mul,Int.mul_neg]
theorem Z2 {a b:Int}:fa (decide (a<0)) ((a.natAbs:Int)*b)=a*b:=by
 unfold fa
 by_cases bH:a<0
 ·have az:(a.natAbs:Int) = -a:=by omega
  rw [az]
  simp [bH,Int.neg_mul,Int.mul_neg]
 ·have az:(a.natAbs:Int)=a:=by omega
  rw [az]
  simp [bH,Int.neg_mul,Int.mul_neg]
theorem Zq {a c:Int}:lE (-c) (-a)=lE a c:=by
 unfold lE
 by_cases h:a<c
 ·have : -c < -a:=by omega
  simp [h,this]
 ·by_cases J:c<a
  ·have ak : ¬ -c < -a:=by omega
   have ay : -a < -c:=by omega
   simp [h,J,ak,ay]
  ·have ak : ¬ -c < -a:=by omega
   have ay : ¬ -a < -c:=by omega
   simp [h,J,ak,ay]
theorem NU {a c:Int}(bH:(L a.natAbs).length≤5000000)(aJ:(L c.natAbs).length≤5000000):sj (hg a) (hg c)=some (lE a c):=by
 have b4:sj (hg a) (hg c)=if (decide (a<0) == decide (c<0))=true then (if decide (a<0)=true then (qc (L c.natAbs) (L a.natAbs)).bind (fun r=>some r) else (qc (L a.natAbs) (L c.natAbs)).bind (fun r=>some r)) else if decide (a<0)=true then some (-1) else some 1:=rfl
 rw [b4,W4]
 by_cases o:a<0
 ·by_cases J:c<0
  ·rw [if_pos (by simp [o,J]),if_pos (by simpa using o),yY (jH _) (jH _) aJ,fL (by omega),fL (by omega),show (c.natAbs:Int) = -c by omega,show (a.natAbs:Int) = -a by omega,Zq]
   rfl
  ·rw [if_neg (by simp [o,J]),if_pos (by simpa using o)]
   unfold lE
   rw [if_pos (by omega)]
 ·by_cases J:c<0
  ·rw [if_neg (by simp [o,J]),if_neg (by simpa using o)]
   unfold lE
   rw [if_neg (by omega),if_pos (by omega)]
  ·rw [if_pos (by simp [o,J]),if_neg (by simpa using o),yY (jH _) (jH _) bH,fL (by omega),fL (by omega),show (c.natAbs:Int)=c by omega,show (a.natAbs:Int)=a by omega]
   rfl
def fits (x:Int):Prop:=x<B 24
noncomputable instance (x:Int):Decidable (fits x):=Classical.propDecidable _
noncomputable def low (n d:Int):Option (Int×Int) :=
 if fits ((n / (Int.gcd n d:Int)).natAbs:Int)∧fits (d / (Int.gcd n d:Int)) then some (n / (Int.gcd n d:Int),d / (Int.gcd n d:Int)) else none
theorem Kr {n d:Int}(h:0<d):(0:Int)<Int.gcd n d:=by
 have:Int.gcd n d≠0:=by
  rw [Ne,Int.gcd_eq_zero_iff]
  omega
 omega
theorem Z3 {n d:Int}(h:0<d): ∃m e,n / (Int.gcd n d:Int)=m∧d / (Int.gcd n d:Int)=e∧n=Int.gcd n d*m∧d=Int.gcd n d*e∧0<e∧(n.natAbs:Int) / (Int.gcd n d:Int)=m.natAbs:=by
 have dN:=Kr (n:=n) h
 obtain ⟨m,hm⟩:=Int.gcd_dvd_left (a:=n) (b:=d)
 obtain ⟨e,he⟩:=Int.gcd_dvd_right (a:=n) (b:=d)
 refine ⟨m,e,?_,?_,hm,he,?_,?_⟩
 ·conv=>lhs;lhs;rw [hm]
  exact Int.mul_ediv_cancel_left _ (by omega)
 ·conv=>lhs;lhs;rw [he]
  exact Int.mul_ediv_cancel_left _ (by omega)
 ·apply Int.not_le.mp
  intro o
  have:(Int.gcd n d:Int)*e≤Int.gcd n d*0:=Int.mul_le_mul_of_nonneg_left o (by omega)
  omega
 ·have az:(n.natAbs:Int)=Int.gcd n d*m.natAbs:=by
   conv=>lhs;rw [hm]
   rw [Int.natAbs_mul]
   simp
  rw [az]
  exact Int.mul_ediv_cancel_left _ (by omega)
theorem aaP {a:Int}(h:0≤a):JD (L a)=some (decide (a=1)):=by
 unfold JD
 simp only [gP]
 by_cases o:(L a).length=1
 ·have J:=(iw (k:=1) h).1 (by omega)
  have ak:0<a:=by
   apply Int.not_le.mp
   intro ay
   rw [RW ay] at o
   simp at o
  have aI:a<1000000000:=by simpa [B] using J
  rw [EF ⟨ak,aI⟩]
  by_cases bu:a=1<;>simp [bu]
 ·rw [if_neg (by simp;omega)]
  have:a≠1:=by
   rintro rfl
   rw [EF (by omega)] at o
   simp at o
  simp [this]
theorem QX {n d:Int}(h:0≤d):Int.gcd (n.natAbs:Int) d=Int.gcd n d:=by
 simp [Int.gcd]
theorem aaQ {neg:Bool}{p m g:Int}(al:0≤p)(dN:0<g)(hm:fa neg p=g*m):fa neg (m.natAbs:Int)=m:=by
 unfold fa at hm ⊢
 cases neg
 ·simp at hm ⊢
  have:0≤m:=by
   apply Int.not_lt.mp
   intro o
   have:g*m≤g*(-1):=Int.mul_le_mul_of_nonneg_left (by omega) (by omega)
   omega
  omega
 ·simp at hm ⊢
  have:m≤0:=by
   apply Int.not_lt.mp
   intro o
   have:g*1≤g*m:=Int.mul_le_mul_of_nonneg_left (by omega) (by omega)
   omega
  omega
end Go.Proofs.YtgfpnhmcmgnepaeGreat
namespace Go.Proofs.YtgfpnhmcmgnepaeGreat
set_option linter.unusedVariables false
set_option linter.unusedSimpArgs false
open Go Go.VL
theorem abB {neg:Bool}{a:Int}(h:0≤a)(J:neg=true→0<a):decide (fa neg a<0)=neg:=by
 unfold fa
 cases neg
 ·simp;omega
 ·have:=J rfl
  simp;omega
theorem QY {neg:Bool}{l:List Int}(aL:fg l)(J:neg=true→l≠[]):(⟨neg,l⟩:bg)=hg (fa neg (V l)):=by
 have h:=k3 aL.1
 unfold hg
 rw [E0 h,tI aL,abB h (fun a0=>rL aL (J a0))]
theorem WU {x:bg}(hm:(x.cB.length:Int)<9223372036854775807): ∃ok,Jp x=some ok∧Al x=some ok∧(ok=true↔ ∃n,x=hg n∧(L n.natAbs).length≤60):=by
 obtain ⟨R,o,J,ak⟩:=Pn hm
 unfold Jp Al
 rw [o,J]
 simp only [Option.bind_eq_bind,Option.bind_some,gP]
 obtain ⟨neg,Cz⟩:=x
 simp only at ak ⊢
 have ju:decide ((0:Int)<(Cz.length:Nat)) = !((((Cz.length:Nat):Int) == 0)):=by
  by_cases h:Cz=[]
  ·subst h;rfl
  ·have:=List.length_pos_iff.mpr h
   rw [decide_eq_true (by omega)]
   symm
   simp
   omega
 by_cases an:R=true
 ·obtain ⟨ay,aI⟩:=ak.1 an
  subst an
  cases neg
  ·refine ⟨true,rfl,rfl,?_⟩
   simp only [true_iff]
   refine ⟨_,QY ay (fun h=>by simp at h),?_⟩
   rw [E0 (k3 ay.1),tI ay]
   exact aI
  ·refine ⟨decide ((0:Int)<(Cz.length:Nat)),rfl,by rw [ju];rfl,?_⟩
   rw [decide_eq_true_iff]
   constructor
   ·intro al
    refine ⟨_,QY ay (fun _ h=>by subst h;simp at al),?_⟩
    rw [E0 (k3 ay.1),tI ay]
    exact aI
   ·rintro ⟨n,a0,-⟩
    have az:=congrArg bg.cY a0
    have aH:=congrArg bg.cB a0
    simp only [Ez,AU] at az aH
    have b2:n<0:=by simpa using az.symm
    have:Cz≠[]:=by
     rw [aH]
     intro h
     have:=uu.1 h
     omega
    have:=List.length_pos_iff.mpr this
    omega
 ·refine ⟨false,by simp [an],by simp [an],?_⟩
  simp only [Bool.false_eq_true,false_iff]
  rintro ⟨n,a0,zL⟩
  have aH:=congrArg bg.cB a0
  simp only [AU] at aH
  exact an (ak.2 (aH▸⟨jH _,zL⟩))
theorem XU {r:c4}(hm:r.fN.cB.length≤2000000)(bo:r.gE.length≤2000000): ∃ok,Pj r=some ok∧yq r=some ok∧(ok=true↔ ∃p,Fr p∧r=mk p):=by
 obtain ⟨cb,hi,iu,bK⟩:=WU (x:=r.fN) (by omega)
 obtain ⟨a4,gA,ho,kO⟩:=Pn (a:=r.gE) (by omega)
 unfold Pj yq
 rw [hi,iu]
 simp only [Option.bind_eq_bind,Option.bind_some,gP]
 by_cases o:cb=true
 ·rw [if_pos o,if_pos o,gA,ho]
  simp only [Option.bind_some]
  by_cases J:a4=true
  ·rw [if_pos J,if_pos J]
   obtain ⟨n,a0,afY⟩:=bK.1 o
   obtain ⟨ri,afZ⟩:=kO.1 J
   have uM:=k3 ri.1
   have Tm:r.gE=L (V r.gE):=(tI ri).symm
   have FT:r.fN.cB=L n.natAbs:=by rw [a0];rfl
   by_cases ak:r.gE=[]
   ·rw [if_pos (by simp [ak]),if_pos (by simp [ak])]
    refine ⟨false,rfl,rfl,?_⟩
    simp only [Bool.false_eq_true,false_iff]
    rintro ⟨p,al,ap⟩
    have e:r.gE=L p.2:=by rw [ap];rfl
    rw [ak] at e
    have:=uu.1 e.symm
    have:=al.pos
    omega
   ·have Mp:=rL ri ak
    have agy:=List.length_pos_iff.mpr ak
    have q8 : ¬((((r.gE.length:Nat):Int) == 0)=true):=by simp [ak]
    rw [if_neg q8,if_neg q8]
    by_cases ay:24<r.gE.length
    ·rw [if_pos (by simp;omega)]
     have hh : ¬∃p,Fr p∧r=mk p:=by
      rintro ⟨p,al,ap⟩
      have e:r.gE=L p.2:=by rw [ap];rfl
      have:=(iw (k:=24) (by have:=al.pos;omega)).2 al.den
      rw [← e] at this
      omega
     refine ⟨false,rfl,?_,by simp [hh]⟩
     by_cases aI:24<r.fN.cB.length
     ·rw [if_pos (by simp;omega)]
     ·rw [if_neg (by simp;omega),if_pos (by simp;omega)]
    ·rw [if_neg (by simp;omega)]
     by_cases aI:24<r.fN.cB.length
     ·rw [if_pos (by simp;omega),if_pos (by simp;omega)]
      refine ⟨false,rfl,rfl,?_⟩
      simp only [Bool.false_eq_true,false_iff]
      rintro ⟨p,al,ap⟩
      have e:r.fN.cB=L p.1.natAbs:=by rw [ap];rfl
      have:=(iw (k:=24) (by omega)).2 al.num
      rw [← e] at this
      omega
     ·rw [if_neg (by simp;omega),if_neg (by simp;omega),if_neg (by simp;omega)]
      rw [FT] at aI ⊢
      rw [aaL (jH _) ri (by omega) (by omega),Pp (jH _) ri (by omega) (by omega),fL (by omega),QX uM]
      simp only [Option.bind_some]
      have dN:=Kr (n:=n) Mp
      have adJ:fg [1]:=fg.one (by omega)
      have FZ:(L (Int.gcd n (V r.gE))).length≤5000000:=by
       have bx:(Int.gcd n (V r.gE):Int)≤V r.gE:=Int.le_of_dvd Mp (Int.gcd_dvd_right ..)
       have:=(iw (k:=24) (by omega)).2 (show (Int.gcd n (V r.gE):Int)<B 24 by
        have:=(ri.len (k:=24)).1 (by omega)
        omega)
       omega
      rw [aaP (by omega),Ec (jH _) adJ FZ,fL (by omega)]
      have r6:V [1]=1:=by decide
      rw [r6]
      simp only [Option.bind_some]
      refine ⟨decide ((Int.gcd n (V r.gE):Int)=1),rfl,?_,?_⟩
      ·congr 1
       rw [Bool.eq_iff_iff]
       simp [JX]
      ·rw [decide_eq_true_iff]
       constructor
       ·intro hu
        refine ⟨(n,V r.gE),⟨Mp,by simp only;omega,(iw (by omega)).1 (by simp only;omega),(ri.len).1 (by omega)⟩,?_⟩
        obtain ⟨num,den⟩:=r
        simp only at a0 Tm ⊢
        unfold mk
        simp only
        rw [← Tm,← a0]
       ·rintro ⟨p,al,ap⟩
        have e:r.gE=L p.2:=by rw [ap];rfl
        have aH:r.fN=hg p.1:=by rw [ap];rfl
        have b2:V r.gE=p.2:=by rw [e,fL (by have:=al.pos;omega)]
        have dn:n=p.1:=by
         rw [a0] at aH
         have f1:=congrArg bg.cY aH
         have f2:=congrArg bg.cB aH
         simp only [Ez,AU] at f1 f2
         have f3:=congrArg V f2
         rw [fL (by omega),fL (by omega)] at f3
         have f4:n<0↔p.1<0:=by
          constructor
          ·intro h;simpa [h] using f1.symm
          ·intro h;simpa [h] using f1
         omega
        rw [b2,dn,al.Tl]
        rfl
  ·refine ⟨false,by simp [J],by simp [J],?_⟩
   simp only [Bool.false_eq_true,false_iff]
   rintro ⟨p,al,ap⟩
   have e:r.gE=L p.2:=by rw [ap];rfl
   have:=(iw (k:=24) (by have:=al.pos;omega)).2 al.den
   exact J (kO.2 (e▸⟨jH _,by omega⟩))
 ·refine ⟨false,by simp [o],by simp [o],?_⟩
  simp only [Bool.false_eq_true,false_iff]
  rintro ⟨p,al,ap⟩
  have aH:r.fN=hg p.1:=by rw [ap];rfl
  have:=(iw (k:=24) (n:=p.1.natAbs) (by omega)).2 al.num
  exact o (bK.2 ⟨p.1,aH,by omega⟩)
theorem Fr.vS {p:Int×Int}(h:Fr p):(L p.1.natAbs).length≤24:=(iw (by omega)).2 h.num
theorem Fr.vT {p:Int×Int}(h:Fr p):(L p.2).length≤24:=(iw (by have:=h.pos;omega)).2 h.den
theorem abC (m n:Nat):B m*B n=B (m+n):=(Bp m n).symm
theorem Ks {x y:Int}{m n:Nat}(aa:0≤x)(aP:0≤y)(o:x<B m)(J:y<B n):(L (x*y)).length≤m+n:=by
 apply (iw (Int.mul_nonneg aa aP)).2
 rw [← abC]
 have ak:x*y≤(B m-1)*(B n-1):=Int.mul_le_mul (by omega) (by omega) aP (by omega)
 have ay:(B m-1)*(B n-1)=B m*B n-B m-B n+1:=by grind
 have aI:=pg m
 have bu:=pg n
 omega
theorem Yz {n d:Int}(bo:0<d)(Cd:(L n.natAbs).length≤900000)(Mq:(L d).length≤900000):rz (hg n) (L d)=some (some (kL (n / (Int.gcd n d:Int),d / (Int.gcd n d:Int)))):=by
 obtain ⟨m,e,o,J,ak,ay,aI,bu⟩:=Z3 (n:=n) bo
 have dN:=Kr (n:=n) bo
 rw [o,J]
 unfold rz
 simp only [AU,Ez,gP]
 by_cases a0:n=0
 ·subst a0
  have adK:(Int.gcd 0 d:Int)=d:=by rw [Int.gcd_comm,EL (by omega)]
  rw [adK] at ak ay
  have hm:m=0:=by
   rcases Int.mul_eq_zero.1 ak.symm with h|h<;>omega
  have he:e=1:=by
   have:d*e=d*1:=by omega
   exact Int.eq_of_mul_eq_mul_left (by omega) this
  subst hm he
  rw [if_pos (by simp [pI])]
  unfold kL hg
  simp only [Int.natAbs_zero]
  rw [EF (x:=1) (by omega),show ((0:Nat):Int)=0 from rfl,pI]
  rfl
 ·have acj : ¬((((L n.natAbs).length:Nat):Int) == 0)=true:=by
   simp only [beq_iff_eq]
   intro h
   have:=(Lo (n:=n.natAbs) (by omega)).1 h
   omega
  rw [if_neg acj,Pp (jH _) (jH _) Cd Mq,fL (by omega),fL (by omega),QX (by omega)]
  simp only [Option.bind_eq_bind,Option.bind_some]
  have FZ:(L (Int.gcd n d)).length≤900000:=by
   have bx:(Int.gcd n d:Int)≤d:=Int.le_of_dvd bo (Int.gcd_dvd_right ..)
   apply (iw (by omega)).2
   have:=(iw (n:=d) (by omega)).1 Mq
   omega
  rw [Ec (jH _) (fg.one (by omega)) (by omega),fL (by omega),show V [1]=1 by decide]
  simp only [Option.bind_some]
  by_cases hu:(Int.gcd n d:Int)=1
  ·rw [if_pos (by simpa using JX.2 hu)]
   rw [hu] at ak ay
   rw [Int.one_mul] at ak ay
   subst ak ay
   rfl
  ·rw [if_neg (fun h=>hu (JX.1 (by simpa using h)))]
   have Tn:L (Int.gcd n d)≠[]:=fun h=>by
    have:=uu.1 h
    omega
   rw [EM (jH _) (jH _) Tn Cd FZ,fL (by omega),fL (by omega)]
   simp only [Option.bind_some]
   rw [EM (jH _) (jH _) Tn Mq FZ,fL (by omega),fL (by omega)]
   simp only [Option.bind_some]
   rw [bu,J,qN (by omega)]
   simp only [Option.bind_some]
   have b4:fa (decide (n<0)) (m.natAbs:Int)=m:=by
    refine aaQ (p:=n.natAbs) (g:=Int.gcd n d) (by omega) dN ?_
    rw [← ak]
    unfold fa
    by_cases h:n<0<;>simp [h]<;>omega
   rw [b4]
   rfl
theorem aaR {m e:Int}(he:0≤e):sv (some (kL (m,e)))=some (aci (if fits (m.natAbs:Int)∧fits e then some (m,e) else none)):=by
 have b4:sv (some (kL (m,e)))=if (decide ((24:Int)<len_ I (L m.natAbs)))=true then some none else if (decide ((24:Int)<len_ I (L e)))=true then some none else some (some (kL (m,e))):=rfl
 rw [b4,gP,gP]
 by_cases o:fits (m.natAbs:Int)
 ·have J:=(iw (by omega)).2 o
  rw [if_neg (by simp;omega)]
  by_cases ak:fits e
  ·have ay:=(iw he).2 ak
   rw [if_neg (by simp;omega),if_pos ⟨o,ak⟩]
   rfl
  ·have ay : ¬(L e).length≤24:=fun h=>ak ((iw he).1 h)
   rw [if_pos (by simp;omega),if_neg (fun h=>ak h.2)]
   rfl
 ·have ay : ¬(L m.natAbs).length≤24:=fun h=>o ((iw (by omega)).1 h)
  rw [if_pos (by simp;omega),if_neg (fun h=>o h.1)]
  rfl
theorem PP {a b:Int}(bH:(L a.natAbs).length≤900000)(aY:(L b.natAbs).length≤900000):o1 (hg a) (hg b)=some (hg (a*b)):=by
 unfold o1
 simp only [AU,Ez]
 rw [Ex (kT _) (kT _) (by omega) (by omega),fL (by omega),fL (by omega)]
 simp only [Option.bind_eq_bind,Option.bind_some]
 rw [qN (Int.mul_nonneg (by omega) (by omega)),aaO]
 rfl
theorem Z4:(1000000000000000000000000000:Int)≤B 24:=by
 have h:B 3≤B 24:=ul (by omega)
 have ak:B 3=1000000000000000000000000000:=by decide
 omega
theorem Pq {n:Int}(h:oL n):oi n=some (hg n):=by
 obtain ⟨o,J⟩:=mB.1 h
 unfold oi
 by_cases a0:n<0
 ·rw [if_pos (by simpa using a0),cX (x:=n+1) (by omega) (by omega),cX (x:=0-(n+1)) (by omega) (by omega),Bt (x:=0-(n+1)) (by omega) (by omega),Bt (by omega) (by omega),JP (by omega) (by omega)]
  simp only [Option.bind_eq_bind,Option.bind_some]
  rw [qN (by omega)]
  simp only [Option.bind_some]
  congr 2
  unfold fa
  simp
  omega
 ·rw [if_neg (by simpa using a0),Bt (by omega) (by omega),JP (by omega) (by omega)]
  simp only [Option.bind_eq_bind,Option.bind_some]
  rw [qN (by omega)]
  simp only [Option.bind_some]
  congr 2
theorem abD:L 1=[1]:=EF (by omega)
theorem Zr {n:Int}(h:oL n):o4 n=some (some (kL (n,1))):=by
 unfold o4
 rw [Pq h]
 simp only [Option.bind_eq_bind,Option.bind_some,kL,abD]
theorem aaS {n:Int}(h:oL n):Fr (n,1):=by
 obtain ⟨o,J⟩:=mB.1 h
 have aY:=Z4
 exact ⟨by simp,by simp,by simp only;omega,by simp only;omega⟩
theorem El {p:Int×Int}{d:Int}(bo:0≤d)(o:(L p.1.natAbs).length≤900000)(J:(L d).length≤900000):qG (some (kL p)) (L d)=some (hg (p.1*d)):=by
 have az:qK (kL p).qq.cB (L d)=some (L ((p.1.natAbs:Int)*d)):=by
  show qK (L p.1.natAbs) (L d)=_
  rw [Ex (kT _) (kT _) (by omega) (by omega),fL (by omega),fL (by omega)]
 have Gg:0≤(p.1.natAbs:Int)*d:=Int.mul_nonneg (by omega) (by omega)
 have b2:lu (kL p).qq.cY (L ((p.1.natAbs:Int)*d))=some (hg (p.1*d)):=by
  show lu (decide (p.1<0)) _=_
  rw [qN Gg,Z2]
 unfold qG
 rw [Option.bind_eq_bind,Option.bind_some,az,Option.bind_eq_bind,Option.bind_some,b2]
 rfl
theorem KK {a d:Int}(bo:0≤d):((a*d).natAbs:Int)=(a.natAbs:Int)*d:=by
 rw [Int.natAbs_mul,Int.natCast_mul]
 congr 1
 omega
theorem W5 {p q:Int×Int}{i j k l:Nat}(al:0<p.2)(bi:0<q.2)(o:(p.1.natAbs:Int)<B i)(J:p.2<B j)(ak:(q.1.natAbs:Int)<B k)(ay:q.2<B l)(ai:i≤1000)(aC:j≤1000)(aX:k≤1000)(aL:l≤1000):s5 (some (kL p)) (some (kL q))=some (lE (p.1*q.2) (q.1*p.2)):=by
 have nk:=(iw (by omega)).2 o
 have p6:=(iw (by omega)).2 J
 have Gd:=(iw (by omega)).2 ak
 have jB:=(iw (by omega)).2 ay
 have bx:=Ks (x:=p.1.natAbs) (y:=q.2) (by omega) (by omega) o ay
 have bn:=Ks (x:=q.1.natAbs) (y:=p.2) (by omega) (by omega) ak J
 unfold s5
 rw [Option.bind_eq_bind,Option.bind_some]
 show (qG (some (kL p)) (L q.2)).bind _=_
 rw [El (by omega) (by omega) (by omega),Option.bind_some,Option.bind_eq_bind,Option.bind_some]
 show (qG (some (kL q)) (L p.2)).bind _=_
 rw [El (by omega) (by omega) (by omega),Option.bind_some,NU (by rw [KK (by omega)];omega) (by rw [KK (by omega)];omega)]
 rfl
theorem PQ:maxLen=9223372036854775807:=by decide
def qP (gb:List br)(m:bP):Bool :=
 decide (0≤m.fX∧m.fX<gb.length∧0≤m.fY∧m.fY<gb.length∧1≤m.jS∧m.jS≤3) &&
 match gb[m.fX.toNat]?,gb[m.fY.toNat]? with
 | some a,some b=> !(a.mO == b.mO && a.mP == b.mP) && !(a.ox && b.ox)
 | _,_=>false
theorem Xr (s:ck)(m:bP):zY s m=some (qP s.cE m):=by
 unfold zY qP
 simp only [gv]
 by_cases o:m.fX<0
 ·simp [o];omega
 by_cases J:(s.cE.length:Int)≤m.fX
 ·simp [o,J];omega
 by_cases ak:m.fY<0
 ·simp [o,J,ak];omega
 by_cases ay:(s.cE.length:Int)≤m.fY
 ·simp [o,J,ak,ay];omega
 by_cases aI:m.jS<1
 ·simp [o,J,ak,ay,aI];omega
 by_cases bu:3<m.jS
 ·simp [o,J,ak,ay,aI,bu];omega
 obtain ⟨x,aa⟩ : ∃x,s.cE[m.fX.toNat]? = some x:=⟨_,List.getElem?_eq_getElem (by omega)⟩
 obtain ⟨y,aP⟩ : ∃y,s.cE[m.fY.toNat]? = some y:=⟨_,List.getElem?_eq_getElem (by omega)⟩
 have bN:0≤m.fX∧m.fX<s.cE.length:=by omega
 have c2:0≤m.fY∧m.fY<s.cE.length:=by omega
 have mL:0≤m.fX∧m.fX<s.cE.length∧0≤m.fY∧m.fY<s.cE.length∧1≤m.jS∧m.jS≤3:=by omega
 rw [decide_eq_false o,decide_eq_false J,decide_eq_false ak,decide_eq_false ay,decide_eq_false aI,decide_eq_false bu,decide_eq_true mL,if_pos bN,aa]
 simp only [Bool.false_eq_true,if_false,Option.bind_eq_bind,Option.bind_some,Bool.true_and]
 rw [if_pos c2,aP]
 simp only [Option.bind_some]
 by_cases az:x.mO=y.mO<;>by_cases aH:x.mP=y.mP<;>by_cases FX:x.ox=true<;>by_cases Ml:y.ox=true<;>simp [az,aH,FX,Ml]
def lK (s:ck):Prop:=(∀(n:Nat) j,s.cE[n]? = some j→ -50≤j.mO∧j.mO≤50∧ -50≤j.mP∧j.mP≤50)∧(∀(n:Nat) m,s.b5[n]? = some m→qP s.cE m=true)∧s.cE.length≤6∧s.b5.length≤8
theorem Z5 (s:ck)(h:lK s)(k:Int)(h0:0≤k)(o:k<s.b5.length):
 ∃x y,sZ s k=some (x,y)∧(-100≤x∧x≤100)∧(-100≤y∧y≤100):=by
 obtain ⟨f1,f2,f3,f4⟩:=h
 obtain ⟨m,hm⟩ : ∃x,s.b5[k.toNat]? = some x:=⟨_,List.getElem?_eq_getElem (by omega)⟩
 have Mr:=f2 _ m hm
 unfold qP at Mr
 simp only [Bool.and_eq_true,decide_eq_true_eq] at Mr
 obtain ⟨⟨g1,g2,g3,g4,-⟩,-⟩:=Mr
 obtain ⟨a,bH⟩ : ∃x,s.cE[m.fX.toNat]? = some x:=⟨_,List.getElem?_eq_getElem (by omega)⟩
 obtain ⟨b,aY⟩ : ∃x,s.cE[m.fY.toNat]? = some x:=⟨_,List.getElem?_eq_getElem (by omega)⟩
 have agU:=f1 _ a bH
 have agV:=f1 _ b aY
 have az:U (b.mO-a.mO)=b.mO-a.mO:=cX (by omega) (by omega)
 have aH:U (b.mP-a.mP)=b.mP-a.mP:=cX (by omega) (by omega)
 have cj:0≤k∧k<s.b5.length:=⟨h0,o⟩
 have bN:0≤m.fX∧m.fX<s.cE.length:=⟨g1,g2⟩
 have c2:0≤m.fY∧m.fY<s.cE.length:=⟨g3,g4⟩
 refine ⟨b.mO-a.mO,b.mP-a.mP,?_,by omega,by omega⟩
 unfold sZ
 simp only [if_pos cj,hm,if_pos bN,if_pos c2,bH,aY,Option.bind_eq_bind,Option.bind_some,az,aH]
def RZ (p:Int×Int):Option bF:=some (kL p)
def uS (l:List Int)(n:Nat)(x:Int):Prop:=0≤x∧x<1000000000∧(∀z,l[n]? = some z→x=z)∧(l[n]? = none→x=0)
theorem Fa {l:List Int}(h:cN l){n:Nat}(a0:n<l.length):uS l n l[n]:=by
 have aa:=List.getElem?_eq_getElem a0
 have h0:=h.get aa
 exact ⟨h0.1,h0.2,fun z cv=>by rw [aa] at cv;exact Option.some.inj cv,fun h=>by rw [aa] at h;simp at h⟩
theorem Rz {l:List Int}{n:Nat}(a0:¬n<l.length):uS l n 0:=by
 have aa:l[n]? = none:=by simp;omega
 exact ⟨by omega,by omega,fun z cv=>by rw [aa] at cv;simp at cv,fun _=>rfl⟩
theorem uS.take {l:List Int}{n:Nat}{x:Int}(h:uS l n x):V (l.take (n+1))=V (l.take n)+B n*x:=Qh h.2.2.1 h.2.2.2
theorem YA {a b row:List Int}{carry:Int}{n:Nat}(bH:cN a)(aY:cN b)(aJ:carry=0∨carry=1)(tH:a.length≤1000000)(a0:n<a.length)(ap:n<row.length):
 ∃x y,uS a n x∧uS b n y∧xV a b a.length carry n row=some (.inl ((carry+x+y) / 1000000000,((n+1:Nat):Int),row.set n ((carry+x+y) % 1000000000))):=by
 have m6:0≤carry∧carry≤1:=by omega
 have hA:=Fa bH a0
 have aa:=List.getElem?_eq_getElem a0
 have hi:=hA.1
 have iu:=hA.2.1
 unfold xV
 simp only [gP]
 rw [if_pos (by simp;omega),if_pos (by omega),Int.toNat_natCast,aa]
 simp only [Option.bind_eq_bind,Option.bind_some]
 by_cases J:n<b.length
 ·have hj:=Fa aY J
  have aP:=List.getElem?_eq_getElem J
  have gA:=hj.1
  have ho:=hj.2.1
  refine ⟨a[n],b[n],hA,hj,?_⟩
  rw [if_pos (by simp;omega),if_pos (by omega),aP]
  simp only [Option.bind_some]
  rw [if_pos (by omega),if_pos (by omega),cX (x:=a[n]+carry) (by omega) (by omega),cX (x:=a[n]+carry+b[n]) (by omega) (by omega),tY (by omega),nL (by omega),cX (by omega) (by omega),ql (n:=n) (by omega),Nat.zero_add,Int.add_comm a[n] carry]
 ·refine ⟨a[n],0,hA,Rz J,?_⟩
  rw [if_neg (by simp;omega),if_pos (by omega),if_pos (by omega),cX (x:=a[n]+carry) (by omega) (by omega),tY (by omega),nL (by omega),cX (by omega) (by omega),ql (n:=n) (by omega),Nat.zero_add,Int.add_zero,Int.add_comm a[n] carry]
theorem YB {a b:List Int}(bH:cN a)(aY:cN b)(tH:a.length≤900000)(r4:b.length≤a.length):
 ∃r,Ap a b a.length 0 0 (List.replicate (a.length+1) 0)=some r∧(r.1=0∨r.1=1)∧cN r.2∧r.2.length=a.length+1∧V r.2+r.1*B a.length=V a+V b∧r.2[a.length]? = some 0:=by
 refine kB (eS:=fun w:Int×Int×List Int=> ∃n:Nat,w.2.1=n∧n≤a.length∧(w.1=0∨w.1=1)∧cN w.2.2∧w.2.2.length=a.length+1∧V w.2.2+w.1*B n=V (a.take n)+V (b.take n)∧ ∀j,n≤j→j<a.length+1→w.2.2[j]? = some 0) (m:=fun w=>a.length-w.2.1.toNat) _ ?_ _ ⟨0,rfl,by omega,.inl rfl,cN.LW _,by simp,by simp [V,KX],fun j _ h=>by simp [List.getElem?_replicate];omega⟩
 rintro ⟨carry,ii,row⟩ ⟨n,az,aH,b2,dn,ej,fq,fr⟩
 simp only at az b2 dn ej fq fr ⊢
 subst az
 by_cases a0:n=a.length
 ·subst a0
  refine .inr ⟨(carry,row),by simp [xV],b2,dn,ej,?_,fr _ (Nat.le_refl _) (by omega)⟩
  rw [List.take_length,List.take_of_length_le r4] at fq
  exact fq
 ·obtain ⟨x,y,aa,aP,q6⟩:=YA (row:=row) (n:=n) bH aY b2 (by omega) (by omega) (by omega)
  have x0:=aa.1
  have fz:=aa.2.1
  have uT:=aP.1
  have eM:=aP.2.1
  refine .inl ⟨_,q6,⟨n+1,rfl,by omega,by simp only;omega,dn.set (by omega),by simpa using ej,?_,fun j o J=> ?_⟩,by simp only;omega⟩
  ·simp only
   rw [sD (fr n (Nat.le_refl _) (by omega)),mV,aa.take,aP.take]
   have:=Int.mul_ediv_add_emod (carry+x+y) 1000000000
   generalize (carry+x+y) / 1000000000=u at *
   generalize (carry+x+y) % 1000000000=t at *
   have cq:t=carry+x+y-1000000000*u:=by omega
   rw [cq]
   grind
  ·simp only
   rw [List.getElem?_set_ne (by omega)]
   exact fr j (by omega) J
theorem PR {a b:List Int}(bH:cN a)(aY:cN b)(tH:a.length≤900000)(r4:b.length≤a.length):
 (if 0≤(U ((len_ I a)+(1:Int)))∧(8:Int)*(U ((len_ I a)+(1:Int)))≤281474976710656∧(U ((len_ I a)+(1:Int)))<9223372036854775808 then
   (Ap a b (len_ I a) 0 0 (List.replicate (U ((len_ I a)+(1:Int))).toNat 0:List Int)).bind fun a9 =>
   if 0≤(len_ I a)∧(len_ I a)<(a9.2.length:Nat) then
   if (0+(len_ I a).toNat)<a9.2.length then
   (qM (a9.2.set (0+(len_ I a).toNat) a9.1)).bind fun bI=>some bI
   else none
   else none
   else none)=some (L (V a+V b)):=by
 obtain ⟨r,ap,o,J,ak,ay,aI⟩:=YB bH aY tH r4
 rw [gP,ql (by omega),if_pos (by omega),Int.toNat_natCast,ap,Option.bind_some,if_pos (by omega),Int.toNat_natCast,Nat.zero_add,if_pos (by omega)]
 have BT:cN (r.2.set a.length r.1):=J.set (by omega)
 rw [yN BT (by simp;omega),sD aI,Option.bind_some]
 congr 2
 rw [← ay]
 grind
theorem Z6 {a b:List Int}(bH:cN a)(aY:cN b)(tH:a.length≤900000)(adL:b.length≤900000):yw a b=some (L (V a+V b)):=by
 unfold yw
 by_cases h:a.length<b.length
 ·rw [if_pos (by rw [gP,gP];simpa using h)]
  have:=PR aY bH adL (by omega)
  rw [Int.add_comm (V a)]
  exact this
 ·rw [if_neg (by rw [gP,gP];simpa using h)]
  exact PR bH aY tH (by omega)
theorem XV {a b row:List Int}{less:Int}{n:Nat}(bH:cN a)(aY:cN b)(aL:less=0∨less=1)(tH:a.length≤1000000)(a0:n<a.length)(ap:n<row.length):
 ∃x y,uS a n x∧uS b n y∧xR b a a.length less n row=some (.inl (if x-less-y<0 then (1,((n+1:Nat):Int),row.set n (x-less-y+1000000000)) else (0,((n+1:Nat):Int),row.set n (x-less-y)))):=by
 have m6:0≤less∧less≤1:=by omega
 have hA:=Fa bH a0
 have aa:=List.getElem?_eq_getElem a0
 have hi:=hA.1
 have iu:=hA.2.1
 unfold xR
 simp only [gP]
 rw [if_pos (by simp;omega),if_pos (by omega),Int.toNat_natCast,aa]
 simp only [Option.bind_eq_bind,Option.bind_some]
 by_cases J:n<b.length
 ·have hj:=Fa aY J
  have aP:=List.getElem?_eq_getElem J
  have gA:=hj.1
  have ho:=hj.2.1
  refine ⟨a[n],b[n],hA,hj,?_⟩
  rw [if_pos (by simp;omega),if_pos (by omega),aP]
  simp only [Option.bind_some]
  rw [cX (x:=a[n]-less) (by omega) (by omega),cX (x:=a[n]-less-b[n]) (by omega) (by omega),ql (n:=n) (by omega),cX (x:=a[n]-less-b[n]+1000000000) (by omega) (by omega),Nat.zero_add]
  by_cases h:a[n]-less-b[n]<0
  ·rw [if_pos (by simpa using h),if_pos h,if_pos (by omega),if_pos (by omega)]
  ·rw [if_neg (by simpa using h),if_neg h,if_pos (by omega),if_pos (by omega)]
 ·refine ⟨a[n],0,hA,Rz J,?_⟩
  rw [if_neg (by simp;omega),cX (x:=a[n]-less) (by omega) (by omega),ql (n:=n) (by omega),cX (x:=a[n]-less+1000000000) (by omega) (by omega),Nat.zero_add,Int.sub_zero]
  by_cases h:a[n]-less<0
  ·rw [if_pos (by simpa using h),if_pos h,if_pos (by omega),if_pos (by omega)]
  ·rw [if_neg (by simpa using h),if_neg h,if_pos (by omega),if_pos (by omega)]
theorem Qj {a b:List Int}(bH:cN a)(aY:cN b)(hlen:b.length≤a.length)(r4:V b≤V a)(tH:a.length≤900000):ue a b=some (L (V a-V b)):=by
 have : ∃r,Jk b a a.length 0 0 (List.replicate a.length 0)=some r∧cN r∧r.length=a.length∧V r=V a-V b:=by
  refine kB (eS:=fun w:Int×Int×List Int=> ∃n:Nat,w.2.1=n∧n≤a.length∧(w.1=0∨w.1=1)∧cN w.2.2∧w.2.2.length=a.length∧V w.2.2-w.1*B n=V (a.take n)-V (b.take n)∧ ∀j,n≤j→j<a.length→w.2.2[j]? = some 0) (m:=fun w=>a.length-w.2.1.toNat) _ ?_ _ ⟨0,rfl,by omega,.inl rfl,cN.LW _,by simp,by simp [V,KX],fun j _ h=>by simp [List.getElem?_replicate];omega⟩
  rintro ⟨less,ii,row⟩ ⟨n,az,aH,b2,dn,ej,fq,fr⟩
  simp only at az b2 dn ej fq fr ⊢
  subst az
  by_cases a0:n=a.length
  ·subst a0
   refine .inr ⟨row,by simp [xR],dn,ej,?_⟩
   rw [List.take_length,List.take_of_length_le hlen] at fq
   have J:=m0 dn
   rw [ej] at J
   rcases b2 with rfl|rfl<;>omega
  ·obtain ⟨x,y,aa,aP,q6⟩:=XV (row:=row) (n:=n) bH aY b2 (by omega) (by omega) (by omega)
   have x0:=aa.1
   have fz:=aa.2.1
   have uT:=aP.1
   have eM:=aP.2.1
   rw [q6]
   refine .inl ⟨_,rfl,?_⟩
   by_cases h:x-less-y<0
   ·rw [if_pos h]
    refine ⟨⟨n+1,rfl,by omega,.inr rfl,dn.set (by omega),by simpa using ej,?_,fun j o J=> ?_⟩,by simp only;omega⟩
    ·simp only
     rw [sD (fr n (Nat.le_refl _) (by omega)),mV,aa.take,aP.take]
     grind
    ·simp only
     rw [List.getElem?_set_ne (by omega)]
     exact fr j (by omega) J
   ·rw [if_neg h]
    refine ⟨⟨n+1,rfl,by omega,.inl rfl,dn.set (by omega),by simpa using ej,?_,fun j o J=> ?_⟩,by simp only;omega⟩
    ·simp only
     rw [sD (fr n (Nat.le_refl _) (by omega)),aa.take,aP.take]
     grind
    ·simp only
     rw [List.getElem?_set_ne (by omega)]
     exact fr j (by omega) J
 obtain ⟨r,ap,o,J,ak⟩:=this
 unfold ue
 simp only [gP]
 rw [if_pos (by omega),Int.toNat_natCast,ap]
 simp only [Option.bind_eq_bind,Option.bind_some]
 rw [yN o (by omega),ak]
 rfl
theorem aaT {a b:Int}(h:decide (a<0)=decide (b<0)):fa (decide (a<0)) ((a.natAbs:Int)+(b.natAbs:Int))=a+b:=by
 have cw:a<0↔b<0:=by simpa using h
 unfold fa
 by_cases o:a<0
 ·have:=cw.1 o
  simp only [o,decide_true,if_true]
  omega
 ·have : ¬b<0:=fun aY=>o (cw.2 aY)
  simp only [o,decide_false,Bool.false_eq_true,if_false]
  omega
theorem QZ {a b:Int}(h:¬decide (a<0)=decide (b<0)):fa (decide (a<0)) ((a.natAbs:Int)-(b.natAbs:Int))=a+b∧fa (decide (b<0)) ((b.natAbs:Int)-(a.natAbs:Int))=a+b:=by
 have cw : ¬(a<0↔b<0):=by simpa using h
 unfold fa
 by_cases o:a<0
 ·have J : ¬b<0:=fun aY=>cw ⟨fun _=>aY,fun _=>o⟩
  simp only [o,J,decide_true,if_true,decide_false,Bool.false_eq_true,if_false]
  omega
 ·have J:b<0:=by
   apply Classical.byContradiction
   intro aY
   exact cw ⟨fun h=>absurd h o,fun h=>absurd h aY⟩
  simp only [o,J,decide_true,if_true,decide_false,Bool.false_eq_true,if_false]
  omega
theorem Qk {x y:Int}(aa:0≤x)(LX:x≤y):(L x).length≤(L y).length:=by
 apply (iw aa).2
 have:=m0 (kT y)
 rw [fL (by omega)] at this
 omega
theorem Ql {a b:Int}(bH:(a.natAbs:Int)<B 50)(aY:(b.natAbs:Int)<B 50):ub (hg a) (hg b)=some (hg (a+b)):=by
 have wR:=(iw (k:=50) (n:=a.natAbs) (by omega)).2 bH
 have sd:=(iw (k:=50) (n:=b.natAbs) (by omega)).2 aY
 have b4:ub (hg a) (hg b)=((qc (L a.natAbs) (L b.natAbs)).bind fun aq=>if (decide (a<0) == decide (b<0))=true then (yw (L a.natAbs) (L b.natAbs)).bind fun bE=>(lu (decide (a<0)) bE).bind fun aW=>some aW else if (decide ((0:Int)≤aq))=true then (ue (L a.natAbs) (L b.natAbs)).bind fun ba=>(lu (decide (a<0)) ba).bind fun bI=>some bI else (ue (L b.natAbs) (L a.natAbs)).bind fun ba=>(lu (decide (b<0)) ba).bind fun bI=>some bI):=rfl
 rw [b4,Ec (jH _) (jH _) (by omega),fL (by omega),fL (by omega),Option.bind_some]
 by_cases h:decide (a<0)=decide (b<0)
 ·rw [if_pos (by simpa using h),Z6 (kT _) (kT _) (by omega) (by omega),fL (by omega),fL (by omega),Option.bind_some,qN (by omega),aaT h]
  rfl
 ·rw [if_neg (by simpa using h)]
  by_cases aJ:(b.natAbs:Int)≤a.natAbs
  ·have Ms:0≤lE (a.natAbs:Int) b.natAbs:=by
    apply Int.not_lt.mp
    intro o
    have:=yO.1 o
    omega
   rw [if_pos (by simpa using Ms),Qj (kT _) (kT _) (Qk (by omega) aJ) (by rw [fL (by omega),fL (by omega)];exact aJ) (by omega),fL (by omega),fL (by omega),Option.bind_some,qN (by omega),(QZ h).1]
   rfl
  ·have Ms : ¬0≤lE (a.natAbs:Int) b.natAbs:=by
    have:=yO.2 (show (a.natAbs:Int)<b.natAbs by omega)
    omega
   rw [if_neg (by simpa using Ms),Qj (kT _) (kT _) (Qk (by omega) (by omega)) (by rw [fL (by omega),fL (by omega)];omega) (by omega),fL (by omega),fL (by omega),Option.bind_some,qN (by omega),(QZ h).2]
   rfl
theorem RA {b:Int}:fa (!(decide (b<0))) (b.natAbs:Int) = -b:=by
 unfold fa
 by_cases h:b<0
 ·simp only [h,decide_true,Bool.not_true,Bool.false_eq_true,if_false]
  omega
 ·simp only [h,decide_false,Bool.not_false,if_true]
  omega
theorem YC {a b:Int}(bH:(a.natAbs:Int)<B 50)(aY:(b.natAbs:Int)<B 50):u4 (hg a) (hg b)=some (hg (a-b)):=by
 have b4:u4 (hg a) (hg b)=(((lu (!(decide (b<0))) (L b.natAbs)).bind fun r=>some r).bind fun aq=>(ub (hg a) aq).bind fun a9=>some a9):=rfl
 rw [b4,qN (by omega),RA,Option.bind_some,Option.bind_some,Ql bH (by omega),Option.bind_some,Int.sub_eq_add_neg]
theorem Fr.neg {q:Int×Int}(h:Fr q):Fr (-q.1,q.2):=⟨h.pos,by simp only;rw [Int.neg_gcd];exact h.Tl,by simp only;have:=h.num;omega,h.den⟩
theorem Qm {p q:Int×Int}(al:Fr p)(bi:Fr q):((p.1*q.2).natAbs:Int)<B 48∧(L (p.1.natAbs*q.2:Int)).length≤48∧0≤(p.1.natAbs*q.2:Int):=by
 have bu:=bi.pos
 have bx:=Ks (x:=p.1.natAbs) (y:=q.2) (by omega) (by omega) al.num bi.den
 have Gg:0≤(p.1.natAbs:Int)*q.2:=Int.mul_nonneg (by omega) (by omega)
 rw [KK (by omega)]
 exact ⟨(iw Gg).1 bx,bx,Gg⟩
theorem RB:B 48+B 48≤B 50:=by
 have o:B 49≤B 50:=ul (by omega)
 have J:=pg 48
 rw [mV] at o
 omega
def mH (n:Int):Int:=if n=0 then 0 else if n<0 then -1 else 1
theorem YD {p:Int×Int}:ru (RZ p)=some (mH p.1):=by
 have b4:ru (RZ p)=((if ((len_ I (L p.1.natAbs)) == (0:Int))=true then some 0 else if (decide (p.1<0))=true then some (-1) else some 1:Option Int)).bind (fun r=>some r):=rfl
 rw [b4,gP]
 unfold mH
 by_cases h:p.1=0
 ·rw [if_pos (by rw [h];simp [pI]),if_pos h]
  rfl
 ·rw [if_neg (by simp only [beq_iff_eq];intro J;have:=(Lo (n:=p.1.natAbs) (by omega)).1 J;omega),if_neg h]
  by_cases ak:p.1<0
  ·rw [if_pos (by simpa using ak),if_pos ak]
   rfl
  ·rw [if_neg (by simpa using ak),if_neg ak]
   rfl
def sy (n:Int):Bool:=decide (-100≤n∧n≤100)
def tu (wY:Nat)(l:List Int):Bool:=decide (l.length=2*wY) && l.all sy
theorem XW (n:Int):Ao n=some (sy n):=by
 unfold Ao sy
 by_cases h : -100≤n<;>simp [h]
theorem Xs (s:ck)(MV:s.cE.length≤6)(l:List Int)(aL:l.length≤maxLen):va s l=some (tu s.cE.length l):=by
 have hm:=PQ
 have hw:U (2*((s.cE.length:Nat):Int))=2*((s.cE.length:Nat):Int):=cX (by omega) (by omega)
 unfold va CX C3 tu
 simp only [gv,hw,Option.bind_eq_bind]
 obtain ⟨r,o,J⟩:=PL (f:=fun w=>w6 l (l.length:Nat) w) l (fun n=> !sy n) (fun n x aa=>by
  have dB:=f9 aa
  unfold w6 Dy
  have c:(n:Int)<(l.length:Int):=by omega
  have dY:0≤(n:Int)∧(n:Int)<(l.length:Int):=by omega
  simp only [decide_eq_true c,if_true,if_pos dY,Int.toNat_natCast,aa,Option.bind_eq_bind,Option.bind_some,XW]
  rw [kA (by omega)]
  cases sy x<;>rfl) (by simp [w6])
 have uE:GQ l (l.length:Nat) 0=some r:=o
 rw [uE]
 have ack:(l.any fun n=> !sy n) = !l.all sy:=by
  rw [List.not_all_eq_any_not]
 rw [ack] at J
 by_cases e:l.length=2*s.cE.length
 ·have c:((l.length:Int) == 2*(s.cE.length:Int))=true:=by simp;omega
  rw [c]
  rcases J with ⟨k,rfl,aX,bH⟩|⟨rfl,bH⟩
  ·simp only [Bool.not_eq_true'] at bH
   simp [e,bH,aX]
  ·simp only [Bool.not_eq_false'] at bH
   simp [e,bH]
 ·have c:((l.length:Int) == 2*(s.cE.length:Int))=false:=by simp;omega
  rw [c]
  simp [e]
theorem kq {i:Int}{a:Nat}(h0:0≤i)(o:i≤100)(bH:a≤1):U (U (2*i)+(a:Int))=(((2*i+a).toNat:Nat):Int):=by
 rw [cX (x:=2*i) (by omega) (by omega),cX (by omega) (by omega)]
 omega
def Mt (P:List (List Int)):ca→Prop
 | none=>True
 | some (k,c)=> ∃x,P[k]? = some x∧x.length=c∧c≤1048576
theorem Mt.set {P:List (List Int)}{k:Nat}{x y:List Int}(aa:P[k]? = some x)(aP:y.length=x.length){h:ca}(fx:Mt P h):Mt (P.set k y) h:=by
 cases h with
 | none=>trivial
 | some p =>
  obtain ⟨j,c⟩:=p
  obtain ⟨z,o,J,ak⟩:=fx
  by_cases aC:k=j
  ·subst aC
   rw [aa] at o
   obtain rfl:=Option.some.inj o
   exact ⟨y,by rw [List.getElem?_set,if_pos rfl,if_pos (f9 aa)],by omega,ak⟩
  ·exact ⟨z,by rw [List.getElem?_set,if_neg aC];exact o,J,ak⟩
def kW:List br→Nat→List Nat
 | [],_=>[]
 | x::l,n=>if x.ox then kW l (n+1) else n::kW l (n+1)
theorem Kc : ∀(l:List br) (n i:Nat),i∈kW l n→n≤i∧i<n+l.length
 | [],n,i,h=>by simp [kW] at h
 | x::l,n,i,h=>by
  rw [kW] at h
  simp only [List.length_cons]
  split at h
  ·have:=Kc l (n+1) i h;omega
  ·rcases List.mem_cons.1 h with h|h
   ·omega
   ·have:=Kc l (n+1) i h;omega
theorem Qn : ∀(l:List br) (n:Nat),(kW l n).length≤l.length
 | [],n=>by simp [kW]
 | x::l,n=>by
  rw [kW]
  have:=Qn l (n+1)
  split<;>simp only [List.length_cons]<;>omega
theorem XX {l:List br}{n:Nat}{x:br}(h:l[n]? = some x)(m:Nat):kW (l.drop n) m=if x.ox then kW (l.drop (n+1)) (m+1) else m::kW (l.drop (n+1)) (m+1):=by
 rw [Qe h,kW]
theorem YE {f:Int×List Int→Option ((Int×List Int)⊕List Int)}(gb:List br)(MV:gb.length≤1000)
 (h : ∀(n:Nat) acc x,gb[n]? = some x→f ((n:Int),acc)=if x.ox=true then some (.inl (U ((n:Int)+1),acc)) else if (acc++[(n:Int)]).length*8≤140737488355328 then some (.inl (U ((n:Int)+1),acc++[(n:Int)])) else none)
 (he : ∀acc,f ((gb.length:Int),acc)=some (.inr acc)):iter f ((0:Int),[])=some ((kW gb 0).map (fun n:Nat=>(n:Int))):=by
 obtain ⟨s,o,J⟩:=iv (fun (n:Nat) (acc:List Int)=>((n:Int),acc)) gb.length (fun n acc=>acc++(kW (gb.drop n) n).map (fun n:Nat=>(n:Int))=(kW gb 0).map (fun n:Nat=>(n:Int))∧acc.length≤n) (fun acc=>acc) (f:=f) (fun n a0 acc dw=>by
  obtain ⟨dw,aL⟩:=dw
  have aa:=List.getElem?_eq_getElem a0
  rw [XX aa] at dw
  rw [h n acc _ aa,ql (by omega)]
  by_cases c:gb[n].ox=true
  ·rw [if_pos c] at dw ⊢
   exact ⟨_,rfl,dw,by omega⟩
  ·rw [if_neg c] at dw ⊢
   rw [if_pos (by simp only [List.length_append,List.length_cons,List.length_nil];omega)]
   refine ⟨_,rfl,?_,by simp only [List.length_append,List.length_cons,List.length_nil];omega⟩
   rw [List.append_assoc]
   exact dw) (fun acc _=>he acc) [] ⟨by rw [List.drop_zero];rfl,by simp⟩
 obtain ⟨J,-⟩:=J
 rw [List.drop_length] at J
 simp only [kW,List.map_nil,List.append_nil] at J
 subst J
 exact o
theorem DU (s:ck)(MV:s.cE.length≤1000):tZ s=some ((kW s.cE 0).map (fun n:Nat=>(n:Int))):=by
 unfold tZ GX
 rw [gv,YE s.cE MV (fun n acc x aa=>by
  have a0:=f9 aa
  unfold zV
  exact ed (by omega) (bL (by omega) (aB (gt rfl aa) rfl))) (fun acc=>by
  unfold zV
  exact d4 (by omega) rfl)]
 rfl
def hlen:ca→Nat
 | none=>0
 | some (_,c)=>c
def gu (x:Rat):Int×Int:=(x.num,(x.den:Int))
def fO (x:Rat):Prop:=(x.num.natAbs:Int)<B 24∧(x.den:Int)<B 24
def e5 (x:Rat):c4:=mk (gu x)
instance aft (x:Rat):Decidable (fO x):=by unfold fO;infer_instance
theorem fO.dk {x:Rat}(h:fO x):Fr (gu x):=⟨by have:=x.den_pos;simp only [gu];omega,by simp only [gu];rw [Int.gcd,Int.natAbs_natCast];exact x.reduced,h.1,h.2⟩
theorem EN (x:Rat):((x.den:Int):Rat)*x=((x.num:Int):Rat):=by
 have h:x=(x.num:Rat) / ((x.den:Int):Rat):=by rw [← Rat.divInt_eq_div,Rat.num_divInt_den]
 have bo:((x.den:Int):Rat)≠0:=fun c=>by
  have:(x.den:Int)=0:=Rat.intCast_inj.1 (by rw [c];rfl)
  have:=x.den_pos
  omega
 conv=>lhs;rhs;rw [h]
 grind
theorem fO.neg {x:Rat}(h:fO x):fO (-x):=by
 unfold fO at h ⊢
 rw [Rat.neg_num,Rat.neg_den,Int.natAbs_neg];exact h
def l8 (x:Rat):Int:=if x=0 then 0 else if x<0 then -1 else 1
theorem vB {n:Int}(h:oL n):fO (n:Rat):=by
 have:=aaS h
 unfold fO
 rw [Rat.num_intCast,Rat.den_intCast];exact ⟨this.num,this.den⟩
theorem Zs {n d:Int}{x:Rat}(h0:d≠0)(e:(d:Rat)*x=n)(a0:(n.natAbs:Int)<B 24)(bo:(d.natAbs:Int)<B 24):fO x:=by
 have tE:(d:Rat)≠0:=fun c=>h0 (Rat.intCast_inj.1 (by rw [c];rfl))
 have aa:x=Rat.divInt n d:=by rw [Rat.divInt_eq_div,← e];grind
 rw [aa]
 unfold fO
 rw [Rat.num_divInt,Rat.den_divInt,if_neg h0]
 constructor
 ·have o:(d.sign*n / (d.gcd n:Int)).natAbs≤(d.sign*n).natAbs:=Int.natAbs_ediv_le_natAbs _ _
  have J:(d.sign*n).natAbs≤n.natAbs:=by
   rw [Int.natAbs_mul]
   have:d.sign.natAbs≤1:=by rw [Int.natAbs_sign];split<;>omega
   exact Nat.le_trans (Nat.mul_le_mul_right _ this) (by omega)
  omega
 ·have:d.natAbs / d.gcd n≤d.natAbs:=Nat.div_le_self _ _
  omega
theorem AV {x:Rat}:l8 x=0↔x=0:=by
 unfold l8
 split
 ·simp_all
 ·split<;>simp_all
theorem uj {x:Rat}:0<l8 x↔0<x:=by
 unfold l8
 split
 ·rename_i h;rw [h];simp
 ·split
  ·rename_i o J;constructor
   ·intro h;omega
   ·intro h;grind
  ·rename_i o J;constructor
   ·intro h;grind
   ·intro h;omega
def eD (m:Nat)(t:ct):List Int:=a2 m fun i=>((t.B i:Nat):Int)
theorem Qo {x y z w:Rat}(aP:0<y)(hw:0<w):(x / y≤z / w↔x*w≤z*y)∧(x / y=z / w↔x*w=z*y):=by
 have az:x*w=(x / y)*(y*w):=by grind
 have aH:z*y=(z / w)*(y*w):=by grind
 have al:0<y*w:=Rat.mul_pos aP hw
 constructor
 ·rw [az,aH]
  constructor
  ·intro h;exact Rat.mul_le_mul_of_nonneg_right h (Rat.le_of_lt al)
  ·intro h
   apply Classical.byContradiction
   intro c
   have:z / w<x / y:=by grind
   have:=Rat.mul_lt_mul_of_pos_right this al
   grind
 ·rw [az,aH]
  constructor
  ·intro h;rw [h]
  ·intro h
   have cM:y*w≠0:=by grind
   grind
def Q0 (m N:Nat)(t:ct)(j:Nat)(r:Int):Prop :=
 (r = -1∧ ∀i,i<m→ ¬0<t.T i j)∨ ∃b:Nat,r=b∧b<m∧0<t.T b j∧(∀i,i<m→0<t.T i j→t.T b N*t.T i j≤t.T i N*t.T b j)∧(∀i,i<m→0<t.T i j→t.T b N*t.T i j=t.T i N*t.T b j→t.B b≤t.B i)
structure oa (p:nt) (m n:Nat) (a:Nat→Nat→Int) (b:Nat→Int):Prop where
 rows:p.kU=m
 gz:p.j4=n
 oY:p.fX.length=m*n
 BU : ∀i,i<m→ ∀j,j<n→p.fX[i*n+j]? = some (a i j)
 Gh:p.fY.length=m
 Fq : ∀i,i<m→p.fY[i]? = some (b i)
 hm:m≤20
 a0:n≤40
 wR : ∀i,i<m→ ∀j,j<n→ -100≤a i j∧a i j≤100
 sd : ∀i,i<m→ -100≤b i∧b i≤100
theorem Bu {p:nt}{m n:Nat}{a:Nat→Nat→Int}{b:Nat→Int}(h:oa p m n a b){i:Nat}(ai:i<m)(j:Nat): -100≤oc m n a b i j∧oc m n a b i j≤100:=by
 have aY:=h.sd i ai
 unfold oc l4
 by_cases c:j<n
 ·have bH:=h.wR i ai j c
  rw [if_pos c];split<;>omega
 ·rw [if_neg c]
  split
  ·split<;>omega
  ·split<;>omega
theorem abE {p:nt}{m n:Nat}{a:Nat→Nat→Int}{b:Nat→Int}(h:oa p m n a b){i:Nat}(ai:i<m)(j:Nat):dG 100 (ep m n a b i j) :=
 ⟨oc m n a b i j,rfl,by have:=Bu h ai j;omega⟩
theorem Bv {K:Nat}{d x y:Rat}(bo:dG K d)(aP:dG K y)(h0:d≠0)(e:d*x=y)(hq:(K:Int)<B 24):fO x:=by
 obtain ⟨z,rfl,cv⟩:=bo
 obtain ⟨w,rfl,hw⟩:=aP
 exact Zs (n:=w) (d:=z) (fun c=>h0 (by rw [c];rfl)) e (by omega) (by omega)
@[irreducible] def ea:Nat:=ky 100 20
theorem Fb:ky 100 20=ea:=by unfold ea;rfl
theorem aaU:((21*100*(ea*ea):Nat):Int)<B 24:=by decide +kernel
theorem qT:0<ea:=by decide +kernel
structure pR (m N:Nat) (A:Nat→Nat→Rat) (t:ct):Prop where
 ok:gj m m N A t
 mb:t.lb m N
 wS:t.D m A≠0
structure Small (m N:Nat) (A:Nat→Nat→Rat):Prop where
 hm:m≤20
 p7 : ∀c,c<m→ ∀j,j≤N→dG 100 (A c j)
theorem pR.adM {m N:Nat}{A:Nat→Nat→Rat}(s:Small m N A){t:ct}(h:pR m N A t):dG ea (t.D m A):=by
 refine dG.mono (yW fun i ai c aJ=>s.p7 c aJ _ (Nat.le_of_lt (h.ok.j8 i ai))) (Fb▸AQ (by omega) s.hm)
theorem pR.adN {m N:Nat}{A:Nat→Nat→Rat}(s:Small m N A){t:ct}(h:pR m N A t){i j:Nat}(ai:i<m)(aC:j≤N):dG ea (t.T i j*t.D m A):=by
 rw [← h.ok.wK ai aC]
 refine dG.mono (yW fun k aX c aJ=> ?_) (Fb▸AQ (by omega) s.hm)
 simp only [gl]
 split
 ·exact s.p7 c aJ j aC
 ·exact s.p7 c aJ _ (Nat.le_of_lt (h.ok.j8 k aX))
theorem vN {k:Nat}(h:k≤21*100*(ea*ea)):((k:Nat):Int)<B 24:=by have:=aaU;omega
theorem Lp:ea≤21*100*(ea*ea):=by
 have o:ea*1≤ea*ea:=Nat.mul_le_mul_left _ qT
 omega
theorem Fs:21*100*ea≤21*100*(ea*ea):=by
 have o:ea*1≤ea*ea:=Nat.mul_le_mul_left _ qT
 omega
theorem pR.g7 {m N K:Nat}{A obj:Nat→Nat→Rat}{b0:Nat→Prop}{t:ct}(h:pR m N A t){r k:Nat}(b:pK m N K obj b0 t r k):pR m N A (t.c7 r k) :=
 ⟨b.ok h.ok,b.BR h.mb,by
  rw [h.ok.Bs b.ap b.b4]
  have o:=b.pos
  have J:=h.wS
  intro c
  have:t.T r k≠0:=by grind
  grind⟩
theorem acm {g:Nat→Rat}:hM 1 g↔0<g 0:=by
 constructor
 ·rintro ⟨l,o,J,-⟩;rw [show l=0 by omega] at J;exact J
 ·intro h;exact ⟨0,by omega,h,fun gr aL=>by omega⟩
theorem PS {p:nt}{m n:Nat}{a:Nat→Nat→Int}{b:Nat→Int}(h:oa p m n a b):Small m (n+m) (ep m n a b):=⟨h.hm,fun c aJ j _=>abE h aJ j⟩
def bX (x:Rat):bg:=hg x.num
@[irreducible] def kr:Nat:=1000000000 ^ 40
theorem Sm:((kr:Nat):Int)+((kr:Nat):Int)<B 50:=by decide +kernel
theorem KL {K:Nat}{x:Rat}(h:dG K x):((x.num:Int):Rat)=x∧x.num.natAbs≤K:=by
 obtain ⟨z,rfl,cv⟩:=h
 rw [Rat.num_intCast];exact ⟨rfl,cv⟩
theorem pf (z:Int):bX (z:Rat)=hg z:=by unfold bX;rw [Rat.num_intCast]
theorem yZ {x:Rat}(h:dG kr x):(L x.num.natAbs).length≤50:=by
 have:=Sm
 have o:=(KL h).2
 exact (iw (by omega)).2 (by omega)
theorem yD {x y:Rat}(aa:dG kr x)(aP:dG kr y):o1 (bX x) (bX y)=some (bX (x*y)):=by
 have o:=yZ aa
 have J:=yZ aP
 obtain ⟨a,rfl,-⟩:=aa;obtain ⟨b,rfl,-⟩:=aP
 rw [Rat.num_intCast] at o J
 rw [pf,pf,← Rat.intCast_mul,pf]
 exact PP (by omega) (by omega)
theorem Qp {x y:Rat}(aa:dG kr x)(aP:dG kr y):u4 (bX x) (bX y)=some (bX (x-y)):=by
 have hj:=Sm
 obtain ⟨a,rfl,bH⟩:=aa;obtain ⟨b,rfl,aY⟩:=aP
 rw [pf,pf,← Rat.intCast_sub,pf]
 exact YC (by omega) (by omega)
theorem uk {x:Rat}(aa:dG kr x):o3 (bX x)=some (l8 x):=by
 obtain ⟨a,rfl,bH⟩:=aa
 rw [pf]
 unfold o3 l8
 simp only [gP]
 have e:(((L a.natAbs).length:Nat):Int)=0↔a=0:=by rw [Lo (by omega)];omega
 show (if (((L a.natAbs).length:Int) == 0)=true then some 0 else if decide (a<0)=true then some (-1) else some 1)=_
 by_cases h0:a=0
 ·rw [if_pos (by rw [beq_iff_eq,e];exact h0),if_pos (by rw [h0];rfl)]
 ·have adO:(a:Rat)≠0:=fun c=>h0 (Rat.intCast_inj.1 (by rw [c];rfl))
  rw [if_neg (by rw [beq_iff_eq,e];exact h0),if_neg adO]
  have aH:(a:Rat)<0↔a<0:=by
   rw [show (0:Rat)=((0:Int):Rat) from rfl,Rat.intCast_lt_intCast]
  by_cases o:a<0
  ·rw [if_pos (decide_eq_true o),if_pos (aH.2 o)]
  ·rw [if_neg (by simpa using o),if_neg (fun c=>o (aH.1 c))]
theorem XY {x y:Rat}(aa:dG kr x)(aP:dG kr y):sj (bX x) (bX y)=some (if x<y then -1 else if y<x then 1 else 0):=by
 have o:=yZ aa
 have J:=yZ aP
 obtain ⟨a,rfl,-⟩:=aa;obtain ⟨b,rfl,-⟩:=aP
 rw [Rat.num_intCast] at o J
 rw [pf,pf,NU (by omega) (by omega)]
 unfold lE
 simp only [Rat.intCast_lt_intCast]
theorem OV {x:Rat}(aa:dG kr x):qb (bX x)=some (bX (-x)):=by
 obtain ⟨a,rfl,-⟩:=aa
 rw [pf,← Rat.intCast_neg,pf]
 unfold qb
 show (lu (!(decide (a<0))) (L a.natAbs)).bind _=_
 rw [qN (by omega),RA];rfl
theorem tb {n:Int}(h:oL n):oi n=some (bX (n:Rat)):=by rw [pf];exact Pq h
theorem XZ {x y:Rat}(aa:dG kr x)(aP:dG kr y)(LX:dG kr (x*y))(h0:y≠0):t9 (bX (x*y)) (bX y)=some (bX x):=by
 have o:=yZ LX
 have J:=yZ aP
 obtain ⟨a,rfl,-⟩:=aa;obtain ⟨b,rfl,-⟩:=aP
 rw [← Rat.intCast_mul] at o ⊢
 rw [Rat.num_intCast] at o J
 have aY:b≠0:=fun c=>h0 (by rw [c];rfl)
 rw [pf,pf,pf]
 unfold t9
 show (tc (L (a*b).natAbs) (L b.natAbs)).bind _=_
 rw [EM (jH _) (jH _) (fun c=>by have:=uu.1 c;omega) (by omega) (by omega),fL (by omega),fL (by omega)]
 have az:((a*b).natAbs:Int) / (b.natAbs:Int)=(a.natAbs:Int):=by
  rw [Int.natAbs_mul,Int.natCast_mul];exact Int.mul_ediv_cancel _ (by omega)
 simp only [Option.bind_some]
 rw [az]
 show (lu (!(decide (a*b<0) == decide (b<0))) (L a.natAbs)).bind _=_
 rw [qN (by omega)]
 simp only [Option.bind_some]
 congr 2
 rcases Int.lt_or_gt_of_ne aY with c|c
 ·by_cases bH:a<0
  ·have : ¬a*b<0:=by have:=Int.mul_pos_of_neg_of_neg bH c;omega
   rw [decide_eq_false this,decide_eq_true c];simp only [fa,show (!(false == true))=true from rfl,if_true];omega
  ·by_cases cv:a=0
   ·subst cv;simp [fa]
   ·have:a*b<0:=Int.mul_neg_of_pos_of_neg (by omega) c
    rw [decide_eq_true this,decide_eq_true c];simp only [fa,BEq.rfl,Bool.not_true,Bool.false_eq_true,if_false];omega
 ·by_cases bH:a<0
  ·have:a*b<0:=Int.mul_neg_of_neg_of_pos bH c
   rw [decide_eq_true this,decide_eq_false (by omega)];simp only [fa,show (!(true == false))=true from rfl,if_true];omega
  ·have : ¬a*b<0:=by have:=Int.mul_nonneg (show 0≤a by omega) (show 0≤b by omega);omega
   rw [decide_eq_false this,decide_eq_false (by omega)];simp only [fa,BEq.rfl,Bool.not_true,Bool.false_eq_true,if_false];omega
def gZ (N:Nat)(w:Rat)(t:ct)(i:Nat):List bg:=a2 (N+1) fun j=>bX (t.T i j*w)
structure oN (m N:Nat) (w:Rat) (t:ct):Prop where
 pos:0<w
 hw:dG (21*100*ea) w
 ia : ∀i,i<m→ ∀j,j≤N→dG ea (t.T i j*w)
 hj : ∀i,i<m→t.B i<N
theorem Bw:21*100*ea*(21*100*ea)+21*100*ea*(21*100*ea)≤kr:=by decide +kernel
theorem acn {q i:Nat}(bi:0<q)(ai:i≤20):21*100*q*100+i*(q*100)≤21*100*q*(21*100*q):=by
 have o:i*(q*100)≤20*(q*100):=Nat.mul_le_mul_right _ ai
 have J:21*100*q*2100≤21*100*q*(21*100*q):=Nat.mul_le_mul_left _ (by omega)
 generalize 21*100*q*(21*100*q)=z at *
 omega
theorem aco {i:Nat}(ai:i≤20):21*100*ea*100+i*(ea*100)≤kr :=
 Nat.le_trans (acn qT ai) (Nat.le_trans (Nat.le_add_right _ _) Bw)
theorem tB {K:Nat}(h:K≤21*100*ea):K≤kr:=by
 have adP:=Bw
 have o:21*100*ea*1≤21*100*ea*(21*100*ea):=Nat.mul_le_mul_left _ (by have:=qT;generalize ea=q at *;omega)
 rw [Nat.mul_one] at o
 exact Nat.le_trans h (Nat.le_trans o (Nat.le_trans (Nat.le_add_right _ _) adP))
theorem Q1 {m N:Nat}(hm:m≤20)(fF:N<1000){w:Rat}{t:ct}(h:oN m N w t)(R:Nat→Int)(an:∀j,j<N→ -100≤R j∧R j≤100)(iP:bg)(zh:iP=bX w)(gz:Int)(free:List Bool){k:Nat}(aX:k<N):
 xW ⟨a2 m (gZ N w t),iP,eD m t,gz,free⟩ (a2 N R) (k:Int)=some (l8 (t.dE m (fun j=>(R j:Rat)) k)):=by
 subst zh
 have agz:=qT
 have small : ∀ {x:Rat} {K:Nat},dG K x→K≤21*100*ea→dG kr x:=fun o J=>o.mono (tB J)
 have af : ∀j,j<N→dG 100 ((R j:Int):Rat):=fun j aC=>⟨R j,rfl,by have:=an j aC;omega⟩
 have To : ∀j,j<N→oL (R j):=fun j aC=>by have:=an j aC;rw [mB];omega
 let S:Nat→Rat:=fun i=>w*(R k:Rat)-b8 i (fun i=>(t.T i k*w)*(R (t.B i):Rat))
 have uU : ∀i,i≤m→dG kr (S i):=fun i ai=>by
  have az:dG (21*100*ea*100) (w*(R k:Rat)):=h.hw.mul (af k aX)
  have aH:dG (i*(ea*100)) (b8 i (fun i=>(t.T i k*w)*(R (t.B i):Rat))):=dG.sum fun e8 jn=>(h.ia e8 (by omega) k (by omega)).mul (af _ (h.hj e8 (by omega)))
  exact (az.sub aH).mono (aco (by omega))
 unfold xW
 refine bL (by rw [cW];omega) (aB (x:=R k) (by rw [Int.toNat_natCast];exact gO aX) (aB (tb (To k aX)) (aB (yD (small h.hw (Nat.le_refl _)) (small (af k aX) (by omega))) ?_)))
 obtain ⟨s,e,-⟩:=iv (f:=fun q:Int×Bool×List Int=>xq (a2 m (gZ N w t)) (bX w).cY (bX w).cB (eD m t) gz free (a2 N R) (k:Int) ((m:Nat):Int) q.1 q.2.1 q.2.2)
  (fun (i:Nat) (_:Unit)=>((i:Int),(bX (S i)).cY,(bX (S i)).cB)) m (fun _ _=>True) (fun _=>((bX (S m)).cY,(bX (S m)).cB))
  (fun i ai _ _=>by
    refine ⟨(),?_,trivial⟩
    have F0:=h.hj i ai
    have CA:S (i+1)=S i-(t.T i k*w)*(R (t.B i):Rat):=by simp only [S,b8];grind
    unfold xq
    refine ed (by simp only;omega) (bL (by unfold eD;rw [cW];simp only;omega) (aB (x:=((t.B i:Nat):Int)) (by simp only;rw [Int.toNat_natCast];exact gO ai) (bL (by rw [cW];omega) (aB (x:=R (t.B i)) (by rw [Int.toNat_natCast];exact gO F0) (CI (fun c=> ?_) (fun c=> ?_))))))
    ·refine bL (by rw [cW];simp only;omega) (aB (x:=gZ N w t i) (by simp only;rw [Int.toNat_natCast];exact gO ai) (bL (by unfold gZ;rw [cW];omega) (aB (x:=bX (t.T i k*w)) (by rw [Int.toNat_natCast];exact gO (by omega)) (aB (uk (small (h.ia i ai k (by omega)) (by omega))) (CI (fun c2=> ?_) (fun c2=> ?_))))))
     ·refine aB (tb (To _ F0)) (aB (yD (small (h.ia i ai k (by omega)) (by omega)) (small (af _ F0) (by omega))) (aB (Qp (uU i (by omega)) (by
       exact small ((h.ia i ai k (by omega)).mul (af _ F0)) (by omega))) ?_))
      simp only;rw [f5 (by omega),CA]
     ·have cv:t.T i k*w=0:=AV.1 (by simpa using c2)
      simp only;rw [f5 (by omega),CA,cv,show S i-0*(R (t.B i):Rat)=S i by grind]
    ·have cv:R (t.B i)=0:=by simpa using c
     simp only;rw [f5 (by omega),CA,cv,show S i-t.T i k*w*((0:Int):Rat)=S i by rw [show ((0:Int):Rat)=0 from rfl];grind])
  (fun _ _=>by unfold xq;exact d4 (by simp) rfl) () trivial
 have e0:S 0=w*(R k:Rat):=by simp only [S,b8];grind
 rw [e0] at e
 refine aB (x:=((bX (S m)).cY,(bX (S m)).cB)) (by unfold HQ;rw [gP,show (eD m t).length=m from cW ..];exact e) (aB (x:=l8 (S m)) (uk (uU m (Nat.le_refl _))) ?_)
 congr 1
 have aH:S m=w*t.dE m (fun j=>(R j:Rat)) k:=by
  simp only [S]
  unfold ct.dE
  rw [fC (f:=fun i=>t.T i k*w*(R (t.B i):Rat)) (g:=fun i=>w*((R (t.B i):Rat)*t.T i k)) (fun i _=>by grind),ic];grind
 rw [aH]
 have al:=h.pos
 unfold l8
 by_cases c:t.dE m (fun j=>(R j:Rat)) k=0
 ·rw [if_pos c,if_pos (by rw [c];grind)]
 ·rw [if_neg c,if_neg (by grind)]
  by_cases c2:t.dE m (fun j=>(R j:Rat)) k<0
  ·rw [if_pos c2,if_pos]
   have:=Rat.mul_pos al (show 0 < -(t.dE m (fun j=>(R j:Rat)) k) by grind)
   grind
  ·rw [if_neg c2,if_neg]
   have:=Rat.mul_pos al (show 0<t.dE m (fun j=>(R j:Rat)) k by grind)
   grind
theorem Qq {x y z v w:Rat}(hw:0<w)(aP:0<y)(a3:0<v):(x*w)*(v*w)<(z*w)*(y*w)↔x / y<z / v:=by
 have az:(x*w)*(v*w)=(x / y)*((y*v)*(w*w)):=by grind
 have aH:(z*w)*(y*w)=(z / v)*((y*v)*(w*w)):=by grind
 have al:0<(y*v)*(w*w):=Rat.mul_pos (Rat.mul_pos aP a3) (Rat.mul_pos hw hw)
 rw [az,aH]
 constructor
 ·intro h
  apply Classical.byContradiction
  intro c
  have:z / v≤x / y:=by grind
  have:=Rat.mul_le_mul_of_nonneg_right this (Rat.le_of_lt al)
  grind
 ·intro h;exact Rat.mul_lt_mul_of_pos_right h al
theorem yP {x w:Rat}(hw:0<w):l8 (x*w)=l8 x:=by
 unfold l8
 by_cases c:x=0
 ·rw [if_pos c,if_pos (by rw [c];grind)]
 ·rw [if_neg c,if_neg (by grind)]
  by_cases c2:x<0
  ·rw [if_pos c2,if_pos]
   have:=Rat.mul_pos (show 0 < -x by grind) hw
   grind
  ·rw [if_neg c2,if_neg]
   have:=Rat.mul_pos (show 0<x by grind) hw
   grind
theorem X0 {m N:Nat}(hm:m≤20)(fF:N<1000){w:Rat}{t:ct}(h:oN m N w t)(iP:bg)(free:List Bool){k:Nat}(aX:k≤N):
 ∃r,z2 ⟨a2 m (gZ N w t),iP,eD m t,(N:Int),free⟩ (k:Int)=some r∧Q0 m N t k r:=by
 have hw:=h.pos
 have og : ∀i,i<m→ ∀j,j≤N→dG kr (t.T i j*w):=fun i ai j aC=>(h.ia i ai j aC).mono (tB (by have:=qT;generalize ea=q at *;omega))
 have CR : ∀i,i<m→ ∀j,j≤N→ ∀e8,e8<m→ ∀hS,hS≤N→dG kr (t.T i j*w*(t.T e8 hS*w)):=fun i ai j aC e8 jn hS sH=>((h.ia i ai j aC).mul (h.ia e8 jn hS sH)).mono (by
  refine Nat.le_trans ?_ (Nat.le_trans (Nat.le_add_right _ _) Bw)
  exact Nat.mul_le_mul (by generalize ea=q;omega) (by generalize ea=q;omega))
 unfold z2
 obtain ⟨r,e,ap⟩:=te (f:=fun q:Int×Int=>xf (a2 m (gZ N w t)) iP.cY iP.cB (eD m t) (N:Int) free (k:Int) ((m:Nat):Int) q.1 q.2)
  (fun (i:Nat) (s:Int)=>(s,(i:Int))) m
  (fun n s=>(s = -1∧ ∀i,i<n→ ¬0<t.T i k)∨ ∃b:Nat,s=b∧b<n∧0<t.T b k∧ ∀i,i<n→0<t.T i k→t.T b N / t.T b k<t.T i N / t.T i k∨(t.T b N / t.T b k=t.T i N / t.T i k∧t.B b≤t.B i))
  (fun r=>Q0 m N t k r)
  (fun n a0 s dw=>by
    left
    unfold xf
    have g1:0≤((n:Nat):Int)∧((n:Nat):Int)<((a2 m (gZ N w t)).length:Nat):=by rw [cW];omega
    have g2:(a2 m (gZ N w t))[((n:Nat):Int).toNat]? = some (gZ N w t n):=by rw [Int.toNat_natCast];exact gO a0
    have g3 : ∀b,0≤((k:Nat):Int)∧((k:Nat):Int)<((gZ N w t b).length:Nat):=fun b=>by unfold gZ;rw [cW];omega
    have g4 : ∀b,(gZ N w t b)[((k:Nat):Int).toNat]? = some (bX (t.T b k*w)):=fun b=>by rw [Int.toNat_natCast];exact gO (by omega)
    have g5 : ∀b,0≤((N:Nat):Int)∧((N:Nat):Int)<((gZ N w t b).length:Nat):=fun b=>by unfold gZ;rw [cW];omega
    have g6 : ∀b,(gZ N w t b)[((N:Nat):Int).toNat]? = some (bX (t.T b N*w)):=fun b=>by rw [Int.toNat_natCast];exact gO (by omega)
    have hL:U ((n:Int)+1)=((n+1:Nat):Int):=f5 (by omega)
    have r3:o3 (bX (t.T n k*w))=some (l8 (t.T n k)):=by rw [uk (og n a0 k aX),yP hw]
    by_cases al:0<t.T n k
    ·have b4 : ¬l8 (t.T n k)≤0:=by have:=uj.2 al;omega
     rcases dw with ⟨o,J⟩|⟨b,o,aY,mx,ak⟩
     ·refine ⟨(n:Int),ed (by simp only;omega) (bL g1 (aB g2 (bL (g3 n) (aB (g4 n) (aB r3 (d4 b4 (ed (by simp only;omega) ?_))))))),.inr ⟨n,rfl,by omega,al,fun i ai nG=> ?_⟩⟩
      ·simp only;rw [hL]
      ·by_cases c:i=n
       ·subst c;exact .inr ⟨rfl,Nat.le_refl _⟩
       ·exact (J i (by omega) nG).elim
     ·subst o
      have adQ:0≤((b:Nat):Int)∧((b:Nat):Int)<((a2 m (gZ N w t)).length:Nat):=by rw [cW];omega
      have adR:(a2 m (gZ N w t))[((b:Nat):Int).toNat]? = some (gZ N w t b):=by rw [Int.toNat_natCast];exact gO (by omega)
      have gc:sj (bX (t.T n N*w*(t.T b k*w))) (bX (t.T b N*w*(t.T n k*w)))=some (if t.T n N / t.T n k<t.T b N / t.T b k then -1 else if t.T b N / t.T b k<t.T n N / t.T n k then 1 else 0):=by
       rw [XY (CR n a0 N (by omega) b (by omega) k aX) (CR b (by omega) N (by omega) n a0 k aX)]
       have aq:=Qq (x:=t.T n N) (y:=t.T n k) (z:=t.T b N) (v:=t.T b k) hw al mx
       have bE:=Qq (x:=t.T b N) (y:=t.T b k) (z:=t.T n N) (v:=t.T n k) hw mx al
       by_cases bN:t.T n N / t.T n k<t.T b N / t.T b k
       ·rw [if_pos bN,if_pos (aq.2 bN)]
       ·rw [if_neg bN,if_neg (fun c=>bN (aq.1 c))]
        by_cases c2:t.T b N / t.T b k<t.T n N / t.T n k
        ·rw [if_pos c2,if_pos (bE.2 c2)]
        ·rw [if_neg c2,if_neg (fun c=>c2 (bE.1 c))]
      have lead : ∀ {x r:Option ((Int×Int)⊕Int)} {f:Int→Option ((Int×Int)⊕Int)} {q:Int},sj (bX (t.T n N*w*(t.T b k*w))) (bX (t.T b N*w*(t.T n k*w)))=some q→f q=r →
       (if 0≤((N:Nat):Int)∧((N:Nat):Int)<((gZ N w t n).length:Nat) then
         (gZ N w t n)[((N:Nat):Int).toNat]? >>= fun nf =>
         if 0≤((b:Nat):Int)∧((b:Nat):Int)<((a2 m (gZ N w t)).length:Nat) then
         (a2 m (gZ N w t))[((b:Nat):Int).toNat]? >>= fun lk =>
         if 0≤((k:Nat):Int)∧((k:Nat):Int)<(lk.length:Nat) then
         lk[((k:Nat):Int).toNat]? >>= fun r5 =>
         o1 nf r5 >>= fun iX =>
         if 0≤((N:Nat):Int)∧((N:Nat):Int)<(lk.length:Nat) then
         lk[((N:Nat):Int).toNat]? >>= fun tJ =>
         o1 tJ (bX (t.T n k*w)) >>= fun n7 =>
         sj iX n7 >>= f
         else none else none else none else none)=r:=fun bi cc =>
       bL (g5 n) (aB (g6 n) (bL adQ (aB adR (bL (g3 b) (aB (g4 b) (aB (yD (og n a0 N (by omega)) (og b (by omega) k aX)) (bL (g5 b) (aB (g6 b) (aB (yD (og b (by omega) N (by omega)) (og n a0 k aX)) (aB bi cc))))))))))
      by_cases bN:t.T n N / t.T n k<t.T b N / t.T b k
      ·rw [if_pos bN] at gc
       refine ⟨(n:Int),ed (by simp only;omega) (bL g1 (aB g2 (bL (g3 n) (aB (g4 n) (aB r3 (d4 b4 (d4 (by simp only;omega) (lead (x:=none) gc (ed (by omega) ?_))))))))),.inr ⟨n,rfl,by omega,al,fun i ai nG=> ?_⟩⟩
       ·simp only;rw [hL]
       ·by_cases c:i=n
        ·subst c;exact .inr ⟨rfl,Nat.le_refl _⟩
        ·rcases ak i (by omega) nG with h|⟨h,-⟩
         ·left;grind
         ·left;rw [← h];exact bN
      ·rw [if_neg bN] at gc
       by_cases c2:t.T b N / t.T b k<t.T n N / t.T n k
       ·rw [if_pos c2] at gc
        refine ⟨(b:Int),ed (by simp only;omega) (bL g1 (aB g2 (bL (g3 n) (aB (g4 n) (aB r3 (d4 b4 (d4 (by simp only;omega) (lead (x:=none) gc (d4 (by omega) (gk (by decide) ?_)))))))))),.inr ⟨b,rfl,by omega,mx,fun i ai nG=> ?_⟩⟩
        ·simp only;rw [hL]
        ·by_cases c:i=n
         ·subst c;exact .inl c2
         ·exact ak i (by omega) nG
       ·rw [if_neg c2] at gc
        have adS:t.T b N / t.T b k=t.T n N / t.T n k:=by grind
        have Tp:0≤((n:Nat):Int)∧((n:Nat):Int)<((eD m t).length:Nat):=by unfold eD;rw [cW];omega
        have Tq:(eD m t)[((n:Nat):Int).toNat]? = some ((t.B n:Nat):Int):=by rw [Int.toNat_natCast];exact gO a0
        have Tr:0≤((b:Nat):Int)∧((b:Nat):Int)<((eD m t).length:Nat):=by unfold eD;rw [cW];omega
        have Ts:(eD m t)[((b:Nat):Int).toNat]? = some ((t.B b:Nat):Int):=by rw [Int.toNat_natCast];exact gO (by omega)
        by_cases mL:t.B n<t.B b
        ·refine ⟨(n:Int),ed (by simp only;omega) (bL g1 (aB g2 (bL (g3 n) (aB (g4 n) (aB r3 (d4 b4 (d4 (by simp only;omega) (lead (x:=none) gc (d4 (by omega) (fc rfl (bL Tp (aB Tq (bL Tr (aB Ts (ed (by omega) ?_))))))))))))))),.inr ⟨n,rfl,by omega,al,fun i ai nG=> ?_⟩⟩
         ·simp only;rw [hL]
         ·by_cases c:i=n
          ·subst c;exact .inr ⟨rfl,Nat.le_refl _⟩
          ·rcases ak i (by omega) nG with h|⟨h,cw⟩
           ·left;grind
           ·right;exact ⟨by grind,by omega⟩
        ·refine ⟨(b:Int),ed (by simp only;omega) (bL g1 (aB g2 (bL (g3 n) (aB (g4 n) (aB r3 (d4 b4 (d4 (by simp only;omega) (lead (x:=none) gc (d4 (by omega) (fc rfl (bL Tp (aB Tq (bL Tr (aB Ts (d4 (by omega) ?_))))))))))))))),.inr ⟨b,rfl,by omega,mx,fun i ai nG=> ?_⟩⟩
         ·simp only;rw [hL]
         ·by_cases c:i=n
          ·subst c;exact .inr ⟨adS,by omega⟩
          ·exact ak i (by omega) nG
    ·have b4:l8 (t.T n k)≤0:=by
      have : ¬0<l8 (t.T n k):=fun c=>al (uj.1 c)
      omega
     refine ⟨s,ed (by simp only;omega) (bL g1 (aB g2 (bL (g3 n) (aB (g4 n) (aB r3 (ed b4 ?_)))))),?_⟩
     ·simp only;rw [hL]
     ·rcases dw with ⟨o,J⟩|⟨b,o,aY,mx,ak⟩
      ·exact .inl ⟨o,fun i ai=>if c:i=n then c▸al else J i (by omega)⟩
      ·exact .inr ⟨b,o,by omega,mx,fun i ai nG=>if c:i=n then (al (c▸nG)).elim else ak i (by omega) nG⟩)
  (fun s dw=>by
    refine ⟨s,by unfold xf;exact d4 (by simp only;omega) rfl,?_⟩
    rcases dw with ⟨o,J⟩|⟨b,o,aY,mx,ak⟩
    ·exact .inl ⟨o,J⟩
    ·refine .inr ⟨b,o,aY,mx,fun i ai nG=> ?_,fun i ai nG he=> ?_⟩
     ·rw [← (Qo mx nG).1]
      rcases ak i ai nG with h|⟨h,-⟩
      ·exact Rat.le_of_lt h
      ·rw [h];exact Rat.le_refl
     ·rw [← (Qo mx nG).2] at he
      rcases ak i ai nG with h|⟨-,h⟩
      ·rw [he] at h;grind
      ·exact h) (-1:Int) (.inl ⟨rfl,fun i ai=>by omega⟩)
 refine ⟨r,aB ?_ rfl,ap⟩
 unfold Hp
 rw [gv,cW]
 exact e
def gF (m N:Nat)(h:Nat→Nat):List ca:=a2 m fun i=>some (h i,N+1)
structure kF (m N M:Nat) (h:Nat→Nat) (w:Rat) (t:ct) (eb:List (List bg)):Prop where
 len:eb.length=M
 row : ∀i,i<m→eb[h i]? = some (gZ N w t i)
theorem D1 {α:Type}{l:List α}{i:Nat}{x y:α}(h:l[i]? = some x):(l.set i y)[i]? = some y:=by
 rw [List.getElem?_set,if_pos rfl,if_pos (List.getElem?_eq_some_iff.1 h).1]
theorem JR {α:Type}{l:List α}{i k:Nat}{y:α}(h:i≠k):(l.set i y)[k]? = l[k]? := by
 rw [List.getElem?_set,if_neg h]
theorem set_set {α:Type}(l:List α)(i:Nat)(x y:α):(l.set i x).set i y=l.set i y:=by
 rw [List.set_set]
structure tC (m N:Nat) (w:Rat) (t:ct) (r k:Nat):Prop where
 ap:r<m
 aX:k<N
 al:t.T r k≠0
 zM : ∀i,i<m→ ∀j,j≤N→dG ea ((t.c7 r k).T i j*(t.T r k*w))
theorem Zt {m N:Nat}(fF:N<1000){h:Nat→Nat}{w:Rat}{t:ct}{r k:Nat}(f:oN m N w t)(g:tC m N w t r k){i:Nat}(ai:i<m)(adT:i≠r)(cM:h i≠h r){eb:List (List bg)}(o:eb[h i]? = some (gZ N w t i))(J:eb[h r]? = some (gZ N w t r))
 (fz fk:Int) (aQ:Int) (aR:List ca) (bb:List Int) (b7:List Bool) (v1 v2:Int) :
 C8 v1 v2 (some (h r,N+1)) (some (h i,N+1)) fz fk (((N+1:Nat):Nat):Int) (bX w).cY (bX w).cB aQ aR bb b7 (bX (t.T r k*w)).cY (bX (t.T r k*w)).cB (bX (t.T i k*w)).cY (bX (t.T i k*w)).cB 0 eb=some (eb.set (h i) (gZ N (t.T r k*w) (t.c7 r k) i)):=by
 have hw:=f.pos
 have og : ∀i,i<m→ ∀j,j≤N→dG kr (t.T i j*w):=fun i ai j aC=>(f.ia i ai j aC).mono (tB (by have:=qT;generalize ea=q at *;omega))
 have aeE:dG kr w:=f.hw.mono (tB (Nat.le_refl _))
 have aeF : ∀i,i<m→ ∀j,j≤N→dG kr ((t.c7 r k).T i j*(t.T r k*w)):=fun i ai j aC=>(g.zM i ai j aC).mono (tB (by have:=qT;generalize ea=q at *;omega))
 have CR : ∀i,i<m→ ∀j,j≤N→ ∀e8,e8<m→ ∀hS,hS≤N→dG kr (t.T i j*w*(t.T e8 hS*w)):=fun i ai j aC e8 jn hS sH=>((f.ia i ai j aC).mul (f.ia e8 jn hS sH)).mono (by
  refine Nat.le_trans ?_ (Nat.le_trans (Nat.le_add_right _ _) Bw)
  exact Nat.mul_le_mul (by generalize ea=q;omega) (by generalize ea=q;omega))
 have adU : ∀j,j≤N→dG kr ((t.c7 r k).T i j*(t.T r k*w)*w):=fun j aC=>((g.zM i ai j aC).mul f.hw).mono (by
  refine Nat.le_trans ?_ (Nat.le_trans (Nat.le_add_right _ _) Bw)
  exact Nat.mul_le_mul (by generalize ea=q;omega) (Nat.le_refl _))
 have ap:=g.ap
 have aX:=g.aX
 have al:=g.al
 have MW : ∀j,(t.c7 r k).T i j=t.T i j-t.T i k*(t.T r j / t.T r k):=fun j=>by simp [ct.c7,adT]
 have LB:w≠0:=by grind
 unfold C8
 obtain ⟨s,e,-⟩:=iv (f:=fun q:Int×List (List bg)=>xg v1 v2 (some (h r,N+1)) (some (h i,N+1)) fz fk (((N+1:Nat):Nat):Int) (bX w).cY (bX w).cB aQ aR bb b7 (bX (t.T r k*w)).cY (bX (t.T r k*w)).cB (bX (t.T i k*w)).cY (bX (t.T i k*w)).cB q.1 q.2)
  (fun (c:Nat) (_:Unit)=>((c:Int),eb.set (h i) (a2 (N+1) fun j=>if j<c then bX ((t.c7 r k).T i j*(t.T r k*w)) else bX (t.T i j*w)))) (N+1) (fun _ _=>True)
  (fun _=>eb.set (h i) (gZ N (t.T r k*w) (t.c7 r k) i))
  (fun c aJ _ _=>by
    refine ⟨(),?_,trivial⟩
    have fin:(some (Sum.inl (U ((c:Int)+1),(eb.set (h i) (a2 (N+1) fun j=>if j<c then bX ((t.c7 r k).T i j*(t.T r k*w)) else bX (t.T i j*w))).set (h i) ((a2 (N+1) fun j=>if j<c then bX ((t.c7 r k).T i j*(t.T r k*w)) else bX (t.T i j*w)).set (0+((c:Int)).toNat) (bX ((t.c7 r k).T i c*(t.T r k*w)))))):Option ((Int×List (List bg))⊕List (List bg))) =
     some (Sum.inl (((c+1:Nat):Int),eb.set (h i) (a2 (N+1) fun j=>if j<c+1 then bX ((t.c7 r k).T i j*(t.T r k*w)) else bX (t.T i j*w)))):=by
     rw [f5 (by omega),Int.toNat_natCast,Nat.zero_add,set_set,kC]
     congr 4
     refine fm fun j _=> ?_
     by_cases bN:j=c
     ·subst bN;rw [if_pos rfl,if_pos (by omega)]
     ·rw [if_neg bN]
      by_cases c2:j<c
      ·rw [if_pos c2,if_pos (by omega)]
      ·rw [if_neg c2,if_neg (by omega)]
    have hb:t9 (bX ((t.c7 r k).T i c*(t.T r k*w)*w)) (bX w)=some (bX ((t.c7 r k).T i c*(t.T r k*w))):=XZ (aeF i ai c (by omega)) aeE (adU c (by omega)) LB
    unfold xg
    refine ed (by simp only;omega) (aB (x:=(h i,N+1)) rfl (aB (x:=a2 (N+1) fun j=>if j<c then bX ((t.c7 r k).T i j*(t.T r k*w)) else bX (t.T i j*w)) (by simp only;exact D1 o) (bL (by simp only;omega) (aB (x:=bX (t.T i c*w)) (by simp only;rw [Int.toNat_natCast,jQ aJ,if_neg (by omega)]) ?_))))
    refine aB (yD (og i ai c (by omega)) (og r ap k (by omega))) (aB (uk (og i ai k (by omega))) (CI (fun d=> ?_) (fun d=> ?_)))
    ·refine aB (x:=(h r,N+1)) rfl (aB (x:=gZ N w t r) (by simp only;rw [JR cM];exact J) (bL (by simp only;omega) (aB (x:=bX (t.T r c*w)) (by simp only;rw [Int.toNat_natCast];exact jQ aJ) (aB (uk (og r ap c (by omega))) (CI (fun rj=> ?_) (fun rj=> ?_))))))
     ·refine aB (yD (og i ai k (by omega)) (og r ap c (by omega))) (aB (Qp (CR i ai c (by omega) r ap k (by omega)) (CR i ai k (by omega) r ap c (by omega))) (aB ?_ fin))
      rw [show t.T i c*w*(t.T r k*w)-t.T i k*w*(t.T r c*w)=(t.c7 r k).T i c*(t.T r k*w)*w by rw [MW];grind]
      exact hb
     ·have cv:t.T r c=0:=by have:=AV.1 (by simpa using rj);grind
      refine aB ?_ fin
      rw [show t.T i c*w*(t.T r k*w)=(t.c7 r k).T i c*(t.T r k*w)*w by rw [MW,cv];grind]
      exact hb
    ·have cv:t.T i k=0:=by have:=AV.1 (by simpa using d);grind
     refine aB ?_ fin
     rw [show t.T i c*w*(t.T r k*w)=(t.c7 r k).T i c*(t.T r k*w)*w by rw [MW,cv];grind]
     exact hb)
  (fun _ _=>by
    unfold xg
    refine d4 (by simp) ?_
    simp only
    congr 3
    exact fm fun j aC=>by rw [if_pos aC]) () trivial
 have e0:eb.set (h i) (a2 (N+1) fun j=>if j<0 then bX ((t.c7 r k).T i j*(t.T r k*w)) else bX (t.T i j*w))=eb:=by
  have:(a2 (N+1) fun j=>if j<0 then bX ((t.c7 r k).T i j*(t.T r k*w)) else bX (t.T i j*w))=gZ N w t i:=fm fun j _=>by rw [if_neg (by omega)]
  rw [this]
  apply List.ext_getElem?
  intro c
  rw [List.getElem?_set]
  split
  ·rename_i e;subst e
   rw [if_pos (List.getElem?_eq_some_iff.1 o).1,o]
  ·rfl
 rw [e0] at e
 exact e
theorem Zu {m N:Nat}(fF:N<1000){h:Nat→Nat}{w:Rat}{t:ct}(ia:∀i,i<m→ ∀j,j≤N→dG ea (t.T i j*w)){i:Nat}(ai:i<m){eb:List (List bg)}(o:eb[h i]? = some (gZ N w t i))
 (fz fk:Int) (gA:Bool) (ho:List Int) (aQ:Int) (aR:List ca) (bb:List Int) (b7:List Bool) :
 Da (some (h i,N+1)) fz fk (((N+1:Nat):Nat):Int) gA ho aQ aR bb b7 0 eb=some (eb.set (h i) (gZ N (-w) t i)):=by
 have og : ∀j,j≤N→dG kr (t.T i j*w):=fun j aC=>(ia i ai j aC).mono (tB (by have:=qT;generalize ea=q at *;omega))
 unfold Da
 obtain ⟨s,e,-⟩:=iv (f:=fun q:Int×List (List bg)=>xi (some (h i,N+1)) fz fk (((N+1:Nat):Nat):Int) gA ho aQ aR bb b7 q.1 q.2)
  (fun (c:Nat) (_:Unit)=>((c:Int),eb.set (h i) (a2 (N+1) fun j=>if j<c then bX (t.T i j * -w) else bX (t.T i j*w)))) (N+1) (fun _ _=>True)
  (fun _=>eb.set (h i) (gZ N (-w) t i))
  (fun c aJ _ _=>by
    refine ⟨(),?_,trivial⟩
    unfold xi
    refine ed (by simp only;omega) (aB (x:=(h i,N+1)) rfl (aB (x:=a2 (N+1) fun j=>if j<c then bX (t.T i j * -w) else bX (t.T i j*w)) (by simp only;exact D1 o) (bL (by simp only;omega) (aB (x:=bX (t.T i c*w)) (by simp only;rw [Int.toNat_natCast,jQ aJ,if_neg (by omega)]) (aB (OV (og c (by omega))) ?_)))))
    simp only
    rw [f5 (by omega),Int.toNat_natCast,Nat.zero_add,set_set,kC]
    congr 4
    refine fm fun j _=> ?_
    by_cases bN:j=c
    ·subst bN;rw [if_pos rfl,if_pos (by omega)];congr 1;grind
    ·rw [if_neg bN]
     by_cases c2:j<c
     ·rw [if_pos c2,if_pos (by omega)]
     ·rw [if_neg c2,if_neg (by omega)])
  (fun _ _=>by
    unfold xi
    refine d4 (by simp) ?_
    simp only
    congr 3
    exact fm fun j aC=>by rw [if_pos aC]) () trivial
 have e0:eb.set (h i) (a2 (N+1) fun j=>if j<0 then bX (t.T i j * -w) else bX (t.T i j*w))=eb:=by
  have:(a2 (N+1) fun j=>if j<0 then bX (t.T i j * -w) else bX (t.T i j*w))=gZ N w t i:=fm fun j _=>by rw [if_neg (by omega)]
  rw [this]
  apply List.ext_getElem?
  intro c
  rw [List.getElem?_set]
  split
  ·rename_i e;subst e
   rw [if_pos (List.getElem?_eq_some_iff.1 o).1,o]
  ·rfl
 rw [e0] at e
 exact e
def pv (w:Rat)(t:ct)(r k:Nat):Rat:=if 0<t.T r k then t.T r k*w else -(t.T r k*w)
theorem Q2 {m N M:Nat}(hm:m≤20)(fF:N<1000){h:Nat→Nat}(inj:∀i,i<m→ ∀k,k<m→h i=h k→i=k){w:Rat}{t:ct}{r k:Nat}(f:oN m N w t)(g:tC m N w t r k){eb:List (List bg)}(gg:kF m N M h w t eb)(gz:Int)(free:List Bool):
 ∃jk,xC r k (bX w).cY (bX w).cB gz (gF m N h) eb (eD m t) free=some ((bX (pv w t r k)).cY,(bX (pv w t r k)).cB,jk,eD m (t.c7 r k))∧kF m N M h (pv w t r k) (t.c7 r k) jk:=by
 have ap:=g.ap
 have aX:=g.aX
 have al:=g.al
 have hw:=f.pos
 have og : ∀i,i<m→ ∀j,j≤N→dG kr (t.T i j*w):=fun i ai j aC=>(f.ia i ai j aC).mono (tB (by have:=qT;generalize ea=q at *;omega))
 have TM:gZ N (t.T r k*w) (t.c7 r k) r=gZ N w t r:=fm fun j _=>by
  simp only [ct.c7,if_true];congr 1;grind
 have zS:(gF m N h).length=m:=cW ..
 unfold xC
 obtain ⟨ha,az,nk,aq⟩:=iv (f:=fun q:Int×List (List bg)=>xh (r:Int) (k:Int) (some (h r,N+1)) ((m:Nat):Int) (bX w).cY (bX w).cB gz (gF m N h) (eD m t) free (bX (t.T r k*w)).cY (bX (t.T r k*w)).cB q.1 q.2)
  (fun (i:Nat) (p:List (List bg))=>((i:Int),p)) m (fun n p=>p.length=M∧ ∀i,i<m→p[h i]? = some (if i=r∨i<n then gZ N (t.T r k*w) (t.c7 r k) i else gZ N w t i)) (fun p=>p)
  (fun n a0 p dw=>by
    obtain ⟨aL,dw⟩:=dw
    unfold xh
    by_cases c:n=r
    ·subst c
     refine ⟨p,ed (by simp only;omega) (bL (by rw [zS];simp only;omega) (aB (x:=some (h n,N+1)) (by simp only;rw [Int.toNat_natCast];exact jQ a0) (fc (by simp) ?_))),aL,fun i ai=> ?_⟩
     ·simp only;rw [f5 (by omega)]
     ·rw [dw i ai]
      by_cases bN:i=n∨i<n
      ·rw [if_pos bN,if_pos (by omega)]
      ·rw [if_neg bN,if_neg (by omega)]
    ·have cM:h n≠h r:=fun e=>c (inj n a0 r ap e)
     have o:p[h n]? = some (gZ N w t n):=by rw [dw n a0,if_neg (by omega)]
     have J:p[h r]? = some (gZ N w t r):=by rw [dw r ap,if_pos (.inl rfl),TM]
     refine ⟨p.set (h n) (gZ N (t.T r k*w) (t.c7 r k) n),ed (by simp only;omega) (bL (by rw [zS];simp only;omega) (aB (x:=some (h n,N+1)) (by simp only;rw [Int.toNat_natCast];exact jQ a0) (gk (by simp;omega) (aB (x:=(h n,N+1)) rfl (aB o (bL (by simp only;omega) (aB (x:=bX (t.T n k*w)) (by rw [Int.toNat_natCast];exact jQ (by omega)) (aB (Zt fF f g a0 c cM o J _ _ _ _ _ _ _ _) ?_)))))))),by rw [List.length_set];exact aL,fun i ai=> ?_⟩
     ·simp only;rw [f5 (by omega)]
     ·by_cases bN:i=n
      ·subst bN;rw [D1 o,if_pos (.inr (by omega))]
      ·rw [JR (fun e=>bN (inj i ai n a0 e.symm)),dw i ai]
       by_cases c2:i=r∨i<n
       ·rw [if_pos c2,if_pos (by omega)]
       ·rw [if_neg c2,if_neg (by omega)])
  (fun p _=>by unfold xh;exact d4 (by simp) rfl) eb ⟨gg.len,fun i ai=>by
    rw [gg.row i ai]
    by_cases c:i=r
    ·rw [if_pos (.inl c),c,TM]
    ·rw [if_neg (by omega)]⟩
 have Tt : ∀i,i<m→ha[h i]? = some (gZ N (t.T r k*w) (t.c7 r k) i):=fun i ai=>by rw [aq i ai,if_pos (.inr ai)]
 have acp:(eD m t).set (0+((r:Int)).toNat) (k:Int)=eD m (t.c7 r k):=by
  rw [Int.toNat_natCast,Nat.zero_add]
  unfold eD
  rw [kC]
  exact fm fun i _=>by
   simp only [ct.c7]
   split<;>rfl
 have lead :
  (if 0≤(r:Int)∧(r:Int)<((gF m N h).length:Nat) then
    (gF m N h)[(0+((r:Int)).toNat)]? >>= fun fk =>
    fk >>= fun oe =>
    eb[oe.1]? >>= fun zQ =>
    if 0≤(k:Int)∧(k:Int)<(oe.2:Nat) then
    zQ[(0+((k:Int)).toNat)]? >>= fun gD =>
    C9 (r:Int) (k:Int) fk (((gF m N h).length:Nat):Int) (bX w).cY (bX w).cB gz (gF m N h) (eD m t) free gD.cY gD.cB 0 eb >>= fun cI =>
    if 0≤(r:Int)∧(r:Int)<((eD m t).length:Nat) then
    if (0+((r:Int)).toNat)<(eD m t).length then
    o3 gD >>= fun dS =>
    if (decide ((0:Int)<dS))=true then
     some (gD.cY,gD.cB,cI,(eD m t).set (0+((r:Int)).toNat) (k:Int))
    else
     qb gD >>= fun d6 =>
     zZ (((gF m N h).length:Nat):Int) d6.cY d6.cB gz (gF m N h) ((eD m t).set (0+((r:Int)).toNat) (k:Int)) free 0 cI >>= fun fw =>
     some (d6.cY,d6.cB,fw,(eD m t).set (0+((r:Int)).toNat) (k:Int))
    else none else none else none else none)=(if (decide ((0:Int)<l8 (t.T r k)))=true then
     some ((bX (t.T r k*w)).cY,(bX (t.T r k*w)).cB,ha,eD m (t.c7 r k))
    else
     qb (bX (t.T r k*w)) >>= fun d6 =>
     zZ ((m:Nat):Int) d6.cY d6.cB gz (gF m N h) (eD m (t.c7 r k)) free 0 ha >>= fun fw =>
     some (d6.cY,d6.cB,fw,eD m (t.c7 r k))):=by
  refine bL (by rw [zS];omega) (aB (x:=some (h r,N+1)) (by rw [Int.toNat_natCast];exact jQ ap) (aB (x:=(h r,N+1)) rfl (aB (gg.row r ap) (bL (by simp only;omega) (aB (x:=bX (t.T r k*w)) (by rw [Int.toNat_natCast];exact jQ (by omega)) (aB (x:=ha) (by unfold C9;rw [zS];exact az) (bL (by unfold eD;rw [cW];omega) (bL (by unfold eD;rw [cW,Int.toNat_natCast];omega) (aB (uk (og r ap k (by omega))) ?_)))))))))
  rw [yP hw,acp,zS]
 by_cases ju:0<t.T r k
 ·have uV:pv w t r k=t.T r k*w:=if_pos ju
  refine ⟨ha,lead.trans ?_,nk,fun i ai=>by rw [uV];exact Tt i ai⟩
  rw [uV]
  exact ed (uj.2 ju) rfl
 ·have uV:pv w t r k = -(t.T r k*w):=if_neg ju
  obtain ⟨h9,aH,p6,bE⟩:=iv (f:=fun q:Int×List (List bg)=>xj ((m:Nat):Int) (bX (-(t.T r k*w))).cY (bX (-(t.T r k*w))).cB gz (gF m N h) (eD m (t.c7 r k)) free q.1 q.2)
   (fun (i:Nat) (p:List (List bg))=>((i:Int),p)) m (fun n p=>p.length=M∧ ∀i,i<m→p[h i]? = some (if i<n then gZ N (-(t.T r k*w)) (t.c7 r k) i else gZ N (t.T r k*w) (t.c7 r k) i)) (fun p=>p)
   (fun n a0 p dw=>by
     obtain ⟨aL,dw⟩:=dw
     have o:p[h n]? = some (gZ N (t.T r k*w) (t.c7 r k) n):=by rw [dw n a0,if_neg (by omega)]
     unfold xj
     refine ⟨p.set (h n) (gZ N (-(t.T r k*w)) (t.c7 r k) n),ed (by simp only;omega) (bL (by rw [zS];simp only;omega) (aB (x:=some (h n,N+1)) (by simp only;rw [Int.toNat_natCast];exact jQ a0) (aB (x:=(h n,N+1)) rfl (aB o (aB (Zu fF g.zM a0 o _ _ _ _ _ _ _ _) ?_))))),by rw [List.length_set];exact aL,fun i ai=> ?_⟩
     ·simp only;rw [f5 (by omega)]
     ·by_cases bN:i=n
      ·subst bN;rw [D1 o,if_pos (by omega)]
      ·rw [JR (fun e=>bN (inj i ai n a0 e.symm)),dw i ai]
       by_cases c2:i<n
       ·rw [if_pos c2,if_pos (by omega)]
       ·rw [if_neg c2,if_neg (by omega)])
   (fun p _=>by unfold xj;exact d4 (by simp) rfl) ha ⟨nk,fun i ai=>by rw [Tt i ai,if_neg (by omega)]⟩
  refine ⟨h9,lead.trans ?_,p6,fun i ai=>by rw [uV,bE i ai,if_pos ai]⟩
  rw [uV]
  exact d4 (fun c=>ju (uj.1 c)) (aB (OV (og r ap k (by omega))) (aB (x:=h9) (by unfold zZ;exact aH) rfl))
theorem OE {m:Nat}(hm:m≤1000)(t:ct)(j:Nat): ∃b,yp (eD m t) (j:Int)=some b∧(b=true↔ ∃i,i<m∧t.B i=j):=by
 unfold yp EK JL
 obtain ⟨r,e,h⟩:=te (f:=fun w:Int=>xZ (eD m t) (j:Int) ((m:Nat):Int) w) (fun (i:Nat) (_:Unit)=>(i:Int)) m (fun i _=> ∀k,k<i→t.B k≠j)
  (fun r=>(∃i:Nat,r = .inr (i:Int)∧i<m∧t.B i=j)∨(r = .inl ()∧ ¬∃i,i<m∧t.B i=j))
  (fun i ai _ dw=>by
    unfold xZ
    by_cases c:t.B i=j
    ·right
     exact ⟨_,ed (by omega) (bL (by unfold eD;rw [cW];omega) (aB (x:=((t.B i:Nat):Int)) (by rw [Int.toNat_natCast];exact gO ai) (fc (by simp [c]) rfl))),.inl ⟨i,rfl,ai,c⟩⟩
    ·left
     refine ⟨(),ed (by omega) (bL (by unfold eD;rw [cW];omega) (aB (x:=((t.B i:Nat):Int)) (by rw [Int.toNat_natCast];exact gO ai) (gk (by simp;omega) (by rw [f5 (by omega)])))),fun k aX=> ?_⟩
     by_cases e:k=i
     ·rw [e];exact c
     ·exact dw k (by omega))
  (fun _ dw=>⟨_,by unfold xZ;exact d4 (by omega) rfl,.inr ⟨rfl,fun ⟨i,ai,e⟩=>dw i ai e⟩⟩) () (fun k aX=>by omega)
 rw [gP,show (eD m t).length=m from cW ..]
 rcases h with ⟨i,rfl,o,J⟩|⟨rfl,h⟩
 ·exact ⟨true,aB (x:=(i:Int)) (aB e rfl) (by simp),by simp only [true_iff];exact ⟨i,o,J⟩⟩
 ·exact ⟨false,aB (x:=(-1:Int)) (aB e rfl) rfl,by simp [h]⟩
theorem A4 {m N M:Nat}{h:Nat→Nat}{w:Rat}{t:ct}{eb:List (List bg)}(gg:kF m N M h w t eb):(gF m N h).all (wi eb)=true:=by
 rw [List.all_eq_true]
 intro x aa
 obtain ⟨i,ai,rfl⟩:=QU.1 aa
 simp only [wi]
 have o:=gg.row i ai
 have J:eb.getD (h i) []=gZ N w t i:=by rw [List.getD_eq_getElem?_getD,o];rfl
 rw [J,show (gZ N w t i).length=N+1 from cW ..]
 simp [(List.getElem?_eq_some_iff.1 o).1]
theorem vC {m N M:Nat}{h:Nat→Nat}{w:Rat}{t:ct}{eb:List (List bg)}(gg:kF m N M h w t eb):(gF m N h).map (mG eb)=a2 m (gZ N w t):=by
 unfold gF
 rw [ZY]
 exact fm fun i ai=>by
  have J:eb.getD (h i) []=gZ N w t i:=by rw [List.getD_eq_getElem?_getD,gg.row i ai];rfl
  simp only [mG]
  rw [J]
  exact List.take_of_length_le (Nat.le_of_eq (cW ..))
theorem Tu {m:Nat}{R:Nat→Rat}{t:ct}{j:Nat}:t.Gb m 1 (fun _=>R) j↔0<t.dE m R j:=acm (g:=fun _=>t.dE m R j)
theorem X1 {eo m N M:Nat}{A:Nat→Nat→Rat}(hm:m≤20)(fF:N<1000){h:Nat→Nat}(inj:∀i,i<m→ ∀k,k<m→h i=h k→i=k){w:Rat}{t:ct}(ok:gj eo m N A t)(f:oN m N w t)(R:Nat→Int)(an:∀j,j<N→ -100≤R j∧R j≤100)(dk:Nat→Bool)
 (aeG : ∀r s,pK m N 1 (fun _ j=>(R j:Rat)) (fun j=>dk j=true) t r s→tC m N w t r s) {eb:List (List bg)} (gg:kF m N M h w t eb) :
 ∃x,xo (N:Int) (bX w).cY (bX w).cB (gF m N h) eb (eD m t) (a2 N dk) (a2 N R) 0=some x ∧
  ((x = .inl (false,(bX w).cY,(bX w).cB,eb,eD m t)∧ ∀j,j<N→dk j=true→ ¬0<t.dE m (fun j=>(R j:Rat)) j) ∨
   (∃r s jk,x = .inl (true,(bX (pv w t r s)).cY,(bX (pv w t r s)).cB,jk,eD m (t.c7 r s))∧pK m N 1 (fun _ j=>(R j:Rat)) (fun j=>dk j=true) t r s∧kF m N M h (pv w t r s) (t.c7 r s) jk) ∨
   (x = .inr ()∧ ∃s,s<N∧dk s=true∧0<t.dE m (fun j=>(R j:Rat)) s∧ ∀i,i<m→ ¬0<t.T i s)):=by
 unfold xo
 refine te (f:=fun q:Int=>xa (N:Int) (bX w).cY (bX w).cB (gF m N h) eb (eD m t) (a2 N dk) (a2 N R) q) (fun (i:Nat) (_:Unit)=>(i:Int)) N
  (fun n _=> ∀j,j<n→dk j=true→ ¬0<t.dE m (fun j=>(R j:Rat)) j) _ (fun n a0 _ dw=> ?_) (fun _ dw=> ?_) () (fun j aC=>by omega)
 ·have next : ∀(hh:dk n=true→ ¬0<t.dE m (fun j=>(R j:Rat)) n),∀j,j<n+1→dk j=true→ ¬0<t.dE m (fun j=>(R j:Rat)) j:=fun hh j aC=>by
   by_cases c:j=n
   ·subst c;exact hh
   ·exact dw j (by omega)
  have g1:0≤((n:Nat):Int)∧((n:Nat):Int)<((a2 N dk).length:Nat):=by rw [cW];omega
  have g2:(a2 N dk)[(0+((n:Nat):Int).toNat)]? = some (dk n):=by rw [Int.toNat_natCast];exact jQ a0
  have hL:U ((n:Int)+1)=((n+1:Nat):Int):=f5 (by omega)
  unfold xa
  by_cases qE:dk n=true
  ·obtain ⟨b,gA,ho⟩:=OE (m:=m) (by omega) t n
   cases b with
   | true =>
    obtain ⟨i,ai,hj⟩:=ho.1 rfl
    left
    refine ⟨(),ed (by omega) (bL g1 (aB g2 (fc qE (aB gA (fc rfl (by rw [hL])))))),next fun _=> ?_⟩
    rw [← hj,ok.yn _ ai];grind
   | false =>
    have dN:=Q1 hm fF f R an ((⟨(bX w).cY,(bX w).cB⟩:bg)) rfl (N:Int) (a2 N dk) a0
    by_cases sV:0<t.dE m (fun j=>(R j:Rat)) n
    ·obtain ⟨q,aR,bb⟩:=X0 hm fF f ((⟨(bX w).cY,(bX w).cB⟩:bg)) (a2 N dk) (k:=n) (by omega)
     have b4 : ¬l8 (t.dE m (fun j=>(R j:Rat)) n)≤0:=by have:=uj.2 sV;omega
     right
     rcases bb with ⟨rfl,J⟩|⟨b,rfl,aY,mx,ak,ay⟩
     ·exact ⟨_,ed (by omega) (bL g1 (aB g2 (fc qE (aB gA (gk rfl (bL (A4 gg) (aB (by rw [vC gg];exact dN) (d4 b4 (aB (by rw [vC gg];exact aR) (ed (by decide) rfl)))))))))),.inr (.inr ⟨rfl,n,a0,qE,sV,J⟩)⟩
     ·have c8:pK m N 1 (fun _ j=>(R j:Rat)) (fun j=>dk j=true) t b n:=⟨a0,qE,Tu.2 sV,fun j aC cc dN=>dw j aC cc (Tu.1 dN),aY,mx,ak,ay⟩
      obtain ⟨jk,az,aH⟩:=Q2 hm fF inj f (aeG b n c8) gg (N:Int) (a2 N dk)
      exact ⟨_,ed (by omega) (bL g1 (aB g2 (fc qE (aB gA (gk rfl (bL (A4 gg) (aB (by rw [vC gg];exact dN) (d4 b4 (aB (by rw [vC gg];exact aR) (d4 (by omega) (aB az rfl))))))))))),.inr (.inl ⟨b,n,jk,rfl,c8,aH⟩)⟩
    ·left
     have b4:l8 (t.dE m (fun j=>(R j:Rat)) n)≤0:=by
      have : ¬0<l8 (t.dE m (fun j=>(R j:Rat)) n):=fun c=>sV (uj.1 c)
      omega
     exact ⟨(),ed (by omega) (bL g1 (aB g2 (fc qE (aB gA (gk rfl (bL (A4 gg) (aB (by rw [vC gg];exact dN) (ed b4 (by rw [hL]))))))))),next fun _=>sV⟩
  ·left
   have F1:dk n=false:=by simpa using qE
   exact ⟨(),ed (by omega) (bL g1 (aB g2 (gk F1 (by rw [hL])))),next fun c=>(qE c).elim⟩
 ·exact ⟨_,by unfold xa;exact d4 (by omega) rfl,.inl ⟨rfl,dw⟩⟩
def uB (N:Int)(q5:List ca)(free:List Bool)(obj:List Int)(s:Bool×List Int×List (List bg)×List Int):Option ((Bool×List Int×List (List bg)×List Int)⊕((Bool×List Int×List (List bg)×List Int)⊕(Bool×List Int×List (List bg)×List Int))) :=
 match xo N s.1 s.2.1 q5 s.2.2.1 s.2.2.2 free obj 0 with
 | none=>none
 | some (.inl (true,bR))=>some (.inl bR)
 | some (.inl (false,bR))=>some (.inr (.inl bR))
 | some (.inr ())=>some (.inr (.inr s))
theorem Zv {N:Int}{q5:List ca}{free:List Bool}{obj:List Int}: ∀s r,iter (uB N q5 free obj) s=some r→C4 N q5 free obj true s.1 s.2.1 s.2.2.1 s.2.2.2=some r:=by
 unfold C4
 apply iter.partial_correctness (uB N q5 free obj) (fun s r=>iter (fun w:Bool×Bool×(List Int)×(List (List bg))×(List Int)=>uY N q5 free obj w.1 w.2.1 w.2.2.1 w.2.2.2.1 w.2.2.2.2) (true,s.1,s.2.1,s.2.2.1,s.2.2.2)=some r)
 intro it ih s r ap
 cases aa:xo N s.1 s.2.1 q5 s.2.2.1 s.2.2.2 free obj 0 with
 | none=>unfold uB at ap;rw [aa] at ap;simp at ap
 | some x =>
  have hm:uY N q5 free obj true s.1 s.2.1 s.2.2.1 s.2.2.2=match x with
   | .inl f7=>(some (.inl (f7.1,f7.2.1,f7.2.2.1,f7.2.2.2.1,f7.2.2.2.2)))
   | .inr f7=>(some (.inr (.inr (s.1,s.2.1,s.2.2.1,s.2.2.2)))):=by
   unfold uY
   refine fc rfl ?_
   cases x with
   | inl a=>exact aB aa rfl
   | inr a=>exact aB aa rfl
  unfold uB at ap
  rw [aa] at ap
  rw [iter]
  simp only
  rw [hm]
  match x,ap with
  | .inl (true,bR),ap=>exact ih _ _ ap
  | .inl (false,bR),ap =>
   simp at ap
   subst ap
   show iter _ (false,bR.1,bR.2.1,bR.2.2.1,bR.2.2.2)=_
   rw [iter]
   simp only
   unfold uY
   rfl
  | .inr (),ap =>
   simp at ap
   subst ap
   rfl
theorem Zw {eo m N M:Nat}{A:Nat→Nat→Rat}(hm:m≤20)(fF:N<1000){h:Nat→Nat}{w:Rat}{t:ct}(ok:gj eo m N A t)(f:oN m N w t)(R:Nat→Int)(an:∀j,j<N→ -100≤R j∧R j≤100)(dk:Nat→Bool){eb:List (List bg)}(gg:kF m N M h w t eb):
 C5 (N:Int) (bX w).cY (bX w).cB (gF m N h) eb (eD m t) (a2 N R) 0 (a2 N dk)=some (a2 N fun j=>dk j && !decide (t.dE m (fun j=>(R j:Rat)) j<0)):=by
 unfold C5
 obtain ⟨s,e,-⟩:=iv (f:=fun q:Int×List Bool=>xb (N:Int) (bX w).cY (bX w).cB (gF m N h) eb (eD m t) (a2 N R) q.1 q.2)
  (fun (i:Nat) (_:Unit)=>((i:Int),a2 N fun j=>if j<i then dk j && !decide (t.dE m (fun j=>(R j:Rat)) j<0) else dk j)) N (fun _ _=>True) (fun _=>a2 N fun j=>dk j && !decide (t.dE m (fun j=>(R j:Rat)) j<0))
  (fun n a0 _ _=>by
    refine ⟨(),?_,trivial⟩
    have same:dk n=(dk n && !decide (t.dE m (fun j=>(R j:Rat)) n<0))→(U ((n:Int)+1),a2 N fun j=>if j<n then dk j && !decide (t.dE m (fun j=>(R j:Rat)) j<0) else dk j)=(((n+1:Nat):Int),a2 N fun j=>if j<n+1 then dk j && !decide (t.dE m (fun j=>(R j:Rat)) j<0) else dk j):=fun he=>by
     rw [f5 (by omega)]
     congr 1
     refine fm fun j _=> ?_
     by_cases c:j=n
     ·subst c;rw [if_neg (by omega),if_pos (by omega)];exact he
     ·by_cases c2:j<n
      ·rw [if_pos c2,if_pos (by omega)]
      ·rw [if_neg c2,if_neg (by omega)]
    have g1 : ∀F:Nat→Bool,0≤((n:Nat):Int)∧((n:Nat):Int)<((a2 N F).length:Nat):=fun F=>by rw [cW];omega
    have g2:(a2 N fun j=>if j<n then dk j && !decide (t.dE m (fun j=>(R j:Rat)) j<0) else dk j)[(0+((n:Nat):Int).toNat)]? = some (dk n):=by rw [Int.toNat_natCast,jQ a0,if_neg (by omega)]
    unfold xb
    by_cases qE:dk n=true
    ·obtain ⟨b,gA,ho⟩:=OE (m:=m) (by omega) t n
     cases b with
     | true =>
      obtain ⟨i,ai,hj⟩:=ho.1 rfl
      refine ed (by simp only;omega) (bL (g1 _) (aB g2 (fc qE (aB gA (fc rfl ?_)))))
      simp only
      rw [same]
      rw [← hj,ok.yn _ ai,decide_eq_false (by grind)];simp
     | false =>
      have dN:=Q1 hm fF f R an ((⟨(bX w).cY,(bX w).cB⟩:bg)) rfl (N:Int) (a2 N fun j=>if j<n then dk j && !decide (t.dE m (fun j=>(R j:Rat)) j<0) else dk j) a0
      have b4:l8 (t.dE m (fun j=>(R j:Rat)) n)<0↔t.dE m (fun j=>(R j:Rat)) n<0:=by
       unfold l8
       by_cases c:t.dE m (fun j=>(R j:Rat)) n=0
       ·rw [if_pos c,c];constructor
        ·intro h;omega
        ·intro h;grind
       ·rw [if_neg c]
        by_cases c2:t.dE m (fun j=>(R j:Rat)) n<0
        ·rw [if_pos c2];simp [c2]
        ·rw [if_neg c2];constructor
         ·intro h;omega
         ·intro h;exact (c2 h).elim
      by_cases sV:t.dE m (fun j=>(R j:Rat)) n<0
      ·refine ed (by simp only;omega) (bL (g1 _) (aB g2 (fc qE (aB gA (gk rfl (bL (A4 gg) (aB (by rw [vC gg];exact dN) (ed (b4.2 sV) (bL (by rw [cW,Int.toNat_natCast];omega) ?_)))))))))
       simp only
       rw [f5 (by omega),Int.toNat_natCast,Nat.zero_add,kC]
       congr 3
       refine fm fun j _=> ?_
       by_cases c:j=n
       ·subst c;rw [if_pos rfl,if_pos (by omega),decide_eq_true sV];simp
       ·rw [if_neg c]
        by_cases c2:j<n
        ·rw [if_pos c2,if_pos (by omega)]
        ·rw [if_neg c2,if_neg (by omega)]
      ·refine ed (by simp only;omega) (bL (g1 _) (aB g2 (fc qE (aB gA (gk rfl (bL (A4 gg) (aB (by rw [vC gg];exact dN) (d4 (fun c=>sV (b4.1 c)) ?_))))))))
       simp only
       rw [same]
       rw [decide_eq_false sV];simp
    ·have F1:dk n=false:=by simpa using qE
     refine ed (by simp only;omega) (bL (g1 _) (aB g2 (gk F1 ?_)))
     simp only
     rw [same]
     rw [F1];simp)
  (fun _ _=>by
    unfold xb
    refine d4 (by simp) ?_
    simp only
    congr 2
    exact fm fun j aC=>by rw [if_pos aC]) () trivial
 have e0:(a2 N fun j=>if j<0 then dk j && !decide (t.dE m (fun j=>(R j:Rat)) j<0) else dk j)=a2 N dk:=fm fun j _=>by rw [if_neg (by omega)]
 rw [e0] at e
 exact e
theorem OW {eo m N M:Nat}{A:Nat→Nat→Rat}(hm:m≤20)(fF:N<1000){h:Nat→Nat}(inj:∀i,i<m→ ∀k,k<m→h i=h k→i=k)(R:Nat→Int)(an:∀j,j<N→ -100≤R j∧R j≤100)(dk:Nat→Bool)
 (Inv:Rat→ct→Prop) (inv : ∀w t,Inv w t→gj eo m N A t∧t.lb m N∧oN m N w t)
 (g7 : ∀w t r s,Inv w t→pK m N 1 (fun _ j=>(R j:Rat)) (fun j=>dk j=true) t r s→tC m N w t r s∧Inv (pv w t r s) (t.c7 r s)) {w:Rat} {t:ct} (dw:Inv w t) {eb:List (List bg)} (gg:kF m N M h w t eb) :
 ∃b bJ dH jk kI,sW (bX w).cY (bX w).cB (N:Int) (gF m N h) eb (eD m t) (a2 N dk) (a2 N R)=some (b,(bX bJ).cY,(bX bJ).cB,jk,eD m dH,a2 N kI)∧Inv bJ dH∧kF m N M h bJ dH jk ∧
  ((b=true∧(∀j,j<N→dk j=true→ ¬0<dH.dE m (fun j=>(R j:Rat)) j)∧kI=fun j=>dk j && !decide (dH.dE m (fun j=>(R j:Rat)) j<0))∨(b=false∧ ∃s,s<N∧dk s=true∧0<dH.dE m (fun j=>(R j:Rat)) s∧ ∀i,i<m→ ¬0<dH.T i s)):=by
 obtain ⟨ok,mb,CE⟩:=inv w t dw
 obtain ⟨x,dO,dH,e,-,-,-,bJ,jk,o,J,ak⟩:=XL (eo:=eo) (m:=m) (N:=N) (K:=1) (A:=A) (obj:=fun _ j=>(R j:Rat)) (b0:=fun j=>dk j=true)
  (f:=uB (N:Int) (gF m N h) (a2 N dk) (a2 N R))
  (fun s t=> ∃w eb,s=((bX w).cY,(bX w).cB,eb,eD m t)∧Inv w t∧kF m N M h w t eb)
  (fun s x t=> ∃w eb,Inv w t∧kF m N M h w t eb∧((x = .inl ((bX w).cY,(bX w).cB,eb,eD m t)∧ ∀j,j<N→dk j=true→ ¬0<t.dE m (fun j=>(R j:Rat)) j) ∨
    (x = .inr ((bX w).cY,(bX w).cB,eb,eD m t)∧ ∃s,s<N∧dk s=true∧0<t.dE m (fun j=>(R j:Rat)) s∧ ∀i,i<m→ ¬0<t.T i s)))
  (fun s t c3 ok _=>by
    obtain ⟨w,eb,rfl,dw,gg⟩:=c3
    obtain ⟨x,e,aa⟩:=X1 hm fF inj ok (inv w t dw).2.2 R an dk (fun r s b=>(g7 w t r s dw b).1) gg
    rcases aa with ⟨rfl,aa⟩|⟨r,s,jk,rfl,c8,CB⟩|⟨rfl,aa⟩
    ·left
     exact ⟨_,by unfold uB;simp only;rw [e],w,eb,dw,gg,.inl ⟨rfl,aa⟩⟩
    ·right
     exact ⟨_,r,s,by unfold uB;simp only;rw [e],c8,pv w t r s,jk,rfl,(g7 w t r s dw c8).2,CB⟩
    ·left
     exact ⟨_,by unfold uB;simp only;rw [e],w,eb,dw,gg,.inr ⟨rfl,aa⟩⟩)
  (a:=((bX w).cY,(bX w).cB,eb,eD m t)) (t:=t) ⟨w,eb,rfl,dw,gg⟩ ok mb
 have aH:=Zv _ _ e
 obtain ⟨kG,agA,adV⟩:=inv bJ dH o
 rcases ak with ⟨rfl,ak⟩|⟨rfl,ak⟩
 ·refine ⟨true,bJ,dH,jk,_,?_,o,J,.inl ⟨rfl,ak,rfl⟩⟩
  unfold sW
  exact aB aH (aB (Zw hm fF kG adV R an dk J) rfl)
 ·refine ⟨false,bJ,dH,jk,dk,?_,o,J,.inr ⟨rfl,ak⟩⟩
  unfold sW
  exact aB aH rfl
def hd (m:Nat)(A:Nat→Nat→Rat)(t:ct):Rat:=if 0<t.D m A then t.D m A else -(t.D m A)
theorem aaV {m N:Nat}{A:Nat→Nat→Rat}{t:ct}(h:t.D m A≠0):0<hd m A t:=by
 unfold hd;split<;>grind
theorem Fc {m K:Nat}{A:Nat→Nat→Rat}{t:ct}{x:Rat}(h:dG K (x*t.D m A)):dG K (x*hd m A t):=by
 unfold hd;split
 ·exact h
 ·have:=h.neg
  rw [show x * -(t.D m A) = -(x*t.D m A) by grind];exact this
theorem pR.q3 {m N:Nat}{A:Nat→Nat→Rat}(s:Small m N A){t:ct}(h:pR m N A t):oN m N (hd m A t) t where
 pos:=aaV (N:=N) h.wS
 hw:=by
  have o:dG ea (1*t.D m A):=by rw [Rat.one_mul];exact h.adM s
  have:=Fc o
  rw [Rat.one_mul] at this
  exact this.mono (by generalize ea=q;omega)
 ia:=fun i ai j aC=>Fc (h.adN s ai aC)
 hj:=h.ok.j8
theorem pR.vU {m N:Nat}{A:Nat→Nat→Rat}(s:Small m N A){t:ct}(h:pR m N A t){r k:Nat}(ap:r<m)(aX:k<N)(al:t.T r k≠0):tC m N (hd m A t) t r k where
 ap:=ap
 aX:=aX
 al:=al
 zM:=fun i ai j aC=>by
  have kG:=h.ok.c7 ap aX al
  have o:dG ea ((t.c7 r k).T i j*(t.c7 r k).D m A):=by
   rw [← kG.wK ai aC]
   refine dG.mono (yW fun dJ m9 c aJ=> ?_) (Fb▸AQ (by omega) s.hm)
   simp only [gl]
   split
   ·exact s.p7 c aJ j aC
   ·exact s.p7 c aJ _ (Nat.le_of_lt (kG.j8 dJ m9))
  rw [h.ok.Bs ap aX] at o
  unfold hd
  split
  ·exact o
  ·have:=o.neg
   rw [show (t.c7 r k).T i j*(t.T r k * -(t.D m A)) = -((t.c7 r k).T i j*(t.T r k*t.D m A)) by grind];exact this
theorem KM {m N:Nat}{A:Nat→Nat→Rat}{t:ct}(h:gj m m N A t)(bo:t.D m A≠0){r k:Nat}(ap:r<m)(aX:k<N)(al:t.T r k≠0):pv (hd m A t) t r k=hd m A (t.c7 r k):=by
 have e:=h.Bs ap aX
 unfold pv hd
 rw [e]
 by_cases bN:0<t.T r k<;>by_cases c2:0<t.D m A
 ·rw [if_pos bN,if_pos c2,if_pos (Rat.mul_pos bN c2)]
 ·have:=Rat.mul_pos bN (show 0 < -(t.D m A) by grind)
  rw [if_pos bN,if_neg c2,if_neg (by grind)];grind
 ·have:=Rat.mul_pos (show 0 < -(t.T r k) by grind) c2
  rw [if_neg bN,if_pos c2,if_neg (by grind)]
 ·have:=Rat.mul_pos (show 0 < -(t.T r k) by grind) (show 0 < -(t.D m A) by grind)
  rw [if_neg bN,if_neg c2,if_pos (by grind)];grind
def im (h:Nat→Nat)(t:ct):ct:=⟨fun i j=>t.T (h i) j,fun i=>t.B (h i)⟩
theorem AW {h:Nat→Nat}{t:ct}{r k i:Nat}(fx:h i=h r→i=r):(∀j,((im h t).c7 r k).T i j=(im h (t.c7 (h r) k)).T i j)∧((im h t).c7 r k).B i=(im h (t.c7 (h r) k)).B i:=by
 simp only [ct.c7,im]
 by_cases c:i=r
 ·subst c;simp
 ·have:h i≠h r:=fun e=>c (fx e)
  simp [c,this]
theorem Pr {α:Type}{m i:Nat}(ai:i<m)(f:Nat→α):(a2 m f).take (i-0)++((a2 m f).drop (0+(i+1))).take (m-(i+1))=a2 (m-1) (skip i f):=by
 apply List.ext_getElem?
 intro j
 rw [Nat.sub_zero,Nat.zero_add]
 have aL:((a2 m f).take i).length=i:=by rw [List.length_take,cW];omega
 by_cases c:j<i
 ·rw [List.getElem?_append_left (by omega),List.getElem?_take,if_pos c,gO (by omega),gO (by omega)]
  simp only [skip];rw [if_pos c]
 ·rw [List.getElem?_append_right (by omega),aL,List.getElem?_take,List.getElem?_drop]
  by_cases c2:j<m-1
  ·rw [if_pos (by omega),gO (by omega),gO c2]
   simp only [skip];rw [if_neg c];congr 2;omega
  ·rw [if_neg (by omega)]
   symm
   rw [List.getElem?_eq_none_iff,cW];omega
theorem Xt {m N M n:Nat}(fF:N<1000)(a0:n≤N){h:Nat→Nat}{w:Rat}{t:ct}(f:oN m N w t){eb:List (List bg)}(gg:kF m N M h w t eb){i:Nat}(ai:i<m)(gA:Bool)(ho:List Int)(aQ:Int)(bb:List Int)(b7:List Bool):
 ∃k:Nat,Db (n:Int) (i:Int) gA ho aQ (gF m N h) eb bb b7 0=some (k:Int)∧k≤n∧(k<n→t.T i k≠0)∧ ∀j,j<k→t.T i j=0:=by
 unfold Db
 obtain ⟨r,e,k,rfl,o,J,ak⟩:=te (f:=fun q:Int=>xk (n:Int) (i:Int) gA ho aQ (gF m N h) eb bb b7 q) (fun (c:Nat) (_:Unit)=>(c:Int)) n (fun c _=> ∀j,j<c→t.T i j=0)
  (fun r=> ∃k:Nat,r=(k:Int)∧k≤n∧(k<n→t.T i k≠0)∧ ∀j,j<k→t.T i j=0)
  (fun c aJ _ dw=>by
    have hw:=f.pos
    have b4:=uk ((f.ia i ai c (by omega)).mono (tB (by have:=qT;generalize ea=q at *;omega)))
    unfold xk
    by_cases Gi:t.T i c=0
    ·left
     refine ⟨(),ed (by omega) (bL (by unfold gF;rw [cW];omega) (aB (x:=some (h i,N+1)) (by rw [Int.toNat_natCast];exact jQ ai) (aB (x:=(h i,N+1)) rfl (aB (gg.row i ai) (bL (by simp only;omega) (aB (x:=bX (t.T i c*w)) (by rw [Int.toNat_natCast];exact jQ (by omega)) (aB b4 (fc (by rw [yP hw,AV.2 Gi];rfl) (by rw [f5 (by omega)]))))))))),fun j aC=> ?_⟩
     by_cases e:j=c
     ·rw [e];exact Gi
     ·exact dw j (by omega)
    ·right
     exact ⟨_,ed (by omega) (bL (by unfold gF;rw [cW];omega) (aB (x:=some (h i,N+1)) (by rw [Int.toNat_natCast];exact jQ ai) (aB (x:=(h i,N+1)) rfl (aB (gg.row i ai) (bL (by simp only;omega) (aB (x:=bX (t.T i c*w)) (by rw [Int.toNat_natCast];exact jQ (by omega)) (aB b4 (gk (by rw [yP hw];exact uH (fun c=>Gi (AV.1 c))) rfl)))))))),c,rfl,by omega,fun _=>Gi,dw⟩)
  (fun _ dw=>⟨_,by unfold xk;exact d4 (by omega) rfl,n,rfl,Nat.le_refl _,fun c=>by omega,dw⟩) () (fun j aC=>by omega)
 exact ⟨k,e,o,J,ak⟩
structure nV (m n N:Nat) (A:Nat→Nat→Rat) (t:ct) (a6:Nat) (h:Nat→Nat):Prop where
 inv:pR m N A t
 z : ∀i,i<m→n≤t.B i→t.T i N=0
 le:a6≤m
 lt : ∀i,i<a6→h i<m
 inj : ∀i,i<a6→ ∀k,k<a6→h i=h k→i=k
 dead : ∀d,d<m→(∀i,i<a6→h i≠d)→n≤t.B d∧ ∀j,j<n→t.T d j=0
theorem nV.q3 {m n N a6:Nat}{A:Nat→Nat→Rat}{t:ct}{h:Nat→Nat}(s:Small m N A)(a:nV m n N A t a6 h):oN a6 N (hd m A t) (im h t) :=
 have f:=a.inv.q3 s
 ⟨f.pos,f.hw,fun i ai j aC=>f.ia (h i) (a.lt i ai) j aC,fun i ai=>f.hj (h i) (a.lt i ai)⟩
theorem nV.vU {m n N a6:Nat}{A:Nat→Nat→Rat}{t:ct}{h:Nat→Nat}(s:Small m N A)(a:nV m n N A t a6 h){r k:Nat}(ap:r<a6)(aX:k<N)(al:t.T (h r) k≠0):tC a6 N (hd m A t) (im h t) r k :=
 have f:=a.inv.vU s (a.lt r ap) aX al
 ⟨ap,aX,al,fun i ai j aC=>by
  rw [(AW (t:=t) (k:=k) (a.inj i ai r ap)).1 j]
  exact f.zM (h i) (a.lt i ai) j aC⟩
theorem nV.c7 {m n N a6:Nat}{A:Nat→Nat→Rat}{t:ct}{h:Nat→Nat}(Mu:n≤N)(a:nV m n N A t a6 h){r k:Nat}(ap:r<a6)(aX:k<n)(aY:n≤t.B (h r))(al:t.T (h r) k≠0):nV m n N A (t.c7 (h r) k) a6 h:=by
 have cv:=a.z (h r) (a.lt r ap) aY
 have ft : ∀i,(t.c7 (h r) k).T i N=t.T i N:=fun i=>by
  simp only [ct.c7]
  split
  ·rename_i e;rw [e,cv];grind
  ·rw [cv];grind
 refine ⟨⟨a.inv.ok.c7 (a.lt r ap) (by omega) al,fun i ai=>by rw [ft];exact a.inv.mb i ai,?_⟩,fun i ai hj=> ?_,a.le,a.lt,a.inj,fun d bo hh=> ?_⟩
 ·rw [a.inv.ok.Bs (a.lt r ap) (by omega)]
  have:=a.inv.wS
  grind
 ·rw [ft]
  simp only [ct.c7] at hj
  by_cases c:i=h r
  ·rw [if_pos c] at hj;omega
  ·rw [if_neg c] at hj;exact a.z i ai hj
 ·obtain ⟨o,J⟩:=a.dead d bo hh
  have cM:d≠h r:=fun e=>hh r ap e.symm
  simp only [ct.c7,if_neg cM]
  refine ⟨o,fun j aC=> ?_⟩
  rw [J j aC,J k aX];grind
theorem YF {m n N:Nat}{A:Nat→Nat→Rat}(s:Small m N A)(fF:N<1000)(Mu:n≤N)(free:List Bool){t:ct}(cq:pR m N A t)(cv:∀i,i<m→n≤t.B i→t.T i N=0){eb:List (List bg)}(gg:kF m N m (fun i=>i) (hd m A t) t eb):
 ∃dH a6 h jk,z3 (n:Int) (bX (hd m A t)).cY (bX (hd m A t)).cB (N:Int) (gF m N fun i=>i) eb (eD m t) free=some ((bX (hd m A dH)).cY,(bX (hd m A dH)).cB,gF a6 N h,jk,eD a6 (im h dH)) ∧
  nV m n N A dH a6 h∧(∀i,i<a6→dH.B (h i)<n)∧kF a6 N m h (hd m A dH) (im h dH) jk:=by
 have hm:=s.hm
 unfold z3 Hq
 obtain ⟨x,e,dH,a6,h,jk,rfl,o,J,ak⟩:=kB (f:=fun w:Int×Bool×(List Int)×(List ca)×(List (List bg))×(List Int)=>zW (n:Int) (N:Int) free w.1 w.2.1 w.2.2.1 w.2.2.2.1 w.2.2.2.2.1 w.2.2.2.2.2)
  (fun w=> ∃(i a6:Nat) (h:Nat→Nat) (t:ct) (p:List (List bg)),w=((i:Int),(bX (hd m A t)).cY,(bX (hd m A t)).cB,gF a6 N h,p,eD a6 (im h t))∧i≤a6∧nV m n N A t a6 h∧(∀q,q<i→t.B (h q)<n)∧kF a6 N m h (hd m A t) (im h t) p)
  (fun w=>w.2.2.2.1.length-w.1.toNat)
  (fun x=> ∃dH a6 h jk,x=((bX (hd m A dH)).cY,(bX (hd m A dH)).cB,gF a6 N h,jk,eD a6 (im h dH))∧nV m n N A dH a6 h∧(∀i,i<a6→dH.B (h i)<n)∧kF a6 N m h (hd m A dH) (im h dH) jk)
  (fun w hw=>by
    obtain ⟨i,a6,h,t,p,rfl,ai,bH,bi,al⟩:=hw
    have kH:=bH.le
    have tO:(gF a6 N h).length=a6:=cW ..
    have Mv:(eD a6 (im h t)).length=a6:=cW ..
    simp only
    unfold zW
    by_cases c:i<a6
    ·left
     have g1:0≤(i:Int)∧(i:Int)<((eD a6 (im h t)).length:Nat):=by rw [Mv];omega
     have g2:(eD a6 (im h t))[(0+((i:Int)).toNat)]? = some ((t.B (h i):Nat):Int):=by rw [Int.toNat_natCast];exact jQ c
     by_cases Gj:t.B (h i)<n
     ·refine ⟨(((i+1:Nat):Int),(bX (hd m A t)).cY,(bX (hd m A t)).cB,gF a6 N h,p,eD a6 (im h t)),ed (by rw [tO];omega) (bL g1 (aB g2 (ed (by omega) (by rw [f5 (by omega)])))),⟨i+1,a6,h,t,p,rfl,by omega,bH,fun q nB=> ?_,al⟩,by simp only [tO];omega⟩
      by_cases e:q=i
      ·rw [e];exact Gj
      ·exact bi q (by omega)
     ·obtain ⟨k,kc,jz,ma,MU⟩:=Xt fF Mu (bH.q3 s) al c (bX (hd m A t)).cY (bX (hd m A t)).cB (N:Int) (eD a6 (im h t)) free
      by_cases uW:k<n
      ·have Mw:t.T (h i) k≠0:=ma uW
       obtain ⟨ka,az,aH⟩:=Q2 (by omega) fF bH.inj (bH.q3 s) (bH.vU s c (by omega) Mw) al (N:Int) free
       have uV:pv (hd m A t) (im h t) i k=hd m A (t.c7 (h i) k):=KM bH.inv.ok bH.inv.wS (bH.lt i c) (by omega) Mw
       have aeH:eD a6 ((im h t).c7 i k)=eD a6 (im h (t.c7 (h i) k)):=fm fun q nB=>by
        have:=(AW (t:=t) (k:=k) (bH.inj q nB i c)).2
        rw [this]
       rw [uV,aeH] at az
       rw [uV] at aH
       refine ⟨(((i+1:Nat):Int),(bX (hd m A (t.c7 (h i) k))).cY,(bX (hd m A (t.c7 (h i) k))).cB,gF a6 N h,ka,eD a6 (im h (t.c7 (h i) k))),ed (by rw [tO];omega) (bL g1 (aB g2 (d4 (by omega) (aB kc (ed (by omega) (aB az (by rw [f5 (by omega)]))))))),⟨i+1,a6,h,t.c7 (h i) k,ka,rfl,by omega,bH.c7 Mu c uW (by omega) Mw,fun q nB=> ?_,aH.len,fun q nB=> ?_⟩,by simp only [tO];omega⟩
       ·simp only [ct.c7]
        split
        ·exact uW
        ·rename_i cM
         have:q≠i:=fun e=>cM (by rw [e])
         exact bi q (by omega)
       ·rw [aH.row q nB]
        congr 1
        exact fm fun j _=>by rw [(AW (t:=t) (k:=k) (bH.inj q nB i c)).1 j]
      ·have agB:k=n:=by omega
       have Cy:U ((i:Int)+1)=((i+1:Nat):Int):=f5 (by omega)
       have Mk:(((gF a6 N h).drop (0+(i+1))).take (a6-(i+1))).length=a6-(i+1):=by rw [List.length_take,List.length_drop,tO];omega
       have FJ:(((eD a6 (im h t)).drop (0+(i+1))).take (a6-(i+1))).length=a6-(i+1):=by rw [List.length_take,List.length_drop,Mv];omega
       have b3:(gF a6 N h).take (i-0)++((gF a6 N h).drop (0+(i+1))).take (a6-(i+1))=gF (a6-1) N (skip i h):=Pr c _
       have dT:(eD a6 (im h t)).take (i-0)++((eD a6 (im h t)).drop (0+(i+1))).take (a6-(i+1))=eD (a6-1) (im (skip i h) t):=Pr c _
       refine ⟨((i:Int),(bX (hd m A t)).cY,(bX (hd m A t)).cB,gF (a6-1) N (skip i h),p,eD (a6-1) (im (skip i h) t)),ed (by rw [tO];omega) (bL g1 (aB g2 (d4 (by omega) (aB kc (d4 (by omega) ?_))))),⟨i,a6-1,skip i h,t,p,rfl,by omega,⟨bH.inv,bH.z,by omega,fun q nB=> ?_,fun q nB bb zg e=> ?_,fun d bo hh=> ?_⟩,fun q nB=> ?_,al.len,fun q nB=> ?_⟩,?_⟩
       ·rw [Cy,Int.toNat_natCast,Int.toNat_natCast,tO,Mv,Mk,FJ,b3,dT]
        exact bL (by omega) (bL (by omega) (bL (by omega) (bL (by omega) (bL (by omega) (bL (by omega) (bL (by omega) (bL (by omega) (bL (by omega) (bL (by omega) (bL (by omega) (bL (by omega) rfl)))))))))))
       ·simp only [skip];split<;>exact bH.lt _ (by omega)
       ·simp only [skip] at e
        have:=bH.inj _ (by split<;>omega) _ (by split<;>omega) e
        split at this<;>split at this<;>omega
       ·by_cases TN:d=h i
        ·rw [TN]
         exact ⟨by omega,fun j aC=>MU j (by omega)⟩
        ·refine bH.dead d bo fun q nB=> ?_
         by_cases bN:q<i
         ·have:=hh q (by omega);simp only [skip] at this;rw [if_pos bN] at this;exact this
         ·by_cases c2:q=i
          ·rw [c2];exact fun e=>TN e.symm
          ·have:=hh (q-1) (by omega);simp only [skip] at this;rw [if_neg (by omega),show q-1+1=q by omega] at this;exact this
       ·simp only [skip];rw [if_pos nB];exact bi q nB
       ·simp only [skip]
        by_cases bN:q<i
        ·rw [if_pos bN,al.row q (by omega)];congr 1
         exact fm fun j _=>by simp only [im,skip];rw [if_pos bN]
        ·rw [if_neg bN,al.row (q+1) (by omega)];congr 1
         exact fm fun j _=>by simp only [im,skip];rw [if_neg bN]
       ·simp only [tO,show (gF (a6-1) N (skip i h)).length=a6-1 from cW ..];omega
    ·right
     have adW:i=a6:=by omega
     subst adW
     exact ⟨_,d4 (by rw [tO];omega) rfl,t,i,h,p,rfl,bH,bi,al⟩)
  ((0:Int),(bX (hd m A t)).cY,(bX (hd m A t)).cB,gF m N (fun i=>i),eb,eD m t)
  ⟨0,m,fun i=>i,t,eb,rfl,by omega,⟨cq,cv,Nat.le_refl _,fun i ai=>ai,fun i _ k _ e=>e,fun d bo hh=>(hh d bo rfl).elim⟩,fun q bi=>by omega,gg.len,gg.row⟩
 exact ⟨dH,a6,h,jk,aB e rfl,o,J,ak⟩
theorem Q3:(⟨false,([]:List Int)⟩:bg)=bX 0:=by
 show _=hg (0:Rat).num
 rw [show (0:Rat).num=0 from rfl]
 unfold hg
 rw [show L ((0:Int).natAbs:Int)=[] from uu.2 (by simp)];rfl
theorem Kt {α:Type}(l:List α)(x:α):(l++[x])[l.length]? = some x:=by simp
theorem yQ {α:Type}(l:List α)(x y:α):(l++[x]).set l.length y=l++[y]:=by simp
theorem Q4 {p:nt}{m n:Nat}{a:Nat→Nat→Int}{b:Nat→Int}(h:oa p m n a b){i:Nat}(ai:i<m):s3 i p.kU p.j4 p.fX p.fY p.jt=some (i*n,n):=by
 have hm:=h.hm
 have a0:=h.a0
 have o:i*n≤20*40:=Nat.mul_le_mul (by omega) a0
 have J:(i+1)*n≤20*40:=Nat.mul_le_mul (by omega) a0
 have ak:(i+1)*n≤m*n:=Nat.mul_le_mul_right _ ai
 have az:U ((i:Int)*p.j4)=((i*n:Nat):Int):=by
  rw [h.gz,← Int.natCast_mul,cX (by omega) (by omega)]
 have aH:U (U ((i:Int)+1)*p.j4)=(((i+1)*n:Nat):Int):=by
  rw [h.gz,f5 (by omega),← Int.natCast_mul,cX (by omega) (by omega)]
 have ay:(i+1)*n=i*n+n:=Nat.succ_mul i n
 unfold s3
 rw [az,aH,Int.toNat_natCast,Int.toNat_natCast,h.oY]
 refine bL (by omega) (bL (by omega) (bL ⟨by omega,ak⟩ ?_))
 rw [show 0+i*n=i*n by omega,show (i+1)*n-i*n=n by omega]
end Go.Proofs.YtgfpnhmcmgnepaeGreat
