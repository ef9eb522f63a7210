/- Lemmas, plain functions of the program, and what they answer. No condition. -/
import Derived.Test.YtmmbmjbpfklkcaaGreatMD
namespace Go.Proofs.YtmmbmjbpfklkcaaGreat
set_option linter.unusedVariables false
set_option linter.unusedSimpArgs false
open Go Go.VL
theorem hN {n:Nat} (h:n≤10000000):U ((n:Int)+1)=((n+1:Nat):Int):=by rw [cf (by omega) (by omega)];rfl
theorem mz {n:Nat} (h:n≤10000000):U ((n:Int)-1)=(n:Int)-1:=cf (by omega) (by omega)
theorem DN {n:Nat} (h:n≤10000000):U (((n+1:Nat):Int)-1)=n:=by rw [cf (by omega) (by omega)];omega
theorem ft (l:List Int):len_ I l=l.length:=dM _ l
theorem PH {l:List Int} {k:Nat} {x:Int} (af:l[k]? = some x) (bf:l.length≤5000000):pz l ((k+1:Nat):Int)=some (if x=0 then .inl (k:Int) else .inr ((k+1:Nat):Int)):=by
 have bA:=dT af
 unfold pz
 rw [DN (by omega),if_pos (by simp),if_pos (by omega),Int.toNat_natCast,af]
 by_cases h:x=0<;>simp [h]
theorem nA {l:List Int} (aM:b0 l) (bf:l.length≤5000000):mc l=some (L (V l)):=by
 have : ∃r,iter (fun w:Int=>pz l w) (l.length:Int)=some r∧ ∃k:Nat,r=k∧k≤l.length∧l.take k=L (V l):=by
  refine gg (c6:=fun w:Int=> ∃k:Nat,w=k∧k≤l.length∧V (l.take k)=V l) (m:=fun w:Int=>w.toNat) _ ?_ _ ⟨l.length,rfl,by omega,by simp⟩
  rintro _ ⟨k,rfl,bA,a1⟩
  cases k with
  | zero =>
   refine .inr ⟨0,by simp [pz],0,rfl,by omega,?_⟩
   rw [← a1]
   simp [V,lO]
  | succ k =>
   have af:=List.getElem?_eq_getElem (show k<l.length by omega)
   rw [PH af bf]
   by_cases h:l[k]=0
   ·refine .inl ⟨_,by simp [h],⟨k,rfl,by omega,?_⟩,by omega⟩
    have:=n5 af
    rw [h] at this
    simp at this
    omega
   ·refine .inr ⟨_,by simp [h],k+1,rfl,bA,?_⟩
    rcases dF.Dq aM k (fun x h1=>by rw [af] at h1;simp at h1;omega) with h1|h1
    ·exact o0 h1 a1
    ·omega
 obtain ⟨r,ao,k,rfl,h1,h2⟩:=this
 unfold mc Ca
 rw [ft,ao]
 simp [h1,h2]
theorem sX {l:List Int} (aM:b0 l) (bf:l.length≤5000000):mh l=some (L (V l)):=by
 have : ∃r,iter (fun w:List Int=>r4 w) l=some r∧r=L (V l):=by
  refine gg (c6:=fun w=> ∃k:Nat,w=l.take k∧k≤l.length∧V (l.take k)=V l) (m:=fun w:List Int=>w.length) _ ?_ _ ⟨l.length,by simp,by omega,by simp⟩
  rintro _ ⟨k,rfl,bA,a1⟩
  have hlen:(l.take k).length=k:=by simp;omega
  cases k with
  | zero =>
   refine .inr ⟨[],by simp [r4,ft],?_⟩
   rw [← a1]
   simp [V,lO]
  | succ k =>
   have af:=List.getElem?_eq_getElem (show k<l.length by omega)
   have cP:(l.take (k+1))[k]? = some l[k]:=by rw [List.getElem?_take];simp [af]
   unfold r4
   simp only [ft,hlen]
   rw [DN (by omega),if_pos (by simp),if_pos (by omega),Int.toNat_natCast,cP]
   by_cases h:l[k]=0
   ·refine .inl ⟨l.take k,by simp [h,List.take_take,Nat.min_eq_left],⟨k,rfl,by omega,?_⟩,by simp;omega⟩
    have:=n5 af
    rw [h] at this
    simp at this
    omega
   ·refine .inr ⟨l.take (k+1),by simp [h],?_⟩
    rcases dF.Dq aM k (fun x h1=>by rw [af] at h1;simp at h1;omega) with h1|h1
    ·exact o0 h1 a1
    ·omega
 obtain ⟨r,ao,rfl⟩:=this
 unfold mh CG
 rw [ao]
 rfl
theorem PI {l:List Int} (aM:b0 l) (bf:l.length≤5000000) : ∃k,uY l=some k∧k≤l.length∧l.take k=L (V l):=by
 have : ∃r,iter (fun w:Nat=>rR l w) l.length=some r∧r≤l.length∧l.take r=L (V l):=by
  refine gg (c6:=fun k=>k≤l.length∧V (l.take k)=V l) (m:=fun w:Nat=>w) _ ?_ _ ⟨by omega,by simp⟩
  rintro k ⟨bA,a1⟩
  cases k with
  | zero =>
   refine .inr ⟨0,by simp [rR],by omega,?_⟩
   rw [← a1]
   simp [V,lO]
  | succ k =>
   have af:=List.getElem?_eq_getElem (show k<l.length by omega)
   unfold rR
   rw [DN (by omega),if_pos (by simp),if_pos (by omega),Int.toNat_natCast,Nat.zero_add,af]
   by_cases h:l[k]=0
   ·refine .inl ⟨k,by simp [h],⟨by omega,?_⟩,by omega⟩
    have:=n5 af
    rw [h] at this
    simp at this
    omega
   ·refine .inr ⟨k+1,by simp [h],bA,?_⟩
    rcases dF.Dq aM k (fun x h1=>by rw [af] at h1;simp at h1;omega) with h1|h1
    ·exact o0 h1 a1
    ·omega
 obtain ⟨r,ao,h1,h2⟩:=this
 unfold uY Cs
 rw [ao]
 exact ⟨r,rfl,h1,h2⟩
theorem vC {a b:List Int} (bH:dF a) (aT:dF b) (bf:a.length≤5000000):nY a b=some (lC (V a) (V b)):=by
 unfold nY lC
 simp only [ft]
 by_cases h1:a.length=b.length
 ·rw [if_neg (by simp [h1])]
  have : ∃r,iter (fun w:Int=>rO a b w) ((a.length:Int)-1)=some r∧(r.elim (fun _=>V a=V b) (fun c=>(c = -1∧V a<V b)∨(c=1∧V b<V a))):=by
   refine gg (c6:=fun w:Int=> ∃k:Nat,w=(k:Int)-1∧k≤a.length∧V (a.drop k)=V (b.drop k)) (m:=fun w:Int=>(w+1).toNat) _ ?_ _ ⟨a.length,rfl,by omega,by rw [List.drop_length,h1,List.drop_length]⟩
   rintro _ ⟨k,rfl,bA,a1⟩
   cases k with
   | zero=>exact .inr ⟨.inl (),by simp [rO],by simpa using a1⟩
   | succ k =>
    have af:=List.getElem?_eq_getElem (show k<a.length by omega)
    have aF:=List.getElem?_eq_getElem (show k<b.length by omega)
    have e:((k+1:Nat):Int)-1=k:=by omega
    unfold rO
    rw [e,mz (by omega),if_pos (by simp),if_pos (by omega),Int.toNat_natCast,af]
    simp only [Option.bind_eq_bind,Option.bind_some]
    rw [if_pos (by omega),aF]
    by_cases h2:a[k]<b[k]
    ·exact .inr ⟨.inr (-1),by simp [h2],.inl ⟨rfl,Iz bH.1 aT.1 af aF a1 h2⟩⟩
    ·by_cases ag:b[k]<a[k]
     ·exact .inr ⟨.inr 1,by simp [h2,ag],.inr ⟨rfl,Iz aT.1 bH.1 aF af a1.symm ag⟩⟩
     ·refine .inl ⟨(k:Int)-1,by simp [h2,ag],⟨k,rfl,by omega,?_⟩,by omega⟩
      rw [kY af,kY aF,a1,show a[k]=b[k] by omega]
  obtain ⟨r,ao,h2⟩:=this
  unfold Cj
  rw [mz (by omega),ao]
  cases r with
  | inl u =>
   simp at h2
   simp [h2]
  | inr c =>
   rcases h2 with ⟨rfl,h2⟩|⟨rfl,h2⟩
   ·simp [h2]
   ·simp [h2];omega
 ·rw [if_pos (by simp;omega)]
  by_cases h2:a.length<b.length
  ·have:=yn bH aT h2
   simp [h2,this]
  ·have:=yn aT bH (by omega)
   rw [if_neg (by simp;omega),if_neg (by omega),if_pos this]
theorem xU {a b:List Int} (bH:dF a) (aT:dF b) (bf:a.length≤5000000):oH a b=some (lC (V a) (V b)):=vC bH aT bf
theorem vD {x y:Int} (af:0≤x∧x<1000000000) (aF:0≤y∧y<1000000000):0≤x*y∧x*y≤999999998000000001:=by
 have h1:=Int.mul_nonneg af.1 aF.1
 have h2:x*y≤999999999*999999999:=Int.mul_le_mul (by omega) (by omega) aF.1 (by omega)
 omega
theorem l8 {a b:Int} (h:0≤a):a.tmod b=a % b:=Int.tmod_eq_emod_of_nonneg h
theorem jY {a b:Int} (h:0≤a):a.tdiv b=a / b:=Int.tdiv_eq_ediv_of_nonneg h
theorem Dr (k:Nat) (x:Int) (q:List Int):(List.replicate (k+1) 0++q).set k x=List.replicate k 0++x::q:=by
 induction k with
 | zero=>rfl
 | succ k ih =>
  show (0::(List.replicate (k+1) 0++q)).set (k+1) x=_
  rw [List.set_cons_succ,ih];rfl
theorem O8 {a:List Int} {d rest:Int} {row:List Int} {k:Nat} {x:Int} (af:a[k]? = some x) (gK:0≤x∧x<1000000000) (a0:0<d∧d<1000000000) (ao:0≤rest∧rest<d) (dt:row.length=a.length) (bf:a.length≤1000000) :
 rG a d rest (k:Int) row=some (.inl ((rest*1000000000+x) % d,(k:Int)-1,row.set k ((rest*1000000000+x) / d))):=by
 have bA:=dT af
 unfold rG
 rw [if_pos (by simp),if_pos (by omega),Int.toNat_natCast,af]
 simp only [Option.bind_eq_bind,Option.bind_some]
 rw [if_pos (by omega),if_pos (by omega),if_pos (by omega),mz (by omega)]
 have h1:U (U (rest*1000000000)+x)=rest*1000000000+x:=by rw [cf (x:=rest*1000000000) (by omega) (by omega)];exact cf (by omega) (by omega)
 have h2:0≤rest*1000000000+x:=by omega
 have ag:(rest*1000000000+x) / d≤rest*1000000000+x:=Int.ediv_le_self _ h2
 have ap:0≤(rest*1000000000+x) / d:=Int.ediv_nonneg h2 (by omega)
 rw [h1,l8 h2,jY h2,cf (by omega) (by omega),Nat.zero_add]
theorem Hk {a:List Int} {d:Int} (bH:b0 a) (a0:0<d∧d<1000000000) (bf:a.length≤1000000) :
 ∃r,xr a d 0 ((a.length:Int)-1) (List.replicate a.length 0)=some r∧r.1=V a % d∧b0 r.2∧r.2.length=a.length∧V r.2=V a / d:=by
 refine gg (c6:=fun w:Int×Int×List Int=> ∃(k:Nat) (q:List Int),w.2.1=(k:Int)-1∧k≤a.length∧w.2.2=List.replicate k 0++q∧q.length+k=a.length∧b0 q∧0≤w.1∧w.1<d∧V (a.drop k)=V q*d+w.1) (m:=fun w:Int×Int×List Int=>(w.2.1+1).toNat) _ ?_ _ ⟨a.length,[],rfl,by omega,by simp,by simp,b0.nil,by omega,by omega,by simp [V]⟩
 rintro ⟨rest,i,row⟩ ⟨k,q,h1,bA,h2,aR,l4,iD,gn,a1⟩
 simp only at h1 h2 iD gn a1 ⊢
 subst h1 h2
 cases k with
 | zero =>
  refine .inr ⟨(rest,q),by simp [rG],?_,l4,by simpa using aR,?_⟩
  ·simp at a1
   rw [a1,Int.add_comm,Int.add_mul_emod_self_right]
   exact (Int.emod_eq_of_lt iD gn).symm
  ·simp at a1
   rw [a1,Int.add_comm,Int.add_mul_ediv_right _ _ (by omega),Int.ediv_eq_zero_of_lt iD gn]
   simp
 | succ k =>
  have af:=List.getElem?_eq_getElem (show k<a.length by omega)
  have gK:=bH.get af
  rw [show ((k+1:Nat):Int)-1=k by omega,O8 af gK a0 ⟨iD,gn⟩ (by simp;omega) bf]
  refine .inl ⟨_,rfl,⟨k,(rest*1000000000+a[k]) / d::q,rfl,by omega,Dr _ _ _,by simp;omega,b0.cons ⟨Int.ediv_nonneg (by omega) (by omega),?_⟩ l4,Int.emod_nonneg _ (by omega),Int.emod_lt_of_pos _ a0.1,?_⟩,by simp⟩
  ·refine Int.ediv_lt_of_lt_mul a0.1 ?_
   omega
  ·rw [kY af,a1,iC]
   have:=Int.mul_ediv_add_emod (rest*1000000000+a[k]) d
   generalize (rest*1000000000+a[k]) / d=u at *
   generalize (rest*1000000000+a[k]) % d=t at *
   grind
theorem Qt {a:List Int} {d:Int} (bH:b0 a) (a0:0<d∧d<1000000000) (bf:a.length≤1000000):uA a d=some (L (V a / d),V a % d):=by
 obtain ⟨r,ao,h1,h2,ag,ap⟩:=Hk bH a0 bf
 unfold uA
 simp only [ft]
 rw [if_pos (by omega),mz (by omega),Int.toNat_natCast,ao]
 simp only [Option.bind_eq_bind,Option.bind_some]
 rw [nA h2 (by omega),h1,ap]
 rfl
theorem NM:BG=xr:=rfl
theorem GG {a:List Int} {d:Int} (bH:b0 a) (a0:0<d∧d<1000000000) (bf:a.length≤1000000):sb a d=some (L (V a / d),V a % d):=by
 obtain ⟨r,ao,h1,h2,ag,ap⟩:=Hk bH a0 bf
 unfold sb
 simp only [ft]
 rw [if_pos (by omega),mz (by omega),Int.toNat_natCast,NM,ao]
 simp only [Option.bind_eq_bind,Option.bind_some]
 rw [sX h2 (by omega),h1,ap]
 rfl
theorem PJ {b:List Int} {i j:Nat} {x y z carry:Int} {row:List Int} {t26:List Int} {t27:Int} (aF:b[j]? = some y) (cH:row[i+j]? = some z) (af:0≤x∧x<1000000000) (kS:0≤y∧y<1000000000) (wh:0≤z∧z<1000000000) (a8:0≤carry∧carry<1000000000) (bf:row.length≤2000000) :
 rP b i x t26 t27 b.length carry j row=some (.inl ((z+x*y+carry) / 1000000000,((j+1:Nat):Int),row.set (i+j) ((z+x*y+carry) % 1000000000))):=by
 have aS:=dT aF
 have tA:=dT cH
 obtain ⟨fT,fp⟩:=vD af kS
 unfold rP
 have e:U ((i:Int)+(j:Int))=((i+j:Nat):Int):=by rw [cf (by omega) (by omega)];rfl
 rw [if_pos (by simp;omega),if_pos (by omega),Int.toNat_natCast,aF]
 simp only [Option.bind_eq_bind,Option.bind_some,e,Int.toNat_natCast,Nat.zero_add]
 rw [if_pos (by omega),cH]
 simp only [Option.bind_some]
 rw [if_pos (by omega),hN (by omega),cf (x:=x*y) (by omega) (by omega),cf (x:=z+x*y) (by omega) (by omega),cf (x:=z+x*y+carry) (by omega) (by omega),l8 (by omega),jY (by omega),cf (by omega) (by omega)]
theorem PK {b:List Int} {i:Nat} {x:Int} {row:List Int} {t26:List Int} {t27:Int} (aT:b0 b) (dt:b0 row) (af:0≤x∧x<1000000000) (aM:i+b.length<row.length) (bf:row.length≤2000000) :
 ∃r,Ck b i x t26 t27 b.length 0 0 row=some r∧0≤r.1∧r.1<1000000000∧b0 r.2∧r.2.length=row.length∧V r.2+r.1*B (i+b.length)=V row+x*B i*V b∧ ∀j,i+b.length≤j→r.2[j]? = row[j]? := by
 refine gg (c6:=fun w:Int×Int×List Int=> ∃(j:Nat),w.2.1=(j:Int)∧j≤b.length∧0≤w.1∧w.1<1000000000∧b0 w.2.2∧w.2.2.length=row.length∧V w.2.2+w.1*B (i+j)=V row+x*B i*V (b.take j)∧ ∀j,i+b.length≤j→w.2.2[j]? = row[j]?) (m:=fun w:Int×Int×List Int=>b.length-w.2.1.toNat) _ ?_ _ ⟨0,rfl,by omega,by simp,by simp,dt,rfl,by simp [V],fun _ _=>rfl⟩
 rintro ⟨carry,Tr,cE⟩ ⟨j,h1,aS,j7,jL,hB,hlen,a1,iU⟩
 simp only at h1 j7 jL hB hlen a1 iU ⊢
 subst h1
 by_cases SF:j=b.length
 ·subst SF
  refine .inr ⟨(carry,cE),by simp [rP],j7,jL,hB,hlen,by simpa using a1,iU⟩
 ·have aF:=List.getElem?_eq_getElem (show j<b.length by omega)
  have cH:=List.getElem?_eq_getElem (show i+j<cE.length by omega)
  have kS:=aT.get aF
  have wh:=hB.get cH
  obtain ⟨fT,fp⟩:=vD af kS
  rw [PJ aF cH af kS wh ⟨j7,jL⟩ (by omega)]
  refine .inl ⟨_,rfl,⟨j+1,rfl,by omega,by simp only;omega,by simp only;omega,hB.set (by omega),by simpa using hlen,?_,fun g5 tt=> ?_⟩,by simp;omega⟩
  ·simp only
   rw [nL cH,n5 aF,← Nat.add_assoc,i7]
   rw [vL] at a1 ⊢
   have:=Int.mul_ediv_add_emod (cE[i+j]+x*b[j]+carry) 1000000000
   generalize (cE[i+j]+x*b[j]+carry) / 1000000000=u at *
   generalize (cE[i+j]+x*b[j]+carry) % 1000000000=t at *
   grind
  ·rw [← iU g5 tt]
   exact List.getElem?_set_ne (by omega)
theorem C3 {a b:List Int} (bH:b0 a) (aT:b0 b) (bf:a.length≤1000000) (hm:b.length≤1000000) :
 ∃r,us b a a.length 0 (List.replicate (a.length+b.length) 0)=some r∧b0 r∧r.length=a.length+b.length∧V r=V a*V b:=by
 refine gg (c6:=fun w:Int×List Int=> ∃(i:Nat),w.1=(i:Int)∧i≤a.length∧b0 w.2∧w.2.length=a.length+b.length∧V w.2=V (a.take i)*V b∧ ∀j,i+b.length≤j→j<a.length+b.length→w.2[j]? = some 0) (m:=fun w:Int×List Int=>a.length-w.1.toNat) _ ?_ _ ⟨0,rfl,by omega,b0.ED _,by simp,by simp [V,DM],fun j _ h=>by simp [List.getElem?_replicate,h]⟩
 rintro ⟨ii,row⟩ ⟨i,h1,bj,hB,hlen,a1,h0⟩
 simp only at h1 hB hlen a1 h0 ⊢
 subst h1
 by_cases wL:i=a.length
 ·subst wL
  refine .inr ⟨row,by simp [ua],hB,hlen,by simpa using a1⟩
 ·have af:=List.getElem?_eq_getElem (show i<a.length by omega)
  have gK:=bH.get af
  obtain ⟨r,ao,j7,jL,RV,Up,we,iU⟩:=PK (i:=i) (t26:=a) (t27:=a.length) aT hB gK (by omega) (by omega)
  have e:U ((i:Int)+(b.length:Int))=((i+b.length:Nat):Int):=by rw [cf (by omega) (by omega)];rfl
  have cH:r.2[i+b.length]? = some 0:=by rw [iU _ (Nat.le_refl _)];exact h0 _ (Nat.le_refl _) (by omega)
  refine .inl ⟨(((i+1:Nat):Int),r.2.set (i+b.length) r.1),?_,⟨i+1,rfl,by omega,RV.set ⟨j7,jL⟩,by simp;omega,?_,fun j UO pa=> ?_⟩,by simp;omega⟩
  ·unfold ua
   rw [if_pos (by simp;omega),if_pos (by omega),Int.toNat_natCast,af]
   simp only [Option.bind_eq_bind,Option.bind_some,ft]
   rw [ao]
   simp only [Option.bind_some,e,Int.toNat_natCast,Nat.zero_add]
   rw [if_pos (by omega),if_pos (by omega),hN (n:=i) (by omega)]
  ·simp only
   rw [nL cH,n5 af]
   grind
  ·simp only
   rw [List.getElem?_set_ne (by omega),iU _ (by omega)]
   exact h0 _ (by omega) pa
theorem mul_eq {a b:List Int} (bH:b0 a) (aT:b0 b) (bf:a.length≤1000000) (hm:b.length≤1000000):hr a b=some (L (V a*V b)):=by
 unfold hr
 simp only [ft]
 by_cases h1:a=[]
 ·subst h1
  simp [V,lO]
 ·by_cases h2:b=[]
  ·subst h2
   simp [h1,V,lO]
  ·obtain ⟨r,ao,ag,ap,aE⟩:=C3 bH aT bf hm
   have e:U ((a.length:Int)+(b.length:Int))=((a.length+b.length:Nat):Int):=by rw [cf (by omega) (by omega)];rfl
   rw [if_neg (by simp [h1]),if_neg (by simp [h2]),e,if_pos (by omega),Int.toNat_natCast,ao]
   simp only [Option.bind_eq_bind,Option.bind_some]
   rw [nA ag (by omega),aE]
   rfl
theorem OM:CE=us:=rfl
theorem N8:Ce=us:=rfl
theorem vi {a b:List Int} (bH:b0 a) (aT:b0 b) (bf:a.length≤1000000) (hm:b.length≤1000000):lJ a b=some (L (V a*V b)):=by
 unfold lJ
 simp only [ft]
 by_cases h1:a=[]
 ·subst h1
  simp [V,lO]
 ·by_cases h2:b=[]
  ·subst h2
   simp [h1,V,lO]
  ·obtain ⟨r,ao,ag,ap,aE⟩:=C3 bH aT bf hm
   have e:U ((a.length:Int)+(b.length:Int))=((a.length+b.length:Nat):Int):=by rw [cf (by omega) (by omega)];rfl
   rw [if_neg (by simp [h1]),if_neg (by simp [h2]),e,if_pos (by omega),Int.toNat_natCast,OM,ao]
   simp only [Option.bind_eq_bind,Option.bind_some]
   rw [sX ag (by omega),aE]
   rfl
theorem Hl {a b:List Int} (bH:b0 a) (aT:b0 b) (h1:a≠[]) (h2:b≠[]) (bf:a.length≤1000000) (hm:b.length≤1000000) :
 ∃k r,so a b=some (k,r)∧k≤r.length∧r.length=a.length+b.length∧r.take k=L (V a*V b)∧b0 r:=by
 obtain ⟨r,ao,ag,ap,aE⟩:=C3 bH aT bf hm
 obtain ⟨k,bA,aQ,bd⟩:=PI ag (by omega)
 refine ⟨k,r,?_,aQ,ap,by rw [bd,aE],ag⟩
 unfold so
 simp only [ft]
 have e:U ((a.length:Int)+(b.length:Int))=((a.length+b.length:Nat):Int):=by rw [cf (by omega) (by omega)];rfl
 rw [if_neg (by simp [h1]),if_neg (by simp [h2]),e,if_pos (by omega),Int.toNat_natCast,N8,ao]
 simp only [Option.bind_eq_bind,Option.bind_some]
 rw [bA]
 rfl
theorem vN {x:Int} (h1:0≤x) (h2:x<18446744073709551616):IntKind.wrap .u64 x=x:=by
 simp only [IntKind.wrap,IntKind.signed,IntKind.bits]
 have:((2:Int) ^ 64)=18446744073709551616:=by decide
 simp
 omega
theorem RA {x:Int} (h1 : -9223372036854775808≤x) (h2:x<9223372036854775808):IntKind.wrap .i64 x=x:=cf h1 h2
theorem dF.snoc {l:List Int} {x:Int} (h:b0 l) (af:0<x∧x<1000000000):dF (l++[x]):=⟨h.append (b0.cons (by omega) b0.nil),fun y aF=>by
 rw [List.getLast?_append] at aF
 simp at aF
 omega⟩
theorem HI {N:Int} (gS:N<18446744073709551616) {n:Int} {row:List Int} (h:0≤n∧b0 row∧V row+B row.length*n=N∧(n=0→dF row)∧((row.length=0∧n<18446744073709551616)∨(row.length=1∧n<20000000000)∨(row.length=2∧n<20)∨(row.length=3∧n=0))) (bf:0<n) :
 (fun (n:Int) (row:List Int)=>0≤n∧b0 row∧V row+B row.length*n=N∧(n=0→dF row)∧((row.length=0∧n<18446744073709551616)∨(row.length=1∧n<20000000000)∨(row.length=2∧n<20)∨(row.length=3∧n=0))) (n / 1000000000) (row++[n % 1000000000]):=by
 obtain ⟨h0,h1,h2,ag,ap⟩:=h
 refine ⟨by omega,h1.append (b0.cons (by omega) b0.nil),?_,fun aE=>dF.snoc h1 (by omega),?_⟩
 ·rw [qh,List.length_append,List.length_singleton,i7,iC,tc]
  have:=Int.mul_ediv_add_emod n 1000000000
  generalize n / 1000000000=u at *
  generalize n % 1000000000=t at *
  grind
 ·rw [List.length_append,List.length_singleton]
  omega
theorem sQ {n:Int} (h:0≤n) (bf:n<9223372036854775808):nz n=some (L n):=by
 have : ∃r,iter (fun w:Int×List Int=>rX w.1 w.2) (n,[])=some r∧r=L n:=by
  refine gg (c6:=fun w:Int×List Int=>w.1≤n∧0≤w.1∧b0 w.2∧V w.2+B w.2.length*w.1=n∧(w.1=0→dF w.2)∧((w.2.length=0∧w.1<18446744073709551616)∨(w.2.length=1∧w.1<20000000000)∨(w.2.length=2∧w.1<20)∨(w.2.length=3∧w.1=0))) (m:=fun w:Int×List Int=>w.1.toNat) _ ?_ _ ⟨Int.le_refl _,h,b0.nil,by simp [V,B],fun _=>dF.nil,.inl ⟨rfl,by simp only;omega⟩⟩
  rintro ⟨m,row⟩ ⟨hm,fe⟩
  simp only at hm fe
  obtain ⟨h0,h1,h2,ag,ap⟩:=id fe
  by_cases mA:0<m
  ·have:=HI (by omega) fe mA
   refine .inl ⟨(m / 1000000000,row++[m % 1000000000]),?_,⟨by simp only;omega,this⟩,by simp only;omega⟩
   unfold rX
   rw [if_pos (by simp;omega),l8 (by omega),jY (by omega),if_pos (by simp;omega),cf (by omega) (by omega)]
  ·refine .inr ⟨row,by simp [rX,mA],?_⟩
   have kp:m=0:=by omega
   refine o0 (ag kp) ?_
   rw [kp] at h2
   simpa using h2
 obtain ⟨r,ao,rfl⟩:=this
 unfold nz CB
 rw [ao]
 rfl
theorem CW {n:Int} (h:0≤n) (bf:n<18446744073709551616):pV n=some (L n):=by
 have : ∃r,iter (fun w:Int×List Int=>rM w.1 w.2) (n,[])=some r∧r=L n:=by
  refine gg (c6:=fun w:Int×List Int=>w.1≤n∧0≤w.1∧b0 w.2∧V w.2+B w.2.length*w.1=n∧(w.1=0→dF w.2)∧((w.2.length=0∧w.1<18446744073709551616)∨(w.2.length=1∧w.1<20000000000)∨(w.2.length=2∧w.1<20)∨(w.2.length=3∧w.1=0))) (m:=fun w:Int×List Int=>w.1.toNat) _ ?_ _ ⟨Int.le_refl _,h,b0.nil,by simp [V,B],fun _=>dF.nil,.inl ⟨rfl,by simp only;omega⟩⟩
  rintro ⟨m,row⟩ ⟨hm,fe⟩
  simp only at hm fe
  obtain ⟨h0,h1,h2,ag,ap⟩:=id fe
  by_cases mA:0<m
  ·have:=HI (by omega) fe mA
   refine .inl ⟨(m / 1000000000,row++[m % 1000000000]),?_,⟨by simp only;omega,this⟩,by simp only;omega⟩
   unfold rM
   rw [if_pos (by simp;omega),l8 (by omega),jY (by omega),RA (x:=m % 1000000000) (by omega) (by omega),if_pos (by simp;omega),vN (by omega) (by omega)]
  ·refine .inr ⟨row,by simp [rM,mA],?_⟩
   have kp:m=0:=by omega
   refine o0 (ag kp) ?_
   rw [kp] at h2
   simpa using h2
 obtain ⟨r,ao,rfl⟩:=this
 unfold pV Cc
 rw [ao]
 rfl
def lc (x:Int):Bool:=decide (0≤x) && decide (x<1000000000)
theorem Ds (l:List Int):l.all lc=true↔b0 l:=by
 simp [lc,b0]
theorem CX {a:List Int} (h:a≠[]) : ∃x,a[a.length-1]? = some x∧(dF a↔b0 a∧x≠0):=by
 have aj:=List.length_pos_iff.mpr h
 refine ⟨a[a.length-1],List.getElem?_eq_getElem (by omega),?_⟩
 have e:a.getLast? = some a[a.length-1]:=by rw [List.getLast?_eq_getElem?];exact List.getElem?_eq_getElem (by omega)
 constructor
 ·exact fun h=>⟨h.1,h.2 _ e⟩
 ·refine fun h=>⟨h.1,fun x af=> ?_⟩
  rw [e] at af
  rw [← Option.some.inj af]
  exact h.2
theorem Jl {a:List Int} (h:a≠[]) (hm:(a.length:Int)<9223372036854775807):U ((a.length:Int)-1)=((a.length-1:Nat):Int):=by
 have aj:=List.length_pos_iff.mpr h
 rw [cf (by omega) (by omega)]
 omega
theorem O9 (x:Int):lu x 0 999999999=some (lc x):=by
 unfold lu lc
 by_cases h:0≤x
 ·simp [h];omega
 ·simp [h]
theorem Hm {a:List Int} (hm:(a.length:Int)<9223372036854775807) : ∃ok,oM a=some ok∧(ok=true↔dF a∧a.length≤60):=by
 have h1:iter (fun w:Int=>rW a a.length w) 0=some (if a.all lc then .inl () else .inr ()):=by
  refine Dj a lc (fun n x af=> ?_) (by simp [rW])
  have:=dT af
  unfold rW
  rw [if_pos (by simp;omega),if_pos (by omega),Int.toNat_natCast,af]
  simp only [Option.bind_eq_bind,Option.bind_some,O9]
  rw [i1 (by omega)]
  cases lc x<;>rfl
 unfold oM Cz
 simp only [ft]
 rw [h1]
 by_cases pj:a.all lc=true
 ·have v9:=(Ds a).1 pj
  simp only [pj,if_true,Option.bind_eq_bind,Option.bind_some]
  by_cases lo:a.length≤60
  ·rw [if_pos (by simp;omega)]
   by_cases h0:a=[]
   ·subst h0
    exact ⟨true,rfl,by simp [dF.nil]⟩
   ·obtain ⟨x,af,bf⟩:=CX h0
    have aj:=List.length_pos_iff.mpr h0
    rw [if_neg (by simp [h0]),Jl h0 hm,if_pos (by omega),Int.toNat_natCast,af]
    refine ⟨_,rfl,?_⟩
    rw [bf]
    simp [v9,lo]
  ·rw [if_neg (by simp;omega)]
   exact ⟨false,rfl,by simp;omega⟩
 ·have v9 : ¬b0 a:=fun h=>pj ((Ds a).2 h)
  simp only [Bool.not_eq_true] at pj
  refine ⟨false,by simp [pj],?_⟩
  simp only [Bool.false_eq_true,false_iff]
  exact fun h=>v9 h.1.1
theorem Pa (x:Int):uQ x=some (!lc x):=by
 unfold uQ lc
 by_cases h:x<0
 ·simp [h]
 ·rw [if_neg (by simp [h])]
  congr 1
  rw [Bool.eq_iff_iff]
  simp
  omega
theorem GW {a:List Int} (hm:(a.length:Int)<9223372036854775807):rr a=some (!(a.all lc)):=by
 obtain ⟨r,ao,h⟩:=PB (f:=fun w:Int=>rq a a.length w) a (fun x=> !lc x) (fun n x af=>by
  have:=dT af
  unfold rq
  rw [if_pos (by simp;omega),if_pos (by omega),Int.toNat_natCast,af]
  simp only [Option.bind_eq_bind,Option.bind_some,Pa]
  rw [i1 (by omega)]
  cases lc x<;>rfl) (by simp [rq])
 have e:a.any (fun x=> !lc x) = !(a.all lc):=by rw [List.not_all_eq_any_not]
 rw [e] at h
 unfold rr xi zF
 simp only [ft]
 rw [ao]
 rcases h with ⟨k,rfl,bA,h⟩|⟨rfl,h⟩
 ·simp only [Option.bind_eq_bind,Option.bind_some]
  rw [h]
  simp [bA]
 ·simp only [Option.bind_eq_bind,Option.bind_some]
  rw [h]
  rfl
theorem Pb {a:List Int} (hm:(a.length:Int)<9223372036854775807) : ∃ok,p6 a=some ok∧(ok=true↔dF a∧a.length≤60):=by
 unfold p6
 simp only [ft]
 by_cases lo:60<a.length
 ·rw [if_pos (by simp;omega)]
  exact ⟨false,rfl,by simp;omega⟩
 ·rw [if_neg (by simp;omega)]
  by_cases h0:a=[]
  ·subst h0
   exact ⟨true,by simp [GW],by simp [dF.nil]⟩
  ·obtain ⟨x,af,bf⟩:=CX h0
   have aj:=List.length_pos_iff.mpr h0
   rw [if_pos (by simp;omega),Jl h0 hm,if_pos (by omega),Int.toNat_natCast,af]
   simp only [Option.bind_eq_bind,Option.bind_some]
   rw [bf]
   by_cases gK:x=0
   ·exact ⟨false,by simp [gK],by simp [gK]⟩
   ·rw [if_neg (by simp [gK]),GW hm]
    refine ⟨_,rfl,?_⟩
    rw [← Ds]
    simp [gK]
    omega
theorem Hn {a:List Int} (hm:(a.length:Int)<9223372036854775807) : ∃ok,oM a=some ok∧p6 a=some ok∧(ok=true↔dF a∧a.length≤60):=by
 obtain ⟨bt,h1,h2⟩:=Hm hm
 obtain ⟨aO,ag,ap⟩:=Pb hm
 have:aO=bt:=Bool.eq_iff_iff.mpr (ap.trans h2.symm)
 exact ⟨bt,h1,this▸ag,h2⟩
theorem GX {a:List Int} (bH:dF a) (lo:a.length≤60) (a1:V a<9223372036854775808):sf a=some (V a,true):=by
 obtain ⟨ok,h1,h2⟩:=Hm (a:=a) (by omega)
 have kK:ok=true:=h2.2 ⟨bH,lo⟩
 subst kK
 have a8:dF [854775807,223372036,9]:=⟨by intro x af;simp at af;omega,by simp⟩
 have EI:V [854775807,223372036,9]=9223372036854775807:=by decide
 unfold sf
 rw [h1]
 simp only [Option.bind_eq_bind,Option.bind_some,if_true]
 rw [vC bH a8 (by omega),EI]
 have : ∃r,iter (fun w:Int×Int=>rE a w.1 w.2) (0,(a.length:Int)-1)=some r∧r=V a:=by
  refine gg (c6:=fun w:Int×Int=> ∃k:Nat,w.2=(k:Int)-1∧k≤a.length∧w.1=V (a.drop k)) (m:=fun w:Int×Int=>(w.2+1).toNat) _ ?_ _ ⟨a.length,rfl,by omega,by simp [V]⟩
  rintro ⟨n,i⟩ ⟨k,ag,bA,ap⟩
  simp only at ag ap
  subst ag ap
  cases k with
  | zero=>exact .inr ⟨V a,by simp [rE],rfl⟩
  | succ k =>
   have af:=List.getElem?_eq_getElem (show k<a.length by omega)
   have gK:=bH.1.get af
   have aE:=kY af
   have aQ:=iq (bH.1.drop (k+1))
   have bd:V (a.drop k)≤V a:=by
    have bL:=qo (l:=a) (n:=k) (by omega)
    have c3:=iq (bH.1.take k)
    have cR:=iq (bH.1.drop k)
    have fi:1*V (a.drop k)≤B k*V (a.drop k):=Int.mul_le_mul_of_nonneg_right (kk k) cR
    omega
   refine .inl ⟨(V (a.drop k),(k:Int)-1),?_,⟨k,rfl,by omega,rfl⟩,by simp only;omega⟩
   unfold rE
   rw [show ((k+1:Nat):Int)-1=k by omega,if_pos (by simp),if_pos (by omega),Int.toNat_natCast,af]
   simp only [Option.bind_eq_bind,Option.bind_some]
   rw [mz (by omega),cf (x:=V (a.drop (k+1))*1000000000) (by omega) (by omega),cf (by omega) (by omega),aE]
   congr 3
   omega
 obtain ⟨r,ao,rfl⟩:=this
 unfold lC BU
 simp only [ft]
 rw [mz (by omega),ao]
 have ag : ¬(9223372036854775807:Int)<V a:=by omega
 by_cases ap:V a<9223372036854775807<;>simp [ag,ap]
theorem Qu {a b row:List Int} {less x:Int} {i:Nat} (aT:b0 b) (af:a[i]? = some x) (gK:0≤x∧x<1000000000) (aM:less=0∨less=1) (bf:a.length≤1000000) (hm:b.length≤1000000) (ao:row.length≤1000000) :
 ∃y,0≤y∧y<1000000000∧(∀z,b[i]? = some z→y=z)∧(b[i]? = none→y=0) ∧
 pC a b a.length less i row=some (.inl (if x-less-y<0 then (1,((i+1:Nat):Int),row++[x-less-y+1000000000]) else (0,((i+1:Nat):Int),row++[x-less-y]))):=by
 have bj:=dT af
 unfold pC
 rw [if_pos (by simp;omega),if_pos (by omega),Int.toNat_natCast,af]
 simp only [Option.bind_eq_bind,Option.bind_some,ft]
 by_cases SG:i<b.length
 ·have aF:=List.getElem?_eq_getElem SG
  have kS:=aT.get aF
  refine ⟨b[i],kS.1,kS.2,fun z cH=>by rw [aF] at cH;exact Option.some.inj cH,fun h=>by rw [aF] at h;simp at h,?_⟩
  rw [if_pos (by simp;omega),if_pos (by omega),aF]
  simp only [Option.bind_some]
  rw [cf (x:=x-less) (by omega) (by omega),cf (x:=x-less-b[i]) (by omega) (by omega),hN (n:=i) (by omega),cf (x:=x-less-b[i]+1000000000) (by omega) (by omega)]
  by_cases h:x-less-b[i]<0
  ·rw [if_pos (by simp [h]),if_pos (by simp;omega)]
   simp [h]
  ·rw [if_neg (by simp [h]),if_pos (by simp;omega)]
   simp [h]
 ·have aF:b[i]? = none:=by simp;omega
  refine ⟨0,by omega,by omega,fun z cH=>by rw [aF] at cH;simp at cH,fun _=>rfl,?_⟩
  rw [if_neg (by simp;omega),cf (x:=x-less) (by omega) (by omega),hN (n:=i) (by omega),cf (x:=x-less+1000000000) (by omega) (by omega),Int.sub_zero]
  by_cases h:x-less<0
  ·rw [if_pos (by simp [h]),if_pos (by simp;omega)]
   simp [h]
  ·rw [if_neg (by simp [h]),if_pos (by simp;omega)]
   simp [h]
theorem Ic {b:List Int} {i:Nat} {y:Int} (h1 : ∀z,b[i]? = some z→y=z) (h2:b[i]? = none→y=0):V (b.take (i+1))=V (b.take i)+B i*y:=by
 cases h:b[i]? with
 | some z=>rw [h1 z h,n5 h]
 | none =>
  rw [h2 h]
  have:b.length≤i:=by simpa using h
  rw [List.take_of_length_le (by omega),List.take_of_length_le (by omega)]
  simp
theorem sub_eq {a b:List Int} (bH:b0 a) (aT:b0 b) (hlen:b.length≤a.length) (wM:V b≤V a) (bf:a.length≤1000000):nZ a b=some (L (V a-V b)):=by
 have : ∃r,iter (fun w:Int×Int×List Int=>pC a b a.length w.1 w.2.1 w.2.2) (0,0,[])=some r∧b0 r∧r.length=a.length∧V r=V a-V b:=by
  refine gg (c6:=fun w:Int×Int×List Int=> ∃i:Nat,w.2.1=i∧i≤a.length∧(w.1=0∨w.1=1)∧b0 w.2.2∧w.2.2.length=i∧V w.2.2-w.1*B i=V (a.take i)-V (b.take i)) (m:=fun w:Int×Int×List Int=>a.length-w.2.1.toNat) _ ?_ _ ⟨0,rfl,by omega,.inl rfl,b0.nil,rfl,by simp [V]⟩
  rintro ⟨less,ii,row⟩ ⟨i,h1,bj,aM,hB,lG,a1⟩
  simp only at h1 aM hB lG a1 ⊢
  subst h1
  by_cases wL:i=a.length
  ·refine .inr ⟨row,by simp [pC,wL],hB,by omega,?_⟩
   rw [wL] at a1
   rw [List.take_length,List.take_of_length_le hlen] at a1
   have h2:=jH hB
   rw [lG,wL] at h2
   rcases aM with rfl|rfl<;>omega
  ·have af:=List.getElem?_eq_getElem (show i<a.length by omega)
   have gK:=bH.get af
   obtain ⟨y,wN,UP,SH,SI,he⟩:=Qu (row:=row) aT af gK aM bf (by omega) (by omega)
   rw [he]
   refine .inl ⟨_,rfl,?_⟩
   have ag:=n5 af
   have ap:=Ic SH SI
   by_cases h:a[i]-less-y<0
   ·rw [if_pos h]
    refine ⟨⟨i+1,rfl,by omega,.inr rfl,hB.append (b0.cons (by omega) b0.nil),by simp [lG],?_⟩,by simp only;omega⟩
    simp only
    rw [ag,ap,qh,lG,i7,iC,tc]
    grind
   ·rw [if_neg h]
    refine ⟨⟨i+1,rfl,by omega,.inl rfl,hB.append (b0.cons (by omega) b0.nil),by simp [lG],?_⟩,by simp only;omega⟩
    simp only
    rw [ag,ap,qh,lG,iC,tc]
    grind
 obtain ⟨r,ao,h1,h2,ag⟩:=this
 unfold nZ Cl
 simp only [ft]
 rw [ao]
 simp only [Option.bind_eq_bind,Option.bind_some]
 rw [nA h1 (by omega),ag]
 rfl
theorem nB {l:List Int} (h:b0 l) {k:Nat} (bA:k≤l.length):B k*V (l.drop k)≤V l∧V l<B k*(V (l.drop k)+1):=by
 have h1:=qo bA
 have h2:=iq (h.take k)
 have ag:=jH (h.take k)
 rw [List.length_take,Nat.min_eq_left bA] at ag
 rw [Int.mul_add,Int.mul_one]
 omega
theorem vj {l:List Int} {k:Nat} {x:Int} (af:l[k]? = some x) (aM:l.length=k+1):V (l.drop k)=x:=by
 rw [kY af,List.drop_of_length_le (by omega)]
 simp [V]
theorem GH {aL W t d P:Int} (nr:1≤P) (zi:P*t≤aL) (EJ:aL<P*(t+1)) (pb:P*d≤W) (zj:W<P*(d+1)) (a0:0<d) (bZ:0≤t) (EK:aL<1000000000*W):t / (d+1)≤aL / W∧aL / W≤t / d∧aL / W≤999999999:=by
 have hW:0<W:=by
  have:=Int.mul_pos (a:=P) (b:=d) (by omega) a0
  omega
 have cv:0≤aL:=by
  have:=Int.mul_nonneg (a:=P) (b:=t) (by omega) bZ
  omega
 refine ⟨?_,?_,?_⟩
 ·apply (Int.le_ediv_iff_mul_le hW).2
  have h1:t / (d+1)*(d+1)≤t:=Int.ediv_mul_le _ (by omega)
  have h2:0≤t / (d+1):=Int.ediv_nonneg bZ (by omega)
  have ag:t / (d+1)*W≤t / (d+1)*(P*(d+1)):=Int.mul_le_mul_of_nonneg_left (by omega) h2
  have ap:P*(t / (d+1)*(d+1))≤P*t:=Int.mul_le_mul_of_nonneg_left h1 (by omega)
  have aE:t / (d+1)*(P*(d+1))=P*(t / (d+1)*(d+1)):=by grind
  omega
 ·apply (Int.le_ediv_iff_mul_le a0).2
  have h1:aL / W*W≤aL:=Int.ediv_mul_le _ (by omega)
  have h2:0≤aL / W:=Int.ediv_nonneg cv (by omega)
  have ag:aL / W*(P*d)≤aL / W*W:=Int.mul_le_mul_of_nonneg_left pb h2
  have ap:aL / W*(P*d)=P*(aL / W*d):=by grind
  have aE:P*(aL / W*d)<P*(t+1):=by omega
  have:=Int.lt_of_mul_lt_mul_left aE (by omega)
  omega
 ·have:=Int.ediv_lt_of_lt_mul hW EK
  omega
theorem IB {a b:Int}:lC a b≤0↔a≤b:=by
 unfold lC
 by_cases h:a<b
 ·simp [h];omega
 ·by_cases h2:b<a
  ·simp [h,h2]
  ·simp [h,h2];omega
theorem oR {a b:Int}:lC a b<0↔a<b:=by
 unfold lC
 by_cases h:a<b
 ·simp [h]
 ·by_cases h2:b<a
  ·simp [h,h2]
  ·simp [h,h2]
theorem C4 {a b:Int}:lC a b=0↔a=b:=by
 unfold lC
 by_cases h:a<b
 ·simp [h];omega
 ·by_cases h2:b<a
  ·simp [h,h2];omega
  ·simp [h,h2];omega
theorem Ho {r b:List Int} (ao:dF r) (aT:dF b) (iF:b≠[]) (bf:r.length≤1000000) (hm:b.length≤1000000) {bD bj:Int} (h0:0≤bD) (h1:bD≤V r / V b) (h2:V r / V b≤bj) (ag:bj≤999999999):xt r b bD bj=some (V r / V b):=by
 have pc:=m3 aT iF
 have : ∃q,iter (fun w:Int×Int=>py r b w.1 w.2) (bD,bj)=some q∧q=V r / V b:=by
  refine gg (c6:=fun w:Int×Int=>0≤w.1∧w.1≤V r / V b∧V r / V b≤w.2∧w.2≤999999999) (m:=fun w:Int×Int=>(w.2-w.1).toNat) _ ?_ _ ⟨h0,h1,h2,ag⟩
  rintro ⟨l,h⟩ ⟨g0,g1,g2,g3⟩
  simp only at g0 g1 g2 g3
  by_cases c0:l<h
  ·have e1:U ((U ((U (l+h))+(1:Int))).tdiv (2:Int))=(l+h+1) / 2:=by
    rw [cf (x:=l+h) (by omega) (by omega),cf (x:=l+h+1) (by omega) (by omega),jY (by omega),cf (by omega) (by omega)]
   have kp:0≤(l+h+1) / 2:=by omega
   have mJ:(l+h+1) / 2<1000000000:=by omega
   have JW:(L ((l+h+1) / 2)).length≤1:=(fF kp).2 (by simpa [B] using mJ)
   have e2:py r b l h=some (.inl (if V b*((l+h+1) / 2)≤V r then ((l+h+1) / 2,h) else (l,(l+h+1) / 2-1))):=by
    unfold py
    rw [if_pos (by simp [c0]),e1,sQ kp (by omega)]
    simp only [Option.bind_eq_bind,Option.bind_some]
    rw [mul_eq aT.1 (fv _) hm (by omega),cX kp]
    simp only [Option.bind_some]
    have aj:0≤V b*((l+h+1) / 2):=Int.mul_nonneg (by omega) kp
    have hlen:(L (V b*((l+h+1) / 2))).length≤b.length+1:=(fF aj).2 (by
     rw [i7]
     have aE:=jH aT.1
     have:V b*((l+h+1) / 2)≤V b*1000000000:=Int.mul_le_mul_of_nonneg_left (by omega) (by omega)
     omega)
    rw [vC (gV _) ao (by omega),cX aj]
    simp only [Option.bind_some]
    by_cases a8:V b*((l+h+1) / 2)≤V r
    ·rw [if_pos (by simpa using IB.2 a8),if_pos a8]
    ·rw [if_neg (fun h=>a8 (IB.1 (by simpa using h))),if_neg a8,cf (by omega) (by omega)]
   rw [e2]
   refine .inl ⟨_,rfl,?_⟩
   by_cases a8:V b*((l+h+1) / 2)≤V r
   ·rw [if_pos a8]
    have:(l+h+1) / 2≤V r / V b:=(Int.le_ediv_iff_mul_le pc).2 (by rw [Int.mul_comm];exact a8)
    exact ⟨⟨by simp only;omega,this,g2,g3⟩,by simp only;omega⟩
   ·rw [if_neg a8]
    have:V r / V b<(l+h+1) / 2:=(Int.ediv_lt_iff_lt_mul pc).2 (by rw [Int.mul_comm];omega)
    exact ⟨⟨g0,g1,by simp only;omega,by simp only;omega⟩,by simp only;omega⟩
  ·exact .inr ⟨l,by simp [py,c0],by omega⟩
 obtain ⟨q,aR,rfl⟩:=this
 exact aR
theorem yz {b:List Int} (aT:dF b) (iF:b≠[]) : ∃k d,b.length=k+1∧b[k]? = some d∧0<d∧d<1000000000∧V (b.drop k)=d:=by
 have aj:=List.length_pos_iff.mpr iF
 obtain ⟨x,af,h⟩:=CX iF
 have h1:=h.1 aT
 have h2:=h1.1.get af
 exact ⟨b.length-1,x,by omega,af,by omega,h2.2,vj af (by omega)⟩
theorem Qv {r b:List Int} (ao:dF r) (aT:dF b) (iF:b≠[]) (bf:r.length≤1000000) (hm:b.length≤1000000) (h1:V b≤V r) (h2:V r<1000000000*V b):uB r b=some (V r / V b):=by
 obtain ⟨k,d,bA,a0,mE,mK,pd⟩:=yz aT iF
 have JP:b.length≤r.length:=Nat.le_of_not_lt fun h=>by
  have:=yn ao aT h
  omega
 have JQ:r.length≤b.length+1:=ao.len.2 (by
  have:=jH aT.1
  rw [i7]
  omega)
 have o3:=nB aT.1 (k:=k) (by omega)
 rw [pd] at o3
 have gn:=nB ao.1 (k:=k) (by omega)
 have af:=List.getElem?_eq_getElem (show k<r.length by omega)
 have gK:=ao.1.get af
 have hw:U ((b.length:Int)-1)=(k:Int):=by rw [cf (by omega) (by omega)];omega
 have jt:=iq (ao.1.drop k)
 have zk:=GH (kk k) gn.1 gn.2 o3.1 o3.2 mE jt h2
 have UQ:=iq ao.1
 have hW:=m3 aT iF
 unfold uB
 simp only [ft,hw]
 rw [if_pos (by omega),Int.toNat_natCast,af]
 simp only [Option.bind_eq_bind,Option.bind_some]
 by_cases hlen:b.length<r.length
 ·have aF:=List.getElem?_eq_getElem hlen
  have kS:=ao.1.get aF
  have kr:V (r.drop (k+1))=r[b.length]:=by
   rw [← bA]
   exact vj aF (by omega)
  have bZ:V (r.drop k)=r[k]+1000000000*r[b.length]:=by rw [kY af,kr]
  rw [bZ] at zk jt
  have iX:0≤(r[k]+1000000000*r[b.length]) / (d+1):=Int.ediv_nonneg jt (by omega)
  have kM:(r[k]+1000000000*r[b.length]) / (d+1)≤r[k]+1000000000*r[b.length]:=Int.ediv_le_self _ jt
  have wc:0≤(r[k]+1000000000*r[b.length]) / d:=Int.ediv_nonneg jt (by omega)
  have SJ:(r[k]+1000000000*r[b.length]) / d≤r[k]+1000000000*r[b.length]:=Int.ediv_le_self _ jt
  rw [if_pos (by simp;omega),if_pos (by omega),Int.toNat_natCast,aF]
  simp only [Option.bind_some]
  rw [if_pos (by omega),a0]
  simp only [Option.bind_some]
  have e1:U (d+1)=d+1:=cf (by omega) (by omega)
  have e2:U (r[k]+U (r[b.length]*1000000000))=r[k]+1000000000*r[b.length]:=by
   rw [cf (x:=r[b.length]*1000000000) (by omega) (by omega),cf (by omega) (by omega),Int.mul_comm]
  rw [e1,if_pos (by omega),if_pos (by omega),e2,jY jt,jY jt,cf (by omega) (by omega),cf (x:=(r[k]+1000000000*r[b.length]) / d) (by omega) (by omega)]
  rw [Ho ao aT iF bf hm iX zk.1 (by split<;>omega) (by split<;>omega)]
  rfl
 ·have bZ:V (r.drop k)=r[k]:=vj af (by omega)
  rw [bZ] at zk jt
  have iX:0≤r[k] / (d+1):=Int.ediv_nonneg jt (by omega)
  have kM:r[k] / (d+1)≤r[k]:=Int.ediv_le_self _ jt
  have wc:0≤r[k] / d:=Int.ediv_nonneg jt (by omega)
  have SJ:r[k] / d≤r[k]:=Int.ediv_le_self _ jt
  rw [if_neg (by simp;omega),if_pos (by omega),a0]
  simp only [Option.bind_some]
  have e1:U (d+1)=d+1:=cf (by omega) (by omega)
  rw [e1,if_pos (by omega),if_pos (by omega),jY jt,jY jt,cf (by omega) (by omega),cf (x:=r[k] / d) (by omega) (by omega)]
  rw [Ho ao aT iF bf hm iX zk.1 (by split<;>omega) (by split<;>omega)]
  rfl
theorem Qw {a b:List Int} (bH:dF a) (aT:dF b) (iF:b≠[]) (bf:a.length≤900000) (hm:b.length≤900000) :
 ∃r,Cn a b [] ((a.length:Int)-1) (List.replicate a.length 0)=some r∧r.1=L (V a % V b)∧b0 r.2∧r.2.length=a.length∧V r.2=V a / V b:=by
 have pc:=m3 aT iF
 refine gg (c6:=fun w:List Int×Int×List Int=> ∃(k:Nat) (q:List Int),w.2.1=(k:Int)-1∧k≤a.length∧w.2.2=List.replicate k 0++q∧q.length+k=a.length∧b0 q∧dF w.1∧V w.1<V b∧V (a.drop k)=V q*V b+V w.1) (m:=fun w:List Int×Int×List Int=>(w.2.1+1).toNat) _ ?_ _ ⟨a.length,[],rfl,by omega,by simp,by simp,b0.nil,dF.nil,by simpa [V] using pc,by simp [V]⟩
 rintro ⟨rest,i,row⟩ ⟨k,q,h1,bA,h2,aR,l4,iD,gn,a1⟩
 simp only at h1 h2 iD gn a1 ⊢
 subst h1 h2
 have wO:=iq iD.1
 cases k with
 | zero =>
  simp at a1
  refine .inr ⟨(rest,q),by simp [rQ],?_,l4,by simpa using aR,?_⟩
  ·refine o0 iD ?_
   rw [a1,Int.add_comm,Int.add_mul_emod_self_right]
   exact (Int.emod_eq_of_lt wO gn).symm
  ·rw [a1,Int.add_comm,Int.add_mul_ediv_right _ _ (by omega),Int.ediv_eq_zero_of_lt wO gn]
   simp
 | succ k =>
  have af:=List.getElem?_eq_getElem (show k<a.length by omega)
  have gK:=bH.1.get af
  have lG:rest.length≤b.length:=iD.len.2 (by have:=jH aT.1;omega)
  have gF:b0 (a[k]::rest):=b0.cons gK iD.1
  have EI:V (a[k]::rest)=a[k]+1000000000*V rest:=iC _ _
  have lp:0≤a[k]+1000000000*V rest:=by omega
  have UR:(L (a[k]+1000000000*V rest)).length≤b.length+1:=(fF lp).2 (by
   have:=jH aT.1
   rw [i7]
   omega)
  have a0:=kY af
  have DO:rQ a b rest (k:Int) (List.replicate (k+1) 0++q)=some (.inl (if a[k]+1000000000*V rest<V b then (L (a[k]+1000000000*V rest),(k:Int)-1,List.replicate (k+1) 0++q) else (L ((a[k]+1000000000*V rest) % V b),(k:Int)-1,(List.replicate (k+1) 0++q).set k ((a[k]+1000000000*V rest) / V b)))):=by
   unfold rQ
   rw [if_pos (by simp),if_pos (by omega),Int.toNat_natCast,af]
   simp only [Option.bind_eq_bind,Option.bind_some,List.singleton_append]
   rw [if_pos (by simp;omega),nA gF (by simp;omega),EI]
   simp only [Option.bind_some]
   rw [vC (gV _) aT (by omega),cX lp]
   simp only [Option.bind_some]
   by_cases a8:a[k]+1000000000*V rest<V b
   ·rw [if_pos (by simpa using oR.2 a8),if_pos a8,mz (by omega)]
   ·rw [if_neg (fun h=>a8 (oR.1 (by simpa using h))),if_neg a8]
    have c0:a[k]+1000000000*V rest<1000000000*V b:=by omega
    rw [Qv (gV _) aT iF (by omega) (by omega) (by rw [cX lp];omega) (by rw [cX lp];exact c0),cX lp]
    simp only [Option.bind_some]
    have iX:0≤(a[k]+1000000000*V rest) / V b:=Int.ediv_nonneg lp (by omega)
    have kM:(a[k]+1000000000*V rest) / V b<1000000000:=Int.ediv_lt_of_lt_mul pc c0
    have US:(L ((a[k]+1000000000*V rest) / V b)).length≤1:=(fF iX).2 (by simpa [B] using kM)
    have mJ:=Int.mul_ediv_add_emod (a[k]+1000000000*V rest) (V b)
    have wP:=Int.emod_nonneg (a[k]+1000000000*V rest) (b:=V b) (by omega)
    have EL:0≤V b*((a[k]+1000000000*V rest) / V b):=Int.mul_nonneg (by omega) iX
    rw [if_pos (by simp;omega),if_pos (by simp;omega),sQ iX (by omega)]
    simp only [Option.bind_some]
    rw [mul_eq aT.1 (fv _) (by omega) (by omega),cX iX]
    simp only [Option.bind_some]
    rw [sub_eq (fv _) (fv _) ((fF EL).2 (by
     have:=jH (fv (a[k]+1000000000*V rest))
     rw [cX lp] at this
     omega)) (by rw [cX lp,cX EL];omega) (by omega),cX lp,cX EL]
    simp only [Option.bind_some]
    rw [mz (by omega),Nat.zero_add]
    congr 4
    omega
  rw [show ((k+1:Nat):Int)-1=k by omega,DO]
  refine .inl ⟨_,rfl,?_⟩
  by_cases a8:a[k]+1000000000*V rest<V b
  ·rw [if_pos a8]
   refine ⟨⟨k,0::q,rfl,by omega,?_,by simp;omega,b0.cons (by omega) l4,gV _,by rw [cX lp];exact a8,?_⟩,by simp⟩
   ·simp only
    rw [List.replicate_succ',List.append_assoc];rfl
   ·simp only
    rw [a0,a1,iC,cX lp]
    grind
  ·rw [if_neg a8]
   have c0:a[k]+1000000000*V rest<1000000000*V b:=by omega
   have wP:=Int.emod_nonneg (a[k]+1000000000*V rest) (b:=V b) (by omega)
   refine ⟨⟨k,(a[k]+1000000000*V rest) / V b::q,rfl,by omega,Dr _ _ _,by simp;omega,b0.cons ⟨Int.ediv_nonneg lp (by omega),Int.ediv_lt_of_lt_mul pc c0⟩ l4,gV _,by rw [cX wP];exact Int.emod_lt_of_pos _ pc,?_⟩,by simp⟩
   simp only
   rw [a0,a1,iC,cX wP]
   have mJ:=Int.mul_ediv_add_emod (a[k]+1000000000*V rest) (V b)
   generalize (a[k]+1000000000*V rest) / V b=u at *
   generalize (a[k]+1000000000*V rest) % V b=t at *
   grind
theorem div_eq {a b:List Int} (bH:dF a) (aT:dF b) (iF:b≠[]) (bf:a.length≤900000) (hm:b.length≤900000):oJ a b=some (L (V a / V b),L (V a % V b)):=by
 unfold oJ
 simp only [ft]
 by_cases h1:b.length=1
 ·obtain ⟨k,d,bA,a0,mE,mK,pd⟩:=yz aT iF
  have oh:k=0:=by omega
  subst oh
  have EM:V b=d:=by simpa using pd
  rw [if_pos (by simp [h1]),if_pos (by omega),a0]
  simp only [Option.bind_eq_bind,Option.bind_some]
  have mJ:=Int.emod_nonneg (V a) (b:=d) (by omega)
  have wP:=Int.emod_lt_of_pos (V a) mE
  rw [Qt bH.1 ⟨mE,mK⟩ (by omega)]
  simp only [Option.bind_some]
  rw [sQ mJ (by omega),EM]
  rfl
 ·obtain ⟨r,ao,e1,e2,bp,cp⟩:=Qw bH aT iF bf hm
  rw [if_neg (by simp;omega),if_pos (by omega),mz (by omega),Int.toNat_natCast,ao]
  simp only [Option.bind_eq_bind,Option.bind_some]
  rw [nA e2 (by omega),cp,e1]
  rfl
theorem Dk {x y:Int} (af:0≤x):Int.gcd y (x % y)=Int.gcd x y:=by
 have:=Nat.gcd_rec y.natAbs x.natAbs
 simp only [Int.gcd]
 rw [Nat.gcd_comm x.natAbs,this,Int.natAbs_emod_of_nonneg af,Nat.gcd_comm]
theorem yo {x:Int} (af:0≤x):(Int.gcd x 0:Int)=x:=by
 rw [Int.gcd_zero_right];omega
theorem Qx {x y:Int} (af:0≤x) (aF:0≤y) (wQ:x<9223372036854775808) (wN:y<9223372036854775808):uz x y=some (L (Int.gcd x y)):=by
 have : ∃r,iter (fun w:Int×Int=>rF w.1 w.2) (x,y)=some r∧(r=(Int.gcd x y:Int)∧r<9223372036854775808):=by
  refine gg (c6:=fun w:Int×Int=>0≤w.1∧0≤w.2∧w.1<9223372036854775808∧w.2<9223372036854775808∧Int.gcd w.1 w.2=Int.gcd x y) (m:=fun w:Int×Int=>w.2.toNat) _ ?_ _ ⟨af,aF,wQ,wN,rfl⟩
  rintro ⟨u,v⟩ ⟨h1,h2,ag,ap,aE⟩
  simp only at h1 h2 ag ap aE
  by_cases a1:0<v
  ·have aQ:=Int.emod_nonneg u (b:=v) (by omega)
   have bd:=Int.emod_lt_of_pos u a1
   refine .inl ⟨(v,u % v),?_,⟨h2,aQ,ap,by simp only;omega,by rw [← aE];exact Dk h1⟩,by simp only;omega⟩
   unfold rF
   rw [if_pos (by simpa using a1),if_pos (by omega),l8 h1]
  ·have SK:v=0:=by omega
   subst SK
   refine .inr ⟨u,by simp [rF],?_,ag⟩
   rw [← aE,yo h1]
 obtain ⟨r,ao,rfl,h⟩:=this
 unfold uz BV
 rw [ao]
 simp only [Option.bind_eq_bind,Option.bind_some]
 rw [sQ (by omega) h]
 rfl
theorem yA {a:List Int} (bH:dF a) (h:a.length<3):V a<9223372036854775808:=by
 have h1:=jH bH.1
 have h2:=mq (m:=a.length) (n:=2) (by omega)
 have ag:B 2=1000000000000000000:=by decide
 omega
theorem I3 {a b:List Int} (bH:dF a) (aT:dF b) (bf:a.length≤900000) (hm:b.length≤900000):sw a b=some (L (Int.gcd (V a) (V b))):=by
 have : ∃r,iter (fun w:List Int×List Int=>pD w.1 w.2) (a,b)=some r∧r.elim id id=L (Int.gcd (V a) (V b)):=by
  refine gg (c6:=fun w:List Int×List Int=>dF w.1∧dF w.2∧w.1.length≤900000∧w.2.length≤900000∧Int.gcd (V w.1) (V w.2)=Int.gcd (V a) (V b)) (m:=fun w:List Int×List Int=>(V w.2).toNat) _ ?_ _ ⟨bH,aT,bf,hm,rfl⟩
  rintro ⟨x,y⟩ ⟨h1,h2,ag,ap,aE⟩
  simp only at h1 h2 ag ap aE ⊢
  have gK:=iq h1.1
  have kS:=iq h2.1
  by_cases aF:y=[]
  ·subst aF
   refine .inr ⟨.inl x,by simp [pD,ft],?_⟩
   rw [← aE,tc,yo gK]
   exact (oj h1).symm
  ·have EN:=m3 h2 aF
   have SL:=List.length_pos_iff.mpr aF
   by_cases cy:x.length<3∧y.length<3
   ·refine .inr ⟨.inr (L (Int.gcd (V a) (V b))),?_,rfl⟩
    unfold pD
    simp only [ft]
    rw [if_pos (by simp;omega),if_pos (by simp;omega),if_pos (by simp;omega),GX h1 (by omega) (yA h1 cy.1)]
    simp only [Option.bind_eq_bind,Option.bind_some]
    rw [GX h2 (by omega) (yA h2 cy.2)]
    simp only [Option.bind_some]
    rw [Qx gK kS (yA h1 cy.1) (yA h2 cy.2),aE]
    rfl
   ·have q5:=Int.emod_nonneg (V x) (b:=V y) (by omega)
    have SM:=Int.emod_lt_of_pos (V x) EN
    refine .inl ⟨(y,L (V x % V y)),?_,⟨h2,gV _,ap,(fF q5).2 ?_,?_⟩,?_⟩
    ·unfold pD
     simp only [ft]
     rw [if_pos (by simp;omega),div_eq h1 h2 aF ag ap]
     by_cases wR:x.length<3
     ·rw [if_pos (by simp;omega),if_neg (by simp;omega)]
      rfl
     ·rw [if_neg (by simp;omega)]
      rfl
    ·have:=jH h2.1
     have:=mq ap
     omega
    ·simp only
     rw [cX q5,← aE]
     exact Dk gK
    ·simp only
     rw [cX q5]
     omega
 obtain ⟨r,ao,h⟩:=this
 unfold sw Co
 rw [List.nil_append,List.nil_append,if_pos (by omega),if_pos (by omega),ao]
 cases r with
 | inl r=>exact congrArg some h
 | inr r=>exact congrArg some h
def ld (p:Nat) (l:List Int):Prop:= ∀i z,i≠p→l[i]? = some z→0≤z∧z<1000000000
theorem ld.set {p:Nat} {l:List Int} (h:ld p l) {k:Nat} {x:Int} (af:0≤x∧x<1000000000):ld p (l.set k x):=fun i z bj cH=>by
 by_cases bA:k=i
 ·subst bA
  rw [List.getElem?_set] at cH
  simp only [if_true] at cH
  split at cH
  ·rw [← Option.some.inj cH];exact af
  ·simp at cH
 ·rw [List.getElem?_set_ne bA] at cH
  exact h i z bj cH
theorem ld.JC {p:Nat} {l:List Int} (h:ld p l) {x:Int}:ld p (l.set p x):=fun i z bj cH=>by
 rw [List.getElem?_set_ne (fun h=>bj h.symm)] at cH
 exact h i z bj cH
theorem b0.toE {l:List Int} (h:b0 l) (p:Nat):ld p l:=fun _ _ _ cH=>h.get cH
theorem PL {v row:List Int} {bD jI i:Nat} {hC carry x y:Int} (af:v[i]? = some x) (aF:row[bD+i]? = some y) (gK:0≤x∧x<1000000000) (kS:0≤y∧y<1000000000) (aT:0≤hC∧hC<1000000000) (a8:0≤carry∧carry<1000000000) (hu:i<jI) (bf:row.length≤5000000) :
 ∃c z,pF bD jI v hC v.length carry i row=some (.inl (c,((i+1:Nat):Int),row.set (bD+i) z))∧0≤c∧c<1000000000∧0≤z∧z<1000000000∧z-1000000000*c=y-hC*x-carry:=by
 have bj:=dT af
 have aS:=dT aF
 obtain ⟨fT,fp⟩:=vD aT gK
 have e:U (U (y-U (hC*x))-carry)=y-hC*x-carry:=by
  rw [cf (x:=hC*x) (by omega) (by omega),cf (x:=y-hC*x) (by omega) (by omega),cf (by omega) (by omega)]
 by_cases bZ:y-hC*x-carry<0
 ·refine ⟨(999999999-(y-hC*x-carry)) / 1000000000,y-hC*x-carry+(999999999-(y-hC*x-carry)) / 1000000000*1000000000,?_,by omega,by omega,by omega,by omega,by omega⟩
  unfold pF
  rw [if_pos (by simp;omega),if_pos (by omega),Int.toNat_natCast,af]
  simp only [Option.bind_eq_bind,Option.bind_some]
  rw [if_pos (by omega),aF]
  simp only [Option.bind_some,e]
  rw [if_pos (by simpa using bZ),if_pos (by omega),hN (n:=i) (by omega),cf (x:=999999999-(y-hC*x-carry)) (by omega) (by omega),jY (by omega),cf (x:=(999999999-(y-hC*x-carry)) / 1000000000) (by omega) (by omega),cf (x:=(999999999-(y-hC*x-carry)) / 1000000000*1000000000) (by omega) (by omega),cf (by omega) (by omega)]
 ·refine ⟨0,y-hC*x-carry,?_,by omega,by omega,by omega,by omega,by omega⟩
  unfold pF
  rw [if_pos (by simp;omega),if_pos (by omega),Int.toNat_natCast,af]
  simp only [Option.bind_eq_bind,Option.bind_some]
  rw [if_pos (by omega),aF]
  simp only [Option.bind_some,e]
  rw [if_neg (by simpa using bZ),if_pos (by omega),hN (n:=i) (by omega)]
theorem PM {v row:List Int} {bD jI:Nat} {hC:Int} (a1:b0 v) (ao:b0 row) (aT:0≤hC∧hC<1000000000) (hu:v.length<jI) (aM:bD+v.length<row.length) (bf:row.length≤5000000) :
 ∃r,Ct bD jI v hC v.length 0 0 row=some r∧0≤r.1∧r.1<1000000000∧b0 r.2∧r.2.length=row.length∧V r.2=V row-hC*B bD*V v+r.1*B (bD+v.length)∧ ∀i,i<bD∨bD+v.length≤i→r.2[i]? = row[i]? := by
 refine gg (c6:=fun w:Int×Int×List Int=> ∃(i:Nat),w.2.1=(i:Int)∧i≤v.length∧0≤w.1∧w.1<1000000000∧b0 w.2.2∧w.2.2.length=row.length∧V w.2.2=V row-hC*B bD*V (v.take i)+w.1*B (bD+i)∧ ∀i,i<bD∨bD+v.length≤i→w.2.2[i]? = row[i]?) (m:=fun w:Int×Int×List Int=>v.length-w.2.1.toNat) _ ?_ _ ⟨0,rfl,by omega,by simp,by simp,ao,rfl,by simp [V],fun _ _=>rfl⟩
 rintro ⟨carry,ii,cE⟩ ⟨i,h1,bj,j7,jL,hB,hlen,hV,iU⟩
 simp only at h1 j7 jL hB hlen hV iU ⊢
 subst h1
 by_cases EO:i=v.length
 ·subst EO
  exact .inr ⟨(carry,cE),by simp [pF],j7,jL,hB,hlen,by simpa using hV,iU⟩
 ·have af:=List.getElem?_eq_getElem (show i<v.length by omega)
  have aF:=List.getElem?_eq_getElem (show bD+i<cE.length by omega)
  obtain ⟨c,z,he,bX,bo,Ts,tQ,cH⟩:=PL (jI:=jI) af aF (a1.get af) (hB.get aF) aT ⟨j7,jL⟩ (by omega) (by omega)
  rw [he]
  refine .inl ⟨_,rfl,⟨i+1,rfl,by omega,bX,bo,hB.set ⟨Ts,tQ⟩,by simpa using hlen,?_,fun k bA=> ?_⟩,by simp;omega⟩
  ·simp only
   rw [nL aF,n5 af,hV,← Nat.add_assoc,i7,vL]
   have qP:z=cE[bD+i]-hC*v[i]-carry+1000000000*c:=by omega
   rw [qP]
   grind
  ·simp only
   rw [List.getElem?_set_ne (by omega)]
   exact iU k bA
theorem Rb {v row:List Int} {bD jI:Nat} {hC:Int} (a1:b0 v) (ao:b0 row) (aT:0≤hC∧hC<1000000000) (hu:v.length<jI) (aM:bD+v.length<row.length) (bf:row.length≤5000000) :
 ∃y cD,uZ v hC bD jI row=some (decide (y<0),cD)∧cD.length=row.length∧ld (bD+v.length) cD∧cD[bD+v.length]? = some y∧ -1000000000<y∧y<1000000000∧V cD=V row-hC*B bD*V v∧ ∀i,i<bD∨bD+v.length<i→cD[i]? = row[i]? := by
 obtain ⟨r,gn,bX,bo,hB,hlen,hV,iU⟩:=PM a1 ao aT hu aM bf
 have af:=List.getElem?_eq_getElem (show bD+v.length<r.2.length by omega)
 have gK:=hB.get af
 refine ⟨r.2[bD+v.length]-r.1,r.2.set (bD+v.length) (r.2[bD+v.length]-r.1),?_,by simpa using hlen,(b0.toE hB _).JC,?_,by omega,by omega,?_,fun i bj=> ?_⟩
 ·unfold uZ
  simp only [ft]
  rw [gn]
  simp only [Option.bind_eq_bind,Option.bind_some,Int.toNat_natCast]
  rw [if_pos (by omega),af]
  simp only [Option.bind_some]
  rw [if_pos (by omega),cf (by omega) (by omega),List.getElem?_set,if_pos rfl,if_pos (by omega)]
  rfl
 ·rw [List.getElem?_set,if_pos rfl,if_pos (by omega)]
 ·rw [nL af,hV]
  grind
 ·rw [List.getElem?_set_ne (by omega)]
  exact iU i (by omega)
theorem PN {v row:List Int} {bD jI:Nat} (a1:b0 v) (ao:ld (bD+v.length) row) (hu:v.length<jI) (aM:bD+v.length<row.length) (bf:row.length≤5000000) :
 ∃r,Cu bD jI v v.length 0 0 row=some r∧0≤r.1∧r.1≤1∧ld (bD+v.length) r.2∧r.2.length=row.length∧V r.2=V row+B bD*V v-r.1*B (bD+v.length)∧ ∀i,i<bD∨bD+v.length≤i→r.2[i]? = row[i]? := by
 refine gg (c6:=fun w:Int×Int×List Int=> ∃(i:Nat),w.2.1=(i:Int)∧i≤v.length∧0≤w.1∧w.1≤1∧ld (bD+v.length) w.2.2∧w.2.2.length=row.length∧V w.2.2=V row+B bD*V (v.take i)-w.1*B (bD+i)∧ ∀i,i<bD∨bD+v.length≤i→w.2.2[i]? = row[i]?) (m:=fun w:Int×Int×List Int=>v.length-w.2.1.toNat) _ ?_ _ ⟨0,rfl,by omega,by simp,by simp,ao,rfl,by simp [V],fun _ _=>rfl⟩
 rintro ⟨carry,ii,cE⟩ ⟨i,h1,bj,j7,jL,hB,hlen,hV,iU⟩
 simp only at h1 j7 jL hB hlen hV iU ⊢
 subst h1
 by_cases EO:i=v.length
 ·subst EO
  exact .inr ⟨(carry,cE),by simp [rS],j7,jL,hB,hlen,by simpa using hV,iU⟩
 ·have af:=List.getElem?_eq_getElem (show i<v.length by omega)
  have aF:=List.getElem?_eq_getElem (show bD+i<cE.length by omega)
  have gK:=a1.get af
  have kS:=hB _ _ (by omega) aF
  have he:rS bD jI v v.length carry i cE=some (.inl ((cE[bD+i]+v[i]+carry) / 1000000000,((i+1:Nat):Int),cE.set (bD+i) ((cE[bD+i]+v[i]+carry) % 1000000000))):=by
   unfold rS
   rw [if_pos (by simp;omega),if_pos (by omega),Int.toNat_natCast,af]
   simp only [Option.bind_eq_bind,Option.bind_some]
   rw [if_pos (by omega),aF]
   simp only [Option.bind_some]
   rw [if_pos (by omega),cf (x:=cE[bD+i]+v[i]) (by omega) (by omega),cf (x:=cE[bD+i]+v[i]+carry) (by omega) (by omega),l8 (by omega),jY (by omega),cf (by omega) (by omega),hN (n:=i) (by omega)]
  rw [he]
  refine .inl ⟨_,rfl,⟨i+1,rfl,by omega,by simp only;omega,by simp only;omega,hB.set (by omega),by simpa using hlen,?_,fun k bA=> ?_⟩,by simp;omega⟩
  ·simp only
   rw [nL aF,n5 af,hV,← Nat.add_assoc,i7,vL]
   have:=Int.mul_ediv_add_emod (cE[bD+i]+v[i]+carry) 1000000000
   generalize (cE[bD+i]+v[i]+carry) / 1000000000=q at *
   generalize (cE[bD+i]+v[i]+carry) % 1000000000=t at *
   have qP:t=cE[bD+i]+v[i]+carry-1000000000*q:=by omega
   rw [qP]
   grind
  ·simp only
   rw [List.getElem?_set_ne (by omega)]
   exact iU k bA
theorem Rc {v row:List Int} {bD jI:Nat} {y:Int} (a1:b0 v) (ao:ld (bD+v.length) row) (hu:v.length<jI) (aM:bD+v.length<row.length) (bf:row.length≤5000000) (aF:row[bD+v.length]? = some y) (kS : -1000000000<y) (wN:y<1000000000) :
 ∃iT cD,sD v bD jI row=some cD∧cD.length=row.length∧ld (bD+v.length) cD∧cD[bD+v.length]? = some iT∧V cD=V row+B bD*V v∧ ∀i,i<bD∨bD+v.length<i→cD[i]? = row[i]? := by
 obtain ⟨r,gn,bX,bo,hB,hlen,hV,iU⟩:=PN a1 ao hu aM bf
 have af:r.2[bD+v.length]? = some y:=by rw [iU _ (by omega)];exact aF
 refine ⟨y+r.1,r.2.set (bD+v.length) (y+r.1),?_,by simpa using hlen,hB.JC,?_,?_,fun i bj=> ?_⟩
 ·unfold sD
  simp only [ft]
  rw [gn]
  simp only [Option.bind_eq_bind,Option.bind_some,Int.toNat_natCast]
  rw [if_pos (by omega),af]
  simp only [Option.bind_some]
  rw [if_pos (by omega),cf (by omega) (by omega)]
 ·rw [List.getElem?_set,if_pos rfl,if_pos (by omega)]
 ·rw [nL af,hV]
  grind
 ·rw [List.getElem?_set_ne (by omega)]
  exact iU i (by omega)
theorem Qy {g q v1 v2 top fc rest aL W P:Int} (nr:1≤P) (ef:0≤g) (bZ:g*v1+rest=top) (pb:P*(v1*1000000000+v2)≤W) (EJ:aL<P*(top*1000000000+fc+1)) (Kc:q*W≤aL) (hW:0≤W) (h:rest*1000000000+fc<g*v2):q<g:=by
 apply Int.not_le.mp
 intro pe
 have h1:g*W≤q*W:=Int.mul_le_mul_of_nonneg_right pe hW
 have h2:g*(P*(v1*1000000000+v2))≤g*W:=Int.mul_le_mul_of_nonneg_left pb ef
 have ag:g*(P*(v1*1000000000+v2))=P*(g*(v1*1000000000+v2)):=by grind
 have ap:P*(g*(v1*1000000000+v2))<P*(top*1000000000+fc+1):=by omega
 have aE:=Int.lt_of_mul_lt_mul_left ap (by omega)
 have aQ:g*(v1*1000000000+v2)=1000000000*(g*v1)+g*v2:=by grind
 omega
theorem HJ {g v1 v2 top fc rest aL W P:Int} (nr:1≤P) (ef:0≤g) (pf:g≤999999999) (nl:1≤v1) (wS:0≤v2) (bZ:g*v1+rest=top) (pb:P*(v1*1000000000+v2)≤W) (zj:W<P*(v1*1000000000+v2+1)) (zi:P*(top*1000000000+fc)≤aL) (h:g*v2≤rest*1000000000+fc):g≤aL / W+1:=by
 have wT:P*1000000000≤W:=by
  have h1:P*1000000000≤P*(v1*1000000000+v2):=Int.mul_le_mul_of_nonneg_left (by omega) (by omega)
  omega
 have h1:g*W≤g*(P*(v1*1000000000+v2+1)):=Int.mul_le_mul_of_nonneg_left (by omega) ef
 have h2:g*(P*(v1*1000000000+v2+1))=P*(1000000000*(g*v1)+g*v2+g):=by grind
 have ag:P*(1000000000*(g*v1)+g*v2+g)≤P*(top*1000000000+fc+999999999):=Int.mul_le_mul_of_nonneg_left (by omega) (by omega)
 have ap:P*(top*1000000000+fc+999999999)=P*(top*1000000000+fc)+P*999999999:=by grind
 have aE:(g-1)*W=g*W-W:=by grind
 have:g-1≤aL / W:=(Int.le_ediv_iff_mul_le (by omega)).2 (by omega)
 omega
theorem Pc {ae u fY d7:List Int} {N n j:Nat} {v1 v2 fc top aL W P:Int} (bf:2≤n) (SO:n≤5000000) (pg:j+n<N) (gS:N≤5000000) (h1:fY[n-1]? = some v1) (h2:fY[n-2]? = some v2) (ag:u[j+n-2]? = some fc)
 (nl:1≤v1∧v1<1000000000) (wS:0≤v2∧v2<1000000000) (UT:0≤fc∧fc<1000000000) (nr:1≤P) (pb:P*(v1*1000000000+v2)≤W) (zj:W<P*(v1*1000000000+v2+1)) (zi:P*(top*1000000000+fc)≤aL) (EJ:aL<P*(top*1000000000+fc+1)) (cv:0≤aL) (EK:aL<1000000000*W) (jt:0≤top) (UU:top≤v1*1000000000+999999999) (aR:aL / W≤top / v1) :
 ∃g,CH N n n j ae u fY d7 (top / v1) (top % v1)=some g∧(aL / W=g∨aL / W+1=g)∧0≤g∧g≤999999999:=by
 have wT:0<W:=by
  have h1:P*1000000000≤P*(v1*1000000000+v2):=Int.mul_le_mul_of_nonneg_left (by omega) (by omega)
  omega
 have iX:0≤aL / W:=Int.ediv_nonneg cv (by omega)
 have kM:aL / W<1000000000:=Int.ediv_lt_of_lt_mul wT EK
 have Kc:aL / W*W≤aL:=Int.ediv_mul_le _ (by omega)
 have SP:=Int.mul_ediv_add_emod top v1
 have kp:=Int.emod_nonneg top (b:=v1) (by omega)
 have mJ:=Int.emod_lt_of_pos top (b:=v1) (by omega)
 have D4:U ((n:Int)-1)=((n-1:Nat):Int):=by rw [cf (by omega) (by omega)];omega
 have RW:U ((n:Int)-2)=((n-2:Nat):Int):=by rw [cf (by omega) (by omega)];omega
 have RX:U (U ((j:Int)+(n:Int))-2)=((j+n-2:Nat):Int):=by rw [cf (x:=(j:Int)+n) (by omega) (by omega),cf (by omega) (by omega)];omega
 have yX:top / v1≤top:=Int.ediv_le_self _ jt
 refine gg (c6:=fun w:Int×Int=>w.1*v1+w.2=top∧0≤w.2∧w.2<1000000000∧aL / W≤w.1∧w.1≤top) (m:=fun w:Int×Int=>w.1.toNat) _ ?_ _ ⟨by rw [Int.mul_comm];exact SP,kp,by simp only;omega,aR,yX⟩
 rintro ⟨g,rest⟩ ⟨i1,i2,E8,w8,Tt⟩
 simp only at i1 i2 E8 w8 Tt ⊢
 have EP:U (rest+v1)=rest+v1:=cf (by omega) (by omega)
 have EQ:U (g-1)=g-1:=cf (by omega) (by omega)
 have pf:(g-1)*v1+(rest+v1)=top:=by grind
 have I4:aL / W≤g-1→1000000000≤rest+v1→(aL / W=g-1∨aL / W+1=g-1)∧0≤g-1∧g-1≤999999999:=by
  intro lr kx
  have Fa:(g-1)*v1<1000000000*v1:=by omega
  have Tu:g-1<1000000000:=Int.lt_of_mul_lt_mul_right Fa (by omega)
  have KC:0≤g-1:=by omega
  have Vk:=(vD ⟨KC,Tu⟩ wS).2
  have:=HJ nr KC (by omega) nl.1 wS.1 pf pb zj zi (by omega)
  omega
 by_cases D5:1000000000≤g
 ·by_cases aT:1000000000≤rest+v1
  ·refine .inr ⟨g-1,?_,I4 (by omega) aT⟩
   unfold pI
   rw [if_pos (by simpa using D5),D4,if_pos (by omega),Nat.zero_add,Int.toNat_natCast,h1]
   simp only [Option.bind_eq_bind,Option.bind_some,EP,EQ]
   rw [if_pos (by simpa using aT)]
  ·refine .inl ⟨(g-1,rest+v1),?_,⟨pf,by simp only;omega,by simp only;omega,by simp only;omega,by simp only;omega⟩,by simp only;omega⟩
   unfold pI
   rw [if_pos (by simpa using D5),D4,if_pos (by omega),Nat.zero_add,Int.toNat_natCast,h1]
   simp only [Option.bind_eq_bind,Option.bind_some,EP,EQ]
   rw [if_neg (by simpa using aT)]
 ·have gH:0≤g:=by omega
  obtain ⟨fT,fp⟩:=vD ⟨gH,by omega⟩ wS
  have e1:U (U (rest*1000000000)+fc)=rest*1000000000+fc:=by rw [cf (x:=rest*1000000000) (by omega) (by omega),cf (by omega) (by omega)]
  have e2:U (g*v2)=g*v2:=cf (by omega) (by omega)
  have DO:pI N n n j ae u fY d7 g rest=some (if rest*1000000000+fc<g*v2 then (if 1000000000≤rest+v1 then .inr (g-1) else .inl (g-1,rest+v1)) else .inr g):=by
   unfold pI
   rw [if_neg (by simpa using D5),RW,if_pos (by omega),Nat.zero_add,Int.toNat_natCast,h2]
   simp only [Option.bind_eq_bind,Option.bind_some]
   rw [RX,if_pos (by omega),Nat.zero_add,Int.toNat_natCast,ag]
   simp only [Option.bind_some,e1,e2]
   by_cases a8:rest*1000000000+fc<g*v2
   ·rw [if_pos (by simpa using a8),if_pos a8,D4,if_pos (by omega),Nat.zero_add,Int.toNat_natCast,h1]
    simp only [Option.bind_some,EP,EQ]
    by_cases aT:1000000000≤rest+v1
    ·rw [if_pos (by simpa using aT),if_pos aT]
    ·rw [if_neg (by simpa using aT),if_neg aT]
   ·rw [if_neg (by simpa using a8),if_neg a8]
  rw [DO]
  by_cases a8:rest*1000000000+fc<g*v2
  ·have UW:=Qy nr gH i1 pb EJ Kc (by omega) a8
   rw [if_pos a8]
   by_cases aT:1000000000≤rest+v1
   ·rw [if_pos aT]
    exact .inr ⟨g-1,rfl,I4 (by omega) aT⟩
   ·rw [if_neg aT]
    exact .inl ⟨(g-1,rest+v1),rfl,⟨pf,by simp only;omega,by simp only;omega,by simp only;omega,by simp only;omega⟩,by simp only;omega⟩
  ·rw [if_neg a8]
   have:=HJ nr gH (by omega) nl.1 wS.1 i1 pb zj zi (by omega)
   exact .inr ⟨g,rfl,by omega,by omega,by omega⟩
theorem PO {a b:List Int} {k:Nat} (h : ∀i,k≤i→a[i]? = b[i]?):a.drop k=b.drop k:=by
 apply List.ext_getElem?
 intro i
 rw [List.getElem?_drop,List.getElem?_drop]
 exact h _ (by omega)
theorem PP {a b:List Int} {k:Nat} (h : ∀i,i<k→a[i]? = b[i]?):a.take k=b.take k:=by
 apply List.ext_getElem?
 intro i
 rw [List.getElem?_take,List.getElem?_take]
 by_cases bj:i<k
 ·rw [if_pos bj,if_pos bj];exact h i bj
 ·rw [if_neg bj,if_neg bj]
theorem Kd {u w:List Int} {j n:Nat} {y c:Int} (hlen:w.length=u.length) (pg:j+n<u.length) (dz:ld (j+n) w) (aF:w[j+n]? = some y) (iU : ∀i,i<j∨j+n<i→w[i]? = u[i]?) (h0:V (u.drop (j+n+1))=0) (hV:V w=V u-c*B j) :
 V (w.drop j)=V (u.drop j)-c∧ ∃low,0≤low∧low<B n∧V (w.drop j)=low+B n*y:=by
 have h1:=qo (l:=u) (n:=j) (by omega)
 have h2:=qo (l:=w) (n:=j) (by omega)
 rw [PP (a:=w) (b:=u) (fun i bj=>iU i (.inl bj))] at h2
 have ag:B j*V (w.drop j)=B j*(V (u.drop j)-c):=by grind
 have im:=kk j
 have ap:V (w.drop j)=V (u.drop j)-c:=Int.eq_of_mul_eq_mul_left (by omega) ag
 refine ⟨ap,V ((w.drop j).take n),?_,?_,?_⟩
 ·refine iq (fun x af=> ?_)
  obtain ⟨i,bj⟩:=List.mem_iff_getElem?.mp af
  have jg:=dT bj
  simp at jg
  rw [List.getElem?_take,if_pos (by omega),List.getElem?_drop] at bj
  exact dz _ _ (by omega) bj
 ·have aM:b0 ((w.drop j).take n):=fun x af=>by
   obtain ⟨i,bj⟩:=List.mem_iff_getElem?.mp af
   have jg:=dT bj
   simp at jg
   rw [List.getElem?_take,if_pos (by omega),List.getElem?_drop] at bj
   exact dz _ _ (by omega) bj
  have:=jH aM
  rwa [List.length_take,Nat.min_eq_left (by simp;omega)] at this
 ·have aE:=qo (l:=w.drop j) (n:=n) (by simp;omega)
  rw [List.drop_drop,kY aF,PO (a:=w) (b:=u) (k:=j+n+1) (fun i bj=>iU i (.inr (by omega))),h0] at aE
  rw [aE]
  grind
theorem HK {w:List Int} {p:Nat} (dz:ld p w) (aF:w[p]? = some 0):b0 w:=fun x af=>by
 obtain ⟨i,bj⟩:=List.mem_iff_getElem?.mp af
 by_cases h:i=p
 ·subst h
  rw [aF] at bj
  have:=Option.some.inj bj
  omega
 ·exact dz i x h bj
theorem Ie {low y X rl W:Int} (h0:0≤low) (h1:low<rl) (zx:X=low+rl*y) (h2:0≤X) (ag:X<W) (ap:W≤rl):y=0:=by
 have c0:rl*y<rl*1:=by omega
 have aE:=Int.lt_of_mul_lt_mul_left c0 (by omega)
 have y9:rl*(-1)<rl*y:=by omega
 have aQ:=Int.lt_of_mul_lt_mul_left y9 (by omega)
 omega
theorem PQ {ae u fY d7:List Int} {n j:Nat} {v1 W:Int} (bf:2≤n) (wU:n≤fY.length) (a1:b0 (fY.take n)) (hW:V (fY.take n)=W) (nl:fY[n-1]? = some v1) (D6:1≤v1) (hu:b0 u) (q6:u.length≤5000000) (pg:j+n<u.length) (c0:V (u.drop (j+1))<W) (UX:j<d7.length) :
 ∃l6,pJ u.length n n ae fY j u d7=some (.inl ((j:Int)-1,l6,d7.set j (V (u.drop j) / W)))∧b0 l6∧l6.length=u.length∧V l6=V u-(V (u.drop j) / W)*B j*W∧V (l6.drop j)<W∧0≤V (u.drop j) / W∧V (u.drop j) / W<1000000000:=by
 obtain ⟨n,rfl⟩ : ∃m,n=m+2:=⟨n-2,by omega⟩
 have lY:(fY.take (n+2)).length=n+2:=by simp;omega
 have pf:(fY.take (n+2))[n+1]? = some v1:=by rw [List.getElem?_take,if_pos (by omega)];exact nl
 have Ke:=List.getElem?_eq_getElem (show n<fY.length by omega)
 have JD:(fY.take (n+2))[n]? = some fY[n]:=by rw [List.getElem?_take,if_pos (by omega)];exact Ke
 have RY:=a1.get pf
 have RZ:=a1.get JD
 have gK:=List.getElem?_eq_getElem (show j+(n+2)<u.length by omega)
 have wQ:=List.getElem?_eq_getElem (show j+(n+1)<u.length by omega)
 have wy:=List.getElem?_eq_getElem (show j+n<u.length by omega)
 have Kf:=List.getElem?_eq_getElem (show j<u.length by omega)
 have iF:=hu.get gK
 have o3:=hu.get wQ
 have Ep:=hu.get wy
 have UY:=hu.get Kf
 have ER:=nB a1 (k:=n+1) (by omega)
 rw [vj pf (by omega),hW] at ER
 have ES:=nB a1 (k:=n) (by omega)
 rw [kY JD,vj pf (by omega),hW] at ES
 have D7:=jH a1
 rw [lY,hW] at D7
 have UZ:0≤W:=by rw [← hW];exact iq a1
 have cH:=nB (hu.drop (j+1)) (k:=n+2) (by simp;omega)
 rw [List.drop_drop] at cH
 have SQ:=iq (hu.drop (j+1+(n+2)))
 have U0:=kk (n+2)
 have h0:V (u.drop (j+(n+2)+1))=0:=by
  rw [show j+(n+2)+1=j+1+(n+2) by omega]
  apply Int.le_antisymm _ SQ
  apply Int.not_lt.mp
  intro h
  have:B (n+2)*1≤B (n+2)*V (u.drop (j+1+(n+2))):=Int.mul_le_mul_of_nonneg_left (by omega) (by omega)
  omega
 have jt:V (u.drop (j+(n+2)))=u[j+(n+2)]:=by rw [kY gK,h0];omega
 have yX:V (u.drop (j+(n+1)))=u[j+(n+1)]+1000000000*u[j+(n+2)]:=by rw [kY wQ,show j+(n+1)+1=j+(n+2) by omega,jt]
 have re:V (u.drop (j+n))=u[j+n]+1000000000*(u[j+(n+1)]+1000000000*u[j+(n+2)]):=by rw [kY wy,show j+n+1=j+(n+1) by omega,yX]
 have gn:=nB (hu.drop j) (k:=n+1) (by simp;omega)
 rw [List.drop_drop,yX] at gn
 have ET:=nB (hu.drop j) (k:=n) (by simp;omega)
 rw [List.drop_drop,re] at ET
 have lp:=iq (hu.drop j)
 have cv:V (u.drop j)<1000000000*W:=by rw [kY Kf];omega
 have SR:=kk n
 have R0:=kk (n+1)
 have qN:u[j+(n+2)]≤v1:=by
  have h1:=nB (hu.drop (j+1)) (k:=n+1) (by simp;omega)
  rw [List.drop_drop,show j+1+(n+1)=j+(n+2) by omega,jt] at h1
  have h2:B (n+1)*u[j+(n+2)]<B (n+1)*(v1+1):=by omega
  have:=Int.lt_of_mul_lt_mul_left h2 (by omega)
  omega
 have R1:=GH R0 gn.1 gn.2 ER.1 ER.2 (by omega) (by omega) cv
 obtain ⟨g,ef,pe,SS,U1⟩:=Pc (ae:=ae) (d7:=d7) (N:=u.length) (n:=n+2) (j:=j) (v1:=v1) (v2:=fY[n]) (fc:=u[j+n]) (top:=u[j+(n+1)]+1000000000*u[j+(n+2)]) (aL:=V (u.drop j)) (W:=W) (P:=B n) (u:=u) (fY:=fY) (by omega) (by omega) pg q6 nl Ke wy ⟨D6,RY.2⟩ RZ Ep SR
  (by rw [Int.mul_comm v1,Int.add_comm];exact ES.1) (by rw [Int.mul_comm v1,Int.add_comm (1000000000*v1)];exact ES.2)
  (by rw [Int.mul_comm (u[j+(n+1)]+_),Int.add_comm];exact ET.1) (by rw [Int.mul_comm (u[j+(n+1)]+_),Int.add_comm (1000000000*_) u[j+n]];exact ET.2) lp cv (by omega) (by omega) R1.2.1
 have wT:0<W:=by
  have:B (n+1)*1≤B (n+1)*v1:=Int.mul_le_mul_of_nonneg_left (by omega) (by omega)
  omega
 have iX:0≤V (u.drop j) / W:=Int.ediv_nonneg lp (by omega)
 have kM:V (u.drop j) / W<1000000000:=Int.ediv_lt_of_lt_mul wT cv
 have hm:=Int.mul_ediv_add_emod (V (u.drop j)) W
 have kp:=Int.emod_nonneg (V (u.drop j)) (b:=W) (by omega)
 have mJ:=Int.emod_lt_of_pos (V (u.drop j)) wT
 obtain ⟨y,w,bZ,Kg,zl,zm,kS,wN,zn,DA⟩:=Rb (v:=fY.take (n+2)) (row:=u) (bD:=j) (jI:=u.length-j) (hC:=g) a1 hu ⟨SS,by omega⟩ (by omega) (by omega) q6
 rw [lY] at zl zm DA
 rw [hW] at zn
 obtain ⟨wR,low,kP,Kh,qO⟩:=Kd (c:=g*W) Kg pg zl zm DA h0 (by rw [zn];grind)
 have Ki:U ((j:Int)-1)=(j:Int)-1:=mz (by omega)
 have e1:U ((j:Int)+((n+2:Nat):Int))=((j+(n+2):Nat):Int):=by rw [cf (by omega) (by omega)];omega
 have e2:U (((j+(n+2):Nat):Int)-1)=((j+(n+1):Nat):Int):=by rw [cf (by omega) (by omega)];omega
 have bp:U (((n+2:Nat):Int)-1)=((n+1:Nat):Int):=by rw [cf (by omega) (by omega)];omega
 have cp:U (U (u[j+(n+2)]*1000000000)+u[j+(n+1)])=u[j+(n+1)]+1000000000*u[j+(n+2)]:=by
  rw [cf (x:=u[j+(n+2)]*1000000000) (by omega) (by omega),cf (by omega) (by omega)];omega
 have cM:0≤u[j+(n+1)]+1000000000*u[j+(n+2)]:=by omega
 have d5:(u[j+(n+1)]+1000000000*u[j+(n+2)]) / v1≤u[j+(n+1)]+1000000000*u[j+(n+2)]:=Int.ediv_le_self _ cM
 have dP:0≤(u[j+(n+1)]+1000000000*u[j+(n+2)]) / v1:=Int.ediv_nonneg cM (by omega)
 have R2:fY[n+1]? = some v1:=nl
 have pre:pJ u.length (n+2) ((n+2:Nat):Int) ae fY j u d7 =
  (if (decide (y<0))=true then
    sD (fY.take (n+2)) j (u.length-j) w >>= fun iz=>some (.inl ((j:Int)-1,iz,d7.set j (U (g-1))))
  else some (.inl ((j:Int)-1,w,d7.set j g))):=by
  unfold pJ
  rw [if_pos (by simp)]
  simp only [e1,e2,bp,Int.toNat_natCast,Nat.zero_add,Ki]
  rw [if_pos (by omega),gK]
  simp only [Option.bind_eq_bind,Option.bind_some]
  rw [if_pos (by omega),wQ]
  simp only [Option.bind_some]
  rw [if_pos (by omega),R2]
  simp only [Option.bind_some]
  rw [if_pos (by omega),cp,jY cM,l8 cM,cf (by omega) (by omega),ef]
  simp only [Option.bind_some]
  rw [if_pos (by omega),if_pos (by omega),if_pos (by omega),List.drop_zero,bZ]
  simp only [Option.bind_some]
  by_cases aF:y<0
  ·have a0:(decide (y<0))=true:=by simpa using aF
   simp only [if_pos a0]
   congr 1
   funext r
   rw [if_pos (by omega),if_pos (by omega)]
  ·have a0 : ¬(decide (y<0))=true:=by simpa using aF
   simp only [if_neg a0]
   rw [if_pos (by omega),if_pos (by omega)]
 rcases pe with pe|pe
 ·subst pe
  have zx:V (w.drop j)=V (u.drop j) % W:=by rw [wR];grind
  have aF:y=0:=Ie (W:=W) kP Kh qO (by rw [zx];exact kp) (by rw [zx];exact mJ) (Int.le_of_lt D7)
  subst aF
  refine ⟨w,?_,HK zl zm,Kg,zn,by omega,iX,kM⟩
  rw [pre]
  rfl
 ·have zx:V (w.drop j)=V (u.drop j) % W-W:=by rw [wR,← pe];grind
  have aF:y<0:=by
   apply Int.not_le.mp
   intro h
   have:0≤B (n+2)*y:=Int.mul_nonneg (by omega) h
   omega
  obtain ⟨iT,bI,og,Us,D8,D9,JE,IC⟩:=Rc (v:=fY.take (n+2)) (row:=w) (bD:=j) (jI:=u.length-j) (y:=y) a1 (by rw [lY];exact zl) (by omega) (by omega) (by omega) (by rw [lY];exact zm) kS wN
  rw [lY] at D8 D9 IC
  rw [hW] at JE
  have Kj:V bI=V u-V (u.drop j) / W*B j*W:=by rw [JE,zn,← pe];grind
  obtain ⟨R3,Ut,R4,R5,R6⟩:=Kd (c:=V (u.drop j) / W*W) (by omega) pg D8 D9 (fun i bj=>by rw [IC i bj,DA i bj]) h0 (by rw [Kj];grind)
  have Kk:V (bI.drop j)=V (u.drop j) % W:=by rw [R3];grind
  have kr:iT=0:=Ie (W:=W) R4 R5 R6 (by rw [Kk];exact kp) (by rw [Kk];exact mJ) (Int.le_of_lt D7)
  subst kr
  refine ⟨bI,?_,HK D8 D9,by omega,Kj,by omega,iX,kM⟩
  rw [pre,if_pos (by simpa using aF),og]
  simp only [Option.bind_eq_bind,Option.bind_some]
  rw [cf (by omega) (by omega),show g-1=V (u.drop j) / W by omega]
theorem PR {ae fY u:List Int} {n m:Nat} {v1 W:Int} (bf:2≤n) (wU:n≤fY.length) (a1:b0 (fY.take n)) (hW:V (fY.take n)=W) (nl:fY[n-1]? = some v1) (D6:1≤v1) (hu:b0 u) (q6:u.length≤5000000) (hm:m+n=u.length) (c0:V (u.drop m)<W) :
 ∃r,CI u.length n n ae fY ((m:Int)-1) u (List.replicate m 0)=some r∧b0 r.1∧r.1.length=u.length∧V r.1<W∧b0 r.2∧r.2.length=m∧V u=V r.2*W+V r.1:=by
 refine gg (c6:=fun w:Int×List Int×List Int=> ∃(k:Nat) (q:List Int),w.1=(k:Int)-1∧k≤m∧b0 w.2.1∧w.2.1.length=u.length∧w.2.2=List.replicate k 0++q∧q.length+k=m∧b0 q∧V (w.2.1.drop k)<W∧V u=V w.2.1+B k*V q*W) (m:=fun w:Int×List Int×List Int=>(w.1+1).toNat) _ ?_ _ ⟨m,[],rfl,by omega,hu,rfl,by simp,by simp,b0.nil,c0,by simp [V]⟩
 rintro ⟨Tr,l6,d7⟩ ⟨k,q,h1,bA,kN,hlen,ag,aR,l4,Ea,hV⟩
 simp only at h1 kN hlen ag Ea hV ⊢
 subst h1 ag
 cases k with
 | zero =>
  refine .inr ⟨(l6,q),by simp [pJ],kN,hlen,by simpa using Ea,l4,by simpa using aR,?_⟩
  rw [hV]
  simp [B]
  omega
 | succ k =>
  obtain ⟨U2,he,s1,s2,rf,Tv,Tw,Tx⟩:=PQ (ae:=ae) (fY:=fY) (u:=l6) (d7:=List.replicate (k+1) 0++q) (j:=k) bf wU a1 hW nl D6 kN (by omega) (by omega) Ea (by simp;omega)
  rw [hlen] at he
  rw [show ((k+1:Nat):Int)-1=k by omega,he]
  refine .inl ⟨_,rfl,⟨k,V (l6.drop k) / W::q,rfl,by omega,s1,s2.trans hlen,Dr _ _ _,by simp;omega,b0.cons ⟨Tw,Tx⟩ l4,Tv,?_⟩,by simp only;omega⟩
  simp only
  rw [hV,rf,iC,i7]
  grind
theorem Qz {a:List Int} (h:a.length≤900000):vq a=some a:=by
 unfold vq
 rw [if_pos (by omega)]
theorem Pd {a b q s:Int} (h:a=q*b+s) (h0:0≤s) (h1:s<b):a / b=q∧a % b=s:=by
 subst h
 constructor
 ·rw [Int.add_comm,Int.add_mul_ediv_right _ _ (by omega),Int.ediv_eq_zero_of_lt h0 h1]
  omega
 ·rw [Int.add_comm,Int.add_mul_emod_self_right]
  exact Int.emod_eq_of_lt h0 h1
theorem Dt {a b:List Int} (bH:dF a) (aT:dF b) (iF:b≠[]) (bf:a.length≤900000) (hm:b.length≤900000):qa a b=some (L (V a / V b),L (V a % V b)):=by
 have pc:=m3 aT iF
 have zo:=iq bH.1
 unfold qa
 simp only [ft]
 rw [xU bH aT (by omega)]
 simp only [Option.bind_eq_bind,Option.bind_some]
 by_cases a8:V a<V b
 ·rw [if_pos (by simpa using oR.2 a8),Qz bf,Int.ediv_eq_zero_of_lt zo a8,Int.emod_eq_of_lt zo a8,lO,oj bH]
  rfl
 ·rw [if_neg (fun h=>a8 (oR.1 (by simpa using h)))]
  obtain ⟨k,d,bA,a0,mE,mK,pd⟩:=yz aT iF
  by_cases h1:b.length=1
  ·have oh:k=0:=by omega
   subst oh
   have EM:V b=d:=by simpa using pd
   rw [if_pos (by simp [h1]),if_pos (by omega),a0]
   simp only [Option.bind_some]
   have mJ:=Int.emod_nonneg (V a) (b:=d) (by omega)
   have wP:=Int.emod_lt_of_pos (V a) mE
   rw [GG bH.1 ⟨mE,mK⟩ (by omega)]
   simp only [Option.bind_some]
   rw [vN mJ (by omega),CW mJ (by omega),EM]
   rfl
  ·have hw:U ((b.length:Int)-1)=(k:Int):=by rw [cf (by omega) (by omega)];omega
   have e1:U (d+1)=d+1:=cf (by omega) (by omega)
   have tK:1≤1000000000 / (d+1):=by
    apply (Int.le_ediv_iff_mul_le (by omega)).2
    omega
   have wV:1000000000 / (d+1)<1000000000:=by
    apply Int.ediv_lt_of_lt_mul (by omega)
    omega
   have SU:1000000000 / (d+1)*(d+1)≤1000000000:=Int.ediv_mul_le _ (by omega)
   have e2:U ((1000000000:Int).tdiv (d+1))=1000000000 / (d+1):=by rw [jY (by omega),cf (by omega) (by omega)]
   rw [if_neg (by simp;omega),hw,if_pos (by omega),Int.toNat_natCast,a0]
   simp only [Option.bind_some,e1,e2]
   generalize 1000000000 / (d+1)=f at *
   rw [if_pos (by omega)]
   have hp:b0 [f]:=b0.cons (by omega) b0.nil
   have SV:V [f]=f:=by simp [V]
   have SW:a≠[]:=by
    intro h
    subst h
    simp [V] at a8
    omega
   obtain ⟨i4,rm,SX,U3,SY,zp,U4⟩:=Hl bH.1 hp SW (by simp) (by omega) (by simp)
   obtain ⟨xc,fY,SZ,U5,S0,EU,U6⟩:=Hl aT.1 hp iF (by simp) (by omega) (by simp)
   rw [SV] at zp EU
   rw [SX]
   simp only [Option.bind_some]
   simp only [List.length_singleton] at SY S0
   have U7:=kk k
   have S1:V b*f<B b.length:=by
    have h2:=(nB aT.1 (k:=k) (by omega)).2
    rw [pd] at h2
    have ag:V b*f≤(B k*(d+1)-1)*f:=Int.mul_le_mul_of_nonneg_right (by omega) (by omega)
    have ap:(B k*(d+1)-1)*f=B k*(f*(d+1))-f:=by grind
    have aE:B k*(f*(d+1))≤B k*1000000000:=Int.mul_le_mul_of_nonneg_left SU (by omega)
    rw [bA,i7]
    omega
   have U8:V b≤V b*f:=by
    have:V b*1≤V b*f:=Int.mul_le_mul_of_nonneg_left tK (by omega)
    omega
   have U9:V a≤V a*f:=by
    have:V a*1≤V a*f:=Int.mul_le_mul_of_nonneg_left tK (by omega)
    omega
   have EV:0≤V b*f:=by omega
   have Kl:0≤V a*f:=by omega
   have Km:xc=b.length:=by
    have h2:(fY.take xc).length=xc:=by simp;omega
    rw [EU] at h2
    have ag:=(fF EV (k:=b.length)).2 S1
    have ap:=yW aT iF
    have aE : ¬(L (V b*f)).length≤b.length-1:=fun h=>by
     have:=(fF EV).1 h
     omega
    omega
   have S2:(L (V a*f)).length=i4:=by rw [← zp];simp;omega
   have JF:=jH (fv (V a*f))
   rw [cX Kl,S2] at JF
   have Uu:a.length≤i4:=bH.len.2 (by omega)
   have Va:b.length≤a.length:=Nat.le_of_not_lt fun h=>by
    have:=yn bH aT h
    omega
   rw [if_pos (by omega),if_pos (by simp;omega),SZ]
   simp only [Option.bind_some]
   have q6:(rm.take i4++[0]).length=i4+1:=by simp;omega
   have S3:xO a xc [f] fY (rm.take i4++[0])=some (rm.take i4++[0]):=by
    unfold xO
    rw [iter]
    unfold xq
    simp only [ft,q6]
    rw [if_neg (by simp;omega)]
    rfl
   rw [S3]
   simp only [Option.bind_some,q6]
   have l1:U (((i4+1:Nat):Int)-((xc:Nat):Int))=((i4+1-b.length:Nat):Int):=by rw [cf (by omega) (by omega)];omega
   rw [l1,if_pos (by omega),mz (by omega),Int.toNat_natCast]
   have Jm:b0 (rm.take i4++[0]):=by
    rw [zp]
    exact (fv _).append (b0.cons (by omega) b0.nil)
   have Kn:V (rm.take i4++[0])=V a*f:=by
    rw [qh,zp,cX Kl]
    simp [V]
   have DB:fY.take b.length=L (V b*f):=by rw [← Km];exact EU
   have S4:V (fY.take b.length)=V b*f:=by rw [DB,cX EV]
   obtain ⟨cF,Ty,qM,qI,Uv,Uw,Ux⟩:=yz (gV (V b*f)) (fun h=>by have:=oX.1 h;omega)
   rw [← DB] at qM qI
   have lY:(fY.take b.length).length=b.length:=by simp;omega
   have wE:fY[b.length-1]? = some Ty:=by
    rw [List.getElem?_take] at qI
    rw [show b.length-1=cF by omega]
    split at qI
    ·exact qI
    ·simp at qI
   have R7:V ((rm.take i4++[0]).drop (i4+1-b.length))<V b*f:=by
    have h2:=(nB Jm (k:=i4+1-b.length) (by omega)).1
    rw [Kn] at h2
    have ag:=yW aT iF
    have ap:B i4=B (i4+1-b.length)*B (b.length-1):=by rw [← vL];congr 1;omega
    rw [ap] at JF
    have aE:B (i4+1-b.length)*V ((rm.take i4++[0]).drop (i4+1-b.length))<B (i4+1-b.length)*B (b.length-1):=by omega
    have:=Int.lt_of_mul_lt_mul_left aE (by have:=kk (i4+1-b.length);omega)
    omega
   obtain ⟨r,ao,r1,r2,a2,bb,aV,dk⟩:=PR (ae:=[f]) (m:=i4+1-b.length) (by omega) (by omega) (by rw [DB];exact fv _) S4 wE (by omega) Jm (by omega) (by omega) R7
   rw [q6] at ao r2
   rw [Km,ao]
   simp only [Option.bind_some]
   rw [if_pos (by omega),List.drop_zero,List.take_of_length_le (by omega),sX r1 (by omega)]
   simp only [Option.bind_some]
   have wO:=iq r1
   rw [Kn] at dk
   have cy:V r.1=(V a-V r.2*V b)*f:=by grind
   have S5:0≤V a-V r.2*V b:=by
    apply Int.not_lt.mp
    intro h
    have:(V a-V r.2*V b)*f≤(-1)*f:=Int.mul_le_mul_of_nonneg_right (by omega) (by omega)
    omega
   have wR:V a-V r.2*V b<V b:=by
    apply Int.lt_of_mul_lt_mul_right (a:=f) _ (by omega)
    omega
   obtain ⟨q1,q2⟩:=Pd (a:=V a) (b:=V b) (q:=V r.2) (s:=V a-V r.2*V b) (by omega) S5 wR
   rw [if_pos (by simp)]
   simp only [List.getElem?_cons_zero,Option.bind_some]
   have S6:(L (V r.1)).length≤i4+1:=(fF wO).2 (by have:=jH r1;rwa [r2] at this)
   rw [GG (fv _) ⟨by omega,wV⟩ (by omega),cX wO]
   simp only [Option.bind_some]
   rw [sX bb (by omega)]
   simp only [Option.bind_some]
   rw [q1,q2,cy,Int.mul_ediv_cancel _ (by omega)]
theorem Hp {a b:List Int} (bH:dF a) (aT:dF b) (bf:a.length≤900000) (hm:b.length≤900000):sq a b=some (L (Int.gcd (V a) (V b))):=by
 have : ∃r,iter (fun w:List Int×List Int=>rN w.1 w.2) (a,b)=some r∧r=L (Int.gcd (V a) (V b)):=by
  refine gg (c6:=fun w:List Int×List Int=>dF w.1∧dF w.2∧w.1.length≤900000∧w.2.length≤900000∧Int.gcd (V w.1) (V w.2)=Int.gcd (V a) (V b)) (m:=fun w:List Int×List Int=>(V w.2).toNat) _ ?_ _ ⟨bH,aT,bf,hm,rfl⟩
  rintro ⟨x,y⟩ ⟨h1,h2,ag,ap,aE⟩
  simp only at h1 h2 ag ap aE ⊢
  have gK:=iq h1.1
  have kS:=iq h2.1
  by_cases aF:y=[]
  ·subst aF
   refine .inr ⟨x,by simp [rN,ft],?_⟩
   rw [← aE,tc,yo gK]
   exact (oj h1).symm
  ·have EN:=m3 h2 aF
   have SL:=List.length_pos_iff.mpr aF
   have q5:=Int.emod_nonneg (V x) (b:=V y) (by omega)
   have SM:=Int.emod_lt_of_pos (V x) EN
   refine .inl ⟨(y,L (V x % V y)),?_,⟨h2,gV _,ap,(fF q5).2 ?_,?_⟩,?_⟩
   ·unfold rN
    simp only [ft]
    rw [if_pos (by simp;omega),Dt h1 h2 aF ag ap]
    rfl
   ·have:=jH h2.1
    have:=mq ap
    omega
   ·simp only
    rw [cX q5,← aE]
    exact Dk gK
   ·simp only
    rw [cX q5]
    omega
 obtain ⟨r,ao,rfl⟩:=this
 unfold sq Cf
 rw [ao]
 rfl
def fa (n:Int):cZ:=⟨decide (n<0),L n.natAbs⟩
def c8 (neg:Bool) (a:Int):Int:=if neg then -a else a
def mk (p:Int×Int):bF:=⟨fa p.1,L p.2⟩
def hD (p:Int×Int):bV:=⟨fa p.1,L p.2⟩
def q7:bF:=⟨⟨false,[]⟩,[]⟩
def enc:Option (Int×Int)→bF
 | none=>q7
 | some p=>mk p
def gx (x:Option (Int×Int)):Option bV:=x.map hD
structure Fr (p:Int×Int):Prop where
 pos:0<p.2
 Ko:Int.gcd p.1 p.2=1
 num:(p.1.natAbs:Int)<B 24
 den:p.2<B 24
theorem vk {n:Int}:(fa n).a9=L n.natAbs:=rfl
theorem ye {n:Int}:(fa n).bM=decide (n<0):=rfl
theorem HL {n:Int} (h:0≤n):decide ((0:Int)<((L n).length:Nat))=decide (0<n):=by
 apply decide_eq_decide.2
 by_cases h1:0<n
 ·have:(L n)≠[]:=fun h2=>by have:=oX.1 h2;omega
  have:=List.length_pos_iff.mpr this
  omega
 ·have:n=0:=by omega
  subst this
  simp [lO]
theorem Eb {n:Int} (h:0≤n):(((L n).length:Nat):Int)=0↔n=0:=by
 constructor
 ·intro h1
  have:L n=[]:=List.eq_nil_of_length_eq_zero (by omega)
  have:=oX.1 this
  omega
 ·rintro rfl
  simp [lO]
theorem s5 {neg:Bool} {a:Int} (h:0≤a):((c8 neg a).natAbs:Int)=a:=by
 unfold c8
 cases neg<;>simp<;>omega
theorem ID {neg:Bool} {a:Int} (h:0≤a):(⟨neg && decide (0<a),L a⟩:cZ)=fa (c8 neg a):=by
 unfold fa
 rw [s5 h]
 congr 1
 unfold c8
 cases neg
 ·simp;omega
 ·simp
theorem Rd {a:Int} (h:0≤a) (lo:a<B 60):sx (L a)=some (L a):=by
 have aM:=(fF h).2 lo
 unfold sx
 rw [nA (fv _) (by omega),cX h]
 simp only [Option.bind_eq_bind,Option.bind_some,ft]
 rw [if_neg (by simp;omega)]
theorem nG {neg:Bool} {a:Int} (h:0≤a) (lo:a<B 60):gA neg (L a)=some (fa (c8 neg a)):=by
 have aM:=(fF h).2 lo
 unfold gA
 rw [Rd h lo]
 simp only [Option.bind_eq_bind,Option.bind_some,ft,List.nil_append]
 have a8:(L a).length*8≤140737488355328:=by omega
 rw [← ID h,← HL h]
 cases neg<;>simp [a8]
theorem n3 {neg:Bool} {a:Int} (h:0≤a):jz neg (L a)=some (fa (c8 neg a)):=by
 unfold jz
 rw [← ID h,ft,HL h]
 cases neg<;>simp
theorem I5 {a b:Int}:c8 (!(decide (a<0) == decide (b<0))) ((a.natAbs:Int)*(b.natAbs:Int))=a*b:=by
 unfold c8
 by_cases bH:a<0
 ·have e1:(a.natAbs:Int) = -a:=by omega
  by_cases aT:b<0
  ·have e2:(b.natAbs:Int) = -b:=by omega
   rw [e1,e2]
   simp [bH,aT,Int.neg_mul,Int.mul_neg]
  ·have e2:(b.natAbs:Int)=b:=by omega
   rw [e1,e2]
   simp [bH,aT,Int.neg_mul,Int.mul_neg]
 ·have e1:(a.natAbs:Int)=a:=by omega
  by_cases aT:b<0
  ·have e2:(b.natAbs:Int) = -b:=by omega
   rw [e1,e2]
   simp [bH,aT,Int.neg_mul,Int.mul_neg]
  ·have e2:(b.natAbs:Int)=b:=by omega
   rw [e1,e2]
   simp [bH,aT,Int.neg_mul,Int.mul_neg]
theorem yp {a b:Int}:c8 (decide (a<0)) ((a.natAbs:Int)*b)=a*b:=by
 unfold c8
 by_cases bH:a<0
 ·have e1:(a.natAbs:Int) = -a:=by omega
  rw [e1]
  simp [bH,Int.neg_mul,Int.mul_neg]
 ·have e1:(a.natAbs:Int)=a:=by omega
  rw [e1]
  simp [bH,Int.neg_mul,Int.mul_neg]
def fits (x:Int):Prop:=x<B 24
noncomputable instance (x:Int):Decidable (fits x):=Classical.propDecidable _
noncomputable def low (n d:Int):Option (Int×Int) :=
 if fits ((n / (Int.gcd n d:Int)).natAbs:Int)∧fits (d / (Int.gcd n d:Int)) then some (n / (Int.gcd n d:Int),d / (Int.gcd n d:Int)) else none
theorem sY {n d:Int} (h:0<d):(0:Int)<Int.gcd n d:=by
 have:Int.gcd n d≠0:=by
  rw [Ne,Int.gcd_eq_zero_iff]
  omega
 omega
theorem yq {n d:Int} (h:0<d) : ∃m e,n / (Int.gcd n d:Int)=m∧d / (Int.gcd n d:Int)=e∧n=Int.gcd n d*m∧d=Int.gcd n d*e∧0<e∧(n.natAbs:Int) / (Int.gcd n d:Int)=m.natAbs:=by
 have ef:=sY (n:=n) h
 obtain ⟨m,hm⟩:=Int.gcd_dvd_left (a:=n) (b:=d)
 obtain ⟨e,he⟩:=Int.gcd_dvd_right (a:=n) (b:=d)
 refine ⟨m,e,?_,?_,hm,he,?_,?_⟩
 ·conv=>lhs;lhs;rw [hm]
  exact Int.mul_ediv_cancel_left _ (by omega)
 ·conv=>lhs;lhs;rw [he]
  exact Int.mul_ediv_cancel_left _ (by omega)
 ·apply Int.not_le.mp
  intro h1
  have:(Int.gcd n d:Int)*e≤Int.gcd n d*0:=Int.mul_le_mul_of_nonneg_left h1 (by omega)
  omega
 ·have e1:(n.natAbs:Int)=Int.gcd n d*m.natAbs:=by
   conv=>lhs;rw [hm]
   rw [Int.natAbs_mul]
   simp
  rw [e1]
  exact Int.mul_ediv_cancel_left _ (by omega)
theorem DC {n d:Int} (h:0<d) : ∀p,low n d=some p→Fr p:=by
 intro p aj
 obtain ⟨m,e,h1,h2,ag,ap,aE,aQ⟩:=yq (n:=n) h
 have ef:=sY (n:=n) h
 unfold low at aj
 rw [h1,h2] at aj
 split at aj
 ·next a8 =>
  have:=Option.some.inj aj
  subst this
  refine ⟨aE,?_,a8.1,a8.2⟩
  have bd:Int.gcd n d=Int.gcd n d*Int.gcd m e:=by
   have key : ∀g:Nat,Int.gcd ((g:Int)*m) (g*e)=g*Int.gcd m e:=fun g=>by
    rw [Int.gcd_mul_left]
    simp
   have:=key (Int.gcd n d)
   rwa [← ag,← ap] at this
  simp only
  have bL:Int.gcd n d*1=Int.gcd n d*Int.gcd m e:=by omega
  exact (Nat.eq_of_mul_eq_mul_left (by omega) bL).symm
 ·simp at aj
theorem vE {a:Int} (h:0≤a):mT (L a)=some (decide (a=1)):=by
 unfold mT
 simp only [ft]
 by_cases h1:(L a).length=1
 ·have h2:=(fF (k:=1) h).1 (by omega)
  have ag:0<a:=by
   apply Int.not_le.mp
   intro ap
   rw [Jk ap] at h1
   simp at h1
  have aE:a<1000000000:=by simpa [B] using h2
  rw [ym ⟨ag,aE⟩]
  by_cases aQ:a=1<;>simp [aQ]
 ·rw [if_neg (by simp;omega)]
  have:a≠1:=by
   rintro rfl
   rw [ym (by omega)] at h1
   simp at h1
  simp [this]
theorem Du {n d:Int} (h:0≤d):Int.gcd (n.natAbs:Int) d=Int.gcd n d:=by
 simp [Int.gcd]
theorem DD:B 24≤B 60:=mq (by omega)
theorem C5 {neg:Bool} {m e:Int} (hm:0≤m) (he:0≤e):(if (decide ((24:Int)<((L m).length:Nat)))=true then some q7 else if (decide ((24:Int)<((L e).length:Nat)))=true then some q7 else gA neg (L m) >>= fun r=>if (([]:List Int)++L e).length*8≤140737488355328 then some (⟨r,([]:List Int)++L e⟩:bF) else none) =
 some (enc (if fits m∧fits e then some (c8 neg m,e) else none)):=by
 by_cases h1:fits m
 ·have h2:=(fF hm).2 h1
  rw [if_neg (by simp;omega)]
  by_cases ag:fits e
  ·have ap:=(fF he).2 ag
   have:=DD
   unfold fits at h1
   rw [if_neg (by simp;omega),nG hm (by omega),if_pos ⟨h1,ag⟩]
   simp only [Option.bind_eq_bind,Option.bind_some]
   rw [if_pos (by simp;omega)]
   rfl
  ·have ap : ¬(L e).length≤24:=fun h=>ag ((fF he).1 h)
   rw [if_pos (by simp;omega),if_neg (fun h=>ag h.2)]
   rfl
 ·have ap : ¬(L m).length≤24:=fun h=>h1 ((fF hm).1 h)
  rw [if_pos (by simp;omega),if_neg (fun h=>h1 h.1)]
  rfl
theorem I6 {neg:Bool} {p m g:Int} (aj:0≤p) (ef:0<g) (hm:c8 neg p=g*m):c8 neg (m.natAbs:Int)=m:=by
 unfold c8 at hm ⊢
 cases neg
 ·simp at hm ⊢
  have:0≤m:=by
   apply Int.not_lt.mp
   intro h1
   have:g*m≤g*(-1):=Int.mul_le_mul_of_nonneg_left (by omega) (by omega)
   omega
  omega
 ·simp at hm ⊢
  have:m≤0:=by
   apply Int.not_lt.mp
   intro h1
   have:g*1≤g*m:=Int.mul_le_mul_of_nonneg_left (by omega) (by omega)
   omega
  omega
theorem HM {neg:Bool} {p q:Int} (aj:0≤p) (aR:0<q) (EW:(L p).length≤900000) (l4:(L q).length≤900000):kV neg (L p) (L q)=some (enc (low (c8 neg p) q)):=by
 obtain ⟨m,e,h1,h2,ag,ap,aE,aQ⟩:=yq (n:=c8 neg p) aR
 have tE:=I6 aj (sY (n:=c8 neg p) aR) ag
 rw [s5 aj] at aQ
 have ef:Int.gcd p q=Int.gcd (c8 neg p) q:=by rw [← Du (n:=c8 neg p) (by omega),s5 aj]
 have Vb:=sY (n:=c8 neg p) aR
 unfold kV
 rw [nA (fv _) (by omega),cX aj]
 simp only [Option.bind_eq_bind,Option.bind_some]
 rw [nA (fv _) (by omega),cX (by omega)]
 simp only [Option.bind_some,ft]
 have iX : ¬((((L q).length:Nat):Int) == 0)=true:=by
  simp only [beq_iff_eq]
  intro h
  have:=(Eb (n:=q) (by omega)).1 h
  omega
 rw [if_neg iX,vE (by omega)]
 simp only [Option.bind_some]
 have qD:low (c8 neg p) q=if fits (m.natAbs:Int)∧fits e then some (c8 neg (m.natAbs:Int),e) else none:=by
  unfold low
  rw [h1,h2,tE]
 have Jn:Int.gcd (c8 neg p) q=1→(m.natAbs:Int)=p∧e=q:=by
  intro hu
  rw [hu] at h2 aQ
  simp at h2 aQ
  omega
 by_cases kM:q=1
 ·have hu:Int.gcd (c8 neg p) q=1:=by rw [kM];simp
  obtain ⟨ik,ka⟩:=Jn hu
  rw [if_pos (by simpa using kM),qD,ik,ka]
  exact C5 aj (by omega)
 ·rw [if_neg (by simpa using kM),I3 (gV _) (gV _) EW l4,cX aj,cX (by omega)]
  simp only [Option.bind_some]
  rw [vE (by omega)]
  simp only [Option.bind_some]
  by_cases hu:Int.gcd p q=1
  ·obtain ⟨ik,ka⟩:=Jn (by omega)
   rw [if_pos (by simp;omega),qD,ik,ka]
   exact C5 aj (by omega)
  ·rw [if_neg (by simp;omega)]
   have q8:(L (Int.gcd p q)).length≤900000:=by
    have bd:(Int.gcd p q:Int)≤q:=by
     rw [ef]
     have:(Int.gcd (c8 neg p) q:Int)*1≤Int.gcd (c8 neg p) q*e:=Int.mul_le_mul_of_nonneg_left (by omega) (by omega)
     omega
    apply (fF (by omega)).2
    have:=(fF (n:=q) (by omega)).1 l4
    omega
   have wW:L (Int.gcd p q)≠[]:=fun h=>by
    have:=oX.1 h
    omega
   rw [div_eq (gV _) (gV _) wW EW q8,cX aj,cX (by omega)]
   simp only [Option.bind_some]
   rw [div_eq (gV _) (gV _) wW l4 q8,cX (by omega),cX (by omega)]
   simp only [Option.bind_some]
   rw [ef,aQ,h2,qD]
   exact C5 (by omega) (by omega)
theorem RB {neg:Bool} {a:Int} (h:0≤a) (h2:neg=true→0<a):decide (c8 neg a<0)=neg:=by
 unfold c8
 cases neg
 ·simp;omega
 ·have:=h2 rfl
  simp;omega
theorem IE {neg:Bool} {l:List Int} (aM:dF l) (h2:neg=true→l≠[]):(⟨neg,l⟩:cZ)=fa (c8 neg (V l)):=by
 have h:=iq aM.1
 unfold fa
 rw [s5 h,oj aM,RB h (fun bf=>m3 aM (h2 bf))]
theorem N9 {x:cZ} (hm:(x.a9.length:Int)<9223372036854775807) : ∃ok,uy x=some ok∧uE x=some ok∧(ok=true↔ ∃n,x=fa n∧(L n.natAbs).length≤60):=by
 obtain ⟨R,h1,h2,ag⟩:=Hn hm
 unfold uy uE
 rw [h1,h2]
 simp only [Option.bind_eq_bind,Option.bind_some,ft]
 obtain ⟨neg,wX⟩:=x
 simp only at ag ⊢
 have mA:decide ((0:Int)<(wX.length:Nat)) = !((((wX.length:Nat):Int) == 0)):=by
  by_cases h:wX=[]
  ·subst h;rfl
  ·have:=List.length_pos_iff.mpr h
   rw [decide_eq_true (by omega)]
   symm
   simp
   omega
 by_cases al:R=true
 ·obtain ⟨ap,aE⟩:=ag.1 al
  subst al
  cases neg
  ·refine ⟨true,rfl,rfl,?_⟩
   simp only [true_iff]
   refine ⟨_,IE ap (fun h=>by simp at h),?_⟩
   rw [s5 (iq ap.1),oj ap]
   exact aE
  ·refine ⟨decide ((0:Int)<(wX.length:Nat)),rfl,by rw [mA];rfl,?_⟩
   rw [decide_eq_true_iff]
   constructor
   ·intro aj
    refine ⟨_,IE ap (fun _ h=>by subst h;simp at aj),?_⟩
    rw [s5 (iq ap.1),oj ap]
    exact aE
   ·rintro ⟨n,bf,-⟩
    have e1:=congrArg cZ.bM bf
    have e2:=congrArg cZ.a9 bf
    simp only [ye,vk] at e1 e2
    have bp:n<0:=by simpa using e1.symm
    have:wX≠[]:=by
     rw [e2]
     intro h
     have:=oX.1 h
     omega
    have:=List.length_pos_iff.mpr this
    omega
 ·refine ⟨false,by simp [al],by simp [al],?_⟩
  simp only [Bool.false_eq_true,false_iff]
  rintro ⟨n,bf,lo⟩
  have e2:=congrArg cZ.a9 bf
  simp only [vk] at e2
  exact al (ag.2 (e2▸⟨gV _,lo⟩))
theorem CY {r:bF} (hm:r.bm.a9.length≤2000000) (a0:r.bO.length≤2000000) : ∃ok,j0 r=some ok∧u9 r=some ok∧(ok=true↔ ∃p,Fr p∧r=mk p):=by
 obtain ⟨bt,fC,hk,dR⟩:=N9 (x:=r.bm) (by omega)
 obtain ⟨aO,iI,iZ,pk⟩:=Hn (a:=r.bO) (by omega)
 unfold j0 u9
 rw [fC,hk]
 simp only [Option.bind_eq_bind,Option.bind_some,ft]
 by_cases h1:bt=true
 ·rw [if_pos h1,if_pos h1,iI,iZ]
  simp only [Option.bind_some]
  by_cases h2:aO=true
  ·rw [if_pos h2,if_pos h2]
   obtain ⟨n,bf,Uy⟩:=dR.1 h1
   obtain ⟨mK,Uz⟩:=pk.1 h2
   have pd:=iq mK.1
   have Kp:r.bO=L (V r.bO):=(oj mK).symm
   have wU:r.bm.a9=L n.natAbs:=by rw [bf];rfl
   by_cases ag:r.bO=[]
   ·rw [if_pos (by simp [ag]),if_pos (by simp [ag])]
    refine ⟨false,rfl,rfl,?_⟩
    simp only [Bool.false_eq_true,false_iff]
    rintro ⟨p,aj,ao⟩
    have e:r.bO=L p.2:=by rw [ao];rfl
    rw [ag] at e
    have:=oX.1 e.symm
    have:=aj.pos
    omega
   ·have EX:=m3 mK ag
    have EW:=List.length_pos_iff.mpr ag
    have mE : ¬((((r.bO.length:Nat):Int) == 0)=true):=by simp [ag]
    rw [if_neg mE,if_neg mE]
    by_cases ap:24<r.bO.length
    ·rw [if_pos (by simp;omega)]
     have j4 : ¬∃p,Fr p∧r=mk p:=by
      rintro ⟨p,aj,ao⟩
      have e:r.bO=L p.2:=by rw [ao];rfl
      have:=(fF (k:=24) (by have:=aj.pos;omega)).2 aj.den
      rw [← e] at this
      omega
     refine ⟨false,rfl,?_,by simp [j4]⟩
     by_cases aE:24<r.bm.a9.length
     ·rw [if_pos (by simp;omega)]
     ·rw [if_neg (by simp;omega),if_pos (by simp;omega)]
    ·rw [if_neg (by simp;omega)]
     by_cases aE:24<r.bm.a9.length
     ·rw [if_pos (by simp;omega),if_pos (by simp;omega)]
      refine ⟨false,rfl,rfl,?_⟩
      simp only [Bool.false_eq_true,false_iff]
      rintro ⟨p,aj,ao⟩
      have e:r.bm.a9=L p.1.natAbs:=by rw [ao];rfl
      have:=(fF (k:=24) (by omega)).2 aj.num
      rw [← e] at this
      omega
     ·rw [if_neg (by simp;omega),if_neg (by simp;omega),if_neg (by simp;omega)]
      rw [wU] at aE ⊢
      rw [I3 (gV _) mK (by omega) (by omega),Hp (gV _) mK (by omega) (by omega),cX (by omega),Du pd]
      simp only [Option.bind_some]
      have ef:=sY (n:=n) EX
      have S7:dF [1]:=dF.one (by omega)
      have q8:(L (Int.gcd n (V r.bO))).length≤5000000:=by
       have bd:(Int.gcd n (V r.bO):Int)≤V r.bO:=Int.le_of_dvd EX (Int.gcd_dvd_right ..)
       have:=(fF (k:=24) (by omega)).2 (show (Int.gcd n (V r.bO):Int)<B 24 by
        have:=(mK.len (k:=24)).1 (by omega)
        omega)
       omega
      rw [vE (by omega),xU (gV _) S7 q8,cX (by omega)]
      have nl:V [1]=1:=by decide
      rw [nl]
      simp only [Option.bind_some]
      refine ⟨decide ((Int.gcd n (V r.bO):Int)=1),rfl,?_,?_⟩
      ·congr 1
       rw [Bool.eq_iff_iff]
       simp [C4]
      ·rw [decide_eq_true_iff]
       constructor
       ·intro hu
        refine ⟨(n,V r.bO),⟨EX,by simp only;omega,(fF (by omega)).1 (by simp only;omega),(mK.len).1 (by omega)⟩,?_⟩
        obtain ⟨num,den⟩:=r
        simp only at bf Kp ⊢
        unfold mk
        simp only
        rw [← Kp,← bf]
       ·rintro ⟨p,aj,ao⟩
        have e:r.bO=L p.2:=by rw [ao];rfl
        have e2:r.bm=fa p.1:=by rw [ao];rfl
        have bp:V r.bO=p.2:=by rw [e,cX (by have:=aj.pos;omega)]
        have cp:n=p.1:=by
         rw [bf] at e2
         have f1:=congrArg cZ.bM e2
         have f2:=congrArg cZ.a9 e2
         simp only [ye,vk] at f1 f2
         have f3:=congrArg V f2
         rw [cX (by omega),cX (by omega)] at f3
         have f4:n<0↔p.1<0:=by
          constructor
          ·intro h;simpa [h] using f1.symm
          ·intro h;simpa [h] using f1
         omega
        rw [bp,cp,aj.Ko]
        rfl
  ·refine ⟨false,by simp [h2],by simp [h2],?_⟩
   simp only [Bool.false_eq_true,false_iff]
   rintro ⟨p,aj,ao⟩
   have e:r.bO=L p.2:=by rw [ao];rfl
   have:=(fF (k:=24) (by have:=aj.pos;omega)).2 aj.den
   exact h2 (pk.2 (e▸⟨gV _,by omega⟩))
 ·refine ⟨false,by simp [h1],by simp [h1],?_⟩
  simp only [Bool.false_eq_true,false_iff]
  rintro ⟨p,aj,ao⟩
  have e2:r.bm=fa p.1:=by rw [ao];rfl
  have:=(fF (k:=24) (n:=p.1.natAbs) (by omega)).2 aj.num
  exact h1 (dR.2 ⟨p.1,e2,by omega⟩)
def hh (x:Option (Int×Int)):Prop:= ∀p,x=some p→Fr p
theorem Fr.lX {p:Int×Int} (h:Fr p):(L p.1.natAbs).length≤24:=(fF (by omega)).2 h.num
theorem Fr.lD {p:Int×Int} (h:Fr p):(L p.2).length≤24:=(fF (by have:=h.pos;omega)).2 h.den
theorem Re:j0 q7=some false:=by
 obtain ⟨R,ag,-,ap⟩:=CY (r:=q7) (by simp [q7]) (by simp [q7])
 rw [ag]
 congr 1
 cases R with
 | false=>rfl
 | true =>
  obtain ⟨p,aj,ao⟩:=ap.1 rfl
  have e:[]=L p.2:=congrArg bF.bO ao
  have:=oX.1 e.symm
  have:=aj.pos
  omega
theorem qs {x:Option (Int×Int)} (h:hh x):j0 (enc x)=some x.isSome:=by
 cases x with
 | none=>exact Re
 | some p =>
  have aj:=h p rfl
  have h1:=aj.lX
  have h2:=aj.lD
  obtain ⟨R,ag,-,ap⟩:=CY (r:=mk p) (show (L p.1.natAbs).length≤_ by omega) (show (L p.2).length≤_ by omega)
  have:R=true:=ap.2 ⟨p,aj,rfl⟩
  subst this
  exact ag
theorem QS {r:bF} (hm:r.bm.a9.length≤2000000) (a0:r.bO.length≤2000000):(∃p,Fr p∧r=mk p∧j0 r=some true∧n0 r=some (some (hD p)))∨(j0 r=some false∧n0 r=some none):=by
 obtain ⟨R,h1,h2,ag⟩:=CY hm a0
 cases R with
 | false =>
  refine .inr ⟨h1,?_⟩
  unfold n0
  rw [h2]
  rfl
 | true =>
  obtain ⟨p,aj,ao⟩:=ag.1 rfl
  refine .inl ⟨p,aj,ao,h1,?_⟩
  unfold n0
  rw [h2]
  subst ao
  rfl
theorem RC (m n:Nat):B m*B n=B (m+n):=(vL m n).symm
theorem oS {x y:Int} {m n:Nat} (af:0≤x) (aF:0≤y) (h1:x<B m) (h2:y<B n):(L (x*y)).length≤m+n:=by
 apply (fF (Int.mul_nonneg af aF)).2
 rw [← RC]
 have ag:x*y≤(B m-1)*(B n-1):=Int.mul_le_mul (by omega) (by omega) aF (by omega)
 have ap:(B m-1)*(B n-1)=B m*B n-B m-B n+1:=by grind
 have aE:=kk m
 have aQ:=kk n
 omega
noncomputable def kJ (x y:Option (Int×Int)):Option (Int×Int):=x.bind fun p=>y.bind fun q=>low (p.1*q.1) (p.2*q.2)
theorem C6 {p q:Int×Int}:kJ (some p) (some q)=low (p.1*q.1) (p.2*q.2):=by
 unfold kJ
 rw [Option.bind_some,Option.bind_some]
theorem Pe (r s:bF) {a b:Int} (bH:0≤a) (aT:0<b) (h1:hr r.bm.a9 s.bm.a9=some (L a)) (h2:hr r.bO s.bO=some (L b)) (ag:(L a).length≤900000) (ap:(L b).length≤900000):pZ r s=some (enc (low (c8 (!(r.bm.bM == s.bm.bM)) a) b)):=by
 unfold pZ
 rw [h1]
 simp only [Option.bind_eq_bind,Option.bind_some]
 rw [h2]
 simp only [Option.bind_some]
 rw [HM bH aT ag ap]
 simp only [Option.bind_some]
theorem PS {p q:Int×Int} (aj:Fr p) (aR:Fr q):pZ (mk p) (mk q)=some (enc (low (p.1*q.1) (p.2*q.2))):=by
 have h1:=aj.lX
 have h2:=aj.lD
 have ag:=aR.lX
 have ap:=aR.lD
 have aE:=aj.pos
 have aQ:=aR.pos
 have bd:=oS (x:=p.1.natAbs) (y:=q.1.natAbs) (by omega) (by omega) aj.num aR.num
 have bL:=oS (x:=p.2) (y:=q.2) (by omega) (by omega) aj.den aR.den
 have e1:hr (L p.1.natAbs) (L q.1.natAbs)=some (L ((p.1.natAbs:Int)*q.1.natAbs)):=by
  rw [mul_eq (fv _) (fv _) (by omega) (by omega),cX (by omega),cX (by omega)]
 have e2:hr (L p.2) (L q.2)=some (L (p.2*q.2)):=by
  rw [mul_eq (fv _) (fv _) (by omega) (by omega),cX (by omega),cX (by omega)]
 have:=Pe (mk p) (mk q) (a:=(p.1.natAbs:Int)*q.1.natAbs) (b:=p.2*q.2) (Int.mul_nonneg (by omega) (by omega)) (Int.mul_pos aE aQ) e1 e2 (by omega) (by omega)
 rw [this]
 have bp:c8 (!((mk p).bm.bM == (mk q).bm.bM)) ((p.1.natAbs:Int)*q.1.natAbs)=p.1*q.1:=I5
 rw [bp]
theorem C7 {x y:Option (Int×Int)} (af:hh x) (aF:hh y):p3 (enc x) (enc y)=some (enc (kJ x y)):=by
 unfold p3
 rw [qs af,qs aF]
 cases x with
 | none =>
  simp only [Option.isSome_none,Option.bind_eq_bind,Option.bind_some,Bool.false_eq_true,if_false]
  rfl
 | some p =>
  cases y with
  | none =>
   simp only [Option.isSome_none,Option.isSome_some,Option.bind_eq_bind,Option.bind_some,Bool.false_eq_true,if_false,if_true]
   rfl
  | some q =>
   simp only [Option.bind_eq_bind,Option.bind_some,Option.isSome_some,if_true]
   show (pZ (mk p) (mk q)).bind _=_
   rw [PS (af p rfl) (aF q rfl),C6]
   simp only [Option.bind_some]
theorem mZ {x y:Option (Int×Int)} (af:hh x) (aF:hh y):hh (kJ x y):=by
 intro r ao
 cases x with
 | none=>simp [kJ] at ao
 | some p =>
  cases y with
  | none=>simp [kJ] at ao
  | some q =>
   rw [C6] at ao
   exact DC (Int.mul_pos (af p rfl).pos (aF q rfl).pos) r ao
theorem xZ {n d:Int} (a0:0<d) (qR:(L n.natAbs).length≤900000) (wY:(L d).length≤900000):ny (fa n) (L d)=some (some (hD (n / (Int.gcd n d:Int),d / (Int.gcd n d:Int)))):=by
 obtain ⟨m,e,h1,h2,ag,ap,aE,aQ⟩:=yq (n:=n) a0
 have ef:=sY (n:=n) a0
 rw [h1,h2]
 unfold ny
 simp only [vk,ye,ft]
 by_cases bf:n=0
 ·subst bf
  have S8:(Int.gcd 0 d:Int)=d:=by rw [Int.gcd_comm,yo (by omega)]
  rw [S8] at ag ap
  have hm:m=0:=by
   rcases Int.mul_eq_zero.1 ag.symm with h|h<;>omega
  have he:e=1:=by
   have:d*e=d*1:=by omega
   exact Int.eq_of_mul_eq_mul_left (by omega) this
  subst hm he
  rw [if_pos (by simp [lO])]
  unfold hD fa
  simp only [Int.natAbs_zero]
  rw [ym (x:=1) (by omega),show ((0:Nat):Int)=0 from rfl,lO]
  rfl
 ·have R8 : ¬((((L n.natAbs).length:Nat):Int) == 0)=true:=by
   simp only [beq_iff_eq]
   intro h
   have:=(Eb (n:=n.natAbs) (by omega)).1 h
   omega
  rw [if_neg R8,Hp (gV _) (gV _) qR wY,cX (by omega),cX (by omega),Du (by omega)]
  simp only [Option.bind_eq_bind,Option.bind_some]
  have q8:(L (Int.gcd n d)).length≤900000:=by
   have bd:(Int.gcd n d:Int)≤d:=Int.le_of_dvd a0 (Int.gcd_dvd_right ..)
   apply (fF (by omega)).2
   have:=(fF (n:=d) (by omega)).1 wY
   omega
  rw [xU (gV _) (dF.one (by omega)) (by omega),cX (by omega),show V [1]=1 by decide]
  simp only [Option.bind_some]
  by_cases hu:(Int.gcd n d:Int)=1
  ·rw [if_pos (by simpa using C4.2 hu)]
   rw [hu] at ag ap
   rw [Int.one_mul] at ag ap
   subst ag ap
   rfl
  ·rw [if_neg (fun h=>hu (C4.1 (by simpa using h)))]
   have wW:L (Int.gcd n d)≠[]:=fun h=>by
    have:=oX.1 h
    omega
   rw [Dt (gV _) (gV _) wW qR q8,cX (by omega),cX (by omega)]
   simp only [Option.bind_some]
   rw [Dt (gV _) (gV _) wW wY q8,cX (by omega),cX (by omega)]
   simp only [Option.bind_some]
   rw [aQ,h2,n3 (by omega)]
   simp only [Option.bind_some]
   have cy:c8 (decide (n<0)) (m.natAbs:Int)=m:=by
    refine I6 (p:=n.natAbs) (g:=Int.gcd n d) (by omega) ef ?_
    rw [← ag]
    unfold c8
    by_cases h:n<0<;>simp [h]<;>omega
   rw [cy]
   rfl
theorem Rf {m e:Int} (he:0≤e):nF (some (hD (m,e)))=some (gx (if fits (m.natAbs:Int)∧fits e then some (m,e) else none)):=by
 have cy:nF (some (hD (m,e)))=if (decide ((24:Int)<len_ I (L m.natAbs)))=true then some none else if (decide ((24:Int)<len_ I (L e)))=true then some none else some (some (hD (m,e))):=rfl
 rw [cy,ft,ft]
 by_cases h1:fits (m.natAbs:Int)
 ·have h2:=(fF (by omega)).2 h1
  rw [if_neg (by simp;omega)]
  by_cases ag:fits e
  ·have ap:=(fF he).2 ag
   rw [if_neg (by simp;omega),if_pos ⟨h1,ag⟩]
   rfl
  ·have ap : ¬(L e).length≤24:=fun h=>ag ((fF he).1 h)
   rw [if_pos (by simp;omega),if_neg (fun h=>ag h.2)]
   rfl
 ·have ap : ¬(L m.natAbs).length≤24:=fun h=>h1 ((fF (by omega)).1 h)
  rw [if_pos (by simp;omega),if_neg (fun h=>h1 h.1)]
  rfl
theorem DE {n d:Int} (a0:0<d) (qR:(L n.natAbs).length≤900000) (wY:(L d).length≤900000):(ny (fa n) (L d)).bind (fun r=>nF r)=some (gx (low n d)):=by
 obtain ⟨m,e,h1,h2,ag,ap,aE,aQ⟩:=yq (n:=n) a0
 rw [xZ a0 qR wY,Option.bind_some,h1,h2,Rf (by omega)]
 unfold low
 rw [h1,h2]
theorem PT {a b:Int} (bH:(L a.natAbs).length≤900000) (aT:(L b.natAbs).length≤900000):ug (fa a) (fa b)=some (fa (a*b)):=by
 unfold ug
 simp only [vk,ye]
 rw [vi (fv _) (fv _) (by omega) (by omega),cX (by omega),cX (by omega)]
 simp only [Option.bind_eq_bind,Option.bind_some]
 rw [n3 (Int.mul_nonneg (by omega) (by omega)),I5]
 rfl
theorem Dv {x y:Option (Int×Int)} (af:hh x) (aF:hh y):qj (gx x) (gx y)=some (gx (kJ x y)):=by
 cases x with
 | none=>rfl
 | some p =>
  cases y with
  | none=>rfl
  | some q =>
   have aj:=af p rfl
   have aR:=aF q rfl
   have h1:=aj.lX
   have h2:=aj.lD
   have ag:=aR.lX
   have ap:=aR.lD
   have aE:=aj.pos
   have aQ:=aR.pos
   have bd:=oS (x:=p.1.natAbs) (y:=q.1.natAbs) (by omega) (by omega) aj.num aR.num
   have bL:=oS (x:=p.2) (y:=q.2) (by omega) (by omega) aj.den aR.den
   unfold qj xv
   simp only [gx,Option.map_some,Option.elim_some,Option.bind_eq_bind,Option.bind_some,hD]
   rw [PT (by omega) (by omega)]
   simp only [Option.bind_some]
   rw [vi (fv _) (fv _) (by omega) (by omega),cX (by omega),cX (by omega)]
   simp only [Option.bind_some]
   have:=DE (n:=p.1*q.1) (d:=p.2*q.2) (Int.mul_pos aE aQ) (by rw [Int.natAbs_mul,Int.natCast_mul];omega) (by omega)
   rw [xZ (Int.mul_pos aE aQ) (by rw [Int.natAbs_mul,Int.natCast_mul];omega) (by omega)] at this ⊢
   simp only [Option.bind_some] at this ⊢
   rw [this,C6]
   simp only [Option.bind_some,gx]
theorem IF:(1000000000000000000000000000:Int)≤B 24:=by
 have h:B 3≤B 24:=mq (by omega)
 have ag:B 3=1000000000000000000000000000:=by decide
 omega
theorem QT:(1000000000000000000000000000:Int)≤B 60:=by
 have:=DD
 have:=IF
 omega
theorem ON {n:Int} (h:la n):uC n=some (fa n):=by
 obtain ⟨h1,h2⟩:=oP.1 h
 have aT:=QT
 unfold uC
 by_cases hm:n = -9223372036854775808
 ·rw [if_pos (by simpa using hm)]
  have e:([854775808,223372036,9]:List Int)=L 9223372036854775808:=o0 ⟨by intro x af;simp at af;omega,by simp⟩ (by decide)
  rw [e,nG (by omega) (by omega)]
  subst hm
  rfl
 ·rw [if_neg (by simpa using hm)]
  by_cases bf:n<0
  ·rw [if_pos (by simpa using bf),cf (by omega) (by omega),sQ (by omega) (by omega)]
   simp only [Option.bind_eq_bind,Option.bind_some]
   rw [nG (by omega) (by omega)]
   simp only [Option.bind_some]
   congr 2
   unfold c8
   simp
  ·rw [if_neg (by simpa using bf),sQ (by omega) (by omega)]
   simp only [Option.bind_eq_bind,Option.bind_some]
   rw [nG (by omega) (by omega)]
   simp only [Option.bind_some]
   congr 2
theorem Pf {n:Int} (h:la n):uR n=some (fa n):=by
 obtain ⟨h1,h2⟩:=oP.1 h
 unfold uR
 by_cases bf:n<0
 ·rw [if_pos (by simpa using bf),cf (x:=n+1) (by omega) (by omega),cf (x:=0-(n+1)) (by omega) (by omega),vN (x:=0-(n+1)) (by omega) (by omega),vN (by omega) (by omega),CW (by omega) (by omega)]
  simp only [Option.bind_eq_bind,Option.bind_some]
  rw [n3 (by omega)]
  simp only [Option.bind_some]
  congr 2
  unfold c8
  simp
  omega
 ·rw [if_neg (by simpa using bf),vN (by omega) (by omega),CW (by omega) (by omega)]
  simp only [Option.bind_eq_bind,Option.bind_some]
  rw [n3 (by omega)]
  simp only [Option.bind_some]
  congr 2
theorem DP:L 1=[1]:=ym (by omega)
theorem GC {n:Int} (h:la n):r9 n=some (mk (n,1)):=by
 unfold r9
 rw [ON h]
 simp only [Option.bind_eq_bind,Option.bind_some,mk,DP]
theorem Ig {n:Int} (h:la n):sG n=some (some (hD (n,1))):=by
 unfold sG
 rw [Pf h]
 simp only [Option.bind_eq_bind,Option.bind_some,hD,DP]
theorem Rg {n:Int} (h:la n):Fr (n,1):=by
 obtain ⟨h1,h2⟩:=oP.1 h
 have aT:=IF
 exact ⟨by simp,by simp,by simp only;omega,by simp only;omega⟩
theorem x3 {p:Int×Int} {d:Int} (a0:0≤d) (h1:(L p.1.natAbs).length≤900000) (h2:(L d).length≤900000):ma (some (hD p)) (L d)=some (fa (p.1*d)):=by
 have e1:lJ (hD p).m6.a9 (L d)=some (L ((p.1.natAbs:Int)*d)):=by
  show lJ (L p.1.natAbs) (L d)=_
  rw [vi (fv _) (fv _) (by omega) (by omega),cX (by omega),cX (by omega)]
 have zy:0≤(p.1.natAbs:Int)*d:=Int.mul_nonneg (by omega) (by omega)
 have bp:jz (hD p).m6.bM (L ((p.1.natAbs:Int)*d))=some (fa (p.1*d)):=by
  show jz (decide (p.1<0)) _=_
  rw [n3 zy,yp]
 unfold ma
 rw [Option.bind_eq_bind,Option.bind_some,e1,Option.bind_eq_bind,Option.bind_some,bp]
 rfl
theorem DF {a d:Int} (a0:0≤d):((a*d).natAbs:Int)=(a.natAbs:Int)*d:=by
 rw [Int.natAbs_mul,Int.natCast_mul]
 congr 1
 omega
theorem vl (n bD bj:Int):lu n bD bj=some (decide (bD≤n∧n≤bj)):=by
 unfold lu
 by_cases h:bD≤n<;>simp [h]
theorem x4 {α β:Type} {t:Nat→α→Option β} : ∀(l:List α) (k:Nat),(∀n x,l[n]? = some x→t (k+n) x=none)→scan t k l=none
 | [],_,_=>rfl
 | x::l,k,h=>by
  have h0:=h 0 x rfl
  simp only [Nat.add_zero] at h0
  simp only [scan,h0]
  exact x4 l (k+1) fun n y aF=>by rw [show k+1+n=k+(n+1) by omega];exact h (n+1) y (by simpa using aF)
theorem GY (l:List Int) (h:l.length≤1048576):sE l l=some true:=by
 have h1:Cw l l 0=some (.inl ()):=by
  have:=xY (f:=fun w=>rT l l w) (t:=fun _ _=>none) (e:= .inl ()) l 0 (fun n x af=>by
   have bf:=dT af
   have hw:U ((n:Int)+1)=((n+1:Nat):Int):=by rw [cf (by omega) (by omega)];rfl
   simp only [rT,dM,Nat.zero_add,hw]
   simp [bf]) (by simp [rT,dM])
  rw [x4 l 0 (fun _ _ _=>rfl)] at this
  exact this
 simp [sE,h1]
theorem Ov (j:bg):uT j j=some true:=by simp [uT]
theorem Oa (j:bR):uH j j=some true:=by simp [uH]
theorem Ob (l:List bg) (h:l.length≤1048576):uG l l=some true:=by
 have h1:B4 l l 0=some (.inl ()):=by
  have:=xY (f:=fun w=>rJ l l w) (t:=fun _ _=>none) (e:= .inl ()) l 0 (fun n x af=>by
   have bf:=dT af
   have hw:U ((n:Int)+1)=((n+1:Nat):Int):=by rw [cf (by omega) (by omega)];rfl
   simp only [rJ,dM,Nat.zero_add,hw]
   simp [bf,Ov]) (by simp [rJ,dM])
  rw [x4 l 0 (fun _ _ _=>rfl)] at this
  exact this
 simp [uG,h1]
theorem NY (l:List bR) (h:l.length≤1048576):uv l l=some true:=by
 have h1:BP l l 0=some (.inl ()):=by
  have:=xY (f:=fun w=>rC l l w) (t:=fun _ _=>none) (e:= .inl ()) l 0 (fun n x af=>by
   have bf:=dT af
   have hw:U ((n:Int)+1)=((n+1:Nat):Int):=by rw [cf (by omega) (by omega)];rfl
   simp only [rC,dM,Nat.zero_add,hw]
   simp [bf,Oa]) (by simp [rC,dM])
  rw [x4 l 0 (fun _ _ _=>rfl)] at this
  exact this
 simp [uv,h1]
theorem Nr (s:c4) (h1:s.a6.length≤1048576) (h2:s.b9.length≤1048576):oC s s=some true:=by
 simp [oC,Ob _ h1,NY _ h2]
theorem Ow (j:bg) (left:Int) (aS:j.ed.size≤maxLen) (h0:0≤left) (h1:left≤1048576) : ∃r,uL j left=some r∧r≤left:=by
 have hm:j.ed.size<9223372036854775808:=by have:maxLen=9223372036854775807:=by decide
                                           omega
 have hw:U (left-j.ed.size)=left-j.ed.size:=cf (by omega) (by omega)
 unfold uL
 rw [hw]
 by_cases h:left-(j.ed.size:Int)<0
 ·exact ⟨-1,by simp [h],by omega⟩
 ·exact ⟨left-j.ed.size,by simp [h],by omega⟩
theorem GD (l:List bg) (left:Int) (aM:l.length≤maxLen) (aS : ∀j∈l,j.ed.size≤maxLen) (h0:0≤left) (h1:left≤1048576) :
 ∃r,ux l left=some r∧r≤left∧(0≤r→l.length≤1048576):=by
 have hm:maxLen=9223372036854775807:=by decide
 have hw:U (left-(l.length:Nat))=left-(l.length:Nat):=cf (by omega) (by omega)
 unfold ux
 simp only [dM,hw]
 by_cases h:left-(l.length:Int)<0
 ·exact ⟨-1,by simp [h],by omega,by omega⟩
 ·obtain ⟨r,r1,r2⟩:=gg (f:=fun w:Int×Int=>pw l w.1 w.2) (fun w=>0≤w.1∧w.1≤left∧0≤w.2∧w.2≤l.length) (fun w=>(l.length-w.2).toNat)
   (fun r=>match r with | .inl a=>a≤left | .inr _=>True) (fun w hw=>by
     obtain ⟨a,i⟩:=w
     simp only at hw
     obtain ⟨ns,pq,tR,KD⟩:=hw
     by_cases bj:i<l.length
     ·obtain ⟨x,af⟩ : ∃x,l[i.toNat]? = some x:=⟨_,List.getElem?_eq_getElem (by omega)⟩
      obtain ⟨r,s1,s2⟩:=Ow x a (aS x (List.mem_of_getElem? af)) ns (by omega)
      obtain ⟨bf,rfl⟩:=List.getElem?_eq_some_iff.1 af
      have Ez:U (i+1)=i+1:=cf (by omega) (by omega)
      by_cases ao:r<0
      ·right
       exact ⟨.inr (),by simp [pw,dM,bj,tR,af,s1,ao],trivial⟩
      ·left
       refine ⟨(r,i+1),by simp [pw,dM,bj,tR,af,s1,ao,Ez],?_,?_⟩
       ·simp only;omega
       ·simp only;omega
     ·right
      exact ⟨.inl a,by simp [pw,dM,bj],by simpa using pq⟩) (left-(l.length:Nat),0) (by simp only;omega)
  have EY:BQ l (left-(l.length:Nat)) 0=some r:=r1
  rw [EY]
  cases r with
  | inl a=>exact ⟨a,by simp [h],r2,by omega⟩
  | inr a=>exact ⟨-1,by simp [h],by omega,by omega⟩
theorem Gt (l:List bR) (left:Int) (aM:l.length≤maxLen) (h0:0≤left) (h1:left≤1048576) :
 ∃r,uq l left=some r∧r≤left∧(0≤r→l.length≤1048576):=by
 have hm:maxLen=9223372036854775807:=by decide
 have hw:U (left-(l.length:Nat))=left-(l.length:Nat):=cf (by omega) (by omega)
 unfold uq
 simp only [dM,hw]
 by_cases h:left-(l.length:Int)<0
 ·exact ⟨-1,by simp [h],by omega,by omega⟩
 ·exact ⟨left-(l.length:Nat),by simp [h],by omega,by omega⟩
theorem Ns (s:c4) (i0:mS s) (left:Int) (h0:0≤left) (h1:left≤1048576) :
 ∃r,pK s left=some r∧(0≤r→s.a6.length≤1048576∧s.b9.length≤1048576):=by
 obtain ⟨⟨fC,hk⟩,dR,ei⟩:=i0
 obtain ⟨r,r1,r2,a2⟩:=GD s.a6 left fC (fun j aS=>(hk j aS).1) h0 h1
 unfold pK
 rw [r1]
 by_cases h:r<0
 ·exact ⟨-1,by simp [h],by omega⟩
 ·obtain ⟨q,q1,q2,nn⟩:=Gt s.b9 r dR (by omega) (by omega)
  by_cases aR:q<0
  ·exact ⟨-1,by simp [h,q1,aR],by omega⟩
  ·exact ⟨q,by simp [h,q1,aR],fun _=>⟨a2 (by omega),nn (by omega)⟩⟩
theorem sJ:maxLen=9223372036854775807:=by decide
theorem Pg (n:Int):sn n=lu n (-50) 50:=by
 rw [vl]
 unfold sn
 by_cases h : -50≤n<;>simp [h]
theorem OO (c:Int):uD c=some (decide (97≤c∧c≤122)):=by
 unfold uD
 by_cases h:97≤c<;>simp [h]
theorem Ph (c:Int):uO c=some (decide (48≤c∧c≤57)):=by
 unfold uO
 by_cases h:48≤c<;>simp [h]
theorem OP (s:ByteArray) (i:Int):ub s s.size i=oy s i:=by
 unfold ub oy
 generalize ((s.data.toList.getD i.toNat 0).toNat:Int)=c
 simp only [OO,Ph,Option.bind_eq_bind,Option.bind_some]
 by_cases h1:i<(s.size:Int)<;>by_cases h0:0≤i<;>by_cases a:(97:Int)≤c<;>by_cases b:c≤122<;>by_cases d:i=0<;>by_cases e:c<48<;>by_cases f:57<c <;>
  simp [h1,h0,a,b,d,e,f,Int.not_lt.1,Int.not_le]<;>omega
theorem PU (s:ByteArray):uX s=pY s:=by
 have h:xE s s.size 0=ur s 0:=by
  unfold xE ur
  congr 1
  funext w
  exact OP s w
 unfold uX pY
 rw [h]
 congr 1
 funext r
 cases r with
 | inr a=>rfl
 | inl a =>
  simp only [vl,Option.bind_eq_bind,Option.bind_some]
  by_cases h0:s.size=0
  ·have:s=⟨#[]⟩:=by
    cases s with
    | mk d=>simp only [ByteArray.size] at h0;rw [Array.size_eq_zero_iff] at h0;rw [h0]
   subst this
   have e0:(ByteArray.mk #[]).size=0:=rfl
   simp [e0]
  ·have eR:s.toList≠(⟨#[]⟩:ByteArray).toList:=by
    intro e
    have aM : ∀x:ByteArray,x.toList.length=x.size:=by intro x;rw [ByteArray.toList_eq];rfl
    have:=aM s
    rw [e,aM] at this
    exact h0 this.symm
   simp only [beq_iff_eq,eR,Bool.not_eq_true',beq_eq_false_iff_ne,ne_eq,not_false_eq_true,if_true]
   congr 1
   apply decide_eq_decide.2
   omega
theorem OQ (s:ByteArray) (cy:s.size≤maxLen) : ∃r,pY s=some r:=by
 have hm:=sJ
 obtain ⟨r,h,-⟩:=gg (f:=fun w=>oy s w) (fun i=>0≤i∧i≤s.size) (fun i=>(s.size-i).toNat) (fun _=>True) (fun i bj=>by
  obtain ⟨h0,h1⟩:=bj
  by_cases h2:i<(s.size:Int)
  ·have hw:U (i+1)=i+1:=cf (by omega) (by omega)
   unfold oy
   generalize ((s.data.toList.getD i.toNat 0).toNat:Int)=c
   have RD:0≤i+1∧i+1≤(s.size:Int):=by omega
   have l1:((s.size:Int)-(i+1)).toNat<((s.size:Int)-i).toNat:=by omega
   have key : ∀x:Option (Int⊕(Unit⊕Unit)),(x=some (.inl (i+1))∨x=some (.inr (.inr ())))→(∃cV,x=some (.inl cV)∧(0≤cV∧cV≤(s.size:Int))∧((s.size:Int)-cV).toNat<((s.size:Int)-i).toNat)∨ ∃r,x=some (.inr r)∧True:=by
    intro x af
    rcases af with af|af
    ·exact .inl ⟨i+1,af,RD,l1⟩
    ·exact .inr ⟨_,af,trivial⟩
   apply key
   simp only [h2,h0,hw,decide_true,if_true,and_self]
   by_cases a:(97:Int)≤c<;>by_cases b:c≤122<;>by_cases d:i=0<;>by_cases e:c<48<;>by_cases f:57<c<;>simp [a,b,d,e,f]
  ·exact .inr ⟨.inl (),by simp [oy,h2],trivial⟩) 0 (by omega)
 have cx:ur s 0=some r:=h
 unfold pY
 rw [cx]
 cases r with
 | inl a=>exact ⟨_,by simp [vl];rfl⟩
 | inr a=>exact ⟨_,rfl⟩
theorem Pj (j:bg):uP j=mP j:=by
 unfold uP mP
 simp only [PU,Pg]
theorem GI (j:bg) (h:j.ed.size≤maxLen) : ∃r,mP j=some r:=by
 obtain ⟨r,ao⟩:=OQ _ h
 unfold mP
 simp only [ao,vl,Option.bind_eq_bind,Option.bind_some]
 repeat' split
 all_goals exact ⟨_,rfl⟩
theorem Oc (s:c4) (n:ByteArray):um s n=pN s n:=by
 have h:xf s.a6 n (len_ aG s.a6) 0=rV n s.a6 (len_ aG s.a6) 0:=by
  unfold xf rV
  congr 1
 unfold um pN xg
 rw [h]
 cases rV n s.a6 (len_ aG s.a6) 0 with
 | none=>rfl
 | some r=>cases r<;>rfl
theorem Gh (s:c4) (n:ByteArray) (h:s.a6.length≤maxLen) : ∃r,pN s n=some r:=by
 have hm:=sJ
 obtain ⟨r,h1,-⟩:=gg (f:=fun w=>ry n s.a6 (len_ aG s.a6) w) (fun i=>0≤i∧i≤s.a6.length) (fun i=>(s.a6.length-i).toNat) (fun _=>True) (fun i bj=>by
  obtain ⟨h0,h1⟩:=bj
  by_cases h2:i<(s.a6.length:Int)
  ·have hw:U (i+1)=i+1:=cf (by omega) (by omega)
   obtain ⟨x,af⟩ : ∃x,s.a6[i.toNat]? = some x:=⟨_,List.getElem?_eq_getElem (by omega)⟩
   unfold ry
   simp only [dM,h2,h0,hw,af,decide_true,if_true,and_self,Option.bind_eq_bind,Option.bind_some]
   by_cases e:(x.ed.toList == n.toList)=true
   ·exact .inr ⟨_,by rw [if_pos e],trivial⟩
   ·exact .inl ⟨i+1,by rw [if_neg e],by omega,by omega⟩
  ·exact .inr ⟨.inl (),by simp [ry,dM,h2],trivial⟩) 0 (by omega)
 have cx:rV n s.a6 (len_ aG s.a6) 0=some r:=h1
 unfold pN
 rw [cx]
 cases r with
 | inl a=>exact ⟨_,rfl⟩
 | inr a=>exact ⟨_,rfl⟩
theorem Gi (s:c4):xn s.a6 (len_ aG s.a6) s.b9 0=pB s.a6 (len_ aG s.a6) s.b9 0:=by
 unfold xn pB
 congr 1
 funext w
 unfold xh nt
 simp only [Pj,Oc]
theorem F1 (s:c4) (i0:mS s) : ∃r,pB s.a6 (len_ aG s.a6) s.b9 0=some r:=by
 have hm:=sJ
 obtain ⟨⟨fC,hk⟩,-⟩:=i0
 obtain ⟨r,h1,-⟩:=gg (f:=fun w=>nt s.a6 (len_ aG s.a6) s.b9 w) (fun i=>0≤i∧i≤s.a6.length) (fun i=>(s.a6.length-i).toNat) (fun _=>True) (fun i bj=>by
  obtain ⟨h0,h1⟩:=bj
  by_cases h2:i<(s.a6.length:Int)
  ·have hw:U (i+1)=i+1:=cf (by omega) (by omega)
   obtain ⟨x,af⟩ : ∃x,s.a6[i.toNat]? = some x:=⟨_,List.getElem?_eq_getElem (by omega)⟩
   obtain ⟨p,aj⟩:=GI x (hk x (List.mem_of_getElem? af)).1
   obtain ⟨q,aR⟩:=Gh ⟨s.a6,s.b9⟩ x.ed fC
   unfold nt
   simp only [dM,h2,h0,hw,af,aj,aR,decide_true,if_true,and_self,Option.bind_eq_bind,Option.bind_some]
   by_cases e:p=true
   ·rw [if_pos e]
    by_cases e2:(q != i)=true
    ·exact .inr ⟨_,by rw [if_pos e2],trivial⟩
    ·exact .inl ⟨i+1,by rw [if_neg e2],by omega,by omega⟩
   ·exact .inr ⟨_,by rw [if_neg e],trivial⟩
  ·exact .inr ⟨.inl (),by simp [nt,dM,h2],trivial⟩) 0 (by omega)
 exact ⟨r,h1⟩
def lN (eZ:List bg) (m:bR):Bool :=
 decide (0≤m.de∧m.de<eZ.length∧0≤m.c1∧m.c1<eZ.length∧1≤m.eK∧m.eK≤3) &&
 match eZ[m.de.toNat]?,eZ[m.c1.toNat]? with
 | some a,some b=> !(a.eu == b.eu && a.dV == b.dV) && !(a.cS && b.cS)
 | _,_=>false
theorem CR (s:c4) (m:bR):tZ s m=some (lN s.a6 m):=by
 unfold tZ lN
 simp only [dM]
 by_cases h1:m.de<0
 ·simp [h1];omega
 by_cases h2:(s.a6.length:Int)≤m.de
 ·simp [h1,h2];omega
 by_cases ag:m.c1<0
 ·simp [h1,h2,ag];omega
 by_cases ap:(s.a6.length:Int)≤m.c1
 ·simp [h1,h2,ag,ap];omega
 by_cases aE:m.eK<1
 ·simp [h1,h2,ag,ap,aE];omega
 by_cases aQ:3<m.eK
 ·simp [h1,h2,ag,ap,aE,aQ];omega
 obtain ⟨x,af⟩ : ∃x,s.a6[m.de.toNat]? = some x:=⟨_,List.getElem?_eq_getElem (by omega)⟩
 obtain ⟨y,aF⟩ : ∃y,s.a6[m.c1.toNat]? = some y:=⟨_,List.getElem?_eq_getElem (by omega)⟩
 have bo:0≤m.de∧m.de<s.a6.length:=by omega
 have hl:0≤m.c1∧m.c1<s.a6.length:=by omega
 have jk:0≤m.de∧m.de<s.a6.length∧0≤m.c1∧m.c1<s.a6.length∧1≤m.eK∧m.eK≤3:=by omega
 rw [decide_eq_false h1,decide_eq_false h2,decide_eq_false ag,decide_eq_false ap,decide_eq_false aE,decide_eq_false aQ,decide_eq_true jk,if_pos bo,af]
 simp only [Bool.false_eq_true,if_false,Option.bind_eq_bind,Option.bind_some,Bool.true_and]
 rw [if_pos hl,aF]
 simp only [Option.bind_some]
 by_cases e1:x.eu=y.eu<;>by_cases e2:x.dV=y.dV<;>by_cases tK:x.cS=true<;>by_cases wV:y.cS=true<;>simp [e1,e2,tK,wV]
theorem NZ (eZ:List bg) (e7:List bR) (aS:eZ.length≤6) (yZ:e7.length≤8) (i:Int) :
 tY (U (len_ aG eZ-1)) e7 (len_ aZ e7) eZ i =
 (l9 e7 eZ e7 (len_ aZ e7) i).map (Sum.map id (Sum.map id fun _=>())):=by
 have hw:U ((eZ.length:Nat)-1)=(eZ.length:Nat)-1:=cf (by omega) (by omega)
 unfold tY l9 rY
 simp only [dM,hw,CR,vl,Option.bind_eq_bind,Option.bind_some]
 by_cases h1:i<(e7.length:Int)
 ·by_cases h0:0≤i
  ·obtain ⟨m,hm⟩ : ∃x,e7[i.toNat]? = some x:=⟨_,List.getElem?_eq_getElem (by omega)⟩
   simp only [h1,h0,hm,decide_true,if_true,and_self,Option.bind_some]
   unfold lN
   by_cases hA:0≤m.de∧m.de≤(eZ.length:Int)-1
   ·by_cases im:0≤m.c1∧m.c1≤(eZ.length:Int)-1
    ·by_cases gb:1≤m.eK∧m.eK≤3
     ·obtain ⟨x,af⟩ : ∃x,eZ[m.de.toNat]? = some x:=⟨_,List.getElem?_eq_getElem (by omega)⟩
      obtain ⟨y,aF⟩ : ∃y,eZ[m.c1.toNat]? = some y:=⟨_,List.getElem?_eq_getElem (by omega)⟩
      have bo:0≤m.de∧m.de<eZ.length:=by omega
      have hl:0≤m.c1∧m.c1<eZ.length:=by omega
      have jk:0≤m.de∧m.de<eZ.length∧0≤m.c1∧m.c1<eZ.length∧1≤m.eK∧m.eK≤3:=by omega
      rw [decide_eq_true hA,decide_eq_true im,decide_eq_true gb,decide_eq_true jk]
      simp only [if_true,Option.bind_some,Bool.true_and]
      rw [if_pos bo,af]
      simp only [Option.bind_some]
      rw [if_pos hl,aF]
      simp only [Option.bind_some]
      by_cases e1:x.eu=y.eu<;>by_cases e2:x.dV=y.dV<;>by_cases tK:x.cS=true<;>by_cases wV:y.cS=true<;>simp [e1,e2,tK,wV]
     ·have jk : ¬(0≤m.de∧m.de<eZ.length∧0≤m.c1∧m.c1<eZ.length∧1≤m.eK∧m.eK≤3):=by omega
      rw [decide_eq_true hA,decide_eq_true im,decide_eq_false gb,decide_eq_false jk]
      simp
    ·have jk : ¬(0≤m.de∧m.de<eZ.length∧0≤m.c1∧m.c1<eZ.length∧1≤m.eK∧m.eK≤3):=by omega
     rw [decide_eq_true hA,decide_eq_false im,decide_eq_false jk]
     simp
   ·have jk : ¬(0≤m.de∧m.de<eZ.length∧0≤m.c1∧m.c1<eZ.length∧1≤m.eK∧m.eK≤3):=by omega
    rw [decide_eq_false hA,decide_eq_false jk]
    simp
  ·simp [h1,h0]
 ·simp [h1]
theorem FQ (eZ:List bg) (e7:List bR) (yZ:e7.length≤8) : ∃r,tT e7 eZ e7 (len_ aZ e7) 0=some r∧ ∀k,r = .inr k→0≤k:=by
 exact gg (f:=fun w=>l9 e7 eZ e7 (len_ aZ e7) w) (fun i=>0≤i∧i≤e7.length) (fun i=>(e7.length-i).toNat) (fun r=> ∀k,r = .inr k→0≤k) (fun i bj=>by
  obtain ⟨h0,h1⟩:=bj
  by_cases h2:i<(e7.length:Int)
  ·have hw:U (i+1)=i+1:=cf (by omega) (by omega)
   obtain ⟨x,af⟩ : ∃x,e7[i.toNat]? = some x:=⟨_,List.getElem?_eq_getElem (by omega)⟩
   unfold l9 rY
   simp only [dM,h2,h0,hw,af,CR,decide_true,if_true,and_self,Option.bind_eq_bind,Option.bind_some]
   by_cases e:(!lN eZ x)=true
   ·exact .inr ⟨_,by rw [if_pos e],by intro k bA;simp at bA;omega⟩
   ·exact .inl ⟨i+1,by rw [if_neg e],by omega,by omega⟩
  ·exact .inr ⟨.inl (),by simp [l9,dM,h2],by intro k bA;simp at bA⟩) 0 (by omega)
theorem B8 (s:c4) (i0:mS s) : ∃r,nU s=some r∧pL s=some r:=by
 unfold nU pL
 by_cases h1:6<(s.a6.length:Int)
 ·exact ⟨false,by simp [dM,h1],by simp [dM,h1]⟩
 by_cases h2:8<(s.b9.length:Int)
 ·exact ⟨false,by simp [dM,h1,h2],by simp [dM,h1,h2]⟩
 obtain ⟨r,ao⟩:=F1 s i0
 rw [Gi,ao]
 obtain ⟨q,aR,iX⟩:=FQ s.a6 s.b9 (by omega)
 have S9:AQ (U (len_ aG s.a6-1)) s.b9 (len_ aZ s.b9) s.a6 0=some (Sum.map id (fun _=>()) q) :=
  Qs (f:=fun w=>l9 s.b9 s.a6 s.b9 (len_ aZ s.b9) w) (Sum.map id fun _=>()) (fun _=>True) (fun _ _ _ _=>trivial)
   (fun i _=>NZ s.a6 s.b9 (by omega) (by omega) i) 0 q aR trivial
 simp only [tU,tW,aR,S9,Option.bind_eq_bind,Option.bind_some]
 have d1:decide ((6:Int)<len_ aG s.a6)=false:=by rw [dM];exact decide_eq_false h1
 have d2:decide ((8:Int)<len_ aZ s.b9)=false:=by rw [dM];exact decide_eq_false h2
 rw [d1,d2]
 simp only [Bool.false_eq_true,if_false]
 cases r with
 | inr a=>exact ⟨false,rfl,rfl⟩
 | inl a =>
  cases q with
  | inl b=>exact ⟨true,rfl,by simp⟩
  | inr k =>
   have:=iX k rfl
   exact ⟨false,rfl,by simp [this]⟩
theorem PV (s:c4) (i0:mS s) (h:pB s.a6 (len_ aG s.a6) s.b9 0=some (.inl ())) : ∀(n:Nat) j,s.a6[n]? = some j→mP j=some true:=by
 have hm:=sJ
 obtain ⟨⟨fC,hk⟩,-⟩:=i0
 obtain ⟨r,h1,h2⟩:=gg (f:=fun w=>nt s.a6 (len_ aG s.a6) s.b9 w) (fun i=>0≤i∧i≤s.a6.length∧ ∀(n:Nat) j,(n:Int)<i→s.a6[n]? = some j→mP j=some true) (fun i=>(s.a6.length-i).toNat)
  (fun r=>r = .inl ()→ ∀(n:Nat) j,s.a6[n]? = some j→mP j=some true) (fun i bj=>by
  obtain ⟨h0,h1,ag⟩:=bj
  by_cases h2:i<(s.a6.length:Int)
  ·have hw:U (i+1)=i+1:=cf (by omega) (by omega)
   obtain ⟨x,af⟩ : ∃x,s.a6[i.toNat]? = some x:=⟨_,List.getElem?_eq_getElem (by omega)⟩
   obtain ⟨p,aj⟩:=GI x (hk x (List.mem_of_getElem? af)).1
   obtain ⟨q,aR⟩:=Gh ⟨s.a6,s.b9⟩ x.ed fC
   unfold nt
   simp only [dM,h2,h0,hw,af,aj,aR,decide_true,if_true,and_self,Option.bind_eq_bind,Option.bind_some]
   by_cases e:p=true
   ·rw [if_pos e]
    by_cases e2:(q != i)=true
    ·exact .inr ⟨_,by rw [if_pos e2],by simp⟩
    ·refine .inl ⟨i+1,by rw [if_neg e2],⟨by omega,by omega,fun n j bf aS=> ?_⟩,by omega⟩
     by_cases c:(n:Int)<i
     ·exact ag n j c aS
     ·have:n=i.toNat:=by omega
      subst this
      rw [af] at aS
      obtain rfl:=Option.some.inj aS
      rw [aj,e]
   ·exact .inr ⟨_,by rw [if_neg e],by simp⟩
  ·refine .inr ⟨.inl (),by simp [nt,dM,h2],fun _ n j aS=>ag n j (by have:=dT aS;omega) aS⟩) 0 ⟨by omega,by omega,fun n j bf=>by omega⟩
 have mC:pB s.a6 (len_ aG s.a6) s.b9 0=some r:=h1
 rw [h] at mC
 exact h2 (Option.some.inj mC).symm
theorem Pk (eZ:List bg) (e7:List bR) (yZ:e7.length≤8) (h:tT e7 eZ e7 (len_ aZ e7) 0=some (.inl ())) : ∀(n:Nat) m,e7[n]? = some m→lN eZ m=true:=by
 obtain ⟨r,h1,h2⟩:=gg (f:=fun w=>l9 e7 eZ e7 (len_ aZ e7) w) (fun i=>0≤i∧i≤e7.length∧ ∀(n:Nat) m,(n:Int)<i→e7[n]? = some m→lN eZ m=true) (fun i=>(e7.length-i).toNat)
  (fun r=>r = .inl ()→ ∀(n:Nat) m,e7[n]? = some m→lN eZ m=true) (fun i bj=>by
  obtain ⟨h0,h1,ag⟩:=bj
  by_cases h2:i<(e7.length:Int)
  ·have hw:U (i+1)=i+1:=cf (by omega) (by omega)
   obtain ⟨x,af⟩ : ∃x,e7[i.toNat]? = some x:=⟨_,List.getElem?_eq_getElem (by omega)⟩
   unfold l9 rY
   simp only [dM,h2,h0,hw,af,CR,decide_true,if_true,and_self,Option.bind_eq_bind,Option.bind_some]
   by_cases e:(!lN eZ x)=true
   ·exact .inr ⟨_,by rw [if_pos e],by simp⟩
   ·refine .inl ⟨i+1,by rw [if_neg e],⟨by omega,by omega,fun n j bf aS=> ?_⟩,by omega⟩
    by_cases c:(n:Int)<i
    ·exact ag n j c aS
    ·have:n=i.toNat:=by omega
     subst this
     rw [af] at aS
     obtain rfl:=Option.some.inj aS
     simpa using e
  ·refine .inr ⟨.inl (),by simp [l9,dM,h2],fun _ n j aS=>ag n j (by have:=dT aS;omega) aS⟩) 0 ⟨by omega,by omega,fun n j bf=>by omega⟩
 have mC:tT e7 eZ e7 (len_ aZ e7) 0=some r:=h1
 rw [h] at mC
 exact h2 (Option.some.inj mC).symm
theorem F2 (s:c4) (i0:mS s) (h:nU s=some true) :
 (∀(n:Nat) j,s.a6[n]? = some j→mP j=some true)∧(∀(n:Nat) m,s.b9[n]? = some m→lN s.a6 m=true)∧s.a6.length≤6∧s.b9.length≤8:=by
 obtain ⟨p,p1,p2⟩:=B8 s i0
 rw [h] at p1
 obtain rfl:=Option.some.inj p1
 unfold pL at p2
 by_cases h1:6<(s.a6.length:Int)
 ·simp [dM,h1] at p2
 by_cases h2:8<(s.b9.length:Int)
 ·simp [dM,h1,h2] at p2
 obtain ⟨r,ao⟩:=F1 s i0
 rw [Gi,ao] at p2
 obtain ⟨q,aR,iX⟩:=FQ s.a6 s.b9 (by omega)
 have d1:decide ((6:Int)<len_ aG s.a6)=false:=by rw [dM];exact decide_eq_false h1
 have d2:decide ((8:Int)<len_ aZ s.b9)=false:=by rw [dM];exact decide_eq_false h2
 rw [d1,d2] at p2
 simp only [tU,tW,aR,Bool.false_eq_true,if_false,Option.bind_eq_bind,Option.bind_some] at p2
 cases r with
 | inr a=>simp at p2
 | inl a =>
  cases q with
  | inr k =>
   have:=iX k rfl
   simp [this] at p2
  | inl b=>exact ⟨PV s i0 ao,Pk s.a6 s.b9 (by omega) aR,by omega,by omega⟩
theorem HN (l:List Int) (aM:l.length≤maxLen) (left:Int) (h0:0≤left) (h1:left≤1048576):su l left=some (if left<l.length then -1 else left-l.length):=by
 have hm:=sJ
 have hw:U (left-((l.length:Nat):Int))=left-(l.length:Nat):=cf (by omega) (by omega)
 unfold su
 rw [dM,hw]
 by_cases e:left<(l.length:Nat)
 ·have:left-(l.length:Nat)<0:=by omega
  simp [e,this]
 ·have : ¬left-(l.length:Nat)<0:=by omega
  simp [e,this]
theorem N0 (s:c4) (i0:mS s) (left:Int) (h0:0≤left) (h1:left≤1048576) (q:Int) (aR:pK s left=some q):q≤1048576:=by
 obtain ⟨⟨fC,hk⟩,dR,ei⟩:=i0
 obtain ⟨r,r1,r2,a2⟩:=GD s.a6 left fC (fun j aS=>(hk j aS).1) h0 h1
 unfold pK at aR
 rw [r1] at aR
 by_cases h:r<0
 ·simp [h] at aR;omega
 ·obtain ⟨t,t1,t2,t3⟩:=Gt s.b9 r dR (by omega) (by omega)
  by_cases bZ:t<0
  ·simp [h,t1,bZ] at aR;omega
  ·simp [h,t1,bZ] at aR;omega
def lP (r:bF):Prop:=r.bm.a9.length≤1048576∧r.bO.length≤1048576
theorem CZ {r:bF} (h:lP r):mW r r=some true:=by
 unfold mW xJ
 simp [GY _ h.1,GY _ h.2]
theorem GZ (l:List bF) (h:l.length≤1048576) (ao : ∀r∈l,lP r):mg l l=some true:=by
 have h1:iter (fun w=>rU l l w) 0=some (if l.all (fun _=>true) then .inl () else .inr ()):=Dj l (fun _=>true) (fun n x af=>by
  have bf:=dT af
  unfold rU
  rw [dM,if_pos (by simp;omega),if_pos (by omega),Int.toNat_natCast,af]
  simp only [Option.bind_eq_bind,Option.bind_some]
  rw [if_pos (by omega),CZ (ao x (List.mem_of_getElem? af))]
  simp only [Option.bind_some,if_true]
  rw [i1 (by omega)]) (by simp [rU,dM])
 unfold mg Cx
 rw [h1]
 simp
theorem Pl {r:bF} (ao:vM r) (left:Int) (h0:0≤left) (h1:left≤1048576) : ∃q,u6 r left=some q∧q≤left∧(0≤q→lP r):=by
 obtain ⟨⟨-,⟨fC,-⟩⟩,⟨hk,-⟩⟩:=ao
 unfold u6 xH
 rw [HN _ fC left h0 h1]
 by_cases bo:left<r.bm.a9.length
 ·refine ⟨-1,by simp [bo],by omega,by omega⟩
 ·have Ta : ¬left-(r.bm.a9.length:Int)<0:=by omega
  simp only [bo,if_false,Option.bind_eq_bind,Option.bind_some,Ta,decide_false,Bool.false_eq_true]
  rw [HN _ hk _ (by omega) (by omega)]
  by_cases hl:left-(r.bm.a9.length:Int)<r.bO.length
  ·refine ⟨-1,by simp [hl],by omega,by omega⟩
  ·have Tb : ¬left-(r.bm.a9.length:Int)-(r.bO.length:Int)<0:=by omega
   refine ⟨left-(r.bm.a9.length:Int)-(r.bO.length:Int),by simp [hl,Tb],by omega,fun _=>⟨by omega,by omega⟩⟩
theorem G0 (l:List bF) (aM:l.length≤maxLen) (ao : ∀r∈l,vM r) (left:Int) (h0:0≤left) (h1:left≤1048576) :
 ∃q,sv l left=some q∧q≤left∧(0≤q→l.length≤1048576∧ ∀r∈l,lP r):=by
 have hm:=sJ
 have hw:U (left-((l.length:Nat):Int))=left-(l.length:Nat):=cf (by omega) (by omega)
 unfold sv
 rw [dM,hw]
 by_cases c:left-(l.length:Int)<0
 ·exact ⟨-1,by simp [c],by omega,by omega⟩
 ·obtain ⟨r,r1,r2⟩:=gg (f:=fun w:Int×Int=>pA l w.1 w.2) (c6:=fun w=> ∃n:Nat,w.2=n∧n≤l.length∧0≤w.1∧w.1≤left∧ ∀i x,i<n→l[i]? = some x→lP x) (m:=fun w=>l.length-w.2.toNat)
   (fun r=>r.elim (fun a=>0≤a∧a≤left∧ ∀x∈l,lP x) (fun _=>True)) (by
     rintro ⟨a,ii⟩ ⟨n,e1,e2,bp,cp,cM⟩
     simp only at e1 bp cp
     subst e1
     by_cases bf:n=l.length
     ·subst bf
      refine .inr ⟨.inl a,by simp [pA,dM],bp,cp,fun x af=> ?_⟩
      obtain ⟨i,bj⟩:=List.mem_iff_getElem?.mp af
      exact cM i x (dT bj) bj
     ·have af:=List.getElem?_eq_getElem (show n<l.length by omega)
      obtain ⟨q,q1,q2,nn⟩:=Pl (ao _ (List.mem_of_getElem? af)) a bp (by omega)
      by_cases aR:q<0
      ·refine .inr ⟨.inr (),?_,trivial⟩
       unfold pA
       rw [dM,if_pos (by simp;omega),if_pos (by omega),Int.toNat_natCast,af]
       simp only [Option.bind_eq_bind,Option.bind_some]
       rw [q1]
       simp [aR]
      ·refine .inl ⟨(q,((n+1:Nat):Int)),?_,⟨n+1,rfl,by omega,by simp only;omega,by simp only;omega,fun i x bj cP=> ?_⟩,by simp;omega⟩
       ·unfold pA
        rw [dM,if_pos (by simp;omega),if_pos (by omega),Int.toNat_natCast,af]
        simp only [Option.bind_eq_bind,Option.bind_some]
        rw [q1]
        simp only [Option.bind_some]
        rw [if_neg (by simp;omega),i1 (by omega)]
       ·by_cases iy:i=n
        ·subst iy
         rw [af] at cP
         rw [← Option.some.inj cP]
         exact nn (by omega)
        ·exact cM i x (by omega) cP) (left-(l.length:Nat),0) ⟨0,rfl,by omega,by simp only;omega,by simp only;omega,fun i x bj=>by omega⟩
  unfold Ci
  rw [if_neg (by simp;omega),r1]
  cases r with
  | inl a=>exact ⟨a,rfl,r2.2.1,fun _=>⟨by omega,r2.2.2⟩⟩
  | inr _=>exact ⟨-1,rfl,by omega,by omega⟩
def oc (p:Int×Int):Option bV:=some (hD p)
theorem Hq (l:List bF) (h:l.length≤1048576) (ao : ∀r∈l,lP r) :
 (∃xs:List (Int×Int),(∀p∈xs,Fr p)∧l=xs.map mk∧pQ l=some true∧p7 l=some (xs.map oc,true))∨(pQ l=some false∧p7 l=some ([],false)):=by
 have iN : ∀r∈l,∃R:Option (Int×Int),(∀p,R=some p→Fr p∧r=mk p)∧j0 r=some R.isSome∧n0 r=some (gx R):=by
  intro r lG
  have hlen:=ao r lG
  rcases QS (r:=r) (by have:=hlen.1;omega) (by have:=hlen.2;omega) with ⟨p,h1,h2,ag,ap⟩|⟨ag,ap⟩
  ·exact ⟨some p,fun q aR=>by rw [← Option.some.inj aR];exact ⟨h1,h2⟩,ag,ap⟩
  ·exact ⟨none,fun q aR=>by simp at aR,ag,ap⟩
 obtain ⟨os,qG,tl⟩ : ∃os:List (Option (Int×Int)),os.length=l.length∧ ∀(n:Nat) r R,l[n]? = some r→os[n]? = some R→(∀p,R=some p→Fr p∧r=mk p)∧j0 r=some R.isSome∧n0 r=some (gx R):=by
  clear h ao
  induction l with
  | nil=>exact ⟨[],rfl,fun n r R h=>by simp at h⟩
  | cons x l ih =>
   obtain ⟨os,e1,e2⟩:=ih (fun r ao=>iN r (by simp [ao]))
   obtain ⟨R,al⟩:=iN x (by simp)
   refine ⟨R::os,by simp [e1],fun n r bP h1 h2=> ?_⟩
   cases n with
   | zero =>
    simp at h1 h2
    subst h1 h2
    exact al
   | succ n=>exact e2 n r bP (by simpa using h1) (by simpa using h2)
 have DQ:iter (fun w:Int=>rH l l.length w) 0=some (if os.all Option.isSome then .inl () else .inr ()):=Dj os Option.isSome (fun n R al=>by
  have bf:=dT al
  have af:=List.getElem?_eq_getElem (show n<l.length by omega)
  obtain ⟨-,h2,-⟩:=tl n _ R af al
  unfold rH
  rw [if_pos (by simp;omega),if_pos (by omega),Int.toNat_natCast,af]
  simp only [Option.bind_eq_bind,Option.bind_some]
  rw [h2]
  simp only [Option.bind_some]
  rw [i1 (by omega)]
  cases R.isSome<;>rfl) (by rw [qG];simp [rH])
 have DR:iter (fun w:Int×List (Option bV)=>rZ l l.length w.1 w.2) (0,List.replicate l.length (none:Option bV))=some (if os.all Option.isSome then .inl (os.map gx) else .inr ()):=PC os Option.isSome gx _ (by simp [qG]) (fun n R row al dt=>by
  have bf:=dT al
  have af:=List.getElem?_eq_getElem (show n<l.length by omega)
  obtain ⟨-,-,ag⟩:=tl n _ R af al
  unfold rZ
  rw [if_pos (by simp;omega),if_pos (by omega),Int.toNat_natCast,af]
  simp only [Option.bind_eq_bind,Option.bind_some]
  rw [ag]
  simp only [Option.bind_some]
  rw [if_pos (by omega),Nat.zero_add,if_pos (by omega),List.getElem?_set,if_pos rfl,if_pos (by omega)]
  simp only [Option.bind_some]
  rw [i1 (by omega)]
  cases R<;>rfl) (fun row=>by rw [qG];simp [rZ])
 unfold pQ BW p7 CD
 simp only [dM,Int.toNat_natCast]
 have a8:0≤(l.length:Int)∧(8:Int)*(l.length:Int)≤281474976710656∧(l.length:Int)<9223372036854775808:=by omega
 rw [DQ,DR,if_pos a8]
 by_cases jq:os.all Option.isSome=true
 ·refine .inl ⟨os.filterMap id,?_,?_,by rw [jq];rfl,?_⟩
  ·intro p aj
   obtain ⟨R,al,li⟩:=List.mem_filterMap.mp aj
   obtain ⟨n,bf⟩:=List.mem_iff_getElem?.mp al
   have c0:=dT bf
   exact ((tl n _ R (List.getElem?_eq_getElem (show n<l.length by omega)) bf).1 p li).1
  ·clear DQ DR iN ao h a8
   induction l generalizing os with
   | nil =>
    have:os=[]:=List.eq_nil_of_length_eq_zero qG
    subst this
    rfl
   | cons x l ih =>
    cases os with
    | nil=>simp at qG
    | cons R os =>
     simp only [List.all_cons,Bool.and_eq_true] at jq
     obtain ⟨p,rfl⟩:=Option.isSome_iff_exists.mp jq.1
     have h1:=((tl 0 x (some p) rfl rfl).1 p rfl).2
     have h2:=ih os (by simpa using qG) (fun n r R ag ap=>tl (n+1) r R (by simpa using ag) (by simpa using ap)) jq.2
     simp only [List.filterMap_cons,id,List.map_cons]
     rw [← h2,← h1]
  ·rw [jq]
   simp only [if_true,Option.bind_eq_bind,Option.bind_some]
   congr 2
   clear DQ DR iN ao h tl qG
   induction os with
   | nil=>rfl
   | cons R os ih =>
    simp only [List.all_cons,Bool.and_eq_true] at jq
    obtain ⟨p,rfl⟩:=Option.isSome_iff_exists.mp jq.1
    simp only [List.filterMap_cons,id,List.map_cons]
    rw [ih jq.2]
    rfl
 ·simp only [Bool.not_eq_true] at jq
  refine .inr ⟨by rw [jq];rfl,by rw [jq];rfl⟩
theorem PW (s:c4) (i0:mS s) (q:List bF) (h:q.length≤1048576) (ao : ∀r∈q,lP r) :
 (∃xs:List (Int×Int),(∀p∈xs,Fr p)∧q=xs.map mk∧q.length=s.b9.length∧nU s=some true∧sm s q=some true∧sc s q=some (xs.map oc,true))∨(sm s q=some false∧sc s q=some ([],false)):=by
 obtain ⟨R,bt,aO⟩:=B8 s i0
 unfold sm sc
 simp only [dM]
 rw [bt,aO]
 by_cases aM:q.length=s.b9.length
 ·cases R with
  | false =>
   refine .inr ⟨rfl,?_⟩
   simp [aM]
  | true =>
   rcases Hq q h ao with ⟨xs,x1,x2,an,eo⟩|⟨an,eo⟩
   ·refine .inl ⟨xs,x1,x2,aM,rfl,?_,?_⟩
    ·simp [aM,an]
    ·simp [aM,eo]
   ·refine .inr ⟨?_,?_⟩
    ·simp [aM,an]
    ·simp [aM,eo]
 ·refine .inr ⟨?_,?_⟩
  ·cases R<;>simp [aM]<;>omega
  ·have:((q.length:Int) != (s.b9.length:Int))=true:=by simp;omega
   rw [if_pos this]
theorem Ih {p:Int×Int} (h:Fr p):hh (some p):=fun q aR=>by rw [← Option.some.inj aR];exact h
def nT (l:List Int) (n:Nat) (x:Int):Prop:=0≤x∧x<1000000000∧(∀z,l[n]? = some z→x=z)∧(l[n]? = none→x=0)
theorem qz {l:List Int} (h:b0 l) {n:Nat} (bf:n<l.length):nT l n l[n]:=by
 have af:=List.getElem?_eq_getElem bf
 have h0:=h.get af
 exact ⟨h0.1,h0.2,fun z cH=>by rw [af] at cH;exact Option.some.inj cH,fun h=>by rw [af] at h;simp at h⟩
theorem s6 {l:List Int} {n:Nat} (bf : ¬n<l.length):nT l n 0:=by
 have af:l[n]? = none:=by simp;omega
 exact ⟨by omega,by omega,fun z cH=>by rw [af] at cH;simp at cH,fun _=>rfl⟩
theorem nT.take {l:List Int} {n:Nat} {x:Int} (h:nT l n x):V (l.take (n+1))=V (l.take n)+B n*x:=Ic h.2.2.1 h.2.2.2
theorem QA {a b row:List Int} {carry:Int} {n:Nat} (bH:b0 a) (aT:b0 b) (a8:carry=0∨carry=1) (oo:a.length≤1000000) (EZ:b.length≤1000000) (ao:row.length≤1000001) (SO:n≤1000001) (bf:n<a.length∨n<b.length∨carry=1) :
 ∃x y,nT a n x∧nT b n y∧pE a b carry n row=some (.inl ((carry+x+y) / 1000000000,((n+1:Nat):Int),row++[(carry+x+y) % 1000000000])):=by
 have j7:0≤carry∧carry≤1:=by omega
 unfold pE
 simp only [ft]
 by_cases h1:n<a.length
 ·have hA:=qz bH h1
  have af:=List.getElem?_eq_getElem h1
  rw [if_pos (by simp;omega),if_pos (by omega),Int.toNat_natCast,af]
  simp only [Option.bind_eq_bind,Option.bind_some]
  by_cases h2:n<b.length
  ·have im:=qz aT h2
   have aF:=List.getElem?_eq_getElem h2
   have fC:=hA.1
   have hk:=hA.2.1
   have iI:=im.1
   have iZ:=im.2.1
   refine ⟨a[n],b[n],hA,im,?_⟩
   rw [if_pos (by simp;omega),if_pos (by omega),aF]
   simp only [Option.bind_some]
   rw [cf (x:=carry+a[n]) (by omega) (by omega),cf (x:=carry+a[n]+b[n]) (by omega) (by omega),l8 (by omega),jY (by omega),cf (by omega) (by omega),hN (n:=n) (by omega),if_pos (by simp;omega)]
  ·have fC:=hA.1
   have hk:=hA.2.1
   refine ⟨a[n],0,hA,s6 h2,?_⟩
   rw [if_neg (by simp;omega),cf (x:=carry+a[n]) (by omega) (by omega),l8 (by omega),jY (by omega),cf (by omega) (by omega),hN (n:=n) (by omega),if_pos (by simp;omega),Int.add_zero]
 ·rw [if_neg (by simp;omega)]
  by_cases h2:n<b.length
  ·have im:=qz aT h2
   have aF:=List.getElem?_eq_getElem h2
   have iI:=im.1
   have iZ:=im.2.1
   refine ⟨0,b[n],s6 h1,im,?_⟩
   rw [if_pos (by simp;omega),if_pos (by omega),Int.toNat_natCast,aF]
   simp only [Option.bind_eq_bind,Option.bind_some]
   rw [cf (x:=carry+b[n]) (by omega) (by omega),l8 (by omega),jY (by omega),cf (by omega) (by omega),hN (n:=n) (by omega),if_pos (by simp;omega),Int.add_zero]
  ·refine ⟨0,0,s6 h1,s6 h2,?_⟩
   rw [if_neg (by simp;omega),if_pos (by simp;omega),l8 (by omega),jY (by omega),cf (by omega) (by omega),hN (n:=n) (by omega),if_pos (by simp;omega),Int.add_zero,Int.add_zero]
theorem QB {a b:List Int} (bH:b0 a) (aT:b0 b) (oo:a.length≤900000) (EZ:b.length≤900000) : ∃r,sA a b=some r∧b0 r∧V r=V a+V b∧r.length≤a.length+b.length+1:=by
 obtain ⟨r,ao,h1,h2,ag⟩:=gg (f:=fun w:Int×Int×List Int=>pE a b w.1 w.2.1 w.2.2) (c6:=fun w=> ∃n:Nat,w.2.1=n∧w.2.2.length=n∧(w.1=0∨w.1=1)∧b0 w.2.2∧V w.2.2+w.1*B n=V (a.take n)+V (b.take n)∧(n≤a.length∨n≤b.length∨w.1=0)∧n≤a.length+b.length+1) (m:=fun w=>(a.length+b.length+2-w.2.1.toNat))
  (fun r=>b0 r∧V r=V a+V b∧r.length≤a.length+b.length+1) (by
    rintro ⟨carry,ii,row⟩ ⟨n,e1,e2,bp,cp,cM,d5,dP⟩
    simp only at e1 e2 bp cp cM d5
    subst e1
    by_cases bf:n<a.length∨n<b.length∨carry=1
    ·obtain ⟨x,y,af,aF,m9⟩:=QA (row:=row) bH aT bp (by omega) (by omega) (by omega) (by omega) bf
     have x0:=af.1
     have x1:=af.2.1
     have KE:=aF.1
     have g8:=aF.2.1
     have wU:n≤a.length+b.length:=by omega
     refine .inl ⟨_,m9,⟨n+1,rfl,by simp [e2],by simp only;omega,cp.append (b0.cons (by omega) b0.nil),?_,?_,by omega⟩,by simp only;omega⟩
     ·simp only
      rw [qh,e2,i7,iC,tc,af.take,aF.take]
      have:=Int.mul_ediv_add_emod (carry+x+y) 1000000000
      generalize (carry+x+y) / 1000000000=u at *
      generalize (carry+x+y) % 1000000000=t at *
      have bZ:t=carry+x+y-1000000000*u:=by omega
      rw [bZ]
      grind
     ·simp only
      by_cases h:n+1≤a.length∨n+1≤b.length
      ·omega
      ·
       have Vc : ¬n<a.length:=by omega
       have Vd : ¬n<b.length:=by omega
       have hj:x=0:=af.2.2.2 (by simp;omega)
       have hS:y=0:=aF.2.2.2 (by simp;omega)
       omega
    ·refine .inr ⟨row,?_,cp,?_,by omega⟩
     ·unfold pE
      simp only [ft]
      rw [if_neg (by simp;omega),if_neg (by simp;omega),if_neg (by simp;omega)]
     ·have a8:carry=0:=by omega
      rw [a8,List.take_of_length_le (by omega),List.take_of_length_le (by omega)] at cM
      omega) (0,0,[]) ⟨0,rfl,rfl,.inl rfl,b0.nil,by simp [V],by omega,by omega⟩
 unfold sA Cp
 rw [ao]
 exact ⟨r,rfl,h1,h2,ag⟩
theorem PX {neg:Bool} {r:List Int} (ao:b0 r) (aM:r.length≤5000000) (lo:V r<B 60):gA neg r=some (fa (c8 neg (V r))):=by
 have h0:=iq ao
 have:gA neg r=gA neg (L (V r)):=by
  unfold gA sx
  have hlen:=(fF h0).2 lo
  rw [nA ao aM,nA (fv _) (by omega),cX h0]
 rw [this,nG h0 lo]
theorem PY {a b row:List Int} {carry:Int} {n:Nat} (bH:b0 a) (aT:b0 b) (a8:carry=0∨carry=1) (oo:a.length≤1000000) (bf:n<a.length) (ao:n<row.length) :
 ∃x y,nT a n x∧nT b n y∧r5 a b a.length carry n row=some (.inl ((carry+x+y) / 1000000000,((n+1:Nat):Int),row.set n ((carry+x+y) % 1000000000))):=by
 have j7:0≤carry∧carry≤1:=by omega
 have hA:=qz bH bf
 have af:=List.getElem?_eq_getElem bf
 have fC:=hA.1
 have hk:=hA.2.1
 unfold r5
 simp only [ft]
 rw [if_pos (by simp;omega),if_pos (by omega),Int.toNat_natCast,af]
 simp only [Option.bind_eq_bind,Option.bind_some]
 by_cases h2:n<b.length
 ·have im:=qz aT h2
  have aF:=List.getElem?_eq_getElem h2
  have iI:=im.1
  have iZ:=im.2.1
  refine ⟨a[n],b[n],hA,im,?_⟩
  rw [if_pos (by simp;omega),if_pos (by omega),aF]
  simp only [Option.bind_some]
  rw [if_pos (by omega),if_pos (by omega),cf (x:=a[n]+carry) (by omega) (by omega),cf (x:=a[n]+carry+b[n]) (by omega) (by omega),l8 (by omega),jY (by omega),cf (by omega) (by omega),hN (n:=n) (by omega),Nat.zero_add,Int.add_comm a[n] carry]
 ·refine ⟨a[n],0,hA,s6 h2,?_⟩
  rw [if_neg (by simp;omega),if_pos (by omega),if_pos (by omega),cf (x:=a[n]+carry) (by omega) (by omega),l8 (by omega),jY (by omega),cf (by omega) (by omega),hN (n:=n) (by omega),Nat.zero_add,Int.add_zero,Int.add_comm a[n] carry]
theorem PZ {a b:List Int} (bH:b0 a) (aT:b0 b) (oo:a.length≤900000) (wM:b.length≤a.length) :
 ∃r,uS a b a.length 0 0 (List.replicate (a.length+1) 0)=some r∧(r.1=0∨r.1=1)∧b0 r.2∧r.2.length=a.length+1∧V r.2+r.1*B a.length=V a+V b∧r.2[a.length]? = some 0:=by
 refine gg (c6:=fun w:Int×Int×List Int=> ∃n:Nat,w.2.1=n∧n≤a.length∧(w.1=0∨w.1=1)∧b0 w.2.2∧w.2.2.length=a.length+1∧V w.2.2+w.1*B n=V (a.take n)+V (b.take n)∧ ∀j,n≤j→j<a.length+1→w.2.2[j]? = some 0) (m:=fun w=>a.length-w.2.1.toNat) _ ?_ _ ⟨0,rfl,by omega,.inl rfl,b0.ED _,by simp,by simp [V,DM],fun j _ h=>by simp [List.getElem?_replicate];omega⟩
 rintro ⟨carry,ii,row⟩ ⟨n,e1,e2,bp,cp,cM,d5,dP⟩
 simp only at e1 bp cp cM d5 dP ⊢
 subst e1
 by_cases bf:n=a.length
 ·subst bf
  refine .inr ⟨(carry,row),by simp [r5],bp,cp,cM,?_,dP _ (Nat.le_refl _) (by omega)⟩
  rw [List.take_length,List.take_of_length_le wM] at d5
  exact d5
 ·obtain ⟨x,y,af,aF,m9⟩:=PY (row:=row) (n:=n) bH aT bp (by omega) (by omega) (by omega)
  have x0:=af.1
  have x1:=af.2.1
  have KE:=aF.1
  have g8:=aF.2.1
  refine .inl ⟨_,m9,⟨n+1,rfl,by omega,by simp only;omega,cp.set (by omega),by simpa using cM,?_,fun j h1 h2=> ?_⟩,by simp only;omega⟩
  ·simp only
   rw [nL (dP n (Nat.le_refl _) (by omega)),i7,af.take,aF.take]
   have:=Int.mul_ediv_add_emod (carry+x+y) 1000000000
   generalize (carry+x+y) / 1000000000=u at *
   generalize (carry+x+y) % 1000000000=t at *
   have bZ:t=carry+x+y-1000000000*u:=by omega
   rw [bZ]
   grind
  ·simp only
   rw [List.getElem?_set_ne (by omega)]
   exact dP j (by omega) h2
theorem HO {a b:List Int} (bH:b0 a) (aT:b0 b) (oo:a.length≤900000) (wM:b.length≤a.length) :
 (if 0≤(U ((len_ I a)+(1:Int)))∧(8:Int)*(U ((len_ I a)+(1:Int)))≤281474976710656∧(U ((len_ I a)+(1:Int)))<9223372036854775808 then
   (uS a b (len_ I a) 0 0 (List.replicate (U ((len_ I a)+(1:Int))).toNat 0:List Int)).bind fun a2 =>
   if 0≤(len_ I a)∧(len_ I a)<(a2.2.length:Nat) then
   if (0+(len_ I a).toNat)<a2.2.length then
   (mh (a2.2.set (0+(len_ I a).toNat) a2.1)).bind fun bw=>some bw
   else none
   else none
   else none)=some (L (V a+V b)):=by
 obtain ⟨r,ao,h1,h2,ag,ap,aE⟩:=PZ bH aT oo wM
 rw [ft,hN (by omega),if_pos (by omega),Int.toNat_natCast,ao,Option.bind_some,if_pos (by omega),Int.toNat_natCast,Nat.zero_add,if_pos (by omega)]
 have v9:b0 (r.2.set a.length r.1):=h2.set (by omega)
 rw [sX v9 (by simp;omega),nL aE,Option.bind_some]
 congr 2
 rw [← ap]
 grind
theorem QU {a b:List Int} (bH:b0 a) (aT:b0 b) (oo:a.length≤900000) (EZ:b.length≤900000):sI a b=some (L (V a+V b)):=by
 unfold sI
 by_cases h:a.length<b.length
 ·rw [if_pos (by rw [ft,ft];simpa using h)]
  have:=HO aT bH EZ (by omega)
  rw [Int.add_comm (V a)]
  exact this
 ·rw [if_neg (by rw [ft,ft];simpa using h)]
  exact HO bH aT oo (by omega)
theorem Pm {a b row:List Int} {less:Int} {n:Nat} (bH:b0 a) (aT:b0 b) (aM:less=0∨less=1) (oo:a.length≤1000000) (bf:n<a.length) (ao:n<row.length) :
 ∃x y,nT a n x∧nT b n y∧r3 b a a.length less n row=some (.inl (if x-less-y<0 then (1,((n+1:Nat):Int),row.set n (x-less-y+1000000000)) else (0,((n+1:Nat):Int),row.set n (x-less-y)))):=by
 have j7:0≤less∧less≤1:=by omega
 have hA:=qz bH bf
 have af:=List.getElem?_eq_getElem bf
 have fC:=hA.1
 have hk:=hA.2.1
 unfold r3
 simp only [ft]
 rw [if_pos (by simp;omega),if_pos (by omega),Int.toNat_natCast,af]
 simp only [Option.bind_eq_bind,Option.bind_some]
 by_cases h2:n<b.length
 ·have im:=qz aT h2
  have aF:=List.getElem?_eq_getElem h2
  have iI:=im.1
  have iZ:=im.2.1
  refine ⟨a[n],b[n],hA,im,?_⟩
  rw [if_pos (by simp;omega),if_pos (by omega),aF]
  simp only [Option.bind_some]
  rw [cf (x:=a[n]-less) (by omega) (by omega),cf (x:=a[n]-less-b[n]) (by omega) (by omega),hN (n:=n) (by omega),cf (x:=a[n]-less-b[n]+1000000000) (by omega) (by omega),Nat.zero_add]
  by_cases h:a[n]-less-b[n]<0
  ·rw [if_pos (by simpa using h),if_pos h,if_pos (by omega),if_pos (by omega)]
  ·rw [if_neg (by simpa using h),if_neg h,if_pos (by omega),if_pos (by omega)]
 ·refine ⟨a[n],0,hA,s6 h2,?_⟩
  rw [if_neg (by simp;omega),cf (x:=a[n]-less) (by omega) (by omega),hN (n:=n) (by omega),cf (x:=a[n]-less+1000000000) (by omega) (by omega),Nat.zero_add,Int.sub_zero]
  by_cases h:a[n]-less<0
  ·rw [if_pos (by simpa using h),if_pos h,if_pos (by omega),if_pos (by omega)]
  ·rw [if_neg (by simpa using h),if_neg h,if_pos (by omega),if_pos (by omega)]
theorem Ii {a b:List Int} (bH:b0 a) (aT:b0 b) (hlen:b.length≤a.length) (wM:V b≤V a) (oo:a.length≤900000):oN a b=some (L (V a-V b)):=by
 have : ∃r,CF b a a.length 0 0 (List.replicate a.length 0)=some r∧b0 r∧r.length=a.length∧V r=V a-V b:=by
  refine gg (c6:=fun w:Int×Int×List Int=> ∃n:Nat,w.2.1=n∧n≤a.length∧(w.1=0∨w.1=1)∧b0 w.2.2∧w.2.2.length=a.length∧V w.2.2-w.1*B n=V (a.take n)-V (b.take n)∧ ∀j,n≤j→j<a.length→w.2.2[j]? = some 0) (m:=fun w=>a.length-w.2.1.toNat) _ ?_ _ ⟨0,rfl,by omega,.inl rfl,b0.ED _,by simp,by simp [V,DM],fun j _ h=>by simp [List.getElem?_replicate];omega⟩
  rintro ⟨less,ii,row⟩ ⟨n,e1,e2,bp,cp,cM,d5,dP⟩
  simp only at e1 bp cp cM d5 dP ⊢
  subst e1
  by_cases bf:n=a.length
  ·subst bf
   refine .inr ⟨row,by simp [r3],cp,cM,?_⟩
   rw [List.take_length,List.take_of_length_le hlen] at d5
   have h2:=jH cp
   rw [cM] at h2
   rcases bp with rfl|rfl<;>omega
  ·obtain ⟨x,y,af,aF,m9⟩:=Pm (row:=row) (n:=n) bH aT bp (by omega) (by omega) (by omega)
   have x0:=af.1
   have x1:=af.2.1
   have KE:=aF.1
   have g8:=aF.2.1
   rw [m9]
   refine .inl ⟨_,rfl,?_⟩
   by_cases h:x-less-y<0
   ·rw [if_pos h]
    refine ⟨⟨n+1,rfl,by omega,.inr rfl,cp.set (by omega),by simpa using cM,?_,fun j h1 h2=> ?_⟩,by simp only;omega⟩
    ·simp only
     rw [nL (dP n (Nat.le_refl _) (by omega)),i7,af.take,aF.take]
     grind
    ·simp only
     rw [List.getElem?_set_ne (by omega)]
     exact dP j (by omega) h2
   ·rw [if_neg h]
    refine ⟨⟨n+1,rfl,by omega,.inl rfl,cp.set (by omega),by simpa using cM,?_,fun j h1 h2=> ?_⟩,by simp only;omega⟩
    ·simp only
     rw [nL (dP n (Nat.le_refl _) (by omega)),af.take,aF.take]
     grind
    ·simp only
     rw [List.getElem?_set_ne (by omega)]
     exact dP j (by omega) h2
 obtain ⟨r,ao,h1,h2,ag⟩:=this
 unfold oN
 simp only [ft]
 rw [if_pos (by omega),Int.toNat_natCast,ao]
 simp only [Option.bind_eq_bind,Option.bind_some]
 rw [sX h1 (by omega),ag]
 rfl
theorem I7 {a b:Int} (h:decide (a<0)=decide (b<0)):c8 (decide (a<0)) ((a.natAbs:Int)+(b.natAbs:Int))=a+b:=by
 have cx:a<0↔b<0:=by simpa using h
 unfold c8
 by_cases h1:a<0
 ·have:=cx.1 h1
  simp only [h1,decide_true,if_true]
  omega
 ·have : ¬b<0:=fun aT=>h1 (cx.2 aT)
  simp only [h1,decide_false,Bool.false_eq_true,if_false]
  omega
theorem yr {a b:Int} (h : ¬decide (a<0)=decide (b<0)):c8 (decide (a<0)) ((a.natAbs:Int)-(b.natAbs:Int))=a+b∧c8 (decide (b<0)) ((b.natAbs:Int)-(a.natAbs:Int))=a+b:=by
 have cx : ¬(a<0↔b<0):=by simpa using h
 unfold c8
 by_cases h1:a<0
 ·have h2 : ¬b<0:=fun aT=>cx ⟨fun _=>aT,fun _=>h1⟩
  simp only [h1,h2,decide_true,if_true,decide_false,Bool.false_eq_true,if_false]
  omega
 ·have h2:b<0:=by
   apply Classical.byContradiction
   intro aT
   exact cx ⟨fun h=>absurd h h1,fun h=>absurd h aT⟩
  simp only [h1,h2,decide_true,if_true,decide_false,Bool.false_eq_true,if_false]
  omega
theorem yf {x y:Int} (af:0≤x) (SD:x≤y):(L x).length≤(L y).length:=by
 apply (fF af).2
 have:=jH (fv y)
 rw [cX (by omega)] at this
 omega
theorem HP {a b:Int} (bH:(a.natAbs:Int)<B 50) (aT:(b.natAbs:Int)<B 50):mf (fa a) (fa b)=some (fa (a+b)):=by
 have Tz:=(fF (k:=50) (n:=a.natAbs) (by omega)).2 bH
 have TA:=(fF (k:=50) (n:=b.natAbs) (by omega)).2 aT
 have lo:B 50+B 50≤B 60:=by
  have h1:B 51≤B 60:=mq (by omega)
  have h2:=kk 50
  rw [i7] at h1
  omega
 have cy:mf (fa a) (fa b)=(if (decide (a<0) == decide (b<0))=true then (sA (L a.natAbs) (L b.natAbs)).bind fun r2=>(gA (decide (a<0)) r2).bind fun bb=>some bb else (nY (L a.natAbs) (L b.natAbs)).bind fun r2=>if (decide ((0:Int)≤r2))=true then (nZ (L a.natAbs) (L b.natAbs)).bind fun aV=>(gA (decide (a<0)) aV).bind fun bw=>some bw else (nZ (L b.natAbs) (L a.natAbs)).bind fun aV=>(gA (decide (b<0)) aV).bind fun bw=>some bw):=rfl
 rw [cy]
 by_cases h:decide (a<0)=decide (b<0)
 ·rw [if_pos (by simpa using h)]
  obtain ⟨r,r1,r2,a2,bb⟩:=QB (fv a.natAbs) (fv b.natAbs) (by omega) (by omega)
  rw [cX (by omega),cX (by omega)] at a2
  rw [r1,Option.bind_some,PX r2 (by omega) (by omega),a2,I7 h]
  rfl
 ·rw [if_neg (by simpa using h),vC (gV _) (gV _) (by omega),cX (by omega),cX (by omega),Option.bind_some]
  by_cases a8:(b.natAbs:Int)≤a.natAbs
  ·have q9:0≤lC (a.natAbs:Int) b.natAbs:=by
    apply Int.not_lt.mp
    intro h1
    have:=oR.1 h1
    omega
   rw [if_pos (by simpa using q9),sub_eq (fv _) (fv _) (yf (by omega) a8) (by rw [cX (by omega),cX (by omega)];exact a8) (by omega),cX (by omega),cX (by omega),Option.bind_some,nG (by omega) (by omega),(yr h).1]
   rfl
  ·have q9 : ¬0≤lC (a.natAbs:Int) b.natAbs:=by
    have:=oR.2 (show (a.natAbs:Int)<b.natAbs by omega)
    omega
   rw [if_neg (by simpa using q9),sub_eq (fv _) (fv _) (yf (by omega) (by omega)) (by rw [cX (by omega),cX (by omega)];omega) (by omega),cX (by omega),cX (by omega),Option.bind_some,nG (by omega) (by omega),(yr h).2]
   rfl
theorem Ij {a b:Int} (bH:(a.natAbs:Int)<B 50) (aT:(b.natAbs:Int)<B 50):oB (fa a) (fa b)=some (fa (a+b)):=by
 have Tz:=(fF (k:=50) (n:=a.natAbs) (by omega)).2 bH
 have TA:=(fF (k:=50) (n:=b.natAbs) (by omega)).2 aT
 have cy:oB (fa a) (fa b)=((oH (L a.natAbs) (L b.natAbs)).bind fun r1=>if (decide (a<0) == decide (b<0))=true then (sI (L a.natAbs) (L b.natAbs)).bind fun r2=>(jz (decide (a<0)) r2).bind fun bb=>some bb else if (decide ((0:Int)≤r1))=true then (oN (L a.natAbs) (L b.natAbs)).bind fun aV=>(jz (decide (a<0)) aV).bind fun bw=>some bw else (oN (L b.natAbs) (L a.natAbs)).bind fun aV=>(jz (decide (b<0)) aV).bind fun bw=>some bw):=rfl
 rw [cy,xU (gV _) (gV _) (by omega),cX (by omega),cX (by omega),Option.bind_some]
 by_cases h:decide (a<0)=decide (b<0)
 ·rw [if_pos (by simpa using h),QU (fv _) (fv _) (by omega) (by omega),cX (by omega),cX (by omega),Option.bind_some,n3 (by omega),I7 h]
  rfl
 ·rw [if_neg (by simpa using h)]
  by_cases a8:(b.natAbs:Int)≤a.natAbs
  ·have q9:0≤lC (a.natAbs:Int) b.natAbs:=by
    apply Int.not_lt.mp
    intro h1
    have:=oR.1 h1
    omega
   rw [if_pos (by simpa using q9),Ii (fv _) (fv _) (yf (by omega) a8) (by rw [cX (by omega),cX (by omega)];exact a8) (by omega),cX (by omega),cX (by omega),Option.bind_some,n3 (by omega),(yr h).1]
   rfl
  ·have q9 : ¬0≤lC (a.natAbs:Int) b.natAbs:=by
    have:=oR.2 (show (a.natAbs:Int)<b.natAbs by omega)
    omega
   rw [if_neg (by simpa using q9),Ii (fv _) (fv _) (yf (by omega) (by omega)) (by rw [cX (by omega),cX (by omega)];omega) (by omega),cX (by omega),cX (by omega),Option.bind_some,n3 (by omega),(yr h).2]
   rfl
theorem I8 {b:Int}:c8 (!(decide (b<0))) (b.natAbs:Int) = -b:=by
 unfold c8
 by_cases h:b<0
 ·simp only [h,decide_true,Bool.not_true,Bool.false_eq_true,if_false]
  omega
 ·simp only [h,decide_false,Bool.not_false,if_true]
  omega
theorem P0 {a b:Int} (bH:(a.natAbs:Int)<B 50) (aT:(b.natAbs:Int)<B 50):r6 (fa a) (fa b)=some (fa (a-b)):=by
 have cy:r6 (fa a) (fa b)=(((jz (!(decide (b<0))) (L b.natAbs)).bind fun r=>some r).bind fun r1=>(oB (fa a) r1).bind fun a2=>some a2):=rfl
 rw [cy,n3 (by omega),I8,Option.bind_some,Option.bind_some,Ij bH (by omega),Option.bind_some,Int.sub_eq_add_neg]
theorem Fr.neg {q:Int×Int} (h:Fr q):Fr (-q.1,q.2):=⟨h.pos,by simp only;rw [Int.neg_gcd];exact h.Ko,by simp only;have:=h.num;omega,h.den⟩
theorem P1 {q:Int×Int} (h:Fr q):sy (mk q)=some (mk (-q.1,q.2)):=by
 have h1:=h.num
 have h2:=h.lD
 have ag:=DD
 have cy:sy (mk q)=((gA (!(decide (q.1<0))) (L q.1.natAbs)).bind fun r1=>if (([]:List Int)++L q.2).length*8≤140737488355328 then some (⟨r1,([]:List Int)++L q.2⟩:bF) else none):=rfl
 rw [cy,nG (by omega) (by omega),I8,Option.bind_some,if_pos (by simp;omega)]
 rfl
theorem sR {p q:Int×Int} (aj:Fr p) (aR:Fr q):((p.1*q.2).natAbs:Int)<B 48∧(L (p.1.natAbs*q.2:Int)).length≤48∧0≤(p.1.natAbs*q.2:Int):=by
 have aQ:=aR.pos
 have bd:=oS (x:=p.1.natAbs) (y:=q.2) (by omega) (by omega) aj.num aR.den
 have zy:0≤(p.1.natAbs:Int)*q.2:=Int.mul_nonneg (by omega) (by omega)
 rw [DF (by omega)]
 exact ⟨(fF zy).1 bd,bd,zy⟩
theorem DG:B 48+B 48≤B 50:=by
 have h1:B 49≤B 50:=mq (by omega)
 have h2:=kk 48
 rw [i7] at h1
 omega
theorem HQ {p q:Int×Int} (aj:Fr p) (aR:Fr q):oK (mk p) (mk q)=some (enc (low (p.1*q.2+q.1*p.2) (p.2*q.2))):=by
 have h1:=aj.lX
 have h2:=aj.lD
 have ag:=aR.lX
 have ap:=aR.lD
 have aE:=aj.pos
 have aQ:=aR.pos
 have JL:=aj.num
 have kM:=aR.num
 have Ve:=aj.den
 have Vf:=aR.den
 have im:=DG
 have Uq:B 24≤B 48:=mq (by omega)
 have Ur:B 50≤B 60:=mq (by omega)
 obtain ⟨bo,hl,jk⟩:=sR aj aR
 obtain ⟨d1,d2,d3⟩:=sR aR aj
 have JG:=kk 48
 have e1:hr (L p.1.natAbs) (L q.2)=some (L ((p.1.natAbs:Int)*q.2)):=by
  rw [mul_eq (fv _) (fv _) (by omega) (by omega),cX (by omega),cX (by omega)]
 have e2:hr (L q.1.natAbs) (L p.2)=some (L ((q.1.natAbs:Int)*p.2)):=by
  rw [mul_eq (fv _) (fv _) (by omega) (by omega),cX (by omega),cX (by omega)]
 have bp:gA (decide (p.1<0)) (L ((p.1.natAbs:Int)*q.2))=some (fa (p.1*q.2)):=by
  rw [nG jk (by rw [← DF (by omega)];omega),yp]
 have cp:gA (decide (q.1<0)) (L ((q.1.natAbs:Int)*p.2))=some (fa (q.1*p.2)):=by
  rw [nG d3 (by rw [← DF (by omega)];omega),yp]
 have cM:mf (fa (p.1*q.2)) (fa (q.1*p.2))=some (fa (p.1*q.2+q.1*p.2)):=HP (by omega) (by omega)
 have bL:=oS (x:=p.2) (y:=q.2) (by omega) (by omega) aj.den aR.den
 have d5:hr (L p.2) (L q.2)=some (L (p.2*q.2)):=by
  rw [mul_eq (fv _) (fv _) (by omega) (by omega),cX (by omega),cX (by omega)]
 have JH:(L (p.1*q.2+q.1*p.2).natAbs).length≤50:=(fF (by omega)).2 (by omega)
 have dP:kV (decide (p.1*q.2+q.1*p.2<0)) (L (p.1*q.2+q.1*p.2).natAbs) (L (p.2*q.2))=some (enc (low (p.1*q.2+q.1*p.2) (p.2*q.2))):=by
  rw [HM (by omega) (Int.mul_pos aE aQ) (by omega) (by omega)]
  have:c8 (decide (p.1*q.2+q.1*p.2<0)) ((p.1*q.2+q.1*p.2).natAbs:Int)=p.1*q.2+q.1*p.2:=by
   have:=yp (a:=p.1*q.2+q.1*p.2) (b:=1)
   rwa [Int.mul_one,Int.mul_one] at this
  rw [this]
 have JI:((hr (L p.1.natAbs) (L q.2)).bind fun bw=>(gA (decide (p.1<0)) bw).bind fun cu=>(hr (L q.1.natAbs) (L p.2)).bind fun cN=>(gA (decide (q.1<0)) cN).bind fun dN=>(mf cu dN).bind fun et=>(hr (L p.2) (L q.2)).bind fun gy=>(kV et.bM et.a9 gy).bind fun kt=>some kt)=some (enc (low (p.1*q.2+q.1*p.2) (p.2*q.2))):=by
  rw [e1,Option.bind_some,bp,Option.bind_some,e2,Option.bind_some,cp,Option.bind_some,cM,Option.bind_some,d5,Option.bind_some]
  show (kV (decide (p.1*q.2+q.1*p.2<0)) (L (p.1*q.2+q.1*p.2).natAbs) (L (p.2*q.2))).bind _=_
  rw [dP,Option.bind_some]
 have cy:oK (mk p) (mk q)=((mT (L p.2)).bind fun r1=>if r1=true then (mT (L q.2)).bind fun bb=>if bb=true then (mf (fa p.1) (fa q.1)).bind fun bw=>(kV bw.bM bw.a9 ([1]:List Int)).bind fun cu=>some cu else ((hr (L p.1.natAbs) (L q.2)).bind fun bw=>(gA (decide (p.1<0)) bw).bind fun cu=>(hr (L q.1.natAbs) (L p.2)).bind fun cN=>(gA (decide (q.1<0)) cN).bind fun dN=>(mf cu dN).bind fun et=>(hr (L p.2) (L q.2)).bind fun gy=>(kV et.bM et.a9 gy).bind fun kt=>some kt) else ((hr (L p.1.natAbs) (L q.2)).bind fun bw=>(gA (decide (p.1<0)) bw).bind fun cu=>(hr (L q.1.natAbs) (L p.2)).bind fun cN=>(gA (decide (q.1<0)) cN).bind fun dN=>(mf cu dN).bind fun et=>(hr (L p.2) (L q.2)).bind fun gy=>(kV et.bM et.a9 gy).bind fun kt=>some kt)):=rfl
 rw [cy,vE (by omega),Option.bind_some]
 by_cases bt:p.2=1
 ·rw [if_pos (by simpa using bt),vE (by omega),Option.bind_some]
  by_cases aO:q.2=1
  ·rw [if_pos (by simpa using aO),HP (by omega) (by omega),Option.bind_some]
   have gz:p.1*q.2+q.1*p.2=p.1+q.1:=by rw [bt,aO,Int.mul_one,Int.mul_one]
   have KF:p.2*q.2=1:=by rw [bt,aO];rfl
   rw [gz,KF,DP] at dP
   rw [gz,KF]
   show (kV (decide (p.1+q.1<0)) (L (p.1+q.1).natAbs) [1]).bind _=_
   rw [dP,Option.bind_some]
  ·rw [if_neg (by simpa using aO)]
   exact JI
 ·rw [if_neg (by simpa using bt)]
  exact JI
noncomputable def m7 (x y:Option (Int×Int)):Option (Int×Int):=x.bind fun p=>y.bind fun q=>low (p.1*q.2+q.1*p.2) (p.2*q.2)
noncomputable def jd (x y:Option (Int×Int)):Option (Int×Int):=x.bind fun p=>y.bind fun q=>low (p.1*q.2-q.1*p.2) (p.2*q.2)
theorem C8 {p q:Int×Int}:m7 (some p) (some q)=low (p.1*q.2+q.1*p.2) (p.2*q.2):=by
 unfold m7
 rw [Option.bind_some,Option.bind_some]
theorem C9 {p q:Int×Int}:jd (some p) (some q)=low (p.1*q.2-q.1*p.2) (p.2*q.2):=by
 unfold jd
 rw [Option.bind_some,Option.bind_some]
theorem ys {x y:Option (Int×Int)} (af:hh x) (aF:hh y):hh (m7 x y):=by
 intro r ao
 cases x with
 | none=>simp [m7] at ao
 | some p =>
  cases y with
  | none=>simp [m7] at ao
  | some q =>
   rw [C8] at ao
   exact DC (Int.mul_pos (af p rfl).pos (aF q rfl).pos) r ao
theorem hJ {x y:Option (Int×Int)} (af:hh x) (aF:hh y):hh (jd x y):=by
 intro r ao
 cases x with
 | none=>simp [jd] at ao
 | some p =>
  cases y with
  | none=>simp [jd] at ao
  | some q =>
   rw [C9] at ao
   exact DC (Int.mul_pos (af p rfl).pos (aF q rfl).pos) r ao
theorem HR {x y:Option (Int×Int)} (af:hh x) (aF:hh y):sB (enc x) (enc y)=some (enc (jd x y)):=by
 unfold sB
 rw [qs af,qs aF]
 cases x with
 | none =>
  simp only [Option.isSome_none,Option.bind_eq_bind,Option.bind_some,Bool.false_eq_true,if_false]
  rfl
 | some p =>
  cases y with
  | none =>
   simp only [Option.isSome_none,Option.isSome_some,Option.bind_eq_bind,Option.bind_some,Bool.false_eq_true,if_false,if_true]
   rfl
  | some q =>
   simp only [Option.bind_eq_bind,Option.bind_some,Option.isSome_some,if_true]
   show (sy (mk q)).bind _=_
   rw [P1 (aF q rfl),Option.bind_some]
   show (oK (mk p) (mk (-q.1,q.2))).bind _=_
   rw [HQ (af p rfl) (aF q rfl).neg,C9]
   simp only [Option.bind_some]
   rw [Int.neg_mul,← Int.sub_eq_add_neg]
theorem IG {x y:Option (Int×Int)} (af:hh x) (aF:hh y):qi (gx x) (gx y)=some (gx (jd x y)):=by
 cases x with
 | none=>rfl
 | some p =>
  cases y with
  | none=>rfl
  | some q =>
   have aj:=af p rfl
   have aR:=aF q rfl
   have h1:=aj.lX
   have h2:=aj.lD
   have ag:=aR.lX
   have ap:=aR.lD
   have aE:=aj.pos
   have aQ:=aR.pos
   have im:=DG
   have JG:=kk 48
   obtain ⟨bo,-,-⟩:=sR aj aR
   obtain ⟨d1,-,-⟩:=sR aR aj
   have bL:=oS (x:=p.2) (y:=q.2) (by omega) (by omega) aj.den aR.den
   have JH:(L (p.1*q.2-q.1*p.2).natAbs).length≤50:=(fF (by omega)).2 (by omega)
   have cy:qi (some (hD p)) (some (hD q))=((((ma (some (hD p)) (L q.2)).bind fun a2=>(ma (some (hD q)) (L p.2)).bind fun bw=>(r6 a2 bw).bind fun cu=>(lJ (L p.2) (L q.2)).bind fun cN=>(ny cu cN).bind fun dN=>some dN)).bind fun aV=>(nF aV).bind fun bw=>some bw):=rfl
   show qi (some (hD p)) (some (hD q))=_
   rw [cy,x3 (by omega) (by omega) (by omega),Option.bind_some,x3 (by omega) (by omega) (by omega),Option.bind_some,P0 (by omega) (by omega),Option.bind_some,vi (fv _) (fv _) (by omega) (by omega),cX (by omega),cX (by omega),Option.bind_some]
   have:=DE (n:=p.1*q.2-q.1*p.2) (d:=p.2*q.2) (Int.mul_pos aE aQ) (by omega) (by omega)
   rw [xZ (Int.mul_pos aE aQ) (by omega) (by omega),Option.bind_some] at this ⊢
   rw [Option.bind_some,this,C9,Option.bind_some]
theorem HS {x y:Option (Int×Int)} (af:hh x) (aF:hh y):sC (enc x) (enc y)=some (enc (m7 x y)):=by
 unfold sC
 rw [qs af,qs aF]
 cases x with
 | none =>
  simp only [Option.isSome_none,Option.bind_eq_bind,Option.bind_some,Bool.false_eq_true,if_false]
  rfl
 | some p =>
  cases y with
  | none =>
   simp only [Option.isSome_none,Option.isSome_some,Option.bind_eq_bind,Option.bind_some,Bool.false_eq_true,if_false,if_true]
   rfl
  | some q =>
   simp only [Option.bind_eq_bind,Option.bind_some,Option.isSome_some,if_true]
   show (oK (mk p) (mk q)).bind _=_
   rw [HQ (af p rfl) (aF q rfl),C8]
   simp only [Option.bind_some]
theorem IH {x y:Option (Int×Int)} (af:hh x) (aF:hh y):qk (gx x) (gx y)=some (gx (m7 x y)):=by
 cases x with
 | none=>rfl
 | some p =>
  cases y with
  | none=>rfl
  | some q =>
   have aj:=af p rfl
   have aR:=aF q rfl
   have h1:=aj.lX
   have h2:=aj.lD
   have ag:=aR.lX
   have ap:=aR.lD
   have aE:=aj.pos
   have aQ:=aR.pos
   have im:=DG
   have JG:=kk 48
   obtain ⟨bo,-,-⟩:=sR aj aR
   obtain ⟨d1,-,-⟩:=sR aR aj
   have bL:=oS (x:=p.2) (y:=q.2) (by omega) (by omega) aj.den aR.den
   have JH:(L (p.1*q.2+q.1*p.2).natAbs).length≤50:=(fF (by omega)).2 (by omega)
   have cy:qk (some (hD p)) (some (hD q))=((((ma (some (hD p)) (L q.2)).bind fun a2=>(ma (some (hD q)) (L p.2)).bind fun bw=>(oB a2 bw).bind fun cu=>(lJ (L p.2) (L q.2)).bind fun cN=>(ny cu cN).bind fun dN=>some dN)).bind fun aV=>(nF aV).bind fun bw=>some bw):=rfl
   show qk (some (hD p)) (some (hD q))=_
   rw [cy,x3 (by omega) (by omega) (by omega),Option.bind_some,x3 (by omega) (by omega) (by omega),Option.bind_some,Ij (by omega) (by omega),Option.bind_some,vi (fv _) (fv _) (by omega) (by omega),cX (by omega),cX (by omega),Option.bind_some]
   have:=DE (n:=p.1*q.2+q.1*p.2) (d:=p.2*q.2) (Int.mul_pos aE aQ) (by omega) (by omega)
   rw [xZ (Int.mul_pos aE aQ) (by omega) (by omega),Option.bind_some] at this ⊢
   rw [Option.bind_some,this,C8,Option.bind_some]
theorem yB {cm:List (Int×Int)} (h : ∀p∈cm,Fr p) (k:Nat):hh cm[k]? := fun p aj=>h p (List.mem_of_getElem? aj)
theorem DS {cm:List (Int×Int)} {k:Nat} (bA:k<cm.length):(cm.map mk)[k]? = some (enc cm[k]?):=by
 rw [List.getElem?_map,List.getElem?_eq_getElem bA]
 rfl
theorem DH {cm:List (Int×Int)} {k:Nat} (bA:k<cm.length):(cm.map oc)[k]? = some (gx cm[k]?):=by
 rw [List.getElem?_map,List.getElem?_eq_getElem bA]
 rfl
theorem GJ {eZ:List bg} {m:bR} (h:lN eZ m=true):0≤m.de∧m.de<eZ.length∧0≤m.c1∧m.c1<eZ.length:=by
 unfold lN at h
 simp only [Bool.and_eq_true,decide_eq_true_eq] at h
 omega
theorem pq {i:Int} {a:Nat} (h0:0≤i) (h1:i≤100) (bH:a≤1):U (U (2*i)+(a:Int))=(((2*i+a).toNat:Nat):Int):=by
 rw [cf (x:=2*i) (by omega) (by omega),cf (by omega) (by omega)]
 omega
theorem G1 (l:List Int) (h:l.length≤1048576):sd l=some l:=by
 have aT : ∀(n:Nat) x (row:List Int),l[n]? = some x→row.length=l.length→px l n row=some (.inl (((n+1:Nat):Int),row.set n x)):=by
  intro n x row af ao
  obtain ⟨bf,rfl⟩:=List.getElem?_eq_some_iff.1 af
  have hw:U ((n:Int)+1)=((n+1:Nat):Int):=by rw [cf (by omega) (by omega)];rfl
  simp only [px,dM,hw]
  simp [bf,ao]
 have he : ∀row:List Int,px l l.length row=some (.inr row):=by
  intro row
  simp [px,dM]
 have h1:BR l 0 (List.replicate (len_ I l).toNat 0)=some l :=
  C2 l (List.replicate (len_ I l).toNat 0) (by simp [dM]) aT he
 unfold sd
 rw [h1,if_pos (by rw [dM];omega)]
 simp [dM]
theorem Od (l:List bg) (h:l.length≤1048576):ul l=some l:=by
 have aT : ∀(n:Nat) x (row:List bg),l[n]? = some x→row.length=l.length→pv l n row=some (.inl (((n+1:Nat):Int),row.set n x)):=by
  intro n x row af ao
  obtain ⟨bf,rfl⟩:=List.getElem?_eq_some_iff.1 af
  have hw:U ((n:Int)+1)=((n+1:Nat):Int):=by rw [cf (by omega) (by omega)];rfl
  simp only [pv,dM,hw,xN]
  simp [bf,ao]
 have he : ∀row:List bg,pv l l.length row=some (.inr row):=by
  intro row
  simp [pv,dM]
 have h1:Be l 0 (List.replicate (len_ aG l).toNat (⟨ByteArray.empty,0,0,false⟩:bg))=some l :=
  C2 l _ (by simp [dM]) aT he
 unfold ul
 rw [h1,if_pos (by rw [dM];omega)]
 simp [dM]
theorem N1 (l:List bR) (h:l.length≤1048576):uk l=some l:=by
 have aT : ∀(n:Nat) x (row:List bR),l[n]? = some x→row.length=l.length→pu l n row=some (.inl (((n+1:Nat):Int),row.set n x)):=by
  intro n x row af ao
  obtain ⟨bf,rfl⟩:=List.getElem?_eq_some_iff.1 af
  have hw:U ((n:Int)+1)=((n+1:Nat):Int):=by rw [cf (by omega) (by omega)];rfl
  simp only [pu,dM,hw,xI]
  simp [bf,ao]
 have he : ∀row:List bR,pu l l.length row=some (.inr row):=by
  intro row
  simp [pu,dM]
 have h1:AO l 0 (List.replicate (len_ aZ l).toNat (⟨0,0,0⟩:bR))=some l :=
  C2 l _ (by simp [dM]) aT he
 unfold uk
 rw [h1,if_pos (by rw [dM];omega)]
 simp [dM]
theorem Nt (s:c4) (h1:s.a6.length≤1048576) (h2:s.b9.length≤1048576):ud s=some (s.a6,s.b9):=by
 simp [ud,Od _ h1,N1 _ h2]
def jS (P:List (List Int)):g6→Prop
 | none=>True
 | some (k,c)=> ∃x,P[k]? = some x∧x.length=c∧c≤1048576
theorem jS.wZ {P:List (List Int)} {h:g6} (dY:jS P h):o6 P h=true:=by
 cases h with
 | none=>rfl
 | some p =>
  obtain ⟨k,c⟩:=p
  obtain ⟨x,h1,h2,-⟩:=dY
  have bA:=dT h1
  have a0:P.getD k []=x:=by rw [List.getD_eq_getElem?_getD,h1];rfl
  simp only [o6,a0,Bool.and_eq_true,decide_eq_true_eq]
  omega
theorem jS.az {P:List (List Int)} (Q:List (List Int)) {h:g6} (dY:jS P h):jS (P++Q) h∧nc (P++Q) h=nc P h:=by
 cases h with
 | none=>exact ⟨trivial,rfl⟩
 | some p =>
  obtain ⟨k,c⟩:=p
  obtain ⟨x,h1,h2,ag⟩:=dY
  have bA:=dT h1
  have e:(P++Q)[k]? = some x:=by rw [List.getElem?_append_left bA];exact h1
  refine ⟨⟨x,e,h2,ag⟩,?_⟩
  simp only [nc,List.getD_eq_getElem?_getD,e,h1]
theorem jS.new {P Q:List (List Int)} {x:List Int} {n:Nat} (af:Q[n]? = some x) (aM:x.length≤1048576):jS (P++Q) (some (P.length+n,x.length))∧nc (P++Q) (some (P.length+n,x.length))=x:=by
 have e:(P++Q)[P.length+n]? = some x:=by rw [List.getElem?_append_right (by omega),show P.length+n-P.length=n by omega];exact af
 refine ⟨⟨x,e,rfl,aM⟩,?_⟩
 simp only [nc,List.getD_eq_getElem?_getD,e,Option.getD_some,List.take_length]
theorem jS.set {P:List (List Int)} {k:Nat} {x y:List Int} (af:P[k]? = some x) (aF:y.length=x.length) {h:g6} (dY:jS P h):jS (P.set k y) h:=by
 cases h with
 | none=>trivial
 | some p =>
  obtain ⟨j,c⟩:=p
  obtain ⟨z,h1,h2,ag⟩:=dY
  by_cases aS:k=j
  ·subst aS
   rw [af] at h1
   obtain rfl:=Option.some.inj h1
   exact ⟨y,by rw [List.getElem?_set,if_pos rfl,if_pos (dT af)],by omega,ag⟩
  ·exact ⟨z,by rw [List.getElem?_set,if_neg aS];exact h1,h2,ag⟩
def ph (P:List (List Int)) (x:c7):Prop:=jS P x.bm.a9∧jS P x.bO
theorem ph.wZ {P:List (List Int)} {x:c7} (h:ph P x):sW P x=true:=by
 simp only [sW,h.1.wZ,h.2.wZ,Bool.and_self]
theorem Pn {r:bF} (h:lP r):uM r=some (r.bm.bM,r.bm.a9,r.bO):=by
 simp [uM,xx,G1 _ h.1,G1 _ h.2]
theorem G2 (l:List bF) (h:l.length≤1048576) (ao : ∀r∈l,lP r) :
 ∃rw P,se l=some (rw,P)∧rw.map (dc P)=l∧rw.length=l.length∧ ∀x∈rw,ph P x:=by
 obtain ⟨r,r1,r2⟩:=gg (f:=fun w:Int×(List c7)×(List (List Int))=>rD l w.1 w.2.1 w.2.2)
  (c6:=fun w=> ∃n:Nat,w.1=n∧n≤l.length∧w.2.1.length=l.length∧ ∀j x,j<n→w.2.1[j]? = some x→ph w.2.2 x∧l[j]? = some (dc w.2.2 x))
  (m:=fun w=>l.length-w.1.toNat) (fun r=>r.1.length=l.length∧ ∀j x,r.1[j]? = some x→ph r.2 x∧l[j]? = some (dc r.2 x)) (by
    rintro ⟨a,row,P⟩ ⟨n,e1,e2,bp,cp⟩
    simp only at e1 bp cp
    subst e1
    by_cases bf:n=l.length
    ·subst bf
     refine .inr ⟨(row,P),by simp [rD,dM],bp,fun j x aS=>cp j x (by have:=dT aS;simp only at this;omega) aS⟩
    ·have af:=List.getElem?_eq_getElem (show n<l.length by omega)
     generalize l[n]=r at af
     have lG:=ao r (List.mem_of_getElem? af)
     have hw:U ((n:Int)+1)=((n+1:Nat):Int):=by rw [cf (by omega) (by omega)];rfl
     refine .inl ⟨(((n+1:Nat):Int),row.set n ⟨⟨r.bm.bM,some (P.length,r.bm.a9.length)⟩,some (P.length+1,r.bO.length)⟩,P++[r.bm.a9,r.bO]),?_,⟨n+1,rfl,by omega,by simp [bp],fun j x aS cP=> ?_⟩,by simp;omega⟩
     ·have lq:n<l.length:=by omega
      have UA:n<row.length:=by omega
      unfold rD
      rw [dM,if_pos (by simp;omega),if_pos (by omega),Int.toNat_natCast,af]
      simp only [Option.bind_eq_bind,Option.bind_some]
      rw [Pn lG]
      simp only [Option.bind_some]
      rw [if_pos (by omega),if_pos (by omega),hw,Nat.zero_add]
     ·simp only at cP ⊢
      rw [List.getElem?_set] at cP
      by_cases pg:n=j
      ·subst pg
       rw [if_pos rfl,if_pos (by omega)] at cP
       obtain rfl:=Option.some.inj cP
       have q1:=jS.new (P:=P) (Q:=[r.bm.a9,r.bO]) (n:=0) rfl lG.1
       have q2:=jS.new (P:=P) (Q:=[r.bm.a9,r.bO]) (n:=1) rfl lG.2
       refine ⟨⟨q1.1,q2.1⟩,?_⟩
       rw [af]
       simp only [dc]
       rw [show (some (P.length,r.bm.a9.length):g6)=some (P.length+0,r.bm.a9.length) from rfl,q1.2,q2.2]
      ·rw [if_neg pg] at cP
       obtain ⟨⟨f1,f2⟩,f3⟩:=cp j x (by omega) cP
       have g1:=f1.az [r.bm.a9,r.bO]
       have g2:=f2.az [r.bm.a9,r.bO]
       refine ⟨⟨g1.1,g2.1⟩,?_⟩
       rw [f3]
       simp only [dc,g1.2,g2.2])
  (0,List.replicate l.length ⟨⟨false,none⟩,none⟩,[]) ⟨0,rfl,by omega,by simp,fun j x aS=>by omega⟩
 obtain ⟨zq,P⟩:=r
 obtain ⟨r2,a2⟩:=r2
 simp only at r2 a2
 refine ⟨zq,P,?_,?_,r2,fun x af=> ?_⟩
 ·unfold se BS
  rw [dM,Int.toNat_natCast,if_pos (by omega)]
  rw [r1]
  rfl
 ·apply List.ext_getElem?
  intro j
  rw [List.getElem?_map]
  cases aS:zq[j]? with
  | none=>rw [List.getElem?_eq_none_iff] at aS;symm;rw [Option.map_none,List.getElem?_eq_none_iff];omega
  | some x=>rw [(a2 j x aS).2];rfl
 ·obtain ⟨j,aS⟩:=List.mem_iff_getElem?.mp af
  exact (a2 j x aS).1
theorem Jo (x:Int):(nM [x]).size=1:=rfl
theorem Oe {k:Int} (h:k≤1000000000000000000) : ∃r,uI k=some r:=by
 unfold uI
 by_cases c:k≤0
 ·exact ⟨_,by rw [if_pos (by simpa using c)]⟩
 ·rw [if_neg (by simpa using c)]
  obtain ⟨r,r1,r2⟩:=gg (f:=fun w:Int×ByteArray=>rK w.1 w.2) (c6:=fun w=>0≤w.1∧(w.2.size:Int)+w.1≤1000000000000000000) (m:=fun w=>w.1.toNat)
   (fun r=>(r.size:Int)≤1000000000000000000) (by
     rintro ⟨a,R⟩ ⟨h1,h2⟩
     simp only at h1 h2
     by_cases bH:0<a
     ·have a0:a.tdiv 10=a / 10:=by rw [Int.tdiv_eq_ediv_of_nonneg h1]
      refine .inl ⟨(a / 10,nM [IntKind.wrap .u8 (U ((48:Int)+(a.tmod (10:Int))))]++R),?_,⟨by simp only;omega,?_⟩,by simp only;omega⟩
      ·unfold rK
       simp only
       rw [if_pos (by simpa using bH),Jo,if_pos (by omega),a0,cf (by omega) (by omega)]
      ·simp only [ByteArray.size_append,Jo]
       omega
     ·exact .inr ⟨R,by simp [rK,bH],by omega⟩) (k,⟨#[]⟩) ⟨by simp only;omega,by
      have:(⟨#[]⟩:ByteArray).size=0:=rfl
      simp only [this];omega⟩
  unfold B5
  rw [r1]
  refine ⟨_,by
   simp only [Option.bind_eq_bind,Option.bind_some]
   rw [if_pos ?_]
   have:(⟨#[109]⟩:ByteArray).size=1:=rfl
   rw [this]
   omega⟩
theorem M1 {k:Int} {l:List bg} (h0:0≤k) (h:k+4*l.length≤1000000000000000000) :
 ∃cF eY,uh k l=some (cF,eY)∧eY.length=l.length∧0≤cF∧cF≤k+4*l.length:=by
 obtain ⟨r,r1,r2⟩:=gg (f:=fun w:Int×Int×(List bg)=>pt w.1 w.2.1 w.2.2)
  (c6:=fun w=> ∃n:Nat,w.2.1=n∧n≤l.length∧w.2.2.length=l.length∧0≤w.1∧w.1≤k+4*n)
  (m:=fun w=>l.length-w.2.1.toNat) (fun r=>r.2.length=l.length∧0≤r.1∧r.1≤k+4*l.length) (by
    rintro ⟨a,i,row⟩ ⟨n,e1,e2,bp,cp,cM⟩
    simp only at e1 bp cp cM
    subst e1
    by_cases bf:n=l.length
    ·subst bf
     refine .inr ⟨(a,row),by simp [pt,bp],bp,cp,cM⟩
    ·have lq:n<row.length:=by omega
     obtain ⟨t,bZ⟩:=Oe (k:=a) (by omega)
     have hw:U ((n:Int)+1)=((n+1:Nat):Int):=by rw [cf (by omega) (by omega)];rfl
     have ns:U (a+1)=a+1:=cf (by omega) (by omega)
     have pq:U (a+1+1)=a+1+1:=cf (by omega) (by omega)
     have tR:U (a+1+1+1)=a+1+1+1:=cf (by omega) (by omega)
     have KD:U (a+1+1+1+1)=a+1+1+1+1:=cf (by omega) (by omega)
     have key : ∃cD,pt a n row=some (.inl (a+1+1+1+1,((n+1:Nat):Int),cD))∧cD.length=row.length:=by
      unfold pt
      rw [if_pos (by simpa using lq),bZ,ns,pq,tR,KD,hw]
      simp only [Option.bind_eq_bind,Option.bind_some,Nat.zero_add,Int.toNat_natCast]
      rw [if_pos (by omega),List.getElem?_eq_getElem lq]
      simp only [Option.bind_some,List.getElem?_set_self lq,List.length_set,List.getElem?_set_self (show n<(row.set n _).length by simpa using lq),List.set_set]
      exact ⟨_,rfl,by simp⟩
     obtain ⟨cD,h1,h2⟩:=key
     refine .inl ⟨_,h1,⟨n+1,rfl,by omega,by simp only;omega,by simp only;omega,by simp only;omega⟩,by simp;omega⟩) (k,0,l) ⟨0,rfl,by omega,rfl,h0,by simp⟩
 obtain ⟨cF,eY⟩:=r
 exact ⟨cF,eY,by unfold uh AL;rw [r1];rfl,r2⟩
theorem MM {k:Int} {l:List bR} (h0:0≤k) (h:k+3*l.length≤1000000000000000000) :
 ∃cF eY,ue k l=some (cF,eY)∧eY.length=l.length∧0≤cF∧cF≤k+3*l.length:=by
 obtain ⟨r,r1,r2⟩:=gg (f:=fun w:Int×Int×(List bR)=>ps w.1 w.2.1 w.2.2)
  (c6:=fun w=> ∃n:Nat,w.2.1=n∧n≤l.length∧w.2.2.length=l.length∧0≤w.1∧w.1≤k+3*n)
  (m:=fun w=>l.length-w.2.1.toNat) (fun r=>r.2.length=l.length∧0≤r.1∧r.1≤k+3*l.length) (by
    rintro ⟨a,i,row⟩ ⟨n,e1,e2,bp,cp,cM⟩
    simp only at e1 bp cp cM
    subst e1
    by_cases bf:n=l.length
    ·subst bf
     refine .inr ⟨(a,row),by simp [ps,bp],bp,cp,cM⟩
    ·have lq:n<row.length:=by omega
     have hw:U ((n:Int)+1)=((n+1:Nat):Int):=by rw [cf (by omega) (by omega)];rfl
     have ns:U (a+1)=a+1:=cf (by omega) (by omega)
     have pq:U (a+1+1)=a+1+1:=cf (by omega) (by omega)
     have tR:U (a+1+1+1)=a+1+1+1:=cf (by omega) (by omega)
     have key : ∃cD,ps a n row=some (.inl (a+1+1+1,((n+1:Nat):Int),cD))∧cD.length=row.length:=by
      unfold ps
      rw [if_pos (by simpa using lq),ns,pq,tR,hw]
      simp only [Nat.zero_add,Int.toNat_natCast]
      rw [if_pos (by omega),List.getElem?_eq_getElem lq]
      simp only [Option.bind_eq_bind,Option.bind_some,List.getElem?_set_self lq,List.length_set,List.getElem?_set_self (show n<(row.set n _).length by simpa using lq),List.set_set]
      exact ⟨_,rfl,by simp⟩
     obtain ⟨cD,h1,h2⟩:=key
     refine .inl ⟨_,h1,⟨n+1,rfl,by omega,by simp only;omega,by simp only;omega,by simp only;omega⟩,by simp;omega⟩) (k,0,l) ⟨0,rfl,by omega,rfl,h0,by simp⟩
 obtain ⟨cF,eY⟩:=r
 exact ⟨cF,eY,by unfold ue An;rw [r1];rfl,r2⟩
theorem Mk {k:Int} {l:List bg} {m:List bR} (h0:0≤k) (h:k+4*l.length+3*m.length≤1000000000000000000) :
 ∃cF eY dQ,ox k l m=some (cF,eY,dQ)∧eY.length=l.length∧dQ.length=m.length∧0≤cF∧cF≤k+4*l.length+3*m.length:=by
 obtain ⟨lr,eY,e1,e2,bp,cp⟩:=M1 (l:=l) h0 (by omega)
 obtain ⟨kx,dQ,f1,f2,f3,f4⟩:=MM (k:=lr) (l:=m) bp (by omega)
 refine ⟨kx,eY,dQ,?_,e2,f2,f3,by omega⟩
 unfold ox
 rw [e1]
 simp only [Option.bind_eq_bind,Option.bind_some]
 rw [f1]
 rfl
def marks (k:Int) (n:Nat):List Int:=(List.range n).map fun i:Nat=>k+(i:Int)
theorem mi (k:Int) (n:Nat):(marks k n).length=n:=by simp [marks]
theorem P2 {k:Int} {n i:Nat} (h:i<n):(marks k n)[i]? = some (k+i):=by
 unfold marks
 rw [List.getElem?_map,List.getElem?_range h]
 rfl
theorem Hr {k:Int} {l:List Int} {i:Nat} (h:i<l.length):(marks k i++l.drop i).set i (k+i)=marks k (i+1)++l.drop (i+1):=by
 unfold marks
 rw [List.range_succ,List.map_append,List.set_append_right _ _ (by simp)]
 rw [show i-(List.map (fun i:Nat=>k+(i:Int)) (List.range i)).length=0 by simp,List.drop_eq_getElem_cons h,List.set_cons_zero]
 simp
theorem Of {k:Int} {l:List Int} (h0:0≤k) (h:k+l.length≤1000000000000000000):oD k 0 l.length l=some (k+l.length,marks k l.length):=by
 have:=yc (f:=fun w:Int×Int×(List Int)=>rA 0 l.length w.1 w.2.1 w.2.2) (s:=fun n=>(k+(n:Int),(n:Int),marks k n++l.drop n)) (r:=(k+(l.length:Int),marks k l.length)) l.length 0 (fun i _ bj=> ?_) ?_
 ·unfold oD Bz
  have e:(k+((0:Nat):Int),((0:Nat):Int),marks k 0++l.drop 0)=(k,0,l):=by simp [marks]
  rw [e] at this
  rw [this]
  rfl
 ·have iy:i<l.length:=by omega
  unfold rA
  simp only
  rw [if_pos (by simpa using iy),if_pos (by omega),Nat.zero_add,Int.toNat_natCast,if_pos (by simp [mi];omega),Hr iy,cf (by omega) (by omega),cf (by omega) (by omega)]
  simp only [Int.natCast_add,Int.add_assoc]
  rfl
 ·simp [rA]
theorem Cy {k:Int} {l:List Int} (h0:0≤k) (h:k+l.length≤1000000000000000000):pM k l=some (k+l.length,marks k l.length):=by
 have:=yc (f:=fun w:Int×Int×(List Int)=>rv w.1 w.2.1 w.2.2) (s:=fun n=>(k+(n:Int),(n:Int),marks k n++l.drop n)) (r:=(k+(l.length:Int),marks k l.length)) l.length 0 (fun i _ bj=> ?_) ?_
 ·unfold pM Bb
  have e:(k+((0:Nat):Int),((0:Nat):Int),marks k 0++l.drop 0)=(k,0,l):=by simp [marks]
  rw [e] at this
  rw [this]
  rfl
 ·have iy:i<l.length:=by omega
  have aM:(marks k i++l.drop i).length=l.length:=by simp [mi];omega
  unfold rv
  simp only [aM]
  rw [if_pos (by simpa using iy),if_pos (by omega),Nat.zero_add,Int.toNat_natCast,if_pos (by omega),Hr iy,cf (by omega) (by omega),cf (by omega) (by omega)]
  simp only [Int.natCast_add,Int.add_assoc]
  rfl
 ·simp [rv,mi]
theorem CK (k:Int):mO [] k=some k:=by
 have h:xw [] k=some ():=by
  unfold xw
  rw [iter]
  simp [xk,dM]
 simp [mO,h]
theorem Gu {k:Int} {n:Nat} (h0:0≤k) (h:k+n≤1000000000000000000):sj (marks k n) k=some (k+n):=by
 have:=yc (f:=fun w:Int×Int=>rL (marks k n) w.1 w.2) (s:=fun i=>(k+(i:Int),(i:Int))) (r:= .inl (k+(n:Int))) n 0 (fun i _ bj=> ?_) ?_
 ·unfold sj B6
  have e:(k+((0:Nat):Int),((0:Nat):Int))=(k,0):=by simp
  rw [e] at this
  rw [this]
  rfl
 ·have iy:i<n:=by omega
  unfold rL
  simp only [dM,mi]
  rw [if_pos (by simpa using iy),if_pos (by omega),Int.toNat_natCast,P2 iy,cf (by omega) (by omega),cf (by omega) (by omega)]
  simp [Int.add_assoc]
 ·simp [rL,dM,mi]
theorem DI {P:List (List Int)} {k:Int} {h:g6} (dY:jS P h) (h0:0≤k) (bA:k≤500000000000000000) :
 (h=none∧mO [] k=some k)∨ ∃j c x m,h=some (j,c)∧P[j]? = some x∧c≤1048576∧oD k 0 c x=some (k+(c:Int),m)∧ ∀cx,jS P cx→jS (P.set j m) cx:=by
 cases h with
 | none=>exact .inl ⟨rfl,CK k⟩
 | some p =>
  obtain ⟨j,c⟩:=p
  obtain ⟨x,h1,h2,ag⟩:=dY
  subst h2
  exact .inr ⟨j,x.length,x,_,rfl,h1,ag,Of h0 (by omega),fun cx Tc=>Tc.set h1 (mi _ _)⟩
theorem Gj {k:Int} {l:List c7} {P:List (List Int)} (aM : ∀x∈l,ph P x) (h0:0≤k) (h:k+2097153*l.length≤400000000000000000) :
 ∃cF eY rn,mb k l P=some (cF,eY,rn)∧0≤cF∧cF≤k+2097153*l.length:=by
 obtain ⟨r,r1,r2⟩:=gg (f:=fun w:Int×Int×(List c7)×(List (List Int))=>rB w.1 w.2.1 w.2.2.1 w.2.2.2)
  (c6:=fun w=> ∃n:Nat,w.2.1=n∧n≤l.length∧w.2.2.1.length=l.length∧(∀j x,w.2.2.1[j]? = some x→ph w.2.2.2 x)∧0≤w.1∧w.1≤k+2097153*n)
  (m:=fun w=>l.length-w.2.1.toNat) (fun r=>0≤r.1∧r.1≤k+2097153*l.length) (by
    rintro ⟨a,i,row,P⟩ ⟨n,e1,e2,bp,d5,cp,cM⟩
    simp only at e1 bp cp cM d5
    subst e1
    by_cases bf:n=l.length
    ·subst bf
     refine .inr ⟨(a,row,P),by simp [rB,bp],cp,cM⟩
    ·have lq:n<row.length:=by omega
     have hw:U ((n:Int)+1)=((n+1:Nat):Int):=by rw [cf (by omega) (by omega)];rfl
     have ns:U (a+1)=a+1:=cf (by omega) (by omega)
     obtain ⟨x,af⟩ : ∃x,row[n]? = some x:=⟨_,List.getElem?_eq_getElem lq⟩
     obtain ⟨⟨Vl,TB⟩,TC⟩:=x
     obtain ⟨f1,f2⟩:=d5 n _ af
     simp only at f1 f2
     have nN : ∀rn:List (List Int),(∀cx,jS P cx→jS rn cx)→ ∀(b:Bool) (j:Nat) (y:c7),(row.set n (⟨⟨b,TB⟩,TC⟩:c7))[j]? = some y→ph rn y:=by
      intro rn nr b j y aF
      rw [List.getElem?_set] at aF
      by_cases aS:n=j
      ·rw [if_pos aS,if_pos lq] at aF
       obtain rfl:=Option.some.inj aF
       exact ⟨nr _ f1,nr _ f2⟩
      ·rw [if_neg aS] at aF
       exact ⟨nr _ (d5 j y aF).1,nr _ (d5 j y aF).2⟩
     refine .inl ?_
     unfold rB
     simp only
     rw [if_pos (by simpa using lq),ns,hw]
     simp only [Nat.zero_add,Int.toNat_natCast]
     rw [if_pos (by omega),af]
     simp only [Option.bind_eq_bind,Option.bind_some,List.getElem?_set_self lq]
     rcases DI f1 (k:=a+1) (by omega) (by omega) with ⟨rfl,g1⟩|⟨j,c,y,m,rfl,g1,g2,g3,g4⟩
     ·simp only [Option.elim_none]
      rw [g1]
      simp only [Option.bind_some]
      rcases DI f2 (k:=a+1) (by omega) (by omega) with ⟨rfl,p1⟩|⟨j,c,y,m,rfl,p1,p2,ky,nm⟩
      ·simp only [Option.elim_none]
       rw [p1]
       exact ⟨_,rfl,⟨n+1,rfl,by omega,by simp only [List.length_set];omega,nN P (fun _ h=>h) _,by simp only;omega,by simp only;omega⟩,by simp;omega⟩
      ·simp only [Option.elim_some]
       rw [p1]
       simp only [Option.bind_some]
       rw [ky]
       exact ⟨_,rfl,⟨n+1,rfl,by omega,by simp only [List.length_set];omega,nN _ nm _,by simp only;omega,by simp only;omega⟩,by simp;omega⟩
     ·simp only [Option.elim_some]
      rw [g1]
      simp only [Option.bind_some]
      rw [g3]
      simp only [Option.bind_some]
      rcases DI (g4 _ f2) (k:=a+1+(c:Int)) (by omega) (by omega) with ⟨rfl,p1⟩|⟨g5,cK,iT,dQ,rfl,p1,p2,ky,nm⟩
      ·simp only [Option.elim_none]
       rw [p1]
       exact ⟨_,rfl,⟨n+1,rfl,by omega,by simp only [List.length_set];omega,nN _ g4 _,by simp only;omega,by simp only;omega⟩,by simp;omega⟩
      ·simp only [Option.elim_some]
       rw [p1]
       simp only [Option.bind_some]
       rw [ky]
       exact ⟨_,rfl,⟨n+1,rfl,by omega,by simp only [List.length_set];omega,nN _ (fun cx dY=>nm cx (g4 cx dY)) _,by simp only;omega,by simp only;omega⟩,by simp;omega⟩) (k,0,l,P) ⟨0,rfl,by omega,rfl,fun j x af=>aM x (List.mem_of_getElem? af),h0,by simp⟩
 obtain ⟨cF,eY,rn⟩:=r
 exact ⟨cF,eY,rn,by unfold mb BB;rw [r1];rfl,r2⟩
theorem II {l:List Int} (h:l.length≤1048576):qb l=some (if l=[] then .inl () else .inr l):=by
 unfold qb
 rw [if_pos (by omega)]
 cases l with
 | nil=>rfl
 | cons x l=>rfl
theorem x5 {n:Int} (h:0≤n):L n=[]↔n=0:=by
 rw [← Eb h]
 constructor
 ·intro e;rw [e];rfl
 ·intro e;exact List.eq_nil_of_length_eq_zero (by omega)
noncomputable def qH:Option (Int×Int)→(Bool×Bool)⊕((Bool×(List Int))⊕((Bool×(List Int))⊕(Bool×(List Int)×(List Int))))
 | none=> .inl (false,false)
 | some p=>if p.1=0 then .inr (.inl (false,L p.2)) else .inr (.inr (.inr (decide (p.1<0),L p.1.natAbs,L p.2)))
theorem QV {R:Option (Int×Int)} (al:hh R):u0 (gx R)=some (qH R):=by
 cases R with
 | none=>rfl
 | some p =>
  have aj:=al p rfl
  have h1:=aj.lX
  have h2:=aj.lD
  have ag : ¬L p.2=[]:=fun e=>by have:=(x5 (by have:=aj.pos;omega)).1 e;have:=aj.pos;omega
  have bQ:uc (fa p.1)=some (if p.1=0 then .inl false else .inr (decide (p.1<0),L p.1.natAbs)):=by
   unfold uc
   have e:(fa p.1).a9=L p.1.natAbs:=rfl
   rw [e,dM,if_neg (by simp only [decide_eq_true_eq];omega),II (by omega)]
   simp only [Option.bind_eq_bind,Option.bind_some]
   by_cases c:p.1=0
   ·have cK:L (p.1.natAbs:Int)=[]:=(x5 (by omega)).2 (by omega)
    have e2:(fa p.1).bM=false:=by
     show decide (p.1<0)=false
     exact decide_eq_false (by omega)
    rw [if_pos cK,if_pos c]
    simp only [e2]
   ·have cK : ¬L (p.1.natAbs:Int)=[]:=fun e=>by have:=(x5 (by omega)).1 e;omega
    rw [if_neg cK,if_neg c]
    rfl
  have cy:ss (gx (some p))=some (if p.1=0 then .inr (.inl (false,L p.2)) else .inr (.inr (.inr (decide (p.1<0),L p.1.natAbs,L p.2)))):=by
   unfold ss gx
   simp only [Option.map_some,Option.elim_some]
   have e1:(hD p).m6=fa p.1:=rfl
   have e2:(hD p).lb=L p.2:=rfl
   rw [e1,e2,bQ,II (by omega),if_neg ag]
   by_cases c:p.1=0
   ·rw [if_pos c,if_pos c];rfl
   ·rw [if_neg c,if_neg c];rfl
  unfold u0
  have e:(gx (some p)).elim (some (.inl (false,false))) (fun hG=>(ss (gx (some p))).bind fun a2=>match a2 with
   | .inl cw=>(some (.inl (cw,true)):Option ((Bool×Bool)⊕((Bool×(List Int))⊕((Bool×(List Int))⊕(Bool×(List Int)×(List Int))))))
   | .inr (.inl cw)=>(some (.inr (.inl (cw.1,cw.2))))
   | .inr (.inr (.inl cw))=>(some (.inr (.inr (.inl (cw.1,cw.2)))))
   | .inr (.inr (.inr cw))=>(some (.inr (.inr (.inr (cw.1,cw.2.1,cw.2.2))))))=some (qH (some p)):=by
   rw [cy]
   unfold gx qH
   simp only [Option.map_some,Option.elim_some,Option.bind_some]
   by_cases c:p.1=0
   ·rw [if_pos c,if_pos c]
   ·rw [if_neg c,if_neg c]
  exact e
theorem Rh {k:Int} {b:Bool}:uw k b [] []=some k:=by
 simp [uw,r7,CK]
theorem Ri {k:Int} {b:Bool} {l:List Int} (h0:0≤k) (h:k+l.length≤1000000000000000000):uo k b [] l=some (k+l.length,marks k l.length):=by
 unfold uo r7
 rw [CK]
 simp only [Option.bind_eq_bind,Option.bind_some]
 rw [Cy h0 h]
 rfl
theorem Rj {k:Int} {b:Bool} {l m:List Int} (h0:0≤k) (h:k+l.length+m.length≤1000000000000000000):ui k b l m=some (k+l.length+m.length,marks k l.length,marks (k+l.length) m.length):=by
 unfold ui uf
 rw [Cy h0 (by omega)]
 simp only [Option.bind_eq_bind,Option.bind_some]
 rw [Cy (by omega) (by omega)]
 rfl
theorem DT {k:Int} {b:Bool} {x y:Nat} (h0:0≤k) (h:k+x+y≤1000000000000000000):nx ⟨⟨b,marks k x⟩,marks (k+x) y⟩ k=some (k+x+y):=by
 unfold nx xA
 simp only
 rw [Gu h0 (by omega)]
 simp only [Option.bind_eq_bind,Option.bind_some]
 rw [if_neg (by simp only [decide_eq_true_eq];omega)]
 simp only [Option.bind_some]
 rw [if_neg (by simp only [decide_eq_true_eq];omega),Gu (by omega) (by omega)]
 simp only [Option.bind_some]
 rw [if_neg (by simp only [decide_eq_true_eq];omega)]
theorem P3 (k:Int):marks k 0=[]:=rfl
def eP:List bg→Nat→List Nat
 | [],_=>[]
 | x::l,n=>if x.cS then eP l (n+1) else n::eP l (n+1)
theorem vm : ∀(l:List bg) (n i:Nat),i∈eP l n→n≤i∧i<n+l.length
 | [],n,i,h=>by simp [eP] at h
 | x::l,n,i,h=>by
  rw [eP] at h
  simp only [List.length_cons]
  split at h
  ·have:=vm l (n+1) i h;omega
  ·rcases List.mem_cons.1 h with h|h
   ·omega
   ·have:=vm l (n+1) i h;omega
theorem yg : ∀(l:List bg) (n:Nat),(eP l n).length≤l.length
 | [],n=>by simp [eP]
 | x::l,n=>by
  rw [eP]
  have:=yg l (n+1)
  split<;>simp only [List.length_cons]<;>omega
theorem Po {l:List bg} {n:Nat} {x:bg} (h:l[n]? = some x) (m:Nat):eP (l.drop n) m=if x.cS then eP (l.drop (n+1)) (m+1) else m::eP (l.drop (n+1)) (m+1):=by
 rw [yd h,eP]
def h4 (l:List bg) (j:Nat):Nat:=(eP (l.take j) 0).length
theorem sK : ∀(a b:List bg) (n:Nat),eP (a++b) n=eP a n++eP b (n+a.length)
 | [],b,n=>rfl
 | x::a,b,n=>by
  rw [List.cons_append,eP,eP,sK a b (n+1),show n+1+a.length=n+(x::a).length by simp only [List.length_cons];omega]
  split<;>rfl
theorem HT {l:List bg} {j:Nat} {x:bg} (h:l[j]? = some x):h4 l (j+1)=h4 l j+(if x.cS then 0 else 1):=by
 have aM:=dT h
 have e:l.take (j+1)=l.take j++[x]:=by rw [List.take_add_one,h];rfl
 unfold h4
 rw [e,sK,List.length_append]
 congr 1
 rw [eP]
 split<;>rfl
theorem P4 {l:List bg} {i j:Nat} (h:i≤j):h4 l i≤h4 l j:=by
 by_cases aM:j≤l.length
 ·have e:l.take j=l.take i++(l.drop i).take (j-i):=by
   rw [← List.take_add];congr 1;omega
  unfold h4
  rw [e,sK,List.length_append];omega
 ·by_cases bj:i≤l.length
  ·have e:l.take j=l.take i++l.drop i:=by rw [List.take_append_drop,List.take_of_length_le (by omega)]
   unfold h4
   rw [e,sK,List.length_append];omega
  ·unfold h4
   rw [List.take_of_length_le (by omega),List.take_of_length_le (by omega)]
   omega
theorem QC (l:List bg):h4 l l.length=(eP l 0).length:=by
 unfold h4;rw [List.take_length]
theorem IJ {l:List bg} {j:Nat} {x:bg} (h:l[j]? = some x) (af:x.cS=false):h4 l j<(eP l 0).length:=by
 have aM:=dT h
 have h1:=HT h
 rw [af] at h1
 have h2:=P4 (l:=l) (i:=j+1) (j:=l.length) (by omega)
 rw [QC] at h2
 simp at h1
 omega
theorem HU {l:List bg} {n j:Nat}:(eP l 0)[n]? = some j↔ ∃x,l[j]? = some x∧x.cS=false∧h4 l j=n:=by
 constructor
 ·intro h
  obtain ⟨-,aS⟩:=vm l 0 j (List.mem_of_getElem? h)
  have tt:j<l.length:=by omega
  have af:=List.getElem?_eq_getElem tt
  have e:l=l.take j++l[j]::l.drop (j+1):=by rw [← yd af,List.take_append_drop]
  have e2:eP l 0=eP (l.take j) 0++(if l[j].cS then eP (l.drop (j+1)) (j+1) else j::eP (l.drop (j+1)) (j+1)):=by
   have h1:(l.take j).length=j:=by rw [List.length_take];omega
   conv=>lhs;rw [e,sK,eP,h1]
   simp only [Nat.zero_add]
  rw [e2] at h
  have qD : ∀i∈eP (l.take j) 0,i<j:=fun i bj=>by have:=(vm _ _ _ bj).2;rw [List.length_take] at this;omega
  have Jp : ∀i∈eP (l.drop (j+1)) (j+1),j<i:=fun i bj=>by have:=(vm _ _ _ bj).1;omega
  rw [List.getElem?_append] at h
  split at h
  ·exact absurd (qD j (List.mem_of_getElem? h)) (by omega)
  ·rename_i bf
   have jb:=List.mem_of_getElem? h
   split at h
   ·rename_i bQ
    rw [if_pos bQ] at jb
    exact absurd (Jp j jb) (by omega)
   ·rename_i bQ
    refine ⟨_,af,by simpa using bQ,?_⟩
    unfold h4
    rw [List.getElem?_cons] at h
    split at h
    ·omega
    ·exact absurd (Jp j (List.mem_of_getElem? h)) (by omega)
 ·rintro ⟨x,af,bQ,rfl⟩
  have e:l=l.take j++x::l.drop (j+1):=by rw [← yd af,List.take_append_drop]
  have aM:=dT af
  have h1:(l.take j).length=j:=by rw [List.length_take];omega
  have e2:eP l 0=eP (l.take j) 0++j::eP (l.drop (j+1)) (j+1):=by
   conv=>lhs;rw [e,sK,eP,h1,bQ]
   simp
  unfold h4
  rw [e2,List.getElem?_append_right (by omega),Nat.sub_self]
  rfl
theorem HV {f:Int×List Int→Option ((Int×List Int)⊕List Int)} (eZ:List bg) (pr:eZ.length≤1000)
 (h : ∀(n:Nat) acc x,eZ[n]? = some x→f ((n:Int),acc)=if x.cS=true then some (.inl (U ((n:Int)+1),acc)) else if (acc++[(n:Int)]).length*8≤140737488355328 then some (.inl (U ((n:Int)+1),acc++[(n:Int)])) else none)
 (he : ∀acc,f ((eZ.length:Int),acc)=some (.inr acc)):iter f ((0:Int),[])=some ((eP eZ 0).map (fun n:Nat=>(n:Int))):=by
 obtain ⟨s,h1,h2⟩:=ve (fun (n:Nat) (acc:List Int)=>((n:Int),acc)) eZ.length (fun n acc=>acc++(eP (eZ.drop n) n).map (fun n:Nat=>(n:Int))=(eP eZ 0).map (fun n:Nat=>(n:Int))∧acc.length≤n) (fun acc=>acc) (f:=f) (fun n bf acc fe=>by
  obtain ⟨fe,aM⟩:=fe
  have af:=List.getElem?_eq_getElem bf
  rw [Po af] at fe
  rw [h n acc _ af,hN (by omega)]
  by_cases c:eZ[n].cS=true
  ·rw [if_pos c] at fe ⊢
   exact ⟨_,rfl,fe,by omega⟩
  ·rw [if_neg c] at fe ⊢
   rw [if_pos (by simp only [List.length_append,List.length_cons,List.length_nil];omega)]
   refine ⟨_,rfl,?_,by simp only [List.length_append,List.length_cons,List.length_nil];omega⟩
   rw [List.append_assoc]
   exact fe) (fun acc _=>he acc) [] ⟨by rw [List.drop_zero];rfl,by simp⟩
 obtain ⟨h2,-⟩:=h2
 rw [List.drop_length] at h2
 simp only [eP,List.map_nil,List.append_nil] at h2
 subst h2
 exact h1
theorem Pp (s:c4) (pr:s.a6.length≤1000):uN s=some ((eP s.a6 0).map (fun n:Nat=>(n:Int))):=by
 unfold uN Cb
 rw [dM,HV s.a6 pr (fun n acc x af=>by
  have bf:=dT af
  unfold t0
  exact ow (by omega) (hU (by omega) (db (gt rfl af) rfl))) (fun acc=>by
  unfold t0
  exact rk (by omega) rfl)]
 rfl
theorem Og (s:c4) (pr:s.a6.length≤1000):tX s=some ((eP s.a6 0).map (fun n:Nat=>(n:Int))):=by
 unfold tX zE
 rw [dM,HV s.a6 pr (fun n acc x af=>by
  have bf:=dT af
  unfold tV
  exact ow (by omega) (hU (by omega) (db (gt rfl af) rfl))) (fun acc=>by
  unfold tV
  exact rk (by omega) rfl)]
 rfl
def fI (eZ:List bg) (cm:List (Int×Int)) (j a:Nat):Option (Int×Int) :=
 match eZ[j]? with
 | some x=>if x.cS then some (0,1) else cm[2*h4 eZ j+a]?
 | none=>none
theorem JJ:Fr ((0:Int),1):=Rg (oP.2 (by omega))
theorem nH {eZ:List bg} {cm:List (Int×Int)} (h : ∀p∈cm,Fr p) (j a:Nat):hh (fI eZ cm j a):=by
 unfold fI
 split
 ·split
  ·exact Ih JJ
  ·exact yB h _
 ·exact fun p aj=>by simp at aj
theorem QD (s:c4) (pr:s.a6.length≤1000) {j:Nat} {x:bg} (af:s.a6[j]? = some x):u7 s j=some (if x.cS then -1 else (h4 s.a6 j:Int)):=by
 have aS:=dT af
 unfold u7 CC
 obtain ⟨r,h1,h2⟩:=H9 (f:=fun w:Int×Int=>pG (j:Int) s.a6 (len_ aG s.a6) w.1 w.2) (fun (t:Nat) (n:Int)=>(n,(t:Int))) (j+1) (fun t n=>n=(h4 s.a6 t:Int)∧t≤j) (fun r=>r = .inr (if x.cS then -1 else (h4 s.a6 j:Int))) (fun t bZ n fe=>by
  obtain ⟨rfl,fe⟩:=fe
  have aF:=List.getElem?_eq_getElem (show t<s.a6.length by omega)
  have ao:=HT aF
  have lG:h4 s.a6 t≤s.a6.length:=by
   have:=yg (s.a6.take t) 0
   rw [List.length_take] at this
   unfold h4;omega
  by_cases c:t=j
  ·subst c
   obtain rfl:x=s.a6[t]:=by rw [af] at aF;exact Option.some.inj aF
   right
   refine ⟨_,?_,rfl⟩
   unfold pG
   rw [dM]
   refine ow (by omega) (hU (by omega) (db (gt rfl aF) (i3 (by simp) ?_)))
   cases s.a6[t].cS<;>rfl
  ·left
   refine ⟨(h4 s.a6 (t+1):Int),?_,rfl,by omega⟩
   ·unfold pG
    rw [dM]
    refine ow (by omega) (hU (by omega) (db (gt rfl aF) (mN (by simp;omega) ?_)))
    rw [hN (by omega),ao]
    cases s.a6[t].cS
    ·rw [if_neg (by simp),hN (by omega)];rfl
    ·rfl) (fun n fe=>by omega) (0:Int) ⟨rfl,by omega⟩
 subst h2
 have mC:iter (fun w:Int×Int=>pG (j:Int) s.a6 (len_ aG s.a6) w.1 w.2) (0,0)=_:=h1
 rw [mC]
 rfl
theorem Pq (s:c4) (pr:s.a6.length≤6) {cm:List (Int×Int)} (aM:cm.length=2*(eP s.a6 0).length) {j:Nat} (aS:j<s.a6.length) :
 pT s (cm.map mk) j=some (enc (fI s.a6 cm j 0),enc (fI s.a6 cm j 1)):=by
 have af:=List.getElem?_eq_getElem aS
 have hle:=yg s.a6 0
 unfold pT fI
 refine db (QD s (by omega) af) ?_
 rw [af]
 cases bQ:s.a6[j].cS
 ·have ao:=IJ af bQ
  have ns:U (2*(h4 s.a6 j:Int))=((2*h4 s.a6 j:Nat):Int):=by rw [cf (by omega) (by omega)];omega
  simp only [Bool.false_eq_true,if_false]
  refine rk (by omega) ?_
  rw [ns,hN (by omega)]
  refine hU (by simp;omega) (db (gt rfl (DS (by omega))) (hU (by simp;omega) (db (gt rfl (DS (by omega))) ?_)))
  simp [bQ]
 ·refine ow (by simp) (db (GC (oP.2 (by omega))) ?_)
  simp [enc,bQ]
theorem MN (s:c4) (i0:mS s) (d:List bF) (h:d.length≤1048576) (ao : ∀r∈d,lP r) :
 (∃cm:List (Int×Int),(∀p∈cm,Fr p)∧d=cm.map mk∧cm.length=2*(eP s.a6 0).length∧nU s=some true∧si s d=some true ∧
   ∃row,pH s d=some (row,true)∧row.length=2*s.a6.length∧ ∀j a,j<s.a6.length→a≤1→row[2*j+a]? = some (gx (fI s.a6 cm j a))) ∨
 (si s d=some false∧pH s d=some ([],false)):=by
 obtain ⟨R,bt,aO⟩:=B8 s i0
 unfold si pH
 rw [bt,aO]
 cases R with
 | false=>right;exact ⟨rfl,rfl⟩
 | true =>
  obtain ⟨aS,jb,ra,w0⟩:=F2 s i0 bt
  have hle:=yg s.a6 0
  have hw:U (2*((eP s.a6 0).length:Int))=((2*(eP s.a6 0).length:Nat):Int):=by rw [cf (by omega) (by omega)];omega
  simp only [Option.bind_eq_bind,Option.bind_some,if_true]
  rw [Pp s (by omega),Og s (by omega)]
  simp only [Option.bind_some,dM,List.length_map,hw]
  unfold xP
  simp only [dM]
  by_cases aM:d.length=2*(eP s.a6 0).length
  ·rw [if_pos (by simp;omega),if_neg (by simp;omega)]
   rcases Hq d h ao with ⟨cm,aj,Kq,v1,v2⟩|⟨v1,v2⟩
   ·left
    have tn:cm.length=2*(eP s.a6 0).length:=by rw [← aM,Kq];simp
    refine ⟨cm,aj,Kq,tn,trivial,by rw [v1];rfl,?_⟩
    rw [v2]
    have Td:U (2*(s.a6.length:Int))=((2*s.a6.length:Nat):Int):=by rw [cf (by omega) (by omega)];omega
    simp only [Option.bind_eq_bind,Option.bind_some,if_true,Td,Int.toNat_natCast]
    rw [if_pos (by omega)]
    obtain ⟨dE,r1,r2⟩:=ve (f:=fun w:Int×List (Option bV)=>rs ((eP s.a6 0).map (fun n:Nat=>(n:Int))) (cm.map oc) ((2*s.a6.length:Nat):Int) w.1 w.2) (fun (n:Nat) row=>((n:Int),row)) (2*s.a6.length) (fun n row=>row.length=2*s.a6.length∧ ∀i,i<n→row[i]? = some (gx (some (0,1)))) (fun row=>row) (fun n bf row fe=>by
     refine ⟨row.set n (gx (some (0,1))),?_,by rw [List.length_set];exact fe.1,fun i bj=> ?_⟩
     ·simp only
      unfold rs
      refine ow (by omega) (db (Ig (oP.2 (by omega))) (hU (by omega) (hU (by omega) ?_)))
      rw [hN (by omega),Int.toNat_natCast,Nat.zero_add]
      rfl
     ·rw [List.getElem?_set]
      by_cases c:n=i
      ·rw [if_pos c,if_pos (by omega)]
      ·rw [if_neg c];exact fe.2 i (by omega)) (fun row fe=>by
     simp only
     unfold rs
     exact rk (by omega) rfl) (List.replicate (2*s.a6.length) none) ⟨by simp,fun i bj=>by omega⟩
    have EY:Aj ((eP s.a6 0).map (fun n:Nat=>(n:Int))) (cm.map oc) ((2*s.a6.length:Nat):Int) 0 (List.replicate (2*s.a6.length) none)=some dE:=r1
    rw [EY]
    simp only [Option.bind_some]
    obtain ⟨cW,a2,bb⟩:=ve (f:=fun w:Int×List (Option bV)=>ru (cm.map oc) ((eP s.a6 0).map (fun n:Nat=>(n:Int))) (((eP s.a6 0).length:Nat):Int) w.1 w.2) (fun (n:Nat) row=>((n:Int),row)) (eP s.a6 0).length
     (fun n row=>row.length=2*s.a6.length∧ ∀j a,j<s.a6.length→a≤1→row[2*j+a]? = some (gx (if h4 s.a6 j<n then fI s.a6 cm j a else some (0,1)))) (fun row=>row) (fun n bf row fe=>by
     obtain ⟨g1,g2⟩:=fe
     have E0:=List.getElem?_eq_getElem bf
     obtain ⟨x,af,Te,Tf⟩:=HU.1 E0
     have Tg:((eP s.a6 0).map (fun n:Nat=>(n:Int)))[n]? = some ((eP s.a6 0)[n]:Int):=by rw [List.getElem?_map,E0];rfl
     generalize aR:(eP s.a6 0)[n]=tS at *
     have Ki:=dT af
     have ns:U (2*(n:Int))=((2*n:Nat):Int):=by rw [cf (by omega) (by omega)];omega
     have pq:U (2*(tS:Int))=((2*tS:Nat):Int):=by rw [cf (by omega) (by omega)];omega
     refine ⟨(row.set (2*tS) (gx cm[2*n]?)).set (2*tS+1) (gx cm[2*n+1]?),?_,by rw [List.length_set,List.length_set];exact g1,?_⟩
     ·simp only
      unfold ru
      refine ow (by omega) (hU (by simp;omega) (db (gt rfl Tg) ?_))
      rw [ns,pq,hN (by omega),hN (n:=2*tS) (by omega)]
      refine hU (by simp;omega) (db (gt rfl (DH (by omega))) (hU (by simp;omega) (db (gt rfl (DH (by omega))) (hU (by omega) (hU (by omega) (hU (by omega) (hU (by rw [List.length_set];omega) ?_)))))))
      rw [hN (by omega),Int.toNat_natCast,Int.toNat_natCast,Nat.zero_add,Nat.zero_add]
     ·intro j a pa bH
      by_cases c:j=tS
      ·subst c
       rw [if_pos (by omega)]
       have e:fI s.a6 cm j a=cm[2*n+a]? := by unfold fI;rw [af];simp [Te,Tf]
       rw [e]
       by_cases b7:a=0
       ·subst b7
        rw [List.getElem?_set,if_neg (by omega),List.getElem?_set,if_pos (by omega),if_pos (by omega)];rfl
       ·obtain rfl:a=1:=by omega
        rw [List.getElem?_set,if_pos rfl,if_pos (by rw [List.length_set];omega)]
      ·rw [List.getElem?_set,if_neg (by omega),List.getElem?_set,if_neg (by omega),g2 j a pa bH]
       by_cases hl:h4 s.a6 j<n
       ·rw [if_pos hl,if_pos (by omega)]
       ·rw [if_neg hl]
        by_cases jk:h4 s.a6 j<n+1
        ·rw [if_pos jk]
         have aF:=List.getElem?_eq_getElem pa
         cases w1:s.a6[j].cS
         ·have:=HU.2 ⟨_,aF,w1,rfl⟩
          rw [show h4 s.a6 j=n by omega,E0] at this
          exact absurd (Option.some.inj this).symm c
         ·unfold fI
          rw [aF]
          simp [w1]
        ·rw [if_neg jk]) (fun row fe=>by
     simp only
     unfold ru
     exact rk (by omega) rfl) dE ⟨r2.1,fun j a pa bH=>by rw [if_neg (by omega)];exact r2.2 _ (by omega)⟩
    have Th:Ak (cm.map oc) ((eP s.a6 0).map (fun n:Nat=>(n:Int))) (((eP s.a6 0).length:Nat):Int) 0 dE=some cW:=a2
    rw [Th]
    refine ⟨cW,rfl,bb.1,fun j a pa bH=> ?_⟩
    rw [bb.2 j a pa bH]
    have aF:=List.getElem?_eq_getElem pa
    cases w1:s.a6[j].cS
    ·rw [if_pos (IJ aF w1)]
    ·split
     ·rfl
     ·unfold fI
      rw [aF]
      simp [w1]
   ·right
    rw [v1,v2]
    exact ⟨rfl,rfl⟩
  ·right
   rw [if_neg (by simp;omega),if_pos (by simp;omega)]
   exact ⟨rfl,rfl⟩
noncomputable def qt (s:c4) (xs cm:List (Int×Int)) (n:Nat):Option (Int×Int) :=
 match s.b9[n]? with
 | some m=>kJ xs[n]? (m7 (kJ (jd (fI s.a6 cm m.c1.toNat 0) (fI s.a6 cm m.de.toNat 0)) (jd (fI s.a6 cm m.c1.toNat 0) (fI s.a6 cm m.de.toNat 0)))
  (kJ (jd (fI s.a6 cm m.c1.toNat 1) (fI s.a6 cm m.de.toNat 1)) (jd (fI s.a6 cm m.c1.toNat 1) (fI s.a6 cm m.de.toNat 1))))
 | none=>none
noncomputable def lT (s:c4) (xs cm:List (Int×Int)):Nat→Option (Int×Int)
 | 0=>some (0,1)
 | n+1=>m7 (lT s xs cm n) (qt s xs cm n)
section
variable {s:c4} {xs cm:List (Int×Int)}
theorem Da (af : ∀p∈xs,Fr p) (aj : ∀p∈cm,Fr p) (n:Nat):hh (qt s xs cm n):=by
 unfold qt
 split
 ·exact mZ (yB af _) (ys (mZ (hJ (nH aj _ _) (nH aj _ _)) (hJ (nH aj _ _) (nH aj _ _))) (mZ (hJ (nH aj _ _) (nH aj _ _)) (hJ (nH aj _ _) (nH aj _ _))))
 ·exact fun p aj=>by simp at aj
theorem yh (af : ∀p∈xs,Fr p) (aj : ∀p∈cm,Fr p) : ∀n,hh (lT s xs cm n)
 | 0=>Ih JJ
 | n+1=>ys (yh af aj n) (Da af aj n)
theorem Hs (pr:s.a6.length≤6) (aM:cm.length=2*(eP s.a6 0).length) {j:Int} (h0:0≤j) (aS:j<s.a6.length) :
 pT s (cm.map mk) j=some (enc (fI s.a6 cm j.toNat 0),enc (fI s.a6 cm j.toNat 1)):=by
 have:=Pq s pr aM (j:=j.toNat) (by omega)
 rwa [show ((j.toNat:Nat):Int)=j by omega] at this
theorem OR (af : ∀p∈xs,Fr p) (aj : ∀p∈cm,Fr p) (ts:xs.length=s.b9.length) (tn:cm.length=2*(eP s.a6 0).length) (ra:s.a6.length≤6) (w0:s.b9.length≤8)
 (jb : ∀(n:Nat) m,s.b9[n]? = some m→lN s.a6 m=true) :
 BX (xs.map mk) (cm.map mk) s.b9 s.b9.length s.a6 0 (mk (0,1)).bm.bM (mk (0,1)).bm.a9 (mk (0,1)).bO=some ((enc (lT s xs cm s.b9.length)).bm.bM,(enc (lT s xs cm s.b9.length)).bm.a9,(enc (lT s xs cm s.b9.length)).bO):=by
 obtain ⟨Q,h1,rfl⟩:=ve (f:=fun w:Int×Bool×List Int×List Int=>rI (xs.map mk) (cm.map mk) s.b9 s.b9.length s.a6 w.1 w.2.1 w.2.2.1 w.2.2.2) (fun (n:Nat) (Q:Option (Int×Int))=>((n:Int),(enc Q).bm.bM,(enc Q).bm.a9,(enc Q).bO)) s.b9.length (fun n Q=>Q=lT s xs cm n) (fun Q=>((enc Q).bm.bM,(enc Q).bm.a9,(enc Q).bO)) (fun n bf Q mM=>by
  subst mM
  have hm:=List.getElem?_eq_getElem bf
  obtain ⟨r1,r2,a2,bb⟩:=GJ (jb n _ hm)
  refine ⟨_,?_,rfl⟩
  have e0:(⟨(⟨(enc (lT s xs cm n)).bm.bM,(enc (lT s xs cm n)).bm.a9⟩:cZ),(enc (lT s xs cm n)).bO⟩:bF)=enc (lT s xs cm n):=rfl
  have a0 : ∀j a,hh (fI s.a6 cm j a):=fun j a=>nH aj j a
  simp only
  unfold rI
  rw [e0]
  refine ow (by omega) (hU (by omega) (db (gt rfl hm) (db (Hs ra tn r1 r2) (db (Hs ra tn a2 bb) (db (HR (a0 _ _) (a0 _ _)) (db (HR (a0 _ _) (a0 _ _)) (hU (by simp;omega) (db (gt rfl (DS (by omega))) (db (C7 (hJ (a0 _ _) (a0 _ _)) (hJ (a0 _ _) (a0 _ _))) (db (C7 (hJ (a0 _ _) (a0 _ _)) (hJ (a0 _ _) (a0 _ _))) (db (HS (mZ (hJ (a0 _ _) (a0 _ _)) (hJ (a0 _ _) (a0 _ _))) (mZ (hJ (a0 _ _) (a0 _ _)) (hJ (a0 _ _) (a0 _ _)))) (db (C7 (yB af _) (ys (mZ (hJ (a0 _ _) (a0 _ _)) (hJ (a0 _ _) (a0 _ _))) (mZ (hJ (a0 _ _) (a0 _ _)) (hJ (a0 _ _) (a0 _ _))))) ?_))))))))))))
  have bZ:kJ xs[n]? (m7 (kJ (jd (fI s.a6 cm s.b9[n].c1.toNat 0) (fI s.a6 cm s.b9[n].de.toNat 0)) (jd (fI s.a6 cm s.b9[n].c1.toNat 0) (fI s.a6 cm s.b9[n].de.toNat 0)))
   (kJ (jd (fI s.a6 cm s.b9[n].c1.toNat 1) (fI s.a6 cm s.b9[n].de.toNat 1)) (jd (fI s.a6 cm s.b9[n].c1.toNat 1) (fI s.a6 cm s.b9[n].de.toNat 1))))=qt s xs cm n:=by
   unfold qt;rw [hm]
  rw [bZ]
  refine db (HS (yh af aj n) (Da af aj n)) ?_
  rw [hN (by omega)]
  rfl) (fun Q _=>by
  simp only
  unfold rI
  exact rk (by omega) rfl) (some (0,1)) rfl
 exact h1
theorem OS (af : ∀p∈xs,Fr p) (aj : ∀p∈cm,Fr p) (ts:xs.length=s.b9.length) (ra:s.a6.length≤6) (w0:s.b9.length≤8)
 (jb : ∀(n:Nat) m,s.b9[n]? = some m→lN s.a6 m=true) {row:List (Option bV)} (aM:row.length=2*s.a6.length) (dt : ∀j a,j<s.a6.length→a≤1→row[2*j+a]? = some (gx (fI s.a6 cm j a))) :
 Bx (xs.map oc) row s.b9.length s.a6 s.b9 (some (hD (0,1))) 0=some (gx (lT s xs cm s.b9.length)):=by
 obtain ⟨Q,h1,rfl⟩:=ve (f:=fun w:Option bV×Int=>rz (xs.map oc) row s.b9.length s.a6 s.b9 w.1 w.2) (fun (n:Nat) (Q:Option (Int×Int))=>(gx Q,(n:Int))) s.b9.length (fun n Q=>Q=lT s xs cm n) (fun Q=>gx Q) (fun n bf Q mM=>by
  subst mM
  have hm:=List.getElem?_eq_getElem bf
  obtain ⟨r1,r2,a2,bb⟩:=GJ (jb n _ hm)
  refine ⟨_,?_,rfl⟩
  have a0 : ∀j a,hh (fI s.a6 cm j a):=fun j a=>nH aj j a
  have hA:=fun a bH=>dt s.b9[n].de.toNat a (by omega) bH
  have im:=fun a bH=>dt s.b9[n].c1.toNat a (by omega) bH
  have TD:U (2*s.b9[n].de)=((2*s.b9[n].de.toNat:Nat):Int):=by rw [cf (by omega) (by omega)];omega
  have TE:U (2*s.b9[n].c1)=((2*s.b9[n].c1.toNat:Nat):Int):=by rw [cf (by omega) (by omega)];omega
  simp only
  unfold rz
  have zo:t8 (⟨s.a6,s.b9⟩:c4) (n:Int) row=some (gx (jd (fI s.a6 cm s.b9[n].c1.toNat 0) (fI s.a6 cm s.b9[n].de.toNat 0)),gx (jd (fI s.a6 cm s.b9[n].c1.toNat 1) (fI s.a6 cm s.b9[n].de.toNat 1))):=by
   unfold t8
   refine hU (show 0≤(n:Int)∧(n:Int)<s.b9.length by omega) (db (gt rfl hm) ?_)
   rw [TD,TE,hN (by omega),hN (by omega)]
   exact hU (by omega) (db (gt rfl (im 0 (by omega))) (hU (by omega) (db (gt rfl (hA 0 (by omega))) (db (IG (a0 _ _) (a0 _ _)) (hU (by omega) (db (gt rfl (im 1 (by omega))) (hU (by omega) (db (gt rfl (hA 1 (by omega))) (db (IG (a0 _ _) (a0 _ _)) rfl)))))))))
  refine ow (by omega) (db zo (hU (by simp;omega) (db (gt rfl (DH (by omega))) (db (Dv (hJ (a0 _ _) (a0 _ _)) (hJ (a0 _ _) (a0 _ _))) (db (Dv (hJ (a0 _ _) (a0 _ _)) (hJ (a0 _ _) (a0 _ _))) (db (IH (mZ (hJ (a0 _ _) (a0 _ _)) (hJ (a0 _ _) (a0 _ _))) (mZ (hJ (a0 _ _) (a0 _ _)) (hJ (a0 _ _) (a0 _ _)))) (db (Dv (yB af _) (ys (mZ (hJ (a0 _ _) (a0 _ _)) (hJ (a0 _ _) (a0 _ _))) (mZ (hJ (a0 _ _) (a0 _ _)) (hJ (a0 _ _) (a0 _ _))))) ?_)))))))
  have bZ:kJ xs[n]? (m7 (kJ (jd (fI s.a6 cm s.b9[n].c1.toNat 0) (fI s.a6 cm s.b9[n].de.toNat 0)) (jd (fI s.a6 cm s.b9[n].c1.toNat 0) (fI s.a6 cm s.b9[n].de.toNat 0)))
   (kJ (jd (fI s.a6 cm s.b9[n].c1.toNat 1) (fI s.a6 cm s.b9[n].de.toNat 1)) (jd (fI s.a6 cm s.b9[n].c1.toNat 1) (fI s.a6 cm s.b9[n].de.toNat 1))))=qt s xs cm n:=by
   unfold qt;rw [hm]
  rw [bZ]
  refine db (IH (yh af aj n) (Da af aj n)) ?_
  rw [hN (by omega)]
  rfl) (fun Q _=>by
  simp only
  unfold rz
  exact rk (by omega) rfl) (some (0,1)) rfl
 exact h1
end
theorem Oh (s:c4) (i0:mS s) (q d:List bF) (h:q.length≤1048576) (ao : ∀r∈q,lP r) (cx:d.length≤1048576) (fK : ∀r∈d,lP r) :
 ∃R:Option (Int×Int),hh R∧pR s q d=some (enc R,R.isSome)∧pO s q d=some (qH R):=by
 have gS:hh none:=fun p aj=>by simp at aj
 have JK:=MN s i0 d cx fK
 rcases PW s i0 q h ao with ⟨xs,x1,x2,an,eo,b2,bW⟩|⟨b2,bW⟩
 ·rcases JK with ⟨cm,p1,p2,ky,nm,xd,row,rp,KG,KH⟩|⟨xd,rp⟩
  ·obtain ⟨aS,jb,ra,w0⟩:=F2 s i0 eo
   have ts:xs.length=s.b9.length:=by rw [← an,x2];simp
   have al:=yh (s:=s) x1 p1 s.b9.length
   refine ⟨_,al,?_,?_⟩
   ·unfold pR
    refine db b2 (i3 rfl (db xd (i3 rfl (db (GC (oP.2 (by omega))) ?_))))
    rw [x2,p2,dM]
    refine db (OR x1 p1 ts ky ra w0 jb) ?_
    exact db (qs al) rfl
   ·unfold pO
    refine db bW (db rp (i3 rfl (i3 rfl (db (Ig (oP.2 (by omega))) ?_))))
    rw [dM]
    refine db (OS x1 p1 ts ra w0 jb KG KH) (db (QV al) ?_)
    generalize qH (lT s xs cm s.b9.length)=z
    rcases z with a|a|a|a<;>rfl
  ·refine ⟨none,gS,?_,?_⟩
   ·unfold pR
    exact db b2 (i3 rfl (db xd (mN rfl rfl)))
   ·unfold pO
    exact db bW (db rp (i3 rfl (mN rfl rfl)))
 ·have a0 : ∃r,pH s d=some r:=by
   rcases JK with ⟨cm,p1,p2,ky,nm,xd,row,rp,KG,KH⟩|⟨xd,rp⟩
   ·exact ⟨_,rp⟩
   ·exact ⟨_,rp⟩
  obtain ⟨r,a0⟩:=a0
  refine ⟨none,gS,?_,?_⟩
  ·unfold pR
   exact db b2 (mN rfl rfl)
  ·unfold pO
   exact db bW (db a0 (mN rfl rfl))
theorem La (x0:c4) (x1:(List bF)) (x2:(List bF)) (i0:mS x0) (i1:(fun l=>l.length≤maxLen∧ ∀x∈l,vM x) x1) (i2:(fun l=>l.length≤maxLen∧ ∀x∈l,vM x) x2):xm x0 x1 x2=some true:=by
 unfold xm
 obtain ⟨r,r1,r2⟩:=Ns x0 i0 1048576 (by omega) (by omega)
 have hle:=N0 x0 i0 1048576 (by omega) (by omega) r r1
 refine db r1 (E7 (fun _=>rfl) fun h2=> ?_)
 have y8 : ¬r<0:=by simpa using h2
 obtain ⟨fC,hk⟩:=r2 (by omega)
 obtain ⟨t,t1,t2,t3⟩:=G0 x1 i1.1 i1.2 r (by omega) hle
 refine db t1 (E7 (fun _=>rfl) fun ag=> ?_)
 have JV : ¬t<0:=by simpa using ag
 obtain ⟨iI,iZ⟩:=t3 (by omega)
 obtain ⟨u,ik,ka,fc⟩:=G0 x2 i2.1 i2.2 t (by omega) (by omega)
 refine db ik (E7 (fun _=>rfl) fun ap=> ?_)
 have Sl : ¬u<0:=by simpa using ap
 obtain ⟨e1,e2⟩:=fc (by omega)
 obtain ⟨zq,P,bo,hl,jk,w9⟩:=G2 x1 iI iZ
 obtain ⟨fY,aL,fT,fp,l7,tO⟩:=G2 x2 e1 e2
 obtain ⟨R,al,q1,q2⟩:=Oh x0 i0 x1 x2 iI iZ e1 e2
 obtain ⟨lr,tN,n1,d1,d2,d3,TF,Vm⟩:=Mk (k:=1) (l:=x0.a6) (m:=x0.b9) (by omega) (by omega)
 obtain ⟨kx,w5,Vn,f1,f2,f3⟩:=Gj (k:=lr) (l:=zq) (P:=P) w9 TF (by omega)
 obtain ⟨Fa,Vo,Vp,f4,f5,f6⟩:=Gj (k:=kx) (l:=fY) (P:=aL) tO (by omega) (by omega)
 have g1:=Nr x0 fC hk
 have g2:=GZ x1 iI iZ
 have g4:=GZ x2 e1 e2
 have g3:decide (Fa<0)=false:=by simp only [decide_eq_false_iff_not];omega
 refine db (Nt x0 fC hk) (db bo (db fT (hU (List.all_eq_true.mpr fun x af=>(w9 x af).wZ) (hU (List.all_eq_true.mpr fun x af=>(tO x af).wZ) ?_))))
 rw [hl,fp]
 refine db q1 (db q2 ?_)
 cases R with
 | none =>
  have tQ:mW (⟨⟨false,[]⟩,[]⟩:bF) (enc none)=some true:=CZ (r:=⟨⟨false,[]⟩,[]⟩) ⟨by simp,by simp⟩
  have xe:nx (⟨⟨false,[]⟩,[]⟩:bF) 1=some 1:=DT (k:=1) (b:=false) (x:=0) (y:=0) (by omega) (by omega)
  exact db tQ (i3 rfl (i3 rfl (db g1 (i3 rfl (db g2 (i3 rfl (db g4 (i3 rfl (db d1 (db f1 (db f4 (mN g3 (db Rh (db xe rfl))))))))))))))
 | some p =>
  have aj:=al p rfl
  have Kh:=aj.lX
  have S6:=aj.lD
  have tQ:mW (mk p) (enc (some p))=some true:=CZ (r:=mk p) ⟨show (L p.1.natAbs).length≤_ by omega,show (L p.2).length≤_ by omega⟩
  by_cases c:p.1=0
  ·have e0:(⟨⟨false,[]⟩,L p.2⟩:bF)=mk p:=by
    have cK:L (p.1.natAbs:Int)=[]:=(x5 (by omega)).2 (by omega)
    unfold mk fa
    rw [cK,decide_eq_false (show ¬p.1<0 by omega)]
   have xe:nx (⟨⟨false,[]⟩,marks 1 (L p.2).length⟩:bF) 1=some (1+((L p.2).length:Int)):=by
    have:=DT (k:=1) (b:=false) (x:=0) (y:=(L p.2).length) (by omega) (by omega)
    simpa [P3] using this
   simp only [qH,if_pos c]
   rw [e0]
   refine db tQ (i3 rfl (i3 rfl (db g1 (i3 rfl (db g2 (i3 rfl (db g4 (i3 rfl (db d1 (db f1 (db f4 (mN g3 (db (Ri (by omega) (by omega)) (hU (by rw [mi];omega) ?_))))))))))))))
   rw [List.drop_zero,List.take_of_length_le (by rw [mi];omega)]
   refine db xe (mN (by simp only [decide_eq_false_iff_not];omega) (mN (by simp) rfl))
  ·have e0:(⟨⟨decide (p.1<0),L p.1.natAbs⟩,L p.2⟩:bF)=mk p:=rfl
   have xe:=DT (k:=1) (b:=decide (p.1<0)) (x:=(L p.1.natAbs).length) (y:=(L p.2).length) (by omega) (by omega)
   simp only [qH,if_neg c]
   rw [e0]
   refine db tQ (i3 rfl (i3 rfl (db g1 (i3 rfl (db g2 (i3 rfl (db g4 (i3 rfl (db d1 (db f1 (db f4 (mN g3 (db (Rj (by omega) (by omega)) (hU (by rw [mi];omega) (hU (by rw [mi];omega) ?_)))))))))))))))
   rw [List.drop_zero,List.drop_zero,List.take_of_length_le (by rw [mi];omega),List.take_of_length_le (by rw [mi];omega)]
   refine db xe (mN (by simp only [decide_eq_false_iff_not];omega) (mN (by simp) rfl))
end Go.Proofs.YtmmbmjbpfklkcaaGreat
