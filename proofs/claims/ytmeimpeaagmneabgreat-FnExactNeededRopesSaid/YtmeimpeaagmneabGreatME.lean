/- Lemmas, plain functions of the program, and what they answer. No condition. -/
import Derived.Test.YtmeimpeaagmneabGreatMD
namespace Go.Proofs.YtmeimpeaagmneabGreat
set_option linter.unusedVariables false
set_option linter.unusedSimpArgs false
open Go Go.VL
theorem nU {n:Nat}(h:n≤10000000):R ((n:Int)+1)=((n+1:Nat):Int):=by rw [cw (by omega) (by omega)];rfl
theorem qA {n:Nat}(h:n≤10000000):R ((n:Int)-1)=(n:Int)-1:=cw (by omega) (by omega)
theorem Mj {n:Nat}(h:n≤10000000):R (((n+1:Nat):Int)-1)=n:=by rw [cw (by omega) (by omega)];omega
theorem fT (l:List Int):len_ eI l=l.length:=fa _ l
theorem abA {l:List Int}{k:Nat}{x:Int}(U:l[k]? = some x)(a5:l.length≤5000000):uE l ((k+1:Nat):Int)=some (if x=0 then .inl (k:Int) else .inr ((k+1:Nat):Int)):=by
 have ba:=gb U
 unfold uE
 rw [Mj (by omega),if_pos (by simp),if_pos (by omega),Int.toNat_natCast,U]
 by_cases h:x=0<;>simp [h]
theorem rN {l:List Int}(aU:cD l)(a5:l.length≤5000000):qj l=some (L (V l)):=by
 have : ∃r,iter (fun w:Int=>uE l w) (l.length:Int)=some r∧ ∃k:Nat,r=k∧k≤l.length∧l.take k=L (V l):=by
  refine jj (eS:=fun w:Int=> ∃k:Nat,w=k∧k≤l.length∧V (l.take k)=V l) (m:=fun w:Int=>w.toNat) _ ?_ _ ⟨l.length,rfl,by omega,by simp⟩
  rintro _ ⟨k,rfl,ba,bk⟩
  cases k with
  | zero =>
   refine .inr ⟨0,by simp [uE],0,rfl,by omega,?_⟩
   rw [← bk]
   simp [V,q6]
  | succ k =>
   have U:=List.getElem?_eq_getElem (show k<l.length by omega)
   rw [abA U a5]
   by_cases h:l[k]=0
   ·refine .inl ⟨_,by simp [h],⟨k,rfl,by omega,?_⟩,by omega⟩
    have:=sx U
    rw [h] at this
    simp at this
    omega
   ·refine .inr ⟨_,by simp [h],k+1,rfl,ba,?_⟩
    rcases fQ.LM aU k (fun x h1=>by rw [U] at h1;simp at h1;omega) with h1|h1
    ·exact tP h1 bk
    ·omega
 obtain ⟨r,ap,k,rfl,h1,o⟩:=this
 unfold qj Kp
 rw [fT,ap]
 simp [h1,o]
theorem yS {l:List Int}(aU:cD l)(a5:l.length≤5000000):qn l=some (L (V l)):=by
 have : ∃r,iter (fun w:List Int=>x9 w) l=some r∧r=L (V l):=by
  refine jj (eS:=fun w=> ∃k:Nat,w=l.take k∧k≤l.length∧V (l.take k)=V l) (m:=fun w:List Int=>w.length) _ ?_ _ ⟨l.length,by simp,by omega,by simp⟩
  rintro _ ⟨k,rfl,ba,bk⟩
  have hlen:(l.take k).length=k:=by simp;omega
  cases k with
  | zero =>
   refine .inr ⟨[],by simp [x9,fT],?_⟩
   rw [← bk]
   simp [V,q6]
  | succ k =>
   have U:=List.getElem?_eq_getElem (show k<l.length by omega)
   have dV:(l.take (k+1))[k]? = some l[k]:=by rw [List.getElem?_take];simp [U]
   unfold x9
   simp only [fT,hlen]
   rw [Mj (by omega),if_pos (by simp),if_pos (by omega),Int.toNat_natCast,dV]
   by_cases h:l[k]=0
   ·refine .inl ⟨l.take k,by simp [h,List.take_take,Nat.min_eq_left],⟨k,rfl,by omega,?_⟩,by simp;omega⟩
    have:=sx U
    rw [h] at this
    simp at this
    omega
   ·refine .inr ⟨l.take (k+1),by simp [h],?_⟩
    rcases fQ.LM aU k (fun x h1=>by rw [U] at h1;simp at h1;omega) with h1|h1
    ·exact tP h1 bk
    ·omega
 obtain ⟨r,ap,rfl⟩:=this
 unfold qn KY
 rw [ap]
 rfl
theorem abB {l:List Int}(aU:cD l)(a5:l.length≤5000000): ∃k,A3 l=some k∧k≤l.length∧l.take k=L (V l):=by
 have : ∃r,iter (fun w:Nat=>xX l w) l.length=some r∧r≤l.length∧l.take r=L (V l):=by
  refine jj (eS:=fun k=>k≤l.length∧V (l.take k)=V l) (m:=fun w:Nat=>w) _ ?_ _ ⟨by omega,by simp⟩
  rintro k ⟨ba,bk⟩
  cases k with
  | zero =>
   refine .inr ⟨0,by simp [xX],by omega,?_⟩
   rw [← bk]
   simp [V,q6]
  | succ k =>
   have U:=List.getElem?_eq_getElem (show k<l.length by omega)
   unfold xX
   rw [Mj (by omega),if_pos (by simp),if_pos (by omega),Int.toNat_natCast,Nat.zero_add,U]
   by_cases h:l[k]=0
   ·refine .inl ⟨k,by simp [h],⟨by omega,?_⟩,by omega⟩
    have:=sx U
    rw [h] at this
    simp at this
    omega
   ·refine .inr ⟨k+1,by simp [h],ba,?_⟩
    rcases fQ.LM aU k (fun x h1=>by rw [U] at h1;simp at h1;omega) with h1|h1
    ·exact tP h1 bk
    ·omega
 obtain ⟨r,ap,h1,o⟩:=this
 unfold A3 KH
 rw [ap]
 exact ⟨r,rfl,h1,o⟩
theorem sB {a b:List Int}(bJ:fQ a)(aT:fQ b)(a5:a.length≤5000000):ql a b=some (lc (V a) (V b)):=by
 unfold ql lc
 simp only [fT]
 by_cases h1:a.length=b.length
 ·rw [if_neg (by simp [h1])]
  have : ∃r,iter (fun w:Int=>xS a b w) ((a.length:Int)-1)=some r∧(r.elim (fun _=>V a=V b) (fun c=>(c = -1∧V a<V b)∨(c=1∧V b<V a))):=by
   refine jj (eS:=fun w:Int=> ∃k:Nat,w=(k:Int)-1∧k≤a.length∧V (a.drop k)=V (b.drop k)) (m:=fun w:Int=>(w+1).toNat) _ ?_ _ ⟨a.length,rfl,by omega,by rw [List.drop_length,h1,List.drop_length]⟩
   rintro _ ⟨k,rfl,ba,bk⟩
   cases k with
   | zero=>exact .inr ⟨.inl (),by simp [xS],by simpa using bk⟩
   | succ k =>
    have U:=List.getElem?_eq_getElem (show k<a.length by omega)
    have aZ:=List.getElem?_eq_getElem (show k<b.length by omega)
    have e:((k+1:Nat):Int)-1=k:=by omega
    unfold xS
    rw [e,qA (by omega),if_pos (by simp),if_pos (by omega),Int.toNat_natCast,U]
    simp only [Option.bind_eq_bind,Option.bind_some]
    rw [if_pos (by omega),aZ]
    by_cases o:a[k]<b[k]
    ·exact .inr ⟨.inr (-1),by simp [o],.inl ⟨rfl,RL bJ.1 aT.1 U aZ bk o⟩⟩
    ·by_cases af:b[k]<a[k]
     ·exact .inr ⟨.inr 1,by simp [o,af],.inr ⟨rfl,RL aT.1 bJ.1 aZ U bk.symm af⟩⟩
     ·refine .inl ⟨(k:Int)-1,by simp [o,af],⟨k,rfl,by omega,?_⟩,by omega⟩
      rw [oN U,oN aZ,bk,show a[k]=b[k] by omega]
  obtain ⟨r,ap,o⟩:=this
  unfold Kz
  rw [qA (by omega),ap]
  cases r with
  | inl u =>
   simp at o
   simp [o]
  | inr c =>
   rcases o with ⟨rfl,o⟩|⟨rfl,o⟩
   ·simp [o]
   ·simp [o];omega
 ·rw [if_pos (by simp;omega)]
  by_cases o:a.length<b.length
  ·have:=EW bJ aT o
   simp [o,this]
  ·have:=EW aT bJ (by omega)
   rw [if_neg (by simp;omega),if_neg (by omega),if_pos this]
theorem Z4:qR=ql:=rfl
theorem Qo {a b:List Int}(bJ:fQ a)(aT:fQ b)(a5:a.length≤5000000):qR a b=some (lc (V a) (V b)):=sB bJ aT a5
theorem BJ {x y:Int}(U:0≤x∧x<1000000000)(aZ:0≤y∧y<1000000000):0≤x*y∧x*y≤999999998000000001:=by
 have h1:=Int.mul_nonneg U.1 aZ.1
 have o:x*y≤999999999*999999999:=Int.mul_le_mul (by omega) (by omega) aZ.1 (by omega)
 omega
theorem qd {a b:Int}(h:0≤a):a.tmod b=a % b:=Int.tmod_eq_emod_of_nonneg h
theorem nl {a b:Int}(h:0≤a):a.tdiv b=a / b:=Int.tdiv_eq_ediv_of_nonneg h
theorem LP (k:Nat)(x:Int)(q:List Int):(List.replicate (k+1) 0++q).set k x=List.replicate k 0++x::q:=by
 induction k with
 | zero=>rfl
 | succ k ih =>
  show (0::(List.replicate (k+1) 0++q)).set (k+1) x=_
  rw [List.set_cons_succ,ih];rfl
theorem aaW {a:List Int}{d rest:Int}{row:List Int}{k:Nat}{x:Int}(U:a[k]? = some x)(kF:0≤x∧x<1000000000)(bK:0<d∧d<1000000000)(ap:0≤rest∧rest<d)(dN:row.length=a.length)(a5:a.length≤1000000):
 xy a d rest (k:Int) row=some (.inl ((rest*1000000000+x) % d,(k:Int)-1,row.set k ((rest*1000000000+x) / d))):=by
 have ba:=gb U
 unfold xy
 rw [if_pos (by simp),if_pos (by omega),Int.toNat_natCast,U]
 simp only [Option.bind_eq_bind,Option.bind_some]
 rw [if_pos (by omega),if_pos (by omega),if_pos (by omega),qA (by omega)]
 have h1:R (R (rest*1000000000)+x)=rest*1000000000+x:=by rw [cw (x:=rest*1000000000) (by omega) (by omega)];exact cw (by omega) (by omega)
 have o:0≤rest*1000000000+x:=by omega
 have af:(rest*1000000000+x) / d≤rest*1000000000+x:=Int.ediv_le_self _ o
 have av:0≤(rest*1000000000+x) / d:=Int.ediv_nonneg o (by omega)
 rw [h1,qd o,nl o,cw (by omega) (by omega),Nat.zero_add]
theorem Qp {a:List Int}{d:Int}(bJ:cD a)(bK:0<d∧d<1000000000)(a5:a.length≤1000000):
 ∃r,DY a d 0 ((a.length:Int)-1) (List.replicate a.length 0)=some r∧r.1=V a % d∧cD r.2∧r.2.length=a.length∧V r.2=V a / d:=by
 refine jj (eS:=fun w:Int×Int×List Int=> ∃(k:Nat) (q:List Int),w.2.1=(k:Int)-1∧k≤a.length∧w.2.2=List.replicate k 0++q∧q.length+k=a.length∧cD q∧0≤w.1∧w.1<d∧V (a.drop k)=V q*d+w.1) (m:=fun w:Int×Int×List Int=>(w.2.1+1).toNat) _ ?_ _ ⟨a.length,[],rfl,by omega,by simp,by simp,cD.nil,by omega,by omega,by simp [V]⟩
 rintro ⟨rest,i,row⟩ ⟨k,q,h1,ba,o,bb,p9,lv,ie,bk⟩
 simp only at h1 o lv ie bk ⊢
 subst h1 o
 cases k with
 | zero =>
  refine .inr ⟨(rest,q),by simp [xy],?_,p9,by simpa using bb,?_⟩
  ·simp at bk
   rw [bk,Int.add_comm,Int.add_mul_emod_self_right]
   exact (Int.emod_eq_of_lt lv ie).symm
  ·simp at bk
   rw [bk,Int.add_comm,Int.add_mul_ediv_right _ _ (by omega),Int.ediv_eq_zero_of_lt lv ie]
   simp
 | succ k =>
  have U:=List.getElem?_eq_getElem (show k<a.length by omega)
  have kF:=bJ.get U
  rw [show ((k+1:Nat):Int)-1=k by omega,aaW U kF bK ⟨lv,ie⟩ (by simp;omega) a5]
  refine .inl ⟨_,rfl,⟨k,(rest*1000000000+a[k]) / d::q,rfl,by omega,LP _ _ _,by simp;omega,cD.cons ⟨Int.ediv_nonneg (by omega) (by omega),?_⟩ p9,Int.emod_nonneg _ (by omega),Int.emod_lt_of_pos _ bK.1,?_⟩,by simp⟩
  ·refine Int.ediv_lt_of_lt_mul bK.1 ?_
   omega
  ·rw [oN U,bk,lp]
   have:=Int.mul_ediv_add_emod (rest*1000000000+a[k]) d
   generalize (rest*1000000000+a[k]) / d=u at *
   generalize (rest*1000000000+a[k]) % d=t at *
   grind
theorem acA {a:List Int}{d:Int}(bJ:cD a)(bK:0<d∧d<1000000000)(a5:a.length≤1000000):AA a d=some (L (V a / d),V a % d):=by
 obtain ⟨r,ap,h1,o,af,av⟩:=Qp bJ bK a5
 unfold AA
 simp only [fT]
 rw [if_pos (by omega),qA (by omega),Int.toNat_natCast,ap]
 simp only [Option.bind_eq_bind,Option.bind_some]
 rw [rN o (by omega),h1,av]
 rfl
theorem Zf:JZ=DY:=rfl
theorem PJ {a:List Int}{d:Int}(bJ:cD a)(bK:0<d∧d<1000000000)(a5:a.length≤1000000):yk a d=some (L (V a / d),V a % d):=by
 obtain ⟨r,ap,h1,o,af,av⟩:=Qp bJ bK a5
 unfold yk
 simp only [fT]
 rw [if_pos (by omega),qA (by omega),Int.toNat_natCast,Zf,ap]
 simp only [Option.bind_eq_bind,Option.bind_some]
 rw [yS o (by omega),h1,av]
 rfl
theorem abC {b:List Int}{i j:Nat}{x y z carry:Int}{row t26:List Int}{t27:Int}(aZ:b[j]? = some y)(cF:row[i+j]? = some z)(U:0≤x∧x<1000000000)(ph:0≤y∧y<1000000000)(rk:0≤z∧z<1000000000)(bj:0≤carry∧carry<1000000000)(a5:row.length≤2000000):
 xT b i x t26 t27 b.length carry j row=some (.inl ((z+x*y+carry) / 1000000000,((j+1:Nat):Int),row.set (i+j) ((z+x*y+carry) % 1000000000))):=by
 have aE:=gb aZ
 have pZ:=gb cF
 obtain ⟨ix,hx⟩:=BJ U ph
 unfold xT
 have e:R ((i:Int)+(j:Int))=((i+j:Nat):Int):=by rw [cw (by omega) (by omega)];rfl
 rw [if_pos (by simp;omega),if_pos (by omega),Int.toNat_natCast,aZ]
 simp only [Option.bind_eq_bind,Option.bind_some,e,Int.toNat_natCast,Nat.zero_add]
 rw [if_pos (by omega),cF]
 simp only [Option.bind_some]
 rw [if_pos (by omega),nU (by omega),cw (x:=x*y) (by omega) (by omega),cw (x:=z+x*y) (by omega) (by omega),cw (x:=z+x*y+carry) (by omega) (by omega),qd (by omega),nl (by omega),cw (by omega) (by omega)]
theorem abD {b:List Int}{i:Nat}{x:Int}{row t26:List Int}{t27:Int}(aT:cD b)(dN:cD row)(U:0≤x∧x<1000000000)(aU:i+b.length<row.length)(a5:row.length≤2000000):
 ∃r,KD b i x t26 t27 b.length 0 0 row=some r∧0≤r.1∧r.1<1000000000∧cD r.2∧r.2.length=row.length∧V r.2+r.1*B (i+b.length)=V row+x*B i*V b∧ ∀j,i+b.length≤j→r.2[j]? = row[j]? := by
 refine jj (eS:=fun w:Int×Int×List Int=> ∃(j:Nat),w.2.1=(j:Int)∧j≤b.length∧0≤w.1∧w.1<1000000000∧cD w.2.2∧w.2.2.length=row.length∧V w.2.2+w.1*B (i+j)=V row+x*B i*V (b.take j)∧ ∀j,i+b.length≤j→w.2.2[j]? = row[j]?) (m:=fun w:Int×Int×List Int=>b.length-w.2.1.toNat) _ ?_ _ ⟨0,rfl,by omega,by simp,by simp,dN,rfl,by simp [V],fun _ _=>rfl⟩
 rintro ⟨carry,agA,er⟩ ⟨j,h1,aE,mI,na,kt,hlen,bk,lr⟩
 simp only at h1 mI na kt hlen bk lr ⊢
 subst h1
 by_cases afL:j=b.length
 ·subst afL
  refine .inr ⟨(carry,er),by simp [xT],mI,na,kt,hlen,by simpa using bk,lr⟩
 ·have aZ:=List.getElem?_eq_getElem (show j<b.length by omega)
  have cF:=List.getElem?_eq_getElem (show i+j<er.length by omega)
  have ph:=aT.get aZ
  have rk:=kt.get cF
  obtain ⟨ix,hx⟩:=BJ U ph
  rw [abC aZ cF U ph rk ⟨mI,na⟩ (by omega)]
  refine .inl ⟨_,rfl,⟨j+1,rfl,by omega,by simp only;omega,by simp only;omega,kt.set (by omega),by simpa using hlen,?_,fun h5 tZ=> ?_⟩,by simp;omega⟩
  ·simp only
   rw [rW cF,sx aZ,← Nat.add_assoc,mm]
   rw [BT] at bk ⊢
   have:=Int.mul_ediv_add_emod (er[i+j]+x*b[j]+carry) 1000000000
   generalize (er[i+j]+x*b[j]+carry) / 1000000000=u at *
   generalize (er[i+j]+x*b[j]+carry) % 1000000000=t at *
   grind
  ·rw [← lr h5 tZ]
   exact List.getElem?_set_ne (by omega)
theorem Ll {a b:List Int}(bJ:cD a)(aT:cD b)(a5:a.length≤1000000)(hm:b.length≤1000000):
 ∃r,As b a a.length 0 (List.replicate (a.length+b.length) 0)=some r∧cD r∧r.length=a.length+b.length∧V r=V a*V b:=by
 refine jj (eS:=fun w:Int×List Int=> ∃(i:Nat),w.1=(i:Int)∧i≤a.length∧cD w.2∧w.2.length=a.length+b.length∧V w.2=V (a.take i)*V b∧ ∀j,i+b.length≤j→j<a.length+b.length→w.2[j]? = some 0) (m:=fun w:Int×List Int=>a.length-w.1.toNat) _ ?_ _ ⟨0,rfl,by omega,cD.M9 _,by simp,by simp [V,Mg],fun j _ h=>by simp [List.getElem?_replicate,h]⟩
 rintro ⟨ii,row⟩ ⟨i,h1,ah,kt,hlen,bk,h0⟩
 simp only at h1 kt hlen bk h0 ⊢
 subst h1
 by_cases CY:i=a.length
 ·subst CY
  refine .inr ⟨row,by simp [z7],kt,hlen,by simpa using bk⟩
 ·have U:=List.getElem?_eq_getElem (show i<a.length by omega)
  have kF:=bJ.get U
  obtain ⟨r,ap,mI,na,aeN,Sw,Cr,lr⟩:=abD (i:=i) (t26:=a) (t27:=a.length) aT kt kF (by omega) (by omega)
  have e:R ((i:Int)+(b.length:Int))=((i+b.length:Nat):Int):=by rw [cw (by omega) (by omega)];rfl
  have cF:r.2[i+b.length]? = some 0:=by rw [lr _ (Nat.le_refl _)];exact h0 _ (Nat.le_refl _) (by omega)
  refine .inl ⟨(((i+1:Nat):Int),r.2.set (i+b.length) r.1),?_,⟨i+1,rfl,by omega,aeN.set ⟨mI,na⟩,by simp;omega,?_,fun j ah6 afM=> ?_⟩,by simp;omega⟩
  ·unfold z7
   rw [if_pos (by simp;omega),if_pos (by omega),Int.toNat_natCast,U]
   simp only [Option.bind_eq_bind,Option.bind_some,fT]
   rw [ap]
   simp only [Option.bind_some,e,Int.toNat_natCast,Nat.zero_add]
   rw [if_pos (by omega),if_pos (by omega),nU (n:=i) (by omega)]
  ·simp only
   rw [rW cF,sx U]
   grind
  ·simp only
   rw [List.getElem?_set_ne (by omega),lr _ (by omega)]
   exact h0 _ (by omega) afM
theorem mul_eq {a b:List Int}(bJ:cD a)(aT:cD b)(a5:a.length≤1000000)(hm:b.length≤1000000):h3 a b=some (L (V a*V b)):=by
 unfold h3
 simp only [fT]
 by_cases h1:a=[]
 ·subst h1
  simp [V,q6]
 ·by_cases o:b=[]
  ·subst o
   simp [h1,V,q6]
  ·obtain ⟨r,ap,af,av,aA⟩:=Ll bJ aT a5 hm
   have e:R ((a.length:Int)+(b.length:Int))=((a.length+b.length:Nat):Int):=by rw [cw (by omega) (by omega)];rfl
   rw [if_neg (by simp [h1]),if_neg (by simp [o]),e,if_pos (by omega),Int.toNat_natCast,ap]
   simp only [Option.bind_eq_bind,Option.bind_some]
   rw [rN af (by omega),aA]
   rfl
theorem aaq:KU=As:=rfl
theorem ZH:Ku=As:=rfl
theorem acB {a b:List Int}(bJ:cD a)(aT:cD b)(a5:a.length≤1000000)(hm:b.length≤1000000):Bc a b=some (L (V a*V b)):=by
 unfold Bc
 simp only [fT]
 by_cases h1:a=[]
 ·subst h1
  simp [V,q6]
 ·by_cases o:b=[]
  ·subst o
   simp [h1,V,q6]
  ·obtain ⟨r,ap,af,av,aA⟩:=Ll bJ aT a5 hm
   have e:R ((a.length:Int)+(b.length:Int))=((a.length+b.length:Nat):Int):=by rw [cw (by omega) (by omega)];rfl
   rw [if_neg (by simp [h1]),if_neg (by simp [o]),e,if_pos (by omega),Int.toNat_natCast,aaq,ap]
   simp only [Option.bind_eq_bind,Option.bind_some]
   rw [yS af (by omega),aA]
   rfl
theorem Qq {a b:List Int}(bJ:cD a)(aT:cD b)(h1:a≠[])(o:b≠[])(a5:a.length≤1000000)(hm:b.length≤1000000):
 ∃k r,yr a b=some (k,r)∧k≤r.length∧r.length=a.length+b.length∧r.take k=L (V a*V b)∧cD r:=by
 obtain ⟨r,ap,af,av,aA⟩:=Ll bJ aT a5 hm
 obtain ⟨k,ba,aX,bf⟩:=abB af (by omega)
 refine ⟨k,r,?_,aX,av,by rw [bf,aA],af⟩
 unfold yr
 simp only [fT]
 have e:R ((a.length:Int)+(b.length:Int))=((a.length+b.length:Nat):Int):=by rw [cw (by omega) (by omega)];rfl
 rw [if_neg (by simp [h1]),if_neg (by simp [o]),e,if_pos (by omega),Int.toNat_natCast,ZH,ap]
 simp only [Option.bind_eq_bind,Option.bind_some]
 rw [ba]
 rfl
theorem BX {x:Int}(h1:0≤x)(o:x<18446744073709551616):IntKind.wrap .u64 x=x:=by
 simp only [IntKind.wrap,IntKind.signed,IntKind.bits]
 have:((2:Int) ^ 64)=18446744073709551616:=by decide
 simp
 omega
theorem aen {x:Int}(h1:-9223372036854775808≤x)(o:x<9223372036854775808):IntKind.wrap .i64 x=x:=cw h1 o
theorem fQ.snoc {l:List Int}{x:Int}(h:cD l)(U:0<x∧x<1000000000):fQ (l++[x]):=⟨h.append (cD.cons (by omega) cD.nil),fun y aZ=>by
 rw [List.getLast?_append] at aZ
 simp at aZ
 omega⟩
theorem QN {N:Int}(f5:N<18446744073709551616){n:Int}{row:List Int}(h:0≤n∧cD row∧V row+B row.length*n=N∧(n=0→fQ row)∧((row.length=0∧n<18446744073709551616)∨(row.length=1∧n<20000000000)∨(row.length=2∧n<20)∨(row.length=3∧n=0)))(a5:0<n):
 (fun (n:Int) (row:List Int)=>0≤n∧cD row∧V row+B row.length*n=N∧(n=0→fQ row)∧((row.length=0∧n<18446744073709551616)∨(row.length=1∧n<20000000000)∨(row.length=2∧n<20)∨(row.length=3∧n=0))) (n / 1000000000) (row++[n % 1000000000]):=by
 obtain ⟨h0,h1,o,af,av⟩:=h
 refine ⟨by omega,h1.append (cD.cons (by omega) cD.nil),?_,fun aA=>fQ.snoc h1 (by omega),?_⟩
 ·rw [vo,List.length_append,List.length_singleton,mm,lp,BU]
  have:=Int.mul_ediv_add_emod n 1000000000
  generalize n / 1000000000=u at *
  generalize n % 1000000000=t at *
  grind
 ·rw [List.length_append,List.length_singleton]
  omega
theorem yK {n:Int}(h:0≤n)(a5:n<9223372036854775808):rM n=some (L n):=by
 have : ∃r,iter (fun w:Int×List Int=>x5 w.1 w.2) (n,[])=some r∧r=L n:=by
  refine jj (eS:=fun w:Int×List Int=>w.1≤n∧0≤w.1∧cD w.2∧V w.2+B w.2.length*w.1=n∧(w.1=0→fQ w.2)∧((w.2.length=0∧w.1<18446744073709551616)∨(w.2.length=1∧w.1<20000000000)∨(w.2.length=2∧w.1<20)∨(w.2.length=3∧w.1=0))) (m:=fun w:Int×List Int=>w.1.toNat) _ ?_ _ ⟨Int.le_refl _,h,cD.nil,by simp [V,B],fun _=>fQ.nil,.inl ⟨rfl,by simp only;omega⟩⟩
  rintro ⟨m,row⟩ ⟨hm,cI⟩
  simp only at hm cI
  obtain ⟨h0,h1,o,af,av⟩:=id cI
  by_cases kg:0<m
  ·have:=QN (by omega) cI kg
   refine .inl ⟨(m / 1000000000,row++[m % 1000000000]),?_,⟨by simp only;omega,this⟩,by simp only;omega⟩
   unfold x5
   rw [if_pos (by simp;omega),qd (by omega),nl (by omega),if_pos (by simp;omega),cw (by omega) (by omega)]
  ·refine .inr ⟨row,by simp [x5,kg],?_⟩
   have n4:m=0:=by omega
   refine tP (af n4) ?_
   rw [n4] at o
   simpa using o
 obtain ⟨r,ap,rfl⟩:=this
 unfold rM KP
 rw [ap]
 rfl
theorem Ld {n:Int}(h:0≤n)(a5:n<18446744073709551616):uY n=some (L n):=by
 have : ∃r,iter (fun w:Int×List Int=>xH w.1 w.2) (n,[])=some r∧r=L n:=by
  refine jj (eS:=fun w:Int×List Int=>w.1≤n∧0≤w.1∧cD w.2∧V w.2+B w.2.length*w.1=n∧(w.1=0→fQ w.2)∧((w.2.length=0∧w.1<18446744073709551616)∨(w.2.length=1∧w.1<20000000000)∨(w.2.length=2∧w.1<20)∨(w.2.length=3∧w.1=0))) (m:=fun w:Int×List Int=>w.1.toNat) _ ?_ _ ⟨Int.le_refl _,h,cD.nil,by simp [V,B],fun _=>fQ.nil,.inl ⟨rfl,by simp only;omega⟩⟩
  rintro ⟨m,row⟩ ⟨hm,cI⟩
  simp only at hm cI
  obtain ⟨h0,h1,o,af,av⟩:=id cI
  by_cases kg:0<m
  ·have:=QN (by omega) cI kg
   refine .inl ⟨(m / 1000000000,row++[m % 1000000000]),?_,⟨by simp only;omega,this⟩,by simp only;omega⟩
   unfold xH
   rw [if_pos (by simp;omega),qd (by omega),nl (by omega),aen (x:=m % 1000000000) (by omega) (by omega),if_pos (by simp;omega),BX (by omega) (by omega)]
  ·refine .inr ⟨row,by simp [xH,kg],?_⟩
   have n4:m=0:=by omega
   refine tP (af n4) ?_
   rw [n4] at o
   simpa using o
 obtain ⟨r,ap,rfl⟩:=this
 unfold uY Kr
 rw [ap]
 rfl
def tS (x:Int):Bool:=decide (0≤x) && decide (x<1000000000)
theorem RR (l:List Int):l.all tS=true↔cD l:=by
 simp [tS,cD]
theorem Qr {a:List Int}(h:a≠[]): ∃x,a[a.length-1]? = some x∧(fQ a↔cD a∧x≠0):=by
 have ak:=List.length_pos_iff.mpr h
 refine ⟨a[a.length-1],List.getElem?_eq_getElem (by omega),?_⟩
 have e:a.getLast? = some a[a.length-1]:=by rw [List.getLast?_eq_getElem?];exact List.getElem?_eq_getElem (by omega)
 constructor
 ·exact fun h=>⟨h.1,h.2 _ e⟩
 ·refine fun h=>⟨h.1,fun x U=> ?_⟩
  rw [e] at U
  rw [← Option.some.inj U]
  exact h.2
theorem aeo {a:List Int}(h:a≠[])(hm:(a.length:Int)<9223372036854775807):R ((a.length:Int)-1)=((a.length-1:Nat):Int):=by
 have ak:=List.length_pos_iff.mpr h
 rw [cw (by omega) (by omega)]
 omega
theorem aaX (x:Int):mB x 0 999999999=some (tS x):=by
 unfold mB tS
 by_cases h:0≤x
 ·simp [h];omega
 ·simp [h]
theorem Le {a:List Int}(hm:(a.length:Int)<9223372036854775807): ∃ok,sq a=some ok∧(ok=true↔fQ a∧a.length≤60):=by
 have h1:iter (fun w:Int=>x6 a a.length w) 0=some (if a.all tS then .inl () else .inr ()):=by
  refine Ra a tS (fun n x U=> ?_) (by simp [x6])
  have:=gb U
  unfold x6
  rw [if_pos (by simp;omega),if_pos (by omega),Int.toNat_natCast,U]
  simp only [Option.bind_eq_bind,Option.bind_some,aaX]
  rw [i1 (by omega)]
  cases tS x<;>rfl
 unfold sq KQ
 simp only [fT]
 rw [h1]
 by_cases uj:a.all tS=true
 ·have Co:=(RR a).1 uj
  simp only [uj,if_true,Option.bind_eq_bind,Option.bind_some]
  by_cases qM:a.length≤60
  ·rw [if_pos (by simp;omega)]
   by_cases h0:a=[]
   ·subst h0
    exact ⟨true,rfl,by simp [fQ.nil]⟩
   ·obtain ⟨x,U,a5⟩:=Qr h0
    have ak:=List.length_pos_iff.mpr h0
    rw [if_neg (by simp [h0]),aeo h0 hm,if_pos (by omega),Int.toNat_natCast,U]
    refine ⟨_,rfl,?_⟩
    rw [a5]
    simp [Co,qM]
  ·rw [if_neg (by simp;omega)]
   exact ⟨false,rfl,by simp;omega⟩
 ·have Co : ¬cD a:=fun h=>uj ((RR a).2 h)
  simp only [Bool.not_eq_true] at uj
  refine ⟨false,by simp [uj],?_⟩
  simp only [Bool.false_eq_true,false_iff]
  exact fun h=>Co h.1.1
theorem P1 {a:List Int}(bJ:fQ a)(qM:a.length≤60)(bk:V a<9223372036854775808):ym a=some (V a,true):=by
 obtain ⟨ok,h1,o⟩:=Le (a:=a) (by omega)
 have m7:ok=true:=o.2 ⟨bJ,qM⟩
 subst m7
 have bj:fQ [854775807,223372036,9]:=⟨by intro x U;simp at U;omega,by simp⟩
 have Nl:V [854775807,223372036,9]=9223372036854775807:=by decide
 unfold ym
 rw [h1]
 simp only [Option.bind_eq_bind,Option.bind_some,if_true]
 rw [sB bJ bj (by omega),Nl]
 have : ∃r,iter (fun w:Int×Int=>xw a w.1 w.2) (0,(a.length:Int)-1)=some r∧r=V a:=by
  refine jj (eS:=fun w:Int×Int=> ∃k:Nat,w.2=(k:Int)-1∧k≤a.length∧w.1=V (a.drop k)) (m:=fun w:Int×Int=>(w.2+1).toNat) _ ?_ _ ⟨a.length,rfl,by omega,by simp [V]⟩
  rintro ⟨n,i⟩ ⟨k,af,ba,av⟩
  simp only at af av
  subst af av
  cases k with
  | zero=>exact .inr ⟨V a,by simp [xw],rfl⟩
  | succ k =>
   have U:=List.getElem?_eq_getElem (show k<a.length by omega)
   have kF:=bJ.1.get U
   have aA:=oN U
   have aX:=mV (bJ.1.drop (k+1))
   have bf:V (a.drop k)≤V a:=by
    have bl:=vq (l:=a) (n:=k) (by omega)
    have cB:=mV (bJ.1.take k)
    have cQ:=mV (bJ.1.drop k)
    have fe:1*V (a.drop k)≤B k*V (a.drop k):=Int.mul_le_mul_of_nonneg_right (oW k) cQ
    omega
   refine .inl ⟨(V (a.drop k),(k:Int)-1),?_,⟨k,rfl,by omega,rfl⟩,by simp only;omega⟩
   unfold xw
   rw [show ((k+1:Nat):Int)-1=k by omega,if_pos (by simp),if_pos (by omega),Int.toNat_natCast,U]
   simp only [Option.bind_eq_bind,Option.bind_some]
   rw [qA (by omega),cw (x:=V (a.drop (k+1))*1000000000) (by omega) (by omega),cw (by omega) (by omega),aA]
   congr 3
   omega
 obtain ⟨r,ap,rfl⟩:=this
 unfold lc J9
 simp only [fT]
 rw [qA (by omega),ap]
 have af : ¬(9223372036854775807:Int)<V a:=by omega
 by_cases av:V a<9223372036854775807<;>simp [af,av]
theorem acC {a b row:List Int}{less x:Int}{i:Nat}(aT:cD b)(U:a[i]? = some x)(kF:0≤x∧x<1000000000)(aU:less=0∨less=1)(a5:a.length≤1000000)(hm:b.length≤1000000)(ap:row.length≤1000000):
 ∃y,0≤y∧y<1000000000∧(∀z,b[i]? = some z→y=z)∧(b[i]? = none→y=0) ∧
 uG a b a.length less i row=some (.inl (if x-less-y<0 then (1,((i+1:Nat):Int),row++[x-less-y+1000000000]) else (0,((i+1:Nat):Int),row++[x-less-y]))):=by
 have ah:=gb U
 unfold uG
 rw [if_pos (by simp;omega),if_pos (by omega),Int.toNat_natCast,U]
 simp only [Option.bind_eq_bind,Option.bind_some,fT]
 by_cases TN:i<b.length
 ·have aZ:=List.getElem?_eq_getElem TN
  have ph:=aT.get aZ
  refine ⟨b[i],ph.1,ph.2,fun z cF=>by rw [aZ] at cF;exact Option.some.inj cF,fun h=>by rw [aZ] at h;simp at h,?_⟩
  rw [if_pos (by simp;omega),if_pos (by omega),aZ]
  simp only [Option.bind_some]
  rw [cw (x:=x-less) (by omega) (by omega),cw (x:=x-less-b[i]) (by omega) (by omega),nU (n:=i) (by omega),cw (x:=x-less-b[i]+1000000000) (by omega) (by omega)]
  by_cases h:x-less-b[i]<0
  ·rw [if_pos (by simp [h]),if_pos (by simp;omega)]
   simp [h]
  ·rw [if_neg (by simp [h]),if_pos (by simp;omega)]
   simp [h]
 ·have aZ:b[i]? = none:=by simp;omega
  refine ⟨0,by omega,by omega,fun z cF=>by rw [aZ] at cF;simp at cF,fun _=>rfl,?_⟩
  rw [if_neg (by simp;omega),cw (x:=x-less) (by omega) (by omega),nU (n:=i) (by omega),cw (x:=x-less+1000000000) (by omega) (by omega),Int.sub_zero]
  by_cases h:x-less<0
  ·rw [if_pos (by simp [h]),if_pos (by simp;omega)]
   simp [h]
  ·rw [if_neg (by simp [h]),if_pos (by simp;omega)]
   simp [h]
theorem Rg {b:List Int}{i:Nat}{y:Int}(h1:∀z,b[i]? = some z→y=z)(o:b[i]? = none→y=0):V (b.take (i+1))=V (b.take i)+B i*y:=by
 cases h:b[i]? with
 | some z=>rw [h1 z h,sx h]
 | none =>
  rw [o h]
  have:b.length≤i:=by simpa using h
  rw [List.take_of_length_le (by omega),List.take_of_length_le (by omega)]
  simp
theorem sub_eq {a b:List Int}(bJ:cD a)(aT:cD b)(hlen:b.length≤a.length)(ub:V b≤V a)(a5:a.length≤1000000):so a b=some (L (V a-V b)):=by
 have : ∃r,iter (fun w:Int×Int×List Int=>uG a b a.length w.1 w.2.1 w.2.2) (0,0,[])=some r∧cD r∧r.length=a.length∧V r=V a-V b:=by
  refine jj (eS:=fun w:Int×Int×List Int=> ∃i:Nat,w.2.1=i∧i≤a.length∧(w.1=0∨w.1=1)∧cD w.2.2∧w.2.2.length=i∧V w.2.2-w.1*B i=V (a.take i)-V (b.take i)) (m:=fun w:Int×Int×List Int=>a.length-w.2.1.toNat) _ ?_ _ ⟨0,rfl,by omega,.inl rfl,cD.nil,rfl,by simp [V]⟩
  rintro ⟨less,ii,row⟩ ⟨i,h1,ah,aU,kt,s7,bk⟩
  simp only at h1 aU kt s7 bk ⊢
  subst h1
  by_cases CY:i=a.length
  ·refine .inr ⟨row,by simp [uG,CY],kt,by omega,?_⟩
   rw [CY] at bk
   rw [List.take_length,List.take_of_length_le hlen] at bk
   have o:=nz kt
   rw [s7,CY] at o
   rcases aU with rfl|rfl<;>omega
  ·have U:=List.getElem?_eq_getElem (show i<a.length by omega)
   have kF:=bJ.get U
   obtain ⟨y,CZ,C0,afN,afO,he⟩:=acC (row:=row) aT U kF aU a5 (by omega) (by omega)
   rw [he]
   refine .inl ⟨_,rfl,?_⟩
   have af:=sx U
   have av:=Rg afN afO
   by_cases h:a[i]-less-y<0
   ·rw [if_pos h]
    refine ⟨⟨i+1,rfl,by omega,.inr rfl,kt.append (cD.cons (by omega) cD.nil),by simp [s7],?_⟩,by simp only;omega⟩
    simp only
    rw [af,av,vo,s7,mm,lp,BU]
    grind
   ·rw [if_neg h]
    refine ⟨⟨i+1,rfl,by omega,.inl rfl,kt.append (cD.cons (by omega) cD.nil),by simp [s7],?_⟩,by simp only;omega⟩
    simp only
    rw [af,av,vo,s7,lp,BU]
    grind
 obtain ⟨r,ap,h1,o,af⟩:=this
 unfold so KA
 simp only [fT]
 rw [ap]
 simp only [Option.bind_eq_bind,Option.bind_some]
 rw [rN h1 (by omega),af]
 rfl
theorem rO {l:List Int}(h:cD l){k:Nat}(ba:k≤l.length):B k*V (l.drop k)≤V l∧V l<B k*(V (l.drop k)+1):=by
 have h1:=vq ba
 have o:=mV (h.take k)
 have af:=nz (h.take k)
 rw [List.length_take,Nat.min_eq_left ba] at af
 rw [Int.mul_add,Int.mul_one]
 omega
theorem Bl {l:List Int}{k:Nat}{x:Int}(U:l[k]? = some x)(aU:l.length=k+1):V (l.drop k)=x:=by
 rw [oN U,List.drop_of_length_le (by omega)]
 simp [V]
theorem PK {a0 W t d P:Int}(hy:1≤P)(FW:P*t≤a0)(Nm:a0<P*(t+1))(uc:P*d≤W)(FX:W<P*(d+1))(bK:0<d)(cj:0≤t)(Nn:a0<1000000000*W):t / (d+1)≤a0 / W∧a0 / W≤t / d∧a0 / W≤999999999:=by
 have hW:0<W:=by
  have:=Int.mul_pos (a:=P) (b:=d) (by omega) bK
  omega
 have c5:0≤a0:=by
  have:=Int.mul_nonneg (a:=P) (b:=t) (by omega) cj
  omega
 refine ⟨?_,?_,?_⟩
 ·apply (Int.le_ediv_iff_mul_le hW).2
  have h1:t / (d+1)*(d+1)≤t:=Int.ediv_mul_le _ (by omega)
  have o:0≤t / (d+1):=Int.ediv_nonneg cj (by omega)
  have af:t / (d+1)*W≤t / (d+1)*(P*(d+1)):=Int.mul_le_mul_of_nonneg_left (by omega) o
  have av:P*(t / (d+1)*(d+1))≤P*t:=Int.mul_le_mul_of_nonneg_left h1 (by omega)
  have aA:t / (d+1)*(P*(d+1))=P*(t / (d+1)*(d+1)):=by grind
  omega
 ·apply (Int.le_ediv_iff_mul_le bK).2
  have h1:a0 / W*W≤a0:=Int.ediv_mul_le _ (by omega)
  have o:0≤a0 / W:=Int.ediv_nonneg c5 (by omega)
  have af:a0 / W*(P*d)≤a0 / W*W:=Int.mul_le_mul_of_nonneg_left uc o
  have av:a0 / W*(P*d)=P*(a0 / W*d):=by grind
  have aA:P*(a0 / W*d)<P*(t+1):=by omega
  have:=Int.lt_of_mul_lt_mul_left aA (by omega)
  omega
 ·have:=Int.ediv_lt_of_lt_mul hW Nn
  omega
theorem RS {a b:Int}:lc a b≤0↔a≤b:=by
 unfold lc
 by_cases h:a<b
 ·simp [h];omega
 ·by_cases o:b<a
  ·simp [h,o]
  ·simp [h,o];omega
theorem tE {a b:Int}:lc a b<0↔a<b:=by
 unfold lc
 by_cases h:a<b
 ·simp [h]
 ·by_cases o:b<a
  ·simp [h,o]
  ·simp [h,o]
theorem Qs {r b:List Int}(ap:fQ r)(aT:fQ b)(ly:b≠[])(a5:r.length≤1000000)(hm:b.length≤1000000){b3 ah:Int}(h0:0≤b3)(h1:b3≤V r / V b)(o:V r / V b≤ah)(af:ah≤999999999):DZ r b b3 ah=some (V r / V b):=by
 have jT:=tM aT ly
 have : ∃q,iter (fun w:Int×Int=>uC r b w.1 w.2) (b3,ah)=some q∧q=V r / V b:=by
  refine jj (eS:=fun w:Int×Int=>0≤w.1∧w.1≤V r / V b∧V r / V b≤w.2∧w.2≤999999999) (m:=fun w:Int×Int=>(w.2-w.1).toNat) _ ?_ _ ⟨h0,h1,o,af⟩
  rintro ⟨l,h⟩ ⟨g0,g1,g2,g3⟩
  simp only at g0 g1 g2 g3
  by_cases d3:l<h
  ·have e1:R ((R ((R (l+h))+(1:Int))).tdiv (2:Int))=(l+h+1) / 2:=by
    rw [cw (x:=l+h) (by omega) (by omega),cw (x:=l+h+1) (by omega) (by omega),nl (by omega),cw (by omega) (by omega)]
   have n4:0≤(l+h+1) / 2:=by omega
   have pB:(l+h+1) / 2<1000000000:=by omega
   have To:(L ((l+h+1) / 2)).length≤1:=(jo n4).2 (by simpa [B] using pB)
   have aD:uC r b l h=some (.inl (if V b*((l+h+1) / 2)≤V r then ((l+h+1) / 2,h) else (l,(l+h+1) / 2-1))):=by
    unfold uC
    rw [if_pos (by simp [d3]),e1,yK n4 (by omega)]
    simp only [Option.bind_eq_bind,Option.bind_some]
    rw [mul_eq aT.1 (hq _) hm (by omega),ex n4]
    simp only [Option.bind_some]
    have ak:0≤V b*((l+h+1) / 2):=Int.mul_nonneg (by omega) n4
    have hlen:(L (V b*((l+h+1) / 2))).length≤b.length+1:=(jo ak).2 (by
     rw [mm]
     have aA:=nz aT.1
     have:V b*((l+h+1) / 2)≤V b*1000000000:=Int.mul_le_mul_of_nonneg_left (by omega) (by omega)
     omega)
    rw [sB (jD _) ap (by omega),ex ak]
    simp only [Option.bind_some]
    by_cases bj:V b*((l+h+1) / 2)≤V r
    ·rw [if_pos (by simpa using RS.2 bj),if_pos bj]
    ·rw [if_neg (fun h=>bj (RS.1 (by simpa using h))),if_neg bj,cw (by omega) (by omega)]
   rw [aD]
   refine .inl ⟨_,rfl,?_⟩
   by_cases bj:V b*((l+h+1) / 2)≤V r
   ·rw [if_pos bj]
    have:(l+h+1) / 2≤V r / V b:=(Int.le_ediv_iff_mul_le jT).2 (by rw [Int.mul_comm];exact bj)
    exact ⟨⟨by simp only;omega,this,g2,g3⟩,by simp only;omega⟩
   ·rw [if_neg bj]
    have:V r / V b<(l+h+1) / 2:=(Int.ediv_lt_iff_lt_mul jT).2 (by rw [Int.mul_comm];omega)
    exact ⟨⟨g0,g1,by simp only;omega,by simp only;omega⟩,by simp only;omega⟩
  ·exact .inr ⟨l,by simp [uC,d3],by omega⟩
 obtain ⟨q,bb,rfl⟩:=this
 exact bb
theorem Fa {b:List Int}(aT:fQ b)(ly:b≠[]): ∃k d,b.length=k+1∧b[k]? = some d∧0<d∧d<1000000000∧V (b.drop k)=d:=by
 have ak:=List.length_pos_iff.mpr ly
 obtain ⟨x,U,h⟩:=Qr ly
 have h1:=h.1 aT
 have o:=h1.1.get U
 exact ⟨b.length-1,x,by omega,U,by omega,o.2,Bl U (by omega)⟩
theorem acD {r b:List Int}(ap:fQ r)(aT:fQ b)(ly:b≠[])(a5:r.length≤1000000)(hm:b.length≤1000000)(h1:V b≤V r)(o:V r<1000000000*V b):AB r b=some (V r / V b):=by
 obtain ⟨k,d,ba,bK,sY,FY,zI⟩:=Fa aT ly
 have Th:b.length≤r.length:=Nat.le_of_not_lt fun h=>by
  have:=EW ap aT h
  omega
 have Ti:r.length≤b.length+1:=ap.len.2 (by
  have:=nz aT.1
  rw [mm]
  omega)
 have tY:=rO aT.1 (k:=k) (by omega)
 rw [zI] at tY
 have ie:=rO ap.1 (k:=k) (by omega)
 have U:=List.getElem?_eq_getElem (show k<r.length by omega)
 have kF:=ap.1.get U
 have hw:R ((b.length:Int)-1)=(k:Int):=by rw [cw (by omega) (by omega)];omega
 have mN:=mV (ap.1.drop k)
 have FZ:=PK (oW k) ie.1 ie.2 tY.1 tY.2 sY mN o
 have ah7:=mV ap.1
 have hW:=tM aT ly
 unfold AB
 simp only [fT,hw]
 rw [if_pos (by omega),Int.toNat_natCast,U]
 simp only [Option.bind_eq_bind,Option.bind_some]
 by_cases hlen:b.length<r.length
 ·have aZ:=List.getElem?_eq_getElem hlen
  have ph:=ap.1.get aZ
  have n6:V (r.drop (k+1))=r[b.length]:=by
   rw [← ba]
   exact Bl aZ (by omega)
  have cj:V (r.drop k)=r[k]+1000000000*r[b.length]:=by rw [oN U,n6]
  rw [cj] at FZ mN
  have l6:0≤(r[k]+1000000000*r[b.length]) / (d+1):=Int.ediv_nonneg mN (by omega)
  have oz:(r[k]+1000000000*r[b.length]) / (d+1)≤r[k]+1000000000*r[b.length]:=Int.ediv_le_self _ mN
  have zh:0≤(r[k]+1000000000*r[b.length]) / d:=Int.ediv_nonneg mN (by omega)
  have afP:(r[k]+1000000000*r[b.length]) / d≤r[k]+1000000000*r[b.length]:=Int.ediv_le_self _ mN
  rw [if_pos (by simp;omega),if_pos (by omega),Int.toNat_natCast,aZ]
  simp only [Option.bind_some]
  rw [if_pos (by omega),bK]
  simp only [Option.bind_some]
  have e1:R (d+1)=d+1:=cw (by omega) (by omega)
  have aD:R (r[k]+R (r[b.length]*1000000000))=r[k]+1000000000*r[b.length]:=by
   rw [cw (x:=r[b.length]*1000000000) (by omega) (by omega),cw (by omega) (by omega),Int.mul_comm]
  rw [e1,if_pos (by omega),if_pos (by omega),aD,nl mN,nl mN,cw (by omega) (by omega),cw (x:=(r[k]+1000000000*r[b.length]) / d) (by omega) (by omega)]
  rw [Qs ap aT ly a5 hm l6 FZ.1 (by split<;>omega) (by split<;>omega)]
  rfl
 ·have cj:V (r.drop k)=r[k]:=Bl U (by omega)
  rw [cj] at FZ mN
  have l6:0≤r[k] / (d+1):=Int.ediv_nonneg mN (by omega)
  have oz:r[k] / (d+1)≤r[k]:=Int.ediv_le_self _ mN
  have zh:0≤r[k] / d:=Int.ediv_nonneg mN (by omega)
  have afP:r[k] / d≤r[k]:=Int.ediv_le_self _ mN
  rw [if_neg (by simp;omega),if_pos (by omega),bK]
  simp only [Option.bind_some]
  have e1:R (d+1)=d+1:=cw (by omega) (by omega)
  rw [e1,if_pos (by omega),if_pos (by omega),nl mN,nl mN,cw (by omega) (by omega),cw (x:=r[k] / d) (by omega) (by omega)]
  rw [Qs ap aT ly a5 hm l6 FZ.1 (by split<;>omega) (by split<;>omega)]
  rfl
theorem acE {a b:List Int}(bJ:fQ a)(aT:fQ b)(ly:b≠[])(a5:a.length≤900000)(hm:b.length≤900000):
 ∃r,KE a b [] ((a.length:Int)-1) (List.replicate a.length 0)=some r∧r.1=L (V a % V b)∧cD r.2∧r.2.length=a.length∧V r.2=V a / V b:=by
 have jT:=tM aT ly
 refine jj (eS:=fun w:List Int×Int×List Int=> ∃(k:Nat) (q:List Int),w.2.1=(k:Int)-1∧k≤a.length∧w.2.2=List.replicate k 0++q∧q.length+k=a.length∧cD q∧fQ w.1∧V w.1<V b∧V (a.drop k)=V q*V b+V w.1) (m:=fun w:List Int×Int×List Int=>(w.2.1+1).toNat) _ ?_ _ ⟨a.length,[],rfl,by omega,by simp,by simp,cD.nil,fQ.nil,by simpa [V] using jT,by simp [V]⟩
 rintro ⟨rest,i,row⟩ ⟨k,q,h1,ba,o,bb,p9,lv,ie,bk⟩
 simp only at h1 o lv ie bk ⊢
 subst h1 o
 have C1:=mV lv.1
 cases k with
 | zero =>
  simp at bk
  refine .inr ⟨(rest,q),by simp [xU],?_,p9,by simpa using bb,?_⟩
  ·refine tP lv ?_
   rw [bk,Int.add_comm,Int.add_mul_emod_self_right]
   exact (Int.emod_eq_of_lt C1 ie).symm
  ·rw [bk,Int.add_comm,Int.add_mul_ediv_right _ _ (by omega),Int.ediv_eq_zero_of_lt C1 ie]
   simp
 | succ k =>
  have U:=List.getElem?_eq_getElem (show k<a.length by omega)
  have kF:=bJ.1.get U
  have s7:rest.length≤b.length:=lv.len.2 (by have:=nz aT.1;omega)
  have iO:cD (a[k]::rest):=cD.cons kF lv.1
  have Nl:V (a[k]::rest)=a[k]+1000000000*V rest:=lp _ _
  have pi:0≤a[k]+1000000000*V rest:=by omega
  have ah8:(L (a[k]+1000000000*V rest)).length≤b.length+1:=(jo pi).2 (by
   have:=nz aT.1
   rw [mm]
   omega)
  have bK:=oN U
  have Mk:xU a b rest (k:Int) (List.replicate (k+1) 0++q)=some (.inl (if a[k]+1000000000*V rest<V b then (L (a[k]+1000000000*V rest),(k:Int)-1,List.replicate (k+1) 0++q) else (L ((a[k]+1000000000*V rest) % V b),(k:Int)-1,(List.replicate (k+1) 0++q).set k ((a[k]+1000000000*V rest) / V b)))):=by
   unfold xU
   rw [if_pos (by simp),if_pos (by omega),Int.toNat_natCast,U]
   simp only [Option.bind_eq_bind,Option.bind_some,List.singleton_append]
   rw [if_pos (by simp;omega),rN iO (by simp;omega),Nl]
   simp only [Option.bind_some]
   rw [sB (jD _) aT (by omega),ex pi]
   simp only [Option.bind_some]
   by_cases bj:a[k]+1000000000*V rest<V b
   ·rw [if_pos (by simpa using tE.2 bj),if_pos bj,qA (by omega)]
   ·rw [if_neg (fun h=>bj (tE.1 (by simpa using h))),if_neg bj]
    have d3:a[k]+1000000000*V rest<1000000000*V b:=by omega
    rw [acD (jD _) aT ly (by omega) (by omega) (by rw [ex pi];omega) (by rw [ex pi];exact d3),ex pi]
    simp only [Option.bind_some]
    have l6:0≤(a[k]+1000000000*V rest) / V b:=Int.ediv_nonneg pi (by omega)
    have oz:(a[k]+1000000000*V rest) / V b<1000000000:=Int.ediv_lt_of_lt_mul jT d3
    have ah9:(L ((a[k]+1000000000*V rest) / V b)).length≤1:=(jo l6).2 (by simpa [B] using oz)
    have pB:=Int.mul_ediv_add_emod (a[k]+1000000000*V rest) (V b)
    have C2:=Int.emod_nonneg (a[k]+1000000000*V rest) (b:=V b) (by omega)
    have C3:0≤V b*((a[k]+1000000000*V rest) / V b):=Int.mul_nonneg (by omega) l6
    rw [if_pos (by simp;omega),if_pos (by simp;omega),yK l6 (by omega)]
    simp only [Option.bind_some]
    rw [mul_eq aT.1 (hq _) (by omega) (by omega),ex l6]
    simp only [Option.bind_some]
    rw [sub_eq (hq _) (hq _) ((jo C3).2 (by
     have:=nz (hq (a[k]+1000000000*V rest))
     rw [ex pi] at this
     omega)) (by rw [ex pi,ex C3];omega) (by omega),ex pi,ex C3]
    simp only [Option.bind_some]
    rw [qA (by omega),Nat.zero_add]
    congr 4
    omega
  rw [show ((k+1:Nat):Int)-1=k by omega,Mk]
  refine .inl ⟨_,rfl,?_⟩
  by_cases bj:a[k]+1000000000*V rest<V b
  ·rw [if_pos bj]
   refine ⟨⟨k,0::q,rfl,by omega,?_,by simp;omega,cD.cons (by omega) p9,jD _,by rw [ex pi];exact bj,?_⟩,by simp⟩
   ·simp only
    rw [List.replicate_succ',List.append_assoc];rfl
   ·simp only
    rw [bK,bk,lp,ex pi]
    grind
  ·rw [if_neg bj]
   have d3:a[k]+1000000000*V rest<1000000000*V b:=by omega
   have C2:=Int.emod_nonneg (a[k]+1000000000*V rest) (b:=V b) (by omega)
   refine ⟨⟨k,(a[k]+1000000000*V rest) / V b::q,rfl,by omega,LP _ _ _,by simp;omega,cD.cons ⟨Int.ediv_nonneg pi (by omega),Int.ediv_lt_of_lt_mul jT d3⟩ p9,jD _,by rw [ex C2];exact Int.emod_lt_of_pos _ jT,?_⟩,by simp⟩
   simp only
   rw [bK,bk,lp,ex C2]
   have pB:=Int.mul_ediv_add_emod (a[k]+1000000000*V rest) (V b)
   generalize (a[k]+1000000000*V rest) / V b=u at *
   generalize (a[k]+1000000000*V rest) % V b=t at *
   grind
theorem div_eq {a b:List Int}(bJ:fQ a)(aT:fQ b)(ly:b≠[])(a5:a.length≤900000)(hm:b.length≤900000):tv a b=some (L (V a / V b),L (V a % V b)):=by
 unfold tv
 simp only [fT]
 by_cases h1:b.length=1
 ·obtain ⟨k,d,ba,bK,sY,FY,zI⟩:=Fa aT ly
  have sX:k=0:=by omega
  subst sX
  have Np:V b=d:=by simpa using zI
  rw [if_pos (by simp [h1]),if_pos (by omega),bK]
  simp only [Option.bind_eq_bind,Option.bind_some]
  have pB:=Int.emod_nonneg (V a) (b:=d) (by omega)
  have C2:=Int.emod_lt_of_pos (V a) sY
  rw [acA bJ.1 ⟨sY,FY⟩ (by omega)]
  simp only [Option.bind_some]
  rw [yK pB (by omega),Np]
  rfl
 ·obtain ⟨r,ap,e1,aD,bP,c4⟩:=acE bJ aT ly a5 hm
  rw [if_neg (by simp;omega),if_pos (by omega),qA (by omega),Int.toNat_natCast,ap]
  simp only [Option.bind_eq_bind,Option.bind_some]
  rw [rN aD (by omega),c4,e1]
  rfl
theorem Rh {x y:Int}(U:0≤x):Int.gcd y (x % y)=Int.gcd x y:=by
 have:=Nat.gcd_rec y.natAbs x.natAbs
 simp only [Int.gcd]
 rw [Nat.gcd_comm x.natAbs,this,Int.natAbs_emod_of_nonneg U,Nat.gcd_comm]
theorem RT {x:Int}(U:0≤x):(Int.gcd x 0:Int)=x:=by
 rw [Int.gcd_zero_right];omega
theorem acF {x y:Int}(U:0≤x)(aZ:0≤y)(C4:x<9223372036854775808)(CZ:y<9223372036854775808):Az x y=some (L (Int.gcd x y)):=by
 have : ∃r,iter (fun w:Int×Int=>xx w.1 w.2) (x,y)=some r∧(r=(Int.gcd x y:Int)∧r<9223372036854775808):=by
  refine jj (eS:=fun w:Int×Int=>0≤w.1∧0≤w.2∧w.1<9223372036854775808∧w.2<9223372036854775808∧Int.gcd w.1 w.2=Int.gcd x y) (m:=fun w:Int×Int=>w.2.toNat) _ ?_ _ ⟨U,aZ,C4,CZ,rfl⟩
  rintro ⟨u,v⟩ ⟨h1,o,af,av,aA⟩
  simp only at h1 o af av aA
  by_cases bk:0<v
  ·have aX:=Int.emod_nonneg u (b:=v) (by omega)
   have bf:=Int.emod_lt_of_pos u bk
   refine .inl ⟨(v,u % v),?_,⟨o,aX,av,by simp only;omega,by rw [← aA];exact Rh h1⟩,by simp only;omega⟩
   unfold xx
   rw [if_pos (by simpa using bk),if_pos (by omega),qd h1]
  ·have TJ:v=0:=by omega
   subst TJ
   refine .inr ⟨u,by simp [xx],?_,af⟩
   rw [← aA,RT h1]
 obtain ⟨r,ap,rfl,h⟩:=this
 unfold Az Ka
 rw [ap]
 simp only [Option.bind_eq_bind,Option.bind_some]
 rw [yK (by omega) h]
 rfl
theorem Fb {a:List Int}(bJ:fQ a)(h:a.length<3):V a<9223372036854775808:=by
 have h1:=nz bJ.1
 have o:=q5 (m:=a.length) (n:=2) (by omega)
 have af:B 2=1000000000000000000:=by decide
 omega
theorem Sm {a b:List Int}(bJ:fQ a)(aT:fQ b)(a5:a.length≤900000)(hm:b.length≤900000):yu a b=some (L (Int.gcd (V a) (V b))):=by
 have : ∃r,iter (fun w:List Int×List Int=>uH w.1 w.2) (a,b)=some r∧r.elim id id=L (Int.gcd (V a) (V b)):=by
  refine jj (eS:=fun w:List Int×List Int=>fQ w.1∧fQ w.2∧w.1.length≤900000∧w.2.length≤900000∧Int.gcd (V w.1) (V w.2)=Int.gcd (V a) (V b)) (m:=fun w:List Int×List Int=>(V w.2).toNat) _ ?_ _ ⟨bJ,aT,a5,hm,rfl⟩
  rintro ⟨x,y⟩ ⟨h1,o,af,av,aA⟩
  simp only at h1 o af av aA ⊢
  have kF:=mV h1.1
  have ph:=mV o.1
  by_cases aZ:y=[]
  ·subst aZ
   refine .inr ⟨.inl x,by simp [uH,fT],?_⟩
   rw [← aA,BU,RT kF]
   exact (FP h1).symm
  ·have afQ:=tM o aZ
   have aia:=List.length_pos_iff.mpr aZ
   by_cases b6:x.length<3∧y.length<3
   ·refine .inr ⟨.inr (L (Int.gcd (V a) (V b))),?_,rfl⟩
    unfold uH
    simp only [fT]
    rw [if_pos (by simp;omega),if_pos (by simp;omega),if_pos (by simp;omega),P1 h1 (by omega) (Fb h1 b6.1)]
    simp only [Option.bind_eq_bind,Option.bind_some]
    rw [P1 o (by omega) (Fb o b6.2)]
    simp only [Option.bind_some]
    rw [acF kF ph (Fb h1 b6.1) (Fb o b6.2),aA]
    rfl
   ·have F0:=Int.emod_nonneg (V x) (b:=V y) (by omega)
    have aib:=Int.emod_lt_of_pos (V x) afQ
    refine .inl ⟨(y,L (V x % V y)),?_,⟨o,jD _,av,(jo F0).2 ?_,?_⟩,?_⟩
    ·unfold uH
     simp only [fT]
     rw [if_pos (by simp;omega),div_eq h1 o aZ af av]
     by_cases wj:x.length<3
     ·rw [if_pos (by simp;omega),if_neg (by simp;omega)]
      rfl
     ·rw [if_neg (by simp;omega)]
      rfl
    ·have:=nz o.1
     have:=q5 av
     omega
    ·simp only
     rw [ex F0,← aA]
     exact Rh kF
    ·simp only
     rw [ex F0]
     omega
 obtain ⟨r,ap,h⟩:=this
 unfold yu KF
 rw [List.nil_append,List.nil_append,if_pos (by omega),if_pos (by omega),ap]
 cases r with
 | inl r=>exact congrArg some h
 | inr r=>exact congrArg some h
def pa (p:Nat)(l:List Int):Prop:= ∀i z,i≠p→l[i]? = some z→0≤z∧z<1000000000
theorem pa.set {p:Nat}{l:List Int}(h:pa p l){k:Nat}{x:Int}(U:0≤x∧x<1000000000):pa p (l.set k x):=fun i z ah cF=>by
 by_cases ba:k=i
 ·subst ba
  rw [List.getElem?_set] at cF
  simp only [if_true] at cF
  split at cF
  ·rw [← Option.some.inj cF];exact U
  ·simp at cF
 ·rw [List.getElem?_set_ne ba] at cF
  exact h i z ah cF
theorem pa.S5 {p:Nat}{l:List Int}(h:pa p l){x:Int}:pa p (l.set p x):=fun i z ah cF=>by
 rw [List.getElem?_set_ne (fun h=>ah h.symm)] at cF
 exact h i z ah cF
theorem cD.toE {l:List Int}(h:cD l)(p:Nat):pa p l:=fun _ _ _ cF=>h.get cF
theorem abE {v row:List Int}{b3 m3 i:Nat}{jg carry x y:Int}(U:v[i]? = some x)(aZ:row[b3+i]? = some y)(kF:0≤x∧x<1000000000)(ph:0≤y∧y<1000000000)(aT:0≤jg∧jg<1000000000)(bj:0≤carry∧carry<1000000000)(hu:i<m3)(a5:row.length≤5000000):
 ∃c z,uI b3 m3 v jg v.length carry i row=some (.inl (c,((i+1:Nat):Int),row.set (b3+i) z))∧0≤c∧c<1000000000∧0≤z∧z<1000000000∧z-1000000000*c=y-jg*x-carry:=by
 have ah:=gb U
 have aE:=gb aZ
 obtain ⟨ix,hx⟩:=BJ aT kF
 have e:R (R (y-R (jg*x))-carry)=y-jg*x-carry:=by
  rw [cw (x:=jg*x) (by omega) (by omega),cw (x:=y-jg*x) (by omega) (by omega),cw (by omega) (by omega)]
 by_cases cj:y-jg*x-carry<0
 ·refine ⟨(999999999-(y-jg*x-carry)) / 1000000000,y-jg*x-carry+(999999999-(y-jg*x-carry)) / 1000000000*1000000000,?_,by omega,by omega,by omega,by omega,by omega⟩
  unfold uI
  rw [if_pos (by simp;omega),if_pos (by omega),Int.toNat_natCast,U]
  simp only [Option.bind_eq_bind,Option.bind_some]
  rw [if_pos (by omega),aZ]
  simp only [Option.bind_some,e]
  rw [if_pos (by simpa using cj),if_pos (by omega),nU (n:=i) (by omega),cw (x:=999999999-(y-jg*x-carry)) (by omega) (by omega),nl (by omega),cw (x:=(999999999-(y-jg*x-carry)) / 1000000000) (by omega) (by omega),cw (x:=(999999999-(y-jg*x-carry)) / 1000000000*1000000000) (by omega) (by omega),cw (by omega) (by omega)]
 ·refine ⟨0,y-jg*x-carry,?_,by omega,by omega,by omega,by omega,by omega⟩
  unfold uI
  rw [if_pos (by simp;omega),if_pos (by omega),Int.toNat_natCast,U]
  simp only [Option.bind_eq_bind,Option.bind_some]
  rw [if_pos (by omega),aZ]
  simp only [Option.bind_some,e]
  rw [if_neg (by simpa using cj),if_pos (by omega),nU (n:=i) (by omega)]
theorem abF {v row:List Int}{b3 m3:Nat}{jg:Int}(bk:cD v)(ap:cD row)(aT:0≤jg∧jg<1000000000)(hu:v.length<m3)(aU:b3+v.length<row.length)(a5:row.length≤5000000):
 ∃r,KI b3 m3 v jg v.length 0 0 row=some r∧0≤r.1∧r.1<1000000000∧cD r.2∧r.2.length=row.length∧V r.2=V row-jg*B b3*V v+r.1*B (b3+v.length)∧ ∀i,i<b3∨b3+v.length≤i→r.2[i]? = row[i]? := by
 refine jj (eS:=fun w:Int×Int×List Int=> ∃(i:Nat),w.2.1=(i:Int)∧i≤v.length∧0≤w.1∧w.1<1000000000∧cD w.2.2∧w.2.2.length=row.length∧V w.2.2=V row-jg*B b3*V (v.take i)+w.1*B (b3+i)∧ ∀i,i<b3∨b3+v.length≤i→w.2.2[i]? = row[i]?) (m:=fun w:Int×Int×List Int=>v.length-w.2.1.toNat) _ ?_ _ ⟨0,rfl,by omega,by simp,by simp,ap,rfl,by simp [V],fun _ _=>rfl⟩
 rintro ⟨carry,ii,er⟩ ⟨i,h1,ah,mI,na,kt,hlen,hV,lr⟩
 simp only at h1 mI na kt hlen hV lr ⊢
 subst h1
 by_cases Nq:i=v.length
 ·subst Nq
  exact .inr ⟨(carry,er),by simp [uI],mI,na,kt,hlen,by simpa using hV,lr⟩
 ·have U:=List.getElem?_eq_getElem (show i<v.length by omega)
  have aZ:=List.getElem?_eq_getElem (show b3+i<er.length by omega)
  obtain ⟨c,z,he,cJ,bp,fg,Dm,cF⟩:=abE (m3:=m3) U aZ (bk.get U) (kt.get aZ) aT ⟨mI,na⟩ (by omega) (by omega)
  rw [he]
  refine .inl ⟨_,rfl,⟨i+1,rfl,by omega,cJ,bp,kt.set ⟨fg,Dm⟩,by simpa using hlen,?_,fun k ba=> ?_⟩,by simp;omega⟩
  ·simp only
   rw [rW aZ,sx U,hV,← Nat.add_assoc,mm,BT]
   have vS:z=er[b3+i]-jg*v[i]-carry+1000000000*c:=by omega
   rw [vS]
   grind
  ·simp only
   rw [List.getElem?_set_ne (by omega)]
   exact lr k ba
theorem adS {v row:List Int}{b3 m3:Nat}{jg:Int}(bk:cD v)(ap:cD row)(aT:0≤jg∧jg<1000000000)(hu:v.length<m3)(aU:b3+v.length<row.length)(a5:row.length≤5000000):
 ∃y dR,A4 v jg b3 m3 row=some (decide (y<0),dR)∧dR.length=row.length∧pa (b3+v.length) dR∧dR[b3+v.length]? = some y∧ -1000000000<y∧y<1000000000∧V dR=V row-jg*B b3*V v∧ ∀i,i<b3∨b3+v.length<i→dR[i]? = row[i]? := by
 obtain ⟨r,ie,cJ,bp,kt,hlen,hV,lr⟩:=abF bk ap aT hu aU a5
 have U:=List.getElem?_eq_getElem (show b3+v.length<r.2.length by omega)
 have kF:=kt.get U
 refine ⟨r.2[b3+v.length]-r.1,r.2.set (b3+v.length) (r.2[b3+v.length]-r.1),?_,by simpa using hlen,(cD.toE kt _).S5,?_,by omega,by omega,?_,fun i ah=> ?_⟩
 ·unfold A4
  simp only [fT]
  rw [ie]
  simp only [Option.bind_eq_bind,Option.bind_some,Int.toNat_natCast]
  rw [if_pos (by omega),U]
  simp only [Option.bind_some]
  rw [if_pos (by omega),cw (by omega) (by omega),List.getElem?_set,if_pos rfl,if_pos (by omega)]
  rfl
 ·rw [List.getElem?_set,if_pos rfl,if_pos (by omega)]
 ·rw [rW U,hV]
  grind
 ·rw [List.getElem?_set_ne (by omega)]
  exact lr i (by omega)
theorem abG {v row:List Int}{b3 m3:Nat}(bk:cD v)(ap:pa (b3+v.length) row)(hu:v.length<m3)(aU:b3+v.length<row.length)(a5:row.length≤5000000):
 ∃r,KJ b3 m3 v v.length 0 0 row=some r∧0≤r.1∧r.1≤1∧pa (b3+v.length) r.2∧r.2.length=row.length∧V r.2=V row+B b3*V v-r.1*B (b3+v.length)∧ ∀i,i<b3∨b3+v.length≤i→r.2[i]? = row[i]? := by
 refine jj (eS:=fun w:Int×Int×List Int=> ∃(i:Nat),w.2.1=(i:Int)∧i≤v.length∧0≤w.1∧w.1≤1∧pa (b3+v.length) w.2.2∧w.2.2.length=row.length∧V w.2.2=V row+B b3*V (v.take i)-w.1*B (b3+i)∧ ∀i,i<b3∨b3+v.length≤i→w.2.2[i]? = row[i]?) (m:=fun w:Int×Int×List Int=>v.length-w.2.1.toNat) _ ?_ _ ⟨0,rfl,by omega,by simp,by simp,ap,rfl,by simp [V],fun _ _=>rfl⟩
 rintro ⟨carry,ii,er⟩ ⟨i,h1,ah,mI,na,kt,hlen,hV,lr⟩
 simp only at h1 mI na kt hlen hV lr ⊢
 subst h1
 by_cases Nq:i=v.length
 ·subst Nq
  exact .inr ⟨(carry,er),by simp [xY],mI,na,kt,hlen,by simpa using hV,lr⟩
 ·have U:=List.getElem?_eq_getElem (show i<v.length by omega)
  have aZ:=List.getElem?_eq_getElem (show b3+i<er.length by omega)
  have kF:=bk.get U
  have ph:=kt _ _ (by omega) aZ
  have he:xY b3 m3 v v.length carry i er=some (.inl ((er[b3+i]+v[i]+carry) / 1000000000,((i+1:Nat):Int),er.set (b3+i) ((er[b3+i]+v[i]+carry) % 1000000000))):=by
   unfold xY
   rw [if_pos (by simp;omega),if_pos (by omega),Int.toNat_natCast,U]
   simp only [Option.bind_eq_bind,Option.bind_some]
   rw [if_pos (by omega),aZ]
   simp only [Option.bind_some]
   rw [if_pos (by omega),cw (x:=er[b3+i]+v[i]) (by omega) (by omega),cw (x:=er[b3+i]+v[i]+carry) (by omega) (by omega),qd (by omega),nl (by omega),cw (by omega) (by omega),nU (n:=i) (by omega)]
  rw [he]
  refine .inl ⟨_,rfl,⟨i+1,rfl,by omega,by simp only;omega,by simp only;omega,kt.set (by omega),by simpa using hlen,?_,fun k ba=> ?_⟩,by simp;omega⟩
  ·simp only
   rw [rW aZ,sx U,hV,← Nat.add_assoc,mm,BT]
   have:=Int.mul_ediv_add_emod (er[b3+i]+v[i]+carry) 1000000000
   generalize (er[b3+i]+v[i]+carry) / 1000000000=q at *
   generalize (er[b3+i]+v[i]+carry) % 1000000000=t at *
   have vS:t=er[b3+i]+v[i]+carry-1000000000*q:=by omega
   rw [vS]
   grind
  ·simp only
   rw [List.getElem?_set_ne (by omega)]
   exact lr k ba
theorem adT {v row:List Int}{b3 m3:Nat}{y:Int}(bk:cD v)(ap:pa (b3+v.length) row)(hu:v.length<m3)(aU:b3+v.length<row.length)(a5:row.length≤5000000)(aZ:row[b3+v.length]? = some y)(ph:-1000000000<y)(CZ:y<1000000000):
 ∃mc dR,yv v b3 m3 row=some dR∧dR.length=row.length∧pa (b3+v.length) dR∧dR[b3+v.length]? = some mc∧V dR=V row+B b3*V v∧ ∀i,i<b3∨b3+v.length<i→dR[i]? = row[i]? := by
 obtain ⟨r,ie,cJ,bp,kt,hlen,hV,lr⟩:=abG bk ap hu aU a5
 have U:r.2[b3+v.length]? = some y:=by rw [lr _ (by omega)];exact aZ
 refine ⟨y+r.1,r.2.set (b3+v.length) (y+r.1),?_,by simpa using hlen,kt.S5,?_,?_,fun i ah=> ?_⟩
 ·unfold yv
  simp only [fT]
  rw [ie]
  simp only [Option.bind_eq_bind,Option.bind_some,Int.toNat_natCast]
  rw [if_pos (by omega),U]
  simp only [Option.bind_some]
  rw [if_pos (by omega),cw (by omega) (by omega)]
 ·rw [List.getElem?_set,if_pos rfl,if_pos (by omega)]
 ·rw [rW U,hV]
  grind
 ·rw [List.getElem?_set_ne (by omega)]
  exact lr i (by omega)
theorem acG {g q v1 v2 top gZ rest a0 W P:Int}(hy:1≤P)(dF:0≤g)(cj:g*v1+rest=top)(uc:P*(v1*1000000000+v2)≤W)(Nm:a0<P*(top*1000000000+gZ+1))(TO:q*W≤a0)(hW:0≤W)(h:rest*1000000000+gZ<g*v2):q<g:=by
 apply Int.not_le.mp
 intro ud
 have h1:g*W≤q*W:=Int.mul_le_mul_of_nonneg_right ud hW
 have o:g*(P*(v1*1000000000+v2))≤g*W:=Int.mul_le_mul_of_nonneg_left uc dF
 have af:g*(P*(v1*1000000000+v2))=P*(g*(v1*1000000000+v2)):=by grind
 have av:P*(g*(v1*1000000000+v2))<P*(top*1000000000+gZ+1):=by omega
 have aA:=Int.lt_of_mul_lt_mul_left av (by omega)
 have aX:g*(v1*1000000000+v2)=1000000000*(g*v1)+g*v2:=by grind
 omega
theorem QO {g v1 v2 top gZ rest a0 W P:Int}(hy:1≤P)(dF:0≤g)(ue:g≤999999999)(s8:1≤v1)(C5:0≤v2)(cj:g*v1+rest=top)(uc:P*(v1*1000000000+v2)≤W)(FX:W<P*(v1*1000000000+v2+1))(FW:P*(top*1000000000+gZ)≤a0)(h:g*v2≤rest*1000000000+gZ):g≤a0 / W+1:=by
 have C6:P*1000000000≤W:=by
  have h1:P*1000000000≤P*(v1*1000000000+v2):=Int.mul_le_mul_of_nonneg_left (by omega) (by omega)
  omega
 have h1:g*W≤g*(P*(v1*1000000000+v2+1)):=Int.mul_le_mul_of_nonneg_left (by omega) dF
 have o:g*(P*(v1*1000000000+v2+1))=P*(1000000000*(g*v1)+g*v2+g):=by grind
 have af:P*(1000000000*(g*v1)+g*v2+g)≤P*(top*1000000000+gZ+999999999):=Int.mul_le_mul_of_nonneg_left (by omega) (by omega)
 have av:P*(top*1000000000+gZ+999999999)=P*(top*1000000000+gZ)+P*999999999:=by grind
 have aA:(g-1)*W=g*W-W:=by grind
 have:g-1≤a0 / W:=(Int.le_ediv_iff_mul_le (by omega)).2 (by omega)
 omega
theorem aaY {ab u iU al:List Int}{N n j:Nat}{v1 v2 gZ top a0 W P:Int}(a5:2≤n)(FD:n≤5000000)(C7:j+n<N)(f5:N≤5000000)(h1:iU[n-1]? = some v1)(o:iU[n-2]? = some v2)(af:u[j+n-2]? = some gZ)
 (s8:1≤v1∧v1<1000000000) (C5:0≤v2∧v2<1000000000) (aic:0≤gZ∧gZ<1000000000) (hy:1≤P) (uc:P*(v1*1000000000+v2)≤W) (FX:W<P*(v1*1000000000+v2+1)) (FW:P*(top*1000000000+gZ)≤a0) (Nm:a0<P*(top*1000000000+gZ+1)) (c5:0≤a0) (Nn:a0<1000000000*W) (mN:0≤top) (aid:top≤v1*1000000000+999999999) (bb:a0 / W≤top / v1) :
 ∃g,KZ N n n j ab u iU al (top / v1) (top % v1)=some g∧(a0 / W=g∨a0 / W+1=g)∧0≤g∧g≤999999999:=by
 have C6:0<W:=by
  have h1:P*1000000000≤P*(v1*1000000000+v2):=Int.mul_le_mul_of_nonneg_left (by omega) (by omega)
  omega
 have l6:0≤a0 / W:=Int.ediv_nonneg c5 (by omega)
 have oz:a0 / W<1000000000:=Int.ediv_lt_of_lt_mul C6 Nn
 have TO:a0 / W*W≤a0:=Int.ediv_mul_le _ (by omega)
 have afS:=Int.mul_ediv_add_emod top v1
 have n4:=Int.emod_nonneg top (b:=v1) (by omega)
 have pB:=Int.emod_lt_of_pos top (b:=v1) (by omega)
 have MA:R ((n:Int)-1)=((n-1:Nat):Int):=by rw [cw (by omega) (by omega)];omega
 have aeO:R ((n:Int)-2)=((n-2:Nat):Int):=by rw [cw (by omega) (by omega)];omega
 have aeP:R (R ((j:Int)+(n:Int))-2)=((j+n-2:Nat):Int):=by rw [cw (x:=(j:Int)+n) (by omega) (by omega),cw (by omega) (by omega)];omega
 have Fv:top / v1≤top:=Int.ediv_le_self _ mN
 refine jj (eS:=fun w:Int×Int=>w.1*v1+w.2=top∧0≤w.2∧w.2<1000000000∧a0 / W≤w.1∧w.1≤top) (m:=fun w:Int×Int=>w.1.toNat) _ ?_ _ ⟨by rw [Int.mul_comm];exact afS,n4,by simp only;omega,bb,Fv⟩
 rintro ⟨g,rest⟩ ⟨i1,pE,NS,Dg,agB⟩
 simp only at i1 pE NS Dg agB ⊢
 have Nr:R (rest+v1)=rest+v1:=cw (by omega) (by omega)
 have Ns:R (g-1)=g-1:=cw (by omega) (by omega)
 have ue:(g-1)*v1+(rest+v1)=top:=by grind
 have Sn:a0 / W≤g-1→1000000000≤rest+v1→(a0 / W=g-1∨a0 / W+1=g-1)∧0≤g-1∧g-1≤999999999:=by
  intro lk kx
  have oJ:(g-1)*v1<1000000000*v1:=by omega
  have NU:g-1<1000000000:=Int.lt_of_mul_lt_mul_right oJ (by omega)
  have Ut:0≤g-1:=by omega
  have aiJ:=(BJ ⟨Ut,NU⟩ C5).2
  have:=QO hy Ut (by omega) s8.1 C5.1 ue uc FX FW (by omega)
  omega
 by_cases MB:1000000000≤g
 ·by_cases aT:1000000000≤rest+v1
  ·refine .inr ⟨g-1,?_,Sn (by omega) aT⟩
   unfold uL
   rw [if_pos (by simpa using MB),MA,if_pos (by omega),Nat.zero_add,Int.toNat_natCast,h1]
   simp only [Option.bind_eq_bind,Option.bind_some,Nr,Ns]
   rw [if_pos (by simpa using aT)]
  ·refine .inl ⟨(g-1,rest+v1),?_,⟨ue,by simp only;omega,by simp only;omega,by simp only;omega,by simp only;omega⟩,by simp only;omega⟩
   unfold uL
   rw [if_pos (by simpa using MB),MA,if_pos (by omega),Nat.zero_add,Int.toNat_natCast,h1]
   simp only [Option.bind_eq_bind,Option.bind_some,Nr,Ns]
   rw [if_neg (by simpa using aT)]
 ·have ju:0≤g:=by omega
  obtain ⟨ix,hx⟩:=BJ ⟨ju,by omega⟩ C5
  have e1:R (R (rest*1000000000)+gZ)=rest*1000000000+gZ:=by rw [cw (x:=rest*1000000000) (by omega) (by omega),cw (by omega) (by omega)]
  have aD:R (g*v2)=g*v2:=cw (by omega) (by omega)
  have Mk:uL N n n j ab u iU al g rest=some (if rest*1000000000+gZ<g*v2 then (if 1000000000≤rest+v1 then .inr (g-1) else .inl (g-1,rest+v1)) else .inr g):=by
   unfold uL
   rw [if_neg (by simpa using MB),aeO,if_pos (by omega),Nat.zero_add,Int.toNat_natCast,o]
   simp only [Option.bind_eq_bind,Option.bind_some]
   rw [aeP,if_pos (by omega),Nat.zero_add,Int.toNat_natCast,af]
   simp only [Option.bind_some,e1,aD]
   by_cases bj:rest*1000000000+gZ<g*v2
   ·rw [if_pos (by simpa using bj),if_pos bj,MA,if_pos (by omega),Nat.zero_add,Int.toNat_natCast,h1]
    simp only [Option.bind_some,Nr,Ns]
    by_cases aT:1000000000≤rest+v1
    ·rw [if_pos (by simpa using aT),if_pos aT]
    ·rw [if_neg (by simpa using aT),if_neg aT]
   ·rw [if_neg (by simpa using bj),if_neg bj]
  rw [Mk]
  by_cases bj:rest*1000000000+gZ<g*v2
  ·have aie:=acG hy ju i1 uc Nm TO (by omega) bj
   rw [if_pos bj]
   by_cases aT:1000000000≤rest+v1
   ·rw [if_pos aT]
    exact .inr ⟨g-1,rfl,Sn (by omega) aT⟩
   ·rw [if_neg aT]
    exact .inl ⟨(g-1,rest+v1),rfl,⟨ue,by simp only;omega,by simp only;omega,by simp only;omega,by simp only;omega⟩,by simp only;omega⟩
  ·rw [if_neg bj]
   have:=QO hy ju (by omega) s8.1 C5.1 i1 uc FX FW (by omega)
   exact .inr ⟨g,rfl,by omega,by omega,by omega⟩
theorem abH {a b:List Int}{k:Nat}(h:∀i,k≤i→a[i]? = b[i]?):a.drop k=b.drop k:=by
 apply List.ext_getElem?
 intro i
 rw [List.getElem?_drop,List.getElem?_drop]
 exact h _ (by omega)
theorem abI {a b:List Int}{k:Nat}(h:∀i,i<k→a[i]? = b[i]?):a.take k=b.take k:=by
 apply List.ext_getElem?
 intro i
 rw [List.getElem?_take,List.getElem?_take]
 by_cases ah:i<k
 ·rw [if_pos ah,if_pos ah];exact h i ah
 ·rw [if_neg ah,if_neg ah]
theorem TP {u w:List Int}{j n:Nat}{y c:Int}(hlen:w.length=u.length)(C7:j+n<u.length)(ez:pa (j+n) w)(aZ:w[j+n]? = some y)(lr:∀i,i<j∨j+n<i→w[i]? = u[i]?)(h0:V (u.drop (j+n+1))=0)(hV:V w=V u-c*B j):
 V (w.drop j)=V (u.drop j)-c∧ ∃low,0≤low∧low<B n∧V (w.drop j)=low+B n*y:=by
 have h1:=vq (l:=u) (n:=j) (by omega)
 have o:=vq (l:=w) (n:=j) (by omega)
 rw [abI (a:=w) (b:=u) (fun i ah=>lr i (.inl ah))] at o
 have af:B j*V (w.drop j)=B j*(V (u.drop j)-c):=by grind
 have gU:=oW j
 have av:V (w.drop j)=V (u.drop j)-c:=Int.eq_of_mul_eq_mul_left (by omega) af
 refine ⟨av,V ((w.drop j).take n),?_,?_,?_⟩
 ·refine mV (fun x U=> ?_)
  obtain ⟨i,ah⟩:=List.mem_iff_getElem?.mp U
  have l7:=gb ah
  simp at l7
  rw [List.getElem?_take,if_pos (by omega),List.getElem?_drop] at ah
  exact ez _ _ (by omega) ah
 ·have aU:cD ((w.drop j).take n):=fun x U=>by
   obtain ⟨i,ah⟩:=List.mem_iff_getElem?.mp U
   have l7:=gb ah
   simp at l7
   rw [List.getElem?_take,if_pos (by omega),List.getElem?_drop] at ah
   exact ez _ _ (by omega) ah
  have:=nz aU
  rwa [List.length_take,Nat.min_eq_left (by simp;omega)] at this
 ·have aA:=vq (l:=w.drop j) (n:=n) (by simp;omega)
  rw [List.drop_drop,oN aZ,abH (a:=w) (b:=u) (k:=j+n+1) (fun i ah=>lr i (.inr (by omega))),h0] at aA
  rw [aA]
  grind
theorem QP {w:List Int}{p:Nat}(ez:pa p w)(aZ:w[p]? = some 0):cD w:=fun x U=>by
 obtain ⟨i,ah⟩:=List.mem_iff_getElem?.mp U
 by_cases h:i=p
 ·subst h
  rw [aZ] at ah
  have:=Option.some.inj ah
  omega
 ·exact ez i x h ah
theorem Ri {low y X wH W:Int}(h0:0≤low)(h1:low<wH)(Gg:X=low+wH*y)(o:0≤X)(af:X<W)(av:W≤wH):y=0:=by
 have d3:wH*y<wH*1:=by omega
 have aA:=Int.lt_of_mul_lt_mul_left d3 (by omega)
 have FK:wH*(-1)<wH*y:=by omega
 have aX:=Int.lt_of_mul_lt_mul_left FK (by omega)
 omega
theorem abJ {ab u iU al:List Int}{n j:Nat}{v1 W:Int}(a5:2≤n)(Nt:n≤iU.length)(bk:cD (iU.take n))(hW:V (iU.take n)=W)(s8:iU[n-1]? = some v1)(MC:1≤v1)(hu:cD u)(wk:u.length≤5000000)(C7:j+n<u.length)(d3:V (u.drop (j+1))<W)(aif:j<al.length):
 ∃qc,uM u.length n n ab iU j u al=some (.inl ((j:Int)-1,qc,al.set j (V (u.drop j) / W)))∧cD qc∧qc.length=u.length∧V qc=V u-(V (u.drop j) / W)*B j*W∧V (qc.drop j)<W∧0≤V (u.drop j) / W∧V (u.drop j) / W<1000000000:=by
 obtain ⟨n,rfl⟩ : ∃m,n=m+2:=⟨n-2,by omega⟩
 have pV:(iU.take (n+2)).length=n+2:=by simp;omega
 have ue:(iU.take (n+2))[n+1]? = some v1:=by rw [List.getElem?_take,if_pos (by omega)];exact s8
 have TQ:=List.getElem?_eq_getElem (show n<iU.length by omega)
 have S6:(iU.take (n+2))[n]? = some iU[n]:=by rw [List.getElem?_take,if_pos (by omega)];exact TQ
 have aeQ:=bk.get ue
 have aeR:=bk.get S6
 have kF:=List.getElem?_eq_getElem (show j+(n+2)<u.length by omega)
 have C4:=List.getElem?_eq_getElem (show j+(n+1)<u.length by omega)
 have CE:=List.getElem?_eq_getElem (show j+n<u.length by omega)
 have TR:=List.getElem?_eq_getElem (show j<u.length by omega)
 have ly:=hu.get kF
 have tY:=hu.get C4
 have MX:=hu.get CE
 have aih:=hu.get TR
 have C8:=rO bk (k:=n+1) (by omega)
 rw [Bl ue (by omega),hW] at C8
 have Nu:=rO bk (k:=n) (by omega)
 rw [oN S6,Bl ue (by omega),hW] at Nu
 have MD:=nz bk
 rw [pV,hW] at MD
 have aii:0≤W:=by rw [← hW];exact mV bk
 have cF:=rO (hu.drop (j+1)) (k:=n+2) (by simp;omega)
 rw [List.drop_drop] at cF
 have afT:=mV (hu.drop (j+1+(n+2)))
 have aij:=oW (n+2)
 have h0:V (u.drop (j+(n+2)+1))=0:=by
  rw [show j+(n+2)+1=j+1+(n+2) by omega]
  apply Int.le_antisymm _ afT
  apply Int.not_lt.mp
  intro h
  have:B (n+2)*1≤B (n+2)*V (u.drop (j+1+(n+2))):=Int.mul_le_mul_of_nonneg_left (by omega) (by omega)
  omega
 have mN:V (u.drop (j+(n+2)))=u[j+(n+2)]:=by rw [oN kF,h0];omega
 have Fv:V (u.drop (j+(n+1)))=u[j+(n+1)]+1000000000*u[j+(n+2)]:=by rw [oN C4,show j+(n+1)+1=j+(n+2) by omega,mN]
 have iy:V (u.drop (j+n))=u[j+n]+1000000000*(u[j+(n+1)]+1000000000*u[j+(n+2)]):=by rw [oN CE,show j+n+1=j+(n+1) by omega,Fv]
 have ie:=rO (hu.drop j) (k:=n+1) (by simp;omega)
 rw [List.drop_drop,Fv] at ie
 have wm:=rO (hu.drop j) (k:=n) (by simp;omega)
 rw [List.drop_drop,iy] at wm
 have pi:=mV (hu.drop j)
 have c5:V (u.drop j)<1000000000*W:=by rw [oN TR];omega
 have afU:=oW n
 have aeS:=oW (n+1)
 have vR:u[j+(n+2)]≤v1:=by
  have h1:=rO (hu.drop (j+1)) (k:=n+1) (by simp;omega)
  rw [List.drop_drop,show j+1+(n+1)=j+(n+2) by omega,mN] at h1
  have o:B (n+1)*u[j+(n+2)]<B (n+1)*(v1+1):=by omega
  have:=Int.lt_of_mul_lt_mul_left o (by omega)
  omega
 have aeT:=PK aeS ie.1 ie.2 C8.1 C8.2 (by omega) (by omega) c5
 obtain ⟨g,dF,ud,afV,aik⟩:=aaY (ab:=ab) (al:=al) (N:=u.length) (n:=n+2) (j:=j) (v1:=v1) (v2:=iU[n]) (gZ:=u[j+n]) (top:=u[j+(n+1)]+1000000000*u[j+(n+2)]) (a0:=V (u.drop j)) (W:=W) (P:=B n) (u:=u) (iU:=iU) (by omega) (by omega) C7 wk s8 TQ CE ⟨MC,aeQ.2⟩ aeR MX afU
  (by rw [Int.mul_comm v1,Int.add_comm];exact Nu.1) (by rw [Int.mul_comm v1,Int.add_comm (1000000000*v1)];exact Nu.2)
  (by rw [Int.mul_comm (u[j+(n+1)]+_),Int.add_comm];exact wm.1) (by rw [Int.mul_comm (u[j+(n+1)]+_),Int.add_comm (1000000000*_) u[j+n]];exact wm.2) pi c5 (by omega) (by omega) aeT.2.1
 have C6:0<W:=by
  have:B (n+1)*1≤B (n+1)*v1:=Int.mul_le_mul_of_nonneg_left (by omega) (by omega)
  omega
 have l6:0≤V (u.drop j) / W:=Int.ediv_nonneg pi (by omega)
 have oz:V (u.drop j) / W<1000000000:=Int.ediv_lt_of_lt_mul C6 c5
 have hm:=Int.mul_ediv_add_emod (V (u.drop j)) W
 have n4:=Int.emod_nonneg (V (u.drop j)) (b:=W) (by omega)
 have pB:=Int.emod_lt_of_pos (V (u.drop j)) C6
 obtain ⟨y,w,cj,TS,F1,F2,ph,CZ,F3,L4⟩:=adS (v:=iU.take (n+2)) (row:=u) (b3:=j) (m3:=u.length-j) (jg:=g) bk hu ⟨afV,by omega⟩ (by omega) (by omega) wk
 rw [pV] at F1 F2 L4
 rw [hW] at F3
 obtain ⟨wj,low,nF,F4,sW⟩:=TP (c:=g*W) TS C7 F1 F2 L4 h0 (by rw [F3];grind)
 have afW:R ((j:Int)-1)=(j:Int)-1:=qA (by omega)
 have e1:R ((j:Int)+((n+2:Nat):Int))=((j+(n+2):Nat):Int):=by rw [cw (by omega) (by omega)];omega
 have aD:R (((j+(n+2):Nat):Int)-1)=((j+(n+1):Nat):Int):=by rw [cw (by omega) (by omega)];omega
 have bP:R (((n+2:Nat):Int)-1)=((n+1:Nat):Int):=by rw [cw (by omega) (by omega)];omega
 have c4:R (R (u[j+(n+2)]*1000000000)+u[j+(n+1)])=u[j+(n+1)]+1000000000*u[j+(n+2)]:=by
  rw [cw (x:=u[j+(n+2)]*1000000000) (by omega) (by omega),cw (by omega) (by omega)];omega
 have dh:0≤u[j+(n+1)]+1000000000*u[j+(n+2)]:=by omega
 have dW:(u[j+(n+1)]+1000000000*u[j+(n+2)]) / v1≤u[j+(n+1)]+1000000000*u[j+(n+2)]:=Int.ediv_le_self _ dh
 have eP:0≤(u[j+(n+1)]+1000000000*u[j+(n+2)]) / v1:=Int.ediv_nonneg dh (by omega)
 have aeU:iU[n+1]? = some v1:=s8
 have pre:uM u.length (n+2) ((n+2:Nat):Int) ab iU j u al =
  (if (decide (y<0))=true then
    yv (iU.take (n+2)) j (u.length-j) w >>= fun iv=>some (.inl ((j:Int)-1,iv,al.set j (R (g-1))))
  else some (.inl ((j:Int)-1,w,al.set j g))):=by
  unfold uM
  rw [if_pos (by simp)]
  simp only [e1,aD,bP,Int.toNat_natCast,Nat.zero_add,afW]
  rw [if_pos (by omega),kF]
  simp only [Option.bind_eq_bind,Option.bind_some]
  rw [if_pos (by omega),C4]
  simp only [Option.bind_some]
  rw [if_pos (by omega),aeU]
  simp only [Option.bind_some]
  rw [if_pos (by omega),c4,nl dh,qd dh,cw (by omega) (by omega),dF]
  simp only [Option.bind_some]
  rw [if_pos (by omega),if_pos (by omega),if_pos (by omega),List.drop_zero,cj]
  simp only [Option.bind_some]
  by_cases aZ:y<0
  ·have bK:(decide (y<0))=true:=by simpa using aZ
   simp only [if_pos bK]
   congr 1
   funext r
   rw [if_pos (by omega),if_pos (by omega)]
  ·have bK : ¬(decide (y<0))=true:=by simpa using aZ
   simp only [if_neg bK]
   rw [if_pos (by omega),if_pos (by omega)]
 rcases ud with ud|ud
 ·subst ud
  have Gg:V (w.drop j)=V (u.drop j) % W:=by rw [wj];grind
  have aZ:y=0:=Ri (W:=W) nF F4 sW (by rw [Gg];exact n4) (by rw [Gg];exact pB) (Int.le_of_lt MD)
  subst aZ
  refine ⟨w,?_,QP F1 F2,TS,F3,by omega,l6,oz⟩
  rw [pre]
  rfl
 ·have Gg:V (w.drop j)=V (u.drop j) % W-W:=by rw [wj,← ud];grind
  have aZ:y<0:=by
   apply Int.not_le.mp
   intro h
   have:0≤B (n+2)*y:=Int.mul_nonneg (by omega) h
   omega
  obtain ⟨mc,bT,nY,ahN,ME,MF,S7,RU⟩:=adT (v:=iU.take (n+2)) (row:=w) (b3:=j) (m3:=u.length-j) (y:=y) bk (by rw [pV];exact F1) (by omega) (by omega) (by omega) (by rw [pV];exact F2) ph CZ
  rw [pV] at ME MF RU
  rw [hW] at S7
  have TT:V bT=V u-V (u.drop j) / W*B j*W:=by rw [S7,F3,← ud];grind
  obtain ⟨aeV,ahO,aeW,aeX,aeY⟩:=TP (c:=V (u.drop j) / W*W) (by omega) C7 ME MF (fun i ah=>by rw [RU i ah,L4 i ah]) h0 (by rw [TT];grind)
  have TU:V (bT.drop j)=V (u.drop j) % W:=by rw [aeV];grind
  have n6:mc=0:=Ri (W:=W) aeW aeX aeY (by rw [TU];exact n4) (by rw [TU];exact pB) (Int.le_of_lt MD)
  subst n6
  refine ⟨bT,?_,QP ME MF,by omega,TT,by omega,l6,oz⟩
  rw [pre,if_pos (by simpa using aZ),nY]
  simp only [Option.bind_eq_bind,Option.bind_some]
  rw [cw (by omega) (by omega),show g-1=V (u.drop j) / W by omega]
theorem abK {ab iU u:List Int}{n m:Nat}{v1 W:Int}(a5:2≤n)(Nt:n≤iU.length)(bk:cD (iU.take n))(hW:V (iU.take n)=W)(s8:iU[n-1]? = some v1)(MC:1≤v1)(hu:cD u)(wk:u.length≤5000000)(hm:m+n=u.length)(d3:V (u.drop m)<W):
 ∃r,K0 u.length n n ab iU ((m:Int)-1) u (List.replicate m 0)=some r∧cD r.1∧r.1.length=u.length∧V r.1<W∧cD r.2∧r.2.length=m∧V u=V r.2*W+V r.1:=by
 refine jj (eS:=fun w:Int×List Int×List Int=> ∃(k:Nat) (q:List Int),w.1=(k:Int)-1∧k≤m∧cD w.2.1∧w.2.1.length=u.length∧w.2.2=List.replicate k 0++q∧q.length+k=m∧cD q∧V (w.2.1.drop k)<W∧V u=V w.2.1+B k*V q*W) (m:=fun w:Int×List Int×List Int=>(w.1+1).toNat) _ ?_ _ ⟨m,[],rfl,by omega,hu,rfl,by simp,by simp,cD.nil,d3,by simp [V]⟩
 rintro ⟨agA,qc,al⟩ ⟨k,q,h1,ba,oA,hlen,af,bb,p9,MG,hV⟩
 simp only at h1 oA hlen af MG hV ⊢
 subst h1 af
 cases k with
 | zero =>
  refine .inr ⟨(qc,q),by simp [uM],oA,hlen,by simpa using MG,p9,by simpa using bb,?_⟩
  rw [hV]
  simp [B]
  omega
 | succ k =>
  obtain ⟨ail,he,s1,s2,wz,agC,agD,agE⟩:=abJ (ab:=ab) (iU:=iU) (u:=qc) (al:=List.replicate (k+1) 0++q) (j:=k) a5 Nt bk hW s8 MC oA (by omega) (by omega) MG (by simp;omega)
  rw [hlen] at he
  rw [show ((k+1:Nat):Int)-1=k by omega,he]
  refine .inl ⟨_,rfl,⟨k,V (qc.drop k) / W::q,rfl,by omega,s1,s2.trans hlen,LP _ _ _,by simp;omega,cD.cons ⟨agD,agE⟩ p9,agC,?_⟩,by simp only;omega⟩
  simp only
  rw [hV,wz,lp,mm]
  grind
theorem acH {a:List Int}(h:a.length≤900000):Bu a=some a:=by
 unfold Bu
 rw [if_pos (by omega)]
theorem aaZ {a b q s:Int}(h:a=q*b+s)(h0:0≤s)(h1:s<b):a / b=q∧a % b=s:=by
 subst h
 constructor
 ·rw [Int.add_comm,Int.add_mul_ediv_right _ _ (by omega),Int.ediv_eq_zero_of_lt h0 h1]
  omega
 ·rw [Int.add_comm,Int.add_mul_emod_self_right]
  exact Int.emod_eq_of_lt h0 h1
theorem adk {a b:List Int}(bJ:fQ a)(aT:fQ b)(ly:b≠[])(a5:a.length≤900000)(hm:b.length≤900000):yC a b=some (L (V a / V b),L (V a % V b)):=by
 have jT:=tM aT ly
 have FC:=mV bJ.1
 unfold yC
 simp only [fT]
 rw [Qo bJ aT (by omega)]
 simp only [Option.bind_eq_bind,Option.bind_some]
 by_cases bj:V a<V b
 ·rw [if_pos (by simpa using tE.2 bj),acH a5,Int.ediv_eq_zero_of_lt FC bj,Int.emod_eq_of_lt FC bj,q6,FP bJ]
  rfl
 ·rw [if_neg (fun h=>bj (tE.1 (by simpa using h)))]
  obtain ⟨k,d,ba,bK,sY,FY,zI⟩:=Fa aT ly
  by_cases h1:b.length=1
  ·have sX:k=0:=by omega
   subst sX
   have Np:V b=d:=by simpa using zI
   rw [if_pos (by simp [h1]),if_pos (by omega),bK]
   simp only [Option.bind_some]
   have pB:=Int.emod_nonneg (V a) (b:=d) (by omega)
   have C2:=Int.emod_lt_of_pos (V a) sY
   rw [PJ bJ.1 ⟨sY,FY⟩ (by omega)]
   simp only [Option.bind_some]
   rw [BX pB (by omega),Ld pB (by omega),Np]
   rfl
  ·have hw:R ((b.length:Int)-1)=(k:Int):=by rw [cw (by omega) (by omega)];omega
   have e1:R (d+1)=d+1:=cw (by omega) (by omega)
   have zJ:1≤1000000000 / (d+1):=by
    apply (Int.le_ediv_iff_mul_le (by omega)).2
    omega
   have C9:1000000000 / (d+1)<1000000000:=by
    apply Int.ediv_lt_of_lt_mul (by omega)
    omega
   have afX:1000000000 / (d+1)*(d+1)≤1000000000:=Int.ediv_mul_le _ (by omega)
   have aD:R ((1000000000:Int).tdiv (d+1))=1000000000 / (d+1):=by rw [nl (by omega),cw (by omega) (by omega)]
   rw [if_neg (by simp;omega),hw,if_pos (by omega),Int.toNat_natCast,bK]
   simp only [Option.bind_some,e1,aD]
   generalize 1000000000 / (d+1)=f at *
   rw [if_pos (by omega)]
   have jZ:cD [f]:=cD.cons (by omega) cD.nil
   have afY:V [f]=f:=by simp [V]
   have afZ:a≠[]:=by
    intro h
    subst h
    simp [V] at bj
    omega
   obtain ⟨mf,wI,af0,aim,af1,F5,ain⟩:=Qq bJ.1 jZ afZ (by simp) (by omega) (by simp)
   obtain ⟨Dn,iU,af2,aio,af3,Nv,aip⟩:=Qq aT.1 jZ ly (by simp) (by omega) (by simp)
   rw [afY] at F5 Nv
   rw [af0]
   simp only [Option.bind_some]
   simp only [List.length_singleton] at af1 af3
   have aiq:=oW k
   have af4:V b*f<B b.length:=by
    have o:=(rO aT.1 (k:=k) (by omega)).2
    rw [zI] at o
    have af:V b*f≤(B k*(d+1)-1)*f:=Int.mul_le_mul_of_nonneg_right (by omega) (by omega)
    have av:(B k*(d+1)-1)*f=B k*(f*(d+1))-f:=by grind
    have aA:B k*(f*(d+1))≤B k*1000000000:=Int.mul_le_mul_of_nonneg_left afX (by omega)
    rw [ba,mm]
    omega
   have air:V b≤V b*f:=by
    have:V b*1≤V b*f:=Int.mul_le_mul_of_nonneg_left zJ (by omega)
    omega
   have ais:V a≤V a*f:=by
    have:V a*1≤V a*f:=Int.mul_le_mul_of_nonneg_left zJ (by omega)
    omega
   have Nw:0≤V b*f:=by omega
   have TV:0≤V a*f:=by omega
   have TW:Dn=b.length:=by
    have o:(iU.take Dn).length=Dn:=by simp;omega
    rw [Nv] at o
    have af:=(jo Nw (k:=b.length)).2 af4
    have av:=Fu aT ly
    have aA : ¬(L (V b*f)).length≤b.length-1:=fun h=>by
     have:=(jo Nw).1 h
     omega
    omega
   have af5:(L (V a*f)).length=mf:=by rw [← F5];simp;omega
   have S8:=nz (hq (V a*f))
   rw [ex TV,af5] at S8
   have ahP:a.length≤mf:=bJ.len.2 (by omega)
   have ait:b.length≤a.length:=Nat.le_of_not_lt fun h=>by
    have:=EW bJ aT h
    omega
   rw [if_pos (by omega),if_pos (by simp;omega),af2]
   simp only [Option.bind_some]
   have wk:(wI.take mf++[0]).length=mf+1:=by simp;omega
   have af6:Ep a Dn [f] iU (wI.take mf++[0])=some (wI.take mf++[0]):=by
    unfold Ep
    rw [iter]
    unfold DW
    simp only [fT,wk]
    rw [if_neg (by simp;omega)]
    rfl
   rw [af6]
   simp only [Option.bind_some,wk]
   have ms:R (((mf+1:Nat):Int)-((Dn:Nat):Int))=((mf+1-b.length:Nat):Int):=by rw [cw (by omega) (by omega)];omega
   rw [ms,if_pos (by omega),qA (by omega),Int.toNat_natCast]
   have SK:cD (wI.take mf++[0]):=by
    rw [F5]
    exact (hq _).append (cD.cons (by omega) cD.nil)
   have TX:V (wI.take mf++[0])=V a*f:=by
    rw [vo,F5,ex TV]
    simp [V]
   have L5:iU.take b.length=L (V b*f):=by rw [← TW];exact Nv
   have af7:V (iU.take b.length)=V b*f:=by rw [L5,ex Nw]
   obtain ⟨dD,agF,nb,qC,ahQ,ahR,ahS⟩:=Fa (jD (V b*f)) (fun h=>by have:=tN.1 h;omega)
   rw [← L5] at nb qC
   have pV:(iU.take b.length).length=b.length:=by simp;omega
   have CJ:iU[b.length-1]? = some agF:=by
    rw [List.getElem?_take] at qC
    rw [show b.length-1=dD by omega]
    split at qC
    ·exact qC
    ·simp at qC
   have aeZ:V ((wI.take mf++[0]).drop (mf+1-b.length))<V b*f:=by
    have o:=(rO SK (k:=mf+1-b.length) (by omega)).1
    rw [TX] at o
    have af:=Fu aT ly
    have av:B mf=B (mf+1-b.length)*B (b.length-1):=by rw [← BT];congr 1;omega
    rw [av] at S8
    have aA:B (mf+1-b.length)*V ((wI.take mf++[0]).drop (mf+1-b.length))<B (mf+1-b.length)*B (b.length-1):=by omega
    have:=Int.lt_of_mul_lt_mul_left aA (by have:=oW (mf+1-b.length);omega)
    omega
   obtain ⟨r,ap,r1,bV,bn,a6,ax,cn⟩:=abK (ab:=[f]) (m:=mf+1-b.length) (by omega) (by omega) (by rw [L5];exact hq _) af7 CJ (by omega) SK (by omega) (by omega) aeZ
   rw [wk] at ap bV
   rw [TW,ap]
   simp only [Option.bind_some]
   rw [if_pos (by omega),List.drop_zero,List.take_of_length_le (by omega),yS r1 (by omega)]
   simp only [Option.bind_some]
   have C1:=mV r1
   rw [TX] at cn
   have b6:V r.1=(V a-V r.2*V b)*f:=by grind
   have af8:0≤V a-V r.2*V b:=by
    apply Int.not_lt.mp
    intro h
    have:(V a-V r.2*V b)*f≤(-1)*f:=Int.mul_le_mul_of_nonneg_right (by omega) (by omega)
    omega
   have wj:V a-V r.2*V b<V b:=by
    apply Int.lt_of_mul_lt_mul_right (a:=f) _ (by omega)
    omega
   obtain ⟨q1,a7⟩:=aaZ (a:=V a) (b:=V b) (q:=V r.2) (s:=V a-V r.2*V b) (by omega) af8 wj
   rw [if_pos (by simp)]
   simp only [List.getElem?_cons_zero,Option.bind_some]
   have CP:(L (V r.1)).length≤mf+1:=(jo C1).2 (by have:=nz r1;rwa [bV] at this)
   rw [PJ (hq _) ⟨by omega,C9⟩ (by omega),ex C1]
   simp only [Option.bind_some]
   rw [yS a6 (by omega)]
   simp only [Option.bind_some]
   rw [q1,a7,b6,Int.mul_ediv_cancel _ (by omega)]
def ho (n:Int):bx:=⟨decide (n<0),L n.natAbs⟩
def ep (neg:Bool)(a:Int):Int:=if neg then -a else a
def mk (p:Int×Int):aR:=⟨ho p.1,L p.2⟩
def Nx:aR:=⟨⟨false,[]⟩,[]⟩
def enc:Option (Int×Int)→aR
 | none=>Nx
 | some p=>mk p
structure Fr (p:Int×Int):Prop where
 pos:0<p.2
 TY:Int.gcd p.1 p.2=1
 num:(p.1.natAbs:Int)<B 24
 den:p.2<B 24
theorem Rj {n:Int}:(ho n).cN=L n.natAbs:=rfl
theorem Rk {n:Int}:(ho n).c0=decide (n<0):=rfl
theorem QQ {n:Int}(h:0≤n):decide ((0:Int)<((L n).length:Nat))=decide (0<n):=by
 apply decide_eq_decide.2
 by_cases h1:0<n
 ·have:(L n)≠[]:=fun o=>by have:=tN.1 o;omega
  have:=List.length_pos_iff.mpr this
  omega
 ·have:n=0:=by omega
  subst this
  simp [q6]
theorem MH {n:Int}(h:0≤n):(((L n).length:Nat):Int)=0↔n=0:=by
 constructor
 ·intro h1
  have:L n=[]:=List.eq_nil_of_length_eq_zero (by omega)
  have:=tN.1 this
  omega
 ·rintro rfl
  simp [q6]
theorem L6 {neg:Bool}{a:Int}(h:0≤a):((ep neg a).natAbs:Int)=a:=by
 unfold ep
 cases neg<;>simp<;>omega
theorem RV {neg:Bool}{a:Int}(h:0≤a):(⟨neg && decide (0<a),L a⟩:bx)=ho (ep neg a):=by
 unfold ho
 rw [L6 h]
 congr 1
 unfold ep
 cases neg
 ·simp;omega
 ·simp
theorem adU {a:Int}(h:0≤a)(qM:a<B 60):ys (L a)=some (L a):=by
 have aU:=(jo h).2 qM
 unfold ys
 rw [rN (hq _) (by omega),ex h]
 simp only [Option.bind_eq_bind,Option.bind_some,fT]
 rw [if_neg (by simp;omega)]
theorem qp {neg:Bool}{a:Int}(h:0≤a)(qM:a<B 60):h8 neg (L a)=some (ho (ep neg a)):=by
 have aU:=(jo h).2 qM
 unfold h8
 rw [adU h qM]
 simp only [Option.bind_eq_bind,Option.bind_some,fT,List.nil_append]
 have bj:(L a).length*8≤140737488355328:=by omega
 rw [← RV h,← QQ h]
 cases neg<;>simp [bj]
theorem st {neg:Bool}{a:Int}(h:0≤a):np neg (L a)=some (ho (ep neg a)):=by
 unfold np
 rw [← RV h,fT,QQ h]
 cases neg<;>simp
theorem So {a b:Int}:ep (!(decide (a<0) == decide (b<0))) ((a.natAbs:Int)*(b.natAbs:Int))=a*b:=by
 unfold ep
 by_cases bJ:a<0
 ·have e1:(a.natAbs:Int) = -a:=by omega
  by_cases aT:b<0
  ·have aD:(b.natAbs:Int) = -b:=by omega
   rw [e1,aD]
   simp [bJ,aT,Int.neg_mul,Int.mul_neg]
  ·have aD:(b.natAbs:Int)=b:=by omega
   rw [e1,aD]
   simp [bJ,aT,Int.neg_mul,Int.mul_neg]
 ·have e1:(a.natAbs:Int)=a:=by omega
  by_cases aT:b<0
  ·have aD:(b.natAbs:Int) = -b:=by omega
   rw [e1,aD]
   simp [bJ,aT,Int.neg_mul,Int.mul_neg]
  ·have aD:(b.natAbs:Int)=b:=by omega
   rw [e1,aD]
   simp [bJ,aT,Int.neg_mul,Int.mul_neg]
theorem Bw {a b:Int}:ep (decide (a<0)) ((a.natAbs:Int)*b)=a*b:=by
 unfold ep
 by_cases bJ:a<0
 ·have e1:(a.natAbs:Int) = -a:=by omega
  rw [e1]
  simp [bJ,Int.neg_mul,Int.mul_neg]
 ·have e1:(a.natAbs:Int)=a:=by omega
  rw [e1]
  simp [bJ,Int.neg_mul,Int.mul_neg]
theorem Rl {a c:Int}:lc (-c) (-a)=lc a c:=by
 unfold lc
 by_cases h:a<c
 ·have : -c < -a:=by omega
  simp [h,this]
 ·by_cases o:c<a
  ·have af : ¬ -c < -a:=by omega
   have av : -a < -c:=by omega
   simp [h,o,af,av]
  ·have af : ¬ -c < -a:=by omega
   have av : ¬ -a < -c:=by omega
   simp [h,o,af,av]
theorem abL {a c:Int}(bJ:(L a.natAbs).length≤5000000)(bj:(L c.natAbs).length≤5000000):A0 (ho a) (ho c)=some (lc a c):=by
 unfold A0
 simp only [Rk,Rj,decide_eq_true_eq]
 by_cases h1:a<0
 ·by_cases o:c<0
  ·rw [if_pos h1,if_pos o,sB (jD _) (jD _) bj,ex (by omega),ex (by omega),show (c.natAbs:Int) = -c by omega,show (a.natAbs:Int) = -a by omega,Rl]
   rfl
  ·rw [if_pos h1,if_neg o]
   unfold lc
   rw [if_pos (by omega)]
 ·by_cases o:c<0
  ·rw [if_neg h1,if_pos o]
   unfold lc
   rw [if_neg (by omega),if_pos (by omega)]
  ·rw [if_neg h1,if_neg o,sB (jD _) (jD _) bJ,ex (by omega),ex (by omega)]
   show some (lc _ _)=_
   congr 2<;>omega
theorem Yr {a c:Int}(bJ:(L a.natAbs).length≤5000000)(bj:(L c.natAbs).length≤5000000):sf (ho a) (ho c)=some (lc a c):=by
 have b6:sf (ho a) (ho c)=if (decide (a<0) == decide (c<0))=true then (if decide (a<0)=true then (qR (L c.natAbs) (L a.natAbs)).bind (fun r=>some r) else (qR (L a.natAbs) (L c.natAbs)).bind (fun r=>some r)) else if decide (a<0)=true then some (-1) else some 1:=rfl
 rw [b6,Z4]
 by_cases h1:a<0
 ·by_cases o:c<0
  ·rw [if_pos (by simp [h1,o]),if_pos (by simpa using h1),sB (jD _) (jD _) bj,ex (by omega),ex (by omega),show (c.natAbs:Int) = -c by omega,show (a.natAbs:Int) = -a by omega,Rl]
   rfl
  ·rw [if_neg (by simp [h1,o]),if_pos (by simpa using h1)]
   unfold lc
   rw [if_pos (by omega)]
 ·by_cases o:c<0
  ·rw [if_neg (by simp [h1,o]),if_neg (by simpa using h1)]
   unfold lc
   rw [if_neg (by omega),if_pos (by omega)]
  ·rw [if_pos (by simp [h1,o]),if_neg (by simpa using h1),sB (jD _) (jD _) bJ,ex (by omega),ex (by omega),show (c.natAbs:Int)=c by omega,show (a.natAbs:Int)=a by omega]
   rfl
def fits (x:Int):Prop:=x<B 24
noncomputable instance (x:Int):Decidable (fits x):=Classical.propDecidable _
noncomputable def low (n d:Int):Option (Int×Int) :=
 if fits ((n / (Int.gcd n d:Int)).natAbs:Int)∧fits (d / (Int.gcd n d:Int)) then some (n / (Int.gcd n d:Int),d / (Int.gcd n d:Int)) else none
theorem LQ {n d:Int}(h:0<d):(0:Int)<Int.gcd n d:=by
 have:Int.gcd n d≠0:=by
  rw [Ne,Int.gcd_eq_zero_iff]
  omega
 omega
theorem adl {n d:Int}(h:0<d): ∃m e,n / (Int.gcd n d:Int)=m∧d / (Int.gcd n d:Int)=e∧n=Int.gcd n d*m∧d=Int.gcd n d*e∧0<e∧(n.natAbs:Int) / (Int.gcd n d:Int)=m.natAbs:=by
 have dF:=LQ (n:=n) h
 obtain ⟨m,hm⟩:=Int.gcd_dvd_left (a:=n) (b:=d)
 obtain ⟨e,he⟩:=Int.gcd_dvd_right (a:=n) (b:=d)
 refine ⟨m,e,?_,?_,hm,he,?_,?_⟩
 ·conv=>lhs;lhs;rw [hm]
  exact Int.mul_ediv_cancel_left _ (by omega)
 ·conv=>lhs;lhs;rw [he]
  exact Int.mul_ediv_cancel_left _ (by omega)
 ·apply Int.not_le.mp
  intro h1
  have:(Int.gcd n d:Int)*e≤Int.gcd n d*0:=Int.mul_le_mul_of_nonneg_left h1 (by omega)
  omega
 ·have e1:(n.natAbs:Int)=Int.gcd n d*m.natAbs:=by
   conv=>lhs;rw [hm]
   rw [Int.natAbs_mul]
   simp
  rw [e1]
  exact Int.mul_ediv_cancel_left _ (by omega)
theorem BK {a:Int}(h:0≤a):qT (L a)=some (decide (a=1)):=by
 unfold qT
 simp only [fT]
 by_cases h1:(L a).length=1
 ·have o:=(jo (k:=1) h).1 (by omega)
  have af:0<a:=by
   apply Int.not_le.mp
   intro av
   rw [SJ av] at h1
   simp at h1
  have aA:a<1000000000:=by simpa [B] using o
  rw [LN ⟨af,aA⟩]
  by_cases aX:a=1<;>simp [aX]
 ·rw [if_neg (by simp;omega)]
  have:a≠1:=by
   rintro rfl
   rw [LN (by omega)] at h1
   simp at h1
  simp [this]
theorem RW {n d:Int}(h:0≤d):Int.gcd (n.natAbs:Int) d=Int.gcd n d:=by
 simp [Int.gcd]
theorem L7:B 24≤B 60:=q5 (by omega)
theorem Lm {neg:Bool}{m e:Int}(hm:0≤m)(he:0≤e):(if (decide ((24:Int)<((L m).length:Nat)))=true then some Nx else if (decide ((24:Int)<((L e).length:Nat)))=true then some Nx else h8 neg (L m) >>= fun r=>if (([]:List Int)++L e).length*8≤140737488355328 then some (⟨r,([]:List Int)++L e⟩:aR) else none) =
 some (enc (if fits m∧fits e then some (ep neg m,e) else none)):=by
 by_cases h1:fits m
 ·have o:=(jo hm).2 h1
  rw [if_neg (by simp;omega)]
  by_cases af:fits e
  ·have av:=(jo he).2 af
   have:=L7
   unfold fits at h1
   rw [if_neg (by simp;omega),qp hm (by omega),if_pos ⟨h1,af⟩]
   simp only [Option.bind_eq_bind,Option.bind_some]
   rw [if_pos (by simp;omega)]
   rfl
  ·have av : ¬(L e).length≤24:=fun h=>af ((jo he).1 h)
   rw [if_pos (by simp;omega),if_neg (fun h=>af h.2)]
   rfl
 ·have av : ¬(L m).length≤24:=fun h=>h1 ((jo hm).1 h)
  rw [if_pos (by simp;omega),if_neg (fun h=>h1 h.1)]
  rfl
theorem adV {neg:Bool}{p m g:Int}(ak:0≤p)(dF:0<g)(hm:ep neg p=g*m):ep neg (m.natAbs:Int)=m:=by
 unfold ep at hm ⊢
 cases neg
 ·simp at hm ⊢
  have:0≤m:=by
   apply Int.not_lt.mp
   intro h1
   have:g*m≤g*(-1):=Int.mul_le_mul_of_nonneg_left (by omega) (by omega)
   omega
  omega
 ·simp at hm ⊢
  have:m≤0:=by
   apply Int.not_lt.mp
   intro h1
   have:g*1≤g*m:=Int.mul_le_mul_of_nonneg_left (by omega) (by omega)
   omega
  omega
theorem Ln {neg:Bool}{p q:Int}(ak:0≤p)(bb:0<q)(TZ:(L p).length≤900000)(p9:(L q).length≤900000):og neg (L p) (L q)=some (enc (low (ep neg p) q)):=by
 obtain ⟨m,e,h1,o,af,av,aA,aX⟩:=adl (n:=ep neg p) bb
 have p2:=adV ak (LQ (n:=ep neg p) bb) af
 rw [L6 ak] at aX
 have dF:Int.gcd p q=Int.gcd (ep neg p) q:=by rw [← RW (n:=ep neg p) (by omega),L6 ak]
 have aiu:=LQ (n:=ep neg p) bb
 unfold og
 rw [rN (hq _) (by omega),ex ak]
 simp only [Option.bind_eq_bind,Option.bind_some]
 rw [rN (hq _) (by omega),ex (by omega)]
 simp only [Option.bind_some,fT]
 have l6 : ¬((((L q).length:Nat):Int) == 0)=true:=by
  simp only [beq_iff_eq]
  intro h
  have:=(MH (n:=q) (by omega)).1 h
  omega
 rw [if_neg l6,BK (by omega)]
 simp only [Option.bind_some]
 have Cb:low (ep neg p) q=if fits (m.natAbs:Int)∧fits e then some (ep neg (m.natAbs:Int),e) else none:=by
  unfold low
  rw [h1,o,p2]
 have SL:Int.gcd (ep neg p) q=1→(m.natAbs:Int)=p∧e=q:=by
  intro hu
  rw [hu] at o aX
  simp at o aX
  omega
 by_cases oz:q=1
 ·have hu:Int.gcd (ep neg p) q=1:=by rw [oz];simp
  obtain ⟨lE,n9⟩:=SL hu
  rw [if_pos (by simpa using oz),Cb,lE,n9]
  exact Lm ak (by omega)
 ·rw [if_neg (by simpa using oz),Sm (jD _) (jD _) TZ p9,ex ak,ex (by omega)]
  simp only [Option.bind_some]
  rw [BK (by omega)]
  simp only [Option.bind_some]
  by_cases hu:Int.gcd p q=1
  ·obtain ⟨lE,n9⟩:=SL (by omega)
   rw [if_pos (by simp;omega),Cb,lE,n9]
   exact Lm ak (by omega)
  ·rw [if_neg (by simp;omega)]
   have T0:(L (Int.gcd p q)).length≤900000:=by
    have bf:(Int.gcd p q:Int)≤q:=by
     rw [dF]
     have:(Int.gcd (ep neg p) q:Int)*1≤Int.gcd (ep neg p) q*e:=Int.mul_le_mul_of_nonneg_left (by omega) (by omega)
     omega
    apply (jo (by omega)).2
    have:=(jo (n:=q) (by omega)).1 p9
    omega
   have T1:L (Int.gcd p q)≠[]:=fun h=>by
    have:=tN.1 h
    omega
   rw [div_eq (jD _) (jD _) T1 TZ T0,ex ak,ex (by omega)]
   simp only [Option.bind_some]
   rw [div_eq (jD _) (jD _) T1 p9 T0,ex (by omega),ex (by omega)]
   simp only [Option.bind_some]
   rw [dF,aX,o,Cb]
   exact Lm (by omega) (by omega)
theorem Fr.tT {p:Int×Int}(h:Fr p):(L p.1.natAbs).length≤24:=(jo (by omega)).2 h.num
theorem Fr.sQ {p:Int×Int}(h:Fr p):(L p.2).length≤24:=(jo (by have:=h.pos;omega)).2 h.den
theorem aep (m n:Nat):B m*B n=B (m+n):=(BT m n).symm
theorem tF {x y:Int}{m n:Nat}(U:0≤x)(aZ:0≤y)(h1:x<B m)(o:y<B n):(L (x*y)).length≤m+n:=by
 apply (jo (Int.mul_nonneg U aZ)).2
 rw [← aep]
 have af:x*y≤(B m-1)*(B n-1):=Int.mul_le_mul (by omega) (by omega) aZ (by omega)
 have av:(B m-1)*(B n-1)=B m*B n-B m-B n+1:=by grind
 have aA:=oW m
 have aX:=oW n
 omega
theorem aa0 (r s:aR){a b:Int}(bJ:0≤a)(aT:0<b)(h1:h3 r.fB.cN s.fB.cN=some (L a))(o:h3 r.hP s.hP=some (L b))(af:(L a).length≤900000)(av:(L b).length≤900000):tw r s=some (enc (low (ep (!(r.fB.c0 == s.fB.c0)) a) b)):=by
 unfold tw
 rw [h1]
 simp only [Option.bind_eq_bind,Option.bind_some]
 rw [o]
 simp only [Option.bind_some]
 rw [Ln bJ aT af av]
 simp only [Option.bind_some]
theorem abM {p q:Int×Int}(ak:Fr p)(bb:Fr q):tw (mk p) (mk q)=some (enc (low (p.1*q.1) (p.2*q.2))):=by
 have h1:=ak.tT
 have o:=ak.sQ
 have af:=bb.tT
 have av:=bb.sQ
 have aA:=ak.pos
 have aX:=bb.pos
 have bf:=tF (x:=p.1.natAbs) (y:=q.1.natAbs) (by omega) (by omega) ak.num bb.num
 have bl:=tF (x:=p.2) (y:=q.2) (by omega) (by omega) ak.den bb.den
 have e1:h3 (L p.1.natAbs) (L q.1.natAbs)=some (L ((p.1.natAbs:Int)*q.1.natAbs)):=by
  rw [mul_eq (hq _) (hq _) (by omega) (by omega),ex (by omega),ex (by omega)]
 have aD:h3 (L p.2) (L q.2)=some (L (p.2*q.2)):=by
  rw [mul_eq (hq _) (hq _) (by omega) (by omega),ex (by omega),ex (by omega)]
 have:=aa0 (mk p) (mk q) (a:=(p.1.natAbs:Int)*q.1.natAbs) (b:=p.2*q.2) (Int.mul_nonneg (by omega) (by omega)) (Int.mul_pos aA aX) e1 aD (by omega) (by omega)
 rw [this]
 have bP:ep (!((mk p).fB.c0 == (mk q).fB.c0)) ((p.1.natAbs:Int)*q.1.natAbs)=p.1*q.1:=So
 rw [bP]
theorem abN {a b:Int}(bJ:(L a.natAbs).length≤900000)(aT:(L b.natAbs).length≤900000):pH (ho a) (ho b)=some (ho (a*b)):=by
 unfold pH
 simp only [Rj,Rk]
 rw [acB (hq _) (hq _) (by omega) (by omega),ex (by omega),ex (by omega)]
 simp only [Option.bind_eq_bind,Option.bind_some]
 rw [st (Int.mul_nonneg (by omega) (by omega)),So]
 rfl
theorem adm:(1000000000000000000000000000:Int)≤B 24:=by
 have h:B 3≤B 24:=q5 (by omega)
 have af:B 3=1000000000000000000000000000:=by decide
 omega
theorem adn:(1000000000000000000000000000:Int)≤B 60:=by
 have:=L7
 have:=adm
 omega
theorem aar {n:Int}(h:o8 n):Ay n=some (ho n):=by
 obtain ⟨h1,o⟩:=mU.1 h
 have aT:=adn
 unfold Ay
 by_cases hm:n = -9223372036854775808
 ·rw [if_pos (by simpa using hm)]
  have e:([854775808,223372036,9]:List Int)=L 9223372036854775808:=tP ⟨by intro x U;simp at U;omega,by simp⟩ (by decide)
  rw [e,qp (by omega) (by omega)]
  subst hm
  rfl
 ·rw [if_neg (by simpa using hm)]
  by_cases a5:n<0
  ·rw [if_pos (by simpa using a5),cw (by omega) (by omega),yK (by omega) (by omega)]
   simp only [Option.bind_eq_bind,Option.bind_some]
   rw [qp (by omega) (by omega)]
   simp only [Option.bind_some]
   congr 2
   unfold ep
   simp
  ·rw [if_neg (by simpa using a5),yK (by omega) (by omega)]
   simp only [Option.bind_eq_bind,Option.bind_some]
   rw [qp (by omega) (by omega)]
   simp only [Option.bind_some]
   congr 2
theorem aa1 {n:Int}(h:o8 n):oK n=some (ho n):=by
 obtain ⟨h1,o⟩:=mU.1 h
 unfold oK
 by_cases a5:n<0
 ·rw [if_pos (by simpa using a5),cw (x:=n+1) (by omega) (by omega),cw (x:=0-(n+1)) (by omega) (by omega),BX (x:=0-(n+1)) (by omega) (by omega),BX (by omega) (by omega),Ld (by omega) (by omega)]
  simp only [Option.bind_eq_bind,Option.bind_some]
  rw [st (by omega)]
  simp only [Option.bind_some]
  congr 2
  unfold ep
  simp
  omega
 ·rw [if_neg (by simpa using a5),BX (by omega) (by omega),Ld (by omega) (by omega)]
  simp only [Option.bind_eq_bind,Option.bind_some]
  rw [st (by omega)]
  simp only [Option.bind_some]
  congr 2
theorem SM:L 1=[1]:=LN (by omega)
theorem ZI {n:Int}(h:o8 n):po n=some (mk (n,1)):=by
 unfold po
 rw [aar h]
 simp only [Option.bind_eq_bind,Option.bind_some,mk,SM]
theorem abO {p q:Int×Int}(ak:Fr p)(bb:Fr q):u6 (mk p) (mk q)=some (lc (p.1*q.2) (q.1*p.2)):=by
 have h1:=ak.tT
 have o:=ak.sQ
 have af:=bb.tT
 have av:=bb.sQ
 have aA:=ak.pos
 have aX:=bb.pos
 have bf:=tF (x:=p.1.natAbs) (y:=q.2) (by omega) (by omega) ak.num bb.den
 have bl:=tF (x:=q.1.natAbs) (y:=p.2) (by omega) (by omega) bb.num ak.den
 have Dp:0≤(p.1.natAbs:Int)*q.2:=Int.mul_nonneg (by omega) (by omega)
 have Uu:0≤(q.1.natAbs:Int)*p.2:=Int.mul_nonneg (by omega) (by omega)
 have pk:((p.1*q.2).natAbs:Int)=(p.1.natAbs:Int)*q.2:=by
  rw [Int.natAbs_mul,Int.natCast_mul]
  congr 1
  omega
 have my:((q.1*p.2).natAbs:Int)=(q.1.natAbs:Int)*p.2:=by
  rw [Int.natAbs_mul,Int.natCast_mul]
  congr 1
  omega
 have e1:h3 (mk p).fB.cN (mk q).hP=some (L ((p.1.natAbs:Int)*q.2)):=by
  show h3 (L p.1.natAbs) (L q.2)=_
  rw [mul_eq (hq _) (hq _) (by omega) (by omega),ex (by omega),ex (by omega)]
 have aD:h3 (mk q).fB.cN (mk p).hP=some (L ((q.1.natAbs:Int)*p.2)):=by
  show h3 (L q.1.natAbs) (L p.2)=_
  rw [mul_eq (hq _) (hq _) (by omega) (by omega),ex (by omega),ex (by omega)]
 have bP:h8 (mk p).fB.c0 (L ((p.1.natAbs:Int)*q.2))=some (ho (p.1*q.2)):=by
  show h8 (decide (p.1<0)) _=_
  rw [qp Dp ((jo Dp).1 (by omega)),Bw]
 have c4:h8 (mk q).fB.c0 (L ((q.1.natAbs:Int)*p.2))=some (ho (q.1*p.2)):=by
  show h8 (decide (q.1<0)) _=_
  rw [qp Uu ((jo Uu).1 (by omega)),Bw]
 unfold u6
 rw [e1,Option.bind_eq_bind,Option.bind_some,bP,Option.bind_eq_bind,Option.bind_some,aD,Option.bind_eq_bind,Option.bind_some,c4,Option.bind_some,abL (by rw [pk];omega) (by rw [my];omega)]
 rfl
theorem L8 {a d:Int}(bK:0≤d):((a*d).natAbs:Int)=(a.natAbs:Int)*d:=by
 rw [Int.natAbs_mul,Int.natCast_mul]
 congr 1
 omega
theorem qX (n b3 ah:Int):mB n b3 ah=some (decide (b3≤n∧n≤ah)):=by
 unfold mB
 by_cases h:b3≤n<;>simp [h]
theorem EG {α β:Type}{t:Nat→α→Option β}: ∀(l:List α) (k:Nat),(∀n x,l[n]? = some x→t (k+n) x=none)→scan t k l=none
 | [],_,_=>rfl
 | x::l,k,h=>by
  have h0:=h 0 x rfl
  simp only [Nat.add_zero] at h0
  simp only [scan,h0]
  exact EG l (k+1) fun n y aZ=>by rw [show k+1+n=k+(n+1) by omega];exact h (n+1) y (by simpa using aZ)
theorem Eu (l:List Int)(h:l.length≤1048576):tx l l=some true:=by
 have h1:KK l l 0=some (.inl ()):=by
  have:=ED (f:=fun w=>x2 l l w) (t:=fun _ _=>none) (e:= .inl ()) l 0 (fun n x U=>by
   have a5:=gb U
   have hw:R ((n:Int)+1)=((n+1:Nat):Int):=by rw [cw (by omega) (by omega)];rfl
   simp only [x2,fa,Nat.zero_add,hw]
   simp [a5]) (by simp [x2,fa])
  rw [EG l 0 (fun _ _ _=>rfl)] at this
  exact this
 simp [tx,h1]
theorem Z5 (j:bo):AX j j=some true:=by simp [AX]
theorem ZJ (j:bC):AL j j=some true:=by simp [AL]
theorem ZK (l:List bo)(h:l.length≤1048576):AK l l=some true:=by
 have h1:Ki l l 0=some (.inl ()):=by
  have:=ED (f:=fun w=>xC l l w) (t:=fun _ _=>none) (e:= .inl ()) l 0 (fun n x U=>by
   have a5:=gb U
   have hw:R ((n:Int)+1)=((n+1:Nat):Int):=by rw [cw (by omega) (by omega)];rfl
   simp only [xC,fa,Nat.zero_add,hw]
   simp [a5,Z5]) (by simp [xC,fa])
  rw [EG l 0 (fun _ _ _=>rfl)] at this
  exact this
 simp [AK,h1]
theorem Zw (l:List bC)(h:l.length≤1048576):Au l l=some true:=by
 have h1:J3 l l 0=some (.inl ()):=by
  have:=ED (f:=fun w=>xt l l w) (t:=fun _ _=>none) (e:= .inl ()) l 0 (fun n x U=>by
   have a5:=gb U
   have hw:R ((n:Int)+1)=((n+1:Nat):Int):=by rw [cw (by omega) (by omega)];rfl
   simp only [xt,fa,Nat.zero_add,hw]
   simp [a5,ZJ]) (by simp [xt,fa])
  rw [EG l 0 (fun _ _ _=>rfl)] at this
  exact this
 simp [Au,h1]
theorem Pd (s:cl)(h1:s.bY.length≤1048576)(o:s.bs.length≤1048576):yg s s=some true:=by
 simp [yg,ZK _ h1,Zw _ o]
theorem Z6 (j:bo)(left:Int)(aE:j.hj.size≤maxLen)(h0:0≤left)(h1:left≤1048576): ∃r,AP j left=some r∧r≤left:=by
 have hm:j.hj.size<9223372036854775808:=by have:maxLen=9223372036854775807:=by decide
                                           omega
 have hw:R (left-j.hj.size)=left-j.hj.size:=cw (by omega) (by omega)
 unfold AP
 rw [hw]
 by_cases h:left-(j.hj.size:Int)<0
 ·exact ⟨-1,by simp [h],by omega⟩
 ·exact ⟨left-j.hj.size,by simp [h],by omega⟩
theorem ZL (l:List bo)(left:Int)(aU:l.length≤maxLen)(aE:∀j∈l,j.hj.size≤maxLen)(h0:0≤left)(h1:left≤1048576):
 ∃r,Av l left=some r∧r≤left∧(0≤r→l.length≤1048576):=by
 have hm:maxLen=9223372036854775807:=by decide
 have hw:R (left-(l.length:Nat))=left-(l.length:Nat):=cw (by omega) (by omega)
 unfold Av
 simp only [fa,hw]
 by_cases h:left-(l.length:Int)<0
 ·exact ⟨-1,by simp [h],by omega,by omega⟩
 ·obtain ⟨r,r1,bV⟩:=jj (f:=fun w:Int×Int=>uA l w.1 w.2) (fun w=>0≤w.1∧w.1≤left∧0≤w.2∧w.2≤l.length) (fun w=>(l.length-w.2).toNat)
   (fun r=>match r with | .inl a=>a≤left | .inr _=>True) (fun w hw=>by
     obtain ⟨a,i⟩:=w
     simp only at hw
     obtain ⟨jV,ob,qQ,Gh⟩:=hw
     by_cases ah:i<l.length
     ·obtain ⟨x,U⟩ : ∃x,l[i.toNat]? = some x:=⟨_,List.getElem?_eq_getElem (by omega)⟩
      obtain ⟨r,s1,s2⟩:=Z6 x a (aE x (List.mem_of_getElem? U)) jV (by omega)
      obtain ⟨a5,rfl⟩:=List.getElem?_eq_some_iff.1 U
      have CL:R (i+1)=i+1:=cw (by omega) (by omega)
      by_cases ap:r<0
      ·right
       exact ⟨.inr (),by simp [uA,fa,ah,qQ,U,s1,ap],trivial⟩
      ·left
       refine ⟨(r,i+1),by simp [uA,fa,ah,qQ,U,s1,ap,CL],?_,?_⟩
       ·simp only;omega
       ·simp only;omega
     ·right
      exact ⟨.inl a,by simp [uA,fa,ah],by simpa using ob⟩) (left-(l.length:Nat),0) (by simp only;omega)
  have F6:J5 l (left-(l.length:Nat)) 0=some r:=r1
  rw [F6]
  cases r with
  | inl a=>exact ⟨a,by simp [h],bV,by omega⟩
  | inr a=>exact ⟨-1,by simp [h],by omega,by omega⟩
theorem Zx (l:List bC)(left:Int)(aU:l.length≤maxLen)(h0:0≤left)(h1:left≤1048576):
 ∃r,An l left=some r∧r≤left∧(0≤r→l.length≤1048576):=by
 have hm:maxLen=9223372036854775807:=by decide
 have hw:R (left-(l.length:Nat))=left-(l.length:Nat):=cw (by omega) (by omega)
 unfold An
 simp only [fa,hw]
 by_cases h:left-(l.length:Int)<0
 ·exact ⟨-1,by simp [h],by omega,by omega⟩
 ·exact ⟨left-(l.length:Nat),by simp [h],by omega,by omega⟩
theorem YV (s:cl)(i0:lX s)(left:Int)(h0:0≤left)(h1:left≤1048576):
 ∃r,Ad s left=some r∧(0≤r→s.bY.length≤1048576∧s.bs.length≤1048576):=by
 obtain ⟨⟨gI,hL⟩,dd,f7⟩:=i0
 obtain ⟨r,r1,bV,bn⟩:=ZL s.bY left gI (fun j aE=>(hL j aE).1) h0 h1
 unfold Ad
 rw [r1]
 by_cases h:r<0
 ·exact ⟨-1,by simp [h],by omega⟩
 ·obtain ⟨q,q1,a7,bZ⟩:=Zx s.bs r dd (by omega) (by omega)
  by_cases bb:q<0
  ·exact ⟨-1,by simp [h,q1,bb],by omega⟩
  ·exact ⟨q,by simp [h,q1,bb],fun _=>⟨bn (by omega),bZ (by omega)⟩⟩
theorem yD:maxLen=9223372036854775807:=by decide
theorem aa2 (n:Int):yq n=mB n (-50) 50:=by
 rw [qX]
 unfold yq
 by_cases h : -50≤n<;>simp [h]
theorem aas (c:Int):AH c=some (decide (97≤c∧c≤122)):=by
 unfold AH
 by_cases h:97≤c<;>simp [h]
theorem aa3 (c:Int):AR c=some (decide (48≤c∧c≤57)):=by
 unfold AR
 by_cases h:48≤c<;>simp [h]
theorem aat (s:ByteArray)(i:Int):z8 s s.size i=tm s i:=by
 unfold z8 tm
 generalize ((s.data.toList.getD i.toNat 0).toNat:Int)=c
 simp only [aas,aa3,Option.bind_eq_bind,Option.bind_some]
 by_cases h1:i<(s.size:Int)<;>by_cases h0:0≤i<;>by_cases a:(97:Int)≤c<;>by_cases b:c≤122<;>by_cases d:i=0<;>by_cases e:c<48<;>by_cases f:57<c <;>
  simp [h1,h0,a,b,d,e,f,Int.not_lt.1,Int.not_le]<;>omega
theorem abP (s:ByteArray):A2 s=tu s:=by
 have h:Eg s s.size 0=Ao s 0:=by
  unfold Eg Ao
  congr 1
  funext w
  exact aat s w
 unfold A2 tu
 rw [h]
 congr 1
 funext r
 cases r with
 | inr a=>rfl
 | inl a =>
  simp only [qX,Option.bind_eq_bind,Option.bind_some]
  by_cases h0:s.size=0
  ·have:s=⟨#[]⟩:=by
    cases s with
    | mk d=>simp only [ByteArray.size] at h0;rw [Array.size_eq_zero_iff] at h0;rw [h0]
   subst this
   have e0:(ByteArray.mk #[]).size=0:=rfl
   simp [e0]
  ·have c8:s.toList≠(⟨#[]⟩:ByteArray).toList:=by
    intro e
    have aU : ∀x:ByteArray,x.toList.length=x.size:=by intro x;rw [ByteArray.toList_eq];rfl
    have:=aU s
    rw [e,aU] at this
    exact h0 this.symm
   simp only [beq_iff_eq,c8,Bool.not_eq_true',beq_eq_false_iff_ne,ne_eq,not_false_eq_true,if_true]
   congr 1
   apply decide_eq_decide.2
   omega
theorem aau (s:ByteArray)(b6:s.size≤maxLen): ∃r,tu s=some r:=by
 have hm:=yD
 obtain ⟨r,h,-⟩:=jj (f:=fun w=>tm s w) (fun i=>0≤i∧i≤s.size) (fun i=>(s.size-i).toNat) (fun _=>True) (fun i ah=>by
  obtain ⟨h0,h1⟩:=ah
  by_cases o:i<(s.size:Int)
  ·have hw:R (i+1)=i+1:=cw (by omega) (by omega)
   unfold tm
   generalize ((s.data.toList.getD i.toNat 0).toNat:Int)=c
   have aeq:0≤i+1∧i+1≤(s.size:Int):=by omega
   have ms:((s.size:Int)-(i+1)).toNat<((s.size:Int)-i).toNat:=by omega
   have key : ∀x:Option (Int⊕(Unit⊕Unit)),(x=some (.inl (i+1))∨x=some (.inr (.inr ())))→(∃dT,x=some (.inl dT)∧(0≤dT∧dT≤(s.size:Int))∧((s.size:Int)-dT).toNat<((s.size:Int)-i).toNat)∨ ∃r,x=some (.inr r)∧True:=by
    intro x U
    rcases U with U|U
    ·exact .inl ⟨i+1,U,aeq,ms⟩
    ·exact .inr ⟨_,U,trivial⟩
   apply key
   simp only [o,h0,hw,decide_true,if_true,and_self]
   by_cases a:(97:Int)≤c<;>by_cases b:c≤122<;>by_cases d:i=0<;>by_cases e:c<48<;>by_cases f:57<c<;>simp [a,b,d,e,f]
  ·exact .inr ⟨.inl (),by simp [tm,o],trivial⟩) 0 (by omega)
 have cP:Ao s 0=some r:=h
 unfold tu
 rw [cP]
 cases r with
 | inl a=>exact ⟨_,by simp [qX];rfl⟩
 | inr a=>exact ⟨_,rfl⟩
end Go.Proofs.YtmeimpeaagmneabGreat
namespace Go.Proofs.YtmeimpeaagmneabGreat
set_option linter.unusedVariables false
set_option linter.unusedSimpArgs false
open Go Go.VL
theorem aa4 (j:bo):AS j=pI j:=by
 unfold AS pI
 simp only [abP,aa2]
theorem PL (j:bo)(h:j.hj.size≤maxLen): ∃r,pI j=some r:=by
 obtain ⟨r,ap⟩:=aau _ h
 unfold pI
 simp only [ap,qX,Option.bind_eq_bind,Option.bind_some]
 repeat' split
 all_goals exact ⟨_,rfl⟩
theorem ZM (s:cl)(n:ByteArray):Am s n=uP s n:=by
 have h:Du s.bY n (len_ bw s.bY) 0=x3 n s.bY (len_ bw s.bY) 0:=by
  unfold Du x3
  congr 1
 unfold Am uP Dy
 rw [h]
 cases x3 n s.bY (len_ bw s.bY) 0 with
 | none=>rfl
 | some r=>cases r<;>rfl
theorem Po (s:cl)(n:ByteArray)(h:s.bY.length≤maxLen): ∃r,uP s n=some r:=by
 have hm:=yD
 obtain ⟨r,h1,-⟩:=jj (f:=fun w=>xf n s.bY (len_ bw s.bY) w) (fun i=>0≤i∧i≤s.bY.length) (fun i=>(s.bY.length-i).toNat) (fun _=>True) (fun i ah=>by
  obtain ⟨h0,h1⟩:=ah
  by_cases o:i<(s.bY.length:Int)
  ·have hw:R (i+1)=i+1:=cw (by omega) (by omega)
   obtain ⟨x,U⟩ : ∃x,s.bY[i.toNat]? = some x:=⟨_,List.getElem?_eq_getElem (by omega)⟩
   unfold xf
   simp only [fa,o,h0,hw,U,decide_true,if_true,and_self,Option.bind_eq_bind,Option.bind_some]
   by_cases e:(x.hj.toList == n.toList)=true
   ·exact .inr ⟨_,by rw [if_pos e],trivial⟩
   ·exact .inl ⟨i+1,by rw [if_neg e],by omega,by omega⟩
  ·exact .inr ⟨.inl (),by simp [xf,fa,o],trivial⟩) 0 (by omega)
 have cP:x3 n s.bY (len_ bw s.bY) 0=some r:=h1
 unfold uP
 rw [cP]
 cases r with
 | inl a=>exact ⟨_,rfl⟩
 | inr a=>exact ⟨_,rfl⟩
theorem Pp (s:cl):DQ s.bY (len_ bw s.bY) s.bs 0=rH s.bY (len_ bw s.bY) s.bs 0:=by
 unfold DQ rH
 congr 1
 funext w
 unfold DE rF
 simp only [aa4,ZM]
theorem J4 (s:cl)(i0:lX s): ∃r,rH s.bY (len_ bw s.bY) s.bs 0=some r:=by
 have hm:=yD
 obtain ⟨⟨gI,hL⟩,-⟩:=i0
 obtain ⟨r,h1,-⟩:=jj (f:=fun w=>rF s.bY (len_ bw s.bY) s.bs w) (fun i=>0≤i∧i≤s.bY.length) (fun i=>(s.bY.length-i).toNat) (fun _=>True) (fun i ah=>by
  obtain ⟨h0,h1⟩:=ah
  by_cases o:i<(s.bY.length:Int)
  ·have hw:R (i+1)=i+1:=cw (by omega) (by omega)
   obtain ⟨x,U⟩ : ∃x,s.bY[i.toNat]? = some x:=⟨_,List.getElem?_eq_getElem (by omega)⟩
   obtain ⟨p,ak⟩:=PL x (hL x (List.mem_of_getElem? U)).1
   obtain ⟨q,bb⟩:=Po ⟨s.bY,s.bs⟩ x.hj gI
   unfold rF
   simp only [fa,o,h0,hw,U,ak,bb,decide_true,if_true,and_self,Option.bind_eq_bind,Option.bind_some]
   by_cases e:p=true
   ·rw [if_pos e]
    by_cases aD:(q != i)=true
    ·exact .inr ⟨_,by rw [if_pos aD],trivial⟩
    ·exact .inl ⟨i+1,by rw [if_neg aD],by omega,by omega⟩
   ·exact .inr ⟨_,by rw [if_neg e],trivial⟩
  ·exact .inr ⟨.inl (),by simp [rF,fa,o],trivial⟩) 0 (by omega)
 exact ⟨r,h1⟩
def pO (hh:List bo)(m:bC):Bool :=
 decide (0≤m.dt∧m.dt<hh.length∧0≤m.dM∧m.dM<hh.length∧1≤m.gk∧m.gk≤3) &&
 match hh[m.dt.toNat]?,hh[m.dM.toNat]? with
 | some a,some b=> !(a.ga == b.ga && a.f6 == b.f6) && !(a.gQ && b.gQ)
 | _,_=>false
theorem Ev (s:cl)(m:bC):zY s m=some (pO s.bY m):=by
 unfold zY pO
 simp only [fa]
 by_cases h1:m.dt<0
 ·simp [h1];omega
 by_cases o:(s.bY.length:Int)≤m.dt
 ·simp [h1,o];omega
 by_cases af:m.dM<0
 ·simp [h1,o,af];omega
 by_cases av:(s.bY.length:Int)≤m.dM
 ·simp [h1,o,af,av];omega
 by_cases aA:m.gk<1
 ·simp [h1,o,af,av,aA];omega
 by_cases aX:3<m.gk
 ·simp [h1,o,af,av,aA,aX];omega
 obtain ⟨x,U⟩ : ∃x,s.bY[m.dt.toNat]? = some x:=⟨_,List.getElem?_eq_getElem (by omega)⟩
 obtain ⟨y,aZ⟩ : ∃y,s.bY[m.dM.toNat]? = some y:=⟨_,List.getElem?_eq_getElem (by omega)⟩
 have bp:0≤m.dt∧m.dt<s.bY.length:=by omega
 have ck:0≤m.dM∧m.dM<s.bY.length:=by omega
 have jJ:0≤m.dt∧m.dt<s.bY.length∧0≤m.dM∧m.dM<s.bY.length∧1≤m.gk∧m.gk≤3:=by omega
 rw [decide_eq_false h1,decide_eq_false o,decide_eq_false af,decide_eq_false av,decide_eq_false aA,decide_eq_false aX,decide_eq_true jJ,if_pos bp,U]
 simp only [Bool.false_eq_true,if_false,Option.bind_eq_bind,Option.bind_some,Bool.true_and]
 rw [if_pos ck,aZ]
 simp only [Option.bind_some]
 by_cases e1:x.ga=y.ga<;>by_cases aD:x.f6=y.f6<;>by_cases zJ:x.gQ=true<;>by_cases C9:y.gQ=true<;>simp [e1,aD,zJ,C9]
theorem PA (hh:List bo)(eb:List bC)(aE:hh.length≤6)(Fy:eb.length≤8)(i:Int):
 zX (R (len_ bw hh-1)) eb (len_ bB eb) hh i =
 (od eb hh eb (len_ bB eb) i).map (Sum.map id (Sum.map id fun _=>())):=by
 have hw:R ((hh.length:Nat)-1)=(hh.length:Nat)-1:=cw (by omega) (by omega)
 unfold zX od uJ
 simp only [fa,hw,Ev,qX,Option.bind_eq_bind,Option.bind_some]
 by_cases h1:i<(eb.length:Int)
 ·by_cases h0:0≤i
  ·obtain ⟨m,hm⟩ : ∃x,eb[i.toNat]? = some x:=⟨_,List.getElem?_eq_getElem (by omega)⟩
   simp only [h1,h0,hm,decide_true,if_true,and_self,Option.bind_some]
   unfold pO
   by_cases hA:0≤m.dt∧m.dt≤(hh.length:Int)-1
   ·by_cases gU:0≤m.dM∧m.dM≤(hh.length:Int)-1
    ·by_cases hY:1≤m.gk∧m.gk≤3
     ·obtain ⟨x,U⟩ : ∃x,hh[m.dt.toNat]? = some x:=⟨_,List.getElem?_eq_getElem (by omega)⟩
      obtain ⟨y,aZ⟩ : ∃y,hh[m.dM.toNat]? = some y:=⟨_,List.getElem?_eq_getElem (by omega)⟩
      have bp:0≤m.dt∧m.dt<hh.length:=by omega
      have ck:0≤m.dM∧m.dM<hh.length:=by omega
      have jJ:0≤m.dt∧m.dt<hh.length∧0≤m.dM∧m.dM<hh.length∧1≤m.gk∧m.gk≤3:=by omega
      rw [decide_eq_true hA,decide_eq_true gU,decide_eq_true hY,decide_eq_true jJ]
      simp only [if_true,Option.bind_some,Bool.true_and]
      rw [if_pos bp,U]
      simp only [Option.bind_some]
      rw [if_pos ck,aZ]
      simp only [Option.bind_some]
      by_cases e1:x.ga=y.ga<;>by_cases aD:x.f6=y.f6<;>by_cases zJ:x.gQ=true<;>by_cases C9:y.gQ=true<;>simp [e1,aD,zJ,C9]
     ·have jJ : ¬(0≤m.dt∧m.dt<hh.length∧0≤m.dM∧m.dM<hh.length∧1≤m.gk∧m.gk≤3):=by omega
      rw [decide_eq_true hA,decide_eq_true gU,decide_eq_false hY,decide_eq_false jJ]
      simp
    ·have jJ : ¬(0≤m.dt∧m.dt<hh.length∧0≤m.dM∧m.dM<hh.length∧1≤m.gk∧m.gk≤3):=by omega
     rw [decide_eq_true hA,decide_eq_false gU,decide_eq_false jJ]
     simp
   ·have jJ : ¬(0≤m.dt∧m.dt<hh.length∧0≤m.dM∧m.dM<hh.length∧1≤m.gk∧m.gk≤3):=by omega
    rw [decide_eq_false hA,decide_eq_false jJ]
    simp
  ·simp [h1,h0]
 ·simp [h1]
theorem O0 (hh:List bo)(eb:List bC)(Fy:eb.length≤8): ∃r,uu eb hh eb (len_ bB eb) 0=some r∧ ∀k,r = .inr k→0≤k:=by
 exact jj (f:=fun w=>od eb hh eb (len_ bB eb) w) (fun i=>0≤i∧i≤eb.length) (fun i=>(eb.length-i).toNat) (fun r=> ∀k,r = .inr k→0≤k) (fun i ah=>by
  obtain ⟨h0,h1⟩:=ah
  by_cases o:i<(eb.length:Int)
  ·have hw:R (i+1)=i+1:=cw (by omega) (by omega)
   obtain ⟨x,U⟩ : ∃x,eb[i.toNat]? = some x:=⟨_,List.getElem?_eq_getElem (by omega)⟩
   unfold od uJ
   simp only [fa,o,h0,hw,U,Ev,decide_true,if_true,and_self,Option.bind_eq_bind,Option.bind_some]
   by_cases e:(!pO hh x)=true
   ·exact .inr ⟨_,by rw [if_pos e],by intro k ba;simp at ba;omega⟩
   ·exact .inl ⟨i+1,by rw [if_neg e],by omega,by omega⟩
  ·exact .inr ⟨.inl (),by simp [od,fa,o],by intro k ba;simp at ba⟩) 0 (by omega)
theorem Pe (s:cl)(i0:lX s): ∃r,nn s=some r∧yd s=some r:=by
 unfold nn yd
 by_cases h1:6<(s.bY.length:Int)
 ·exact ⟨false,by simp [fa,h1],by simp [fa,h1]⟩
 by_cases o:8<(s.bs.length:Int)
 ·exact ⟨false,by simp [fa,h1,o],by simp [fa,h1,o]⟩
 obtain ⟨r,ap⟩:=J4 s i0
 rw [Pp,ap]
 obtain ⟨q,bb,l6⟩:=O0 s.bY s.bs (by omega)
 have Ny:DN (R (len_ bw s.bY-1)) s.bs (len_ bB s.bs) s.bY 0=some (Sum.map id (fun _=>()) q) :=
  Q9 (f:=fun w=>od s.bs s.bY s.bs (len_ bB s.bs) w) (Sum.map id fun _=>()) (fun _=>True) (fun _ _ _ _=>trivial)
   (fun i _=>PA s.bY s.bs (by omega) (by omega) i) 0 q bb trivial
 simp only [zQ,zT,bb,Ny,Option.bind_eq_bind,Option.bind_some]
 have d1:decide ((6:Int)<len_ bw s.bY)=false:=by rw [fa];exact decide_eq_false h1
 have d2:decide ((8:Int)<len_ bB s.bs)=false:=by rw [fa];exact decide_eq_false o
 rw [d1,d2]
 simp only [Bool.false_eq_true,if_false]
 cases r with
 | inr a=>exact ⟨false,rfl,rfl⟩
 | inl a =>
  cases q with
  | inl b=>exact ⟨true,rfl,by simp⟩
  | inr k =>
   have:=l6 k rfl
   exact ⟨false,rfl,by simp [this]⟩
theorem Zy (j:bo)(h:pI j=some true): -50≤j.ga∧j.ga≤50∧ -50≤j.f6∧j.f6≤50:=by
 unfold pI at h
 cases a5:tu j.hj with
 | none=>simp [a5] at h
 | some r =>
  simp only [a5,qX,Option.bind_eq_bind,Option.bind_some] at h
  cases r with
  | false=>simp at h
  | true =>
   by_cases a : -50≤j.ga∧j.ga≤50
   ·by_cases b : -50≤j.f6∧j.f6≤50
    ·omega
    ·simp [a,b] at h
   ·simp [a] at h
theorem abQ (s:cl)(i0:lX s)(h:rH s.bY (len_ bw s.bY) s.bs 0=some (.inl ())): ∀(n:Nat) j,s.bY[n]? = some j→pI j=some true:=by
 have hm:=yD
 obtain ⟨⟨gI,hL⟩,-⟩:=i0
 obtain ⟨r,h1,o⟩:=jj (f:=fun w=>rF s.bY (len_ bw s.bY) s.bs w) (fun i=>0≤i∧i≤s.bY.length∧ ∀(n:Nat) j,(n:Int)<i→s.bY[n]? = some j→pI j=some true) (fun i=>(s.bY.length-i).toNat)
  (fun r=>r = .inl ()→ ∀(n:Nat) j,s.bY[n]? = some j→pI j=some true) (fun i ah=>by
  obtain ⟨h0,h1,af⟩:=ah
  by_cases o:i<(s.bY.length:Int)
  ·have hw:R (i+1)=i+1:=cw (by omega) (by omega)
   obtain ⟨x,U⟩ : ∃x,s.bY[i.toNat]? = some x:=⟨_,List.getElem?_eq_getElem (by omega)⟩
   obtain ⟨p,ak⟩:=PL x (hL x (List.mem_of_getElem? U)).1
   obtain ⟨q,bb⟩:=Po ⟨s.bY,s.bs⟩ x.hj gI
   unfold rF
   simp only [fa,o,h0,hw,U,ak,bb,decide_true,if_true,and_self,Option.bind_eq_bind,Option.bind_some]
   by_cases e:p=true
   ·rw [if_pos e]
    by_cases aD:(q != i)=true
    ·exact .inr ⟨_,by rw [if_pos aD],by simp⟩
    ·refine .inl ⟨i+1,by rw [if_neg aD],⟨by omega,by omega,fun n j a5 aE=> ?_⟩,by omega⟩
     by_cases c:(n:Int)<i
     ·exact af n j c aE
     ·have:n=i.toNat:=by omega
      subst this
      rw [U] at aE
      obtain rfl:=Option.some.inj aE
      rw [ak,e]
   ·exact .inr ⟨_,by rw [if_neg e],by simp⟩
  ·refine .inr ⟨.inl (),by simp [rF,fa,o],fun _ n j aE=>af n j (by have:=gb aE;omega) aE⟩) 0 ⟨by omega,by omega,fun n j a5=>by omega⟩
 have qF:rH s.bY (len_ bw s.bY) s.bs 0=some r:=h1
 rw [h] at qF
 exact o (Option.some.inj qF).symm
theorem aa5 (hh:List bo)(eb:List bC)(Fy:eb.length≤8)(h:uu eb hh eb (len_ bB eb) 0=some (.inl ())): ∀(n:Nat) m,eb[n]? = some m→pO hh m=true:=by
 obtain ⟨r,h1,o⟩:=jj (f:=fun w=>od eb hh eb (len_ bB eb) w) (fun i=>0≤i∧i≤eb.length∧ ∀(n:Nat) m,(n:Int)<i→eb[n]? = some m→pO hh m=true) (fun i=>(eb.length-i).toNat)
  (fun r=>r = .inl ()→ ∀(n:Nat) m,eb[n]? = some m→pO hh m=true) (fun i ah=>by
  obtain ⟨h0,h1,af⟩:=ah
  by_cases o:i<(eb.length:Int)
  ·have hw:R (i+1)=i+1:=cw (by omega) (by omega)
   obtain ⟨x,U⟩ : ∃x,eb[i.toNat]? = some x:=⟨_,List.getElem?_eq_getElem (by omega)⟩
   unfold od uJ
   simp only [fa,o,h0,hw,U,Ev,decide_true,if_true,and_self,Option.bind_eq_bind,Option.bind_some]
   by_cases e:(!pO hh x)=true
   ·exact .inr ⟨_,by rw [if_pos e],by simp⟩
   ·refine .inl ⟨i+1,by rw [if_neg e],⟨by omega,by omega,fun n j a5 aE=> ?_⟩,by omega⟩
    by_cases c:(n:Int)<i
    ·exact af n j c aE
    ·have:n=i.toNat:=by omega
     subst this
     rw [U] at aE
     obtain rfl:=Option.some.inj aE
     simpa using e
  ·refine .inr ⟨.inl (),by simp [od,fa,o],fun _ n j aE=>af n j (by have:=gb aE;omega) aE⟩) 0 ⟨by omega,by omega,fun n j a5=>by omega⟩
 have qF:uu eb hh eb (len_ bB eb) 0=some r:=h1
 rw [h] at qF
 exact o (Option.some.inj qF).symm
theorem uN (s:cl)(i0:lX s)(h:nn s=some true):
 (∀(n:Nat) j,s.bY[n]? = some j→pI j=some true)∧(∀(n:Nat) m,s.bs[n]? = some m→pO s.bY m=true)∧s.bY.length≤6∧s.bs.length≤8:=by
 obtain ⟨p,p1,hE⟩:=Pe s i0
 rw [h] at p1
 obtain rfl:=Option.some.inj p1
 unfold yd at hE
 by_cases h1:6<(s.bY.length:Int)
 ·simp [fa,h1] at hE
 by_cases o:8<(s.bs.length:Int)
 ·simp [fa,h1,o] at hE
 obtain ⟨r,ap⟩:=J4 s i0
 rw [Pp,ap] at hE
 obtain ⟨q,bb,l6⟩:=O0 s.bY s.bs (by omega)
 have d1:decide ((6:Int)<len_ bw s.bY)=false:=by rw [fa];exact decide_eq_false h1
 have d2:decide ((8:Int)<len_ bB s.bs)=false:=by rw [fa];exact decide_eq_false o
 rw [d1,d2] at hE
 simp only [zQ,zT,bb,Bool.false_eq_true,if_false,Option.bind_eq_bind,Option.bind_some] at hE
 cases r with
 | inr a=>simp at hE
 | inl a =>
  cases q with
  | inr k =>
   have:=l6 k rfl
   simp [this] at hE
  | inl b=>exact ⟨abQ s i0 ap,aa5 s.bY s.bs (by omega) bb,by omega,by omega⟩
def pC (s:cl):Prop:=(∀(n:Nat) j,s.bY[n]? = some j→ -50≤j.ga∧j.ga≤50∧ -50≤j.f6∧j.f6≤50)∧(∀(n:Nat) m,s.bs[n]? = some m→pO s.bY m=true)∧s.bY.length≤6∧s.bs.length≤8
theorem Zg (s:cl)(i0:lX s)(h:nn s=some true):pC s:=by
 obtain ⟨f1,f2,f3,f4⟩:=uN s i0 h
 exact ⟨fun n j aE=>Zy j (f1 n j aE),f2,f3,f4⟩
theorem ado (s:cl)(h:pC s)(k:Int)(h0:0≤k)(h1:k<s.bs.length):
 ∃x y,rG s k=some (x,y)∧(-100≤x∧x≤100)∧(-100≤y∧y≤100):=by
 obtain ⟨f1,f2,f3,f4⟩:=h
 obtain ⟨m,hm⟩ : ∃x,s.bs[k.toNat]? = some x:=⟨_,List.getElem?_eq_getElem (by omega)⟩
 have wo:=f2 _ m hm
 unfold pO at wo
 simp only [Bool.and_eq_true,decide_eq_true_eq] at wo
 obtain ⟨⟨g1,g2,g3,g4,-⟩,-⟩:=wo
 obtain ⟨a,bJ⟩ : ∃x,s.bY[m.dt.toNat]? = some x:=⟨_,List.getElem?_eq_getElem (by omega)⟩
 obtain ⟨b,aT⟩ : ∃x,s.bY[m.dM.toNat]? = some x:=⟨_,List.getElem?_eq_getElem (by omega)⟩
 have agG:=f1 _ a bJ
 have agH:=f1 _ b aT
 have e1:R (b.ga-a.ga)=b.ga-a.ga:=cw (by omega) (by omega)
 have aD:R (b.f6-a.f6)=b.f6-a.f6:=cw (by omega) (by omega)
 have cJ:0≤k∧k<s.bs.length:=⟨h0,h1⟩
 have bp:0≤m.dt∧m.dt<s.bY.length:=⟨g1,g2⟩
 have ck:0≤m.dM∧m.dM<s.bY.length:=⟨g3,g4⟩
 refine ⟨b.ga-a.ga,b.f6-a.f6,?_,by omega,by omega⟩
 unfold rG
 simp only [if_pos cJ,hm,if_pos bp,if_pos ck,bJ,aT,Option.bind_eq_bind,Option.bind_some,e1,aD]
theorem adp (s:cl)(h:pC s)(k:Int)(h0:0≤k)(h1:k<s.bs.length){v:Int×Int}(bk:rG s k=some v):Ap s k=some v:=by
 obtain ⟨f1,f2,f3,f4⟩:=h
 obtain ⟨m,hm⟩ : ∃x,s.bs[k.toNat]? = some x:=⟨_,List.getElem?_eq_getElem (by omega)⟩
 have wo:=f2 _ m hm
 unfold pO at wo
 simp only [Bool.and_eq_true,decide_eq_true_eq] at wo
 obtain ⟨⟨g1,g2,g3,g4,-⟩,-⟩:=wo
 obtain ⟨a,bJ⟩ : ∃x,s.bY[m.dt.toNat]? = some x:=⟨_,List.getElem?_eq_getElem (by omega)⟩
 obtain ⟨b,aT⟩ : ∃x,s.bY[m.dM.toNat]? = some x:=⟨_,List.getElem?_eq_getElem (by omega)⟩
 have agG:=f1 _ a bJ
 have agH:=f1 _ b aT
 have e1:R (b.ga-a.ga)=b.ga-a.ga:=cw (by omega) (by omega)
 have aD:R (b.f6-a.f6)=b.f6-a.f6:=cw (by omega) (by omega)
 have cJ:0≤k∧k<s.bs.length:=⟨h0,h1⟩
 have bp:0≤m.dt∧m.dt<s.bY.length:=⟨g1,g2⟩
 have ck:0≤m.dM∧m.dM<s.bY.length:=⟨g3,g4⟩
 have tj:rG s k=some (b.ga-a.ga,b.f6-a.f6):=by
  unfold rG
  simp only [if_pos cJ,hm,if_pos bp,if_pos ck,bJ,aT,Option.bind_eq_bind,Option.bind_some,e1,aD]
 rw [bk] at tj
 obtain rfl:=Option.some.inj tj
 unfold Ap
 simp only [if_pos cJ,hm,if_pos bp,if_pos ck,bJ,aT,Option.bind_eq_bind,Option.bind_some,e1,aD]
def sc (l:List Int)(n:Nat)(x:Int):Prop:=0≤x∧x<1000000000∧(∀z,l[n]? = some z→x=z)∧(l[n]? = none→x=0)
theorem vF {l:List Int}(h:cD l){n:Nat}(a5:n<l.length):sc l n l[n]:=by
 have U:=List.getElem?_eq_getElem a5
 have h0:=h.get U
 exact ⟨h0.1,h0.2,fun z cF=>by rw [U] at cF;exact Option.some.inj cF,fun h=>by rw [U] at h;simp at h⟩
theorem y2 {l:List Int}{n:Nat}(a5:¬n<l.length):sc l n 0:=by
 have U:l[n]? = none:=by simp;omega
 exact ⟨by omega,by omega,fun z cF=>by rw [U] at cF;simp at cF,fun _=>rfl⟩
theorem sc.take {l:List Int}{n:Nat}{x:Int}(h:sc l n x):V (l.take (n+1))=V (l.take n)+B n*x:=Rg h.2.2.1 h.2.2.2
theorem acI {a b row:List Int}{carry:Int}{n:Nat}(bJ:cD a)(aT:cD b)(bj:carry=0∨carry=1)(rp:a.length≤1000000)(Nz:b.length≤1000000)(ap:row.length≤1000001)(FD:n≤1000001)(a5:n<a.length∨n<b.length∨carry=1):
 ∃x y,sc a n x∧sc b n y∧uF a b carry n row=some (.inl ((carry+x+y) / 1000000000,((n+1:Nat):Int),row++[(carry+x+y) % 1000000000])):=by
 have mI:0≤carry∧carry≤1:=by omega
 unfold uF
 simp only [fT]
 by_cases h1:n<a.length
 ·have hA:=vF bJ h1
  have U:=List.getElem?_eq_getElem h1
  rw [if_pos (by simp;omega),if_pos (by omega),Int.toNat_natCast,U]
  simp only [Option.bind_eq_bind,Option.bind_some]
  by_cases o:n<b.length
  ·have gU:=vF aT o
   have aZ:=List.getElem?_eq_getElem o
   have gI:=hA.1
   have hL:=hA.2.1
   have jt:=gU.1
   have kI:=gU.2.1
   refine ⟨a[n],b[n],hA,gU,?_⟩
   rw [if_pos (by simp;omega),if_pos (by omega),aZ]
   simp only [Option.bind_some]
   rw [cw (x:=carry+a[n]) (by omega) (by omega),cw (x:=carry+a[n]+b[n]) (by omega) (by omega),qd (by omega),nl (by omega),cw (by omega) (by omega),nU (n:=n) (by omega),if_pos (by simp;omega)]
  ·have gI:=hA.1
   have hL:=hA.2.1
   refine ⟨a[n],0,hA,y2 o,?_⟩
   rw [if_neg (by simp;omega),cw (x:=carry+a[n]) (by omega) (by omega),qd (by omega),nl (by omega),cw (by omega) (by omega),nU (n:=n) (by omega),if_pos (by simp;omega),Int.add_zero]
 ·rw [if_neg (by simp;omega)]
  by_cases o:n<b.length
  ·have gU:=vF aT o
   have aZ:=List.getElem?_eq_getElem o
   have jt:=gU.1
   have kI:=gU.2.1
   refine ⟨0,b[n],y2 h1,gU,?_⟩
   rw [if_pos (by simp;omega),if_pos (by omega),Int.toNat_natCast,aZ]
   simp only [Option.bind_eq_bind,Option.bind_some]
   rw [cw (x:=carry+b[n]) (by omega) (by omega),qd (by omega),nl (by omega),cw (by omega) (by omega),nU (n:=n) (by omega),if_pos (by simp;omega),Int.add_zero]
  ·refine ⟨0,0,y2 h1,y2 o,?_⟩
   rw [if_neg (by simp;omega),if_pos (by simp;omega),qd (by omega),nl (by omega),cw (by omega) (by omega),nU (n:=n) (by omega),if_pos (by simp;omega),Int.add_zero,Int.add_zero]
theorem acJ {a b:List Int}(bJ:cD a)(aT:cD b)(rp:a.length≤900000)(Nz:b.length≤900000): ∃r,yt a b=some r∧cD r∧V r=V a+V b∧r.length≤a.length+b.length+1:=by
 obtain ⟨r,ap,h1,o,af⟩:=jj (f:=fun w:Int×Int×List Int=>uF a b w.1 w.2.1 w.2.2) (eS:=fun w=> ∃n:Nat,w.2.1=n∧w.2.2.length=n∧(w.1=0∨w.1=1)∧cD w.2.2∧V w.2.2+w.1*B n=V (a.take n)+V (b.take n)∧(n≤a.length∨n≤b.length∨w.1=0)∧n≤a.length+b.length+1) (m:=fun w=>(a.length+b.length+2-w.2.1.toNat))
  (fun r=>cD r∧V r=V a+V b∧r.length≤a.length+b.length+1) (by
    rintro ⟨carry,ii,row⟩ ⟨n,e1,aD,bP,c4,dh,dW,eP⟩
    simp only at e1 aD bP c4 dh dW
    subst e1
    by_cases a5:n<a.length∨n<b.length∨carry=1
    ·obtain ⟨x,y,U,aZ,py⟩:=acI (row:=row) bJ aT bP (by omega) (by omega) (by omega) (by omega) a5
     have x0:=U.1
     have x1:=U.2.1
     have Uv:=aZ.1
     have mR:=aZ.2.1
     have Nt:n≤a.length+b.length:=by omega
     refine .inl ⟨_,py,⟨n+1,rfl,by simp [aD],by simp only;omega,c4.append (cD.cons (by omega) cD.nil),?_,?_,by omega⟩,by simp only;omega⟩
     ·simp only
      rw [vo,aD,mm,lp,BU,U.take,aZ.take]
      have:=Int.mul_ediv_add_emod (carry+x+y) 1000000000
      generalize (carry+x+y) / 1000000000=u at *
      generalize (carry+x+y) % 1000000000=t at *
      have cj:t=carry+x+y-1000000000*u:=by omega
      rw [cj]
      grind
     ·simp only
      by_cases h:n+1≤a.length∨n+1≤b.length
      ·omega
      ·
       have aiv : ¬n<a.length:=by omega
       have aiw : ¬n<b.length:=by omega
       have h6:x=0:=U.2.2.2 (by simp;omega)
       have ji:y=0:=aZ.2.2.2 (by simp;omega)
       omega
    ·refine .inr ⟨row,?_,c4,?_,by omega⟩
     ·unfold uF
      simp only [fT]
      rw [if_neg (by simp;omega),if_neg (by simp;omega),if_neg (by simp;omega)]
     ·have bj:carry=0:=by omega
      rw [bj,List.take_of_length_le (by omega),List.take_of_length_le (by omega)] at dh
      omega) (0,0,[]) ⟨0,rfl,rfl,.inl rfl,cD.nil,by simp [V],by omega,by omega⟩
 unfold yt Ky
 rw [ap]
 exact ⟨r,rfl,h1,o,af⟩
theorem abR {neg:Bool}{r:List Int}(ap:cD r)(aU:r.length≤5000000)(qM:V r<B 60):h8 neg r=some (ho (ep neg (V r))):=by
 have h0:=mV ap
 have:h8 neg r=h8 neg (L (V r)):=by
  unfold h8 ys
  have hlen:=(jo h0).2 qM
  rw [rN ap aU,rN (hq _) (by omega),ex h0]
 rw [this,qp h0 qM]
theorem abS {a b row:List Int}{carry:Int}{n:Nat}(bJ:cD a)(aT:cD b)(bj:carry=0∨carry=1)(rp:a.length≤1000000)(a5:n<a.length)(ap:n<row.length):
 ∃x y,sc a n x∧sc b n y∧ya a b a.length carry n row=some (.inl ((carry+x+y) / 1000000000,((n+1:Nat):Int),row.set n ((carry+x+y) % 1000000000))):=by
 have mI:0≤carry∧carry≤1:=by omega
 have hA:=vF bJ a5
 have U:=List.getElem?_eq_getElem a5
 have gI:=hA.1
 have hL:=hA.2.1
 unfold ya
 simp only [fT]
 rw [if_pos (by simp;omega),if_pos (by omega),Int.toNat_natCast,U]
 simp only [Option.bind_eq_bind,Option.bind_some]
 by_cases o:n<b.length
 ·have gU:=vF aT o
  have aZ:=List.getElem?_eq_getElem o
  have jt:=gU.1
  have kI:=gU.2.1
  refine ⟨a[n],b[n],hA,gU,?_⟩
  rw [if_pos (by simp;omega),if_pos (by omega),aZ]
  simp only [Option.bind_some]
  rw [if_pos (by omega),if_pos (by omega),cw (x:=a[n]+carry) (by omega) (by omega),cw (x:=a[n]+carry+b[n]) (by omega) (by omega),qd (by omega),nl (by omega),cw (by omega) (by omega),nU (n:=n) (by omega),Nat.zero_add,Int.add_comm a[n] carry]
 ·refine ⟨a[n],0,hA,y2 o,?_⟩
  rw [if_neg (by simp;omega),if_pos (by omega),if_pos (by omega),cw (x:=a[n]+carry) (by omega) (by omega),qd (by omega),nl (by omega),cw (by omega) (by omega),nU (n:=n) (by omega),Nat.zero_add,Int.add_zero,Int.add_comm a[n] carry]
theorem abT {a b:List Int}(bJ:cD a)(aT:cD b)(rp:a.length≤900000)(ub:b.length≤a.length):
 ∃r,AV a b a.length 0 0 (List.replicate (a.length+1) 0)=some r∧(r.1=0∨r.1=1)∧cD r.2∧r.2.length=a.length+1∧V r.2+r.1*B a.length=V a+V b∧r.2[a.length]? = some 0:=by
 refine jj (eS:=fun w:Int×Int×List Int=> ∃n:Nat,w.2.1=n∧n≤a.length∧(w.1=0∨w.1=1)∧cD w.2.2∧w.2.2.length=a.length+1∧V w.2.2+w.1*B n=V (a.take n)+V (b.take n)∧ ∀j,n≤j→j<a.length+1→w.2.2[j]? = some 0) (m:=fun w=>a.length-w.2.1.toNat) _ ?_ _ ⟨0,rfl,by omega,.inl rfl,cD.M9 _,by simp,by simp [V,Mg],fun j _ h=>by simp [List.getElem?_replicate];omega⟩
 rintro ⟨carry,ii,row⟩ ⟨n,e1,aD,bP,c4,dh,dW,eP⟩
 simp only at e1 bP c4 dh dW eP ⊢
 subst e1
 by_cases a5:n=a.length
 ·subst a5
  refine .inr ⟨(carry,row),by simp [ya],bP,c4,dh,?_,eP _ (Nat.le_refl _) (by omega)⟩
  rw [List.take_length,List.take_of_length_le ub] at dW
  exact dW
 ·obtain ⟨x,y,U,aZ,py⟩:=abS (row:=row) (n:=n) bJ aT bP (by omega) (by omega) (by omega)
  have x0:=U.1
  have x1:=U.2.1
  have Uv:=aZ.1
  have mR:=aZ.2.1
  refine .inl ⟨_,py,⟨n+1,rfl,by omega,by simp only;omega,c4.set (by omega),by simpa using dh,?_,fun j h1 o=> ?_⟩,by simp only;omega⟩
  ·simp only
   rw [rW (eP n (Nat.le_refl _) (by omega)),mm,U.take,aZ.take]
   have:=Int.mul_ediv_add_emod (carry+x+y) 1000000000
   generalize (carry+x+y) / 1000000000=u at *
   generalize (carry+x+y) % 1000000000=t at *
   have cj:t=carry+x+y-1000000000*u:=by omega
   rw [cj]
   grind
  ·simp only
   rw [List.getElem?_set_ne (by omega)]
   exact eP j (by omega) o
theorem QR {a b:List Int}(bJ:cD a)(aT:cD b)(rp:a.length≤900000)(ub:b.length≤a.length):
 (if 0≤(R ((len_ eI a)+(1:Int)))∧(8:Int)*(R ((len_ eI a)+(1:Int)))≤281474976710656∧(R ((len_ eI a)+(1:Int)))<9223372036854775808 then
   (AV a b (len_ eI a) 0 0 (List.replicate (R ((len_ eI a)+(1:Int))).toNat 0:List Int)).bind fun bn =>
   if 0≤(len_ eI a)∧(len_ eI a)<(bn.2.length:Nat) then
   if (0+(len_ eI a).toNat)<bn.2.length then
   (qn (bn.2.set (0+(len_ eI a).toNat) bn.1)).bind fun bO=>some bO
   else none
   else none
   else none)=some (L (V a+V b)):=by
 obtain ⟨r,ap,h1,o,af,av,aA⟩:=abT bJ aT rp ub
 rw [fT,nU (by omega),if_pos (by omega),Int.toNat_natCast,ap,Option.bind_some,if_pos (by omega),Int.toNat_natCast,Nat.zero_add,if_pos (by omega)]
 have Co:cD (r.2.set a.length r.1):=o.set (by omega)
 rw [yS Co (by simp;omega),rW aA,Option.bind_some]
 congr 2
 rw [← av]
 grind
theorem adq {a b:List Int}(bJ:cD a)(aT:cD b)(rp:a.length≤900000)(Nz:b.length≤900000):yB a b=some (L (V a+V b)):=by
 unfold yB
 by_cases h:a.length<b.length
 ·rw [if_pos (by rw [fT,fT];simpa using h)]
  have:=QR aT bJ Nz (by omega)
  rw [Int.add_comm (V a)]
  exact this
 ·rw [if_neg (by rw [fT,fT];simpa using h)]
  exact QR bJ aT rp (by omega)
theorem aa6 {a b row:List Int}{less:Int}{n:Nat}(bJ:cD a)(aT:cD b)(aU:less=0∨less=1)(rp:a.length≤1000000)(a5:n<a.length)(ap:n<row.length):
 ∃x y,sc a n x∧sc b n y∧x7 b a a.length less n row=some (.inl (if x-less-y<0 then (1,((n+1:Nat):Int),row.set n (x-less-y+1000000000)) else (0,((n+1:Nat):Int),row.set n (x-less-y)))):=by
 have mI:0≤less∧less≤1:=by omega
 have hA:=vF bJ a5
 have U:=List.getElem?_eq_getElem a5
 have gI:=hA.1
 have hL:=hA.2.1
 unfold x7
 simp only [fT]
 rw [if_pos (by simp;omega),if_pos (by omega),Int.toNat_natCast,U]
 simp only [Option.bind_eq_bind,Option.bind_some]
 by_cases o:n<b.length
 ·have gU:=vF aT o
  have aZ:=List.getElem?_eq_getElem o
  have jt:=gU.1
  have kI:=gU.2.1
  refine ⟨a[n],b[n],hA,gU,?_⟩
  rw [if_pos (by simp;omega),if_pos (by omega),aZ]
  simp only [Option.bind_some]
  rw [cw (x:=a[n]-less) (by omega) (by omega),cw (x:=a[n]-less-b[n]) (by omega) (by omega),nU (n:=n) (by omega),cw (x:=a[n]-less-b[n]+1000000000) (by omega) (by omega),Nat.zero_add]
  by_cases h:a[n]-less-b[n]<0
  ·rw [if_pos (by simpa using h),if_pos h,if_pos (by omega),if_pos (by omega)]
  ·rw [if_neg (by simpa using h),if_neg h,if_pos (by omega),if_pos (by omega)]
 ·refine ⟨a[n],0,hA,y2 o,?_⟩
  rw [if_neg (by simp;omega),cw (x:=a[n]-less) (by omega) (by omega),nU (n:=n) (by omega),cw (x:=a[n]-less+1000000000) (by omega) (by omega),Nat.zero_add,Int.sub_zero]
  by_cases h:a[n]-less<0
  ·rw [if_pos (by simpa using h),if_pos h,if_pos (by omega),if_pos (by omega)]
  ·rw [if_neg (by simpa using h),if_neg h,if_pos (by omega),if_pos (by omega)]
theorem Rm {a b:List Int}(bJ:cD a)(aT:cD b)(hlen:b.length≤a.length)(ub:V b≤V a)(rp:a.length≤900000):tA a b=some (L (V a-V b)):=by
 have : ∃r,KV b a a.length 0 0 (List.replicate a.length 0)=some r∧cD r∧r.length=a.length∧V r=V a-V b:=by
  refine jj (eS:=fun w:Int×Int×List Int=> ∃n:Nat,w.2.1=n∧n≤a.length∧(w.1=0∨w.1=1)∧cD w.2.2∧w.2.2.length=a.length∧V w.2.2-w.1*B n=V (a.take n)-V (b.take n)∧ ∀j,n≤j→j<a.length→w.2.2[j]? = some 0) (m:=fun w=>a.length-w.2.1.toNat) _ ?_ _ ⟨0,rfl,by omega,.inl rfl,cD.M9 _,by simp,by simp [V,Mg],fun j _ h=>by simp [List.getElem?_replicate];omega⟩
  rintro ⟨less,ii,row⟩ ⟨n,e1,aD,bP,c4,dh,dW,eP⟩
  simp only at e1 bP c4 dh dW eP ⊢
  subst e1
  by_cases a5:n=a.length
  ·subst a5
   refine .inr ⟨row,by simp [x7],c4,dh,?_⟩
   rw [List.take_length,List.take_of_length_le hlen] at dW
   have o:=nz c4
   rw [dh] at o
   rcases bP with rfl|rfl<;>omega
  ·obtain ⟨x,y,U,aZ,py⟩:=aa6 (row:=row) (n:=n) bJ aT bP (by omega) (by omega) (by omega)
   have x0:=U.1
   have x1:=U.2.1
   have Uv:=aZ.1
   have mR:=aZ.2.1
   rw [py]
   refine .inl ⟨_,rfl,?_⟩
   by_cases h:x-less-y<0
   ·rw [if_pos h]
    refine ⟨⟨n+1,rfl,by omega,.inr rfl,c4.set (by omega),by simpa using dh,?_,fun j h1 o=> ?_⟩,by simp only;omega⟩
    ·simp only
     rw [rW (eP n (Nat.le_refl _) (by omega)),mm,U.take,aZ.take]
     grind
    ·simp only
     rw [List.getElem?_set_ne (by omega)]
     exact eP j (by omega) o
   ·rw [if_neg h]
    refine ⟨⟨n+1,rfl,by omega,.inl rfl,c4.set (by omega),by simpa using dh,?_,fun j h1 o=> ?_⟩,by simp only;omega⟩
    ·simp only
     rw [rW (eP n (Nat.le_refl _) (by omega)),U.take,aZ.take]
     grind
    ·simp only
     rw [List.getElem?_set_ne (by omega)]
     exact eP j (by omega) o
 obtain ⟨r,ap,h1,o,af⟩:=this
 unfold tA
 simp only [fT]
 rw [if_pos (by omega),Int.toNat_natCast,ap]
 simp only [Option.bind_eq_bind,Option.bind_some]
 rw [yS h1 (by omega),af]
 rfl
theorem Sp {a b:Int}(h:decide (a<0)=decide (b<0)):ep (decide (a<0)) ((a.natAbs:Int)+(b.natAbs:Int))=a+b:=by
 have cP:a<0↔b<0:=by simpa using h
 unfold ep
 by_cases h1:a<0
 ·have:=cP.1 h1
  simp only [h1,decide_true,if_true]
  omega
 ·have : ¬b<0:=fun aT=>h1 (cP.2 aT)
  simp only [h1,decide_false,Bool.false_eq_true,if_false]
  omega
theorem E1 {a b:Int}(h:¬decide (a<0)=decide (b<0)):ep (decide (a<0)) ((a.natAbs:Int)-(b.natAbs:Int))=a+b∧ep (decide (b<0)) ((b.natAbs:Int)-(a.natAbs:Int))=a+b:=by
 have cP : ¬(a<0↔b<0):=by simpa using h
 unfold ep
 by_cases h1:a<0
 ·have o : ¬b<0:=fun aT=>cP ⟨fun _=>aT,fun _=>h1⟩
  simp only [h1,o,decide_true,if_true,decide_false,Bool.false_eq_true,if_false]
  omega
 ·have o:b<0:=by
   apply Classical.byContradiction
   intro aT
   exact cP ⟨fun h=>absurd h h1,fun h=>absurd h aT⟩
  simp only [h1,o,decide_true,if_true,decide_false,Bool.false_eq_true,if_false]
  omega
theorem EO {x y:Int}(U:0≤x)(Na:x≤y):(L x).length≤(L y).length:=by
 apply (jo U).2
 have:=nz (hq y)
 rw [ex (by omega)] at this
 omega
theorem QS {a b:Int}(bJ:(a.natAbs:Int)<B 50)(aT:(b.natAbs:Int)<B 50):qm (ho a) (ho b)=some (ho (a+b)):=by
 have tk:=(jo (k:=50) (n:=a.natAbs) (by omega)).2 bJ
 have wJ:=(jo (k:=50) (n:=b.natAbs) (by omega)).2 aT
 have qM:B 50+B 50≤B 60:=by
  have h1:B 51≤B 60:=q5 (by omega)
  have o:=oW 50
  rw [mm] at h1
  omega
 have b6:qm (ho a) (ho b)=(if (decide (a<0) == decide (b<0))=true then (yt (L a.natAbs) (L b.natAbs)).bind fun bV=>(h8 (decide (a<0)) bV).bind fun a6=>some a6 else (ql (L a.natAbs) (L b.natAbs)).bind fun bV=>if (decide ((0:Int)≤bV))=true then (so (L a.natAbs) (L b.natAbs)).bind fun ax=>(h8 (decide (a<0)) ax).bind fun bO=>some bO else (so (L b.natAbs) (L a.natAbs)).bind fun ax=>(h8 (decide (b<0)) ax).bind fun bO=>some bO):=rfl
 rw [b6]
 by_cases h:decide (a<0)=decide (b<0)
 ·rw [if_pos (by simpa using h)]
  obtain ⟨r,r1,bV,bn,a6⟩:=acJ (hq a.natAbs) (hq b.natAbs) (by omega) (by omega)
  rw [ex (by omega),ex (by omega)] at bn
  rw [r1,Option.bind_some,abR bV (by omega) (by omega),bn,Sp h]
  rfl
 ·rw [if_neg (by simpa using h),sB (jD _) (jD _) (by omega),ex (by omega),ex (by omega),Option.bind_some]
  by_cases bj:(b.natAbs:Int)≤a.natAbs
  ·have wq:0≤lc (a.natAbs:Int) b.natAbs:=by
    apply Int.not_lt.mp
    intro h1
    have:=tE.1 h1
    omega
   rw [if_pos (by simpa using wq),sub_eq (hq _) (hq _) (EO (by omega) bj) (by rw [ex (by omega),ex (by omega)];exact bj) (by omega),ex (by omega),ex (by omega),Option.bind_some,qp (by omega) (by omega),(E1 h).1]
   rfl
  ·have wq : ¬0≤lc (a.natAbs:Int) b.natAbs:=by
    have:=tE.2 (show (a.natAbs:Int)<b.natAbs by omega)
    omega
   rw [if_neg (by simpa using wq),sub_eq (hq _) (hq _) (EO (by omega) (by omega)) (by rw [ex (by omega),ex (by omega)];omega) (by omega),ex (by omega),ex (by omega),Option.bind_some,qp (by omega) (by omega),(E1 h).2]
   rfl
theorem acK {a b:Int}(bJ:(a.natAbs:Int)<B 50)(aT:(b.natAbs:Int)<B 50):yf (ho a) (ho b)=some (ho (a+b)):=by
 have tk:=(jo (k:=50) (n:=a.natAbs) (by omega)).2 bJ
 have wJ:=(jo (k:=50) (n:=b.natAbs) (by omega)).2 aT
 have b6:yf (ho a) (ho b)=((qR (L a.natAbs) (L b.natAbs)).bind fun r1=>if (decide (a<0) == decide (b<0))=true then (yB (L a.natAbs) (L b.natAbs)).bind fun bV=>(np (decide (a<0)) bV).bind fun a6=>some a6 else if (decide ((0:Int)≤r1))=true then (tA (L a.natAbs) (L b.natAbs)).bind fun ax=>(np (decide (a<0)) ax).bind fun bO=>some bO else (tA (L b.natAbs) (L a.natAbs)).bind fun ax=>(np (decide (b<0)) ax).bind fun bO=>some bO):=rfl
 rw [b6,Qo (jD _) (jD _) (by omega),ex (by omega),ex (by omega),Option.bind_some]
 by_cases h:decide (a<0)=decide (b<0)
 ·rw [if_pos (by simpa using h),adq (hq _) (hq _) (by omega) (by omega),ex (by omega),ex (by omega),Option.bind_some,st (by omega),Sp h]
  rfl
 ·rw [if_neg (by simpa using h)]
  by_cases bj:(b.natAbs:Int)≤a.natAbs
  ·have wq:0≤lc (a.natAbs:Int) b.natAbs:=by
    apply Int.not_lt.mp
    intro h1
    have:=tE.1 h1
    omega
   rw [if_pos (by simpa using wq),Rm (hq _) (hq _) (EO (by omega) bj) (by rw [ex (by omega),ex (by omega)];exact bj) (by omega),ex (by omega),ex (by omega),Option.bind_some,st (by omega),(E1 h).1]
   rfl
  ·have wq : ¬0≤lc (a.natAbs:Int) b.natAbs:=by
    have:=tE.2 (show (a.natAbs:Int)<b.natAbs by omega)
    omega
   rw [if_neg (by simpa using wq),Rm (hq _) (hq _) (EO (by omega) (by omega)) (by rw [ex (by omega),ex (by omega)];omega) (by omega),ex (by omega),ex (by omega),Option.bind_some,st (by omega),(E1 h).2]
   rfl
theorem L9 {b:Int}:ep (!(decide (b<0))) (b.natAbs:Int) = -b:=by
 unfold ep
 by_cases h:b<0
 ·simp only [h,decide_true,Bool.not_true,Bool.false_eq_true,if_false]
  omega
 ·simp only [h,decide_false,Bool.not_false,if_true]
  omega
theorem abU {a b:Int}(bJ:(a.natAbs:Int)<B 50)(aT:(b.natAbs:Int)<B 50):uK (ho a) (ho b)=some (ho (a-b)):=by
 have b6:uK (ho a) (ho b)=(((np (!(decide (b<0))) (L b.natAbs)).bind fun r=>some r).bind fun r1=>(yf (ho a) r1).bind fun bn=>some bn):=rfl
 rw [b6,st (by omega),L9,Option.bind_some,Option.bind_some,acK bJ (by omega),Option.bind_some,Int.sub_eq_add_neg]
theorem Fr.neg {q:Int×Int}(h:Fr q):Fr (-q.1,q.2):=⟨h.pos,by simp only;rw [Int.neg_gcd];exact h.TY,by simp only;have:=h.num;omega,h.den⟩
theorem abV {q:Int×Int}(h:Fr q):u7 (mk q)=some (mk (-q.1,q.2)):=by
 have h1:=h.num
 have o:=h.sQ
 have af:=L7
 have b6:u7 (mk q)=((h8 (!(decide (q.1<0))) (L q.1.natAbs)).bind fun r1=>if (([]:List Int)++L q.2).length*8≤140737488355328 then some (⟨r1,([]:List Int)++L q.2⟩:aR) else none):=rfl
 rw [b6,qp (by omega) (by omega),L9,Option.bind_some,if_pos (by simp;omega)]
 rfl
theorem Rn {p q:Int×Int}(ak:Fr p)(bb:Fr q):((p.1*q.2).natAbs:Int)<B 48∧(L (p.1.natAbs*q.2:Int)).length≤48∧0≤(p.1.natAbs*q.2:Int):=by
 have aX:=bb.pos
 have bf:=tF (x:=p.1.natAbs) (y:=q.2) (by omega) (by omega) ak.num bb.den
 have Dp:0≤(p.1.natAbs:Int)*q.2:=Int.mul_nonneg (by omega) (by omega)
 rw [L8 (by omega)]
 exact ⟨(jo Dp).1 bf,bf,Dp⟩
theorem adW:B 48+B 48≤B 50:=by
 have h1:B 49≤B 50:=q5 (by omega)
 have o:=oW 48
 rw [mm] at h1
 omega
theorem abW {p q:Int×Int}(ak:Fr p)(bb:Fr q):rL (mk p) (mk q)=some (enc (low (p.1*q.2+q.1*p.2) (p.2*q.2))):=by
 have h1:=ak.tT
 have o:=ak.sQ
 have af:=bb.tT
 have av:=bb.sQ
 have aA:=ak.pos
 have aX:=bb.pos
 have Te:=ak.num
 have oz:=bb.num
 have aix:=ak.den
 have aiy:=bb.den
 have gU:=adW
 have ahJ:B 24≤B 48:=q5 (by omega)
 have ahK:B 50≤B 60:=q5 (by omega)
 obtain ⟨bp,ck,jJ⟩:=Rn ak bb
 obtain ⟨d1,d2,uh⟩:=Rn bb ak
 have ahT:=oW 48
 have e1:h3 (L p.1.natAbs) (L q.2)=some (L ((p.1.natAbs:Int)*q.2)):=by
  rw [mul_eq (hq _) (hq _) (by omega) (by omega),ex (by omega),ex (by omega)]
 have aD:h3 (L q.1.natAbs) (L p.2)=some (L ((q.1.natAbs:Int)*p.2)):=by
  rw [mul_eq (hq _) (hq _) (by omega) (by omega),ex (by omega),ex (by omega)]
 have bP:h8 (decide (p.1<0)) (L ((p.1.natAbs:Int)*q.2))=some (ho (p.1*q.2)):=by
  rw [qp jJ (by rw [← L8 (by omega)];omega),Bw]
 have c4:h8 (decide (q.1<0)) (L ((q.1.natAbs:Int)*p.2))=some (ho (q.1*p.2)):=by
  rw [qp uh (by rw [← L8 (by omega)];omega),Bw]
 have dh:qm (ho (p.1*q.2)) (ho (q.1*p.2))=some (ho (p.1*q.2+q.1*p.2)):=QS (by omega) (by omega)
 have bl:=tF (x:=p.2) (y:=q.2) (by omega) (by omega) ak.den bb.den
 have dW:h3 (L p.2) (L q.2)=some (L (p.2*q.2)):=by
  rw [mul_eq (hq _) (hq _) (by omega) (by omega),ex (by omega),ex (by omega)]
 have S3:(L (p.1*q.2+q.1*p.2).natAbs).length≤50:=(jo (by omega)).2 (by omega)
 have eP:og (decide (p.1*q.2+q.1*p.2<0)) (L (p.1*q.2+q.1*p.2).natAbs) (L (p.2*q.2))=some (enc (low (p.1*q.2+q.1*p.2) (p.2*q.2))):=by
  rw [Ln (by omega) (Int.mul_pos aA aX) (by omega) (by omega)]
  have:ep (decide (p.1*q.2+q.1*p.2<0)) ((p.1*q.2+q.1*p.2).natAbs:Int)=p.1*q.2+q.1*p.2:=by
   have:=Bw (a:=p.1*q.2+q.1*p.2) (b:=1)
   rwa [Int.mul_one,Int.mul_one] at this
  rw [this]
 have S9:((h3 (L p.1.natAbs) (L q.2)).bind fun bO=>(h8 (decide (p.1<0)) bO).bind fun cb=>(h3 (L q.1.natAbs) (L p.2)).bind fun dp=>(h8 (decide (q.1<0)) dp).bind fun eM=>(qm cb eM).bind fun gN=>(h3 (L p.2) (L q.2)).bind fun gi=>(og gN.c0 gN.cN gi).bind fun pe=>some pe)=some (enc (low (p.1*q.2+q.1*p.2) (p.2*q.2))):=by
  rw [e1,Option.bind_some,bP,Option.bind_some,aD,Option.bind_some,c4,Option.bind_some,dh,Option.bind_some,dW,Option.bind_some]
  show (og (decide (p.1*q.2+q.1*p.2<0)) (L (p.1*q.2+q.1*p.2).natAbs) (L (p.2*q.2))).bind _=_
  rw [eP,Option.bind_some]
 have b6:rL (mk p) (mk q)=((qT (L p.2)).bind fun r1=>if r1=true then (qT (L q.2)).bind fun a6=>if a6=true then (qm (ho p.1) (ho q.1)).bind fun bO=>(og bO.c0 bO.cN ([1]:List Int)).bind fun cb=>some cb else ((h3 (L p.1.natAbs) (L q.2)).bind fun bO=>(h8 (decide (p.1<0)) bO).bind fun cb=>(h3 (L q.1.natAbs) (L p.2)).bind fun dp=>(h8 (decide (q.1<0)) dp).bind fun eM=>(qm cb eM).bind fun gN=>(h3 (L p.2) (L q.2)).bind fun gi=>(og gN.c0 gN.cN gi).bind fun pe=>some pe) else ((h3 (L p.1.natAbs) (L q.2)).bind fun bO=>(h8 (decide (p.1<0)) bO).bind fun cb=>(h3 (L q.1.natAbs) (L p.2)).bind fun dp=>(h8 (decide (q.1<0)) dp).bind fun eM=>(qm cb eM).bind fun gN=>(h3 (L p.2) (L q.2)).bind fun gi=>(og gN.c0 gN.cN gi).bind fun pe=>some pe)):=rfl
 rw [b6,BK (by omega),Option.bind_some]
 by_cases b9:p.2=1
 ·rw [if_pos (by simpa using b9),BK (by omega),Option.bind_some]
  by_cases aV:q.2=1
  ·rw [if_pos (by simpa using aV),QS (by omega) (by omega),Option.bind_some]
   have gz:p.1*q.2+q.1*p.2=p.1+q.1:=by rw [b9,aV,Int.mul_one,Int.mul_one]
   have Uw:p.2*q.2=1:=by rw [b9,aV];rfl
   rw [gz,Uw,SM] at eP
   rw [gz,Uw]
   show (og (decide (p.1+q.1<0)) (L (p.1+q.1).natAbs) [1]).bind _=_
   rw [eP,Option.bind_some]
  ·rw [if_neg (by simpa using aV)]
   exact S9
 ·rw [if_neg (by simpa using b9)]
  exact S9
def qu (n:Int):Bool:=decide (-100≤n∧n≤100)
def rc (wM:Nat)(l:List Int):Bool:=decide (l.length=2*wM) && l.all qu
theorem aa7 (n:Int):AU n=some (qu n):=by
 unfold AU qu
 by_cases h : -100≤n<;>simp [h]
theorem QT (s:cl)(p:Bool)(ak:nn s=some p)(rC:p=true→s.bY.length≤6)(l:List Int)(aU:l.length≤maxLen):rK s l=some (p && rc s.bY.length l):=by
 have hm:=yD
 unfold rK
 simp only [ak,Option.bind_eq_bind,Option.bind_some,fa]
 cases p with
 | false=>rfl
 | true =>
  have rC:=rC rfl
  have hw:R (2*((s.bY.length:Nat):Int))=2*((s.bY.length:Nat):Int):=cw (by omega) (by omega)
  rw [hw]
  unfold rc
  by_cases e:l.length=2*s.bY.length
  ·have h1:Kx l (l.length:Nat) 0=some (if l.all qu then .inl () else .inr ()):=by
    refine Ra (f:=fun w=>xR l (l.length:Nat) w) l qu (fun n x U=> ?_) ?_
    ·have d3:=gb U
     unfold xR
     have c:(n:Int)<(l.length:Int):=by omega
     have d7:0≤(n:Int)∧(n:Int)<(l.length:Int):=by omega
     simp only [decide_eq_true c,if_true,if_pos d7,Int.toNat_natCast,U,Option.bind_eq_bind,Option.bind_some,qX]
     rw [i1 (by omega)]
     unfold qu
     by_cases q : -100≤x∧x≤100
     ·simp [q]
     ·rw [decide_eq_false q];simp
    ·simp [xR]
   have c:((l.length:Int) != 2*(s.bY.length:Int))=false:=by simp;omega
   simp only [c,h1,Bool.false_eq_true,if_false,if_true,Option.bind_some]
   cases l.all qu<;>simp [e]
  ·have c:((l.length:Int) != 2*(s.bY.length:Int))=true:=by simp;omega
   simp only [c,if_true]
   simp [e]
theorem aav (s:cl)(rC:s.bY.length≤6)(l:List Int)(aU:l.length≤maxLen):AJ s l=some (rc s.bY.length l):=by
 have hm:=yD
 have hw:R (2*((s.bY.length:Nat):Int))=2*((s.bY.length:Nat):Int):=cw (by omega) (by omega)
 unfold AJ Dv DB rc
 simp only [fa,hw,Option.bind_eq_bind]
 obtain ⟨r,h1,o⟩:=abu (f:=fun w=>wQ l (l.length:Nat) w) l (fun n=> !qu n) (fun n x U=>by
  have d3:=gb U
  unfold wQ D6
  have c:(n:Int)<(l.length:Int):=by omega
  have d7:0≤(n:Int)∧(n:Int)<(l.length:Int):=by omega
  simp only [decide_eq_true c,if_true,if_pos d7,Int.toNat_natCast,U,Option.bind_eq_bind,Option.bind_some,aa7]
  rw [i1 (by omega)]
  cases qu x<;>rfl) (by simp [wQ])
 have qF:GI l (l.length:Nat) 0=some r:=h1
 rw [qF]
 have ae0:(l.any fun n=> !qu n) = !l.all qu:=by
  rw [List.not_all_eq_any_not]
 rw [ae0] at o
 by_cases e:l.length=2*s.bY.length
 ·have c:((l.length:Int) == 2*(s.bY.length:Int))=true:=by simp;omega
  rw [c]
  rcases o with ⟨k,rfl,ba,bJ⟩|⟨rfl,bJ⟩
  ·simp only [Bool.not_eq_true'] at bJ
   simp [e,bJ,ba]
  ·simp only [Bool.not_eq_false'] at bJ
   simp [e,bJ]
 ·have c:((l.length:Int) == 2*(s.bY.length:Int))=false:=by simp;omega
  rw [c]
  simp [e]
theorem ob {i:Int}{a:Nat}(h0:0≤i)(h1:i≤100)(bJ:a≤1):R (R (2*i)+(a:Int))=(((2*i+a).toNat:Nat):Int):=by
 rw [cw (x:=2*i) (by omega) (by omega),cw (by omega) (by omega)]
 omega
theorem aaw (l:List Int)(h:l.length≤1048576):Aw l=some l:=by
 have aT : ∀(n:Nat) x (row:List Int),l[n]? = some x→row.length=l.length→uB l n row=some (.inl (((n+1:Nat):Int),row.set n x)):=by
  intro n x row U ap
  obtain ⟨a5,rfl⟩:=List.getElem?_eq_some_iff.1 U
  have hw:R ((n:Int)+1)=((n+1:Nat):Int):=by rw [cw (by omega) (by omega)];rfl
  simp only [uB,fa,hw]
  simp [a5,ap]
 have he : ∀row:List Int,uB l l.length row=some (.inr row):=by
  intro row
  simp [uB,fa]
 have h1:J6 l 0 (List.replicate (len_ eI l).toNat 0)=some l :=
  Lj l (List.replicate (len_ eI l).toNat 0) (by simp [fa]) aT he
 unfold Aw
 rw [h1,if_pos (by rw [fa];omega)]
 simp [fa]
theorem ZN (l:List bo)(h:l.length≤1048576):Ah l=some l:=by
 have aT : ∀(n:Nat) x (row:List bo),l[n]? = some x→row.length=l.length→uz l n row=some (.inl (((n+1:Nat):Int),row.set n x)):=by
  intro n x row U ap
  obtain ⟨a5,rfl⟩:=List.getElem?_eq_some_iff.1 U
  have hw:R ((n:Int)+1)=((n+1:Nat):Int):=by rw [cw (by omega) (by omega)];rfl
  simp only [uz,fa,hw,Eo]
  simp [a5,ap]
 have he : ∀row:List bo,uz l l.length row=some (.inr row):=by
  intro row
  simp [uz,fa]
 have h1:Js l 0 (List.replicate (len_ bw l).toNat (⟨ByteArray.empty,0,0,false⟩:bo))=some l :=
  Lj l _ (by simp [fa]) aT he
 unfold Ah
 rw [h1,if_pos (by rw [fa];omega)]
 simp [fa]
theorem Zz (l:List bC)(h:l.length≤1048576):Ae l=some l:=by
 have aT : ∀(n:Nat) x (row:List bC),l[n]? = some x→row.length=l.length→uy l n row=some (.inl (((n+1:Nat):Int),row.set n x)):=by
  intro n x row U ap
  obtain ⟨a5,rfl⟩:=List.getElem?_eq_some_iff.1 U
  have hw:R ((n:Int)+1)=((n+1:Nat):Int):=by rw [cw (by omega) (by omega)];rfl
  simp only [uy,fa,hw,Ei]
  simp [a5,ap]
 have he : ∀row:List bC,uy l l.length row=some (.inr row):=by
  intro row
  simp [uy,fa]
 have h1:IV l 0 (List.replicate (len_ bB l).toNat (⟨0,0,0⟩:bC))=some l :=
  Lj l _ (by simp [fa]) aT he
 unfold Ae
 rw [h1,if_pos (by rw [fa];omega)]
 simp [fa]
theorem YW (s:cl)(h1:s.bY.length≤1048576)(o:s.bs.length≤1048576):z9 s=some (s.bY,s.bs):=by
 simp [z9,ZN _ h1,Zz _ o]
def NA (P:List (List Int)):bF→Prop
 | none=>True
 | some (k,c)=> ∃x,P[k]? = some x∧x.length=c∧c≤1048576
theorem NA.set {P:List (List Int)}{k:Nat}{x y:List Int}(U:P[k]? = some x)(aZ:y.length=x.length){h:bF}(fY:NA P h):NA (P.set k y) h:=by
 cases h with
 | none=>trivial
 | some p =>
  obtain ⟨j,c⟩:=p
  obtain ⟨z,h1,o,af⟩:=fY
  by_cases aE:k=j
  ·subst aE
   rw [U] at h1
   obtain rfl:=Option.some.inj h1
   exact ⟨y,by rw [List.getElem?_set,if_pos rfl,if_pos (gb U)],by omega,af⟩
  ·exact ⟨z,by rw [List.getElem?_set,if_neg aE];exact h1,o,af⟩
theorem SN (x:Int):(rX [x]).size=1:=rfl
theorem ZO {k:Int}(h:k≤1000000000000000000): ∃r,AM k=some r:=by
 unfold AM
 by_cases c:k≤0
 ·exact ⟨_,by rw [if_pos (by simpa using c)]⟩
 ·rw [if_neg (by simpa using c)]
  obtain ⟨r,r1,bV⟩:=jj (f:=fun w:Int×ByteArray=>xD w.1 w.2) (eS:=fun w=>0≤w.1∧(w.2.size:Int)+w.1≤1000000000000000000) (m:=fun w=>w.1.toNat)
   (fun r=>(r.size:Int)≤1000000000000000000) (by
     rintro ⟨a,I⟩ ⟨h1,o⟩
     simp only at h1 o
     by_cases bJ:0<a
     ·have bK:a.tdiv 10=a / 10:=by rw [Int.tdiv_eq_ediv_of_nonneg h1]
      refine .inl ⟨(a / 10,rX [IntKind.wrap .u8 (R ((48:Int)+(a.tmod (10:Int))))]++I),?_,⟨by simp only;omega,?_⟩,by simp only;omega⟩
      ·unfold xD
       simp only
       rw [if_pos (by simpa using bJ),SN,if_pos (by omega),bK,cw (by omega) (by omega)]
      ·simp only [ByteArray.size_append,SN]
       omega
     ·exact .inr ⟨I,by simp [xD,bJ],by omega⟩) (k,⟨#[]⟩) ⟨by simp only;omega,by
      have:(⟨#[]⟩:ByteArray).size=0:=rfl
      simp only [this];omega⟩
  unfold Kj
  rw [r1]
  refine ⟨_,by
   simp only [Option.bind_eq_bind,Option.bind_some]
   rw [if_pos ?_]
   have:(⟨#[109]⟩:ByteArray).size=1:=rfl
   rw [this]
   omega⟩
theorem Ys {k:Int}{l:List bo}(h0:0≤k)(h:k+4*l.length≤1000000000000000000):
 ∃dD fC,Ac k l=some (dD,fC)∧fC.length=l.length∧0≤dD∧dD≤k+4*l.length:=by
 obtain ⟨r,r1,bV⟩:=jj (f:=fun w:Int×Int×(List bo)=>ux w.1 w.2.1 w.2.2)
  (eS:=fun w=> ∃n:Nat,w.2.1=n∧n≤l.length∧w.2.2.length=l.length∧0≤w.1∧w.1≤k+4*n)
  (m:=fun w=>l.length-w.2.1.toNat) (fun r=>r.2.length=l.length∧0≤r.1∧r.1≤k+4*l.length) (by
    rintro ⟨a,i,row⟩ ⟨n,e1,aD,bP,c4,dh⟩
    simp only at e1 bP c4 dh
    subst e1
    by_cases a5:n=l.length
    ·subst a5
     refine .inr ⟨(a,row),by simp [ux,bP],bP,c4,dh⟩
    ·have qE:n<row.length:=by omega
     obtain ⟨t,cj⟩:=ZO (k:=a) (by omega)
     have hw:R ((n:Int)+1)=((n+1:Nat):Int):=by rw [cw (by omega) (by omega)];rfl
     have jV:R (a+1)=a+1:=cw (by omega) (by omega)
     have ob:R (a+1+1)=a+1+1:=cw (by omega) (by omega)
     have qQ:R (a+1+1+1)=a+1+1+1:=cw (by omega) (by omega)
     have Gh:R (a+1+1+1+1)=a+1+1+1+1:=cw (by omega) (by omega)
     have key : ∃dR,ux a n row=some (.inl (a+1+1+1+1,((n+1:Nat):Int),dR))∧dR.length=row.length:=by
      unfold ux
      rw [if_pos (by simpa using qE),cj,jV,ob,qQ,Gh,hw]
      simp only [Option.bind_eq_bind,Option.bind_some,Nat.zero_add,Int.toNat_natCast]
      rw [if_pos (by omega),List.getElem?_eq_getElem qE]
      simp only [Option.bind_some,List.getElem?_set_self qE,List.length_set,List.getElem?_set_self (show n<(row.set n _).length by simpa using qE),List.set_set]
      exact ⟨_,rfl,by simp⟩
     obtain ⟨dR,h1,o⟩:=key
     refine .inl ⟨_,h1,⟨n+1,rfl,by omega,by simp only;omega,by simp only;omega,by simp only;omega⟩,by simp;omega⟩) (k,0,l) ⟨0,rfl,by omega,rfl,h0,by simp⟩
 obtain ⟨dD,fC⟩:=r
 exact ⟨dD,fC,by unfold Ac IR;rw [r1];rfl,bV⟩
theorem Ye {k:Int}{l:List bC}(h0:0≤k)(h:k+3*l.length≤1000000000000000000):
 ∃dD fC,Ab k l=some (dD,fC)∧fC.length=l.length∧0≤dD∧dD≤k+3*l.length:=by
 obtain ⟨r,r1,bV⟩:=jj (f:=fun w:Int×Int×(List bC)=>uw w.1 w.2.1 w.2.2)
  (eS:=fun w=> ∃n:Nat,w.2.1=n∧n≤l.length∧w.2.2.length=l.length∧0≤w.1∧w.1≤k+3*n)
  (m:=fun w=>l.length-w.2.1.toNat) (fun r=>r.2.length=l.length∧0≤r.1∧r.1≤k+3*l.length) (by
    rintro ⟨a,i,row⟩ ⟨n,e1,aD,bP,c4,dh⟩
    simp only at e1 bP c4 dh
    subst e1
    by_cases a5:n=l.length
    ·subst a5
     refine .inr ⟨(a,row),by simp [uw,bP],bP,c4,dh⟩
    ·have qE:n<row.length:=by omega
     have hw:R ((n:Int)+1)=((n+1:Nat):Int):=by rw [cw (by omega) (by omega)];rfl
     have jV:R (a+1)=a+1:=cw (by omega) (by omega)
     have ob:R (a+1+1)=a+1+1:=cw (by omega) (by omega)
     have qQ:R (a+1+1+1)=a+1+1+1:=cw (by omega) (by omega)
     have key : ∃dR,uw a n row=some (.inl (a+1+1+1,((n+1:Nat):Int),dR))∧dR.length=row.length:=by
      unfold uw
      rw [if_pos (by simpa using qE),jV,ob,qQ,hw]
      simp only [Nat.zero_add,Int.toNat_natCast]
      rw [if_pos (by omega),List.getElem?_eq_getElem qE]
      simp only [Option.bind_eq_bind,Option.bind_some,List.getElem?_set_self qE,List.length_set,List.getElem?_set_self (show n<(row.set n _).length by simpa using qE),List.set_set]
      exact ⟨_,rfl,by simp⟩
     obtain ⟨dR,h1,o⟩:=key
     refine .inl ⟨_,h1,⟨n+1,rfl,by omega,by simp only;omega,by simp only;omega,by simp only;omega⟩,by simp;omega⟩) (k,0,l) ⟨0,rfl,by omega,rfl,h0,by simp⟩
 obtain ⟨dD,fC⟩:=r
 exact ⟨dD,fC,by unfold Ab Ih;rw [r1];rfl,bV⟩
theorem Xv {k:Int}{l:List bo}{m:List bC}(h0:0≤k)(h:k+4*l.length+3*m.length≤1000000000000000000):
 ∃dD fC bE,xQ k l m=some (dD,fC,bE)∧fC.length=l.length∧bE.length=m.length∧0≤dD∧dD≤k+4*l.length+3*m.length:=by
 obtain ⟨lk,fC,e1,aD,bP,c4⟩:=Ys (l:=l) h0 (by omega)
 obtain ⟨kx,bE,f1,f2,f3,f4⟩:=Ye (k:=lk) (l:=m) bP (by omega)
 refine ⟨kx,fC,bE,?_,aD,f2,f3,by omega⟩
 unfold xQ
 rw [e1]
 simp only [Option.bind_eq_bind,Option.bind_some]
 rw [f1]
 first
  | rfl
  | (rw [if_pos aD.symm];simp only [Option.bind_some];rw [if_pos f2.symm])
def marks (k:Int)(n:Nat):List Int:=(List.range n).map fun i:Nat=>k+(i:Int)
theorem yE (k:Int)(n:Nat):(marks k n).length=n:=by simp [marks]
theorem abX {k:Int}{n i:Nat}(h:i<n):(marks k n)[i]? = some (k+i):=by
 unfold marks
 rw [List.getElem?_map,List.getElem?_range h]
 rfl
theorem aa8 {k:Int}{l:List Int}{i:Nat}(h:i<l.length):(marks k i++l.drop i).set i (k+i)=marks k (i+1)++l.drop (i+1):=by
 unfold marks
 rw [List.range_succ,List.map_append,List.set_append_right _ _ (by simp)]
 rw [show i-(List.map (fun i:Nat=>k+(i:Int)) (List.range i)).length=0 by simp,List.drop_eq_getElem_cons h,List.set_cons_zero]
 simp
theorem Z7 (k:Int):AN [] k=some k:=by
 have h:D4 [] k=some ():=by
  unfold D4
  rw [iter]
  simp [DM,fa]
 simp [AN,h]
theorem PB {k:Int}{n:Nat}(h0:0≤k)(h:k+n≤1000000000000000000):uU (marks k n) k=some (k+n):=by
 have:=LB (f:=fun w:Int×Int=>xE (marks k n) w.1 w.2) (s:=fun i=>(k+(i:Int),(i:Int))) (r:= .inl (k+(n:Int))) n 0 (fun i _ ah=> ?_) ?_
 ·unfold uU Kk
  have e:(k+((0:Nat):Int),((0:Nat):Int))=(k,0):=by simp
  rw [e] at this
  rw [this]
  rfl
 ·have jS:i<n:=by omega
  unfold xE
  simp only [fa,yE]
  rw [if_pos (by simpa using jS),if_pos (by omega),Int.toNat_natCast,abX jS,cw (by omega) (by omega),cw (by omega) (by omega)]
  simp [Int.add_assoc]
 ·simp [xE,fa,yE]
theorem Z8 {k:Int}(h0:0≤k)(h:k≤1000000000000000000):uU [] k=some k:=by
 have:=PB (k:=k) (n:=0) h0 (by simpa using h)
 simpa [marks] using this
def kZ:List bo→Nat→List Nat
 | [],_=>[]
 | x::l,n=>if x.gQ then kZ l (n+1) else n::kZ l (n+1)
theorem LF : ∀(l:List bo) (n i:Nat),i∈kZ l n→n≤i∧i<n+l.length
 | [],n,i,h=>by simp [kZ] at h
 | x::l,n,i,h=>by
  rw [kZ] at h
  simp only [List.length_cons]
  split at h
  ·have:=LF l (n+1) i h;omega
  ·rcases List.mem_cons.1 h with h|h
   ·omega
   ·have:=LF l (n+1) i h;omega
theorem Ro : ∀(l:List bo) (n:Nat),(kZ l n).length≤l.length
 | [],n=>by simp [kZ]
 | x::l,n=>by
  rw [kZ]
  have:=Ro l (n+1)
  split<;>simp only [List.length_cons]<;>omega
theorem aa9 {l:List bo}{n:Nat}{x:bo}(h:l[n]? = some x)(m:Nat):kZ (l.drop n) m=if x.gQ then kZ (l.drop (n+1)) (m+1) else m::kZ (l.drop (n+1)) (m+1):=by
 rw [Rb h,kZ]
theorem QU {f:Int×List Int→Option ((Int×List Int)⊕List Int)}(hh:List bo)(rC:hh.length≤1000)
 (h : ∀(n:Nat) acc x,hh[n]? = some x→f ((n:Int),acc)=if x.gQ=true then some (.inl (R ((n:Int)+1),acc)) else if (acc++[(n:Int)]).length*8≤140737488355328 then some (.inl (R ((n:Int)+1),acc++[(n:Int)])) else none)
 (he : ∀acc,f ((hh.length:Int),acc)=some (.inr acc)):iter f ((0:Int),[])=some ((kZ hh 0).map (fun n:Nat=>(n:Int))):=by
 obtain ⟨s,h1,o⟩:=ik (fun (n:Nat) (acc:List Int)=>((n:Int),acc)) hh.length (fun n acc=>acc++(kZ (hh.drop n) n).map (fun n:Nat=>(n:Int))=(kZ hh 0).map (fun n:Nat=>(n:Int))∧acc.length≤n) (fun acc=>acc) (f:=f) (fun n a5 acc cI=>by
  obtain ⟨cI,aU⟩:=cI
  have U:=List.getElem?_eq_getElem a5
  rw [aa9 U] at cI
  rw [h n acc _ U,nU (by omega)]
  by_cases c:hh[n].gQ=true
  ·rw [if_pos c] at cI ⊢
   exact ⟨_,rfl,cI,by omega⟩
  ·rw [if_neg c] at cI ⊢
   rw [if_pos (by simp only [List.length_append,List.length_cons,List.length_nil];omega)]
   refine ⟨_,rfl,?_,by simp only [List.length_append,List.length_cons,List.length_nil];omega⟩
   rw [List.append_assoc]
   exact cI) (fun acc _=>he acc) [] ⟨by rw [List.drop_zero];rfl,by simp⟩
 obtain ⟨o,-⟩:=o
 rw [List.drop_length] at o
 simp only [kZ,List.map_nil,List.append_nil] at o
 subst o
 exact h1
theorem Lf (s:cl)(rC:s.bY.length≤1000):uW s=some ((kZ s.bY 0).map (fun n:Nat=>(n:Int))):=by
 unfold uW Km
 rw [fa,QU s.bY rC (fun n acc x U=>by
  have a5:=gb U
  unfold z3
  exact dG (by omega) (bI (by omega) (aP (gt rfl U) rfl))) (fun acc=>by
  unfold z3
  exact d4 (by omega) rfl)]
 rfl
theorem PG (s:cl)(rC:s.bY.length≤1000):w8 s=some ((kZ s.bY 0).map (fun n:Nat=>(n:Int))):=by
 unfold w8 GP
 rw [fa,QU s.bY rC (fun n acc x U=>by
  have a5:=gb U
  unfold zR
  exact dG (by omega) (bI (by omega) (aP (gt rfl U) rfl))) (fun acc=>by
  unfold zR
  exact d4 (by omega) rfl)]
 rfl
theorem KW {k:Int}{l:List Int}(h0:0≤k)(h:k+l.length≤1000000000000000000):uS k l=some (k+l.length,marks k l.length):=by
 have:=LB (f:=fun w:Int×Int×(List Int)=>xr w.1 w.2.1 w.2.2) (s:=fun n=>(k+(n:Int),(n:Int),marks k n++l.drop n)) (r:=(k+(l.length:Int),marks k l.length)) l.length 0 (fun i _ ah=> ?_) ?_
 ·unfold uS JP
  have e:(k+((0:Nat):Int),((0:Nat):Int),marks k 0++l.drop 0)=(k,0,l):=by simp [marks]
  rw [e] at this
  rw [this]
  rfl
 ·have jS:i<l.length:=by omega
  have aU:(marks k i++l.drop i).length=l.length:=by simp [yE];omega
  unfold xr
  simp only [aU]
  rw [if_pos (by simpa using jS),if_pos (by omega),Nat.zero_add,Int.toNat_natCast,if_pos (by omega),aa8 jS,cw (by omega) (by omega),cw (by omega) (by omega)]
  simp only [Int.natCast_add,Int.add_assoc]
  rfl
 ·simp [xr,yE]
def hlen:bF→Nat
 | none=>0
 | some (_,c)=>c
def fR (x:Rat):Int×Int:=(x.num,(x.den:Int))
def gw (x:Rat):Prop:=(x.num.natAbs:Int)<B 24∧(x.den:Int)<B 24
def c1 (x:Rat):aR:=mk (fR x)
instance ahg (x:Rat):Decidable (gw x):=by unfold gw;infer_instance
theorem gw.dU {x:Rat}(h:gw x):Fr (fR x):=⟨by have:=x.den_pos;simp only [fR];omega,by simp only [fR];rw [Int.gcd,Int.natAbs_natCast];exact x.reduced,h.1,h.2⟩
theorem adr {n d:Int}(bK:0<d):low n d=if gw (Rat.divInt n d) then some (fR (Rat.divInt n d)) else none:=by
 have e1:(Rat.divInt n d).num=n / (Int.gcd n d:Int):=by rw [Rat.num_divInt,Int.sign_eq_one_of_pos bK,Int.one_mul,Int.gcd_comm]
 have aD:((Rat.divInt n d).den:Int)=d / (Int.gcd n d:Int):=by
  rw [Rat.den_divInt,if_neg (by omega),Int.gcd_comm]
  rw [Int.natCast_ediv,Int.natAbs_of_nonneg (by omega)]
 have bP:gw (Rat.divInt n d)↔fits ((n / (Int.gcd n d:Int)).natAbs:Int)∧fits (d / (Int.gcd n d:Int)):=by unfold gw fits;rw [e1,aD]
 unfold low
 by_cases c:gw (Rat.divInt n d)
 ·rw [if_pos c,if_pos (bP.1 c)]
  unfold fR;rw [e1,aD]
 ·rw [if_neg c,if_neg (fun x=>c (bP.2 x))]
theorem LG {n d:Int}{x:Rat}(bK:0<d)(e:(d:Rat)*x=n)(h:gw x):low n d=some (fR x):=by
 have qC:(d:Rat)≠0:=fun c=>by
  have:d=0:=Rat.intCast_inj.1 (by rw [c];rfl)
  omega
 have:x=Rat.divInt n d:=by rw [Rat.divInt_eq_div,← e];grind
 rw [adr bK,← this,if_pos h]
theorem yT (x:Rat):((x.den:Int):Rat)*x=((x.num:Int):Rat):=by
 have h:x=(x.num:Rat) / ((x.den:Int):Rat):=by rw [← Rat.divInt_eq_div,Rat.num_divInt_den]
 have bK:((x.den:Int):Rat)≠0:=fun c=>by
  have:(x.den:Int)=0:=Rat.intCast_inj.1 (by rw [c];rfl)
  have:=x.den_pos
  omega
 conv=>lhs;rhs;rw [h]
 grind
theorem Sq {x y:Rat}(U:gw x)(aZ:gw y)(h:gw (x*y)):tw (c1 x) (c1 y)=some (c1 (x*y)):=by
 unfold c1
 rw [abM U.dU aZ.dU,LG (x:=x*y) (Int.mul_pos U.dU.pos aZ.dU.pos) ?_ h];rfl
 have h1:=yT x
 have o:=yT y
 simp only [fR,Rat.intCast_mul]
 grind
theorem Ma {x y:Rat}(U:gw x)(aZ:gw y)(h:gw (x+y)):rL (c1 x) (c1 y)=some (c1 (x+y)):=by
 unfold c1
 rw [abW U.dU aZ.dU,LG (x:=x+y) (Int.mul_pos U.dU.pos aZ.dU.pos) ?_ h];rfl
 have h1:=yT x
 have o:=yT y
 simp only [fR,Rat.intCast_mul,Rat.intCast_add]
 grind
theorem gw.neg {x:Rat}(h:gw x):gw (-x):=by
 unfold gw at h ⊢
 rw [Rat.neg_num,Rat.neg_den,Int.natAbs_neg];exact h
theorem Sr {x:Rat}(U:gw x):u7 (c1 x)=some (c1 (-x)):=by
 unfold c1
 rw [abV U.dU]
 simp only [fR,Rat.neg_num,Rat.neg_den]
theorem acL {p:Int×Int}(h:Fr p):tz (mk p)=some true:=by
 have F4:(L p.1.natAbs).length≤24:=(jo (by omega)).2 h.num
 have CP:(L p.2).length≤24:=(jo (by have:=h.pos;omega)).2 h.den
 have ak:=h.pos
 obtain ⟨b9,gI,hL⟩:=Le (a:=L p.1.natAbs) (by omega)
 obtain ⟨aV,jt,kI⟩:=Le (a:=L p.2) (by omega)
 have h1:b9=true:=hL.2 ⟨jD _,by omega⟩
 have o:aV=true:=kI.2 ⟨jD _,by omega⟩
 subst h1;subst o
 have bK:(L p.2)≠[]:=fun c=>by have:=tN.1 c;omega
 have aiz:=List.length_pos_iff.mpr bK
 have e1:AE (mk p).fB=some true:=by
  unfold AE
  show (sq (L p.1.natAbs)).bind _=_
  rw [gI]
  simp only [Option.bind_some,if_true,fT]
  show (if decide (p.1<0)=true then some (decide ((0:Int)<(L p.1.natAbs).length)) else some true)=_
  by_cases c:p.1<0
  ·rw [if_pos (by simpa using c)]
   have:L p.1.natAbs≠[]:=fun c=>by have:=tN.1 c;omega
   have:=List.length_pos_iff.mpr this
   rw [decide_eq_true (by omega)]
  ·rw [if_neg (by simpa using c)]
 unfold tz
 rw [e1]
 simp only [Option.bind_eq_bind,Option.bind_some,if_true,fT]
 show (sq (L p.2)).bind _=_
 rw [jt]
 simp only [Option.bind_some,if_true]
 rw [show (mk p).hP=L p.2 from rfl,show (mk p).fB.cN=L p.1.natAbs from rfl]
 rw [if_neg (by simp [bK]),if_neg (by simp;omega),if_neg (by simp;omega)]
 rw [Sm (jD _) (jD _) (by omega) (by omega),ex (by omega),ex (by omega),RW (by omega),h.TY]
 simp only [Option.bind_some]
 rw [BK (by omega)]
 rfl
theorem Ml {x:Rat}(U:gw x):tz (c1 x)=some true:=acL U.dU
def j1 (x:Rat):Int:=if x=0 then 0 else if x<0 then -1 else 1
theorem qq {x:Rat}(U:gw x):qk (c1 x)=some (j1 x):=by
 unfold qk
 rw [Ml U]
 simp only [Option.bind_eq_bind,Option.bind_some,if_true,fT]
 show (if (((L (fR x).1.natAbs).length:Int) == 0)=true then some 0 else if decide ((fR x).1<0)=true then some (-1) else some 1)=_
 have e:((L (fR x).1.natAbs).length:Int)=0↔x.num=0:=by
  rw [MH (by omega)]
  simp only [fR];omega
 unfold j1
 by_cases h0:x=0
 ·rw [if_pos h0,if_pos]
  rw [beq_iff_eq,e,Rat.num_eq_zero];exact h0
 ·rw [if_neg h0,if_neg (by rw [beq_iff_eq,e,Rat.num_eq_zero];exact h0)]
  by_cases h1:x<0
  ·have o : ¬0≤x:=by grind
   have af : ¬0≤x.num:=fun c=>o (Rat.num_nonneg.1 c)
   rw [if_pos h1,if_pos (decide_eq_true (show (fR x).1<0 by simp only [fR];omega))]
  ·have o:0≤x:=by grind
   have af:0≤x.num:=Rat.num_nonneg.2 o
   rw [if_neg h1,if_neg (fun c=>by have:=of_decide_eq_true c;simp only [fR] at this;omega)]
theorem adX {x y:Rat}(U:gw x)(aZ:gw y):u6 (c1 x) (c1 y)=some (if x<y then -1 else if y<x then 1 else 0):=by
 unfold c1
 rw [abO U.dU aZ.dU]
 unfold lc
 simp only [fR,← Rat.lt_iff]
theorem Ss {x y:Rat}(U:gw x)(aZ:gw y)(h0:y≠0)(h:gw (x / y)):u5 (c1 x) (c1 y)=some (c1 (x / y)):=by
 have h1:=U.dU.tT
 have o:=U.dU.sQ
 have af:=aZ.dU.tT
 have av:=aZ.dU.sQ
 have aA:=U.dU.pos
 have aX:(0:Int)<(fR y).1.natAbs:=by
  have:(fR y).1≠0:=fun c=>h0 (Rat.num_eq_zero.1 c)
  omega
 have bf:=tF (x:=(fR x).1.natAbs) (y:=(fR y).2) (by omega) (by have:=aZ.dU.pos;omega) U.dU.num aZ.dU.den
 have bl:=tF (x:=(fR x).2) (y:=(fR y).1.natAbs) (by omega) (by omega) U.dU.den aZ.dU.num
 have e1:h3 (L (fR x).1.natAbs) (L (fR y).2)=some (L (((fR x).1.natAbs:Int)*(fR y).2)):=by
  rw [mul_eq (hq _) (hq _) (by omega) (by omega),ex (by omega),ex (by have:=aZ.dU.pos;omega)]
 have aD:h3 (L (fR x).2) (L (fR y).1.natAbs)=some (L ((fR x).2*((fR y).1.natAbs:Int))):=by
  rw [mul_eq (hq _) (hq _) (by omega) (by omega),ex (by omega),ex (by omega)]
 unfold u5
 rw [Ml U,Ml aZ]
 simp only [Option.bind_eq_bind,Option.bind_some,if_true]
 show (h3 (L (fR x).1.natAbs) (L (fR y).2)).bind _=_
 rw [e1]
 simp only [Option.bind_some]
 show (h3 (L (fR x).2) (L (fR y).1.natAbs)).bind _=_
 rw [aD]
 simp only [Option.bind_some]
 rw [Ln (Int.mul_nonneg (by omega) (by have:=aZ.dU.pos;omega)) (Int.mul_pos aA aX) (by omega) (by omega)]
 simp only [Option.bind_some]
 rw [LG (x:=x / y) (Int.mul_pos aA aX) ?_ h];rfl
 have d1:=yT x
 have d2:=yT y
 have bP:ep (!((c1 x).fB.c0 == (c1 y).fB.c0)) (((fR x).1.natAbs:Int)*(fR y).2)=(if y<0 then -1 else 1)*((fR x).1*(fR y).2):=by
  show ep (!(decide ((fR x).1<0) == decide ((fR y).1<0))) _=_
  have a5:=Rat.num_nonneg (q:=y)
  have hm:0≤((fR x).1.natAbs:Int)*(fR y).2:=Int.mul_nonneg (by omega) (by have:=aZ.dU.pos;omega)
  have C0:y<0↔(fR y).1<0:=by
   have af:=Rat.num_nonneg (q:=y)
   simp only [fR]
   constructor
   ·intro c;have : ¬0≤y:=by grind
    have av : ¬0≤y.num:=fun c=>this (af.1 c)
    omega
   ·intro c;have : ¬0≤y:=fun d7=>by have:=af.2 d7;omega
    grind
  by_cases bp:(fR x).1<0<;>by_cases ck:(fR y).1<0
  ·rw [if_pos (C0.2 ck),decide_eq_true bp,decide_eq_true ck]
   simp only [ep,BEq.rfl,Bool.not_true,Bool.false_eq_true,if_false]
   rw [show ((fR x).1.natAbs:Int) = -(fR x).1 by omega];grind
  ·rw [if_neg (fun c=>ck (C0.1 c)),decide_eq_true bp,decide_eq_false ck]
   simp only [ep,show (!(true == false))=true from rfl,if_true]
   rw [show ((fR x).1.natAbs:Int) = -(fR x).1 by omega];grind
  ·rw [if_pos (C0.2 ck),decide_eq_false bp,decide_eq_true ck]
   simp only [ep,show (!(false == true))=true from rfl,if_true]
   rw [show ((fR x).1.natAbs:Int)=(fR x).1 by omega];grind
  ·rw [if_neg (fun c=>ck (C0.1 c)),decide_eq_false bp,decide_eq_false ck]
   simp only [ep,BEq.rfl,Bool.not_true,Bool.false_eq_true,if_false]
   rw [show ((fR x).1.natAbs:Int)=(fR x).1 by omega];grind
 rw [bP]
 have c4:(((fR y).1.natAbs:Int):Rat)=(if y<0 then -1 else 1)*(((fR y).1:Int):Rat):=by
  have a5:=Rat.num_nonneg (q:=y)
  by_cases c:y<0
  ·have:y.num<0:=by have : ¬0≤y.num:=fun h=>by have:=a5.1 h;grind
                    omega
   rw [if_pos c,show ((fR y).1.natAbs:Int) = -(fR y).1 by simp only [fR];omega,Rat.intCast_neg];grind
  ·have:0≤y.num:=a5.2 (by grind)
   rw [if_neg c,show ((fR y).1.natAbs:Int)=(fR y).1 by simp only [fR];omega];grind
 rw [Rat.intCast_mul,c4,Rat.intCast_mul,Rat.intCast_mul]
 simp only [fR] at *
 split<;>grind
theorem sC {n:Int}(h:o8 n):po n=some (c1 (n:Rat)):=by
 rw [ZI h]
 unfold c1 fR
 rw [Rat.num_intCast,Rat.den_intCast];rfl
theorem Rp {n d:Int}{x:Rat}(h0:d≠0)(e:(d:Rat)*x=n)(a5:(n.natAbs:Int)<B 24)(bK:(d.natAbs:Int)<B 24):gw x:=by
 have qC:(d:Rat)≠0:=fun c=>h0 (Rat.intCast_inj.1 (by rw [c];rfl))
 have U:x=Rat.divInt n d:=by rw [Rat.divInt_eq_div,← e];grind
 rw [U]
 unfold gw
 rw [Rat.num_divInt,Rat.den_divInt,if_neg h0]
 constructor
 ·have h1:(d.sign*n / (d.gcd n:Int)).natAbs≤(d.sign*n).natAbs:=Int.natAbs_ediv_le_natAbs _ _
  have o:(d.sign*n).natAbs≤n.natAbs:=by
   rw [Int.natAbs_mul]
   have:d.sign.natAbs≤1:=by rw [Int.natAbs_sign];split<;>omega
   exact Nat.le_trans (Nat.mul_le_mul_right _ this) (by omega)
  omega
 ·have:d.natAbs / d.gcd n≤d.natAbs:=Nat.div_le_self _ _
  omega
theorem rS {x:Rat}:j1 x=0↔x=0:=by
 unfold j1
 split
 ·simp_all
 ·split<;>simp_all
theorem q2 {x:Rat}:0<j1 x↔0<x:=by
 unfold j1
 split
 ·rename_i h;rw [h];simp
 ·split
  ·rename_i h1 o;constructor
   ·intro h;omega
   ·intro h;grind
  ·rename_i h1 o;constructor
   ·intro h;grind
   ·intro h;omega
theorem acM (n:Nat)(a5:n≤1000)(k:Nat)(ba:k<n)(a b:Nat→Rat)(bJ:∀j,j<n→gw (a j))(aT:∀j,j<n→gw (b j))(hm:∀j,j<n→gw (-(a k)*b j))(b6:∀j,j<n→gw (a j-a k*b j)):
 Ak k 0 n 0 n (bd n fun j=>c1 (a j)) (bd n fun j=>c1 (b j))=some (bd n fun j=>c1 (a j-a k*b j)):=by
 unfold Ak
 refine bI (by omega) (aP (x:=c1 (a k)) (by rw [Int.toNat_natCast];exact iA ba) (aP (qq (bJ k ba)) ?_))
 refine oI (fun h=> ?_) (fun h=> ?_)
 ·have h0:=rS.1 (by simpa using h)
  congr 1
  exact fj fun j _=>by rw [h0];congr 1;grind
 ·refine aP (Sr (bJ k ba)) ?_
  obtain ⟨s,e1,aD⟩:=ik (f:=fun w:Int×List aR=>xn 0 n 0 n ((n:Nat):Int) (bd n fun j=>c1 (b j)) (c1 (-(a k))).fB.c0 (c1 (-(a k))).fB.cN (c1 (-(a k))).hP w.1 w.2)
   (fun (i:Nat) (_:Unit)=>((i:Int),bd n fun j=>if j<i then c1 (a j-a k*b j) else c1 (a j))) n (fun _ _=>True) (fun _=>bd n fun j=>c1 (a j-a k*b j))
   (fun i ah _ _=>by
     refine ⟨(),?_,trivial⟩
     unfold xn
     refine dG (by simp only;omega) (bI (by simp only;omega) (aP (x:=c1 (b i)) (by simp only;rw [Int.toNat_natCast];exact iA ah) (aP (qq (aT i ah)) ?_)))
     refine oI (fun h=> ?_) (fun h=> ?_)
     ·refine bI (by simp only;omega) (aP (x:=c1 (a i)) (by simp only;rw [Int.toNat_natCast,iA ah,if_neg (by omega)]) ?_)
      refine aP (Sq (bJ k ba).neg (aT i ah) (hm i ah)) (aP (Ma (bJ i ah) (hm i ah) (by have:=b6 i ah;rw [show a i + -(a k)*b i=a i-a k*b i by grind];exact this)) ?_)
      refine bI (by simp only;rw [c6];omega) ?_
      simp only
      rw [fA (by omega),Int.toNat_natCast,Nat.zero_add,lo]
      congr 3
      exact fj fun j _=>by
       by_cases c:j=i
       ·subst c;rw [if_pos rfl,if_pos (by omega)];congr 1;grind
       ·rw [if_neg c]
        by_cases ck:j<i
        ·rw [if_pos ck,if_pos (by omega)]
        ·rw [if_neg ck,if_neg (by omega)]
     ·have h0:b i=0:=rS.1 (by simpa using h)
      simp only
      rw [fA (by omega)]
      congr 3
      exact fj fun j _=>by
       by_cases c:j=i
       ·subst c;rw [if_neg (by omega),if_pos (by omega),h0];congr 1;grind
       ·by_cases ck:j<i
        ·rw [if_pos ck,if_pos (by omega)]
        ·rw [if_neg ck,if_neg (by omega)])
   (fun _ _=>by
     unfold xn
     refine d4 (by simp) ?_
     simp only
     congr 2
     exact fj fun j aE=>if_pos aE) () trivial
  refine aP (x:=bd n fun j=>c1 (a j-a k*b j)) ?_ rfl
  unfold JE
  have bP:(bd n fun j=>if j<0 then c1 (a j-a k*b j) else c1 (a j))=bd n fun j=>c1 (a j):=fj fun j _=>if_neg (by omega)
  rw [bP] at e1
  exact e1
theorem abY (n:Nat)(a5:n≤1000)(k:Nat)(ba:k<n)(a b:Nat→Rat)(bJ:∀j,j<n→gw (a j))(aT:∀j,j<n→gw (b j))(hm:∀j,j<n→gw (-(a k)*b j))(b6:∀j,j<n→gw (a j-a k*b j)):
 Af k 0 n (bd n fun j=>c1 (a j)) (bd n fun j=>c1 (b j))=some (bd n fun j=>c1 (a j-a k*b j)):=by
 unfold Af
 rw [c6]
 refine bI (by omega) (aP (x:=c1 (a k)) (by rw [Int.toNat_natCast];exact iA ba) (aP (qq (bJ k ba)) ?_))
 refine oI (fun h=> ?_) (fun h=> ?_)
 ·have h0:=rS.1 (by simpa using h)
  congr 1
  exact fj fun j _=>by rw [h0];congr 1;grind
 ·refine aP (Sr (bJ k ba)) ?_
  obtain ⟨s,e1,aD⟩:=ik (f:=fun w:Int×List aR=>xd 0 n ((n:Nat):Int) (bd n fun j=>c1 (b j)) (c1 (-(a k))).fB.c0 (c1 (-(a k))).fB.cN (c1 (-(a k))).hP w.1 w.2)
   (fun (i:Nat) (_:Unit)=>((i:Int),bd n fun j=>if j<i then c1 (a j-a k*b j) else c1 (a j))) n (fun _ _=>True) (fun _=>bd n fun j=>c1 (a j-a k*b j))
   (fun i ah _ _=>by
     refine ⟨(),?_,trivial⟩
     unfold xd
     refine dG (by simp only;omega) (bI (by simp only;omega) (aP (x:=c1 (b i)) (by simp only;rw [Int.toNat_natCast];exact iA ah) (aP (qq (aT i ah)) ?_)))
     refine oI (fun h=> ?_) (fun h=> ?_)
     ·refine bI (by simp only;rw [c6];omega) (aP (x:=c1 (a i)) (by simp only;rw [Int.toNat_natCast,iA ah,if_neg (by omega)]) ?_)
      refine aP (Sq (bJ k ba).neg (aT i ah) (hm i ah)) (aP (Ma (bJ i ah) (hm i ah) (by have:=b6 i ah;rw [show a i + -(a k)*b i=a i-a k*b i by grind];exact this)) ?_)
      refine bI (by simp only;rw [c6];omega) ?_
      simp only
      rw [fA (by omega),Int.toNat_natCast,Nat.zero_add,lo]
      congr 3
      exact fj fun j _=>by
       by_cases c:j=i
       ·subst c;rw [if_pos rfl,if_pos (by omega)];congr 1;grind
       ·rw [if_neg c]
        by_cases ck:j<i
        ·rw [if_pos ck,if_pos (by omega)]
        ·rw [if_neg ck,if_neg (by omega)]
     ·have h0:b i=0:=rS.1 (by simpa using h)
      simp only
      rw [fA (by omega)]
      congr 3
      exact fj fun j _=>by
       by_cases c:j=i
       ·subst c;rw [if_neg (by omega),if_pos (by omega),h0];congr 1;grind
       ·by_cases ck:j<i
        ·rw [if_pos ck,if_pos (by omega)]
        ·rw [if_neg ck,if_neg (by omega)])
   (fun _ _=>by
     unfold xd
     refine d4 (by simp) ?_
     simp only
     congr 2
     exact fj fun j aE=>if_pos aE) () trivial
  refine aP (x:=bd n fun j=>c1 (a j-a k*b j)) ?_ rfl
  unfold Jb
  have bP:(bd n fun j=>if j<0 then c1 (a j-a k*b j) else c1 (a j))=bd n fun j=>c1 (a j):=fj fun j _=>if_neg (by omega)
  rw [bP] at e1
  exact e1
def m4 (m N:Nat):List bF:=bd m fun i=>some (i,N+1)
def dK (m:Nat)(t:cr):List Int:=bd m fun i=>((t.B i:Nat):Int)
def ht (N:Nat)(t:cr)(i:Nat):List aR:=bd (N+1) fun j=>c1 (t.T i j)
def ja (m N:Nat)(t:cr):List (List aR):=bd m (ht N t)
def ls (N:Nat)(c:Nat→Rat):List aR:=bd (N+1) fun j=>c1 (c j)
structure MI (m N:Nat) (t:cr) (c:Nat→Rat) (r k:Nat):Prop where
 T : ∀i,i<m→ ∀j,j≤N→gw (t.T i j)
 iL : ∀i,i<m→ ∀j,j≤N→gw ((t.cq r k).T i j)
 M : ∀i,i<m→i≠r→ ∀j,j≤N→gw (-(t.T i k)*(t.T r j / t.T r k))
 bj : ∀j,j≤N→gw (c j)
 sT : ∀j,j≤N→gw (c j-c k*(t.T r j / t.T r k))
 hm : ∀j,j≤N→gw (-(c k)*(t.T r j / t.T r k))
theorem acN {m N:Nat}(hm:m≤1000)(f5:N<1000){t:cr}{c:Nat→Rat}{r k:Nat}(ap:r<m)(ba:k≤N)(ak:t.T r k≠0)(h:MI m N t c r k)(lC:Int):
 Al r k lC (m4 m N) (dK m t) (ls N c) (ja m N t)=some (dK m (t.cq r k),ls N (fun j=>c j-c k*(t.T r j / t.T r k)),ja m N (t.cq r k)):=by
 have rD : ∀j,(t.cq r k).T r j=t.T r j / t.T r k:=fun j=>by simp [cr.cq]
 have tj : ∀i j,i≠r→(t.cq r k).T i j=t.T i j-t.T i k*(t.T r j / t.T r k):=fun i j ah=>by simp [cr.cq,ah]
 unfold Al
 refine bI (by unfold m4;rw [c6];omega) (aP (x:=some (r,N+1)) (by rw [Int.toNat_natCast];exact iA ap) (aP (x:=(r,N+1)) rfl (aP (x:=ht N t r) (gn ap) ?_)))
 refine bI (by simp only;omega) (aP (x:=c1 (t.T r k)) (by rw [Int.toNat_natCast];exact iA (by omega)) ?_)
 obtain ⟨s1,e1,-⟩:=ik (f:=fun w:Int×List (List aR)=>xo r k (((N+1:Nat):Nat):Int) lC (m4 m N) (dK m t) (ls N c) (c1 (t.T r k)).fB.c0 (c1 (t.T r k)).fB.cN (c1 (t.T r k)).hP w.1 w.2)
  (fun (i:Nat) (_:Unit)=>((i:Int),bd m fun eO=>if eO=r then bd (N+1) (fun j=>if j<i then c1 (t.T r j / t.T r k) else c1 (t.T r j)) else ht N t eO)) (N+1) (fun _ _=>True)
  (fun _=>bd m fun eO=>if eO=r then ht N (t.cq r k) r else ht N t eO)
  (fun i ah _ _=>by
    refine ⟨(),?_,trivial⟩
    unfold xo
    refine dG (by simp only;omega) (bI (by unfold m4;rw [c6];omega) (aP (x:=some (r,N+1)) (by rw [Int.toNat_natCast];exact iA ap) (aP (x:=(r,N+1)) rfl ?_)))
    refine aP (x:=bd (N+1) (fun j=>if j<i then c1 (t.T r j / t.T r k) else c1 (t.T r j))) (by simp only;rw [gn ap,if_pos rfl]) ?_
    refine bI (by simp only;omega) (aP (x:=c1 (t.T r i)) (by simp only;rw [Int.toNat_natCast,iA ah,if_neg (by omega)]) ?_)
    refine aP (Ss (h.T r ap i (by omega)) (h.T r ap k ba) ak (by have:=h.iL r ap i (by omega);rw [rD] at this;exact this)) ?_
    simp only
    rw [fA (by omega),Int.toNat_natCast,Nat.zero_add,lo,lo]
    congr 3
    refine fj fun eO _=> ?_
    by_cases bp:eO=r
    ·rw [if_pos bp,if_pos bp]
     exact fj fun j _=>by
      by_cases ck:j=i
      ·subst ck;rw [if_pos rfl,if_pos (by omega)]
      ·rw [if_neg ck]
       by_cases jJ:j<i
       ·rw [if_pos jJ,if_pos (by omega)]
       ·rw [if_neg jJ,if_neg (by omega)]
    ·rw [if_neg bp,if_neg bp,if_neg bp])
  (fun _ _=>by
    unfold xo
    refine d4 (by simp) ?_
    simp only
    congr 2
    refine fj fun eO _=> ?_
    by_cases bp:eO=r
    ·rw [if_pos bp,if_pos bp]
     exact fj fun j aE=>by rw [if_pos aE,rD]
    ·rw [if_neg bp,if_neg bp]) () trivial
 refine aP (x:=bd m fun eO=>if eO=r then ht N (t.cq r k) r else ht N t eO) ?_ ?_
 ·unfold JF
  have bP:(bd m fun eO=>if eO=r then bd (N+1) (fun j=>if j<0 then c1 (t.T r j / t.T r k) else c1 (t.T r j)) else ht N t eO)=ja m N t:=fj fun eO _=>by
   by_cases bp:eO=r
   ·rw [if_pos bp,bp];exact fj fun j _=>if_neg (by omega)
   ·rw [if_neg bp]
  rw [bP] at e1
  exact e1
 obtain ⟨s2,aD,-⟩:=ik (f:=fun w:Int×List (List aR)=>xp r k ((m:Nat):Int) lC (m4 m N) (dK m t) (ls N c) w.1 w.2)
  (fun (i:Nat) (_:Unit)=>((i:Int),bd m fun eO=>if eO=r∨eO<i then ht N (t.cq r k) eO else ht N t eO)) m (fun _ _=>True)
  (fun _=>ja m N (t.cq r k))
  (fun i ah _ _=>by
    refine ⟨(),?_,trivial⟩
    unfold xp
    refine dG (by simp only;omega) (oI (fun c8=> ?_) (fun zj=> ?_))
    ·have zK:i≠r:=by intro c;subst c;simp at c8
     refine bI (by unfold m4;rw [c6];simp only;omega) (aP (x:=some (i,N+1)) (by simp only;rw [Int.toNat_natCast];exact iA ah) ?_)
     refine bI (by unfold m4;rw [c6];omega) (aP (x:=some (r,N+1)) (by rw [Int.toNat_natCast];exact iA ap) ?_)
     refine aP (x:=(i,N+1)) rfl (aP (x:=(r,N+1)) rfl ?_)
     refine aP (x:=ht N t i) (by simp only;rw [gn ah,if_neg (by omega)]) (aP (x:=ht N (t.cq r k) r) (by simp only;rw [gn ap,if_pos (.inl rfl)]) ?_)
     refine bI (by simp only;omega) ?_
     refine aP (acM (N+1) (by omega) k (by omega) (fun j=>t.T i j) (fun j=>(t.cq r k).T r j) (fun j aE=>h.T i ah j (by omega)) (fun j aE=>h.iL r ap j (by omega)) (fun j aE=>by rw [rD];exact h.M i ah zK j (by omega)) (fun j aE=>by
      have:=h.iL i ah j (by omega);rw [tj i j zK] at this;rw [rD];exact this)) ?_
     simp only
     rw [fA (by omega),lo,lo]
     congr 3
     refine fj fun eO _=> ?_
     by_cases bp:eO=r
     ·rw [if_pos bp,if_pos (.inl bp),bp]
     ·rw [if_neg bp]
      by_cases ck:eO=i
      ·subst ck
       rw [if_pos rfl,if_pos (.inr (by omega))]
       exact fj fun j _=>by rw [tj eO j zK,rD]
      ·rw [if_neg ck]
       by_cases jJ:eO<i
       ·rw [if_pos (.inr jJ),if_pos (.inr (by omega))]
       ·rw [if_neg (by omega),if_neg (by omega)]
    ·have zK:i=r:=by simp at zj;omega
     simp only
     rw [fA (by omega)]
     congr 3
     refine fj fun eO _=> ?_
     by_cases bp:eO=r∨eO<i
     ·rw [if_pos bp,if_pos (by omega)]
     ·rw [if_neg bp,if_neg (by omega)])
  (fun _ _=>by
    unfold xp
    refine d4 (by simp) ?_
    simp only
    congr 2
    exact fj fun eO jS=>if_pos (.inr jS)) () trivial
 refine aP (x:=ja m N (t.cq r k)) ?_ ?_
 ·unfold JG
  rw [show ((m4 m N).length:Nat)=m from c6 ..]
  have bP:(bd m fun eO=>if eO=r∨eO<0 then ht N (t.cq r k) eO else ht N t eO)=bd m fun eO=>if eO=r then ht N (t.cq r k) r else ht N t eO:=fj fun eO _=>by
   by_cases bp:eO=r
   ·rw [if_pos (.inl bp),if_pos bp,bp]
   ·rw [if_neg (by omega),if_neg bp]
  rw [bP] at aD
  exact aD
 refine aP (x:=ht N (t.cq r k) r) (gn ap) (bI (by simp only;omega) ?_)
 refine aP (abY (N+1) (by omega) k (by omega) c (fun j=>(t.cq r k).T r j) (fun j aE=>h.bj j (by omega)) (fun j aE=>h.iL r ap j (by omega)) (fun j aE=>by rw [rD];exact h.hm j (by omega)) (fun j aE=>by rw [rD];exact h.sT j (by omega))) ?_
 refine bI (by unfold ls;rw [c6,c6]) (bI (by unfold dK;rw [c6];omega) (bI (by unfold dK;rw [c6,Int.toNat_natCast];omega) ?_))
 congr 1
 rw [Int.toNat_natCast,Nat.zero_add]
 congr 1
 ·unfold dK
  rw [lo]
  exact fj fun i _=>by
   simp only [cr.cq]
   split<;>rfl
 ·congr 1
  ·exact fj fun j _=>by rw [rD]
  ·unfold ja
   rw [lo]
   exact fj fun i _=>by
    split
    ·rename_i bp;rw [bp]
    ·rfl
theorem acO {m:Nat}(hm:m≤1000)(t:cr)(lC:Int)(rows:List (List aR))(cost:List aR)(j:Nat): ∃b,AD ⟨lC,rows,dK m t,cost⟩ (j:Int)=some b∧(b=true↔ ∃i,i<m∧t.B i=j):=by
 unfold AD
 obtain ⟨r,e,h⟩:=pK (f:=fun w:Int=>z1 j (dK m t) ((m:Nat):Int) w) (fun (i:Nat) (_:Unit)=>(i:Int)) m (fun i _=> ∀k,k<i→t.B k≠j) (fun r=>(r = .inr ()∧ ∃i,i<m∧t.B i=j)∨(r = .inl ()∧ ¬∃i,i<m∧t.B i=j))
  (fun i ah _ cI=>by
    unfold z1
    by_cases c:t.B i=j
    ·right
     refine ⟨_,dG (by omega) (bI (by unfold dK;rw [c6];omega) (aP (x:=((t.B i:Nat):Int)) (by rw [Int.toNat_natCast];exact gn ah) (fP (by simp [c]) rfl))),.inl ⟨rfl,i,ah,c⟩⟩
    ·left
     refine ⟨(),dG (by omega) (bI (by unfold dK;rw [c6];omega) (aP (x:=((t.B i:Nat):Int)) (by rw [Int.toNat_natCast];exact gn ah) (hF (by simp;omega) (by rw [fA (by omega)])))),fun k ba=> ?_⟩
     by_cases e:k=i
     ·rw [e];exact c
     ·exact cI k (by omega))
  (fun _ cI=>⟨_,d4 (by omega) rfl,.inr ⟨rfl,fun ⟨i,ah,e⟩=>cI i ah e⟩⟩) () (fun k ba=>by omega)
 have ey:D0 j (dK m t) (len_ eI (dK m t)) 0=some r:=by
  unfold D0;rw [fT,show (dK m t).length=m from c6 ..];exact e
 rcases h with ⟨rfl,h⟩|⟨rfl,h⟩
 ·exact ⟨true,aP ey rfl,by simp [h]⟩
 ·exact ⟨false,aP ey rfl,by simp [h]⟩
theorem ads {N:Nat}(f5:N<1000)(lC:Int)(rows:List (List aR))(kb:List Int)(c:Nat→Rat){j:Nat}(aE:j≤N)(bj:gw (c j)):uX ⟨lC,rows,kb,ls N c⟩ (j:Int) false=some (j1 (c j)):=by
 unfold uX
 refine bI (by unfold ls;rw [c6];omega) (aP (x:=c1 (c j)) (by rw [Int.toNat_natCast];exact gn (by omega)) (aP (qq bj) ?_))
 refine aP (x:= .inl (j1 (c j))) ?_ rfl
 unfold Kq
 rw [iter]
 have:z4 lC rows kb (ls N c) (j:Int) false (j1 (c j)) 0=some (.inr (.inl (j1 (c j)))):=by
  unfold z4
  exact oI (fun _=>rfl) (fun _=>rfl)
 simp only
 rw [this];rfl
theorem EP {x y z w:Rat}(aZ:0<y)(hw:0<w):(x / y≤z / w↔x*w≤z*y)∧(x / y=z / w↔x*w=z*y):=by
 have e1:x*w=(x / y)*(y*w):=by grind
 have aD:z*y=(z / w)*(y*w):=by grind
 have ak:0<y*w:=Rat.mul_pos aZ hw
 constructor
 ·rw [e1,aD]
  constructor
  ·intro h;exact Rat.mul_le_mul_of_nonneg_right h (Rat.le_of_lt ak)
  ·intro h
   apply Classical.byContradiction
   intro c
   have:z / w<x / y:=by grind
   have:=Rat.mul_lt_mul_of_pos_right this ak
   grind
 ·rw [e1,aD]
  constructor
  ·intro h;rw [h]
  ·intro h
   have c8:y*w≠0:=by grind
   grind
def E2 (m N:Nat)(t:cr)(j:Nat)(r:Int):Prop :=
 (r = -1∧ ∀i,i<m→ ¬0<t.T i j)∨ ∃b:Nat,r=b∧b<m∧0<t.T b j∧(∀i,i<m→0<t.T i j→t.T b N*t.T i j≤t.T i N*t.T b j)∧(∀i,i<m→0<t.T i j→t.T b N*t.T i j=t.T i N*t.T b j→t.B b≤t.B i)
theorem acP {m N:Nat}(hm:m≤1000)(f5:N<1000)(t:cr)(lC:Int)(cost:List aR){j:Nat}(aE:j≤N)(iy:∀i,i<m→ ∀j,j≤N→gw (t.T i j))(bb:∀i,i<m→0<t.T i j→gw (t.T i N / t.T i j)):
 ∃r,AF ⟨lC,ja m N t,dK m t,cost⟩ (j:Int)=some r∧E2 m N t j r:=by
 unfold AF
 obtain ⟨r,e,h⟩:=pK (f:=fun w:Int×Int×Bool×(List Int)×(List Int)=>xz lC (ja m N t) (dK m t) cost j ((m:Nat):Int) w.1 w.2.1 w.2.2.1 w.2.2.2.1 w.2.2.2.2)
  (fun (i:Nat) (s:Int×aR)=>(s.1,(i:Int),s.2.fB.c0,s.2.fB.cN,s.2.hP)) m
  (fun n s=>(s.1 = -1∧ ∀i,i<n→ ¬0<t.T i j)∨ ∃b:Nat,s.1=b∧b<n∧0<t.T b j∧s.2=c1 (t.T b N / t.T b j)∧ ∀i,i<n→0<t.T i j→t.T b N / t.T b j<t.T i N / t.T i j∨(t.T b N / t.T b j=t.T i N / t.T i j∧t.B b≤t.B i))
  (fun r=>E2 m N t j r)
  (fun n a5 s cI=>by
    left
    unfold xz
    have g1:0≤((n:Nat):Int)∧((n:Nat):Int)<((ja m N t).length:Nat):=by unfold ja;rw [c6];omega
    have g2:(ja m N t)[((n:Nat):Int).toNat]? = some (ht N t n):=by rw [Int.toNat_natCast];exact gn a5
    have g3:0≤((j:Nat):Int)∧((j:Nat):Int)<((ht N t n).length:Nat):=by unfold ht;rw [c6];omega
    have g4:(ht N t n)[((j:Nat):Int).toNat]? = some (c1 (t.T n j)):=by rw [Int.toNat_natCast];exact gn (by omega)
    have jV:R ((n:Int)+1)=((n+1:Nat):Int):=fA (by omega)
    have wl:R (len_ aS (ht N t n)-1)=(N:Int):=by
     rw [fa,show (ht N t n).length=N+1 from c6 ..,cw (by omega) (by omega)];omega
    by_cases ak:0<t.T n j
    ·have b6 : ¬j1 (t.T n j)≤0:=by have:=q2.2 ak;omega
     have g5:0≤R (len_ aS (ht N t n)-1)∧R (len_ aS (ht N t n)-1)<((ht N t n).length:Nat):=by rw [wl];unfold ht;rw [c6];omega
     have g6:(ht N t n)[(R (len_ aS (ht N t n)-1)).toNat]? = some (c1 (t.T n N)):=by rw [wl,Int.toNat_natCast];exact gn (by omega)
     have g7:u5 (c1 (t.T n N)) (c1 (t.T n j))=some (c1 (t.T n N / t.T n j)):=Ss (iy n a5 N (by omega)) (iy n a5 j aE) (by grind) (bb n a5 ak)
     rcases cI with ⟨h1,o⟩|⟨b,h1,aT,jT,o,af⟩
     ·refine ⟨((n:Int),c1 (t.T n N / t.T n j)),dG (by simp only;omega) (bI g1 (aP g2 (bI g3 (aP g4 (aP (qq (iy n a5 j aE)) (d4 b6 (bI g5 (aP g6 (aP g7 (dG (by simp only;omega) ?_)))))))))),.inr ⟨n,rfl,by omega,ak,rfl,fun i ah iI=> ?_⟩⟩
      ·simp only;rw [jV]
      ·by_cases c:i=n
       ·subst c;exact .inr ⟨rfl,Nat.le_refl _⟩
       ·exact (o i (by omega) iI).elim
     ·have g8:u6 (c1 (t.T n N / t.T n j)) (⟨(⟨s.2.fB.c0,s.2.fB.cN⟩:bx),s.2.hP⟩:aR)=some (if t.T n N / t.T n j<t.T b N / t.T b j then -1 else if t.T b N / t.T b j<t.T n N / t.T n j then 1 else 0):=by
       have:(⟨(⟨s.2.fB.c0,s.2.fB.cN⟩:bx),s.2.hP⟩:aR)=c1 (t.T b N / t.T b j):=o
       rw [this]
       exact adX (bb n a5 ak) (bb b (by omega) jT)
      by_cases bp:t.T n N / t.T n j<t.T b N / t.T b j
      ·rw [if_pos bp] at g8
       refine ⟨((n:Int),c1 (t.T n N / t.T n j)),dG (by simp only;omega) (bI g1 (aP g2 (bI g3 (aP g4 (aP (qq (iy n a5 j aE)) (d4 b6 (bI g5 (aP g6 (aP g7 (d4 (by simp only;omega) (aP g8 (dG (by omega) ?_)))))))))))),.inr ⟨n,rfl,by omega,ak,rfl,fun i ah iI=> ?_⟩⟩
       ·simp only;rw [jV]
       ·by_cases c:i=n
        ·subst c;exact .inr ⟨rfl,Nat.le_refl _⟩
        ·rcases af i (by omega) iI with h|⟨h,-⟩
         ·left;grind
         ·left;rw [← h];exact bp
      ·rw [if_neg bp] at g8
       by_cases ck:t.T b N / t.T b j<t.T n N / t.T n j
       ·rw [if_pos ck] at g8
        refine ⟨s,dG (by simp only;omega) (bI g1 (aP g2 (bI g3 (aP g4 (aP (qq (iy n a5 j aE)) (d4 b6 (bI g5 (aP g6 (aP g7 (d4 (by simp only;omega) (aP g8 (d4 (by omega) (hF (by decide) ?_))))))))))))),.inr ⟨b,h1,by omega,jT,o,fun i ah iI=> ?_⟩⟩
        ·simp only;rw [jV]
        ·by_cases c:i=n
         ·subst c;exact .inl ck
         ·exact af i (by omega) iI
       ·rw [if_neg ck] at g8
        have NB:t.T b N / t.T b j=t.T n N / t.T n j:=by grind
        have F7:0≤((n:Nat):Int)∧((n:Nat):Int)<((dK m t).length:Nat):=by unfold dK;rw [c6];omega
        have F8:(dK m t)[((n:Nat):Int).toNat]? = some ((t.B n:Nat):Int):=by rw [Int.toNat_natCast];exact gn a5
        have T2:0≤s.1∧s.1<((dK m t).length:Nat):=by unfold dK;rw [c6];omega
        have T3:(dK m t)[s.1.toNat]? = some ((t.B b:Nat):Int):=by rw [h1,Int.toNat_natCast];exact gn (by omega)
        by_cases jJ:t.B n<t.B b
        ·refine ⟨((n:Int),c1 (t.T n N / t.T n j)),dG (by simp only;omega) (bI g1 (aP g2 (bI g3 (aP g4 (aP (qq (iy n a5 j aE)) (d4 b6 (bI g5 (aP g6 (aP g7 (d4 (by simp only;omega) (aP g8 (d4 (by omega) (fP rfl (bI F7 (aP F8 (bI T2 (aP T3 (dG (by omega) ?_)))))))))))))))))),.inr ⟨n,rfl,by omega,ak,rfl,fun i ah iI=> ?_⟩⟩
         ·simp only;rw [jV]
         ·by_cases c:i=n
          ·subst c;exact .inr ⟨rfl,Nat.le_refl _⟩
          ·rcases af i (by omega) iI with h|⟨h,cP⟩
           ·left;grind
           ·right;exact ⟨by grind,by omega⟩
        ·refine ⟨s,dG (by simp only;omega) (bI g1 (aP g2 (bI g3 (aP g4 (aP (qq (iy n a5 j aE)) (d4 b6 (bI g5 (aP g6 (aP g7 (d4 (by simp only;omega) (aP g8 (d4 (by omega) (fP rfl (bI F7 (aP F8 (bI T2 (aP T3 (d4 (by omega) ?_)))))))))))))))))),.inr ⟨b,h1,by omega,jT,o,fun i ah iI=> ?_⟩⟩
         ·simp only;rw [jV]
         ·by_cases c:i=n
          ·subst c;exact .inr ⟨NB,by omega⟩
          ·exact af i (by omega) iI
    ·have b6:j1 (t.T n j)≤0:=by
      have : ¬0<j1 (t.T n j):=fun c=>ak (q2.1 c)
      omega
     refine ⟨s,dG (by simp only;omega) (bI g1 (aP g2 (bI g3 (aP g4 (aP (qq (iy n a5 j aE)) (dG b6 ?_)))))),?_⟩
     ·simp only;rw [jV]
     ·rcases cI with ⟨h1,o⟩|⟨b,h1,aT,jT,o,af⟩
      ·exact .inl ⟨h1,fun i ah=>if c:i=n then c▸ak else o i (by omega)⟩
      ·exact .inr ⟨b,h1,by omega,jT,o,fun i ah iI=>if c:i=n then (ak (c▸iI)).elim else af i (by omega) iI⟩)
  (fun s cI=>by
    refine ⟨s.1,by unfold xz;exact d4 (by simp only;omega) rfl,?_⟩
    rcases cI with ⟨h1,o⟩|⟨b,h1,aT,jT,o,af⟩
    ·exact .inl ⟨h1,o⟩
    ·refine .inr ⟨b,h1,aT,jT,fun i ah iI=> ?_,fun i ah iI he=> ?_⟩
     ·rw [← (EP jT iI).1]
      rcases af i ah iI with h|⟨h,-⟩
      ·exact Rat.le_of_lt h
      ·rw [h];exact Rat.le_refl
     ·rw [← (EP jT iI).2] at he
      rcases af i ah iI with h|⟨-,h⟩
      ·rw [he] at h;grind
      ·exact h) ((-1:Int),(⟨⟨false,[]⟩,[]⟩:aR)) (.inl ⟨rfl,fun i ah=>by omega⟩)
 refine ⟨r,aP ?_ rfl,h⟩
 unfold Kb
 rw [fa,show (ja m N t).length=m from c6 ..]
 exact e
theorem BL {m N:Nat}(t:cr):(m4 m N).all (rq (ja m N t))=true:=by
 rw [List.all_eq_true]
 intro x U
 obtain ⟨i,ah,rfl⟩:=LO.1 U
 simp only [rq]
 have h1:(ja m N t).length=m:=c6 ..
 have o:(ja m N t).getD i []=ht N t i:=by
  rw [List.getD_eq_getElem?_getD,show (ja m N t)[i]? = some (ht N t i) from gn ah];rfl
 rw [h1,o,show (ht N t i).length=N+1 from c6 ..]
 simp [ah]
theorem vy {m N:Nat}(t:cr):(m4 m N).map (iP (ja m N t))=ja m N t:=by
 unfold m4
 rw [RO]
 exact fj fun i ah=>by
  have o:(ja m N t).getD i []=ht N t i:=by
   rw [List.getD_eq_getElem?_getD,show (ja m N t)[i]? = some (ht N t i) from gn ah];rfl
  simp only [iP]
  rw [o]
  exact List.take_of_length_le (Nat.le_of_eq (c6 ..))
theorem acQ {m N:Nat}(hm:m≤1000)(f5:N<1000)(t:cr)(c:Nat→Rat)(deep:Bool)(G:Nat→Prop)(agI:∀j,G j→ ∀i,i<m→t.B i≠j)
 (b6 : ∀j,j<N→ ∃g,uX ⟨N,ja m N t,dK m t,ls N c⟩ (j:Int) deep=some g∧((∀i,i<m→t.B i≠j)→(0<g↔G j))) :
 ∃r,D1 deep N (m4 m N) (dK m t) (ls N c) (ja m N t) (-1) 0=some r∧((r = -1∧ ∀j,j<N→ ¬G j)∨ ∃s:Nat,r=s∧s<N∧G s∧ ∀j,j<s→ ¬G j):=by
 unfold D1
 refine pK (f:=fun w:Int×Int=>uD deep N (m4 m N) (dK m t) (ls N c) (ja m N t) w.1 w.2) (fun (i:Nat) (e:Int)=>(e,(i:Int))) N
  (fun n e=>(e = -1∧ ∀j,j<n→ ¬G j)∨ ∃s:Nat,e=s∧s<N∧G s∧ ∀j,j<s→ ¬G j) _ (fun n a5 e cI=> ?_) (fun e cI=> ?_) (-1) (.inl ⟨rfl,fun j aE=>by omega⟩)
 ·rcases cI with ⟨rfl,h⟩|⟨s,rfl,wj,sW,af9⟩
  ·left
   obtain ⟨b,e1,aD⟩:=acO hm t (N:Int) (ja m N t) (ls N c) n
   obtain ⟨g,g1,g2⟩:=b6 n a5
   unfold uD
   cases b with
   | true =>
    obtain ⟨i,ah,FJ⟩:=aD.1 rfl
    refine ⟨-1,dG (by simp only;omega) (dG (by simp) (bI (BL t) (aP (by rw [vy];exact e1) (fP rfl ?_)))),.inl ⟨rfl,fun j aE dF=> ?_⟩⟩
    ·simp only;rw [fA (by omega)]
    ·by_cases c:j=n
     ·subst c;exact agI j dF i ah FJ
     ·exact h j (by omega) dF
   | false =>
    have T4 : ∀i,i<m→t.B i≠n:=fun i ah e=>by have:=aD.2 ⟨i,ah,e⟩;simp at this
    by_cases dF:G n
    ·refine ⟨(n:Int),dG (by simp only;omega) (dG (by simp) (bI (BL t) (aP (by rw [vy];exact e1) (hF rfl (aP (by rw [vy];exact g1) (dG ((g2 T4).2 dF) ?_)))))),.inr ⟨n,rfl,a5,dF,h⟩⟩
     simp only;rw [fA (by omega)]
    ·refine ⟨-1,dG (by simp only;omega) (dG (by simp) (bI (BL t) (aP (by rw [vy];exact e1) (hF rfl (aP (by rw [vy];exact g1) (d4 (fun x=>dF ((g2 T4).1 x)) ?_)))))),.inl ⟨rfl,fun j aE=>if c:j=n then c▸dF else h j (by omega)⟩⟩
     simp only;rw [fA (by omega)]
  ·right
   exact ⟨(s:Int),by unfold uD;exact dG (by simp only;omega) (d4 (by simp only;omega) rfl),.inr ⟨s,rfl,wj,sW,af9⟩⟩
 ·exact ⟨e,by unfold uD;exact d4 (by simp only;omega) rfl,cI⟩
theorem cr.aax {gA m N K:Nat}{A obj:Nat→Nat→Rat}{t:cr}(h:gl gA m N A t){j:Nat}(g:t.rz m K obj j): ∀i,i<m→t.B i≠j :=
 fun i ah e=>hO.not_zero g fun l _=>by rw [← e];exact h.yx (obj l) ah
theorem adY {gA m N K:Nat}(hm:m≤1000)(f5:N<1000){A obj:Nat→Nat→Rat}(deep:Bool)(Inv:cr→Prop)
 (inv : ∀t,Inv t→gl gA m N A t∧t.ld m N) (gL : ∀t r s,Inv t→ot m N K obj (fun _=>True) t r s→Inv (t.cq r s))
 (b6 : ∀t,Inv t→ ∀j,j<N→ ∃g,uX ⟨N,ja m N t,dK m t,ls N (t.c7 m (obj 0))⟩ (j:Int) deep=some g∧((∀i,i<m→t.B i≠j)→(0<g↔t.rz m K obj j)))
 (iy : ∀t,Inv t→ ∀i,i<m→ ∀j,j≤N→gw (t.T i j)) (bb : ∀t,Inv t→ ∀i,i<m→ ∀j,j≤N→0<t.T i j→gw (t.T i N / t.T i j))
 (ak : ∀t,Inv t→ ∀r k,r<m→k<N→t.T r k≠0→MI m N t (t.c7 m (obj 0)) r k) (t:cr) (cj:Inv t) :
 ∃b dw,yn deep N (m4 m N) (dK m t) (ls N (t.c7 m (obj 0))) (ja m N t)=some (b,dK m dw,ls N (dw.c7 m (obj 0)),ja m N dw)∧Inv dw ∧
  ((b=true∧ ∀j,j<N→ ¬dw.rz m K obj j)∨(b=false∧ ∃s,s<N∧dw.rz m K obj s∧ ∀i,i<m→ ¬0<dw.T i s)):=by
 obtain ⟨x,dT,dw,e,⟨Tv,cI⟩,-,-,ez⟩:=Qm (gA:=gA) (m:=m) (N:=N) (K:=K) (A:=A) (obj:=obj) (b8:=fun _=>True)
  (f:=fun w:(List Int)×(List aR)×(List (List aR))=>z2 deep N (m4 m N) w.1 w.2.1 w.2.2)
  (fun a t=>a=(dK m t,ls N (t.c7 m (obj 0)),ja m N t)∧Inv t)
  (fun a x t=> ∃b,x=(b,dK m t,ls N (t.c7 m (obj 0)),ja m N t)∧((b=true∧ ∀j,j<N→ ¬t.rz m K obj j)∨(b=false∧ ∃s,s<N∧t.rz m K obj s∧ ∀i,i<m→ ¬0<t.T i s)))
  (fun a t c5 ok lH=>by
    obtain ⟨rfl,cI⟩:=c5
    obtain ⟨r,e1,aD⟩:=acQ hm f5 t (t.c7 m (obj 0)) deep (t.rz m K obj) (fun j dF=>cr.aax ok dF) (b6 t cI)
    simp only
    unfold z2
    rcases aD with ⟨rfl,h⟩|⟨s,rfl,F9,dF,aU⟩
    ·left
     exact ⟨_,aP e1 (dG (by decide) rfl),true,rfl,.inl ⟨rfl,h⟩⟩
    ·obtain ⟨q,q1,a7⟩:=acP hm f5 t (N:Int) (ls N (t.c7 m (obj 0))) (j:=s) (by omega) (iy t cI) (fun i ah iI=>bb t cI i ah s (by omega) iI)
     rcases a7 with ⟨rfl,h⟩|⟨b,rfl,aT,jT,h1,o⟩
     ·left
      exact ⟨_,aP e1 (d4 (by omega) (bI (BL t) (aP (by rw [vy];exact q1) (dG (by decide) rfl)))),false,rfl,.inr ⟨rfl,s,F9,dF,h⟩⟩
     ·right
      have di:ot m N K obj (fun _=>True) t b s:=⟨F9,trivial,dF,fun j aE _=>aU j aE,aT,jT,h1,o⟩
      refine ⟨_,b,s,aP e1 (d4 (by omega) (bI (BL t) (aP (by rw [vy];exact q1) (d4 (by omega) (aP (acN hm f5 aT (by omega) (by grind) (ak t cI b s aT F9 (by grind)) N) rfl))))),di,?_,gL t b s cI di⟩
      refine Prod.ext rfl (Prod.ext ?_ rfl)
      exact fj fun j _=>by rw [ok.LC (obj 0) aT F9 (by grind)])
  (a:=(dK m t,ls N (t.c7 m (obj 0)),ja m N t)) (t:=t) ⟨rfl,cj⟩ (inv t cj).1 (inv t cj).2
 obtain ⟨b,rfl,aT⟩:=ez
 refine ⟨b,dw,?_,cI,aT⟩
 unfold yn
 exact aP (x:=(b,dK m dw,ls N (dw.c7 m (obj 0)),ja m N dw)) (by unfold Kc;exact e) rfl
structure mw (p:hN) (m n:Nat) (a:Nat→Nat→Int) (b:Nat→Int):Prop where
 rows:p.fz=m
 gE:p.eh=n
 gG:p.dt.length=m*n
 MJ : ∀i,i<m→ ∀j,j<n→p.dt[i*n+j]? = some (a i j)
 wK:p.dM.length=m
 zg : ∀i,i<m→p.dM[i]? = some (b i)
 hm:m≤20
 a5:n≤40
 tk : ∀i,i<m→ ∀j,j<n→ -100≤a i j∧a i j≤100
 wJ : ∀i,i<m→ -100≤b i∧b i≤100
theorem sM {p:hN}{m n:Nat}{a:Nat→Nat→Int}{b:Nat→Int}(h:mw p m n a b){i:Nat}(ah:i<m)(j:Nat): -100≤kz m n a b i j∧kz m n a b i j≤100:=by
 have aT:=h.wJ i ah
 unfold kz kp
 by_cases c:j<n
 ·have bJ:=h.tk i ah j c
  rw [if_pos c];split<;>omega
 ·rw [if_neg c]
  split
  ·split<;>omega
  ·split<;>omega
theorem Mm {p:hN}{m n:Nat}{a:Nat→Nat→Int}{b:Nat→Int}(h:mw p m n a b){i:Nat}(ah:i<m)(j:Nat):eE 100 (dH m n a b i j) :=
 ⟨kz m n a b i j,rfl,by have:=sM h ah j;omega⟩
theorem adt:(1000000000000000000:Int)<B 24:=by decide
theorem Lo {K:Nat}{x:Rat}(h:eE K x)(ba:K≤1000000000000000000):gw x:=by
 obtain ⟨z,rfl,cF⟩:=h
 have:=adt
 exact Rp (n:=z) (d:=1) (by decide) (by rw [show ((1:Int):Rat)=1 from rfl];grind) (by omega) (by omega)
theorem Mb {p:hN}{m n:Nat}{a:Nat→Nat→Int}{b:Nat→Int}(h:mw p m n a b){i:Nat}(ah:i<m):u4 p i=some (bd n (a i)):=by
 have hm:=h.hm
 have a5:=h.a5
 have h1:i*n≤20*40:=Nat.mul_le_mul (by omega) a5
 have o:(i+1)*n≤20*40:=Nat.mul_le_mul (by omega) a5
 have af:(i+1)*n≤m*n:=Nat.mul_le_mul_right _ ah
 have e1:R ((i:Int)*p.eh)=((i*n:Nat):Int):=by
  rw [h.gE,← Int.natCast_mul,cw (by omega) (by omega)]
 have aD:R (R ((i:Int)+1)*p.eh)=(((i+1)*n:Nat):Int):=by
  rw [h.gE,fA (by omega),← Int.natCast_mul,cw (by omega) (by omega)]
 have av:(i+1)*n=i*n+n:=Nat.succ_mul i n
 unfold u4
 rw [e1,aD,Int.toNat_natCast,Int.toNat_natCast,h.gG]
 refine bI (by omega) (bI (by omega) (bI (by omega) ?_))
 congr 1
 apply List.ext_getElem?
 intro j
 rw [List.getElem?_take,List.getElem?_drop]
 by_cases c:j<n
 ·rw [if_pos (by omega),h.MJ i ah j c,gn c]
 ·rw [if_neg (by omega)]
  symm
  rw [List.getElem?_eq_none_iff,c6];omega
def hp (m n:Nat)(a:Nat→Nat→Int)(b:Nat→Int)(i j:Nat):Rat:=if j<n∨j=n+m then cS i (fun k=>dH m n a b k j) else 0
theorem SO {p:hN}{m n:Nat}{a:Nat→Nat→Int}{b:Nat→Int}(h:mw p m n a b){i:Nat}(ah:i≤m)(j:Nat):eE 2000 (hp m n a b i j):=by
 have hm:=h.hm
 unfold hp
 split
 ·exact (eE.sum fun k ba=>Mm h (by omega) j).mono (by omega)
 ·exact ⟨0,rfl,by omega⟩
theorem ZP {p:hN}{m n:Nat}{a:Nat→Nat→Int}{b:Nat→Int}(h:mw p m n a b){i:Nat}(ah:i<m)(aT:b i<0)(x0:Int)(a7:List bF)(bZ:List (List aR))(cC:List Int)(dr:List aR):
 (DT (i:Int) (bd n (a i)) (len_ eI (bd n (a i))) p.fz p.eh p.dt p.dM p.hZ x0 a7 bZ cC dr 0 ([]:List aR) >>= fun de=>DU (i:Int) p.fz p.eh p.dt p.dM p.hZ x0 a7 bZ cC dr 0 de)=some (bd (n+m) fun j=>c1 (dH m n a b i j)):=by
 have hm:=h.hm
 have a5:=h.a5
 have b6:kp (b i) = -1:=by unfold kp;rw [if_pos aT]
 obtain ⟨s1,e1,-⟩:=ik (f:=fun w:Int×List aR=>xk (i:Int) (bd n (a i)) ((n:Nat):Int) p.fz p.eh p.dt p.dM p.hZ x0 a7 bZ cC dr w.1 w.2)
  (fun (k:Nat) (_:Unit)=>((k:Int),bd k fun j=>c1 (dH m n a b i j))) n (fun _ _=>True) (fun _=>bd n fun j=>c1 (dH m n a b i j))
  (fun k ba _ _=>by
    refine ⟨(),?_,trivial⟩
    have bJ:=h.tk i ah k ba
    unfold xk
    have e:R ((-1:Int)*a i k)=kz m n a b i k:=by
     rw [cw (by omega) (by omega)];unfold kz;rw [if_pos ba,b6]
    refine dG (by simp only;omega) (bI (by rw [c6];simp only;omega) (aP (x:=a i k) (by simp only;rw [Int.toNat_natCast];exact gn ba) (aP (x:=c1 (dH m n a b i k)) ?_ (bI (by simp only [List.length_append,c6,List.length_cons,List.length_nil];omega) ?_))))
    ·rw [e];exact sC (by have:=sM h ah k;rw [mU];omega)
    ·simp only;rw [fA (by omega),ln])
  (fun _ _=>by unfold xk;exact d4 (by simp) rfl) () trivial
 refine aP (x:=bd n fun j=>c1 (dH m n a b i j)) (by unfold DT;rw [fT,c6];exact e1) ?_
 obtain ⟨s2,aD,-⟩:=ik (f:=fun w:Int×List aR=>xl (i:Int) p.fz p.eh p.dt p.dM p.hZ x0 a7 bZ cC dr w.1 w.2)
  (fun (k:Nat) (_:Unit)=>((k:Int),bd (n+k) fun j=>c1 (dH m n a b i j))) m (fun _ _=>True) (fun _=>bd (n+m) fun j=>c1 (dH m n a b i j))
  (fun k ba _ _=>by
    refine ⟨(),?_,trivial⟩
    unfold xl
    have Dq:kz m n a b i (n+k)=if k=i then 1 else 0:=by
     unfold kz
     rw [if_neg (by omega),if_neg (by omega)]
     by_cases c:k=i
     ·rw [if_pos c,if_pos (by omega)]
     ·rw [if_neg c,if_neg (by omega)]
    refine dG (by simp only;rw [h.rows];omega) (oI (fun c=> ?_) (fun c=> ?_))
    ·have wt:k=i:=by simp at c;omega
     refine aP (x:=c1 (dH m n a b i (n+k))) (by unfold dH;rw [Dq,if_pos wt];exact sC (by rw [mU];omega)) (bI (by simp only [List.length_append,c6,List.length_cons,List.length_nil];omega) ?_)
     simp only;rw [fA (by omega),← Nat.add_assoc,ln]
    ·have wt:k≠i:=by simp at c;omega
     refine aP (x:=c1 (dH m n a b i (n+k))) (by unfold dH;rw [Dq,if_neg wt];exact sC (by rw [mU];omega)) (bI (by simp only [List.length_append,c6,List.length_cons,List.length_nil];omega) ?_)
     simp only;rw [fA (by omega),← Nat.add_assoc,ln])
  (fun _ _=>by unfold xl;exact d4 (by simp only;rw [h.rows];omega) rfl) () trivial
 unfold DU
 exact aD
theorem ZQ {p:hN}{m n:Nat}{a:Nat→Nat→Int}{b:Nat→Int}(h:mw p m n a b){i:Nat}(ah:i<m)(aT:¬b i<0)(x0:Int)(a7:List bF)(bZ:List (List aR))(cC:List Int)(dr:List aR):
 (DO (i:Int) (bd n (a i)) (len_ eI (bd n (a i))) p.fz p.eh p.dt p.dM p.hZ x0 a7 bZ cC dr 0 ([]:List aR) >>= fun de=>DP (i:Int) p.fz p.eh p.dt p.dM p.hZ x0 a7 bZ cC dr 0 de)=some (bd (n+m) fun j=>c1 (dH m n a b i j)):=by
 have hm:=h.hm
 have a5:=h.a5
 have b6:kp (b i)=1:=by unfold kp;rw [if_neg aT]
 obtain ⟨s1,e1,-⟩:=ik (f:=fun w:Int×List aR=>xa (i:Int) (bd n (a i)) ((n:Nat):Int) p.fz p.eh p.dt p.dM p.hZ x0 a7 bZ cC dr w.1 w.2)
  (fun (k:Nat) (_:Unit)=>((k:Int),bd k fun j=>c1 (dH m n a b i j))) n (fun _ _=>True) (fun _=>bd n fun j=>c1 (dH m n a b i j))
  (fun k ba _ _=>by
    refine ⟨(),?_,trivial⟩
    have bJ:=h.tk i ah k ba
    unfold xa
    have e:R ((1:Int)*a i k)=kz m n a b i k:=by
     rw [cw (by omega) (by omega)];unfold kz;rw [if_pos ba,b6]
    refine dG (by simp only;omega) (bI (by rw [c6];simp only;omega) (aP (x:=a i k) (by simp only;rw [Int.toNat_natCast];exact gn ba) (aP (x:=c1 (dH m n a b i k)) ?_ (bI (by simp only [List.length_append,c6,List.length_cons,List.length_nil];omega) ?_))))
    ·rw [e];exact sC (by have:=sM h ah k;rw [mU];omega)
    ·simp only;rw [fA (by omega),ln])
  (fun _ _=>by unfold xa;exact d4 (by simp) rfl) () trivial
 refine aP (x:=bd n fun j=>c1 (dH m n a b i j)) (by unfold DO;rw [fT,c6];exact e1) ?_
 obtain ⟨s2,aD,-⟩:=ik (f:=fun w:Int×List aR=>xb (i:Int) p.fz p.eh p.dt p.dM p.hZ x0 a7 bZ cC dr w.1 w.2)
  (fun (k:Nat) (_:Unit)=>((k:Int),bd (n+k) fun j=>c1 (dH m n a b i j))) m (fun _ _=>True) (fun _=>bd (n+m) fun j=>c1 (dH m n a b i j))
  (fun k ba _ _=>by
    refine ⟨(),?_,trivial⟩
    unfold xb
    have Dq:kz m n a b i (n+k)=if k=i then 1 else 0:=by
     unfold kz
     rw [if_neg (by omega),if_neg (by omega)]
     by_cases c:k=i
     ·rw [if_pos c,if_pos (by omega)]
     ·rw [if_neg c,if_neg (by omega)]
    refine dG (by simp only;rw [h.rows];omega) (oI (fun c=> ?_) (fun c=> ?_))
    ·have wt:k=i:=by simp at c;omega
     refine aP (x:=c1 (dH m n a b i (n+k))) (by unfold dH;rw [Dq,if_pos wt];exact sC (by rw [mU];omega)) (bI (by simp only [List.length_append,c6,List.length_cons,List.length_nil];omega) ?_)
     simp only;rw [fA (by omega),← Nat.add_assoc,ln]
    ·have wt:k≠i:=by simp at c;omega
     refine aP (x:=c1 (dH m n a b i (n+k))) (by unfold dH;rw [Dq,if_neg wt];exact sC (by rw [mU];omega)) (bI (by simp only [List.length_append,c6,List.length_cons,List.length_nil];omega) ?_)
     simp only;rw [fA (by omega),← Nat.add_assoc,ln])
  (fun _ _=>by unfold xb;exact d4 (by simp only;rw [h.rows];omega) rfl) () trivial
 unfold DP
 exact aD
end Go.Proofs.YtmeimpeaagmneabGreat
