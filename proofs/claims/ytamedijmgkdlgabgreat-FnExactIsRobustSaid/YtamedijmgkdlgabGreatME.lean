/- Lemmas, plain functions of the program, and what they answer. No condition. -/
import Derived.Test.YtamedijmgkdlgabGreatMD
namespace Go.Proofs.YtamedijmgkdlgabGreat
set_option linter.unusedVariables false
set_option linter.unusedSimpArgs false
open Go Go.VL
theorem ny {n:Nat}(h:n≤10000000):R ((n:Int)+1)=((n+1:Nat):Int):=by rw [cy (by omega) (by omega)];rfl
theorem p5 {n:Nat}(h:n≤10000000):R ((n:Int)-1)=(n:Int)-1:=cy (by omega) (by omega)
theorem KH {n:Nat}(h:n≤10000000):R (((n+1:Nat):Int)-1)=n:=by rw [cy (by omega) (by omega)];omega
theorem fO (l:List Int):len_ eI l=l.length:=e5 _ l
theorem Zm {l:List Int}{k:Nat}{x:Int}(U:l[k]? = some x)(a4:l.length≤5000000):tS l ((k+1:Nat):Int)=some (if x=0 then .inl (k:Int) else .inr ((k+1:Nat):Int)):=by
 have a8:=fT U
 unfold tS
 rw [KH (by omega),if_pos (by simp),if_pos (by omega),Int.toNat_natCast,U]
 by_cases h:x=0<;>simp [h]
theorem ra {l:List Int}(aT:cu l)(a4:l.length≤5000000):pM l=some (L (V l)):=by
 have : ∃r,iter (fun w:Int=>tS l w) (l.length:Int)=some r∧ ∃k:Nat,r=k∧k≤l.length∧l.take k=L (V l):=by
  refine jC (eO:=fun w:Int=> ∃k:Nat,w=k∧k≤l.length∧V (l.take k)=V l) (m:=fun w:Int=>w.toNat) _ ?_ _ ⟨l.length,rfl,by omega,by simp⟩
  rintro _ ⟨k,rfl,a8,bh⟩
  cases k with
  | zero =>
   refine .inr ⟨0,by simp [tS],0,rfl,by omega,?_⟩
   rw [← bh]
   simp [V,qx]
  | succ k =>
   have U:=List.getElem?_eq_getElem (show k<l.length by omega)
   rw [Zm U a4]
   by_cases h:l[k]=0
   ·refine .inl ⟨_,by simp [h],⟨k,rfl,by omega,?_⟩,by omega⟩
    have:=rV U
    rw [h] at this
    simp at this
    omega
   ·refine .inr ⟨_,by simp [h],k+1,rfl,a8,?_⟩
    rcases fF.Kd aT k (fun x h1=>by rw [U] at h1;simp at h1;omega) with h1|h1
    ·exact td h1 bh
    ·omega
 obtain ⟨r,ar,k,rfl,h1,o⟩:=this
 unfold pM IP
 rw [fO,ar]
 simp [h1,o]
theorem xI {l:List Int}(aT:cu l)(a4:l.length≤5000000):pQ l=some (L (V l)):=by
 have : ∃r,iter (fun w:List Int=>w0 w) l=some r∧r=L (V l):=by
  refine jC (eO:=fun w=> ∃k:Nat,w=l.take k∧k≤l.length∧V (l.take k)=V l) (m:=fun w:List Int=>w.length) _ ?_ _ ⟨l.length,by simp,by omega,by simp⟩
  rintro _ ⟨k,rfl,a8,bh⟩
  have hlen:(l.take k).length=k:=by simp;omega
  cases k with
  | zero =>
   refine .inr ⟨[],by simp [w0,fO],?_⟩
   rw [← bh]
   simp [V,qx]
  | succ k =>
   have U:=List.getElem?_eq_getElem (show k<l.length by omega)
   have dC:(l.take (k+1))[k]? = some l[k]:=by rw [List.getElem?_take];simp [U]
   unfold w0
   simp only [fO,hlen]
   rw [KH (by omega),if_pos (by simp),if_pos (by omega),Int.toNat_natCast,dC]
   by_cases h:l[k]=0
   ·refine .inl ⟨l.take k,by simp [h,List.take_take,Nat.min_eq_left],⟨k,rfl,by omega,?_⟩,by simp;omega⟩
    have:=rV U
    rw [h] at this
    simp at this
    omega
   ·refine .inr ⟨l.take (k+1),by simp [h],?_⟩
    rcases fF.Kd aT k (fun x h1=>by rw [U] at h1;simp at h1;omega) with h1|h1
    ·exact td h1 bh
    ·omega
 obtain ⟨r,ar,rfl⟩:=this
 unfold pQ Jq
 rw [ar]
 rfl
theorem Zn {l:List Int}(aT:cu l)(a4:l.length≤5000000): ∃k,zW l=some k∧k≤l.length∧l.take k=L (V l):=by
 have : ∃r,iter (fun w:Nat=>wR l w) l.length=some r∧r≤l.length∧l.take r=L (V l):=by
  refine jC (eO:=fun k=>k≤l.length∧V (l.take k)=V l) (m:=fun w:Nat=>w) _ ?_ _ ⟨by omega,by simp⟩
  rintro k ⟨a8,bh⟩
  cases k with
  | zero =>
   refine .inr ⟨0,by simp [wR],by omega,?_⟩
   rw [← bh]
   simp [V,qx]
  | succ k =>
   have U:=List.getElem?_eq_getElem (show k<l.length by omega)
   unfold wR
   rw [KH (by omega),if_pos (by simp),if_pos (by omega),Int.toNat_natCast,Nat.zero_add,U]
   by_cases h:l[k]=0
   ·refine .inl ⟨k,by simp [h],⟨by omega,?_⟩,by omega⟩
    have:=rV U
    rw [h] at this
    simp at this
    omega
   ·refine .inr ⟨k+1,by simp [h],a8,?_⟩
    rcases fF.Kd aT k (fun x h1=>by rw [U] at h1;simp at h1;omega) with h1|h1
    ·exact td h1 bh
    ·omega
 obtain ⟨r,ar,h1,o⟩:=this
 unfold zW Jb
 rw [ar]
 exact ⟨r,rfl,h1,o⟩
theorem rY {a b:List Int}(bF:fF a)(aS:fF b)(a4:a.length≤5000000):pO a b=some (kV (V a) (V b)):=by
 unfold pO kV
 simp only [fO]
 by_cases h1:a.length=b.length
 ·rw [if_neg (by simp [h1])]
  have : ∃r,iter (fun w:Int=>wM a b w) ((a.length:Int)-1)=some r∧(r.elim (fun _=>V a=V b) (fun c=>(c = -1∧V a<V b)∨(c=1∧V b<V a))):=by
   refine jC (eO:=fun w:Int=> ∃k:Nat,w=(k:Int)-1∧k≤a.length∧V (a.drop k)=V (b.drop k)) (m:=fun w:Int=>(w+1).toNat) _ ?_ _ ⟨a.length,rfl,by omega,by rw [List.drop_length,h1,List.drop_length]⟩
   rintro _ ⟨k,rfl,a8,bh⟩
   cases k with
   | zero=>exact .inr ⟨.inl (),by simp [wM],by simpa using bh⟩
   | succ k =>
    have U:=List.getElem?_eq_getElem (show k<a.length by omega)
    have a3:=List.getElem?_eq_getElem (show k<b.length by omega)
    have e:((k+1:Nat):Int)-1=k:=by omega
    unfold wM
    rw [e,p5 (by omega),if_pos (by simp),if_pos (by omega),Int.toNat_natCast,U]
    simp only [Option.bind_eq_bind,Option.bind_some]
    rw [if_pos (by omega),a3]
    by_cases o:a[k]<b[k]
    ·exact .inr ⟨.inr (-1),by simp [o],.inl ⟨rfl,P0 bF.1 aS.1 U a3 bh o⟩⟩
    ·by_cases ab:b[k]<a[k]
     ·exact .inr ⟨.inr 1,by simp [o,ab],.inr ⟨rfl,P0 aS.1 bF.1 a3 U bh.symm ab⟩⟩
     ·refine .inl ⟨(k:Int)-1,by simp [o,ab],⟨k,rfl,by omega,?_⟩,by omega⟩
      rw [om U,om a3,bh,show a[k]=b[k] by omega]
  obtain ⟨r,ar,o⟩:=this
  unfold I2
  rw [p5 (by omega),ar]
  cases r with
  | inl u =>
   simp at o
   simp [o]
  | inr c =>
   rcases o with ⟨rfl,o⟩|⟨rfl,o⟩
   ·simp [o]
   ·simp [o];omega
 ·rw [if_pos (by simp;omega)]
  by_cases o:a.length<b.length
  ·have:=DJ bF aS o
   simp [o,this]
  ·have:=DJ aS bF (by omega)
   rw [if_neg (by simp;omega),if_neg (by omega),if_pos this]
theorem XV:qk=pO:=rfl
theorem OC {a b:List Int}(bF:fF a)(aS:fF b)(a4:a.length≤5000000):qk a b=some (kV (V a) (V b)):=rY bF aS a4
theorem AA {x y:Int}(U:0≤x∧x<1000000000)(a3:0≤y∧y<1000000000):0≤x*y∧x*y≤999999998000000001:=by
 have h1:=Int.mul_nonneg U.1 a3.1
 have o:x*y≤999999999*999999999:=Int.mul_le_mul (by omega) (by omega) a3.1 (by omega)
 omega
theorem pH {a b:Int}(h:0≤a):a.tmod b=a % b:=Int.tmod_eq_emod_of_nonneg h
theorem m2 {a b:Int}(h:0≤a):a.tdiv b=a / b:=Int.tdiv_eq_ediv_of_nonneg h
theorem Kg (k:Nat)(x:Int)(q:List Int):(List.replicate (k+1) 0++q).set k x=List.replicate k 0++x::q:=by
 induction k with
 | zero=>rfl
 | succ k ih =>
  show (0::(List.replicate (k+1) 0++q)).set (k+1) x=_
  rw [List.set_cons_succ,ih];rfl
theorem YL {a:List Int}{d rest:Int}{row:List Int}{k:Nat}{x:Int}(U:a[k]? = some x)(ko:0≤x∧x<1000000000)(bJ:0<d∧d<1000000000)(ar:0≤rest∧rest<d)(dx:row.length=a.length)(a4:a.length≤1000000):
 wx a d rest (k:Int) row=some (.inl ((rest*1000000000+x) % d,(k:Int)-1,row.set k ((rest*1000000000+x) / d))):=by
 have a8:=fT U
 unfold wx
 rw [if_pos (by simp),if_pos (by omega),Int.toNat_natCast,U]
 simp only [Option.bind_eq_bind,Option.bind_some]
 rw [if_pos (by omega),if_pos (by omega),if_pos (by omega),p5 (by omega)]
 have h1:R (R (rest*1000000000)+x)=rest*1000000000+x:=by rw [cy (x:=rest*1000000000) (by omega) (by omega)];exact cy (by omega) (by omega)
 have o:0≤rest*1000000000+x:=by omega
 have ab:(rest*1000000000+x) / d≤rest*1000000000+x:=Int.ediv_le_self _ o
 have av:0≤(rest*1000000000+x) / d:=Int.ediv_nonneg o (by omega)
 rw [h1,pH o,m2 o,cy (by omega) (by omega),Nat.zero_add]
theorem OD {a:List Int}{d:Int}(bF:cu a)(bJ:0<d∧d<1000000000)(a4:a.length≤1000000):
 ∃r,CK a d 0 ((a.length:Int)-1) (List.replicate a.length 0)=some r∧r.1=V a % d∧cu r.2∧r.2.length=a.length∧V r.2=V a / d:=by
 refine jC (eO:=fun w:Int×Int×List Int=> ∃(k:Nat) (q:List Int),w.2.1=(k:Int)-1∧k≤a.length∧w.2.2=List.replicate k 0++q∧q.length+k=a.length∧cu q∧0≤w.1∧w.1<d∧V (a.drop k)=V q*d+w.1) (m:=fun w:Int×Int×List Int=>(w.2.1+1).toNat) _ ?_ _ ⟨a.length,[],rfl,by omega,by simp,by simp,cu.nil,by omega,by omega,by simp [V]⟩
 rintro ⟨rest,i,row⟩ ⟨k,q,h1,a8,o,bc,pD,lc,hR,bh⟩
 simp only at h1 o lc hR bh ⊢
 subst h1 o
 cases k with
 | zero =>
  refine .inr ⟨(rest,q),by simp [wx],?_,pD,by simpa using bc,?_⟩
  ·simp at bh
   rw [bh,Int.add_comm,Int.add_mul_emod_self_right]
   exact (Int.emod_eq_of_lt lc hR).symm
  ·simp at bh
   rw [bh,Int.add_comm,Int.add_mul_ediv_right _ _ (by omega),Int.ediv_eq_zero_of_lt lc hR]
   simp
 | succ k =>
  have U:=List.getElem?_eq_getElem (show k<a.length by omega)
  have ko:=bF.get U
  rw [show ((k+1:Nat):Int)-1=k by omega,YL U ko bJ ⟨lc,hR⟩ (by simp;omega) a4]
  refine .inl ⟨_,rfl,⟨k,(rest*1000000000+a[k]) / d::q,rfl,by omega,Kg _ _ _,by simp;omega,cu.cons ⟨Int.ediv_nonneg (by omega) (by omega),?_⟩ pD,Int.emod_nonneg _ (by omega),Int.emod_lt_of_pos _ bJ.1,?_⟩,by simp⟩
  ·refine Int.ediv_lt_of_lt_mul bJ.1 ?_
   omega
  ·rw [om U,bh,k5]
   have:=Int.mul_ediv_add_emod (rest*1000000000+a[k]) d
   generalize (rest*1000000000+a[k]) / d=u at *
   generalize (rest*1000000000+a[k]) % d=t at *
   grind
theorem aah {a:List Int}{d:Int}(bF:cu a)(bJ:0<d∧d<1000000000)(a4:a.length≤1000000):zx a d=some (L (V a / d),V a % d):=by
 obtain ⟨r,ar,h1,o,ab,av⟩:=OD bF bJ a4
 unfold zx
 simp only [fO]
 rw [if_pos (by omega),p5 (by omega),Int.toNat_natCast,ar]
 simp only [Option.bind_eq_bind,Option.bind_some]
 rw [ra o (by omega),h1,av]
 rfl
theorem W8:Ip=CK:=rfl
theorem NT {a:List Int}{d:Int}(bF:cu a)(bJ:0<d∧d<1000000000)(a4:a.length≤1000000):w9 a d=some (L (V a / d),V a % d):=by
 obtain ⟨r,ar,h1,o,ab,av⟩:=OD bF bJ a4
 unfold w9
 simp only [fO]
 rw [if_pos (by omega),p5 (by omega),Int.toNat_natCast,W8,ar]
 simp only [Option.bind_eq_bind,Option.bind_some]
 rw [xI o (by omega),h1,av]
 rfl
theorem Zo {b:List Int}{i j:Nat}{x y z carry:Int}{row t26:List Int}{t27:Int}(a3:b[j]? = some y)(cv:row[i+j]? = some z)(U:0≤x∧x<1000000000)(oS:0≤y∧y<1000000000)(qL:0≤z∧z<1000000000)(bf:0≤carry∧carry<1000000000)(a4:row.length≤2000000):
 wN b i x t26 t27 b.length carry j row=some (.inl ((z+x*y+carry) / 1000000000,((j+1:Nat):Int),row.set (i+j) ((z+x*y+carry) % 1000000000))):=by
 have aF:=fT a3
 have py:=fT cv
 obtain ⟨ij,hf⟩:=AA U oS
 unfold wN
 have e:R ((i:Int)+(j:Int))=((i+j:Nat):Int):=by rw [cy (by omega) (by omega)];rfl
 rw [if_pos (by simp;omega),if_pos (by omega),Int.toNat_natCast,a3]
 simp only [Option.bind_eq_bind,Option.bind_some,e,Int.toNat_natCast,Nat.zero_add]
 rw [if_pos (by omega),cv]
 simp only [Option.bind_some]
 rw [if_pos (by omega),ny (by omega),cy (x:=x*y) (by omega) (by omega),cy (x:=z+x*y) (by omega) (by omega),cy (x:=z+x*y+carry) (by omega) (by omega),pH (by omega),m2 (by omega),cy (by omega) (by omega)]
theorem Zp {b:List Int}{i:Nat}{x:Int}{row t26:List Int}{t27:Int}(aS:cu b)(dx:cu row)(U:0≤x∧x<1000000000)(aT:i+b.length<row.length)(a4:row.length≤2000000):
 ∃r,I6 b i x t26 t27 b.length 0 0 row=some r∧0≤r.1∧r.1<1000000000∧cu r.2∧r.2.length=row.length∧V r.2+r.1*B (i+b.length)=V row+x*B i*V b∧ ∀j,i+b.length≤j→r.2[j]? = row[j]? := by
 refine jC (eO:=fun w:Int×Int×List Int=> ∃(j:Nat),w.2.1=(j:Int)∧j≤b.length∧0≤w.1∧w.1<1000000000∧cu w.2.2∧w.2.2.length=row.length∧V w.2.2+w.1*B (i+j)=V row+x*B i*V (b.take j)∧ ∀j,i+b.length≤j→w.2.2[j]? = row[j]?) (m:=fun w:Int×Int×List Int=>b.length-w.2.1.toNat) _ ?_ _ ⟨0,rfl,by omega,by simp,by simp,dx,rfl,by simp [V],fun _ _=>rfl⟩
 rintro ⟨carry,ael,fD⟩ ⟨j,h1,aF,mo,mS,kc,hlen,bh,k8⟩
 simp only at h1 mo mS kc hlen bh k8 ⊢
 subst h1
 by_cases ady:j=b.length
 ·subst ady
  refine .inr ⟨(carry,fD),by simp [wN],mo,mS,kc,hlen,by simpa using bh,k8⟩
 ·have a3:=List.getElem?_eq_getElem (show j<b.length by omega)
  have cv:=List.getElem?_eq_getElem (show i+j<fD.length by omega)
  have oS:=aS.get a3
  have qL:=kc.get cv
  obtain ⟨ij,hf⟩:=AA U oS
  rw [Zo a3 cv U oS qL ⟨mo,mS⟩ (by omega)]
  refine .inl ⟨_,rfl,⟨j+1,rfl,by omega,by simp only;omega,by simp only;omega,kc.set (by omega),by simpa using hlen,?_,fun hK tm=> ?_⟩,by simp;omega⟩
  ·simp only
   rw [rp cv,rV a3,← Nat.add_assoc,l3]
   rw [AN] at bh ⊢
   have:=Int.mul_ediv_add_emod (fD[i+j]+x*b[j]+carry) 1000000000
   generalize (fD[i+j]+x*b[j]+carry) / 1000000000=u at *
   generalize (fD[i+j]+x*b[j]+carry) % 1000000000=t at *
   grind
  ·rw [← k8 hK tm]
   exact List.getElem?_set_ne (by omega)
theorem JO {a b:List Int}(bF:cu a)(aS:cu b)(a4:a.length≤1000000)(hm:b.length≤1000000):
 ∃r,zp b a a.length 0 (List.replicate (a.length+b.length) 0)=some r∧cu r∧r.length=a.length+b.length∧V r=V a*V b:=by
 refine jC (eO:=fun w:Int×List Int=> ∃(i:Nat),w.1=(i:Int)∧i≤a.length∧cu w.2∧w.2.length=a.length+b.length∧V w.2=V (a.take i)*V b∧ ∀j,i+b.length≤j→j<a.length+b.length→w.2[j]? = some 0) (m:=fun w:Int×List Int=>a.length-w.1.toNat) _ ?_ _ ⟨0,rfl,by omega,cu.Lx _,by simp,by simp [V,KE],fun j _ h=>by simp [List.getElem?_replicate,h]⟩
 rintro ⟨ii,row⟩ ⟨i,h1,aq,kc,hlen,bh,h0⟩
 simp only at h1 kc hlen bh h0 ⊢
 subst h1
 by_cases BP:i=a.length
 ·subst BP
  refine .inr ⟨row,by simp [y6],kc,hlen,by simpa using bh⟩
 ·have U:=List.getElem?_eq_getElem (show i<a.length by omega)
  have ko:=bF.get U
  obtain ⟨r,ar,mo,mS,acv,QM,Bk,k8⟩:=Zp (i:=i) (t26:=a) (t27:=a.length) aS kc ko (by omega) (by omega)
  have e:R ((i:Int)+(b.length:Int))=((i+b.length:Nat):Int):=by rw [cy (by omega) (by omega)];rfl
  have cv:r.2[i+b.length]? = some 0:=by rw [k8 _ (Nat.le_refl _)];exact h0 _ (Nat.le_refl _) (by omega)
  refine .inl ⟨(((i+1:Nat):Int),r.2.set (i+b.length) r.1),?_,⟨i+1,rfl,by omega,acv.set ⟨mo,mS⟩,by simp;omega,?_,fun j afP adz=> ?_⟩,by simp;omega⟩
  ·unfold y6
   rw [if_pos (by simp;omega),if_pos (by omega),Int.toNat_natCast,U]
   simp only [Option.bind_eq_bind,Option.bind_some,fO]
   rw [ar]
   simp only [Option.bind_some,e,Int.toNat_natCast,Nat.zero_add]
   rw [if_pos (by omega),if_pos (by omega),ny (n:=i) (by omega)]
  ·simp only
   rw [rp cv,rV U]
   grind
  ·simp only
   rw [List.getElem?_set_ne (by omega),k8 _ (by omega)]
   exact h0 _ (by omega) adz
theorem mul_eq {a b:List Int}(bF:cu a)(aS:cu b)(a4:a.length≤1000000)(hm:b.length≤1000000):hI a b=some (L (V a*V b)):=by
 unfold hI
 simp only [fO]
 by_cases h1:a=[]
 ·subst h1
  simp [V,qx]
 ·by_cases o:b=[]
  ·subst o
   simp [h1,V,qx]
  ·obtain ⟨r,ar,ab,av,az⟩:=JO bF aS a4 hm
   have e:R ((a.length:Int)+(b.length:Int))=((a.length+b.length:Nat):Int):=by rw [cy (by omega) (by omega)];rfl
   rw [if_neg (by simp [h1]),if_neg (by simp [o]),e,if_pos (by omega),Int.toNat_natCast,ar]
   simp only [Option.bind_eq_bind,Option.bind_some]
   rw [ra ab (by omega),az]
   rfl
theorem Yf:Jn=zp:=rfl
theorem Xy:IW=zp:=rfl
theorem aai {a b:List Int}(bF:cu a)(aS:cu b)(a4:a.length≤1000000)(hm:b.length≤1000000):z7 a b=some (L (V a*V b)):=by
 unfold z7
 simp only [fO]
 by_cases h1:a=[]
 ·subst h1
  simp [V,qx]
 ·by_cases o:b=[]
  ·subst o
   simp [h1,V,qx]
  ·obtain ⟨r,ar,ab,av,az⟩:=JO bF aS a4 hm
   have e:R ((a.length:Int)+(b.length:Int))=((a.length+b.length:Nat):Int):=by rw [cy (by omega) (by omega)];rfl
   rw [if_neg (by simp [h1]),if_neg (by simp [o]),e,if_pos (by omega),Int.toNat_natCast,Yf,ar]
   simp only [Option.bind_eq_bind,Option.bind_some]
   rw [xI ab (by omega),az]
   rfl
theorem OE {a b:List Int}(bF:cu a)(aS:cu b)(h1:a≠[])(o:b≠[])(a4:a.length≤1000000)(hm:b.length≤1000000):
 ∃k r,xh a b=some (k,r)∧k≤r.length∧r.length=a.length+b.length∧r.take k=L (V a*V b)∧cu r:=by
 obtain ⟨r,ar,ab,av,az⟩:=JO bF aS a4 hm
 obtain ⟨k,a8,aZ,bg⟩:=Zn ab (by omega)
 refine ⟨k,r,?_,aZ,av,by rw [bg,az],ab⟩
 unfold xh
 simp only [fO]
 have e:R ((a.length:Int)+(b.length:Int))=((a.length+b.length:Nat):Int):=by rw [cy (by omega) (by omega)];rfl
 rw [if_neg (by simp [h1]),if_neg (by simp [o]),e,if_pos (by omega),Int.toNat_natCast,Xy,ar]
 simp only [Option.bind_eq_bind,Option.bind_some]
 rw [a8]
 rfl
theorem AR {x:Int}(h1:0≤x)(o:x<18446744073709551616):IntKind.wrap .u64 x=x:=by
 simp only [IntKind.wrap,IntKind.signed,IntKind.bits]
 have:((2:Int) ^ 64)=18446744073709551616:=by decide
 simp
 omega
theorem ab2 {x:Int}(h1:-9223372036854775808≤x)(o:x<9223372036854775808):IntKind.wrap .i64 x=x:=cy h1 o
theorem fF.snoc {l:List Int}{x:Int}(h:cu l)(U:0<x∧x<1000000000):fF (l++[x]):=⟨h.append (cu.cons (by omega) cu.nil),fun y a3=>by
 rw [List.getLast?_append] at a3
 simp at a3
 omega⟩
theorem O2 {N:Int}(fQ:N<18446744073709551616){n:Int}{row:List Int}(h:0≤n∧cu row∧V row+B row.length*n=N∧(n=0→fF row)∧((row.length=0∧n<18446744073709551616)∨(row.length=1∧n<20000000000)∨(row.length=2∧n<20)∨(row.length=3∧n=0)))(a4:0<n):
 (fun (n:Int) (row:List Int)=>0≤n∧cu row∧V row+B row.length*n=N∧(n=0→fF row)∧((row.length=0∧n<18446744073709551616)∨(row.length=1∧n<20000000000)∨(row.length=2∧n<20)∨(row.length=3∧n=0))) (n / 1000000000) (row++[n % 1000000000]):=by
 obtain ⟨h0,h1,o,ab,av⟩:=h
 refine ⟨by omega,h1.append (cu.cons (by omega) cu.nil),?_,fun az=>fF.snoc h1 (by omega),?_⟩
 ·rw [uD,List.length_append,List.length_singleton,l3,k5,AO]
  have:=Int.mul_ediv_add_emod n 1000000000
  generalize n / 1000000000=u at *
  generalize n % 1000000000=t at *
  grind
 ·rw [List.length_append,List.length_singleton]
  omega
theorem xA {n:Int}(h:0≤n)(a4:n<9223372036854775808):q9 n=some (L n):=by
 have : ∃r,iter (fun w:Int×List Int=>wX w.1 w.2) (n,[])=some r∧r=L n:=by
  refine jC (eO:=fun w:Int×List Int=>w.1≤n∧0≤w.1∧cu w.2∧V w.2+B w.2.length*w.1=n∧(w.1=0→fF w.2)∧((w.2.length=0∧w.1<18446744073709551616)∨(w.2.length=1∧w.1<20000000000)∨(w.2.length=2∧w.1<20)∨(w.2.length=3∧w.1=0))) (m:=fun w:Int×List Int=>w.1.toNat) _ ?_ _ ⟨Int.le_refl _,h,cu.nil,by simp [V,B],fun _=>fF.nil,.inl ⟨rfl,by simp only;omega⟩⟩
  rintro ⟨m,row⟩ ⟨hm,cK⟩
  simp only at hm cK
  obtain ⟨h0,h1,o,ab,av⟩:=id cK
  by_cases jZ:0<m
  ·have:=O2 (by omega) cK jZ
   refine .inl ⟨(m / 1000000000,row++[m % 1000000000]),?_,⟨by simp only;omega,this⟩,by simp only;omega⟩
   unfold wX
   rw [if_pos (by simp;omega),pH (by omega),m2 (by omega),if_pos (by simp;omega),cy (by omega) (by omega)]
  ·refine .inr ⟨row,by simp [wX,jZ],?_⟩
   have nH:m=0:=by omega
   refine td (ab nH) ?_
   rw [nH] at o
   simpa using o
 obtain ⟨r,ar,rfl⟩:=this
 unfold q9 Ji
 rw [ar]
 rfl
theorem JF {n:Int}(h:0≤n)(a4:n<18446744073709551616):ui n=some (L n):=by
 have : ∃r,iter (fun w:Int×List Int=>wC w.1 w.2) (n,[])=some r∧r=L n:=by
  refine jC (eO:=fun w:Int×List Int=>w.1≤n∧0≤w.1∧cu w.2∧V w.2+B w.2.length*w.1=n∧(w.1=0→fF w.2)∧((w.2.length=0∧w.1<18446744073709551616)∨(w.2.length=1∧w.1<20000000000)∨(w.2.length=2∧w.1<20)∨(w.2.length=3∧w.1=0))) (m:=fun w:Int×List Int=>w.1.toNat) _ ?_ _ ⟨Int.le_refl _,h,cu.nil,by simp [V,B],fun _=>fF.nil,.inl ⟨rfl,by simp only;omega⟩⟩
  rintro ⟨m,row⟩ ⟨hm,cK⟩
  simp only at hm cK
  obtain ⟨h0,h1,o,ab,av⟩:=id cK
  by_cases jZ:0<m
  ·have:=O2 (by omega) cK jZ
   refine .inl ⟨(m / 1000000000,row++[m % 1000000000]),?_,⟨by simp only;omega,this⟩,by simp only;omega⟩
   unfold wC
   rw [if_pos (by simp;omega),pH (by omega),m2 (by omega),ab2 (x:=m % 1000000000) (by omega) (by omega),if_pos (by simp;omega),AR (by omega) (by omega)]
  ·refine .inr ⟨row,by simp [wC,jZ],?_⟩
   have nH:m=0:=by omega
   refine td (ab nH) ?_
   rw [nH] at o
   simpa using o
 obtain ⟨r,ar,rfl⟩:=this
 unfold ui IR
 rw [ar]
 rfl
def tf (x:Int):Bool:=decide (0≤x) && decide (x<1000000000)
theorem P6 (l:List Int):l.all tf=true↔cu l:=by
 simp [tf,cu]
theorem OG {a:List Int}(h:a≠[]): ∃x,a[a.length-1]? = some x∧(fF a↔cu a∧x≠0):=by
 have ak:=List.length_pos_iff.mpr h
 refine ⟨a[a.length-1],List.getElem?_eq_getElem (by omega),?_⟩
 have e:a.getLast? = some a[a.length-1]:=by rw [List.getLast?_eq_getElem?];exact List.getElem?_eq_getElem (by omega)
 constructor
 ·exact fun h=>⟨h.1,h.2 _ e⟩
 ·refine fun h=>⟨h.1,fun x U=> ?_⟩
  rw [e] at U
  rw [← Option.some.inj U]
  exact h.2
theorem ab3 {a:List Int}(h:a≠[])(hm:(a.length:Int)<9223372036854775807):R ((a.length:Int)-1)=((a.length-1:Nat):Int):=by
 have ak:=List.length_pos_iff.mpr h
 rw [cy (by omega) (by omega)]
 omega
theorem YM (x:Int):mE x 0 999999999=some (tf x):=by
 unfold mE tf
 by_cases h:0≤x
 ·simp [h];omega
 ·simp [h]
theorem JG {a:List Int}(hm:(a.length:Int)<9223372036854775807): ∃ok,rO a=some ok∧(ok=true↔fF a∧a.length≤60):=by
 have h1:iter (fun w:Int=>wY a a.length w) 0=some (if a.all tf then .inl () else .inr ()):=by
  refine Pq a tf (fun n x U=> ?_) (by simp [wY])
  have:=fT U
  unfold wY
  rw [if_pos (by simp;omega),if_pos (by omega),Int.toNat_natCast,U]
  simp only [Option.bind_eq_bind,Option.bind_some,YM]
  rw [i1 (by omega)]
  cases tf x<;>rfl
 unfold rO Jj
 simp only [fO]
 rw [h1]
 by_cases tA:a.all tf=true
 ·have Bh:=(P6 a).1 tA
  simp only [tA,if_true,Option.bind_eq_bind,Option.bind_some]
  by_cases qg:a.length≤60
  ·rw [if_pos (by simp;omega)]
   by_cases h0:a=[]
   ·subst h0
    exact ⟨true,rfl,by simp [fF.nil]⟩
   ·obtain ⟨x,U,a4⟩:=OG h0
    have ak:=List.length_pos_iff.mpr h0
    rw [if_neg (by simp [h0]),ab3 h0 hm,if_pos (by omega),Int.toNat_natCast,U]
    refine ⟨_,rfl,?_⟩
    rw [a4]
    simp [Bh,qg]
  ·rw [if_neg (by simp;omega)]
   exact ⟨false,rfl,by simp;omega⟩
 ·have Bh : ¬cu a:=fun h=>tA ((P6 a).2 h)
  simp only [Bool.not_eq_true] at tA
  refine ⟨false,by simp [tA],?_⟩
  simp only [Bool.false_eq_true,false_iff]
  exact fun h=>Bh h.1.1
theorem Ob {a:List Int}(bF:fF a)(qg:a.length≤60)(bh:V a<9223372036854775808):xb a=some (V a,true):=by
 obtain ⟨ok,h1,o⟩:=JG (a:=a) (by omega)
 have mP:ok=true:=o.2 ⟨bF,qg⟩
 subst mP
 have bf:fF [854775807,223372036,9]:=⟨by intro x U;simp at U;omega,by simp⟩
 have LI:V [854775807,223372036,9]=9223372036854775807:=by decide
 unfold xb
 rw [h1]
 simp only [Option.bind_eq_bind,Option.bind_some,if_true]
 rw [rY bF bf (by omega),LI]
 have : ∃r,iter (fun w:Int×Int=>wu a w.1 w.2) (0,(a.length:Int)-1)=some r∧r=V a:=by
  refine jC (eO:=fun w:Int×Int=> ∃k:Nat,w.2=(k:Int)-1∧k≤a.length∧w.1=V (a.drop k)) (m:=fun w:Int×Int=>(w.2+1).toNat) _ ?_ _ ⟨a.length,rfl,by omega,by simp [V]⟩
  rintro ⟨n,i⟩ ⟨k,ab,a8,av⟩
  simp only at ab av
  subst ab av
  cases k with
  | zero=>exact .inr ⟨V a,by simp [wu],rfl⟩
  | succ k =>
   have U:=List.getElem?_eq_getElem (show k<a.length by omega)
   have ko:=bF.1.get U
   have az:=om U
   have aZ:=mF (bF.1.drop (k+1))
   have bg:V (a.drop k)≤V a:=by
    have bl:=uF (l:=a) (n:=k) (by omega)
    have cq:=mF (bF.1.take k)
    have cQ:=mF (bF.1.drop k)
    have fa:1*V (a.drop k)≤B k*V (a.drop k):=Int.mul_le_mul_of_nonneg_right (oz k) cQ
    omega
   refine .inl ⟨(V (a.drop k),(k:Int)-1),?_,⟨k,rfl,by omega,rfl⟩,by simp only;omega⟩
   unfold wu
   rw [show ((k+1:Nat):Int)-1=k by omega,if_pos (by simp),if_pos (by omega),Int.toNat_natCast,U]
   simp only [Option.bind_eq_bind,Option.bind_some]
   rw [p5 (by omega),cy (x:=V (a.drop (k+1))*1000000000) (by omega) (by omega),cy (by omega) (by omega),az]
   congr 3
   omega
 obtain ⟨r,ar,rfl⟩:=this
 unfold kV IA
 simp only [fO]
 rw [p5 (by omega),ar]
 have ab : ¬(9223372036854775807:Int)<V a:=by omega
 by_cases av:V a<9223372036854775807<;>simp [ab,av]
theorem aaj {a b row:List Int}{less x:Int}{i:Nat}(aS:cu b)(U:a[i]? = some x)(ko:0≤x∧x<1000000000)(aT:less=0∨less=1)(a4:a.length≤1000000)(hm:b.length≤1000000)(ar:row.length≤1000000):
 ∃y,0≤y∧y<1000000000∧(∀z,b[i]? = some z→y=z)∧(b[i]? = none→y=0) ∧
 tU a b a.length less i row=some (.inl (if x-less-y<0 then (1,((i+1:Nat):Int),row++[x-less-y+1000000000]) else (0,((i+1:Nat):Int),row++[x-less-y]))):=by
 have aq:=fT U
 unfold tU
 rw [if_pos (by simp;omega),if_pos (by omega),Int.toNat_natCast,U]
 simp only [Option.bind_eq_bind,Option.bind_some,fO]
 by_cases R2:i<b.length
 ·have a3:=List.getElem?_eq_getElem R2
  have oS:=aS.get a3
  refine ⟨b[i],oS.1,oS.2,fun z cv=>by rw [a3] at cv;exact Option.some.inj cv,fun h=>by rw [a3] at h;simp at h,?_⟩
  rw [if_pos (by simp;omega),if_pos (by omega),a3]
  simp only [Option.bind_some]
  rw [cy (x:=x-less) (by omega) (by omega),cy (x:=x-less-b[i]) (by omega) (by omega),ny (n:=i) (by omega),cy (x:=x-less-b[i]+1000000000) (by omega) (by omega)]
  by_cases h:x-less-b[i]<0
  ·rw [if_pos (by simp [h]),if_pos (by simp;omega)]
   simp [h]
  ·rw [if_neg (by simp [h]),if_pos (by simp;omega)]
   simp [h]
 ·have a3:b[i]? = none:=by simp;omega
  refine ⟨0,by omega,by omega,fun z cv=>by rw [a3] at cv;simp at cv,fun _=>rfl,?_⟩
  rw [if_neg (by simp;omega),cy (x:=x-less) (by omega) (by omega),ny (n:=i) (by omega),cy (x:=x-less+1000000000) (by omega) (by omega),Int.sub_zero]
  by_cases h:x-less<0
  ·rw [if_pos (by simp [h]),if_pos (by simp;omega)]
   simp [h]
  ·rw [if_neg (by simp [h]),if_pos (by simp;omega)]
   simp [h]
theorem Pw {b:List Int}{i:Nat}{y:Int}(h1:∀z,b[i]? = some z→y=z)(o:b[i]? = none→y=0):V (b.take (i+1))=V (b.take i)+B i*y:=by
 cases h:b[i]? with
 | some z=>rw [h1 z h,rV h]
 | none =>
  rw [o h]
  have:b.length≤i:=by simpa using h
  rw [List.take_of_length_le (by omega),List.take_of_length_le (by omega)]
  simp
theorem sub_eq {a b:List Int}(bF:cu a)(aS:cu b)(hlen:b.length≤a.length)(tr:V b≤V a)(a4:a.length≤1000000):rN a b=some (L (V a-V b)):=by
 have : ∃r,iter (fun w:Int×Int×List Int=>tU a b a.length w.1 w.2.1 w.2.2) (0,0,[])=some r∧cu r∧r.length=a.length∧V r=V a-V b:=by
  refine jC (eO:=fun w:Int×Int×List Int=> ∃i:Nat,w.2.1=i∧i≤a.length∧(w.1=0∨w.1=1)∧cu w.2.2∧w.2.2.length=i∧V w.2.2-w.1*B i=V (a.take i)-V (b.take i)) (m:=fun w:Int×Int×List Int=>a.length-w.2.1.toNat) _ ?_ _ ⟨0,rfl,by omega,.inl rfl,cu.nil,rfl,by simp [V]⟩
  rintro ⟨less,ii,row⟩ ⟨i,h1,aq,aT,kc,sr,bh⟩
  simp only at h1 aT kc sr bh ⊢
  subst h1
  by_cases BP:i=a.length
  ·refine .inr ⟨row,by simp [tU,BP],kc,by omega,?_⟩
   rw [BP] at bh
   rw [List.take_length,List.take_of_length_le hlen] at bh
   have o:=nc kc
   rw [sr,BP] at o
   rcases aT with rfl|rfl<;>omega
  ·have U:=List.getElem?_eq_getElem (show i<a.length by omega)
   have ko:=bF.get U
   obtain ⟨y,BQ,BR,adA,adB,he⟩:=aaj (row:=row) aS U ko aT a4 (by omega) (by omega)
   rw [he]
   refine .inl ⟨_,rfl,?_⟩
   have ab:=rV U
   have av:=Pw adA adB
   by_cases h:a[i]-less-y<0
   ·rw [if_pos h]
    refine ⟨⟨i+1,rfl,by omega,.inr rfl,kc.append (cu.cons (by omega) cu.nil),by simp [sr],?_⟩,by simp only;omega⟩
    simp only
    rw [ab,av,uD,sr,l3,k5,AO]
    grind
   ·rw [if_neg h]
    refine ⟨⟨i+1,rfl,by omega,.inl rfl,kc.append (cu.cons (by omega) cu.nil),by simp [sr],?_⟩,by simp only;omega⟩
    simp only
    rw [ab,av,uD,sr,k5,AO]
    grind
 obtain ⟨r,ar,h1,o,ab⟩:=this
 unfold rN I3
 simp only [fO]
 rw [ar]
 simp only [Option.bind_eq_bind,Option.bind_some]
 rw [ra h1 (by omega),ab]
 rfl
theorem rb {l:List Int}(h:cu l){k:Nat}(a8:k≤l.length):B k*V (l.drop k)≤V l∧V l<B k*(V (l.drop k)+1):=by
 have h1:=uF a8
 have o:=mF (h.take k)
 have ab:=nc (h.take k)
 rw [List.length_take,Nat.min_eq_left a8] at ab
 rw [Int.mul_add,Int.mul_one]
 omega
theorem Af {l:List Int}{k:Nat}{x:Int}(U:l[k]? = some x)(aT:l.length=k+1):V (l.drop k)=x:=by
 rw [om U,List.drop_of_length_le (by omega)]
 simp [V]
theorem NU {aW W t d P:Int}(hg:1≤P)(EE:P*t≤aW)(LJ:aW<P*(t+1))(tv:P*d≤W)(EF:W<P*(d+1))(bJ:0<d)(ch:0≤t)(LK:aW<1000000000*W):t / (d+1)≤aW / W∧aW / W≤t / d∧aW / W≤999999999:=by
 have hW:0<W:=by
  have:=Int.mul_pos (a:=P) (b:=d) (by omega) bJ
  omega
 have cW:0≤aW:=by
  have:=Int.mul_nonneg (a:=P) (b:=t) (by omega) ch
  omega
 refine ⟨?_,?_,?_⟩
 ·apply (Int.le_ediv_iff_mul_le hW).2
  have h1:t / (d+1)*(d+1)≤t:=Int.ediv_mul_le _ (by omega)
  have o:0≤t / (d+1):=Int.ediv_nonneg ch (by omega)
  have ab:t / (d+1)*W≤t / (d+1)*(P*(d+1)):=Int.mul_le_mul_of_nonneg_left (by omega) o
  have av:P*(t / (d+1)*(d+1))≤P*t:=Int.mul_le_mul_of_nonneg_left h1 (by omega)
  have az:t / (d+1)*(P*(d+1))=P*(t / (d+1)*(d+1)):=by grind
  omega
 ·apply (Int.le_ediv_iff_mul_le bJ).2
  have h1:aW / W*W≤aW:=Int.ediv_mul_le _ (by omega)
  have o:0≤aW / W:=Int.ediv_nonneg cW (by omega)
  have ab:aW / W*(P*d)≤aW / W*W:=Int.mul_le_mul_of_nonneg_left tv o
  have av:aW / W*(P*d)=P*(aW / W*d):=by grind
  have az:P*(aW / W*d)<P*(t+1):=by omega
  have:=Int.lt_of_mul_lt_mul_left az (by omega)
  omega
 ·have:=Int.ediv_lt_of_lt_mul hW LK
  omega
theorem P7 {a b:Int}:kV a b≤0↔a≤b:=by
 unfold kV
 by_cases h:a<b
 ·simp [h];omega
 ·by_cases o:b<a
  ·simp [h,o]
  ·simp [h,o];omega
theorem s0 {a b:Int}:kV a b<0↔a<b:=by
 unfold kV
 by_cases h:a<b
 ·simp [h]
 ·by_cases o:b<a
  ·simp [h,o]
  ·simp [h,o]
theorem OH {r b:List Int}(ar:fF r)(aS:fF b)(lf:b≠[])(a4:r.length≤1000000)(hm:b.length≤1000000){bV aq:Int}(h0:0≤bV)(h1:bV≤V r / V b)(o:V r / V b≤aq)(ab:aq≤999999999):CL r b bV aq=some (V r / V b):=by
 have jA:=ta aS lf
 have : ∃q,iter (fun w:Int×Int=>tP r b w.1 w.2) (bV,aq)=some q∧q=V r / V b:=by
  refine jC (eO:=fun w:Int×Int=>0≤w.1∧w.1≤V r / V b∧V r / V b≤w.2∧w.2≤999999999) (m:=fun w:Int×Int=>(w.2-w.1).toNat) _ ?_ _ ⟨h0,h1,o,ab⟩
  rintro ⟨l,h⟩ ⟨g0,g1,g2,g3⟩
  simp only at g0 g1 g2 g3
  by_cases dG:l<h
  ·have e1:R ((R ((R (l+h))+(1:Int))).tdiv (2:Int))=(l+h+1) / 2:=by
    rw [cy (x:=l+h) (by omega) (by omega),cy (x:=l+h+1) (by omega) (by omega),m2 (by omega),cy (by omega) (by omega)]
   have nH:0≤(l+h+1) / 2:=by omega
   have o9:(l+h+1) / 2<1000000000:=by omega
   have RD:(L ((l+h+1) / 2)).length≤1:=(iX nH).2 (by simpa [B] using o9)
   have aD:tP r b l h=some (.inl (if V b*((l+h+1) / 2)≤V r then ((l+h+1) / 2,h) else (l,(l+h+1) / 2-1))):=by
    unfold tP
    rw [if_pos (by simp [dG]),e1,xA nH (by omega)]
    simp only [Option.bind_eq_bind,Option.bind_some]
    rw [mul_eq aS.1 (ha _) hm (by omega),ej nH]
    simp only [Option.bind_some]
    have ak:0≤V b*((l+h+1) / 2):=Int.mul_nonneg (by omega) nH
    have hlen:(L (V b*((l+h+1) / 2))).length≤b.length+1:=(iX ak).2 (by
     rw [l3]
     have az:=nc aS.1
     have:V b*((l+h+1) / 2)≤V b*1000000000:=Int.mul_le_mul_of_nonneg_left (by omega) (by omega)
     omega)
    rw [rY (jc _) ar (by omega),ej ak]
    simp only [Option.bind_some]
    by_cases bf:V b*((l+h+1) / 2)≤V r
    ·rw [if_pos (by simpa using P7.2 bf),if_pos bf]
    ·rw [if_neg (fun h=>bf (P7.1 (by simpa using h))),if_neg bf,cy (by omega) (by omega)]
   rw [aD]
   refine .inl ⟨_,rfl,?_⟩
   by_cases bf:V b*((l+h+1) / 2)≤V r
   ·rw [if_pos bf]
    have:(l+h+1) / 2≤V r / V b:=(Int.le_ediv_iff_mul_le jA).2 (by rw [Int.mul_comm];exact bf)
    exact ⟨⟨by simp only;omega,this,g2,g3⟩,by simp only;omega⟩
   ·rw [if_neg bf]
    have:V r / V b<(l+h+1) / 2:=(Int.ediv_lt_iff_lt_mul jA).2 (by rw [Int.mul_comm];omega)
    exact ⟨⟨g0,g1,by simp only;omega,by simp only;omega⟩,by simp only;omega⟩
  ·exact .inr ⟨l,by simp [tP,dG],by omega⟩
 obtain ⟨q,bc,rfl⟩:=this
 exact bc
theorem DV {b:List Int}(aS:fF b)(lf:b≠[]): ∃k d,b.length=k+1∧b[k]? = some d∧0<d∧d<1000000000∧V (b.drop k)=d:=by
 have ak:=List.length_pos_iff.mpr lf
 obtain ⟨x,U,h⟩:=OG lf
 have h1:=h.1 aS
 have o:=h1.1.get U
 exact ⟨b.length-1,x,by omega,U,by omega,o.2,Af U (by omega)⟩
theorem aak {r b:List Int}(ar:fF r)(aS:fF b)(lf:b≠[])(a4:r.length≤1000000)(hm:b.length≤1000000)(h1:V b≤V r)(o:V r<1000000000*V b):zy r b=some (V r / V b):=by
 obtain ⟨k,d,a8,bJ,sm,EG,yF⟩:=DV aS lf
 have Rv:b.length≤r.length:=Nat.le_of_not_lt fun h=>by
  have:=DJ ar aS h
  omega
 have Rw:r.length≤b.length+1:=ar.len.2 (by
  have:=nc aS.1
  rw [l3]
  omega)
 have tl:=rb aS.1 (k:=k) (by omega)
 rw [yF] at tl
 have hR:=rb ar.1 (k:=k) (by omega)
 have U:=List.getElem?_eq_getElem (show k<r.length by omega)
 have ko:=ar.1.get U
 have hw:R ((b.length:Int)-1)=(k:Int):=by rw [cy (by omega) (by omega)];omega
 have mv:=mF (ar.1.drop k)
 have EH:=NU (oz k) hR.1 hR.2 tl.1 tl.2 sm mv o
 have afQ:=mF ar.1
 have hW:=ta aS lf
 unfold zy
 simp only [fO,hw]
 rw [if_pos (by omega),Int.toNat_natCast,U]
 simp only [Option.bind_eq_bind,Option.bind_some]
 by_cases hlen:b.length<r.length
 ·have a3:=List.getElem?_eq_getElem hlen
  have oS:=ar.1.get a3
  have nJ:V (r.drop (k+1))=r[b.length]:=by
   rw [← a8]
   exact Af a3 (by omega)
  have ch:V (r.drop k)=r[k]+1000000000*r[b.length]:=by rw [om U,nJ]
  rw [ch] at EH mv
  have lP:0≤(r[k]+1000000000*r[b.length]) / (d+1):=Int.ediv_nonneg mv (by omega)
  have n8:(r[k]+1000000000*r[b.length]) / (d+1)≤r[k]+1000000000*r[b.length]:=Int.ediv_le_self _ mv
  have yd:0≤(r[k]+1000000000*r[b.length]) / d:=Int.ediv_nonneg mv (by omega)
  have adC:(r[k]+1000000000*r[b.length]) / d≤r[k]+1000000000*r[b.length]:=Int.ediv_le_self _ mv
  rw [if_pos (by simp;omega),if_pos (by omega),Int.toNat_natCast,a3]
  simp only [Option.bind_some]
  rw [if_pos (by omega),bJ]
  simp only [Option.bind_some]
  have e1:R (d+1)=d+1:=cy (by omega) (by omega)
  have aD:R (r[k]+R (r[b.length]*1000000000))=r[k]+1000000000*r[b.length]:=by
   rw [cy (x:=r[b.length]*1000000000) (by omega) (by omega),cy (by omega) (by omega),Int.mul_comm]
  rw [e1,if_pos (by omega),if_pos (by omega),aD,m2 mv,m2 mv,cy (by omega) (by omega),cy (x:=(r[k]+1000000000*r[b.length]) / d) (by omega) (by omega)]
  rw [OH ar aS lf a4 hm lP EH.1 (by split<;>omega) (by split<;>omega)]
  rfl
 ·have ch:V (r.drop k)=r[k]:=Af U (by omega)
  rw [ch] at EH mv
  have lP:0≤r[k] / (d+1):=Int.ediv_nonneg mv (by omega)
  have n8:r[k] / (d+1)≤r[k]:=Int.ediv_le_self _ mv
  have yd:0≤r[k] / d:=Int.ediv_nonneg mv (by omega)
  have adC:r[k] / d≤r[k]:=Int.ediv_le_self _ mv
  rw [if_neg (by simp;omega),if_pos (by omega),bJ]
  simp only [Option.bind_some]
  have e1:R (d+1)=d+1:=cy (by omega) (by omega)
  rw [e1,if_pos (by omega),if_pos (by omega),m2 mv,m2 mv,cy (by omega) (by omega),cy (x:=r[k] / d) (by omega) (by omega)]
  rw [OH ar aS lf a4 hm lP EH.1 (by split<;>omega) (by split<;>omega)]
  rfl
theorem aal {a b:List Int}(bF:fF a)(aS:fF b)(lf:b≠[])(a4:a.length≤900000)(hm:b.length≤900000):
 ∃r,I7 a b [] ((a.length:Int)-1) (List.replicate a.length 0)=some r∧r.1=L (V a % V b)∧cu r.2∧r.2.length=a.length∧V r.2=V a / V b:=by
 have jA:=ta aS lf
 refine jC (eO:=fun w:List Int×Int×List Int=> ∃(k:Nat) (q:List Int),w.2.1=(k:Int)-1∧k≤a.length∧w.2.2=List.replicate k 0++q∧q.length+k=a.length∧cu q∧fF w.1∧V w.1<V b∧V (a.drop k)=V q*V b+V w.1) (m:=fun w:List Int×Int×List Int=>(w.2.1+1).toNat) _ ?_ _ ⟨a.length,[],rfl,by omega,by simp,by simp,cu.nil,fF.nil,by simpa [V] using jA,by simp [V]⟩
 rintro ⟨rest,i,row⟩ ⟨k,q,h1,a8,o,bc,pD,lc,hR,bh⟩
 simp only at h1 o lc hR bh ⊢
 subst h1 o
 have BS:=mF lc.1
 cases k with
 | zero =>
  simp at bh
  refine .inr ⟨(rest,q),by simp [wO],?_,pD,by simpa using bc,?_⟩
  ·refine td lc ?_
   rw [bh,Int.add_comm,Int.add_mul_emod_self_right]
   exact (Int.emod_eq_of_lt BS hR).symm
  ·rw [bh,Int.add_comm,Int.add_mul_ediv_right _ _ (by omega),Int.ediv_eq_zero_of_lt BS hR]
   simp
 | succ k =>
  have U:=List.getElem?_eq_getElem (show k<a.length by omega)
  have ko:=bF.1.get U
  have sr:rest.length≤b.length:=lc.len.2 (by have:=nc aS.1;omega)
  have iw:cu (a[k]::rest):=cu.cons ko lc.1
  have LI:V (a[k]::rest)=a[k]+1000000000*V rest:=k5 _ _
  have oT:0≤a[k]+1000000000*V rest:=by omega
  have afR:(L (a[k]+1000000000*V rest)).length≤b.length+1:=(iX oT).2 (by
   have:=nc aS.1
   rw [l3]
   omega)
  have bJ:=om U
  have KI:wO a b rest (k:Int) (List.replicate (k+1) 0++q)=some (.inl (if a[k]+1000000000*V rest<V b then (L (a[k]+1000000000*V rest),(k:Int)-1,List.replicate (k+1) 0++q) else (L ((a[k]+1000000000*V rest) % V b),(k:Int)-1,(List.replicate (k+1) 0++q).set k ((a[k]+1000000000*V rest) / V b)))):=by
   unfold wO
   rw [if_pos (by simp),if_pos (by omega),Int.toNat_natCast,U]
   simp only [Option.bind_eq_bind,Option.bind_some,List.singleton_append]
   rw [if_pos (by simp;omega),ra iw (by simp;omega),LI]
   simp only [Option.bind_some]
   rw [rY (jc _) aS (by omega),ej oT]
   simp only [Option.bind_some]
   by_cases bf:a[k]+1000000000*V rest<V b
   ·rw [if_pos (by simpa using s0.2 bf),if_pos bf,p5 (by omega)]
   ·rw [if_neg (fun h=>bf (s0.1 (by simpa using h))),if_neg bf]
    have dG:a[k]+1000000000*V rest<1000000000*V b:=by omega
    rw [aak (jc _) aS lf (by omega) (by omega) (by rw [ej oT];omega) (by rw [ej oT];exact dG),ej oT]
    simp only [Option.bind_some]
    have lP:0≤(a[k]+1000000000*V rest) / V b:=Int.ediv_nonneg oT (by omega)
    have n8:(a[k]+1000000000*V rest) / V b<1000000000:=Int.ediv_lt_of_lt_mul jA dG
    have afS:(L ((a[k]+1000000000*V rest) / V b)).length≤1:=(iX lP).2 (by simpa [B] using n8)
    have o9:=Int.mul_ediv_add_emod (a[k]+1000000000*V rest) (V b)
    have BT:=Int.emod_nonneg (a[k]+1000000000*V rest) (b:=V b) (by omega)
    have LL:0≤V b*((a[k]+1000000000*V rest) / V b):=Int.mul_nonneg (by omega) lP
    rw [if_pos (by simp;omega),if_pos (by simp;omega),xA lP (by omega)]
    simp only [Option.bind_some]
    rw [mul_eq aS.1 (ha _) (by omega) (by omega),ej lP]
    simp only [Option.bind_some]
    rw [sub_eq (ha _) (ha _) ((iX LL).2 (by
     have:=nc (ha (a[k]+1000000000*V rest))
     rw [ej oT] at this
     omega)) (by rw [ej oT,ej LL];omega) (by omega),ej oT,ej LL]
    simp only [Option.bind_some]
    rw [p5 (by omega),Nat.zero_add]
    congr 4
    omega
  rw [show ((k+1:Nat):Int)-1=k by omega,KI]
  refine .inl ⟨_,rfl,?_⟩
  by_cases bf:a[k]+1000000000*V rest<V b
  ·rw [if_pos bf]
   refine ⟨⟨k,0::q,rfl,by omega,?_,by simp;omega,cu.cons (by omega) pD,jc _,by rw [ej oT];exact bf,?_⟩,by simp⟩
   ·simp only
    rw [List.replicate_succ',List.append_assoc];rfl
   ·simp only
    rw [bJ,bh,k5,ej oT]
    grind
  ·rw [if_neg bf]
   have dG:a[k]+1000000000*V rest<1000000000*V b:=by omega
   have BT:=Int.emod_nonneg (a[k]+1000000000*V rest) (b:=V b) (by omega)
   refine ⟨⟨k,(a[k]+1000000000*V rest) / V b::q,rfl,by omega,Kg _ _ _,by simp;omega,cu.cons ⟨Int.ediv_nonneg oT (by omega),Int.ediv_lt_of_lt_mul jA dG⟩ pD,jc _,by rw [ej BT];exact Int.emod_lt_of_pos _ jA,?_⟩,by simp⟩
   simp only
   rw [bJ,bh,k5,ej BT]
   have o9:=Int.mul_ediv_add_emod (a[k]+1000000000*V rest) (V b)
   generalize (a[k]+1000000000*V rest) / V b=u at *
   generalize (a[k]+1000000000*V rest) % V b=t at *
   grind
theorem div_eq {a b:List Int}(bF:fF a)(aS:fF b)(lf:b≠[])(a4:a.length≤900000)(hm:b.length≤900000):sP a b=some (L (V a / V b),L (V a % V b)):=by
 unfold sP
 simp only [fO]
 by_cases h1:b.length=1
 ·obtain ⟨k,d,a8,bJ,sm,EG,yF⟩:=DV aS lf
  have sl:k=0:=by omega
  subst sl
  have LM:V b=d:=by simpa using yF
  rw [if_pos (by simp [h1]),if_pos (by omega),bJ]
  simp only [Option.bind_eq_bind,Option.bind_some]
  have o9:=Int.emod_nonneg (V a) (b:=d) (by omega)
  have BT:=Int.emod_lt_of_pos (V a) sm
  rw [aah bF.1 ⟨sm,EG⟩ (by omega)]
  simp only [Option.bind_some]
  rw [xA o9 (by omega),LM]
  rfl
 ·obtain ⟨r,ar,e1,aD,bS,da⟩:=aal bF aS lf a4 hm
  rw [if_neg (by simp;omega),if_pos (by omega),p5 (by omega),Int.toNat_natCast,ar]
  simp only [Option.bind_eq_bind,Option.bind_some]
  rw [ra aD (by omega),da,e1]
  rfl
theorem Px {x y:Int}(U:0≤x):Int.gcd y (x % y)=Int.gcd x y:=by
 have:=Nat.gcd_rec y.natAbs x.natAbs
 simp only [Int.gcd]
 rw [Nat.gcd_comm x.natAbs,this,Int.natAbs_emod_of_nonneg U,Nat.gcd_comm]
theorem P8 {x:Int}(U:0≤x):(Int.gcd x 0:Int)=x:=by
 rw [Int.gcd_zero_right];omega
theorem aam {x y:Int}(U:0≤x)(a3:0≤y)(BU:x<9223372036854775808)(BQ:y<9223372036854775808):zw x y=some (L (Int.gcd x y)):=by
 have : ∃r,iter (fun w:Int×Int=>wv w.1 w.2) (x,y)=some r∧(r=(Int.gcd x y:Int)∧r<9223372036854775808):=by
  refine jC (eO:=fun w:Int×Int=>0≤w.1∧0≤w.2∧w.1<9223372036854775808∧w.2<9223372036854775808∧Int.gcd w.1 w.2=Int.gcd x y) (m:=fun w:Int×Int=>w.2.toNat) _ ?_ _ ⟨U,a3,BU,BQ,rfl⟩
  rintro ⟨u,v⟩ ⟨h1,o,ab,av,az⟩
  simp only at h1 o ab av az
  by_cases bh:0<v
  ·have aZ:=Int.emod_nonneg u (b:=v) (by omega)
   have bg:=Int.emod_lt_of_pos u bh
   refine .inl ⟨(v,u % v),?_,⟨o,aZ,av,by simp only;omega,by rw [← az];exact Px h1⟩,by simp only;omega⟩
   unfold wv
   rw [if_pos (by simpa using bh),if_pos (by omega),pH h1]
  ·have adD:v=0:=by omega
   subst adD
   refine .inr ⟨u,by simp [wv],?_,ab⟩
   rw [← az,P8 h1]
 obtain ⟨r,ar,rfl,h⟩:=this
 unfold zw IB
 rw [ar]
 simp only [Option.bind_eq_bind,Option.bind_some]
 rw [xA (by omega) h]
 rfl
theorem DW {a:List Int}(bF:fF a)(h:a.length<3):V a<9223372036854775808:=by
 have h1:=nc bF.1
 have o:=qw (m:=a.length) (n:=2) (by omega)
 have ab:B 2=1000000000000000000:=by decide
 omega
theorem QB {a b:List Int}(bF:fF a)(aS:fF b)(a4:a.length≤900000)(hm:b.length≤900000):xk a b=some (L (Int.gcd (V a) (V b))):=by
 have : ∃r,iter (fun w:List Int×List Int=>tV w.1 w.2) (a,b)=some r∧r.elim id id=L (Int.gcd (V a) (V b)):=by
  refine jC (eO:=fun w:List Int×List Int=>fF w.1∧fF w.2∧w.1.length≤900000∧w.2.length≤900000∧Int.gcd (V w.1) (V w.2)=Int.gcd (V a) (V b)) (m:=fun w:List Int×List Int=>(V w.2).toNat) _ ?_ _ ⟨bF,aS,a4,hm,rfl⟩
  rintro ⟨x,y⟩ ⟨h1,o,ab,av,az⟩
  simp only at h1 o ab av az ⊢
  have ko:=mF h1.1
  have oS:=mF o.1
  by_cases a3:y=[]
  ·subst a3
   refine .inr ⟨.inl x,by simp [tV,fO],?_⟩
   rw [← az,AO,P8 ko]
   exact (Ez h1).symm
  ·have adE:=ta o a3
   have afT:=List.length_pos_iff.mpr a3
   by_cases b0:x.length<3∧y.length<3
   ·refine .inr ⟨.inr (L (Int.gcd (V a) (V b))),?_,rfl⟩
    unfold tV
    simp only [fO]
    rw [if_pos (by simp;omega),if_pos (by simp;omega),if_pos (by simp;omega),Ob h1 (by omega) (DW h1 b0.1)]
    simp only [Option.bind_eq_bind,Option.bind_some]
    rw [Ob o (by omega) (DW o b0.2)]
    simp only [Option.bind_some]
    rw [aam ko oS (DW h1 b0.1) (DW o b0.2),az]
    rfl
   ·have EI:=Int.emod_nonneg (V x) (b:=V y) (by omega)
    have afU:=Int.emod_lt_of_pos (V x) adE
    refine .inl ⟨(y,L (V x % V y)),?_,⟨o,jc _,av,(iX EI).2 ?_,?_⟩,?_⟩
    ·unfold tV
     simp only [fO]
     rw [if_pos (by simp;omega),div_eq h1 o a3 ab av]
     by_cases vg:x.length<3
     ·rw [if_pos (by simp;omega),if_neg (by simp;omega)]
      rfl
     ·rw [if_neg (by simp;omega)]
      rfl
    ·have:=nc o.1
     have:=qw av
     omega
    ·simp only
     rw [ej EI,← az]
     exact Px ko
    ·simp only
     rw [ej EI]
     omega
 obtain ⟨r,ar,h⟩:=this
 unfold xk I8
 rw [List.nil_append,List.nil_append,if_pos (by omega),if_pos (by omega),ar]
 cases r with
 | inl r=>exact congrArg some h
 | inr r=>exact congrArg some h
def oL (p:Nat)(l:List Int):Prop:= ∀i z,i≠p→l[i]? = some z→0≤z∧z<1000000000
theorem oL.set {p:Nat}{l:List Int}(h:oL p l){k:Nat}{x:Int}(U:0≤x∧x<1000000000):oL p (l.set k x):=fun i z aq cv=>by
 by_cases a8:k=i
 ·subst a8
  rw [List.getElem?_set] at cv
  simp only [if_true] at cv
  split at cv
  ·rw [← Option.some.inj cv];exact U
  ·simp at cv
 ·rw [List.getElem?_set_ne a8] at cv
  exact h i z aq cv
theorem oL.Rj {p:Nat}{l:List Int}(h:oL p l){x:Int}:oL p (l.set p x):=fun i z aq cv=>by
 rw [List.getElem?_set_ne (fun h=>aq h.symm)] at cv
 exact h i z aq cv
theorem cu.toE {l:List Int}(h:cu l)(p:Nat):oL p l:=fun _ _ _ cv=>h.get cv
theorem Zq {v row:List Int}{bV mL i:Nat}{iQ carry x y:Int}(U:v[i]? = some x)(a3:row[bV+i]? = some y)(ko:0≤x∧x<1000000000)(oS:0≤y∧y<1000000000)(aS:0≤iQ∧iQ<1000000000)(bf:0≤carry∧carry<1000000000)(hu:i<mL)(a4:row.length≤5000000):
 ∃c z,tW bV mL v iQ v.length carry i row=some (.inl (c,((i+1:Nat):Int),row.set (bV+i) z))∧0≤c∧c<1000000000∧0≤z∧z<1000000000∧z-1000000000*c=y-iQ*x-carry:=by
 have aq:=fT U
 have aF:=fT a3
 obtain ⟨ij,hf⟩:=AA aS ko
 have e:R (R (y-R (iQ*x))-carry)=y-iQ*x-carry:=by
  rw [cy (x:=iQ*x) (by omega) (by omega),cy (x:=y-iQ*x) (by omega) (by omega),cy (by omega) (by omega)]
 by_cases ch:y-iQ*x-carry<0
 ·refine ⟨(999999999-(y-iQ*x-carry)) / 1000000000,y-iQ*x-carry+(999999999-(y-iQ*x-carry)) / 1000000000*1000000000,?_,by omega,by omega,by omega,by omega,by omega⟩
  unfold tW
  rw [if_pos (by simp;omega),if_pos (by omega),Int.toNat_natCast,U]
  simp only [Option.bind_eq_bind,Option.bind_some]
  rw [if_pos (by omega),a3]
  simp only [Option.bind_some,e]
  rw [if_pos (by simpa using ch),if_pos (by omega),ny (n:=i) (by omega),cy (x:=999999999-(y-iQ*x-carry)) (by omega) (by omega),m2 (by omega),cy (x:=(999999999-(y-iQ*x-carry)) / 1000000000) (by omega) (by omega),cy (x:=(999999999-(y-iQ*x-carry)) / 1000000000*1000000000) (by omega) (by omega),cy (by omega) (by omega)]
 ·refine ⟨0,y-iQ*x-carry,?_,by omega,by omega,by omega,by omega,by omega⟩
  unfold tW
  rw [if_pos (by simp;omega),if_pos (by omega),Int.toNat_natCast,U]
  simp only [Option.bind_eq_bind,Option.bind_some]
  rw [if_pos (by omega),a3]
  simp only [Option.bind_some,e]
  rw [if_neg (by simpa using ch),if_pos (by omega),ny (n:=i) (by omega)]
theorem Zr {v row:List Int}{bV mL:Nat}{iQ:Int}(bh:cu v)(ar:cu row)(aS:0≤iQ∧iQ<1000000000)(hu:v.length<mL)(aT:bV+v.length<row.length)(a4:row.length≤5000000):
 ∃r,Jc bV mL v iQ v.length 0 0 row=some r∧0≤r.1∧r.1<1000000000∧cu r.2∧r.2.length=row.length∧V r.2=V row-iQ*B bV*V v+r.1*B (bV+v.length)∧ ∀i,i<bV∨bV+v.length≤i→r.2[i]? = row[i]? := by
 refine jC (eO:=fun w:Int×Int×List Int=> ∃(i:Nat),w.2.1=(i:Int)∧i≤v.length∧0≤w.1∧w.1<1000000000∧cu w.2.2∧w.2.2.length=row.length∧V w.2.2=V row-iQ*B bV*V (v.take i)+w.1*B (bV+i)∧ ∀i,i<bV∨bV+v.length≤i→w.2.2[i]? = row[i]?) (m:=fun w:Int×Int×List Int=>v.length-w.2.1.toNat) _ ?_ _ ⟨0,rfl,by omega,by simp,by simp,ar,rfl,by simp [V],fun _ _=>rfl⟩
 rintro ⟨carry,ii,fD⟩ ⟨i,h1,aq,mo,mS,kc,hlen,hV,k8⟩
 simp only at h1 mo mS kc hlen hV k8 ⊢
 subst h1
 by_cases LN:i=v.length
 ·subst LN
  exact .inr ⟨(carry,fD),by simp [tW],mo,mS,kc,hlen,by simpa using hV,k8⟩
 ·have U:=List.getElem?_eq_getElem (show i<v.length by omega)
  have a3:=List.getElem?_eq_getElem (show bV+i<fD.length by omega)
  obtain ⟨c,z,he,di,bu,eZ,Cf,cv⟩:=Zq (mL:=mL) U a3 (bh.get U) (kc.get a3) aS ⟨mo,mS⟩ (by omega) (by omega)
  rw [he]
  refine .inl ⟨_,rfl,⟨i+1,rfl,by omega,di,bu,kc.set ⟨eZ,Cf⟩,by simpa using hlen,?_,fun k a8=> ?_⟩,by simp;omega⟩
  ·simp only
   rw [rp a3,rV U,hV,← Nat.add_assoc,l3,AN]
   have u4:z=fD[bV+i]-iQ*v[i]-carry+1000000000*c:=by omega
   rw [u4]
   grind
  ·simp only
   rw [List.getElem?_set_ne (by omega)]
   exact k8 k a8
theorem abx {v row:List Int}{bV mL:Nat}{iQ:Int}(bh:cu v)(ar:cu row)(aS:0≤iQ∧iQ<1000000000)(hu:v.length<mL)(aT:bV+v.length<row.length)(a4:row.length≤5000000):
 ∃y dW,zX v iQ bV mL row=some (decide (y<0),dW)∧dW.length=row.length∧oL (bV+v.length) dW∧dW[bV+v.length]? = some y∧ -1000000000<y∧y<1000000000∧V dW=V row-iQ*B bV*V v∧ ∀i,i<bV∨bV+v.length<i→dW[i]? = row[i]? := by
 obtain ⟨r,hR,di,bu,kc,hlen,hV,k8⟩:=Zr bh ar aS hu aT a4
 have U:=List.getElem?_eq_getElem (show bV+v.length<r.2.length by omega)
 have ko:=kc.get U
 refine ⟨r.2[bV+v.length]-r.1,r.2.set (bV+v.length) (r.2[bV+v.length]-r.1),?_,by simpa using hlen,(cu.toE kc _).Rj,?_,by omega,by omega,?_,fun i aq=> ?_⟩
 ·unfold zX
  simp only [fO]
  rw [hR]
  simp only [Option.bind_eq_bind,Option.bind_some,Int.toNat_natCast]
  rw [if_pos (by omega),U]
  simp only [Option.bind_some]
  rw [if_pos (by omega),cy (by omega) (by omega),List.getElem?_set,if_pos rfl,if_pos (by omega)]
  rfl
 ·rw [List.getElem?_set,if_pos rfl,if_pos (by omega)]
 ·rw [rp U,hV]
  grind
 ·rw [List.getElem?_set_ne (by omega)]
  exact k8 i (by omega)
theorem Zs {v row:List Int}{bV mL:Nat}(bh:cu v)(ar:oL (bV+v.length) row)(hu:v.length<mL)(aT:bV+v.length<row.length)(a4:row.length≤5000000):
 ∃r,Jd bV mL v v.length 0 0 row=some r∧0≤r.1∧r.1≤1∧oL (bV+v.length) r.2∧r.2.length=row.length∧V r.2=V row+B bV*V v-r.1*B (bV+v.length)∧ ∀i,i<bV∨bV+v.length≤i→r.2[i]? = row[i]? := by
 refine jC (eO:=fun w:Int×Int×List Int=> ∃(i:Nat),w.2.1=(i:Int)∧i≤v.length∧0≤w.1∧w.1≤1∧oL (bV+v.length) w.2.2∧w.2.2.length=row.length∧V w.2.2=V row+B bV*V (v.take i)-w.1*B (bV+i)∧ ∀i,i<bV∨bV+v.length≤i→w.2.2[i]? = row[i]?) (m:=fun w:Int×Int×List Int=>v.length-w.2.1.toNat) _ ?_ _ ⟨0,rfl,by omega,by simp,by simp,ar,rfl,by simp [V],fun _ _=>rfl⟩
 rintro ⟨carry,ii,fD⟩ ⟨i,h1,aq,mo,mS,kc,hlen,hV,k8⟩
 simp only at h1 mo mS kc hlen hV k8 ⊢
 subst h1
 by_cases LN:i=v.length
 ·subst LN
  exact .inr ⟨(carry,fD),by simp [wS],mo,mS,kc,hlen,by simpa using hV,k8⟩
 ·have U:=List.getElem?_eq_getElem (show i<v.length by omega)
  have a3:=List.getElem?_eq_getElem (show bV+i<fD.length by omega)
  have ko:=bh.get U
  have oS:=kc _ _ (by omega) a3
  have he:wS bV mL v v.length carry i fD=some (.inl ((fD[bV+i]+v[i]+carry) / 1000000000,((i+1:Nat):Int),fD.set (bV+i) ((fD[bV+i]+v[i]+carry) % 1000000000))):=by
   unfold wS
   rw [if_pos (by simp;omega),if_pos (by omega),Int.toNat_natCast,U]
   simp only [Option.bind_eq_bind,Option.bind_some]
   rw [if_pos (by omega),a3]
   simp only [Option.bind_some]
   rw [if_pos (by omega),cy (x:=fD[bV+i]+v[i]) (by omega) (by omega),cy (x:=fD[bV+i]+v[i]+carry) (by omega) (by omega),pH (by omega),m2 (by omega),cy (by omega) (by omega),ny (n:=i) (by omega)]
  rw [he]
  refine .inl ⟨_,rfl,⟨i+1,rfl,by omega,by simp only;omega,by simp only;omega,kc.set (by omega),by simpa using hlen,?_,fun k a8=> ?_⟩,by simp;omega⟩
  ·simp only
   rw [rp a3,rV U,hV,← Nat.add_assoc,l3,AN]
   have:=Int.mul_ediv_add_emod (fD[bV+i]+v[i]+carry) 1000000000
   generalize (fD[bV+i]+v[i]+carry) / 1000000000=q at *
   generalize (fD[bV+i]+v[i]+carry) % 1000000000=t at *
   have u4:t=fD[bV+i]+v[i]+carry-1000000000*q:=by omega
   rw [u4]
   grind
  ·simp only
   rw [List.getElem?_set_ne (by omega)]
   exact k8 k a8
theorem aby {v row:List Int}{bV mL:Nat}{y:Int}(bh:cu v)(ar:oL (bV+v.length) row)(hu:v.length<mL)(aT:bV+v.length<row.length)(a4:row.length≤5000000)(a3:row[bV+v.length]? = some y)(oS:-1000000000<y)(BQ:y<1000000000):
 ∃lV dW,xl v bV mL row=some dW∧dW.length=row.length∧oL (bV+v.length) dW∧dW[bV+v.length]? = some lV∧V dW=V row+B bV*V v∧ ∀i,i<bV∨bV+v.length<i→dW[i]? = row[i]? := by
 obtain ⟨r,hR,di,bu,kc,hlen,hV,k8⟩:=Zs bh ar hu aT a4
 have U:r.2[bV+v.length]? = some y:=by rw [k8 _ (by omega)];exact a3
 refine ⟨y+r.1,r.2.set (bV+v.length) (y+r.1),?_,by simpa using hlen,kc.Rj,?_,?_,fun i aq=> ?_⟩
 ·unfold xl
  simp only [fO]
  rw [hR]
  simp only [Option.bind_eq_bind,Option.bind_some,Int.toNat_natCast]
  rw [if_pos (by omega),U]
  simp only [Option.bind_some]
  rw [if_pos (by omega),cy (by omega) (by omega)]
 ·rw [List.getElem?_set,if_pos rfl,if_pos (by omega)]
 ·rw [rp U,hV]
  grind
 ·rw [List.getElem?_set_ne (by omega)]
  exact k8 i (by omega)
theorem aan {g q v1 v2 top gN rest aW W P:Int}(hg:1≤P)(dH:0≤g)(ch:g*v1+rest=top)(tv:P*(v1*1000000000+v2)≤W)(LJ:aW<P*(top*1000000000+gN+1))(R3:q*W≤aW)(hW:0≤W)(h:rest*1000000000+gN<g*v2):q<g:=by
 apply Int.not_le.mp
 intro tw
 have h1:g*W≤q*W:=Int.mul_le_mul_of_nonneg_right tw hW
 have o:g*(P*(v1*1000000000+v2))≤g*W:=Int.mul_le_mul_of_nonneg_left tv dH
 have ab:g*(P*(v1*1000000000+v2))=P*(g*(v1*1000000000+v2)):=by grind
 have av:P*(g*(v1*1000000000+v2))<P*(top*1000000000+gN+1):=by omega
 have az:=Int.lt_of_mul_lt_mul_left av (by omega)
 have aZ:g*(v1*1000000000+v2)=1000000000*(g*v1)+g*v2:=by grind
 omega
theorem O3 {g v1 v2 top gN rest aW W P:Int}(hg:1≤P)(dH:0≤g)(tx:g≤999999999)(ss:1≤v1)(BV:0≤v2)(ch:g*v1+rest=top)(tv:P*(v1*1000000000+v2)≤W)(EF:W<P*(v1*1000000000+v2+1))(EE:P*(top*1000000000+gN)≤aW)(h:g*v2≤rest*1000000000+gN):g≤aW / W+1:=by
 have BW:P*1000000000≤W:=by
  have h1:P*1000000000≤P*(v1*1000000000+v2):=Int.mul_le_mul_of_nonneg_left (by omega) (by omega)
  omega
 have h1:g*W≤g*(P*(v1*1000000000+v2+1)):=Int.mul_le_mul_of_nonneg_left (by omega) dH
 have o:g*(P*(v1*1000000000+v2+1))=P*(1000000000*(g*v1)+g*v2+g):=by grind
 have ab:P*(1000000000*(g*v1)+g*v2+g)≤P*(top*1000000000+gN+999999999):=Int.mul_le_mul_of_nonneg_left (by omega) (by omega)
 have av:P*(top*1000000000+gN+999999999)=P*(top*1000000000+gN)+P*999999999:=by grind
 have az:(g-1)*W=g*W-W:=by grind
 have:g-1≤aW / W:=(Int.le_ediv_iff_mul_le (by omega)).2 (by omega)
 omega
theorem YN {ad u iC aj:List Int}{N n j:Nat}{v1 v2 gN top aW W P:Int}(a4:2≤n)(El:n≤5000000)(BX:j+n<N)(fQ:N≤5000000)(h1:iC[n-1]? = some v1)(o:iC[n-2]? = some v2)(ab:u[j+n-2]? = some gN)
 (ss:1≤v1∧v1<1000000000) (BV:0≤v2∧v2<1000000000) (afV:0≤gN∧gN<1000000000) (hg:1≤P) (tv:P*(v1*1000000000+v2)≤W) (EF:W<P*(v1*1000000000+v2+1)) (EE:P*(top*1000000000+gN)≤aW) (LJ:aW<P*(top*1000000000+gN+1)) (cW:0≤aW) (LK:aW<1000000000*W) (mv:0≤top) (afW:top≤v1*1000000000+999999999) (bc:aW / W≤top / v1) :
 ∃g,Jr N n n j ad u iC aj (top / v1) (top % v1)=some g∧(aW / W=g∨aW / W+1=g)∧0≤g∧g≤999999999:=by
 have BW:0<W:=by
  have h1:P*1000000000≤P*(v1*1000000000+v2):=Int.mul_le_mul_of_nonneg_left (by omega) (by omega)
  omega
 have lP:0≤aW / W:=Int.ediv_nonneg cW (by omega)
 have n8:aW / W<1000000000:=Int.ediv_lt_of_lt_mul BW LK
 have R3:aW / W*W≤aW:=Int.ediv_mul_le _ (by omega)
 have adG:=Int.mul_ediv_add_emod top v1
 have nH:=Int.emod_nonneg top (b:=v1) (by omega)
 have o9:=Int.emod_lt_of_pos top (b:=v1) (by omega)
 have KZ:R ((n:Int)-1)=((n-1:Nat):Int):=by rw [cy (by omega) (by omega)];omega
 have acw:R ((n:Int)-2)=((n-2:Nat):Int):=by rw [cy (by omega) (by omega)];omega
 have acx:R (R ((j:Int)+(n:Int))-2)=((j+n-2:Nat):Int):=by rw [cy (x:=(j:Int)+n) (by omega) (by omega),cy (by omega) (by omega)];omega
 have Ed:top / v1≤top:=Int.ediv_le_self _ mv
 refine jC (eO:=fun w:Int×Int=>w.1*v1+w.2=top∧0≤w.2∧w.2<1000000000∧aW / W≤w.1∧w.1≤top) (m:=fun w:Int×Int=>w.1.toNat) _ ?_ _ ⟨by rw [Int.mul_comm];exact adG,nH,by simp only;omega,bc,Ed⟩
 rintro ⟨g,rest⟩ ⟨i1,pb,Mg,B8,aem⟩
 simp only at i1 pb Mg B8 aem ⊢
 have LO:R (rest+v1)=rest+v1:=cy (by omega) (by omega)
 have LP:R (g-1)=g-1:=cy (by omega) (by omega)
 have tx:(g-1)*v1+(rest+v1)=top:=by grind
 have QC:aW / W≤g-1→1000000000≤rest+v1→(aW / W=g-1∨aW / W+1=g-1)∧0≤g-1∧g-1≤999999999:=by
  intro mX ll
  have qi:(g-1)*v1<1000000000*v1:=by omega
  have Mi:g-1<1000000000:=Int.lt_of_mul_lt_mul_right qi (by omega)
  have SF:0≤g-1:=by omega
  have ags:=(AA ⟨SF,Mi⟩ BV).2
  have:=O3 hg SF (by omega) ss.1 BV.1 tx tv EF EE (by omega)
  omega
 by_cases K0:1000000000≤g
 ·by_cases aS:1000000000≤rest+v1
  ·refine .inr ⟨g-1,?_,QC (by omega) aS⟩
   unfold tZ
   rw [if_pos (by simpa using K0),KZ,if_pos (by omega),Nat.zero_add,Int.toNat_natCast,h1]
   simp only [Option.bind_eq_bind,Option.bind_some,LO,LP]
   rw [if_pos (by simpa using aS)]
  ·refine .inl ⟨(g-1,rest+v1),?_,⟨tx,by simp only;omega,by simp only;omega,by simp only;omega,by simp only;omega⟩,by simp only;omega⟩
   unfold tZ
   rw [if_pos (by simpa using K0),KZ,if_pos (by omega),Nat.zero_add,Int.toNat_natCast,h1]
   simp only [Option.bind_eq_bind,Option.bind_some,LO,LP]
   rw [if_neg (by simpa using aS)]
 ·have i4:0≤g:=by omega
  obtain ⟨ij,hf⟩:=AA ⟨i4,by omega⟩ BV
  have e1:R (R (rest*1000000000)+gN)=rest*1000000000+gN:=by rw [cy (x:=rest*1000000000) (by omega) (by omega),cy (by omega) (by omega)]
  have aD:R (g*v2)=g*v2:=cy (by omega) (by omega)
  have KI:tZ N n n j ad u iC aj g rest=some (if rest*1000000000+gN<g*v2 then (if 1000000000≤rest+v1 then .inr (g-1) else .inl (g-1,rest+v1)) else .inr g):=by
   unfold tZ
   rw [if_neg (by simpa using K0),acw,if_pos (by omega),Nat.zero_add,Int.toNat_natCast,o]
   simp only [Option.bind_eq_bind,Option.bind_some]
   rw [acx,if_pos (by omega),Nat.zero_add,Int.toNat_natCast,ab]
   simp only [Option.bind_some,e1,aD]
   by_cases bf:rest*1000000000+gN<g*v2
   ·rw [if_pos (by simpa using bf),if_pos bf,KZ,if_pos (by omega),Nat.zero_add,Int.toNat_natCast,h1]
    simp only [Option.bind_some,LO,LP]
    by_cases aS:1000000000≤rest+v1
    ·rw [if_pos (by simpa using aS),if_pos aS]
    ·rw [if_neg (by simpa using aS),if_neg aS]
   ·rw [if_neg (by simpa using bf),if_neg bf]
  rw [KI]
  by_cases bf:rest*1000000000+gN<g*v2
  ·have afX:=aan hg i4 i1 tv LJ R3 (by omega) bf
   rw [if_pos bf]
   by_cases aS:1000000000≤rest+v1
   ·rw [if_pos aS]
    exact .inr ⟨g-1,rfl,QC (by omega) aS⟩
   ·rw [if_neg aS]
    exact .inl ⟨(g-1,rest+v1),rfl,⟨tx,by simp only;omega,by simp only;omega,by simp only;omega,by simp only;omega⟩,by simp only;omega⟩
  ·rw [if_neg bf]
   have:=O3 hg i4 (by omega) ss.1 BV.1 i1 tv EF EE (by omega)
   exact .inr ⟨g,rfl,by omega,by omega,by omega⟩
theorem Zt {a b:List Int}{k:Nat}(h:∀i,k≤i→a[i]? = b[i]?):a.drop k=b.drop k:=by
 apply List.ext_getElem?
 intro i
 rw [List.getElem?_drop,List.getElem?_drop]
 exact h _ (by omega)
theorem Zu {a b:List Int}{k:Nat}(h:∀i,i<k→a[i]? = b[i]?):a.take k=b.take k:=by
 apply List.ext_getElem?
 intro i
 rw [List.getElem?_take,List.getElem?_take]
 by_cases aq:i<k
 ·rw [if_pos aq,if_pos aq];exact h i aq
 ·rw [if_neg aq,if_neg aq]
theorem R4 {u w:List Int}{j n:Nat}{y c:Int}(hlen:w.length=u.length)(BX:j+n<u.length)(en:oL (j+n) w)(a3:w[j+n]? = some y)(k8:∀i,i<j∨j+n<i→w[i]? = u[i]?)(h0:V (u.drop (j+n+1))=0)(hV:V w=V u-c*B j):
 V (w.drop j)=V (u.drop j)-c∧ ∃low,0≤low∧low<B n∧V (w.drop j)=low+B n*y:=by
 have h1:=uF (l:=u) (n:=j) (by omega)
 have o:=uF (l:=w) (n:=j) (by omega)
 rw [Zu (a:=w) (b:=u) (fun i aq=>k8 i (.inl aq))] at o
 have ab:B j*V (w.drop j)=B j*(V (u.drop j)-c):=by grind
 have g9:=oz j
 have av:V (w.drop j)=V (u.drop j)-c:=Int.eq_of_mul_eq_mul_left (by omega) ab
 refine ⟨av,V ((w.drop j).take n),?_,?_,?_⟩
 ·refine mF (fun x U=> ?_)
  obtain ⟨i,aq⟩:=List.mem_iff_getElem?.mp U
  have lQ:=fT aq
  simp at lQ
  rw [List.getElem?_take,if_pos (by omega),List.getElem?_drop] at aq
  exact en _ _ (by omega) aq
 ·have aT:cu ((w.drop j).take n):=fun x U=>by
   obtain ⟨i,aq⟩:=List.mem_iff_getElem?.mp U
   have lQ:=fT aq
   simp at lQ
   rw [List.getElem?_take,if_pos (by omega),List.getElem?_drop] at aq
   exact en _ _ (by omega) aq
  have:=nc aT
  rwa [List.length_take,Nat.min_eq_left (by simp;omega)] at this
 ·have az:=uF (l:=w.drop j) (n:=n) (by simp;omega)
  rw [List.drop_drop,om a3,Zt (a:=w) (b:=u) (k:=j+n+1) (fun i aq=>k8 i (.inr (by omega))),h0] at az
  rw [az]
  grind
theorem O4 {w:List Int}{p:Nat}(en:oL p w)(a3:w[p]? = some 0):cu w:=fun x U=>by
 obtain ⟨i,aq⟩:=List.mem_iff_getElem?.mp U
 by_cases h:i=p
 ·subst h
  rw [a3] at aq
  have:=Option.some.inj aq
  omega
 ·exact en i x h aq
theorem Py {low y X vy W:Int}(h0:0≤low)(h1:low<vy)(EY:X=low+vy*y)(o:0≤X)(ab:X<W)(av:W≤vy):y=0:=by
 have dG:vy*y<vy*1:=by omega
 have az:=Int.lt_of_mul_lt_mul_left dG (by omega)
 have Et:vy*(-1)<vy*y:=by omega
 have aZ:=Int.lt_of_mul_lt_mul_left Et (by omega)
 omega
theorem Zv {ad u iC aj:List Int}{n j:Nat}{v1 W:Int}(a4:2≤n)(LQ:n≤iC.length)(bh:cu (iC.take n))(hW:V (iC.take n)=W)(ss:iC[n-1]? = some v1)(K1:1≤v1)(hu:cu u)(vh:u.length≤5000000)(BX:j+n<u.length)(dG:V (u.drop (j+1))<W)(afY:j<aj.length):
 ∃pG,t0 u.length n n ad iC j u aj=some (.inl ((j:Int)-1,pG,aj.set j (V (u.drop j) / W)))∧cu pG∧pG.length=u.length∧V pG=V u-(V (u.drop j) / W)*B j*W∧V (pG.drop j)<W∧0≤V (u.drop j) / W∧V (u.drop j) / W<1000000000:=by
 obtain ⟨n,rfl⟩ : ∃m,n=m+2:=⟨n-2,by omega⟩
 have pu:(iC.take (n+2)).length=n+2:=by simp;omega
 have tx:(iC.take (n+2))[n+1]? = some v1:=by rw [List.getElem?_take,if_pos (by omega)];exact ss
 have R5:=List.getElem?_eq_getElem (show n<iC.length by omega)
 have Rk:(iC.take (n+2))[n]? = some iC[n]:=by rw [List.getElem?_take,if_pos (by omega)];exact R5
 have acy:=bh.get tx
 have acz:=bh.get Rk
 have ko:=List.getElem?_eq_getElem (show j+(n+2)<u.length by omega)
 have BU:=List.getElem?_eq_getElem (show j+(n+1)<u.length by omega)
 have Bx:=List.getElem?_eq_getElem (show j+n<u.length by omega)
 have R6:=List.getElem?_eq_getElem (show j<u.length by omega)
 have lf:=hu.get ko
 have tl:=hu.get BU
 have Lm:=hu.get Bx
 have afZ:=hu.get R6
 have BZ:=rb bh (k:=n+1) (by omega)
 rw [Af tx (by omega),hW] at BZ
 have LR:=rb bh (k:=n) (by omega)
 rw [om Rk,Af tx (by omega),hW] at LR
 have K2:=nc bh
 rw [pu,hW] at K2
 have af0:0≤W:=by rw [← hW];exact mF bh
 have cv:=rb (hu.drop (j+1)) (k:=n+2) (by simp;omega)
 rw [List.drop_drop] at cv
 have adH:=mF (hu.drop (j+1+(n+2)))
 have af1:=oz (n+2)
 have h0:V (u.drop (j+(n+2)+1))=0:=by
  rw [show j+(n+2)+1=j+1+(n+2) by omega]
  apply Int.le_antisymm _ adH
  apply Int.not_lt.mp
  intro h
  have:B (n+2)*1≤B (n+2)*V (u.drop (j+1+(n+2))):=Int.mul_le_mul_of_nonneg_left (by omega) (by omega)
  omega
 have mv:V (u.drop (j+(n+2)))=u[j+(n+2)]:=by rw [om ko,h0];omega
 have Ed:V (u.drop (j+(n+1)))=u[j+(n+1)]+1000000000*u[j+(n+2)]:=by rw [om BU,show j+(n+1)+1=j+(n+2) by omega,mv]
 have iK:V (u.drop (j+n))=u[j+n]+1000000000*(u[j+(n+1)]+1000000000*u[j+(n+2)]):=by rw [om Bx,show j+n+1=j+(n+1) by omega,Ed]
 have hR:=rb (hu.drop j) (k:=n+1) (by simp;omega)
 rw [List.drop_drop,Ed] at hR
 have vi:=rb (hu.drop j) (k:=n) (by simp;omega)
 rw [List.drop_drop,iK] at vi
 have oT:=mF (hu.drop j)
 have cW:V (u.drop j)<1000000000*W:=by rw [om R6];omega
 have adI:=oz n
 have acA:=oz (n+1)
 have u3:u[j+(n+2)]≤v1:=by
  have h1:=rb (hu.drop (j+1)) (k:=n+1) (by simp;omega)
  rw [List.drop_drop,show j+1+(n+1)=j+(n+2) by omega,mv] at h1
  have o:B (n+1)*u[j+(n+2)]<B (n+1)*(v1+1):=by omega
  have:=Int.lt_of_mul_lt_mul_left o (by omega)
  omega
 have acB:=NU acA hR.1 hR.2 BZ.1 BZ.2 (by omega) (by omega) cW
 obtain ⟨g,dH,tw,adJ,af2⟩:=YN (ad:=ad) (aj:=aj) (N:=u.length) (n:=n+2) (j:=j) (v1:=v1) (v2:=iC[n]) (gN:=u[j+n]) (top:=u[j+(n+1)]+1000000000*u[j+(n+2)]) (aW:=V (u.drop j)) (W:=W) (P:=B n) (u:=u) (iC:=iC) (by omega) (by omega) BX vh ss R5 Bx ⟨K1,acy.2⟩ acz Lm adI
  (by rw [Int.mul_comm v1,Int.add_comm];exact LR.1) (by rw [Int.mul_comm v1,Int.add_comm (1000000000*v1)];exact LR.2)
  (by rw [Int.mul_comm (u[j+(n+1)]+_),Int.add_comm];exact vi.1) (by rw [Int.mul_comm (u[j+(n+1)]+_),Int.add_comm (1000000000*_) u[j+n]];exact vi.2) oT cW (by omega) (by omega) acB.2.1
 have BW:0<W:=by
  have:B (n+1)*1≤B (n+1)*v1:=Int.mul_le_mul_of_nonneg_left (by omega) (by omega)
  omega
 have lP:0≤V (u.drop j) / W:=Int.ediv_nonneg oT (by omega)
 have n8:V (u.drop j) / W<1000000000:=Int.ediv_lt_of_lt_mul BW cW
 have hm:=Int.mul_ediv_add_emod (V (u.drop j)) W
 have nH:=Int.emod_nonneg (V (u.drop j)) (b:=W) (by omega)
 have o9:=Int.emod_lt_of_pos (V (u.drop j)) BW
 obtain ⟨y,w,ch,R7,EJ,EK,oS,BQ,EL,Kt⟩:=abx (v:=iC.take (n+2)) (row:=u) (bV:=j) (mL:=u.length-j) (iQ:=g) bh hu ⟨adJ,by omega⟩ (by omega) (by omega) vh
 rw [pu] at EJ EK Kt
 rw [hW] at EL
 obtain ⟨vg,low,nj,EM,sk⟩:=R4 (c:=g*W) R7 BX EJ EK Kt h0 (by rw [EL];grind)
 have adK:R ((j:Int)-1)=(j:Int)-1:=p5 (by omega)
 have e1:R ((j:Int)+((n+2:Nat):Int))=((j+(n+2):Nat):Int):=by rw [cy (by omega) (by omega)];omega
 have aD:R (((j+(n+2):Nat):Int)-1)=((j+(n+1):Nat):Int):=by rw [cy (by omega) (by omega)];omega
 have bS:R (((n+2:Nat):Int)-1)=((n+1:Nat):Int):=by rw [cy (by omega) (by omega)];omega
 have da:R (R (u[j+(n+2)]*1000000000)+u[j+(n+1)])=u[j+(n+1)]+1000000000*u[j+(n+2)]:=by
  rw [cy (x:=u[j+(n+2)]*1000000000) (by omega) (by omega),cy (by omega) (by omega)];omega
 have dl:0≤u[j+(n+1)]+1000000000*u[j+(n+2)]:=by omega
 have dT:(u[j+(n+1)]+1000000000*u[j+(n+2)]) / v1≤u[j+(n+1)]+1000000000*u[j+(n+2)]:=Int.ediv_le_self _ dl
 have er:0≤(u[j+(n+1)]+1000000000*u[j+(n+2)]) / v1:=Int.ediv_nonneg dl (by omega)
 have acC:iC[n+1]? = some v1:=ss
 have pre:t0 u.length (n+2) ((n+2:Nat):Int) ad iC j u aj =
  (if (decide (y<0))=true then
    xl (iC.take (n+2)) j (u.length-j) w >>= fun kp=>some (.inl ((j:Int)-1,kp,aj.set j (R (g-1))))
  else some (.inl ((j:Int)-1,w,aj.set j g))):=by
  unfold t0
  rw [if_pos (by simp)]
  simp only [e1,aD,bS,Int.toNat_natCast,Nat.zero_add,adK]
  rw [if_pos (by omega),ko]
  simp only [Option.bind_eq_bind,Option.bind_some]
  rw [if_pos (by omega),BU]
  simp only [Option.bind_some]
  rw [if_pos (by omega),acC]
  simp only [Option.bind_some]
  rw [if_pos (by omega),da,m2 dl,pH dl,cy (by omega) (by omega),dH]
  simp only [Option.bind_some]
  rw [if_pos (by omega),if_pos (by omega),if_pos (by omega),List.drop_zero,ch]
  simp only [Option.bind_some]
  by_cases a3:y<0
  ·have bJ:(decide (y<0))=true:=by simpa using a3
   simp only [if_pos bJ]
   congr 1
   funext r
   rw [if_pos (by omega),if_pos (by omega)]
  ·have bJ : ¬(decide (y<0))=true:=by simpa using a3
   simp only [if_neg bJ]
   rw [if_pos (by omega),if_pos (by omega)]
 rcases tw with tw|tw
 ·subst tw
  have EY:V (w.drop j)=V (u.drop j) % W:=by rw [vg];grind
  have a3:y=0:=Py (W:=W) nj EM sk (by rw [EY];exact nH) (by rw [EY];exact o9) (Int.le_of_lt K2)
  subst a3
  refine ⟨w,?_,O4 EJ EK,R7,EL,by omega,lP,n8⟩
  rw [pre]
  rfl
 ·have EY:V (w.drop j)=V (u.drop j) % W-W:=by rw [vg,← tw];grind
  have a3:y<0:=by
   apply Int.not_le.mp
   intro h
   have:0≤B (n+2)*y:=Int.mul_nonneg (by omega) h
   omega
  obtain ⟨lV,bN,nC,afv,K3,K4,Rl,P9⟩:=aby (v:=iC.take (n+2)) (row:=w) (bV:=j) (mL:=u.length-j) (y:=y) bh (by rw [pu];exact EJ) (by omega) (by omega) (by omega) (by rw [pu];exact EK) oS BQ
  rw [pu] at K3 K4 P9
  rw [hW] at Rl
  have R8:V bN=V u-V (u.drop j) / W*B j*W:=by rw [Rl,EL,← tw];grind
  obtain ⟨acD,afw,acE,acF,acG⟩:=R4 (c:=V (u.drop j) / W*W) (by omega) BX K3 K4 (fun i aq=>by rw [P9 i aq,Kt i aq]) h0 (by rw [R8];grind)
  have R9:V (bN.drop j)=V (u.drop j) % W:=by rw [acD];grind
  have nJ:lV=0:=Py (W:=W) acE acF acG (by rw [R9];exact nH) (by rw [R9];exact o9) (Int.le_of_lt K2)
  subst nJ
  refine ⟨bN,?_,O4 K3 K4,by omega,R8,by omega,lP,n8⟩
  rw [pre,if_pos (by simpa using a3),nC]
  simp only [Option.bind_eq_bind,Option.bind_some]
  rw [cy (by omega) (by omega),show g-1=V (u.drop j) / W by omega]
theorem Zw {ad iC u:List Int}{n m:Nat}{v1 W:Int}(a4:2≤n)(LQ:n≤iC.length)(bh:cu (iC.take n))(hW:V (iC.take n)=W)(ss:iC[n-1]? = some v1)(K1:1≤v1)(hu:cu u)(vh:u.length≤5000000)(hm:m+n=u.length)(dG:V (u.drop m)<W):
 ∃r,Js u.length n n ad iC ((m:Int)-1) u (List.replicate m 0)=some r∧cu r.1∧r.1.length=u.length∧V r.1<W∧cu r.2∧r.2.length=m∧V u=V r.2*W+V r.1:=by
 refine jC (eO:=fun w:Int×List Int×List Int=> ∃(k:Nat) (q:List Int),w.1=(k:Int)-1∧k≤m∧cu w.2.1∧w.2.1.length=u.length∧w.2.2=List.replicate k 0++q∧q.length+k=m∧cu q∧V (w.2.1.drop k)<W∧V u=V w.2.1+B k*V q*W) (m:=fun w:Int×List Int×List Int=>(w.1+1).toNat) _ ?_ _ ⟨m,[],rfl,by omega,hu,rfl,by simp,by simp,cu.nil,dG,by simp [V]⟩
 rintro ⟨ael,pG,aj⟩ ⟨k,q,h1,a8,n9,hlen,ab,bc,pD,K5,hV⟩
 simp only at h1 n9 hlen ab K5 hV ⊢
 subst h1 ab
 cases k with
 | zero =>
  refine .inr ⟨(pG,q),by simp [t0],n9,hlen,by simpa using K5,pD,by simpa using bc,?_⟩
  rw [hV]
  simp [B]
  omega
 | succ k =>
  obtain ⟨af3,he,s1,s2,vp,aen,aeo,aep⟩:=Zv (ad:=ad) (iC:=iC) (u:=pG) (aj:=List.replicate (k+1) 0++q) (j:=k) a4 LQ bh hW ss K1 n9 (by omega) (by omega) K5 (by simp;omega)
  rw [hlen] at he
  rw [show ((k+1:Nat):Int)-1=k by omega,he]
  refine .inl ⟨_,rfl,⟨k,V (pG.drop k) / W::q,rfl,by omega,s1,s2.trans hlen,Kg _ _ _,by simp;omega,cu.cons ⟨aeo,aep⟩ pD,aen,?_⟩,by simp only;omega⟩
  simp only
  rw [hV,vp,k5,l3]
  grind
theorem aao {a:List Int}(h:a.length≤900000):An a=some a:=by
 unfold An
 rw [if_pos (by omega)]
theorem YO {a b q s:Int}(h:a=q*b+s)(h0:0≤s)(h1:s<b):a / b=q∧a % b=s:=by
 subst h
 constructor
 ·rw [Int.add_comm,Int.add_mul_ediv_right _ _ (by omega),Int.ediv_eq_zero_of_lt h0 h1]
  omega
 ·rw [Int.add_comm,Int.add_mul_emod_self_right]
  exact Int.emod_eq_of_lt h0 h1
theorem aa0 {a b:List Int}(bF:fF a)(aS:fF b)(lf:b≠[])(a4:a.length≤900000)(hm:b.length≤900000):xt a b=some (L (V a / V b),L (V a % V b)):=by
 have jA:=ta aS lf
 have Ek:=mF bF.1
 unfold xt
 simp only [fO]
 rw [OC bF aS (by omega)]
 simp only [Option.bind_eq_bind,Option.bind_some]
 by_cases bf:V a<V b
 ·rw [if_pos (by simpa using s0.2 bf),aao a4,Int.ediv_eq_zero_of_lt Ek bf,Int.emod_eq_of_lt Ek bf,qx,Ez bF]
  rfl
 ·rw [if_neg (fun h=>bf (s0.1 (by simpa using h)))]
  obtain ⟨k,d,a8,bJ,sm,EG,yF⟩:=DV aS lf
  by_cases h1:b.length=1
  ·have sl:k=0:=by omega
   subst sl
   have LM:V b=d:=by simpa using yF
   rw [if_pos (by simp [h1]),if_pos (by omega),bJ]
   simp only [Option.bind_some]
   have o9:=Int.emod_nonneg (V a) (b:=d) (by omega)
   have BT:=Int.emod_lt_of_pos (V a) sm
   rw [NT bF.1 ⟨sm,EG⟩ (by omega)]
   simp only [Option.bind_some]
   rw [AR o9 (by omega),JF o9 (by omega),LM]
   rfl
  ·have hw:R ((b.length:Int)-1)=(k:Int):=by rw [cy (by omega) (by omega)];omega
   have e1:R (d+1)=d+1:=cy (by omega) (by omega)
   have yG:1≤1000000000 / (d+1):=by
    apply (Int.le_ediv_iff_mul_le (by omega)).2
    omega
   have B0:1000000000 / (d+1)<1000000000:=by
    apply Int.ediv_lt_of_lt_mul (by omega)
    omega
   have adL:1000000000 / (d+1)*(d+1)≤1000000000:=Int.ediv_mul_le _ (by omega)
   have aD:R ((1000000000:Int).tdiv (d+1))=1000000000 / (d+1):=by rw [m2 (by omega),cy (by omega) (by omega)]
   rw [if_neg (by simp;omega),hw,if_pos (by omega),Int.toNat_natCast,bJ]
   simp only [Option.bind_some,e1,aD]
   generalize 1000000000 / (d+1)=f at *
   rw [if_pos (by omega)]
   have jG:cu [f]:=cu.cons (by omega) cu.nil
   have adM:V [f]=f:=by simp [V]
   have adN:a≠[]:=by
    intro h
    subst h
    simp [V] at bf
    omega
   obtain ⟨lX,vz,adO,af4,adP,EN,af5⟩:=OE bF.1 jG adN (by simp) (by omega) (by simp)
   obtain ⟨Cg,iC,adQ,af6,adR,LS,af7⟩:=OE aS.1 jG lf (by simp) (by omega) (by simp)
   rw [adM] at EN LS
   rw [adO]
   simp only [Option.bind_some]
   simp only [List.length_singleton] at adP adR
   have af8:=oz k
   have adS:V b*f<B b.length:=by
    have o:=(rb aS.1 (k:=k) (by omega)).2
    rw [yF] at o
    have ab:V b*f≤(B k*(d+1)-1)*f:=Int.mul_le_mul_of_nonneg_right (by omega) (by omega)
    have av:(B k*(d+1)-1)*f=B k*(f*(d+1))-f:=by grind
    have az:B k*(f*(d+1))≤B k*1000000000:=Int.mul_le_mul_of_nonneg_left adL (by omega)
    rw [a8,l3]
    omega
   have af9:V b≤V b*f:=by
    have:V b*1≤V b*f:=Int.mul_le_mul_of_nonneg_left yG (by omega)
    omega
   have aga:V a≤V a*f:=by
    have:V a*1≤V a*f:=Int.mul_le_mul_of_nonneg_left yG (by omega)
    omega
   have LU:0≤V b*f:=by omega
   have Sa:0≤V a*f:=by omega
   have Sb:Cg=b.length:=by
    have o:(iC.take Cg).length=Cg:=by simp;omega
    rw [LS] at o
    have ab:=(iX LU (k:=b.length)).2 adS
    have av:=Ec aS lf
    have az : ¬(L (V b*f)).length≤b.length-1:=fun h=>by
     have:=(iX LU).1 h
     omega
    omega
   have adT:(L (V a*f)).length=lX:=by rw [← EN];simp;omega
   have Rm:=nc (ha (V a*f))
   rw [ej Sa,adT] at Rm
   have afx:a.length≤lX:=bF.len.2 (by omega)
   have agb:b.length≤a.length:=Nat.le_of_not_lt fun h=>by
    have:=DJ bF aS h
    omega
   rw [if_pos (by omega),if_pos (by simp;omega),adQ]
   simp only [Option.bind_some]
   have vh:(vz.take lX++[0]).length=lX+1:=by simp;omega
   have adU:C9 a Cg [f] iC (vz.take lX++[0])=some (vz.take lX++[0]):=by
    unfold C9
    rw [iter]
    unfold CJ
    simp only [fO,vh]
    rw [if_neg (by simp;omega)]
    rfl
   rw [adU]
   simp only [Option.bind_some,vh]
   have l8:R (((lX+1:Nat):Int)-((Cg:Nat):Int))=((lX+1-b.length:Nat):Int):=by rw [cy (by omega) (by omega)];omega
   rw [l8,if_pos (by omega),p5 (by omega),Int.toNat_natCast]
   have Q0:cu (vz.take lX++[0]):=by
    rw [EN]
    exact (ha _).append (cu.cons (by omega) cu.nil)
   have Sc:V (vz.take lX++[0])=V a*f:=by
    rw [uD,EN,ej Sa]
    simp [V]
   have Ku:iC.take b.length=L (V b*f):=by rw [← Sb];exact LS
   have adV:V (iC.take b.length)=V b*f:=by rw [Ku,ej LU]
   obtain ⟨d8,aeq,oN,p7,afy,afz,afA⟩:=DV (jc (V b*f)) (fun h=>by have:=tb.1 h;omega)
   rw [← Ku] at oN p7
   have pu:(iC.take b.length).length=b.length:=by simp;omega
   have BD:iC[b.length-1]? = some aeq:=by
    rw [List.getElem?_take] at p7
    rw [show b.length-1=d8 by omega]
    split at p7
    ·exact p7
    ·simp at p7
   have acH:V ((vz.take lX++[0]).drop (lX+1-b.length))<V b*f:=by
    have o:=(rb Q0 (k:=lX+1-b.length) (by omega)).1
    rw [Sc] at o
    have ab:=Ec aS lf
    have av:B lX=B (lX+1-b.length)*B (b.length-1):=by rw [← AN];congr 1;omega
    rw [av] at Rm
    have az:B (lX+1-b.length)*V ((vz.take lX++[0]).drop (lX+1-b.length))<B (lX+1-b.length)*B (b.length-1):=by omega
    have:=Int.lt_of_mul_lt_mul_left az (by have:=oz (lX+1-b.length);omega)
    omega
   obtain ⟨r,ar,r1,b1,bj,bb,aM,cj⟩:=Zw (ad:=[f]) (m:=lX+1-b.length) (by omega) (by omega) (by rw [Ku];exact ha _) adV BD (by omega) Q0 (by omega) (by omega) acH
   rw [vh] at ar b1
   rw [Sb,ar]
   simp only [Option.bind_some]
   rw [if_pos (by omega),List.drop_zero,List.take_of_length_le (by omega),xI r1 (by omega)]
   simp only [Option.bind_some]
   have BS:=mF r1
   rw [Sc] at cj
   have b0:V r.1=(V a-V r.2*V b)*f:=by grind
   have adW:0≤V a-V r.2*V b:=by
    apply Int.not_lt.mp
    intro h
    have:(V a-V r.2*V b)*f≤(-1)*f:=Int.mul_le_mul_of_nonneg_right (by omega) (by omega)
    omega
   have vg:V a-V r.2*V b<V b:=by
    apply Int.lt_of_mul_lt_mul_right (a:=f) _ (by omega)
    omega
   obtain ⟨q1,a2⟩:=YO (a:=V a) (b:=V b) (q:=V r.2) (s:=V a-V r.2*V b) (by omega) adW vg
   rw [if_pos (by simp)]
   simp only [List.getElem?_cons_zero,Option.bind_some]
   have LV:(L (V r.1)).length≤lX+1:=(iX BS).2 (by have:=nc r1;rwa [b1] at this)
   rw [NT (ha _) ⟨by omega,B0⟩ (by omega),ej BS]
   simp only [Option.bind_some]
   rw [xI bb (by omega)]
   simp only [Option.bind_some]
   rw [q1,a2,b0,Int.mul_ediv_cancel _ (by omega)]
def gX (n:Int):bq:=⟨decide (n<0),L n.natAbs⟩
def ee (neg:Bool)(a:Int):Int:=if neg then -a else a
def mk (p:Int×Int):aN:=⟨gX p.1,L p.2⟩
def LW:aN:=⟨⟨false,[]⟩,[]⟩
def enc:Option (Int×Int)→aN
 | none=>LW
 | some p=>mk p
structure Fr (p:Int×Int):Prop where
 pos:0<p.2
 Sd:Int.gcd p.1 p.2=1
 num:(p.1.natAbs:Int)<B 24
 den:p.2<B 24
theorem Pz {n:Int}:(gX n).cC=L n.natAbs:=rfl
theorem PA {n:Int}:(gX n).cN=decide (n<0):=rfl
theorem O5 {n:Int}(h:0≤n):decide ((0:Int)<((L n).length:Nat))=decide (0<n):=by
 apply decide_eq_decide.2
 by_cases h1:0<n
 ·have:(L n)≠[]:=fun o=>by have:=tb.1 o;omega
  have:=List.length_pos_iff.mpr this
  omega
 ·have:n=0:=by omega
  subst this
  simp [qx]
theorem K6 {n:Int}(h:0≤n):(((L n).length:Nat):Int)=0↔n=0:=by
 constructor
 ·intro h1
  have:L n=[]:=List.eq_nil_of_length_eq_zero (by omega)
  have:=tb.1 this
  omega
 ·rintro rfl
  simp [qx]
theorem Kv {neg:Bool}{a:Int}(h:0≤a):((ee neg a).natAbs:Int)=a:=by
 unfold ee
 cases neg<;>simp<;>omega
theorem Qa {neg:Bool}{a:Int}(h:0≤a):(⟨neg && decide (0<a),L a⟩:bq)=gX (ee neg a):=by
 unfold gX
 rw [Kv h]
 congr 1
 unfold ee
 cases neg
 ·simp;omega
 ·simp
theorem abz {a:Int}(h:0≤a)(qg:a<B 60):xi (L a)=some (L a):=by
 have aT:=(iX h).2 qg
 unfold xi
 rw [ra (ha _) (by omega),ej h]
 simp only [Option.bind_eq_bind,Option.bind_some,fO]
 rw [if_neg (by simp;omega)]
theorem pT {neg:Bool}{a:Int}(h:0≤a)(qg:a<B 60):hM neg (L a)=some (gX (ee neg a)):=by
 have aT:=(iX h).2 qg
 unfold hM
 rw [abz h qg]
 simp only [Option.bind_eq_bind,Option.bind_some,fO,List.nil_append]
 have bf:(L a).length*8≤140737488355328:=by omega
 rw [← Qa h,← O5 h]
 cases neg<;>simp [bf]
theorem rR {neg:Bool}{a:Int}(h:0≤a):m4 neg (L a)=some (gX (ee neg a)):=by
 unfold m4
 rw [← Qa h,fO,O5 h]
 cases neg<;>simp
theorem QD {a b:Int}:ee (!(decide (a<0) == decide (b<0))) ((a.natAbs:Int)*(b.natAbs:Int))=a*b:=by
 unfold ee
 by_cases bF:a<0
 ·have e1:(a.natAbs:Int) = -a:=by omega
  by_cases aS:b<0
  ·have aD:(b.natAbs:Int) = -b:=by omega
   rw [e1,aD]
   simp [bF,aS,Int.neg_mul,Int.mul_neg]
  ·have aD:(b.natAbs:Int)=b:=by omega
   rw [e1,aD]
   simp [bF,aS,Int.neg_mul,Int.mul_neg]
 ·have e1:(a.natAbs:Int)=a:=by omega
  by_cases aS:b<0
  ·have aD:(b.natAbs:Int) = -b:=by omega
   rw [e1,aD]
   simp [bF,aS,Int.neg_mul,Int.mul_neg]
  ·have aD:(b.natAbs:Int)=b:=by omega
   rw [e1,aD]
   simp [bF,aS,Int.neg_mul,Int.mul_neg]
theorem Ao {a b:Int}:ee (decide (a<0)) ((a.natAbs:Int)*b)=a*b:=by
 unfold ee
 by_cases bF:a<0
 ·have e1:(a.natAbs:Int) = -a:=by omega
  rw [e1]
  simp [bF,Int.neg_mul,Int.mul_neg]
 ·have e1:(a.natAbs:Int)=a:=by omega
  rw [e1]
  simp [bF,Int.neg_mul,Int.mul_neg]
theorem PB {a c:Int}:kV (-c) (-a)=kV a c:=by
 unfold kV
 by_cases h:a<c
 ·have : -c < -a:=by omega
  simp [h,this]
 ·by_cases o:c<a
  ·have ab : ¬ -c < -a:=by omega
   have av : -a < -c:=by omega
   simp [h,o,ab,av]
  ·have ab : ¬ -c < -a:=by omega
   have av : ¬ -a < -c:=by omega
   simp [h,o,ab,av]
theorem Zx {a c:Int}(bF:(L a.natAbs).length≤5000000)(bf:(L c.natAbs).length≤5000000):zT (gX a) (gX c)=some (kV a c):=by
 unfold zT
 simp only [PA,Pz,decide_eq_true_eq]
 by_cases h1:a<0
 ·by_cases o:c<0
  ·rw [if_pos h1,if_pos o,rY (jc _) (jc _) bf,ej (by omega),ej (by omega),show (c.natAbs:Int) = -c by omega,show (a.natAbs:Int) = -a by omega,PB]
   rfl
  ·rw [if_pos h1,if_neg o]
   unfold kV
   rw [if_pos (by omega)]
 ·by_cases o:c<0
  ·rw [if_neg h1,if_pos o]
   unfold kV
   rw [if_neg (by omega),if_pos (by omega)]
  ·rw [if_neg h1,if_neg o,rY (jc _) (jc _) bF,ej (by omega),ej (by omega)]
   show some (kV _ _)=_
   congr 2<;>omega
theorem Wi {a c:Int}(bF:(L a.natAbs).length≤5000000)(bf:(L c.natAbs).length≤5000000):rF (gX a) (gX c)=some (kV a c):=by
 have b0:rF (gX a) (gX c)=if (decide (a<0) == decide (c<0))=true then (if decide (a<0)=true then (qk (L c.natAbs) (L a.natAbs)).bind (fun r=>some r) else (qk (L a.natAbs) (L c.natAbs)).bind (fun r=>some r)) else if decide (a<0)=true then some (-1) else some 1:=rfl
 rw [b0,XV]
 by_cases h1:a<0
 ·by_cases o:c<0
  ·rw [if_pos (by simp [h1,o]),if_pos (by simpa using h1),rY (jc _) (jc _) bf,ej (by omega),ej (by omega),show (c.natAbs:Int) = -c by omega,show (a.natAbs:Int) = -a by omega,PB]
   rfl
  ·rw [if_neg (by simp [h1,o]),if_pos (by simpa using h1)]
   unfold kV
   rw [if_pos (by omega)]
 ·by_cases o:c<0
  ·rw [if_neg (by simp [h1,o]),if_neg (by simpa using h1)]
   unfold kV
   rw [if_neg (by omega),if_pos (by omega)]
  ·rw [if_pos (by simp [h1,o]),if_neg (by simpa using h1),rY (jc _) (jc _) bF,ej (by omega),ej (by omega),show (c.natAbs:Int)=c by omega,show (a.natAbs:Int)=a by omega]
   rfl
def fits (x:Int):Prop:=x<B 24
noncomputable instance (x:Int):Decidable (fits x):=Classical.propDecidable _
noncomputable def low (n d:Int):Option (Int×Int) :=
 if fits ((n / (Int.gcd n d:Int)).natAbs:Int)∧fits (d / (Int.gcd n d:Int)) then some (n / (Int.gcd n d:Int),d / (Int.gcd n d:Int)) else none
theorem Kh {n d:Int}(h:0<d):(0:Int)<Int.gcd n d:=by
 have:Int.gcd n d≠0:=by
  rw [Ne,Int.gcd_eq_zero_iff]
  omega
 omega
theorem aa1 {n d:Int}(h:0<d): ∃m e,n / (Int.gcd n d:Int)=m∧d / (Int.gcd n d:Int)=e∧n=Int.gcd n d*m∧d=Int.gcd n d*e∧0<e∧(n.natAbs:Int) / (Int.gcd n d:Int)=m.natAbs:=by
 have dH:=Kh (n:=n) h
 obtain ⟨m,hm⟩:=Int.gcd_dvd_left (a:=n) (b:=d)
 obtain ⟨e,he⟩:=Int.gcd_dvd_right (a:=n) (b:=d)
 refine ⟨m,e,?_,?_,hm,he,?_,?_⟩
 ·conv=>lhs;lhs;rw [hm]
  exact Int.mul_ediv_cancel_left _ (by omega)
 ·conv=>lhs;lhs;rw [he]
  exact Int.mul_ediv_cancel_left _ (by omega)
 ·apply Int.not_le.mp
  intro h1
  have:(Int.gcd n d:Int)*e≤Int.gcd n d*0:=Int.mul_le_mul_of_nonneg_left h1 (by omega)
  omega
 ·have e1:(n.natAbs:Int)=Int.gcd n d*m.natAbs:=by
   conv=>lhs;rw [hm]
   rw [Int.natAbs_mul]
   simp
  rw [e1]
  exact Int.mul_ediv_cancel_left _ (by omega)
theorem AB {a:Int}(h:0≤a):qm (L a)=some (decide (a=1)):=by
 unfold qm
 simp only [fO]
 by_cases h1:(L a).length=1
 ·have o:=(iX (k:=1) h).1 (by omega)
  have ab:0<a:=by
   apply Int.not_le.mp
   intro av
   rw [QZ av] at h1
   simp at h1
  have az:a<1000000000:=by simpa [B] using o
  rw [Ke ⟨ab,az⟩]
  by_cases aZ:a=1<;>simp [aZ]
 ·rw [if_neg (by simp;omega)]
  have:a≠1:=by
   rintro rfl
   rw [Ke (by omega)] at h1
   simp at h1
  simp [this]
theorem Qb {n d:Int}(h:0≤d):Int.gcd (n.natAbs:Int) d=Int.gcd n d:=by
 simp [Int.gcd]
theorem Kw:B 24≤B 60:=qw (by omega)
theorem JP {neg:Bool}{m e:Int}(hm:0≤m)(he:0≤e):(if (decide ((24:Int)<((L m).length:Nat)))=true then some LW else if (decide ((24:Int)<((L e).length:Nat)))=true then some LW else hM neg (L m) >>= fun r=>if (([]:List Int)++L e).length*8≤140737488355328 then some (⟨r,([]:List Int)++L e⟩:aN) else none) =
 some (enc (if fits m∧fits e then some (ee neg m,e) else none)):=by
 by_cases h1:fits m
 ·have o:=(iX hm).2 h1
  rw [if_neg (by simp;omega)]
  by_cases ab:fits e
  ·have av:=(iX he).2 ab
   have:=Kw
   unfold fits at h1
   rw [if_neg (by simp;omega),pT hm (by omega),if_pos ⟨h1,ab⟩]
   simp only [Option.bind_eq_bind,Option.bind_some]
   rw [if_pos (by simp;omega)]
   rfl
  ·have av : ¬(L e).length≤24:=fun h=>ab ((iX he).1 h)
   rw [if_pos (by simp;omega),if_neg (fun h=>ab h.2)]
   rfl
 ·have av : ¬(L m).length≤24:=fun h=>h1 ((iX hm).1 h)
  rw [if_pos (by simp;omega),if_neg (fun h=>h1 h.1)]
  rfl
theorem abA {neg:Bool}{p m g:Int}(ak:0≤p)(dH:0<g)(hm:ee neg p=g*m):ee neg (m.natAbs:Int)=m:=by
 unfold ee at hm ⊢
 cases neg
 ·simp at hm ⊢
  have:0≤m:=by
   apply Int.not_lt.mp
   intro h1
   have:g*m≤g*(-1):=Int.mul_le_mul_of_nonneg_left (by omega) (by omega)
   omega
  omega
 ·simp at hm ⊢
  have:m≤0:=by
   apply Int.not_lt.mp
   intro h1
   have:g*1≤g*m:=Int.mul_le_mul_of_nonneg_left (by omega) (by omega)
   omega
  omega
theorem JQ {neg:Bool}{p q:Int}(ak:0≤p)(bc:0<q)(Se:(L p).length≤900000)(pD:(L q).length≤900000):nT neg (L p) (L q)=some (enc (low (ee neg p) q)):=by
 obtain ⟨m,e,h1,o,ab,av,az,aZ⟩:=aa1 (n:=ee neg p) bc
 have pz:=abA ak (Kh (n:=ee neg p) bc) ab
 rw [Kv ak] at aZ
 have dH:Int.gcd p q=Int.gcd (ee neg p) q:=by rw [← Qb (n:=ee neg p) (by omega),Kv ak]
 have agc:=Kh (n:=ee neg p) bc
 unfold nT
 rw [ra (ha _) (by omega),ej ak]
 simp only [Option.bind_eq_bind,Option.bind_some]
 rw [ra (ha _) (by omega),ej (by omega)]
 simp only [Option.bind_some,fO]
 have lP : ¬((((L q).length:Nat):Int) == 0)=true:=by
  simp only [beq_iff_eq]
  intro h
  have:=(K6 (n:=q) (by omega)).1 h
  omega
 rw [if_neg lP,AB (by omega)]
 simp only [Option.bind_some]
 have A5:low (ee neg p) q=if fits (m.natAbs:Int)∧fits e then some (ee neg (m.natAbs:Int),e) else none:=by
  unfold low
  rw [h1,o,pz]
 have Q1:Int.gcd (ee neg p) q=1→(m.natAbs:Int)=p∧e=q:=by
  intro hu
  rw [hu] at o aZ
  simp at o aZ
  omega
 by_cases n8:q=1
 ·have hu:Int.gcd (ee neg p) q=1:=by rw [n8];simp
  obtain ⟨ln,nM⟩:=Q1 hu
  rw [if_pos (by simpa using n8),A5,ln,nM]
  exact JP ak (by omega)
 ·rw [if_neg (by simpa using n8),QB (jc _) (jc _) Se pD,ej ak,ej (by omega)]
  simp only [Option.bind_some]
  rw [AB (by omega)]
  simp only [Option.bind_some]
  by_cases hu:Int.gcd p q=1
  ·obtain ⟨ln,nM⟩:=Q1 (by omega)
   rw [if_pos (by simp;omega),A5,ln,nM]
   exact JP ak (by omega)
  ·rw [if_neg (by simp;omega)]
   have Sf:(L (Int.gcd p q)).length≤900000:=by
    have bg:(Int.gcd p q:Int)≤q:=by
     rw [dH]
     have:(Int.gcd (ee neg p) q:Int)*1≤Int.gcd (ee neg p) q*e:=Int.mul_le_mul_of_nonneg_left (by omega) (by omega)
     omega
    apply (iX (by omega)).2
    have:=(iX (n:=q) (by omega)).1 pD
    omega
   have Sg:L (Int.gcd p q)≠[]:=fun h=>by
    have:=tb.1 h
    omega
   rw [div_eq (jc _) (jc _) Sg Se Sf,ej ak,ej (by omega)]
   simp only [Option.bind_some]
   rw [div_eq (jc _) (jc _) Sg pD Sf,ej (by omega),ej (by omega)]
   simp only [Option.bind_some]
   rw [dH,aZ,o,A5]
   exact JP (by omega) (by omega)
theorem Fr.tg {p:Int×Int}(h:Fr p):(L p.1.natAbs).length≤24:=(iX (by omega)).2 h.num
theorem Fr.sf {p:Int×Int}(h:Fr p):(L p.2).length≤24:=(iX (by have:=h.pos;omega)).2 h.den
theorem ab4 (m n:Nat):B m*B n=B (m+n):=(AN m n).symm
theorem s3 {x y:Int}{m n:Nat}(U:0≤x)(a3:0≤y)(h1:x<B m)(o:y<B n):(L (x*y)).length≤m+n:=by
 apply (iX (Int.mul_nonneg U a3)).2
 rw [← ab4]
 have ab:x*y≤(B m-1)*(B n-1):=Int.mul_le_mul (by omega) (by omega) a3 (by omega)
 have av:(B m-1)*(B n-1)=B m*B n-B m-B n+1:=by grind
 have az:=oz m
 have aZ:=oz n
 omega
theorem YP (r s:aN){a b:Int}(bF:0≤a)(aS:0<b)(h1:hI r.fp.cC s.fp.cC=some (L a))(o:hI r.hq s.hq=some (L b))(ab:(L a).length≤900000)(av:(L b).length≤900000):sQ r s=some (enc (low (ee (!(r.fp.cN == s.fp.cN)) a) b)):=by
 unfold sQ
 rw [h1]
 simp only [Option.bind_eq_bind,Option.bind_some]
 rw [o]
 simp only [Option.bind_some]
 rw [JQ bF aS ab av]
 simp only [Option.bind_some]
theorem Zy {p q:Int×Int}(ak:Fr p)(bc:Fr q):sQ (mk p) (mk q)=some (enc (low (p.1*q.1) (p.2*q.2))):=by
 have h1:=ak.tg
 have o:=ak.sf
 have ab:=bc.tg
 have av:=bc.sf
 have az:=ak.pos
 have aZ:=bc.pos
 have bg:=s3 (x:=p.1.natAbs) (y:=q.1.natAbs) (by omega) (by omega) ak.num bc.num
 have bl:=s3 (x:=p.2) (y:=q.2) (by omega) (by omega) ak.den bc.den
 have e1:hI (L p.1.natAbs) (L q.1.natAbs)=some (L ((p.1.natAbs:Int)*q.1.natAbs)):=by
  rw [mul_eq (ha _) (ha _) (by omega) (by omega),ej (by omega),ej (by omega)]
 have aD:hI (L p.2) (L q.2)=some (L (p.2*q.2)):=by
  rw [mul_eq (ha _) (ha _) (by omega) (by omega),ej (by omega),ej (by omega)]
 have:=YP (mk p) (mk q) (a:=(p.1.natAbs:Int)*q.1.natAbs) (b:=p.2*q.2) (Int.mul_nonneg (by omega) (by omega)) (Int.mul_pos az aZ) e1 aD (by omega) (by omega)
 rw [this]
 have bS:ee (!((mk p).fp.cN == (mk q).fp.cN)) ((p.1.natAbs:Int)*q.1.natAbs)=p.1*q.1:=QD
 rw [bS]
theorem Zz {a b:Int}(bF:(L a.natAbs).length≤900000)(aS:(L b.natAbs).length≤900000):pd (gX a) (gX b)=some (gX (a*b)):=by
 unfold pd
 simp only [Pz,PA]
 rw [aai (ha _) (ha _) (by omega) (by omega),ej (by omega),ej (by omega)]
 simp only [Option.bind_eq_bind,Option.bind_some]
 rw [rR (Int.mul_nonneg (by omega) (by omega)),QD]
 rfl
theorem aa2:(1000000000000000000000000000:Int)≤B 24:=by
 have h:B 3≤B 24:=qw (by omega)
 have ab:B 3=1000000000000000000000000000:=by decide
 omega
theorem aa3:(1000000000000000000000000000:Int)≤B 60:=by
 have:=Kw
 have:=aa2
 omega
theorem Yg {n:Int}(h:n7 n):zv n=some (gX n):=by
 obtain ⟨h1,o⟩:=mg.1 h
 have aS:=aa3
 unfold zv
 by_cases hm:n = -9223372036854775808
 ·rw [if_pos (by simpa using hm)]
  have e:([854775808,223372036,9]:List Int)=L 9223372036854775808:=td ⟨by intro x U;simp at U;omega,by simp⟩ (by decide)
  rw [e,pT (by omega) (by omega)]
  subst hm
  rfl
 ·rw [if_neg (by simpa using hm)]
  by_cases a4:n<0
  ·rw [if_pos (by simpa using a4),cy (by omega) (by omega),xA (by omega) (by omega)]
   simp only [Option.bind_eq_bind,Option.bind_some]
   rw [pT (by omega) (by omega)]
   simp only [Option.bind_some]
   congr 2
   unfold ee
   simp
  ·rw [if_neg (by simpa using a4),xA (by omega) (by omega)]
   simp only [Option.bind_eq_bind,Option.bind_some]
   rw [pT (by omega) (by omega)]
   simp only [Option.bind_some]
   congr 2
theorem YQ {n:Int}(h:n7 n):oj n=some (gX n):=by
 obtain ⟨h1,o⟩:=mg.1 h
 unfold oj
 by_cases a4:n<0
 ·rw [if_pos (by simpa using a4),cy (x:=n+1) (by omega) (by omega),cy (x:=0-(n+1)) (by omega) (by omega),AR (x:=0-(n+1)) (by omega) (by omega),AR (by omega) (by omega),JF (by omega) (by omega)]
  simp only [Option.bind_eq_bind,Option.bind_some]
  rw [rR (by omega)]
  simp only [Option.bind_some]
  congr 2
  unfold ee
  simp
  omega
 ·rw [if_neg (by simpa using a4),AR (by omega) (by omega),JF (by omega) (by omega)]
  simp only [Option.bind_eq_bind,Option.bind_some]
  rw [rR (by omega)]
  simp only [Option.bind_some]
  congr 2
theorem Q2:L 1=[1]:=Ke (by omega)
theorem Xz {n:Int}(h:n7 n):oW n=some (mk (n,1)):=by
 unfold oW
 rw [Yg h]
 simp only [Option.bind_eq_bind,Option.bind_some,mk,Q2]
theorem ZA {p q:Int×Int}(ak:Fr p)(bc:Fr q):uq (mk p) (mk q)=some (kV (p.1*q.2) (q.1*p.2)):=by
 have h1:=ak.tg
 have o:=ak.sf
 have ab:=bc.tg
 have av:=bc.sf
 have az:=ak.pos
 have aZ:=bc.pos
 have bg:=s3 (x:=p.1.natAbs) (y:=q.2) (by omega) (by omega) ak.num bc.den
 have bl:=s3 (x:=q.1.natAbs) (y:=p.2) (by omega) (by omega) bc.num ak.den
 have Ch:0≤(p.1.natAbs:Int)*q.2:=Int.mul_nonneg (by omega) (by omega)
 have SG:0≤(q.1.natAbs:Int)*p.2:=Int.mul_nonneg (by omega) (by omega)
 have oU:((p.1*q.2).natAbs:Int)=(p.1.natAbs:Int)*q.2:=by
  rw [Int.natAbs_mul,Int.natCast_mul]
  congr 1
  omega
 have mc:((q.1*p.2).natAbs:Int)=(q.1.natAbs:Int)*p.2:=by
  rw [Int.natAbs_mul,Int.natCast_mul]
  congr 1
  omega
 have e1:hI (mk p).fp.cC (mk q).hq=some (L ((p.1.natAbs:Int)*q.2)):=by
  show hI (L p.1.natAbs) (L q.2)=_
  rw [mul_eq (ha _) (ha _) (by omega) (by omega),ej (by omega),ej (by omega)]
 have aD:hI (mk q).fp.cC (mk p).hq=some (L ((q.1.natAbs:Int)*p.2)):=by
  show hI (L q.1.natAbs) (L p.2)=_
  rw [mul_eq (ha _) (ha _) (by omega) (by omega),ej (by omega),ej (by omega)]
 have bS:hM (mk p).fp.cN (L ((p.1.natAbs:Int)*q.2))=some (gX (p.1*q.2)):=by
  show hM (decide (p.1<0)) _=_
  rw [pT Ch ((iX Ch).1 (by omega)),Ao]
 have da:hM (mk q).fp.cN (L ((q.1.natAbs:Int)*p.2))=some (gX (q.1*p.2)):=by
  show hM (decide (q.1<0)) _=_
  rw [pT SG ((iX SG).1 (by omega)),Ao]
 unfold uq
 rw [e1,Option.bind_eq_bind,Option.bind_some,bS,Option.bind_eq_bind,Option.bind_some,aD,Option.bind_eq_bind,Option.bind_some,da,Option.bind_some,Zx (by rw [oU];omega) (by rw [mc];omega)]
 rfl
theorem Kx {a d:Int}(bJ:0≤d):((a*d).natAbs:Int)=(a.natAbs:Int)*d:=by
 rw [Int.natAbs_mul,Int.natCast_mul]
 congr 1
 omega
theorem pS (n bV aq:Int):mE n bV aq=some (decide (bV≤n∧n≤aq)):=by
 unfold mE
 by_cases h:bV≤n<;>simp [h]
theorem Ds {α β:Type}{t:Nat→α→Option β}: ∀(l:List α) (k:Nat),(∀n x,l[n]? = some x→t (k+n) x=none)→scan t k l=none
 | [],_,_=>rfl
 | x::l,k,h=>by
  have h0:=h 0 x rfl
  simp only [Nat.add_zero] at h0
  simp only [scan,h0]
  exact Ds l (k+1) fun n y a3=>by rw [show k+1+n=k+(n+1) by omega];exact h (n+1) y (by simpa using a3)
theorem Yh (l:List Int)(h:l.length≤1048576):zY l l=some true:=by
 have h1:Je l l 0=some (.inl ()):=by
  have:=Dq (f:=fun w=>wU l l w) (t:=fun _ _=>none) (e:= .inl ()) l 0 (fun n x U=>by
   have a4:=fT U
   have hw:R ((n:Int)+1)=((n+1:Nat):Int):=by rw [cy (by omega) (by omega)];rfl
   simp only [wU,e5,Nat.zero_add,hw]
   simp [a4]) (by simp [wU,e5])
  rw [Ds l 0 (fun _ _ _=>rfl)] at this
  exact this
 simp [zY,h1]
theorem XW (j:bD):zQ j j=some true:=by simp [zQ]
theorem XA (j:bP):zH j j=some true:=by simp [zH]
theorem XB (l:List bD)(h:l.length≤1048576):zG l l=some true:=by
 have h1:II l l 0=some (.inl ()):=by
  have:=Dq (f:=fun w=>wz l l w) (t:=fun _ _=>none) (e:= .inl ()) l 0 (fun n x U=>by
   have a4:=fT U
   have hw:R ((n:Int)+1)=((n+1:Nat):Int):=by rw [cy (by omega) (by omega)];rfl
   simp only [wz,e5,Nat.zero_add,hw]
   simp [a4,XW]) (by simp [wz,e5])
  rw [Ds l 0 (fun _ _ _=>rfl)] at this
  exact this
 simp [zG,h1]
theorem Xo (l:List bP)(h:l.length≤1048576):zr l l=some true:=by
 have h1:It l l 0=some (.inl ()):=by
  have:=Dq (f:=fun w=>wq l l w) (t:=fun _ _=>none) (e:= .inl ()) l 0 (fun n x U=>by
   have a4:=fT U
   have hw:R ((n:Int)+1)=((n+1:Nat):Int):=by rw [cy (by omega) (by omega)];rfl
   simp only [wq,e5,Nat.zero_add,hw]
   simp [a4,XA]) (by simp [wq,e5])
  rw [Ds l 0 (fun _ _ _=>rfl)] at this
  exact this
 simp [zr,h1]
theorem WM (s:ct)(h1:s.bZ.length≤1048576)(o:s.bB.length≤1048576):ze s s=some true:=by
 simp [ze,XB _ h1,Xo _ o]
theorem XX (j:bD)(left:Int)(aF:j.k9.size≤maxLen)(h0:0≤left)(h1:left≤1048576): ∃r,zJ j left=some r∧r≤left:=by
 have hm:j.k9.size<9223372036854775808:=by have:maxLen=9223372036854775807:=by decide
                                           omega
 have hw:R (left-j.k9.size)=left-j.k9.size:=cy (by omega) (by omega)
 unfold zJ
 rw [hw]
 by_cases h:left-(j.k9.size:Int)<0
 ·exact ⟨-1,by simp [h],by omega⟩
 ·exact ⟨left-j.k9.size,by simp [h],by omega⟩
theorem XC (l:List bD)(left:Int)(aT:l.length≤maxLen)(aF:∀j∈l,j.k9.size≤maxLen)(h0:0≤left)(h1:left≤1048576):
 ∃r,zs l left=some r∧r≤left∧(0≤r→l.length≤1048576):=by
 have hm:maxLen=9223372036854775807:=by decide
 have hw:R (left-(l.length:Nat))=left-(l.length:Nat):=cy (by omega) (by omega)
 unfold zs
 simp only [e5,hw]
 by_cases h:left-(l.length:Int)<0
 ·exact ⟨-1,by simp [h],by omega,by omega⟩
 ·obtain ⟨r,r1,b1⟩:=jC (f:=fun w:Int×Int=>tN l w.1 w.2) (fun w=>0≤w.1∧w.1≤left∧0≤w.2∧w.2≤l.length) (fun w=>(l.length-w.2).toNat)
   (fun r=>match r with | .inl a=>a≤left | .inr _=>True) (fun w hw=>by
     obtain ⟨a,i⟩:=w
     simp only at hw
     obtain ⟨kh,pI,tG,SH⟩:=hw
     by_cases aq:i<l.length
     ·obtain ⟨x,U⟩ : ∃x,l[i.toNat]? = some x:=⟨_,List.getElem?_eq_getElem (by omega)⟩
      obtain ⟨r,s1,s2⟩:=XX x a (aF x (List.mem_of_getElem? U)) kh (by omega)
      obtain ⟨a4,rfl⟩:=List.getElem?_eq_some_iff.1 U
      have BF:R (i+1)=i+1:=cy (by omega) (by omega)
      by_cases ar:r<0
      ·right
       exact ⟨.inr (),by simp [tN,e5,aq,tG,U,s1,ar],trivial⟩
      ·left
       refine ⟨(r,i+1),by simp [tN,e5,aq,tG,U,s1,ar,BF],?_,?_⟩
       ·simp only;omega
       ·simp only;omega
     ·right
      exact ⟨.inl a,by simp [tN,e5,aq],by simpa using pI⟩) (left-(l.length:Nat),0) (by simp only;omega)
  have EO:Iv l (left-(l.length:Nat)) 0=some r:=r1
  rw [EO]
  cases r with
  | inl a=>exact ⟨a,by simp [h],b1,by omega⟩
  | inr a=>exact ⟨-1,by simp [h],by omega,by omega⟩
theorem Xp (l:List bP)(left:Int)(aT:l.length≤maxLen)(h0:0≤left)(h1:left≤1048576):
 ∃r,zl l left=some r∧r≤left∧(0≤r→l.length≤1048576):=by
 have hm:maxLen=9223372036854775807:=by decide
 have hw:R (left-(l.length:Nat))=left-(l.length:Nat):=cy (by omega) (by omega)
 unfold zl
 simp only [e5,hw]
 by_cases h:left-(l.length:Int)<0
 ·exact ⟨-1,by simp [h],by omega,by omega⟩
 ·exact ⟨left-(l.length:Nat),by simp [h],by omega,by omega⟩
theorem WN (s:ct)(i0:jn s)(left:Int)(h0:0≤left)(h1:left≤1048576):
 ∃r,zb s left=some r∧(0≤r→s.bZ.length≤1048576∧s.bB.length≤1048576):=by
 obtain ⟨⟨gB,hx⟩,dn,fN⟩:=i0
 obtain ⟨r,r1,b1,bj⟩:=XC s.bZ left gB (fun j aF=>(hx j aF).1) h0 h1
 unfold zb
 rw [r1]
 by_cases h:r<0
 ·exact ⟨-1,by simp [h],by omega⟩
 ·obtain ⟨q,q1,a2,bO⟩:=Xp s.bB r dn (by omega) (by omega)
  by_cases bc:q<0
  ·exact ⟨-1,by simp [h,q1,bc],by omega⟩
  ·exact ⟨q,by simp [h,q1,bc],fun _=>⟨bj (by omega),bO (by omega)⟩⟩
theorem xu:maxLen=9223372036854775807:=by decide
theorem YR (n:Int):xg n=mE n (-50) 50:=by
 rw [pS]
 unfold xg
 by_cases h : -50≤n<;>simp [h]
theorem Yi (c:Int):zD c=some (decide (97≤c∧c≤122)):=by
 unfold zD
 by_cases h:97≤c<;>simp [h]
theorem YS (c:Int):zL c=some (decide (48≤c∧c≤57)):=by
 unfold zL
 by_cases h:48≤c<;>simp [h]
theorem Yj (s:ByteArray)(i:Int):y7 s s.size i=sI s i:=by
 unfold y7 sI
 generalize ((s.data.toList.getD i.toNat 0).toNat:Int)=c
 simp only [Yi,YS,Option.bind_eq_bind,Option.bind_some]
 by_cases h1:i<(s.size:Int)<;>by_cases h0:0≤i<;>by_cases a:(97:Int)≤c<;>by_cases b:c≤122<;>by_cases d:i=0<;>by_cases e:c<48<;>by_cases f:57<c <;>
  simp [h1,h0,a,b,d,e,f,Int.not_lt.1,Int.not_le]<;>omega
theorem ZB (s:ByteArray):zV s=sO s:=by
 have h:C0 s s.size 0=zm s 0:=by
  unfold C0 zm
  congr 1
  funext w
  exact Yj s w
 unfold zV sO
 rw [h]
 congr 1
 funext r
 cases r with
 | inr a=>rfl
 | inl a =>
  simp only [pS,Option.bind_eq_bind,Option.bind_some]
  by_cases h0:s.size=0
  ·have:s=⟨#[]⟩:=by
    cases s with
    | mk d=>simp only [ByteArray.size] at h0;rw [Array.size_eq_zero_iff] at h0;rw [h0]
   subst this
   have e0:(ByteArray.mk #[]).size=0:=rfl
   simp [e0]
  ·have dr:s.toList≠(⟨#[]⟩:ByteArray).toList:=by
    intro e
    have aT : ∀x:ByteArray,x.toList.length=x.size:=by intro x;rw [ByteArray.toList_eq];rfl
    have:=aT s
    rw [e,aT] at this
    exact h0 this.symm
   simp only [beq_iff_eq,dr,Bool.not_eq_true',beq_eq_false_iff_ne,ne_eq,not_false_eq_true,if_true]
   congr 1
   apply decide_eq_decide.2
   omega
theorem Yk (s:ByteArray)(b0:s.size≤maxLen): ∃r,sO s=some r:=by
 have hm:=xu
 obtain ⟨r,h,-⟩:=jC (f:=fun w=>sI s w) (fun i=>0≤i∧i≤s.size) (fun i=>(s.size-i).toNat) (fun _=>True) (fun i aq=>by
  obtain ⟨h0,h1⟩:=aq
  by_cases o:i<(s.size:Int)
  ·have hw:R (i+1)=i+1:=cy (by omega) (by omega)
   unfold sI
   generalize ((s.data.toList.getD i.toNat 0).toNat:Int)=c
   have ab5:0≤i+1∧i+1≤(s.size:Int):=by omega
   have l8:((s.size:Int)-(i+1)).toNat<((s.size:Int)-i).toNat:=by omega
   have key : ∀x:Option (Int⊕(Unit⊕Unit)),(x=some (.inl (i+1))∨x=some (.inr (.inr ())))→(∃dB,x=some (.inl dB)∧(0≤dB∧dB≤(s.size:Int))∧((s.size:Int)-dB).toNat<((s.size:Int)-i).toNat)∨ ∃r,x=some (.inr r)∧True:=by
    intro x U
    rcases U with U|U
    ·exact .inl ⟨i+1,U,ab5,l8⟩
    ·exact .inr ⟨_,U,trivial⟩
   apply key
   simp only [o,h0,hw,decide_true,if_true,and_self]
   by_cases a:(97:Int)≤c<;>by_cases b:c≤122<;>by_cases d:i=0<;>by_cases e:c<48<;>by_cases f:57<c<;>simp [a,b,d,e,f]
  ·exact .inr ⟨.inl (),by simp [sI,o],trivial⟩) 0 (by omega)
 have cD:zm s 0=some r:=h
 unfold sO
 rw [cD]
 cases r with
 | inl a=>exact ⟨_,by simp [pS];rfl⟩
 | inr a=>exact ⟨_,rfl⟩
end Go.Proofs.YtamedijmgkdlgabGreat
namespace Go.Proofs.YtamedijmgkdlgabGreat
set_option linter.unusedVariables false
set_option linter.unusedSimpArgs false
open Go Go.VL
theorem YT (j:bD):zM j=pe j:=by
 unfold zM pe
 simp only [ZB,YR]
theorem NV (j:bD)(h:j.k9.size≤maxLen): ∃r,pe j=some r:=by
 obtain ⟨r,ar⟩:=Yk _ h
 unfold pe
 simp only [ar,pS,Option.bind_eq_bind,Option.bind_some]
 repeat' split
 all_goals exact ⟨_,rfl⟩
theorem XD (s:ct)(n:ByteArray):zk s n=ua s n:=by
 have h:Cl s.bZ n (len_ bL s.bZ) 0=wV n s.bZ (len_ bL s.bZ) 0:=by
  unfold Cl wV
  congr 1
 unfold zk ua Cp
 rw [h]
 cases wV n s.bZ (len_ bL s.bZ) 0 with
 | none=>rfl
 | some r=>cases r<;>rfl
theorem Nz (s:ct)(n:ByteArray)(h:s.bZ.length≤maxLen): ∃r,ua s n=some r:=by
 have hm:=xu
 obtain ⟨r,h1,-⟩:=jC (f:=fun w=>v9 n s.bZ (len_ bL s.bZ) w) (fun i=>0≤i∧i≤s.bZ.length) (fun i=>(s.bZ.length-i).toNat) (fun _=>True) (fun i aq=>by
  obtain ⟨h0,h1⟩:=aq
  by_cases o:i<(s.bZ.length:Int)
  ·have hw:R (i+1)=i+1:=cy (by omega) (by omega)
   obtain ⟨x,U⟩ : ∃x,s.bZ[i.toNat]? = some x:=⟨_,List.getElem?_eq_getElem (by omega)⟩
   unfold v9
   simp only [e5,o,h0,hw,U,decide_true,if_true,and_self,Option.bind_eq_bind,Option.bind_some]
   by_cases e:(x.k9.toList == n.toList)=true
   ·exact .inr ⟨_,by rw [if_pos e],trivial⟩
   ·exact .inl ⟨i+1,by rw [if_neg e],by omega,by omega⟩
  ·exact .inr ⟨.inl (),by simp [v9,e5,o],trivial⟩) 0 (by omega)
 have cD:wV n s.bZ (len_ bL s.bZ) 0=some r:=h1
 unfold ua
 rw [cD]
 cases r with
 | inl a=>exact ⟨_,rfl⟩
 | inr a=>exact ⟨_,rfl⟩
theorem NA (s:ct):CE s.bZ (len_ bL s.bZ) s.bB 0=q6 s.bZ (len_ bL s.bZ) s.bB 0:=by
 unfold CE q6
 congr 1
 funext w
 unfold Cu q5
 simp only [YT,XD]
theorem Iu (s:ct)(i0:jn s): ∃r,q6 s.bZ (len_ bL s.bZ) s.bB 0=some r:=by
 have hm:=xu
 obtain ⟨⟨gB,hx⟩,-⟩:=i0
 obtain ⟨r,h1,-⟩:=jC (f:=fun w=>q5 s.bZ (len_ bL s.bZ) s.bB w) (fun i=>0≤i∧i≤s.bZ.length) (fun i=>(s.bZ.length-i).toNat) (fun _=>True) (fun i aq=>by
  obtain ⟨h0,h1⟩:=aq
  by_cases o:i<(s.bZ.length:Int)
  ·have hw:R (i+1)=i+1:=cy (by omega) (by omega)
   obtain ⟨x,U⟩ : ∃x,s.bZ[i.toNat]? = some x:=⟨_,List.getElem?_eq_getElem (by omega)⟩
   obtain ⟨p,ak⟩:=NV x (hx x (List.mem_of_getElem? U)).1
   obtain ⟨q,bc⟩:=Nz ⟨s.bZ,s.bB⟩ x.k9 gB
   unfold q5
   simp only [e5,o,h0,hw,U,ak,bc,decide_true,if_true,and_self,Option.bind_eq_bind,Option.bind_some]
   by_cases e:p=true
   ·rw [if_pos e]
    by_cases aD:(q != i)=true
    ·exact .inr ⟨_,by rw [if_pos aD],trivial⟩
    ·exact .inl ⟨i+1,by rw [if_neg aD],by omega,by omega⟩
   ·exact .inr ⟨_,by rw [if_neg e],trivial⟩
  ·exact .inr ⟨.inl (),by simp [q5,e5,o],trivial⟩) 0 (by omega)
 exact ⟨r,h1⟩
def qs (gU:List bD)(m:bP):Bool :=
 decide (0≤m.dI∧m.dI<gU.length∧0≤m.el∧m.el<gU.length∧1≤m.iY∧m.iY≤3) &&
 match gU[m.dI.toNat]?,gU[m.el.toNat]? with
 | some a,some b=> !(a.j2 == b.j2 && a.j3 == b.j3) && !(a.k6 && b.k6)
 | _,_=>false
theorem Df (s:ct)(m:bP):yV s m=some (qs s.bZ m):=by
 unfold yV qs
 simp only [e5]
 by_cases h1:m.dI<0
 ·simp [h1];omega
 by_cases o:(s.bZ.length:Int)≤m.dI
 ·simp [h1,o];omega
 by_cases ab:m.el<0
 ·simp [h1,o,ab];omega
 by_cases av:(s.bZ.length:Int)≤m.el
 ·simp [h1,o,ab,av];omega
 by_cases az:m.iY<1
 ·simp [h1,o,ab,av,az];omega
 by_cases aZ:3<m.iY
 ·simp [h1,o,ab,av,az,aZ];omega
 obtain ⟨x,U⟩ : ∃x,s.bZ[m.dI.toNat]? = some x:=⟨_,List.getElem?_eq_getElem (by omega)⟩
 obtain ⟨y,a3⟩ : ∃y,s.bZ[m.el.toNat]? = some y:=⟨_,List.getElem?_eq_getElem (by omega)⟩
 have bu:0≤m.dI∧m.dI<s.bZ.length:=by omega
 have cg:0≤m.el∧m.el<s.bZ.length:=by omega
 have jk:0≤m.dI∧m.dI<s.bZ.length∧0≤m.el∧m.el<s.bZ.length∧1≤m.iY∧m.iY≤3:=by omega
 rw [decide_eq_false h1,decide_eq_false o,decide_eq_false ab,decide_eq_false av,decide_eq_false az,decide_eq_false aZ,decide_eq_true jk,if_pos bu,U]
 simp only [Bool.false_eq_true,if_false,Option.bind_eq_bind,Option.bind_some,Bool.true_and]
 rw [if_pos cg,a3]
 simp only [Option.bind_some]
 by_cases e1:x.j2=y.j2<;>by_cases aD:x.j3=y.j3<;>by_cases yG:x.k6=true<;>by_cases B0:y.k6=true<;>simp [e1,aD,yG,B0]
theorem NJ (gU:List bD)(d6:List bP)(aF:gU.length≤6)(Eg:d6.length≤8)(i:Int):
 yU (R (len_ bL gU-1)) d6 (len_ bU d6) gU i =
 (nQ d6 gU d6 (len_ bU d6) i).map (Sum.map id (Sum.map id fun _=>())):=by
 have hw:R ((gU.length:Nat)-1)=(gU.length:Nat)-1:=cy (by omega) (by omega)
 unfold yU nQ tX
 simp only [e5,hw,Df,pS,Option.bind_eq_bind,Option.bind_some]
 by_cases h1:i<(d6.length:Int)
 ·by_cases h0:0≤i
  ·obtain ⟨m,hm⟩ : ∃x,d6[i.toNat]? = some x:=⟨_,List.getElem?_eq_getElem (by omega)⟩
   simp only [h1,h0,hm,decide_true,if_true,and_self,Option.bind_some]
   unfold qs
   by_cases hA:0≤m.dI∧m.dI≤(gU.length:Int)-1
   ·by_cases g9:0≤m.el∧m.el≤(gU.length:Int)-1
    ·by_cases hD:1≤m.iY∧m.iY≤3
     ·obtain ⟨x,U⟩ : ∃x,gU[m.dI.toNat]? = some x:=⟨_,List.getElem?_eq_getElem (by omega)⟩
      obtain ⟨y,a3⟩ : ∃y,gU[m.el.toNat]? = some y:=⟨_,List.getElem?_eq_getElem (by omega)⟩
      have bu:0≤m.dI∧m.dI<gU.length:=by omega
      have cg:0≤m.el∧m.el<gU.length:=by omega
      have jk:0≤m.dI∧m.dI<gU.length∧0≤m.el∧m.el<gU.length∧1≤m.iY∧m.iY≤3:=by omega
      rw [decide_eq_true hA,decide_eq_true g9,decide_eq_true hD,decide_eq_true jk]
      simp only [if_true,Option.bind_some,Bool.true_and]
      rw [if_pos bu,U]
      simp only [Option.bind_some]
      rw [if_pos cg,a3]
      simp only [Option.bind_some]
      by_cases e1:x.j2=y.j2<;>by_cases aD:x.j3=y.j3<;>by_cases yG:x.k6=true<;>by_cases B0:y.k6=true<;>simp [e1,aD,yG,B0]
     ·have jk : ¬(0≤m.dI∧m.dI<gU.length∧0≤m.el∧m.el<gU.length∧1≤m.iY∧m.iY≤3):=by omega
      rw [decide_eq_true hA,decide_eq_true g9,decide_eq_false hD,decide_eq_false jk]
      simp
    ·have jk : ¬(0≤m.dI∧m.dI<gU.length∧0≤m.el∧m.el<gU.length∧1≤m.iY∧m.iY≤3):=by omega
     rw [decide_eq_true hA,decide_eq_false g9,decide_eq_false jk]
     simp
   ·have jk : ¬(0≤m.dI∧m.dI<gU.length∧0≤m.el∧m.el<gU.length∧1≤m.iY∧m.iY≤3):=by omega
    rw [decide_eq_false hA,decide_eq_false jk]
    simp
  ·simp [h1,h0]
 ·simp [h1]
theorem Nb (gU:List bD)(d6:List bP)(Eg:d6.length≤8): ∃r,tJ d6 gU d6 (len_ bU d6) 0=some r∧ ∀k,r = .inr k→0≤k:=by
 exact jC (f:=fun w=>nQ d6 gU d6 (len_ bU d6) w) (fun i=>0≤i∧i≤d6.length) (fun i=>(d6.length-i).toNat) (fun r=> ∀k,r = .inr k→0≤k) (fun i aq=>by
  obtain ⟨h0,h1⟩:=aq
  by_cases o:i<(d6.length:Int)
  ·have hw:R (i+1)=i+1:=cy (by omega) (by omega)
   obtain ⟨x,U⟩ : ∃x,d6[i.toNat]? = some x:=⟨_,List.getElem?_eq_getElem (by omega)⟩
   unfold nQ tX
   simp only [e5,o,h0,hw,U,Df,decide_true,if_true,and_self,Option.bind_eq_bind,Option.bind_some]
   by_cases e:(!qs gU x)=true
   ·exact .inr ⟨_,by rw [if_pos e],by intro k a8;simp at a8;omega⟩
   ·exact .inl ⟨i+1,by rw [if_neg e],by omega,by omega⟩
  ·exact .inr ⟨.inl (),by simp [nQ,e5,o],by intro k a8;simp at a8⟩) 0 (by omega)
theorem Nq (s:ct)(i0:jn s): ∃r,j5 s=some r∧w3 s=some r:=by
 unfold j5 w3
 by_cases h1:6<(s.bZ.length:Int)
 ·exact ⟨false,by simp [e5,h1],by simp [e5,h1]⟩
 by_cases o:8<(s.bB.length:Int)
 ·exact ⟨false,by simp [e5,h1,o],by simp [e5,h1,o]⟩
 obtain ⟨r,ar⟩:=Iu s i0
 rw [NA,ar]
 obtain ⟨q,bc,lP⟩:=Nb s.bZ s.bB (by omega)
 have LX:CB (R (len_ bL s.bZ-1)) s.bB (len_ bU s.bB) s.bZ 0=some (Sum.map id (fun _=>()) q) :=
  Pp (f:=fun w=>nQ s.bB s.bZ s.bB (len_ bU s.bB) w) (Sum.map id fun _=>()) (fun _=>True) (fun _ _ _ _=>trivial)
   (fun i _=>NJ s.bZ s.bB (by omega) (by omega) i) 0 q bc trivial
 simp only [yO,yQ,bc,LX,Option.bind_eq_bind,Option.bind_some]
 have d1:decide ((6:Int)<len_ bL s.bZ)=false:=by rw [e5];exact decide_eq_false h1
 have d2:decide ((8:Int)<len_ bU s.bB)=false:=by rw [e5];exact decide_eq_false o
 rw [d1,d2]
 simp only [Bool.false_eq_true,if_false]
 cases r with
 | inr a=>exact ⟨false,rfl,rfl⟩
 | inl a =>
  cases q with
  | inl b=>exact ⟨true,rfl,by simp⟩
  | inr k =>
   have:=lP k rfl
   exact ⟨false,rfl,by simp [this]⟩
theorem NK (j:bD)(h:pe j=some true): -50≤j.j2∧j.j2≤50∧ -50≤j.j3∧j.j3≤50:=by
 unfold pe at h
 cases a4:sO j.k9 with
 | none=>simp [a4] at h
 | some r =>
  simp only [a4,pS,Option.bind_eq_bind,Option.bind_some] at h
  cases r with
  | false=>simp at h
  | true =>
   by_cases a : -50≤j.j2∧j.j2≤50
   ·by_cases b : -50≤j.j3∧j.j3≤50
    ·omega
    ·simp [a,b] at h
   ·simp [a] at h
theorem ZC (s:ct)(i0:jn s)(h:q6 s.bZ (len_ bL s.bZ) s.bB 0=some (.inl ())): ∀(n:Nat) j,s.bZ[n]? = some j→pe j=some true:=by
 have hm:=xu
 obtain ⟨⟨gB,hx⟩,-⟩:=i0
 obtain ⟨r,h1,o⟩:=jC (f:=fun w=>q5 s.bZ (len_ bL s.bZ) s.bB w) (fun i=>0≤i∧i≤s.bZ.length∧ ∀(n:Nat) j,(n:Int)<i→s.bZ[n]? = some j→pe j=some true) (fun i=>(s.bZ.length-i).toNat)
  (fun r=>r = .inl ()→ ∀(n:Nat) j,s.bZ[n]? = some j→pe j=some true) (fun i aq=>by
  obtain ⟨h0,h1,ab⟩:=aq
  by_cases o:i<(s.bZ.length:Int)
  ·have hw:R (i+1)=i+1:=cy (by omega) (by omega)
   obtain ⟨x,U⟩ : ∃x,s.bZ[i.toNat]? = some x:=⟨_,List.getElem?_eq_getElem (by omega)⟩
   obtain ⟨p,ak⟩:=NV x (hx x (List.mem_of_getElem? U)).1
   obtain ⟨q,bc⟩:=Nz ⟨s.bZ,s.bB⟩ x.k9 gB
   unfold q5
   simp only [e5,o,h0,hw,U,ak,bc,decide_true,if_true,and_self,Option.bind_eq_bind,Option.bind_some]
   by_cases e:p=true
   ·rw [if_pos e]
    by_cases aD:(q != i)=true
    ·exact .inr ⟨_,by rw [if_pos aD],by simp⟩
    ·refine .inl ⟨i+1,by rw [if_neg aD],⟨by omega,by omega,fun n j a4 aF=> ?_⟩,by omega⟩
     by_cases c:(n:Int)<i
     ·exact ab n j c aF
     ·have:n=i.toNat:=by omega
      subst this
      rw [U] at aF
      obtain rfl:=Option.some.inj aF
      rw [ak,e]
   ·exact .inr ⟨_,by rw [if_neg e],by simp⟩
  ·refine .inr ⟨.inl (),by simp [q5,e5,o],fun _ n j aF=>ab n j (by have:=fT aF;omega) aF⟩) 0 ⟨by omega,by omega,fun n j a4=>by omega⟩
 have p9:q6 s.bZ (len_ bL s.bZ) s.bB 0=some r:=h1
 rw [h] at p9
 exact o (Option.some.inj p9).symm
theorem YU (gU:List bD)(d6:List bP)(Eg:d6.length≤8)(h:tJ d6 gU d6 (len_ bU d6) 0=some (.inl ())): ∀(n:Nat) m,d6[n]? = some m→qs gU m=true:=by
 obtain ⟨r,h1,o⟩:=jC (f:=fun w=>nQ d6 gU d6 (len_ bU d6) w) (fun i=>0≤i∧i≤d6.length∧ ∀(n:Nat) m,(n:Int)<i→d6[n]? = some m→qs gU m=true) (fun i=>(d6.length-i).toNat)
  (fun r=>r = .inl ()→ ∀(n:Nat) m,d6[n]? = some m→qs gU m=true) (fun i aq=>by
  obtain ⟨h0,h1,ab⟩:=aq
  by_cases o:i<(d6.length:Int)
  ·have hw:R (i+1)=i+1:=cy (by omega) (by omega)
   obtain ⟨x,U⟩ : ∃x,d6[i.toNat]? = some x:=⟨_,List.getElem?_eq_getElem (by omega)⟩
   unfold nQ tX
   simp only [e5,o,h0,hw,U,Df,decide_true,if_true,and_self,Option.bind_eq_bind,Option.bind_some]
   by_cases e:(!qs gU x)=true
   ·exact .inr ⟨_,by rw [if_pos e],by simp⟩
   ·refine .inl ⟨i+1,by rw [if_neg e],⟨by omega,by omega,fun n j a4 aF=> ?_⟩,by omega⟩
    by_cases c:(n:Int)<i
    ·exact ab n j c aF
    ·have:n=i.toNat:=by omega
     subst this
     rw [U] at aF
     obtain rfl:=Option.some.inj aF
     simpa using e
  ·refine .inr ⟨.inl (),by simp [nQ,e5,o],fun _ n j aF=>ab n j (by have:=fT aF;omega) aF⟩) 0 ⟨by omega,by omega,fun n j a4=>by omega⟩
 have p9:tJ d6 gU d6 (len_ bU d6) 0=some r:=h1
 rw [h] at p9
 exact o (Option.some.inj p9).symm
theorem nR (s:ct)(i0:jn s)(h:j5 s=some true):
 (∀(n:Nat) j,s.bZ[n]? = some j→pe j=some true)∧(∀(n:Nat) m,s.bB[n]? = some m→qs s.bZ m=true)∧s.bZ.length≤6∧s.bB.length≤8:=by
 obtain ⟨p,p1,hi⟩:=Nq s i0
 rw [h] at p1
 obtain rfl:=Option.some.inj p1
 unfold w3 at hi
 by_cases h1:6<(s.bZ.length:Int)
 ·simp [e5,h1] at hi
 by_cases o:8<(s.bB.length:Int)
 ·simp [e5,h1,o] at hi
 obtain ⟨r,ar⟩:=Iu s i0
 rw [NA,ar] at hi
 obtain ⟨q,bc,lP⟩:=Nb s.bZ s.bB (by omega)
 have d1:decide ((6:Int)<len_ bL s.bZ)=false:=by rw [e5];exact decide_eq_false h1
 have d2:decide ((8:Int)<len_ bU s.bB)=false:=by rw [e5];exact decide_eq_false o
 rw [d1,d2] at hi
 simp only [yO,yQ,bc,Bool.false_eq_true,if_false,Option.bind_eq_bind,Option.bind_some] at hi
 cases r with
 | inr a=>simp at hi
 | inl a =>
  cases q with
  | inr k =>
   have:=lP k rfl
   simp [this] at hi
  | inl b=>exact ⟨ZC s i0 ar,YU s.bZ s.bB (by omega) bc,by omega,by omega⟩
theorem ZD (s:ct)(i0:jn s)(h:j5 s=some true)(k:Int)(h0:0≤k)(h1:k<s.bB.length):
 ∃x y,tR s k=some (x,y)∧w7 s k=some (x,y)∧(-100≤x∧x≤100)∧(-100≤y∧y≤100):=by
 obtain ⟨f1,f2,f3,f4⟩:=nR s i0 h
 obtain ⟨m,hm⟩ : ∃x,s.bB[k.toNat]? = some x:=⟨_,List.getElem?_eq_getElem (by omega)⟩
 have LY:=f2 _ m hm
 unfold qs at LY
 simp only [Bool.and_eq_true,decide_eq_true_eq] at LY
 obtain ⟨⟨g1,g2,g3,g4,-⟩,-⟩:=LY
 obtain ⟨a,bF⟩ : ∃x,s.bZ[m.dI.toNat]? = some x:=⟨_,List.getElem?_eq_getElem (by omega)⟩
 obtain ⟨b,aS⟩ : ∃x,s.bZ[m.el.toNat]? = some x:=⟨_,List.getElem?_eq_getElem (by omega)⟩
 have agt:=NK a (f1 _ a bF)
 have agu:=NK b (f1 _ b aS)
 have e1:R (b.j2-a.j2)=b.j2-a.j2:=cy (by omega) (by omega)
 have aD:R (b.j3-a.j3)=b.j3-a.j3:=cy (by omega) (by omega)
 have di:0≤k∧k<s.bB.length:=⟨h0,h1⟩
 have bu:0≤m.dI∧m.dI<s.bZ.length:=⟨g1,g2⟩
 have cg:0≤m.el∧m.el<s.bZ.length:=⟨g3,g4⟩
 refine ⟨b.j2-a.j2,b.j3-a.j3,?_,?_,by omega,by omega⟩
 ·unfold tR
  simp only [if_pos di,hm,if_pos bu,if_pos cg,bF,aS,Option.bind_eq_bind,Option.bind_some,e1,aD]
 ·unfold w7
  simp only [if_pos di,hm,if_pos bu,if_pos cg,bF,aS,Option.bind_eq_bind,Option.bind_some,e1,aD]
def rC (l:List Int)(n:Nat)(x:Int):Prop:=0≤x∧x<1000000000∧(∀z,l[n]? = some z→x=z)∧(l[n]? = none→x=0)
theorem uS {l:List Int}(h:cu l){n:Nat}(a4:n<l.length):rC l n l[n]:=by
 have U:=List.getElem?_eq_getElem a4
 have h0:=h.get U
 exact ⟨h0.1,h0.2,fun z cv=>by rw [U] at cv;exact Option.some.inj cv,fun h=>by rw [U] at h;simp at h⟩
theorem xS {l:List Int}{n:Nat}(a4:¬n<l.length):rC l n 0:=by
 have U:l[n]? = none:=by simp;omega
 exact ⟨by omega,by omega,fun z cv=>by rw [U] at cv;simp at cv,fun _=>rfl⟩
theorem rC.take {l:List Int}{n:Nat}{x:Int}(h:rC l n x):V (l.take (n+1))=V (l.take n)+B n*x:=Pw h.2.2.1 h.2.2.2
theorem aap {a b row:List Int}{carry:Int}{n:Nat}(bF:cu a)(aS:cu b)(bf:carry=0∨carry=1)(qP:a.length≤1000000)(LZ:b.length≤1000000)(ar:row.length≤1000001)(El:n≤1000001)(a4:n<a.length∨n<b.length∨carry=1):
 ∃x y,rC a n x∧rC b n y∧tT a b carry n row=some (.inl ((carry+x+y) / 1000000000,((n+1:Nat):Int),row++[(carry+x+y) % 1000000000])):=by
 have mo:0≤carry∧carry≤1:=by omega
 unfold tT
 simp only [fO]
 by_cases h1:n<a.length
 ·have hA:=uS bF h1
  have U:=List.getElem?_eq_getElem h1
  rw [if_pos (by simp;omega),if_pos (by omega),Int.toNat_natCast,U]
  simp only [Option.bind_eq_bind,Option.bind_some]
  by_cases o:n<b.length
  ·have g9:=uS aS o
   have a3:=List.getElem?_eq_getElem o
   have gB:=hA.1
   have hx:=hA.2.1
   have i3:=g9.1
   have kr:=g9.2.1
   refine ⟨a[n],b[n],hA,g9,?_⟩
   rw [if_pos (by simp;omega),if_pos (by omega),a3]
   simp only [Option.bind_some]
   rw [cy (x:=carry+a[n]) (by omega) (by omega),cy (x:=carry+a[n]+b[n]) (by omega) (by omega),pH (by omega),m2 (by omega),cy (by omega) (by omega),ny (n:=n) (by omega),if_pos (by simp;omega)]
  ·have gB:=hA.1
   have hx:=hA.2.1
   refine ⟨a[n],0,hA,xS o,?_⟩
   rw [if_neg (by simp;omega),cy (x:=carry+a[n]) (by omega) (by omega),pH (by omega),m2 (by omega),cy (by omega) (by omega),ny (n:=n) (by omega),if_pos (by simp;omega),Int.add_zero]
 ·rw [if_neg (by simp;omega)]
  by_cases o:n<b.length
  ·have g9:=uS aS o
   have a3:=List.getElem?_eq_getElem o
   have i3:=g9.1
   have kr:=g9.2.1
   refine ⟨0,b[n],xS h1,g9,?_⟩
   rw [if_pos (by simp;omega),if_pos (by omega),Int.toNat_natCast,a3]
   simp only [Option.bind_eq_bind,Option.bind_some]
   rw [cy (x:=carry+b[n]) (by omega) (by omega),pH (by omega),m2 (by omega),cy (by omega) (by omega),ny (n:=n) (by omega),if_pos (by simp;omega),Int.add_zero]
  ·refine ⟨0,0,xS h1,xS o,?_⟩
   rw [if_neg (by simp;omega),if_pos (by simp;omega),pH (by omega),m2 (by omega),cy (by omega) (by omega),ny (n:=n) (by omega),if_pos (by simp;omega),Int.add_zero,Int.add_zero]
theorem aaq {a b:List Int}(bF:cu a)(aS:cu b)(qP:a.length≤900000)(LZ:b.length≤900000): ∃r,xj a b=some r∧cu r∧V r=V a+V b∧r.length≤a.length+b.length+1:=by
 obtain ⟨r,ar,h1,o,ab⟩:=jC (f:=fun w:Int×Int×List Int=>tT a b w.1 w.2.1 w.2.2) (eO:=fun w=> ∃n:Nat,w.2.1=n∧w.2.2.length=n∧(w.1=0∨w.1=1)∧cu w.2.2∧V w.2.2+w.1*B n=V (a.take n)+V (b.take n)∧(n≤a.length∨n≤b.length∨w.1=0)∧n≤a.length+b.length+1) (m:=fun w=>(a.length+b.length+2-w.2.1.toNat))
  (fun r=>cu r∧V r=V a+V b∧r.length≤a.length+b.length+1) (by
    rintro ⟨carry,ii,row⟩ ⟨n,e1,aD,bS,da,dl,dT,er⟩
    simp only at e1 aD bS da dl dT
    subst e1
    by_cases a4:n<a.length∨n<b.length∨carry=1
    ·obtain ⟨x,y,U,a3,qJ⟩:=aap (row:=row) bF aS bS (by omega) (by omega) (by omega) (by omega) a4
     have x0:=U.1
     have x1:=U.2.1
     have SI:=a3.1
     have mB:=a3.2.1
     have LQ:n≤a.length+b.length:=by omega
     refine .inl ⟨_,qJ,⟨n+1,rfl,by simp [aD],by simp only;omega,da.append (cu.cons (by omega) cu.nil),?_,?_,by omega⟩,by simp only;omega⟩
     ·simp only
      rw [uD,aD,l3,k5,AO,U.take,a3.take]
      have:=Int.mul_ediv_add_emod (carry+x+y) 1000000000
      generalize (carry+x+y) / 1000000000=u at *
      generalize (carry+x+y) % 1000000000=t at *
      have ch:t=carry+x+y-1000000000*u:=by omega
      rw [ch]
      grind
     ·simp only
      by_cases h:n+1≤a.length∨n+1≤b.length
      ·omega
      ·
       have agd : ¬n<a.length:=by omega
       have age : ¬n<b.length:=by omega
       have hL:x=0:=U.2.2.2 (by simp;omega)
       have iS:y=0:=a3.2.2.2 (by simp;omega)
       omega
    ·refine .inr ⟨row,?_,da,?_,by omega⟩
     ·unfold tT
      simp only [fO]
      rw [if_neg (by simp;omega),if_neg (by simp;omega),if_neg (by simp;omega)]
     ·have bf:carry=0:=by omega
      rw [bf,List.take_of_length_le (by omega),List.take_of_length_le (by omega)] at dl
      omega) (0,0,[]) ⟨0,rfl,rfl,.inl rfl,cu.nil,by simp [V],by omega,by omega⟩
 unfold xj I1
 rw [ar]
 exact ⟨r,rfl,h1,o,ab⟩
theorem ZE {neg:Bool}{r:List Int}(ar:cu r)(aT:r.length≤5000000)(qg:V r<B 60):hM neg r=some (gX (ee neg (V r))):=by
 have h0:=mF ar
 have:hM neg r=hM neg (L (V r)):=by
  unfold hM xi
  have hlen:=(iX h0).2 qg
  rw [ra ar aT,ra (ha _) (by omega),ej h0]
 rw [this,pT h0 qg]
theorem ZF {a b row:List Int}{carry:Int}{n:Nat}(bF:cu a)(aS:cu b)(bf:carry=0∨carry=1)(qP:a.length≤1000000)(a4:n<a.length)(ar:n<row.length):
 ∃x y,rC a n x∧rC b n y∧w1 a b a.length carry n row=some (.inl ((carry+x+y) / 1000000000,((n+1:Nat):Int),row.set n ((carry+x+y) % 1000000000))):=by
 have mo:0≤carry∧carry≤1:=by omega
 have hA:=uS bF a4
 have U:=List.getElem?_eq_getElem a4
 have gB:=hA.1
 have hx:=hA.2.1
 unfold w1
 simp only [fO]
 rw [if_pos (by simp;omega),if_pos (by omega),Int.toNat_natCast,U]
 simp only [Option.bind_eq_bind,Option.bind_some]
 by_cases o:n<b.length
 ·have g9:=uS aS o
  have a3:=List.getElem?_eq_getElem o
  have i3:=g9.1
  have kr:=g9.2.1
  refine ⟨a[n],b[n],hA,g9,?_⟩
  rw [if_pos (by simp;omega),if_pos (by omega),a3]
  simp only [Option.bind_some]
  rw [if_pos (by omega),if_pos (by omega),cy (x:=a[n]+carry) (by omega) (by omega),cy (x:=a[n]+carry+b[n]) (by omega) (by omega),pH (by omega),m2 (by omega),cy (by omega) (by omega),ny (n:=n) (by omega),Nat.zero_add,Int.add_comm a[n] carry]
 ·refine ⟨a[n],0,hA,xS o,?_⟩
  rw [if_neg (by simp;omega),if_pos (by omega),if_pos (by omega),cy (x:=a[n]+carry) (by omega) (by omega),pH (by omega),m2 (by omega),cy (by omega) (by omega),ny (n:=n) (by omega),Nat.zero_add,Int.add_zero,Int.add_comm a[n] carry]
theorem ZG {a b:List Int}(bF:cu a)(aS:cu b)(qP:a.length≤900000)(tr:b.length≤a.length):
 ∃r,zO a b a.length 0 0 (List.replicate (a.length+1) 0)=some r∧(r.1=0∨r.1=1)∧cu r.2∧r.2.length=a.length+1∧V r.2+r.1*B a.length=V a+V b∧r.2[a.length]? = some 0:=by
 refine jC (eO:=fun w:Int×Int×List Int=> ∃n:Nat,w.2.1=n∧n≤a.length∧(w.1=0∨w.1=1)∧cu w.2.2∧w.2.2.length=a.length+1∧V w.2.2+w.1*B n=V (a.take n)+V (b.take n)∧ ∀j,n≤j→j<a.length+1→w.2.2[j]? = some 0) (m:=fun w=>a.length-w.2.1.toNat) _ ?_ _ ⟨0,rfl,by omega,.inl rfl,cu.Lx _,by simp,by simp [V,KE],fun j _ h=>by simp [List.getElem?_replicate];omega⟩
 rintro ⟨carry,ii,row⟩ ⟨n,e1,aD,bS,da,dl,dT,er⟩
 simp only at e1 bS da dl dT er ⊢
 subst e1
 by_cases a4:n=a.length
 ·subst a4
  refine .inr ⟨(carry,row),by simp [w1],bS,da,dl,?_,er _ (Nat.le_refl _) (by omega)⟩
  rw [List.take_length,List.take_of_length_le tr] at dT
  exact dT
 ·obtain ⟨x,y,U,a3,qJ⟩:=ZF (row:=row) (n:=n) bF aS bS (by omega) (by omega) (by omega)
  have x0:=U.1
  have x1:=U.2.1
  have SI:=a3.1
  have mB:=a3.2.1
  refine .inl ⟨_,qJ,⟨n+1,rfl,by omega,by simp only;omega,da.set (by omega),by simpa using dl,?_,fun j h1 o=> ?_⟩,by simp only;omega⟩
  ·simp only
   rw [rp (er n (Nat.le_refl _) (by omega)),l3,U.take,a3.take]
   have:=Int.mul_ediv_add_emod (carry+x+y) 1000000000
   generalize (carry+x+y) / 1000000000=u at *
   generalize (carry+x+y) % 1000000000=t at *
   have ch:t=carry+x+y-1000000000*u:=by omega
   rw [ch]
   grind
  ·simp only
   rw [List.getElem?_set_ne (by omega)]
   exact er j (by omega) o
theorem O6 {a b:List Int}(bF:cu a)(aS:cu b)(qP:a.length≤900000)(tr:b.length≤a.length):
 (if 0≤(R ((len_ eI a)+(1:Int)))∧(8:Int)*(R ((len_ eI a)+(1:Int)))≤281474976710656∧(R ((len_ eI a)+(1:Int)))<9223372036854775808 then
   (zO a b (len_ eI a) 0 0 (List.replicate (R ((len_ eI a)+(1:Int))).toNat 0:List Int)).bind fun bj =>
   if 0≤(len_ eI a)∧(len_ eI a)<(bj.2.length:Nat) then
   if (0+(len_ eI a).toNat)<bj.2.length then
   (pQ (bj.2.set (0+(len_ eI a).toNat) bj.1)).bind fun cb=>some cb
   else none
   else none
   else none)=some (L (V a+V b)):=by
 obtain ⟨r,ar,h1,o,ab,av,az⟩:=ZG bF aS qP tr
 rw [fO,ny (by omega),if_pos (by omega),Int.toNat_natCast,ar,Option.bind_some,if_pos (by omega),Int.toNat_natCast,Nat.zero_add,if_pos (by omega)]
 have Bh:cu (r.2.set a.length r.1):=o.set (by omega)
 rw [xI Bh (by simp;omega),rp az,Option.bind_some]
 congr 2
 rw [← av]
 grind
theorem aa4 {a b:List Int}(bF:cu a)(aS:cu b)(qP:a.length≤900000)(LZ:b.length≤900000):xr a b=some (L (V a+V b)):=by
 unfold xr
 by_cases h:a.length<b.length
 ·rw [if_pos (by rw [fO,fO];simpa using h)]
  have:=O6 aS bF LZ (by omega)
  rw [Int.add_comm (V a)]
  exact this
 ·rw [if_neg (by rw [fO,fO];simpa using h)]
  exact O6 bF aS qP (by omega)
theorem YV {a b row:List Int}{less:Int}{n:Nat}(bF:cu a)(aS:cu b)(aT:less=0∨less=1)(qP:a.length≤1000000)(a4:n<a.length)(ar:n<row.length):
 ∃x y,rC a n x∧rC b n y∧wZ b a a.length less n row=some (.inl (if x-less-y<0 then (1,((n+1:Nat):Int),row.set n (x-less-y+1000000000)) else (0,((n+1:Nat):Int),row.set n (x-less-y)))):=by
 have mo:0≤less∧less≤1:=by omega
 have hA:=uS bF a4
 have U:=List.getElem?_eq_getElem a4
 have gB:=hA.1
 have hx:=hA.2.1
 unfold wZ
 simp only [fO]
 rw [if_pos (by simp;omega),if_pos (by omega),Int.toNat_natCast,U]
 simp only [Option.bind_eq_bind,Option.bind_some]
 by_cases o:n<b.length
 ·have g9:=uS aS o
  have a3:=List.getElem?_eq_getElem o
  have i3:=g9.1
  have kr:=g9.2.1
  refine ⟨a[n],b[n],hA,g9,?_⟩
  rw [if_pos (by simp;omega),if_pos (by omega),a3]
  simp only [Option.bind_some]
  rw [cy (x:=a[n]-less) (by omega) (by omega),cy (x:=a[n]-less-b[n]) (by omega) (by omega),ny (n:=n) (by omega),cy (x:=a[n]-less-b[n]+1000000000) (by omega) (by omega),Nat.zero_add]
  by_cases h:a[n]-less-b[n]<0
  ·rw [if_pos (by simpa using h),if_pos h,if_pos (by omega),if_pos (by omega)]
  ·rw [if_neg (by simpa using h),if_neg h,if_pos (by omega),if_pos (by omega)]
 ·refine ⟨a[n],0,hA,xS o,?_⟩
  rw [if_neg (by simp;omega),cy (x:=a[n]-less) (by omega) (by omega),ny (n:=n) (by omega),cy (x:=a[n]-less+1000000000) (by omega) (by omega),Nat.zero_add,Int.sub_zero]
  by_cases h:a[n]-less<0
  ·rw [if_pos (by simpa using h),if_pos h,if_pos (by omega),if_pos (by omega)]
  ·rw [if_neg (by simpa using h),if_neg h,if_pos (by omega),if_pos (by omega)]
theorem PC {a b:List Int}(bF:cu a)(aS:cu b)(hlen:b.length≤a.length)(tr:V b≤V a)(qP:a.length≤900000):sV a b=some (L (V a-V b)):=by
 have : ∃r,Jo b a a.length 0 0 (List.replicate a.length 0)=some r∧cu r∧r.length=a.length∧V r=V a-V b:=by
  refine jC (eO:=fun w:Int×Int×List Int=> ∃n:Nat,w.2.1=n∧n≤a.length∧(w.1=0∨w.1=1)∧cu w.2.2∧w.2.2.length=a.length∧V w.2.2-w.1*B n=V (a.take n)-V (b.take n)∧ ∀j,n≤j→j<a.length→w.2.2[j]? = some 0) (m:=fun w=>a.length-w.2.1.toNat) _ ?_ _ ⟨0,rfl,by omega,.inl rfl,cu.Lx _,by simp,by simp [V,KE],fun j _ h=>by simp [List.getElem?_replicate];omega⟩
  rintro ⟨less,ii,row⟩ ⟨n,e1,aD,bS,da,dl,dT,er⟩
  simp only at e1 bS da dl dT er ⊢
  subst e1
  by_cases a4:n=a.length
  ·subst a4
   refine .inr ⟨row,by simp [wZ],da,dl,?_⟩
   rw [List.take_length,List.take_of_length_le hlen] at dT
   have o:=nc da
   rw [dl] at o
   rcases bS with rfl|rfl<;>omega
  ·obtain ⟨x,y,U,a3,qJ⟩:=YV (row:=row) (n:=n) bF aS bS (by omega) (by omega) (by omega)
   have x0:=U.1
   have x1:=U.2.1
   have SI:=a3.1
   have mB:=a3.2.1
   rw [qJ]
   refine .inl ⟨_,rfl,?_⟩
   by_cases h:x-less-y<0
   ·rw [if_pos h]
    refine ⟨⟨n+1,rfl,by omega,.inr rfl,da.set (by omega),by simpa using dl,?_,fun j h1 o=> ?_⟩,by simp only;omega⟩
    ·simp only
     rw [rp (er n (Nat.le_refl _) (by omega)),l3,U.take,a3.take]
     grind
    ·simp only
     rw [List.getElem?_set_ne (by omega)]
     exact er j (by omega) o
   ·rw [if_neg h]
    refine ⟨⟨n+1,rfl,by omega,.inl rfl,da.set (by omega),by simpa using dl,?_,fun j h1 o=> ?_⟩,by simp only;omega⟩
    ·simp only
     rw [rp (er n (Nat.le_refl _) (by omega)),U.take,a3.take]
     grind
    ·simp only
     rw [List.getElem?_set_ne (by omega)]
     exact er j (by omega) o
 obtain ⟨r,ar,h1,o,ab⟩:=this
 unfold sV
 simp only [fO]
 rw [if_pos (by omega),Int.toNat_natCast,ar]
 simp only [Option.bind_eq_bind,Option.bind_some]
 rw [xI h1 (by omega),ab]
 rfl
theorem QE {a b:Int}(h:decide (a<0)=decide (b<0)):ee (decide (a<0)) ((a.natAbs:Int)+(b.natAbs:Int))=a+b:=by
 have cD:a<0↔b<0:=by simpa using h
 unfold ee
 by_cases h1:a<0
 ·have:=cD.1 h1
  simp only [h1,decide_true,if_true]
  omega
 ·have : ¬b<0:=fun aS=>h1 (cD.2 aS)
  simp only [h1,decide_false,Bool.false_eq_true,if_false]
  omega
theorem DM {a b:Int}(h:¬decide (a<0)=decide (b<0)):ee (decide (a<0)) ((a.natAbs:Int)-(b.natAbs:Int))=a+b∧ee (decide (b<0)) ((b.natAbs:Int)-(a.natAbs:Int))=a+b:=by
 have cD : ¬(a<0↔b<0):=by simpa using h
 unfold ee
 by_cases h1:a<0
 ·have o : ¬b<0:=fun aS=>cD ⟨fun _=>aS,fun _=>h1⟩
  simp only [h1,o,decide_true,if_true,decide_false,Bool.false_eq_true,if_false]
  omega
 ·have o:b<0:=by
   apply Classical.byContradiction
   intro aS
   exact cD ⟨fun h=>absurd h h1,fun h=>absurd h aS⟩
  simp only [h1,o,decide_true,if_true,decide_false,Bool.false_eq_true,if_false]
  omega
theorem DB {x y:Int}(U:0≤x)(Ly:x≤y):(L x).length≤(L y).length:=by
 apply (iX U).2
 have:=nc (ha y)
 rw [ej (by omega)] at this
 omega
theorem O7 {a b:Int}(bF:(a.natAbs:Int)<B 50)(aS:(b.natAbs:Int)<B 50):pP (gX a) (gX b)=some (gX (a+b)):=by
 have sE:=(iX (k:=50) (n:=a.natAbs) (by omega)).2 bF
 have vA:=(iX (k:=50) (n:=b.natAbs) (by omega)).2 aS
 have qg:B 50+B 50≤B 60:=by
  have h1:B 51≤B 60:=qw (by omega)
  have o:=oz 50
  rw [l3] at h1
  omega
 have b0:pP (gX a) (gX b)=(if (decide (a<0) == decide (b<0))=true then (xj (L a.natAbs) (L b.natAbs)).bind fun b1=>(hM (decide (a<0)) b1).bind fun bb=>some bb else (pO (L a.natAbs) (L b.natAbs)).bind fun b1=>if (decide ((0:Int)≤b1))=true then (rN (L a.natAbs) (L b.natAbs)).bind fun aM=>(hM (decide (a<0)) aM).bind fun cb=>some cb else (rN (L b.natAbs) (L a.natAbs)).bind fun aM=>(hM (decide (b<0)) aM).bind fun cb=>some cb):=rfl
 rw [b0]
 by_cases h:decide (a<0)=decide (b<0)
 ·rw [if_pos (by simpa using h)]
  obtain ⟨r,r1,b1,bj,bb⟩:=aaq (ha a.natAbs) (ha b.natAbs) (by omega) (by omega)
  rw [ej (by omega),ej (by omega)] at bj
  rw [r1,Option.bind_some,ZE b1 (by omega) (by omega),bj,QE h]
  rfl
 ·rw [if_neg (by simpa using h),rY (jc _) (jc _) (by omega),ej (by omega),ej (by omega),Option.bind_some]
  by_cases bf:(b.natAbs:Int)≤a.natAbs
  ·have vj:0≤kV (a.natAbs:Int) b.natAbs:=by
    apply Int.not_lt.mp
    intro h1
    have:=s0.1 h1
    omega
   rw [if_pos (by simpa using vj),sub_eq (ha _) (ha _) (DB (by omega) bf) (by rw [ej (by omega),ej (by omega)];exact bf) (by omega),ej (by omega),ej (by omega),Option.bind_some,pT (by omega) (by omega),(DM h).1]
   rfl
  ·have vj : ¬0≤kV (a.natAbs:Int) b.natAbs:=by
    have:=s0.2 (show (a.natAbs:Int)<b.natAbs by omega)
    omega
   rw [if_neg (by simpa using vj),sub_eq (ha _) (ha _) (DB (by omega) (by omega)) (by rw [ej (by omega),ej (by omega)];omega) (by omega),ej (by omega),ej (by omega),Option.bind_some,pT (by omega) (by omega),(DM h).2]
   rfl
theorem aar {a b:Int}(bF:(a.natAbs:Int)<B 50)(aS:(b.natAbs:Int)<B 50):w5 (gX a) (gX b)=some (gX (a+b)):=by
 have sE:=(iX (k:=50) (n:=a.natAbs) (by omega)).2 bF
 have vA:=(iX (k:=50) (n:=b.natAbs) (by omega)).2 aS
 have b0:w5 (gX a) (gX b)=((qk (L a.natAbs) (L b.natAbs)).bind fun r1=>if (decide (a<0) == decide (b<0))=true then (xr (L a.natAbs) (L b.natAbs)).bind fun b1=>(m4 (decide (a<0)) b1).bind fun bb=>some bb else if (decide ((0:Int)≤r1))=true then (sV (L a.natAbs) (L b.natAbs)).bind fun aM=>(m4 (decide (a<0)) aM).bind fun cb=>some cb else (sV (L b.natAbs) (L a.natAbs)).bind fun aM=>(m4 (decide (b<0)) aM).bind fun cb=>some cb):=rfl
 rw [b0,OC (jc _) (jc _) (by omega),ej (by omega),ej (by omega),Option.bind_some]
 by_cases h:decide (a<0)=decide (b<0)
 ·rw [if_pos (by simpa using h),aa4 (ha _) (ha _) (by omega) (by omega),ej (by omega),ej (by omega),Option.bind_some,rR (by omega),QE h]
  rfl
 ·rw [if_neg (by simpa using h)]
  by_cases bf:(b.natAbs:Int)≤a.natAbs
  ·have vj:0≤kV (a.natAbs:Int) b.natAbs:=by
    apply Int.not_lt.mp
    intro h1
    have:=s0.1 h1
    omega
   rw [if_pos (by simpa using vj),PC (ha _) (ha _) (DB (by omega) bf) (by rw [ej (by omega),ej (by omega)];exact bf) (by omega),ej (by omega),ej (by omega),Option.bind_some,rR (by omega),(DM h).1]
   rfl
  ·have vj : ¬0≤kV (a.natAbs:Int) b.natAbs:=by
    have:=s0.2 (show (a.natAbs:Int)<b.natAbs by omega)
    omega
   rw [if_neg (by simpa using vj),PC (ha _) (ha _) (DB (by omega) (by omega)) (by rw [ej (by omega),ej (by omega)];omega) (by omega),ej (by omega),ej (by omega),Option.bind_some,rR (by omega),(DM h).2]
   rfl
theorem Ky {b:Int}:ee (!(decide (b<0))) (b.natAbs:Int) = -b:=by
 unfold ee
 by_cases h:b<0
 ·simp only [h,decide_true,Bool.not_true,Bool.false_eq_true,if_false]
  omega
 ·simp only [h,decide_false,Bool.not_false,if_true]
  omega
theorem ZH {a b:Int}(bF:(a.natAbs:Int)<B 50)(aS:(b.natAbs:Int)<B 50):tY (gX a) (gX b)=some (gX (a-b)):=by
 have b0:tY (gX a) (gX b)=(((m4 (!(decide (b<0))) (L b.natAbs)).bind fun r=>some r).bind fun r1=>(w5 (gX a) r1).bind fun bj=>some bj):=rfl
 rw [b0,rR (by omega),Ky,Option.bind_some,Option.bind_some,aar bF (by omega),Option.bind_some,Int.sub_eq_add_neg]
theorem Fr.neg {q:Int×Int}(h:Fr q):Fr (-q.1,q.2):=⟨h.pos,by simp only;rw [Int.neg_gcd];exact h.Sd,by simp only;have:=h.num;omega,h.den⟩
theorem ZI {q:Int×Int}(h:Fr q):ur (mk q)=some (mk (-q.1,q.2)):=by
 have h1:=h.num
 have o:=h.sf
 have ab:=Kw
 have b0:ur (mk q)=((hM (!(decide (q.1<0))) (L q.1.natAbs)).bind fun r1=>if (([]:List Int)++L q.2).length*8≤140737488355328 then some (⟨r1,([]:List Int)++L q.2⟩:aN) else none):=rfl
 rw [b0,pT (by omega) (by omega),Ky,Option.bind_some,if_pos (by simp;omega)]
 rfl
theorem PD {p q:Int×Int}(ak:Fr p)(bc:Fr q):((p.1*q.2).natAbs:Int)<B 48∧(L (p.1.natAbs*q.2:Int)).length≤48∧0≤(p.1.natAbs*q.2:Int):=by
 have aZ:=bc.pos
 have bg:=s3 (x:=p.1.natAbs) (y:=q.2) (by omega) (by omega) ak.num bc.den
 have Ch:0≤(p.1.natAbs:Int)*q.2:=Int.mul_nonneg (by omega) (by omega)
 rw [Kx (by omega)]
 exact ⟨(iX Ch).1 bg,bg,Ch⟩
theorem abB:B 48+B 48≤B 50:=by
 have h1:B 49≤B 50:=qw (by omega)
 have o:=oz 48
 rw [l3] at h1
 omega
theorem ZJ {p q:Int×Int}(ak:Fr p)(bc:Fr q):q8 (mk p) (mk q)=some (enc (low (p.1*q.2+q.1*p.2) (p.2*q.2))):=by
 have h1:=ak.tg
 have o:=ak.sf
 have ab:=bc.tg
 have av:=bc.sf
 have az:=ak.pos
 have aZ:=bc.pos
 have Rs:=ak.num
 have n8:=bc.num
 have agf:=ak.den
 have agh:=bc.den
 have g9:=abB
 have afs:B 24≤B 48:=qw (by omega)
 have aft:B 50≤B 60:=qw (by omega)
 obtain ⟨bu,cg,jk⟩:=PD ak bc
 obtain ⟨d1,d2,Ca⟩:=PD bc ak
 have afB:=oz 48
 have e1:hI (L p.1.natAbs) (L q.2)=some (L ((p.1.natAbs:Int)*q.2)):=by
  rw [mul_eq (ha _) (ha _) (by omega) (by omega),ej (by omega),ej (by omega)]
 have aD:hI (L q.1.natAbs) (L p.2)=some (L ((q.1.natAbs:Int)*p.2)):=by
  rw [mul_eq (ha _) (ha _) (by omega) (by omega),ej (by omega),ej (by omega)]
 have bS:hM (decide (p.1<0)) (L ((p.1.natAbs:Int)*q.2))=some (gX (p.1*q.2)):=by
  rw [pT jk (by rw [← Kx (by omega)];omega),Ao]
 have da:hM (decide (q.1<0)) (L ((q.1.natAbs:Int)*p.2))=some (gX (q.1*p.2)):=by
  rw [pT Ca (by rw [← Kx (by omega)];omega),Ao]
 have dl:pP (gX (p.1*q.2)) (gX (q.1*p.2))=some (gX (p.1*q.2+q.1*p.2)):=O7 (by omega) (by omega)
 have bl:=s3 (x:=p.2) (y:=q.2) (by omega) (by omega) ak.den bc.den
 have dT:hI (L p.2) (L q.2)=some (L (p.2*q.2)):=by
  rw [mul_eq (ha _) (ha _) (by omega) (by omega),ej (by omega),ej (by omega)]
 have Rh:(L (p.1*q.2+q.1*p.2).natAbs).length≤50:=(iX (by omega)).2 (by omega)
 have er:nT (decide (p.1*q.2+q.1*p.2<0)) (L (p.1*q.2+q.1*p.2).natAbs) (L (p.2*q.2))=some (enc (low (p.1*q.2+q.1*p.2) (p.2*q.2))):=by
  rw [JQ (by omega) (Int.mul_pos az aZ) (by omega) (by omega)]
  have:ee (decide (p.1*q.2+q.1*p.2<0)) ((p.1*q.2+q.1*p.2).natAbs:Int)=p.1*q.2+q.1*p.2:=by
   have:=Ao (a:=p.1*q.2+q.1*p.2) (b:=1)
   rwa [Int.mul_one,Int.mul_one] at this
  rw [this]
 have Rn:((hI (L p.1.natAbs) (L q.2)).bind fun cb=>(hM (decide (p.1<0)) cb).bind fun cc=>(hI (L q.1.natAbs) (L p.2)).bind fun c5=>(hM (decide (q.1<0)) c5).bind fun eC=>(pP cc eC).bind fun gA=>(hI (L p.2) (L q.2)).bind fun gm=>(nT gA.cN gA.cC gm).bind fun oP=>some oP)=some (enc (low (p.1*q.2+q.1*p.2) (p.2*q.2))):=by
  rw [e1,Option.bind_some,bS,Option.bind_some,aD,Option.bind_some,da,Option.bind_some,dl,Option.bind_some,dT,Option.bind_some]
  show (nT (decide (p.1*q.2+q.1*p.2<0)) (L (p.1*q.2+q.1*p.2).natAbs) (L (p.2*q.2))).bind _=_
  rw [er,Option.bind_some]
 have b0:q8 (mk p) (mk q)=((qm (L p.2)).bind fun r1=>if r1=true then (qm (L q.2)).bind fun bb=>if bb=true then (pP (gX p.1) (gX q.1)).bind fun cb=>(nT cb.cN cb.cC ([1]:List Int)).bind fun cc=>some cc else ((hI (L p.1.natAbs) (L q.2)).bind fun cb=>(hM (decide (p.1<0)) cb).bind fun cc=>(hI (L q.1.natAbs) (L p.2)).bind fun c5=>(hM (decide (q.1<0)) c5).bind fun eC=>(pP cc eC).bind fun gA=>(hI (L p.2) (L q.2)).bind fun gm=>(nT gA.cN gA.cC gm).bind fun oP=>some oP) else ((hI (L p.1.natAbs) (L q.2)).bind fun cb=>(hM (decide (p.1<0)) cb).bind fun cc=>(hI (L q.1.natAbs) (L p.2)).bind fun c5=>(hM (decide (q.1<0)) c5).bind fun eC=>(pP cc eC).bind fun gA=>(hI (L p.2) (L q.2)).bind fun gm=>(nT gA.cN gA.cC gm).bind fun oP=>some oP)):=rfl
 rw [b0,AB (by omega),Option.bind_some]
 by_cases af:p.2=1
 ·rw [if_pos (by simpa using af),AB (by omega),Option.bind_some]
  by_cases aU:q.2=1
  ·rw [if_pos (by simpa using aU),O7 (by omega) (by omega),Option.bind_some]
   have gD:p.1*q.2+q.1*p.2=p.1+q.1:=by rw [af,aU,Int.mul_one,Int.mul_one]
   have SJ:p.2*q.2=1:=by rw [af,aU];rfl
   rw [gD,SJ,Q2] at er
   rw [gD,SJ]
   show (nT (decide (p.1+q.1<0)) (L (p.1+q.1).natAbs) [1]).bind _=_
   rw [er,Option.bind_some]
  ·rw [if_neg (by simpa using aU)]
   exact Rn
 ·rw [if_neg (by simpa using af)]
  exact Rn
def pX (n:Int):Bool:=decide (-100≤n∧n≤100)
def qC (vC:Nat)(l:List Int):Bool:=decide (l.length=2*vC) && l.all pX
theorem YW (n:Int):zN n=some (pX n):=by
 unfold zN pX
 by_cases h : -100≤n<;>simp [h]
theorem O8 (s:ct)(p:Bool)(ak:j5 s=some p)(q3:p=true→s.bZ.length≤6)(l:List Int)(aT:l.length≤maxLen):rM s l=some (p && qC s.bZ.length l):=by
 have hm:=xu
 unfold rM
 simp only [ak,Option.bind_eq_bind,Option.bind_some,e5]
 cases p with
 | false=>rfl
 | true =>
  have q3:=q3 rfl
  have hw:R (2*((s.bZ.length:Nat):Int))=2*((s.bZ.length:Nat):Int):=cy (by omega) (by omega)
  rw [hw]
  unfold qC
  by_cases e:l.length=2*s.bZ.length
  ·have h1:IZ l (l.length:Nat) 0=some (if l.all pX then .inl () else .inr ()):=by
    refine Pq (f:=fun w=>wL l (l.length:Nat) w) l pX (fun n x U=> ?_) ?_
    ·have dG:=fT U
     unfold wL
     have c:(n:Int)<(l.length:Int):=by omega
     have dL:0≤(n:Int)∧(n:Int)<(l.length:Int):=by omega
     simp only [decide_eq_true c,if_true,if_pos dL,Int.toNat_natCast,U,Option.bind_eq_bind,Option.bind_some,pS]
     rw [i1 (by omega)]
     unfold pX
     by_cases q : -100≤x∧x≤100
     ·simp [q]
     ·rw [decide_eq_false q];simp
    ·simp [wL]
   have c:((l.length:Int) != 2*(s.bZ.length:Int))=false:=by simp;omega
   simp only [c,h1,Bool.false_eq_true,if_false,if_true,Option.bind_some]
   cases l.all pX<;>simp [e]
  ·have c:((l.length:Int) != 2*(s.bZ.length:Int))=true:=by simp;omega
   simp only [c,if_true]
   simp [e]
theorem Yl (s:ct)(q3:s.bZ.length≤6)(l:List Int)(aT:l.length≤maxLen):zE s l=some (qC s.bZ.length l):=by
 have hm:=xu
 have hw:R (2*((s.bZ.length:Nat):Int))=2*((s.bZ.length:Nat):Int):=cy (by omega) (by omega)
 unfold zE Cm Cr qC
 simp only [e5,hw,Option.bind_eq_bind]
 obtain ⟨r,h1,o⟩:=Zg (f:=fun w=>vD l (l.length:Nat) w) l (fun n=> !pX n) (fun n x U=>by
  have dG:=fT U
  unfold vD CQ
  have c:(n:Int)<(l.length:Int):=by omega
  have dL:0≤(n:Int)∧(n:Int)<(l.length:Int):=by omega
  simp only [decide_eq_true c,if_true,if_pos dL,Int.toNat_natCast,U,Option.bind_eq_bind,Option.bind_some,YW]
  rw [i1 (by omega)]
  cases pX x<;>rfl) (by simp [vD])
 have p9:Fk l (l.length:Nat) 0=some r:=h1
 rw [p9]
 have acI:(l.any fun n=> !pX n) = !l.all pX:=by
  rw [List.not_all_eq_any_not]
 rw [acI] at o
 by_cases e:l.length=2*s.bZ.length
 ·have c:((l.length:Int) == 2*(s.bZ.length:Int))=true:=by simp;omega
  rw [c]
  rcases o with ⟨k,rfl,a8,bF⟩|⟨rfl,bF⟩
  ·simp only [Bool.not_eq_true'] at bF
   simp [e,bF,a8]
  ·simp only [Bool.not_eq_false'] at bF
   simp [e,bF]
 ·have c:((l.length:Int) == 2*(s.bZ.length:Int))=false:=by simp;omega
  rw [c]
  simp [e]
theorem pI {i:Int}{a:Nat}(h0:0≤i)(h1:i≤100)(bF:a≤1):R (R (2*i)+(a:Int))=(((2*i+a).toNat:Nat):Int):=by
 rw [cy (x:=2*i) (by omega) (by omega),cy (by omega) (by omega)]
 omega
theorem Ym (l:List Int)(h:l.length≤1048576):zt l=some l:=by
 have aS : ∀(n:Nat) x (row:List Int),l[n]? = some x→row.length=l.length→tO l n row=some (.inl (((n+1:Nat):Int),row.set n x)):=by
  intro n x row U ar
  obtain ⟨a4,rfl⟩:=List.getElem?_eq_some_iff.1 U
  have hw:R ((n:Int)+1)=((n+1:Nat):Int):=by rw [cy (by omega) (by omega)];rfl
  simp only [tO,e5,hw]
  simp [a4,ar]
 have he : ∀row:List Int,tO l l.length row=some (.inr row):=by
  intro row
  simp [tO,e5]
 have h1:Iw l 0 (List.replicate (len_ eI l).toNat 0)=some l :=
  JL l (List.replicate (len_ eI l).toNat 0) (by simp [e5]) aS he
 unfold zt
 rw [h1,if_pos (by rw [e5];omega)]
 simp [e5]
theorem XE (l:List bD)(h:l.length≤1048576):zf l=some l:=by
 have aS : ∀(n:Nat) x (row:List bD),l[n]? = some x→row.length=l.length→tM l n row=some (.inl (((n+1:Nat):Int),row.set n x)):=by
  intro n x row U ar
  obtain ⟨a4,rfl⟩:=List.getElem?_eq_some_iff.1 U
  have hw:R ((n:Int)+1)=((n+1:Nat):Int):=by rw [cy (by omega) (by omega)];rfl
  simp only [tM,e5,hw,C8]
  simp [a4,ar]
 have he : ∀row:List bD,tM l l.length row=some (.inr row):=by
  intro row
  simp [tM,e5]
 have h1:HQ l 0 (List.replicate (len_ bL l).toNat (⟨ByteArray.empty,0,0,false⟩:bD))=some l :=
  JL l _ (by simp [e5]) aS he
 unfold zf
 rw [h1,if_pos (by rw [e5];omega)]
 simp [e5]
theorem Xq (l:List bP)(h:l.length≤1048576):zc l=some l:=by
 have aS : ∀(n:Nat) x (row:List bP),l[n]? = some x→row.length=l.length→tL l n row=some (.inl (((n+1:Nat):Int),row.set n x)):=by
  intro n x row U ar
  obtain ⟨a4,rfl⟩:=List.getElem?_eq_some_iff.1 U
  have hw:R ((n:Int)+1)=((n+1:Nat):Int):=by rw [cy (by omega) (by omega)];rfl
  simp only [tL,e5,hw,C2]
  simp [a4,ar]
 have he : ∀row:List bP,tL l l.length row=some (.inr row):=by
  intro row
  simp [tL,e5]
 have h1:Hk l 0 (List.replicate (len_ bU l).toNat (⟨0,0,0⟩:bP))=some l :=
  JL l _ (by simp [e5]) aS he
 unfold zc
 rw [h1,if_pos (by rw [e5];omega)]
 simp [e5]
theorem WO (s:ct)(h1:s.bZ.length≤1048576)(o:s.bB.length≤1048576):y8 s=some (s.bZ,s.bB):=by
 simp [y8,XE _ h1,Xq _ o]
def L0 (P:List (List Int)):bx→Prop
 | none=>True
 | some (k,c)=> ∃x,P[k]? = some x∧x.length=c∧c≤1048576
theorem L0.set {P:List (List Int)}{k:Nat}{x y:List Int}(U:P[k]? = some x)(a3:y.length=x.length){h:bx}(fL:L0 P h):L0 (P.set k y) h:=by
 cases h with
 | none=>trivial
 | some p =>
  obtain ⟨j,c⟩:=p
  obtain ⟨z,h1,o,ab⟩:=fL
  by_cases aF:k=j
  ·subst aF
   rw [U] at h1
   obtain rfl:=Option.some.inj h1
   exact ⟨y,by rw [List.getElem?_set,if_pos rfl,if_pos (fT U)],by omega,ab⟩
  ·exact ⟨z,by rw [List.getElem?_set,if_neg aF];exact h1,o,ab⟩
def kK:List bD→Nat→List Nat
 | [],_=>[]
 | x::l,n=>if x.k6 then kK l (n+1) else n::kK l (n+1)
theorem J5 : ∀(l:List bD) (n i:Nat),i∈kK l n→n≤i∧i<n+l.length
 | [],n,i,h=>by simp [kK] at h
 | x::l,n,i,h=>by
  rw [kK] at h
  simp only [List.length_cons]
  split at h
  ·have:=J5 l (n+1) i h;omega
  ·rcases List.mem_cons.1 h with h|h
   ·omega
   ·have:=J5 l (n+1) i h;omega
theorem PE : ∀(l:List bD) (n:Nat),(kK l n).length≤l.length
 | [],n=>by simp [kK]
 | x::l,n=>by
  rw [kK]
  have:=PE l (n+1)
  split<;>simp only [List.length_cons]<;>omega
theorem YX {l:List bD}{n:Nat}{x:bD}(h:l[n]? = some x)(m:Nat):kK (l.drop n) m=if x.k6 then kK (l.drop (n+1)) (m+1) else m::kK (l.drop (n+1)) (m+1):=by
 rw [Pr h,kK]
theorem O9 {f:Int×List Int→Option ((Int×List Int)⊕List Int)}(gU:List bD)(q3:gU.length≤1000)
 (h : ∀(n:Nat) acc x,gU[n]? = some x→f ((n:Int),acc)=if x.k6=true then some (.inl (R ((n:Int)+1),acc)) else if (acc++[(n:Int)]).length*8≤140737488355328 then some (.inl (R ((n:Int)+1),acc++[(n:Int)])) else none)
 (he : ∀acc,f ((gU.length:Int),acc)=some (.inr acc)):iter f ((0:Int),[])=some ((kK gU 0).map (fun n:Nat=>(n:Int))):=by
 obtain ⟨s,h1,o⟩:=hT (fun (n:Nat) (acc:List Int)=>((n:Int),acc)) gU.length (fun n acc=>acc++(kK (gU.drop n) n).map (fun n:Nat=>(n:Int))=(kK gU 0).map (fun n:Nat=>(n:Int))∧acc.length≤n) (fun acc=>acc) (f:=f) (fun n a4 acc cK=>by
  obtain ⟨cK,aT⟩:=cK
  have U:=List.getElem?_eq_getElem a4
  rw [YX U] at cK
  rw [h n acc _ U,ny (by omega)]
  by_cases c:gU[n].k6=true
  ·rw [if_pos c] at cK ⊢
   exact ⟨_,rfl,cK,by omega⟩
  ·rw [if_neg c] at cK ⊢
   rw [if_pos (by simp only [List.length_append,List.length_cons,List.length_nil];omega)]
   refine ⟨_,rfl,?_,by simp only [List.length_append,List.length_cons,List.length_nil];omega⟩
   rw [List.append_assoc]
   exact cK) (fun acc _=>he acc) [] ⟨by rw [List.drop_zero];rfl,by simp⟩
 obtain ⟨o,-⟩:=o
 rw [List.drop_length] at o
 simp only [kK,List.map_nil,List.append_nil] at o
 subst o
 exact h1
theorem JH (s:ct)(q3:s.bZ.length≤1000):ug s=some ((kK s.bZ 0).map (fun n:Nat=>(n:Int))):=by
 unfold ug IK
 rw [e5,O9 s.bZ q3 (fun n acc x U=>by
  have a4:=fT U
  unfold y0
  exact dz (by omega) (bH (by omega) (aR (gt rfl U) rfl))) (fun acc=>by
  unfold y0
  exact dZ (by omega) rfl)]
 rfl
theorem NQ (s:ct)(q3:s.bZ.length≤1000):vX s=some ((kK s.bZ 0).map (fun n:Nat=>(n:Int))):=by
 unfold vX Fu
 rw [e5,O9 s.bZ q3 (fun n acc x U=>by
  have a4:=fT U
  unfold yP
  exact dz (by omega) (bH (by omega) (aR (gt rfl U) rfl))) (fun acc=>by
  unfold yP
  exact dZ (by omega) rfl)]
 rfl
def fG (x:Rat):Int×Int:=(x.num,(x.den:Int))
def gi (x:Rat):Prop:=(x.num.natAbs:Int)<B 24∧(x.den:Int)<B 24
def cR (x:Rat):aN:=mk (fG x)
instance aeZ (x:Rat):Decidable (gi x):=by unfold gi;infer_instance
theorem gi.fg {x:Rat}(h:gi x):Fr (fG x):=⟨by have:=x.den_pos;simp only [fG];omega,by simp only [fG];rw [Int.gcd,Int.natAbs_natCast];exact x.reduced,h.1,h.2⟩
theorem aa5 {n d:Int}(bJ:0<d):low n d=if gi (Rat.divInt n d) then some (fG (Rat.divInt n d)) else none:=by
 have e1:(Rat.divInt n d).num=n / (Int.gcd n d:Int):=by rw [Rat.num_divInt,Int.sign_eq_one_of_pos bJ,Int.one_mul,Int.gcd_comm]
 have aD:((Rat.divInt n d).den:Int)=d / (Int.gcd n d:Int):=by
  rw [Rat.den_divInt,if_neg (by omega),Int.gcd_comm]
  rw [Int.natCast_ediv,Int.natAbs_of_nonneg (by omega)]
 have bS:gi (Rat.divInt n d)↔fits ((n / (Int.gcd n d:Int)).natAbs:Int)∧fits (d / (Int.gcd n d:Int)):=by unfold gi fits;rw [e1,aD]
 unfold low
 by_cases c:gi (Rat.divInt n d)
 ·rw [if_pos c,if_pos (bS.1 c)]
  unfold fG;rw [e1,aD]
 ·rw [if_neg c,if_neg (fun x=>c (bS.2 x))]
theorem J6 {n d:Int}{x:Rat}(bJ:0<d)(e:(d:Rat)*x=n)(h:gi x):low n d=some (fG x):=by
 have p7:(d:Rat)≠0:=fun c=>by
  have:d=0:=Rat.intCast_inj.1 (by rw [c];rfl)
  omega
 have:x=Rat.divInt n d:=by rw [Rat.divInt_eq_div,← e];grind
 rw [aa5 bJ,← this,if_pos h]
theorem xJ (x:Rat):((x.den:Int):Rat)*x=((x.num:Int):Rat):=by
 have h:x=(x.num:Rat) / ((x.den:Int):Rat):=by rw [← Rat.divInt_eq_div,Rat.num_divInt_den]
 have bJ:((x.den:Int):Rat)≠0:=fun c=>by
  have:(x.den:Int)=0:=Rat.intCast_inj.1 (by rw [c];rfl)
  have:=x.den_pos
  omega
 conv=>lhs;rhs;rw [h]
 grind
theorem QF {x y:Rat}(U:gi x)(a3:gi y)(h:gi (x*y)):sQ (cR x) (cR y)=some (cR (x*y)):=by
 unfold cR
 rw [Zy U.fg a3.fg,J6 (x:=x*y) (Int.mul_pos U.fg.pos a3.fg.pos) ?_ h];rfl
 have h1:=xJ x
 have o:=xJ y
 simp only [fG,Rat.intCast_mul]
 grind
theorem Kz {x y:Rat}(U:gi x)(a3:gi y)(h:gi (x+y)):q8 (cR x) (cR y)=some (cR (x+y)):=by
 unfold cR
 rw [ZJ U.fg a3.fg,J6 (x:=x+y) (Int.mul_pos U.fg.pos a3.fg.pos) ?_ h];rfl
 have h1:=xJ x
 have o:=xJ y
 simp only [fG,Rat.intCast_mul,Rat.intCast_add]
 grind
theorem gi.neg {x:Rat}(h:gi x):gi (-x):=by
 unfold gi at h ⊢
 rw [Rat.neg_num,Rat.neg_den,Int.natAbs_neg];exact h
theorem QG {x:Rat}(U:gi x):ur (cR x)=some (cR (-x)):=by
 unfold cR
 rw [ZI U.fg]
 simp only [fG,Rat.neg_num,Rat.neg_den]
theorem aas {p:Int×Int}(h:Fr p):sU (mk p)=some true:=by
 have EM:(L p.1.natAbs).length≤24:=(iX (by omega)).2 h.num
 have LV:(L p.2).length≤24:=(iX (by have:=h.pos;omega)).2 h.den
 have ak:=h.pos
 obtain ⟨af,gB,hx⟩:=JG (a:=L p.1.natAbs) (by omega)
 obtain ⟨aU,i3,kr⟩:=JG (a:=L p.2) (by omega)
 have h1:af=true:=hx.2 ⟨jc _,by omega⟩
 have o:aU=true:=kr.2 ⟨jc _,by omega⟩
 subst h1;subst o
 have bJ:(L p.2)≠[]:=fun c=>by have:=tb.1 c;omega
 have agi:=List.length_pos_iff.mpr bJ
 have e1:zA (mk p).fp=some true:=by
  unfold zA
  show (rO (L p.1.natAbs)).bind _=_
  rw [gB]
  simp only [Option.bind_some,if_true,fO]
  show (if decide (p.1<0)=true then some (decide ((0:Int)<(L p.1.natAbs).length)) else some true)=_
  by_cases c:p.1<0
  ·rw [if_pos (by simpa using c)]
   have:L p.1.natAbs≠[]:=fun c=>by have:=tb.1 c;omega
   have:=List.length_pos_iff.mpr this
   rw [decide_eq_true (by omega)]
  ·rw [if_neg (by simpa using c)]
 unfold sU
 rw [e1]
 simp only [Option.bind_eq_bind,Option.bind_some,if_true,fO]
 show (rO (L p.2)).bind _=_
 rw [i3]
 simp only [Option.bind_some,if_true]
 rw [show (mk p).hq=L p.2 from rfl,show (mk p).fp.cC=L p.1.natAbs from rfl]
 rw [if_neg (by simp [bJ]),if_neg (by simp;omega),if_neg (by simp;omega)]
 rw [QB (jc _) (jc _) (by omega) (by omega),ej (by omega),ej (by omega),Qb (by omega),h.Sd]
 simp only [Option.bind_some]
 rw [AB (by omega)]
 rfl
theorem KJ {x:Rat}(U:gi x):sU (cR x)=some true:=aas U.fg
def jI (x:Rat):Int:=if x=0 then 0 else if x<0 then -1 else 1
theorem pU {x:Rat}(U:gi x):pN (cR x)=some (jI x):=by
 unfold pN
 rw [KJ U]
 simp only [Option.bind_eq_bind,Option.bind_some,if_true,fO]
 show (if (((L (fG x).1.natAbs).length:Int) == 0)=true then some 0 else if decide ((fG x).1<0)=true then some (-1) else some 1)=_
 have e:((L (fG x).1.natAbs).length:Int)=0↔x.num=0:=by
  rw [K6 (by omega)]
  simp only [fG];omega
 unfold jI
 by_cases h0:x=0
 ·rw [if_pos h0,if_pos]
  rw [beq_iff_eq,e,Rat.num_eq_zero];exact h0
 ·rw [if_neg h0,if_neg (by rw [beq_iff_eq,e,Rat.num_eq_zero];exact h0)]
  by_cases h1:x<0
  ·have o : ¬0≤x:=by grind
   have ab : ¬0≤x.num:=fun c=>o (Rat.num_nonneg.1 c)
   rw [if_pos h1,if_pos (decide_eq_true (show (fG x).1<0 by simp only [fG];omega))]
  ·have o:0≤x:=by grind
   have ab:0≤x.num:=Rat.num_nonneg.2 o
   rw [if_neg h1,if_neg (fun c=>by have:=of_decide_eq_true c;simp only [fG] at this;omega)]
theorem abC {x y:Rat}(U:gi x)(a3:gi y):uq (cR x) (cR y)=some (if x<y then -1 else if y<x then 1 else 0):=by
 unfold cR
 rw [ZA U.fg a3.fg]
 unfold kV
 simp only [fG,← Rat.lt_iff]
theorem QH {x y:Rat}(U:gi x)(a3:gi y)(h0:y≠0)(h:gi (x / y)):uo (cR x) (cR y)=some (cR (x / y)):=by
 have h1:=U.fg.tg
 have o:=U.fg.sf
 have ab:=a3.fg.tg
 have av:=a3.fg.sf
 have az:=U.fg.pos
 have aZ:(0:Int)<(fG y).1.natAbs:=by
  have:(fG y).1≠0:=fun c=>h0 (Rat.num_eq_zero.1 c)
  omega
 have bg:=s3 (x:=(fG x).1.natAbs) (y:=(fG y).2) (by omega) (by have:=a3.fg.pos;omega) U.fg.num a3.fg.den
 have bl:=s3 (x:=(fG x).2) (y:=(fG y).1.natAbs) (by omega) (by omega) U.fg.den a3.fg.num
 have e1:hI (L (fG x).1.natAbs) (L (fG y).2)=some (L (((fG x).1.natAbs:Int)*(fG y).2)):=by
  rw [mul_eq (ha _) (ha _) (by omega) (by omega),ej (by omega),ej (by have:=a3.fg.pos;omega)]
 have aD:hI (L (fG x).2) (L (fG y).1.natAbs)=some (L ((fG x).2*((fG y).1.natAbs:Int))):=by
  rw [mul_eq (ha _) (ha _) (by omega) (by omega),ej (by omega),ej (by omega)]
 unfold uo
 rw [KJ U,KJ a3]
 simp only [Option.bind_eq_bind,Option.bind_some,if_true]
 show (hI (L (fG x).1.natAbs) (L (fG y).2)).bind _=_
 rw [e1]
 simp only [Option.bind_some]
 show (hI (L (fG x).2) (L (fG y).1.natAbs)).bind _=_
 rw [aD]
 simp only [Option.bind_some]
 rw [JQ (Int.mul_nonneg (by omega) (by have:=a3.fg.pos;omega)) (Int.mul_pos az aZ) (by omega) (by omega)]
 simp only [Option.bind_some]
 rw [J6 (x:=x / y) (Int.mul_pos az aZ) ?_ h];rfl
 have d1:=xJ x
 have d2:=xJ y
 have bS:ee (!((cR x).fp.cN == (cR y).fp.cN)) (((fG x).1.natAbs:Int)*(fG y).2)=(if y<0 then -1 else 1)*((fG x).1*(fG y).2):=by
  show ee (!(decide ((fG x).1<0) == decide ((fG y).1<0))) _=_
  have a4:=Rat.num_nonneg (q:=y)
  have hm:0≤((fG x).1.natAbs:Int)*(fG y).2:=Int.mul_nonneg (by omega) (by have:=a3.fg.pos;omega)
  have BR:y<0↔(fG y).1<0:=by
   have ab:=Rat.num_nonneg (q:=y)
   simp only [fG]
   constructor
   ·intro c;have : ¬0≤y:=by grind
    have av : ¬0≤y.num:=fun c=>this (ab.1 c)
    omega
   ·intro c;have : ¬0≤y:=fun dL=>by have:=ab.2 dL;omega
    grind
  by_cases bu:(fG x).1<0<;>by_cases cg:(fG y).1<0
  ·rw [if_pos (BR.2 cg),decide_eq_true bu,decide_eq_true cg]
   simp only [ee,BEq.rfl,Bool.not_true,Bool.false_eq_true,if_false]
   rw [show ((fG x).1.natAbs:Int) = -(fG x).1 by omega];grind
  ·rw [if_neg (fun c=>cg (BR.1 c)),decide_eq_true bu,decide_eq_false cg]
   simp only [ee,show (!(true == false))=true from rfl,if_true]
   rw [show ((fG x).1.natAbs:Int) = -(fG x).1 by omega];grind
  ·rw [if_pos (BR.2 cg),decide_eq_false bu,decide_eq_true cg]
   simp only [ee,show (!(false == true))=true from rfl,if_true]
   rw [show ((fG x).1.natAbs:Int)=(fG x).1 by omega];grind
  ·rw [if_neg (fun c=>cg (BR.1 c)),decide_eq_false bu,decide_eq_false cg]
   simp only [ee,BEq.rfl,Bool.not_true,Bool.false_eq_true,if_false]
   rw [show ((fG x).1.natAbs:Int)=(fG x).1 by omega];grind
 rw [bS]
 have da:(((fG y).1.natAbs:Int):Rat)=(if y<0 then -1 else 1)*(((fG y).1:Int):Rat):=by
  have a4:=Rat.num_nonneg (q:=y)
  by_cases c:y<0
  ·have:y.num<0:=by have : ¬0≤y.num:=fun h=>by have:=a4.1 h;grind
                    omega
   rw [if_pos c,show ((fG y).1.natAbs:Int) = -(fG y).1 by simp only [fG];omega,Rat.intCast_neg];grind
  ·have:0≤y.num:=a4.2 (by grind)
   rw [if_neg c,show ((fG y).1.natAbs:Int)=(fG y).1 by simp only [fG];omega];grind
 rw [Rat.intCast_mul,da,Rat.intCast_mul,Rat.intCast_mul]
 simp only [fG] at *
 split<;>grind
theorem rZ {n:Int}(h:n7 n):oW n=some (cR (n:Rat)):=by
 rw [Xz h]
 unfold cR fG
 rw [Rat.num_intCast,Rat.den_intCast];rfl
theorem PF {n d:Int}{x:Rat}(h0:d≠0)(e:(d:Rat)*x=n)(a4:(n.natAbs:Int)<B 24)(bJ:(d.natAbs:Int)<B 24):gi x:=by
 have p7:(d:Rat)≠0:=fun c=>h0 (Rat.intCast_inj.1 (by rw [c];rfl))
 have U:x=Rat.divInt n d:=by rw [Rat.divInt_eq_div,← e];grind
 rw [U]
 unfold gi
 rw [Rat.num_divInt,Rat.den_divInt,if_neg h0]
 constructor
 ·have h1:(d.sign*n / (d.gcd n:Int)).natAbs≤(d.sign*n).natAbs:=Int.natAbs_ediv_le_natAbs _ _
  have o:(d.sign*n).natAbs≤n.natAbs:=by
   rw [Int.natAbs_mul]
   have:d.sign.natAbs≤1:=by rw [Int.natAbs_sign];split<;>omega
   exact Nat.le_trans (Nat.mul_le_mul_right _ this) (by omega)
  omega
 ·have:d.natAbs / d.gcd n≤d.natAbs:=Nat.div_le_self _ _
  omega
theorem ri {x:Rat}:jI x=0↔x=0:=by
 unfold jI
 split
 ·simp_all
 ·split<;>simp_all
theorem qt {x:Rat}:0<jI x↔0<x:=by
 unfold jI
 split
 ·rename_i h;rw [h];simp
 ·split
  ·rename_i h1 o;constructor
   ·intro h;omega
   ·intro h;grind
  ·rename_i h1 o;constructor
   ·intro h;grind
   ·intro h;omega
theorem aat (n:Nat)(a4:n≤1000)(k:Nat)(a8:k<n)(a b:Nat→Rat)(bF:∀j,j<n→gi (a j))(aS:∀j,j<n→gi (b j))(hm:∀j,j<n→gi (-(a k)*b j))(b0:∀j,j<n→gi (a j-a k*b j)):
 zi k 0 n 0 n (a7 n fun j=>cR (a j)) (a7 n fun j=>cR (b j))=some (a7 n fun j=>cR (a j-a k*b j)):=by
 unfold zi
 refine bH (by omega) (aR (x:=cR (a k)) (by rw [Int.toNat_natCast];exact h7 a8) (aR (pU (bF k a8)) ?_))
 refine oi (fun h=> ?_) (fun h=> ?_)
 ·have h0:=ri.1 (by simpa using h)
  congr 1
  exact e4 fun j _=>by rw [h0];congr 1;grind
 ·refine aR (QG (bF k a8)) ?_
  obtain ⟨s,e1,aD⟩:=hT (f:=fun w:Int×List aN=>wj 0 n 0 n ((n:Nat):Int) (a7 n fun j=>cR (b j)) (cR (-(a k))).fp.cN (cR (-(a k))).fp.cC (cR (-(a k))).hq w.1 w.2)
   (fun (i:Nat) (_:Unit)=>((i:Int),a7 n fun j=>if j<i then cR (a j-a k*b j) else cR (a j))) n (fun _ _=>True) (fun _=>a7 n fun j=>cR (a j-a k*b j))
   (fun i aq _ _=>by
     refine ⟨(),?_,trivial⟩
     unfold wj
     refine dz (by simp only;omega) (bH (by simp only;omega) (aR (x:=cR (b i)) (by simp only;rw [Int.toNat_natCast];exact h7 aq) (aR (pU (aS i aq)) ?_)))
     refine oi (fun h=> ?_) (fun h=> ?_)
     ·refine bH (by simp only;omega) (aR (x:=cR (a i)) (by simp only;rw [Int.toNat_natCast,h7 aq,if_neg (by omega)]) ?_)
      refine aR (QF (bF k a8).neg (aS i aq) (hm i aq)) (aR (Kz (bF i aq) (hm i aq) (by have:=b0 i aq;rw [show a i + -(a k)*b i=a i-a k*b i by grind];exact this)) ?_)
      refine bH (by simp only;rw [cZ];omega) ?_
      simp only
      rw [fo (by omega),Int.toNat_natCast,Nat.zero_add,k4]
      congr 3
      exact e4 fun j _=>by
       by_cases c:j=i
       ·subst c;rw [if_pos rfl,if_pos (by omega)];congr 1;grind
       ·rw [if_neg c]
        by_cases cg:j<i
        ·rw [if_pos cg,if_pos (by omega)]
        ·rw [if_neg cg,if_neg (by omega)]
     ·have h0:b i=0:=ri.1 (by simpa using h)
      simp only
      rw [fo (by omega)]
      congr 3
      exact e4 fun j _=>by
       by_cases c:j=i
       ·subst c;rw [if_neg (by omega),if_pos (by omega),h0];congr 1;grind
       ·by_cases cg:j<i
        ·rw [if_pos cg,if_pos (by omega)]
        ·rw [if_neg cg,if_neg (by omega)])
   (fun _ _=>by
     unfold wj
     refine dZ (by simp) ?_
     simp only
     congr 2
     exact e4 fun j aF=>if_pos aF) () trivial
  refine aR (x:=a7 n fun j=>cR (a j-a k*b j)) ?_ rfl
  unfold H3
  have bS:(a7 n fun j=>if j<0 then cR (a j-a k*b j) else cR (a j))=a7 n fun j=>cR (a j):=e4 fun j _=>if_neg (by omega)
  rw [bS] at e1
  exact e1
theorem ZK (n:Nat)(a4:n≤1000)(k:Nat)(a8:k<n)(a b:Nat→Rat)(bF:∀j,j<n→gi (a j))(aS:∀j,j<n→gi (b j))(hm:∀j,j<n→gi (-(a k)*b j))(b0:∀j,j<n→gi (a j-a k*b j)):
 zd k 0 n (a7 n fun j=>cR (a j)) (a7 n fun j=>cR (b j))=some (a7 n fun j=>cR (a j-a k*b j)):=by
 unfold zd
 rw [cZ]
 refine bH (by omega) (aR (x:=cR (a k)) (by rw [Int.toNat_natCast];exact h7 a8) (aR (pU (bF k a8)) ?_))
 refine oi (fun h=> ?_) (fun h=> ?_)
 ·have h0:=ri.1 (by simpa using h)
  congr 1
  exact e4 fun j _=>by rw [h0];congr 1;grind
 ·refine aR (QG (bF k a8)) ?_
  obtain ⟨s,e1,aD⟩:=hT (f:=fun w:Int×List aN=>v8 0 n ((n:Nat):Int) (a7 n fun j=>cR (b j)) (cR (-(a k))).fp.cN (cR (-(a k))).fp.cC (cR (-(a k))).hq w.1 w.2)
   (fun (i:Nat) (_:Unit)=>((i:Int),a7 n fun j=>if j<i then cR (a j-a k*b j) else cR (a j))) n (fun _ _=>True) (fun _=>a7 n fun j=>cR (a j-a k*b j))
   (fun i aq _ _=>by
     refine ⟨(),?_,trivial⟩
     unfold v8
     refine dz (by simp only;omega) (bH (by simp only;omega) (aR (x:=cR (b i)) (by simp only;rw [Int.toNat_natCast];exact h7 aq) (aR (pU (aS i aq)) ?_)))
     refine oi (fun h=> ?_) (fun h=> ?_)
     ·refine bH (by simp only;rw [cZ];omega) (aR (x:=cR (a i)) (by simp only;rw [Int.toNat_natCast,h7 aq,if_neg (by omega)]) ?_)
      refine aR (QF (bF k a8).neg (aS i aq) (hm i aq)) (aR (Kz (bF i aq) (hm i aq) (by have:=b0 i aq;rw [show a i + -(a k)*b i=a i-a k*b i by grind];exact this)) ?_)
      refine bH (by simp only;rw [cZ];omega) ?_
      simp only
      rw [fo (by omega),Int.toNat_natCast,Nat.zero_add,k4]
      congr 3
      exact e4 fun j _=>by
       by_cases c:j=i
       ·subst c;rw [if_pos rfl,if_pos (by omega)];congr 1;grind
       ·rw [if_neg c]
        by_cases cg:j<i
        ·rw [if_pos cg,if_pos (by omega)]
        ·rw [if_neg cg,if_neg (by omega)]
     ·have h0:b i=0:=ri.1 (by simpa using h)
      simp only
      rw [fo (by omega)]
      congr 3
      exact e4 fun j _=>by
       by_cases c:j=i
       ·subst c;rw [if_neg (by omega),if_pos (by omega),h0];congr 1;grind
       ·by_cases cg:j<i
        ·rw [if_pos cg,if_pos (by omega)]
        ·rw [if_neg cg,if_neg (by omega)])
   (fun _ _=>by
     unfold v8
     refine dZ (by simp) ?_
     simp only
     congr 2
     exact e4 fun j aF=>if_pos aF) () trivial
  refine aR (x:=a7 n fun j=>cR (a j-a k*b j)) ?_ rfl
  unfold HA
  have bS:(a7 n fun j=>if j<0 then cR (a j-a k*b j) else cR (a j))=a7 n fun j=>cR (a j):=e4 fun j _=>if_neg (by omega)
  rw [bS] at e1
  exact e1
def mM (m N:Nat):List bx:=a7 m fun i=>some (i,N+1)
def dv (m:Nat)(t:cI):List Int:=a7 m fun i=>((t.B i:Nat):Int)
def hc (N:Nat)(t:cI)(i:Nat):List aN:=a7 (N+1) fun j=>cR (t.T i j)
def iM (m N:Nat)(t:cI):List (List aN):=a7 m (hc N t)
def la (N:Nat)(c:Nat→Rat):List aN:=a7 (N+1) fun j=>cR (c j)
structure K7 (m N:Nat) (t:cI) (c:Nat→Rat) (r k:Nat):Prop where
 T : ∀i,i<m→ ∀j,j≤N→gi (t.T i j)
 im : ∀i,i<m→ ∀j,j≤N→gi ((t.cO r k).T i j)
 M : ∀i,i<m→i≠r→ ∀j,j≤N→gi (-(t.T i k)*(t.T r j / t.T r k))
 bf : ∀j,j≤N→gi (c j)
 si : ∀j,j≤N→gi (c j-c k*(t.T r j / t.T r k))
 hm : ∀j,j≤N→gi (-(c k)*(t.T r j / t.T r k))
theorem aau {m N:Nat}(hm:m≤1000)(fQ:N<1000){t:cI}{c:Nat→Rat}{r k:Nat}(ar:r<m)(a8:k≤N)(ak:t.T r k≠0)(h:K7 m N t c r k)(lk:Int):
 zj r k lk (mM m N) (dv m t) (la N c) (iM m N t)=some (dv m (t.cO r k),la N (fun j=>c j-c k*(t.T r j / t.T r k)),iM m N (t.cO r k)):=by
 have q4 : ∀j,(t.cO r k).T r j=t.T r j / t.T r k:=fun j=>by simp [cI.cO]
 have yM : ∀i j,i≠r→(t.cO r k).T i j=t.T i j-t.T i k*(t.T r j / t.T r k):=fun i j aq=>by simp [cI.cO,aq]
 unfold zj
 refine bH (by unfold mM;rw [cZ];omega) (aR (x:=some (r,N+1)) (by rw [Int.toNat_natCast];exact h7 ar) (aR (x:=(r,N+1)) rfl (aR (x:=hc N t r) (f9 ar) ?_)))
 refine bH (by simp only;omega) (aR (x:=cR (t.T r k)) (by rw [Int.toNat_natCast];exact h7 (by omega)) ?_)
 obtain ⟨s1,e1,-⟩:=hT (f:=fun w:Int×List (List aN)=>wk r k (((N+1:Nat):Nat):Int) lk (mM m N) (dv m t) (la N c) (cR (t.T r k)).fp.cN (cR (t.T r k)).fp.cC (cR (t.T r k)).hq w.1 w.2)
  (fun (i:Nat) (_:Unit)=>((i:Int),a7 m fun eF=>if eF=r then a7 (N+1) (fun j=>if j<i then cR (t.T r j / t.T r k) else cR (t.T r j)) else hc N t eF)) (N+1) (fun _ _=>True)
  (fun _=>a7 m fun eF=>if eF=r then hc N (t.cO r k) r else hc N t eF)
  (fun i aq _ _=>by
    refine ⟨(),?_,trivial⟩
    unfold wk
    refine dz (by simp only;omega) (bH (by unfold mM;rw [cZ];omega) (aR (x:=some (r,N+1)) (by rw [Int.toNat_natCast];exact h7 ar) (aR (x:=(r,N+1)) rfl ?_)))
    refine aR (x:=a7 (N+1) (fun j=>if j<i then cR (t.T r j / t.T r k) else cR (t.T r j))) (by simp only;rw [f9 ar,if_pos rfl]) ?_
    refine bH (by simp only;omega) (aR (x:=cR (t.T r i)) (by simp only;rw [Int.toNat_natCast,h7 aq,if_neg (by omega)]) ?_)
    refine aR (QH (h.T r ar i (by omega)) (h.T r ar k a8) ak (by have:=h.im r ar i (by omega);rw [q4] at this;exact this)) ?_
    simp only
    rw [fo (by omega),Int.toNat_natCast,Nat.zero_add,k4,k4]
    congr 3
    refine e4 fun eF _=> ?_
    by_cases bu:eF=r
    ·rw [if_pos bu,if_pos bu]
     exact e4 fun j _=>by
      by_cases cg:j=i
      ·subst cg;rw [if_pos rfl,if_pos (by omega)]
      ·rw [if_neg cg]
       by_cases jk:j<i
       ·rw [if_pos jk,if_pos (by omega)]
       ·rw [if_neg jk,if_neg (by omega)]
    ·rw [if_neg bu,if_neg bu,if_neg bu])
  (fun _ _=>by
    unfold wk
    refine dZ (by simp) ?_
    simp only
    congr 2
    refine e4 fun eF _=> ?_
    by_cases bu:eF=r
    ·rw [if_pos bu,if_pos bu]
     exact e4 fun j aF=>by rw [if_pos aF,q4]
    ·rw [if_neg bu,if_neg bu]) () trivial
 refine aR (x:=a7 m fun eF=>if eF=r then hc N (t.cO r k) r else hc N t eF) ?_ ?_
 ·unfold H4
  have bS:(a7 m fun eF=>if eF=r then a7 (N+1) (fun j=>if j<0 then cR (t.T r j / t.T r k) else cR (t.T r j)) else hc N t eF)=iM m N t:=e4 fun eF _=>by
   by_cases bu:eF=r
   ·rw [if_pos bu,bu];exact e4 fun j _=>if_neg (by omega)
   ·rw [if_neg bu]
  rw [bS] at e1
  exact e1
 obtain ⟨s2,aD,-⟩:=hT (f:=fun w:Int×List (List aN)=>wm r k ((m:Nat):Int) lk (mM m N) (dv m t) (la N c) w.1 w.2)
  (fun (i:Nat) (_:Unit)=>((i:Int),a7 m fun eF=>if eF=r∨eF<i then hc N (t.cO r k) eF else hc N t eF)) m (fun _ _=>True)
  (fun _=>iM m N (t.cO r k))
  (fun i aq _ _=>by
    refine ⟨(),?_,trivial⟩
    unfold wm
    refine dz (by simp only;omega) (oi (fun dr=> ?_) (fun yf=> ?_))
    ·have yH:i≠r:=by intro c;subst c;simp at dr
     refine bH (by unfold mM;rw [cZ];simp only;omega) (aR (x:=some (i,N+1)) (by simp only;rw [Int.toNat_natCast];exact h7 aq) ?_)
     refine bH (by unfold mM;rw [cZ];omega) (aR (x:=some (r,N+1)) (by rw [Int.toNat_natCast];exact h7 ar) ?_)
     refine aR (x:=(i,N+1)) rfl (aR (x:=(r,N+1)) rfl ?_)
     refine aR (x:=hc N t i) (by simp only;rw [f9 aq,if_neg (by omega)]) (aR (x:=hc N (t.cO r k) r) (by simp only;rw [f9 ar,if_pos (.inl rfl)]) ?_)
     refine bH (by simp only;omega) ?_
     refine aR (aat (N+1) (by omega) k (by omega) (fun j=>t.T i j) (fun j=>(t.cO r k).T r j) (fun j aF=>h.T i aq j (by omega)) (fun j aF=>h.im r ar j (by omega)) (fun j aF=>by rw [q4];exact h.M i aq yH j (by omega)) (fun j aF=>by
      have:=h.im i aq j (by omega);rw [yM i j yH] at this;rw [q4];exact this)) ?_
     simp only
     rw [fo (by omega),k4,k4]
     congr 3
     refine e4 fun eF _=> ?_
     by_cases bu:eF=r
     ·rw [if_pos bu,if_pos (.inl bu),bu]
     ·rw [if_neg bu]
      by_cases cg:eF=i
      ·subst cg
       rw [if_pos rfl,if_pos (.inr (by omega))]
       exact e4 fun j _=>by rw [yM eF j yH,q4]
      ·rw [if_neg cg]
       by_cases jk:eF<i
       ·rw [if_pos (.inr jk),if_pos (.inr (by omega))]
       ·rw [if_neg (by omega),if_neg (by omega)]
    ·have yH:i=r:=by simp at yf;omega
     simp only
     rw [fo (by omega)]
     congr 3
     refine e4 fun eF _=> ?_
     by_cases bu:eF=r∨eF<i
     ·rw [if_pos bu,if_pos (by omega)]
     ·rw [if_neg bu,if_neg (by omega)])
  (fun _ _=>by
    unfold wm
    refine dZ (by simp) ?_
    simp only
    congr 2
    exact e4 fun eF kB=>if_pos (.inr kB)) () trivial
 refine aR (x:=iM m N (t.cO r k)) ?_ ?_
 ·unfold H5
  rw [show ((mM m N).length:Nat)=m from cZ ..]
  have bS:(a7 m fun eF=>if eF=r∨eF<0 then hc N (t.cO r k) eF else hc N t eF)=a7 m fun eF=>if eF=r then hc N (t.cO r k) r else hc N t eF:=e4 fun eF _=>by
   by_cases bu:eF=r
   ·rw [if_pos (.inl bu),if_pos bu,bu]
   ·rw [if_neg (by omega),if_neg bu]
  rw [bS] at aD
  exact aD
 refine aR (x:=hc N (t.cO r k) r) (f9 ar) (bH (by simp only;omega) ?_)
 refine aR (ZK (N+1) (by omega) k (by omega) c (fun j=>(t.cO r k).T r j) (fun j aF=>h.bf j (by omega)) (fun j aF=>h.im r ar j (by omega)) (fun j aF=>by rw [q4];exact h.hm j (by omega)) (fun j aF=>by rw [q4];exact h.si j (by omega))) ?_
 refine bH (by unfold la;rw [cZ,cZ]) (bH (by unfold dv;rw [cZ];omega) (bH (by unfold dv;rw [cZ,Int.toNat_natCast];omega) ?_))
 congr 1
 rw [Int.toNat_natCast,Nat.zero_add]
 congr 1
 ·unfold dv
  rw [k4]
  exact e4 fun i _=>by
   simp only [cI.cO]
   split<;>rfl
 ·congr 1
  ·exact e4 fun j _=>by rw [q4]
  ·unfold iM
   rw [k4]
   exact e4 fun i _=>by
    split
    ·rename_i bu;rw [bu]
    ·rfl
theorem aav {m:Nat}(hm:m≤1000)(t:cI)(lk:Int)(rows:List (List aN))(cost:List aN)(j:Nat): ∃b,zz ⟨lk,rows,dv m t,cost⟩ (j:Int)=some b∧(b=true↔ ∃i,i<m∧t.B i=j):=by
 unfold zz
 obtain ⟨r,e,h⟩:=qp (f:=fun w:Int=>yY j (dv m t) ((m:Nat):Int) w) (fun (i:Nat) (_:Unit)=>(i:Int)) m (fun i _=> ∀k,k<i→t.B k≠j) (fun r=>(r = .inr ()∧ ∃i,i<m∧t.B i=j)∨(r = .inl ()∧ ¬∃i,i<m∧t.B i=j))
  (fun i aq _ cK=>by
    unfold yY
    by_cases c:t.B i=j
    ·right
     refine ⟨_,dz (by omega) (bH (by unfold dv;rw [cZ];omega) (aR (x:=((t.B i:Nat):Int)) (by rw [Int.toNat_natCast];exact f9 aq) (f7 (by simp [c]) rfl))),.inl ⟨rfl,i,aq,c⟩⟩
    ·left
     refine ⟨(),dz (by omega) (bH (by unfold dv;rw [cZ];omega) (aR (x:=((t.B i:Nat):Int)) (by rw [Int.toNat_natCast];exact f9 aq) (h4 (by simp;omega) (by rw [fo (by omega)])))),fun k a8=> ?_⟩
     by_cases e:k=i
     ·rw [e];exact c
     ·exact cK k (by omega))
  (fun _ cK=>⟨_,dZ (by omega) rfl,.inr ⟨rfl,fun ⟨i,aq,e⟩=>cK i aq e⟩⟩) () (fun k a8=>by omega)
 have eN:CM j (dv m t) (len_ eI (dv m t)) 0=some r:=by
  unfold CM;rw [fO,show (dv m t).length=m from cZ ..];exact e
 rcases h with ⟨rfl,h⟩|⟨rfl,h⟩
 ·exact ⟨true,aR eN rfl,by simp [h]⟩
 ·exact ⟨false,aR eN rfl,by simp [h]⟩
theorem aa6 {N:Nat}(fQ:N<1000)(lk:Int)(rows:List (List aN))(lg:List Int)(c:Nat→Rat){j:Nat}(aF:j≤N)(bf:gi (c j)):uh ⟨lk,rows,lg,la N c⟩ (j:Int) false=some (jI (c j)):=by
 unfold uh
 refine bH (by unfold la;rw [cZ];omega) (aR (x:=cR (c j)) (by rw [Int.toNat_natCast];exact f9 (by omega)) (aR (pU bf) ?_))
 refine aR (x:= .inl (jI (c j))) ?_ rfl
 unfold IQ
 rw [iter]
 have:y1 lk rows lg (la N c) (j:Int) false (jI (c j)) 0=some (.inr (.inl (jI (c j)))):=by
  unfold y1
  exact oi (fun _=>rfl) (fun _=>rfl)
 simp only
 rw [this];rfl
theorem DC {x y z w:Rat}(a3:0<y)(hw:0<w):(x / y≤z / w↔x*w≤z*y)∧(x / y=z / w↔x*w=z*y):=by
 have e1:x*w=(x / y)*(y*w):=by grind
 have aD:z*y=(z / w)*(y*w):=by grind
 have ak:0<y*w:=Rat.mul_pos a3 hw
 constructor
 ·rw [e1,aD]
  constructor
  ·intro h;exact Rat.mul_le_mul_of_nonneg_right h (Rat.le_of_lt ak)
  ·intro h
   apply Classical.byContradiction
   intro c
   have:z / w<x / y:=by grind
   have:=Rat.mul_lt_mul_of_pos_right this ak
   grind
 ·rw [e1,aD]
  constructor
  ·intro h;rw [h]
  ·intro h
   have dr:y*w≠0:=by grind
   grind
def DN (m N:Nat)(t:cI)(j:Nat)(r:Int):Prop :=
 (r = -1∧ ∀i,i<m→ ¬0<t.T i j)∨ ∃b:Nat,r=b∧b<m∧0<t.T b j∧(∀i,i<m→0<t.T i j→t.T b N*t.T i j≤t.T i N*t.T b j)∧(∀i,i<m→0<t.T i j→t.T b N*t.T i j=t.T i N*t.T b j→t.B b≤t.B i)
theorem aaw {m N:Nat}(hm:m≤1000)(fQ:N<1000)(t:cI)(lk:Int)(cost:List aN){j:Nat}(aF:j≤N)(iK:∀i,i<m→ ∀j,j≤N→gi (t.T i j))(bc:∀i,i<m→0<t.T i j→gi (t.T i N / t.T i j)):
 ∃r,zB ⟨lk,iM m N t,dv m t,cost⟩ (j:Int)=some r∧DN m N t j r:=by
 unfold zB
 obtain ⟨r,e,h⟩:=qp (f:=fun w:Int×Int×Bool×(List Int)×(List Int)=>wy lk (iM m N t) (dv m t) cost j ((m:Nat):Int) w.1 w.2.1 w.2.2.1 w.2.2.2.1 w.2.2.2.2)
  (fun (i:Nat) (s:Int×aN)=>(s.1,(i:Int),s.2.fp.cN,s.2.fp.cC,s.2.hq)) m
  (fun n s=>(s.1 = -1∧ ∀i,i<n→ ¬0<t.T i j)∨ ∃b:Nat,s.1=b∧b<n∧0<t.T b j∧s.2=cR (t.T b N / t.T b j)∧ ∀i,i<n→0<t.T i j→t.T b N / t.T b j<t.T i N / t.T i j∨(t.T b N / t.T b j=t.T i N / t.T i j∧t.B b≤t.B i))
  (fun r=>DN m N t j r)
  (fun n a4 s cK=>by
    left
    unfold wy
    have g1:0≤((n:Nat):Int)∧((n:Nat):Int)<((iM m N t).length:Nat):=by unfold iM;rw [cZ];omega
    have g2:(iM m N t)[((n:Nat):Int).toNat]? = some (hc N t n):=by rw [Int.toNat_natCast];exact f9 a4
    have g3:0≤((j:Nat):Int)∧((j:Nat):Int)<((hc N t n).length:Nat):=by unfold hc;rw [cZ];omega
    have g4:(hc N t n)[((j:Nat):Int).toNat]? = some (cR (t.T n j)):=by rw [Int.toNat_natCast];exact f9 (by omega)
    have kh:R ((n:Int)+1)=((n+1:Nat):Int):=fo (by omega)
    have wl:R (len_ aP (hc N t n)-1)=(N:Int):=by
     rw [e5,show (hc N t n).length=N+1 from cZ ..,cy (by omega) (by omega)];omega
    by_cases ak:0<t.T n j
    ·have b0 : ¬jI (t.T n j)≤0:=by have:=qt.2 ak;omega
     have g5:0≤R (len_ aP (hc N t n)-1)∧R (len_ aP (hc N t n)-1)<((hc N t n).length:Nat):=by rw [wl];unfold hc;rw [cZ];omega
     have g6:(hc N t n)[(R (len_ aP (hc N t n)-1)).toNat]? = some (cR (t.T n N)):=by rw [wl,Int.toNat_natCast];exact f9 (by omega)
     have g7:uo (cR (t.T n N)) (cR (t.T n j))=some (cR (t.T n N / t.T n j)):=QH (iK n a4 N (by omega)) (iK n a4 j aF) (by grind) (bc n a4 ak)
     rcases cK with ⟨h1,o⟩|⟨b,h1,aS,jA,o,ab⟩
     ·refine ⟨((n:Int),cR (t.T n N / t.T n j)),dz (by simp only;omega) (bH g1 (aR g2 (bH g3 (aR g4 (aR (pU (iK n a4 j aF)) (dZ b0 (bH g5 (aR g6 (aR g7 (dz (by simp only;omega) ?_)))))))))),.inr ⟨n,rfl,by omega,ak,rfl,fun i aq ig=> ?_⟩⟩
      ·simp only;rw [kh]
      ·by_cases c:i=n
       ·subst c;exact .inr ⟨rfl,Nat.le_refl _⟩
       ·exact (o i (by omega) ig).elim
     ·have g8:uq (cR (t.T n N / t.T n j)) (⟨(⟨s.2.fp.cN,s.2.fp.cC⟩:bq),s.2.hq⟩:aN)=some (if t.T n N / t.T n j<t.T b N / t.T b j then -1 else if t.T b N / t.T b j<t.T n N / t.T n j then 1 else 0):=by
       have:(⟨(⟨s.2.fp.cN,s.2.fp.cC⟩:bq),s.2.hq⟩:aN)=cR (t.T b N / t.T b j):=o
       rw [this]
       exact abC (bc n a4 ak) (bc b (by omega) jA)
      by_cases bu:t.T n N / t.T n j<t.T b N / t.T b j
      ·rw [if_pos bu] at g8
       refine ⟨((n:Int),cR (t.T n N / t.T n j)),dz (by simp only;omega) (bH g1 (aR g2 (bH g3 (aR g4 (aR (pU (iK n a4 j aF)) (dZ b0 (bH g5 (aR g6 (aR g7 (dZ (by simp only;omega) (aR g8 (dz (by omega) ?_)))))))))))),.inr ⟨n,rfl,by omega,ak,rfl,fun i aq ig=> ?_⟩⟩
       ·simp only;rw [kh]
       ·by_cases c:i=n
        ·subst c;exact .inr ⟨rfl,Nat.le_refl _⟩
        ·rcases ab i (by omega) ig with h|⟨h,-⟩
         ·left;grind
         ·left;rw [← h];exact bu
      ·rw [if_neg bu] at g8
       by_cases cg:t.T b N / t.T b j<t.T n N / t.T n j
       ·rw [if_pos cg] at g8
        refine ⟨s,dz (by simp only;omega) (bH g1 (aR g2 (bH g3 (aR g4 (aR (pU (iK n a4 j aF)) (dZ b0 (bH g5 (aR g6 (aR g7 (dZ (by simp only;omega) (aR g8 (dZ (by omega) (h4 (by decide) ?_))))))))))))),.inr ⟨b,h1,by omega,jA,o,fun i aq ig=> ?_⟩⟩
        ·simp only;rw [kh]
        ·by_cases c:i=n
         ·subst c;exact .inl cg
         ·exact ab i (by omega) ig
       ·rw [if_neg cg] at g8
        have L1:t.T b N / t.T b j=t.T n N / t.T n j:=by grind
        have EP:0≤((n:Nat):Int)∧((n:Nat):Int)<((dv m t).length:Nat):=by unfold dv;rw [cZ];omega
        have EQ:(dv m t)[((n:Nat):Int).toNat]? = some ((t.B n:Nat):Int):=by rw [Int.toNat_natCast];exact f9 a4
        have Sh:0≤s.1∧s.1<((dv m t).length:Nat):=by unfold dv;rw [cZ];omega
        have Si:(dv m t)[s.1.toNat]? = some ((t.B b:Nat):Int):=by rw [h1,Int.toNat_natCast];exact f9 (by omega)
        by_cases jk:t.B n<t.B b
        ·refine ⟨((n:Int),cR (t.T n N / t.T n j)),dz (by simp only;omega) (bH g1 (aR g2 (bH g3 (aR g4 (aR (pU (iK n a4 j aF)) (dZ b0 (bH g5 (aR g6 (aR g7 (dZ (by simp only;omega) (aR g8 (dZ (by omega) (f7 rfl (bH EP (aR EQ (bH Sh (aR Si (dz (by omega) ?_)))))))))))))))))),.inr ⟨n,rfl,by omega,ak,rfl,fun i aq ig=> ?_⟩⟩
         ·simp only;rw [kh]
         ·by_cases c:i=n
          ·subst c;exact .inr ⟨rfl,Nat.le_refl _⟩
          ·rcases ab i (by omega) ig with h|⟨h,cD⟩
           ·left;grind
           ·right;exact ⟨by grind,by omega⟩
        ·refine ⟨s,dz (by simp only;omega) (bH g1 (aR g2 (bH g3 (aR g4 (aR (pU (iK n a4 j aF)) (dZ b0 (bH g5 (aR g6 (aR g7 (dZ (by simp only;omega) (aR g8 (dZ (by omega) (f7 rfl (bH EP (aR EQ (bH Sh (aR Si (dZ (by omega) ?_)))))))))))))))))),.inr ⟨b,h1,by omega,jA,o,fun i aq ig=> ?_⟩⟩
         ·simp only;rw [kh]
         ·by_cases c:i=n
          ·subst c;exact .inr ⟨L1,by omega⟩
          ·exact ab i (by omega) ig
    ·have b0:jI (t.T n j)≤0:=by
      have : ¬0<jI (t.T n j):=fun c=>ak (qt.1 c)
      omega
     refine ⟨s,dz (by simp only;omega) (bH g1 (aR g2 (bH g3 (aR g4 (aR (pU (iK n a4 j aF)) (dz b0 ?_)))))),?_⟩
     ·simp only;rw [kh]
     ·rcases cK with ⟨h1,o⟩|⟨b,h1,aS,jA,o,ab⟩
      ·exact .inl ⟨h1,fun i aq=>if c:i=n then c▸ak else o i (by omega)⟩
      ·exact .inr ⟨b,h1,by omega,jA,o,fun i aq ig=>if c:i=n then (ak (c▸ig)).elim else ab i (by omega) ig⟩)
  (fun s cK=>by
    refine ⟨s.1,by unfold wy;exact dZ (by simp only;omega) rfl,?_⟩
    rcases cK with ⟨h1,o⟩|⟨b,h1,aS,jA,o,ab⟩
    ·exact .inl ⟨h1,o⟩
    ·refine .inr ⟨b,h1,aS,jA,fun i aq ig=> ?_,fun i aq ig he=> ?_⟩
     ·rw [← (DC jA ig).1]
      rcases ab i aq ig with h|⟨h,-⟩
      ·exact Rat.le_of_lt h
      ·rw [h];exact Rat.le_refl
     ·rw [← (DC jA ig).2] at he
      rcases ab i aq ig with h|⟨-,h⟩
      ·rw [he] at h;grind
      ·exact h) ((-1:Int),(⟨⟨false,[]⟩,[]⟩:aN)) (.inl ⟨rfl,fun i aq=>by omega⟩)
 refine ⟨r,aR ?_ rfl,h⟩
 unfold IC
 rw [e5,show (iM m N t).length=m from cZ ..]
 exact e
theorem AD {m N:Nat}(t:cI):(mM m N).all (qQ (iM m N t))=true:=by
 rw [List.all_eq_true]
 intro x U
 obtain ⟨i,aq,rfl⟩:=Kf.1 U
 simp only [qQ]
 have h1:(iM m N t).length=m:=cZ ..
 have o:(iM m N t).getD i []=hc N t i:=by
  rw [List.getD_eq_getElem?_getD,show (iM m N t)[i]? = some (hc N t i) from f9 aq];rfl
 rw [h1,o,show (hc N t i).length=N+1 from cZ ..]
 simp [aq]
theorem uM {m N:Nat}(t:cI):(mM m N).map (ix (iM m N t))=iM m N t:=by
 unfold mM
 rw [P3]
 exact e4 fun i aq=>by
  have o:(iM m N t).getD i []=hc N t i:=by
   rw [List.getD_eq_getElem?_getD,show (iM m N t)[i]? = some (hc N t i) from f9 aq];rfl
  simp only [ix]
  rw [o]
  exact List.take_of_length_le (Nat.le_of_eq (cZ ..))
theorem aax {m N:Nat}(hm:m≤1000)(fQ:N<1000)(t:cI)(c:Nat→Rat)(deep:Bool)(G:Nat→Prop)(aer:∀j,G j→ ∀i,i<m→t.B i≠j)
 (b0 : ∀j,j<N→ ∃g,uh ⟨N,iM m N t,dv m t,la N c⟩ (j:Int) deep=some g∧((∀i,i<m→t.B i≠j)→(0<g↔G j))) :
 ∃r,CN deep N (mM m N) (dv m t) (la N c) (iM m N t) (-1) 0=some r∧((r = -1∧ ∀j,j<N→ ¬G j)∨ ∃s:Nat,r=s∧s<N∧G s∧ ∀j,j<s→ ¬G j):=by
 unfold CN
 refine qp (f:=fun w:Int×Int=>tQ deep N (mM m N) (dv m t) (la N c) (iM m N t) w.1 w.2) (fun (i:Nat) (e:Int)=>(e,(i:Int))) N
  (fun n e=>(e = -1∧ ∀j,j<n→ ¬G j)∨ ∃s:Nat,e=s∧s<N∧G s∧ ∀j,j<s→ ¬G j) _ (fun n a4 e cK=> ?_) (fun e cK=> ?_) (-1) (.inl ⟨rfl,fun j aF=>by omega⟩)
 ·rcases cK with ⟨rfl,h⟩|⟨s,rfl,vg,sk,adX⟩
  ·left
   obtain ⟨b,e1,aD⟩:=aav hm t (N:Int) (iM m N t) (la N c) n
   obtain ⟨g,g1,g2⟩:=b0 n a4
   unfold tQ
   cases b with
   | true =>
    obtain ⟨i,aq,Es⟩:=aD.1 rfl
    refine ⟨-1,dz (by simp only;omega) (dz (by simp) (bH (AD t) (aR (by rw [uM];exact e1) (f7 rfl ?_)))),.inl ⟨rfl,fun j aF dH=> ?_⟩⟩
    ·simp only;rw [fo (by omega)]
    ·by_cases c:j=n
     ·subst c;exact aer j dH i aq Es
     ·exact h j (by omega) dH
   | false =>
    have Sj : ∀i,i<m→t.B i≠n:=fun i aq e=>by have:=aD.2 ⟨i,aq,e⟩;simp at this
    by_cases dH:G n
    ·refine ⟨(n:Int),dz (by simp only;omega) (dz (by simp) (bH (AD t) (aR (by rw [uM];exact e1) (h4 rfl (aR (by rw [uM];exact g1) (dz ((g2 Sj).2 dH) ?_)))))),.inr ⟨n,rfl,a4,dH,h⟩⟩
     simp only;rw [fo (by omega)]
    ·refine ⟨-1,dz (by simp only;omega) (dz (by simp) (bH (AD t) (aR (by rw [uM];exact e1) (h4 rfl (aR (by rw [uM];exact g1) (dZ (fun x=>dH ((g2 Sj).1 x)) ?_)))))),.inl ⟨rfl,fun j aF=>if c:j=n then c▸dH else h j (by omega)⟩⟩
     simp only;rw [fo (by omega)]
  ·right
   exact ⟨(s:Int),by unfold tQ;exact dz (by simp only;omega) (dZ (by simp only;omega) rfl),.inr ⟨s,rfl,vg,sk,adX⟩⟩
 ·exact ⟨e,by unfold tQ;exact dZ (by simp only;omega) rfl,cK⟩
theorem cI.Yn {gl m N K:Nat}{A obj:Nat→Nat→Rat}{t:cI}(h:f8 gl m N A t){j:Nat}(g:t.rB m K obj j): ∀i,i<m→t.B i≠j :=
 fun i aq e=>hO.not_zero g fun l _=>by rw [← e];exact h.z6 (obj l) aq
theorem abD {gl m N K:Nat}(hm:m≤1000)(fQ:N<1000){A obj:Nat→Nat→Rat}(deep:Bool)(Inv:cI→Prop)
 (inv : ∀t,Inv t→f8 gl m N A t∧t.lN m N) (gQ : ∀t r s,Inv t→o4 m N K obj (fun _=>True) t r s→Inv (t.cO r s))
 (b0 : ∀t,Inv t→ ∀j,j<N→ ∃g,uh ⟨N,iM m N t,dv m t,la N (t.dA m (obj 0))⟩ (j:Int) deep=some g∧((∀i,i<m→t.B i≠j)→(0<g↔t.rB m K obj j)))
 (iK : ∀t,Inv t→ ∀i,i<m→ ∀j,j≤N→gi (t.T i j)) (bc : ∀t,Inv t→ ∀i,i<m→ ∀j,j≤N→0<t.T i j→gi (t.T i N / t.T i j))
 (ak : ∀t,Inv t→ ∀r k,r<m→k<N→t.T r k≠0→K7 m N t (t.dA m (obj 0)) r k) (t:cI) (ch:Inv t) :
 ∃b db,xc deep N (mM m N) (dv m t) (la N (t.dA m (obj 0))) (iM m N t)=some (b,dv m db,la N (db.dA m (obj 0)),iM m N db)∧Inv db ∧
  ((b=true∧ ∀j,j<N→ ¬db.rB m K obj j)∨(b=false∧ ∃s,s<N∧db.rB m K obj s∧ ∀i,i<m→ ¬0<db.T i s)):=by
 obtain ⟨x,dB,db,e,⟨RK,cK⟩,-,-,en⟩:=OA (gl:=gl) (m:=m) (N:=N) (K:=K) (A:=A) (obj:=obj) (b8:=fun _=>True)
  (f:=fun w:(List Int)×(List aN)×(List (List aN))=>yZ deep N (mM m N) w.1 w.2.1 w.2.2)
  (fun a t=>a=(dv m t,la N (t.dA m (obj 0)),iM m N t)∧Inv t)
  (fun a x t=> ∃b,x=(b,dv m t,la N (t.dA m (obj 0)),iM m N t)∧((b=true∧ ∀j,j<N→ ¬t.rB m K obj j)∨(b=false∧ ∃s,s<N∧t.rB m K obj s∧ ∀i,i<m→ ¬0<t.T i s)))
  (fun a t cW ok nO=>by
    obtain ⟨rfl,cK⟩:=cW
    obtain ⟨r,e1,aD⟩:=aax hm fQ t (t.dA m (obj 0)) deep (t.rB m K obj) (fun j dH=>cI.Yn ok dH) (b0 t cK)
    simp only
    unfold yZ
    rcases aD with ⟨rfl,h⟩|⟨s,rfl,ER,dH,aT⟩
    ·left
     exact ⟨_,aR e1 (dz (by decide) rfl),true,rfl,.inl ⟨rfl,h⟩⟩
    ·obtain ⟨q,q1,a2⟩:=aaw hm fQ t (N:Int) (la N (t.dA m (obj 0))) (j:=s) (by omega) (iK t cK) (fun i aq ig=>bc t cK i aq s (by omega) ig)
     rcases a2 with ⟨rfl,h⟩|⟨b,rfl,aS,jA,h1,o⟩
     ·left
      exact ⟨_,aR e1 (dZ (by omega) (bH (AD t) (aR (by rw [uM];exact q1) (dz (by decide) rfl)))),false,rfl,.inr ⟨rfl,s,ER,dH,h⟩⟩
     ·right
      have dy:o4 m N K obj (fun _=>True) t b s:=⟨ER,trivial,dH,fun j aF _=>aT j aF,aS,jA,h1,o⟩
      refine ⟨_,b,s,aR e1 (dZ (by omega) (bH (AD t) (aR (by rw [uM];exact q1) (dZ (by omega) (aR (aau hm fQ aS (by omega) (by grind) (ak t cK b s aS ER (by grind)) N) rfl))))),dy,?_,gQ t b s cK dy⟩
      refine Prod.ext rfl (Prod.ext ?_ rfl)
      exact e4 fun j _=>by rw [ok.J4 (obj 0) aS ER (by grind)])
  (a:=(dv m t,la N (t.dA m (obj 0)),iM m N t)) (t:=t) ⟨rfl,ch⟩ (inv t ch).1 (inv t ch).2
 obtain ⟨b,rfl,aS⟩:=en
 refine ⟨b,db,?_,cK,aS⟩
 unfold xc
 exact aR (x:=(b,dv m db,la N (db.dA m (obj 0)),iM m N db)) (by unfold ID;exact e) rfl
structure ma (p:hp) (m n:Nat) (a:Nat→Nat→Int) (b:Nat→Int):Prop where
 rows:p.ft=m
 gr:p.ea=n
 gw:p.dI.length=m*n
 K8 : ∀i,i<m→ ∀j,j<n→p.dI[i*n+j]? = some (a i j)
 vB:p.el.length=m
 ya : ∀i,i<m→p.el[i]? = some (b i)
 hm:m≤20
 a4:n≤40
 sE : ∀i,i<m→ ∀j,j<n→ -100≤a i j∧a i j≤100
 vA : ∀i,i<m→ -100≤b i∧b i≤100
theorem sb {p:hp}{m n:Nat}{a:Nat→Nat→Int}{b:Nat→Int}(h:ma p m n a b){i:Nat}(aq:i<m)(j:Nat): -100≤kg m n a b i j∧kg m n a b i j≤100:=by
 have aS:=h.vA i aq
 unfold kg ka
 by_cases c:j<n
 ·have bF:=h.sE i aq j c
  rw [if_pos c];split<;>omega
 ·rw [if_neg c]
  split
  ·split<;>omega
  ·split<;>omega
theorem KK {p:hp}{m n:Nat}{a:Nat→Nat→Int}{b:Nat→Int}(h:ma p m n a b){i:Nat}(aq:i<m)(j:Nat):ev 100 (dE m n a b i j) :=
 ⟨kg m n a b i j,rfl,by have:=sb h aq j;omega⟩
theorem aa7:(1000000000000000000:Int)<B 24:=by decide
theorem JR {K:Nat}{x:Rat}(h:ev K x)(a8:K≤1000000000000000000):gi x:=by
 obtain ⟨z,rfl,cv⟩:=h
 have:=aa7
 exact PF (n:=z) (d:=1) (by decide) (by rw [show ((1:Int):Rat)=1 from rfl];grind) (by omega) (by omega)
theorem KA {p:hp}{m n:Nat}{a:Nat→Nat→Int}{b:Nat→Int}(h:ma p m n a b){i:Nat}(aq:i<m):um p i=some (a7 n (a i)):=by
 have hm:=h.hm
 have a4:=h.a4
 have h1:i*n≤20*40:=Nat.mul_le_mul (by omega) a4
 have o:(i+1)*n≤20*40:=Nat.mul_le_mul (by omega) a4
 have ab:(i+1)*n≤m*n:=Nat.mul_le_mul_right _ aq
 have e1:R ((i:Int)*p.ea)=((i*n:Nat):Int):=by
  rw [h.gr,← Int.natCast_mul,cy (by omega) (by omega)]
 have aD:R (R ((i:Int)+1)*p.ea)=(((i+1)*n:Nat):Int):=by
  rw [h.gr,fo (by omega),← Int.natCast_mul,cy (by omega) (by omega)]
 have av:(i+1)*n=i*n+n:=Nat.succ_mul i n
 unfold um
 rw [e1,aD,Int.toNat_natCast,Int.toNat_natCast,h.gw]
 refine bH (by omega) (bH (by omega) (bH (by omega) ?_))
 congr 1
 apply List.ext_getElem?
 intro j
 rw [List.getElem?_take,List.getElem?_drop]
 by_cases c:j<n
 ·rw [if_pos (by omega),h.K8 i aq j c,f9 c]
 ·rw [if_neg (by omega)]
  symm
  rw [List.getElem?_eq_none_iff,cZ];omega
def gZ (m n:Nat)(a:Nat→Nat→Int)(b:Nat→Int)(i j:Nat):Rat:=if j<n∨j=n+m then dj i (fun k=>dE m n a b k j) else 0
theorem Q3 {p:hp}{m n:Nat}{a:Nat→Nat→Int}{b:Nat→Int}(h:ma p m n a b){i:Nat}(aq:i≤m)(j:Nat):ev 2000 (gZ m n a b i j):=by
 have hm:=h.hm
 unfold gZ
 split
 ·exact (ev.sum fun k a8=>KK h (by omega) j).mono (by omega)
 ·exact ⟨0,rfl,by omega⟩
theorem XF {p:hp}{m n:Nat}{a:Nat→Nat→Int}{b:Nat→Int}(h:ma p m n a b){i:Nat}(aq:i<m)(aS:b i<0)(x0:Int)(a2:List bx)(bO:List (List aN))(b4:List Int)(cJ:List aN):
 (CH (i:Int) (a7 n (a i)) (len_ eI (a7 n (a i))) p.ft p.ea p.dI p.el p.hF x0 a2 bO b4 cJ 0 ([]:List aN) >>= fun c4=>CI (i:Int) p.ft p.ea p.dI p.el p.hF x0 a2 bO b4 cJ 0 c4)=some (a7 (n+m) fun j=>cR (dE m n a b i j)):=by
 have hm:=h.hm
 have a4:=h.a4
 have b0:ka (b i) = -1:=by unfold ka;rw [if_pos aS]
 obtain ⟨s1,e1,-⟩:=hT (f:=fun w:Int×List aN=>wg (i:Int) (a7 n (a i)) ((n:Nat):Int) p.ft p.ea p.dI p.el p.hF x0 a2 bO b4 cJ w.1 w.2)
  (fun (k:Nat) (_:Unit)=>((k:Int),a7 k fun j=>cR (dE m n a b i j))) n (fun _ _=>True) (fun _=>a7 n fun j=>cR (dE m n a b i j))
  (fun k a8 _ _=>by
    refine ⟨(),?_,trivial⟩
    have bF:=h.sE i aq k a8
    unfold wg
    have e:R ((-1:Int)*a i k)=kg m n a b i k:=by
     rw [cy (by omega) (by omega)];unfold kg;rw [if_pos a8,b0]
    refine dz (by simp only;omega) (bH (by rw [cZ];simp only;omega) (aR (x:=a i k) (by simp only;rw [Int.toNat_natCast];exact f9 a8) (aR (x:=cR (dE m n a b i k)) ?_ (bH (by simp only [List.length_append,cZ,List.length_cons,List.length_nil];omega) ?_))))
    ·rw [e];exact rZ (by have:=sb h aq k;rw [mg];omega)
    ·simp only;rw [fo (by omega),k3])
  (fun _ _=>by unfold wg;exact dZ (by simp) rfl) () trivial
 refine aR (x:=a7 n fun j=>cR (dE m n a b i j)) (by unfold CH;rw [fO,cZ];exact e1) ?_
 obtain ⟨s2,aD,-⟩:=hT (f:=fun w:Int×List aN=>wh (i:Int) p.ft p.ea p.dI p.el p.hF x0 a2 bO b4 cJ w.1 w.2)
  (fun (k:Nat) (_:Unit)=>((k:Int),a7 (n+k) fun j=>cR (dE m n a b i j))) m (fun _ _=>True) (fun _=>a7 (n+m) fun j=>cR (dE m n a b i j))
  (fun k a8 _ _=>by
    refine ⟨(),?_,trivial⟩
    unfold wh
    have Ci:kg m n a b i (n+k)=if k=i then 1 else 0:=by
     unfold kg
     rw [if_neg (by omega),if_neg (by omega)]
     by_cases c:k=i
     ·rw [if_pos c,if_pos (by omega)]
     ·rw [if_neg c,if_neg (by omega)]
    refine dz (by simp only;rw [h.rows];omega) (oi (fun c=> ?_) (fun c=> ?_))
    ·have vk:k=i:=by simp at c;omega
     refine aR (x:=cR (dE m n a b i (n+k))) (by unfold dE;rw [Ci,if_pos vk];exact rZ (by rw [mg];omega)) (bH (by simp only [List.length_append,cZ,List.length_cons,List.length_nil];omega) ?_)
     simp only;rw [fo (by omega),← Nat.add_assoc,k3]
    ·have vk:k≠i:=by simp at c;omega
     refine aR (x:=cR (dE m n a b i (n+k))) (by unfold dE;rw [Ci,if_neg vk];exact rZ (by rw [mg];omega)) (bH (by simp only [List.length_append,cZ,List.length_cons,List.length_nil];omega) ?_)
     simp only;rw [fo (by omega),← Nat.add_assoc,k3])
  (fun _ _=>by unfold wh;exact dZ (by simp only;rw [h.rows];omega) rfl) () trivial
 unfold CI
 exact aD
theorem XG {p:hp}{m n:Nat}{a:Nat→Nat→Int}{b:Nat→Int}(h:ma p m n a b){i:Nat}(aq:i<m)(aS:¬b i<0)(x0:Int)(a2:List bx)(bO:List (List aN))(b4:List Int)(cJ:List aN):
 (CC (i:Int) (a7 n (a i)) (len_ eI (a7 n (a i))) p.ft p.ea p.dI p.el p.hF x0 a2 bO b4 cJ 0 ([]:List aN) >>= fun c4=>CD (i:Int) p.ft p.ea p.dI p.el p.hF x0 a2 bO b4 cJ 0 c4)=some (a7 (n+m) fun j=>cR (dE m n a b i j)):=by
 have hm:=h.hm
 have a4:=h.a4
 have b0:ka (b i)=1:=by unfold ka;rw [if_neg aS]
 obtain ⟨s1,e1,-⟩:=hT (f:=fun w:Int×List aN=>vZ (i:Int) (a7 n (a i)) ((n:Nat):Int) p.ft p.ea p.dI p.el p.hF x0 a2 bO b4 cJ w.1 w.2)
  (fun (k:Nat) (_:Unit)=>((k:Int),a7 k fun j=>cR (dE m n a b i j))) n (fun _ _=>True) (fun _=>a7 n fun j=>cR (dE m n a b i j))
  (fun k a8 _ _=>by
    refine ⟨(),?_,trivial⟩
    have bF:=h.sE i aq k a8
    unfold vZ
    have e:R ((1:Int)*a i k)=kg m n a b i k:=by
     rw [cy (by omega) (by omega)];unfold kg;rw [if_pos a8,b0]
    refine dz (by simp only;omega) (bH (by rw [cZ];simp only;omega) (aR (x:=a i k) (by simp only;rw [Int.toNat_natCast];exact f9 a8) (aR (x:=cR (dE m n a b i k)) ?_ (bH (by simp only [List.length_append,cZ,List.length_cons,List.length_nil];omega) ?_))))
    ·rw [e];exact rZ (by have:=sb h aq k;rw [mg];omega)
    ·simp only;rw [fo (by omega),k3])
  (fun _ _=>by unfold vZ;exact dZ (by simp) rfl) () trivial
 refine aR (x:=a7 n fun j=>cR (dE m n a b i j)) (by unfold CC;rw [fO,cZ];exact e1) ?_
 obtain ⟨s2,aD,-⟩:=hT (f:=fun w:Int×List aN=>v5 (i:Int) p.ft p.ea p.dI p.el p.hF x0 a2 bO b4 cJ w.1 w.2)
  (fun (k:Nat) (_:Unit)=>((k:Int),a7 (n+k) fun j=>cR (dE m n a b i j))) m (fun _ _=>True) (fun _=>a7 (n+m) fun j=>cR (dE m n a b i j))
  (fun k a8 _ _=>by
    refine ⟨(),?_,trivial⟩
    unfold v5
    have Ci:kg m n a b i (n+k)=if k=i then 1 else 0:=by
     unfold kg
     rw [if_neg (by omega),if_neg (by omega)]
     by_cases c:k=i
     ·rw [if_pos c,if_pos (by omega)]
     ·rw [if_neg c,if_neg (by omega)]
    refine dz (by simp only;rw [h.rows];omega) (oi (fun c=> ?_) (fun c=> ?_))
    ·have vk:k=i:=by simp at c;omega
     refine aR (x:=cR (dE m n a b i (n+k))) (by unfold dE;rw [Ci,if_pos vk];exact rZ (by rw [mg];omega)) (bH (by simp only [List.length_append,cZ,List.length_cons,List.length_nil];omega) ?_)
     simp only;rw [fo (by omega),← Nat.add_assoc,k3]
    ·have vk:k≠i:=by simp at c;omega
     refine aR (x:=cR (dE m n a b i (n+k))) (by unfold dE;rw [Ci,if_neg vk];exact rZ (by rw [mg];omega)) (bH (by simp only [List.length_append,cZ,List.length_cons,List.length_nil];omega) ?_)
     simp only;rw [fo (by omega),← Nat.add_assoc,k3])
  (fun _ _=>by unfold v5;exact dZ (by simp only;rw [h.rows];omega) rfl) () trivial
 unfold CD
 exact aD
theorem OI {p:hp}{m n:Nat}{a:Nat→Nat→Int}{b:Nat→Int}(h:ma p m n a b){i:Nat}(aq:i<m)(a2:List (List aN))(bO:List bx)(b4:List Int)(bc:a2[i]? = some (a7 (n+m+1) fun j=>cR (dE m n a b i j))):
 y9 (i:Int) i (n+m+1) (((n+m+1:Nat):Nat):Int) p.ft p.ea p.dI p.el p.hF ((n+m:Nat):Int) a2 bO b4 0 (a7 (n+m+1) fun j=>cR (gZ m n a b i j))=some (a7 (n+m+1) fun j=>cR (gZ m n a b (i+1) j)):=by
 have hm:=h.hm
 have a4:=h.a4
 have aes : ∀j,gi (dE m n a b i j):=fun j=>JR (KK h aq j) (by omega)
 have f1 : ∀j,gi (gZ m n a b i j):=fun j=>JR (Q3 h (by omega) j) (by omega)
 have f2 : ∀j,gi (gZ m n a b (i+1) j):=fun j=>JR (Q3 h (by omega) j) (by omega)
 have es : ∀j,(j<n∨j=n+m)→gZ m n a b i j+dE m n a b i j=gZ m n a b (i+1) j:=fun j aF=>by
  unfold gZ;rw [if_pos aF,if_pos aF,dj]
 have aet : ∀j,¬(j<n∨j=n+m)→gZ m n a b i j=gZ m n a b (i+1) j:=fun j aF=>by
  unfold gZ;rw [if_neg aF,if_neg aF]
 obtain ⟨s,e,-⟩:=hT (f:=fun w:Int×List aN=>wi (i:Int) i (n+m+1) (((n+m+1:Nat):Nat):Int) p.ft p.ea p.dI p.el p.hF ((n+m:Nat):Int) a2 bO b4 w.1 w.2)
  (fun (k:Nat) (_:Unit)=>((k:Int),a7 (n+m+1) fun j=>cR (if j<k then gZ m n a b (i+1) j else gZ m n a b i j))) (n+m+1) (fun _ _=>True) (fun _=>a7 (n+m+1) fun j=>cR (gZ m n a b (i+1) j))
  (fun k a8 _ _=>by
    refine ⟨(),?_,trivial⟩
    have fin : ∀r,r=gZ m n a b (i+1) k→(R ((k:Int)+1),(a7 (n+m+1) fun j=>cR (if j<k then gZ m n a b (i+1) j else gZ m n a b i j)).set (0+((k:Int)).toNat) (cR r))=(((k+1:Nat):Int),a7 (n+m+1) fun j=>cR (if j<k+1 then gZ m n a b (i+1) j else gZ m n a b i j)):=by
     intro r ar
     rw [fo (by omega),Int.toNat_natCast,Nat.zero_add,k4]
     congr 1
     refine e4 fun j _=> ?_
     by_cases c:j=k
     ·subst c;rw [if_pos rfl,if_pos (by omega),ar]
     ·rw [if_neg c]
      by_cases cg:j<k
      ·rw [if_pos cg,if_pos (by omega)]
      ·rw [if_neg cg,if_neg (by omega)]
    have SK : ∀ {x:Option ((Int×List aN)⊕List aN)},(k<n∨k=n+m)→(∀r,(R ((k:Int)+1),(a7 (n+m+1) fun j=>cR (if j<k then gZ m n a b (i+1) j else gZ m n a b i j)).set (0+((k:Int)).toNat) (cR r))=(((k+1:Nat):Int),a7 (n+m+1) fun j=>cR (if j<k+1 then gZ m n a b (i+1) j else gZ m n a b i j))→some (Sum.inl (R ((k:Int)+1),(a7 (n+m+1) fun j=>cR (if j<k then gZ m n a b (i+1) j else gZ m n a b i j)).set (0+((k:Int)).toNat) (cR r)))=x) →
     (if 0≤(k:Int)∧(k:Int)<(((a7 (n+m+1) fun j=>cR (if j<k then gZ m n a b (i+1) j else gZ m n a b i j)).length:Nat):Int) then
       (a7 (n+m+1) fun j=>cR (if j<k then gZ m n a b (i+1) j else gZ m n a b i j))[(0+((k:Int)).toNat)]? >>= fun gf =>
       a2[i]? >>= fun m1 =>
       if 0≤(k:Int)∧(k:Int)<((n+m+1:Nat):Int) then
       m1[(0+((k:Int)).toNat)]? >>= fun ew =>
       q8 gf ew >>= fun c5 =>
       if (0+((k:Int)).toNat)<(a7 (n+m+1) fun j=>cR (if j<k then gZ m n a b (i+1) j else gZ m n a b i j)).length then
       some (.inl (R ((k:Int)+(1:Int)),(a7 (n+m+1) fun j=>cR (if j<k then gZ m n a b (i+1) j else gZ m n a b i j)).set (0+((k:Int)).toNat) c5))
       else none
       else none
       else none)=x:=by
     intro x EB U
     refine bH (by rw [cZ];omega) (aR (x:=cR (gZ m n a b i k)) (by rw [Int.toNat_natCast,h7 a8,if_neg (by omega)]) (aR bc (bH (by omega) (aR (x:=cR (dE m n a b i k)) (by rw [Int.toNat_natCast];exact h7 a8) (aR (Kz (f1 k) (aes k) (by rw [es k EB];exact f2 k)) (bH (by rw [cZ,Int.toNat_natCast];omega) ?_))))))
     exact U _ (fin _ (es k EB))
    unfold wi
    refine dz (by simp only;omega) (oi (fun c=> ?_) (fun c=> ?_))
    ·have L2:k<n:=by have:=of_decide_eq_true c;rw [h.gr] at this;simp only at this;omega
     exact SK (.inl L2) fun r ar=>by rw [ar]
    ·have L2 : ¬k<n:=by have:=of_decide_eq_false c;rw [h.gr] at this;simp only at this;omega
     refine oi (fun cg=> ?_) (fun cg=> ?_)
     ·have Sk:k=n+m:=by simp at cg;omega
      exact SK (.inr Sk) fun r ar=>by rw [ar]
     ·have Sk:k≠n+m:=by simp at cg;omega
      simp only
      rw [fo (by omega)]
      congr 3
      refine e4 fun j _=> ?_
      by_cases jk:j=k
      ·subst jk;rw [if_neg (by omega),if_pos (by omega),aet j (by omega)]
      ·by_cases pF:j<k
       ·rw [if_pos pF,if_pos (by omega)]
       ·rw [if_neg pF,if_neg (by omega)])
  (fun _ _=>by
    unfold wi
    refine dZ (by simp) ?_
    simp only
    congr 2
    exact e4 fun j aF=>by rw [if_pos aF]) () trivial
 unfold y9
 have bS:(a7 (n+m+1) fun j=>cR (if j<0 then gZ m n a b (i+1) j else gZ m n a b i j))=a7 (n+m+1) fun j=>cR (gZ m n a b i j):=e4 fun j _=>by rw [if_neg (by omega)]
 rw [bS] at e
 exact e
theorem uT {K:Nat}{d x y:Rat}(bJ:ev K d)(a3:ev K y)(h0:d≠0)(e:d*x=y)(hD:(K:Int)<B 24):gi x:=by
 obtain ⟨z,rfl,cv⟩:=bJ
 obtain ⟨w,rfl,hw⟩:=a3
 exact PF (n:=w) (d:=z) (fun c=>h0 (by rw [c];rfl)) e (by omega) (by omega)
@[irreducible] def fH:Nat:=qf 100 20
theorem AS:qf 100 20=fH:=by unfold fH;rfl
theorem abE:((21*100*(fH*fH):Nat):Int)<B 24:=by decide +kernel
theorem pY:0<fH:=by decide +kernel
structure kM (m N:Nat) (A:Nat→Nat→Rat) (t:cI):Prop where
 ok:f8 m m N A t
 nO:t.lN m N
 sF:t.D m A≠0
structure Small (m N:Nat) (A:Nat→Nat→Rat):Prop where
 hm:m≤20
 tH : ∀c,c<m→ ∀j,j≤N→ev 100 (A c j)
theorem kM.B1 {m N:Nat}{A:Nat→Nat→Rat}(s:Small m N A){t:cI}(h:kM m N A t):ev fH (t.D m A):=by
 refine ev.mono (xR fun i aq c bf=>s.tH c bf _ (Nat.le_of_lt (h.ok.lg i aq))) (AS▸xz (by omega) s.hm)
theorem kM.ty {m N:Nat}{A:Nat→Nat→Rat}(s:Small m N A){t:cI}(h:kM m N A t){i j:Nat}(aq:i<m)(aF:j≤N):ev fH (t.T i j*t.D m A):=by
 rw [← h.ok.vw aq aF]
 refine ev.mono (xR fun k a8 c bf=> ?_) (AS▸xz (by omega) s.hm)
 simp only [gb]
 split
 ·exact s.tH c bf j aF
 ·exact s.tH c bf _ (Nat.le_of_lt (h.ok.lg k a8))
theorem uU {k:Nat}(h:k≤21*100*(fH*fH)):((k:Nat):Int)<B 24:=by have:=abE;omega
theorem K9:fH≤21*100*(fH*fH):=by
 have h1:fH*1≤fH*fH:=Nat.mul_le_mul_left _ pY
 omega
theorem kM.Ro {m N:Nat}{A:Nat→Nat→Rat}(s:Small m N A){t:cI}(h:kM m N A t){i j:Nat}(aq:i<m)(aF:j≤N):gi (t.T i j) :=
 uT (h.B1 s) (h.ty s aq aF) h.sF (by grind) (uU K9)
theorem kM.acJ {m N:Nat}{A:Nat→Nat→Rat}(s:Small m N A){t:cI}(h:kM m N A t){i j:Nat}(aq:i<m)(aF:j≤N)(ak:0<t.T i j):gi (t.T i N / t.T i j) :=
 uT (h.ty s aq aF) (h.ty s aq (Nat.le_refl _)) (fun c=>by
  have h1:=h.sF
  have:t.T i j≠0:=by grind
  grind) (by grind) (uU K9)
theorem kM.Sl {m N:Nat}{A:Nat→Nat→Rat}(s:Small m N A){t:cI}(h:kM m N A t){I:Nat→Rat}(ap:∀j,j≤N→ev 100 (I j)){j:Nat}(aF:j≤N):ev (21*100*fH) (t.dA m I j*t.D m A):=by
 have hm:=s.hm
 unfold cI.dA
 have e:(I j-dj m (fun i=>I (t.B i)*t.T i j))*t.D m A=I j*t.D m A-dj m (fun i=>I (t.B i)*(t.T i j*t.D m A)):=by
  rw [h5 (f:=fun i=>I (t.B i)*(t.T i j*t.D m A)) (g:=fun i=>(I (t.B i)*t.T i j)*t.D m A) (fun i _=>by grind),z5];grind
 rw [e]
 refine ev.mono (((ap j aF).mul (h.B1 s)).sub (ev.sum fun i aq=>(ap _ (Nat.le_of_lt (h.ok.lg i aq))).mul (h.ty s aq aF))) ?_
 have:m*(100*fH)≤20*(100*fH):=Nat.mul_le_mul_right _ hm
 omega
theorem Rp:21*100*fH≤21*100*(fH*fH):=by
 have h1:fH*1≤fH*fH:=Nat.mul_le_mul_left _ pY
 omega
theorem kM.La {m N:Nat}{A:Nat→Nat→Rat}(s:Small m N A){t:cI}(h:kM m N A t){I:Nat→Rat}(ap:∀j,j≤N→ev 100 (I j)){j:Nat}(aF:j≤N):gi (t.dA m I j) :=
 uT ((h.B1 s).mono (Nat.le_trans (by omega:fH≤21*100*fH) (Nat.le_refl _))) (h.Sl s ap aF) h.sF (by grind) (uU Rp)
theorem kM.gQ {m N K:Nat}{A obj:Nat→Nat→Rat}{b8:Nat→Prop}{t:cI}(h:kM m N A t){r k:Nat}(b:o4 m N K obj b8 t r k):kM m N A (t.cO r k) :=
 ⟨b.ok h.ok,b.KY h.nO,by
  rw [h.ok.xZ b.ar b.b0]
  have h1:=b.pos
  have o:=h.sF
  intro c
  have:t.T r k≠0:=by grind
  grind⟩
end Go.Proofs.YtamedijmgkdlgabGreat
namespace Go.Proofs.YtamedijmgkdlgabGreat
set_option linter.unusedVariables false
set_option linter.unusedSimpArgs false
open Go Go.VL
theorem kM.acK {m N:Nat}{A:Nat→Nat→Rat}(s:Small m N A){t:cI}(h:kM m N A t){I:Nat→Rat}(ap:∀j,j≤N→ev 100 (I j)){r k:Nat}(ar:r<m)(a8:k<N)(ak:t.T r k≠0)(cD:f8 m m N A (t.cO r k)):K7 m N t (t.dA m I) r k:=by
 have bJ:=h.sF
 have p7:(t.cO r k).D m A≠0:=by rw [h.ok.xZ ar a8];grind
 have eN:(t.cO r k).D m A=t.T r k*t.D m A:=h.ok.xZ ar a8
 have pb:ev fH ((t.cO r k).D m A):=ev.mono (xR fun i aq c bf=>s.tH c bf _ (Nat.le_of_lt (cD.lg i aq))) (AS▸xz (by omega) s.hm)
 have vn : ∀i,i<m→ ∀j,j≤N→ev fH ((t.cO r k).T i j*(t.cO r k).D m A):=fun i aq j aF=>by
  rw [← cD.vw aq aF]
  refine ev.mono (xR fun k a8 c bf=> ?_) (AS▸xz (by omega) s.hm)
  simp only [gb]
  split
  ·exact s.tH c bf j aF
  ·exact s.tH c bf _ (Nat.le_of_lt (cD.lg k a8))
 have SL:ev (21*100*(fH*fH)) (t.D m A*(t.cO r k).D m A):=((h.B1 s).mul pb).mono (by omega)
 have Sm:t.D m A*(t.cO r k).D m A≠0:=by grind
 refine ⟨fun i aq j aF=>h.Ro s aq aF,fun i aq j aF=>uT pb (vn i aq j aF) p7 (by grind) (uU K9),fun i aq _ j aF=> ?_,fun j aF=>h.La s ap aF,fun j aF=> ?_,fun j aF=> ?_⟩
 ·refine uT SL (((h.ty s aq (Nat.le_of_lt a8)).mul (h.ty s ar aF)).neg.mono (by omega)) Sm ?_ (uU (Nat.le_refl _))
  rw [eN];grind
 ·rw [← h.ok.J4 I ar a8 ak]
  have g2:ev (21*100*fH) ((t.cO r k).dA m I j*(t.cO r k).D m A):=by
   have hm:=s.hm
   unfold cI.dA
   have e:(I j-dj m (fun i=>I ((t.cO r k).B i)*(t.cO r k).T i j))*(t.cO r k).D m A=I j*(t.cO r k).D m A-dj m (fun i=>I ((t.cO r k).B i)*((t.cO r k).T i j*(t.cO r k).D m A)):=by
    rw [h5 (f:=fun i=>I ((t.cO r k).B i)*((t.cO r k).T i j*(t.cO r k).D m A)) (g:=fun i=>(I ((t.cO r k).B i)*(t.cO r k).T i j)*(t.cO r k).D m A) (fun i _=>by grind),z5];grind
   rw [e]
   refine ev.mono (((ap j aF).mul pb).sub (ev.sum fun i aq=>(ap _ (Nat.le_of_lt (cD.lg i aq))).mul (vn i aq j aF))) ?_
   have:m*(100*fH)≤20*(100*fH):=Nat.mul_le_mul_right _ hm
   omega
  exact uT (pb.mono (by omega)) g2 p7 (by grind) (uU Rp)
 ·refine uT SL (((h.Sl s ap (Nat.le_of_lt a8)).mul (h.ty s ar aF)).neg.mono (by
   rw [Nat.mul_assoc];exact Nat.le_refl _)) Sm ?_ (uU (Nat.le_refl _))
  rw [eN];grind
theorem aay {p:hp}{m n:Nat}{a:Nat→Nat→Int}{b:Nat→Int}(h:ma p m n a b):
 zh p=some (((n+m:Nat):Int),mM m (n+m),dv m (ia m n a b),la (n+m) ((ia m n a b).dA m (gG m n)),iM m (n+m) (ia m n a b)):=by
 have hm:=h.hm
 have a4:=h.a4
 have fQ:R (p.ea+p.ft)=((n+m:Nat):Int):=by rw [h.gr,h.rows,← Int.natCast_add,cy (by omega) (by omega)]
 unfold zh
 rw [fQ]
 obtain ⟨s1,e1,-⟩:=hT (f:=fun w:Int×List aN=>we p.ft p.ea p.dI p.el p.hF ((n+m:Nat):Int) w.1 w.2)
  (fun (k:Nat) (_:Unit)=>((k:Int),a7 k fun j=>cR (0:Rat))) (n+m+1) (fun _ _=>True) (fun _=>a7 (n+m+1) fun j=>cR (0:Rat))
  (fun k a8 _ _=>by
    refine ⟨(),?_,trivial⟩
    unfold we
    refine dz (by simp only;omega) (aR (x:=cR (0:Rat)) (rZ (n:=0) (by rw [mg];omega)) (bH (by simp only [List.length_append,cZ,List.length_cons,List.length_nil];omega) ?_))
    simp only;rw [fo (by omega),k3])
  (fun _ _=>by unfold we;exact dZ (by simp only;omega) rfl) () trivial
 refine aR (x:=a7 (n+m+1) fun j=>cR (0:Rat)) (by unfold H2;exact e1) ?_
 obtain ⟨s2,aD,-⟩:=hT (f:=fun w:Int×(List bx)×(List (List aN))×(List Int)×(List aN)=>v7 p.ft p.ea p.dI p.el p.hF ((n+m:Nat):Int) w.1 w.2.1 w.2.2.1 w.2.2.2.1 w.2.2.2.2)
  (fun (i:Nat) (_:Unit)=>((i:Int),a7 i (fun k=>some (k,n+m+1)),a7 i (hc (n+m) (ia m n a b)),a7 i (fun k=>((n+k:Nat):Int)),a7 (n+m+1) fun j=>cR (gZ m n a b i j))) m (fun _ _=>True)
  (fun _=>(mM m (n+m),iM m (n+m) (ia m n a b),dv m (ia m n a b),a7 (n+m+1) fun j=>cR (gZ m n a b m j)))
  (fun i aq _ _=>by
    refine ⟨(),?_,trivial⟩
    have aS:=h.vA i aq
    have hlen:((a7 (n+m) fun j=>cR (dE m n a b i j))++[cR (dE m n a b i (n+m))])=hc (n+m) (ia m n a b) i:=(k3 ..).symm
    have B2:(hc (n+m) (ia m n a b) i).length=n+m+1:=cZ ..
    have hw:R (p.ea+(i:Int))=((n+i:Nat):Int):=by rw [h.gr,← Int.natCast_add,cy (by omega) (by omega)]
    have dH:(a7 i (hc (n+m) (ia m n a b))++[hc (n+m) (ia m n a b) i])[i]? = some (hc (n+m) (ia m n a b) i):=by rw [← k3];exact f9 (by omega)
    have Sn:(a7 i (hc (n+m) (ia m n a b))).length=i:=cZ ..
    have pE:kg m n a b i (n+m)=ka (b i)*b i:=by unfold kg;rw [if_neg (by omega),if_pos rfl]
    have fin:(some (Sum.inl (R ((i:Int)+1),(a7 i (fun k=>(some (k,n+m+1):bx)))++[some (i,n+m+1)],a7 i (hc (n+m) (ia m n a b))++[hc (n+m) (ia m n a b) i],(a7 i fun k=>((n+k:Nat):Int))++[((n+i:Nat):Int)],a7 (n+m+1) fun j=>cR (gZ m n a b (i+1) j))):Option ((Int×(List bx)×(List (List aN))×(List Int)×(List aN))⊕((List bx)×(List (List aN))×(List Int)×(List aN)))) =
     some (Sum.inl (((i+1:Nat):Int),a7 (i+1) (fun k=>some (k,n+m+1)),a7 (i+1) (hc (n+m) (ia m n a b)),a7 (i+1) (fun k=>((n+k:Nat):Int)),a7 (n+m+1) fun j=>cR (gZ m n a b (i+1) j))):=by
     rw [fo (by omega),k3 i (fun k=>(some (k,n+m+1):bx)),k3 i (hc (n+m) (ia m n a b)),k3 i (fun k=>((n+k:Nat):Int))]
    unfold v7
    refine dz (by simp only;rw [h.rows];omega) (bH (by simp only;rw [h.vB];omega) (aR (x:=b i) (by simp only;rw [Int.toNat_natCast];exact h.ya i aq) (oi (fun c=> ?_) (fun c=> ?_))))
    ·have nb:b i<0:=of_decide_eq_true c
     have b0:ka (b i) = -1:=by unfold ka;rw [if_pos nb]
     refine aR (KA h aq) ?_
     have ar:=XF h aq nb ((n+m:Nat):Int) (a7 i (fun k=>some (k,n+m+1))) (a7 i (hc (n+m) (ia m n a b))) (a7 i (fun k=>((n+k:Nat):Int))) (a7 (n+m+1) fun j=>cR (gZ m n a b i j))
     rw [Option.bind_eq_bind,Option.bind_eq_some_iff] at ar
     obtain ⟨c4,hR,vi⟩:=ar
     refine aR hR (aR vi (aR (x:=cR (dE m n a b i (n+m))) (by
      have e:R ((-1:Int)*b i)=kg m n a b i (n+m):=by rw [pE,b0,cy (by omega) (by omega)]
      rw [e];exact rZ (by have:=sb h aq (n+m);rw [mg];omega)) ?_))
     simp only
     rw [hlen,Sn,B2,hw]
     refine bH (by omega) (aR dH (aR (OI h aq _ _ _ dH) (bH (by simp only [List.length_append,cZ,List.length_cons,List.length_nil];omega) (bH (by simp only [List.length_append,cZ,List.length_cons,List.length_nil];omega) fin))))
    ·have nb : ¬b i<0:=of_decide_eq_false c
     have b0:ka (b i)=1:=by unfold ka;rw [if_neg nb]
     refine aR (KA h aq) ?_
     have ar:=XG h aq nb ((n+m:Nat):Int) (a7 i (fun k=>some (k,n+m+1))) (a7 i (hc (n+m) (ia m n a b))) (a7 i (fun k=>((n+k:Nat):Int))) (a7 (n+m+1) fun j=>cR (gZ m n a b i j))
     rw [Option.bind_eq_bind,Option.bind_eq_some_iff] at ar
     obtain ⟨c4,hR,vi⟩:=ar
     refine aR hR (aR vi (aR (x:=cR (dE m n a b i (n+m))) (by
      have e:R ((1:Int)*b i)=kg m n a b i (n+m):=by rw [pE,b0,cy (by omega) (by omega)]
      rw [e];exact rZ (by have:=sb h aq (n+m);rw [mg];omega)) ?_))
     simp only
     rw [hlen,Sn,B2,hw]
     refine bH (by omega) (aR dH (aR (OI h aq _ _ _ dH) (bH (by simp only [List.length_append,cZ,List.length_cons,List.length_nil];omega) (bH (by simp only [List.length_append,cZ,List.length_cons,List.length_nil];omega) fin)))))
  (fun _ _=>by unfold v7;exact dZ (by simp only;rw [h.rows];omega) rfl) () trivial
 have e0:(a7 (n+m+1) fun j=>cR (gZ m n a b 0 j))=a7 (n+m+1) fun j=>cR (0:Rat):=e4 fun j _=>by
  unfold gZ;split<;>rfl
 rw [e0] at aD
 refine aR (x:=(mM m (n+m),iM m (n+m) (ia m n a b),dv m (ia m n a b),a7 (n+m+1) fun j=>cR (gZ m n a b m j))) (by unfold Hy;exact aD) ?_
 congr 1
 refine Prod.ext rfl (Prod.ext rfl (Prod.ext rfl (Prod.ext ?_ rfl)))
 refine e4 fun j aF=> ?_
 rw [Zi]
 unfold gZ gG
 by_cases c:j<n∨j=n+m
 ·rw [if_pos c,if_neg (by omega)];congr 1;grind
 ·rw [if_neg c,if_pos (by omega)]
  obtain ⟨k,rfl⟩ : ∃k,j=n+k:=⟨j-n,by omega⟩
  rw [nV (k:=k) (by omega) (fun i _ dr=>by rw [rX (by omega),if_neg (Ne.symm dr)]),rX (by omega),if_pos rfl,show (-1:Rat)+1=0 by grind]
theorem J7 (l:List Int)(aT:l.length≤1000)(h:∀x∈l,-100≤x∧x≤100):uv l=some true:=by
 unfold uv Jg
 rw [fO]
 obtain ⟨s,e,-⟩:=hT (f:=fun w:Int=>wW l (l.length:Nat) w) (fun (i:Nat) (_:Unit)=>(i:Int)) l.length (fun _ _=>True) (fun _=>(Sum.inl ():Unit⊕Unit))
  (fun i aq _ _=>by
    refine ⟨(),?_,trivial⟩
    have U:=h l[i] (List.getElem_mem aq)
    unfold wW
    refine dz (by omega) (bH (by omega) (aR (x:=l[i]) (by rw [Int.toNat_natCast];exact List.getElem?_eq_getElem aq) (aR (pS _ _ _) (f7 (decide_eq_true (by omega)) ?_))))
    rw [fo (by omega)])
  (fun _ _=>by unfold wW;exact dZ (by omega) rfl) () trivial
 exact aR e rfl
theorem XY {p:hp}{m n:Nat}{a:Nat→Nat→Int}{b:Nat→Int}(h:ma p m n a b)(EZ:p.hF.length=n)(Cj:∀x∈p.hF,-100≤x∧x≤100):zn p=some true:=by
 have hm:=h.hm
 have a4:=h.a4
 have EI:m*n≤20*40:=Nat.mul_le_mul hm a4
 have hA : ∀x∈p.dI,-100≤x∧x≤100:=fun x U=>by
  obtain ⟨k,a8,rfl⟩:=List.getElem_of_mem U
  rw [h.gw] at a8
  have Bo:0<n:=by
   rcases Nat.eq_zero_or_pos n with c|c
   ·rw [c] at a8;omega
   ·exact c
  have h1:k / n<m:=Nat.div_lt_of_lt_mul (by rw [Nat.mul_comm];exact a8)
  have o:k % n<n:=Nat.mod_lt _ Bo
  have ab:=h.K8 (k / n) h1 (k % n) o
  have av:k / n*n+k % n=k:=by rw [Nat.mul_comm];exact Nat.div_add_mod k n
  rw [av,List.getElem?_eq_getElem (by rw [h.gw];exact a8)] at ab
  rw [Option.some.inj ab]
  exact h.sE _ h1 _ o
 have g9 : ∀x∈p.el,-100≤x∧x≤100:=fun x U=>by
  obtain ⟨k,a8,rfl⟩:=List.getElem_of_mem U
  have ab:=h.ya k (by rw [← h.vB];exact a8)
  rw [List.getElem?_eq_getElem a8] at ab
  rw [Option.some.inj ab]
  exact h.vA _ (by rw [← h.vB];exact a8)
 unfold zn
 rw [h.rows,h.gr]
 refine aR (pS _ _ _) (f7 (decide_eq_true (by omega)) (aR (pS _ _ _) (f7 (decide_eq_true (by omega)) ?_)))
 refine f7 (sn (by rw [fO,h.gw,← Int.natCast_mul,cy (by omega) (by omega)])) (f7 (sn (by rw [fO,h.vB])) (f7 (sn (by rw [fO,EZ])) ?_))
 exact aR (J7 _ (by rw [h.gw];omega) hA) (f7 rfl (aR (J7 _ (by rw [h.vB];omega) g9) (f7 rfl (aR (J7 _ (by rw [EZ];omega) Cj) rfl))))
theorem Ki (m n j:Nat):ev 100 (gG m n j):=by
 unfold gG;split
 ·exact ⟨-1,rfl,by omega⟩
 ·exact ⟨0,rfl,by omega⟩
theorem Ee {g:Nat→Rat}:hO 1 g↔0<g 0:=by
 constructor
 ·rintro ⟨l,h1,o,-⟩;rw [show l=0 by omega] at o;exact o
 ·intro h;exact ⟨0,by omega,h,fun gk aT=>by omega⟩
theorem JS {p:hp}{m n:Nat}{a:Nat→Nat→Int}{b:Nat→Int}(h:ma p m n a b):Small m (n+m) (dE m n a b):=⟨h.hm,fun c bf j _=>KK h bf j⟩
theorem ZL {p:hp}{m n:Nat}{a:Nat→Nat→Int}{b:Nat→Int}(h:ma p m n a b):
 ∃t,xc false ((n+m:Nat):Int) (mM m (n+m)) (dv m (ia m n a b)) (la (n+m) ((ia m n a b).dA m (gG m n))) (iM m (n+m) (ia m n a b))=some (true,dv m t,la (n+m) (t.dA m (gG m n)),iM m (n+m) t) ∧
  kM m (n+m) (dE m n a b) t∧(t.dA m (gG m n) (n+m)=0↔te m n a b):=by
 have hm:=h.hm
 have a4:=h.a4
 have sG:=JS h
 obtain ⟨q,t,e,cK,en⟩:=abD (gl:=m) (m:=m) (N:=n+m) (K:=1) (by omega) (by omega) (A:=dE m n a b) (obj:=fun _=>gG m n) false (kM m (n+m) (dE m n a b)) (fun t ch=>⟨ch.ok,ch.nO⟩) (fun t r s ch b=>ch.gQ b)
  (fun t ch j aF=>⟨jI (t.dA m (gG m n) j),aa6 (by omega) _ _ _ _ (by omega) (ch.La sG (fun j _=>Ki m n j) (by omega)),fun _=>by rw [qt];exact (Ee (g:=fun _=>t.dA m (gG m n) j)).symm⟩)
  (fun t ch i aq j aF=>ch.Ro sG aq aF) (fun t ch i aq j aF ak=>ch.acJ sG aq aF ak)
  (fun t ch r k ar a8 ak=>ch.acK sG (fun j _=>Ki m n j) ar a8 ak (ch.ok.cO ar a8 ak)) (ia m n a b) ⟨P4,O1,Pu⟩
 rcases en with ⟨rfl,en⟩|⟨-,s,b0,dH,jv⟩
 ·refine ⟨t,e,cK,fun h0=>N9 cK.ok cK.nO (Oa cK.nO h0 cK.ok.lg),fun adY=>OB cK.ok cK.nO (fun j aF=> ?_) adY⟩
  have:=en j (by omega)
  have o : ¬0<t.dA m (gG m n) j:=fun c=>this (Ee.2 c)
  grind
 ·obtain ⟨i,aq,ak⟩:=NS cK.ok b0 (Ee.1 dH)
  exact (jv i aq ak).elim
theorem Xr {p:hp}{m n:Nat}{a:Nat→Nat→Int}{b:Nat→Int}(h:ma p m n a b)(EZ:p.hF.length=n)(Cj:∀x∈p.hF,-100≤x∧x≤100): ∃r,t8 p=some r∧(r=true↔te m n a b):=by
 have hm:=h.hm
 have a4:=h.a4
 obtain ⟨t,e,cK,b0⟩:=ZL h
 unfold t8
 refine ⟨_,aR (XY h EZ Cj) (f7 rfl (aR (aay h) (aR e (bH (by simp only;unfold la;rw [cZ];omega) (aR (x:=cR (t.dA m (gG m n) (n+m))) (by simp only;rw [Int.toNat_natCast];exact h7 (by omega)) (aR (pU (cK.La (JS h) (fun j _=>Ki m n j) (Nat.le_refl _))) rfl)))))),?_⟩
 rw [← b0,beq_iff_eq,ri]
def b5 (x:Rat):bq:=gX x.num
@[irreducible] def ku:Nat:=1000000000 ^ 40
theorem Rq:((ku:Nat):Int)+((ku:Nat):Int)<B 50:=by decide +kernel
theorem abF {K:Nat}{x:Rat}(h:ev K x):((x.num:Int):Rat)=x∧x.num.natAbs≤K:=by
 obtain ⟨z,rfl,cv⟩:=h
 rw [Rat.num_intCast];exact ⟨rfl,cv⟩
theorem oy (z:Int):b5 (z:Rat)=gX z:=by unfold b5;rw [Rat.num_intCast]
theorem xT {x:Rat}(h:ev ku x):(L x.num.natAbs).length≤50:=by
 have:=Rq
 have h1:=(abF h).2
 exact (iX (by omega)).2 (by omega)
theorem xB {x y:Rat}(U:ev ku x)(a3:ev ku y):pd (b5 x) (b5 y)=some (b5 (x*y)):=by
 have h1:=xT U
 have o:=xT a3
 obtain ⟨a,rfl,-⟩:=U;obtain ⟨b,rfl,-⟩:=a3
 rw [Rat.num_intCast] at h1 o
 rw [oy,oy,← Rat.intCast_mul,oy]
 exact Zz (by omega) (by omega)
theorem PG {x y:Rat}(U:ev ku x)(a3:ev ku y):tY (b5 x) (b5 y)=some (b5 (x-y)):=by
 have g9:=Rq
 obtain ⟨a,rfl,bF⟩:=U;obtain ⟨b,rfl,aS⟩:=a3
 rw [oy,oy,← Rat.intCast_sub,oy]
 exact ZH (by omega) (by omega)
theorem s4 {x:Rat}(U:ev ku x):oV (b5 x)=some (jI x):=by
 obtain ⟨a,rfl,bF⟩:=U
 rw [oy]
 unfold oV jI
 simp only [fO]
 have e:(((L a.natAbs).length:Nat):Int)=0↔a=0:=by rw [K6 (by omega)];omega
 show (if (((L a.natAbs).length:Int) == 0)=true then some 0 else if decide (a<0)=true then some (-1) else some 1)=_
 by_cases h0:a=0
 ·rw [if_pos (by rw [beq_iff_eq,e];exact h0),if_pos (by rw [h0];rfl)]
 ·have adZ:(a:Rat)≠0:=fun c=>h0 (Rat.intCast_inj.1 (by rw [c];rfl))
  rw [if_neg (by rw [beq_iff_eq,e];exact h0),if_neg adZ]
  have aD:(a:Rat)<0↔a<0:=by
   rw [show (0:Rat)=((0:Int):Rat) from rfl,Rat.intCast_lt_intCast]
  by_cases h1:a<0
  ·rw [if_pos (decide_eq_true h1),if_pos (aD.2 h1)]
  ·rw [if_neg (by simpa using h1),if_neg (fun c=>h1 (aD.1 c))]
theorem YY {x y:Rat}(U:ev ku x)(a3:ev ku y):rF (b5 x) (b5 y)=some (if x<y then -1 else if y<x then 1 else 0):=by
 have h1:=xT U
 have o:=xT a3
 obtain ⟨a,rfl,-⟩:=U;obtain ⟨b,rfl,-⟩:=a3
 rw [Rat.num_intCast] at h1 o
 rw [oy,oy,Wi (by omega) (by omega)]
 unfold kV
 simp only [Rat.intCast_lt_intCast]
theorem Oc {x:Rat}(U:ev ku x):rE (b5 x)=some (b5 (-x)):=by
 obtain ⟨a,rfl,-⟩:=U
 rw [oy,← Rat.intCast_neg,oy]
 unfold rE
 show (m4 (!(decide (a<0))) (L a.natAbs)).bind _=_
 rw [rR (by omega),Ky];rfl
theorem rQ {n:Int}(h:n7 n):oj n=some (b5 (n:Rat)):=by rw [oy];exact YQ h
theorem YZ {x y:Rat}(U:ev ku x)(a3:ev ku y)(Ly:ev ku (x*y))(h0:y≠0):sK (b5 (x*y)) (b5 y)=some (b5 x):=by
 have h1:=xT Ly
 have o:=xT a3
 obtain ⟨a,rfl,-⟩:=U;obtain ⟨b,rfl,-⟩:=a3
 rw [← Rat.intCast_mul] at h1 ⊢
 rw [Rat.num_intCast] at h1 o
 have aS:b≠0:=fun c=>h0 (by rw [c];rfl)
 rw [oy,oy,oy]
 unfold sK
 show (xt (L (a*b).natAbs) (L b.natAbs)).bind _=_
 rw [aa0 (jc _) (jc _) (fun c=>by have:=tb.1 c;omega) (by omega) (by omega),ej (by omega),ej (by omega)]
 have e1:((a*b).natAbs:Int) / (b.natAbs:Int)=(a.natAbs:Int):=by
  rw [Int.natAbs_mul,Int.natCast_mul];exact Int.mul_ediv_cancel _ (by omega)
 simp only [Option.bind_some]
 rw [e1]
 show (m4 (!(decide (a*b<0) == decide (b<0))) (L a.natAbs)).bind _=_
 rw [rR (by omega)]
 simp only [Option.bind_some]
 congr 2
 rcases Int.lt_or_gt_of_ne aS with c|c
 ·by_cases bF:a<0
  ·have : ¬a*b<0:=by have:=Int.mul_pos_of_neg_of_neg bF c;omega
   rw [decide_eq_false this,decide_eq_true c];simp only [ee,show (!(false == true))=true from rfl,if_true];omega
  ·by_cases cv:a=0
   ·subst cv;simp [ee]
   ·have:a*b<0:=Int.mul_neg_of_pos_of_neg (by omega) c
    rw [decide_eq_true this,decide_eq_true c];simp only [ee,BEq.rfl,Bool.not_true,Bool.false_eq_true,if_false];omega
 ·by_cases bF:a<0
  ·have:a*b<0:=Int.mul_neg_of_neg_of_pos bF c
   rw [decide_eq_true this,decide_eq_false (by omega)];simp only [ee,show (!(true == false))=true from rfl,if_true];omega
  ·have : ¬a*b<0:=by have:=Int.mul_nonneg (show 0≤a by omega) (show 0≤b by omega);omega
   rw [decide_eq_false this,decide_eq_false (by omega)];simp only [ee,BEq.rfl,Bool.not_true,Bool.false_eq_true,if_false];omega
def gR (N:Nat)(w:Rat)(t:cI)(i:Nat):List bq:=a7 (N+1) fun j=>b5 (t.T i j*w)
structure qH (m N:Nat) (w:Rat) (t:cI):Prop where
 pos:0<w
 hw:ev (21*100*fH) w
 iK : ∀i,i<m→ ∀j,j≤N→ev fH (t.T i j*w)
 g9 : ∀i,i<m→t.B i<N
theorem AU:21*100*fH*(21*100*fH)+21*100*fH*(21*100*fH)≤ku:=by decide +kernel
theorem acL {q i:Nat}(bc:0<q)(aq:i≤20):21*100*q*100+i*(q*100)≤21*100*q*(21*100*q):=by
 have h1:i*(q*100)≤20*(q*100):=Nat.mul_le_mul_right _ aq
 have o:21*100*q*2100≤21*100*q*(21*100*q):=Nat.mul_le_mul_left _ (by omega)
 generalize 21*100*q*(21*100*q)=z at *
 omega
theorem acM {i:Nat}(aq:i≤20):21*100*fH*100+i*(fH*100)≤ku :=
 Nat.le_trans (acL pY aq) (Nat.le_trans (Nat.le_add_right _ _) AU)
theorem sg {K:Nat}(h:K≤21*100*fH):K≤ku:=by
 have ad0:=AU
 have h1:21*100*fH*1≤21*100*fH*(21*100*fH):=Nat.mul_le_mul_left _ (by have:=pY;generalize fH=q at *;omega)
 rw [Nat.mul_one] at h1
 exact Nat.le_trans h (Nat.le_trans h1 (Nat.le_trans (Nat.le_add_right _ _) ad0))
theorem Qc {m N:Nat}(hm:m≤20)(fQ:N<1000){w:Rat}{t:cI}(h:qH m N w t)(I:Nat→Int)(ap:∀j,j<N→ -100≤I j∧I j≤100)(iQ:bq)(ye:iQ=b5 w)(gr:Int)(free:List Bool){k:Nat}(a8:k<N):
 w2 ⟨a7 m (gR N w t),iQ,dv m t,gr,free⟩ (a7 N I) (k:Int)=some (jI (t.dA m (fun j=>(I j:Rat)) k)):=by
 subst ye
 have agj:=pY
 have small : ∀ {x:Rat} {K:Nat},ev K x→K≤21*100*fH→ev ku x:=fun h1 o=>h1.mono (sg o)
 have ao : ∀j,j<N→ev 100 ((I j:Int):Rat):=fun j aF=>⟨I j,rfl,by have:=ap j aF;omega⟩
 have So : ∀j,j<N→n7 (I j):=fun j aF=>by have:=ap j aF;rw [mg];omega
 let S:Nat→Rat:=fun i=>w*(I k:Rat)-dj i (fun i=>(t.T i k*w)*(I (t.B i):Rat))
 have SM : ∀i,i≤m→ev ku (S i):=fun i aq=>by
  have e1:ev (21*100*fH*100) (w*(I k:Rat)):=h.hw.mul (ao k a8)
  have aD:ev (i*(fH*100)) (dj i (fun i=>(t.T i k*w)*(I (t.B i):Rat))):=ev.sum fun eF kB=>(h.iK eF (by omega) k (by omega)).mul (ao _ (h.g9 eF (by omega)))
  exact (e1.sub aD).mono (acM (by omega))
 unfold w2
 refine bH (by rw [cZ];omega) (aR (x:=I k) (by rw [Int.toNat_natCast];exact f9 a8) (aR (rQ (So k a8)) (aR (xB (small h.hw (Nat.le_refl _)) (small (ao k a8) (by omega))) ?_)))
 obtain ⟨s,e,-⟩:=hT (f:=fun q:Int×Bool×List Int=>vY (a7 m (gR N w t)) (b5 w).cN (b5 w).cC (dv m t) gr free (a7 N I) (k:Int) ((m:Nat):Int) q.1 q.2.1 q.2.2)
  (fun (i:Nat) (_:Unit)=>((i:Int),(b5 (S i)).cN,(b5 (S i)).cC)) m (fun _ _=>True) (fun _=>((b5 (S m)).cN,(b5 (S m)).cC))
  (fun i aq _ _=>by
    refine ⟨(),?_,trivial⟩
    have ES:=h.g9 i aq
    have L3:S (i+1)=S i-(t.T i k*w)*(I (t.B i):Rat):=by simp only [S,dj];grind
    unfold vY
    refine dz (by simp only;omega) (bH (by unfold dv;rw [cZ];simp only;omega) (aR (x:=((t.B i:Nat):Int)) (by simp only;rw [Int.toNat_natCast];exact f9 aq) (bH (by rw [cZ];omega) (aR (x:=I (t.B i)) (by rw [Int.toNat_natCast];exact f9 ES) (oi (fun c=> ?_) (fun c=> ?_))))))
    ·refine bH (by rw [cZ];simp only;omega) (aR (x:=gR N w t i) (by simp only;rw [Int.toNat_natCast];exact f9 aq) (bH (by unfold gR;rw [cZ];omega) (aR (x:=b5 (t.T i k*w)) (by rw [Int.toNat_natCast];exact f9 (by omega)) (aR (s4 (small (h.iK i aq k (by omega)) (by omega))) (oi (fun cg=> ?_) (fun cg=> ?_))))))
     ·refine aR (rQ (So _ ES)) (aR (xB (small (h.iK i aq k (by omega)) (by omega)) (small (ao _ ES) (by omega))) (aR (PG (SM i (by omega)) (by
       exact small ((h.iK i aq k (by omega)).mul (ao _ ES)) (by omega))) ?_))
      simp only;rw [fo (by omega),L3]
     ·have cv:t.T i k*w=0:=ri.1 (by simpa using cg)
      simp only;rw [fo (by omega),L3,cv,show S i-0*(I (t.B i):Rat)=S i by grind]
    ·have cv:I (t.B i)=0:=by simpa using c
     simp only;rw [fo (by omega),L3,cv,show S i-t.T i k*w*((0:Int):Rat)=S i by rw [show ((0:Int):Rat)=0 from rfl];grind])
  (fun _ _=>by unfold vY;exact dZ (by simp) rfl) () trivial
 have e0:S 0=w*(I k:Rat):=by simp only [S,dj];grind
 rw [e0] at e
 refine aR (x:=((b5 (S m)).cN,(b5 (S m)).cC)) (by unfold G9;rw [fO,show (dv m t).length=m from cZ ..];exact e) (aR (x:=jI (S m)) (s4 (SM m (Nat.le_refl _))) ?_)
 congr 1
 have aD:S m=w*t.dA m (fun j=>(I j:Rat)) k:=by
  simp only [S]
  unfold cI.dA
  rw [h5 (f:=fun i=>t.T i k*w*(I (t.B i):Rat)) (g:=fun i=>w*((I (t.B i):Rat)*t.T i k)) (fun i _=>by grind),ls];grind
 rw [aD]
 have ak:=h.pos
 unfold jI
 by_cases c:t.dA m (fun j=>(I j:Rat)) k=0
 ·rw [if_pos c,if_pos (by rw [c];grind)]
 ·rw [if_neg c,if_neg (by grind)]
  by_cases cg:t.dA m (fun j=>(I j:Rat)) k<0
  ·rw [if_pos cg,if_pos]
   have:=Rat.mul_pos ak (show 0 < -(t.dA m (fun j=>(I j:Rat)) k) by grind)
   grind
  ·rw [if_neg cg,if_neg]
   have:=Rat.mul_pos ak (show 0<t.dA m (fun j=>(I j:Rat)) k by grind)
   grind
theorem PH {x y z v w:Rat}(hw:0<w)(a3:0<y)(bh:0<v):(x*w)*(v*w)<(z*w)*(y*w)↔x / y<z / v:=by
 have e1:(x*w)*(v*w)=(x / y)*((y*v)*(w*w)):=by grind
 have aD:(z*w)*(y*w)=(z / v)*((y*v)*(w*w)):=by grind
 have ak:0<(y*v)*(w*w):=Rat.mul_pos (Rat.mul_pos a3 bh) (Rat.mul_pos hw hw)
 rw [e1,aD]
 constructor
 ·intro h
  apply Classical.byContradiction
  intro c
  have:z / v≤x / y:=by grind
  have:=Rat.mul_le_mul_of_nonneg_right this (Rat.le_of_lt ak)
  grind
 ·intro h;exact Rat.mul_lt_mul_of_pos_right h ak
theorem xK {x w:Rat}(hw:0<w):jI (x*w)=jI x:=by
 unfold jI
 by_cases c:x=0
 ·rw [if_pos c,if_pos (by rw [c];grind)]
 ·rw [if_neg c,if_neg (by grind)]
  by_cases cg:x<0
  ·rw [if_pos cg,if_pos]
   have:=Rat.mul_pos (show 0 < -x by grind) hw
   grind
  ·rw [if_neg cg,if_neg]
   have:=Rat.mul_pos (show 0<x by grind) hw
   grind
theorem Y0 {m N:Nat}(hm:m≤20)(fQ:N<1000){w:Rat}{t:cI}(h:qH m N w t)(iQ:bq)(free:List Bool){k:Nat}(a8:k≤N):
 ∃r,y3 ⟨a7 m (gR N w t),iQ,dv m t,(N:Int),free⟩ (k:Int)=some r∧DN m N t k r:=by
 have hw:=h.pos
 have nP : ∀i,i<m→ ∀j,j≤N→ev ku (t.T i j*w):=fun i aq j aF=>(h.iK i aq j aF).mono (sg (by have:=pY;generalize fH=q at *;omega))
 have Ck : ∀i,i<m→ ∀j,j≤N→ ∀eF,eF<m→ ∀hK,hK≤N→ev ku (t.T i j*w*(t.T eF hK*w)):=fun i aq j aF eF kB hK tm=>((h.iK i aq j aF).mul (h.iK eF kB hK tm)).mono (by
  refine Nat.le_trans ?_ (Nat.le_trans (Nat.le_add_right _ _) AU)
  exact Nat.mul_le_mul (by generalize fH=q;omega) (by generalize fH=q;omega))
 unfold y3
 obtain ⟨r,e,ar⟩:=qp (f:=fun q:Int×Int=>vN (a7 m (gR N w t)) iQ.cN iQ.cC (dv m t) (N:Int) free (k:Int) ((m:Nat):Int) q.1 q.2)
  (fun (i:Nat) (s:Int)=>(s,(i:Int))) m
  (fun n s=>(s = -1∧ ∀i,i<n→ ¬0<t.T i k)∨ ∃b:Nat,s=b∧b<n∧0<t.T b k∧ ∀i,i<n→0<t.T i k→t.T b N / t.T b k<t.T i N / t.T i k∨(t.T b N / t.T b k=t.T i N / t.T i k∧t.B b≤t.B i))
  (fun r=>DN m N t k r)
  (fun n a4 s cK=>by
    left
    unfold vN
    have g1:0≤((n:Nat):Int)∧((n:Nat):Int)<((a7 m (gR N w t)).length:Nat):=by rw [cZ];omega
    have g2:(a7 m (gR N w t))[((n:Nat):Int).toNat]? = some (gR N w t n):=by rw [Int.toNat_natCast];exact f9 a4
    have g3 : ∀b,0≤((k:Nat):Int)∧((k:Nat):Int)<((gR N w t b).length:Nat):=fun b=>by unfold gR;rw [cZ];omega
    have g4 : ∀b,(gR N w t b)[((k:Nat):Int).toNat]? = some (b5 (t.T b k*w)):=fun b=>by rw [Int.toNat_natCast];exact f9 (by omega)
    have g5 : ∀b,0≤((N:Nat):Int)∧((N:Nat):Int)<((gR N w t b).length:Nat):=fun b=>by unfold gR;rw [cZ];omega
    have g6 : ∀b,(gR N w t b)[((N:Nat):Int).toNat]? = some (b5 (t.T b N*w)):=fun b=>by rw [Int.toNat_natCast];exact f9 (by omega)
    have kh:R ((n:Int)+1)=((n+1:Nat):Int):=fo (by omega)
    have pz:oV (b5 (t.T n k*w))=some (jI (t.T n k)):=by rw [s4 (nP n a4 k a8),xK hw]
    by_cases ak:0<t.T n k
    ·have b0 : ¬jI (t.T n k)≤0:=by have:=qt.2 ak;omega
     rcases cK with ⟨h1,o⟩|⟨b,h1,aS,jA,ab⟩
     ·refine ⟨(n:Int),dz (by simp only;omega) (bH g1 (aR g2 (bH (g3 n) (aR (g4 n) (aR pz (dZ b0 (dz (by simp only;omega) ?_))))))),.inr ⟨n,rfl,by omega,ak,fun i aq ig=> ?_⟩⟩
      ·simp only;rw [kh]
      ·by_cases c:i=n
       ·subst c;exact .inr ⟨rfl,Nat.le_refl _⟩
       ·exact (o i (by omega) ig).elim
     ·subst h1
      have EP:0≤((b:Nat):Int)∧((b:Nat):Int)<((a7 m (gR N w t)).length:Nat):=by rw [cZ];omega
      have EQ:(a7 m (gR N w t))[((b:Nat):Int).toNat]? = some (gR N w t b):=by rw [Int.toNat_natCast];exact f9 (by omega)
      have gc:rF (b5 (t.T n N*w*(t.T b k*w))) (b5 (t.T b N*w*(t.T n k*w)))=some (if t.T n N / t.T n k<t.T b N / t.T b k then -1 else if t.T b N / t.T b k<t.T n N / t.T n k then 1 else 0):=by
       rw [YY (Ck n a4 N (by omega) b (by omega) k a8) (Ck b (by omega) N (by omega) n a4 k a8)]
       have r1:=PH (x:=t.T n N) (y:=t.T n k) (z:=t.T b N) (v:=t.T b k) hw ak jA
       have b1:=PH (x:=t.T b N) (y:=t.T b k) (z:=t.T n N) (v:=t.T n k) hw jA ak
       by_cases bu:t.T n N / t.T n k<t.T b N / t.T b k
       ·rw [if_pos bu,if_pos (r1.2 bu)]
       ·rw [if_neg bu,if_neg (fun c=>bu (r1.1 c))]
        by_cases cg:t.T b N / t.T b k<t.T n N / t.T n k
        ·rw [if_pos cg,if_pos (b1.2 cg)]
        ·rw [if_neg cg,if_neg (fun c=>cg (b1.1 c))]
      have lead : ∀ {x r:Option ((Int×Int)⊕Int)} {f:Int→Option ((Int×Int)⊕Int)} {q:Int},rF (b5 (t.T n N*w*(t.T b k*w))) (b5 (t.T b N*w*(t.T n k*w)))=some q→f q=r →
       (if 0≤((N:Nat):Int)∧((N:Nat):Int)<((gR N w t n).length:Nat) then
         (gR N w t n)[((N:Nat):Int).toNat]? >>= fun qU =>
         if 0≤((b:Nat):Int)∧((b:Nat):Int)<((a7 m (gR N w t)).length:Nat) then
         (a7 m (gR N w t))[((b:Nat):Int).toNat]? >>= fun ms =>
         if 0≤((k:Nat):Int)∧((k:Nat):Int)<(ms.length:Nat) then
         ms[((k:Nat):Int).toNat]? >>= fun qV =>
         pd qU qV >>= fun nK =>
         if 0≤((N:Nat):Int)∧((N:Nat):Int)<(ms.length:Nat) then
         ms[((N:Nat):Int).toNat]? >>= fun sq =>
         pd sq (b5 (t.T n k*w)) >>= fun nL =>
         rF nK nL >>= f
         else none else none else none else none)=r:=fun bc cl =>
       bH (g5 n) (aR (g6 n) (bH EP (aR EQ (bH (g3 b) (aR (g4 b) (aR (xB (nP n a4 N (by omega)) (nP b (by omega) k a8)) (bH (g5 b) (aR (g6 b) (aR (xB (nP b (by omega) N (by omega)) (nP n a4 k a8)) (aR bc cl))))))))))
      by_cases bu:t.T n N / t.T n k<t.T b N / t.T b k
      ·rw [if_pos bu] at gc
       refine ⟨(n:Int),dz (by simp only;omega) (bH g1 (aR g2 (bH (g3 n) (aR (g4 n) (aR pz (dZ b0 (dZ (by simp only;omega) (lead (x:=none) gc (dz (by omega) ?_))))))))),.inr ⟨n,rfl,by omega,ak,fun i aq ig=> ?_⟩⟩
       ·simp only;rw [kh]
       ·by_cases c:i=n
        ·subst c;exact .inr ⟨rfl,Nat.le_refl _⟩
        ·rcases ab i (by omega) ig with h|⟨h,-⟩
         ·left;grind
         ·left;rw [← h];exact bu
      ·rw [if_neg bu] at gc
       by_cases cg:t.T b N / t.T b k<t.T n N / t.T n k
       ·rw [if_pos cg] at gc
        refine ⟨(b:Int),dz (by simp only;omega) (bH g1 (aR g2 (bH (g3 n) (aR (g4 n) (aR pz (dZ b0 (dZ (by simp only;omega) (lead (x:=none) gc (dZ (by omega) (h4 (by decide) ?_)))))))))),.inr ⟨b,rfl,by omega,jA,fun i aq ig=> ?_⟩⟩
        ·simp only;rw [kh]
        ·by_cases c:i=n
         ·subst c;exact .inl cg
         ·exact ab i (by omega) ig
       ·rw [if_neg cg] at gc
        have L1:t.T b N / t.T b k=t.T n N / t.T n k:=by grind
        have Sp:0≤((n:Nat):Int)∧((n:Nat):Int)<((dv m t).length:Nat):=by unfold dv;rw [cZ];omega
        have Sq:(dv m t)[((n:Nat):Int).toNat]? = some ((t.B n:Nat):Int):=by rw [Int.toNat_natCast];exact f9 a4
        have Sr:0≤((b:Nat):Int)∧((b:Nat):Int)<((dv m t).length:Nat):=by unfold dv;rw [cZ];omega
        have Ss:(dv m t)[((b:Nat):Int).toNat]? = some ((t.B b:Nat):Int):=by rw [Int.toNat_natCast];exact f9 (by omega)
        by_cases jk:t.B n<t.B b
        ·refine ⟨(n:Int),dz (by simp only;omega) (bH g1 (aR g2 (bH (g3 n) (aR (g4 n) (aR pz (dZ b0 (dZ (by simp only;omega) (lead (x:=none) gc (dZ (by omega) (f7 rfl (bH Sp (aR Sq (bH Sr (aR Ss (dz (by omega) ?_))))))))))))))),.inr ⟨n,rfl,by omega,ak,fun i aq ig=> ?_⟩⟩
         ·simp only;rw [kh]
         ·by_cases c:i=n
          ·subst c;exact .inr ⟨rfl,Nat.le_refl _⟩
          ·rcases ab i (by omega) ig with h|⟨h,cD⟩
           ·left;grind
           ·right;exact ⟨by grind,by omega⟩
        ·refine ⟨(b:Int),dz (by simp only;omega) (bH g1 (aR g2 (bH (g3 n) (aR (g4 n) (aR pz (dZ b0 (dZ (by simp only;omega) (lead (x:=none) gc (dZ (by omega) (f7 rfl (bH Sp (aR Sq (bH Sr (aR Ss (dZ (by omega) ?_))))))))))))))),.inr ⟨b,rfl,by omega,jA,fun i aq ig=> ?_⟩⟩
         ·simp only;rw [kh]
         ·by_cases c:i=n
          ·subst c;exact .inr ⟨L1,by omega⟩
          ·exact ab i (by omega) ig
    ·have b0:jI (t.T n k)≤0:=by
      have : ¬0<jI (t.T n k):=fun c=>ak (qt.1 c)
      omega
     refine ⟨s,dz (by simp only;omega) (bH g1 (aR g2 (bH (g3 n) (aR (g4 n) (aR pz (dz b0 ?_)))))),?_⟩
     ·simp only;rw [kh]
     ·rcases cK with ⟨h1,o⟩|⟨b,h1,aS,jA,ab⟩
      ·exact .inl ⟨h1,fun i aq=>if c:i=n then c▸ak else o i (by omega)⟩
      ·exact .inr ⟨b,h1,by omega,jA,fun i aq ig=>if c:i=n then (ak (c▸ig)).elim else ab i (by omega) ig⟩)
  (fun s cK=>by
    refine ⟨s,by unfold vN;exact dZ (by simp only;omega) rfl,?_⟩
    rcases cK with ⟨h1,o⟩|⟨b,h1,aS,jA,ab⟩
    ·exact .inl ⟨h1,o⟩
    ·refine .inr ⟨b,h1,aS,jA,fun i aq ig=> ?_,fun i aq ig he=> ?_⟩
     ·rw [← (DC jA ig).1]
      rcases ab i aq ig with h|⟨h,-⟩
      ·exact Rat.le_of_lt h
      ·rw [h];exact Rat.le_refl
     ·rw [← (DC jA ig).2] at he
      rcases ab i aq ig with h|⟨-,h⟩
      ·rw [he] at h;grind
      ·exact h) (-1:Int) (.inl ⟨rfl,fun i aq=>by omega⟩)
 refine ⟨r,aR ?_ rfl,ar⟩
 unfold Gi
 rw [e5,cZ]
 exact e
def hh (m N:Nat)(h:Nat→Nat):List bx:=a7 m fun i=>some (h i,N+1)
structure mN (m N M:Nat) (h:Nat→Nat) (w:Rat) (t:cI) (e9:List (List bq)):Prop where
 len:e9.length=M
 row : ∀i,i<m→e9[h i]? = some (gR N w t i)
theorem Da {α:Type}{l:List α}{i:Nat}{x y:α}(h:l[i]? = some x):(l.set i y)[i]? = some y:=by
 rw [List.getElem?_set,if_pos rfl,if_pos (List.getElem?_eq_some_iff.1 h).1]
theorem JI {α:Type}{l:List α}{i k:Nat}{y:α}(h:i≠k):(l.set i y)[k]? = l[k]? := by
 rw [List.getElem?_set,if_neg h]
theorem set_set {α:Type}(l:List α)(i:Nat)(x y:α):(l.set i x).set i y=l.set i y:=by
 rw [List.set_set]
structure yb (m N:Nat) (w:Rat) (t:cI) (r k:Nat):Prop where
 ar:r<m
 a8:k<N
 ak:t.T r k≠0
 B3 : ∀i,i<m→ ∀j,j≤N→ev fH ((t.cO r k).T i j*(t.T r k*w))
theorem aaz {m N:Nat}(fQ:N<1000){h:Nat→Nat}{w:Rat}{t:cI}{r k:Nat}(f:qH m N w t)(g:yb m N w t r k){i:Nat}(aq:i<m)(yH:i≠r)(dr:h i≠h r){e9:List (List bq)}(h1:e9[h i]? = some (gR N w t i))(o:e9[h r]? = some (gR N w t r))
 (x1 dY:Int) (aI:Int) (q1:List bx) (a2:List Int) (bO:List Bool) (v1 v2:Int) :
 Cv v1 v2 (some (h r,N+1)) (some (h i,N+1)) x1 dY (((N+1:Nat):Nat):Int) (b5 w).cN (b5 w).cC aI q1 a2 bO (b5 (t.T r k*w)).cN (b5 (t.T r k*w)).cC (b5 (t.T i k*w)).cN (b5 (t.T i k*w)).cC 0 e9=some (e9.set (h i) (gR N (t.T r k*w) (t.cO r k) i)):=by
 have hw:=f.pos
 have nP : ∀i,i<m→ ∀j,j≤N→ev ku (t.T i j*w):=fun i aq j aF=>(f.iK i aq j aF).mono (sg (by have:=pY;generalize fH=q at *;omega))
 have aeu:ev ku w:=f.hw.mono (sg (Nat.le_refl _))
 have aev : ∀i,i<m→ ∀j,j≤N→ev ku ((t.cO r k).T i j*(t.T r k*w)):=fun i aq j aF=>(g.B3 i aq j aF).mono (sg (by have:=pY;generalize fH=q at *;omega))
 have Ck : ∀i,i<m→ ∀j,j≤N→ ∀eF,eF<m→ ∀hK,hK≤N→ev ku (t.T i j*w*(t.T eF hK*w)):=fun i aq j aF eF kB hK tm=>((f.iK i aq j aF).mul (f.iK eF kB hK tm)).mono (by
  refine Nat.le_trans ?_ (Nat.le_trans (Nat.le_add_right _ _) AU)
  exact Nat.mul_le_mul (by generalize fH=q;omega) (by generalize fH=q;omega))
 have ad1 : ∀j,j≤N→ev ku ((t.cO r k).T i j*(t.T r k*w)*w):=fun j aF=>((g.B3 i aq j aF).mul f.hw).mono (by
  refine Nat.le_trans ?_ (Nat.le_trans (Nat.le_add_right _ _) AU)
  exact Nat.mul_le_mul (by generalize fH=q;omega) (Nat.le_refl _))
 have ar:=g.ar
 have a8:=g.a8
 have ak:=g.ak
 have yM : ∀j,(t.cO r k).T i j=t.T i j-t.T i k*(t.T r j / t.T r k):=fun j=>by simp [cI.cO,yH]
 have Lf:w≠0:=by grind
 unfold Cv
 obtain ⟨s,e,-⟩:=hT (f:=fun q:Int×List (List bq)=>vO v1 v2 (some (h r,N+1)) (some (h i,N+1)) x1 dY (((N+1:Nat):Nat):Int) (b5 w).cN (b5 w).cC aI q1 a2 bO (b5 (t.T r k*w)).cN (b5 (t.T r k*w)).cC (b5 (t.T i k*w)).cN (b5 (t.T i k*w)).cC q.1 q.2)
  (fun (c:Nat) (_:Unit)=>((c:Int),e9.set (h i) (a7 (N+1) fun j=>if j<c then b5 ((t.cO r k).T i j*(t.T r k*w)) else b5 (t.T i j*w)))) (N+1) (fun _ _=>True)
  (fun _=>e9.set (h i) (gR N (t.T r k*w) (t.cO r k) i))
  (fun c bf _ _=>by
    refine ⟨(),?_,trivial⟩
    have fin:(some (Sum.inl (R ((c:Int)+1),(e9.set (h i) (a7 (N+1) fun j=>if j<c then b5 ((t.cO r k).T i j*(t.T r k*w)) else b5 (t.T i j*w))).set (h i) ((a7 (N+1) fun j=>if j<c then b5 ((t.cO r k).T i j*(t.T r k*w)) else b5 (t.T i j*w)).set (0+((c:Int)).toNat) (b5 ((t.cO r k).T i c*(t.T r k*w)))))):Option ((Int×List (List bq))⊕List (List bq))) =
     some (Sum.inl (((c+1:Nat):Int),e9.set (h i) (a7 (N+1) fun j=>if j<c+1 then b5 ((t.cO r k).T i j*(t.T r k*w)) else b5 (t.T i j*w)))):=by
     rw [fo (by omega),Int.toNat_natCast,Nat.zero_add,set_set,k4]
     congr 4
     refine e4 fun j _=> ?_
     by_cases bu:j=c
     ·subst bu;rw [if_pos rfl,if_pos (by omega)]
     ·rw [if_neg bu]
      by_cases cg:j<c
      ·rw [if_pos cg,if_pos (by omega)]
      ·rw [if_neg cg,if_neg (by omega)]
    have hL:sK (b5 ((t.cO r k).T i c*(t.T r k*w)*w)) (b5 w)=some (b5 ((t.cO r k).T i c*(t.T r k*w))):=YZ (aev i aq c (by omega)) aeu (ad1 c (by omega)) Lf
    unfold vO
    refine dz (by simp only;omega) (aR (x:=(h i,N+1)) rfl (aR (x:=a7 (N+1) fun j=>if j<c then b5 ((t.cO r k).T i j*(t.T r k*w)) else b5 (t.T i j*w)) (by simp only;exact Da h1) (bH (by simp only;omega) (aR (x:=b5 (t.T i c*w)) (by simp only;rw [Int.toNat_natCast,h7 bf,if_neg (by omega)]) ?_))))
    refine aR (xB (nP i aq c (by omega)) (nP r ar k (by omega))) (aR (s4 (nP i aq k (by omega))) (oi (fun d=> ?_) (fun d=> ?_)))
    ·refine aR (x:=(h r,N+1)) rfl (aR (x:=gR N w t r) (by simp only;rw [JI dr];exact o) (bH (by simp only;omega) (aR (x:=b5 (t.T r c*w)) (by simp only;rw [Int.toNat_natCast];exact h7 bf) (aR (s4 (nP r ar c (by omega))) (oi (fun d2=> ?_) (fun d2=> ?_))))))
     ·refine aR (xB (nP i aq k (by omega)) (nP r ar c (by omega))) (aR (PG (Ck i aq c (by omega) r ar k (by omega)) (Ck i aq k (by omega) r ar c (by omega))) (aR ?_ fin))
      rw [show t.T i c*w*(t.T r k*w)-t.T i k*w*(t.T r c*w)=(t.cO r k).T i c*(t.T r k*w)*w by rw [yM];grind]
      exact hL
     ·have cv:t.T r c=0:=by have:=ri.1 (by simpa using d2);grind
      refine aR ?_ fin
      rw [show t.T i c*w*(t.T r k*w)=(t.cO r k).T i c*(t.T r k*w)*w by rw [yM,cv];grind]
      exact hL
    ·have cv:t.T i k=0:=by have:=ri.1 (by simpa using d);grind
     refine aR ?_ fin
     rw [show t.T i c*w*(t.T r k*w)=(t.cO r k).T i c*(t.T r k*w)*w by rw [yM,cv];grind]
     exact hL)
  (fun _ _=>by
    unfold vO
    refine dZ (by simp) ?_
    simp only
    congr 3
    exact e4 fun j aF=>by rw [if_pos aF]) () trivial
 have e0:e9.set (h i) (a7 (N+1) fun j=>if j<0 then b5 ((t.cO r k).T i j*(t.T r k*w)) else b5 (t.T i j*w))=e9:=by
  have:(a7 (N+1) fun j=>if j<0 then b5 ((t.cO r k).T i j*(t.T r k*w)) else b5 (t.T i j*w))=gR N w t i:=e4 fun j _=>by rw [if_neg (by omega)]
  rw [this]
  apply List.ext_getElem?
  intro c
  rw [List.getElem?_set]
  split
  ·rename_i e;subst e
   rw [if_pos (List.getElem?_eq_some_iff.1 h1).1,h1]
  ·rfl
 rw [e0] at e
 exact e
theorem aaA {m N:Nat}(fQ:N<1000){h:Nat→Nat}{w:Rat}{t:cI}(iK:∀i,i<m→ ∀j,j≤N→ev fH (t.T i j*w)){i:Nat}(aq:i<m){e9:List (List bq)}(h1:e9[h i]? = some (gR N w t i))
 (x1 dY:Int) (i3:Bool) (kr:List Int) (aI:Int) (q1:List bx) (a2:List Int) (bO:List Bool) :
 Cx (some (h i,N+1)) x1 dY (((N+1:Nat):Nat):Int) i3 kr aI q1 a2 bO 0 e9=some (e9.set (h i) (gR N (-w) t i)):=by
 have nP : ∀j,j≤N→ev ku (t.T i j*w):=fun j aF=>(iK i aq j aF).mono (sg (by have:=pY;generalize fH=q at *;omega))
 unfold Cx
 obtain ⟨s,e,-⟩:=hT (f:=fun q:Int×List (List bq)=>vQ (some (h i,N+1)) x1 dY (((N+1:Nat):Nat):Int) i3 kr aI q1 a2 bO q.1 q.2)
  (fun (c:Nat) (_:Unit)=>((c:Int),e9.set (h i) (a7 (N+1) fun j=>if j<c then b5 (t.T i j * -w) else b5 (t.T i j*w)))) (N+1) (fun _ _=>True)
  (fun _=>e9.set (h i) (gR N (-w) t i))
  (fun c bf _ _=>by
    refine ⟨(),?_,trivial⟩
    unfold vQ
    refine dz (by simp only;omega) (aR (x:=(h i,N+1)) rfl (aR (x:=a7 (N+1) fun j=>if j<c then b5 (t.T i j * -w) else b5 (t.T i j*w)) (by simp only;exact Da h1) (bH (by simp only;omega) (aR (x:=b5 (t.T i c*w)) (by simp only;rw [Int.toNat_natCast,h7 bf,if_neg (by omega)]) (aR (Oc (nP c (by omega))) ?_)))))
    simp only
    rw [fo (by omega),Int.toNat_natCast,Nat.zero_add,set_set,k4]
    congr 4
    refine e4 fun j _=> ?_
    by_cases bu:j=c
    ·subst bu;rw [if_pos rfl,if_pos (by omega)];congr 1;grind
    ·rw [if_neg bu]
     by_cases cg:j<c
     ·rw [if_pos cg,if_pos (by omega)]
     ·rw [if_neg cg,if_neg (by omega)])
  (fun _ _=>by
    unfold vQ
    refine dZ (by simp) ?_
    simp only
    congr 3
    exact e4 fun j aF=>by rw [if_pos aF]) () trivial
 have e0:e9.set (h i) (a7 (N+1) fun j=>if j<0 then b5 (t.T i j * -w) else b5 (t.T i j*w))=e9:=by
  have:(a7 (N+1) fun j=>if j<0 then b5 (t.T i j * -w) else b5 (t.T i j*w))=gR N w t i:=e4 fun j _=>by rw [if_neg (by omega)]
  rw [this]
  apply List.ext_getElem?
  intro c
  rw [List.getElem?_set]
  split
  ·rename_i e;subst e
   rw [if_pos (List.getElem?_eq_some_iff.1 h1).1,h1]
  ·rfl
 rw [e0] at e
 exact e
def pt (w:Rat)(t:cI)(r k:Nat):Rat:=if 0<t.T r k then t.T r k*w else -(t.T r k*w)
theorem Qd {m N M:Nat}(hm:m≤20)(fQ:N<1000){h:Nat→Nat}(inj:∀i,i<m→ ∀k,k<m→h i=h k→i=k){w:Rat}{t:cI}{r k:Nat}(f:qH m N w t)(g:yb m N w t r k){e9:List (List bq)}(hg:mN m N M h w t e9)(gr:Int)(free:List Bool):
 ∃kU,wE r k (b5 w).cN (b5 w).cC gr (hh m N h) e9 (dv m t) free=some ((b5 (pt w t r k)).cN,(b5 (pt w t r k)).cC,kU,dv m (t.cO r k))∧mN m N M h (pt w t r k) (t.cO r k) kU:=by
 have ar:=g.ar
 have a8:=g.a8
 have ak:=g.ak
 have hw:=f.pos
 have nP : ∀i,i<m→ ∀j,j≤N→ev ku (t.T i j*w):=fun i aq j aF=>(f.iK i aq j aF).mono (sg (by have:=pY;generalize fH=q at *;omega))
 have q4:gR N (t.T r k*w) (t.cO r k) r=gR N w t r:=e4 fun j _=>by
  simp only [cI.cO,if_true];congr 1;grind
 have yN:(hh m N h).length=m:=cZ ..
 unfold wE
 obtain ⟨p1,e1,kF,r1⟩:=hT (f:=fun q:Int×List (List bq)=>vP (r:Int) (k:Int) (some (h r,N+1)) ((m:Nat):Int) (b5 w).cN (b5 w).cC gr (hh m N h) (dv m t) free (b5 (t.T r k*w)).cN (b5 (t.T r k*w)).cC q.1 q.2)
  (fun (i:Nat) (p:List (List bq))=>((i:Int),p)) m (fun n p=>p.length=M∧ ∀i,i<m→p[h i]? = some (if i=r∨i<n then gR N (t.T r k*w) (t.cO r k) i else gR N w t i)) (fun p=>p)
  (fun n a4 p cK=>by
    obtain ⟨aT,cK⟩:=cK
    unfold vP
    by_cases c:n=r
    ·subst c
     refine ⟨p,dz (by simp only;omega) (bH (by rw [yN];simp only;omega) (aR (x:=some (h n,N+1)) (by simp only;rw [Int.toNat_natCast];exact h7 a4) (f7 (by simp) ?_))),aT,fun i aq=> ?_⟩
     ·simp only;rw [fo (by omega)]
     ·rw [cK i aq]
      by_cases bu:i=n∨i<n
      ·rw [if_pos bu,if_pos (by omega)]
      ·rw [if_neg bu,if_neg (by omega)]
    ·have dr:h n≠h r:=fun e=>c (inj n a4 r ar e)
     have h1:p[h n]? = some (gR N w t n):=by rw [cK n a4,if_neg (by omega)]
     have o:p[h r]? = some (gR N w t r):=by rw [cK r ar,if_pos (.inl rfl),q4]
     refine ⟨p.set (h n) (gR N (t.T r k*w) (t.cO r k) n),dz (by simp only;omega) (bH (by rw [yN];simp only;omega) (aR (x:=some (h n,N+1)) (by simp only;rw [Int.toNat_natCast];exact h7 a4) (h4 (by simp;omega) (aR (x:=(h n,N+1)) rfl (aR h1 (bH (by simp only;omega) (aR (x:=b5 (t.T n k*w)) (by rw [Int.toNat_natCast];exact h7 (by omega)) (aR (aaz fQ f g a4 c dr h1 o _ _ _ _ _ _ _ _) ?_)))))))),by rw [List.length_set];exact aT,fun i aq=> ?_⟩
     ·simp only;rw [fo (by omega)]
     ·by_cases bu:i=n
      ·subst bu;rw [Da h1,if_pos (.inr (by omega))]
      ·rw [JI (fun e=>bu (inj i aq n a4 e.symm)),cK i aq]
       by_cases cg:i=r∨i<n
       ·rw [if_pos cg,if_pos (by omega)]
       ·rw [if_neg cg,if_neg (by omega)])
  (fun p _=>by unfold vP;exact dZ (by simp) rfl) e9 ⟨hg.len,fun i aq=>by
    rw [hg.row i aq]
    by_cases c:i=r
    ·rw [if_pos (.inl c),c,q4]
    ·rw [if_neg (by omega)]⟩
 have EO : ∀i,i<m→p1[h i]? = some (gR N (t.T r k*w) (t.cO r k) i):=fun i aq=>by rw [r1 i aq,if_pos (.inr aq)]
 have acN:(dv m t).set (0+((r:Int)).toNat) (k:Int)=dv m (t.cO r k):=by
  rw [Int.toNat_natCast,Nat.zero_add]
  unfold dv
  rw [k4]
  exact e4 fun i _=>by
   simp only [cI.cO]
   split<;>rfl
 have lead :
  (if 0≤(r:Int)∧(r:Int)<((hh m N h).length:Nat) then
    (hh m N h)[(0+((r:Int)).toNat)]? >>= fun dY =>
    dY >>= fun jB =>
    e9[jB.1]? >>= fun m1 =>
    if 0≤(k:Int)∧(k:Int)<(jB.2:Nat) then
    m1[(0+((k:Int)).toNat)]? >>= fun ew =>
    Cw (r:Int) (k:Int) dY (((hh m N h).length:Nat):Int) (b5 w).cN (b5 w).cC gr (hh m N h) (dv m t) free ew.cN ew.cC 0 e9 >>= fun c5 =>
    if 0≤(r:Int)∧(r:Int)<((dv m t).length:Nat) then
    if (0+((r:Int)).toNat)<(dv m t).length then
    oV ew >>= fun gA =>
    if (decide ((0:Int)<gA))=true then
     some (ew.cN,ew.cC,c5,(dv m t).set (0+((r:Int)).toNat) (k:Int))
    else
     rE ew >>= fun fb =>
     yW (((hh m N h).length:Nat):Int) fb.cN fb.cC gr (hh m N h) ((dv m t).set (0+((r:Int)).toNat) (k:Int)) free 0 c5 >>= fun kp =>
     some (fb.cN,fb.cC,kp,(dv m t).set (0+((r:Int)).toNat) (k:Int))
    else none else none else none else none)=(if (decide ((0:Int)<jI (t.T r k)))=true then
     some ((b5 (t.T r k*w)).cN,(b5 (t.T r k*w)).cC,p1,dv m (t.cO r k))
    else
     rE (b5 (t.T r k*w)) >>= fun fb =>
     yW ((m:Nat):Int) fb.cN fb.cC gr (hh m N h) (dv m (t.cO r k)) free 0 p1 >>= fun kp =>
     some (fb.cN,fb.cC,kp,dv m (t.cO r k))):=by
  refine bH (by rw [yN];omega) (aR (x:=some (h r,N+1)) (by rw [Int.toNat_natCast];exact h7 ar) (aR (x:=(h r,N+1)) rfl (aR (hg.row r ar) (bH (by simp only;omega) (aR (x:=b5 (t.T r k*w)) (by rw [Int.toNat_natCast];exact h7 (by omega)) (aR (x:=p1) (by unfold Cw;rw [yN];exact e1) (bH (by unfold dv;rw [cZ];omega) (bH (by unfold dv;rw [cZ,Int.toNat_natCast];omega) (aR (s4 (nP r ar k (by omega))) ?_)))))))))
  rw [xK hw,acN,yN]
 by_cases jZ:0<t.T r k
 ·have tI:pt w t r k=t.T r k*w:=if_pos jZ
  refine ⟨p1,lead.trans ?_,kF,fun i aq=>by rw [tI];exact EO i aq⟩
  rw [tI]
  exact dz (qt.2 jZ) rfl
 ·have tI:pt w t r k = -(t.T r k*w):=if_neg jZ
  obtain ⟨hi,aD,qX,b1⟩:=hT (f:=fun q:Int×List (List bq)=>vR ((m:Nat):Int) (b5 (-(t.T r k*w))).cN (b5 (-(t.T r k*w))).cC gr (hh m N h) (dv m (t.cO r k)) free q.1 q.2)
   (fun (i:Nat) (p:List (List bq))=>((i:Int),p)) m (fun n p=>p.length=M∧ ∀i,i<m→p[h i]? = some (if i<n then gR N (-(t.T r k*w)) (t.cO r k) i else gR N (t.T r k*w) (t.cO r k) i)) (fun p=>p)
   (fun n a4 p cK=>by
     obtain ⟨aT,cK⟩:=cK
     have h1:p[h n]? = some (gR N (t.T r k*w) (t.cO r k) n):=by rw [cK n a4,if_neg (by omega)]
     unfold vR
     refine ⟨p.set (h n) (gR N (-(t.T r k*w)) (t.cO r k) n),dz (by simp only;omega) (bH (by rw [yN];simp only;omega) (aR (x:=some (h n,N+1)) (by simp only;rw [Int.toNat_natCast];exact h7 a4) (aR (x:=(h n,N+1)) rfl (aR h1 (aR (aaA fQ g.B3 a4 h1 _ _ _ _ _ _ _ _) ?_))))),by rw [List.length_set];exact aT,fun i aq=> ?_⟩
     ·simp only;rw [fo (by omega)]
     ·by_cases bu:i=n
      ·subst bu;rw [Da h1,if_pos (by omega)]
      ·rw [JI (fun e=>bu (inj i aq n a4 e.symm)),cK i aq]
       by_cases cg:i<n
       ·rw [if_pos cg,if_pos (by omega)]
       ·rw [if_neg cg,if_neg (by omega)])
   (fun p _=>by unfold vR;exact dZ (by simp) rfl) p1 ⟨kF,fun i aq=>by rw [EO i aq,if_neg (by omega)]⟩
  refine ⟨hi,lead.trans ?_,qX,fun i aq=>by rw [tI,b1 i aq,if_pos aq]⟩
  rw [tI]
  exact dZ (fun c=>jZ (qt.1 c)) (aR (Oc (nP r ar k (by omega))) (aR (x:=hi) (by unfold yW;exact aD) rfl))
theorem NW {m:Nat}(hm:m≤1000)(t:cI)(j:Nat): ∃b,rP (dv m t) (j:Int)=some b∧(b=true↔ ∃i,i<m∧t.B i=j):=by
 unfold rP Am Dk
 obtain ⟨r,e,h⟩:=qp (f:=fun w:Int=>rJ (dv m t) (j:Int) ((m:Nat):Int) w) (fun (i:Nat) (_:Unit)=>(i:Int)) m (fun i _=> ∀k,k<i→t.B k≠j)
  (fun r=>(∃i:Nat,r = .inr (i:Int)∧i<m∧t.B i=j)∨(r = .inl ()∧ ¬∃i,i<m∧t.B i=j))
  (fun i aq _ cK=>by
    unfold rJ
    by_cases c:t.B i=j
    ·right
     exact ⟨_,dz (by omega) (bH (by unfold dv;rw [cZ];omega) (aR (x:=((t.B i:Nat):Int)) (by rw [Int.toNat_natCast];exact f9 aq) (f7 (by simp [c]) rfl))),.inl ⟨i,rfl,aq,c⟩⟩
    ·left
     refine ⟨(),dz (by omega) (bH (by unfold dv;rw [cZ];omega) (aR (x:=((t.B i:Nat):Int)) (by rw [Int.toNat_natCast];exact f9 aq) (h4 (by simp;omega) (by rw [fo (by omega)])))),fun k a8=> ?_⟩
     by_cases e:k=i
     ·rw [e];exact c
     ·exact cK k (by omega))
  (fun _ cK=>⟨_,by unfold rJ;exact dZ (by omega) rfl,.inr ⟨rfl,fun ⟨i,aq,e⟩=>cK i aq e⟩⟩) () (fun k a8=>by omega)
 rw [fO,show (dv m t).length=m from cZ ..]
 rcases h with ⟨i,rfl,h1,o⟩|⟨rfl,h⟩
 ·exact ⟨true,aR (x:=(i:Int)) (aR e rfl) (by simp),by simp only [true_iff];exact ⟨i,h1,o⟩⟩
 ·exact ⟨false,aR (x:=(-1:Int)) (aR e rfl) rfl,by simp [h]⟩
theorem Ap {m N M:Nat}{h:Nat→Nat}{w:Rat}{t:cI}{e9:List (List bq)}(hg:mN m N M h w t e9):(hh m N h).all (qQ e9)=true:=by
 rw [List.all_eq_true]
 intro x U
 obtain ⟨i,aq,rfl⟩:=Kf.1 U
 simp only [qQ]
 have h1:=hg.row i aq
 have o:e9.getD (h i) []=gR N w t i:=by rw [List.getD_eq_getElem?_getD,h1];rfl
 rw [o,show (gR N w t i).length=N+1 from cZ ..]
 simp [(List.getElem?_eq_some_iff.1 h1).1]
theorem uG {m N M:Nat}{h:Nat→Nat}{w:Rat}{t:cI}{e9:List (List bq)}(hg:mN m N M h w t e9):(hh m N h).map (ix e9)=a7 m (gR N w t):=by
 unfold hh
 rw [P3]
 exact e4 fun i aq=>by
  have o:e9.getD (h i) []=gR N w t i:=by rw [List.getD_eq_getElem?_getD,hg.row i aq];rfl
  simp only [ix]
  rw [o]
  exact List.take_of_length_le (Nat.le_of_eq (cZ ..))
theorem St {m:Nat}{I:Nat→Rat}{t:cI}{j:Nat}:t.rB m 1 (fun _=>I) j↔0<t.dA m I j:=Ee (g:=fun _=>t.dA m I j)
theorem Y1 {gl m N M:Nat}{A:Nat→Nat→Rat}(hm:m≤20)(fQ:N<1000){h:Nat→Nat}(inj:∀i,i<m→ ∀k,k<m→h i=h k→i=k){w:Rat}{t:cI}(ok:f8 gl m N A t)(f:qH m N w t)(I:Nat→Int)(ap:∀j,j<N→ -100≤I j∧I j≤100)(fg:Nat→Bool)
 (aew : ∀r s,o4 m N 1 (fun _ j=>(I j:Rat)) (fun j=>fg j=true) t r s→yb m N w t r s) {e9:List (List bq)} (hg:mN m N M h w t e9) :
 ∃x,vW (N:Int) (b5 w).cN (b5 w).cC (hh m N h) e9 (dv m t) (a7 N fg) (a7 N I) 0=some x ∧
  ((x = .inl (false,(b5 w).cN,(b5 w).cC,e9,dv m t)∧ ∀j,j<N→fg j=true→ ¬0<t.dA m (fun j=>(I j:Rat)) j) ∨
   (∃r s kU,x = .inl (true,(b5 (pt w t r s)).cN,(b5 (pt w t r s)).cC,kU,dv m (t.cO r s))∧o4 m N 1 (fun _ j=>(I j:Rat)) (fun j=>fg j=true) t r s∧mN m N M h (pt w t r s) (t.cO r s) kU) ∨
   (x = .inr ()∧ ∃s,s<N∧0<t.dA m (fun j=>(I j:Rat)) s∧ ∀i,i<m→ ¬0<t.T i s)):=by
 unfold vW
 refine qp (f:=fun q:Int=>vJ (N:Int) (b5 w).cN (b5 w).cC (hh m N h) e9 (dv m t) (a7 N fg) (a7 N I) q) (fun (i:Nat) (_:Unit)=>(i:Int)) N
  (fun n _=> ∀j,j<n→fg j=true→ ¬0<t.dA m (fun j=>(I j:Rat)) j) _ (fun n a4 _ cK=> ?_) (fun _ cK=> ?_) () (fun j aF=>by omega)
 ·have next : ∀(jv:fg n=true→ ¬0<t.dA m (fun j=>(I j:Rat)) n),∀j,j<n+1→fg j=true→ ¬0<t.dA m (fun j=>(I j:Rat)) j:=fun jv j aF=>by
   by_cases c:j=n
   ·subst c;exact jv
   ·exact cK j (by omega)
  have g1:0≤((n:Nat):Int)∧((n:Nat):Int)<((a7 N fg).length:Nat):=by rw [cZ];omega
  have g2:(a7 N fg)[(0+((n:Nat):Int).toNat)]? = some (fg n):=by rw [Int.toNat_natCast];exact h7 a4
  have kh:R ((n:Int)+1)=((n+1:Nat):Int):=fo (by omega)
  unfold vJ
  by_cases qj:fg n=true
  ·obtain ⟨b,i3,kr⟩:=NW (m:=m) (by omega) t n
   cases b with
   | true =>
    obtain ⟨i,aq,g9⟩:=kr.1 rfl
    left
    refine ⟨(),dz (by omega) (bH g1 (aR g2 (f7 qj (aR i3 (f7 rfl (by rw [kh])))))),next fun _=> ?_⟩
    rw [← g9,ok.z6 _ aq];grind
   | false =>
    have dH:=Qc hm fQ f I ap ((⟨(b5 w).cN,(b5 w).cC⟩:bq)) rfl (N:Int) (a7 N fg) a4
    by_cases rD:0<t.dA m (fun j=>(I j:Rat)) n
    ·obtain ⟨q,q1,a2⟩:=Y0 hm fQ f ((⟨(b5 w).cN,(b5 w).cC⟩:bq)) (a7 N fg) (k:=n) (by omega)
     have b0 : ¬jI (t.dA m (fun j=>(I j:Rat)) n)≤0:=by have:=qt.2 rD;omega
     right
     rcases a2 with ⟨rfl,o⟩|⟨b,rfl,aS,jA,ab,av⟩
     ·exact ⟨_,dz (by omega) (bH g1 (aR g2 (f7 qj (aR i3 (h4 rfl (bH (Ap hg) (aR (by rw [uG hg];exact dH) (dZ b0 (aR (by rw [uG hg];exact q1) (dz (by decide) rfl)))))))))),.inr (.inr ⟨rfl,n,a4,rD,o⟩)⟩
     ·have dy:o4 m N 1 (fun _ j=>(I j:Rat)) (fun j=>fg j=true) t b n:=⟨a4,qj,St.2 rD,fun j aF cl dH=>cK j aF cl (St.1 dH),aS,jA,ab,av⟩
      obtain ⟨kU,e1,aD⟩:=Qd hm fQ inj f (aew b n dy) hg (N:Int) (a7 N fg)
      exact ⟨_,dz (by omega) (bH g1 (aR g2 (f7 qj (aR i3 (h4 rfl (bH (Ap hg) (aR (by rw [uG hg];exact dH) (dZ b0 (aR (by rw [uG hg];exact q1) (dZ (by omega) (aR e1 rfl))))))))))),.inr (.inl ⟨b,n,kU,rfl,dy,aD⟩)⟩
    ·left
     have b0:jI (t.dA m (fun j=>(I j:Rat)) n)≤0:=by
      have : ¬0<jI (t.dA m (fun j=>(I j:Rat)) n):=fun c=>rD (qt.1 c)
      omega
     exact ⟨(),dz (by omega) (bH g1 (aR g2 (f7 qj (aR i3 (h4 rfl (bH (Ap hg) (aR (by rw [uG hg];exact dH) (dz b0 (by rw [kh]))))))))),next fun _=>rD⟩
  ·left
   have ET:fg n=false:=by simpa using qj
   exact ⟨(),dz (by omega) (bH g1 (aR g2 (h4 ET (by rw [kh])))),next fun c=>(qj c).elim⟩
 ·exact ⟨_,by unfold vJ;exact dZ (by omega) rfl,.inl ⟨rfl,cK⟩⟩
def th (N:Int)(p8:List bx)(free:List Bool)(obj:List Int)(s:Bool×List Int×List (List bq)×List Int):Option ((Bool×List Int×List (List bq)×List Int)⊕((Bool×List Int×List (List bq)×List Int)⊕(Bool×List Int×List (List bq)×List Int))) :=
 match vW N s.1 s.2.1 p8 s.2.2.1 s.2.2.2 free obj 0 with
 | none=>none
 | some (.inl (true,bR))=>some (.inl bR)
 | some (.inl (false,bR))=>some (.inr (.inl bR))
 | some (.inr ())=>some (.inr (.inr s))
theorem aaB {N:Int}{p8:List bx}{free:List Bool}{obj:List Int}: ∀s r,iter (th N p8 free obj) s=some r→Cs N p8 free obj true s.1 s.2.1 s.2.2.1 s.2.2.2=some r:=by
 unfold Cs
 apply iter.partial_correctness (th N p8 free obj) (fun s r=>iter (fun w:Bool×Bool×(List Int)×(List (List bq))×(List Int)=>tK N p8 free obj w.1 w.2.1 w.2.2.1 w.2.2.2.1 w.2.2.2.2) (true,s.1,s.2.1,s.2.2.1,s.2.2.2)=some r)
 intro it ih s r ar
 cases U:vW N s.1 s.2.1 p8 s.2.2.1 s.2.2.2 free obj 0 with
 | none=>unfold th at ar;rw [U] at ar;simp at ar
 | some x =>
  have hm:tK N p8 free obj true s.1 s.2.1 s.2.2.1 s.2.2.2=match x with
   | .inl fN=>(some (.inl (fN.1,fN.2.1,fN.2.2.1,fN.2.2.2.1,fN.2.2.2.2)))
   | .inr fN=>(some (.inr (.inr (s.1,s.2.1,s.2.2.1,s.2.2.2)))):=by
   unfold tK
   refine f7 rfl ?_
   cases x with
   | inl a=>exact aR U rfl
   | inr a=>exact aR U rfl
  unfold th at ar
  rw [U] at ar
  rw [iter]
  simp only
  rw [hm]
  match x,ar with
  | .inl (true,bR),ar=>exact ih _ _ ar
  | .inl (false,bR),ar =>
   simp at ar
   subst ar
   show iter _ (false,bR.1,bR.2.1,bR.2.2.1,bR.2.2.2)=_
   rw [iter]
   simp only
   unfold tK
   rfl
  | .inr (),ar =>
   simp at ar
   subst ar
   rfl
theorem aaC {gl m N M:Nat}{A:Nat→Nat→Rat}(hm:m≤20)(fQ:N<1000){h:Nat→Nat}{w:Rat}{t:cI}(ok:f8 gl m N A t)(f:qH m N w t)(I:Nat→Int)(ap:∀j,j<N→ -100≤I j∧I j≤100)(fg:Nat→Bool){e9:List (List bq)}(hg:mN m N M h w t e9):
 Ct (N:Int) (b5 w).cN (b5 w).cC (hh m N h) e9 (dv m t) (a7 N I) 0 (a7 N fg)=some (a7 N fun j=>fg j && !decide (t.dA m (fun j=>(I j:Rat)) j<0)):=by
 unfold Ct
 obtain ⟨s,e,-⟩:=hT (f:=fun q:Int×List Bool=>vK (N:Int) (b5 w).cN (b5 w).cC (hh m N h) e9 (dv m t) (a7 N I) q.1 q.2)
  (fun (i:Nat) (_:Unit)=>((i:Int),a7 N fun j=>if j<i then fg j && !decide (t.dA m (fun j=>(I j:Rat)) j<0) else fg j)) N (fun _ _=>True) (fun _=>a7 N fun j=>fg j && !decide (t.dA m (fun j=>(I j:Rat)) j<0))
  (fun n a4 _ _=>by
    refine ⟨(),?_,trivial⟩
    have same:fg n=(fg n && !decide (t.dA m (fun j=>(I j:Rat)) n<0))→(R ((n:Int)+1),a7 N fun j=>if j<n then fg j && !decide (t.dA m (fun j=>(I j:Rat)) j<0) else fg j)=(((n+1:Nat):Int),a7 N fun j=>if j<n+1 then fg j && !decide (t.dA m (fun j=>(I j:Rat)) j<0) else fg j):=fun he=>by
     rw [fo (by omega)]
     congr 1
     refine e4 fun j _=> ?_
     by_cases c:j=n
     ·subst c;rw [if_neg (by omega),if_pos (by omega)];exact he
     ·by_cases cg:j<n
      ·rw [if_pos cg,if_pos (by omega)]
      ·rw [if_neg cg,if_neg (by omega)]
    have g1 : ∀F:Nat→Bool,0≤((n:Nat):Int)∧((n:Nat):Int)<((a7 N F).length:Nat):=fun F=>by rw [cZ];omega
    have g2:(a7 N fun j=>if j<n then fg j && !decide (t.dA m (fun j=>(I j:Rat)) j<0) else fg j)[(0+((n:Nat):Int).toNat)]? = some (fg n):=by rw [Int.toNat_natCast,h7 a4,if_neg (by omega)]
    unfold vK
    by_cases qj:fg n=true
    ·obtain ⟨b,i3,kr⟩:=NW (m:=m) (by omega) t n
     cases b with
     | true =>
      obtain ⟨i,aq,g9⟩:=kr.1 rfl
      refine dz (by simp only;omega) (bH (g1 _) (aR g2 (f7 qj (aR i3 (f7 rfl ?_)))))
      simp only
      rw [same]
      rw [← g9,ok.z6 _ aq,decide_eq_false (by grind)];simp
     | false =>
      have dH:=Qc hm fQ f I ap ((⟨(b5 w).cN,(b5 w).cC⟩:bq)) rfl (N:Int) (a7 N fun j=>if j<n then fg j && !decide (t.dA m (fun j=>(I j:Rat)) j<0) else fg j) a4
      have b0:jI (t.dA m (fun j=>(I j:Rat)) n)<0↔t.dA m (fun j=>(I j:Rat)) n<0:=by
       unfold jI
       by_cases c:t.dA m (fun j=>(I j:Rat)) n=0
       ·rw [if_pos c,c];constructor
        ·intro h;omega
        ·intro h;grind
       ·rw [if_neg c]
        by_cases cg:t.dA m (fun j=>(I j:Rat)) n<0
        ·rw [if_pos cg];simp [cg]
        ·rw [if_neg cg];constructor
         ·intro h;omega
         ·intro h;exact (cg h).elim
      by_cases rD:t.dA m (fun j=>(I j:Rat)) n<0
      ·refine dz (by simp only;omega) (bH (g1 _) (aR g2 (f7 qj (aR i3 (h4 rfl (bH (Ap hg) (aR (by rw [uG hg];exact dH) (dz (b0.2 rD) (bH (by rw [cZ,Int.toNat_natCast];omega) ?_)))))))))
       simp only
       rw [fo (by omega),Int.toNat_natCast,Nat.zero_add,k4]
       congr 3
       refine e4 fun j _=> ?_
       by_cases c:j=n
       ·subst c;rw [if_pos rfl,if_pos (by omega),decide_eq_true rD];simp
       ·rw [if_neg c]
        by_cases cg:j<n
        ·rw [if_pos cg,if_pos (by omega)]
        ·rw [if_neg cg,if_neg (by omega)]
      ·refine dz (by simp only;omega) (bH (g1 _) (aR g2 (f7 qj (aR i3 (h4 rfl (bH (Ap hg) (aR (by rw [uG hg];exact dH) (dZ (fun c=>rD (b0.1 c)) ?_))))))))
       simp only
       rw [same]
       rw [decide_eq_false rD];simp
    ·have ET:fg n=false:=by simpa using qj
     refine dz (by simp only;omega) (bH (g1 _) (aR g2 (h4 ET ?_)))
     simp only
     rw [same]
     rw [ET];simp)
  (fun _ _=>by
    unfold vK
    refine dZ (by simp) ?_
    simp only
    congr 2
    exact e4 fun j aF=>by rw [if_pos aF]) () trivial
 have e0:(a7 N fun j=>if j<0 then fg j && !decide (t.dA m (fun j=>(I j:Rat)) j<0) else fg j)=a7 N fg:=e4 fun j _=>by rw [if_neg (by omega)]
 rw [e0] at e
 exact e
theorem Yo {gl m N M:Nat}{A:Nat→Nat→Rat}(hm:m≤20)(fQ:N<1000){h:Nat→Nat}(inj:∀i,i<m→ ∀k,k<m→h i=h k→i=k)(I:Nat→Int)(ap:∀j,j<N→ -100≤I j∧I j≤100)(fg:Nat→Bool)
 (Inv:Rat→cI→Prop) (inv : ∀w t,Inv w t→f8 gl m N A t∧t.lN m N∧qH m N w t)
 (gQ : ∀w t r s,Inv w t→o4 m N 1 (fun _ j=>(I j:Rat)) (fun j=>fg j=true) t r s→yb m N w t r s∧Inv (pt w t r s) (t.cO r s)) {w:Rat} {t:cI} (cK:Inv w t) {e9:List (List bq)} (hg:mN m N M h w t e9) :
 ∃b bN db kU yI,wo (b5 w).cN (b5 w).cC (N:Int) (hh m N h) e9 (dv m t) (a7 N fg) (a7 N I)=some (b,(b5 bN).cN,(b5 bN).cC,kU,dv m db,a7 N yI)∧Inv bN db∧mN m N M h bN db kU ∧
  ((b=true∧(∀j,j<N→fg j=true→ ¬0<db.dA m (fun j=>(I j:Rat)) j)∧yI=fun j=>fg j && !decide (db.dA m (fun j=>(I j:Rat)) j<0))∨(b=false∧ ∃s,s<N∧0<db.dA m (fun j=>(I j:Rat)) s∧ ∀i,i<m→ ¬0<db.T i s)):=by
 obtain ⟨ok,nO,B5⟩:=inv w t cK
 obtain ⟨x,dB,db,e,-,-,-,bN,kU,h1,o,ab⟩:=OA (gl:=gl) (m:=m) (N:=N) (K:=1) (A:=A) (obj:=fun _ j=>(I j:Rat)) (b8:=fun j=>fg j=true)
  (f:=th (N:Int) (hh m N h) (a7 N fg) (a7 N I))
  (fun s t=> ∃w e9,s=((b5 w).cN,(b5 w).cC,e9,dv m t)∧Inv w t∧mN m N M h w t e9)
  (fun s x t=> ∃w e9,Inv w t∧mN m N M h w t e9∧((x = .inl ((b5 w).cN,(b5 w).cC,e9,dv m t)∧ ∀j,j<N→fg j=true→ ¬0<t.dA m (fun j=>(I j:Rat)) j) ∨
    (x = .inr ((b5 w).cN,(b5 w).cC,e9,dv m t)∧ ∃s,s<N∧0<t.dA m (fun j=>(I j:Rat)) s∧ ∀i,i<m→ ¬0<t.T i s)))
  (fun s t cW ok _=>by
    obtain ⟨w,e9,rfl,cK,hg⟩:=cW
    obtain ⟨x,e,U⟩:=Y1 hm fQ inj ok (inv w t cK).2.2 I ap fg (fun r s b=>(gQ w t r s cK b).1) hg
    rcases U with ⟨rfl,U⟩|⟨r,s,kU,rfl,dy,ad2⟩|⟨rfl,U⟩
    ·left
     exact ⟨_,by unfold th;simp only;rw [e],w,e9,cK,hg,.inl ⟨rfl,U⟩⟩
    ·right
     exact ⟨_,r,s,by unfold th;simp only;rw [e],dy,pt w t r s,kU,rfl,(gQ w t r s cK dy).2,ad2⟩
    ·left
     exact ⟨_,by unfold th;simp only;rw [e],w,e9,cK,hg,.inr ⟨rfl,U⟩⟩)
  (a:=((b5 w).cN,(b5 w).cC,e9,dv m t)) (t:=t) ⟨w,e9,rfl,cK,hg⟩ ok nO
 have aD:=aaB _ _ e
 obtain ⟨kN,agk,ad3⟩:=inv bN db h1
 rcases ab with ⟨rfl,ab⟩|⟨rfl,ab⟩
 ·refine ⟨true,bN,db,kU,_,?_,h1,o,.inl ⟨rfl,ab,rfl⟩⟩
  unfold wo
  exact aR aD (aR (aaC hm fQ kN ad3 I ap fg o) rfl)
 ·refine ⟨false,bN,db,kU,fg,?_,h1,o,.inr ⟨rfl,ab⟩⟩
  unfold wo
  exact aR aD rfl
def hj (m:Nat)(A:Nat→Nat→Rat)(t:cI):Rat:=if 0<t.D m A then t.D m A else -(t.D m A)
theorem abG {m N:Nat}{A:Nat→Nat→Rat}{t:cI}(h:t.D m A≠0):0<hj m A t:=by
 unfold hj;split<;>grind
theorem Q4 {m K:Nat}{A:Nat→Nat→Rat}{t:cI}{x:Rat}(h:ev K (x*t.D m A)):ev K (x*hj m A t):=by
 unfold hj;split
 ·exact h
 ·have:=h.neg
  rw [show x * -(t.D m A) = -(x*t.D m A) by grind];exact this
theorem kM.yc {m N:Nat}{A:Nat→Nat→Rat}(s:Small m N A){t:cI}(h:kM m N A t):qH m N (hj m A t) t where
 pos:=abG (N:=N) h.sF
 hw:=by
  have h1:ev fH (1*t.D m A):=by rw [Rat.one_mul];exact h.B1 s
  have:=Q4 h1
  rw [Rat.one_mul] at this
  exact this.mono (by generalize fH=q;omega)
 iK:=fun i aq j aF=>Q4 (h.ty s aq aF)
 g9:=h.ok.lg
theorem kM.Ef {m N:Nat}{A:Nat→Nat→Rat}(s:Small m N A){t:cI}(h:kM m N A t){r k:Nat}(ar:r<m)(a8:k<N)(ak:t.T r k≠0):yb m N (hj m A t) t r k where
 ar:=ar
 a8:=a8
 ak:=ak
 B3:=fun i aq j aF=>by
  have kN:=h.ok.cO ar a8 ak
  have h1:ev fH ((t.cO r k).T i j*(t.cO r k).D m A):=by
   rw [← kN.vw aq aF]
   refine ev.mono (xR fun d8 oN c bf=> ?_) (AS▸xz (by omega) s.hm)
   simp only [gb]
   split
   ·exact s.tH c bf j aF
   ·exact s.tH c bf _ (Nat.le_of_lt (kN.lg d8 oN))
  rw [h.ok.xZ ar a8] at h1
  unfold hj
  split
  ·exact h1
  ·have:=h1.neg
   rw [show (t.cO r k).T i j*(t.T r k * -(t.D m A)) = -((t.cO r k).T i j*(t.T r k*t.D m A)) by grind];exact this
theorem QI {m N:Nat}{A:Nat→Nat→Rat}{t:cI}(h:f8 m m N A t)(bJ:t.D m A≠0){r k:Nat}(ar:r<m)(a8:k<N)(ak:t.T r k≠0):pt (hj m A t) t r k=hj m A (t.cO r k):=by
 have e:=h.xZ ar a8
 unfold pt hj
 rw [e]
 by_cases bu:0<t.T r k<;>by_cases cg:0<t.D m A
 ·rw [if_pos bu,if_pos cg,if_pos (Rat.mul_pos bu cg)]
 ·have:=Rat.mul_pos bu (show 0 < -(t.D m A) by grind)
  rw [if_pos bu,if_neg cg,if_neg (by grind)];grind
 ·have:=Rat.mul_pos (show 0 < -(t.T r k) by grind) cg
  rw [if_neg bu,if_pos cg,if_neg (by grind)]
 ·have:=Rat.mul_pos (show 0 < -(t.T r k) by grind) (show 0 < -(t.D m A) by grind)
  rw [if_neg bu,if_neg cg,if_pos (by grind)];grind
def jU (h:Nat→Nat)(t:cI):cI:=⟨fun i j=>t.T (h i) j,fun i=>t.B (h i)⟩
theorem J8 {h:Nat→Nat}{t:cI}{r k i:Nat}(fL:h i=h r→i=r):(∀j,((jU h t).cO r k).T i j=(jU h (t.cO (h r) k)).T i j)∧((jU h t).cO r k).B i=(jU h (t.cO (h r) k)).B i:=by
 simp only [cI.cO,jU]
 by_cases c:i=r
 ·subst c;simp
 ·have:h i≠h r:=fun e=>c (fL e)
  simp [c,this]
theorem OJ {α:Type}{m i:Nat}(aq:i<m)(f:Nat→α):(a7 m f).take (i-0)++((a7 m f).drop (0+(i+1))).take (m-(i+1))=a7 (m-1) (skip i f):=by
 apply List.ext_getElem?
 intro j
 rw [Nat.sub_zero,Nat.zero_add]
 have aT:((a7 m f).take i).length=i:=by rw [List.length_take,cZ];omega
 by_cases c:j<i
 ·rw [List.getElem?_append_left (by omega),List.getElem?_take,if_pos c,f9 (by omega),f9 (by omega)]
  simp only [skip];rw [if_pos c]
 ·rw [List.getElem?_append_right (by omega),aT,List.getElem?_take,List.getElem?_drop]
  by_cases cg:j<m-1
  ·rw [if_pos (by omega),f9 (by omega),f9 cg]
   simp only [skip];rw [if_neg c];congr 2;omega
  ·rw [if_neg (by omega)]
   symm
   rw [List.getElem?_eq_none_iff,cZ];omega
theorem Yp {m N M n:Nat}(fQ:N<1000)(a4:n≤N){h:Nat→Nat}{w:Rat}{t:cI}(f:qH m N w t){e9:List (List bq)}(hg:mN m N M h w t e9){i:Nat}(aq:i<m)(i3:Bool)(kr:List Int)(aI:Int)(a2:List Int)(bO:List Bool):
 ∃k:Nat,Cy (n:Int) (i:Int) i3 kr aI (hh m N h) e9 a2 bO 0=some (k:Int)∧k≤n∧(k<n→t.T i k≠0)∧ ∀j,j<k→t.T i j=0:=by
 unfold Cy
 obtain ⟨r,e,k,rfl,h1,o,ab⟩:=qp (f:=fun q:Int=>vS (n:Int) (i:Int) i3 kr aI (hh m N h) e9 a2 bO q) (fun (c:Nat) (_:Unit)=>(c:Int)) n (fun c _=> ∀j,j<c→t.T i j=0)
  (fun r=> ∃k:Nat,r=(k:Int)∧k≤n∧(k<n→t.T i k≠0)∧ ∀j,j<k→t.T i j=0)
  (fun c bf _ cK=>by
    have hw:=f.pos
    have b0:=s4 ((f.iK i aq c (by omega)).mono (sg (by have:=pY;generalize fH=q at *;omega)))
    unfold vS
    by_cases E0:t.T i c=0
    ·left
     refine ⟨(),dz (by omega) (bH (by unfold hh;rw [cZ];omega) (aR (x:=some (h i,N+1)) (by rw [Int.toNat_natCast];exact h7 aq) (aR (x:=(h i,N+1)) rfl (aR (hg.row i aq) (bH (by simp only;omega) (aR (x:=b5 (t.T i c*w)) (by rw [Int.toNat_natCast];exact h7 (by omega)) (aR b0 (f7 (by rw [xK hw,ri.2 E0];rfl) (by rw [fo (by omega)]))))))))),fun j aF=> ?_⟩
     by_cases e:j=c
     ·rw [e];exact E0
     ·exact cK j (by omega)
    ·right
     exact ⟨_,dz (by omega) (bH (by unfold hh;rw [cZ];omega) (aR (x:=some (h i,N+1)) (by rw [Int.toNat_natCast];exact h7 aq) (aR (x:=(h i,N+1)) rfl (aR (hg.row i aq) (bH (by simp only;omega) (aR (x:=b5 (t.T i c*w)) (by rw [Int.toNat_natCast];exact h7 (by omega)) (aR b0 (h4 (by rw [xK hw];exact va (fun c=>E0 (ri.1 c))) rfl)))))))),c,rfl,by omega,fun _=>E0,cK⟩)
  (fun _ cK=>⟨_,by unfold vS;exact dZ (by omega) rfl,n,rfl,Nat.le_refl _,fun c=>by omega,cK⟩) () (fun j aF=>by omega)
 exact ⟨k,e,h1,o,ab⟩
structure qD (m n N:Nat) (A:Nat→Nat→Rat) (t:cI) (cx:Nat) (h:Nat→Nat):Prop where
 inv:kM m N A t
 z : ∀i,i<m→n≤t.B i→t.T i N=0
 le:cx≤m
 lt : ∀i,i<cx→h i<m
 inj : ∀i,i<cx→ ∀k,k<cx→h i=h k→i=k
 dead : ∀d,d<m→(∀i,i<cx→h i≠d)→n≤t.B d∧ ∀j,j<n→t.T d j=0
theorem qD.yc {m n N cx:Nat}{A:Nat→Nat→Rat}{t:cI}{h:Nat→Nat}(s:Small m N A)(a:qD m n N A t cx h):qH cx N (hj m A t) (jU h t) :=
 have f:=a.inv.yc s
 ⟨f.pos,f.hw,fun i aq j aF=>f.iK (h i) (a.lt i aq) j aF,fun i aq=>f.g9 (h i) (a.lt i aq)⟩
theorem qD.Ef {m n N cx:Nat}{A:Nat→Nat→Rat}{t:cI}{h:Nat→Nat}(s:Small m N A)(a:qD m n N A t cx h){r k:Nat}(ar:r<cx)(a8:k<N)(ak:t.T (h r) k≠0):yb cx N (hj m A t) (jU h t) r k :=
 have f:=a.inv.Ef s (a.lt r ar) a8 ak
 ⟨ar,a8,ak,fun i aq j aF=>by
  rw [(J8 (t:=t) (k:=k) (a.inj i aq r ar)).1 j]
  exact f.B3 (h i) (a.lt i aq) j aF⟩
theorem qD.cO {m n N cx:Nat}{A:Nat→Nat→Rat}{t:cI}{h:Nat→Nat}(L4:n≤N)(a:qD m n N A t cx h){r k:Nat}(ar:r<cx)(a8:k<n)(aS:n≤t.B (h r))(ak:t.T (h r) k≠0):qD m n N A (t.cO (h r) k) cx h:=by
 have cv:=a.z (h r) (a.lt r ar) aS
 have dJ : ∀i,(t.cO (h r) k).T i N=t.T i N:=fun i=>by
  simp only [cI.cO]
  split
  ·rename_i e;rw [e,cv];grind
  ·rw [cv];grind
 refine ⟨⟨a.inv.ok.cO (a.lt r ar) (by omega) ak,fun i aq=>by rw [dJ];exact a.inv.nO i aq,?_⟩,fun i aq g9=> ?_,a.le,a.lt,a.inj,fun d bJ jv=> ?_⟩
 ·rw [a.inv.ok.xZ (a.lt r ar) (by omega)]
  have:=a.inv.sF
  grind
 ·rw [dJ]
  simp only [cI.cO] at g9
  by_cases c:i=h r
  ·rw [if_pos c] at g9;omega
  ·rw [if_neg c] at g9;exact a.z i aq g9
 ·obtain ⟨h1,o⟩:=a.dead d bJ jv
  have dr:d≠h r:=fun e=>jv r ar e.symm
  simp only [cI.cO,if_neg dr]
  refine ⟨h1,fun j aF=> ?_⟩
  rw [o j aF,o k a8];grind
theorem ZM {m n N:Nat}{A:Nat→Nat→Rat}(s:Small m N A)(fQ:N<1000)(L4:n≤N)(free:List Bool){t:cI}(ch:kM m N A t)(cv:∀i,i<m→n≤t.B i→t.T i N=0){e9:List (List bq)}(hg:mN m N m (fun i=>i) (hj m A t) t e9):
 ∃db cx h kU,y4 (n:Int) (b5 (hj m A t)).cN (b5 (hj m A t)).cC (N:Int) (hh m N fun i=>i) e9 (dv m t) free=some ((b5 (hj m A db)).cN,(b5 (hj m A db)).cC,hh cx N h,kU,dv cx (jU h db)) ∧
  qD m n N A db cx h∧(∀i,i<cx→db.B (h i)<n)∧mN cx N m h (hj m A db) (jU h db) kU:=by
 have hm:=s.hm
 unfold y4 Gj
 obtain ⟨x,e,db,cx,h,kU,rfl,h1,o,ab⟩:=jC (f:=fun w:Int×Bool×(List Int)×(List bx)×(List (List bq))×(List Int)=>yR (n:Int) (N:Int) free w.1 w.2.1 w.2.2.1 w.2.2.2.1 w.2.2.2.2.1 w.2.2.2.2.2)
  (fun w=> ∃(i cx:Nat) (h:Nat→Nat) (t:cI) (p:List (List bq)),w=((i:Int),(b5 (hj m A t)).cN,(b5 (hj m A t)).cC,hh cx N h,p,dv cx (jU h t))∧i≤cx∧qD m n N A t cx h∧(∀q,q<i→t.B (h q)<n)∧mN cx N m h (hj m A t) (jU h t) p)
  (fun w=>w.2.2.2.1.length-w.1.toNat)
  (fun x=> ∃db cx h kU,x=((b5 (hj m A db)).cN,(b5 (hj m A db)).cC,hh cx N h,kU,dv cx (jU h db))∧qD m n N A db cx h∧(∀i,i<cx→db.B (h i)<n)∧mN cx N m h (hj m A db) (jU h db) kU)
  (fun w hw=>by
    obtain ⟨i,cx,h,t,p,rfl,aq,bF,bc,ak⟩:=hw
    have kW:=bF.le
    have st:(hh cx N h).length=cx:=cZ ..
    have L5:(dv cx (jU h t)).length=cx:=cZ ..
    simp only
    unfold yR
    by_cases c:i<cx
    ·left
     have g1:0≤(i:Int)∧(i:Int)<((dv cx (jU h t)).length:Nat):=by rw [L5];omega
     have g2:(dv cx (jU h t))[(0+((i:Int)).toNat)]? = some ((t.B (h i):Nat):Int):=by rw [Int.toNat_natCast];exact h7 c
     by_cases E1:t.B (h i)<n
     ·refine ⟨(((i+1:Nat):Int),(b5 (hj m A t)).cN,(b5 (hj m A t)).cC,hh cx N h,p,dv cx (jU h t)),dz (by rw [st];omega) (bH g1 (aR g2 (dz (by omega) (by rw [fo (by omega)])))),⟨i+1,cx,h,t,p,rfl,by omega,bF,fun q nh=> ?_,ak⟩,by simp only [st];omega⟩
      by_cases e:q=i
      ·rw [e];exact E1
      ·exact bc q (by omega)
     ·obtain ⟨k,mX,ll,qi,Mi⟩:=Yp fQ L4 (bF.yc s) ak c (b5 (hj m A t)).cN (b5 (hj m A t)).cC (N:Int) (dv cx (jU h t)) free
      by_cases Mj:k<n
      ·have L6:t.T (h i) k≠0:=qi Mj
       obtain ⟨kd,e1,aD⟩:=Qd (by omega) fQ bF.inj (bF.yc s) (bF.Ef s c (by omega) L6) ak (N:Int) free
       have tI:pt (hj m A t) (jU h t) i k=hj m A (t.cO (h i) k):=QI bF.inv.ok bF.inv.sF (bF.lt i c) (by omega) L6
       have aex:dv cx ((jU h t).cO i k)=dv cx (jU h (t.cO (h i) k)):=e4 fun q nh=>by
        have:=(J8 (t:=t) (k:=k) (bF.inj q nh i c)).2
        rw [this]
       rw [tI,aex] at e1
       rw [tI] at aD
       refine ⟨(((i+1:Nat):Int),(b5 (hj m A (t.cO (h i) k))).cN,(b5 (hj m A (t.cO (h i) k))).cC,hh cx N h,kd,dv cx (jU h (t.cO (h i) k))),dz (by rw [st];omega) (bH g1 (aR g2 (dZ (by omega) (aR mX (dz (by omega) (aR e1 (by rw [fo (by omega)]))))))),⟨i+1,cx,h,t.cO (h i) k,kd,rfl,by omega,bF.cO L4 c Mj (by omega) L6,fun q nh=> ?_,aD.len,fun q nh=> ?_⟩,by simp only [st];omega⟩
       ·simp only [cI.cO]
        split
        ·exact Mj
        ·rename_i dr
         have:q≠i:=fun e=>dr (by rw [e])
         exact bc q (by omega)
       ·rw [aD.row q nh]
        congr 1
        exact e4 fun j _=>by rw [(J8 (t:=t) (k:=k) (bF.inj q nh i c)).1 j]
      ·have L2:k=n:=by omega
       have BZ:R ((i:Int)+1)=((i+1:Nat):Int):=fo (by omega)
       have EM:(((hh cx N h).drop (0+(i+1))).take (cx-(i+1))).length=cx-(i+1):=by rw [List.length_take,List.length_drop,st];omega
       have LV:(((dv cx (jU h t)).drop (0+(i+1))).take (cx-(i+1))).length=cx-(i+1):=by rw [List.length_take,List.length_drop,L5];omega
       have bn:(hh cx N h).take (i-0)++((hh cx N h).drop (0+(i+1))).take (cx-(i+1))=hh (cx-1) N (skip i h):=OJ c _
       have eh:(dv cx (jU h t)).take (i-0)++((dv cx (jU h t)).drop (0+(i+1))).take (cx-(i+1))=dv (cx-1) (jU (skip i h) t):=OJ c _
       refine ⟨((i:Int),(b5 (hj m A t)).cN,(b5 (hj m A t)).cC,hh (cx-1) N (skip i h),p,dv (cx-1) (jU (skip i h) t)),dz (by rw [st];omega) (bH g1 (aR g2 (dZ (by omega) (aR mX (dZ (by omega) ?_))))),⟨i,cx-1,skip i h,t,p,rfl,by omega,⟨bF.inv,bF.z,by omega,fun q nh=> ?_,fun q nh a2 yd e=> ?_,fun d bJ jv=> ?_⟩,fun q nh=> ?_,ak.len,fun q nh=> ?_⟩,?_⟩
       ·rw [BZ,Int.toNat_natCast,Int.toNat_natCast,st,L5,EM,LV,bn,eh]
        exact bH (by omega) (bH (by omega) (bH (by omega) (bH (by omega) (bH (by omega) (bH (by omega) (bH (by omega) (bH (by omega) (bH (by omega) (bH (by omega) (bH (by omega) (bH (by omega) rfl)))))))))))
       ·simp only [skip];split<;>exact bF.lt _ (by omega)
       ·simp only [skip] at e
        have:=bF.inj _ (by split<;>omega) _ (by split<;>omega) e
        split at this<;>split at this<;>omega
       ·by_cases SN:d=h i
        ·rw [SN]
         exact ⟨by omega,fun j aF=>Mi j (by omega)⟩
        ·refine bF.dead d bJ fun q nh=> ?_
         by_cases bu:q<i
         ·have:=jv q (by omega);simp only [skip] at this;rw [if_pos bu] at this;exact this
         ·by_cases cg:q=i
          ·rw [cg];exact fun e=>SN e.symm
          ·have:=jv (q-1) (by omega);simp only [skip] at this;rw [if_neg (by omega),show q-1+1=q by omega] at this;exact this
       ·simp only [skip];rw [if_pos nh];exact bc q nh
       ·simp only [skip]
        by_cases bu:q<i
        ·rw [if_pos bu,ak.row q (by omega)];congr 1
         exact e4 fun j _=>by simp only [jU,skip];rw [if_pos bu]
        ·rw [if_neg bu,ak.row (q+1) (by omega)];congr 1
         exact e4 fun j _=>by simp only [jU,skip];rw [if_neg bu]
       ·simp only [st,show (hh (cx-1) N (skip i h)).length=cx-1 from cZ ..];omega
    ·right
     have ad4:i=cx:=by omega
     subst ad4
     exact ⟨_,dZ (by rw [st];omega) rfl,t,i,h,p,rfl,bF,bc,ak⟩)
  ((0:Int),(b5 (hj m A t)).cN,(b5 (hj m A t)).cC,hh m N (fun i=>i),e9,dv m t)
  ⟨0,m,fun i=>i,t,e9,rfl,by omega,⟨ch,cv,Nat.le_refl _,fun i aq=>aq,fun i _ k _ e=>e,fun d bJ jv=>(jv d bJ rfl).elim⟩,fun q bc=>by omega,hg.len,hg.row⟩
 exact ⟨db,cx,h,kU,aR e rfl,h1,o,ab⟩
theorem Qe:(⟨false,([]:List Int)⟩:bq)=b5 0:=by
 show _=gX (0:Rat).num
 rw [show (0:Rat).num=0 from rfl]
 unfold gX
 rw [show L ((0:Int).natAbs:Int)=[] from tb.2 (by simp)];rfl
theorem Kj {α:Type}(l:List α)(x:α):(l++[x])[l.length]? = some x:=by simp
theorem xL {α:Type}(l:List α)(x y:α):(l++[x]).set l.length y=l++[y]:=by simp
theorem Qf {p:hp}{m n:Nat}{a:Nat→Nat→Int}{b:Nat→Int}(h:ma p m n a b){i:Nat}(aq:i<m):w4 p i=some (a7 n (a i)):=by
 have:=KA h aq
 unfold um at this
 unfold w4
 exact this
theorem XZ {p:hp}{m n:Nat}{a:Nat→Nat→Int}{b:Nat→Int}(h:ma p m n a b){i:Nat}(aq:i<m)(aS:b i<0)(x0:Int)(mB:Bool)(gT:List Int)(a2:List bx)(b4:List Int)(cJ:List Bool)(P:List (List bq)):
 CS p.ft p.ea p.dI p.el p.hF x0 (i:Int) P.length (n+m+1) (a7 n (a i)) (len_ eI (a7 n (a i))) mB gT a2 b4 cJ 0 (P++[a7 (n+m+1) fun _=>b5 0])=some (P++[a7 (n+m+1) fun j=>if j<n then b5 (dE m n a b i j) else b5 0]):=by
 have hm:=h.hm
 have a4:=h.a4
 have b0:ka (b i) = -1:=by unfold ka;rw [if_pos aS]
 unfold CS
 rw [fO,cZ]
 obtain ⟨s1,e1,-⟩:=hT (f:=fun w:Int×List (List bq)=>wF p.ft p.ea p.dI p.el p.hF x0 (i:Int) P.length (n+m+1) (a7 n (a i)) ((n:Nat):Int) mB gT a2 b4 cJ w.1 w.2)
  (fun (k:Nat) (_:Unit)=>((k:Int),P++[a7 (n+m+1) fun j=>if j<k then b5 (dE m n a b i j) else b5 0])) n (fun _ _=>True) (fun _=>P++[a7 (n+m+1) fun j=>if j<n then b5 (dE m n a b i j) else b5 0])
  (fun k a8 _ _=>by
    refine ⟨(),?_,trivial⟩
    have bF:=h.sE i aq k a8
    have e:R ((-1:Int)*a i k)=kg m n a b i k:=by
     rw [cy (by omega) (by omega)];unfold kg;rw [if_pos a8,b0]
    unfold wF
    refine dz (by simp only;omega) (bH (by rw [cZ];simp only;omega) (aR (x:=a i k) (by simp only;rw [Int.toNat_natCast];exact f9 a8) (aR (x:=b5 (dE m n a b i k)) (by rw [e];exact rQ (by have:=sb h aq k;rw [mg];omega)) (aR (Kj _ _) (bH (by simp only;omega) (aR (by simp only;rw [Int.toNat_natCast];exact h7 (by omega)) ?_))))))
    simp only
    rw [fo (by omega),Int.toNat_natCast,Nat.zero_add,k4,xL]
    congr 5
    refine e4 fun j _=> ?_
    by_cases bu:j=k
    ·subst bu;rw [if_pos rfl,if_pos (by omega)]
    ·rw [if_neg bu]
     by_cases cg:j<k
     ·rw [if_pos cg,if_pos (by omega)]
     ·rw [if_neg cg,if_neg (by omega)])
  (fun _ _=>by unfold wF;exact dZ (by simp) rfl) () trivial
 have e0:(a7 (n+m+1) fun j=>if j<0 then b5 (dE m n a b i j) else b5 0)=a7 (n+m+1) fun _=>b5 0:=e4 fun j _=>by rw [if_neg (by omega)]
 rw [e0] at e1
 exact e1
theorem X0 {p:hp}{m n:Nat}{a:Nat→Nat→Int}{b:Nat→Int}(h:ma p m n a b){i:Nat}(aq:i<m)(aS:¬b i<0)(x0:Int)(mB:Bool)(gT:List Int)(a2:List bx)(b4:List Int)(cJ:List Bool)(P:List (List bq)):
 CT p.ft p.ea p.dI p.el p.hF x0 (i:Int) P.length (n+m+1) (a7 n (a i)) (len_ eI (a7 n (a i))) mB gT a2 b4 cJ 0 (P++[a7 (n+m+1) fun _=>b5 0])=some (P++[a7 (n+m+1) fun j=>if j<n then b5 (dE m n a b i j) else b5 0]):=by
 have hm:=h.hm
 have a4:=h.a4
 have b0:ka (b i)=1:=by unfold ka;rw [if_neg aS]
 unfold CT
 rw [fO,cZ]
 obtain ⟨s1,e1,-⟩:=hT (f:=fun w:Int×List (List bq)=>wG p.ft p.ea p.dI p.el p.hF x0 (i:Int) P.length (n+m+1) (a7 n (a i)) ((n:Nat):Int) mB gT a2 b4 cJ w.1 w.2)
  (fun (k:Nat) (_:Unit)=>((k:Int),P++[a7 (n+m+1) fun j=>if j<k then b5 (dE m n a b i j) else b5 0])) n (fun _ _=>True) (fun _=>P++[a7 (n+m+1) fun j=>if j<n then b5 (dE m n a b i j) else b5 0])
  (fun k a8 _ _=>by
    refine ⟨(),?_,trivial⟩
    have bF:=h.sE i aq k a8
    have e:R ((1:Int)*a i k)=kg m n a b i k:=by
     rw [cy (by omega) (by omega)];unfold kg;rw [if_pos a8,b0]
    unfold wG
    refine dz (by simp only;omega) (bH (by rw [cZ];simp only;omega) (aR (x:=a i k) (by simp only;rw [Int.toNat_natCast];exact f9 a8) (aR (x:=b5 (dE m n a b i k)) (by rw [e];exact rQ (by have:=sb h aq k;rw [mg];omega)) (aR (Kj _ _) (bH (by simp only;omega) (aR (by simp only;rw [Int.toNat_natCast];exact h7 (by omega)) ?_))))))
    simp only
    rw [fo (by omega),Int.toNat_natCast,Nat.zero_add,k4,xL]
    congr 5
    refine e4 fun j _=> ?_
    by_cases bu:j=k
    ·subst bu;rw [if_pos rfl,if_pos (by omega)]
    ·rw [if_neg bu]
     by_cases cg:j<k
     ·rw [if_pos cg,if_pos (by omega)]
     ·rw [if_neg cg,if_neg (by omega)])
  (fun _ _=>by unfold wG;exact dZ (by simp) rfl) () trivial
 have e0:(a7 (n+m+1) fun j=>if j<0 then b5 (dE m n a b i j) else b5 0)=a7 (n+m+1) fun _=>b5 0:=e4 fun j _=>by rw [if_neg (by omega)]
 rw [e0] at e1
 exact e1
theorem qu {α:Type}(n:Nat)(x:α):List.replicate n x=a7 n fun _=>x:=by
 apply List.ext_getElem?
 intro i
 by_cases c:i<n
 ·rw [f9 c];simp [c]
 ·rw [List.getElem?_eq_none_iff.2 (by simp;omega),List.getElem?_eq_none_iff.2 (by rw [cZ];omega)]
theorem NX {p:hp}{m n:Nat}{a:Nat→Nat→Int}{b:Nat→Int}(h:ma p m n a b)(mB:Bool)(gT:List Int)(cJ:List Bool):
 CU p.ft p.ea p.dI p.el p.hF ((n+m:Nat):Int) mB gT cJ 0 ([]:List bx) ([]:List (List bq)) ([]:List Int)=some (hh m (n+m) (fun i=>i),a7 m (fun i=>a7 (n+m+1) fun j=>b5 (dE m n a b i j)),dv m (ia m n a b)):=by
 have hm:=h.hm
 have a4:=h.a4
 unfold CU
 obtain ⟨s,e,-⟩:=hT (f:=fun w:Int×(List bx)×(List (List bq))×(List Int)=>wH p.ft p.ea p.dI p.el p.hF ((n+m:Nat):Int) mB gT cJ w.1 w.2.1 w.2.2.1 w.2.2.2)
  (fun (i:Nat) (_:Unit)=>((i:Int),a7 i (fun k=>(some (k,n+m+1):bx)),a7 i (fun i=>a7 (n+m+1) fun j=>b5 (dE m n a b i j)),a7 i (fun k=>((n+k:Nat):Int)))) m (fun _ _=>True)
  (fun _=>(hh m (n+m) (fun i=>i),a7 m (fun i=>a7 (n+m+1) fun j=>b5 (dE m n a b i j)),dv m (ia m n a b)))
  (fun i aq _ _=>by
    refine ⟨(),?_,trivial⟩
    have aS:=h.vA i aq
    have kh:R (((n+m:Nat):Int)+1)=((n+m+1:Nat):Int):=fo (by omega)
    have hw:R (p.ea+(i:Int))=((n+i:Nat):Int):=by rw [h.gr,← Int.natCast_add,cy (by omega) (by omega)]
    have Su:(a7 i (fun i=>a7 (n+m+1) fun j=>b5 (dE m n a b i j))).length=i:=cZ ..
    have pE:kg m n a b i (n+m)=ka (b i)*b i:=by unfold kg;rw [if_neg (by omega),if_pos rfl]
    have dx:((a7 (n+m+1) fun j=>if j<n then b5 (dE m n a b i j) else b5 0).set (n+i) (b5 ((1:Int):Rat))).set (n+m) (b5 (dE m n a b i (n+m)))=a7 (n+m+1) fun j=>b5 (dE m n a b i j):=by
     rw [k4,k4]
     refine e4 fun j aF=> ?_
     by_cases bu:j=n+m
     ·rw [if_pos bu,bu]
     ·rw [if_neg bu]
      by_cases cg:j=n+i
      ·rw [if_pos cg,cg,rX aq,if_pos rfl];rfl
      ·rw [if_neg cg]
       by_cases jk:j<n
       ·rw [if_pos jk]
       ·rw [if_neg jk]
        obtain ⟨k,rfl⟩ : ∃k,j=n+k:=⟨j-n,by omega⟩
        rw [rX (by omega),if_neg (by omega)]
    unfold wH
    rw [kh,hw,Int.toNat_natCast]
    refine dz (by simp only;rw [h.rows];omega) (bH (by omega) (bH (by simp only;rw [h.vB];omega) (aR (x:=b i) (by first|exact h.ya i aq|(rw [Int.toNat_natCast];exact h.ya i aq)|(simp only;rw [Int.toNat_natCast];exact h.ya i aq)) ?_)))
    have fin:(some (Sum.inl (R ((i:Int)+1),(a7 i (fun k=>(some (k,n+m+1):bx)))++[some (i,n+m+1)],(a7 i (fun i=>a7 (n+m+1) fun j=>b5 (dE m n a b i j)))++[a7 (n+m+1) fun j=>b5 (dE m n a b i j)],(a7 i fun k=>((n+k:Nat):Int))++[((n+i:Nat):Int)])):Option ((Int×(List bx)×(List (List bq))×(List Int))⊕((List bx)×(List (List bq))×(List Int)))) =
     some (Sum.inl (((i+1:Nat):Int),a7 (i+1) (fun k=>(some (k,n+m+1):bx)),a7 (i+1) (fun i=>a7 (n+m+1) fun j=>b5 (dE m n a b i j)),a7 (i+1) (fun k=>((n+k:Nat):Int)))):=by
     rw [fo (by omega),k3 i (fun k=>(some (k,n+m+1):bx)),k3 i (fun i=>a7 (n+m+1) fun j=>b5 (dE m n a b i j)),k3 i (fun k=>((n+k:Nat):Int))]
    have U : ∀(P:List (List bq)) (F:List bq→Option ((Int×(List bx)×(List (List bq))×(List Int))⊕((List bx)×(List (List bq))×(List Int)))) (x:List bq) r,F x=r→(P++[x])[P.length]? >>= F=r:=fun P F x r tC=>aR (Kj P x) tC
    refine oi (fun c=> ?_) (fun c=> ?_)
    ·have nb:b i<0:=of_decide_eq_true c
     have b0:ka (b i) = -1:=by unfold ka;rw [if_pos nb]
     refine aR (Qf h aq) (aR (by rw [Qe,qu];exact XZ h aq nb _ _ _ _ _ _ _) (aR (rQ (n:=1) (by rw [mg];omega)) (U _ _ _ _ ?_)))
     refine bH (by omega) (aR (x:=b5 0) (by rw [Int.toNat_natCast,h7 (by omega),if_neg (by omega)]) (aR (x:=b5 (dE m n a b i (n+m))) (by
      have e:R ((-1:Int)*b i)=kg m n a b i (n+m):=by rw [pE,b0,cy (by omega) (by omega)]
      rw [e];exact rQ (by have:=sb h aq (n+m);rw [mg];omega)) ?_))
     rw [xL,Int.toNat_natCast,Nat.zero_add,Int.toNat_natCast,Nat.zero_add]
     refine U _ _ _ _ (bH (by omega) ?_)
     obtain ⟨v,bh⟩ : ∃v,((a7 (n+m+1) fun j=>if j<n then b5 (dE m n a b i j) else b5 0).set (n+i) (b5 ((1:Int):Rat)))[n+m]? = some v:=by
      rw [k4,f9 (by omega)];exact ⟨_,rfl⟩
     refine aR bh (bH (by simp only [List.length_append,cZ,List.length_cons,List.length_nil];omega) (bH (by simp only [List.length_append,cZ,List.length_cons,List.length_nil];omega) ?_))
     rw [xL]
     simp only [Int.toNat_natCast,Nat.zero_add]
     rw [dx,Su]
     exact fin
    ·have nb : ¬b i<0:=of_decide_eq_false c
     have b0:ka (b i)=1:=by unfold ka;rw [if_neg nb]
     refine aR (Qf h aq) (aR (by rw [Qe,qu];exact X0 h aq nb _ _ _ _ _ _ _) (aR (rQ (n:=1) (by rw [mg];omega)) (U _ _ _ _ ?_)))
     refine bH (by omega) (aR (x:=b5 0) (by rw [Int.toNat_natCast,h7 (by omega),if_neg (by omega)]) (aR (x:=b5 (dE m n a b i (n+m))) (by
      have e:R ((1:Int)*b i)=kg m n a b i (n+m):=by rw [pE,b0,cy (by omega) (by omega)]
      rw [e];exact rQ (by have:=sb h aq (n+m);rw [mg];omega)) ?_))
     rw [xL,Int.toNat_natCast,Nat.zero_add,Int.toNat_natCast,Nat.zero_add]
     refine U _ _ _ _ (bH (by omega) ?_)
     obtain ⟨v,bh⟩ : ∃v,((a7 (n+m+1) fun j=>if j<n then b5 (dE m n a b i j) else b5 0).set (n+i) (b5 ((1:Int):Rat)))[n+m]? = some v:=by
      rw [k4,f9 (by omega)];exact ⟨_,rfl⟩
     refine aR bh (bH (by simp only [List.length_append,cZ,List.length_cons,List.length_nil];omega) (bH (by simp only [List.length_append,cZ,List.length_cons,List.length_nil];omega) ?_))
     rw [xL]
     simp only [Int.toNat_natCast,Nat.zero_add]
     rw [dx,Su]
     exact fin)
  (fun _ _=>by unfold wH;exact dZ (by simp only;rw [h.rows];omega) rfl) () trivial
 exact e
def pJ (n j:Nat):Int:=if n≤j then -1 else 0
theorem QJ {m n j:Nat}(aF:j<n+m):((pJ n j:Int):Rat)=gG m n j:=by
 unfold pJ gG
 by_cases c:n≤j
 ·rw [if_pos c,if_pos ⟨c,aF⟩];rfl
 ·rw [if_neg c,if_neg (by omega)];rfl
theorem Qg {m n:Nat}{t:cI}(g9:∀i,i<m→t.B i<n+m){j:Nat}(aF:j<n+m):t.dA m (fun j=>((pJ n j:Int):Rat)) j=t.dA m (gG m n) j:=by
 unfold cI.dA
 simp only
 rw [QJ aF,h5 (g:=fun i=>gG m n (t.B i)*t.T i j) fun i aq=>by rw [QJ (g9 i aq)]]
theorem Od {p:hp}{m n:Nat}{a:Nat→Nat→Int}{b:Nat→Int}(h:ma p m n a b)(x0:Int)(mB:Bool)(gT:List Int)(a2:List bx)(bO:List (List bq))(b4:List Int):
 CV p.ft p.ea p.dI p.el p.hF x0 ((n+m:Nat):Int) mB gT a2 bO b4 0 (a7 (n+m) fun _=>(0:Int)) (a7 (n+m) fun _=>false)=some (a7 (n+m) (pJ n),a7 (n+m) fun j=>decide (j<n)):=by
 have hm:=h.hm
 have a4:=h.a4
 unfold CV
 obtain ⟨s,e,-⟩:=hT (f:=fun w:Int×List Int×List Bool=>wI p.ft p.ea p.dI p.el p.hF x0 ((n+m:Nat):Int) mB gT a2 bO b4 w.1 w.2.1 w.2.2)
  (fun (k:Nat) (_:Unit)=>((k:Int),(a7 (n+m) fun j=>if j<k then pJ n j else 0),a7 (n+m) fun j=>if j<k then decide (j<n) else false)) (n+m) (fun _ _=>True) (fun _=>(a7 (n+m) (pJ n),a7 (n+m) fun j=>decide (j<n)))
  (fun k a8 _ _=>by
    refine ⟨(),?_,trivial⟩
    have aD:(a7 (n+m) fun j=>if j<k then decide (j<n) else false).set (0+((k:Int)).toNat) (decide (k<n))=a7 (n+m) fun j=>if j<k+1 then decide (j<n) else false:=by
     rw [Int.toNat_natCast,Nat.zero_add,k4]
     refine e4 fun j _=> ?_
     by_cases c:j=k
     ·subst c;rw [if_pos rfl,if_pos (by omega)]
     ·rw [if_neg c]
      by_cases cg:j<k
      ·rw [if_pos cg,if_pos (by omega)]
      ·rw [if_neg cg,if_neg (by omega)]
    have Mk:decide ((k:Int)<p.ea)=decide (k<n):=by rw [h.gr];simp
    unfold wI
    simp only
    rw [Mk,aD,fo (by omega)]
    refine dz (by omega) (bH (by rw [cZ];omega) (bH (by rw [cZ,Int.toNat_natCast];omega) ?_))
    by_cases c:n≤k
    ·refine dz (by rw [h.gr];omega) (bH (by rw [cZ];omega) (bH (by rw [cZ,Int.toNat_natCast];omega) ?_))
     rw [Int.toNat_natCast,Nat.zero_add,k4]
     congr 4
     refine e4 fun j _=> ?_
     by_cases bu:j=k
     ·subst bu;rw [if_pos rfl,if_pos (by omega)];unfold pJ;rw [if_pos c]
     ·rw [if_neg bu]
      by_cases cg:j<k
      ·rw [if_pos cg,if_pos (by omega)]
      ·rw [if_neg cg,if_neg (by omega)]
    ·refine dZ (by rw [h.gr];omega) ?_
     congr 4
     refine e4 fun j _=> ?_
     by_cases bu:j=k
     ·subst bu;rw [if_neg (by omega),if_pos (by omega)];unfold pJ;rw [if_neg c]
     ·by_cases cg:j<k
      ·rw [if_pos cg,if_pos (by omega)]
      ·rw [if_neg cg,if_neg (by omega)])
  (fun _ _=>by
    unfold wI
    refine dZ (by simp) ?_
    simp only
    congr 3
    ·exact e4 fun j aF=>by rw [if_pos aF]
    ·exact e4 fun j aF=>by rw [if_pos aF]) () trivial
 have Cf:(a7 (n+m) fun j=>if j<0 then pJ n j else 0)=a7 (n+m) fun _=>(0:Int):=e4 fun j _=>by rw [if_neg (by omega)]
 have aey:(a7 (n+m) fun j=>if j<0 then decide (j<n) else false)=a7 (n+m) fun _=>false:=e4 fun j _=>by rw [if_neg (by omega)]
 rw [Cf,aey] at e
 exact e
theorem X1 {p:hp}{m n:Nat}{a:Nat→Nat→Int}{b:Nat→Int}(h:ma p m n a b){w:Rat}{t:cI}(f:qH m (n+m) w t){e9:List (List bq)}(hg:mN m (n+m) m (fun i=>i) w t e9)(mB:Bool)(gT:List Int)(x0:Int)(q:List Bool):
 ∃r,CW p.ft p.ea p.dI p.el p.hF ((n+m:Nat):Int) ((m:Nat):Int) mB gT x0 (dv m t) (hh m (n+m) fun i=>i) e9 q 0=some r∧((r = .inr ()∧ ∃i,i<m∧n≤t.B i∧0<t.T i (n+m))∨(r = .inl ()∧ ∀i,i<m→n≤t.B i→ ¬0<t.T i (n+m))):=by
 have hm:=h.hm
 have a4:=h.a4
 have hw:=f.pos
 unfold CW
 exact qp (f:=fun w:Int=>wJ p.ft p.ea p.dI p.el p.hF ((n+m:Nat):Int) ((m:Nat):Int) mB gT x0 (dv m t) (hh m (n+m) fun i=>i) e9 q w) (fun (i:Nat) (_:Unit)=>(i:Int)) m (fun k _=> ∀i,i<k→n≤t.B i→ ¬0<t.T i (n+m)) _
  (fun i aq _ cK=>by
    have b0:=s4 ((f.iK i aq (n+m) (Nat.le_refl _)).mono (sg (by have:=pY;generalize fH=q at *;omega)))
    have g1:0≤(i:Int)∧(i:Int)<((dv m t).length:Nat):=by unfold dv;rw [cZ];omega
    have g2:(dv m t)[(0+((i:Int)).toNat)]? = some ((t.B i:Nat):Int):=by rw [Int.toNat_natCast];exact h7 aq
    have g3:0≤(i:Int)∧(i:Int)<((hh m (n+m) fun i=>i).length:Nat):=by unfold hh;rw [cZ];omega
    have g4:(hh m (n+m) fun i=>i)[(0+((i:Int)).toNat)]? = some (some (i,n+m+1)):=by rw [Int.toNat_natCast];exact h7 aq
    unfold wJ
    by_cases E1:n≤t.B i
    ·by_cases ks:0<t.T i (n+m)
     ·right
      exact ⟨_,dz (by omega) (bH g1 (aR g2 (dz (by rw [h.gr];omega) (bH g3 (aR g4 (aR (x:=(i,n+m+1)) rfl (aR (hg.row i aq) (bH (by simp only;omega) (aR (x:=b5 (t.T i (n+m)*w)) (by rw [Int.toNat_natCast];exact h7 (by omega)) (aR b0 (dz (by rw [xK hw];exact qt.2 ks) rfl))))))))))),.inl ⟨rfl,i,aq,E1,ks⟩⟩
     ·left
      refine ⟨(),dz (by omega) (bH g1 (aR g2 (dz (by rw [h.gr];omega) (bH g3 (aR g4 (aR (x:=(i,n+m+1)) rfl (aR (hg.row i aq) (bH (by simp only;omega) (aR (x:=b5 (t.T i (n+m)*w)) (by rw [Int.toNat_natCast];exact h7 (by omega)) (aR b0 (dZ (by rw [xK hw];exact fun c=>ks (qt.1 c)) (by rw [fo (by omega)])))))))))))),fun k a8=> ?_⟩
      by_cases e:k=i
      ·rw [e];exact fun _=>ks
      ·exact cK k (by omega)
    ·left
     refine ⟨(),dz (by omega) (bH g1 (aR g2 (dZ (by rw [h.gr];omega) (by rw [fo (by omega)])))),fun k a8=> ?_⟩
     by_cases e:k=i
     ·rw [e];exact fun c=>(E1 c).elim
     ·exact cK k (by omega))
  (fun _ cK=>⟨_,by unfold wJ;exact dZ (by omega) rfl,.inr ⟨rfl,cK⟩⟩) () (fun k a8=>by omega)
theorem X2 {p:hp}{m n:Nat}{a:Nat→Nat→Int}{b:Nat→Int}(h:ma p m n a b)(F:Nat→Bool)(mB:Bool)(gT:List Int)(x0:Int)(a2:List bx)(bO:List (List bq))(b4:List Int):
 CX p.ft p.ea p.dI p.el p.hF ((n+m:Nat):Int) mB gT x0 a2 bO b4 0 (a7 (n+m) F)=some (a7 (n+m) fun j=>decide (j<n)):=by
 have hm:=h.hm
 have a4:=h.a4
 unfold CX
 obtain ⟨s,e,-⟩:=hT (f:=fun w:Int×List Bool=>wK p.ft p.ea p.dI p.el p.hF ((n+m:Nat):Int) mB gT x0 a2 bO b4 w.1 w.2)
  (fun (k:Nat) (_:Unit)=>((k:Int),a7 (n+m) fun j=>if j<k then decide (j<n) else F j)) (n+m) (fun _ _=>True) (fun _=>a7 (n+m) fun j=>decide (j<n))
  (fun k a8 _ _=>by
    refine ⟨(),?_,trivial⟩
    have Mk:decide ((k:Int)<p.ea)=decide (k<n):=by rw [h.gr];simp
    unfold wK
    simp only
    rw [Mk,fo (by omega)]
    refine dz (by omega) (bH (by rw [cZ];omega) (bH (by rw [cZ,Int.toNat_natCast];omega) ?_))
    rw [Int.toNat_natCast,Nat.zero_add,k4]
    congr 3
    refine e4 fun j _=> ?_
    by_cases c:j=k
    ·subst c;rw [if_pos rfl,if_pos (by omega)]
    ·rw [if_neg c]
     by_cases cg:j<k
     ·rw [if_pos cg,if_pos (by omega)]
     ·rw [if_neg cg,if_neg (by omega)])
  (fun _ _=>by
    unfold wK
    refine dZ (by simp) ?_
    simp only
    congr 2
    exact e4 fun j aF=>by rw [if_pos aF]) () trivial
 have Cf:(a7 (n+m) fun j=>if j<0 then decide (j<n) else F j)=a7 (n+m) F:=e4 fun j _=>by rw [if_neg (by omega)]
 rw [Cf] at e
 exact e
theorem Sv {m n:Nat}{a:Nat→Nat→Int}{b:Nat→Int}:hj m (dE m n a b) (ia m n a b)=1:=by
 unfold hj;rw [QA,if_pos (by grind)]
theorem aaD {p:hp}{m n:Nat}{a:Nat→Nat→Int}{b:Nat→Int}(h:ma p m n a b):
 ∃r,zP p=some r∧((te m n a b∧ ∃t cx g e9,r = .inl ((b5 (hj m (dE m n a b) t)).cN,(b5 (hj m (dE m n a b) t)).cC,((n+m:Nat):Int),hh cx (n+m) g,dv cx (jU g t),a7 (n+m) (fun j=>decide (j<n)),e9) ∧
  qD m n (n+m) (dE m n a b) t cx g∧(∀i,i<cx→t.B (g i)<n)∧mN cx (n+m) m g (hj m (dE m n a b) t) (jU g t) e9)∨(¬te m n a b∧r = .inr ())):=by
 have hm:=h.hm
 have a4:=h.a4
 have sG:=JS h
 have fQ:R (p.ea+p.ft)=((n+m:Nat):Int):=by rw [h.gr,h.rows,← Int.natCast_add,cy (by omega) (by omega)]
 have ad5:mN m (n+m) m (fun i=>i) (hj m (dE m n a b) (ia m n a b)) (ia m n a b) (a7 m (fun i=>a7 (n+m+1) fun j=>b5 (dE m n a b i j))):=⟨cZ ..,fun i aq=>by
  rw [f9 aq,Sv]
  congr 1
  exact e4 fun j _=>by
   show b5 (dE m n a b i j)=b5 (dE m n a b i j*1)
   congr 1;grind⟩
 obtain ⟨q,bN,t,e9,yI,e,⟨cK,rfl⟩,hg,en⟩:=Yo (gl:=m) (m:=m) (N:=n+m) (M:=m) (A:=dE m n a b) hm (by omega) (h:=fun i=>i) (fun i _ k _ e=>e) (pJ n) (fun j _=>by unfold pJ;split<;>omega) (fun j=>decide (j<n))
  (fun w t=>kM m (n+m) (dE m n a b) t∧w=hj m (dE m n a b) t) (fun w t cK=>⟨cK.1.ok,cK.1.nO,cK.2▸cK.1.yc sG⟩)
  (fun w t r s cK b=>by
    obtain ⟨h1,rfl⟩:=cK
    have ak:t.T r s≠0:=by have:=b.pos;grind
    exact ⟨h1.Ef sG b.ar b.b0 ak,h1.gQ b,QI h1.ok h1.sF b.ar b.b0 ak⟩)
  (w:=hj m (dE m n a b) (ia m n a b)) (t:=ia m n a b) ⟨⟨P4,O1,Pu⟩,rfl⟩ ad5
 rw [Sv] at e
 have acO : ∀j,j<n→t.dA m (gG m n) j≤0:=by
  rcases en with ⟨-,en,-⟩|⟨-,s,b0,dH,jv⟩
  ·intro j aF
   have:=en j (by omega) (by simpa using aF)
   rw [Qg cK.ok.lg (by omega)] at this
   grind
  ·rw [Qg cK.ok.lg b0] at dH
   obtain ⟨i,aq,ak⟩:=NS cK.ok b0 dH
   exact (jv i aq ak).elim
 have e1:oj 1=some (b5 1):=by
  have:=rQ (n:=1) (by rw [mg];omega)
  rw [show ((1:Int):Rat)=1 from rfl] at this
  exact this
 obtain ⟨r,r1,b1⟩:=X1 h (cK.yc sG) hg (b5 (hj m (dE m n a b) t)).cN (b5 (hj m (dE m n a b) t)).cC ((n+m:Nat):Int) (a7 (n+m) yI)
 unfold zP
 rw [fQ]
 rcases b1 with ⟨rfl,i,aq,g9,iK⟩|⟨rfl,jv⟩
 ·have Bl : ¬te m n a b:=fun b0=>by
   have:=Oa cK.nO (OB cK.ok cK.nO acO b0) cK.ok.lg i aq g9
   grind
  refine ⟨_,aR e1 (bH (by omega) (aR (NX h _ _ _) (bH (by omega) (aR (x:=(a7 (n+m) (pJ n),a7 (n+m) fun j=>decide (j<n))) (by rw [Int.toNat_natCast,qu,qu];exact Od h _ _ _ _ _ _) (aR e ?_))))),.inr ⟨Bl,rfl⟩⟩
  refine aR (x:= .inr ()) ?_ rfl
  simp only
  rw [show ((dv m t).length:Nat)=m from cZ ..]
  exact r1
 ·have cv : ∀i,i<m→n≤t.B i→t.T i (n+m)=0:=fun i aq g9=>by
   have h1:=jv i aq g9
   have o:=cK.nO i aq
   grind
  have b0:te m n a b:=N9 cK.ok cK.nO cv
  obtain ⟨db,cx,g,kU,kF,qX,aez,jV⟩:=ZM (n:=n) sG (by omega) (by omega) (a7 (n+m) fun j=>decide (j<n)) cK cv hg
  refine ⟨_,aR e1 (bH (by omega) (aR (NX h _ _ _) (bH (by omega) (aR (x:=(a7 (n+m) (pJ n),a7 (n+m) fun j=>decide (j<n))) (by rw [Int.toNat_natCast,qu,qu];exact Od h _ _ _ _ _ _) (aR e ?_))))),.inl ⟨b0,db,cx,g,kU,rfl,qX,aez,jV⟩⟩
  refine aR (x:= .inl ()) ?_ ?_
  ·simp only
   rw [show ((dv m t).length:Nat)=m from cZ ..]
   exact r1
  ·simp only
   rw [show ((a7 (n+m) yI).length:Nat)=n+m from cZ ..]
   refine aR (X2 h yI _ _ _ _ _ _) ?_
   rw [h.gr]
   exact aR kF rfl
def ti (k:Nat)(x:bP):List eA:=(if x.iY=2 then [] else [⟨(k:Int),1⟩])++(if x.iY=1 then [] else [⟨(k:Int),-1⟩])
def lx (d6:List bP):Nat→List eA
 | 0=>[]
 | n+1=>lx d6 n++(match d6[n]? with
  | some x=>ti n x
  | none=>[])
theorem DD (d6:List bP): ∀n,(lx d6 n).length≤2*n
 | 0=>by simp [lx]
 | n+1=>by
  have:=DD d6 n
  rw [lx,List.length_append]
  have o:(match d6[n]? with
   | some x=>ti n x
   | none=>[]).length≤2:=by
   split
   ·rename_i x _;unfold ti;rw [List.length_append];split<;>split<;>simp
   ·simp
  omega
theorem PI {d6:List bP}: ∀ {n:Nat} {c:eA},n≤d6.length→c∈lx d6 n→ ∃k:Nat,c.mG=k∧k<n∧(c.p4=1∨c.p4 = -1)
 | 0,c,_,h=>by simp [lx] at h
 | n+1,c,a4,h=>by
  rw [lx,List.mem_append] at h
  rcases h with h|h
  ·obtain ⟨k,h1,o,ab⟩:=PI (by omega) h
   exact ⟨k,h1,by omega,ab⟩
  ·rw [List.getElem?_eq_getElem (by omega)] at h
   simp only [ti,List.mem_append] at h
   rcases h with h|h
   ·split at h
    ·simp at h
    ·simp at h;subst h;exact ⟨n,rfl,by omega,.inl rfl⟩
   ·split at h
    ·simp at h
    ·simp at h;subst h;exact ⟨n,rfl,by omega,.inr rfl⟩
theorem Y2 (s:ct)(ed:s.bB.length≤1000):yX s=some (lx s.bB s.bB.length):=by
 unfold yX FN
 rw [e5]
 obtain ⟨x,e,-⟩:=hT (f:=fun w:Int×List eA=>vL s.bB (s.bB.length:Nat) w.1 w.2) (fun (n:Nat) (_:Unit)=>((n:Int),lx s.bB n)) s.bB.length (fun _ _=>True) (fun _=>lx s.bB s.bB.length)
  (fun n a4 _ _=>by
    refine ⟨(),?_,trivial⟩
    have U:=List.getElem?_eq_getElem a4
    have aT:=DD s.bB n
    have e1:lx s.bB (n+1)=lx s.bB n++ti n s.bB[n]:=by rw [lx,U]
    unfold vL
    refine dz (by simp only;omega) (bH (by simp only;omega) (aR (x:=s.bB[n]) (by simp only;rw [Int.toNat_natCast];exact U) ?_))
    simp only
    rw [fo (by omega),e1]
    unfold ti
    by_cases bu:s.bB[n].iY=2
    ·rw [if_pos bu]
     refine h4 (EA bu) (f7 (yv (by omega)) (bH (by simp only [List.length_append,List.length_cons,List.length_nil];omega) ?_))
     rw [if_neg (by omega)];simp
    ·rw [if_neg bu]
     refine f7 (yv bu) (bH (by simp only [List.length_append,List.length_cons,List.length_nil];omega) ?_)
     by_cases cg:s.bB[n].iY=1
     ·refine h4 (EA cg) ?_
      rw [if_pos cg];simp
     ·refine f7 (yv cg) (bH (by simp only [List.length_append,List.length_cons,List.length_nil];omega) ?_)
      rw [if_neg cg];simp)
  (fun _ _=>by unfold vL;exact dZ (by simp) rfl) () trivial
 exact aR e rfl
theorem XH (s:ct)(ed:s.bB.length≤1000):zg s=some ((lx s.bB s.bB.length).map eA.mG,(lx s.bB s.bB.length).map eA.p4):=by
 unfold zg HR
 rw [e5]
 obtain ⟨x,e,-⟩:=hT (f:=fun w:Int×List Int×List Int=>wa s.bB (s.bB.length:Nat) w.1 w.2.1 w.2.2) (fun (n:Nat) (_:Unit)=>((n:Int),(lx s.bB n).map eA.mG,(lx s.bB n).map eA.p4)) s.bB.length (fun _ _=>True) (fun _=>((lx s.bB s.bB.length).map eA.mG,(lx s.bB s.bB.length).map eA.p4))
  (fun n a4 _ _=>by
    refine ⟨(),?_,trivial⟩
    have U:=List.getElem?_eq_getElem a4
    have aT:=DD s.bB n
    have e1:lx s.bB (n+1)=lx s.bB n++ti n s.bB[n]:=by rw [lx,U]
    unfold wa
    refine dz (by simp only;omega) (bH (by simp only;omega) (aR (x:=s.bB[n]) (by simp only;rw [Int.toNat_natCast];exact U) ?_))
    simp only
    rw [fo (by omega),e1]
    unfold ti
    by_cases bu:s.bB[n].iY=2
    ·rw [if_pos bu]
     refine h4 (EA bu) (f7 (yv (by omega)) (bH (by simp only [List.length_append,List.length_map,List.length_cons,List.length_nil];omega) (bH (by simp only [List.length_append,List.length_map,List.length_cons,List.length_nil];omega) ?_)))
     rw [if_neg (by omega)];simp
    ·rw [if_neg bu]
     refine f7 (yv bu) (bH (by simp only [List.length_append,List.length_map,List.length_cons,List.length_nil];omega) (bH (by simp only [List.length_append,List.length_map,List.length_cons,List.length_nil];omega) ?_))
     by_cases cg:s.bB[n].iY=1
     ·refine h4 (EA cg) ?_
      rw [if_pos cg];simp
     ·refine f7 (yv cg) (bH (by simp only [List.length_append,List.length_map,List.length_cons,List.length_nil];omega) (bH (by simp only [List.length_append,List.length_map,List.length_cons,List.length_nil];omega) ?_))
      rw [if_neg cg];simp)
  (fun _ _=>by unfold wa;exact dZ (by simp) rfl) () trivial
 exact aR e rfl
theorem aa8 {α:Type}(a b:Nat)(f:Nat→α):a7 (a+b) f=a7 a f++a7 b (fun j=>f (a+j)):=by
 induction b with
 | zero=>simp [a7]
 | succ b ih=>rw [← Nat.add_assoc,k3,ih,k3,List.append_assoc]
def lK (s:ct)(k:Nat):Int×Int:=(tR s k).getD (0,0)
theorem J9 (s:ct)(i0:jn s)(h:j5 s=some true)(k:Nat)(a8:k<s.bB.length):tR s k=some (lK s k)∧w7 s k=some (lK s k)∧(-100≤(lK s k).1∧(lK s k).1≤100)∧(-100≤(lK s k).2∧(lK s k).2≤100):=by
 obtain ⟨x,y,h1,o,ab,av⟩:=ZD s i0 h k (by omega) (by omega)
 have e:lK s k=(x,y):=by unfold lK;rw [h1];rfl
 rw [e];exact ⟨h1,o,ab,av⟩
def iy (s:ct)(j:Int)(i6 k:Nat):Int :=
 match s.bB[k]? with
 | none=>0
 | some x=>if j=x.dI then (if i6=0 then (lK s k).1 else (lK s k).2) else if j=x.el then -(if i6=0 then (lK s k).1 else (lK s k).2) else 0
theorem abH (s:ct)(i0:jn s)(h:j5 s=some true)(j:Int)(i6 k:Nat): -100≤iy s j i6 k∧iy s j i6 k≤100:=by
 unfold iy
 split
 ·omega
 ·rename_i x U
  obtain ⟨-,-,ab,av⟩:=J9 s i0 h k (fT U)
  split
  ·split<;>omega
  ·split
   ·split<;>omega
   ·omega
theorem aa9 (s:ct)(i0:jn s)(h:j5 s=some true)(j:Int)(q1:List Int)(a2 bO:Int)(b4:List Int):
 CP j q1 a2 bO s.bB (len_ bU s.bB) s.bZ b4 0 ([]:List Int) ([]:List Int)=some (a7 s.bB.length (iy s j 0),a7 s.bB.length (iy s j 1)):=by
 obtain ⟨-,-,f3,f4⟩:=nR s i0 h
 unfold CP
 rw [e5]
 obtain ⟨x,e,-⟩:=hT (f:=fun w:Int×List Int×List Int=>wA j q1 a2 bO s.bB (s.bB.length:Nat) s.bZ b4 w.1 w.2.1 w.2.2) (fun (n:Nat) (_:Unit)=>((n:Int),a7 n (iy s j 0),a7 n (iy s j 1))) s.bB.length (fun _ _=>True) (fun _=>(a7 s.bB.length (iy s j 0),a7 s.bB.length (iy s j 1)))
  (fun n a4 _ _=>by
    refine ⟨(),?_,trivial⟩
    have U:=List.getElem?_eq_getElem a4
    obtain ⟨-,v2,v3,v4⟩:=J9 s i0 h n a4
    unfold wA
    refine dz (by simp only;omega) (bH (by simp only;omega) (aR (x:=s.bB[n]) (by simp only;rw [Int.toNat_natCast];exact U) (aR (x:=lK s n) v2 ?_)))
    simp only
    rw [fo (by omega),k3,k3]
    have g : ∀(F:Nat→Int) (v:Int),(a7 n F++[v]).length*8≤140737488355328:=fun F v=>by simp only [List.length_append,cZ,List.length_cons,List.length_nil];omega
    by_cases bu:j=s.bB[n].dI
    ·have e0 : ∀i6,iy s j i6 n=if i6=0 then (lK s n).1 else (lK s n).2:=fun i6=>by unfold iy;rw [U];simp only [if_pos bu]
     refine f7 (sn bu) (bH (g _ _) (bH (g _ _) ?_))
     rw [e0,e0];rfl
    ·refine h4 (va bu) ?_
     by_cases cg:j=s.bB[n].el
     ·have e0 : ∀i6,iy s j i6 n = -(if i6=0 then (lK s n).1 else (lK s n).2):=fun i6=>by unfold iy;rw [U];simp only [if_neg bu,if_pos cg]
      refine f7 (sn cg) (bH (g _ _) (bH (g _ _) ?_))
      rw [e0,e0,cy (by omega) (by omega),cy (by omega) (by omega)]
      simp
     ·have e0 : ∀i6,iy s j i6 n=0:=fun i6=>by unfold iy;rw [U];simp only [if_neg bu,if_neg cg]
      refine h4 (va cg) (bH (g _ _) (bH (g _ _) ?_))
      rw [e0,e0])
  (fun _ _=>by unfold wA;exact dZ (by simp) rfl) () trivial
 exact e
end Go.Proofs.YtamedijmgkdlgabGreat
