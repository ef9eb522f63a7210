/- Lemmas, plain functions of the program, and what they answer. No condition. -/
import Derived.Test.YtamedijmgkdlgacGreatMD
namespace Go.Proofs.YtamedijmgkdlgacGreat
set_option linter.unusedVariables false
set_option linter.unusedSimpArgs false
open Go Go.VL
theorem nt {n:Nat}(h:n≤10000000):U ((n:Int)+1)=((n+1:Nat):Int):=by rw [cx (by omega) (by omega)];rfl
theorem p4 {n:Nat}(h:n≤10000000):U ((n:Int)-1)=(n:Int)-1:=cx (by omega) (by omega)
theorem KG {n:Nat}(h:n≤10000000):U (((n+1:Nat):Int)-1)=n:=by rw [cx (by omega) (by omega)];omega
theorem f6 (l:List Int):len_ eI l=l.length:=e6 _ l
theorem Zg {l:List Int}{k:Nat}{x:Int}(R:l[k]? = some x)(a5:l.length≤5000000):tN l ((k+1:Nat):Int)=some (if x=0 then .inl (k:Int) else .inr ((k+1:Nat):Int)):=by
 have ba:=fB R
 unfold tN
 rw [KG (by omega),if_pos (by simp),if_pos (by omega),Int.toNat_natCast,R]
 by_cases h:x=0<;>simp [h]
theorem rb {l:List Int}(aV:cu l)(a5:l.length≤5000000):pN l=some (L (V l)):=by
 have : ∃r,iter (fun w:Int=>tN l w) (l.length:Int)=some r∧ ∃k:Nat,r=k∧k≤l.length∧l.take k=L (V l):=by
  refine jt (eK:=fun w:Int=> ∃k:Nat,w=k∧k≤l.length∧V (l.take k)=V l) (m:=fun w:Int=>w.toNat) _ ?_ _ ⟨l.length,rfl,by omega,by simp⟩
  rintro _ ⟨k,rfl,ba,bj⟩
  cases k with
  | zero =>
   refine .inr ⟨0,by simp [tN],0,rfl,by omega,?_⟩
   rw [← bj]
   simp [V,qB]
  | succ k =>
   have R:=List.getElem?_eq_getElem (show k<l.length by omega)
   rw [Zg R a5]
   by_cases h:l[k]=0
   ·refine .inl ⟨_,by simp [h],⟨k,rfl,by omega,?_⟩,by omega⟩
    have:=rV R
    rw [h] at this
    simp at this
    omega
   ·refine .inr ⟨_,by simp [h],k+1,rfl,ba,?_⟩
    rcases fI.Kb aV k (fun x h1=>by rw [R] at h1;simp at h1;omega) with h1|h1
    ·exact s8 h1 bj
    ·omega
 obtain ⟨r,ar,k,rfl,h1,o⟩:=this
 unfold pN IM
 rw [f6,ar]
 simp [h1,o]
theorem xF {l:List Int}(aV:cu l)(a5:l.length≤5000000):pR l=some (L (V l)):=by
 have : ∃r,iter (fun w:List Int=>wU w) l=some r∧r=L (V l):=by
  refine jt (eK:=fun w=> ∃k:Nat,w=l.take k∧k≤l.length∧V (l.take k)=V l) (m:=fun w:List Int=>w.length) _ ?_ _ ⟨l.length,by simp,by omega,by simp⟩
  rintro _ ⟨k,rfl,ba,bj⟩
  have hlen:(l.take k).length=k:=by simp;omega
  cases k with
  | zero =>
   refine .inr ⟨[],by simp [wU,f6],?_⟩
   rw [← bj]
   simp [V,qB]
  | succ k =>
   have R:=List.getElem?_eq_getElem (show k<l.length by omega)
   have dE:(l.take (k+1))[k]? = some l[k]:=by rw [List.getElem?_take];simp [R]
   unfold wU
   simp only [f6,hlen]
   rw [KG (by omega),if_pos (by simp),if_pos (by omega),Int.toNat_natCast,dE]
   by_cases h:l[k]=0
   ·refine .inl ⟨l.take k,by simp [h,List.take_take,Nat.min_eq_left],⟨k,rfl,by omega,?_⟩,by simp;omega⟩
    have:=rV R
    rw [h] at this
    simp at this
    omega
   ·refine .inr ⟨l.take (k+1),by simp [h],?_⟩
    rcases fI.Kb aV k (fun x h1=>by rw [R] at h1;simp at h1;omega) with h1|h1
    ·exact s8 h1 bj
    ·omega
 obtain ⟨r,ar,rfl⟩:=this
 unfold pR Jn
 rw [ar]
 rfl
theorem Zh {l:List Int}(aV:cu l)(a5:l.length≤5000000): ∃k,zX l=some k∧k≤l.length∧l.take k=L (V l):=by
 have : ∃r,iter (fun w:Nat=>wL l w) l.length=some r∧r≤l.length∧l.take r=L (V l):=by
  refine jt (eK:=fun k=>k≤l.length∧V (l.take k)=V l) (m:=fun w:Nat=>w) _ ?_ _ ⟨by omega,by simp⟩
  rintro k ⟨ba,bj⟩
  cases k with
  | zero =>
   refine .inr ⟨0,by simp [wL],by omega,?_⟩
   rw [← bj]
   simp [V,qB]
  | succ k =>
   have R:=List.getElem?_eq_getElem (show k<l.length by omega)
   unfold wL
   rw [KG (by omega),if_pos (by simp),if_pos (by omega),Int.toNat_natCast,Nat.zero_add,R]
   by_cases h:l[k]=0
   ·refine .inl ⟨k,by simp [h],⟨by omega,?_⟩,by omega⟩
    have:=rV R
    rw [h] at this
    simp at this
    omega
   ·refine .inr ⟨k+1,by simp [h],ba,?_⟩
    rcases fI.Kb aV k (fun x h1=>by rw [R] at h1;simp at h1;omega) with h1|h1
    ·exact s8 h1 bj
    ·omega
 obtain ⟨r,ar,h1,o⟩:=this
 unfold zX I9
 rw [ar]
 exact ⟨r,rfl,h1,o⟩
theorem rY {a b:List Int}(bE:fI a)(aS:fI b)(a5:a.length≤5000000):pP a b=some (kV (V a) (V b)):=by
 unfold pP kV
 simp only [f6]
 by_cases h1:a.length=b.length
 ·rw [if_neg (by simp [h1])]
  have : ∃r,iter (fun w:Int=>wI a b w) ((a.length:Int)-1)=some r∧(r.elim (fun _=>V a=V b) (fun c=>(c = -1∧V a<V b)∨(c=1∧V b<V a))):=by
   refine jt (eK:=fun w:Int=> ∃k:Nat,w=(k:Int)-1∧k≤a.length∧V (a.drop k)=V (b.drop k)) (m:=fun w:Int=>(w+1).toNat) _ ?_ _ ⟨a.length,rfl,by omega,by rw [List.drop_length,h1,List.drop_length]⟩
   rintro _ ⟨k,rfl,ba,bj⟩
   cases k with
   | zero=>exact .inr ⟨.inl (),by simp [wI],by simpa using bj⟩
   | succ k =>
    have R:=List.getElem?_eq_getElem (show k<a.length by omega)
    have a1:=List.getElem?_eq_getElem (show k<b.length by omega)
    have e:((k+1:Nat):Int)-1=k:=by omega
    unfold wI
    rw [e,p4 (by omega),if_pos (by simp),if_pos (by omega),Int.toNat_natCast,R]
    simp only [Option.bind_eq_bind,Option.bind_some]
    rw [if_pos (by omega),a1]
    by_cases o:a[k]<b[k]
    ·exact .inr ⟨.inr (-1),by simp [o],.inl ⟨rfl,P4 bE.1 aS.1 R a1 bj o⟩⟩
    ·by_cases ae:b[k]<a[k]
     ·exact .inr ⟨.inr 1,by simp [o,ae],.inr ⟨rfl,P4 aS.1 bE.1 a1 R bj.symm ae⟩⟩
     ·refine .inl ⟨(k:Int)-1,by simp [o,ae],⟨k,rfl,by omega,?_⟩,by omega⟩
      rw [og R,og a1,bj,show a[k]=b[k] by omega]
  obtain ⟨r,ar,o⟩:=this
  unfold I2
  rw [p4 (by omega),ar]
  cases r with
  | inl u =>
   simp at o
   simp [o]
  | inr c =>
   rcases o with ⟨rfl,o⟩|⟨rfl,o⟩
   ·simp [o]
   ·simp [o];omega
 ·rw [if_pos (by simp;omega)]
  by_cases o:a.length<b.length
  ·have:=DG bE aS o
   simp [o,this]
  ·have:=DG aS bE (by omega)
   rw [if_neg (by simp;omega),if_neg (by omega),if_pos this]
theorem XP:ql=pP:=rfl
theorem OK {a b:List Int}(bE:fI a)(aS:fI b)(a5:a.length≤5000000):ql a b=some (kV (V a) (V b)):=rY bE aS a5
theorem AD {x y:Int}(R:0≤x∧x<1000000000)(a1:0≤y∧y<1000000000):0≤x*y∧x*y≤999999998000000001:=by
 have h1:=Int.mul_nonneg R.1 a1.1
 have o:x*y≤999999999*999999999:=Int.mul_le_mul (by omega) (by omega) a1.1 (by omega)
 omega
theorem pF {a b:Int}(h:0≤a):a.tmod b=a % b:=Int.tmod_eq_emod_of_nonneg h
theorem m1 {a b:Int}(h:0≤a):a.tdiv b=a / b:=Int.tdiv_eq_ediv_of_nonneg h
theorem Ke (k:Nat)(x:Int)(q:List Int):(List.replicate (k+1) 0++q).set k x=List.replicate k 0++x::q:=by
 induction k with
 | zero=>rfl
 | succ k ih =>
  show (0::(List.replicate (k+1) 0++q)).set (k+1) x=_
  rw [List.set_cons_succ,ih];rfl
theorem YG {a:List Int}{d rest:Int}{row:List Int}{k:Nat}{x:Int}(R:a[k]? = some x)(kq:0≤x∧x<1000000000)(bG:0<d∧d<1000000000)(ar:0≤rest∧rest<d)(dw:row.length=a.length)(a5:a.length≤1000000):
 wj a d rest (k:Int) row=some (.inl ((rest*1000000000+x) % d,(k:Int)-1,row.set k ((rest*1000000000+x) / d))):=by
 have ba:=fB R
 unfold wj
 rw [if_pos (by simp),if_pos (by omega),Int.toNat_natCast,R]
 simp only [Option.bind_eq_bind,Option.bind_some]
 rw [if_pos (by omega),if_pos (by omega),if_pos (by omega),p4 (by omega)]
 have h1:U (U (rest*1000000000)+x)=rest*1000000000+x:=by rw [cx (x:=rest*1000000000) (by omega) (by omega)];exact cx (by omega) (by omega)
 have o:0≤rest*1000000000+x:=by omega
 have ae:(rest*1000000000+x) / d≤rest*1000000000+x:=Int.ediv_le_self _ o
 have av:0≤(rest*1000000000+x) / d:=Int.ediv_nonneg o (by omega)
 rw [h1,pF o,m1 o,cx (by omega) (by omega),Nat.zero_add]
theorem OL {a:List Int}{d:Int}(bE:cu a)(bG:0<d∧d<1000000000)(a5:a.length≤1000000):
 ∃r,CK a d 0 ((a.length:Int)-1) (List.replicate a.length 0)=some r∧r.1=V a % d∧cu r.2∧r.2.length=a.length∧V r.2=V a / d:=by
 refine jt (eK:=fun w:Int×Int×List Int=> ∃(k:Nat) (q:List Int),w.2.1=(k:Int)-1∧k≤a.length∧w.2.2=List.replicate k 0++q∧q.length+k=a.length∧cu q∧0≤w.1∧w.1<d∧V (a.drop k)=V q*d+w.1) (m:=fun w:Int×Int×List Int=>(w.2.1+1).toNat) _ ?_ _ ⟨a.length,[],rfl,by omega,by simp,by simp,cu.nil,by omega,by omega,by simp [V]⟩
 rintro ⟨rest,i,row⟩ ⟨k,q,h1,ba,o,bc,pA,lc,hX,bj⟩
 simp only at h1 o lc hX bj ⊢
 subst h1 o
 cases k with
 | zero =>
  refine .inr ⟨(rest,q),by simp [wj],?_,pA,by simpa using bc,?_⟩
  ·simp at bj
   rw [bj,Int.add_comm,Int.add_mul_emod_self_right]
   exact (Int.emod_eq_of_lt lc hX).symm
  ·simp at bj
   rw [bj,Int.add_comm,Int.add_mul_ediv_right _ _ (by omega),Int.ediv_eq_zero_of_lt lc hX]
   simp
 | succ k =>
  have R:=List.getElem?_eq_getElem (show k<a.length by omega)
  have kq:=bE.get R
  rw [show ((k+1:Nat):Int)-1=k by omega,YG R kq bG ⟨lc,hX⟩ (by simp;omega) a5]
  refine .inl ⟨_,rfl,⟨k,(rest*1000000000+a[k]) / d::q,rfl,by omega,Ke _ _ _,by simp;omega,cu.cons ⟨Int.ediv_nonneg (by omega) (by omega),?_⟩ pA,Int.emod_nonneg _ (by omega),Int.emod_lt_of_pos _ bG.1,?_⟩,by simp⟩
  ·refine Int.ediv_lt_of_lt_mul bG.1 ?_
   omega
  ·rw [og R,bj,k5]
   have:=Int.mul_ediv_add_emod (rest*1000000000+a[k]) d
   generalize (rest*1000000000+a[k]) / d=u at *
   generalize (rest*1000000000+a[k]) % d=t at *
   grind
theorem aad {a:List Int}{d:Int}(bE:cu a)(bG:0<d∧d<1000000000)(a5:a.length≤1000000):zy a d=some (L (V a / d),V a % d):=by
 obtain ⟨r,ar,h1,o,ae,av⟩:=OL bE bG a5
 unfold zy
 simp only [f6]
 rw [if_pos (by omega),p4 (by omega),Int.toNat_natCast,ar]
 simp only [Option.bind_eq_bind,Option.bind_some]
 rw [rb o (by omega),h1,av]
 rfl
theorem W4:Io=CK:=rfl
theorem N1 {a:List Int}{d:Int}(bE:cu a)(bG:0<d∧d<1000000000)(a5:a.length≤1000000):w4 a d=some (L (V a / d),V a % d):=by
 obtain ⟨r,ar,h1,o,ae,av⟩:=OL bE bG a5
 unfold w4
 simp only [f6]
 rw [if_pos (by omega),p4 (by omega),Int.toNat_natCast,W4,ar]
 simp only [Option.bind_eq_bind,Option.bind_some]
 rw [xF o (by omega),h1,av]
 rfl
theorem Zi {b:List Int}{i j:Nat}{x y z carry:Int}{row t26:List Int}{t27:Int}(a1:b[j]? = some y)(cw:row[i+j]? = some z)(R:0≤x∧x<1000000000)(oQ:0≤y∧y<1000000000)(qN:0≤z∧z<1000000000)(bf:0≤carry∧carry<1000000000)(a5:row.length≤2000000):
 wJ b i x t26 t27 b.length carry j row=some (.inl ((z+x*y+carry) / 1000000000,((j+1:Nat):Int),row.set (i+j) ((z+x*y+carry) % 1000000000))):=by
 have aI:=fB a1
 have pv:=fB cw
 obtain ⟨ik,hf⟩:=AD R oQ
 unfold wJ
 have e:U ((i:Int)+(j:Int))=((i+j:Nat):Int):=by rw [cx (by omega) (by omega)];rfl
 rw [if_pos (by simp;omega),if_pos (by omega),Int.toNat_natCast,a1]
 simp only [Option.bind_eq_bind,Option.bind_some,e,Int.toNat_natCast,Nat.zero_add]
 rw [if_pos (by omega),cw]
 simp only [Option.bind_some]
 rw [if_pos (by omega),nt (by omega),cx (x:=x*y) (by omega) (by omega),cx (x:=z+x*y) (by omega) (by omega),cx (x:=z+x*y+carry) (by omega) (by omega),pF (by omega),m1 (by omega),cx (by omega) (by omega)]
theorem Zj {b:List Int}{i:Nat}{x:Int}{row t26:List Int}{t27:Int}(aS:cu b)(dw:cu row)(R:0≤x∧x<1000000000)(aV:i+b.length<row.length)(a5:row.length≤2000000):
 ∃r,I6 b i x t26 t27 b.length 0 0 row=some r∧0≤r.1∧r.1<1000000000∧cu r.2∧r.2.length=row.length∧V r.2+r.1*B (i+b.length)=V row+x*B i*V b∧ ∀j,i+b.length≤j→r.2[j]? = row[j]? := by
 refine jt (eK:=fun w:Int×Int×List Int=> ∃(j:Nat),w.2.1=(j:Int)∧j≤b.length∧0≤w.1∧w.1<1000000000∧cu w.2.2∧w.2.2.length=row.length∧V w.2.2+w.1*B (i+j)=V row+x*B i*V (b.take j)∧ ∀j,i+b.length≤j→w.2.2[j]? = row[j]?) (m:=fun w:Int×Int×List Int=>b.length-w.2.1.toNat) _ ?_ _ ⟨0,rfl,by omega,by simp,by simp,dw,rfl,by simp [V],fun _ _=>rfl⟩
 rintro ⟨carry,ael,fD⟩ ⟨j,h1,aI,mn,mR,kh,hlen,bj,k8⟩
 simp only at h1 mn mR kh hlen bj k8 ⊢
 subst h1
 by_cases adu:j=b.length
 ·subst adu
  refine .inr ⟨(carry,fD),by simp [wJ],mn,mR,kh,hlen,by simpa using bj,k8⟩
 ·have a1:=List.getElem?_eq_getElem (show j<b.length by omega)
  have cw:=List.getElem?_eq_getElem (show i+j<fD.length by omega)
  have oQ:=aS.get a1
  have qN:=kh.get cw
  obtain ⟨ik,hf⟩:=AD R oQ
  rw [Zi a1 cw R oQ qN ⟨mn,mR⟩ (by omega)]
  refine .inl ⟨_,rfl,⟨j+1,rfl,by omega,by simp only;omega,by simp only;omega,kh.set (by omega),by simpa using hlen,?_,fun hN th=> ?_⟩,by simp;omega⟩
  ·simp only
   rw [rr cw,rV a1,← Nat.add_assoc,l5]
   rw [AQ] at bj ⊢
   have:=Int.mul_ediv_add_emod (fD[i+j]+x*b[j]+carry) 1000000000
   generalize (fD[i+j]+x*b[j]+carry) / 1000000000=u at *
   generalize (fD[i+j]+x*b[j]+carry) % 1000000000=t at *
   grind
  ·rw [← k8 hN th]
   exact List.getElem?_set_ne (by omega)
theorem JM {a b:List Int}(bE:cu a)(aS:cu b)(a5:a.length≤1000000)(hm:b.length≤1000000):
 ∃r,zq b a a.length 0 (List.replicate (a.length+b.length) 0)=some r∧cu r∧r.length=a.length+b.length∧V r=V a*V b:=by
 refine jt (eK:=fun w:Int×List Int=> ∃(i:Nat),w.1=(i:Int)∧i≤a.length∧cu w.2∧w.2.length=a.length+b.length∧V w.2=V (a.take i)*V b∧ ∀j,i+b.length≤j→j<a.length+b.length→w.2[j]? = some 0) (m:=fun w:Int×List Int=>a.length-w.1.toNat) _ ?_ _ ⟨0,rfl,by omega,cu.Lw _,by simp,by simp [V,KD],fun j _ h=>by simp [List.getElem?_replicate,h]⟩
 rintro ⟨ii,row⟩ ⟨i,h1,aq,kh,hlen,bj,h0⟩
 simp only at h1 kh hlen bj h0 ⊢
 subst h1
 by_cases BR:i=a.length
 ·subst BR
  refine .inr ⟨row,by simp [y5],kh,hlen,by simpa using bj⟩
 ·have R:=List.getElem?_eq_getElem (show i<a.length by omega)
  have kq:=bE.get R
  obtain ⟨r,ar,mn,mR,acp,QN,Bm,k8⟩:=Zj (i:=i) (t26:=a) (t27:=a.length) aS kh kq (by omega) (by omega)
  have e:U ((i:Int)+(b.length:Int))=((i+b.length:Nat):Int):=by rw [cx (by omega) (by omega)];rfl
  have cw:r.2[i+b.length]? = some 0:=by rw [k8 _ (Nat.le_refl _)];exact h0 _ (Nat.le_refl _) (by omega)
  refine .inl ⟨(((i+1:Nat):Int),r.2.set (i+b.length) r.1),?_,⟨i+1,rfl,by omega,acp.set ⟨mn,mR⟩,by simp;omega,?_,fun j afN adv=> ?_⟩,by simp;omega⟩
  ·unfold y5
   rw [if_pos (by simp;omega),if_pos (by omega),Int.toNat_natCast,R]
   simp only [Option.bind_eq_bind,Option.bind_some,f6]
   rw [ar]
   simp only [Option.bind_some,e,Int.toNat_natCast,Nat.zero_add]
   rw [if_pos (by omega),if_pos (by omega),nt (n:=i) (by omega)]
  ·simp only
   rw [rr cw,rV R]
   grind
  ·simp only
   rw [List.getElem?_set_ne (by omega),k8 _ (by omega)]
   exact h0 _ (by omega) adv
theorem mul_eq {a b:List Int}(bE:cu a)(aS:cu b)(a5:a.length≤1000000)(hm:b.length≤1000000):hL a b=some (L (V a*V b)):=by
 unfold hL
 simp only [f6]
 by_cases h1:a=[]
 ·subst h1
  simp [V,qB]
 ·by_cases o:b=[]
  ·subst o
   simp [h1,V,qB]
  ·obtain ⟨r,ar,ae,av,aA⟩:=JM bE aS a5 hm
   have e:U ((a.length:Int)+(b.length:Int))=((a.length+b.length:Nat):Int):=by rw [cx (by omega) (by omega)];rfl
   rw [if_neg (by simp [h1]),if_neg (by simp [o]),e,if_pos (by omega),Int.toNat_natCast,ar]
   simp only [Option.bind_eq_bind,Option.bind_some]
   rw [rb ae (by omega),aA]
   rfl
theorem Yd:Jk=zq:=rfl
theorem Xv:IW=zq:=rfl
theorem aae {a b:List Int}(bE:cu a)(aS:cu b)(a5:a.length≤1000000)(hm:b.length≤1000000):z8 a b=some (L (V a*V b)):=by
 unfold z8
 simp only [f6]
 by_cases h1:a=[]
 ·subst h1
  simp [V,qB]
 ·by_cases o:b=[]
  ·subst o
   simp [h1,V,qB]
  ·obtain ⟨r,ar,ae,av,aA⟩:=JM bE aS a5 hm
   have e:U ((a.length:Int)+(b.length:Int))=((a.length+b.length:Nat):Int):=by rw [cx (by omega) (by omega)];rfl
   rw [if_neg (by simp [h1]),if_neg (by simp [o]),e,if_pos (by omega),Int.toNat_natCast,Yd,ar]
   simp only [Option.bind_eq_bind,Option.bind_some]
   rw [xF ae (by omega),aA]
   rfl
theorem OM {a b:List Int}(bE:cu a)(aS:cu b)(h1:a≠[])(o:b≠[])(a5:a.length≤1000000)(hm:b.length≤1000000):
 ∃k r,xd a b=some (k,r)∧k≤r.length∧r.length=a.length+b.length∧r.take k=L (V a*V b)∧cu r:=by
 obtain ⟨r,ar,ae,av,aA⟩:=JM bE aS a5 hm
 obtain ⟨k,ba,a2,bd⟩:=Zh ae (by omega)
 refine ⟨k,r,?_,a2,av,by rw [bd,aA],ae⟩
 unfold xd
 simp only [f6]
 have e:U ((a.length:Int)+(b.length:Int))=((a.length+b.length:Nat):Int):=by rw [cx (by omega) (by omega)];rfl
 rw [if_neg (by simp [h1]),if_neg (by simp [o]),e,if_pos (by omega),Int.toNat_natCast,Xv,ar]
 simp only [Option.bind_eq_bind,Option.bind_some]
 rw [ba]
 rfl
theorem AV {x:Int}(h1:0≤x)(o:x<18446744073709551616):IntKind.wrap .u64 x=x:=by
 simp only [IntKind.wrap,IntKind.signed,IntKind.bits]
 have:((2:Int) ^ 64)=18446744073709551616:=by decide
 simp
 omega
theorem abX {x:Int}(h1:-9223372036854775808≤x)(o:x<9223372036854775808):IntKind.wrap .i64 x=x:=cx h1 o
theorem fI.snoc {l:List Int}{x:Int}(h:cu l)(R:0<x∧x<1000000000):fI (l++[x]):=⟨h.append (cu.cons (by omega) cu.nil),fun y a1=>by
 rw [List.getLast?_append] at a1
 simp at a1
 omega⟩
theorem O9 {N:Int}(fR:N<18446744073709551616){n:Int}{row:List Int}(h:0≤n∧cu row∧V row+B row.length*n=N∧(n=0→fI row)∧((row.length=0∧n<18446744073709551616)∨(row.length=1∧n<20000000000)∨(row.length=2∧n<20)∨(row.length=3∧n=0)))(a5:0<n):
 (fun (n:Int) (row:List Int)=>0≤n∧cu row∧V row+B row.length*n=N∧(n=0→fI row)∧((row.length=0∧n<18446744073709551616)∨(row.length=1∧n<20000000000)∨(row.length=2∧n<20)∨(row.length=3∧n=0))) (n / 1000000000) (row++[n % 1000000000]):=by
 obtain ⟨h0,h1,o,ae,av⟩:=h
 refine ⟨by omega,h1.append (cu.cons (by omega) cu.nil),?_,fun aA=>fI.snoc h1 (by omega),?_⟩
 ·rw [uw,List.length_append,List.length_singleton,l5,k5,AR]
  have:=Int.mul_ediv_add_emod n 1000000000
  generalize n / 1000000000=u at *
  generalize n % 1000000000=t at *
  grind
 ·rw [List.length_append,List.length_singleton]
  omega
theorem xx {n:Int}(h:0≤n)(a5:n<9223372036854775808):ra n=some (L n):=by
 have : ∃r,iter (fun w:Int×List Int=>wQ w.1 w.2) (n,[])=some r∧r=L n:=by
  refine jt (eK:=fun w:Int×List Int=>w.1≤n∧0≤w.1∧cu w.2∧V w.2+B w.2.length*w.1=n∧(w.1=0→fI w.2)∧((w.2.length=0∧w.1<18446744073709551616)∨(w.2.length=1∧w.1<20000000000)∨(w.2.length=2∧w.1<20)∨(w.2.length=3∧w.1=0))) (m:=fun w:Int×List Int=>w.1.toNat) _ ?_ _ ⟨Int.le_refl _,h,cu.nil,by simp [V,B],fun _=>fI.nil,.inl ⟨rfl,by simp only;omega⟩⟩
  rintro ⟨m,row⟩ ⟨hm,cQ⟩
  simp only at hm cQ
  obtain ⟨h0,h1,o,ae,av⟩:=id cQ
  by_cases j0:0<m
  ·have:=O9 (by omega) cQ j0
   refine .inl ⟨(m / 1000000000,row++[m % 1000000000]),?_,⟨by simp only;omega,this⟩,by simp only;omega⟩
   unfold wQ
   rw [if_pos (by simp;omega),pF (by omega),m1 (by omega),if_pos (by simp;omega),cx (by omega) (by omega)]
  ·refine .inr ⟨row,by simp [wQ,j0],?_⟩
   have nC:m=0:=by omega
   refine s8 (ae nC) ?_
   rw [nC] at o
   simpa using o
 obtain ⟨r,ar,rfl⟩:=this
 unfold ra Jg
 rw [ar]
 rfl
theorem JD {n:Int}(h:0≤n)(a5:n<18446744073709551616):uc n=some (L n):=by
 have : ∃r,iter (fun w:Int×List Int=>wx w.1 w.2) (n,[])=some r∧r=L n:=by
  refine jt (eK:=fun w:Int×List Int=>w.1≤n∧0≤w.1∧cu w.2∧V w.2+B w.2.length*w.1=n∧(w.1=0→fI w.2)∧((w.2.length=0∧w.1<18446744073709551616)∨(w.2.length=1∧w.1<20000000000)∨(w.2.length=2∧w.1<20)∨(w.2.length=3∧w.1=0))) (m:=fun w:Int×List Int=>w.1.toNat) _ ?_ _ ⟨Int.le_refl _,h,cu.nil,by simp [V,B],fun _=>fI.nil,.inl ⟨rfl,by simp only;omega⟩⟩
  rintro ⟨m,row⟩ ⟨hm,cQ⟩
  simp only at hm cQ
  obtain ⟨h0,h1,o,ae,av⟩:=id cQ
  by_cases j0:0<m
  ·have:=O9 (by omega) cQ j0
   refine .inl ⟨(m / 1000000000,row++[m % 1000000000]),?_,⟨by simp only;omega,this⟩,by simp only;omega⟩
   unfold wx
   rw [if_pos (by simp;omega),pF (by omega),m1 (by omega),abX (x:=m % 1000000000) (by omega) (by omega),if_pos (by simp;omega),AV (by omega) (by omega)]
  ·refine .inr ⟨row,by simp [wx,j0],?_⟩
   have nC:m=0:=by omega
   refine s8 (ae nC) ?_
   rw [nC] at o
   simpa using o
 obtain ⟨r,ar,rfl⟩:=this
 unfold uc IR
 rw [ar]
 rfl
def ta (x:Int):Bool:=decide (0≤x) && decide (x<1000000000)
theorem P9 (l:List Int):l.all ta=true↔cu l:=by
 simp [ta,cu]
theorem ON {a:List Int}(h:a≠[]): ∃x,a[a.length-1]? = some x∧(fI a↔cu a∧x≠0):=by
 have ai:=List.length_pos_iff.mpr h
 refine ⟨a[a.length-1],List.getElem?_eq_getElem (by omega),?_⟩
 have e:a.getLast? = some a[a.length-1]:=by rw [List.getLast?_eq_getElem?];exact List.getElem?_eq_getElem (by omega)
 constructor
 ·exact fun h=>⟨h.1,h.2 _ e⟩
 ·refine fun h=>⟨h.1,fun x R=> ?_⟩
  rw [e] at R
  rw [← Option.some.inj R]
  exact h.2
theorem abY {a:List Int}(h:a≠[])(hm:(a.length:Int)<9223372036854775807):U ((a.length:Int)-1)=((a.length-1:Nat):Int):=by
 have ai:=List.length_pos_iff.mpr h
 rw [cx (by omega) (by omega)]
 omega
theorem YH (x:Int):mB x 0 999999999=some (ta x):=by
 unfold mB ta
 by_cases h:0≤x
 ·simp [h];omega
 ·simp [h]
theorem JE {a:List Int}(hm:(a.length:Int)<9223372036854775807): ∃ok,rO a=some ok∧(ok=true↔fI a∧a.length≤60):=by
 have h1:iter (fun w:Int=>wR a a.length w) 0=some (if a.all ta then .inl () else .inr ()):=by
  refine Ag a ta (fun n x R=> ?_) (by simp [wR])
  have:=fB R
  unfold wR
  rw [if_pos (by simp;omega),if_pos (by omega),Int.toNat_natCast,R]
  simp only [Option.bind_eq_bind,Option.bind_some,YH]
  rw [i1 (by omega)]
  cases ta x<;>rfl
 unfold rO Jh
 simp only [f6]
 rw [h1]
 by_cases tx:a.all ta=true
 ·have Bj:=(P9 a).1 tx
  simp only [tx,if_true,Option.bind_eq_bind,Option.bind_some]
  by_cases qe:a.length≤60
  ·rw [if_pos (by simp;omega)]
   by_cases h0:a=[]
   ·subst h0
    exact ⟨true,rfl,by simp [fI.nil]⟩
   ·obtain ⟨x,R,a5⟩:=ON h0
    have ai:=List.length_pos_iff.mpr h0
    rw [if_neg (by simp [h0]),abY h0 hm,if_pos (by omega),Int.toNat_natCast,R]
    refine ⟨_,rfl,?_⟩
    rw [a5]
    simp [Bj,qe]
  ·rw [if_neg (by simp;omega)]
   exact ⟨false,rfl,by simp;omega⟩
 ·have Bj : ¬cu a:=fun h=>tx ((P9 a).2 h)
  simp only [Bool.not_eq_true] at tx
  refine ⟨false,by simp [tx],?_⟩
  simp only [Bool.false_eq_true,false_iff]
  exact fun h=>Bj h.1.1
theorem Oj {a:List Int}(bE:fI a)(qe:a.length≤60)(bj:V a<9223372036854775808):w6 a=some (V a,true):=by
 obtain ⟨ok,h1,o⟩:=JE (a:=a) (by omega)
 have mO:ok=true:=o.2 ⟨bE,qe⟩
 subst mO
 have bf:fI [854775807,223372036,9]:=⟨by intro x R;simp at R;omega,by simp⟩
 have LH:V [854775807,223372036,9]=9223372036854775807:=by decide
 unfold w6
 rw [h1]
 simp only [Option.bind_eq_bind,Option.bind_some,if_true]
 rw [rY bE bf (by omega),LH]
 have : ∃r,iter (fun w:Int×Int=>wh a w.1 w.2) (0,(a.length:Int)-1)=some r∧r=V a:=by
  refine jt (eK:=fun w:Int×Int=> ∃k:Nat,w.2=(k:Int)-1∧k≤a.length∧w.1=V (a.drop k)) (m:=fun w:Int×Int=>(w.2+1).toNat) _ ?_ _ ⟨a.length,rfl,by omega,by simp [V]⟩
  rintro ⟨n,i⟩ ⟨k,ae,ba,av⟩
  simp only at ae av
  subst ae av
  cases k with
  | zero=>exact .inr ⟨V a,by simp [wh],rfl⟩
  | succ k =>
   have R:=List.getElem?_eq_getElem (show k<a.length by omega)
   have kq:=bE.1.get R
   have aA:=og R
   have a2:=mD (bE.1.drop (k+1))
   have bd:V (a.drop k)≤V a:=by
    have bn:=uy (l:=a) (n:=k) (by omega)
    have cp:=mD (bE.1.take k)
    have cK:=mD (bE.1.drop k)
    have eV:1*V (a.drop k)≤B k*V (a.drop k):=Int.mul_le_mul_of_nonneg_right (ow k) cK
    omega
   refine .inl ⟨(V (a.drop k),(k:Int)-1),?_,⟨k,rfl,by omega,rfl⟩,by simp only;omega⟩
   unfold wh
   rw [show ((k+1:Nat):Int)-1=k by omega,if_pos (by simp),if_pos (by omega),Int.toNat_natCast,R]
   simp only [Option.bind_eq_bind,Option.bind_some]
   rw [p4 (by omega),cx (x:=V (a.drop (k+1))*1000000000) (by omega) (by omega),cx (by omega) (by omega),aA]
   congr 3
   omega
 obtain ⟨r,ar,rfl⟩:=this
 unfold kV Ix
 simp only [f6]
 rw [p4 (by omega),ar]
 have ae : ¬(9223372036854775807:Int)<V a:=by omega
 by_cases av:V a<9223372036854775807<;>simp [ae,av]
theorem aaf {a b row:List Int}{less x:Int}{i:Nat}(aS:cu b)(R:a[i]? = some x)(kq:0≤x∧x<1000000000)(aV:less=0∨less=1)(a5:a.length≤1000000)(hm:b.length≤1000000)(ar:row.length≤1000000):
 ∃y,0≤y∧y<1000000000∧(∀z,b[i]? = some z→y=z)∧(b[i]? = none→y=0) ∧
 tQ a b a.length less i row=some (.inl (if x-less-y<0 then (1,((i+1:Nat):Int),row++[x-less-y+1000000000]) else (0,((i+1:Nat):Int),row++[x-less-y]))):=by
 have aq:=fB R
 unfold tQ
 rw [if_pos (by simp;omega),if_pos (by omega),Int.toNat_natCast,R]
 simp only [Option.bind_eq_bind,Option.bind_some,f6]
 by_cases R3:i<b.length
 ·have a1:=List.getElem?_eq_getElem R3
  have oQ:=aS.get a1
  refine ⟨b[i],oQ.1,oQ.2,fun z cw=>by rw [a1] at cw;exact Option.some.inj cw,fun h=>by rw [a1] at h;simp at h,?_⟩
  rw [if_pos (by simp;omega),if_pos (by omega),a1]
  simp only [Option.bind_some]
  rw [cx (x:=x-less) (by omega) (by omega),cx (x:=x-less-b[i]) (by omega) (by omega),nt (n:=i) (by omega),cx (x:=x-less-b[i]+1000000000) (by omega) (by omega)]
  by_cases h:x-less-b[i]<0
  ·rw [if_pos (by simp [h]),if_pos (by simp;omega)]
   simp [h]
  ·rw [if_neg (by simp [h]),if_pos (by simp;omega)]
   simp [h]
 ·have a1:b[i]? = none:=by simp;omega
  refine ⟨0,by omega,by omega,fun z cw=>by rw [a1] at cw;simp at cw,fun _=>rfl,?_⟩
  rw [if_neg (by simp;omega),cx (x:=x-less) (by omega) (by omega),nt (n:=i) (by omega),cx (x:=x-less+1000000000) (by omega) (by omega),Int.sub_zero]
  by_cases h:x-less<0
  ·rw [if_pos (by simp [h]),if_pos (by simp;omega)]
   simp [h]
  ·rw [if_neg (by simp [h]),if_pos (by simp;omega)]
   simp [h]
theorem PB {b:List Int}{i:Nat}{y:Int}(h1:∀z,b[i]? = some z→y=z)(o:b[i]? = none→y=0):V (b.take (i+1))=V (b.take i)+B i*y:=by
 cases h:b[i]? with
 | some z=>rw [h1 z h,rV h]
 | none =>
  rw [o h]
  have:b.length≤i:=by simpa using h
  rw [List.take_of_length_le (by omega),List.take_of_length_le (by omega)]
  simp
theorem sub_eq {a b:List Int}(bE:cu a)(aS:cu b)(hlen:b.length≤a.length)(tm:V b≤V a)(a5:a.length≤1000000):rN a b=some (L (V a-V b)):=by
 have : ∃r,iter (fun w:Int×Int×List Int=>tQ a b a.length w.1 w.2.1 w.2.2) (0,0,[])=some r∧cu r∧r.length=a.length∧V r=V a-V b:=by
  refine jt (eK:=fun w:Int×Int×List Int=> ∃i:Nat,w.2.1=i∧i≤a.length∧(w.1=0∨w.1=1)∧cu w.2.2∧w.2.2.length=i∧V w.2.2-w.1*B i=V (a.take i)-V (b.take i)) (m:=fun w:Int×Int×List Int=>a.length-w.2.1.toNat) _ ?_ _ ⟨0,rfl,by omega,.inl rfl,cu.nil,rfl,by simp [V]⟩
  rintro ⟨less,ii,row⟩ ⟨i,h1,aq,aV,kh,u7,bj⟩
  simp only at h1 aV kh u7 bj ⊢
  subst h1
  by_cases BR:i=a.length
  ·refine .inr ⟨row,by simp [tQ,BR],kh,by omega,?_⟩
   rw [BR] at bj
   rw [List.take_length,List.take_of_length_le hlen] at bj
   have o:=m9 kh
   rw [u7,BR] at o
   rcases aV with rfl|rfl<;>omega
  ·have R:=List.getElem?_eq_getElem (show i<a.length by omega)
   have kq:=bE.get R
   obtain ⟨y,BS,BT,adw,adx,he⟩:=aaf (row:=row) aS R kq aV a5 (by omega) (by omega)
   rw [he]
   refine .inl ⟨_,rfl,?_⟩
   have ae:=rV R
   have av:=PB adw adx
   by_cases h:a[i]-less-y<0
   ·rw [if_pos h]
    refine ⟨⟨i+1,rfl,by omega,.inr rfl,kh.append (cu.cons (by omega) cu.nil),by simp [u7],?_⟩,by simp only;omega⟩
    simp only
    rw [ae,av,uw,u7,l5,k5,AR]
    grind
   ·rw [if_neg h]
    refine ⟨⟨i+1,rfl,by omega,.inl rfl,kh.append (cu.cons (by omega) cu.nil),by simp [u7],?_⟩,by simp only;omega⟩
    simp only
    rw [ae,av,uw,u7,k5,AR]
    grind
 obtain ⟨r,ar,h1,o,ae⟩:=this
 unfold rN I3
 simp only [f6]
 rw [ar]
 simp only [Option.bind_eq_bind,Option.bind_some]
 rw [rb h1 (by omega),ae]
 rfl
theorem rc {l:List Int}(h:cu l){k:Nat}(ba:k≤l.length):B k*V (l.drop k)≤V l∧V l<B k*(V (l.drop k)+1):=by
 have h1:=uy ba
 have o:=mD (h.take k)
 have ae:=m9 (h.take k)
 rw [List.length_take,Nat.min_eq_left ba] at ae
 rw [Int.mul_add,Int.mul_one]
 omega
theorem Ai {l:List Int}{k:Nat}{x:Int}(R:l[k]? = some x)(aV:l.length=k+1):V (l.drop k)=x:=by
 rw [og R,List.drop_of_length_le (by omega)]
 simp [V]
theorem N2 {aW W t d P:Int}(hh:1≤P)(EB:P*t≤aW)(LI:aW<P*(t+1))(tr:P*d≤W)(EC:W<P*(d+1))(bG:0<d)(cb:0≤t)(LJ:aW<1000000000*W):t / (d+1)≤aW / W∧aW / W≤t / d∧aW / W≤999999999:=by
 have hW:0<W:=by
  have:=Int.mul_pos (a:=P) (b:=d) (by omega) bG
  omega
 have cX:0≤aW:=by
  have:=Int.mul_nonneg (a:=P) (b:=t) (by omega) cb
  omega
 refine ⟨?_,?_,?_⟩
 ·apply (Int.le_ediv_iff_mul_le hW).2
  have h1:t / (d+1)*(d+1)≤t:=Int.ediv_mul_le _ (by omega)
  have o:0≤t / (d+1):=Int.ediv_nonneg cb (by omega)
  have ae:t / (d+1)*W≤t / (d+1)*(P*(d+1)):=Int.mul_le_mul_of_nonneg_left (by omega) o
  have av:P*(t / (d+1)*(d+1))≤P*t:=Int.mul_le_mul_of_nonneg_left h1 (by omega)
  have aA:t / (d+1)*(P*(d+1))=P*(t / (d+1)*(d+1)):=by grind
  omega
 ·apply (Int.le_ediv_iff_mul_le bG).2
  have h1:aW / W*W≤aW:=Int.ediv_mul_le _ (by omega)
  have o:0≤aW / W:=Int.ediv_nonneg cX (by omega)
  have ae:aW / W*(P*d)≤aW / W*W:=Int.mul_le_mul_of_nonneg_left tr o
  have av:aW / W*(P*d)=P*(aW / W*d):=by grind
  have aA:P*(aW / W*d)<P*(t+1):=by omega
  have:=Int.lt_of_mul_lt_mul_left aA (by omega)
  omega
 ·have:=Int.ediv_lt_of_lt_mul hW LJ
  omega
theorem Qa {a b:Int}:kV a b≤0↔a≤b:=by
 unfold kV
 by_cases h:a<b
 ·simp [h];omega
 ·by_cases o:b<a
  ·simp [h,o]
  ·simp [h,o];omega
theorem sV {a b:Int}:kV a b<0↔a<b:=by
 unfold kV
 by_cases h:a<b
 ·simp [h]
 ·by_cases o:b<a
  ·simp [h,o]
  ·simp [h,o]
theorem OO {r b:List Int}(ar:fI r)(aS:fI b)(lf:b≠[])(a5:r.length≤1000000)(hm:b.length≤1000000){bT aq:Int}(h0:0≤bT)(h1:bT≤V r / V b)(o:V r / V b≤aq)(ae:aq≤999999999):CL r b bT aq=some (V r / V b):=by
 have jD:=s4 aS lf
 have : ∃q,iter (fun w:Int×Int=>tK r b w.1 w.2) (bT,aq)=some q∧q=V r / V b:=by
  refine jt (eK:=fun w:Int×Int=>0≤w.1∧w.1≤V r / V b∧V r / V b≤w.2∧w.2≤999999999) (m:=fun w:Int×Int=>(w.2-w.1).toNat) _ ?_ _ ⟨h0,h1,o,ae⟩
  rintro ⟨l,h⟩ ⟨g0,g1,g2,g3⟩
  simp only at g0 g1 g2 g3
  by_cases dz:l<h
  ·have e1:U ((U ((U (l+h))+(1:Int))).tdiv (2:Int))=(l+h+1) / 2:=by
    rw [cx (x:=l+h) (by omega) (by omega),cx (x:=l+h+1) (by omega) (by omega),m1 (by omega),cx (by omega) (by omega)]
   have nC:0≤(l+h+1) / 2:=by omega
   have o7:(l+h+1) / 2<1000000000:=by omega
   have RD:(L ((l+h+1) / 2)).length≤1:=(i4 nC).2 (by simpa [B] using o7)
   have aC:tK r b l h=some (.inl (if V b*((l+h+1) / 2)≤V r then ((l+h+1) / 2,h) else (l,(l+h+1) / 2-1))):=by
    unfold tK
    rw [if_pos (by simp [dz]),e1,xx nC (by omega)]
    simp only [Option.bind_eq_bind,Option.bind_some]
    rw [mul_eq aS.1 (g9 _) hm (by omega),ei nC]
    simp only [Option.bind_some]
    have ai:0≤V b*((l+h+1) / 2):=Int.mul_nonneg (by omega) nC
    have hlen:(L (V b*((l+h+1) / 2))).length≤b.length+1:=(i4 ai).2 (by
     rw [l5]
     have aA:=m9 aS.1
     have:V b*((l+h+1) / 2)≤V b*1000000000:=Int.mul_le_mul_of_nonneg_left (by omega) (by omega)
     omega)
    rw [rY (ji _) ar (by omega),ei ai]
    simp only [Option.bind_some]
    by_cases bf:V b*((l+h+1) / 2)≤V r
    ·rw [if_pos (by simpa using Qa.2 bf),if_pos bf]
    ·rw [if_neg (fun h=>bf (Qa.1 (by simpa using h))),if_neg bf,cx (by omega) (by omega)]
   rw [aC]
   refine .inl ⟨_,rfl,?_⟩
   by_cases bf:V b*((l+h+1) / 2)≤V r
   ·rw [if_pos bf]
    have:(l+h+1) / 2≤V r / V b:=(Int.le_ediv_iff_mul_le jD).2 (by rw [Int.mul_comm];exact bf)
    exact ⟨⟨by simp only;omega,this,g2,g3⟩,by simp only;omega⟩
   ·rw [if_neg bf]
    have:V r / V b<(l+h+1) / 2:=(Int.ediv_lt_iff_lt_mul jD).2 (by rw [Int.mul_comm];omega)
    exact ⟨⟨g0,g1,by simp only;omega,by simp only;omega⟩,by simp only;omega⟩
  ·exact .inr ⟨l,by simp [tK,dz],by omega⟩
 obtain ⟨q,bc,rfl⟩:=this
 exact bc
theorem DU {b:List Int}(aS:fI b)(lf:b≠[]): ∃k d,b.length=k+1∧b[k]? = some d∧0<d∧d<1000000000∧V (b.drop k)=d:=by
 have ai:=List.length_pos_iff.mpr lf
 obtain ⟨x,R,h⟩:=ON lf
 have h1:=h.1 aS
 have o:=h1.1.get R
 exact ⟨b.length-1,x,by omega,R,by omega,o.2,Ai R (by omega)⟩
theorem aag {r b:List Int}(ar:fI r)(aS:fI b)(lf:b≠[])(a5:r.length≤1000000)(hm:b.length≤1000000)(h1:V b≤V r)(o:V r<1000000000*V b):zz r b=some (V r / V b):=by
 obtain ⟨k,d,ba,bG,sm,ED,yB⟩:=DU aS lf
 have Rv:b.length≤r.length:=Nat.le_of_not_lt fun h=>by
  have:=DG ar aS h
  omega
 have Rw:r.length≤b.length+1:=ar.len.2 (by
  have:=m9 aS.1
  rw [l5]
  omega)
 have tg:=rc aS.1 (k:=k) (by omega)
 rw [yB] at tg
 have hX:=rc ar.1 (k:=k) (by omega)
 have R:=List.getElem?_eq_getElem (show k<r.length by omega)
 have kq:=ar.1.get R
 have hw:U ((b.length:Int)-1)=(k:Int):=by rw [cx (by omega) (by omega)];omega
 have mu:=mD (ar.1.drop k)
 have EE:=N2 (ow k) hX.1 hX.2 tg.1 tg.2 sm mu o
 have afO:=mD ar.1
 have hW:=s4 aS lf
 unfold zz
 simp only [f6,hw]
 rw [if_pos (by omega),Int.toNat_natCast,R]
 simp only [Option.bind_eq_bind,Option.bind_some]
 by_cases hlen:b.length<r.length
 ·have a1:=List.getElem?_eq_getElem hlen
  have oQ:=ar.1.get a1
  have nE:V (r.drop (k+1))=r[b.length]:=by
   rw [← ba]
   exact Ai a1 (by omega)
  have cb:V (r.drop k)=r[k]+1000000000*r[b.length]:=by rw [og R,nE]
  rw [cb] at EE mu
  have lR:0≤(r[k]+1000000000*r[b.length]) / (d+1):=Int.ediv_nonneg mu (by omega)
  have n0:(r[k]+1000000000*r[b.length]) / (d+1)≤r[k]+1000000000*r[b.length]:=Int.ediv_le_self _ mu
  have ya:0≤(r[k]+1000000000*r[b.length]) / d:=Int.ediv_nonneg mu (by omega)
  have ady:(r[k]+1000000000*r[b.length]) / d≤r[k]+1000000000*r[b.length]:=Int.ediv_le_self _ mu
  rw [if_pos (by simp;omega),if_pos (by omega),Int.toNat_natCast,a1]
  simp only [Option.bind_some]
  rw [if_pos (by omega),bG]
  simp only [Option.bind_some]
  have e1:U (d+1)=d+1:=cx (by omega) (by omega)
  have aC:U (r[k]+U (r[b.length]*1000000000))=r[k]+1000000000*r[b.length]:=by
   rw [cx (x:=r[b.length]*1000000000) (by omega) (by omega),cx (by omega) (by omega),Int.mul_comm]
  rw [e1,if_pos (by omega),if_pos (by omega),aC,m1 mu,m1 mu,cx (by omega) (by omega),cx (x:=(r[k]+1000000000*r[b.length]) / d) (by omega) (by omega)]
  rw [OO ar aS lf a5 hm lR EE.1 (by split<;>omega) (by split<;>omega)]
  rfl
 ·have cb:V (r.drop k)=r[k]:=Ai R (by omega)
  rw [cb] at EE mu
  have lR:0≤r[k] / (d+1):=Int.ediv_nonneg mu (by omega)
  have n0:r[k] / (d+1)≤r[k]:=Int.ediv_le_self _ mu
  have ya:0≤r[k] / d:=Int.ediv_nonneg mu (by omega)
  have ady:r[k] / d≤r[k]:=Int.ediv_le_self _ mu
  rw [if_neg (by simp;omega),if_pos (by omega),bG]
  simp only [Option.bind_some]
  have e1:U (d+1)=d+1:=cx (by omega) (by omega)
  rw [e1,if_pos (by omega),if_pos (by omega),m1 mu,m1 mu,cx (by omega) (by omega),cx (x:=r[k] / d) (by omega) (by omega)]
  rw [OO ar aS lf a5 hm lR EE.1 (by split<;>omega) (by split<;>omega)]
  rfl
theorem aah {a b:List Int}(bE:fI a)(aS:fI b)(lf:b≠[])(a5:a.length≤900000)(hm:b.length≤900000):
 ∃r,I7 a b [] ((a.length:Int)-1) (List.replicate a.length 0)=some r∧r.1=L (V a % V b)∧cu r.2∧r.2.length=a.length∧V r.2=V a / V b:=by
 have jD:=s4 aS lf
 refine jt (eK:=fun w:List Int×Int×List Int=> ∃(k:Nat) (q:List Int),w.2.1=(k:Int)-1∧k≤a.length∧w.2.2=List.replicate k 0++q∧q.length+k=a.length∧cu q∧fI w.1∧V w.1<V b∧V (a.drop k)=V q*V b+V w.1) (m:=fun w:List Int×Int×List Int=>(w.2.1+1).toNat) _ ?_ _ ⟨a.length,[],rfl,by omega,by simp,by simp,cu.nil,fI.nil,by simpa [V] using jD,by simp [V]⟩
 rintro ⟨rest,i,row⟩ ⟨k,q,h1,ba,o,bc,pA,lc,hX,bj⟩
 simp only at h1 o lc hX bj ⊢
 subst h1 o
 have BU:=mD lc.1
 cases k with
 | zero =>
  simp at bj
  refine .inr ⟨(rest,q),by simp [wK],?_,pA,by simpa using bc,?_⟩
  ·refine s8 lc ?_
   rw [bj,Int.add_comm,Int.add_mul_emod_self_right]
   exact (Int.emod_eq_of_lt BU hX).symm
  ·rw [bj,Int.add_comm,Int.add_mul_ediv_right _ _ (by omega),Int.ediv_eq_zero_of_lt BU hX]
   simp
 | succ k =>
  have R:=List.getElem?_eq_getElem (show k<a.length by omega)
  have kq:=bE.1.get R
  have u7:rest.length≤b.length:=lc.len.2 (by have:=m9 aS.1;omega)
  have iy:cu (a[k]::rest):=cu.cons kq lc.1
  have LH:V (a[k]::rest)=a[k]+1000000000*V rest:=k5 _ _
  have oR:0≤a[k]+1000000000*V rest:=by omega
  have afP:(L (a[k]+1000000000*V rest)).length≤b.length+1:=(i4 oR).2 (by
   have:=m9 aS.1
   rw [l5]
   omega)
  have bG:=og R
  have KH:wK a b rest (k:Int) (List.replicate (k+1) 0++q)=some (.inl (if a[k]+1000000000*V rest<V b then (L (a[k]+1000000000*V rest),(k:Int)-1,List.replicate (k+1) 0++q) else (L ((a[k]+1000000000*V rest) % V b),(k:Int)-1,(List.replicate (k+1) 0++q).set k ((a[k]+1000000000*V rest) / V b)))):=by
   unfold wK
   rw [if_pos (by simp),if_pos (by omega),Int.toNat_natCast,R]
   simp only [Option.bind_eq_bind,Option.bind_some,List.singleton_append]
   rw [if_pos (by simp;omega),rb iy (by simp;omega),LH]
   simp only [Option.bind_some]
   rw [rY (ji _) aS (by omega),ei oR]
   simp only [Option.bind_some]
   by_cases bf:a[k]+1000000000*V rest<V b
   ·rw [if_pos (by simpa using sV.2 bf),if_pos bf,p4 (by omega)]
   ·rw [if_neg (fun h=>bf (sV.1 (by simpa using h))),if_neg bf]
    have dz:a[k]+1000000000*V rest<1000000000*V b:=by omega
    rw [aag (ji _) aS lf (by omega) (by omega) (by rw [ei oR];omega) (by rw [ei oR];exact dz),ei oR]
    simp only [Option.bind_some]
    have lR:0≤(a[k]+1000000000*V rest) / V b:=Int.ediv_nonneg oR (by omega)
    have n0:(a[k]+1000000000*V rest) / V b<1000000000:=Int.ediv_lt_of_lt_mul jD dz
    have afQ:(L ((a[k]+1000000000*V rest) / V b)).length≤1:=(i4 lR).2 (by simpa [B] using n0)
    have o7:=Int.mul_ediv_add_emod (a[k]+1000000000*V rest) (V b)
    have BV:=Int.emod_nonneg (a[k]+1000000000*V rest) (b:=V b) (by omega)
    have LK:0≤V b*((a[k]+1000000000*V rest) / V b):=Int.mul_nonneg (by omega) lR
    rw [if_pos (by simp;omega),if_pos (by simp;omega),xx lR (by omega)]
    simp only [Option.bind_some]
    rw [mul_eq aS.1 (g9 _) (by omega) (by omega),ei lR]
    simp only [Option.bind_some]
    rw [sub_eq (g9 _) (g9 _) ((i4 LK).2 (by
     have:=m9 (g9 (a[k]+1000000000*V rest))
     rw [ei oR] at this
     omega)) (by rw [ei oR,ei LK];omega) (by omega),ei oR,ei LK]
    simp only [Option.bind_some]
    rw [p4 (by omega),Nat.zero_add]
    congr 4
    omega
  rw [show ((k+1:Nat):Int)-1=k by omega,KH]
  refine .inl ⟨_,rfl,?_⟩
  by_cases bf:a[k]+1000000000*V rest<V b
  ·rw [if_pos bf]
   refine ⟨⟨k,0::q,rfl,by omega,?_,by simp;omega,cu.cons (by omega) pA,ji _,by rw [ei oR];exact bf,?_⟩,by simp⟩
   ·simp only
    rw [List.replicate_succ',List.append_assoc];rfl
   ·simp only
    rw [bG,bj,k5,ei oR]
    grind
  ·rw [if_neg bf]
   have dz:a[k]+1000000000*V rest<1000000000*V b:=by omega
   have BV:=Int.emod_nonneg (a[k]+1000000000*V rest) (b:=V b) (by omega)
   refine ⟨⟨k,(a[k]+1000000000*V rest) / V b::q,rfl,by omega,Ke _ _ _,by simp;omega,cu.cons ⟨Int.ediv_nonneg oR (by omega),Int.ediv_lt_of_lt_mul jD dz⟩ pA,ji _,by rw [ei BV];exact Int.emod_lt_of_pos _ jD,?_⟩,by simp⟩
   simp only
   rw [bG,bj,k5,ei BV]
   have o7:=Int.mul_ediv_add_emod (a[k]+1000000000*V rest) (V b)
   generalize (a[k]+1000000000*V rest) / V b=u at *
   generalize (a[k]+1000000000*V rest) % V b=t at *
   grind
theorem div_eq {a b:List Int}(bE:fI a)(aS:fI b)(lf:b≠[])(a5:a.length≤900000)(hm:b.length≤900000):sJ a b=some (L (V a / V b),L (V a % V b)):=by
 unfold sJ
 simp only [f6]
 by_cases h1:b.length=1
 ·obtain ⟨k,d,ba,bG,sm,ED,yB⟩:=DU aS lf
  have sl:k=0:=by omega
  subst sl
  have LL:V b=d:=by simpa using yB
  rw [if_pos (by simp [h1]),if_pos (by omega),bG]
  simp only [Option.bind_eq_bind,Option.bind_some]
  have o7:=Int.emod_nonneg (V a) (b:=d) (by omega)
  have BV:=Int.emod_lt_of_pos (V a) sm
  rw [aad bE.1 ⟨sm,ED⟩ (by omega)]
  simp only [Option.bind_some]
  rw [xx o7 (by omega),LL]
  rfl
 ·obtain ⟨r,ar,e1,aC,bR,c9⟩:=aah bE aS lf a5 hm
  rw [if_neg (by simp;omega),if_pos (by omega),p4 (by omega),Int.toNat_natCast,ar]
  simp only [Option.bind_eq_bind,Option.bind_some]
  rw [rb aC (by omega),c9,e1]
  rfl
theorem PC {x y:Int}(R:0≤x):Int.gcd y (x % y)=Int.gcd x y:=by
 have:=Nat.gcd_rec y.natAbs x.natAbs
 simp only [Int.gcd]
 rw [Nat.gcd_comm x.natAbs,this,Int.natAbs_emod_of_nonneg R,Nat.gcd_comm]
theorem Qb {x:Int}(R:0≤x):(Int.gcd x 0:Int)=x:=by
 rw [Int.gcd_zero_right];omega
theorem aai {x y:Int}(R:0≤x)(a1:0≤y)(BW:x<9223372036854775808)(BS:y<9223372036854775808):zx x y=some (L (Int.gcd x y)):=by
 have : ∃r,iter (fun w:Int×Int=>wi w.1 w.2) (x,y)=some r∧(r=(Int.gcd x y:Int)∧r<9223372036854775808):=by
  refine jt (eK:=fun w:Int×Int=>0≤w.1∧0≤w.2∧w.1<9223372036854775808∧w.2<9223372036854775808∧Int.gcd w.1 w.2=Int.gcd x y) (m:=fun w:Int×Int=>w.2.toNat) _ ?_ _ ⟨R,a1,BW,BS,rfl⟩
  rintro ⟨u,v⟩ ⟨h1,o,ae,av,aA⟩
  simp only at h1 o ae av aA
  by_cases bj:0<v
  ·have a2:=Int.emod_nonneg u (b:=v) (by omega)
   have bd:=Int.emod_lt_of_pos u bj
   refine .inl ⟨(v,u % v),?_,⟨o,a2,av,by simp only;omega,by rw [← aA];exact PC h1⟩,by simp only;omega⟩
   unfold wi
   rw [if_pos (by simpa using bj),if_pos (by omega),pF h1]
  ·have adz:v=0:=by omega
   subst adz
   refine .inr ⟨u,by simp [wi],?_,ae⟩
   rw [← aA,Qb h1]
 obtain ⟨r,ar,rfl,h⟩:=this
 unfold zx Iy
 rw [ar]
 simp only [Option.bind_eq_bind,Option.bind_some]
 rw [xx (by omega) h]
 rfl
theorem DV {a:List Int}(bE:fI a)(h:a.length<3):V a<9223372036854775808:=by
 have h1:=m9 bE.1
 have o:=qA (m:=a.length) (n:=2) (by omega)
 have ae:B 2=1000000000000000000:=by decide
 omega
theorem QD {a b:List Int}(bE:fI a)(aS:fI b)(a5:a.length≤900000)(hm:b.length≤900000):xh a b=some (L (Int.gcd (V a) (V b))):=by
 have : ∃r,iter (fun w:List Int×List Int=>tR w.1 w.2) (a,b)=some r∧r.elim id id=L (Int.gcd (V a) (V b)):=by
  refine jt (eK:=fun w:List Int×List Int=>fI w.1∧fI w.2∧w.1.length≤900000∧w.2.length≤900000∧Int.gcd (V w.1) (V w.2)=Int.gcd (V a) (V b)) (m:=fun w:List Int×List Int=>(V w.2).toNat) _ ?_ _ ⟨bE,aS,a5,hm,rfl⟩
  rintro ⟨x,y⟩ ⟨h1,o,ae,av,aA⟩
  simp only at h1 o ae av aA ⊢
  have kq:=mD h1.1
  have oQ:=mD o.1
  by_cases a1:y=[]
  ·subst a1
   refine .inr ⟨.inl x,by simp [tR,f6],?_⟩
   rw [← aA,AR,Qb kq]
   exact (Ew h1).symm
  ·have adA:=s4 o a1
   have afR:=List.length_pos_iff.mpr a1
   by_cases bV:x.length<3∧y.length<3
   ·refine .inr ⟨.inr (L (Int.gcd (V a) (V b))),?_,rfl⟩
    unfold tR
    simp only [f6]
    rw [if_pos (by simp;omega),if_pos (by simp;omega),if_pos (by simp;omega),Oj h1 (by omega) (DV h1 bV.1)]
    simp only [Option.bind_eq_bind,Option.bind_some]
    rw [Oj o (by omega) (DV o bV.2)]
    simp only [Option.bind_some]
    rw [aai kq oQ (DV h1 bV.1) (DV o bV.2),aA]
    rfl
   ·have EF:=Int.emod_nonneg (V x) (b:=V y) (by omega)
    have afS:=Int.emod_lt_of_pos (V x) adA
    refine .inl ⟨(y,L (V x % V y)),?_,⟨o,ji _,av,(i4 EF).2 ?_,?_⟩,?_⟩
    ·unfold tR
     simp only [f6]
     rw [if_pos (by simp;omega),div_eq h1 o a1 ae av]
     by_cases u9:x.length<3
     ·rw [if_pos (by simp;omega),if_neg (by simp;omega)]
      rfl
     ·rw [if_neg (by simp;omega)]
      rfl
    ·have:=m9 o.1
     have:=qA av
     omega
    ·simp only
     rw [ei EF,← aA]
     exact PC kq
    ·simp only
     rw [ei EF]
     omega
 obtain ⟨r,ar,h⟩:=this
 unfold xh I8
 rw [List.nil_append,List.nil_append,if_pos (by omega),if_pos (by omega),ar]
 cases r with
 | inl r=>exact congrArg some h
 | inr r=>exact congrArg some h
def oJ (p:Nat)(l:List Int):Prop:= ∀i z,i≠p→l[i]? = some z→0≤z∧z<1000000000
theorem oJ.set {p:Nat}{l:List Int}(h:oJ p l){k:Nat}{x:Int}(R:0≤x∧x<1000000000):oJ p (l.set k x):=fun i z aq cw=>by
 by_cases ba:k=i
 ·subst ba
  rw [List.getElem?_set] at cw
  simp only [if_true] at cw
  split at cw
  ·rw [← Option.some.inj cw];exact R
  ·simp at cw
 ·rw [List.getElem?_set_ne ba] at cw
  exact h i z aq cw
theorem oJ.Rk {p:Nat}{l:List Int}(h:oJ p l){x:Int}:oJ p (l.set p x):=fun i z aq cw=>by
 rw [List.getElem?_set_ne (fun h=>aq h.symm)] at cw
 exact h i z aq cw
theorem cu.toE {l:List Int}(h:cu l)(p:Nat):oJ p l:=fun _ _ _ cw=>h.get cw
theorem Zk {v row:List Int}{bT mK i:Nat}{iV carry x y:Int}(R:v[i]? = some x)(a1:row[bT+i]? = some y)(kq:0≤x∧x<1000000000)(oQ:0≤y∧y<1000000000)(aS:0≤iV∧iV<1000000000)(bf:0≤carry∧carry<1000000000)(hu:i<mK)(a5:row.length≤5000000):
 ∃c z,tS bT mK v iV v.length carry i row=some (.inl (c,((i+1:Nat):Int),row.set (bT+i) z))∧0≤c∧c<1000000000∧0≤z∧z<1000000000∧z-1000000000*c=y-iV*x-carry:=by
 have aq:=fB R
 have aI:=fB a1
 obtain ⟨ik,hf⟩:=AD aS kq
 have e:U (U (y-U (iV*x))-carry)=y-iV*x-carry:=by
  rw [cx (x:=iV*x) (by omega) (by omega),cx (x:=y-iV*x) (by omega) (by omega),cx (by omega) (by omega)]
 by_cases cb:y-iV*x-carry<0
 ·refine ⟨(999999999-(y-iV*x-carry)) / 1000000000,y-iV*x-carry+(999999999-(y-iV*x-carry)) / 1000000000*1000000000,?_,by omega,by omega,by omega,by omega,by omega⟩
  unfold tS
  rw [if_pos (by simp;omega),if_pos (by omega),Int.toNat_natCast,R]
  simp only [Option.bind_eq_bind,Option.bind_some]
  rw [if_pos (by omega),a1]
  simp only [Option.bind_some,e]
  rw [if_pos (by simpa using cb),if_pos (by omega),nt (n:=i) (by omega),cx (x:=999999999-(y-iV*x-carry)) (by omega) (by omega),m1 (by omega),cx (x:=(999999999-(y-iV*x-carry)) / 1000000000) (by omega) (by omega),cx (x:=(999999999-(y-iV*x-carry)) / 1000000000*1000000000) (by omega) (by omega),cx (by omega) (by omega)]
 ·refine ⟨0,y-iV*x-carry,?_,by omega,by omega,by omega,by omega,by omega⟩
  unfold tS
  rw [if_pos (by simp;omega),if_pos (by omega),Int.toNat_natCast,R]
  simp only [Option.bind_eq_bind,Option.bind_some]
  rw [if_pos (by omega),a1]
  simp only [Option.bind_some,e]
  rw [if_neg (by simpa using cb),if_pos (by omega),nt (n:=i) (by omega)]
theorem Zl {v row:List Int}{bT mK:Nat}{iV:Int}(bj:cu v)(ar:cu row)(aS:0≤iV∧iV<1000000000)(hu:v.length<mK)(aV:bT+v.length<row.length)(a5:row.length≤5000000):
 ∃r,Ja bT mK v iV v.length 0 0 row=some r∧0≤r.1∧r.1<1000000000∧cu r.2∧r.2.length=row.length∧V r.2=V row-iV*B bT*V v+r.1*B (bT+v.length)∧ ∀i,i<bT∨bT+v.length≤i→r.2[i]? = row[i]? := by
 refine jt (eK:=fun w:Int×Int×List Int=> ∃(i:Nat),w.2.1=(i:Int)∧i≤v.length∧0≤w.1∧w.1<1000000000∧cu w.2.2∧w.2.2.length=row.length∧V w.2.2=V row-iV*B bT*V (v.take i)+w.1*B (bT+i)∧ ∀i,i<bT∨bT+v.length≤i→w.2.2[i]? = row[i]?) (m:=fun w:Int×Int×List Int=>v.length-w.2.1.toNat) _ ?_ _ ⟨0,rfl,by omega,by simp,by simp,ar,rfl,by simp [V],fun _ _=>rfl⟩
 rintro ⟨carry,ii,fD⟩ ⟨i,h1,aq,mn,mR,kh,hlen,hV,k8⟩
 simp only at h1 mn mR kh hlen hV k8 ⊢
 subst h1
 by_cases LM:i=v.length
 ·subst LM
  exact .inr ⟨(carry,fD),by simp [tS],mn,mR,kh,hlen,by simpa using hV,k8⟩
 ·have R:=List.getElem?_eq_getElem (show i<v.length by omega)
  have a1:=List.getElem?_eq_getElem (show bT+i<fD.length by omega)
  obtain ⟨c,z,he,dK,bw,fH,Cf,cw⟩:=Zk (mK:=mK) R a1 (bj.get R) (kh.get a1) aS ⟨mn,mR⟩ (by omega) (by omega)
  rw [he]
  refine .inl ⟨_,rfl,⟨i+1,rfl,by omega,dK,bw,kh.set ⟨fH,Cf⟩,by simpa using hlen,?_,fun k ba=> ?_⟩,by simp;omega⟩
  ·simp only
   rw [rr a1,rV R,hV,← Nat.add_assoc,l5,AQ]
   have uW:z=fD[bT+i]-iV*v[i]-carry+1000000000*c:=by omega
   rw [uW]
   grind
  ·simp only
   rw [List.getElem?_set_ne (by omega)]
   exact k8 k ba
theorem abp {v row:List Int}{bT mK:Nat}{iV:Int}(bj:cu v)(ar:cu row)(aS:0≤iV∧iV<1000000000)(hu:v.length<mK)(aV:bT+v.length<row.length)(a5:row.length≤5000000):
 ∃y dX,zY v iV bT mK row=some (decide (y<0),dX)∧dX.length=row.length∧oJ (bT+v.length) dX∧dX[bT+v.length]? = some y∧ -1000000000<y∧y<1000000000∧V dX=V row-iV*B bT*V v∧ ∀i,i<bT∨bT+v.length<i→dX[i]? = row[i]? := by
 obtain ⟨r,hX,dK,bw,kh,hlen,hV,k8⟩:=Zl bj ar aS hu aV a5
 have R:=List.getElem?_eq_getElem (show bT+v.length<r.2.length by omega)
 have kq:=kh.get R
 refine ⟨r.2[bT+v.length]-r.1,r.2.set (bT+v.length) (r.2[bT+v.length]-r.1),?_,by simpa using hlen,(cu.toE kh _).Rk,?_,by omega,by omega,?_,fun i aq=> ?_⟩
 ·unfold zY
  simp only [f6]
  rw [hX]
  simp only [Option.bind_eq_bind,Option.bind_some,Int.toNat_natCast]
  rw [if_pos (by omega),R]
  simp only [Option.bind_some]
  rw [if_pos (by omega),cx (by omega) (by omega),List.getElem?_set,if_pos rfl,if_pos (by omega)]
  rfl
 ·rw [List.getElem?_set,if_pos rfl,if_pos (by omega)]
 ·rw [rr R,hV]
  grind
 ·rw [List.getElem?_set_ne (by omega)]
  exact k8 i (by omega)
theorem Zm {v row:List Int}{bT mK:Nat}(bj:cu v)(ar:oJ (bT+v.length) row)(hu:v.length<mK)(aV:bT+v.length<row.length)(a5:row.length≤5000000):
 ∃r,Jb bT mK v v.length 0 0 row=some r∧0≤r.1∧r.1≤1∧oJ (bT+v.length) r.2∧r.2.length=row.length∧V r.2=V row+B bT*V v-r.1*B (bT+v.length)∧ ∀i,i<bT∨bT+v.length≤i→r.2[i]? = row[i]? := by
 refine jt (eK:=fun w:Int×Int×List Int=> ∃(i:Nat),w.2.1=(i:Int)∧i≤v.length∧0≤w.1∧w.1≤1∧oJ (bT+v.length) w.2.2∧w.2.2.length=row.length∧V w.2.2=V row+B bT*V (v.take i)-w.1*B (bT+i)∧ ∀i,i<bT∨bT+v.length≤i→w.2.2[i]? = row[i]?) (m:=fun w:Int×Int×List Int=>v.length-w.2.1.toNat) _ ?_ _ ⟨0,rfl,by omega,by simp,by simp,ar,rfl,by simp [V],fun _ _=>rfl⟩
 rintro ⟨carry,ii,fD⟩ ⟨i,h1,aq,mn,mR,kh,hlen,hV,k8⟩
 simp only at h1 mn mR kh hlen hV k8 ⊢
 subst h1
 by_cases LM:i=v.length
 ·subst LM
  exact .inr ⟨(carry,fD),by simp [wM],mn,mR,kh,hlen,by simpa using hV,k8⟩
 ·have R:=List.getElem?_eq_getElem (show i<v.length by omega)
  have a1:=List.getElem?_eq_getElem (show bT+i<fD.length by omega)
  have kq:=bj.get R
  have oQ:=kh _ _ (by omega) a1
  have he:wM bT mK v v.length carry i fD=some (.inl ((fD[bT+i]+v[i]+carry) / 1000000000,((i+1:Nat):Int),fD.set (bT+i) ((fD[bT+i]+v[i]+carry) % 1000000000))):=by
   unfold wM
   rw [if_pos (by simp;omega),if_pos (by omega),Int.toNat_natCast,R]
   simp only [Option.bind_eq_bind,Option.bind_some]
   rw [if_pos (by omega),a1]
   simp only [Option.bind_some]
   rw [if_pos (by omega),cx (x:=fD[bT+i]+v[i]) (by omega) (by omega),cx (x:=fD[bT+i]+v[i]+carry) (by omega) (by omega),pF (by omega),m1 (by omega),cx (by omega) (by omega),nt (n:=i) (by omega)]
  rw [he]
  refine .inl ⟨_,rfl,⟨i+1,rfl,by omega,by simp only;omega,by simp only;omega,kh.set (by omega),by simpa using hlen,?_,fun k ba=> ?_⟩,by simp;omega⟩
  ·simp only
   rw [rr a1,rV R,hV,← Nat.add_assoc,l5,AQ]
   have:=Int.mul_ediv_add_emod (fD[bT+i]+v[i]+carry) 1000000000
   generalize (fD[bT+i]+v[i]+carry) / 1000000000=q at *
   generalize (fD[bT+i]+v[i]+carry) % 1000000000=t at *
   have uW:t=fD[bT+i]+v[i]+carry-1000000000*q:=by omega
   rw [uW]
   grind
  ·simp only
   rw [List.getElem?_set_ne (by omega)]
   exact k8 k ba
theorem abq {v row:List Int}{bT mK:Nat}{y:Int}(bj:cu v)(ar:oJ (bT+v.length) row)(hu:v.length<mK)(aV:bT+v.length<row.length)(a5:row.length≤5000000)(a1:row[bT+v.length]? = some y)(oQ:-1000000000<y)(BS:y<1000000000):
 ∃lW dX,xi v bT mK row=some dX∧dX.length=row.length∧oJ (bT+v.length) dX∧dX[bT+v.length]? = some lW∧V dX=V row+B bT*V v∧ ∀i,i<bT∨bT+v.length<i→dX[i]? = row[i]? := by
 obtain ⟨r,hX,dK,bw,kh,hlen,hV,k8⟩:=Zm bj ar hu aV a5
 have R:r.2[bT+v.length]? = some y:=by rw [k8 _ (by omega)];exact a1
 refine ⟨y+r.1,r.2.set (bT+v.length) (y+r.1),?_,by simpa using hlen,kh.Rk,?_,?_,fun i aq=> ?_⟩
 ·unfold xi
  simp only [f6]
  rw [hX]
  simp only [Option.bind_eq_bind,Option.bind_some,Int.toNat_natCast]
  rw [if_pos (by omega),R]
  simp only [Option.bind_some]
  rw [if_pos (by omega),cx (by omega) (by omega)]
 ·rw [List.getElem?_set,if_pos rfl,if_pos (by omega)]
 ·rw [rr R,hV]
  grind
 ·rw [List.getElem?_set_ne (by omega)]
  exact k8 i (by omega)
theorem aaj {g q v1 v2 top gM rest aW W P:Int}(hh:1≤P)(dI:0≤g)(cb:g*v1+rest=top)(tr:P*(v1*1000000000+v2)≤W)(LI:aW<P*(top*1000000000+gM+1))(R4:q*W≤aW)(hW:0≤W)(h:rest*1000000000+gM<g*v2):q<g:=by
 apply Int.not_le.mp
 intro ts
 have h1:g*W≤q*W:=Int.mul_le_mul_of_nonneg_right ts hW
 have o:g*(P*(v1*1000000000+v2))≤g*W:=Int.mul_le_mul_of_nonneg_left tr dI
 have ae:g*(P*(v1*1000000000+v2))=P*(g*(v1*1000000000+v2)):=by grind
 have av:P*(g*(v1*1000000000+v2))<P*(top*1000000000+gM+1):=by omega
 have aA:=Int.lt_of_mul_lt_mul_left av (by omega)
 have a2:g*(v1*1000000000+v2)=1000000000*(g*v1)+g*v2:=by grind
 omega
theorem Pa {g v1 v2 top gM rest aW W P:Int}(hh:1≤P)(dI:0≤g)(tt:g≤999999999)(sq:1≤v1)(BX:0≤v2)(cb:g*v1+rest=top)(tr:P*(v1*1000000000+v2)≤W)(EC:W<P*(v1*1000000000+v2+1))(EB:P*(top*1000000000+gM)≤aW)(h:g*v2≤rest*1000000000+gM):g≤aW / W+1:=by
 have BZ:P*1000000000≤W:=by
  have h1:P*1000000000≤P*(v1*1000000000+v2):=Int.mul_le_mul_of_nonneg_left (by omega) (by omega)
  omega
 have h1:g*W≤g*(P*(v1*1000000000+v2+1)):=Int.mul_le_mul_of_nonneg_left (by omega) dI
 have o:g*(P*(v1*1000000000+v2+1))=P*(1000000000*(g*v1)+g*v2+g):=by grind
 have ae:P*(1000000000*(g*v1)+g*v2+g)≤P*(top*1000000000+gM+999999999):=Int.mul_le_mul_of_nonneg_left (by omega) (by omega)
 have av:P*(top*1000000000+gM+999999999)=P*(top*1000000000+gM)+P*999999999:=by grind
 have aA:(g-1)*W=g*W-W:=by grind
 have:g-1≤aW / W:=(Int.le_ediv_iff_mul_le (by omega)).2 (by omega)
 omega
theorem YI {ad u iE al:List Int}{N n j:Nat}{v1 v2 gM top aW W P:Int}(a5:2≤n)(Ei:n≤5000000)(B0:j+n<N)(fR:N≤5000000)(h1:iE[n-1]? = some v1)(o:iE[n-2]? = some v2)(ae:u[j+n-2]? = some gM)
 (sq:1≤v1∧v1<1000000000) (BX:0≤v2∧v2<1000000000) (afT:0≤gM∧gM<1000000000) (hh:1≤P) (tr:P*(v1*1000000000+v2)≤W) (EC:W<P*(v1*1000000000+v2+1)) (EB:P*(top*1000000000+gM)≤aW) (LI:aW<P*(top*1000000000+gM+1)) (cX:0≤aW) (LJ:aW<1000000000*W) (mu:0≤top) (afU:top≤v1*1000000000+999999999) (bc:aW / W≤top / v1) :
 ∃g,Jo N n n j ad u iE al (top / v1) (top % v1)=some g∧(aW / W=g∨aW / W+1=g)∧0≤g∧g≤999999999:=by
 have BZ:0<W:=by
  have h1:P*1000000000≤P*(v1*1000000000+v2):=Int.mul_le_mul_of_nonneg_left (by omega) (by omega)
  omega
 have lR:0≤aW / W:=Int.ediv_nonneg cX (by omega)
 have n0:aW / W<1000000000:=Int.ediv_lt_of_lt_mul BZ LJ
 have R4:aW / W*W≤aW:=Int.ediv_mul_le _ (by omega)
 have adC:=Int.mul_ediv_add_emod top v1
 have nC:=Int.emod_nonneg top (b:=v1) (by omega)
 have o7:=Int.emod_lt_of_pos top (b:=v1) (by omega)
 have KY:U ((n:Int)-1)=((n-1:Nat):Int):=by rw [cx (by omega) (by omega)];omega
 have acq:U ((n:Int)-2)=((n-2:Nat):Int):=by rw [cx (by omega) (by omega)];omega
 have acr:U (U ((j:Int)+(n:Int))-2)=((j+n-2:Nat):Int):=by rw [cx (x:=(j:Int)+n) (by omega) (by omega),cx (by omega) (by omega)];omega
 have Ea:top / v1≤top:=Int.ediv_le_self _ mu
 refine jt (eK:=fun w:Int×Int=>w.1*v1+w.2=top∧0≤w.2∧w.2<1000000000∧aW / W≤w.1∧w.1≤top) (m:=fun w:Int×Int=>w.1.toNat) _ ?_ _ ⟨by rw [Int.mul_comm];exact adC,nC,by simp only;omega,bc,Ea⟩
 rintro ⟨g,rest⟩ ⟨i1,o9,Me,B9,aem⟩
 simp only at i1 o9 Me B9 aem ⊢
 have LN:U (rest+v1)=rest+v1:=cx (by omega) (by omega)
 have LO:U (g-1)=g-1:=cx (by omega) (by omega)
 have tt:(g-1)*v1+(rest+v1)=top:=by grind
 have QE:aW / W≤g-1→1000000000≤rest+v1→(aW / W=g-1∨aW / W+1=g-1)∧0≤g-1∧g-1≤999999999:=by
  intro mW ll
  have qh:(g-1)*v1<1000000000*v1:=by omega
  have Mg:g-1<1000000000:=Int.lt_of_mul_lt_mul_right qh (by omega)
  have SH:0≤g-1:=by omega
  have agq:=(AD ⟨SH,Mg⟩ BX).2
  have:=Pa hh SH (by omega) sq.1 BX.1 tt tr EC EB (by omega)
  omega
 by_cases KZ:1000000000≤g
 ·by_cases aS:1000000000≤rest+v1
  ·refine .inr ⟨g-1,?_,QE (by omega) aS⟩
   unfold tU
   rw [if_pos (by simpa using KZ),KY,if_pos (by omega),Nat.zero_add,Int.toNat_natCast,h1]
   simp only [Option.bind_eq_bind,Option.bind_some,LN,LO]
   rw [if_pos (by simpa using aS)]
  ·refine .inl ⟨(g-1,rest+v1),?_,⟨tt,by simp only;omega,by simp only;omega,by simp only;omega,by simp only;omega⟩,by simp only;omega⟩
   unfold tU
   rw [if_pos (by simpa using KZ),KY,if_pos (by omega),Nat.zero_add,Int.toNat_natCast,h1]
   simp only [Option.bind_eq_bind,Option.bind_some,LN,LO]
   rw [if_neg (by simpa using aS)]
 ·have i9:0≤g:=by omega
  obtain ⟨ik,hf⟩:=AD ⟨i9,by omega⟩ BX
  have e1:U (U (rest*1000000000)+gM)=rest*1000000000+gM:=by rw [cx (x:=rest*1000000000) (by omega) (by omega),cx (by omega) (by omega)]
  have aC:U (g*v2)=g*v2:=cx (by omega) (by omega)
  have KH:tU N n n j ad u iE al g rest=some (if rest*1000000000+gM<g*v2 then (if 1000000000≤rest+v1 then .inr (g-1) else .inl (g-1,rest+v1)) else .inr g):=by
   unfold tU
   rw [if_neg (by simpa using KZ),acq,if_pos (by omega),Nat.zero_add,Int.toNat_natCast,o]
   simp only [Option.bind_eq_bind,Option.bind_some]
   rw [acr,if_pos (by omega),Nat.zero_add,Int.toNat_natCast,ae]
   simp only [Option.bind_some,e1,aC]
   by_cases bf:rest*1000000000+gM<g*v2
   ·rw [if_pos (by simpa using bf),if_pos bf,KY,if_pos (by omega),Nat.zero_add,Int.toNat_natCast,h1]
    simp only [Option.bind_some,LN,LO]
    by_cases aS:1000000000≤rest+v1
    ·rw [if_pos (by simpa using aS),if_pos aS]
    ·rw [if_neg (by simpa using aS),if_neg aS]
   ·rw [if_neg (by simpa using bf),if_neg bf]
  rw [KH]
  by_cases bf:rest*1000000000+gM<g*v2
  ·have afV:=aaj hh i9 i1 tr LI R4 (by omega) bf
   rw [if_pos bf]
   by_cases aS:1000000000≤rest+v1
   ·rw [if_pos aS]
    exact .inr ⟨g-1,rfl,QE (by omega) aS⟩
   ·rw [if_neg aS]
    exact .inl ⟨(g-1,rest+v1),rfl,⟨tt,by simp only;omega,by simp only;omega,by simp only;omega,by simp only;omega⟩,by simp only;omega⟩
  ·rw [if_neg bf]
   have:=Pa hh i9 (by omega) sq.1 BX.1 i1 tr EC EB (by omega)
   exact .inr ⟨g,rfl,by omega,by omega,by omega⟩
theorem Zn {a b:List Int}{k:Nat}(h:∀i,k≤i→a[i]? = b[i]?):a.drop k=b.drop k:=by
 apply List.ext_getElem?
 intro i
 rw [List.getElem?_drop,List.getElem?_drop]
 exact h _ (by omega)
theorem Zo {a b:List Int}{k:Nat}(h:∀i,i<k→a[i]? = b[i]?):a.take k=b.take k:=by
 apply List.ext_getElem?
 intro i
 rw [List.getElem?_take,List.getElem?_take]
 by_cases aq:i<k
 ·rw [if_pos aq,if_pos aq];exact h i aq
 ·rw [if_neg aq,if_neg aq]
theorem R5 {u w:List Int}{j n:Nat}{y c:Int}(hlen:w.length=u.length)(B0:j+n<u.length)(ek:oJ (j+n) w)(a1:w[j+n]? = some y)(k8:∀i,i<j∨j+n<i→w[i]? = u[i]?)(h0:V (u.drop (j+n+1))=0)(hV:V w=V u-c*B j):
 V (w.drop j)=V (u.drop j)-c∧ ∃low,0≤low∧low<B n∧V (w.drop j)=low+B n*y:=by
 have h1:=uy (l:=u) (n:=j) (by omega)
 have o:=uy (l:=w) (n:=j) (by omega)
 rw [Zo (a:=w) (b:=u) (fun i aq=>k8 i (.inl aq))] at o
 have ae:B j*V (w.drop j)=B j*(V (u.drop j)-c):=by grind
 have gY:=ow j
 have av:V (w.drop j)=V (u.drop j)-c:=Int.eq_of_mul_eq_mul_left (by omega) ae
 refine ⟨av,V ((w.drop j).take n),?_,?_,?_⟩
 ·refine mD (fun x R=> ?_)
  obtain ⟨i,aq⟩:=List.mem_iff_getElem?.mp R
  have lS:=fB aq
  simp at lS
  rw [List.getElem?_take,if_pos (by omega),List.getElem?_drop] at aq
  exact ek _ _ (by omega) aq
 ·have aV:cu ((w.drop j).take n):=fun x R=>by
   obtain ⟨i,aq⟩:=List.mem_iff_getElem?.mp R
   have lS:=fB aq
   simp at lS
   rw [List.getElem?_take,if_pos (by omega),List.getElem?_drop] at aq
   exact ek _ _ (by omega) aq
  have:=m9 aV
  rwa [List.length_take,Nat.min_eq_left (by simp;omega)] at this
 ·have aA:=uy (l:=w.drop j) (n:=n) (by simp;omega)
  rw [List.drop_drop,og a1,Zn (a:=w) (b:=u) (k:=j+n+1) (fun i aq=>k8 i (.inr (by omega))),h0] at aA
  rw [aA]
  grind
theorem Pb {w:List Int}{p:Nat}(ek:oJ p w)(a1:w[p]? = some 0):cu w:=fun x R=>by
 obtain ⟨i,aq⟩:=List.mem_iff_getElem?.mp R
 by_cases h:i=p
 ·subst h
  rw [a1] at aq
  have:=Option.some.inj aq
  omega
 ·exact ek i x h aq
theorem PD {low y X vr W:Int}(h0:0≤low)(h1:low<vr)(EU:X=low+vr*y)(o:0≤X)(ae:X<W)(av:W≤vr):y=0:=by
 have dz:vr*y<vr*1:=by omega
 have aA:=Int.lt_of_mul_lt_mul_left dz (by omega)
 have Ep:vr*(-1)<vr*y:=by omega
 have a2:=Int.lt_of_mul_lt_mul_left Ep (by omega)
 omega
theorem Zp {ad u iE al:List Int}{n j:Nat}{v1 W:Int}(a5:2≤n)(LP:n≤iE.length)(bj:cu (iE.take n))(hW:V (iE.take n)=W)(sq:iE[n-1]? = some v1)(K0:1≤v1)(hu:cu u)(va:u.length≤5000000)(B0:j+n<u.length)(dz:V (u.drop (j+1))<W)(afW:j<al.length):
 ∃pD,tV u.length n n ad iE j u al=some (.inl ((j:Int)-1,pD,al.set j (V (u.drop j) / W)))∧cu pD∧pD.length=u.length∧V pD=V u-(V (u.drop j) / W)*B j*W∧V (pD.drop j)<W∧0≤V (u.drop j) / W∧V (u.drop j) / W<1000000000:=by
 obtain ⟨n,rfl⟩ : ∃m,n=m+2:=⟨n-2,by omega⟩
 have pr:(iE.take (n+2)).length=n+2:=by simp;omega
 have tt:(iE.take (n+2))[n+1]? = some v1:=by rw [List.getElem?_take,if_pos (by omega)];exact sq
 have R6:=List.getElem?_eq_getElem (show n<iE.length by omega)
 have Rl:(iE.take (n+2))[n]? = some iE[n]:=by rw [List.getElem?_take,if_pos (by omega)];exact R6
 have acs:=bj.get tt
 have acu:=bj.get Rl
 have kq:=List.getElem?_eq_getElem (show j+(n+2)<u.length by omega)
 have BW:=List.getElem?_eq_getElem (show j+(n+1)<u.length by omega)
 have Bz:=List.getElem?_eq_getElem (show j+n<u.length by omega)
 have R7:=List.getElem?_eq_getElem (show j<u.length by omega)
 have lf:=hu.get kq
 have tg:=hu.get BW
 have Ll:=hu.get Bz
 have afX:=hu.get R7
 have B1:=rc bj (k:=n+1) (by omega)
 rw [Ai tt (by omega),hW] at B1
 have LQ:=rc bj (k:=n) (by omega)
 rw [og Rl,Ai tt (by omega),hW] at LQ
 have K1:=m9 bj
 rw [pr,hW] at K1
 have afY:0≤W:=by rw [← hW];exact mD bj
 have cw:=rc (hu.drop (j+1)) (k:=n+2) (by simp;omega)
 rw [List.drop_drop] at cw
 have adD:=mD (hu.drop (j+1+(n+2)))
 have afZ:=ow (n+2)
 have h0:V (u.drop (j+(n+2)+1))=0:=by
  rw [show j+(n+2)+1=j+1+(n+2) by omega]
  apply Int.le_antisymm _ adD
  apply Int.not_lt.mp
  intro h
  have:B (n+2)*1≤B (n+2)*V (u.drop (j+1+(n+2))):=Int.mul_le_mul_of_nonneg_left (by omega) (by omega)
  omega
 have mu:V (u.drop (j+(n+2)))=u[j+(n+2)]:=by rw [og kq,h0];omega
 have Ea:V (u.drop (j+(n+1)))=u[j+(n+1)]+1000000000*u[j+(n+2)]:=by rw [og BW,show j+(n+1)+1=j+(n+2) by omega,mu]
 have iP:V (u.drop (j+n))=u[j+n]+1000000000*(u[j+(n+1)]+1000000000*u[j+(n+2)]):=by rw [og Bz,show j+n+1=j+(n+1) by omega,Ea]
 have hX:=rc (hu.drop j) (k:=n+1) (by simp;omega)
 rw [List.drop_drop,Ea] at hX
 have vb:=rc (hu.drop j) (k:=n) (by simp;omega)
 rw [List.drop_drop,iP] at vb
 have oR:=mD (hu.drop j)
 have cX:V (u.drop j)<1000000000*W:=by rw [og R7];omega
 have adE:=ow n
 have acv:=ow (n+1)
 have uV:u[j+(n+2)]≤v1:=by
  have h1:=rc (hu.drop (j+1)) (k:=n+1) (by simp;omega)
  rw [List.drop_drop,show j+1+(n+1)=j+(n+2) by omega,mu] at h1
  have o:B (n+1)*u[j+(n+2)]<B (n+1)*(v1+1):=by omega
  have:=Int.lt_of_mul_lt_mul_left o (by omega)
  omega
 have acw:=N2 acv hX.1 hX.2 B1.1 B1.2 (by omega) (by omega) cX
 obtain ⟨g,dI,ts,adF,af0⟩:=YI (ad:=ad) (al:=al) (N:=u.length) (n:=n+2) (j:=j) (v1:=v1) (v2:=iE[n]) (gM:=u[j+n]) (top:=u[j+(n+1)]+1000000000*u[j+(n+2)]) (aW:=V (u.drop j)) (W:=W) (P:=B n) (u:=u) (iE:=iE) (by omega) (by omega) B0 va sq R6 Bz ⟨K0,acs.2⟩ acu Ll adE
  (by rw [Int.mul_comm v1,Int.add_comm];exact LQ.1) (by rw [Int.mul_comm v1,Int.add_comm (1000000000*v1)];exact LQ.2)
  (by rw [Int.mul_comm (u[j+(n+1)]+_),Int.add_comm];exact vb.1) (by rw [Int.mul_comm (u[j+(n+1)]+_),Int.add_comm (1000000000*_) u[j+n]];exact vb.2) oR cX (by omega) (by omega) acw.2.1
 have BZ:0<W:=by
  have:B (n+1)*1≤B (n+1)*v1:=Int.mul_le_mul_of_nonneg_left (by omega) (by omega)
  omega
 have lR:0≤V (u.drop j) / W:=Int.ediv_nonneg oR (by omega)
 have n0:V (u.drop j) / W<1000000000:=Int.ediv_lt_of_lt_mul BZ cX
 have hm:=Int.mul_ediv_add_emod (V (u.drop j)) W
 have nC:=Int.emod_nonneg (V (u.drop j)) (b:=W) (by omega)
 have o7:=Int.emod_lt_of_pos (V (u.drop j)) BZ
 obtain ⟨y,w,cb,R8,EG,EH,oQ,BS,EI,Kq⟩:=abp (v:=iE.take (n+2)) (row:=u) (bT:=j) (mK:=u.length-j) (iV:=g) bj hu ⟨adF,by omega⟩ (by omega) (by omega) va
 rw [pr] at EG EH Kq
 rw [hW] at EI
 obtain ⟨u9,low,ng,EJ,sk⟩:=R5 (c:=g*W) R8 B0 EG EH Kq h0 (by rw [EI];grind)
 have adG:U ((j:Int)-1)=(j:Int)-1:=p4 (by omega)
 have e1:U ((j:Int)+((n+2:Nat):Int))=((j+(n+2):Nat):Int):=by rw [cx (by omega) (by omega)];omega
 have aC:U (((j+(n+2):Nat):Int)-1)=((j+(n+1):Nat):Int):=by rw [cx (by omega) (by omega)];omega
 have bR:U (((n+2:Nat):Int)-1)=((n+1:Nat):Int):=by rw [cx (by omega) (by omega)];omega
 have c9:U (U (u[j+(n+2)]*1000000000)+u[j+(n+1)])=u[j+(n+1)]+1000000000*u[j+(n+2)]:=by
  rw [cx (x:=u[j+(n+2)]*1000000000) (by omega) (by omega),cx (by omega) (by omega)];omega
 have dn:0≤u[j+(n+1)]+1000000000*u[j+(n+2)]:=by omega
 have d5:(u[j+(n+1)]+1000000000*u[j+(n+2)]) / v1≤u[j+(n+1)]+1000000000*u[j+(n+2)]:=Int.ediv_le_self _ dn
 have eJ:0≤(u[j+(n+1)]+1000000000*u[j+(n+2)]) / v1:=Int.ediv_nonneg dn (by omega)
 have acx:iE[n+1]? = some v1:=sq
 have pre:tV u.length (n+2) ((n+2:Nat):Int) ad iE j u al =
  (if (decide (y<0))=true then
    xi (iE.take (n+2)) j (u.length-j) w >>= fun jo=>some (.inl ((j:Int)-1,jo,al.set j (U (g-1))))
  else some (.inl ((j:Int)-1,w,al.set j g))):=by
  unfold tV
  rw [if_pos (by simp)]
  simp only [e1,aC,bR,Int.toNat_natCast,Nat.zero_add,adG]
  rw [if_pos (by omega),kq]
  simp only [Option.bind_eq_bind,Option.bind_some]
  rw [if_pos (by omega),BW]
  simp only [Option.bind_some]
  rw [if_pos (by omega),acx]
  simp only [Option.bind_some]
  rw [if_pos (by omega),c9,m1 dn,pF dn,cx (by omega) (by omega),dI]
  simp only [Option.bind_some]
  rw [if_pos (by omega),if_pos (by omega),if_pos (by omega),List.drop_zero,cb]
  simp only [Option.bind_some]
  by_cases a1:y<0
  ·have bG:(decide (y<0))=true:=by simpa using a1
   simp only [if_pos bG]
   congr 1
   funext r
   rw [if_pos (by omega),if_pos (by omega)]
  ·have bG : ¬(decide (y<0))=true:=by simpa using a1
   simp only [if_neg bG]
   rw [if_pos (by omega),if_pos (by omega)]
 rcases ts with ts|ts
 ·subst ts
  have EU:V (w.drop j)=V (u.drop j) % W:=by rw [u9];grind
  have a1:y=0:=PD (W:=W) ng EJ sk (by rw [EU];exact nC) (by rw [EU];exact o7) (Int.le_of_lt K1)
  subst a1
  refine ⟨w,?_,Pb EG EH,R8,EI,by omega,lR,n0⟩
  rw [pre]
  rfl
 ·have EU:V (w.drop j)=V (u.drop j) % W-W:=by rw [u9,← ts];grind
  have a1:y<0:=by
   apply Int.not_le.mp
   intro h
   have:0≤B (n+2)*y:=Int.mul_nonneg (by omega) h
   omega
  obtain ⟨lW,bL,nx,aft,K2,K3,Rm,Qc⟩:=abq (v:=iE.take (n+2)) (row:=w) (bT:=j) (mK:=u.length-j) (y:=y) bj (by rw [pr];exact EG) (by omega) (by omega) (by omega) (by rw [pr];exact EH) oQ BS
  rw [pr] at K2 K3 Qc
  rw [hW] at Rm
  have R9:V bL=V u-V (u.drop j) / W*B j*W:=by rw [Rm,EI,← ts];grind
  obtain ⟨acy,afu,acz,acA,acB⟩:=R5 (c:=V (u.drop j) / W*W) (by omega) B0 K2 K3 (fun i aq=>by rw [Qc i aq,Kq i aq]) h0 (by rw [R9];grind)
  have Sa:V (bL.drop j)=V (u.drop j) % W:=by rw [acy];grind
  have nE:lW=0:=PD (W:=W) acz acA acB (by rw [Sa];exact nC) (by rw [Sa];exact o7) (Int.le_of_lt K1)
  subst nE
  refine ⟨bL,?_,Pb K2 K3,by omega,R9,by omega,lR,n0⟩
  rw [pre,if_pos (by simpa using a1),nx]
  simp only [Option.bind_eq_bind,Option.bind_some]
  rw [cx (by omega) (by omega),show g-1=V (u.drop j) / W by omega]
theorem Zq {ad iE u:List Int}{n m:Nat}{v1 W:Int}(a5:2≤n)(LP:n≤iE.length)(bj:cu (iE.take n))(hW:V (iE.take n)=W)(sq:iE[n-1]? = some v1)(K0:1≤v1)(hu:cu u)(va:u.length≤5000000)(hm:m+n=u.length)(dz:V (u.drop m)<W):
 ∃r,Jp u.length n n ad iE ((m:Int)-1) u (List.replicate m 0)=some r∧cu r.1∧r.1.length=u.length∧V r.1<W∧cu r.2∧r.2.length=m∧V u=V r.2*W+V r.1:=by
 refine jt (eK:=fun w:Int×List Int×List Int=> ∃(k:Nat) (q:List Int),w.1=(k:Int)-1∧k≤m∧cu w.2.1∧w.2.1.length=u.length∧w.2.2=List.replicate k 0++q∧q.length+k=m∧cu q∧V (w.2.1.drop k)<W∧V u=V w.2.1+B k*V q*W) (m:=fun w:Int×List Int×List Int=>(w.1+1).toNat) _ ?_ _ ⟨m,[],rfl,by omega,hu,rfl,by simp,by simp,cu.nil,dz,by simp [V]⟩
 rintro ⟨ael,pD,al⟩ ⟨k,q,h1,ba,n2,hlen,ae,bc,pA,K4,hV⟩
 simp only at h1 n2 hlen ae K4 hV ⊢
 subst h1 ae
 cases k with
 | zero =>
  refine .inr ⟨(pD,q),by simp [tV],n2,hlen,by simpa using K4,pA,by simpa using bc,?_⟩
  rw [hV]
  simp [B]
  omega
 | succ k =>
  obtain ⟨af1,he,s1,s2,vj,aen,aeo,aep⟩:=Zp (ad:=ad) (iE:=iE) (u:=pD) (al:=List.replicate (k+1) 0++q) (j:=k) a5 LP bj hW sq K0 n2 (by omega) (by omega) K4 (by simp;omega)
  rw [hlen] at he
  rw [show ((k+1:Nat):Int)-1=k by omega,he]
  refine .inl ⟨_,rfl,⟨k,V (pD.drop k) / W::q,rfl,by omega,s1,s2.trans hlen,Ke _ _ _,by simp;omega,cu.cons ⟨aeo,aep⟩ pA,aen,?_⟩,by simp only;omega⟩
  simp only
  rw [hV,vj,k5,l5]
  grind
theorem aak {a:List Int}(h:a.length≤900000):Ap a=some a:=by
 unfold Ap
 rw [if_pos (by omega)]
theorem YJ {a b q s:Int}(h:a=q*b+s)(h0:0≤s)(h1:s<b):a / b=q∧a % b=s:=by
 subst h
 constructor
 ·rw [Int.add_comm,Int.add_mul_ediv_right _ _ (by omega),Int.ediv_eq_zero_of_lt h0 h1]
  omega
 ·rw [Int.add_comm,Int.add_mul_emod_self_right]
  exact Int.emod_eq_of_lt h0 h1
theorem aaT {a b:List Int}(bE:fI a)(aS:fI b)(lf:b≠[])(a5:a.length≤900000)(hm:b.length≤900000):xq a b=some (L (V a / V b),L (V a % V b)):=by
 have jD:=s4 aS lf
 have Eh:=mD bE.1
 unfold xq
 simp only [f6]
 rw [OK bE aS (by omega)]
 simp only [Option.bind_eq_bind,Option.bind_some]
 by_cases bf:V a<V b
 ·rw [if_pos (by simpa using sV.2 bf),aak a5,Int.ediv_eq_zero_of_lt Eh bf,Int.emod_eq_of_lt Eh bf,qB,Ew bE]
  rfl
 ·rw [if_neg (fun h=>bf (sV.1 (by simpa using h)))]
  obtain ⟨k,d,ba,bG,sm,ED,yB⟩:=DU aS lf
  by_cases h1:b.length=1
  ·have sl:k=0:=by omega
   subst sl
   have LL:V b=d:=by simpa using yB
   rw [if_pos (by simp [h1]),if_pos (by omega),bG]
   simp only [Option.bind_some]
   have o7:=Int.emod_nonneg (V a) (b:=d) (by omega)
   have BV:=Int.emod_lt_of_pos (V a) sm
   rw [N1 bE.1 ⟨sm,ED⟩ (by omega)]
   simp only [Option.bind_some]
   rw [AV o7 (by omega),JD o7 (by omega),LL]
   rfl
  ·have hw:U ((b.length:Int)-1)=(k:Int):=by rw [cx (by omega) (by omega)];omega
   have e1:U (d+1)=d+1:=cx (by omega) (by omega)
   have yC:1≤1000000000 / (d+1):=by
    apply (Int.le_ediv_iff_mul_le (by omega)).2
    omega
   have B2:1000000000 / (d+1)<1000000000:=by
    apply Int.ediv_lt_of_lt_mul (by omega)
    omega
   have adH:1000000000 / (d+1)*(d+1)≤1000000000:=Int.ediv_mul_le _ (by omega)
   have aC:U ((1000000000:Int).tdiv (d+1))=1000000000 / (d+1):=by rw [m1 (by omega),cx (by omega) (by omega)]
   rw [if_neg (by simp;omega),hw,if_pos (by omega),Int.toNat_natCast,bG]
   simp only [Option.bind_some,e1,aC]
   generalize 1000000000 / (d+1)=f at *
   rw [if_pos (by omega)]
   have jJ:cu [f]:=cu.cons (by omega) cu.nil
   have adI:V [f]=f:=by simp [V]
   have adJ:a≠[]:=by
    intro h
    subst h
    simp [V] at bf
    omega
   obtain ⟨lY,vt,adK,af2,adL,EK,af3⟩:=OM bE.1 jJ adJ (by simp) (by omega) (by simp)
   obtain ⟨Cg,iE,adM,af4,adN,LR,af5⟩:=OM aS.1 jJ lf (by simp) (by omega) (by simp)
   rw [adI] at EK LR
   rw [adK]
   simp only [Option.bind_some]
   simp only [List.length_singleton] at adL adN
   have af6:=ow k
   have adO:V b*f<B b.length:=by
    have o:=(rc aS.1 (k:=k) (by omega)).2
    rw [yB] at o
    have ae:V b*f≤(B k*(d+1)-1)*f:=Int.mul_le_mul_of_nonneg_right (by omega) (by omega)
    have av:(B k*(d+1)-1)*f=B k*(f*(d+1))-f:=by grind
    have aA:B k*(f*(d+1))≤B k*1000000000:=Int.mul_le_mul_of_nonneg_left adH (by omega)
    rw [ba,l5]
    omega
   have af7:V b≤V b*f:=by
    have:V b*1≤V b*f:=Int.mul_le_mul_of_nonneg_left yC (by omega)
    omega
   have af8:V a≤V a*f:=by
    have:V a*1≤V a*f:=Int.mul_le_mul_of_nonneg_left yC (by omega)
    omega
   have LS:0≤V b*f:=by omega
   have Sb:0≤V a*f:=by omega
   have Sc:Cg=b.length:=by
    have o:(iE.take Cg).length=Cg:=by simp;omega
    rw [LR] at o
    have ae:=(i4 LS (k:=b.length)).2 adO
    have av:=D9 aS lf
    have aA : ¬(L (V b*f)).length≤b.length-1:=fun h=>by
     have:=(i4 LS).1 h
     omega
    omega
   have adP:(L (V a*f)).length=lY:=by rw [← EK];simp;omega
   have Rn:=m9 (g9 (V a*f))
   rw [ei Sb,adP] at Rn
   have afv:a.length≤lY:=bE.len.2 (by omega)
   have af9:b.length≤a.length:=Nat.le_of_not_lt fun h=>by
    have:=DG bE aS h
    omega
   rw [if_pos (by omega),if_pos (by simp;omega),adM]
   simp only [Option.bind_some]
   have va:(vt.take lY++[0]).length=lY+1:=by simp;omega
   have adQ:C8 a Cg [f] iE (vt.take lY++[0])=some (vt.take lY++[0]):=by
    unfold C8
    rw [iter]
    unfold CI
    simp only [f6,va]
    rw [if_neg (by simp;omega)]
    rfl
   rw [adQ]
   simp only [Option.bind_some,va]
   have mb:U (((lY+1:Nat):Int)-((Cg:Nat):Int))=((lY+1-b.length:Nat):Int):=by rw [cx (by omega) (by omega)];omega
   rw [mb,if_pos (by omega),p4 (by omega),Int.toNat_natCast]
   have Q1:cu (vt.take lY++[0]):=by
    rw [EK]
    exact (g9 _).append (cu.cons (by omega) cu.nil)
   have Sd:V (vt.take lY++[0])=V a*f:=by
    rw [uw,EK,ei Sb]
    simp [V]
   have Kr:iE.take b.length=L (V b*f):=by rw [← Sc];exact LR
   have adR:V (iE.take b.length)=V b*f:=by rw [Kr,ei LS]
   obtain ⟨ea,aeq,oL,p5,afw,afx,afy⟩:=DU (ji (V b*f)) (fun h=>by have:=s5.1 h;omega)
   rw [← Kr] at oL p5
   have pr:(iE.take b.length).length=b.length:=by simp;omega
   have BE:iE[b.length-1]? = some aeq:=by
    rw [List.getElem?_take] at p5
    rw [show b.length-1=ea by omega]
    split at p5
    ·exact p5
    ·simp at p5
   have acC:V ((vt.take lY++[0]).drop (lY+1-b.length))<V b*f:=by
    have o:=(rc Q1 (k:=lY+1-b.length) (by omega)).1
    rw [Sd] at o
    have ae:=D9 aS lf
    have av:B lY=B (lY+1-b.length)*B (b.length-1):=by rw [← AQ];congr 1;omega
    rw [av] at Rn
    have aA:B (lY+1-b.length)*V ((vt.take lY++[0]).drop (lY+1-b.length))<B (lY+1-b.length)*B (b.length-1):=by omega
    have:=Int.lt_of_mul_lt_mul_left aA (by have:=ow (lY+1-b.length);omega)
    omega
   obtain ⟨r,ar,r1,b5,bk,bi,aT,cf⟩:=Zq (ad:=[f]) (m:=lY+1-b.length) (by omega) (by omega) (by rw [Kr];exact g9 _) adR BE (by omega) Q1 (by omega) (by omega) acC
   rw [va] at ar b5
   rw [Sc,ar]
   simp only [Option.bind_some]
   rw [if_pos (by omega),List.drop_zero,List.take_of_length_le (by omega),xF r1 (by omega)]
   simp only [Option.bind_some]
   have BU:=mD r1
   rw [Sd] at cf
   have bV:V r.1=(V a-V r.2*V b)*f:=by grind
   have adS:0≤V a-V r.2*V b:=by
    apply Int.not_lt.mp
    intro h
    have:(V a-V r.2*V b)*f≤(-1)*f:=Int.mul_le_mul_of_nonneg_right (by omega) (by omega)
    omega
   have u9:V a-V r.2*V b<V b:=by
    apply Int.lt_of_mul_lt_mul_right (a:=f) _ (by omega)
    omega
   obtain ⟨q1,aY⟩:=YJ (a:=V a) (b:=V b) (q:=V r.2) (s:=V a-V r.2*V b) (by omega) adS u9
   rw [if_pos (by simp)]
   simp only [List.getElem?_cons_zero,Option.bind_some]
   have LU:(L (V r.1)).length≤lY+1:=(i4 BU).2 (by have:=m9 r1;rwa [b5] at this)
   rw [N1 (g9 _) ⟨by omega,B2⟩ (by omega),ei BU]
   simp only [Option.bind_some]
   rw [xF bi (by omega)]
   simp only [Option.bind_some]
   rw [q1,aY,bV,Int.mul_ediv_cancel _ (by omega)]
def gW (n:Int):bp:=⟨decide (n<0),L n.natAbs⟩
def ed (neg:Bool)(a:Int):Int:=if neg then -a else a
def mk (p:Int×Int):aM:=⟨gW p.1,L p.2⟩
def LV:aM:=⟨⟨false,[]⟩,[]⟩
def enc:Option (Int×Int)→aM
 | none=>LV
 | some p=>mk p
structure Fr (p:Int×Int):Prop where
 pos:0<p.2
 Se:Int.gcd p.1 p.2=1
 num:(p.1.natAbs:Int)<B 24
 den:p.2<B 24
theorem PE {n:Int}:(gW n).cC=L n.natAbs:=rfl
theorem PF {n:Int}:(gW n).cO=decide (n<0):=rfl
theorem Pc {n:Int}(h:0≤n):decide ((0:Int)<((L n).length:Nat))=decide (0<n):=by
 apply decide_eq_decide.2
 by_cases h1:0<n
 ·have:(L n)≠[]:=fun o=>by have:=s5.1 o;omega
  have:=List.length_pos_iff.mpr this
  omega
 ·have:n=0:=by omega
  subst this
  simp [qB]
theorem K5 {n:Int}(h:0≤n):(((L n).length:Nat):Int)=0↔n=0:=by
 constructor
 ·intro h1
  have:L n=[]:=List.eq_nil_of_length_eq_zero (by omega)
  have:=s5.1 this
  omega
 ·rintro rfl
  simp [qB]
theorem Ks {neg:Bool}{a:Int}(h:0≤a):((ed neg a).natAbs:Int)=a:=by
 unfold ed
 cases neg<;>simp<;>omega
theorem Qd {neg:Bool}{a:Int}(h:0≤a):(⟨neg && decide (0<a),L a⟩:bp)=gW (ed neg a):=by
 unfold gW
 rw [Ks h]
 congr 1
 unfold ed
 cases neg
 ·simp;omega
 ·simp
theorem abr {a:Int}(h:0≤a)(qe:a<B 60):xf (L a)=some (L a):=by
 have aV:=(i4 h).2 qe
 unfold xf
 rw [rb (g9 _) (by omega),ei h]
 simp only [Option.bind_eq_bind,Option.bind_some,f6]
 rw [if_neg (by simp;omega)]
theorem pS {neg:Bool}{a:Int}(h:0≤a)(qe:a<B 60):hP neg (L a)=some (gW (ed neg a)):=by
 have aV:=(i4 h).2 qe
 unfold hP
 rw [abr h qe]
 simp only [Option.bind_eq_bind,Option.bind_some,f6,List.nil_append]
 have bf:(L a).length*8≤140737488355328:=by omega
 rw [← Qd h,← Pc h]
 cases neg<;>simp [bf]
theorem rQ {neg:Bool}{a:Int}(h:0≤a):m3 neg (L a)=some (gW (ed neg a)):=by
 unfold m3
 rw [← Qd h,f6,Pc h]
 cases neg<;>simp
theorem QF {a b:Int}:ed (!(decide (a<0) == decide (b<0))) ((a.natAbs:Int)*(b.natAbs:Int))=a*b:=by
 unfold ed
 by_cases bE:a<0
 ·have e1:(a.natAbs:Int) = -a:=by omega
  by_cases aS:b<0
  ·have aC:(b.natAbs:Int) = -b:=by omega
   rw [e1,aC]
   simp [bE,aS,Int.neg_mul,Int.mul_neg]
  ·have aC:(b.natAbs:Int)=b:=by omega
   rw [e1,aC]
   simp [bE,aS,Int.neg_mul,Int.mul_neg]
 ·have e1:(a.natAbs:Int)=a:=by omega
  by_cases aS:b<0
  ·have aC:(b.natAbs:Int) = -b:=by omega
   rw [e1,aC]
   simp [bE,aS,Int.neg_mul,Int.mul_neg]
  ·have aC:(b.natAbs:Int)=b:=by omega
   rw [e1,aC]
   simp [bE,aS,Int.neg_mul,Int.mul_neg]
theorem Aq {a b:Int}:ed (decide (a<0)) ((a.natAbs:Int)*b)=a*b:=by
 unfold ed
 by_cases bE:a<0
 ·have e1:(a.natAbs:Int) = -a:=by omega
  rw [e1]
  simp [bE,Int.neg_mul,Int.mul_neg]
 ·have e1:(a.natAbs:Int)=a:=by omega
  rw [e1]
  simp [bE,Int.neg_mul,Int.mul_neg]
theorem PG {a c:Int}:kV (-c) (-a)=kV a c:=by
 unfold kV
 by_cases h:a<c
 ·have : -c < -a:=by omega
  simp [h,this]
 ·by_cases o:c<a
  ·have ae : ¬ -c < -a:=by omega
   have av : -a < -c:=by omega
   simp [h,o,ae,av]
  ·have ae : ¬ -c < -a:=by omega
   have av : ¬ -a < -c:=by omega
   simp [h,o,ae,av]
theorem Zr {a c:Int}(bE:(L a.natAbs).length≤5000000)(bf:(L c.natAbs).length≤5000000):zV (gW a) (gW c)=some (kV a c):=by
 unfold zV
 simp only [PF,PE,decide_eq_true_eq]
 by_cases h1:a<0
 ·by_cases o:c<0
  ·rw [if_pos h1,if_pos o,rY (ji _) (ji _) bf,ei (by omega),ei (by omega),show (c.natAbs:Int) = -c by omega,show (a.natAbs:Int) = -a by omega,PG]
   rfl
  ·rw [if_pos h1,if_neg o]
   unfold kV
   rw [if_pos (by omega)]
 ·by_cases o:c<0
  ·rw [if_neg h1,if_pos o]
   unfold kV
   rw [if_neg (by omega),if_pos (by omega)]
  ·rw [if_neg h1,if_neg o,rY (ji _) (ji _) bE,ei (by omega),ei (by omega)]
   show some (kV _ _)=_
   congr 2<;>omega
theorem Wi {a c:Int}(bE:(L a.natAbs).length≤5000000)(bf:(L c.natAbs).length≤5000000):rH (gW a) (gW c)=some (kV a c):=by
 have bV:rH (gW a) (gW c)=if (decide (a<0) == decide (c<0))=true then (if decide (a<0)=true then (ql (L c.natAbs) (L a.natAbs)).bind (fun r=>some r) else (ql (L a.natAbs) (L c.natAbs)).bind (fun r=>some r)) else if decide (a<0)=true then some (-1) else some 1:=rfl
 rw [bV,XP]
 by_cases h1:a<0
 ·by_cases o:c<0
  ·rw [if_pos (by simp [h1,o]),if_pos (by simpa using h1),rY (ji _) (ji _) bf,ei (by omega),ei (by omega),show (c.natAbs:Int) = -c by omega,show (a.natAbs:Int) = -a by omega,PG]
   rfl
  ·rw [if_neg (by simp [h1,o]),if_pos (by simpa using h1)]
   unfold kV
   rw [if_pos (by omega)]
 ·by_cases o:c<0
  ·rw [if_neg (by simp [h1,o]),if_neg (by simpa using h1)]
   unfold kV
   rw [if_neg (by omega),if_pos (by omega)]
  ·rw [if_pos (by simp [h1,o]),if_neg (by simpa using h1),rY (ji _) (ji _) bE,ei (by omega),ei (by omega),show (c.natAbs:Int)=c by omega,show (a.natAbs:Int)=a by omega]
   rfl
def fits (x:Int):Prop:=x<B 24
noncomputable instance (x:Int):Decidable (fits x):=Classical.propDecidable _
noncomputable def low (n d:Int):Option (Int×Int) :=
 if fits ((n / (Int.gcd n d:Int)).natAbs:Int)∧fits (d / (Int.gcd n d:Int)) then some (n / (Int.gcd n d:Int),d / (Int.gcd n d:Int)) else none
theorem Kf {n d:Int}(h:0<d):(0:Int)<Int.gcd n d:=by
 have:Int.gcd n d≠0:=by
  rw [Ne,Int.gcd_eq_zero_iff]
  omega
 omega
theorem aaU {n d:Int}(h:0<d): ∃m e,n / (Int.gcd n d:Int)=m∧d / (Int.gcd n d:Int)=e∧n=Int.gcd n d*m∧d=Int.gcd n d*e∧0<e∧(n.natAbs:Int) / (Int.gcd n d:Int)=m.natAbs:=by
 have dI:=Kf (n:=n) h
 obtain ⟨m,hm⟩:=Int.gcd_dvd_left (a:=n) (b:=d)
 obtain ⟨e,he⟩:=Int.gcd_dvd_right (a:=n) (b:=d)
 refine ⟨m,e,?_,?_,hm,he,?_,?_⟩
 ·conv=>lhs;lhs;rw [hm]
  exact Int.mul_ediv_cancel_left _ (by omega)
 ·conv=>lhs;lhs;rw [he]
  exact Int.mul_ediv_cancel_left _ (by omega)
 ·apply Int.not_le.mp
  intro h1
  have:(Int.gcd n d:Int)*e≤Int.gcd n d*0:=Int.mul_le_mul_of_nonneg_left h1 (by omega)
  omega
 ·have e1:(n.natAbs:Int)=Int.gcd n d*m.natAbs:=by
   conv=>lhs;rw [hm]
   rw [Int.natAbs_mul]
   simp
  rw [e1]
  exact Int.mul_ediv_cancel_left _ (by omega)
theorem AE {a:Int}(h:0≤a):qn (L a)=some (decide (a=1)):=by
 unfold qn
 simp only [f6]
 by_cases h1:(L a).length=1
 ·have o:=(i4 (k:=1) h).1 (by omega)
  have ae:0<a:=by
   apply Int.not_le.mp
   intro av
   rw [Q0 av] at h1
   simp at h1
  have aA:a<1000000000:=by simpa [B] using o
  rw [Kc ⟨ae,aA⟩]
  by_cases a2:a=1<;>simp [a2]
 ·rw [if_neg (by simp;omega)]
  have:a≠1:=by
   rintro rfl
   rw [Kc (by omega)] at h1
   simp at h1
  simp [this]
theorem Qe {n d:Int}(h:0≤d):Int.gcd (n.natAbs:Int) d=Int.gcd n d:=by
 simp [Int.gcd]
theorem Kt:B 24≤B 60:=qA (by omega)
theorem JN {neg:Bool}{m e:Int}(hm:0≤m)(he:0≤e):(if (decide ((24:Int)<((L m).length:Nat)))=true then some LV else if (decide ((24:Int)<((L e).length:Nat)))=true then some LV else hP neg (L m) >>= fun r=>if (([]:List Int)++L e).length*8≤140737488355328 then some (⟨r,([]:List Int)++L e⟩:aM) else none) =
 some (enc (if fits m∧fits e then some (ed neg m,e) else none)):=by
 by_cases h1:fits m
 ·have o:=(i4 hm).2 h1
  rw [if_neg (by simp;omega)]
  by_cases ae:fits e
  ·have av:=(i4 he).2 ae
   have:=Kt
   unfold fits at h1
   rw [if_neg (by simp;omega),pS hm (by omega),if_pos ⟨h1,ae⟩]
   simp only [Option.bind_eq_bind,Option.bind_some]
   rw [if_pos (by simp;omega)]
   rfl
  ·have av : ¬(L e).length≤24:=fun h=>ae ((i4 he).1 h)
   rw [if_pos (by simp;omega),if_neg (fun h=>ae h.2)]
   rfl
 ·have av : ¬(L m).length≤24:=fun h=>h1 ((i4 hm).1 h)
  rw [if_pos (by simp;omega),if_neg (fun h=>h1 h.1)]
  rfl
theorem abt {neg:Bool}{p m g:Int}(ai:0≤p)(dI:0<g)(hm:ed neg p=g*m):ed neg (m.natAbs:Int)=m:=by
 unfold ed at hm ⊢
 cases neg
 ·simp at hm ⊢
  have:0≤m:=by
   apply Int.not_lt.mp
   intro h1
   have:g*m≤g*(-1):=Int.mul_le_mul_of_nonneg_left (by omega) (by omega)
   omega
  omega
 ·simp at hm ⊢
  have:m≤0:=by
   apply Int.not_lt.mp
   intro h1
   have:g*1≤g*m:=Int.mul_le_mul_of_nonneg_left (by omega) (by omega)
   omega
  omega
theorem JO {neg:Bool}{p q:Int}(ai:0≤p)(bc:0<q)(Sf:(L p).length≤900000)(pA:(L q).length≤900000):nM neg (L p) (L q)=some (enc (low (ed neg p) q)):=by
 obtain ⟨m,e,h1,o,ae,av,aA,a2⟩:=aaU (n:=ed neg p) bc
 have pw:=abt ai (Kf (n:=ed neg p) bc) ae
 rw [Ks ai] at a2
 have dI:Int.gcd p q=Int.gcd (ed neg p) q:=by rw [← Qe (n:=ed neg p) (by omega),Ks ai]
 have aga:=Kf (n:=ed neg p) bc
 unfold nM
 rw [rb (g9 _) (by omega),ei ai]
 simp only [Option.bind_eq_bind,Option.bind_some]
 rw [rb (g9 _) (by omega),ei (by omega)]
 simp only [Option.bind_some,f6]
 have lR : ¬((((L q).length:Nat):Int) == 0)=true:=by
  simp only [beq_iff_eq]
  intro h
  have:=(K5 (n:=q) (by omega)).1 h
  omega
 rw [if_neg lR,AE (by omega)]
 simp only [Option.bind_some]
 have A8:low (ed neg p) q=if fits (m.natAbs:Int)∧fits e then some (ed neg (m.natAbs:Int),e) else none:=by
  unfold low
  rw [h1,o,pw]
 have Q2:Int.gcd (ed neg p) q=1→(m.natAbs:Int)=p∧e=q:=by
  intro hu
  rw [hu] at o a2
  simp at o a2
  omega
 by_cases n0:q=1
 ·have hu:Int.gcd (ed neg p) q=1:=by rw [n0];simp
  obtain ⟨ln,nH⟩:=Q2 hu
  rw [if_pos (by simpa using n0),A8,ln,nH]
  exact JN ai (by omega)
 ·rw [if_neg (by simpa using n0),QD (ji _) (ji _) Sf pA,ei ai,ei (by omega)]
  simp only [Option.bind_some]
  rw [AE (by omega)]
  simp only [Option.bind_some]
  by_cases hu:Int.gcd p q=1
  ·obtain ⟨ln,nH⟩:=Q2 (by omega)
   rw [if_pos (by simp;omega),A8,ln,nH]
   exact JN ai (by omega)
  ·rw [if_neg (by simp;omega)]
   have Sg:(L (Int.gcd p q)).length≤900000:=by
    have bd:(Int.gcd p q:Int)≤q:=by
     rw [dI]
     have:(Int.gcd (ed neg p) q:Int)*1≤Int.gcd (ed neg p) q*e:=Int.mul_le_mul_of_nonneg_left (by omega) (by omega)
     omega
    apply (i4 (by omega)).2
    have:=(i4 (n:=q) (by omega)).1 pA
    omega
   have Sh:L (Int.gcd p q)≠[]:=fun h=>by
    have:=s5.1 h
    omega
   rw [div_eq (ji _) (ji _) Sh Sf Sg,ei ai,ei (by omega)]
   simp only [Option.bind_some]
   rw [div_eq (ji _) (ji _) Sh pA Sg,ei (by omega),ei (by omega)]
   simp only [Option.bind_some]
   rw [dI,a2,o,A8]
   exact JN (by omega) (by omega)
theorem Fr.tb {p:Int×Int}(h:Fr p):(L p.1.natAbs).length≤24:=(i4 (by omega)).2 h.num
theorem Fr.se {p:Int×Int}(h:Fr p):(L p.2).length≤24:=(i4 (by have:=h.pos;omega)).2 h.den
theorem abZ (m n:Nat):B m*B n=B (m+n):=(AQ m n).symm
theorem sW {x y:Int}{m n:Nat}(R:0≤x)(a1:0≤y)(h1:x<B m)(o:y<B n):(L (x*y)).length≤m+n:=by
 apply (i4 (Int.mul_nonneg R a1)).2
 rw [← abZ]
 have ae:x*y≤(B m-1)*(B n-1):=Int.mul_le_mul (by omega) (by omega) a1 (by omega)
 have av:(B m-1)*(B n-1)=B m*B n-B m-B n+1:=by grind
 have aA:=ow m
 have a2:=ow n
 omega
theorem YK (r s:aM){a b:Int}(bE:0≤a)(aS:0<b)(h1:hL r.fp.cC s.fp.cC=some (L a))(o:hL r.hx s.hx=some (L b))(ae:(L a).length≤900000)(av:(L b).length≤900000):sK r s=some (enc (low (ed (!(r.fp.cO == s.fp.cO)) a) b)):=by
 unfold sK
 rw [h1]
 simp only [Option.bind_eq_bind,Option.bind_some]
 rw [o]
 simp only [Option.bind_some]
 rw [JO bE aS ae av]
 simp only [Option.bind_some]
theorem Zs {p q:Int×Int}(ai:Fr p)(bc:Fr q):sK (mk p) (mk q)=some (enc (low (p.1*q.1) (p.2*q.2))):=by
 have h1:=ai.tb
 have o:=ai.se
 have ae:=bc.tb
 have av:=bc.se
 have aA:=ai.pos
 have a2:=bc.pos
 have bd:=sW (x:=p.1.natAbs) (y:=q.1.natAbs) (by omega) (by omega) ai.num bc.num
 have bn:=sW (x:=p.2) (y:=q.2) (by omega) (by omega) ai.den bc.den
 have e1:hL (L p.1.natAbs) (L q.1.natAbs)=some (L ((p.1.natAbs:Int)*q.1.natAbs)):=by
  rw [mul_eq (g9 _) (g9 _) (by omega) (by omega),ei (by omega),ei (by omega)]
 have aC:hL (L p.2) (L q.2)=some (L (p.2*q.2)):=by
  rw [mul_eq (g9 _) (g9 _) (by omega) (by omega),ei (by omega),ei (by omega)]
 have:=YK (mk p) (mk q) (a:=(p.1.natAbs:Int)*q.1.natAbs) (b:=p.2*q.2) (Int.mul_nonneg (by omega) (by omega)) (Int.mul_pos aA a2) e1 aC (by omega) (by omega)
 rw [this]
 have bR:ed (!((mk p).fp.cO == (mk q).fp.cO)) ((p.1.natAbs:Int)*q.1.natAbs)=p.1*q.1:=QF
 rw [bR]
theorem Zt {a b:Int}(bE:(L a.natAbs).length≤900000)(aS:(L b.natAbs).length≤900000):pb (gW a) (gW b)=some (gW (a*b)):=by
 unfold pb
 simp only [PE,PF]
 rw [aae (g9 _) (g9 _) (by omega) (by omega),ei (by omega),ei (by omega)]
 simp only [Option.bind_eq_bind,Option.bind_some]
 rw [rQ (Int.mul_nonneg (by omega) (by omega)),QF]
 rfl
theorem aaV:(1000000000000000000000000000:Int)≤B 24:=by
 have h:B 3≤B 24:=qA (by omega)
 have ae:B 3=1000000000000000000000000000:=by decide
 omega
theorem aaW:(1000000000000000000000000000:Int)≤B 60:=by
 have:=Kt
 have:=aaV
 omega
theorem Ye {n:Int}(h:oH n):zw n=some (gW n):=by
 obtain ⟨h1,o⟩:=mC.1 h
 have aS:=aaW
 unfold zw
 by_cases hm:n = -9223372036854775808
 ·rw [if_pos (by simpa using hm)]
  have e:([854775808,223372036,9]:List Int)=L 9223372036854775808:=s8 ⟨by intro x R;simp at R;omega,by simp⟩ (by decide)
  rw [e,pS (by omega) (by omega)]
  subst hm
  rfl
 ·rw [if_neg (by simpa using hm)]
  by_cases a5:n<0
  ·rw [if_pos (by simpa using a5),cx (by omega) (by omega),xx (by omega) (by omega)]
   simp only [Option.bind_eq_bind,Option.bind_some]
   rw [pS (by omega) (by omega)]
   simp only [Option.bind_some]
   congr 2
   unfold ed
   simp
  ·rw [if_neg (by simpa using a5),xx (by omega) (by omega)]
   simp only [Option.bind_eq_bind,Option.bind_some]
   rw [pS (by omega) (by omega)]
   simp only [Option.bind_some]
   congr 2
theorem YL {n:Int}(h:oH n):oc n=some (gW n):=by
 obtain ⟨h1,o⟩:=mC.1 h
 unfold oc
 by_cases a5:n<0
 ·rw [if_pos (by simpa using a5),cx (x:=n+1) (by omega) (by omega),cx (x:=0-(n+1)) (by omega) (by omega),AV (x:=0-(n+1)) (by omega) (by omega),AV (by omega) (by omega),JD (by omega) (by omega)]
  simp only [Option.bind_eq_bind,Option.bind_some]
  rw [rQ (by omega)]
  simp only [Option.bind_some]
  congr 2
  unfold ed
  simp
  omega
 ·rw [if_neg (by simpa using a5),AV (by omega) (by omega),JD (by omega) (by omega)]
  simp only [Option.bind_eq_bind,Option.bind_some]
  rw [rQ (by omega)]
  simp only [Option.bind_some]
  congr 2
theorem Q3:L 1=[1]:=Kc (by omega)
theorem Xw {n:Int}(h:oH n):oU n=some (mk (n,1)):=by
 unfold oU
 rw [Ye h]
 simp only [Option.bind_eq_bind,Option.bind_some,mk,Q3]
theorem Zu {p q:Int×Int}(ai:Fr p)(bc:Fr q):ui (mk p) (mk q)=some (kV (p.1*q.2) (q.1*p.2)):=by
 have h1:=ai.tb
 have o:=ai.se
 have ae:=bc.tb
 have av:=bc.se
 have aA:=ai.pos
 have a2:=bc.pos
 have bd:=sW (x:=p.1.natAbs) (y:=q.2) (by omega) (by omega) ai.num bc.den
 have bn:=sW (x:=q.1.natAbs) (y:=p.2) (by omega) (by omega) bc.num ai.den
 have Ch:0≤(p.1.natAbs:Int)*q.2:=Int.mul_nonneg (by omega) (by omega)
 have SI:0≤(q.1.natAbs:Int)*p.2:=Int.mul_nonneg (by omega) (by omega)
 have oS:((p.1*q.2).natAbs:Int)=(p.1.natAbs:Int)*q.2:=by
  rw [Int.natAbs_mul,Int.natCast_mul]
  congr 1
  omega
 have k1:((q.1*p.2).natAbs:Int)=(q.1.natAbs:Int)*p.2:=by
  rw [Int.natAbs_mul,Int.natCast_mul]
  congr 1
  omega
 have e1:hL (mk p).fp.cC (mk q).hx=some (L ((p.1.natAbs:Int)*q.2)):=by
  show hL (L p.1.natAbs) (L q.2)=_
  rw [mul_eq (g9 _) (g9 _) (by omega) (by omega),ei (by omega),ei (by omega)]
 have aC:hL (mk q).fp.cC (mk p).hx=some (L ((q.1.natAbs:Int)*p.2)):=by
  show hL (L q.1.natAbs) (L p.2)=_
  rw [mul_eq (g9 _) (g9 _) (by omega) (by omega),ei (by omega),ei (by omega)]
 have bR:hP (mk p).fp.cO (L ((p.1.natAbs:Int)*q.2))=some (gW (p.1*q.2)):=by
  show hP (decide (p.1<0)) _=_
  rw [pS Ch ((i4 Ch).1 (by omega)),Aq]
 have c9:hP (mk q).fp.cO (L ((q.1.natAbs:Int)*p.2))=some (gW (q.1*p.2)):=by
  show hP (decide (q.1<0)) _=_
  rw [pS SI ((i4 SI).1 (by omega)),Aq]
 unfold ui
 rw [e1,Option.bind_eq_bind,Option.bind_some,bR,Option.bind_eq_bind,Option.bind_some,aC,Option.bind_eq_bind,Option.bind_some,c9,Option.bind_some,Zr (by rw [oS];omega) (by rw [k1];omega)]
 rfl
theorem Ku {a d:Int}(bG:0≤d):((a*d).natAbs:Int)=(a.natAbs:Int)*d:=by
 rw [Int.natAbs_mul,Int.natCast_mul]
 congr 1
 omega
theorem qt (n bT aq:Int):mB n bT aq=some (decide (bT≤n∧n≤aq)):=by
 unfold mB
 by_cases h:bT≤n<;>simp [h]
theorem Dq {α β:Type}{t:Nat→α→Option β}: ∀(l:List α) (k:Nat),(∀n x,l[n]? = some x→t (k+n) x=none)→scan t k l=none
 | [],_,_=>rfl
 | x::l,k,h=>by
  have h0:=h 0 x rfl
  simp only [Nat.add_zero] at h0
  simp only [scan,h0]
  exact Dq l (k+1) fun n y a1=>by rw [show k+1+n=k+(n+1) by omega];exact h (n+1) y (by simpa using a1)
theorem Yf (l:List Int)(h:l.length≤1048576):zZ l l=some true:=by
 have h1:Jc l l 0=some (.inl ()):=by
  have:=Dn (f:=fun w=>wN l l w) (t:=fun _ _=>none) (e:= .inl ()) l 0 (fun n x R=>by
   have a5:=fB R
   have hw:U ((n:Int)+1)=((n+1:Nat):Int):=by rw [cx (by omega) (by omega)];rfl
   simp only [wN,e6,Nat.zero_add,hw]
   simp [a5]) (by simp [wN,e6])
  rw [Dq l 0 (fun _ _ _=>rfl)] at this
  exact this
 simp [zZ,h1]
theorem XQ (j:b0):zQ j j=some true:=by simp [zQ]
theorem Xx (j:cc):zG j j=some true:=by simp [zG]
theorem Xy (l:List b0)(h:l.length≤1048576):zF l l=some true:=by
 have h1:IF l l 0=some (.inl ()):=by
  have:=Dn (f:=fun w=>wm l l w) (t:=fun _ _=>none) (e:= .inl ()) l 0 (fun n x R=>by
   have a5:=fB R
   have hw:U ((n:Int)+1)=((n+1:Nat):Int):=by rw [cx (by omega) (by omega)];rfl
   simp only [wm,e6,Nat.zero_add,hw]
   simp [a5,XQ]) (by simp [wm,e6])
  rw [Dq l 0 (fun _ _ _=>rfl)] at this
  exact this
 simp [zF,h1]
theorem Xl (l:List cc)(h:l.length≤1048576):zs l l=some true:=by
 have h1:Is l l 0=some (.inl ()):=by
  have:=Dn (f:=fun w=>we l l w) (t:=fun _ _=>none) (e:= .inl ()) l 0 (fun n x R=>by
   have a5:=fB R
   have hw:U ((n:Int)+1)=((n+1:Nat):Int):=by rw [cx (by omega) (by omega)];rfl
   simp only [we,e6,Nat.zero_add,hw]
   simp [a5,Xx]) (by simp [we,e6])
  rw [Dq l 0 (fun _ _ _=>rfl)] at this
  exact this
 simp [zs,h1]
theorem WI (s:cR)(h1:s.b3.length≤1048576)(o:s.bQ.length≤1048576):zc s s=some true:=by
 simp [zc,Xy _ h1,Xl _ o]
theorem XR (j:b0)(left:Int)(aI:j.k9.size≤maxLen)(h0:0≤left)(h1:left≤1048576): ∃r,zI j left=some r∧r≤left:=by
 have hm:j.k9.size<9223372036854775808:=by have:maxLen=9223372036854775807:=by decide
                                           omega
 have hw:U (left-j.k9.size)=left-j.k9.size:=cx (by omega) (by omega)
 unfold zI
 rw [hw]
 by_cases h:left-(j.k9.size:Int)<0
 ·exact ⟨-1,by simp [h],by omega⟩
 ·exact ⟨left-j.k9.size,by simp [h],by omega⟩
theorem NX (l:List b0)(left:Int)(aV:l.length≤maxLen)(aI:∀j∈l,j.k9.size≤maxLen)(h0:0≤left)(h1:left≤1048576):
 ∃r,zt l left=some r∧r≤left∧(0≤r→l.length≤1048576):=by
 have hm:maxLen=9223372036854775807:=by decide
 have hw:U (left-(l.length:Nat))=left-(l.length:Nat):=cx (by omega) (by omega)
 unfold zt
 simp only [e6,hw]
 by_cases h:left-(l.length:Int)<0
 ·exact ⟨-1,by simp [h],by omega,by omega⟩
 ·obtain ⟨r,r1,b5⟩:=jt (f:=fun w:Int×Int=>tI l w.1 w.2) (fun w=>0≤w.1∧w.1≤left∧0≤w.2∧w.2≤l.length) (fun w=>(l.length-w.2).toNat)
   (fun r=>match r with | .inl a=>a≤left | .inr _=>True) (fun w hw=>by
     obtain ⟨a,i⟩:=w
     simp only at hw
     obtain ⟨k2,sx,yK,agr⟩:=hw
     by_cases aq:i<l.length
     ·obtain ⟨x,R⟩ : ∃x,l[i.toNat]? = some x:=⟨_,List.getElem?_eq_getElem (by omega)⟩
      obtain ⟨r,s1,s2⟩:=XR x a (aI x (List.mem_of_getElem? R)) k2 (by omega)
      obtain ⟨a5,rfl⟩:=List.getElem?_eq_some_iff.1 R
      have BG:U (i+1)=i+1:=cx (by omega) (by omega)
      by_cases ar:r<0
      ·right
       exact ⟨.inr (),by simp [tI,e6,aq,yK,R,s1,ar],trivial⟩
      ·left
       refine ⟨(r,i+1),by simp [tI,e6,aq,yK,R,s1,ar,BG],?_,?_⟩
       ·simp only;omega
       ·simp only;omega
     ·right
      exact ⟨.inl a,by simp [tI,e6,aq],by simpa using sx⟩) (left-(l.length:Nat),0) (by simp only;omega)
  have yD:It l (left-(l.length:Nat)) 0=some r:=r1
  rw [yD]
  cases r with
  | inl a=>exact ⟨a,by simp [h],b5,by omega⟩
  | inr a=>exact ⟨-1,by simp [h],by omega,by omega⟩
theorem NP (l:List cc)(left:Int)(aV:l.length≤maxLen)(h0:0≤left)(h1:left≤1048576):
 ∃r,zl l left=some r∧r≤left∧(0≤r→l.length≤1048576):=by
 have hm:maxLen=9223372036854775807:=by decide
 have hw:U (left-(l.length:Nat))=left-(l.length:Nat):=cx (by omega) (by omega)
 unfold zl
 simp only [e6,hw]
 by_cases h:left-(l.length:Int)<0
 ·exact ⟨-1,by simp [h],by omega,by omega⟩
 ·exact ⟨left-(l.length:Nat),by simp [h],by omega,by omega⟩
theorem WJ (s:cR)(i0:kH s)(left:Int)(h0:0≤left)(h1:left≤1048576):
 ∃r,tW s left=some r∧(0≤r→s.b3.length≤1048576∧s.bQ.length≤1048576):=by
 obtain ⟨⟨gg,hj⟩,di,ff⟩:=i0
 obtain ⟨r,r1,b5,bk⟩:=NX s.b3 left gg (fun j aI=>(hj j aI).1) h0 h1
 unfold tW
 rw [r1]
 by_cases h:r<0
 ·exact ⟨-1,by simp [h],by omega⟩
 ·obtain ⟨q,q1,aY,bJ⟩:=NP s.bQ r di (by omega) (by omega)
  by_cases bc:q<0
  ·exact ⟨-1,by simp [h,q1,bc],by omega⟩
  ·exact ⟨q,by simp [h,q1,bc],fun _=>⟨bk (by omega),bJ (by omega)⟩⟩
theorem sQ:maxLen=9223372036854775807:=by decide
theorem YM (n:Int):xb n=mB n (-50) 50:=by
 rw [qt]
 unfold xb
 by_cases h : -50≤n<;>simp [h]
theorem Yg (c:Int):zD c=some (decide (97≤c∧c≤122)):=by
 unfold zD
 by_cases h:97≤c<;>simp [h]
theorem YN (c:Int):zL c=some (decide (48≤c∧c≤57)):=by
 unfold zL
 by_cases h:48≤c<;>simp [h]
theorem Yh (s:ByteArray)(i:Int):y6 s s.size i=sC s i:=by
 unfold y6 sC
 generalize ((s.data.toList.getD i.toNat 0).toNat:Int)=c
 simp only [Yg,YN,Option.bind_eq_bind,Option.bind_some]
 by_cases h1:i<(s.size:Int)<;>by_cases h0:0≤i<;>by_cases a:(97:Int)≤c<;>by_cases b:c≤122<;>by_cases d:i=0<;>by_cases e:c<48<;>by_cases f:57<c <;>
  simp [h1,h0,a,b,d,e,f,Int.not_lt.1,Int.not_le]<;>omega
theorem Zv (s:ByteArray):zW s=sI s:=by
 have h:C0 s s.size 0=zn s 0:=by
  unfold C0 zn
  congr 1
  funext w
  exact Yh s w
 unfold zW sI
 rw [h]
 congr 1
 funext r
 cases r with
 | inr a=>rfl
 | inl a =>
  simp only [qt,Option.bind_eq_bind,Option.bind_some]
  by_cases h0:s.size=0
  ·have:s=⟨#[]⟩:=by
    cases s with
    | mk d=>simp only [ByteArray.size] at h0;rw [Array.size_eq_zero_iff] at h0;rw [h0]
   subst this
   have e0:(ByteArray.mk #[]).size=0:=rfl
   simp [e0]
  ·have dr:s.toList≠(⟨#[]⟩:ByteArray).toList:=by
    intro e
    have aV : ∀x:ByteArray,x.toList.length=x.size:=by intro x;rw [ByteArray.toList_eq];rfl
    have:=aV s
    rw [e,aV] at this
    exact h0 this.symm
   simp only [beq_iff_eq,dr,Bool.not_eq_true',beq_eq_false_iff_ne,ne_eq,not_false_eq_true,if_true]
   congr 1
   apply decide_eq_decide.2
   omega
theorem Yi (s:ByteArray)(bV:s.size≤maxLen): ∃r,sI s=some r:=by
 have hm:=sQ
 obtain ⟨r,h,-⟩:=jt (f:=fun w=>sC s w) (fun i=>0≤i∧i≤s.size) (fun i=>(s.size-i).toNat) (fun _=>True) (fun i aq=>by
  obtain ⟨h0,h1⟩:=aq
  by_cases o:i<(s.size:Int)
  ·have hw:U (i+1)=i+1:=cx (by omega) (by omega)
   unfold sC
   generalize ((s.data.toList.getD i.toNat 0).toNat:Int)=c
   have ab0:0≤i+1∧i+1≤(s.size:Int):=by omega
   have mb:((s.size:Int)-(i+1)).toNat<((s.size:Int)-i).toNat:=by omega
   have key : ∀x:Option (Int⊕(Unit⊕Unit)),(x=some (.inl (i+1))∨x=some (.inr (.inr ())))→(∃dC,x=some (.inl dC)∧(0≤dC∧dC≤(s.size:Int))∧((s.size:Int)-dC).toNat<((s.size:Int)-i).toNat)∨ ∃r,x=some (.inr r)∧True:=by
    intro x R
    rcases R with R|R
    ·exact .inl ⟨i+1,R,ab0,mb⟩
    ·exact .inr ⟨_,R,trivial⟩
   apply key
   simp only [o,h0,hw,decide_true,if_true,and_self]
   by_cases a:(97:Int)≤c<;>by_cases b:c≤122<;>by_cases d:i=0<;>by_cases e:c<48<;>by_cases f:57<c<;>simp [a,b,d,e,f]
  ·exact .inr ⟨.inl (),by simp [sC,o],trivial⟩) 0 (by omega)
 have cD:zn s 0=some r:=h
 unfold sI
 rw [cD]
 cases r with
 | inl a=>exact ⟨_,by simp [qt];rfl⟩
 | inr a=>exact ⟨_,rfl⟩
end Go.Proofs.YtamedijmgkdlgacGreat
namespace Go.Proofs.YtamedijmgkdlgacGreat
set_option linter.unusedVariables false
set_option linter.unusedSimpArgs false
open Go Go.VL
theorem YO (j:b0):zM j=pc j:=by
 unfold zM pc
 simp only [Zv,YM]
theorem N3 (j:b0)(h:j.k9.size≤maxLen): ∃r,pc j=some r:=by
 obtain ⟨r,ar⟩:=Yi _ h
 unfold pc
 simp only [ar,qt,Option.bind_eq_bind,Option.bind_some]
 repeat' split
 all_goals exact ⟨_,rfl⟩
theorem Xz (s:cR)(n:ByteArray):zj s n=tY s n:=by
 have h:Cl s.b3 n (len_ b7 s.b3) 0=wO n s.b3 (len_ b7 s.b3) 0:=by
  unfold Cl wO
  congr 1
 unfold zj tY Cp
 rw [h]
 cases wO n s.b3 (len_ b7 s.b3) 0 with
 | none=>rfl
 | some r=>cases r<;>rfl
theorem NE (s:cR)(n:ByteArray)(h:s.b3.length≤maxLen): ∃r,tY s n=some r:=by
 have hm:=sQ
 obtain ⟨r,h1,-⟩:=jt (f:=fun w=>vT n s.b3 (len_ b7 s.b3) w) (fun i=>0≤i∧i≤s.b3.length) (fun i=>(s.b3.length-i).toNat) (fun _=>True) (fun i aq=>by
  obtain ⟨h0,h1⟩:=aq
  by_cases o:i<(s.b3.length:Int)
  ·have hw:U (i+1)=i+1:=cx (by omega) (by omega)
   obtain ⟨x,R⟩ : ∃x,s.b3[i.toNat]? = some x:=⟨_,List.getElem?_eq_getElem (by omega)⟩
   unfold vT
   simp only [e6,o,h0,hw,R,decide_true,if_true,and_self,Option.bind_eq_bind,Option.bind_some]
   by_cases e:(x.k9.toList == n.toList)=true
   ·exact .inr ⟨_,by rw [if_pos e],trivial⟩
   ·exact .inl ⟨i+1,by rw [if_neg e],by omega,by omega⟩
  ·exact .inr ⟨.inl (),by simp [vT,e6,o],trivial⟩) 0 (by omega)
 have cD:wO n s.b3 (len_ b7 s.b3) 0=some r:=h1
 unfold tY
 rw [cD]
 cases r with
 | inl a=>exact ⟨_,rfl⟩
 | inr a=>exact ⟨_,rfl⟩
theorem NF (s:cR):CD s.b3 (len_ b7 s.b3) s.bQ 0=tO s.b3 (len_ b7 s.b3) s.bQ 0:=by
 unfold CD tO
 congr 1
 funext w
 unfold Cu q7
 simp only [YO,Xz]
theorem Nr (s:cR)(i0:kH s): ∃r,tO s.b3 (len_ b7 s.b3) s.bQ 0=some r:=by
 have hm:=sQ
 obtain ⟨⟨gg,hj⟩,-⟩:=i0
 obtain ⟨r,h1,-⟩:=jt (f:=fun w=>q7 s.b3 (len_ b7 s.b3) s.bQ w) (fun i=>0≤i∧i≤s.b3.length) (fun i=>(s.b3.length-i).toNat) (fun _=>True) (fun i aq=>by
  obtain ⟨h0,h1⟩:=aq
  by_cases o:i<(s.b3.length:Int)
  ·have hw:U (i+1)=i+1:=cx (by omega) (by omega)
   obtain ⟨x,R⟩ : ∃x,s.b3[i.toNat]? = some x:=⟨_,List.getElem?_eq_getElem (by omega)⟩
   obtain ⟨p,ai⟩:=N3 x (hj x (List.mem_of_getElem? R)).1
   obtain ⟨q,bc⟩:=NE ⟨s.b3,s.bQ⟩ x.k9 gg
   unfold q7
   simp only [e6,o,h0,hw,R,ai,bc,decide_true,if_true,and_self,Option.bind_eq_bind,Option.bind_some]
   by_cases e:p=true
   ·rw [if_pos e]
    by_cases aC:(q != i)=true
    ·exact .inr ⟨_,by rw [if_pos aC],trivial⟩
    ·exact .inl ⟨i+1,by rw [if_neg aC],by omega,by omega⟩
   ·exact .inr ⟨_,by rw [if_neg e],trivial⟩
  ·exact .inr ⟨.inl (),by simp [q7,e6,o],trivial⟩) 0 (by omega)
 exact ⟨r,h1⟩
def rl (hl:List b0)(m:cc):Bool :=
 decide (0≤m.dJ∧m.dJ<hl.length∧0≤m.ej∧m.ej<hl.length∧1≤m.i5∧m.i5≤3) &&
 match hl[m.dJ.toNat]?,hl[m.ej.toNat]? with
 | some a,some b=> !(a.j5 == b.j5 && a.j6 == b.j6) && !(a.k6 && b.k6)
 | _,_=>false
theorem Jx (s:cR)(m:cc):yV s m=some (rl s.b3 m):=by
 unfold yV rl
 simp only [e6]
 by_cases h1:m.dJ<0
 ·simp [h1];omega
 by_cases o:(s.b3.length:Int)≤m.dJ
 ·simp [h1,o];omega
 by_cases ae:m.ej<0
 ·simp [h1,o,ae];omega
 by_cases av:(s.b3.length:Int)≤m.ej
 ·simp [h1,o,ae,av];omega
 by_cases aA:m.i5<1
 ·simp [h1,o,ae,av,aA];omega
 by_cases a2:3<m.i5
 ·simp [h1,o,ae,av,aA,a2];omega
 obtain ⟨x,R⟩ : ∃x,s.b3[m.dJ.toNat]? = some x:=⟨_,List.getElem?_eq_getElem (by omega)⟩
 obtain ⟨y,a1⟩ : ∃y,s.b3[m.ej.toNat]? = some y:=⟨_,List.getElem?_eq_getElem (by omega)⟩
 have bw:0≤m.dJ∧m.dJ<s.b3.length:=by omega
 have cd:0≤m.ej∧m.ej<s.b3.length:=by omega
 have jq:0≤m.dJ∧m.dJ<s.b3.length∧0≤m.ej∧m.ej<s.b3.length∧1≤m.i5∧m.i5≤3:=by omega
 rw [decide_eq_false h1,decide_eq_false o,decide_eq_false ae,decide_eq_false av,decide_eq_false aA,decide_eq_false a2,decide_eq_true jq,if_pos bw,R]
 simp only [Bool.false_eq_true,if_false,Option.bind_eq_bind,Option.bind_some,Bool.true_and]
 rw [if_pos cd,a1]
 simp only [Option.bind_some]
 by_cases e1:x.j5=y.j5<;>by_cases aC:x.j6=y.j6<;>by_cases yC:x.k6=true<;>by_cases B2:y.k6=true<;>simp [e1,aC,yC,B2]
theorem Xm (hl:List b0)(fO:List cc)(aI:hl.length≤6)(Ed:fO.length≤8)(i:Int):
 yU (U (len_ b7 hl-1)) fO (len_ cl fO) hl i =
 (pI fO hl fO (len_ cl fO) i).map (Sum.map id (Sum.map id fun _=>())):=by
 have hw:U ((hl.length:Nat)-1)=(hl.length:Nat)-1:=cx (by omega) (by omega)
 unfold yU pI wS
 simp only [e6,hw,Jx,qt,Option.bind_eq_bind,Option.bind_some]
 by_cases h1:i<(fO.length:Int)
 ·by_cases h0:0≤i
  ·obtain ⟨m,hm⟩ : ∃x,fO[i.toNat]? = some x:=⟨_,List.getElem?_eq_getElem (by omega)⟩
   simp only [h1,h0,hm,decide_true,if_true,and_self,Option.bind_some]
   unfold rl
   by_cases hA:0≤m.dJ∧m.dJ≤(hl.length:Int)-1
   ·by_cases gY:0≤m.ej∧m.ej≤(hl.length:Int)-1
    ·by_cases hG:1≤m.i5∧m.i5≤3
     ·obtain ⟨x,R⟩ : ∃x,hl[m.dJ.toNat]? = some x:=⟨_,List.getElem?_eq_getElem (by omega)⟩
      obtain ⟨y,a1⟩ : ∃y,hl[m.ej.toNat]? = some y:=⟨_,List.getElem?_eq_getElem (by omega)⟩
      have bw:0≤m.dJ∧m.dJ<hl.length:=by omega
      have cd:0≤m.ej∧m.ej<hl.length:=by omega
      have jq:0≤m.dJ∧m.dJ<hl.length∧0≤m.ej∧m.ej<hl.length∧1≤m.i5∧m.i5≤3:=by omega
      rw [decide_eq_true hA,decide_eq_true gY,decide_eq_true hG,decide_eq_true jq]
      simp only [if_true,Option.bind_some,Bool.true_and]
      rw [if_pos bw,R]
      simp only [Option.bind_some]
      rw [if_pos cd,a1]
      simp only [Option.bind_some]
      by_cases e1:x.j5=y.j5<;>by_cases aC:x.j6=y.j6<;>by_cases yC:x.k6=true<;>by_cases B2:y.k6=true<;>simp [e1,aC,yC,B2]
     ·have jq : ¬(0≤m.dJ∧m.dJ<hl.length∧0≤m.ej∧m.ej<hl.length∧1≤m.i5∧m.i5≤3):=by omega
      rw [decide_eq_true hA,decide_eq_true gY,decide_eq_false hG,decide_eq_false jq]
      simp
    ·have jq : ¬(0≤m.dJ∧m.dJ<hl.length∧0≤m.ej∧m.ej<hl.length∧1≤m.i5∧m.i5≤3):=by omega
     rw [decide_eq_true hA,decide_eq_false gY,decide_eq_false jq]
     simp
   ·have jq : ¬(0≤m.dJ∧m.dJ<hl.length∧0≤m.ej∧m.ej<hl.length∧1≤m.i5∧m.i5≤3):=by omega
    rw [decide_eq_false hA,decide_eq_false jq]
    simp
  ·simp [h1,h0]
 ·simp [h1]
theorem Nh (hl:List b0)(fO:List cc)(Ed:fO.length≤8): ∃r,yN fO hl fO (len_ cl fO) 0=some r∧ ∀k,r = .inr k→0≤k:=by
 exact jt (f:=fun w=>pI fO hl fO (len_ cl fO) w) (fun i=>0≤i∧i≤fO.length) (fun i=>(fO.length-i).toNat) (fun r=> ∀k,r = .inr k→0≤k) (fun i aq=>by
  obtain ⟨h0,h1⟩:=aq
  by_cases o:i<(fO.length:Int)
  ·have hw:U (i+1)=i+1:=cx (by omega) (by omega)
   obtain ⟨x,R⟩ : ∃x,fO[i.toNat]? = some x:=⟨_,List.getElem?_eq_getElem (by omega)⟩
   unfold pI wS
   simp only [e6,o,h0,hw,R,Jx,decide_true,if_true,and_self,Option.bind_eq_bind,Option.bind_some]
   by_cases e:(!rl hl x)=true
   ·exact .inr ⟨_,by rw [if_pos e],by intro k ba;simp at ba;omega⟩
   ·exact .inl ⟨i+1,by rw [if_neg e],by omega,by omega⟩
  ·exact .inr ⟨.inl (),by simp [pI,e6,o],by intro k ba;simp at ba⟩) 0 (by omega)
theorem Nu (s:cR)(i0:kH s): ∃r,k3 s=some r∧wX s=some r:=by
 unfold k3 wX
 by_cases h1:6<(s.b3.length:Int)
 ·exact ⟨false,by simp [e6,h1],by simp [e6,h1]⟩
 by_cases o:8<(s.bQ.length:Int)
 ·exact ⟨false,by simp [e6,h1,o],by simp [e6,h1,o]⟩
 obtain ⟨r,ar⟩:=Nr s i0
 rw [NF,ar]
 obtain ⟨q,bc,lR⟩:=Nh s.b3 s.bQ (by omega)
 have adT:Hj (U (len_ b7 s.b3-1)) s.bQ (len_ cl s.bQ) s.b3 0=some (Sum.map id (fun _=>()) q) :=
  Z4 (f:=fun w=>pI s.bQ s.b3 s.bQ (len_ cl s.bQ) w) (Sum.map id fun _=>()) (fun _=>True) (fun _ _ _ _=>trivial)
   (fun i _=>Xm s.b3 s.bQ (by omega) (by omega) i) 0 q bc trivial
 simp only [yO,yQ,bc,adT,Option.bind_eq_bind,Option.bind_some]
 have d1:decide ((6:Int)<len_ b7 s.b3)=false:=by rw [e6];exact decide_eq_false h1
 have d2:decide ((8:Int)<len_ cl s.bQ)=false:=by rw [e6];exact decide_eq_false o
 rw [d1,d2]
 simp only [Bool.false_eq_true,if_false]
 cases r with
 | inr a=>exact ⟨false,rfl,rfl⟩
 | inl a =>
  cases q with
  | inl b=>exact ⟨true,rfl,by simp⟩
  | inr k =>
   have:=lR k rfl
   exact ⟨false,rfl,by simp [this]⟩
theorem NQ (j:b0)(h:pc j=some true): -50≤j.j5∧j.j5≤50∧ -50≤j.j6∧j.j6≤50:=by
 unfold pc at h
 cases a5:sI j.k9 with
 | none=>simp [a5] at h
 | some r =>
  simp only [a5,qt,Option.bind_eq_bind,Option.bind_some] at h
  cases r with
  | false=>simp at h
  | true =>
   by_cases a : -50≤j.j5∧j.j5≤50
   ·by_cases b : -50≤j.j6∧j.j6≤50
    ·omega
    ·simp [a,b] at h
   ·simp [a] at h
theorem Zw (s:cR)(i0:kH s)(h:tO s.b3 (len_ b7 s.b3) s.bQ 0=some (.inl ())): ∀(n:Nat) j,s.b3[n]? = some j→pc j=some true:=by
 have hm:=sQ
 obtain ⟨⟨gg,hj⟩,-⟩:=i0
 obtain ⟨r,h1,o⟩:=jt (f:=fun w=>q7 s.b3 (len_ b7 s.b3) s.bQ w) (fun i=>0≤i∧i≤s.b3.length∧ ∀(n:Nat) j,(n:Int)<i→s.b3[n]? = some j→pc j=some true) (fun i=>(s.b3.length-i).toNat)
  (fun r=>r = .inl ()→ ∀(n:Nat) j,s.b3[n]? = some j→pc j=some true) (fun i aq=>by
  obtain ⟨h0,h1,ae⟩:=aq
  by_cases o:i<(s.b3.length:Int)
  ·have hw:U (i+1)=i+1:=cx (by omega) (by omega)
   obtain ⟨x,R⟩ : ∃x,s.b3[i.toNat]? = some x:=⟨_,List.getElem?_eq_getElem (by omega)⟩
   obtain ⟨p,ai⟩:=N3 x (hj x (List.mem_of_getElem? R)).1
   obtain ⟨q,bc⟩:=NE ⟨s.b3,s.bQ⟩ x.k9 gg
   unfold q7
   simp only [e6,o,h0,hw,R,ai,bc,decide_true,if_true,and_self,Option.bind_eq_bind,Option.bind_some]
   by_cases e:p=true
   ·rw [if_pos e]
    by_cases aC:(q != i)=true
    ·exact .inr ⟨_,by rw [if_pos aC],by simp⟩
    ·refine .inl ⟨i+1,by rw [if_neg aC],⟨by omega,by omega,fun n j a5 aI=> ?_⟩,by omega⟩
     by_cases c:(n:Int)<i
     ·exact ae n j c aI
     ·have:n=i.toNat:=by omega
      subst this
      rw [R] at aI
      obtain rfl:=Option.some.inj aI
      rw [ai,e]
   ·exact .inr ⟨_,by rw [if_neg e],by simp⟩
  ·refine .inr ⟨.inl (),by simp [q7,e6,o],fun _ n j aI=>ae n j (by have:=fB aI;omega) aI⟩) 0 ⟨by omega,by omega,fun n j a5=>by omega⟩
 have p7:tO s.b3 (len_ b7 s.b3) s.bQ 0=some r:=h1
 rw [h] at p7
 exact o (Option.some.inj p7).symm
theorem YP (hl:List b0)(fO:List cc)(Ed:fO.length≤8)(h:yN fO hl fO (len_ cl fO) 0=some (.inl ())): ∀(n:Nat) m,fO[n]? = some m→rl hl m=true:=by
 obtain ⟨r,h1,o⟩:=jt (f:=fun w=>pI fO hl fO (len_ cl fO) w) (fun i=>0≤i∧i≤fO.length∧ ∀(n:Nat) m,(n:Int)<i→fO[n]? = some m→rl hl m=true) (fun i=>(fO.length-i).toNat)
  (fun r=>r = .inl ()→ ∀(n:Nat) m,fO[n]? = some m→rl hl m=true) (fun i aq=>by
  obtain ⟨h0,h1,ae⟩:=aq
  by_cases o:i<(fO.length:Int)
  ·have hw:U (i+1)=i+1:=cx (by omega) (by omega)
   obtain ⟨x,R⟩ : ∃x,fO[i.toNat]? = some x:=⟨_,List.getElem?_eq_getElem (by omega)⟩
   unfold pI wS
   simp only [e6,o,h0,hw,R,Jx,decide_true,if_true,and_self,Option.bind_eq_bind,Option.bind_some]
   by_cases e:(!rl hl x)=true
   ·exact .inr ⟨_,by rw [if_pos e],by simp⟩
   ·refine .inl ⟨i+1,by rw [if_neg e],⟨by omega,by omega,fun n j a5 aI=> ?_⟩,by omega⟩
    by_cases c:(n:Int)<i
    ·exact ae n j c aI
    ·have:n=i.toNat:=by omega
     subst this
     rw [R] at aI
     obtain rfl:=Option.some.inj aI
     simpa using e
  ·refine .inr ⟨.inl (),by simp [pI,e6,o],fun _ n j aI=>ae n j (by have:=fB aI;omega) aI⟩) 0 ⟨by omega,by omega,fun n j a5=>by omega⟩
 have p7:yN fO hl fO (len_ cl fO) 0=some r:=h1
 rw [h] at p7
 exact o (Option.some.inj p7).symm
theorem pJ (s:cR)(i0:kH s)(h:k3 s=some true):
 (∀(n:Nat) j,s.b3[n]? = some j→pc j=some true)∧(∀(n:Nat) m,s.bQ[n]? = some m→rl s.b3 m=true)∧s.b3.length≤6∧s.bQ.length≤8:=by
 obtain ⟨p,p1,hg⟩:=Nu s i0
 rw [h] at p1
 obtain rfl:=Option.some.inj p1
 unfold wX at hg
 by_cases h1:6<(s.b3.length:Int)
 ·simp [e6,h1] at hg
 by_cases o:8<(s.bQ.length:Int)
 ·simp [e6,h1,o] at hg
 obtain ⟨r,ar⟩:=Nr s i0
 rw [NF,ar] at hg
 obtain ⟨q,bc,lR⟩:=Nh s.b3 s.bQ (by omega)
 have d1:decide ((6:Int)<len_ b7 s.b3)=false:=by rw [e6];exact decide_eq_false h1
 have d2:decide ((8:Int)<len_ cl s.bQ)=false:=by rw [e6];exact decide_eq_false o
 rw [d1,d2] at hg
 simp only [yO,yQ,bc,Bool.false_eq_true,if_false,Option.bind_eq_bind,Option.bind_some] at hg
 cases r with
 | inr a=>simp at hg
 | inl a =>
  cases q with
  | inr k =>
   have:=lR k rfl
   simp [this] at hg
  | inl b=>exact ⟨Zw s i0 ar,YP s.b3 s.bQ (by omega) bc,by omega,by omega⟩
theorem Zx (s:cR)(i0:kH s)(h:k3 s=some true)(k:Int)(h0:0≤k)(h1:k<s.bQ.length):
 ∃x y,tM s k=some (x,y)∧w2 s k=some (x,y)∧(-100≤x∧x≤100)∧(-100≤y∧y≤100):=by
 obtain ⟨f1,f2,f3,f4⟩:=pJ s i0 h
 obtain ⟨m,hm⟩ : ∃x,s.bQ[k.toNat]? = some x:=⟨_,List.getElem?_eq_getElem (by omega)⟩
 have LW:=f2 _ m hm
 unfold rl at LW
 simp only [Bool.and_eq_true,decide_eq_true_eq] at LW
 obtain ⟨⟨g1,g2,g3,g4,-⟩,-⟩:=LW
 obtain ⟨a,bE⟩ : ∃x,s.b3[m.dJ.toNat]? = some x:=⟨_,List.getElem?_eq_getElem (by omega)⟩
 obtain ⟨b,aS⟩ : ∃x,s.b3[m.ej.toNat]? = some x:=⟨_,List.getElem?_eq_getElem (by omega)⟩
 have ags:=NQ a (f1 _ a bE)
 have agt:=NQ b (f1 _ b aS)
 have e1:U (b.j5-a.j5)=b.j5-a.j5:=cx (by omega) (by omega)
 have aC:U (b.j6-a.j6)=b.j6-a.j6:=cx (by omega) (by omega)
 have dK:0≤k∧k<s.bQ.length:=⟨h0,h1⟩
 have bw:0≤m.dJ∧m.dJ<s.b3.length:=⟨g1,g2⟩
 have cd:0≤m.ej∧m.ej<s.b3.length:=⟨g3,g4⟩
 refine ⟨b.j5-a.j5,b.j6-a.j6,?_,?_,by omega,by omega⟩
 ·unfold tM
  simp only [if_pos dK,hm,if_pos bw,if_pos cd,bE,aS,Option.bind_eq_bind,Option.bind_some,e1,aC]
 ·unfold w2
  simp only [if_pos dK,hm,if_pos bw,if_pos cd,bE,aS,Option.bind_eq_bind,Option.bind_some,e1,aC]
theorem Zy (l:List Int)(aV:l.length≤maxLen)(left:Int)(h0:0≤left)(h1:left≤1048576):zU l left=some (if left<l.length then -1 else left-l.length):=by
 have hm:=sQ
 have hw:U (left-((l.length:Nat):Int))=left-(l.length:Nat):=cx (by omega) (by omega)
 unfold zU
 rw [e6,hw]
 by_cases e:left<(l.length:Nat)
 ·have:left-(l.length:Nat)<0:=by omega
  simp [e,this]
 ·have : ¬left-(l.length:Nat)<0:=by omega
  simp [e,this]
theorem Xn (s:cR)(i0:kH s)(left:Int)(h0:0≤left)(h1:left≤1048576)(q:Int)(bc:tW s left=some q):q≤1048576:=by
 obtain ⟨⟨gg,hj⟩,di,ff⟩:=i0
 obtain ⟨r,r1,b5,bk⟩:=NX s.b3 left gg (fun j aI=>(hj j aI).1) h0 h1
 unfold tW at bc
 rw [r1] at bc
 by_cases h:r<0
 ·simp [h] at bc;omega
 ·obtain ⟨t,t1,t2,t3⟩:=NP s.bQ r di (by omega) (by omega)
  by_cases cb:t<0
  ·simp [h,t1,cb] at bc;omega
  ·simp [h,t1,cb] at bc;omega
def rE (l:List Int)(n:Nat)(x:Int):Prop:=0≤x∧x<1000000000∧(∀z,l[n]? = some z→x=z)∧(l[n]? = none→x=0)
theorem uK {l:List Int}(h:cu l){n:Nat}(a5:n<l.length):rE l n l[n]:=by
 have R:=List.getElem?_eq_getElem a5
 have h0:=h.get R
 exact ⟨h0.1,h0.2,fun z cw=>by rw [R] at cw;exact Option.some.inj cw,fun h=>by rw [R] at h;simp at h⟩
theorem xO {l:List Int}{n:Nat}(a5:¬n<l.length):rE l n 0:=by
 have R:l[n]? = none:=by simp;omega
 exact ⟨by omega,by omega,fun z cw=>by rw [R] at cw;simp at cw,fun _=>rfl⟩
theorem rE.take {l:List Int}{n:Nat}{x:Int}(h:rE l n x):V (l.take (n+1))=V (l.take n)+B n*x:=PB h.2.2.1 h.2.2.2
theorem aal {a b row:List Int}{carry:Int}{n:Nat}(bE:cu a)(aS:cu b)(bf:carry=0∨carry=1)(qR:a.length≤1000000)(LX:b.length≤1000000)(ar:row.length≤1000001)(Ei:n≤1000001)(a5:n<a.length∨n<b.length∨carry=1):
 ∃x y,rE a n x∧rE b n y∧tP a b carry n row=some (.inl ((carry+x+y) / 1000000000,((n+1:Nat):Int),row++[(carry+x+y) % 1000000000])):=by
 have mn:0≤carry∧carry≤1:=by omega
 unfold tP
 simp only [f6]
 by_cases h1:n<a.length
 ·have hA:=uK bE h1
  have R:=List.getElem?_eq_getElem h1
  rw [if_pos (by simp;omega),if_pos (by omega),Int.toNat_natCast,R]
  simp only [Option.bind_eq_bind,Option.bind_some]
  by_cases o:n<b.length
  ·have gY:=uK aS o
   have a1:=List.getElem?_eq_getElem o
   have gg:=hA.1
   have hj:=hA.2.1
   have im:=gY.1
   have jN:=gY.2.1
   refine ⟨a[n],b[n],hA,gY,?_⟩
   rw [if_pos (by simp;omega),if_pos (by omega),a1]
   simp only [Option.bind_some]
   rw [cx (x:=carry+a[n]) (by omega) (by omega),cx (x:=carry+a[n]+b[n]) (by omega) (by omega),pF (by omega),m1 (by omega),cx (by omega) (by omega),nt (n:=n) (by omega),if_pos (by simp;omega)]
  ·have gg:=hA.1
   have hj:=hA.2.1
   refine ⟨a[n],0,hA,xO o,?_⟩
   rw [if_neg (by simp;omega),cx (x:=carry+a[n]) (by omega) (by omega),pF (by omega),m1 (by omega),cx (by omega) (by omega),nt (n:=n) (by omega),if_pos (by simp;omega),Int.add_zero]
 ·rw [if_neg (by simp;omega)]
  by_cases o:n<b.length
  ·have gY:=uK aS o
   have a1:=List.getElem?_eq_getElem o
   have im:=gY.1
   have jN:=gY.2.1
   refine ⟨0,b[n],xO h1,gY,?_⟩
   rw [if_pos (by simp;omega),if_pos (by omega),Int.toNat_natCast,a1]
   simp only [Option.bind_eq_bind,Option.bind_some]
   rw [cx (x:=carry+b[n]) (by omega) (by omega),pF (by omega),m1 (by omega),cx (by omega) (by omega),nt (n:=n) (by omega),if_pos (by simp;omega),Int.add_zero]
  ·refine ⟨0,0,xO h1,xO o,?_⟩
   rw [if_neg (by simp;omega),if_pos (by simp;omega),pF (by omega),m1 (by omega),cx (by omega) (by omega),nt (n:=n) (by omega),if_pos (by simp;omega),Int.add_zero,Int.add_zero]
theorem aam {a b:List Int}(bE:cu a)(aS:cu b)(qR:a.length≤900000)(LX:b.length≤900000): ∃r,xg a b=some r∧cu r∧V r=V a+V b∧r.length≤a.length+b.length+1:=by
 obtain ⟨r,ar,h1,o,ae⟩:=jt (f:=fun w:Int×Int×List Int=>tP a b w.1 w.2.1 w.2.2) (eK:=fun w=> ∃n:Nat,w.2.1=n∧w.2.2.length=n∧(w.1=0∨w.1=1)∧cu w.2.2∧V w.2.2+w.1*B n=V (a.take n)+V (b.take n)∧(n≤a.length∨n≤b.length∨w.1=0)∧n≤a.length+b.length+1) (m:=fun w=>(a.length+b.length+2-w.2.1.toNat))
  (fun r=>cu r∧V r=V a+V b∧r.length≤a.length+b.length+1) (by
    rintro ⟨carry,ii,row⟩ ⟨n,e1,aC,bR,c9,dn,d5,eJ⟩
    simp only at e1 aC bR c9 dn d5
    subst e1
    by_cases a5:n<a.length∨n<b.length∨carry=1
    ·obtain ⟨x,y,R,a1,qL⟩:=aal (row:=row) bE aS bR (by omega) (by omega) (by omega) (by omega) a5
     have x0:=R.1
     have x1:=R.2.1
     have SJ:=a1.1
     have mz:=a1.2.1
     have LP:n≤a.length+b.length:=by omega
     refine .inl ⟨_,qL,⟨n+1,rfl,by simp [aC],by simp only;omega,c9.append (cu.cons (by omega) cu.nil),?_,?_,by omega⟩,by simp only;omega⟩
     ·simp only
      rw [uw,aC,l5,k5,AR,R.take,a1.take]
      have:=Int.mul_ediv_add_emod (carry+x+y) 1000000000
      generalize (carry+x+y) / 1000000000=u at *
      generalize (carry+x+y) % 1000000000=t at *
      have cb:t=carry+x+y-1000000000*u:=by omega
      rw [cb]
      grind
     ·simp only
      by_cases h:n+1≤a.length∨n+1≤b.length
      ·omega
      ·
       have agb : ¬n<a.length:=by omega
       have agc : ¬n<b.length:=by omega
       have hO:x=0:=R.2.2.2 (by simp;omega)
       have iX:y=0:=a1.2.2.2 (by simp;omega)
       omega
    ·refine .inr ⟨row,?_,c9,?_,by omega⟩
     ·unfold tP
      simp only [f6]
      rw [if_neg (by simp;omega),if_neg (by simp;omega),if_neg (by simp;omega)]
     ·have bf:carry=0:=by omega
      rw [bf,List.take_of_length_le (by omega),List.take_of_length_le (by omega)] at dn
      omega) (0,0,[]) ⟨0,rfl,rfl,.inl rfl,cu.nil,by simp [V],by omega,by omega⟩
 unfold xg I1
 rw [ar]
 exact ⟨r,rfl,h1,o,ae⟩
theorem Zz {neg:Bool}{r:List Int}(ar:cu r)(aV:r.length≤5000000)(qe:V r<B 60):hP neg r=some (gW (ed neg (V r))):=by
 have h0:=mD ar
 have:hP neg r=hP neg (L (V r)):=by
  unfold hP xf
  have hlen:=(i4 h0).2 qe
  rw [rb ar aV,rb (g9 _) (by omega),ei h0]
 rw [this,pS h0 qe]
theorem ZA {a b row:List Int}{carry:Int}{n:Nat}(bE:cu a)(aS:cu b)(bf:carry=0∨carry=1)(qR:a.length≤1000000)(a5:n<a.length)(ar:n<row.length):
 ∃x y,rE a n x∧rE b n y∧wV a b a.length carry n row=some (.inl ((carry+x+y) / 1000000000,((n+1:Nat):Int),row.set n ((carry+x+y) % 1000000000))):=by
 have mn:0≤carry∧carry≤1:=by omega
 have hA:=uK bE a5
 have R:=List.getElem?_eq_getElem a5
 have gg:=hA.1
 have hj:=hA.2.1
 unfold wV
 simp only [f6]
 rw [if_pos (by simp;omega),if_pos (by omega),Int.toNat_natCast,R]
 simp only [Option.bind_eq_bind,Option.bind_some]
 by_cases o:n<b.length
 ·have gY:=uK aS o
  have a1:=List.getElem?_eq_getElem o
  have im:=gY.1
  have jN:=gY.2.1
  refine ⟨a[n],b[n],hA,gY,?_⟩
  rw [if_pos (by simp;omega),if_pos (by omega),a1]
  simp only [Option.bind_some]
  rw [if_pos (by omega),if_pos (by omega),cx (x:=a[n]+carry) (by omega) (by omega),cx (x:=a[n]+carry+b[n]) (by omega) (by omega),pF (by omega),m1 (by omega),cx (by omega) (by omega),nt (n:=n) (by omega),Nat.zero_add,Int.add_comm a[n] carry]
 ·refine ⟨a[n],0,hA,xO o,?_⟩
  rw [if_neg (by simp;omega),if_pos (by omega),if_pos (by omega),cx (x:=a[n]+carry) (by omega) (by omega),pF (by omega),m1 (by omega),cx (by omega) (by omega),nt (n:=n) (by omega),Nat.zero_add,Int.add_zero,Int.add_comm a[n] carry]
theorem ZB {a b:List Int}(bE:cu a)(aS:cu b)(qR:a.length≤900000)(tm:b.length≤a.length):
 ∃r,zO a b a.length 0 0 (List.replicate (a.length+1) 0)=some r∧(r.1=0∨r.1=1)∧cu r.2∧r.2.length=a.length+1∧V r.2+r.1*B a.length=V a+V b∧r.2[a.length]? = some 0:=by
 refine jt (eK:=fun w:Int×Int×List Int=> ∃n:Nat,w.2.1=n∧n≤a.length∧(w.1=0∨w.1=1)∧cu w.2.2∧w.2.2.length=a.length+1∧V w.2.2+w.1*B n=V (a.take n)+V (b.take n)∧ ∀j,n≤j→j<a.length+1→w.2.2[j]? = some 0) (m:=fun w=>a.length-w.2.1.toNat) _ ?_ _ ⟨0,rfl,by omega,.inl rfl,cu.Lw _,by simp,by simp [V,KD],fun j _ h=>by simp [List.getElem?_replicate];omega⟩
 rintro ⟨carry,ii,row⟩ ⟨n,e1,aC,bR,c9,dn,d5,eJ⟩
 simp only at e1 bR c9 dn d5 eJ ⊢
 subst e1
 by_cases a5:n=a.length
 ·subst a5
  refine .inr ⟨(carry,row),by simp [wV],bR,c9,dn,?_,eJ _ (Nat.le_refl _) (by omega)⟩
  rw [List.take_length,List.take_of_length_le tm] at d5
  exact d5
 ·obtain ⟨x,y,R,a1,qL⟩:=ZA (row:=row) (n:=n) bE aS bR (by omega) (by omega) (by omega)
  have x0:=R.1
  have x1:=R.2.1
  have SJ:=a1.1
  have mz:=a1.2.1
  refine .inl ⟨_,qL,⟨n+1,rfl,by omega,by simp only;omega,c9.set (by omega),by simpa using dn,?_,fun j h1 o=> ?_⟩,by simp only;omega⟩
  ·simp only
   rw [rr (eJ n (Nat.le_refl _) (by omega)),l5,R.take,a1.take]
   have:=Int.mul_ediv_add_emod (carry+x+y) 1000000000
   generalize (carry+x+y) / 1000000000=u at *
   generalize (carry+x+y) % 1000000000=t at *
   have cb:t=carry+x+y-1000000000*u:=by omega
   rw [cb]
   grind
  ·simp only
   rw [List.getElem?_set_ne (by omega)]
   exact eJ j (by omega) o
theorem Pd {a b:List Int}(bE:cu a)(aS:cu b)(qR:a.length≤900000)(tm:b.length≤a.length):
 (if 0≤(U ((len_ eI a)+(1:Int)))∧(8:Int)*(U ((len_ eI a)+(1:Int)))≤281474976710656∧(U ((len_ eI a)+(1:Int)))<9223372036854775808 then
   (zO a b (len_ eI a) 0 0 (List.replicate (U ((len_ eI a)+(1:Int))).toNat 0:List Int)).bind fun bk =>
   if 0≤(len_ eI a)∧(len_ eI a)<(bk.2.length:Nat) then
   if (0+(len_ eI a).toNat)<bk.2.length then
   (pR (bk.2.set (0+(len_ eI a).toNat) bk.1)).bind fun bI=>some bI
   else none
   else none
   else none)=some (L (V a+V b)):=by
 obtain ⟨r,ar,h1,o,ae,av,aA⟩:=ZB bE aS qR tm
 rw [f6,nt (by omega),if_pos (by omega),Int.toNat_natCast,ar,Option.bind_some,if_pos (by omega),Int.toNat_natCast,Nat.zero_add,if_pos (by omega)]
 have Bj:cu (r.2.set a.length r.1):=o.set (by omega)
 rw [xF Bj (by simp;omega),rr aA,Option.bind_some]
 congr 2
 rw [← av]
 grind
theorem aaX {a b:List Int}(bE:cu a)(aS:cu b)(qR:a.length≤900000)(LX:b.length≤900000):xp a b=some (L (V a+V b)):=by
 unfold xp
 by_cases h:a.length<b.length
 ·rw [if_pos (by rw [f6,f6];simpa using h)]
  have:=Pd aS bE LX (by omega)
  rw [Int.add_comm (V a)]
  exact this
 ·rw [if_neg (by rw [f6,f6];simpa using h)]
  exact Pd bE aS qR (by omega)
theorem YQ {a b row:List Int}{less:Int}{n:Nat}(bE:cu a)(aS:cu b)(aV:less=0∨less=1)(qR:a.length≤1000000)(a5:n<a.length)(ar:n<row.length):
 ∃x y,rE a n x∧rE b n y∧wT b a a.length less n row=some (.inl (if x-less-y<0 then (1,((n+1:Nat):Int),row.set n (x-less-y+1000000000)) else (0,((n+1:Nat):Int),row.set n (x-less-y)))):=by
 have mn:0≤less∧less≤1:=by omega
 have hA:=uK bE a5
 have R:=List.getElem?_eq_getElem a5
 have gg:=hA.1
 have hj:=hA.2.1
 unfold wT
 simp only [f6]
 rw [if_pos (by simp;omega),if_pos (by omega),Int.toNat_natCast,R]
 simp only [Option.bind_eq_bind,Option.bind_some]
 by_cases o:n<b.length
 ·have gY:=uK aS o
  have a1:=List.getElem?_eq_getElem o
  have im:=gY.1
  have jN:=gY.2.1
  refine ⟨a[n],b[n],hA,gY,?_⟩
  rw [if_pos (by simp;omega),if_pos (by omega),a1]
  simp only [Option.bind_some]
  rw [cx (x:=a[n]-less) (by omega) (by omega),cx (x:=a[n]-less-b[n]) (by omega) (by omega),nt (n:=n) (by omega),cx (x:=a[n]-less-b[n]+1000000000) (by omega) (by omega),Nat.zero_add]
  by_cases h:a[n]-less-b[n]<0
  ·rw [if_pos (by simpa using h),if_pos h,if_pos (by omega),if_pos (by omega)]
  ·rw [if_neg (by simpa using h),if_neg h,if_pos (by omega),if_pos (by omega)]
 ·refine ⟨a[n],0,hA,xO o,?_⟩
  rw [if_neg (by simp;omega),cx (x:=a[n]-less) (by omega) (by omega),nt (n:=n) (by omega),cx (x:=a[n]-less+1000000000) (by omega) (by omega),Nat.zero_add,Int.sub_zero]
  by_cases h:a[n]-less<0
  ·rw [if_pos (by simpa using h),if_pos h,if_pos (by omega),if_pos (by omega)]
  ·rw [if_neg (by simpa using h),if_neg h,if_pos (by omega),if_pos (by omega)]
theorem PH {a b:List Int}(bE:cu a)(aS:cu b)(hlen:b.length≤a.length)(tm:V b≤V a)(qR:a.length≤900000):sO a b=some (L (V a-V b)):=by
 have : ∃r,Jl b a a.length 0 0 (List.replicate a.length 0)=some r∧cu r∧r.length=a.length∧V r=V a-V b:=by
  refine jt (eK:=fun w:Int×Int×List Int=> ∃n:Nat,w.2.1=n∧n≤a.length∧(w.1=0∨w.1=1)∧cu w.2.2∧w.2.2.length=a.length∧V w.2.2-w.1*B n=V (a.take n)-V (b.take n)∧ ∀j,n≤j→j<a.length→w.2.2[j]? = some 0) (m:=fun w=>a.length-w.2.1.toNat) _ ?_ _ ⟨0,rfl,by omega,.inl rfl,cu.Lw _,by simp,by simp [V,KD],fun j _ h=>by simp [List.getElem?_replicate];omega⟩
  rintro ⟨less,ii,row⟩ ⟨n,e1,aC,bR,c9,dn,d5,eJ⟩
  simp only at e1 bR c9 dn d5 eJ ⊢
  subst e1
  by_cases a5:n=a.length
  ·subst a5
   refine .inr ⟨row,by simp [wT],c9,dn,?_⟩
   rw [List.take_length,List.take_of_length_le hlen] at d5
   have o:=m9 c9
   rw [dn] at o
   rcases bR with rfl|rfl<;>omega
  ·obtain ⟨x,y,R,a1,qL⟩:=YQ (row:=row) (n:=n) bE aS bR (by omega) (by omega) (by omega)
   have x0:=R.1
   have x1:=R.2.1
   have SJ:=a1.1
   have mz:=a1.2.1
   rw [qL]
   refine .inl ⟨_,rfl,?_⟩
   by_cases h:x-less-y<0
   ·rw [if_pos h]
    refine ⟨⟨n+1,rfl,by omega,.inr rfl,c9.set (by omega),by simpa using dn,?_,fun j h1 o=> ?_⟩,by simp only;omega⟩
    ·simp only
     rw [rr (eJ n (Nat.le_refl _) (by omega)),l5,R.take,a1.take]
     grind
    ·simp only
     rw [List.getElem?_set_ne (by omega)]
     exact eJ j (by omega) o
   ·rw [if_neg h]
    refine ⟨⟨n+1,rfl,by omega,.inl rfl,c9.set (by omega),by simpa using dn,?_,fun j h1 o=> ?_⟩,by simp only;omega⟩
    ·simp only
     rw [rr (eJ n (Nat.le_refl _) (by omega)),R.take,a1.take]
     grind
    ·simp only
     rw [List.getElem?_set_ne (by omega)]
     exact eJ j (by omega) o
 obtain ⟨r,ar,h1,o,ae⟩:=this
 unfold sO
 simp only [f6]
 rw [if_pos (by omega),Int.toNat_natCast,ar]
 simp only [Option.bind_eq_bind,Option.bind_some]
 rw [xF h1 (by omega),ae]
 rfl
theorem QG {a b:Int}(h:decide (a<0)=decide (b<0)):ed (decide (a<0)) ((a.natAbs:Int)+(b.natAbs:Int))=a+b:=by
 have cD:a<0↔b<0:=by simpa using h
 unfold ed
 by_cases h1:a<0
 ·have:=cD.1 h1
  simp only [h1,decide_true,if_true]
  omega
 ·have : ¬b<0:=fun aS=>h1 (cD.2 aS)
  simp only [h1,decide_false,Bool.false_eq_true,if_false]
  omega
theorem DL {a b:Int}(h:¬decide (a<0)=decide (b<0)):ed (decide (a<0)) ((a.natAbs:Int)-(b.natAbs:Int))=a+b∧ed (decide (b<0)) ((b.natAbs:Int)-(a.natAbs:Int))=a+b:=by
 have cD : ¬(a<0↔b<0):=by simpa using h
 unfold ed
 by_cases h1:a<0
 ·have o : ¬b<0:=fun aS=>cD ⟨fun _=>aS,fun _=>h1⟩
  simp only [h1,o,decide_true,if_true,decide_false,Bool.false_eq_true,if_false]
  omega
 ·have o:b<0:=by
   apply Classical.byContradiction
   intro aS
   exact cD ⟨fun h=>absurd h h1,fun h=>absurd h aS⟩
  simp only [h1,o,decide_true,if_true,decide_false,Bool.false_eq_true,if_false]
  omega
theorem Dz {x y:Int}(R:0≤x)(Lx:x≤y):(L x).length≤(L y).length:=by
 apply (i4 R).2
 have:=m9 (g9 y)
 rw [ei (by omega)] at this
 omega
theorem Pe {a b:Int}(bE:(a.natAbs:Int)<B 50)(aS:(b.natAbs:Int)<B 50):pQ (gW a) (gW b)=some (gW (a+b)):=by
 have sy:=(i4 (k:=50) (n:=a.natAbs) (by omega)).2 bE
 have vu:=(i4 (k:=50) (n:=b.natAbs) (by omega)).2 aS
 have qe:B 50+B 50≤B 60:=by
  have h1:B 51≤B 60:=qA (by omega)
  have o:=ow 50
  rw [l5] at h1
  omega
 have bV:pQ (gW a) (gW b)=(if (decide (a<0) == decide (b<0))=true then (xg (L a.natAbs) (L b.natAbs)).bind fun b5=>(hP (decide (a<0)) b5).bind fun bi=>some bi else (pP (L a.natAbs) (L b.natAbs)).bind fun b5=>if (decide ((0:Int)≤b5))=true then (rN (L a.natAbs) (L b.natAbs)).bind fun aT=>(hP (decide (a<0)) aT).bind fun bI=>some bI else (rN (L b.natAbs) (L a.natAbs)).bind fun aT=>(hP (decide (b<0)) aT).bind fun bI=>some bI):=rfl
 rw [bV]
 by_cases h:decide (a<0)=decide (b<0)
 ·rw [if_pos (by simpa using h)]
  obtain ⟨r,r1,b5,bk,bi⟩:=aam (g9 a.natAbs) (g9 b.natAbs) (by omega) (by omega)
  rw [ei (by omega),ei (by omega)] at bk
  rw [r1,Option.bind_some,Zz b5 (by omega) (by omega),bk,QG h]
  rfl
 ·rw [if_neg (by simpa using h),rY (ji _) (ji _) (by omega),ei (by omega),ei (by omega),Option.bind_some]
  by_cases bf:(b.natAbs:Int)≤a.natAbs
  ·have vc:0≤kV (a.natAbs:Int) b.natAbs:=by
    apply Int.not_lt.mp
    intro h1
    have:=sV.1 h1
    omega
   rw [if_pos (by simpa using vc),sub_eq (g9 _) (g9 _) (Dz (by omega) bf) (by rw [ei (by omega),ei (by omega)];exact bf) (by omega),ei (by omega),ei (by omega),Option.bind_some,pS (by omega) (by omega),(DL h).1]
   rfl
  ·have vc : ¬0≤kV (a.natAbs:Int) b.natAbs:=by
    have:=sV.2 (show (a.natAbs:Int)<b.natAbs by omega)
    omega
   rw [if_neg (by simpa using vc),sub_eq (g9 _) (g9 _) (Dz (by omega) (by omega)) (by rw [ei (by omega),ei (by omega)];omega) (by omega),ei (by omega),ei (by omega),Option.bind_some,pS (by omega) (by omega),(DL h).2]
   rfl
theorem aan {a b:Int}(bE:(a.natAbs:Int)<B 50)(aS:(b.natAbs:Int)<B 50):wZ (gW a) (gW b)=some (gW (a+b)):=by
 have sy:=(i4 (k:=50) (n:=a.natAbs) (by omega)).2 bE
 have vu:=(i4 (k:=50) (n:=b.natAbs) (by omega)).2 aS
 have bV:wZ (gW a) (gW b)=((ql (L a.natAbs) (L b.natAbs)).bind fun r1=>if (decide (a<0) == decide (b<0))=true then (xp (L a.natAbs) (L b.natAbs)).bind fun b5=>(m3 (decide (a<0)) b5).bind fun bi=>some bi else if (decide ((0:Int)≤r1))=true then (sO (L a.natAbs) (L b.natAbs)).bind fun aT=>(m3 (decide (a<0)) aT).bind fun bI=>some bI else (sO (L b.natAbs) (L a.natAbs)).bind fun aT=>(m3 (decide (b<0)) aT).bind fun bI=>some bI):=rfl
 rw [bV,OK (ji _) (ji _) (by omega),ei (by omega),ei (by omega),Option.bind_some]
 by_cases h:decide (a<0)=decide (b<0)
 ·rw [if_pos (by simpa using h),aaX (g9 _) (g9 _) (by omega) (by omega),ei (by omega),ei (by omega),Option.bind_some,rQ (by omega),QG h]
  rfl
 ·rw [if_neg (by simpa using h)]
  by_cases bf:(b.natAbs:Int)≤a.natAbs
  ·have vc:0≤kV (a.natAbs:Int) b.natAbs:=by
    apply Int.not_lt.mp
    intro h1
    have:=sV.1 h1
    omega
   rw [if_pos (by simpa using vc),PH (g9 _) (g9 _) (Dz (by omega) bf) (by rw [ei (by omega),ei (by omega)];exact bf) (by omega),ei (by omega),ei (by omega),Option.bind_some,rQ (by omega),(DL h).1]
   rfl
  ·have vc : ¬0≤kV (a.natAbs:Int) b.natAbs:=by
    have:=sV.2 (show (a.natAbs:Int)<b.natAbs by omega)
    omega
   rw [if_neg (by simpa using vc),PH (g9 _) (g9 _) (Dz (by omega) (by omega)) (by rw [ei (by omega),ei (by omega)];omega) (by omega),ei (by omega),ei (by omega),Option.bind_some,rQ (by omega),(DL h).2]
   rfl
theorem Kv {b:Int}:ed (!(decide (b<0))) (b.natAbs:Int) = -b:=by
 unfold ed
 by_cases h:b<0
 ·simp only [h,decide_true,Bool.not_true,Bool.false_eq_true,if_false]
  omega
 ·simp only [h,decide_false,Bool.not_false,if_true]
  omega
theorem ZC {a b:Int}(bE:(a.natAbs:Int)<B 50)(aS:(b.natAbs:Int)<B 50):tT (gW a) (gW b)=some (gW (a-b)):=by
 have bV:tT (gW a) (gW b)=(((m3 (!(decide (b<0))) (L b.natAbs)).bind fun r=>some r).bind fun r1=>(wZ (gW a) r1).bind fun bk=>some bk):=rfl
 rw [bV,rQ (by omega),Kv,Option.bind_some,Option.bind_some,aan bE (by omega),Option.bind_some,Int.sub_eq_add_neg]
theorem Fr.neg {q:Int×Int}(h:Fr q):Fr (-q.1,q.2):=⟨h.pos,by simp only;rw [Int.neg_gcd];exact h.Se,by simp only;have:=h.num;omega,h.den⟩
theorem ZD {q:Int×Int}(h:Fr q):uj (mk q)=some (mk (-q.1,q.2)):=by
 have h1:=h.num
 have o:=h.se
 have ae:=Kt
 have bV:uj (mk q)=((hP (!(decide (q.1<0))) (L q.1.natAbs)).bind fun r1=>if (([]:List Int)++L q.2).length*8≤140737488355328 then some (⟨r1,([]:List Int)++L q.2⟩:aM) else none):=rfl
 rw [bV,pS (by omega) (by omega),Kv,Option.bind_some,if_pos (by simp;omega)]
 rfl
theorem PI {p q:Int×Int}(ai:Fr p)(bc:Fr q):((p.1*q.2).natAbs:Int)<B 48∧(L (p.1.natAbs*q.2:Int)).length≤48∧0≤(p.1.natAbs*q.2:Int):=by
 have a2:=bc.pos
 have bd:=sW (x:=p.1.natAbs) (y:=q.2) (by omega) (by omega) ai.num bc.den
 have Ch:0≤(p.1.natAbs:Int)*q.2:=Int.mul_nonneg (by omega) (by omega)
 rw [Ku (by omega)]
 exact ⟨(i4 Ch).1 bd,bd,Ch⟩
theorem abu:B 48+B 48≤B 50:=by
 have h1:B 49≤B 50:=qA (by omega)
 have o:=ow 48
 rw [l5] at h1
 omega
theorem ZE {p q:Int×Int}(ai:Fr p)(bc:Fr q):q9 (mk p) (mk q)=some (enc (low (p.1*q.2+q.1*p.2) (p.2*q.2))):=by
 have h1:=ai.tb
 have o:=ai.se
 have ae:=bc.tb
 have av:=bc.se
 have aA:=ai.pos
 have a2:=bc.pos
 have Rs:=ai.num
 have n0:=bc.num
 have agd:=ai.den
 have age:=bc.den
 have gY:=abu
 have afq:B 24≤B 48:=qA (by omega)
 have afr:B 50≤B 60:=qA (by omega)
 obtain ⟨bw,cd,jq⟩:=PI ai bc
 obtain ⟨d1,d2,L9⟩:=PI bc ai
 have afz:=ow 48
 have e1:hL (L p.1.natAbs) (L q.2)=some (L ((p.1.natAbs:Int)*q.2)):=by
  rw [mul_eq (g9 _) (g9 _) (by omega) (by omega),ei (by omega),ei (by omega)]
 have aC:hL (L q.1.natAbs) (L p.2)=some (L ((q.1.natAbs:Int)*p.2)):=by
  rw [mul_eq (g9 _) (g9 _) (by omega) (by omega),ei (by omega),ei (by omega)]
 have bR:hP (decide (p.1<0)) (L ((p.1.natAbs:Int)*q.2))=some (gW (p.1*q.2)):=by
  rw [pS jq (by rw [← Ku (by omega)];omega),Aq]
 have c9:hP (decide (q.1<0)) (L ((q.1.natAbs:Int)*p.2))=some (gW (q.1*p.2)):=by
  rw [pS L9 (by rw [← Ku (by omega)];omega),Aq]
 have dn:pQ (gW (p.1*q.2)) (gW (q.1*p.2))=some (gW (p.1*q.2+q.1*p.2)):=Pe (by omega) (by omega)
 have bn:=sW (x:=p.2) (y:=q.2) (by omega) (by omega) ai.den bc.den
 have d5:hL (L p.2) (L q.2)=some (L (p.2*q.2)):=by
  rw [mul_eq (g9 _) (g9 _) (by omega) (by omega),ei (by omega),ei (by omega)]
 have Ri:(L (p.1*q.2+q.1*p.2).natAbs).length≤50:=(i4 (by omega)).2 (by omega)
 have eJ:nM (decide (p.1*q.2+q.1*p.2<0)) (L (p.1*q.2+q.1*p.2).natAbs) (L (p.2*q.2))=some (enc (low (p.1*q.2+q.1*p.2) (p.2*q.2))):=by
  rw [JO (by omega) (Int.mul_pos aA a2) (by omega) (by omega)]
  have:ed (decide (p.1*q.2+q.1*p.2<0)) ((p.1*q.2+q.1*p.2).natAbs:Int)=p.1*q.2+q.1*p.2:=by
   have:=Aq (a:=p.1*q.2+q.1*p.2) (b:=1)
   rwa [Int.mul_one,Int.mul_one] at this
  rw [this]
 have Ro:((hL (L p.1.natAbs) (L q.2)).bind fun bI=>(hP (decide (p.1<0)) bI).bind fun bx=>(hL (L q.1.natAbs) (L p.2)).bind fun dc=>(hP (decide (q.1<0)) dc).bind fun ex=>(pQ bx ex).bind fun gB=>(hL (L p.2) (L q.2)).bind fun gn=>(nM gB.cO gB.cC gn).bind fun oN=>some oN)=some (enc (low (p.1*q.2+q.1*p.2) (p.2*q.2))):=by
  rw [e1,Option.bind_some,bR,Option.bind_some,aC,Option.bind_some,c9,Option.bind_some,dn,Option.bind_some,d5,Option.bind_some]
  show (nM (decide (p.1*q.2+q.1*p.2<0)) (L (p.1*q.2+q.1*p.2).natAbs) (L (p.2*q.2))).bind _=_
  rw [eJ,Option.bind_some]
 have bV:q9 (mk p) (mk q)=((qn (L p.2)).bind fun r1=>if r1=true then (qn (L q.2)).bind fun bi=>if bi=true then (pQ (gW p.1) (gW q.1)).bind fun bI=>(nM bI.cO bI.cC ([1]:List Int)).bind fun bx=>some bx else ((hL (L p.1.natAbs) (L q.2)).bind fun bI=>(hP (decide (p.1<0)) bI).bind fun bx=>(hL (L q.1.natAbs) (L p.2)).bind fun dc=>(hP (decide (q.1<0)) dc).bind fun ex=>(pQ bx ex).bind fun gB=>(hL (L p.2) (L q.2)).bind fun gn=>(nM gB.cO gB.cC gn).bind fun oN=>some oN) else ((hL (L p.1.natAbs) (L q.2)).bind fun bI=>(hP (decide (p.1<0)) bI).bind fun bx=>(hL (L q.1.natAbs) (L p.2)).bind fun dc=>(hP (decide (q.1<0)) dc).bind fun ex=>(pQ bx ex).bind fun gB=>(hL (L p.2) (L q.2)).bind fun gn=>(nM gB.cO gB.cC gn).bind fun oN=>some oN)):=rfl
 rw [bV,AE (by omega),Option.bind_some]
 by_cases ah:p.2=1
 ·rw [if_pos (by simpa using ah),AE (by omega),Option.bind_some]
  by_cases aQ:q.2=1
  ·rw [if_pos (by simpa using aQ),Pe (by omega) (by omega),Option.bind_some]
   have gS:p.1*q.2+q.1*p.2=p.1+q.1:=by rw [ah,aQ,Int.mul_one,Int.mul_one]
   have SK:p.2*q.2=1:=by rw [ah,aQ];rfl
   rw [gS,SK,Q3] at eJ
   rw [gS,SK]
   show (nM (decide (p.1+q.1<0)) (L (p.1+q.1).natAbs) [1]).bind _=_
   rw [eJ,Option.bind_some]
  ·rw [if_neg (by simpa using aQ)]
   exact Ro
 ·rw [if_neg (by simpa using ah)]
  exact Ro
def pW (n:Int):Bool:=decide (-100≤n∧n≤100)
def nY (vw:Nat)(l:List Int):Bool:=decide (l.length=2*vw) && l.all pW
theorem YR (n:Int):zN n=some (pW n):=by
 unfold zN pW
 by_cases h : -100≤n<;>simp [h]
theorem Pf (s:cR)(p:Bool)(ai:k3 s=some p)(q5:p=true→s.b3.length≤6)(l:List Int)(aV:l.length≤maxLen):xe s l=some (p && nY s.b3.length l):=by
 have hm:=sQ
 unfold xe
 simp only [ai,Option.bind_eq_bind,Option.bind_some,e6]
 cases p with
 | false=>rfl
 | true =>
  have q5:=q5 rfl
  have hw:U (2*((s.b3.length:Nat):Int))=2*((s.b3.length:Nat):Int):=cx (by omega) (by omega)
  rw [hw]
  unfold nY
  by_cases e:l.length=2*s.b3.length
  ·have h1:I0 l (l.length:Nat) 0=some (if l.all pW then .inl () else .inr ()):=by
    refine Ag (f:=fun w=>wH l (l.length:Nat) w) l pW (fun n x R=> ?_) ?_
    ·have dz:=fB R
     unfold wH
     have c:(n:Int)<(l.length:Int):=by omega
     have dF:0≤(n:Int)∧(n:Int)<(l.length:Int):=by omega
     simp only [decide_eq_true c,if_true,if_pos dF,Int.toNat_natCast,R,Option.bind_eq_bind,Option.bind_some,qt]
     rw [i1 (by omega)]
     unfold pW
     by_cases q : -100≤x∧x≤100
     ·simp [q]
     ·rw [decide_eq_false q];simp
    ·simp [wH]
   have c:((l.length:Int) != 2*(s.b3.length:Int))=false:=by simp;omega
   simp only [c,h1,Bool.false_eq_true,if_false,if_true,Option.bind_some]
   cases l.all pW<;>simp [e]
  ·have c:((l.length:Int) != 2*(s.b3.length:Int))=true:=by simp;omega
   simp only [c,if_true]
   simp [e]
theorem Yj (s:cR)(q5:s.b3.length≤6)(l:List Int)(aV:l.length≤maxLen):zE s l=some (nY s.b3.length l):=by
 have hm:=sQ
 have hw:U (2*((s.b3.length:Nat):Int))=2*((s.b3.length:Nat):Int):=cx (by omega) (by omega)
 unfold zE Cm Cr nY
 simp only [e6,hw,Option.bind_eq_bind]
 obtain ⟨r,h1,o⟩:=Za (f:=fun w=>vx l (l.length:Nat) w) l (fun n=> !pW n) (fun n x R=>by
  have dz:=fB R
  unfold vx CQ
  have c:(n:Int)<(l.length:Int):=by omega
  have dF:0≤(n:Int)∧(n:Int)<(l.length:Int):=by omega
  simp only [decide_eq_true c,if_true,if_pos dF,Int.toNat_natCast,R,Option.bind_eq_bind,Option.bind_some,YR]
  rw [i1 (by omega)]
  cases pW x<;>rfl) (by simp [vx])
 have p7:Fg l (l.length:Nat) 0=some r:=h1
 rw [p7]
 have acD:(l.any fun n=> !pW n) = !l.all pW:=by
  rw [List.not_all_eq_any_not]
 rw [acD] at o
 by_cases e:l.length=2*s.b3.length
 ·have c:((l.length:Int) == 2*(s.b3.length:Int))=true:=by simp;omega
  rw [c]
  rcases o with ⟨k,rfl,ba,bE⟩|⟨rfl,bE⟩
  ·simp only [Bool.not_eq_true'] at bE
   simp [e,bE,ba]
  ·simp only [Bool.not_eq_false'] at bE
   simp [e,bE]
 ·have c:((l.length:Int) == 2*(s.b3.length:Int))=false:=by simp;omega
  rw [c]
  simp [e]
theorem sx {i:Int}{a:Nat}(h0:0≤i)(h1:i≤100)(bE:a≤1):U (U (2*i)+(a:Int))=(((2*i+a).toNat:Nat):Int):=by
 rw [cx (x:=2*i) (by omega) (by omega),cx (by omega) (by omega)]
 omega
theorem Yk (l:List Int)(h:l.length≤1048576):zu l=some l:=by
 have aS : ∀(n:Nat) x (row:List Int),l[n]? = some x→row.length=l.length→tJ l n row=some (.inl (((n+1:Nat):Int),row.set n x)):=by
  intro n x row R ar
  obtain ⟨a5,rfl⟩:=List.getElem?_eq_some_iff.1 R
  have hw:U ((n:Int)+1)=((n+1:Nat):Int):=by rw [cx (by omega) (by omega)];rfl
  simp only [tJ,e6,hw]
  simp [a5,ar]
 have he : ∀row:List Int,tJ l l.length row=some (.inr row):=by
  intro row
  simp [tJ,e6]
 have h1:Iu l 0 (List.replicate (len_ eI l).toNat 0)=some l :=
  JJ l (List.replicate (len_ eI l).toNat 0) (by simp [e6]) aS he
 unfold zu
 rw [h1,if_pos (by rw [e6];omega)]
 simp [e6]
theorem XA (l:List b0)(h:l.length≤1048576):zd l=some l:=by
 have aS : ∀(n:Nat) x (row:List b0),l[n]? = some x→row.length=l.length→tH l n row=some (.inl (((n+1:Nat):Int),row.set n x)):=by
  intro n x row R ar
  obtain ⟨a5,rfl⟩:=List.getElem?_eq_some_iff.1 R
  have hw:U ((n:Int)+1)=((n+1:Nat):Int):=by rw [cx (by omega) (by omega)];rfl
  simp only [tH,e6,hw,C7]
  simp [a5,ar]
 have he : ∀row:List b0,tH l l.length row=some (.inr row):=by
  intro row
  simp [tH,e6]
 have h1:HN l 0 (List.replicate (len_ b7 l).toNat (⟨ByteArray.empty,0,0,false⟩:b0))=some l :=
  JJ l _ (by simp [e6]) aS he
 unfold zd
 rw [h1,if_pos (by rw [e6];omega)]
 simp [e6]
theorem Xo (l:List cc)(h:l.length≤1048576):za l=some l:=by
 have aS : ∀(n:Nat) x (row:List cc),l[n]? = some x→row.length=l.length→tG l n row=some (.inl (((n+1:Nat):Int),row.set n x)):=by
  intro n x row R ar
  obtain ⟨a5,rfl⟩:=List.getElem?_eq_some_iff.1 R
  have hw:U ((n:Int)+1)=((n+1:Nat):Int):=by rw [cx (by omega) (by omega)];rfl
  simp only [tG,e6,hw,C2]
  simp [a5,ar]
 have he : ∀row:List cc,tG l l.length row=some (.inr row):=by
  intro row
  simp [tG,e6]
 have h1:Hh l 0 (List.replicate (len_ cl l).toNat (⟨0,0,0⟩:cc))=some l :=
  JJ l _ (by simp [e6]) aS he
 unfold za
 rw [h1,if_pos (by rw [e6];omega)]
 simp [e6]
theorem WK (s:cR)(h1:s.b3.length≤1048576)(o:s.bQ.length≤1048576):y7 s=some (s.b3,s.bQ):=by
 simp [y7,XA _ h1,Xo _ o]
def yE (P:List (List Int)):bt→Prop
 | none=>True
 | some (k,c)=> ∃x,P[k]? = some x∧x.length=c∧c≤1048576
theorem yE.adU {P:List (List Int)}{h:bt}(ft:yE P h):oM P h=true:=by
 cases h with
 | none=>rfl
 | some p =>
  obtain ⟨k,c⟩:=p
  obtain ⟨x,h1,o,-⟩:=ft
  have ba:=fB h1
  have bG:P.getD k []=x:=by rw [List.getD_eq_getElem?_getD,h1];rfl
  simp only [oM,bG,Bool.and_eq_true,decide_eq_true_eq]
  omega
theorem yE.set {P:List (List Int)}{k:Nat}{x y:List Int}(R:P[k]? = some x)(a1:y.length=x.length){h:bt}(ft:yE P h):yE (P.set k y) h:=by
 cases h with
 | none=>trivial
 | some p =>
  obtain ⟨j,c⟩:=p
  obtain ⟨z,h1,o,ae⟩:=ft
  by_cases aI:k=j
  ·subst aI
   rw [R] at h1
   obtain rfl:=Option.some.inj h1
   exact ⟨y,by rw [List.getElem?_set,if_pos rfl,if_pos (fB R)],by omega,ae⟩
  ·exact ⟨z,by rw [List.getElem?_set,if_neg aI];exact h1,o,ae⟩
def kJ:List b0→Nat→List Nat
 | [],_=>[]
 | x::l,n=>if x.k6 then kJ l (n+1) else n::kJ l (n+1)
theorem J3 : ∀(l:List b0) (n i:Nat),i∈kJ l n→n≤i∧i<n+l.length
 | [],n,i,h=>by simp [kJ] at h
 | x::l,n,i,h=>by
  rw [kJ] at h
  simp only [List.length_cons]
  split at h
  ·have:=J3 l (n+1) i h;omega
  ·rcases List.mem_cons.1 h with h|h
   ·omega
   ·have:=J3 l (n+1) i h;omega
theorem PJ : ∀(l:List b0) (n:Nat),(kJ l n).length≤l.length
 | [],n=>by simp [kJ]
 | x::l,n=>by
  rw [kJ]
  have:=PJ l (n+1)
  split<;>simp only [List.length_cons]<;>omega
theorem YS {l:List b0}{n:Nat}{x:b0}(h:l[n]? = some x)(m:Nat):kJ (l.drop n) m=if x.k6 then kJ (l.drop (n+1)) (m+1) else m::kJ (l.drop (n+1)) (m+1):=by
 rw [Pw h,kJ]
theorem Pg {f:Int×List Int→Option ((Int×List Int)⊕List Int)}(hl:List b0)(q5:hl.length≤1000)
 (h : ∀(n:Nat) acc x,hl[n]? = some x→f ((n:Int),acc)=if x.k6=true then some (.inl (U ((n:Int)+1),acc)) else if (acc++[(n:Int)]).length*8≤140737488355328 then some (.inl (U ((n:Int)+1),acc++[(n:Int)])) else none)
 (he : ∀acc,f ((hl.length:Int),acc)=some (.inr acc)):iter f ((0:Int),[])=some ((kJ hl 0).map (fun n:Nat=>(n:Int))):=by
 obtain ⟨s,h1,o⟩:=iF (fun (n:Nat) (acc:List Int)=>((n:Int),acc)) hl.length (fun n acc=>acc++(kJ (hl.drop n) n).map (fun n:Nat=>(n:Int))=(kJ hl 0).map (fun n:Nat=>(n:Int))∧acc.length≤n) (fun acc=>acc) (f:=f) (fun n a5 acc cQ=>by
  obtain ⟨cQ,aV⟩:=cQ
  have R:=List.getElem?_eq_getElem a5
  rw [YS R] at cQ
  rw [h n acc _ R,nt (by omega)]
  by_cases c:hl[n].k6=true
  ·rw [if_pos c] at cQ ⊢
   exact ⟨_,rfl,cQ,by omega⟩
  ·rw [if_neg c] at cQ ⊢
   rw [if_pos (by simp only [List.length_append,List.length_cons,List.length_nil];omega)]
   refine ⟨_,rfl,?_,by simp only [List.length_append,List.length_cons,List.length_nil];omega⟩
   rw [List.append_assoc]
   exact cQ) (fun acc _=>he acc) [] ⟨by rw [List.drop_zero];rfl,by simp⟩
 obtain ⟨o,-⟩:=o
 rw [List.drop_length] at o
 simp only [kJ,List.map_nil,List.append_nil] at o
 subst o
 exact h1
theorem JF (s:cR)(q5:s.b3.length≤1000):ua s=some ((kJ s.b3 0).map (fun n:Nat=>(n:Int))):=by
 unfold ua IJ
 rw [e6,Pg s.b3 q5 (fun n acc x R=>by
  have a5:=fB R
  unfold y1
  exact dD (by omega) (bH (by omega) (aR (gt rfl R) rfl))) (fun acc=>by
  unfold y1
  exact dU (by omega) rfl)]
 rfl
theorem NY (s:cR)(q5:s.b3.length≤1000):vN s=some ((kJ s.b3 0).map (fun n:Nat=>(n:Int))):=by
 unfold vN Fp
 rw [e6,Pg s.b3 q5 (fun n acc x R=>by
  have a5:=fB R
  unfold yP
  exact dD (by omega) (bH (by omega) (aR (gt rfl R) rfl))) (fun acc=>by
  unfold yP
  exact dU (by omega) rfl)]
 rfl
def hlen:bt→Nat
 | none=>0
 | some (_,c)=>c
def fJ (x:Rat):Int×Int:=(x.num,(x.den:Int))
def gj (x:Rat):Prop:=(x.num.natAbs:Int)<B 24∧(x.den:Int)<B 24
def cS (x:Rat):aM:=mk (fJ x)
instance aeY (x:Rat):Decidable (gj x):=by unfold gj;infer_instance
theorem gj.fg {x:Rat}(h:gj x):Fr (fJ x):=⟨by have:=x.den_pos;simp only [fJ];omega,by simp only [fJ];rw [Int.gcd,Int.natAbs_natCast];exact x.reduced,h.1,h.2⟩
theorem aaY {n d:Int}(bG:0<d):low n d=if gj (Rat.divInt n d) then some (fJ (Rat.divInt n d)) else none:=by
 have e1:(Rat.divInt n d).num=n / (Int.gcd n d:Int):=by rw [Rat.num_divInt,Int.sign_eq_one_of_pos bG,Int.one_mul,Int.gcd_comm]
 have aC:((Rat.divInt n d).den:Int)=d / (Int.gcd n d:Int):=by
  rw [Rat.den_divInt,if_neg (by omega),Int.gcd_comm]
  rw [Int.natCast_ediv,Int.natAbs_of_nonneg (by omega)]
 have bR:gj (Rat.divInt n d)↔fits ((n / (Int.gcd n d:Int)).natAbs:Int)∧fits (d / (Int.gcd n d:Int)):=by unfold gj fits;rw [e1,aC]
 unfold low
 by_cases c:gj (Rat.divInt n d)
 ·rw [if_pos c,if_pos (bR.1 c)]
  unfold fJ;rw [e1,aC]
 ·rw [if_neg c,if_neg (fun x=>c (bR.2 x))]
theorem J4 {n d:Int}{x:Rat}(bG:0<d)(e:(d:Rat)*x=n)(h:gj x):low n d=some (fJ x):=by
 have p5:(d:Rat)≠0:=fun c=>by
  have:d=0:=Rat.intCast_inj.1 (by rw [c];rfl)
  omega
 have:x=Rat.divInt n d:=by rw [Rat.divInt_eq_div,← e];grind
 rw [aaY bG,← this,if_pos h]
theorem xG (x:Rat):((x.den:Int):Rat)*x=((x.num:Int):Rat):=by
 have h:x=(x.num:Rat) / ((x.den:Int):Rat):=by rw [← Rat.divInt_eq_div,Rat.num_divInt_den]
 have bG:((x.den:Int):Rat)≠0:=fun c=>by
  have:(x.den:Int)=0:=Rat.intCast_inj.1 (by rw [c];rfl)
  have:=x.den_pos
  omega
 conv=>lhs;rhs;rw [h]
 grind
theorem QH {x y:Rat}(R:gj x)(a1:gj y)(h:gj (x*y)):sK (cS x) (cS y)=some (cS (x*y)):=by
 unfold cS
 rw [Zs R.fg a1.fg,J4 (x:=x*y) (Int.mul_pos R.fg.pos a1.fg.pos) ?_ h];rfl
 have h1:=xG x
 have o:=xG y
 simp only [fJ,Rat.intCast_mul]
 grind
theorem Kw {x y:Rat}(R:gj x)(a1:gj y)(h:gj (x+y)):q9 (cS x) (cS y)=some (cS (x+y)):=by
 unfold cS
 rw [ZE R.fg a1.fg,J4 (x:=x+y) (Int.mul_pos R.fg.pos a1.fg.pos) ?_ h];rfl
 have h1:=xG x
 have o:=xG y
 simp only [fJ,Rat.intCast_mul,Rat.intCast_add]
 grind
theorem gj.neg {x:Rat}(h:gj x):gj (-x):=by
 unfold gj at h ⊢
 rw [Rat.neg_num,Rat.neg_den,Int.natAbs_neg];exact h
theorem QI {x:Rat}(R:gj x):uj (cS x)=some (cS (-x)):=by
 unfold cS
 rw [ZD R.fg]
 simp only [fJ,Rat.neg_num,Rat.neg_den]
theorem aao {p:Int×Int}(h:Fr p):sN (mk p)=some true:=by
 have EJ:(L p.1.natAbs).length≤24:=(i4 (by omega)).2 h.num
 have LU:(L p.2).length≤24:=(i4 (by have:=h.pos;omega)).2 h.den
 have ai:=h.pos
 obtain ⟨ah,gg,hj⟩:=JE (a:=L p.1.natAbs) (by omega)
 obtain ⟨aQ,im,jN⟩:=JE (a:=L p.2) (by omega)
 have h1:ah=true:=hj.2 ⟨ji _,by omega⟩
 have o:aQ=true:=jN.2 ⟨ji _,by omega⟩
 subst h1;subst o
 have bG:(L p.2)≠[]:=fun c=>by have:=s5.1 c;omega
 have agf:=List.length_pos_iff.mpr bG
 have e1:zB (mk p).fp=some true:=by
  unfold zB
  show (rO (L p.1.natAbs)).bind _=_
  rw [gg]
  simp only [Option.bind_some,if_true,f6]
  show (if decide (p.1<0)=true then some (decide ((0:Int)<(L p.1.natAbs).length)) else some true)=_
  by_cases c:p.1<0
  ·rw [if_pos (by simpa using c)]
   have:L p.1.natAbs≠[]:=fun c=>by have:=s5.1 c;omega
   have:=List.length_pos_iff.mpr this
   rw [decide_eq_true (by omega)]
  ·rw [if_neg (by simpa using c)]
 unfold sN
 rw [e1]
 simp only [Option.bind_eq_bind,Option.bind_some,if_true,f6]
 show (rO (L p.2)).bind _=_
 rw [im]
 simp only [Option.bind_some,if_true]
 rw [show (mk p).hx=L p.2 from rfl,show (mk p).fp.cC=L p.1.natAbs from rfl]
 rw [if_neg (by simp [bG]),if_neg (by simp;omega),if_neg (by simp;omega)]
 rw [QD (ji _) (ji _) (by omega) (by omega),ei (by omega),ei (by omega),Qe (by omega),h.Se]
 simp only [Option.bind_some]
 rw [AE (by omega)]
 rfl
theorem KI {x:Rat}(R:gj x):sN (cS x)=some true:=aao R.fg
def jL (x:Rat):Int:=if x=0 then 0 else if x<0 then -1 else 1
theorem pT {x:Rat}(R:gj x):pO (cS x)=some (jL x):=by
 unfold pO
 rw [KI R]
 simp only [Option.bind_eq_bind,Option.bind_some,if_true,f6]
 show (if (((L (fJ x).1.natAbs).length:Int) == 0)=true then some 0 else if decide ((fJ x).1<0)=true then some (-1) else some 1)=_
 have e:((L (fJ x).1.natAbs).length:Int)=0↔x.num=0:=by
  rw [K5 (by omega)]
  simp only [fJ];omega
 unfold jL
 by_cases h0:x=0
 ·rw [if_pos h0,if_pos]
  rw [beq_iff_eq,e,Rat.num_eq_zero];exact h0
 ·rw [if_neg h0,if_neg (by rw [beq_iff_eq,e,Rat.num_eq_zero];exact h0)]
  by_cases h1:x<0
  ·have o : ¬0≤x:=by grind
   have ae : ¬0≤x.num:=fun c=>o (Rat.num_nonneg.1 c)
   rw [if_pos h1,if_pos (decide_eq_true (show (fJ x).1<0 by simp only [fJ];omega))]
  ·have o:0≤x:=by grind
   have ae:0≤x.num:=Rat.num_nonneg.2 o
   rw [if_neg h1,if_neg (fun c=>by have:=of_decide_eq_true c;simp only [fJ] at this;omega)]
theorem abv {x y:Rat}(R:gj x)(a1:gj y):ui (cS x) (cS y)=some (if x<y then -1 else if y<x then 1 else 0):=by
 unfold cS
 rw [Zu R.fg a1.fg]
 unfold kV
 simp only [fJ,← Rat.lt_iff]
theorem QJ {x y:Rat}(R:gj x)(a1:gj y)(h0:y≠0)(h:gj (x / y)):uh (cS x) (cS y)=some (cS (x / y)):=by
 have h1:=R.fg.tb
 have o:=R.fg.se
 have ae:=a1.fg.tb
 have av:=a1.fg.se
 have aA:=R.fg.pos
 have a2:(0:Int)<(fJ y).1.natAbs:=by
  have:(fJ y).1≠0:=fun c=>h0 (Rat.num_eq_zero.1 c)
  omega
 have bd:=sW (x:=(fJ x).1.natAbs) (y:=(fJ y).2) (by omega) (by have:=a1.fg.pos;omega) R.fg.num a1.fg.den
 have bn:=sW (x:=(fJ x).2) (y:=(fJ y).1.natAbs) (by omega) (by omega) R.fg.den a1.fg.num
 have e1:hL (L (fJ x).1.natAbs) (L (fJ y).2)=some (L (((fJ x).1.natAbs:Int)*(fJ y).2)):=by
  rw [mul_eq (g9 _) (g9 _) (by omega) (by omega),ei (by omega),ei (by have:=a1.fg.pos;omega)]
 have aC:hL (L (fJ x).2) (L (fJ y).1.natAbs)=some (L ((fJ x).2*((fJ y).1.natAbs:Int))):=by
  rw [mul_eq (g9 _) (g9 _) (by omega) (by omega),ei (by omega),ei (by omega)]
 unfold uh
 rw [KI R,KI a1]
 simp only [Option.bind_eq_bind,Option.bind_some,if_true]
 show (hL (L (fJ x).1.natAbs) (L (fJ y).2)).bind _=_
 rw [e1]
 simp only [Option.bind_some]
 show (hL (L (fJ x).2) (L (fJ y).1.natAbs)).bind _=_
 rw [aC]
 simp only [Option.bind_some]
 rw [JO (Int.mul_nonneg (by omega) (by have:=a1.fg.pos;omega)) (Int.mul_pos aA a2) (by omega) (by omega)]
 simp only [Option.bind_some]
 rw [J4 (x:=x / y) (Int.mul_pos aA a2) ?_ h];rfl
 have d1:=xG x
 have d2:=xG y
 have bR:ed (!((cS x).fp.cO == (cS y).fp.cO)) (((fJ x).1.natAbs:Int)*(fJ y).2)=(if y<0 then -1 else 1)*((fJ x).1*(fJ y).2):=by
  show ed (!(decide ((fJ x).1<0) == decide ((fJ y).1<0))) _=_
  have a5:=Rat.num_nonneg (q:=y)
  have hm:0≤((fJ x).1.natAbs:Int)*(fJ y).2:=Int.mul_nonneg (by omega) (by have:=a1.fg.pos;omega)
  have BT:y<0↔(fJ y).1<0:=by
   have ae:=Rat.num_nonneg (q:=y)
   simp only [fJ]
   constructor
   ·intro c;have : ¬0≤y:=by grind
    have av : ¬0≤y.num:=fun c=>this (ae.1 c)
    omega
   ·intro c;have : ¬0≤y:=fun dF=>by have:=ae.2 dF;omega
    grind
  by_cases bw:(fJ x).1<0<;>by_cases cd:(fJ y).1<0
  ·rw [if_pos (BT.2 cd),decide_eq_true bw,decide_eq_true cd]
   simp only [ed,BEq.rfl,Bool.not_true,Bool.false_eq_true,if_false]
   rw [show ((fJ x).1.natAbs:Int) = -(fJ x).1 by omega];grind
  ·rw [if_neg (fun c=>cd (BT.1 c)),decide_eq_true bw,decide_eq_false cd]
   simp only [ed,show (!(true == false))=true from rfl,if_true]
   rw [show ((fJ x).1.natAbs:Int) = -(fJ x).1 by omega];grind
  ·rw [if_pos (BT.2 cd),decide_eq_false bw,decide_eq_true cd]
   simp only [ed,show (!(false == true))=true from rfl,if_true]
   rw [show ((fJ x).1.natAbs:Int)=(fJ x).1 by omega];grind
  ·rw [if_neg (fun c=>cd (BT.1 c)),decide_eq_false bw,decide_eq_false cd]
   simp only [ed,BEq.rfl,Bool.not_true,Bool.false_eq_true,if_false]
   rw [show ((fJ x).1.natAbs:Int)=(fJ x).1 by omega];grind
 rw [bR]
 have c9:(((fJ y).1.natAbs:Int):Rat)=(if y<0 then -1 else 1)*(((fJ y).1:Int):Rat):=by
  have a5:=Rat.num_nonneg (q:=y)
  by_cases c:y<0
  ·have:y.num<0:=by have : ¬0≤y.num:=fun h=>by have:=a5.1 h;grind
                    omega
   rw [if_pos c,show ((fJ y).1.natAbs:Int) = -(fJ y).1 by simp only [fJ];omega,Rat.intCast_neg];grind
  ·have:0≤y.num:=a5.2 (by grind)
   rw [if_neg c,show ((fJ y).1.natAbs:Int)=(fJ y).1 by simp only [fJ];omega];grind
 rw [Rat.intCast_mul,c9,Rat.intCast_mul,Rat.intCast_mul]
 simp only [fJ] at *
 split<;>grind
theorem rZ {n:Int}(h:oH n):oU n=some (cS (n:Rat)):=by
 rw [Xw h]
 unfold cS fJ
 rw [Rat.num_intCast,Rat.den_intCast];rfl
theorem PK {n d:Int}{x:Rat}(h0:d≠0)(e:(d:Rat)*x=n)(a5:(n.natAbs:Int)<B 24)(bG:(d.natAbs:Int)<B 24):gj x:=by
 have p5:(d:Rat)≠0:=fun c=>h0 (Rat.intCast_inj.1 (by rw [c];rfl))
 have R:x=Rat.divInt n d:=by rw [Rat.divInt_eq_div,← e];grind
 rw [R]
 unfold gj
 rw [Rat.num_divInt,Rat.den_divInt,if_neg h0]
 constructor
 ·have h1:(d.sign*n / (d.gcd n:Int)).natAbs≤(d.sign*n).natAbs:=Int.natAbs_ediv_le_natAbs _ _
  have o:(d.sign*n).natAbs≤n.natAbs:=by
   rw [Int.natAbs_mul]
   have:d.sign.natAbs≤1:=by rw [Int.natAbs_sign];split<;>omega
   exact Nat.le_trans (Nat.mul_le_mul_right _ this) (by omega)
  omega
 ·have:d.natAbs / d.gcd n≤d.natAbs:=Nat.div_le_self _ _
  omega
theorem rj {x:Rat}:jL x=0↔x=0:=by
 unfold jL
 split
 ·simp_all
 ·split<;>simp_all
theorem qw {x:Rat}:0<jL x↔0<x:=by
 unfold jL
 split
 ·rename_i h;rw [h];simp
 ·split
  ·rename_i h1 o;constructor
   ·intro h;omega
   ·intro h;grind
  ·rename_i h1 o;constructor
   ·intro h;grind
   ·intro h;omega
theorem aap (n:Nat)(a5:n≤1000)(k:Nat)(ba:k<n)(a b:Nat→Rat)(bE:∀j,j<n→gj (a j))(aS:∀j,j<n→gj (b j))(hm:∀j,j<n→gj (-(a k)*b j))(bV:∀j,j<n→gj (a j-a k*b j)):
 zg k 0 n 0 n (a6 n fun j=>cS (a j)) (a6 n fun j=>cS (b j))=some (a6 n fun j=>cS (a j-a k*b j)):=by
 unfold zg
 refine bH (by omega) (aR (x:=cS (a k)) (by rw [Int.toNat_natCast];exact h8 ba) (aR (pT (bE k ba)) ?_))
 refine ob (fun h=> ?_) (fun h=> ?_)
 ·have h0:=rj.1 (by simpa using h)
  congr 1
  exact eW fun j _=>by rw [h0];congr 1;grind
 ·refine aR (QI (bE k ba)) ?_
  obtain ⟨s,e1,aC⟩:=iF (f:=fun w:Int×List aM=>v7 0 n 0 n ((n:Nat):Int) (a6 n fun j=>cS (b j)) (cS (-(a k))).fp.cO (cS (-(a k))).fp.cC (cS (-(a k))).hx w.1 w.2)
   (fun (i:Nat) (_:Unit)=>((i:Int),a6 n fun j=>if j<i then cS (a j-a k*b j) else cS (a j))) n (fun _ _=>True) (fun _=>a6 n fun j=>cS (a j-a k*b j))
   (fun i aq _ _=>by
     refine ⟨(),?_,trivial⟩
     unfold v7
     refine dD (by simp only;omega) (bH (by simp only;omega) (aR (x:=cS (b i)) (by simp only;rw [Int.toNat_natCast];exact h8 aq) (aR (pT (aS i aq)) ?_)))
     refine ob (fun h=> ?_) (fun h=> ?_)
     ·refine bH (by simp only;omega) (aR (x:=cS (a i)) (by simp only;rw [Int.toNat_natCast,h8 aq,if_neg (by omega)]) ?_)
      refine aR (QH (bE k ba).neg (aS i aq) (hm i aq)) (aR (Kw (bE i aq) (hm i aq) (by have:=bV i aq;rw [show a i + -(a k)*b i=a i-a k*b i by grind];exact this)) ?_)
      refine bH (by simp only;rw [cT];omega) ?_
      simp only
      rw [fC (by omega),Int.toNat_natCast,Nat.zero_add,kS]
      congr 3
      exact eW fun j _=>by
       by_cases c:j=i
       ·subst c;rw [if_pos rfl,if_pos (by omega)];congr 1;grind
       ·rw [if_neg c]
        by_cases cd:j<i
        ·rw [if_pos cd,if_pos (by omega)]
        ·rw [if_neg cd,if_neg (by omega)]
     ·have h0:b i=0:=rj.1 (by simpa using h)
      simp only
      rw [fC (by omega)]
      congr 3
      exact eW fun j _=>by
       by_cases c:j=i
       ·subst c;rw [if_neg (by omega),if_pos (by omega),h0];congr 1;grind
       ·by_cases cd:j<i
        ·rw [if_pos cd,if_pos (by omega)]
        ·rw [if_neg cd,if_neg (by omega)])
   (fun _ _=>by
     unfold v7
     refine dU (by simp) ?_
     simp only
     congr 2
     exact eW fun j aI=>if_pos aI) () trivial
  refine aR (x:=a6 n fun j=>cS (a j-a k*b j)) ?_ rfl
  unfold HZ
  have bR:(a6 n fun j=>if j<0 then cS (a j-a k*b j) else cS (a j))=a6 n fun j=>cS (a j):=eW fun j _=>if_neg (by omega)
  rw [bR] at e1
  exact e1
theorem ZF (n:Nat)(a5:n≤1000)(k:Nat)(ba:k<n)(a b:Nat→Rat)(bE:∀j,j<n→gj (a j))(aS:∀j,j<n→gj (b j))(hm:∀j,j<n→gj (-(a k)*b j))(bV:∀j,j<n→gj (a j-a k*b j)):
 zb k 0 n (a6 n fun j=>cS (a j)) (a6 n fun j=>cS (b j))=some (a6 n fun j=>cS (a j-a k*b j)):=by
 unfold zb
 rw [cT]
 refine bH (by omega) (aR (x:=cS (a k)) (by rw [Int.toNat_natCast];exact h8 ba) (aR (pT (bE k ba)) ?_))
 refine ob (fun h=> ?_) (fun h=> ?_)
 ·have h0:=rj.1 (by simpa using h)
  congr 1
  exact eW fun j _=>by rw [h0];congr 1;grind
 ·refine aR (QI (bE k ba)) ?_
  obtain ⟨s,e1,aC⟩:=iF (f:=fun w:Int×List aM=>vS 0 n ((n:Nat):Int) (a6 n fun j=>cS (b j)) (cS (-(a k))).fp.cO (cS (-(a k))).fp.cC (cS (-(a k))).hx w.1 w.2)
   (fun (i:Nat) (_:Unit)=>((i:Int),a6 n fun j=>if j<i then cS (a j-a k*b j) else cS (a j))) n (fun _ _=>True) (fun _=>a6 n fun j=>cS (a j-a k*b j))
   (fun i aq _ _=>by
     refine ⟨(),?_,trivial⟩
     unfold vS
     refine dD (by simp only;omega) (bH (by simp only;omega) (aR (x:=cS (b i)) (by simp only;rw [Int.toNat_natCast];exact h8 aq) (aR (pT (aS i aq)) ?_)))
     refine ob (fun h=> ?_) (fun h=> ?_)
     ·refine bH (by simp only;rw [cT];omega) (aR (x:=cS (a i)) (by simp only;rw [Int.toNat_natCast,h8 aq,if_neg (by omega)]) ?_)
      refine aR (QH (bE k ba).neg (aS i aq) (hm i aq)) (aR (Kw (bE i aq) (hm i aq) (by have:=bV i aq;rw [show a i + -(a k)*b i=a i-a k*b i by grind];exact this)) ?_)
      refine bH (by simp only;rw [cT];omega) ?_
      simp only
      rw [fC (by omega),Int.toNat_natCast,Nat.zero_add,kS]
      congr 3
      exact eW fun j _=>by
       by_cases c:j=i
       ·subst c;rw [if_pos rfl,if_pos (by omega)];congr 1;grind
       ·rw [if_neg c]
        by_cases cd:j<i
        ·rw [if_pos cd,if_pos (by omega)]
        ·rw [if_neg cd,if_neg (by omega)]
     ·have h0:b i=0:=rj.1 (by simpa using h)
      simp only
      rw [fC (by omega)]
      congr 3
      exact eW fun j _=>by
       by_cases c:j=i
       ·subst c;rw [if_neg (by omega),if_pos (by omega),h0];congr 1;grind
       ·by_cases cd:j<i
        ·rw [if_pos cd,if_pos (by omega)]
        ·rw [if_neg cd,if_neg (by omega)])
   (fun _ _=>by
     unfold vS
     refine dU (by simp) ?_
     simp only
     congr 2
     exact eW fun j aI=>if_pos aI) () trivial
  refine aR (x:=a6 n fun j=>cS (a j-a k*b j)) ?_ rfl
  unfold Hy
  have bR:(a6 n fun j=>if j<0 then cS (a j-a k*b j) else cS (a j))=a6 n fun j=>cS (a j):=eW fun j _=>if_neg (by omega)
  rw [bR] at e1
  exact e1
def mL (m N:Nat):List bt:=a6 m fun i=>some (i,N+1)
def dv (m:Nat)(t:cI):List Int:=a6 m fun i=>((t.B i:Nat):Int)
def hc (N:Nat)(t:cI)(i:Nat):List aM:=a6 (N+1) fun j=>cS (t.T i j)
def iR (m N:Nat)(t:cI):List (List aM):=a6 m (hc N t)
def la (N:Nat)(c:Nat→Rat):List aM:=a6 (N+1) fun j=>cS (c j)
structure K6 (m N:Nat) (t:cI) (c:Nat→Rat) (r k:Nat):Prop where
 T : ∀i,i<m→ ∀j,j≤N→gj (t.T i j)
 iq : ∀i,i<m→ ∀j,j≤N→gj ((t.cP r k).T i j)
 M : ∀i,i<m→i≠r→ ∀j,j≤N→gj (-(t.T i k)*(t.T r j / t.T r k))
 bf : ∀j,j≤N→gj (c j)
 sg : ∀j,j≤N→gj (c j-c k*(t.T r j / t.T r k))
 hm : ∀j,j≤N→gj (-(c k)*(t.T r j / t.T r k))
theorem aaq {m N:Nat}(hm:m≤1000)(fR:N<1000){t:cI}{c:Nat→Rat}{r k:Nat}(ar:r<m)(ba:k≤N)(ai:t.T r k≠0)(h:K6 m N t c r k)(lk:Int):
 zh r k lk (mL m N) (dv m t) (la N c) (iR m N t)=some (dv m (t.cP r k),la N (fun j=>c j-c k*(t.T r j / t.T r k)),iR m N (t.cP r k)):=by
 have q6 : ∀j,(t.cP r k).T r j=t.T r j / t.T r k:=fun j=>by simp [cI.cP]
 have yL : ∀i j,i≠r→(t.cP r k).T i j=t.T i j-t.T i k*(t.T r j / t.T r k):=fun i j aq=>by simp [cI.cP,aq]
 unfold zh
 refine bH (by unfold mL;rw [cT];omega) (aR (x:=some (r,N+1)) (by rw [Int.toNat_natCast];exact h8 ar) (aR (x:=(r,N+1)) rfl (aR (x:=hc N t r) (f7 ar) ?_)))
 refine bH (by simp only;omega) (aR (x:=cS (t.T r k)) (by rw [Int.toNat_natCast];exact h8 (by omega)) ?_)
 obtain ⟨s1,e1,-⟩:=iF (f:=fun w:Int×List (List aM)=>v8 r k (((N+1:Nat):Nat):Int) lk (mL m N) (dv m t) (la N c) (cS (t.T r k)).fp.cO (cS (t.T r k)).fp.cC (cS (t.T r k)).hx w.1 w.2)
  (fun (i:Nat) (_:Unit)=>((i:Int),a6 m fun eA=>if eA=r then a6 (N+1) (fun j=>if j<i then cS (t.T r j / t.T r k) else cS (t.T r j)) else hc N t eA)) (N+1) (fun _ _=>True)
  (fun _=>a6 m fun eA=>if eA=r then hc N (t.cP r k) r else hc N t eA)
  (fun i aq _ _=>by
    refine ⟨(),?_,trivial⟩
    unfold v8
    refine dD (by simp only;omega) (bH (by unfold mL;rw [cT];omega) (aR (x:=some (r,N+1)) (by rw [Int.toNat_natCast];exact h8 ar) (aR (x:=(r,N+1)) rfl ?_)))
    refine aR (x:=a6 (N+1) (fun j=>if j<i then cS (t.T r j / t.T r k) else cS (t.T r j))) (by simp only;rw [f7 ar,if_pos rfl]) ?_
    refine bH (by simp only;omega) (aR (x:=cS (t.T r i)) (by simp only;rw [Int.toNat_natCast,h8 aq,if_neg (by omega)]) ?_)
    refine aR (QJ (h.T r ar i (by omega)) (h.T r ar k ba) ai (by have:=h.iq r ar i (by omega);rw [q6] at this;exact this)) ?_
    simp only
    rw [fC (by omega),Int.toNat_natCast,Nat.zero_add,kS,kS]
    congr 3
    refine eW fun eA _=> ?_
    by_cases bw:eA=r
    ·rw [if_pos bw,if_pos bw]
     exact eW fun j _=>by
      by_cases cd:j=i
      ·subst cd;rw [if_pos rfl,if_pos (by omega)]
      ·rw [if_neg cd]
       by_cases jq:j<i
       ·rw [if_pos jq,if_pos (by omega)]
       ·rw [if_neg jq,if_neg (by omega)]
    ·rw [if_neg bw,if_neg bw,if_neg bw])
  (fun _ _=>by
    unfold v8
    refine dU (by simp) ?_
    simp only
    congr 2
    refine eW fun eA _=> ?_
    by_cases bw:eA=r
    ·rw [if_pos bw,if_pos bw]
     exact eW fun j aI=>by rw [if_pos aI,q6]
    ·rw [if_neg bw,if_neg bw]) () trivial
 refine aR (x:=a6 m fun eA=>if eA=r then hc N (t.cP r k) r else hc N t eA) ?_ ?_
 ·unfold H0
  have bR:(a6 m fun eA=>if eA=r then a6 (N+1) (fun j=>if j<0 then cS (t.T r j / t.T r k) else cS (t.T r j)) else hc N t eA)=iR m N t:=eW fun eA _=>by
   by_cases bw:eA=r
   ·rw [if_pos bw,bw];exact eW fun j _=>if_neg (by omega)
   ·rw [if_neg bw]
  rw [bR] at e1
  exact e1
 obtain ⟨s2,aC,-⟩:=iF (f:=fun w:Int×List (List aM)=>v9 r k ((m:Nat):Int) lk (mL m N) (dv m t) (la N c) w.1 w.2)
  (fun (i:Nat) (_:Unit)=>((i:Int),a6 m fun eA=>if eA=r∨eA<i then hc N (t.cP r k) eA else hc N t eA)) m (fun _ _=>True)
  (fun _=>iR m N (t.cP r k))
  (fun i aq _ _=>by
    refine ⟨(),?_,trivial⟩
    unfold v9
    refine dD (by simp only;omega) (ob (fun dr=> ?_) (fun yc=> ?_))
    ·have yF:i≠r:=by intro c;subst c;simp at dr
     refine bH (by unfold mL;rw [cT];simp only;omega) (aR (x:=some (i,N+1)) (by simp only;rw [Int.toNat_natCast];exact h8 aq) ?_)
     refine bH (by unfold mL;rw [cT];omega) (aR (x:=some (r,N+1)) (by rw [Int.toNat_natCast];exact h8 ar) ?_)
     refine aR (x:=(i,N+1)) rfl (aR (x:=(r,N+1)) rfl ?_)
     refine aR (x:=hc N t i) (by simp only;rw [f7 aq,if_neg (by omega)]) (aR (x:=hc N (t.cP r k) r) (by simp only;rw [f7 ar,if_pos (.inl rfl)]) ?_)
     refine bH (by simp only;omega) ?_
     refine aR (aap (N+1) (by omega) k (by omega) (fun j=>t.T i j) (fun j=>(t.cP r k).T r j) (fun j aI=>h.T i aq j (by omega)) (fun j aI=>h.iq r ar j (by omega)) (fun j aI=>by rw [q6];exact h.M i aq yF j (by omega)) (fun j aI=>by
      have:=h.iq i aq j (by omega);rw [yL i j yF] at this;rw [q6];exact this)) ?_
     simp only
     rw [fC (by omega),kS,kS]
     congr 3
     refine eW fun eA _=> ?_
     by_cases bw:eA=r
     ·rw [if_pos bw,if_pos (.inl bw),bw]
     ·rw [if_neg bw]
      by_cases cd:eA=i
      ·subst cd
       rw [if_pos rfl,if_pos (.inr (by omega))]
       exact eW fun j _=>by rw [yL eA j yF,q6]
      ·rw [if_neg cd]
       by_cases jq:eA<i
       ·rw [if_pos (.inr jq),if_pos (.inr (by omega))]
       ·rw [if_neg (by omega),if_neg (by omega)]
    ·have yF:i=r:=by simp at yc;omega
     simp only
     rw [fC (by omega)]
     congr 3
     refine eW fun eA _=> ?_
     by_cases bw:eA=r∨eA<i
     ·rw [if_pos bw,if_pos (by omega)]
     ·rw [if_neg bw,if_neg (by omega)])
  (fun _ _=>by
    unfold v9
    refine dU (by simp) ?_
    simp only
    congr 2
    exact eW fun eA kz=>if_pos (.inr kz)) () trivial
 refine aR (x:=iR m N (t.cP r k)) ?_ ?_
 ·unfold H2
  rw [show ((mL m N).length:Nat)=m from cT ..]
  have bR:(a6 m fun eA=>if eA=r∨eA<0 then hc N (t.cP r k) eA else hc N t eA)=a6 m fun eA=>if eA=r then hc N (t.cP r k) r else hc N t eA:=eW fun eA _=>by
   by_cases bw:eA=r
   ·rw [if_pos (.inl bw),if_pos bw,bw]
   ·rw [if_neg (by omega),if_neg bw]
  rw [bR] at aC
  exact aC
 refine aR (x:=hc N (t.cP r k) r) (f7 ar) (bH (by simp only;omega) ?_)
 refine aR (ZF (N+1) (by omega) k (by omega) c (fun j=>(t.cP r k).T r j) (fun j aI=>h.bf j (by omega)) (fun j aI=>h.iq r ar j (by omega)) (fun j aI=>by rw [q6];exact h.hm j (by omega)) (fun j aI=>by rw [q6];exact h.sg j (by omega))) ?_
 refine bH (by unfold la;rw [cT,cT]) (bH (by unfold dv;rw [cT];omega) (bH (by unfold dv;rw [cT,Int.toNat_natCast];omega) ?_))
 congr 1
 rw [Int.toNat_natCast,Nat.zero_add]
 congr 1
 ·unfold dv
  rw [kS]
  exact eW fun i _=>by
   simp only [cI.cP]
   split<;>rfl
 ·congr 1
  ·exact eW fun j _=>by rw [q6]
  ·unfold iR
   rw [kS]
   exact eW fun i _=>by
    split
    ·rename_i bw;rw [bw]
    ·rfl
theorem aar {m:Nat}(hm:m≤1000)(t:cI)(lk:Int)(rows:List (List aM))(cost:List aM)(j:Nat): ∃b,zA ⟨lk,rows,dv m t,cost⟩ (j:Int)=some b∧(b=true↔ ∃i,i<m∧t.B i=j):=by
 unfold zA
 obtain ⟨r,e,h⟩:=rT (f:=fun w:Int=>yZ j (dv m t) ((m:Nat):Int) w) (fun (i:Nat) (_:Unit)=>(i:Int)) m (fun i _=> ∀k,k<i→t.B k≠j) (fun r=>(r = .inr ()∧ ∃i,i<m∧t.B i=j)∨(r = .inl ()∧ ¬∃i,i<m∧t.B i=j))
  (fun i aq _ cQ=>by
    unfold yZ
    by_cases c:t.B i=j
    ·right
     refine ⟨_,dD (by omega) (bH (by unfold dv;rw [cT];omega) (aR (x:=((t.B i:Nat):Int)) (by rw [Int.toNat_natCast];exact f7 aq) (gv (by simp [c]) rfl))),.inl ⟨rfl,i,aq,c⟩⟩
    ·left
     refine ⟨(),dD (by omega) (bH (by unfold dv;rw [cT];omega) (aR (x:=((t.B i:Nat):Int)) (by rw [Int.toNat_natCast];exact f7 aq) (kk (by simp;omega) (by rw [fC (by omega)])))),fun k ba=> ?_⟩
     by_cases e:k=i
     ·rw [e];exact c
     ·exact cQ k (by omega))
  (fun _ cQ=>⟨_,dU (by omega) rfl,.inr ⟨rfl,fun ⟨i,aq,e⟩=>cQ i aq e⟩⟩) () (fun k ba=>by omega)
 have eH:CM j (dv m t) (len_ eI (dv m t)) 0=some r:=by
  unfold CM;rw [f6,show (dv m t).length=m from cT ..];exact e
 rcases h with ⟨rfl,h⟩|⟨rfl,h⟩
 ·exact ⟨true,aR eH rfl,by simp [h]⟩
 ·exact ⟨false,aR eH rfl,by simp [h]⟩
theorem aaZ {N:Nat}(fR:N<1000)(lk:Int)(rows:List (List aM))(lg:List Int)(c:Nat→Rat){j:Nat}(aI:j≤N)(bf:gj (c j)):ub ⟨lk,rows,lg,la N c⟩ (j:Int) false=some (jL (c j)):=by
 unfold ub
 refine bH (by unfold la;rw [cT];omega) (aR (x:=cS (c j)) (by rw [Int.toNat_natCast];exact f7 (by omega)) (aR (pT bf) ?_))
 refine aR (x:= .inl (jL (c j))) ?_ rfl
 unfold IP
 rw [iter]
 have:y2 lk rows lg (la N c) (j:Int) false (jL (c j)) 0=some (.inr (.inl (jL (c j)))):=by
  unfold y2
  exact ob (fun _=>rfl) (fun _=>rfl)
 simp only
 rw [this];rfl
theorem DA {x y z w:Rat}(a1:0<y)(hw:0<w):(x / y≤z / w↔x*w≤z*y)∧(x / y=z / w↔x*w=z*y):=by
 have e1:x*w=(x / y)*(y*w):=by grind
 have aC:z*y=(z / w)*(y*w):=by grind
 have ai:0<y*w:=Rat.mul_pos a1 hw
 constructor
 ·rw [e1,aC]
  constructor
  ·intro h;exact Rat.mul_le_mul_of_nonneg_right h (Rat.le_of_lt ai)
  ·intro h
   apply Classical.byContradiction
   intro c
   have:z / w<x / y:=by grind
   have:=Rat.mul_lt_mul_of_pos_right this ai
   grind
 ·rw [e1,aC]
  constructor
  ·intro h;rw [h]
  ·intro h
   have dr:y*w≠0:=by grind
   grind
def DM (m N:Nat)(t:cI)(j:Nat)(r:Int):Prop :=
 (r = -1∧ ∀i,i<m→ ¬0<t.T i j)∨ ∃b:Nat,r=b∧b<m∧0<t.T b j∧(∀i,i<m→0<t.T i j→t.T b N*t.T i j≤t.T i N*t.T b j)∧(∀i,i<m→0<t.T i j→t.T b N*t.T i j=t.T i N*t.T b j→t.B b≤t.B i)
theorem aas {m N:Nat}(hm:m≤1000)(fR:N<1000)(t:cI)(lk:Int)(cost:List aM){j:Nat}(aI:j≤N)(iP:∀i,i<m→ ∀j,j≤N→gj (t.T i j))(bc:∀i,i<m→0<t.T i j→gj (t.T i N / t.T i j)):
 ∃r,zC ⟨lk,iR m N t,dv m t,cost⟩ (j:Int)=some r∧DM m N t j r:=by
 unfold zC
 obtain ⟨r,e,h⟩:=rT (f:=fun w:Int×Int×Bool×(List Int)×(List Int)=>wk lk (iR m N t) (dv m t) cost j ((m:Nat):Int) w.1 w.2.1 w.2.2.1 w.2.2.2.1 w.2.2.2.2)
  (fun (i:Nat) (s:Int×aM)=>(s.1,(i:Int),s.2.fp.cO,s.2.fp.cC,s.2.hx)) m
  (fun n s=>(s.1 = -1∧ ∀i,i<n→ ¬0<t.T i j)∨ ∃b:Nat,s.1=b∧b<n∧0<t.T b j∧s.2=cS (t.T b N / t.T b j)∧ ∀i,i<n→0<t.T i j→t.T b N / t.T b j<t.T i N / t.T i j∨(t.T b N / t.T b j=t.T i N / t.T i j∧t.B b≤t.B i))
  (fun r=>DM m N t j r)
  (fun n a5 s cQ=>by
    left
    unfold wk
    have g1:0≤((n:Nat):Int)∧((n:Nat):Int)<((iR m N t).length:Nat):=by unfold iR;rw [cT];omega
    have g2:(iR m N t)[((n:Nat):Int).toNat]? = some (hc N t n):=by rw [Int.toNat_natCast];exact f7 a5
    have g3:0≤((j:Nat):Int)∧((j:Nat):Int)<((hc N t n).length:Nat):=by unfold hc;rw [cT];omega
    have g4:(hc N t n)[((j:Nat):Int).toNat]? = some (cS (t.T n j)):=by rw [Int.toNat_natCast];exact f7 (by omega)
    have k2:U ((n:Int)+1)=((n+1:Nat):Int):=fC (by omega)
    have wl:U (len_ aO (hc N t n)-1)=(N:Int):=by
     rw [e6,show (hc N t n).length=N+1 from cT ..,cx (by omega) (by omega)];omega
    by_cases ai:0<t.T n j
    ·have bV : ¬jL (t.T n j)≤0:=by have:=qw.2 ai;omega
     have g5:0≤U (len_ aO (hc N t n)-1)∧U (len_ aO (hc N t n)-1)<((hc N t n).length:Nat):=by rw [wl];unfold hc;rw [cT];omega
     have g6:(hc N t n)[(U (len_ aO (hc N t n)-1)).toNat]? = some (cS (t.T n N)):=by rw [wl,Int.toNat_natCast];exact f7 (by omega)
     have g7:uh (cS (t.T n N)) (cS (t.T n j))=some (cS (t.T n N / t.T n j)):=QJ (iP n a5 N (by omega)) (iP n a5 j aI) (by grind) (bc n a5 ai)
     rcases cQ with ⟨h1,o⟩|⟨b,h1,aS,jD,o,ae⟩
     ·refine ⟨((n:Int),cS (t.T n N / t.T n j)),dD (by simp only;omega) (bH g1 (aR g2 (bH g3 (aR g4 (aR (pT (iP n a5 j aI)) (dU bV (bH g5 (aR g6 (aR g7 (dD (by simp only;omega) ?_)))))))))),.inr ⟨n,rfl,by omega,ai,rfl,fun i aq ij=> ?_⟩⟩
      ·simp only;rw [k2]
      ·by_cases c:i=n
       ·subst c;exact .inr ⟨rfl,Nat.le_refl _⟩
       ·exact (o i (by omega) ij).elim
     ·have g8:ui (cS (t.T n N / t.T n j)) (⟨(⟨s.2.fp.cO,s.2.fp.cC⟩:bp),s.2.hx⟩:aM)=some (if t.T n N / t.T n j<t.T b N / t.T b j then -1 else if t.T b N / t.T b j<t.T n N / t.T n j then 1 else 0):=by
       have:(⟨(⟨s.2.fp.cO,s.2.fp.cC⟩:bp),s.2.hx⟩:aM)=cS (t.T b N / t.T b j):=o
       rw [this]
       exact abv (bc n a5 ai) (bc b (by omega) jD)
      by_cases bw:t.T n N / t.T n j<t.T b N / t.T b j
      ·rw [if_pos bw] at g8
       refine ⟨((n:Int),cS (t.T n N / t.T n j)),dD (by simp only;omega) (bH g1 (aR g2 (bH g3 (aR g4 (aR (pT (iP n a5 j aI)) (dU bV (bH g5 (aR g6 (aR g7 (dU (by simp only;omega) (aR g8 (dD (by omega) ?_)))))))))))),.inr ⟨n,rfl,by omega,ai,rfl,fun i aq ij=> ?_⟩⟩
       ·simp only;rw [k2]
       ·by_cases c:i=n
        ·subst c;exact .inr ⟨rfl,Nat.le_refl _⟩
        ·rcases ae i (by omega) ij with h|⟨h,-⟩
         ·left;grind
         ·left;rw [← h];exact bw
      ·rw [if_neg bw] at g8
       by_cases cd:t.T b N / t.T b j<t.T n N / t.T n j
       ·rw [if_pos cd] at g8
        refine ⟨s,dD (by simp only;omega) (bH g1 (aR g2 (bH g3 (aR g4 (aR (pT (iP n a5 j aI)) (dU bV (bH g5 (aR g6 (aR g7 (dU (by simp only;omega) (aR g8 (dU (by omega) (kk (by decide) ?_))))))))))))),.inr ⟨b,h1,by omega,jD,o,fun i aq ij=> ?_⟩⟩
        ·simp only;rw [k2]
        ·by_cases c:i=n
         ·subst c;exact .inl cd
         ·exact ae i (by omega) ij
       ·rw [if_neg cd] at g8
        have LY:t.T b N / t.T b j=t.T n N / t.T n j:=by grind
        have EL:0≤((n:Nat):Int)∧((n:Nat):Int)<((dv m t).length:Nat):=by unfold dv;rw [cT];omega
        have EM:(dv m t)[((n:Nat):Int).toNat]? = some ((t.B n:Nat):Int):=by rw [Int.toNat_natCast];exact f7 a5
        have Si:0≤s.1∧s.1<((dv m t).length:Nat):=by unfold dv;rw [cT];omega
        have Sj:(dv m t)[s.1.toNat]? = some ((t.B b:Nat):Int):=by rw [h1,Int.toNat_natCast];exact f7 (by omega)
        by_cases jq:t.B n<t.B b
        ·refine ⟨((n:Int),cS (t.T n N / t.T n j)),dD (by simp only;omega) (bH g1 (aR g2 (bH g3 (aR g4 (aR (pT (iP n a5 j aI)) (dU bV (bH g5 (aR g6 (aR g7 (dU (by simp only;omega) (aR g8 (dU (by omega) (gv rfl (bH EL (aR EM (bH Si (aR Sj (dD (by omega) ?_)))))))))))))))))),.inr ⟨n,rfl,by omega,ai,rfl,fun i aq ij=> ?_⟩⟩
         ·simp only;rw [k2]
         ·by_cases c:i=n
          ·subst c;exact .inr ⟨rfl,Nat.le_refl _⟩
          ·rcases ae i (by omega) ij with h|⟨h,cD⟩
           ·left;grind
           ·right;exact ⟨by grind,by omega⟩
        ·refine ⟨s,dD (by simp only;omega) (bH g1 (aR g2 (bH g3 (aR g4 (aR (pT (iP n a5 j aI)) (dU bV (bH g5 (aR g6 (aR g7 (dU (by simp only;omega) (aR g8 (dU (by omega) (gv rfl (bH EL (aR EM (bH Si (aR Sj (dU (by omega) ?_)))))))))))))))))),.inr ⟨b,h1,by omega,jD,o,fun i aq ij=> ?_⟩⟩
         ·simp only;rw [k2]
         ·by_cases c:i=n
          ·subst c;exact .inr ⟨LY,by omega⟩
          ·exact ae i (by omega) ij
    ·have bV:jL (t.T n j)≤0:=by
      have : ¬0<jL (t.T n j):=fun c=>ai (qw.1 c)
      omega
     refine ⟨s,dD (by simp only;omega) (bH g1 (aR g2 (bH g3 (aR g4 (aR (pT (iP n a5 j aI)) (dD bV ?_)))))),?_⟩
     ·simp only;rw [k2]
     ·rcases cQ with ⟨h1,o⟩|⟨b,h1,aS,jD,o,ae⟩
      ·exact .inl ⟨h1,fun i aq=>if c:i=n then c▸ai else o i (by omega)⟩
      ·exact .inr ⟨b,h1,by omega,jD,o,fun i aq ij=>if c:i=n then (ai (c▸ij)).elim else ae i (by omega) ij⟩)
  (fun s cQ=>by
    refine ⟨s.1,by unfold wk;exact dU (by simp only;omega) rfl,?_⟩
    rcases cQ with ⟨h1,o⟩|⟨b,h1,aS,jD,o,ae⟩
    ·exact .inl ⟨h1,o⟩
    ·refine .inr ⟨b,h1,aS,jD,fun i aq ij=> ?_,fun i aq ij he=> ?_⟩
     ·rw [← (DA jD ij).1]
      rcases ae i aq ij with h|⟨h,-⟩
      ·exact Rat.le_of_lt h
      ·rw [h];exact Rat.le_refl
     ·rw [← (DA jD ij).2] at he
      rcases ae i aq ij with h|⟨-,h⟩
      ·rw [he] at h;grind
      ·exact h) ((-1:Int),(⟨⟨false,[]⟩,[]⟩:aM)) (.inl ⟨rfl,fun i aq=>by omega⟩)
 refine ⟨r,aR ?_ rfl,h⟩
 unfold Iz
 rw [e6,show (iR m N t).length=m from cT ..]
 exact e
theorem AF {m N:Nat}(t:cI):(mL m N).all (oM (iR m N t))=true:=by
 rw [List.all_eq_true]
 intro x R
 obtain ⟨i,aq,rfl⟩:=DJ.1 R
 simp only [oM]
 have h1:(iR m N t).length=m:=cT ..
 have o:(iR m N t).getD i []=hc N t i:=by
  rw [List.getD_eq_getElem?_getD,show (iR m N t)[i]? = some (hc N t i) from f7 aq];rfl
 rw [h1,o,show (hc N t i).length=N+1 from cT ..]
 simp [aq]
theorem uE {m N:Nat}(t:cI):(mL m N).map (gz (iR m N t))=iR m N t:=by
 unfold mL
 rw [Kd]
 exact eW fun i aq=>by
  have o:(iR m N t).getD i []=hc N t i:=by
   rw [List.getD_eq_getElem?_getD,show (iR m N t)[i]? = some (hc N t i) from f7 aq];rfl
  simp only [gz]
  rw [o]
  exact List.take_of_length_le (Nat.le_of_eq (cT ..))
theorem aat {m N:Nat}(hm:m≤1000)(fR:N<1000)(t:cI)(c:Nat→Rat)(deep:Bool)(G:Nat→Prop)(aer:∀j,G j→ ∀i,i<m→t.B i≠j)
 (bV : ∀j,j<N→ ∃g,ub ⟨N,iR m N t,dv m t,la N c⟩ (j:Int) deep=some g∧((∀i,i<m→t.B i≠j)→(0<g↔G j))) :
 ∃r,CN deep N (mL m N) (dv m t) (la N c) (iR m N t) (-1) 0=some r∧((r = -1∧ ∀j,j<N→ ¬G j)∨ ∃s:Nat,r=s∧s<N∧G s∧ ∀j,j<s→ ¬G j):=by
 unfold CN
 refine rT (f:=fun w:Int×Int=>tL deep N (mL m N) (dv m t) (la N c) (iR m N t) w.1 w.2) (fun (i:Nat) (e:Int)=>(e,(i:Int))) N
  (fun n e=>(e = -1∧ ∀j,j<n→ ¬G j)∨ ∃s:Nat,e=s∧s<N∧G s∧ ∀j,j<s→ ¬G j) _ (fun n a5 e cQ=> ?_) (fun e cQ=> ?_) (-1) (.inl ⟨rfl,fun j aI=>by omega⟩)
 ·rcases cQ with ⟨rfl,h⟩|⟨s,rfl,u9,sk,adV⟩
  ·left
   obtain ⟨b,e1,aC⟩:=aar hm t (N:Int) (iR m N t) (la N c) n
   obtain ⟨g,g1,g2⟩:=bV n a5
   unfold tL
   cases b with
   | true =>
    obtain ⟨i,aq,Eo⟩:=aC.1 rfl
    refine ⟨-1,dD (by simp only;omega) (dD (by simp) (bH (AF t) (aR (by rw [uE];exact e1) (gv rfl ?_)))),.inl ⟨rfl,fun j aI dI=> ?_⟩⟩
    ·simp only;rw [fC (by omega)]
    ·by_cases c:j=n
     ·subst c;exact aer j dI i aq Eo
     ·exact h j (by omega) dI
   | false =>
    have Sk : ∀i,i<m→t.B i≠n:=fun i aq e=>by have:=aC.2 ⟨i,aq,e⟩;simp at this
    by_cases dI:G n
    ·refine ⟨(n:Int),dD (by simp only;omega) (dD (by simp) (bH (AF t) (aR (by rw [uE];exact e1) (kk rfl (aR (by rw [uE];exact g1) (dD ((g2 Sk).2 dI) ?_)))))),.inr ⟨n,rfl,a5,dI,h⟩⟩
     simp only;rw [fC (by omega)]
    ·refine ⟨-1,dD (by simp only;omega) (dD (by simp) (bH (AF t) (aR (by rw [uE];exact e1) (kk rfl (aR (by rw [uE];exact g1) (dU (fun x=>dI ((g2 Sk).1 x)) ?_)))))),.inl ⟨rfl,fun j aI=>if c:j=n then c▸dI else h j (by omega)⟩⟩
     simp only;rw [fC (by omega)]
  ·right
   exact ⟨(s:Int),by unfold tL;exact dD (by simp only;omega) (dU (by simp only;omega) rfl),.inr ⟨s,rfl,u9,sk,adV⟩⟩
 ·exact ⟨e,by unfold tL;exact dU (by simp only;omega) rfl,cQ⟩
theorem cI.Yl {gm m N K:Nat}{A obj:Nat→Nat→Rat}{t:cI}(h:ga gm m N A t){j:Nat}(g:t.rD m K obj j): ∀i,i<m→t.B i≠j :=
 fun i aq e=>hS.not_zero g fun l _=>by rw [← e];exact h.z7 (obj l) aq
theorem abw {gm m N K:Nat}(hm:m≤1000)(fR:N<1000){A obj:Nat→Nat→Rat}(deep:Bool)(Inv:cI→Prop)
 (inv : ∀t,Inv t→ga gm m N A t∧t.lP m N) (gQ : ∀t r s,Inv t→o2 m N K obj (fun _=>True) t r s→Inv (t.cP r s))
 (bV : ∀t,Inv t→ ∀j,j<N→ ∃g,ub ⟨N,iR m N t,dv m t,la N (t.dB m (obj 0))⟩ (j:Int) deep=some g∧((∀i,i<m→t.B i≠j)→(0<g↔t.rD m K obj j)))
 (iP : ∀t,Inv t→ ∀i,i<m→ ∀j,j≤N→gj (t.T i j)) (bc : ∀t,Inv t→ ∀i,i<m→ ∀j,j≤N→0<t.T i j→gj (t.T i N / t.T i j))
 (ai : ∀t,Inv t→ ∀r k,r<m→k<N→t.T r k≠0→K6 m N t (t.dB m (obj 0)) r k) (t:cI) (cb:Inv t) :
 ∃b da,w7 deep N (mL m N) (dv m t) (la N (t.dB m (obj 0))) (iR m N t)=some (b,dv m da,la N (da.dB m (obj 0)),iR m N da)∧Inv da ∧
  ((b=true∧ ∀j,j<N→ ¬da.rD m K obj j)∨(b=false∧ ∃s,s<N∧da.rD m K obj s∧ ∀i,i<m→ ¬0<da.T i s)):=by
 obtain ⟨x,dC,da,e,⟨RK,cQ⟩,-,-,ek⟩:=OI (gm:=gm) (m:=m) (N:=N) (K:=K) (A:=A) (obj:=obj) (bY:=fun _=>True)
  (f:=fun w:(List Int)×(List aM)×(List (List aM))=>y0 deep N (mL m N) w.1 w.2.1 w.2.2)
  (fun a t=>a=(dv m t,la N (t.dB m (obj 0)),iR m N t)∧Inv t)
  (fun a x t=> ∃b,x=(b,dv m t,la N (t.dB m (obj 0)),iR m N t)∧((b=true∧ ∀j,j<N→ ¬t.rD m K obj j)∨(b=false∧ ∃s,s<N∧t.rD m K obj s∧ ∀i,i<m→ ¬0<t.T i s)))
  (fun a t cX ok nJ=>by
    obtain ⟨rfl,cQ⟩:=cX
    obtain ⟨r,e1,aC⟩:=aat hm fR t (t.dB m (obj 0)) deep (t.rD m K obj) (fun j dI=>cI.Yl ok dI) (bV t cQ)
    simp only
    unfold y0
    rcases aC with ⟨rfl,h⟩|⟨s,rfl,EN,dI,aV⟩
    ·left
     exact ⟨_,aR e1 (dD (by decide) rfl),true,rfl,.inl ⟨rfl,h⟩⟩
    ·obtain ⟨q,q1,aY⟩:=aas hm fR t (N:Int) (la N (t.dB m (obj 0))) (j:=s) (by omega) (iP t cQ) (fun i aq ij=>bc t cQ i aq s (by omega) ij)
     rcases aY with ⟨rfl,h⟩|⟨b,rfl,aS,jD,h1,o⟩
     ·left
      exact ⟨_,aR e1 (dU (by omega) (bH (AF t) (aR (by rw [uE];exact q1) (dD (by decide) rfl)))),false,rfl,.inr ⟨rfl,s,EN,dI,h⟩⟩
     ·right
      have dx:o2 m N K obj (fun _=>True) t b s:=⟨EN,trivial,dI,fun j aI _=>aV j aI,aS,jD,h1,o⟩
      refine ⟨_,b,s,aR e1 (dU (by omega) (bH (AF t) (aR (by rw [uE];exact q1) (dU (by omega) (aR (aaq hm fR aS (by omega) (by grind) (ai t cQ b s aS EN (by grind)) N) rfl))))),dx,?_,gQ t b s cQ dx⟩
      refine Prod.ext rfl (Prod.ext ?_ rfl)
      exact eW fun j _=>by rw [ok.J2 (obj 0) aS EN (by grind)])
  (a:=(dv m t,la N (t.dB m (obj 0)),iR m N t)) (t:=t) ⟨rfl,cb⟩ (inv t cb).1 (inv t cb).2
 obtain ⟨b,rfl,aS⟩:=ek
 refine ⟨b,da,?_,cQ,aS⟩
 unfold w7
 exact aR (x:=(b,dv m da,la N (da.dB m (obj 0)),iR m N da)) (by unfold IA;exact e) rfl
structure me (p:hv) (m n:Nat) (a:Nat→Nat→Int) (b:Nat→Int):Prop where
 rows:p.fu=m
 gr:p.eb=n
 gO:p.dJ.length=m*n
 K7 : ∀i,i<m→ ∀j,j<n→p.dJ[i*n+j]? = some (a i j)
 vv:p.ej.length=m
 x7 : ∀i,i<m→p.ej[i]? = some (b i)
 hm:m≤20
 a5:n≤40
 sy : ∀i,i<m→ ∀j,j<n→ -100≤a i j∧a i j≤100
 vu : ∀i,i<m→ -100≤b i∧b i≤100
theorem sb {p:hv}{m n:Nat}{a:Nat→Nat→Int}{b:Nat→Int}(h:me p m n a b){i:Nat}(aq:i<m)(j:Nat): -100≤kl m n a b i j∧kl m n a b i j≤100:=by
 have aS:=h.vu i aq
 unfold kl kf
 by_cases c:j<n
 ·have bE:=h.sy i aq j c
  rw [if_pos c];split<;>omega
 ·rw [if_neg c]
  split
  ·split<;>omega
  ·split<;>omega
theorem KJ {p:hv}{m n:Nat}{a:Nat→Nat→Int}{b:Nat→Int}(h:me p m n a b){i:Nat}(aq:i<m)(j:Nat):en 100 (dG m n a b i j) :=
 ⟨kl m n a b i j,rfl,by have:=sb h aq j;omega⟩
theorem aa0:(1000000000000000000:Int)<B 24:=by decide
theorem JP {K:Nat}{x:Rat}(h:en K x)(ba:K≤1000000000000000000):gj x:=by
 obtain ⟨z,rfl,cw⟩:=h
 have:=aa0
 exact PK (n:=z) (d:=1) (by decide) (by rw [show ((1:Int):Rat)=1 from rfl];grind) (by omega) (by omega)
theorem Kx {p:hv}{m n:Nat}{a:Nat→Nat→Int}{b:Nat→Int}(h:me p m n a b){i:Nat}(aq:i<m):ug p i=some (a6 n (a i)):=by
 have hm:=h.hm
 have a5:=h.a5
 have h1:i*n≤20*40:=Nat.mul_le_mul (by omega) a5
 have o:(i+1)*n≤20*40:=Nat.mul_le_mul (by omega) a5
 have ae:(i+1)*n≤m*n:=Nat.mul_le_mul_right _ aq
 have e1:U ((i:Int)*p.eb)=((i*n:Nat):Int):=by
  rw [h.gr,← Int.natCast_mul,cx (by omega) (by omega)]
 have aC:U (U ((i:Int)+1)*p.eb)=(((i+1)*n:Nat):Int):=by
  rw [h.gr,fC (by omega),← Int.natCast_mul,cx (by omega) (by omega)]
 have av:(i+1)*n=i*n+n:=Nat.succ_mul i n
 unfold ug
 rw [e1,aC,Int.toNat_natCast,Int.toNat_natCast,h.gO]
 refine bH (by omega) (bH (by omega) (bH (by omega) ?_))
 congr 1
 apply List.ext_getElem?
 intro j
 rw [List.getElem?_take,List.getElem?_drop]
 by_cases c:j<n
 ·rw [if_pos (by omega),h.K7 i aq j c,f7 c]
 ·rw [if_neg (by omega)]
  symm
  rw [List.getElem?_eq_none_iff,cT];omega
def gX (m n:Nat)(a:Nat→Nat→Int)(b:Nat→Int)(i j:Nat):Rat:=if j<n∨j=n+m then dj i (fun k=>dG m n a b k j) else 0
theorem Q4 {p:hv}{m n:Nat}{a:Nat→Nat→Int}{b:Nat→Int}(h:me p m n a b){i:Nat}(aq:i≤m)(j:Nat):en 2000 (gX m n a b i j):=by
 have hm:=h.hm
 unfold gX
 split
 ·exact (en.sum fun k ba=>KJ h (by omega) j).mono (by omega)
 ·exact ⟨0,rfl,by omega⟩
theorem XB {p:hv}{m n:Nat}{a:Nat→Nat→Int}{b:Nat→Int}(h:me p m n a b){i:Nat}(aq:i<m)(aS:b i<0)(x0:Int)(aY:List bt)(bJ:List (List aM))(bS:List Int)(cA:List aM):
 (CG (i:Int) (a6 n (a i)) (len_ eI (a6 n (a i))) p.fu p.eb p.dJ p.ej p.hH x0 aY bJ bS cA 0 ([]:List aM) >>= fun c4=>CH (i:Int) p.fu p.eb p.dJ p.ej p.hH x0 aY bJ bS cA 0 c4)=some (a6 (n+m) fun j=>cS (dG m n a b i j)):=by
 have hm:=h.hm
 have a5:=h.a5
 have bV:kf (b i) = -1:=by unfold kf;rw [if_pos aS]
 obtain ⟨s1,e1,-⟩:=iF (f:=fun w:Int×List aM=>vY (i:Int) (a6 n (a i)) ((n:Nat):Int) p.fu p.eb p.dJ p.ej p.hH x0 aY bJ bS cA w.1 w.2)
  (fun (k:Nat) (_:Unit)=>((k:Int),a6 k fun j=>cS (dG m n a b i j))) n (fun _ _=>True) (fun _=>a6 n fun j=>cS (dG m n a b i j))
  (fun k ba _ _=>by
    refine ⟨(),?_,trivial⟩
    have bE:=h.sy i aq k ba
    unfold vY
    have e:U ((-1:Int)*a i k)=kl m n a b i k:=by
     rw [cx (by omega) (by omega)];unfold kl;rw [if_pos ba,bV]
    refine dD (by simp only;omega) (bH (by rw [cT];simp only;omega) (aR (x:=a i k) (by simp only;rw [Int.toNat_natCast];exact f7 ba) (aR (x:=cS (dG m n a b i k)) ?_ (bH (by simp only [List.length_append,cT,List.length_cons,List.length_nil];omega) ?_))))
    ·rw [e];exact rZ (by have:=sb h aq k;rw [mC];omega)
    ·simp only;rw [fC (by omega),k4])
  (fun _ _=>by unfold vY;exact dU (by simp) rfl) () trivial
 refine aR (x:=a6 n fun j=>cS (dG m n a b i j)) (by unfold CG;rw [f6,cT];exact e1) ?_
 obtain ⟨s2,aC,-⟩:=iF (f:=fun w:Int×List aM=>vZ (i:Int) p.fu p.eb p.dJ p.ej p.hH x0 aY bJ bS cA w.1 w.2)
  (fun (k:Nat) (_:Unit)=>((k:Int),a6 (n+k) fun j=>cS (dG m n a b i j))) m (fun _ _=>True) (fun _=>a6 (n+m) fun j=>cS (dG m n a b i j))
  (fun k ba _ _=>by
    refine ⟨(),?_,trivial⟩
    unfold vZ
    have Ci:kl m n a b i (n+k)=if k=i then 1 else 0:=by
     unfold kl
     rw [if_neg (by omega),if_neg (by omega)]
     by_cases c:k=i
     ·rw [if_pos c,if_pos (by omega)]
     ·rw [if_neg c,if_neg (by omega)]
    refine dD (by simp only;rw [h.rows];omega) (ob (fun c=> ?_) (fun c=> ?_))
    ·have vd:k=i:=by simp at c;omega
     refine aR (x:=cS (dG m n a b i (n+k))) (by unfold dG;rw [Ci,if_pos vd];exact rZ (by rw [mC];omega)) (bH (by simp only [List.length_append,cT,List.length_cons,List.length_nil];omega) ?_)
     simp only;rw [fC (by omega),← Nat.add_assoc,k4]
    ·have vd:k≠i:=by simp at c;omega
     refine aR (x:=cS (dG m n a b i (n+k))) (by unfold dG;rw [Ci,if_neg vd];exact rZ (by rw [mC];omega)) (bH (by simp only [List.length_append,cT,List.length_cons,List.length_nil];omega) ?_)
     simp only;rw [fC (by omega),← Nat.add_assoc,k4])
  (fun _ _=>by unfold vZ;exact dU (by simp only;rw [h.rows];omega) rfl) () trivial
 unfold CH
 exact aC
theorem XC {p:hv}{m n:Nat}{a:Nat→Nat→Int}{b:Nat→Int}(h:me p m n a b){i:Nat}(aq:i<m)(aS:¬b i<0)(x0:Int)(aY:List bt)(bJ:List (List aM))(bS:List Int)(cA:List aM):
 (CB (i:Int) (a6 n (a i)) (len_ eI (a6 n (a i))) p.fu p.eb p.dJ p.ej p.hH x0 aY bJ bS cA 0 ([]:List aM) >>= fun c4=>CC (i:Int) p.fu p.eb p.dJ p.ej p.hH x0 aY bJ bS cA 0 c4)=some (a6 (n+m) fun j=>cS (dG m n a b i j)):=by
 have hm:=h.hm
 have a5:=h.a5
 have bV:kf (b i)=1:=by unfold kf;rw [if_neg aS]
 obtain ⟨s1,e1,-⟩:=iF (f:=fun w:Int×List aM=>vP (i:Int) (a6 n (a i)) ((n:Nat):Int) p.fu p.eb p.dJ p.ej p.hH x0 aY bJ bS cA w.1 w.2)
  (fun (k:Nat) (_:Unit)=>((k:Int),a6 k fun j=>cS (dG m n a b i j))) n (fun _ _=>True) (fun _=>a6 n fun j=>cS (dG m n a b i j))
  (fun k ba _ _=>by
    refine ⟨(),?_,trivial⟩
    have bE:=h.sy i aq k ba
    unfold vP
    have e:U ((1:Int)*a i k)=kl m n a b i k:=by
     rw [cx (by omega) (by omega)];unfold kl;rw [if_pos ba,bV]
    refine dD (by simp only;omega) (bH (by rw [cT];simp only;omega) (aR (x:=a i k) (by simp only;rw [Int.toNat_natCast];exact f7 ba) (aR (x:=cS (dG m n a b i k)) ?_ (bH (by simp only [List.length_append,cT,List.length_cons,List.length_nil];omega) ?_))))
    ·rw [e];exact rZ (by have:=sb h aq k;rw [mC];omega)
    ·simp only;rw [fC (by omega),k4])
  (fun _ _=>by unfold vP;exact dU (by simp) rfl) () trivial
 refine aR (x:=a6 n fun j=>cS (dG m n a b i j)) (by unfold CB;rw [f6,cT];exact e1) ?_
 obtain ⟨s2,aC,-⟩:=iF (f:=fun w:Int×List aM=>vQ (i:Int) p.fu p.eb p.dJ p.ej p.hH x0 aY bJ bS cA w.1 w.2)
  (fun (k:Nat) (_:Unit)=>((k:Int),a6 (n+k) fun j=>cS (dG m n a b i j))) m (fun _ _=>True) (fun _=>a6 (n+m) fun j=>cS (dG m n a b i j))
  (fun k ba _ _=>by
    refine ⟨(),?_,trivial⟩
    unfold vQ
    have Ci:kl m n a b i (n+k)=if k=i then 1 else 0:=by
     unfold kl
     rw [if_neg (by omega),if_neg (by omega)]
     by_cases c:k=i
     ·rw [if_pos c,if_pos (by omega)]
     ·rw [if_neg c,if_neg (by omega)]
    refine dD (by simp only;rw [h.rows];omega) (ob (fun c=> ?_) (fun c=> ?_))
    ·have vd:k=i:=by simp at c;omega
     refine aR (x:=cS (dG m n a b i (n+k))) (by unfold dG;rw [Ci,if_pos vd];exact rZ (by rw [mC];omega)) (bH (by simp only [List.length_append,cT,List.length_cons,List.length_nil];omega) ?_)
     simp only;rw [fC (by omega),← Nat.add_assoc,k4]
    ·have vd:k≠i:=by simp at c;omega
     refine aR (x:=cS (dG m n a b i (n+k))) (by unfold dG;rw [Ci,if_neg vd];exact rZ (by rw [mC];omega)) (bH (by simp only [List.length_append,cT,List.length_cons,List.length_nil];omega) ?_)
     simp only;rw [fC (by omega),← Nat.add_assoc,k4])
  (fun _ _=>by unfold vQ;exact dU (by simp only;rw [h.rows];omega) rfl) () trivial
 unfold CC
 exact aC
theorem OP {p:hv}{m n:Nat}{a:Nat→Nat→Int}{b:Nat→Int}(h:me p m n a b){i:Nat}(aq:i<m)(aY:List (List aM))(bJ:List bt)(bS:List Int)(bc:aY[i]? = some (a6 (n+m+1) fun j=>cS (dG m n a b i j))):
 y8 (i:Int) i (n+m+1) (((n+m+1:Nat):Nat):Int) p.fu p.eb p.dJ p.ej p.hH ((n+m:Nat):Int) aY bJ bS 0 (a6 (n+m+1) fun j=>cS (gX m n a b i j))=some (a6 (n+m+1) fun j=>cS (gX m n a b (i+1) j)):=by
 have hm:=h.hm
 have a5:=h.a5
 have aes : ∀j,gj (dG m n a b i j):=fun j=>JP (KJ h aq j) (by omega)
 have f1 : ∀j,gj (gX m n a b i j):=fun j=>JP (Q4 h (by omega) j) (by omega)
 have f2 : ∀j,gj (gX m n a b (i+1) j):=fun j=>JP (Q4 h (by omega) j) (by omega)
 have es : ∀j,(j<n∨j=n+m)→gX m n a b i j+dG m n a b i j=gX m n a b (i+1) j:=fun j aI=>by
  unfold gX;rw [if_pos aI,if_pos aI,dj]
 have aet : ∀j,¬(j<n∨j=n+m)→gX m n a b i j=gX m n a b (i+1) j:=fun j aI=>by
  unfold gX;rw [if_neg aI,if_neg aI]
 obtain ⟨s,e,-⟩:=iF (f:=fun w:Int×List aM=>v5 (i:Int) i (n+m+1) (((n+m+1:Nat):Nat):Int) p.fu p.eb p.dJ p.ej p.hH ((n+m:Nat):Int) aY bJ bS w.1 w.2)
  (fun (k:Nat) (_:Unit)=>((k:Int),a6 (n+m+1) fun j=>cS (if j<k then gX m n a b (i+1) j else gX m n a b i j))) (n+m+1) (fun _ _=>True) (fun _=>a6 (n+m+1) fun j=>cS (gX m n a b (i+1) j))
  (fun k ba _ _=>by
    refine ⟨(),?_,trivial⟩
    have fin : ∀r,r=gX m n a b (i+1) k→(U ((k:Int)+1),(a6 (n+m+1) fun j=>cS (if j<k then gX m n a b (i+1) j else gX m n a b i j)).set (0+((k:Int)).toNat) (cS r))=(((k+1:Nat):Int),a6 (n+m+1) fun j=>cS (if j<k+1 then gX m n a b (i+1) j else gX m n a b i j)):=by
     intro r ar
     rw [fC (by omega),Int.toNat_natCast,Nat.zero_add,kS]
     congr 1
     refine eW fun j _=> ?_
     by_cases c:j=k
     ·subst c;rw [if_pos rfl,if_pos (by omega),ar]
     ·rw [if_neg c]
      by_cases cd:j<k
      ·rw [if_pos cd,if_pos (by omega)]
      ·rw [if_neg cd,if_neg (by omega)]
    have SL : ∀ {x:Option ((Int×List aM)⊕List aM)},(k<n∨k=n+m)→(∀r,(U ((k:Int)+1),(a6 (n+m+1) fun j=>cS (if j<k then gX m n a b (i+1) j else gX m n a b i j)).set (0+((k:Int)).toNat) (cS r))=(((k+1:Nat):Int),a6 (n+m+1) fun j=>cS (if j<k+1 then gX m n a b (i+1) j else gX m n a b i j))→some (Sum.inl (U ((k:Int)+1),(a6 (n+m+1) fun j=>cS (if j<k then gX m n a b (i+1) j else gX m n a b i j)).set (0+((k:Int)).toNat) (cS r)))=x) →
     (if 0≤(k:Int)∧(k:Int)<(((a6 (n+m+1) fun j=>cS (if j<k then gX m n a b (i+1) j else gX m n a b i j)).length:Nat):Int) then
       (a6 (n+m+1) fun j=>cS (if j<k then gX m n a b (i+1) j else gX m n a b i j))[(0+((k:Int)).toNat)]? >>= fun gh =>
       aY[i]? >>= fun m0 =>
       if 0≤(k:Int)∧(k:Int)<((n+m+1:Nat):Int) then
       m0[(0+((k:Int)).toNat)]? >>= fun eo =>
       q9 gh eo >>= fun dc =>
       if (0+((k:Int)).toNat)<(a6 (n+m+1) fun j=>cS (if j<k then gX m n a b (i+1) j else gX m n a b i j)).length then
       some (.inl (U ((k:Int)+(1:Int)),(a6 (n+m+1) fun j=>cS (if j<k then gX m n a b (i+1) j else gX m n a b i j)).set (0+((k:Int)).toNat) dc))
       else none
       else none
       else none)=x:=by
     intro x Ey R
     refine bH (by rw [cT];omega) (aR (x:=cS (gX m n a b i k)) (by rw [Int.toNat_natCast,h8 ba,if_neg (by omega)]) (aR bc (bH (by omega) (aR (x:=cS (dG m n a b i k)) (by rw [Int.toNat_natCast];exact h8 ba) (aR (Kw (f1 k) (aes k) (by rw [es k Ey];exact f2 k)) (bH (by rw [cT,Int.toNat_natCast];omega) ?_))))))
     exact R _ (fin _ (es k Ey))
    unfold v5
    refine dD (by simp only;omega) (ob (fun c=> ?_) (fun c=> ?_))
    ·have LZ:k<n:=by have:=of_decide_eq_true c;rw [h.gr] at this;simp only at this;omega
     exact SL (.inl LZ) fun r ar=>by rw [ar]
    ·have LZ : ¬k<n:=by have:=of_decide_eq_false c;rw [h.gr] at this;simp only at this;omega
     refine ob (fun cd=> ?_) (fun cd=> ?_)
     ·have Sl:k=n+m:=by simp at cd;omega
      exact SL (.inr Sl) fun r ar=>by rw [ar]
     ·have Sl:k≠n+m:=by simp at cd;omega
      simp only
      rw [fC (by omega)]
      congr 3
      refine eW fun j _=> ?_
      by_cases jq:j=k
      ·subst jq;rw [if_neg (by omega),if_pos (by omega),aet j (by omega)]
      ·by_cases pC:j<k
       ·rw [if_pos pC,if_pos (by omega)]
       ·rw [if_neg pC,if_neg (by omega)])
  (fun _ _=>by
    unfold v5
    refine dU (by simp) ?_
    simp only
    congr 2
    exact eW fun j aI=>by rw [if_pos aI]) () trivial
 unfold y8
 have bR:(a6 (n+m+1) fun j=>cS (if j<0 then gX m n a b (i+1) j else gX m n a b i j))=a6 (n+m+1) fun j=>cS (gX m n a b i j):=eW fun j _=>by rw [if_neg (by omega)]
 rw [bR] at e
 exact e
theorem uL {K:Nat}{d x y:Rat}(bG:en K d)(a1:en K y)(h0:d≠0)(e:d*x=y)(hG:(K:Int)<B 24):gj x:=by
 obtain ⟨z,rfl,cw⟩:=bG
 obtain ⟨w,rfl,hw⟩:=a1
 exact PK (n:=w) (d:=z) (fun c=>h0 (by rw [c];rfl)) e (by omega) (by omega)
@[irreducible] def fK:Nat:=qd 100 20
theorem AW:qd 100 20=fK:=by unfold fK;rfl
theorem abx:((21*100*(fK*fK):Nat):Int)<B 24:=by decide +kernel
theorem pX:0<fK:=by decide +kernel
structure kL (m N:Nat) (A:Nat→Nat→Rat) (t:cI):Prop where
 ok:ga m m N A t
 nJ:t.lP m N
 sA:t.D m A≠0
structure Small (m N:Nat) (A:Nat→Nat→Rat):Prop where
 hm:m≤20
 tD : ∀c,c<m→ ∀j,j≤N→en 100 (A c j)
theorem kL.B3 {m N:Nat}{A:Nat→Nat→Rat}(s:Small m N A){t:cI}(h:kL m N A t):en fK (t.D m A):=by
 refine en.mono (xN fun i aq c bf=>s.tD c bf _ (Nat.le_of_lt (h.ok.lg i aq))) (AW▸xw (by omega) s.hm)
theorem kL.tu {m N:Nat}{A:Nat→Nat→Rat}(s:Small m N A){t:cI}(h:kL m N A t){i j:Nat}(aq:i<m)(aI:j≤N):en fK (t.T i j*t.D m A):=by
 rw [← h.ok.vp aq aI]
 refine en.mono (xN fun k ba c bf=> ?_) (AW▸xw (by omega) s.hm)
 simp only [gd]
 split
 ·exact s.tD c bf j aI
 ·exact s.tD c bf _ (Nat.le_of_lt (h.ok.lg k ba))
theorem uM {k:Nat}(h:k≤21*100*(fK*fK)):((k:Nat):Int)<B 24:=by have:=abx;omega
theorem K8:fK≤21*100*(fK*fK):=by
 have h1:fK*1≤fK*fK:=Nat.mul_le_mul_left _ pX
 omega
theorem kL.Rp {m N:Nat}{A:Nat→Nat→Rat}(s:Small m N A){t:cI}(h:kL m N A t){i j:Nat}(aq:i<m)(aI:j≤N):gj (t.T i j) :=
 uL (h.B3 s) (h.tu s aq aI) h.sA (by grind) (uM K8)
theorem kL.acE {m N:Nat}{A:Nat→Nat→Rat}(s:Small m N A){t:cI}(h:kL m N A t){i j:Nat}(aq:i<m)(aI:j≤N)(ai:0<t.T i j):gj (t.T i N / t.T i j) :=
 uL (h.tu s aq aI) (h.tu s aq (Nat.le_refl _)) (fun c=>by
  have h1:=h.sA
  have:t.T i j≠0:=by grind
  grind) (by grind) (uM K8)
end Go.Proofs.YtamedijmgkdlgacGreat
