/- Lemmas, plain functions of the program, and what they answer. No condition. -/
import Derived.Test.YtmeimpeaagmneaaGreatMD
namespace Go.Proofs.YtmeimpeaagmneaaGreat
set_option linter.unusedVariables false
set_option linter.unusedSimpArgs false
open Go Go.VL
theorem nR {n:Nat}(h:n≤10000000):R ((n:Int)+1)=((n+1:Nat):Int):=by rw [ct (by omega) (by omega)];rfl
theorem qn {n:Nat}(h:n≤10000000):R ((n:Int)-1)=(n:Int)-1:=ct (by omega) (by omega)
theorem LJ {n:Nat}(h:n≤10000000):R (((n+1:Nat):Int)-1)=n:=by rw [ct (by omega) (by omega)];omega
theorem f5 (l:List Int):len_ eI l=l.length:=e8 _ l
theorem aaO {l:List Int}{k:Nat}{x:Int}(U:l[k]? = some x)(a4:l.length≤5000000):uq l ((k+1:Nat):Int)=some (if x=0 then .inl (k:Int) else .inr ((k+1:Nat):Int)):=by
 have a9:=f9 U
 unfold uq
 rw [LJ (by omega),if_pos (by simp),if_pos (by omega),Int.toNat_natCast,U]
 by_cases h:x=0<;>simp [h]
theorem rD {l:List Int}(aV:cB l)(a4:l.length≤5000000):p6 l=some (L (V l)):=by
 have : ∃r,iter (fun w:Int=>uq l w) (l.length:Int)=some r∧ ∃k:Nat,r=k∧k≤l.length∧l.take k=L (V l):=by
  refine jf (eQ:=fun w:Int=> ∃k:Nat,w=k∧k≤l.length∧V (l.take k)=V l) (m:=fun w:Int=>w.toNat) _ ?_ _ ⟨l.length,rfl,by omega,by simp⟩
  rintro _ ⟨k,rfl,a9,bk⟩
  cases k with
  | zero =>
   refine .inr ⟨0,by simp [uq],0,rfl,by omega,?_⟩
   rw [← bk]
   simp [V,qU]
  | succ k =>
   have U:=List.getElem?_eq_getElem (show k<l.length by omega)
   rw [aaO U a4]
   by_cases h:l[k]=0
   ·refine .inl ⟨_,by simp [h],⟨k,rfl,by omega,?_⟩,by omega⟩
    have:=sm U
    rw [h] at this
    simp at this
    omega
   ·refine .inr ⟨_,by simp [h],k+1,rfl,a9,?_⟩
    rcases fP.Ld aV k (fun x h1=>by rw [U] at h1;simp at h1;omega) with h1|h1
    ·exact tC h1 bk
    ·omega
 obtain ⟨r,aq,k,rfl,h1,o⟩:=this
 unfold p6 JR
 rw [f5,aq]
 simp [h1,o]
theorem yw {l:List Int}(aV:cB l)(a4:l.length≤5000000):qa l=some (L (V l)):=by
 have : ∃r,iter (fun w:List Int=>xL w) l=some r∧r=L (V l):=by
  refine jf (eQ:=fun w=> ∃k:Nat,w=l.take k∧k≤l.length∧V (l.take k)=V l) (m:=fun w:List Int=>w.length) _ ?_ _ ⟨l.length,by simp,by omega,by simp⟩
  rintro _ ⟨k,rfl,a9,bk⟩
  have hlen:(l.take k).length=k:=by simp;omega
  cases k with
  | zero =>
   refine .inr ⟨[],by simp [xL,f5],?_⟩
   rw [← bk]
   simp [V,qU]
  | succ k =>
   have U:=List.getElem?_eq_getElem (show k<l.length by omega)
   have dP:(l.take (k+1))[k]? = some l[k]:=by rw [List.getElem?_take];simp [U]
   unfold xL
   simp only [f5,hlen]
   rw [LJ (by omega),if_pos (by simp),if_pos (by omega),Int.toNat_natCast,dP]
   by_cases h:l[k]=0
   ·refine .inl ⟨l.take k,by simp [h,List.take_take,Nat.min_eq_left],⟨k,rfl,by omega,?_⟩,by simp;omega⟩
    have:=sm U
    rw [h] at this
    simp at this
    omega
   ·refine .inr ⟨l.take (k+1),by simp [h],?_⟩
    rcases fP.Ld aV k (fun x h1=>by rw [U] at h1;simp at h1;omega) with h1|h1
    ·exact tC h1 bk
    ·omega
 obtain ⟨r,aq,rfl⟩:=this
 unfold qa Kr
 rw [aq]
 rfl
theorem aaP {l:List Int}(aV:cB l)(a4:l.length≤5000000): ∃k,AG l=some k∧k≤l.length∧l.take k=L (V l):=by
 have : ∃r,iter (fun w:Nat=>xD l w) l.length=some r∧r≤l.length∧l.take r=L (V l):=by
  refine jf (eQ:=fun k=>k≤l.length∧V (l.take k)=V l) (m:=fun w:Nat=>w) _ ?_ _ ⟨by omega,by simp⟩
  rintro k ⟨a9,bk⟩
  cases k with
  | zero =>
   refine .inr ⟨0,by simp [xD],by omega,?_⟩
   rw [← bk]
   simp [V,qU]
  | succ k =>
   have U:=List.getElem?_eq_getElem (show k<l.length by omega)
   unfold xD
   rw [LJ (by omega),if_pos (by simp),if_pos (by omega),Int.toNat_natCast,Nat.zero_add,U]
   by_cases h:l[k]=0
   ·refine .inl ⟨k,by simp [h],⟨by omega,?_⟩,by omega⟩
    have:=sm U
    rw [h] at this
    simp at this
    omega
   ·refine .inr ⟨k+1,by simp [h],a9,?_⟩
    rcases fP.Ld aV k (fun x h1=>by rw [U] at h1;simp at h1;omega) with h1|h1
    ·exact tC h1 bk
    ·omega
 obtain ⟨r,aq,h1,o⟩:=this
 unfold AG Ka
 rw [aq]
 exact ⟨r,rfl,h1,o⟩
theorem sq {a b:List Int}(bH:fP a)(aU:fP b)(a4:a.length≤5000000):p8 a b=some (la (V a) (V b)):=by
 unfold p8 la
 simp only [f5]
 by_cases h1:a.length=b.length
 ·rw [if_neg (by simp [h1])]
  have : ∃r,iter (fun w:Int=>xz a b w) ((a.length:Int)-1)=some r∧(r.elim (fun _=>V a=V b) (fun c=>(c = -1∧V a<V b)∨(c=1∧V b<V a))):=by
   refine jf (eQ:=fun w:Int=> ∃k:Nat,w=(k:Int)-1∧k≤a.length∧V (a.drop k)=V (b.drop k)) (m:=fun w:Int=>(w+1).toNat) _ ?_ _ ⟨a.length,rfl,by omega,by rw [List.drop_length,h1,List.drop_length]⟩
   rintro _ ⟨k,rfl,a9,bk⟩
   cases k with
   | zero=>exact .inr ⟨.inl (),by simp [xz],by simpa using bk⟩
   | succ k =>
    have U:=List.getElem?_eq_getElem (show k<a.length by omega)
    have a1:=List.getElem?_eq_getElem (show k<b.length by omega)
    have e:((k+1:Nat):Int)-1=k:=by omega
    unfold xz
    rw [e,qn (by omega),if_pos (by simp),if_pos (by omega),Int.toNat_natCast,U]
    simp only [Option.bind_eq_bind,Option.bind_some]
    rw [if_pos (by omega),a1]
    by_cases o:a[k]<b[k]
    ·exact .inr ⟨.inr (-1),by simp [o],.inl ⟨rfl,Ra bH.1 aU.1 U a1 bk o⟩⟩
    ·by_cases af:b[k]<a[k]
     ·exact .inr ⟨.inr 1,by simp [o,af],.inr ⟨rfl,Ra aU.1 bH.1 a1 U bk.symm af⟩⟩
     ·refine .inl ⟨(k:Int)-1,by simp [o,af],⟨k,rfl,by omega,?_⟩,by omega⟩
      rw [oJ U,oJ a1,bk,show a[k]=b[k] by omega]
  obtain ⟨r,aq,o⟩:=this
  unfold J3
  rw [qn (by omega),aq]
  cases r with
  | inl u =>
   simp at o
   simp [o]
  | inr c =>
   rcases o with ⟨rfl,o⟩|⟨rfl,o⟩
   ·simp [o]
   ·simp [o];omega
 ·rw [if_pos (by simp;omega)]
  by_cases o:a.length<b.length
  ·have:=Et bH aU o
   simp [o,this]
  ·have:=Et aU bH (by omega)
   rw [if_neg (by simp;omega),if_neg (by omega),if_pos this]
theorem Zl:qF=p8:=rfl
theorem PN {a b:List Int}(bH:fP a)(aU:fP b)(a4:a.length≤5000000):qF a b=some (la (V a) (V b)):=sq bH aU a4
theorem Bl {x y:Int}(U:0≤x∧x<1000000000)(a1:0≤y∧y<1000000000):0≤x*y∧x*y≤999999998000000001:=by
 have h1:=Int.mul_nonneg U.1 a1.1
 have o:x*y≤999999999*999999999:=Int.mul_le_mul (by omega) (by omega) a1.1 (by omega)
 omega
theorem pZ {a b:Int}(h:0≤a):a.tmod b=a % b:=Int.tmod_eq_emod_of_nonneg h
theorem ng {a b:Int}(h:0≤a):a.tdiv b=a / b:=Int.tdiv_eq_ediv_of_nonneg h
theorem Lg (k:Nat)(x:Int)(q:List Int):(List.replicate (k+1) 0++q).set k x=List.replicate k 0++x::q:=by
 induction k with
 | zero=>rfl
 | succ k ih =>
  show (0::(List.replicate (k+1) 0++q)).set (k+1) x=_
  rw [List.set_cons_succ,ih];rfl
theorem aac {a:List Int}{d rest:Int}{row:List Int}{k:Nat}{x:Int}(U:a[k]? = some x)(kF:0≤x∧x<1000000000)(bL:0<d∧d<1000000000)(aq:0≤rest∧rest<d)(dG:row.length=a.length)(a4:a.length≤1000000):
 xe a d rest (k:Int) row=some (.inl ((rest*1000000000+x) % d,(k:Int)-1,row.set k ((rest*1000000000+x) / d))):=by
 have a9:=f9 U
 unfold xe
 rw [if_pos (by simp),if_pos (by omega),Int.toNat_natCast,U]
 simp only [Option.bind_eq_bind,Option.bind_some]
 rw [if_pos (by omega),if_pos (by omega),if_pos (by omega),qn (by omega)]
 have h1:R (R (rest*1000000000)+x)=rest*1000000000+x:=by rw [ct (x:=rest*1000000000) (by omega) (by omega)];exact ct (by omega) (by omega)
 have o:0≤rest*1000000000+x:=by omega
 have af:(rest*1000000000+x) / d≤rest*1000000000+x:=Int.ediv_le_self _ o
 have au:0≤(rest*1000000000+x) / d:=Int.ediv_nonneg o (by omega)
 rw [h1,pZ o,ng o,ct (by omega) (by omega),Nat.zero_add]
theorem PO {a:List Int}{d:Int}(bH:cB a)(bL:0<d∧d<1000000000)(a4:a.length≤1000000):
 ∃r,Dw a d 0 ((a.length:Int)-1) (List.replicate a.length 0)=some r∧r.1=V a % d∧cB r.2∧r.2.length=a.length∧V r.2=V a / d:=by
 refine jf (eQ:=fun w:Int×Int×List Int=> ∃(k:Nat) (q:List Int),w.2.1=(k:Int)-1∧k≤a.length∧w.2.2=List.replicate k 0++q∧q.length+k=a.length∧cB q∧0≤w.1∧w.1<d∧V (a.drop k)=V q*d+w.1) (m:=fun w:Int×Int×List Int=>(w.2.1+1).toNat) _ ?_ _ ⟨a.length,[],rfl,by omega,by simp,by simp,cB.nil,by omega,by omega,by simp [V]⟩
 rintro ⟨rest,i,row⟩ ⟨k,q,h1,a9,o,bd,pV,lu,ia,bk⟩
 simp only at h1 o lu ia bk ⊢
 subst h1 o
 cases k with
 | zero =>
  refine .inr ⟨(rest,q),by simp [xe],?_,pV,by simpa using bd,?_⟩
  ·simp at bk
   rw [bk,Int.add_comm,Int.add_mul_emod_self_right]
   exact (Int.emod_eq_of_lt lu ia).symm
  ·simp at bk
   rw [bk,Int.add_comm,Int.add_mul_ediv_right _ _ (by omega),Int.ediv_eq_zero_of_lt lu ia]
   simp
 | succ k =>
  have U:=List.getElem?_eq_getElem (show k<a.length by omega)
  have kF:=bH.get U
  rw [show ((k+1:Nat):Int)-1=k by omega,aac U kF bL ⟨lu,ia⟩ (by simp;omega) a4]
  refine .inl ⟨_,rfl,⟨k,(rest*1000000000+a[k]) / d::q,rfl,by omega,Lg _ _ _,by simp;omega,cB.cons ⟨Int.ediv_nonneg (by omega) (by omega),?_⟩ pV,Int.emod_nonneg _ (by omega),Int.emod_lt_of_pos _ bL.1,?_⟩,by simp⟩
  ·refine Int.ediv_lt_of_lt_mul bL.1 ?_
   omega
  ·rw [oJ U,bk,ln]
   have:=Int.mul_ediv_add_emod (rest*1000000000+a[k]) d
   generalize (rest*1000000000+a[k]) / d=u at *
   generalize (rest*1000000000+a[k]) % d=t at *
   grind
theorem abL {a:List Int}{d:Int}(bH:cB a)(bL:0<d∧d<1000000000)(a4:a.length≤1000000):Af a d=some (L (V a / d),V a % d):=by
 obtain ⟨r,aq,h1,o,af,au⟩:=PO bH bL a4
 unfold Af
 simp only [f5]
 rw [if_pos (by omega),qn (by omega),Int.toNat_natCast,aq]
 simp only [Option.bind_eq_bind,Option.bind_some]
 rw [rD o (by omega),h1,au]
 rfl
theorem Yy:Js=Dw:=rfl
theorem O6 {a:List Int}{d:Int}(bH:cB a)(bL:0<d∧d<1000000000)(a4:a.length≤1000000):xW a d=some (L (V a / d),V a % d):=by
 obtain ⟨r,aq,h1,o,af,au⟩:=PO bH bL a4
 unfold xW
 simp only [f5]
 rw [if_pos (by omega),qn (by omega),Int.toNat_natCast,Yy,aq]
 simp only [Option.bind_eq_bind,Option.bind_some]
 rw [yw o (by omega),h1,au]
 rfl
theorem aaQ {b:List Int}{i j:Nat}{x y z carry:Int}{row t26:List Int}{t27:Int}(a1:b[j]? = some y)(cD:row[i+j]? = some z)(U:0≤x∧x<1000000000)(o9:0≤y∧y<1000000000)(ra:0≤z∧z<1000000000)(bh:0≤carry∧carry<1000000000)(a4:row.length≤2000000):
 xA b i x t26 t27 b.length carry j row=some (.inl ((z+x*y+carry) / 1000000000,((j+1:Nat):Int),row.set (i+j) ((z+x*y+carry) % 1000000000))):=by
 have aG:=f9 a1
 have pN:=f9 cD
 obtain ⟨iu,ht⟩:=Bl U o9
 unfold xA
 have e:R ((i:Int)+(j:Int))=((i+j:Nat):Int):=by rw [ct (by omega) (by omega)];rfl
 rw [if_pos (by simp;omega),if_pos (by omega),Int.toNat_natCast,a1]
 simp only [Option.bind_eq_bind,Option.bind_some,e,Int.toNat_natCast,Nat.zero_add]
 rw [if_pos (by omega),cD]
 simp only [Option.bind_some]
 rw [if_pos (by omega),nR (by omega),ct (x:=x*y) (by omega) (by omega),ct (x:=z+x*y) (by omega) (by omega),ct (x:=z+x*y+carry) (by omega) (by omega),pZ (by omega),ng (by omega),ct (by omega) (by omega)]
theorem aaR {b:List Int}{i:Nat}{x:Int}{row t26:List Int}{t27:Int}(aU:cB b)(dG:cB row)(U:0≤x∧x<1000000000)(aV:i+b.length<row.length)(a4:row.length≤2000000):
 ∃r,J7 b i x t26 t27 b.length 0 0 row=some r∧0≤r.1∧r.1<1000000000∧cB r.2∧r.2.length=row.length∧V r.2+r.1*B (i+b.length)=V row+x*B i*V b∧ ∀j,i+b.length≤j→r.2[j]? = row[j]? := by
 refine jf (eQ:=fun w:Int×Int×List Int=> ∃(j:Nat),w.2.1=(j:Int)∧j≤b.length∧0≤w.1∧w.1<1000000000∧cB w.2.2∧w.2.2.length=row.length∧V w.2.2+w.1*B (i+j)=V row+x*B i*V (b.take j)∧ ∀j,i+b.length≤j→w.2.2[j]? = row[j]?) (m:=fun w:Int×Int×List Int=>b.length-w.2.1.toNat) _ ?_ _ ⟨0,rfl,by omega,by simp,by simp,dG,rfl,by simp [V],fun _ _=>rfl⟩
 rintro ⟨carry,afJ,ep⟩ ⟨j,h1,aG,mF,m5,kt,hlen,bk,lp⟩
 simp only at h1 mF m5 kt hlen bk lp ⊢
 subst h1
 by_cases aeX:j=b.length
 ·subst aeX
  refine .inr ⟨(carry,ep),by simp [xA],mF,m5,kt,hlen,by simpa using bk,lp⟩
 ·have a1:=List.getElem?_eq_getElem (show j<b.length by omega)
  have cD:=List.getElem?_eq_getElem (show i+j<ep.length by omega)
  have o9:=aU.get a1
  have ra:=kt.get cD
  obtain ⟨iu,ht⟩:=Bl U o9
  rw [aaQ a1 cD U o9 ra ⟨mF,m5⟩ (by omega)]
  refine .inl ⟨_,rfl,⟨j+1,rfl,by omega,by simp only;omega,by simp only;omega,kt.set (by omega),by simpa using hlen,?_,fun h2 tM=> ?_⟩,by simp;omega⟩
  ·simp only
   rw [rN cD,sm a1,← Nat.add_assoc,mi]
   rw [Bv] at bk ⊢
   have:=Int.mul_ediv_add_emod (ep[i+j]+x*b[j]+carry) 1000000000
   generalize (ep[i+j]+x*b[j]+carry) / 1000000000=u at *
   generalize (ep[i+j]+x*b[j]+carry) % 1000000000=t at *
   grind
  ·rw [← lp h2 tM]
   exact List.getElem?_set_ne (by omega)
theorem KO {a b:List Int}(bH:cB a)(aU:cB b)(a4:a.length≤1000000)(hm:b.length≤1000000):
 ∃r,z7 b a a.length 0 (List.replicate (a.length+b.length) 0)=some r∧cB r∧r.length=a.length+b.length∧V r=V a*V b:=by
 refine jf (eQ:=fun w:Int×List Int=> ∃(i:Nat),w.1=(i:Int)∧i≤a.length∧cB w.2∧w.2.length=a.length+b.length∧V w.2=V (a.take i)*V b∧ ∀j,i+b.length≤j→j<a.length+b.length→w.2[j]? = some 0) (m:=fun w:Int×List Int=>a.length-w.1.toNat) _ ?_ _ ⟨0,rfl,by omega,cB.MB _,by simp,by simp [V,LG],fun j _ h=>by simp [List.getElem?_replicate,h]⟩
 rintro ⟨ii,row⟩ ⟨i,h1,aj,kt,hlen,bk,h0⟩
 simp only at h1 kt hlen bk h0 ⊢
 subst h1
 by_cases Cz:i=a.length
 ·subst Cz
  refine .inr ⟨row,by simp [zO],kt,hlen,by simpa using bk⟩
 ·have U:=List.getElem?_eq_getElem (show i<a.length by omega)
  have kF:=bH.get U
  obtain ⟨r,aq,mF,m5,adX,RV,B3,lp⟩:=aaR (i:=i) (t26:=a) (t27:=a.length) aU kt kF (by omega) (by omega)
  have e:R ((i:Int)+(b.length:Int))=((i+b.length:Nat):Int):=by rw [ct (by omega) (by omega)];rfl
  have cD:r.2[i+b.length]? = some 0:=by rw [lp _ (Nat.le_refl _)];exact h0 _ (Nat.le_refl _) (by omega)
  refine .inl ⟨(((i+1:Nat):Int),r.2.set (i+b.length) r.1),?_,⟨i+1,rfl,by omega,adX.set ⟨mF,m5⟩,by simp;omega,?_,fun j ahd aeY=> ?_⟩,by simp;omega⟩
  ·unfold zO
   rw [if_pos (by simp;omega),if_pos (by omega),Int.toNat_natCast,U]
   simp only [Option.bind_eq_bind,Option.bind_some,f5]
   rw [aq]
   simp only [Option.bind_some,e,Int.toNat_natCast,Nat.zero_add]
   rw [if_pos (by omega),if_pos (by omega),nR (n:=i) (by omega)]
  ·simp only
   rw [rN cD,sm U]
   grind
  ·simp only
   rw [List.getElem?_set_ne (by omega),lp _ (by omega)]
   exact h0 _ (by omega) aeY
theorem mul_eq {a b:List Int}(bH:cB a)(aU:cB b)(a4:a.length≤1000000)(hm:b.length≤1000000):hY a b=some (L (V a*V b)):=by
 unfold hY
 simp only [f5]
 by_cases h1:a=[]
 ·subst h1
  simp [V,qU]
 ·by_cases o:b=[]
  ·subst o
   simp [h1,V,qU]
  ·obtain ⟨r,aq,af,au,aA⟩:=KO bH aU a4 hm
   have e:R ((a.length:Int)+(b.length:Int))=((a.length+b.length:Nat):Int):=by rw [ct (by omega) (by omega)];rfl
   rw [if_neg (by simp [h1]),if_neg (by simp [o]),e,if_pos (by omega),Int.toNat_natCast,aq]
   simp only [Option.bind_eq_bind,Option.bind_some]
   rw [rD af (by omega),aA]
   rfl
theorem ZH:Kn=z7:=rfl
theorem YX:JW=z7:=rfl
theorem abM {a b:List Int}(bH:cB a)(aU:cB b)(a4:a.length≤1000000)(hm:b.length≤1000000):AQ a b=some (L (V a*V b)):=by
 unfold AQ
 simp only [f5]
 by_cases h1:a=[]
 ·subst h1
  simp [V,qU]
 ·by_cases o:b=[]
  ·subst o
   simp [h1,V,qU]
  ·obtain ⟨r,aq,af,au,aA⟩:=KO bH aU a4 hm
   have e:R ((a.length:Int)+(b.length:Int))=((a.length+b.length:Nat):Int):=by rw [ct (by omega) (by omega)];rfl
   rw [if_neg (by simp [h1]),if_neg (by simp [o]),e,if_pos (by omega),Int.toNat_natCast,ZH,aq]
   simp only [Option.bind_eq_bind,Option.bind_some]
   rw [yw af (by omega),aA]
   rfl
theorem PP {a b:List Int}(bH:cB a)(aU:cB b)(h1:a≠[])(o:b≠[])(a4:a.length≤1000000)(hm:b.length≤1000000):
 ∃k r,x5 a b=some (k,r)∧k≤r.length∧r.length=a.length+b.length∧r.take k=L (V a*V b)∧cB r:=by
 obtain ⟨r,aq,af,au,aA⟩:=KO bH aU a4 hm
 obtain ⟨k,a9,a0,bm⟩:=aaP af (by omega)
 refine ⟨k,r,?_,a0,au,by rw [bm,aA],af⟩
 unfold x5
 simp only [f5]
 have e:R ((a.length:Int)+(b.length:Int))=((a.length+b.length:Nat):Int):=by rw [ct (by omega) (by omega)];rfl
 rw [if_neg (by simp [h1]),if_neg (by simp [o]),e,if_pos (by omega),Int.toNat_natCast,YX,aq]
 simp only [Option.bind_eq_bind,Option.bind_some]
 rw [a9]
 rfl
theorem BA {x:Int}(h1:0≤x)(o:x<18446744073709551616):IntKind.wrap .u64 x=x:=by
 simp only [IntKind.wrap,IntKind.signed,IntKind.bits]
 have:((2:Int) ^ 64)=18446744073709551616:=by decide
 simp
 omega
theorem adx {x:Int}(h1:-9223372036854775808≤x)(o:x<9223372036854775808):IntKind.wrap .i64 x=x:=ct h1 o
theorem fP.snoc {l:List Int}{x:Int}(h:cB l)(U:0<x∧x<1000000000):fP (l++[x]):=⟨h.append (cB.cons (by omega) cB.nil),fun y a1=>by
 rw [List.getLast?_append] at a1
 simp at a1
 omega⟩
theorem Qc {N:Int}(fY:N<18446744073709551616){n:Int}{row:List Int}(h:0≤n∧cB row∧V row+B row.length*n=N∧(n=0→fP row)∧((row.length=0∧n<18446744073709551616)∨(row.length=1∧n<20000000000)∨(row.length=2∧n<20)∨(row.length=3∧n=0)))(a4:0<n):
 (fun (n:Int) (row:List Int)=>0≤n∧cB row∧V row+B row.length*n=N∧(n=0→fP row)∧((row.length=0∧n<18446744073709551616)∨(row.length=1∧n<20000000000)∨(row.length=2∧n<20)∨(row.length=3∧n=0))) (n / 1000000000) (row++[n % 1000000000]):=by
 obtain ⟨h0,h1,o,af,au⟩:=h
 refine ⟨by omega,h1.append (cB.cons (by omega) cB.nil),?_,fun aA=>fP.snoc h1 (by omega),?_⟩
 ·rw [va,List.length_append,List.length_singleton,mi,ln,Bw]
  have:=Int.mul_ediv_add_emod n 1000000000
  generalize n / 1000000000=u at *
  generalize n % 1000000000=t at *
  grind
 ·rw [List.length_append,List.length_singleton]
  omega
theorem yo {n:Int}(h:0≤n)(a4:n<9223372036854775808):rC n=some (L n):=by
 have : ∃r,iter (fun w:Int×List Int=>xI w.1 w.2) (n,[])=some r∧r=L n:=by
  refine jf (eQ:=fun w:Int×List Int=>w.1≤n∧0≤w.1∧cB w.2∧V w.2+B w.2.length*w.1=n∧(w.1=0→fP w.2)∧((w.2.length=0∧w.1<18446744073709551616)∨(w.2.length=1∧w.1<20000000000)∨(w.2.length=2∧w.1<20)∨(w.2.length=3∧w.1=0))) (m:=fun w:Int×List Int=>w.1.toNat) _ ?_ _ ⟨Int.le_refl _,h,cB.nil,by simp [V,B],fun _=>fP.nil,.inl ⟨rfl,by simp only;omega⟩⟩
  rintro ⟨m,row⟩ ⟨hm,cN⟩
  simp only at hm cN
  obtain ⟨h0,h1,o,af,au⟩:=id cN
  by_cases kg:0<m
  ·have:=Qc (by omega) cN kg
   refine .inl ⟨(m / 1000000000,row++[m % 1000000000]),?_,⟨by simp only;omega,this⟩,by simp only;omega⟩
   unfold xI
   rw [if_pos (by simp;omega),pZ (by omega),ng (by omega),if_pos (by simp;omega),ct (by omega) (by omega)]
  ·refine .inr ⟨row,by simp [xI,kg],?_⟩
   have n0:m=0:=by omega
   refine tC (af n0) ?_
   rw [n0] at o
   simpa using o
 obtain ⟨r,aq,rfl⟩:=this
 unfold rC Ki
 rw [aq]
 rfl
theorem KG {n:Int}(h:0≤n)(a4:n<18446744073709551616):uK n=some (L n):=by
 have : ∃r,iter (fun w:Int×List Int=>xl w.1 w.2) (n,[])=some r∧r=L n:=by
  refine jf (eQ:=fun w:Int×List Int=>w.1≤n∧0≤w.1∧cB w.2∧V w.2+B w.2.length*w.1=n∧(w.1=0→fP w.2)∧((w.2.length=0∧w.1<18446744073709551616)∨(w.2.length=1∧w.1<20000000000)∨(w.2.length=2∧w.1<20)∨(w.2.length=3∧w.1=0))) (m:=fun w:Int×List Int=>w.1.toNat) _ ?_ _ ⟨Int.le_refl _,h,cB.nil,by simp [V,B],fun _=>fP.nil,.inl ⟨rfl,by simp only;omega⟩⟩
  rintro ⟨m,row⟩ ⟨hm,cN⟩
  simp only at hm cN
  obtain ⟨h0,h1,o,af,au⟩:=id cN
  by_cases kg:0<m
  ·have:=Qc (by omega) cN kg
   refine .inl ⟨(m / 1000000000,row++[m % 1000000000]),?_,⟨by simp only;omega,this⟩,by simp only;omega⟩
   unfold xl
   rw [if_pos (by simp;omega),pZ (by omega),ng (by omega),adx (x:=m % 1000000000) (by omega) (by omega),if_pos (by simp;omega),BA (by omega) (by omega)]
  ·refine .inr ⟨row,by simp [xl,kg],?_⟩
   have n0:m=0:=by omega
   refine tC (af n0) ?_
   rw [n0] at o
   simpa using o
 obtain ⟨r,aq,rfl⟩:=this
 unfold uK JU
 rw [aq]
 rfl
def tF (x:Int):Bool:=decide (0≤x) && decide (x<1000000000)
theorem Rg (l:List Int):l.all tF=true↔cB l:=by
 simp [tF,cB]
theorem PQ {a:List Int}(h:a≠[]): ∃x,a[a.length-1]? = some x∧(fP a↔cB a∧x≠0):=by
 have ak:=List.length_pos_iff.mpr h
 refine ⟨a[a.length-1],List.getElem?_eq_getElem (by omega),?_⟩
 have e:a.getLast? = some a[a.length-1]:=by rw [List.getLast?_eq_getElem?];exact List.getElem?_eq_getElem (by omega)
 constructor
 ·exact fun h=>⟨h.1,h.2 _ e⟩
 ·refine fun h=>⟨h.1,fun x U=> ?_⟩
  rw [e] at U
  rw [← Option.some.inj U]
  exact h.2
theorem ady {a:List Int}(h:a≠[])(hm:(a.length:Int)<9223372036854775807):R ((a.length:Int)-1)=((a.length-1:Nat):Int):=by
 have ak:=List.length_pos_iff.mpr h
 rw [ct (by omega) (by omega)]
 omega
theorem aad (x:Int):mR x 0 999999999=some (tF x):=by
 unfold mR tF
 by_cases h:0≤x
 ·simp [h];omega
 ·simp [h]
theorem KH {a:List Int}(hm:(a.length:Int)<9223372036854775807): ∃ok,se a=some ok∧(ok=true↔fP a∧a.length≤60):=by
 have h1:iter (fun w:Int=>xJ a a.length w) 0=some (if a.all tF then .inl () else .inr ()):=by
  refine QA a tF (fun n x U=> ?_) (by simp [xJ])
  have:=f9 U
  unfold xJ
  rw [if_pos (by simp;omega),if_pos (by omega),Int.toNat_natCast,U]
  simp only [Option.bind_eq_bind,Option.bind_some,aad]
  rw [i1 (by omega)]
  cases tF x<;>rfl
 unfold se Kj
 simp only [f5]
 rw [h1]
 by_cases tW:a.all tF=true
 ·have B0:=(Rg a).1 tW
  simp only [tW,if_true,Option.bind_eq_bind,Option.bind_some]
  by_cases qA:a.length≤60
  ·rw [if_pos (by simp;omega)]
   by_cases h0:a=[]
   ·subst h0
    exact ⟨true,rfl,by simp [fP.nil]⟩
   ·obtain ⟨x,U,a4⟩:=PQ h0
    have ak:=List.length_pos_iff.mpr h0
    rw [if_neg (by simp [h0]),ady h0 hm,if_pos (by omega),Int.toNat_natCast,U]
    refine ⟨_,rfl,?_⟩
    rw [a4]
    simp [B0,qA]
  ·rw [if_neg (by simp;omega)]
   exact ⟨false,rfl,by simp;omega⟩
 ·have B0 : ¬cB a:=fun h=>tW ((Rg a).2 h)
  simp only [Bool.not_eq_true] at tW
  refine ⟨false,by simp [tW],?_⟩
  simp only [Bool.false_eq_true,false_iff]
  exact fun h=>B0 h.1.1
theorem Pp {a:List Int}(bH:fP a)(qA:a.length≤60)(bk:V a<9223372036854775808):xY a=some (V a,true):=by
 obtain ⟨ok,h1,o⟩:=KH (a:=a) (by omega)
 have m2:ok=true:=o.2 ⟨bH,qA⟩
 subst m2
 have bh:fP [854775807,223372036,9]:=⟨by intro x U;simp at U;omega,by simp⟩
 have MN:V [854775807,223372036,9]=9223372036854775807:=by decide
 unfold xY
 rw [h1]
 simp only [Option.bind_eq_bind,Option.bind_some,if_true]
 rw [sq bH bh (by omega),MN]
 have : ∃r,iter (fun w:Int×Int=>xc a w.1 w.2) (0,(a.length:Int)-1)=some r∧r=V a:=by
  refine jf (eQ:=fun w:Int×Int=> ∃k:Nat,w.2=(k:Int)-1∧k≤a.length∧w.1=V (a.drop k)) (m:=fun w:Int×Int=>(w.2+1).toNat) _ ?_ _ ⟨a.length,rfl,by omega,by simp [V]⟩
  rintro ⟨n,i⟩ ⟨k,af,a9,au⟩
  simp only at af au
  subst af au
  cases k with
  | zero=>exact .inr ⟨V a,by simp [xc],rfl⟩
  | succ k =>
   have U:=List.getElem?_eq_getElem (show k<a.length by omega)
   have kF:=bH.1.get U
   have aA:=oJ U
   have a0:=mS (bH.1.drop (k+1))
   have bm:V (a.drop k)≤V a:=by
    have bn:=vc (l:=a) (n:=k) (by omega)
    have cx:=mS (bH.1.take k)
    have cQ:=mS (bH.1.drop k)
    have fm:1*V (a.drop k)≤B k*V (a.drop k):=Int.mul_le_mul_of_nonneg_right (oS k) cQ
    omega
   refine .inl ⟨(V (a.drop k),(k:Int)-1),?_,⟨k,rfl,by omega,rfl⟩,by simp only;omega⟩
   unfold xc
   rw [show ((k+1:Nat):Int)-1=k by omega,if_pos (by simp),if_pos (by omega),Int.toNat_natCast,U]
   simp only [Option.bind_eq_bind,Option.bind_some]
   rw [qn (by omega),ct (x:=V (a.drop (k+1))*1000000000) (by omega) (by omega),ct (by omega) (by omega),aA]
   congr 3
   omega
 obtain ⟨r,aq,rfl⟩:=this
 unfold la JC
 simp only [f5]
 rw [qn (by omega),aq]
 have af : ¬(9223372036854775807:Int)<V a:=by omega
 by_cases au:V a<9223372036854775807<;>simp [af,au]
theorem abN {a b row:List Int}{less x:Int}{i:Nat}(aU:cB b)(U:a[i]? = some x)(kF:0≤x∧x<1000000000)(aV:less=0∨less=1)(a4:a.length≤1000000)(hm:b.length≤1000000)(aq:row.length≤1000000):
 ∃y,0≤y∧y<1000000000∧(∀z,b[i]? = some z→y=z)∧(b[i]? = none→y=0) ∧
 us a b a.length less i row=some (.inl (if x-less-y<0 then (1,((i+1:Nat):Int),row++[x-less-y+1000000000]) else (0,((i+1:Nat):Int),row++[x-less-y]))):=by
 have aj:=f9 U
 unfold us
 rw [if_pos (by simp;omega),if_pos (by omega),Int.toNat_natCast,U]
 simp only [Option.bind_eq_bind,Option.bind_some,f5]
 by_cases Td:i<b.length
 ·have a1:=List.getElem?_eq_getElem Td
  have o9:=aU.get a1
  refine ⟨b[i],o9.1,o9.2,fun z cD=>by rw [a1] at cD;exact Option.some.inj cD,fun h=>by rw [a1] at h;simp at h,?_⟩
  rw [if_pos (by simp;omega),if_pos (by omega),a1]
  simp only [Option.bind_some]
  rw [ct (x:=x-less) (by omega) (by omega),ct (x:=x-less-b[i]) (by omega) (by omega),nR (n:=i) (by omega),ct (x:=x-less-b[i]+1000000000) (by omega) (by omega)]
  by_cases h:x-less-b[i]<0
  ·rw [if_pos (by simp [h]),if_pos (by simp;omega)]
   simp [h]
  ·rw [if_neg (by simp [h]),if_pos (by simp;omega)]
   simp [h]
 ·have a1:b[i]? = none:=by simp;omega
  refine ⟨0,by omega,by omega,fun z cD=>by rw [a1] at cD;simp at cD,fun _=>rfl,?_⟩
  rw [if_neg (by simp;omega),ct (x:=x-less) (by omega) (by omega),nR (n:=i) (by omega),ct (x:=x-less+1000000000) (by omega) (by omega),Int.sub_zero]
  by_cases h:x-less<0
  ·rw [if_pos (by simp [h]),if_pos (by simp;omega)]
   simp [h]
  ·rw [if_neg (by simp [h]),if_pos (by simp;omega)]
   simp [h]
theorem QG {b:List Int}{i:Nat}{y:Int}(h1:∀z,b[i]? = some z→y=z)(o:b[i]? = none→y=0):V (b.take (i+1))=V (b.take i)+B i*y:=by
 cases h:b[i]? with
 | some z=>rw [h1 z h,sm h]
 | none =>
  rw [o h]
  have:b.length≤i:=by simpa using h
  rw [List.take_of_length_le (by omega),List.take_of_length_le (by omega)]
  simp
theorem sub_eq {a b:List Int}(bH:cB a)(aU:cB b)(hlen:b.length≤a.length)(tP:V b≤V a)(a4:a.length≤1000000):sd a b=some (L (V a-V b)):=by
 have : ∃r,iter (fun w:Int×Int×List Int=>us a b a.length w.1 w.2.1 w.2.2) (0,0,[])=some r∧cB r∧r.length=a.length∧V r=V a-V b:=by
  refine jf (eQ:=fun w:Int×Int×List Int=> ∃i:Nat,w.2.1=i∧i≤a.length∧(w.1=0∨w.1=1)∧cB w.2.2∧w.2.2.length=i∧V w.2.2-w.1*B i=V (a.take i)-V (b.take i)) (m:=fun w:Int×Int×List Int=>a.length-w.2.1.toNat) _ ?_ _ ⟨0,rfl,by omega,.inl rfl,cB.nil,rfl,by simp [V]⟩
  rintro ⟨less,ii,row⟩ ⟨i,h1,aj,aV,kt,sT,bk⟩
  simp only at h1 aV kt sT bk ⊢
  subst h1
  by_cases Cz:i=a.length
  ·refine .inr ⟨row,by simp [us,Cz],kt,by omega,?_⟩
   rw [Cz] at bk
   rw [List.take_length,List.take_of_length_le hlen] at bk
   have o:=nv kt
   rw [sT,Cz] at o
   rcases aV with rfl|rfl<;>omega
  ·have U:=List.getElem?_eq_getElem (show i<a.length by omega)
   have kF:=bH.get U
   obtain ⟨y,CA,CB,aeZ,ae0,he⟩:=abN (row:=row) aU U kF aV a4 (by omega) (by omega)
   rw [he]
   refine .inl ⟨_,rfl,?_⟩
   have af:=sm U
   have au:=QG aeZ ae0
   by_cases h:a[i]-less-y<0
   ·rw [if_pos h]
    refine ⟨⟨i+1,rfl,by omega,.inr rfl,kt.append (cB.cons (by omega) cB.nil),by simp [sT],?_⟩,by simp only;omega⟩
    simp only
    rw [af,au,va,sT,mi,ln,Bw]
    grind
   ·rw [if_neg h]
    refine ⟨⟨i+1,rfl,by omega,.inl rfl,kt.append (cB.cons (by omega) cB.nil),by simp [sT],?_⟩,by simp only;omega⟩
    simp only
    rw [af,au,va,sT,ln,Bw]
    grind
 obtain ⟨r,aq,h1,o,af⟩:=this
 unfold sd J4
 simp only [f5]
 rw [aq]
 simp only [Option.bind_eq_bind,Option.bind_some]
 rw [rD h1 (by omega),af]
 rfl
theorem rE {l:List Int}(h:cB l){k:Nat}(a9:k≤l.length):B k*V (l.drop k)≤V l∧V l<B k*(V (l.drop k)+1):=by
 have h1:=vc a9
 have o:=mS (h.take k)
 have af:=nv (h.take k)
 rw [List.length_take,Nat.min_eq_left a9] at af
 rw [Int.mul_add,Int.mul_one]
 omega
theorem A0 {l:List Int}{k:Nat}{x:Int}(U:l[k]? = some x)(aV:l.length=k+1):V (l.drop k)=x:=by
 rw [oJ U,List.drop_of_length_le (by omega)]
 simp [V]
theorem O7 {aX W t d P:Int}(hv:1≤P)(Fq:P*t≤aX)(MO:aX<P*(t+1))(tQ:P*d≤W)(Fs:W<P*(d+1))(bL:0<d)(cm:0≤t)(MP:aX<1000000000*W):t / (d+1)≤aX / W∧aX / W≤t / d∧aX / W≤999999999:=by
 have hW:0<W:=by
  have:=Int.mul_pos (a:=P) (b:=d) (by omega) bL
  omega
 have c1:0≤aX:=by
  have:=Int.mul_nonneg (a:=P) (b:=t) (by omega) cm
  omega
 refine ⟨?_,?_,?_⟩
 ·apply (Int.le_ediv_iff_mul_le hW).2
  have h1:t / (d+1)*(d+1)≤t:=Int.ediv_mul_le _ (by omega)
  have o:0≤t / (d+1):=Int.ediv_nonneg cm (by omega)
  have af:t / (d+1)*W≤t / (d+1)*(P*(d+1)):=Int.mul_le_mul_of_nonneg_left (by omega) o
  have au:P*(t / (d+1)*(d+1))≤P*t:=Int.mul_le_mul_of_nonneg_left h1 (by omega)
  have aA:t / (d+1)*(P*(d+1))=P*(t / (d+1)*(d+1)):=by grind
  omega
 ·apply (Int.le_ediv_iff_mul_le bL).2
  have h1:aX / W*W≤aX:=Int.ediv_mul_le _ (by omega)
  have o:0≤aX / W:=Int.ediv_nonneg c1 (by omega)
  have af:aX / W*(P*d)≤aX / W*W:=Int.mul_le_mul_of_nonneg_left tQ o
  have au:aX / W*(P*d)=P*(aX / W*d):=by grind
  have aA:P*(aX / W*d)<P*(t+1):=by omega
  have:=Int.lt_of_mul_lt_mul_left aA (by omega)
  omega
 ·have:=Int.ediv_lt_of_lt_mul hW MP
  omega
theorem Rh {a b:Int}:la a b≤0↔a≤b:=by
 unfold la
 by_cases h:a<b
 ·simp [h];omega
 ·by_cases o:b<a
  ·simp [h,o]
  ·simp [h,o];omega
theorem tr {a b:Int}:la a b<0↔a<b:=by
 unfold la
 by_cases h:a<b
 ·simp [h]
 ·by_cases o:b<a
  ·simp [h,o]
  ·simp [h,o]
theorem PR {r b:List Int}(aq:fP r)(aU:fP b)(lv:b≠[])(a4:r.length≤1000000)(hm:b.length≤1000000){b0 aj:Int}(h0:0≤b0)(h1:b0≤V r / V b)(o:V r / V b≤aj)(af:aj≤999999999):Dx r b b0 aj=some (V r / V b):=by
 have jQ:=tz aU lv
 have : ∃q,iter (fun w:Int×Int=>ul r b w.1 w.2) (b0,aj)=some q∧q=V r / V b:=by
  refine jf (eQ:=fun w:Int×Int=>0≤w.1∧w.1≤V r / V b∧V r / V b≤w.2∧w.2≤999999999) (m:=fun w:Int×Int=>(w.2-w.1).toNat) _ ?_ _ ⟨h0,h1,o,af⟩
  rintro ⟨l,h⟩ ⟨g0,g1,g2,g3⟩
  simp only at g0 g1 g2 g3
  by_cases dU:l<h
  ·have e1:R ((R ((R (l+h))+(1:Int))).tdiv (2:Int))=(l+h+1) / 2:=by
    rw [ct (x:=l+h) (by omega) (by omega),ct (x:=l+h+1) (by omega) (by omega),ng (by omega),ct (by omega) (by omega)]
   have n0:0≤(l+h+1) / 2:=by omega
   have pq:(l+h+1) / 2<1000000000:=by omega
   have SM:(L ((l+h+1) / 2)).length≤1:=(jk n0).2 (by simpa [B] using pq)
   have aE:ul r b l h=some (.inl (if V b*((l+h+1) / 2)≤V r then ((l+h+1) / 2,h) else (l,(l+h+1) / 2-1))):=by
    unfold ul
    rw [if_pos (by simp [dU]),e1,yo n0 (by omega)]
    simp only [Option.bind_eq_bind,Option.bind_some]
    rw [mul_eq aU.1 (hp _) hm (by omega),ew n0]
    simp only [Option.bind_some]
    have ak:0≤V b*((l+h+1) / 2):=Int.mul_nonneg (by omega) n0
    have hlen:(L (V b*((l+h+1) / 2))).length≤b.length+1:=(jk ak).2 (by
     rw [mi]
     have aA:=nv aU.1
     have:V b*((l+h+1) / 2)≤V b*1000000000:=Int.mul_le_mul_of_nonneg_left (by omega) (by omega)
     omega)
    rw [sq (jz _) aq (by omega),ew ak]
    simp only [Option.bind_some]
    by_cases bh:V b*((l+h+1) / 2)≤V r
    ·rw [if_pos (by simpa using Rh.2 bh),if_pos bh]
    ·rw [if_neg (fun h=>bh (Rh.1 (by simpa using h))),if_neg bh,ct (by omega) (by omega)]
   rw [aE]
   refine .inl ⟨_,rfl,?_⟩
   by_cases bh:V b*((l+h+1) / 2)≤V r
   ·rw [if_pos bh]
    have:(l+h+1) / 2≤V r / V b:=(Int.le_ediv_iff_mul_le jQ).2 (by rw [Int.mul_comm];exact bh)
    exact ⟨⟨by simp only;omega,this,g2,g3⟩,by simp only;omega⟩
   ·rw [if_neg bh]
    have:V r / V b<(l+h+1) / 2:=(Int.ediv_lt_iff_lt_mul jQ).2 (by rw [Int.mul_comm];omega)
    exact ⟨⟨g0,g1,by simp only;omega,by simp only;omega⟩,by simp only;omega⟩
  ·exact .inr ⟨l,by simp [ul,dU],by omega⟩
 obtain ⟨q,bd,rfl⟩:=this
 exact bd
theorem EG {b:List Int}(aU:fP b)(lv:b≠[]): ∃k d,b.length=k+1∧b[k]? = some d∧0<d∧d<1000000000∧V (b.drop k)=d:=by
 have ak:=List.length_pos_iff.mpr lv
 obtain ⟨x,U,h⟩:=PQ lv
 have h1:=h.1 aU
 have o:=h1.1.get U
 exact ⟨b.length-1,x,by omega,U,by omega,o.2,A0 U (by omega)⟩
theorem abO {r b:List Int}(aq:fP r)(aU:fP b)(lv:b≠[])(a4:r.length≤1000000)(hm:b.length≤1000000)(h1:V b≤V r)(o:V r<1000000000*V b):Ag r b=some (V r / V b):=by
 obtain ⟨k,d,a9,bL,sM,Ft,zp⟩:=EG aU lv
 have SF:b.length≤r.length:=Nat.le_of_not_lt fun h=>by
  have:=Et aq aU h
  omega
 have SG:r.length≤b.length+1:=aq.len.2 (by
  have:=nv aU.1
  rw [mi]
  omega)
 have tL:=rE aU.1 (k:=k) (by omega)
 rw [zp] at tL
 have ia:=rE aq.1 (k:=k) (by omega)
 have U:=List.getElem?_eq_getElem (show k<r.length by omega)
 have kF:=aq.1.get U
 have hw:R ((b.length:Int)-1)=(k:Int):=by rw [ct (by omega) (by omega)];omega
 have mK:=mS (aq.1.drop k)
 have Fu:=O7 (oS k) ia.1 ia.2 tL.1 tL.2 sM mK o
 have ahe:=mS aq.1
 have hW:=tz aU lv
 unfold Ag
 simp only [f5,hw]
 rw [if_pos (by omega),Int.toNat_natCast,U]
 simp only [Option.bind_eq_bind,Option.bind_some]
 by_cases hlen:b.length<r.length
 ·have a1:=List.getElem?_eq_getElem hlen
  have o9:=aq.1.get a1
  have n3:V (r.drop (k+1))=r[b.length]:=by
   rw [← a9]
   exact A0 a1 (by omega)
  have cm:V (r.drop k)=r[k]+1000000000*r[b.length]:=by rw [oJ U,n3]
  rw [cm] at Fu mK
  have l3:0≤(r[k]+1000000000*r[b.length]) / (d+1):=Int.ediv_nonneg mK (by omega)
  have ow:(r[k]+1000000000*r[b.length]) / (d+1)≤r[k]+1000000000*r[b.length]:=Int.ediv_le_self _ mK
  have yY:0≤(r[k]+1000000000*r[b.length]) / d:=Int.ediv_nonneg mK (by omega)
  have ae1:(r[k]+1000000000*r[b.length]) / d≤r[k]+1000000000*r[b.length]:=Int.ediv_le_self _ mK
  rw [if_pos (by simp;omega),if_pos (by omega),Int.toNat_natCast,a1]
  simp only [Option.bind_some]
  rw [if_pos (by omega),bL]
  simp only [Option.bind_some]
  have e1:R (d+1)=d+1:=ct (by omega) (by omega)
  have aE:R (r[k]+R (r[b.length]*1000000000))=r[k]+1000000000*r[b.length]:=by
   rw [ct (x:=r[b.length]*1000000000) (by omega) (by omega),ct (by omega) (by omega),Int.mul_comm]
  rw [e1,if_pos (by omega),if_pos (by omega),aE,ng mK,ng mK,ct (by omega) (by omega),ct (x:=(r[k]+1000000000*r[b.length]) / d) (by omega) (by omega)]
  rw [PR aq aU lv a4 hm l3 Fu.1 (by split<;>omega) (by split<;>omega)]
  rfl
 ·have cm:V (r.drop k)=r[k]:=A0 U (by omega)
  rw [cm] at Fu mK
  have l3:0≤r[k] / (d+1):=Int.ediv_nonneg mK (by omega)
  have ow:r[k] / (d+1)≤r[k]:=Int.ediv_le_self _ mK
  have yY:0≤r[k] / d:=Int.ediv_nonneg mK (by omega)
  have ae1:r[k] / d≤r[k]:=Int.ediv_le_self _ mK
  rw [if_neg (by simp;omega),if_pos (by omega),bL]
  simp only [Option.bind_some]
  have e1:R (d+1)=d+1:=ct (by omega) (by omega)
  rw [e1,if_pos (by omega),if_pos (by omega),ng mK,ng mK,ct (by omega) (by omega),ct (x:=r[k] / d) (by omega) (by omega)]
  rw [PR aq aU lv a4 hm l3 Fu.1 (by split<;>omega) (by split<;>omega)]
  rfl
theorem abP {a b:List Int}(bH:fP a)(aU:fP b)(lv:b≠[])(a4:a.length≤900000)(hm:b.length≤900000):
 ∃r,J8 a b [] ((a.length:Int)-1) (List.replicate a.length 0)=some r∧r.1=L (V a % V b)∧cB r.2∧r.2.length=a.length∧V r.2=V a / V b:=by
 have jQ:=tz aU lv
 refine jf (eQ:=fun w:List Int×Int×List Int=> ∃(k:Nat) (q:List Int),w.2.1=(k:Int)-1∧k≤a.length∧w.2.2=List.replicate k 0++q∧q.length+k=a.length∧cB q∧fP w.1∧V w.1<V b∧V (a.drop k)=V q*V b+V w.1) (m:=fun w:List Int×Int×List Int=>(w.2.1+1).toNat) _ ?_ _ ⟨a.length,[],rfl,by omega,by simp,by simp,cB.nil,fP.nil,by simpa [V] using jQ,by simp [V]⟩
 rintro ⟨rest,i,row⟩ ⟨k,q,h1,a9,o,bd,pV,lu,ia,bk⟩
 simp only at h1 o lu ia bk ⊢
 subst h1 o
 have CC:=mS lu.1
 cases k with
 | zero =>
  simp at bk
  refine .inr ⟨(rest,q),by simp [xB],?_,pV,by simpa using bd,?_⟩
  ·refine tC lu ?_
   rw [bk,Int.add_comm,Int.add_mul_emod_self_right]
   exact (Int.emod_eq_of_lt CC ia).symm
  ·rw [bk,Int.add_comm,Int.add_mul_ediv_right _ _ (by omega),Int.ediv_eq_zero_of_lt CC ia]
   simp
 | succ k =>
  have U:=List.getElem?_eq_getElem (show k<a.length by omega)
  have kF:=bH.1.get U
  have sT:rest.length≤b.length:=lu.len.2 (by have:=nv aU.1;omega)
  have iL:cB (a[k]::rest):=cB.cons kF lu.1
  have MN:V (a[k]::rest)=a[k]+1000000000*V rest:=ln _ _
  have pa:0≤a[k]+1000000000*V rest:=by omega
  have ahf:(L (a[k]+1000000000*V rest)).length≤b.length+1:=(jk pa).2 (by
   have:=nv aU.1
   rw [mi]
   omega)
  have bL:=oJ U
  have LK:xB a b rest (k:Int) (List.replicate (k+1) 0++q)=some (.inl (if a[k]+1000000000*V rest<V b then (L (a[k]+1000000000*V rest),(k:Int)-1,List.replicate (k+1) 0++q) else (L ((a[k]+1000000000*V rest) % V b),(k:Int)-1,(List.replicate (k+1) 0++q).set k ((a[k]+1000000000*V rest) / V b)))):=by
   unfold xB
   rw [if_pos (by simp),if_pos (by omega),Int.toNat_natCast,U]
   simp only [Option.bind_eq_bind,Option.bind_some,List.singleton_append]
   rw [if_pos (by simp;omega),rD iL (by simp;omega),MN]
   simp only [Option.bind_some]
   rw [sq (jz _) aU (by omega),ew pa]
   simp only [Option.bind_some]
   by_cases bh:a[k]+1000000000*V rest<V b
   ·rw [if_pos (by simpa using tr.2 bh),if_pos bh,qn (by omega)]
   ·rw [if_neg (fun h=>bh (tr.1 (by simpa using h))),if_neg bh]
    have dU:a[k]+1000000000*V rest<1000000000*V b:=by omega
    rw [abO (jz _) aU lv (by omega) (by omega) (by rw [ew pa];omega) (by rw [ew pa];exact dU),ew pa]
    simp only [Option.bind_some]
    have l3:0≤(a[k]+1000000000*V rest) / V b:=Int.ediv_nonneg pa (by omega)
    have ow:(a[k]+1000000000*V rest) / V b<1000000000:=Int.ediv_lt_of_lt_mul jQ dU
    have ahg:(L ((a[k]+1000000000*V rest) / V b)).length≤1:=(jk l3).2 (by simpa [B] using ow)
    have pq:=Int.mul_ediv_add_emod (a[k]+1000000000*V rest) (V b)
    have CD:=Int.emod_nonneg (a[k]+1000000000*V rest) (b:=V b) (by omega)
    have MQ:0≤V b*((a[k]+1000000000*V rest) / V b):=Int.mul_nonneg (by omega) l3
    rw [if_pos (by simp;omega),if_pos (by simp;omega),yo l3 (by omega)]
    simp only [Option.bind_some]
    rw [mul_eq aU.1 (hp _) (by omega) (by omega),ew l3]
    simp only [Option.bind_some]
    rw [sub_eq (hp _) (hp _) ((jk MQ).2 (by
     have:=nv (hp (a[k]+1000000000*V rest))
     rw [ew pa] at this
     omega)) (by rw [ew pa,ew MQ];omega) (by omega),ew pa,ew MQ]
    simp only [Option.bind_some]
    rw [qn (by omega),Nat.zero_add]
    congr 4
    omega
  rw [show ((k+1:Nat):Int)-1=k by omega,LK]
  refine .inl ⟨_,rfl,?_⟩
  by_cases bh:a[k]+1000000000*V rest<V b
  ·rw [if_pos bh]
   refine ⟨⟨k,0::q,rfl,by omega,?_,by simp;omega,cB.cons (by omega) pV,jz _,by rw [ew pa];exact bh,?_⟩,by simp⟩
   ·simp only
    rw [List.replicate_succ',List.append_assoc];rfl
   ·simp only
    rw [bL,bk,ln,ew pa]
    grind
  ·rw [if_neg bh]
   have dU:a[k]+1000000000*V rest<1000000000*V b:=by omega
   have CD:=Int.emod_nonneg (a[k]+1000000000*V rest) (b:=V b) (by omega)
   refine ⟨⟨k,(a[k]+1000000000*V rest) / V b::q,rfl,by omega,Lg _ _ _,by simp;omega,cB.cons ⟨Int.ediv_nonneg pa (by omega),Int.ediv_lt_of_lt_mul jQ dU⟩ pV,jz _,by rw [ew CD];exact Int.emod_lt_of_pos _ jQ,?_⟩,by simp⟩
   simp only
   rw [bL,bk,ln,ew CD]
   have pq:=Int.mul_ediv_add_emod (a[k]+1000000000*V rest) (V b)
   generalize (a[k]+1000000000*V rest) / V b=u at *
   generalize (a[k]+1000000000*V rest) % V b=t at *
   grind
theorem div_eq {a b:List Int}(bH:fP a)(aU:fP b)(lv:b≠[])(a4:a.length≤900000)(hm:b.length≤900000):th a b=some (L (V a / V b),L (V a % V b)):=by
 unfold th
 simp only [f5]
 by_cases h1:b.length=1
 ·obtain ⟨k,d,a9,bL,sM,Ft,zp⟩:=EG aU lv
  have sL:k=0:=by omega
  subst sL
  have MR:V b=d:=by simpa using zp
  rw [if_pos (by simp [h1]),if_pos (by omega),bL]
  simp only [Option.bind_eq_bind,Option.bind_some]
  have pq:=Int.emod_nonneg (V a) (b:=d) (by omega)
  have CD:=Int.emod_lt_of_pos (V a) sM
  rw [abL bH.1 ⟨sM,Ft⟩ (by omega)]
  simp only [Option.bind_some]
  rw [yo pq (by omega),MR]
  rfl
 ·obtain ⟨r,aq,e1,aE,bP,c3⟩:=abP bH aU lv a4 hm
  rw [if_neg (by simp;omega),if_pos (by omega),qn (by omega),Int.toNat_natCast,aq]
  simp only [Option.bind_eq_bind,Option.bind_some]
  rw [rD aE (by omega),c3,e1]
  rfl
theorem QH {x y:Int}(U:0≤x):Int.gcd y (x % y)=Int.gcd x y:=by
 have:=Nat.gcd_rec y.natAbs x.natAbs
 simp only [Int.gcd]
 rw [Nat.gcd_comm x.natAbs,this,Int.natAbs_emod_of_nonneg U,Nat.gcd_comm]
theorem Ri {x:Int}(U:0≤x):(Int.gcd x 0:Int)=x:=by
 rw [Int.gcd_zero_right];omega
theorem abQ {x y:Int}(U:0≤x)(a1:0≤y)(CE:x<9223372036854775808)(CA:y<9223372036854775808):Ae x y=some (L (Int.gcd x y)):=by
 have : ∃r,iter (fun w:Int×Int=>xd w.1 w.2) (x,y)=some r∧(r=(Int.gcd x y:Int)∧r<9223372036854775808):=by
  refine jf (eQ:=fun w:Int×Int=>0≤w.1∧0≤w.2∧w.1<9223372036854775808∧w.2<9223372036854775808∧Int.gcd w.1 w.2=Int.gcd x y) (m:=fun w:Int×Int=>w.2.toNat) _ ?_ _ ⟨U,a1,CE,CA,rfl⟩
  rintro ⟨u,v⟩ ⟨h1,o,af,au,aA⟩
  simp only at h1 o af au aA
  by_cases bk:0<v
  ·have a0:=Int.emod_nonneg u (b:=v) (by omega)
   have bm:=Int.emod_lt_of_pos u bk
   refine .inl ⟨(v,u % v),?_,⟨o,a0,au,by simp only;omega,by rw [← aA];exact QH h1⟩,by simp only;omega⟩
   unfold xd
   rw [if_pos (by simpa using bk),if_pos (by omega),pZ h1]
  ·have S9:v=0:=by omega
   subst S9
   refine .inr ⟨u,by simp [xd],?_,af⟩
   rw [← aA,Ri h1]
 obtain ⟨r,aq,rfl,h⟩:=this
 unfold Ae JD
 rw [aq]
 simp only [Option.bind_eq_bind,Option.bind_some]
 rw [yo (by omega) h]
 rfl
theorem EH {a:List Int}(bH:fP a)(h:a.length<3):V a<9223372036854775808:=by
 have h1:=nv bH.1
 have o:=qT (m:=a.length) (n:=2) (by omega)
 have af:B 2=1000000000000000000:=by decide
 omega
theorem RL {a b:List Int}(bH:fP a)(aU:fP b)(a4:a.length≤900000)(hm:b.length≤900000):x8 a b=some (L (Int.gcd (V a) (V b))):=by
 have : ∃r,iter (fun w:List Int×List Int=>uu w.1 w.2) (a,b)=some r∧r.elim id id=L (Int.gcd (V a) (V b)):=by
  refine jf (eQ:=fun w:List Int×List Int=>fP w.1∧fP w.2∧w.1.length≤900000∧w.2.length≤900000∧Int.gcd (V w.1) (V w.2)=Int.gcd (V a) (V b)) (m:=fun w:List Int×List Int=>(V w.2).toNat) _ ?_ _ ⟨bH,aU,a4,hm,rfl⟩
  rintro ⟨x,y⟩ ⟨h1,o,af,au,aA⟩
  simp only at h1 o af au aA ⊢
  have kF:=mS h1.1
  have o9:=mS o.1
  by_cases a1:y=[]
  ·subst a1
   refine .inr ⟨.inl x,by simp [uu,f5],?_⟩
   rw [← aA,Bw,Ri kF]
   exact (Fk h1).symm
  ·have ae2:=tz o a1
   have ahh:=List.length_pos_iff.mpr a1
   by_cases b6:x.length<3∧y.length<3
   ·refine .inr ⟨.inr (L (Int.gcd (V a) (V b))),?_,rfl⟩
    unfold uu
    simp only [f5]
    rw [if_pos (by simp;omega),if_pos (by simp;omega),if_pos (by simp;omega),Pp h1 (by omega) (EH h1 b6.1)]
    simp only [Option.bind_eq_bind,Option.bind_some]
    rw [Pp o (by omega) (EH o b6.2)]
    simp only [Option.bind_some]
    rw [abQ kF o9 (EH h1 b6.1) (EH o b6.2),aA]
    rfl
   ·have Fv:=Int.emod_nonneg (V x) (b:=V y) (by omega)
    have ahi:=Int.emod_lt_of_pos (V x) ae2
    refine .inl ⟨(y,L (V x % V y)),?_,⟨o,jz _,au,(jk Fv).2 ?_,?_⟩,?_⟩
    ·unfold uu
     simp only [f5]
     rw [if_pos (by simp;omega),div_eq h1 o a1 af au]
     by_cases vU:x.length<3
     ·rw [if_pos (by simp;omega),if_neg (by simp;omega)]
      rfl
     ·rw [if_neg (by simp;omega)]
      rfl
    ·have:=nv o.1
     have:=qT au
     omega
    ·simp only
     rw [ew Fv,← aA]
     exact QH kF
    ·simp only
     rw [ew Fv]
     omega
 obtain ⟨r,aq,h⟩:=this
 unfold x8 J9
 rw [List.nil_append,List.nil_append,if_pos (by omega),if_pos (by omega),aq]
 cases r with
 | inl r=>exact congrArg some h
 | inr r=>exact congrArg some h
def o4 (p:Nat)(l:List Int):Prop:= ∀i z,i≠p→l[i]? = some z→0≤z∧z<1000000000
theorem o4.set {p:Nat}{l:List Int}(h:o4 p l){k:Nat}{x:Int}(U:0≤x∧x<1000000000):o4 p (l.set k x):=fun i z aj cD=>by
 by_cases a9:k=i
 ·subst a9
  rw [List.getElem?_set] at cD
  simp only [if_true] at cD
  split at cD
  ·rw [← Option.some.inj cD];exact U
  ·simp at cD
 ·rw [List.getElem?_set_ne a9] at cD
  exact h i z aj cD
theorem o4.St {p:Nat}{l:List Int}(h:o4 p l){x:Int}:o4 p (l.set p x):=fun i z aj cD=>by
 rw [List.getElem?_set_ne (fun h=>aj h.symm)] at cD
 exact h i z aj cD
theorem cB.toE {l:List Int}(h:cB l)(p:Nat):o4 p l:=fun _ _ _ cD=>h.get cD
theorem aaS {v row:List Int}{b0 mY i:Nat}{jc carry x y:Int}(U:v[i]? = some x)(a1:row[b0+i]? = some y)(kF:0≤x∧x<1000000000)(o9:0≤y∧y<1000000000)(aU:0≤jc∧jc<1000000000)(bh:0≤carry∧carry<1000000000)(hu:i<mY)(a4:row.length≤5000000):
 ∃c z,uv b0 mY v jc v.length carry i row=some (.inl (c,((i+1:Nat):Int),row.set (b0+i) z))∧0≤c∧c<1000000000∧0≤z∧z<1000000000∧z-1000000000*c=y-jc*x-carry:=by
 have aj:=f9 U
 have aG:=f9 a1
 obtain ⟨iu,ht⟩:=Bl aU kF
 have e:R (R (y-R (jc*x))-carry)=y-jc*x-carry:=by
  rw [ct (x:=jc*x) (by omega) (by omega),ct (x:=y-jc*x) (by omega) (by omega),ct (by omega) (by omega)]
 by_cases cm:y-jc*x-carry<0
 ·refine ⟨(999999999-(y-jc*x-carry)) / 1000000000,y-jc*x-carry+(999999999-(y-jc*x-carry)) / 1000000000*1000000000,?_,by omega,by omega,by omega,by omega,by omega⟩
  unfold uv
  rw [if_pos (by simp;omega),if_pos (by omega),Int.toNat_natCast,U]
  simp only [Option.bind_eq_bind,Option.bind_some]
  rw [if_pos (by omega),a1]
  simp only [Option.bind_some,e]
  rw [if_pos (by simpa using cm),if_pos (by omega),nR (n:=i) (by omega),ct (x:=999999999-(y-jc*x-carry)) (by omega) (by omega),ng (by omega),ct (x:=(999999999-(y-jc*x-carry)) / 1000000000) (by omega) (by omega),ct (x:=(999999999-(y-jc*x-carry)) / 1000000000*1000000000) (by omega) (by omega),ct (by omega) (by omega)]
 ·refine ⟨0,y-jc*x-carry,?_,by omega,by omega,by omega,by omega,by omega⟩
  unfold uv
  rw [if_pos (by simp;omega),if_pos (by omega),Int.toNat_natCast,U]
  simp only [Option.bind_eq_bind,Option.bind_some]
  rw [if_pos (by omega),a1]
  simp only [Option.bind_some,e]
  rw [if_neg (by simpa using cm),if_pos (by omega),nR (n:=i) (by omega)]
theorem aaT {v row:List Int}{b0 mY:Nat}{jc:Int}(bk:cB v)(aq:cB row)(aU:0≤jc∧jc<1000000000)(hu:v.length<mY)(aV:b0+v.length<row.length)(a4:row.length≤5000000):
 ∃r,Kb b0 mY v jc v.length 0 0 row=some r∧0≤r.1∧r.1<1000000000∧cB r.2∧r.2.length=row.length∧V r.2=V row-jc*B b0*V v+r.1*B (b0+v.length)∧ ∀i,i<b0∨b0+v.length≤i→r.2[i]? = row[i]? := by
 refine jf (eQ:=fun w:Int×Int×List Int=> ∃(i:Nat),w.2.1=(i:Int)∧i≤v.length∧0≤w.1∧w.1<1000000000∧cB w.2.2∧w.2.2.length=row.length∧V w.2.2=V row-jc*B b0*V (v.take i)+w.1*B (b0+i)∧ ∀i,i<b0∨b0+v.length≤i→w.2.2[i]? = row[i]?) (m:=fun w:Int×Int×List Int=>v.length-w.2.1.toNat) _ ?_ _ ⟨0,rfl,by omega,by simp,by simp,aq,rfl,by simp [V],fun _ _=>rfl⟩
 rintro ⟨carry,ii,ep⟩ ⟨i,h1,aj,mF,m5,kt,hlen,hV,lp⟩
 simp only at h1 mF m5 kt hlen hV lp ⊢
 subst h1
 by_cases MS:i=v.length
 ·subst MS
  exact .inr ⟨(carry,ep),by simp [uv],mF,m5,kt,hlen,by simpa using hV,lp⟩
 ·have U:=List.getElem?_eq_getElem (show i<v.length by omega)
  have a1:=List.getElem?_eq_getElem (show b0+i<ep.length by omega)
  obtain ⟨c,z,he,c9,bs,fc,CX,cD⟩:=aaS (mY:=mY) U a1 (bk.get U) (kt.get a1) aU ⟨mF,m5⟩ (by omega) (by omega)
  rw [he]
  refine .inl ⟨_,rfl,⟨i+1,rfl,by omega,c9,bs,kt.set ⟨fc,CX⟩,by simpa using hlen,?_,fun k a9=> ?_⟩,by simp;omega⟩
  ·simp only
   rw [rN a1,sm U,hV,← Nat.add_assoc,mi,Bv]
   have vC:z=ep[b0+i]-jc*v[i]-carry+1000000000*c:=by omega
   rw [vC]
   grind
  ·simp only
   rw [List.getElem?_set_ne (by omega)]
   exact lp k a9
theorem acZ {v row:List Int}{b0 mY:Nat}{jc:Int}(bk:cB v)(aq:cB row)(aU:0≤jc∧jc<1000000000)(hu:v.length<mY)(aV:b0+v.length<row.length)(a4:row.length≤5000000):
 ∃y dJ,AH v jc b0 mY row=some (decide (y<0),dJ)∧dJ.length=row.length∧o4 (b0+v.length) dJ∧dJ[b0+v.length]? = some y∧ -1000000000<y∧y<1000000000∧V dJ=V row-jc*B b0*V v∧ ∀i,i<b0∨b0+v.length<i→dJ[i]? = row[i]? := by
 obtain ⟨r,ia,c9,bs,kt,hlen,hV,lp⟩:=aaT bk aq aU hu aV a4
 have U:=List.getElem?_eq_getElem (show b0+v.length<r.2.length by omega)
 have kF:=kt.get U
 refine ⟨r.2[b0+v.length]-r.1,r.2.set (b0+v.length) (r.2[b0+v.length]-r.1),?_,by simpa using hlen,(cB.toE kt _).St,?_,by omega,by omega,?_,fun i aj=> ?_⟩
 ·unfold AH
  simp only [f5]
  rw [ia]
  simp only [Option.bind_eq_bind,Option.bind_some,Int.toNat_natCast]
  rw [if_pos (by omega),U]
  simp only [Option.bind_some]
  rw [if_pos (by omega),ct (by omega) (by omega),List.getElem?_set,if_pos rfl,if_pos (by omega)]
  rfl
 ·rw [List.getElem?_set,if_pos rfl,if_pos (by omega)]
 ·rw [rN U,hV]
  grind
 ·rw [List.getElem?_set_ne (by omega)]
  exact lp i (by omega)
theorem aaU {v row:List Int}{b0 mY:Nat}(bk:cB v)(aq:o4 (b0+v.length) row)(hu:v.length<mY)(aV:b0+v.length<row.length)(a4:row.length≤5000000):
 ∃r,Kc b0 mY v v.length 0 0 row=some r∧0≤r.1∧r.1≤1∧o4 (b0+v.length) r.2∧r.2.length=row.length∧V r.2=V row+B b0*V v-r.1*B (b0+v.length)∧ ∀i,i<b0∨b0+v.length≤i→r.2[i]? = row[i]? := by
 refine jf (eQ:=fun w:Int×Int×List Int=> ∃(i:Nat),w.2.1=(i:Int)∧i≤v.length∧0≤w.1∧w.1≤1∧o4 (b0+v.length) w.2.2∧w.2.2.length=row.length∧V w.2.2=V row+B b0*V (v.take i)-w.1*B (b0+i)∧ ∀i,i<b0∨b0+v.length≤i→w.2.2[i]? = row[i]?) (m:=fun w:Int×Int×List Int=>v.length-w.2.1.toNat) _ ?_ _ ⟨0,rfl,by omega,by simp,by simp,aq,rfl,by simp [V],fun _ _=>rfl⟩
 rintro ⟨carry,ii,ep⟩ ⟨i,h1,aj,mF,m5,kt,hlen,hV,lp⟩
 simp only at h1 mF m5 kt hlen hV lp ⊢
 subst h1
 by_cases MS:i=v.length
 ·subst MS
  exact .inr ⟨(carry,ep),by simp [xE],mF,m5,kt,hlen,by simpa using hV,lp⟩
 ·have U:=List.getElem?_eq_getElem (show i<v.length by omega)
  have a1:=List.getElem?_eq_getElem (show b0+i<ep.length by omega)
  have kF:=bk.get U
  have o9:=kt _ _ (by omega) a1
  have he:xE b0 mY v v.length carry i ep=some (.inl ((ep[b0+i]+v[i]+carry) / 1000000000,((i+1:Nat):Int),ep.set (b0+i) ((ep[b0+i]+v[i]+carry) % 1000000000))):=by
   unfold xE
   rw [if_pos (by simp;omega),if_pos (by omega),Int.toNat_natCast,U]
   simp only [Option.bind_eq_bind,Option.bind_some]
   rw [if_pos (by omega),a1]
   simp only [Option.bind_some]
   rw [if_pos (by omega),ct (x:=ep[b0+i]+v[i]) (by omega) (by omega),ct (x:=ep[b0+i]+v[i]+carry) (by omega) (by omega),pZ (by omega),ng (by omega),ct (by omega) (by omega),nR (n:=i) (by omega)]
  rw [he]
  refine .inl ⟨_,rfl,⟨i+1,rfl,by omega,by simp only;omega,by simp only;omega,kt.set (by omega),by simpa using hlen,?_,fun k a9=> ?_⟩,by simp;omega⟩
  ·simp only
   rw [rN a1,sm U,hV,← Nat.add_assoc,mi,Bv]
   have:=Int.mul_ediv_add_emod (ep[b0+i]+v[i]+carry) 1000000000
   generalize (ep[b0+i]+v[i]+carry) / 1000000000=q at *
   generalize (ep[b0+i]+v[i]+carry) % 1000000000=t at *
   have vC:t=ep[b0+i]+v[i]+carry-1000000000*q:=by omega
   rw [vC]
   grind
  ·simp only
   rw [List.getElem?_set_ne (by omega)]
   exact lp k a9
theorem ac0 {v row:List Int}{b0 mY:Nat}{y:Int}(bk:cB v)(aq:o4 (b0+v.length) row)(hu:v.length<mY)(aV:b0+v.length<row.length)(a4:row.length≤5000000)(a1:row[b0+v.length]? = some y)(o9:-1000000000<y)(CA:y<1000000000):
 ∃l9 dJ,x9 v b0 mY row=some dJ∧dJ.length=row.length∧o4 (b0+v.length) dJ∧dJ[b0+v.length]? = some l9∧V dJ=V row+B b0*V v∧ ∀i,i<b0∨b0+v.length<i→dJ[i]? = row[i]? := by
 obtain ⟨r,ia,c9,bs,kt,hlen,hV,lp⟩:=aaU bk aq hu aV a4
 have U:r.2[b0+v.length]? = some y:=by rw [lp _ (by omega)];exact a1
 refine ⟨y+r.1,r.2.set (b0+v.length) (y+r.1),?_,by simpa using hlen,kt.St,?_,?_,fun i aj=> ?_⟩
 ·unfold x9
  simp only [f5]
  rw [ia]
  simp only [Option.bind_eq_bind,Option.bind_some,Int.toNat_natCast]
  rw [if_pos (by omega),U]
  simp only [Option.bind_some]
  rw [if_pos (by omega),ct (by omega) (by omega)]
 ·rw [List.getElem?_set,if_pos rfl,if_pos (by omega)]
 ·rw [rN U,hV]
  grind
 ·rw [List.getElem?_set_ne (by omega)]
  exact lp i (by omega)
theorem abR {g q v1 v2 top gV rest aX W P:Int}(hv:1≤P)(dB:0≤g)(cm:g*v1+rest=top)(tQ:P*(v1*1000000000+v2)≤W)(MO:aX<P*(top*1000000000+gV+1))(Te:q*W≤aX)(hW:0≤W)(h:rest*1000000000+gV<g*v2):q<g:=by
 apply Int.not_le.mp
 intro tR
 have h1:g*W≤q*W:=Int.mul_le_mul_of_nonneg_right tR hW
 have o:g*(P*(v1*1000000000+v2))≤g*W:=Int.mul_le_mul_of_nonneg_left tQ dB
 have af:g*(P*(v1*1000000000+v2))=P*(g*(v1*1000000000+v2)):=by grind
 have au:P*(g*(v1*1000000000+v2))<P*(top*1000000000+gV+1):=by omega
 have aA:=Int.lt_of_mul_lt_mul_left au (by omega)
 have a0:g*(v1*1000000000+v2)=1000000000*(g*v1)+g*v2:=by grind
 omega
theorem Qd {g v1 v2 top gV rest aX W P:Int}(hv:1≤P)(dB:0≤g)(tS:g≤999999999)(sU:1≤v1)(CF:0≤v2)(cm:g*v1+rest=top)(tQ:P*(v1*1000000000+v2)≤W)(Fs:W<P*(v1*1000000000+v2+1))(Fq:P*(top*1000000000+gV)≤aX)(h:g*v2≤rest*1000000000+gV):g≤aX / W+1:=by
 have CG:P*1000000000≤W:=by
  have h1:P*1000000000≤P*(v1*1000000000+v2):=Int.mul_le_mul_of_nonneg_left (by omega) (by omega)
  omega
 have h1:g*W≤g*(P*(v1*1000000000+v2+1)):=Int.mul_le_mul_of_nonneg_left (by omega) dB
 have o:g*(P*(v1*1000000000+v2+1))=P*(1000000000*(g*v1)+g*v2+g):=by grind
 have af:P*(1000000000*(g*v1)+g*v2+g)≤P*(top*1000000000+gV+999999999):=Int.mul_le_mul_of_nonneg_left (by omega) (by omega)
 have au:P*(top*1000000000+gV+999999999)=P*(top*1000000000+gV)+P*999999999:=by grind
 have aA:(g-1)*W=g*W-W:=by grind
 have:g-1≤aX / W:=(Int.le_ediv_iff_mul_le (by omega)).2 (by omega)
 omega
theorem aae {ab u iS al:List Int}{N n j:Nat}{v1 v2 gV top aX W P:Int}(a4:2≤n)(E6:n≤5000000)(CH:j+n<N)(fY:N≤5000000)(h1:iS[n-1]? = some v1)(o:iS[n-2]? = some v2)(af:u[j+n-2]? = some gV)
 (sU:1≤v1∧v1<1000000000) (CF:0≤v2∧v2<1000000000) (ahj:0≤gV∧gV<1000000000) (hv:1≤P) (tQ:P*(v1*1000000000+v2)≤W) (Fs:W<P*(v1*1000000000+v2+1)) (Fq:P*(top*1000000000+gV)≤aX) (MO:aX<P*(top*1000000000+gV+1)) (c1:0≤aX) (MP:aX<1000000000*W) (mK:0≤top) (ahk:top≤v1*1000000000+999999999) (bd:aX / W≤top / v1) :
 ∃g,Ks N n n j ab u iS al (top / v1) (top % v1)=some g∧(aX / W=g∨aX / W+1=g)∧0≤g∧g≤999999999:=by
 have CG:0<W:=by
  have h1:P*1000000000≤P*(v1*1000000000+v2):=Int.mul_le_mul_of_nonneg_left (by omega) (by omega)
  omega
 have l3:0≤aX / W:=Int.ediv_nonneg c1 (by omega)
 have ow:aX / W<1000000000:=Int.ediv_lt_of_lt_mul CG MP
 have Te:aX / W*W≤aX:=Int.ediv_mul_le _ (by omega)
 have ae4:=Int.mul_ediv_add_emod top v1
 have n0:=Int.emod_nonneg top (b:=v1) (by omega)
 have pq:=Int.emod_lt_of_pos top (b:=v1) (by omega)
 have L2:R ((n:Int)-1)=((n-1:Nat):Int):=by rw [ct (by omega) (by omega)];omega
 have adY:R ((n:Int)-2)=((n-2:Nat):Int):=by rw [ct (by omega) (by omega)];omega
 have adZ:R (R ((j:Int)+(n:Int))-2)=((j+n-2:Nat):Int):=by rw [ct (x:=(j:Int)+n) (by omega) (by omega),ct (by omega) (by omega)];omega
 have EY:top / v1≤top:=Int.ediv_le_self _ mK
 refine jf (eQ:=fun w:Int×Int=>w.1*v1+w.2=top∧0≤w.2∧w.2<1000000000∧aX / W≤w.1∧w.1≤top) (m:=fun w:Int×Int=>w.1.toNat) _ ?_ _ ⟨by rw [Int.mul_comm];exact ae4,n0,by simp only;omega,bd,EY⟩
 rintro ⟨g,rest⟩ ⟨i1,ps,Nm,CR,afK⟩
 simp only at i1 ps Nm CR afK ⊢
 have MT:R (rest+v1)=rest+v1:=ct (by omega) (by omega)
 have MU:R (g-1)=g-1:=ct (by omega) (by omega)
 have tS:(g-1)*v1+(rest+v1)=top:=by grind
 have RM:aX / W≤g-1→1000000000≤rest+v1→(aX / W=g-1∨aX / W+1=g-1)∧0≤g-1∧g-1≤999999999:=by
  intro lh kx
  have oG:(g-1)*v1<1000000000*v1:=by omega
  have Np:g-1<1000000000:=Int.lt_of_mul_lt_mul_right oG (by omega)
  have TS:0≤g-1:=by omega
  have ahP:=(Bl ⟨TS,Np⟩ CF).2
  have:=Qd hv TS (by omega) sU.1 CF.1 tS tQ Fs Fq (by omega)
  omega
 by_cases L3:1000000000≤g
 ·by_cases aU:1000000000≤rest+v1
  ·refine .inr ⟨g-1,?_,RM (by omega) aU⟩
   unfold uy
   rw [if_pos (by simpa using L3),L2,if_pos (by omega),Nat.zero_add,Int.toNat_natCast,h1]
   simp only [Option.bind_eq_bind,Option.bind_some,MT,MU]
   rw [if_pos (by simpa using aU)]
  ·refine .inl ⟨(g-1,rest+v1),?_,⟨tS,by simp only;omega,by simp only;omega,by simp only;omega,by simp only;omega⟩,by simp only;omega⟩
   unfold uy
   rw [if_pos (by simpa using L3),L2,if_pos (by omega),Nat.zero_add,Int.toNat_natCast,h1]
   simp only [Option.bind_eq_bind,Option.bind_some,MT,MU]
   rw [if_neg (by simpa using aU)]
 ·have jq:0≤g:=by omega
  obtain ⟨iu,ht⟩:=Bl ⟨jq,by omega⟩ CF
  have e1:R (R (rest*1000000000)+gV)=rest*1000000000+gV:=by rw [ct (x:=rest*1000000000) (by omega) (by omega),ct (by omega) (by omega)]
  have aE:R (g*v2)=g*v2:=ct (by omega) (by omega)
  have LK:uy N n n j ab u iS al g rest=some (if rest*1000000000+gV<g*v2 then (if 1000000000≤rest+v1 then .inr (g-1) else .inl (g-1,rest+v1)) else .inr g):=by
   unfold uy
   rw [if_neg (by simpa using L3),adY,if_pos (by omega),Nat.zero_add,Int.toNat_natCast,o]
   simp only [Option.bind_eq_bind,Option.bind_some]
   rw [adZ,if_pos (by omega),Nat.zero_add,Int.toNat_natCast,af]
   simp only [Option.bind_some,e1,aE]
   by_cases bh:rest*1000000000+gV<g*v2
   ·rw [if_pos (by simpa using bh),if_pos bh,L2,if_pos (by omega),Nat.zero_add,Int.toNat_natCast,h1]
    simp only [Option.bind_some,MT,MU]
    by_cases aU:1000000000≤rest+v1
    ·rw [if_pos (by simpa using aU),if_pos aU]
    ·rw [if_neg (by simpa using aU),if_neg aU]
   ·rw [if_neg (by simpa using bh),if_neg bh]
  rw [LK]
  by_cases bh:rest*1000000000+gV<g*v2
  ·have ahl:=abR hv jq i1 tQ MO Te (by omega) bh
   rw [if_pos bh]
   by_cases aU:1000000000≤rest+v1
   ·rw [if_pos aU]
    exact .inr ⟨g-1,rfl,RM (by omega) aU⟩
   ·rw [if_neg aU]
    exact .inl ⟨(g-1,rest+v1),rfl,⟨tS,by simp only;omega,by simp only;omega,by simp only;omega,by simp only;omega⟩,by simp only;omega⟩
  ·rw [if_neg bh]
   have:=Qd hv jq (by omega) sU.1 CF.1 i1 tQ Fs Fq (by omega)
   exact .inr ⟨g,rfl,by omega,by omega,by omega⟩
theorem aaV {a b:List Int}{k:Nat}(h:∀i,k≤i→a[i]? = b[i]?):a.drop k=b.drop k:=by
 apply List.ext_getElem?
 intro i
 rw [List.getElem?_drop,List.getElem?_drop]
 exact h _ (by omega)
theorem aaW {a b:List Int}{k:Nat}(h:∀i,i<k→a[i]? = b[i]?):a.take k=b.take k:=by
 apply List.ext_getElem?
 intro i
 rw [List.getElem?_take,List.getElem?_take]
 by_cases aj:i<k
 ·rw [if_pos aj,if_pos aj];exact h i aj
 ·rw [if_neg aj,if_neg aj]
theorem Tf {u w:List Int}{j n:Nat}{y c:Int}(hlen:w.length=u.length)(CH:j+n<u.length)(ey:o4 (j+n) w)(a1:w[j+n]? = some y)(lp:∀i,i<j∨j+n<i→w[i]? = u[i]?)(h0:V (u.drop (j+n+1))=0)(hV:V w=V u-c*B j):
 V (w.drop j)=V (u.drop j)-c∧ ∃low,0≤low∧low<B n∧V (w.drop j)=low+B n*y:=by
 have h1:=vc (l:=u) (n:=j) (by omega)
 have o:=vc (l:=w) (n:=j) (by omega)
 rw [aaW (a:=w) (b:=u) (fun i aj=>lp i (.inl aj))] at o
 have af:B j*V (w.drop j)=B j*(V (u.drop j)-c):=by grind
 have ho:=oS j
 have au:V (w.drop j)=V (u.drop j)-c:=Int.eq_of_mul_eq_mul_left (by omega) af
 refine ⟨au,V ((w.drop j).take n),?_,?_,?_⟩
 ·refine mS (fun x U=> ?_)
  obtain ⟨i,aj⟩:=List.mem_iff_getElem?.mp U
  have l4:=f9 aj
  simp at l4
  rw [List.getElem?_take,if_pos (by omega),List.getElem?_drop] at aj
  exact ey _ _ (by omega) aj
 ·have aV:cB ((w.drop j).take n):=fun x U=>by
   obtain ⟨i,aj⟩:=List.mem_iff_getElem?.mp U
   have l4:=f9 aj
   simp at l4
   rw [List.getElem?_take,if_pos (by omega),List.getElem?_drop] at aj
   exact ey _ _ (by omega) aj
  have:=nv aV
  rwa [List.length_take,Nat.min_eq_left (by simp;omega)] at this
 ·have aA:=vc (l:=w.drop j) (n:=n) (by simp;omega)
  rw [List.drop_drop,oJ a1,aaV (a:=w) (b:=u) (k:=j+n+1) (fun i aj=>lp i (.inr (by omega))),h0] at aA
  rw [aA]
  grind
theorem Qe {w:List Int}{p:Nat}(ey:o4 p w)(a1:w[p]? = some 0):cB w:=fun x U=>by
 obtain ⟨i,aj⟩:=List.mem_iff_getElem?.mp U
 by_cases h:i=p
 ·subst h
  rw [a1] at aj
  have:=Option.some.inj aj
  omega
 ·exact ey i x h aj
theorem QI {low y X wj W:Int}(h0:0≤low)(h1:low<wj)(FL:X=low+wj*y)(o:0≤X)(af:X<W)(au:W≤wj):y=0:=by
 have dU:wj*y<wj*1:=by omega
 have aA:=Int.lt_of_mul_lt_mul_left dU (by omega)
 have Fe:wj*(-1)<wj*y:=by omega
 have a0:=Int.lt_of_mul_lt_mul_left Fe (by omega)
 omega
theorem aaX {ab u iS al:List Int}{n j:Nat}{v1 W:Int}(a4:2≤n)(MV:n≤iS.length)(bk:cB (iS.take n))(hW:V (iS.take n)=W)(sU:iS[n-1]? = some v1)(L4:1≤v1)(hu:cB u)(vV:u.length≤5000000)(CH:j+n<u.length)(dU:V (u.drop (j+1))<W)(ahm:j<al.length):
 ∃pY,uz u.length n n ab iS j u al=some (.inl ((j:Int)-1,pY,al.set j (V (u.drop j) / W)))∧cB pY∧pY.length=u.length∧V pY=V u-(V (u.drop j) / W)*B j*W∧V (pY.drop j)<W∧0≤V (u.drop j) / W∧V (u.drop j) / W<1000000000:=by
 obtain ⟨n,rfl⟩ : ∃m,n=m+2:=⟨n-2,by omega⟩
 have pJ:(iS.take (n+2)).length=n+2:=by simp;omega
 have tS:(iS.take (n+2))[n+1]? = some v1:=by rw [List.getElem?_take,if_pos (by omega)];exact sU
 have Tg:=List.getElem?_eq_getElem (show n<iS.length by omega)
 have Su:(iS.take (n+2))[n]? = some iS[n]:=by rw [List.getElem?_take,if_pos (by omega)];exact Tg
 have ad0:=bk.get tS
 have ad1:=bk.get Su
 have kF:=List.getElem?_eq_getElem (show j+(n+2)<u.length by omega)
 have CE:=List.getElem?_eq_getElem (show j+(n+1)<u.length by omega)
 have Cg:=List.getElem?_eq_getElem (show j+n<u.length by omega)
 have Th:=List.getElem?_eq_getElem (show j<u.length by omega)
 have lv:=hu.get kF
 have tL:=hu.get CE
 have Mp:=hu.get Cg
 have ahn:=hu.get Th
 have CI:=rE bk (k:=n+1) (by omega)
 rw [A0 tS (by omega),hW] at CI
 have MW:=rE bk (k:=n) (by omega)
 rw [oJ Su,A0 tS (by omega),hW] at MW
 have L5:=nv bk
 rw [pJ,hW] at L5
 have aho:0≤W:=by rw [← hW];exact mS bk
 have cD:=rE (hu.drop (j+1)) (k:=n+2) (by simp;omega)
 rw [List.drop_drop] at cD
 have ae5:=mS (hu.drop (j+1+(n+2)))
 have ahp:=oS (n+2)
 have h0:V (u.drop (j+(n+2)+1))=0:=by
  rw [show j+(n+2)+1=j+1+(n+2) by omega]
  apply Int.le_antisymm _ ae5
  apply Int.not_lt.mp
  intro h
  have:B (n+2)*1≤B (n+2)*V (u.drop (j+1+(n+2))):=Int.mul_le_mul_of_nonneg_left (by omega) (by omega)
  omega
 have mK:V (u.drop (j+(n+2)))=u[j+(n+2)]:=by rw [oJ kF,h0];omega
 have EY:V (u.drop (j+(n+1)))=u[j+(n+1)]+1000000000*u[j+(n+2)]:=by rw [oJ CE,show j+(n+1)+1=j+(n+2) by omega,mK]
 have iI:V (u.drop (j+n))=u[j+n]+1000000000*(u[j+(n+1)]+1000000000*u[j+(n+2)]):=by rw [oJ Cg,show j+n+1=j+(n+1) by omega,EY]
 have ia:=rE (hu.drop j) (k:=n+1) (by simp;omega)
 rw [List.drop_drop,EY] at ia
 have vW:=rE (hu.drop j) (k:=n) (by simp;omega)
 rw [List.drop_drop,iI] at vW
 have pa:=mS (hu.drop j)
 have c1:V (u.drop j)<1000000000*W:=by rw [oJ Th];omega
 have ae6:=oS n
 have ad2:=oS (n+1)
 have vB:u[j+(n+2)]≤v1:=by
  have h1:=rE (hu.drop (j+1)) (k:=n+1) (by simp;omega)
  rw [List.drop_drop,show j+1+(n+1)=j+(n+2) by omega,mK] at h1
  have o:B (n+1)*u[j+(n+2)]<B (n+1)*(v1+1):=by omega
  have:=Int.lt_of_mul_lt_mul_left o (by omega)
  omega
 have ad3:=O7 ad2 ia.1 ia.2 CI.1 CI.2 (by omega) (by omega) c1
 obtain ⟨g,dB,tR,ae7,ahq⟩:=aae (ab:=ab) (al:=al) (N:=u.length) (n:=n+2) (j:=j) (v1:=v1) (v2:=iS[n]) (gV:=u[j+n]) (top:=u[j+(n+1)]+1000000000*u[j+(n+2)]) (aX:=V (u.drop j)) (W:=W) (P:=B n) (u:=u) (iS:=iS) (by omega) (by omega) CH vV sU Tg Cg ⟨L4,ad0.2⟩ ad1 Mp ae6
  (by rw [Int.mul_comm v1,Int.add_comm];exact MW.1) (by rw [Int.mul_comm v1,Int.add_comm (1000000000*v1)];exact MW.2)
  (by rw [Int.mul_comm (u[j+(n+1)]+_),Int.add_comm];exact vW.1) (by rw [Int.mul_comm (u[j+(n+1)]+_),Int.add_comm (1000000000*_) u[j+n]];exact vW.2) pa c1 (by omega) (by omega) ad3.2.1
 have CG:0<W:=by
  have:B (n+1)*1≤B (n+1)*v1:=Int.mul_le_mul_of_nonneg_left (by omega) (by omega)
  omega
 have l3:0≤V (u.drop j) / W:=Int.ediv_nonneg pa (by omega)
 have ow:V (u.drop j) / W<1000000000:=Int.ediv_lt_of_lt_mul CG c1
 have hm:=Int.mul_ediv_add_emod (V (u.drop j)) W
 have n0:=Int.emod_nonneg (V (u.drop j)) (b:=W) (by omega)
 have pq:=Int.emod_lt_of_pos (V (u.drop j)) CG
 obtain ⟨y,w,cm,Ti,Fw,Fx,o9,CA,Fy,Lu⟩:=acZ (v:=iS.take (n+2)) (row:=u) (b0:=j) (mY:=u.length-j) (jc:=g) bk hu ⟨ae7,by omega⟩ (by omega) (by omega) vV
 rw [pJ] at Fw Fx Lu
 rw [hW] at Fy
 obtain ⟨vU,low,nB,Fz,sK⟩:=Tf (c:=g*W) Ti CH Fw Fx Lu h0 (by rw [Fy];grind)
 have ae8:R ((j:Int)-1)=(j:Int)-1:=qn (by omega)
 have e1:R ((j:Int)+((n+2:Nat):Int))=((j+(n+2):Nat):Int):=by rw [ct (by omega) (by omega)];omega
 have aE:R (((j+(n+2):Nat):Int)-1)=((j+(n+1):Nat):Int):=by rw [ct (by omega) (by omega)];omega
 have bP:R (((n+2:Nat):Int)-1)=((n+1:Nat):Int):=by rw [ct (by omega) (by omega)];omega
 have c3:R (R (u[j+(n+2)]*1000000000)+u[j+(n+1)])=u[j+(n+1)]+1000000000*u[j+(n+2)]:=by
  rw [ct (x:=u[j+(n+2)]*1000000000) (by omega) (by omega),ct (by omega) (by omega)];omega
 have dg:0≤u[j+(n+1)]+1000000000*u[j+(n+2)]:=by omega
 have d6:(u[j+(n+1)]+1000000000*u[j+(n+2)]) / v1≤u[j+(n+1)]+1000000000*u[j+(n+2)]:=Int.ediv_le_self _ dg
 have eB:0≤(u[j+(n+1)]+1000000000*u[j+(n+2)]) / v1:=Int.ediv_nonneg dg (by omega)
 have ad4:iS[n+1]? = some v1:=sU
 have pre:uz u.length (n+2) ((n+2:Nat):Int) ab iS j u al =
  (if (decide (y<0))=true then
    x9 (iS.take (n+2)) j (u.length-j) w >>= fun iq=>some (.inl ((j:Int)-1,iq,al.set j (R (g-1))))
  else some (.inl ((j:Int)-1,w,al.set j g))):=by
  unfold uz
  rw [if_pos (by simp)]
  simp only [e1,aE,bP,Int.toNat_natCast,Nat.zero_add,ae8]
  rw [if_pos (by omega),kF]
  simp only [Option.bind_eq_bind,Option.bind_some]
  rw [if_pos (by omega),CE]
  simp only [Option.bind_some]
  rw [if_pos (by omega),ad4]
  simp only [Option.bind_some]
  rw [if_pos (by omega),c3,ng dg,pZ dg,ct (by omega) (by omega),dB]
  simp only [Option.bind_some]
  rw [if_pos (by omega),if_pos (by omega),if_pos (by omega),List.drop_zero,cm]
  simp only [Option.bind_some]
  by_cases a1:y<0
  ·have bL:(decide (y<0))=true:=by simpa using a1
   simp only [if_pos bL]
   congr 1
   funext r
   rw [if_pos (by omega),if_pos (by omega)]
  ·have bL : ¬(decide (y<0))=true:=by simpa using a1
   simp only [if_neg bL]
   rw [if_pos (by omega),if_pos (by omega)]
 rcases tR with tR|tR
 ·subst tR
  have FL:V (w.drop j)=V (u.drop j) % W:=by rw [vU];grind
  have a1:y=0:=QI (W:=W) nB Fz sK (by rw [FL];exact n0) (by rw [FL];exact pq) (Int.le_of_lt L5)
  subst a1
  refine ⟨w,?_,Qe Fw Fx,Ti,Fy,by omega,l3,ow⟩
  rw [pre]
  rfl
 ·have FL:V (w.drop j)=V (u.drop j) % W-W:=by rw [vU,← tR];grind
  have a1:y<0:=by
   apply Int.not_le.mp
   intro h
   have:0≤B (n+2)*y:=Int.mul_nonneg (by omega) h
   omega
  obtain ⟨l9,bS,nV,agU,L6,L7,Sv,Rj⟩:=ac0 (v:=iS.take (n+2)) (row:=w) (b0:=j) (mY:=u.length-j) (y:=y) bk (by rw [pJ];exact Fw) (by omega) (by omega) (by omega) (by rw [pJ];exact Fx) o9 CA
  rw [pJ] at L6 L7 Rj
  rw [hW] at Sv
  have Tj:V bS=V u-V (u.drop j) / W*B j*W:=by rw [Sv,Fy,← tR];grind
  obtain ⟨ad5,agV,ad6,ad7,ad8⟩:=Tf (c:=V (u.drop j) / W*W) (by omega) CH L6 L7 (fun i aj=>by rw [Rj i aj,Lu i aj]) h0 (by rw [Tj];grind)
  have Tk:V (bS.drop j)=V (u.drop j) % W:=by rw [ad5];grind
  have n3:l9=0:=QI (W:=W) ad6 ad7 ad8 (by rw [Tk];exact n0) (by rw [Tk];exact pq) (Int.le_of_lt L5)
  subst n3
  refine ⟨bS,?_,Qe L6 L7,by omega,Tj,by omega,l3,ow⟩
  rw [pre,if_pos (by simpa using a1),nV]
  simp only [Option.bind_eq_bind,Option.bind_some]
  rw [ct (by omega) (by omega),show g-1=V (u.drop j) / W by omega]
theorem aaY {ab iS u:List Int}{n m:Nat}{v1 W:Int}(a4:2≤n)(MV:n≤iS.length)(bk:cB (iS.take n))(hW:V (iS.take n)=W)(sU:iS[n-1]? = some v1)(L4:1≤v1)(hu:cB u)(vV:u.length≤5000000)(hm:m+n=u.length)(dU:V (u.drop m)<W):
 ∃r,Kt u.length n n ab iS ((m:Int)-1) u (List.replicate m 0)=some r∧cB r.1∧r.1.length=u.length∧V r.1<W∧cB r.2∧r.2.length=m∧V u=V r.2*W+V r.1:=by
 refine jf (eQ:=fun w:Int×List Int×List Int=> ∃(k:Nat) (q:List Int),w.1=(k:Int)-1∧k≤m∧cB w.2.1∧w.2.1.length=u.length∧w.2.2=List.replicate k 0++q∧q.length+k=m∧cB q∧V (w.2.1.drop k)<W∧V u=V w.2.1+B k*V q*W) (m:=fun w:Int×List Int×List Int=>(w.1+1).toNat) _ ?_ _ ⟨m,[],rfl,by omega,hu,rfl,by simp,by simp,cB.nil,dU,by simp [V]⟩
 rintro ⟨afJ,pY,al⟩ ⟨k,q,h1,a9,ox,hlen,af,bd,pV,L8,hV⟩
 simp only at h1 ox hlen af L8 hV ⊢
 subst h1 af
 cases k with
 | zero =>
  refine .inr ⟨(pY,q),by simp [uz],ox,hlen,by simpa using L8,pV,by simpa using bd,?_⟩
  rw [hV]
  simp [B]
  omega
 | succ k =>
  obtain ⟨ahr,he,s1,s2,v9,afL,afM,afN⟩:=aaX (ab:=ab) (iS:=iS) (u:=pY) (al:=List.replicate (k+1) 0++q) (j:=k) a4 MV bk hW sU L4 ox (by omega) (by omega) L8 (by simp;omega)
  rw [hlen] at he
  rw [show ((k+1:Nat):Int)-1=k by omega,he]
  refine .inl ⟨_,rfl,⟨k,V (pY.drop k) / W::q,rfl,by omega,s1,s2.trans hlen,Lg _ _ _,by simp;omega,cB.cons ⟨afM,afN⟩ pV,afL,?_⟩,by simp only;omega⟩
  simp only
  rw [hV,v9,ln,mi]
  grind
theorem abS {a:List Int}(h:a.length≤900000):A8 a=some a:=by
 unfold A8
 rw [if_pos (by omega)]
theorem aaf {a b q s:Int}(h:a=q*b+s)(h0:0≤s)(h1:s<b):a / b=q∧a % b=s:=by
 subst h
 constructor
 ·rw [Int.add_comm,Int.add_mul_ediv_right _ _ (by omega),Int.ediv_eq_zero_of_lt h0 h1]
  omega
 ·rw [Int.add_comm,Int.add_mul_emod_self_right]
  exact Int.emod_eq_of_lt h0 h1
theorem acu {a b:List Int}(bH:fP a)(aU:fP b)(lv:b≠[])(a4:a.length≤900000)(hm:b.length≤900000):yg a b=some (L (V a / V b),L (V a % V b)):=by
 have jQ:=tz aU lv
 have E5:=mS bH.1
 unfold yg
 simp only [f5]
 rw [PN bH aU (by omega)]
 simp only [Option.bind_eq_bind,Option.bind_some]
 by_cases bh:V a<V b
 ·rw [if_pos (by simpa using tr.2 bh),abS a4,Int.ediv_eq_zero_of_lt E5 bh,Int.emod_eq_of_lt E5 bh,qU,Fk bH]
  rfl
 ·rw [if_neg (fun h=>bh (tr.1 (by simpa using h)))]
  obtain ⟨k,d,a9,bL,sM,Ft,zp⟩:=EG aU lv
  by_cases h1:b.length=1
  ·have sL:k=0:=by omega
   subst sL
   have MR:V b=d:=by simpa using zp
   rw [if_pos (by simp [h1]),if_pos (by omega),bL]
   simp only [Option.bind_some]
   have pq:=Int.emod_nonneg (V a) (b:=d) (by omega)
   have CD:=Int.emod_lt_of_pos (V a) sM
   rw [O6 bH.1 ⟨sM,Ft⟩ (by omega)]
   simp only [Option.bind_some]
   rw [BA pq (by omega),KG pq (by omega),MR]
   rfl
  ·have hw:R ((b.length:Int)-1)=(k:Int):=by rw [ct (by omega) (by omega)];omega
   have e1:R (d+1)=d+1:=ct (by omega) (by omega)
   have zq:1≤1000000000 / (d+1):=by
    apply (Int.le_ediv_iff_mul_le (by omega)).2
    omega
   have CJ:1000000000 / (d+1)<1000000000:=by
    apply Int.ediv_lt_of_lt_mul (by omega)
    omega
   have ae9:1000000000 / (d+1)*(d+1)≤1000000000:=Int.ediv_mul_le _ (by omega)
   have aE:R ((1000000000:Int).tdiv (d+1))=1000000000 / (d+1):=by rw [ng (by omega),ct (by omega) (by omega)]
   rw [if_neg (by simp;omega),hw,if_pos (by omega),Int.toNat_natCast,bL]
   simp only [Option.bind_some,e1,aE]
   generalize 1000000000 / (d+1)=f at *
   rw [if_pos (by omega)]
   have jX:cB [f]:=cB.cons (by omega) cB.nil
   have afa:V [f]=f:=by simp [V]
   have afb:a≠[]:=by
    intro h
    subst h
    simp [V] at bh
    omega
   obtain ⟨mb,wk,afc,ahs,afd,FA,aht⟩:=PP bH.1 jX afb (by simp) (by omega) (by simp)
   obtain ⟨CY,iS,afe,ahu,aff,MX,ahv⟩:=PP aU.1 jX lv (by simp) (by omega) (by simp)
   rw [afa] at FA MX
   rw [afc]
   simp only [Option.bind_some]
   simp only [List.length_singleton] at afd aff
   have ahw:=oS k
   have afg:V b*f<B b.length:=by
    have o:=(rE aU.1 (k:=k) (by omega)).2
    rw [zp] at o
    have af:V b*f≤(B k*(d+1)-1)*f:=Int.mul_le_mul_of_nonneg_right (by omega) (by omega)
    have au:(B k*(d+1)-1)*f=B k*(f*(d+1))-f:=by grind
    have aA:B k*(f*(d+1))≤B k*1000000000:=Int.mul_le_mul_of_nonneg_left ae9 (by omega)
    rw [a9,mi]
    omega
   have ahx:V b≤V b*f:=by
    have:V b*1≤V b*f:=Int.mul_le_mul_of_nonneg_left zq (by omega)
    omega
   have ahy:V a≤V a*f:=by
    have:V a*1≤V a*f:=Int.mul_le_mul_of_nonneg_left zq (by omega)
    omega
   have MY:0≤V b*f:=by omega
   have Tl:0≤V a*f:=by omega
   have Tm:CY=b.length:=by
    have o:(iS.take CY).length=CY:=by simp;omega
    rw [MX] at o
    have af:=(jk MY (k:=b.length)).2 afg
    have au:=EX aU lv
    have aA : ¬(L (V b*f)).length≤b.length-1:=fun h=>by
     have:=(jk MY).1 h
     omega
    omega
   have afh:(L (V a*f)).length=mb:=by rw [← FA];simp;omega
   have Sw:=nv (hp (V a*f))
   rw [ew Tl,afh] at Sw
   have agW:a.length≤mb:=bH.len.2 (by omega)
   have ahz:b.length≤a.length:=Nat.le_of_not_lt fun h=>by
    have:=Et bH aU h
    omega
   rw [if_pos (by omega),if_pos (by simp;omega),afe]
   simp only [Option.bind_some]
   have vV:(wk.take mb++[0]).length=mb+1:=by simp;omega
   have afi:DW a CY [f] iS (wk.take mb++[0])=some (wk.take mb++[0]):=by
    unfold DW
    rw [iter]
    unfold Du
    simp only [f5,vV]
    rw [if_neg (by simp;omega)]
    rfl
   rw [afi]
   simp only [Option.bind_some,vV]
   have mn:R (((mb+1:Nat):Int)-((CY:Nat):Int))=((mb+1-b.length:Nat):Int):=by rw [ct (by omega) (by omega)];omega
   rw [mn,if_pos (by omega),qn (by omega),Int.toNat_natCast]
   have R9:cB (wk.take mb++[0]):=by
    rw [FA]
    exact (hp _).append (cB.cons (by omega) cB.nil)
   have Tn:V (wk.take mb++[0])=V a*f:=by
    rw [va,FA,ew Tl]
    simp [V]
   have Lv:iS.take b.length=L (V b*f):=by rw [← Tm];exact MX
   have afj:V (iS.take b.length)=V b*f:=by rw [Lv,ew MY]
   obtain ⟨dx,afO,m6,qp,agX,agY,agZ⟩:=EG (jz (V b*f)) (fun h=>by have:=tA.1 h;omega)
   rw [← Lv] at m6 qp
   have pJ:(iS.take b.length).length=b.length:=by simp;omega
   have Cl:iS[b.length-1]? = some afO:=by
    rw [List.getElem?_take] at qp
    rw [show b.length-1=dx by omega]
    split at qp
    ·exact qp
    ·simp at qp
   have ad9:V ((wk.take mb++[0]).drop (mb+1-b.length))<V b*f:=by
    have o:=(rE R9 (k:=mb+1-b.length) (by omega)).1
    rw [Tn] at o
    have af:=EX aU lv
    have au:B mb=B (mb+1-b.length)*B (b.length-1):=by rw [← Bv];congr 1;omega
    rw [au] at Sw
    have aA:B (mb+1-b.length)*V ((wk.take mb++[0]).drop (mb+1-b.length))<B (mb+1-b.length)*B (b.length-1):=by omega
    have:=Int.lt_of_mul_lt_mul_left aA (by have:=oS (mb+1-b.length);omega)
    omega
   obtain ⟨r,aq,r1,bT,bl,ba,ax,cl⟩:=aaY (ab:=[f]) (m:=mb+1-b.length) (by omega) (by omega) (by rw [Lv];exact hp _) afj Cl (by omega) R9 (by omega) (by omega) ad9
   rw [vV] at aq bT
   rw [Tm,aq]
   simp only [Option.bind_some]
   rw [if_pos (by omega),List.drop_zero,List.take_of_length_le (by omega),yw r1 (by omega)]
   simp only [Option.bind_some]
   have CC:=mS r1
   rw [Tn] at cl
   have b6:V r.1=(V a-V r.2*V b)*f:=by grind
   have afk:0≤V a-V r.2*V b:=by
    apply Int.not_lt.mp
    intro h
    have:(V a-V r.2*V b)*f≤(-1)*f:=Int.mul_le_mul_of_nonneg_right (by omega) (by omega)
    omega
   have vU:V a-V r.2*V b<V b:=by
    apply Int.lt_of_mul_lt_mul_right (a:=f) _ (by omega)
    omega
   obtain ⟨q1,a6⟩:=aaf (a:=V a) (b:=V b) (q:=V r.2) (s:=V a-V r.2*V b) (by omega) afk vU
   rw [if_pos (by simp)]
   simp only [List.getElem?_cons_zero,Option.bind_some]
   have Cr:(L (V r.1)).length≤mb+1:=(jk CC).2 (by have:=nv r1;rwa [bT] at this)
   rw [O6 (hp _) ⟨by omega,CJ⟩ (by omega),ew CC]
   simp only [Option.bind_some]
   rw [yw ba (by omega)]
   simp only [Option.bind_some]
   rw [q1,a6,b6,Int.mul_ediv_cancel _ (by omega)]
def hl (n:Int):bt:=⟨decide (n<0),L n.natAbs⟩
def eo (neg:Bool)(a:Int):Int:=if neg then -a else a
def mk (p:Int×Int):aQ:=⟨hl p.1,L p.2⟩
def MZ:aQ:=⟨⟨false,[]⟩,[]⟩
def enc:Option (Int×Int)→aQ
 | none=>MZ
 | some p=>mk p
structure Fr (p:Int×Int):Prop where
 pos:0<p.2
 To:Int.gcd p.1 p.2=1
 num:(p.1.natAbs:Int)<B 24
 den:p.2<B 24
theorem QJ {n:Int}:(hl n).cJ=L n.natAbs:=rfl
theorem QK {n:Int}:(hl n).cS=decide (n<0):=rfl
theorem Qf {n:Int}(h:0≤n):decide ((0:Int)<((L n).length:Nat))=decide (0<n):=by
 apply decide_eq_decide.2
 by_cases h1:0<n
 ·have:(L n)≠[]:=fun o=>by have:=tA.1 o;omega
  have:=List.length_pos_iff.mpr this
  omega
 ·have:n=0:=by omega
  subst this
  simp [qU]
theorem L9 {n:Int}(h:0≤n):(((L n).length:Nat):Int)=0↔n=0:=by
 constructor
 ·intro h1
  have:L n=[]:=List.eq_nil_of_length_eq_zero (by omega)
  have:=tA.1 this
  omega
 ·rintro rfl
  simp [qU]
theorem Lw {neg:Bool}{a:Int}(h:0≤a):((eo neg a).natAbs:Int)=a:=by
 unfold eo
 cases neg<;>simp<;>omega
theorem Rk {neg:Bool}{a:Int}(h:0≤a):(⟨neg && decide (0<a),L a⟩:bt)=hl (eo neg a):=by
 unfold hl
 rw [Lw h]
 congr 1
 unfold eo
 cases neg
 ·simp;omega
 ·simp
theorem ac1 {a:Int}(h:0≤a)(qA:a<B 60):x6 (L a)=some (L a):=by
 have aV:=(jk h).2 qA
 unfold x6
 rw [rD (hp _) (by omega),ew h]
 simp only [Option.bind_eq_bind,Option.bind_some,f5]
 rw [if_neg (by simp;omega)]
theorem qd {neg:Bool}{a:Int}(h:0≤a)(qA:a<B 60):h5 neg (L a)=some (hl (eo neg a)):=by
 have aV:=(jk h).2 qA
 unfold h5
 rw [ac1 h qA]
 simp only [Option.bind_eq_bind,Option.bind_some,f5,List.nil_append]
 have bh:(L a).length*8≤140737488355328:=by omega
 rw [← Rk h,← Qf h]
 cases neg<;>simp [bh]
theorem si {neg:Bool}{a:Int}(h:0≤a):ni neg (L a)=some (hl (eo neg a)):=by
 unfold ni
 rw [← Rk h,f5,Qf h]
 cases neg<;>simp
theorem RN {a b:Int}:eo (!(decide (a<0) == decide (b<0))) ((a.natAbs:Int)*(b.natAbs:Int))=a*b:=by
 unfold eo
 by_cases bH:a<0
 ·have e1:(a.natAbs:Int) = -a:=by omega
  by_cases aU:b<0
  ·have aE:(b.natAbs:Int) = -b:=by omega
   rw [e1,aE]
   simp [bH,aU,Int.neg_mul,Int.mul_neg]
  ·have aE:(b.natAbs:Int)=b:=by omega
   rw [e1,aE]
   simp [bH,aU,Int.neg_mul,Int.mul_neg]
 ·have e1:(a.natAbs:Int)=a:=by omega
  by_cases aU:b<0
  ·have aE:(b.natAbs:Int) = -b:=by omega
   rw [e1,aE]
   simp [bH,aU,Int.neg_mul,Int.mul_neg]
  ·have aE:(b.natAbs:Int)=b:=by omega
   rw [e1,aE]
   simp [bH,aU,Int.neg_mul,Int.mul_neg]
theorem A9 {a b:Int}:eo (decide (a<0)) ((a.natAbs:Int)*b)=a*b:=by
 unfold eo
 by_cases bH:a<0
 ·have e1:(a.natAbs:Int) = -a:=by omega
  rw [e1]
  simp [bH,Int.neg_mul,Int.mul_neg]
 ·have e1:(a.natAbs:Int)=a:=by omega
  rw [e1]
  simp [bH,Int.neg_mul,Int.mul_neg]
theorem QL {a c:Int}:la (-c) (-a)=la a c:=by
 unfold la
 by_cases h:a<c
 ·have : -c < -a:=by omega
  simp [h,this]
 ·by_cases o:c<a
  ·have af : ¬ -c < -a:=by omega
   have au : -a < -c:=by omega
   simp [h,o,af,au]
  ·have af : ¬ -c < -a:=by omega
   have au : ¬ -a < -c:=by omega
   simp [h,o,af,au]
theorem aaZ {a c:Int}(bH:(L a.natAbs).length≤5000000)(bh:(L c.natAbs).length≤5000000):AE (hl a) (hl c)=some (la a c):=by
 unfold AE
 simp only [QK,QJ,decide_eq_true_eq]
 by_cases h1:a<0
 ·by_cases o:c<0
  ·rw [if_pos h1,if_pos o,sq (jz _) (jz _) bh,ew (by omega),ew (by omega),show (c.natAbs:Int) = -c by omega,show (a.natAbs:Int) = -a by omega,QL]
   rfl
  ·rw [if_pos h1,if_neg o]
   unfold la
   rw [if_pos (by omega)]
 ·by_cases o:c<0
  ·rw [if_neg h1,if_pos o]
   unfold la
   rw [if_neg (by omega),if_pos (by omega)]
  ·rw [if_neg h1,if_neg o,sq (jz _) (jz _) bH,ew (by omega),ew (by omega)]
   show some (la _ _)=_
   congr 2<;>omega
theorem XK {a c:Int}(bH:(L a.natAbs).length≤5000000)(bh:(L c.natAbs).length≤5000000):r4 (hl a) (hl c)=some (la a c):=by
 have b6:r4 (hl a) (hl c)=if (decide (a<0) == decide (c<0))=true then (if decide (a<0)=true then (qF (L c.natAbs) (L a.natAbs)).bind (fun r=>some r) else (qF (L a.natAbs) (L c.natAbs)).bind (fun r=>some r)) else if decide (a<0)=true then some (-1) else some 1:=rfl
 rw [b6,Zl]
 by_cases h1:a<0
 ·by_cases o:c<0
  ·rw [if_pos (by simp [h1,o]),if_pos (by simpa using h1),sq (jz _) (jz _) bh,ew (by omega),ew (by omega),show (c.natAbs:Int) = -c by omega,show (a.natAbs:Int) = -a by omega,QL]
   rfl
  ·rw [if_neg (by simp [h1,o]),if_pos (by simpa using h1)]
   unfold la
   rw [if_pos (by omega)]
 ·by_cases o:c<0
  ·rw [if_neg (by simp [h1,o]),if_neg (by simpa using h1)]
   unfold la
   rw [if_neg (by omega),if_pos (by omega)]
  ·rw [if_pos (by simp [h1,o]),if_neg (by simpa using h1),sq (jz _) (jz _) bH,ew (by omega),ew (by omega),show (c.natAbs:Int)=c by omega,show (a.natAbs:Int)=a by omega]
   rfl
def fits (x:Int):Prop:=x<B 24
noncomputable instance (x:Int):Decidable (fits x):=Classical.propDecidable _
noncomputable def low (n d:Int):Option (Int×Int) :=
 if fits ((n / (Int.gcd n d:Int)).natAbs:Int)∧fits (d / (Int.gcd n d:Int)) then some (n / (Int.gcd n d:Int),d / (Int.gcd n d:Int)) else none
theorem Lh {n d:Int}(h:0<d):(0:Int)<Int.gcd n d:=by
 have:Int.gcd n d≠0:=by
  rw [Ne,Int.gcd_eq_zero_iff]
  omega
 omega
theorem acv {n d:Int}(h:0<d): ∃m e,n / (Int.gcd n d:Int)=m∧d / (Int.gcd n d:Int)=e∧n=Int.gcd n d*m∧d=Int.gcd n d*e∧0<e∧(n.natAbs:Int) / (Int.gcd n d:Int)=m.natAbs:=by
 have dB:=Lh (n:=n) h
 obtain ⟨m,hm⟩:=Int.gcd_dvd_left (a:=n) (b:=d)
 obtain ⟨e,he⟩:=Int.gcd_dvd_right (a:=n) (b:=d)
 refine ⟨m,e,?_,?_,hm,he,?_,?_⟩
 ·conv=>lhs;lhs;rw [hm]
  exact Int.mul_ediv_cancel_left _ (by omega)
 ·conv=>lhs;lhs;rw [he]
  exact Int.mul_ediv_cancel_left _ (by omega)
 ·apply Int.not_le.mp
  intro h1
  have:(Int.gcd n d:Int)*e≤Int.gcd n d*0:=Int.mul_le_mul_of_nonneg_left h1 (by omega)
  omega
 ·have e1:(n.natAbs:Int)=Int.gcd n d*m.natAbs:=by
   conv=>lhs;rw [hm]
   rw [Int.natAbs_mul]
   simp
  rw [e1]
  exact Int.mul_ediv_cancel_left _ (by omega)
theorem Bm {a:Int}(h:0≤a):qH (L a)=some (decide (a=1)):=by
 unfold qH
 simp only [f5]
 by_cases h1:(L a).length=1
 ·have o:=(jk (k:=1) h).1 (by omega)
  have af:0<a:=by
   apply Int.not_le.mp
   intro au
   rw [R8 au] at h1
   simp at h1
  have aA:a<1000000000:=by simpa [B] using o
  rw [Le ⟨af,aA⟩]
  by_cases a0:a=1<;>simp [a0]
 ·rw [if_neg (by simp;omega)]
  have:a≠1:=by
   rintro rfl
   rw [Le (by omega)] at h1
   simp at h1
  simp [this]
theorem Rl {n d:Int}(h:0≤d):Int.gcd (n.natAbs:Int) d=Int.gcd n d:=by
 simp [Int.gcd]
theorem Lx:B 24≤B 60:=qT (by omega)
theorem KP {neg:Bool}{m e:Int}(hm:0≤m)(he:0≤e):(if (decide ((24:Int)<((L m).length:Nat)))=true then some MZ else if (decide ((24:Int)<((L e).length:Nat)))=true then some MZ else h5 neg (L m) >>= fun r=>if (([]:List Int)++L e).length*8≤140737488355328 then some (⟨r,([]:List Int)++L e⟩:aQ) else none) =
 some (enc (if fits m∧fits e then some (eo neg m,e) else none)):=by
 by_cases h1:fits m
 ·have o:=(jk hm).2 h1
  rw [if_neg (by simp;omega)]
  by_cases af:fits e
  ·have au:=(jk he).2 af
   have:=Lx
   unfold fits at h1
   rw [if_neg (by simp;omega),qd hm (by omega),if_pos ⟨h1,af⟩]
   simp only [Option.bind_eq_bind,Option.bind_some]
   rw [if_pos (by simp;omega)]
   rfl
  ·have au : ¬(L e).length≤24:=fun h=>af ((jk he).1 h)
   rw [if_pos (by simp;omega),if_neg (fun h=>af h.2)]
   rfl
 ·have au : ¬(L m).length≤24:=fun h=>h1 ((jk hm).1 h)
  rw [if_pos (by simp;omega),if_neg (fun h=>h1 h.1)]
  rfl
theorem ac2 {neg:Bool}{p m g:Int}(ak:0≤p)(dB:0<g)(hm:eo neg p=g*m):eo neg (m.natAbs:Int)=m:=by
 unfold eo at hm ⊢
 cases neg
 ·simp at hm ⊢
  have:0≤m:=by
   apply Int.not_lt.mp
   intro h1
   have:g*m≤g*(-1):=Int.mul_le_mul_of_nonneg_left (by omega) (by omega)
   omega
  omega
 ·simp at hm ⊢
  have:m≤0:=by
   apply Int.not_lt.mp
   intro h1
   have:g*1≤g*m:=Int.mul_le_mul_of_nonneg_left (by omega) (by omega)
   omega
  omega
theorem KQ {neg:Bool}{p q:Int}(ak:0≤p)(bd:0<q)(Tp:(L p).length≤900000)(pV:(L q).length≤900000):od neg (L p) (L q)=some (enc (low (eo neg p) q)):=by
 obtain ⟨m,e,h1,o,af,au,aA,a0⟩:=acv (n:=eo neg p) bd
 have pO:=ac2 ak (Lh (n:=eo neg p) bd) af
 rw [Lw ak] at a0
 have dB:Int.gcd p q=Int.gcd (eo neg p) q:=by rw [← Rl (n:=eo neg p) (by omega),Lw ak]
 have ahA:=Lh (n:=eo neg p) bd
 unfold od
 rw [rD (hp _) (by omega),ew ak]
 simp only [Option.bind_eq_bind,Option.bind_some]
 rw [rD (hp _) (by omega),ew (by omega)]
 simp only [Option.bind_some,f5]
 have l3 : ¬((((L q).length:Nat):Int) == 0)=true:=by
  simp only [beq_iff_eq]
  intro h
  have:=(L9 (n:=q) (by omega)).1 h
  omega
 rw [if_neg l3,Bm (by omega)]
 simp only [Option.bind_some]
 have BN:low (eo neg p) q=if fits (m.natAbs:Int)∧fits e then some (eo neg (m.natAbs:Int),e) else none:=by
  unfold low
  rw [h1,o,pO]
 have Sa:Int.gcd (eo neg p) q=1→(m.natAbs:Int)=p∧e=q:=by
  intro hu
  rw [hu] at o a0
  simp at o a0
  omega
 by_cases ow:q=1
 ·have hu:Int.gcd (eo neg p) q=1:=by rw [ow];simp
  obtain ⟨lC,n6⟩:=Sa hu
  rw [if_pos (by simpa using ow),BN,lC,n6]
  exact KP ak (by omega)
 ·rw [if_neg (by simpa using ow),RL (jz _) (jz _) Tp pV,ew ak,ew (by omega)]
  simp only [Option.bind_some]
  rw [Bm (by omega)]
  simp only [Option.bind_some]
  by_cases hu:Int.gcd p q=1
  ·obtain ⟨lC,n6⟩:=Sa (by omega)
   rw [if_pos (by simp;omega),BN,lC,n6]
   exact KP ak (by omega)
  ·rw [if_neg (by simp;omega)]
   have Tq:(L (Int.gcd p q)).length≤900000:=by
    have bm:(Int.gcd p q:Int)≤q:=by
     rw [dB]
     have:(Int.gcd (eo neg p) q:Int)*1≤Int.gcd (eo neg p) q*e:=Int.mul_le_mul_of_nonneg_left (by omega) (by omega)
     omega
    apply (jk (by omega)).2
    have:=(jk (n:=q) (by omega)).1 pV
    omega
   have Tr:L (Int.gcd p q)≠[]:=fun h=>by
    have:=tA.1 h
    omega
   rw [div_eq (jz _) (jz _) Tr Tp Tq,ew ak,ew (by omega)]
   simp only [Option.bind_some]
   rw [div_eq (jz _) (jz _) Tr pV Tq,ew (by omega),ew (by omega)]
   simp only [Option.bind_some]
   rw [dB,a0,o,BN]
   exact KP (by omega) (by omega)
theorem Fr.tG {p:Int×Int}(h:Fr p):(L p.1.natAbs).length≤24:=(jk (by omega)).2 h.num
theorem Fr.sG {p:Int×Int}(h:Fr p):(L p.2).length≤24:=(jk (by have:=h.pos;omega)).2 h.den
theorem adz (m n:Nat):B m*B n=B (m+n):=(Bv m n).symm
theorem ts {x y:Int}{m n:Nat}(U:0≤x)(a1:0≤y)(h1:x<B m)(o:y<B n):(L (x*y)).length≤m+n:=by
 apply (jk (Int.mul_nonneg U a1)).2
 rw [← adz]
 have af:x*y≤(B m-1)*(B n-1):=Int.mul_le_mul (by omega) (by omega) a1 (by omega)
 have au:(B m-1)*(B n-1)=B m*B n-B m-B n+1:=by grind
 have aA:=oS m
 have a0:=oS n
 omega
theorem aag (r s:aQ){a b:Int}(bH:0≤a)(aU:0<b)(h1:hY r.fA.cJ s.fA.cJ=some (L a))(o:hY r.hM s.hM=some (L b))(af:(L a).length≤900000)(au:(L b).length≤900000):ti r s=some (enc (low (eo (!(r.fA.cS == s.fA.cS)) a) b)):=by
 unfold ti
 rw [h1]
 simp only [Option.bind_eq_bind,Option.bind_some]
 rw [o]
 simp only [Option.bind_some]
 rw [KQ bH aU af au]
 simp only [Option.bind_some]
theorem aa0 {p q:Int×Int}(ak:Fr p)(bd:Fr q):ti (mk p) (mk q)=some (enc (low (p.1*q.1) (p.2*q.2))):=by
 have h1:=ak.tG
 have o:=ak.sG
 have af:=bd.tG
 have au:=bd.sG
 have aA:=ak.pos
 have a0:=bd.pos
 have bm:=ts (x:=p.1.natAbs) (y:=q.1.natAbs) (by omega) (by omega) ak.num bd.num
 have bn:=ts (x:=p.2) (y:=q.2) (by omega) (by omega) ak.den bd.den
 have e1:hY (L p.1.natAbs) (L q.1.natAbs)=some (L ((p.1.natAbs:Int)*q.1.natAbs)):=by
  rw [mul_eq (hp _) (hp _) (by omega) (by omega),ew (by omega),ew (by omega)]
 have aE:hY (L p.2) (L q.2)=some (L (p.2*q.2)):=by
  rw [mul_eq (hp _) (hp _) (by omega) (by omega),ew (by omega),ew (by omega)]
 have:=aag (mk p) (mk q) (a:=(p.1.natAbs:Int)*q.1.natAbs) (b:=p.2*q.2) (Int.mul_nonneg (by omega) (by omega)) (Int.mul_pos aA a0) e1 aE (by omega) (by omega)
 rw [this]
 have bP:eo (!((mk p).fA.cS == (mk q).fA.cS)) ((p.1.natAbs:Int)*q.1.natAbs)=p.1*q.1:=RN
 rw [bP]
theorem aa1 {a b:Int}(bH:(L a.natAbs).length≤900000)(aU:(L b.natAbs).length≤900000):pv (hl a) (hl b)=some (hl (a*b)):=by
 unfold pv
 simp only [QJ,QK]
 rw [abM (hp _) (hp _) (by omega) (by omega),ew (by omega),ew (by omega)]
 simp only [Option.bind_eq_bind,Option.bind_some]
 rw [si (Int.mul_nonneg (by omega) (by omega)),RN]
 rfl
theorem acw:(1000000000000000000000000000:Int)≤B 24:=by
 have h:B 3≤B 24:=qT (by omega)
 have af:B 3=1000000000000000000000000000:=by decide
 omega
theorem acx:(1000000000000000000000000000:Int)≤B 60:=by
 have:=Lx
 have:=acw
 omega
theorem ZI {n:Int}(h:ov n):Ad n=some (hl n):=by
 obtain ⟨h1,o⟩:=my.1 h
 have aU:=acx
 unfold Ad
 by_cases hm:n = -9223372036854775808
 ·rw [if_pos (by simpa using hm)]
  have e:([854775808,223372036,9]:List Int)=L 9223372036854775808:=tC ⟨by intro x U;simp at U;omega,by simp⟩ (by decide)
  rw [e,qd (by omega) (by omega)]
  subst hm
  rfl
 ·rw [if_neg (by simpa using hm)]
  by_cases a4:n<0
  ·rw [if_pos (by simpa using a4),ct (by omega) (by omega),yo (by omega) (by omega)]
   simp only [Option.bind_eq_bind,Option.bind_some]
   rw [qd (by omega) (by omega)]
   simp only [Option.bind_some]
   congr 2
   unfold eo
   simp
  ·rw [if_neg (by simpa using a4),yo (by omega) (by omega)]
   simp only [Option.bind_eq_bind,Option.bind_some]
   rw [qd (by omega) (by omega)]
   simp only [Option.bind_some]
   congr 2
theorem aah {n:Int}(h:ov n):oH n=some (hl n):=by
 obtain ⟨h1,o⟩:=my.1 h
 unfold oH
 by_cases a4:n<0
 ·rw [if_pos (by simpa using a4),ct (x:=n+1) (by omega) (by omega),ct (x:=0-(n+1)) (by omega) (by omega),BA (x:=0-(n+1)) (by omega) (by omega),BA (by omega) (by omega),KG (by omega) (by omega)]
  simp only [Option.bind_eq_bind,Option.bind_some]
  rw [si (by omega)]
  simp only [Option.bind_some]
  congr 2
  unfold eo
  simp
  omega
 ·rw [if_neg (by simpa using a4),BA (by omega) (by omega),KG (by omega) (by omega)]
  simp only [Option.bind_eq_bind,Option.bind_some]
  rw [si (by omega)]
  simp only [Option.bind_some]
  congr 2
theorem Sb:L 1=[1]:=Le (by omega)
theorem YY {n:Int}(h:ov n):pd n=some (mk (n,1)):=by
 unfold pd
 rw [ZI h]
 simp only [Option.bind_eq_bind,Option.bind_some,mk,Sb]
theorem aa2 {p q:Int×Int}(ak:Fr p)(bd:Fr q):uS (mk p) (mk q)=some (la (p.1*q.2) (q.1*p.2)):=by
 have h1:=ak.tG
 have o:=ak.sG
 have af:=bd.tG
 have au:=bd.sG
 have aA:=ak.pos
 have a0:=bd.pos
 have bm:=ts (x:=p.1.natAbs) (y:=q.2) (by omega) (by omega) ak.num bd.den
 have bn:=ts (x:=q.1.natAbs) (y:=p.2) (by omega) (by omega) bd.num ak.den
 have CZ:0≤(p.1.natAbs:Int)*q.2:=Int.mul_nonneg (by omega) (by omega)
 have TT:0≤(q.1.natAbs:Int)*p.2:=Int.mul_nonneg (by omega) (by omega)
 have pb:((p.1*q.2).natAbs:Int)=(p.1.natAbs:Int)*q.2:=by
  rw [Int.natAbs_mul,Int.natCast_mul]
  congr 1
  omega
 have mv:((q.1*p.2).natAbs:Int)=(q.1.natAbs:Int)*p.2:=by
  rw [Int.natAbs_mul,Int.natCast_mul]
  congr 1
  omega
 have e1:hY (mk p).fA.cJ (mk q).hM=some (L ((p.1.natAbs:Int)*q.2)):=by
  show hY (L p.1.natAbs) (L q.2)=_
  rw [mul_eq (hp _) (hp _) (by omega) (by omega),ew (by omega),ew (by omega)]
 have aE:hY (mk q).fA.cJ (mk p).hM=some (L ((q.1.natAbs:Int)*p.2)):=by
  show hY (L q.1.natAbs) (L p.2)=_
  rw [mul_eq (hp _) (hp _) (by omega) (by omega),ew (by omega),ew (by omega)]
 have bP:h5 (mk p).fA.cS (L ((p.1.natAbs:Int)*q.2))=some (hl (p.1*q.2)):=by
  show h5 (decide (p.1<0)) _=_
  rw [qd CZ ((jk CZ).1 (by omega)),A9]
 have c3:h5 (mk q).fA.cS (L ((q.1.natAbs:Int)*p.2))=some (hl (q.1*p.2)):=by
  show h5 (decide (q.1<0)) _=_
  rw [qd TT ((jk TT).1 (by omega)),A9]
 unfold uS
 rw [e1,Option.bind_eq_bind,Option.bind_some,bP,Option.bind_eq_bind,Option.bind_some,aE,Option.bind_eq_bind,Option.bind_some,c3,Option.bind_some,aaZ (by rw [pb];omega) (by rw [mv];omega)]
 rfl
theorem Ly {a d:Int}(bL:0≤d):((a*d).natAbs:Int)=(a.natAbs:Int)*d:=by
 rw [Int.natAbs_mul,Int.natCast_mul]
 congr 1
 omega
theorem qb (n b0 aj:Int):mR n b0 aj=some (decide (b0≤n∧n≤aj)):=by
 unfold mR
 by_cases h:b0≤n<;>simp [h]
theorem Ec {α β:Type}{t:Nat→α→Option β}: ∀(l:List α) (k:Nat),(∀n x,l[n]? = some x→t (k+n) x=none)→scan t k l=none
 | [],_,_=>rfl
 | x::l,k,h=>by
  have h0:=h 0 x rfl
  simp only [Nat.add_zero] at h0
  simp only [scan,h0]
  exact Ec l (k+1) fun n y a1=>by rw [show k+1+n=k+(n+1) by omega];exact h (n+1) y (by simpa using a1)
theorem D0 (l:List Int)(h:l.length≤1048576):tj l l=some true:=by
 have h1:Kd l l 0=some (.inl ()):=by
  have:=D9 (f:=fun w=>xF l l w) (t:=fun _ _=>none) (e:= .inl ()) l 0 (fun n x U=>by
   have a4:=f9 U
   have hw:R ((n:Int)+1)=((n+1:Nat):Int):=by rw [ct (by omega) (by omega)];rfl
   simp only [xF,e8,Nat.zero_add,hw]
   simp [a4]) (by simp [xF,e8])
  rw [Ec l 0 (fun _ _ _=>rfl)] at this
  exact this
 simp [tj,h1]
theorem Zm (j:bq):Az j j=some true:=by simp [Az]
theorem YZ (j:bC):Ao j j=some true:=by simp [Ao]
theorem Y0 (l:List bq)(h:l.length≤1048576):An l l=some true:=by
 have h1:JK l l 0=some (.inl ()):=by
  have:=D9 (f:=fun w=>xg l l w) (t:=fun _ _=>none) (e:= .inl ()) l 0 (fun n x U=>by
   have a4:=f9 U
   have hw:R ((n:Int)+1)=((n+1:Nat):Int):=by rw [ct (by omega) (by omega)];rfl
   simp only [xg,e8,Nat.zero_add,hw]
   simp [a4,Zm]) (by simp [xg,e8])
  rw [Ec l 0 (fun _ _ _=>rfl)] at this
  exact this
 simp [An,h1]
theorem YN (l:List bC)(h:l.length≤1048576):z9 l l=some true:=by
 have h1:Jw l l 0=some (.inl ()):=by
  have:=D9 (f:=fun w=>w9 l l w) (t:=fun _ _=>none) (e:= .inl ()) l 0 (fun n x U=>by
   have a4:=f9 U
   have hw:R ((n:Int)+1)=((n+1:Nat):Int):=by rw [ct (by omega) (by omega)];rfl
   simp only [w9,e8,Nat.zero_add,hw]
   simp [a4,YZ]) (by simp [w9,e8])
  rw [Ec l 0 (fun _ _ _=>rfl)] at this
  exact this
 simp [z9,h1]
theorem OA (s:cF)(h1:s.b7.length≤1048576)(o:s.bE.length≤1048576):xS s s=some true:=by
 simp [xS,Y0 _ h1,YN _ o]
theorem Zn (j:bq)(left:Int)(aG:j.hh.size≤maxLen)(h0:0≤left)(h1:left≤1048576): ∃r,As j left=some r∧r≤left:=by
 have hm:j.hh.size<9223372036854775808:=by have:maxLen=9223372036854775807:=by decide
                                           omega
 have hw:R (left-j.hh.size)=left-j.hh.size:=ct (by omega) (by omega)
 unfold As
 rw [hw]
 by_cases h:left-(j.hh.size:Int)<0
 ·exact ⟨-1,by simp [h],by omega⟩
 ·exact ⟨left-j.hh.size,by simp [h],by omega⟩
theorem Y1 (l:List bq)(left:Int)(aV:l.length≤maxLen)(aG:∀j∈l,j.hh.size≤maxLen)(h0:0≤left)(h1:left≤1048576):
 ∃r,Aa l left=some r∧r≤left∧(0≤r→l.length≤1048576):=by
 have hm:maxLen=9223372036854775807:=by decide
 have hw:R (left-(l.length:Nat))=left-(l.length:Nat):=ct (by omega) (by omega)
 unfold Aa
 simp only [e8,hw]
 by_cases h:left-(l.length:Int)<0
 ·exact ⟨-1,by simp [h],by omega,by omega⟩
 ·obtain ⟨r,r1,bT⟩:=jf (f:=fun w:Int×Int=>uj l w.1 w.2) (fun w=>0≤w.1∧w.1≤left∧0≤w.2∧w.2≤l.length) (fun w=>(l.length-w.2).toNat)
   (fun r=>match r with | .inl a=>a≤left | .inr _=>True) (fun w hw=>by
     obtain ⟨a,i⟩:=w
     simp only at hw
     obtain ⟨jS,n8,qE,FM⟩:=hw
     by_cases aj:i<l.length
     ·obtain ⟨x,U⟩ : ∃x,l[i.toNat]? = some x:=⟨_,List.getElem?_eq_getElem (by omega)⟩
      obtain ⟨r,s1,s2⟩:=Zn x a (aG x (List.mem_of_getElem? U)) jS (by omega)
      obtain ⟨a4,rfl⟩:=List.getElem?_eq_some_iff.1 U
      have Cn:R (i+1)=i+1:=ct (by omega) (by omega)
      by_cases aq:r<0
      ·right
       exact ⟨.inr (),by simp [uj,e8,aj,qE,U,s1,aq],trivial⟩
      ·left
       refine ⟨(r,i+1),by simp [uj,e8,aj,qE,U,s1,aq,Cn],?_,?_⟩
       ·simp only;omega
       ·simp only;omega
     ·right
      exact ⟨.inl a,by simp [uj,e8,aj],by simpa using n8⟩) (left-(l.length:Nat),0) (by simp only;omega)
  have FB:Jy l (left-(l.length:Nat)) 0=some r:=r1
  rw [FB]
  cases r with
  | inl a=>exact ⟨a,by simp [h],bT,by omega⟩
  | inr a=>exact ⟨-1,by simp [h],by omega,by omega⟩
theorem YO (l:List bC)(left:Int)(aV:l.length≤maxLen)(h0:0≤left)(h1:left≤1048576):
 ∃r,z3 l left=some r∧r≤left∧(0≤r→l.length≤1048576):=by
 have hm:maxLen=9223372036854775807:=by decide
 have hw:R (left-(l.length:Nat))=left-(l.length:Nat):=ct (by omega) (by omega)
 unfold z3
 simp only [e8,hw]
 by_cases h:left-(l.length:Int)<0
 ·exact ⟨-1,by simp [h],by omega,by omega⟩
 ·exact ⟨left-(l.length:Nat),by simp [h],by omega,by omega⟩
theorem Ye (s:cF)(i0:j1 s)(left:Int)(h0:0≤left)(h1:left≤1048576):
 ∃r,zU s left=some r∧(0≤r→s.b7.length≤1048576∧s.bE.length≤1048576):=by
 obtain ⟨⟨gF,hI⟩,dt,fZ⟩:=i0
 obtain ⟨r,r1,bT,bl⟩:=Y1 s.b7 left gF (fun j aG=>(hI j aG).1) h0 h1
 unfold zU
 rw [r1]
 by_cases h:r<0
 ·exact ⟨-1,by simp [h],by omega⟩
 ·obtain ⟨q,q1,a6,bY⟩:=YO s.bE r dt (by omega) (by omega)
  by_cases bd:q<0
  ·exact ⟨-1,by simp [h,q1,bd],by omega⟩
  ·exact ⟨q,by simp [h,q1,bd],fun _=>⟨bl (by omega),bY (by omega)⟩⟩
theorem yh:maxLen=9223372036854775807:=by decide
theorem aai (n:Int):x4 n=mR n (-50) 50:=by
 rw [qb]
 unfold x4
 by_cases h : -50≤n<;>simp [h]
theorem ZJ (c:Int):Al c=some (decide (97≤c∧c≤122)):=by
 unfold Al
 by_cases h:97≤c<;>simp [h]
theorem aaj (c:Int):Au c=some (decide (48≤c∧c≤57)):=by
 unfold Au
 by_cases h:48≤c<;>simp [h]
theorem ZK (s:ByteArray)(i:Int):zP s s.size i=s9 s i:=by
 unfold zP s9
 generalize ((s.data.toList.getD i.toNat 0).toNat:Int)=c
 simp only [ZJ,aaj,Option.bind_eq_bind,Option.bind_some]
 by_cases h1:i<(s.size:Int)<;>by_cases h0:0≤i<;>by_cases a:(97:Int)≤c<;>by_cases b:c≤122<;>by_cases d:i=0<;>by_cases e:c<48<;>by_cases f:57<c <;>
  simp [h1,h0,a,b,d,e,f,Int.not_lt.1,Int.not_le]<;>omega
theorem aa3 (s:ByteArray):AF s=tg s:=by
 have h:DO s s.size 0=z4 s 0:=by
  unfold DO z4
  congr 1
  funext w
  exact ZK s w
 unfold AF tg
 rw [h]
 congr 1
 funext r
 cases r with
 | inr a=>rfl
 | inl a =>
  simp only [qb,Option.bind_eq_bind,Option.bind_some]
  by_cases h0:s.size=0
  ·have:s=⟨#[]⟩:=by
    cases s with
    | mk d=>simp only [ByteArray.size] at h0;rw [Array.size_eq_zero_iff] at h0;rw [h0]
   subst this
   have e0:(ByteArray.mk #[]).size=0:=rfl
   simp [e0]
  ·have c6:s.toList≠(⟨#[]⟩:ByteArray).toList:=by
    intro e
    have aV : ∀x:ByteArray,x.toList.length=x.size:=by intro x;rw [ByteArray.toList_eq];rfl
    have:=aV s
    rw [e,aV] at this
    exact h0 this.symm
   simp only [beq_iff_eq,c6,Bool.not_eq_true',beq_eq_false_iff_ne,ne_eq,not_false_eq_true,if_true]
   congr 1
   apply decide_eq_decide.2
   omega
theorem ZL (s:ByteArray)(b6:s.size≤maxLen): ∃r,tg s=some r:=by
 have hm:=yh
 obtain ⟨r,h,-⟩:=jf (f:=fun w=>s9 s w) (fun i=>0≤i∧i≤s.size) (fun i=>(s.size-i).toNat) (fun _=>True) (fun i aj=>by
  obtain ⟨h0,h1⟩:=aj
  by_cases o:i<(s.size:Int)
  ·have hw:R (i+1)=i+1:=ct (by omega) (by omega)
   unfold s9
   generalize ((s.data.toList.getD i.toNat 0).toNat:Int)=c
   have adA:0≤i+1∧i+1≤(s.size:Int):=by omega
   have mn:((s.size:Int)-(i+1)).toNat<((s.size:Int)-i).toNat:=by omega
   have key : ∀x:Option (Int⊕(Unit⊕Unit)),(x=some (.inl (i+1))∨x=some (.inr (.inr ())))→(∃dK,x=some (.inl dK)∧(0≤dK∧dK≤(s.size:Int))∧((s.size:Int)-dK).toNat<((s.size:Int)-i).toNat)∨ ∃r,x=some (.inr r)∧True:=by
    intro x U
    rcases U with U|U
    ·exact .inl ⟨i+1,U,adA,mn⟩
    ·exact .inr ⟨_,U,trivial⟩
   apply key
   simp only [o,h0,hw,decide_true,if_true,and_self]
   by_cases a:(97:Int)≤c<;>by_cases b:c≤122<;>by_cases d:i=0<;>by_cases e:c<48<;>by_cases f:57<c<;>simp [a,b,d,e,f]
  ·exact .inr ⟨.inl (),by simp [s9,o],trivial⟩) 0 (by omega)
 have cK:z4 s 0=some r:=h
 unfold tg
 rw [cK]
 cases r with
 | inl a=>exact ⟨_,by simp [qb];rfl⟩
 | inr a=>exact ⟨_,rfl⟩
end Go.Proofs.YtmeimpeaagmneaaGreat
namespace Go.Proofs.YtmeimpeaagmneaaGreat
set_option linter.unusedVariables false
set_option linter.unusedSimpArgs false
open Go Go.VL
theorem aak (j:bq):Av j=pw j:=by
 unfold Av pw
 simp only [aa3,aai]
theorem O8 (j:bq)(h:j.hh.size≤maxLen): ∃r,pw j=some r:=by
 obtain ⟨r,aq⟩:=ZL _ h
 unfold pw
 simp only [aq,qb,Option.bind_eq_bind,Option.bind_some]
 repeat' split
 all_goals exact ⟨_,rfl⟩
theorem Y2 (s:cF)(n:ByteArray):z2 s n=uB s n:=by
 have h:C3 s.b7 n (len_ bu s.b7) 0=xG n s.b7 (len_ bu s.b7) 0:=by
  unfold C3 xG
  congr 1
 unfold z2 uB C7
 rw [h]
 cases xG n s.b7 (len_ bu s.b7) 0 with
 | none=>rfl
 | some r=>cases r<;>rfl
theorem OL (s:cF)(n:ByteArray)(h:s.b7.length≤maxLen): ∃r,uB s n=some r:=by
 have hm:=yh
 obtain ⟨r,h1,-⟩:=jf (f:=fun w=>wV n s.b7 (len_ bu s.b7) w) (fun i=>0≤i∧i≤s.b7.length) (fun i=>(s.b7.length-i).toNat) (fun _=>True) (fun i aj=>by
  obtain ⟨h0,h1⟩:=aj
  by_cases o:i<(s.b7.length:Int)
  ·have hw:R (i+1)=i+1:=ct (by omega) (by omega)
   obtain ⟨x,U⟩ : ∃x,s.b7[i.toNat]? = some x:=⟨_,List.getElem?_eq_getElem (by omega)⟩
   unfold wV
   simp only [e8,o,h0,hw,U,decide_true,if_true,and_self,Option.bind_eq_bind,Option.bind_some]
   by_cases e:(x.hh.toList == n.toList)=true
   ·exact .inr ⟨_,by rw [if_pos e],trivial⟩
   ·exact .inl ⟨i+1,by rw [if_neg e],by omega,by omega⟩
  ·exact .inr ⟨.inl (),by simp [wV,e8,o],trivial⟩) 0 (by omega)
 have cK:xG n s.b7 (len_ bu s.b7) 0=some r:=h1
 unfold uB
 rw [cK]
 cases r with
 | inl a=>exact ⟨_,rfl⟩
 | inr a=>exact ⟨_,rfl⟩
theorem OM (s:cF):Dp s.b7 (len_ bu s.b7) s.bE 0=rz s.b7 (len_ bu s.b7) s.bE 0:=by
 unfold Dp rz
 congr 1
 funext w
 unfold De ry
 simp only [aak,Y2]
theorem Jx (s:cF)(i0:j1 s): ∃r,rz s.b7 (len_ bu s.b7) s.bE 0=some r:=by
 have hm:=yh
 obtain ⟨⟨gF,hI⟩,-⟩:=i0
 obtain ⟨r,h1,-⟩:=jf (f:=fun w=>ry s.b7 (len_ bu s.b7) s.bE w) (fun i=>0≤i∧i≤s.b7.length) (fun i=>(s.b7.length-i).toNat) (fun _=>True) (fun i aj=>by
  obtain ⟨h0,h1⟩:=aj
  by_cases o:i<(s.b7.length:Int)
  ·have hw:R (i+1)=i+1:=ct (by omega) (by omega)
   obtain ⟨x,U⟩ : ∃x,s.b7[i.toNat]? = some x:=⟨_,List.getElem?_eq_getElem (by omega)⟩
   obtain ⟨p,ak⟩:=O8 x (hI x (List.mem_of_getElem? U)).1
   obtain ⟨q,bd⟩:=OL ⟨s.b7,s.bE⟩ x.hh gF
   unfold ry
   simp only [e8,o,h0,hw,U,ak,bd,decide_true,if_true,and_self,Option.bind_eq_bind,Option.bind_some]
   by_cases e:p=true
   ·rw [if_pos e]
    by_cases aE:(q != i)=true
    ·exact .inr ⟨_,by rw [if_pos aE],trivial⟩
    ·exact .inl ⟨i+1,by rw [if_neg aE],by omega,by omega⟩
   ·exact .inr ⟨_,by rw [if_neg e],trivial⟩
  ·exact .inr ⟨.inl (),by simp [ry,e8,o],trivial⟩) 0 (by omega)
 exact ⟨r,h1⟩
def qP (hd:List bq)(m:bC):Bool :=
 decide (0≤m.dp∧m.dp<hd.length∧0≤m.dN∧m.dN<hd.length∧1≤m.gG∧m.gG≤3) &&
 match hd[m.dp.toNat]?,hd[m.dN.toNat]? with
 | some a,some b=> !(a.gx == b.gx && a.gw == b.gw) && !(a.gN && b.gN)
 | _,_=>false
theorem D1 (s:cF)(m:bC):zE s m=some (qP s.b7 m):=by
 unfold zE qP
 simp only [e8]
 by_cases h1:m.dp<0
 ·simp [h1];omega
 by_cases o:(s.b7.length:Int)≤m.dp
 ·simp [h1,o];omega
 by_cases af:m.dN<0
 ·simp [h1,o,af];omega
 by_cases au:(s.b7.length:Int)≤m.dN
 ·simp [h1,o,af,au];omega
 by_cases aA:m.gG<1
 ·simp [h1,o,af,au,aA];omega
 by_cases a0:3<m.gG
 ·simp [h1,o,af,au,aA,a0];omega
 obtain ⟨x,U⟩ : ∃x,s.b7[m.dp.toNat]? = some x:=⟨_,List.getElem?_eq_getElem (by omega)⟩
 obtain ⟨y,a1⟩ : ∃y,s.b7[m.dN.toNat]? = some y:=⟨_,List.getElem?_eq_getElem (by omega)⟩
 have bs:0≤m.dp∧m.dp<s.b7.length:=by omega
 have cn:0≤m.dN∧m.dN<s.b7.length:=by omega
 have jF:0≤m.dp∧m.dp<s.b7.length∧0≤m.dN∧m.dN<s.b7.length∧1≤m.gG∧m.gG≤3:=by omega
 rw [decide_eq_false h1,decide_eq_false o,decide_eq_false af,decide_eq_false au,decide_eq_false aA,decide_eq_false a0,decide_eq_true jF,if_pos bs,U]
 simp only [Bool.false_eq_true,if_false,Option.bind_eq_bind,Option.bind_some,Bool.true_and]
 rw [if_pos cn,a1]
 simp only [Option.bind_some]
 by_cases e1:x.gx=y.gx<;>by_cases aE:x.gw=y.gw<;>by_cases zq:x.gN=true<;>by_cases CJ:y.gN=true<;>simp [e1,aE,zq,CJ]
theorem OW (hd:List bq)(eg:List bC)(aG:hd.length≤6)(E1:eg.length≤8)(i:Int):
 zD (R (len_ bu hd-1)) eg (len_ bA eg) hd i =
 (oa eg hd eg (len_ bA eg) i).map (Sum.map id (Sum.map id fun _=>())):=by
 have hw:R ((hd.length:Nat)-1)=(hd.length:Nat)-1:=ct (by omega) (by omega)
 unfold zD oa uw
 simp only [e8,hw,D1,qb,Option.bind_eq_bind,Option.bind_some]
 by_cases h1:i<(eg.length:Int)
 ·by_cases h0:0≤i
  ·obtain ⟨m,hm⟩ : ∃x,eg[i.toNat]? = some x:=⟨_,List.getElem?_eq_getElem (by omega)⟩
   simp only [h1,h0,hm,decide_true,if_true,and_self,Option.bind_some]
   unfold qP
   by_cases hA:0≤m.dp∧m.dp≤(hd.length:Int)-1
   ·by_cases ho:0≤m.dN∧m.dN≤(hd.length:Int)-1
    ·by_cases hT:1≤m.gG∧m.gG≤3
     ·obtain ⟨x,U⟩ : ∃x,hd[m.dp.toNat]? = some x:=⟨_,List.getElem?_eq_getElem (by omega)⟩
      obtain ⟨y,a1⟩ : ∃y,hd[m.dN.toNat]? = some y:=⟨_,List.getElem?_eq_getElem (by omega)⟩
      have bs:0≤m.dp∧m.dp<hd.length:=by omega
      have cn:0≤m.dN∧m.dN<hd.length:=by omega
      have jF:0≤m.dp∧m.dp<hd.length∧0≤m.dN∧m.dN<hd.length∧1≤m.gG∧m.gG≤3:=by omega
      rw [decide_eq_true hA,decide_eq_true ho,decide_eq_true hT,decide_eq_true jF]
      simp only [if_true,Option.bind_some,Bool.true_and]
      rw [if_pos bs,U]
      simp only [Option.bind_some]
      rw [if_pos cn,a1]
      simp only [Option.bind_some]
      by_cases e1:x.gx=y.gx<;>by_cases aE:x.gw=y.gw<;>by_cases zq:x.gN=true<;>by_cases CJ:y.gN=true<;>simp [e1,aE,zq,CJ]
     ·have jF : ¬(0≤m.dp∧m.dp<hd.length∧0≤m.dN∧m.dN<hd.length∧1≤m.gG∧m.gG≤3):=by omega
      rw [decide_eq_true hA,decide_eq_true ho,decide_eq_false hT,decide_eq_false jF]
      simp
    ·have jF : ¬(0≤m.dp∧m.dp<hd.length∧0≤m.dN∧m.dN<hd.length∧1≤m.gG∧m.gG≤3):=by omega
     rw [decide_eq_true hA,decide_eq_false ho,decide_eq_false jF]
     simp
   ·have jF : ¬(0≤m.dp∧m.dp<hd.length∧0≤m.dN∧m.dN<hd.length∧1≤m.gG∧m.gG≤3):=by omega
    rw [decide_eq_false hA,decide_eq_false jF]
    simp
  ·simp [h1,h0]
 ·simp [h1]
theorem Ol (hd:List bq)(eg:List bC)(E1:eg.length≤8): ∃r,uc eg hd eg (len_ bA eg) 0=some r∧ ∀k,r = .inr k→0≤k:=by
 exact jf (f:=fun w=>oa eg hd eg (len_ bA eg) w) (fun i=>0≤i∧i≤eg.length) (fun i=>(eg.length-i).toNat) (fun r=> ∀k,r = .inr k→0≤k) (fun i aj=>by
  obtain ⟨h0,h1⟩:=aj
  by_cases o:i<(eg.length:Int)
  ·have hw:R (i+1)=i+1:=ct (by omega) (by omega)
   obtain ⟨x,U⟩ : ∃x,eg[i.toNat]? = some x:=⟨_,List.getElem?_eq_getElem (by omega)⟩
   unfold oa uw
   simp only [e8,o,h0,hw,U,D1,decide_true,if_true,and_self,Option.bind_eq_bind,Option.bind_some]
   by_cases e:(!qP hd x)=true
   ·exact .inr ⟨_,by rw [if_pos e],by intro k a9;simp at a9;omega⟩
   ·exact .inl ⟨i+1,by rw [if_neg e],by omega,by omega⟩
  ·exact .inr ⟨.inl (),by simp [oa,e8,o],by intro k a9;simp at a9⟩) 0 (by omega)
theorem OB (s:cF)(i0:j1 s): ∃r,kl s=some r∧xP s=some r:=by
 unfold kl xP
 by_cases h1:6<(s.b7.length:Int)
 ·exact ⟨false,by simp [e8,h1],by simp [e8,h1]⟩
 by_cases o:8<(s.bE.length:Int)
 ·exact ⟨false,by simp [e8,h1,o],by simp [e8,h1,o]⟩
 obtain ⟨r,aq⟩:=Jx s i0
 rw [OM,aq]
 obtain ⟨q,bd,l3⟩:=Ol s.b7 s.bE (by omega)
 have M0:Dl (R (len_ bu s.b7-1)) s.bE (len_ bA s.bE) s.b7 0=some (Sum.map id (fun _=>()) q) :=
  Qz (f:=fun w=>oa s.bE s.b7 s.bE (len_ bA s.bE) w) (Sum.map id fun _=>()) (fun _=>True) (fun _ _ _ _=>trivial)
   (fun i _=>OW s.b7 s.bE (by omega) (by omega) i) 0 q bd trivial
 simp only [zx,zz,bd,M0,Option.bind_eq_bind,Option.bind_some]
 have d1:decide ((6:Int)<len_ bu s.b7)=false:=by rw [e8];exact decide_eq_false h1
 have d2:decide ((8:Int)<len_ bA s.bE)=false:=by rw [e8];exact decide_eq_false o
 rw [d1,d2]
 simp only [Bool.false_eq_true,if_false]
 cases r with
 | inr a=>exact ⟨false,rfl,rfl⟩
 | inl a =>
  cases q with
  | inl b=>exact ⟨true,rfl,by simp⟩
  | inr k =>
   have:=l3 k rfl
   exact ⟨false,rfl,by simp [this]⟩
theorem OX (j:bq)(h:pw j=some true): -50≤j.gx∧j.gx≤50∧ -50≤j.gw∧j.gw≤50:=by
 unfold pw at h
 cases a4:tg j.hh with
 | none=>simp [a4] at h
 | some r =>
  simp only [a4,qb,Option.bind_eq_bind,Option.bind_some] at h
  cases r with
  | false=>simp at h
  | true =>
   by_cases a : -50≤j.gx∧j.gx≤50
   ·by_cases b : -50≤j.gw∧j.gw≤50
    ·omega
    ·simp [a,b] at h
   ·simp [a] at h
theorem aa4 (s:cF)(i0:j1 s)(h:rz s.b7 (len_ bu s.b7) s.bE 0=some (.inl ())): ∀(n:Nat) j,s.b7[n]? = some j→pw j=some true:=by
 have hm:=yh
 obtain ⟨⟨gF,hI⟩,-⟩:=i0
 obtain ⟨r,h1,o⟩:=jf (f:=fun w=>ry s.b7 (len_ bu s.b7) s.bE w) (fun i=>0≤i∧i≤s.b7.length∧ ∀(n:Nat) j,(n:Int)<i→s.b7[n]? = some j→pw j=some true) (fun i=>(s.b7.length-i).toNat)
  (fun r=>r = .inl ()→ ∀(n:Nat) j,s.b7[n]? = some j→pw j=some true) (fun i aj=>by
  obtain ⟨h0,h1,af⟩:=aj
  by_cases o:i<(s.b7.length:Int)
  ·have hw:R (i+1)=i+1:=ct (by omega) (by omega)
   obtain ⟨x,U⟩ : ∃x,s.b7[i.toNat]? = some x:=⟨_,List.getElem?_eq_getElem (by omega)⟩
   obtain ⟨p,ak⟩:=O8 x (hI x (List.mem_of_getElem? U)).1
   obtain ⟨q,bd⟩:=OL ⟨s.b7,s.bE⟩ x.hh gF
   unfold ry
   simp only [e8,o,h0,hw,U,ak,bd,decide_true,if_true,and_self,Option.bind_eq_bind,Option.bind_some]
   by_cases e:p=true
   ·rw [if_pos e]
    by_cases aE:(q != i)=true
    ·exact .inr ⟨_,by rw [if_pos aE],by simp⟩
    ·refine .inl ⟨i+1,by rw [if_neg aE],⟨by omega,by omega,fun n j a4 aG=> ?_⟩,by omega⟩
     by_cases c:(n:Int)<i
     ·exact af n j c aG
     ·have:n=i.toNat:=by omega
      subst this
      rw [U] at aG
      obtain rfl:=Option.some.inj aG
      rw [ak,e]
   ·exact .inr ⟨_,by rw [if_neg e],by simp⟩
  ·refine .inr ⟨.inl (),by simp [ry,e8,o],fun _ n j aG=>af n j (by have:=f9 aG;omega) aG⟩) 0 ⟨by omega,by omega,fun n j a4=>by omega⟩
 have qt:rz s.b7 (len_ bu s.b7) s.bE 0=some r:=h1
 rw [h] at qt
 exact o (Option.some.inj qt).symm
theorem aal (hd:List bq)(eg:List bC)(E1:eg.length≤8)(h:uc eg hd eg (len_ bA eg) 0=some (.inl ())): ∀(n:Nat) m,eg[n]? = some m→qP hd m=true:=by
 obtain ⟨r,h1,o⟩:=jf (f:=fun w=>oa eg hd eg (len_ bA eg) w) (fun i=>0≤i∧i≤eg.length∧ ∀(n:Nat) m,(n:Int)<i→eg[n]? = some m→qP hd m=true) (fun i=>(eg.length-i).toNat)
  (fun r=>r = .inl ()→ ∀(n:Nat) m,eg[n]? = some m→qP hd m=true) (fun i aj=>by
  obtain ⟨h0,h1,af⟩:=aj
  by_cases o:i<(eg.length:Int)
  ·have hw:R (i+1)=i+1:=ct (by omega) (by omega)
   obtain ⟨x,U⟩ : ∃x,eg[i.toNat]? = some x:=⟨_,List.getElem?_eq_getElem (by omega)⟩
   unfold oa uw
   simp only [e8,o,h0,hw,U,D1,decide_true,if_true,and_self,Option.bind_eq_bind,Option.bind_some]
   by_cases e:(!qP hd x)=true
   ·exact .inr ⟨_,by rw [if_pos e],by simp⟩
   ·refine .inl ⟨i+1,by rw [if_neg e],⟨by omega,by omega,fun n j a4 aG=> ?_⟩,by omega⟩
    by_cases c:(n:Int)<i
    ·exact af n j c aG
    ·have:n=i.toNat:=by omega
     subst this
     rw [U] at aG
     obtain rfl:=Option.some.inj aG
     simpa using e
  ·refine .inr ⟨.inl (),by simp [oa,e8,o],fun _ n j aG=>af n j (by have:=f9 aG;omega) aG⟩) 0 ⟨by omega,by omega,fun n j a4=>by omega⟩
 have qt:uc eg hd eg (len_ bA eg) 0=some r:=h1
 rw [h] at qt
 exact o (Option.some.inj qt).symm
theorem ob (s:cF)(i0:j1 s)(h:kl s=some true):
 (∀(n:Nat) j,s.b7[n]? = some j→pw j=some true)∧(∀(n:Nat) m,s.bE[n]? = some m→qP s.b7 m=true)∧s.b7.length≤6∧s.bE.length≤8:=by
 obtain ⟨p,p1,hz⟩:=OB s i0
 rw [h] at p1
 obtain rfl:=Option.some.inj p1
 unfold xP at hz
 by_cases h1:6<(s.b7.length:Int)
 ·simp [e8,h1] at hz
 by_cases o:8<(s.bE.length:Int)
 ·simp [e8,h1,o] at hz
 obtain ⟨r,aq⟩:=Jx s i0
 rw [OM,aq] at hz
 obtain ⟨q,bd,l3⟩:=Ol s.b7 s.bE (by omega)
 have d1:decide ((6:Int)<len_ bu s.b7)=false:=by rw [e8];exact decide_eq_false h1
 have d2:decide ((8:Int)<len_ bA s.bE)=false:=by rw [e8];exact decide_eq_false o
 rw [d1,d2] at hz
 simp only [zx,zz,bd,Bool.false_eq_true,if_false,Option.bind_eq_bind,Option.bind_some] at hz
 cases r with
 | inr a=>simp at hz
 | inl a =>
  cases q with
  | inr k =>
   have:=l3 k rfl
   simp [this] at hz
  | inl b=>exact ⟨aa4 s i0 aq,aal s.b7 s.bE (by omega) bd,by omega,by omega⟩
theorem aa5 (s:cF)(i0:j1 s)(h:kl s=some true)(k:Int)(h0:0≤k)(h1:k<s.bE.length):
 ∃x y,uo s k=some (x,y)∧xU s k=some (x,y)∧(-100≤x∧x≤100)∧(-100≤y∧y≤100):=by
 obtain ⟨f1,f2,f3,f4⟩:=ob s i0 h
 obtain ⟨m,hm⟩ : ∃x,s.bE[k.toNat]? = some x:=⟨_,List.getElem?_eq_getElem (by omega)⟩
 have M1:=f2 _ m hm
 unfold qP at M1
 simp only [Bool.and_eq_true,decide_eq_true_eq] at M1
 obtain ⟨⟨g1,g2,g3,g4,-⟩,-⟩:=M1
 obtain ⟨a,bH⟩ : ∃x,s.b7[m.dp.toNat]? = some x:=⟨_,List.getElem?_eq_getElem (by omega)⟩
 obtain ⟨b,aU⟩ : ∃x,s.b7[m.dN.toNat]? = some x:=⟨_,List.getElem?_eq_getElem (by omega)⟩
 have ahQ:=OX a (f1 _ a bH)
 have ahR:=OX b (f1 _ b aU)
 have e1:R (b.gx-a.gx)=b.gx-a.gx:=ct (by omega) (by omega)
 have aE:R (b.gw-a.gw)=b.gw-a.gw:=ct (by omega) (by omega)
 have c9:0≤k∧k<s.bE.length:=⟨h0,h1⟩
 have bs:0≤m.dp∧m.dp<s.b7.length:=⟨g1,g2⟩
 have cn:0≤m.dN∧m.dN<s.b7.length:=⟨g3,g4⟩
 refine ⟨b.gx-a.gx,b.gw-a.gw,?_,?_,by omega,by omega⟩
 ·unfold uo
  simp only [if_pos c9,hm,if_pos bs,if_pos cn,bH,aU,Option.bind_eq_bind,Option.bind_some,e1,aE]
 ·unfold xU
  simp only [if_pos c9,hm,if_pos bs,if_pos cn,bH,aU,Option.bind_eq_bind,Option.bind_some,e1,aE]
def rZ (l:List Int)(n:Nat)(x:Int):Prop:=0≤x∧x<1000000000∧(∀z,l[n]? = some z→x=z)∧(l[n]? = none→x=0)
theorem vp {l:List Int}(h:cB l){n:Nat}(a4:n<l.length):rZ l n l[n]:=by
 have U:=List.getElem?_eq_getElem a4
 have h0:=h.get U
 exact ⟨h0.1,h0.2,fun z cD=>by rw [U] at cD;exact Option.some.inj cD,fun h=>by rw [U] at h;simp at h⟩
theorem yG {l:List Int}{n:Nat}(a4:¬n<l.length):rZ l n 0:=by
 have U:l[n]? = none:=by simp;omega
 exact ⟨by omega,by omega,fun z cD=>by rw [U] at cD;simp at cD,fun _=>rfl⟩
theorem rZ.take {l:List Int}{n:Nat}{x:Int}(h:rZ l n x):V (l.take (n+1))=V (l.take n)+B n*x:=QG h.2.2.1 h.2.2.2
theorem abT {a b row:List Int}{carry:Int}{n:Nat}(bH:cB a)(aU:cB b)(bh:carry=0∨carry=1)(rf:a.length≤1000000)(M2:b.length≤1000000)(aq:row.length≤1000001)(E6:n≤1000001)(a4:n<a.length∨n<b.length∨carry=1):
 ∃x y,rZ a n x∧rZ b n y∧ur a b carry n row=some (.inl ((carry+x+y) / 1000000000,((n+1:Nat):Int),row++[(carry+x+y) % 1000000000])):=by
 have mF:0≤carry∧carry≤1:=by omega
 unfold ur
 simp only [f5]
 by_cases h1:n<a.length
 ·have hA:=vp bH h1
  have U:=List.getElem?_eq_getElem h1
  rw [if_pos (by simp;omega),if_pos (by omega),Int.toNat_natCast,U]
  simp only [Option.bind_eq_bind,Option.bind_some]
  by_cases o:n<b.length
  ·have ho:=vp aU o
   have a1:=List.getElem?_eq_getElem o
   have gF:=hA.1
   have hI:=hA.2.1
   have jo:=ho.1
   have kJ:=ho.2.1
   refine ⟨a[n],b[n],hA,ho,?_⟩
   rw [if_pos (by simp;omega),if_pos (by omega),a1]
   simp only [Option.bind_some]
   rw [ct (x:=carry+a[n]) (by omega) (by omega),ct (x:=carry+a[n]+b[n]) (by omega) (by omega),pZ (by omega),ng (by omega),ct (by omega) (by omega),nR (n:=n) (by omega),if_pos (by simp;omega)]
  ·have gF:=hA.1
   have hI:=hA.2.1
   refine ⟨a[n],0,hA,yG o,?_⟩
   rw [if_neg (by simp;omega),ct (x:=carry+a[n]) (by omega) (by omega),pZ (by omega),ng (by omega),ct (by omega) (by omega),nR (n:=n) (by omega),if_pos (by simp;omega),Int.add_zero]
 ·rw [if_neg (by simp;omega)]
  by_cases o:n<b.length
  ·have ho:=vp aU o
   have a1:=List.getElem?_eq_getElem o
   have jo:=ho.1
   have kJ:=ho.2.1
   refine ⟨0,b[n],yG h1,ho,?_⟩
   rw [if_pos (by simp;omega),if_pos (by omega),Int.toNat_natCast,a1]
   simp only [Option.bind_eq_bind,Option.bind_some]
   rw [ct (x:=carry+b[n]) (by omega) (by omega),pZ (by omega),ng (by omega),ct (by omega) (by omega),nR (n:=n) (by omega),if_pos (by simp;omega),Int.add_zero]
  ·refine ⟨0,0,yG h1,yG o,?_⟩
   rw [if_neg (by simp;omega),if_pos (by simp;omega),pZ (by omega),ng (by omega),ct (by omega) (by omega),nR (n:=n) (by omega),if_pos (by simp;omega),Int.add_zero,Int.add_zero]
theorem abU {a b:List Int}(bH:cB a)(aU:cB b)(rf:a.length≤900000)(M2:b.length≤900000): ∃r,x7 a b=some r∧cB r∧V r=V a+V b∧r.length≤a.length+b.length+1:=by
 obtain ⟨r,aq,h1,o,af⟩:=jf (f:=fun w:Int×Int×List Int=>ur a b w.1 w.2.1 w.2.2) (eQ:=fun w=> ∃n:Nat,w.2.1=n∧w.2.2.length=n∧(w.1=0∨w.1=1)∧cB w.2.2∧V w.2.2+w.1*B n=V (a.take n)+V (b.take n)∧(n≤a.length∨n≤b.length∨w.1=0)∧n≤a.length+b.length+1) (m:=fun w=>(a.length+b.length+2-w.2.1.toNat))
  (fun r=>cB r∧V r=V a+V b∧r.length≤a.length+b.length+1) (by
    rintro ⟨carry,ii,row⟩ ⟨n,e1,aE,bP,c3,dg,d6,eB⟩
    simp only at e1 aE bP c3 dg d6
    subst e1
    by_cases a4:n<a.length∨n<b.length∨carry=1
    ·obtain ⟨x,y,U,a1,q8⟩:=abT (row:=row) bH aU bP (by omega) (by omega) (by omega) (by omega) a4
     have x0:=U.1
     have x1:=U.2.1
     have TU:=a1.1
     have mP:=a1.2.1
     have MV:n≤a.length+b.length:=by omega
     refine .inl ⟨_,q8,⟨n+1,rfl,by simp [aE],by simp only;omega,c3.append (cB.cons (by omega) cB.nil),?_,?_,by omega⟩,by simp only;omega⟩
     ·simp only
      rw [va,aE,mi,ln,Bw,U.take,a1.take]
      have:=Int.mul_ediv_add_emod (carry+x+y) 1000000000
      generalize (carry+x+y) / 1000000000=u at *
      generalize (carry+x+y) % 1000000000=t at *
      have cm:t=carry+x+y-1000000000*u:=by omega
      rw [cm]
      grind
     ·simp only
      by_cases h:n+1≤a.length∨n+1≤b.length
      ·omega
      ·
       have ahB : ¬n<a.length:=by omega
       have ahC : ¬n<b.length:=by omega
       have h3:x=0:=U.2.2.2 (by simp;omega)
       have je:y=0:=a1.2.2.2 (by simp;omega)
       omega
    ·refine .inr ⟨row,?_,c3,?_,by omega⟩
     ·unfold ur
      simp only [f5]
      rw [if_neg (by simp;omega),if_neg (by simp;omega),if_neg (by simp;omega)]
     ·have bh:carry=0:=by omega
      rw [bh,List.take_of_length_le (by omega),List.take_of_length_le (by omega)] at dg
      omega) (0,0,[]) ⟨0,rfl,rfl,.inl rfl,cB.nil,by simp [V],by omega,by omega⟩
 unfold x7 J2
 rw [aq]
 exact ⟨r,rfl,h1,o,af⟩
theorem aa6 {neg:Bool}{r:List Int}(aq:cB r)(aV:r.length≤5000000)(qA:V r<B 60):h5 neg r=some (hl (eo neg (V r))):=by
 have h0:=mS aq
 have:h5 neg r=h5 neg (L (V r)):=by
  unfold h5 x6
  have hlen:=(jk h0).2 qA
  rw [rD aq aV,rD (hp _) (by omega),ew h0]
 rw [this,qd h0 qA]
theorem aa7 {a b row:List Int}{carry:Int}{n:Nat}(bH:cB a)(aU:cB b)(bh:carry=0∨carry=1)(rf:a.length≤1000000)(a4:n<a.length)(aq:n<row.length):
 ∃x y,rZ a n x∧rZ b n y∧xM a b a.length carry n row=some (.inl ((carry+x+y) / 1000000000,((n+1:Nat):Int),row.set n ((carry+x+y) % 1000000000))):=by
 have mF:0≤carry∧carry≤1:=by omega
 have hA:=vp bH a4
 have U:=List.getElem?_eq_getElem a4
 have gF:=hA.1
 have hI:=hA.2.1
 unfold xM
 simp only [f5]
 rw [if_pos (by simp;omega),if_pos (by omega),Int.toNat_natCast,U]
 simp only [Option.bind_eq_bind,Option.bind_some]
 by_cases o:n<b.length
 ·have ho:=vp aU o
  have a1:=List.getElem?_eq_getElem o
  have jo:=ho.1
  have kJ:=ho.2.1
  refine ⟨a[n],b[n],hA,ho,?_⟩
  rw [if_pos (by simp;omega),if_pos (by omega),a1]
  simp only [Option.bind_some]
  rw [if_pos (by omega),if_pos (by omega),ct (x:=a[n]+carry) (by omega) (by omega),ct (x:=a[n]+carry+b[n]) (by omega) (by omega),pZ (by omega),ng (by omega),ct (by omega) (by omega),nR (n:=n) (by omega),Nat.zero_add,Int.add_comm a[n] carry]
 ·refine ⟨a[n],0,hA,yG o,?_⟩
  rw [if_neg (by simp;omega),if_pos (by omega),if_pos (by omega),ct (x:=a[n]+carry) (by omega) (by omega),pZ (by omega),ng (by omega),ct (by omega) (by omega),nR (n:=n) (by omega),Nat.zero_add,Int.add_zero,Int.add_comm a[n] carry]
theorem aa8 {a b:List Int}(bH:cB a)(aU:cB b)(rf:a.length≤900000)(tP:b.length≤a.length):
 ∃r,Ax a b a.length 0 0 (List.replicate (a.length+1) 0)=some r∧(r.1=0∨r.1=1)∧cB r.2∧r.2.length=a.length+1∧V r.2+r.1*B a.length=V a+V b∧r.2[a.length]? = some 0:=by
 refine jf (eQ:=fun w:Int×Int×List Int=> ∃n:Nat,w.2.1=n∧n≤a.length∧(w.1=0∨w.1=1)∧cB w.2.2∧w.2.2.length=a.length+1∧V w.2.2+w.1*B n=V (a.take n)+V (b.take n)∧ ∀j,n≤j→j<a.length+1→w.2.2[j]? = some 0) (m:=fun w=>a.length-w.2.1.toNat) _ ?_ _ ⟨0,rfl,by omega,.inl rfl,cB.MB _,by simp,by simp [V,LG],fun j _ h=>by simp [List.getElem?_replicate];omega⟩
 rintro ⟨carry,ii,row⟩ ⟨n,e1,aE,bP,c3,dg,d6,eB⟩
 simp only at e1 bP c3 dg d6 eB ⊢
 subst e1
 by_cases a4:n=a.length
 ·subst a4
  refine .inr ⟨(carry,row),by simp [xM],bP,c3,dg,?_,eB _ (Nat.le_refl _) (by omega)⟩
  rw [List.take_length,List.take_of_length_le tP] at d6
  exact d6
 ·obtain ⟨x,y,U,a1,q8⟩:=aa7 (row:=row) (n:=n) bH aU bP (by omega) (by omega) (by omega)
  have x0:=U.1
  have x1:=U.2.1
  have TU:=a1.1
  have mP:=a1.2.1
  refine .inl ⟨_,q8,⟨n+1,rfl,by omega,by simp only;omega,c3.set (by omega),by simpa using dg,?_,fun j h1 o=> ?_⟩,by simp only;omega⟩
  ·simp only
   rw [rN (eB n (Nat.le_refl _) (by omega)),mi,U.take,a1.take]
   have:=Int.mul_ediv_add_emod (carry+x+y) 1000000000
   generalize (carry+x+y) / 1000000000=u at *
   generalize (carry+x+y) % 1000000000=t at *
   have cm:t=carry+x+y-1000000000*u:=by omega
   rw [cm]
   grind
  ·simp only
   rw [List.getElem?_set_ne (by omega)]
   exact eB j (by omega) o
theorem Qg {a b:List Int}(bH:cB a)(aU:cB b)(rf:a.length≤900000)(tP:b.length≤a.length):
 (if 0≤(R ((len_ eI a)+(1:Int)))∧(8:Int)*(R ((len_ eI a)+(1:Int)))≤281474976710656∧(R ((len_ eI a)+(1:Int)))<9223372036854775808 then
   (Ax a b (len_ eI a) 0 0 (List.replicate (R ((len_ eI a)+(1:Int))).toNat 0:List Int)).bind fun bl =>
   if 0≤(len_ eI a)∧(len_ eI a)<(bl.2.length:Nat) then
   if (0+(len_ eI a).toNat)<bl.2.length then
   (qa (bl.2.set (0+(len_ eI a).toNat) bl.1)).bind fun bQ=>some bQ
   else none
   else none
   else none)=some (L (V a+V b)):=by
 obtain ⟨r,aq,h1,o,af,au,aA⟩:=aa8 bH aU rf tP
 rw [f5,nR (by omega),if_pos (by omega),Int.toNat_natCast,aq,Option.bind_some,if_pos (by omega),Int.toNat_natCast,Nat.zero_add,if_pos (by omega)]
 have B0:cB (r.2.set a.length r.1):=o.set (by omega)
 rw [yw B0 (by simp;omega),rN aA,Option.bind_some]
 congr 2
 rw [← au]
 grind
theorem acy {a b:List Int}(bH:cB a)(aU:cB b)(rf:a.length≤900000)(M2:b.length≤900000):yf a b=some (L (V a+V b)):=by
 unfold yf
 by_cases h:a.length<b.length
 ·rw [if_pos (by rw [f5,f5];simpa using h)]
  have:=Qg aU bH M2 (by omega)
  rw [Int.add_comm (V a)]
  exact this
 ·rw [if_neg (by rw [f5,f5];simpa using h)]
  exact Qg bH aU rf (by omega)
theorem aam {a b row:List Int}{less:Int}{n:Nat}(bH:cB a)(aU:cB b)(aV:less=0∨less=1)(rf:a.length≤1000000)(a4:n<a.length)(aq:n<row.length):
 ∃x y,rZ a n x∧rZ b n y∧xK b a a.length less n row=some (.inl (if x-less-y<0 then (1,((n+1:Nat):Int),row.set n (x-less-y+1000000000)) else (0,((n+1:Nat):Int),row.set n (x-less-y)))):=by
 have mF:0≤less∧less≤1:=by omega
 have hA:=vp bH a4
 have U:=List.getElem?_eq_getElem a4
 have gF:=hA.1
 have hI:=hA.2.1
 unfold xK
 simp only [f5]
 rw [if_pos (by simp;omega),if_pos (by omega),Int.toNat_natCast,U]
 simp only [Option.bind_eq_bind,Option.bind_some]
 by_cases o:n<b.length
 ·have ho:=vp aU o
  have a1:=List.getElem?_eq_getElem o
  have jo:=ho.1
  have kJ:=ho.2.1
  refine ⟨a[n],b[n],hA,ho,?_⟩
  rw [if_pos (by simp;omega),if_pos (by omega),a1]
  simp only [Option.bind_some]
  rw [ct (x:=a[n]-less) (by omega) (by omega),ct (x:=a[n]-less-b[n]) (by omega) (by omega),nR (n:=n) (by omega),ct (x:=a[n]-less-b[n]+1000000000) (by omega) (by omega),Nat.zero_add]
  by_cases h:a[n]-less-b[n]<0
  ·rw [if_pos (by simpa using h),if_pos h,if_pos (by omega),if_pos (by omega)]
  ·rw [if_neg (by simpa using h),if_neg h,if_pos (by omega),if_pos (by omega)]
 ·refine ⟨a[n],0,hA,yG o,?_⟩
  rw [if_neg (by simp;omega),ct (x:=a[n]-less) (by omega) (by omega),nR (n:=n) (by omega),ct (x:=a[n]-less+1000000000) (by omega) (by omega),Nat.zero_add,Int.sub_zero]
  by_cases h:a[n]-less<0
  ·rw [if_pos (by simpa using h),if_pos h,if_pos (by omega),if_pos (by omega)]
  ·rw [if_neg (by simpa using h),if_neg h,if_pos (by omega),if_pos (by omega)]
theorem QM {a b:List Int}(bH:cB a)(aU:cB b)(hlen:b.length≤a.length)(tP:V b≤V a)(rf:a.length≤900000):tm a b=some (L (V a-V b)):=by
 have : ∃r,Ko b a a.length 0 0 (List.replicate a.length 0)=some r∧cB r∧r.length=a.length∧V r=V a-V b:=by
  refine jf (eQ:=fun w:Int×Int×List Int=> ∃n:Nat,w.2.1=n∧n≤a.length∧(w.1=0∨w.1=1)∧cB w.2.2∧w.2.2.length=a.length∧V w.2.2-w.1*B n=V (a.take n)-V (b.take n)∧ ∀j,n≤j→j<a.length→w.2.2[j]? = some 0) (m:=fun w=>a.length-w.2.1.toNat) _ ?_ _ ⟨0,rfl,by omega,.inl rfl,cB.MB _,by simp,by simp [V,LG],fun j _ h=>by simp [List.getElem?_replicate];omega⟩
  rintro ⟨less,ii,row⟩ ⟨n,e1,aE,bP,c3,dg,d6,eB⟩
  simp only at e1 bP c3 dg d6 eB ⊢
  subst e1
  by_cases a4:n=a.length
  ·subst a4
   refine .inr ⟨row,by simp [xK],c3,dg,?_⟩
   rw [List.take_length,List.take_of_length_le hlen] at d6
   have o:=nv c3
   rw [dg] at o
   rcases bP with rfl|rfl<;>omega
  ·obtain ⟨x,y,U,a1,q8⟩:=aam (row:=row) (n:=n) bH aU bP (by omega) (by omega) (by omega)
   have x0:=U.1
   have x1:=U.2.1
   have TU:=a1.1
   have mP:=a1.2.1
   rw [q8]
   refine .inl ⟨_,rfl,?_⟩
   by_cases h:x-less-y<0
   ·rw [if_pos h]
    refine ⟨⟨n+1,rfl,by omega,.inr rfl,c3.set (by omega),by simpa using dg,?_,fun j h1 o=> ?_⟩,by simp only;omega⟩
    ·simp only
     rw [rN (eB n (Nat.le_refl _) (by omega)),mi,U.take,a1.take]
     grind
    ·simp only
     rw [List.getElem?_set_ne (by omega)]
     exact eB j (by omega) o
   ·rw [if_neg h]
    refine ⟨⟨n+1,rfl,by omega,.inl rfl,c3.set (by omega),by simpa using dg,?_,fun j h1 o=> ?_⟩,by simp only;omega⟩
    ·simp only
     rw [rN (eB n (Nat.le_refl _) (by omega)),U.take,a1.take]
     grind
    ·simp only
     rw [List.getElem?_set_ne (by omega)]
     exact eB j (by omega) o
 obtain ⟨r,aq,h1,o,af⟩:=this
 unfold tm
 simp only [f5]
 rw [if_pos (by omega),Int.toNat_natCast,aq]
 simp only [Option.bind_eq_bind,Option.bind_some]
 rw [yw h1 (by omega),af]
 rfl
theorem RO {a b:Int}(h:decide (a<0)=decide (b<0)):eo (decide (a<0)) ((a.natAbs:Int)+(b.natAbs:Int))=a+b:=by
 have cK:a<0↔b<0:=by simpa using h
 unfold eo
 by_cases h1:a<0
 ·have:=cK.1 h1
  simp only [h1,decide_true,if_true]
  omega
 ·have : ¬b<0:=fun aU=>h1 (cK.2 aU)
  simp only [h1,decide_false,Bool.false_eq_true,if_false]
  omega
theorem Ex {a b:Int}(h:¬decide (a<0)=decide (b<0)):eo (decide (a<0)) ((a.natAbs:Int)-(b.natAbs:Int))=a+b∧eo (decide (b<0)) ((b.natAbs:Int)-(a.natAbs:Int))=a+b:=by
 have cK : ¬(a<0↔b<0):=by simpa using h
 unfold eo
 by_cases h1:a<0
 ·have o : ¬b<0:=fun aU=>cK ⟨fun _=>aU,fun _=>h1⟩
  simp only [h1,o,decide_true,if_true,decide_false,Bool.false_eq_true,if_false]
  omega
 ·have o:b<0:=by
   apply Classical.byContradiction
   intro aU
   exact cK ⟨fun h=>absurd h h1,fun h=>absurd h aU⟩
  simp only [h1,o,decide_true,if_true,decide_false,Bool.false_eq_true,if_false]
  omega
theorem Ek {x y:Int}(U:0≤x)(MC:x≤y):(L x).length≤(L y).length:=by
 apply (jk U).2
 have:=nv (hp y)
 rw [ew (by omega)] at this
 omega
theorem Qh {a b:Int}(bH:(a.natAbs:Int)<B 50)(aU:(b.natAbs:Int)<B 50):p9 (hl a) (hl b)=some (hl (a+b)):=by
 have s6:=(jk (k:=50) (n:=a.natAbs) (by omega)).2 bH
 have wm:=(jk (k:=50) (n:=b.natAbs) (by omega)).2 aU
 have qA:B 50+B 50≤B 60:=by
  have h1:B 51≤B 60:=qT (by omega)
  have o:=oS 50
  rw [mi] at h1
  omega
 have b6:p9 (hl a) (hl b)=(if (decide (a<0) == decide (b<0))=true then (x7 (L a.natAbs) (L b.natAbs)).bind fun bT=>(h5 (decide (a<0)) bT).bind fun ba=>some ba else (p8 (L a.natAbs) (L b.natAbs)).bind fun bT=>if (decide ((0:Int)≤bT))=true then (sd (L a.natAbs) (L b.natAbs)).bind fun ax=>(h5 (decide (a<0)) ax).bind fun bQ=>some bQ else (sd (L b.natAbs) (L a.natAbs)).bind fun ax=>(h5 (decide (b<0)) ax).bind fun bQ=>some bQ):=rfl
 rw [b6]
 by_cases h:decide (a<0)=decide (b<0)
 ·rw [if_pos (by simpa using h)]
  obtain ⟨r,r1,bT,bl,ba⟩:=abU (hp a.natAbs) (hp b.natAbs) (by omega) (by omega)
  rw [ew (by omega),ew (by omega)] at bl
  rw [r1,Option.bind_some,aa6 bT (by omega) (by omega),bl,RO h]
  rfl
 ·rw [if_neg (by simpa using h),sq (jz _) (jz _) (by omega),ew (by omega),ew (by omega),Option.bind_some]
  by_cases bh:(b.natAbs:Int)≤a.natAbs
  ·have vX:0≤la (a.natAbs:Int) b.natAbs:=by
    apply Int.not_lt.mp
    intro h1
    have:=tr.1 h1
    omega
   rw [if_pos (by simpa using vX),sub_eq (hp _) (hp _) (Ek (by omega) bh) (by rw [ew (by omega),ew (by omega)];exact bh) (by omega),ew (by omega),ew (by omega),Option.bind_some,qd (by omega) (by omega),(Ex h).1]
   rfl
  ·have vX : ¬0≤la (a.natAbs:Int) b.natAbs:=by
    have:=tr.2 (show (a.natAbs:Int)<b.natAbs by omega)
    omega
   rw [if_neg (by simpa using vX),sub_eq (hp _) (hp _) (Ek (by omega) (by omega)) (by rw [ew (by omega),ew (by omega)];omega) (by omega),ew (by omega),ew (by omega),Option.bind_some,qd (by omega) (by omega),(Ex h).2]
   rfl
theorem abV {a b:Int}(bH:(a.natAbs:Int)<B 50)(aU:(b.natAbs:Int)<B 50):xR (hl a) (hl b)=some (hl (a+b)):=by
 have s6:=(jk (k:=50) (n:=a.natAbs) (by omega)).2 bH
 have wm:=(jk (k:=50) (n:=b.natAbs) (by omega)).2 aU
 have b6:xR (hl a) (hl b)=((qF (L a.natAbs) (L b.natAbs)).bind fun r1=>if (decide (a<0) == decide (b<0))=true then (yf (L a.natAbs) (L b.natAbs)).bind fun bT=>(ni (decide (a<0)) bT).bind fun ba=>some ba else if (decide ((0:Int)≤r1))=true then (tm (L a.natAbs) (L b.natAbs)).bind fun ax=>(ni (decide (a<0)) ax).bind fun bQ=>some bQ else (tm (L b.natAbs) (L a.natAbs)).bind fun ax=>(ni (decide (b<0)) ax).bind fun bQ=>some bQ):=rfl
 rw [b6,PN (jz _) (jz _) (by omega),ew (by omega),ew (by omega),Option.bind_some]
 by_cases h:decide (a<0)=decide (b<0)
 ·rw [if_pos (by simpa using h),acy (hp _) (hp _) (by omega) (by omega),ew (by omega),ew (by omega),Option.bind_some,si (by omega),RO h]
  rfl
 ·rw [if_neg (by simpa using h)]
  by_cases bh:(b.natAbs:Int)≤a.natAbs
  ·have vX:0≤la (a.natAbs:Int) b.natAbs:=by
    apply Int.not_lt.mp
    intro h1
    have:=tr.1 h1
    omega
   rw [if_pos (by simpa using vX),QM (hp _) (hp _) (Ek (by omega) bh) (by rw [ew (by omega),ew (by omega)];exact bh) (by omega),ew (by omega),ew (by omega),Option.bind_some,si (by omega),(Ex h).1]
   rfl
  ·have vX : ¬0≤la (a.natAbs:Int) b.natAbs:=by
    have:=tr.2 (show (a.natAbs:Int)<b.natAbs by omega)
    omega
   rw [if_neg (by simpa using vX),QM (hp _) (hp _) (Ek (by omega) (by omega)) (by rw [ew (by omega),ew (by omega)];omega) (by omega),ew (by omega),ew (by omega),Option.bind_some,si (by omega),(Ex h).2]
   rfl
theorem Lz {b:Int}:eo (!(decide (b<0))) (b.natAbs:Int) = -b:=by
 unfold eo
 by_cases h:b<0
 ·simp only [h,decide_true,Bool.not_true,Bool.false_eq_true,if_false]
  omega
 ·simp only [h,decide_false,Bool.not_false,if_true]
  omega
theorem aa9 {a b:Int}(bH:(a.natAbs:Int)<B 50)(aU:(b.natAbs:Int)<B 50):ux (hl a) (hl b)=some (hl (a-b)):=by
 have b6:ux (hl a) (hl b)=(((ni (!(decide (b<0))) (L b.natAbs)).bind fun r=>some r).bind fun r1=>(xR (hl a) r1).bind fun bl=>some bl):=rfl
 rw [b6,si (by omega),Lz,Option.bind_some,Option.bind_some,abV bH (by omega),Option.bind_some,Int.sub_eq_add_neg]
theorem Fr.neg {q:Int×Int}(h:Fr q):Fr (-q.1,q.2):=⟨h.pos,by simp only;rw [Int.neg_gcd];exact h.To,by simp only;have:=h.num;omega,h.den⟩
theorem aba {q:Int×Int}(h:Fr q):uT (mk q)=some (mk (-q.1,q.2)):=by
 have h1:=h.num
 have o:=h.sG
 have af:=Lx
 have b6:uT (mk q)=((h5 (!(decide (q.1<0))) (L q.1.natAbs)).bind fun r1=>if (([]:List Int)++L q.2).length*8≤140737488355328 then some (⟨r1,([]:List Int)++L q.2⟩:aQ) else none):=rfl
 rw [b6,qd (by omega) (by omega),Lz,Option.bind_some,if_pos (by simp;omega)]
 rfl
theorem QN {p q:Int×Int}(ak:Fr p)(bd:Fr q):((p.1*q.2).natAbs:Int)<B 48∧(L (p.1.natAbs*q.2:Int)).length≤48∧0≤(p.1.natAbs*q.2:Int):=by
 have a0:=bd.pos
 have bm:=ts (x:=p.1.natAbs) (y:=q.2) (by omega) (by omega) ak.num bd.den
 have CZ:0≤(p.1.natAbs:Int)*q.2:=Int.mul_nonneg (by omega) (by omega)
 rw [Ly (by omega)]
 exact ⟨(jk CZ).1 bm,bm,CZ⟩
theorem ac3:B 48+B 48≤B 50:=by
 have h1:B 49≤B 50:=qT (by omega)
 have o:=oS 48
 rw [mi] at h1
 omega
theorem abb {p q:Int×Int}(ak:Fr p)(bd:Fr q):rB (mk p) (mk q)=some (enc (low (p.1*q.2+q.1*p.2) (p.2*q.2))):=by
 have h1:=ak.tG
 have o:=ak.sG
 have af:=bd.tG
 have au:=bd.sG
 have aA:=ak.pos
 have a0:=bd.pos
 have SC:=ak.num
 have ow:=bd.num
 have ahD:=ak.den
 have ahE:=bd.den
 have ho:=ac3
 have agQ:B 24≤B 48:=qT (by omega)
 have agR:B 50≤B 60:=qT (by omega)
 obtain ⟨bs,cn,jF⟩:=QN ak bd
 obtain ⟨d1,d2,tU⟩:=QN bd ak
 have ag0:=oS 48
 have e1:hY (L p.1.natAbs) (L q.2)=some (L ((p.1.natAbs:Int)*q.2)):=by
  rw [mul_eq (hp _) (hp _) (by omega) (by omega),ew (by omega),ew (by omega)]
 have aE:hY (L q.1.natAbs) (L p.2)=some (L ((q.1.natAbs:Int)*p.2)):=by
  rw [mul_eq (hp _) (hp _) (by omega) (by omega),ew (by omega),ew (by omega)]
 have bP:h5 (decide (p.1<0)) (L ((p.1.natAbs:Int)*q.2))=some (hl (p.1*q.2)):=by
  rw [qd jF (by rw [← Ly (by omega)];omega),A9]
 have c3:h5 (decide (q.1<0)) (L ((q.1.natAbs:Int)*p.2))=some (hl (q.1*p.2)):=by
  rw [qd tU (by rw [← Ly (by omega)];omega),A9]
 have dg:p9 (hl (p.1*q.2)) (hl (q.1*p.2))=some (hl (p.1*q.2+q.1*p.2)):=Qh (by omega) (by omega)
 have bn:=ts (x:=p.2) (y:=q.2) (by omega) (by omega) ak.den bd.den
 have d6:hY (L p.2) (L q.2)=some (L (p.2*q.2)):=by
  rw [mul_eq (hp _) (hp _) (by omega) (by omega),ew (by omega),ew (by omega)]
 have Sr:(L (p.1*q.2+q.1*p.2).natAbs).length≤50:=(jk (by omega)).2 (by omega)
 have eB:od (decide (p.1*q.2+q.1*p.2<0)) (L (p.1*q.2+q.1*p.2).natAbs) (L (p.2*q.2))=some (enc (low (p.1*q.2+q.1*p.2) (p.2*q.2))):=by
  rw [KQ (by omega) (Int.mul_pos aA a0) (by omega) (by omega)]
  have:eo (decide (p.1*q.2+q.1*p.2<0)) ((p.1*q.2+q.1*p.2).natAbs:Int)=p.1*q.2+q.1*p.2:=by
   have:=A9 (a:=p.1*q.2+q.1*p.2) (b:=1)
   rwa [Int.mul_one,Int.mul_one] at this
  rw [this]
 have Sx:((hY (L p.1.natAbs) (L q.2)).bind fun bQ=>(h5 (decide (p.1<0)) bQ).bind fun cg=>(hY (L q.1.natAbs) (L p.2)).bind fun dh=>(h5 (decide (q.1<0)) dh).bind fun eK=>(p9 cg eK).bind fun gK=>(hY (L p.2) (L q.2)).bind fun gb=>(od gK.cS gK.cJ gb).bind fun o6=>some o6)=some (enc (low (p.1*q.2+q.1*p.2) (p.2*q.2))):=by
  rw [e1,Option.bind_some,bP,Option.bind_some,aE,Option.bind_some,c3,Option.bind_some,dg,Option.bind_some,d6,Option.bind_some]
  show (od (decide (p.1*q.2+q.1*p.2<0)) (L (p.1*q.2+q.1*p.2).natAbs) (L (p.2*q.2))).bind _=_
  rw [eB,Option.bind_some]
 have b6:rB (mk p) (mk q)=((qH (L p.2)).bind fun r1=>if r1=true then (qH (L q.2)).bind fun ba=>if ba=true then (p9 (hl p.1) (hl q.1)).bind fun bQ=>(od bQ.cS bQ.cJ ([1]:List Int)).bind fun cg=>some cg else ((hY (L p.1.natAbs) (L q.2)).bind fun bQ=>(h5 (decide (p.1<0)) bQ).bind fun cg=>(hY (L q.1.natAbs) (L p.2)).bind fun dh=>(h5 (decide (q.1<0)) dh).bind fun eK=>(p9 cg eK).bind fun gK=>(hY (L p.2) (L q.2)).bind fun gb=>(od gK.cS gK.cJ gb).bind fun o6=>some o6) else ((hY (L p.1.natAbs) (L q.2)).bind fun bQ=>(h5 (decide (p.1<0)) bQ).bind fun cg=>(hY (L q.1.natAbs) (L p.2)).bind fun dh=>(h5 (decide (q.1<0)) dh).bind fun eK=>(p9 cg eK).bind fun gK=>(hY (L p.2) (L q.2)).bind fun gb=>(od gK.cS gK.cJ gb).bind fun o6=>some o6)):=rfl
 rw [b6,Bm (by omega),Option.bind_some]
 by_cases b8:p.2=1
 ·rw [if_pos (by simpa using b8),Bm (by omega),Option.bind_some]
  by_cases aT:q.2=1
  ·rw [if_pos (by simpa using aT),Qh (by omega) (by omega),Option.bind_some]
   have gu:p.1*q.2+q.1*p.2=p.1+q.1:=by rw [b8,aT,Int.mul_one,Int.mul_one]
   have TV:p.2*q.2=1:=by rw [b8,aT];rfl
   rw [gu,TV,Sb] at eB
   rw [gu,TV]
   show (od (decide (p.1+q.1<0)) (L (p.1+q.1).natAbs) [1]).bind _=_
   rw [eB,Option.bind_some]
  ·rw [if_neg (by simpa using aT)]
   exact Sx
 ·rw [if_neg (by simpa using b8)]
  exact Sx
def qh (n:Int):Bool:=decide (-100≤n∧n≤100)
def qZ (wq:Nat)(l:List Int):Bool:=decide (l.length=2*wq) && l.all qh
theorem aan (n:Int):Aw n=some (qh n):=by
 unfold Aw qh
 by_cases h : -100≤n<;>simp [h]
theorem Qi (s:cF)(p:Bool)(ak:kl s=some p)(ru:p=true→s.b7.length≤6)(l:List Int)(aV:l.length≤maxLen):sc s l=some (p && qZ s.b7.length l):=by
 have hm:=yh
 unfold sc
 simp only [ak,Option.bind_eq_bind,Option.bind_some,e8]
 cases p with
 | false=>rfl
 | true =>
  have ru:=ru rfl
  have hw:R (2*((s.b7.length:Nat):Int))=2*((s.b7.length:Nat):Int):=ct (by omega) (by omega)
  rw [hw]
  unfold qZ
  by_cases e:l.length=2*s.b7.length
  ·have h1:JZ l (l.length:Nat) 0=some (if l.all qh then .inl () else .inr ()):=by
    refine QA (f:=fun w=>xw l (l.length:Nat) w) l qh (fun n x U=> ?_) ?_
    ·have dU:=f9 U
     unfold xw
     have c:(n:Int)<(l.length:Int):=by omega
     have dX:0≤(n:Int)∧(n:Int)<(l.length:Int):=by omega
     simp only [decide_eq_true c,if_true,if_pos dX,Int.toNat_natCast,U,Option.bind_eq_bind,Option.bind_some,qb]
     rw [i1 (by omega)]
     unfold qh
     by_cases q : -100≤x∧x≤100
     ·simp [q]
     ·rw [decide_eq_false q];simp
    ·simp [xw]
   have c:((l.length:Int) != 2*(s.b7.length:Int))=false:=by simp;omega
   simp only [c,h1,Bool.false_eq_true,if_false,if_true,Option.bind_some]
   cases l.all qh<;>simp [e]
  ·have c:((l.length:Int) != 2*(s.b7.length:Int))=true:=by simp;omega
   simp only [c,if_true]
   simp [e]
theorem ZM (s:cF)(ru:s.b7.length≤6)(l:List Int)(aV:l.length≤maxLen):Am s l=some (qZ s.b7.length l):=by
 have hm:=yh
 have hw:R (2*((s.b7.length:Nat):Int))=2*((s.b7.length:Nat):Int):=ct (by omega) (by omega)
 unfold Am C4 C9 qZ
 simp only [e8,hw,Option.bind_eq_bind]
 obtain ⟨r,h1,o⟩:=aaI (f:=fun w=>wu l (l.length:Nat) w) l (fun n=> !qh n) (fun n x U=>by
  have dU:=f9 U
  unfold wu DE
  have c:(n:Int)<(l.length:Int):=by omega
  have dX:0≤(n:Int)∧(n:Int)<(l.length:Int):=by omega
  simp only [decide_eq_true c,if_true,if_pos dX,Int.toNat_natCast,U,Option.bind_eq_bind,Option.bind_some,aan]
  rw [i1 (by omega)]
  cases qh x<;>rfl) (by simp [wu])
 have qt:F8 l (l.length:Nat) 0=some r:=h1
 rw [qt]
 have aea:(l.any fun n=> !qh n) = !l.all qh:=by
  rw [List.not_all_eq_any_not]
 rw [aea] at o
 by_cases e:l.length=2*s.b7.length
 ·have c:((l.length:Int) == 2*(s.b7.length:Int))=true:=by simp;omega
  rw [c]
  rcases o with ⟨k,rfl,a9,bH⟩|⟨rfl,bH⟩
  ·simp only [Bool.not_eq_true'] at bH
   simp [e,bH,a9]
  ·simp only [Bool.not_eq_false'] at bH
   simp [e,bH]
 ·have c:((l.length:Int) == 2*(s.b7.length:Int))=false:=by simp;omega
  rw [c]
  simp [e]
theorem n8 {i:Int}{a:Nat}(h0:0≤i)(h1:i≤100)(bH:a≤1):R (R (2*i)+(a:Int))=(((2*i+a).toNat:Nat):Int):=by
 rw [ct (x:=2*i) (by omega) (by omega),ct (by omega) (by omega)]
 omega
theorem ZN (l:List Int)(h:l.length≤1048576):Ab l=some l:=by
 have aU : ∀(n:Nat) x (row:List Int),l[n]? = some x→row.length=l.length→uk l n row=some (.inl (((n+1:Nat):Int),row.set n x)):=by
  intro n x row U aq
  obtain ⟨a4,rfl⟩:=List.getElem?_eq_some_iff.1 U
  have hw:R ((n:Int)+1)=((n+1:Nat):Int):=by rw [ct (by omega) (by omega)];rfl
  simp only [uk,e8,hw]
  simp [a4,aq]
 have he : ∀row:List Int,uk l l.length row=some (.inr row):=by
  intro row
  simp [uk,e8]
 have h1:Jz l 0 (List.replicate (len_ eI l).toNat 0)=some l :=
  KM l (List.replicate (len_ eI l).toNat 0) (by simp [e8]) aU he
 unfold Ab
 rw [h1,if_pos (by rw [e8];omega)]
 simp [e8]
theorem Y3 (l:List bq)(h:l.length≤1048576):zX l=some l:=by
 have aU : ∀(n:Nat) x (row:List bq),l[n]? = some x→row.length=l.length→uh l n row=some (.inl (((n+1:Nat):Int),row.set n x)):=by
  intro n x row U aq
  obtain ⟨a4,rfl⟩:=List.getElem?_eq_some_iff.1 U
  have hw:R ((n:Int)+1)=((n+1:Nat):Int):=by rw [ct (by omega) (by omega)];rfl
  simp only [uh,e8,hw,DV]
  simp [a4,aq]
 have he : ∀row:List bq,uh l l.length row=some (.inr row):=by
  intro row
  simp [uh,e8]
 have h1:IV l 0 (List.replicate (len_ bu l).toNat (⟨ByteArray.empty,0,0,false⟩:bq))=some l :=
  KM l _ (by simp [e8]) aU he
 unfold zX
 rw [h1,if_pos (by rw [e8];omega)]
 simp [e8]
theorem YP (l:List bC)(h:l.length≤1048576):zV l=some l:=by
 have aU : ∀(n:Nat) x (row:List bC),l[n]? = some x→row.length=l.length→ug l n row=some (.inl (((n+1:Nat):Int),row.set n x)):=by
  intro n x row U aq
  obtain ⟨a4,rfl⟩:=List.getElem?_eq_some_iff.1 U
  have hw:R ((n:Int)+1)=((n+1:Nat):Int):=by rw [ct (by omega) (by omega)];rfl
  simp only [ug,e8,hw,DQ]
  simp [a4,aq]
 have he : ∀row:List bC,ug l l.length row=some (.inr row):=by
  intro row
  simp [ug,e8]
 have h1:Ik l 0 (List.replicate (len_ bA l).toNat (⟨0,0,0⟩:bC))=some l :=
  KM l _ (by simp [e8]) aU he
 unfold zV
 rw [h1,if_pos (by rw [e8];omega)]
 simp [e8]
theorem Yf (s:cF)(h1:s.b7.length≤1048576)(o:s.bE.length≤1048576):zQ s=some (s.b7,s.bE):=by
 simp [zQ,Y3 _ h1,YP _ o]
def M3 (P:List (List Int)):bD→Prop
 | none=>True
 | some (k,c)=> ∃x,P[k]? = some x∧x.length=c∧c≤1048576
theorem M3.set {P:List (List Int)}{k:Nat}{x y:List Int}(U:P[k]? = some x)(a1:y.length=x.length){h:bD}(fW:M3 P h):M3 (P.set k y) h:=by
 cases h with
 | none=>trivial
 | some p =>
  obtain ⟨j,c⟩:=p
  obtain ⟨z,h1,o,af⟩:=fW
  by_cases aG:k=j
  ·subst aG
   rw [U] at h1
   obtain rfl:=Option.some.inj h1
   exact ⟨y,by rw [List.getElem?_set,if_pos rfl,if_pos (f9 U)],by omega,af⟩
  ·exact ⟨z,by rw [List.getElem?_set,if_neg aG];exact h1,o,af⟩
theorem Sc (x:Int):(rO [x]).size=1:=rfl
theorem Y4 {k:Int}(h:k≤1000000000000000000): ∃r,Ap k=some r:=by
 unfold Ap
 by_cases c:k≤0
 ·exact ⟨_,by rw [if_pos (by simpa using c)]⟩
 ·rw [if_neg (by simpa using c)]
  obtain ⟨r,r1,bT⟩:=jf (f:=fun w:Int×ByteArray=>xh w.1 w.2) (eQ:=fun w=>0≤w.1∧(w.2.size:Int)+w.1≤1000000000000000000) (m:=fun w=>w.1.toNat)
   (fun r=>(r.size:Int)≤1000000000000000000) (by
     rintro ⟨a,I⟩ ⟨h1,o⟩
     simp only at h1 o
     by_cases bH:0<a
     ·have bL:a.tdiv 10=a / 10:=by rw [Int.tdiv_eq_ediv_of_nonneg h1]
      refine .inl ⟨(a / 10,rO [IntKind.wrap .u8 (R ((48:Int)+(a.tmod (10:Int))))]++I),?_,⟨by simp only;omega,?_⟩,by simp only;omega⟩
      ·unfold xh
       simp only
       rw [if_pos (by simpa using bH),Sc,if_pos (by omega),bL,ct (by omega) (by omega)]
      ·simp only [ByteArray.size_append,Sc]
       omega
     ·exact .inr ⟨I,by simp [xh,bH],by omega⟩) (k,⟨#[]⟩) ⟨by simp only;omega,by
      have:(⟨#[]⟩:ByteArray).size=0:=rfl
      simp only [this];omega⟩
  unfold JL
  rw [r1]
  refine ⟨_,by
   simp only [Option.bind_eq_bind,Option.bind_some]
   rw [if_pos ?_]
   have:(⟨#[109]⟩:ByteArray).size=1:=rfl
   rw [this]
   omega⟩
theorem XL {k:Int}{l:List bq}(h0:0≤k)(h:k+4*l.length≤1000000000000000000):
 ∃dx fB,zT k l=some (dx,fB)∧fB.length=l.length∧0≤dx∧dx≤k+4*l.length:=by
 obtain ⟨r,r1,bT⟩:=jf (f:=fun w:Int×Int×(List bq)=>uf w.1 w.2.1 w.2.2)
  (eQ:=fun w=> ∃n:Nat,w.2.1=n∧n≤l.length∧w.2.2.length=l.length∧0≤w.1∧w.1≤k+4*n)
  (m:=fun w=>l.length-w.2.1.toNat) (fun r=>r.2.length=l.length∧0≤r.1∧r.1≤k+4*l.length) (by
    rintro ⟨a,i,row⟩ ⟨n,e1,aE,bP,c3,dg⟩
    simp only at e1 bP c3 dg
    subst e1
    by_cases a4:n=l.length
    ·subst a4
     refine .inr ⟨(a,row),by simp [uf,bP],bP,c3,dg⟩
    ·have qs:n<row.length:=by omega
     obtain ⟨t,cm⟩:=Y4 (k:=a) (by omega)
     have hw:R ((n:Int)+1)=((n+1:Nat):Int):=by rw [ct (by omega) (by omega)];rfl
     have jS:R (a+1)=a+1:=ct (by omega) (by omega)
     have n8:R (a+1+1)=a+1+1:=ct (by omega) (by omega)
     have qE:R (a+1+1+1)=a+1+1+1:=ct (by omega) (by omega)
     have FM:R (a+1+1+1+1)=a+1+1+1+1:=ct (by omega) (by omega)
     have key : ∃dJ,uf a n row=some (.inl (a+1+1+1+1,((n+1:Nat):Int),dJ))∧dJ.length=row.length:=by
      unfold uf
      rw [if_pos (by simpa using qs),cm,jS,n8,qE,FM,hw]
      simp only [Option.bind_eq_bind,Option.bind_some,Nat.zero_add,Int.toNat_natCast]
      rw [if_pos (by omega),List.getElem?_eq_getElem qs]
      simp only [Option.bind_some,List.getElem?_set_self qs,List.length_set,List.getElem?_set_self (show n<(row.set n _).length by simpa using qs),List.set_set]
      exact ⟨_,rfl,by simp⟩
     obtain ⟨dJ,h1,o⟩:=key
     refine .inl ⟨_,h1,⟨n+1,rfl,by omega,by simp only;omega,by simp only;omega,by simp only;omega⟩,by simp;omega⟩) (k,0,l) ⟨0,rfl,by omega,rfl,h0,by simp⟩
 obtain ⟨dx,fB⟩:=r
 exact ⟨dx,fB,by unfold zT Ii;rw [r1];rfl,bT⟩
theorem Xx {k:Int}{l:List bC}(h0:0≤k)(h:k+3*l.length≤1000000000000000000):
 ∃dx fB,zS k l=some (dx,fB)∧fB.length=l.length∧0≤dx∧dx≤k+3*l.length:=by
 obtain ⟨r,r1,bT⟩:=jf (f:=fun w:Int×Int×(List bC)=>ue w.1 w.2.1 w.2.2)
  (eQ:=fun w=> ∃n:Nat,w.2.1=n∧n≤l.length∧w.2.2.length=l.length∧0≤w.1∧w.1≤k+3*n)
  (m:=fun w=>l.length-w.2.1.toNat) (fun r=>r.2.length=l.length∧0≤r.1∧r.1≤k+3*l.length) (by
    rintro ⟨a,i,row⟩ ⟨n,e1,aE,bP,c3,dg⟩
    simp only at e1 bP c3 dg
    subst e1
    by_cases a4:n=l.length
    ·subst a4
     refine .inr ⟨(a,row),by simp [ue,bP],bP,c3,dg⟩
    ·have qs:n<row.length:=by omega
     have hw:R ((n:Int)+1)=((n+1:Nat):Int):=by rw [ct (by omega) (by omega)];rfl
     have jS:R (a+1)=a+1:=ct (by omega) (by omega)
     have n8:R (a+1+1)=a+1+1:=ct (by omega) (by omega)
     have qE:R (a+1+1+1)=a+1+1+1:=ct (by omega) (by omega)
     have key : ∃dJ,ue a n row=some (.inl (a+1+1+1,((n+1:Nat):Int),dJ))∧dJ.length=row.length:=by
      unfold ue
      rw [if_pos (by simpa using qs),jS,n8,qE,hw]
      simp only [Nat.zero_add,Int.toNat_natCast]
      rw [if_pos (by omega),List.getElem?_eq_getElem qs]
      simp only [Option.bind_eq_bind,Option.bind_some,List.getElem?_set_self qs,List.length_set,List.getElem?_set_self (show n<(row.set n _).length by simpa using qs),List.set_set]
      exact ⟨_,rfl,by simp⟩
     obtain ⟨dJ,h1,o⟩:=key
     refine .inl ⟨_,h1,⟨n+1,rfl,by omega,by simp only;omega,by simp only;omega,by simp only;omega⟩,by simp;omega⟩) (k,0,l) ⟨0,rfl,by omega,rfl,h0,by simp⟩
 obtain ⟨dx,fB⟩:=r
 exact ⟨dx,fB,by unfold zS HI;rw [r1];rfl,bT⟩
theorem WR {k:Int}{l:List bq}{m:List bC}(h0:0≤k)(h:k+4*l.length+3*m.length≤1000000000000000000):
 ∃dx fB bO,xv k l m=some (dx,fB,bO)∧fB.length=l.length∧bO.length=m.length∧0≤dx∧dx≤k+4*l.length+3*m.length:=by
 obtain ⟨lh,fB,e1,aE,bP,c3⟩:=XL (l:=l) h0 (by omega)
 obtain ⟨kx,bO,f1,f2,f3,f4⟩:=Xx (k:=lh) (l:=m) bP (by omega)
 refine ⟨kx,fB,bO,?_,aE,f2,f3,by omega⟩
 unfold xv
 rw [e1]
 simp only [Option.bind_eq_bind,Option.bind_some]
 rw [f1]
 first
  | rfl
  | (rw [if_pos aE.symm];simp only [Option.bind_some];rw [if_pos f2.symm])
def marks (k:Int)(n:Nat):List Int:=(List.range n).map fun i:Nat=>k+(i:Int)
theorem yi (k:Int)(n:Nat):(marks k n).length=n:=by simp [marks]
theorem abc {k:Int}{n i:Nat}(h:i<n):(marks k n)[i]? = some (k+i):=by
 unfold marks
 rw [List.getElem?_map,List.getElem?_range h]
 rfl
theorem aao {k:Int}{l:List Int}{i:Nat}(h:i<l.length):(marks k i++l.drop i).set i (k+i)=marks k (i+1)++l.drop (i+1):=by
 unfold marks
 rw [List.range_succ,List.map_append,List.set_append_right _ _ (by simp)]
 rw [show i-(List.map (fun i:Nat=>k+(i:Int)) (List.range i)).length=0 by simp,List.drop_eq_getElem_cons h,List.set_cons_zero]
 simp
theorem Zo (k:Int):Aq [] k=some k:=by
 have h:DC [] k=some ():=by
  unfold DC
  rw [iter]
  simp [Dk,e8]
 simp [Aq,h]
theorem OY {k:Int}{n:Nat}(h0:0≤k)(h:k+n≤1000000000000000000):uG (marks k n) k=some (k+n):=by
 have:=K2 (f:=fun w:Int×Int=>xi (marks k n) w.1 w.2) (s:=fun i=>(k+(i:Int),(i:Int))) (r:= .inl (k+(n:Int))) n 0 (fun i _ aj=> ?_) ?_
 ·unfold uG JM
  have e:(k+((0:Nat):Int),((0:Nat):Int))=(k,0):=by simp
  rw [e] at this
  rw [this]
  rfl
 ·have jP:i<n:=by omega
  unfold xi
  simp only [e8,yi]
  rw [if_pos (by simpa using jP),if_pos (by omega),Int.toNat_natCast,abc jP,ct (by omega) (by omega),ct (by omega) (by omega)]
  simp [Int.add_assoc]
 ·simp [xi,e8,yi]
theorem Zp {k:Int}(h0:0≤k)(h:k≤1000000000000000000):uG [] k=some k:=by
 have:=OY (k:=k) (n:=0) h0 (by simpa using h)
 simpa [marks] using this
def kY:List bq→Nat→List Nat
 | [],_=>[]
 | x::l,n=>if x.gN then kY l (n+1) else n::kY l (n+1)
theorem K5 : ∀(l:List bq) (n i:Nat),i∈kY l n→n≤i∧i<n+l.length
 | [],n,i,h=>by simp [kY] at h
 | x::l,n,i,h=>by
  rw [kY] at h
  simp only [List.length_cons]
  split at h
  ·have:=K5 l (n+1) i h;omega
  ·rcases List.mem_cons.1 h with h|h
   ·omega
   ·have:=K5 l (n+1) i h;omega
theorem QO : ∀(l:List bq) (n:Nat),(kY l n).length≤l.length
 | [],n=>by simp [kY]
 | x::l,n=>by
  rw [kY]
  have:=QO l (n+1)
  split<;>simp only [List.length_cons]<;>omega
theorem aap {l:List bq}{n:Nat}{x:bq}(h:l[n]? = some x)(m:Nat):kY (l.drop n) m=if x.gN then kY (l.drop (n+1)) (m+1) else m::kY (l.drop (n+1)) (m+1):=by
 rw [QB h,kY]
theorem Qj {f:Int×List Int→Option ((Int×List Int)⊕List Int)}(hd:List bq)(ru:hd.length≤1000)
 (h : ∀(n:Nat) acc x,hd[n]? = some x→f ((n:Int),acc)=if x.gN=true then some (.inl (R ((n:Int)+1),acc)) else if (acc++[(n:Int)]).length*8≤140737488355328 then some (.inl (R ((n:Int)+1),acc++[(n:Int)])) else none)
 (he : ∀acc,f ((hd.length:Int),acc)=some (.inr acc)):iter f ((0:Int),[])=some ((kY hd 0).map (fun n:Nat=>(n:Int))):=by
 obtain ⟨s,h1,o⟩:=ie (fun (n:Nat) (acc:List Int)=>((n:Int),acc)) hd.length (fun n acc=>acc++(kY (hd.drop n) n).map (fun n:Nat=>(n:Int))=(kY hd 0).map (fun n:Nat=>(n:Int))∧acc.length≤n) (fun acc=>acc) (f:=f) (fun n a4 acc cN=>by
  obtain ⟨cN,aV⟩:=cN
  have U:=List.getElem?_eq_getElem a4
  rw [aap U] at cN
  rw [h n acc _ U,nR (by omega)]
  by_cases c:hd[n].gN=true
  ·rw [if_pos c] at cN ⊢
   exact ⟨_,rfl,cN,by omega⟩
  ·rw [if_neg c] at cN ⊢
   rw [if_pos (by simp only [List.length_append,List.length_cons,List.length_nil];omega)]
   refine ⟨_,rfl,?_,by simp only [List.length_append,List.length_cons,List.length_nil];omega⟩
   rw [List.append_assoc]
   exact cN) (fun acc _=>he acc) [] ⟨by rw [List.drop_zero];rfl,by simp⟩
 obtain ⟨o,-⟩:=o
 rw [List.drop_length] at o
 simp only [kY,List.map_nil,List.append_nil] at o
 subst o
 exact h1
theorem KI (s:cF)(ru:s.b7.length≤1000):uI s=some ((kY s.b7 0).map (fun n:Nat=>(n:Int))):=by
 unfold uI JO
 rw [e8,Qj s.b7 ru (fun n acc x U=>by
  have a4:=f9 U
  unfold zJ
  exact dI (by omega) (bJ (by omega) (aS (gt rfl U) rfl))) (fun acc=>by
  unfold zJ
  exact dY (by omega) rfl)]
 rfl
theorem O3 (s:cF)(ru:s.b7.length≤1000):wP s=some ((kY s.b7 0).map (fun n:Nat=>(n:Int))):=by
 unfold wP Gh
 rw [e8,Qj s.b7 ru (fun n acc x U=>by
  have a4:=f9 U
  unfold zy
  exact dI (by omega) (bJ (by omega) (aS (gt rfl U) rfl))) (fun acc=>by
  unfold zy
  exact dY (by omega) rfl)]
 rfl
theorem Kp {k:Int}{l:List Int}(h0:0≤k)(h:k+l.length≤1000000000000000000):uD k l=some (k+l.length,marks k l.length):=by
 have:=K2 (f:=fun w:Int×Int×(List Int)=>w7 w.1 w.2.1 w.2.2) (s:=fun n=>(k+(n:Int),(n:Int),marks k n++l.drop n)) (r:=(k+(l.length:Int),marks k l.length)) l.length 0 (fun i _ aj=> ?_) ?_
 ·unfold uD Ji
  have e:(k+((0:Nat):Int),((0:Nat):Int),marks k 0++l.drop 0)=(k,0,l):=by simp [marks]
  rw [e] at this
  rw [this]
  rfl
 ·have jP:i<l.length:=by omega
  have aV:(marks k i++l.drop i).length=l.length:=by simp [yi];omega
  unfold w7
  simp only [aV]
  rw [if_pos (by simpa using jP),if_pos (by omega),Nat.zero_add,Int.toNat_natCast,if_pos (by omega),aao jP,ct (by omega) (by omega),ct (by omega) (by omega)]
  simp only [Int.natCast_add,Int.add_assoc]
  rfl
 ·simp [w7,yi]
def hlen:bD→Nat
 | none=>0
 | some (_,c)=>c
def fQ (x:Rat):Int×Int:=(x.num,(x.den:Int))
def gn (x:Rat):Prop:=(x.num.natAbs:Int)<B 24∧(x.den:Int)<B 24
def cX (x:Rat):aQ:=mk (fQ x)
instance agn (x:Rat):Decidable (gn x):=by unfold gn;infer_instance
theorem gn.d9 {x:Rat}(h:gn x):Fr (fQ x):=⟨by have:=x.den_pos;simp only [fQ];omega,by simp only [fQ];rw [Int.gcd,Int.natAbs_natCast];exact x.reduced,h.1,h.2⟩
theorem acz {n d:Int}(bL:0<d):low n d=if gn (Rat.divInt n d) then some (fQ (Rat.divInt n d)) else none:=by
 have e1:(Rat.divInt n d).num=n / (Int.gcd n d:Int):=by rw [Rat.num_divInt,Int.sign_eq_one_of_pos bL,Int.one_mul,Int.gcd_comm]
 have aE:((Rat.divInt n d).den:Int)=d / (Int.gcd n d:Int):=by
  rw [Rat.den_divInt,if_neg (by omega),Int.gcd_comm]
  rw [Int.natCast_ediv,Int.natAbs_of_nonneg (by omega)]
 have bP:gn (Rat.divInt n d)↔fits ((n / (Int.gcd n d:Int)).natAbs:Int)∧fits (d / (Int.gcd n d:Int)):=by unfold gn fits;rw [e1,aE]
 unfold low
 by_cases c:gn (Rat.divInt n d)
 ·rw [if_pos c,if_pos (bP.1 c)]
  unfold fQ;rw [e1,aE]
 ·rw [if_neg c,if_neg (fun x=>c (bP.2 x))]
theorem K6 {n d:Int}{x:Rat}(bL:0<d)(e:(d:Rat)*x=n)(h:gn x):low n d=some (fQ x):=by
 have qp:(d:Rat)≠0:=fun c=>by
  have:d=0:=Rat.intCast_inj.1 (by rw [c];rfl)
  omega
 have:x=Rat.divInt n d:=by rw [Rat.divInt_eq_div,← e];grind
 rw [acz bL,← this,if_pos h]
theorem yx (x:Rat):((x.den:Int):Rat)*x=((x.num:Int):Rat):=by
 have h:x=(x.num:Rat) / ((x.den:Int):Rat):=by rw [← Rat.divInt_eq_div,Rat.num_divInt_den]
 have bL:((x.den:Int):Rat)≠0:=fun c=>by
  have:(x.den:Int)=0:=Rat.intCast_inj.1 (by rw [c];rfl)
  have:=x.den_pos
  omega
 conv=>lhs;rhs;rw [h]
 grind
theorem RP {x y:Rat}(U:gn x)(a1:gn y)(h:gn (x*y)):ti (cX x) (cX y)=some (cX (x*y)):=by
 unfold cX
 rw [aa0 U.d9 a1.d9,K6 (x:=x*y) (Int.mul_pos U.d9.pos a1.d9.pos) ?_ h];rfl
 have h1:=yx x
 have o:=yx y
 simp only [fQ,Rat.intCast_mul]
 grind
theorem LA {x y:Rat}(U:gn x)(a1:gn y)(h:gn (x+y)):rB (cX x) (cX y)=some (cX (x+y)):=by
 unfold cX
 rw [abb U.d9 a1.d9,K6 (x:=x+y) (Int.mul_pos U.d9.pos a1.d9.pos) ?_ h];rfl
 have h1:=yx x
 have o:=yx y
 simp only [fQ,Rat.intCast_mul,Rat.intCast_add]
 grind
theorem gn.neg {x:Rat}(h:gn x):gn (-x):=by
 unfold gn at h ⊢
 rw [Rat.neg_num,Rat.neg_den,Int.natAbs_neg];exact h
theorem RQ {x:Rat}(U:gn x):uT (cX x)=some (cX (-x)):=by
 unfold cX
 rw [aba U.d9]
 simp only [fQ,Rat.neg_num,Rat.neg_den]
theorem abW {p:Int×Int}(h:Fr p):tl (mk p)=some true:=by
 have Fz:(L p.1.natAbs).length≤24:=(jk (by omega)).2 h.num
 have Cr:(L p.2).length≤24:=(jk (by have:=h.pos;omega)).2 h.den
 have ak:=h.pos
 obtain ⟨b8,gF,hI⟩:=KH (a:=L p.1.natAbs) (by omega)
 obtain ⟨aT,jo,kJ⟩:=KH (a:=L p.2) (by omega)
 have h1:b8=true:=hI.2 ⟨jz _,by omega⟩
 have o:aT=true:=kJ.2 ⟨jz _,by omega⟩
 subst h1;subst o
 have bL:(L p.2)≠[]:=fun c=>by have:=tA.1 c;omega
 have ahF:=List.length_pos_iff.mpr bL
 have e1:Ai (mk p).fA=some true:=by
  unfold Ai
  show (se (L p.1.natAbs)).bind _=_
  rw [gF]
  simp only [Option.bind_some,if_true,f5]
  show (if decide (p.1<0)=true then some (decide ((0:Int)<(L p.1.natAbs).length)) else some true)=_
  by_cases c:p.1<0
  ·rw [if_pos (by simpa using c)]
   have:L p.1.natAbs≠[]:=fun c=>by have:=tA.1 c;omega
   have:=List.length_pos_iff.mpr this
   rw [decide_eq_true (by omega)]
  ·rw [if_neg (by simpa using c)]
 unfold tl
 rw [e1]
 simp only [Option.bind_eq_bind,Option.bind_some,if_true,f5]
 show (se (L p.2)).bind _=_
 rw [jo]
 simp only [Option.bind_some,if_true]
 rw [show (mk p).hM=L p.2 from rfl,show (mk p).fA.cJ=L p.1.natAbs from rfl]
 rw [if_neg (by simp [bL]),if_neg (by simp;omega),if_neg (by simp;omega)]
 rw [RL (jz _) (jz _) (by omega) (by omega),ew (by omega),ew (by omega),Rl (by omega),h.To]
 simp only [Option.bind_some]
 rw [Bm (by omega)]
 rfl
theorem LL {x:Rat}(U:gn x):tl (cX x)=some true:=abW U.d9
def jZ (x:Rat):Int:=if x=0 then 0 else if x<0 then -1 else 1
theorem qe {x:Rat}(U:gn x):p7 (cX x)=some (jZ x):=by
 unfold p7
 rw [LL U]
 simp only [Option.bind_eq_bind,Option.bind_some,if_true,f5]
 show (if (((L (fQ x).1.natAbs).length:Int) == 0)=true then some 0 else if decide ((fQ x).1<0)=true then some (-1) else some 1)=_
 have e:((L (fQ x).1.natAbs).length:Int)=0↔x.num=0:=by
  rw [L9 (by omega)]
  simp only [fQ];omega
 unfold jZ
 by_cases h0:x=0
 ·rw [if_pos h0,if_pos]
  rw [beq_iff_eq,e,Rat.num_eq_zero];exact h0
 ·rw [if_neg h0,if_neg (by rw [beq_iff_eq,e,Rat.num_eq_zero];exact h0)]
  by_cases h1:x<0
  ·have o : ¬0≤x:=by grind
   have af : ¬0≤x.num:=fun c=>o (Rat.num_nonneg.1 c)
   rw [if_pos h1,if_pos (decide_eq_true (show (fQ x).1<0 by simp only [fQ];omega))]
  ·have o:0≤x:=by grind
   have af:0≤x.num:=Rat.num_nonneg.2 o
   rw [if_neg h1,if_neg (fun c=>by have:=of_decide_eq_true c;simp only [fQ] at this;omega)]
theorem ac4 {x y:Rat}(U:gn x)(a1:gn y):uS (cX x) (cX y)=some (if x<y then -1 else if y<x then 1 else 0):=by
 unfold cX
 rw [aa2 U.d9 a1.d9]
 unfold la
 simp only [fQ,← Rat.lt_iff]
theorem RR {x y:Rat}(U:gn x)(a1:gn y)(h0:y≠0)(h:gn (x / y)):uR (cX x) (cX y)=some (cX (x / y)):=by
 have h1:=U.d9.tG
 have o:=U.d9.sG
 have af:=a1.d9.tG
 have au:=a1.d9.sG
 have aA:=U.d9.pos
 have a0:(0:Int)<(fQ y).1.natAbs:=by
  have:(fQ y).1≠0:=fun c=>h0 (Rat.num_eq_zero.1 c)
  omega
 have bm:=ts (x:=(fQ x).1.natAbs) (y:=(fQ y).2) (by omega) (by have:=a1.d9.pos;omega) U.d9.num a1.d9.den
 have bn:=ts (x:=(fQ x).2) (y:=(fQ y).1.natAbs) (by omega) (by omega) U.d9.den a1.d9.num
 have e1:hY (L (fQ x).1.natAbs) (L (fQ y).2)=some (L (((fQ x).1.natAbs:Int)*(fQ y).2)):=by
  rw [mul_eq (hp _) (hp _) (by omega) (by omega),ew (by omega),ew (by have:=a1.d9.pos;omega)]
 have aE:hY (L (fQ x).2) (L (fQ y).1.natAbs)=some (L ((fQ x).2*((fQ y).1.natAbs:Int))):=by
  rw [mul_eq (hp _) (hp _) (by omega) (by omega),ew (by omega),ew (by omega)]
 unfold uR
 rw [LL U,LL a1]
 simp only [Option.bind_eq_bind,Option.bind_some,if_true]
 show (hY (L (fQ x).1.natAbs) (L (fQ y).2)).bind _=_
 rw [e1]
 simp only [Option.bind_some]
 show (hY (L (fQ x).2) (L (fQ y).1.natAbs)).bind _=_
 rw [aE]
 simp only [Option.bind_some]
 rw [KQ (Int.mul_nonneg (by omega) (by have:=a1.d9.pos;omega)) (Int.mul_pos aA a0) (by omega) (by omega)]
 simp only [Option.bind_some]
 rw [K6 (x:=x / y) (Int.mul_pos aA a0) ?_ h];rfl
 have d1:=yx x
 have d2:=yx y
 have bP:eo (!((cX x).fA.cS == (cX y).fA.cS)) (((fQ x).1.natAbs:Int)*(fQ y).2)=(if y<0 then -1 else 1)*((fQ x).1*(fQ y).2):=by
  show eo (!(decide ((fQ x).1<0) == decide ((fQ y).1<0))) _=_
  have a4:=Rat.num_nonneg (q:=y)
  have hm:0≤((fQ x).1.natAbs:Int)*(fQ y).2:=Int.mul_nonneg (by omega) (by have:=a1.d9.pos;omega)
  have CB:y<0↔(fQ y).1<0:=by
   have af:=Rat.num_nonneg (q:=y)
   simp only [fQ]
   constructor
   ·intro c;have : ¬0≤y:=by grind
    have au : ¬0≤y.num:=fun c=>this (af.1 c)
    omega
   ·intro c;have : ¬0≤y:=fun dX=>by have:=af.2 dX;omega
    grind
  by_cases bs:(fQ x).1<0<;>by_cases cn:(fQ y).1<0
  ·rw [if_pos (CB.2 cn),decide_eq_true bs,decide_eq_true cn]
   simp only [eo,BEq.rfl,Bool.not_true,Bool.false_eq_true,if_false]
   rw [show ((fQ x).1.natAbs:Int) = -(fQ x).1 by omega];grind
  ·rw [if_neg (fun c=>cn (CB.1 c)),decide_eq_true bs,decide_eq_false cn]
   simp only [eo,show (!(true == false))=true from rfl,if_true]
   rw [show ((fQ x).1.natAbs:Int) = -(fQ x).1 by omega];grind
  ·rw [if_pos (CB.2 cn),decide_eq_false bs,decide_eq_true cn]
   simp only [eo,show (!(false == true))=true from rfl,if_true]
   rw [show ((fQ x).1.natAbs:Int)=(fQ x).1 by omega];grind
  ·rw [if_neg (fun c=>cn (CB.1 c)),decide_eq_false bs,decide_eq_false cn]
   simp only [eo,BEq.rfl,Bool.not_true,Bool.false_eq_true,if_false]
   rw [show ((fQ x).1.natAbs:Int)=(fQ x).1 by omega];grind
 rw [bP]
 have c3:(((fQ y).1.natAbs:Int):Rat)=(if y<0 then -1 else 1)*(((fQ y).1:Int):Rat):=by
  have a4:=Rat.num_nonneg (q:=y)
  by_cases c:y<0
  ·have:y.num<0:=by have : ¬0≤y.num:=fun h=>by have:=a4.1 h;grind
                    omega
   rw [if_pos c,show ((fQ y).1.natAbs:Int) = -(fQ y).1 by simp only [fQ];omega,Rat.intCast_neg];grind
  ·have:0≤y.num:=a4.2 (by grind)
   rw [if_neg c,show ((fQ y).1.natAbs:Int)=(fQ y).1 by simp only [fQ];omega];grind
 rw [Rat.intCast_mul,c3,Rat.intCast_mul,Rat.intCast_mul]
 simp only [fQ] at *
 split<;>grind
theorem sr {n:Int}(h:ov n):pd n=some (cX (n:Rat)):=by
 rw [YY h]
 unfold cX fQ
 rw [Rat.num_intCast,Rat.den_intCast];rfl
theorem QP {n d:Int}{x:Rat}(h0:d≠0)(e:(d:Rat)*x=n)(a4:(n.natAbs:Int)<B 24)(bL:(d.natAbs:Int)<B 24):gn x:=by
 have qp:(d:Rat)≠0:=fun c=>h0 (Rat.intCast_inj.1 (by rw [c];rfl))
 have U:x=Rat.divInt n d:=by rw [Rat.divInt_eq_div,← e];grind
 rw [U]
 unfold gn
 rw [Rat.num_divInt,Rat.den_divInt,if_neg h0]
 constructor
 ·have h1:(d.sign*n / (d.gcd n:Int)).natAbs≤(d.sign*n).natAbs:=Int.natAbs_ediv_le_natAbs _ _
  have o:(d.sign*n).natAbs≤n.natAbs:=by
   rw [Int.natAbs_mul]
   have:d.sign.natAbs≤1:=by rw [Int.natAbs_sign];split<;>omega
   exact Nat.le_trans (Nat.mul_le_mul_right _ this) (by omega)
  omega
 ·have:d.natAbs / d.gcd n≤d.natAbs:=Nat.div_le_self _ _
  omega
theorem rI {x:Rat}:jZ x=0↔x=0:=by
 unfold jZ
 split
 ·simp_all
 ·split<;>simp_all
theorem qQ {x:Rat}:0<jZ x↔0<x:=by
 unfold jZ
 split
 ·rename_i h;rw [h];simp
 ·split
  ·rename_i h1 o;constructor
   ·intro h;omega
   ·intro h;grind
  ·rename_i h1 o;constructor
   ·intro h;grind
   ·intro h;omega
theorem abX (n:Nat)(a4:n≤1000)(k:Nat)(a9:k<n)(a b:Nat→Rat)(bH:∀j,j<n→gn (a j))(aU:∀j,j<n→gn (b j))(hm:∀j,j<n→gn (-(a k)*b j))(b6:∀j,j<n→gn (a j-a k*b j)):
 z0 k 0 n 0 n (bc n fun j=>cX (a j)) (bc n fun j=>cX (b j))=some (bc n fun j=>cX (a j-a k*b j)):=by
 unfold z0
 refine bJ (by omega) (aS (x:=cX (a k)) (by rw [Int.toNat_natCast];exact iw a9) (aS (qe (bH k a9)) ?_))
 refine oF (fun h=> ?_) (fun h=> ?_)
 ·have h0:=rI.1 (by simpa using h)
  congr 1
  exact fg fun j _=>by rw [h0];congr 1;grind
 ·refine aS (RQ (bH k a9)) ?_
  obtain ⟨s,e1,aE⟩:=ie (f:=fun w:Int×List aQ=>w3 0 n 0 n ((n:Nat):Int) (bc n fun j=>cX (b j)) (cX (-(a k))).fA.cS (cX (-(a k))).fA.cJ (cX (-(a k))).hM w.1 w.2)
   (fun (i:Nat) (_:Unit)=>((i:Int),bc n fun j=>if j<i then cX (a j-a k*b j) else cX (a j))) n (fun _ _=>True) (fun _=>bc n fun j=>cX (a j-a k*b j))
   (fun i aj _ _=>by
     refine ⟨(),?_,trivial⟩
     unfold w3
     refine dI (by simp only;omega) (bJ (by simp only;omega) (aS (x:=cX (b i)) (by simp only;rw [Int.toNat_natCast];exact iw aj) (aS (qe (aU i aj)) ?_)))
     refine oF (fun h=> ?_) (fun h=> ?_)
     ·refine bJ (by simp only;omega) (aS (x:=cX (a i)) (by simp only;rw [Int.toNat_natCast,iw aj,if_neg (by omega)]) ?_)
      refine aS (RP (bH k a9).neg (aU i aj) (hm i aj)) (aS (LA (bH i aj) (hm i aj) (by have:=b6 i aj;rw [show a i + -(a k)*b i=a i-a k*b i by grind];exact this)) ?_)
      refine bJ (by simp only;rw [c4];omega) ?_
      simp only
      rw [fz (by omega),Int.toNat_natCast,Nat.zero_add,lm]
      congr 3
      exact fg fun j _=>by
       by_cases c:j=i
       ·subst c;rw [if_pos rfl,if_pos (by omega)];congr 1;grind
       ·rw [if_neg c]
        by_cases cn:j<i
        ·rw [if_pos cn,if_pos (by omega)]
        ·rw [if_neg cn,if_neg (by omega)]
     ·have h0:b i=0:=rI.1 (by simpa using h)
      simp only
      rw [fz (by omega)]
      congr 3
      exact fg fun j _=>by
       by_cases c:j=i
       ·subst c;rw [if_neg (by omega),if_pos (by omega),h0];congr 1;grind
       ·by_cases cn:j<i
        ·rw [if_pos cn,if_pos (by omega)]
        ·rw [if_neg cn,if_neg (by omega)])
   (fun _ _=>by
     unfold w3
     refine dY (by simp) ?_
     simp only
     congr 2
     exact fg fun j aG=>if_pos aG) () trivial
  refine aS (x:=bc n fun j=>cX (a j-a k*b j)) ?_ rfl
  unfold I7
  have bP:(bc n fun j=>if j<0 then cX (a j-a k*b j) else cX (a j))=bc n fun j=>cX (a j):=fg fun j _=>if_neg (by omega)
  rw [bP] at e1
  exact e1
theorem abd (n:Nat)(a4:n≤1000)(k:Nat)(a9:k<n)(a b:Nat→Rat)(bH:∀j,j<n→gn (a j))(aU:∀j,j<n→gn (b j))(hm:∀j,j<n→gn (-(a k)*b j))(b6:∀j,j<n→gn (a j-a k*b j)):
 zW k 0 n (bc n fun j=>cX (a j)) (bc n fun j=>cX (b j))=some (bc n fun j=>cX (a j-a k*b j)):=by
 unfold zW
 rw [c4]
 refine bJ (by omega) (aS (x:=cX (a k)) (by rw [Int.toNat_natCast];exact iw a9) (aS (qe (bH k a9)) ?_))
 refine oF (fun h=> ?_) (fun h=> ?_)
 ·have h0:=rI.1 (by simpa using h)
  congr 1
  exact fg fun j _=>by rw [h0];congr 1;grind
 ·refine aS (RQ (bH k a9)) ?_
  obtain ⟨s,e1,aE⟩:=ie (f:=fun w:Int×List aQ=>wU 0 n ((n:Nat):Int) (bc n fun j=>cX (b j)) (cX (-(a k))).fA.cS (cX (-(a k))).fA.cJ (cX (-(a k))).hM w.1 w.2)
   (fun (i:Nat) (_:Unit)=>((i:Int),bc n fun j=>if j<i then cX (a j-a k*b j) else cX (a j))) n (fun _ _=>True) (fun _=>bc n fun j=>cX (a j-a k*b j))
   (fun i aj _ _=>by
     refine ⟨(),?_,trivial⟩
     unfold wU
     refine dI (by simp only;omega) (bJ (by simp only;omega) (aS (x:=cX (b i)) (by simp only;rw [Int.toNat_natCast];exact iw aj) (aS (qe (aU i aj)) ?_)))
     refine oF (fun h=> ?_) (fun h=> ?_)
     ·refine bJ (by simp only;rw [c4];omega) (aS (x:=cX (a i)) (by simp only;rw [Int.toNat_natCast,iw aj,if_neg (by omega)]) ?_)
      refine aS (RP (bH k a9).neg (aU i aj) (hm i aj)) (aS (LA (bH i aj) (hm i aj) (by have:=b6 i aj;rw [show a i + -(a k)*b i=a i-a k*b i by grind];exact this)) ?_)
      refine bJ (by simp only;rw [c4];omega) ?_
      simp only
      rw [fz (by omega),Int.toNat_natCast,Nat.zero_add,lm]
      congr 3
      exact fg fun j _=>by
       by_cases c:j=i
       ·subst c;rw [if_pos rfl,if_pos (by omega)];congr 1;grind
       ·rw [if_neg c]
        by_cases cn:j<i
        ·rw [if_pos cn,if_pos (by omega)]
        ·rw [if_neg cn,if_neg (by omega)]
     ·have h0:b i=0:=rI.1 (by simpa using h)
      simp only
      rw [fz (by omega)]
      congr 3
      exact fg fun j _=>by
       by_cases c:j=i
       ·subst c;rw [if_neg (by omega),if_pos (by omega),h0];congr 1;grind
       ·by_cases cn:j<i
        ·rw [if_pos cn,if_pos (by omega)]
        ·rw [if_neg cn,if_neg (by omega)])
   (fun _ _=>by
     unfold wU
     refine dY (by simp) ?_
     simp only
     congr 2
     exact fg fun j aG=>if_pos aG) () trivial
  refine aS (x:=bc n fun j=>cX (a j-a k*b j)) ?_ rfl
  unfold IC
  have bP:(bc n fun j=>if j<0 then cX (a j-a k*b j) else cX (a j))=bc n fun j=>cX (a j):=fg fun j _=>if_neg (by omega)
  rw [bP] at e1
  exact e1
def mZ (m N:Nat):List bD:=bc m fun i=>some (i,N+1)
def dE (m:Nat)(t:cy):List Int:=bc m fun i=>((t.B i:Nat):Int)
def hr (N:Nat)(t:cy)(i:Nat):List aQ:=bc (N+1) fun j=>cX (t.T i j)
def i6 (m N:Nat)(t:cy):List (List aQ):=bc m (hr N t)
def lr (N:Nat)(c:Nat→Rat):List aQ:=bc (N+1) fun j=>cX (c j)
structure Ma (m N:Nat) (t:cy) (c:Nat→Rat) (r k:Nat):Prop where
 T : ∀i,i<m→ ∀j,j≤N→gn (t.T i j)
 iH : ∀i,i<m→ ∀j,j≤N→gn ((t.cH r k).T i j)
 M : ∀i,i<m→i≠r→ ∀j,j≤N→gn (-(t.T i k)*(t.T r j / t.T r k))
 bh : ∀j,j≤N→gn (c j)
 sI : ∀j,j≤N→gn (c j-c k*(t.T r j / t.T r k))
 hm : ∀j,j≤N→gn (-(c k)*(t.T r j / t.T r k))
theorem abY {m N:Nat}(hm:m≤1000)(fY:N<1000){t:cy}{c:Nat→Rat}{r k:Nat}(aq:r<m)(a9:k≤N)(ak:t.T r k≠0)(h:Ma m N t c r k)(lA:Int):
 z1 r k lA (mZ m N) (dE m t) (lr N c) (i6 m N t)=some (dE m (t.cH r k),lr N (fun j=>c j-c k*(t.T r j / t.T r k)),i6 m N (t.cH r k)):=by
 have rv : ∀j,(t.cH r k).T r j=t.T r j / t.T r k:=fun j=>by simp [cy.cH]
 have zv : ∀i j,i≠r→(t.cH r k).T i j=t.T i j-t.T i k*(t.T r j / t.T r k):=fun i j aj=>by simp [cy.cH,aj]
 unfold z1
 refine bJ (by unfold mZ;rw [c4];omega) (aS (x:=some (r,N+1)) (by rw [Int.toNat_natCast];exact iw aq) (aS (x:=(r,N+1)) rfl (aS (x:=hr N t r) (gi aq) ?_)))
 refine bJ (by simp only;omega) (aS (x:=cX (t.T r k)) (by rw [Int.toNat_natCast];exact iw (by omega)) ?_)
 obtain ⟨s1,e1,-⟩:=ie (f:=fun w:Int×List (List aQ)=>w4 r k (((N+1:Nat):Nat):Int) lA (mZ m N) (dE m t) (lr N c) (cX (t.T r k)).fA.cS (cX (t.T r k)).fA.cJ (cX (t.T r k)).hM w.1 w.2)
  (fun (i:Nat) (_:Unit)=>((i:Int),bc m fun eM=>if eM=r then bc (N+1) (fun j=>if j<i then cX (t.T r j / t.T r k) else cX (t.T r j)) else hr N t eM)) (N+1) (fun _ _=>True)
  (fun _=>bc m fun eM=>if eM=r then hr N (t.cH r k) r else hr N t eM)
  (fun i aj _ _=>by
    refine ⟨(),?_,trivial⟩
    unfold w4
    refine dI (by simp only;omega) (bJ (by unfold mZ;rw [c4];omega) (aS (x:=some (r,N+1)) (by rw [Int.toNat_natCast];exact iw aq) (aS (x:=(r,N+1)) rfl ?_)))
    refine aS (x:=bc (N+1) (fun j=>if j<i then cX (t.T r j / t.T r k) else cX (t.T r j))) (by simp only;rw [gi aq,if_pos rfl]) ?_
    refine bJ (by simp only;omega) (aS (x:=cX (t.T r i)) (by simp only;rw [Int.toNat_natCast,iw aj,if_neg (by omega)]) ?_)
    refine aS (RR (h.T r aq i (by omega)) (h.T r aq k a9) ak (by have:=h.iH r aq i (by omega);rw [rv] at this;exact this)) ?_
    simp only
    rw [fz (by omega),Int.toNat_natCast,Nat.zero_add,lm,lm]
    congr 3
    refine fg fun eM _=> ?_
    by_cases bs:eM=r
    ·rw [if_pos bs,if_pos bs]
     exact fg fun j _=>by
      by_cases cn:j=i
      ·subst cn;rw [if_pos rfl,if_pos (by omega)]
      ·rw [if_neg cn]
       by_cases jF:j<i
       ·rw [if_pos jF,if_pos (by omega)]
       ·rw [if_neg jF,if_neg (by omega)]
    ·rw [if_neg bs,if_neg bs,if_neg bs])
  (fun _ _=>by
    unfold w4
    refine dY (by simp) ?_
    simp only
    congr 2
    refine fg fun eM _=> ?_
    by_cases bs:eM=r
    ·rw [if_pos bs,if_pos bs]
     exact fg fun j aG=>by rw [if_pos aG,rv]
    ·rw [if_neg bs,if_neg bs]) () trivial
 refine aS (x:=bc m fun eM=>if eM=r then hr N (t.cH r k) r else hr N t eM) ?_ ?_
 ·unfold I8
  have bP:(bc m fun eM=>if eM=r then bc (N+1) (fun j=>if j<0 then cX (t.T r j / t.T r k) else cX (t.T r j)) else hr N t eM)=i6 m N t:=fg fun eM _=>by
   by_cases bs:eM=r
   ·rw [if_pos bs,bs];exact fg fun j _=>if_neg (by omega)
   ·rw [if_neg bs]
  rw [bP] at e1
  exact e1
 obtain ⟨s2,aE,-⟩:=ie (f:=fun w:Int×List (List aQ)=>w5 r k ((m:Nat):Int) lA (mZ m N) (dE m t) (lr N c) w.1 w.2)
  (fun (i:Nat) (_:Unit)=>((i:Int),bc m fun eM=>if eM=r∨eM<i then hr N (t.cH r k) eM else hr N t eM)) m (fun _ _=>True)
  (fun _=>i6 m N (t.cH r k))
  (fun i aj _ _=>by
    refine ⟨(),?_,trivial⟩
    unfold w5
    refine dI (by simp only;omega) (oF (fun c6=> ?_) (fun y0=> ?_))
    ·have zr:i≠r:=by intro c;subst c;simp at c6
     refine bJ (by unfold mZ;rw [c4];simp only;omega) (aS (x:=some (i,N+1)) (by simp only;rw [Int.toNat_natCast];exact iw aj) ?_)
     refine bJ (by unfold mZ;rw [c4];omega) (aS (x:=some (r,N+1)) (by rw [Int.toNat_natCast];exact iw aq) ?_)
     refine aS (x:=(i,N+1)) rfl (aS (x:=(r,N+1)) rfl ?_)
     refine aS (x:=hr N t i) (by simp only;rw [gi aj,if_neg (by omega)]) (aS (x:=hr N (t.cH r k) r) (by simp only;rw [gi aq,if_pos (.inl rfl)]) ?_)
     refine bJ (by simp only;omega) ?_
     refine aS (abX (N+1) (by omega) k (by omega) (fun j=>t.T i j) (fun j=>(t.cH r k).T r j) (fun j aG=>h.T i aj j (by omega)) (fun j aG=>h.iH r aq j (by omega)) (fun j aG=>by rw [rv];exact h.M i aj zr j (by omega)) (fun j aG=>by
      have:=h.iH i aj j (by omega);rw [zv i j zr] at this;rw [rv];exact this)) ?_
     simp only
     rw [fz (by omega),lm,lm]
     congr 3
     refine fg fun eM _=> ?_
     by_cases bs:eM=r
     ·rw [if_pos bs,if_pos (.inl bs),bs]
     ·rw [if_neg bs]
      by_cases cn:eM=i
      ·subst cn
       rw [if_pos rfl,if_pos (.inr (by omega))]
       exact fg fun j _=>by rw [zv eM j zr,rv]
      ·rw [if_neg cn]
       by_cases jF:eM<i
       ·rw [if_pos (.inr jF),if_pos (.inr (by omega))]
       ·rw [if_neg (by omega),if_neg (by omega)]
    ·have zr:i=r:=by simp at y0;omega
     simp only
     rw [fz (by omega)]
     congr 3
     refine fg fun eM _=> ?_
     by_cases bs:eM=r∨eM<i
     ·rw [if_pos bs,if_pos (by omega)]
     ·rw [if_neg bs,if_neg (by omega)])
  (fun _ _=>by
    unfold w5
    refine dY (by simp) ?_
    simp only
    congr 2
    exact fg fun eM jP=>if_pos (.inr jP)) () trivial
 refine aS (x:=i6 m N (t.cH r k)) ?_ ?_
 ·unfold I9
  rw [show ((mZ m N).length:Nat)=m from c4 ..]
  have bP:(bc m fun eM=>if eM=r∨eM<0 then hr N (t.cH r k) eM else hr N t eM)=bc m fun eM=>if eM=r then hr N (t.cH r k) r else hr N t eM:=fg fun eM _=>by
   by_cases bs:eM=r
   ·rw [if_pos (.inl bs),if_pos bs,bs]
   ·rw [if_neg (by omega),if_neg bs]
  rw [bP] at aE
  exact aE
 refine aS (x:=hr N (t.cH r k) r) (gi aq) (bJ (by simp only;omega) ?_)
 refine aS (abd (N+1) (by omega) k (by omega) c (fun j=>(t.cH r k).T r j) (fun j aG=>h.bh j (by omega)) (fun j aG=>h.iH r aq j (by omega)) (fun j aG=>by rw [rv];exact h.hm j (by omega)) (fun j aG=>by rw [rv];exact h.sI j (by omega))) ?_
 refine bJ (by unfold lr;rw [c4,c4]) (bJ (by unfold dE;rw [c4];omega) (bJ (by unfold dE;rw [c4,Int.toNat_natCast];omega) ?_))
 congr 1
 rw [Int.toNat_natCast,Nat.zero_add]
 congr 1
 ·unfold dE
  rw [lm]
  exact fg fun i _=>by
   simp only [cy.cH]
   split<;>rfl
 ·congr 1
  ·exact fg fun j _=>by rw [rv]
  ·unfold i6
   rw [lm]
   exact fg fun i _=>by
    split
    ·rename_i bs;rw [bs]
    ·rfl
theorem abZ {m:Nat}(hm:m≤1000)(t:cy)(lA:Int)(rows:List (List aQ))(cost:List aQ)(j:Nat): ∃b,Ah ⟨lA,rows,dE m t,cost⟩ (j:Int)=some b∧(b=true↔ ∃i,i<m∧t.B i=j):=by
 unfold Ah
 obtain ⟨r,e,h⟩:=qM (f:=fun w:Int=>zH j (dE m t) ((m:Nat):Int) w) (fun (i:Nat) (_:Unit)=>(i:Int)) m (fun i _=> ∀k,k<i→t.B k≠j) (fun r=>(r = .inr ()∧ ∃i,i<m∧t.B i=j)∨(r = .inl ()∧ ¬∃i,i<m∧t.B i=j))
  (fun i aj _ cN=>by
    unfold zH
    by_cases c:t.B i=j
    ·right
     refine ⟨_,dI (by omega) (bJ (by unfold dE;rw [c4];omega) (aS (x:=((t.B i:Nat):Int)) (by rw [Int.toNat_natCast];exact gi aj) (gh (by simp [c]) rfl))),.inl ⟨rfl,i,aj,c⟩⟩
    ·left
     refine ⟨(),dI (by omega) (bJ (by unfold dE;rw [c4];omega) (aS (x:=((t.B i:Nat):Int)) (by rw [Int.toNat_natCast];exact gi aj) (iQ (by simp;omega) (by rw [fz (by omega)])))),fun k a9=> ?_⟩
     by_cases e:k=i
     ·rw [e];exact c
     ·exact cN k (by omega))
  (fun _ cN=>⟨_,dY (by omega) rfl,.inr ⟨rfl,fun ⟨i,aj,e⟩=>cN i aj e⟩⟩) () (fun k a9=>by omega)
 have ex:Dy j (dE m t) (len_ eI (dE m t)) 0=some r:=by
  unfold Dy;rw [f5,show (dE m t).length=m from c4 ..];exact e
 rcases h with ⟨rfl,h⟩|⟨rfl,h⟩
 ·exact ⟨true,aS ex rfl,by simp [h]⟩
 ·exact ⟨false,aS ex rfl,by simp [h]⟩
theorem acA {N:Nat}(fY:N<1000)(lA:Int)(rows:List (List aQ))(kb:List Int)(c:Nat→Rat){j:Nat}(aG:j≤N)(bh:gn (c j)):uJ ⟨lA,rows,kb,lr N c⟩ (j:Int) false=some (jZ (c j)):=by
 unfold uJ
 refine bJ (by unfold lr;rw [c4];omega) (aS (x:=cX (c j)) (by rw [Int.toNat_natCast];exact gi (by omega)) (aS (qe bh) ?_))
 refine aS (x:= .inl (jZ (c j))) ?_ rfl
 unfold JS
 rw [iter]
 have:zK lA rows kb (lr N c) (j:Int) false (jZ (c j)) 0=some (.inr (.inl (jZ (c j)))):=by
  unfold zK
  exact oF (fun _=>rfl) (fun _=>rfl)
 simp only
 rw [this];rfl
theorem El {x y z w:Rat}(a1:0<y)(hw:0<w):(x / y≤z / w↔x*w≤z*y)∧(x / y=z / w↔x*w=z*y):=by
 have e1:x*w=(x / y)*(y*w):=by grind
 have aE:z*y=(z / w)*(y*w):=by grind
 have ak:0<y*w:=Rat.mul_pos a1 hw
 constructor
 ·rw [e1,aE]
  constructor
  ·intro h;exact Rat.mul_le_mul_of_nonneg_right h (Rat.le_of_lt ak)
  ·intro h
   apply Classical.byContradiction
   intro c
   have:z / w<x / y:=by grind
   have:=Rat.mul_lt_mul_of_pos_right this ak
   grind
 ·rw [e1,aE]
  constructor
  ·intro h;rw [h]
  ·intro h
   have c6:y*w≠0:=by grind
   grind
def Ey (m N:Nat)(t:cy)(j:Nat)(r:Int):Prop :=
 (r = -1∧ ∀i,i<m→ ¬0<t.T i j)∨ ∃b:Nat,r=b∧b<m∧0<t.T b j∧(∀i,i<m→0<t.T i j→t.T b N*t.T i j≤t.T i N*t.T b j)∧(∀i,i<m→0<t.T i j→t.T b N*t.T i j=t.T i N*t.T b j→t.B b≤t.B i)
theorem ab0 {m N:Nat}(hm:m≤1000)(fY:N<1000)(t:cy)(lA:Int)(cost:List aQ){j:Nat}(aG:j≤N)(iI:∀i,i<m→ ∀j,j≤N→gn (t.T i j))(bd:∀i,i<m→0<t.T i j→gn (t.T i N / t.T i j)):
 ∃r,Aj ⟨lA,i6 m N t,dE m t,cost⟩ (j:Int)=some r∧Ey m N t j r:=by
 unfold Aj
 obtain ⟨r,e,h⟩:=qM (f:=fun w:Int×Int×Bool×(List Int)×(List Int)=>xf lA (i6 m N t) (dE m t) cost j ((m:Nat):Int) w.1 w.2.1 w.2.2.1 w.2.2.2.1 w.2.2.2.2)
  (fun (i:Nat) (s:Int×aQ)=>(s.1,(i:Int),s.2.fA.cS,s.2.fA.cJ,s.2.hM)) m
  (fun n s=>(s.1 = -1∧ ∀i,i<n→ ¬0<t.T i j)∨ ∃b:Nat,s.1=b∧b<n∧0<t.T b j∧s.2=cX (t.T b N / t.T b j)∧ ∀i,i<n→0<t.T i j→t.T b N / t.T b j<t.T i N / t.T i j∨(t.T b N / t.T b j=t.T i N / t.T i j∧t.B b≤t.B i))
  (fun r=>Ey m N t j r)
  (fun n a4 s cN=>by
    left
    unfold xf
    have g1:0≤((n:Nat):Int)∧((n:Nat):Int)<((i6 m N t).length:Nat):=by unfold i6;rw [c4];omega
    have g2:(i6 m N t)[((n:Nat):Int).toNat]? = some (hr N t n):=by rw [Int.toNat_natCast];exact gi a4
    have g3:0≤((j:Nat):Int)∧((j:Nat):Int)<((hr N t n).length:Nat):=by unfold hr;rw [c4];omega
    have g4:(hr N t n)[((j:Nat):Int).toNat]? = some (cX (t.T n j)):=by rw [Int.toNat_natCast];exact gi (by omega)
    have jS:R ((n:Int)+1)=((n+1:Nat):Int):=fz (by omega)
    have wl:R (len_ aR (hr N t n)-1)=(N:Int):=by
     rw [e8,show (hr N t n).length=N+1 from c4 ..,ct (by omega) (by omega)];omega
    by_cases ak:0<t.T n j
    ·have b6 : ¬jZ (t.T n j)≤0:=by have:=qQ.2 ak;omega
     have g5:0≤R (len_ aR (hr N t n)-1)∧R (len_ aR (hr N t n)-1)<((hr N t n).length:Nat):=by rw [wl];unfold hr;rw [c4];omega
     have g6:(hr N t n)[(R (len_ aR (hr N t n)-1)).toNat]? = some (cX (t.T n N)):=by rw [wl,Int.toNat_natCast];exact gi (by omega)
     have g7:uR (cX (t.T n N)) (cX (t.T n j))=some (cX (t.T n N / t.T n j)):=RR (iI n a4 N (by omega)) (iI n a4 j aG) (by grind) (bd n a4 ak)
     rcases cN with ⟨h1,o⟩|⟨b,h1,aU,jQ,o,af⟩
     ·refine ⟨((n:Int),cX (t.T n N / t.T n j)),dI (by simp only;omega) (bJ g1 (aS g2 (bJ g3 (aS g4 (aS (qe (iI n a4 j aG)) (dY b6 (bJ g5 (aS g6 (aS g7 (dI (by simp only;omega) ?_)))))))))),.inr ⟨n,rfl,by omega,ak,rfl,fun i aj iE=> ?_⟩⟩
      ·simp only;rw [jS]
      ·by_cases c:i=n
       ·subst c;exact .inr ⟨rfl,Nat.le_refl _⟩
       ·exact (o i (by omega) iE).elim
     ·have g8:uS (cX (t.T n N / t.T n j)) (⟨(⟨s.2.fA.cS,s.2.fA.cJ⟩:bt),s.2.hM⟩:aQ)=some (if t.T n N / t.T n j<t.T b N / t.T b j then -1 else if t.T b N / t.T b j<t.T n N / t.T n j then 1 else 0):=by
       have:(⟨(⟨s.2.fA.cS,s.2.fA.cJ⟩:bt),s.2.hM⟩:aQ)=cX (t.T b N / t.T b j):=o
       rw [this]
       exact ac4 (bd n a4 ak) (bd b (by omega) jQ)
      by_cases bs:t.T n N / t.T n j<t.T b N / t.T b j
      ·rw [if_pos bs] at g8
       refine ⟨((n:Int),cX (t.T n N / t.T n j)),dI (by simp only;omega) (bJ g1 (aS g2 (bJ g3 (aS g4 (aS (qe (iI n a4 j aG)) (dY b6 (bJ g5 (aS g6 (aS g7 (dY (by simp only;omega) (aS g8 (dI (by omega) ?_)))))))))))),.inr ⟨n,rfl,by omega,ak,rfl,fun i aj iE=> ?_⟩⟩
       ·simp only;rw [jS]
       ·by_cases c:i=n
        ·subst c;exact .inr ⟨rfl,Nat.le_refl _⟩
        ·rcases af i (by omega) iE with h|⟨h,-⟩
         ·left;grind
         ·left;rw [← h];exact bs
      ·rw [if_neg bs] at g8
       by_cases cn:t.T b N / t.T b j<t.T n N / t.T n j
       ·rw [if_pos cn] at g8
        refine ⟨s,dI (by simp only;omega) (bJ g1 (aS g2 (bJ g3 (aS g4 (aS (qe (iI n a4 j aG)) (dY b6 (bJ g5 (aS g6 (aS g7 (dY (by simp only;omega) (aS g8 (dY (by omega) (iQ (by decide) ?_))))))))))))),.inr ⟨b,h1,by omega,jQ,o,fun i aj iE=> ?_⟩⟩
        ·simp only;rw [jS]
        ·by_cases c:i=n
         ·subst c;exact .inl cn
         ·exact af i (by omega) iE
       ·rw [if_neg cn] at g8
        have M4:t.T b N / t.T b j=t.T n N / t.T n j:=by grind
        have FC:0≤((n:Nat):Int)∧((n:Nat):Int)<((dE m t).length:Nat):=by unfold dE;rw [c4];omega
        have FD:(dE m t)[((n:Nat):Int).toNat]? = some ((t.B n:Nat):Int):=by rw [Int.toNat_natCast];exact gi a4
        have Ts:0≤s.1∧s.1<((dE m t).length:Nat):=by unfold dE;rw [c4];omega
        have Tt:(dE m t)[s.1.toNat]? = some ((t.B b:Nat):Int):=by rw [h1,Int.toNat_natCast];exact gi (by omega)
        by_cases jF:t.B n<t.B b
        ·refine ⟨((n:Int),cX (t.T n N / t.T n j)),dI (by simp only;omega) (bJ g1 (aS g2 (bJ g3 (aS g4 (aS (qe (iI n a4 j aG)) (dY b6 (bJ g5 (aS g6 (aS g7 (dY (by simp only;omega) (aS g8 (dY (by omega) (gh rfl (bJ FC (aS FD (bJ Ts (aS Tt (dI (by omega) ?_)))))))))))))))))),.inr ⟨n,rfl,by omega,ak,rfl,fun i aj iE=> ?_⟩⟩
         ·simp only;rw [jS]
         ·by_cases c:i=n
          ·subst c;exact .inr ⟨rfl,Nat.le_refl _⟩
          ·rcases af i (by omega) iE with h|⟨h,cK⟩
           ·left;grind
           ·right;exact ⟨by grind,by omega⟩
        ·refine ⟨s,dI (by simp only;omega) (bJ g1 (aS g2 (bJ g3 (aS g4 (aS (qe (iI n a4 j aG)) (dY b6 (bJ g5 (aS g6 (aS g7 (dY (by simp only;omega) (aS g8 (dY (by omega) (gh rfl (bJ FC (aS FD (bJ Ts (aS Tt (dY (by omega) ?_)))))))))))))))))),.inr ⟨b,h1,by omega,jQ,o,fun i aj iE=> ?_⟩⟩
         ·simp only;rw [jS]
         ·by_cases c:i=n
          ·subst c;exact .inr ⟨M4,by omega⟩
          ·exact af i (by omega) iE
    ·have b6:jZ (t.T n j)≤0:=by
      have : ¬0<jZ (t.T n j):=fun c=>ak (qQ.1 c)
      omega
     refine ⟨s,dI (by simp only;omega) (bJ g1 (aS g2 (bJ g3 (aS g4 (aS (qe (iI n a4 j aG)) (dI b6 ?_)))))),?_⟩
     ·simp only;rw [jS]
     ·rcases cN with ⟨h1,o⟩|⟨b,h1,aU,jQ,o,af⟩
      ·exact .inl ⟨h1,fun i aj=>if c:i=n then c▸ak else o i (by omega)⟩
      ·exact .inr ⟨b,h1,by omega,jQ,o,fun i aj iE=>if c:i=n then (ak (c▸iE)).elim else af i (by omega) iE⟩)
  (fun s cN=>by
    refine ⟨s.1,by unfold xf;exact dY (by simp only;omega) rfl,?_⟩
    rcases cN with ⟨h1,o⟩|⟨b,h1,aU,jQ,o,af⟩
    ·exact .inl ⟨h1,o⟩
    ·refine .inr ⟨b,h1,aU,jQ,fun i aj iE=> ?_,fun i aj iE he=> ?_⟩
     ·rw [← (El jQ iE).1]
      rcases af i aj iE with h|⟨h,-⟩
      ·exact Rat.le_of_lt h
      ·rw [h];exact Rat.le_refl
     ·rw [← (El jQ iE).2] at he
      rcases af i aj iE with h|⟨-,h⟩
      ·rw [he] at h;grind
      ·exact h) ((-1:Int),(⟨⟨false,[]⟩,[]⟩:aQ)) (.inl ⟨rfl,fun i aj=>by omega⟩)
 refine ⟨r,aS ?_ rfl,h⟩
 unfold JE
 rw [e8,show (i6 m N t).length=m from c4 ..]
 exact e
theorem Bn {m N:Nat}(t:cy):(mZ m N).all (rh (i6 m N t))=true:=by
 rw [List.all_eq_true]
 intro x U
 obtain ⟨i,aj,rfl⟩:=Lf.1 U
 simp only [rh]
 have h1:(i6 m N t).length=m:=c4 ..
 have o:(i6 m N t).getD i []=hr N t i:=by
  rw [List.getD_eq_getElem?_getD,show (i6 m N t)[i]? = some (hr N t i) from gi aj];rfl
 rw [h1,o,show (hr N t i).length=N+1 from c4 ..]
 simp [aj]
theorem vj {m N:Nat}(t:cy):(mZ m N).map (iM (i6 m N t))=i6 m N t:=by
 unfold mZ
 rw [Rd]
 exact fg fun i aj=>by
  have o:(i6 m N t).getD i []=hr N t i:=by
   rw [List.getD_eq_getElem?_getD,show (i6 m N t)[i]? = some (hr N t i) from gi aj];rfl
  simp only [iM]
  rw [o]
  exact List.take_of_length_le (Nat.le_of_eq (c4 ..))
theorem ab1 {m N:Nat}(hm:m≤1000)(fY:N<1000)(t:cy)(c:Nat→Rat)(deep:Bool)(G:Nat→Prop)(afP:∀j,G j→ ∀i,i<m→t.B i≠j)
 (b6 : ∀j,j<N→ ∃g,uJ ⟨N,i6 m N t,dE m t,lr N c⟩ (j:Int) deep=some g∧((∀i,i<m→t.B i≠j)→(0<g↔G j))) :
 ∃r,Dz deep N (mZ m N) (dE m t) (lr N c) (i6 m N t) (-1) 0=some r∧((r = -1∧ ∀j,j<N→ ¬G j)∨ ∃s:Nat,r=s∧s<N∧G s∧ ∀j,j<s→ ¬G j):=by
 unfold Dz
 refine qM (f:=fun w:Int×Int=>um deep N (mZ m N) (dE m t) (lr N c) (i6 m N t) w.1 w.2) (fun (i:Nat) (e:Int)=>(e,(i:Int))) N
  (fun n e=>(e = -1∧ ∀j,j<n→ ¬G j)∨ ∃s:Nat,e=s∧s<N∧G s∧ ∀j,j<s→ ¬G j) _ (fun n a4 e cN=> ?_) (fun e cN=> ?_) (-1) (.inl ⟨rfl,fun j aG=>by omega⟩)
 ·rcases cN with ⟨rfl,h⟩|⟨s,rfl,vU,sK,afl⟩
  ·left
   obtain ⟨b,e1,aE⟩:=abZ hm t (N:Int) (i6 m N t) (lr N c) n
   obtain ⟨g,g1,g2⟩:=b6 n a4
   unfold um
   cases b with
   | true =>
    obtain ⟨i,aj,Fc⟩:=aE.1 rfl
    refine ⟨-1,dI (by simp only;omega) (dI (by simp) (bJ (Bn t) (aS (by rw [vj];exact e1) (gh rfl ?_)))),.inl ⟨rfl,fun j aG dB=> ?_⟩⟩
    ·simp only;rw [fz (by omega)]
    ·by_cases c:j=n
     ·subst c;exact afP j dB i aj Fc
     ·exact h j (by omega) dB
   | false =>
    have Tu : ∀i,i<m→t.B i≠n:=fun i aj e=>by have:=aE.2 ⟨i,aj,e⟩;simp at this
    by_cases dB:G n
    ·refine ⟨(n:Int),dI (by simp only;omega) (dI (by simp) (bJ (Bn t) (aS (by rw [vj];exact e1) (iQ rfl (aS (by rw [vj];exact g1) (dI ((g2 Tu).2 dB) ?_)))))),.inr ⟨n,rfl,a4,dB,h⟩⟩
     simp only;rw [fz (by omega)]
    ·refine ⟨-1,dI (by simp only;omega) (dI (by simp) (bJ (Bn t) (aS (by rw [vj];exact e1) (iQ rfl (aS (by rw [vj];exact g1) (dY (fun x=>dB ((g2 Tu).1 x)) ?_)))))),.inl ⟨rfl,fun j aG=>if c:j=n then c▸dB else h j (by omega)⟩⟩
     simp only;rw [fz (by omega)]
  ·right
   exact ⟨(s:Int),by unfold um;exact dI (by simp only;omega) (dY (by simp only;omega) rfl),.inr ⟨s,rfl,vU,sK,afl⟩⟩
 ·exact ⟨e,by unfold um;exact dY (by simp only;omega) rfl,cN⟩
theorem cy.ZO {gv m N K:Nat}{A obj:Nat→Nat→Rat}{t:cy}(h:gf gv m N A t){j:Nat}(g:t.rq m K obj j): ∀i,i<m→t.B i≠j :=
 fun i aj e=>hL.not_zero g fun l _=>by rw [← e];exact h.yb (obj l) aj
theorem ac5 {gv m N K:Nat}(hm:m≤1000)(fY:N<1000){A obj:Nat→Nat→Rat}(deep:Bool)(Inv:cy→Prop)
 (inv : ∀t,Inv t→gf gv m N A t∧t.lq m N) (gY : ∀t r s,Inv t→pj m N K obj (fun _=>True) t r s→Inv (t.cH r s))
 (b6 : ∀t,Inv t→ ∀j,j<N→ ∃g,uJ ⟨N,i6 m N t,dE m t,lr N (t.c5 m (obj 0))⟩ (j:Int) deep=some g∧((∀i,i<m→t.B i≠j)→(0<g↔t.rq m K obj j)))
 (iI : ∀t,Inv t→ ∀i,i<m→ ∀j,j≤N→gn (t.T i j)) (bd : ∀t,Inv t→ ∀i,i<m→ ∀j,j≤N→0<t.T i j→gn (t.T i N / t.T i j))
 (ak : ∀t,Inv t→ ∀r k,r<m→k<N→t.T r k≠0→Ma m N t (t.c5 m (obj 0)) r k) (t:cy) (cm:Inv t) :
 ∃b dm,xZ deep N (mZ m N) (dE m t) (lr N (t.c5 m (obj 0))) (i6 m N t)=some (b,dE m dm,lr N (dm.c5 m (obj 0)),i6 m N dm)∧Inv dm ∧
  ((b=true∧ ∀j,j<N→ ¬dm.rq m K obj j)∨(b=false∧ ∃s,s<N∧dm.rq m K obj s∧ ∀i,i<m→ ¬0<dm.T i s)):=by
 obtain ⟨x,dK,dm,e,⟨SU,cN⟩,-,-,ey⟩:=PL (gv:=gv) (m:=m) (N:=N) (K:=K) (A:=A) (obj:=obj) (cc:=fun _=>True)
  (f:=fun w:(List Int)×(List aQ)×(List (List aQ))=>zI deep N (mZ m N) w.1 w.2.1 w.2.2)
  (fun a t=>a=(dE m t,lr N (t.c5 m (obj 0)),i6 m N t)∧Inv t)
  (fun a x t=> ∃b,x=(b,dE m t,lr N (t.c5 m (obj 0)),i6 m N t)∧((b=true∧ ∀j,j<N→ ¬t.rq m K obj j)∨(b=false∧ ∃s,s<N∧t.rq m K obj s∧ ∀i,i<m→ ¬0<t.T i s)))
  (fun a t c1 ok mu=>by
    obtain ⟨rfl,cN⟩:=c1
    obtain ⟨r,e1,aE⟩:=ab1 hm fY t (t.c5 m (obj 0)) deep (t.rq m K obj) (fun j dB=>cy.ZO ok dB) (b6 t cN)
    simp only
    unfold zI
    rcases aE with ⟨rfl,h⟩|⟨s,rfl,FE,dB,aV⟩
    ·left
     exact ⟨_,aS e1 (dI (by decide) rfl),true,rfl,.inl ⟨rfl,h⟩⟩
    ·obtain ⟨q,q1,a6⟩:=ab0 hm fY t (N:Int) (lr N (t.c5 m (obj 0))) (j:=s) (by omega) (iI t cN) (fun i aj iE=>bd t cN i aj s (by omega) iE)
     rcases a6 with ⟨rfl,h⟩|⟨b,rfl,aU,jQ,h1,o⟩
     ·left
      exact ⟨_,aS e1 (dY (by omega) (bJ (Bn t) (aS (by rw [vj];exact q1) (dI (by decide) rfl)))),false,rfl,.inr ⟨rfl,s,FE,dB,h⟩⟩
     ·right
      have dH:pj m N K obj (fun _=>True) t b s:=⟨FE,trivial,dB,fun j aG _=>aV j aG,aU,jQ,h1,o⟩
      refine ⟨_,b,s,aS e1 (dY (by omega) (bJ (Bn t) (aS (by rw [vj];exact q1) (dY (by omega) (aS (abY hm fY aU (by omega) (by grind) (ak t cN b s aU FE (by grind)) N) rfl))))),dH,?_,gY t b s cN dH⟩
      refine Prod.ext rfl (Prod.ext ?_ rfl)
      exact fg fun j _=>by rw [ok.K3 (obj 0) aU FE (by grind)])
  (a:=(dE m t,lr N (t.c5 m (obj 0)),i6 m N t)) (t:=t) ⟨rfl,cm⟩ (inv t cm).1 (inv t cm).2
 obtain ⟨b,rfl,aU⟩:=ey
 refine ⟨b,dm,?_,cN,aU⟩
 unfold xZ
 exact aS (x:=(b,dE m dm,lr N (dm.c5 m (obj 0)),i6 m N dm)) (by unfold JF;exact e) rfl
structure mr (p:hK) (m n:Nat) (a:Nat→Nat→Int) (b:Nat→Int):Prop where
 rows:p.fy=m
 gB:p.ed=n
 gD:p.dp.length=m*n
 Mb : ∀i,i<m→ ∀j,j<n→p.dp[i*n+j]? = some (a i j)
 wo:p.dN.length=m
 yV : ∀i,i<m→p.dN[i]? = some (b i)
 hm:m≤20
 a4:n≤40
 s6 : ∀i,i<m→ ∀j,j<n→ -100≤a i j∧a i j≤100
 wm : ∀i,i<m→ -100≤b i∧b i≤100
theorem sC {p:hK}{m n:Nat}{a:Nat→Nat→Int}{b:Nat→Int}(h:mr p m n a b){i:Nat}(aj:i<m)(j:Nat): -100≤kz m n a b i j∧kz m n a b i j≤100:=by
 have aU:=h.wm i aj
 unfold kz kq
 by_cases c:j<n
 ·have bH:=h.s6 i aj j c
  rw [if_pos c];split<;>omega
 ·rw [if_neg c]
  split
  ·split<;>omega
  ·split<;>omega
theorem LM {p:hK}{m n:Nat}{a:Nat→Nat→Int}{b:Nat→Int}(h:mr p m n a b){i:Nat}(aj:i<m)(j:Nat):eC 100 (dS m n a b i j) :=
 ⟨kz m n a b i j,rfl,by have:=sC h aj j;omega⟩
theorem acB:(1000000000000000000:Int)<B 24:=by decide
theorem KR {K:Nat}{x:Rat}(h:eC K x)(a9:K≤1000000000000000000):gn x:=by
 obtain ⟨z,rfl,cD⟩:=h
 have:=acB
 exact QP (n:=z) (d:=1) (by decide) (by rw [show ((1:Int):Rat)=1 from rfl];grind) (by omega) (by omega)
theorem LB {p:hK}{m n:Nat}{a:Nat→Nat→Int}{b:Nat→Int}(h:mr p m n a b){i:Nat}(aj:i<m):uQ p i=some (bc n (a i)):=by
 have hm:=h.hm
 have a4:=h.a4
 have h1:i*n≤20*40:=Nat.mul_le_mul (by omega) a4
 have o:(i+1)*n≤20*40:=Nat.mul_le_mul (by omega) a4
 have af:(i+1)*n≤m*n:=Nat.mul_le_mul_right _ aj
 have e1:R ((i:Int)*p.ed)=((i*n:Nat):Int):=by
  rw [h.gB,← Int.natCast_mul,ct (by omega) (by omega)]
 have aE:R (R ((i:Int)+1)*p.ed)=(((i+1)*n:Nat):Int):=by
  rw [h.gB,fz (by omega),← Int.natCast_mul,ct (by omega) (by omega)]
 have au:(i+1)*n=i*n+n:=Nat.succ_mul i n
 unfold uQ
 rw [e1,aE,Int.toNat_natCast,Int.toNat_natCast,h.gD]
 refine bJ (by omega) (bJ (by omega) (bJ (by omega) ?_))
 congr 1
 apply List.ext_getElem?
 intro j
 rw [List.getElem?_take,List.getElem?_drop]
 by_cases c:j<n
 ·rw [if_pos (by omega),h.Mb i aj j c,gi c]
 ·rw [if_neg (by omega)]
  symm
  rw [List.getElem?_eq_none_iff,c4];omega
def hn (m n:Nat)(a:Nat→Nat→Int)(b:Nat→Int)(i j:Nat):Rat:=if j<n∨j=n+m then cM i (fun k=>dS m n a b k j) else 0
theorem Sd {p:hK}{m n:Nat}{a:Nat→Nat→Int}{b:Nat→Int}(h:mr p m n a b){i:Nat}(aj:i≤m)(j:Nat):eC 2000 (hn m n a b i j):=by
 have hm:=h.hm
 unfold hn
 split
 ·exact (eC.sum fun k a9=>LM h (by omega) j).mono (by omega)
 ·exact ⟨0,rfl,by omega⟩
theorem Y5 {p:hK}{m n:Nat}{a:Nat→Nat→Int}{b:Nat→Int}(h:mr p m n a b){i:Nat}(aj:i<m)(aU:b i<0)(x0:Int)(a6:List bD)(bY:List (List aQ))(cz:List Int)(dj:List aQ):
 (Ds (i:Int) (bc n (a i)) (len_ eI (bc n (a i))) p.fy p.ed p.dp p.dN p.hU x0 a6 bY cz dj 0 ([]:List aQ) >>= fun c2=>Dt (i:Int) p.fy p.ed p.dp p.dN p.hU x0 a6 bY cz dj 0 c2)=some (bc (n+m) fun j=>cX (dS m n a b i j)):=by
 have hm:=h.hm
 have a4:=h.a4
 have b6:kq (b i) = -1:=by unfold kq;rw [if_pos aU]
 obtain ⟨s1,e1,-⟩:=ie (f:=fun w:Int×List aQ=>w0 (i:Int) (bc n (a i)) ((n:Nat):Int) p.fy p.ed p.dp p.dN p.hU x0 a6 bY cz dj w.1 w.2)
  (fun (k:Nat) (_:Unit)=>((k:Int),bc k fun j=>cX (dS m n a b i j))) n (fun _ _=>True) (fun _=>bc n fun j=>cX (dS m n a b i j))
  (fun k a9 _ _=>by
    refine ⟨(),?_,trivial⟩
    have bH:=h.s6 i aj k a9
    unfold w0
    have e:R ((-1:Int)*a i k)=kz m n a b i k:=by
     rw [ct (by omega) (by omega)];unfold kz;rw [if_pos a9,b6]
    refine dI (by simp only;omega) (bJ (by rw [c4];simp only;omega) (aS (x:=a i k) (by simp only;rw [Int.toNat_natCast];exact gi a9) (aS (x:=cX (dS m n a b i k)) ?_ (bJ (by simp only [List.length_append,c4,List.length_cons,List.length_nil];omega) ?_))))
    ·rw [e];exact sr (by have:=sC h aj k;rw [my];omega)
    ·simp only;rw [fz (by omega),ll])
  (fun _ _=>by unfold w0;exact dY (by simp) rfl) () trivial
 refine aS (x:=bc n fun j=>cX (dS m n a b i j)) (by unfold Ds;rw [f5,c4];exact e1) ?_
 obtain ⟨s2,aE,-⟩:=ie (f:=fun w:Int×List aQ=>w1 (i:Int) p.fy p.ed p.dp p.dN p.hU x0 a6 bY cz dj w.1 w.2)
  (fun (k:Nat) (_:Unit)=>((k:Int),bc (n+k) fun j=>cX (dS m n a b i j))) m (fun _ _=>True) (fun _=>bc (n+m) fun j=>cX (dS m n a b i j))
  (fun k a9 _ _=>by
    refine ⟨(),?_,trivial⟩
    unfold w1
    have C0:kz m n a b i (n+k)=if k=i then 1 else 0:=by
     unfold kz
     rw [if_neg (by omega),if_neg (by omega)]
     by_cases c:k=i
     ·rw [if_pos c,if_pos (by omega)]
     ·rw [if_neg c,if_neg (by omega)]
    refine dI (by simp only;rw [h.rows];omega) (oF (fun c=> ?_) (fun c=> ?_))
    ·have vY:k=i:=by simp at c;omega
     refine aS (x:=cX (dS m n a b i (n+k))) (by unfold dS;rw [C0,if_pos vY];exact sr (by rw [my];omega)) (bJ (by simp only [List.length_append,c4,List.length_cons,List.length_nil];omega) ?_)
     simp only;rw [fz (by omega),← Nat.add_assoc,ll]
    ·have vY:k≠i:=by simp at c;omega
     refine aS (x:=cX (dS m n a b i (n+k))) (by unfold dS;rw [C0,if_neg vY];exact sr (by rw [my];omega)) (bJ (by simp only [List.length_append,c4,List.length_cons,List.length_nil];omega) ?_)
     simp only;rw [fz (by omega),← Nat.add_assoc,ll])
  (fun _ _=>by unfold w1;exact dY (by simp only;rw [h.rows];omega) rfl) () trivial
 unfold Dt
 exact aE
theorem Y6 {p:hK}{m n:Nat}{a:Nat→Nat→Int}{b:Nat→Int}(h:mr p m n a b){i:Nat}(aj:i<m)(aU:¬b i<0)(x0:Int)(a6:List bD)(bY:List (List aQ))(cz:List Int)(dj:List aQ):
 (Dm (i:Int) (bc n (a i)) (len_ eI (bc n (a i))) p.fy p.ed p.dp p.dN p.hU x0 a6 bY cz dj 0 ([]:List aQ) >>= fun c2=>Dn (i:Int) p.fy p.ed p.dp p.dN p.hU x0 a6 bY cz dj 0 c2)=some (bc (n+m) fun j=>cX (dS m n a b i j)):=by
 have hm:=h.hm
 have a4:=h.a4
 have b6:kq (b i)=1:=by unfold kq;rw [if_neg aU]
 obtain ⟨s1,e1,-⟩:=ie (f:=fun w:Int×List aQ=>wR (i:Int) (bc n (a i)) ((n:Nat):Int) p.fy p.ed p.dp p.dN p.hU x0 a6 bY cz dj w.1 w.2)
  (fun (k:Nat) (_:Unit)=>((k:Int),bc k fun j=>cX (dS m n a b i j))) n (fun _ _=>True) (fun _=>bc n fun j=>cX (dS m n a b i j))
  (fun k a9 _ _=>by
    refine ⟨(),?_,trivial⟩
    have bH:=h.s6 i aj k a9
    unfold wR
    have e:R ((1:Int)*a i k)=kz m n a b i k:=by
     rw [ct (by omega) (by omega)];unfold kz;rw [if_pos a9,b6]
    refine dI (by simp only;omega) (bJ (by rw [c4];simp only;omega) (aS (x:=a i k) (by simp only;rw [Int.toNat_natCast];exact gi a9) (aS (x:=cX (dS m n a b i k)) ?_ (bJ (by simp only [List.length_append,c4,List.length_cons,List.length_nil];omega) ?_))))
    ·rw [e];exact sr (by have:=sC h aj k;rw [my];omega)
    ·simp only;rw [fz (by omega),ll])
  (fun _ _=>by unfold wR;exact dY (by simp) rfl) () trivial
 refine aS (x:=bc n fun j=>cX (dS m n a b i j)) (by unfold Dm;rw [f5,c4];exact e1) ?_
 obtain ⟨s2,aE,-⟩:=ie (f:=fun w:Int×List aQ=>wS (i:Int) p.fy p.ed p.dp p.dN p.hU x0 a6 bY cz dj w.1 w.2)
  (fun (k:Nat) (_:Unit)=>((k:Int),bc (n+k) fun j=>cX (dS m n a b i j))) m (fun _ _=>True) (fun _=>bc (n+m) fun j=>cX (dS m n a b i j))
  (fun k a9 _ _=>by
    refine ⟨(),?_,trivial⟩
    unfold wS
    have C0:kz m n a b i (n+k)=if k=i then 1 else 0:=by
     unfold kz
     rw [if_neg (by omega),if_neg (by omega)]
     by_cases c:k=i
     ·rw [if_pos c,if_pos (by omega)]
     ·rw [if_neg c,if_neg (by omega)]
    refine dI (by simp only;rw [h.rows];omega) (oF (fun c=> ?_) (fun c=> ?_))
    ·have vY:k=i:=by simp at c;omega
     refine aS (x:=cX (dS m n a b i (n+k))) (by unfold dS;rw [C0,if_pos vY];exact sr (by rw [my];omega)) (bJ (by simp only [List.length_append,c4,List.length_cons,List.length_nil];omega) ?_)
     simp only;rw [fz (by omega),← Nat.add_assoc,ll]
    ·have vY:k≠i:=by simp at c;omega
     refine aS (x:=cX (dS m n a b i (n+k))) (by unfold dS;rw [C0,if_neg vY];exact sr (by rw [my];omega)) (bJ (by simp only [List.length_append,c4,List.length_cons,List.length_nil];omega) ?_)
     simp only;rw [fz (by omega),← Nat.add_assoc,ll])
  (fun _ _=>by unfold wS;exact dY (by simp only;rw [h.rows];omega) rfl) () trivial
 unfold Dn
 exact aE
end Go.Proofs.YtmeimpeaagmneaaGreat
