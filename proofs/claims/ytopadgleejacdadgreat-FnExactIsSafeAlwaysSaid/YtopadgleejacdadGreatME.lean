/- Lemmas, plain functions of the program, and what they answer. No condition. -/
import Derived.Test.YtopadgleejacdadGreatMD
namespace Go.Proofs.YtopadgleejacdadGreat
set_option linter.unusedVariables false
set_option linter.unusedSimpArgs false
open Go Go.VL
theorem px {n:Nat}(h:n<=10000000):R ((n:Int)+1)=((n+1:Nat):Int):=by rw[cT (by omega) (by omega)];rfl
theorem s7 {n:Nat}(h:n<=10000000):R ((n:Int)-1)=(n:Int)-1:=cT (by omega) (by omega)
theorem N1 {n:Nat}(h:n<=10000000):R (((n+1:Nat):Int)-1)=n:=by rw[cT (by omega) (by omega)];omega
theorem gy (l:ar):len_ eI l=l.length:=fc _ l
theorem afR {l:ar}{k:Nat}{x:Int}(U:l[k]? = some x)(aS:l.length<=5000000):yh l ((k+1:Nat):Int)=some (if x=0 then .inl (k:Int) else .inr ((k+1:Nat):Int)):=by have aX:=gm U;unfold yh;rw[N1 (by omega),dw (by simp),dw (by omega),dy,U];by_cases h:x=0<;>simp[h]
theorem uH {l:ar}(aT:c2 l)(aS:l.length<=5000000):sI l=some (L (V l)):=by
 have : ∃r,iter (fun w:Int=>yh l w) (l.length:Int)=some r/\ ∃k:Nat,r=k/\k<=l.length/\l.take k=L (V l):=by
  refine kd (fp:=fun w:Int=> ∃k:Nat,w=k/\k<=l.length/\V (l.take k)=V l) (m:=fun w:Int=>w.toNat) _ ?_ _ ⟨l.length,rfl,by omega,by simp⟩;rintro _ ⟨k,rfl,aX,bf⟩
  cases k with
  | zero =>
   refine .inr ⟨0,by simp[yh],0,rfl,by omega,?_⟩;rw[<- bf];simp[V,r3]
  | succ k =>
   have U:=dz (show k<l.length by omega);rw[afR U aS];by_cases h:l[k]=0
   ·refine .inl ⟨_,by simp[h],⟨k,rfl,by omega,?_⟩,by omega⟩;have:=vP U;rw[h] at this;simp at this;omega
   refine .inr ⟨_,by simp[h],k+1,rfl,aX,?_⟩;rcases ga.Np aT k (fun x h1=>by rw[U] at h1;simp at h1;omega) with h1|h1
   ·exact xt h1 bf
   omega
 obtain⟨r,ai,k,rfl,h1,h2⟩:=this;unfold sI SM;rw[gy,ai];simp[h1,h2]
theorem CS {l:ar}(aT:c2 l)(aS:l.length<=5000000):sN l=some (L (V l)):=by
 have : ∃r,iter (fun w:ar=>B0 w) l=some r/\r=L (V l):=by
  refine kd (fp:=fun w=> ∃k:Nat,w=l.take k/\k<=l.length/\V (l.take k)=V l) (m:=fun w:ar=>w.length) _ ?_ _ ⟨l.length,by simp,by omega,by simp⟩;rintro _ ⟨k,rfl,aX,bf⟩;have hlen:(l.take k).length=k:=by simp;omega
  cases k with
  | zero =>
   refine .inr ⟨[],by simp[B0,gy],?_⟩;rw[<- bf];simp[V,r3]
  | succ k =>
   have U:=dz (show k<l.length by omega);have eC:(l.take (k+1))[k]? = some l[k]:=(by rw[an9];simp[U]);unfold B0;simp only[gy,hlen];rw[N1 (by omega),dw (by simp),dw (by omega),dy,eC];by_cases h:l[k]=0
   ·refine .inl ⟨l.take k,by simp[h,List.take_take,Nat.min_eq_left],⟨k,rfl,by omega,?_⟩,by simp;omega⟩;have:=vP U;rw[h] at this;simp at this;omega
   refine .inr ⟨l.take (k+1),by simp[h],?_⟩;rcases ga.Np aT k (fun x h1=>by rw[U] at h1;simp at h1;omega) with h1|h1
   ·exact xt h1 bf
   omega
 obtain⟨r,ai,rfl⟩:=this;unfold sN TG;rw[ai];rfl
theorem afS {l:ar}(aT:c2 l)(aS:l.length<=5000000): ∃k,Fj l=some k/\k<=l.length/\l.take k=L (V l):=by
 have : ∃r,iter (fun w:Nat=>BQ l w) l.length=some r/\r<=l.length/\l.take r=L (V l):=by
  refine kd (fp:=fun k=>k<=l.length/\V (l.take k)=V l) (m:=fun w:Nat=>w) _ ?_ _ ⟨by omega,by simp⟩;rintro k ⟨aX,bf⟩
  cases k with
  | zero =>
   refine .inr ⟨0,by simp[BQ],by omega,?_⟩;rw[<- bf];simp[V,r3]
  | succ k =>
   have U:=dz (show k<l.length by omega);unfold BQ;rw[N1 (by omega),dw (by simp),dw (by omega),dy,dG,U];by_cases h:l[k]=0
   ·refine .inl ⟨k,by simp[h],⟨by omega,?_⟩,by omega⟩;have:=vP U;rw[h] at this;simp at this;omega
   refine .inr ⟨k+1,by simp[h],aX,?_⟩;rcases ga.Np aT k (fun x h1=>by rw[U] at h1;simp at h1;omega) with h1|h1
   ·exact xt h1 bf
   omega
 obtain⟨r,ai,h1,h2⟩:=this;unfold Fj Tj;rw[ai];exact⟨r,rfl,h1,h2⟩
theorem vT {a b:ar}(bF:ga a)(aW:ga b)(aS:a.length<=5000000):sJ a b=some (li (V a) (V b)):=by
 unfold sJ li;simp only[gy];by_cases h1:a.length=b.length;rotate_left
 ·rw[dw (by simp;omega)]
  by_cases h2:a.length<b.length
  ·have:=Ji bF aW h2;simp[h2,this]
  have:=Ji aW bF (by omega);rw[dA (by simp;omega),dA (by omega),dw this]
 rw[dA (by simp[h1])]
 have : ∃r,iter (fun w:Int=>BM a b w) ((a.length:Int)-1)=some r/\(r.elim (fun _=>V a=V b) (fun c=>(c = -1/\V a<V b)\/(c=1/\V b<V a))):=by
  refine kd (fp:=fun w:Int=> ∃k:Nat,w=(k:Int)-1/\k<=a.length/\V (a.drop k)=V (b.drop k)) (m:=fun w:Int=>(w+1).toNat) _ ?_ _ ⟨a.length,rfl,by omega,by rw[List.drop_length,h1,List.drop_length]⟩;rintro _ ⟨k,rfl,aX,bf⟩
  cases k with
  | zero=>exact .inr ⟨.inl (),by simp[BM],by simpa using bf⟩
  | succ k =>
   have U:=dz (show k<a.length by omega);have aV:=dz (show k<b.length by omega);have e:((k+1:Nat):Int)-1=k:=(by omega);unfold BM;rw[e,s7 (by omega),dw (by simp),dw (by omega),dy,U];simp only[dC,dx];rw[dw (by omega),aV];by_cases h2:a[k]<b[k]
   ·exact .inr ⟨.inr (-1),by simp[h2],.inl ⟨rfl,V7 bF.1 aW.1 U aV bf h2⟩⟩
   by_cases J:b[k]<a[k]
   ·exact .inr ⟨.inr 1,by simp[h2,J],.inr ⟨rfl,V7 aW.1 bF.1 aV U bf.symm J⟩⟩
   refine .inl ⟨(k:Int)-1,by simp[h2,J],⟨k,rfl,by omega,?_⟩,by omega⟩;rw[qx U,qx aV,bf,show a[k]=b[k] by omega]
 obtain⟨r,ai,h2⟩:=this;unfold S8;rw[s7 (by omega),ai]
 cases r with
 | inl u =>
  simp at h2;simp[h2]
 | inr c =>
  rcases h2 with ⟨rfl,h2⟩|⟨rfl,h2⟩
  ·simp[h2]
  simp[h2];omega
theorem aeg:rR=sJ:=rfl
theorem IH {a b:ar}(bF:ga a)(aW:ga b)(aS:a.length<=5000000):rR a b=some (li (V a) (V b)):=vT bF aW aS
theorem F3 {x y:Int}(U:0<=x/\x<1000000000)(aV:0<=y/\y<1000000000):0<=x*y/\x*y<=999999998000000001:=by have h1:=Int.mul_nonneg U.1 aV.1;have h2:x*y<=999999999*999999999:=Int.mul_le_mul (by omega) (by omega) aV.1 (by omega);omega
theorem sA {a b:Int}(h:0<=a):a.tmod b=a % b:=Int.tmod_eq_emod_of_nonneg h
theorem oP {a b:Int}(h:0<=a):a.tdiv b=a / b:=Int.tdiv_eq_ediv_of_nonneg h
theorem Nr (k:Nat)(x:Int)(q:ar):(List.replicate (k+1) 0++q).set k x=List.replicate k 0++x::q:=by
 induction k with
 | zero=>rfl
 | succ k ih =>
  show (0::(List.replicate (k+1) 0++q)).set (k+1) x=_;rw[List.set_cons_succ,ih];rfl
theorem afa {a:ar}{d rest:Int}{row:ar}{k:Nat}{x:Int}(U:a[k]? = some x)(kk:0<=x/\x<1000000000)(bC:0<d/\d<1000000000)(ai:0<=rest/\rest<d)(d4:row.length=a.length)(aS:a.length<=1000000):
 Bq a d rest (k:Int) row=some (.inl ((rest*1000000000+x) % d,(k:Int)-1,row.set k ((rest*1000000000+x) / d))):=by
 have aX:=gm U;unfold Bq;rw[dw (by simp),dw (by omega),dy,U];simp only[dC,dx];rw[dw (by omega),dw (by omega),dw (by omega),s7 (by omega)];have h1:R (R (rest*1000000000)+x)=rest*1000000000+x:=by rw[cT (x:=rest*1000000000) (by omega) (by omega)];exact cT (by omega) (by omega)
 have h2:0<=rest*1000000000+x:=by omega
 have J:(rest*1000000000+x) / d<=rest*1000000000+x:=Int.ediv_le_self _ h2;have ak:0<=(rest*1000000000+x) / d:=Int.ediv_nonneg h2 (by omega);rw[h1,sA h2,oP h2,cT (by omega) (by omega),dG]
theorem Ux {a:ar}{d:Int}(bF:c2 a)(bC:0<d/\d<1000000000)(aS:a.length<=1000000):
 ∃r,LB a d 0 ((a.length:Int)-1) (List.replicate a.length 0)=some r/\r.1=V a % d/\c2 r.2/\r.2.length=a.length/\V r.2=V a / d:=by
 refine kd (fp:=fun w:Int×Int×ar=> ∃(k:Nat) (q:ar),w.2.1=(k:Int)-1/\k<=a.length/\w.2.2=List.replicate k 0++q/\q.length+k=a.length/\c2 q/\0<=w.1/\w.1<d/\V (a.drop k)=V q*d+w.1) (m:=fun w:Int×Int×ar=>(w.2.1+1).toNat) _ ?_ _ ⟨a.length,[],rfl,by omega,by simp,by simp,c2.nil,by omega,by omega,by simp[V]⟩;rintro⟨rest,i,row⟩ ⟨k,q,h1,aX,h2,a0,sv,m6,jw,bf⟩;simp only at h1 h2 m6 jw bf ⊢;subst h1 h2
 cases k with
 | zero =>
  refine .inr ⟨(rest,q),by simp[Bq],?_,sv,by simpa using a0,?_⟩
  ·simp at bf;rw[bf,Int.add_comm,Int.add_mul_emod_self_right];exact(Int.emod_eq_of_lt m6 jw).symm
  simp at bf;rw[bf,Int.add_comm,Int.add_mul_ediv_right _ _ (by omega),Int.ediv_eq_zero_of_lt m6 jw];simp
 | succ k =>
  have U:=dz (show k<a.length by omega);have kk:=bF.get U;rw[show ((k+1:Nat):Int)-1=k by omega,afa U kk bC ⟨m6,jw⟩ (by simp;omega) aS];refine .inl ⟨_,rfl,⟨k,(rest*1000000000+a[k]) / d::q,rfl,by omega,Nr _ _ _,by simp;omega,c2.cons ⟨Int.ediv_nonneg (by omega) (by omega),?_⟩ sv,Int.emod_nonneg _ (by omega),Int.emod_lt_of_pos _ bC.1,?_⟩,by simp⟩
  ·refine Int.ediv_lt_of_lt_mul bC.1 ?_;omega
  rw[qx U,bf,mX];have:=Int.mul_ediv_add_emod (rest*1000000000+a[k]) d;generalize (rest*1000000000+a[k]) / d=u at *;generalize (rest*1000000000+a[k]) % d=t at *;grind
theorem ag4 {a:ar}{d:Int}(bF:c2 a)(bC:0<d/\d<1000000000)(aS:a.length<=1000000):EO a d=some (L (V a / d),V a % d):=by obtain⟨r,ai,h1,h2,J,ak⟩:=Ux bF bC aS;unfold EO;simp only[gy];rw[dw (by omega),s7 (by omega),dy,ai];simp only[dC,dx];rw[uH h2 (by omega),h1,ak];rfl
theorem adl:R7=LB:=rfl
theorem TJ {a:ar}{d:Int}(bF:c2 a)(bC:0<d/\d<1000000000)(aS:a.length<=1000000):Cc a d=some (L (V a / d),V a % d):=by obtain⟨r,ai,h1,h2,J,ak⟩:=Ux bF bC aS;unfold Cc;simp only[gy];rw[dw (by omega),s7 (by omega),dy,adl,ai];simp only[dC,dx];rw[CS h2 (by omega),h1,ak];rfl
theorem afT {b:ar}{i j:Nat}{x y z carry:Int}{row t26:ar}{t27:Int}(aV:b[j]? = some y)(cA:row[i+j]? = some z)(U:0<=x/\x<1000000000)(ql:0<=y/\y<1000000000)(ua:0<=z/\z<1000000000)(aZ:0<=carry/\carry<1000000000)(aS:row.length<=2000000):
 BN b i x t26 t27 b.length carry j row=some (.inl ((z+x*y+carry) / 1000000000,((j+1:Nat):Int),row.set (i+j) ((z+x*y+carry) % 1000000000))):=by
 have aq:=gm aV;have sk:=gm cA;obtain⟨jz,iz⟩:=F3 U ql;unfold BN;have e:R ((i:Int)+(j:Int))=((i+j:Nat):Int):=by rw[cT (by omega) (by omega)];rfl
 rw[dw (by simp;omega),dw (by omega),dy,aV];simp only[dC,dx,e,dy,dG];rw[dw (by omega),cA];simp only[dx];rw[dw (by omega),px (by omega),cT (x:=x*y) (by omega) (by omega),cT (x:=z+x*y) (by omega) (by omega),cT (x:=z+x*y+carry) (by omega) (by omega),sA (by omega),oP (by omega),cT (by omega) (by omega)]
theorem afU {b:ar}{i:Nat}{x:Int}{row t26:ar}{t27:Int}(aW:c2 b)(d4:c2 row)(U:0<=x/\x<1000000000)(aT:i+b.length<row.length)(aS:row.length<=2000000):
 ∃r,Ta b i x t26 t27 b.length 0 0 row=some r/\0<=r.1/\r.1<1000000000/\c2 r.2/\r.2.length=row.length/\V r.2+r.1*B (i+b.length)=V row+x*B i*V b/\ ∀j,i+b.length<=j->r.2[j]? = row[j]? := by
 refine kd (fp:=fun w:Int×Int×ar=> ∃(j:Nat),w.2.1=(j:Int)/\j<=b.length/\0<=w.1/\w.1<1000000000/\c2 w.2.2/\w.2.2.length=row.length/\V w.2.2+w.1*B (i+j)=V row+x*B i*V (b.take j)/\ ∀j,i+b.length<=j->w.2.2[j]? = row[j]?) (m:=fun w:Int×Int×ar=>b.length-w.2.1.toNat) _ ?_ _ ⟨0,rfl,by omega,by simp,by simp,d4,rfl,by simp[V],fun _ _=>rfl⟩;rintro⟨carry,alO,ck⟩ ⟨j,h1,aq,od,oB,lP,hlen,bf,m0⟩;simp only at h1 od oB lP hlen bf m0 ⊢;subst h1;by_cases akK:j=b.length
 ·subst akK;refine .inr ⟨(carry,ck),by simp[BN],od,oB,lP,hlen,by simpa using bf,m0⟩
 have aV:=dz (show j<b.length by omega);have cA:=dz (show i+j<ck.length by omega);have ql:=aW.get aV;have ua:=lP.get cA;obtain⟨jz,iz⟩:=F3 U ql;rw[afT aV cA U ql ua ⟨od,oB⟩ (by omega)];refine .inl ⟨_,rfl,⟨j+1,rfl,by omega,by simp only;omega,by simp only;omega,lP.set (by omega),by simpa using hlen,?_,fun js u4=> ?_⟩,by simp;omega⟩
 ·simp only;rw[uW cA,vP aV,<- Nat.add_assoc,nU];rw[Gh] at bf ⊢;have:=Int.mul_ediv_add_emod (ck[i+j]+x*b[j]+carry) 1000000000;generalize (ck[i+j]+x*b[j]+carry) / 1000000000=u at *;generalize (ck[i+j]+x*b[j]+carry) % 1000000000=t at *;grind
 rw[<- m0 js u4];exact List.getElem?_set_ne (by omega)
theorem MM {a b:ar}(bF:c2 a)(aW:c2 b)(aS:a.length<=1000000)(hm:b.length<=1000000):
 ∃r,Ie b a a.length 0 (List.replicate (a.length+b.length) 0)=some r/\c2 r/\r.length=a.length+b.length/\V r=V a*V b:=by
 refine kd (fp:=fun w:Int×ar=> ∃(i:Nat),w.1=(i:Int)/\i<=a.length/\c2 w.2/\w.2.length=a.length+b.length/\V w.2=V (a.take i)*V b/\ ∀j,i+b.length<=j->j<a.length+b.length->w.2[j]? = some 0) (m:=fun w:Int×ar=>a.length-w.1.toNat) _ ?_ _ ⟨0,rfl,by omega,c2.OX _,by simp,by simp[V,NY],fun j _ h=>by simp[List.getElem?_replicate,h]⟩;rintro⟨ii,row⟩ ⟨i,h1,aa,lP,hlen,bf,h0⟩;simp only at h1 lP hlen bf h0 ⊢;subst h1;by_cases Hk:i=a.length
 ·subst Hk;refine .inr ⟨row,by simp[Eg],lP,hlen,by simpa using bf⟩
 have U:=dz (show i<a.length by omega);have kk:=bF.get U;obtain⟨r,ai,od,oB,ajK,W8,GQ,m0⟩:=afU (i:=i) (t26:=a) (t27:=a.length) aW lP kk (by omega) (by omega);have e:R ((i:Int)+(b.length:Int))=((i+b.length:Nat):Int):=by rw[cT (by omega) (by omega)];rfl
 have cA:r.2[i+b.length]? = some 0:=by rw[m0 _ (dE _)];exact h0 _ (dE _) (by omega)
 refine .inl ⟨(((i+1:Nat):Int),r.2.set (i+b.length) r.1),?_,⟨i+1,rfl,by omega,ajK.set ⟨od,oB⟩,by simp;omega,?_,fun j anp akL=> ?_⟩,by simp;omega⟩
 ·unfold Eg;rw[dw (by simp;omega),dw (by omega),dy,U];simp only[dC,dx,gy];rw[ai];simp only[dx,e,dy,dG];rw[dw (by omega),dw (by omega),px (n:=i) (by omega)]
 ·simp only;rw[uW cA,vP U];grind
 simp only;rw[List.getElem?_set_ne (by omega),m0 _ (by omega)];exact h0 _ (by omega) akL
theorem mul_eq {a b:ar}(bF:c2 a)(aW:c2 b)(aS:a.length<=1000000)(hm:b.length<=1000000):jl a b=some (L (V a*V b)):=by
 unfold jl;simp only[gy];by_cases h1:a=[]
 ·subst h1;simp[V,r3]
 by_cases h2:b=[]
 ·subst h2;simp[h1,V,r3]
 obtain⟨r,ai,J,ak,au⟩:=MM bF aW aS hm;have e:R ((a.length:Int)+(b.length:Int))=((a.length+b.length:Nat):Int):=by rw[cT (by omega) (by omega)];rfl
 rw[dA (by simp[h1]),dA (by simp[h2]),e,dw (by omega),dy,ai];simp only[dC,dx];rw[uH J (by omega),au];rfl
theorem aeD:Tw=Ie:=rfl
theorem adT:SW=Ie:=rfl
theorem FE {a b:ar}(bF:c2 a)(aW:c2 b)(aS:a.length<=1000000)(hm:b.length<=1000000):sM a b=some (L (V a*V b)):=by
 unfold sM;simp only[gy];by_cases h1:a=[]
 ·subst h1;simp[V,r3]
 by_cases h2:b=[]
 ·subst h2;simp[h1,V,r3]
 obtain⟨r,ai,J,ak,au⟩:=MM bF aW aS hm;have e:R ((a.length:Int)+(b.length:Int))=((a.length+b.length:Nat):Int):=by rw[cT (by omega) (by omega)];rfl
 rw[dA (by simp[h1]),dA (by simp[h2]),e,dw (by omega),dy,aeD,ai];simp only[dC,dx];rw[CS J (by omega),au];rfl
theorem Uy {a b:ar}(bF:c2 a)(aW:c2 b)(h1:a≠[])(h2:b≠[])(aS:a.length<=1000000)(hm:b.length<=1000000):
 ∃k r,Cm a b=some (k,r)/\k<=r.length/\r.length=a.length+b.length/\r.take k=L (V a*V b)/\c2 r:=by
 obtain⟨r,ai,J,ak,au⟩:=MM bF aW aS hm;obtain⟨k,aX,aP,a4⟩:=afS J (by omega);refine⟨k,r,?_,aP,ak,by rw[a4,au],J⟩;unfold Cm;simp only[gy];have e:R ((a.length:Int)+(b.length:Int))=((a.length+b.length:Nat):Int):=by rw[cT (by omega) (by omega)];rfl
 rw[dA (by simp[h1]),dA (by simp[h2]),e,dw (by omega),dy,adT,ai];simp only[dC,dx];rw[aX];rfl
theorem Gl {x:Int}(h1:0<=x)(h2:x<18446744073709551616):IntKind.wrap .u64 x=x:=by
 simp only[IntKind.wrap,IntKind.signed,IntKind.bits];have:((2:Int) ^ 64)=18446744073709551616:=by decide
 simp;omega
theorem ajg {x:Int}(h1:-9223372036854775808<=x)(h2:x<9223372036854775808):IntKind.wrap .i64 x=x:=cT h1 h2
theorem ga.snoc {l:ar}{x:Int}(h:c2 l)(U:0<x/\x<1000000000):ga (l++[x]):=⟨h.append (c2.cons (by omega) c2.nil),fun y aV=>by rw[List.getLast?_append] at aV;simp at aV;omega⟩
theorem U5 {N:Int}(gJ:N<18446744073709551616){n:Int}{row:ar}(h:0<=n/\c2 row/\V row+B row.length*n=N/\(n=0->ga row)/\((row.length=0/\n<18446744073709551616)\/(row.length=1/\n<20000000000)\/(row.length=2/\n<20)\/(row.length=3/\n=0)))(aS:0<n):
 (fun (n:Int) (row:ar)=>0<=n/\c2 row/\V row+B row.length*n=N/\(n=0->ga row)/\((row.length=0/\n<18446744073709551616)\/(row.length=1/\n<20000000000)\/(row.length=2/\n<20)\/(row.length=3/\n=0))) (n / 1000000000) (row++[n % 1000000000]):=by
 obtain⟨h0,h1,h2,J,ak⟩:=h;refine⟨by omega,h1.append (c2.cons (by omega) c2.nil),?_,fun au=>ga.snoc h1 (by omega),?_⟩
 ·rw[yW,dD,List.length_singleton,nU,mX,Dc];have:=Int.mul_ediv_add_emod n 1000000000;generalize n / 1000000000=u at *;generalize n % 1000000000=t at *;grind
 rw[dD,List.length_singleton];omega
theorem CJ {n:Int}(h:0<=n)(aS:n<9223372036854775808):uE n=some (L n):=by
 have : ∃r,iter (fun w:Int×ar=>BU w.1 w.2) (n,[])=some r/\r=L n:=by
  refine kd (fp:=fun w:Int×ar=>w.1<=n/\0<=w.1/\c2 w.2/\V w.2+B w.2.length*w.1=n/\(w.1=0->ga w.2)/\((w.2.length=0/\w.1<18446744073709551616)\/(w.2.length=1/\w.1<20000000000)\/(w.2.length=2/\w.1<20)\/(w.2.length=3/\w.1=0))) (m:=fun w:Int×ar=>w.1.toNat) _ ?_ _ ⟨Int.le_refl _,h,c2.nil,by simp[V,B],fun _=>ga.nil,.inl ⟨rfl,by simp only;omega⟩⟩;rintro⟨m,row⟩ ⟨hm,cQ⟩;simp only at hm cQ;obtain⟨h0,h1,h2,J,ak⟩:=id cQ;by_cases kr:0<m
  ·have:=U5 (by omega) cQ kr;refine .inl ⟨(m / 1000000000,row++[m % 1000000000]),?_,⟨by simp only;omega,this⟩,by simp only;omega⟩;unfold BU;rw[dw (by simp;omega),sA (by omega),oP (by omega),dw (by simp;omega),cT (by omega) (by omega)]
  refine .inr ⟨row,by simp[BU,kr],?_⟩;have pF:m=0:=(by omega);refine xt (J pF) ?_;rw[pF] at h2;simpa using h2
 obtain⟨r,ai,rfl⟩:=this;unfold uE Tu;rw[ai];rfl
theorem Mz {n:Int}(h:0<=n)(aS:n<18446744073709551616):yF n=some (L n):=by
 have : ∃r,iter (fun w:Int×ar=>Bz w.1 w.2) (n,[])=some r/\r=L n:=by
  refine kd (fp:=fun w:Int×ar=>w.1<=n/\0<=w.1/\c2 w.2/\V w.2+B w.2.length*w.1=n/\(w.1=0->ga w.2)/\((w.2.length=0/\w.1<18446744073709551616)\/(w.2.length=1/\w.1<20000000000)\/(w.2.length=2/\w.1<20)\/(w.2.length=3/\w.1=0))) (m:=fun w:Int×ar=>w.1.toNat) _ ?_ _ ⟨Int.le_refl _,h,c2.nil,by simp[V,B],fun _=>ga.nil,.inl ⟨rfl,by simp only;omega⟩⟩;rintro⟨m,row⟩ ⟨hm,cQ⟩;simp only at hm cQ;obtain⟨h0,h1,h2,J,ak⟩:=id cQ;by_cases kr:0<m
  ·have:=U5 (by omega) cQ kr;refine .inl ⟨(m / 1000000000,row++[m % 1000000000]),?_,⟨by simp only;omega,this⟩,by simp only;omega⟩;unfold Bz;rw[dw (by simp;omega),sA (by omega),oP (by omega),ajg (x:=m % 1000000000) (by omega) (by omega),dw (by simp;omega),Gl (by omega) (by omega)]
  refine .inr ⟨row,by simp[Bz,kr],?_⟩;have pF:m=0:=(by omega);refine xt (J pF) ?_;rw[pF] at h2;simpa using h2
 obtain⟨r,ai,rfl⟩:=this;unfold yF SR;rw[ai];rfl
def qJ (x:Int):Bool:=decide (0<=x) && decide (x<1000000000)
theorem Ns (l:ar):l.all qJ=true↔c2 l:=by simp[qJ,c2]
theorem MA {a:ar}(h:a≠[]): ∃x,a[a.length-1]? = some x/\(ga a↔c2 a/\x≠0):=by
 have af:=aop.mpr h;refine⟨a[a.length-1],dz (by omega),?_⟩;have e:a.getLast? = some a[a.length-1]:=by rw[List.getLast?_eq_getElem?];exact dz (by omega)
 constructor
 ·exact fun h=>⟨h.1,h.2 _ e⟩
 refine fun h=>⟨h.1,fun x U=> ?_⟩;rw[e] at U;rw[<- dJ U];exact h.2
theorem Xl {a:ar}(h:a≠[])(hm:(a.length:Int)<9223372036854775807):R ((a.length:Int)-1)=((a.length-1:Nat):Int):=by have af:=aop.mpr h;rw[cT (by omega) (by omega)];omega
theorem afb (x:Int):oa x 0 999999999=some (qJ x):=by
 unfold oa qJ;by_cases h:0<=x
 ·simp[h];omega
 simp[h]
theorem II {a:ar}(hm:(a.length:Int)<9223372036854775807): ∃ok,uF a=some ok/\(ok=true↔ga a/\a.length<=60):=by
 have h1:iter (fun w:Int=>BV a a.length w) 0=some (if a.all qJ then .inl () else .inr ()):=by refine M5 a qJ (fun n x U=> ?_) (by simp[BV]);have:=gm U;unfold BV;rw[dw (by simp;omega),dw (by omega),dy,U];simp only[dC,dx,afb];rw[i1 (by omega)];cases qJ x<;>rfl
 unfold uF Tv;simp only[gy];rw[h1];by_cases rJ:a.all qJ=true
 ·have GM:=(Ns a).1 rJ
  simp only[rJ,if_true,dC,dx];by_cases qW:a.length<=60
  ·rw[dw (by simp;omega)]
   by_cases h0:a=[]
   ·subst h0;exact⟨true,rfl,by simp[ga.nil]⟩
   obtain⟨x,U,aS⟩:=MA h0;have af:=aop.mpr h0;rw[dA (by simp[h0]),Xl h0 hm,dw (by omega),dy,U];refine⟨_,rfl,?_⟩;rw[aS];simp[GM,qW]
  rw[dA (by simp;omega)];exact⟨false,rfl,by simp;omega⟩
 have GM : ¬c2 a:=fun h=>rJ ((Ns a).2 h);simp only[Bool.not_eq_true] at rJ;refine⟨false,by simp[rJ],?_⟩;simp only[dT,false_iff];exact fun h=>GM h.1.1
theorem afc (x:Int):Fa x=some (!qJ x):=by
 unfold Fa qJ;by_cases h:x<0
 ·simp[h]
 rw[dA (by simp[h])];congr 1;rw[Bool.eq_iff_iff];simp;omega
theorem T3 {a:ar}(hm:(a.length:Int)<9223372036854775807):AV a=some (!(a.all qJ)):=by
 obtain⟨r,ai,h⟩:=U0 (f:=fun w:Int=>AG a a.length w) a (fun x=> !qJ x) (fun n x U=>by have:=gm U;unfold AG;rw[dw (by simp;omega),dw (by omega),dy,U];simp only[dC,dx,afc];rw[i1 (by omega)];cases qJ x<;>rfl) (by simp[AG]);have e:a.any (fun x=> !qJ x) = !(a.all qJ):=by rw[List.not_all_eq_any_not]
 rw[e] at h;unfold AV HY Qk;simp only[gy];rw[ai];rcases h with ⟨k,rfl,aX,h⟩|⟨rfl,h⟩
 ·simp only[dC,dx];rw[h];simp[aX]
 simp only[dC,dx];rw[h];rfl
theorem afd {a:ar}(hm:(a.length:Int)<9223372036854775807): ∃ok,yN a=some ok/\(ok=true↔ga a/\a.length<=60):=by
 unfold yN;simp only[gy];by_cases qW:60<a.length
 ·rw[dw (by simp;omega)];exact⟨false,rfl,by simp;omega⟩
 rw[dA (by simp;omega)];by_cases h0:a=[]
 ·subst h0;exact⟨true,by simp[T3],by simp[ga.nil]⟩
 obtain⟨x,U,aS⟩:=MA h0;have af:=aop.mpr h0;rw[dw (by simp;omega),Xl h0 hm,dw (by omega),dy,U];simp only[dC,dx];rw[aS];by_cases kk:x=0
 ·exact⟨false,by simp[kk],by simp[kk]⟩
 rw[dA (by simp[kk]),T3 hm];refine⟨_,rfl,?_⟩;rw[<- Ns];simp[kk];omega
theorem Uz {a:ar}(hm:(a.length:Int)<9223372036854775807): ∃ok,uF a=some ok/\yN a=some ok/\(ok=true↔ga a/\a.length<=60):=by obtain⟨bR,h1,h2⟩:=II hm;obtain⟨aL,J,ak⟩:=afd hm;have:aL=bR:=Bool.eq_iff_iff.mpr (ak.trans h2.symm);exact⟨bR,h1,this▸J,h2⟩
theorem T4 {a:ar}(bF:ga a)(qW:a.length<=60)(bf:V a<9223372036854775808):Cg a=some (V a,true):=by
 obtain⟨ok,h1,h2⟩:=II (a:=a) (by omega);have lK:ok=true:=h2.2 ⟨bF,qW⟩;subst lK;have aZ:ga [854775807,223372036,9]:=⟨by intro x U;simp at U;omega,by simp⟩;have Pa:V [854775807,223372036,9]=9223372036854775807:=by decide
 unfold Cg;rw[h1];simp only[dC,dx,if_true];rw[vT bF aZ (by omega),Pa]
 have : ∃r,iter (fun w:Int×Int=>Bo a w.1 w.2) (0,(a.length:Int)-1)=some r/\r=V a:=by
  refine kd (fp:=fun w:Int×Int=> ∃k:Nat,w.2=(k:Int)-1/\k<=a.length/\w.1=V (a.drop k)) (m:=fun w:Int×Int=>(w.2+1).toNat) _ ?_ _ ⟨a.length,rfl,by omega,by simp[V]⟩;rintro⟨n,i⟩ ⟨k,J,aX,ak⟩;simp only at J ak;subst J ak
  cases k with
  | zero=>exact .inr ⟨V a,by simp[Bo],rfl⟩
  | succ k =>
   have U:=dz (show k<a.length by omega);have kk:=bF.1.get U;have au:=qx U;have aP:=mC (bF.1.drop (k+1));have a4:V (a.drop k)<=V a:=(by have ba:=y5 (l:=a) (n:=k) (by omega);have b8:=mC (bF.1.take k);have cF:=mC (bF.1.drop k);have dp:1*V (a.drop k)<=B k*V (a.drop k):=Int.mul_le_mul_of_nonneg_right (ps k) cF;omega);refine .inl ⟨(V (a.drop k),(k:Int)-1),?_,⟨k,rfl,by omega,rfl⟩,by simp only;omega⟩;unfold Bo;rw[show ((k+1:Nat):Int)-1=k by omega,dw (by simp),dw (by omega),dy,U];simp only[dC,dx];rw[s7 (by omega),cT (x:=V (a.drop (k+1))*1000000000) (by omega) (by omega),cT (by omega) (by omega),au];congr 3;omega
 obtain⟨r,ai,rfl⟩:=this;unfold li St;simp only[gy];rw[s7 (by omega),ai];have J : ¬(9223372036854775807:Int)<V a:=by omega
 by_cases ak:V a<9223372036854775807<;>simp[J,ak]
theorem ag5 {a b row:ar}{less x:Int}{i:Nat}(aW:c2 b)(U:a[i]? = some x)(kk:0<=x/\x<1000000000)(aT:less=0\/less=1)(aS:a.length<=1000000)(hm:b.length<=1000000)(ai:row.length<=1000000):
 ∃y,0<=y/\y<1000000000/\(∀z,b[i]? = some z->y=z)/\(b[i]? = none->y=0) /\
 ym a b a.length less i row=some (.inl (if x-less-y<0 then (1,((i+1:Nat):Int),row++[x-less-y+1000000000]) else (0,((i+1:Nat):Int),row++[x-less-y]))):=by
 have aa:=gm U;unfold ym;rw[dw (by simp;omega),dw (by omega),dy,U];simp only[dC,dx,gy];by_cases Yw:i<b.length
 ·have aV:=dz Yw
  have ql:=aW.get aV;refine⟨b[i],ql.1,ql.2,fun z cA=>by rw[aV] at cA;exact dJ cA,fun h=>by rw[aV] at h;simp at h,?_⟩;rw[dw (by simp;omega),dw (by omega),aV];simp only[dx];rw[cT (x:=x-less) (by omega) (by omega),cT (x:=x-less-b[i]) (by omega) (by omega),px (n:=i) (by omega),cT (x:=x-less-b[i]+1000000000) (by omega) (by omega)];by_cases h:x-less-b[i]<0
  ·rw[dw (by simp[h]),dw (by simp;omega)];simp[h]
  rw[dA (by simp[h]),dw (by simp;omega)];simp[h]
 have aV:b[i]? = none:=by simp;omega
 refine⟨0,by omega,by omega,fun z cA=>by rw[aV] at cA;simp at cA,fun _=>rfl,?_⟩;rw[dA (by simp;omega),cT (x:=x-less) (by omega) (by omega),px (n:=i) (by omega),cT (x:=x-less+1000000000) (by omega) (by omega),Int.sub_zero];by_cases h:x-less<0
 ·rw[dw (by simp[h]),dw (by simp;omega)];simp[h]
 rw[dA (by simp[h]),dw (by simp;omega)];simp[h]
theorem VC {b:ar}{i:Nat}{y:Int}(h1:∀z,b[i]? = some z->y=z)(h2:b[i]? = none->y=0):V (b.take (i+1))=V (b.take i)+B i*y:=by
 cases h:b[i]? with
 | some z=>rw[h1 z h,vP h]
 | none =>
  rw[h2 h];have:b.length<=i:=(by simpa using h);rw[dP (by omega),dP (by omega)];simp
theorem sub_eq {a b:ar}(bF:c2 a)(aW:c2 b)(hlen:b.length<=a.length)(xG:V b<=V a)(aS:a.length<=1000000):vD a b=some (L (V a-V b)):=by
 have : ∃r,iter (fun w:Int×Int×ar=>ym a b a.length w.1 w.2.1 w.2.2) (0,0,[])=some r/\c2 r/\r.length=a.length/\V r=V a-V b:=by
  refine kd (fp:=fun w:Int×Int×ar=> ∃i:Nat,w.2.1=i/\i<=a.length/\(w.1=0\/w.1=1)/\c2 w.2.2/\w.2.2.length=i/\V w.2.2-w.1*B i=V (a.take i)-V (b.take i)) (m:=fun w:Int×Int×ar=>a.length-w.2.1.toNat) _ ?_ _ ⟨0,rfl,by omega,.inl rfl,c2.nil,rfl,by simp[V]⟩;rintro⟨less,ii,row⟩ ⟨i,h1,aa,aT,lP,sw,bf⟩;simp only at h1 aT lP sw bf ⊢;subst h1;by_cases Hk:i=a.length
  ·refine .inr ⟨row,by simp[ym,Hk],lP,by omega,?_⟩;rw[Hk] at bf;rw[List.take_length,dP hlen] at bf;have h2:=ow lP;rw[sw,Hk] at h2;rcases aT with rfl|rfl<;>omega
  have U:=dz (show i<a.length by omega);have kk:=bF.get U;obtain⟨y,Hl,Hm,akM,akN,he⟩:=ag5 (row:=row) aW U kk aT aS (by omega) (by omega);rw[he];refine .inl ⟨_,rfl,?_⟩;have J:=vP U;have ak:=VC akM akN;by_cases h:a[i]-less-y<0
  ·rw[dw h];refine⟨⟨i+1,rfl,by omega,.inr rfl,lP.append (c2.cons (by omega) c2.nil),by simp[sw],?_⟩,by simp only;omega⟩;simp only;rw[J,ak,yW,sw,nU,mX,Dc];grind
  rw[dA h];refine⟨⟨i+1,rfl,by omega,.inl rfl,lP.append (c2.cons (by omega) c2.nil),by simp[sw],?_⟩,by simp only;omega⟩;simp only;rw[J,ak,yW,sw,mX,Dc];grind
 obtain⟨r,ai,h1,h2,J⟩:=this;unfold vD S9;simp only[gy];rw[ai];simp only[dC,dx];rw[uH h1 (by omega),J];rfl
theorem uI {l:ar}(h:c2 l){k:Nat}(aX:k<=l.length):B k*V (l.drop k)<=V l/\V l<B k*(V (l.drop k)+1):=by have h1:=y5 aX;have h2:=mC (h.take k);have J:=ow (h.take k);rw[List.length_take,Nat.min_eq_left aX] at J;rw[Int.mul_add,Int.mul_one];omega
theorem FF {l:ar}{k:Nat}{x:Int}(U:l[k]? = some x)(aT:l.length=k+1):V (l.drop k)=x:=by rw[qx U,List.drop_of_length_le (by omega)];simp[V]
theorem TK {aY W t d P:Int}(gq:1<=P)(Kv:P*t<=aY)(Pb:aY<P*(t+1))(xK:P*d<=W)(Kw:W<P*(d+1))(bC:0<d)(cj:0<=t)(Pc:aY<1000000000*W):t / (d+1)<=aY / W/\aY / W<=t / d/\aY / W<=999999999:=by
 have hW:0<W:=by have:=Int.mul_pos (a:=P) (b:=d) (by omega) bC;omega
 have da:0<=aY:=by have:=Int.mul_nonneg (a:=P) (b:=t) (by omega) cj;omega
 refine⟨?_,?_,?_⟩
 ·apply (Int.le_ediv_iff_mul_le hW).2;have h1:t / (d+1)*(d+1)<=t:=Int.ediv_mul_le _ (by omega);have h2:0<=t / (d+1):=Int.ediv_nonneg cj (by omega);have J:t / (d+1)*W<=t / (d+1)*(P*(d+1)):=dL (by omega) h2;have ak:P*(t / (d+1)*(d+1))<=P*t:=dL h1 (by omega);have au:t / (d+1)*(P*(d+1))=P*(t / (d+1)*(d+1)):=(by grind);omega
 ·apply (Int.le_ediv_iff_mul_le bC).2;have h1:aY / W*W<=aY:=Int.ediv_mul_le _ (by omega);have h2:0<=aY / W:=Int.ediv_nonneg da (by omega);have J:aY / W*(P*d)<=aY / W*W:=dL xK h2;have ak:aY / W*(P*d)=P*(aY / W*d):=(by grind);have au:P*(aY / W*d)<P*(t+1):=(by omega);have:=Int.lt_of_mul_lt_mul_left au (by omega);omega
 have:=Int.ediv_lt_of_lt_mul hW Pc;omega
theorem Wd {a b:Int}:li a b<=0↔a<=b:=by
 unfold li;by_cases h:a<b
 ·simp[h];omega
 by_cases h2:b<a
 ·simp[h,h2]
 simp[h,h2];omega
theorem xd {a b:Int}:li a b<0↔a<b:=by
 unfold li;by_cases h:a<b
 ·simp[h]
 by_cases h2:b<a
 ·simp[h,h2]
 simp[h,h2]
theorem MN {a b:Int}:li a b=0↔a=b:=by
 unfold li;by_cases h:a<b
 ·simp[h];omega
 by_cases h2:b<a
 ·simp[h,h2];omega
 simp[h,h2];omega
theorem UA {r b:ar}(ai:ga r)(aW:ga b)(m8:b≠[])(aS:r.length<=1000000)(hm:b.length<=1000000){bL aa:Int}(h0:0<=bL)(h1:bL<=V r / V b)(h2:V r / V b<=aa)(J:aa<=999999999):LC r b bL aa=some (V r / V b):=by
 have kU:=tX aW m8
 have : ∃q,iter (fun w:Int×Int=>yf r b w.1 w.2) (bL,aa)=some q/\q=V r / V b:=by
  refine kd (fp:=fun w:Int×Int=>0<=w.1/\w.1<=V r / V b/\V r / V b<=w.2/\w.2<=999999999) (m:=fun w:Int×Int=>(w.2-w.1).toNat) _ ?_ _ ⟨h0,h1,h2,J⟩;rintro⟨l,h⟩ ⟨g0,g1,g2,g3⟩;simp only at g0 g1 g2 g3;by_cases ez:l<h;rotate_left
  ·exact .inr ⟨l,by simp[yf,ez],by omega⟩
  have e1:R ((R ((R (l+h))+(1:Int))).tdiv (2:Int))=(l+h+1) / 2:=(by rw[cT (x:=l+h) (by omega) (by omega),cT (x:=l+h+1) (by omega) (by omega),oP (by omega),cT (by omega) (by omega)]);have pF:0<=(l+h+1) / 2:=(by omega);have rE:(l+h+1) / 2<1000000000:=(by omega);have X4:(L ((l+h+1) / 2)).length<=1:=(hX pF).2 (by simpa [B] using rE)
  have e2:yf r b l h=some (.inl (if V b*((l+h+1) / 2)<=V r then ((l+h+1) / 2,h) else (l,(l+h+1) / 2-1))):=by
   unfold yf;rw[dw (by simp[ez]),e1,CJ pF (by omega)];simp only[dC,dx];rw[mul_eq aW.1 (hO _) hm (by omega),eg pF];simp only[dx];have af:0<=V b*((l+h+1) / 2):=Int.mul_nonneg (by omega) pF;have hlen:(L (V b*((l+h+1) / 2))).length<=b.length+1:=(hX af).2 (by rw[nU];have au:=ow aW.1;have:V b*((l+h+1) / 2)<=V b*1000000000:=dL (by omega) (by omega);omega);rw[vT (iQ _) ai (by omega),eg af];simp only[dx];by_cases aZ:V b*((l+h+1) / 2)<=V r
   ·rw[dw (by simpa using Wd.2 aZ),dw aZ]
   rw[dA (fun h=>aZ (Wd.1 (by simpa using h))),dA aZ,cT (by omega) (by omega)]
  rw[e2];refine .inl ⟨_,rfl,?_⟩;by_cases aZ:V b*((l+h+1) / 2)<=V r
  ·rw[dw aZ];have:(l+h+1) / 2<=V r / V b:=(Int.le_ediv_iff_mul_le kU).2 (by rw[Int.mul_comm];exact aZ);exact⟨⟨by simp only;omega,this,g2,g3⟩,by simp only;omega⟩
  rw[dA aZ];have:V r / V b<(l+h+1) / 2:=(Int.ediv_lt_iff_lt_mul kU).2 (by rw[Int.mul_comm];omega);exact⟨⟨g0,g1,by simp only;omega,by simp only;omega⟩,by simp only;omega⟩
 obtain⟨q,a0,rfl⟩:=this;exact a0
theorem JC {b:ar}(aW:ga b)(m8:b≠[]): ∃k d,b.length=k+1/\b[k]? = some d/\0<d/\d<1000000000/\V (b.drop k)=d:=by have af:=aop.mpr m8;obtain⟨x,U,h⟩:=MA m8;have h1:=h.1 aW;have h2:=h1.1.get U;exact⟨b.length-1,x,by omega,U,by omega,h2.2,FF U (by omega)⟩
theorem ag6 {r b:ar}(ai:ga r)(aW:ga b)(m8:b≠[])(aS:r.length<=1000000)(hm:b.length<=1000000)(h1:V b<=V r)(h2:V r<1000000000*V b):EP r b=some (V r / V b):=by
 obtain⟨k,d,aX,bC,tg,tr,xL⟩:=JC aW m8;have Kb:b.length<=r.length:=Nat.le_of_not_lt fun h=>by have:=Ji ai aW h;omega
 have XX:r.length<=b.length+1:=ai.len.2 (by have:=ow aW.1;rw[nU];omega);have xA:=uI aW.1 (k:=k) (by omega);rw[xL] at xA;have jw:=uI ai.1 (k:=k) (by omega);have U:=dz (show k<r.length by omega);have kk:=ai.1.get U;have hw:R ((b.length:Int)-1)=(k:Int):=by rw[cT (by omega) (by omega)];omega
 have oj:=mC (ai.1.drop k);have Kx:=TK (ps k) jw.1 jw.2 xA.1 xA.2 tg oj h2;have anq:=mC ai.1;have hW:=tX aW m8;unfold EP;simp only[gy,hw];rw[dw (by omega),dy,U];simp only[dC,dx];by_cases hlen:b.length<r.length
 ·have aV:=dz hlen;have ql:=ai.1.get aV;have pH:V (r.drop (k+1))=r[b.length]:=(by rw[<- aX];exact FF aV (by omega));have cj:V (r.drop k)=r[k]+1000000000*r[b.length]:=(by rw[qx U,pH]);rw[cj] at Kx oj;have m2:0<=(r[k]+1000000000*r[b.length]) / (d+1):=Int.ediv_nonneg oj (by omega);have qb:(r[k]+1000000000*r[b.length]) / (d+1)<=r[k]+1000000000*r[b.length]:=Int.ediv_le_self _ oj;have Dn:0<=(r[k]+1000000000*r[b.length]) / d:=Int.ediv_nonneg oj (by omega);have akO:(r[k]+1000000000*r[b.length]) / d<=r[k]+1000000000*r[b.length]:=Int.ediv_le_self _ oj;rw[dw (by simp;omega),dw (by omega),dy,aV];simp only[dx];rw[dw (by omega),bC];simp only[dx];have e1:R (d+1)=d+1:=cT (by omega) (by omega);have e2:R (r[k]+R (r[b.length]*1000000000))=r[k]+1000000000*r[b.length]:=(by rw[cT (x:=r[b.length]*1000000000) (by omega) (by omega),cT (by omega) (by omega),Int.mul_comm]);rw[e1,dw (by omega),dw (by omega),e2,oP oj,oP oj,cT (by omega) (by omega),cT (x:=(r[k]+1000000000*r[b.length]) / d) (by omega) (by omega)];rw[UA ai aW m8 aS hm m2 Kx.1 (by split<;>omega) (by split<;>omega)];rfl
 have cj:V (r.drop k)=r[k]:=FF U (by omega);rw[cj] at Kx oj;have m2:0<=r[k] / (d+1):=Int.ediv_nonneg oj (by omega);have qb:r[k] / (d+1)<=r[k]:=Int.ediv_le_self _ oj;have Dn:0<=r[k] / d:=Int.ediv_nonneg oj (by omega);have akO:r[k] / d<=r[k]:=Int.ediv_le_self _ oj;rw[dA (by simp;omega),dw (by omega),bC];simp only[dx];have e1:R (d+1)=d+1:=cT (by omega) (by omega);rw[e1,dw (by omega),dw (by omega),oP oj,oP oj,cT (by omega) (by omega),cT (x:=r[k] / d) (by omega) (by omega)];rw[UA ai aW m8 aS hm m2 Kx.1 (by split<;>omega) (by split<;>omega)];rfl
theorem ag7 {a b:ar}(bF:ga a)(aW:ga b)(m8:b≠[])(aS:a.length<=900000)(hm:b.length<=900000):
 ∃r,Tb a b [] ((a.length:Int)-1) (List.replicate a.length 0)=some r/\r.1=L (V a % V b)/\c2 r.2/\r.2.length=a.length/\V r.2=V a / V b:=by
 have kU:=tX aW m8;refine kd (fp:=fun w:ar×Int×ar=> ∃(k:Nat) (q:ar),w.2.1=(k:Int)-1/\k<=a.length/\w.2.2=List.replicate k 0++q/\q.length+k=a.length/\c2 q/\ga w.1/\V w.1<V b/\V (a.drop k)=V q*V b+V w.1) (m:=fun w:ar×Int×ar=>(w.2.1+1).toNat) _ ?_ _ ⟨a.length,[],rfl,by omega,by simp,by simp,c2.nil,ga.nil,by simpa [V] using kU,by simp[V]⟩;rintro⟨rest,i,row⟩ ⟨k,q,h1,aX,h2,a0,sv,m6,jw,bf⟩;simp only at h1 h2 m6 jw bf ⊢;subst h1 h2;have Hn:=mC m6.1
 cases k with
 | zero =>
  simp at bf;refine .inr ⟨(rest,q),by simp[BO],?_,sv,by simpa using a0,?_⟩
  ·refine xt m6 ?_;rw[bf,Int.add_comm,Int.add_mul_emod_self_right];exact(Int.emod_eq_of_lt Hn jw).symm
  rw[bf,Int.add_comm,Int.add_mul_ediv_right _ _ (by omega),Int.ediv_eq_zero_of_lt Hn jw];simp
 | succ k =>
  have U:=dz (show k<a.length by omega);have kk:=bF.1.get U;have sw:rest.length<=b.length:=m6.len.2 (by have:=ow aW.1;omega);have jq:c2 (a[k]::rest):=c2.cons kk m6.1;have Pa:V (a[k]::rest)=a[k]+1000000000*V rest:=mX _ _;have qX:0<=a[k]+1000000000*V rest:=(by omega);have anr:(L (a[k]+1000000000*V rest)).length<=b.length+1:=(hX qX).2 (by have:=ow aW.1;rw[nU];omega);have bC:=qx U
  have N2:BO a b rest (k:Int) (List.replicate (k+1) 0++q)=some (.inl (if a[k]+1000000000*V rest<V b then (L (a[k]+1000000000*V rest),(k:Int)-1,List.replicate (k+1) 0++q) else (L ((a[k]+1000000000*V rest) % V b),(k:Int)-1,(List.replicate (k+1) 0++q).set k ((a[k]+1000000000*V rest) / V b)))):=by
   unfold BO;rw[dw (by simp),dw (by omega),dy,U];simp only[dC,dx,List.singleton_append];rw[dw (by simp;omega),uH jq (by simp;omega),Pa];simp only[dx];rw[vT (iQ _) aW (by omega),eg qX];simp only[dx];by_cases aZ:a[k]+1000000000*V rest<V b
   ·rw[dw (by simpa using xd.2 aZ),dw aZ,s7 (by omega)]
   rw[dA (fun h=>aZ (xd.1 (by simpa using h))),dA aZ];have ez:a[k]+1000000000*V rest<1000000000*V b:=(by omega);rw[ag6 (iQ _) aW m8 (by omega) (by omega) (by rw[eg qX];omega) (by rw[eg qX];exact ez),eg qX];simp only[dx];have m2:0<=(a[k]+1000000000*V rest) / V b:=Int.ediv_nonneg qX (by omega);have qb:(a[k]+1000000000*V rest) / V b<1000000000:=Int.ediv_lt_of_lt_mul kU ez;have ans:(L ((a[k]+1000000000*V rest) / V b)).length<=1:=(hX m2).2 (by simpa [B] using qb);have rE:=Int.mul_ediv_add_emod (a[k]+1000000000*V rest) (V b);have Ho:=Int.emod_nonneg (a[k]+1000000000*V rest) (b:=V b) (by omega);have Hp:0<=V b*((a[k]+1000000000*V rest) / V b):=Int.mul_nonneg (by omega) m2;rw[dw (by simp;omega),dw (by simp;omega),CJ m2 (by omega)];simp only[dx];rw[mul_eq aW.1 (hO _) (by omega) (by omega),eg m2];simp only[dx];rw[sub_eq (hO _) (hO _) ((hX Hp).2 (by have:=ow (hO (a[k]+1000000000*V rest));rw[eg qX] at this;omega)) (by rw[eg qX,eg Hp];omega) (by omega),eg qX,eg Hp];simp only[dx];rw[s7 (by omega),dG];congr 4;omega
  rw[show ((k+1:Nat):Int)-1=k by omega,N2];refine .inl ⟨_,rfl,?_⟩;by_cases aZ:a[k]+1000000000*V rest<V b
  ·rw[dw aZ]
   refine⟨⟨k,0::q,rfl,by omega,?_,by simp;omega,c2.cons (by omega) sv,iQ _,by rw[eg qX];exact aZ,?_⟩,by simp⟩
   ·simp only;rw[List.replicate_succ',List.append_assoc];rfl
   simp only;rw[bC,bf,mX,eg qX];grind
  rw[dA aZ];have ez:a[k]+1000000000*V rest<1000000000*V b:=(by omega);have Ho:=Int.emod_nonneg (a[k]+1000000000*V rest) (b:=V b) (by omega);refine⟨⟨k,(a[k]+1000000000*V rest) / V b::q,rfl,by omega,Nr _ _ _,by simp;omega,c2.cons ⟨Int.ediv_nonneg qX (by omega),Int.ediv_lt_of_lt_mul kU ez⟩ sv,iQ _,by rw[eg Ho];exact Int.emod_lt_of_pos _ kU,?_⟩,by simp⟩;simp only;rw[bC,bf,mX,eg Ho];have rE:=Int.mul_ediv_add_emod (a[k]+1000000000*V rest) (V b);generalize (a[k]+1000000000*V rest) / V b=u at *;generalize (a[k]+1000000000*V rest) % V b=t at *;grind
theorem div_eq {a b:ar}(bF:ga a)(aW:ga b)(m8:b≠[])(aS:a.length<=900000)(hm:b.length<=900000):w5 a b=some (L (V a / V b),L (V a % V b)):=by
 unfold w5;simp only[gy];by_cases h1:b.length=1
 ·obtain⟨k,d,aX,bC,tg,tr,xL⟩:=JC aW m8;have wx:k=0:=(by omega);subst wx;have Pd:V b=d:=(by simpa using xL);rw[dw (by simp[h1]),dw (by omega),bC];simp only[dC,dx];have rE:=Int.emod_nonneg (V a) (b:=d) (by omega);have Ho:=Int.emod_lt_of_pos (V a) tg;rw[ag4 bF.1 ⟨tg,tr⟩ (by omega)];simp only[dx];rw[CJ rE (by omega),Pd];rfl
 obtain⟨r,ai,e1,e2,bJ,c1⟩:=ag7 bF aW m8 aS hm;rw[dA (by simp;omega),dw (by omega),s7 (by omega),dy,ai];simp only[dC,dx];rw[uH e2 (by omega),c1,e1];rfl
theorem M7 {x y:Int}(U:0<=x):Int.gcd y (x % y)=Int.gcd x y:=by have:=Nat.gcd_rec y.natAbs x.natAbs;simp only[Int.gcd];rw[Nat.gcd_comm x.natAbs,this,Int.natAbs_emod_of_nonneg U,Nat.gcd_comm]
theorem Jl {x:Int}(U:0<=x):(Int.gcd x 0:Int)=x:=by rw[Int.gcd_zero_right];omega
theorem ag8 {x y:Int}(U:0<=x)(aV:0<=y)(Hq:x<9223372036854775808)(Hl:y<9223372036854775808):EN x y=some (L (Int.gcd x y)):=by
 have : ∃r,iter (fun w:Int×Int=>Bp w.1 w.2) (x,y)=some r/\(r=(Int.gcd x y:Int)/\r<9223372036854775808):=by
  refine kd (fp:=fun w:Int×Int=>0<=w.1/\0<=w.2/\w.1<9223372036854775808/\w.2<9223372036854775808/\Int.gcd w.1 w.2=Int.gcd x y) (m:=fun w:Int×Int=>w.2.toNat) _ ?_ _ ⟨U,aV,Hq,Hl,rfl⟩;rintro⟨u,v⟩ ⟨h1,h2,J,ak,au⟩;simp only at h1 h2 J ak au;by_cases bf:0<v
  ·have aP:=Int.emod_nonneg u (b:=v) (by omega);have a4:=Int.emod_lt_of_pos u bf;refine .inl ⟨(v,u % v),?_,⟨h2,aP,ak,by simp only;omega,by rw[<- au];exact M7 h1⟩,by simp only;omega⟩;unfold Bp;rw[dw (by simpa using bf),dw (by omega),sA h1]
  have Yn:v=0:=(by omega);subst Yn;refine .inr ⟨u,by simp[Bp],?_,J⟩;rw[<- au,Jl h1]
 obtain⟨r,ai,rfl,h⟩:=this;unfold EN Sv;rw[ai];simp only[dC,dx];rw[CJ (by omega) h];rfl
theorem JD {a:ar}(bF:ga a)(h:a.length<3):V a<9223372036854775808:=by
 have h1:=ow bF.1;have h2:=sW (m:=a.length) (n:=2) (by omega);have J:B 2=1000000000000000000:=by decide
 omega
theorem NK {a b:ar}(bF:ga a)(aW:ga b)(aS:a.length<=900000)(hm:b.length<=900000):Cr a b=some (L (Int.gcd (V a) (V b))):=by
 have : ∃r,iter (fun w:ar×ar=>yn w.1 w.2) (a,b)=some r/\r.elim id id=L (Int.gcd (V a) (V b)):=by
  refine kd (fp:=fun w:ar×ar=>ga w.1/\ga w.2/\w.1.length<=900000/\w.2.length<=900000/\Int.gcd (V w.1) (V w.2)=Int.gcd (V a) (V b)) (m:=fun w:ar×ar=>(V w.2).toNat) _ ?_ _ ⟨bF,aW,aS,hm,rfl⟩;rintro⟨x,y⟩ ⟨h1,h2,J,ak,au⟩;simp only at h1 h2 J ak au ⊢;have kk:=mC h1.1;have ql:=mC h2.1;by_cases aV:y=[]
  ·subst aV;refine .inr ⟨.inl x,by simp[yn,gy],?_⟩;rw[<- au,Dc,Jl kk];exact(wz h1).symm
  have Pe:=tX h2 aV;have akP:=aop.mpr aV;by_cases bG:x.length<3/\y.length<3
  ·refine .inr ⟨.inr (L (Int.gcd (V a) (V b))),?_,rfl⟩;unfold yn;simp only[gy];rw[dw (by simp;omega),dw (by simp;omega),dw (by simp;omega),T4 h1 (by omega) (JD h1 bG.1)];simp only[dC,dx];rw[T4 h2 (by omega) (JD h2 bG.2)];simp only[dx];rw[ag8 kk ql (JD h1 bG.1) (JD h2 bG.2),au];rfl
  have z7:=Int.emod_nonneg (V x) (b:=V y) (by omega);have akQ:=Int.emod_lt_of_pos (V x) Pe;refine .inl ⟨(y,L (V x % V y)),?_,⟨h2,iQ _,ak,(hX z7).2 ?_,?_⟩,?_⟩
  ·unfold yn
   simp only[gy];rw[dw (by simp;omega),div_eq h1 h2 aV J ak];by_cases wG:x.length<3
   ·rw[dw (by simp;omega),dA (by simp;omega)];rfl
   rw[dA (by simp;omega)];rfl
  ·have:=ow h2.1;have:=sW ak;omega
  ·simp only;rw[eg z7,<- au];exact M7 kk
  simp only;rw[eg z7];omega
 obtain⟨r,ai,h⟩:=this;unfold Cr Tc;rw[List.nil_append,List.nil_append,dw (by omega),dw (by omega),ai]
 cases r with
 | inl r=>exact congrArg some h
 | inr r=>exact congrArg some h
def qK (p:Nat)(l:ar):Prop:= ∀i z,i≠p->l[i]? = some z->0<=z/\z<1000000000
theorem qK.set {p:Nat}{l:ar}(h:qK p l){k:Nat}{x:Int}(U:0<=x/\x<1000000000):qK p (l.set k x):=fun i z aa cA=>by
 by_cases aX:k=i
 ·subst aX
  rw[aog] at cA;simp only[if_true] at cA;split at cA
  ·rw[<- dJ cA];exact U
  simp at cA
 rw[List.getElem?_set_ne aX] at cA;exact h i z aa cA
theorem qK.XG {p:Nat}{l:ar}(h:qK p l){x:Int}:qK p (l.set p x):=fun i z aa cA=>by rw[List.getElem?_set_ne (fun h=>aa h.symm)] at cA;exact h i z aa cA
theorem c2.toE {l:ar}(h:c2 l)(p:Nat):qK p l:=fun _ _ _ cA=>h.get cA
theorem afV {v row:ar}{bL ox i:Nat}{km carry x y:Int}(U:v[i]? = some x)(aV:row[bL+i]? = some y)(kk:0<=x/\x<1000000000)(ql:0<=y/\y<1000000000)(aW:0<=km/\km<1000000000)(aZ:0<=carry/\carry<1000000000)(hu:i<ox)(aS:row.length<=5000000):
 ∃c z,yo bL ox v km v.length carry i row=some (.inl (c,((i+1:Nat):Int),row.set (bL+i) z))/\0<=c/\c<1000000000/\0<=z/\z<1000000000/\z-1000000000*c=y-km*x-carry:=by
 have aa:=gm U;have aq:=gm aV;obtain⟨jz,iz⟩:=F3 aW kk;have e:R (R (y-R (km*x))-carry)=y-km*x-carry:=by rw[cT (x:=km*x) (by omega) (by omega),cT (x:=y-km*x) (by omega) (by omega),cT (by omega) (by omega)]
 by_cases cj:y-km*x-carry<0
 ·refine⟨(999999999-(y-km*x-carry)) / 1000000000,y-km*x-carry+(999999999-(y-km*x-carry)) / 1000000000*1000000000,?_,by omega,by omega,by omega,by omega,by omega⟩;unfold yo;rw[dw (by simp;omega),dw (by omega),dy,U];simp only[dC,dx];rw[dw (by omega),aV];simp only[dx,e];rw[dw (by simpa using cj),dw (by omega),px (n:=i) (by omega),cT (x:=999999999-(y-km*x-carry)) (by omega) (by omega),oP (by omega),cT (x:=(999999999-(y-km*x-carry)) / 1000000000) (by omega) (by omega),cT (x:=(999999999-(y-km*x-carry)) / 1000000000*1000000000) (by omega) (by omega),cT (by omega) (by omega)]
 refine⟨0,y-km*x-carry,?_,by omega,by omega,by omega,by omega,by omega⟩;unfold yo;rw[dw (by simp;omega),dw (by omega),dy,U];simp only[dC,dx];rw[dw (by omega),aV];simp only[dx,e];rw[dA (by simpa using cj),dw (by omega),px (n:=i) (by omega)]
theorem afW {v row:ar}{bL ox:Nat}{km:Int}(bf:c2 v)(ai:c2 row)(aW:0<=km/\km<1000000000)(hu:v.length<ox)(aT:bL+v.length<row.length)(aS:row.length<=5000000):
 ∃r,Tk bL ox v km v.length 0 0 row=some r/\0<=r.1/\r.1<1000000000/\c2 r.2/\r.2.length=row.length/\V r.2=V row-km*B bL*V v+r.1*B (bL+v.length)/\ ∀i,i<bL\/bL+v.length<=i->r.2[i]? = row[i]? := by
 refine kd (fp:=fun w:Int×Int×ar=> ∃(i:Nat),w.2.1=(i:Int)/\i<=v.length/\0<=w.1/\w.1<1000000000/\c2 w.2.2/\w.2.2.length=row.length/\V w.2.2=V row-km*B bL*V (v.take i)+w.1*B (bL+i)/\ ∀i,i<bL\/bL+v.length<=i->w.2.2[i]? = row[i]?) (m:=fun w:Int×Int×ar=>v.length-w.2.1.toNat) _ ?_ _ ⟨0,rfl,by omega,by simp,by simp,ai,rfl,by simp[V],fun _ _=>rfl⟩;rintro⟨carry,ii,ck⟩ ⟨i,h1,aa,od,oB,lP,hlen,hV,m0⟩;simp only at h1 od oB lP hlen hV m0 ⊢;subst h1;by_cases Dr:i=v.length
 ·subst Dr;exact .inr ⟨(carry,ck),by simp[yo],od,oB,lP,hlen,by simpa using hV,m0⟩
 have U:=dz (show i<v.length by omega);have aV:=dz (show bL+i<ck.length by omega);obtain⟨c,z,he,bY,bh,e5,pM,cA⟩:=afV (ox:=ox) U aV (bf.get U) (lP.get aV) aW ⟨od,oB⟩ (by omega) (by omega);rw[he];refine .inl ⟨_,rfl,⟨i+1,rfl,by omega,bY,bh,lP.set ⟨e5,pM⟩,by simpa using hlen,?_,fun k aX=> ?_⟩,by simp;omega⟩
 ·simp only;rw[uW aV,vP U,hV,<- Nat.add_assoc,nU,Gh];have u5:z=ck[bL+i]-km*v[i]-carry+1000000000*c:=(by omega);rw[u5];grind
 simp only;rw[List.getElem?_set_ne (by omega)];exact m0 k aX
theorem ait {v row:ar}{bL ox:Nat}{km:Int}(bf:c2 v)(ai:c2 row)(aW:0<=km/\km<1000000000)(hu:v.length<ox)(aT:bL+v.length<row.length)(aS:row.length<=5000000):
 ∃y e3,Fk v km bL ox row=some (decide (y<0),e3)/\e3.length=row.length/\qK (bL+v.length) e3/\e3[bL+v.length]? = some y/\ -1000000000<y/\y<1000000000/\V e3=V row-km*B bL*V v/\ ∀i,i<bL\/bL+v.length<i->e3[i]? = row[i]? := by
 obtain⟨r,jw,bY,bh,lP,hlen,hV,m0⟩:=afW bf ai aW hu aT aS;have U:=dz (show bL+v.length<r.2.length by omega);have kk:=lP.get U;refine⟨r.2[bL+v.length]-r.1,r.2.set (bL+v.length) (r.2[bL+v.length]-r.1),?_,by simpa using hlen,(c2.toE lP _).XG,?_,by omega,by omega,?_,fun i aa=> ?_⟩
 ·unfold Fk;simp only[gy];rw[jw];simp only[dC,dx,dy];rw[dw (by omega),U];simp only[dx];rw[dw (by omega),cT (by omega) (by omega),aog,dw rfl,dw (by omega)];rfl
 ·rw[aog,dw rfl,dw (by omega)]
 ·rw[uW U,hV];grind
 rw[List.getElem?_set_ne (by omega)];exact m0 i (by omega)
theorem afX {v row:ar}{bL ox:Nat}(bf:c2 v)(ai:qK (bL+v.length) row)(hu:v.length<ox)(aT:bL+v.length<row.length)(aS:row.length<=5000000):
 ∃r,Tl bL ox v v.length 0 0 row=some r/\0<=r.1/\r.1<=1/\qK (bL+v.length) r.2/\r.2.length=row.length/\V r.2=V row+B bL*V v-r.1*B (bL+v.length)/\ ∀i,i<bL\/bL+v.length<=i->r.2[i]? = row[i]? := by
 refine kd (fp:=fun w:Int×Int×ar=> ∃(i:Nat),w.2.1=(i:Int)/\i<=v.length/\0<=w.1/\w.1<=1/\qK (bL+v.length) w.2.2/\w.2.2.length=row.length/\V w.2.2=V row+B bL*V (v.take i)-w.1*B (bL+i)/\ ∀i,i<bL\/bL+v.length<=i->w.2.2[i]? = row[i]?) (m:=fun w:Int×Int×ar=>v.length-w.2.1.toNat) _ ?_ _ ⟨0,rfl,by omega,by simp,by simp,ai,rfl,by simp[V],fun _ _=>rfl⟩;rintro⟨carry,ii,ck⟩ ⟨i,h1,aa,od,oB,lP,hlen,hV,m0⟩;simp only at h1 od oB lP hlen hV m0 ⊢;subst h1;by_cases Dr:i=v.length
 ·subst Dr;exact .inr ⟨(carry,ck),by simp[BR],od,oB,lP,hlen,by simpa using hV,m0⟩
 have U:=dz (show i<v.length by omega);have aV:=dz (show bL+i<ck.length by omega);have kk:=bf.get U;have ql:=lP _ _ (by omega) aV;have he:BR bL ox v v.length carry i ck=some (.inl ((ck[bL+i]+v[i]+carry) / 1000000000,((i+1:Nat):Int),ck.set (bL+i) ((ck[bL+i]+v[i]+carry) % 1000000000))):=by unfold BR;rw[dw (by simp;omega),dw (by omega),dy,U];simp only[dC,dx];rw[dw (by omega),aV];simp only[dx];rw[dw (by omega),cT (x:=ck[bL+i]+v[i]) (by omega) (by omega),cT (x:=ck[bL+i]+v[i]+carry) (by omega) (by omega),sA (by omega),oP (by omega),cT (by omega) (by omega),px (n:=i) (by omega)]
 rw[he];refine .inl ⟨_,rfl,⟨i+1,rfl,by omega,by simp only;omega,by simp only;omega,lP.set (by omega),by simpa using hlen,?_,fun k aX=> ?_⟩,by simp;omega⟩
 ·simp only;rw[uW aV,vP U,hV,<- Nat.add_assoc,nU,Gh];have:=Int.mul_ediv_add_emod (ck[bL+i]+v[i]+carry) 1000000000;generalize (ck[bL+i]+v[i]+carry) / 1000000000=q at *;generalize (ck[bL+i]+v[i]+carry) % 1000000000=t at *;have u5:t=ck[bL+i]+v[i]+carry-1000000000*q:=(by omega);rw[u5];grind
 simp only;rw[List.getElem?_set_ne (by omega)];exact m0 k aX
theorem aiu {v row:ar}{bL ox:Nat}{y:Int}(bf:c2 v)(ai:qK (bL+v.length) row)(hu:v.length<ox)(aT:bL+v.length<row.length)(aS:row.length<=5000000)(aV:row[bL+v.length]? = some y)(ql:-1000000000<y)(Hl:y<1000000000):
 ∃nM e3,Ct v bL ox row=some e3/\e3.length=row.length/\qK (bL+v.length) e3/\e3[bL+v.length]? = some nM/\V e3=V row+B bL*V v/\ ∀i,i<bL\/bL+v.length<i->e3[i]? = row[i]? := by
 obtain⟨r,jw,bY,bh,lP,hlen,hV,m0⟩:=afX bf ai hu aT aS;have U:r.2[bL+v.length]? = some y:=by rw[m0 _ (by omega)];exact aV
 refine⟨y+r.1,r.2.set (bL+v.length) (y+r.1),?_,by simpa using hlen,lP.XG,?_,?_,fun i aa=> ?_⟩
 ·unfold Ct;simp only[gy];rw[jw];simp only[dC,dx,dy];rw[dw (by omega),U];simp only[dx];rw[dw (by omega),cT (by omega) (by omega)]
 ·rw[aog,dw rfl,dw (by omega)]
 ·rw[uW U,hV];grind
 rw[List.getElem?_set_ne (by omega)];exact m0 i (by omega)
theorem ag9 {g q v1 v2 top iA rest aY W P:Int}(gq:1<=P)(dm:0<=g)(cj:g*v1+rest=top)(xK:P*(v1*1000000000+v2)<=W)(Pb:aY<P*(top*1000000000+iA+1))(Yx:q*W<=aY)(hW:0<=W)(h:rest*1000000000+iA<g*v2):q<g:=by
 apply Int.not_le.mp;intro xM;have h1:g*W<=q*W:=Int.mul_le_mul_of_nonneg_right xM hW;have h2:g*(P*(v1*1000000000+v2))<=g*W:=dL xK dm;have J:g*(P*(v1*1000000000+v2))=P*(g*(v1*1000000000+v2)):=by grind
 have ak:P*(g*(v1*1000000000+v2))<P*(top*1000000000+iA+1):=by omega
 have au:=Int.lt_of_mul_lt_mul_left ak (by omega);have aP:g*(v1*1000000000+v2)=1000000000*(g*v1)+g*v2:=by grind
 omega
theorem U6 {g v1 v2 top iA rest aY W P:Int}(gq:1<=P)(dm:0<=g)(xN:g<=999999999)(uq:1<=v1)(Hr:0<=v2)(cj:g*v1+rest=top)(xK:P*(v1*1000000000+v2)<=W)(Kw:W<P*(v1*1000000000+v2+1))(Kv:P*(top*1000000000+iA)<=aY)(h:g*v2<=rest*1000000000+iA):g<=aY / W+1:=by
 have Hs:P*1000000000<=W:=by have h1:P*1000000000<=P*(v1*1000000000+v2):=dL (by omega) (by omega);omega
 have h1:g*W<=g*(P*(v1*1000000000+v2+1)):=dL (by omega) dm;have h2:g*(P*(v1*1000000000+v2+1))=P*(1000000000*(g*v1)+g*v2+g):=by grind
 have J:P*(1000000000*(g*v1)+g*v2+g)<=P*(top*1000000000+iA+999999999):=dL (by omega) (by omega);have ak:P*(top*1000000000+iA+999999999)=P*(top*1000000000+iA)+P*999999999:=by grind
 have au:(g-1)*W=g*W-W:=by grind
 have:g-1<=aY / W:=(Int.le_ediv_iff_mul_le (by omega)).2 (by omega);omega
theorem afe {ad u j4 ax:ar}{N n j:Nat}{v1 v2 iA top aY W P:Int}(aS:2<=n)(Ke:n<=5000000)(Ht:j+n<N)(gJ:N<=5000000)(h1:j4[n-1]? = some v1)(h2:j4[n-2]? = some v2)(J:u[j+n-2]? = some iA)
 (uq:1<=v1/\v1<1000000000) (Hr:0<=v2/\v2<1000000000) (ant:0<=iA/\iA<1000000000) (gq:1<=P) (xK:P*(v1*1000000000+v2)<=W) (Kw:W<P*(v1*1000000000+v2+1)) (Kv:P*(top*1000000000+iA)<=aY) (Pb:aY<P*(top*1000000000+iA+1)) (da:0<=aY) (Pc:aY<1000000000*W) (oj:0<=top) (anu:top<=v1*1000000000+999999999) (a0:aY / W<=top / v1) :
 ∃g,TH N n n j ad u j4 ax (top / v1) (top % v1)=some g/\(aY / W=g\/aY / W+1=g)/\0<=g/\g<=999999999:=by
 have Hs:0<W:=by have h1:P*1000000000<=P*(v1*1000000000+v2):=dL (by omega) (by omega);omega
 have m2:0<=aY / W:=Int.ediv_nonneg da (by omega);have qb:aY / W<1000000000:=Int.ediv_lt_of_lt_mul Hs Pc;have Yx:aY / W*W<=aY:=Int.ediv_mul_le _ (by omega);have akS:=Int.mul_ediv_add_emod top v1;have pF:=Int.emod_nonneg top (b:=v1) (by omega);have rE:=Int.emod_lt_of_pos top (b:=v1) (by omega);have Og:R ((n:Int)-1)=((n-1:Nat):Int):=by rw[cT (by omega) (by omega)];omega
 have ajL:R ((n:Int)-2)=((n-2:Nat):Int):=by rw[cT (by omega) (by omega)];omega
 have ajM:R (R ((j:Int)+(n:Int))-2)=((j+n-2:Nat):Int):=by rw[cT (x:=(j:Int)+n) (by omega) (by omega),cT (by omega) (by omega)];omega
 have J1:top / v1<=top:=Int.ediv_le_self _ oj;refine kd (fp:=fun w:Int×Int=>w.1*v1+w.2=top/\0<=w.2/\w.2<1000000000/\aY / W<=w.1/\w.1<=top) (m:=fun w:Int×Int=>w.1.toNat) _ ?_ _ ⟨by rw[Int.mul_comm];exact akS,pF,by simp only;omega,a0,J1⟩;rintro⟨g,rest⟩ ⟨i1,i2,PJ,HF,alP⟩;simp only at i1 i2 PJ HF alP ⊢;have Pf:R (rest+v1)=rest+v1:=cT (by omega) (by omega);have Pg:R (g-1)=g-1:=cT (by omega) (by omega);have xN:(g-1)*v1+(rest+v1)=top:=by grind
 have WS:aY / W<=g-1->1000000000<=rest+v1->(aY / W=g-1\/aY / W+1=g-1)/\0<=g-1/\g-1<=999999999:=by intro l2 jt;have my:(g-1)*v1<1000000000*v1:=(by omega);have PK:g-1<1000000000:=Int.lt_of_mul_lt_mul_right my (by omega);have Zd:0<=g-1:=(by omega);have an3:=(F3 ⟨Zd,PK⟩ Hr).2;have:=U6 gq Zd (by omega) uq.1 Hr.1 xN xK Kw Kv (by omega);omega
 by_cases Oh:1000000000<=g
 ·by_cases aW:1000000000<=rest+v1
  ·refine .inr ⟨g-1,?_,WS (by omega) aW⟩;unfold yr;rw[dw (by simpa using Oh),Og,dw (by omega),dG,dy,h1];simp only[dC,dx,Pf,Pg];rw[dw (by simpa using aW)]
  refine .inl ⟨(g-1,rest+v1),?_,⟨xN,by simp only;omega,by simp only;omega,by simp only;omega,by simp only;omega⟩,by simp only;omega⟩;unfold yr;rw[dw (by simpa using Oh),Og,dw (by omega),dG,dy,h1];simp only[dC,dx,Pf,Pg];rw[dA (by simpa using aW)]
 have kv:0<=g:=by omega
 obtain⟨jz,iz⟩:=F3 ⟨kv,by omega⟩ Hr;have e1:R (R (rest*1000000000)+iA)=rest*1000000000+iA:=by rw[cT (x:=rest*1000000000) (by omega) (by omega),cT (by omega) (by omega)]
 have e2:R (g*v2)=g*v2:=cT (by omega) (by omega)
 have N2:yr N n n j ad u j4 ax g rest=some (if rest*1000000000+iA<g*v2 then (if 1000000000<=rest+v1 then .inr (g-1) else .inl (g-1,rest+v1)) else .inr g):=by
  unfold yr;rw[dA (by simpa using Oh),ajL,dw (by omega),dG,dy,h2];simp only[dC,dx];rw[ajM,dw (by omega),dG,dy,J];simp only[dx,e1,e2];by_cases aZ:rest*1000000000+iA<g*v2
  ·rw[dw (by simpa using aZ),dw aZ,Og,dw (by omega),dG,dy,h1]
   simp only[dx,Pf,Pg];by_cases aW:1000000000<=rest+v1
   ·rw[dw (by simpa using aW),dw aW]
   rw[dA (by simpa using aW),dA aW]
  rw[dA (by simpa using aZ),dA aZ]
 rw[N2];by_cases aZ:rest*1000000000+iA<g*v2
 ·have anv:=ag9 gq kv i1 xK Pb Yx (by omega) aZ
  rw[dw aZ];by_cases aW:1000000000<=rest+v1
  ·rw[dw aW];exact .inr ⟨g-1,rfl,WS (by omega) aW⟩
  rw[dA aW];exact .inl ⟨(g-1,rest+v1),rfl,⟨xN,by simp only;omega,by simp only;omega,by simp only;omega,by simp only;omega⟩,by simp only;omega⟩
 rw[dA aZ];have:=U6 gq kv (by omega) uq.1 Hr.1 i1 xK Kw Kv (by omega);exact .inr ⟨g,rfl,by omega,by omega,by omega⟩
theorem afY {a b:ar}{k:Nat}(h:∀i,k<=i->a[i]? = b[i]?):a.drop k=b.drop k:=by apply aol;intro i;rw[aoo,aoo];exact h _ (by omega)
theorem afZ {a b:ar}{k:Nat}(h:∀i,i<k->a[i]? = b[i]?):a.take k=b.take k:=by
 apply aol;intro i;rw[an9,an9];by_cases aa:i<k
 ·rw[dw aa,dw aa];exact h i aa
 rw[dA aa,dA aa]
theorem Yy {u w:ar}{j n:Nat}{y c:Int}(hlen:w.length=u.length)(Ht:j+n<u.length)(eB:qK (j+n) w)(aV:w[j+n]? = some y)(m0:∀i,i<j\/j+n<i->w[i]? = u[i]?)(h0:V (u.drop (j+n+1))=0)(hV:V w=V u-c*B j):
 V (w.drop j)=V (u.drop j)-c/\ ∃low,0<=low/\low<B n/\V (w.drop j)=low+B n*y:=by
 have h1:=y5 (l:=u) (n:=j) (by omega);have h2:=y5 (l:=w) (n:=j) (by omega);rw[afZ (a:=w) (b:=u) (fun i aa=>m0 i (.inl aa))] at h2;have J:B j*V (w.drop j)=B j*(V (u.drop j)-c):=by grind
 have gl:=ps j;have ak:V (w.drop j)=V (u.drop j)-c:=Int.eq_of_mul_eq_mul_left (by omega) J;refine⟨ak,V ((w.drop j).take n),?_,?_,?_⟩
 ·refine mC (fun x U=> ?_);obtain⟨i,aa⟩:=List.mem_iff_getElem?.mp U;have lA:=gm aa;simp at lA;rw[an9,dw (by omega),aoo] at aa;exact eB _ _ (by omega) aa
 ·have aT:c2 ((w.drop j).take n):=fun x U=>by
   obtain⟨i,aa⟩:=List.mem_iff_getElem?.mp U;have lA:=gm aa;simp at lA;rw[an9,dw (by omega),aoo] at aa;exact eB _ _ (by omega) aa
  have:=ow aT
  rwa [List.length_take,Nat.min_eq_left (by simp;omega)] at this
 have au:=y5 (l:=w.drop j) (n:=n) (by simp;omega);rw[List.drop_drop,qx aV,afY (a:=w) (b:=u) (k:=j+n+1) (fun i aa=>m0 i (.inr (by omega))),h0] at au;rw[au];grind
theorem U7 {w:ar}{p:Nat}(eB:qK p w)(aV:w[p]? = some 0):c2 w:=fun x U=>by
 obtain⟨i,aa⟩:=List.mem_iff_getElem?.mp U;by_cases h:i=p
 ·subst h;rw[aV] at aa;have:=dJ aa;omega
 exact eB i x h aa
theorem VD {low y X Ap W:Int}(h0:0<=low)(h1:low<Ap)(KN:X=low+Ap*y)(h2:0<=X)(J:X<W)(ak:W<=Ap):y=0:=by
 have ez:Ap*y<Ap*1:=by omega
 have au:=Int.lt_of_mul_lt_mul_left ez (by omega);have Km:Ap*(-1)<Ap*y:=by omega
 have aP:=Int.lt_of_mul_lt_mul_left Km (by omega);omega
theorem af0 {ad u j4 ax:ar}{n j:Nat}{v1 W:Int}(aS:2<=n)(Hu:n<=j4.length)(bf:c2 (j4.take n))(hW:V (j4.take n)=W)(uq:j4[n-1]? = some v1)(Oi:1<=v1)(hu:c2 u)(z8:u.length<=5000000)(Ht:j+n<u.length)(ez:V (u.drop (j+1))<W)(anw:j<ax.length):
 ∃mT,ys u.length n n ad j4 j u ax=some (.inl ((j:Int)-1,mT,ax.set j (V (u.drop j) / W)))/\c2 mT/\mT.length=u.length/\V mT=V u-(V (u.drop j) / W)*B j*W/\V (mT.drop j)<W/\0<=V (u.drop j) / W/\V (u.drop j) / W<1000000000:=by
 obtain⟨n,rfl⟩ : ∃m,n=m+2:=⟨n-2,by omega⟩;have sf:(j4.take (n+2)).length=n+2:=by simp;omega
 have xN:(j4.take (n+2))[n+1]? = some v1:=by rw[an9,dw (by omega)];exact uq
 have Yz:=dz (show n<j4.length by omega);have XH:(j4.take (n+2))[n]? = some j4[n]:=by rw[an9,dw (by omega)];exact Yz
 have ajN:=bf.get xN;have ajO:=bf.get XH;have kk:=dz (show j+(n+2)<u.length by omega);have Hq:=dz (show j+(n+1)<u.length by omega);have ud:=dz (show j+n<u.length by omega);have YA:=dz (show j<u.length by omega);have m8:=hu.get kk;have xA:=hu.get Hq;have OL:=hu.get ud;have anx:=hu.get YA;have wH:=uI bf (k:=n+1) (by omega);rw[FF xN (by omega),hW] at wH;have Ph:=uI bf (k:=n) (by omega);rw[qx XH,FF xN (by omega),hW] at Ph;have Oj:=ow bf;rw[sf,hW] at Oj;have anz:0<=W:=by rw[<- hW];exact mC bf
 have cA:=uI (hu.drop (j+1)) (k:=n+2) (by simp;omega);rw[List.drop_drop] at cA;have akT:=mC (hu.drop (j+1+(n+2)));have anA:=ps (n+2);have h0:V (u.drop (j+(n+2)+1))=0:=by rw[show j+(n+2)+1=j+1+(n+2) by omega];apply Int.le_antisymm _ akT;apply Int.not_lt.mp;intro h;have:B (n+2)*1<=B (n+2)*V (u.drop (j+1+(n+2))):=dL (by omega) (by omega);omega
 have oj:V (u.drop (j+(n+2)))=u[j+(n+2)]:=by rw[qx kk,h0];omega
 have J1:V (u.drop (j+(n+1)))=u[j+(n+1)]+1000000000*u[j+(n+2)]:=by rw[qx Hq,show j+(n+1)+1=j+(n+2) by omega,oj]
 have iq:V (u.drop (j+n))=u[j+n]+1000000000*(u[j+(n+1)]+1000000000*u[j+(n+2)]):=by rw[qx ud,show j+n+1=j+(n+1) by omega,J1]
 have jw:=uI (hu.drop j) (k:=n+1) (by simp;omega);rw[List.drop_drop,J1] at jw;have z9:=uI (hu.drop j) (k:=n) (by simp;omega);rw[List.drop_drop,iq] at z9;have qX:=mC (hu.drop j);have da:V (u.drop j)<1000000000*W:=by rw[qx YA];omega
 have akU:=ps n;have ajP:=ps (n+1);have zS:u[j+(n+2)]<=v1:=by have h1:=uI (hu.drop (j+1)) (k:=n+1) (by simp;omega);rw[List.drop_drop,show j+1+(n+1)=j+(n+2) by omega,oj] at h1;have h2:B (n+1)*u[j+(n+2)]<B (n+1)*(v1+1):=(by omega);have:=Int.lt_of_mul_lt_mul_left h2 (by omega);omega
 have ajQ:=TK ajP jw.1 jw.2 wH.1 wH.2 (by omega) (by omega) da
 obtain⟨g,dm,xM,akV,anB⟩:=afe (ad:=ad) (ax:=ax) (N:=u.length) (n:=n+2) (j:=j) (v1:=v1) (v2:=j4[n]) (iA:=u[j+n]) (top:=u[j+(n+1)]+1000000000*u[j+(n+2)]) (aY:=V (u.drop j)) (W:=W) (P:=B n) (u:=u) (j4:=j4) (by omega) (by omega) Ht z8 uq Yz ud ⟨Oi,ajN.2⟩ ajO OL akU
  (by rw[Int.mul_comm v1,Int.add_comm];exact Ph.1) (by rw[Int.mul_comm v1,Int.add_comm (1000000000*v1)];exact Ph.2)
  (by rw[Int.mul_comm (u[j+(n+1)]+_),Int.add_comm];exact z9.1) (by rw[Int.mul_comm (u[j+(n+1)]+_),Int.add_comm (1000000000*_) u[j+n]];exact z9.2) qX da (by omega) (by omega) ajQ.2.1
 have Hs:0<W:=by have:B (n+1)*1<=B (n+1)*v1:=dL (by omega) (by omega);omega
 have m2:0<=V (u.drop j) / W:=Int.ediv_nonneg qX (by omega);have qb:V (u.drop j) / W<1000000000:=Int.ediv_lt_of_lt_mul Hs da;have hm:=Int.mul_ediv_add_emod (V (u.drop j)) W;have pF:=Int.emod_nonneg (V (u.drop j)) (b:=W) (by omega);have rE:=Int.emod_lt_of_pos (V (u.drop j)) Hs;obtain⟨y,w,cj,Aa,Ky,Kz,ql,Hl,KA,NL⟩:=ait (v:=j4.take (n+2)) (row:=u) (bL:=j) (ox:=u.length-j) (km:=g) bf hu ⟨akV,by omega⟩ (by omega) (by omega) z8;rw[sf] at Ky Kz NL;rw[hW] at KA;obtain⟨wG,low,o8,KB,wv⟩:=Yy (c:=g*W) Aa Ht Ky Kz NL h0 (by rw[KA];grind);have akW:R ((j:Int)-1)=(j:Int)-1:=s7 (by omega);have e1:R ((j:Int)+((n+2:Nat):Int))=((j+(n+2):Nat):Int):=by rw[cT (by omega) (by omega)];omega
 have e2:R (((j+(n+2):Nat):Int)-1)=((j+(n+1):Nat):Int):=by rw[cT (by omega) (by omega)];omega
 have bJ:R (((n+2:Nat):Int)-1)=((n+1:Nat):Int):=by rw[cT (by omega) (by omega)];omega
 have c1:R (R (u[j+(n+2)]*1000000000)+u[j+(n+1)])=u[j+(n+1)]+1000000000*u[j+(n+2)]:=by rw[cT (x:=u[j+(n+2)]*1000000000) (by omega) (by omega),cT (by omega) (by omega)];omega
 have dl:0<=u[j+(n+1)]+1000000000*u[j+(n+2)]:=by omega
 have et:(u[j+(n+1)]+1000000000*u[j+(n+2)]) / v1<=u[j+(n+1)]+1000000000*u[j+(n+2)]:=Int.ediv_le_self _ dl;have ey:0<=(u[j+(n+1)]+1000000000*u[j+(n+2)]) / v1:=Int.ediv_nonneg dl (by omega);have ajR:j4[n+1]? = some v1:=uq
 have pre:ys u.length (n+2) ((n+2:Nat):Int) ad j4 j u ax =
  (if (decide (y<0))=true then
    Ct (j4.take (n+2)) j (u.length-j) w >>= fun kI=>some (.inl ((j:Int)-1,kI,ax.set j (R (g-1))))
  else some (.inl ((j:Int)-1,w,ax.set j g))):=by
  unfold ys;rw[dw (by simp)];simp only[e1,e2,bJ,dy,dG,akW];rw[dw (by omega),kk];simp only[dC,dx];rw[dw (by omega),Hq];simp only[dx];rw[dw (by omega),ajR];simp only[dx];rw[dw (by omega),c1,oP dl,sA dl,cT (by omega) (by omega),dm];simp only[dx];rw[dw (by omega),dw (by omega),dw (by omega),List.drop_zero,cj];simp only[dx];by_cases aV:y<0
  ·have bC:(decide (y<0))=true:=(by simpa using aV);simp only[dw bC];congr 1;funext r;rw[dw (by omega),dw (by omega)]
  have bC : ¬(decide (y<0))=true:=(by simpa using aV);simp only[dA bC];rw[dw (by omega),dw (by omega)]
 rcases xM with xM|xM
 ·subst xM;have KN:V (w.drop j)=V (u.drop j) % W:=(by rw[wG];grind);have aV:y=0:=VD (W:=W) o8 KB wv (by rw[KN];exact pF) (by rw[KN];exact rE) (Int.le_of_lt Oj);subst aV;refine⟨w,?_,U7 Ky Kz,Aa,KA,by omega,m2,qb⟩;rw[pre];rfl
 have KN:V (w.drop j)=V (u.drop j) % W-W:=by rw[wG,<- xM];grind
 have aV:y<0:=by apply Int.not_le.mp;intro h;have:0<=B (n+2)*y:=Int.mul_nonneg (by omega) h;omega
 obtain⟨nM,bQ,n4,am3,Ok,Ol,XI,We⟩:=aiu (v:=j4.take (n+2)) (row:=w) (bL:=j) (ox:=u.length-j) (y:=y) bf (by rw[sf];exact Ky) (by omega) (by omega) (by omega) (by rw[sf];exact Kz) ql Hl;rw[sf] at Ok Ol We;rw[hW] at XI;have YB:V bQ=V u-V (u.drop j) / W*B j*W:=by rw[XI,KA,<- xM];grind
 obtain⟨ajS,am4,ajT,ajU,ajV⟩:=Yy (c:=V (u.drop j) / W*W) (by omega) Ht Ok Ol (fun i aa=>by rw[We i aa,NL i aa]) h0 (by rw[YB];grind);have YC:V (bQ.drop j)=V (u.drop j) % W:=by rw[ajS];grind
 have pH:nM=0:=VD (W:=W) ajT ajU ajV (by rw[YC];exact pF) (by rw[YC];exact rE) (Int.le_of_lt Oj);subst pH;refine⟨bQ,?_,U7 Ok Ol,by omega,YB,by omega,m2,qb⟩;rw[pre,dw (by simpa using aV),n4];simp only[dC,dx];rw[cT (by omega) (by omega),show g-1=V (u.drop j) / W by omega]
theorem af1 {ad j4 u:ar}{n m:Nat}{v1 W:Int}(aS:2<=n)(Hu:n<=j4.length)(bf:c2 (j4.take n))(hW:V (j4.take n)=W)(uq:j4[n-1]? = some v1)(Oi:1<=v1)(hu:c2 u)(z8:u.length<=5000000)(hm:m+n=u.length)(ez:V (u.drop m)<W):
 ∃r,TI u.length n n ad j4 ((m:Int)-1) u (List.replicate m 0)=some r/\c2 r.1/\r.1.length=u.length/\V r.1<W/\c2 r.2/\r.2.length=m/\V u=V r.2*W+V r.1:=by
 refine kd (fp:=fun w:Int×ar×ar=> ∃(k:Nat) (q:ar),w.1=(k:Int)-1/\k<=m/\c2 w.2.1/\w.2.1.length=u.length/\w.2.2=List.replicate k 0++q/\q.length+k=m/\c2 q/\V (w.2.1.drop k)<W/\V u=V w.2.1+B k*V q*W) (m:=fun w:Int×ar×ar=>(w.1+1).toNat) _ ?_ _ ⟨m,[],rfl,by omega,hu,rfl,by simp,by simp,c2.nil,ez,by simp[V]⟩;rintro⟨alO,mT,ax⟩ ⟨k,q,h1,aX,qc,hlen,J,a0,sv,Om,hV⟩;simp only at h1 qc hlen J Om hV ⊢;subst h1 J
 cases k with
 | zero =>
  refine .inr ⟨(mT,q),by simp[ys],qc,hlen,by simpa using Om,sv,by simpa using a0,?_⟩;rw[hV];simp[B];omega
 | succ k =>
  obtain⟨anC,he,s1,s2,xR,Ze,alQ,alR⟩:=af0 (ad:=ad) (j4:=j4) (u:=mT) (ax:=List.replicate (k+1) 0++q) (j:=k) aS Hu bf hW uq Oi qc (by omega) (by omega) Om (by simp;omega);rw[hlen] at he;rw[show ((k+1:Nat):Int)-1=k by omega,he];refine .inl ⟨_,rfl,⟨k,V (mT.drop k) / W::q,rfl,by omega,s1,s2.trans hlen,Nr _ _ _,by simp;omega,c2.cons ⟨alQ,alR⟩ sv,Ze,?_⟩,by simp only;omega⟩;simp only;rw[hV,xR,mX,nU];grind
theorem M8 {a:ar}(h:a.length<=900000):y7 a=some a:=by unfold y7;rw[dw (by omega)]
theorem aff {a b q s:Int}(h:a=q*b+s)(h0:0<=s)(h1:s<b):a / b=q/\a % b=s:=by
 subst h;constructor
 ·rw[Int.add_comm,Int.add_mul_ediv_right _ _ (by omega),Int.ediv_eq_zero_of_lt h0 h1];omega
 rw[Int.add_comm,Int.add_mul_emod_self_right];exact Int.emod_eq_of_lt h0 h1
theorem Jm {a b:ar}(bF:ga a)(aW:ga b)(m8:b≠[])(aS:a.length<=900000)(hm:b.length<=900000):vJ a b=some (L (V a / V b),L (V a % V b)):=by
 have kU:=tX aW m8;have Kd:=mC bF.1;unfold vJ;simp only[gy];rw[IH bF aW (by omega)];simp only[dC,dx];by_cases aZ:V a<V b
 ·rw[dw (by simpa using xd.2 aZ),M8 aS,Int.ediv_eq_zero_of_lt Kd aZ,Int.emod_eq_of_lt Kd aZ,r3,wz bF];rfl
 rw[dA (fun h=>aZ (xd.1 (by simpa using h)))];obtain⟨k,d,aX,bC,tg,tr,xL⟩:=JC aW m8;by_cases h1:b.length=1
 ·have wx:k=0:=(by omega);subst wx;have Pd:V b=d:=(by simpa using xL);rw[dw (by simp[h1]),dw (by omega),bC];simp only[dx];have rE:=Int.emod_nonneg (V a) (b:=d) (by omega);have Ho:=Int.emod_lt_of_pos (V a) tg;rw[TJ bF.1 ⟨tg,tr⟩ (by omega)];simp only[dx];rw[Gl rE (by omega),Mz rE (by omega),Pd];rfl
 have hw:R ((b.length:Int)-1)=(k:Int):=by rw[cT (by omega) (by omega)];omega
 have e1:R (d+1)=d+1:=cT (by omega) (by omega);have DO:1<=1000000000 / (d+1):=by apply (Int.le_ediv_iff_mul_le (by omega)).2;omega
 have Hv:1000000000 / (d+1)<1000000000:=by apply Int.ediv_lt_of_lt_mul (by omega);omega
 have akX:1000000000 / (d+1)*(d+1)<=1000000000:=Int.ediv_mul_le _ (by omega);have e2:R ((1000000000:Int).tdiv (d+1))=1000000000 / (d+1):=by rw[oP (by omega),cT (by omega) (by omega)]
 rw[dA (by simp;omega),hw,dw (by omega),dy,bC];simp only[dx,e1,e2];generalize 1000000000 / (d+1)=f at *;rw[dw (by omega)];have kR:c2 [f]:=c2.cons (by omega) c2.nil;have akY:V [f]=f:=by simp[V]
 have akZ:a≠[]:=by intro h;subst h;simp[V] at aZ;omega
 obtain⟨nO,Aq,ak0,anD,ak1,KC,anE⟩:=Uy bF.1 kR akZ (by simp) (by omega) (by simp);obtain⟨HL,j4,ak2,anF,ak3,Pj,anG⟩:=Uy aW.1 kR m8 (by simp) (by omega) (by simp);rw[akY] at KC Pj;rw[ak0];simp only[dx];simp only[List.length_singleton] at ak1 ak3;have anH:=ps k;have ak4:V b*f<B b.length:=by have h2:=(uI aW.1 (k:=k) (by omega)).2;rw[xL] at h2;have J:V b*f<=(B k*(d+1)-1)*f:=Int.mul_le_mul_of_nonneg_right (by omega) (by omega);have ak:(B k*(d+1)-1)*f=B k*(f*(d+1))-f:=(by grind);have au:B k*(f*(d+1))<=B k*1000000000:=dL akX (by omega);rw[aX,nU];omega
 have anI:V b<=V b*f:=by have:V b*1<=V b*f:=dL DO (by omega);omega
 have anJ:V a<=V a*f:=by have:V a*1<=V a*f:=dL DO (by omega);omega
 have Pk:0<=V b*f:=by omega
 have YD:0<=V a*f:=by omega
 have YE:HL=b.length:=by have h2:(j4.take HL).length=HL:=(by simp;omega);rw[Pj] at h2;have J:=(hX Pk (k:=b.length)).2 ak4;have ak:=JX aW m8;have au : ¬(L (V b*f)).length<=b.length-1:=fun h=>(by have:=(hX Pk).1 h;omega);omega
 have ak5:(L (V a*f)).length=nO:=by rw[<- KC];simp;omega
 have XJ:=ow (hO (V a*f));rw[eg YD,ak5] at XJ;have am5:a.length<=nO:=bF.len.2 (by omega);have anK:b.length<=a.length:=Nat.le_of_not_lt fun h=>by have:=Ji bF aW h;omega
 rw[dw (by omega),dw (by simp;omega),ak2];simp only[dx];have z8:(Aq.take nO++[0]).length=nO+1:=by simp;omega
 have Pl:Mi a HL [f] j4 (Aq.take nO++[0])=some (Aq.take nO++[0]):=by unfold Mi;rw[iter];unfold H7;simp only[gy,z8];rw[dA (by simp;omega)];rfl
 rw[Pl];simp only[dx,z8];have m4:R (((nO+1:Nat):Int)-((HL:Nat):Int))=((nO+1-b.length:Nat):Int):=by rw[cT (by omega) (by omega)];omega
 rw[m4,dw (by omega),s7 (by omega),dy];have Xm:c2 (Aq.take nO++[0]):=by rw[KC];exact(hO _).append (c2.cons (by omega) c2.nil)
 have YF:V (Aq.take nO++[0])=V a*f:=by rw[yW,KC,eg YD];simp[V]
 have NM:j4.take b.length=L (V b*f):=by rw[<- YE];exact Pj
 have ak6:V (j4.take b.length)=V b*f:=by rw[NM,eg Pk]
 obtain⟨eD,Ar,oC,se,am6,am7,am8⟩:=JC (iQ (V b*f)) (fun h=>by have:=s6.1 h;omega);rw[<- NM] at oC se;have sf:(j4.take b.length).length=b.length:=by simp;omega
 have zV:j4[b.length-1]? = some Ar:=by
  rw[an9] at se;rw[show b.length-1=eD by omega];split at se
  ·exact se
  simp at se
 have ajW:V ((Aq.take nO++[0]).drop (nO+1-b.length))<V b*f:=by have h2:=(uI Xm (k:=nO+1-b.length) (by omega)).1;rw[YF] at h2;have J:=JX aW m8;have ak:B nO=B (nO+1-b.length)*B (b.length-1):=(by rw[<- Gh];congr 1;omega);rw[ak] at XJ;have au:B (nO+1-b.length)*V ((Aq.take nO++[0]).drop (nO+1-b.length))<B (nO+1-b.length)*B (b.length-1):=(by omega);have:=Int.lt_of_mul_lt_mul_left au (by have:=ps (nO+1-b.length);omega);omega
 obtain⟨r,ai,r1,r2,a7,aM,aR,bB⟩:=af1 (ad:=[f]) (m:=nO+1-b.length) (by omega) (by omega) (by rw[NM];exact hO _) ak6 zV (by omega) Xm (by omega) (by omega) ajW;rw[z8] at ai r2;rw[YE,ai];simp only[dx];rw[dw (by omega),List.drop_zero,dP (by omega),CS r1 (by omega)];simp only[dx];have Hn:=mC r1;rw[YF] at bB;have bG:V r.1=(V a-V r.2*V b)*f:=by grind
 have ak7:0<=V a-V r.2*V b:=by apply Int.not_lt.mp;intro h;have:(V a-V r.2*V b)*f<=(-1)*f:=Int.mul_le_mul_of_nonneg_right (by omega) (by omega);omega
 have wG:V a-V r.2*V b<V b:=by apply Int.lt_of_mul_lt_mul_right (a:=f) _ (by omega);omega
 obtain⟨q1,q2⟩:=aff (a:=V a) (b:=V b) (q:=V r.2) (s:=V a-V r.2*V b) (by omega) ak7 wG;rw[dw (by simp)];simp only[List.getElem?_cons_zero,dx];have Hc:(L (V r.1)).length<=nO+1:=(hX Hn).2 (by have:=ow r1;rwa [r2] at this);rw[TJ (hO _) ⟨by omega,Hv⟩ (by omega),eg Hn];simp only[dx];rw[CS aM (by omega)];simp only[dx];rw[q1,q2,bG,Int.mul_ediv_cancel _ (by omega)]
theorem UB {a b:ar}(bF:ga a)(aW:ga b)(aS:a.length<=900000)(hm:b.length<=900000):Cn a b=some (L (Int.gcd (V a) (V b))):=by
 have : ∃r,iter (fun w:ar×ar=>BH w.1 w.2) (a,b)=some r/\r=L (Int.gcd (V a) (V b)):=by
  refine kd (fp:=fun w:ar×ar=>ga w.1/\ga w.2/\w.1.length<=900000/\w.2.length<=900000/\Int.gcd (V w.1) (V w.2)=Int.gcd (V a) (V b)) (m:=fun w:ar×ar=>(V w.2).toNat) _ ?_ _ ⟨bF,aW,aS,hm,rfl⟩;rintro⟨x,y⟩ ⟨h1,h2,J,ak,au⟩;simp only at h1 h2 J ak au ⊢;have kk:=mC h1.1;have ql:=mC h2.1;by_cases aV:y=[]
  ·subst aV;refine .inr ⟨x,by simp[BH,gy],?_⟩;rw[<- au,Dc,Jl kk];exact(wz h1).symm
  have Pe:=tX h2 aV;have akP:=aop.mpr aV;have z7:=Int.emod_nonneg (V x) (b:=V y) (by omega);have akQ:=Int.emod_lt_of_pos (V x) Pe;refine .inl ⟨(y,L (V x % V y)),?_,⟨h2,iQ _,ak,(hX z7).2 ?_,?_⟩,?_⟩
  ·unfold BH;simp only[gy];rw[dw (by simp;omega),Jm h1 h2 aV J ak];rfl
  ·have:=ow h2.1;have:=sW ak;omega
  ·simp only;rw[eg z7,<- au];exact M7 kk
  simp only;rw[eg z7];omega
 obtain⟨r,ai,rfl⟩:=this;unfold Cn SZ;rw[ai];rfl
def gL (n:Int):bz:=⟨decide (n<0),L n.natAbs⟩
def eX (neg:Bool)(a:Int):Int:=if neg then -a else a
def mk (p:Int×Int):ao:=⟨gL p.1,L p.2⟩
def lQ (p:Int×Int):cy:=⟨gL p.1,L p.2⟩
def Ab:ao:=⟨⟨false,[]⟩,[]⟩
def enc:Option (Int×Int)->ao
 | none=>Ab
 | some p=>mk p
def pB (x:Option (Int×Int)):aov:=x.map lQ
structure Fr (p:Int×Int):Prop where
 pos:0<p.2
 Pm:Int.gcd p.1 p.2=1
 num:(p.1.natAbs:Int)<B 24
 den:p.2<B 24
theorem CK {n:Int}:(gL n).cd=L n.natAbs:=rfl
theorem FG {n:Int}:(gL n).cK=decide (n<0):=rfl
theorem U8 {n:Int}(h:0<=n):decide ((0:Int)<((L n).length:Nat))=decide (0<n):=by
 apply decide_eq_decide.2;by_cases h1:0<n
 ·have:(L n)≠[]:=fun h2=>(by have:=s6.1 h2;omega);have:=aop.mpr this;omega
 have:n=0:=by omega
 subst this;simp[r3]
theorem J2 {n:Int}(h:0<=n):(((L n).length:Nat):Int)=0↔n=0:=by
 constructor
 ·intro h1;have:L n=[]:=List.eq_nil_of_length_eq_zero (by omega);have:=s6.1 this;omega
 rintro rfl;simp[r3]
theorem C1 {neg:Bool}{a:Int}(h:0<=a):((eX neg a).natAbs:Int)=a:=by unfold eX;cases neg<;>simp<;>omega
theorem Wf {neg:Bool}{a:Int}(h:0<=a):(⟨neg && decide (0<a),L a⟩:bz)=gL (eX neg a):=by
 unfold gL;rw[C1 h];congr 1;unfold eX;cases neg
 ·simp;omega
 simp
theorem aiv {a:Int}(h:0<=a)(qW:a<B 60):Co (L a)=some (L a):=by have aT:=(hX h).2 qW;unfold Co;rw[uH (hO _) (by omega),eg h];simp only[dC,dx,gy];rw[dA (by simp;omega)]
theorem sR {neg:Bool}{a:Int}(h:0<=a)(qW:a<B 60):ju neg (L a)=some (gL (eX neg a)):=by
 have aT:=(hX h).2 qW;unfold ju;rw[aiv h qW];simp only[dC,dx,gy,List.nil_append];have aZ:(L a).length*8<=140737488355328:=by omega
 rw[<- Wf h,<- U8 h];cases neg<;>simp[aZ]
theorem sO {neg:Bool}{a:Int}(h:0<=a):ni neg (L a)=some (gL (eX neg a)):=by unfold ni;rw[<- Wf h,gy,U8 h];cases neg<;>simp
theorem WT {a b:Int}:eX (!(decide (a<0) == decide (b<0))) ((a.natAbs:Int)*(b.natAbs:Int))=a*b:=by
 unfold eX;by_cases bF:a<0
 ·have e1:(a.natAbs:Int) = -a:=by omega
  by_cases aW:b<0
  ·have e2:(b.natAbs:Int) = -b:=(by omega);rw[e1,e2];simp[bF,aW,Int.neg_mul,Int.mul_neg]
  have e2:(b.natAbs:Int)=b:=(by omega);rw[e1,e2];simp[bF,aW,Int.neg_mul,Int.mul_neg]
 have e1:(a.natAbs:Int)=a:=by omega
 by_cases aW:b<0
 ·have e2:(b.natAbs:Int) = -b:=(by omega);rw[e1,e2];simp[bF,aW,Int.neg_mul,Int.mul_neg]
 have e2:(b.natAbs:Int)=b:=by omega
 rw[e1,e2];simp[bF,aW,Int.neg_mul,Int.mul_neg]
theorem CT {a b:Int}:eX (decide (a<0)) ((a.natAbs:Int)*b)=a*b:=by
 unfold eX;by_cases bF:a<0
 ·have e1:(a.natAbs:Int) = -a:=(by omega);rw[e1];simp[bF,Int.neg_mul,Int.mul_neg]
 have e1:(a.natAbs:Int)=a:=by omega
 rw[e1];simp[bF,Int.neg_mul,Int.mul_neg]
theorem VE {a c:Int}:li (-c) (-a)=li a c:=by
 unfold li;by_cases h:a<c
 ·have : -c < -a:=(by omega);simp[h,this]
 by_cases h2:c<a
 ·have J : ¬ -c < -a:=(by omega);have ak : -a < -c:=(by omega);simp[h,h2,J,ak]
 have J : ¬ -c < -a:=by omega
 have ak : ¬ -a < -c:=by omega
 simp[h,h2,J,ak]
theorem af2 {a c:Int}(bF:(L a.natAbs).length<=5000000)(aZ:(L c.natAbs).length<=5000000):Fg (gL a) (gL c)=some (li a c):=by
 unfold Fg;simp only[FG,CK,decide_eq_true_eq];by_cases h1:a<0
 ·by_cases h2:c<0
  ·rw[dw h1,dw h2,vT (iQ _) (iQ _) aZ,eg (by omega),eg (by omega),show (c.natAbs:Int) = -c by omega,show (a.natAbs:Int) = -a by omega,VE];rfl
  rw[dw h1,dA h2];unfold li;rw[dw (by omega)]
 by_cases h2:c<0
 ·rw[dA h1,dw h2];unfold li;rw[dA (by omega),dw (by omega)]
 rw[dA h1,dA h2,vT (iQ _) (iQ _) bF,eg (by omega),eg (by omega)];show some (li _ _)=_;congr 2<;>omega
theorem Sn {a c:Int}(bF:(L a.natAbs).length<=5000000)(aZ:(L c.natAbs).length<=5000000):uy (gL a) (gL c)=some (li a c):=by
 have bG:uy (gL a) (gL c)=if (decide (a<0) == decide (c<0))=true then (if decide (a<0)=true then (rR (L c.natAbs) (L a.natAbs)).bind (fun r=>some r) else (rR (L a.natAbs) (L c.natAbs)).bind (fun r=>some r)) else if decide (a<0)=true then some (-1) else some 1:=rfl;rw[bG,aeg];by_cases h1:a<0
 ·by_cases h2:c<0
  ·rw[dw (by simp[h1,h2]),dw (by simpa using h1),vT (iQ _) (iQ _) aZ,eg (by omega),eg (by omega),show (c.natAbs:Int) = -c by omega,show (a.natAbs:Int) = -a by omega,VE];rfl
  rw[dA (by simp[h1,h2]),dw (by simpa using h1)];unfold li;rw[dw (by omega)]
 by_cases h2:c<0
 ·rw[dA (by simp[h1,h2]),dA (by simpa using h1)];unfold li;rw[dA (by omega),dw (by omega)]
 rw[dw (by simp[h1,h2]),dA (by simpa using h1),vT (iQ _) (iQ _) bF,eg (by omega),eg (by omega),show (c.natAbs:Int)=c by omega,show (a.natAbs:Int)=a by omega];rfl
def fits (x:Int):Prop:=x<B 24
noncomputable instance (x:Int):Decidable (fits x):=Classical.propDecidable _
noncomputable def low (n d:Int):Option (Int×Int) :=
 if fits ((n / (Int.gcd n d:Int)).natAbs:Int)/\fits (d / (Int.gcd n d:Int)) then some (n / (Int.gcd n d:Int),d / (Int.gcd n d:Int)) else none
theorem CU {n d:Int}(h:0<d):(0:Int)<Int.gcd n d:=by
 have:Int.gcd n d≠0:=by rw[Ne,Int.gcd_eq_zero_iff];omega
 omega
theorem Jn {n d:Int}(h:0<d): ∃m e,n / (Int.gcd n d:Int)=m/\d / (Int.gcd n d:Int)=e/\n=Int.gcd n d*m/\d=Int.gcd n d*e/\0<e/\(n.natAbs:Int) / (Int.gcd n d:Int)=m.natAbs:=by
 have dm:=CU (n:=n) h;obtain⟨m,hm⟩:=Int.gcd_dvd_left (a:=n) (b:=d);obtain⟨e,he⟩:=Int.gcd_dvd_right (a:=n) (b:=d);refine⟨m,e,?_,?_,hm,he,?_,?_⟩
 ·conv=>lhs;lhs;rw[hm]
  exact Int.mul_ediv_cancel_left _ (by omega)
 ·conv=>lhs;lhs;rw[he]
  exact Int.mul_ediv_cancel_left _ (by omega)
 ·apply Int.not_le.mp;intro h1;have:(Int.gcd n d:Int)*e<=Int.gcd n d*0:=dL h1 (by omega);omega
 have e1:(n.natAbs:Int)=Int.gcd n d*m.natAbs:=by
  conv=>lhs;rw[hm]
  rw[Int.natAbs_mul];simp
 rw[e1];exact Int.mul_ediv_cancel_left _ (by omega)
theorem aiw {n d:Int}(h:0<d): ∀p,low n d=some p->Fr p:=by
 intro p af;obtain⟨m,e,h1,h2,J,ak,au,aP⟩:=Jn (n:=n) h;have dm:=CU (n:=n) h;unfold low at af;rw[h1,h2] at af;split at af
 ·next aZ =>
  have:=dJ af;subst this;refine⟨au,?_,aZ.1,aZ.2⟩
  have a4:Int.gcd n d=Int.gcd n d*Int.gcd m e:=by
   have key : ∀g:Nat,Int.gcd ((g:Int)*m) (g*e)=g*Int.gcd m e:=fun g=>(by rw[Int.gcd_mul_left];simp);have:=key (Int.gcd n d)
   rwa [<- J,<- ak] at this
  simp only;have ba:Int.gcd n d*1=Int.gcd n d*Int.gcd m e:=(by omega);exact(Nat.eq_of_mul_eq_mul_left (by omega) ba).symm
 simp at af
theorem C2 {a:Int}(h:0<=a):tB (L a)=some (decide (a=1)):=by
 unfold tB;simp only[gy];by_cases h1:(L a).length=1
 ·have h2:=(hX (k:=1) h).1 (by omega);have J:0<a:=(by apply Int.not_le.mp;intro ak;rw[Xj ak] at h1;simp at h1);have au:a<1000000000:=(by simpa [B] using h2);rw[Jh ⟨J,au⟩];by_cases aP:a=1<;>simp[aP]
 rw[dA (by simp;omega)];have:a≠1:=by rintro rfl;rw[Jh (by omega)] at h1;simp at h1
 simp[this]
theorem Jo {n d:Int}(h:0<=d):Int.gcd (n.natAbs:Int) d=Int.gcd n d:=by simp[Int.gcd]
theorem NN:B 24<=B 60:=sW (by omega)
theorem MO {neg:Bool}{m e:Int}(hm:0<=m)(he:0<=e):(if (decide ((24:Int)<((L m).length:Nat)))=true then some Ab else if (decide ((24:Int)<((L e).length:Nat)))=true then some Ab else ju neg (L m) >>= fun r=>if (([]:ar)++L e).length*8<=140737488355328 then some (⟨r,([]:ar)++L e⟩:ao) else none) =
 some (enc (if fits m/\fits e then some (eX neg m,e) else none)):=by
 by_cases h1:fits m
 ·have h2:=(hX hm).2 h1
  rw[dA (by simp;omega)];by_cases J:fits e
  ·have ak:=(hX he).2 J;have:=NN;unfold fits at h1;rw[dA (by simp;omega),sR hm (by omega),dw ⟨h1,J⟩];simp only[dC,dx];rw[dw (by simp;omega)];rfl
  have ak : ¬(L e).length<=24:=fun h=>J ((hX he).1 h);rw[dw (by simp;omega),dA (fun h=>J h.2)];rfl
 have ak : ¬(L m).length<=24:=fun h=>h1 ((hX hm).1 h);rw[dw (by simp;omega),dA (fun h=>h1 h.1)];rfl
theorem WU {neg:Bool}{p m g:Int}(af:0<=p)(dm:0<g)(hm:eX neg p=g*m):eX neg (m.natAbs:Int)=m:=by
 unfold eX at hm ⊢;cases neg
 ·simp at hm ⊢;have:0<=m:=(by apply Int.not_lt.mp;intro h1;have:g*m<=g*(-1):=dL (by omega) (by omega);omega);omega
 simp at hm ⊢;have:m<=0:=by apply Int.not_lt.mp;intro h1;have:g*1<=g*m:=dL (by omega) (by omega);omega
 omega
theorem MP {neg:Bool}{p q:Int}(af:0<=p)(a0:0<q)(Pn:(L p).length<=900000)(sv:(L q).length<=900000):pU neg (L p) (L q)=some (enc (low (eX neg p) q)):=by
 obtain⟨m,e,h1,h2,J,ak,au,aP⟩:=Jn (n:=eX neg p) a0;have sl:=WU af (CU (n:=eX neg p) a0) J;rw[C1 af] at aP;have dm:Int.gcd p q=Int.gcd (eX neg p) q:=by rw[<- Jo (n:=eX neg p) (by omega),C1 af]
 have anL:=CU (n:=eX neg p) a0;unfold pU;rw[uH (hO _) (by omega),eg af];simp only[dC,dx];rw[uH (hO _) (by omega),eg (by omega)];simp only[dx,gy];have m2 : ¬((((L q).length:Nat):Int) == 0)=true:=by simp only[beq_iff_eq];intro h;have:=(J2 (n:=q) (by omega)).1 h;omega
 rw[dA m2,C2 (by omega)];simp only[dx];have zI:low (eX neg p) q=if fits (m.natAbs:Int)/\fits e then some (eX neg (m.natAbs:Int),e) else none:=by unfold low;rw[h1,h2,sl]
 have Xn:Int.gcd (eX neg p) q=1->(m.natAbs:Int)=p/\e=q:=by intro hu;rw[hu] at h2 aP;simp at h2 aP;omega
 by_cases qb:q=1
 ·have hu:Int.gcd (eX neg p) q=1:=(by rw[qb];simp);obtain⟨ku,nf⟩:=Xn hu;rw[dw (by simpa using qb),zI,ku,nf];exact MO af (by omega)
 rw[dA (by simpa using qb),NK (iQ _) (iQ _) Pn sv,eg af,eg (by omega)];simp only[dx];rw[C2 (by omega)];simp only[dx];by_cases hu:Int.gcd p q=1
 ·obtain⟨ku,nf⟩:=Xn (by omega);rw[dw (by simp;omega),zI,ku,nf];exact MO af (by omega)
 rw[dA (by simp;omega)];have Ac:(L (Int.gcd p q)).length<=900000:=by have a4:(Int.gcd p q:Int)<=q:=(by rw[dm];have:(Int.gcd (eX neg p) q:Int)*1<=Int.gcd (eX neg p) q*e:=dL (by omega) (by omega);omega);apply (hX (by omega)).2;have:=(hX (n:=q) (by omega)).1 sv;omega
 have Hw:L (Int.gcd p q)≠[]:=fun h=>by have:=s6.1 h;omega
 rw[div_eq (iQ _) (iQ _) Hw Pn Ac,eg af,eg (by omega)];simp only[dx];rw[div_eq (iQ _) (iQ _) Hw sv Ac,eg (by omega),eg (by omega)];simp only[dx];rw[dm,aP,h2,zI];exact MO (by omega) (by omega)
theorem ajh {neg:Bool}{a:Int}(h:0<=a)(h2:neg=true->0<a):decide (eX neg a<0)=neg:=by
 unfold eX;cases neg
 ·simp;omega
 have:=h2 rfl;simp;omega
theorem Wg {neg:Bool}{l:ar}(aT:ga l)(h2:neg=true->l≠[]):(⟨neg,l⟩:bz)=gL (eX neg (V l)):=by have h:=mC aT.1;unfold gL;rw[C1 h,wz aT,ajh h (fun aS=>tX aT (h2 aS))]
theorem adU {x:bz}(hm:(x.cd.length:Int)<9223372036854775807): ∃ok,yD x=some ok/\EX x=some ok/\(ok=true↔ ∃n,x=gL n/\(L n.natAbs).length<=60):=by
 obtain⟨o,h1,h2,J⟩:=Uz hm;unfold yD EX;rw[h1,h2];simp only[dC,dx,gy];obtain⟨neg,Hx⟩:=x;simp only at J ⊢
 have kr:decide ((0:Int)<(Hx.length:Nat)) = !((((Hx.length:Nat):Int) == 0)):=by
  by_cases h:Hx=[]
  ·subst h;rfl
  have:=aop.mpr h;rw[decide_eq_true (by omega)]
  symm
  simp;omega
 by_cases an:o=true;rotate_left
 ·refine⟨false,by simp[an],by simp[an],?_⟩;simp only[dT,false_iff];rintro⟨n,aS,qW⟩;have e2:=congrArg bz.cd aS;simp only[CK] at e2;exact an (J.2 (e2▸⟨iQ _,qW⟩))
 obtain⟨ak,au⟩:=J.1 an;subst an;cases neg
 ·refine⟨true,rfl,rfl,?_⟩;simp only[true_iff];refine⟨_,Wg ak (fun h=>by simp at h),?_⟩;rw[C1 (mC ak.1),wz ak];exact au
 refine⟨decide ((0:Int)<(Hx.length:Nat)),rfl,by rw[kr];rfl,?_⟩;rw[decide_eq_true_iff];constructor
 ·intro af;refine⟨_,Wg ak (fun _ h=>by subst h;simp at af),?_⟩;rw[C1 (mC ak.1),wz ak];exact au
 rintro⟨n,aS,-⟩;have e1:=congrArg bz.cK aS;have e2:=congrArg bz.cd aS;simp only[FG,CK] at e1 e2;have bJ:n<0:=by simpa using e1.symm
 have:Hx≠[]:=by rw[e2];intro h;have:=s6.1 h;omega
 have:=aop.mpr this;omega
theorem MB {r:ao}(hm:r.ef.cd.length<=2000000)(bC:r.fi.length<=2000000): ∃ok,mW r=some ok/\Fu r=some ok/\(ok=true↔ ∃p,Fr p/\r=mk p):=by
 obtain⟨bR,hk,hq,bx⟩:=adU (x:=r.ef) (by omega);obtain⟨aL,i9,j1,rH⟩:=Uz (a:=r.fi) (by omega);unfold mW Fu;rw[hk,hq];simp only[dC,dx,gy];by_cases h1:bR=true;rotate_left
 ·refine⟨false,by simp[h1],by simp[h1],?_⟩;simp only[dT,false_iff];rintro⟨p,af,ai⟩;have e2:r.ef=gL p.1:=(by rw[ai];rfl);have:=(hX (k:=24) (n:=p.1.natAbs) (by omega)).2 af.num;exact h1 (bx.2 ⟨p.1,e2,by omega⟩)
 rw[dw h1,dw h1,i9,j1];simp only[dx];by_cases h2:aL=true;rotate_left
 ·refine⟨false,by simp[h2],by simp[h2],?_⟩;simp only[dT,false_iff];rintro⟨p,af,ai⟩;have e:r.fi=L p.2:=(by rw[ai];rfl);have:=(hX (k:=24) (by have:=af.pos;omega)).2 af.den;exact h2 (rH.2 (e▸⟨iQ _,by omega⟩))
 rw[dw h2,dw h2];obtain⟨n,aS,am9⟩:=bx.1 h1;obtain⟨tr,ana⟩:=rH.1 h2;have xL:=mC tr.1;have YG:r.fi=L (V r.fi):=(wz tr).symm;have Hu:r.ef.cd=L n.natAbs:=by rw[aS];rfl
 by_cases J:r.fi=[]
 ·rw[dw (by simp[J]),dw (by simp[J])];refine⟨false,rfl,rfl,?_⟩;simp only[dT,false_iff];rintro⟨p,af,ai⟩;have e:r.fi=L p.2:=(by rw[ai];rfl);rw[J] at e;have:=s6.1 e.symm;have:=af.pos;omega
 have KD:=tX tr J;have Pn:=aop.mpr J;have tg : ¬((((r.fi.length:Nat):Int) == 0)=true):=by simp[J]
 rw[dA tg,dA tg];by_cases ak:24<r.fi.length
 ·rw[dw (by simp;omega)]
  have hx : ¬∃p,Fr p/\r=mk p:=(by rintro⟨p,af,ai⟩;have e:r.fi=L p.2:=(by rw[ai];rfl);have:=(hX (k:=24) (by have:=af.pos;omega)).2 af.den;rw[<- e] at this;omega);refine⟨false,rfl,?_,by simp[hx]⟩;by_cases au:24<r.ef.cd.length
  ·rw[dw (by simp;omega)]
  rw[dA (by simp;omega),dw (by simp;omega)]
 rw[dA (by simp;omega)];by_cases au:24<r.ef.cd.length
 ·rw[dw (by simp;omega),dw (by simp;omega)];refine⟨false,rfl,rfl,?_⟩;simp only[dT,false_iff];rintro⟨p,af,ai⟩;have e:r.ef.cd=L p.1.natAbs:=(by rw[ai];rfl);have:=(hX (k:=24) (by omega)).2 af.num;rw[<- e] at this;omega
 rw[dA (by simp;omega),dA (by simp;omega),dA (by simp;omega)];rw[Hu] at au ⊢;rw[NK (iQ _) tr (by omega) (by omega),UB (iQ _) tr (by omega) (by omega),eg (by omega),Jo xL];simp only[dx];have dm:=CU (n:=n) KD;have ak8:ga [1]:=ga.one (by omega);have Ac:(L (Int.gcd n (V r.fi))).length<=5000000:=by have a4:(Int.gcd n (V r.fi):Int)<=V r.fi:=Int.le_of_dvd KD (Int.gcd_dvd_right ..);have:=(hX (k:=24) (by omega)).2 (show (Int.gcd n (V r.fi):Int)<B 24 by have:=(tr.len (k:=24)).1 (by omega);omega);omega
 rw[C2 (by omega),IH (iQ _) ak8 Ac,eg (by omega)];have uq:V [1]=1:=by decide
 rw[uq];simp only[dx];refine⟨decide ((Int.gcd n (V r.fi):Int)=1),rfl,?_,?_⟩
 ·congr 1;rw[Bool.eq_iff_iff];simp[MN]
 rw[decide_eq_true_iff];constructor
 ·intro hu;refine⟨(n,V r.fi),⟨KD,by simp only;omega,(hX (by omega)).1 (by simp only;omega),(tr.len).1 (by omega)⟩,?_⟩;obtain⟨num,den⟩:=r;simp only at aS YG ⊢;unfold mk;simp only;rw[<- YG,<- aS]
 rintro⟨p,af,ai⟩;have e:r.fi=L p.2:=by rw[ai];rfl
 have e2:r.ef=gL p.1:=by rw[ai];rfl
 have bJ:V r.fi=p.2:=by rw[e,eg (by have:=af.pos;omega)]
 have c1:n=p.1:=by
  rw[aS] at e2;have f1:=congrArg bz.cK e2;have f2:=congrArg bz.cd e2;simp only[FG,CK] at f1 f2;have f3:=congrArg V f2;rw[eg (by omega),eg (by omega)] at f3
  have f4:n<0↔p.1<0:=by
   constructor
   ·intro h;simpa [h] using f1.symm
   intro h;simpa [h] using f1
  omega
 rw[bJ,c1,af.Pm];rfl
def wI (x:Option (Int×Int)):Prop:= ∀p,x=some p->Fr p
theorem Fr.o4 {p:Int×Int}(h:Fr p):(L p.1.natAbs).length<=24:=(hX (by omega)).2 h.num
theorem Fr.oy {p:Int×Int}(h:Fr p):(L p.2).length<=24:=(hX (by have:=h.pos;omega)).2 h.den
theorem aix:mW Ab=some false:=by
 obtain⟨o,J,-,ak⟩:=MB (r:=Ab) (by simp[Ab]) (by simp[Ab]);rw[J];congr 1
 cases o with
 | false=>rfl
 | true =>
  obtain⟨p,af,ai⟩:=ak.1 rfl;have e:[]=L p.2:=congrArg ao.fi ai;have:=s6.1 e.symm;have:=af.pos;omega
theorem NO {x:Option (Int×Int)}(h:wI x):mW (enc x)=some x.isSome:=by
 cases x with
 | none=>exact aix
 | some p =>
  have af:=h p rfl;have h1:=af.o4;have h2:=af.oy;obtain⟨o,J,-,ak⟩:=MB (r:=mk p) (show (L p.1.natAbs).length<=_ by omega) (show (L p.2).length<=_ by omega);have:o=true:=ak.2 ⟨p,af,rfl⟩;subst this;exact J
theorem ahO {r:ao}(hm:r.ef.cd.length<=2000000)(bC:r.fi.length<=2000000):(∃p,Fr p/\r=mk p/\mW r=some true/\vK r=some (some (lQ p)))\/(mW r=some false/\vK r=some none):=by
 obtain⟨o,h1,h2,J⟩:=MB hm bC
 cases o with
 | false =>
  refine .inr ⟨h1,?_⟩;unfold vK;rw[h2];rfl
 | true =>
  obtain⟨p,af,ai⟩:=J.1 rfl;refine .inl ⟨p,af,ai,h1,?_⟩;unfold vK;rw[h2];subst ai;rfl
theorem aji (m n:Nat):B m*B n=B (m+n):=(Gh m n).symm
theorem sS {x y:Int}{m n:Nat}(U:0<=x)(aV:0<=y)(h1:x<B m)(h2:y<B n):(L (x*y)).length<=m+n:=by
 apply (hX (Int.mul_nonneg U aV)).2;rw[<- aji];have J:x*y<=(B m-1)*(B n-1):=Int.mul_le_mul (by omega) (by omega) aV (by omega);have ak:(B m-1)*(B n-1)=B m*B n-B m-B n+1:=by grind
 have au:=ps m;have aP:=ps n;omega
noncomputable def uZ (x y:Option (Int×Int)):Option (Int×Int):=x.bind fun p=>y.bind fun q=>low (p.1*q.1) (p.2*q.2)
theorem Fy {p q:Int×Int}:uZ (some p) (some q)=low (p.1*q.1) (p.2*q.2):=by unfold uZ;rw[dx,dx]
theorem afg (r s:ao){a b:Int}(bF:0<=a)(aW:0<b)(h1:jl r.ef.cd s.ef.cd=some (L a))(h2:jl r.fi s.fi=some (L b))(J:(L a).length<=900000)(ak:(L b).length<=900000):tD r s=some (enc (low (eX (!(r.ef.cK == s.ef.cK)) a) b)):=by unfold tD;rw[h1];simp only[dC,dx];rw[h2];simp only[dx];rw[MP bF aW J ak];simp only[dx]
theorem U9 {p q:Int×Int}(af:Fr p)(a0:Fr q):tD (mk p) (mk q)=some (enc (low (p.1*q.1) (p.2*q.2))):=by
 have h1:=af.o4;have h2:=af.oy;have J:=a0.o4;have ak:=a0.oy;have au:=af.pos;have aP:=a0.pos;have a4:=sS (x:=p.1.natAbs) (y:=q.1.natAbs) (by omega) (by omega) af.num a0.num;have ba:=sS (x:=p.2) (y:=q.2) (by omega) (by omega) af.den a0.den;have e1:jl (L p.1.natAbs) (L q.1.natAbs)=some (L ((p.1.natAbs:Int)*q.1.natAbs)):=by rw[mul_eq (hO _) (hO _) (by omega) (by omega),eg (by omega),eg (by omega)]
 have e2:jl (L p.2) (L q.2)=some (L (p.2*q.2)):=by rw[mul_eq (hO _) (hO _) (by omega) (by omega),eg (by omega),eg (by omega)]
 have:=afg (mk p) (mk q) (a:=(p.1.natAbs:Int)*q.1.natAbs) (b:=p.2*q.2) (Int.mul_nonneg (by omega) (by omega)) (Int.mul_pos au aP) e1 e2 (by omega) (by omega);rw[this];have bJ:eX (!((mk p).ef.cK == (mk q).ef.cK)) ((p.1.natAbs:Int)*q.1.natAbs)=p.1*q.1:=WT;rw[bJ]
theorem Va {x y:Option (Int×Int)}(U:wI x)(aV:wI y):Cs (enc x) (enc y)=some (enc (uZ x y)):=by
 unfold Cs;rw[NO U,NO aV]
 cases x with
 | none =>
  simp only[Option.isSome_none,dC,dx,dT,if_false];rfl
 | some p =>
  cases y with
  | none =>
   simp only[Option.isSome_none,Option.isSome_some,dC,dx,dT,if_false,if_true];rfl
  | some q =>
   simp only[dC,dx,Option.isSome_some,if_true];show (tD (mk p) (mk q)).bind _=_;rw[U9 (U p rfl) (aV q rfl),Fy];simp only[dx]
theorem Jp {x y:Option (Int×Int)}(U:wI x)(aV:wI y):wI (uZ x y):=by
 intro r ai
 cases x with
 | none=>simp[uZ] at ai
 | some p =>
  cases y with
  | none=>simp[uZ] at ai
  | some q =>
   rw[Fy] at ai;exact aiw (Int.mul_pos (U p rfl).pos (aV q rfl).pos) r ai
theorem MQ {n d:Int}(bC:0<d)(zU:(L n.natAbs).length<=900000)(Hy:(L d).length<=900000):sL (gL n) (L d)=some (some (lQ (n / (Int.gcd n d:Int),d / (Int.gcd n d:Int)))):=by
 obtain⟨m,e,h1,h2,J,ak,au,aP⟩:=Jn (n:=n) bC;have dm:=CU (n:=n) bC;rw[h1,h2];unfold sL;simp only[CK,FG,gy];by_cases aS:n=0
 ·subst aS;have ak9:(Int.gcd 0 d:Int)=d:=(by rw[Int.gcd_comm,Jl (by omega)]);rw[ak9] at J ak;have hm:m=0:=(by rcases Int.mul_eq_zero.1 J.symm with h|h<;>omega);have he:e=1:=(by have:d*e=d*1:=(by omega);exact Int.eq_of_mul_eq_mul_left (by omega) this);subst hm he;rw[dw (by simp[r3])];unfold lQ gL;simp only[Int.natAbs_zero];rw[Jh (x:=1) (by omega),show ((0:Nat):Int)=0 from rfl,r3];rfl
 have ajX : ¬((((L n.natAbs).length:Nat):Int) == 0)=true:=by simp only[beq_iff_eq];intro h;have:=(J2 (n:=n.natAbs) (by omega)).1 h;omega
 rw[dA ajX,UB (iQ _) (iQ _) zU Hy,eg (by omega),eg (by omega),Jo (by omega)];simp only[dC,dx];have Ac:(L (Int.gcd n d)).length<=900000:=by have a4:(Int.gcd n d:Int)<=d:=Int.le_of_dvd bC (Int.gcd_dvd_right ..);apply (hX (by omega)).2;have:=(hX (n:=d) (by omega)).1 Hy;omega
 rw[IH (iQ _) (ga.one (by omega)) (by omega),eg (by omega),show V [1]=1 by decide];simp only[dx];by_cases hu:(Int.gcd n d:Int)=1
 ·rw[dw (by simpa using MN.2 hu)];rw[hu] at J ak;rw[Int.one_mul] at J ak;subst J ak;rfl
 rw[dA (fun h=>hu (MN.1 (by simpa using h)))];have Hw:L (Int.gcd n d)≠[]:=fun h=>by have:=s6.1 h;omega
 rw[Jm (iQ _) (iQ _) Hw zU Ac,eg (by omega),eg (by omega)];simp only[dx];rw[Jm (iQ _) (iQ _) Hw Hy Ac,eg (by omega),eg (by omega)];simp only[dx];rw[aP,h2,sO (by omega)];simp only[dx];have bG:eX (decide (n<0)) (m.natAbs:Int)=m:=by refine WU (p:=n.natAbs) (g:=Int.gcd n d) (by omega) dm ?_;rw[<- J];unfold eX;by_cases h:n<0<;>simp[h]<;>omega
 rw[bG];rfl
theorem WV {m e:Int}(he:0<=e):xa (some (lQ (m,e)))=some (pB (if fits (m.natAbs:Int)/\fits e then some (m,e) else none)):=by
 have bG:xa (some (lQ (m,e)))=if (decide ((24:Int)<len_ eI (L m.natAbs)))=true then some none else if (decide ((24:Int)<len_ eI (L e)))=true then some none else some (some (lQ (m,e))):=rfl;rw[bG,gy,gy];by_cases h1:fits (m.natAbs:Int)
 ·have h2:=(hX (by omega)).2 h1
  rw[dA (by simp;omega)];by_cases J:fits e
  ·have ak:=(hX he).2 J;rw[dA (by simp;omega),dw ⟨h1,J⟩];rfl
  have ak : ¬(L e).length<=24:=fun h=>J ((hX he).1 h);rw[dw (by simp;omega),dA (fun h=>J h.2)];rfl
 have ak : ¬(L m.natAbs).length<=24:=fun h=>h1 ((hX (by omega)).1 h);rw[dw (by simp;omega),dA (fun h=>h1 h.1)];rfl
theorem aiy {n d:Int}(bC:0<d)(zU:(L n.natAbs).length<=900000)(Hy:(L d).length<=900000):(sL (gL n) (L d)).bind (fun r=>xa r)=some (pB (low n d)):=by obtain⟨m,e,h1,h2,J,ak,au,aP⟩:=Jn (n:=n) bC;rw[MQ bC zU Hy,dx,h1,h2,WV (by omega)];unfold low;rw[h1,h2]
theorem MR {a b:Int}(bF:(L a.natAbs).length<=900000)(aW:(L b.natAbs).length<=900000):qs (gL a) (gL b)=some (gL (a*b)):=by unfold qs;simp only[CK,FG];rw[FE (hO _) (hO _) (by omega) (by omega),eg (by omega),eg (by omega)];simp only[dC,dx];rw[sO (Int.mul_nonneg (by omega) (by omega)),WT];rfl
theorem Wh {x y:Option (Int×Int)}(U:wI x)(aV:wI y):CI (pB x) (pB y)=some (pB (uZ x y)):=by
 cases x with
 | none=>rfl
 | some p =>
  cases y with
  | none=>rfl
  | some q =>
   have af:=U p rfl;have a0:=aV q rfl;have h1:=af.o4;have h2:=af.oy;have J:=a0.o4;have ak:=a0.oy;have au:=af.pos;have aP:=a0.pos;have a4:=sS (x:=p.1.natAbs) (y:=q.1.natAbs) (by omega) (by omega) af.num a0.num;have ba:=sS (x:=p.2) (y:=q.2) (by omega) (by omega) af.den a0.den;unfold CI yx;simp only[pB,dR,Option.elim_some,dC,dx,lQ];rw[MR (by omega) (by omega)];simp only[dx];rw[FE (hO _) (hO _) (by omega) (by omega),eg (by omega),eg (by omega)];simp only[dx];have:=aiy (n:=p.1*q.1) (d:=p.2*q.2) (Int.mul_pos au aP) (by rw[Int.natAbs_mul,Int.natCast_mul];omega) (by omega);rw[MQ (Int.mul_pos au aP) (by rw[Int.natAbs_mul,Int.natCast_mul];omega) (by omega)] at this ⊢;simp only[dx] at this ⊢;rw[this,Fy];simp only[dx,pB]
theorem Wi:(1000000000000000000000000000:Int)<=B 24:=by
 have h:B 3<=B 24:=sW (by omega);have J:B 3=1000000000000000000000000000:=by decide
 omega
theorem ahP:(1000000000000000000000000000:Int)<=B 60:=by have:=NN;have:=Wi;omega
theorem aeE {n:Int}(h:nq n):EM n=some (gL n):=by
 obtain⟨h1,h2⟩:=la.1 h;have aW:=ahP;unfold EM;by_cases hm:n = -9223372036854775808
 ·rw[dw (by simpa using hm)];have e:([854775808,223372036,9]:ar)=L 9223372036854775808:=xt ⟨by intro x U;simp at U;omega,by simp⟩ (by decide);rw[e,sR (by omega) (by omega)];subst hm;rfl
 rw[dA (by simpa using hm)];by_cases aS:n<0
 ·rw[dw (by simpa using aS),cT (by omega) (by omega),CJ (by omega) (by omega)];simp only[dC,dx];rw[sR (by omega) (by omega)];simp only[dx];congr 2;unfold eX;simp
 rw[dA (by simpa using aS),CJ (by omega) (by omega)];simp only[dC,dx];rw[sR (by omega) (by omega)];simp only[dx];congr 2
theorem UC {n:Int}(h:nq n):pT n=some (gL n):=by
 obtain⟨h1,h2⟩:=la.1 h;unfold pT;by_cases aS:n<0
 ·rw[dw (by simpa using aS),cT (x:=n+1) (by omega) (by omega),cT (x:=0-(n+1)) (by omega) (by omega),Gl (x:=0-(n+1)) (by omega) (by omega),Gl (by omega) (by omega),Mz (by omega) (by omega)];simp only[dC,dx];rw[sO (by omega)];simp only[dx];congr 2;unfold eX;simp;omega
 rw[dA (by simpa using aS),Gl (by omega) (by omega),Mz (by omega) (by omega)];simp only[dC,dx];rw[sO (by omega)];simp only[dx];congr 2
theorem N3:L 1=[1]:=Jh (by omega)
theorem Mf {n:Int}(h:nq n):n8 n=some (mk (n,1)):=by unfold n8;rw[aeE h];simp only[dC,dx,mk,N3]
theorem M9 {n:Int}(h:nq n):uG n=some (some (lQ (n,1))):=by unfold uG;rw[UC h];simp only[dC,dx,lQ,N3]
theorem JE {n:Int}(h:nq n):Fr (n,1):=by obtain⟨h1,h2⟩:=la.1 h;have aW:=Wi;exact⟨by simp,by simp,by simp only;omega,by simp only;omega⟩
theorem Vb {p q:Int×Int}(af:Fr p)(a0:Fr q):w6 (mk p) (mk q)=some (li (p.1*q.2) (q.1*p.2)):=by
 have h1:=af.o4;have h2:=af.oy;have J:=a0.o4;have ak:=a0.oy;have au:=af.pos;have aP:=a0.pos;have a4:=sS (x:=p.1.natAbs) (y:=q.2) (by omega) (by omega) af.num a0.den;have ba:=sS (x:=q.1.natAbs) (y:=p.2) (by omega) (by omega) a0.num af.den;have As:0<=(p.1.natAbs:Int)*q.2:=Int.mul_nonneg (by omega) (by omega);have Zf:0<=(q.1.natAbs:Int)*p.2:=Int.mul_nonneg (by omega) (by omega);have k7:((p.1*q.2).natAbs:Int)=(p.1.natAbs:Int)*q.2:=by rw[Int.natAbs_mul,Int.natCast_mul];congr 1;omega
 have jB:((q.1*p.2).natAbs:Int)=(q.1.natAbs:Int)*p.2:=by rw[Int.natAbs_mul,Int.natCast_mul];congr 1;omega
 have e1:jl (mk p).ef.cd (mk q).fi=some (L ((p.1.natAbs:Int)*q.2)):=by show jl (L p.1.natAbs) (L q.2)=_;rw[mul_eq (hO _) (hO _) (by omega) (by omega),eg (by omega),eg (by omega)]
 have e2:jl (mk q).ef.cd (mk p).fi=some (L ((q.1.natAbs:Int)*p.2)):=by show jl (L q.1.natAbs) (L p.2)=_;rw[mul_eq (hO _) (hO _) (by omega) (by omega),eg (by omega),eg (by omega)]
 have bJ:ju (mk p).ef.cK (L ((p.1.natAbs:Int)*q.2))=some (gL (p.1*q.2)):=by show ju (decide (p.1<0)) _=_;rw[sR As ((hX As).1 (by omega)),CT]
 have c1:ju (mk q).ef.cK (L ((q.1.natAbs:Int)*p.2))=some (gL (q.1*p.2)):=by show ju (decide (q.1<0)) _=_;rw[sR Zf ((hX Zf).1 (by omega)),CT]
 unfold w6;rw[e1,dC,dx,bJ,dC,dx,e2,dC,dx,c1,dx,af2 (by rw[k7];omega) (by rw[jB];omega)];rfl
theorem IV {p:Int×Int}{d:Int}(bC:0<=d)(h1:(L p.1.natAbs).length<=900000)(h2:(L d).length<=900000):sG (some (lQ p)) (L d)=some (gL (p.1*d)):=by
 have e1:sM (lQ p).s9.cd (L d)=some (L ((p.1.natAbs:Int)*d)):=by show sM (L p.1.natAbs) (L d)=_;rw[FE (hO _) (hO _) (by omega) (by omega),eg (by omega),eg (by omega)]
 have As:0<=(p.1.natAbs:Int)*d:=Int.mul_nonneg (by omega) (by omega);have bJ:ni (lQ p).s9.cK (L ((p.1.natAbs:Int)*d))=some (gL (p.1*d)):=by show ni (decide (p.1<0)) _=_;rw[sO As,CT]
 unfold sG;rw[dC,dx,e1,dC,dx,bJ];rfl
theorem F4 {a d:Int}(bC:0<=d):((a*d).natAbs:Int)=(a.natAbs:Int)*d:=by rw[Int.natAbs_mul,Int.natCast_mul];congr 1;omega
theorem aeh {p q:Int×Int}{i j k l:Nat}(af:0<p.2)(a0:0<q.2)(h1:(p.1.natAbs:Int)<B i)(h2:p.2<B j)(J:(q.1.natAbs:Int)<B k)(ak:q.2<B l)(aa:i<=1000)(aq:j<=1000)(aX:k<=1000)(aT:l<=1000):EI (some (lQ p)) (some (lQ q))=some (li (p.1*q.2) (q.1*p.2)):=by have k4:=(hX (by omega)).2 h1;have ln:=(hX (by omega)).2 h2;have xY:=(hX (by omega)).2 J;have kW:=(hX (by omega)).2 ak;have a4:=sS (x:=p.1.natAbs) (y:=q.2) (by omega) (by omega) h1 ak;have ba:=sS (x:=q.1.natAbs) (y:=p.2) (by omega) (by omega) J h2;unfold EI;rw[dC,dx];show (sG (some (lQ p)) (L q.2)).bind _=_;rw[IV (by omega) (by omega) (by omega),dx,dC,dx];show (sG (some (lQ q)) (L p.2)).bind _=_;rw[IV (by omega) (by omega) (by omega),dx,Sn (by rw[F4 (by omega)];omega) (by rw[F4 (by omega)];omega)];rfl
theorem uN (n bL aa:Int):oa n bL aa=some (decide (bL<=n/\n<=aa)):=by unfold oa;by_cases h:bL<=n<;>simp[h]
theorem MC (n:Int):Fb n=some (decide (0<=n/\n<=1000)):=by unfold Fb;by_cases h:0<=n<;>simp[h]
theorem IW {α β:Type}{t:Nat->α->Option β}: ∀(l:List α) (k:Nat),(∀n x,l[n]? = some x->t (k+n) x=none)->scan t k l=none
 | [],_,_=>rfl
 | x::l,k,h=>by have h0:=h 0 x rfl;simp only[Nat.add_zero] at h0;simp only[scan,h0];exact IW l (k+1) fun n y aV=>by rw[show k+1+n=k+(n+1) by omega];exact h (n+1) y (by simpa using aV)
theorem T5 (l:ar)(h:l.length<=1048576):Cu l l=some true:=by
 have h1:Tq l l 0=some (.inl ()):=by have:=IP (f:=fun w=>BT l l w) (t:=fun _ _=>none) (e:= .inl ()) l 0 (fun n x U=>by have aS:=gm U;have hw:R ((n:Int)+1)=((n+1:Nat):Int):=(by rw[cT (by omega) (by omega)];rfl);simp only[BT,fc,dG,hw];simp[aS]) (by simp[BT,fc]);rw[IW l 0 (fun _ _ _=>rfl)] at this;exact this
 simp[Cu,h1]
theorem aei (j:cI):Fc j j=some true:=by simp[Fc]
theorem adV (j:c0):E0 j j=some true:=by simp[E0]
theorem adW (l:aoD)(h:l.length<=1048576):EZ l l=some true:=by
 have h1:SI l l 0=some (.inl ()):=by have:=IP (f:=fun w=>Bu l l w) (t:=fun _ _=>none) (e:= .inl ()) l 0 (fun n x U=>by have aS:=gm U;have hw:R ((n:Int)+1)=((n+1:Nat):Int):=(by rw[cT (by omega) (by omega)];rfl);simp only[Bu,fc,dG,hw];simp[aS,aei]) (by simp[Bu,fc]);rw[IW l 0 (fun _ _ _=>rfl)] at this;exact this
 simp[EZ,h1]
theorem adF (l:aoC)(h:l.length<=1048576):EJ l l=some true:=by
 have h1:Sm l l 0=some (.inl ()):=by have:=IP (f:=fun w=>Bm l l w) (t:=fun _ _=>none) (e:= .inl ()) l 0 (fun n x U=>by have aS:=gm U;have hw:R ((n:Int)+1)=((n+1:Nat):Int):=(by rw[cT (by omega) (by omega)];rfl);simp only[Bm,fc,dG,hw];simp[aS,adV]) (by simp[Bm,fc]);rw[IW l 0 (fun _ _ _=>rfl)] at this;exact this
 simp[EJ,h1]
theorem acU (s:cL)(h1:s.b4.length<=1048576)(h2:s.bn.length<=1048576):Ex s s=some true:=by simp[Ex,adW _ h1,adF _ h2]
theorem aej (j:cI)(left:Int)(aq:j.mG.size<=maxLen)(h0:0<=left)(h1:left<=1048576): ∃r,E2 j left=some r/\r<=left:=by
 have hm:j.mG.size<9223372036854775808:=by have:maxLen=9223372036854775807:=by decide
                                           omega
 have hw:R (left-j.mG.size)=left-j.mG.size:=cT (by omega) (by omega);unfold E2;rw[hw];by_cases h:left-(j.mG.size:Int)<0
 ·exact⟨-1,by simp[h],by omega⟩
 exact⟨left-j.mG.size,by simp[h],by omega⟩
theorem adX (l:aoD)(left:Int)(aT:l.length<=maxLen)(aq:∀j∈l,j.mG.size<=maxLen)(h0:0<=left)(h1:left<=1048576):
 ∃r,EK l left=some r/\r<=left/\(0<=r->l.length<=1048576):=by
 have hm:maxLen=9223372036854775807:=by decide
 have hw:R (left-(l.length:Nat))=left-(l.length:Nat):=cT (by omega) (by omega);unfold EK;simp only[fc,hw];by_cases h:left-(l.length:Int)<0
 ·exact⟨-1,by simp[h],by omega,by omega⟩
 obtain⟨r,r1,r2⟩:=kd (f:=fun w:Int×Int=>yd l w.1 w.2) (fun w=>0<=w.1/\w.1<=left/\0<=w.2/\w.2<=l.length) (fun w=>(l.length-w.2).toNat)
  (fun r=>match r with | .inl a=>a<=left | .inr _=>True) (fun w hw=>by
    obtain⟨a,i⟩:=w;simp only at hw;obtain⟨jf,rL,wT,an4⟩:=hw;by_cases aa:i<l.length
    ·obtain⟨x,U⟩ : ∃x,l[i.toNat]? = some x:=⟨_,dz (by omega)⟩
     obtain⟨r,s1,s2⟩:=aej x a (aq x (dH U)) jf (by omega);obtain⟨aS,rfl⟩:=aod.1 U;have G6:R (i+1)=i+1:=cT (by omega) (by omega);by_cases ai:r<0
     ·right;exact⟨.inr (),by simp[yd,fc,aa,wT,U,s1,ai],trivial⟩
     left;refine⟨(r,i+1),by simp[yd,fc,aa,wT,U,s1,ai,G6],?_,?_⟩
     ·simp only;omega
     simp only;omega
    right;exact⟨.inl a,by simp[yd,fc,aa],by simpa using rL⟩) (left-(l.length:Nat),0) (by simp only;omega)
 have Ad:So l (left-(l.length:Nat)) 0=some r:=r1;rw[Ad]
 cases r with
 | inl a=>exact⟨a,by simp[h],r2,by omega⟩
 | inr a=>exact⟨-1,by simp[h],by omega,by omega⟩
theorem adG (l:aoC)(left:Int)(aT:l.length<=maxLen)(h0:0<=left)(h1:left<=1048576):
 ∃r,EE l left=some r/\r<=left/\(0<=r->l.length<=1048576):=by
 have hm:maxLen=9223372036854775807:=by decide
 have hw:R (left-(l.length:Nat))=left-(l.length:Nat):=cT (by omega) (by omega);unfold EE;simp only[fc,hw];by_cases h:left-(l.length:Int)<0
 ·exact⟨-1,by simp[h],by omega,by omega⟩
 exact⟨left-(l.length:Nat),by simp[h],by omega,by omega⟩
theorem acV (s:cL)(i0:n9 s)(left:Int)(h0:0<=left)(h1:left<=1048576):
 ∃r,Ev s left=some r/\(0<=r->s.b4.length<=1048576/\s.bn.length<=1048576):=by
 obtain⟨⟨hk,hq⟩,bx,fx⟩:=i0;obtain⟨r,r1,r2,a7⟩:=adX s.b4 left hk (fun j aq=>(hq j aq).1) h0 h1;unfold Ev;rw[r1];by_cases h:r<0
 ·exact⟨-1,by simp[h],by omega⟩
 obtain⟨q,q1,q2,bN⟩:=adG s.bn r bx (by omega) (by omega);by_cases a0:q<0
 ·exact⟨-1,by simp[h,q1,a0],by omega⟩
 exact⟨q,by simp[h,q1,a0],fun _=>⟨a7 (by omega),bN (by omega)⟩⟩
theorem vL:maxLen=9223372036854775807:=by decide
theorem afh (n:Int):Cl n=oa n (-50) 50:=by rw[uN];unfold Cl;by_cases h : -50<=n<;>simp[h]
theorem aeF (c:Int):EU c=some (decide (97<=c/\c<=122)):=by unfold EU;by_cases h:97<=c<;>simp[h]
theorem afi (c:Int):E5 c=some (decide (48<=c/\c<=57)):=by unfold E5;by_cases h:48<=c<;>simp[h]
theorem aeG (s:ByteArray)(i:Int):Ei s s.size i=wW s i:=by
 unfold Ei wW;generalize ((s.data.toList.getD i.toNat 0).toNat:Int)=c;simp only[aeF,afi,dC,dx]
 by_cases h1:i<(s.size:Int)<;>by_cases h0:0<=i<;>by_cases a:(97:Int)<=c<;>by_cases b:c<=122<;>by_cases d:i=0<;>by_cases e:c<48<;>by_cases f:57<c <;>
  simp[h1,h0,a,b,d,e,f,Int.not_lt.1,Int.not_le]<;>omega
theorem af3 (s:ByteArray):Fi s=w4 s:=by
 have h:L6 s s.size 0=Ic s 0:=by unfold L6 Ic;congr 1;funext w;exact aeG s w
 unfold Fi w4;rw[h];congr 1;funext r
 cases r with
 | inr a=>rfl
 | inl a =>
  simp only[uN,dC,dx];by_cases h0:s.size=0
  ·have:s=⟨#[]⟩:=by
    cases s with
    | mk d=>simp only[ByteArray.size] at h0;rw[Array.size_eq_zero_iff] at h0;rw[h0]
   subst this;have e0:(ByteArray.mk #[]).size=0:=rfl;simp[e0]
  have dd:s.toList≠(⟨#[]⟩:ByteArray).toList:=(by intro e;have aT : ∀x:ByteArray,x.toList.length=x.size:=(by intro x;rw[ByteArray.toList_eq];rfl);have:=aT s;rw[e,aT] at this;exact h0 this.symm);simp only[beq_iff_eq,dd,Bool.not_eq_true',beq_eq_false_iff_ne,ne_eq,not_false_eq_true,if_true];congr 1;apply decide_eq_decide.2;omega
theorem aeH (s:ByteArray)(bG:s.size<=maxLen): ∃r,w4 s=some r:=by
 have hm:=vL
 obtain⟨r,h,-⟩:=kd (f:=fun w=>wW s w) (fun i=>0<=i/\i<=s.size) (fun i=>(s.size-i).toNat) (fun _=>True) (fun i aa=>by
  obtain⟨h0,h1⟩:=aa;by_cases h2:i<(s.size:Int)
  ·have hw:R (i+1)=i+1:=cT (by omega) (by omega)
   unfold wW;generalize ((s.data.toList.getD i.toNat 0).toNat:Int)=c;have ajj:0<=i+1/\i+1<=(s.size:Int):=(by omega);have m4:((s.size:Int)-(i+1)).toNat<((s.size:Int)-i).toNat:=by omega
   have key : ∀x:Option (Int⊕(Unit⊕Unit)),(x=some (.inl (i+1))\/x=some (.inr (.inr ())))->(∃ew,x=some (.inl ew)/\(0<=ew/\ew<=(s.size:Int))/\((s.size:Int)-ew).toNat<((s.size:Int)-i).toNat)\/ ∃r,x=some (.inr r)/\True:=by
    intro x U;rcases U with U|U
    ·exact .inl ⟨i+1,U,ajj,m4⟩
    exact .inr ⟨_,U,trivial⟩
   apply key;simp only[h2,h0,hw,decide_true,if_true,and_self];by_cases a:(97:Int)<=c<;>by_cases b:c<=122<;>by_cases d:i=0<;>by_cases e:c<48<;>by_cases f:57<c<;>simp[a,b,d,e,f]
  exact .inr ⟨.inl (),by simp[wW,h2],trivial⟩) 0 (by omega)
 have c5:Ic s 0=some r:=h;unfold w4;rw[c5]
 cases r with
 | inl a=>exact⟨_,by simp[uN];rfl⟩
 | inr a=>exact⟨_,rfl⟩
theorem afj (j:cI):E6 j=rP j:=by unfold E6 rP;simp only[af3,afh]
theorem TL (j:cI)(h:j.mG.size<=maxLen): ∃r,rP j=some r:=by
 obtain⟨r,ai⟩:=aeH _ h;unfold rP;simp only[ai,uN,dC,dx]
 repeat' split
 all_goals exact⟨_,rfl⟩
theorem adY (s:cL)(n:ByteArray):EC s n=yy s n:=by
 have h:KT s.b4 n (len_ ca s.b4) 0=Em n s.b4 (len_ ca s.b4) 0:=by unfold KT Em;congr 1
 unfold EC yy HU;rw[h]
 cases Em n s.b4 (len_ ca s.b4) 0 with
 | none=>rfl
 | some r=>cases r<;>rfl
theorem S2 (s:cL)(n:ByteArray)(h:s.b4.length<=maxLen): ∃r,yy s n=some r:=by
 have hm:=vL
 obtain⟨r,h1,-⟩:=kd (f:=fun w=>A9 n s.b4 (len_ ca s.b4) w) (fun i=>0<=i/\i<=s.b4.length) (fun i=>(s.b4.length-i).toNat) (fun _=>True) (fun i aa=>by
  obtain⟨h0,h1⟩:=aa;by_cases h2:i<(s.b4.length:Int)
  ·have hw:R (i+1)=i+1:=cT (by omega) (by omega)
   obtain⟨x,U⟩ : ∃x,s.b4[i.toNat]? = some x:=⟨_,dz (by omega)⟩;unfold A9;simp only[fc,h2,h0,hw,U,decide_true,if_true,and_self,dC,dx];by_cases e:(x.mG.toList == n.toList)=true
   ·exact .inr ⟨_,by rw[dw e],trivial⟩
   exact .inl ⟨i+1,by rw[dA e],by omega,by omega⟩
  exact .inr ⟨.inl (),by simp[A9,fc,h2],trivial⟩) 0 (by omega)
 have c5:Em n s.b4 (len_ ca s.b4) 0=some r:=h1;unfold yy;rw[c5]
 cases r with
 | inl a=>exact⟨_,rfl⟩
 | inr a=>exact⟨_,rfl⟩
theorem S3 (s:cL):Ls s.b4 (len_ ca s.b4) s.bn 0=vq s.b4 (len_ ca s.b4) s.bn 0:=by unfold Ls vq;congr 1;funext w;unfold HX uw;simp only[afj,adY]
theorem LA (s:cL)(i0:n9 s): ∃r,vq s.b4 (len_ ca s.b4) s.bn 0=some r:=by
 have hm:=vL;obtain⟨⟨hk,hq⟩,-⟩:=i0
 obtain⟨r,h1,-⟩:=kd (f:=fun w=>uw s.b4 (len_ ca s.b4) s.bn w) (fun i=>0<=i/\i<=s.b4.length) (fun i=>(s.b4.length-i).toNat) (fun _=>True) (fun i aa=>by
  obtain⟨h0,h1⟩:=aa;by_cases h2:i<(s.b4.length:Int)
  ·have hw:R (i+1)=i+1:=cT (by omega) (by omega)
   obtain⟨x,U⟩ : ∃x,s.b4[i.toNat]? = some x:=⟨_,dz (by omega)⟩;obtain⟨p,af⟩:=TL x (hq x (dH U)).1;obtain⟨q,a0⟩:=S2 ⟨s.b4,s.bn⟩ x.mG hk;unfold uw;simp only[fc,h2,h0,hw,U,af,a0,decide_true,if_true,and_self,dC,dx];by_cases e:p=true
   ·rw[dw e]
    by_cases e2:(q != i)=true
    ·exact .inr ⟨_,by rw[dw e2],trivial⟩
    exact .inl ⟨i+1,by rw[dA e2],by omega,by omega⟩
   exact .inr ⟨_,by rw[dA e],trivial⟩
  exact .inr ⟨.inl (),by simp[uw,fc,h2],trivial⟩) 0 (by omega)
 exact⟨r,h1⟩
def rb (iH:aoD)(m:c0):Bool :=
 decide (0<=m.ei/\m.ei<iH.length/\0<=m.eE/\m.eE<iH.length/\1<=m.jN/\m.jN<=3) &&
 match iH[m.ei.toNat]?,iH[m.eE.toNat]? with
 | some a,some b=> !(a.iG == b.iG && a.iY == b.iY) && !(a.mY && b.mY)
 | _,_=>false
theorem IC (s:cL)(m:c0):D8 s m=some (rb s.b4 m):=by
 unfold D8 rb;simp only[fc];by_cases h1:m.ei<0
 ·simp[h1];omega
 by_cases h2:(s.b4.length:Int)<=m.ei
 ·simp[h1,h2];omega
 by_cases J:m.eE<0
 ·simp[h1,h2,J];omega
 by_cases ak:(s.b4.length:Int)<=m.eE
 ·simp[h1,h2,J,ak];omega
 by_cases au:m.jN<1
 ·simp[h1,h2,J,ak,au];omega
 by_cases aP:3<m.jN
 ·simp[h1,h2,J,ak,au,aP];omega
 obtain⟨x,U⟩ : ∃x,s.b4[m.ei.toNat]? = some x:=⟨_,dz (by omega)⟩;obtain⟨y,aV⟩ : ∃y,s.b4[m.eE.toNat]? = some y:=⟨_,dz (by omega)⟩;have bh:0<=m.ei/\m.ei<s.b4.length:=by omega
 have cp:0<=m.eE/\m.eE<s.b4.length:=by omega
 have kc:0<=m.ei/\m.ei<s.b4.length/\0<=m.eE/\m.eE<s.b4.length/\1<=m.jN/\m.jN<=3:=by omega
 rw[decide_eq_false h1,decide_eq_false h2,decide_eq_false J,decide_eq_false ak,decide_eq_false au,decide_eq_false aP,decide_eq_true kc,dw bh,U];simp only[dT,if_false,dC,dx,Bool.true_and];rw[dw cp,aV];simp only[dx];by_cases e1:x.iG=y.iG<;>by_cases e2:x.iY=y.iY<;>by_cases DO:x.mY=true<;>by_cases Hv:y.mY=true<;>simp[e1,e2,DO,Hv]
theorem Ts (iH:aoD)(eP:aoC)(aq:iH.length<=6)(J8:eP.length<=8)(i:Int):
 D7 (R (len_ ca iH-1)) eP (len_ cc eP) iH i =
 (pQ eP iH eP (len_ cc eP) i).map (Sum.map id (Sum.map id fun _=>())):=by
 have hw:R ((iH.length:Nat)-1)=(iH.length:Nat)-1:=cT (by omega) (by omega);unfold D7 pQ yp;simp only[fc,hw,IC,uN,dC,dx];by_cases h1:i<(eP.length:Int);rotate_left
 ·simp[h1]
 by_cases h0:0<=i;rotate_left
 ·simp[h1,h0]
 obtain⟨m,hm⟩ : ∃x,eP[i.toNat]? = some x:=⟨_,dz (by omega)⟩;simp only[h1,h0,hm,decide_true,if_true,and_self,dx];unfold rb;by_cases hA:0<=m.ei/\m.ei<=(iH.length:Int)-1;rotate_left
 ·have kc : ¬(0<=m.ei/\m.ei<iH.length/\0<=m.eE/\m.eE<iH.length/\1<=m.jN/\m.jN<=3):=(by omega);rw[decide_eq_false hA,decide_eq_false kc];simp
 by_cases gl:0<=m.eE/\m.eE<=(iH.length:Int)-1;rotate_left
 ·have kc : ¬(0<=m.ei/\m.ei<iH.length/\0<=m.eE/\m.eE<iH.length/\1<=m.jN/\m.jN<=3):=(by omega);rw[decide_eq_true hA,decide_eq_false gl,decide_eq_false kc];simp
 by_cases iN:1<=m.jN/\m.jN<=3
 ·obtain⟨x,U⟩ : ∃x,iH[m.ei.toNat]? = some x:=⟨_,dz (by omega)⟩;obtain⟨y,aV⟩ : ∃y,iH[m.eE.toNat]? = some y:=⟨_,dz (by omega)⟩;have bh:0<=m.ei/\m.ei<iH.length:=(by omega);have cp:0<=m.eE/\m.eE<iH.length:=(by omega);have kc:0<=m.ei/\m.ei<iH.length/\0<=m.eE/\m.eE<iH.length/\1<=m.jN/\m.jN<=3:=(by omega);rw[decide_eq_true hA,decide_eq_true gl,decide_eq_true iN,decide_eq_true kc];simp only[if_true,dx,Bool.true_and];rw[dw bh,U];simp only[dx];rw[dw cp,aV];simp only[dx];by_cases e1:x.iG=y.iG<;>by_cases e2:x.iY=y.iY<;>by_cases DO:x.mY=true<;>by_cases Hv:y.mY=true<;>simp[e1,e2,DO,Hv]
 have kc : ¬(0<=m.ei/\m.ei<iH.length/\0<=m.eE/\m.eE<iH.length/\1<=m.jN/\m.jN<=3):=by omega
 rw[decide_eq_true hA,decide_eq_true gl,decide_eq_false iN,decide_eq_false kc];simp
theorem RZ (iH:aoD)(eP:aoC)(J8:eP.length<=8): ∃r,AF eP iH eP (len_ cc eP) 0=some r/\ ∀k,r = .inr k->0<=k:=by
 exact kd (f:=fun w=>pQ eP iH eP (len_ cc eP) w) (fun i=>0<=i/\i<=eP.length) (fun i=>(eP.length-i).toNat) (fun r=> ∀k,r = .inr k->0<=k) (fun i aa=>by
  obtain⟨h0,h1⟩:=aa;by_cases h2:i<(eP.length:Int)
  ·have hw:R (i+1)=i+1:=cT (by omega) (by omega)
   obtain⟨x,U⟩ : ∃x,eP[i.toNat]? = some x:=⟨_,dz (by omega)⟩;unfold pQ yp;simp only[fc,h2,h0,hw,U,IC,decide_true,if_true,and_self,dC,dx];by_cases e:(!rb iH x)=true
   ·exact .inr ⟨_,by rw[dw e],by intro k aX;simp at aX;omega⟩
   exact .inl ⟨i+1,by rw[dA e],by omega,by omega⟩
  exact .inr ⟨.inl (),by simp[pQ,fc,h2],by intro k aX;simp at aX⟩) 0 (by omega)
theorem LK (s:cL)(i0:n9 s): ∃r,lV s=some r/\vr s=some r:=by
 unfold lV vr;by_cases h1:6<(s.b4.length:Int)
 ·exact⟨false,by simp[fc,h1],by simp[fc,h1]⟩
 by_cases h2:8<(s.bn.length:Int)
 ·exact⟨false,by simp[fc,h1,h2],by simp[fc,h1,h2]⟩
 obtain⟨r,ai⟩:=LA s i0;rw[S3,ai];obtain⟨q,a0,m2⟩:=RZ s.b4 s.bn (by omega)
 have Po:Lj (R (len_ ca s.b4-1)) s.bn (len_ cc s.bn) s.b4 0=some (Sum.map id (fun _=>()) q) :=
  M4 (f:=fun w=>pQ s.bn s.b4 s.bn (len_ cc s.bn) w) (Sum.map id fun _=>()) (fun _=>True) (fun _ _ _ _=>trivial)
   (fun i _=>Ts s.b4 s.bn (by omega) (by omega) i) 0 q a0 trivial
 simp only[DY,D0,a0,Po,dC,dx];have d1:decide ((6:Int)<len_ ca s.b4)=false:=by rw[fc];exact decide_eq_false h1
 have d2:decide ((8:Int)<len_ cc s.bn)=false:=by rw[fc];exact decide_eq_false h2
 rw[d1,d2];simp only[dT,if_false]
 cases r with
 | inr a=>exact⟨false,rfl,rfl⟩
 | inl a =>
  cases q with
  | inl b=>exact⟨true,rfl,by simp⟩
  | inr k =>
   have:=m2 k rfl;exact⟨false,rfl,by simp[this]⟩
theorem adH (l:ar)(i:Int):Eb l (len_ eI l) i=(sF l (len_ eI l) i).map (Sum.map id (Sum.map id fun _=>())):=by
 unfold Eb sF B3;simp only[MC,uN,dC,dx];by_cases h1:i<len_ eI l
 ·by_cases h2:0<=i/\i<l.length
  ·cases U:l[i.toNat]? with
   | none=>simp[h1]
   | some x =>
    simp only[h1,h2,decide_true,if_true,and_self,dx];cases bC:decide (0<=x/\x<=1000)<;>simp
  rw[decide_eq_true h1,dA h2];simp[h2]
 simp[h1]
theorem acn (l:ar)(aT:l.length<=maxLen): ∃r,KU l (len_ eI l) 0=some r/\ ∀k,r = .inr k->0<=k:=by
 have hm:=vL
 exact kd (f:=fun w=>sF l (len_ eI l) w) (fun i=>0<=i/\i<=l.length) (fun i=>(l.length-i).toNat) (fun r=> ∀k,r = .inr k->0<=k) (fun i aa=>by
  obtain⟨h0,h1⟩:=aa;by_cases h2:i<(l.length:Int)
  ·have hw:R (i+1)=i+1:=cT (by omega) (by omega)
   obtain⟨x,U⟩ : ∃x,l[i.toNat]? = some x:=⟨_,dz (by omega)⟩;unfold sF B3;simp only[fc,h2,h0,hw,U,MC,decide_true,if_true,and_self,dC,dx];by_cases e:(!decide (0<=x/\x<=1000))=true
   ·exact .inr ⟨_,by rw[dw e],by intro k aX;simp at aX;omega⟩
   exact .inl ⟨i+1,by rw[dA e],by omega,by omega⟩
  exact .inr ⟨.inl (),by simp[sF,fc,h2],by intro k aX;simp at aX⟩) 0 (by omega)
theorem Ma (j:cI)(h:rP j=some true): -50<=j.iG/\j.iG<=50/\ -50<=j.iY/\j.iY<=50:=by
 unfold rP at h
 cases aS:w4 j.mG with
 | none=>simp[aS] at h
 | some r =>
  simp only[aS,uN,dC,dx] at h
  cases r with
  | false=>simp at h
  | true =>
   by_cases a : -50<=j.iG/\j.iG<=50
   ·by_cases b : -50<=j.iY/\j.iY<=50
    ·omega
    simp[a,b] at h
   simp[a] at h
theorem af4 (s:cL)(i0:n9 s)(h:vq s.b4 (len_ ca s.b4) s.bn 0=some (.inl ())): ∀(n:Nat) j,s.b4[n]? = some j->rP j=some true:=by
 have hm:=vL;obtain⟨⟨hk,hq⟩,-⟩:=i0
 obtain⟨r,h1,h2⟩:=kd (f:=fun w=>uw s.b4 (len_ ca s.b4) s.bn w) (fun i=>0<=i/\i<=s.b4.length/\ ∀(n:Nat) j,(n:Int)<i->s.b4[n]? = some j->rP j=some true) (fun i=>(s.b4.length-i).toNat)
  (fun r=>r = .inl ()-> ∀(n:Nat) j,s.b4[n]? = some j->rP j=some true) (fun i aa=>by
  obtain⟨h0,h1,J⟩:=aa;by_cases h2:i<(s.b4.length:Int)
  ·have hw:R (i+1)=i+1:=cT (by omega) (by omega)
   obtain⟨x,U⟩ : ∃x,s.b4[i.toNat]? = some x:=⟨_,dz (by omega)⟩;obtain⟨p,af⟩:=TL x (hq x (dH U)).1;obtain⟨q,a0⟩:=S2 ⟨s.b4,s.bn⟩ x.mG hk;unfold uw;simp only[fc,h2,h0,hw,U,af,a0,decide_true,if_true,and_self,dC,dx];by_cases e:p=true
   ·rw[dw e]
    by_cases e2:(q != i)=true
    ·exact .inr ⟨_,by rw[dw e2],by simp⟩
    refine .inl ⟨i+1,by rw[dA e2],⟨by omega,by omega,fun n j aS aq=> ?_⟩,by omega⟩;by_cases c:(n:Int)<i
    ·exact J n j c aq
    have:n=i.toNat:=(by omega);subst this;rw[U] at aq;obtain rfl:=dJ aq;rw[af,e]
   exact .inr ⟨_,by rw[dA e],by simp⟩
  refine .inr ⟨.inl (),by simp[uw,fc,h2],fun _ n j aq=>J n j (by have:=gm aq;omega) aq⟩) 0 ⟨by omega,by omega,fun n j aS=>by omega⟩
 have td:vq s.b4 (len_ ca s.b4) s.bn 0=some r:=h1;rw[h] at td;exact h2 (dJ td).symm
theorem afk (iH:aoD)(eP:aoC)(J8:eP.length<=8)(h:AF eP iH eP (len_ cc eP) 0=some (.inl ())): ∀(n:Nat) m,eP[n]? = some m->rb iH m=true:=by
 obtain⟨r,h1,h2⟩:=kd (f:=fun w=>pQ eP iH eP (len_ cc eP) w) (fun i=>0<=i/\i<=eP.length/\ ∀(n:Nat) m,(n:Int)<i->eP[n]? = some m->rb iH m=true) (fun i=>(eP.length-i).toNat)
  (fun r=>r = .inl ()-> ∀(n:Nat) m,eP[n]? = some m->rb iH m=true) (fun i aa=>by
  obtain⟨h0,h1,J⟩:=aa;by_cases h2:i<(eP.length:Int)
  ·have hw:R (i+1)=i+1:=cT (by omega) (by omega)
   obtain⟨x,U⟩ : ∃x,eP[i.toNat]? = some x:=⟨_,dz (by omega)⟩;unfold pQ yp;simp only[fc,h2,h0,hw,U,IC,decide_true,if_true,and_self,dC,dx];by_cases e:(!rb iH x)=true
   ·exact .inr ⟨_,by rw[dw e],by simp⟩
   refine .inl ⟨i+1,by rw[dA e],⟨by omega,by omega,fun n j aS aq=> ?_⟩,by omega⟩;by_cases c:(n:Int)<i
   ·exact J n j c aq
   have:n=i.toNat:=(by omega);subst this;rw[U] at aq;obtain rfl:=dJ aq;simpa using e
  refine .inr ⟨.inl (),by simp[pQ,fc,h2],fun _ n j aq=>J n j (by have:=gm aq;omega) aq⟩) 0 ⟨by omega,by omega,fun n j aS=>by omega⟩
 have td:AF eP iH eP (len_ cc eP) 0=some r:=h1;rw[h] at td;exact h2 (dJ td).symm
theorem yu (s:cL)(i0:n9 s)(h:lV s=some true):
 (∀(n:Nat) j,s.b4[n]? = some j->rP j=some true)/\(∀(n:Nat) m,s.bn[n]? = some m->rb s.b4 m=true)/\s.b4.length<=6/\s.bn.length<=8:=by
 obtain⟨p,p1,p2⟩:=LK s i0;rw[h] at p1;obtain rfl:=dJ p1;unfold vr at p2;by_cases h1:6<(s.b4.length:Int)
 ·simp[fc,h1] at p2
 by_cases h2:8<(s.bn.length:Int)
 ·simp[fc,h1,h2] at p2
 obtain⟨r,ai⟩:=LA s i0;rw[S3,ai] at p2;obtain⟨q,a0,m2⟩:=RZ s.b4 s.bn (by omega);have d1:decide ((6:Int)<len_ ca s.b4)=false:=by rw[fc];exact decide_eq_false h1
 have d2:decide ((8:Int)<len_ cc s.bn)=false:=by rw[fc];exact decide_eq_false h2
 rw[d1,d2] at p2;simp only[DY,D0,a0,dT,if_false,dC,dx] at p2
 cases r with
 | inr a=>simp at p2
 | inl a =>
  cases q with
  | inr k =>
   have:=m2 k rfl;simp[this] at p2
  | inl b=>exact⟨af4 s i0 ai,afk s.b4 s.bn (by omega) a0,by omega,by omega⟩
def n7 (s:cL):Prop:=(∀(n:Nat) j,s.b4[n]? = some j-> -50<=j.iG/\j.iG<=50/\ -50<=j.iY/\j.iY<=50)/\(∀(n:Nat) m,s.bn[n]? = some m->rb s.b4 m=true)/\s.b4.length<=6/\s.bn.length<=8
theorem adm (s:cL)(i0:n9 s)(h:lV s=some true):n7 s:=by obtain⟨f1,f2,f3,f4⟩:=yu s i0 h;exact⟨fun n j aq=>Ma j (f1 n j aq),f2,f3,f4⟩
theorem ahQ (s:cL)(h:n7 s)(k:Int)(h0:0<=k)(h1:k<s.bn.length):
 ∃x y,rN s k=some (x,y)/\(-100<=x/\x<=100)/\(-100<=y/\y<=100):=by
 obtain⟨f1,f2,f3,f4⟩:=h;obtain⟨m,hm⟩ : ∃x,s.bn[k.toNat]? = some x:=⟨_,dz (by omega)⟩;have ur:=f2 _ m hm;unfold rb at ur;simp only[dQ,decide_eq_true_eq] at ur;obtain⟨⟨g1,g2,g3,g4,-⟩,-⟩:=ur;obtain⟨a,bF⟩ : ∃x,s.b4[m.ei.toNat]? = some x:=⟨_,dz (by omega)⟩;obtain⟨b,aW⟩ : ∃x,s.b4[m.eE.toNat]? = some x:=⟨_,dz (by omega)⟩;have Zg:=f1 _ a bF;have Zh:=f1 _ b aW;have e1:R (b.iG-a.iG)=b.iG-a.iG:=cT (by omega) (by omega);have e2:R (b.iY-a.iY)=b.iY-a.iY:=cT (by omega) (by omega);have bY:0<=k/\k<s.bn.length:=⟨h0,h1⟩;have bh:0<=m.ei/\m.ei<s.b4.length:=⟨g1,g2⟩;have cp:0<=m.eE/\m.eE<s.b4.length:=⟨g3,g4⟩;refine⟨b.iG-a.iG,b.iY-a.iY,?_,by omega,by omega⟩;unfold rN;simp only[dw bY,hm,dw bh,dw cp,bF,aW,dC,dx,e1,e2]
theorem ahR (s:cL)(h:n7 s)(k:Int)(h0:0<=k)(h1:k<s.bn.length){v:Int×Int}(bf:rN s k=some v):w0 s k=some v:=by
 obtain⟨f1,f2,f3,f4⟩:=h;obtain⟨m,hm⟩ : ∃x,s.bn[k.toNat]? = some x:=⟨_,dz (by omega)⟩;have ur:=f2 _ m hm;unfold rb at ur;simp only[dQ,decide_eq_true_eq] at ur;obtain⟨⟨g1,g2,g3,g4,-⟩,-⟩:=ur;obtain⟨a,bF⟩ : ∃x,s.b4[m.ei.toNat]? = some x:=⟨_,dz (by omega)⟩;obtain⟨b,aW⟩ : ∃x,s.b4[m.eE.toNat]? = some x:=⟨_,dz (by omega)⟩;have Zg:=f1 _ a bF;have Zh:=f1 _ b aW;have e1:R (b.iG-a.iG)=b.iG-a.iG:=cT (by omega) (by omega);have e2:R (b.iY-a.iY)=b.iY-a.iY:=cT (by omega) (by omega);have bY:0<=k/\k<s.bn.length:=⟨h0,h1⟩;have bh:0<=m.ei/\m.ei<s.b4.length:=⟨g1,g2⟩;have cp:0<=m.eE/\m.eE<s.b4.length:=⟨g3,g4⟩;have sB:rN s k=some (b.iG-a.iG,b.iY-a.iY):=by unfold rN;simp only[dw bY,hm,dw bh,dw cp,bF,aW,dC,dx,e1,e2]
 rw[bf] at sB;obtain rfl:=dJ sB;unfold w0;simp only[dw bY,hm,dw bh,dw cp,bF,aW,dC,dx,e1,e2]
theorem af5 (s:cL)(i0:n9 s)(h:lV s=some true)(k:Int)(h0:0<=k)(h1:k<s.bn.length):
 ∃x y,rN s k=some (x,y)/\w0 s k=some (x,y)/\(-100<=x/\x<=100)/\(-100<=y/\y<=100):=by
 obtain⟨f1,f2,f3,f4⟩:=yu s i0 h;obtain⟨m,hm⟩ : ∃x,s.bn[k.toNat]? = some x:=⟨_,dz (by omega)⟩;have ur:=f2 _ m hm;unfold rb at ur;simp only[dQ,decide_eq_true_eq] at ur;obtain⟨⟨g1,g2,g3,g4,-⟩,-⟩:=ur;obtain⟨a,bF⟩ : ∃x,s.b4[m.ei.toNat]? = some x:=⟨_,dz (by omega)⟩;obtain⟨b,aW⟩ : ∃x,s.b4[m.eE.toNat]? = some x:=⟨_,dz (by omega)⟩;have Zg:=Ma a (f1 _ a bF);have Zh:=Ma b (f1 _ b aW);have e1:R (b.iG-a.iG)=b.iG-a.iG:=cT (by omega) (by omega);have e2:R (b.iY-a.iY)=b.iY-a.iY:=cT (by omega) (by omega);have bY:0<=k/\k<s.bn.length:=⟨h0,h1⟩;have bh:0<=m.ei/\m.ei<s.b4.length:=⟨g1,g2⟩;have cp:0<=m.eE/\m.eE<s.b4.length:=⟨g3,g4⟩;refine⟨b.iG-a.iG,b.iY-a.iY,?_,?_,by omega,by omega⟩
 ·unfold rN;simp only[dw bY,hm,dw bh,dw cp,bF,aW,dC,dx,e1,e2]
 unfold w0;simp only[dw bY,hm,dw bh,dw cp,bF,aW,dC,dx,e1,e2]
def F5 (r:ao):Prop:=r.ef.cd.length<=1048576/\r.fi.length<=1048576
def rp (p:Int×Int):aov:=some (lQ p)
theorem afl (l:aou)(h:l.length<=1048576)(ai:∀r∈l,F5 r):
 (∃xs:List (Int×Int),(∀p∈xs,Fr p)/\l=xs.map mk/\tA l=some true/\Cy l=some (xs.map rp,true))\/(tA l=some false/\Cy l=some ([],false)):=by
 have mJ : ∀r∈l,∃o:Option (Int×Int),(∀p,o=some p->Fr p/\r=mk p)/\mW r=some o.isSome/\vK r=some (pB o):=by
  intro r sw;have hlen:=ai r sw;rcases ahO (r:=r) (by have:=hlen.1;omega) (by have:=hlen.2;omega) with ⟨p,h1,h2,J,ak⟩|⟨J,ak⟩
  ·exact⟨some p,fun q a0=>by rw[<- dJ a0];exact⟨h1,h2⟩,J,ak⟩
  exact⟨none,fun q a0=>by simp at a0,J,ak⟩
 obtain⟨os,zK,Dl⟩ : ∃os:List (Option (Int×Int)),os.length=l.length/\ ∀(n:Nat) r o,l[n]? = some r->os[n]? = some o->(∀p,o=some p->Fr p/\r=mk p)/\mW r=some o.isSome/\vK r=some (pB o):=by
  clear h ai
  induction l with
  | nil=>exact⟨[],rfl,fun n r o h=>by simp at h⟩
  | cons x l ih =>
   obtain⟨os,e1,e2⟩:=ih (fun r ai=>mJ r (by simp[ai]));obtain⟨o,an⟩:=mJ x (by simp);refine⟨o::os,by simp[e1],fun n r cl h1 h2=> ?_⟩
   cases n with
   | zero =>
    simp at h1 h2;subst h1 h2;exact an
   | succ n=>exact e2 n r cl (by simpa using h1) (by simpa using h2)
 have Gm:iter (fun w:Int=>vp l l.length w) 0=some (if os.all Option.isSome then .inl () else .inr ()):=M5 os Option.isSome (fun n o an=>by have aS:=gm an;have U:=dz (show n<l.length by omega);obtain⟨-,h2,-⟩:=Dl n _ o U an;unfold vp;rw[dw (by simp;omega),dw (by omega),dy,U];simp only[dC,dx];rw[h2];simp only[dx];rw[i1 (by omega)];cases o.isSome<;>rfl) (by rw[zK];simp[vp]);have Gn:iter (fun w:Int×aoE=>BZ l l.length w.1 w.2) (0,List.replicate l.length (none:aov))=some (if os.all Option.isSome then .inl (os.map pB) else .inr ()):=U1 os Option.isSome pB _ (by simp[zK]) (fun n o row an d4=>by have aS:=gm an;have U:=dz (show n<l.length by omega);obtain⟨-,-,J⟩:=Dl n _ o U an;unfold BZ;rw[dw (by simp;omega),dw (by omega),dy,U];simp only[dC,dx];rw[J];simp only[dx];rw[dw (by omega),dG,dw (by omega),aog,dw rfl,dw (by omega)];simp only[dx];rw[i1 (by omega)];cases o<;>rfl) (fun row=>by rw[zK];simp[BZ]);unfold tA LJ Cy TA;simp only[fc,dy];have aZ:0<=(l.length:Int)/\(8:Int)*(l.length:Int)<=281474976710656/\(l.length:Int)<9223372036854775808:=by omega
 rw[Gm,Gn,dw aZ];by_cases kj:os.all Option.isSome=true;rotate_left
 ·simp only[Bool.not_eq_true] at kj;refine .inr ⟨by rw[kj];rfl,by rw[kj];rfl⟩
 refine .inl ⟨os.filterMap id,?_,?_,by rw[kj];rfl,?_⟩
 ·intro p af;obtain⟨o,an,pE⟩:=List.mem_filterMap.mp af;obtain⟨n,aS⟩:=List.mem_iff_getElem?.mp an;have ez:=gm aS;exact((Dl n _ o (dz (show n<l.length by omega)) aS).1 p pE).1
 ·clear Gm Gn mJ ai h aZ
  induction l generalizing os with
  | nil =>
   have:os=[]:=List.eq_nil_of_length_eq_zero zK;subst this;rfl
  | cons x l ih =>
   cases os with
   | nil=>simp at zK
   | cons o os =>
    simp only[List.all_cons,dQ] at kj;obtain⟨p,rfl⟩:=Option.isSome_iff_exists.mp kj.1;have h1:=((Dl 0 x (some p) rfl rfl).1 p rfl).2;have h2:=ih os (by simpa using zK) (fun n r o J ak=>Dl (n+1) r o (by simpa using J) (by simpa using ak)) kj.2;simp only[List.filterMap_cons,id,List.map_cons];rw[<- h2,<- h1]
 rw[kj];simp only[if_true,dC,dx];congr 2;clear Gm Gn mJ ai h Dl zK
 induction os with
 | nil=>rfl
 | cons o os ih =>
  simp only[List.all_cons,dQ] at kj;obtain⟨p,rfl⟩:=Option.isSome_iff_exists.mp kj.1;simp only[List.filterMap_cons,id,List.map_cons];rw[ih kj.2];rfl
theorem af6 (s:cL)(i0:n9 s)(q:aou)(h:q.length<=1048576)(ai:∀r∈q,F5 r):
 (∃xs:List (Int×Int),(∀p∈xs,Fr p)/\q=xs.map mk/\q.length=s.bn.length/\lV s=some true/\w2 s q=some true/\Cd s q=some (xs.map rp,true))\/(w2 s q=some false/\Cd s q=some ([],false)):=by
 obtain⟨o,bR,aL⟩:=LK s i0;unfold w2 Cd;simp only[fc];rw[bR,aL];by_cases aT:q.length=s.bn.length
 ·cases o with
  | false =>
   refine .inr ⟨rfl,?_⟩;simp[aT]
  | true =>
   rcases afl q h ai with ⟨xs,x1,x2,aw,fS⟩|⟨aw,fS⟩
   ·refine .inl ⟨xs,x1,x2,aT,rfl,?_,?_⟩
    ·simp[aT,aw]
    simp[aT,fS]
   refine .inr ⟨?_,?_⟩
   ·simp[aT,aw]
   simp[aT,fS]
 refine .inr ⟨?_,?_⟩
 ·cases o<;>simp[aT]<;>omega
 have:((q.length:Int) != (s.bn.length:Int))=true:=by simp;omega
 rw[dw this]
noncomputable def Pp (x:Int×Int)(DW:Int):Option (Int×Int):=uZ (uZ (some x) (some x)) (some (DW,1))
theorem sQ {p:Int×Int}(h:Fr p):wI (some p):=fun q a0=>by rw[<- dJ a0];exact h
theorem UD {n d:Int}(aS:0<=n): ∀p,low n d=some p->0<=p.1:=by
 intro p af;unfold low at af;split at af
 ·rw[<- dJ af];exact Int.ediv_nonneg aS (by omega)
 simp at af
theorem aiz {x:Int×Int}(U:Fr x){DW:Int}(h0:0<=DW)(h1:DW<=1000000): ∀p,Pp x DW=some p->Fr p/\0<=p.1:=by
 intro p af;have bG:Fr (DW,1):=JE (la.2 (by omega));have ud:=Jp (sQ U) (sQ U);refine⟨Jp ud (sQ bG) p af,?_⟩;unfold Pp at af;rw[Fy] at af
 cases aT:low (x.1*x.1) (x.2*x.2) with
 | none=>rw[aT] at af;simp[uZ] at af
 | some q =>
  rw[aT,Fy] at af
  have J:=UD (n:=x.1*x.1) (d:=x.2*x.2) (by rcases Int.le_total 0 x.1 with h|h
                                           ·exact Int.mul_nonneg h h
                                           exact Int.mul_nonneg_of_nonpos_of_nonpos h h) q aT
  exact UD (Int.mul_nonneg J h0) p af
def XK (s:cL)(q:aou)(xs:List (Int×Int))(k:Nat)(o:Option (Int×Int)):Prop :=
 (∀p,o=some p->Fr p/\0<=p.1)/\B7 s q k=some (enc o,o.isSome)/\AY s (xs.map rp) k=some (pB o)
theorem sq_nonneg (x:Int):0<=x*x:=by
 rcases Int.le_total 0 x with h|h
 ·exact Int.mul_nonneg h h
 exact Int.mul_nonneg_of_nonpos_of_nonpos h h
theorem Xo {x:Int}(h0:-100<=x)(h1:x<=100):x*x<=10000:=by
 have h2:=Int.mul_nonneg (show 0<=100+x by omega) (show 0<=100-x by omega);have e:(100+x)*(100-x)=10000-x*x:=by grind
 omega
theorem T6 {n k:Nat}(aX:k<n)(aS:n<=1000000):oa (k:Int) 0 (R ((n:Int)-1))=some true:=by rw[uN,cT (by omega) (by omega)];simp;omega
theorem af7 (s:cL)(i0:n9 s)(q:aou)(xs:List (Int×Int))(U:∀p∈xs,Fr p)(a0:q=xs.map mk)(aT:q.length=s.bn.length)(lK:lV s=some true)(iE:w2 s q=some true)(k:Nat)(aX:k<s.bn.length): ∃o,XK s q xs k o:=by
 obtain⟨-,-,-,YH⟩:=yu s i0 lK;obtain⟨x,y,v1,v2,v3,v4⟩:=af5 s i0 lK k (by omega) (by omega);have Kg:xs.length=s.bn.length:=by rw[<- aT,a0];simp
 have Pq:=dz (show k<xs.length by omega);have mj:=U _ (dH Pq);have s1:=sq_nonneg x;have s2:=sq_nonneg y;have xR:=Xo v3.1 v3.2;have Ze:=Xo v4.1 v4.2;have hw:R (R (x*x)+R (y*y))=x*x+y*y:=by rw[cT (x:=x*x) (by omega) (by omega),cT (x:=y*y) (by omega) (by omega),cT (by omega) (by omega)]
 have lA:nq (x*x+y*y):=la.2 (by omega);have bG:Fr (x*x+y*y,1):=JE lA;have ud:=Jp (sQ mj) (sQ mj);refine⟨Pp xs[k] (x*x+y*y),aiz mj (by omega) (by omega),?_,?_⟩
 ·have bf:ES s k=some (x,y):=by
   unfold ES;rw[lK];simp only[dC,dx,if_true,fc];rw[T6 aX (by omega)];simp only[dx,if_true];rw[v2];rfl
  have O0:ET s k=some (x*x+y*y):=(by unfold ET;rw[bf];simp only[dC,dx];rw[hw]);have ala:q[k]? = some (enc (some xs[k])):=(by rw[a0,dK,Pq];rfl);unfold B7;rw[iE];simp only[dC,dx,if_true,fc];rw[T6 aX (by omega)];simp only[dx,if_true];rw[dw (by omega),dy,ala];simp only[dx];rw[Va (sQ mj) (sQ mj)];simp only[dx];rw[O0];simp only[dx];rw[Mf lA];simp only[dx];have e1:mk (x*x+y*y,1)=enc (some (x*x+y*y,1)):=rfl;rw[e1,Va ud (sQ bG)];simp only[dx];rw[NO (Jp ud (sQ bG))];rfl
 have alb:(xs.map rp)[k]? = some (pB (some xs[k])):=by rw[dK,Pq];rfl
 unfold AY;rw[v1];simp only[dC,dx];rw[dw (by simp;omega),dy,alb];simp only[dx];rw[Wh (sQ mj) (sQ mj)];simp only[dx];rw[hw,M9 lA];simp only[dx];have e1:some (lQ (x*x+y*y,1))=pB (some (x*x+y*y,1)):=rfl;rw[e1,Wh ud (sQ bG)];rfl
theorem aha {os:List (Option (Int×Int))}(h:os.all Option.isSome=true):os=(os.filterMap id).map some:=by
 induction os with
 | nil=>rfl
 | cons o os ih =>
  simp only[List.all_cons,dQ] at h;obtain⟨p,rfl⟩:=Option.isSome_iff_exists.mp h.1;simp only[List.filterMap_cons,id,List.map_cons];rw[<- ih h.2]
theorem aek (s:cL)(i0:n9 s)(q:aou)(h:q.length<=1048576)(ai:∀r∈q,F5 r):
 (∃br:List (Int×Int),(∀p∈br,Fr p/\0<=p.1)/\br.length=s.bn.length/\s.bn.length<=8/\lV s=some true/\vv s q=some (br.map mk,true)/\yt s q=some (br.map rp,true))\/(vv s q=some ([],false)/\yt s q=some ([],false)):=by
 rcases af6 s i0 q h ai with ⟨xs,U,a0,aT,lK,iE,On⟩|⟨iE,On⟩;rotate_left
 ·refine .inr ⟨?_,?_⟩
  ·unfold vv;rw[iE];rfl
  unfold yt;rw[On];rfl
 obtain⟨-,-,-,YH⟩:=yu s i0 lK;obtain⟨os,bR,aL⟩:=U2 (P:=XK s q xs) s.bn.length (fun k aX=>af7 s i0 q xs U a0 aT lK iE k aX);have Kg:xs.length=s.bn.length:=by rw[<- aT,a0];simp
 have Gm:iter (fun w:Int×aou=>Bl q s.bn.length s.b4 s.bn w.1 w.2) (0,[])=some (if os.all Option.isSome then .inl (os.map enc) else .inr ()):=agU os Option.isSome enc (fun n o row an d4=>by
  have aS:=gm an;obtain⟨-,h2,-⟩:=aL n o an;have G1:B7 (⟨s.b4,s.bn⟩:cL) q n=some (enc o,o.isSome):=h2;unfold Bl;rw[dw (by simp;omega),G1];simp only[dC,dx];rw[i1 (by omega)];cases o.isSome
  ·rfl
  rw[dw rfl,dw (by simp;omega),dw rfl]) (fun row=>by rw[bR];simp[Bl])
 have Gn:iter (fun w:Int×aoE=>A1 s.b4 s.bn (xs.map rp) xs.length w.1 w.2) (0,List.replicate xs.length (none:aov))=some (if os.all Option.isSome then .inl (os.map pB) else .inr ()):=U1 os Option.isSome pB _ (by simp;omega) (fun n o row an d4=>by have aS:=gm an;obtain⟨-,-,J⟩:=aL n o an;have ON:AY (⟨s.b4,s.bn⟩:cL) (xs.map rp) n=some (pB o):=J;unfold A1;rw[dw (by simp;omega),ON];simp only[dC,dx];rw[dw (by omega),dy,dG,dw (by omega),aog,dw rfl,dw (by omega)];simp only[dx];rw[i1 (by omega)];cases o<;>rfl) (fun row=>by rw[bR,<- Kg];simp[A1]);unfold vv RU yt Rs;rw[iE,On];simp only[dC,dx,if_true,fc,aok,dy];have aZ:0<=(xs.length:Int)/\(8:Int)*(xs.length:Int)<=281474976710656/\(xs.length:Int)<9223372036854775808:=by omega
 rw[Gm,Gn,dw aZ];by_cases kj:os.all Option.isSome=true;rotate_left
 ·simp only[Bool.not_eq_true] at kj;refine .inr ⟨by rw[kj];rfl,by rw[kj];rfl⟩
 have qa:=aha kj;refine .inl ⟨os.filterMap id,?_,?_,YH,lK,?_,?_⟩
 ·intro p af;obtain⟨o,an,pE⟩:=List.mem_filterMap.mp af;obtain⟨n,aS⟩:=List.mem_iff_getElem?.mp an;exact(aL n _ aS).1 p pE
 ·rw[<- bR]
  conv=>rhs;rw[qa]
  simp
 ·rw[kj,dw rfl]
  simp only[dx];congr 2
  conv=>lhs;rw[qa]
  rw[List.map_map];rfl
 rw[kj,dw rfl];simp only[dx];congr 2
 conv=>lhs;rw[qa]
 rw[List.map_map];rfl
theorem aeI (s:cL)(lK:lV s=some true)(l:ar)(aT:l.length<=maxLen): ∃r,vA s l=some r/\ED s l=some r/\(r=true->l.length=s.bn.length/\ ∀(n:Nat) x,l[n]? = some x->0<=x/\x<=1000):=by
 have hm:=vL;unfold vA ED;simp only[lK,dC,dx,if_true];obtain⟨q,a0,m2⟩:=acn l aT
 have Pl:SC l (len_ eI l) 0=some (Sum.map id (fun _=>()) q) :=
  M4 (f:=fun w=>sF l (len_ eI l) w) (Sum.map id fun _=>()) (fun _=>True) (fun _ _ _ _=>trivial) (fun i _=>adH l i) 0 q a0 trivial
 simp only[HS,HV,a0,Pl,dC,dx];by_cases e:len_ eI l=len_ cc s.bn;rotate_left
 ·exact⟨false,by simp[e],by simp[e],by simp⟩
 simp only[e,bne_self_eq_false,beq_self_eq_true,dT,if_false,if_true]
 cases q with
 | inl b =>
  refine⟨true,rfl,by simp,fun _=>⟨by rw[fc,fc] at e;omega,?_⟩⟩
  obtain⟨r,r1,r2⟩:=kd (f:=fun w=>sF l (len_ eI l) w) (fun i=>0<=i/\i<=l.length/\ ∀(n:Nat) x,(n:Int)<i->l[n]? = some x->0<=x/\x<=1000) (fun i=>(l.length-i).toNat)
   (fun r=>r = .inl ()-> ∀(n:Nat) x,l[n]? = some x->0<=x/\x<=1000) (fun i aa=>by
   obtain⟨h0,h1,J⟩:=aa;by_cases h2:i<(l.length:Int)
   ·have hw:R (i+1)=i+1:=cT (by omega) (by omega)
    obtain⟨x,U⟩ : ∃x,l[i.toNat]? = some x:=⟨_,dz (by omega)⟩;unfold sF B3;simp only[fc,h2,h0,hw,U,MC,decide_true,if_true,and_self,dC,dx];by_cases c:0<=x/\x<=1000
    ·refine .inl ⟨i+1,by simp[c],⟨by omega,by omega,fun n y aS aV=> ?_⟩,by omega⟩
     by_cases d:(n:Int)<i
     ·exact J n y d aV
     have:n=i.toNat:=(by omega);subst this;rw[U] at aV;rw[<- dJ aV];exact c
    exact .inr ⟨.inr i,by simp[c],by simp⟩
   refine .inr ⟨.inl (),by simp[sF,fc,h2],fun _ n x U=>J n x (by have:=gm U;omega) U⟩) 0 ⟨by omega,by omega,fun n x aS=>by omega⟩
  have Ad:KU l (len_ eI l) 0=some r:=r1;rw[a0] at Ad;exact r2 (dJ Ad).symm
 | inr k =>
  have:=m2 k rfl;exact⟨false,rfl,by simp[this],by simp⟩
theorem af8 {br:List (Int×Int)}{w:ar}(aV:∀p∈br,Fr p/\0<=p.1)(hw:w.length=br.length)(wH:∀(n:Nat) x,w[n]? = some x->0<=x/\x<=1000)(ba:br.length<=8)(n:Nat)(row:ar)(y:Int×Int)(d4:row.length<=n)(aS:br[n]? = some y):
 ∃b:Bool,x8 w (br.map mk) br.length n row=some (.inl (((n+1:Nat):Int),if b then row++[(n:Int)] else row))/\ux w (br.map rp) br.length n row=some (.inl (((n+1:Nat):Int),if b then row++[(n:Int)] else row)):=by
 have ez:=gm aS;have U:=dz (show n<w.length by omega);obtain⟨nL,jf⟩:=wH n _ U;obtain⟨mj,-⟩:=aV y (dH aS);have s1:=sq_nonneg w[n];have s2:w[n]*w[n]<=1000000:=by have:=Int.mul_le_mul jf jf nL (by omega);omega
 have lA:nq (w[n]*w[n]):=la.2 (by omega);have bG:Fr (w[n]*w[n],1):=JE lA;have YI:R (w[n]*w[n])=w[n]*w[n]:=cT (by omega) (by omega);refine⟨decide (0<li (y.1*1) (w[n]*w[n]*y.2)),?_,?_⟩
 ·unfold x8
  rw[dw (by simp;omega),dw (by simp;omega),dy,dK,aS];simp only[dC,dx,dR];rw[dw (by omega),U];simp only[dx];rw[YI,Mf lA];simp only[dx];rw[Vb mj bG,i1 (by omega)];simp only[dx];by_cases c:0<li (y.1*1) (w[n]*w[n]*y.2)
  ·rw[dw (by simpa using c),dw (by simp;omega),dw (by simpa using c)]
  rw[dA (by simpa using c),dA (by simpa using c)]
 unfold ux;rw[dw (by simp;omega),dw (by simp;omega),dy,dK,aS];simp only[dC,dx,dR];rw[dw (by omega),U];simp only[dx];rw[YI,M9 lA];simp only[dx,rp];rw[aeh mj.pos bG.pos mj.num mj.den bG.num bG.den (by omega) (by omega) (by omega) (by omega),i1 (by omega)];simp only[dx];by_cases c:0<li (y.1*1) (w[n]*w[n]*y.2)
 ·rw[dw (by simpa using c),dw (by simp;omega),dw (by simpa using c)]
 rw[dA (by simpa using c),dA (by simpa using c)]
theorem adn {br:List (Int×Int)}{w:ar}(aV:∀p∈br,Fr p/\0<=p.1)(hw:w.length=br.length)(wH:∀(n:Nat) x,w[n]? = some x->0<=x/\x<=1000)(ba:br.length<=8):
 ∃r,K2 w (br.map mk) br.length 0 []=some r/\RY w (br.map rp) br.length 0 []=some r:=by
 have key : ∃r,K2 w (br.map mk) br.length 0 []=some r/\(∀a,iter (fun v:Int×ar=>ux w (br.map rp) br.length v.1 v.2) (0,[])=a->a=some r):=by
  have h:=kd (f:=fun v:Int×ar=>(x8 w (br.map mk) br.length v.1 v.2)) (fp:=fun v=>(∃n:Nat,v.1=n/\n<=br.length/\v.2.length<=n)/\iter (fun v:Int×ar=>ux w (br.map rp) br.length v.1 v.2) (0,[])=iter (fun v:Int×ar=>ux w (br.map rp) br.length v.1 v.2) v) (m:=fun v=>br.length-v.1.toNat)
   (fun r=>iter (fun v:Int×ar=>ux w (br.map rp) br.length v.1 v.2) (0,[])=some r) (by
     rintro⟨i,row⟩ ⟨⟨n,e1,e2,bJ⟩,c1⟩;simp only at e1 bJ;subst e1;by_cases aS:n=br.length
     ·subst aS;refine .inr ⟨row,by simp[x8],?_⟩;rw[c1,iter];simp[ux]
     obtain⟨b,i9,j1⟩:=af8 aV hw wH ba n row _ bJ (dz (show n<br.length by omega));refine .inl ⟨_,i9,⟨⟨n+1,rfl,by omega,?_⟩,?_⟩,by simp;omega⟩
     ·cases b<;>simp<;>omega
     rw[c1,iter];simp only;rw[j1];rfl) (0,[]) ⟨⟨0,rfl,by omega,by simp⟩,rfl⟩
  obtain⟨r,r1,r2⟩:=h;exact⟨r,r1,fun a bF=>by rw[<- bF];exact r2⟩
 obtain⟨r,r1,r2⟩:=key;exact⟨r,r1,r2 _ rfl⟩
theorem adZ (s:cL)(i0:n9 s)(q:aou)(h:q.length<=1048576)(ai:∀r∈q,F5 r)(w:ar)(Aa:w.length<=maxLen): ∃r,Ci s q w=some r/\EY s q w=some r:=by
 unfold Ci EY Ib;rcases aek s i0 q h ai with ⟨br,fW,eY,k8,jC,j3,qp⟩|⟨j3,qp⟩
 ·rw[j3,qp]
  simp only[dC,dx,if_true];obtain⟨l,k4,ln,xY⟩:=aeI s jC w Aa;rw[k4,ln]
  cases l with
  | false=>exact⟨false,rfl,rfl⟩
  | true =>
   obtain⟨kW,alS⟩:=xY rfl;obtain⟨r,r1,r2⟩:=adn fW (by omega) alS (by omega);unfold H3;rw[j3];simp only[dC,dx,if_true,k4,fc,aok];rw[r1,r2];exact⟨_,rfl,rfl⟩
 rw[j3,qp];exact⟨false,rfl,rfl⟩
def vl (l:ar)(n:Nat)(x:Int):Prop:=0<=x/\x<1000000000/\(∀z,l[n]? = some z->x=z)/\(l[n]? = none->x=0)
theorem zD {l:ar}(h:c2 l){n:Nat}(aS:n<l.length):vl l n l[n]:=by have U:=dz aS;have h0:=h.get U;exact⟨h0.1,h0.2,fun z cA=>by rw[U] at cA;exact dJ cA,fun h=>by rw[U] at h;simp at h⟩
theorem C3 {l:ar}{n:Nat}(aS:¬n<l.length):vl l n 0:=by
 have U:l[n]? = none:=by simp;omega
 exact⟨by omega,by omega,fun z cA=>by rw[U] at cA;simp at cA,fun _=>rfl⟩
theorem vl.take {l:ar}{n:Nat}{x:Int}(h:vl l n x):V (l.take (n+1))=V (l.take n)+B n*x:=VC h.2.2.1 h.2.2.2
theorem ahb {a b row:ar}{carry:Int}{n:Nat}(bF:c2 a)(aW:c2 b)(aZ:carry=0\/carry=1)(ug:a.length<=1000000)(Pr:b.length<=1000000)(ai:row.length<=1000001)(Ke:n<=1000001)(aS:n<a.length\/n<b.length\/carry=1):
 ∃x y,vl a n x/\vl b n y/\yl a b carry n row=some (.inl ((carry+x+y) / 1000000000,((n+1:Nat):Int),row++[(carry+x+y) % 1000000000])):=by
 have od:0<=carry/\carry<=1:=by omega
 unfold yl;simp only[gy];by_cases h1:n<a.length
 ·have hA:=zD bF h1
  have U:=dz h1;rw[dw (by simp;omega),dw (by omega),dy,U];simp only[dC,dx];by_cases h2:n<b.length
  ·have gl:=zD aW h2;have aV:=dz h2;have hk:=hA.1;have hq:=hA.2.1;have i9:=gl.1;have j1:=gl.2.1;refine⟨a[n],b[n],hA,gl,?_⟩;rw[dw (by simp;omega),dw (by omega),aV];simp only[dx];rw[cT (x:=carry+a[n]) (by omega) (by omega),cT (x:=carry+a[n]+b[n]) (by omega) (by omega),sA (by omega),oP (by omega),cT (by omega) (by omega),px (n:=n) (by omega),dw (by simp;omega)]
  have hk:=hA.1;have hq:=hA.2.1;refine⟨a[n],0,hA,C3 h2,?_⟩;rw[dA (by simp;omega),cT (x:=carry+a[n]) (by omega) (by omega),sA (by omega),oP (by omega),cT (by omega) (by omega),px (n:=n) (by omega),dw (by simp;omega),Int.add_zero]
 rw[dA (by simp;omega)];by_cases h2:n<b.length
 ·have gl:=zD aW h2;have aV:=dz h2;have i9:=gl.1;have j1:=gl.2.1;refine⟨0,b[n],C3 h1,gl,?_⟩;rw[dw (by simp;omega),dw (by omega),dy,aV];simp only[dC,dx];rw[cT (x:=carry+b[n]) (by omega) (by omega),sA (by omega),oP (by omega),cT (by omega) (by omega),px (n:=n) (by omega),dw (by simp;omega),Int.add_zero]
 refine⟨0,0,C3 h1,C3 h2,?_⟩;rw[dA (by simp;omega),dw (by simp;omega),sA (by omega),oP (by omega),cT (by omega) (by omega),px (n:=n) (by omega),dw (by simp;omega),Int.add_zero,Int.add_zero]
theorem ahc {a b:ar}(bF:c2 a)(aW:c2 b)(ug:a.length<=900000)(Pr:b.length<=900000): ∃r,Cq a b=some r/\c2 r/\V r=V a+V b/\r.length<=a.length+b.length+1:=by
 obtain⟨r,ai,h1,h2,J⟩:=kd (f:=fun w:Int×Int×ar=>yl a b w.1 w.2.1 w.2.2) (fp:=fun w=> ∃n:Nat,w.2.1=n/\w.2.2.length=n/\(w.1=0\/w.1=1)/\c2 w.2.2/\V w.2.2+w.1*B n=V (a.take n)+V (b.take n)/\(n<=a.length\/n<=b.length\/w.1=0)/\n<=a.length+b.length+1) (m:=fun w=>(a.length+b.length+2-w.2.1.toNat))
  (fun r=>c2 r/\V r=V a+V b/\r.length<=a.length+b.length+1) (by
    rintro⟨carry,ii,row⟩ ⟨n,e1,e2,bJ,c1,dl,et,ey⟩;simp only at e1 e2 bJ c1 dl et;subst e1;by_cases aS:n<a.length\/n<b.length\/carry=1
    ·obtain⟨x,y,U,aV,o6⟩:=ahb (row:=row) bF aW bJ (by omega) (by omega) (by omega) (by omega) aS
     have x0:=U.1;have x1:=U.2.1;have Zi:=aV.1;have fW:=aV.2.1;have Hu:n<=a.length+b.length:=(by omega);refine .inl ⟨_,o6,⟨n+1,rfl,by simp[e2],by simp only;omega,c1.append (c2.cons (by omega) c2.nil),?_,?_,by omega⟩,by simp only;omega⟩
     ·simp only;rw[yW,e2,nU,mX,Dc,U.take,aV.take];have:=Int.mul_ediv_add_emod (carry+x+y) 1000000000;generalize (carry+x+y) / 1000000000=u at *;generalize (carry+x+y) % 1000000000=t at *;have cj:t=carry+x+y-1000000000*u:=(by omega);rw[cj];grind
     simp only;by_cases h:n+1<=a.length\/n+1<=b.length
     ·omega
     ·
      have anM : ¬n<a.length:=(by omega);have anN : ¬n<b.length:=(by omega);have iX:x=0:=U.2.2.2 (by simp;omega);have j0:y=0:=aV.2.2.2 (by simp;omega);omega
    refine .inr ⟨row,?_,c1,?_,by omega⟩
    ·unfold yl;simp only[gy];rw[dA (by simp;omega),dA (by simp;omega),dA (by simp;omega)]
    have aZ:carry=0:=(by omega);rw[aZ,dP (by omega),dP (by omega)] at dl;omega) (0,0,[]) ⟨0,rfl,rfl,.inl rfl,c2.nil,by simp[V],by omega,by omega⟩
 unfold Cq S7;rw[ai];exact⟨r,rfl,h1,h2,J⟩
theorem af9 {neg:Bool}{r:ar}(ai:c2 r)(aT:r.length<=5000000)(qW:V r<B 60):ju neg r=some (gL (eX neg (V r))):=by
 have h0:=mC ai;have:ju neg r=ju neg (L (V r)):=by unfold ju Co;have hlen:=(hX h0).2 qW;rw[uH ai aT,uH (hO _) (by omega),eg h0]
 rw[this,sR h0 qW]
theorem aga {a b row:ar}{carry:Int}{n:Nat}(bF:c2 a)(aW:c2 b)(aZ:carry=0\/carry=1)(ug:a.length<=1000000)(aS:n<a.length)(ai:n<row.length):
 ∃x y,vl a n x/\vl b n y/\B1 a b a.length carry n row=some (.inl ((carry+x+y) / 1000000000,((n+1:Nat):Int),row.set n ((carry+x+y) % 1000000000))):=by
 have od:0<=carry/\carry<=1:=by omega
 have hA:=zD bF aS;have U:=dz aS;have hk:=hA.1;have hq:=hA.2.1;unfold B1;simp only[gy];rw[dw (by simp;omega),dw (by omega),dy,U];simp only[dC,dx];by_cases h2:n<b.length
 ·have gl:=zD aW h2;have aV:=dz h2;have i9:=gl.1;have j1:=gl.2.1;refine⟨a[n],b[n],hA,gl,?_⟩;rw[dw (by simp;omega),dw (by omega),aV];simp only[dx];rw[dw (by omega),dw (by omega),cT (x:=a[n]+carry) (by omega) (by omega),cT (x:=a[n]+carry+b[n]) (by omega) (by omega),sA (by omega),oP (by omega),cT (by omega) (by omega),px (n:=n) (by omega),dG,Int.add_comm a[n] carry]
 refine⟨a[n],0,hA,C3 h2,?_⟩;rw[dA (by simp;omega),dw (by omega),dw (by omega),cT (x:=a[n]+carry) (by omega) (by omega),sA (by omega),oP (by omega),cT (by omega) (by omega),px (n:=n) (by omega),dG,Int.add_zero,Int.add_comm a[n] carry]
theorem agb {a b:ar}(bF:c2 a)(aW:c2 b)(ug:a.length<=900000)(xG:b.length<=a.length):
 ∃r,Is a b a.length 0 0 (List.replicate (a.length+1) 0)=some r/\(r.1=0\/r.1=1)/\c2 r.2/\r.2.length=a.length+1/\V r.2+r.1*B a.length=V a+V b/\r.2[a.length]? = some 0:=by
 refine kd (fp:=fun w:Int×Int×ar=> ∃n:Nat,w.2.1=n/\n<=a.length/\(w.1=0\/w.1=1)/\c2 w.2.2/\w.2.2.length=a.length+1/\V w.2.2+w.1*B n=V (a.take n)+V (b.take n)/\ ∀j,n<=j->j<a.length+1->w.2.2[j]? = some 0) (m:=fun w=>a.length-w.2.1.toNat) _ ?_ _ ⟨0,rfl,by omega,.inl rfl,c2.OX _,by simp,by simp[V,NY],fun j _ h=>by simp[List.getElem?_replicate];omega⟩;rintro⟨carry,ii,row⟩ ⟨n,e1,e2,bJ,c1,dl,et,ey⟩;simp only at e1 bJ c1 dl et ey ⊢;subst e1;by_cases aS:n=a.length
 ·subst aS;refine .inr ⟨(carry,row),by simp[B1],bJ,c1,dl,?_,ey _ (dE _) (by omega)⟩;rw[List.take_length,dP xG] at et;exact et
 obtain⟨x,y,U,aV,o6⟩:=aga (row:=row) (n:=n) bF aW bJ (by omega) (by omega) (by omega);have x0:=U.1;have x1:=U.2.1;have Zi:=aV.1;have fW:=aV.2.1;refine .inl ⟨_,o6,⟨n+1,rfl,by omega,by simp only;omega,c1.set (by omega),by simpa using dl,?_,fun j h1 h2=> ?_⟩,by simp only;omega⟩
 ·simp only;rw[uW (ey n (dE _) (by omega)),nU,U.take,aV.take];have:=Int.mul_ediv_add_emod (carry+x+y) 1000000000;generalize (carry+x+y) / 1000000000=u at *;generalize (carry+x+y) % 1000000000=t at *;have cj:t=carry+x+y-1000000000*u:=(by omega);rw[cj];grind
 simp only;rw[List.getElem?_set_ne (by omega)];exact ey j (by omega) h2
theorem Vc {a b:ar}(bF:c2 a)(aW:c2 b)(ug:a.length<=900000)(xG:b.length<=a.length):
 (if 0<=(R ((len_ eI a)+(1:Int)))/\(8:Int)*(R ((len_ eI a)+(1:Int)))<=281474976710656/\(R ((len_ eI a)+(1:Int)))<9223372036854775808 then
   (Is a b (len_ eI a) 0 0 (List.replicate (R ((len_ eI a)+(1:Int))).toNat 0:ar)).bind fun a7 =>
   if 0<=(len_ eI a)/\(len_ eI a)<(a7.2.length:Nat) then
   if (0+(len_ eI a).toNat)<a7.2.length then
   (sN (a7.2.set (0+(len_ eI a).toNat) a7.1)).bind fun bE=>some bE
   else none
   else none
   else none)=some (L (V a+V b)):=by
 obtain⟨r,ai,h1,h2,J,ak,au⟩:=agb bF aW ug xG;rw[gy,px (by omega),dw (by omega),dy,ai,dx,dw (by omega),dy,dG,dw (by omega)];have GM:c2 (r.2.set a.length r.1):=h2.set (by omega);rw[CS GM (by simp;omega),uW au,dx];congr 2;rw[<- ak];grind
theorem ahS {a b:ar}(bF:c2 a)(aW:c2 b)(ug:a.length<=900000)(Pr:b.length<=900000):CB a b=some (L (V a+V b)):=by
 unfold CB;by_cases h:a.length<b.length
 ·rw[dw (by rw[gy,gy];simpa using h)];have:=Vc aW bF Pr (by omega);rw[Int.add_comm (V a)];exact this
 rw[dA (by rw[gy,gy];simpa using h)];exact Vc bF aW ug (by omega)
theorem afm {a b row:ar}{less:Int}{n:Nat}(bF:c2 a)(aW:c2 b)(aT:less=0\/less=1)(ug:a.length<=1000000)(aS:n<a.length)(ai:n<row.length):
 ∃x y,vl a n x/\vl b n y/\BX b a a.length less n row=some (.inl (if x-less-y<0 then (1,((n+1:Nat):Int),row.set n (x-less-y+1000000000)) else (0,((n+1:Nat):Int),row.set n (x-less-y)))):=by
 have od:0<=less/\less<=1:=by omega
 have hA:=zD bF aS;have U:=dz aS;have hk:=hA.1;have hq:=hA.2.1;unfold BX;simp only[gy];rw[dw (by simp;omega),dw (by omega),dy,U];simp only[dC,dx];by_cases h2:n<b.length
 ·have gl:=zD aW h2
  have aV:=dz h2;have i9:=gl.1;have j1:=gl.2.1;refine⟨a[n],b[n],hA,gl,?_⟩;rw[dw (by simp;omega),dw (by omega),aV];simp only[dx];rw[cT (x:=a[n]-less) (by omega) (by omega),cT (x:=a[n]-less-b[n]) (by omega) (by omega),px (n:=n) (by omega),cT (x:=a[n]-less-b[n]+1000000000) (by omega) (by omega),dG];by_cases h:a[n]-less-b[n]<0
  ·rw[dw (by simpa using h),dw h,dw (by omega),dw (by omega)]
  rw[dA (by simpa using h),dA h,dw (by omega),dw (by omega)]
 refine⟨a[n],0,hA,C3 h2,?_⟩;rw[dA (by simp;omega),cT (x:=a[n]-less) (by omega) (by omega),px (n:=n) (by omega),cT (x:=a[n]-less+1000000000) (by omega) (by omega),dG,Int.sub_zero];by_cases h:a[n]-less<0
 ·rw[dw (by simpa using h),dw h,dw (by omega),dw (by omega)]
 rw[dA (by simpa using h),dA h,dw (by omega),dw (by omega)]
theorem VF {a b:ar}(bF:c2 a)(aW:c2 b)(hlen:b.length<=a.length)(xG:V b<=V a)(ug:a.length<=900000):w8 a b=some (L (V a-V b)):=by
 have : ∃r,Tx b a a.length 0 0 (List.replicate a.length 0)=some r/\c2 r/\r.length=a.length/\V r=V a-V b:=by
  refine kd (fp:=fun w:Int×Int×ar=> ∃n:Nat,w.2.1=n/\n<=a.length/\(w.1=0\/w.1=1)/\c2 w.2.2/\w.2.2.length=a.length/\V w.2.2-w.1*B n=V (a.take n)-V (b.take n)/\ ∀j,n<=j->j<a.length->w.2.2[j]? = some 0) (m:=fun w=>a.length-w.2.1.toNat) _ ?_ _ ⟨0,rfl,by omega,.inl rfl,c2.OX _,by simp,by simp[V,NY],fun j _ h=>by simp[List.getElem?_replicate];omega⟩;rintro⟨less,ii,row⟩ ⟨n,e1,e2,bJ,c1,dl,et,ey⟩;simp only at e1 bJ c1 dl et ey ⊢;subst e1;by_cases aS:n=a.length
  ·subst aS;refine .inr ⟨row,by simp[BX],c1,dl,?_⟩;rw[List.take_length,dP hlen] at et;have h2:=ow c1;rw[dl] at h2;rcases bJ with rfl|rfl<;>omega
  obtain⟨x,y,U,aV,o6⟩:=afm (row:=row) (n:=n) bF aW bJ (by omega) (by omega) (by omega);have x0:=U.1;have x1:=U.2.1;have Zi:=aV.1;have fW:=aV.2.1;rw[o6];refine .inl ⟨_,rfl,?_⟩;by_cases h:x-less-y<0
  ·rw[dw h]
   refine⟨⟨n+1,rfl,by omega,.inr rfl,c1.set (by omega),by simpa using dl,?_,fun j h1 h2=> ?_⟩,by simp only;omega⟩
   ·simp only;rw[uW (ey n (dE _) (by omega)),nU,U.take,aV.take];grind
   simp only;rw[List.getElem?_set_ne (by omega)];exact ey j (by omega) h2
  rw[dA h];refine⟨⟨n+1,rfl,by omega,.inl rfl,c1.set (by omega),by simpa using dl,?_,fun j h1 h2=> ?_⟩,by simp only;omega⟩
  ·simp only;rw[uW (ey n (dE _) (by omega)),U.take,aV.take];grind
  simp only;rw[List.getElem?_set_ne (by omega)];exact ey j (by omega) h2
 obtain⟨r,ai,h1,h2,J⟩:=this;unfold w8;simp only[gy];rw[dw (by omega),dy,ai];simp only[dC,dx];rw[CS h1 (by omega),J];rfl
theorem WW {a b:Int}(h:decide (a<0)=decide (b<0)):eX (decide (a<0)) ((a.natAbs:Int)+(b.natAbs:Int))=a+b:=by
 have c5:a<0↔b<0:=by simpa using h
 unfold eX;by_cases h1:a<0
 ·have:=c5.1 h1;simp only[h1,decide_true,if_true];omega
 have : ¬b<0:=fun aW=>h1 (c5.2 aW);simp only[h1,decide_false,dT,if_false];omega
theorem Jq {a b:Int}(h:¬decide (a<0)=decide (b<0)):eX (decide (a<0)) ((a.natAbs:Int)-(b.natAbs:Int))=a+b/\eX (decide (b<0)) ((b.natAbs:Int)-(a.natAbs:Int))=a+b:=by
 have c5 : ¬(a<0↔b<0):=by simpa using h
 unfold eX;by_cases h1:a<0
 ·have h2 : ¬b<0:=fun aW=>c5 ⟨fun _=>aW,fun _=>h1⟩;simp only[h1,h2,decide_true,if_true,decide_false,dT,if_false];omega
 have h2:b<0:=by apply Classical.byContradiction;intro aW;exact c5 ⟨fun h=>absurd h h1,fun h=>absurd h aW⟩
 simp only[h1,h2,decide_true,if_true,decide_false,dT,if_false];omega
theorem I7 {x y:Int}(U:0<=x)(OY:x<=y):(L x).length<=(L y).length:=by apply (hX U).2;have:=ow (hO y);rw[eg (by omega)] at this;omega
theorem Vd {a b:Int}(bF:(a.natAbs:Int)<B 50)(aW:(b.natAbs:Int)<B 50):sK (gL a) (gL b)=some (gL (a+b)):=by
 have xZ:=(hX (k:=50) (n:=a.natAbs) (by omega)).2 bF;have vm:=(hX (k:=50) (n:=b.natAbs) (by omega)).2 aW;have qW:B 50+B 50<=B 60:=by have h1:B 51<=B 60:=sW (by omega);have h2:=ps 50;rw[nU] at h1;omega
 have bG:sK (gL a) (gL b)=(if (decide (a<0) == decide (b<0))=true then (Cq (L a.natAbs) (L b.natAbs)).bind fun r2=>(ju (decide (a<0)) r2).bind fun aM=>some aM else (sJ (L a.natAbs) (L b.natAbs)).bind fun r2=>if (decide ((0:Int)<=r2))=true then (vD (L a.natAbs) (L b.natAbs)).bind fun aR=>(ju (decide (a<0)) aR).bind fun bE=>some bE else (vD (L b.natAbs) (L a.natAbs)).bind fun aR=>(ju (decide (b<0)) aR).bind fun bE=>some bE):=rfl;rw[bG];by_cases h:decide (a<0)=decide (b<0)
 ·rw[dw (by simpa using h)];obtain⟨r,r1,r2,a7,aM⟩:=ahc (hO a.natAbs) (hO b.natAbs) (by omega) (by omega);rw[eg (by omega),eg (by omega)] at a7;rw[r1,dx,af9 r2 (by omega) (by omega),a7,WW h];rfl
 rw[dA (by simpa using h),vT (iQ _) (iQ _) (by omega),eg (by omega),eg (by omega),dx];by_cases aZ:(b.natAbs:Int)<=a.natAbs
 ·have Ae:0<=li (a.natAbs:Int) b.natAbs:=by
   apply Int.not_lt.mp;intro h1;have:=xd.1 h1;omega
  rw[dw (by simpa using Ae),sub_eq (hO _) (hO _) (I7 (by omega) aZ) (by rw[eg (by omega),eg (by omega)];exact aZ) (by omega),eg (by omega),eg (by omega),dx,sR (by omega) (by omega),(Jq h).1];rfl
 have Ae : ¬0<=li (a.natAbs:Int) b.natAbs:=by have:=xd.2 (show (a.natAbs:Int)<b.natAbs by omega);omega
 rw[dA (by simpa using Ae),sub_eq (hO _) (hO _) (I7 (by omega) (by omega)) (by rw[eg (by omega),eg (by omega)];omega) (by omega),eg (by omega),eg (by omega),dx,sR (by omega) (by omega),(Jq h).2];rfl
theorem VG {a b:Int}(bF:(a.natAbs:Int)<B 50)(aW:(b.natAbs:Int)<B 50):wZ (gL a) (gL b)=some (gL (a+b)):=by
 have xZ:=(hX (k:=50) (n:=a.natAbs) (by omega)).2 bF;have vm:=(hX (k:=50) (n:=b.natAbs) (by omega)).2 aW;have bG:wZ (gL a) (gL b)=((rR (L a.natAbs) (L b.natAbs)).bind fun r1=>if (decide (a<0) == decide (b<0))=true then (CB (L a.natAbs) (L b.natAbs)).bind fun r2=>(ni (decide (a<0)) r2).bind fun aM=>some aM else if (decide ((0:Int)<=r1))=true then (w8 (L a.natAbs) (L b.natAbs)).bind fun aR=>(ni (decide (a<0)) aR).bind fun bE=>some bE else (w8 (L b.natAbs) (L a.natAbs)).bind fun aR=>(ni (decide (b<0)) aR).bind fun bE=>some bE):=rfl;rw[bG,IH (iQ _) (iQ _) (by omega),eg (by omega),eg (by omega),dx];by_cases h:decide (a<0)=decide (b<0)
 ·rw[dw (by simpa using h),ahS (hO _) (hO _) (by omega) (by omega),eg (by omega),eg (by omega),dx,sO (by omega),WW h];rfl
 rw[dA (by simpa using h)];by_cases aZ:(b.natAbs:Int)<=a.natAbs
 ·have Ae:0<=li (a.natAbs:Int) b.natAbs:=by
   apply Int.not_lt.mp;intro h1;have:=xd.1 h1;omega
  rw[dw (by simpa using Ae),VF (hO _) (hO _) (I7 (by omega) aZ) (by rw[eg (by omega),eg (by omega)];exact aZ) (by omega),eg (by omega),eg (by omega),dx,sO (by omega),(Jq h).1];rfl
 have Ae : ¬0<=li (a.natAbs:Int) b.natAbs:=by have:=xd.2 (show (a.natAbs:Int)<b.natAbs by omega);omega
 rw[dA (by simpa using Ae),VF (hO _) (hO _) (I7 (by omega) (by omega)) (by rw[eg (by omega),eg (by omega)];omega) (by omega),eg (by omega),eg (by omega),dx,sO (by omega),(Jq h).2];rfl
theorem NP {b:Int}:eX (!(decide (b<0))) (b.natAbs:Int) = -b:=by
 unfold eX;by_cases h:b<0
 ·simp only[h,decide_true,Bool.not_true,dT,if_false];omega
 simp only[h,decide_false,Bool.not_false,if_true];omega
theorem agc {a b:Int}(bF:(a.natAbs:Int)<B 50)(aW:(b.natAbs:Int)<B 50):yq (gL a) (gL b)=some (gL (a-b)):=by have bG:yq (gL a) (gL b)=(((ni (!(decide (b<0))) (L b.natAbs)).bind fun r=>some r).bind fun r1=>(wZ (gL a) r1).bind fun a7=>some a7):=rfl;rw[bG,sO (by omega),NP,dx,dx,VG bF (by omega),dx,Int.sub_eq_add_neg]
theorem Fr.neg {q:Int×Int}(h:Fr q):Fr (-q.1,q.2):=⟨h.pos,by simp only;rw[Int.neg_gcd];exact h.Pm,by simp only;have:=h.num;omega,h.den⟩
theorem agd {q:Int×Int}(h:Fr q):tC (mk q)=some (mk (-q.1,q.2)):=by have h1:=h.num;have h2:=h.oy;have J:=NN;have bG:tC (mk q)=((ju (!(decide (q.1<0))) (L q.1.natAbs)).bind fun r1=>if (([]:ar)++L q.2).length*8<=140737488355328 then some (⟨r1,([]:ar)++L q.2⟩:ao) else none):=rfl;rw[bG,sR (by omega) (by omega),NP,dx,dw (by simp;omega)];rfl
theorem I8 {p q:Int×Int}(af:Fr p)(a0:Fr q):((p.1*q.2).natAbs:Int)<B 48/\(L (p.1.natAbs*q.2:Int)).length<=48/\0<=(p.1.natAbs*q.2:Int):=by have aP:=a0.pos;have a4:=sS (x:=p.1.natAbs) (y:=q.2) (by omega) (by omega) af.num a0.den;have As:0<=(p.1.natAbs:Int)*q.2:=Int.mul_nonneg (by omega) (by omega);rw[F4 (by omega)];exact⟨(hX As).1 a4,a4,As⟩
theorem NQ:B 48+B 48<=B 50:=by have h1:B 49<=B 50:=sW (by omega);have h2:=ps 48;rw[nU] at h1;omega
theorem age {p q:Int×Int}(af:Fr p)(a0:Fr q):rT (mk p) (mk q)=some (enc (low (p.1*q.2+q.1*p.2) (p.2*q.2))):=by
 have h1:=af.o4;have h2:=af.oy;have J:=a0.o4;have ak:=a0.oy;have au:=af.pos;have aP:=a0.pos;have XU:=af.num;have qb:=a0.num;have anO:=af.den;have anP:=a0.den;have gl:=NQ;have amZ:B 24<=B 48:=sW (by omega);have am0:B 50<=B 60:=sW (by omega);obtain⟨bh,cp,kc⟩:=I8 af a0;obtain⟨d1,d2,d3⟩:=I8 a0 af;have XL:=ps 48;have e1:jl (L p.1.natAbs) (L q.2)=some (L ((p.1.natAbs:Int)*q.2)):=by rw[mul_eq (hO _) (hO _) (by omega) (by omega),eg (by omega),eg (by omega)]
 have e2:jl (L q.1.natAbs) (L p.2)=some (L ((q.1.natAbs:Int)*p.2)):=by rw[mul_eq (hO _) (hO _) (by omega) (by omega),eg (by omega),eg (by omega)]
 have bJ:ju (decide (p.1<0)) (L ((p.1.natAbs:Int)*q.2))=some (gL (p.1*q.2)):=by rw[sR kc (by rw[<- F4 (by omega)];omega),CT]
 have c1:ju (decide (q.1<0)) (L ((q.1.natAbs:Int)*p.2))=some (gL (q.1*p.2)):=by rw[sR d3 (by rw[<- F4 (by omega)];omega),CT]
 have dl:sK (gL (p.1*q.2)) (gL (q.1*p.2))=some (gL (p.1*q.2+q.1*p.2)):=Vd (by omega) (by omega);have ba:=sS (x:=p.2) (y:=q.2) (by omega) (by omega) af.den a0.den;have et:jl (L p.2) (L q.2)=some (L (p.2*q.2)):=by rw[mul_eq (hO _) (hO _) (by omega) (by omega),eg (by omega),eg (by omega)]
 have XE:(L (p.1*q.2+q.1*p.2).natAbs).length<=50:=(hX (by omega)).2 (by omega)
 have ey:pU (decide (p.1*q.2+q.1*p.2<0)) (L (p.1*q.2+q.1*p.2).natAbs) (L (p.2*q.2))=some (enc (low (p.1*q.2+q.1*p.2) (p.2*q.2))):=by
  rw[MP (by omega) (Int.mul_pos au aP) (by omega) (by omega)]
  have:eX (decide (p.1*q.2+q.1*p.2<0)) ((p.1*q.2+q.1*p.2).natAbs:Int)=p.1*q.2+q.1*p.2:=by
   have:=CT (a:=p.1*q.2+q.1*p.2) (b:=1)
   rwa [Int.mul_one,Int.mul_one] at this
  rw[this]
 have XM:((jl (L p.1.natAbs) (L q.2)).bind fun bE=>(ju (decide (p.1<0)) bE).bind fun bs=>(jl (L q.1.natAbs) (L p.2)).bind fun b3=>(ju (decide (q.1<0)) b3).bind fun cX=>(sK bs cX).bind fun ej=>(jl (L p.2) (L q.2)).bind fun hS=>(pU ej.cK ej.cd hS).bind fun hb=>some hb)=some (enc (low (p.1*q.2+q.1*p.2) (p.2*q.2))):=by rw[e1,dx,bJ,dx,e2,dx,c1,dx,dl,dx,et,dx];show (pU (decide (p.1*q.2+q.1*p.2<0)) (L (p.1*q.2+q.1*p.2).natAbs) (L (p.2*q.2))).bind _=_;rw[ey,dx]
 have bG:rT (mk p) (mk q)=((tB (L p.2)).bind fun r1=>if r1=true then (tB (L q.2)).bind fun aM=>if aM=true then (sK (gL p.1) (gL q.1)).bind fun bE=>(pU bE.cK bE.cd ([1]:ar)).bind fun bs=>some bs else ((jl (L p.1.natAbs) (L q.2)).bind fun bE=>(ju (decide (p.1<0)) bE).bind fun bs=>(jl (L q.1.natAbs) (L p.2)).bind fun b3=>(ju (decide (q.1<0)) b3).bind fun cX=>(sK bs cX).bind fun ej=>(jl (L p.2) (L q.2)).bind fun hS=>(pU ej.cK ej.cd hS).bind fun hb=>some hb) else ((jl (L p.1.natAbs) (L q.2)).bind fun bE=>(ju (decide (p.1<0)) bE).bind fun bs=>(jl (L q.1.natAbs) (L p.2)).bind fun b3=>(ju (decide (q.1<0)) b3).bind fun cX=>(sK bs cX).bind fun ej=>(jl (L p.2) (L q.2)).bind fun hS=>(pU ej.cK ej.cd hS).bind fun hb=>some hb)):=rfl;rw[bG,C2 (by omega),dx];by_cases bR:p.2=1
 ·rw[dw (by simpa using bR),C2 (by omega),dx]
  by_cases aL:q.2=1
  ·rw[dw (by simpa using aL),Vd (by omega) (by omega),dx];have gx:p.1*q.2+q.1*p.2=p.1+q.1:=(by rw[bR,aL,Int.mul_one,Int.mul_one]);have Zj:p.2*q.2=1:=(by rw[bR,aL];rfl);rw[gx,Zj,N3] at ey;rw[gx,Zj];show (pU (decide (p.1+q.1<0)) (L (p.1+q.1).natAbs) [1]).bind _=_;rw[ey,dx]
  rw[dA (by simpa using aL)];exact XM
 rw[dA (by simpa using bR)];exact XM
def sY (n:Int):Bool:=decide (-100<=n/\n<=100)
def wa (Aw:Nat)(l:ar):Bool:=decide (l.length=2*Aw) && l.all sY
theorem afn (n:Int):E7 n=some (sY n):=by unfold E7 sY;by_cases h : -100<=n<;>simp[h]
theorem agf (s:cL)(p:Bool)(af:lV s=some p)(uu:p=true->s.b4.length<=6)(l:ar)(aT:l.length<=maxLen):yH s l=some (p && wa s.b4.length l):=by
 have hm:=vL;unfold yH;simp only[af,dC,dx,fc]
 cases p with
 | false=>rfl
 | true =>
  have uu:=uu rfl;have hw:R (2*((s.b4.length:Nat):Int))=2*((s.b4.length:Nat):Int):=cT (by omega) (by omega);rw[hw];unfold wa;by_cases e:l.length=2*s.b4.length;rotate_left
  ·have c:((l.length:Int) != 2*(s.b4.length:Int))=true:=(by simp;omega);simp only[c,if_true];simp[e]
  have h1:S4 l (l.length:Nat) 0=some (if l.all sY then .inl () else .inr ()):=by
   refine M5 (f:=fun w=>BL l (l.length:Nat) w) l sY (fun n x U=> ?_) ?_
   ·have ez:=gm U
    unfold BL;have c:(n:Int)<(l.length:Int):=(by omega);have eQ:0<=(n:Int)/\(n:Int)<(l.length:Int):=(by omega);simp only[decide_eq_true c,if_true,dw eQ,dy,U,dC,dx,uN];rw[i1 (by omega)];unfold sY;by_cases q : -100<=x/\x<=100
    ·simp[q]
    rw[decide_eq_false q];simp
   simp[BL]
  have c:((l.length:Int) != 2*(s.b4.length:Int))=false:=(by simp;omega);simp only[c,h1,dT,if_false,if_true,dx];cases l.all sY<;>simp[e]
theorem aeJ (s:cL)(uu:s.b4.length<=6)(l:ar)(aT:l.length<=maxLen):EV s l=some (wa s.b4.length l):=by
 have hm:=vL;have hw:R (2*((s.b4.length:Nat):Int))=2*((s.b4.length:Nat):Int):=cT (by omega) (by omega);unfold EV HT HW wa;simp only[fc,hw,dC];obtain⟨r,h1,h2⟩:=U0 (f:=fun w=>AB l (l.length:Nat) w) l (fun n=> !sY n) (fun n x U=>by have ez:=gm U;unfold AB Ia;have c:(n:Int)<(l.length:Int):=(by omega);have eQ:0<=(n:Int)/\(n:Int)<(l.length:Int):=(by omega);simp only[decide_eq_true c,if_true,dw eQ,dy,U,dC,dx,afn];rw[i1 (by omega)];cases sY x<;>rfl) (by simp[AB]);have td:P7 l (l.length:Nat) 0=some r:=h1;rw[td];have ajY:(l.any fun n=> !sY n) = !l.all sY:=by rw[List.not_all_eq_any_not]
 rw[ajY] at h2;by_cases e:l.length=2*s.b4.length
 ·have c:((l.length:Int) == 2*(s.b4.length:Int))=true:=by simp;omega
  rw[c];rcases h2 with ⟨k,rfl,aX,bF⟩|⟨rfl,bF⟩
  ·simp only[Bool.not_eq_true'] at bF;simp[e,bF,aX]
  simp only[Bool.not_eq_false'] at bF;simp[e,bF]
 have c:((l.length:Int) == 2*(s.b4.length:Int))=false:=by simp;omega
 rw[c];simp[e]
theorem rL {i:Int}{a:Nat}(h0:0<=i)(h1:i<=100)(bF:a<=1):R (R (2*i)+(a:Int))=(((2*i+a).toNat:Nat):Int):=by rw[cT (x:=2*i) (by omega) (by omega),cT (by omega) (by omega)];omega
theorem T7 (l:ar)(h:l.length<=1048576):Ce l=some l:=by
 have aW : ∀(n:Nat) x (row:ar),l[n]? = some x->row.length=l.length->ye l n row=some (.inl (((n+1:Nat):Int),row.set n x)):=by intro n x row U ai;obtain⟨aS,rfl⟩:=aod.1 U;have hw:R ((n:Int)+1)=((n+1:Nat):Int):=(by rw[cT (by omega) (by omega)];rfl);simp only[ye,fc,hw];simp[aS,ai]
 have he : ∀row:ar,ye l l.length row=some (.inr row):=by intro row;simp[ye,fc]
 have h1:Sp l 0 (List.replicate (len_ eI l).toNat 0)=some l :=
  MK l (List.replicate (len_ eI l).toNat 0) (by simp[fc]) aW he
 unfold Ce;rw[h1,dw (by rw[fc];omega)];simp[fc]
theorem ad0 (l:aoD)(h:l.length<=1048576):Ey l=some l:=by
 have aW : ∀(n:Nat) x (row:aoD),l[n]? = some x->row.length=l.length->ya l n row=some (.inl (((n+1:Nat):Int),row.set n x)):=by intro n x row U ai;obtain⟨aS,rfl⟩:=aod.1 U;have hw:R ((n:Int)+1)=((n+1:Nat):Int):=(by rw[cT (by omega) (by omega)];rfl);simp only[ya,fc,hw,Iq];simp[aS,ai]
 have he : ∀row:aoD,ya l l.length row=some (.inr row):=by intro row;simp[ya,fc]
 have h1:RB l 0 (List.replicate (len_ ca l).toNat (⟨ByteArray.empty,0,0,false⟩:cI))=some l :=
  MK l _ (by simp[fc]) aW he
 unfold Ey;rw[h1,dw (by rw[fc];omega)];simp[fc]
theorem adI (l:aoC)(h:l.length<=1048576):Ew l=some l:=by
 have aW : ∀(n:Nat) x (row:aoC),l[n]? = some x->row.length=l.length->x9 l n row=some (.inl (((n+1:Nat):Int),row.set n x)):=by intro n x row U ai;obtain⟨aS,rfl⟩:=aod.1 U;have hw:R ((n:Int)+1)=((n+1:Nat):Int):=(by rw[cT (by omega) (by omega)];rfl);simp only[x9,fc,hw,Ij];simp[aS,ai]
 have he : ∀row:aoC,x9 l l.length row=some (.inr row):=by intro row;simp[x9,fc]
 have h1:Ru l 0 (List.replicate (len_ cc l).toNat (⟨0,0,0⟩:c0))=some l :=
  MK l _ (by simp[fc]) aW he
 unfold Ew;rw[h1,dw (by rw[fc];omega)];simp[fc]
theorem acW (s:cL)(h1:s.b4.length<=1048576)(h2:s.bn.length<=1048576):El s=some (s.b4,s.bn):=by simp[El,ad0 _ h1,adI _ h2]
def Ps (P:aoI):bT->Prop
 | none=>True
 | some (k,c)=> ∃x,P[k]? = some x/\x.length=c/\c<=1048576
theorem Ps.set {P:aoI}{k:Nat}{x y:ar}(U:P[k]? = some x)(aV:y.length=x.length){h:bT}(gX:Ps P h):Ps (P.set k y) h:=by
 cases h with
 | none=>trivial
 | some p =>
  obtain⟨j,c⟩:=p;obtain⟨z,h1,h2,J⟩:=gX;by_cases aq:k=j
  ·subst aq;rw[U] at h1;obtain rfl:=dJ h1;exact⟨y,by rw[aog,dw rfl,dw (gm U)],by omega,J⟩
  exact⟨z,by rw[aog,dA aq];exact h1,h2,J⟩
def ms:aoD->Nat->List Nat
 | [],_=>[]
 | x::l,n=>if x.mY then ms l (n+1) else n::ms l (n+1)
theorem Na : ∀(l:aoD) (n i:Nat),i∈ms l n->n<=i/\i<n+l.length
 | [],n,i,h=>by simp[ms] at h
 | x::l,n,i,h=>by
  rw[ms] at h;simp only[dI];split at h
  ·have:=Na l (n+1) i h;omega
  rcases dS.1 h with h|h
  ·omega
  have:=Na l (n+1) i h;omega
theorem VH : ∀(l:aoD) (n:Nat),(ms l n).length<=l.length
 | [],n=>by simp[ms]
 | x::l,n=>by rw[ms];have:=VH l (n+1);split<;>simp only[dI]<;>omega
theorem afo {l:aoD}{n:Nat}{x:cI}(h:l[n]? = some x)(m:Nat):ms (l.drop n) m=if x.mY then ms (l.drop (n+1)) (m+1) else m::ms (l.drop (n+1)) (m+1):=by rw[Vx h,ms]
theorem Ve {f:Int×ar->Option ((Int×ar)⊕ar)}(iH:aoD)(uu:iH.length<=1000)
 (h : ∀(n:Nat) acc x,iH[n]? = some x->f ((n:Int),acc)=if x.mY=true then some (.inl (R ((n:Int)+1),acc)) else if (acc++[(n:Int)]).length*8<=140737488355328 then some (.inl (R ((n:Int)+1),acc++[(n:Int)])) else none)
 (he : ∀acc,f ((iH.length:Int),acc)=some (.inr acc)):iter f ((0:Int),[])=some ((ms iH 0).map (fun n:Nat=>(n:Int))):=by
 obtain⟨s,h1,h2⟩:=h4 (fun (n:Nat) (acc:ar)=>((n:Int),acc)) iH.length (fun n acc=>acc++(ms (iH.drop n) n).map (fun n:Nat=>(n:Int))=(ms iH 0).map (fun n:Nat=>(n:Int))/\acc.length<=n) (fun acc=>acc) (f:=f) (fun n aS acc cQ=>by
  obtain⟨cQ,aT⟩:=cQ;have U:=dz aS;rw[afo U] at cQ;rw[h n acc _ U,px (by omega)];by_cases c:iH[n].mY=true
  ·rw[dw c] at cQ ⊢;exact⟨_,rfl,cQ,by omega⟩
  rw[dA c] at cQ ⊢;rw[dw (by simp only[dD,dI,dN];omega)];refine⟨_,rfl,?_,by simp only[dD,dI,dN];omega⟩;rw[List.append_assoc];exact cQ) (fun acc _=>he acc) [] ⟨by rw[List.drop_zero];rfl,by simp⟩
 obtain⟨h2,-⟩:=h2;rw[List.drop_length] at h2;simp only[ms,List.map_nil,List.append_nil] at h2;subst h2;exact h1
theorem MD (s:cL)(uu:s.b4.length<=1000):yE s=some ((ms s.b4 0).map (fun n:Nat=>(n:Int))):=by
 unfold yE SK
 rw[fc,Ve s.b4 uu (fun n acc x U=>by
  have aS:=gm U;unfold Ec;exact eG (c4 (aH (gt rfl U) rfl))) (fun acc=>by
  unfold Ec;exact fj rfl)]
 rfl
theorem TC (s:cL)(uu:s.b4.length<=1000):AZ s=some ((ms s.b4 0).map (fun n:Nat=>(n:Int))):=by
 unfold AZ Qb
 rw[fc,Ve s.b4 uu (fun n acc x U=>by
  have aS:=gm U;unfold DZ;exact eG (c4 (aH (gt rfl U) rfl))) (fun acc=>by
  unfold DZ;exact fj rfl)]
 rfl
def hlen:bT->Nat
 | none=>0
 | some (_,c)=>c
def eZ (x:Rat):Int×Int:=(x.num,(x.den:Int))
def eO (x:Rat):Prop:=(x.num.natAbs:Int)<B 24/\(x.den:Int)<B 24
def cb (x:Rat):ao:=mk (eZ x)
instance amC (x:Rat):Decidable (eO x):=by unfold eO;infer_instance
theorem eO.di {x:Rat}(h:eO x):Fr (eZ x):=⟨by have:=x.den_pos;simp only[eZ];omega,by simp only[eZ];rw[Int.gcd,Int.natAbs_natCast];exact x.reduced,h.1,h.2⟩
theorem ahT {n d:Int}(bC:0<d):low n d=if eO (Rat.divInt n d) then some (eZ (Rat.divInt n d)) else none:=by
 have e1:(Rat.divInt n d).num=n / (Int.gcd n d:Int):=by rw[Rat.num_divInt,Int.sign_eq_one_of_pos bC,Int.one_mul,Int.gcd_comm]
 have e2:((Rat.divInt n d).den:Int)=d / (Int.gcd n d:Int):=by rw[Rat.den_divInt,dA (by omega),Int.gcd_comm];rw[Int.natCast_ediv,Int.natAbs_of_nonneg (by omega)]
 have bJ:eO (Rat.divInt n d)↔fits ((n / (Int.gcd n d:Int)).natAbs:Int)/\fits (d / (Int.gcd n d:Int)):=by unfold eO fits;rw[e1,e2]
 unfold low;by_cases c:eO (Rat.divInt n d)
 ·rw[dw c,dw (bJ.1 c)];unfold eZ;rw[e1,e2]
 rw[dA c,dA (fun x=>c (bJ.2 x))]
theorem Nb {n d:Int}{x:Rat}(bC:0<d)(e:(d:Rat)*x=n)(h:eO x):low n d=some (eZ x):=by
 have se:(d:Rat)≠0:=fun c=>by have:d=0:=Rat.intCast_inj.1 (by rw[c];rfl);omega
 have:x=Rat.divInt n d:=by rw[Rat.divInt_eq_div,<- e];grind
 rw[ahT bC,<- this,dw h]
theorem uP (x:Rat):((x.den:Int):Rat)*x=((x.num:Int):Rat):=by
 have h:x=(x.num:Rat) / ((x.den:Int):Rat):=by rw[<- Rat.divInt_eq_div,Rat.num_divInt_den]
 have bC:((x.den:Int):Rat)≠0:=fun c=>by have:(x.den:Int)=0:=Rat.intCast_inj.1 (by rw[c];rfl);have:=x.den_pos;omega
 conv=>lhs;rhs;rw[h]
 grind
theorem WX {x y:Rat}(U:eO x)(aV:eO y)(h:eO (x*y)):tD (cb x) (cb y)=some (cb (x*y)):=by unfold cb;rw[U9 U.di aV.di,Nb (x:=x*y) (Int.mul_pos U.di.pos aV.di.pos) ?_ h];rfl;have h1:=uP x;have h2:=uP y;simp only[eZ,aos];grind
theorem F6 {x y:Rat}(U:eO x)(aV:eO y)(h:eO (x+y)):rT (cb x) (cb y)=some (cb (x+y)):=by unfold cb;rw[age U.di aV.di,Nb (x:=x+y) (Int.mul_pos U.di.pos aV.di.pos) ?_ h];rfl;have h1:=uP x;have h2:=uP y;simp only[eZ,aos,Rat.intCast_add];grind
theorem eO.neg {x:Rat}(h:eO x):eO (-x):=by unfold eO at h ⊢;rw[Rat.neg_num,Rat.neg_den,Int.natAbs_neg];exact h
theorem JF {x:Rat}(U:eO x):tC (cb x)=some (cb (-x)):=by unfold cb;rw[agd U.di];simp only[eZ,Rat.neg_num,Rat.neg_den]
theorem ahd {p:Int×Int}(h:Fr p):mW (mk p)=some true:=by
 have KB:(L p.1.natAbs).length<=24:=(hX (by omega)).2 h.num;have Hc:(L p.2).length<=24:=(hX (by have:=h.pos;omega)).2 h.den;have af:=h.pos;obtain⟨bR,hk,hq⟩:=II (a:=L p.1.natAbs) (by omega);obtain⟨aL,i9,j1⟩:=II (a:=L p.2) (by omega);have h1:bR=true:=hq.2 ⟨iQ _,by omega⟩;have h2:aL=true:=j1.2 ⟨iQ _,by omega⟩;subst h1;subst h2;have bC:(L p.2)≠[]:=fun c=>by have:=s6.1 c;omega
 have KD:=aop.mpr bC
 have e1:yD (mk p).ef=some true:=by
  unfold yD;show (uF (L p.1.natAbs)).bind _=_;rw[hk];simp only[dx,if_true,gy];show (if decide (p.1<0)=true then some (decide ((0:Int)<(L p.1.natAbs).length)) else some true)=_;by_cases c:p.1<0
  ·rw[dw (by simpa using c)];have:L p.1.natAbs≠[]:=fun c=>(by have:=s6.1 c;omega);have:=aop.mpr this;rw[decide_eq_true (by omega)]
  rw[dA (by simpa using c)]
 unfold mW;rw[e1];simp only[dC,dx,if_true,gy];show (uF (L p.2)).bind _=_;rw[i9];simp only[dx,if_true];rw[show (mk p).fi=L p.2 from rfl,show (mk p).ef.cd=L p.1.natAbs from rfl];rw[dA (by simp[bC]),dA (by simp;omega),dA (by simp;omega)];rw[NK (iQ _) (iQ _) (by omega) (by omega),eg (by omega),eg (by omega),Jo (by omega),h.Pm];simp only[dx];rw[C2 (by omega)];rfl
theorem xp {x:Rat}(U:eO x):mW (cb x)=some true:=ahd U.di
def jI (x:Rat):Int:=if x=0 then 0 else if x<0 then -1 else 1
theorem pY {x:Rat}(U:eO x):pS (cb x)=some (jI x):=by
 unfold pS;rw[xp U];simp only[dC,dx,if_true,gy];show (if (((L (eZ x).1.natAbs).length:Int) == 0)=true then some 0 else if decide ((eZ x).1<0)=true then some (-1) else some 1)=_;have e:((L (eZ x).1.natAbs).length:Int)=0↔x.num=0:=by rw[J2 (by omega)];simp only[eZ];omega
 unfold jI;by_cases h0:x=0
 ·rw[dw h0,dw];rw[beq_iff_eq,e,Rat.num_eq_zero];exact h0
 rw[dA h0,dA (by rw[beq_iff_eq,e,Rat.num_eq_zero];exact h0)];by_cases h1:x<0
 ·have h2 : ¬0<=x:=(by grind);have J : ¬0<=x.num:=fun c=>h2 (Rat.num_nonneg.1 c);rw[dw h1,dw (decide_eq_true (show (eZ x).1<0 by simp only[eZ];omega))]
 have h2:0<=x:=by grind
 have J:0<=x.num:=Rat.num_nonneg.2 h2;rw[dA h1,dA (fun c=>by have:=of_decide_eq_true c;simp only[eZ] at this;omega)]
theorem aiA {x y:Rat}(U:eO x)(aV:eO y):w6 (cb x) (cb y)=some (if x<y then -1 else if y<x then 1 else 0):=by unfold cb;rw[Vb U.di aV.di];unfold li;simp only[eZ,<- Rat.lt_iff]
theorem WY {x y:Rat}(U:eO x)(aV:eO y)(h0:y≠0)(h:eO (x / y)):yI (cb x) (cb y)=some (cb (x / y)):=by
 have h1:=U.di.o4;have h2:=U.di.oy;have J:=aV.di.o4;have ak:=aV.di.oy;have au:=U.di.pos;have aP:(0:Int)<(eZ y).1.natAbs:=by have:(eZ y).1≠0:=fun c=>h0 (Rat.num_eq_zero.1 c);omega
 have a4:=sS (x:=(eZ x).1.natAbs) (y:=(eZ y).2) (by omega) (by have:=aV.di.pos;omega) U.di.num aV.di.den;have ba:=sS (x:=(eZ x).2) (y:=(eZ y).1.natAbs) (by omega) (by omega) U.di.den aV.di.num;have e1:jl (L (eZ x).1.natAbs) (L (eZ y).2)=some (L (((eZ x).1.natAbs:Int)*(eZ y).2)):=by rw[mul_eq (hO _) (hO _) (by omega) (by omega),eg (by omega),eg (by have:=aV.di.pos;omega)]
 have e2:jl (L (eZ x).2) (L (eZ y).1.natAbs)=some (L ((eZ x).2*((eZ y).1.natAbs:Int))):=by rw[mul_eq (hO _) (hO _) (by omega) (by omega),eg (by omega),eg (by omega)]
 unfold yI;rw[xp U,xp aV];simp only[dC,dx,if_true];show (jl (L (eZ x).1.natAbs) (L (eZ y).2)).bind _=_;rw[e1];simp only[dx];show (jl (L (eZ x).2) (L (eZ y).1.natAbs)).bind _=_;rw[e2];simp only[dx];rw[MP (Int.mul_nonneg (by omega) (by have:=aV.di.pos;omega)) (Int.mul_pos au aP) (by omega) (by omega)];simp only[dx];rw[Nb (x:=x / y) (Int.mul_pos au aP) ?_ h];rfl;have d1:=uP x;have d2:=uP y
 have bJ:eX (!((cb x).ef.cK == (cb y).ef.cK)) (((eZ x).1.natAbs:Int)*(eZ y).2)=(if y<0 then -1 else 1)*((eZ x).1*(eZ y).2):=by
  show eX (!(decide ((eZ x).1<0) == decide ((eZ y).1<0))) _=_;have aS:=Rat.num_nonneg (q:=y);have hm:0<=((eZ x).1.natAbs:Int)*(eZ y).2:=Int.mul_nonneg (by omega) (by have:=aV.di.pos;omega)
  have Hm:y<0↔(eZ y).1<0:=by
   have J:=Rat.num_nonneg (q:=y);simp only[eZ];constructor
   ·intro c;have : ¬0<=y:=(by grind);have ak : ¬0<=y.num:=fun c=>this (J.1 c);omega
   intro c;have : ¬0<=y:=fun eQ=>(by have:=J.2 eQ;omega);grind
  by_cases bh:(eZ x).1<0<;>by_cases cp:(eZ y).1<0
  ·rw[dw (Hm.2 cp),decide_eq_true bh,decide_eq_true cp];simp only[eX,BEq.rfl,Bool.not_true,dT,if_false];rw[show ((eZ x).1.natAbs:Int) = -(eZ x).1 by omega];grind
  ·rw[dA (fun c=>cp (Hm.1 c)),decide_eq_true bh,decide_eq_false cp];simp only[eX,show (!(true == false))=true from rfl,if_true];rw[show ((eZ x).1.natAbs:Int) = -(eZ x).1 by omega];grind
  ·rw[dw (Hm.2 cp),decide_eq_false bh,decide_eq_true cp];simp only[eX,show (!(false == true))=true from rfl,if_true];rw[show ((eZ x).1.natAbs:Int)=(eZ x).1 by omega];grind
  rw[dA (fun c=>cp (Hm.1 c)),decide_eq_false bh,decide_eq_false cp];simp only[eX,BEq.rfl,Bool.not_true,dT,if_false];rw[show ((eZ x).1.natAbs:Int)=(eZ x).1 by omega];grind
 rw[bJ]
 have c1:(((eZ y).1.natAbs:Int):Rat)=(if y<0 then -1 else 1)*(((eZ y).1:Int):Rat):=by
  have aS:=Rat.num_nonneg (q:=y);by_cases c:y<0
  ·have:y.num<0:=by have : ¬0<=y.num:=fun h=>by have:=aS.1 h;grind
                    omega
   rw[dw c,show ((eZ y).1.natAbs:Int) = -(eZ y).1 by simp only[eZ];omega,Rat.intCast_neg];grind
  have:0<=y.num:=aS.2 (by grind);rw[dA c,show ((eZ y).1.natAbs:Int)=(eZ y).1 by simp only[eZ];omega];grind
 rw[aos,c1,aos,aos];simp only[eZ] at *;split<;>grind
theorem r4 {n:Int}(h:nq n):n8 n=some (cb (n:Rat)):=by rw[Mf h];unfold cb eZ;rw[Rat.num_intCast,Rat.den_intCast];rfl
theorem Wj {n:Int}(h:nq n):eO (n:Rat):=by have:=JE h;unfold eO;rw[Rat.num_intCast,Rat.den_intCast];exact⟨this.num,this.den⟩
theorem VI {n d:Int}{x:Rat}(h0:d≠0)(e:(d:Rat)*x=n)(aS:(n.natAbs:Int)<B 24)(bC:(d.natAbs:Int)<B 24):eO x:=by
 have se:(d:Rat)≠0:=fun c=>h0 (Rat.intCast_inj.1 (by rw[c];rfl));have U:x=Rat.divInt n d:=by rw[Rat.divInt_eq_div,<- e];grind
 rw[U];unfold eO;rw[Rat.num_divInt,Rat.den_divInt,dA h0];constructor
 ·have h1:(d.sign*n / (d.gcd n:Int)).natAbs<=(d.sign*n).natAbs:=Int.natAbs_ediv_le_natAbs _ _;have h2:(d.sign*n).natAbs<=n.natAbs:=(by rw[Int.natAbs_mul];have:d.sign.natAbs<=1:=(by rw[Int.natAbs_sign];split<;>omega);exact Nat.le_trans (aob _ this) (by omega));omega
 have:d.natAbs / d.gcd n<=d.natAbs:=Nat.div_le_self _ _;omega
theorem pj {x:Rat}:jI x=0↔x=0:=by
 unfold jI;split
 ·simp_all
 split<;>simp_all
theorem sT {x:Rat}:0<jI x↔0<x:=by
 unfold jI;split
 ·rename_i h;rw[h];simp
 split
 ·rename_i h1 h2;constructor
  ·intro h;omega
  intro h;grind
 rename_i h1 h2;constructor
 ·intro h;grind
 intro h;omega
theorem ahe (n:Nat)(aS:n<=1000)(k:Nat)(aX:k<n)(a b:Nat->Rat)(bF:∀j,j<n->eO (a j))(aW:∀j,j<n->eO (b j))(hm:∀j,j<n->eO (-(a k)*b j))(bG:∀j,j<n->eO (a j-a k*b j)):
 EB k 0 n 0 n (aQ n fun j=>cb (a j)) (aQ n fun j=>cb (b j))=some (aQ n fun j=>cb (a j-a k*b j)):=by
 unfold EB;refine c4 (aH (x:=cb (a k)) (by rw[dy];exact hl aX) (aH (pY (bF k aX)) ?_));refine qo (fun h=> ?_) (fun h=> ?_)
 ·have h0:=pj.1 (by simpa using h);congr 1;exact eM fun j _=>by rw[h0];congr 1;grind
 refine aH (JF (bF k aX)) ?_
 obtain⟨s,e1,e2⟩:=h4 (f:=fun w:Int×aou=>Bh 0 n 0 n ((n:Nat):Int) (aQ n fun j=>cb (b j)) (cb (-(a k))).ef.cK (cb (-(a k))).ef.cd (cb (-(a k))).fi w.1 w.2)
  (fun (i:Nat) (_:Unit)=>((i:Int),aQ n fun j=>if j<i then cb (a j-a k*b j) else cb (a j))) n (fun _ _=>True) (fun _=>aQ n fun j=>cb (a j-a k*b j))
  (fun i aa _ _=>by
    refine⟨(),?_,trivial⟩;unfold Bh;refine eG (c4 (aH (x:=cb (b i)) (by simp only;rw[dy];exact hl aa) (aH (pY (aW i aa)) ?_)));refine qo (fun h=> ?_) (fun h=> ?_)
    ·refine c4 (aH (x:=cb (a i)) (by simp only;rw[dy,hl aa,dA (by omega)]) ?_)
     refine aH (WX (bF k aX).neg (aW i aa) (hm i aa)) (aH (F6 (bF i aa) (hm i aa) (by have:=bG i aa;rw[show a i + -(a k)*b i=a i-a k*b i by grind];exact this)) ?_);refine c4 ?_;simp only;rw[fg (by omega),dy,dG,kZ];congr 3
     exact eM fun j _=>by
      by_cases c:j=i
      ·subst c;rw[dw rfl,dw (by omega)];congr 1;grind
      rw[dA c];by_cases cp:j<i
      ·rw[dw cp,dw (by omega)]
      rw[dA cp,dA (by omega)]
    have h0:b i=0:=pj.1 (by simpa using h);simp only;rw[fg (by omega)];congr 3
    exact eM fun j _=>by
     by_cases c:j=i
     ·subst c;rw[dA (by omega),dw (by omega),h0];congr 1;grind
     by_cases cp:j<i
     ·rw[dw cp,dw (by omega)]
     rw[dA cp,dA (by omega)])
  (fun _ _=>by unfold Bh;refine fj ?_;simp only;congr 2;exact eM fun j aq=>dw aq) () trivial
 refine aH (x:=aQ n fun j=>cb (a j-a k*b j)) ?_ rfl;unfold RL;have bJ:(aQ n fun j=>if j<0 then cb (a j-a k*b j) else cb (a j))=aQ n fun j=>cb (a j):=eM fun j _=>dA (by omega);rw[bJ] at e1;exact e1
theorem Vf (n:Nat)(aS:n<=1000)(k:Nat)(aX:k<n)(a b:Nat->Rat)(bF:∀j,j<n->eO (a j))(aW:∀j,j<n->eO (b j))(hm:∀j,j<n->eO (-(a k)*b j))(bG:∀j,j<n->eO (a j-a k*b j)):
 yv k 0 n (aQ n fun j=>cb (a j)) (aQ n fun j=>cb (b j))=some (aQ n fun j=>cb (a j-a k*b j)):=by
 unfold yv;rw[cZ];refine c4 (aH (x:=cb (a k)) (by rw[dy];exact hl aX) (aH (pY (bF k aX)) ?_));refine qo (fun h=> ?_) (fun h=> ?_)
 ·have h0:=pj.1 (by simpa using h);congr 1;exact eM fun j _=>by rw[h0];congr 1;grind
 refine aH (JF (bF k aX)) ?_
 obtain⟨s,e1,e2⟩:=h4 (f:=fun w:Int×aou=>wU 0 n ((n:Nat):Int) (aQ n fun j=>cb (b j)) (cb (-(a k))).ef.cK (cb (-(a k))).ef.cd (cb (-(a k))).fi w.1 w.2)
  (fun (i:Nat) (_:Unit)=>((i:Int),aQ n fun j=>if j<i then cb (a j-a k*b j) else cb (a j))) n (fun _ _=>True) (fun _=>aQ n fun j=>cb (a j-a k*b j))
  (fun i aa _ _=>by
    refine⟨(),?_,trivial⟩;unfold wU;refine eG (c4 (aH (x:=cb (b i)) (by simp only;rw[dy];exact hl aa) (aH (pY (aW i aa)) ?_)));refine qo (fun h=> ?_) (fun h=> ?_)
    ·refine c4 (aH (x:=cb (a i)) (by simp only;rw[dy,hl aa,dA (by omega)]) ?_)
     refine aH (WX (bF k aX).neg (aW i aa) (hm i aa)) (aH (F6 (bF i aa) (hm i aa) (by have:=bG i aa;rw[show a i + -(a k)*b i=a i-a k*b i by grind];exact this)) ?_);refine c4 ?_;simp only;rw[fg (by omega),dy,dG,kZ];congr 3
     exact eM fun j _=>by
      by_cases c:j=i
      ·subst c;rw[dw rfl,dw (by omega)];congr 1;grind
      rw[dA c];by_cases cp:j<i
      ·rw[dw cp,dw (by omega)]
      rw[dA cp,dA (by omega)]
    have h0:b i=0:=pj.1 (by simpa using h);simp only;rw[fg (by omega)];congr 3
    exact eM fun j _=>by
     by_cases c:j=i
     ·subst c;rw[dA (by omega),dw (by omega),h0];congr 1;grind
     by_cases cp:j<i
     ·rw[dw cp,dw (by omega)]
     rw[dA cp,dA (by omega)])
  (fun _ _=>by unfold wU;refine fj ?_;simp only;congr 2;exact eM fun j aq=>dw aq) () trivial
 refine aH (x:=aQ n fun j=>cb (a j-a k*b j)) ?_ rfl;unfold Lm;have bJ:(aQ n fun j=>if j<0 then cb (a j-a k*b j) else cb (a j))=aQ n fun j=>cb (a j):=eM fun j _=>dA (by omega);rw[bJ] at e1;exact e1
def iK (m N:Nat):aoz:=aQ m fun i=>some (i,N+1)
def cW (m:Nat)(t:bV):ar:=aQ m fun i=>((t.B i:Nat):Int)
def hh (N:Nat)(t:bV)(i:Nat):aou:=aQ (N+1) fun j=>cb (t.T i j)
def gB (m N:Nat)(t:bV):aoA:=aQ m (hh N t)
def ho (N:Nat)(c:Nat->Rat):aou:=aQ (N+1) fun j=>cb (c j)
structure J3 (m N:Nat) (t:bV) (c:Nat->Rat) (r k:Nat):Prop where
 T : ∀i,i<m-> ∀j,j<=N->eO (t.T i j)
 ir : ∀i,i<m-> ∀j,j<=N->eO ((t.cn r k).T i j)
 M : ∀i,i<m->i≠r-> ∀j,j<=N->eO (-(t.T i k)*(t.T r j / t.T r k))
 aZ : ∀j,j<=N->eO (c j)
 u1 : ∀j,j<=N->eO (c j-c k*(t.T r j / t.T r k))
 hm : ∀j,j<=N->eO (-(c k)*(t.T r j / t.T r k))
theorem VJ {m N:Nat}(hm:m<=1000)(gJ:N<1000){t:bV}{c:Nat->Rat}{r k:Nat}(ai:r<m)(aX:k<=N)(af:t.T r k≠0)(h:J3 m N t c r k)(nc:Int):
 yA r k nc (iK m N) (cW m t) (ho N c) (gB m N t)=some (cW m (t.cn r k),ho N (fun j=>c j-c k*(t.T r j / t.T r k)),gB m N (t.cn r k)):=by
 have uv : ∀j,(t.cn r k).T r j=t.T r j / t.T r k:=fun j=>by simp[bV.cn]
 have sB : ∀i j,i≠r->(t.cn r k).T i j=t.T i j-t.T i k*(t.T r j / t.T r k):=fun i j aa=>by simp[bV.cn,aa]
 unfold yA;refine cB (by unfold iK;rw[cZ];omega) (aH (x:=some (r,N+1)) (by rw[dy];exact hl ai) (aH (x:=(r,N+1)) rfl (aH (x:=hh N t r) (fX ai) ?_)));refine c4 (aH (x:=cb (t.T r k)) (by rw[dy];exact hl (by omega)) ?_)
 obtain⟨s1,e1,-⟩:=h4 (f:=fun w:Int×aoA=>Bi r k (((N+1:Nat):Nat):Int) nc (iK m N) (cW m t) (ho N c) (cb (t.T r k)).ef.cK (cb (t.T r k)).ef.cd (cb (t.T r k)).fi w.1 w.2)
  (fun (i:Nat) (_:Unit)=>((i:Int),aQ m fun fs=>if fs=r then aQ (N+1) (fun j=>if j<i then cb (t.T r j / t.T r k) else cb (t.T r j)) else hh N t fs)) (N+1) (fun _ _=>True)
  (fun _=>aQ m fun fs=>if fs=r then hh N (t.cn r k) r else hh N t fs)
  (fun i aa _ _=>by
    refine⟨(),?_,trivial⟩;unfold Bi;refine eG (cB (by unfold iK;rw[cZ];omega) (aH (x:=some (r,N+1)) (by rw[dy];exact hl ai) (aH (x:=(r,N+1)) rfl ?_)));refine aH (x:=aQ (N+1) (fun j=>if j<i then cb (t.T r j / t.T r k) else cb (t.T r j))) (by simp only;rw[fX ai,dw rfl]) ?_;refine c4 (aH (x:=cb (t.T r i)) (by simp only;rw[dy,hl aa,dA (by omega)]) ?_);refine aH (WY (h.T r ai i (by omega)) (h.T r ai k aX) af (by have:=h.ir r ai i (by omega);rw[uv] at this;exact this)) ?_;simp only;rw[fg (by omega),dy,dG,kZ,kZ];congr 3;refine eM fun fs _=> ?_;by_cases bh:fs=r
    ·rw[dw bh,dw bh]
     exact eM fun j _=>by
      by_cases cp:j=i
      ·subst cp;rw[dw rfl,dw (by omega)]
      rw[dA cp];by_cases kc:j<i
      ·rw[dw kc,dw (by omega)]
      rw[dA kc,dA (by omega)]
    rw[dA bh,dA bh,dA bh])
  (fun _ _=>by
    unfold Bi;refine fj ?_;simp only;congr 2;refine eM fun fs _=> ?_;by_cases bh:fs=r
    ·rw[dw bh,dw bh];exact eM fun j aq=>by rw[dw aq,uv]
    rw[dA bh,dA bh]) () trivial
 refine aH (x:=aQ m fun fs=>if fs=r then hh N (t.cn r k) r else hh N t fs) ?_ ?_
 ·unfold RM
  have bJ:(aQ m fun fs=>if fs=r then aQ (N+1) (fun j=>if j<0 then cb (t.T r j / t.T r k) else cb (t.T r j)) else hh N t fs)=gB m N t:=eM fun fs _=>by
   by_cases bh:fs=r
   ·rw[dw bh,bh];exact eM fun j _=>dA (by omega)
   rw[dA bh]
  rw[bJ] at e1;exact e1
 obtain⟨s2,e2,-⟩:=h4 (f:=fun w:Int×aoA=>Bj r k ((m:Nat):Int) nc (iK m N) (cW m t) (ho N c) w.1 w.2)
  (fun (i:Nat) (_:Unit)=>((i:Int),aQ m fun fs=>if fs=r\/fs<i then hh N (t.cn r k) fs else hh N t fs)) m (fun _ _=>True)
  (fun _=>gB m N (t.cn r k))
  (fun i aa _ _=>by
    refine⟨(),?_,trivial⟩;unfold Bj;refine eG (qo (fun dd=> ?_) (fun Dq=> ?_))
    ·have DP:i≠r:=by intro c;subst c;simp at dd
     refine cB (by unfold iK;rw[cZ];simp only;omega) (aH (x:=some (i,N+1)) (by simp only;rw[dy];exact hl aa) ?_);refine cB (by unfold iK;rw[cZ];omega) (aH (x:=some (r,N+1)) (by rw[dy];exact hl ai) ?_);refine aH (x:=(i,N+1)) rfl (aH (x:=(r,N+1)) rfl ?_);refine aH (x:=hh N t i) (by simp only;rw[fX aa,dA (by omega)]) (aH (x:=hh N (t.cn r k) r) (by simp only;rw[fX ai,dw (.inl rfl)]) ?_);refine c4 ?_;refine aH (ahe (N+1) (by omega) k (by omega) (fun j=>t.T i j) (fun j=>(t.cn r k).T r j) (fun j aq=>h.T i aa j (by omega)) (fun j aq=>h.ir r ai j (by omega)) (fun j aq=>by rw[uv];exact h.M i aa DP j (by omega)) (fun j aq=>by have:=h.ir i aa j (by omega);rw[sB i j DP] at this;rw[uv];exact this)) ?_;simp only;rw[fg (by omega),kZ,kZ];congr 3;refine eM fun fs _=> ?_;by_cases bh:fs=r
     ·rw[dw bh,dw (.inl bh),bh]
     rw[dA bh];by_cases cp:fs=i
     ·subst cp;rw[dw rfl,dw (.inr (by omega))];exact eM fun j _=>by rw[sB fs j DP,uv]
     rw[dA cp];by_cases kc:fs<i
     ·rw[dw (.inr kc),dw (.inr (by omega))]
     rw[dA (by omega),dA (by omega)]
    have DP:i=r:=(by simp at Dq;omega);simp only;rw[fg (by omega)];congr 3;refine eM fun fs _=> ?_;by_cases bh:fs=r\/fs<i
    ·rw[dw bh,dw (by omega)]
    rw[dA bh,dA (by omega)])
  (fun _ _=>by unfold Bj;refine fj ?_;simp only;congr 2;exact eM fun fs lj=>dw (.inr lj)) () trivial
 refine aH (x:=gB m N (t.cn r k)) ?_ ?_
 ·unfold RN
  rw[show ((iK m N).length:Nat)=m from cZ ..]
  have bJ:(aQ m fun fs=>if fs=r\/fs<0 then hh N (t.cn r k) fs else hh N t fs)=aQ m fun fs=>if fs=r then hh N (t.cn r k) r else hh N t fs:=eM fun fs _=>by
   by_cases bh:fs=r
   ·rw[dw (.inl bh),dw bh,bh]
   rw[dA (by omega),dA bh]
  rw[bJ] at e2;exact e2
 refine aH (x:=hh N (t.cn r k) r) (fX ai) (c4 ?_);refine aH (Vf (N+1) (by omega) k (by omega) c (fun j=>(t.cn r k).T r j) (fun j aq=>h.aZ j (by omega)) (fun j aq=>h.ir r ai j (by omega)) (fun j aq=>by rw[uv];exact h.hm j (by omega)) (fun j aq=>by rw[uv];exact h.u1 j (by omega))) ?_;refine cB (by unfold ho;rw[cZ,cZ]) (cB (by unfold cW;rw[cZ];omega) (cB (by unfold cW;rw[cZ,dy];omega) ?_));congr 1;rw[dy,dG];congr 1
 ·unfold cW;rw[kZ];exact eM fun i _=>by simp only[bV.cn];split<;>rfl
 congr 1
 ·exact eM fun j _=>by rw[uv]
 unfold gB;rw[kZ]
 exact eM fun i _=>by
  split
  ·rename_i bh;rw[bh]
  rfl
theorem ahf {m:Nat}(hm:m<=1000)(t:bV)(nc:Int)(rows:aoA)(cost:aou)(j:Nat): ∃b,EQ ⟨nc,rows,cW m t,cost⟩ (j:Int)=some b/\(b=true↔ ∃i,i<m/\t.B i=j):=by
 unfold EQ
 obtain⟨r,e,h⟩:=qv (f:=fun w:Int=>D9 j (cW m t) ((m:Nat):Int) w) (fun (i:Nat) (_:Unit)=>(i:Int)) m (fun i _=> ∀k,k<i->t.B k≠j) (fun r=>(r = .inr ()/\ ∃i,i<m/\t.B i=j)\/(r = .inl ()/\ ¬∃i,i<m/\t.B i=j))
  (fun i aa _ cQ=>by
    unfold D9;by_cases c:t.B i=j
    ·right;refine⟨_,eG (cB (by unfold cW;rw[cZ];omega) (aH (x:=((t.B i:Nat):Int)) (by rw[dy];exact fX aa) (gb (by simp[c]) rfl))),.inl ⟨rfl,i,aa,c⟩⟩
    left;refine⟨(),eG (cB (by unfold cW;rw[cZ];omega) (aH (x:=((t.B i:Nat):Int)) (by rw[dy];exact fX aa) (ie (by simp;omega) (by rw[fg (by omega)])))),fun k aX=> ?_⟩;by_cases e:k=i
    ·rw[e];exact c
    exact cQ k (by omega))
  (fun _ cQ=>⟨_,fj rfl,.inr ⟨rfl,fun ⟨i,aa,e⟩=>cQ i aa e⟩⟩) () (fun k aX=>by omega)
 have fb:LF j (cW m t) (len_ eI (cW m t)) 0=some r:=by unfold LF;rw[gy,show (cW m t).length=m from cZ ..];exact e
 rcases h with ⟨rfl,h⟩|⟨rfl,h⟩
 ·exact⟨true,aH fb rfl,by simp[h]⟩
 exact⟨false,aH fb rfl,by simp[h]⟩
theorem ahU {N:Nat}(gJ:N<1000)(nc:Int)(rows:aoA)(jG:ar)(c:Nat->Rat){j:Nat}(aq:j<=N)(aZ:eO (c j)):vC ⟨nc,rows,jG,ho N c⟩ (j:Int) false=some (jI (c j)):=by
 unfold vC;refine cB (by unfold ho;rw[cZ];omega) (aH (x:=cb (c j)) (by rw[dy];exact fX (by omega)) (aH (pY aZ) ?_));refine aH (x:= .inl (jI (c j))) ?_ rfl;unfold SO;rw[iter];have:yi nc rows jG (ho N c) (j:Int) false (jI (c j)) 0=some (.inr (.inl (jI (c j)))):=by unfold yi;exact qo (fun _=>rfl) (fun _=>rfl)
 simp only;rw[this];rfl
theorem I9 {x y z w:Rat}(aV:0<y)(hw:0<w):(x / y<=z / w↔x*w<=z*y)/\(x / y=z / w↔x*w=z*y):=by
 have e1:x*w=(x / y)*(y*w):=by grind
 have e2:z*y=(z / w)*(y*w):=by grind
 have af:0<y*w:=Rat.mul_pos aV hw;constructor
 ·rw[e1,e2]
  constructor
  ·intro h;exact Rat.mul_le_mul_of_nonneg_right h (Rat.le_of_lt af)
  intro h;apply Classical.byContradiction;intro c;have:z / w<x / y:=(by grind);have:=Rat.mul_lt_mul_of_pos_right this af;grind
 rw[e1,e2];constructor
 ·intro h;rw[h]
 intro h;have dd:y*w≠0:=by grind
 grind
def Jr (m N:Nat)(t:bV)(j:Nat)(r:Int):Prop :=
 (r = -1/\ ∀i,i<m-> ¬0<t.T i j)\/ ∃b:Nat,r=b/\b<m/\0<t.T b j/\(∀i,i<m->0<t.T i j->t.T b N*t.T i j<=t.T i N*t.T b j)/\(∀i,i<m->0<t.T i j->t.T b N*t.T i j=t.T i N*t.T b j->t.B b<=t.B i)
theorem ahg {m N:Nat}(hm:m<=1000)(gJ:N<1000)(t:bV)(nc:Int)(cost:aou){j:Nat}(aq:j<=N)(iq:∀i,i<m-> ∀j,j<=N->eO (t.T i j))(a0:∀i,i<m->0<t.T i j->eO (t.T i N / t.T i j)):
 ∃r,ER ⟨nc,gB m N t,cW m t,cost⟩ (j:Int)=some r/\Jr m N t j r:=by
 unfold ER
 obtain⟨r,e,h⟩:=qv (f:=fun w:Int×Int×Bool×ar×ar=>Br nc (gB m N t) (cW m t) cost j ((m:Nat):Int) w.1 w.2.1 w.2.2.1 w.2.2.2.1 w.2.2.2.2)
  (fun (i:Nat) (s:Int×ao)=>(s.1,(i:Int),s.2.ef.cK,s.2.ef.cd,s.2.fi)) m
  (fun n s=>(s.1 = -1/\ ∀i,i<n-> ¬0<t.T i j)\/ ∃b:Nat,s.1=b/\b<n/\0<t.T b j/\s.2=cb (t.T b N / t.T b j)/\ ∀i,i<n->0<t.T i j->t.T b N / t.T b j<t.T i N / t.T i j\/(t.T b N / t.T b j=t.T i N / t.T i j/\t.B b<=t.B i))
  (fun r=>Jr m N t j r)
  (fun n aS s cQ=>by
    left;unfold Br;have g1:0<=((n:Nat):Int)/\((n:Nat):Int)<((gB m N t).length:Nat):=(by unfold gB;rw[cZ];omega);have g2:(gB m N t)[((n:Nat):Int).toNat]? = some (hh N t n):=(by rw[dy];exact fX aS);have g3:0<=((j:Nat):Int)/\((j:Nat):Int)<((hh N t n).length:Nat):=(by unfold hh;rw[cZ];omega);have g4:(hh N t n)[((j:Nat):Int).toNat]? = some (cb (t.T n j)):=(by rw[dy];exact fX (by omega));have jf:R ((n:Int)+1)=((n+1:Nat):Int):=fg (by omega);have wl:R (len_ aG (hh N t n)-1)=(N:Int):=(by rw[fc,show (hh N t n).length=N+1 from cZ ..,cT (by omega) (by omega)];omega);by_cases af:0<t.T n j
    ·have bG : ¬jI (t.T n j)<=0:=by have:=sT.2 af;omega
     have g5:0<=R (len_ aG (hh N t n)-1)/\R (len_ aG (hh N t n)-1)<((hh N t n).length:Nat):=(by rw[wl];unfold hh;rw[cZ];omega);have g6:(hh N t n)[(R (len_ aG (hh N t n)-1)).toNat]? = some (cb (t.T n N)):=(by rw[wl,dy];exact fX (by omega));have g7:yI (cb (t.T n N)) (cb (t.T n j))=some (cb (t.T n N / t.T n j)):=WY (iq n aS N (by omega)) (iq n aS j aq) (by grind) (a0 n aS af);rcases cQ with ⟨h1,h2⟩|⟨b,h1,aW,kU,h2,J⟩
     ·refine⟨((n:Int),cb (t.T n N / t.T n j)),eG (cB g1 (aH g2 (cB g3 (aH g4 (aH (pY (iq n aS j aq)) (lC bG (cB g5 (aH g6 (aH g7 (eG ?_)))))))))),.inr ⟨n,rfl,by omega,af,rfl,fun i aa jy=> ?_⟩⟩
      ·simp only;rw[jf]
      by_cases c:i=n
      ·subst c;exact .inr ⟨rfl,dE _⟩
      exact(h2 i (by omega) jy).elim
     have g8:w6 (cb (t.T n N / t.T n j)) (⟨(⟨s.2.ef.cK,s.2.ef.cd⟩:bz),s.2.fi⟩:ao)=some (if t.T n N / t.T n j<t.T b N / t.T b j then -1 else if t.T b N / t.T b j<t.T n N / t.T n j then 1 else 0):=(by have:(⟨(⟨s.2.ef.cK,s.2.ef.cd⟩:bz),s.2.fi⟩:ao)=cb (t.T b N / t.T b j):=h2;rw[this];exact aiA (a0 n aS af) (a0 b (by omega) kU));by_cases bh:t.T n N / t.T n j<t.T b N / t.T b j
     ·rw[dw bh] at g8
      refine⟨((n:Int),cb (t.T n N / t.T n j)),eG (cB g1 (aH g2 (cB g3 (aH g4 (aH (pY (iq n aS j aq)) (lC bG (cB g5 (aH g6 (aH g7 (fj (aH g8 (eG ?_)))))))))))),.inr ⟨n,rfl,by omega,af,rfl,fun i aa jy=> ?_⟩⟩
      ·simp only;rw[jf]
      by_cases c:i=n
      ·subst c;exact .inr ⟨rfl,dE _⟩
      rcases J i (by omega) jy with h|⟨h,-⟩
      ·left;grind
      left;rw[<- h];exact bh
     rw[dA bh] at g8;by_cases cp:t.T b N / t.T b j<t.T n N / t.T n j
     ·rw[dw cp] at g8
      refine⟨s,eG (cB g1 (aH g2 (cB g3 (aH g4 (aH (pY (iq n aS j aq)) (lC bG (cB g5 (aH g6 (aH g7 (fj (aH g8 (fj (ie (by decide) ?_))))))))))))),.inr ⟨b,h1,by omega,kU,h2,fun i aa jy=> ?_⟩⟩
      ·simp only;rw[jf]
      by_cases c:i=n
      ·subst c;exact .inl cp
      exact J i (by omega) jy
     rw[dA cp] at g8;have Pt:t.T b N / t.T b j=t.T n N / t.T n j:=(by grind);have KE:0<=((n:Nat):Int)/\((n:Nat):Int)<((cW m t).length:Nat):=(by unfold cW;rw[cZ];omega);have KF:(cW m t)[((n:Nat):Int).toNat]? = some ((t.B n:Nat):Int):=(by rw[dy];exact fX aS);have YJ:0<=s.1/\s.1<((cW m t).length:Nat):=(by unfold cW;rw[cZ];omega);have YK:(cW m t)[s.1.toNat]? = some ((t.B b:Nat):Int):=(by rw[h1,dy];exact fX (by omega));by_cases kc:t.B n<t.B b
     ·refine⟨((n:Int),cb (t.T n N / t.T n j)),eG (cB g1 (aH g2 (cB g3 (aH g4 (aH (pY (iq n aS j aq)) (lC bG (cB g5 (aH g6 (aH g7 (fj (aH g8 (fj (gb rfl (cB KE (aH KF (cB YJ (aH YK (eG ?_)))))))))))))))))),.inr ⟨n,rfl,by omega,af,rfl,fun i aa jy=> ?_⟩⟩
      ·simp only;rw[jf]
      by_cases c:i=n
      ·subst c;exact .inr ⟨rfl,dE _⟩
      rcases J i (by omega) jy with h|⟨h,c5⟩
      ·left;grind
      right;exact⟨by grind,by omega⟩
     refine⟨s,eG (cB g1 (aH g2 (cB g3 (aH g4 (aH (pY (iq n aS j aq)) (lC bG (cB g5 (aH g6 (aH g7 (fj (aH g8 (fj (gb rfl (cB KE (aH KF (cB YJ (aH YK (fj ?_)))))))))))))))))),.inr ⟨b,h1,by omega,kU,h2,fun i aa jy=> ?_⟩⟩
     ·simp only;rw[jf]
     by_cases c:i=n
     ·subst c;exact .inr ⟨Pt,by omega⟩
     exact J i (by omega) jy
    have bG:jI (t.T n j)<=0:=(by have : ¬0<jI (t.T n j):=fun c=>af (sT.1 c);omega);refine⟨s,eG (cB g1 (aH g2 (cB g3 (aH g4 (aH (pY (iq n aS j aq)) (l5 bG ?_)))))),?_⟩
    ·simp only;rw[jf]
    rcases cQ with ⟨h1,h2⟩|⟨b,h1,aW,kU,h2,J⟩
    ·exact .inl ⟨h1,fun i aa=>if c:i=n then c▸af else h2 i (by omega)⟩
    exact .inr ⟨b,h1,by omega,kU,h2,fun i aa jy=>if c:i=n then (af (c▸jy)).elim else J i (by omega) jy⟩)
  (fun s cQ=>by
    refine⟨s.1,by unfold Br;exact fj rfl,?_⟩;rcases cQ with ⟨h1,h2⟩|⟨b,h1,aW,kU,h2,J⟩
    ·exact .inl ⟨h1,h2⟩
    refine .inr ⟨b,h1,aW,kU,fun i aa jy=> ?_,fun i aa jy he=> ?_⟩
    ·rw[<- (I9 kU jy).1]
     rcases J i aa jy with h|⟨h,-⟩
     ·exact Rat.le_of_lt h
     rw[h];exact Rat.le_refl
    rw[<- (I9 kU jy).2] at he;rcases J i aa jy with h|⟨-,h⟩
    ·rw[he] at h;grind
    exact h) ((-1:Int),(⟨⟨false,[]⟩,[]⟩:ao)) (.inl ⟨rfl,fun i aa=>by omega⟩)
 refine⟨r,aH ?_ rfl,h⟩;unfold Sz;rw[fc,show (gB m N t).length=m from cZ ..];exact e
theorem F7 {m N:Nat}(t:bV):(iK m N).all (uh (gB m N t))=true:=by
 rw[List.all_eq_true];intro x U;obtain⟨i,aa,rfl⟩:=Nq.1 U;simp only[uh];have h1:(gB m N t).length=m:=cZ ..;have h2:(gB m N t).getD i []=hh N t i:=by rw[aoc,show (gB m N t)[i]? = some (hh N t i) from fX aa];rfl
 rw[h1,h2,show (hh N t i).length=N+1 from cZ ..];simp[aa]
theorem zn {m N:Nat}(t:bV):(iK m N).map (jW (gB m N t))=gB m N t:=by unfold iK;rw[Wa];exact eM fun i aa=>by have h2:(gB m N t).getD i []=hh N t i:=(by rw[aoc,show (gB m N t)[i]? = some (hh N t i) from fX aa];rfl);simp only[jW];rw[h2];exact dP (Nat.le_of_eq (cZ ..))
theorem ahh {m N:Nat}(hm:m<=1000)(gJ:N<1000)(t:bV)(c:Nat->Rat)(deep:Bool)(G:Nat->Prop)(alT:∀j,G j-> ∀i,i<m->t.B i≠j)
 (bG : ∀j,j<N-> ∃g,vC ⟨N,gB m N t,cW m t,ho N c⟩ (j:Int) deep=some g/\((∀i,i<m->t.B i≠j)->(0<g↔G j))) :
 ∃r,LG deep N (iK m N) (cW m t) (ho N c) (gB m N t) (-1) 0=some r/\((r = -1/\ ∀j,j<N-> ¬G j)\/ ∃s:Nat,r=s/\s<N/\G s/\ ∀j,j<s-> ¬G j):=by
 unfold LG
 refine qv (f:=fun w:Int×Int=>yg deep N (iK m N) (cW m t) (ho N c) (gB m N t) w.1 w.2) (fun (i:Nat) (e:Int)=>(e,(i:Int))) N
  (fun n e=>(e = -1/\ ∀j,j<n-> ¬G j)\/ ∃s:Nat,e=s/\s<N/\G s/\ ∀j,j<s-> ¬G j) _ (fun n aS e cQ=> ?_) (fun e cQ=> ?_) (-1) (.inl ⟨rfl,fun j aq=>by omega⟩)
 ·rcases cQ with ⟨rfl,h⟩|⟨s,rfl,wG,wv,alc⟩
  ·left
   obtain⟨b,e1,e2⟩:=ahf hm t (N:Int) (gB m N t) (ho N c) n;obtain⟨g,g1,g2⟩:=bG n aS;unfold yg
   cases b with
   | true =>
    obtain⟨i,aa,Kl⟩:=e2.1 rfl;refine⟨-1,eG (l5 (by simp) (cB (F7 t) (aH (by rw[zn];exact e1) (gb rfl ?_)))),.inl ⟨rfl,fun j aq dm=> ?_⟩⟩
    ·simp only;rw[fg (by omega)]
    by_cases c:j=n
    ·subst c;exact alT j dm i aa Kl
    exact h j (by omega) dm
   | false =>
    have YL : ∀i,i<m->t.B i≠n:=fun i aa e=>(by have:=e2.2 ⟨i,aa,e⟩;simp at this);by_cases dm:G n
    ·refine⟨(n:Int),eG (l5 (by simp) (cB (F7 t) (aH (by rw[zn];exact e1) (ie rfl (aH (by rw[zn];exact g1) (l5 ((g2 YL).2 dm) ?_)))))),.inr ⟨n,rfl,aS,dm,h⟩⟩;simp only;rw[fg (by omega)]
    refine⟨-1,eG (l5 (by simp) (cB (F7 t) (aH (by rw[zn];exact e1) (ie rfl (aH (by rw[zn];exact g1) (lC (fun x=>dm ((g2 YL).1 x)) ?_)))))),.inl ⟨rfl,fun j aq=>if c:j=n then c▸dm else h j (by omega)⟩⟩;simp only;rw[fg (by omega)]
  right;exact⟨(s:Int),by unfold yg;exact eG (fj rfl),.inr ⟨s,rfl,wG,wv,alc⟩⟩
 exact⟨e,by unfold yg;exact fj rfl,cQ⟩
theorem bV.aeK {e6 m N K:Nat}{A obj:Nat->Nat->Rat}{t:bV}(h:g9 e6 m N A t){j:Nat}(g:t.q5 m K obj j): ∀i,i<m->t.B i≠j :=
 fun i aa e=>iS.not_zero g fun l _=>by rw[<- e];exact h.yM (obj l) aa
theorem WZ {e6 m N K:Nat}(hm:m<=1000)(gJ:N<1000){A obj:Nat->Nat->Rat}(deep:Bool)(Inv:bV->Prop)
 (inv : ∀t,Inv t->g9 e6 m N A t/\t.mH m N) (ik : ∀t r s,Inv t->o0 m N K obj (fun _=>True) t r s->Inv (t.cn r s))
 (bG : ∀t,Inv t-> ∀j,j<N-> ∃g,vC ⟨N,gB m N t,cW m t,ho N (t.cr m (obj 0))⟩ (j:Int) deep=some g/\((∀i,i<m->t.B i≠j)->(0<g↔t.q5 m K obj j)))
 (iq : ∀t,Inv t-> ∀i,i<m-> ∀j,j<=N->eO (t.T i j)) (a0 : ∀t,Inv t-> ∀i,i<m-> ∀j,j<=N->0<t.T i j->eO (t.T i N / t.T i j))
 (af : ∀t,Inv t-> ∀r k,r<m->k<N->t.T r k≠0->J3 m N t (t.cr m (obj 0)) r k) (t:bV) (cj:Inv t) :
 ∃b cw,vz deep N (iK m N) (cW m t) (ho N (t.cr m (obj 0))) (gB m N t)=some (b,cW m cw,ho N (cw.cr m (obj 0)),gB m N cw)/\Inv cw /\
  ((b=true/\ ∀j,j<N-> ¬cw.q5 m K obj j)\/(b=false/\ ∃s,s<N/\cw.q5 m K obj s/\ ∀i,i<m-> ¬0<cw.T i s)):=by
 obtain⟨x,ew,cw,e,⟨Ya,cQ⟩,-,-,eB⟩:=Uv (e6:=e6) (m:=m) (N:=N) (K:=K) (A:=A) (obj:=obj) (bO:=fun _=>True)
  (f:=fun w:ar×aou×aoA=>Ea deep N (iK m N) w.1 w.2.1 w.2.2)
  (fun a t=>a=(cW m t,ho N (t.cr m (obj 0)),gB m N t)/\Inv t)
  (fun a x t=> ∃b,x=(b,cW m t,ho N (t.cr m (obj 0)),gB m N t)/\((b=true/\ ∀j,j<N-> ¬t.q5 m K obj j)\/(b=false/\ ∃s,s<N/\t.q5 m K obj s/\ ∀i,i<m-> ¬0<t.T i s)))
  (fun a t da ok lD=>by
    obtain⟨rfl,cQ⟩:=da;obtain⟨r,e1,e2⟩:=ahh hm gJ t (t.cr m (obj 0)) deep (t.q5 m K obj) (fun j dm=>bV.aeK ok dm) (bG t cQ);simp only;unfold Ea;rcases e2 with ⟨rfl,h⟩|⟨s,rfl,KG,dm,aT⟩
    ·left;exact⟨_,aH e1 (l5 (by decide) rfl),true,rfl,.inl ⟨rfl,h⟩⟩
    obtain⟨q,q1,q2⟩:=ahg hm gJ t (N:Int) (ho N (t.cr m (obj 0))) (j:=s) (by omega) (iq t cQ) (fun i aa jy=>a0 t cQ i aa s (by omega) jy);rcases q2 with ⟨rfl,h⟩|⟨b,rfl,aW,kU,h1,h2⟩
    ·left;exact⟨_,aH e1 (fj (cB (F7 t) (aH (by rw[zn];exact q1) (l5 (by decide) rfl)))),false,rfl,.inr ⟨rfl,s,KG,dm,h⟩⟩
    right;have c8:o0 m N K obj (fun _=>True) t b s:=⟨KG,trivial,dm,fun j aq _=>aT j aq,aW,kU,h1,h2⟩;refine⟨_,b,s,aH e1 (fj (cB (F7 t) (aH (by rw[zn];exact q1) (fj (aH (VJ hm gJ aW (by omega) (by grind) (af t cQ b s aW KG (by grind)) N) rfl))))),c8,?_,ik t b s cQ c8⟩;refine Prod.ext rfl (Prod.ext ?_ rfl);exact eM fun j _=>by rw[ok.I5 (obj 0) aW KG (by grind)])
  (a:=(cW m t,ho N (t.cr m (obj 0)),gB m N t)) (t:=t) ⟨rfl,cj⟩ (inv t cj).1 (inv t cj).2
 obtain⟨b,rfl,aW⟩:=eB;refine⟨b,cw,?_,cQ,aW⟩;unfold vz;exact aH (x:=(b,cW m cw,ho N (cw.cr m (obj 0)),gB m N cw)) (by unfold SA;exact e) rfl
structure nv (p:kz) (m n:Nat) (a:Nat->Nat->Int) (b:Nat->Int):Prop where
 rows:p.hF=m
 gV:p.gd=n
 hr:p.ei.length=m*n
 J4 : ∀i,i<m-> ∀j,j<n->p.ei[i*n+j]? = some (a i j)
 PL:p.eE.length=m
 Oo : ∀i,i<m->p.eE[i]? = some (b i)
 hm:m<=20
 aS:n<=40
 xZ : ∀i,i<m-> ∀j,j<n-> -100<=a i j/\a i j<=100
 vm : ∀i,i<m-> -100<=b i/\b i<=100
theorem wb {p:kz}{m n:Nat}{a:Nat->Nat->Int}{b:Nat->Int}(h:nv p m n a b){i:Nat}(aa:i<m)(j:Nat): -100<=lU m n a b i j/\lU m n a b i j<=100:=by
 have aW:=h.vm i aa;unfold lU lk;by_cases c:j<n
 ·have bF:=h.xZ i aa j c;rw[dw c];split<;>omega
 rw[dA c];split
 ·split<;>omega
 split<;>omega
theorem N4 {p:kz}{m n:Nat}{a:Nat->Nat->Int}{b:Nat->Int}(h:nv p m n a b){i:Nat}(aa:i<m)(j:Nat):du 100 (dh m n a b i j) :=
 ⟨lU m n a b i j,rfl,by have:=wb h aa j;omega⟩
theorem ahV:(1000000000000000000:Int)<B 24:=by decide
theorem MS {K:Nat}{x:Rat}(h:du K x)(aX:K<=1000000000000000000):eO x:=by obtain⟨z,rfl,cA⟩:=h;have:=ahV;exact VI (n:=z) (d:=1) (by decide) (by rw[show ((1:Int):Rat)=1 from rfl];grind) (by omega) (by omega)
theorem W0 {p:kz}{m n:Nat}{a:Nat->Nat->Int}{b:Nat->Int}(h:nv p m n a b){i:Nat}(aa:i<m):Cp p i=some (aQ n (a i)):=by
 have hm:=h.hm;have aS:=h.aS;have h1:i*n<=20*40:=Nat.mul_le_mul (by omega) aS;have h2:(i+1)*n<=20*40:=Nat.mul_le_mul (by omega) aS;have J:(i+1)*n<=m*n:=aob _ aa;have e1:R ((i:Int)*p.gd)=((i*n:Nat):Int):=by rw[h.gV,<- Int.natCast_mul,cT (by omega) (by omega)]
 have e2:R (R ((i:Int)+1)*p.gd)=(((i+1)*n:Nat):Int):=by rw[h.gV,fg (by omega),<- Int.natCast_mul,cT (by omega) (by omega)]
 have ak:(i+1)*n=i*n+n:=Nat.succ_mul i n;unfold Cp;rw[e1,e2,dy,dy,h.hr];refine c4 (c4 (c4 ?_));congr 1;apply aol;intro j;rw[an9,aoo];by_cases c:j<n
 ·rw[dw (by omega),h.J4 i aa j c,fX c]
 rw[dA (by omega)]
 symm
 rw[List.getElem?_eq_none_iff,cZ];omega
def iL (m n:Nat)(a:Nat->Nat->Int)(b:Nat->Int)(i j:Nat):Rat:=if j<n\/j=n+m then ct i (fun k=>dh m n a b k j) else 0
theorem Xp {p:kz}{m n:Nat}{a:Nat->Nat->Int}{b:Nat->Int}(h:nv p m n a b){i:Nat}(aa:i<=m)(j:Nat):du 2000 (iL m n a b i j):=by
 have hm:=h.hm;unfold iL;split
 ·exact(du.sum fun k aX=>N4 h (by omega) j).mono (by omega)
 exact⟨0,rfl,by omega⟩
theorem ad1 {p:kz}{m n:Nat}{a:Nat->Nat->Int}{b:Nat->Int}(h:nv p m n a b){i:Nat}(aa:i<m)(aW:b i<0)(x0:Int)(q2:aoz)(bN:aoA)(cx:ar)(d7:aou):
 (Lu (i:Int) (aQ n (a i)) (len_ eI (aQ n (a i))) p.hF p.gd p.ei p.eE p.hL x0 q2 bN cx d7 0 ([]:aou) >>= fun b6=>Lv (i:Int) p.hF p.gd p.ei p.eE p.hL x0 q2 bN cx d7 0 b6)=some (aQ (n+m) fun j=>cb (dh m n a b i j)):=by
 have hm:=h.hm;have aS:=h.aS;have bG:lk (b i) = -1:=by unfold lk;rw[dw aW]
 obtain⟨s1,e1,-⟩:=h4 (f:=fun w:Int×aou=>Be (i:Int) (aQ n (a i)) ((n:Nat):Int) p.hF p.gd p.ei p.eE p.hL x0 q2 bN cx d7 w.1 w.2)
  (fun (k:Nat) (_:Unit)=>((k:Int),aQ k fun j=>cb (dh m n a b i j))) n (fun _ _=>True) (fun _=>aQ n fun j=>cb (dh m n a b i j))
  (fun k aX _ _=>by
    refine⟨(),?_,trivial⟩;have bF:=h.xZ i aa k aX;unfold Be;have e:R ((-1:Int)*a i k)=lU m n a b i k:=(by rw[cT (by omega) (by omega)];unfold lU;rw[dw aX,bG]);refine eG (c4 (aH (x:=a i k) (by simp only;rw[dy];exact fX aX) (aH (x:=cb (dh m n a b i k)) ?_ (cB (by simp only[dD,cZ,dI,dN];omega) ?_))))
    ·rw[e];exact r4 (by have:=wb h aa k;rw[la];omega)
    simp only;rw[fg (by omega),kX])
  (fun _ _=>by unfold Be;exact fj rfl) () trivial
 refine aH (x:=aQ n fun j=>cb (dh m n a b i j)) (by unfold Lu;rw[gy,cZ];exact e1) ?_
 obtain⟨s2,e2,-⟩:=h4 (f:=fun w:Int×aou=>Bf (i:Int) p.hF p.gd p.ei p.eE p.hL x0 q2 bN cx d7 w.1 w.2)
  (fun (k:Nat) (_:Unit)=>((k:Int),aQ (n+k) fun j=>cb (dh m n a b i j))) m (fun _ _=>True) (fun _=>aQ (n+m) fun j=>cb (dh m n a b i j))
  (fun k aX _ _=>by
    refine⟨(),?_,trivial⟩;unfold Bf
    have HM:lU m n a b i (n+k)=if k=i then 1 else 0:=by
     unfold lU;rw[dA (by omega),dA (by omega)];by_cases c:k=i
     ·rw[dw c,dw (by omega)]
     rw[dA c,dA (by omega)]
    refine l5 (by simp only;rw[h.rows];omega) (qo (fun c=> ?_) (fun c=> ?_))
    ·have Af:k=i:=(by simp at c;omega);refine aH (x:=cb (dh m n a b i (n+k))) (by unfold dh;rw[HM,dw Af];exact r4 (by rw[la];omega)) (cB (by simp only[dD,cZ,dI,dN];omega) ?_);simp only;rw[fg (by omega),<- Nat.add_assoc,kX]
    have Af:k≠i:=(by simp at c;omega);refine aH (x:=cb (dh m n a b i (n+k))) (by unfold dh;rw[HM,dA Af];exact r4 (by rw[la];omega)) (cB (by simp only[dD,cZ,dI,dN];omega) ?_);simp only;rw[fg (by omega),<- Nat.add_assoc,kX])
  (fun _ _=>by unfold Bf;exact lC (by simp only;rw[h.rows];omega) rfl) () trivial
 unfold Lv;exact e2
theorem ad2 {p:kz}{m n:Nat}{a:Nat->Nat->Int}{b:Nat->Int}(h:nv p m n a b){i:Nat}(aa:i<m)(aW:¬b i<0)(x0:Int)(q2:aoz)(bN:aoA)(cx:ar)(d7:aou):
 (Lk (i:Int) (aQ n (a i)) (len_ eI (aQ n (a i))) p.hF p.gd p.ei p.eE p.hL x0 q2 bN cx d7 0 ([]:aou) >>= fun b6=>Ll (i:Int) p.hF p.gd p.ei p.eE p.hL x0 q2 bN cx d7 0 b6)=some (aQ (n+m) fun j=>cb (dh m n a b i j)):=by
 have hm:=h.hm;have aS:=h.aS;have bG:lk (b i)=1:=by unfold lk;rw[dA aW]
 obtain⟨s1,e1,-⟩:=h4 (f:=fun w:Int×aou=>A2 (i:Int) (aQ n (a i)) ((n:Nat):Int) p.hF p.gd p.ei p.eE p.hL x0 q2 bN cx d7 w.1 w.2)
  (fun (k:Nat) (_:Unit)=>((k:Int),aQ k fun j=>cb (dh m n a b i j))) n (fun _ _=>True) (fun _=>aQ n fun j=>cb (dh m n a b i j))
  (fun k aX _ _=>by
    refine⟨(),?_,trivial⟩;have bF:=h.xZ i aa k aX;unfold A2;have e:R ((1:Int)*a i k)=lU m n a b i k:=(by rw[cT (by omega) (by omega)];unfold lU;rw[dw aX,bG]);refine eG (c4 (aH (x:=a i k) (by simp only;rw[dy];exact fX aX) (aH (x:=cb (dh m n a b i k)) ?_ (cB (by simp only[dD,cZ,dI,dN];omega) ?_))))
    ·rw[e];exact r4 (by have:=wb h aa k;rw[la];omega)
    simp only;rw[fg (by omega),kX])
  (fun _ _=>by unfold A2;exact fj rfl) () trivial
 refine aH (x:=aQ n fun j=>cb (dh m n a b i j)) (by unfold Lk;rw[gy,cZ];exact e1) ?_
 obtain⟨s2,e2,-⟩:=h4 (f:=fun w:Int×aou=>A3 (i:Int) p.hF p.gd p.ei p.eE p.hL x0 q2 bN cx d7 w.1 w.2)
  (fun (k:Nat) (_:Unit)=>((k:Int),aQ (n+k) fun j=>cb (dh m n a b i j))) m (fun _ _=>True) (fun _=>aQ (n+m) fun j=>cb (dh m n a b i j))
  (fun k aX _ _=>by
    refine⟨(),?_,trivial⟩;unfold A3
    have HM:lU m n a b i (n+k)=if k=i then 1 else 0:=by
     unfold lU;rw[dA (by omega),dA (by omega)];by_cases c:k=i
     ·rw[dw c,dw (by omega)]
     rw[dA c,dA (by omega)]
    refine l5 (by simp only;rw[h.rows];omega) (qo (fun c=> ?_) (fun c=> ?_))
    ·have Af:k=i:=(by simp at c;omega);refine aH (x:=cb (dh m n a b i (n+k))) (by unfold dh;rw[HM,dw Af];exact r4 (by rw[la];omega)) (cB (by simp only[dD,cZ,dI,dN];omega) ?_);simp only;rw[fg (by omega),<- Nat.add_assoc,kX]
    have Af:k≠i:=(by simp at c;omega);refine aH (x:=cb (dh m n a b i (n+k))) (by unfold dh;rw[HM,dA Af];exact r4 (by rw[la];omega)) (cB (by simp only[dD,cZ,dI,dN];omega) ?_);simp only;rw[fg (by omega),<- Nat.add_assoc,kX])
  (fun _ _=>by unfold A3;exact lC (by simp only;rw[h.rows];omega) rfl) () trivial
 unfold Ll;exact e2
theorem UE {p:kz}{m n:Nat}{a:Nat->Nat->Int}{b:Nat->Int}(h:nv p m n a b){i:Nat}(aa:i<m)(q2:aoA)(bN:aoz)(cx:ar)(a0:q2[i]? = some (aQ (n+m+1) fun j=>cb (dh m n a b i j))):
 H5 (i:Int) i (n+m+1) (((n+m+1:Nat):Nat):Int) p.hF p.gd p.ei p.eE p.hL ((n+m:Nat):Int) q2 bN cx 0 (aQ (n+m+1) fun j=>cb (iL m n a b i j))=some (aQ (n+m+1) fun j=>cb (iL m n a b (i+1) j)):=by
 have hm:=h.hm;have aS:=h.aS;have alU : ∀j,eO (dh m n a b i j):=fun j=>MS (N4 h aa j) (by omega);have f1 : ∀j,eO (iL m n a b i j):=fun j=>MS (Xp h (by omega) j) (by omega);have f2 : ∀j,eO (iL m n a b (i+1) j):=fun j=>MS (Xp h (by omega) j) (by omega);have es : ∀j,(j<n\/j=n+m)->iL m n a b i j+dh m n a b i j=iL m n a b (i+1) j:=fun j aq=>by unfold iL;rw[dw aq,dw aq,ct]
 have At : ∀j,¬(j<n\/j=n+m)->iL m n a b i j=iL m n a b (i+1) j:=fun j aq=>by unfold iL;rw[dA aq,dA aq]
 obtain⟨s,e,-⟩:=h4 (f:=fun w:Int×aou=>Bg (i:Int) i (n+m+1) (((n+m+1:Nat):Nat):Int) p.hF p.gd p.ei p.eE p.hL ((n+m:Nat):Int) q2 bN cx w.1 w.2)
  (fun (k:Nat) (_:Unit)=>((k:Int),aQ (n+m+1) fun j=>cb (if j<k then iL m n a b (i+1) j else iL m n a b i j))) (n+m+1) (fun _ _=>True) (fun _=>aQ (n+m+1) fun j=>cb (iL m n a b (i+1) j))
  (fun k aX _ _=>by
    refine⟨(),?_,trivial⟩
    have fin : ∀r,r=iL m n a b (i+1) k->(R ((k:Int)+1),(aQ (n+m+1) fun j=>cb (if j<k then iL m n a b (i+1) j else iL m n a b i j)).set (0+((k:Int)).toNat) (cb r))=(((k+1:Nat):Int),aQ (n+m+1) fun j=>cb (if j<k+1 then iL m n a b (i+1) j else iL m n a b i j)):=by
     intro r ai;rw[fg (by omega),dy,dG,kZ];congr 1;refine eM fun j _=> ?_;by_cases c:j=k
     ·subst c;rw[dw rfl,dw (by omega),ai]
     rw[dA c];by_cases cp:j<k
     ·rw[dw cp,dw (by omega)]
     rw[dA cp,dA (by omega)]
    have Zk : ∀ {x:Option ((Int×aou)⊕aou)},(k<n\/k=n+m)->(∀r,(R ((k:Int)+1),(aQ (n+m+1) fun j=>cb (if j<k then iL m n a b (i+1) j else iL m n a b i j)).set (0+((k:Int)).toNat) (cb r))=(((k+1:Nat):Int),aQ (n+m+1) fun j=>cb (if j<k+1 then iL m n a b (i+1) j else iL m n a b i j))->some (Sum.inl (R ((k:Int)+1),(aQ (n+m+1) fun j=>cb (if j<k then iL m n a b (i+1) j else iL m n a b i j)).set (0+((k:Int)).toNat) (cb r)))=x) ->
     (if 0<=(k:Int)/\(k:Int)<(((aQ (n+m+1) fun j=>cb (if j<k then iL m n a b (i+1) j else iL m n a b i j)).length:Nat):Int) then
       (aQ (n+m+1) fun j=>cb (if j<k then iL m n a b (i+1) j else iL m n a b i j))[(0+((k:Int)).toNat)]? >>= fun fS =>
       q2[i]? >>= fun oO =>
       if 0<=(k:Int)/\(k:Int)<((n+m+1:Nat):Int) then
       oO[(0+((k:Int)).toNat)]? >>= fun e9 =>
       rT fS e9 >>= fun b3 =>
       if (0+((k:Int)).toNat)<(aQ (n+m+1) fun j=>cb (if j<k then iL m n a b (i+1) j else iL m n a b i j)).length then
       some (.inl (R ((k:Int)+(1:Int)),(aQ (n+m+1) fun j=>cb (if j<k then iL m n a b (i+1) j else iL m n a b i j)).set (0+((k:Int)).toNat) b3))
       else none
       else none
       else none)=x:=by
     intro x Kr U;refine c4 (aH (x:=cb (iL m n a b i k)) (by rw[dy,hl aX,dA (by omega)]) (aH a0 (c4 (aH (x:=cb (dh m n a b i k)) (by rw[dy];exact hl aX) (aH (F6 (f1 k) (alU k) (by rw[es k Kr];exact f2 k)) (c4 ?_))))));exact U _ (fin _ (es k Kr))
    unfold Bg;refine eG (qo (fun c=> ?_) (fun c=> ?_))
    ·have Pu:k<n:=(by have:=of_decide_eq_true c;rw[h.gV] at this;simp only at this;omega);exact Zk (.inl Pu) fun r ai=>by rw[ai]
    have Pu : ¬k<n:=(by have:=of_decide_eq_false c;rw[h.gV] at this;simp only at this;omega);refine qo (fun cp=> ?_) (fun cp=> ?_)
    ·have YM:k=n+m:=(by simp at cp;omega);exact Zk (.inr YM) fun r ai=>by rw[ai]
    have YM:k≠n+m:=(by simp at cp;omega);simp only;rw[fg (by omega)];congr 3;refine eM fun j _=> ?_;by_cases kc:j=k
    ·subst kc;rw[dA (by omega),dw (by omega),At j (by omega)]
    by_cases q4:j<k
    ·rw[dw q4,dw (by omega)]
    rw[dA q4,dA (by omega)])
  (fun _ _=>by unfold Bg;refine fj ?_;simp only;congr 2;exact eM fun j aq=>by rw[dw aq]) () trivial
 unfold H5;have bJ:(aQ (n+m+1) fun j=>cb (if j<0 then iL m n a b (i+1) j else iL m n a b i j))=aQ (n+m+1) fun j=>cb (iL m n a b i j):=eM fun j _=>by rw[dA (by omega)]
 rw[bJ] at e;exact e
theorem rq {K:Nat}{d x y:Rat}(bC:du K d)(aV:du K y)(h0:d≠0)(e:d*x=y)(iN:(K:Int)<B 24):eO x:=by obtain⟨z,rfl,cA⟩:=bC;obtain⟨w,rfl,hw⟩:=aV;exact VI (n:=w) (d:=z) (fun c=>h0 (by rw[c];rfl)) e (by omega) (by omega)
@[irreducible] def eL:Nat:=m9 100 20
theorem Dd:m9 100 20=eL:=by unfold eL;rfl
theorem aiB:((21*100*(eL*eL):Nat):Int)<B 24:=by decide +kernel
theorem sZ:0<eL:=by decide +kernel
structure mf (m N:Nat) (A:Nat->Nat->Rat) (t:bV):Prop where
 ok:g9 m m N A t
 lD:t.mH m N
 sC:t.D m A≠0
structure Small (m N:Nat) (A:Nat->Nat->Rat):Prop where
 hm:m<=20
 pN : ∀c,c<m-> ∀j,j<=N->du 100 (A c j)
theorem mf.Ag {m N:Nat}{A:Nat->Nat->Rat}(s:Small m N A){t:bV}(h:mf m N A t):du eL (t.D m A):=by refine du.mono (xf fun i aa c aZ=>s.pN c aZ _ (Nat.le_of_lt (h.ok.jG i aa))) (Dd▸yX (by omega) s.hm)
theorem mf.vg {m N:Nat}{A:Nat->Nat->Rat}(s:Small m N A){t:bV}(h:mf m N A t){i j:Nat}(aa:i<m)(aq:j<=N):du eL (t.T i j*t.D m A):=by
 rw[<- h.ok.xX aa aq];refine du.mono (xf fun k aX c aZ=> ?_) (Dd▸yX (by omega) s.hm);simp only[hv];split
 ·exact s.pN c aZ j aq
 exact s.pN c aZ _ (Nat.le_of_lt (h.ok.jG k aX))
theorem p4 {k:Nat}(h:k<=21*100*(eL*eL)):((k:Nat):Int)<B 24:=by have:=aiB;omega
theorem Dm:eL<=21*100*(eL*eL):=by have h1:eL*1<=eL*eL:=Nat.mul_le_mul_left _ sZ;omega
theorem mf.J5 {m N:Nat}{A:Nat->Nat->Rat}(s:Small m N A){t:bV}(h:mf m N A t){i j:Nat}(aa:i<m)(aq:j<=N):eO (t.T i j) :=
 rq (h.Ag s) (h.vg s aa aq) h.sC (by grind) (p4 Dm)
theorem mf.XN {m N:Nat}{A:Nat->Nat->Rat}(s:Small m N A){t:bV}(h:mf m N A t){i j:Nat}(aa:i<m)(aq:j<=N)(af:0<t.T i j):eO (t.T i N / t.T i j) :=
 rq (h.vg s aa aq) (h.vg s aa (dE _)) (fun c=>by have h1:=h.sC;have:t.T i j≠0:=(by grind);grind) (by grind) (p4 Dm)
theorem mf.YN {m N:Nat}{A:Nat->Nat->Rat}(s:Small m N A){t:bV}(h:mf m N A t){o:Nat->Rat}(an:∀j,j<=N->du 100 (o j)){j:Nat}(aq:j<=N):du (21*100*eL) (t.cr m o j*t.D m A):=by
 have hm:=s.hm;unfold bV.cr;have e:(o j-ct m (fun i=>o (t.B i)*t.T i j))*t.D m A=o j*t.D m A-ct m (fun i=>o (t.B i)*(t.T i j*t.D m A)):=by rw[gr (f:=fun i=>o (t.B i)*(t.T i j*t.D m A)) (g:=fun i=>(o (t.B i)*t.T i j)*t.D m A) (fun i _=>by grind),vF];grind
 rw[e];refine du.mono (((an j aq).mul (h.Ag s)).sub (du.sum fun i aa=>(an _ (Nat.le_of_lt (h.ok.jG i aa))).mul (h.vg s aa aq))) ?_;have:m*(100*eL)<=20*(100*eL):=aob _ hm;omega
theorem xw:21*100*eL<=21*100*(eL*eL):=by have h1:eL*1<=eL*eL:=Nat.mul_le_mul_left _ sZ;omega
theorem mf.zL {m N:Nat}{A:Nat->Nat->Rat}(s:Small m N A){t:bV}(h:mf m N A t){o:Nat->Rat}(an:∀j,j<=N->du 100 (o j)){j:Nat}(aq:j<=N):eO (t.cr m o j) :=
 rq ((h.Ag s).mono (Nat.le_trans (by omega:eL<=21*100*eL) (dE _))) (h.YN s an aq) h.sC (by grind) (p4 xw)
theorem mf.ik {m N K:Nat}{A obj:Nat->Nat->Rat}{bO:Nat->Prop}{t:bV}(h:mf m N A t){r k:Nat}(b:o0 m N K obj bO t r k):mf m N A (t.cn r k) :=
 ⟨b.ok h.ok,b.GK h.lD,by rw[h.ok.zt b.ai b.bG];have h1:=b.pos;have h2:=h.sC;intro c;have:t.T r k≠0:=(by grind);grind⟩
theorem mf.GN {m N:Nat}{A:Nat->Nat->Rat}(s:Small m N A){t:bV}(h:mf m N A t){o:Nat->Rat}(an:∀j,j<=N->du 100 (o j)){r k:Nat}(ai:r<m)(aX:k<N)(af:t.T r k≠0)(c5:g9 m m N A (t.cn r k)):J3 m N t (t.cr m o) r k:=by
 have bC:=h.sC;have se:(t.cn r k).D m A≠0:=by rw[h.ok.zt ai aX];grind
 have fb:(t.cn r k).D m A=t.T r k*t.D m A:=h.ok.zt ai aX;have i2:du eL ((t.cn r k).D m A):=du.mono (xf fun i aa c aZ=>s.pN c aZ _ (Nat.le_of_lt (c5.jG i aa))) (Dd▸yX (by omega) s.hm)
 have Aj : ∀i,i<m-> ∀j,j<=N->du eL ((t.cn r k).T i j*(t.cn r k).D m A):=fun i aa j aq=>by
  rw[<- c5.xX aa aq];refine du.mono (xf fun k aX c aZ=> ?_) (Dd▸yX (by omega) s.hm);simp only[hv];split
  ·exact s.pN c aZ j aq
  exact s.pN c aZ _ (Nat.le_of_lt (c5.jG k aX))
 have Au:du (21*100*(eL*eL)) (t.D m A*(t.cn r k).D m A):=((h.Ag s).mul i2).mono (by omega);have YO:t.D m A*(t.cn r k).D m A≠0:=by grind
 refine⟨fun i aa j aq=>h.J5 s aa aq,fun i aa j aq=>rq i2 (Aj i aa j aq) se (by grind) (p4 Dm),fun i aa _ j aq=> ?_,fun j aq=>h.zL s an aq,fun j aq=> ?_,fun j aq=> ?_⟩
 ·refine rq Au (((h.vg s aa (Nat.le_of_lt aX)).mul (h.vg s ai aq)).neg.mono (by omega)) YO ?_ (p4 (dE _));rw[fb];grind
 ·rw[<- h.ok.I5 o ai aX af];have g2:du (21*100*eL) ((t.cn r k).cr m o j*(t.cn r k).D m A):=(by have hm:=s.hm;unfold bV.cr;have e:(o j-ct m (fun i=>o ((t.cn r k).B i)*(t.cn r k).T i j))*(t.cn r k).D m A=o j*(t.cn r k).D m A-ct m (fun i=>o ((t.cn r k).B i)*((t.cn r k).T i j*(t.cn r k).D m A)):=(by rw[gr (f:=fun i=>o ((t.cn r k).B i)*((t.cn r k).T i j*(t.cn r k).D m A)) (g:=fun i=>(o ((t.cn r k).B i)*(t.cn r k).T i j)*(t.cn r k).D m A) (fun i _=>by grind),vF];grind);rw[e];refine du.mono (((an j aq).mul i2).sub (du.sum fun i aa=>(an _ (Nat.le_of_lt (c5.jG i aa))).mul (Aj i aa j aq))) ?_;have:m*(100*eL)<=20*(100*eL):=aob _ hm;omega);exact rq (i2.mono (by omega)) g2 se (by grind) (p4 xw)
 refine rq Au (((h.YN s an (Nat.le_of_lt aX)).mul (h.vg s ai aq)).neg.mono (by rw[Nat.mul_assoc];exact dE _)) YO ?_ (p4 (dE _));rw[fb];grind
theorem ahi {p:kz}{m n:Nat}{a:Nat->Nat->Int}{b:Nat->Int}(h:nv p m n a b):
 EA p=some (((n+m:Nat):Int),iK m (n+m),cW m (jP m n a b),ho (n+m) ((jP m n a b).cr m (gC m n)),gB m (n+m) (jP m n a b)):=by
 have hm:=h.hm;have aS:=h.aS;have gJ:R (p.gd+p.hF)=((n+m:Nat):Int):=by rw[h.gV,h.rows,<- Int.natCast_add,cT (by omega) (by omega)]
 unfold EA;rw[gJ]
 obtain⟨s1,e1,-⟩:=h4 (f:=fun w:Int×aou=>Bd p.hF p.gd p.ei p.eE p.hL ((n+m:Nat):Int) w.1 w.2)
  (fun (k:Nat) (_:Unit)=>((k:Int),aQ k fun j=>cb (0:Rat))) (n+m+1) (fun _ _=>True) (fun _=>aQ (n+m+1) fun j=>cb (0:Rat))
  (fun k aX _ _=>by refine⟨(),?_,trivial⟩;unfold Bd;refine eG (aH (x:=cb (0:Rat)) (r4 (n:=0) (by rw[la];omega)) (cB (by simp only[dD,cZ,dI,dN];omega) ?_));simp only;rw[fg (by omega),kX])
  (fun _ _=>by unfold Bd;exact fj rfl) () trivial
 refine aH (x:=aQ (n+m+1) fun j=>cb (0:Rat)) (by unfold RK;exact e1) ?_
 obtain⟨s2,e2,-⟩:=h4 (f:=fun w:Int×aoz×aoA×ar×aou=>A4 p.hF p.gd p.ei p.eE p.hL ((n+m:Nat):Int) w.1 w.2.1 w.2.2.1 w.2.2.2.1 w.2.2.2.2)
  (fun (i:Nat) (_:Unit)=>((i:Int),aQ i (fun k=>some (k,n+m+1)),aQ i (hh (n+m) (jP m n a b)),aQ i (fun k=>((n+k:Nat):Int)),aQ (n+m+1) fun j=>cb (iL m n a b i j))) m (fun _ _=>True)
  (fun _=>(iK m (n+m),gB m (n+m) (jP m n a b),cW m (jP m n a b),aQ (n+m+1) fun j=>cb (iL m n a b m j)))
  (fun i aa _ _=>by
    refine⟨(),?_,trivial⟩;have aW:=h.vm i aa;have hlen:((aQ (n+m) fun j=>cb (dh m n a b i j))++[cb (dh m n a b i (n+m))])=hh (n+m) (jP m n a b) i:=(kX ..).symm;have YP:(hh (n+m) (jP m n a b) i).length=n+m+1:=cZ ..;have hw:R (p.gd+(i:Int))=((n+i:Nat):Int):=(by rw[h.gV,<- Int.natCast_add,cT (by omega) (by omega)]);have dm:(aQ i (hh (n+m) (jP m n a b))++[hh (n+m) (jP m n a b) i])[i]? = some (hh (n+m) (jP m n a b) i):=(by rw[<- kX];exact fX (by omega));have YQ:(aQ i (hh (n+m) (jP m n a b))).length=i:=cZ ..;have q3:lU m n a b i (n+m)=lk (b i)*b i:=by unfold lU;rw[dA (by omega),dw rfl]
    have fin:(some (Sum.inl (R ((i:Int)+1),(aQ i (fun k=>(some (k,n+m+1):bT)))++[some (i,n+m+1)],aQ i (hh (n+m) (jP m n a b))++[hh (n+m) (jP m n a b) i],(aQ i fun k=>((n+k:Nat):Int))++[((n+i:Nat):Int)],aQ (n+m+1) fun j=>cb (iL m n a b (i+1) j))):Option ((Int×aoz×aoA×ar×aou)⊕(aoz×aoA×ar×aou))) =
     some (Sum.inl (((i+1:Nat):Int),aQ (i+1) (fun k=>some (k,n+m+1)),aQ (i+1) (hh (n+m) (jP m n a b)),aQ (i+1) (fun k=>((n+k:Nat):Int)),aQ (n+m+1) fun j=>cb (iL m n a b (i+1) j))):=by
     rw[fg (by omega),kX i (fun k=>(some (k,n+m+1):bT)),kX i (hh (n+m) (jP m n a b)),kX i (fun k=>((n+k:Nat):Int))]
    unfold A4;refine l5 (by simp only;rw[h.rows];omega) (cB (by simp only;rw[h.PL];omega) (aH (x:=b i) (by simp only;rw[dy];exact h.Oo i aa) (qo (fun c=> ?_) (fun c=> ?_))))
    ·have o3:b i<0:=of_decide_eq_true c;have bG:lk (b i) = -1:=(by unfold lk;rw[dw o3]);refine aH (W0 h aa) ?_;have ai:=ad1 h aa o3 ((n+m:Nat):Int) (aQ i (fun k=>some (k,n+m+1))) (aQ i (hh (n+m) (jP m n a b))) (aQ i (fun k=>((n+k:Nat):Int))) (aQ (n+m+1) fun j=>cb (iL m n a b i j));rw[dC,Option.bind_eq_some_iff] at ai;obtain⟨b6,jw,z9⟩:=ai;refine aH jw (aH z9 (aH (x:=cb (dh m n a b i (n+m))) (by have e:R ((-1:Int)*b i)=lU m n a b i (n+m):=(by rw[q3,bG,cT (by omega) (by omega)]);rw[e];exact r4 (by have:=wb h aa (n+m);rw[la];omega)) ?_));simp only;rw[hlen,YQ,YP,hw];refine c4 (aH dm (aH (UE h aa _ _ _ dm) (cB (by simp only[dD,cZ,dI,dN];omega) (cB (by simp only[dD,cZ,dI,dN];omega) fin))))
    have o3 : ¬b i<0:=of_decide_eq_false c;have bG:lk (b i)=1:=(by unfold lk;rw[dA o3]);refine aH (W0 h aa) ?_;have ai:=ad2 h aa o3 ((n+m:Nat):Int) (aQ i (fun k=>some (k,n+m+1))) (aQ i (hh (n+m) (jP m n a b))) (aQ i (fun k=>((n+k:Nat):Int))) (aQ (n+m+1) fun j=>cb (iL m n a b i j));rw[dC,Option.bind_eq_some_iff] at ai;obtain⟨b6,jw,z9⟩:=ai;refine aH jw (aH z9 (aH (x:=cb (dh m n a b i (n+m))) (by have e:R ((1:Int)*b i)=lU m n a b i (n+m):=(by rw[q3,bG,cT (by omega) (by omega)]);rw[e];exact r4 (by have:=wb h aa (n+m);rw[la];omega)) ?_));simp only;rw[hlen,YQ,YP,hw];refine c4 (aH dm (aH (UE h aa _ _ _ dm) (cB (by simp only[dD,cZ,dI,dN];omega) (cB (by simp only[dD,cZ,dI,dN];omega) fin)))))
  (fun _ _=>by unfold A4;exact lC (by simp only;rw[h.rows];omega) rfl) () trivial
 have e0:(aQ (n+m+1) fun j=>cb (iL m n a b 0 j))=aQ (n+m+1) fun j=>cb (0:Rat):=eM fun j _=>by unfold iL;split<;>rfl
 rw[e0] at e2;refine aH (x:=(iK m (n+m),gB m (n+m) (jP m n a b),cW m (jP m n a b),aQ (n+m+1) fun j=>cb (iL m n a b m j))) (by unfold Rv;exact e2) ?_;congr 1;refine Prod.ext rfl (Prod.ext rfl (Prod.ext rfl (Prod.ext ?_ rfl)));refine eM fun j aq=> ?_;rw[afN];unfold iL gC;by_cases c:j<n\/j=n+m
 ·rw[dw c,dA (by omega)];congr 1;grind
 rw[dA c,dw (by omega)];obtain⟨k,rfl⟩ : ∃k,j=n+k:=⟨j-n,by omega⟩;rw[lq (k:=k) (by omega) (fun i _ dd=>by rw[vS (by omega),dA (Ne.symm dd)]),vS (by omega),dw rfl,show (-1:Rat)+1=0 by grind]
theorem Js (m n j:Nat):du 100 (gC m n j):=by
 unfold gC;split
 ·exact⟨-1,rfl,by omega⟩
 exact⟨0,rfl,by omega⟩
theorem J6 {g:Nat->Rat}:iS 1 g↔0<g 0:=by
 constructor
 ·rintro⟨l,h1,h2,-⟩;rw[show l=0 by omega] at h2;exact h2
 intro h;exact⟨0,by omega,h,fun hI aT=>by omega⟩
theorem Fz {p:kz}{m n:Nat}{a:Nat->Nat->Int}{b:Nat->Int}(h:nv p m n a b):Small m (n+m) (dh m n a b):=⟨h.hm,fun c aZ j _=>N4 h aZ j⟩
theorem agh {p:kz}{m n:Nat}{a:Nat->Nat->Int}{b:Nat->Int}(h:nv p m n a b):
 ∃t,vz false ((n+m:Nat):Int) (iK m (n+m)) (cW m (jP m n a b)) (ho (n+m) ((jP m n a b).cr m (gC m n))) (gB m (n+m) (jP m n a b))=some (true,cW m t,ho (n+m) (t.cr m (gC m n)),gB m (n+m) t) /\
  mf m (n+m) (dh m n a b) t/\(t.cr m (gC m n) (n+m)=0↔rv m n a b):=by
 have hm:=h.hm;have aS:=h.aS;have gO:=Fz h
 obtain⟨q,t,e,cQ,eB⟩:=WZ (e6:=m) (m:=m) (N:=n+m) (K:=1) (by omega) (by omega) (A:=dh m n a b) (obj:=fun _=>gC m n) false (mf m (n+m) (dh m n a b)) (fun t cj=>⟨cj.ok,cj.lD⟩) (fun t r s cj b=>cj.ik b)
  (fun t cj j aq=>⟨jI (t.cr m (gC m n) j),ahU (by omega) _ _ _ _ (by omega) (cj.zL gO (fun j _=>Js m n j) (by omega)),fun _=>by rw[sT];exact(J6 (g:=fun _=>t.cr m (gC m n) j)).symm⟩)
  (fun t cj i aa j aq=>cj.J5 gO aa aq) (fun t cj i aa j aq af=>cj.XN gO aa aq af)
  (fun t cj r k ai aX af=>cj.GN gO (fun j _=>Js m n j) ai aX af (cj.ok.cn ai aX af)) (jP m n a b) ⟨Wb,U3,VA⟩
 rcases eB with ⟨rfl,eB⟩|⟨-,s,bG,dm,hx⟩
 ·refine⟨t,e,cQ,fun h0=>TZ cQ.ok cQ.lD (Mr cQ.lD h0 cQ.ok.jG),fun ald=>Uw cQ.ok cQ.lD (fun j aq=> ?_) ald⟩;have:=eB j (by omega);have h2 : ¬0<t.cr m (gC m n) j:=fun c=>this (J6.2 c);grind
 obtain⟨i,aa,af⟩:=TF cQ.ok bG (J6.1 dm);exact(hx i aa af).elim
def b7 (x:Rat):bz:=gL x.num
@[irreducible] def l6:Nat:=1000000000 ^ 40
theorem XO:((l6:Nat):Int)+((l6:Nat):Int)<B 50:=by decide +kernel
theorem NR {K:Nat}{x:Rat}(h:du K x):((x.num:Int):Rat)=x/\x.num.natAbs<=K:=by obtain⟨z,rfl,cA⟩:=h;rw[Rat.num_intCast];exact⟨rfl,cA⟩
theorem qB (z:Int):b7 (z:Rat)=gL z:=by unfold b7;rw[Rat.num_intCast]
theorem C4 {x:Rat}(h:du l6 x):(L x.num.natAbs).length<=50:=by have:=XO;have h1:=(NR h).2;exact(hX (by omega)).2 (by omega)
theorem CL {x y:Rat}(U:du l6 x)(aV:du l6 y):qs (b7 x) (b7 y)=some (b7 (x*y)):=by have h1:=C4 U;have h2:=C4 aV;obtain⟨a,rfl,-⟩:=U;obtain⟨b,rfl,-⟩:=aV;rw[Rat.num_intCast] at h1 h2;rw[qB,qB,<- aos,qB];exact MR (by omega) (by omega)
theorem VK {x y:Rat}(U:du l6 x)(aV:du l6 y):yq (b7 x) (b7 y)=some (b7 (x-y)):=by have gl:=XO;obtain⟨a,rfl,bF⟩:=U;obtain⟨b,rfl,aW⟩:=aV;rw[qB,qB,<- Rat.intCast_sub,qB];exact agc (by omega) (by omega)
theorem xe {x:Rat}(U:du l6 x):q6 (b7 x)=some (jI x):=by
 obtain⟨a,rfl,bF⟩:=U;rw[qB];unfold q6 jI;simp only[gy];have e:(((L a.natAbs).length:Nat):Int)=0↔a=0:=by rw[J2 (by omega)];omega
 show (if (((L a.natAbs).length:Int) == 0)=true then some 0 else if decide (a<0)=true then some (-1) else some 1)=_;by_cases h0:a=0
 ·rw[dw (by rw[beq_iff_eq,e];exact h0),dw (by rw[h0];rfl)]
 have ale:(a:Rat)≠0:=fun c=>h0 (Rat.intCast_inj.1 (by rw[c];rfl));rw[dA (by rw[beq_iff_eq,e];exact h0),dA ale];have e2:(a:Rat)<0↔a<0:=by rw[show (0:Rat)=((0:Int):Rat) from rfl,Rat.intCast_lt_intCast]
 by_cases h1:a<0
 ·rw[dw (decide_eq_true h1),dw (e2.2 h1)]
 rw[dA (by simpa using h1),dA (fun c=>h1 (e2.1 c))]
theorem afp {x y:Rat}(U:du l6 x)(aV:du l6 y):uy (b7 x) (b7 y)=some (if x<y then -1 else if y<x then 1 else 0):=by have h1:=C4 U;have h2:=C4 aV;obtain⟨a,rfl,-⟩:=U;obtain⟨b,rfl,-⟩:=aV;rw[Rat.num_intCast] at h1 h2;rw[qB,qB,Sn (by omega) (by omega)];unfold li;simp only[Rat.intCast_lt_intCast]
theorem T8 {x:Rat}(U:du l6 x):rO (b7 x)=some (b7 (-x)):=by obtain⟨a,rfl,-⟩:=U;rw[qB,<- Rat.intCast_neg,qB];unfold rO;show (ni (!(decide (a<0))) (L a.natAbs)).bind _=_;rw[sO (by omega),NP];rfl
theorem vH {n:Int}(h:nq n):pT n=some (b7 (n:Rat)):=by rw[qB];exact UC h
theorem afq {x y:Rat}(U:du l6 x)(aV:du l6 y)(OY:du l6 (x*y))(h0:y≠0):wY (b7 (x*y)) (b7 y)=some (b7 x):=by
 have h1:=C4 OY;have h2:=C4 aV;obtain⟨a,rfl,-⟩:=U;obtain⟨b,rfl,-⟩:=aV;rw[<- aos] at h1 ⊢;rw[Rat.num_intCast] at h1 h2;have aW:b≠0:=fun c=>h0 (by rw[c];rfl);rw[qB,qB,qB];unfold wY;show (vJ (L (a*b).natAbs) (L b.natAbs)).bind _=_;rw[Jm (iQ _) (iQ _) (fun c=>by have:=s6.1 c;omega) (by omega) (by omega),eg (by omega),eg (by omega)];have e1:((a*b).natAbs:Int) / (b.natAbs:Int)=(a.natAbs:Int):=by rw[Int.natAbs_mul,Int.natCast_mul];exact Int.mul_ediv_cancel _ (by omega)
 simp only[dx];rw[e1];show (ni (!(decide (a*b<0) == decide (b<0))) (L a.natAbs)).bind _=_;rw[sO (by omega)];simp only[dx];congr 2;rcases Int.lt_or_gt_of_ne aW with c|c
 ·by_cases bF:a<0
  ·have : ¬a*b<0:=(by have:=Int.mul_pos_of_neg_of_neg bF c;omega);rw[decide_eq_false this,decide_eq_true c];simp only[eX,show (!(false == true))=true from rfl,if_true];omega
  by_cases cA:a=0
  ·subst cA;simp[eX]
  have:a*b<0:=Int.mul_neg_of_pos_of_neg (by omega) c;rw[decide_eq_true this,decide_eq_true c];simp only[eX,BEq.rfl,Bool.not_true,dT,if_false];omega
 by_cases bF:a<0
 ·have:a*b<0:=Int.mul_neg_of_neg_of_pos bF c;rw[decide_eq_true this,decide_eq_false (by omega)];simp only[eX,show (!(true == false))=true from rfl,if_true];omega
 have : ¬a*b<0:=by have:=Int.mul_nonneg (show 0<=a by omega) (show 0<=b by omega);omega
 rw[decide_eq_false this,decide_eq_false (by omega)];simp only[eX,BEq.rfl,Bool.not_true,dT,if_false];omega
def iF (N:Nat)(w:Rat)(t:bV)(i:Nat):aox:=aQ (N+1) fun j=>b7 (t.T i j*w)
structure p8 (m N:Nat) (w:Rat) (t:bV):Prop where
 pos:0<w
 hw:du (21*100*eL) w
 iq : ∀i,i<m-> ∀j,j<=N->du eL (t.T i j*w)
 gl : ∀i,i<m->t.B i<N
theorem Gp:21*100*eL*(21*100*eL)+21*100*eL*(21*100*eL)<=l6:=by decide +kernel
theorem ajZ {q i:Nat}(a0:0<q)(aa:i<=20):21*100*q*100+i*(q*100)<=21*100*q*(21*100*q):=by have h1:i*(q*100)<=20*(q*100):=aob _ aa;have h2:21*100*q*2100<=21*100*q*(21*100*q):=Nat.mul_le_mul_left _ (by omega);generalize 21*100*q*(21*100*q)=z at *;omega
theorem aj0 {i:Nat}(aa:i<=20):21*100*eL*100+i*(eL*100)<=l6 :=
 Nat.le_trans (ajZ sZ aa) (Nat.le_trans (Nat.le_add_right _ _) Gp)
theorem wo {K:Nat}(h:K<=21*100*eL):K<=l6:=by have alf:=Gp;have h1:21*100*eL*1<=21*100*eL*(21*100*eL):=Nat.mul_le_mul_left _ (by have:=sZ;generalize eL=q at *;omega);rw[Nat.mul_one] at h1;exact Nat.le_trans h (Nat.le_trans h1 (Nat.le_trans (Nat.le_add_right _ _) alf))
theorem Wk {m N:Nat}(hm:m<=20)(gJ:N<1000){w:Rat}{t:bV}(h:p8 m N w t)(o:Nat->Int)(an:∀j,j<N-> -100<=o j/\o j<=100)(km:bz)(Dp:km=b7 w)(gV:Int)(free:aoB){k:Nat}(aX:k<N):
 B2 ⟨aQ m (iF N w t),km,cW m t,gV,free⟩ (aQ N o) (k:Int)=some (jI (t.cr m (fun j=>(o j:Rat)) k)):=by
 subst Dp;have anQ:=sZ;have small : ∀ {x:Rat} {K:Nat},du K x->K<=21*100*eL->du l6 x:=fun h1 h2=>h1.mono (wo h2);have aj : ∀j,j<N->du 100 ((o j:Int):Rat):=fun j aq=>⟨o j,rfl,by have:=an j aq;omega⟩;have YR : ∀j,j<N->nq (o j):=fun j aq=>by have:=an j aq;rw[la];omega
 let S:Nat->Rat:=fun i=>w*(o k:Rat)-ct i (fun i=>(t.T i k*w)*(o (t.B i):Rat))
 have x3 : ∀i,i<=m->du l6 (S i):=fun i aa=>by have e1:du (21*100*eL*100) (w*(o k:Rat)):=h.hw.mul (aj k aX);have e2:du (i*(eL*100)) (ct i (fun i=>(t.T i k*w)*(o (t.B i):Rat))):=du.sum fun fs lj=>(h.iq fs (by omega) k (by omega)).mul (aj _ (h.gl fs (by omega)));exact(e1.sub e2).mono (aj0 (by omega))
 unfold B2;refine c4 (aH (x:=o k) (by rw[dy];exact fX aX) (aH (vH (YR k aX)) (aH (CL (small h.hw (dE _)) (small (aj k aX) (by omega))) ?_)))
 obtain⟨s,e,-⟩:=h4 (f:=fun q:Int×Bool×ar=>A0 (aQ m (iF N w t)) (b7 w).cK (b7 w).cd (cW m t) gV free (aQ N o) (k:Int) ((m:Nat):Int) q.1 q.2.1 q.2.2)
  (fun (i:Nat) (_:Unit)=>((i:Int),(b7 (S i)).cK,(b7 (S i)).cd)) m (fun _ _=>True) (fun _=>((b7 (S m)).cK,(b7 (S m)).cd))
  (fun i aa _ _=>by
    refine⟨(),?_,trivial⟩;have KH:=h.gl i aa;have Hz:S (i+1)=S i-(t.T i k*w)*(o (t.B i):Rat):=(by simp only[S,ct];grind);unfold A0;refine eG (cB (by unfold cW;rw[cZ];simp only;omega) (aH (x:=((t.B i:Nat):Int)) (by simp only;rw[dy];exact fX aa) (c4 (aH (x:=o (t.B i)) (by rw[dy];exact fX KH) (qo (fun c=> ?_) (fun c=> ?_))))))
    ·refine c4 (aH (x:=iF N w t i) (by simp only;rw[dy];exact fX aa) (cB (by unfold iF;rw[cZ];omega) (aH (x:=b7 (t.T i k*w)) (by rw[dy];exact fX (by omega)) (aH (xe (small (h.iq i aa k (by omega)) (by omega))) (qo (fun cp=> ?_) (fun cp=> ?_))))))
     ·refine aH (vH (YR _ KH)) (aH (CL (small (h.iq i aa k (by omega)) (by omega)) (small (aj _ KH) (by omega))) (aH (VK (x3 i (by omega)) (by
       exact small ((h.iq i aa k (by omega)).mul (aj _ KH)) (by omega))) ?_))
      simp only;rw[fg (by omega),Hz]
     have cA:t.T i k*w=0:=pj.1 (by simpa using cp);simp only;rw[fg (by omega),Hz,cA,show S i-0*(o (t.B i):Rat)=S i by grind]
    have cA:o (t.B i)=0:=(by simpa using c);simp only;rw[fg (by omega),Hz,cA,show S i-t.T i k*w*((0:Int):Rat)=S i by rw[show ((0:Int):Rat)=0 from rfl];grind])
  (fun _ _=>by unfold A0;exact fj rfl) () trivial
 have e0:S 0=w*(o k:Rat):=by simp only[S,ct];grind
 rw[e0] at e;refine aH (x:=((b7 (S m)).cK,(b7 (S m)).cd)) (by unfold Rq;rw[gy,show (cW m t).length=m from cZ ..];exact e) (aH (x:=jI (S m)) (xe (x3 m (dE _))) ?_);congr 1;have e2:S m=w*t.cr m (fun j=>(o j:Rat)) k:=by simp only[S];unfold bV.cr;rw[gr (f:=fun i=>t.T i k*w*(o (t.B i):Rat)) (g:=fun i=>w*((o (t.B i):Rat)*t.T i k)) (fun i _=>by grind),jU];grind
 rw[e2];have af:=h.pos;unfold jI;by_cases c:t.cr m (fun j=>(o j:Rat)) k=0
 ·rw[dw c,dw (by rw[c];grind)]
 rw[dA c,dA (by grind)];by_cases cp:t.cr m (fun j=>(o j:Rat)) k<0
 ·rw[dw cp,dw];have:=Rat.mul_pos af (show 0 < -(t.cr m (fun j=>(o j:Rat)) k) by grind);grind
 rw[dA cp,dA];have:=Rat.mul_pos af (show 0<t.cr m (fun j=>(o j:Rat)) k by grind);grind
theorem VM {x y z v w:Rat}(hw:0<w)(aV:0<y)(bf:0<v):(x*w)*(v*w)<(z*w)*(y*w)↔x / y<z / v:=by
 have e1:(x*w)*(v*w)=(x / y)*((y*v)*(w*w)):=by grind
 have e2:(z*w)*(y*w)=(z / v)*((y*v)*(w*w)):=by grind
 have af:0<(y*v)*(w*w):=Rat.mul_pos (Rat.mul_pos aV bf) (Rat.mul_pos hw hw);rw[e1,e2];constructor
 ·intro h;apply Classical.byContradiction;intro c;have:z / v<=x / y:=(by grind);have:=Rat.mul_le_mul_of_nonneg_right this (Rat.le_of_lt af);grind
 intro h;exact Rat.mul_lt_mul_of_pos_right h af
theorem CV {x w:Rat}(hw:0<w):jI (x*w)=jI x:=by
 unfold jI;by_cases c:x=0
 ·rw[dw c,dw (by rw[c];grind)]
 rw[dA c,dA (by grind)];by_cases cp:x<0
 ·rw[dw cp,dw];have:=Rat.mul_pos (show 0 < -x by grind) hw;grind
 rw[dA cp,dA];have:=Rat.mul_pos (show 0<x by grind) hw;grind
theorem afr {m N:Nat}(hm:m<=20)(gJ:N<1000){w:Rat}{t:bV}(h:p8 m N w t)(km:bz)(free:aoB){k:Nat}(aX:k<=N):
 ∃r,Ed ⟨aQ m (iF N w t),km,cW m t,(N:Int),free⟩ (k:Int)=some r/\Jr m N t k r:=by
 have hw:=h.pos;have pO : ∀i,i<m-> ∀j,j<=N->du l6 (t.T i j*w):=fun i aa j aq=>(h.iq i aa j aq).mono (wo (by have:=sZ;generalize eL=q at *;omega));have HN : ∀i,i<m-> ∀j,j<=N-> ∀fs,fs<m-> ∀js,js<=N->du l6 (t.T i j*w*(t.T fs js*w)):=fun i aa j aq fs lj js u4=>((h.iq i aa j aq).mul (h.iq fs lj js u4)).mono (by refine Nat.le_trans ?_ (Nat.le_trans (Nat.le_add_right _ _) Gp);exact Nat.mul_le_mul (by generalize eL=q;omega) (by generalize eL=q;omega));unfold Ed
 obtain⟨r,e,ai⟩:=qv (f:=fun q:Int×Int=>AM (aQ m (iF N w t)) km.cK km.cd (cW m t) (N:Int) free (k:Int) ((m:Nat):Int) q.1 q.2)
  (fun (i:Nat) (s:Int)=>(s,(i:Int))) m
  (fun n s=>(s = -1/\ ∀i,i<n-> ¬0<t.T i k)\/ ∃b:Nat,s=b/\b<n/\0<t.T b k/\ ∀i,i<n->0<t.T i k->t.T b N / t.T b k<t.T i N / t.T i k\/(t.T b N / t.T b k=t.T i N / t.T i k/\t.B b<=t.B i))
  (fun r=>Jr m N t k r)
  (fun n aS s cQ=>by
    left;unfold AM;have g1:0<=((n:Nat):Int)/\((n:Nat):Int)<((aQ m (iF N w t)).length:Nat):=(by rw[cZ];omega);have g2:(aQ m (iF N w t))[((n:Nat):Int).toNat]? = some (iF N w t n):=(by rw[dy];exact fX aS);have g3 : ∀b,0<=((k:Nat):Int)/\((k:Nat):Int)<((iF N w t b).length:Nat):=fun b=>(by unfold iF;rw[cZ];omega);have g4 : ∀b,(iF N w t b)[((k:Nat):Int).toNat]? = some (b7 (t.T b k*w)):=fun b=>(by rw[dy];exact fX (by omega));have g5 : ∀b,0<=((N:Nat):Int)/\((N:Nat):Int)<((iF N w t b).length:Nat):=fun b=>(by unfold iF;rw[cZ];omega);have g6 : ∀b,(iF N w t b)[((N:Nat):Int).toNat]? = some (b7 (t.T b N*w)):=fun b=>(by rw[dy];exact fX (by omega));have jf:R ((n:Int)+1)=((n+1:Nat):Int):=fg (by omega);have sl:q6 (b7 (t.T n k*w))=some (jI (t.T n k)):=(by rw[xe (pO n aS k aX),CV hw]);by_cases af:0<t.T n k
    ·have bG : ¬jI (t.T n k)<=0:=by have:=sT.2 af;omega
     rcases cQ with ⟨h1,h2⟩|⟨b,h1,aW,kU,J⟩
     ·refine⟨(n:Int),eG (cB g1 (aH g2 (cB (g3 n) (aH (g4 n) (aH sl (lC bG (eG ?_))))))),.inr ⟨n,rfl,by omega,af,fun i aa jy=> ?_⟩⟩
      ·simp only;rw[jf]
      by_cases c:i=n
      ·subst c;exact .inr ⟨rfl,dE _⟩
      exact(h2 i (by omega) jy).elim
     subst h1;have KE:0<=((b:Nat):Int)/\((b:Nat):Int)<((aQ m (iF N w t)).length:Nat):=(by rw[cZ];omega);have KF:(aQ m (iF N w t))[((b:Nat):Int).toNat]? = some (iF N w t b):=by rw[dy];exact fX (by omega)
     have gc:uy (b7 (t.T n N*w*(t.T b k*w))) (b7 (t.T b N*w*(t.T n k*w)))=some (if t.T n N / t.T n k<t.T b N / t.T b k then -1 else if t.T b N / t.T b k<t.T n N / t.T n k then 1 else 0):=by
      rw[afp (HN n aS N (by omega) b (by omega) k aX) (HN b (by omega) N (by omega) n aS k aX)];have r1:=VM (x:=t.T n N) (y:=t.T n k) (z:=t.T b N) (v:=t.T b k) hw af kU;have r2:=VM (x:=t.T b N) (y:=t.T b k) (z:=t.T n N) (v:=t.T n k) hw kU af;by_cases bh:t.T n N / t.T n k<t.T b N / t.T b k
      ·rw[dw bh,dw (r1.2 bh)]
      rw[dA bh,dA (fun c=>bh (r1.1 c))];by_cases cp:t.T b N / t.T b k<t.T n N / t.T n k
      ·rw[dw cp,dw (r2.2 cp)]
      rw[dA cp,dA (fun c=>cp (r2.1 c))]
     have lead : ∀ {x r:Option ((Int×Int)⊕Int)} {f:Int->Option ((Int×Int)⊕Int)} {q:Int},uy (b7 (t.T n N*w*(t.T b k*w))) (b7 (t.T b N*w*(t.T n k*w)))=some q->f q=r ->
      (if 0<=((N:Nat):Int)/\((N:Nat):Int)<((iF N w t n).length:Nat) then
        (iF N w t n)[((N:Nat):Int).toNat]? >>= fun ml =>
        if 0<=((b:Nat):Int)/\((b:Nat):Int)<((aQ m (iF N w t)).length:Nat) then
        (aQ m (iF N w t))[((b:Nat):Int).toNat]? >>= fun oh =>
        if 0<=((k:Nat):Int)/\((k:Nat):Int)<(oh.length:Nat) then
        oh[((k:Nat):Int).toNat]? >>= fun uo =>
        qs ml uo >>= fun nb =>
        if 0<=((N:Nat):Int)/\((N:Nat):Int)<(oh.length:Nat) then
        oh[((N:Nat):Int).toNat]? >>= fun wF =>
        qs wF (b7 (t.T n k*w)) >>= fun pJ =>
        uy nb pJ >>= f
        else none else none else none else none)=r:=fun a0 cq =>
      cB (g5 n) (aH (g6 n) (cB KE (aH KF (cB (g3 b) (aH (g4 b) (aH (CL (pO n aS N (by omega)) (pO b (by omega) k aX)) (cB (g5 b) (aH (g6 b) (aH (CL (pO b (by omega) N (by omega)) (pO n aS k aX)) (aH a0 cq))))))))))
     by_cases bh:t.T n N / t.T n k<t.T b N / t.T b k
     ·rw[dw bh] at gc
      refine⟨(n:Int),eG (cB g1 (aH g2 (cB (g3 n) (aH (g4 n) (aH sl (lC bG (fj (lead (x:=none) gc (eG ?_))))))))),.inr ⟨n,rfl,by omega,af,fun i aa jy=> ?_⟩⟩
      ·simp only;rw[jf]
      by_cases c:i=n
      ·subst c;exact .inr ⟨rfl,dE _⟩
      rcases J i (by omega) jy with h|⟨h,-⟩
      ·left;grind
      left;rw[<- h];exact bh
     rw[dA bh] at gc;by_cases cp:t.T b N / t.T b k<t.T n N / t.T n k
     ·rw[dw cp] at gc
      refine⟨(b:Int),eG (cB g1 (aH g2 (cB (g3 n) (aH (g4 n) (aH sl (lC bG (fj (lead (x:=none) gc (fj (ie (by decide) ?_)))))))))),.inr ⟨b,rfl,by omega,kU,fun i aa jy=> ?_⟩⟩
      ·simp only;rw[jf]
      by_cases c:i=n
      ·subst c;exact .inl cp
      exact J i (by omega) jy
     rw[dA cp] at gc;have Pt:t.T b N / t.T b k=t.T n N / t.T n k:=(by grind);have YS:0<=((n:Nat):Int)/\((n:Nat):Int)<((cW m t).length:Nat):=(by unfold cW;rw[cZ];omega);have YT:(cW m t)[((n:Nat):Int).toNat]? = some ((t.B n:Nat):Int):=(by rw[dy];exact fX aS);have YU:0<=((b:Nat):Int)/\((b:Nat):Int)<((cW m t).length:Nat):=(by unfold cW;rw[cZ];omega);have YV:(cW m t)[((b:Nat):Int).toNat]? = some ((t.B b:Nat):Int):=(by rw[dy];exact fX (by omega));by_cases kc:t.B n<t.B b
     ·refine⟨(n:Int),eG (cB g1 (aH g2 (cB (g3 n) (aH (g4 n) (aH sl (lC bG (fj (lead (x:=none) gc (fj (gb rfl (cB YS (aH YT (cB YU (aH YV (eG ?_))))))))))))))),.inr ⟨n,rfl,by omega,af,fun i aa jy=> ?_⟩⟩
      ·simp only;rw[jf]
      by_cases c:i=n
      ·subst c;exact .inr ⟨rfl,dE _⟩
      rcases J i (by omega) jy with h|⟨h,c5⟩
      ·left;grind
      right;exact⟨by grind,by omega⟩
     refine⟨(b:Int),eG (cB g1 (aH g2 (cB (g3 n) (aH (g4 n) (aH sl (lC bG (fj (lead (x:=none) gc (fj (gb rfl (cB YS (aH YT (cB YU (aH YV (fj ?_))))))))))))))),.inr ⟨b,rfl,by omega,kU,fun i aa jy=> ?_⟩⟩
     ·simp only;rw[jf]
     by_cases c:i=n
     ·subst c;exact .inr ⟨Pt,by omega⟩
     exact J i (by omega) jy
    have bG:jI (t.T n k)<=0:=(by have : ¬0<jI (t.T n k):=fun c=>af (sT.1 c);omega);refine⟨s,eG (cB g1 (aH g2 (cB (g3 n) (aH (g4 n) (aH sl (l5 bG ?_)))))),?_⟩
    ·simp only;rw[jf]
    rcases cQ with ⟨h1,h2⟩|⟨b,h1,aW,kU,J⟩
    ·exact .inl ⟨h1,fun i aa=>if c:i=n then c▸af else h2 i (by omega)⟩
    exact .inr ⟨b,h1,by omega,kU,fun i aa jy=>if c:i=n then (af (c▸jy)).elim else J i (by omega) jy⟩)
  (fun s cQ=>by
    refine⟨s,by unfold AM;exact fj rfl,?_⟩;rcases cQ with ⟨h1,h2⟩|⟨b,h1,aW,kU,J⟩
    ·exact .inl ⟨h1,h2⟩
    refine .inr ⟨b,h1,aW,kU,fun i aa jy=> ?_,fun i aa jy he=> ?_⟩
    ·rw[<- (I9 kU jy).1]
     rcases J i aa jy with h|⟨h,-⟩
     ·exact Rat.le_of_lt h
     rw[h];exact Rat.le_refl
    rw[<- (I9 kU jy).2] at he;rcases J i aa jy with h|⟨-,h⟩
    ·rw[he] at h;grind
    exact h) (-1:Int) (.inl ⟨rfl,fun i aa=>by omega⟩)
 refine⟨r,aH ?_ rfl,ai⟩;unfold QJ;rw[fc,cZ];exact e
def h7 (m N:Nat)(h:Nat->Nat):aoz:=aQ m fun i=>some (h i,N+1)
structure mv (m N M:Nat) (h:Nat->Nat) (w:Rat) (t:bV) (e4:aoy):Prop where
 len:e4.length=M
 row : ∀i,i<m->e4[h i]? = some (iF N w t i)
theorem Iu {α:Type}{l:List α}{i:Nat}{x y:α}(h:l[i]? = some x):(l.set i y)[i]? = some y:=by rw[aog,dw rfl,dw (aod.1 h).1]
theorem ME {α:Type}{l:List α}{i k:Nat}{y:α}(h:i≠k):(l.set i y)[k]? = l[k]? := by rw[aog,dA h]
theorem set_set {α:Type}(l:List α)(i:Nat)(x y:α):(l.set i x).set i y=l.set i y:=by rw[List.set_set]
structure wq (m N:Nat) (w:Rat) (t:bV) (r k:Nat):Prop where
 ai:r<m
 aX:k<N
 af:t.T r k≠0
 DQ : ∀i,i<m-> ∀j,j<=N->du eL ((t.cn r k).T i j*(t.T r k*w))
theorem ahj {m N:Nat}(gJ:N<1000){h:Nat->Nat}{w:Rat}{t:bV}{r k:Nat}(f:p8 m N w t)(g:wq m N w t r k){i:Nat}(aa:i<m)(DP:i≠r)(dd:h i≠h r){e4:aoy}(h1:e4[h i]? = some (iF N w t i))(h2:e4[h r]? = some (iF N w t r))
 (x1 x2:Int) (aw:Int) (q1:aoz) (q2:ar) (bN:aoB) (v1 v2:Int) :
 K4 v1 v2 (some (h r,N+1)) (some (h i,N+1)) x1 x2 (((N+1:Nat):Nat):Int) (b7 w).cK (b7 w).cd aw q1 q2 bN (b7 (t.T r k*w)).cK (b7 (t.T r k*w)).cd (b7 (t.T i k*w)).cK (b7 (t.T i k*w)).cd 0 e4=some (e4.set (h i) (iF N (t.T r k*w) (t.cn r k) i)):=by
 have hw:=f.pos;have pO : ∀i,i<m-> ∀j,j<=N->du l6 (t.T i j*w):=fun i aa j aq=>(f.iq i aa j aq).mono (wo (by have:=sZ;generalize eL=q at *;omega));have alV:du l6 w:=f.hw.mono (wo (dE _));have alW : ∀i,i<m-> ∀j,j<=N->du l6 ((t.cn r k).T i j*(t.T r k*w)):=fun i aa j aq=>(g.DQ i aa j aq).mono (wo (by have:=sZ;generalize eL=q at *;omega));have HN : ∀i,i<m-> ∀j,j<=N-> ∀fs,fs<m-> ∀js,js<=N->du l6 (t.T i j*w*(t.T fs js*w)):=fun i aa j aq fs lj js u4=>((f.iq i aa j aq).mul (f.iq fs lj js u4)).mono (by refine Nat.le_trans ?_ (Nat.le_trans (Nat.le_add_right _ _) Gp);exact Nat.mul_le_mul (by generalize eL=q;omega) (by generalize eL=q;omega));have alg : ∀j,j<=N->du l6 ((t.cn r k).T i j*(t.T r k*w)*w):=fun j aq=>((g.DQ i aa j aq).mul f.hw).mono (by refine Nat.le_trans ?_ (Nat.le_trans (Nat.le_add_right _ _) Gp);exact Nat.mul_le_mul (by generalize eL=q;omega) (dE _));have ai:=g.ai;have aX:=g.aX;have af:=g.af;have sB : ∀j,(t.cn r k).T i j=t.T i j-t.T i k*(t.T r j / t.T r k):=fun j=>by simp[bV.cn,DP]
 have OD:w≠0:=by grind
 unfold K4
 obtain⟨s,e,-⟩:=h4 (f:=fun q:Int×aoy=>AN v1 v2 (some (h r,N+1)) (some (h i,N+1)) x1 x2 (((N+1:Nat):Nat):Int) (b7 w).cK (b7 w).cd aw q1 q2 bN (b7 (t.T r k*w)).cK (b7 (t.T r k*w)).cd (b7 (t.T i k*w)).cK (b7 (t.T i k*w)).cd q.1 q.2)
  (fun (c:Nat) (_:Unit)=>((c:Int),e4.set (h i) (aQ (N+1) fun j=>if j<c then b7 ((t.cn r k).T i j*(t.T r k*w)) else b7 (t.T i j*w)))) (N+1) (fun _ _=>True)
  (fun _=>e4.set (h i) (iF N (t.T r k*w) (t.cn r k) i))
  (fun c aZ _ _=>by
    refine⟨(),?_,trivial⟩
    have fin:(some (Sum.inl (R ((c:Int)+1),(e4.set (h i) (aQ (N+1) fun j=>if j<c then b7 ((t.cn r k).T i j*(t.T r k*w)) else b7 (t.T i j*w))).set (h i) ((aQ (N+1) fun j=>if j<c then b7 ((t.cn r k).T i j*(t.T r k*w)) else b7 (t.T i j*w)).set (0+((c:Int)).toNat) (b7 ((t.cn r k).T i c*(t.T r k*w)))))):Option ((Int×aoy)⊕aoy)) =
     some (Sum.inl (((c+1:Nat):Int),e4.set (h i) (aQ (N+1) fun j=>if j<c+1 then b7 ((t.cn r k).T i j*(t.T r k*w)) else b7 (t.T i j*w)))):=by
     rw[fg (by omega),dy,dG,set_set,kZ];congr 4;refine eM fun j _=> ?_;by_cases bh:j=c
     ·subst bh;rw[dw rfl,dw (by omega)]
     rw[dA bh];by_cases cp:j<c
     ·rw[dw cp,dw (by omega)]
     rw[dA cp,dA (by omega)]
    have iX:wY (b7 ((t.cn r k).T i c*(t.T r k*w)*w)) (b7 w)=some (b7 ((t.cn r k).T i c*(t.T r k*w))):=afq (alW i aa c (by omega)) alV (alg c (by omega)) OD;unfold AN;refine eG (aH (x:=(h i,N+1)) rfl (aH (x:=aQ (N+1) fun j=>if j<c then b7 ((t.cn r k).T i j*(t.T r k*w)) else b7 (t.T i j*w)) (by simp only;exact Iu h1) (c4 (aH (x:=b7 (t.T i c*w)) (by simp only;rw[dy,hl aZ,dA (by omega)]) ?_))));refine aH (CL (pO i aa c (by omega)) (pO r ai k (by omega))) (aH (xe (pO i aa k (by omega))) (qo (fun d=> ?_) (fun d=> ?_)))
    ·refine aH (x:=(h r,N+1)) rfl (aH (x:=iF N w t r) (by simp only;rw[ME dd];exact h2) (c4 (aH (x:=b7 (t.T r c*w)) (by simp only;rw[dy];exact hl aZ) (aH (xe (pO r ai c (by omega))) (qo (fun d2=> ?_) (fun d2=> ?_))))))
     ·refine aH (CL (pO i aa k (by omega)) (pO r ai c (by omega))) (aH (VK (HN i aa c (by omega) r ai k (by omega)) (HN i aa k (by omega) r ai c (by omega))) (aH ?_ fin));rw[show t.T i c*w*(t.T r k*w)-t.T i k*w*(t.T r c*w)=(t.cn r k).T i c*(t.T r k*w)*w by rw[sB];grind];exact iX
     have cA:t.T r c=0:=(by have:=pj.1 (by simpa using d2);grind);refine aH ?_ fin;rw[show t.T i c*w*(t.T r k*w)=(t.cn r k).T i c*(t.T r k*w)*w by rw[sB,cA];grind];exact iX
    have cA:t.T i k=0:=(by have:=pj.1 (by simpa using d);grind);refine aH ?_ fin;rw[show t.T i c*w*(t.T r k*w)=(t.cn r k).T i c*(t.T r k*w)*w by rw[sB,cA];grind];exact iX)
  (fun _ _=>by unfold AN;refine fj ?_;simp only;congr 3;exact eM fun j aq=>by rw[dw aq]) () trivial
 have e0:e4.set (h i) (aQ (N+1) fun j=>if j<0 then b7 ((t.cn r k).T i j*(t.T r k*w)) else b7 (t.T i j*w))=e4:=by
  have:(aQ (N+1) fun j=>if j<0 then b7 ((t.cn r k).T i j*(t.T r k*w)) else b7 (t.T i j*w))=iF N w t i:=eM fun j _=>(by rw[dA (by omega)]);rw[this];apply aol;intro c;rw[aog];split
  ·rename_i e;subst e;rw[dw (aod.1 h1).1,h1]
  rfl
 rw[e0] at e;exact e
theorem ahk {m N:Nat}(gJ:N<1000){h:Nat->Nat}{w:Rat}{t:bV}(iq:∀i,i<m-> ∀j,j<=N->du eL (t.T i j*w)){i:Nat}(aa:i<m){e4:aoy}(h1:e4[h i]? = some (iF N w t i))
 (x1 x2:Int) (i9:Bool) (j1:ar) (aw:Int) (q1:aoz) (q2:ar) (bN:aoB) :
 K6 (some (h i,N+1)) x1 x2 (((N+1:Nat):Nat):Int) i9 j1 aw q1 q2 bN 0 e4=some (e4.set (h i) (iF N (-w) t i)):=by
 have pO : ∀j,j<=N->du l6 (t.T i j*w):=fun j aq=>(iq i aa j aq).mono (wo (by have:=sZ;generalize eL=q at *;omega));unfold K6
 obtain⟨s,e,-⟩:=h4 (f:=fun q:Int×aoy=>AP (some (h i,N+1)) x1 x2 (((N+1:Nat):Nat):Int) i9 j1 aw q1 q2 bN q.1 q.2)
  (fun (c:Nat) (_:Unit)=>((c:Int),e4.set (h i) (aQ (N+1) fun j=>if j<c then b7 (t.T i j * -w) else b7 (t.T i j*w)))) (N+1) (fun _ _=>True)
  (fun _=>e4.set (h i) (iF N (-w) t i))
  (fun c aZ _ _=>by
    refine⟨(),?_,trivial⟩;unfold AP;refine eG (aH (x:=(h i,N+1)) rfl (aH (x:=aQ (N+1) fun j=>if j<c then b7 (t.T i j * -w) else b7 (t.T i j*w)) (by simp only;exact Iu h1) (c4 (aH (x:=b7 (t.T i c*w)) (by simp only;rw[dy,hl aZ,dA (by omega)]) (aH (T8 (pO c (by omega))) ?_)))));simp only;rw[fg (by omega),dy,dG,set_set,kZ];congr 4;refine eM fun j _=> ?_;by_cases bh:j=c
    ·subst bh;rw[dw rfl,dw (by omega)];congr 1;grind
    rw[dA bh];by_cases cp:j<c
    ·rw[dw cp,dw (by omega)]
    rw[dA cp,dA (by omega)])
  (fun _ _=>by unfold AP;refine fj ?_;simp only;congr 3;exact eM fun j aq=>by rw[dw aq]) () trivial
 have e0:e4.set (h i) (aQ (N+1) fun j=>if j<0 then b7 (t.T i j * -w) else b7 (t.T i j*w))=e4:=by
  have:(aQ (N+1) fun j=>if j<0 then b7 (t.T i j * -w) else b7 (t.T i j*w))=iF N w t i:=eM fun j _=>(by rw[dA (by omega)]);rw[this];apply aol;intro c;rw[aog];split
  ·rename_i e;subst e;rw[dw (aod.1 h1).1,h1]
  rfl
 rw[e0] at e;exact e
def qL (w:Rat)(t:bV)(r k:Nat):Rat:=if 0<t.T r k then t.T r k*w else -(t.T r k*w)
theorem Wl {m N M:Nat}(hm:m<=20)(gJ:N<1000){h:Nat->Nat}(inj:∀i,i<m-> ∀k,k<m->h i=h k->i=k){w:Rat}{t:bV}{r k:Nat}(f:p8 m N w t)(g:wq m N w t r k){e4:aoy}(gq:mv m N M h w t e4)(gV:Int)(free:aoB):
 ∃kQ,BA r k (b7 w).cK (b7 w).cd gV (h7 m N h) e4 (cW m t) free=some ((b7 (qL w t r k)).cK,(b7 (qL w t r k)).cd,kQ,cW m (t.cn r k))/\mv m N M h (qL w t r k) (t.cn r k) kQ:=by
 have ai:=g.ai;have aX:=g.aX;have af:=g.af;have hw:=f.pos;have pO : ∀i,i<m-> ∀j,j<=N->du l6 (t.T i j*w):=fun i aa j aq=>(f.iq i aa j aq).mono (wo (by have:=sZ;generalize eL=q at *;omega));have uv:iF N (t.T r k*w) (t.cn r k) r=iF N w t r:=eM fun j _=>by simp only[bV.cn,if_true];congr 1;grind
 have DX:(h7 m N h).length=m:=cZ ..;unfold BA
 obtain⟨p1,e1,k4,r1⟩:=h4 (f:=fun q:Int×aoy=>AO (r:Int) (k:Int) (some (h r,N+1)) ((m:Nat):Int) (b7 w).cK (b7 w).cd gV (h7 m N h) (cW m t) free (b7 (t.T r k*w)).cK (b7 (t.T r k*w)).cd q.1 q.2)
  (fun (i:Nat) (p:aoy)=>((i:Int),p)) m (fun n p=>p.length=M/\ ∀i,i<m->p[h i]? = some (if i=r\/i<n then iF N (t.T r k*w) (t.cn r k) i else iF N w t i)) (fun p=>p)
  (fun n aS p cQ=>by
    obtain⟨aT,cQ⟩:=cQ;unfold AO;by_cases c:n=r
    ·subst c
     refine⟨p,eG (cB (by rw[DX];simp only;omega) (aH (x:=some (h n,N+1)) (by simp only;rw[dy];exact hl aS) (gb (by simp) ?_))),aT,fun i aa=> ?_⟩
     ·simp only;rw[fg (by omega)]
     rw[cQ i aa];by_cases bh:i=n\/i<n
     ·rw[dw bh,dw (by omega)]
     rw[dA bh,dA (by omega)]
    have dd:h n≠h r:=fun e=>c (inj n aS r ai e);have h1:p[h n]? = some (iF N w t n):=(by rw[cQ n aS,dA (by omega)]);have h2:p[h r]? = some (iF N w t r):=(by rw[cQ r ai,dw (.inl rfl),uv]);refine⟨p.set (h n) (iF N (t.T r k*w) (t.cn r k) n),eG (cB (by rw[DX];simp only;omega) (aH (x:=some (h n,N+1)) (by simp only;rw[dy];exact hl aS) (ie (by simp;omega) (aH (x:=(h n,N+1)) rfl (aH h1 (c4 (aH (x:=b7 (t.T n k*w)) (by rw[dy];exact hl (by omega)) (aH (ahj gJ f g aS c dd h1 h2 _ _ _ _ _ _ _ _) ?_)))))))),by rw[List.length_set];exact aT,fun i aa=> ?_⟩
    ·simp only;rw[fg (by omega)]
    by_cases bh:i=n
    ·subst bh;rw[Iu h1,dw (.inr (by omega))]
    rw[ME (fun e=>bh (inj i aa n aS e.symm)),cQ i aa];by_cases cp:i=r\/i<n
    ·rw[dw cp,dw (by omega)]
    rw[dA cp,dA (by omega)])
  (fun p _=>by unfold AO;exact fj rfl) e4 ⟨gq.len,fun i aa=>by
    rw[gq.row i aa];by_cases c:i=r
    ·rw[dw (.inl c),c,uv]
    rw[dA (by omega)]⟩
 have Ad : ∀i,i<m->p1[h i]? = some (iF N (t.T r k*w) (t.cn r k) i):=fun i aa=>by rw[r1 i aa,dw (.inr aa)]
 have aj1:(cW m t).set (0+((r:Int)).toNat) (k:Int)=cW m (t.cn r k):=by rw[dy,dG];unfold cW;rw[kZ];exact eM fun i _=>by simp only[bV.cn];split<;>rfl
 have lead :
  (if 0<=(r:Int)/\(r:Int)<((h7 m N h).length:Nat) then
    (h7 m N h)[(0+((r:Int)).toNat)]? >>= fun x2 =>
    x2 >>= fun jC =>
    e4[jC.1]? >>= fun oO =>
    if 0<=(k:Int)/\(k:Int)<(jC.2:Nat) then
    oO[(0+((k:Int)).toNat)]? >>= fun e9 =>
    K5 (r:Int) (k:Int) x2 (((h7 m N h).length:Nat):Int) (b7 w).cK (b7 w).cd gV (h7 m N h) (cW m t) free e9.cK e9.cd 0 e4 >>= fun b3 =>
    if 0<=(r:Int)/\(r:Int)<((cW m t).length:Nat) then
    if (0+((r:Int)).toNat)<(cW m t).length then
    q6 e9 >>= fun ej =>
    if (decide ((0:Int)<ej))=true then
     some (e9.cK,e9.cd,b3,(cW m t).set (0+((r:Int)).toNat) (k:Int))
    else
     rO e9 >>= fun fw =>
     H2 (((h7 m N h).length:Nat):Int) fw.cK fw.cd gV (h7 m N h) ((cW m t).set (0+((r:Int)).toNat) (k:Int)) free 0 b3 >>= fun kI =>
     some (fw.cK,fw.cd,kI,(cW m t).set (0+((r:Int)).toNat) (k:Int))
    else none else none else none else none)=(if (decide ((0:Int)<jI (t.T r k)))=true then
     some ((b7 (t.T r k*w)).cK,(b7 (t.T r k*w)).cd,p1,cW m (t.cn r k))
    else
     rO (b7 (t.T r k*w)) >>= fun fw =>
     H2 ((m:Nat):Int) fw.cK fw.cd gV (h7 m N h) (cW m (t.cn r k)) free 0 p1 >>= fun kI =>
     some (fw.cK,fw.cd,kI,cW m (t.cn r k))):=by
  refine cB (by rw[DX];omega) (aH (x:=some (h r,N+1)) (by rw[dy];exact hl ai) (aH (x:=(h r,N+1)) rfl (aH (gq.row r ai) (c4 (aH (x:=b7 (t.T r k*w)) (by rw[dy];exact hl (by omega)) (aH (x:=p1) (by unfold K5;rw[DX];exact e1) (cB (by unfold cW;rw[cZ];omega) (cB (by unfold cW;rw[cZ,dy];omega) (aH (xe (pO r ai k (by omega))) ?_)))))))));rw[CV hw,aj1,DX]
 by_cases kr:0<t.T r k
 ·have x4:qL w t r k=t.T r k*w:=dw kr;refine⟨p1,lead.trans ?_,k4,fun i aa=>by rw[x4];exact Ad i aa⟩;rw[x4];exact l5 (sT.2 kr) rfl
 have x4:qL w t r k = -(t.T r k*w):=dA kr
 obtain⟨p2,e2,ln,r2⟩:=h4 (f:=fun q:Int×aoy=>AQ ((m:Nat):Int) (b7 (-(t.T r k*w))).cK (b7 (-(t.T r k*w))).cd gV (h7 m N h) (cW m (t.cn r k)) free q.1 q.2)
  (fun (i:Nat) (p:aoy)=>((i:Int),p)) m (fun n p=>p.length=M/\ ∀i,i<m->p[h i]? = some (if i<n then iF N (-(t.T r k*w)) (t.cn r k) i else iF N (t.T r k*w) (t.cn r k) i)) (fun p=>p)
  (fun n aS p cQ=>by
    obtain⟨aT,cQ⟩:=cQ;have h1:p[h n]? = some (iF N (t.T r k*w) (t.cn r k) n):=(by rw[cQ n aS,dA (by omega)]);unfold AQ;refine⟨p.set (h n) (iF N (-(t.T r k*w)) (t.cn r k) n),eG (cB (by rw[DX];simp only;omega) (aH (x:=some (h n,N+1)) (by simp only;rw[dy];exact hl aS) (aH (x:=(h n,N+1)) rfl (aH h1 (aH (ahk gJ g.DQ aS h1 _ _ _ _ _ _ _ _) ?_))))),by rw[List.length_set];exact aT,fun i aa=> ?_⟩
    ·simp only;rw[fg (by omega)]
    by_cases bh:i=n
    ·subst bh;rw[Iu h1,dw (by omega)]
    rw[ME (fun e=>bh (inj i aa n aS e.symm)),cQ i aa];by_cases cp:i<n
    ·rw[dw cp,dw (by omega)]
    rw[dA cp,dA (by omega)])
  (fun p _=>by unfold AQ;exact fj rfl) p1 ⟨k4,fun i aa=>by rw[Ad i aa,dA (by omega)]⟩
 refine⟨p2,lead.trans ?_,ln,fun i aa=>by rw[x4,r2 i aa,dw aa]⟩;rw[x4];exact lC (fun c=>kr (sT.1 c)) (aH (T8 (pO r ai k (by omega))) (aH (x:=p2) (by unfold H2;exact e2) rfl))
theorem TM {m:Nat}(hm:m<=1000)(t:bV)(j:Nat): ∃b,vG (cW m t) (j:Int)=some b/\(b=true↔ ∃i,i<m/\t.B i=j):=by
 unfold vG FP Mx
 obtain⟨r,e,h⟩:=qv (f:=fun w:Int=>vw (cW m t) (j:Int) ((m:Nat):Int) w) (fun (i:Nat) (_:Unit)=>(i:Int)) m (fun i _=> ∀k,k<i->t.B k≠j)
  (fun r=>(∃i:Nat,r = .inr (i:Int)/\i<m/\t.B i=j)\/(r = .inl ()/\ ¬∃i,i<m/\t.B i=j))
  (fun i aa _ cQ=>by
    unfold vw;by_cases c:t.B i=j
    ·right;exact⟨_,eG (cB (by unfold cW;rw[cZ];omega) (aH (x:=((t.B i:Nat):Int)) (by rw[dy];exact fX aa) (gb (by simp[c]) rfl))),.inl ⟨i,rfl,aa,c⟩⟩
    left;refine⟨(),eG (cB (by unfold cW;rw[cZ];omega) (aH (x:=((t.B i:Nat):Int)) (by rw[dy];exact fX aa) (ie (by simp;omega) (by rw[fg (by omega)])))),fun k aX=> ?_⟩;by_cases e:k=i
    ·rw[e];exact c
    exact cQ k (by omega))
  (fun _ cQ=>⟨_,by unfold vw;exact fj rfl,.inr ⟨rfl,fun ⟨i,aa,e⟩=>cQ i aa e⟩⟩) () (fun k aX=>by omega)
 rw[gy,show (cW m t).length=m from cZ ..];rcases h with ⟨i,rfl,h1,h2⟩|⟨rfl,h⟩
 ·exact⟨true,aH (x:=(i:Int)) (aH e rfl) (by simp),by simp only[true_iff];exact⟨i,h1,h2⟩⟩
 exact⟨false,aH (x:=(-1:Int)) (aH e rfl) rfl,by simp[h]⟩
theorem FQ {m N M:Nat}{h:Nat->Nat}{w:Rat}{t:bV}{e4:aoy}(gq:mv m N M h w t e4):(h7 m N h).all (uh e4)=true:=by
 rw[List.all_eq_true];intro x U;obtain⟨i,aa,rfl⟩:=Nq.1 U;simp only[uh];have h1:=gq.row i aa;have h2:e4.getD (h i) []=iF N w t i:=by rw[aoc,h1];rfl
 rw[h2,show (iF N w t i).length=N+1 from cZ ..];simp[(aod.1 h1).1]
theorem y9 {m N M:Nat}{h:Nat->Nat}{w:Rat}{t:bV}{e4:aoy}(gq:mv m N M h w t e4):(h7 m N h).map (jW e4)=aQ m (iF N w t):=by unfold h7;rw[Wa];exact eM fun i aa=>by have h2:e4.getD (h i) []=iF N w t i:=(by rw[aoc,gq.row i aa];rfl);simp only[jW];rw[h2];exact dP (Nat.le_of_eq (cZ ..))
theorem YW {m:Nat}{o:Nat->Rat}{t:bV}{j:Nat}:t.q5 m 1 (fun _=>o) j↔0<t.cr m o j:=J6 (g:=fun _=>t.cr m o j)
theorem afs {e6 m N M:Nat}{A:Nat->Nat->Rat}(hm:m<=20)(gJ:N<1000){h:Nat->Nat}(inj:∀i,i<m-> ∀k,k<m->h i=h k->i=k){w:Rat}{t:bV}(ok:g9 e6 m N A t)(f:p8 m N w t)(o:Nat->Int)(an:∀j,j<N-> -100<=o j/\o j<=100)(di:Nat->Bool)
 (alX : ∀r s,o0 m N 1 (fun _ j=>(o j:Rat)) (fun j=>di j=true) t r s->wq m N w t r s) {e4:aoy} (gq:mv m N M h w t e4) :
 ∃x,D3 (N:Int) (b7 w).cK (b7 w).cd (h7 m N h) e4 (cW m t) (aQ N di) (aQ N o) 0=some x /\
  ((x = .inl (false,(b7 w).cK,(b7 w).cd,e4,cW m t)/\ ∀j,j<N->di j=true-> ¬0<t.cr m (fun j=>(o j:Rat)) j) \/
   (∃r s kQ,x = .inl (true,(b7 (qL w t r s)).cK,(b7 (qL w t r s)).cd,kQ,cW m (t.cn r s))/\o0 m N 1 (fun _ j=>(o j:Rat)) (fun j=>di j=true) t r s/\mv m N M h (qL w t r s) (t.cn r s) kQ) \/
   (x = .inr ()/\ ∃s,s<N/\di s=true/\0<t.cr m (fun j=>(o j:Rat)) s/\ ∀i,i<m-> ¬0<t.T i s)):=by
 unfold D3
 refine qv (f:=fun q:Int=>AH (N:Int) (b7 w).cK (b7 w).cd (h7 m N h) e4 (cW m t) (aQ N di) (aQ N o) q) (fun (i:Nat) (_:Unit)=>(i:Int)) N
  (fun n _=> ∀j,j<n->di j=true-> ¬0<t.cr m (fun j=>(o j:Rat)) j) _ (fun n aS _ cQ=> ?_) (fun _ cQ=> ?_) () (fun j aq=>by omega)
 ·have next : ∀(hx:di n=true-> ¬0<t.cr m (fun j=>(o j:Rat)) n),∀j,j<n+1->di j=true-> ¬0<t.cr m (fun j=>(o j:Rat)) j:=fun hx j aq=>by
   by_cases c:j=n
   ·subst c;exact hx
   ·exact cQ j (by omega)
  have g1:0<=((n:Nat):Int)/\((n:Nat):Int)<((aQ N di).length:Nat):=(by rw[cZ];omega);have g2:(aQ N di)[(0+((n:Nat):Int).toNat)]? = some (di n):=(by rw[dy];exact hl aS);have jf:R ((n:Int)+1)=((n+1:Nat):Int):=fg (by omega);unfold AH;by_cases sD:di n=true;rotate_left
  ·left;have KI:di n=false:=(by simpa using sD);exact⟨(),eG (cB g1 (aH g2 (ie KI (by rw[jf])))),next fun c=>(sD c).elim⟩
  obtain⟨b,i9,j1⟩:=TM (m:=m) (by omega) t n
  cases b with
  | true =>
   obtain⟨i,aa,gl⟩:=j1.1 rfl;left;refine⟨(),eG (cB g1 (aH g2 (gb sD (aH i9 (gb rfl (by rw[jf])))))),next fun _=> ?_⟩
   rw[<- gl,ok.yM _ aa];grind
  | false =>
   have dm:=Wk hm gJ f o an ((⟨(b7 w).cK,(b7 w).cd⟩:bz)) rfl (N:Int) (aQ N di) aS;by_cases vn:0<t.cr m (fun j=>(o j:Rat)) n
   ·obtain⟨q,q1,q2⟩:=afr hm gJ f ((⟨(b7 w).cK,(b7 w).cd⟩:bz)) (aQ N di) (k:=n) (by omega)
    have bG : ¬jI (t.cr m (fun j=>(o j:Rat)) n)<=0:=(by have:=sT.2 vn;omega);right;rcases q2 with ⟨rfl,h2⟩|⟨b,rfl,aW,kU,J,ak⟩
    ·exact⟨_,eG (cB g1 (aH g2 (gb sD (aH i9 (ie rfl (cB (FQ gq) (aH (by rw[y9 gq];exact dm) (lC bG (aH (by rw[y9 gq];exact q1) (l5 (by decide) rfl)))))))))),.inr (.inr ⟨rfl,n,aS,sD,vn,h2⟩)⟩
    have c8:o0 m N 1 (fun _ j=>(o j:Rat)) (fun j=>di j=true) t b n:=⟨aS,sD,YW.2 vn,fun j aq cq dm=>cQ j aq cq (YW.1 dm),aW,kU,J,ak⟩;obtain⟨kQ,e1,e2⟩:=Wl hm gJ inj f (alX b n c8) gq (N:Int) (aQ N di);exact⟨_,eG (cB g1 (aH g2 (gb sD (aH i9 (ie rfl (cB (FQ gq) (aH (by rw[y9 gq];exact dm) (lC bG (aH (by rw[y9 gq];exact q1) (fj (aH e1 rfl))))))))))),.inr (.inl ⟨b,n,kQ,rfl,c8,e2⟩)⟩
   left;have bG:jI (t.cr m (fun j=>(o j:Rat)) n)<=0:=(by have : ¬0<jI (t.cr m (fun j=>(o j:Rat)) n):=fun c=>vn (sT.1 c);omega);exact⟨(),eG (cB g1 (aH g2 (gb sD (aH i9 (ie rfl (cB (FQ gq) (aH (by rw[y9 gq];exact dm) (l5 bG (by rw[jf]))))))))),next fun _=>vn⟩
 exact⟨_,by unfold AH;exact fj rfl,.inl ⟨rfl,cQ⟩⟩
def xx (N:Int)(qa:aoz)(free:aoB)(obj:ar)(s:Bool×ar×aoy×ar):Option ((Bool×ar×aoy×ar)⊕((Bool×ar×aoy×ar)⊕(Bool×ar×aoy×ar))) :=
 match D3 N s.1 s.2.1 qa s.2.2.1 s.2.2.2 free obj 0 with
 | none=>none
 | some (.inl (true,b2))=>some (.inl b2)
 | some (.inl (false,b2))=>some (.inr (.inl b2))
 | some (.inr ())=>some (.inr (.inr s))
theorem ahl {N:Int}{qa:aoz}{free:aoB}{obj:ar}: ∀s r,iter (xx N qa free obj) s=some r->KZ N qa free obj true s.1 s.2.1 s.2.2.1 s.2.2.2=some r:=by
 unfold KZ;apply iter.partial_correctness (xx N qa free obj) (fun s r=>iter (fun w:Bool×Bool×ar×aoy×ar=>x7 N qa free obj w.1 w.2.1 w.2.2.1 w.2.2.2.1 w.2.2.2.2) (true,s.1,s.2.1,s.2.2.1,s.2.2.2)=some r);intro it ih s r ai
 cases U:D3 N s.1 s.2.1 qa s.2.2.1 s.2.2.2 free obj 0 with
 | none=>unfold xx at ai;rw[U] at ai;simp at ai
 | some x =>
  have hm:x7 N qa free obj true s.1 s.2.1 s.2.2.1 s.2.2.2=match x with
   | .inl fx=>(some (.inl (fx.1,fx.2.1,fx.2.2.1,fx.2.2.2.1,fx.2.2.2.2)))
   | .inr fx=>(some (.inr (.inr (s.1,s.2.1,s.2.2.1,s.2.2.2)))):=by
   unfold x7;refine gb rfl ?_
   cases x with
   | inl a=>exact aH U rfl
   | inr a=>exact aH U rfl
  unfold xx at ai;rw[U] at ai;rw[iter];simp only;rw[hm]
  match x,ai with
  | .inl (true,b2),ai=>exact ih _ _ ai
  | .inl (false,b2),ai =>
   simp at ai;subst ai;show iter _ (false,b2.1,b2.2.1,b2.2.2.1,b2.2.2.2)=_;rw[iter];simp only;unfold x7;rfl
  | .inr (),ai =>
   simp at ai;subst ai;rfl
theorem ahm {e6 m N M:Nat}{A:Nat->Nat->Rat}(hm:m<=20)(gJ:N<1000){h:Nat->Nat}{w:Rat}{t:bV}(ok:g9 e6 m N A t)(f:p8 m N w t)(o:Nat->Int)(an:∀j,j<N-> -100<=o j/\o j<=100)(di:Nat->Bool){e4:aoy}(gq:mv m N M h w t e4):
 K0 (N:Int) (b7 w).cK (b7 w).cd (h7 m N h) e4 (cW m t) (aQ N o) 0 (aQ N di)=some (aQ N fun j=>di j && !decide (t.cr m (fun j=>(o j:Rat)) j<0)):=by
 unfold K0
 obtain⟨s,e,-⟩:=h4 (f:=fun q:Int×aoB=>AJ (N:Int) (b7 w).cK (b7 w).cd (h7 m N h) e4 (cW m t) (aQ N o) q.1 q.2)
  (fun (i:Nat) (_:Unit)=>((i:Int),aQ N fun j=>if j<i then di j && !decide (t.cr m (fun j=>(o j:Rat)) j<0) else di j)) N (fun _ _=>True) (fun _=>aQ N fun j=>di j && !decide (t.cr m (fun j=>(o j:Rat)) j<0))
  (fun n aS _ _=>by
    refine⟨(),?_,trivial⟩
    have same:di n=(di n && !decide (t.cr m (fun j=>(o j:Rat)) n<0))->(R ((n:Int)+1),aQ N fun j=>if j<n then di j && !decide (t.cr m (fun j=>(o j:Rat)) j<0) else di j)=(((n+1:Nat):Int),aQ N fun j=>if j<n+1 then di j && !decide (t.cr m (fun j=>(o j:Rat)) j<0) else di j):=fun he=>by
     rw[fg (by omega)];congr 1;refine eM fun j _=> ?_;by_cases c:j=n
     ·subst c;rw[dA (by omega),dw (by omega)];exact he
     by_cases cp:j<n
     ·rw[dw cp,dw (by omega)]
     rw[dA cp,dA (by omega)]
    have g1 : ∀F:Nat->Bool,0<=((n:Nat):Int)/\((n:Nat):Int)<((aQ N F).length:Nat):=fun F=>(by rw[cZ];omega);have g2:(aQ N fun j=>if j<n then di j && !decide (t.cr m (fun j=>(o j:Rat)) j<0) else di j)[(0+((n:Nat):Int).toNat)]? = some (di n):=(by rw[dy,hl aS,dA (by omega)]);unfold AJ;by_cases sD:di n=true
    ·obtain⟨b,i9,j1⟩:=TM (m:=m) (by omega) t n
     cases b with
     | true =>
      obtain⟨i,aa,gl⟩:=j1.1 rfl;refine eG (cB (g1 _) (aH g2 (gb sD (aH i9 (gb rfl ?_)))));simp only;rw[same];rw[<- gl,ok.yM _ aa,decide_eq_false (by grind)];simp
     | false =>
      have dm:=Wk hm gJ f o an ((⟨(b7 w).cK,(b7 w).cd⟩:bz)) rfl (N:Int) (aQ N fun j=>if j<n then di j && !decide (t.cr m (fun j=>(o j:Rat)) j<0) else di j) aS
      have bG:jI (t.cr m (fun j=>(o j:Rat)) n)<0↔t.cr m (fun j=>(o j:Rat)) n<0:=by
       unfold jI;by_cases c:t.cr m (fun j=>(o j:Rat)) n=0
       ·rw[dw c,c];constructor
        ·intro h;omega
        intro h;grind
       rw[dA c];by_cases cp:t.cr m (fun j=>(o j:Rat)) n<0
       ·rw[dw cp];simp[cp]
       rw[dA cp];constructor
       ·intro h;omega
       intro h;exact(cp h).elim
      by_cases vn:t.cr m (fun j=>(o j:Rat)) n<0
      ·refine eG (cB (g1 _) (aH g2 (gb sD (aH i9 (ie rfl (cB (FQ gq) (aH (by rw[y9 gq];exact dm) (l5 (bG.2 vn) (c4 ?_)))))))))
       simp only;rw[fg (by omega),dy,dG,kZ];congr 3;refine eM fun j _=> ?_;by_cases c:j=n
       ·subst c;rw[dw rfl,dw (by omega),decide_eq_true vn];simp
       rw[dA c];by_cases cp:j<n
       ·rw[dw cp,dw (by omega)]
       rw[dA cp,dA (by omega)]
      refine eG (cB (g1 _) (aH g2 (gb sD (aH i9 (ie rfl (cB (FQ gq) (aH (by rw[y9 gq];exact dm) (lC (fun c=>vn (bG.1 c)) ?_))))))));simp only;rw[same];rw[decide_eq_false vn];simp
    have KI:di n=false:=(by simpa using sD);refine eG (cB (g1 _) (aH g2 (ie KI ?_)));simp only;rw[same];rw[KI];simp)
  (fun _ _=>by unfold AJ;refine fj ?_;simp only;congr 2;exact eM fun j aq=>by rw[dw aq]) () trivial
 have e0:(aQ N fun j=>if j<0 then di j && !decide (t.cr m (fun j=>(o j:Rat)) j<0) else di j)=aQ N di:=eM fun j _=>by rw[dA (by omega)]
 rw[e0] at e;exact e
theorem T9 {e6 m N M:Nat}{A:Nat->Nat->Rat}(hm:m<=20)(gJ:N<1000){h:Nat->Nat}(inj:∀i,i<m-> ∀k,k<m->h i=h k->i=k)(o:Nat->Int)(an:∀j,j<N-> -100<=o j/\o j<=100)(di:Nat->Bool)
 (Inv:Rat->bV->Prop) (inv : ∀w t,Inv w t->g9 e6 m N A t/\t.mH m N/\p8 m N w t)
 (ik : ∀w t r s,Inv w t->o0 m N 1 (fun _ j=>(o j:Rat)) (fun j=>di j=true) t r s->wq m N w t r s/\Inv (qL w t r s) (t.cn r s)) {w:Rat} {t:bV} (cQ:Inv w t) {e4:aoy} (gq:mv m N M h w t e4) :
 ∃b bQ cw kQ mx,vo (b7 w).cK (b7 w).cd (N:Int) (h7 m N h) e4 (cW m t) (aQ N di) (aQ N o)=some (b,(b7 bQ).cK,(b7 bQ).cd,kQ,cW m cw,aQ N mx)/\Inv bQ cw/\mv m N M h bQ cw kQ /\
  ((b=true/\(∀j,j<N->di j=true-> ¬0<cw.cr m (fun j=>(o j:Rat)) j)/\mx=fun j=>di j && !decide (cw.cr m (fun j=>(o j:Rat)) j<0))\/(b=false/\ ∃s,s<N/\di s=true/\0<cw.cr m (fun j=>(o j:Rat)) s/\ ∀i,i<m-> ¬0<cw.T i s)):=by
 obtain⟨ok,lD,HC⟩:=inv w t cQ
 obtain⟨x,ew,cw,e,-,-,-,bQ,kQ,h1,h2,J⟩:=Uv (e6:=e6) (m:=m) (N:=N) (K:=1) (A:=A) (obj:=fun _ j=>(o j:Rat)) (bO:=fun j=>di j=true)
  (f:=xx (N:Int) (h7 m N h) (aQ N di) (aQ N o))
  (fun s t=> ∃w e4,s=((b7 w).cK,(b7 w).cd,e4,cW m t)/\Inv w t/\mv m N M h w t e4)
  (fun s x t=> ∃w e4,Inv w t/\mv m N M h w t e4/\((x = .inl ((b7 w).cK,(b7 w).cd,e4,cW m t)/\ ∀j,j<N->di j=true-> ¬0<t.cr m (fun j=>(o j:Rat)) j) \/
    (x = .inr ((b7 w).cK,(b7 w).cd,e4,cW m t)/\ ∃s,s<N/\di s=true/\0<t.cr m (fun j=>(o j:Rat)) s/\ ∀i,i<m-> ¬0<t.T i s)))
  (fun s t da ok _=>by
    obtain⟨w,e4,rfl,cQ,gq⟩:=da;obtain⟨x,e,U⟩:=afs hm gJ inj ok (inv w t cQ).2.2 o an di (fun r s b=>(ik w t r s cQ b).1) gq;rcases U with ⟨rfl,U⟩|⟨r,s,kQ,rfl,c8,HA⟩|⟨rfl,U⟩
    ·left;exact⟨_,by unfold xx;simp only;rw[e],w,e4,cQ,gq,.inl ⟨rfl,U⟩⟩
    ·right;exact⟨_,r,s,by unfold xx;simp only;rw[e],c8,qL w t r s,kQ,rfl,(ik w t r s cQ c8).2,HA⟩
    left;exact⟨_,by unfold xx;simp only;rw[e],w,e4,cQ,gq,.inr ⟨rfl,U⟩⟩)
  (a:=((b7 w).cK,(b7 w).cd,e4,cW m t)) (t:=t) ⟨w,e4,rfl,cQ,gq⟩ ok lD
 have e2:=ahl _ _ e;obtain⟨mw,anR,alh⟩:=inv bQ cw h1;rcases J with ⟨rfl,J⟩|⟨rfl,J⟩
 ·refine⟨true,bQ,cw,kQ,_,?_,h1,h2,.inl ⟨rfl,J,rfl⟩⟩;unfold vo;exact aH e2 (aH (ahm hm gJ mw alh o an di h2) rfl)
 refine⟨false,bQ,cw,kQ,di,?_,h1,h2,.inr ⟨rfl,J⟩⟩;unfold vo;exact aH e2 rfl
def iO (m:Nat)(A:Nat->Nat->Rat)(t:bV):Rat:=if 0<t.D m A then t.D m A else -(t.D m A)
theorem aiC {m N:Nat}{A:Nat->Nat->Rat}{t:bV}(h:t.D m A≠0):0<iO m A t:=by unfold iO;split<;>grind
theorem JO {m K:Nat}{A:Nat->Nat->Rat}{t:bV}{x:Rat}(h:du K (x*t.D m A)):du K (x*iO m A t):=by
 unfold iO;split
 ·exact h
 have:=h.neg;rw[show x * -(t.D m A) = -(x*t.D m A) by grind];exact this
theorem mf.ta {m N:Nat}{A:Nat->Nat->Rat}(s:Small m N A){t:bV}(h:mf m N A t):p8 m N (iO m A t) t where
 pos:=aiC (N:=N) h.sC
 hw:=by have h1:du eL (1*t.D m A):=(by rw[Rat.one_mul];exact h.Ag s);have:=JO h1;rw[Rat.one_mul] at this;exact this.mono (by generalize eL=q;omega)
 iq:=fun i aa j aq=>JO (h.vg s aa aq)
 gl:=h.ok.jG
theorem mf.zM {m N:Nat}{A:Nat->Nat->Rat}(s:Small m N A){t:bV}(h:mf m N A t){r k:Nat}(ai:r<m)(aX:k<N)(af:t.T r k≠0):wq m N (iO m A t) t r k where
 ai:=ai
 aX:=aX
 af:=af
 DQ:=fun i aa j aq=>by
  have mw:=h.ok.cn ai aX af
  have h1:du eL ((t.cn r k).T i j*(t.cn r k).D m A):=by
   rw[<- mw.xX aa aq];refine du.mono (xf fun eD oC c aZ=> ?_) (Dd▸yX (by omega) s.hm);simp only[hv];split
   ·exact s.pN c aZ j aq
   exact s.pN c aZ _ (Nat.le_of_lt (mw.jG eD oC))
  rw[h.ok.zt ai aX] at h1;unfold iO;split
  ·exact h1
  have:=h1.neg;rw[show (t.cn r k).T i j*(t.T r k * -(t.D m A)) = -((t.cn r k).T i j*(t.T r k*t.D m A)) by grind];exact this
end Go.Proofs.YtopadgleejacdadGreat
